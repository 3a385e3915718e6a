/-
  Part 32 of the proof that the statement FnExactLowerBounds holds.
-/
import Derived.Test.YtfolipnappekaaaGreatCLowerBounds30
namespace Go.Proofs.YtfolipnappekaaaGreat
open Go.RowKit
def Mt:AC->AC
 | .own l _ _=> .own l 0 0
 |c=>c
theorem l8: ∀(c d:AC) {R:Type} (r:R) (v:acV c R),jM c d r=some v->Mt (fY c v).1=Mt d/\(fY c v).2=r:=by
 intro c d R r v h
 cases c<;>cases d<;>simp only [jM] at h<;>first|(cases h;first|done|exact ⟨rfl,rfl⟩)|skip
 all_goals
  split at h
  ·rename_i hc
   first
    |(obtain ⟨h1,h2⟩:=hc;subst h1;subst h2;injection h with h;subst h;exact ⟨rfl,rfl⟩)
    |(subst hc;injection h with h;subst h;exact ⟨rfl,rfl⟩)
  ·cases h
theorem aw: ∀(l m:List AC) {R:Type} (r:R) (v:zK l R),Mc l m r=some v->(Ud l v).1.map Mt=m.map Mt/\(Ud l v).2=r
 | [],[],R,r,v,h=>by simp only [Mc] at h;injection h with h;subst h;exact ⟨rfl,rfl⟩
 | [],_::_,R,r,v,h=>by simp [Mc] at h
 |_::_,[],R,r,v,h=>by simp [Mc] at h
 |c::l,d::m,R,r,v,h=>by
  simp only [Mc] at h
  cases hr:Mc l m r with
  |none=>rw [hr] at h;cases h
  |some r'=>
   rw [hr] at h
   obtain ⟨h1,h2⟩:=l8 c d r' v h
   obtain ⟨h3,h4⟩:=aw l m r r' hr
   simp only [Ud,List.map_cons]
   rw [h1,h2,h3]
   exact ⟨rfl,h4⟩
theorem wN: ∀(c d:AV) {R:Type} (r:R) (v:avV c R),gh c d r=some v->(nC c v).1.map Mt=d.map Mt/\(nC c v).2=r
 | .at a, .at b,R,r,v,h=>by
  obtain ⟨h1,h2⟩:=l8 a b r v h
  exact ⟨by show AV.at _=AV.at _;rw [h1],h2⟩
 | .agg cs, .agg ds,R,r,v,h=>by
  obtain ⟨h1,h2⟩:=aw cs ds r v h
  exact ⟨by show AV.agg _=AV.agg _;rw [h1],h2⟩
 | .Vl fr τ y, .Vl Pk Jc x,R,r,v,h=>by
  by_cases hc:Jc=τ/\Pk=fr
  ·obtain ⟨h1,h2⟩:=hc
   subst h1;subst h2
   have h3:some ((x,r):Jc.den×R)=some v:=by
    have:gh (.Vl Pk Jc y) (.Vl Pk Jc x) r=some ((x,r):Jc.den×R):=dif_pos ⟨rfl,rfl⟩
    exact this.symm.trans h
   injection h3 with h3
   subst h3;exact ⟨rfl,rfl⟩
  ·have h3:gh (.Vl fr τ y) (.Vl Pk Jc x) r=none:=dif_neg hc
   rw [h3] at h;cases h
 | .at _, .agg _,_,_,_,h=>nomatch (show none=some _ from h)
 | .at _, .Vl _ _ _,_,_,_,h=>nomatch (show none=some _ from h)
 | .agg _, .at _,_,_,_,h=>nomatch (show none=some _ from h)
 | .agg _, .Vl _ _ _,_,_,_,h=>nomatch (show none=some _ from h)
 | .Vl _ _ _, .at _,_,_,_,h=>nomatch (show none=some _ from h)
 | .Vl _ _ _, .agg _,_,_,_,h=>nomatch (show none=some _ from h)
 | .Ib _, .at _,_,_,_,h=>nomatch (show none=some _ from h)
 | .Ib _, .agg _,_,_,_,h=>nomatch (show none=some _ from h)
 | .Ib _, .Vl _ _ _,_,_,_,h=>nomatch (show none=some _ from h)
 | .Ib _, .Ib _,_,_,_,h=>nomatch (show none=some _ from h)
 | .at _, .Ib _,_,_,_,h=>nomatch (show none=some _ from h)
 | .agg _, .Ib _,_,_,_,h=>nomatch (show none=some _ from h)
 | .Vl _ _ _, .Ib _,_,_,_,h=>nomatch (show none=some _ from h)
theorem yj: ∀(c d:OB) {R:Type} (r:R) (v:obV c R),Mw c d r=some v->(oH c v).1.map Mt=d.map Mt/\(oH c v).2=r
 | .arr fr tr e tid ys, .arr Pk QI e' Of xs,R,r,v,h=>by
  by_cases hc:e'=e/\Pk=fr/\QI=tr/\Of=tid
  ·obtain ⟨h1,h2,h3,h4⟩:=hc
   subst h1;subst h2;subst h3;subst h4
   have h3:some ((xs,r):List e'.den×R)=some v:=by
    have:Mw (.arr Pk QI e' Of ys) (.arr Pk QI e' Of xs) r=some ((xs,r):List e'.den×R):=dif_pos ⟨rfl,rfl,rfl,rfl⟩
    exact this.symm.trans h
   injection h3 with h3
   subst h3;exact ⟨rfl,rfl⟩
  ·have h3:Mw (.arr fr tr e tid ys) (.arr Pk QI e' Of xs) r=none:=dif_neg hc
   rw [h3] at h;cases h
 | .Dc e tid ys, .Dc e' Of xs,R,r,v,h=>by
  by_cases hc:e'=e/\Of=tid
  ·obtain ⟨h1,h4⟩:=hc
   subst h1;subst h4
   have h3:some ((xs,r):List e'.den×R)=some v:=by
    have:Mw (.Dc e' Of ys) (.Dc e' Of xs) r=some ((xs,r):List e'.den×R):=dif_pos ⟨rfl,rfl⟩
    exact this.symm.trans h
   injection h3 with h3
   subst h3;exact ⟨rfl,rfl⟩
  ·have h3:Mw (.Dc e tid ys) (.Dc e' Of xs) r=none:=dif_neg hc
   rw [h3] at h;cases h
 | .Pb vt m, .Pb vt' m',R,r,v,h=>by
  by_cases hc:vt'=vt
  ·subst hc
   have h3:some ((m',r):(ByteArray->Option vt'.den)×R)=some v:=by
    have:Mw (.Pb vt' m) (.Pb vt' m') r=some ((m',r):(ByteArray->Option vt'.den)×R):=dif_pos rfl
    exact this.symm.trans h
   injection h3 with h3
   subst h3;exact ⟨rfl,rfl⟩
  ·have h3:Mw (.Pb vt m) (.Pb vt' m') r=none:=dif_neg hc
   rw [h3] at h;cases h
 | .var t vs, .var t' us,R,r,v,h=>by
  by_cases hc:t'=t
  ·subst hc
   have h0:Mw (.var t' vs) (.var t' us) r=Mc vs us r:=if_pos rfl
   rw [h0] at h
   obtain ⟨h1,h2⟩:=aw vs us r v h
   exact ⟨by show OB.var _ _=OB.var _ _;rw [h1],h2⟩
  ·have h3:Mw (.var t vs) (.var t' us) r=none:=if_neg hc
   rw [h3] at h;cases h
 | .Aj e te ys out none, .Aj e' Li xs cc none,R,r,v,h=>by
  by_cases hc:e'=e/\Li=te/\cc=out
  ·obtain ⟨h1,h2,h4⟩:=hc
   subst h1;subst h2;subst h4
   have h3:some ((xs,r):List (List e'.den)×R)=some v:=by
    have:Mw (.Aj e' Li ys cc none) (.Aj e' Li xs cc none) r=some ((xs,r):List (List e'.den)×R):=dif_pos ⟨rfl,rfl,rfl⟩
    exact this.symm.trans h
   injection h3 with h3
   subst h3;exact ⟨rfl,rfl⟩
  ·have h3:Mw (.Aj e te ys out none) (.Aj e' Li xs cc none) r=none:=dif_neg hc
   rw [h3] at h;cases h
 | .Aj e te ys out (some p), .Aj e' Li xs cc (some p'),R,r,v,h=>by
  by_cases hc:e'=e/\Li=te/\cc=out/\p'.1=p.1
  ·obtain ⟨h1,h2,h4,h5⟩:=hc
   subst h1;subst h2;subst h4
   have h3:some ((xs,p'.2,r):List (List e'.den)×(Nat×R))=some v:=by
    have:Mw (.Aj e' Li ys cc (some p)) (.Aj e' Li xs cc (some p')) r=some ((xs,p'.2,r):List (List e'.den)×(Nat×R)):=dif_pos ⟨rfl,rfl,rfl,h5⟩
    exact this.symm.trans h
   injection h3 with h3
   subst h3
   refine ⟨?_,rfl⟩
   show OB.Aj e' Li xs cc (some (p.1,p'.2))=OB.Aj e' Li xs cc (some p')
   rw [<-h5]
  ·have h3:Mw (.Aj e te ys out (some p)) (.Aj e' Li xs cc (some p')) r=none:=dif_neg hc
   rw [h3] at h;cases h
 | .Aj _ _ _ _ none, .Aj _ _ _ _ (some _),_,_,_,h=>nomatch (show none=some _ from h)
 | .Aj _ _ _ _ (some _), .Aj _ _ _ _ none,_,_,_,h=>nomatch (show none=some _ from h)
 | .Aj _ _ _ _ none, .arr _ _ _ _ _,_,_,_,h=>nomatch (show none=some _ from h)
 | .Aj _ _ _ _ none, .Dc _ _ _,_,_,_,h=>nomatch (show none=some _ from h)
 | .Aj _ _ _ _ none, .var _ _,_,_,_,h=>nomatch (show none=some _ from h)
 | .Aj _ _ _ _ none, .Pb _ _,_,_,_,h=>nomatch (show none=some _ from h)
 | .Aj _ _ _ _ (some _), .arr _ _ _ _ _,_,_,_,h=>nomatch (show none=some _ from h)
 | .Aj _ _ _ _ (some _), .Dc _ _ _,_,_,_,h=>nomatch (show none=some _ from h)
 | .Aj _ _ _ _ (some _), .var _ _,_,_,_,h=>nomatch (show none=some _ from h)
 | .Aj _ _ _ _ (some _), .Pb _ _,_,_,_,h=>nomatch (show none=some _ from h)
 | .arr _ _ _ _ _, .Aj _ _ _ _ _,_,_,_,h=>nomatch (show none=some _ from h)
 | .Dc _ _ _, .Aj _ _ _ _ _,_,_,_,h=>nomatch (show none=some _ from h)
 | .var _ _, .Aj _ _ _ _ _,_,_,_,h=>nomatch (show none=some _ from h)
 | .Pb _ _, .Aj _ _ _ _ _,_,_,_,h=>nomatch (show none=some _ from h)
 | .arr _ _ _ _ _, .var _ _,_,_,_,h=>nomatch (show none=some _ from h)
 | .arr _ _ _ _ _, .Dc _ _ _,_,_,_,h=>nomatch (show none=some _ from h)
 | .arr _ _ _ _ _, .Pb _ _,_,_,_,h=>nomatch (show none=some _ from h)
 | .Dc _ _ _, .var _ _,_,_,_,h=>nomatch (show none=some _ from h)
 | .Dc _ _ _, .arr _ _ _ _ _,_,_,_,h=>nomatch (show none=some _ from h)
 | .Dc _ _ _, .Pb _ _,_,_,_,h=>nomatch (show none=some _ from h)
 | .Pb _ _, .var _ _,_,_,_,h=>nomatch (show none=some _ from h)
 | .Pb _ _, .arr _ _ _ _ _,_,_,_,h=>nomatch (show none=some _ from h)
 | .Pb _ _, .Dc _ _ _,_,_,_,h=>nomatch (show none=some _ from h)
 | .var _ _, .arr _ _ _ _ _,_,_,_,h=>nomatch (show none=some _ from h)
 | .var _ _, .Dc _ _ _,_,_,_,h=>nomatch (show none=some _ from h)
 | .var _ _, .Pb _ _,_,_,_,h=>nomatch (show none=some _ from h)
theorem fO: ∀(l m:List AV) {R:Type} (r:R) (v:lY l R),Jr l m r=some v->(Qa l v).1.map (·.map Mt)=m.map (·.map Mt)/\(Qa l v).2=r
 | [],[],R,r,v,h=>by simp only [Jr] at h;injection h with h;subst h;exact ⟨rfl,rfl⟩
 | [],_::_,R,r,v,h=>by simp [Jr] at h
 |_::_,[],R,r,v,h=>by simp [Jr] at h
 |c::l,d::m,R,r,v,h=>by
  simp only [Jr] at h
  cases hr:Jr l m r with
  |none=>rw [hr] at h;cases h
  |some r'=>
   rw [hr] at h
   obtain ⟨h1,h2⟩:=wN c d r' v h
   obtain ⟨h3,h4⟩:=fO l m r r' hr
   simp only [Qa,List.map_cons]
   rw [h1,h2,h3]
   exact ⟨rfl,h4⟩
theorem fk: ∀(l m:List (Nat×OB)) {R:Type} (r:R) (v:sr l R),Kq l m r=some v->(Zo l v).1.map (λp=>(p.1,p.2.map Mt))=m.map (λp=>(p.1,p.2.map Mt))/\(Zo l v).2=r
 | [],[],R,r,v,h=>by simp only [Kq] at h;injection h with h;subst h;exact ⟨rfl,rfl⟩
 | [],_::_,R,r,v,h=>by simp [Kq] at h
 |_::_,[],R,r,v,h=>by simp [Kq] at h
 |c::l,d::m,R,r,v,h=>by
  simp only [Kq] at h
  split at h
  ·rename_i hk
   cases hr:Kq l m r with
   |none=>rw [hr] at h;cases h
   |some r'=>
    rw [hr] at h
    obtain ⟨h1,h2⟩:=yj c.2 d.2 r' v h
    obtain ⟨h3,h4⟩:=fk l m r r' hr
    simp only [Zo,List.map_cons]
    rw [h1,h2,h3,hk]
    exact ⟨rfl,h4⟩
  ·cases h
theorem dK {s t:St} {v:stV s} (h:dJ s t=some v):(dI s v).Gj Mt=t.Gj Mt:=by
 unfold dJ at h
 cases hr:Kq s.heap t.heap () with
 |none=>rw [hr] at h;cases h
 |some r=>
  rw [hr] at h
  obtain ⟨h1,h2⟩:=fO s.tmps t.tmps r v h
  obtain ⟨h3,_⟩:=fk s.heap t.heap () r hr
  simp only [dI,St.Gj]
  rw [h1,h2,h3]
theorem l9: ∀(c:AC) {R:Type} (r:R),jM c c r=some (ES c r):=by
 intro c R r
 cases c<;>simp [jM,ES]
theorem ay: ∀(l:List AC) {R:Type} (r:R),Mc l l r=some (nq l r)
 | [],_,_=>rfl
 |c::l,_,r=>by simp only [Mc,ay l r,nq];exact l9 c _
def AV.fD:AV->Bool
 | .Ib _=>false
 |_=>true
theorem wO: ∀(c:AV),c.fD=true-> ∀ {R:Type} (r:R),gh c c r=some (UO c r):=by
 intro c hn R r
 cases c with
 |Ib l=>cases hn
 | «at»a=>exact l9 a r
 |agg cs=>exact ay cs r
 |Vl fr τ x=>exact dif_pos ⟨rfl,rfl⟩
theorem yk: ∀(c:OB) {R:Type} (r:R),Mw c c r=some (WJ c r):=by
 intro c R r
 cases c with
 |arr fr tr e t xs=>exact dif_pos ⟨rfl,rfl,rfl,rfl⟩
 |Dc e t xs=>exact dif_pos ⟨rfl,rfl⟩
 |Pb v m=>exact dif_pos rfl
 |Aj e te rows out kp=>
  cases kp with
  |none=>exact dif_pos ⟨rfl,rfl,rfl⟩
  |some p=>exact dif_pos ⟨rfl,rfl,rfl,rfl⟩
 |var t vs=>
  have h0:Mw (.var t vs) (.var t vs) r=Mc vs vs r:=if_pos rfl
  exact h0.trans (ay vs r)
theorem fP: ∀(l:List AV),(∀c∈l,c.fD=true)-> ∀ {R:Type} (r:R),Jr l l r=some (ng l r)
 | [],_,_,_=>rfl
 |c::l,h,_,r=>by simp only [Jr,fP l (λc hc=>h c (List.mem_cons_of_mem _ hc)) r,ng];exact wO c (h c (by simp)) _
theorem fm: ∀(l:List (Nat×OB)) {R:Type} (r:R),Kq l l r=some (mU l r)
 | [],_,_=>rfl
 |c::l,_,r=>by simp only [Kq,if_true,fm l r,mU];exact yk c.2 _
theorem lS (s:St) (h: ∀c∈s.tmps,c.fD=true):dJ s s=some (GJ s):=by
 simp only [dJ,fm,GJ]
 exact fP _ h _
theorem At {α:Type} {o:Option α} {K:α->Prop} :Ec o K↔ ∃x,o=some x/\K x:=by
 unfold Ec
 cases o with
 |none=>simp
 |some x=>simp
theorem ib: ∀(l m:List AC),l.map Mt=m.map Mt->l.flatMap Vn=m.flatMap Vn->l=m
 | [],[],_,_=>rfl
 | [],_::_,h,_=>by simp at h
 |_::_,[],h,_=>by simp at h
 |c::l,d::m,h,ho=>by
  simp only [List.map_cons,List.cons.injEq] at h
  simp only [List.flatMap_cons] at ho
  have hcd:c=d/\l.flatMap Vn=m.flatMap Vn:=by
   cases c<;>cases d<;>first|(cases h.1;done)|skip
   all_goals first
    |(obtain ⟨h1,_⟩:=h
      simp only [Mt,AC.own.injEq] at h1
      simp only [Vn,List.cons_append,List.nil_append,List.cons.injEq,Prod.mk.injEq] at ho
      exact ⟨by rw [h1.1,ho.1.1,ho.1.2],ho.2⟩)
    |exact ⟨h.1,by simpa only [Vn,List.nil_append] using ho⟩
  rw [hcd.1,ib l m h.2 hcd.2]
theorem j7: ∀(l m:List AC),l.map Mt=m.map Mt->(l.flatMap Vn).length=(m.flatMap Vn).length
 | [],[],_=>rfl
 | [],_::_,h=>by simp at h
 |_::_,[],h=>by simp at h
 |c::l,d::m,h=>by
  simp only [List.map_cons,List.cons.injEq] at h
  simp only [List.flatMap_cons,List.length_append,j7 l m h.2]
  congr 1
  cases c<;>cases d<;>first|rfl|(cases h.1;done)
theorem RT {c d:AV} (h:c.map Mt=d.map Mt):(Vp c).length=(Vp d).length/\(Vp c=Vp d->(∀l,c≠ .Ib l)->c=d):=by
 cases c with
 | «at»a=>
  cases d<;>simp only [AV.map,AV.at.injEq,reduceCtorEq] at h
  rename_i b
  have h1: [a].map Mt= [b].map Mt:=by simp [h]
  refine ⟨by simpa [Vp] using j7 [a] [b] h1,λho _=>?_⟩
  have:=ib [a] [b] h1 (by simpa [Vp] using ho)
  simpa using this
 |agg cs=>
  cases d<;>simp only [AV.map,AV.agg.injEq,reduceCtorEq] at h
  rename_i ds
  exact ⟨j7 cs ds h,λho _=>by rw [ib cs ds h ho]⟩
 |Vl fr τ x=>
  cases d<;>simp only [AV.map,reduceCtorEq] at h
  exact ⟨rfl,λ_ _=>h⟩
 |Ib l=>
  cases d<;>simp only [AV.map,reduceCtorEq] at h
  exact ⟨rfl,λ_ hn=>absurd rfl (hn l)⟩
theorem wQ: ∀(l m:List AV),l.map (·.map Mt)=m.map (·.map Mt)->(∀c∈l,c.fD=true)->(l.flatMap Vp).length=(m.flatMap Vp).length/\(l.flatMap Vp=m.flatMap Vp->l=m)
 | [],[],_,_=>⟨rfl,λ_=>rfl⟩
 | [],_::_,h,_=>by simp at h
 |_::_,[],h,_=>by simp at h
 |c::l,d::m,h,hn=>by
  simp only [List.map_cons,List.cons.injEq] at h
  obtain ⟨h1,h2⟩:=RT h.1
  obtain ⟨h3,h4⟩:=wQ l m h.2 λc hc=>hn c (List.mem_cons_of_mem _ hc)
  refine ⟨by simp only [List.flatMap_cons,List.length_append,h1,h3],λho=>?_⟩
  simp only [List.flatMap_cons] at ho
  obtain ⟨g1,g2⟩:=List.append_inj ho h1
  have hnt: ∀l',c≠ .Ib l':= λl' e=>by
   have:=hn c (by simp)
   rw [e] at this
   cases this
  rw [h2 g1 hnt,h4 g2]
theorem TE {c d:OB} (h:c.map Mt=d.map Mt):(gJ c).length=(gJ d).length/\(gJ c=gJ d->c=d):=by
 cases c with
 |var t vs=>
  cases d<;>simp only [OB.map,OB.var.injEq,reduceCtorEq] at h
  rename_i t' us
  obtain ⟨rfl,h⟩:=h
  exact ⟨j7 vs us h,λho=>by rw [ib vs us h ho]⟩
 |_=>cases d<;>simp only [OB.map,reduceCtorEq] at h<;>exact ⟨rfl,λ_=>h⟩
theorem ss: ∀(l m:List (Nat×OB)),l.map (λp=>(p.1,p.2.map Mt))=m.map (λp=>(p.1,p.2.map Mt))->(l.flatMap λp=>gJ p.2)=(m.flatMap λp=>gJ p.2)->l=m
 | [],[],_,_=>rfl
 | [],_::_,h,_=>by simp at h
 |_::_,[],h,_=>by simp at h
 |(k,c)::l,(k',d)::m,h,ho=>by
  simp only [List.map_cons,List.cons.injEq,Prod.mk.injEq] at h
  simp only [List.flatMap_cons] at ho
  obtain ⟨h1,h2⟩:=TE h.1.2
  obtain ⟨g1,g2⟩:=List.append_inj ho h1
  rw [h.1.1,h2 g1,ss l m h.2 g2]
theorem wP (l:List (Bool×List AC)) (e:AV) {R:Type} (r:R):gh (.Ib l) e r=none:=by cases e<;>rfl
theorem tM {d e:AV} {R:Type} {r:R} {v:avV d R} (h:gh d e r=some v):d.fD=true:=by
 cases d with
 |Ib l=>rw [wP] at h;cases h
 |_=>rfl
theorem dP: ∀(l m:List AV) {R:Type} (r:R) (v:lY l R),Jr l m r=some v-> ∀c∈l,c.fD=true
 | [],_,_,_,_,_,c,hc=>by cases hc
 |d::l,[],_,r,v,h,c,hc=>by cases h
 |d::l,e::m,R,r,v,h,c,hc=>by
  simp only [Jr] at h
  cases hr:Jr l m r with
  |none=>rw [hr] at h;cases h
  |some r'=>
   rw [hr] at h
   rcases List.mem_cons.1 hc with hc|hc
   ·rw [hc];exact tM h
   ·exact dP l m r r' hr c hc
theorem si {s0 s:St} (h:eqW s0 s):s=s0:=by
 obtain ⟨ho,h⟩:=h
 obtain ⟨v,h1,h2⟩:=At.1 h
 subst h2
 have hn: ∀c∈s0.tmps,c.fD=true:=by
  unfold dJ at h1
  cases hr:Kq s0.heap s.heap () with
  |none=>rw [hr] at h1;cases h1
  |some r=>rw [hr] at h1;exact dP _ _ _ _ h1
 have e:=(dK h1).symm.trans (dK (lS s0 hn))
 simp only [St.Gj,St.mk.injEq] at e
 obtain ⟨e1,e2⟩:=e
 obtain ⟨l1,l2⟩:=wQ s0.tmps s.tmps e1.symm hn
 unfold DR at ho
 obtain ⟨g1,g2⟩:=List.append_inj ho l1.symm
 have k1:=l2 g1.symm
 have k2:=ss s.heap s0.heap e2 g2
 cases s;cases s0
 simp only at k1 k2
 rw [k1,k2]
end Go.Proofs.YtfolipnappekaaaGreat
