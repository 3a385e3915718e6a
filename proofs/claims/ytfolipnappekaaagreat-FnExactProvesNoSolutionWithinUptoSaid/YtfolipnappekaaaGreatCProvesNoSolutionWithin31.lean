/-
  Part 32 of the proof that the statement FnExactProvesNoSolutionWithin holds.
-/
import Derived.Test.YtfolipnappekaaaGreatCProvesNoSolutionWithin30
namespace Go.Proofs.YtfolipnappekaaaGreat
open Go.RowKit
def Ns:AC->AC
 | .own l _ _=> .own l 0 0
 |c=>c
theorem mK: ∀(c d:AC) {R:Type} (r:R) (v:acV c R),lq c d r=some v->Ns (ix c v).1=Ns d/\(ix c v).2=r:=by
 intro c d R r v h
 cases c<;>cases d<;>simp only [lq] at h<;>first|(cases h;first|done|exact ⟨rfl,rfl⟩)|skip
 all_goals
  split at h
  ·rename_i hc
   first
    |(obtain ⟨h1,h2⟩:=hc;subst h1;subst h2;injection h with h;subst h;exact ⟨rfl,rfl⟩)
    |(subst hc;injection h with h;subst h;exact ⟨rfl,rfl⟩)
  ·cases h
theorem bo: ∀(l m:List AC) {R:Type} (r:R) (v:CY l R),Nc l m r=some v->(Vt l v).1.map Ns=m.map Ns/\(Vt l v).2=r
 | [],[],R,r,v,h=>by simp only [Nc] at h;injection h with h;subst h;exact ⟨rfl,rfl⟩
 | [],_::_,R,r,v,h=>by simp [Nc] at h
 |_::_,[],R,r,v,h=>by simp [Nc] at h
 |c::l,d::m,R,r,v,h=>by
  simp only [Nc] at h
  cases hr:Nc l m r with
  |none=>rw [hr] at h;cases h
  |some r'=>
   rw [hr] at h
   obtain ⟨h1,h2⟩:=mK c d r' v h
   obtain ⟨h3,h4⟩:=bo l m r r' hr
   simp only [Vt,List.map_cons]
   rw [h1,h2,h3]
   exact ⟨rfl,h4⟩
theorem yw: ∀(c d:AV) {R:Type} (r:R) (v:avV c R),iC c d r=some v->(ph c v).1.map Ns=d.map Ns/\(ph c v).2=r
 | .at a, .at b,R,r,v,h=>by
  obtain ⟨h1,h2⟩:=mK a b r v h
  exact ⟨by show AV.at _=AV.at _;rw [h1],h2⟩
 | .agg cs, .agg ds,R,r,v,h=>by
  obtain ⟨h1,h2⟩:=bo cs ds r v h
  exact ⟨by show AV.agg _=AV.agg _;rw [h1],h2⟩
 | .Xa fr τ y, .Xa Qt Jr x,R,r,v,h=>by
  by_cases hc:Jr=τ/\Qt=fr
  ·obtain ⟨h1,h2⟩:=hc
   subst h1;subst h2
   have h3:some ((x,r):Jr.den×R)=some v:=by
    have:iC (.Xa Qt Jr y) (.Xa Qt Jr x) r=some ((x,r):Jr.den×R):=dif_pos ⟨rfl,rfl⟩
    exact this.symm.trans h
   injection h3 with h3
   subst h3;exact ⟨rfl,rfl⟩
  ·have h3:iC (.Xa fr τ y) (.Xa Qt Jr x) r=none:=dif_neg hc
   rw [h3] at h;cases h
 | .at _, .agg _,_,_,_,h=>nomatch (show none=some _ from h)
 | .at _, .Xa _ _ _,_,_,_,h=>nomatch (show none=some _ from h)
 | .agg _, .at _,_,_,_,h=>nomatch (show none=some _ from h)
 | .agg _, .Xa _ _ _,_,_,_,h=>nomatch (show none=some _ from h)
 | .Xa _ _ _, .at _,_,_,_,h=>nomatch (show none=some _ from h)
 | .Xa _ _ _, .agg _,_,_,_,h=>nomatch (show none=some _ from h)
 | .Ih _, .at _,_,_,_,h=>nomatch (show none=some _ from h)
 | .Ih _, .agg _,_,_,_,h=>nomatch (show none=some _ from h)
 | .Ih _, .Xa _ _ _,_,_,_,h=>nomatch (show none=some _ from h)
 | .Ih _, .Ih _,_,_,_,h=>nomatch (show none=some _ from h)
 | .at _, .Ih _,_,_,_,h=>nomatch (show none=some _ from h)
 | .agg _, .Ih _,_,_,_,h=>nomatch (show none=some _ from h)
 | .Xa _ _ _, .Ih _,_,_,_,h=>nomatch (show none=some _ from h)
theorem zS: ∀(c d:OB) {R:Type} (r:R) (v:obV c R),Nw c d r=some v->(qx c v).1.map Ns=d.map Ns/\(qx c v).2=r
 | .arr fr tr e tid ys, .arr Qt VS e' Po xs,R,r,v,h=>by
  by_cases hc:e'=e/\Qt=fr/\VS=tr/\Po=tid
  ·obtain ⟨h1,h2,h3,h4⟩:=hc
   subst h1;subst h2;subst h3;subst h4
   have h3:some ((xs,r):List e'.den×R)=some v:=by
    have:Nw (.arr Qt VS e' Po ys) (.arr Qt VS e' Po xs) r=some ((xs,r):List e'.den×R):=dif_pos ⟨rfl,rfl,rfl,rfl⟩
    exact this.symm.trans h
   injection h3 with h3
   subst h3;exact ⟨rfl,rfl⟩
  ·have h3:Nw (.arr fr tr e tid ys) (.arr Qt VS e' Po xs) r=none:=dif_neg hc
   rw [h3] at h;cases h
 | .Dg e tid ys, .Dg e' Po xs,R,r,v,h=>by
  by_cases hc:e'=e/\Po=tid
  ·obtain ⟨h1,h4⟩:=hc
   subst h1;subst h4
   have h3:some ((xs,r):List e'.den×R)=some v:=by
    have:Nw (.Dg e' Po ys) (.Dg e' Po xs) r=some ((xs,r):List e'.den×R):=dif_pos ⟨rfl,rfl⟩
    exact this.symm.trans h
   injection h3 with h3
   subst h3;exact ⟨rfl,rfl⟩
  ·have h3:Nw (.Dg e tid ys) (.Dg e' Po xs) r=none:=dif_neg hc
   rw [h3] at h;cases h
 | .Qi vt m, .Qi vt' m',R,r,v,h=>by
  by_cases hc:vt'=vt
  ·subst hc
   have h3:some ((m',r):(ByteArray->Option vt'.den)×R)=some v:=by
    have:Nw (.Qi vt' m) (.Qi vt' m') r=some ((m',r):(ByteArray->Option vt'.den)×R):=dif_pos rfl
    exact this.symm.trans h
   injection h3 with h3
   subst h3;exact ⟨rfl,rfl⟩
  ·have h3:Nw (.Qi vt m) (.Qi vt' m') r=none:=dif_neg hc
   rw [h3] at h;cases h
 | .var t vs, .var t' us,R,r,v,h=>by
  by_cases hc:t'=t
  ·subst hc
   have h0:Nw (.var t' vs) (.var t' us) r=Nc vs us r:=if_pos rfl
   rw [h0] at h
   obtain ⟨h1,h2⟩:=bo vs us r v h
   exact ⟨by show OB.var _ _=OB.var _ _;rw [h1],h2⟩
  ·have h3:Nw (.var t vs) (.var t' us) r=none:=if_neg hc
   rw [h3] at h;cases h
 | .Al e te ys out none, .Al e' Mf xs cY none,R,r,v,h=>by
  by_cases hc:e'=e/\Mf=te/\cY=out
  ·obtain ⟨h1,h2,h4⟩:=hc
   subst h1;subst h2;subst h4
   have h3:some ((xs,r):List (List e'.den)×R)=some v:=by
    have:Nw (.Al e' Mf ys cY none) (.Al e' Mf xs cY none) r=some ((xs,r):List (List e'.den)×R):=dif_pos ⟨rfl,rfl,rfl⟩
    exact this.symm.trans h
   injection h3 with h3
   subst h3;exact ⟨rfl,rfl⟩
  ·have h3:Nw (.Al e te ys out none) (.Al e' Mf xs cY none) r=none:=dif_neg hc
   rw [h3] at h;cases h
 | .Al e te ys out (some p), .Al e' Mf xs cY (some p'),R,r,v,h=>by
  by_cases hc:e'=e/\Mf=te/\cY=out/\p'.1=p.1
  ·obtain ⟨h1,h2,h4,h5⟩:=hc
   subst h1;subst h2;subst h4
   have h3:some ((xs,p'.2,r):List (List e'.den)×(Nat×R))=some v:=by
    have:Nw (.Al e' Mf ys cY (some p)) (.Al e' Mf xs cY (some p')) r=some ((xs,p'.2,r):List (List e'.den)×(Nat×R)):=dif_pos ⟨rfl,rfl,rfl,h5⟩
    exact this.symm.trans h
   injection h3 with h3
   subst h3
   refine ⟨?_,rfl⟩
   show OB.Al e' Mf xs cY (some (p.1,p'.2))=OB.Al e' Mf xs cY (some p')
   rw [<-h5]
  ·have h3:Nw (.Al e te ys out (some p)) (.Al e' Mf xs cY (some p')) r=none:=dif_neg hc
   rw [h3] at h;cases h
 | .Al _ _ _ _ none, .Al _ _ _ _ (some _),_,_,_,h=>nomatch (show none=some _ from h)
 | .Al _ _ _ _ (some _), .Al _ _ _ _ none,_,_,_,h=>nomatch (show none=some _ from h)
 | .Al _ _ _ _ none, .arr _ _ _ _ _,_,_,_,h=>nomatch (show none=some _ from h)
 | .Al _ _ _ _ none, .Dg _ _ _,_,_,_,h=>nomatch (show none=some _ from h)
 | .Al _ _ _ _ none, .var _ _,_,_,_,h=>nomatch (show none=some _ from h)
 | .Al _ _ _ _ none, .Qi _ _,_,_,_,h=>nomatch (show none=some _ from h)
 | .Al _ _ _ _ (some _), .arr _ _ _ _ _,_,_,_,h=>nomatch (show none=some _ from h)
 | .Al _ _ _ _ (some _), .Dg _ _ _,_,_,_,h=>nomatch (show none=some _ from h)
 | .Al _ _ _ _ (some _), .var _ _,_,_,_,h=>nomatch (show none=some _ from h)
 | .Al _ _ _ _ (some _), .Qi _ _,_,_,_,h=>nomatch (show none=some _ from h)
 | .arr _ _ _ _ _, .Al _ _ _ _ _,_,_,_,h=>nomatch (show none=some _ from h)
 | .Dg _ _ _, .Al _ _ _ _ _,_,_,_,h=>nomatch (show none=some _ from h)
 | .var _ _, .Al _ _ _ _ _,_,_,_,h=>nomatch (show none=some _ from h)
 | .Qi _ _, .Al _ _ _ _ _,_,_,_,h=>nomatch (show none=some _ from h)
 | .arr _ _ _ _ _, .var _ _,_,_,_,h=>nomatch (show none=some _ from h)
 | .arr _ _ _ _ _, .Dg _ _ _,_,_,_,h=>nomatch (show none=some _ from h)
 | .arr _ _ _ _ _, .Qi _ _,_,_,_,h=>nomatch (show none=some _ from h)
 | .Dg _ _ _, .var _ _,_,_,_,h=>nomatch (show none=some _ from h)
 | .Dg _ _ _, .arr _ _ _ _ _,_,_,_,h=>nomatch (show none=some _ from h)
 | .Dg _ _ _, .Qi _ _,_,_,_,h=>nomatch (show none=some _ from h)
 | .Qi _ _, .var _ _,_,_,_,h=>nomatch (show none=some _ from h)
 | .Qi _ _, .arr _ _ _ _ _,_,_,_,h=>nomatch (show none=some _ from h)
 | .Qi _ _, .Dg _ _ _,_,_,_,h=>nomatch (show none=some _ from h)
 | .var _ _, .arr _ _ _ _ _,_,_,_,h=>nomatch (show none=some _ from h)
 | .var _ _, .Dg _ _ _,_,_,_,h=>nomatch (show none=some _ from h)
 | .var _ _, .Qi _ _,_,_,_,h=>nomatch (show none=some _ from h)
theorem ie: ∀(l m:List AV) {R:Type} (r:R) (v:nP l R),Kh l m r=some v->(Rk l v).1.map (·.map Ns)=m.map (·.map Ns)/\(Rk l v).2=r
 | [],[],R,r,v,h=>by simp only [Kh] at h;injection h with h;subst h;exact ⟨rfl,rfl⟩
 | [],_::_,R,r,v,h=>by simp [Kh] at h
 |_::_,[],R,r,v,h=>by simp [Kh] at h
 |c::l,d::m,R,r,v,h=>by
  simp only [Kh] at h
  cases hr:Kh l m r with
  |none=>rw [hr] at h;cases h
  |some r'=>
   rw [hr] at h
   obtain ⟨h1,h2⟩:=yw c d r' v h
   obtain ⟨h3,h4⟩:=ie l m r r' hr
   simp only [Rk,List.map_cons]
   rw [h1,h2,h3]
   exact ⟨rfl,h4⟩
theorem gJ: ∀(l m:List (Nat×OB)) {R:Type} (r:R) (v:ue l R),Lh l m r=some v->(aJ l v).1.map (λp=>(p.1,p.2.map Ns))=m.map (λp=>(p.1,p.2.map Ns))/\(aJ l v).2=r
 | [],[],R,r,v,h=>by simp only [Lh] at h;injection h with h;subst h;exact ⟨rfl,rfl⟩
 | [],_::_,R,r,v,h=>by simp [Lh] at h
 |_::_,[],R,r,v,h=>by simp [Lh] at h
 |c::l,d::m,R,r,v,h=>by
  simp only [Lh] at h
  split at h
  ·rename_i hk
   cases hr:Lh l m r with
   |none=>rw [hr] at h;cases h
   |some r'=>
    rw [hr] at h
    obtain ⟨h1,h2⟩:=zS c.2 d.2 r' v h
    obtain ⟨h3,h4⟩:=gJ l m r r' hr
    simp only [aJ,List.map_cons]
    rw [h1,h2,h3,hk]
    exact ⟨rfl,h4⟩
  ·cases h
theorem eJ {s t:St} {v:stV s} (h:eI s t=some v):(eH s v).Gl Ns=t.Gl Ns:=by
 unfold eI at h
 cases hr:Lh s.heap t.heap () with
 |none=>rw [hr] at h;cases h
 |some r=>
  rw [hr] at h
  obtain ⟨h1,h2⟩:=ie s.tmps t.tmps r v h
  obtain ⟨h3,_⟩:=gJ s.heap t.heap () r hr
  simp only [eH,St.Gl]
  rw [h1,h2,h3]
theorem mL: ∀(c:AC) {R:Type} (r:R),lq c c r=some (IT c r):=by
 intro c R r
 cases c<;>simp [lq,IT]
theorem bp: ∀(l:List AC) {R:Type} (r:R),Nc l l r=some (p8 l r)
 | [],_,_=>rfl
 |c::l,_,r=>by simp only [Nc,bp l r,p8];exact mL c _
def AV.gT:AV->Bool
 | .Ih _=>false
 |_=>true
theorem yx: ∀(c:AV),c.gT=true-> ∀ {R:Type} (r:R),iC c c r=some (ZU c r):=by
 intro c hn R r
 cases c with
 |Ih l=>cases hn
 | «at»a=>exact mL a r
 |agg cs=>exact bp cs r
 |Xa fr τ x=>exact dif_pos ⟨rfl,rfl⟩
theorem zT: ∀(c:OB) {R:Type} (r:R),Nw c c r=some (Aba c r):=by
 intro c R r
 cases c with
 |arr fr tr e t xs=>exact dif_pos ⟨rfl,rfl,rfl,rfl⟩
 |Dg e t xs=>exact dif_pos ⟨rfl,rfl⟩
 |Qi v m=>exact dif_pos rfl
 |Al e te rows out kp=>
  cases kp with
  |none=>exact dif_pos ⟨rfl,rfl,rfl⟩
  |some p=>exact dif_pos ⟨rfl,rfl,rfl,rfl⟩
 |var t vs=>
  have h0:Nw (.var t vs) (.var t vs) r=Nc vs vs r:=if_pos rfl
  exact h0.trans (bp vs r)
theorem ig: ∀(l:List AV),(∀c∈l,c.gT=true)-> ∀ {R:Type} (r:R),Kh l l r=some (oU l r)
 | [],_,_,_=>rfl
 |c::l,h,_,r=>by simp only [Kh,ig l (λc hc=>h c (List.mem_cons_of_mem _ hc)) r,oU];exact yx c (h c (by simp)) _
theorem gK: ∀(l:List (Nat×OB)) {R:Type} (r:R),Lh l l r=some (oK l r)
 | [],_,_=>rfl
 |c::l,_,r=>by simp only [Lh,if_true,gK l r,oK];exact zT c.2 _
theorem nJ (s:St) (h: ∀c∈s.tmps,c.gT=true):eI s s=some (KR s):=by
 simp only [eI,gK,KR]
 exact ig _ h _
theorem As {α:Type} {o:Option α} {K:α->Prop} :Dz o K↔ ∃x,o=some x/\K x:=by
 unfold Dz
 cases o with
 |none=>simp
 |some x=>simp
theorem jr: ∀(l m:List AC),l.map Ns=m.map Ns->l.flatMap Xd=m.flatMap Xd->l=m
 | [],[],_,_=>rfl
 | [],_::_,h,_=>by simp at h
 |_::_,[],h,_=>by simp at h
 |c::l,d::m,h,ho=>by
  simp only [List.map_cons,List.cons.injEq] at h
  simp only [List.flatMap_cons] at ho
  have hcd:c=d/\l.flatMap Xd=m.flatMap Xd:=by
   cases c<;>cases d<;>first|(cases h.1;done)|skip
   all_goals first
    |(obtain ⟨h1,_⟩:=h
      simp only [Ns,AC.own.injEq] at h1
      simp only [Xd,List.cons_append,List.nil_append,List.cons.injEq,Prod.mk.injEq] at ho
      exact ⟨by rw [h1.1,ho.1.1,ho.1.2],ho.2⟩)
    |exact ⟨h.1,by simpa only [Xd,List.nil_append] using ho⟩
  rw [hcd.1,jr l m h.2 hcd.2]
theorem kv: ∀(l m:List AC),l.map Ns=m.map Ns->(l.flatMap Xd).length=(m.flatMap Xd).length
 | [],[],_=>rfl
 | [],_::_,h=>by simp at h
 |_::_,[],h=>by simp at h
 |c::l,d::m,h=>by
  simp only [List.map_cons,List.cons.injEq] at h
  simp only [List.flatMap_cons,List.length_append,kv l m h.2]
  congr 1
  cases c<;>cases d<;>first|rfl|(cases h.1;done)
theorem XC {c d:AV} (h:c.map Ns=d.map Ns):(Xf c).length=(Xf d).length/\(Xf c=Xf d->(∀l,c≠ .Ih l)->c=d):=by
 cases c with
 | «at»a=>
  cases d<;>simp only [AV.map,AV.at.injEq,reduceCtorEq] at h
  rename_i b
  have h1: [a].map Ns= [b].map Ns:=by simp [h]
  refine ⟨by simpa [Xf] using kv [a] [b] h1,λho _=>?_⟩
  have:=jr [a] [b] h1 (by simpa [Xf] using ho)
  simpa using this
 |agg cs=>
  cases d<;>simp only [AV.map,AV.agg.injEq,reduceCtorEq] at h
  rename_i ds
  exact ⟨kv cs ds h,λho _=>by rw [jr cs ds h ho]⟩
 |Xa fr τ x=>
  cases d<;>simp only [AV.map,reduceCtorEq] at h
  exact ⟨rfl,λ_ _=>h⟩
 |Ih l=>
  cases d<;>simp only [AV.map,reduceCtorEq] at h
  exact ⟨rfl,λ_ hn=>absurd rfl (hn l)⟩
theorem yz: ∀(l m:List AV),l.map (·.map Ns)=m.map (·.map Ns)->(∀c∈l,c.gT=true)->(l.flatMap Xf).length=(m.flatMap Xf).length/\(l.flatMap Xf=m.flatMap Xf->l=m)
 | [],[],_,_=>⟨rfl,λ_=>rfl⟩
 | [],_::_,h,_=>by simp at h
 |_::_,[],h,_=>by simp at h
 |c::l,d::m,h,hn=>by
  simp only [List.map_cons,List.cons.injEq] at h
  obtain ⟨h1,h2⟩:=XC h.1
  obtain ⟨h3,h4⟩:=yz l m h.2 λc hc=>hn c (List.mem_cons_of_mem _ hc)
  refine ⟨by simp only [List.flatMap_cons,List.length_append,h1,h3],λho=>?_⟩
  simp only [List.flatMap_cons] at ho
  obtain ⟨g1,g2⟩:=List.append_inj ho h1
  have hnt: ∀l',c≠ .Ih l':= λl' e=>by
   have:=hn c (by simp)
   rw [e] at this
   cases this
  rw [h2 g1 hnt,h4 g2]
theorem YM {c d:OB} (h:c.map Ns=d.map Ns):(j4 c).length=(j4 d).length/\(j4 c=j4 d->c=d):=by
 cases c with
 |var t vs=>
  cases d<;>simp only [OB.map,OB.var.injEq,reduceCtorEq] at h
  rename_i t' us
  obtain ⟨rfl,h⟩:=h
  exact ⟨kv vs us h,λho=>by rw [jr vs us h ho]⟩
 |_=>cases d<;>simp only [OB.map,reduceCtorEq] at h<;>exact ⟨rfl,λ_=>h⟩
theorem uf: ∀(l m:List (Nat×OB)),l.map (λp=>(p.1,p.2.map Ns))=m.map (λp=>(p.1,p.2.map Ns))->(l.flatMap λp=>j4 p.2)=(m.flatMap λp=>j4 p.2)->l=m
 | [],[],_,_=>rfl
 | [],_::_,h,_=>by simp at h
 |_::_,[],h,_=>by simp at h
 |(k,c)::l,(k',d)::m,h,ho=>by
  simp only [List.map_cons,List.cons.injEq,Prod.mk.injEq] at h
  simp only [List.flatMap_cons] at ho
  obtain ⟨h1,h2⟩:=YM h.1.2
  obtain ⟨g1,g2⟩:=List.append_inj ho h1
  rw [h.1.1,h2 g1,uf l m h.2 g2]
theorem yy (l:List (Bool×List AC)) (e:AV) {R:Type} (r:R):iC (.Ih l) e r=none:=by cases e<;>rfl
theorem vO {d e:AV} {R:Type} {r:R} {v:avV d R} (h:iC d e r=some v):d.gT=true:=by
 cases d with
 |Ih l=>rw [yy] at h;cases h
 |_=>rfl
theorem eP: ∀(l m:List AV) {R:Type} (r:R) (v:nP l R),Kh l m r=some v-> ∀c∈l,c.gT=true
 | [],_,_,_,_,_,c,hc=>by cases hc
 |d::l,[],_,r,v,h,c,hc=>by cases h
 |d::l,e::m,R,r,v,h,c,hc=>by
  simp only [Kh] at h
  cases hr:Kh l m r with
  |none=>rw [hr] at h;cases h
  |some r'=>
   rw [hr] at h
   rcases List.mem_cons.1 hc with hc|hc
   ·rw [hc];exact vO h
   ·exact eP l m r r' hr c hc
theorem fc {s0 s:St} (h:eqW s0 s):s=s0:=by
 obtain ⟨ho,h⟩:=h
 obtain ⟨v,h1,h2⟩:=As.1 h
 subst h2
 have hn: ∀c∈s0.tmps,c.gT=true:=by
  unfold eI at h1
  cases hr:Lh s0.heap s.heap () with
  |none=>rw [hr] at h1;cases h1
  |some r=>rw [hr] at h1;exact eP _ _ _ _ h1
 have e:=(eJ h1).symm.trans (eJ (nJ s0 hn))
 simp only [St.Gl,St.mk.injEq] at e
 obtain ⟨e1,e2⟩:=e
 obtain ⟨l1,l2⟩:=yz s0.tmps s.tmps e1.symm hn
 unfold HO at ho
 obtain ⟨g1,g2⟩:=List.append_inj ho l1.symm
 have k1:=l2 g1.symm
 have k2:=uf s.heap s0.heap e2 g2
 cases s;cases s0
 simp only at k1 k2
 rw [k1,k2]
end Go.Proofs.YtfolipnappekaaaGreat
