/-
  Part 32 of the proof that the statement FnExactBoundGap holds.
-/
import Derived.Test.YtfolipnappekaaaGreatCBoundGap30
namespace Go.Proofs.YtfolipnappekaaaGreat
open Go.RowKit
def Nm:AC->AC
 | .own l _ _=> .own l 0 0
 |c=>c
theorem lG: ∀(c d:AC) {R:Type} (r:R) (v:acV c R),jZ c d r=some v->Nm (gB c v).1=Nm d/\(gB c v).2=r:=by
 intro c d R r v h
 cases c<;>cases d<;>simp only [jZ] at h<;>first|(cases h;first|done|exact ⟨rfl,rfl⟩)|skip
 all_goals
  split at h
  ·rename_i hc
   first
    |(obtain ⟨h1,h2⟩:=hc;subst h1;subst h2;injection h with h;subst h;exact ⟨rfl,rfl⟩)
    |(subst hc;injection h with h;subst h;exact ⟨rfl,rfl⟩)
  ·cases h
theorem aK: ∀(l m:List AC) {R:Type} (r:R) (v:AO l R),Mq l m r=some v->(Uq l v).1.map Nm=m.map Nm/\(Uq l v).2=r
 | [],[],R,r,v,h=>by simp only [Mq] at h;injection h with h;subst h;exact ⟨rfl,rfl⟩
 | [],_::_,R,r,v,h=>by simp [Mq] at h
 |_::_,[],R,r,v,h=>by simp [Mq] at h
 |c::l,d::m,R,r,v,h=>by
  simp only [Mq] at h
  cases hr:Mq l m r with
  |none=>rw [hr] at h;cases h
  |some r'=>
   rw [hr] at h
   obtain ⟨h1,h2⟩:=lG c d r' v h
   obtain ⟨h3,h4⟩:=aK l m r r' hr
   simp only [Uq,List.map_cons]
   rw [h1,h2,h3]
   exact ⟨rfl,h4⟩
theorem xo: ∀(c d:AV) {R:Type} (r:R) (v:avV c R),gG c d r=some v->(nY c v).1.map Nm=d.map Nm/\(nY c v).2=r
 | .at a, .at b,R,r,v,h=>by
  obtain ⟨h1,h2⟩:=lG a b r v h
  exact ⟨by show AV.at _=AV.at _;rw [h1],h2⟩
 | .agg cs, .agg ds,R,r,v,h=>by
  obtain ⟨h1,h2⟩:=aK cs ds r v h
  exact ⟨by show AV.agg _=AV.agg _;rw [h1],h2⟩
 | .Vu fr τ y, .Vu Qk Jj x,R,r,v,h=>by
  by_cases hc:Jj=τ/\Qk=fr
  ·obtain ⟨h1,h2⟩:=hc
   subst h1;subst h2
   have h3:some ((x,r):Jj.den×R)=some v:=by
    have:gG (.Vu Qk Jj y) (.Vu Qk Jj x) r=some ((x,r):Jj.den×R):=dif_pos ⟨rfl,rfl⟩
    exact this.symm.trans h
   injection h3 with h3
   subst h3;exact ⟨rfl,rfl⟩
  ·have h3:gG (.Vu fr τ y) (.Vu Qk Jj x) r=none:=dif_neg hc
   rw [h3] at h;cases h
 | .at _, .agg _,_,_,_,h=>nomatch (show none=some _ from h)
 | .at _, .Vu _ _ _,_,_,_,h=>nomatch (show none=some _ from h)
 | .agg _, .at _,_,_,_,h=>nomatch (show none=some _ from h)
 | .agg _, .Vu _ _ _,_,_,_,h=>nomatch (show none=some _ from h)
 | .Vu _ _ _, .at _,_,_,_,h=>nomatch (show none=some _ from h)
 | .Vu _ _ _, .agg _,_,_,_,h=>nomatch (show none=some _ from h)
 | .Il _, .at _,_,_,_,h=>nomatch (show none=some _ from h)
 | .Il _, .agg _,_,_,_,h=>nomatch (show none=some _ from h)
 | .Il _, .Vu _ _ _,_,_,_,h=>nomatch (show none=some _ from h)
 | .Il _, .Il _,_,_,_,h=>nomatch (show none=some _ from h)
 | .at _, .Il _,_,_,_,h=>nomatch (show none=some _ from h)
 | .agg _, .Il _,_,_,_,h=>nomatch (show none=some _ from h)
 | .Vu _ _ _, .Il _,_,_,_,h=>nomatch (show none=some _ from h)
theorem yV: ∀(c d:OB) {R:Type} (r:R) (v:obV c R),Nq c d r=some v->(ph c v).1.map Nm=d.map Nm/\(ph c v).2=r
 | .arr fr tr e tid ys, .arr Qk SW e' Pe xs,R,r,v,h=>by
  by_cases hc:e'=e/\Qk=fr/\SW=tr/\Pe=tid
  ·obtain ⟨h1,h2,h3,h4⟩:=hc
   subst h1;subst h2;subst h3;subst h4
   have h3:some ((xs,r):List e'.den×R)=some v:=by
    have:Nq (.arr Qk SW e' Pe ys) (.arr Qk SW e' Pe xs) r=some ((xs,r):List e'.den×R):=dif_pos ⟨rfl,rfl,rfl,rfl⟩
    exact this.symm.trans h
   injection h3 with h3
   subst h3;exact ⟨rfl,rfl⟩
  ·have h3:Nq (.arr fr tr e tid ys) (.arr Qk SW e' Pe xs) r=none:=dif_neg hc
   rw [h3] at h;cases h
 | .Dn e tid ys, .Dn e' Pe xs,R,r,v,h=>by
  by_cases hc:e'=e/\Pe=tid
  ·obtain ⟨h1,h4⟩:=hc
   subst h1;subst h4
   have h3:some ((xs,r):List e'.den×R)=some v:=by
    have:Nq (.Dn e' Pe ys) (.Dn e' Pe xs) r=some ((xs,r):List e'.den×R):=dif_pos ⟨rfl,rfl⟩
    exact this.symm.trans h
   injection h3 with h3
   subst h3;exact ⟨rfl,rfl⟩
  ·have h3:Nq (.Dn e tid ys) (.Dn e' Pe xs) r=none:=dif_neg hc
   rw [h3] at h;cases h
 | .Qc vt m, .Qc vt' m',R,r,v,h=>by
  by_cases hc:vt'=vt
  ·subst hc
   have h3:some ((m',r):(ByteArray->Option vt'.den)×R)=some v:=by
    have:Nq (.Qc vt' m) (.Qc vt' m') r=some ((m',r):(ByteArray->Option vt'.den)×R):=dif_pos rfl
    exact this.symm.trans h
   injection h3 with h3
   subst h3;exact ⟨rfl,rfl⟩
  ·have h3:Nq (.Qc vt m) (.Qc vt' m') r=none:=dif_neg hc
   rw [h3] at h;cases h
 | .var t vs, .var t' us,R,r,v,h=>by
  by_cases hc:t'=t
  ·subst hc
   have h0:Nq (.var t' vs) (.var t' us) r=Mq vs us r:=if_pos rfl
   rw [h0] at h
   obtain ⟨h1,h2⟩:=aK vs us r v h
   exact ⟨by show OB.var _ _=OB.var _ _;rw [h1],h2⟩
  ·have h3:Nq (.var t vs) (.var t' us) r=none:=if_neg hc
   rw [h3] at h;cases h
 | .Ak e te ys out none, .Ak e' Lu xs cA none,R,r,v,h=>by
  by_cases hc:e'=e/\Lu=te/\cA=out
  ·obtain ⟨h1,h2,h4⟩:=hc
   subst h1;subst h2;subst h4
   have h3:some ((xs,r):List (List e'.den)×R)=some v:=by
    have:Nq (.Ak e' Lu ys cA none) (.Ak e' Lu xs cA none) r=some ((xs,r):List (List e'.den)×R):=dif_pos ⟨rfl,rfl,rfl⟩
    exact this.symm.trans h
   injection h3 with h3
   subst h3;exact ⟨rfl,rfl⟩
  ·have h3:Nq (.Ak e te ys out none) (.Ak e' Lu xs cA none) r=none:=dif_neg hc
   rw [h3] at h;cases h
 | .Ak e te ys out (some p), .Ak e' Lu xs cA (some p'),R,r,v,h=>by
  by_cases hc:e'=e/\Lu=te/\cA=out/\p'.1=p.1
  ·obtain ⟨h1,h2,h4,h5⟩:=hc
   subst h1;subst h2;subst h4
   have h3:some ((xs,p'.2,r):List (List e'.den)×(Nat×R))=some v:=by
    have:Nq (.Ak e' Lu ys cA (some p)) (.Ak e' Lu xs cA (some p')) r=some ((xs,p'.2,r):List (List e'.den)×(Nat×R)):=dif_pos ⟨rfl,rfl,rfl,h5⟩
    exact this.symm.trans h
   injection h3 with h3
   subst h3
   refine ⟨?_,rfl⟩
   show OB.Ak e' Lu xs cA (some (p.1,p'.2))=OB.Ak e' Lu xs cA (some p')
   rw [<-h5]
  ·have h3:Nq (.Ak e te ys out (some p)) (.Ak e' Lu xs cA (some p')) r=none:=dif_neg hc
   rw [h3] at h;cases h
 | .Ak _ _ _ _ none, .Ak _ _ _ _ (some _),_,_,_,h=>nomatch (show none=some _ from h)
 | .Ak _ _ _ _ (some _), .Ak _ _ _ _ none,_,_,_,h=>nomatch (show none=some _ from h)
 | .Ak _ _ _ _ none, .arr _ _ _ _ _,_,_,_,h=>nomatch (show none=some _ from h)
 | .Ak _ _ _ _ none, .Dn _ _ _,_,_,_,h=>nomatch (show none=some _ from h)
 | .Ak _ _ _ _ none, .var _ _,_,_,_,h=>nomatch (show none=some _ from h)
 | .Ak _ _ _ _ none, .Qc _ _,_,_,_,h=>nomatch (show none=some _ from h)
 | .Ak _ _ _ _ (some _), .arr _ _ _ _ _,_,_,_,h=>nomatch (show none=some _ from h)
 | .Ak _ _ _ _ (some _), .Dn _ _ _,_,_,_,h=>nomatch (show none=some _ from h)
 | .Ak _ _ _ _ (some _), .var _ _,_,_,_,h=>nomatch (show none=some _ from h)
 | .Ak _ _ _ _ (some _), .Qc _ _,_,_,_,h=>nomatch (show none=some _ from h)
 | .arr _ _ _ _ _, .Ak _ _ _ _ _,_,_,_,h=>nomatch (show none=some _ from h)
 | .Dn _ _ _, .Ak _ _ _ _ _,_,_,_,h=>nomatch (show none=some _ from h)
 | .var _ _, .Ak _ _ _ _ _,_,_,_,h=>nomatch (show none=some _ from h)
 | .Qc _ _, .Ak _ _ _ _ _,_,_,_,h=>nomatch (show none=some _ from h)
 | .arr _ _ _ _ _, .var _ _,_,_,_,h=>nomatch (show none=some _ from h)
 | .arr _ _ _ _ _, .Dn _ _ _,_,_,_,h=>nomatch (show none=some _ from h)
 | .arr _ _ _ _ _, .Qc _ _,_,_,_,h=>nomatch (show none=some _ from h)
 | .Dn _ _ _, .var _ _,_,_,_,h=>nomatch (show none=some _ from h)
 | .Dn _ _ _, .arr _ _ _ _ _,_,_,_,h=>nomatch (show none=some _ from h)
 | .Dn _ _ _, .Qc _ _,_,_,_,h=>nomatch (show none=some _ from h)
 | .Qc _ _, .var _ _,_,_,_,h=>nomatch (show none=some _ from h)
 | .Qc _ _, .arr _ _ _ _ _,_,_,_,h=>nomatch (show none=some _ from h)
 | .Qc _ _, .Dn _ _ _,_,_,_,h=>nomatch (show none=some _ from h)
 | .var _ _, .arr _ _ _ _ _,_,_,_,h=>nomatch (show none=some _ from h)
 | .var _ _, .Dn _ _ _,_,_,_,h=>nomatch (show none=some _ from h)
 | .var _ _, .Qc _ _,_,_,_,h=>nomatch (show none=some _ from h)
theorem gm: ∀(l m:List AV) {R:Type} (r:R) (v:mD l R),Ka l m r=some v->(Rc l v).1.map (·.map Nm)=m.map (·.map Nm)/\(Rc l v).2=r
 | [],[],R,r,v,h=>by simp only [Ka] at h;injection h with h;subst h;exact ⟨rfl,rfl⟩
 | [],_::_,R,r,v,h=>by simp [Ka] at h
 |_::_,[],R,r,v,h=>by simp [Ka] at h
 |c::l,d::m,R,r,v,h=>by
  simp only [Ka] at h
  cases hr:Ka l m r with
  |none=>rw [hr] at h;cases h
  |some r'=>
   rw [hr] at h
   obtain ⟨h1,h2⟩:=xo c d r' v h
   obtain ⟨h3,h4⟩:=gm l m r r' hr
   simp only [Rc,List.map_cons]
   rw [h1,h2,h3]
   exact ⟨rfl,h4⟩
theorem fK: ∀(l m:List (Nat×OB)) {R:Type} (r:R) (v:sW l R),La l m r=some v->(a7 l v).1.map (λp=>(p.1,p.2.map Nm))=m.map (λp=>(p.1,p.2.map Nm))/\(a7 l v).2=r
 | [],[],R,r,v,h=>by simp only [La] at h;injection h with h;subst h;exact ⟨rfl,rfl⟩
 | [],_::_,R,r,v,h=>by simp [La] at h
 |_::_,[],R,r,v,h=>by simp [La] at h
 |c::l,d::m,R,r,v,h=>by
  simp only [La] at h
  split at h
  ·rename_i hk
   cases hr:La l m r with
   |none=>rw [hr] at h;cases h
   |some r'=>
    rw [hr] at h
    obtain ⟨h1,h2⟩:=yV c.2 d.2 r' v h
    obtain ⟨h3,h4⟩:=fK l m r r' hr
    simp only [a7,List.map_cons]
    rw [h1,h2,h3,hk]
    exact ⟨rfl,h4⟩
  ·cases h
theorem ec {s t:St} {v:stV s} (h:eb s t=some v):(e8 s v).Gv Nm=t.Gv Nm:=by
 unfold eb at h
 cases hr:La s.heap t.heap () with
 |none=>rw [hr] at h;cases h
 |some r=>
  rw [hr] at h
  obtain ⟨h1,h2⟩:=gm s.tmps t.tmps r v h
  obtain ⟨h3,_⟩:=fK s.heap t.heap () r hr
  simp only [e8,St.Gv]
  rw [h1,h2,h3]
theorem lH: ∀(c:AC) {R:Type} (r:R),jZ c c r=some (FZ c r):=by
 intro c R r
 cases c<;>simp [jZ,FZ]
theorem aL: ∀(l:List AC) {R:Type} (r:R),Mq l l r=some (nQ l r)
 | [],_,_=>rfl
 |c::l,_,r=>by simp only [Mq,aL l r,nQ];exact lH c _
def AV.fU:AV->Bool
 | .Il _=>false
 |_=>true
theorem xp: ∀(c:AV),c.fU=true-> ∀ {R:Type} (r:R),gG c c r=some (XD c r):=by
 intro c hn R r
 cases c with
 |Il l=>cases hn
 | «at»a=>exact lH a r
 |agg cs=>exact aL cs r
 |Vu fr τ x=>exact dif_pos ⟨rfl,rfl⟩
theorem yW: ∀(c:OB) {R:Type} (r:R),Nq c c r=some (YR c r):=by
 intro c R r
 cases c with
 |arr fr tr e t xs=>exact dif_pos ⟨rfl,rfl,rfl,rfl⟩
 |Dn e t xs=>exact dif_pos ⟨rfl,rfl⟩
 |Qc v m=>exact dif_pos rfl
 |Ak e te rows out kp=>
  cases kp with
  |none=>exact dif_pos ⟨rfl,rfl,rfl⟩
  |some p=>exact dif_pos ⟨rfl,rfl,rfl,rfl⟩
 |var t vs=>
  have h0:Nq (.var t vs) (.var t vs) r=Mq vs vs r:=if_pos rfl
  exact h0.trans (aL vs r)
theorem gp: ∀(l:List AV),(∀c∈l,c.fU=true)-> ∀ {R:Type} (r:R),Ka l l r=some (nH l r)
 | [],_,_,_=>rfl
 |c::l,h,_,r=>by simp only [Ka,gp l (λc hc=>h c (List.mem_cons_of_mem _ hc)) r,nH];exact xp c (h c (by simp)) _
theorem fL: ∀(l:List (Nat×OB)) {R:Type} (r:R),La l l r=some (nz l r)
 | [],_,_=>rfl
 |c::l,_,r=>by simp only [La,if_true,fL l r,nz];exact yW c.2 _
theorem mw (s:St) (h: ∀c∈s.tmps,c.fU=true):eb s s=some (HS s):=by
 simp only [eb,fL,HS]
 exact gp _ h _
theorem At {α:Type} {o:Option α} {K:α->Prop} :Ei o K↔ ∃x,o=some x/\K x:=by
 unfold Ei
 cases o with
 |none=>simp
 |some x=>simp
theorem iA: ∀(l m:List AC),l.map Nm=m.map Nm->l.flatMap Wa=m.flatMap Wa->l=m
 | [],[],_,_=>rfl
 | [],_::_,h,_=>by simp at h
 |_::_,[],h,_=>by simp at h
 |c::l,d::m,h,ho=>by
  simp only [List.map_cons,List.cons.injEq] at h
  simp only [List.flatMap_cons] at ho
  have hcd:c=d/\l.flatMap Wa=m.flatMap Wa:=by
   cases c<;>cases d<;>first|(cases h.1;done)|skip
   all_goals first
    |(obtain ⟨h1,_⟩:=h
      simp only [Nm,AC.own.injEq] at h1
      simp only [Wa,List.cons_append,List.nil_append,List.cons.injEq,Prod.mk.injEq] at ho
      exact ⟨by rw [h1.1,ho.1.1,ho.1.2],ho.2⟩)
    |exact ⟨h.1,by simpa only [Wa,List.nil_append] using ho⟩
  rw [hcd.1,iA l m h.2 hcd.2]
theorem jo: ∀(l m:List AC),l.map Nm=m.map Nm->(l.flatMap Wa).length=(m.flatMap Wa).length
 | [],[],_=>rfl
 | [],_::_,h=>by simp at h
 |_::_,[],h=>by simp at h
 |c::l,d::m,h=>by
  simp only [List.map_cons,List.cons.injEq] at h
  simp only [List.flatMap_cons,List.length_append,jo l m h.2]
  congr 1
  cases c<;>cases d<;>first|rfl|(cases h.1;done)
theorem UC {c d:AV} (h:c.map Nm=d.map Nm):(Wc c).length=(Wc d).length/\(Wc c=Wc d->(∀l,c≠ .Il l)->c=d):=by
 cases c with
 | «at»a=>
  cases d<;>simp only [AV.map,AV.at.injEq,reduceCtorEq] at h
  rename_i b
  have h1: [a].map Nm= [b].map Nm:=by simp [h]
  refine ⟨by simpa [Wc] using jo [a] [b] h1,λho _=>?_⟩
  have:=iA [a] [b] h1 (by simpa [Wc] using ho)
  simpa using this
 |agg cs=>
  cases d<;>simp only [AV.map,AV.agg.injEq,reduceCtorEq] at h
  rename_i ds
  exact ⟨jo cs ds h,λho _=>by rw [iA cs ds h ho]⟩
 |Vu fr τ x=>
  cases d<;>simp only [AV.map,reduceCtorEq] at h
  exact ⟨rfl,λ_ _=>h⟩
 |Il l=>
  cases d<;>simp only [AV.map,reduceCtorEq] at h
  exact ⟨rfl,λ_ hn=>absurd rfl (hn l)⟩
theorem xr: ∀(l m:List AV),l.map (·.map Nm)=m.map (·.map Nm)->(∀c∈l,c.fU=true)->(l.flatMap Wc).length=(m.flatMap Wc).length/\(l.flatMap Wc=m.flatMap Wc->l=m)
 | [],[],_,_=>⟨rfl,λ_=>rfl⟩
 | [],_::_,h,_=>by simp at h
 |_::_,[],h,_=>by simp at h
 |c::l,d::m,h,hn=>by
  simp only [List.map_cons,List.cons.injEq] at h
  obtain ⟨h1,h2⟩:=UC h.1
  obtain ⟨h3,h4⟩:=xr l m h.2 λc hc=>hn c (List.mem_cons_of_mem _ hc)
  refine ⟨by simp only [List.flatMap_cons,List.length_append,h1,h3],λho=>?_⟩
  simp only [List.flatMap_cons] at ho
  obtain ⟨g1,g2⟩:=List.append_inj ho h1
  have hnt: ∀l',c≠ .Il l':= λl' e=>by
   have:=hn c (by simp)
   rw [e] at this
   cases this
  rw [h2 g1 hnt,h4 g2]
theorem VN {c d:OB} (h:c.map Nm=d.map Nm):(hY c).length=(hY d).length/\(hY c=hY d->c=d):=by
 cases c with
 |var t vs=>
  cases d<;>simp only [OB.map,OB.var.injEq,reduceCtorEq] at h
  rename_i t' us
  obtain ⟨rfl,h⟩:=h
  exact ⟨jo vs us h,λho=>by rw [iA vs us h ho]⟩
 |_=>cases d<;>simp only [OB.map,reduceCtorEq] at h<;>exact ⟨rfl,λ_=>h⟩
theorem sX: ∀(l m:List (Nat×OB)),l.map (λp=>(p.1,p.2.map Nm))=m.map (λp=>(p.1,p.2.map Nm))->(l.flatMap λp=>hY p.2)=(m.flatMap λp=>hY p.2)->l=m
 | [],[],_,_=>rfl
 | [],_::_,h,_=>by simp at h
 |_::_,[],h,_=>by simp at h
 |(k,c)::l,(k',d)::m,h,ho=>by
  simp only [List.map_cons,List.cons.injEq,Prod.mk.injEq] at h
  simp only [List.flatMap_cons] at ho
  obtain ⟨h1,h2⟩:=VN h.1.2
  obtain ⟨g1,g2⟩:=List.append_inj ho h1
  rw [h.1.1,h2 g1,sX l m h.2 g2]
theorem xq (l:List (Bool×List AC)) (e:AV) {R:Type} (r:R):gG (.Il l) e r=none:=by cases e<;>rfl
theorem uu {d e:AV} {R:Type} {r:R} {v:avV d R} (h:gG d e r=some v):d.fU=true:=by
 cases d with
 |Il l=>rw [xq] at h;cases h
 |_=>rfl
theorem eg: ∀(l m:List AV) {R:Type} (r:R) (v:mD l R),Ka l m r=some v-> ∀c∈l,c.fU=true
 | [],_,_,_,_,_,c,hc=>by cases hc
 |d::l,[],_,r,v,h,c,hc=>by cases h
 |d::l,e::m,R,r,v,h,c,hc=>by
  simp only [Ka] at h
  cases hr:Ka l m r with
  |none=>rw [hr] at h;cases h
  |some r'=>
   rw [hr] at h
   rcases List.mem_cons.1 hc with hc|hc
   ·rw [hc];exact uu h
   ·exact eg l m r r' hr c hc
theorem sN {s0 s:St} (h:eqW s0 s):s=s0:=by
 obtain ⟨ho,h⟩:=h
 obtain ⟨v,h1,h2⟩:=At.1 h
 subst h2
 have hn: ∀c∈s0.tmps,c.fU=true:=by
  unfold eb at h1
  cases hr:La s0.heap s.heap () with
  |none=>rw [hr] at h1;cases h1
  |some r=>rw [hr] at h1;exact eg _ _ _ _ h1
 have e:=(ec h1).symm.trans (ec (mw s0 hn))
 simp only [St.Gv,St.mk.injEq] at e
 obtain ⟨e1,e2⟩:=e
 obtain ⟨l1,l2⟩:=xr s0.tmps s.tmps e1.symm hn
 unfold FB at ho
 obtain ⟨g1,g2⟩:=List.append_inj ho l1.symm
 have k1:=l2 g1.symm
 have k2:=sX s.heap s0.heap e2 g2
 cases s;cases s0
 simp only at k1 k2
 rw [k1,k2]
end Go.Proofs.YtfolipnappekaaaGreat
