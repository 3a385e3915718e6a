/-
  Part 32 of the proof that the statement FnMethods holds.
-/
import Derived.Test.YtkkdpknjohcekaaGreatCFMethods30
namespace Go.Proofs.YtkkdpknjohcekaaGreat
open Go.RowKit
def Tr:AC->AC
 | .own l _ _=> .own l 0 0
 |c=>c
theorem qy: ∀(c d:AC) {R:Type} (r:R) (v:acV c R),pj c d r=some v->Tr (lW c v).1=Tr d/\(lW c v).2=r:=by
 intro c d R r v h
 cases c<;>cases d<;>simp only [pj] at h<;>first|(cases h;first|done|exact ⟨rfl,rfl⟩)|skip
 all_goals
  split at h
  ·rename_i hc
   first
    |(obtain ⟨h1,h2⟩:=hc;subst h1;subst h2;injection h with h;subst h;exact ⟨rfl,rfl⟩)
    |(subst hc;injection h with h;subst h;exact ⟨rfl,rfl⟩)
  ·cases h
theorem fh: ∀(l m:List AC) {R:Type} (r:R) (v:KT l R),Tb l m r=some v->(aS l v).1.map Tr=m.map Tr/\(aS l v).2=r
 | [],[],R,r,v,h=>by simp only [Tb] at h;injection h with h;subst h;exact ⟨rfl,rfl⟩
 | [],_::_,R,r,v,h=>by simp [Tb] at h
 |_::_,[],R,r,v,h=>by simp [Tb] at h
 |c::l,d::m,R,r,v,h=>by
  simp only [Tb] at h
  cases hr:Tb l m r with
  |none=>rw [hr] at h;cases h
  |some r'=>
   rw [hr] at h
   obtain ⟨h1,h2⟩:=qy c d r' v h
   obtain ⟨h3,h4⟩:=fh l m r r' hr
   simp only [aS,Bz]
   rw [h1,h2,h3]
   exact ⟨rfl,h4⟩
theorem EG: ∀(c d:AV) {R:Type} (r:R) (v:avV c R),m6 c d r=some v->(sR c v).1.map Tr=d.map Tr/\(sR c v).2=r
 | .at a, .at b,R,r,v,h=>by
  obtain ⟨h1,h2⟩:=qy a b r v h
  exact ⟨by show AV.at _=AV.at _;rw [h1],h2⟩
 | .agg cs, .agg ds,R,r,v,h=>by
  obtain ⟨h1,h2⟩:=fh cs ds r v h
  exact ⟨by show AV.agg _=AV.agg _;rw [h1],h2⟩
 | .bH fr τ y, .bH Wt Pj x,R,r,v,h=>by
  by_cases hc:Pj=τ/\Wt=fr
  ·obtain ⟨h1,h2⟩:=hc
   subst h1;subst h2
   have h3:some ((x,r):Pj.den×R)=some v:=by
    have:m6 (.bH Wt Pj y) (.bH Wt Pj x) r=some ((x,r):Pj.den×R):=Jw ⟨rfl,rfl⟩
    exact this.symm.trans h
   injection h3 with h3
   subst h3;exact ⟨rfl,rfl⟩
  ·have h3:m6 (.bH fr τ y) (.bH Wt Pj x) r=none:=dif_neg hc
   rw [h3] at h;cases h
 | .at _, .agg _,_,_,_,h=>nomatch (show none=some _ from h)
 | .at _, .bH _ _ _,_,_,_,h=>nomatch (show none=some _ from h)
 | .agg _, .at _,_,_,_,h=>nomatch (show none=some _ from h)
 | .agg _, .bH _ _ _,_,_,_,h=>nomatch (show none=some _ from h)
 | .bH _ _ _, .at _,_,_,_,h=>nomatch (show none=some _ from h)
 | .bH _ _ _, .agg _,_,_,_,h=>nomatch (show none=some _ from h)
 | .Nr _, .at _,_,_,_,h=>nomatch (show none=some _ from h)
 | .Nr _, .agg _,_,_,_,h=>nomatch (show none=some _ from h)
 | .Nr _, .bH _ _ _,_,_,_,h=>nomatch (show none=some _ from h)
 | .Nr _, .Nr _,_,_,_,h=>nomatch (show none=some _ from h)
 | .at _, .Nr _,_,_,_,h=>nomatch (show none=some _ from h)
 | .agg _, .Nr _,_,_,_,h=>nomatch (show none=some _ from h)
 | .bH _ _ _, .Nr _,_,_,_,h=>nomatch (show none=some _ from h)
theorem HL: ∀(c d:OB) {R:Type} (r:R) (v:obV c R),Tv c d r=some v->(uu c v).1.map Tr=d.map Tr/\(uu c v).2=r
 | .arr fr tr e tid ys, .arr Wt tr' e' Vo xs,R,r,v,h=>by
  by_cases hc:e'=e/\Wt=fr/\tr'=tr/\Vo=tid
  ·obtain ⟨h1,h2,h3,h4⟩:=hc
   subst h1;subst h2;subst h3;subst h4
   have h3:some ((xs,r):List e'.den×R)=some v:=by
    have:Tv (.arr Wt tr' e' Vo ys) (.arr Wt tr' e' Vo xs) r=some ((xs,r):List e'.den×R):=Jw ⟨rfl,rfl,rfl,rfl⟩
    exact this.symm.trans h
   injection h3 with h3
   subst h3;exact ⟨rfl,rfl⟩
  ·have h3:Tv (.arr fr tr e tid ys) (.arr Wt tr' e' Vo xs) r=none:=dif_neg hc
   rw [h3] at h;cases h
 | .Hs e tid ys, .Hs e' Vo xs,R,r,v,h=>by
  by_cases hc:e'=e/\Vo=tid
  ·obtain ⟨h1,h4⟩:=hc
   subst h1;subst h4
   have h3:some ((xs,r):List e'.den×R)=some v:=by
    have:Tv (.Hs e' Vo ys) (.Hs e' Vo xs) r=some ((xs,r):List e'.den×R):=Jw ⟨rfl,rfl⟩
    exact this.symm.trans h
   injection h3 with h3
   subst h3;exact ⟨rfl,rfl⟩
  ·have h3:Tv (.Hs e tid ys) (.Hs e' Vo xs) r=none:=dif_neg hc
   rw [h3] at h;cases h
 | .Wi vt m, .Wi vt' m',R,r,v,h=>by
  by_cases hc:vt'=vt
  ·subst hc
   have h3:some ((m',r):(ByteArray->Option vt'.den)×R)=some v:=by
    have:Tv (.Wi vt' m) (.Wi vt' m') r=some ((m',r):(ByteArray->Option vt'.den)×R):=Jw rfl
    exact this.symm.trans h
   injection h3 with h3
   subst h3;exact ⟨rfl,rfl⟩
  ·have h3:Tv (.Wi vt m) (.Wi vt' m') r=none:=dif_neg hc
   rw [h3] at h;cases h
 | .var t vs, .var t' us,R,r,v,h=>by
  by_cases hc:t'=t
  ·subst hc
   have h0:Tv (.var t' vs) (.var t' us) r=Tb vs us r:=Ab rfl
   rw [h0] at h
   obtain ⟨h1,h2⟩:=fh vs us r v h
   exact ⟨by show OB.var _ _=OB.var _ _;rw [h1],h2⟩
  ·have h3:Tv (.var t vs) (.var t' us) r=none:=Ai hc
   rw [h3] at h;cases h
 | .Bu e te ys out none, .Bu e' Se xs iy none,R,r,v,h=>by
  by_cases hc:e'=e/\Se=te/\iy=out
  ·obtain ⟨h1,h2,h4⟩:=hc
   subst h1;subst h2;subst h4
   have h3:some ((xs,r):List (List e'.den)×R)=some v:=by
    have:Tv (.Bu e' Se ys iy none) (.Bu e' Se xs iy none) r=some ((xs,r):List (List e'.den)×R):=Jw ⟨rfl,rfl,rfl⟩
    exact this.symm.trans h
   injection h3 with h3
   subst h3;exact ⟨rfl,rfl⟩
  ·have h3:Tv (.Bu e te ys out none) (.Bu e' Se xs iy none) r=none:=dif_neg hc
   rw [h3] at h;cases h
 | .Bu e te ys out (some p), .Bu e' Se xs iy (some p'),R,r,v,h=>by
  by_cases hc:e'=e/\Se=te/\iy=out/\p'.1=p.1
  ·obtain ⟨h1,h2,h4,h5⟩:=hc
   subst h1;subst h2;subst h4
   have h3:some ((xs,p'.2,r):List (List e'.den)×(Nat×R))=some v:=by
    have:Tv (.Bu e' Se ys iy (some p)) (.Bu e' Se xs iy (some p')) r=some ((xs,p'.2,r):List (List e'.den)×(Nat×R)):=Jw ⟨rfl,rfl,rfl,h5⟩
    exact this.symm.trans h
   injection h3 with h3
   subst h3
   refine ⟨?_,rfl⟩
   show OB.Bu e' Se xs iy (some (p.1,p'.2))=OB.Bu e' Se xs iy (some p')
   rw [<-h5]
  ·have h3:Tv (.Bu e te ys out (some p)) (.Bu e' Se xs iy (some p')) r=none:=dif_neg hc
   rw [h3] at h;cases h
 | .Bu _ _ _ _ none, .Bu _ _ _ _ (some _),_,_,_,h=>nomatch (show none=some _ from h)
 | .Bu _ _ _ _ (some _), .Bu _ _ _ _ none,_,_,_,h=>nomatch (show none=some _ from h)
 | .Bu _ _ _ _ none, .arr _ _ _ _ _,_,_,_,h=>nomatch (show none=some _ from h)
 | .Bu _ _ _ _ none, .Hs _ _ _,_,_,_,h=>nomatch (show none=some _ from h)
 | .Bu _ _ _ _ none, .var _ _,_,_,_,h=>nomatch (show none=some _ from h)
 | .Bu _ _ _ _ none, .Wi _ _,_,_,_,h=>nomatch (show none=some _ from h)
 | .Bu _ _ _ _ (some _), .arr _ _ _ _ _,_,_,_,h=>nomatch (show none=some _ from h)
 | .Bu _ _ _ _ (some _), .Hs _ _ _,_,_,_,h=>nomatch (show none=some _ from h)
 | .Bu _ _ _ _ (some _), .var _ _,_,_,_,h=>nomatch (show none=some _ from h)
 | .Bu _ _ _ _ (some _), .Wi _ _,_,_,_,h=>nomatch (show none=some _ from h)
 | .arr _ _ _ _ _, .Bu _ _ _ _ _,_,_,_,h=>nomatch (show none=some _ from h)
 | .Hs _ _ _, .Bu _ _ _ _ _,_,_,_,h=>nomatch (show none=some _ from h)
 | .var _ _, .Bu _ _ _ _ _,_,_,_,h=>nomatch (show none=some _ from h)
 | .Wi _ _, .Bu _ _ _ _ _,_,_,_,h=>nomatch (show none=some _ from h)
 | .arr _ _ _ _ _, .var _ _,_,_,_,h=>nomatch (show none=some _ from h)
 | .arr _ _ _ _ _, .Hs _ _ _,_,_,_,h=>nomatch (show none=some _ from h)
 | .arr _ _ _ _ _, .Wi _ _,_,_,_,h=>nomatch (show none=some _ from h)
 | .Hs _ _ _, .var _ _,_,_,_,h=>nomatch (show none=some _ from h)
 | .Hs _ _ _, .arr _ _ _ _ _,_,_,_,h=>nomatch (show none=some _ from h)
 | .Hs _ _ _, .Wi _ _,_,_,_,h=>nomatch (show none=some _ from h)
 | .Wi _ _, .var _ _,_,_,_,h=>nomatch (show none=some _ from h)
 | .Wi _ _, .arr _ _ _ _ _,_,_,_,h=>nomatch (show none=some _ from h)
 | .Wi _ _, .Hs _ _ _,_,_,_,h=>nomatch (show none=some _ from h)
 | .var _ _, .arr _ _ _ _ _,_,_,_,h=>nomatch (show none=some _ from h)
 | .var _ _, .Hs _ _ _,_,_,_,h=>nomatch (show none=some _ from h)
 | .var _ _, .Wi _ _,_,_,_,h=>nomatch (show none=some _ from h)
theorem lL: ∀(l m:List AV) {R:Type} (r:R) (v:rE l R),Py l m r=some v->(Xn l v).1.map (·.map Tr)=m.map (·.map Tr)/\(Xn l v).2=r
 | [],[],R,r,v,h=>by simp only [Py] at h;injection h with h;subst h;exact ⟨rfl,rfl⟩
 | [],_::_,R,r,v,h=>by simp [Py] at h
 |_::_,[],R,r,v,h=>by simp [Py] at h
 |c::l,d::m,R,r,v,h=>by
  simp only [Py] at h
  cases hr:Py l m r with
  |none=>rw [hr] at h;cases h
  |some r'=>
   rw [hr] at h
   obtain ⟨h1,h2⟩:=EG c d r' v h
   obtain ⟨h3,h4⟩:=lL l m r r' hr
   simp only [Xn,Bz]
   rw [h1,h2,h3]
   exact ⟨rfl,h4⟩
theorem lp: ∀(l m:List (Nat×OB)) {R:Type} (r:R) (v:xH l R),Qy l m r=some v->(eB l v).1.map (λp=>(p.1,p.2.map Tr))=m.map (λp=>(p.1,p.2.map Tr))/\(eB l v).2=r
 | [],[],R,r,v,h=>by simp only [Qy] at h;injection h with h;subst h;exact ⟨rfl,rfl⟩
 | [],_::_,R,r,v,h=>by simp [Qy] at h
 |_::_,[],R,r,v,h=>by simp [Qy] at h
 |c::l,d::m,R,r,v,h=>by
  simp only [Qy] at h
  split at h
  ·rename_i hk
   cases hr:Qy l m r with
   |none=>rw [hr] at h;cases h
   |some r'=>
    rw [hr] at h
    obtain ⟨h1,h2⟩:=HL c.2 d.2 r' v h
    obtain ⟨h3,h4⟩:=lp l m r r' hr
    simp only [eB,Bz]
    rw [h1,h2,h3,hk]
    exact ⟨rfl,h4⟩
  ·cases h
theorem jV {s t:St} {v:stV s} (h:jU s t=some v):(jT s v).Lx Tr=t.Lx Tr:=by
 unfold jU at h
 cases hr:Qy s.heap t.heap () with
 |none=>rw [hr] at h;cases h
 |some r=>
  rw [hr] at h
  obtain ⟨h1,h2⟩:=lL s.tmps t.tmps r v h
  obtain ⟨h3,_⟩:=lp s.heap t.heap () r hr
  simp only [jT,St.Lx]
  rw [h1,h2,h3]
theorem qz: ∀(c:AC) {R:Type} (r:R),pj c c r=some (QT c r):=by
 intro c R r
 cases c<;>simp [pj,QT]
theorem fi: ∀(l:List AC) {R:Type} (r:R),Tb l l r=some (sJ l r)
 | [],_,_=>rfl
 |c::l,_,r=>by simp only [Tb,fi l r,sJ];exact qz c _
def AV.lz:AV->Bool
 | .Nr _=>false
 |_=>true
theorem EH: ∀(c:AV),c.lz=true-> ∀ {R:Type} (r:R),m6 c c r=some (Ah6 c r):=by
 intro c hn R r
 cases c with
 |Nr l=>cases hn
 | «at»a=>exact qz a r
 |agg cs=>exact fi cs r
 |bH fr τ x=>exact Jw ⟨rfl,rfl⟩
theorem HM: ∀(c:OB) {R:Type} (r:R),Tv c c r=some (Aik c r):=by
 intro c R r
 cases c with
 |arr fr tr e t xs=>exact Jw ⟨rfl,rfl,rfl,rfl⟩
 |Hs e t xs=>exact Jw ⟨rfl,rfl⟩
 |Wi v m=>exact Jw rfl
 |Bu e te rows out kp=>
  cases kp with
  |none=>exact Jw ⟨rfl,rfl,rfl⟩
  |some p=>exact Jw ⟨rfl,rfl,rfl,rfl⟩
 |var t vs=>
  have h0:Tv (.var t vs) (.var t vs) r=Tb vs vs r:=Ab rfl
  exact h0.trans (fi vs r)
theorem lM: ∀(l:List AV),(∀c∈l,c.lz=true)-> ∀ {R:Type} (r:R),Py l l r=some (sy l r)
 | [],_,_,_=>rfl
 |c::l,h,_,r=>by simp only [Py,lM l (λc hc=>h c (Ap _ hc)) r,sy];exact EH c (h c (by simp)) _
theorem lq: ∀(l:List (Nat×OB)) {R:Type} (r:R),Qy l l r=some (sn l r)
 | [],_,_=>rfl
 |c::l,_,r=>by simp only [Qy,Pl,lq l r,sn];exact HM c.2 _
theorem ry (s:St) (h: ∀c∈s.tmps,c.lz=true):jU s s=some (TD s):=by
 simp only [jU,lq,TD]
 exact lM _ h _
theorem Cd {α:Type} {o:Option α} {K:α->Prop} :Iv o K↔ ∃x,o=some x/\K x:=by
 unfold Iv
 cases o with
 |none=>simp
 |some x=>simp
theorem nk: ∀(l m:List AC),l.map Tr=m.map Tr->l.flatMap bN=m.flatMap bN->l=m
 | [],[],_,_=>rfl
 | [],_::_,h,_=>by simp at h
 |_::_,[],h,_=>by simp at h
 |c::l,d::m,h,ho=>by
  simp only [Bz,Hq] at h
  simp only [Wj] at ho
  have hcd:c=d/\l.flatMap bN=m.flatMap bN:=by
   cases c<;>cases d<;>first|(cases h.1;done)|skip
   all_goals first
    |(obtain ⟨h1,_⟩:=h
      simp only [Tr,AC.own.injEq] at h1
      simp only [bN,Kj,iJ,Hq,Af] at ho
      exact ⟨by rw [h1.1,ho.1.1,ho.1.2],ho.2⟩)
    |exact ⟨h.1,by simpa only [bN,iJ] using ho⟩
  rw [hcd.1,nk l m h.2 hcd.2]
theorem oq: ∀(l m:List AC),l.map Tr=m.map Tr->(l.flatMap bN).length=(m.flatMap bN).length
 | [],[],_=>rfl
 | [],_::_,h=>by simp at h
 |_::_,[],h=>by simp at h
 |c::l,d::m,h=>by
  simp only [Bz,Hq] at h
  simp only [Wj,Aw,oq l m h.2]
  congr 1
  cases c<;>cases d<;>first|rfl|(cases h.1;done)
theorem Aef {c d:AV} (h:c.map Tr=d.map Tr):(bP c).length=(bP d).length/\(bP c=bP d->(∀l,c≠ .Nr l)->c=d):=by
 cases c with
 | «at»a=>
  cases d<;>simp only [AV.map,AV.at.injEq,reduceCtorEq] at h
  rename_i b
  have h1: [a].map Tr= [b].map Tr:=by simp [h]
  refine ⟨by simpa [bP] using oq [a] [b] h1,λho _=>?_⟩
  have:=nk [a] [b] h1 (by simpa [bP] using ho)
  simpa using this
 |agg cs=>
  cases d<;>simp only [AV.map,AV.agg.injEq,reduceCtorEq] at h
  rename_i ds
  exact ⟨oq cs ds h,λho _=>by rw [nk cs ds h ho]⟩
 |bH fr τ x=>
  cases d<;>simp only [AV.map,reduceCtorEq] at h
  exact ⟨rfl,λ_ _=>h⟩
 |Nr l=>
  cases d<;>simp only [AV.map,reduceCtorEq] at h
  exact ⟨rfl,λ_ hn=>absurd rfl (hn l)⟩
theorem EJ: ∀(l m:List AV),l.map (·.map Tr)=m.map (·.map Tr)->(∀c∈l,c.lz=true)->(l.flatMap bP).length=(m.flatMap bP).length/\(l.flatMap bP=m.flatMap bP->l=m)
 | [],[],_,_=>⟨rfl,λ_=>rfl⟩
 | [],_::_,h,_=>by simp at h
 |_::_,[],h,_=>by simp at h
 |c::l,d::m,h,hn=>by
  simp only [Bz,Hq] at h
  obtain ⟨h1,h2⟩:=Aef h.1
  obtain ⟨h3,h4⟩:=EJ l m h.2 λc hc=>hn c (Ap _ hc)
  refine ⟨by simp only [Wj,Aw,h1,h3],λho=>?_⟩
  simp only [Wj] at ho
  obtain ⟨g1,g2⟩:=List.append_inj ho h1
  have hnt: ∀l',c≠ .Nr l':= λl' e=>by
   have:=hn c (by simp)
   rw [e] at this
   cases this
  rw [h2 g1 hnt,h4 g2]
theorem Afu {c d:OB} (h:c.map Tr=d.map Tr):(mD c).length=(mD d).length/\(mD c=mD d->c=d):=by
 cases c with
 |var t vs=>
  cases d<;>simp only [OB.map,OB.var.injEq,reduceCtorEq] at h
  rename_i t' us
  obtain ⟨rfl,h⟩:=h
  exact ⟨oq vs us h,λho=>by rw [nk vs us h ho]⟩
 |_=>cases d<;>simp only [OB.map,reduceCtorEq] at h<;>exact ⟨rfl,λ_=>h⟩
theorem xI: ∀(l m:List (Nat×OB)),l.map (λp=>(p.1,p.2.map Tr))=m.map (λp=>(p.1,p.2.map Tr))->(l.flatMap λp=>mD p.2)=(m.flatMap λp=>mD p.2)->l=m
 | [],[],_,_=>rfl
 | [],_::_,h,_=>by simp at h
 |_::_,[],h,_=>by simp at h
 |(k,c)::l,(k',d)::m,h,ho=>by
  simp only [Bz,Hq,Af] at h
  simp only [Wj] at ho
  obtain ⟨h1,h2⟩:=Afu h.1.2
  obtain ⟨g1,g2⟩:=List.append_inj ho h1
  rw [h.1.1,h2 g1,xI l m h.2 g2]
theorem EI (l:List (Bool×List AC)) (e:AV) {R:Type} (r:R):m6 (.Nr l) e r=none:=by cases e<;>rfl
theorem zh {d e:AV} {R:Type} {r:R} {v:avV d R} (h:m6 d e r=some v):d.lz=true:=by
 cases d with
 |Nr l=>rw [EI] at h;cases h
 |_=>rfl
theorem jZ: ∀(l m:List AV) {R:Type} (r:R) (v:rE l R),Py l m r=some v-> ∀c∈l,c.lz=true
 | [],_,_,_,_,_,c,hc=>by cases hc
 |d::l,[],_,r,v,h,c,hc=>by cases h
 |d::l,e::m,R,r,v,h,c,hc=>by
  simp only [Py] at h
  cases hr:Py l m r with
  |none=>rw [hr] at h;cases h
  |some r'=>
   rw [hr] at h
   rcases Bb.1 hc with hc|hc
   ·rw [hc];exact zh h
   ·exact jZ l m r r' hr c hc
theorem ef {s0 s:St} (h:eqW s0 s):s=s0:=by
 obtain ⟨ho,h⟩:=h
 obtain ⟨v,h1,h2⟩:=Cd.1 h
 subst h2
 have hn: ∀c∈s0.tmps,c.lz=true:=by
  unfold jU at h1
  cases hr:Qy s0.heap s.heap () with
  |none=>rw [hr] at h1;cases h1
  |some r=>rw [hr] at h1;exact jZ _ _ _ _ h1
 have e:=(jV h1).symm.trans (jV (ry s0 hn))
 simp only [St.Lx,St.mk.injEq] at e
 obtain ⟨e1,e2⟩:=e
 obtain ⟨l1,l2⟩:=EJ s0.tmps s.tmps e1.symm hn
 unfold PF at ho
 obtain ⟨g1,g2⟩:=List.append_inj ho l1.symm
 have k1:=l2 g1.symm
 have k2:=xI s.heap s0.heap e2 g2
 cases s;cases s0
 simp only at k1 k2
 rw [k1,k2]
end Go.Proofs.YtkkdpknjohcekaaGreat
