/-
  Part 32 of the proof that the statement FnExactSearchDepth holds.
-/
import Derived.Test.YtfolipnappekaaaGreatCSearchDepth30
namespace Go.Proofs.YtfolipnappekaaaGreat
open Go.RowKit
def Ta:AC->AC
 | .own l _ _=> .own l 0 0
 |c=>c
theorem qi: ∀(c d:AC) {R:Type} (r:R) (v:acV c R),oU c d r=some v->Ta (lK c v).1=Ta d/\(lK c v).2=r:=by
 intro c d R r v h
 cases c<;>cases d<;>simp only [oU] at h<;>first|(cases h;first|done|exact ⟨rfl,rfl⟩)|skip
 all_goals
  split at h
  ·rename_i hc
   first
    |(obtain ⟨h1,h2⟩:=hc;subst h1;subst h2;injection h with h;subst h;exact ⟨rfl,rfl⟩)
    |(subst hc;injection h with h;subst h;exact ⟨rfl,rfl⟩)
  ·cases h
theorem eK: ∀(l m:List AC) {R:Type} (r:R) (v:KU l R),Sh l m r=some v->(aK l v).1.map Ta=m.map Ta/\(aK l v).2=r
 | [],[],R,r,v,h=>by simp only [Sh] at h;injection h with h;subst h;exact ⟨rfl,rfl⟩
 | [],_::_,R,r,v,h=>by simp [Sh] at h
 |_::_,[],R,r,v,h=>by simp [Sh] at h
 |c::l,d::m,R,r,v,h=>by
  simp only [Sh] at h
  cases hr:Sh l m r with
  |none=>rw [hr] at h;cases h
  |some r'=>
   rw [hr] at h
   obtain ⟨h1,h2⟩:=qi c d r' v h
   obtain ⟨h3,h4⟩:=eK l m r r' hr
   simp only [aK,Ca]
   rw [h1,h2,h3]
   exact ⟨rfl,h4⟩
theorem DX: ∀(c d:AV) {R:Type} (r:R) (v:avV c R),lP c d r=some v->(ta c v).1.map Ta=d.map Ta/\(ta c v).2=r
 | .at a, .at b,R,r,v,h=>by
  obtain ⟨h1,h2⟩:=qi a b r v h
  exact ⟨by show AV.at _=AV.at _;rw [h1],h2⟩
 | .agg cs, .agg ds,R,r,v,h=>by
  obtain ⟨h1,h2⟩:=eK cs ds r v h
  exact ⟨by show AV.agg _=AV.agg _;rw [h1],h2⟩
 | .bz fr τ y, .bz Wb Oe x,R,r,v,h=>by
  by_cases hc:Oe=τ/\Wb=fr
  ·obtain ⟨h1,h2⟩:=hc
   subst h1;subst h2
   have h3:some ((x,r):Oe.den×R)=some v:=by
    have:lP (.bz Wb Oe y) (.bz Wb Oe x) r=some ((x,r):Oe.den×R):=Iy ⟨rfl,rfl⟩
    exact this.symm.trans h
   injection h3 with h3
   subst h3;exact ⟨rfl,rfl⟩
  ·have h3:lP (.bz fr τ y) (.bz Wb Oe x) r=none:=dif_neg hc
   rw [h3] at h;cases h
 | .at _, .agg _,_,_,_,h=>nomatch (show none=some _ from h)
 | .at _, .bz _ _ _,_,_,_,h=>nomatch (show none=some _ from h)
 | .agg _, .at _,_,_,_,h=>nomatch (show none=some _ from h)
 | .agg _, .bz _ _ _,_,_,_,h=>nomatch (show none=some _ from h)
 | .bz _ _ _, .at _,_,_,_,h=>nomatch (show none=some _ from h)
 | .bz _ _ _, .agg _,_,_,_,h=>nomatch (show none=some _ from h)
 | .Mq _, .at _,_,_,_,h=>nomatch (show none=some _ from h)
 | .Mq _, .agg _,_,_,_,h=>nomatch (show none=some _ from h)
 | .Mq _, .bz _ _ _,_,_,_,h=>nomatch (show none=some _ from h)
 | .Mq _, .Mq _,_,_,_,h=>nomatch (show none=some _ from h)
 | .at _, .Mq _,_,_,_,h=>nomatch (show none=some _ from h)
 | .agg _, .Mq _,_,_,_,h=>nomatch (show none=some _ from h)
 | .bz _ _ _, .Mq _,_,_,_,h=>nomatch (show none=some _ from h)
theorem HC: ∀(c d:OB) {R:Type} (r:R) (v:obV c R),Td c d r=some v->(ur c v).1.map Ta=d.map Ta/\(ur c v).2=r
 | .arr fr tr e tid ys, .arr Wb tr' e' Ux xs,R,r,v,h=>by
  by_cases hc:e'=e/\Wb=fr/\tr'=tr/\Ux=tid
  ·obtain ⟨h1,h2,h3,h4⟩:=hc
   subst h1;subst h2;subst h3;subst h4
   have h3:some ((xs,r):List e'.den×R)=some v:=by
    have:Td (.arr Wb tr' e' Ux ys) (.arr Wb tr' e' Ux xs) r=some ((xs,r):List e'.den×R):=Iy ⟨rfl,rfl,rfl,rfl⟩
    exact this.symm.trans h
   injection h3 with h3
   subst h3;exact ⟨rfl,rfl⟩
  ·have h3:Td (.arr fr tr e tid ys) (.arr Wb tr' e' Ux xs) r=none:=dif_neg hc
   rw [h3] at h;cases h
 | .Gt e tid ys, .Gt e' Ux xs,R,r,v,h=>by
  by_cases hc:e'=e/\Ux=tid
  ·obtain ⟨h1,h4⟩:=hc
   subst h1;subst h4
   have h3:some ((xs,r):List e'.den×R)=some v:=by
    have:Td (.Gt e' Ux ys) (.Gt e' Ux xs) r=some ((xs,r):List e'.den×R):=Iy ⟨rfl,rfl⟩
    exact this.symm.trans h
   injection h3 with h3
   subst h3;exact ⟨rfl,rfl⟩
  ·have h3:Td (.Gt e tid ys) (.Gt e' Ux xs) r=none:=dif_neg hc
   rw [h3] at h;cases h
 | .Vs vt m, .Vs vt' m',R,r,v,h=>by
  by_cases hc:vt'=vt
  ·subst hc
   have h3:some ((m',r):(ByteArray->Option vt'.den)×R)=some v:=by
    have:Td (.Vs vt' m) (.Vs vt' m') r=some ((m',r):(ByteArray->Option vt'.den)×R):=Iy rfl
    exact this.symm.trans h
   injection h3 with h3
   subst h3;exact ⟨rfl,rfl⟩
  ·have h3:Td (.Vs vt m) (.Vs vt' m') r=none:=dif_neg hc
   rw [h3] at h;cases h
 | .var t vs, .var t' us,R,r,v,h=>by
  by_cases hc:t'=t
  ·subst hc
   have h0:Td (.var t' vs) (.var t' us) r=Sh vs us r:=Ab rfl
   rw [h0] at h
   obtain ⟨h1,h2⟩:=eK vs us r v h
   exact ⟨by show OB.var _ _=OB.var _ _;rw [h1],h2⟩
  ·have h3:Td (.var t vs) (.var t' us) r=none:=Ag hc
   rw [h3] at h;cases h
 | .Bm e te ys out none, .Bm e' Rb xs gN none,R,r,v,h=>by
  by_cases hc:e'=e/\Rb=te/\gN=out
  ·obtain ⟨h1,h2,h4⟩:=hc
   subst h1;subst h2;subst h4
   have h3:some ((xs,r):List (List e'.den)×R)=some v:=by
    have:Td (.Bm e' Rb ys gN none) (.Bm e' Rb xs gN none) r=some ((xs,r):List (List e'.den)×R):=Iy ⟨rfl,rfl,rfl⟩
    exact this.symm.trans h
   injection h3 with h3
   subst h3;exact ⟨rfl,rfl⟩
  ·have h3:Td (.Bm e te ys out none) (.Bm e' Rb xs gN none) r=none:=dif_neg hc
   rw [h3] at h;cases h
 | .Bm e te ys out (some p), .Bm e' Rb xs gN (some p'),R,r,v,h=>by
  by_cases hc:e'=e/\Rb=te/\gN=out/\p'.1=p.1
  ·obtain ⟨h1,h2,h4,h5⟩:=hc
   subst h1;subst h2;subst h4
   have h3:some ((xs,p'.2,r):List (List e'.den)×(Nat×R))=some v:=by
    have:Td (.Bm e' Rb ys gN (some p)) (.Bm e' Rb xs gN (some p')) r=some ((xs,p'.2,r):List (List e'.den)×(Nat×R)):=Iy ⟨rfl,rfl,rfl,h5⟩
    exact this.symm.trans h
   injection h3 with h3
   subst h3
   refine ⟨?_,rfl⟩
   show OB.Bm e' Rb xs gN (some (p.1,p'.2))=OB.Bm e' Rb xs gN (some p')
   rw [<-h5]
  ·have h3:Td (.Bm e te ys out (some p)) (.Bm e' Rb xs gN (some p')) r=none:=dif_neg hc
   rw [h3] at h;cases h
 | .Bm _ _ _ _ none, .Bm _ _ _ _ (some _),_,_,_,h=>nomatch (show none=some _ from h)
 | .Bm _ _ _ _ (some _), .Bm _ _ _ _ none,_,_,_,h=>nomatch (show none=some _ from h)
 | .Bm _ _ _ _ none, .arr _ _ _ _ _,_,_,_,h=>nomatch (show none=some _ from h)
 | .Bm _ _ _ _ none, .Gt _ _ _,_,_,_,h=>nomatch (show none=some _ from h)
 | .Bm _ _ _ _ none, .var _ _,_,_,_,h=>nomatch (show none=some _ from h)
 | .Bm _ _ _ _ none, .Vs _ _,_,_,_,h=>nomatch (show none=some _ from h)
 | .Bm _ _ _ _ (some _), .arr _ _ _ _ _,_,_,_,h=>nomatch (show none=some _ from h)
 | .Bm _ _ _ _ (some _), .Gt _ _ _,_,_,_,h=>nomatch (show none=some _ from h)
 | .Bm _ _ _ _ (some _), .var _ _,_,_,_,h=>nomatch (show none=some _ from h)
 | .Bm _ _ _ _ (some _), .Vs _ _,_,_,_,h=>nomatch (show none=some _ from h)
 | .arr _ _ _ _ _, .Bm _ _ _ _ _,_,_,_,h=>nomatch (show none=some _ from h)
 | .Gt _ _ _, .Bm _ _ _ _ _,_,_,_,h=>nomatch (show none=some _ from h)
 | .var _ _, .Bm _ _ _ _ _,_,_,_,h=>nomatch (show none=some _ from h)
 | .Vs _ _, .Bm _ _ _ _ _,_,_,_,h=>nomatch (show none=some _ from h)
 | .arr _ _ _ _ _, .var _ _,_,_,_,h=>nomatch (show none=some _ from h)
 | .arr _ _ _ _ _, .Gt _ _ _,_,_,_,h=>nomatch (show none=some _ from h)
 | .arr _ _ _ _ _, .Vs _ _,_,_,_,h=>nomatch (show none=some _ from h)
 | .Gt _ _ _, .var _ _,_,_,_,h=>nomatch (show none=some _ from h)
 | .Gt _ _ _, .arr _ _ _ _ _,_,_,_,h=>nomatch (show none=some _ from h)
 | .Gt _ _ _, .Vs _ _,_,_,_,h=>nomatch (show none=some _ from h)
 | .Vs _ _, .var _ _,_,_,_,h=>nomatch (show none=some _ from h)
 | .Vs _ _, .arr _ _ _ _ _,_,_,_,h=>nomatch (show none=some _ from h)
 | .Vs _ _, .Gt _ _ _,_,_,_,h=>nomatch (show none=some _ from h)
 | .var _ _, .arr _ _ _ _ _,_,_,_,h=>nomatch (show none=some _ from h)
 | .var _ _, .Gt _ _ _,_,_,_,h=>nomatch (show none=some _ from h)
 | .var _ _, .Vs _ _,_,_,_,h=>nomatch (show none=some _ from h)
theorem lB: ∀(l m:List AV) {R:Type} (r:R) (v:ru l R),Oy l m r=some v->(Wu l v).1.map (·.map Ta)=m.map (·.map Ta)/\(Wu l v).2=r
 | [],[],R,r,v,h=>by simp only [Oy] at h;injection h with h;subst h;exact ⟨rfl,rfl⟩
 | [],_::_,R,r,v,h=>by simp [Oy] at h
 |_::_,[],R,r,v,h=>by simp [Oy] at h
 |c::l,d::m,R,r,v,h=>by
  simp only [Oy] at h
  cases hr:Oy l m r with
  |none=>rw [hr] at h;cases h
  |some r'=>
   rw [hr] at h
   obtain ⟨h1,h2⟩:=DX c d r' v h
   obtain ⟨h3,h4⟩:=lB l m r r' hr
   simp only [Wu,Ca]
   rw [h1,h2,h3]
   exact ⟨rfl,h4⟩
theorem l5: ∀(l m:List (Nat×OB)) {R:Type} (r:R) (v:xV l R),Qe l m r=some v->(dU l v).1.map (λp=>(p.1,p.2.map Ta))=m.map (λp=>(p.1,p.2.map Ta))/\(dU l v).2=r
 | [],[],R,r,v,h=>by simp only [Qe] at h;injection h with h;subst h;exact ⟨rfl,rfl⟩
 | [],_::_,R,r,v,h=>by simp [Qe] at h
 |_::_,[],R,r,v,h=>by simp [Qe] at h
 |c::l,d::m,R,r,v,h=>by
  simp only [Qe] at h
  split at h
  ·rename_i hk
   cases hr:Qe l m r with
   |none=>rw [hr] at h;cases h
   |some r'=>
    rw [hr] at h
    obtain ⟨h1,h2⟩:=HC c.2 d.2 r' v h
    obtain ⟨h3,h4⟩:=l5 l m r r' hr
    simp only [dU,Ca]
    rw [h1,h2,h3,hk]
    exact ⟨rfl,h4⟩
  ·cases h
theorem js {s t:St} {v:stV s} (h:jr s t=some v):(jq s v).Kr Ta=t.Kr Ta:=by
 unfold jr at h
 cases hr:Qe s.heap t.heap () with
 |none=>rw [hr] at h;cases h
 |some r=>
  rw [hr] at h
  obtain ⟨h1,h2⟩:=lB s.tmps t.tmps r v h
  obtain ⟨h3,_⟩:=l5 s.heap t.heap () r hr
  simp only [jq,St.Kr]
  rw [h1,h2,h3]
theorem qj: ∀(c:AC) {R:Type} (r:R),oU c c r=some (QP c r):=by
 intro c R r
 cases c<;>simp [oU,QP]
theorem eL: ∀(l:List AC) {R:Type} (r:R),Sh l l r=some (sR l r)
 | [],_,_=>rfl
 |c::l,_,r=>by simp only [Sh,eL l r,sR];exact qj c _
def AV.lk:AV->Bool
 | .Mq _=>false
 |_=>true
theorem DY: ∀(c:AV),c.lk=true-> ∀ {R:Type} (r:R),lP c c r=some (Afw c r):=by
 intro c hn R r
 cases c with
 |Mq l=>cases hn
 | «at»a=>exact qj a r
 |agg cs=>exact eL cs r
 |bz fr τ x=>exact Iy ⟨rfl,rfl⟩
theorem HD: ∀(c:OB) {R:Type} (r:R),Td c c r=some (Ahe c r):=by
 intro c R r
 cases c with
 |arr fr tr e t xs=>exact Iy ⟨rfl,rfl,rfl,rfl⟩
 |Gt e t xs=>exact Iy ⟨rfl,rfl⟩
 |Vs v m=>exact Iy rfl
 |Bm e te rows out kp=>
  cases kp with
  |none=>exact Iy ⟨rfl,rfl,rfl⟩
  |some p=>exact Iy ⟨rfl,rfl,rfl,rfl⟩
 |var t vs=>
  have h0:Td (.var t vs) (.var t vs) r=Sh vs vs r:=Ab rfl
  exact h0.trans (eL vs r)
theorem lC: ∀(l:List AV),(∀c∈l,c.lk=true)-> ∀ {R:Type} (r:R),Oy l l r=some (sL l r)
 | [],_,_,_=>rfl
 |c::l,h,_,r=>by simp only [Oy,lC l (λc hc=>h c (As _ hc)) r,sL];exact DY c (h c (by simp)) _
theorem l6: ∀(l:List (Nat×OB)) {R:Type} (r:R),Qe l l r=some (sy l r)
 | [],_,_=>rfl
 |c::l,_,r=>by simp only [Qe,Ph,l6 l r,sy];exact HD c.2 _
theorem rh (s:St) (h: ∀c∈s.tmps,c.lk=true):jr s s=some (SN s):=by
 simp only [jr,l6,SN]
 exact lC _ h _
theorem Ce {α:Type} {o:Option α} {K:α->Prop} :Ht o K↔ ∃x,o=some x/\K x:=by
 unfold Ht
 cases o with
 |none=>simp
 |some x=>simp
theorem mL: ∀(l m:List AC),l.map Ta=m.map Ta->l.flatMap bD=m.flatMap bD->l=m
 | [],[],_,_=>rfl
 | [],_::_,h,_=>by simp at h
 |_::_,[],h,_=>by simp at h
 |c::l,d::m,h,ho=>by
  simp only [Ca,Gb] at h
  simp only [cp] at ho
  have hcd:c=d/\l.flatMap bD=m.flatMap bD:=by
   cases c<;>cases d<;>first|(cases h.1;done)|skip
   all_goals first
    |(obtain ⟨h1,_⟩:=h
      simp only [Ta,AC.own.injEq] at h1
      simp only [bD,Ma,gZ,Gb,Ad] at ho
      exact ⟨by rw [h1.1,ho.1.1,ho.1.2],ho.2⟩)
    |exact ⟨h.1,by simpa only [bD,gZ] using ho⟩
  rw [hcd.1,mL l m h.2 hcd.2]
theorem nV: ∀(l m:List AC),l.map Ta=m.map Ta->(l.flatMap bD).length=(m.flatMap bD).length
 | [],[],_=>rfl
 | [],_::_,h=>by simp at h
 |_::_,[],h=>by simp at h
 |c::l,d::m,h=>by
  simp only [Ca,Gb] at h
  simp only [cp,Ax,nV l m h.2]
  congr 1
  cases c<;>cases d<;>first|rfl|(cases h.1;done)
theorem Adg {c d:AV} (h:c.map Ta=d.map Ta):(bF c).length=(bF d).length/\(bF c=bF d->(∀l,c≠ .Mq l)->c=d):=by
 cases c with
 | «at»a=>
  cases d<;>simp only [AV.map,AV.at.injEq,reduceCtorEq] at h
  rename_i b
  have h1: [a].map Ta= [b].map Ta:=by simp [h]
  refine ⟨by simpa [bF] using nV [a] [b] h1,λho _=>?_⟩
  have:=mL [a] [b] h1 (by simpa [bF] using ho)
  simpa using this
 |agg cs=>
  cases d<;>simp only [AV.map,AV.agg.injEq,reduceCtorEq] at h
  rename_i ds
  exact ⟨nV cs ds h,λho _=>by rw [mL cs ds h ho]⟩
 |bz fr τ x=>
  cases d<;>simp only [AV.map,reduceCtorEq] at h
  exact ⟨rfl,λ_ _=>h⟩
 |Mq l=>
  cases d<;>simp only [AV.map,reduceCtorEq] at h
  exact ⟨rfl,λ_ hn=>absurd rfl (hn l)⟩
theorem EA: ∀(l m:List AV),l.map (·.map Ta)=m.map (·.map Ta)->(∀c∈l,c.lk=true)->(l.flatMap bF).length=(m.flatMap bF).length/\(l.flatMap bF=m.flatMap bF->l=m)
 | [],[],_,_=>⟨rfl,λ_=>rfl⟩
 | [],_::_,h,_=>by simp at h
 |_::_,[],h,_=>by simp at h
 |c::l,d::m,h,hn=>by
  simp only [Ca,Gb] at h
  obtain ⟨h1,h2⟩:=Adg h.1
  obtain ⟨h3,h4⟩:=EA l m h.2 λc hc=>hn c (As _ hc)
  refine ⟨by simp only [cp,Ax,h1,h3],λho=>?_⟩
  simp only [cp] at ho
  obtain ⟨g1,g2⟩:=List.append_inj ho h1
  have hnt: ∀l',c≠ .Mq l':= λl' e=>by
   have:=hn c (by simp)
   rw [e] at this
   cases this
  rw [h2 g1 hnt,h4 g2]
theorem Ael {c d:OB} (h:c.map Ta=d.map Ta):(mh c).length=(mh d).length/\(mh c=mh d->c=d):=by
 cases c with
 |var t vs=>
  cases d<;>simp only [OB.map,OB.var.injEq,reduceCtorEq] at h
  rename_i t' us
  obtain ⟨rfl,h⟩:=h
  exact ⟨nV vs us h,λho=>by rw [mL vs us h ho]⟩
 |_=>cases d<;>simp only [OB.map,reduceCtorEq] at h<;>exact ⟨rfl,λ_=>h⟩
theorem xW: ∀(l m:List (Nat×OB)),l.map (λp=>(p.1,p.2.map Ta))=m.map (λp=>(p.1,p.2.map Ta))->(l.flatMap λp=>mh p.2)=(m.flatMap λp=>mh p.2)->l=m
 | [],[],_,_=>rfl
 | [],_::_,h,_=>by simp at h
 |_::_,[],h,_=>by simp at h
 |(k,c)::l,(k',d)::m,h,ho=>by
  simp only [Ca,Gb,Ad] at h
  simp only [cp] at ho
  obtain ⟨h1,h2⟩:=Ael h.1.2
  obtain ⟨g1,g2⟩:=List.append_inj ho h1
  rw [h.1.1,h2 g1,xW l m h.2 g2]
theorem DZ (l:List (Bool×List AC)) (e:AV) {R:Type} (r:R):lP (.Mq l) e r=none:=by cases e<;>rfl
theorem zj {d e:AV} {R:Type} {r:R} {v:avV d R} (h:lP d e r=some v):d.lk=true:=by
 cases d with
 |Mq l=>rw [DZ] at h;cases h
 |_=>rfl
theorem jx: ∀(l m:List AV) {R:Type} (r:R) (v:ru l R),Oy l m r=some v-> ∀c∈l,c.lk=true
 | [],_,_,_,_,_,c,hc=>by cases hc
 |d::l,[],_,r,v,h,c,hc=>by cases h
 |d::l,e::m,R,r,v,h,c,hc=>by
  simp only [Oy] at h
  cases hr:Oy l m r with
  |none=>rw [hr] at h;cases h
  |some r'=>
   rw [hr] at h
   rcases Be.1 hc with hc|hc
   ·rw [hc];exact zj h
   ·exact jx l m r r' hr c hc
theorem jL {s0 s:St} (h:eqW s0 s):s=s0:=by
 obtain ⟨ho,h⟩:=h
 obtain ⟨v,h1,h2⟩:=Ce.1 h
 subst h2
 have hn: ∀c∈s0.tmps,c.lk=true:=by
  unfold jr at h1
  cases hr:Qe s0.heap s.heap () with
  |none=>rw [hr] at h1;cases h1
  |some r=>rw [hr] at h1;exact jx _ _ _ _ h1
 have e:=(js h1).symm.trans (js (rh s0 hn))
 simp only [St.Kr,St.mk.injEq] at e
 obtain ⟨e1,e2⟩:=e
 obtain ⟨l1,l2⟩:=EA s0.tmps s.tmps e1.symm hn
 unfold PR at ho
 obtain ⟨g1,g2⟩:=List.append_inj ho l1.symm
 have k1:=l2 g1.symm
 have k2:=xW s.heap s0.heap e2 g2
 cases s;cases s0
 simp only at k1 k2
 rw [k1,k2]
end Go.Proofs.YtfolipnappekaaaGreat
