/-
  Part 32 of the proof that the statement FnExactIterationNodes holds.
-/
import Derived.Test.YtfolipnappekaaaGreatCIterationNodes30
namespace Go.Proofs.YtfolipnappekaaaGreat
open Go.RowKit
def Tc:AC->AC
 | .own l _ _=> .own l 0 0
 |c=>c
theorem qz: ∀(c d:AC) {R:Type} (r:R) (v:acV c R),pa c d r=some v->Tc (lY c v).1=Tc d/\(lY c v).2=r:=by
 intro c d R r v h
 cases c<;>cases d<;>simp only [pa] at h<;>first|(cases h;first|done|exact ⟨rfl,rfl⟩)|skip
 all_goals
  split at h
  ·rename_i hc
   first
    |(obtain ⟨h1,h2⟩:=hc;subst h1;subst h2;injection h with h;subst h;exact ⟨rfl,rfl⟩)
    |(subst hc;injection h with h;subst h;exact ⟨rfl,rfl⟩)
  ·cases h
theorem eU: ∀(l m:List AC) {R:Type} (r:R) (v:LR l R),Sj l m r=some v->(aS l v).1.map Tc=m.map Tc/\(aS l v).2=r
 | [],[],R,r,v,h=>by simp only [Sj] at h;injection h with h;subst h;exact ⟨rfl,rfl⟩
 | [],_::_,R,r,v,h=>by simp [Sj] at h
 |_::_,[],R,r,v,h=>by simp [Sj] at h
 |c::l,d::m,R,r,v,h=>by
  simp only [Sj] at h
  cases hr:Sj l m r with
  |none=>rw [hr] at h;cases h
  |some r'=>
   rw [hr] at h
   obtain ⟨h1,h2⟩:=qz c d r' v h
   obtain ⟨h3,h4⟩:=eU l m r r' hr
   simp only [aS,Cc]
   rw [h1,h2,h3]
   exact ⟨rfl,h4⟩
theorem EV: ∀(c d:AV) {R:Type} (r:R) (v:avV c R),m7 c d r=some v->(tC c v).1.map Tc=d.map Tc/\(tC c v).2=r
 | .at a, .at b,R,r,v,h=>by
  obtain ⟨h1,h2⟩:=qz a b r v h
  exact ⟨by show AV.at _=AV.at _;rw [h1],h2⟩
 | .agg cs, .agg ds,R,r,v,h=>by
  obtain ⟨h1,h2⟩:=eU cs ds r v h
  exact ⟨by show AV.agg _=AV.agg _;rw [h1],h2⟩
 | .bL fr τ y, .bL Wf Oh x,R,r,v,h=>by
  by_cases hc:Oh=τ/\Wf=fr
  ·obtain ⟨h1,h2⟩:=hc
   subst h1;subst h2
   have h3:some ((x,r):Oh.den×R)=some v:=by
    have:m7 (.bL Wf Oh y) (.bL Wf Oh x) r=some ((x,r):Oh.den×R):=Iy ⟨rfl,rfl⟩
    exact this.symm.trans h
   injection h3 with h3
   subst h3;exact ⟨rfl,rfl⟩
  ·have h3:m7 (.bL fr τ y) (.bL Wf Oh x) r=none:=dif_neg hc
   rw [h3] at h;cases h
 | .at _, .agg _,_,_,_,h=>nomatch (show none=some _ from h)
 | .at _, .bL _ _ _,_,_,_,h=>nomatch (show none=some _ from h)
 | .agg _, .at _,_,_,_,h=>nomatch (show none=some _ from h)
 | .agg _, .bL _ _ _,_,_,_,h=>nomatch (show none=some _ from h)
 | .bL _ _ _, .at _,_,_,_,h=>nomatch (show none=some _ from h)
 | .bL _ _ _, .agg _,_,_,_,h=>nomatch (show none=some _ from h)
 | .Ms _, .at _,_,_,_,h=>nomatch (show none=some _ from h)
 | .Ms _, .agg _,_,_,_,h=>nomatch (show none=some _ from h)
 | .Ms _, .bL _ _ _,_,_,_,h=>nomatch (show none=some _ from h)
 | .Ms _, .Ms _,_,_,_,h=>nomatch (show none=some _ from h)
 | .at _, .Ms _,_,_,_,h=>nomatch (show none=some _ from h)
 | .agg _, .Ms _,_,_,_,h=>nomatch (show none=some _ from h)
 | .bL _ _ _, .Ms _,_,_,_,h=>nomatch (show none=some _ from h)
theorem HZ: ∀(c d:OB) {R:Type} (r:R) (v:obV c R),Tf c d r=some v->(uP c v).1.map Tc=d.map Tc/\(uP c v).2=r
 | .arr fr tr e tid ys, .arr Wf tr' e' Vb xs,R,r,v,h=>by
  by_cases hc:e'=e/\Wf=fr/\tr'=tr/\Vb=tid
  ·obtain ⟨h1,h2,h3,h4⟩:=hc
   subst h1;subst h2;subst h3;subst h4
   have h3:some ((xs,r):List e'.den×R)=some v:=by
    have:Tf (.arr Wf tr' e' Vb ys) (.arr Wf tr' e' Vb xs) r=some ((xs,r):List e'.den×R):=Iy ⟨rfl,rfl,rfl,rfl⟩
    exact this.symm.trans h
   injection h3 with h3
   subst h3;exact ⟨rfl,rfl⟩
  ·have h3:Tf (.arr fr tr e tid ys) (.arr Wf tr' e' Vb xs) r=none:=dif_neg hc
   rw [h3] at h;cases h
 | .Gu e tid ys, .Gu e' Vb xs,R,r,v,h=>by
  by_cases hc:e'=e/\Vb=tid
  ·obtain ⟨h1,h4⟩:=hc
   subst h1;subst h4
   have h3:some ((xs,r):List e'.den×R)=some v:=by
    have:Tf (.Gu e' Vb ys) (.Gu e' Vb xs) r=some ((xs,r):List e'.den×R):=Iy ⟨rfl,rfl⟩
    exact this.symm.trans h
   injection h3 with h3
   subst h3;exact ⟨rfl,rfl⟩
  ·have h3:Tf (.Gu e tid ys) (.Gu e' Vb xs) r=none:=dif_neg hc
   rw [h3] at h;cases h
 | .Vv vt m, .Vv vt' m',R,r,v,h=>by
  by_cases hc:vt'=vt
  ·subst hc
   have h3:some ((m',r):(ByteArray->Option vt'.den)×R)=some v:=by
    have:Tf (.Vv vt' m) (.Vv vt' m') r=some ((m',r):(ByteArray->Option vt'.den)×R):=Iy rfl
    exact this.symm.trans h
   injection h3 with h3
   subst h3;exact ⟨rfl,rfl⟩
  ·have h3:Tf (.Vv vt m) (.Vv vt' m') r=none:=dif_neg hc
   rw [h3] at h;cases h
 | .var t vs, .var t' us,R,r,v,h=>by
  by_cases hc:t'=t
  ·subst hc
   have h0:Tf (.var t' vs) (.var t' us) r=Sj vs us r:=Ab rfl
   rw [h0] at h
   obtain ⟨h1,h2⟩:=eU vs us r v h
   exact ⟨by show OB.var _ _=OB.var _ _;rw [h1],h2⟩
  ·have h3:Tf (.var t vs) (.var t' us) r=none:=Ag hc
   rw [h3] at h;cases h
 | .Bm e te ys out none, .Bm e' Rf xs gX none,R,r,v,h=>by
  by_cases hc:e'=e/\Rf=te/\gX=out
  ·obtain ⟨h1,h2,h4⟩:=hc
   subst h1;subst h2;subst h4
   have h3:some ((xs,r):List (List e'.den)×R)=some v:=by
    have:Tf (.Bm e' Rf ys gX none) (.Bm e' Rf xs gX none) r=some ((xs,r):List (List e'.den)×R):=Iy ⟨rfl,rfl,rfl⟩
    exact this.symm.trans h
   injection h3 with h3
   subst h3;exact ⟨rfl,rfl⟩
  ·have h3:Tf (.Bm e te ys out none) (.Bm e' Rf xs gX none) r=none:=dif_neg hc
   rw [h3] at h;cases h
 | .Bm e te ys out (some p), .Bm e' Rf xs gX (some p'),R,r,v,h=>by
  by_cases hc:e'=e/\Rf=te/\gX=out/\p'.1=p.1
  ·obtain ⟨h1,h2,h4,h5⟩:=hc
   subst h1;subst h2;subst h4
   have h3:some ((xs,p'.2,r):List (List e'.den)×(Nat×R))=some v:=by
    have:Tf (.Bm e' Rf ys gX (some p)) (.Bm e' Rf xs gX (some p')) r=some ((xs,p'.2,r):List (List e'.den)×(Nat×R)):=Iy ⟨rfl,rfl,rfl,h5⟩
    exact this.symm.trans h
   injection h3 with h3
   subst h3
   refine ⟨?_,rfl⟩
   show OB.Bm e' Rf xs gX (some (p.1,p'.2))=OB.Bm e' Rf xs gX (some p')
   rw [<-h5]
  ·have h3:Tf (.Bm e te ys out (some p)) (.Bm e' Rf xs gX (some p')) r=none:=dif_neg hc
   rw [h3] at h;cases h
 | .Bm _ _ _ _ none, .Bm _ _ _ _ (some _),_,_,_,h=>nomatch (show none=some _ from h)
 | .Bm _ _ _ _ (some _), .Bm _ _ _ _ none,_,_,_,h=>nomatch (show none=some _ from h)
 | .Bm _ _ _ _ none, .arr _ _ _ _ _,_,_,_,h=>nomatch (show none=some _ from h)
 | .Bm _ _ _ _ none, .Gu _ _ _,_,_,_,h=>nomatch (show none=some _ from h)
 | .Bm _ _ _ _ none, .var _ _,_,_,_,h=>nomatch (show none=some _ from h)
 | .Bm _ _ _ _ none, .Vv _ _,_,_,_,h=>nomatch (show none=some _ from h)
 | .Bm _ _ _ _ (some _), .arr _ _ _ _ _,_,_,_,h=>nomatch (show none=some _ from h)
 | .Bm _ _ _ _ (some _), .Gu _ _ _,_,_,_,h=>nomatch (show none=some _ from h)
 | .Bm _ _ _ _ (some _), .var _ _,_,_,_,h=>nomatch (show none=some _ from h)
 | .Bm _ _ _ _ (some _), .Vv _ _,_,_,_,h=>nomatch (show none=some _ from h)
 | .arr _ _ _ _ _, .Bm _ _ _ _ _,_,_,_,h=>nomatch (show none=some _ from h)
 | .Gu _ _ _, .Bm _ _ _ _ _,_,_,_,h=>nomatch (show none=some _ from h)
 | .var _ _, .Bm _ _ _ _ _,_,_,_,h=>nomatch (show none=some _ from h)
 | .Vv _ _, .Bm _ _ _ _ _,_,_,_,h=>nomatch (show none=some _ from h)
 | .arr _ _ _ _ _, .var _ _,_,_,_,h=>nomatch (show none=some _ from h)
 | .arr _ _ _ _ _, .Gu _ _ _,_,_,_,h=>nomatch (show none=some _ from h)
 | .arr _ _ _ _ _, .Vv _ _,_,_,_,h=>nomatch (show none=some _ from h)
 | .Gu _ _ _, .var _ _,_,_,_,h=>nomatch (show none=some _ from h)
 | .Gu _ _ _, .arr _ _ _ _ _,_,_,_,h=>nomatch (show none=some _ from h)
 | .Gu _ _ _, .Vv _ _,_,_,_,h=>nomatch (show none=some _ from h)
 | .Vv _ _, .var _ _,_,_,_,h=>nomatch (show none=some _ from h)
 | .Vv _ _, .arr _ _ _ _ _,_,_,_,h=>nomatch (show none=some _ from h)
 | .Vv _ _, .Gu _ _ _,_,_,_,h=>nomatch (show none=some _ from h)
 | .var _ _, .arr _ _ _ _ _,_,_,_,h=>nomatch (show none=some _ from h)
 | .var _ _, .Gu _ _ _,_,_,_,h=>nomatch (show none=some _ from h)
 | .var _ _, .Vv _ _,_,_,_,h=>nomatch (show none=some _ from h)
theorem lP: ∀(l m:List AV) {R:Type} (r:R) (v:rQ l R),Pb l m r=some v->(Wz l v).1.map (·.map Tc)=m.map (·.map Tc)/\(Wz l v).2=r
 | [],[],R,r,v,h=>by simp only [Pb] at h;injection h with h;subst h;exact ⟨rfl,rfl⟩
 | [],_::_,R,r,v,h=>by simp [Pb] at h
 |_::_,[],R,r,v,h=>by simp [Pb] at h
 |c::l,d::m,R,r,v,h=>by
  simp only [Pb] at h
  cases hr:Pb l m r with
  |none=>rw [hr] at h;cases h
  |some r'=>
   rw [hr] at h
   obtain ⟨h1,h2⟩:=EV c d r' v h
   obtain ⟨h3,h4⟩:=lP l m r r' hr
   simp only [Wz,Cc]
   rw [h1,h2,h3]
   exact ⟨rfl,h4⟩
theorem ll: ∀(l m:List (Nat×OB)) {R:Type} (r:R) (v:yx l R),Qi l m r=some v->(ef l v).1.map (λp=>(p.1,p.2.map Tc))=m.map (λp=>(p.1,p.2.map Tc))/\(ef l v).2=r
 | [],[],R,r,v,h=>by simp only [Qi] at h;injection h with h;subst h;exact ⟨rfl,rfl⟩
 | [],_::_,R,r,v,h=>by simp [Qi] at h
 |_::_,[],R,r,v,h=>by simp [Qi] at h
 |c::l,d::m,R,r,v,h=>by
  simp only [Qi] at h
  split at h
  ·rename_i hk
   cases hr:Qi l m r with
   |none=>rw [hr] at h;cases h
   |some r'=>
    rw [hr] at h
    obtain ⟨h1,h2⟩:=HZ c.2 d.2 r' v h
    obtain ⟨h3,h4⟩:=ll l m r r' hr
    simp only [ef,Cc]
    rw [h1,h2,h3,hk]
    exact ⟨rfl,h4⟩
  ·cases h
theorem jE {s t:St} {v:stV s} (h:jD s t=some v):(jC s v).Ks Tc=t.Ks Tc:=by
 unfold jD at h
 cases hr:Qi s.heap t.heap () with
 |none=>rw [hr] at h;cases h
 |some r=>
  rw [hr] at h
  obtain ⟨h1,h2⟩:=lP s.tmps t.tmps r v h
  obtain ⟨h3,_⟩:=ll s.heap t.heap () r hr
  simp only [jC,St.Ks]
  rw [h1,h2,h3]
theorem qA: ∀(c:AC) {R:Type} (r:R),pa c c r=some (RO c r):=by
 intro c R r
 cases c<;>simp [pa,RO]
theorem eV: ∀(l:List AC) {R:Type} (r:R),Sj l l r=some (tp l r)
 | [],_,_=>rfl
 |c::l,_,r=>by simp only [Sj,eV l r,tp];exact qA c _
def AV.lE:AV->Bool
 | .Ms _=>false
 |_=>true
theorem EW: ∀(c:AV),c.lE=true-> ∀ {R:Type} (r:R),m7 c c r=some (Agn c r):=by
 intro c hn R r
 cases c with
 |Ms l=>cases hn
 | «at»a=>exact qA a r
 |agg cs=>exact eV cs r
 |bL fr τ x=>exact Iy ⟨rfl,rfl⟩
theorem IA: ∀(c:OB) {R:Type} (r:R),Tf c c r=some (Ai4 c r):=by
 intro c R r
 cases c with
 |arr fr tr e t xs=>exact Iy ⟨rfl,rfl,rfl,rfl⟩
 |Gu e t xs=>exact Iy ⟨rfl,rfl⟩
 |Vv v m=>exact Iy rfl
 |Bm e te rows out kp=>
  cases kp with
  |none=>exact Iy ⟨rfl,rfl,rfl⟩
  |some p=>exact Iy ⟨rfl,rfl,rfl,rfl⟩
 |var t vs=>
  have h0:Tf (.var t vs) (.var t vs) r=Sj vs vs r:=Ab rfl
  exact h0.trans (eV vs r)
theorem lQ: ∀(l:List AV),(∀c∈l,c.lE=true)-> ∀ {R:Type} (r:R),Pb l l r=some (td l r)
 | [],_,_,_=>rfl
 |c::l,h,_,r=>by simp only [Pb,lQ l (λc hc=>h c (At _ hc)) r,td];exact EW c (h c (by simp)) _
theorem lp: ∀(l:List (Nat×OB)) {R:Type} (r:R),Qi l l r=some (sO l r)
 | [],_,_=>rfl
 |c::l,_,r=>by simp only [Qi,Pn,lp l r,sO];exact IA c.2 _
theorem rH (s:St) (h: ∀c∈s.tmps,c.lE=true):jD s s=some (TN s):=by
 simp only [jD,lp,TN]
 exact lQ _ h _
theorem Cg {α:Type} {o:Option α} {K:α->Prop} :Ht o K↔ ∃x,o=some x/\K x:=by
 unfold Ht
 cases o with
 |none=>simp
 |some x=>simp
theorem mX: ∀(l m:List AC),l.map Tc=m.map Tc->l.flatMap bP=m.flatMap bP->l=m
 | [],[],_,_=>rfl
 | [],_::_,h,_=>by simp at h
 |_::_,[],h,_=>by simp at h
 |c::l,d::m,h,ho=>by
  simp only [Cc,Gc] at h
  simp only [cD] at ho
  have hcd:c=d/\l.flatMap bP=m.flatMap bP:=by
   cases c<;>cases d<;>first|(cases h.1;done)|skip
   all_goals first
    |(obtain ⟨h1,_⟩:=h
      simp only [Tc,AC.own.injEq] at h1
      simp only [bP,Md,ik,Gc,Ad] at ho
      exact ⟨by rw [h1.1,ho.1.1,ho.1.2],ho.2⟩)
    |exact ⟨h.1,by simpa only [bP,ik] using ho⟩
  rw [hcd.1,mX l m h.2 hcd.2]
theorem o6: ∀(l m:List AC),l.map Tc=m.map Tc->(l.flatMap bP).length=(m.flatMap bP).length
 | [],[],_=>rfl
 | [],_::_,h=>by simp at h
 |_::_,[],h=>by simp at h
 |c::l,d::m,h=>by
  simp only [Cc,Gc] at h
  simp only [cD,Ax,o6 l m h.2]
  congr 1
  cases c<;>cases d<;>first|rfl|(cases h.1;done)
theorem Ae8 {c d:AV} (h:c.map Tc=d.map Tc):(bR c).length=(bR d).length/\(bR c=bR d->(∀l,c≠ .Ms l)->c=d):=by
 cases c with
 | «at»a=>
  cases d<;>simp only [AV.map,AV.at.injEq,reduceCtorEq] at h
  rename_i b
  have h1: [a].map Tc= [b].map Tc:=by simp [h]
  refine ⟨by simpa [bR] using o6 [a] [b] h1,λho _=>?_⟩
  have:=mX [a] [b] h1 (by simpa [bR] using ho)
  simpa using this
 |agg cs=>
  cases d<;>simp only [AV.map,AV.agg.injEq,reduceCtorEq] at h
  rename_i ds
  exact ⟨o6 cs ds h,λho _=>by rw [mX cs ds h ho]⟩
 |bL fr τ x=>
  cases d<;>simp only [AV.map,reduceCtorEq] at h
  exact ⟨rfl,λ_ _=>h⟩
 |Ms l=>
  cases d<;>simp only [AV.map,reduceCtorEq] at h
  exact ⟨rfl,λ_ hn=>absurd rfl (hn l)⟩
theorem EY: ∀(l m:List AV),l.map (·.map Tc)=m.map (·.map Tc)->(∀c∈l,c.lE=true)->(l.flatMap bR).length=(m.flatMap bR).length/\(l.flatMap bR=m.flatMap bR->l=m)
 | [],[],_,_=>⟨rfl,λ_=>rfl⟩
 | [],_::_,h,_=>by simp at h
 |_::_,[],h,_=>by simp at h
 |c::l,d::m,h,hn=>by
  simp only [Cc,Gc] at h
  obtain ⟨h1,h2⟩:=Ae8 h.1
  obtain ⟨h3,h4⟩:=EY l m h.2 λc hc=>hn c (At _ hc)
  refine ⟨by simp only [cD,Ax,h1,h3],λho=>?_⟩
  simp only [cD] at ho
  obtain ⟨g1,g2⟩:=List.append_inj ho h1
  have hnt: ∀l',c≠ .Ms l':= λl' e=>by
   have:=hn c (by simp)
   rw [e] at this
   cases this
  rw [h2 g1 hnt,h4 g2]
theorem Afc {c d:OB} (h:c.map Tc=d.map Tc):(mE c).length=(mE d).length/\(mE c=mE d->c=d):=by
 cases c with
 |var t vs=>
  cases d<;>simp only [OB.map,OB.var.injEq,reduceCtorEq] at h
  rename_i t' us
  obtain ⟨rfl,h⟩:=h
  exact ⟨o6 vs us h,λho=>by rw [mX vs us h ho]⟩
 |_=>cases d<;>simp only [OB.map,reduceCtorEq] at h<;>exact ⟨rfl,λ_=>h⟩
theorem yy: ∀(l m:List (Nat×OB)),l.map (λp=>(p.1,p.2.map Tc))=m.map (λp=>(p.1,p.2.map Tc))->(l.flatMap λp=>mE p.2)=(m.flatMap λp=>mE p.2)->l=m
 | [],[],_,_=>rfl
 | [],_::_,h,_=>by simp at h
 |_::_,[],h,_=>by simp at h
 |(k,c)::l,(k',d)::m,h,ho=>by
  simp only [Cc,Gc,Ad] at h
  simp only [cD] at ho
  obtain ⟨h1,h2⟩:=Afc h.1.2
  obtain ⟨g1,g2⟩:=List.append_inj ho h1
  rw [h.1.1,h2 g1,yy l m h.2 g2]
theorem EX (l:List (Bool×List AC)) (e:AV) {R:Type} (r:R):m7 (.Ms l) e r=none:=by cases e<;>rfl
theorem zJ {d e:AV} {R:Type} {r:R} {v:avV d R} (h:m7 d e r=some v):d.lE=true:=by
 cases d with
 |Ms l=>rw [EX] at h;cases h
 |_=>rfl
theorem jK: ∀(l m:List AV) {R:Type} (r:R) (v:rQ l R),Pb l m r=some v-> ∀c∈l,c.lE=true
 | [],_,_,_,_,_,c,hc=>by cases hc
 |d::l,[],_,r,v,h,c,hc=>by cases h
 |d::l,e::m,R,r,v,h,c,hc=>by
  simp only [Pb] at h
  cases hr:Pb l m r with
  |none=>rw [hr] at h;cases h
  |some r'=>
   rw [hr] at h
   rcases Be.1 hc with hc|hc
   ·rw [hc];exact zJ h
   ·exact jK l m r r' hr c hc
theorem jY {s0 s:St} (h:eqW s0 s):s=s0:=by
 obtain ⟨ho,h⟩:=h
 obtain ⟨v,h1,h2⟩:=Cg.1 h
 subst h2
 have hn: ∀c∈s0.tmps,c.lE=true:=by
  unfold jD at h1
  cases hr:Qi s0.heap s.heap () with
  |none=>rw [hr] at h1;cases h1
  |some r=>rw [hr] at h1;exact jK _ _ _ _ h1
 have e:=(jE h1).symm.trans (jE (rH s0 hn))
 simp only [St.Ks,St.mk.injEq] at e
 obtain ⟨e1,e2⟩:=e
 obtain ⟨l1,l2⟩:=EY s0.tmps s.tmps e1.symm hn
 unfold QM at ho
 obtain ⟨g1,g2⟩:=List.append_inj ho l1.symm
 have k1:=l2 g1.symm
 have k2:=yy s.heap s0.heap e2 g2
 cases s;cases s0
 simp only at k1 k2
 rw [k1,k2]
end Go.Proofs.YtfolipnappekaaaGreat
