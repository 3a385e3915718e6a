/-
  Part 32 of the proof that the statement FnNoShorterSolution holds.
-/
import Derived.Test.YtkkdpknjohcekaaGreatCFNoShorterSolution30
namespace Go.Proofs.YtkkdpknjohcekaaGreat
open Go.RowKit
def Tj:AC->AC
 | .own l _ _=> .own l 0 0
 |c=>c
theorem pY: ∀(c d:AC) {R:Type} (r:R) (v:acV c R),oU c d r=some v->Tj (m6 c v).1=Tj d/\(m6 c v).2=r:=by
 intro c d R r v h
 cases c<;>cases d<;>simp only [oU] at h<;>first|(cases h;first|done|exact ⟨rfl,rfl⟩)|skip
 all_goals
  split at h
  ·rename_i hc
   first
    |(obtain ⟨h1,h2⟩:=hc;subst h1;subst h2;injection h with h;subst h;exact ⟨rfl,rfl⟩)
    |(subst hc;injection h with h;subst h;exact ⟨rfl,rfl⟩)
  ·cases h
theorem fm: ∀(l m:List AC) {R:Type} (r:R) (v:JF l R),Sx l m r=some v->(aP l v).1.map Tj=m.map Tj/\(aP l v).2=r
 | [],[],R,r,v,h=>by simp only [Sx] at h;injection h with h;subst h;exact ⟨rfl,rfl⟩
 | [],_::_,R,r,v,h=>by simp [Sx] at h
 |_::_,[],R,r,v,h=>by simp [Sx] at h
 |c::l,d::m,R,r,v,h=>by
  simp only [Sx] at h
  cases hr:Sx l m r with
  |none=>rw [hr] at h;cases h
  |some r'=>
   rw [hr] at h
   obtain ⟨h1,h2⟩:=pY c d r' v h
   obtain ⟨h3,h4⟩:=fm l m r r' hr
   simp only [aP,Ca]
   rw [h1,h2,h3]
   exact ⟨rfl,h4⟩
theorem CS: ∀(c d:AV) {R:Type} (r:R) (v:avV c R),mb c d r=some v->(sH c v).1.map Tj=d.map Tj/\(sH c v).2=r
 | .at a, .at b,R,r,v,h=>by
  obtain ⟨h1,h2⟩:=pY a b r v h
  exact ⟨by show AV.at _=AV.at _;rw [h1],h2⟩
 | .agg cs, .agg ds,R,r,v,h=>by
  obtain ⟨h1,h2⟩:=fm cs ds r v h
  exact ⟨by show AV.agg _=AV.agg _;rw [h1],h2⟩
 | .bF fr τ y, .bF Wh Ox x,R,r,v,h=>by
  by_cases hc:Ox=τ/\Wh=fr
  ·obtain ⟨h1,h2⟩:=hc
   subst h1;subst h2
   have h3:some ((x,r):Ox.den×R)=some v:=by
    have:mb (.bF Wh Ox y) (.bF Wh Ox x) r=some ((x,r):Ox.den×R):=Jq ⟨rfl,rfl⟩
    exact this.symm.trans h
   injection h3 with h3
   subst h3;exact ⟨rfl,rfl⟩
  ·have h3:mb (.bF fr τ y) (.bF Wh Ox x) r=none:=dif_neg hc
   rw [h3] at h;cases h
 | .at _, .agg _,_,_,_,h=>nomatch (show none=some _ from h)
 | .at _, .bF _ _ _,_,_,_,h=>nomatch (show none=some _ from h)
 | .agg _, .at _,_,_,_,h=>nomatch (show none=some _ from h)
 | .agg _, .bF _ _ _,_,_,_,h=>nomatch (show none=some _ from h)
 | .bF _ _ _, .at _,_,_,_,h=>nomatch (show none=some _ from h)
 | .bF _ _ _, .agg _,_,_,_,h=>nomatch (show none=some _ from h)
 | .Ng _, .at _,_,_,_,h=>nomatch (show none=some _ from h)
 | .Ng _, .agg _,_,_,_,h=>nomatch (show none=some _ from h)
 | .Ng _, .bF _ _ _,_,_,_,h=>nomatch (show none=some _ from h)
 | .Ng _, .Ng _,_,_,_,h=>nomatch (show none=some _ from h)
 | .at _, .Ng _,_,_,_,h=>nomatch (show none=some _ from h)
 | .agg _, .Ng _,_,_,_,h=>nomatch (show none=some _ from h)
 | .bF _ _ _, .Ng _,_,_,_,h=>nomatch (show none=some _ from h)
theorem FW: ∀(c d:OB) {R:Type} (r:R) (v:obV c R),Tm c d r=some v->(u7 c v).1.map Tj=d.map Tj/\(u7 c v).2=r
 | .arr fr tr e tid ys, .arr Wh tr' e' Vd xs,R,r,v,h=>by
  by_cases hc:e'=e/\Wh=fr/\tr'=tr/\Vd=tid
  ·obtain ⟨h1,h2,h3,h4⟩:=hc
   subst h1;subst h2;subst h3;subst h4
   have h3:some ((xs,r):List e'.den×R)=some v:=by
    have:Tm (.arr Wh tr' e' Vd ys) (.arr Wh tr' e' Vd xs) r=some ((xs,r):List e'.den×R):=Jq ⟨rfl,rfl,rfl,rfl⟩
    exact this.symm.trans h
   injection h3 with h3
   subst h3;exact ⟨rfl,rfl⟩
  ·have h3:Tm (.arr fr tr e tid ys) (.arr Wh tr' e' Vd xs) r=none:=dif_neg hc
   rw [h3] at h;cases h
 | .He e tid ys, .He e' Vd xs,R,r,v,h=>by
  by_cases hc:e'=e/\Vd=tid
  ·obtain ⟨h1,h4⟩:=hc
   subst h1;subst h4
   have h3:some ((xs,r):List e'.den×R)=some v:=by
    have:Tm (.He e' Vd ys) (.He e' Vd xs) r=some ((xs,r):List e'.den×R):=Jq ⟨rfl,rfl⟩
    exact this.symm.trans h
   injection h3 with h3
   subst h3;exact ⟨rfl,rfl⟩
  ·have h3:Tm (.He e tid ys) (.He e' Vd xs) r=none:=dif_neg hc
   rw [h3] at h;cases h
 | .Vy vt m, .Vy vt' m',R,r,v,h=>by
  by_cases hc:vt'=vt
  ·subst hc
   have h3:some ((m',r):(ByteArray->Option vt'.den)×R)=some v:=by
    have:Tm (.Vy vt' m) (.Vy vt' m') r=some ((m',r):(ByteArray->Option vt'.den)×R):=Jq rfl
    exact this.symm.trans h
   injection h3 with h3
   subst h3;exact ⟨rfl,rfl⟩
  ·have h3:Tm (.Vy vt m) (.Vy vt' m') r=none:=dif_neg hc
   rw [h3] at h;cases h
 | .var t vs, .var t' us,R,r,v,h=>by
  by_cases hc:t'=t
  ·subst hc
   have h0:Tm (.var t' vs) (.var t' us) r=Sx vs us r:=Ab rfl
   rw [h0] at h
   obtain ⟨h1,h2⟩:=fm vs us r v h
   exact ⟨by show OB.var _ _=OB.var _ _;rw [h1],h2⟩
  ·have h3:Tm (.var t vs) (.var t' us) r=none:=Ai hc
   rw [h3] at h;cases h
 | .Bo e te ys out none, .Bo e' Rv xs ix none,R,r,v,h=>by
  by_cases hc:e'=e/\Rv=te/\ix=out
  ·obtain ⟨h1,h2,h4⟩:=hc
   subst h1;subst h2;subst h4
   have h3:some ((xs,r):List (List e'.den)×R)=some v:=by
    have:Tm (.Bo e' Rv ys ix none) (.Bo e' Rv xs ix none) r=some ((xs,r):List (List e'.den)×R):=Jq ⟨rfl,rfl,rfl⟩
    exact this.symm.trans h
   injection h3 with h3
   subst h3;exact ⟨rfl,rfl⟩
  ·have h3:Tm (.Bo e te ys out none) (.Bo e' Rv xs ix none) r=none:=dif_neg hc
   rw [h3] at h;cases h
 | .Bo e te ys out (some p), .Bo e' Rv xs ix (some p'),R,r,v,h=>by
  by_cases hc:e'=e/\Rv=te/\ix=out/\p'.1=p.1
  ·obtain ⟨h1,h2,h4,h5⟩:=hc
   subst h1;subst h2;subst h4
   have h3:some ((xs,p'.2,r):List (List e'.den)×(Nat×R))=some v:=by
    have:Tm (.Bo e' Rv ys ix (some p)) (.Bo e' Rv xs ix (some p')) r=some ((xs,p'.2,r):List (List e'.den)×(Nat×R)):=Jq ⟨rfl,rfl,rfl,h5⟩
    exact this.symm.trans h
   injection h3 with h3
   subst h3
   refine ⟨?_,rfl⟩
   show OB.Bo e' Rv xs ix (some (p.1,p'.2))=OB.Bo e' Rv xs ix (some p')
   rw [<-h5]
  ·have h3:Tm (.Bo e te ys out (some p)) (.Bo e' Rv xs ix (some p')) r=none:=dif_neg hc
   rw [h3] at h;cases h
 | .Bo _ _ _ _ none, .Bo _ _ _ _ (some _),_,_,_,h=>nomatch (show none=some _ from h)
 | .Bo _ _ _ _ (some _), .Bo _ _ _ _ none,_,_,_,h=>nomatch (show none=some _ from h)
 | .Bo _ _ _ _ none, .arr _ _ _ _ _,_,_,_,h=>nomatch (show none=some _ from h)
 | .Bo _ _ _ _ none, .He _ _ _,_,_,_,h=>nomatch (show none=some _ from h)
 | .Bo _ _ _ _ none, .var _ _,_,_,_,h=>nomatch (show none=some _ from h)
 | .Bo _ _ _ _ none, .Vy _ _,_,_,_,h=>nomatch (show none=some _ from h)
 | .Bo _ _ _ _ (some _), .arr _ _ _ _ _,_,_,_,h=>nomatch (show none=some _ from h)
 | .Bo _ _ _ _ (some _), .He _ _ _,_,_,_,h=>nomatch (show none=some _ from h)
 | .Bo _ _ _ _ (some _), .var _ _,_,_,_,h=>nomatch (show none=some _ from h)
 | .Bo _ _ _ _ (some _), .Vy _ _,_,_,_,h=>nomatch (show none=some _ from h)
 | .arr _ _ _ _ _, .Bo _ _ _ _ _,_,_,_,h=>nomatch (show none=some _ from h)
 | .He _ _ _, .Bo _ _ _ _ _,_,_,_,h=>nomatch (show none=some _ from h)
 | .var _ _, .Bo _ _ _ _ _,_,_,_,h=>nomatch (show none=some _ from h)
 | .Vy _ _, .Bo _ _ _ _ _,_,_,_,h=>nomatch (show none=some _ from h)
 | .arr _ _ _ _ _, .var _ _,_,_,_,h=>nomatch (show none=some _ from h)
 | .arr _ _ _ _ _, .He _ _ _,_,_,_,h=>nomatch (show none=some _ from h)
 | .arr _ _ _ _ _, .Vy _ _,_,_,_,h=>nomatch (show none=some _ from h)
 | .He _ _ _, .var _ _,_,_,_,h=>nomatch (show none=some _ from h)
 | .He _ _ _, .arr _ _ _ _ _,_,_,_,h=>nomatch (show none=some _ from h)
 | .He _ _ _, .Vy _ _,_,_,_,h=>nomatch (show none=some _ from h)
 | .Vy _ _, .var _ _,_,_,_,h=>nomatch (show none=some _ from h)
 | .Vy _ _, .arr _ _ _ _ _,_,_,_,h=>nomatch (show none=some _ from h)
 | .Vy _ _, .He _ _ _,_,_,_,h=>nomatch (show none=some _ from h)
 | .var _ _, .arr _ _ _ _ _,_,_,_,h=>nomatch (show none=some _ from h)
 | .var _ _, .He _ _ _,_,_,_,h=>nomatch (show none=some _ from h)
 | .var _ _, .Vy _ _,_,_,_,h=>nomatch (show none=some _ from h)
theorem lR: ∀(l m:List AV) {R:Type} (r:R) (v:qT l R),Ps l m r=some v->(Xd l v).1.map (·.map Tj)=m.map (·.map Tj)/\(Xd l v).2=r
 | [],[],R,r,v,h=>by simp only [Ps] at h;injection h with h;subst h;exact ⟨rfl,rfl⟩
 | [],_::_,R,r,v,h=>by simp [Ps] at h
 |_::_,[],R,r,v,h=>by simp [Ps] at h
 |c::l,d::m,R,r,v,h=>by
  simp only [Ps] at h
  cases hr:Ps l m r with
  |none=>rw [hr] at h;cases h
  |some r'=>
   rw [hr] at h
   obtain ⟨h1,h2⟩:=CS c d r' v h
   obtain ⟨h3,h4⟩:=lR l m r r' hr
   simp only [Xd,Ca]
   rw [h1,h2,h3]
   exact ⟨rfl,h4⟩
theorem ll: ∀(l m:List (Nat×OB)) {R:Type} (r:R) (v:xt l R),Qv l m r=some v->(eA l v).1.map (λp=>(p.1,p.2.map Tj))=m.map (λp=>(p.1,p.2.map Tj))/\(eA l v).2=r
 | [],[],R,r,v,h=>by simp only [Qv] at h;injection h with h;subst h;exact ⟨rfl,rfl⟩
 | [],_::_,R,r,v,h=>by simp [Qv] at h
 |_::_,[],R,r,v,h=>by simp [Qv] at h
 |c::l,d::m,R,r,v,h=>by
  simp only [Qv] at h
  split at h
  ·rename_i hk
   cases hr:Qv l m r with
   |none=>rw [hr] at h;cases h
   |some r'=>
    rw [hr] at h
    obtain ⟨h1,h2⟩:=FW c.2 d.2 r' v h
    obtain ⟨h3,h4⟩:=ll l m r r' hr
    simp only [eA,Ca]
    rw [h1,h2,h3,hk]
    exact ⟨rfl,h4⟩
  ·cases h
theorem jW {s t:St} {v:stV s} (h:jV s t=some v):(jU s v).Lp Tj=t.Lp Tj:=by
 unfold jV at h
 cases hr:Qv s.heap t.heap () with
 |none=>rw [hr] at h;cases h
 |some r=>
  rw [hr] at h
  obtain ⟨h1,h2⟩:=lR s.tmps t.tmps r v h
  obtain ⟨h3,_⟩:=ll s.heap t.heap () r hr
  simp only [jU,St.Lp]
  rw [h1,h2,h3]
theorem pZ: ∀(c:AC) {R:Type} (r:R),oU c c r=some (OU c r):=by
 intro c R r
 cases c<;>simp [oU,OU]
theorem fo: ∀(l:List AC) {R:Type} (r:R),Sx l l r=some (sx l r)
 | [],_,_=>rfl
 |c::l,_,r=>by simp only [Sx,fo l r,sx];exact pZ c _
def AV.lE:AV->Bool
 | .Ng _=>false
 |_=>true
theorem CT: ∀(c:AV),c.lE=true-> ∀ {R:Type} (r:R),mb c c r=some (Af9 c r):=by
 intro c hn R r
 cases c with
 |Ng l=>cases hn
 | «at»a=>exact pZ a r
 |agg cs=>exact fo cs r
 |bF fr τ x=>exact Jq ⟨rfl,rfl⟩
theorem FX: ∀(c:OB) {R:Type} (r:R),Tm c c r=some (Agp c r):=by
 intro c R r
 cases c with
 |arr fr tr e t xs=>exact Jq ⟨rfl,rfl,rfl,rfl⟩
 |He e t xs=>exact Jq ⟨rfl,rfl⟩
 |Vy v m=>exact Jq rfl
 |Bo e te rows out kp=>
  cases kp with
  |none=>exact Jq ⟨rfl,rfl,rfl⟩
  |some p=>exact Jq ⟨rfl,rfl,rfl,rfl⟩
 |var t vs=>
  have h0:Tm (.var t vs) (.var t vs) r=Sx vs vs r:=Ab rfl
  exact h0.trans (fo vs r)
theorem lS: ∀(l:List AV),(∀c∈l,c.lE=true)-> ∀ {R:Type} (r:R),Ps l l r=some (sm l r)
 | [],_,_,_=>rfl
 |c::l,h,_,r=>by simp only [Ps,lS l (λc hc=>h c (Ao _ hc)) r,sm];exact CT c (h c (by simp)) _
theorem lp: ∀(l:List (Nat×OB)) {R:Type} (r:R),Qv l l r=some (s6 l r)
 | [],_,_=>rfl
 |c::l,_,r=>by simp only [Qv,Qa,lp l r,s6];exact FX c.2 _
theorem qP (s:St) (h: ∀c∈s.tmps,c.lE=true):jV s s=some (QY s):=by
 simp only [jV,lp,QY]
 exact lS _ h _
theorem By {α:Type} {o:Option α} {K:α->Prop} :Ik o K↔ ∃x,o=some x/\K x:=by
 unfold Ik
 cases o with
 |none=>simp
 |some x=>simp
theorem mZ: ∀(l m:List AC),l.map Tj=m.map Tj->l.flatMap bJ=m.flatMap bJ->l=m
 | [],[],_,_=>rfl
 | [],_::_,h,_=>by simp at h
 |_::_,[],h,_=>by simp at h
 |c::l,d::m,h,ho=>by
  simp only [Ca,Gz] at h
  simp only [cC] at ho
  have hcd:c=d/\l.flatMap bJ=m.flatMap bJ:=by
   cases c<;>cases d<;>first|(cases h.1;done)|skip
   all_goals first
    |(obtain ⟨h1,_⟩:=h
      simp only [Tj,AC.own.injEq] at h1
      simp only [bJ,Tf,iH,Gz,Ae] at ho
      exact ⟨by rw [h1.1,ho.1.1,ho.1.2],ho.2⟩)
    |exact ⟨h.1,by simpa only [bJ,iH] using ho⟩
  rw [hcd.1,mZ l m h.2 hcd.2]
theorem o4: ∀(l m:List AC),l.map Tj=m.map Tj->(l.flatMap bJ).length=(m.flatMap bJ).length
 | [],[],_=>rfl
 | [],_::_,h=>by simp at h
 |_::_,[],h=>by simp at h
 |c::l,d::m,h=>by
  simp only [Ca,Gz] at h
  simp only [cC,As,o4 l m h.2]
  congr 1
  cases c<;>cases d<;>first|rfl|(cases h.1;done)
theorem Ad6 {c d:AV} (h:c.map Tj=d.map Tj):(bL c).length=(bL d).length/\(bL c=bL d->(∀l,c≠ .Ng l)->c=d):=by
 cases c with
 | «at»a=>
  cases d<;>simp only [AV.map,AV.at.injEq,reduceCtorEq] at h
  rename_i b
  have h1: [a].map Tj= [b].map Tj:=by simp [h]
  refine ⟨by simpa [bL] using o4 [a] [b] h1,λho _=>?_⟩
  have:=mZ [a] [b] h1 (by simpa [bL] using ho)
  simpa using this
 |agg cs=>
  cases d<;>simp only [AV.map,AV.agg.injEq,reduceCtorEq] at h
  rename_i ds
  exact ⟨o4 cs ds h,λho _=>by rw [mZ cs ds h ho]⟩
 |bF fr τ x=>
  cases d<;>simp only [AV.map,reduceCtorEq] at h
  exact ⟨rfl,λ_ _=>h⟩
 |Ng l=>
  cases d<;>simp only [AV.map,reduceCtorEq] at h
  exact ⟨rfl,λ_ hn=>absurd rfl (hn l)⟩
theorem CV: ∀(l m:List AV),l.map (·.map Tj)=m.map (·.map Tj)->(∀c∈l,c.lE=true)->(l.flatMap bL).length=(m.flatMap bL).length/\(l.flatMap bL=m.flatMap bL->l=m)
 | [],[],_,_=>⟨rfl,λ_=>rfl⟩
 | [],_::_,h,_=>by simp at h
 |_::_,[],h,_=>by simp at h
 |c::l,d::m,h,hn=>by
  simp only [Ca,Gz] at h
  obtain ⟨h1,h2⟩:=Ad6 h.1
  obtain ⟨h3,h4⟩:=CV l m h.2 λc hc=>hn c (Ao _ hc)
  refine ⟨by simp only [cC,As,h1,h3],λho=>?_⟩
  simp only [cC] at ho
  obtain ⟨g1,g2⟩:=List.append_inj ho h1
  have hnt: ∀l',c≠ .Ng l':= λl' e=>by
   have:=hn c (by simp)
   rw [e] at this
   cases this
  rw [h2 g1 hnt,h4 g2]
theorem Aec {c d:OB} (h:c.map Tj=d.map Tj):(mG c).length=(mG d).length/\(mG c=mG d->c=d):=by
 cases c with
 |var t vs=>
  cases d<;>simp only [OB.map,OB.var.injEq,reduceCtorEq] at h
  rename_i t' us
  obtain ⟨rfl,h⟩:=h
  exact ⟨o4 vs us h,λho=>by rw [mZ vs us h ho]⟩
 |_=>cases d<;>simp only [OB.map,reduceCtorEq] at h<;>exact ⟨rfl,λ_=>h⟩
theorem xu: ∀(l m:List (Nat×OB)),l.map (λp=>(p.1,p.2.map Tj))=m.map (λp=>(p.1,p.2.map Tj))->(l.flatMap λp=>mG p.2)=(m.flatMap λp=>mG p.2)->l=m
 | [],[],_,_=>rfl
 | [],_::_,h,_=>by simp at h
 |_::_,[],h,_=>by simp at h
 |(k,c)::l,(k',d)::m,h,ho=>by
  simp only [Ca,Gz,Ae] at h
  simp only [cC] at ho
  obtain ⟨h1,h2⟩:=Aec h.1.2
  obtain ⟨g1,g2⟩:=List.append_inj ho h1
  rw [h.1.1,h2 g1,xu l m h.2 g2]
theorem CU (l:List (Bool×List AC)) (e:AV) {R:Type} (r:R):mb (.Ng l) e r=none:=by cases e<;>rfl
theorem yH {d e:AV} {R:Type} {r:R} {v:avV d R} (h:mb d e r=some v):d.lE=true:=by
 cases d with
 |Ng l=>rw [CU] at h;cases h
 |_=>rfl
theorem jY: ∀(l m:List AV) {R:Type} (r:R) (v:qT l R),Ps l m r=some v-> ∀c∈l,c.lE=true
 | [],_,_,_,_,_,c,hc=>by cases hc
 |d::l,[],_,r,v,h,c,hc=>by cases h
 |d::l,e::m,R,r,v,h,c,hc=>by
  simp only [Ps] at h
  cases hr:Ps l m r with
  |none=>rw [hr] at h;cases h
  |some r'=>
   rw [hr] at h
   rcases Bg.1 hc with hc|hc
   ·rw [hc];exact yH h
   ·exact jY l m r r' hr c hc
theorem eg {s0 s:St} (h:eqW s0 s):s=s0:=by
 obtain ⟨ho,h⟩:=h
 obtain ⟨v,h1,h2⟩:=By.1 h
 subst h2
 have hn: ∀c∈s0.tmps,c.lE=true:=by
  unfold jV at h1
  cases hr:Qv s0.heap s.heap () with
  |none=>rw [hr] at h1;cases h1
  |some r=>rw [hr] at h1;exact jY _ _ _ _ h1
 have e:=(jW h1).symm.trans (jW (qP s0 hn))
 simp only [St.Lp,St.mk.injEq] at e
 obtain ⟨e1,e2⟩:=e
 obtain ⟨l1,l2⟩:=CV s0.tmps s.tmps e1.symm hn
 unfold NO at ho
 obtain ⟨g1,g2⟩:=List.append_inj ho l1.symm
 have k1:=l2 g1.symm
 have k2:=xu s.heap s0.heap e2 g2
 cases s;cases s0
 simp only at k1 k2
 rw [k1,k2]
end Go.Proofs.YtkkdpknjohcekaaGreat
