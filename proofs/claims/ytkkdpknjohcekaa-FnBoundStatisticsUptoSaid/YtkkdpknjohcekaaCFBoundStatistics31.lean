/-
  Part 32 of the proof that the statement FnBoundStatistics holds.
-/
import Derived.Test.YtkkdpknjohcekaaCFBoundStatistics30
namespace Go.Proofs.Ytkkdpknjohcekaa
open Go.RowKit
def Tf:AC->AC
 | .own l _ _=> .own l 0 0
 |c=>c
theorem pW: ∀(c d:AC) {R:Type} (r:R) (v:acV c R),oK c d r=some v->Tf (lK c v).1=Tf d/\(lK c v).2=r:=by
 intro c d R r v h
 cases c<;>cases d<;>simp only [oK] at h<;>first|(cases h;first|done|exact ⟨rfl,rfl⟩)|skip
 all_goals
  split at h
  ·rename_i hc
   first
    |(obtain ⟨h1,h2⟩:=hc;subst h1;subst h2;injection h with h;subst h;exact ⟨rfl,rfl⟩)
    |(subst hc;injection h with h;subst h;exact ⟨rfl,rfl⟩)
  ·cases h
theorem eQ: ∀(l m:List AC) {R:Type} (r:R) (v:JL l R),Sp l m r=some v->(aI l v).1.map Tf=m.map Tf/\(aI l v).2=r
 | [],[],R,r,v,h=>by simp only [Sp] at h;injection h with h;subst h;exact ⟨rfl,rfl⟩
 | [],_::_,R,r,v,h=>by simp [Sp] at h
 |_::_,[],R,r,v,h=>by simp [Sp] at h
 |c::l,d::m,R,r,v,h=>by
  simp only [Sp] at h
  cases hr:Sp l m r with
  |none=>rw [hr] at h;cases h
  |some r'=>
   rw [hr] at h
   obtain ⟨h1,h2⟩:=pW c d r' v h
   obtain ⟨h3,h4⟩:=eQ l m r r' hr
   simp only [aI,Bm]
   rw [h1,h2,h3]
   exact ⟨rfl,h4⟩
theorem CQ: ∀(c d:AV) {R:Type} (r:R) (v:avV c R),lQ c d r=some v->(sC c v).1.map Tf=d.map Tf/\(sC c v).2=r
 | .at a, .at b,R,r,v,h=>by
  obtain ⟨h1,h2⟩:=pW a b r v h
  exact ⟨by show AV.at _=AV.at _;rw [h1],h2⟩
 | .agg cs, .agg ds,R,r,v,h=>by
  obtain ⟨h1,h2⟩:=eQ cs ds r v h
  exact ⟨by show AV.agg _=AV.agg _;rw [h1],h2⟩
 | .bu fr τ y, .bu Wh Ok x,R,r,v,h=>by
  by_cases hc:Ok=τ/\Wh=fr
  ·obtain ⟨h1,h2⟩:=hc
   subst h1;subst h2
   have h3:some ((x,r):Ok.den×R)=some v:=by
    have:lQ (.bu Wh Ok y) (.bu Wh Ok x) r=some ((x,r):Ok.den×R):=Jf ⟨rfl,rfl⟩
    exact this.symm.trans h
   injection h3 with h3
   subst h3;exact ⟨rfl,rfl⟩
  ·have h3:lQ (.bu fr τ y) (.bu Wh Ok x) r=none:=dif_neg hc
   rw [h3] at h;cases h
 | .at _, .agg _,_,_,_,h=>nomatch (show none=some _ from h)
 | .at _, .bu _ _ _,_,_,_,h=>nomatch (show none=some _ from h)
 | .agg _, .at _,_,_,_,h=>nomatch (show none=some _ from h)
 | .agg _, .bu _ _ _,_,_,_,h=>nomatch (show none=some _ from h)
 | .bu _ _ _, .at _,_,_,_,h=>nomatch (show none=some _ from h)
 | .bu _ _ _, .agg _,_,_,_,h=>nomatch (show none=some _ from h)
 | .Mw _, .at _,_,_,_,h=>nomatch (show none=some _ from h)
 | .Mw _, .agg _,_,_,_,h=>nomatch (show none=some _ from h)
 | .Mw _, .bu _ _ _,_,_,_,h=>nomatch (show none=some _ from h)
 | .Mw _, .Mw _,_,_,_,h=>nomatch (show none=some _ from h)
 | .at _, .Mw _,_,_,_,h=>nomatch (show none=some _ from h)
 | .agg _, .Mw _,_,_,_,h=>nomatch (show none=some _ from h)
 | .bu _ _ _, .Mw _,_,_,_,h=>nomatch (show none=some _ from h)
theorem FX: ∀(c d:OB) {R:Type} (r:R) (v:obV c R),Tj c d r=some v->(tY c v).1.map Tf=d.map Tf/\(tY c v).2=r
 | .arr fr tr e tid ys, .arr Wh tr' e' Uz xs,R,r,v,h=>by
  by_cases hc:e'=e/\Wh=fr/\tr'=tr/\Uz=tid
  ·obtain ⟨h1,h2,h3,h4⟩:=hc
   subst h1;subst h2;subst h3;subst h4
   have h3:some ((xs,r):List e'.den×R)=some v:=by
    have:Tj (.arr Wh tr' e' Uz ys) (.arr Wh tr' e' Uz xs) r=some ((xs,r):List e'.den×R):=Jf ⟨rfl,rfl,rfl,rfl⟩
    exact this.symm.trans h
   injection h3 with h3
   subst h3;exact ⟨rfl,rfl⟩
  ·have h3:Tj (.arr fr tr e tid ys) (.arr Wh tr' e' Uz xs) r=none:=dif_neg hc
   rw [h3] at h;cases h
 | .Gu e tid ys, .Gu e' Uz xs,R,r,v,h=>by
  by_cases hc:e'=e/\Uz=tid
  ·obtain ⟨h1,h4⟩:=hc
   subst h1;subst h4
   have h3:some ((xs,r):List e'.den×R)=some v:=by
    have:Tj (.Gu e' Uz ys) (.Gu e' Uz xs) r=some ((xs,r):List e'.den×R):=Jf ⟨rfl,rfl⟩
    exact this.symm.trans h
   injection h3 with h3
   subst h3;exact ⟨rfl,rfl⟩
  ·have h3:Tj (.Gu e tid ys) (.Gu e' Uz xs) r=none:=dif_neg hc
   rw [h3] at h;cases h
 | .Vu vt m, .Vu vt' m',R,r,v,h=>by
  by_cases hc:vt'=vt
  ·subst hc
   have h3:some ((m',r):(ByteArray->Option vt'.den)×R)=some v:=by
    have:Tj (.Vu vt' m) (.Vu vt' m') r=some ((m',r):(ByteArray->Option vt'.den)×R):=Jf rfl
    exact this.symm.trans h
   injection h3 with h3
   subst h3;exact ⟨rfl,rfl⟩
  ·have h3:Tj (.Vu vt m) (.Vu vt' m') r=none:=dif_neg hc
   rw [h3] at h;cases h
 | .var t vs, .var t' us,R,r,v,h=>by
  by_cases hc:t'=t
  ·subst hc
   have h0:Tj (.var t' vs) (.var t' us) r=Sp vs us r:=Ac rfl
   rw [h0] at h
   obtain ⟨h1,h2⟩:=eQ vs us r v h
   exact ⟨by show OB.var _ _=OB.var _ _;rw [h1],h2⟩
  ·have h3:Tj (.var t vs) (.var t' us) r=none:=Ak hc
   rw [h3] at h;cases h
 | .Bl e te ys out none, .Bl e' Rj xs gT none,R,r,v,h=>by
  by_cases hc:e'=e/\Rj=te/\gT=out
  ·obtain ⟨h1,h2,h4⟩:=hc
   subst h1;subst h2;subst h4
   have h3:some ((xs,r):List (List e'.den)×R)=some v:=by
    have:Tj (.Bl e' Rj ys gT none) (.Bl e' Rj xs gT none) r=some ((xs,r):List (List e'.den)×R):=Jf ⟨rfl,rfl,rfl⟩
    exact this.symm.trans h
   injection h3 with h3
   subst h3;exact ⟨rfl,rfl⟩
  ·have h3:Tj (.Bl e te ys out none) (.Bl e' Rj xs gT none) r=none:=dif_neg hc
   rw [h3] at h;cases h
 | .Bl e te ys out (some p), .Bl e' Rj xs gT (some p'),R,r,v,h=>by
  by_cases hc:e'=e/\Rj=te/\gT=out/\p'.1=p.1
  ·obtain ⟨h1,h2,h4,h5⟩:=hc
   subst h1;subst h2;subst h4
   have h3:some ((xs,p'.2,r):List (List e'.den)×(Nat×R))=some v:=by
    have:Tj (.Bl e' Rj ys gT (some p)) (.Bl e' Rj xs gT (some p')) r=some ((xs,p'.2,r):List (List e'.den)×(Nat×R)):=Jf ⟨rfl,rfl,rfl,h5⟩
    exact this.symm.trans h
   injection h3 with h3
   subst h3
   refine ⟨?_,rfl⟩
   show OB.Bl e' Rj xs gT (some (p.1,p'.2))=OB.Bl e' Rj xs gT (some p')
   rw [<-h5]
  ·have h3:Tj (.Bl e te ys out (some p)) (.Bl e' Rj xs gT (some p')) r=none:=dif_neg hc
   rw [h3] at h;cases h
 | .Bl _ _ _ _ none, .Bl _ _ _ _ (some _),_,_,_,h=>nomatch (show none=some _ from h)
 | .Bl _ _ _ _ (some _), .Bl _ _ _ _ none,_,_,_,h=>nomatch (show none=some _ from h)
 | .Bl _ _ _ _ none, .arr _ _ _ _ _,_,_,_,h=>nomatch (show none=some _ from h)
 | .Bl _ _ _ _ none, .Gu _ _ _,_,_,_,h=>nomatch (show none=some _ from h)
 | .Bl _ _ _ _ none, .var _ _,_,_,_,h=>nomatch (show none=some _ from h)
 | .Bl _ _ _ _ none, .Vu _ _,_,_,_,h=>nomatch (show none=some _ from h)
 | .Bl _ _ _ _ (some _), .arr _ _ _ _ _,_,_,_,h=>nomatch (show none=some _ from h)
 | .Bl _ _ _ _ (some _), .Gu _ _ _,_,_,_,h=>nomatch (show none=some _ from h)
 | .Bl _ _ _ _ (some _), .var _ _,_,_,_,h=>nomatch (show none=some _ from h)
 | .Bl _ _ _ _ (some _), .Vu _ _,_,_,_,h=>nomatch (show none=some _ from h)
 | .arr _ _ _ _ _, .Bl _ _ _ _ _,_,_,_,h=>nomatch (show none=some _ from h)
 | .Gu _ _ _, .Bl _ _ _ _ _,_,_,_,h=>nomatch (show none=some _ from h)
 | .var _ _, .Bl _ _ _ _ _,_,_,_,h=>nomatch (show none=some _ from h)
 | .Vu _ _, .Bl _ _ _ _ _,_,_,_,h=>nomatch (show none=some _ from h)
 | .arr _ _ _ _ _, .var _ _,_,_,_,h=>nomatch (show none=some _ from h)
 | .arr _ _ _ _ _, .Gu _ _ _,_,_,_,h=>nomatch (show none=some _ from h)
 | .arr _ _ _ _ _, .Vu _ _,_,_,_,h=>nomatch (show none=some _ from h)
 | .Gu _ _ _, .var _ _,_,_,_,h=>nomatch (show none=some _ from h)
 | .Gu _ _ _, .arr _ _ _ _ _,_,_,_,h=>nomatch (show none=some _ from h)
 | .Gu _ _ _, .Vu _ _,_,_,_,h=>nomatch (show none=some _ from h)
 | .Vu _ _, .var _ _,_,_,_,h=>nomatch (show none=some _ from h)
 | .Vu _ _, .arr _ _ _ _ _,_,_,_,h=>nomatch (show none=some _ from h)
 | .Vu _ _, .Gu _ _ _,_,_,_,h=>nomatch (show none=some _ from h)
 | .var _ _, .arr _ _ _ _ _,_,_,_,h=>nomatch (show none=some _ from h)
 | .var _ _, .Gu _ _ _,_,_,_,h=>nomatch (show none=some _ from h)
 | .var _ _, .Vu _ _,_,_,_,h=>nomatch (show none=some _ from h)
theorem lz: ∀(l m:List AV) {R:Type} (r:R) (v:qV l R),Pd l m r=some v->(Xf l v).1.map (·.map Tf)=m.map (·.map Tf)/\(Xf l v).2=r
 | [],[],R,r,v,h=>by simp only [Pd] at h;injection h with h;subst h;exact ⟨rfl,rfl⟩
 | [],_::_,R,r,v,h=>by simp [Pd] at h
 |_::_,[],R,r,v,h=>by simp [Pd] at h
 |c::l,d::m,R,r,v,h=>by
  simp only [Pd] at h
  cases hr:Pd l m r with
  |none=>rw [hr] at h;cases h
  |some r'=>
   rw [hr] at h
   obtain ⟨h1,h2⟩:=CQ c d r' v h
   obtain ⟨h3,h4⟩:=lz l m r r' hr
   simp only [Xf,Bm]
   rw [h1,h2,h3]
   exact ⟨rfl,h4⟩
theorem kY: ∀(l m:List (Nat×OB)) {R:Type} (r:R) (v:xe l R),Qn l m r=some v->(ed l v).1.map (λp=>(p.1,p.2.map Tf))=m.map (λp=>(p.1,p.2.map Tf))/\(ed l v).2=r
 | [],[],R,r,v,h=>by simp only [Qn] at h;injection h with h;subst h;exact ⟨rfl,rfl⟩
 | [],_::_,R,r,v,h=>by simp [Qn] at h
 |_::_,[],R,r,v,h=>by simp [Qn] at h
 |c::l,d::m,R,r,v,h=>by
  simp only [Qn] at h
  split at h
  ·rename_i hk
   cases hr:Qn l m r with
   |none=>rw [hr] at h;cases h
   |some r'=>
    rw [hr] at h
    obtain ⟨h1,h2⟩:=FX c.2 d.2 r' v h
    obtain ⟨h3,h4⟩:=kY l m r r' hr
    simp only [ed,Bm]
    rw [h1,h2,h3,hk]
    exact ⟨rfl,h4⟩
  ·cases h
theorem jx {s t:St} {v:stV s} (h:jw s t=some v):(jv s v).Lc Tf=t.Lc Tf:=by
 unfold jw at h
 cases hr:Qn s.heap t.heap () with
 |none=>rw [hr] at h;cases h
 |some r=>
  rw [hr] at h
  obtain ⟨h1,h2⟩:=lz s.tmps t.tmps r v h
  obtain ⟨h3,_⟩:=kY s.heap t.heap () r hr
  simp only [jv,St.Lc]
  rw [h1,h2,h3]
theorem pX: ∀(c:AC) {R:Type} (r:R),oK c c r=some (OX c r):=by
 intro c R r
 cases c<;>simp [oK,OX]
theorem eR: ∀(l:List AC) {R:Type} (r:R),Sp l l r=some (ss l r)
 | [],_,_=>rfl
 |c::l,_,r=>by simp only [Sp,eR l r,ss];exact pX c _
def AV.lh:AV->Bool
 | .Mw _=>false
 |_=>true
theorem CR: ∀(c:AV),c.lh=true-> ∀ {R:Type} (r:R),lQ c c r=some (Af6 c r):=by
 intro c hn R r
 cases c with
 |Mw l=>cases hn
 | «at»a=>exact pX a r
 |agg cs=>exact eR cs r
 |bu fr τ x=>exact Jf ⟨rfl,rfl⟩
theorem FY: ∀(c:OB) {R:Type} (r:R),Tj c c r=some (Agj c r):=by
 intro c R r
 cases c with
 |arr fr tr e t xs=>exact Jf ⟨rfl,rfl,rfl,rfl⟩
 |Gu e t xs=>exact Jf ⟨rfl,rfl⟩
 |Vu v m=>exact Jf rfl
 |Bl e te rows out kp=>
  cases kp with
  |none=>exact Jf ⟨rfl,rfl,rfl⟩
  |some p=>exact Jf ⟨rfl,rfl,rfl,rfl⟩
 |var t vs=>
  have h0:Tj (.var t vs) (.var t vs) r=Sp vs vs r:=Ac rfl
  exact h0.trans (eR vs r)
theorem lA: ∀(l:List AV),(∀c∈l,c.lh=true)-> ∀ {R:Type} (r:R),Pd l l r=some (sj l r)
 | [],_,_,_=>rfl
 |c::l,h,_,r=>by simp only [Pd,lA l (λc hc=>h c (Aq _ hc)) r,sj];exact CR c (h c (by simp)) _
theorem kZ: ∀(l:List (Nat×OB)) {R:Type} (r:R),Qn l l r=some (rY l r)
 | [],_,_=>rfl
 |c::l,_,r=>by simp only [Qn,Po,kZ l r,rY];exact FY c.2 _
theorem qR (s:St) (h: ∀c∈s.tmps,c.lh=true):jw s s=some (RF s):=by
 simp only [jw,kZ,RF]
 exact lA _ h _
theorem Ca {α:Type} {o:Option α} {K:α->Prop} :Hz o K↔ ∃x,o=some x/\K x:=by
 unfold Hz
 cases o with
 |none=>simp
 |some x=>simp
theorem mI: ∀(l m:List AC),l.map Tf=m.map Tf->l.flatMap bA=m.flatMap bA->l=m
 | [],[],_,_=>rfl
 | [],_::_,h,_=>by simp at h
 |_::_,[],h,_=>by simp at h
 |c::l,d::m,h,ho=>by
  simp only [Bm,Gs] at h
  simp only [Vw] at ho
  have hcd:c=d/\l.flatMap bA=m.flatMap bA:=by
   cases c<;>cases d<;>first|(cases h.1;done)|skip
   all_goals first
    |(obtain ⟨h1,_⟩:=h
      simp only [Tf,AC.own.injEq] at h1
      simp only [bA,Ph,List.nil_append,Gs,Ae] at ho
      exact ⟨by rw [h1.1,ho.1.1,ho.1.2],ho.2⟩)
    |exact ⟨h.1,by simpa only [bA,List.nil_append] using ho⟩
  rw [hcd.1,mI l m h.2 hcd.2]
theorem nQ: ∀(l m:List AC),l.map Tf=m.map Tf->(l.flatMap bA).length=(m.flatMap bA).length
 | [],[],_=>rfl
 | [],_::_,h=>by simp at h
 |_::_,[],h=>by simp at h
 |c::l,d::m,h=>by
  simp only [Bm,Gs] at h
  simp only [Vw,Au,nQ l m h.2]
  congr 1
  cases c<;>cases d<;>first|rfl|(cases h.1;done)
theorem Acv {c d:AV} (h:c.map Tf=d.map Tf):(bC c).length=(bC d).length/\(bC c=bC d->(∀l,c≠ .Mw l)->c=d):=by
 cases c with
 | «at»a=>
  cases d<;>simp only [AV.map,AV.at.injEq,reduceCtorEq] at h
  rename_i b
  have h1: [a].map Tf= [b].map Tf:=by simp [h]
  refine ⟨by simpa [bC] using nQ [a] [b] h1,λho _=>?_⟩
  have:=mI [a] [b] h1 (by simpa [bC] using ho)
  simpa using this
 |agg cs=>
  cases d<;>simp only [AV.map,AV.agg.injEq,reduceCtorEq] at h
  rename_i ds
  exact ⟨nQ cs ds h,λho _=>by rw [mI cs ds h ho]⟩
 |bu fr τ x=>
  cases d<;>simp only [AV.map,reduceCtorEq] at h
  exact ⟨rfl,λ_ _=>h⟩
 |Mw l=>
  cases d<;>simp only [AV.map,reduceCtorEq] at h
  exact ⟨rfl,λ_ hn=>absurd rfl (hn l)⟩
theorem CT: ∀(l m:List AV),l.map (·.map Tf)=m.map (·.map Tf)->(∀c∈l,c.lh=true)->(l.flatMap bC).length=(m.flatMap bC).length/\(l.flatMap bC=m.flatMap bC->l=m)
 | [],[],_,_=>⟨rfl,λ_=>rfl⟩
 | [],_::_,h,_=>by simp at h
 |_::_,[],h,_=>by simp at h
 |c::l,d::m,h,hn=>by
  simp only [Bm,Gs] at h
  obtain ⟨h1,h2⟩:=Acv h.1
  obtain ⟨h3,h4⟩:=CT l m h.2 λc hc=>hn c (Aq _ hc)
  refine ⟨by simp only [Vw,Au,h1,h3],λho=>?_⟩
  simp only [Vw] at ho
  obtain ⟨g1,g2⟩:=List.append_inj ho h1
  have hnt: ∀l',c≠ .Mw l':= λl' e=>by
   have:=hn c (by simp)
   rw [e] at this
   cases this
  rw [h2 g1 hnt,h4 g2]
theorem Ae2 {c d:OB} (h:c.map Tf=d.map Tf):(mi c).length=(mi d).length/\(mi c=mi d->c=d):=by
 cases c with
 |var t vs=>
  cases d<;>simp only [OB.map,OB.var.injEq,reduceCtorEq] at h
  rename_i t' us
  obtain ⟨rfl,h⟩:=h
  exact ⟨nQ vs us h,λho=>by rw [mI vs us h ho]⟩
 |_=>cases d<;>simp only [OB.map,reduceCtorEq] at h<;>exact ⟨rfl,λ_=>h⟩
theorem xf: ∀(l m:List (Nat×OB)),l.map (λp=>(p.1,p.2.map Tf))=m.map (λp=>(p.1,p.2.map Tf))->(l.flatMap λp=>mi p.2)=(m.flatMap λp=>mi p.2)->l=m
 | [],[],_,_=>rfl
 | [],_::_,h,_=>by simp at h
 |_::_,[],h,_=>by simp at h
 |(k,c)::l,(k',d)::m,h,ho=>by
  simp only [Bm,Gs,Ae] at h
  simp only [Vw] at ho
  obtain ⟨h1,h2⟩:=Ae2 h.1.2
  obtain ⟨g1,g2⟩:=List.append_inj ho h1
  rw [h.1.1,h2 g1,xf l m h.2 g2]
theorem CS (l:List (Bool×List AC)) (e:AV) {R:Type} (r:R):lQ (.Mw l) e r=none:=by cases e<;>rfl
theorem yC {d e:AV} {R:Type} {r:R} {v:avV d R} (h:lQ d e r=some v):d.lh=true:=by
 cases d with
 |Mw l=>rw [CS] at h;cases h
 |_=>rfl
theorem jB: ∀(l m:List AV) {R:Type} (r:R) (v:qV l R),Pd l m r=some v-> ∀c∈l,c.lh=true
 | [],_,_,_,_,_,c,hc=>by cases hc
 |d::l,[],_,r,v,h,c,hc=>by cases h
 |d::l,e::m,R,r,v,h,c,hc=>by
  simp only [Pd] at h
  cases hr:Pd l m r with
  |none=>rw [hr] at h;cases h
  |some r'=>
   rw [hr] at h
   rcases Bc.1 hc with hc|hc
   ·rw [hc];exact yC h
   ·exact jB l m r r' hr c hc
theorem dT {s0 s:St} (h:eqW s0 s):s=s0:=by
 obtain ⟨ho,h⟩:=h
 obtain ⟨v,h1,h2⟩:=Ca.1 h
 subst h2
 have hn: ∀c∈s0.tmps,c.lh=true:=by
  unfold jw at h1
  cases hr:Qn s0.heap s.heap () with
  |none=>rw [hr] at h1;cases h1
  |some r=>rw [hr] at h1;exact jB _ _ _ _ h1
 have e:=(jx h1).symm.trans (jx (qR s0 hn))
 simp only [St.Lc,St.mk.injEq] at e
 obtain ⟨e1,e2⟩:=e
 obtain ⟨l1,l2⟩:=CT s0.tmps s.tmps e1.symm hn
 unfold NX at ho
 obtain ⟨g1,g2⟩:=List.append_inj ho l1.symm
 have k1:=l2 g1.symm
 have k2:=xf s.heap s0.heap e2 g2
 cases s;cases s0
 simp only at k1 k2
 rw [k1,k2]
end Go.Proofs.Ytkkdpknjohcekaa
