/-
  Part 32 of the proof that the statement FnLowerBounds holds.
-/
import Derived.Test.YtkkdpknjohcekaaGreatCFLowerBounds30
namespace Go.Proofs.YtkkdpknjohcekaaGreat
open Go.RowKit
def Ud:AC->AC
 | .own l _ _=> .own l 0 0
 |c=>c
theorem pS: ∀(c d:AC) {R:Type} (r:R) (v:acV c R),oL c d r=some v->Ud (lM c v).1=Ud d/\(lM c v).2=r:=by
 intro c d R r v h
 cases c<;>cases d<;>simp only [oL] at h<;>first|(cases h;first|done|exact ⟨rfl,rfl⟩)|skip
 all_goals
  split at h
  ·rename_i hc
   first
    |(obtain ⟨h1,h2⟩:=hc;subst h1;subst h2;injection h with h;subst h;exact ⟨rfl,rfl⟩)
    |(subst hc;injection h with h;subst h;exact ⟨rfl,rfl⟩)
  ·cases h
theorem eZ: ∀(l m:List AC) {R:Type} (r:R) (v:IJ l R),Tk l m r=some v->(aS l v).1.map Ud=m.map Ud/\(aS l v).2=r
 | [],[],R,r,v,h=>by simp only [Tk] at h;injection h with h;subst h;exact ⟨rfl,rfl⟩
 | [],_::_,R,r,v,h=>by simp [Tk] at h
 |_::_,[],R,r,v,h=>by simp [Tk] at h
 |c::l,d::m,R,r,v,h=>by
  simp only [Tk] at h
  cases hr:Tk l m r with
  |none=>rw [hr] at h;cases h
  |some r'=>
   rw [hr] at h
   obtain ⟨h1,h2⟩:=pS c d r' v h
   obtain ⟨h3,h4⟩:=eZ l m r r' hr
   simp only [aS,Bz]
   rw [h1,h2,h3]
   exact ⟨rfl,h4⟩
theorem BW: ∀(c d:AV) {R:Type} (r:R) (v:avV c R),lR c d r=some v->(su c v).1.map Ud=d.map Ud/\(su c v).2=r
 | .at a, .at b,R,r,v,h=>by
  obtain ⟨h1,h2⟩:=pS a b r v h
  exact ⟨by show AV.at _=AV.at _;rw [h1],h2⟩
 | .agg cs, .agg ds,R,r,v,h=>by
  obtain ⟨h1,h2⟩:=eZ cs ds r v h
  exact ⟨by show AV.agg _=AV.agg _;rw [h1],h2⟩
 | .bF fr τ y, .bF Ww Pb x,R,r,v,h=>by
  by_cases hc:Pb=τ/\Ww=fr
  ·obtain ⟨h1,h2⟩:=hc
   subst h1;subst h2
   have h3:some ((x,r):Pb.den×R)=some v:=by
    have:lR (.bF Ww Pb y) (.bF Ww Pb x) r=some ((x,r):Pb.den×R):=Jo ⟨rfl,rfl⟩
    exact this.symm.trans h
   injection h3 with h3
   subst h3;exact ⟨rfl,rfl⟩
  ·have h3:lR (.bF fr τ y) (.bF Ww Pb x) r=none:=dif_neg hc
   rw [h3] at h;cases h
 | .at _, .agg _,_,_,_,h=>nomatch (show none=some _ from h)
 | .at _, .bF _ _ _,_,_,_,h=>nomatch (show none=some _ from h)
 | .agg _, .at _,_,_,_,h=>nomatch (show none=some _ from h)
 | .agg _, .bF _ _ _,_,_,_,h=>nomatch (show none=some _ from h)
 | .bF _ _ _, .at _,_,_,_,h=>nomatch (show none=some _ from h)
 | .bF _ _ _, .agg _,_,_,_,h=>nomatch (show none=some _ from h)
 | .Ng _, .at _,_,_,_,h=>nomatch (show none=some _ from h)
 | .Ng _, .agg _,_,_,_,h=>nomatch (show none=some _ from h)
 | .Ng _, .bF _ _ _,_,_,_,h=>nomatch (show none=some _ from h)
 | .Ng _, .Ng _,_,_,_,h=>nomatch (show none=some _ from h)
 | .at _, .Ng _,_,_,_,h=>nomatch (show none=some _ from h)
 | .agg _, .Ng _,_,_,_,h=>nomatch (show none=some _ from h)
 | .bF _ _ _, .Ng _,_,_,_,h=>nomatch (show none=some _ from h)
theorem FA: ∀(c d:OB) {R:Type} (r:R) (v:obV c R),Ug c d r=some v->(tK c v).1.map Ud=d.map Ud/\(tK c v).2=r
 | .arr fr tr e tid ys, .arr Ww tr' e' Vq xs,R,r,v,h=>by
  by_cases hc:e'=e/\Ww=fr/\tr'=tr/\Vq=tid
  ·obtain ⟨h1,h2,h3,h4⟩:=hc
   subst h1;subst h2;subst h3;subst h4
   have h3:some ((xs,r):List e'.den×R)=some v:=by
    have:Ug (.arr Ww tr' e' Vq ys) (.arr Ww tr' e' Vq xs) r=some ((xs,r):List e'.den×R):=Jo ⟨rfl,rfl,rfl,rfl⟩
    exact this.symm.trans h
   injection h3 with h3
   subst h3;exact ⟨rfl,rfl⟩
  ·have h3:Ug (.arr fr tr e tid ys) (.arr Ww tr' e' Vq xs) r=none:=dif_neg hc
   rw [h3] at h;cases h
 | .Hi e tid ys, .Hi e' Vq xs,R,r,v,h=>by
  by_cases hc:e'=e/\Vq=tid
  ·obtain ⟨h1,h4⟩:=hc
   subst h1;subst h4
   have h3:some ((xs,r):List e'.den×R)=some v:=by
    have:Ug (.Hi e' Vq ys) (.Hi e' Vq xs) r=some ((xs,r):List e'.den×R):=Jo ⟨rfl,rfl⟩
    exact this.symm.trans h
   injection h3 with h3
   subst h3;exact ⟨rfl,rfl⟩
  ·have h3:Ug (.Hi e tid ys) (.Hi e' Vq xs) r=none:=dif_neg hc
   rw [h3] at h;cases h
 | .Wm vt m, .Wm vt' m',R,r,v,h=>by
  by_cases hc:vt'=vt
  ·subst hc
   have h3:some ((m',r):(ByteArray->Option vt'.den)×R)=some v:=by
    have:Ug (.Wm vt' m) (.Wm vt' m') r=some ((m',r):(ByteArray->Option vt'.den)×R):=Jo rfl
    exact this.symm.trans h
   injection h3 with h3
   subst h3;exact ⟨rfl,rfl⟩
  ·have h3:Ug (.Wm vt m) (.Wm vt' m') r=none:=dif_neg hc
   rw [h3] at h;cases h
 | .var t vs, .var t' us,R,r,v,h=>by
  by_cases hc:t'=t
  ·subst hc
   have h0:Ug (.var t' vs) (.var t' us) r=Tk vs us r:=Ab rfl
   rw [h0] at h
   obtain ⟨h1,h2⟩:=eZ vs us r v h
   exact ⟨by show OB.var _ _=OB.var _ _;rw [h1],h2⟩
  ·have h3:Ug (.var t vs) (.var t' us) r=none:=Aj hc
   rw [h3] at h;cases h
 | .Bp e te ys out none, .Bp e' Sj xs hY none,R,r,v,h=>by
  by_cases hc:e'=e/\Sj=te/\hY=out
  ·obtain ⟨h1,h2,h4⟩:=hc
   subst h1;subst h2;subst h4
   have h3:some ((xs,r):List (List e'.den)×R)=some v:=by
    have:Ug (.Bp e' Sj ys hY none) (.Bp e' Sj xs hY none) r=some ((xs,r):List (List e'.den)×R):=Jo ⟨rfl,rfl,rfl⟩
    exact this.symm.trans h
   injection h3 with h3
   subst h3;exact ⟨rfl,rfl⟩
  ·have h3:Ug (.Bp e te ys out none) (.Bp e' Sj xs hY none) r=none:=dif_neg hc
   rw [h3] at h;cases h
 | .Bp e te ys out (some p), .Bp e' Sj xs hY (some p'),R,r,v,h=>by
  by_cases hc:e'=e/\Sj=te/\hY=out/\p'.1=p.1
  ·obtain ⟨h1,h2,h4,h5⟩:=hc
   subst h1;subst h2;subst h4
   have h3:some ((xs,p'.2,r):List (List e'.den)×(Nat×R))=some v:=by
    have:Ug (.Bp e' Sj ys hY (some p)) (.Bp e' Sj xs hY (some p')) r=some ((xs,p'.2,r):List (List e'.den)×(Nat×R)):=Jo ⟨rfl,rfl,rfl,h5⟩
    exact this.symm.trans h
   injection h3 with h3
   subst h3
   refine ⟨?_,rfl⟩
   show OB.Bp e' Sj xs hY (some (p.1,p'.2))=OB.Bp e' Sj xs hY (some p')
   rw [<-h5]
  ·have h3:Ug (.Bp e te ys out (some p)) (.Bp e' Sj xs hY (some p')) r=none:=dif_neg hc
   rw [h3] at h;cases h
 | .Bp _ _ _ _ none, .Bp _ _ _ _ (some _),_,_,_,h=>nomatch (show none=some _ from h)
 | .Bp _ _ _ _ (some _), .Bp _ _ _ _ none,_,_,_,h=>nomatch (show none=some _ from h)
 | .Bp _ _ _ _ none, .arr _ _ _ _ _,_,_,_,h=>nomatch (show none=some _ from h)
 | .Bp _ _ _ _ none, .Hi _ _ _,_,_,_,h=>nomatch (show none=some _ from h)
 | .Bp _ _ _ _ none, .var _ _,_,_,_,h=>nomatch (show none=some _ from h)
 | .Bp _ _ _ _ none, .Wm _ _,_,_,_,h=>nomatch (show none=some _ from h)
 | .Bp _ _ _ _ (some _), .arr _ _ _ _ _,_,_,_,h=>nomatch (show none=some _ from h)
 | .Bp _ _ _ _ (some _), .Hi _ _ _,_,_,_,h=>nomatch (show none=some _ from h)
 | .Bp _ _ _ _ (some _), .var _ _,_,_,_,h=>nomatch (show none=some _ from h)
 | .Bp _ _ _ _ (some _), .Wm _ _,_,_,_,h=>nomatch (show none=some _ from h)
 | .arr _ _ _ _ _, .Bp _ _ _ _ _,_,_,_,h=>nomatch (show none=some _ from h)
 | .Hi _ _ _, .Bp _ _ _ _ _,_,_,_,h=>nomatch (show none=some _ from h)
 | .var _ _, .Bp _ _ _ _ _,_,_,_,h=>nomatch (show none=some _ from h)
 | .Wm _ _, .Bp _ _ _ _ _,_,_,_,h=>nomatch (show none=some _ from h)
 | .arr _ _ _ _ _, .var _ _,_,_,_,h=>nomatch (show none=some _ from h)
 | .arr _ _ _ _ _, .Hi _ _ _,_,_,_,h=>nomatch (show none=some _ from h)
 | .arr _ _ _ _ _, .Wm _ _,_,_,_,h=>nomatch (show none=some _ from h)
 | .Hi _ _ _, .var _ _,_,_,_,h=>nomatch (show none=some _ from h)
 | .Hi _ _ _, .arr _ _ _ _ _,_,_,_,h=>nomatch (show none=some _ from h)
 | .Hi _ _ _, .Wm _ _,_,_,_,h=>nomatch (show none=some _ from h)
 | .Wm _ _, .var _ _,_,_,_,h=>nomatch (show none=some _ from h)
 | .Wm _ _, .arr _ _ _ _ _,_,_,_,h=>nomatch (show none=some _ from h)
 | .Wm _ _, .Hi _ _ _,_,_,_,h=>nomatch (show none=some _ from h)
 | .var _ _, .arr _ _ _ _ _,_,_,_,h=>nomatch (show none=some _ from h)
 | .var _ _, .Hi _ _ _,_,_,_,h=>nomatch (show none=some _ from h)
 | .var _ _, .Wm _ _,_,_,_,h=>nomatch (show none=some _ from h)
theorem lz: ∀(l m:List AV) {R:Type} (r:R) (v:qN l R),Py l m r=some v->(Xr l v).1.map (·.map Ud)=m.map (·.map Ud)/\(Xr l v).2=r
 | [],[],R,r,v,h=>by simp only [Py] at h;injection h with h;subst h;exact ⟨rfl,rfl⟩
 | [],_::_,R,r,v,h=>by simp [Py] at h
 |_::_,[],R,r,v,h=>by simp [Py] at h
 |c::l,d::m,R,r,v,h=>by
  simp only [Py] at h
  cases hr:Py l m r with
  |none=>rw [hr] at h;cases h
  |some r'=>
   rw [hr] at h
   obtain ⟨h1,h2⟩:=BW c d r' v h
   obtain ⟨h3,h4⟩:=lz l m r r' hr
   simp only [Xr,Bz]
   rw [h1,h2,h3]
   exact ⟨rfl,h4⟩
theorem kY: ∀(l m:List (Nat×OB)) {R:Type} (r:R) (v:xa l R),Rf l m r=some v->(er l v).1.map (λp=>(p.1,p.2.map Ud))=m.map (λp=>(p.1,p.2.map Ud))/\(er l v).2=r
 | [],[],R,r,v,h=>by simp only [Rf] at h;injection h with h;subst h;exact ⟨rfl,rfl⟩
 | [],_::_,R,r,v,h=>by simp [Rf] at h
 |_::_,[],R,r,v,h=>by simp [Rf] at h
 |c::l,d::m,R,r,v,h=>by
  simp only [Rf] at h
  split at h
  ·rename_i hk
   cases hr:Rf l m r with
   |none=>rw [hr] at h;cases h
   |some r'=>
    rw [hr] at h
    obtain ⟨h1,h2⟩:=FA c.2 d.2 r' v h
    obtain ⟨h3,h4⟩:=kY l m r r' hr
    simp only [er,Bz]
    rw [h1,h2,h3,hk]
    exact ⟨rfl,h4⟩
  ·cases h
theorem jA {s t:St} {v:stV s} (h:jz s t=some v):(jy s v).Ln Ud=t.Ln Ud:=by
 unfold jz at h
 cases hr:Rf s.heap t.heap () with
 |none=>rw [hr] at h;cases h
 |some r=>
  rw [hr] at h
  obtain ⟨h1,h2⟩:=lz s.tmps t.tmps r v h
  obtain ⟨h3,_⟩:=kY s.heap t.heap () r hr
  simp only [jy,St.Ln]
  rw [h1,h2,h3]
theorem pT: ∀(c:AC) {R:Type} (r:R),oL c c r=some (OD c r):=by
 intro c R r
 cases c<;>simp [oL,OD]
theorem fa: ∀(l:List AC) {R:Type} (r:R),Tk l l r=some (sj l r)
 | [],_,_=>rfl
 |c::l,_,r=>by simp only [Tk,fa l r,sj];exact pT c _
def AV.lh:AV->Bool
 | .Ng _=>false
 |_=>true
theorem BX: ∀(c:AV),c.lh=true-> ∀ {R:Type} (r:R),lR c c r=some (Aeb c r):=by
 intro c hn R r
 cases c with
 |Ng l=>cases hn
 | «at»a=>exact pT a r
 |agg cs=>exact fa cs r
 |bF fr τ x=>exact Jo ⟨rfl,rfl⟩
theorem FB: ∀(c:OB) {R:Type} (r:R),Ug c c r=some (Afm c r):=by
 intro c R r
 cases c with
 |arr fr tr e t xs=>exact Jo ⟨rfl,rfl,rfl,rfl⟩
 |Hi e t xs=>exact Jo ⟨rfl,rfl⟩
 |Wm v m=>exact Jo rfl
 |Bp e te rows out kp=>
  cases kp with
  |none=>exact Jo ⟨rfl,rfl,rfl⟩
  |some p=>exact Jo ⟨rfl,rfl,rfl,rfl⟩
 |var t vs=>
  have h0:Ug (.var t vs) (.var t vs) r=Tk vs vs r:=Ab rfl
  exact h0.trans (fa vs r)
theorem lA: ∀(l:List AV),(∀c∈l,c.lh=true)-> ∀ {R:Type} (r:R),Py l l r=some (s7 l r)
 | [],_,_,_=>rfl
 |c::l,h,_,r=>by simp only [Py,lA l (λc hc=>h c (An _ hc)) r,s7];exact BX c (h c (by simp)) _
theorem kZ: ∀(l:List (Nat×OB)) {R:Type} (r:R),Rf l l r=some (rS l r)
 | [],_,_=>rfl
 |c::l,_,r=>by simp only [Rf,Qi,kZ l r,rS];exact FB c.2 _
theorem qI (s:St) (h: ∀c∈s.tmps,c.lh=true):jz s s=some (QH s):=by
 simp only [jz,kZ,QH]
 exact lA _ h _
theorem Bx {α:Type} {o:Option α} {K:α->Prop} :Io o K↔ ∃x,o=some x/\K x:=by
 unfold Io
 cases o with
 |none=>simp
 |some x=>simp
theorem mL: ∀(l m:List AC),l.map Ud=m.map Ud->l.flatMap bL=m.flatMap bL->l=m
 | [],[],_,_=>rfl
 | [],_::_,h,_=>by simp at h
 |_::_,[],h,_=>by simp at h
 |c::l,d::m,h,ho=>by
  simp only [Bz,Hf] at h
  simp only [cF] at ho
  have hcd:c=d/\l.flatMap bL=m.flatMap bL:=by
   cases c<;>cases d<;>first|(cases h.1;done)|skip
   all_goals first
    |(obtain ⟨h1,_⟩:=h
      simp only [Ud,AC.own.injEq] at h1
      simp only [bL,Qc,il,Hf,Ae] at ho
      exact ⟨by rw [h1.1,ho.1.1,ho.1.2],ho.2⟩)
    |exact ⟨h.1,by simpa only [bL,il] using ho⟩
  rw [hcd.1,mL l m h.2 hcd.2]
theorem nW: ∀(l m:List AC),l.map Ud=m.map Ud->(l.flatMap bL).length=(m.flatMap bL).length
 | [],[],_=>rfl
 | [],_::_,h=>by simp at h
 |_::_,[],h=>by simp at h
 |c::l,d::m,h=>by
  simp only [Bz,Hf] at h
  simp only [cF,Av,nW l m h.2]
  congr 1
  cases c<;>cases d<;>first|rfl|(cases h.1;done)
theorem Ac1 {c d:AV} (h:c.map Ud=d.map Ud):(bN c).length=(bN d).length/\(bN c=bN d->(∀l,c≠ .Ng l)->c=d):=by
 cases c with
 | «at»a=>
  cases d<;>simp only [AV.map,AV.at.injEq,reduceCtorEq] at h
  rename_i b
  have h1: [a].map Ud= [b].map Ud:=by simp [h]
  refine ⟨by simpa [bN] using nW [a] [b] h1,λho _=>?_⟩
  have:=mL [a] [b] h1 (by simpa [bN] using ho)
  simpa using this
 |agg cs=>
  cases d<;>simp only [AV.map,AV.agg.injEq,reduceCtorEq] at h
  rename_i ds
  exact ⟨nW cs ds h,λho _=>by rw [mL cs ds h ho]⟩
 |bF fr τ x=>
  cases d<;>simp only [AV.map,reduceCtorEq] at h
  exact ⟨rfl,λ_ _=>h⟩
 |Ng l=>
  cases d<;>simp only [AV.map,reduceCtorEq] at h
  exact ⟨rfl,λ_ hn=>absurd rfl (hn l)⟩
theorem BZ: ∀(l m:List AV),l.map (·.map Ud)=m.map (·.map Ud)->(∀c∈l,c.lh=true)->(l.flatMap bN).length=(m.flatMap bN).length/\(l.flatMap bN=m.flatMap bN->l=m)
 | [],[],_,_=>⟨rfl,λ_=>rfl⟩
 | [],_::_,h,_=>by simp at h
 |_::_,[],h,_=>by simp at h
 |c::l,d::m,h,hn=>by
  simp only [Bz,Hf] at h
  obtain ⟨h1,h2⟩:=Ac1 h.1
  obtain ⟨h3,h4⟩:=BZ l m h.2 λc hc=>hn c (An _ hc)
  refine ⟨by simp only [cF,Av,h1,h3],λho=>?_⟩
  simp only [cF] at ho
  obtain ⟨g1,g2⟩:=List.append_inj ho h1
  have hnt: ∀l',c≠ .Ng l':= λl' e=>by
   have:=hn c (by simp)
   rw [e] at this
   cases this
  rw [h2 g1 hnt,h4 g2]
theorem Ad6 {c d:OB} (h:c.map Ud=d.map Ud):(mn c).length=(mn d).length/\(mn c=mn d->c=d):=by
 cases c with
 |var t vs=>
  cases d<;>simp only [OB.map,OB.var.injEq,reduceCtorEq] at h
  rename_i t' us
  obtain ⟨rfl,h⟩:=h
  exact ⟨nW vs us h,λho=>by rw [mL vs us h ho]⟩
 |_=>cases d<;>simp only [OB.map,reduceCtorEq] at h<;>exact ⟨rfl,λ_=>h⟩
theorem xb: ∀(l m:List (Nat×OB)),l.map (λp=>(p.1,p.2.map Ud))=m.map (λp=>(p.1,p.2.map Ud))->(l.flatMap λp=>mn p.2)=(m.flatMap λp=>mn p.2)->l=m
 | [],[],_,_=>rfl
 | [],_::_,h,_=>by simp at h
 |_::_,[],h,_=>by simp at h
 |(k,c)::l,(k',d)::m,h,ho=>by
  simp only [Bz,Hf,Ae] at h
  simp only [cF] at ho
  obtain ⟨h1,h2⟩:=Ad6 h.1.2
  obtain ⟨g1,g2⟩:=List.append_inj ho h1
  rw [h.1.1,h2 g1,xb l m h.2 g2]
theorem BY (l:List (Bool×List AC)) (e:AV) {R:Type} (r:R):lR (.Ng l) e r=none:=by cases e<;>rfl
theorem yt {d e:AV} {R:Type} {r:R} {v:avV d R} (h:lR d e r=some v):d.lh=true:=by
 cases d with
 |Ng l=>rw [BY] at h;cases h
 |_=>rfl
theorem jD: ∀(l m:List AV) {R:Type} (r:R) (v:qN l R),Py l m r=some v-> ∀c∈l,c.lh=true
 | [],_,_,_,_,_,c,hc=>by cases hc
 |d::l,[],_,r,v,h,c,hc=>by cases h
 |d::l,e::m,R,r,v,h,c,hc=>by
  simp only [Py] at h
  cases hr:Py l m r with
  |none=>rw [hr] at h;cases h
  |some r'=>
   rw [hr] at h
   rcases Bd.1 hc with hc|hc
   ·rw [hc];exact yt h
   ·exact jD l m r r' hr c hc
theorem dZ {s0 s:St} (h:eqW s0 s):s=s0:=by
 obtain ⟨ho,h⟩:=h
 obtain ⟨v,h1,h2⟩:=Bx.1 h
 subst h2
 have hn: ∀c∈s0.tmps,c.lh=true:=by
  unfold jz at h1
  cases hr:Rf s0.heap s.heap () with
  |none=>rw [hr] at h1;cases h1
  |some r=>rw [hr] at h1;exact jD _ _ _ _ h1
 have e:=(jA h1).symm.trans (jA (qI s0 hn))
 simp only [St.Ln,St.mk.injEq] at e
 obtain ⟨e1,e2⟩:=e
 obtain ⟨l1,l2⟩:=BZ s0.tmps s.tmps e1.symm hn
 unfold MY at ho
 obtain ⟨g1,g2⟩:=List.append_inj ho l1.symm
 have k1:=l2 g1.symm
 have k2:=xb s.heap s0.heap e2 g2
 cases s;cases s0
 simp only at k1 k2
 rw [k1,k2]
end Go.Proofs.YtkkdpknjohcekaaGreat
