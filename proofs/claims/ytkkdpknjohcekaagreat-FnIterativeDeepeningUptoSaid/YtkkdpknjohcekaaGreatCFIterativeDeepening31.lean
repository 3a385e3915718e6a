/-
  Part 32 of the proof that the statement FnIterativeDeepening holds.
-/
import Derived.Test.YtkkdpknjohcekaaGreatCFIterativeDeepening30
namespace Go.Proofs.YtkkdpknjohcekaaGreat
open Go.RowKit
def Tn:AC->AC
 | .own l _ _=> .own l 0 0
 |c=>c
theorem pP: ∀(c d:AC) {R:Type} (r:R) (v:acV c R),oK c d r=some v->Tn (lF c v).1=Tn d/\(lF c v).2=r:=by
 intro c d R r v h
 cases c<;>cases d<;>simp only [oK] at h<;>first|(cases h;first|done|exact ⟨rfl,rfl⟩)|skip
 all_goals
  split at h
  ·rename_i hc
   first
    |(obtain ⟨h1,h2⟩:=hc;subst h1;subst h2;injection h with h;subst h;exact ⟨rfl,rfl⟩)
    |(subst hc;injection h with h;subst h;exact ⟨rfl,rfl⟩)
  ·cases h
theorem eU: ∀(l m:List AC) {R:Type} (r:R) (v:II l R),Sy l m r=some v->(aK l v).1.map Tn=m.map Tn/\(aK l v).2=r
 | [],[],R,r,v,h=>by simp only [Sy] at h;injection h with h;subst h;exact ⟨rfl,rfl⟩
 | [],_::_,R,r,v,h=>by simp [Sy] at h
 |_::_,[],R,r,v,h=>by simp [Sy] at h
 |c::l,d::m,R,r,v,h=>by
  simp only [Sy] at h
  cases hr:Sy l m r with
  |none=>rw [hr] at h;cases h
  |some r'=>
   rw [hr] at h
   obtain ⟨h1,h2⟩:=pP c d r' v h
   obtain ⟨h3,h4⟩:=eU l m r r' hr
   simp only [aK,Cc]
   rw [h1,h2,h3]
   exact ⟨rfl,h4⟩
theorem CA: ∀(c d:AV) {R:Type} (r:R) (v:avV c R),lK c d r=some v->(sy c v).1.map Tn=d.map Tn/\(sy c v).2=r
 | .at a, .at b,R,r,v,h=>by
  obtain ⟨h1,h2⟩:=pP a b r v h
  exact ⟨by show AV.at _=AV.at _;rw [h1],h2⟩
 | .agg cs, .agg ds,R,r,v,h=>by
  obtain ⟨h1,h2⟩:=eU cs ds r v h
  exact ⟨by show AV.agg _=AV.agg _;rw [h1],h2⟩
 | .bw fr τ y, .bw Wh Ov x,R,r,v,h=>by
  by_cases hc:Ov=τ/\Wh=fr
  ·obtain ⟨h1,h2⟩:=hc
   subst h1;subst h2
   have h3:some ((x,r):Ov.den×R)=some v:=by
    have:lK (.bw Wh Ov y) (.bw Wh Ov x) r=some ((x,r):Ov.den×R):=Js ⟨rfl,rfl⟩
    exact this.symm.trans h
   injection h3 with h3
   subst h3;exact ⟨rfl,rfl⟩
  ·have h3:lK (.bw fr τ y) (.bw Wh Ov x) r=none:=dif_neg hc
   rw [h3] at h;cases h
 | .at _, .agg _,_,_,_,h=>nomatch (show none=some _ from h)
 | .at _, .bw _ _ _,_,_,_,h=>nomatch (show none=some _ from h)
 | .agg _, .at _,_,_,_,h=>nomatch (show none=some _ from h)
 | .agg _, .bw _ _ _,_,_,_,h=>nomatch (show none=some _ from h)
 | .bw _ _ _, .at _,_,_,_,h=>nomatch (show none=some _ from h)
 | .bw _ _ _, .agg _,_,_,_,h=>nomatch (show none=some _ from h)
 | .Nd _, .at _,_,_,_,h=>nomatch (show none=some _ from h)
 | .Nd _, .agg _,_,_,_,h=>nomatch (show none=some _ from h)
 | .Nd _, .bw _ _ _,_,_,_,h=>nomatch (show none=some _ from h)
 | .Nd _, .Nd _,_,_,_,h=>nomatch (show none=some _ from h)
 | .at _, .Nd _,_,_,_,h=>nomatch (show none=some _ from h)
 | .agg _, .Nd _,_,_,_,h=>nomatch (show none=some _ from h)
 | .bw _ _ _, .Nd _,_,_,_,h=>nomatch (show none=some _ from h)
theorem FF: ∀(c d:OB) {R:Type} (r:R) (v:obV c R),Tr c d r=some v->(tT c v).1.map Tn=d.map Tn/\(tT c v).2=r
 | .arr fr tr e tid ys, .arr Wh tr' e' Vd xs,R,r,v,h=>by
  by_cases hc:e'=e/\Wh=fr/\tr'=tr/\Vd=tid
  ·obtain ⟨h1,h2,h3,h4⟩:=hc
   subst h1;subst h2;subst h3;subst h4
   have h3:some ((xs,r):List e'.den×R)=some v:=by
    have:Tr (.arr Wh tr' e' Vd ys) (.arr Wh tr' e' Vd xs) r=some ((xs,r):List e'.den×R):=Js ⟨rfl,rfl,rfl,rfl⟩
    exact this.symm.trans h
   injection h3 with h3
   subst h3;exact ⟨rfl,rfl⟩
  ·have h3:Tr (.arr fr tr e tid ys) (.arr Wh tr' e' Vd xs) r=none:=dif_neg hc
   rw [h3] at h;cases h
 | .Hf e tid ys, .Hf e' Vd xs,R,r,v,h=>by
  by_cases hc:e'=e/\Vd=tid
  ·obtain ⟨h1,h4⟩:=hc
   subst h1;subst h4
   have h3:some ((xs,r):List e'.den×R)=some v:=by
    have:Tr (.Hf e' Vd ys) (.Hf e' Vd xs) r=some ((xs,r):List e'.den×R):=Js ⟨rfl,rfl⟩
    exact this.symm.trans h
   injection h3 with h3
   subst h3;exact ⟨rfl,rfl⟩
  ·have h3:Tr (.Hf e tid ys) (.Hf e' Vd xs) r=none:=dif_neg hc
   rw [h3] at h;cases h
 | .Vx vt m, .Vx vt' m',R,r,v,h=>by
  by_cases hc:vt'=vt
  ·subst hc
   have h3:some ((m',r):(ByteArray->Option vt'.den)×R)=some v:=by
    have:Tr (.Vx vt' m) (.Vx vt' m') r=some ((m',r):(ByteArray->Option vt'.den)×R):=Js rfl
    exact this.symm.trans h
   injection h3 with h3
   subst h3;exact ⟨rfl,rfl⟩
  ·have h3:Tr (.Vx vt m) (.Vx vt' m') r=none:=dif_neg hc
   rw [h3] at h;cases h
 | .var t vs, .var t' us,R,r,v,h=>by
  by_cases hc:t'=t
  ·subst hc
   have h0:Tr (.var t' vs) (.var t' us) r=Sy vs us r:=Ab rfl
   rw [h0] at h
   obtain ⟨h1,h2⟩:=eU vs us r v h
   exact ⟨by show OB.var _ _=OB.var _ _;rw [h1],h2⟩
  ·have h3:Tr (.var t vs) (.var t' us) r=none:=Ai hc
   rw [h3] at h;cases h
 | .Bn e te ys out none, .Bn e' Ru xs gU none,R,r,v,h=>by
  by_cases hc:e'=e/\Ru=te/\gU=out
  ·obtain ⟨h1,h2,h4⟩:=hc
   subst h1;subst h2;subst h4
   have h3:some ((xs,r):List (List e'.den)×R)=some v:=by
    have:Tr (.Bn e' Ru ys gU none) (.Bn e' Ru xs gU none) r=some ((xs,r):List (List e'.den)×R):=Js ⟨rfl,rfl,rfl⟩
    exact this.symm.trans h
   injection h3 with h3
   subst h3;exact ⟨rfl,rfl⟩
  ·have h3:Tr (.Bn e te ys out none) (.Bn e' Ru xs gU none) r=none:=dif_neg hc
   rw [h3] at h;cases h
 | .Bn e te ys out (some p), .Bn e' Ru xs gU (some p'),R,r,v,h=>by
  by_cases hc:e'=e/\Ru=te/\gU=out/\p'.1=p.1
  ·obtain ⟨h1,h2,h4,h5⟩:=hc
   subst h1;subst h2;subst h4
   have h3:some ((xs,p'.2,r):List (List e'.den)×(Nat×R))=some v:=by
    have:Tr (.Bn e' Ru ys gU (some p)) (.Bn e' Ru xs gU (some p')) r=some ((xs,p'.2,r):List (List e'.den)×(Nat×R)):=Js ⟨rfl,rfl,rfl,h5⟩
    exact this.symm.trans h
   injection h3 with h3
   subst h3
   refine ⟨?_,rfl⟩
   show OB.Bn e' Ru xs gU (some (p.1,p'.2))=OB.Bn e' Ru xs gU (some p')
   rw [<-h5]
  ·have h3:Tr (.Bn e te ys out (some p)) (.Bn e' Ru xs gU (some p')) r=none:=dif_neg hc
   rw [h3] at h;cases h
 | .Bn _ _ _ _ none, .Bn _ _ _ _ (some _),_,_,_,h=>nomatch (show none=some _ from h)
 | .Bn _ _ _ _ (some _), .Bn _ _ _ _ none,_,_,_,h=>nomatch (show none=some _ from h)
 | .Bn _ _ _ _ none, .arr _ _ _ _ _,_,_,_,h=>nomatch (show none=some _ from h)
 | .Bn _ _ _ _ none, .Hf _ _ _,_,_,_,h=>nomatch (show none=some _ from h)
 | .Bn _ _ _ _ none, .var _ _,_,_,_,h=>nomatch (show none=some _ from h)
 | .Bn _ _ _ _ none, .Vx _ _,_,_,_,h=>nomatch (show none=some _ from h)
 | .Bn _ _ _ _ (some _), .arr _ _ _ _ _,_,_,_,h=>nomatch (show none=some _ from h)
 | .Bn _ _ _ _ (some _), .Hf _ _ _,_,_,_,h=>nomatch (show none=some _ from h)
 | .Bn _ _ _ _ (some _), .var _ _,_,_,_,h=>nomatch (show none=some _ from h)
 | .Bn _ _ _ _ (some _), .Vx _ _,_,_,_,h=>nomatch (show none=some _ from h)
 | .arr _ _ _ _ _, .Bn _ _ _ _ _,_,_,_,h=>nomatch (show none=some _ from h)
 | .Hf _ _ _, .Bn _ _ _ _ _,_,_,_,h=>nomatch (show none=some _ from h)
 | .var _ _, .Bn _ _ _ _ _,_,_,_,h=>nomatch (show none=some _ from h)
 | .Vx _ _, .Bn _ _ _ _ _,_,_,_,h=>nomatch (show none=some _ from h)
 | .arr _ _ _ _ _, .var _ _,_,_,_,h=>nomatch (show none=some _ from h)
 | .arr _ _ _ _ _, .Hf _ _ _,_,_,_,h=>nomatch (show none=some _ from h)
 | .arr _ _ _ _ _, .Vx _ _,_,_,_,h=>nomatch (show none=some _ from h)
 | .Hf _ _ _, .var _ _,_,_,_,h=>nomatch (show none=some _ from h)
 | .Hf _ _ _, .arr _ _ _ _ _,_,_,_,h=>nomatch (show none=some _ from h)
 | .Hf _ _ _, .Vx _ _,_,_,_,h=>nomatch (show none=some _ from h)
 | .Vx _ _, .var _ _,_,_,_,h=>nomatch (show none=some _ from h)
 | .Vx _ _, .arr _ _ _ _ _,_,_,_,h=>nomatch (show none=some _ from h)
 | .Vx _ _, .Hf _ _ _,_,_,_,h=>nomatch (show none=some _ from h)
 | .var _ _, .arr _ _ _ _ _,_,_,_,h=>nomatch (show none=some _ from h)
 | .var _ _, .Hf _ _ _,_,_,_,h=>nomatch (show none=some _ from h)
 | .var _ _, .Vx _ _,_,_,_,h=>nomatch (show none=some _ from h)
theorem lr: ∀(l m:List AV) {R:Type} (r:R) (v:qO l R),Pq l m r=some v->(Xb l v).1.map (·.map Tn)=m.map (·.map Tn)/\(Xb l v).2=r
 | [],[],R,r,v,h=>by simp only [Pq] at h;injection h with h;subst h;exact ⟨rfl,rfl⟩
 | [],_::_,R,r,v,h=>by simp [Pq] at h
 |_::_,[],R,r,v,h=>by simp [Pq] at h
 |c::l,d::m,R,r,v,h=>by
  simp only [Pq] at h
  cases hr:Pq l m r with
  |none=>rw [hr] at h;cases h
  |some r'=>
   rw [hr] at h
   obtain ⟨h1,h2⟩:=CA c d r' v h
   obtain ⟨h3,h4⟩:=lr l m r r' hr
   simp only [Xb,Cc]
   rw [h1,h2,h3]
   exact ⟨rfl,h4⟩
theorem kT: ∀(l m:List (Nat×OB)) {R:Type} (r:R) (v:xd l R),Qs l m r=some v->(ee l v).1.map (λp=>(p.1,p.2.map Tn))=m.map (λp=>(p.1,p.2.map Tn))/\(ee l v).2=r
 | [],[],R,r,v,h=>by simp only [Qs] at h;injection h with h;subst h;exact ⟨rfl,rfl⟩
 | [],_::_,R,r,v,h=>by simp [Qs] at h
 |_::_,[],R,r,v,h=>by simp [Qs] at h
 |c::l,d::m,R,r,v,h=>by
  simp only [Qs] at h
  split at h
  ·rename_i hk
   cases hr:Qs l m r with
   |none=>rw [hr] at h;cases h
   |some r'=>
    rw [hr] at h
    obtain ⟨h1,h2⟩:=FF c.2 d.2 r' v h
    obtain ⟨h3,h4⟩:=kT l m r r' hr
    simp only [ee,Cc]
    rw [h1,h2,h3,hk]
    exact ⟨rfl,h4⟩
  ·cases h
theorem jw {s t:St} {v:stV s} (h:jv s t=some v):(ju s v).Ln Tn=t.Ln Tn:=by
 unfold jv at h
 cases hr:Qs s.heap t.heap () with
 |none=>rw [hr] at h;cases h
 |some r=>
  rw [hr] at h
  obtain ⟨h1,h2⟩:=lr s.tmps t.tmps r v h
  obtain ⟨h3,_⟩:=kT s.heap t.heap () r hr
  simp only [ju,St.Ln]
  rw [h1,h2,h3]
theorem pQ: ∀(c:AC) {R:Type} (r:R),oK c c r=some (OE c r):=by
 intro c R r
 cases c<;>simp [oK,OE]
theorem eV: ∀(l:List AC) {R:Type} (r:R),Sy l l r=some (sn l r)
 | [],_,_=>rfl
 |c::l,_,r=>by simp only [Sy,eV l r,sn];exact pQ c _
def AV.l8:AV->Bool
 | .Nd _=>false
 |_=>true
theorem CB: ∀(c:AV),c.l8=true-> ∀ {R:Type} (r:R),lK c c r=some (Aew c r):=by
 intro c hn R r
 cases c with
 |Nd l=>cases hn
 | «at»a=>exact pQ a r
 |agg cs=>exact eV cs r
 |bw fr τ x=>exact Js ⟨rfl,rfl⟩
theorem FG: ∀(c:OB) {R:Type} (r:R),Tr c c r=some (Aga c r):=by
 intro c R r
 cases c with
 |arr fr tr e t xs=>exact Js ⟨rfl,rfl,rfl,rfl⟩
 |Hf e t xs=>exact Js ⟨rfl,rfl⟩
 |Vx v m=>exact Js rfl
 |Bn e te rows out kp=>
  cases kp with
  |none=>exact Js ⟨rfl,rfl,rfl⟩
  |some p=>exact Js ⟨rfl,rfl,rfl,rfl⟩
 |var t vs=>
  have h0:Tr (.var t vs) (.var t vs) r=Sy vs vs r:=Ab rfl
  exact h0.trans (eV vs r)
theorem lu: ∀(l:List AV),(∀c∈l,c.l8=true)-> ∀ {R:Type} (r:R),Pq l l r=some (s8 l r)
 | [],_,_,_=>rfl
 |c::l,h,_,r=>by simp only [Pq,lu l (λc hc=>h c (Ao _ hc)) r,s8];exact CB c (h c (by simp)) _
theorem kU: ∀(l:List (Nat×OB)) {R:Type} (r:R),Qs l l r=some (rU l r)
 | [],_,_=>rfl
 |c::l,_,r=>by simp only [Qs,Py,kU l r,rU];exact FG c.2 _
theorem qJ (s:St) (h: ∀c∈s.tmps,c.l8=true):jv s s=some (QL s):=by
 simp only [jv,kU,QL]
 exact lu _ h _
theorem Bx {α:Type} {o:Option α} {K:α->Prop} :Il o K↔ ∃x,o=some x/\K x:=by
 unfold Il
 cases o with
 |none=>simp
 |some x=>simp
theorem mJ: ∀(l m:List AC),l.map Tn=m.map Tn->l.flatMap bB=m.flatMap bB->l=m
 | [],[],_,_=>rfl
 | [],_::_,h,_=>by simp at h
 |_::_,[],h,_=>by simp at h
 |c::l,d::m,h,ho=>by
  simp only [Cc,Hb] at h
  simp only [cr] at ho
  have hcd:c=d/\l.flatMap bB=m.flatMap bB:=by
   cases c<;>cases d<;>first|(cases h.1;done)|skip
   all_goals first
    |(obtain ⟨h1,_⟩:=h
      simp only [Tn,AC.own.injEq] at h1
      simp only [bB,Ti,ic,Hb,Ae] at ho
      exact ⟨by rw [h1.1,ho.1.1,ho.1.2],ho.2⟩)
    |exact ⟨h.1,by simpa only [bB,ic] using ho⟩
  rw [hcd.1,mJ l m h.2 hcd.2]
theorem nN: ∀(l m:List AC),l.map Tn=m.map Tn->(l.flatMap bB).length=(m.flatMap bB).length
 | [],[],_=>rfl
 | [],_::_,h=>by simp at h
 |_::_,[],h=>by simp at h
 |c::l,d::m,h=>by
  simp only [Cc,Hb] at h
  simp only [cr,Au,nN l m h.2]
  congr 1
  cases c<;>cases d<;>first|rfl|(cases h.1;done)
theorem Acq {c d:AV} (h:c.map Tn=d.map Tn):(bD c).length=(bD d).length/\(bD c=bD d->(∀l,c≠ .Nd l)->c=d):=by
 cases c with
 | «at»a=>
  cases d<;>simp only [AV.map,AV.at.injEq,reduceCtorEq] at h
  rename_i b
  have h1: [a].map Tn= [b].map Tn:=by simp [h]
  refine ⟨by simpa [bD] using nN [a] [b] h1,λho _=>?_⟩
  have:=mJ [a] [b] h1 (by simpa [bD] using ho)
  simpa using this
 |agg cs=>
  cases d<;>simp only [AV.map,AV.agg.injEq,reduceCtorEq] at h
  rename_i ds
  exact ⟨nN cs ds h,λho _=>by rw [mJ cs ds h ho]⟩
 |bw fr τ x=>
  cases d<;>simp only [AV.map,reduceCtorEq] at h
  exact ⟨rfl,λ_ _=>h⟩
 |Nd l=>
  cases d<;>simp only [AV.map,reduceCtorEq] at h
  exact ⟨rfl,λ_ hn=>absurd rfl (hn l)⟩
theorem CD: ∀(l m:List AV),l.map (·.map Tn)=m.map (·.map Tn)->(∀c∈l,c.l8=true)->(l.flatMap bD).length=(m.flatMap bD).length/\(l.flatMap bD=m.flatMap bD->l=m)
 | [],[],_,_=>⟨rfl,λ_=>rfl⟩
 | [],_::_,h,_=>by simp at h
 |_::_,[],h,_=>by simp at h
 |c::l,d::m,h,hn=>by
  simp only [Cc,Hb] at h
  obtain ⟨h1,h2⟩:=Acq h.1
  obtain ⟨h3,h4⟩:=CD l m h.2 λc hc=>hn c (Ao _ hc)
  refine ⟨by simp only [cr,Au,h1,h3],λho=>?_⟩
  simp only [cr] at ho
  obtain ⟨g1,g2⟩:=List.append_inj ho h1
  have hnt: ∀l',c≠ .Nd l':= λl' e=>by
   have:=hn c (by simp)
   rw [e] at this
   cases this
  rw [h2 g1 hnt,h4 g2]
theorem Adz {c d:OB} (h:c.map Tn=d.map Tn):(me c).length=(me d).length/\(me c=me d->c=d):=by
 cases c with
 |var t vs=>
  cases d<;>simp only [OB.map,OB.var.injEq,reduceCtorEq] at h
  rename_i t' us
  obtain ⟨rfl,h⟩:=h
  exact ⟨nN vs us h,λho=>by rw [mJ vs us h ho]⟩
 |_=>cases d<;>simp only [OB.map,reduceCtorEq] at h<;>exact ⟨rfl,λ_=>h⟩
theorem xe: ∀(l m:List (Nat×OB)),l.map (λp=>(p.1,p.2.map Tn))=m.map (λp=>(p.1,p.2.map Tn))->(l.flatMap λp=>me p.2)=(m.flatMap λp=>me p.2)->l=m
 | [],[],_,_=>rfl
 | [],_::_,h,_=>by simp at h
 |_::_,[],h,_=>by simp at h
 |(k,c)::l,(k',d)::m,h,ho=>by
  simp only [Cc,Hb,Ae] at h
  simp only [cr] at ho
  obtain ⟨h1,h2⟩:=Adz h.1.2
  obtain ⟨g1,g2⟩:=List.append_inj ho h1
  rw [h.1.1,h2 g1,xe l m h.2 g2]
theorem CC (l:List (Bool×List AC)) (e:AV) {R:Type} (r:R):lK (.Nd l) e r=none:=by cases e<;>rfl
theorem yp {d e:AV} {R:Type} {r:R} {v:avV d R} (h:lK d e r=some v):d.l8=true:=by
 cases d with
 |Nd l=>rw [CC] at h;cases h
 |_=>rfl
theorem jz: ∀(l m:List AV) {R:Type} (r:R) (v:qO l R),Pq l m r=some v-> ∀c∈l,c.l8=true
 | [],_,_,_,_,_,c,hc=>by cases hc
 |d::l,[],_,r,v,h,c,hc=>by cases h
 |d::l,e::m,R,r,v,h,c,hc=>by
  simp only [Pq] at h
  cases hr:Pq l m r with
  |none=>rw [hr] at h;cases h
  |some r'=>
   rw [hr] at h
   rcases Bg.1 hc with hc|hc
   ·rw [hc];exact yp h
   ·exact jz l m r r' hr c hc
theorem dS {s0 s:St} (h:eqW s0 s):s=s0:=by
 obtain ⟨ho,h⟩:=h
 obtain ⟨v,h1,h2⟩:=Bx.1 h
 subst h2
 have hn: ∀c∈s0.tmps,c.l8=true:=by
  unfold jv at h1
  cases hr:Qs s0.heap s.heap () with
  |none=>rw [hr] at h1;cases h1
  |some r=>rw [hr] at h1;exact jz _ _ _ _ h1
 have e:=(jw h1).symm.trans (jw (qJ s0 hn))
 simp only [St.Ln,St.mk.injEq] at e
 obtain ⟨e1,e2⟩:=e
 obtain ⟨l1,l2⟩:=CD s0.tmps s.tmps e1.symm hn
 unfold MW at ho
 obtain ⟨g1,g2⟩:=List.append_inj ho l1.symm
 have k1:=l2 g1.symm
 have k2:=xe s.heap s0.heap e2 g2
 cases s;cases s0
 simp only at k1 k2
 rw [k1,k2]
end Go.Proofs.YtkkdpknjohcekaaGreat
