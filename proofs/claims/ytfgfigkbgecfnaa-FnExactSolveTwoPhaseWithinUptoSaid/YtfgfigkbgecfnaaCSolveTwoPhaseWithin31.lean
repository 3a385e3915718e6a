/-
  Part 32 of the proof that the statement FnExactSolveTwoPhaseWithin holds.
-/
import Derived.Test.YtfgfigkbgecfnaaCSolveTwoPhaseWithin30
namespace Go.Proofs.Ytfgfigkbgecfnaa
open Go.RowKit
def Tt:AC->AC
 | .own l _ _=> .own l 0 0
 |c=>c
theorem qF: ∀(c d:AC) {R:Type} (r:R) (v:acV c R),po c d r=some v->Tt (mh c v).1=Tt d/\(mh c v).2=r:=by
 intro c d R r v h
 cases c<;>cases d<;>simp only [po] at h<;>first|(cases h;first|done|exact ⟨rfl,rfl⟩)|skip
 all_goals
  split at h
  ·rename_i hc
   first
    |(obtain ⟨h1,h2⟩:=hc;subst h1;subst h2;injection h with h;subst h;exact ⟨rfl,rfl⟩)
    |(subst hc;injection h with h;subst h;exact ⟨rfl,rfl⟩)
  ·cases h
theorem fF: ∀(l m:List AC) {R:Type} (r:R) (v:LP l R),Tb l m r=some v->(aX l v).1.map Tt=m.map Tt/\(aX l v).2=r
 | [],[],R,r,v,h=>by simp only [Tb] at h;injection h with h;subst h;exact ⟨rfl,rfl⟩
 | [],_::_,R,r,v,h=>by simp [Tb] at h
 |_::_,[],R,r,v,h=>by simp [Tb] at h
 |c::l,d::m,R,r,v,h=>by
  simp only [Tb] at h
  cases hr:Tb l m r with
  |none=>rw [hr] at h;cases h
  |some r'=>
   rw [hr] at h;obtain ⟨h1,h2⟩:=qF c d r' v h;obtain ⟨h3,h4⟩:=fF l m r r' hr;simp only [aX,Cb];rw [h1,h2,h3];exact ⟨rfl,h4⟩
theorem EJ: ∀(c d:AV) {R:Type} (r:R) (v:avV c R),mq c d r=some v->(tm c v).1.map Tt=d.map Tt/\(tm c v).2=r
 | .at a, .at b,R,r,v,h=>by
  obtain ⟨h1,h2⟩:=qF a b r v h;exact ⟨by show AV.at _=AV.at _;rw [h1],h2⟩
 | .agg cs, .agg ds,R,r,v,h=>by
  obtain ⟨h1,h2⟩:=fF cs ds r v h;exact ⟨by show AV.agg _=AV.agg _;rw [h1],h2⟩
 | .bL fr τ y, .bL Ww Ow x,R,r,v,h=>by
  by_cases hc:Ow=τ/\Ww=fr
  ·obtain ⟨h1,h2⟩:=hc;subst h1;subst h2
   have h3:some ((x,r):Ow.den×R)=some v:=by
    have:mq (.bL Ww Ow y) (.bL Ww Ow x) r=some ((x,r):Ow.den×R):=Jj ⟨rfl,rfl⟩;exact this.symm.trans h
   injection h3 with h3
   subst h3;exact ⟨rfl,rfl⟩
  ·have h3:mq (.bL fr τ y) (.bL Ww Ow x) r=none:=dif_neg hc;rw [h3] at h;cases h
 | .at _, .agg _,_,_,_,h=>nomatch (show none=some _ from h)
 | .at _, .bL _ _ _,_,_,_,h=>nomatch (show none=some _ from h)
 | .agg _, .at _,_,_,_,h=>nomatch (show none=some _ from h)
 | .agg _, .bL _ _ _,_,_,_,h=>nomatch (show none=some _ from h)
 | .bL _ _ _, .at _,_,_,_,h=>nomatch (show none=some _ from h)
 | .bL _ _ _, .agg _,_,_,_,h=>nomatch (show none=some _ from h)
 | .Nh _, .at _,_,_,_,h=>nomatch (show none=some _ from h)
 | .Nh _, .agg _,_,_,_,h=>nomatch (show none=some _ from h)
 | .Nh _, .bL _ _ _,_,_,_,h=>nomatch (show none=some _ from h)
 | .Nh _, .Nh _,_,_,_,h=>nomatch (show none=some _ from h)
 | .at _, .Nh _,_,_,_,h=>nomatch (show none=some _ from h)
 | .agg _, .Nh _,_,_,_,h=>nomatch (show none=some _ from h)
 | .bL _ _ _, .Nh _,_,_,_,h=>nomatch (show none=some _ from h)
theorem HY: ∀(c d:OB) {R:Type} (r:R) (v:obV c R),Tw c d r=some v->(uH c v).1.map Tt=d.map Tt/\(uH c v).2=r
 | .arr fr tr e tid ys, .arr Ww tr' e' Vt xs,R,r,v,h=>by
  by_cases hc:e'=e/\Ww=fr/\tr'=tr/\Vt=tid
  ·obtain ⟨h1,h2,h3,h4⟩:=hc;subst h1;subst h2;subst h3;subst h4
   have h3:some ((xs,r):List e'.den×R)=some v:=by
    have:Tw (.arr Ww tr' e' Vt ys) (.arr Ww tr' e' Vt xs) r=some ((xs,r):List e'.den×R):=Jj ⟨rfl,rfl,rfl,rfl⟩;exact this.symm.trans h
   injection h3 with h3
   subst h3;exact ⟨rfl,rfl⟩
  ·have h3:Tw (.arr fr tr e tid ys) (.arr Ww tr' e' Vt xs) r=none:=dif_neg hc;rw [h3] at h;cases h
 | .Hl e tid ys, .Hl e' Vt xs,R,r,v,h=>by
  by_cases hc:e'=e/\Vt=tid
  ·obtain ⟨h1,h4⟩:=hc;subst h1;subst h4
   have h3:some ((xs,r):List e'.den×R)=some v:=by
    have:Tw (.Hl e' Vt ys) (.Hl e' Vt xs) r=some ((xs,r):List e'.den×R):=Jj ⟨rfl,rfl⟩;exact this.symm.trans h
   injection h3 with h3
   subst h3;exact ⟨rfl,rfl⟩
  ·have h3:Tw (.Hl e tid ys) (.Hl e' Vt xs) r=none:=dif_neg hc;rw [h3] at h;cases h
 | .Wl vt m, .Wl vt' m',R,r,v,h=>by
  by_cases hc:vt'=vt
  ·subst hc
   have h3:some ((m',r):(ByteArray->Option vt'.den)×R)=some v:=by
    have:Tw (.Wl vt' m) (.Wl vt' m') r=some ((m',r):(ByteArray->Option vt'.den)×R):=Jj rfl;exact this.symm.trans h
   injection h3 with h3
   subst h3;exact ⟨rfl,rfl⟩
  ·have h3:Tw (.Wl vt m) (.Wl vt' m') r=none:=dif_neg hc;rw [h3] at h;cases h
 | .var t vs, .var t' us,R,r,v,h=>by
  by_cases hc:t'=t
  ·subst hc;have h0:Tw (.var t' vs) (.var t' us) r=Tb vs us r:=Ac rfl;rw [h0] at h;obtain ⟨h1,h2⟩:=fF vs us r v h;exact ⟨by show OB.var _ _=OB.var _ _;rw [h1],h2⟩
  ·have h3:Tw (.var t vs) (.var t' us) r=none:=Ai hc;rw [h3] at h;cases h
 | .Ca e te ys out none, .Ca e' Rx xs iJ none,R,r,v,h=>by
  by_cases hc:e'=e/\Rx=te/\iJ=out
  ·obtain ⟨h1,h2,h4⟩:=hc;subst h1;subst h2;subst h4
   have h3:some ((xs,r):List (List e'.den)×R)=some v:=by
    have:Tw (.Ca e' Rx ys iJ none) (.Ca e' Rx xs iJ none) r=some ((xs,r):List (List e'.den)×R):=Jj ⟨rfl,rfl,rfl⟩;exact this.symm.trans h
   injection h3 with h3
   subst h3;exact ⟨rfl,rfl⟩
  ·have h3:Tw (.Ca e te ys out none) (.Ca e' Rx xs iJ none) r=none:=dif_neg hc;rw [h3] at h;cases h
 | .Ca e te ys out (some p), .Ca e' Rx xs iJ (some p'),R,r,v,h=>by
  by_cases hc:e'=e/\Rx=te/\iJ=out/\p'.1=p.1
  ·obtain ⟨h1,h2,h4,h5⟩:=hc;subst h1;subst h2;subst h4
   have h3:some ((xs,p'.2,r):List (List e'.den)×(Nat×R))=some v:=by
    have:Tw (.Ca e' Rx ys iJ (some p)) (.Ca e' Rx xs iJ (some p')) r=some ((xs,p'.2,r):List (List e'.den)×(Nat×R)):=Jj ⟨rfl,rfl,rfl,h5⟩;exact this.symm.trans h
   injection h3 with h3
   subst h3;refine ⟨?_,rfl⟩;show OB.Ca e' Rx xs iJ (some (p.1,p'.2))=OB.Ca e' Rx xs iJ (some p');rw [<-h5]
  ·have h3:Tw (.Ca e te ys out (some p)) (.Ca e' Rx xs iJ (some p')) r=none:=dif_neg hc;rw [h3] at h;cases h
 | .Ca _ _ _ _ none, .Ca _ _ _ _ (some _),_,_,_,h=>nomatch (show none=some _ from h)
 | .Ca _ _ _ _ (some _), .Ca _ _ _ _ none,_,_,_,h=>nomatch (show none=some _ from h)
 | .Ca _ _ _ _ none, .arr _ _ _ _ _,_,_,_,h=>nomatch (show none=some _ from h)
 | .Ca _ _ _ _ none, .Hl _ _ _,_,_,_,h=>nomatch (show none=some _ from h)
 | .Ca _ _ _ _ none, .var _ _,_,_,_,h=>nomatch (show none=some _ from h)
 | .Ca _ _ _ _ none, .Wl _ _,_,_,_,h=>nomatch (show none=some _ from h)
 | .Ca _ _ _ _ (some _), .arr _ _ _ _ _,_,_,_,h=>nomatch (show none=some _ from h)
 | .Ca _ _ _ _ (some _), .Hl _ _ _,_,_,_,h=>nomatch (show none=some _ from h)
 | .Ca _ _ _ _ (some _), .var _ _,_,_,_,h=>nomatch (show none=some _ from h)
 | .Ca _ _ _ _ (some _), .Wl _ _,_,_,_,h=>nomatch (show none=some _ from h)
 | .arr _ _ _ _ _, .Ca _ _ _ _ _,_,_,_,h=>nomatch (show none=some _ from h)
 | .Hl _ _ _, .Ca _ _ _ _ _,_,_,_,h=>nomatch (show none=some _ from h)
 | .var _ _, .Ca _ _ _ _ _,_,_,_,h=>nomatch (show none=some _ from h)
 | .Wl _ _, .Ca _ _ _ _ _,_,_,_,h=>nomatch (show none=some _ from h)
 | .arr _ _ _ _ _, .var _ _,_,_,_,h=>nomatch (show none=some _ from h)
 | .arr _ _ _ _ _, .Hl _ _ _,_,_,_,h=>nomatch (show none=some _ from h)
 | .arr _ _ _ _ _, .Wl _ _,_,_,_,h=>nomatch (show none=some _ from h)
 | .Hl _ _ _, .var _ _,_,_,_,h=>nomatch (show none=some _ from h)
 | .Hl _ _ _, .arr _ _ _ _ _,_,_,_,h=>nomatch (show none=some _ from h)
 | .Hl _ _ _, .Wl _ _,_,_,_,h=>nomatch (show none=some _ from h)
 | .Wl _ _, .var _ _,_,_,_,h=>nomatch (show none=some _ from h)
 | .Wl _ _, .arr _ _ _ _ _,_,_,_,h=>nomatch (show none=some _ from h)
 | .Wl _ _, .Hl _ _ _,_,_,_,h=>nomatch (show none=some _ from h)
 | .var _ _, .arr _ _ _ _ _,_,_,_,h=>nomatch (show none=some _ from h)
 | .var _ _, .Hl _ _ _,_,_,_,h=>nomatch (show none=some _ from h)
 | .var _ _, .Wl _ _,_,_,_,h=>nomatch (show none=some _ from h)
theorem m4: ∀(l m:List AV) {R:Type} (r:R) (v:rS l R),Pp l m r=some v->(Xo l v).1.map (·.map Tt)=m.map (·.map Tt)/\(Xo l v).2=r
 | [],[],R,r,v,h=>by simp only [Pp] at h;injection h with h;subst h;exact ⟨rfl,rfl⟩
 | [],_::_,R,r,v,h=>by simp [Pp] at h
 |_::_,[],R,r,v,h=>by simp [Pp] at h
 |c::l,d::m,R,r,v,h=>by
  simp only [Pp] at h
  cases hr:Pp l m r with
  |none=>rw [hr] at h;cases h
  |some r'=>
   rw [hr] at h;obtain ⟨h1,h2⟩:=EJ c d r' v h;obtain ⟨h3,h4⟩:=m4 l m r r' hr;simp only [Xo,Cb];rw [h1,h2,h3];exact ⟨rfl,h4⟩
theorem lG: ∀(l m:List (Nat×OB)) {R:Type} (r:R) (v:xU l R),Qs l m r=some v->(eP l v).1.map (λp=>(p.1,p.2.map Tt))=m.map (λp=>(p.1,p.2.map Tt))/\(eP l v).2=r
 | [],[],R,r,v,h=>by simp only [Qs] at h;injection h with h;subst h;exact ⟨rfl,rfl⟩
 | [],_::_,R,r,v,h=>by simp [Qs] at h
 |_::_,[],R,r,v,h=>by simp [Qs] at h
 |c::l,d::m,R,r,v,h=>by
  simp only [Qs] at h;split at h
  ·rename_i hk
   cases hr:Qs l m r with
   |none=>rw [hr] at h;cases h
   |some r'=>
    rw [hr] at h;obtain ⟨h1,h2⟩:=HY c.2 d.2 r' v h;obtain ⟨h3,h4⟩:=lG l m r r' hr;simp only [eP,Cb];rw [h1,h2,h3,hk];exact ⟨rfl,h4⟩
  ·cases h
theorem kc {s t:St} {v:stV s} (h:kb s t=some v):(ka s v).Lo Tt=t.Lo Tt:=by
 unfold kb at h
 cases hr:Qs s.heap t.heap () with
 |none=>rw [hr] at h;cases h
 |some r=>
  rw [hr] at h;obtain ⟨h1,h2⟩:=m4 s.tmps t.tmps r v h;obtain ⟨h3,_⟩:=lG s.heap t.heap () r hr;simp only [ka,St.Lo];rw [h1,h2,h3]
theorem qG: ∀(c:AC) {R:Type} (r:R),po c c r=some (RF c r):=by
 intro c R r
 cases c<;>simp [po,RF]
theorem fG: ∀(l:List AC) {R:Type} (r:R),Tb l l r=some (sY l r)
 | [],_,_=>rfl
 |c::l,_,r=>by simp only [Tb,fG l r,sY];exact qG c _
def AV.lQ:AV->Bool
 | .Nh _=>false
 |_=>true
theorem EK: ∀(c:AV),c.lQ=true-> ∀ {R:Type} (r:R),mq c c r=some (Ahl c r):=by
 intro c hn R r
 cases c with
 |Nh l=>cases hn
 | «at»a=>exact qG a r
 |agg cs=>exact fG cs r
 |bL fr τ x=>exact Jj ⟨rfl,rfl⟩
theorem HZ: ∀(c:OB) {R:Type} (r:R),Tw c c r=some (Aj7 c r):=by
 intro c R r
 cases c with
 |arr fr tr e t xs=>exact Jj ⟨rfl,rfl,rfl,rfl⟩
 |Hl e t xs=>exact Jj ⟨rfl,rfl⟩
 |Wl v m=>exact Jj rfl
 |Ca e te rows out kp=>
  cases kp with
  |none=>exact Jj ⟨rfl,rfl,rfl⟩
  |some p=>exact Jj ⟨rfl,rfl,rfl,rfl⟩
 |var t vs=>
  have h0:Tw (.var t vs) (.var t vs) r=Tb vs vs r:=Ac rfl;exact h0.trans (fG vs r)
theorem m5: ∀(l:List AV),(∀c∈l,c.lQ=true)-> ∀ {R:Type} (r:R),Pp l l r=some (sO l r)
 | [],_,_,_=>rfl
 |c::l,h,_,r=>by simp only [Pp,m5 l (λc hc=>h c (At _ hc)) r,sO];exact EK c (h c (by simp)) _
theorem lH: ∀(l:List (Nat×OB)) {R:Type} (r:R),Qs l l r=some (sE l r)
 | [],_,_=>rfl
 |c::l,_,r=>by simp only [Qs,Oz,lH l r,sE];exact HZ c.2 _
theorem rM (s:St) (h: ∀c∈s.tmps,c.lQ=true):kb s s=some (TL s):=by
 simp only [kb,lH,TL];exact m5 _ h _
theorem Ch {α:Type} {o:Option α} {K:α->Prop} :Ig o K↔ ∃x,o=some x/\K x:=by
 unfold Ig
 cases o with
 |none=>simp
 |some x=>simp
theorem nw: ∀(l m:List AC),l.map Tt=m.map Tt->l.flatMap bQ=m.flatMap bQ->l=m
 | [],[],_,_=>rfl
 | [],_::_,h,_=>by simp at h
 |_::_,[],h,_=>by simp at h
 |c::l,d::m,h,ho=>by
  simp only [Cb,Hi] at h;simp only [cR] at ho
  have hcd:c=d/\l.flatMap bQ=m.flatMap bQ:=by
   cases c<;>cases d<;>first|(cases h.1;done)|skip
   all_goals first
    |(obtain ⟨h1,_⟩:=h
      simp only [Tt,AC.own.injEq] at h1;simp only [bQ,Ka,Om,Hi,Ag] at ho
      exact ⟨by rw [h1.1,ho.1.1,ho.1.2],ho.2⟩)
    |exact ⟨h.1,by simpa only [bQ,Om] using ho⟩
  rw [hcd.1,nw l m h.2 hcd.2]
theorem oE: ∀(l m:List AC),l.map Tt=m.map Tt->(l.flatMap bQ).length=(m.flatMap bQ).length
 | [],[],_=>rfl
 | [],_::_,h=>by simp at h
 |_::_,[],h=>by simp at h
 |c::l,d::m,h=>by
  simp only [Cb,Hi] at h;simp only [cR,Av,oE l m h.2]
  congr 1
  cases c<;>cases d<;>first|rfl|(cases h.1;done)
theorem Aez {c d:AV} (h:c.map Tt=d.map Tt):(bS c).length=(bS d).length/\(bS c=bS d->(∀l,c≠ .Nh l)->c=d):=by
 cases c with
 | «at»a=>
  cases d<;>simp only [AV.map,AV.at.injEq,reduceCtorEq] at h
  rename_i b
  have h1: [a].map Tt= [b].map Tt:=by simp [h]
  refine ⟨by simpa [bS] using oE [a] [b] h1,λho _=>?_⟩;have:=nw [a] [b] h1 (by simpa [bS] using ho);simpa using this
 |agg cs=>
  cases d<;>simp only [AV.map,AV.agg.injEq,reduceCtorEq] at h
  rename_i ds;exact ⟨oE cs ds h,λho _=>by rw [nw cs ds h ho]⟩
 |bL fr τ x=>
  cases d<;>simp only [AV.map,reduceCtorEq] at h
  exact ⟨rfl,λ_ _=>h⟩
 |Nh l=>
  cases d<;>simp only [AV.map,reduceCtorEq] at h
  exact ⟨rfl,λ_ hn=>absurd rfl (hn l)⟩
theorem EM: ∀(l m:List AV),l.map (·.map Tt)=m.map (·.map Tt)->(∀c∈l,c.lQ=true)->(l.flatMap bS).length=(m.flatMap bS).length/\(l.flatMap bS=m.flatMap bS->l=m)
 | [],[],_,_=>⟨rfl,λ_=>rfl⟩
 | [],_::_,h,_=>by simp at h
 |_::_,[],h,_=>by simp at h
 |c::l,d::m,h,hn=>by
  simp only [Cb,Hi] at h;obtain ⟨h1,h2⟩:=Aez h.1;obtain ⟨h3,h4⟩:=EM l m h.2 λc hc=>hn c (At _ hc);refine ⟨by simp only [cR,Av,h1,h3],λho=>?_⟩;simp only [cR] at ho;obtain ⟨g1,g2⟩:=List.append_inj ho h1
  have hnt: ∀l',c≠ .Nh l':= λl' e=>by
   have:=hn c (by simp);rw [e] at this;cases this
  rw [h2 g1 hnt,h4 g2]
theorem Ag7 {c d:OB} (h:c.map Tt=d.map Tt):(mU c).length=(mU d).length/\(mU c=mU d->c=d):=by
 cases c with
 |var t vs=>
  cases d<;>simp only [OB.map,OB.var.injEq,reduceCtorEq] at h
  rename_i t' us;obtain ⟨rfl,h⟩:=h;exact ⟨oE vs us h,λho=>by rw [nw vs us h ho]⟩
 |_=>cases d<;>simp only [OB.map,reduceCtorEq] at h<;>exact ⟨rfl,λ_=>h⟩
theorem xV: ∀(l m:List (Nat×OB)),l.map (λp=>(p.1,p.2.map Tt))=m.map (λp=>(p.1,p.2.map Tt))->(l.flatMap λp=>mU p.2)=(m.flatMap λp=>mU p.2)->l=m
 | [],[],_,_=>rfl
 | [],_::_,h,_=>by simp at h
 |_::_,[],h,_=>by simp at h
 |(k,c)::l,(k',d)::m,h,ho=>by
  simp only [Cb,Hi,Ag] at h;simp only [cR] at ho;obtain ⟨h1,h2⟩:=Ag7 h.1.2;obtain ⟨g1,g2⟩:=List.append_inj ho h1;rw [h.1.1,h2 g1,xV l m h.2 g2]
theorem EL (l:List (Bool×List AC)) (e:AV) {R:Type} (r:R):mq (.Nh l) e r=none:=by cases e<;>rfl
theorem zl {d e:AV} {R:Type} {r:R} {v:avV d R} (h:mq d e r=some v):d.lQ=true:=by
 cases d with
 |Nh l=>rw [EL] at h;cases h
 |_=>rfl
theorem ki: ∀(l m:List AV) {R:Type} (r:R) (v:rS l R),Pp l m r=some v-> ∀c∈l,c.lQ=true
 | [],_,_,_,_,_,c,hc=>by cases hc
 |d::l,[],_,r,v,h,c,hc=>by cases h
 |d::l,e::m,R,r,v,h,c,hc=>by
  simp only [Pp] at h
  cases hr:Pp l m r with
  |none=>rw [hr] at h;cases h
  |some r'=>
   rw [hr] at h;rcases Bd.1 hc with hc|hc
   ·rw [hc];exact zl h
   ·exact ki l m r r' hr c hc
theorem eE {s0 s:St} (h:eqW s0 s):s=s0:=by
 obtain ⟨ho,h⟩:=h;obtain ⟨v,h1,h2⟩:=Ch.1 h;subst h2
 have hn: ∀c∈s0.tmps,c.lQ=true:=by
  unfold kb at h1
  cases hr:Qs s0.heap s.heap () with
  |none=>rw [hr] at h1;cases h1
  |some r=>rw [hr] at h1;exact ki _ _ _ _ h1
 have e:=(kc h1).symm.trans (kc (rM s0 hn));simp only [St.Lo,St.mk.injEq] at e;obtain ⟨e1,e2⟩:=e;obtain ⟨l1,l2⟩:=EM s0.tmps s.tmps e1.symm hn;unfold QG at ho;obtain ⟨g1,g2⟩:=List.append_inj ho l1.symm;have k1:=l2 g1.symm;have k2:=xV s.heap s0.heap e2 g2;cases s;cases s0;simp only at k1 k2;rw [k1,k2]
end Go.Proofs.Ytfgfigkbgecfnaa
