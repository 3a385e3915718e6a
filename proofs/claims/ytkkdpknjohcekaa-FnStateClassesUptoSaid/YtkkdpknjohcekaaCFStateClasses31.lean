/-
  Part 32 of the proof that the statement FnStateClasses holds.
-/
import Derived.Test.YtkkdpknjohcekaaCFStateClasses30
namespace Go.Proofs.Ytkkdpknjohcekaa
open Go.RowKit
def Sh:AC->AC
 | .own l _ _=> .own l 0 0
 |c=>c
theorem nY: ∀(c d:AC) {R:Type} (r:R) (v:acV c R),mO c d r=some v->Sh (kc c v).1=Sh d/\(kc c v).2=r:=by
 intro c d R r v h
 cases c<;>cases d<;>simp only [mO] at h<;>first|(cases h;first|done|exact ⟨rfl,rfl⟩)|skip
 all_goals
  split at h
  ·rename_i hc
   first
    |(obtain ⟨h1,h2⟩:=hc;subst h1;subst h2;injection h with h;subst h;exact ⟨rfl,rfl⟩)
    |(subst hc;injection h with h;subst h;exact ⟨rfl,rfl⟩)
  ·cases h
theorem dA: ∀(l m:List AC) {R:Type} (r:R) (v:ET l R),Rl l m r=some v->(Zr l v).1.map Sh=m.map Sh/\(Zr l v).2=r
 | [],[],R,r,v,h=>by simp only [Rl] at h;injection h with h;subst h;exact ⟨rfl,rfl⟩
 | [],_::_,R,r,v,h=>by simp [Rl] at h
 |_::_,[],R,r,v,h=>by simp [Rl] at h
 |c::l,d::m,R,r,v,h=>by
  simp only [Rl] at h
  cases hr:Rl l m r with
  |none=>rw [hr] at h;cases h
  |some r'=>
   rw [hr] at h
   obtain ⟨h1,h2⟩:=nY c d r' v h
   obtain ⟨h3,h4⟩:=dA l m r r' hr
   simp only [Zr,Bk]
   rw [h1,h2,h3]
   exact ⟨rfl,h4⟩
theorem zk: ∀(c d:AV) {R:Type} (r:R) (v:avV c R),ki c d r=some v->(qf c v).1.map Sh=d.map Sh/\(qf c v).2=r
 | .at a, .at b,R,r,v,h=>by
  obtain ⟨h1,h2⟩:=nY a b r v h
  exact ⟨by show AV.at _=AV.at _;rw [h1],h2⟩
 | .agg cs, .agg ds,R,r,v,h=>by
  obtain ⟨h1,h2⟩:=dA cs ds r v h
  exact ⟨by show AV.agg _=AV.agg _;rw [h1],h2⟩
 | .ay fr τ y, .ay Vc Nx x,R,r,v,h=>by
  by_cases hc:Nx=τ/\Vc=fr
  ·obtain ⟨h1,h2⟩:=hc
   subst h1;subst h2
   have h3:some ((x,r):Nx.den×R)=some v:=by
    have:ki (.ay Vc Nx y) (.ay Vc Nx x) r=some ((x,r):Nx.den×R):=Im ⟨rfl,rfl⟩
    exact this.symm.trans h
   injection h3 with h3
   subst h3;exact ⟨rfl,rfl⟩
  ·have h3:ki (.ay fr τ y) (.ay Vc Nx x) r=none:=dif_neg hc
   rw [h3] at h;cases h
 | .at _, .agg _,_,_,_,h=>nomatch (show none=some _ from h)
 | .at _, .ay _ _ _,_,_,_,h=>nomatch (show none=some _ from h)
 | .agg _, .at _,_,_,_,h=>nomatch (show none=some _ from h)
 | .agg _, .ay _ _ _,_,_,_,h=>nomatch (show none=some _ from h)
 | .ay _ _ _, .at _,_,_,_,h=>nomatch (show none=some _ from h)
 | .ay _ _ _, .agg _,_,_,_,h=>nomatch (show none=some _ from h)
 | .Mh _, .at _,_,_,_,h=>nomatch (show none=some _ from h)
 | .Mh _, .agg _,_,_,_,h=>nomatch (show none=some _ from h)
 | .Mh _, .ay _ _ _,_,_,_,h=>nomatch (show none=some _ from h)
 | .Mh _, .Mh _,_,_,_,h=>nomatch (show none=some _ from h)
 | .at _, .Mh _,_,_,_,h=>nomatch (show none=some _ from h)
 | .agg _, .Mh _,_,_,_,h=>nomatch (show none=some _ from h)
 | .ay _ _ _, .Mh _,_,_,_,h=>nomatch (show none=some _ from h)
theorem BO: ∀(c d:OB) {R:Type} (r:R) (v:obV c R),Sl c d r=some v->(rK c v).1.map Sh=d.map Sh/\(rK c v).2=r
 | .arr fr tr e tid ys, .arr Vc WG e' Tw xs,R,r,v,h=>by
  by_cases hc:e'=e/\Vc=fr/\WG=tr/\Tw=tid
  ·obtain ⟨h1,h2,h3,h4⟩:=hc
   subst h1;subst h2;subst h3;subst h4
   have h3:some ((xs,r):List e'.den×R)=some v:=by
    have:Sl (.arr Vc WG e' Tw ys) (.arr Vc WG e' Tw xs) r=some ((xs,r):List e'.den×R):=Im ⟨rfl,rfl,rfl,rfl⟩
    exact this.symm.trans h
   injection h3 with h3
   subst h3;exact ⟨rfl,rfl⟩
  ·have h3:Sl (.arr fr tr e tid ys) (.arr Vc WG e' Tw xs) r=none:=dif_neg hc
   rw [h3] at h;cases h
 | .Gg e tid ys, .Gg e' Tw xs,R,r,v,h=>by
  by_cases hc:e'=e/\Tw=tid
  ·obtain ⟨h1,h4⟩:=hc
   subst h1;subst h4
   have h3:some ((xs,r):List e'.den×R)=some v:=by
    have:Sl (.Gg e' Tw ys) (.Gg e' Tw xs) r=some ((xs,r):List e'.den×R):=Im ⟨rfl,rfl⟩
    exact this.symm.trans h
   injection h3 with h3
   subst h3;exact ⟨rfl,rfl⟩
  ·have h3:Sl (.Gg e tid ys) (.Gg e' Tw xs) r=none:=dif_neg hc
   rw [h3] at h;cases h
 | .Ur vt m, .Ur vt' m',R,r,v,h=>by
  by_cases hc:vt'=vt
  ·subst hc
   have h3:some ((m',r):(ByteArray->Option vt'.den)×R)=some v:=by
    have:Sl (.Ur vt' m) (.Ur vt' m') r=some ((m',r):(ByteArray->Option vt'.den)×R):=Im rfl
    exact this.symm.trans h
   injection h3 with h3
   subst h3;exact ⟨rfl,rfl⟩
  ·have h3:Sl (.Ur vt m) (.Ur vt' m') r=none:=dif_neg hc
   rw [h3] at h;cases h
 | .var t vs, .var t' us,R,r,v,h=>by
  by_cases hc:t'=t
  ·subst hc
   have h0:Sl (.var t' vs) (.var t' us) r=Rl vs us r:=Ac rfl
   rw [h0] at h
   obtain ⟨h1,h2⟩:=dA vs us r v h
   exact ⟨by show OB.var _ _=OB.var _ _;rw [h1],h2⟩
  ·have h3:Sl (.var t vs) (.var t' us) r=none:=Ai hc
   rw [h3] at h;cases h
 | .Bo e te ys out none, .Bo e' Qr xs Uq none,R,r,v,h=>by
  by_cases hc:e'=e/\Qr=te/\Uq=out
  ·obtain ⟨h1,h2,h4⟩:=hc
   subst h1;subst h2;subst h4
   have h3:some ((xs,r):List (List e'.den)×R)=some v:=by
    have:Sl (.Bo e' Qr ys Uq none) (.Bo e' Qr xs Uq none) r=some ((xs,r):List (List e'.den)×R):=Im ⟨rfl,rfl,rfl⟩
    exact this.symm.trans h
   injection h3 with h3
   subst h3;exact ⟨rfl,rfl⟩
  ·have h3:Sl (.Bo e te ys out none) (.Bo e' Qr xs Uq none) r=none:=dif_neg hc
   rw [h3] at h;cases h
 | .Bo e te ys out (some p), .Bo e' Qr xs Uq (some p'),R,r,v,h=>by
  by_cases hc:e'=e/\Qr=te/\Uq=out/\p'.1=p.1
  ·obtain ⟨h1,h2,h4,h5⟩:=hc
   subst h1;subst h2;subst h4
   have h3:some ((xs,p'.2,r):List (List e'.den)×(Nat×R))=some v:=by
    have:Sl (.Bo e' Qr ys Uq (some p)) (.Bo e' Qr xs Uq (some p')) r=some ((xs,p'.2,r):List (List e'.den)×(Nat×R)):=Im ⟨rfl,rfl,rfl,h5⟩
    exact this.symm.trans h
   injection h3 with h3
   subst h3
   refine ⟨?_,rfl⟩
   show OB.Bo e' Qr xs Uq (some (p.1,p'.2))=OB.Bo e' Qr xs Uq (some p')
   rw [<-h5]
  ·have h3:Sl (.Bo e te ys out (some p)) (.Bo e' Qr xs Uq (some p')) r=none:=dif_neg hc
   rw [h3] at h;cases h
 | .Bo _ _ _ _ none, .Bo _ _ _ _ (some _),_,_,_,h=>nomatch (show none=some _ from h)
 | .Bo _ _ _ _ (some _), .Bo _ _ _ _ none,_,_,_,h=>nomatch (show none=some _ from h)
 | .Bo _ _ _ _ none, .arr _ _ _ _ _,_,_,_,h=>nomatch (show none=some _ from h)
 | .Bo _ _ _ _ none, .Gg _ _ _,_,_,_,h=>nomatch (show none=some _ from h)
 | .Bo _ _ _ _ none, .var _ _,_,_,_,h=>nomatch (show none=some _ from h)
 | .Bo _ _ _ _ none, .Ur _ _,_,_,_,h=>nomatch (show none=some _ from h)
 | .Bo _ _ _ _ (some _), .arr _ _ _ _ _,_,_,_,h=>nomatch (show none=some _ from h)
 | .Bo _ _ _ _ (some _), .Gg _ _ _,_,_,_,h=>nomatch (show none=some _ from h)
 | .Bo _ _ _ _ (some _), .var _ _,_,_,_,h=>nomatch (show none=some _ from h)
 | .Bo _ _ _ _ (some _), .Ur _ _,_,_,_,h=>nomatch (show none=some _ from h)
 | .arr _ _ _ _ _, .Bo _ _ _ _ _,_,_,_,h=>nomatch (show none=some _ from h)
 | .Gg _ _ _, .Bo _ _ _ _ _,_,_,_,h=>nomatch (show none=some _ from h)
 | .var _ _, .Bo _ _ _ _ _,_,_,_,h=>nomatch (show none=some _ from h)
 | .Ur _ _, .Bo _ _ _ _ _,_,_,_,h=>nomatch (show none=some _ from h)
 | .arr _ _ _ _ _, .var _ _,_,_,_,h=>nomatch (show none=some _ from h)
 | .arr _ _ _ _ _, .Gg _ _ _,_,_,_,h=>nomatch (show none=some _ from h)
 | .arr _ _ _ _ _, .Ur _ _,_,_,_,h=>nomatch (show none=some _ from h)
 | .Gg _ _ _, .var _ _,_,_,_,h=>nomatch (show none=some _ from h)
 | .Gg _ _ _, .arr _ _ _ _ _,_,_,_,h=>nomatch (show none=some _ from h)
 | .Gg _ _ _, .Ur _ _,_,_,_,h=>nomatch (show none=some _ from h)
 | .Ur _ _, .var _ _,_,_,_,h=>nomatch (show none=some _ from h)
 | .Ur _ _, .arr _ _ _ _ _,_,_,_,h=>nomatch (show none=some _ from h)
 | .Ur _ _, .Gg _ _ _,_,_,_,h=>nomatch (show none=some _ from h)
 | .var _ _, .arr _ _ _ _ _,_,_,_,h=>nomatch (show none=some _ from h)
 | .var _ _, .Gg _ _ _,_,_,_,h=>nomatch (show none=some _ from h)
 | .var _ _, .Ur _ _,_,_,_,h=>nomatch (show none=some _ from h)
theorem jS: ∀(l m:List AV) {R:Type} (r:R) (v:oU l R),On l m r=some v->(Vr l v).1.map (·.map Sh)=m.map (·.map Sh)/\(Vr l v).2=r
 | [],[],R,r,v,h=>by simp only [On] at h;injection h with h;subst h;exact ⟨rfl,rfl⟩
 | [],_::_,R,r,v,h=>by simp [On] at h
 |_::_,[],R,r,v,h=>by simp [On] at h
 |c::l,d::m,R,r,v,h=>by
  simp only [On] at h
  cases hr:On l m r with
  |none=>rw [hr] at h;cases h
  |some r'=>
   rw [hr] at h
   obtain ⟨h1,h2⟩:=zk c d r' v h
   obtain ⟨h3,h4⟩:=jS l m r r' hr
   simp only [Vr,Bk]
   rw [h1,h2,h3]
   exact ⟨rfl,h4⟩
theorem jw: ∀(l m:List (Nat×OB)) {R:Type} (r:R) (v:uN l R),Pr l m r=some v->(cR l v).1.map (λp=>(p.1,p.2.map Sh))=m.map (λp=>(p.1,p.2.map Sh))/\(cR l v).2=r
 | [],[],R,r,v,h=>by simp only [Pr] at h;injection h with h;subst h;exact ⟨rfl,rfl⟩
 | [],_::_,R,r,v,h=>by simp [Pr] at h
 |_::_,[],R,r,v,h=>by simp [Pr] at h
 |c::l,d::m,R,r,v,h=>by
  simp only [Pr] at h
  split at h
  ·rename_i hk
   cases hr:Pr l m r with
   |none=>rw [hr] at h;cases h
   |some r'=>
    rw [hr] at h
    obtain ⟨h1,h2⟩:=BO c.2 d.2 r' v h
    obtain ⟨h3,h4⟩:=jw l m r r' hr
    simp only [cR,Bk]
    rw [h1,h2,h3,hk]
    exact ⟨rfl,h4⟩
  ·cases h
theorem il {s t:St} {v:stV s} (h:ik s t=some v):(ij s v).Km Sh=t.Km Sh:=by
 unfold ik at h
 cases hr:Pr s.heap t.heap () with
 |none=>rw [hr] at h;cases h
 |some r=>
  rw [hr] at h
  obtain ⟨h1,h2⟩:=jS s.tmps t.tmps r v h
  obtain ⟨h3,_⟩:=jw s.heap t.heap () r hr
  simp only [ij,St.Km]
  rw [h1,h2,h3]
theorem nZ: ∀(c:AC) {R:Type} (r:R),mO c c r=some (JY c r):=by
 intro c R r
 cases c<;>simp [mO,JY]
theorem dB: ∀(l:List AC) {R:Type} (r:R),Rl l l r=some (q7 l r)
 | [],_,_=>rfl
 |c::l,_,r=>by simp only [Rl,dB l r,q7];exact nZ c _
def AV.jF:AV->Bool
 | .Mh _=>false
 |_=>true
theorem zl: ∀(c:AV),c.jF=true-> ∀ {R:Type} (r:R),ki c c r=some (Aaf c r):=by
 intro c hn R r
 cases c with
 |Mh l=>cases hn
 | «at»a=>exact nZ a r
 |agg cs=>exact dB cs r
 |ay fr τ x=>exact Im ⟨rfl,rfl⟩
theorem BP: ∀(c:OB) {R:Type} (r:R),Sl c c r=some (Abs c r):=by
 intro c R r
 cases c with
 |arr fr tr e t xs=>exact Im ⟨rfl,rfl,rfl,rfl⟩
 |Gg e t xs=>exact Im ⟨rfl,rfl⟩
 |Ur v m=>exact Im rfl
 |Bo e te rows out kp=>
  cases kp with
  |none=>exact Im ⟨rfl,rfl,rfl⟩
  |some p=>exact Im ⟨rfl,rfl,rfl,rfl⟩
 |var t vs=>
  have h0:Sl (.var t vs) (.var t vs) r=Rl vs vs r:=Ac rfl
  exact h0.trans (dB vs r)
theorem jT: ∀(l:List AV),(∀c∈l,c.jF=true)-> ∀ {R:Type} (r:R),On l l r=some (pS l r)
 | [],_,_,_=>rfl
 |c::l,h,_,r=>by simp only [On,jT l (λc hc=>h c (An _ hc)) r,pS];exact zl c (h c (by simp)) _
theorem jx: ∀(l:List (Nat×OB)) {R:Type} (r:R),Pr l l r=some (pL l r)
 | [],_,_=>rfl
 |c::l,_,r=>by simp only [Pr,Oy,jx l r,pL];exact BP c.2 _
theorem oQ (s:St) (h: ∀c∈s.tmps,c.jF=true):ik s s=some (LX s):=by
 simp only [ik,jx,LX]
 exact jT _ h _
theorem Bu {α:Type} {o:Option α} {K:α->Prop} :Ha o K↔ ∃x,o=some x/\K x:=by
 unfold Ha
 cases o with
 |none=>simp
 |some x=>simp
theorem l7: ∀(l m:List AC),l.map Sh=m.map Sh->l.flatMap aD=m.flatMap aD->l=m
 | [],[],_,_=>rfl
 | [],_::_,h,_=>by simp at h
 |_::_,[],h,_=>by simp at h
 |c::l,d::m,h,ho=>by
  simp only [Bk,Ge] at h
  simp only [Kr] at ho
  have hcd:c=d/\l.flatMap aD=m.flatMap aD:=by
   cases c<;>cases d<;>first|(cases h.1;done)|skip
   all_goals first
    |(obtain ⟨h1,_⟩:=h
      simp only [Sh,AC.own.injEq] at h1
      simp only [aD,Jy,No,Ge,Ad] at ho
      exact ⟨by rw [h1.1,ho.1.1,ho.1.2],ho.2⟩)
    |exact ⟨h.1,by simpa only [aD,No] using ho⟩
  rw [hcd.1,l7 l m h.2 hcd.2]
theorem mg: ∀(l m:List AC),l.map Sh=m.map Sh->(l.flatMap aD).length=(m.flatMap aD).length
 | [],[],_=>rfl
 | [],_::_,h=>by simp at h
 |_::_,[],h=>by simp at h
 |c::l,d::m,h=>by
  simp only [Bk,Ge] at h
  simp only [Kr,Au,mg l m h.2]
  congr 1
  cases c<;>cases d<;>first|rfl|(cases h.1;done)
theorem XR {c d:AV} (h:c.map Sh=d.map Sh):(aF c).length=(aF d).length/\(aF c=aF d->(∀l,c≠ .Mh l)->c=d):=by
 cases c with
 | «at»a=>
  cases d<;>simp only [AV.map,AV.at.injEq,reduceCtorEq] at h
  rename_i b
  have h1: [a].map Sh= [b].map Sh:=by simp [h]
  refine ⟨by simpa [aF] using mg [a] [b] h1,λho _=>?_⟩
  have:=l7 [a] [b] h1 (by simpa [aF] using ho)
  simpa using this
 |agg cs=>
  cases d<;>simp only [AV.map,AV.agg.injEq,reduceCtorEq] at h
  rename_i ds
  exact ⟨mg cs ds h,λho _=>by rw [l7 cs ds h ho]⟩
 |ay fr τ x=>
  cases d<;>simp only [AV.map,reduceCtorEq] at h
  exact ⟨rfl,λ_ _=>h⟩
 |Mh l=>
  cases d<;>simp only [AV.map,reduceCtorEq] at h
  exact ⟨rfl,λ_ hn=>absurd rfl (hn l)⟩
theorem zo: ∀(l m:List AV),l.map (·.map Sh)=m.map (·.map Sh)->(∀c∈l,c.jF=true)->(l.flatMap aF).length=(m.flatMap aF).length/\(l.flatMap aF=m.flatMap aF->l=m)
 | [],[],_,_=>⟨rfl,λ_=>rfl⟩
 | [],_::_,h,_=>by simp at h
 |_::_,[],h,_=>by simp at h
 |c::l,d::m,h,hn=>by
  simp only [Bk,Ge] at h
  obtain ⟨h1,h2⟩:=XR h.1
  obtain ⟨h3,h4⟩:=zo l m h.2 λc hc=>hn c (An _ hc)
  refine ⟨by simp only [Kr,Au,h1,h3],λho=>?_⟩
  simp only [Kr] at ho
  obtain ⟨g1,g2⟩:=List.append_inj ho h1
  have hnt: ∀l',c≠ .Mh l':= λl' e=>by
   have:=hn c (by simp)
   rw [e] at this
   cases this
  rw [h2 g1 hnt,h4 g2]
theorem ZE {c d:OB} (h:c.map Sh=d.map Sh):(kL c).length=(kL d).length/\(kL c=kL d->c=d):=by
 cases c with
 |var t vs=>
  cases d<;>simp only [OB.map,OB.var.injEq,reduceCtorEq] at h
  rename_i t' us
  obtain ⟨rfl,h⟩:=h
  exact ⟨mg vs us h,λho=>by rw [l7 vs us h ho]⟩
 |_=>cases d<;>simp only [OB.map,reduceCtorEq] at h<;>exact ⟨rfl,λ_=>h⟩
theorem uO: ∀(l m:List (Nat×OB)),l.map (λp=>(p.1,p.2.map Sh))=m.map (λp=>(p.1,p.2.map Sh))->(l.flatMap λp=>kL p.2)=(m.flatMap λp=>kL p.2)->l=m
 | [],[],_,_=>rfl
 | [],_::_,h,_=>by simp at h
 |_::_,[],h,_=>by simp at h
 |(k,c)::l,(k',d)::m,h,ho=>by
  simp only [Bk,Ge,Ad] at h
  simp only [Kr] at ho
  obtain ⟨h1,h2⟩:=ZE h.1.2
  obtain ⟨g1,g2⟩:=List.append_inj ho h1
  rw [h.1.1,h2 g1,uO l m h.2 g2]
theorem zm (l:List (Bool×List AC)) (e:AV) {R:Type} (r:R):ki (.Mh l) e r=none:=by cases e<;>rfl
theorem wA {d e:AV} {R:Type} {r:R} {v:avV d R} (h:ki d e r=some v):d.jF=true:=by
 cases d with
 |Mh l=>rw [zm] at h;cases h
 |_=>rfl
theorem iq: ∀(l m:List AV) {R:Type} (r:R) (v:oU l R),On l m r=some v-> ∀c∈l,c.jF=true
 | [],_,_,_,_,_,c,hc=>by cases hc
 |d::l,[],_,r,v,h,c,hc=>by cases h
 |d::l,e::m,R,r,v,h,c,hc=>by
  simp only [On] at h
  cases hr:On l m r with
  |none=>rw [hr] at h;cases h
  |some r'=>
   rw [hr] at h
   rcases Ay.1 hc with hc|hc
   ·rw [hc];exact wA h
   ·exact iq l m r r' hr c hc
theorem cH {s0 s:St} (h:eqW s0 s):s=s0:=by
 obtain ⟨ho,h⟩:=h
 obtain ⟨v,h1,h2⟩:=Bu.1 h
 subst h2
 have hn: ∀c∈s0.tmps,c.jF=true:=by
  unfold ik at h1
  cases hr:Pr s0.heap s.heap () with
  |none=>rw [hr] at h1;cases h1
  |some r=>rw [hr] at h1;exact iq _ _ _ _ h1
 have e:=(il h1).symm.trans (il (oQ s0 hn))
 simp only [St.Km,St.mk.injEq] at e
 obtain ⟨e1,e2⟩:=e
 obtain ⟨l1,l2⟩:=zo s0.tmps s.tmps e1.symm hn
 unfold IZ at ho
 obtain ⟨g1,g2⟩:=List.append_inj ho l1.symm
 have k1:=l2 g1.symm
 have k2:=uO s.heap s0.heap e2 g2
 cases s;cases s0
 simp only at k1 k2
 rw [k1,k2]
end Go.Proofs.Ytkkdpknjohcekaa
