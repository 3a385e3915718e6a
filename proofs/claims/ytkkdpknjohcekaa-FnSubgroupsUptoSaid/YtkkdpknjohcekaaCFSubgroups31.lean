/-
  Part 32 of the proof that the statement FnSubgroups holds.
-/
import Derived.Test.YtkkdpknjohcekaaCFSubgroups30
namespace Go.Proofs.Ytkkdpknjohcekaa
open Go.RowKit
def Sx:AC->AC
 | .own l _ _=> .own l 0 0
 |c=>c
theorem qv: ∀(c d:AC) {R:Type} (r:R) (v:acV c R),p9 c d r=some v->Sx (m4 c v).1=Sx d/\(m4 c v).2=r:=by
 intro c d R r v h
 cases c<;>cases d<;>simp only [p9] at h<;>first|(cases h;first|done|exact ⟨rfl,rfl⟩)|skip
 all_goals
  split at h
  ·rename_i hc
   first
    |(obtain ⟨h1,h2⟩:=hc;subst h1;subst h2;injection h with h;subst h;exact ⟨rfl,rfl⟩)
    |(subst hc;injection h with h;subst h;exact ⟨rfl,rfl⟩)
  ·cases h
theorem fb: ∀(l m:List AC) {R:Type} (r:R) (v:KH l R),Ry l m r=some v->(aL l v).1.map Sx=m.map Sx/\(aL l v).2=r
 | [],[],R,r,v,h=>by simp only [Ry] at h;injection h with h;subst h;exact ⟨rfl,rfl⟩
 | [],_::_,R,r,v,h=>by simp [Ry] at h
 |_::_,[],R,r,v,h=>by simp [Ry] at h
 |c::l,d::m,R,r,v,h=>by
  simp only [Ry] at h
  cases hr:Ry l m r with
  |none=>rw [hr] at h;cases h
  |some r'=>
   rw [hr] at h
   obtain ⟨h1,h2⟩:=qv c d r' v h
   obtain ⟨h3,h4⟩:=fb l m r r' hr
   simp only [aL,Ca]
   rw [h1,h2,h3]
   exact ⟨rfl,h4⟩
theorem DT: ∀(c d:AV) {R:Type} (r:R) (v:avV c R),ma c d r=some v->(sN c v).1.map Sx=d.map Sx/\(sN c v).2=r
 | .at a, .at b,R,r,v,h=>by
  obtain ⟨h1,h2⟩:=qv a b r v h
  exact ⟨by show AV.at _=AV.at _;rw [h1],h2⟩
 | .agg cs, .agg ds,R,r,v,h=>by
  obtain ⟨h1,h2⟩:=fb cs ds r v h
  exact ⟨by show AV.agg _=AV.agg _;rw [h1],h2⟩
 | .bp fr τ y, .bp Wd Nv x,R,r,v,h=>by
  by_cases hc:Nv=τ/\Wd=fr
  ·obtain ⟨h1,h2⟩:=hc
   subst h1;subst h2
   have h3:some ((x,r):Nv.den×R)=some v:=by
    have:ma (.bp Wd Nv y) (.bp Wd Nv x) r=some ((x,r):Nv.den×R):=Ip ⟨rfl,rfl⟩
    exact this.symm.trans h
   injection h3 with h3
   subst h3;exact ⟨rfl,rfl⟩
  ·have h3:ma (.bp fr τ y) (.bp Wd Nv x) r=none:=dif_neg hc
   rw [h3] at h;cases h
 | .at _, .agg _,_,_,_,h=>nomatch (show none=some _ from h)
 | .at _, .bp _ _ _,_,_,_,h=>nomatch (show none=some _ from h)
 | .agg _, .at _,_,_,_,h=>nomatch (show none=some _ from h)
 | .agg _, .bp _ _ _,_,_,_,h=>nomatch (show none=some _ from h)
 | .bp _ _ _, .at _,_,_,_,h=>nomatch (show none=some _ from h)
 | .bp _ _ _, .agg _,_,_,_,h=>nomatch (show none=some _ from h)
 | .Mn _, .at _,_,_,_,h=>nomatch (show none=some _ from h)
 | .Mn _, .agg _,_,_,_,h=>nomatch (show none=some _ from h)
 | .Mn _, .bp _ _ _,_,_,_,h=>nomatch (show none=some _ from h)
 | .Mn _, .Mn _,_,_,_,h=>nomatch (show none=some _ from h)
 | .at _, .Mn _,_,_,_,h=>nomatch (show none=some _ from h)
 | .agg _, .Mn _,_,_,_,h=>nomatch (show none=some _ from h)
 | .bp _ _ _, .Mn _,_,_,_,h=>nomatch (show none=some _ from h)
theorem HH: ∀(c d:OB) {R:Type} (r:R) (v:obV c R),Tb c d r=some v->(uf c v).1.map Sx=d.map Sx/\(uf c v).2=r
 | .arr fr tr e tid ys, .arr Wd tr' e' Ux xs,R,r,v,h=>by
  by_cases hc:e'=e/\Wd=fr/\tr'=tr/\Ux=tid
  ·obtain ⟨h1,h2,h3,h4⟩:=hc
   subst h1;subst h2;subst h3;subst h4
   have h3:some ((xs,r):List e'.den×R)=some v:=by
    have:Tb (.arr Wd tr' e' Ux ys) (.arr Wd tr' e' Ux xs) r=some ((xs,r):List e'.den×R):=Ip ⟨rfl,rfl,rfl,rfl⟩
    exact this.symm.trans h
   injection h3 with h3
   subst h3;exact ⟨rfl,rfl⟩
  ·have h3:Tb (.arr fr tr e tid ys) (.arr Wd tr' e' Ux xs) r=none:=dif_neg hc
   rw [h3] at h;cases h
 | .Gx e tid ys, .Gx e' Ux xs,R,r,v,h=>by
  by_cases hc:e'=e/\Ux=tid
  ·obtain ⟨h1,h4⟩:=hc
   subst h1;subst h4
   have h3:some ((xs,r):List e'.den×R)=some v:=by
    have:Tb (.Gx e' Ux ys) (.Gx e' Ux xs) r=some ((xs,r):List e'.den×R):=Ip ⟨rfl,rfl⟩
    exact this.symm.trans h
   injection h3 with h3
   subst h3;exact ⟨rfl,rfl⟩
  ·have h3:Tb (.Gx e tid ys) (.Gx e' Ux xs) r=none:=dif_neg hc
   rw [h3] at h;cases h
 | .Vq vt m, .Vq vt' m',R,r,v,h=>by
  by_cases hc:vt'=vt
  ·subst hc
   have h3:some ((m',r):(ByteArray->Option vt'.den)×R)=some v:=by
    have:Tb (.Vq vt' m) (.Vq vt' m') r=some ((m',r):(ByteArray->Option vt'.den)×R):=Ip rfl
    exact this.symm.trans h
   injection h3 with h3
   subst h3;exact ⟨rfl,rfl⟩
  ·have h3:Tb (.Vq vt m) (.Vq vt' m') r=none:=dif_neg hc
   rw [h3] at h;cases h
 | .var t vs, .var t' us,R,r,v,h=>by
  by_cases hc:t'=t
  ·subst hc
   have h0:Tb (.var t' vs) (.var t' us) r=Ry vs us r:=Ab rfl
   rw [h0] at h
   obtain ⟨h1,h2⟩:=fb vs us r v h
   exact ⟨by show OB.var _ _=OB.var _ _;rw [h1],h2⟩
  ·have h3:Tb (.var t vs) (.var t' us) r=none:=Ak hc
   rw [h3] at h;cases h
 | .Bo e te ys out none, .Bo e' Qx xs ij none,R,r,v,h=>by
  by_cases hc:e'=e/\Qx=te/\ij=out
  ·obtain ⟨h1,h2,h4⟩:=hc
   subst h1;subst h2;subst h4
   have h3:some ((xs,r):List (List e'.den)×R)=some v:=by
    have:Tb (.Bo e' Qx ys ij none) (.Bo e' Qx xs ij none) r=some ((xs,r):List (List e'.den)×R):=Ip ⟨rfl,rfl,rfl⟩
    exact this.symm.trans h
   injection h3 with h3
   subst h3;exact ⟨rfl,rfl⟩
  ·have h3:Tb (.Bo e te ys out none) (.Bo e' Qx xs ij none) r=none:=dif_neg hc
   rw [h3] at h;cases h
 | .Bo e te ys out (some p), .Bo e' Qx xs ij (some p'),R,r,v,h=>by
  by_cases hc:e'=e/\Qx=te/\ij=out/\p'.1=p.1
  ·obtain ⟨h1,h2,h4,h5⟩:=hc
   subst h1;subst h2;subst h4
   have h3:some ((xs,p'.2,r):List (List e'.den)×(Nat×R))=some v:=by
    have:Tb (.Bo e' Qx ys ij (some p)) (.Bo e' Qx xs ij (some p')) r=some ((xs,p'.2,r):List (List e'.den)×(Nat×R)):=Ip ⟨rfl,rfl,rfl,h5⟩
    exact this.symm.trans h
   injection h3 with h3
   subst h3
   refine ⟨?_,rfl⟩
   show OB.Bo e' Qx xs ij (some (p.1,p'.2))=OB.Bo e' Qx xs ij (some p')
   rw [<-h5]
  ·have h3:Tb (.Bo e te ys out (some p)) (.Bo e' Qx xs ij (some p')) r=none:=dif_neg hc
   rw [h3] at h;cases h
 | .Bo _ _ _ _ none, .Bo _ _ _ _ (some _),_,_,_,h=>nomatch (show none=some _ from h)
 | .Bo _ _ _ _ (some _), .Bo _ _ _ _ none,_,_,_,h=>nomatch (show none=some _ from h)
 | .Bo _ _ _ _ none, .arr _ _ _ _ _,_,_,_,h=>nomatch (show none=some _ from h)
 | .Bo _ _ _ _ none, .Gx _ _ _,_,_,_,h=>nomatch (show none=some _ from h)
 | .Bo _ _ _ _ none, .var _ _,_,_,_,h=>nomatch (show none=some _ from h)
 | .Bo _ _ _ _ none, .Vq _ _,_,_,_,h=>nomatch (show none=some _ from h)
 | .Bo _ _ _ _ (some _), .arr _ _ _ _ _,_,_,_,h=>nomatch (show none=some _ from h)
 | .Bo _ _ _ _ (some _), .Gx _ _ _,_,_,_,h=>nomatch (show none=some _ from h)
 | .Bo _ _ _ _ (some _), .var _ _,_,_,_,h=>nomatch (show none=some _ from h)
 | .Bo _ _ _ _ (some _), .Vq _ _,_,_,_,h=>nomatch (show none=some _ from h)
 | .arr _ _ _ _ _, .Bo _ _ _ _ _,_,_,_,h=>nomatch (show none=some _ from h)
 | .Gx _ _ _, .Bo _ _ _ _ _,_,_,_,h=>nomatch (show none=some _ from h)
 | .var _ _, .Bo _ _ _ _ _,_,_,_,h=>nomatch (show none=some _ from h)
 | .Vq _ _, .Bo _ _ _ _ _,_,_,_,h=>nomatch (show none=some _ from h)
 | .arr _ _ _ _ _, .var _ _,_,_,_,h=>nomatch (show none=some _ from h)
 | .arr _ _ _ _ _, .Gx _ _ _,_,_,_,h=>nomatch (show none=some _ from h)
 | .arr _ _ _ _ _, .Vq _ _,_,_,_,h=>nomatch (show none=some _ from h)
 | .Gx _ _ _, .var _ _,_,_,_,h=>nomatch (show none=some _ from h)
 | .Gx _ _ _, .arr _ _ _ _ _,_,_,_,h=>nomatch (show none=some _ from h)
 | .Gx _ _ _, .Vq _ _,_,_,_,h=>nomatch (show none=some _ from h)
 | .Vq _ _, .var _ _,_,_,_,h=>nomatch (show none=some _ from h)
 | .Vq _ _, .arr _ _ _ _ _,_,_,_,h=>nomatch (show none=some _ from h)
 | .Vq _ _, .Gx _ _ _,_,_,_,h=>nomatch (show none=some _ from h)
 | .var _ _, .arr _ _ _ _ _,_,_,_,h=>nomatch (show none=some _ from h)
 | .var _ _, .Gx _ _ _,_,_,_,h=>nomatch (show none=some _ from h)
 | .var _ _, .Vq _ _,_,_,_,h=>nomatch (show none=some _ from h)
theorem lO: ∀(l m:List AV) {R:Type} (r:R) (v:rC l R),Ot l m r=some v->(Wv l v).1.map (·.map Sx)=m.map (·.map Sx)/\(Wv l v).2=r
 | [],[],R,r,v,h=>by simp only [Ot] at h;injection h with h;subst h;exact ⟨rfl,rfl⟩
 | [],_::_,R,r,v,h=>by simp [Ot] at h
 |_::_,[],R,r,v,h=>by simp [Ot] at h
 |c::l,d::m,R,r,v,h=>by
  simp only [Ot] at h
  cases hr:Ot l m r with
  |none=>rw [hr] at h;cases h
  |some r'=>
   rw [hr] at h
   obtain ⟨h1,h2⟩:=DT c d r' v h
   obtain ⟨h3,h4⟩:=lO l m r r' hr
   simp only [Wv,Ca]
   rw [h1,h2,h3]
   exact ⟨rfl,h4⟩
theorem lj: ∀(l m:List (Nat×OB)) {R:Type} (r:R) (v:xq l R),Pz l m r=some v->(ew l v).1.map (λp=>(p.1,p.2.map Sx))=m.map (λp=>(p.1,p.2.map Sx))/\(ew l v).2=r
 | [],[],R,r,v,h=>by simp only [Pz] at h;injection h with h;subst h;exact ⟨rfl,rfl⟩
 | [],_::_,R,r,v,h=>by simp [Pz] at h
 |_::_,[],R,r,v,h=>by simp [Pz] at h
 |c::l,d::m,R,r,v,h=>by
  simp only [Pz] at h
  split at h
  ·rename_i hk
   cases hr:Pz l m r with
   |none=>rw [hr] at h;cases h
   |some r'=>
    rw [hr] at h
    obtain ⟨h1,h2⟩:=HH c.2 d.2 r' v h
    obtain ⟨h3,h4⟩:=lj l m r r' hr
    simp only [ew,Ca]
    rw [h1,h2,h3,hk]
    exact ⟨rfl,h4⟩
  ·cases h
theorem jO {s t:St} {v:stV s} (h:jN s t=some v):(jM s v).Kv Sx=t.Kv Sx:=by
 unfold jN at h
 cases hr:Pz s.heap t.heap () with
 |none=>rw [hr] at h;cases h
 |some r=>
  rw [hr] at h
  obtain ⟨h1,h2⟩:=lO s.tmps t.tmps r v h
  obtain ⟨h3,_⟩:=lj s.heap t.heap () r hr
  simp only [jM,St.Kv]
  rw [h1,h2,h3]
theorem qw: ∀(c:AC) {R:Type} (r:R),p9 c c r=some (PX c r):=by
 intro c R r
 cases c<;>simp [p9,PX]
theorem fc: ∀(l:List AC) {R:Type} (r:R),Ry l l r=some (sE l r)
 | [],_,_=>rfl
 |c::l,_,r=>by simp only [Ry,fc l r,sE];exact qw c _
def AV.lA:AV->Bool
 | .Mn _=>false
 |_=>true
theorem DU: ∀(c:AV),c.lA=true-> ∀ {R:Type} (r:R),ma c c r=some (Agt c r):=by
 intro c hn R r
 cases c with
 |Mn l=>cases hn
 | «at»a=>exact qw a r
 |agg cs=>exact fc cs r
 |bp fr τ x=>exact Ip ⟨rfl,rfl⟩
theorem HI: ∀(c:OB) {R:Type} (r:R),Tb c c r=some (Ai8 c r):=by
 intro c R r
 cases c with
 |arr fr tr e t xs=>exact Ip ⟨rfl,rfl,rfl,rfl⟩
 |Gx e t xs=>exact Ip ⟨rfl,rfl⟩
 |Vq v m=>exact Ip rfl
 |Bo e te rows out kp=>
  cases kp with
  |none=>exact Ip ⟨rfl,rfl,rfl⟩
  |some p=>exact Ip ⟨rfl,rfl,rfl,rfl⟩
 |var t vs=>
  have h0:Tb (.var t vs) (.var t vs) r=Ry vs vs r:=Ab rfl
  exact h0.trans (fc vs r)
theorem lP: ∀(l:List AV),(∀c∈l,c.lA=true)-> ∀ {R:Type} (r:R),Ot l l r=some (su l r)
 | [],_,_,_=>rfl
 |c::l,h,_,r=>by simp only [Ot,lP l (λc hc=>h c (Ar _ hc)) r,su];exact DU c (h c (by simp)) _
theorem lk: ∀(l:List (Nat×OB)) {R:Type} (r:R),Pz l l r=some (so l r)
 | [],_,_=>rfl
 |c::l,_,r=>by simp only [Pz,Ny,lk l r,so];exact HI c.2 _
theorem rv (s:St) (h: ∀c∈s.tmps,c.lA=true):jN s s=some (SL s):=by
 simp only [jN,lk,SL]
 exact lP _ h _
theorem Cc {α:Type} {o:Option α} {K:α->Prop} :Hr o K↔ ∃x,o=some x/\K x:=by
 unfold Hr
 cases o with
 |none=>simp
 |some x=>simp
theorem nm: ∀(l m:List AC),l.map Sx=m.map Sx->l.flatMap bx=m.flatMap bx->l=m
 | [],[],_,_=>rfl
 | [],_::_,h,_=>by simp at h
 |_::_,[],h,_=>by simp at h
 |c::l,d::m,h,ho=>by
  simp only [Ca,Gu] at h
  simp only [Vr] at ho
  have hcd:c=d/\l.flatMap bx=m.flatMap bx:=by
   cases c<;>cases d<;>first|(cases h.1;done)|skip
   all_goals first
    |(obtain ⟨h1,_⟩:=h
      simp only [Sx,AC.own.injEq] at h1
      simp only [bx,Mb,Nn,Gu,Ah] at ho
      exact ⟨by rw [h1.1,ho.1.1,ho.1.2],ho.2⟩)
    |exact ⟨h.1,by simpa only [bx,Nn] using ho⟩
  rw [hcd.1,nm l m h.2 hcd.2]
theorem ow: ∀(l m:List AC),l.map Sx=m.map Sx->(l.flatMap bx).length=(m.flatMap bx).length
 | [],[],_=>rfl
 | [],_::_,h=>by simp at h
 |_::_,[],h=>by simp at h
 |c::l,d::m,h=>by
  simp only [Ca,Gu] at h
  simp only [Vr,Ay,ow l m h.2]
  congr 1
  cases c<;>cases d<;>first|rfl|(cases h.1;done)
theorem Ae3 {c d:AV} (h:c.map Sx=d.map Sx):(bA c).length=(bA d).length/\(bA c=bA d->(∀l,c≠ .Mn l)->c=d):=by
 cases c with
 | «at»a=>
  cases d<;>simp only [AV.map,AV.at.injEq,reduceCtorEq] at h
  rename_i b
  have h1: [a].map Sx= [b].map Sx:=by simp [h]
  refine ⟨by simpa [bA] using ow [a] [b] h1,λho _=>?_⟩
  have:=nm [a] [b] h1 (by simpa [bA] using ho)
  simpa using this
 |agg cs=>
  cases d<;>simp only [AV.map,AV.agg.injEq,reduceCtorEq] at h
  rename_i ds
  exact ⟨ow cs ds h,λho _=>by rw [nm cs ds h ho]⟩
 |bp fr τ x=>
  cases d<;>simp only [AV.map,reduceCtorEq] at h
  exact ⟨rfl,λ_ _=>h⟩
 |Mn l=>
  cases d<;>simp only [AV.map,reduceCtorEq] at h
  exact ⟨rfl,λ_ hn=>absurd rfl (hn l)⟩
theorem DW: ∀(l m:List AV),l.map (·.map Sx)=m.map (·.map Sx)->(∀c∈l,c.lA=true)->(l.flatMap bA).length=(m.flatMap bA).length/\(l.flatMap bA=m.flatMap bA->l=m)
 | [],[],_,_=>⟨rfl,λ_=>rfl⟩
 | [],_::_,h,_=>by simp at h
 |_::_,[],h,_=>by simp at h
 |c::l,d::m,h,hn=>by
  simp only [Ca,Gu] at h
  obtain ⟨h1,h2⟩:=Ae3 h.1
  obtain ⟨h3,h4⟩:=DW l m h.2 λc hc=>hn c (Ar _ hc)
  refine ⟨by simp only [Vr,Ay,h1,h3],λho=>?_⟩
  simp only [Vr] at ho
  obtain ⟨g1,g2⟩:=List.append_inj ho h1
  have hnt: ∀l',c≠ .Mn l':= λl' e=>by
   have:=hn c (by simp)
   rw [e] at this
   cases this
  rw [h2 g1 hnt,h4 g2]
theorem Afg {c d:OB} (h:c.map Sx=d.map Sx):(mM c).length=(mM d).length/\(mM c=mM d->c=d):=by
 cases c with
 |var t vs=>
  cases d<;>simp only [OB.map,OB.var.injEq,reduceCtorEq] at h
  rename_i t' us
  obtain ⟨rfl,h⟩:=h
  exact ⟨ow vs us h,λho=>by rw [nm vs us h ho]⟩
 |_=>cases d<;>simp only [OB.map,reduceCtorEq] at h<;>exact ⟨rfl,λ_=>h⟩
theorem xr: ∀(l m:List (Nat×OB)),l.map (λp=>(p.1,p.2.map Sx))=m.map (λp=>(p.1,p.2.map Sx))->(l.flatMap λp=>mM p.2)=(m.flatMap λp=>mM p.2)->l=m
 | [],[],_,_=>rfl
 | [],_::_,h,_=>by simp at h
 |_::_,[],h,_=>by simp at h
 |(k,c)::l,(k',d)::m,h,ho=>by
  simp only [Ca,Gu,Ah] at h
  simp only [Vr] at ho
  obtain ⟨h1,h2⟩:=Afg h.1.2
  obtain ⟨g1,g2⟩:=List.append_inj ho h1
  rw [h.1.1,h2 g1,xr l m h.2 g2]
theorem DV (l:List (Bool×List AC)) (e:AV) {R:Type} (r:R):ma (.Mn l) e r=none:=by cases e<;>rfl
theorem yR {d e:AV} {R:Type} {r:R} {v:avV d R} (h:ma d e r=some v):d.lA=true:=by
 cases d with
 |Mn l=>rw [DV] at h;cases h
 |_=>rfl
theorem jV: ∀(l m:List AV) {R:Type} (r:R) (v:rC l R),Ot l m r=some v-> ∀c∈l,c.lA=true
 | [],_,_,_,_,_,c,hc=>by cases hc
 |d::l,[],_,r,v,h,c,hc=>by cases h
 |d::l,e::m,R,r,v,h,c,hc=>by
  simp only [Ot] at h
  cases hr:Ot l m r with
  |none=>rw [hr] at h;cases h
  |some r'=>
   rw [hr] at h
   rcases Bc.1 hc with hc|hc
   ·rw [hc];exact yR h
   ·exact jV l m r r' hr c hc
theorem ec {s0 s:St} (h:eqW s0 s):s=s0:=by
 obtain ⟨ho,h⟩:=h
 obtain ⟨v,h1,h2⟩:=Cc.1 h
 subst h2
 have hn: ∀c∈s0.tmps,c.lA=true:=by
  unfold jN at h1
  cases hr:Pz s0.heap s.heap () with
  |none=>rw [hr] at h1;cases h1
  |some r=>rw [hr] at h1;exact jV _ _ _ _ h1
 have e:=(jO h1).symm.trans (jO (rv s0 hn))
 simp only [St.Kv,St.mk.injEq] at e
 obtain ⟨e1,e2⟩:=e
 obtain ⟨l1,l2⟩:=DW s0.tmps s.tmps e1.symm hn
 unfold OR at ho
 obtain ⟨g1,g2⟩:=List.append_inj ho l1.symm
 have k1:=l2 g1.symm
 have k2:=xr s.heap s0.heap e2 g2
 cases s;cases s0
 simp only at k1 k2
 rw [k1,k2]
end Go.Proofs.Ytkkdpknjohcekaa
