/-
  Part 32 of the proof that the statement FnExactSolveIDAStar holds.
-/
import Derived.Test.YtfgfigkbgecfnaaGreatCSolveIDAStar30
namespace Go.Proofs.YtfgfigkbgecfnaaGreat
open Go.RowKit
def Tu:AC->AC
 | .own l _ _=> .own l 0 0
 |c=>c
theorem rE: ∀(c d:AC) {R:Type} (r:R) (v:acV c R),q8 c d r=some v->Tu (mM c v).1=Tu d/\(mM c v).2=r:=by
 intro c d R r v h
 cases c<;>cases d<;>simp only [q8] at h<;>first|(cases h;first|done|exact ⟨rfl,rfl⟩)|skip
 all_goals
  split at h
  ·rename_i hc
   first
    |(obtain ⟨h1,h2⟩:=hc;subst h1;subst h2;injection h with h;subst h;exact ⟨rfl,rfl⟩)
    |(subst hc;injection h with h;subst h;exact ⟨rfl,rfl⟩)
  ·cases h
theorem fM: ∀(l m:List AC) {R:Type} (r:R) (v:OL l R),Ta l m r=some v->(br l v).1.map Tu=m.map Tu/\(br l v).2=r
 | [],[],R,r,v,h=>by simp only [Ta] at h;injection h with h;subst h;exact ⟨rfl,rfl⟩
 | [],_::_,R,r,v,h=>by simp [Ta] at h
 |_::_,[],R,r,v,h=>by simp [Ta] at h
 |c::l,d::m,R,r,v,h=>by
  simp only [Ta] at h
  cases hr:Ta l m r with
  |none=>rw [hr] at h;cases h
  |some r'=>
   rw [hr] at h
   obtain ⟨h1,h2⟩:=rE c d r' v h
   obtain ⟨h3,h4⟩:=fM l m r r' hr
   simp only [br,Ce]
   rw [h1,h2,h3]
   exact ⟨rfl,h4⟩
theorem GZ: ∀(c d:AV) {R:Type} (r:R) (v:avV c R),mR c d r=some v->(uF c v).1.map Tu=d.map Tu/\(uF c v).2=r
 | .at a, .at b,R,r,v,h=>by
  obtain ⟨h1,h2⟩:=rE a b r v h
  exact ⟨by show AV.at _=AV.at _;rw [h1],h2⟩
 | .agg cs, .agg ds,R,r,v,h=>by
  obtain ⟨h1,h2⟩:=fM cs ds r v h
  exact ⟨by show AV.agg _=AV.agg _;rw [h1],h2⟩
 | .cf fr τ y, .cf Ww Oq x,R,r,v,h=>by
  by_cases hc:Oq=τ/\Ww=fr
  ·obtain ⟨h1,h2⟩:=hc
   subst h1;subst h2
   have h3:some ((x,r):Oq.den×R)=some v:=by
    have:mR (.cf Ww Oq y) (.cf Ww Oq x) r=some ((x,r):Oq.den×R):=Jf ⟨rfl,rfl⟩
    exact this.symm.trans h
   injection h3 with h3
   subst h3;exact ⟨rfl,rfl⟩
  ·have h3:mR (.cf fr τ y) (.cf Ww Oq x) r=none:=dif_neg hc
   rw [h3] at h;cases h
 | .at _, .agg _,_,_,_,h=>nomatch (show none=some _ from h)
 | .at _, .cf _ _ _,_,_,_,h=>nomatch (show none=some _ from h)
 | .agg _, .at _,_,_,_,h=>nomatch (show none=some _ from h)
 | .agg _, .cf _ _ _,_,_,_,h=>nomatch (show none=some _ from h)
 | .cf _ _ _, .at _,_,_,_,h=>nomatch (show none=some _ from h)
 | .cf _ _ _, .agg _,_,_,_,h=>nomatch (show none=some _ from h)
 | .Mn _, .at _,_,_,_,h=>nomatch (show none=some _ from h)
 | .Mn _, .agg _,_,_,_,h=>nomatch (show none=some _ from h)
 | .Mn _, .cf _ _ _,_,_,_,h=>nomatch (show none=some _ from h)
 | .Mn _, .Mn _,_,_,_,h=>nomatch (show none=some _ from h)
 | .at _, .Mn _,_,_,_,h=>nomatch (show none=some _ from h)
 | .agg _, .Mn _,_,_,_,h=>nomatch (show none=some _ from h)
 | .cf _ _ _, .Mn _,_,_,_,h=>nomatch (show none=some _ from h)
theorem KH: ∀(c d:OB) {R:Type} (r:R) (v:obV c R),Tx c d r=some v->(w9 c v).1.map Tu=d.map Tu/\(w9 c v).2=r
 | .arr fr tr e tid ys, .arr Ww tr' e' Tm xs,R,r,v,h=>by
  by_cases hc:e'=e/\Ww=fr/\tr'=tr/\Tm=tid
  ·obtain ⟨h1,h2,h3,h4⟩:=hc
   subst h1;subst h2;subst h3;subst h4
   have h3:some ((xs,r):List e'.den×R)=some v:=by
    have:Tx (.arr Ww tr' e' Tm ys) (.arr Ww tr' e' Tm xs) r=some ((xs,r):List e'.den×R):=Jf ⟨rfl,rfl,rfl,rfl⟩
    exact this.symm.trans h
   injection h3 with h3
   subst h3;exact ⟨rfl,rfl⟩
  ·have h3:Tx (.arr fr tr e tid ys) (.arr Ww tr' e' Tm xs) r=none:=dif_neg hc
   rw [h3] at h;cases h
 | .Gz e tid ys, .Gz e' Tm xs,R,r,v,h=>by
  by_cases hc:e'=e/\Tm=tid
  ·obtain ⟨h1,h4⟩:=hc
   subst h1;subst h4
   have h3:some ((xs,r):List e'.den×R)=some v:=by
    have:Tx (.Gz e' Tm ys) (.Gz e' Tm xs) r=some ((xs,r):List e'.den×R):=Jf ⟨rfl,rfl⟩
    exact this.symm.trans h
   injection h3 with h3
   subst h3;exact ⟨rfl,rfl⟩
  ·have h3:Tx (.Gz e tid ys) (.Gz e' Tm xs) r=none:=dif_neg hc
   rw [h3] at h;cases h
 | .Wo vt m, .Wo vt' m',R,r,v,h=>by
  by_cases hc:vt'=vt
  ·subst hc
   have h3:some ((m',r):(ByteArray->Option vt'.den)×R)=some v:=by
    have:Tx (.Wo vt' m) (.Wo vt' m') r=some ((m',r):(ByteArray->Option vt'.den)×R):=Jf rfl
    exact this.symm.trans h
   injection h3 with h3
   subst h3;exact ⟨rfl,rfl⟩
  ·have h3:Tx (.Wo vt m) (.Wo vt' m') r=none:=dif_neg hc
   rw [h3] at h;cases h
 | .var t vs, .var t' us,R,r,v,h=>by
  by_cases hc:t'=t
  ·subst hc
   have h0:Tx (.var t' vs) (.var t' us) r=Ta vs us r:=Ab rfl
   rw [h0] at h
   obtain ⟨h1,h2⟩:=fM vs us r v h
   exact ⟨by show OB.var _ _=OB.var _ _;rw [h1],h2⟩
  ·have h3:Tx (.var t vs) (.var t' us) r=none:=Ag hc
   rw [h3] at h;cases h
 | .Bp e te ys out none, .Bp e' Rv xs iS none,R,r,v,h=>by
  by_cases hc:e'=e/\Rv=te/\iS=out
  ·obtain ⟨h1,h2,h4⟩:=hc
   subst h1;subst h2;subst h4
   have h3:some ((xs,r):List (List e'.den)×R)=some v:=by
    have:Tx (.Bp e' Rv ys iS none) (.Bp e' Rv xs iS none) r=some ((xs,r):List (List e'.den)×R):=Jf ⟨rfl,rfl,rfl⟩
    exact this.symm.trans h
   injection h3 with h3
   subst h3;exact ⟨rfl,rfl⟩
  ·have h3:Tx (.Bp e te ys out none) (.Bp e' Rv xs iS none) r=none:=dif_neg hc
   rw [h3] at h;cases h
 | .Bp e te ys out (some p), .Bp e' Rv xs iS (some p'),R,r,v,h=>by
  by_cases hc:e'=e/\Rv=te/\iS=out/\p'.1=p.1
  ·obtain ⟨h1,h2,h4,h5⟩:=hc
   subst h1;subst h2;subst h4
   have h3:some ((xs,p'.2,r):List (List e'.den)×(Nat×R))=some v:=by
    have:Tx (.Bp e' Rv ys iS (some p)) (.Bp e' Rv xs iS (some p')) r=some ((xs,p'.2,r):List (List e'.den)×(Nat×R)):=Jf ⟨rfl,rfl,rfl,h5⟩
    exact this.symm.trans h
   injection h3 with h3
   subst h3
   refine ⟨?_,rfl⟩
   show OB.Bp e' Rv xs iS (some (p.1,p'.2))=OB.Bp e' Rv xs iS (some p')
   rw [<-h5]
  ·have h3:Tx (.Bp e te ys out (some p)) (.Bp e' Rv xs iS (some p')) r=none:=dif_neg hc
   rw [h3] at h;cases h
 | .Bp _ _ _ _ none, .Bp _ _ _ _ (some _),_,_,_,h=>nomatch (show none=some _ from h)
 | .Bp _ _ _ _ (some _), .Bp _ _ _ _ none,_,_,_,h=>nomatch (show none=some _ from h)
 | .Bp _ _ _ _ none, .arr _ _ _ _ _,_,_,_,h=>nomatch (show none=some _ from h)
 | .Bp _ _ _ _ none, .Gz _ _ _,_,_,_,h=>nomatch (show none=some _ from h)
 | .Bp _ _ _ _ none, .var _ _,_,_,_,h=>nomatch (show none=some _ from h)
 | .Bp _ _ _ _ none, .Wo _ _,_,_,_,h=>nomatch (show none=some _ from h)
 | .Bp _ _ _ _ (some _), .arr _ _ _ _ _,_,_,_,h=>nomatch (show none=some _ from h)
 | .Bp _ _ _ _ (some _), .Gz _ _ _,_,_,_,h=>nomatch (show none=some _ from h)
 | .Bp _ _ _ _ (some _), .var _ _,_,_,_,h=>nomatch (show none=some _ from h)
 | .Bp _ _ _ _ (some _), .Wo _ _,_,_,_,h=>nomatch (show none=some _ from h)
 | .arr _ _ _ _ _, .Bp _ _ _ _ _,_,_,_,h=>nomatch (show none=some _ from h)
 | .Gz _ _ _, .Bp _ _ _ _ _,_,_,_,h=>nomatch (show none=some _ from h)
 | .var _ _, .Bp _ _ _ _ _,_,_,_,h=>nomatch (show none=some _ from h)
 | .Wo _ _, .Bp _ _ _ _ _,_,_,_,h=>nomatch (show none=some _ from h)
 | .arr _ _ _ _ _, .var _ _,_,_,_,h=>nomatch (show none=some _ from h)
 | .arr _ _ _ _ _, .Gz _ _ _,_,_,_,h=>nomatch (show none=some _ from h)
 | .arr _ _ _ _ _, .Wo _ _,_,_,_,h=>nomatch (show none=some _ from h)
 | .Gz _ _ _, .var _ _,_,_,_,h=>nomatch (show none=some _ from h)
 | .Gz _ _ _, .arr _ _ _ _ _,_,_,_,h=>nomatch (show none=some _ from h)
 | .Gz _ _ _, .Wo _ _,_,_,_,h=>nomatch (show none=some _ from h)
 | .Wo _ _, .var _ _,_,_,_,h=>nomatch (show none=some _ from h)
 | .Wo _ _, .arr _ _ _ _ _,_,_,_,h=>nomatch (show none=some _ from h)
 | .Wo _ _, .Gz _ _ _,_,_,_,h=>nomatch (show none=some _ from h)
 | .var _ _, .arr _ _ _ _ _,_,_,_,h=>nomatch (show none=some _ from h)
 | .var _ _, .Gz _ _ _,_,_,_,h=>nomatch (show none=some _ from h)
 | .var _ _, .Wo _ _,_,_,_,h=>nomatch (show none=some _ from h)
theorem mD: ∀(l m:List AV) {R:Type} (r:R) (v:sJ l R),Pl l m r=some v->(Xs l v).1.map (·.map Tu)=m.map (·.map Tu)/\(Xs l v).2=r
 | [],[],R,r,v,h=>by simp only [Pl] at h;injection h with h;subst h;exact ⟨rfl,rfl⟩
 | [],_::_,R,r,v,h=>by simp [Pl] at h
 |_::_,[],R,r,v,h=>by simp [Pl] at h
 |c::l,d::m,R,r,v,h=>by
  simp only [Pl] at h
  cases hr:Pl l m r with
  |none=>rw [hr] at h;cases h
  |some r'=>
   rw [hr] at h
   obtain ⟨h1,h2⟩:=GZ c d r' v h
   obtain ⟨h3,h4⟩:=mD l m r r' hr
   simp only [Xs,Ce]
   rw [h1,h2,h3]
   exact ⟨rfl,h4⟩
theorem m7: ∀(l m:List (Nat×OB)) {R:Type} (r:R) (v:zt l R),Qv l m r=some v->(eW l v).1.map (λp=>(p.1,p.2.map Tu))=m.map (λp=>(p.1,p.2.map Tu))/\(eW l v).2=r
 | [],[],R,r,v,h=>by simp only [Qv] at h;injection h with h;subst h;exact ⟨rfl,rfl⟩
 | [],_::_,R,r,v,h=>by simp [Qv] at h
 |_::_,[],R,r,v,h=>by simp [Qv] at h
 |c::l,d::m,R,r,v,h=>by
  simp only [Qv] at h
  split at h
  ·rename_i hk
   cases hr:Qv l m r with
   |none=>rw [hr] at h;cases h
   |some r'=>
    rw [hr] at h
    obtain ⟨h1,h2⟩:=KH c.2 d.2 r' v h
    obtain ⟨h3,h4⟩:=m7 l m r r' hr
    simp only [eW,Ce]
    rw [h1,h2,h3,hk]
    exact ⟨rfl,h4⟩
  ·cases h
theorem kB {s t:St} {v:stV s} (h:kA s t=some v):(kz s v).Lb Tu=t.Lb Tu:=by
 unfold kA at h
 cases hr:Qv s.heap t.heap () with
 |none=>rw [hr] at h;cases h
 |some r=>
  rw [hr] at h
  obtain ⟨h1,h2⟩:=mD s.tmps t.tmps r v h
  obtain ⟨h3,_⟩:=m7 s.heap t.heap () r hr
  simp only [kz,St.Lb]
  rw [h1,h2,h3]
theorem rF: ∀(c:AC) {R:Type} (r:R),q8 c c r=some (UH c r):=by
 intro c R r
 cases c<;>simp [q8,UH]
theorem fN: ∀(l:List AC) {R:Type} (r:R),Ta l l r=some (uu l r)
 | [],_,_=>rfl
 |c::l,_,r=>by simp only [Ta,fN l r,uu];exact rF c _
def AV.mj:AV->Bool
 | .Mn _=>false
 |_=>true
theorem HB: ∀(c:AV),c.mj=true-> ∀ {R:Type} (r:R),mR c c r=some (Aj8 c r):=by
 intro c hn R r
 cases c with
 |Mn l=>cases hn
 | «at»a=>exact rF a r
 |agg cs=>exact fN cs r
 |cf fr τ x=>exact Jf ⟨rfl,rfl⟩
theorem KI: ∀(c:OB) {R:Type} (r:R),Tx c c r=some (Ako c r):=by
 intro c R r
 cases c with
 |arr fr tr e t xs=>exact Jf ⟨rfl,rfl,rfl,rfl⟩
 |Gz e t xs=>exact Jf ⟨rfl,rfl⟩
 |Wo v m=>exact Jf rfl
 |Bp e te rows out kp=>
  cases kp with
  |none=>exact Jf ⟨rfl,rfl,rfl⟩
  |some p=>exact Jf ⟨rfl,rfl,rfl,rfl⟩
 |var t vs=>
  have h0:Tx (.var t vs) (.var t vs) r=Ta vs vs r:=Ab rfl
  exact h0.trans (fN vs r)
theorem mE: ∀(l:List AV),(∀c∈l,c.mj=true)-> ∀ {R:Type} (r:R),Pl l l r=some (uf l r)
 | [],_,_,_=>rfl
 |c::l,h,_,r=>by simp only [Pl,mE l (λc hc=>h c (Ar _ hc)) r,uf];exact HB c (h c (by simp)) _
theorem m8: ∀(l:List (Nat×OB)) {R:Type} (r:R),Qv l l r=some (tT l r)
 | [],_,_=>rfl
 |c::l,_,r=>by simp only [Qv,Pv,m8 l r,tT];exact KI c.2 _
theorem sD (s:St) (h: ∀c∈s.tmps,c.mj=true):kA s s=some (WH s):=by
 simp only [kA,m8,WH]
 exact mE _ h _
theorem Cg {α:Type} {o:Option α} {K:α->Prop} :Hy o K↔ ∃x,o=some x/\K x:=by
 unfold Hy
 cases o with
 |none=>simp
 |some x=>simp
theorem nR: ∀(l m:List AC),l.map Tu=m.map Tu->l.flatMap cm=m.flatMap cm->l=m
 | [],[],_,_=>rfl
 | [],_::_,h,_=>by simp at h
 |_::_,[],h,_=>by simp at h
 |c::l,d::m,h,ho=>by
  simp only [Ce,Gj] at h
  simp only [dc] at ho
  have hcd:c=d/\l.flatMap cm=m.flatMap cm:=by
   cases c<;>cases d<;>first|(cases h.1;done)|skip
   all_goals first
    |(obtain ⟨h1,_⟩:=h
      simp only [Tu,AC.own.injEq] at h1
      simp only [cm,Mo,j7,Gj,Ae] at ho
      exact ⟨by rw [h1.1,ho.1.1,ho.1.2],ho.2⟩)
    |exact ⟨h.1,by simpa only [cm,j7] using ho⟩
  rw [hcd.1,nR l m h.2 hcd.2]
theorem p7: ∀(l m:List AC),l.map Tu=m.map Tu->(l.flatMap cm).length=(m.flatMap cm).length
 | [],[],_=>rfl
 | [],_::_,h=>by simp at h
 |_::_,[],h=>by simp at h
 |c::l,d::m,h=>by
  simp only [Ce,Gj] at h
  simp only [dc,Ax,p7 l m h.2]
  congr 1
  cases c<;>cases d<;>first|rfl|(cases h.1;done)
theorem Agp {c d:AV} (h:c.map Tu=d.map Tu):(cp c).length=(cp d).length/\(cp c=cp d->(∀l,c≠ .Mn l)->c=d):=by
 cases c with
 | «at»a=>
  cases d<;>simp only [AV.map,AV.at.injEq,reduceCtorEq] at h
  rename_i b
  have h1: [a].map Tu= [b].map Tu:=by simp [h]
  refine ⟨by simpa [cp] using p7 [a] [b] h1,λho _=>?_⟩
  have:=nR [a] [b] h1 (by simpa [cp] using ho)
  simpa using this
 |agg cs=>
  cases d<;>simp only [AV.map,AV.agg.injEq,reduceCtorEq] at h
  rename_i ds
  exact ⟨p7 cs ds h,λho _=>by rw [nR cs ds h ho]⟩
 |cf fr τ x=>
  cases d<;>simp only [AV.map,reduceCtorEq] at h
  exact ⟨rfl,λ_ _=>h⟩
 |Mn l=>
  cases d<;>simp only [AV.map,reduceCtorEq] at h
  exact ⟨rfl,λ_ hn=>absurd rfl (hn l)⟩
theorem HD: ∀(l m:List AV),l.map (·.map Tu)=m.map (·.map Tu)->(∀c∈l,c.mj=true)->(l.flatMap cp).length=(m.flatMap cp).length/\(l.flatMap cp=m.flatMap cp->l=m)
 | [],[],_,_=>⟨rfl,λ_=>rfl⟩
 | [],_::_,h,_=>by simp at h
 |_::_,[],h,_=>by simp at h
 |c::l,d::m,h,hn=>by
  simp only [Ce,Gj] at h
  obtain ⟨h1,h2⟩:=Agp h.1
  obtain ⟨h3,h4⟩:=HD l m h.2 λc hc=>hn c (Ar _ hc)
  refine ⟨by simp only [dc,Ax,h1,h3],λho=>?_⟩
  simp only [dc] at ho
  obtain ⟨g1,g2⟩:=List.append_inj ho h1
  have hnt: ∀l',c≠ .Mn l':= λl' e=>by
   have:=hn c (by simp)
   rw [e] at this
   cases this
  rw [h2 g1 hnt,h4 g2]
theorem Ahw {c d:OB} (h:c.map Tu=d.map Tu):(nw c).length=(nw d).length/\(nw c=nw d->c=d):=by
 cases c with
 |var t vs=>
  cases d<;>simp only [OB.map,OB.var.injEq,reduceCtorEq] at h
  rename_i t' us
  obtain ⟨rfl,h⟩:=h
  exact ⟨p7 vs us h,λho=>by rw [nR vs us h ho]⟩
 |_=>cases d<;>simp only [OB.map,reduceCtorEq] at h<;>exact ⟨rfl,λ_=>h⟩
theorem zu: ∀(l m:List (Nat×OB)),l.map (λp=>(p.1,p.2.map Tu))=m.map (λp=>(p.1,p.2.map Tu))->(l.flatMap λp=>nw p.2)=(m.flatMap λp=>nw p.2)->l=m
 | [],[],_,_=>rfl
 | [],_::_,h,_=>by simp at h
 |_::_,[],h,_=>by simp at h
 |(k,c)::l,(k',d)::m,h,ho=>by
  simp only [Ce,Gj,Ae] at h
  simp only [dc] at ho
  obtain ⟨h1,h2⟩:=Ahw h.1.2
  obtain ⟨g1,g2⟩:=List.append_inj ho h1
  rw [h.1.1,h2 g1,zu l m h.2 g2]
theorem HC (l:List (Bool×List AC)) (e:AV) {R:Type} (r:R):mR (.Mn l) e r=none:=by cases e<;>rfl
theorem BN {d e:AV} {R:Type} {r:R} {v:avV d R} (h:mR d e r=some v):d.mj=true:=by
 cases d with
 |Mn l=>rw [HC] at h;cases h
 |_=>rfl
theorem kG: ∀(l m:List AV) {R:Type} (r:R) (v:sJ l R),Pl l m r=some v-> ∀c∈l,c.mj=true
 | [],_,_,_,_,_,c,hc=>by cases hc
 |d::l,[],_,r,v,h,c,hc=>by cases h
 |d::l,e::m,R,r,v,h,c,hc=>by
  simp only [Pl] at h
  cases hr:Pl l m r with
  |none=>rw [hr] at h;cases h
  |some r'=>
   rw [hr] at h
   rcases Be.1 hc with hc|hc
   ·rw [hc];exact BN h
   ·exact kG l m r r' hr c hc
theorem eN {s0 s:St} (h:eqW s0 s):s=s0:=by
 obtain ⟨ho,h⟩:=h
 obtain ⟨v,h1,h2⟩:=Cg.1 h
 subst h2
 have hn: ∀c∈s0.tmps,c.mj=true:=by
  unfold kA at h1
  cases hr:Qv s0.heap s.heap () with
  |none=>rw [hr] at h1;cases h1
  |some r=>rw [hr] at h1;exact kG _ _ _ _ h1
 have e:=(kB h1).symm.trans (kB (sD s0 hn))
 simp only [St.Lb,St.mk.injEq] at e
 obtain ⟨e1,e2⟩:=e
 obtain ⟨l1,l2⟩:=HD s0.tmps s.tmps e1.symm hn
 unfold TI at ho
 obtain ⟨g1,g2⟩:=List.append_inj ho l1.symm
 have k1:=l2 g1.symm
 have k2:=zu s.heap s0.heap e2 g2
 cases s;cases s0
 simp only at k1 k2
 rw [k1,k2]
end Go.Proofs.YtfgfigkbgecfnaaGreat
