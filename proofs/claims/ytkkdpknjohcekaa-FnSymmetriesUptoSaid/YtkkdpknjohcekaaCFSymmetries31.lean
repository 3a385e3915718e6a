/-
  Part 32 of the proof that the statement FnSymmetries holds.
-/
import Derived.Test.YtkkdpknjohcekaaCFSymmetries30
namespace Go.Proofs.Ytkkdpknjohcekaa
open Go.RowKit
def Ry:AC->AC
 | .own l _ _=> .own l 0 0
 |c=>c
theorem np: ∀(c d:AC) {R:Type} (r:R) (v:acV c R),me c d r=some v->Ry (js c v).1=Ry d/\(js c v).2=r:=by
 intro c d R r v h
 cases c<;>cases d<;>simp only [me] at h<;>first|(cases h;first|done|exact ⟨rfl,rfl⟩)|skip
 all_goals
  split at h
  ·rename_i hc
   first
    |(obtain ⟨h1,h2⟩:=hc;subst h1;subst h2;injection h with h;subst h;exact ⟨rfl,rfl⟩)
    |(subst hc;injection h with h;subst h;exact ⟨rfl,rfl⟩)
  ·cases h
theorem cY: ∀(l m:List AC) {R:Type} (r:R) (v:BF l R),Rh l m r=some v->(Zf l v).1.map Ry=m.map Ry/\(Zf l v).2=r
 | [],[],R,r,v,h=>by simp only [Rh] at h;injection h with h;subst h;exact ⟨rfl,rfl⟩
 | [],_::_,R,r,v,h=>by simp [Rh] at h
 |_::_,[],R,r,v,h=>by simp [Rh] at h
 |c::l,d::m,R,r,v,h=>by
  simp only [Rh] at h
  cases hr:Rh l m r with
  |none=>rw [hr] at h;cases h
  |some r'=>
   rw [hr] at h
   obtain ⟨h1,h2⟩:=np c d r' v h
   obtain ⟨h3,h4⟩:=cY l m r r' hr
   simp only [Zf,Bw]
   rw [h1,h2,h3]
   exact ⟨rfl,h4⟩
theorem xT: ∀(c d:AV) {R:Type} (r:R) (v:avV c R),jx c d r=some v->(pw c v).1.map Ry=d.map Ry/\(pw c v).2=r
 | .at a, .at b,R,r,v,h=>by
  obtain ⟨h1,h2⟩:=np a b r v h
  exact ⟨by show AV.at _=AV.at _;rw [h1],h2⟩
 | .agg cs, .agg ds,R,r,v,h=>by
  obtain ⟨h1,h2⟩:=cY cs ds r v h
  exact ⟨by show AV.agg _=AV.agg _;rw [h1],h2⟩
 | .aa fr τ y, .aa Uz Nr x,R,r,v,h=>by
  by_cases hc:Nr=τ/\Uz=fr
  ·obtain ⟨h1,h2⟩:=hc
   subst h1;subst h2
   have h3:some ((x,r):Nr.den×R)=some v:=by
    have:jx (.aa Uz Nr y) (.aa Uz Nr x) r=some ((x,r):Nr.den×R):=Ih ⟨rfl,rfl⟩
    exact this.symm.trans h
   injection h3 with h3
   subst h3;exact ⟨rfl,rfl⟩
  ·have h3:jx (.aa fr τ y) (.aa Uz Nr x) r=none:=dif_neg hc
   rw [h3] at h;cases h
 | .at _, .agg _,_,_,_,h=>nomatch (show none=some _ from h)
 | .at _, .aa _ _ _,_,_,_,h=>nomatch (show none=some _ from h)
 | .agg _, .at _,_,_,_,h=>nomatch (show none=some _ from h)
 | .agg _, .aa _ _ _,_,_,_,h=>nomatch (show none=some _ from h)
 | .aa _ _ _, .at _,_,_,_,h=>nomatch (show none=some _ from h)
 | .aa _ _ _, .agg _,_,_,_,h=>nomatch (show none=some _ from h)
 | .Mh _, .at _,_,_,_,h=>nomatch (show none=some _ from h)
 | .Mh _, .agg _,_,_,_,h=>nomatch (show none=some _ from h)
 | .Mh _, .aa _ _ _,_,_,_,h=>nomatch (show none=some _ from h)
 | .Mh _, .Mh _,_,_,_,h=>nomatch (show none=some _ from h)
 | .at _, .Mh _,_,_,_,h=>nomatch (show none=some _ from h)
 | .agg _, .Mh _,_,_,_,h=>nomatch (show none=some _ from h)
 | .aa _ _ _, .Mh _,_,_,_,h=>nomatch (show none=some _ from h)
theorem zh: ∀(c d:OB) {R:Type} (r:R) (v:obV c R),Sb c d r=some v->(qv c v).1.map Ry=d.map Ry/\(qv c v).2=r
 | .arr fr tr e tid ys, .arr Uz RW e' Tu xs,R,r,v,h=>by
  by_cases hc:e'=e/\Uz=fr/\RW=tr/\Tu=tid
  ·obtain ⟨h1,h2,h3,h4⟩:=hc
   subst h1;subst h2;subst h3;subst h4
   have h3:some ((xs,r):List e'.den×R)=some v:=by
    have:Sb (.arr Uz RW e' Tu ys) (.arr Uz RW e' Tu xs) r=some ((xs,r):List e'.den×R):=Ih ⟨rfl,rfl,rfl,rfl⟩
    exact this.symm.trans h
   injection h3 with h3
   subst h3;exact ⟨rfl,rfl⟩
  ·have h3:Sb (.arr fr tr e tid ys) (.arr Uz RW e' Tu xs) r=none:=dif_neg hc
   rw [h3] at h;cases h
 | .Gg e tid ys, .Gg e' Tu xs,R,r,v,h=>by
  by_cases hc:e'=e/\Tu=tid
  ·obtain ⟨h1,h4⟩:=hc
   subst h1;subst h4
   have h3:some ((xs,r):List e'.den×R)=some v:=by
    have:Sb (.Gg e' Tu ys) (.Gg e' Tu xs) r=some ((xs,r):List e'.den×R):=Ih ⟨rfl,rfl⟩
    exact this.symm.trans h
   injection h3 with h3
   subst h3;exact ⟨rfl,rfl⟩
  ·have h3:Sb (.Gg e tid ys) (.Gg e' Tu xs) r=none:=dif_neg hc
   rw [h3] at h;cases h
 | .Ul vt m, .Ul vt' m',R,r,v,h=>by
  by_cases hc:vt'=vt
  ·subst hc
   have h3:some ((m',r):(ByteArray->Option vt'.den)×R)=some v:=by
    have:Sb (.Ul vt' m) (.Ul vt' m') r=some ((m',r):(ByteArray->Option vt'.den)×R):=Ih rfl
    exact this.symm.trans h
   injection h3 with h3
   subst h3;exact ⟨rfl,rfl⟩
  ·have h3:Sb (.Ul vt m) (.Ul vt' m') r=none:=dif_neg hc
   rw [h3] at h;cases h
 | .var t vs, .var t' us,R,r,v,h=>by
  by_cases hc:t'=t
  ·subst hc
   have h0:Sb (.var t' vs) (.var t' us) r=Rh vs us r:=Ab rfl
   rw [h0] at h
   obtain ⟨h1,h2⟩:=cY vs us r v h
   exact ⟨by show OB.var _ _=OB.var _ _;rw [h1],h2⟩
  ·have h3:Sb (.var t vs) (.var t' us) r=none:=Ai hc
   rw [h3] at h;cases h
 | .Bj e te ys out none, .Bj e' Qo xs Ye none,R,r,v,h=>by
  by_cases hc:e'=e/\Qo=te/\Ye=out
  ·obtain ⟨h1,h2,h4⟩:=hc
   subst h1;subst h2;subst h4
   have h3:some ((xs,r):List (List e'.den)×R)=some v:=by
    have:Sb (.Bj e' Qo ys Ye none) (.Bj e' Qo xs Ye none) r=some ((xs,r):List (List e'.den)×R):=Ih ⟨rfl,rfl,rfl⟩
    exact this.symm.trans h
   injection h3 with h3
   subst h3;exact ⟨rfl,rfl⟩
  ·have h3:Sb (.Bj e te ys out none) (.Bj e' Qo xs Ye none) r=none:=dif_neg hc
   rw [h3] at h;cases h
 | .Bj e te ys out (some p), .Bj e' Qo xs Ye (some p'),R,r,v,h=>by
  by_cases hc:e'=e/\Qo=te/\Ye=out/\p'.1=p.1
  ·obtain ⟨h1,h2,h4,h5⟩:=hc
   subst h1;subst h2;subst h4
   have h3:some ((xs,p'.2,r):List (List e'.den)×(Nat×R))=some v:=by
    have:Sb (.Bj e' Qo ys Ye (some p)) (.Bj e' Qo xs Ye (some p')) r=some ((xs,p'.2,r):List (List e'.den)×(Nat×R)):=Ih ⟨rfl,rfl,rfl,h5⟩
    exact this.symm.trans h
   injection h3 with h3
   subst h3
   refine ⟨?_,rfl⟩
   show OB.Bj e' Qo xs Ye (some (p.1,p'.2))=OB.Bj e' Qo xs Ye (some p')
   rw [<-h5]
  ·have h3:Sb (.Bj e te ys out (some p)) (.Bj e' Qo xs Ye (some p')) r=none:=dif_neg hc
   rw [h3] at h;cases h
 | .Bj _ _ _ _ none, .Bj _ _ _ _ (some _),_,_,_,h=>nomatch (show none=some _ from h)
 | .Bj _ _ _ _ (some _), .Bj _ _ _ _ none,_,_,_,h=>nomatch (show none=some _ from h)
 | .Bj _ _ _ _ none, .arr _ _ _ _ _,_,_,_,h=>nomatch (show none=some _ from h)
 | .Bj _ _ _ _ none, .Gg _ _ _,_,_,_,h=>nomatch (show none=some _ from h)
 | .Bj _ _ _ _ none, .var _ _,_,_,_,h=>nomatch (show none=some _ from h)
 | .Bj _ _ _ _ none, .Ul _ _,_,_,_,h=>nomatch (show none=some _ from h)
 | .Bj _ _ _ _ (some _), .arr _ _ _ _ _,_,_,_,h=>nomatch (show none=some _ from h)
 | .Bj _ _ _ _ (some _), .Gg _ _ _,_,_,_,h=>nomatch (show none=some _ from h)
 | .Bj _ _ _ _ (some _), .var _ _,_,_,_,h=>nomatch (show none=some _ from h)
 | .Bj _ _ _ _ (some _), .Ul _ _,_,_,_,h=>nomatch (show none=some _ from h)
 | .arr _ _ _ _ _, .Bj _ _ _ _ _,_,_,_,h=>nomatch (show none=some _ from h)
 | .Gg _ _ _, .Bj _ _ _ _ _,_,_,_,h=>nomatch (show none=some _ from h)
 | .var _ _, .Bj _ _ _ _ _,_,_,_,h=>nomatch (show none=some _ from h)
 | .Ul _ _, .Bj _ _ _ _ _,_,_,_,h=>nomatch (show none=some _ from h)
 | .arr _ _ _ _ _, .var _ _,_,_,_,h=>nomatch (show none=some _ from h)
 | .arr _ _ _ _ _, .Gg _ _ _,_,_,_,h=>nomatch (show none=some _ from h)
 | .arr _ _ _ _ _, .Ul _ _,_,_,_,h=>nomatch (show none=some _ from h)
 | .Gg _ _ _, .var _ _,_,_,_,h=>nomatch (show none=some _ from h)
 | .Gg _ _ _, .arr _ _ _ _ _,_,_,_,h=>nomatch (show none=some _ from h)
 | .Gg _ _ _, .Ul _ _,_,_,_,h=>nomatch (show none=some _ from h)
 | .Ul _ _, .var _ _,_,_,_,h=>nomatch (show none=some _ from h)
 | .Ul _ _, .arr _ _ _ _ _,_,_,_,h=>nomatch (show none=some _ from h)
 | .Ul _ _, .Gg _ _ _,_,_,_,h=>nomatch (show none=some _ from h)
 | .var _ _, .arr _ _ _ _ _,_,_,_,h=>nomatch (show none=some _ from h)
 | .var _ _, .Gg _ _ _,_,_,_,h=>nomatch (show none=some _ from h)
 | .var _ _, .Ul _ _,_,_,_,h=>nomatch (show none=some _ from h)
theorem jf: ∀(l m:List AV) {R:Type} (r:R) (v:o7 l R),Om l m r=some v->(Vq l v).1.map (·.map Ry)=m.map (·.map Ry)/\(Vq l v).2=r
 | [],[],R,r,v,h=>by simp only [Om] at h;injection h with h;subst h;exact ⟨rfl,rfl⟩
 | [],_::_,R,r,v,h=>by simp [Om] at h
 |_::_,[],R,r,v,h=>by simp [Om] at h
 |c::l,d::m,R,r,v,h=>by
  simp only [Om] at h
  cases hr:Om l m r with
  |none=>rw [hr] at h;cases h
  |some r'=>
   rw [hr] at h
   obtain ⟨h1,h2⟩:=xT c d r' v h
   obtain ⟨h3,h4⟩:=jf l m r r' hr
   simp only [Vq,Bw]
   rw [h1,h2,h3]
   exact ⟨rfl,h4⟩
theorem iP: ∀(l m:List (Nat×OB)) {R:Type} (r:R) (v:tC l R),Pp l m r=some v->(cv l v).1.map (λp=>(p.1,p.2.map Ry))=m.map (λp=>(p.1,p.2.map Ry))/\(cv l v).2=r
 | [],[],R,r,v,h=>by simp only [Pp] at h;injection h with h;subst h;exact ⟨rfl,rfl⟩
 | [],_::_,R,r,v,h=>by simp [Pp] at h
 |_::_,[],R,r,v,h=>by simp [Pp] at h
 |c::l,d::m,R,r,v,h=>by
  simp only [Pp] at h
  split at h
  ·rename_i hk
   cases hr:Pp l m r with
   |none=>rw [hr] at h;cases h
   |some r'=>
    rw [hr] at h
    obtain ⟨h1,h2⟩:=zh c.2 d.2 r' v h
    obtain ⟨h3,h4⟩:=iP l m r r' hr
    simp only [cv,Bw]
    rw [h1,h2,h3,hk]
    exact ⟨rfl,h4⟩
  ·cases h
theorem gF {s t:St} {v:stV s} (h:gE s t=some v):(gD s v).Kr Ry=t.Kr Ry:=by
 unfold gE at h
 cases hr:Pp s.heap t.heap () with
 |none=>rw [hr] at h;cases h
 |some r=>
  rw [hr] at h
  obtain ⟨h1,h2⟩:=jf s.tmps t.tmps r v h
  obtain ⟨h3,_⟩:=iP s.heap t.heap () r hr
  simp only [gD,St.Kr]
  rw [h1,h2,h3]
theorem nq: ∀(c:AC) {R:Type} (r:R),me c c r=some (FX c r):=by
 intro c R r
 cases c<;>simp [me,FX]
theorem cZ: ∀(l:List AC) {R:Type} (r:R),Rh l l r=some (pe l r)
 | [],_,_=>rfl
 |c::l,_,r=>by simp only [Rh,cZ l r,pe];exact nq c _
def AV.iY:AV->Bool
 | .Mh _=>false
 |_=>true
theorem xU: ∀(c:AV),c.iY=true-> ∀ {R:Type} (r:R),jx c c r=some (WC c r):=by
 intro c hn R r
 cases c with
 |Mh l=>cases hn
 | «at»a=>exact nq a r
 |agg cs=>exact cZ cs r
 |aa fr τ x=>exact Ih ⟨rfl,rfl⟩
theorem zi: ∀(c:OB) {R:Type} (r:R),Sb c c r=some (XT c r):=by
 intro c R r
 cases c with
 |arr fr tr e t xs=>exact Ih ⟨rfl,rfl,rfl,rfl⟩
 |Gg e t xs=>exact Ih ⟨rfl,rfl⟩
 |Ul v m=>exact Ih rfl
 |Bj e te rows out kp=>
  cases kp with
  |none=>exact Ih ⟨rfl,rfl,rfl⟩
  |some p=>exact Ih ⟨rfl,rfl,rfl,rfl⟩
 |var t vs=>
  have h0:Sb (.var t vs) (.var t vs) r=Rh vs vs r:=Ab rfl
  exact h0.trans (cZ vs r)
theorem jg: ∀(l:List AV),(∀c∈l,c.iY=true)-> ∀ {R:Type} (r:R),Om l l r=some (oY l r)
 | [],_,_,_=>rfl
 |c::l,h,_,r=>by simp only [Om,jg l (λc hc=>h c (Am _ hc)) r,oY];exact xU c (h c (by simp)) _
theorem iQ: ∀(l:List (Nat×OB)) {R:Type} (r:R),Pp l l r=some (oR l r)
 | [],_,_=>rfl
 |c::l,_,r=>by simp only [Pp,Qf,iQ l r,oR];exact zi c.2 _
theorem o3 (s:St) (h: ∀c∈s.tmps,c.iY=true):gE s s=some (HQ s):=by
 simp only [gE,iQ,HQ]
 exact jg _ h _
theorem Bp {α:Type} {o:Option α} {K:α->Prop} :He o K↔ ∃x,o=some x/\K x:=by
 unfold He
 cases o with
 |none=>simp
 |some x=>simp
theorem kr: ∀(l m:List AC),l.map Ry=m.map Ry->l.flatMap ag=m.flatMap ag->l=m
 | [],[],_,_=>rfl
 | [],_::_,h,_=>by simp at h
 |_::_,[],h,_=>by simp at h
 |c::l,d::m,h,ho=>by
  simp only [Bw,Gd] at h
  simp only [Ku] at ho
  have hcd:c=d/\l.flatMap ag=m.flatMap ag:=by
   cases c<;>cases d<;>first|(cases h.1;done)|skip
   all_goals first
    |(obtain ⟨h1,_⟩:=h
      simp only [Ry,AC.own.injEq] at h1
      simp only [ag,Ly,Nh,Gd,Ad] at ho
      exact ⟨by rw [h1.1,ho.1.1,ho.1.2],ho.2⟩)
    |exact ⟨h.1,by simpa only [ag,Nh] using ho⟩
  rw [hcd.1,kr l m h.2 hcd.2]
theorem lA: ∀(l m:List AC),l.map Ry=m.map Ry->(l.flatMap ag).length=(m.flatMap ag).length
 | [],[],_=>rfl
 | [],_::_,h=>by simp at h
 |_::_,[],h=>by simp at h
 |c::l,d::m,h=>by
  simp only [Bw,Gd] at h
  simp only [Ku,Ay,lA l m h.2]
  congr 1
  cases c<;>cases d<;>first|rfl|(cases h.1;done)
theorem TN {c d:AV} (h:c.map Ry=d.map Ry):(ai c).length=(ai d).length/\(ai c=ai d->(∀l,c≠ .Mh l)->c=d):=by
 cases c with
 | «at»a=>
  cases d<;>simp only [AV.map,AV.at.injEq,reduceCtorEq] at h
  rename_i b
  have h1: [a].map Ry= [b].map Ry:=by simp [h]
  refine ⟨by simpa [ai] using lA [a] [b] h1,λho _=>?_⟩
  have:=kr [a] [b] h1 (by simpa [ai] using ho)
  simpa using this
 |agg cs=>
  cases d<;>simp only [AV.map,AV.agg.injEq,reduceCtorEq] at h
  rename_i ds
  exact ⟨lA cs ds h,λho _=>by rw [kr cs ds h ho]⟩
 |aa fr τ x=>
  cases d<;>simp only [AV.map,reduceCtorEq] at h
  exact ⟨rfl,λ_ _=>h⟩
 |Mh l=>
  cases d<;>simp only [AV.map,reduceCtorEq] at h
  exact ⟨rfl,λ_ hn=>absurd rfl (hn l)⟩
theorem xW: ∀(l m:List AV),l.map (·.map Ry)=m.map (·.map Ry)->(∀c∈l,c.iY=true)->(l.flatMap ai).length=(m.flatMap ai).length/\(l.flatMap ai=m.flatMap ai->l=m)
 | [],[],_,_=>⟨rfl,λ_=>rfl⟩
 | [],_::_,h,_=>by simp at h
 |_::_,[],h,_=>by simp at h
 |c::l,d::m,h,hn=>by
  simp only [Bw,Gd] at h
  obtain ⟨h1,h2⟩:=TN h.1
  obtain ⟨h3,h4⟩:=xW l m h.2 λc hc=>hn c (Am _ hc)
  refine ⟨by simp only [Ku,Ay,h1,h3],λho=>?_⟩
  simp only [Ku] at ho
  obtain ⟨g1,g2⟩:=List.append_inj ho h1
  have hnt: ∀l',c≠ .Mh l':= λl' e=>by
   have:=hn c (by simp)
   rw [e] at this
   cases this
  rw [h2 g1 hnt,h4 g2]
theorem VB {c d:OB} (h:c.map Ry=d.map Ry):(jT c).length=(jT d).length/\(jT c=jT d->c=d):=by
 cases c with
 |var t vs=>
  cases d<;>simp only [OB.map,OB.var.injEq,reduceCtorEq] at h
  rename_i t' us
  obtain ⟨rfl,h⟩:=h
  exact ⟨lA vs us h,λho=>by rw [kr vs us h ho]⟩
 |_=>cases d<;>simp only [OB.map,reduceCtorEq] at h<;>exact ⟨rfl,λ_=>h⟩
theorem tD: ∀(l m:List (Nat×OB)),l.map (λp=>(p.1,p.2.map Ry))=m.map (λp=>(p.1,p.2.map Ry))->(l.flatMap λp=>jT p.2)=(m.flatMap λp=>jT p.2)->l=m
 | [],[],_,_=>rfl
 | [],_::_,h,_=>by simp at h
 |_::_,[],h,_=>by simp at h
 |(k,c)::l,(k',d)::m,h,ho=>by
  simp only [Bw,Gd,Ad] at h
  simp only [Ku] at ho
  obtain ⟨h1,h2⟩:=VB h.1.2
  obtain ⟨g1,g2⟩:=List.append_inj ho h1
  rw [h.1.1,h2 g1,tD l m h.2 g2]
theorem xV (l:List (Bool×List AC)) (e:AV) {R:Type} (r:R):jx (.Mh l) e r=none:=by cases e<;>rfl
theorem uW {d e:AV} {R:Type} {r:R} {v:avV d R} (h:jx d e r=some v):d.iY=true:=by
 cases d with
 |Mh l=>rw [xV] at h;cases h
 |_=>rfl
theorem gH: ∀(l m:List AV) {R:Type} (r:R) (v:o7 l R),Om l m r=some v-> ∀c∈l,c.iY=true
 | [],_,_,_,_,_,c,hc=>by cases hc
 |d::l,[],_,r,v,h,c,hc=>by cases h
 |d::l,e::m,R,r,v,h,c,hc=>by
  simp only [Om] at h
  cases hr:Om l m r with
  |none=>rw [hr] at h;cases h
  |some r'=>
   rw [hr] at h
   rcases Ba.1 hc with hc|hc
   ·rw [hc];exact uW h
   ·exact gH l m r r' hr c hc
theorem cd {s0 s:St} (h:eqW s0 s):s=s0:=by
 obtain ⟨ho,h⟩:=h
 obtain ⟨v,h1,h2⟩:=Bp.1 h
 subst h2
 have hn: ∀c∈s0.tmps,c.iY=true:=by
  unfold gE at h1
  cases hr:Pp s0.heap s.heap () with
  |none=>rw [hr] at h1;cases h1
  |some r=>rw [hr] at h1;exact gH _ _ _ _ h1
 have e:=(gF h1).symm.trans (gF (o3 s0 hn))
 simp only [St.Kr,St.mk.injEq] at e
 obtain ⟨e1,e2⟩:=e
 obtain ⟨l1,l2⟩:=xW s0.tmps s.tmps e1.symm hn
 unfold EV at ho
 obtain ⟨g1,g2⟩:=List.append_inj ho l1.symm
 have k1:=l2 g1.symm
 have k2:=tD s.heap s0.heap e2 g2
 cases s;cases s0
 simp only at k1 k2
 rw [k1,k2]
end Go.Proofs.Ytkkdpknjohcekaa
