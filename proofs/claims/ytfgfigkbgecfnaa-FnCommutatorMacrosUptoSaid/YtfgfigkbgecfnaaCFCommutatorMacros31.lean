/-
  Part 32 of the proof that the statement FnCommutatorMacros holds.
-/
import Derived.Test.YtfgfigkbgecfnaaCFCommutatorMacros30
namespace Go.Proofs.Ytfgfigkbgecfnaa
open Go.RowKit
def Oz:AC->AC
 | .own l _ _=> .own l 0 0
 |c=>c
theorem jH: ∀(c d:AC) {R:Type} (r:R) (v:NB c R),iU c d r=some v->Oz (fH c v).1=Oz d/\(fH c v).2=r:=by
 intro c d R r v h
 cases c<;>cases d<;>simp only [iU] at h<;>first|(cases h;first|done|exact ⟨rfl,rfl⟩)|skip
 all_goals
  split at h
  ·rename_i hc
   first
    |(obtain ⟨h1,h2⟩:=hc;subst h1;subst h2;injection h with h;subst h;exact ⟨rfl,rfl⟩)
    |(subst hc;injection h with h;subst h;exact ⟨rfl,rfl⟩)
  ·cases h
theorem aN: ∀(l m:List AC) {R:Type} (r:R) (v:v7 l R),Og l m r=some v->(Vh l v).1.map Oz=m.map Oz/\(Vh l v).2=r
 | [],[],R,r,v,h=>by simp only [Og] at h;injection h with h;subst h;exact ⟨rfl,rfl⟩
 | [],_::_,R,r,v,h=>by simp [Og] at h
 |_::_,[],R,r,v,h=>by simp [Og] at h
 |c::l,d::m,R,r,v,h=>by
  simp only [Og] at h
  cases hr:Og l m r with
  |none=>rw [hr] at h;cases h
  |some r'=>
   rw [hr] at h
   obtain ⟨h1,h2⟩:=jH c d r' v h
   obtain ⟨h3,h4⟩:=aN l m r r' hr
   simp only [Vh,Bl]
   rw [h1,h2,h3]
   exact ⟨rfl,h4⟩
theorem sE: ∀(c d:AV) {R:Type} (r:R) (v:NC c R),fM c d r=some v->(lK c v).1.map Oz=d.map Oz/\(lK c v).2=r
 | .at a, .at b,R,r,v,h=>by
  obtain ⟨h1,h2⟩:=jH a b r v h
  exact ⟨by show AV.at _=AV.at _;rw [h1],h2⟩
 | .agg cs, .agg ds,R,r,v,h=>by
  obtain ⟨h1,h2⟩:=aN cs ds r v h
  exact ⟨by show AV.agg _=AV.agg _;rw [h1],h2⟩
 | .Wh fr τ y, .Wh Rj Lg x,R,r,v,h=>by
  by_cases hc:Lg=τ/\Rj=fr
  ·obtain ⟨h1,h2⟩:=hc
   subst h1;subst h2
   have h3:some ((x,r):Lg.den×R)=some v:=by
    have:fM (.Wh Rj Lg y) (.Wh Rj Lg x) r=some ((x,r):Lg.den×R):=Gh ⟨rfl,rfl⟩
    exact this.symm.trans h
   injection h3 with h3
   subst h3;exact ⟨rfl,rfl⟩
  ·have h3:fM (.Wh fr τ y) (.Wh Rj Lg x) r=none:=dif_neg hc
   rw [h3] at h;cases h
 | .at _, .agg _,_,_,_,h=>nomatch (show none=some _ from h)
 | .at _, .Wh _ _ _,_,_,_,h=>nomatch (show none=some _ from h)
 | .agg _, .at _,_,_,_,h=>nomatch (show none=some _ from h)
 | .agg _, .Wh _ _ _,_,_,_,h=>nomatch (show none=some _ from h)
 | .Wh _ _ _, .at _,_,_,_,h=>nomatch (show none=some _ from h)
 | .Wh _ _ _, .agg _,_,_,_,h=>nomatch (show none=some _ from h)
 | .Jy _, .at _,_,_,_,h=>nomatch (show none=some _ from h)
 | .Jy _, .agg _,_,_,_,h=>nomatch (show none=some _ from h)
 | .Jy _, .Wh _ _ _,_,_,_,h=>nomatch (show none=some _ from h)
 | .Jy _, .Jy _,_,_,_,h=>nomatch (show none=some _ from h)
 | .at _, .Jy _,_,_,_,h=>nomatch (show none=some _ from h)
 | .agg _, .Jy _,_,_,_,h=>nomatch (show none=some _ from h)
 | .Wh _ _ _, .Jy _,_,_,_,h=>nomatch (show none=some _ from h)
theorem u4: ∀(c d:OB) {R:Type} (r:R) (v:RI c R),Pc c d r=some v->(mH c v).1.map Oz=d.map Oz/\(mH c v).2=r
 | .arr fr tr e tid ys, .arr Rj EG e' Qj xs,R,r,v,h=>by
  by_cases hc:e'=e/\Rj=fr/\EG=tr/\Qj=tid
  ·obtain ⟨h1,h2,h3,h4⟩:=hc
   subst h1;subst h2;subst h3;subst h4
   have h3:some ((xs,r):List e'.den×R)=some v:=by
    have:Pc (.arr Rj EG e' Qj ys) (.arr Rj EG e' Qj xs) r=some ((xs,r):List e'.den×R):=Gh ⟨rfl,rfl,rfl,rfl⟩
    exact this.symm.trans h
   injection h3 with h3
   subst h3;exact ⟨rfl,rfl⟩
  ·have h3:Pc (.arr fr tr e tid ys) (.arr Rj EG e' Qj xs) r=none:=dif_neg hc
   rw [h3] at h;cases h
 | .Ev e tid ys, .Ev e' Qj xs,R,r,v,h=>by
  by_cases hc:e'=e/\Qj=tid
  ·obtain ⟨h1,h4⟩:=hc
   subst h1;subst h4
   have h3:some ((xs,r):List e'.den×R)=some v:=by
    have:Pc (.Ev e' Qj ys) (.Ev e' Qj xs) r=some ((xs,r):List e'.den×R):=Gh ⟨rfl,rfl⟩
    exact this.symm.trans h
   injection h3 with h3
   subst h3;exact ⟨rfl,rfl⟩
  ·have h3:Pc (.Ev e tid ys) (.Ev e' Qj xs) r=none:=dif_neg hc
   rw [h3] at h;cases h
 | .Qy vt m, .Qy OA m',R,r,v,h=>by
  by_cases hc:OA=vt
  ·subst hc
   have h3:some ((m',r):(ByteArray->Option OA.den)×R)=some v:=by
    have:Pc (.Qy OA m) (.Qy OA m') r=some ((m',r):(ByteArray->Option OA.den)×R):=Gh rfl
    exact this.symm.trans h
   injection h3 with h3
   subst h3;exact ⟨rfl,rfl⟩
  ·have h3:Pc (.Qy vt m) (.Qy OA m') r=none:=dif_neg hc
   rw [h3] at h;cases h
 | .var t vs, .var t' us,R,r,v,h=>by
  by_cases hc:t'=t
  ·subst hc
   have h0:Pc (.var t' vs) (.var t' us) r=Og vs us r:=Af rfl
   rw [h0] at h
   obtain ⟨h1,h2⟩:=aN vs us r v h
   exact ⟨by show OB.var _ _=OB.var _ _;rw [h1],h2⟩
  ·have h3:Pc (.var t vs) (.var t' us) r=none:=Aj hc
   rw [h3] at h;cases h
 | .Bc e te ys out none, .Bc e' Nr xs cy none,R,r,v,h=>by
  by_cases hc:e'=e/\Nr=te/\cy=out
  ·obtain ⟨h1,h2,h4⟩:=hc
   subst h1;subst h2;subst h4
   have h3:some ((xs,r):List (List e'.den)×R)=some v:=by
    have:Pc (.Bc e' Nr ys cy none) (.Bc e' Nr xs cy none) r=some ((xs,r):List (List e'.den)×R):=Gh ⟨rfl,rfl,rfl⟩
    exact this.symm.trans h
   injection h3 with h3
   subst h3;exact ⟨rfl,rfl⟩
  ·have h3:Pc (.Bc e te ys out none) (.Bc e' Nr xs cy none) r=none:=dif_neg hc
   rw [h3] at h;cases h
 | .Bc e te ys out (some p), .Bc e' Nr xs cy (some p'),R,r,v,h=>by
  by_cases hc:e'=e/\Nr=te/\cy=out/\p'.1=p.1
  ·obtain ⟨h1,h2,h4,h5⟩:=hc
   subst h1;subst h2;subst h4
   have h3:some ((xs,p'.2,r):List (List e'.den)×(Nat×R))=some v:=by
    have:Pc (.Bc e' Nr ys cy (some p)) (.Bc e' Nr xs cy (some p')) r=some ((xs,p'.2,r):List (List e'.den)×(Nat×R)):=Gh ⟨rfl,rfl,rfl,h5⟩
    exact this.symm.trans h
   injection h3 with h3
   subst h3
   refine ⟨?_,rfl⟩
   show OB.Bc e' Nr xs cy (some (p.1,p'.2))=OB.Bc e' Nr xs cy (some p')
   rw [<-h5]
  ·have h3:Pc (.Bc e te ys out (some p)) (.Bc e' Nr xs cy (some p')) r=none:=dif_neg hc
   rw [h3] at h;cases h
 | .Bc _ _ _ _ none, .Bc _ _ _ _ (some _),_,_,_,h=>nomatch (show none=some _ from h)
 | .Bc _ _ _ _ (some _), .Bc _ _ _ _ none,_,_,_,h=>nomatch (show none=some _ from h)
 | .Bc _ _ _ _ none, .arr _ _ _ _ _,_,_,_,h=>nomatch (show none=some _ from h)
 | .Bc _ _ _ _ none, .Ev _ _ _,_,_,_,h=>nomatch (show none=some _ from h)
 | .Bc _ _ _ _ none, .var _ _,_,_,_,h=>nomatch (show none=some _ from h)
 | .Bc _ _ _ _ none, .Qy _ _,_,_,_,h=>nomatch (show none=some _ from h)
 | .Bc _ _ _ _ (some _), .arr _ _ _ _ _,_,_,_,h=>nomatch (show none=some _ from h)
 | .Bc _ _ _ _ (some _), .Ev _ _ _,_,_,_,h=>nomatch (show none=some _ from h)
 | .Bc _ _ _ _ (some _), .var _ _,_,_,_,h=>nomatch (show none=some _ from h)
 | .Bc _ _ _ _ (some _), .Qy _ _,_,_,_,h=>nomatch (show none=some _ from h)
 | .arr _ _ _ _ _, .Bc _ _ _ _ _,_,_,_,h=>nomatch (show none=some _ from h)
 | .Ev _ _ _, .Bc _ _ _ _ _,_,_,_,h=>nomatch (show none=some _ from h)
 | .var _ _, .Bc _ _ _ _ _,_,_,_,h=>nomatch (show none=some _ from h)
 | .Qy _ _, .Bc _ _ _ _ _,_,_,_,h=>nomatch (show none=some _ from h)
 | .arr _ _ _ _ _, .var _ _,_,_,_,h=>nomatch (show none=some _ from h)
 | .arr _ _ _ _ _, .Ev _ _ _,_,_,_,h=>nomatch (show none=some _ from h)
 | .arr _ _ _ _ _, .Qy _ _,_,_,_,h=>nomatch (show none=some _ from h)
 | .Ev _ _ _, .var _ _,_,_,_,h=>nomatch (show none=some _ from h)
 | .Ev _ _ _, .arr _ _ _ _ _,_,_,_,h=>nomatch (show none=some _ from h)
 | .Ev _ _ _, .Qy _ _,_,_,_,h=>nomatch (show none=some _ from h)
 | .Qy _ _, .var _ _,_,_,_,h=>nomatch (show none=some _ from h)
 | .Qy _ _, .arr _ _ _ _ _,_,_,_,h=>nomatch (show none=some _ from h)
 | .Qy _ _, .Ev _ _ _,_,_,_,h=>nomatch (show none=some _ from h)
 | .var _ _, .arr _ _ _ _ _,_,_,_,h=>nomatch (show none=some _ from h)
 | .var _ _, .Ev _ _ _,_,_,_,h=>nomatch (show none=some _ from h)
 | .var _ _, .Qy _ _,_,_,_,h=>nomatch (show none=some _ from h)
theorem fv: ∀(l m:List AV) {R:Type} (r:R) (v:kD l R),Ly l m r=some v->(Rx l v).1.map (·.map Oz)=m.map (·.map Oz)/\(Rx l v).2=r
 | [],[],R,r,v,h=>by simp only [Ly] at h;injection h with h;subst h;exact ⟨rfl,rfl⟩
 | [],_::_,R,r,v,h=>by simp [Ly] at h
 |_::_,[],R,r,v,h=>by simp [Ly] at h
 |c::l,d::m,R,r,v,h=>by
  simp only [Ly] at h
  cases hr:Ly l m r with
  |none=>rw [hr] at h;cases h
  |some r'=>
   rw [hr] at h
   obtain ⟨h1,h2⟩:=sE c d r' v h
   obtain ⟨h3,h4⟩:=fv l m r r' hr
   simp only [Rx,Bl]
   rw [h1,h2,h3]
   exact ⟨rfl,h4⟩
theorem eX: ∀(l m:List (Nat×OB)) {R:Type} (r:R) (v:oZ l R),Mt l m r=some v->(ak l v).1.map (λp=>(p.1,p.2.map Oz))=m.map (λp=>(p.1,p.2.map Oz))/\(ak l v).2=r
 | [],[],R,r,v,h=>by simp only [Mt] at h;injection h with h;subst h;exact ⟨rfl,rfl⟩
 | [],_::_,R,r,v,h=>by simp [Mt] at h
 |_::_,[],R,r,v,h=>by simp [Mt] at h
 |c::l,d::m,R,r,v,h=>by
  simp only [Mt] at h
  split at h
  ·rename_i hk
   cases hr:Mt l m r with
   |none=>rw [hr] at h;cases h
   |some r'=>
    rw [hr] at h
    obtain ⟨h1,h2⟩:=u4 c.2 d.2 r' v h
    obtain ⟨h3,h4⟩:=eX l m r r' hr
    simp only [ak,Bl]
    rw [h1,h2,h3,hk]
    exact ⟨rfl,h4⟩
  ·cases h
theorem dT {s t:St} {v:RT s} (h:dS s t=some v):(dQ s v).Ih Oz=t.Ih Oz:=by
 unfold dS at h
 cases hr:Mt s.heap t.heap () with
 |none=>rw [hr] at h;cases h
 |some r=>
  rw [hr] at h
  obtain ⟨h1,h2⟩:=fv s.tmps t.tmps r v h
  obtain ⟨h3,_⟩:=eX s.heap t.heap () r hr
  simp only [dQ,St.Ih]
  rw [h1,h2,h3]
theorem jI: ∀(c:AC) {R:Type} (r:R),iU c c r=some (xi c r):=by
 intro c R r
 cases c<;>simp [iU,xi]
theorem aO: ∀(l:List AC) {R:Type} (r:R),Og l l r=some (lB l r)
 | [],_,_=>rfl
 |c::l,_,r=>by simp only [Og,aO l r,lB];exact jI c _
def AV.fh:AV->Bool
 | .Jy _=>false
 |_=>true
theorem sF: ∀(c:AV),c.fh=true-> ∀ {R:Type} (r:R),fM c c r=some (HR c r):=by
 intro c hn R r
 cases c with
 |Jy l=>cases hn
 | «at»a=>exact jI a r
 |agg cs=>exact aO cs r
 |Wh fr τ x=>exact Gh ⟨rfl,rfl⟩
theorem u5: ∀(c:OB) {R:Type} (r:R),Pc c c r=some (JM c r):=by
 intro c R r
 cases c with
 |arr fr tr e t xs=>exact Gh ⟨rfl,rfl,rfl,rfl⟩
 |Ev e t xs=>exact Gh ⟨rfl,rfl⟩
 |Qy v m=>exact Gh rfl
 |Bc e te rows out kp=>
  cases kp with
  |none=>exact Gh ⟨rfl,rfl,rfl⟩
  |some p=>exact Gh ⟨rfl,rfl,rfl,rfl⟩
 |var t vs=>
  have h0:Pc (.var t vs) (.var t vs) r=Og vs vs r:=Af rfl
  exact h0.trans (aO vs r)
theorem fw: ∀(l:List AV),(∀c∈l,c.fh=true)-> ∀ {R:Type} (r:R),Ly l l r=some (lk l r)
 | [],_,_,_=>rfl
 |c::l,h,_,r=>by simp only [Ly,fw l (λc hc=>h c (Aq _ hc)) r,lk];exact sF c (h c (by simp)) _
theorem eY: ∀(l:List (Nat×OB)) {R:Type} (r:R),Mt l l r=some (ld l r)
 | [],_,_=>rfl
 |c::l,_,r=>by simp only [Mt,Nh,eY l r,ld];exact u5 c.2 _
theorem kA (s:St) (h: ∀c∈s.tmps,c.fh=true):dS s s=some (xX s):=by
 simp only [dS,eY,xX]
 exact fw _ h _
theorem Bh {α:Type} {o:Option α} {K:α->Prop} :Fk o K↔ ∃x,o=some x/\K x:=by
 unfold Fk
 cases o with
 |none=>simp
 |some x=>simp
theorem gB: ∀(l m:List AC),l.map Oz=m.map Oz->l.flatMap Wm=m.flatMap Wm->l=m
 | [],[],_,_=>rfl
 | [],_::_,h,_=>by simp at h
 |_::_,[],h,_=>by simp at h
 |c::l,d::m,h,ho=>by
  simp only [Bl,Es] at h
  simp only [Xs] at ho
  have ZE:c=d/\l.flatMap Wm=m.flatMap Wm:=by
   cases c<;>cases d<;>first|(cases h.1;done)|skip
   all_goals first
    |(obtain ⟨h1,_⟩:=h
      simp only [Oz,AC.own.injEq] at h1
      simp only [Wm,Ov,List.nil_append,Es,Ab] at ho
      exact ⟨by rw [h1.1,ho.1.1,ho.1.2],ho.2⟩)
    |exact ⟨h.1,by simpa only [Wm,List.nil_append] using ho⟩
  rw [ZE.1,gB l m h.2 ZE.2]
theorem iy: ∀(l m:List AC),l.map Oz=m.map Oz->(l.flatMap Wm).length=(m.flatMap Wm).length
 | [],[],_=>rfl
 | [],_::_,h=>by simp at h
 |_::_,[],h=>by simp at h
 |c::l,d::m,h=>by
  simp only [Bl,Es] at h
  simp only [Xs,Cf,iy l m h.2]
  congr 1
  cases c<;>cases d<;>first|rfl|(cases h.1;done)
theorem FN {c d:AV} (h:c.map Oz=d.map Oz):(Wo c).length=(Wo d).length/\(Wo c=Wo d->(∀l,c≠ .Jy l)->c=d):=by
 cases c with
 | «at»a=>
  cases d<;>simp only [AV.map,AV.at.injEq,reduceCtorEq] at h
  rename_i b
  have h1: [a].map Oz= [b].map Oz:=by simp [h]
  refine ⟨by simpa [Wo] using iy [a] [b] h1,λho _=>?_⟩
  have:=gB [a] [b] h1 (by simpa [Wo] using ho)
  simpa using this
 |agg cs=>
  cases d<;>simp only [AV.map,AV.agg.injEq,reduceCtorEq] at h
  rename_i ds
  exact ⟨iy cs ds h,λho _=>by rw [gB cs ds h ho]⟩
 |Wh fr τ x=>
  cases d<;>simp only [AV.map,reduceCtorEq] at h
  exact ⟨rfl,λ_ _=>h⟩
 |Jy l=>
  cases d<;>simp only [AV.map,reduceCtorEq] at h
  exact ⟨rfl,λ_ hn=>absurd rfl (hn l)⟩
theorem sH: ∀(l m:List AV),l.map (·.map Oz)=m.map (·.map Oz)->(∀c∈l,c.fh=true)->(l.flatMap Wo).length=(m.flatMap Wo).length/\(l.flatMap Wo=m.flatMap Wo->l=m)
 | [],[],_,_=>⟨rfl,λ_=>rfl⟩
 | [],_::_,h,_=>by simp at h
 |_::_,[],h,_=>by simp at h
 |c::l,d::m,h,hn=>by
  simp only [Bl,Es] at h
  obtain ⟨h1,h2⟩:=FN h.1
  obtain ⟨h3,h4⟩:=sH l m h.2 λc hc=>hn c (Aq _ hc)
  refine ⟨by simp only [Xs,Cf,h1,h3],λho=>?_⟩
  simp only [Xs] at ho
  obtain ⟨g1,g2⟩:=List.append_inj ho h1
  have hnt: ∀l',c≠ .Jy l':= λl' e=>by
   have:=hn c (by simp)
   rw [e] at this
   cases this
  rw [h2 g1 hnt,h4 g2]
theorem GW {c d:OB} (h:c.map Oz=d.map Oz):(gl c).length=(gl d).length/\(gl c=gl d->c=d):=by
 cases c with
 |var t vs=>
  cases d<;>simp only [OB.map,OB.var.injEq,reduceCtorEq] at h
  rename_i t' us
  obtain ⟨rfl,h⟩:=h
  exact ⟨iy vs us h,λho=>by rw [gB vs us h ho]⟩
 |_=>cases d<;>simp only [OB.map,reduceCtorEq] at h<;>exact ⟨rfl,λ_=>h⟩
theorem p6: ∀(l m:List (Nat×OB)),l.map (λp=>(p.1,p.2.map Oz))=m.map (λp=>(p.1,p.2.map Oz))->(l.flatMap λp=>gl p.2)=(m.flatMap λp=>gl p.2)->l=m
 | [],[],_,_=>rfl
 | [],_::_,h,_=>by simp at h
 |_::_,[],h,_=>by simp at h
 |(k,c)::l,(k',d)::m,h,ho=>by
  simp only [Bl,Es,Ab] at h
  simp only [Xs] at ho
  obtain ⟨h1,h2⟩:=GW h.1.2
  obtain ⟨g1,g2⟩:=List.append_inj ho h1
  rw [h.1.1,h2 g1,p6 l m h.2 g2]
theorem sG (l:List (Bool×List AC)) (e:AV) {R:Type} (r:R):fM (.Jy l) e r=none:=by cases e<;>rfl
theorem qb {d e:AV} {R:Type} {r:R} {v:NC d R} (h:fM d e r=some v):d.fh=true:=by
 cases d with
 |Jy l=>rw [sG] at h;cases h
 |_=>rfl
theorem dV: ∀(l m:List AV) {R:Type} (r:R) (v:kD l R),Ly l m r=some v-> ∀c∈l,c.fh=true
 | [],_,_,_,_,_,c,hc=>by cases hc
 |d::l,[],_,r,v,h,c,hc=>by cases h
 |d::l,e::m,R,r,v,h,c,hc=>by
  simp only [Ly] at h
  cases hr:Ly l m r with
  |none=>rw [hr] at h;cases h
  |some r'=>
   rw [hr] at h
   rcases Ay.1 hc with hc|hc
   ·rw [hc];exact qb h
   ·exact dV l m r r' hr c hc
theorem Zz {s0 s:St} (h:ND s0 s):s=s0:=by
 obtain ⟨ho,h⟩:=h
 obtain ⟨v,h1,h2⟩:=Bh.1 h
 subst h2
 have hn: ∀c∈s0.tmps,c.fh=true:=by
  unfold dS at h1
  cases hr:Mt s0.heap s.heap () with
  |none=>rw [hr] at h1;cases h1
  |some r=>rw [hr] at h1;exact dV _ _ _ _ h1
 have e:=(dT h1).symm.trans (dT (kA s0 hn))
 simp only [St.Ih,St.mk.injEq] at e
 obtain ⟨e1,e2⟩:=e
 obtain ⟨l1,l2⟩:=sH s0.tmps s.tmps e1.symm hn
 unfold wS at ho
 obtain ⟨g1,g2⟩:=List.append_inj ho l1.symm
 have k1:=l2 g1.symm
 have k2:=p6 s.heap s0.heap e2 g2
 cases s;cases s0
 simp only at k1 k2
 rw [k1,k2]
end Go.Proofs.Ytfgfigkbgecfnaa
