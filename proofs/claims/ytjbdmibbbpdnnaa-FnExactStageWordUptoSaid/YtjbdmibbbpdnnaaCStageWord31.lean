/-
  Part 32 of the proof that the statement FnExactStageWord holds.
-/
import Derived.Test.YtjbdmibbbpdnnaaCStageWord30
namespace Go.Proofs.Ytjbdmibbbpdnnaa
open Go.RowKit
def Mg:AC->AC
 | .own l _ _=> .own l 0 0
 |c=>c
theorem jM: ∀(c d:AC) {R:Type} (r:R) (v:WD c R),iF c d r=some v->Mg (eQ c v).1=Mg d/\(eQ c v).2=r:=by
 intro c d R r v h
 cases c<;>cases d<;>simp only [iF] at h<;>first|(cases h;first|done|exact ⟨rfl,rfl⟩)|skip
 all_goals
  split at h
  ·rename_i hc
   first
    |(obtain ⟨h1,h2⟩:=hc;subst h1;subst h2;injection h with h;subst h;exact ⟨rfl,rfl⟩)
    |(subst hc;injection h with h;subst h;exact ⟨rfl,rfl⟩)
  ·cases h
theorem Zd: ∀(l m:List AC) {R:Type} (r:R) (v:xm l R),Ln l m r=some v->(Sz l v).1.map Mg=m.map Mg/\(Sz l v).2=r
 | [],[],R,r,v,h=>by simp only [Ln] at h;injection h with h;subst h;exact ⟨rfl,rfl⟩
 | [],_::_,R,r,v,h=>by simp [Ln] at h
 |_::_,[],R,r,v,h=>by simp [Ln] at h
 |c::l,d::m,R,r,v,h=>by
  simp only [Ln] at h
  cases hr:Ln l m r with
  |none=>rw [hr] at h;cases h
  |some r'=>
   rw [hr] at h
   obtain ⟨h1,h2⟩:=jM c d r' v h
   obtain ⟨h3,h4⟩:=Zd l m r r' hr
   simp only [Sz,List.map_cons]
   rw [h1,h2,h3]
   exact ⟨rfl,h4⟩
theorem ub: ∀(c d:AV) {R:Type} (r:R) (v:WE c R),eU c d r=some v->(lT c v).1.map Mg=d.map Mg/\(lT c v).2=r
 | .at a, .at b,R,r,v,h=>by
  obtain ⟨h1,h2⟩:=jM a b r v h
  exact ⟨by show AV.at _=AV.at _;rw [h1],h2⟩
 | .agg cs, .agg ds,R,r,v,h=>by
  obtain ⟨h1,h2⟩:=Zd cs ds r v h
  exact ⟨by show AV.agg _=AV.agg _;rw [h1],h2⟩
 | .Uc fr τ y, .Uc On Iv x,R,r,v,h=>by
  by_cases hc:Iv=τ/\On=fr
  ·obtain ⟨h1,h2⟩:=hc
   subst h1;subst h2
   have h3:some ((x,r):Iv.den×R)=some v:=by
    have:eU (.Uc On Iv y) (.Uc On Iv x) r=some ((x,r):Iv.den×R):=dif_pos ⟨rfl,rfl⟩
    exact this.symm.trans h
   injection h3 with h3
   subst h3;exact ⟨rfl,rfl⟩
  ·have h3:eU (.Uc fr τ y) (.Uc On Iv x) r=none:=dif_neg hc
   rw [h3] at h;cases h
 | .at _, .agg _,_,_,_,h=>nomatch (show none=some _ from h)
 | .at _, .Uc _ _ _,_,_,_,h=>nomatch (show none=some _ from h)
 | .agg _, .at _,_,_,_,h=>nomatch (show none=some _ from h)
 | .agg _, .Uc _ _ _,_,_,_,h=>nomatch (show none=some _ from h)
 | .Uc _ _ _, .at _,_,_,_,h=>nomatch (show none=some _ from h)
 | .Uc _ _ _, .agg _,_,_,_,h=>nomatch (show none=some _ from h)
 | .It _, .at _,_,_,_,h=>nomatch (show none=some _ from h)
 | .It _, .agg _,_,_,_,h=>nomatch (show none=some _ from h)
 | .It _, .Uc _ _ _,_,_,_,h=>nomatch (show none=some _ from h)
 | .It _, .It _,_,_,_,h=>nomatch (show none=some _ from h)
 | .at _, .It _,_,_,_,h=>nomatch (show none=some _ from h)
 | .agg _, .It _,_,_,_,h=>nomatch (show none=some _ from h)
 | .Uc _ _ _, .It _,_,_,_,h=>nomatch (show none=some _ from h)
theorem vU: ∀(c d:OB) {R:Type} (r:R) (v:obV c R),Mj c d r=some v->(mS c v).1.map Mg=d.map Mg/\(mS c v).2=r
 | .arr fr tr e tid ys, .arr On KZ e' No xs,R,r,v,h=>by
  by_cases hc:e'=e/\On=fr/\KZ=tr/\No=tid
  ·obtain ⟨h1,h2,h3,h4⟩:=hc
   subst h1;subst h2;subst h3;subst h4
   have h3:some ((xs,r):List e'.den×R)=some v:=by
    have:Mj (.arr On KZ e' No ys) (.arr On KZ e' No xs) r=some ((xs,r):List e'.den×R):=dif_pos ⟨rfl,rfl,rfl,rfl⟩
    exact this.symm.trans h
   injection h3 with h3
   subst h3;exact ⟨rfl,rfl⟩
  ·have h3:Mj (.arr fr tr e tid ys) (.arr On KZ e' No xs) r=none:=dif_neg hc
   rw [h3] at h;cases h
 | .Df e tid ys, .Df e' No xs,R,r,v,h=>by
  by_cases hc:e'=e/\No=tid
  ·obtain ⟨h1,h4⟩:=hc
   subst h1;subst h4
   have h3:some ((xs,r):List e'.den×R)=some v:=by
    have:Mj (.Df e' No ys) (.Df e' No xs) r=some ((xs,r):List e'.den×R):=dif_pos ⟨rfl,rfl⟩
    exact this.symm.trans h
   injection h3 with h3
   subst h3;exact ⟨rfl,rfl⟩
  ·have h3:Mj (.Df e tid ys) (.Df e' No xs) r=none:=dif_neg hc
   rw [h3] at h;cases h
 | .Oh vt m, .Oh XH m',R,r,v,h=>by
  by_cases hc:XH=vt
  ·subst hc
   have h3:some ((m',r):(ByteArray->Option XH.den)×R)=some v:=by
    have:Mj (.Oh XH m) (.Oh XH m') r=some ((m',r):(ByteArray->Option XH.den)×R):=dif_pos rfl
    exact this.symm.trans h
   injection h3 with h3
   subst h3;exact ⟨rfl,rfl⟩
  ·have h3:Mj (.Oh vt m) (.Oh XH m') r=none:=dif_neg hc
   rw [h3] at h;cases h
 | .var t vs, .var t' us,R,r,v,h=>by
  by_cases hc:t'=t
  ·subst hc
   have h0:Mj (.var t' vs) (.var t' us) r=Ln vs us r:=if_pos rfl
   rw [h0] at h
   obtain ⟨h1,h2⟩:=Zd vs us r v h
   exact ⟨by show OB.var _ _=OB.var _ _;rw [h1],h2⟩
  ·have h3:Mj (.var t vs) (.var t' us) r=none:=if_neg hc
   rw [h3] at h;cases h
 | .Ak e te ys out none, .Ak e' Kz xs bn none,R,r,v,h=>by
  by_cases hc:e'=e/\Kz=te/\bn=out
  ·obtain ⟨h1,h2,h4⟩:=hc
   subst h1;subst h2;subst h4
   have h3:some ((xs,r):List (List e'.den)×R)=some v:=by
    have:Mj (.Ak e' Kz ys bn none) (.Ak e' Kz xs bn none) r=some ((xs,r):List (List e'.den)×R):=dif_pos ⟨rfl,rfl,rfl⟩
    exact this.symm.trans h
   injection h3 with h3
   subst h3;exact ⟨rfl,rfl⟩
  ·have h3:Mj (.Ak e te ys out none) (.Ak e' Kz xs bn none) r=none:=dif_neg hc
   rw [h3] at h;cases h
 | .Ak e te ys out (some p), .Ak e' Kz xs bn (some p'),R,r,v,h=>by
  by_cases hc:e'=e/\Kz=te/\bn=out/\p'.1=p.1
  ·obtain ⟨h1,h2,h4,h5⟩:=hc
   subst h1;subst h2;subst h4
   have h3:some ((xs,p'.2,r):List (List e'.den)×(Nat×R))=some v:=by
    have:Mj (.Ak e' Kz ys bn (some p)) (.Ak e' Kz xs bn (some p')) r=some ((xs,p'.2,r):List (List e'.den)×(Nat×R)):=dif_pos ⟨rfl,rfl,rfl,h5⟩
    exact this.symm.trans h
   injection h3 with h3
   subst h3
   refine ⟨?_,rfl⟩
   show OB.Ak e' Kz xs bn (some (p.1,p'.2))=OB.Ak e' Kz xs bn (some p')
   rw [<-h5]
  ·have h3:Mj (.Ak e te ys out (some p)) (.Ak e' Kz xs bn (some p')) r=none:=dif_neg hc
   rw [h3] at h;cases h
 | .Ak _ _ _ _ none, .Ak _ _ _ _ (some _),_,_,_,h=>nomatch (show none=some _ from h)
 | .Ak _ _ _ _ (some _), .Ak _ _ _ _ none,_,_,_,h=>nomatch (show none=some _ from h)
 | .Ak _ _ _ _ none, .arr _ _ _ _ _,_,_,_,h=>nomatch (show none=some _ from h)
 | .Ak _ _ _ _ none, .Df _ _ _,_,_,_,h=>nomatch (show none=some _ from h)
 | .Ak _ _ _ _ none, .var _ _,_,_,_,h=>nomatch (show none=some _ from h)
 | .Ak _ _ _ _ none, .Oh _ _,_,_,_,h=>nomatch (show none=some _ from h)
 | .Ak _ _ _ _ (some _), .arr _ _ _ _ _,_,_,_,h=>nomatch (show none=some _ from h)
 | .Ak _ _ _ _ (some _), .Df _ _ _,_,_,_,h=>nomatch (show none=some _ from h)
 | .Ak _ _ _ _ (some _), .var _ _,_,_,_,h=>nomatch (show none=some _ from h)
 | .Ak _ _ _ _ (some _), .Oh _ _,_,_,_,h=>nomatch (show none=some _ from h)
 | .arr _ _ _ _ _, .Ak _ _ _ _ _,_,_,_,h=>nomatch (show none=some _ from h)
 | .Df _ _ _, .Ak _ _ _ _ _,_,_,_,h=>nomatch (show none=some _ from h)
 | .var _ _, .Ak _ _ _ _ _,_,_,_,h=>nomatch (show none=some _ from h)
 | .Oh _ _, .Ak _ _ _ _ _,_,_,_,h=>nomatch (show none=some _ from h)
 | .arr _ _ _ _ _, .var _ _,_,_,_,h=>nomatch (show none=some _ from h)
 | .arr _ _ _ _ _, .Df _ _ _,_,_,_,h=>nomatch (show none=some _ from h)
 | .arr _ _ _ _ _, .Oh _ _,_,_,_,h=>nomatch (show none=some _ from h)
 | .Df _ _ _, .var _ _,_,_,_,h=>nomatch (show none=some _ from h)
 | .Df _ _ _, .arr _ _ _ _ _,_,_,_,h=>nomatch (show none=some _ from h)
 | .Df _ _ _, .Oh _ _,_,_,_,h=>nomatch (show none=some _ from h)
 | .Oh _ _, .var _ _,_,_,_,h=>nomatch (show none=some _ from h)
 | .Oh _ _, .arr _ _ _ _ _,_,_,_,h=>nomatch (show none=some _ from h)
 | .Oh _ _, .Df _ _ _,_,_,_,h=>nomatch (show none=some _ from h)
 | .var _ _, .arr _ _ _ _ _,_,_,_,h=>nomatch (show none=some _ from h)
 | .var _ _, .Df _ _ _,_,_,_,h=>nomatch (show none=some _ from h)
 | .var _ _, .Oh _ _,_,_,_,h=>nomatch (show none=some _ from h)
theorem eD: ∀(l m:List AV) {R:Type} (r:R) (v:kJ l R),Jl l m r=some v->(Pl l v).1.map (·.map Mg)=m.map (·.map Mg)/\(Pl l v).2=r
 | [],[],R,r,v,h=>by simp only [Jl] at h;injection h with h;subst h;exact ⟨rfl,rfl⟩
 | [],_::_,R,r,v,h=>by simp [Jl] at h
 |_::_,[],R,r,v,h=>by simp [Jl] at h
 |c::l,d::m,R,r,v,h=>by
  simp only [Jl] at h
  cases hr:Jl l m r with
  |none=>rw [hr] at h;cases h
  |some r'=>
   rw [hr] at h
   obtain ⟨h1,h2⟩:=ub c d r' v h
   obtain ⟨h3,h4⟩:=eD l m r r' hr
   simp only [Pl,List.map_cons]
   rw [h1,h2,h3]
   exact ⟨rfl,h4⟩
theorem dY: ∀(l m:List (Nat×OB)) {R:Type} (r:R) (v:pO l R),Kd l m r=some v->(Yb l v).1.map (λp=>(p.1,p.2.map Mg))=m.map (λp=>(p.1,p.2.map Mg))/\(Yb l v).2=r
 | [],[],R,r,v,h=>by simp only [Kd] at h;injection h with h;subst h;exact ⟨rfl,rfl⟩
 | [],_::_,R,r,v,h=>by simp [Kd] at h
 |_::_,[],R,r,v,h=>by simp [Kd] at h
 |c::l,d::m,R,r,v,h=>by
  simp only [Kd] at h
  split at h
  ·rename_i hk
   cases hr:Kd l m r with
   |none=>rw [hr] at h;cases h
   |some r'=>
    rw [hr] at h
    obtain ⟨h1,h2⟩:=vU c.2 d.2 r' v h
    obtain ⟨h3,h4⟩:=dY l m r r' hr
    simp only [Yb,List.map_cons]
    rw [h1,h2,h3,hk]
    exact ⟨rfl,h4⟩
  ·cases h
theorem cQ {s t:St} {v:stV s} (h:cP s t=some v):(cO s v).Ge Mg=t.Ge Mg:=by
 unfold cP at h
 cases hr:Kd s.heap t.heap () with
 |none=>rw [hr] at h;cases h
 |some r=>
  rw [hr] at h
  obtain ⟨h1,h2⟩:=eD s.tmps t.tmps r v h
  obtain ⟨h3,_⟩:=dY s.heap t.heap () r hr
  simp only [cO,St.Ge]
  rw [h1,h2,h3]
theorem jN: ∀(c:AC) {R:Type} (r:R),iF c c r=some (zB c r):=by
 intro c R r
 cases c<;>simp [iF,zB]
theorem Ze: ∀(l:List AC) {R:Type} (r:R),Ln l l r=some (lL l r)
 | [],_,_=>rfl
 |c::l,_,r=>by simp only [Ln,Ze l r,lL];exact jN c _
def AV.ej:AV->Bool
 | .It _=>false
 |_=>true
theorem uc: ∀(c:AV),c.ej=true-> ∀ {R:Type} (r:R),eU c c r=some (QA c r):=by
 intro c hn R r
 cases c with
 |It l=>cases hn
 | «at»a=>exact jN a r
 |agg cs=>exact Ze cs r
 |Uc fr τ x=>exact dif_pos ⟨rfl,rfl⟩
theorem vV: ∀(c:OB) {R:Type} (r:R),Mj c c r=some (RW c r):=by
 intro c R r
 cases c with
 |arr fr tr e t xs=>exact dif_pos ⟨rfl,rfl,rfl,rfl⟩
 |Df e t xs=>exact dif_pos ⟨rfl,rfl⟩
 |Oh v m=>exact dif_pos rfl
 |Ak e te rows out kp=>
  cases kp with
  |none=>exact dif_pos ⟨rfl,rfl,rfl⟩
  |some p=>exact dif_pos ⟨rfl,rfl,rfl,rfl⟩
 |var t vs=>
  have h0:Mj (.var t vs) (.var t vs) r=Ln vs vs r:=if_pos rfl
  exact h0.trans (Ze vs r)
theorem eE: ∀(l:List AV),(∀c∈l,c.ej=true)-> ∀ {R:Type} (r:R),Jl l l r=some (lC l r)
 | [],_,_,_=>rfl
 |c::l,h,_,r=>by simp only [Jl,eE l (λc hc=>h c (List.mem_cons_of_mem _ hc)) r,lC];exact uc c (h c (by simp)) _
theorem dZ: ∀(l:List (Nat×OB)) {R:Type} (r:R),Kd l l r=some (lr l r)
 | [],_,_=>rfl
 |c::l,_,r=>by simp only [Kd,if_true,dZ l r,lr];exact vV c.2 _
theorem kG (s:St) (h: ∀c∈s.tmps,c.ej=true):cP s s=some (AW s):=by
 simp only [cP,dZ,AW]
 exact eE _ h _
theorem Aq {α:Type} {o:Option α} {K:α->Prop} :Dy o K↔ ∃x,o=some x/\K x:=by
 unfold Dy
 cases o with
 |none=>simp
 |some x=>simp
theorem fS: ∀(l m:List AC),l.map Mg=m.map Mg->l.flatMap Uf=m.flatMap Uf->l=m
 | [],[],_,_=>rfl
 | [],_::_,h,_=>by simp at h
 |_::_,[],h,_=>by simp at h
 |c::l,d::m,h,ho=>by
  simp only [List.map_cons,List.cons.injEq] at h
  simp only [List.flatMap_cons] at ho
  have hcd:c=d/\l.flatMap Uf=m.flatMap Uf:=by
   cases c<;>cases d<;>first|(cases h.1;done)|skip
   all_goals first
    |(obtain ⟨h1,_⟩:=h
      simp only [Mg,AC.own.injEq] at h1
      simp only [Uf,List.cons_append,List.nil_append,List.cons.injEq,Prod.mk.injEq] at ho
      exact ⟨by rw [h1.1,ho.1.1,ho.1.2],ho.2⟩)
    |exact ⟨h.1,by simpa only [Uf,List.nil_append] using ho⟩
  rw [hcd.1,fS l m h.2 hcd.2]
theorem gT: ∀(l m:List AC),l.map Mg=m.map Mg->(l.flatMap Uf).length=(m.flatMap Uf).length
 | [],[],_=>rfl
 | [],_::_,h=>by simp at h
 |_::_,[],h=>by simp at h
 |c::l,d::m,h=>by
  simp only [List.map_cons,List.cons.injEq] at h
  simp only [List.flatMap_cons,List.length_append,gT l m h.2]
  congr 1
  cases c<;>cases d<;>first|rfl|(cases h.1;done)
theorem MJ {c d:AV} (h:c.map Mg=d.map Mg):(Uh c).length=(Uh d).length/\(Uh c=Uh d->(∀l,c≠ .It l)->c=d):=by
 cases c with
 | «at»a=>
  cases d<;>simp only [AV.map,AV.at.injEq,reduceCtorEq] at h
  rename_i b
  have h1: [a].map Mg= [b].map Mg:=by simp [h]
  refine ⟨by simpa [Uh] using gT [a] [b] h1,λho _=>?_⟩
  have:=fS [a] [b] h1 (by simpa [Uh] using ho)
  simpa using this
 |agg cs=>
  cases d<;>simp only [AV.map,AV.agg.injEq,reduceCtorEq] at h
  rename_i ds
  exact ⟨gT cs ds h,λho _=>by rw [fS cs ds h ho]⟩
 |Uc fr τ x=>
  cases d<;>simp only [AV.map,reduceCtorEq] at h
  exact ⟨rfl,λ_ _=>h⟩
 |It l=>
  cases d<;>simp only [AV.map,reduceCtorEq] at h
  exact ⟨rfl,λ_ hn=>absurd rfl (hn l)⟩
theorem ue: ∀(l m:List AV),l.map (·.map Mg)=m.map (·.map Mg)->(∀c∈l,c.ej=true)->(l.flatMap Uh).length=(m.flatMap Uh).length/\(l.flatMap Uh=m.flatMap Uh->l=m)
 | [],[],_,_=>⟨rfl,λ_=>rfl⟩
 | [],_::_,h,_=>by simp at h
 |_::_,[],h,_=>by simp at h
 |c::l,d::m,h,hn=>by
  simp only [List.map_cons,List.cons.injEq] at h
  obtain ⟨h1,h2⟩:=MJ h.1
  obtain ⟨h3,h4⟩:=ue l m h.2 λc hc=>hn c (List.mem_cons_of_mem _ hc)
  refine ⟨by simp only [List.flatMap_cons,List.length_append,h1,h3],λho=>?_⟩
  simp only [List.flatMap_cons] at ho
  obtain ⟨g1,g2⟩:=List.append_inj ho h1
  have hnt: ∀l',c≠ .It l':= λl' e=>by
   have:=hn c (by simp)
   rw [e] at this
   cases this
  rw [h2 g1 hnt,h4 g2]
theorem OF {c d:OB} (h:c.map Mg=d.map Mg):(fz c).length=(fz d).length/\(fz c=fz d->c=d):=by
 cases c with
 |var t vs=>
  cases d<;>simp only [OB.map,OB.var.injEq,reduceCtorEq] at h
  rename_i t' us
  obtain ⟨rfl,h⟩:=h
  exact ⟨gT vs us h,λho=>by rw [fS vs us h ho]⟩
 |_=>cases d<;>simp only [OB.map,reduceCtorEq] at h<;>exact ⟨rfl,λ_=>h⟩
theorem pP: ∀(l m:List (Nat×OB)),l.map (λp=>(p.1,p.2.map Mg))=m.map (λp=>(p.1,p.2.map Mg))->(l.flatMap λp=>fz p.2)=(m.flatMap λp=>fz p.2)->l=m
 | [],[],_,_=>rfl
 | [],_::_,h,_=>by simp at h
 |_::_,[],h,_=>by simp at h
 |(k,c)::l,(k',d)::m,h,ho=>by
  simp only [List.map_cons,List.cons.injEq,Prod.mk.injEq] at h
  simp only [List.flatMap_cons] at ho
  obtain ⟨h1,h2⟩:=OF h.1.2
  obtain ⟨g1,g2⟩:=List.append_inj ho h1
  rw [h.1.1,h2 g1,pP l m h.2 g2]
theorem ud (l:List (Bool×List AC)) (e:AV) {R:Type} (r:R):eU (.It l) e r=none:=by cases e<;>rfl
theorem r8 {d e:AV} {R:Type} {r:R} {v:WE d R} (h:eU d e r=some v):d.ej=true:=by
 cases d with
 |It l=>rw [ud] at h;cases h
 |_=>rfl
theorem cT: ∀(l m:List AV) {R:Type} (r:R) (v:kJ l R),Jl l m r=some v-> ∀c∈l,c.ej=true
 | [],_,_,_,_,_,c,hc=>by cases hc
 |d::l,[],_,r,v,h,c,hc=>by cases h
 |d::l,e::m,R,r,v,h,c,hc=>by
  simp only [Jl] at h
  cases hr:Jl l m r with
  |none=>rw [hr] at h;cases h
  |some r'=>
   rw [hr] at h
   rcases List.mem_cons.1 hc with hc|hc
   ·rw [hc];exact r8 h
   ·exact cT l m r r' hr c hc
theorem pG {s0 s:St} (h:eqW s0 s):s=s0:=by
 obtain ⟨ho,h⟩:=h
 obtain ⟨v,h1,h2⟩:=Aq.1 h
 subst h2
 have hn: ∀c∈s0.tmps,c.ej=true:=by
  unfold cP at h1
  cases hr:Kd s0.heap s.heap () with
  |none=>rw [hr] at h1;cases h1
  |some r=>rw [hr] at h1;exact cT _ _ _ _ h1
 have e:=(cQ h1).symm.trans (cQ (kG s0 hn))
 simp only [St.Ge,St.mk.injEq] at e
 obtain ⟨e1,e2⟩:=e
 obtain ⟨l1,l2⟩:=ue s0.tmps s.tmps e1.symm hn
 unfold ze at ho
 obtain ⟨g1,g2⟩:=List.append_inj ho l1.symm
 have k1:=l2 g1.symm
 have k2:=pP s.heap s0.heap e2 g2
 cases s;cases s0
 simp only at k1 k2
 rw [k1,k2]
end Go.Proofs.Ytjbdmibbbpdnnaa
