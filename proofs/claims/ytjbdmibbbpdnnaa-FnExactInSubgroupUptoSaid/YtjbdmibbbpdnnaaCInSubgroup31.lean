/-
  Part 32 of the proof that the statement FnExactInSubgroup holds.
-/
import Derived.Test.YtjbdmibbbpdnnaaCInSubgroup30
namespace Go.Proofs.Ytjbdmibbbpdnnaa
open Go.RowKit
def Lg:AC->AC
 | .own l _ _=> .own l 0 0
 |c=>c
theorem iv: ∀(c d:AC) {R:Type} (r:R) (v:NX c R),gf c d r=some v->Lg (dA c v).1=Lg d/\(dA c v).2=r:=by
 intro c d R r v h
 cases c<;>cases d<;>simp only [gf] at h<;>first|(cases h;first|done|exact ⟨rfl,rfl⟩)|skip
 all_goals
  split at h
  ·rename_i hc
   first
    |(obtain ⟨h1,h2⟩:=hc;subst h1;subst h2;injection h with h;subst h;exact ⟨rfl,rfl⟩)
    |(subst hc;injection h with h;subst h;exact ⟨rfl,rfl⟩)
  ·cases h
theorem Xk: ∀(l m:List AC) {R:Type} (r:R) (v:uF l R),Kr l m r=some v->(Rq l v).1.map Lg=m.map Lg/\(Rq l v).2=r
 | [],[],R,r,v,h=>by simp only [Kr] at h;injection h with h;subst h;exact ⟨rfl,rfl⟩
 | [],_::_,R,r,v,h=>by simp [Kr] at h
 |_::_,[],R,r,v,h=>by simp [Kr] at h
 |c::l,d::m,R,r,v,h=>by
  simp only [Kr] at h
  cases hr:Kr l m r with
  |none=>rw [hr] at h;cases h
  |some r'=>
   rw [hr] at h
   obtain ⟨h1,h2⟩:=iv c d r' v h
   obtain ⟨h3,h4⟩:=Xk l m r r' hr
   simp only [Rq,List.map_cons]
   rw [h1,h2,h3]
   exact ⟨rfl,h4⟩
theorem rH: ∀(c d:AV) {R:Type} (r:R) (v:NY c R),dE c d r=some v->(kf c v).1.map Lg=d.map Lg/\(kf c v).2=r
 | .at a, .at b,R,r,v,h=>by
  obtain ⟨h1,h2⟩:=iv a b r v h
  exact ⟨by show AV.at _=AV.at _;rw [h1],h2⟩
 | .agg cs, .agg ds,R,r,v,h=>by
  obtain ⟨h1,h2⟩:=Xk cs ds r v h
  exact ⟨by show AV.agg _=AV.agg _;rw [h1],h2⟩
 | .Sv fr τ y, .Sv Nj Ie x,R,r,v,h=>by
  by_cases hc:Ie=τ/\Nj=fr
  ·obtain ⟨h1,h2⟩:=hc
   subst h1;subst h2
   have h3:some ((x,r):Ie.den×R)=some v:=by
    have:dE (.Sv Nj Ie y) (.Sv Nj Ie x) r=some ((x,r):Ie.den×R):=dif_pos ⟨rfl,rfl⟩
    exact this.symm.trans h
   injection h3 with h3
   subst h3;exact ⟨rfl,rfl⟩
  ·have h3:dE (.Sv fr τ y) (.Sv Nj Ie x) r=none:=dif_neg hc
   rw [h3] at h;cases h
 | .at _, .agg _,_,_,_,h=>nomatch (show none=some _ from h)
 | .at _, .Sv _ _ _,_,_,_,h=>nomatch (show none=some _ from h)
 | .agg _, .at _,_,_,_,h=>nomatch (show none=some _ from h)
 | .agg _, .Sv _ _ _,_,_,_,h=>nomatch (show none=some _ from h)
 | .Sv _ _ _, .at _,_,_,_,h=>nomatch (show none=some _ from h)
 | .Sv _ _ _, .agg _,_,_,_,h=>nomatch (show none=some _ from h)
 | .Hz _, .at _,_,_,_,h=>nomatch (show none=some _ from h)
 | .Hz _, .agg _,_,_,_,h=>nomatch (show none=some _ from h)
 | .Hz _, .Sv _ _ _,_,_,_,h=>nomatch (show none=some _ from h)
 | .Hz _, .Hz _,_,_,_,h=>nomatch (show none=some _ from h)
 | .at _, .Hz _,_,_,_,h=>nomatch (show none=some _ from h)
 | .agg _, .Hz _,_,_,_,h=>nomatch (show none=some _ from h)
 | .Sv _ _ _, .Hz _,_,_,_,h=>nomatch (show none=some _ from h)
theorem th: ∀(c d:OB) {R:Type} (r:R) (v:SN c R),Lj c d r=some v->(ld c v).1.map Lg=d.map Lg/\(ld c v).2=r
 | .arr fr tr e tid ys, .arr Nj EE e' Mp xs,R,r,v,h=>by
  by_cases hc:e'=e/\Nj=fr/\EE=tr/\Mp=tid
  ·obtain ⟨h1,h2,h3,h4⟩:=hc
   subst h1;subst h2;subst h3;subst h4
   have h3:some ((xs,r):List e'.den×R)=some v:=by
    have:Lj (.arr Nj EE e' Mp ys) (.arr Nj EE e' Mp xs) r=some ((xs,r):List e'.den×R):=dif_pos ⟨rfl,rfl,rfl,rfl⟩
    exact this.symm.trans h
   injection h3 with h3
   subst h3;exact ⟨rfl,rfl⟩
  ·have h3:Lj (.arr fr tr e tid ys) (.arr Nj EE e' Mp xs) r=none:=dif_neg hc
   rw [h3] at h;cases h
 | .Cu e tid ys, .Cu e' Mp xs,R,r,v,h=>by
  by_cases hc:e'=e/\Mp=tid
  ·obtain ⟨h1,h4⟩:=hc
   subst h1;subst h4
   have h3:some ((xs,r):List e'.den×R)=some v:=by
    have:Lj (.Cu e' Mp ys) (.Cu e' Mp xs) r=some ((xs,r):List e'.den×R):=dif_pos ⟨rfl,rfl⟩
    exact this.symm.trans h
   injection h3 with h3
   subst h3;exact ⟨rfl,rfl⟩
  ·have h3:Lj (.Cu e tid ys) (.Cu e' Mp xs) r=none:=dif_neg hc
   rw [h3] at h;cases h
 | .Nd vt m, .Nd OW m',R,r,v,h=>by
  by_cases hc:OW=vt
  ·subst hc
   have h3:some ((m',r):(ByteArray->Option OW.den)×R)=some v:=by
    have:Lj (.Nd OW m) (.Nd OW m') r=some ((m',r):(ByteArray->Option OW.den)×R):=dif_pos rfl
    exact this.symm.trans h
   injection h3 with h3
   subst h3;exact ⟨rfl,rfl⟩
  ·have h3:Lj (.Nd vt m) (.Nd OW m') r=none:=dif_neg hc
   rw [h3] at h;cases h
 | .var t vs, .var t' us,R,r,v,h=>by
  by_cases hc:t'=t
  ·subst hc
   have h0:Lj (.var t' vs) (.var t' us) r=Kr vs us r:=if_pos rfl
   rw [h0] at h
   obtain ⟨h1,h2⟩:=Xk vs us r v h
   exact ⟨by show OB.var _ _=OB.var _ _;rw [h1],h2⟩
  ·have h3:Lj (.var t vs) (.var t' us) r=none:=if_neg hc
   rw [h3] at h;cases h
 | .Ai e te ys out none, .Ai e' Kd xs ai none,R,r,v,h=>by
  by_cases hc:e'=e/\Kd=te/\ai=out
  ·obtain ⟨h1,h2,h4⟩:=hc
   subst h1;subst h2;subst h4
   have h3:some ((xs,r):List (List e'.den)×R)=some v:=by
    have:Lj (.Ai e' Kd ys ai none) (.Ai e' Kd xs ai none) r=some ((xs,r):List (List e'.den)×R):=dif_pos ⟨rfl,rfl,rfl⟩
    exact this.symm.trans h
   injection h3 with h3
   subst h3;exact ⟨rfl,rfl⟩
  ·have h3:Lj (.Ai e te ys out none) (.Ai e' Kd xs ai none) r=none:=dif_neg hc
   rw [h3] at h;cases h
 | .Ai e te ys out (some p), .Ai e' Kd xs ai (some p'),R,r,v,h=>by
  by_cases hc:e'=e/\Kd=te/\ai=out/\p'.1=p.1
  ·obtain ⟨h1,h2,h4,h5⟩:=hc
   subst h1;subst h2;subst h4
   have h3:some ((xs,p'.2,r):List (List e'.den)×(Nat×R))=some v:=by
    have:Lj (.Ai e' Kd ys ai (some p)) (.Ai e' Kd xs ai (some p')) r=some ((xs,p'.2,r):List (List e'.den)×(Nat×R)):=dif_pos ⟨rfl,rfl,rfl,h5⟩
    exact this.symm.trans h
   injection h3 with h3
   subst h3
   refine ⟨?_,rfl⟩
   show OB.Ai e' Kd xs ai (some (p.1,p'.2))=OB.Ai e' Kd xs ai (some p')
   rw [<-h5]
  ·have h3:Lj (.Ai e te ys out (some p)) (.Ai e' Kd xs ai (some p')) r=none:=dif_neg hc
   rw [h3] at h;cases h
 | .Ai _ _ _ _ none, .Ai _ _ _ _ (some _),_,_,_,h=>nomatch (show none=some _ from h)
 | .Ai _ _ _ _ (some _), .Ai _ _ _ _ none,_,_,_,h=>nomatch (show none=some _ from h)
 | .Ai _ _ _ _ none, .arr _ _ _ _ _,_,_,_,h=>nomatch (show none=some _ from h)
 | .Ai _ _ _ _ none, .Cu _ _ _,_,_,_,h=>nomatch (show none=some _ from h)
 | .Ai _ _ _ _ none, .var _ _,_,_,_,h=>nomatch (show none=some _ from h)
 | .Ai _ _ _ _ none, .Nd _ _,_,_,_,h=>nomatch (show none=some _ from h)
 | .Ai _ _ _ _ (some _), .arr _ _ _ _ _,_,_,_,h=>nomatch (show none=some _ from h)
 | .Ai _ _ _ _ (some _), .Cu _ _ _,_,_,_,h=>nomatch (show none=some _ from h)
 | .Ai _ _ _ _ (some _), .var _ _,_,_,_,h=>nomatch (show none=some _ from h)
 | .Ai _ _ _ _ (some _), .Nd _ _,_,_,_,h=>nomatch (show none=some _ from h)
 | .arr _ _ _ _ _, .Ai _ _ _ _ _,_,_,_,h=>nomatch (show none=some _ from h)
 | .Cu _ _ _, .Ai _ _ _ _ _,_,_,_,h=>nomatch (show none=some _ from h)
 | .var _ _, .Ai _ _ _ _ _,_,_,_,h=>nomatch (show none=some _ from h)
 | .Nd _ _, .Ai _ _ _ _ _,_,_,_,h=>nomatch (show none=some _ from h)
 | .arr _ _ _ _ _, .var _ _,_,_,_,h=>nomatch (show none=some _ from h)
 | .arr _ _ _ _ _, .Cu _ _ _,_,_,_,h=>nomatch (show none=some _ from h)
 | .arr _ _ _ _ _, .Nd _ _,_,_,_,h=>nomatch (show none=some _ from h)
 | .Cu _ _ _, .var _ _,_,_,_,h=>nomatch (show none=some _ from h)
 | .Cu _ _ _, .arr _ _ _ _ _,_,_,_,h=>nomatch (show none=some _ from h)
 | .Cu _ _ _, .Nd _ _,_,_,_,h=>nomatch (show none=some _ from h)
 | .Nd _ _, .var _ _,_,_,_,h=>nomatch (show none=some _ from h)
 | .Nd _ _, .arr _ _ _ _ _,_,_,_,h=>nomatch (show none=some _ from h)
 | .Nd _ _, .Cu _ _ _,_,_,_,h=>nomatch (show none=some _ from h)
 | .var _ _, .arr _ _ _ _ _,_,_,_,h=>nomatch (show none=some _ from h)
 | .var _ _, .Cu _ _ _,_,_,_,h=>nomatch (show none=some _ from h)
 | .var _ _, .Nd _ _,_,_,_,h=>nomatch (show none=some _ from h)
theorem dk: ∀(l m:List AV) {R:Type} (r:R) (v:ja l R),Ir l m r=some v->(Oc l v).1.map (·.map Lg)=m.map (·.map Lg)/\(Oc l v).2=r
 | [],[],R,r,v,h=>by simp only [Ir] at h;injection h with h;subst h;exact ⟨rfl,rfl⟩
 | [],_::_,R,r,v,h=>by simp [Ir] at h
 |_::_,[],R,r,v,h=>by simp [Ir] at h
 |c::l,d::m,R,r,v,h=>by
  simp only [Ir] at h
  cases hr:Ir l m r with
  |none=>rw [hr] at h;cases h
  |some r'=>
   rw [hr] at h
   obtain ⟨h1,h2⟩:=rH c d r' v h
   obtain ⟨h3,h4⟩:=dk l m r r' hr
   simp only [Oc,List.map_cons]
   rw [h1,h2,h3]
   exact ⟨rfl,h4⟩
theorem cN: ∀(l m:List (Nat×OB)) {R:Type} (r:R) (v:nW l R),Jj l m r=some v->(Wi l v).1.map (λp=>(p.1,p.2.map Lg))=m.map (λp=>(p.1,p.2.map Lg))/\(Wi l v).2=r
 | [],[],R,r,v,h=>by simp only [Jj] at h;injection h with h;subst h;exact ⟨rfl,rfl⟩
 | [],_::_,R,r,v,h=>by simp [Jj] at h
 |_::_,[],R,r,v,h=>by simp [Jj] at h
 |c::l,d::m,R,r,v,h=>by
  simp only [Jj] at h
  split at h
  ·rename_i hk
   cases hr:Jj l m r with
   |none=>rw [hr] at h;cases h
   |some r'=>
    rw [hr] at h
    obtain ⟨h1,h2⟩:=th c.2 d.2 r' v h
    obtain ⟨h3,h4⟩:=cN l m r r' hr
    simp only [Wi,List.map_cons]
    rw [h1,h2,h3,hk]
    exact ⟨rfl,h4⟩
  ·cases h
theorem bM {s t:St} {v:TF s} (h:bL s t=some v):(bK s v).Fp Lg=t.Fp Lg:=by
 unfold bL at h
 cases hr:Jj s.heap t.heap () with
 |none=>rw [hr] at h;cases h
 |some r=>
  rw [hr] at h
  obtain ⟨h1,h2⟩:=dk s.tmps t.tmps r v h
  obtain ⟨h3,_⟩:=cN s.heap t.heap () r hr
  simp only [bK,St.Fp]
  rw [h1,h2,h3]
theorem iw: ∀(c:AC) {R:Type} (r:R),gf c c r=some (xb c r):=by
 intro c R r
 cases c<;>simp [gf,xb]
theorem Xl: ∀(l:List AC) {R:Type} (r:R),Kr l l r=some (jX l r)
 | [],_,_=>rfl
 |c::l,_,r=>by simp only [Kr,Xl l r,jX];exact iw c _
def AV.cY:AV->Bool
 | .Hz _=>false
 |_=>true
theorem rI: ∀(c:AV),c.cY=true-> ∀ {R:Type} (r:R),dE c c r=some (IA c r):=by
 intro c hn R r
 cases c with
 |Hz l=>cases hn
 | «at»a=>exact iw a r
 |agg cs=>exact Xl cs r
 |Sv fr τ x=>exact dif_pos ⟨rfl,rfl⟩
theorem tj: ∀(c:OB) {R:Type} (r:R),Lj c c r=some (JR c r):=by
 intro c R r
 cases c with
 |arr fr tr e t xs=>exact dif_pos ⟨rfl,rfl,rfl,rfl⟩
 |Cu e t xs=>exact dif_pos ⟨rfl,rfl⟩
 |Nd v m=>exact dif_pos rfl
 |Ai e te rows out kp=>
  cases kp with
  |none=>exact dif_pos ⟨rfl,rfl,rfl⟩
  |some p=>exact dif_pos ⟨rfl,rfl,rfl,rfl⟩
 |var t vs=>
  have h0:Lj (.var t vs) (.var t vs) r=Kr vs vs r:=if_pos rfl
  exact h0.trans (Xl vs r)
theorem dm: ∀(l:List AV),(∀c∈l,c.cY=true)-> ∀ {R:Type} (r:R),Ir l l r=some (jQ l r)
 | [],_,_,_=>rfl
 |c::l,h,_,r=>by simp only [Ir,dm l (λc hc=>h c (List.mem_cons_of_mem _ hc)) r,jQ];exact rI c (h c (by simp)) _
theorem cO: ∀(l:List (Nat×OB)) {R:Type} (r:R),Jj l l r=some (jL l r)
 | [],_,_=>rfl
 |c::l,_,r=>by simp only [Jj,if_true,cO l r,jL];exact tj c.2 _
theorem j5 (s:St) (h: ∀c∈s.tmps,c.cY=true):bL s s=some (xQ s):=by
 simp only [bL,cO,xQ]
 exact dm _ h _
theorem An {α:Type} {o:Option α} {K:α->Prop} :Dm o K↔ ∃x,o=some x/\K x:=by
 unfold Dm
 cases o with
 |none=>simp
 |some x=>simp
theorem eB: ∀(l m:List AC),l.map Lg=m.map Lg->l.flatMap Sz=m.flatMap Sz->l=m
 | [],[],_,_=>rfl
 | [],_::_,h,_=>by simp at h
 |_::_,[],h,_=>by simp at h
 |c::l,d::m,h,ho=>by
  simp only [List.map_cons,List.cons.injEq] at h
  simp only [List.flatMap_cons] at ho
  have hcd:c=d/\l.flatMap Sz=m.flatMap Sz:=by
   cases c<;>cases d<;>first|(cases h.1;done)|skip
   all_goals first
    |(obtain ⟨h1,_⟩:=h
      simp only [Lg,AC.own.injEq] at h1
      simp only [Sz,List.cons_append,List.nil_append,List.cons.injEq,Prod.mk.injEq] at ho
      exact ⟨by rw [h1.1,ho.1.1,ho.1.2],ho.2⟩)
    |exact ⟨h.1,by simpa only [Sz,List.nil_append] using ho⟩
  rw [hcd.1,eB l m h.2 hcd.2]
theorem fC: ∀(l m:List AC),l.map Lg=m.map Lg->(l.flatMap Sz).length=(m.flatMap Sz).length
 | [],[],_=>rfl
 | [],_::_,h=>by simp at h
 |_::_,[],h=>by simp at h
 |c::l,d::m,h=>by
  simp only [List.map_cons,List.cons.injEq] at h
  simp only [List.flatMap_cons,List.length_append,fC l m h.2]
  congr 1
  cases c<;>cases d<;>first|rfl|(cases h.1;done)
theorem FG {c d:AV} (h:c.map Lg=d.map Lg):(Tb c).length=(Tb d).length/\(Tb c=Tb d->(∀l,c≠ .Hz l)->c=d):=by
 cases c with
 | «at»a=>
  cases d<;>simp only [AV.map,AV.at.injEq,reduceCtorEq] at h
  rename_i b
  have h1: [a].map Lg= [b].map Lg:=by simp [h]
  refine ⟨by simpa [Tb] using fC [a] [b] h1,λho _=>?_⟩
  have:=eB [a] [b] h1 (by simpa [Tb] using ho)
  simpa using this
 |agg cs=>
  cases d<;>simp only [AV.map,AV.agg.injEq,reduceCtorEq] at h
  rename_i ds
  exact ⟨fC cs ds h,λho _=>by rw [eB cs ds h ho]⟩
 |Sv fr τ x=>
  cases d<;>simp only [AV.map,reduceCtorEq] at h
  exact ⟨rfl,λ_ _=>h⟩
 |Hz l=>
  cases d<;>simp only [AV.map,reduceCtorEq] at h
  exact ⟨rfl,λ_ hn=>absurd rfl (hn l)⟩
theorem rK: ∀(l m:List AV),l.map (·.map Lg)=m.map (·.map Lg)->(∀c∈l,c.cY=true)->(l.flatMap Tb).length=(m.flatMap Tb).length/\(l.flatMap Tb=m.flatMap Tb->l=m)
 | [],[],_,_=>⟨rfl,λ_=>rfl⟩
 | [],_::_,h,_=>by simp at h
 |_::_,[],h,_=>by simp at h
 |c::l,d::m,h,hn=>by
  simp only [List.map_cons,List.cons.injEq] at h
  obtain ⟨h1,h2⟩:=FG h.1
  obtain ⟨h3,h4⟩:=rK l m h.2 λc hc=>hn c (List.mem_cons_of_mem _ hc)
  refine ⟨by simp only [List.flatMap_cons,List.length_append,h1,h3],λho=>?_⟩
  simp only [List.flatMap_cons] at ho
  obtain ⟨g1,g2⟩:=List.append_inj ho h1
  have hnt: ∀l',c≠ .Hz l':= λl' e=>by
   have:=hn c (by simp)
   rw [e] at this
   cases this
  rw [h2 g1 hnt,h4 g2]
theorem GS {c d:OB} (h:c.map Lg=d.map Lg):(eb c).length=(eb d).length/\(eb c=eb d->c=d):=by
 cases c with
 |var t vs=>
  cases d<;>simp only [OB.map,OB.var.injEq,reduceCtorEq] at h
  rename_i t' us
  obtain ⟨rfl,h⟩:=h
  exact ⟨fC vs us h,λho=>by rw [eB vs us h ho]⟩
 |_=>cases d<;>simp only [OB.map,reduceCtorEq] at h<;>exact ⟨rfl,λ_=>h⟩
theorem nX: ∀(l m:List (Nat×OB)),l.map (λp=>(p.1,p.2.map Lg))=m.map (λp=>(p.1,p.2.map Lg))->(l.flatMap λp=>eb p.2)=(m.flatMap λp=>eb p.2)->l=m
 | [],[],_,_=>rfl
 | [],_::_,h,_=>by simp at h
 |_::_,[],h,_=>by simp at h
 |(k,c)::l,(k',d)::m,h,ho=>by
  simp only [List.map_cons,List.cons.injEq,Prod.mk.injEq] at h
  simp only [List.flatMap_cons] at ho
  obtain ⟨h1,h2⟩:=GS h.1.2
  obtain ⟨g1,g2⟩:=List.append_inj ho h1
  rw [h.1.1,h2 g1,nX l m h.2 g2]
theorem rJ (l:List (Bool×List AC)) (e:AV) {R:Type} (r:R):dE (.Hz l) e r=none:=by cases e<;>rfl
theorem pa {d e:AV} {R:Type} {r:R} {v:NY d R} (h:dE d e r=some v):d.cY=true:=by
 cases d with
 |Hz l=>rw [rJ] at h;cases h
 |_=>rfl
theorem bP: ∀(l m:List AV) {R:Type} (r:R) (v:ja l R),Ir l m r=some v-> ∀c∈l,c.cY=true
 | [],_,_,_,_,_,c,hc=>by cases hc
 |d::l,[],_,r,v,h,c,hc=>by cases h
 |d::l,e::m,R,r,v,h,c,hc=>by
  simp only [Ir] at h
  cases hr:Ir l m r with
  |none=>rw [hr] at h;cases h
  |some r'=>
   rw [hr] at h
   rcases List.mem_cons.1 hc with hc|hc
   ·rw [hc];exact pa h
   ·exact bP l m r r' hr c hc
theorem nP {s0 s:St} (h:VY s0 s):s=s0:=by
 obtain ⟨ho,h⟩:=h
 obtain ⟨v,h1,h2⟩:=An.1 h
 subst h2
 have hn: ∀c∈s0.tmps,c.cY=true:=by
  unfold bL at h1
  cases hr:Jj s0.heap s.heap () with
  |none=>rw [hr] at h1;cases h1
  |some r=>rw [hr] at h1;exact bP _ _ _ _ h1
 have e:=(bM h1).symm.trans (bM (j5 s0 hn))
 simp only [St.Fp,St.mk.injEq] at e
 obtain ⟨e1,e2⟩:=e
 obtain ⟨l1,l2⟩:=rK s0.tmps s.tmps e1.symm hn
 unfold wN at ho
 obtain ⟨g1,g2⟩:=List.append_inj ho l1.symm
 have k1:=l2 g1.symm
 have k2:=nX s.heap s0.heap e2 g2
 cases s;cases s0
 simp only at k1 k2
 rw [k1,k2]
end Go.Proofs.Ytjbdmibbbpdnnaa
