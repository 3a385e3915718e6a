/-
  Part 32 of the proof that the statement FnExactPhaseTwoWord holds.
-/
import Derived.Test.YtjbdmibbbpdnnaaCPhaseTwoWord30
namespace Go.Proofs.Ytjbdmibbbpdnnaa
open Go.RowKit
def Mk:AC->AC
 | .own l _ _=> .own l 0 0
 |c=>c
theorem jV: ∀(c d:AC) {R:Type} (r:R) (v:VA c R),iP c d r=some v->Mk (fc c v).1=Mk d/\(fc c v).2=r:=by
 intro c d R r v h
 cases c<;>cases d<;>simp only [iP] at h<;>first|(cases h;first|done|exact ⟨rfl,rfl⟩)|skip
 all_goals
  split at h
  ·rename_i hc
   first
    |(obtain ⟨h1,h2⟩:=hc;subst h1;subst h2;injection h with h;subst h;exact ⟨rfl,rfl⟩)
    |(subst hc;injection h with h;subst h;exact ⟨rfl,rfl⟩)
  ·cases h
theorem Zo: ∀(l m:List AC) {R:Type} (r:R) (v:xo l R),Lt l m r=some v->(Tk l v).1.map Mk=m.map Mk/\(Tk l v).2=r
 | [],[],R,r,v,h=>by simp only [Lt] at h;injection h with h;subst h;exact ⟨rfl,rfl⟩
 | [],_::_,R,r,v,h=>by simp [Lt] at h
 |_::_,[],R,r,v,h=>by simp [Lt] at h
 |c::l,d::m,R,r,v,h=>by
  simp only [Lt] at h
  cases hr:Lt l m r with
  |none=>rw [hr] at h;cases h
  |some r'=>
   rw [hr] at h
   obtain ⟨h1,h2⟩:=jV c d r' v h
   obtain ⟨h3,h4⟩:=Zo l m r r' hr
   simp only [Tk,List.map_cons]
   rw [h1,h2,h3]
   exact ⟨rfl,h4⟩
theorem u7: ∀(c d:AV) {R:Type} (r:R) (v:VB c R),fh c d r=some v->(m5 c v).1.map Mk=d.map Mk/\(m5 c v).2=r
 | .at a, .at b,R,r,v,h=>by
  obtain ⟨h1,h2⟩:=jV a b r v h
  exact ⟨by show AV.at _=AV.at _;rw [h1],h2⟩
 | .agg cs, .agg ds,R,r,v,h=>by
  obtain ⟨h1,h2⟩:=Zo cs ds r v h
  exact ⟨by show AV.agg _=AV.agg _;rw [h1],h2⟩
 | .Uo fr τ y, .Uo Ov Iz x,R,r,v,h=>by
  by_cases hc:Iz=τ/\Ov=fr
  ·obtain ⟨h1,h2⟩:=hc
   subst h1;subst h2
   have h3:some ((x,r):Iz.den×R)=some v:=by
    have:fh (.Uo Ov Iz y) (.Uo Ov Iz x) r=some ((x,r):Iz.den×R):=dif_pos ⟨rfl,rfl⟩
    exact this.symm.trans h
   injection h3 with h3
   subst h3;exact ⟨rfl,rfl⟩
  ·have h3:fh (.Uo fr τ y) (.Uo Ov Iz x) r=none:=dif_neg hc
   rw [h3] at h;cases h
 | .at _, .agg _,_,_,_,h=>nomatch (show none=some _ from h)
 | .at _, .Uo _ _ _,_,_,_,h=>nomatch (show none=some _ from h)
 | .agg _, .at _,_,_,_,h=>nomatch (show none=some _ from h)
 | .agg _, .Uo _ _ _,_,_,_,h=>nomatch (show none=some _ from h)
 | .Uo _ _ _, .at _,_,_,_,h=>nomatch (show none=some _ from h)
 | .Uo _ _ _, .agg _,_,_,_,h=>nomatch (show none=some _ from h)
 | .Ix _, .at _,_,_,_,h=>nomatch (show none=some _ from h)
 | .Ix _, .agg _,_,_,_,h=>nomatch (show none=some _ from h)
 | .Ix _, .Uo _ _ _,_,_,_,h=>nomatch (show none=some _ from h)
 | .Ix _, .Ix _,_,_,_,h=>nomatch (show none=some _ from h)
 | .at _, .Ix _,_,_,_,h=>nomatch (show none=some _ from h)
 | .agg _, .Ix _,_,_,_,h=>nomatch (show none=some _ from h)
 | .Uo _ _ _, .Ix _,_,_,_,h=>nomatch (show none=some _ from h)
theorem vR: ∀(c d:OB) {R:Type} (r:R) (v:ZM c R),Mo c d r=some v->(mZ c v).1.map Mk=d.map Mk/\(mZ c v).2=r
 | .arr fr tr e tid ys, .arr Ov KG e' Nv xs,R,r,v,h=>by
  by_cases hc:e'=e/\Ov=fr/\KG=tr/\Nv=tid
  ·obtain ⟨h1,h2,h3,h4⟩:=hc
   subst h1;subst h2;subst h3;subst h4
   have h3:some ((xs,r):List e'.den×R)=some v:=by
    have:Mo (.arr Ov KG e' Nv ys) (.arr Ov KG e' Nv xs) r=some ((xs,r):List e'.den×R):=dif_pos ⟨rfl,rfl,rfl,rfl⟩
    exact this.symm.trans h
   injection h3 with h3
   subst h3;exact ⟨rfl,rfl⟩
  ·have h3:Mo (.arr fr tr e tid ys) (.arr Ov KG e' Nv xs) r=none:=dif_neg hc
   rw [h3] at h;cases h
 | .Dg e tid ys, .Dg e' Nv xs,R,r,v,h=>by
  by_cases hc:e'=e/\Nv=tid
  ·obtain ⟨h1,h4⟩:=hc
   subst h1;subst h4
   have h3:some ((xs,r):List e'.den×R)=some v:=by
    have:Mo (.Dg e' Nv ys) (.Dg e' Nv xs) r=some ((xs,r):List e'.den×R):=dif_pos ⟨rfl,rfl⟩
    exact this.symm.trans h
   injection h3 with h3
   subst h3;exact ⟨rfl,rfl⟩
  ·have h3:Mo (.Dg e tid ys) (.Dg e' Nv xs) r=none:=dif_neg hc
   rw [h3] at h;cases h
 | .Ok vt m, .Ok VY m',R,r,v,h=>by
  by_cases hc:VY=vt
  ·subst hc
   have h3:some ((m',r):(ByteArray->Option VY.den)×R)=some v:=by
    have:Mo (.Ok VY m) (.Ok VY m') r=some ((m',r):(ByteArray->Option VY.den)×R):=dif_pos rfl
    exact this.symm.trans h
   injection h3 with h3
   subst h3;exact ⟨rfl,rfl⟩
  ·have h3:Mo (.Ok vt m) (.Ok VY m') r=none:=dif_neg hc
   rw [h3] at h;cases h
 | .var t vs, .var t' us,R,r,v,h=>by
  by_cases hc:t'=t
  ·subst hc
   have h0:Mo (.var t' vs) (.var t' us) r=Lt vs us r:=if_pos rfl
   rw [h0] at h
   obtain ⟨h1,h2⟩:=Zo vs us r v h
   exact ⟨by show OB.var _ _=OB.var _ _;rw [h1],h2⟩
  ·have h3:Mo (.var t vs) (.var t' us) r=none:=if_neg hc
   rw [h3] at h;cases h
 | .Al e te ys out none, .Al e' Ld xs bA none,R,r,v,h=>by
  by_cases hc:e'=e/\Ld=te/\bA=out
  ·obtain ⟨h1,h2,h4⟩:=hc
   subst h1;subst h2;subst h4
   have h3:some ((xs,r):List (List e'.den)×R)=some v:=by
    have:Mo (.Al e' Ld ys bA none) (.Al e' Ld xs bA none) r=some ((xs,r):List (List e'.den)×R):=dif_pos ⟨rfl,rfl,rfl⟩
    exact this.symm.trans h
   injection h3 with h3
   subst h3;exact ⟨rfl,rfl⟩
  ·have h3:Mo (.Al e te ys out none) (.Al e' Ld xs bA none) r=none:=dif_neg hc
   rw [h3] at h;cases h
 | .Al e te ys out (some p), .Al e' Ld xs bA (some p'),R,r,v,h=>by
  by_cases hc:e'=e/\Ld=te/\bA=out/\p'.1=p.1
  ·obtain ⟨h1,h2,h4,h5⟩:=hc
   subst h1;subst h2;subst h4
   have h3:some ((xs,p'.2,r):List (List e'.den)×(Nat×R))=some v:=by
    have:Mo (.Al e' Ld ys bA (some p)) (.Al e' Ld xs bA (some p')) r=some ((xs,p'.2,r):List (List e'.den)×(Nat×R)):=dif_pos ⟨rfl,rfl,rfl,h5⟩
    exact this.symm.trans h
   injection h3 with h3
   subst h3
   refine ⟨?_,rfl⟩
   show OB.Al e' Ld xs bA (some (p.1,p'.2))=OB.Al e' Ld xs bA (some p')
   rw [<-h5]
  ·have h3:Mo (.Al e te ys out (some p)) (.Al e' Ld xs bA (some p')) r=none:=dif_neg hc
   rw [h3] at h;cases h
 | .Al _ _ _ _ none, .Al _ _ _ _ (some _),_,_,_,h=>nomatch (show none=some _ from h)
 | .Al _ _ _ _ (some _), .Al _ _ _ _ none,_,_,_,h=>nomatch (show none=some _ from h)
 | .Al _ _ _ _ none, .arr _ _ _ _ _,_,_,_,h=>nomatch (show none=some _ from h)
 | .Al _ _ _ _ none, .Dg _ _ _,_,_,_,h=>nomatch (show none=some _ from h)
 | .Al _ _ _ _ none, .var _ _,_,_,_,h=>nomatch (show none=some _ from h)
 | .Al _ _ _ _ none, .Ok _ _,_,_,_,h=>nomatch (show none=some _ from h)
 | .Al _ _ _ _ (some _), .arr _ _ _ _ _,_,_,_,h=>nomatch (show none=some _ from h)
 | .Al _ _ _ _ (some _), .Dg _ _ _,_,_,_,h=>nomatch (show none=some _ from h)
 | .Al _ _ _ _ (some _), .var _ _,_,_,_,h=>nomatch (show none=some _ from h)
 | .Al _ _ _ _ (some _), .Ok _ _,_,_,_,h=>nomatch (show none=some _ from h)
 | .arr _ _ _ _ _, .Al _ _ _ _ _,_,_,_,h=>nomatch (show none=some _ from h)
 | .Dg _ _ _, .Al _ _ _ _ _,_,_,_,h=>nomatch (show none=some _ from h)
 | .var _ _, .Al _ _ _ _ _,_,_,_,h=>nomatch (show none=some _ from h)
 | .Ok _ _, .Al _ _ _ _ _,_,_,_,h=>nomatch (show none=some _ from h)
 | .arr _ _ _ _ _, .var _ _,_,_,_,h=>nomatch (show none=some _ from h)
 | .arr _ _ _ _ _, .Dg _ _ _,_,_,_,h=>nomatch (show none=some _ from h)
 | .arr _ _ _ _ _, .Ok _ _,_,_,_,h=>nomatch (show none=some _ from h)
 | .Dg _ _ _, .var _ _,_,_,_,h=>nomatch (show none=some _ from h)
 | .Dg _ _ _, .arr _ _ _ _ _,_,_,_,h=>nomatch (show none=some _ from h)
 | .Dg _ _ _, .Ok _ _,_,_,_,h=>nomatch (show none=some _ from h)
 | .Ok _ _, .var _ _,_,_,_,h=>nomatch (show none=some _ from h)
 | .Ok _ _, .arr _ _ _ _ _,_,_,_,h=>nomatch (show none=some _ from h)
 | .Ok _ _, .Dg _ _ _,_,_,_,h=>nomatch (show none=some _ from h)
 | .var _ _, .arr _ _ _ _ _,_,_,_,h=>nomatch (show none=some _ from h)
 | .var _ _, .Dg _ _ _,_,_,_,h=>nomatch (show none=some _ from h)
 | .var _ _, .Ok _ _,_,_,_,h=>nomatch (show none=some _ from h)
theorem eQ: ∀(l m:List AV) {R:Type} (r:R) (v:kQ l R),Jm l m r=some v->(Pv l v).1.map (·.map Mk)=m.map (·.map Mk)/\(Pv l v).2=r
 | [],[],R,r,v,h=>by simp only [Jm] at h;injection h with h;subst h;exact ⟨rfl,rfl⟩
 | [],_::_,R,r,v,h=>by simp [Jm] at h
 |_::_,[],R,r,v,h=>by simp [Jm] at h
 |c::l,d::m,R,r,v,h=>by
  simp only [Jm] at h
  cases hr:Jm l m r with
  |none=>rw [hr] at h;cases h
  |some r'=>
   rw [hr] at h
   obtain ⟨h1,h2⟩:=u7 c d r' v h
   obtain ⟨h3,h4⟩:=eQ l m r r' hr
   simp only [Pv,List.map_cons]
   rw [h1,h2,h3]
   exact ⟨rfl,h4⟩
theorem eh: ∀(l m:List (Nat×OB)) {R:Type} (r:R) (v:pV l R),Kh l m r=some v->(Yj l v).1.map (λp=>(p.1,p.2.map Mk))=m.map (λp=>(p.1,p.2.map Mk))/\(Yj l v).2=r
 | [],[],R,r,v,h=>by simp only [Kh] at h;injection h with h;subst h;exact ⟨rfl,rfl⟩
 | [],_::_,R,r,v,h=>by simp [Kh] at h
 |_::_,[],R,r,v,h=>by simp [Kh] at h
 |c::l,d::m,R,r,v,h=>by
  simp only [Kh] at h
  split at h
  ·rename_i hk
   cases hr:Kh l m r with
   |none=>rw [hr] at h;cases h
   |some r'=>
    rw [hr] at h
    obtain ⟨h1,h2⟩:=vR c.2 d.2 r' v h
    obtain ⟨h3,h4⟩:=eh l m r r' hr
    simp only [Yj,List.map_cons]
    rw [h1,h2,h3,hk]
    exact ⟨rfl,h4⟩
  ·cases h
theorem db {s t:St} {v:stV s} (h:da s t=some v):(cZ s v).Gh Mk=t.Gh Mk:=by
 unfold da at h
 cases hr:Kh s.heap t.heap () with
 |none=>rw [hr] at h;cases h
 |some r=>
  rw [hr] at h
  obtain ⟨h1,h2⟩:=eQ s.tmps t.tmps r v h
  obtain ⟨h3,_⟩:=eh s.heap t.heap () r hr
  simp only [cZ,St.Gh]
  rw [h1,h2,h3]
theorem jW: ∀(c:AC) {R:Type} (r:R),iP c c r=some (zC c r):=by
 intro c R r
 cases c<;>simp [iP,zC]
theorem Zp: ∀(l:List AC) {R:Type} (r:R),Lt l l r=some (lT l r)
 | [],_,_=>rfl
 |c::l,_,r=>by simp only [Lt,Zp l r,lT];exact jW c _
def AV.eE:AV->Bool
 | .Ix _=>false
 |_=>true
theorem u9: ∀(c:AV),c.eE=true-> ∀ {R:Type} (r:R),fh c c r=some (OX c r):=by
 intro c hn R r
 cases c with
 |Ix l=>cases hn
 | «at»a=>exact jW a r
 |agg cs=>exact Zp cs r
 |Uo fr τ x=>exact dif_pos ⟨rfl,rfl⟩
theorem vS: ∀(c:OB) {R:Type} (r:R),Mo c c r=some (QT c r):=by
 intro c R r
 cases c with
 |arr fr tr e t xs=>exact dif_pos ⟨rfl,rfl,rfl,rfl⟩
 |Dg e t xs=>exact dif_pos ⟨rfl,rfl⟩
 |Ok v m=>exact dif_pos rfl
 |Al e te rows out kp=>
  cases kp with
  |none=>exact dif_pos ⟨rfl,rfl,rfl⟩
  |some p=>exact dif_pos ⟨rfl,rfl,rfl,rfl⟩
 |var t vs=>
  have h0:Mo (.var t vs) (.var t vs) r=Lt vs vs r:=if_pos rfl
  exact h0.trans (Zp vs r)
theorem eR: ∀(l:List AV),(∀c∈l,c.eE=true)-> ∀ {R:Type} (r:R),Jm l l r=some (lJ l r)
 | [],_,_,_=>rfl
 |c::l,h,_,r=>by simp only [Jm,eR l (λc hc=>h c (List.mem_cons_of_mem _ hc)) r,lJ];exact u9 c (h c (by simp)) _
theorem ei: ∀(l:List (Nat×OB)) {R:Type} (r:R),Kh l l r=some (lB l r)
 | [],_,_=>rfl
 |c::l,_,r=>by simp only [Kh,if_true,ei l r,lB];exact vS c.2 _
theorem kM (s:St) (h: ∀c∈s.tmps,c.eE=true):da s s=some (AU s):=by
 simp only [da,ei,AU]
 exact eR _ h _
theorem As {α:Type} {o:Option α} {K:α->Prop} :Dy o K↔ ∃x,o=some x/\K x:=by
 unfold Dy
 cases o with
 |none=>simp
 |some x=>simp
theorem gl: ∀(l m:List AC),l.map Mk=m.map Mk->l.flatMap Ur=m.flatMap Ur->l=m
 | [],[],_,_=>rfl
 | [],_::_,h,_=>by simp at h
 |_::_,[],h,_=>by simp at h
 |c::l,d::m,h,ho=>by
  simp only [List.map_cons,List.cons.injEq] at h
  simp only [List.flatMap_cons] at ho
  have hcd:c=d/\l.flatMap Ur=m.flatMap Ur:=by
   cases c<;>cases d<;>first|(cases h.1;done)|skip
   all_goals first
    |(obtain ⟨h1,_⟩:=h
      simp only [Mk,AC.own.injEq] at h1
      simp only [Ur,List.cons_append,List.nil_append,List.cons.injEq,Prod.mk.injEq] at ho
      exact ⟨by rw [h1.1,ho.1.1,ho.1.2],ho.2⟩)
    |exact ⟨h.1,by simpa only [Ur,List.nil_append] using ho⟩
  rw [hcd.1,gl l m h.2 hcd.2]
theorem ie: ∀(l m:List AC),l.map Mk=m.map Mk->(l.flatMap Ur).length=(m.flatMap Ur).length
 | [],[],_=>rfl
 | [],_::_,h=>by simp at h
 |_::_,[],h=>by simp at h
 |c::l,d::m,h=>by
  simp only [List.map_cons,List.cons.injEq] at h
  simp only [List.flatMap_cons,List.length_append,ie l m h.2]
  congr 1
  cases c<;>cases d<;>first|rfl|(cases h.1;done)
theorem LU {c d:AV} (h:c.map Mk=d.map Mk):(Ut c).length=(Ut d).length/\(Ut c=Ut d->(∀l,c≠ .Ix l)->c=d):=by
 cases c with
 | «at»a=>
  cases d<;>simp only [AV.map,AV.at.injEq,reduceCtorEq] at h
  rename_i b
  have h1: [a].map Mk= [b].map Mk:=by simp [h]
  refine ⟨by simpa [Ut] using ie [a] [b] h1,λho _=>?_⟩
  have:=gl [a] [b] h1 (by simpa [Ut] using ho)
  simpa using this
 |agg cs=>
  cases d<;>simp only [AV.map,AV.agg.injEq,reduceCtorEq] at h
  rename_i ds
  exact ⟨ie cs ds h,λho _=>by rw [gl cs ds h ho]⟩
 |Uo fr τ x=>
  cases d<;>simp only [AV.map,reduceCtorEq] at h
  exact ⟨rfl,λ_ _=>h⟩
 |Ix l=>
  cases d<;>simp only [AV.map,reduceCtorEq] at h
  exact ⟨rfl,λ_ hn=>absurd rfl (hn l)⟩
theorem ub: ∀(l m:List AV),l.map (·.map Mk)=m.map (·.map Mk)->(∀c∈l,c.eE=true)->(l.flatMap Ut).length=(m.flatMap Ut).length/\(l.flatMap Ut=m.flatMap Ut->l=m)
 | [],[],_,_=>⟨rfl,λ_=>rfl⟩
 | [],_::_,h,_=>by simp at h
 |_::_,[],h,_=>by simp at h
 |c::l,d::m,h,hn=>by
  simp only [List.map_cons,List.cons.injEq] at h
  obtain ⟨h1,h2⟩:=LU h.1
  obtain ⟨h3,h4⟩:=ub l m h.2 λc hc=>hn c (List.mem_cons_of_mem _ hc)
  refine ⟨by simp only [List.flatMap_cons,List.length_append,h1,h3],λho=>?_⟩
  simp only [List.flatMap_cons] at ho
  obtain ⟨g1,g2⟩:=List.append_inj ho h1
  have hnt: ∀l',c≠ .Ix l':= λl' e=>by
   have:=hn c (by simp)
   rw [e] at this
   cases this
  rw [h2 g1 hnt,h4 g2]
theorem NJ {c d:OB} (h:c.map Mk=d.map Mk):(fO c).length=(fO d).length/\(fO c=fO d->c=d):=by
 cases c with
 |var t vs=>
  cases d<;>simp only [OB.map,OB.var.injEq,reduceCtorEq] at h
  rename_i t' us
  obtain ⟨rfl,h⟩:=h
  exact ⟨ie vs us h,λho=>by rw [gl vs us h ho]⟩
 |_=>cases d<;>simp only [OB.map,reduceCtorEq] at h<;>exact ⟨rfl,λ_=>h⟩
theorem pW: ∀(l m:List (Nat×OB)),l.map (λp=>(p.1,p.2.map Mk))=m.map (λp=>(p.1,p.2.map Mk))->(l.flatMap λp=>fO p.2)=(m.flatMap λp=>fO p.2)->l=m
 | [],[],_,_=>rfl
 | [],_::_,h,_=>by simp at h
 |_::_,[],h,_=>by simp at h
 |(k,c)::l,(k',d)::m,h,ho=>by
  simp only [List.map_cons,List.cons.injEq,Prod.mk.injEq] at h
  simp only [List.flatMap_cons] at ho
  obtain ⟨h1,h2⟩:=NJ h.1.2
  obtain ⟨g1,g2⟩:=List.append_inj ho h1
  rw [h.1.1,h2 g1,pW l m h.2 g2]
theorem ua (l:List (Bool×List AC)) (e:AV) {R:Type} (r:R):fh (.Ix l) e r=none:=by cases e<;>rfl
theorem re {d e:AV} {R:Type} {r:R} {v:VB d R} (h:fh d e r=some v):d.eE=true:=by
 cases d with
 |Ix l=>rw [ua] at h;cases h
 |_=>rfl
theorem de: ∀(l m:List AV) {R:Type} (r:R) (v:kQ l R),Jm l m r=some v-> ∀c∈l,c.eE=true
 | [],_,_,_,_,_,c,hc=>by cases hc
 |d::l,[],_,r,v,h,c,hc=>by cases h
 |d::l,e::m,R,r,v,h,c,hc=>by
  simp only [Jm] at h
  cases hr:Jm l m r with
  |none=>rw [hr] at h;cases h
  |some r'=>
   rw [hr] at h
   rcases List.mem_cons.1 hc with hc|hc
   ·rw [hc];exact re h
   ·exact de l m r r' hr c hc
theorem pN {s0 s:St} (h:eqW s0 s):s=s0:=by
 obtain ⟨ho,h⟩:=h
 obtain ⟨v,h1,h2⟩:=As.1 h
 subst h2
 have hn: ∀c∈s0.tmps,c.eE=true:=by
  unfold da at h1
  cases hr:Kh s0.heap s.heap () with
  |none=>rw [hr] at h1;cases h1
  |some r=>rw [hr] at h1;exact de _ _ _ _ h1
 have e:=(db h1).symm.trans (db (kM s0 hn))
 simp only [St.Gh,St.mk.injEq] at e
 obtain ⟨e1,e2⟩:=e
 obtain ⟨l1,l2⟩:=ub s0.tmps s.tmps e1.symm hn
 unfold zh at ho
 obtain ⟨g1,g2⟩:=List.append_inj ho l1.symm
 have k1:=l2 g1.symm
 have k2:=pW s.heap s0.heap e2 g2
 cases s;cases s0
 simp only at k1 k2
 rw [k1,k2]
end Go.Proofs.Ytjbdmibbbpdnnaa
