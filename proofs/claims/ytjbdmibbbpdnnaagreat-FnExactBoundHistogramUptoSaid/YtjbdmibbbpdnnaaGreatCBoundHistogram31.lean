/-
  Part 32 of the proof that the statement FnExactBoundHistogram holds.
-/
import Derived.Test.YtjbdmibbbpdnnaaGreatCBoundHistogram30
namespace Go.Proofs.YtjbdmibbbpdnnaaGreat
open Go.RowKit
def Mg:AC->AC
 | .own l _ _=> .own l 0 0
 |c=>c
theorem jY: ∀(c d:AC) {R:Type} (r:R) (v:XE c R),j0 c d r=some v->Mg (fg c v).1=Mg d/\(fg c v).2=r:=by
 intro c d R r v h
 cases c<;>cases d<;>simp only [j0] at h<;>first|(cases h;first|done|exact ⟨rfl,rfl⟩)|skip
 all_goals
  split at h
  ·rename_i hc
   first
    |(obtain ⟨h1,h2⟩:=hc;subst h1;subst h2;injection h with h;subst h;exact ⟨rfl,rfl⟩)
    |(subst hc;injection h with h;subst h;exact ⟨rfl,rfl⟩)
  ·cases h
theorem Zu: ∀(l m:List AC) {R:Type} (r:R) (v:yj l R),Lt l m r=some v->(Tj l v).1.map Mg=m.map Mg/\(Tj l v).2=r
 | [],[],R,r,v,h=>by simp only [Lt] at h;injection h with h;subst h;exact ⟨rfl,rfl⟩
 | [],_::_,R,r,v,h=>by simp [Lt] at h
 |_::_,[],R,r,v,h=>by simp [Lt] at h
 |c::l,d::m,R,r,v,h=>by
  simp only [Lt] at h
  cases hr:Lt l m r with
  |none=>rw [hr] at h;cases h
  |some r'=>
   rw [hr] at h
   obtain ⟨h1,h2⟩:=jY c d r' v h
   obtain ⟨h3,h4⟩:=Zu l m r r' hr
   simp only [Tj,List.map_cons]
   rw [h1,h2,h3]
   exact ⟨rfl,h4⟩
theorem uX: ∀(c d:AV) {R:Type} (r:R) (v:XF c R),fk c d r=some v->(mu c v).1.map Mg=d.map Mg/\(mu c v).2=r
 | .at a, .at b,R,r,v,h=>by
  obtain ⟨h1,h2⟩:=jY a b r v h
  exact ⟨by show AV.at _=AV.at _;rw [h1],h2⟩
 | .agg cs, .agg ds,R,r,v,h=>by
  obtain ⟨h1,h2⟩:=Zu cs ds r v h
  exact ⟨by show AV.agg _=AV.agg _;rw [h1],h2⟩
 | .Ur fr τ y, .Ur Oy Ja x,R,r,v,h=>by
  by_cases hc:Ja=τ/\Oy=fr
  ·obtain ⟨h1,h2⟩:=hc
   subst h1;subst h2
   have h3:some ((x,r):Ja.den×R)=some v:=by
    have:fk (.Ur Oy Ja y) (.Ur Oy Ja x) r=some ((x,r):Ja.den×R):=dif_pos ⟨rfl,rfl⟩
    exact this.symm.trans h
   injection h3 with h3
   subst h3;exact ⟨rfl,rfl⟩
  ·have h3:fk (.Ur fr τ y) (.Ur Oy Ja x) r=none:=dif_neg hc
   rw [h3] at h;cases h
 | .at _, .agg _,_,_,_,h=>nomatch (show none=some _ from h)
 | .at _, .Ur _ _ _,_,_,_,h=>nomatch (show none=some _ from h)
 | .agg _, .at _,_,_,_,h=>nomatch (show none=some _ from h)
 | .agg _, .Ur _ _ _,_,_,_,h=>nomatch (show none=some _ from h)
 | .Ur _ _ _, .at _,_,_,_,h=>nomatch (show none=some _ from h)
 | .Ur _ _ _, .agg _,_,_,_,h=>nomatch (show none=some _ from h)
 | .Iw _, .at _,_,_,_,h=>nomatch (show none=some _ from h)
 | .Iw _, .agg _,_,_,_,h=>nomatch (show none=some _ from h)
 | .Iw _, .Ur _ _ _,_,_,_,h=>nomatch (show none=some _ from h)
 | .Iw _, .Iw _,_,_,_,h=>nomatch (show none=some _ from h)
 | .at _, .Iw _,_,_,_,h=>nomatch (show none=some _ from h)
 | .agg _, .Iw _,_,_,_,h=>nomatch (show none=some _ from h)
 | .Ur _ _ _, .Iw _,_,_,_,h=>nomatch (show none=some _ from h)
theorem wO: ∀(c d:OB) {R:Type} (r:R) (v:obV c R),Mk c d r=some v->(nC c v).1.map Mg=d.map Mg/\(nC c v).2=r
 | .arr fr tr e tid ys, .arr Oy MJ e' Nv xs,R,r,v,h=>by
  by_cases hc:e'=e/\Oy=fr/\MJ=tr/\Nv=tid
  ·obtain ⟨h1,h2,h3,h4⟩:=hc
   subst h1;subst h2;subst h3;subst h4
   have h3:some ((xs,r):List e'.den×R)=some v:=by
    have:Mk (.arr Oy MJ e' Nv ys) (.arr Oy MJ e' Nv xs) r=some ((xs,r):List e'.den×R):=dif_pos ⟨rfl,rfl,rfl,rfl⟩
    exact this.symm.trans h
   injection h3 with h3
   subst h3;exact ⟨rfl,rfl⟩
  ·have h3:Mk (.arr fr tr e tid ys) (.arr Oy MJ e' Nv xs) r=none:=dif_neg hc
   rw [h3] at h;cases h
 | .Dc e tid ys, .Dc e' Nv xs,R,r,v,h=>by
  by_cases hc:e'=e/\Nv=tid
  ·obtain ⟨h1,h4⟩:=hc
   subst h1;subst h4
   have h3:some ((xs,r):List e'.den×R)=some v:=by
    have:Mk (.Dc e' Nv ys) (.Dc e' Nv xs) r=some ((xs,r):List e'.den×R):=dif_pos ⟨rfl,rfl⟩
    exact this.symm.trans h
   injection h3 with h3
   subst h3;exact ⟨rfl,rfl⟩
  ·have h3:Mk (.Dc e tid ys) (.Dc e' Nv xs) r=none:=dif_neg hc
   rw [h3] at h;cases h
 | .Oo vt m, .Oo YB m',R,r,v,h=>by
  by_cases hc:YB=vt
  ·subst hc
   have h3:some ((m',r):(ByteArray->Option YB.den)×R)=some v:=by
    have:Mk (.Oo YB m) (.Oo YB m') r=some ((m',r):(ByteArray->Option YB.den)×R):=dif_pos rfl
    exact this.symm.trans h
   injection h3 with h3
   subst h3;exact ⟨rfl,rfl⟩
  ·have h3:Mk (.Oo vt m) (.Oo YB m') r=none:=dif_neg hc
   rw [h3] at h;cases h
 | .var t vs, .var t' us,R,r,v,h=>by
  by_cases hc:t'=t
  ·subst hc
   have h0:Mk (.var t' vs) (.var t' us) r=Lt vs us r:=if_pos rfl
   rw [h0] at h
   obtain ⟨h1,h2⟩:=Zu vs us r v h
   exact ⟨by show OB.var _ _=OB.var _ _;rw [h1],h2⟩
  ·have h3:Mk (.var t vs) (.var t' us) r=none:=if_neg hc
   rw [h3] at h;cases h
 | .Al e te ys out none, .Al e' Lb xs bI none,R,r,v,h=>by
  by_cases hc:e'=e/\Lb=te/\bI=out
  ·obtain ⟨h1,h2,h4⟩:=hc
   subst h1;subst h2;subst h4
   have h3:some ((xs,r):List (List e'.den)×R)=some v:=by
    have:Mk (.Al e' Lb ys bI none) (.Al e' Lb xs bI none) r=some ((xs,r):List (List e'.den)×R):=dif_pos ⟨rfl,rfl,rfl⟩
    exact this.symm.trans h
   injection h3 with h3
   subst h3;exact ⟨rfl,rfl⟩
  ·have h3:Mk (.Al e te ys out none) (.Al e' Lb xs bI none) r=none:=dif_neg hc
   rw [h3] at h;cases h
 | .Al e te ys out (some p), .Al e' Lb xs bI (some p'),R,r,v,h=>by
  by_cases hc:e'=e/\Lb=te/\bI=out/\p'.1=p.1
  ·obtain ⟨h1,h2,h4,h5⟩:=hc
   subst h1;subst h2;subst h4
   have h3:some ((xs,p'.2,r):List (List e'.den)×(Nat×R))=some v:=by
    have:Mk (.Al e' Lb ys bI (some p)) (.Al e' Lb xs bI (some p')) r=some ((xs,p'.2,r):List (List e'.den)×(Nat×R)):=dif_pos ⟨rfl,rfl,rfl,h5⟩
    exact this.symm.trans h
   injection h3 with h3
   subst h3
   refine ⟨?_,rfl⟩
   show OB.Al e' Lb xs bI (some (p.1,p'.2))=OB.Al e' Lb xs bI (some p')
   rw [<-h5]
  ·have h3:Mk (.Al e te ys out (some p)) (.Al e' Lb xs bI (some p')) r=none:=dif_neg hc
   rw [h3] at h;cases h
 | .Al _ _ _ _ none, .Al _ _ _ _ (some _),_,_,_,h=>nomatch (show none=some _ from h)
 | .Al _ _ _ _ (some _), .Al _ _ _ _ none,_,_,_,h=>nomatch (show none=some _ from h)
 | .Al _ _ _ _ none, .arr _ _ _ _ _,_,_,_,h=>nomatch (show none=some _ from h)
 | .Al _ _ _ _ none, .Dc _ _ _,_,_,_,h=>nomatch (show none=some _ from h)
 | .Al _ _ _ _ none, .var _ _,_,_,_,h=>nomatch (show none=some _ from h)
 | .Al _ _ _ _ none, .Oo _ _,_,_,_,h=>nomatch (show none=some _ from h)
 | .Al _ _ _ _ (some _), .arr _ _ _ _ _,_,_,_,h=>nomatch (show none=some _ from h)
 | .Al _ _ _ _ (some _), .Dc _ _ _,_,_,_,h=>nomatch (show none=some _ from h)
 | .Al _ _ _ _ (some _), .var _ _,_,_,_,h=>nomatch (show none=some _ from h)
 | .Al _ _ _ _ (some _), .Oo _ _,_,_,_,h=>nomatch (show none=some _ from h)
 | .arr _ _ _ _ _, .Al _ _ _ _ _,_,_,_,h=>nomatch (show none=some _ from h)
 | .Dc _ _ _, .Al _ _ _ _ _,_,_,_,h=>nomatch (show none=some _ from h)
 | .var _ _, .Al _ _ _ _ _,_,_,_,h=>nomatch (show none=some _ from h)
 | .Oo _ _, .Al _ _ _ _ _,_,_,_,h=>nomatch (show none=some _ from h)
 | .arr _ _ _ _ _, .var _ _,_,_,_,h=>nomatch (show none=some _ from h)
 | .arr _ _ _ _ _, .Dc _ _ _,_,_,_,h=>nomatch (show none=some _ from h)
 | .arr _ _ _ _ _, .Oo _ _,_,_,_,h=>nomatch (show none=some _ from h)
 | .Dc _ _ _, .var _ _,_,_,_,h=>nomatch (show none=some _ from h)
 | .Dc _ _ _, .arr _ _ _ _ _,_,_,_,h=>nomatch (show none=some _ from h)
 | .Dc _ _ _, .Oo _ _,_,_,_,h=>nomatch (show none=some _ from h)
 | .Oo _ _, .var _ _,_,_,_,h=>nomatch (show none=some _ from h)
 | .Oo _ _, .arr _ _ _ _ _,_,_,_,h=>nomatch (show none=some _ from h)
 | .Oo _ _, .Dc _ _ _,_,_,_,h=>nomatch (show none=some _ from h)
 | .var _ _, .arr _ _ _ _ _,_,_,_,h=>nomatch (show none=some _ from h)
 | .var _ _, .Dc _ _ _,_,_,_,h=>nomatch (show none=some _ from h)
 | .var _ _, .Oo _ _,_,_,_,h=>nomatch (show none=some _ from h)
theorem eV: ∀(l m:List AV) {R:Type} (r:R) (v:kX l R),Jn l m r=some v->(Pw l v).1.map (·.map Mg)=m.map (·.map Mg)/\(Pw l v).2=r
 | [],[],R,r,v,h=>by simp only [Jn] at h;injection h with h;subst h;exact ⟨rfl,rfl⟩
 | [],_::_,R,r,v,h=>by simp [Jn] at h
 |_::_,[],R,r,v,h=>by simp [Jn] at h
 |c::l,d::m,R,r,v,h=>by
  simp only [Jn] at h
  cases hr:Jn l m r with
  |none=>rw [hr] at h;cases h
  |some r'=>
   rw [hr] at h
   obtain ⟨h1,h2⟩:=uX c d r' v h
   obtain ⟨h3,h4⟩:=eV l m r r' hr
   simp only [Pw,List.map_cons]
   rw [h1,h2,h3]
   exact ⟨rfl,h4⟩
theorem ey: ∀(l m:List (Nat×OB)) {R:Type} (r:R) (v:qH l R),Kh l m r=some v->(Ys l v).1.map (λp=>(p.1,p.2.map Mg))=m.map (λp=>(p.1,p.2.map Mg))/\(Ys l v).2=r
 | [],[],R,r,v,h=>by simp only [Kh] at h;injection h with h;subst h;exact ⟨rfl,rfl⟩
 | [],_::_,R,r,v,h=>by simp [Kh] at h
 |_::_,[],R,r,v,h=>by simp [Kh] at h
 |c::l,d::m,R,r,v,h=>by
  simp only [Kh] at h
  split at h
  ·rename_i hk
   cases hr:Kh l m r with
   |none=>rw [hr] at h;cases h
   |some r'=>
    rw [hr] at h
    obtain ⟨h1,h2⟩:=wO c.2 d.2 r' v h
    obtain ⟨h3,h4⟩:=ey l m r r' hr
    simp only [Ys,List.map_cons]
    rw [h1,h2,h3,hk]
    exact ⟨rfl,h4⟩
  ·cases h
theorem dk {s t:St} {v:stV s} (h:dj s t=some v):(di s v).Gj Mg=t.Gj Mg:=by
 unfold dj at h
 cases hr:Kh s.heap t.heap () with
 |none=>rw [hr] at h;cases h
 |some r=>
  rw [hr] at h
  obtain ⟨h1,h2⟩:=eV s.tmps t.tmps r v h
  obtain ⟨h3,_⟩:=ey s.heap t.heap () r hr
  simp only [di,St.Gj]
  rw [h1,h2,h3]
theorem jZ: ∀(c:AC) {R:Type} (r:R),j0 c c r=some (BK c r):=by
 intro c R r
 cases c<;>simp [j0,BK]
theorem Zv: ∀(l:List AC) {R:Type} (r:R),Lt l l r=some (mg l r)
 | [],_,_=>rfl
 |c::l,_,r=>by simp only [Lt,Zv l r,mg];exact jZ c _
def AV.eJ:AV->Bool
 | .Iw _=>false
 |_=>true
theorem uY: ∀(c:AV),c.eJ=true-> ∀ {R:Type} (r:R),fk c c r=some (QU c r):=by
 intro c hn R r
 cases c with
 |Iw l=>cases hn
 | «at»a=>exact jZ a r
 |agg cs=>exact Zv cs r
 |Ur fr τ x=>exact dif_pos ⟨rfl,rfl⟩
theorem wP: ∀(c:OB) {R:Type} (r:R),Mk c c r=some (SP c r):=by
 intro c R r
 cases c with
 |arr fr tr e t xs=>exact dif_pos ⟨rfl,rfl,rfl,rfl⟩
 |Dc e t xs=>exact dif_pos ⟨rfl,rfl⟩
 |Oo v m=>exact dif_pos rfl
 |Al e te rows out kp=>
  cases kp with
  |none=>exact dif_pos ⟨rfl,rfl,rfl⟩
  |some p=>exact dif_pos ⟨rfl,rfl,rfl,rfl⟩
 |var t vs=>
  have h0:Mk (.var t vs) (.var t vs) r=Lt vs vs r:=if_pos rfl
  exact h0.trans (Zv vs r)
theorem eW: ∀(l:List AV),(∀c∈l,c.eJ=true)-> ∀ {R:Type} (r:R),Jn l l r=some (m7 l r)
 | [],_,_,_=>rfl
 |c::l,h,_,r=>by simp only [Jn,eW l (λc hc=>h c (List.mem_cons_of_mem _ hc)) r,m7];exact uY c (h c (by simp)) _
theorem ez: ∀(l:List (Nat×OB)) {R:Type} (r:R),Kh l l r=some (lV l r)
 | [],_,_=>rfl
 |c::l,_,r=>by simp only [Kh,if_true,ez l r,lV];exact wP c.2 _
theorem kS (s:St) (h: ∀c∈s.tmps,c.eJ=true):dj s s=some (CW s):=by
 simp only [dj,ez,CW]
 exact eW _ h _
theorem As {α:Type} {o:Option α} {K:α->Prop} :Eb o K↔ ∃x,o=some x/\K x:=by
 unfold Eb
 cases o with
 |none=>simp
 |some x=>simp
theorem gi: ∀(l m:List AC),l.map Mg=m.map Mg->l.flatMap Ut=m.flatMap Ut->l=m
 | [],[],_,_=>rfl
 | [],_::_,h,_=>by simp at h
 |_::_,[],h,_=>by simp at h
 |c::l,d::m,h,ho=>by
  simp only [List.map_cons,List.cons.injEq] at h
  simp only [List.flatMap_cons] at ho
  have hcd:c=d/\l.flatMap Ut=m.flatMap Ut:=by
   cases c<;>cases d<;>first|(cases h.1;done)|skip
   all_goals first
    |(obtain ⟨h1,_⟩:=h
      simp only [Mg,AC.own.injEq] at h1
      simp only [Ut,List.cons_append,List.nil_append,List.cons.injEq,Prod.mk.injEq] at ho
      exact ⟨by rw [h1.1,ho.1.1,ho.1.2],ho.2⟩)
    |exact ⟨h.1,by simpa only [Ut,List.nil_append] using ho⟩
  rw [hcd.1,gi l m h.2 hcd.2]
theorem iq: ∀(l m:List AC),l.map Mg=m.map Mg->(l.flatMap Ut).length=(m.flatMap Ut).length
 | [],[],_=>rfl
 | [],_::_,h=>by simp at h
 |_::_,[],h=>by simp at h
 |c::l,d::m,h=>by
  simp only [List.map_cons,List.cons.injEq] at h
  simp only [List.flatMap_cons,List.length_append,iq l m h.2]
  congr 1
  cases c<;>cases d<;>first|rfl|(cases h.1;done)
theorem NN {c d:AV} (h:c.map Mg=d.map Mg):(Uv c).length=(Uv d).length/\(Uv c=Uv d->(∀l,c≠ .Iw l)->c=d):=by
 cases c with
 | «at»a=>
  cases d<;>simp only [AV.map,AV.at.injEq,reduceCtorEq] at h
  rename_i b
  have h1: [a].map Mg= [b].map Mg:=by simp [h]
  refine ⟨by simpa [Uv] using iq [a] [b] h1,λho _=>?_⟩
  have:=gi [a] [b] h1 (by simpa [Uv] using ho)
  simpa using this
 |agg cs=>
  cases d<;>simp only [AV.map,AV.agg.injEq,reduceCtorEq] at h
  rename_i ds
  exact ⟨iq cs ds h,λho _=>by rw [gi cs ds h ho]⟩
 |Ur fr τ x=>
  cases d<;>simp only [AV.map,reduceCtorEq] at h
  exact ⟨rfl,λ_ _=>h⟩
 |Iw l=>
  cases d<;>simp only [AV.map,reduceCtorEq] at h
  exact ⟨rfl,λ_ hn=>absurd rfl (hn l)⟩
theorem va: ∀(l m:List AV),l.map (·.map Mg)=m.map (·.map Mg)->(∀c∈l,c.eJ=true)->(l.flatMap Uv).length=(m.flatMap Uv).length/\(l.flatMap Uv=m.flatMap Uv->l=m)
 | [],[],_,_=>⟨rfl,λ_=>rfl⟩
 | [],_::_,h,_=>by simp at h
 |_::_,[],h,_=>by simp at h
 |c::l,d::m,h,hn=>by
  simp only [List.map_cons,List.cons.injEq] at h
  obtain ⟨h1,h2⟩:=NN h.1
  obtain ⟨h3,h4⟩:=va l m h.2 λc hc=>hn c (List.mem_cons_of_mem _ hc)
  refine ⟨by simp only [List.flatMap_cons,List.length_append,h1,h3],λho=>?_⟩
  simp only [List.flatMap_cons] at ho
  obtain ⟨g1,g2⟩:=List.append_inj ho h1
  have hnt: ∀l',c≠ .Iw l':= λl' e=>by
   have:=hn c (by simp)
   rw [e] at this
   cases this
  rw [h2 g1 hnt,h4 g2]
theorem PB {c d:OB} (h:c.map Mg=d.map Mg):(fQ c).length=(fQ d).length/\(fQ c=fQ d->c=d):=by
 cases c with
 |var t vs=>
  cases d<;>simp only [OB.map,OB.var.injEq,reduceCtorEq] at h
  rename_i t' us
  obtain ⟨rfl,h⟩:=h
  exact ⟨iq vs us h,λho=>by rw [gi vs us h ho]⟩
 |_=>cases d<;>simp only [OB.map,reduceCtorEq] at h<;>exact ⟨rfl,λ_=>h⟩
theorem qI: ∀(l m:List (Nat×OB)),l.map (λp=>(p.1,p.2.map Mg))=m.map (λp=>(p.1,p.2.map Mg))->(l.flatMap λp=>fQ p.2)=(m.flatMap λp=>fQ p.2)->l=m
 | [],[],_,_=>rfl
 | [],_::_,h,_=>by simp at h
 |_::_,[],h,_=>by simp at h
 |(k,c)::l,(k',d)::m,h,ho=>by
  simp only [List.map_cons,List.cons.injEq,Prod.mk.injEq] at h
  simp only [List.flatMap_cons] at ho
  obtain ⟨h1,h2⟩:=PB h.1.2
  obtain ⟨g1,g2⟩:=List.append_inj ho h1
  rw [h.1.1,h2 g1,qI l m h.2 g2]
theorem uZ (l:List (Bool×List AC)) (e:AV) {R:Type} (r:R):fk (.Iw l) e r=none:=by cases e<;>rfl
theorem sd {d e:AV} {R:Type} {r:R} {v:XF d R} (h:fk d e r=some v):d.eJ=true:=by
 cases d with
 |Iw l=>rw [uZ] at h;cases h
 |_=>rfl
theorem dq: ∀(l m:List AV) {R:Type} (r:R) (v:kX l R),Jn l m r=some v-> ∀c∈l,c.eJ=true
 | [],_,_,_,_,_,c,hc=>by cases hc
 |d::l,[],_,r,v,h,c,hc=>by cases h
 |d::l,e::m,R,r,v,h,c,hc=>by
  simp only [Jn] at h
  cases hr:Jn l m r with
  |none=>rw [hr] at h;cases h
  |some r'=>
   rw [hr] at h
   rcases List.mem_cons.1 hc with hc|hc
   ·rw [hc];exact sd h
   ·exact dq l m r r' hr c hc
theorem qB {s0 s:St} (h:eqW s0 s):s=s0:=by
 obtain ⟨ho,h⟩:=h
 obtain ⟨v,h1,h2⟩:=As.1 h
 subst h2
 have hn: ∀c∈s0.tmps,c.eJ=true:=by
  unfold dj at h1
  cases hr:Kh s0.heap s.heap () with
  |none=>rw [hr] at h1;cases h1
  |some r=>rw [hr] at h1;exact dq _ _ _ _ h1
 have e:=(dk h1).symm.trans (dk (kS s0 hn))
 simp only [St.Gj,St.mk.injEq] at e
 obtain ⟨e1,e2⟩:=e
 obtain ⟨l1,l2⟩:=va s0.tmps s.tmps e1.symm hn
 unfold AI at ho
 obtain ⟨g1,g2⟩:=List.append_inj ho l1.symm
 have k1:=l2 g1.symm
 have k2:=qI s.heap s0.heap e2 g2
 cases s;cases s0
 simp only at k1 k2
 rw [k1,k2]
end Go.Proofs.YtjbdmibbbpdnnaaGreat
