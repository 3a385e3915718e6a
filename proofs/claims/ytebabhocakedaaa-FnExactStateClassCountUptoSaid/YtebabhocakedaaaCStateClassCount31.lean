/-
  Part 32 of the proof that the statement FnExactStateClassCount holds.
-/
import Derived.Test.YtebabhocakedaaaCStateClassCount30
namespace Go.Proofs.Ytebabhocakedaaa
open Go.RowKit
def Ko:AC→AC
 | .own l _ _=> .own l 0 0
 |c=>c
theorem Agf: ∀(c d:AC) {R:Type} (r:R) (v:acV c R),Af3 c d r=some v→Ko (Ac8 c v).1=Ko d∧(Ac8 c v).2=r:=by
 intro c d R r v h
 cases c<;>cases d<;>simp only [Af3] at h<;>first|(cases h;first|done|exact ⟨rfl,rfl⟩)|skip
 all_goals
  split at h
  ·rename_i hc
   first
    |(obtain ⟨h1,h2⟩:=hc;subst h1;subst h2;injection h with h;subst h;exact ⟨rfl,rfl⟩)
    |(subst hc;injection h with h;subst h;exact ⟨rfl,rfl⟩)
  ·cases h
theorem Vg: ∀(l m:List AC) {R:Type} (r:R) (v:Auy l R),Kf l m r=some v→(Pw l v).1.map Ko=m.map Ko∧(Pw l v).2=r
 | [],[],R,r,v,h=>by simp only [Kf] at h;injection h with h;subst h;exact ⟨rfl,rfl⟩
 | [],_::_,R,r,v,h=>by simp [Kf] at h
 |_::_,[],R,r,v,h=>by simp [Kf] at h
 |c::l,d::m,R,r,v,h=>by
  simp only [Kf] at h
  cases hr:Kf l m r with
  |none=>rw [hr] at h;cases h
  |some r'=>
   rw [hr] at h
   obtain ⟨h1,h2⟩:=Agf c d r' v h
   obtain ⟨h3,h4⟩:=Vg l m r r' hr
   simp only [Pw,List.map_cons]
   rw [h1,h2,h3]
   exact ⟨rfl,h4⟩
theorem Ar8: ∀(c d:AV) {R:Type} (r:R) (v:avV c R),Acd c d r=some v→(Ail c v).1.map Ko=d.map Ko∧(Ail c v).2=r
 | .at a, .at b,R,r,v,h=>by
  obtain ⟨h1,h2⟩:=Agf a b r v h
  exact ⟨by show AV.at _=AV.at _;rw [h1],h2⟩
 | .agg cs, .agg ds,R,r,v,h=>by
  obtain ⟨h1,h2⟩:=Vg cs ds r v h
  exact ⟨by show AV.agg _=AV.agg _;rw [h1],h2⟩
 | .tup fr τ y, .tup fr' τ' x,R,r,v,h=>by
  by_cases hc:τ'=τ∧fr'=fr
  ·obtain ⟨h1,h2⟩:=hc
   subst h1;subst h2
   have h3:some ((x,r):τ'.den×R)=some v:=by
    have:Acd (.tup fr' τ' y) (.tup fr' τ' x) r=some ((x,r):τ'.den×R):=dif_pos ⟨rfl,rfl⟩
    exact this.symm.trans h
   injection h3 with h3
   subst h3;exact ⟨rfl,rfl⟩
  ·have h3:Acd (.tup fr τ y) (.tup fr' τ' x) r=none:=dif_neg hc
   rw [h3] at h;cases h
 | .at _, .agg _,_,_,_,h=>nomatch (show none=some _ from h)
 | .at _, .tup _ _ _,_,_,_,h=>nomatch (show none=some _ from h)
 | .agg _, .at _,_,_,_,h=>nomatch (show none=some _ from h)
 | .agg _, .tup _ _ _,_,_,_,h=>nomatch (show none=some _ from h)
 | .tup _ _ _, .at _,_,_,_,h=>nomatch (show none=some _ from h)
 | .tup _ _ _, .agg _,_,_,_,h=>nomatch (show none=some _ from h)
 | .tupc _, .at _,_,_,_,h=>nomatch (show none=some _ from h)
 | .tupc _, .agg _,_,_,_,h=>nomatch (show none=some _ from h)
 | .tupc _, .tup _ _ _,_,_,_,h=>nomatch (show none=some _ from h)
 | .tupc _, .tupc _,_,_,_,h=>nomatch (show none=some _ from h)
 | .at _, .tupc _,_,_,_,h=>nomatch (show none=some _ from h)
 | .agg _, .tupc _,_,_,_,h=>nomatch (show none=some _ from h)
 | .tup _ _ _, .tupc _,_,_,_,h=>nomatch (show none=some _ from h)
theorem At3: ∀(c d:OB) {R:Type} (r:R) (v:obV c R),Ks c d r=some v→(Ajs c v).1.map Ko=d.map Ko∧(Ajs c v).2=r
 | .arr fr tr e tid ys, .arr fr' tr' e' tid' xs,R,r,v,h=>by
  by_cases hc:e'=e∧fr'=fr∧tr'=tr∧tid'=tid
  ·obtain ⟨h1,h2,h3,h4⟩:=hc
   subst h1;subst h2;subst h3;subst h4
   have h3:some ((xs,r):List e'.den×R)=some v:=by
    have:Ks (.arr fr' tr' e' tid' ys) (.arr fr' tr' e' tid' xs) r=some ((xs,r):List e'.den×R):=dif_pos ⟨rfl,rfl,rfl,rfl⟩
    exact this.symm.trans h
   injection h3 with h3
   subst h3;exact ⟨rfl,rfl⟩
  ·have h3:Ks (.arr fr tr e tid ys) (.arr fr' tr' e' tid' xs) r=none:=dif_neg hc
   rw [h3] at h;cases h
 | .xarr e tid ys, .xarr e' tid' xs,R,r,v,h=>by
  by_cases hc:e'=e∧tid'=tid
  ·obtain ⟨h1,h4⟩:=hc
   subst h1;subst h4
   have h3:some ((xs,r):List e'.den×R)=some v:=by
    have:Ks (.xarr e' tid' ys) (.xarr e' tid' xs) r=some ((xs,r):List e'.den×R):=dif_pos ⟨rfl,rfl⟩
    exact this.symm.trans h
   injection h3 with h3
   subst h3;exact ⟨rfl,rfl⟩
  ·have h3:Ks (.xarr e tid ys) (.xarr e' tid' xs) r=none:=dif_neg hc
   rw [h3] at h;cases h
 | .smp vt m, .smp vt' m',R,r,v,h=>by
  by_cases hc:vt'=vt
  ·subst hc
   have h3:some ((m',r):(ByteArray→Option vt'.den)×R)=some v:=by
    have:Ks (.smp vt' m) (.smp vt' m') r=some ((m',r):(ByteArray→Option vt'.den)×R):=dif_pos rfl
    exact this.symm.trans h
   injection h3 with h3
   subst h3;exact ⟨rfl,rfl⟩
  ·have h3:Ks (.smp vt m) (.smp vt' m') r=none:=dif_neg hc
   rw [h3] at h;cases h
 | .var t vs, .var t' us,R,r,v,h=>by
  by_cases hc:t'=t
  ·subst hc
   have h0:Ks (.var t' vs) (.var t' us) r=Kf vs us r:=if_pos rfl
   rw [h0] at h
   obtain ⟨h1,h2⟩:=Vg vs us r v h
   exact ⟨by show OB.var _ _=OB.var _ _;rw [h1],h2⟩
  ·have h3:Ks (.var t vs) (.var t' us) r=none:=if_neg hc
   rw [h3] at h;cases h
 | .grid e te ys out none, .grid e' te' xs out' none,R,r,v,h=>by
  by_cases hc:e'=e∧te'=te∧out'=out
  ·obtain ⟨h1,h2,h4⟩:=hc
   subst h1;subst h2;subst h4
   have h3:some ((xs,r):List (List e'.den)×R)=some v:=by
    have:Ks (.grid e' te' ys out' none) (.grid e' te' xs out' none) r=some ((xs,r):List (List e'.den)×R):=dif_pos ⟨rfl,rfl,rfl⟩
    exact this.symm.trans h
   injection h3 with h3
   subst h3;exact ⟨rfl,rfl⟩
  ·have h3:Ks (.grid e te ys out none) (.grid e' te' xs out' none) r=none:=dif_neg hc
   rw [h3] at h;cases h
 | .grid e te ys out (some p), .grid e' te' xs out' (some p'),R,r,v,h=>by
  by_cases hc:e'=e∧te'=te∧out'=out∧p'.1=p.1
  ·obtain ⟨h1,h2,h4,h5⟩:=hc
   subst h1;subst h2;subst h4
   have h3:some ((xs,p'.2,r):List (List e'.den)×(Nat×R))=some v:=by
    have:Ks (.grid e' te' ys out' (some p)) (.grid e' te' xs out' (some p')) r=some ((xs,p'.2,r):List (List e'.den)×(Nat×R)):=dif_pos ⟨rfl,rfl,rfl,h5⟩
    exact this.symm.trans h
   injection h3 with h3
   subst h3
   refine ⟨?_,rfl⟩
   show OB.grid e' te' xs out' (some (p.1,p'.2))=OB.grid e' te' xs out' (some p')
   rw [←h5]
  ·have h3:Ks (.grid e te ys out (some p)) (.grid e' te' xs out' (some p')) r=none:=dif_neg hc
   rw [h3] at h;cases h
 | .grid _ _ _ _ none, .grid _ _ _ _ (some _),_,_,_,h=>nomatch (show none=some _ from h)
 | .grid _ _ _ _ (some _), .grid _ _ _ _ none,_,_,_,h=>nomatch (show none=some _ from h)
 | .grid _ _ _ _ none, .arr _ _ _ _ _,_,_,_,h=>nomatch (show none=some _ from h)
 | .grid _ _ _ _ none, .xarr _ _ _,_,_,_,h=>nomatch (show none=some _ from h)
 | .grid _ _ _ _ none, .var _ _,_,_,_,h=>nomatch (show none=some _ from h)
 | .grid _ _ _ _ none, .smp _ _,_,_,_,h=>nomatch (show none=some _ from h)
 | .grid _ _ _ _ (some _), .arr _ _ _ _ _,_,_,_,h=>nomatch (show none=some _ from h)
 | .grid _ _ _ _ (some _), .xarr _ _ _,_,_,_,h=>nomatch (show none=some _ from h)
 | .grid _ _ _ _ (some _), .var _ _,_,_,_,h=>nomatch (show none=some _ from h)
 | .grid _ _ _ _ (some _), .smp _ _,_,_,_,h=>nomatch (show none=some _ from h)
 | .arr _ _ _ _ _, .grid _ _ _ _ _,_,_,_,h=>nomatch (show none=some _ from h)
 | .xarr _ _ _, .grid _ _ _ _ _,_,_,_,h=>nomatch (show none=some _ from h)
 | .var _ _, .grid _ _ _ _ _,_,_,_,h=>nomatch (show none=some _ from h)
 | .smp _ _, .grid _ _ _ _ _,_,_,_,h=>nomatch (show none=some _ from h)
 | .arr _ _ _ _ _, .var _ _,_,_,_,h=>nomatch (show none=some _ from h)
 | .arr _ _ _ _ _, .xarr _ _ _,_,_,_,h=>nomatch (show none=some _ from h)
 | .arr _ _ _ _ _, .smp _ _,_,_,_,h=>nomatch (show none=some _ from h)
 | .xarr _ _ _, .var _ _,_,_,_,h=>nomatch (show none=some _ from h)
 | .xarr _ _ _, .arr _ _ _ _ _,_,_,_,h=>nomatch (show none=some _ from h)
 | .xarr _ _ _, .smp _ _,_,_,_,h=>nomatch (show none=some _ from h)
 | .smp _ _, .var _ _,_,_,_,h=>nomatch (show none=some _ from h)
 | .smp _ _, .arr _ _ _ _ _,_,_,_,h=>nomatch (show none=some _ from h)
 | .smp _ _, .xarr _ _ _,_,_,_,h=>nomatch (show none=some _ from h)
 | .var _ _, .arr _ _ _ _ _,_,_,_,h=>nomatch (show none=some _ from h)
 | .var _ _, .xarr _ _ _,_,_,_,h=>nomatch (show none=some _ from h)
 | .var _ _, .smp _ _,_,_,_,h=>nomatch (show none=some _ from h)
theorem Abv: ∀(l m:List AV) {R:Type} (r:R) (v:Ahf l R),Hz l m r=some v→(Mw l v).1.map (·.map Ko)=m.map (·.map Ko)∧(Mw l v).2=r
 | [],[],R,r,v,h=>by simp only [Hz] at h;injection h with h;subst h;exact ⟨rfl,rfl⟩
 | [],_::_,R,r,v,h=>by simp [Hz] at h
 |_::_,[],R,r,v,h=>by simp [Hz] at h
 |c::l,d::m,R,r,v,h=>by
  simp only [Hz] at h
  cases hr:Hz l m r with
  |none=>rw [hr] at h;cases h
  |some r'=>
   rw [hr] at h
   obtain ⟨h1,h2⟩:=Ar8 c d r' v h
   obtain ⟨h3,h4⟩:=Abv l m r r' hr
   simp only [Mw,List.map_cons]
   rw [h1,h2,h3]
   exact ⟨rfl,h4⟩
theorem Abe: ∀(l m:List (Nat×OB)) {R:Type} (r:R) (v:Amm l R),Iw l m r=some v→(Uj l v).1.map (fun p=>(p.1,p.2.map Ko))=m.map (fun p=>(p.1,p.2.map Ko))∧(Uj l v).2=r
 | [],[],R,r,v,h=>by simp only [Iw] at h;injection h with h;subst h;exact ⟨rfl,rfl⟩
 | [],_::_,R,r,v,h=>by simp [Iw] at h
 |_::_,[],R,r,v,h=>by simp [Iw] at h
 |c::l,d::m,R,r,v,h=>by
  simp only [Iw] at h
  split at h
  ·rename_i hk
   cases hr:Iw l m r with
   |none=>rw [hr] at h;cases h
   |some r'=>
    rw [hr] at h
    obtain ⟨h1,h2⟩:=At3 c.2 d.2 r' v h
    obtain ⟨h3,h4⟩:=Abe l m r r' hr
    simp only [Uj,List.map_cons]
    rw [h1,h2,h3,hk]
    exact ⟨rfl,h4⟩
  ·cases h
theorem Aa4 {s t:St} {v:stV s} (h:Aa3 s t=some v):(Aa2 s v).Ew Ko=t.Ew Ko:=by
 unfold Aa3 at h
 cases hr:Iw s.heap t.heap () with
 |none=>rw [hr] at h;cases h
 |some r=>
  rw [hr] at h
  obtain ⟨h1,h2⟩:=Abv s.tmps t.tmps r v h
  obtain ⟨h3,_⟩:=Abe s.heap t.heap () r hr
  simp only [Aa2,St.Ew]
  rw [h1,h2,h3]
theorem Agg: ∀(c:AC) {R:Type} (r:R),Af3 c c r=some (Axm c r):=by
 intro c R r
 cases c<;>simp [Af3,Axm]
theorem Vh: ∀(l:List AC) {R:Type} (r:R),Kf l l r=some (Aid l r)
 | [],_,_=>rfl
 |c::l,_,r=>by simp only [Kf,Vh l r,Aid];exact Agg c _
def AV.Abl:AV→Bool
 | .tupc _=>false
 |_=>true
theorem Ar9: ∀(c:AV),c.Abl=true→ ∀ {R:Type} (r:R),Acd c c r=some (Be9 c r):=by
 intro c hn R r
 cases c with
 |tupc l=>cases hn
 | «at»a=>exact Agg a r
 |agg cs=>exact Vh cs r
 |tup fr τ x=>exact dif_pos ⟨rfl,rfl⟩
theorem At4: ∀(c:OB) {R:Type} (r:R),Ks c c r=some (Bec c r):=by
 intro c R r
 cases c with
 |arr fr tr e t xs=>exact dif_pos ⟨rfl,rfl,rfl,rfl⟩
 |xarr e t xs=>exact dif_pos ⟨rfl,rfl⟩
 |smp v m=>exact dif_pos rfl
 |grid e te rows out kp=>
  cases kp with
  |none=>exact dif_pos ⟨rfl,rfl,rfl⟩
  |some p=>exact dif_pos ⟨rfl,rfl,rfl,rfl⟩
 |var t vs=>
  have h0:Ks (.var t vs) (.var t vs) r=Kf vs vs r:=if_pos rfl
  exact h0.trans (Vh vs r)
theorem Abw: ∀(l:List AV),(∀c∈l,c.Abl=true)→ ∀ {R:Type} (r:R),Hz l l r=some (Ai6 l r)
 | [],_,_,_=>rfl
 |c::l,h,_,r=>by simp only [Hz,Abw l (fun c hc=>h c (List.mem_cons_of_mem _ hc)) r,Ai6];exact Ar9 c (h c (by simp)) _
theorem Abf: ∀(l:List (Nat×OB)) {R:Type} (r:R),Iw l l r=some (Ai4 l r)
 | [],_,_=>rfl
 |c::l,_,r=>by simp only [Iw,if_true,Abf l r,Ai4];exact At4 c.2 _
theorem Ahc (s:St) (h: ∀c∈s.tmps,c.Abl=true):Aa3 s s=some (Ayb s):=by
 simp only [Aa3,Abf,Ayb]
 exact Abw _ h _
theorem Al {α:Type} {o:Option α} {K:α→Prop} :Da o K↔ ∃x,o=some x∧K x:=by
 unfold Da
 cases o with
 |none=>simp
 |some x=>simp
theorem Adc: ∀(l m:List AC),l.map Ko=m.map Ko→l.flatMap Qv=m.flatMap Qv→l=m
 | [],[],_,_=>rfl
 | [],_::_,h,_=>by simp at h
 |_::_,[],h,_=>by simp at h
 |c::l,d::m,h,ho=>by
  simp only [List.map_cons,List.cons.injEq] at h
  simp only [List.flatMap_cons] at ho
  have hcd:c=d∧l.flatMap Qv=m.flatMap Qv:=by
   cases c<;>cases d<;>first|(cases h.1;done)|skip
   all_goals first
    |(obtain ⟨h1,_⟩:=h
      simp only [Ko,AC.own.injEq] at h1
      simp only [Qv,List.cons_append,List.nil_append,List.cons.injEq,Prod.mk.injEq] at ho
      exact ⟨by rw [h1.1,ho.1.1,ho.1.2],ho.2⟩)
    |exact ⟨h.1,by simpa only [Qv,List.nil_append] using ho⟩
  rw [hcd.1,Adc l m h.2 hcd.2]
theorem Aek: ∀(l m:List AC),l.map Ko=m.map Ko→(l.flatMap Qv).length=(m.flatMap Qv).length
 | [],[],_=>rfl
 | [],_::_,h=>by simp at h
 |_::_,[],h=>by simp at h
 |c::l,d::m,h=>by
  simp only [List.map_cons,List.cons.injEq] at h
  simp only [List.flatMap_cons,List.length_append,Aek l m h.2]
  congr 1
  cases c<;>cases d<;>first|rfl|(cases h.1;done)
theorem Bda {c d:AV} (h:c.map Ko=d.map Ko):(Qx c).length=(Qx d).length∧(Qx c=Qx d→(∀l,c≠ .tupc l)→c=d):=by
 cases c with
 | «at»a=>
  cases d<;>simp only [AV.map,AV.at.injEq,reduceCtorEq] at h
  rename_i b
  have h1: [a].map Ko= [b].map Ko:=by simp [h]
  refine ⟨by simpa [Qx] using Aek [a] [b] h1,fun ho _=>?_⟩
  have:=Adc [a] [b] h1 (by simpa [Qx] using ho)
  simpa using this
 |agg cs=>
  cases d<;>simp only [AV.map,AV.agg.injEq,reduceCtorEq] at h
  rename_i ds
  exact ⟨Aek cs ds h,fun ho _=>by rw [Adc cs ds h ho]⟩
 |tup fr τ x=>
  cases d<;>simp only [AV.map,reduceCtorEq] at h
  exact ⟨rfl,fun _ _=>h⟩
 |tupc l=>
  cases d<;>simp only [AV.map,reduceCtorEq] at h
  exact ⟨rfl,fun _ hn=>absurd rfl (hn l)⟩
theorem Arb: ∀(l m:List AV),l.map (·.map Ko)=m.map (·.map Ko)→(∀c∈l,c.Abl=true)→(l.flatMap Qx).length=(m.flatMap Qx).length∧(l.flatMap Qx=m.flatMap Qx→l=m)
 | [],[],_,_=>⟨rfl,fun _=>rfl⟩
 | [],_::_,h,_=>by simp at h
 |_::_,[],h,_=>by simp at h
 |c::l,d::m,h,hn=>by
  simp only [List.map_cons,List.cons.injEq] at h
  obtain ⟨h1,h2⟩:=Bda h.1
  obtain ⟨h3,h4⟩:=Arb l m h.2 fun c hc=>hn c (List.mem_cons_of_mem _ hc)
  refine ⟨by simp only [List.flatMap_cons,List.length_append,h1,h3],fun ho=>?_⟩
  simp only [List.flatMap_cons] at ho
  obtain ⟨g1,g2⟩:=List.append_inj ho h1
  have hnt: ∀l',c≠ .tupc l':=fun l' e=>by
   have:=hn c (by simp)
   rw [e] at this
   cases this
  rw [h2 g1 hnt,h4 g2]
theorem Bdi {c d:OB} (h:c.map Ko=d.map Ko):(Acy c).length=(Acy d).length∧(Acy c=Acy d→c=d):=by
 cases c with
 |var t vs=>
  cases d<;>simp only [OB.map,OB.var.injEq,reduceCtorEq] at h
  rename_i t' us
  obtain ⟨rfl,h⟩:=h
  exact ⟨Aek vs us h,fun ho=>by rw [Adc vs us h ho]⟩
 |_=>cases d<;>simp only [OB.map,reduceCtorEq] at h<;>exact ⟨rfl,fun _=>h⟩
theorem Amn: ∀(l m:List (Nat×OB)),l.map (fun p=>(p.1,p.2.map Ko))=m.map (fun p=>(p.1,p.2.map Ko))→(l.flatMap fun p=>Acy p.2)=(m.flatMap fun p=>Acy p.2)→l=m
 | [],[],_,_=>rfl
 | [],_::_,h,_=>by simp at h
 |_::_,[],h,_=>by simp at h
 |(k,c)::l,(k',d)::m,h,ho=>by
  simp only [List.map_cons,List.cons.injEq,Prod.mk.injEq] at h
  simp only [List.flatMap_cons] at ho
  obtain ⟨h1,h2⟩:=Bdi h.1.2
  obtain ⟨g1,g2⟩:=List.append_inj ho h1
  rw [h.1.1,h2 g1,Amn l m h.2 g2]
theorem Ara (l:List (Bool×List AC)) (e:AV) {R:Type} (r:R):Acd (.tupc l) e r=none:=by cases e<;>rfl
theorem Ao5 {d e:AV} {R:Type} {r:R} {v:avV d R} (h:Acd d e r=some v):d.Abl=true:=by
 cases d with
 |tupc l=>rw [Ara] at h;cases h
 |_=>rfl
theorem Aa7: ∀(l m:List AV) {R:Type} (r:R) (v:Ahf l R),Hz l m r=some v→ ∀c∈l,c.Abl=true
 | [],_,_,_,_,_,c,hc=>by cases hc
 |d::l,[],_,r,v,h,c,hc=>by cases h
 |d::l,e::m,R,r,v,h,c,hc=>by
  simp only [Hz] at h
  cases hr:Hz l m r with
  |none=>rw [hr] at h;cases h
  |some r'=>
   rw [hr] at h
   rcases List.mem_cons.1 hc with hc|hc
   ·rw [hc];exact Ao5 h
   ·exact Aa7 l m r r' hr c hc
theorem Amg {s0 s:St} (h:eqW s0 s):s=s0:=by
 obtain ⟨ho,h⟩:=h
 obtain ⟨v,h1,h2⟩:=Al.1 h
 subst h2
 have hn: ∀c∈s0.tmps,c.Abl=true:=by
  unfold Aa3 at h1
  cases hr:Iw s0.heap s.heap () with
  |none=>rw [hr] at h1;cases h1
  |some r=>rw [hr] at h1;exact Aa7 _ _ _ _ h1
 have e:=(Aa4 h1).symm.trans (Aa4 (Ahc s0 hn))
 simp only [St.Ew,St.mk.injEq] at e
 obtain ⟨e1,e2⟩:=e
 obtain ⟨l1,l2⟩:=Arb s0.tmps s.tmps e1.symm hn
 unfold Ax3 at ho
 obtain ⟨g1,g2⟩:=List.append_inj ho l1.symm
 have k1:=l2 g1.symm
 have k2:=Amn s.heap s0.heap e2 g2
 cases s;cases s0
 simp only at k1 k2
 rw [k1,k2]
end Go.Proofs.Ytebabhocakedaaa
