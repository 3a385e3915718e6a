/-
  Part 32 of the proof that the statement FnExactStatesWithPattern holds.
-/
import Derived.Test.YtebabhocakedaaaCStatesWithPattern30
namespace Go.Proofs.Ytebabhocakedaaa
open Go.RowKit
def Jr:AC→AC
 | .own l _ _=> .own l 0 0
 |c=>c
theorem Afo: ∀(c d:AC) {R:Type} (r:R) (v:acV c R),Aec c d r=some v→Jr (Abf c v).1=Jr d∧(Abf c v).2=r:=by
 intro c d R r v h
 cases c<;>cases d<;>simp only [Aec] at h<;>first|(cases h;first|done|exact ⟨rfl,rfl⟩)|skip
 all_goals
  split at h
  ·rename_i hc
   first
    |(obtain ⟨h1,h2⟩:=hc;subst h1;subst h2;injection h with h;subst h;exact ⟨rfl,rfl⟩)
    |(subst hc;injection h with h;subst h;exact ⟨rfl,rfl⟩)
  ·cases h
theorem Uk: ∀(l m:List AC) {R:Type} (r:R) (v:Atl l R),Jg l m r=some v→(Oo l v).1.map Jr=m.map Jr∧(Oo l v).2=r
 | [],[],R,r,v,h=>by simp only [Jg] at h;injection h with h;subst h;exact ⟨rfl,rfl⟩
 | [],_::_,R,r,v,h=>by simp [Jg] at h
 |_::_,[],R,r,v,h=>by simp [Jg] at h
 |c::l,d::m,R,r,v,h=>by
  simp only [Jg] at h
  cases hr:Jg l m r with
  |none=>rw [hr] at h;cases h
  |some r'=>
   rw [hr] at h
   obtain ⟨h1,h2⟩:=Afo c d r' v h
   obtain ⟨h3,h4⟩:=Uk l m r r' hr
   simp only [Oo,List.map_cons]
   rw [h1,h2,h3]
   exact ⟨rfl,h4⟩
theorem Aq5: ∀(c d:AV) {R:Type} (r:R) (v:avV c R),Abj c d r=some v→(Aht c v).1.map Jr=d.map Jr∧(Aht c v).2=r
 | .at a, .at b,R,r,v,h=>by
  obtain ⟨h1,h2⟩:=Afo a b r v h
  exact ⟨by show AV.at _=AV.at _;rw [h1],h2⟩
 | .agg cs, .agg ds,R,r,v,h=>by
  obtain ⟨h1,h2⟩:=Uk cs ds r v h
  exact ⟨by show AV.agg _=AV.agg _;rw [h1],h2⟩
 | .tup fr τ y, .tup fr' τ' x,R,r,v,h=>by
  by_cases hc:τ'=τ∧fr'=fr
  ·obtain ⟨h1,h2⟩:=hc
   subst h1;subst h2
   have h3:some ((x,r):τ'.den×R)=some v:=by
    have:Abj (.tup fr' τ' y) (.tup fr' τ' x) r=some ((x,r):τ'.den×R):=dif_pos ⟨rfl,rfl⟩
    exact this.symm.trans h
   injection h3 with h3
   subst h3;exact ⟨rfl,rfl⟩
  ·have h3:Abj (.tup fr τ y) (.tup fr' τ' x) r=none:=dif_neg hc
   rw [h3] at h;cases h
 | .at _, .agg _,_,_,_,h=>nomatch (show none=some _ from h)
 | .at _, .tup _ _ _,_,_,_,h=>nomatch (show none=some _ from h)
 | .agg _, .at _,_,_,_,h=>nomatch (show none=some _ from h)
 | .agg _, .tup _ _ _,_,_,_,h=>nomatch (show none=some _ from h)
 | .tup _ _ _, .at _,_,_,_,h=>nomatch (show none=some _ from h)
 | .tup _ _ _, .agg _,_,_,_,h=>nomatch (show none=some _ from h)
 | .tupc _, .at _,_,_,_,h=>nomatch (show none=some _ from h)
 | .tupc _, .agg _,_,_,_,h=>nomatch (show none=some _ from h)
 | .tupc _, .tup _ _ _,_,_,_,h=>nomatch (show none=some _ from h)
 | .tupc _, .tupc _,_,_,_,h=>nomatch (show none=some _ from h)
 | .at _, .tupc _,_,_,_,h=>nomatch (show none=some _ from h)
 | .agg _, .tupc _,_,_,_,h=>nomatch (show none=some _ from h)
 | .tup _ _ _, .tupc _,_,_,_,h=>nomatch (show none=some _ from h)
theorem Arv: ∀(c d:OB) {R:Type} (r:R) (v:obV c R),Jv c d r=some v→(Aiw c v).1.map Jr=d.map Jr∧(Aiw c v).2=r
 | .arr fr tr e tid ys, .arr fr' tr' e' tid' xs,R,r,v,h=>by
  by_cases hc:e'=e∧fr'=fr∧tr'=tr∧tid'=tid
  ·obtain ⟨h1,h2,h3,h4⟩:=hc
   subst h1;subst h2;subst h3;subst h4
   have h3:some ((xs,r):List e'.den×R)=some v:=by
    have:Jv (.arr fr' tr' e' tid' ys) (.arr fr' tr' e' tid' xs) r=some ((xs,r):List e'.den×R):=dif_pos ⟨rfl,rfl,rfl,rfl⟩
    exact this.symm.trans h
   injection h3 with h3
   subst h3;exact ⟨rfl,rfl⟩
  ·have h3:Jv (.arr fr tr e tid ys) (.arr fr' tr' e' tid' xs) r=none:=dif_neg hc
   rw [h3] at h;cases h
 | .xarr e tid ys, .xarr e' tid' xs,R,r,v,h=>by
  by_cases hc:e'=e∧tid'=tid
  ·obtain ⟨h1,h4⟩:=hc
   subst h1;subst h4
   have h3:some ((xs,r):List e'.den×R)=some v:=by
    have:Jv (.xarr e' tid' ys) (.xarr e' tid' xs) r=some ((xs,r):List e'.den×R):=dif_pos ⟨rfl,rfl⟩
    exact this.symm.trans h
   injection h3 with h3
   subst h3;exact ⟨rfl,rfl⟩
  ·have h3:Jv (.xarr e tid ys) (.xarr e' tid' xs) r=none:=dif_neg hc
   rw [h3] at h;cases h
 | .smp vt m, .smp vt' m',R,r,v,h=>by
  by_cases hc:vt'=vt
  ·subst hc
   have h3:some ((m',r):(ByteArray→Option vt'.den)×R)=some v:=by
    have:Jv (.smp vt' m) (.smp vt' m') r=some ((m',r):(ByteArray→Option vt'.den)×R):=dif_pos rfl
    exact this.symm.trans h
   injection h3 with h3
   subst h3;exact ⟨rfl,rfl⟩
  ·have h3:Jv (.smp vt m) (.smp vt' m') r=none:=dif_neg hc
   rw [h3] at h;cases h
 | .var t vs, .var t' us,R,r,v,h=>by
  by_cases hc:t'=t
  ·subst hc
   have h0:Jv (.var t' vs) (.var t' us) r=Jg vs us r:=if_pos rfl
   rw [h0] at h
   obtain ⟨h1,h2⟩:=Uk vs us r v h
   exact ⟨by show OB.var _ _=OB.var _ _;rw [h1],h2⟩
  ·have h3:Jv (.var t vs) (.var t' us) r=none:=if_neg hc
   rw [h3] at h;cases h
 | .grid e te ys out none, .grid e' te' xs out' none,R,r,v,h=>by
  by_cases hc:e'=e∧te'=te∧out'=out
  ·obtain ⟨h1,h2,h4⟩:=hc
   subst h1;subst h2;subst h4
   have h3:some ((xs,r):List (List e'.den)×R)=some v:=by
    have:Jv (.grid e' te' ys out' none) (.grid e' te' xs out' none) r=some ((xs,r):List (List e'.den)×R):=dif_pos ⟨rfl,rfl,rfl⟩
    exact this.symm.trans h
   injection h3 with h3
   subst h3;exact ⟨rfl,rfl⟩
  ·have h3:Jv (.grid e te ys out none) (.grid e' te' xs out' none) r=none:=dif_neg hc
   rw [h3] at h;cases h
 | .grid e te ys out (some p), .grid e' te' xs out' (some p'),R,r,v,h=>by
  by_cases hc:e'=e∧te'=te∧out'=out∧p'.1=p.1
  ·obtain ⟨h1,h2,h4,h5⟩:=hc
   subst h1;subst h2;subst h4
   have h3:some ((xs,p'.2,r):List (List e'.den)×(Nat×R))=some v:=by
    have:Jv (.grid e' te' ys out' (some p)) (.grid e' te' xs out' (some p')) r=some ((xs,p'.2,r):List (List e'.den)×(Nat×R)):=dif_pos ⟨rfl,rfl,rfl,h5⟩
    exact this.symm.trans h
   injection h3 with h3
   subst h3
   refine ⟨?_,rfl⟩
   show OB.grid e' te' xs out' (some (p.1,p'.2))=OB.grid e' te' xs out' (some p')
   rw [←h5]
  ·have h3:Jv (.grid e te ys out (some p)) (.grid e' te' xs out' (some p')) r=none:=dif_neg hc
   rw [h3] at h;cases h
 | .grid _ _ _ _ none, .grid _ _ _ _ (some _),_,_,_,h=>nomatch (show none=some _ from h)
 | .grid _ _ _ _ (some _), .grid _ _ _ _ none,_,_,_,h=>nomatch (show none=some _ from h)
 | .grid _ _ _ _ none, .arr _ _ _ _ _,_,_,_,h=>nomatch (show none=some _ from h)
 | .grid _ _ _ _ none, .xarr _ _ _,_,_,_,h=>nomatch (show none=some _ from h)
 | .grid _ _ _ _ none, .var _ _,_,_,_,h=>nomatch (show none=some _ from h)
 | .grid _ _ _ _ none, .smp _ _,_,_,_,h=>nomatch (show none=some _ from h)
 | .grid _ _ _ _ (some _), .arr _ _ _ _ _,_,_,_,h=>nomatch (show none=some _ from h)
 | .grid _ _ _ _ (some _), .xarr _ _ _,_,_,_,h=>nomatch (show none=some _ from h)
 | .grid _ _ _ _ (some _), .var _ _,_,_,_,h=>nomatch (show none=some _ from h)
 | .grid _ _ _ _ (some _), .smp _ _,_,_,_,h=>nomatch (show none=some _ from h)
 | .arr _ _ _ _ _, .grid _ _ _ _ _,_,_,_,h=>nomatch (show none=some _ from h)
 | .xarr _ _ _, .grid _ _ _ _ _,_,_,_,h=>nomatch (show none=some _ from h)
 | .var _ _, .grid _ _ _ _ _,_,_,_,h=>nomatch (show none=some _ from h)
 | .smp _ _, .grid _ _ _ _ _,_,_,_,h=>nomatch (show none=some _ from h)
 | .arr _ _ _ _ _, .var _ _,_,_,_,h=>nomatch (show none=some _ from h)
 | .arr _ _ _ _ _, .xarr _ _ _,_,_,_,h=>nomatch (show none=some _ from h)
 | .arr _ _ _ _ _, .smp _ _,_,_,_,h=>nomatch (show none=some _ from h)
 | .xarr _ _ _, .var _ _,_,_,_,h=>nomatch (show none=some _ from h)
 | .xarr _ _ _, .arr _ _ _ _ _,_,_,_,h=>nomatch (show none=some _ from h)
 | .xarr _ _ _, .smp _ _,_,_,_,h=>nomatch (show none=some _ from h)
 | .smp _ _, .var _ _,_,_,_,h=>nomatch (show none=some _ from h)
 | .smp _ _, .arr _ _ _ _ _,_,_,_,h=>nomatch (show none=some _ from h)
 | .smp _ _, .xarr _ _ _,_,_,_,h=>nomatch (show none=some _ from h)
 | .var _ _, .arr _ _ _ _ _,_,_,_,h=>nomatch (show none=some _ from h)
 | .var _ _, .xarr _ _ _,_,_,_,h=>nomatch (show none=some _ from h)
 | .var _ _, .smp _ _,_,_,_,h=>nomatch (show none=some _ from h)
theorem Ab1: ∀(l m:List AV) {R:Type} (r:R) (v:Agm l R),Hk l m r=some v→(Lz l v).1.map (·.map Jr)=m.map (·.map Jr)∧(Lz l v).2=r
 | [],[],R,r,v,h=>by simp only [Hk] at h;injection h with h;subst h;exact ⟨rfl,rfl⟩
 | [],_::_,R,r,v,h=>by simp [Hk] at h
 |_::_,[],R,r,v,h=>by simp [Hk] at h
 |c::l,d::m,R,r,v,h=>by
  simp only [Hk] at h
  cases hr:Hk l m r with
  |none=>rw [hr] at h;cases h
  |some r'=>
   rw [hr] at h
   obtain ⟨h1,h2⟩:=Aq5 c d r' v h
   obtain ⟨h3,h4⟩:=Ab1 l m r r' hr
   simp only [Lz,List.map_cons]
   rw [h1,h2,h3]
   exact ⟨rfl,h4⟩
theorem Aal: ∀(l m:List (Nat×OB)) {R:Type} (r:R) (v:Alx l R),Ie l m r=some v→(Tl l v).1.map (fun p=>(p.1,p.2.map Jr))=m.map (fun p=>(p.1,p.2.map Jr))∧(Tl l v).2=r
 | [],[],R,r,v,h=>by simp only [Ie] at h;injection h with h;subst h;exact ⟨rfl,rfl⟩
 | [],_::_,R,r,v,h=>by simp [Ie] at h
 |_::_,[],R,r,v,h=>by simp [Ie] at h
 |c::l,d::m,R,r,v,h=>by
  simp only [Ie] at h
  split at h
  ·rename_i hk
   cases hr:Ie l m r with
   |none=>rw [hr] at h;cases h
   |some r'=>
    rw [hr] at h
    obtain ⟨h1,h2⟩:=Arv c.2 d.2 r' v h
    obtain ⟨h3,h4⟩:=Aal l m r r' hr
    simp only [Tl,List.map_cons]
    rw [h1,h2,h3,hk]
    exact ⟨rfl,h4⟩
  ·cases h
theorem Zc {s t:St} {v:stV s} (h:Zb s t=some v):(Za s v).Es Jr=t.Es Jr:=by
 unfold Zb at h
 cases hr:Ie s.heap t.heap () with
 |none=>rw [hr] at h;cases h
 |some r=>
  rw [hr] at h
  obtain ⟨h1,h2⟩:=Ab1 s.tmps t.tmps r v h
  obtain ⟨h3,_⟩:=Aal s.heap t.heap () r hr
  simp only [Za,St.Es]
  rw [h1,h2,h3]
theorem Afp: ∀(c:AC) {R:Type} (r:R),Aec c c r=some (Aw3 c r):=by
 intro c R r
 cases c<;>simp [Aec,Aw3]
theorem Ul: ∀(l:List AC) {R:Type} (r:R),Jg l l r=some (Ahl l r)
 | [],_,_=>rfl
 |c::l,_,r=>by simp only [Jg,Ul l r,Ahl];exact Afp c _
def AV.Aaq:AV→Bool
 | .tupc _=>false
 |_=>true
theorem Aq6: ∀(c:AV),c.Aaq=true→ ∀ {R:Type} (r:R),Abj c c r=some (Bc1 c r):=by
 intro c hn R r
 cases c with
 |tupc l=>cases hn
 | «at»a=>exact Afp a r
 |agg cs=>exact Ul cs r
 |tup fr τ x=>exact dif_pos ⟨rfl,rfl⟩
theorem Arw: ∀(c:OB) {R:Type} (r:R),Jv c c r=some (Bc4 c r):=by
 intro c R r
 cases c with
 |arr fr tr e t xs=>exact dif_pos ⟨rfl,rfl,rfl,rfl⟩
 |xarr e t xs=>exact dif_pos ⟨rfl,rfl⟩
 |smp v m=>exact dif_pos rfl
 |grid e te rows out kp=>
  cases kp with
  |none=>exact dif_pos ⟨rfl,rfl,rfl⟩
  |some p=>exact dif_pos ⟨rfl,rfl,rfl,rfl⟩
 |var t vs=>
  have h0:Jv (.var t vs) (.var t vs) r=Jg vs vs r:=if_pos rfl
  exact h0.trans (Ul vs r)
theorem Ab2: ∀(l:List AV),(∀c∈l,c.Aaq=true)→ ∀ {R:Type} (r:R),Hk l l r=some (Ahe l r)
 | [],_,_,_=>rfl
 |c::l,h,_,r=>by simp only [Hk,Ab2 l (fun c hc=>h c (List.mem_cons_of_mem _ hc)) r,Ahe];exact Aq6 c (h c (by simp)) _
theorem Aam: ∀(l:List (Nat×OB)) {R:Type} (r:R),Ie l l r=some (Ahb l r)
 | [],_,_=>rfl
 |c::l,_,r=>by simp only [Ie,if_true,Aam l r,Ahb];exact Arw c.2 _
theorem Agj (s:St) (h: ∀c∈s.tmps,c.Aaq=true):Zb s s=some (Awp s):=by
 simp only [Zb,Aam,Awp]
 exact Ab2 _ h _
theorem Ak {α:Type} {o:Option α} {K:α→Prop} :Da o K↔ ∃x,o=some x∧K x:=by
 unfold Da
 cases o with
 |none=>simp
 |some x=>simp
theorem Ach: ∀(l m:List AC),l.map Jr=m.map Jr→l.flatMap Pw=m.flatMap Pw→l=m
 | [],[],_,_=>rfl
 | [],_::_,h,_=>by simp at h
 |_::_,[],h,_=>by simp at h
 |c::l,d::m,h,ho=>by
  simp only [List.map_cons,List.cons.injEq] at h
  simp only [List.flatMap_cons] at ho
  have hcd:c=d∧l.flatMap Pw=m.flatMap Pw:=by
   cases c<;>cases d<;>first|(cases h.1;done)|skip
   all_goals first
    |(obtain ⟨h1,_⟩:=h
      simp only [Jr,AC.own.injEq] at h1
      simp only [Pw,List.cons_append,List.nil_append,List.cons.injEq,Prod.mk.injEq] at ho
      exact ⟨by rw [h1.1,ho.1.1,ho.1.2],ho.2⟩)
    |exact ⟨h.1,by simpa only [Pw,List.nil_append] using ho⟩
  rw [hcd.1,Ach l m h.2 hcd.2]
theorem Ado: ∀(l m:List AC),l.map Jr=m.map Jr→(l.flatMap Pw).length=(m.flatMap Pw).length
 | [],[],_=>rfl
 | [],_::_,h=>by simp at h
 |_::_,[],h=>by simp at h
 |c::l,d::m,h=>by
  simp only [List.map_cons,List.cons.injEq] at h
  simp only [List.flatMap_cons,List.length_append,Ado l m h.2]
  congr 1
  cases c<;>cases d<;>first|rfl|(cases h.1;done)
theorem Bax {c d:AV} (h:c.map Jr=d.map Jr):(Py c).length=(Py d).length∧(Py c=Py d→(∀l,c≠ .tupc l)→c=d):=by
 cases c with
 | «at»a=>
  cases d<;>simp only [AV.map,AV.at.injEq,reduceCtorEq] at h
  rename_i b
  have h1: [a].map Jr= [b].map Jr:=by simp [h]
  refine ⟨by simpa [Py] using Ado [a] [b] h1,fun ho _=>?_⟩
  have:=Ach [a] [b] h1 (by simpa [Py] using ho)
  simpa using this
 |agg cs=>
  cases d<;>simp only [AV.map,AV.agg.injEq,reduceCtorEq] at h
  rename_i ds
  exact ⟨Ado cs ds h,fun ho _=>by rw [Ach cs ds h ho]⟩
 |tup fr τ x=>
  cases d<;>simp only [AV.map,reduceCtorEq] at h
  exact ⟨rfl,fun _ _=>h⟩
 |tupc l=>
  cases d<;>simp only [AV.map,reduceCtorEq] at h
  exact ⟨rfl,fun _ hn=>absurd rfl (hn l)⟩
theorem Aq8: ∀(l m:List AV),l.map (·.map Jr)=m.map (·.map Jr)→(∀c∈l,c.Aaq=true)→(l.flatMap Py).length=(m.flatMap Py).length∧(l.flatMap Py=m.flatMap Py→l=m)
 | [],[],_,_=>⟨rfl,fun _=>rfl⟩
 | [],_::_,h,_=>by simp at h
 |_::_,[],h,_=>by simp at h
 |c::l,d::m,h,hn=>by
  simp only [List.map_cons,List.cons.injEq] at h
  obtain ⟨h1,h2⟩:=Bax h.1
  obtain ⟨h3,h4⟩:=Aq8 l m h.2 fun c hc=>hn c (List.mem_cons_of_mem _ hc)
  refine ⟨by simp only [List.flatMap_cons,List.length_append,h1,h3],fun ho=>?_⟩
  simp only [List.flatMap_cons] at ho
  obtain ⟨g1,g2⟩:=List.append_inj ho h1
  have hnt: ∀l',c≠ .tupc l':=fun l' e=>by
   have:=hn c (by simp)
   rw [e] at this
   cases this
  rw [h2 g1 hnt,h4 g2]
theorem Bb7 {c d:OB} (h:c.map Jr=d.map Jr):(Ac2 c).length=(Ac2 d).length∧(Ac2 c=Ac2 d→c=d):=by
 cases c with
 |var t vs=>
  cases d<;>simp only [OB.map,OB.var.injEq,reduceCtorEq] at h
  rename_i t' us
  obtain ⟨rfl,h⟩:=h
  exact ⟨Ado vs us h,fun ho=>by rw [Ach vs us h ho]⟩
 |_=>cases d<;>simp only [OB.map,reduceCtorEq] at h<;>exact ⟨rfl,fun _=>h⟩
theorem Aly: ∀(l m:List (Nat×OB)),l.map (fun p=>(p.1,p.2.map Jr))=m.map (fun p=>(p.1,p.2.map Jr))→(l.flatMap fun p=>Ac2 p.2)=(m.flatMap fun p=>Ac2 p.2)→l=m
 | [],[],_,_=>rfl
 | [],_::_,h,_=>by simp at h
 |_::_,[],h,_=>by simp at h
 |(k,c)::l,(k',d)::m,h,ho=>by
  simp only [List.map_cons,List.cons.injEq,Prod.mk.injEq] at h
  simp only [List.flatMap_cons] at ho
  obtain ⟨h1,h2⟩:=Bb7 h.1.2
  obtain ⟨g1,g2⟩:=List.append_inj ho h1
  rw [h.1.1,h2 g1,Aly l m h.2 g2]
theorem Aq7 (l:List (Bool×List AC)) (e:AV) {R:Type} (r:R):Abj (.tupc l) e r=none:=by cases e<;>rfl
theorem Ane {d e:AV} {R:Type} {r:R} {v:avV d R} (h:Abj d e r=some v):d.Aaq=true:=by
 cases d with
 |tupc l=>rw [Aq7] at h;cases h
 |_=>rfl
theorem Ze: ∀(l m:List AV) {R:Type} (r:R) (v:Agm l R),Hk l m r=some v→ ∀c∈l,c.Aaq=true
 | [],_,_,_,_,_,c,hc=>by cases hc
 |d::l,[],_,r,v,h,c,hc=>by cases h
 |d::l,e::m,R,r,v,h,c,hc=>by
  simp only [Hk] at h
  cases hr:Hk l m r with
  |none=>rw [hr] at h;cases h
  |some r'=>
   rw [hr] at h
   rcases List.mem_cons.1 hc with hc|hc
   ·rw [hc];exact Ane h
   ·exact Ze l m r r' hr c hc
theorem Alq {s0 s:St} (h:eqW s0 s):s=s0:=by
 obtain ⟨ho,h⟩:=h
 obtain ⟨v,h1,h2⟩:=Ak.1 h
 subst h2
 have hn: ∀c∈s0.tmps,c.Aaq=true:=by
  unfold Zb at h1
  cases hr:Ie s0.heap s.heap () with
  |none=>rw [hr] at h1;cases h1
  |some r=>rw [hr] at h1;exact Ze _ _ _ _ h1
 have e:=(Zc h1).symm.trans (Zc (Agj s0 hn))
 simp only [St.Es,St.mk.injEq] at e
 obtain ⟨e1,e2⟩:=e
 obtain ⟨l1,l2⟩:=Aq8 s0.tmps s.tmps e1.symm hn
 unfold Avn at ho
 obtain ⟨g1,g2⟩:=List.append_inj ho l1.symm
 have k1:=l2 g1.symm
 have k2:=Aly s.heap s0.heap e2 g2
 cases s;cases s0
 simp only at k1 k2
 rw [k1,k2]
end Go.Proofs.Ytebabhocakedaaa
