/-
  Part 32 of the proof that the statement FnExactSatisfiedGoals holds.
-/
import Derived.Test.YtebabhocakedaaaCSatisfiedGoals30
namespace Go.Proofs.Ytebabhocakedaaa
open Go.RowKit
def Jy:AC→AC
 | .own l _ _=> .own l 0 0
 |c=>c
theorem Afu: ∀(c d:AC) {R:Type} (r:R) (v:acV c R),Aej c d r=some v→Jy (Abl c v).1=Jy d∧(Abl c v).2=r:=by
 intro c d R r v h
 cases c<;>cases d<;>simp only [Aej] at h<;>first|(cases h;first|done|exact ⟨rfl,rfl⟩)|skip
 all_goals
  split at h
  ·rename_i hc
   first
    |(obtain ⟨h1,h2⟩:=hc;subst h1;subst h2;injection h with h;subst h;exact ⟨rfl,rfl⟩)
    |(subst hc;injection h with h;subst h;exact ⟨rfl,rfl⟩)
  ·cases h
theorem Uo: ∀(l m:List AC) {R:Type} (r:R) (v:Au4 l R),Jl l m r=some v→(Pc l v).1.map Jy=m.map Jy∧(Pc l v).2=r
 | [],[],R,r,v,h=>by simp only [Jl] at h;injection h with h;subst h;exact ⟨rfl,rfl⟩
 | [],_::_,R,r,v,h=>by simp [Jl] at h
 |_::_,[],R,r,v,h=>by simp [Jl] at h
 |c::l,d::m,R,r,v,h=>by
  simp only [Jl] at h
  cases hr:Jl l m r with
  |none=>rw [hr] at h;cases h
  |some r'=>
   rw [hr] at h
   obtain ⟨h1,h2⟩:=Afu c d r' v h
   obtain ⟨h3,h4⟩:=Uo l m r r' hr
   simp only [Pc,List.map_cons]
   rw [h1,h2,h3]
   exact ⟨rfl,h4⟩
theorem Aqk: ∀(c d:AV) {R:Type} (r:R) (v:avV c R),Abp c d r=some v→(Ai0 c v).1.map Jy=d.map Jy∧(Ai0 c v).2=r
 | .at a, .at b,R,r,v,h=>by
  obtain ⟨h1,h2⟩:=Afu a b r v h
  exact ⟨by show AV.at _=AV.at _;rw [h1],h2⟩
 | .agg cs, .agg ds,R,r,v,h=>by
  obtain ⟨h1,h2⟩:=Uo cs ds r v h
  exact ⟨by show AV.agg _=AV.agg _;rw [h1],h2⟩
 | .tup fr τ y, .tup fr' τ' x,R,r,v,h=>by
  by_cases hc:τ'=τ∧fr'=fr
  ·obtain ⟨h1,h2⟩:=hc
   subst h1;subst h2
   have h3:some ((x,r):τ'.den×R)=some v:=by
    have:Abp (.tup fr' τ' y) (.tup fr' τ' x) r=some ((x,r):τ'.den×R):=dif_pos ⟨rfl,rfl⟩
    exact this.symm.trans h
   injection h3 with h3
   subst h3;exact ⟨rfl,rfl⟩
  ·have h3:Abp (.tup fr τ y) (.tup fr' τ' x) r=none:=dif_neg hc
   rw [h3] at h;cases h
 | .at _, .agg _,_,_,_,h=>nomatch (show none=some _ from h)
 | .at _, .tup _ _ _,_,_,_,h=>nomatch (show none=some _ from h)
 | .agg _, .at _,_,_,_,h=>nomatch (show none=some _ from h)
 | .agg _, .tup _ _ _,_,_,_,h=>nomatch (show none=some _ from h)
 | .tup _ _ _, .at _,_,_,_,h=>nomatch (show none=some _ from h)
 | .tup _ _ _, .agg _,_,_,_,h=>nomatch (show none=some _ from h)
 | .tupc _, .at _,_,_,_,h=>nomatch (show none=some _ from h)
 | .tupc _, .agg _,_,_,_,h=>nomatch (show none=some _ from h)
 | .tupc _, .tup _ _ _,_,_,_,h=>nomatch (show none=some _ from h)
 | .tupc _, .tupc _,_,_,_,h=>nomatch (show none=some _ from h)
 | .at _, .tupc _,_,_,_,h=>nomatch (show none=some _ from h)
 | .agg _, .tupc _,_,_,_,h=>nomatch (show none=some _ from h)
 | .tup _ _ _, .tupc _,_,_,_,h=>nomatch (show none=some _ from h)
theorem Asf: ∀(c d:OB) {R:Type} (r:R) (v:obV c R),Kb c d r=some v→(Aj2 c v).1.map Jy=d.map Jy∧(Aj2 c v).2=r
 | .arr fr tr e tid ys, .arr fr' tr' e' tid' xs,R,r,v,h=>by
  by_cases hc:e'=e∧fr'=fr∧tr'=tr∧tid'=tid
  ·obtain ⟨h1,h2,h3,h4⟩:=hc
   subst h1;subst h2;subst h3;subst h4
   have h3:some ((xs,r):List e'.den×R)=some v:=by
    have:Kb (.arr fr' tr' e' tid' ys) (.arr fr' tr' e' tid' xs) r=some ((xs,r):List e'.den×R):=dif_pos ⟨rfl,rfl,rfl,rfl⟩
    exact this.symm.trans h
   injection h3 with h3
   subst h3;exact ⟨rfl,rfl⟩
  ·have h3:Kb (.arr fr tr e tid ys) (.arr fr' tr' e' tid' xs) r=none:=dif_neg hc
   rw [h3] at h;cases h
 | .xarr e tid ys, .xarr e' tid' xs,R,r,v,h=>by
  by_cases hc:e'=e∧tid'=tid
  ·obtain ⟨h1,h4⟩:=hc
   subst h1;subst h4
   have h3:some ((xs,r):List e'.den×R)=some v:=by
    have:Kb (.xarr e' tid' ys) (.xarr e' tid' xs) r=some ((xs,r):List e'.den×R):=dif_pos ⟨rfl,rfl⟩
    exact this.symm.trans h
   injection h3 with h3
   subst h3;exact ⟨rfl,rfl⟩
  ·have h3:Kb (.xarr e tid ys) (.xarr e' tid' xs) r=none:=dif_neg hc
   rw [h3] at h;cases h
 | .smp vt m, .smp vt' m',R,r,v,h=>by
  by_cases hc:vt'=vt
  ·subst hc
   have h3:some ((m',r):(ByteArray→Option vt'.den)×R)=some v:=by
    have:Kb (.smp vt' m) (.smp vt' m') r=some ((m',r):(ByteArray→Option vt'.den)×R):=dif_pos rfl
    exact this.symm.trans h
   injection h3 with h3
   subst h3;exact ⟨rfl,rfl⟩
  ·have h3:Kb (.smp vt m) (.smp vt' m') r=none:=dif_neg hc
   rw [h3] at h;cases h
 | .var t vs, .var t' us,R,r,v,h=>by
  by_cases hc:t'=t
  ·subst hc
   have h0:Kb (.var t' vs) (.var t' us) r=Jl vs us r:=if_pos rfl
   rw [h0] at h
   obtain ⟨h1,h2⟩:=Uo vs us r v h
   exact ⟨by show OB.var _ _=OB.var _ _;rw [h1],h2⟩
  ·have h3:Kb (.var t vs) (.var t' us) r=none:=if_neg hc
   rw [h3] at h;cases h
 | .grid e te ys out none, .grid e' te' xs out' none,R,r,v,h=>by
  by_cases hc:e'=e∧te'=te∧out'=out
  ·obtain ⟨h1,h2,h4⟩:=hc
   subst h1;subst h2;subst h4
   have h3:some ((xs,r):List (List e'.den)×R)=some v:=by
    have:Kb (.grid e' te' ys out' none) (.grid e' te' xs out' none) r=some ((xs,r):List (List e'.den)×R):=dif_pos ⟨rfl,rfl,rfl⟩
    exact this.symm.trans h
   injection h3 with h3
   subst h3;exact ⟨rfl,rfl⟩
  ·have h3:Kb (.grid e te ys out none) (.grid e' te' xs out' none) r=none:=dif_neg hc
   rw [h3] at h;cases h
 | .grid e te ys out (some p), .grid e' te' xs out' (some p'),R,r,v,h=>by
  by_cases hc:e'=e∧te'=te∧out'=out∧p'.1=p.1
  ·obtain ⟨h1,h2,h4,h5⟩:=hc
   subst h1;subst h2;subst h4
   have h3:some ((xs,p'.2,r):List (List e'.den)×(Nat×R))=some v:=by
    have:Kb (.grid e' te' ys out' (some p)) (.grid e' te' xs out' (some p')) r=some ((xs,p'.2,r):List (List e'.den)×(Nat×R)):=dif_pos ⟨rfl,rfl,rfl,h5⟩
    exact this.symm.trans h
   injection h3 with h3
   subst h3
   refine ⟨?_,rfl⟩
   show OB.grid e' te' xs out' (some (p.1,p'.2))=OB.grid e' te' xs out' (some p')
   rw [←h5]
  ·have h3:Kb (.grid e te ys out (some p)) (.grid e' te' xs out' (some p')) r=none:=dif_neg hc
   rw [h3] at h;cases h
 | .grid _ _ _ _ none, .grid _ _ _ _ (some _),_,_,_,h=>nomatch (show none=some _ from h)
 | .grid _ _ _ _ (some _), .grid _ _ _ _ none,_,_,_,h=>nomatch (show none=some _ from h)
 | .grid _ _ _ _ none, .arr _ _ _ _ _,_,_,_,h=>nomatch (show none=some _ from h)
 | .grid _ _ _ _ none, .xarr _ _ _,_,_,_,h=>nomatch (show none=some _ from h)
 | .grid _ _ _ _ none, .var _ _,_,_,_,h=>nomatch (show none=some _ from h)
 | .grid _ _ _ _ none, .smp _ _,_,_,_,h=>nomatch (show none=some _ from h)
 | .grid _ _ _ _ (some _), .arr _ _ _ _ _,_,_,_,h=>nomatch (show none=some _ from h)
 | .grid _ _ _ _ (some _), .xarr _ _ _,_,_,_,h=>nomatch (show none=some _ from h)
 | .grid _ _ _ _ (some _), .var _ _,_,_,_,h=>nomatch (show none=some _ from h)
 | .grid _ _ _ _ (some _), .smp _ _,_,_,_,h=>nomatch (show none=some _ from h)
 | .arr _ _ _ _ _, .grid _ _ _ _ _,_,_,_,h=>nomatch (show none=some _ from h)
 | .xarr _ _ _, .grid _ _ _ _ _,_,_,_,h=>nomatch (show none=some _ from h)
 | .var _ _, .grid _ _ _ _ _,_,_,_,h=>nomatch (show none=some _ from h)
 | .smp _ _, .grid _ _ _ _ _,_,_,_,h=>nomatch (show none=some _ from h)
 | .arr _ _ _ _ _, .var _ _,_,_,_,h=>nomatch (show none=some _ from h)
 | .arr _ _ _ _ _, .xarr _ _ _,_,_,_,h=>nomatch (show none=some _ from h)
 | .arr _ _ _ _ _, .smp _ _,_,_,_,h=>nomatch (show none=some _ from h)
 | .xarr _ _ _, .var _ _,_,_,_,h=>nomatch (show none=some _ from h)
 | .xarr _ _ _, .arr _ _ _ _ _,_,_,_,h=>nomatch (show none=some _ from h)
 | .xarr _ _ _, .smp _ _,_,_,_,h=>nomatch (show none=some _ from h)
 | .smp _ _, .var _ _,_,_,_,h=>nomatch (show none=some _ from h)
 | .smp _ _, .arr _ _ _ _ _,_,_,_,h=>nomatch (show none=some _ from h)
 | .smp _ _, .xarr _ _ _,_,_,_,h=>nomatch (show none=some _ from h)
 | .var _ _, .arr _ _ _ _ _,_,_,_,h=>nomatch (show none=some _ from h)
 | .var _ _, .xarr _ _ _,_,_,_,h=>nomatch (show none=some _ from h)
 | .var _ _, .smp _ _,_,_,_,h=>nomatch (show none=some _ from h)
theorem Ab9: ∀(l m:List AV) {R:Type} (r:R) (v:Agt l R),Hs l m r=some v→(Md l v).1.map (·.map Jy)=m.map (·.map Jy)∧(Md l v).2=r
 | [],[],R,r,v,h=>by simp only [Hs] at h;injection h with h;subst h;exact ⟨rfl,rfl⟩
 | [],_::_,R,r,v,h=>by simp [Hs] at h
 |_::_,[],R,r,v,h=>by simp [Hs] at h
 |c::l,d::m,R,r,v,h=>by
  simp only [Hs] at h
  cases hr:Hs l m r with
  |none=>rw [hr] at h;cases h
  |some r'=>
   rw [hr] at h
   obtain ⟨h1,h2⟩:=Aqk c d r' v h
   obtain ⟨h3,h4⟩:=Ab9 l m r r' hr
   simp only [Md,List.map_cons]
   rw [h1,h2,h3]
   exact ⟨rfl,h4⟩
theorem Aat: ∀(l m:List (Nat×OB)) {R:Type} (r:R) (v:Amb l R),Ik l m r=some v→(Ts l v).1.map (fun p=>(p.1,p.2.map Jy))=m.map (fun p=>(p.1,p.2.map Jy))∧(Ts l v).2=r
 | [],[],R,r,v,h=>by simp only [Ik] at h;injection h with h;subst h;exact ⟨rfl,rfl⟩
 | [],_::_,R,r,v,h=>by simp [Ik] at h
 |_::_,[],R,r,v,h=>by simp [Ik] at h
 |c::l,d::m,R,r,v,h=>by
  simp only [Ik] at h
  split at h
  ·rename_i hk
   cases hr:Ik l m r with
   |none=>rw [hr] at h;cases h
   |some r'=>
    rw [hr] at h
    obtain ⟨h1,h2⟩:=Asf c.2 d.2 r' v h
    obtain ⟨h3,h4⟩:=Aat l m r r' hr
    simp only [Ts,List.map_cons]
    rw [h1,h2,h3,hk]
    exact ⟨rfl,h4⟩
  ·cases h
theorem Zk {s t:St} {v:stV s} (h:Zj s t=some v):(Zi s v).Ex Jy=t.Ex Jy:=by
 unfold Zj at h
 cases hr:Ik s.heap t.heap () with
 |none=>rw [hr] at h;cases h
 |some r=>
  rw [hr] at h
  obtain ⟨h1,h2⟩:=Ab9 s.tmps t.tmps r v h
  obtain ⟨h3,_⟩:=Aat s.heap t.heap () r hr
  simp only [Zi,St.Ex]
  rw [h1,h2,h3]
theorem Afv: ∀(c:AC) {R:Type} (r:R),Aej c c r=some (Awl c r):=by
 intro c R r
 cases c<;>simp [Aej,Awl]
theorem Up: ∀(l:List AC) {R:Type} (r:R),Jl l l r=some (Ahs l r)
 | [],_,_=>rfl
 |c::l,_,r=>by simp only [Jl,Up l r,Ahs];exact Afv c _
def AV.Aaz:AV→Bool
 | .tupc _=>false
 |_=>true
theorem Aql: ∀(c:AV),c.Aaz=true→ ∀ {R:Type} (r:R),Abp c c r=some (Bd3 c r):=by
 intro c hn R r
 cases c with
 |tupc l=>cases hn
 | «at»a=>exact Afv a r
 |agg cs=>exact Up cs r
 |tup fr τ x=>exact dif_pos ⟨rfl,rfl⟩
theorem Asg: ∀(c:OB) {R:Type} (r:R),Kb c c r=some (Bd6 c r):=by
 intro c R r
 cases c with
 |arr fr tr e t xs=>exact dif_pos ⟨rfl,rfl,rfl,rfl⟩
 |xarr e t xs=>exact dif_pos ⟨rfl,rfl⟩
 |smp v m=>exact dif_pos rfl
 |grid e te rows out kp=>
  cases kp with
  |none=>exact dif_pos ⟨rfl,rfl,rfl⟩
  |some p=>exact dif_pos ⟨rfl,rfl,rfl,rfl⟩
 |var t vs=>
  have h0:Kb (.var t vs) (.var t vs) r=Jl vs vs r:=if_pos rfl
  exact h0.trans (Up vs r)
theorem Aba: ∀(l:List AV),(∀c∈l,c.Aaz=true)→ ∀ {R:Type} (r:R),Hs l l r=some (Ahl l r)
 | [],_,_,_=>rfl
 |c::l,h,_,r=>by simp only [Hs,Aba l (fun c hc=>h c (List.mem_cons_of_mem _ hc)) r,Ahl];exact Aql c (h c (by simp)) _
theorem Aau: ∀(l:List (Nat×OB)) {R:Type} (r:R),Ik l l r=some (Ahi l r)
 | [],_,_=>rfl
 |c::l,_,r=>by simp only [Ik,if_true,Aau l r,Ahi];exact Asg c.2 _
theorem Agq (s:St) (h: ∀c∈s.tmps,c.Aaz=true):Zj s s=some (Ax9 s):=by
 simp only [Zj,Aau,Ax9]
 exact Aba _ h _
theorem Al {α:Type} {o:Option α} {K:α→Prop} :Dc o K↔ ∃x,o=some x∧K x:=by
 unfold Dc
 cases o with
 |none=>simp
 |some x=>simp
theorem Acq: ∀(l m:List AC),l.map Jy=m.map Jy→l.flatMap Qi=m.flatMap Qi→l=m
 | [],[],_,_=>rfl
 | [],_::_,h,_=>by simp at h
 |_::_,[],h,_=>by simp at h
 |c::l,d::m,h,ho=>by
  simp only [List.map_cons,List.cons.injEq] at h
  simp only [List.flatMap_cons] at ho
  have hcd:c=d∧l.flatMap Qi=m.flatMap Qi:=by
   cases c<;>cases d<;>first|(cases h.1;done)|skip
   all_goals first
    |(obtain ⟨h1,_⟩:=h
      simp only [Jy,AC.own.injEq] at h1
      simp only [Qi,List.cons_append,List.nil_append,List.cons.injEq,Prod.mk.injEq] at ho
      exact ⟨by rw [h1.1,ho.1.1,ho.1.2],ho.2⟩)
    |exact ⟨h.1,by simpa only [Qi,List.nil_append] using ho⟩
  rw [hcd.1,Acq l m h.2 hcd.2]
theorem Adx: ∀(l m:List AC),l.map Jy=m.map Jy→(l.flatMap Qi).length=(m.flatMap Qi).length
 | [],[],_=>rfl
 | [],_::_,h=>by simp at h
 |_::_,[],h=>by simp at h
 |c::l,d::m,h=>by
  simp only [List.map_cons,List.cons.injEq] at h
  simp only [List.flatMap_cons,List.length_append,Adx l m h.2]
  congr 1
  cases c<;>cases d<;>first|rfl|(cases h.1;done)
theorem Bbt {c d:AV} (h:c.map Jy=d.map Jy):(Qk c).length=(Qk d).length∧(Qk c=Qk d→(∀l,c≠ .tupc l)→c=d):=by
 cases c with
 | «at»a=>
  cases d<;>simp only [AV.map,AV.at.injEq,reduceCtorEq] at h
  rename_i b
  have h1: [a].map Jy= [b].map Jy:=by simp [h]
  refine ⟨by simpa [Qk] using Adx [a] [b] h1,fun ho _=>?_⟩
  have:=Acq [a] [b] h1 (by simpa [Qk] using ho)
  simpa using this
 |agg cs=>
  cases d<;>simp only [AV.map,AV.agg.injEq,reduceCtorEq] at h
  rename_i ds
  exact ⟨Adx cs ds h,fun ho _=>by rw [Acq cs ds h ho]⟩
 |tup fr τ x=>
  cases d<;>simp only [AV.map,reduceCtorEq] at h
  exact ⟨rfl,fun _ _=>h⟩
 |tupc l=>
  cases d<;>simp only [AV.map,reduceCtorEq] at h
  exact ⟨rfl,fun _ hn=>absurd rfl (hn l)⟩
theorem Aqn: ∀(l m:List AV),l.map (·.map Jy)=m.map (·.map Jy)→(∀c∈l,c.Aaz=true)→(l.flatMap Qk).length=(m.flatMap Qk).length∧(l.flatMap Qk=m.flatMap Qk→l=m)
 | [],[],_,_=>⟨rfl,fun _=>rfl⟩
 | [],_::_,h,_=>by simp at h
 |_::_,[],h,_=>by simp at h
 |c::l,d::m,h,hn=>by
  simp only [List.map_cons,List.cons.injEq] at h
  obtain ⟨h1,h2⟩:=Bbt h.1
  obtain ⟨h3,h4⟩:=Aqn l m h.2 fun c hc=>hn c (List.mem_cons_of_mem _ hc)
  refine ⟨by simp only [List.flatMap_cons,List.length_append,h1,h3],fun ho=>?_⟩
  simp only [List.flatMap_cons] at ho
  obtain ⟨g1,g2⟩:=List.append_inj ho h1
  have hnt: ∀l',c≠ .tupc l':=fun l' e=>by
   have:=hn c (by simp)
   rw [e] at this
   cases this
  rw [h2 g1 hnt,h4 g2]
theorem Bc4 {c d:OB} (h:c.map Jy=d.map Jy):(Ac7 c).length=(Ac7 d).length∧(Ac7 c=Ac7 d→c=d):=by
 cases c with
 |var t vs=>
  cases d<;>simp only [OB.map,OB.var.injEq,reduceCtorEq] at h
  rename_i t' us
  obtain ⟨rfl,h⟩:=h
  exact ⟨Adx vs us h,fun ho=>by rw [Acq vs us h ho]⟩
 |_=>cases d<;>simp only [OB.map,reduceCtorEq] at h<;>exact ⟨rfl,fun _=>h⟩
theorem Amc: ∀(l m:List (Nat×OB)),l.map (fun p=>(p.1,p.2.map Jy))=m.map (fun p=>(p.1,p.2.map Jy))→(l.flatMap fun p=>Ac7 p.2)=(m.flatMap fun p=>Ac7 p.2)→l=m
 | [],[],_,_=>rfl
 | [],_::_,h,_=>by simp at h
 |_::_,[],h,_=>by simp at h
 |(k,c)::l,(k',d)::m,h,ho=>by
  simp only [List.map_cons,List.cons.injEq,Prod.mk.injEq] at h
  simp only [List.flatMap_cons] at ho
  obtain ⟨h1,h2⟩:=Bc4 h.1.2
  obtain ⟨g1,g2⟩:=List.append_inj ho h1
  rw [h.1.1,h2 g1,Amc l m h.2 g2]
theorem Aqm (l:List (Bool×List AC)) (e:AV) {R:Type} (r:R):Abp (.tupc l) e r=none:=by cases e<;>rfl
theorem Anw {d e:AV} {R:Type} {r:R} {v:avV d R} (h:Abp d e r=some v):d.Aaz=true:=by
 cases d with
 |tupc l=>rw [Aqm] at h;cases h
 |_=>rfl
theorem Zm: ∀(l m:List AV) {R:Type} (r:R) (v:Agt l R),Hs l m r=some v→ ∀c∈l,c.Aaz=true
 | [],_,_,_,_,_,c,hc=>by cases hc
 |d::l,[],_,r,v,h,c,hc=>by cases h
 |d::l,e::m,R,r,v,h,c,hc=>by
  simp only [Hs] at h
  cases hr:Hs l m r with
  |none=>rw [hr] at h;cases h
  |some r'=>
   rw [hr] at h
   rcases List.mem_cons.1 hc with hc|hc
   ·rw [hc];exact Anw h
   ·exact Zm l m r r' hr c hc
theorem Am5 {s0 s:St} (h:eqW s0 s):s=s0:=by
 obtain ⟨ho,h⟩:=h
 obtain ⟨v,h1,h2⟩:=Al.1 h
 subst h2
 have hn: ∀c∈s0.tmps,c.Aaz=true:=by
  unfold Zj at h1
  cases hr:Ik s0.heap s.heap () with
  |none=>rw [hr] at h1;cases h1
  |some r=>rw [hr] at h1;exact Zm _ _ _ _ h1
 have e:=(Zk h1).symm.trans (Zk (Agq s0 hn))
 simp only [St.Ex,St.mk.injEq] at e
 obtain ⟨e1,e2⟩:=e
 obtain ⟨l1,l2⟩:=Aqn s0.tmps s.tmps e1.symm hn
 unfold Aw6 at ho
 obtain ⟨g1,g2⟩:=List.append_inj ho l1.symm
 have k1:=l2 g1.symm
 have k2:=Amc s.heap s0.heap e2 g2
 cases s;cases s0
 simp only at k1 k2
 rw [k1,k2]
end Go.Proofs.Ytebabhocakedaaa
