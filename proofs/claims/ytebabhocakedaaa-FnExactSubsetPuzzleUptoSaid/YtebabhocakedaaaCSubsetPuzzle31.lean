/-
  Part 32 of the proof that the statement FnExactSubsetPuzzle holds.
-/
import Derived.Test.YtebabhocakedaaaCSubsetPuzzle30
namespace Go.Proofs.Ytebabhocakedaaa
open Go.RowKit
def Ke:AC→AC
 | .own l _ _=> .own l 0 0
 |c=>c
theorem Age: ∀(c d:AC) {R:Type} (r:R) (v:acV c R),Aeu c d r=some v→Ke (Ac2 c v).1=Ke d∧(Ac2 c v).2=r:=by
 intro c d R r v h
 cases c<;>cases d<;>simp only [Aeu] at h<;>first|(cases h;first|done|exact ⟨rfl,rfl⟩)|skip
 all_goals
  split at h
  ·rename_i hc
   first
    |(obtain ⟨h1,h2⟩:=hc;subst h1;subst h2;injection h with h;subst h;exact ⟨rfl,rfl⟩)
    |(subst hc;injection h with h;subst h;exact ⟨rfl,rfl⟩)
  ·cases h
theorem Vb: ∀(l m:List AC) {R:Type} (r:R) (v:Auo l R),Jt l m r=some v→(Pj l v).1.map Ke=m.map Ke∧(Pj l v).2=r
 | [],[],R,r,v,h=>by simp only [Jt] at h;injection h with h;subst h;exact ⟨rfl,rfl⟩
 | [],_::_,R,r,v,h=>by simp [Jt] at h
 |_::_,[],R,r,v,h=>by simp [Jt] at h
 |c::l,d::m,R,r,v,h=>by
  simp only [Jt] at h
  cases hr:Jt l m r with
  |none=>rw [hr] at h;cases h
  |some r'=>
   rw [hr] at h
   obtain ⟨h1,h2⟩:=Age c d r' v h
   obtain ⟨h3,h4⟩:=Vb l m r r' hr
   simp only [Pj,List.map_cons]
   rw [h1,h2,h3]
   exact ⟨rfl,h4⟩
theorem Ar7: ∀(c d:AV) {R:Type} (r:R) (v:avV c R),Ac6 c d r=some v→(Aim c v).1.map Ke=d.map Ke∧(Aim c v).2=r
 | .at a, .at b,R,r,v,h=>by
  obtain ⟨h1,h2⟩:=Age a b r v h
  exact ⟨by show AV.at _=AV.at _;rw [h1],h2⟩
 | .agg cs, .agg ds,R,r,v,h=>by
  obtain ⟨h1,h2⟩:=Vb cs ds r v h
  exact ⟨by show AV.agg _=AV.agg _;rw [h1],h2⟩
 | .tup fr τ y, .tup fr' τ' x,R,r,v,h=>by
  by_cases hc:τ'=τ∧fr'=fr
  ·obtain ⟨h1,h2⟩:=hc
   subst h1;subst h2
   have h3:some ((x,r):τ'.den×R)=some v:=by
    have:Ac6 (.tup fr' τ' y) (.tup fr' τ' x) r=some ((x,r):τ'.den×R):=dif_pos ⟨rfl,rfl⟩
    exact this.symm.trans h
   injection h3 with h3
   subst h3;exact ⟨rfl,rfl⟩
  ·have h3:Ac6 (.tup fr τ y) (.tup fr' τ' x) r=none:=dif_neg hc
   rw [h3] at h;cases h
 | .at _, .agg _,_,_,_,h=>nomatch (show none=some _ from h)
 | .at _, .tup _ _ _,_,_,_,h=>nomatch (show none=some _ from h)
 | .agg _, .at _,_,_,_,h=>nomatch (show none=some _ from h)
 | .agg _, .tup _ _ _,_,_,_,h=>nomatch (show none=some _ from h)
 | .tup _ _ _, .at _,_,_,_,h=>nomatch (show none=some _ from h)
 | .tup _ _ _, .agg _,_,_,_,h=>nomatch (show none=some _ from h)
 | .tupc _, .at _,_,_,_,h=>nomatch (show none=some _ from h)
 | .tupc _, .agg _,_,_,_,h=>nomatch (show none=some _ from h)
 | .tupc _, .tup _ _ _,_,_,_,h=>nomatch (show none=some _ from h)
 | .tupc _, .tupc _,_,_,_,h=>nomatch (show none=some _ from h)
 | .at _, .tupc _,_,_,_,h=>nomatch (show none=some _ from h)
 | .agg _, .tupc _,_,_,_,h=>nomatch (show none=some _ from h)
 | .tup _ _ _, .tupc _,_,_,_,h=>nomatch (show none=some _ from h)
theorem At2: ∀(c d:OB) {R:Type} (r:R) (v:obV c R),Kh c d r=some v→(Ajp c v).1.map Ke=d.map Ke∧(Ajp c v).2=r
 | .arr fr tr e tid ys, .arr fr' tr' e' tid' xs,R,r,v,h=>by
  by_cases hc:e'=e∧fr'=fr∧tr'=tr∧tid'=tid
  ·obtain ⟨h1,h2,h3,h4⟩:=hc
   subst h1;subst h2;subst h3;subst h4
   have h3:some ((xs,r):List e'.den×R)=some v:=by
    have:Kh (.arr fr' tr' e' tid' ys) (.arr fr' tr' e' tid' xs) r=some ((xs,r):List e'.den×R):=dif_pos ⟨rfl,rfl,rfl,rfl⟩
    exact this.symm.trans h
   injection h3 with h3
   subst h3;exact ⟨rfl,rfl⟩
  ·have h3:Kh (.arr fr tr e tid ys) (.arr fr' tr' e' tid' xs) r=none:=dif_neg hc
   rw [h3] at h;cases h
 | .xarr e tid ys, .xarr e' tid' xs,R,r,v,h=>by
  by_cases hc:e'=e∧tid'=tid
  ·obtain ⟨h1,h4⟩:=hc
   subst h1;subst h4
   have h3:some ((xs,r):List e'.den×R)=some v:=by
    have:Kh (.xarr e' tid' ys) (.xarr e' tid' xs) r=some ((xs,r):List e'.den×R):=dif_pos ⟨rfl,rfl⟩
    exact this.symm.trans h
   injection h3 with h3
   subst h3;exact ⟨rfl,rfl⟩
  ·have h3:Kh (.xarr e tid ys) (.xarr e' tid' xs) r=none:=dif_neg hc
   rw [h3] at h;cases h
 | .smp vt m, .smp vt' m',R,r,v,h=>by
  by_cases hc:vt'=vt
  ·subst hc
   have h3:some ((m',r):(ByteArray→Option vt'.den)×R)=some v:=by
    have:Kh (.smp vt' m) (.smp vt' m') r=some ((m',r):(ByteArray→Option vt'.den)×R):=dif_pos rfl
    exact this.symm.trans h
   injection h3 with h3
   subst h3;exact ⟨rfl,rfl⟩
  ·have h3:Kh (.smp vt m) (.smp vt' m') r=none:=dif_neg hc
   rw [h3] at h;cases h
 | .var t vs, .var t' us,R,r,v,h=>by
  by_cases hc:t'=t
  ·subst hc
   have h0:Kh (.var t' vs) (.var t' us) r=Jt vs us r:=if_pos rfl
   rw [h0] at h
   obtain ⟨h1,h2⟩:=Vb vs us r v h
   exact ⟨by show OB.var _ _=OB.var _ _;rw [h1],h2⟩
  ·have h3:Kh (.var t vs) (.var t' us) r=none:=if_neg hc
   rw [h3] at h;cases h
 | .grid e te ys out none, .grid e' te' xs out' none,R,r,v,h=>by
  by_cases hc:e'=e∧te'=te∧out'=out
  ·obtain ⟨h1,h2,h4⟩:=hc
   subst h1;subst h2;subst h4
   have h3:some ((xs,r):List (List e'.den)×R)=some v:=by
    have:Kh (.grid e' te' ys out' none) (.grid e' te' xs out' none) r=some ((xs,r):List (List e'.den)×R):=dif_pos ⟨rfl,rfl,rfl⟩
    exact this.symm.trans h
   injection h3 with h3
   subst h3;exact ⟨rfl,rfl⟩
  ·have h3:Kh (.grid e te ys out none) (.grid e' te' xs out' none) r=none:=dif_neg hc
   rw [h3] at h;cases h
 | .grid e te ys out (some p), .grid e' te' xs out' (some p'),R,r,v,h=>by
  by_cases hc:e'=e∧te'=te∧out'=out∧p'.1=p.1
  ·obtain ⟨h1,h2,h4,h5⟩:=hc
   subst h1;subst h2;subst h4
   have h3:some ((xs,p'.2,r):List (List e'.den)×(Nat×R))=some v:=by
    have:Kh (.grid e' te' ys out' (some p)) (.grid e' te' xs out' (some p')) r=some ((xs,p'.2,r):List (List e'.den)×(Nat×R)):=dif_pos ⟨rfl,rfl,rfl,h5⟩
    exact this.symm.trans h
   injection h3 with h3
   subst h3
   refine ⟨?_,rfl⟩
   show OB.grid e' te' xs out' (some (p.1,p'.2))=OB.grid e' te' xs out' (some p')
   rw [←h5]
  ·have h3:Kh (.grid e te ys out (some p)) (.grid e' te' xs out' (some p')) r=none:=dif_neg hc
   rw [h3] at h;cases h
 | .grid _ _ _ _ none, .grid _ _ _ _ (some _),_,_,_,h=>nomatch (show none=some _ from h)
 | .grid _ _ _ _ (some _), .grid _ _ _ _ none,_,_,_,h=>nomatch (show none=some _ from h)
 | .grid _ _ _ _ none, .arr _ _ _ _ _,_,_,_,h=>nomatch (show none=some _ from h)
 | .grid _ _ _ _ none, .xarr _ _ _,_,_,_,h=>nomatch (show none=some _ from h)
 | .grid _ _ _ _ none, .var _ _,_,_,_,h=>nomatch (show none=some _ from h)
 | .grid _ _ _ _ none, .smp _ _,_,_,_,h=>nomatch (show none=some _ from h)
 | .grid _ _ _ _ (some _), .arr _ _ _ _ _,_,_,_,h=>nomatch (show none=some _ from h)
 | .grid _ _ _ _ (some _), .xarr _ _ _,_,_,_,h=>nomatch (show none=some _ from h)
 | .grid _ _ _ _ (some _), .var _ _,_,_,_,h=>nomatch (show none=some _ from h)
 | .grid _ _ _ _ (some _), .smp _ _,_,_,_,h=>nomatch (show none=some _ from h)
 | .arr _ _ _ _ _, .grid _ _ _ _ _,_,_,_,h=>nomatch (show none=some _ from h)
 | .xarr _ _ _, .grid _ _ _ _ _,_,_,_,h=>nomatch (show none=some _ from h)
 | .var _ _, .grid _ _ _ _ _,_,_,_,h=>nomatch (show none=some _ from h)
 | .smp _ _, .grid _ _ _ _ _,_,_,_,h=>nomatch (show none=some _ from h)
 | .arr _ _ _ _ _, .var _ _,_,_,_,h=>nomatch (show none=some _ from h)
 | .arr _ _ _ _ _, .xarr _ _ _,_,_,_,h=>nomatch (show none=some _ from h)
 | .arr _ _ _ _ _, .smp _ _,_,_,_,h=>nomatch (show none=some _ from h)
 | .xarr _ _ _, .var _ _,_,_,_,h=>nomatch (show none=some _ from h)
 | .xarr _ _ _, .arr _ _ _ _ _,_,_,_,h=>nomatch (show none=some _ from h)
 | .xarr _ _ _, .smp _ _,_,_,_,h=>nomatch (show none=some _ from h)
 | .smp _ _, .var _ _,_,_,_,h=>nomatch (show none=some _ from h)
 | .smp _ _, .arr _ _ _ _ _,_,_,_,h=>nomatch (show none=some _ from h)
 | .smp _ _, .xarr _ _ _,_,_,_,h=>nomatch (show none=some _ from h)
 | .var _ _, .arr _ _ _ _ _,_,_,_,h=>nomatch (show none=some _ from h)
 | .var _ _, .xarr _ _ _,_,_,_,h=>nomatch (show none=some _ from h)
 | .var _ _, .smp _ _,_,_,_,h=>nomatch (show none=some _ from h)
theorem Abq: ∀(l m:List AV) {R:Type} (r:R) (v:Ahe l R),Ho l m r=some v→(Mr l v).1.map (·.map Ke)=m.map (·.map Ke)∧(Mr l v).2=r
 | [],[],R,r,v,h=>by simp only [Ho] at h;injection h with h;subst h;exact ⟨rfl,rfl⟩
 | [],_::_,R,r,v,h=>by simp [Ho] at h
 |_::_,[],R,r,v,h=>by simp [Ho] at h
 |c::l,d::m,R,r,v,h=>by
  simp only [Ho] at h
  cases hr:Ho l m r with
  |none=>rw [hr] at h;cases h
  |some r'=>
   rw [hr] at h
   obtain ⟨h1,h2⟩:=Ar7 c d r' v h
   obtain ⟨h3,h4⟩:=Abq l m r r' hr
   simp only [Mr,List.map_cons]
   rw [h1,h2,h3]
   exact ⟨rfl,h4⟩
theorem Aba: ∀(l m:List (Nat×OB)) {R:Type} (r:R) (v:Amm l R),Ip l m r=some v→(Ua l v).1.map (fun p=>(p.1,p.2.map Ke))=m.map (fun p=>(p.1,p.2.map Ke))∧(Ua l v).2=r
 | [],[],R,r,v,h=>by simp only [Ip] at h;injection h with h;subst h;exact ⟨rfl,rfl⟩
 | [],_::_,R,r,v,h=>by simp [Ip] at h
 |_::_,[],R,r,v,h=>by simp [Ip] at h
 |c::l,d::m,R,r,v,h=>by
  simp only [Ip] at h
  split at h
  ·rename_i hk
   cases hr:Ip l m r with
   |none=>rw [hr] at h;cases h
   |some r'=>
    rw [hr] at h
    obtain ⟨h1,h2⟩:=At2 c.2 d.2 r' v h
    obtain ⟨h3,h4⟩:=Aba l m r r' hr
    simp only [Ua,List.map_cons]
    rw [h1,h2,h3,hk]
    exact ⟨rfl,h4⟩
  ·cases h
theorem Aa0 {s t:St} {v:stV s} (h:Zz s t=some v):(Zy s v).Ev Ke=t.Ev Ke:=by
 unfold Zz at h
 cases hr:Ip s.heap t.heap () with
 |none=>rw [hr] at h;cases h
 |some r=>
  rw [hr] at h
  obtain ⟨h1,h2⟩:=Abq s.tmps t.tmps r v h
  obtain ⟨h3,_⟩:=Aba s.heap t.heap () r hr
  simp only [Zy,St.Ev]
  rw [h1,h2,h3]
theorem Agf: ∀(c:AC) {R:Type} (r:R),Aeu c c r=some (Axa c r):=by
 intro c R r
 cases c<;>simp [Aeu,Axa]
theorem Vc: ∀(l:List AC) {R:Type} (r:R),Jt l l r=some (Aie l r)
 | [],_,_=>rfl
 |c::l,_,r=>by simp only [Jt,Vc l r,Aie];exact Agf c _
def AV.Abg:AV→Bool
 | .tupc _=>false
 |_=>true
theorem Ar8: ∀(c:AV),c.Abg=true→ ∀ {R:Type} (r:R),Ac6 c c r=some (Bdj c r):=by
 intro c hn R r
 cases c with
 |tupc l=>cases hn
 | «at»a=>exact Agf a r
 |agg cs=>exact Vc cs r
 |tup fr τ x=>exact dif_pos ⟨rfl,rfl⟩
theorem At3: ∀(c:OB) {R:Type} (r:R),Kh c c r=some (Bdm c r):=by
 intro c R r
 cases c with
 |arr fr tr e t xs=>exact dif_pos ⟨rfl,rfl,rfl,rfl⟩
 |xarr e t xs=>exact dif_pos ⟨rfl,rfl⟩
 |smp v m=>exact dif_pos rfl
 |grid e te rows out kp=>
  cases kp with
  |none=>exact dif_pos ⟨rfl,rfl,rfl⟩
  |some p=>exact dif_pos ⟨rfl,rfl,rfl,rfl⟩
 |var t vs=>
  have h0:Kh (.var t vs) (.var t vs) r=Jt vs vs r:=if_pos rfl
  exact h0.trans (Vc vs r)
theorem Abr: ∀(l:List AV),(∀c∈l,c.Abg=true)→ ∀ {R:Type} (r:R),Ho l l r=some (Ai7 l r)
 | [],_,_,_=>rfl
 |c::l,h,_,r=>by simp only [Ho,Abr l (fun c hc=>h c (List.mem_cons_of_mem _ hc)) r,Ai7];exact Ar8 c (h c (by simp)) _
theorem Abb: ∀(l:List (Nat×OB)) {R:Type} (r:R),Ip l l r=some (Ai4 l r)
 | [],_,_=>rfl
 |c::l,_,r=>by simp only [Ip,if_true,Abb l r,Ai4];exact At3 c.2 _
theorem Ahb (s:St) (h: ∀c∈s.tmps,c.Abg=true):Zz s s=some (Axw s):=by
 simp only [Zz,Abb,Axw]
 exact Abr _ h _
theorem Ak {α:Type} {o:Option α} {K:α→Prop} :Dd o K↔ ∃x,o=some x∧K x:=by
 unfold Dd
 cases o with
 |none=>simp
 |some x=>simp
theorem Ad4: ∀(l m:List AC),l.map Ke=m.map Ke→l.flatMap Qm=m.flatMap Qm→l=m
 | [],[],_,_=>rfl
 | [],_::_,h,_=>by simp at h
 |_::_,[],h,_=>by simp at h
 |c::l,d::m,h,ho=>by
  simp only [List.map_cons,List.cons.injEq] at h
  simp only [List.flatMap_cons] at ho
  have hcd:c=d∧l.flatMap Qm=m.flatMap Qm:=by
   cases c<;>cases d<;>first|(cases h.1;done)|skip
   all_goals first
    |(obtain ⟨h1,_⟩:=h
      simp only [Ke,AC.own.injEq] at h1
      simp only [Qm,List.cons_append,List.nil_append,List.cons.injEq,Prod.mk.injEq] at ho
      exact ⟨by rw [h1.1,ho.1.1,ho.1.2],ho.2⟩)
    |exact ⟨h.1,by simpa only [Qm,List.nil_append] using ho⟩
  rw [hcd.1,Ad4 l m h.2 hcd.2]
theorem Aea: ∀(l m:List AC),l.map Ke=m.map Ke→(l.flatMap Qm).length=(m.flatMap Qm).length
 | [],[],_=>rfl
 | [],_::_,h=>by simp at h
 |_::_,[],h=>by simp at h
 |c::l,d::m,h=>by
  simp only [List.map_cons,List.cons.injEq] at h
  simp only [List.flatMap_cons,List.length_append,Aea l m h.2]
  congr 1
  cases c<;>cases d<;>first|rfl|(cases h.1;done)
theorem Bce {c d:AV} (h:c.map Ke=d.map Ke):(Qo c).length=(Qo d).length∧(Qo c=Qo d→(∀l,c≠ .tupc l)→c=d):=by
 cases c with
 | «at»a=>
  cases d<;>simp only [AV.map,AV.at.injEq,reduceCtorEq] at h
  rename_i b
  have h1: [a].map Ke= [b].map Ke:=by simp [h]
  refine ⟨by simpa [Qo] using Aea [a] [b] h1,fun ho _=>?_⟩
  have:=Ad4 [a] [b] h1 (by simpa [Qo] using ho)
  simpa using this
 |agg cs=>
  cases d<;>simp only [AV.map,AV.agg.injEq,reduceCtorEq] at h
  rename_i ds
  exact ⟨Aea cs ds h,fun ho _=>by rw [Ad4 cs ds h ho]⟩
 |tup fr τ x=>
  cases d<;>simp only [AV.map,reduceCtorEq] at h
  exact ⟨rfl,fun _ _=>h⟩
 |tupc l=>
  cases d<;>simp only [AV.map,reduceCtorEq] at h
  exact ⟨rfl,fun _ hn=>absurd rfl (hn l)⟩
theorem Ara: ∀(l m:List AV),l.map (·.map Ke)=m.map (·.map Ke)→(∀c∈l,c.Abg=true)→(l.flatMap Qo).length=(m.flatMap Qo).length∧(l.flatMap Qo=m.flatMap Qo→l=m)
 | [],[],_,_=>⟨rfl,fun _=>rfl⟩
 | [],_::_,h,_=>by simp at h
 |_::_,[],h,_=>by simp at h
 |c::l,d::m,h,hn=>by
  simp only [List.map_cons,List.cons.injEq] at h
  obtain ⟨h1,h2⟩:=Bce h.1
  obtain ⟨h3,h4⟩:=Ara l m h.2 fun c hc=>hn c (List.mem_cons_of_mem _ hc)
  refine ⟨by simp only [List.flatMap_cons,List.length_append,h1,h3],fun ho=>?_⟩
  simp only [List.flatMap_cons] at ho
  obtain ⟨g1,g2⟩:=List.append_inj ho h1
  have hnt: ∀l',c≠ .tupc l':=fun l' e=>by
   have:=hn c (by simp)
   rw [e] at this
   cases this
  rw [h2 g1 hnt,h4 g2]
theorem Bcn {c d:OB} (h:c.map Ke=d.map Ke):(Acp c).length=(Acp d).length∧(Acp c=Acp d→c=d):=by
 cases c with
 |var t vs=>
  cases d<;>simp only [OB.map,OB.var.injEq,reduceCtorEq] at h
  rename_i t' us
  obtain ⟨rfl,h⟩:=h
  exact ⟨Aea vs us h,fun ho=>by rw [Ad4 vs us h ho]⟩
 |_=>cases d<;>simp only [OB.map,reduceCtorEq] at h<;>exact ⟨rfl,fun _=>h⟩
theorem Amn: ∀(l m:List (Nat×OB)),l.map (fun p=>(p.1,p.2.map Ke))=m.map (fun p=>(p.1,p.2.map Ke))→(l.flatMap fun p=>Acp p.2)=(m.flatMap fun p=>Acp p.2)→l=m
 | [],[],_,_=>rfl
 | [],_::_,h,_=>by simp at h
 |_::_,[],h,_=>by simp at h
 |(k,c)::l,(k',d)::m,h,ho=>by
  simp only [List.map_cons,List.cons.injEq,Prod.mk.injEq] at h
  simp only [List.flatMap_cons] at ho
  obtain ⟨h1,h2⟩:=Bcn h.1.2
  obtain ⟨g1,g2⟩:=List.append_inj ho h1
  rw [h.1.1,h2 g1,Amn l m h.2 g2]
theorem Ar9 (l:List (Bool×List AC)) (e:AV) {R:Type} (r:R):Ac6 (.tupc l) e r=none:=by cases e<;>rfl
theorem Ao4 {d e:AV} {R:Type} {r:R} {v:avV d R} (h:Ac6 d e r=some v):d.Abg=true:=by
 cases d with
 |tupc l=>rw [Ar9] at h;cases h
 |_=>rfl
theorem Aa2: ∀(l m:List AV) {R:Type} (r:R) (v:Ahe l R),Ho l m r=some v→ ∀c∈l,c.Abg=true
 | [],_,_,_,_,_,c,hc=>by cases hc
 |d::l,[],_,r,v,h,c,hc=>by cases h
 |d::l,e::m,R,r,v,h,c,hc=>by
  simp only [Ho] at h
  cases hr:Ho l m r with
  |none=>rw [hr] at h;cases h
  |some r'=>
   rw [hr] at h
   rcases List.mem_cons.1 hc with hc|hc
   ·rw [hc];exact Ao4 h
   ·exact Aa2 l m r r' hr c hc
theorem Amg {s0 s:St} (h:eqW s0 s):s=s0:=by
 obtain ⟨ho,h⟩:=h
 obtain ⟨v,h1,h2⟩:=Ak.1 h
 subst h2
 have hn: ∀c∈s0.tmps,c.Abg=true:=by
  unfold Zz at h1
  cases hr:Ip s0.heap s.heap () with
  |none=>rw [hr] at h1;cases h1
  |some r=>rw [hr] at h1;exact Aa2 _ _ _ _ h1
 have e:=(Aa0 h1).symm.trans (Aa0 (Ahb s0 hn))
 simp only [St.Ev,St.mk.injEq] at e
 obtain ⟨e1,e2⟩:=e
 obtain ⟨l1,l2⟩:=Ara s0.tmps s.tmps e1.symm hn
 unfold Awt at ho
 obtain ⟨g1,g2⟩:=List.append_inj ho l1.symm
 have k1:=l2 g1.symm
 have k2:=Amn s.heap s0.heap e2 g2
 cases s;cases s0
 simp only at k1 k2
 rw [k1,k2]
end Go.Proofs.Ytebabhocakedaaa
