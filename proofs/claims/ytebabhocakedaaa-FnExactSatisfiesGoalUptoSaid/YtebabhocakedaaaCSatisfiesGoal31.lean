/-
  Part 32 of the proof that the statement FnExactSatisfiesGoal holds.
-/
import Derived.Test.YtebabhocakedaaaCSatisfiesGoal30
namespace Go.Proofs.Ytebabhocakedaaa
open Go.RowKit
def Ju:AC→AC
 | .own l _ _=> .own l 0 0
 |c=>c
theorem Afm: ∀(c d:AC) {R:Type} (r:R) (v:acV c R),Ae7 c d r=some v→Ju (Abc c v).1=Ju d∧(Abc c v).2=r:=by
 intro c d R r v h
 cases c<;>cases d<;>simp only [Ae7] at h<;>first|(cases h;first|done|exact ⟨rfl,rfl⟩)|skip
 all_goals
  split at h
  ·rename_i hc
   first
    |(obtain ⟨h1,h2⟩:=hc;subst h1;subst h2;injection h with h;subst h;exact ⟨rfl,rfl⟩)
    |(subst hc;injection h with h;subst h;exact ⟨rfl,rfl⟩)
  ·cases h
theorem Uf: ∀(l m:List AC) {R:Type} (r:R) (v:Atd l R),Jh l m r=some v→(Ow l v).1.map Ju=m.map Ju∧(Ow l v).2=r
 | [],[],R,r,v,h=>by simp only [Jh] at h;injection h with h;subst h;exact ⟨rfl,rfl⟩
 | [],_::_,R,r,v,h=>by simp [Jh] at h
 |_::_,[],R,r,v,h=>by simp [Jh] at h
 |c::l,d::m,R,r,v,h=>by
  simp only [Jh] at h
  cases hr:Jh l m r with
  |none=>rw [hr] at h;cases h
  |some r'=>
   rw [hr] at h
   obtain ⟨h1,h2⟩:=Afm c d r' v h
   obtain ⟨h3,h4⟩:=Uf l m r r' hr
   simp only [Ow,List.map_cons]
   rw [h1,h2,h3]
   exact ⟨rfl,h4⟩
theorem Apy: ∀(c d:AV) {R:Type} (r:R) (v:avV c R),Abg c d r=some v→(Aho c v).1.map Ju=d.map Ju∧(Aho c v).2=r
 | .at a, .at b,R,r,v,h=>by
  obtain ⟨h1,h2⟩:=Afm a b r v h
  exact ⟨by show AV.at _=AV.at _;rw [h1],h2⟩
 | .agg cs, .agg ds,R,r,v,h=>by
  obtain ⟨h1,h2⟩:=Uf cs ds r v h
  exact ⟨by show AV.agg _=AV.agg _;rw [h1],h2⟩
 | .tup fr τ y, .tup fr' τ' x,R,r,v,h=>by
  by_cases hc:τ'=τ∧fr'=fr
  ·obtain ⟨h1,h2⟩:=hc
   subst h1;subst h2
   have h3:some ((x,r):τ'.den×R)=some v:=by
    have:Abg (.tup fr' τ' y) (.tup fr' τ' x) r=some ((x,r):τ'.den×R):=dif_pos ⟨rfl,rfl⟩
    exact this.symm.trans h
   injection h3 with h3
   subst h3;exact ⟨rfl,rfl⟩
  ·have h3:Abg (.tup fr τ y) (.tup fr' τ' x) r=none:=dif_neg hc
   rw [h3] at h;cases h
 | .at _, .agg _,_,_,_,h=>nomatch (show none=some _ from h)
 | .at _, .tup _ _ _,_,_,_,h=>nomatch (show none=some _ from h)
 | .agg _, .at _,_,_,_,h=>nomatch (show none=some _ from h)
 | .agg _, .tup _ _ _,_,_,_,h=>nomatch (show none=some _ from h)
 | .tup _ _ _, .at _,_,_,_,h=>nomatch (show none=some _ from h)
 | .tup _ _ _, .agg _,_,_,_,h=>nomatch (show none=some _ from h)
 | .tupc _, .at _,_,_,_,h=>nomatch (show none=some _ from h)
 | .tupc _, .agg _,_,_,_,h=>nomatch (show none=some _ from h)
 | .tupc _, .tup _ _ _,_,_,_,h=>nomatch (show none=some _ from h)
 | .tupc _, .tupc _,_,_,_,h=>nomatch (show none=some _ from h)
 | .at _, .tupc _,_,_,_,h=>nomatch (show none=some _ from h)
 | .agg _, .tupc _,_,_,_,h=>nomatch (show none=some _ from h)
 | .tup _ _ _, .tupc _,_,_,_,h=>nomatch (show none=some _ from h)
theorem Arr: ∀(c d:OB) {R:Type} (r:R) (v:obV c R),Jx c d r=some v→(Aiq c v).1.map Ju=d.map Ju∧(Aiq c v).2=r
 | .arr fr tr e tid ys, .arr fr' tr' e' tid' xs,R,r,v,h=>by
  by_cases hc:e'=e∧fr'=fr∧tr'=tr∧tid'=tid
  ·obtain ⟨h1,h2,h3,h4⟩:=hc
   subst h1;subst h2;subst h3;subst h4
   have h3:some ((xs,r):List e'.den×R)=some v:=by
    have:Jx (.arr fr' tr' e' tid' ys) (.arr fr' tr' e' tid' xs) r=some ((xs,r):List e'.den×R):=dif_pos ⟨rfl,rfl,rfl,rfl⟩
    exact this.symm.trans h
   injection h3 with h3
   subst h3;exact ⟨rfl,rfl⟩
  ·have h3:Jx (.arr fr tr e tid ys) (.arr fr' tr' e' tid' xs) r=none:=dif_neg hc
   rw [h3] at h;cases h
 | .xarr e tid ys, .xarr e' tid' xs,R,r,v,h=>by
  by_cases hc:e'=e∧tid'=tid
  ·obtain ⟨h1,h4⟩:=hc
   subst h1;subst h4
   have h3:some ((xs,r):List e'.den×R)=some v:=by
    have:Jx (.xarr e' tid' ys) (.xarr e' tid' xs) r=some ((xs,r):List e'.den×R):=dif_pos ⟨rfl,rfl⟩
    exact this.symm.trans h
   injection h3 with h3
   subst h3;exact ⟨rfl,rfl⟩
  ·have h3:Jx (.xarr e tid ys) (.xarr e' tid' xs) r=none:=dif_neg hc
   rw [h3] at h;cases h
 | .smp vt m, .smp vt' m',R,r,v,h=>by
  by_cases hc:vt'=vt
  ·subst hc
   have h3:some ((m',r):(ByteArray→Option vt'.den)×R)=some v:=by
    have:Jx (.smp vt' m) (.smp vt' m') r=some ((m',r):(ByteArray→Option vt'.den)×R):=dif_pos rfl
    exact this.symm.trans h
   injection h3 with h3
   subst h3;exact ⟨rfl,rfl⟩
  ·have h3:Jx (.smp vt m) (.smp vt' m') r=none:=dif_neg hc
   rw [h3] at h;cases h
 | .var t vs, .var t' us,R,r,v,h=>by
  by_cases hc:t'=t
  ·subst hc
   have h0:Jx (.var t' vs) (.var t' us) r=Jh vs us r:=if_pos rfl
   rw [h0] at h
   obtain ⟨h1,h2⟩:=Uf vs us r v h
   exact ⟨by show OB.var _ _=OB.var _ _;rw [h1],h2⟩
  ·have h3:Jx (.var t vs) (.var t' us) r=none:=if_neg hc
   rw [h3] at h;cases h
 | .grid e te ys out none, .grid e' te' xs out' none,R,r,v,h=>by
  by_cases hc:e'=e∧te'=te∧out'=out
  ·obtain ⟨h1,h2,h4⟩:=hc
   subst h1;subst h2;subst h4
   have h3:some ((xs,r):List (List e'.den)×R)=some v:=by
    have:Jx (.grid e' te' ys out' none) (.grid e' te' xs out' none) r=some ((xs,r):List (List e'.den)×R):=dif_pos ⟨rfl,rfl,rfl⟩
    exact this.symm.trans h
   injection h3 with h3
   subst h3;exact ⟨rfl,rfl⟩
  ·have h3:Jx (.grid e te ys out none) (.grid e' te' xs out' none) r=none:=dif_neg hc
   rw [h3] at h;cases h
 | .grid e te ys out (some p), .grid e' te' xs out' (some p'),R,r,v,h=>by
  by_cases hc:e'=e∧te'=te∧out'=out∧p'.1=p.1
  ·obtain ⟨h1,h2,h4,h5⟩:=hc
   subst h1;subst h2;subst h4
   have h3:some ((xs,p'.2,r):List (List e'.den)×(Nat×R))=some v:=by
    have:Jx (.grid e' te' ys out' (some p)) (.grid e' te' xs out' (some p')) r=some ((xs,p'.2,r):List (List e'.den)×(Nat×R)):=dif_pos ⟨rfl,rfl,rfl,h5⟩
    exact this.symm.trans h
   injection h3 with h3
   subst h3
   refine ⟨?_,rfl⟩
   show OB.grid e' te' xs out' (some (p.1,p'.2))=OB.grid e' te' xs out' (some p')
   rw [←h5]
  ·have h3:Jx (.grid e te ys out (some p)) (.grid e' te' xs out' (some p')) r=none:=dif_neg hc
   rw [h3] at h;cases h
 | .grid _ _ _ _ none, .grid _ _ _ _ (some _),_,_,_,h=>nomatch (show none=some _ from h)
 | .grid _ _ _ _ (some _), .grid _ _ _ _ none,_,_,_,h=>nomatch (show none=some _ from h)
 | .grid _ _ _ _ none, .arr _ _ _ _ _,_,_,_,h=>nomatch (show none=some _ from h)
 | .grid _ _ _ _ none, .xarr _ _ _,_,_,_,h=>nomatch (show none=some _ from h)
 | .grid _ _ _ _ none, .var _ _,_,_,_,h=>nomatch (show none=some _ from h)
 | .grid _ _ _ _ none, .smp _ _,_,_,_,h=>nomatch (show none=some _ from h)
 | .grid _ _ _ _ (some _), .arr _ _ _ _ _,_,_,_,h=>nomatch (show none=some _ from h)
 | .grid _ _ _ _ (some _), .xarr _ _ _,_,_,_,h=>nomatch (show none=some _ from h)
 | .grid _ _ _ _ (some _), .var _ _,_,_,_,h=>nomatch (show none=some _ from h)
 | .grid _ _ _ _ (some _), .smp _ _,_,_,_,h=>nomatch (show none=some _ from h)
 | .arr _ _ _ _ _, .grid _ _ _ _ _,_,_,_,h=>nomatch (show none=some _ from h)
 | .xarr _ _ _, .grid _ _ _ _ _,_,_,_,h=>nomatch (show none=some _ from h)
 | .var _ _, .grid _ _ _ _ _,_,_,_,h=>nomatch (show none=some _ from h)
 | .smp _ _, .grid _ _ _ _ _,_,_,_,h=>nomatch (show none=some _ from h)
 | .arr _ _ _ _ _, .var _ _,_,_,_,h=>nomatch (show none=some _ from h)
 | .arr _ _ _ _ _, .xarr _ _ _,_,_,_,h=>nomatch (show none=some _ from h)
 | .arr _ _ _ _ _, .smp _ _,_,_,_,h=>nomatch (show none=some _ from h)
 | .xarr _ _ _, .var _ _,_,_,_,h=>nomatch (show none=some _ from h)
 | .xarr _ _ _, .arr _ _ _ _ _,_,_,_,h=>nomatch (show none=some _ from h)
 | .xarr _ _ _, .smp _ _,_,_,_,h=>nomatch (show none=some _ from h)
 | .smp _ _, .var _ _,_,_,_,h=>nomatch (show none=some _ from h)
 | .smp _ _, .arr _ _ _ _ _,_,_,_,h=>nomatch (show none=some _ from h)
 | .smp _ _, .xarr _ _ _,_,_,_,h=>nomatch (show none=some _ from h)
 | .var _ _, .arr _ _ _ _ _,_,_,_,h=>nomatch (show none=some _ from h)
 | .var _ _, .xarr _ _ _,_,_,_,h=>nomatch (show none=some _ from h)
 | .var _ _, .smp _ _,_,_,_,h=>nomatch (show none=some _ from h)
theorem Ab0: ∀(l m:List AV) {R:Type} (r:R) (v:Agi l R),Ho l m r=some v→(Mb l v).1.map (·.map Ju)=m.map (·.map Ju)∧(Mb l v).2=r
 | [],[],R,r,v,h=>by simp only [Ho] at h;injection h with h;subst h;exact ⟨rfl,rfl⟩
 | [],_::_,R,r,v,h=>by simp [Ho] at h
 |_::_,[],R,r,v,h=>by simp [Ho] at h
 |c::l,d::m,R,r,v,h=>by
  simp only [Ho] at h
  cases hr:Ho l m r with
  |none=>rw [hr] at h;cases h
  |some r'=>
   rw [hr] at h
   obtain ⟨h1,h2⟩:=Apy c d r' v h
   obtain ⟨h3,h4⟩:=Ab0 l m r r' hr
   simp only [Mb,List.map_cons]
   rw [h1,h2,h3]
   exact ⟨rfl,h4⟩
theorem Aaj: ∀(l m:List (Nat×OB)) {R:Type} (r:R) (v:Alo l R),Ig l m r=some v→(Tj l v).1.map (fun p=>(p.1,p.2.map Ju))=m.map (fun p=>(p.1,p.2.map Ju))∧(Tj l v).2=r
 | [],[],R,r,v,h=>by simp only [Ig] at h;injection h with h;subst h;exact ⟨rfl,rfl⟩
 | [],_::_,R,r,v,h=>by simp [Ig] at h
 |_::_,[],R,r,v,h=>by simp [Ig] at h
 |c::l,d::m,R,r,v,h=>by
  simp only [Ig] at h
  split at h
  ·rename_i hk
   cases hr:Ig l m r with
   |none=>rw [hr] at h;cases h
   |some r'=>
    rw [hr] at h
    obtain ⟨h1,h2⟩:=Arr c.2 d.2 r' v h
    obtain ⟨h3,h4⟩:=Aaj l m r r' hr
    simp only [Tj,List.map_cons]
    rw [h1,h2,h3,hk]
    exact ⟨rfl,h4⟩
  ·cases h
theorem Za {s t:St} {v:stV s} (h:Yz s t=some v):(Yy s v).Es Ju=t.Es Ju:=by
 unfold Yz at h
 cases hr:Ig s.heap t.heap () with
 |none=>rw [hr] at h;cases h
 |some r=>
  rw [hr] at h
  obtain ⟨h1,h2⟩:=Ab0 s.tmps t.tmps r v h
  obtain ⟨h3,_⟩:=Aaj s.heap t.heap () r hr
  simp only [Yy,St.Es]
  rw [h1,h2,h3]
theorem Afn: ∀(c:AC) {R:Type} (r:R),Ae7 c c r=some (Avx c r):=by
 intro c R r
 cases c<;>simp [Ae7,Avx]
theorem Ug: ∀(l:List AC) {R:Type} (r:R),Jh l l r=some (Ahg l r)
 | [],_,_=>rfl
 |c::l,_,r=>by simp only [Jh,Ug l r,Ahg];exact Afn c _
def AV.Aaq:AV→Bool
 | .tupc _=>false
 |_=>true
theorem Apz: ∀(c:AV),c.Aaq=true→ ∀ {R:Type} (r:R),Abg c c r=some (Bc4 c r):=by
 intro c hn R r
 cases c with
 |tupc l=>cases hn
 | «at»a=>exact Afn a r
 |agg cs=>exact Ug cs r
 |tup fr τ x=>exact dif_pos ⟨rfl,rfl⟩
theorem Ars: ∀(c:OB) {R:Type} (r:R),Jx c c r=some (Bc7 c r):=by
 intro c R r
 cases c with
 |arr fr tr e t xs=>exact dif_pos ⟨rfl,rfl,rfl,rfl⟩
 |xarr e t xs=>exact dif_pos ⟨rfl,rfl⟩
 |smp v m=>exact dif_pos rfl
 |grid e te rows out kp=>
  cases kp with
  |none=>exact dif_pos ⟨rfl,rfl,rfl⟩
  |some p=>exact dif_pos ⟨rfl,rfl,rfl,rfl⟩
 |var t vs=>
  have h0:Jx (.var t vs) (.var t vs) r=Jh vs vs r:=if_pos rfl
  exact h0.trans (Ug vs r)
theorem Ab1: ∀(l:List AV),(∀c∈l,c.Aaq=true)→ ∀ {R:Type} (r:R),Ho l l r=some (Ah9 l r)
 | [],_,_,_=>rfl
 |c::l,h,_,r=>by simp only [Ho,Ab1 l (fun c hc=>h c (List.mem_cons_of_mem _ hc)) r,Ah9];exact Apz c (h c (by simp)) _
theorem Aak: ∀(l:List (Nat×OB)) {R:Type} (r:R),Ig l l r=some (Ah6 l r)
 | [],_,_=>rfl
 |c::l,_,r=>by simp only [Ig,if_true,Aak l r,Ah6];exact Ars c.2 _
theorem Agf (s:St) (h: ∀c∈s.tmps,c.Aaq=true):Yz s s=some (Awk s):=by
 simp only [Yz,Aak,Awk]
 exact Ab1 _ h _
theorem Ak {α:Type} {o:Option α} {K:α→Prop} :Cy o K↔ ∃x,o=some x∧K x:=by
 unfold Cy
 cases o with
 |none=>simp
 |some x=>simp
theorem Aca: ∀(l m:List AC),l.map Ju=m.map Ju→l.flatMap Qc=m.flatMap Qc→l=m
 | [],[],_,_=>rfl
 | [],_::_,h,_=>by simp at h
 |_::_,[],h,_=>by simp at h
 |c::l,d::m,h,ho=>by
  simp only [List.map_cons,List.cons.injEq] at h
  simp only [List.flatMap_cons] at ho
  have hcd:c=d∧l.flatMap Qc=m.flatMap Qc:=by
   cases c<;>cases d<;>first|(cases h.1;done)|skip
   all_goals first
    |(obtain ⟨h1,_⟩:=h
      simp only [Ju,AC.own.injEq] at h1
      simp only [Qc,List.cons_append,List.nil_append,List.cons.injEq,Prod.mk.injEq] at ho
      exact ⟨by rw [h1.1,ho.1.1,ho.1.2],ho.2⟩)
    |exact ⟨h.1,by simpa only [Qc,List.nil_append] using ho⟩
  rw [hcd.1,Aca l m h.2 hcd.2]
theorem Adi: ∀(l m:List AC),l.map Ju=m.map Ju→(l.flatMap Qc).length=(m.flatMap Qc).length
 | [],[],_=>rfl
 | [],_::_,h=>by simp at h
 |_::_,[],h=>by simp at h
 |c::l,d::m,h=>by
  simp only [List.map_cons,List.cons.injEq] at h
  simp only [List.flatMap_cons,List.length_append,Adi l m h.2]
  congr 1
  cases c<;>cases d<;>first|rfl|(cases h.1;done)
theorem Bb0 {c d:AV} (h:c.map Ju=d.map Ju):(Qe c).length=(Qe d).length∧(Qe c=Qe d→(∀l,c≠ .tupc l)→c=d):=by
 cases c with
 | «at»a=>
  cases d<;>simp only [AV.map,AV.at.injEq,reduceCtorEq] at h
  rename_i b
  have h1: [a].map Ju= [b].map Ju:=by simp [h]
  refine ⟨by simpa [Qe] using Adi [a] [b] h1,fun ho _=>?_⟩
  have:=Aca [a] [b] h1 (by simpa [Qe] using ho)
  simpa using this
 |agg cs=>
  cases d<;>simp only [AV.map,AV.agg.injEq,reduceCtorEq] at h
  rename_i ds
  exact ⟨Adi cs ds h,fun ho _=>by rw [Aca cs ds h ho]⟩
 |tup fr τ x=>
  cases d<;>simp only [AV.map,reduceCtorEq] at h
  exact ⟨rfl,fun _ _=>h⟩
 |tupc l=>
  cases d<;>simp only [AV.map,reduceCtorEq] at h
  exact ⟨rfl,fun _ hn=>absurd rfl (hn l)⟩
theorem Aq1: ∀(l m:List AV),l.map (·.map Ju)=m.map (·.map Ju)→(∀c∈l,c.Aaq=true)→(l.flatMap Qe).length=(m.flatMap Qe).length∧(l.flatMap Qe=m.flatMap Qe→l=m)
 | [],[],_,_=>⟨rfl,fun _=>rfl⟩
 | [],_::_,h,_=>by simp at h
 |_::_,[],h,_=>by simp at h
 |c::l,d::m,h,hn=>by
  simp only [List.map_cons,List.cons.injEq] at h
  obtain ⟨h1,h2⟩:=Bb0 h.1
  obtain ⟨h3,h4⟩:=Aq1 l m h.2 fun c hc=>hn c (List.mem_cons_of_mem _ hc)
  refine ⟨by simp only [List.flatMap_cons,List.length_append,h1,h3],fun ho=>?_⟩
  simp only [List.flatMap_cons] at ho
  obtain ⟨g1,g2⟩:=List.append_inj ho h1
  have hnt: ∀l',c≠ .tupc l':=fun l' e=>by
   have:=hn c (by simp)
   rw [e] at this
   cases this
  rw [h2 g1 hnt,h4 g2]
theorem Bbb {c d:OB} (h:c.map Ju=d.map Ju):(Abx c).length=(Abx d).length∧(Abx c=Abx d→c=d):=by
 cases c with
 |var t vs=>
  cases d<;>simp only [OB.map,OB.var.injEq,reduceCtorEq] at h
  rename_i t' us
  obtain ⟨rfl,h⟩:=h
  exact ⟨Adi vs us h,fun ho=>by rw [Aca vs us h ho]⟩
 |_=>cases d<;>simp only [OB.map,reduceCtorEq] at h<;>exact ⟨rfl,fun _=>h⟩
theorem Alp: ∀(l m:List (Nat×OB)),l.map (fun p=>(p.1,p.2.map Ju))=m.map (fun p=>(p.1,p.2.map Ju))→(l.flatMap fun p=>Abx p.2)=(m.flatMap fun p=>Abx p.2)→l=m
 | [],[],_,_=>rfl
 | [],_::_,h,_=>by simp at h
 |_::_,[],h,_=>by simp at h
 |(k,c)::l,(k',d)::m,h,ho=>by
  simp only [List.map_cons,List.cons.injEq,Prod.mk.injEq] at h
  simp only [List.flatMap_cons] at ho
  obtain ⟨h1,h2⟩:=Bbb h.1.2
  obtain ⟨g1,g2⟩:=List.append_inj ho h1
  rw [h.1.1,h2 g1,Alp l m h.2 g2]
theorem Aq0 (l:List (Bool×List AC)) (e:AV) {R:Type} (r:R):Abg (.tupc l) e r=none:=by cases e<;>rfl
theorem An7 {d e:AV} {R:Type} {r:R} {v:avV d R} (h:Abg d e r=some v):d.Aaq=true:=by
 cases d with
 |tupc l=>rw [Aq0] at h;cases h
 |_=>rfl
theorem Zc: ∀(l m:List AV) {R:Type} (r:R) (v:Agi l R),Ho l m r=some v→ ∀c∈l,c.Aaq=true
 | [],_,_,_,_,_,c,hc=>by cases hc
 |d::l,[],_,r,v,h,c,hc=>by cases h
 |d::l,e::m,R,r,v,h,c,hc=>by
  simp only [Ho] at h
  cases hr:Ho l m r with
  |none=>rw [hr] at h;cases h
  |some r'=>
   rw [hr] at h
   rcases List.mem_cons.1 hc with hc|hc
   ·rw [hc];exact An7 h
   ·exact Zc l m r r' hr c hc
theorem Ali {s0 s:St} (h:eqW s0 s):s=s0:=by
 obtain ⟨ho,h⟩:=h
 obtain ⟨v,h1,h2⟩:=Ak.1 h
 subst h2
 have hn: ∀c∈s0.tmps,c.Aaq=true:=by
  unfold Yz at h1
  cases hr:Ig s0.heap s.heap () with
  |none=>rw [hr] at h1;cases h1
  |some r=>rw [hr] at h1;exact Zc _ _ _ _ h1
 have e:=(Za h1).symm.trans (Za (Agf s0 hn))
 simp only [St.Es,St.mk.injEq] at e
 obtain ⟨e1,e2⟩:=e
 obtain ⟨l1,l2⟩:=Aq1 s0.tmps s.tmps e1.symm hn
 unfold Avi at ho
 obtain ⟨g1,g2⟩:=List.append_inj ho l1.symm
 have k1:=l2 g1.symm
 have k2:=Alp s.heap s0.heap e2 g2
 cases s;cases s0
 simp only at k1 k2
 rw [k1,k2]
end Go.Proofs.Ytebabhocakedaaa
