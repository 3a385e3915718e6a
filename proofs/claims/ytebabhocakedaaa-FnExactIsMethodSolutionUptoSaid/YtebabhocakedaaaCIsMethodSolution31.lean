/-
  Part 32 of the proof that the statement FnExactIsMethodSolution holds.
-/
import Derived.Test.YtebabhocakedaaaCIsMethodSolution30
namespace Go.Proofs.Ytebabhocakedaaa
open Go.RowKit
def Kh:AC→AC
 | .own l _ _=> .own l 0 0
 |c=>c
theorem Agc: ∀(c d:AC) {R:Type} (r:R) (v:acV c R),Aez c d r=some v→Kh (Ac1 c v).1=Kh d∧(Ac1 c v).2=r:=by
 intro c d R r v h
 cases c<;>cases d<;>simp only [Aez] at h<;>first|(cases h;first|done|exact ⟨rfl,rfl⟩)|skip
 all_goals
  split at h
  ·rename_i hc
   first
    |(obtain ⟨h1,h2⟩:=hc;subst h1;subst h2;injection h with h;subst h;exact ⟨rfl,rfl⟩)
    |(subst hc;injection h with h;subst h;exact ⟨rfl,rfl⟩)
  ·cases h
theorem Uz: ∀(l m:List AC) {R:Type} (r:R) (v:Av0 l R),Jv l m r=some v→(Ps l v).1.map Kh=m.map Kh∧(Ps l v).2=r
 | [],[],R,r,v,h=>by simp only [Jv] at h;injection h with h;subst h;exact ⟨rfl,rfl⟩
 | [],_::_,R,r,v,h=>by simp [Jv] at h
 |_::_,[],R,r,v,h=>by simp [Jv] at h
 |c::l,d::m,R,r,v,h=>by
  simp only [Jv] at h
  cases hr:Jv l m r with
  |none=>rw [hr] at h;cases h
  |some r'=>
   rw [hr] at h
   obtain ⟨h1,h2⟩:=Agc c d r' v h
   obtain ⟨h3,h4⟩:=Uz l m r r' hr
   simp only [Ps,List.map_cons]
   rw [h1,h2,h3]
   exact ⟨rfl,h4⟩
theorem Arh: ∀(c d:AV) {R:Type} (r:R) (v:avV c R),Ac5 c d r=some v→(Aik c v).1.map Kh=d.map Kh∧(Aik c v).2=r
 | .at a, .at b,R,r,v,h=>by
  obtain ⟨h1,h2⟩:=Agc a b r v h
  exact ⟨by show AV.at _=AV.at _;rw [h1],h2⟩
 | .agg cs, .agg ds,R,r,v,h=>by
  obtain ⟨h1,h2⟩:=Uz cs ds r v h
  exact ⟨by show AV.agg _=AV.agg _;rw [h1],h2⟩
 | .tup fr τ y, .tup fr' τ' x,R,r,v,h=>by
  by_cases hc:τ'=τ∧fr'=fr
  ·obtain ⟨h1,h2⟩:=hc
   subst h1;subst h2
   have h3:some ((x,r):τ'.den×R)=some v:=by
    have:Ac5 (.tup fr' τ' y) (.tup fr' τ' x) r=some ((x,r):τ'.den×R):=dif_pos ⟨rfl,rfl⟩
    exact this.symm.trans h
   injection h3 with h3
   subst h3;exact ⟨rfl,rfl⟩
  ·have h3:Ac5 (.tup fr τ y) (.tup fr' τ' x) r=none:=dif_neg hc
   rw [h3] at h;cases h
 | .at _, .agg _,_,_,_,h=>nomatch (show none=some _ from h)
 | .at _, .tup _ _ _,_,_,_,h=>nomatch (show none=some _ from h)
 | .agg _, .at _,_,_,_,h=>nomatch (show none=some _ from h)
 | .agg _, .tup _ _ _,_,_,_,h=>nomatch (show none=some _ from h)
 | .tup _ _ _, .at _,_,_,_,h=>nomatch (show none=some _ from h)
 | .tup _ _ _, .agg _,_,_,_,h=>nomatch (show none=some _ from h)
 | .tupc _, .at _,_,_,_,h=>nomatch (show none=some _ from h)
 | .tupc _, .agg _,_,_,_,h=>nomatch (show none=some _ from h)
 | .tupc _, .tup _ _ _,_,_,_,h=>nomatch (show none=some _ from h)
 | .tupc _, .tupc _,_,_,_,h=>nomatch (show none=some _ from h)
 | .at _, .tupc _,_,_,_,h=>nomatch (show none=some _ from h)
 | .agg _, .tupc _,_,_,_,h=>nomatch (show none=some _ from h)
 | .tup _ _ _, .tupc _,_,_,_,h=>nomatch (show none=some _ from h)
theorem Ata: ∀(c d:OB) {R:Type} (r:R) (v:obV c R),Kk c d r=some v→(Ajm c v).1.map Kh=d.map Kh∧(Ajm c v).2=r
 | .arr fr tr e tid ys, .arr fr' tr' e' tid' xs,R,r,v,h=>by
  by_cases hc:e'=e∧fr'=fr∧tr'=tr∧tid'=tid
  ·obtain ⟨h1,h2,h3,h4⟩:=hc
   subst h1;subst h2;subst h3;subst h4
   have h3:some ((xs,r):List e'.den×R)=some v:=by
    have:Kk (.arr fr' tr' e' tid' ys) (.arr fr' tr' e' tid' xs) r=some ((xs,r):List e'.den×R):=dif_pos ⟨rfl,rfl,rfl,rfl⟩
    exact this.symm.trans h
   injection h3 with h3
   subst h3;exact ⟨rfl,rfl⟩
  ·have h3:Kk (.arr fr tr e tid ys) (.arr fr' tr' e' tid' xs) r=none:=dif_neg hc
   rw [h3] at h;cases h
 | .xarr e tid ys, .xarr e' tid' xs,R,r,v,h=>by
  by_cases hc:e'=e∧tid'=tid
  ·obtain ⟨h1,h4⟩:=hc
   subst h1;subst h4
   have h3:some ((xs,r):List e'.den×R)=some v:=by
    have:Kk (.xarr e' tid' ys) (.xarr e' tid' xs) r=some ((xs,r):List e'.den×R):=dif_pos ⟨rfl,rfl⟩
    exact this.symm.trans h
   injection h3 with h3
   subst h3;exact ⟨rfl,rfl⟩
  ·have h3:Kk (.xarr e tid ys) (.xarr e' tid' xs) r=none:=dif_neg hc
   rw [h3] at h;cases h
 | .smp vt m, .smp vt' m',R,r,v,h=>by
  by_cases hc:vt'=vt
  ·subst hc
   have h3:some ((m',r):(ByteArray→Option vt'.den)×R)=some v:=by
    have:Kk (.smp vt' m) (.smp vt' m') r=some ((m',r):(ByteArray→Option vt'.den)×R):=dif_pos rfl
    exact this.symm.trans h
   injection h3 with h3
   subst h3;exact ⟨rfl,rfl⟩
  ·have h3:Kk (.smp vt m) (.smp vt' m') r=none:=dif_neg hc
   rw [h3] at h;cases h
 | .var t vs, .var t' us,R,r,v,h=>by
  by_cases hc:t'=t
  ·subst hc
   have h0:Kk (.var t' vs) (.var t' us) r=Jv vs us r:=if_pos rfl
   rw [h0] at h
   obtain ⟨h1,h2⟩:=Uz vs us r v h
   exact ⟨by show OB.var _ _=OB.var _ _;rw [h1],h2⟩
  ·have h3:Kk (.var t vs) (.var t' us) r=none:=if_neg hc
   rw [h3] at h;cases h
 | .grid e te ys out none, .grid e' te' xs out' none,R,r,v,h=>by
  by_cases hc:e'=e∧te'=te∧out'=out
  ·obtain ⟨h1,h2,h4⟩:=hc
   subst h1;subst h2;subst h4
   have h3:some ((xs,r):List (List e'.den)×R)=some v:=by
    have:Kk (.grid e' te' ys out' none) (.grid e' te' xs out' none) r=some ((xs,r):List (List e'.den)×R):=dif_pos ⟨rfl,rfl,rfl⟩
    exact this.symm.trans h
   injection h3 with h3
   subst h3;exact ⟨rfl,rfl⟩
  ·have h3:Kk (.grid e te ys out none) (.grid e' te' xs out' none) r=none:=dif_neg hc
   rw [h3] at h;cases h
 | .grid e te ys out (some p), .grid e' te' xs out' (some p'),R,r,v,h=>by
  by_cases hc:e'=e∧te'=te∧out'=out∧p'.1=p.1
  ·obtain ⟨h1,h2,h4,h5⟩:=hc
   subst h1;subst h2;subst h4
   have h3:some ((xs,p'.2,r):List (List e'.den)×(Nat×R))=some v:=by
    have:Kk (.grid e' te' ys out' (some p)) (.grid e' te' xs out' (some p')) r=some ((xs,p'.2,r):List (List e'.den)×(Nat×R)):=dif_pos ⟨rfl,rfl,rfl,h5⟩
    exact this.symm.trans h
   injection h3 with h3
   subst h3
   refine ⟨?_,rfl⟩
   show OB.grid e' te' xs out' (some (p.1,p'.2))=OB.grid e' te' xs out' (some p')
   rw [←h5]
  ·have h3:Kk (.grid e te ys out (some p)) (.grid e' te' xs out' (some p')) r=none:=dif_neg hc
   rw [h3] at h;cases h
 | .grid _ _ _ _ none, .grid _ _ _ _ (some _),_,_,_,h=>nomatch (show none=some _ from h)
 | .grid _ _ _ _ (some _), .grid _ _ _ _ none,_,_,_,h=>nomatch (show none=some _ from h)
 | .grid _ _ _ _ none, .arr _ _ _ _ _,_,_,_,h=>nomatch (show none=some _ from h)
 | .grid _ _ _ _ none, .xarr _ _ _,_,_,_,h=>nomatch (show none=some _ from h)
 | .grid _ _ _ _ none, .var _ _,_,_,_,h=>nomatch (show none=some _ from h)
 | .grid _ _ _ _ none, .smp _ _,_,_,_,h=>nomatch (show none=some _ from h)
 | .grid _ _ _ _ (some _), .arr _ _ _ _ _,_,_,_,h=>nomatch (show none=some _ from h)
 | .grid _ _ _ _ (some _), .xarr _ _ _,_,_,_,h=>nomatch (show none=some _ from h)
 | .grid _ _ _ _ (some _), .var _ _,_,_,_,h=>nomatch (show none=some _ from h)
 | .grid _ _ _ _ (some _), .smp _ _,_,_,_,h=>nomatch (show none=some _ from h)
 | .arr _ _ _ _ _, .grid _ _ _ _ _,_,_,_,h=>nomatch (show none=some _ from h)
 | .xarr _ _ _, .grid _ _ _ _ _,_,_,_,h=>nomatch (show none=some _ from h)
 | .var _ _, .grid _ _ _ _ _,_,_,_,h=>nomatch (show none=some _ from h)
 | .smp _ _, .grid _ _ _ _ _,_,_,_,h=>nomatch (show none=some _ from h)
 | .arr _ _ _ _ _, .var _ _,_,_,_,h=>nomatch (show none=some _ from h)
 | .arr _ _ _ _ _, .xarr _ _ _,_,_,_,h=>nomatch (show none=some _ from h)
 | .arr _ _ _ _ _, .smp _ _,_,_,_,h=>nomatch (show none=some _ from h)
 | .xarr _ _ _, .var _ _,_,_,_,h=>nomatch (show none=some _ from h)
 | .xarr _ _ _, .arr _ _ _ _ _,_,_,_,h=>nomatch (show none=some _ from h)
 | .xarr _ _ _, .smp _ _,_,_,_,h=>nomatch (show none=some _ from h)
 | .smp _ _, .var _ _,_,_,_,h=>nomatch (show none=some _ from h)
 | .smp _ _, .arr _ _ _ _ _,_,_,_,h=>nomatch (show none=some _ from h)
 | .smp _ _, .xarr _ _ _,_,_,_,h=>nomatch (show none=some _ from h)
 | .var _ _, .arr _ _ _ _ _,_,_,_,h=>nomatch (show none=some _ from h)
 | .var _ _, .xarr _ _ _,_,_,_,h=>nomatch (show none=some _ from h)
 | .var _ _, .smp _ _,_,_,_,h=>nomatch (show none=some _ from h)
theorem Abp: ∀(l m:List AV) {R:Type} (r:R) (v:Ahc l R),Hz l m r=some v→(Mr l v).1.map (·.map Kh)=m.map (·.map Kh)∧(Mr l v).2=r
 | [],[],R,r,v,h=>by simp only [Hz] at h;injection h with h;subst h;exact ⟨rfl,rfl⟩
 | [],_::_,R,r,v,h=>by simp [Hz] at h
 |_::_,[],R,r,v,h=>by simp [Hz] at h
 |c::l,d::m,R,r,v,h=>by
  simp only [Hz] at h
  cases hr:Hz l m r with
  |none=>rw [hr] at h;cases h
  |some r'=>
   rw [hr] at h
   obtain ⟨h1,h2⟩:=Arh c d r' v h
   obtain ⟨h3,h4⟩:=Abp l m r r' hr
   simp only [Mr,List.map_cons]
   rw [h1,h2,h3]
   exact ⟨rfl,h4⟩
theorem Ab9: ∀(l m:List (Nat×OB)) {R:Type} (r:R) (v:Amw l R),Iw l m r=some v→(Ue l v).1.map (fun p=>(p.1,p.2.map Kh))=m.map (fun p=>(p.1,p.2.map Kh))∧(Ue l v).2=r
 | [],[],R,r,v,h=>by simp only [Iw] at h;injection h with h;subst h;exact ⟨rfl,rfl⟩
 | [],_::_,R,r,v,h=>by simp [Iw] at h
 |_::_,[],R,r,v,h=>by simp [Iw] at h
 |c::l,d::m,R,r,v,h=>by
  simp only [Iw] at h
  split at h
  ·rename_i hk
   cases hr:Iw l m r with
   |none=>rw [hr] at h;cases h
   |some r'=>
    rw [hr] at h
    obtain ⟨h1,h2⟩:=Ata c.2 d.2 r' v h
    obtain ⟨h3,h4⟩:=Ab9 l m r r' hr
    simp only [Ue,List.map_cons]
    rw [h1,h2,h3,hk]
    exact ⟨rfl,h4⟩
  ·cases h
theorem Zy {s t:St} {v:stV s} (h:Zx s t=some v):(Zw s v).Fc Kh=t.Fc Kh:=by
 unfold Zx at h
 cases hr:Iw s.heap t.heap () with
 |none=>rw [hr] at h;cases h
 |some r=>
  rw [hr] at h
  obtain ⟨h1,h2⟩:=Abp s.tmps t.tmps r v h
  obtain ⟨h3,_⟩:=Ab9 s.heap t.heap () r hr
  simp only [Zw,St.Fc]
  rw [h1,h2,h3]
theorem Agd: ∀(c:AC) {R:Type} (r:R),Aez c c r=some (Axm c r):=by
 intro c R r
 cases c<;>simp [Aez,Axm]
theorem Va: ∀(l:List AC) {R:Type} (r:R),Jv l l r=some (Aib l r)
 | [],_,_=>rfl
 |c::l,_,r=>by simp only [Jv,Va l r,Aib];exact Agd c _
def AV.Abf:AV→Bool
 | .tupc _=>false
 |_=>true
theorem Ari: ∀(c:AV),c.Abf=true→ ∀ {R:Type} (r:R),Ac5 c c r=some (Beg c r):=by
 intro c hn R r
 cases c with
 |tupc l=>cases hn
 | «at»a=>exact Agd a r
 |agg cs=>exact Va cs r
 |tup fr τ x=>exact dif_pos ⟨rfl,rfl⟩
theorem Atb: ∀(c:OB) {R:Type} (r:R),Kk c c r=some (Bej c r):=by
 intro c R r
 cases c with
 |arr fr tr e t xs=>exact dif_pos ⟨rfl,rfl,rfl,rfl⟩
 |xarr e t xs=>exact dif_pos ⟨rfl,rfl⟩
 |smp v m=>exact dif_pos rfl
 |grid e te rows out kp=>
  cases kp with
  |none=>exact dif_pos ⟨rfl,rfl,rfl⟩
  |some p=>exact dif_pos ⟨rfl,rfl,rfl,rfl⟩
 |var t vs=>
  have h0:Kk (.var t vs) (.var t vs) r=Jv vs vs r:=if_pos rfl
  exact h0.trans (Va vs r)
theorem Abq: ∀(l:List AV),(∀c∈l,c.Abf=true)→ ∀ {R:Type} (r:R),Hz l l r=some (Ai4 l r)
 | [],_,_,_=>rfl
 |c::l,h,_,r=>by simp only [Hz,Abq l (fun c hc=>h c (List.mem_cons_of_mem _ hc)) r,Ai4];exact Ari c (h c (by simp)) _
theorem Aba: ∀(l:List (Nat×OB)) {R:Type} (r:R),Iw l l r=some (Ai1 l r)
 | [],_,_=>rfl
 |c::l,_,r=>by simp only [Iw,if_true,Aba l r,Ai1];exact Atb c.2 _
theorem Ah9 (s:St) (h: ∀c∈s.tmps,c.Abf=true):Zx s s=some (Ayc s):=by
 simp only [Zx,Aba,Ayc]
 exact Abq _ h _
theorem An {α:Type} {o:Option α} {K:α→Prop} :Dg o K↔ ∃x,o=some x∧K x:=by
 unfold Dg
 cases o with
 |none=>simp
 |some x=>simp
theorem Ad7: ∀(l m:List AC),l.map Kh=m.map Kh→l.flatMap Qv=m.flatMap Qv→l=m
 | [],[],_,_=>rfl
 | [],_::_,h,_=>by simp at h
 |_::_,[],h,_=>by simp at h
 |c::l,d::m,h,ho=>by
  simp only [List.map_cons,List.cons.injEq] at h
  simp only [List.flatMap_cons] at ho
  have hcd:c=d∧l.flatMap Qv=m.flatMap Qv:=by
   cases c<;>cases d<;>first|(cases h.1;done)|skip
   all_goals first
    |(obtain ⟨h1,_⟩:=h
      simp only [Kh,AC.own.injEq] at h1
      simp only [Qv,List.cons_append,List.nil_append,List.cons.injEq,Prod.mk.injEq] at ho
      exact ⟨by rw [h1.1,ho.1.1,ho.1.2],ho.2⟩)
    |exact ⟨h.1,by simpa only [Qv,List.nil_append] using ho⟩
  rw [hcd.1,Ad7 l m h.2 hcd.2]
theorem Aec: ∀(l m:List AC),l.map Kh=m.map Kh→(l.flatMap Qv).length=(m.flatMap Qv).length
 | [],[],_=>rfl
 | [],_::_,h=>by simp at h
 |_::_,[],h=>by simp at h
 |c::l,d::m,h=>by
  simp only [List.map_cons,List.cons.injEq] at h
  simp only [List.flatMap_cons,List.length_append,Aec l m h.2]
  congr 1
  cases c<;>cases d<;>first|rfl|(cases h.1;done)
theorem Bd3 {c d:AV} (h:c.map Kh=d.map Kh):(Qx c).length=(Qx d).length∧(Qx c=Qx d→(∀l,c≠ .tupc l)→c=d):=by
 cases c with
 | «at»a=>
  cases d<;>simp only [AV.map,AV.at.injEq,reduceCtorEq] at h
  rename_i b
  have h1: [a].map Kh= [b].map Kh:=by simp [h]
  refine ⟨by simpa [Qx] using Aec [a] [b] h1,fun ho _=>?_⟩
  have:=Ad7 [a] [b] h1 (by simpa [Qx] using ho)
  simpa using this
 |agg cs=>
  cases d<;>simp only [AV.map,AV.agg.injEq,reduceCtorEq] at h
  rename_i ds
  exact ⟨Aec cs ds h,fun ho _=>by rw [Ad7 cs ds h ho]⟩
 |tup fr τ x=>
  cases d<;>simp only [AV.map,reduceCtorEq] at h
  exact ⟨rfl,fun _ _=>h⟩
 |tupc l=>
  cases d<;>simp only [AV.map,reduceCtorEq] at h
  exact ⟨rfl,fun _ hn=>absurd rfl (hn l)⟩
theorem Ark: ∀(l m:List AV),l.map (·.map Kh)=m.map (·.map Kh)→(∀c∈l,c.Abf=true)→(l.flatMap Qx).length=(m.flatMap Qx).length∧(l.flatMap Qx=m.flatMap Qx→l=m)
 | [],[],_,_=>⟨rfl,fun _=>rfl⟩
 | [],_::_,h,_=>by simp at h
 |_::_,[],h,_=>by simp at h
 |c::l,d::m,h,hn=>by
  simp only [List.map_cons,List.cons.injEq] at h
  obtain ⟨h1,h2⟩:=Bd3 h.1
  obtain ⟨h3,h4⟩:=Ark l m h.2 fun c hc=>hn c (List.mem_cons_of_mem _ hc)
  refine ⟨by simp only [List.flatMap_cons,List.length_append,h1,h3],fun ho=>?_⟩
  simp only [List.flatMap_cons] at ho
  obtain ⟨g1,g2⟩:=List.append_inj ho h1
  have hnt: ∀l',c≠ .tupc l':=fun l' e=>by
   have:=hn c (by simp)
   rw [e] at this
   cases this
  rw [h2 g1 hnt,h4 g2]
theorem Bdf {c d:OB} (h:c.map Kh=d.map Kh):(Aco c).length=(Aco d).length∧(Aco c=Aco d→c=d):=by
 cases c with
 |var t vs=>
  cases d<;>simp only [OB.map,OB.var.injEq,reduceCtorEq] at h
  rename_i t' us
  obtain ⟨rfl,h⟩:=h
  exact ⟨Aec vs us h,fun ho=>by rw [Ad7 vs us h ho]⟩
 |_=>cases d<;>simp only [OB.map,reduceCtorEq] at h<;>exact ⟨rfl,fun _=>h⟩
theorem Amx: ∀(l m:List (Nat×OB)),l.map (fun p=>(p.1,p.2.map Kh))=m.map (fun p=>(p.1,p.2.map Kh))→(l.flatMap fun p=>Aco p.2)=(m.flatMap fun p=>Aco p.2)→l=m
 | [],[],_,_=>rfl
 | [],_::_,h,_=>by simp at h
 |_::_,[],h,_=>by simp at h
 |(k,c)::l,(k',d)::m,h,ho=>by
  simp only [List.map_cons,List.cons.injEq,Prod.mk.injEq] at h
  simp only [List.flatMap_cons] at ho
  obtain ⟨h1,h2⟩:=Bdf h.1.2
  obtain ⟨g1,g2⟩:=List.append_inj ho h1
  rw [h.1.1,h2 g1,Amx l m h.2 g2]
theorem Arj (l:List (Bool×List AC)) (e:AV) {R:Type} (r:R):Ac5 (.tupc l) e r=none:=by cases e<;>rfl
theorem Aom {d e:AV} {R:Type} {r:R} {v:avV d R} (h:Ac5 d e r=some v):d.Abf=true:=by
 cases d with
 |tupc l=>rw [Arj] at h;cases h
 |_=>rfl
theorem Aa0: ∀(l m:List AV) {R:Type} (r:R) (v:Ahc l R),Hz l m r=some v→ ∀c∈l,c.Abf=true
 | [],_,_,_,_,_,c,hc=>by cases hc
 |d::l,[],_,r,v,h,c,hc=>by cases h
 |d::l,e::m,R,r,v,h,c,hc=>by
  simp only [Hz] at h
  cases hr:Hz l m r with
  |none=>rw [hr] at h;cases h
  |some r'=>
   rw [hr] at h
   rcases List.mem_cons.1 hc with hc|hc
   ·rw [hc];exact Aom h
   ·exact Aa0 l m r r' hr c hc
theorem Amp {s0 s:St} (h:eqW s0 s):s=s0:=by
 obtain ⟨ho,h⟩:=h
 obtain ⟨v,h1,h2⟩:=An.1 h
 subst h2
 have hn: ∀c∈s0.tmps,c.Abf=true:=by
  unfold Zx at h1
  cases hr:Iw s0.heap s.heap () with
  |none=>rw [hr] at h1;cases h1
  |some r=>rw [hr] at h1;exact Aa0 _ _ _ _ h1
 have e:=(Zy h1).symm.trans (Zy (Ah9 s0 hn))
 simp only [St.Fc,St.mk.injEq] at e
 obtain ⟨e1,e2⟩:=e
 obtain ⟨l1,l2⟩:=Ark s0.tmps s.tmps e1.symm hn
 unfold Ax5 at ho
 obtain ⟨g1,g2⟩:=List.append_inj ho l1.symm
 have k1:=l2 g1.symm
 have k2:=Amx s.heap s0.heap e2 g2
 cases s;cases s0
 simp only at k1 k2
 rw [k1,k2]
end Go.Proofs.Ytebabhocakedaaa
