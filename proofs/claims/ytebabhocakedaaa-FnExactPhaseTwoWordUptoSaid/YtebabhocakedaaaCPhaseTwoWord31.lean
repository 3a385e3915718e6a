/-
  Part 32 of the proof that the statement FnExactPhaseTwoWord holds.
-/
import Derived.Test.YtebabhocakedaaaCPhaseTwoWord30
namespace Go.Proofs.Ytebabhocakedaaa
open Go.RowKit
def Kx:AC→AC
 | .own l _ _=> .own l 0 0
 |c=>c
theorem Ahr: ∀(c d:AC) {R:Type} (r:R) (v:acV c R),Ag8 c d r=some v→Kx (Adf c v).1=Kx d∧(Adf c v).2=r:=by
 intro c d R r v h
 cases c<;>cases d<;>simp only [Ag8] at h<;>first|(cases h;first|done|exact ⟨rfl,rfl⟩)|skip
 all_goals
  split at h
  ·rename_i hc
   first
    |(obtain ⟨h1,h2⟩:=hc;subst h1;subst h2;injection h with h;subst h;exact ⟨rfl,rfl⟩)
    |(subst hc;injection h with h;subst h;exact ⟨rfl,rfl⟩)
  ·cases h
theorem Wm: ∀(l m:List AC) {R:Type} (r:R) (v:Awn l R),Kl l m r=some v→(Qs l v).1.map Kx=m.map Kx∧(Qs l v).2=r
 | [],[],R,r,v,h=>by simp only [Kl] at h;injection h with h;subst h;exact ⟨rfl,rfl⟩
 | [],_::_,R,r,v,h=>by simp [Kl] at h
 |_::_,[],R,r,v,h=>by simp [Kl] at h
 |c::l,d::m,R,r,v,h=>by
  simp only [Kl] at h
  cases hr:Kl l m r with
  |none=>rw [hr] at h;cases h
  |some r'=>
   rw [hr] at h
   obtain ⟨h1,h2⟩:=Ahr c d r' v h
   obtain ⟨h3,h4⟩:=Wm l m r r' hr
   simp only [Qs,List.map_cons]
   rw [h1,h2,h3]
   exact ⟨rfl,h4⟩
theorem At1: ∀(c d:AV) {R:Type} (r:R) (v:avV c R),Adj c d r=some v→(Ak5 c v).1.map Kx=d.map Kx∧(Ak5 c v).2=r
 | .at a, .at b,R,r,v,h=>by
  obtain ⟨h1,h2⟩:=Ahr a b r v h
  exact ⟨by show AV.at _=AV.at _;rw [h1],h2⟩
 | .agg cs, .agg ds,R,r,v,h=>by
  obtain ⟨h1,h2⟩:=Wm cs ds r v h
  exact ⟨by show AV.agg _=AV.agg _;rw [h1],h2⟩
 | .tup fr τ y, .tup fr' τ' x,R,r,v,h=>by
  by_cases hc:τ'=τ∧fr'=fr
  ·obtain ⟨h1,h2⟩:=hc
   subst h1;subst h2
   have h3:some ((x,r):τ'.den×R)=some v:=by
    have:Adj (.tup fr' τ' y) (.tup fr' τ' x) r=some ((x,r):τ'.den×R):=dif_pos ⟨rfl,rfl⟩
    exact this.symm.trans h
   injection h3 with h3
   subst h3;exact ⟨rfl,rfl⟩
  ·have h3:Adj (.tup fr τ y) (.tup fr' τ' x) r=none:=dif_neg hc
   rw [h3] at h;cases h
 | .at _, .agg _,_,_,_,h=>nomatch (show none=some _ from h)
 | .at _, .tup _ _ _,_,_,_,h=>nomatch (show none=some _ from h)
 | .agg _, .at _,_,_,_,h=>nomatch (show none=some _ from h)
 | .agg _, .tup _ _ _,_,_,_,h=>nomatch (show none=some _ from h)
 | .tup _ _ _, .at _,_,_,_,h=>nomatch (show none=some _ from h)
 | .tup _ _ _, .agg _,_,_,_,h=>nomatch (show none=some _ from h)
 | .tupc _, .at _,_,_,_,h=>nomatch (show none=some _ from h)
 | .tupc _, .agg _,_,_,_,h=>nomatch (show none=some _ from h)
 | .tupc _, .tup _ _ _,_,_,_,h=>nomatch (show none=some _ from h)
 | .tupc _, .tupc _,_,_,_,h=>nomatch (show none=some _ from h)
 | .at _, .tupc _,_,_,_,h=>nomatch (show none=some _ from h)
 | .agg _, .tupc _,_,_,_,h=>nomatch (show none=some _ from h)
 | .tup _ _ _, .tupc _,_,_,_,h=>nomatch (show none=some _ from h)
theorem Auv: ∀(c d:OB) {R:Type} (r:R) (v:obV c R),Lb c d r=some v→(Al9 c v).1.map Kx=d.map Kx∧(Al9 c v).2=r
 | .arr fr tr e tid ys, .arr fr' tr' e' tid' xs,R,r,v,h=>by
  by_cases hc:e'=e∧fr'=fr∧tr'=tr∧tid'=tid
  ·obtain ⟨h1,h2,h3,h4⟩:=hc
   subst h1;subst h2;subst h3;subst h4
   have h3:some ((xs,r):List e'.den×R)=some v:=by
    have:Lb (.arr fr' tr' e' tid' ys) (.arr fr' tr' e' tid' xs) r=some ((xs,r):List e'.den×R):=dif_pos ⟨rfl,rfl,rfl,rfl⟩
    exact this.symm.trans h
   injection h3 with h3
   subst h3;exact ⟨rfl,rfl⟩
  ·have h3:Lb (.arr fr tr e tid ys) (.arr fr' tr' e' tid' xs) r=none:=dif_neg hc
   rw [h3] at h;cases h
 | .xarr e tid ys, .xarr e' tid' xs,R,r,v,h=>by
  by_cases hc:e'=e∧tid'=tid
  ·obtain ⟨h1,h4⟩:=hc
   subst h1;subst h4
   have h3:some ((xs,r):List e'.den×R)=some v:=by
    have:Lb (.xarr e' tid' ys) (.xarr e' tid' xs) r=some ((xs,r):List e'.den×R):=dif_pos ⟨rfl,rfl⟩
    exact this.symm.trans h
   injection h3 with h3
   subst h3;exact ⟨rfl,rfl⟩
  ·have h3:Lb (.xarr e tid ys) (.xarr e' tid' xs) r=none:=dif_neg hc
   rw [h3] at h;cases h
 | .smp vt m, .smp vt' m',R,r,v,h=>by
  by_cases hc:vt'=vt
  ·subst hc
   have h3:some ((m',r):(ByteArray→Option vt'.den)×R)=some v:=by
    have:Lb (.smp vt' m) (.smp vt' m') r=some ((m',r):(ByteArray→Option vt'.den)×R):=dif_pos rfl
    exact this.symm.trans h
   injection h3 with h3
   subst h3;exact ⟨rfl,rfl⟩
  ·have h3:Lb (.smp vt m) (.smp vt' m') r=none:=dif_neg hc
   rw [h3] at h;cases h
 | .var t vs, .var t' us,R,r,v,h=>by
  by_cases hc:t'=t
  ·subst hc
   have h0:Lb (.var t' vs) (.var t' us) r=Kl vs us r:=if_pos rfl
   rw [h0] at h
   obtain ⟨h1,h2⟩:=Wm vs us r v h
   exact ⟨by show OB.var _ _=OB.var _ _;rw [h1],h2⟩
  ·have h3:Lb (.var t vs) (.var t' us) r=none:=if_neg hc
   rw [h3] at h;cases h
 | .grid e te ys out none, .grid e' te' xs out' none,R,r,v,h=>by
  by_cases hc:e'=e∧te'=te∧out'=out
  ·obtain ⟨h1,h2,h4⟩:=hc
   subst h1;subst h2;subst h4
   have h3:some ((xs,r):List (List e'.den)×R)=some v:=by
    have:Lb (.grid e' te' ys out' none) (.grid e' te' xs out' none) r=some ((xs,r):List (List e'.den)×R):=dif_pos ⟨rfl,rfl,rfl⟩
    exact this.symm.trans h
   injection h3 with h3
   subst h3;exact ⟨rfl,rfl⟩
  ·have h3:Lb (.grid e te ys out none) (.grid e' te' xs out' none) r=none:=dif_neg hc
   rw [h3] at h;cases h
 | .grid e te ys out (some p), .grid e' te' xs out' (some p'),R,r,v,h=>by
  by_cases hc:e'=e∧te'=te∧out'=out∧p'.1=p.1
  ·obtain ⟨h1,h2,h4,h5⟩:=hc
   subst h1;subst h2;subst h4
   have h3:some ((xs,p'.2,r):List (List e'.den)×(Nat×R))=some v:=by
    have:Lb (.grid e' te' ys out' (some p)) (.grid e' te' xs out' (some p')) r=some ((xs,p'.2,r):List (List e'.den)×(Nat×R)):=dif_pos ⟨rfl,rfl,rfl,h5⟩
    exact this.symm.trans h
   injection h3 with h3
   subst h3
   refine ⟨?_,rfl⟩
   show OB.grid e' te' xs out' (some (p.1,p'.2))=OB.grid e' te' xs out' (some p')
   rw [←h5]
  ·have h3:Lb (.grid e te ys out (some p)) (.grid e' te' xs out' (some p')) r=none:=dif_neg hc
   rw [h3] at h;cases h
 | .grid _ _ _ _ none, .grid _ _ _ _ (some _),_,_,_,h=>nomatch (show none=some _ from h)
 | .grid _ _ _ _ (some _), .grid _ _ _ _ none,_,_,_,h=>nomatch (show none=some _ from h)
 | .grid _ _ _ _ none, .arr _ _ _ _ _,_,_,_,h=>nomatch (show none=some _ from h)
 | .grid _ _ _ _ none, .xarr _ _ _,_,_,_,h=>nomatch (show none=some _ from h)
 | .grid _ _ _ _ none, .var _ _,_,_,_,h=>nomatch (show none=some _ from h)
 | .grid _ _ _ _ none, .smp _ _,_,_,_,h=>nomatch (show none=some _ from h)
 | .grid _ _ _ _ (some _), .arr _ _ _ _ _,_,_,_,h=>nomatch (show none=some _ from h)
 | .grid _ _ _ _ (some _), .xarr _ _ _,_,_,_,h=>nomatch (show none=some _ from h)
 | .grid _ _ _ _ (some _), .var _ _,_,_,_,h=>nomatch (show none=some _ from h)
 | .grid _ _ _ _ (some _), .smp _ _,_,_,_,h=>nomatch (show none=some _ from h)
 | .arr _ _ _ _ _, .grid _ _ _ _ _,_,_,_,h=>nomatch (show none=some _ from h)
 | .xarr _ _ _, .grid _ _ _ _ _,_,_,_,h=>nomatch (show none=some _ from h)
 | .var _ _, .grid _ _ _ _ _,_,_,_,h=>nomatch (show none=some _ from h)
 | .smp _ _, .grid _ _ _ _ _,_,_,_,h=>nomatch (show none=some _ from h)
 | .arr _ _ _ _ _, .var _ _,_,_,_,h=>nomatch (show none=some _ from h)
 | .arr _ _ _ _ _, .xarr _ _ _,_,_,_,h=>nomatch (show none=some _ from h)
 | .arr _ _ _ _ _, .smp _ _,_,_,_,h=>nomatch (show none=some _ from h)
 | .xarr _ _ _, .var _ _,_,_,_,h=>nomatch (show none=some _ from h)
 | .xarr _ _ _, .arr _ _ _ _ _,_,_,_,h=>nomatch (show none=some _ from h)
 | .xarr _ _ _, .smp _ _,_,_,_,h=>nomatch (show none=some _ from h)
 | .smp _ _, .var _ _,_,_,_,h=>nomatch (show none=some _ from h)
 | .smp _ _, .arr _ _ _ _ _,_,_,_,h=>nomatch (show none=some _ from h)
 | .smp _ _, .xarr _ _ _,_,_,_,h=>nomatch (show none=some _ from h)
 | .var _ _, .arr _ _ _ _ _,_,_,_,h=>nomatch (show none=some _ from h)
 | .var _ _, .xarr _ _ _,_,_,_,h=>nomatch (show none=some _ from h)
 | .var _ _, .smp _ _,_,_,_,h=>nomatch (show none=some _ from h)
theorem Ad2: ∀(l m:List AV) {R:Type} (r:R) (v:Air l R),Il l m r=some v→(Nq l v).1.map (·.map Kx)=m.map (·.map Kx)∧(Nq l v).2=r
 | [],[],R,r,v,h=>by simp only [Il] at h;injection h with h;subst h;exact ⟨rfl,rfl⟩
 | [],_::_,R,r,v,h=>by simp [Il] at h
 |_::_,[],R,r,v,h=>by simp [Il] at h
 |c::l,d::m,R,r,v,h=>by
  simp only [Il] at h
  cases hr:Il l m r with
  |none=>rw [hr] at h;cases h
  |some r'=>
   rw [hr] at h
   obtain ⟨h1,h2⟩:=At1 c d r' v h
   obtain ⟨h3,h4⟩:=Ad2 l m r r' hr
   simp only [Nq,List.map_cons]
   rw [h1,h2,h3]
   exact ⟨rfl,h4⟩
theorem Ack: ∀(l m:List (Nat×OB)) {R:Type} (r:R) (v:Aog l R),Jh l m r=some v→(Vn l v).1.map (fun p=>(p.1,p.2.map Kx))=m.map (fun p=>(p.1,p.2.map Kx))∧(Vn l v).2=r
 | [],[],R,r,v,h=>by simp only [Jh] at h;injection h with h;subst h;exact ⟨rfl,rfl⟩
 | [],_::_,R,r,v,h=>by simp [Jh] at h
 |_::_,[],R,r,v,h=>by simp [Jh] at h
 |c::l,d::m,R,r,v,h=>by
  simp only [Jh] at h
  split at h
  ·rename_i hk
   cases hr:Jh l m r with
   |none=>rw [hr] at h;cases h
   |some r'=>
    rw [hr] at h
    obtain ⟨h1,h2⟩:=Auv c.2 d.2 r' v h
    obtain ⟨h3,h4⟩:=Ack l m r r' hr
    simp only [Vn,List.map_cons]
    rw [h1,h2,h3,hk]
    exact ⟨rfl,h4⟩
  ·cases h
theorem Ab8 {s t:St} {v:stV s} (h:Ab7 s t=some v):(Ab6 s v).Fo Kx=t.Fo Kx:=by
 unfold Ab7 at h
 cases hr:Jh s.heap t.heap () with
 |none=>rw [hr] at h;cases h
 |some r=>
  rw [hr] at h
  obtain ⟨h1,h2⟩:=Ad2 s.tmps t.tmps r v h
  obtain ⟨h3,_⟩:=Ack s.heap t.heap () r hr
  simp only [Ab6,St.Fo]
  rw [h1,h2,h3]
theorem Ahs: ∀(c:AC) {R:Type} (r:R),Ag8 c c r=some (Aze c r):=by
 intro c R r
 cases c<;>simp [Ag8,Aze]
theorem Wn: ∀(l:List AC) {R:Type} (r:R),Kl l l r=some (Ajx l r)
 | [],_,_=>rfl
 |c::l,_,r=>by simp only [Kl,Wn l r,Ajx];exact Ahs c _
def AV.Acr:AV→Bool
 | .tupc _=>false
 |_=>true
theorem At2: ∀(c:AV),c.Acr=true→ ∀ {R:Type} (r:R),Adj c c r=some (Bgm c r):=by
 intro c hn R r
 cases c with
 |tupc l=>cases hn
 | «at»a=>exact Ahs a r
 |agg cs=>exact Wn cs r
 |tup fr τ x=>exact dif_pos ⟨rfl,rfl⟩
theorem Auw: ∀(c:OB) {R:Type} (r:R),Lb c c r=some (Bgr c r):=by
 intro c R r
 cases c with
 |arr fr tr e t xs=>exact dif_pos ⟨rfl,rfl,rfl,rfl⟩
 |xarr e t xs=>exact dif_pos ⟨rfl,rfl⟩
 |smp v m=>exact dif_pos rfl
 |grid e te rows out kp=>
  cases kp with
  |none=>exact dif_pos ⟨rfl,rfl,rfl⟩
  |some p=>exact dif_pos ⟨rfl,rfl,rfl,rfl⟩
 |var t vs=>
  have h0:Lb (.var t vs) (.var t vs) r=Kl vs vs r:=if_pos rfl
  exact h0.trans (Wn vs r)
theorem Ad3: ∀(l:List AV),(∀c∈l,c.Acr=true)→ ∀ {R:Type} (r:R),Il l l r=some (Ajo l r)
 | [],_,_,_=>rfl
 |c::l,h,_,r=>by simp only [Il,Ad3 l (fun c hc=>h c (List.mem_cons_of_mem _ hc)) r,Ajo];exact At2 c (h c (by simp)) _
theorem Acl: ∀(l:List (Nat×OB)) {R:Type} (r:R),Jh l l r=some (Ajj l r)
 | [],_,_=>rfl
 |c::l,_,r=>by simp only [Jh,if_true,Acl l r,Ajj];exact Auw c.2 _
theorem Aio (s:St) (h: ∀c∈s.tmps,c.Acr=true):Ab7 s s=some (Ba2 s):=by
 simp only [Ab7,Acl,Ba2]
 exact Ad3 _ h _
theorem Aq {α:Type} {o:Option α} {K:α→Prop} :Dm o K↔ ∃x,o=some x∧K x:=by
 unfold Dm
 cases o with
 |none=>simp
 |some x=>simp
theorem Aeh: ∀(l m:List AC),l.map Kx=m.map Kx→l.flatMap Ry=m.flatMap Ry→l=m
 | [],[],_,_=>rfl
 | [],_::_,h,_=>by simp at h
 |_::_,[],h,_=>by simp at h
 |c::l,d::m,h,ho=>by
  simp only [List.map_cons,List.cons.injEq] at h
  simp only [List.flatMap_cons] at ho
  have hcd:c=d∧l.flatMap Ry=m.flatMap Ry:=by
   cases c<;>cases d<;>first|(cases h.1;done)|skip
   all_goals first
    |(obtain ⟨h1,_⟩:=h
      simp only [Kx,AC.own.injEq] at h1
      simp only [Ry,List.cons_append,List.nil_append,List.cons.injEq,Prod.mk.injEq] at ho
      exact ⟨by rw [h1.1,ho.1.1,ho.1.2],ho.2⟩)
    |exact ⟨h.1,by simpa only [Ry,List.nil_append] using ho⟩
  rw [hcd.1,Aeh l m h.2 hcd.2]
theorem Afl: ∀(l m:List AC),l.map Kx=m.map Kx→(l.flatMap Ry).length=(m.flatMap Ry).length
 | [],[],_=>rfl
 | [],_::_,h=>by simp at h
 |_::_,[],h=>by simp at h
 |c::l,d::m,h=>by
  simp only [List.map_cons,List.cons.injEq] at h
  simp only [List.flatMap_cons,List.length_append,Afl l m h.2]
  congr 1
  cases c<;>cases d<;>first|rfl|(cases h.1;done)
theorem Bf9 {c d:AV} (h:c.map Kx=d.map Kx):(Sa c).length=(Sa d).length∧(Sa c=Sa d→(∀l,c≠ .tupc l)→c=d):=by
 cases c with
 | «at»a=>
  cases d<;>simp only [AV.map,AV.at.injEq,reduceCtorEq] at h
  rename_i b
  have h1: [a].map Kx= [b].map Kx:=by simp [h]
  refine ⟨by simpa [Sa] using Afl [a] [b] h1,fun ho _=>?_⟩
  have:=Aeh [a] [b] h1 (by simpa [Sa] using ho)
  simpa using this
 |agg cs=>
  cases d<;>simp only [AV.map,AV.agg.injEq,reduceCtorEq] at h
  rename_i ds
  exact ⟨Afl cs ds h,fun ho _=>by rw [Aeh cs ds h ho]⟩
 |tup fr τ x=>
  cases d<;>simp only [AV.map,reduceCtorEq] at h
  exact ⟨rfl,fun _ _=>h⟩
 |tupc l=>
  cases d<;>simp only [AV.map,reduceCtorEq] at h
  exact ⟨rfl,fun _ hn=>absurd rfl (hn l)⟩
theorem At4: ∀(l m:List AV),l.map (·.map Kx)=m.map (·.map Kx)→(∀c∈l,c.Acr=true)→(l.flatMap Sa).length=(m.flatMap Sa).length∧(l.flatMap Sa=m.flatMap Sa→l=m)
 | [],[],_,_=>⟨rfl,fun _=>rfl⟩
 | [],_::_,h,_=>by simp at h
 |_::_,[],h,_=>by simp at h
 |c::l,d::m,h,hn=>by
  simp only [List.map_cons,List.cons.injEq] at h
  obtain ⟨h1,h2⟩:=Bf9 h.1
  obtain ⟨h3,h4⟩:=At4 l m h.2 fun c hc=>hn c (List.mem_cons_of_mem _ hc)
  refine ⟨by simp only [List.flatMap_cons,List.length_append,h1,h3],fun ho=>?_⟩
  simp only [List.flatMap_cons] at ho
  obtain ⟨g1,g2⟩:=List.append_inj ho h1
  have hnt: ∀l',c≠ .tupc l':=fun l' e=>by
   have:=hn c (by simp)
   rw [e] at this
   cases this
  rw [h2 g1 hnt,h4 g2]
theorem Bfm {c d:OB} (h:c.map Kx=d.map Kx):(Ae3 c).length=(Ae3 d).length∧(Ae3 c=Ae3 d→c=d):=by
 cases c with
 |var t vs=>
  cases d<;>simp only [OB.map,OB.var.injEq,reduceCtorEq] at h
  rename_i t' us
  obtain ⟨rfl,h⟩:=h
  exact ⟨Afl vs us h,fun ho=>by rw [Aeh vs us h ho]⟩
 |_=>cases d<;>simp only [OB.map,reduceCtorEq] at h<;>exact ⟨rfl,fun _=>h⟩
theorem Aoh: ∀(l m:List (Nat×OB)),l.map (fun p=>(p.1,p.2.map Kx))=m.map (fun p=>(p.1,p.2.map Kx))→(l.flatMap fun p=>Ae3 p.2)=(m.flatMap fun p=>Ae3 p.2)→l=m
 | [],[],_,_=>rfl
 | [],_::_,h,_=>by simp at h
 |_::_,[],h,_=>by simp at h
 |(k,c)::l,(k',d)::m,h,ho=>by
  simp only [List.map_cons,List.cons.injEq,Prod.mk.injEq] at h
  simp only [List.flatMap_cons] at ho
  obtain ⟨h1,h2⟩:=Bfm h.1.2
  obtain ⟨g1,g2⟩:=List.append_inj ho h1
  rw [h.1.1,h2 g1,Aoh l m h.2 g2]
theorem At3 (l:List (Bool×List AC)) (e:AV) {R:Type} (r:R):Adj (.tupc l) e r=none:=by cases e<;>rfl
theorem Aq2 {d e:AV} {R:Type} {r:R} {v:avV d R} (h:Adj d e r=some v):d.Acr=true:=by
 cases d with
 |tupc l=>rw [At3] at h;cases h
 |_=>rfl
theorem Aba: ∀(l m:List AV) {R:Type} (r:R) (v:Air l R),Il l m r=some v→ ∀c∈l,c.Acr=true
 | [],_,_,_,_,_,c,hc=>by cases hc
 |d::l,[],_,r,v,h,c,hc=>by cases h
 |d::l,e::m,R,r,v,h,c,hc=>by
  simp only [Il] at h
  cases hr:Il l m r with
  |none=>rw [hr] at h;cases h
  |some r'=>
   rw [hr] at h
   rcases List.mem_cons.1 hc with hc|hc
   ·rw [hc];exact Aq2 h
   ·exact Aba l m r r' hr c hc
theorem Ao9 {s0 s:St} (h:eqW s0 s):s=s0:=by
 obtain ⟨ho,h⟩:=h
 obtain ⟨v,h1,h2⟩:=Aq.1 h
 subst h2
 have hn: ∀c∈s0.tmps,c.Acr=true:=by
  unfold Ab7 at h1
  cases hr:Jh s0.heap s.heap () with
  |none=>rw [hr] at h1;cases h1
  |some r=>rw [hr] at h1;exact Aba _ _ _ _ h1
 have e:=(Ab8 h1).symm.trans (Ab8 (Aio s0 hn))
 simp only [St.Fo,St.mk.injEq] at e
 obtain ⟨e1,e2⟩:=e
 obtain ⟨l1,l2⟩:=At4 s0.tmps s.tmps e1.symm hn
 unfold Ayx at ho
 obtain ⟨g1,g2⟩:=List.append_inj ho l1.symm
 have k1:=l2 g1.symm
 have k2:=Aoh s.heap s0.heap e2 g2
 cases s;cases s0
 simp only at k1 k2
 rw [k1,k2]
end Go.Proofs.Ytebabhocakedaaa
