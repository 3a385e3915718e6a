/-
  Part 32 of the proof that the statement FnExactStateClassCount holds.
-/
import Derived.Test.YtebabhocakedaaaCStateClassCount30
namespace Go.Proofs.Ytebabhocakedaaa
open Go.RowKit
def Km:AC→AC
 | .own l _ _=> .own l 0 0
 |c=>c
theorem aju: ∀(c d:AC) {R:Type} (r:R)(v:acV c R),ahh c d r=some v→Km(ady c v).1=Km d∧(ady c v).2=r:=by
 intro c d R r v h
 cases c<;>cases d<;>simp only [ahh]at h<;>first|(cases h;first|done|exact⟨rfl,rfl⟩)|skip
 all_goals
  split at h
  ·rename_i hc
   first
    |(obtain⟨h1,h2⟩:=hc;subst h1;subst h2;injection h with h;subst h;exact⟨rfl,rfl⟩)
    |(subst hc;injection h with h;subst h;exact⟨rfl,rfl⟩)
  ·cases h
theorem Wu: ∀(l m:List AC) {R:Type} (r:R)(v:bfe l R),Ki l m r=some v→(Qj l v).1.map Km=m.map Km∧(Qj l v).2=r
 | [],[],R,r,v,h=>by simp only [Ki]at h;injection h with h;subst h;exact⟨rfl,rfl⟩
 | [],_::_,R,r,v,h=>by simp [Ki]at h
 |_::_,[],R,r,v,h=>by simp [Ki]at h
 |c::l,d::m,R,r,v,h=>by
  simp only [Ki]at h
  cases hr:Ki l m r with
  |none=>rw [hr]at h;cases h
  |some r'=>
   rw [hr]at h
   obtain⟨h1,h2⟩:=aju c d r' v h
   obtain⟨h3,h4⟩:=Wu l m r r' hr
   simp only [Qj,List.map_cons]
   rw [h1,h2,h3]
   exact⟨rfl,h4⟩
theorem bbu: ∀(c d:AV) {R:Type} (r:R)(v:avV c R),adu c d r=some v→(amf c v).1.map Km=d.map Km∧(amf c v).2=r
 | .at a, .at b,R,r,v,h=>by
  obtain⟨h1,h2⟩:=aju a b r v h
  exact⟨by show AV.at _=AV.at _;rw [h1],h2⟩
 | .agg cs, .agg ds,R,r,v,h=>by
  obtain⟨h1,h2⟩:=Wu cs ds r v h
  exact⟨by show AV.agg _=AV.agg _;rw [h1],h2⟩
 | .tup fr τ y, .tup fr' τ' x,R,r,v,h=>by
  by_cases hc:τ'=τ∧fr'=fr
  ·obtain⟨h1,h2⟩:=hc
   subst h1;subst h2
   have h3:some((x,r):τ'.den×R)=some v:=by
    have:adu(.tup fr' τ' y)(.tup fr' τ' x)r=some((x,r):τ'.den×R):=dif_pos⟨rfl,rfl⟩
    exact this.symm.trans h
   injection h3 with h3
   subst h3;exact⟨rfl,rfl⟩
  ·have h3:adu(.tup fr τ y)(.tup fr' τ' x)r=none:=dif_neg hc
   rw [h3]at h;cases h
 | .at _, .agg _,_,_,_,h=>nomatch(show none=some _ from h)
 | .at _, .tup _ _ _,_,_,_,h=>nomatch(show none=some _ from h)
 | .agg _, .at _,_,_,_,h=>nomatch(show none=some _ from h)
 | .agg _, .tup _ _ _,_,_,_,h=>nomatch(show none=some _ from h)
 | .tup _ _ _, .at _,_,_,_,h=>nomatch(show none=some _ from h)
 | .tup _ _ _, .agg _,_,_,_,h=>nomatch(show none=some _ from h)
 | .tupc _, .at _,_,_,_,h=>nomatch(show none=some _ from h)
 | .tupc _, .agg _,_,_,_,h=>nomatch(show none=some _ from h)
 | .tupc _, .tup _ _ _,_,_,_,h=>nomatch(show none=some _ from h)
 | .tupc _, .tupc _,_,_,_,h=>nomatch(show none=some _ from h)
 | .at _, .tupc _,_,_,_,h=>nomatch(show none=some _ from h)
 | .agg _, .tupc _,_,_,_,h=>nomatch(show none=some _ from h)
 | .tup _ _ _, .tupc _,_,_,_,h=>nomatch(show none=some _ from h)
theorem ban: ∀(c d:OB) {R:Type} (r:R)(v:obV c R),Ko c d r=some v→(anq c v).1.map Km=d.map Km∧(anq c v).2=r
 | .arr fr tr e tid ys, .arr fr' tr' e' tid' xs,R,r,v,h=>by
  by_cases hc:e'=e∧fr'=fr∧tr'=tr∧tid'=tid
  ·obtain⟨h1,h2,h3,h4⟩:=hc
   subst h1;subst h2;subst h3;subst h4
   have h3:some((xs,r):List e'.den×R)=some v:=by
    have:Ko(.arr fr' tr' e' tid' ys)(.arr fr' tr' e' tid' xs)r=some((xs,r):List e'.den×R):=dif_pos⟨rfl,rfl,rfl,rfl⟩
    exact this.symm.trans h
   injection h3 with h3
   subst h3;exact⟨rfl,rfl⟩
  ·have h3:Ko(.arr fr tr e tid ys)(.arr fr' tr' e' tid' xs)r=none:=dif_neg hc
   rw [h3]at h;cases h
 | .xarr e tid ys, .xarr e' tid' xs,R,r,v,h=>by
  by_cases hc:e'=e∧tid'=tid
  ·obtain⟨h1,h4⟩:=hc
   subst h1;subst h4
   have h3:some((xs,r):List e'.den×R)=some v:=by
    have:Ko(.xarr e' tid' ys)(.xarr e' tid' xs)r=some((xs,r):List e'.den×R):=dif_pos⟨rfl,rfl⟩
    exact this.symm.trans h
   injection h3 with h3
   subst h3;exact⟨rfl,rfl⟩
  ·have h3:Ko(.xarr e tid ys)(.xarr e' tid' xs)r=none:=dif_neg hc
   rw [h3]at h;cases h
 | .smp vt m, .smp vt' m',R,r,v,h=>by
  by_cases hc:vt'=vt
  ·subst hc
   have h3:some((m',r):(ByteArray→Option vt'.den)×R)=some v:=by
    have:Ko(.smp vt' m)(.smp vt' m')r=some((m',r):(ByteArray→Option vt'.den)×R):=dif_pos rfl
    exact this.symm.trans h
   injection h3 with h3
   subst h3;exact⟨rfl,rfl⟩
  ·have h3:Ko(.smp vt m)(.smp vt' m')r=none:=dif_neg hc
   rw [h3]at h;cases h
 | .var t vs, .var t' us,R,r,v,h=>by
  by_cases hc:t'=t
  ·subst hc
   have h0:Ko(.var t' vs)(.var t' us)r=Ki vs us r:=if_pos rfl
   rw [h0]at h
   obtain⟨h1,h2⟩:=Wu vs us r v h
   exact⟨by show OB.var _ _=OB.var _ _;rw [h1],h2⟩
  ·have h3:Ko(.var t vs)(.var t' us)r=none:=if_neg hc
   rw [h3]at h;cases h
 | .grid e te ys out none, .grid e' te' xs out' none,R,r,v,h=>by
  by_cases hc:e'=e∧te'=te∧out'=out
  ·obtain⟨h1,h2,h4⟩:=hc
   subst h1;subst h2;subst h4
   have h3:some((xs,r):List(List e'.den)×R)=some v:=by
    have:Ko(.grid e' te' ys out' none)(.grid e' te' xs out' none)r=some((xs,r):List(List e'.den)×R):=dif_pos⟨rfl,rfl,rfl⟩
    exact this.symm.trans h
   injection h3 with h3
   subst h3;exact⟨rfl,rfl⟩
  ·have h3:Ko(.grid e te ys out none)(.grid e' te' xs out' none)r=none:=dif_neg hc
   rw [h3]at h;cases h
 | .grid e te ys out(some p), .grid e' te' xs out'(some p'),R,r,v,h=>by
  by_cases hc:e'=e∧te'=te∧out'=out∧p'.1=p.1
  ·obtain⟨h1,h2,h4,h5⟩:=hc
   subst h1;subst h2;subst h4
   have h3:some((xs,p'.2,r):List(List e'.den)×(Nat×R))=some v:=by
    have:Ko(.grid e' te' ys out'(some p))(.grid e' te' xs out'(some p'))r=some((xs,p'.2,r):List(List e'.den)×(Nat×R)):=dif_pos⟨rfl,rfl,rfl,h5⟩
    exact this.symm.trans h
   injection h3 with h3
   subst h3
   refine⟨?_,rfl⟩
   show OB.grid e' te' xs out'(some(p.1,p'.2))=OB.grid e' te' xs out'(some p')
   rw [←h5]
  ·have h3:Ko(.grid e te ys out(some p))(.grid e' te' xs out'(some p'))r=none:=dif_neg hc
   rw [h3]at h;cases h
 | .grid _ _ _ _ none, .grid _ _ _ _(some _),_,_,_,h=>nomatch(show none=some _ from h)
 | .grid _ _ _ _(some _), .grid _ _ _ _ none,_,_,_,h=>nomatch(show none=some _ from h)
 | .grid _ _ _ _ none, .arr _ _ _ _ _,_,_,_,h=>nomatch(show none=some _ from h)
 | .grid _ _ _ _ none, .xarr _ _ _,_,_,_,h=>nomatch(show none=some _ from h)
 | .grid _ _ _ _ none, .var _ _,_,_,_,h=>nomatch(show none=some _ from h)
 | .grid _ _ _ _ none, .smp _ _,_,_,_,h=>nomatch(show none=some _ from h)
 | .grid _ _ _ _(some _), .arr _ _ _ _ _,_,_,_,h=>nomatch(show none=some _ from h)
 | .grid _ _ _ _(some _), .xarr _ _ _,_,_,_,h=>nomatch(show none=some _ from h)
 | .grid _ _ _ _(some _), .var _ _,_,_,_,h=>nomatch(show none=some _ from h)
 | .grid _ _ _ _(some _), .smp _ _,_,_,_,h=>nomatch(show none=some _ from h)
 | .arr _ _ _ _ _, .grid _ _ _ _ _,_,_,_,h=>nomatch(show none=some _ from h)
 | .xarr _ _ _, .grid _ _ _ _ _,_,_,_,h=>nomatch(show none=some _ from h)
 | .var _ _, .grid _ _ _ _ _,_,_,_,h=>nomatch(show none=some _ from h)
 | .smp _ _, .grid _ _ _ _ _,_,_,_,h=>nomatch(show none=some _ from h)
 | .arr _ _ _ _ _, .var _ _,_,_,_,h=>nomatch(show none=some _ from h)
 | .arr _ _ _ _ _, .xarr _ _ _,_,_,_,h=>nomatch(show none=some _ from h)
 | .arr _ _ _ _ _, .smp _ _,_,_,_,h=>nomatch(show none=some _ from h)
 | .xarr _ _ _, .var _ _,_,_,_,h=>nomatch(show none=some _ from h)
 | .xarr _ _ _, .arr _ _ _ _ _,_,_,_,h=>nomatch(show none=some _ from h)
 | .xarr _ _ _, .smp _ _,_,_,_,h=>nomatch(show none=some _ from h)
 | .smp _ _, .var _ _,_,_,_,h=>nomatch(show none=some _ from h)
 | .smp _ _, .arr _ _ _ _ _,_,_,_,h=>nomatch(show none=some _ from h)
 | .smp _ _, .xarr _ _ _,_,_,_,h=>nomatch(show none=some _ from h)
 | .var _ _, .arr _ _ _ _ _,_,_,_,h=>nomatch(show none=some _ from h)
 | .var _ _, .xarr _ _ _,_,_,_,h=>nomatch(show none=some _ from h)
 | .var _ _, .smp _ _,_,_,_,h=>nomatch(show none=some _ from h)
theorem acx: ∀(l m:List AV) {R:Type} (r:R)(v:aji l R),Ib l m r=some v→(Mw l v).1.map(·.map Km)=m.map(·.map Km)∧(Mw l v).2=r
 | [],[],R,r,v,h=>by simp only [Ib]at h;injection h with h;subst h;exact⟨rfl,rfl⟩
 | [],_::_,R,r,v,h=>by simp [Ib]at h
 |_::_,[],R,r,v,h=>by simp [Ib]at h
 |c::l,d::m,R,r,v,h=>by
  simp only [Ib]at h
  cases hr:Ib l m r with
  |none=>rw [hr]at h;cases h
  |some r'=>
   rw [hr]at h
   obtain⟨h1,h2⟩:=bbu c d r' v h
   obtain⟨h3,h4⟩:=acx l m r r' hr
   simp only [Mw,List.map_cons]
   rw [h1,h2,h3]
   exact⟨rfl,h4⟩
theorem abr: ∀(l m:List(Nat×OB)) {R:Type} (r:R)(v:ary l R),Iu l m r=some v→(Tz l v).1.map(fun p=>(p.1,p.2.map Km))=m.map(fun p=>(p.1,p.2.map Km))∧(Tz l v).2=r
 | [],[],R,r,v,h=>by simp only [Iu]at h;injection h with h;subst h;exact⟨rfl,rfl⟩
 | [],_::_,R,r,v,h=>by simp [Iu]at h
 |_::_,[],R,r,v,h=>by simp [Iu]at h
 |c::l,d::m,R,r,v,h=>by
  simp only [Iu]at h
  split at h
  ·rename_i hk
   cases hr:Iu l m r with
   |none=>rw [hr]at h;cases h
   |some r'=>
    rw [hr]at h
    obtain⟨h1,h2⟩:=ban c.2 d.2 r' v h
    obtain⟨h3,h4⟩:=abr l m r r' hr
    simp only [Tz,List.map_cons]
    rw [h1,h2,h3,hk]
    exact⟨rfl,h4⟩
  ·cases h
theorem Yk {s t:St} {v:stV s} (h:Zo s t=some v):(Yh s v).Ev Km=t.Ev Km:=by
 unfold Zo at h
 cases hr:Iu s.heap t.heap()with
 |none=>rw [hr]at h;cases h
 |some r=>
  rw [hr]at h
  obtain⟨h1,h2⟩:=acx s.tmps t.tmps r v h
  obtain⟨h3,_⟩:=abr s.heap t.heap()r hr
  simp only [Yh,St.Ev]
  rw [h1,h2,h3]
theorem akm: ∀(c:AC) {R:Type} (r:R),ahh c c r=some(bih c r):=by
 intro c R r
 cases c<;>simp [ahh,bih]
theorem Vn: ∀(l:List AC) {R:Type} (r:R),Ki l l r=some(aoo l r)
 | [],_,_=>rfl
 |c::l,_,r=>by simp only [Ki,Vn l r,aoo];exact akm c _
def AV.acm:AV→Bool
 | .tupc _=>false
 |_=>true
theorem bbl: ∀(c:AV),c.acm=true→ ∀ {R:Type} (r:R),adu c c r=some(brb c r):=by
 intro c hn R r
 cases c with
 |tupc l=>cases hn
 | «at»a=>exact akm a r
 |agg cs=>exact Vn cs r
 |tup fr τ x=>exact dif_pos⟨rfl,rfl⟩
theorem baj: ∀(c:OB) {R:Type} (r:R),Ko c c r=some(bqy c r):=by
 intro c R r
 cases c with
 |arr fr tr e t xs=>exact dif_pos⟨rfl,rfl,rfl,rfl⟩
 |xarr e t xs=>exact dif_pos⟨rfl,rfl⟩
 |smp v m=>exact dif_pos rfl
 |grid e te rows out kp=>
  cases kp with
  |none=>exact dif_pos⟨rfl,rfl,rfl⟩
  |some p=>exact dif_pos⟨rfl,rfl,rfl,rfl⟩
 |var t vs=>
  have h0:Ko(.var t vs)(.var t vs)r=Ki vs vs r:=if_pos rfl
  exact h0.trans(Vn vs r)
theorem aci: ∀(l:List AV),(∀c∈l,c.acm=true)→ ∀ {R:Type} (r:R),Ib l l r=some(alp l r)
 | [],_,_,_=>rfl
 |c::l,h,_,r=>by simp only [Ib,aci l(fun c hc=>h c(List.mem_cons_of_mem _ hc))r,alp];exact bbl c(h c(by simp))_
theorem ack: ∀(l:List(Nat×OB)) {R:Type} (r:R),Iu l l r=some(alk l r)
 | [],_,_=>rfl
 |c::l,_,r=>by simp only [Iu,if_true,ack l r,alk];exact baj c.2 _
theorem ajz(s:St)(h: ∀c∈s.tmps,c.acm=true):Zo s s=some(bib s):=by
 simp only [Zo,ack,bib]
 exact aci _ h _
theorem Al {α:Type} {o:Option α} {K:α→Prop} :Da o K↔ ∃x,o=some x∧K x:=by
 unfold Da
 cases o with
 |none=>simp
 |some x=>simp
theorem afv: ∀(l m:List AC),l.map Km=m.map Km→l.flatMap Rt=m.flatMap Rt→l=m
 | [],[],_,_=>rfl
 | [],_::_,h,_=>by simp at h
 |_::_,[],h,_=>by simp at h
 |c::l,d::m,h,ho=>by
  simp only [List.map_cons,List.cons.injEq]at h
  simp only [List.flatMap_cons]at ho
  have hcd:c=d∧l.flatMap Rt=m.flatMap Rt:=by
   cases c<;>cases d<;>first|(cases h.1;done)|skip
   all_goals first
    |(obtain⟨h1,_⟩:=h
      simp only [Km,AC.own.injEq]at h1
      simp only [Rt,List.cons_append,List.nil_append,List.cons.injEq,Prod.mk.injEq]at ho
      exact⟨by rw [h1.1,ho.1.1,ho.1.2],ho.2⟩)
    |exact⟨h.1,by simpa only [Rt,List.nil_append]using ho⟩
  rw [hcd.1,afv l m h.2 hcd.2]
theorem agj: ∀(l m:List AC),l.map Km=m.map Km→(l.flatMap Rt).length=(m.flatMap Rt).length
 | [],[],_=>rfl
 | [],_::_,h=>by simp at h
 |_::_,[],h=>by simp at h
 |c::l,d::m,h=>by
  simp only [List.map_cons,List.cons.injEq]at h
  simp only [List.flatMap_cons,List.length_append,agj l m h.2]
  congr 1
  cases c<;>cases d<;>first|rfl|(cases h.1;done)
theorem bqj {c d:AV} (h:c.map Km=d.map Km):(Rv c).length=(Rv d).length∧(Rv c=Rv d→(∀l,c≠ .tupc l)→c=d):=by
 cases c with
 | «at»a=>
  cases d<;>simp only [AV.map,AV.at.injEq,reduceCtorEq]at h
  rename_i b
  have h1: [a].map Km= [b].map Km:=by simp [h]
  refine⟨by simpa [Rv]using agj [a] [b]h1,fun ho _=>?_⟩
  have:=afv [a] [b]h1(by simpa [Rv]using ho)
  simpa using this
 |agg cs=>
  cases d<;>simp only [AV.map,AV.agg.injEq,reduceCtorEq]at h
  rename_i ds
  exact⟨agj cs ds h,fun ho _=>by rw [afv cs ds h ho]⟩
 |tup fr τ x=>
  cases d<;>simp only [AV.map,reduceCtorEq]at h
  exact⟨rfl,fun _ _=>h⟩
 |tupc l=>
  cases d<;>simp only [AV.map,reduceCtorEq]at h
  exact⟨rfl,fun _ hn=>absurd rfl(hn l)⟩
theorem azs: ∀(l m:List AV),l.map(·.map Km)=m.map(·.map Km)→(∀c∈l,c.acm=true)→(l.flatMap Rv).length=(m.flatMap Rv).length∧(l.flatMap Rv=m.flatMap Rv→l=m)
 | [],[],_,_=>⟨rfl,fun _=>rfl⟩
 | [],_::_,h,_=>by simp at h
 |_::_,[],h,_=>by simp at h
 |c::l,d::m,h,hn=>by
  simp only [List.map_cons,List.cons.injEq]at h
  obtain⟨h1,h2⟩:=bqj h.1
  obtain⟨h3,h4⟩:=azs l m h.2 fun c hc=>hn c(List.mem_cons_of_mem _ hc)
  refine⟨by simp only [List.flatMap_cons,List.length_append,h1,h3],fun ho=>?_⟩
  simp only [List.flatMap_cons]at ho
  obtain⟨g1,g2⟩:=List.append_inj ho h1
  have hnt: ∀l',c≠ .tupc l':=fun l' e=>by
   have:=hn c(by simp)
   rw [e]at this
   cases this
  rw [h2 g1 hnt,h4 g2]
theorem bpp {c d:OB} (h:c.map Km=d.map Km):(adv c).length=(adv d).length∧(adv c=adv d→c=d):=by
 cases c with
 |var t vs=>
  cases d<;>simp only [OB.map,OB.var.injEq,reduceCtorEq]at h
  rename_i t' us
  obtain⟨rfl,h⟩:=h
  exact⟨agj vs us h,fun ho=>by rw [afv vs us h ho]⟩
 |_=>cases d<;>simp only [OB.map,reduceCtorEq]at h<;>exact⟨rfl,fun _=>h⟩
theorem asz: ∀(l m:List(Nat×OB)),l.map(fun p=>(p.1,p.2.map Km))=m.map(fun p=>(p.1,p.2.map Km))→(l.flatMap fun p=>adv p.2)=(m.flatMap fun p=>adv p.2)→l=m
 | [],[],_,_=>rfl
 | [],_::_,h,_=>by simp at h
 |_::_,[],h,_=>by simp at h
 |(k,c)::l,(k',d)::m,h,ho=>by
  simp only [List.map_cons,List.cons.injEq,Prod.mk.injEq]at h
  simp only [List.flatMap_cons]at ho
  obtain⟨h1,h2⟩:=bpp h.1.2
  obtain⟨g1,g2⟩:=List.append_inj ho h1
  rw [h.1.1,h2 g1,asz l m h.2 g2]
theorem ayy(l:List(Bool×List AC))(e:AV) {R:Type} (r:R):adu(.tupc l)e r=none:=by cases e<;>rfl
theorem avv {d e:AV} {R:Type} {r:R} {v:avV d R} (h:adu d e r=some v):d.acm=true:=by
 cases d with
 |tupc l=>rw [ayy]at h;cases h
 |_=>rfl
theorem Yu: ∀(l m:List AV) {R:Type} (r:R)(v:aji l R),Ib l m r=some v→ ∀c∈l,c.acm=true
 | [],_,_,_,_,_,c,hc=>by cases hc
 |d::l,[],_,r,v,h,c,hc=>by cases h
 |d::l,e::m,R,r,v,h,c,hc=>by
  simp only [Ib]at h
  cases hr:Ib l m r with
  |none=>rw [hr]at h;cases h
  |some r'=>
   rw [hr]at h
   rcases List.mem_cons.1 hc with hc|hc
   ·rw [hc];exact avv h
   ·exact Yu l m r r' hr c hc
theorem asl {s0 s:St} (h:eqW s0 s):s=s0:=by
 obtain⟨ho,h⟩:=h
 obtain⟨v,h1,h2⟩:=Al.1 h
 subst h2
 have hn: ∀c∈s0.tmps,c.acm=true:=by
  unfold Zo at h1
  cases hr:Iu s0.heap s.heap()with
  |none=>rw [hr]at h1;cases h1
  |some r=>rw [hr]at h1;exact Yu _ _ _ _ h1
 have e:=(Yk h1).symm.trans(Yk(ajz s0 hn))
 simp only [St.Ev,St.mk.injEq]at e
 obtain⟨e1,e2⟩:=e
 obtain⟨l1,l2⟩:=azs s0.tmps s.tmps e1.symm hn
 unfold bgv at ho
 obtain⟨g1,g2⟩:=List.append_inj ho l1.symm
 have k1:=l2 g1.symm
 have k2:=asz s.heap s0.heap e2 g2
 cases s;cases s0
 simp only at k1 k2
 rw [k1,k2]
end Go.Proofs.Ytebabhocakedaaa
