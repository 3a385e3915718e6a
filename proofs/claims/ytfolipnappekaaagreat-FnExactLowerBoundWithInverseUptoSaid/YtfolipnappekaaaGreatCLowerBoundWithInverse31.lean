/-
  Part 32 of the proof that the statement FnExactLowerBoundWithInverse holds.
-/
import Derived.Test.YtfolipnappekaaaGreatCLowerBoundWithInverse30
namespace Go.Proofs.YtfolipnappekaaaGreat
open Go.RowKit
def Mj:AC->AC
 | .own l _ _=> .own l 0 0
 |c=>c
theorem ky: ∀(c d:AC) {R:Type} (r:R) (v:YZ c R),jh c d r=some v->Mj (fu c v).1=Mj d/\(fu c v).2=r:=by
 intro c d R r v h
 cases c<;>cases d<;>simp only [jh] at h<;>first|(cases h;first|done|exact ⟨rfl,rfl⟩)|skip
 all_goals
  split at h
  ·rename_i hc
   first
    |(obtain ⟨h1,h2⟩:=hc;subst h1;subst h2;injection h with h;subst h;exact ⟨rfl,rfl⟩)
    |(subst hc;injection h with h;subst h;exact ⟨rfl,rfl⟩)
  ·cases h
theorem Zu: ∀(l m:List AC) {R:Type} (r:R) (v:yL l R),Lt l m r=some v->(Ti l v).1.map Mj=m.map Mj/\(Ti l v).2=r
 | [],[],R,r,v,h=>by simp only [Lt] at h;injection h with h;subst h;exact ⟨rfl,rfl⟩
 | [],_::_,R,r,v,h=>by simp [Lt] at h
 |_::_,[],R,r,v,h=>by simp [Lt] at h
 |c::l,d::m,R,r,v,h=>by
  simp only [Lt] at h
  cases hr:Lt l m r with
  |none=>rw [hr] at h;cases h
  |some r'=>
   rw [hr] at h
   obtain ⟨h1,h2⟩:=ky c d r' v h
   obtain ⟨h3,h4⟩:=Zu l m r r' hr
   simp only [Ti,List.map_cons]
   rw [h1,h2,h3]
   exact ⟨rfl,h4⟩
theorem vO: ∀(c d:AV) {R:Type} (r:R) (v:ZA c R),fC c d r=some v->(mF c v).1.map Mj=d.map Mj/\(mF c v).2=r
 | .at a, .at b,R,r,v,h=>by
  obtain ⟨h1,h2⟩:=ky a b r v h
  exact ⟨by show AV.at _=AV.at _;rw [h1],h2⟩
 | .agg cs, .agg ds,R,r,v,h=>by
  obtain ⟨h1,h2⟩:=Zu cs ds r v h
  exact ⟨by show AV.agg _=AV.agg _;rw [h1],h2⟩
 | .Uo fr τ y, .Uo Ow Iw x,R,r,v,h=>by
  by_cases hc:Iw=τ/\Ow=fr
  ·obtain ⟨h1,h2⟩:=hc
   subst h1;subst h2
   have h3:some ((x,r):Iw.den×R)=some v:=by
    have:fC (.Uo Ow Iw y) (.Uo Ow Iw x) r=some ((x,r):Iw.den×R):=dif_pos ⟨rfl,rfl⟩
    exact this.symm.trans h
   injection h3 with h3
   subst h3;exact ⟨rfl,rfl⟩
  ·have h3:fC (.Uo fr τ y) (.Uo Ow Iw x) r=none:=dif_neg hc
   rw [h3] at h;cases h
 | .at _, .agg _,_,_,_,h=>nomatch (show none=some _ from h)
 | .at _, .Uo _ _ _,_,_,_,h=>nomatch (show none=some _ from h)
 | .agg _, .at _,_,_,_,h=>nomatch (show none=some _ from h)
 | .agg _, .Uo _ _ _,_,_,_,h=>nomatch (show none=some _ from h)
 | .Uo _ _ _, .at _,_,_,_,h=>nomatch (show none=some _ from h)
 | .Uo _ _ _, .agg _,_,_,_,h=>nomatch (show none=some _ from h)
 | .Hv _, .at _,_,_,_,h=>nomatch (show none=some _ from h)
 | .Hv _, .agg _,_,_,_,h=>nomatch (show none=some _ from h)
 | .Hv _, .Uo _ _ _,_,_,_,h=>nomatch (show none=some _ from h)
 | .Hv _, .Hv _,_,_,_,h=>nomatch (show none=some _ from h)
 | .at _, .Hv _,_,_,_,h=>nomatch (show none=some _ from h)
 | .agg _, .Hv _,_,_,_,h=>nomatch (show none=some _ from h)
 | .Uo _ _ _, .Hv _,_,_,_,h=>nomatch (show none=some _ from h)
theorem xm: ∀(c d:OB) {R:Type} (r:R) (v:obV c R),Mn c d r=some v->(nP c v).1.map Mj=d.map Mj/\(nP c v).2=r
 | .arr fr tr e tid ys, .arr Ow OA e' Ns xs,R,r,v,h=>by
  by_cases hc:e'=e/\Ow=fr/\OA=tr/\Ns=tid
  ·obtain ⟨h1,h2,h3,h4⟩:=hc
   subst h1;subst h2;subst h3;subst h4
   have h3:some ((xs,r):List e'.den×R)=some v:=by
    have:Mn (.arr Ow OA e' Ns ys) (.arr Ow OA e' Ns xs) r=some ((xs,r):List e'.den×R):=dif_pos ⟨rfl,rfl,rfl,rfl⟩
    exact this.symm.trans h
   injection h3 with h3
   subst h3;exact ⟨rfl,rfl⟩
  ·have h3:Mn (.arr fr tr e tid ys) (.arr Ow OA e' Ns xs) r=none:=dif_neg hc
   rw [h3] at h;cases h
 | .Da e tid ys, .Da e' Ns xs,R,r,v,h=>by
  by_cases hc:e'=e/\Ns=tid
  ·obtain ⟨h1,h4⟩:=hc
   subst h1;subst h4
   have h3:some ((xs,r):List e'.den×R)=some v:=by
    have:Mn (.Da e' Ns ys) (.Da e' Ns xs) r=some ((xs,r):List e'.den×R):=dif_pos ⟨rfl,rfl⟩
    exact this.symm.trans h
   injection h3 with h3
   subst h3;exact ⟨rfl,rfl⟩
  ·have h3:Mn (.Da e tid ys) (.Da e' Ns xs) r=none:=dif_neg hc
   rw [h3] at h;cases h
 | .Ok vt m, .Ok ZT m',R,r,v,h=>by
  by_cases hc:ZT=vt
  ·subst hc
   have h3:some ((m',r):(ByteArray->Option ZT.den)×R)=some v:=by
    have:Mn (.Ok ZT m) (.Ok ZT m') r=some ((m',r):(ByteArray->Option ZT.den)×R):=dif_pos rfl
    exact this.symm.trans h
   injection h3 with h3
   subst h3;exact ⟨rfl,rfl⟩
  ·have h3:Mn (.Ok vt m) (.Ok ZT m') r=none:=dif_neg hc
   rw [h3] at h;cases h
 | .var t vs, .var t' us,R,r,v,h=>by
  by_cases hc:t'=t
  ·subst hc
   have h0:Mn (.var t' vs) (.var t' us) r=Lt vs us r:=if_pos rfl
   rw [h0] at h
   obtain ⟨h1,h2⟩:=Zu vs us r v h
   exact ⟨by show OB.var _ _=OB.var _ _;rw [h1],h2⟩
  ·have h3:Mn (.var t vs) (.var t' us) r=none:=if_neg hc
   rw [h3] at h;cases h
 | .Ah e te ys out none, .Ah e' La xs bJ none,R,r,v,h=>by
  by_cases hc:e'=e/\La=te/\bJ=out
  ·obtain ⟨h1,h2,h4⟩:=hc
   subst h1;subst h2;subst h4
   have h3:some ((xs,r):List (List e'.den)×R)=some v:=by
    have:Mn (.Ah e' La ys bJ none) (.Ah e' La xs bJ none) r=some ((xs,r):List (List e'.den)×R):=dif_pos ⟨rfl,rfl,rfl⟩
    exact this.symm.trans h
   injection h3 with h3
   subst h3;exact ⟨rfl,rfl⟩
  ·have h3:Mn (.Ah e te ys out none) (.Ah e' La xs bJ none) r=none:=dif_neg hc
   rw [h3] at h;cases h
 | .Ah e te ys out (some p), .Ah e' La xs bJ (some p'),R,r,v,h=>by
  by_cases hc:e'=e/\La=te/\bJ=out/\p'.1=p.1
  ·obtain ⟨h1,h2,h4,h5⟩:=hc
   subst h1;subst h2;subst h4
   have h3:some ((xs,p'.2,r):List (List e'.den)×(Nat×R))=some v:=by
    have:Mn (.Ah e' La ys bJ (some p)) (.Ah e' La xs bJ (some p')) r=some ((xs,p'.2,r):List (List e'.den)×(Nat×R)):=dif_pos ⟨rfl,rfl,rfl,h5⟩
    exact this.symm.trans h
   injection h3 with h3
   subst h3
   refine ⟨?_,rfl⟩
   show OB.Ah e' La xs bJ (some (p.1,p'.2))=OB.Ah e' La xs bJ (some p')
   rw [<-h5]
  ·have h3:Mn (.Ah e te ys out (some p)) (.Ah e' La xs bJ (some p')) r=none:=dif_neg hc
   rw [h3] at h;cases h
 | .Ah _ _ _ _ none, .Ah _ _ _ _ (some _),_,_,_,h=>nomatch (show none=some _ from h)
 | .Ah _ _ _ _ (some _), .Ah _ _ _ _ none,_,_,_,h=>nomatch (show none=some _ from h)
 | .Ah _ _ _ _ none, .arr _ _ _ _ _,_,_,_,h=>nomatch (show none=some _ from h)
 | .Ah _ _ _ _ none, .Da _ _ _,_,_,_,h=>nomatch (show none=some _ from h)
 | .Ah _ _ _ _ none, .var _ _,_,_,_,h=>nomatch (show none=some _ from h)
 | .Ah _ _ _ _ none, .Ok _ _,_,_,_,h=>nomatch (show none=some _ from h)
 | .Ah _ _ _ _ (some _), .arr _ _ _ _ _,_,_,_,h=>nomatch (show none=some _ from h)
 | .Ah _ _ _ _ (some _), .Da _ _ _,_,_,_,h=>nomatch (show none=some _ from h)
 | .Ah _ _ _ _ (some _), .var _ _,_,_,_,h=>nomatch (show none=some _ from h)
 | .Ah _ _ _ _ (some _), .Ok _ _,_,_,_,h=>nomatch (show none=some _ from h)
 | .arr _ _ _ _ _, .Ah _ _ _ _ _,_,_,_,h=>nomatch (show none=some _ from h)
 | .Da _ _ _, .Ah _ _ _ _ _,_,_,_,h=>nomatch (show none=some _ from h)
 | .var _ _, .Ah _ _ _ _ _,_,_,_,h=>nomatch (show none=some _ from h)
 | .Ok _ _, .Ah _ _ _ _ _,_,_,_,h=>nomatch (show none=some _ from h)
 | .arr _ _ _ _ _, .var _ _,_,_,_,h=>nomatch (show none=some _ from h)
 | .arr _ _ _ _ _, .Da _ _ _,_,_,_,h=>nomatch (show none=some _ from h)
 | .arr _ _ _ _ _, .Ok _ _,_,_,_,h=>nomatch (show none=some _ from h)
 | .Da _ _ _, .var _ _,_,_,_,h=>nomatch (show none=some _ from h)
 | .Da _ _ _, .arr _ _ _ _ _,_,_,_,h=>nomatch (show none=some _ from h)
 | .Da _ _ _, .Ok _ _,_,_,_,h=>nomatch (show none=some _ from h)
 | .Ok _ _, .var _ _,_,_,_,h=>nomatch (show none=some _ from h)
 | .Ok _ _, .arr _ _ _ _ _,_,_,_,h=>nomatch (show none=some _ from h)
 | .Ok _ _, .Da _ _ _,_,_,_,h=>nomatch (show none=some _ from h)
 | .var _ _, .arr _ _ _ _ _,_,_,_,h=>nomatch (show none=some _ from h)
 | .var _ _, .Da _ _ _,_,_,_,h=>nomatch (show none=some _ from h)
 | .var _ _, .Ok _ _,_,_,_,h=>nomatch (show none=some _ from h)
theorem ff: ∀(l m:List AV) {R:Type} (r:R) (v:ll l R),Jl l m r=some v->(Pl l v).1.map (·.map Mj)=m.map (·.map Mj)/\(Pl l v).2=r
 | [],[],R,r,v,h=>by simp only [Jl] at h;injection h with h;subst h;exact ⟨rfl,rfl⟩
 | [],_::_,R,r,v,h=>by simp [Jl] at h
 |_::_,[],R,r,v,h=>by simp [Jl] at h
 |c::l,d::m,R,r,v,h=>by
  simp only [Jl] at h
  cases hr:Jl l m r with
  |none=>rw [hr] at h;cases h
  |some r'=>
   rw [hr] at h
   obtain ⟨h1,h2⟩:=vO c d r' v h
   obtain ⟨h3,h4⟩:=ff l m r r' hr
   simp only [Pl,List.map_cons]
   rw [h1,h2,h3]
   exact ⟨rfl,h4⟩
theorem eJ: ∀(l m:List (Nat×OB)) {R:Type} (r:R) (v:rn l R),Kj l m r=some v->(Ys l v).1.map (λp=>(p.1,p.2.map Mj))=m.map (λp=>(p.1,p.2.map Mj))/\(Ys l v).2=r
 | [],[],R,r,v,h=>by simp only [Kj] at h;injection h with h;subst h;exact ⟨rfl,rfl⟩
 | [],_::_,R,r,v,h=>by simp [Kj] at h
 |_::_,[],R,r,v,h=>by simp [Kj] at h
 |c::l,d::m,R,r,v,h=>by
  simp only [Kj] at h
  split at h
  ·rename_i hk
   cases hr:Kj l m r with
   |none=>rw [hr] at h;cases h
   |some r'=>
    rw [hr] at h
    obtain ⟨h1,h2⟩:=xm c.2 d.2 r' v h
    obtain ⟨h3,h4⟩:=eJ l m r r' hr
    simp only [Ys,List.map_cons]
    rw [h1,h2,h3,hk]
    exact ⟨rfl,h4⟩
  ·cases h
theorem dg {s t:St} {v:stV s} (h:df s t=some v):(de s v).Gh Mj=t.Gh Mj:=by
 unfold df at h
 cases hr:Kj s.heap t.heap () with
 |none=>rw [hr] at h;cases h
 |some r=>
  rw [hr] at h
  obtain ⟨h1,h2⟩:=ff s.tmps t.tmps r v h
  obtain ⟨h3,_⟩:=eJ s.heap t.heap () r hr
  simp only [de,St.Gh]
  rw [h1,h2,h3]
theorem kz: ∀(c:AC) {R:Type} (r:R),jh c c r=some (CO c r):=by
 intro c R r
 cases c<;>simp [jh,CO]
theorem Zv: ∀(l:List AC) {R:Type} (r:R),Lt l l r=some (mw l r)
 | [],_,_=>rfl
 |c::l,_,r=>by simp only [Lt,Zv l r,mw];exact kz c _
def AV.eT:AV->Bool
 | .Hv _=>false
 |_=>true
theorem vP: ∀(c:AV),c.eT=true-> ∀ {R:Type} (r:R),fC c c r=some (SA c r):=by
 intro c hn R r
 cases c with
 |Hv l=>cases hn
 | «at»a=>exact kz a r
 |agg cs=>exact Zv cs r
 |Uo fr τ x=>exact dif_pos ⟨rfl,rfl⟩
theorem xo: ∀(c:OB) {R:Type} (r:R),Mn c c r=some (TW c r):=by
 intro c R r
 cases c with
 |arr fr tr e t xs=>exact dif_pos ⟨rfl,rfl,rfl,rfl⟩
 |Da e t xs=>exact dif_pos ⟨rfl,rfl⟩
 |Ok v m=>exact dif_pos rfl
 |Ah e te rows out kp=>
  cases kp with
  |none=>exact dif_pos ⟨rfl,rfl,rfl⟩
  |some p=>exact dif_pos ⟨rfl,rfl,rfl,rfl⟩
 |var t vs=>
  have h0:Mn (.var t vs) (.var t vs) r=Lt vs vs r:=if_pos rfl
  exact h0.trans (Zv vs r)
theorem fg: ∀(l:List AV),(∀c∈l,c.eT=true)-> ∀ {R:Type} (r:R),Jl l l r=some (mh l r)
 | [],_,_,_=>rfl
 |c::l,h,_,r=>by simp only [Jl,fg l (λc hc=>h c (List.mem_cons_of_mem _ hc)) r,mh];exact vP c (h c (by simp)) _
theorem eK: ∀(l:List (Nat×OB)) {R:Type} (r:R),Kj l l r=some (m9 l r)
 | [],_,_=>rfl
 |c::l,_,r=>by simp only [Kj,if_true,eK l r,m9];exact xo c.2 _
theorem lf (s:St) (h: ∀c∈s.tmps,c.eT=true):df s s=some (ED s):=by
 simp only [df,eK,ED]
 exact fg _ h _
theorem As {α:Type} {o:Option α} {K:α->Prop} :Dy o K↔ ∃x,o=some x/\K x:=by
 unfold Dy
 cases o with
 |none=>simp
 |some x=>simp
theorem gG: ∀(l m:List AC),l.map Mj=m.map Mj->l.flatMap Us=m.flatMap Us->l=m
 | [],[],_,_=>rfl
 | [],_::_,h,_=>by simp at h
 |_::_,[],h,_=>by simp at h
 |c::l,d::m,h,ho=>by
  simp only [List.map_cons,List.cons.injEq] at h
  simp only [List.flatMap_cons] at ho
  have hcd:c=d/\l.flatMap Us=m.flatMap Us:=by
   cases c<;>cases d<;>first|(cases h.1;done)|skip
   all_goals first
    |(obtain ⟨h1,_⟩:=h
      simp only [Mj,AC.own.injEq] at h1
      simp only [Us,List.cons_append,List.nil_append,List.cons.injEq,Prod.mk.injEq] at ho
      exact ⟨by rw [h1.1,ho.1.1,ho.1.2],ho.2⟩)
    |exact ⟨h.1,by simpa only [Us,List.nil_append] using ho⟩
  rw [hcd.1,gG l m h.2 hcd.2]
theorem iD: ∀(l m:List AC),l.map Mj=m.map Mj->(l.flatMap Us).length=(m.flatMap Us).length
 | [],[],_=>rfl
 | [],_::_,h=>by simp at h
 |_::_,[],h=>by simp at h
 |c::l,d::m,h=>by
  simp only [List.map_cons,List.cons.injEq] at h
  simp only [List.flatMap_cons,List.length_append,iD l m h.2]
  congr 1
  cases c<;>cases d<;>first|rfl|(cases h.1;done)
theorem PJ {c d:AV} (h:c.map Mj=d.map Mj):(Uu c).length=(Uu d).length/\(Uu c=Uu d->(∀l,c≠ .Hv l)->c=d):=by
 cases c with
 | «at»a=>
  cases d<;>simp only [AV.map,AV.at.injEq,reduceCtorEq] at h
  rename_i b
  have h1: [a].map Mj= [b].map Mj:=by simp [h]
  refine ⟨by simpa [Uu] using iD [a] [b] h1,λho _=>?_⟩
  have:=gG [a] [b] h1 (by simpa [Uu] using ho)
  simpa using this
 |agg cs=>
  cases d<;>simp only [AV.map,AV.agg.injEq,reduceCtorEq] at h
  rename_i ds
  exact ⟨iD cs ds h,λho _=>by rw [gG cs ds h ho]⟩
 |Uo fr τ x=>
  cases d<;>simp only [AV.map,reduceCtorEq] at h
  exact ⟨rfl,λ_ _=>h⟩
 |Hv l=>
  cases d<;>simp only [AV.map,reduceCtorEq] at h
  exact ⟨rfl,λ_ hn=>absurd rfl (hn l)⟩
theorem vR: ∀(l m:List AV),l.map (·.map Mj)=m.map (·.map Mj)->(∀c∈l,c.eT=true)->(l.flatMap Uu).length=(m.flatMap Uu).length/\(l.flatMap Uu=m.flatMap Uu->l=m)
 | [],[],_,_=>⟨rfl,λ_=>rfl⟩
 | [],_::_,h,_=>by simp at h
 |_::_,[],h,_=>by simp at h
 |c::l,d::m,h,hn=>by
  simp only [List.map_cons,List.cons.injEq] at h
  obtain ⟨h1,h2⟩:=PJ h.1
  obtain ⟨h3,h4⟩:=vR l m h.2 λc hc=>hn c (List.mem_cons_of_mem _ hc)
  refine ⟨by simp only [List.flatMap_cons,List.length_append,h1,h3],λho=>?_⟩
  simp only [List.flatMap_cons] at ho
  obtain ⟨g1,g2⟩:=List.append_inj ho h1
  have hnt: ∀l',c≠ .Hv l':= λl' e=>by
   have:=hn c (by simp)
   rw [e] at this
   cases this
  rw [h2 g1 hnt,h4 g2]
theorem QU {c d:OB} (h:c.map Mj=d.map Mj):(fY c).length=(fY d).length/\(fY c=fY d->c=d):=by
 cases c with
 |var t vs=>
  cases d<;>simp only [OB.map,OB.var.injEq,reduceCtorEq] at h
  rename_i t' us
  obtain ⟨rfl,h⟩:=h
  exact ⟨iD vs us h,λho=>by rw [gG vs us h ho]⟩
 |_=>cases d<;>simp only [OB.map,reduceCtorEq] at h<;>exact ⟨rfl,λ_=>h⟩
theorem rq: ∀(l m:List (Nat×OB)),l.map (λp=>(p.1,p.2.map Mj))=m.map (λp=>(p.1,p.2.map Mj))->(l.flatMap λp=>fY p.2)=(m.flatMap λp=>fY p.2)->l=m
 | [],[],_,_=>rfl
 | [],_::_,h,_=>by simp at h
 |_::_,[],h,_=>by simp at h
 |(k,c)::l,(k',d)::m,h,ho=>by
  simp only [List.map_cons,List.cons.injEq,Prod.mk.injEq] at h
  simp only [List.flatMap_cons] at ho
  obtain ⟨h1,h2⟩:=QU h.1.2
  obtain ⟨g1,g2⟩:=List.append_inj ho h1
  rw [h.1.1,h2 g1,rq l m h.2 g2]
theorem vQ (l:List (Bool×List AC)) (e:AV) {R:Type} (r:R):fC (.Hv l) e r=none:=by cases e<;>rfl
theorem sJ {d e:AV} {R:Type} {r:R} {v:ZA d R} (h:fC d e r=some v):d.eT=true:=by
 cases d with
 |Hv l=>rw [vQ] at h;cases h
 |_=>rfl
theorem dm: ∀(l m:List AV) {R:Type} (r:R) (v:ll l R),Jl l m r=some v-> ∀c∈l,c.eT=true
 | [],_,_,_,_,_,c,hc=>by cases hc
 |d::l,[],_,r,v,h,c,hc=>by cases h
 |d::l,e::m,R,r,v,h,c,hc=>by
  simp only [Jl] at h
  cases hr:Jl l m r with
  |none=>rw [hr] at h;cases h
  |some r'=>
   rw [hr] at h
   rcases List.mem_cons.1 hc with hc|hc
   ·rw [hc];exact sJ h
   ·exact dm l m r r' hr c hc
theorem r9 {s0 s:St} (h:eqW s0 s):s=s0:=by
 obtain ⟨ho,h⟩:=h
 obtain ⟨v,h1,h2⟩:=As.1 h
 subst h2
 have hn: ∀c∈s0.tmps,c.eT=true:=by
  unfold df at h1
  cases hr:Kj s0.heap s.heap () with
  |none=>rw [hr] at h1;cases h1
  |some r=>rw [hr] at h1;exact dm _ _ _ _ h1
 have e:=(dg h1).symm.trans (dg (lf s0 hn))
 simp only [St.Gh,St.mk.injEq] at e
 obtain ⟨e1,e2⟩:=e
 obtain ⟨l1,l2⟩:=vR s0.tmps s.tmps e1.symm hn
 unfold BO at ho
 obtain ⟨g1,g2⟩:=List.append_inj ho l1.symm
 have k1:=l2 g1.symm
 have k2:=rq s.heap s0.heap e2 g2
 cases s;cases s0
 simp only at k1 k2
 rw [k1,k2]
end Go.Proofs.YtfolipnappekaaaGreat
