/-
  Part 32 of the proof that the statement FnExactExactStateCount holds.
-/
import Derived.Test.YtjbdmibbbpdnnaaCExactStateCount30
namespace Go.Proofs.Ytjbdmibbbpdnnaa
open Go.RowKit
def Me:AC->AC
 | .own l _ _=> .own l 0 0
 |c=>c
theorem js: ∀(c d:AC) {R:Type} (r:R) (v:UH c R),iu c d r=some v->Me (eE c v).1=Me d/\(eE c v).2=r:=by
 intro c d R r v h
 cases c<;>cases d<;>simp only [iu] at h<;>first|(cases h;first|done|exact ⟨rfl,rfl⟩)|skip
 all_goals
  split at h
  ·rename_i hc
   first
    |(obtain ⟨h1,h2⟩:=hc;subst h1;subst h2;injection h with h;subst h;exact ⟨rfl,rfl⟩)
    |(subst hc;injection h with h;subst h;exact ⟨rfl,rfl⟩)
  ·cases h
theorem Yu: ∀(l m:List AC) {R:Type} (r:R) (v:xk l R),Lq l m r=some v->(Sz l v).1.map Me=m.map Me/\(Sz l v).2=r
 | [],[],R,r,v,h=>by simp only [Lq] at h;injection h with h;subst h;exact ⟨rfl,rfl⟩
 | [],_::_,R,r,v,h=>by simp [Lq] at h
 |_::_,[],R,r,v,h=>by simp [Lq] at h
 |c::l,d::m,R,r,v,h=>by
  simp only [Lq] at h
  cases hr:Lq l m r with
  |none=>rw [hr] at h;cases h
  |some r'=>
   rw [hr] at h
   obtain ⟨h1,h2⟩:=js c d r' v h
   obtain ⟨h3,h4⟩:=Yu l m r r' hr
   simp only [Sz,List.map_cons]
   rw [h1,h2,h3]
   exact ⟨rfl,h4⟩
theorem ud: ∀(c d:AV) {R:Type} (r:R) (v:UI c R),eI c d r=some v->(lN c v).1.map Me=d.map Me/\(lN c v).2=r
 | .at a, .at b,R,r,v,h=>by
  obtain ⟨h1,h2⟩:=js a b r v h
  exact ⟨by show AV.at _=AV.at _;rw [h1],h2⟩
 | .agg cs, .agg ds,R,r,v,h=>by
  obtain ⟨h1,h2⟩:=Yu cs ds r v h
  exact ⟨by show AV.agg _=AV.agg _;rw [h1],h2⟩
 | .Uf fr τ y, .Uf Oo Iv x,R,r,v,h=>by
  by_cases hc:Iv=τ/\Oo=fr
  ·obtain ⟨h1,h2⟩:=hc
   subst h1;subst h2
   have h3:some ((x,r):Iv.den×R)=some v:=by
    have:eI (.Uf Oo Iv y) (.Uf Oo Iv x) r=some ((x,r):Iv.den×R):=dif_pos ⟨rfl,rfl⟩
    exact this.symm.trans h
   injection h3 with h3
   subst h3;exact ⟨rfl,rfl⟩
  ·have h3:eI (.Uf fr τ y) (.Uf Oo Iv x) r=none:=dif_neg hc
   rw [h3] at h;cases h
 | .at _, .agg _,_,_,_,h=>nomatch (show none=some _ from h)
 | .at _, .Uf _ _ _,_,_,_,h=>nomatch (show none=some _ from h)
 | .agg _, .at _,_,_,_,h=>nomatch (show none=some _ from h)
 | .agg _, .Uf _ _ _,_,_,_,h=>nomatch (show none=some _ from h)
 | .Uf _ _ _, .at _,_,_,_,h=>nomatch (show none=some _ from h)
 | .Uf _ _ _, .agg _,_,_,_,h=>nomatch (show none=some _ from h)
 | .Ir _, .at _,_,_,_,h=>nomatch (show none=some _ from h)
 | .Ir _, .agg _,_,_,_,h=>nomatch (show none=some _ from h)
 | .Ir _, .Uf _ _ _,_,_,_,h=>nomatch (show none=some _ from h)
 | .Ir _, .Ir _,_,_,_,h=>nomatch (show none=some _ from h)
 | .at _, .Ir _,_,_,_,h=>nomatch (show none=some _ from h)
 | .agg _, .Ir _,_,_,_,h=>nomatch (show none=some _ from h)
 | .Uf _ _ _, .Ir _,_,_,_,h=>nomatch (show none=some _ from h)
theorem vU: ∀(c d:OB) {R:Type} (r:R) (v:YM c R),Mj c d r=some v->(mQ c v).1.map Me=d.map Me/\(mQ c v).2=r
 | .arr fr tr e tid ys, .arr Oo KG e' Np xs,R,r,v,h=>by
  by_cases hc:e'=e/\Oo=fr/\KG=tr/\Np=tid
  ·obtain ⟨h1,h2,h3,h4⟩:=hc
   subst h1;subst h2;subst h3;subst h4
   have h3:some ((xs,r):List e'.den×R)=some v:=by
    have:Mj (.arr Oo KG e' Np ys) (.arr Oo KG e' Np xs) r=some ((xs,r):List e'.den×R):=dif_pos ⟨rfl,rfl,rfl,rfl⟩
    exact this.symm.trans h
   injection h3 with h3
   subst h3;exact ⟨rfl,rfl⟩
  ·have h3:Mj (.arr fr tr e tid ys) (.arr Oo KG e' Np xs) r=none:=dif_neg hc
   rw [h3] at h;cases h
 | .Dc e tid ys, .Dc e' Np xs,R,r,v,h=>by
  by_cases hc:e'=e/\Np=tid
  ·obtain ⟨h1,h4⟩:=hc
   subst h1;subst h4
   have h3:some ((xs,r):List e'.den×R)=some v:=by
    have:Mj (.Dc e' Np ys) (.Dc e' Np xs) r=some ((xs,r):List e'.den×R):=dif_pos ⟨rfl,rfl⟩
    exact this.symm.trans h
   injection h3 with h3
   subst h3;exact ⟨rfl,rfl⟩
  ·have h3:Mj (.Dc e tid ys) (.Dc e' Np xs) r=none:=dif_neg hc
   rw [h3] at h;cases h
 | .Oh vt m, .Oh VE m',R,r,v,h=>by
  by_cases hc:VE=vt
  ·subst hc
   have h3:some ((m',r):(ByteArray->Option VE.den)×R)=some v:=by
    have:Mj (.Oh VE m) (.Oh VE m') r=some ((m',r):(ByteArray->Option VE.den)×R):=dif_pos rfl
    exact this.symm.trans h
   injection h3 with h3
   subst h3;exact ⟨rfl,rfl⟩
  ·have h3:Mj (.Oh vt m) (.Oh VE m') r=none:=dif_neg hc
   rw [h3] at h;cases h
 | .var t vs, .var t' us,R,r,v,h=>by
  by_cases hc:t'=t
  ·subst hc
   have h0:Mj (.var t' vs) (.var t' us) r=Lq vs us r:=if_pos rfl
   rw [h0] at h
   obtain ⟨h1,h2⟩:=Yu vs us r v h
   exact ⟨by show OB.var _ _=OB.var _ _;rw [h1],h2⟩
  ·have h3:Mj (.var t vs) (.var t' us) r=none:=if_neg hc
   rw [h3] at h;cases h
 | .Ak e te ys out none, .Ak e' Ky xs aZ none,R,r,v,h=>by
  by_cases hc:e'=e/\Ky=te/\aZ=out
  ·obtain ⟨h1,h2,h4⟩:=hc
   subst h1;subst h2;subst h4
   have h3:some ((xs,r):List (List e'.den)×R)=some v:=by
    have:Mj (.Ak e' Ky ys aZ none) (.Ak e' Ky xs aZ none) r=some ((xs,r):List (List e'.den)×R):=dif_pos ⟨rfl,rfl,rfl⟩
    exact this.symm.trans h
   injection h3 with h3
   subst h3;exact ⟨rfl,rfl⟩
  ·have h3:Mj (.Ak e te ys out none) (.Ak e' Ky xs aZ none) r=none:=dif_neg hc
   rw [h3] at h;cases h
 | .Ak e te ys out (some p), .Ak e' Ky xs aZ (some p'),R,r,v,h=>by
  by_cases hc:e'=e/\Ky=te/\aZ=out/\p'.1=p.1
  ·obtain ⟨h1,h2,h4,h5⟩:=hc
   subst h1;subst h2;subst h4
   have h3:some ((xs,p'.2,r):List (List e'.den)×(Nat×R))=some v:=by
    have:Mj (.Ak e' Ky ys aZ (some p)) (.Ak e' Ky xs aZ (some p')) r=some ((xs,p'.2,r):List (List e'.den)×(Nat×R)):=dif_pos ⟨rfl,rfl,rfl,h5⟩
    exact this.symm.trans h
   injection h3 with h3
   subst h3
   refine ⟨?_,rfl⟩
   show OB.Ak e' Ky xs aZ (some (p.1,p'.2))=OB.Ak e' Ky xs aZ (some p')
   rw [<-h5]
  ·have h3:Mj (.Ak e te ys out (some p)) (.Ak e' Ky xs aZ (some p')) r=none:=dif_neg hc
   rw [h3] at h;cases h
 | .Ak _ _ _ _ none, .Ak _ _ _ _ (some _),_,_,_,h=>nomatch (show none=some _ from h)
 | .Ak _ _ _ _ (some _), .Ak _ _ _ _ none,_,_,_,h=>nomatch (show none=some _ from h)
 | .Ak _ _ _ _ none, .arr _ _ _ _ _,_,_,_,h=>nomatch (show none=some _ from h)
 | .Ak _ _ _ _ none, .Dc _ _ _,_,_,_,h=>nomatch (show none=some _ from h)
 | .Ak _ _ _ _ none, .var _ _,_,_,_,h=>nomatch (show none=some _ from h)
 | .Ak _ _ _ _ none, .Oh _ _,_,_,_,h=>nomatch (show none=some _ from h)
 | .Ak _ _ _ _ (some _), .arr _ _ _ _ _,_,_,_,h=>nomatch (show none=some _ from h)
 | .Ak _ _ _ _ (some _), .Dc _ _ _,_,_,_,h=>nomatch (show none=some _ from h)
 | .Ak _ _ _ _ (some _), .var _ _,_,_,_,h=>nomatch (show none=some _ from h)
 | .Ak _ _ _ _ (some _), .Oh _ _,_,_,_,h=>nomatch (show none=some _ from h)
 | .arr _ _ _ _ _, .Ak _ _ _ _ _,_,_,_,h=>nomatch (show none=some _ from h)
 | .Dc _ _ _, .Ak _ _ _ _ _,_,_,_,h=>nomatch (show none=some _ from h)
 | .var _ _, .Ak _ _ _ _ _,_,_,_,h=>nomatch (show none=some _ from h)
 | .Oh _ _, .Ak _ _ _ _ _,_,_,_,h=>nomatch (show none=some _ from h)
 | .arr _ _ _ _ _, .var _ _,_,_,_,h=>nomatch (show none=some _ from h)
 | .arr _ _ _ _ _, .Dc _ _ _,_,_,_,h=>nomatch (show none=some _ from h)
 | .arr _ _ _ _ _, .Oh _ _,_,_,_,h=>nomatch (show none=some _ from h)
 | .Dc _ _ _, .var _ _,_,_,_,h=>nomatch (show none=some _ from h)
 | .Dc _ _ _, .arr _ _ _ _ _,_,_,_,h=>nomatch (show none=some _ from h)
 | .Dc _ _ _, .Oh _ _,_,_,_,h=>nomatch (show none=some _ from h)
 | .Oh _ _, .var _ _,_,_,_,h=>nomatch (show none=some _ from h)
 | .Oh _ _, .arr _ _ _ _ _,_,_,_,h=>nomatch (show none=some _ from h)
 | .Oh _ _, .Dc _ _ _,_,_,_,h=>nomatch (show none=some _ from h)
 | .var _ _, .arr _ _ _ _ _,_,_,_,h=>nomatch (show none=some _ from h)
 | .var _ _, .Dc _ _ _,_,_,_,h=>nomatch (show none=some _ from h)
 | .var _ _, .Oh _ _,_,_,_,h=>nomatch (show none=some _ from h)
theorem ek: ∀(l m:List AV) {R:Type} (r:R) (v:km l R),Ji l m r=some v->(Pn l v).1.map (·.map Me)=m.map (·.map Me)/\(Pn l v).2=r
 | [],[],R,r,v,h=>by simp only [Ji] at h;injection h with h;subst h;exact ⟨rfl,rfl⟩
 | [],_::_,R,r,v,h=>by simp [Ji] at h
 |_::_,[],R,r,v,h=>by simp [Ji] at h
 |c::l,d::m,R,r,v,h=>by
  simp only [Ji] at h
  cases hr:Ji l m r with
  |none=>rw [hr] at h;cases h
  |some r'=>
   rw [hr] at h
   obtain ⟨h1,h2⟩:=ud c d r' v h
   obtain ⟨h3,h4⟩:=ek l m r r' hr
   simp only [Pn,List.map_cons]
   rw [h1,h2,h3]
   exact ⟨rfl,h4⟩
theorem dO: ∀(l m:List (Nat×OB)) {R:Type} (r:R) (v:q7 l R),Ke l m r=some v->(Xv l v).1.map (λp=>(p.1,p.2.map Me))=m.map (λp=>(p.1,p.2.map Me))/\(Xv l v).2=r
 | [],[],R,r,v,h=>by simp only [Ke] at h;injection h with h;subst h;exact ⟨rfl,rfl⟩
 | [],_::_,R,r,v,h=>by simp [Ke] at h
 |_::_,[],R,r,v,h=>by simp [Ke] at h
 |c::l,d::m,R,r,v,h=>by
  simp only [Ke] at h
  split at h
  ·rename_i hk
   cases hr:Ke l m r with
   |none=>rw [hr] at h;cases h
   |some r'=>
    rw [hr] at h
    obtain ⟨h1,h2⟩:=vU c.2 d.2 r' v h
    obtain ⟨h3,h4⟩:=dO l m r r' hr
    simp only [Xv,List.map_cons]
    rw [h1,h2,h3,hk]
    exact ⟨rfl,h4⟩
  ·cases h
theorem cD {s t:St} {v:ZF s} (h:cC s t=some v):(cB s v).Ge Me=t.Ge Me:=by
 unfold cC at h
 cases hr:Ke s.heap t.heap () with
 |none=>rw [hr] at h;cases h
 |some r=>
  rw [hr] at h
  obtain ⟨h1,h2⟩:=ek s.tmps t.tmps r v h
  obtain ⟨h3,_⟩:=dO s.heap t.heap () r hr
  simp only [cB,St.Ge]
  rw [h1,h2,h3]
theorem jt: ∀(c:AC) {R:Type} (r:R),iu c c r=some (zI c r):=by
 intro c R r
 cases c<;>simp [iu,zI]
theorem Yv: ∀(l:List AC) {R:Type} (r:R),Lq l l r=some (lF l r)
 | [],_,_=>rfl
 |c::l,_,r=>by simp only [Lq,Yv l r,lF];exact jt c _
def AV.dY:AV->Bool
 | .Ir _=>false
 |_=>true
theorem ue: ∀(c:AV),c.dY=true-> ∀ {R:Type} (r:R),eI c c r=some (OE c r):=by
 intro c hn R r
 cases c with
 |Ir l=>cases hn
 | «at»a=>exact jt a r
 |agg cs=>exact Yv cs r
 |Uf fr τ x=>exact dif_pos ⟨rfl,rfl⟩
theorem vV: ∀(c:OB) {R:Type} (r:R),Mj c c r=some (QA c r):=by
 intro c R r
 cases c with
 |arr fr tr e t xs=>exact dif_pos ⟨rfl,rfl,rfl,rfl⟩
 |Dc e t xs=>exact dif_pos ⟨rfl,rfl⟩
 |Oh v m=>exact dif_pos rfl
 |Ak e te rows out kp=>
  cases kp with
  |none=>exact dif_pos ⟨rfl,rfl,rfl⟩
  |some p=>exact dif_pos ⟨rfl,rfl,rfl,rfl⟩
 |var t vs=>
  have h0:Mj (.var t vs) (.var t vs) r=Lq vs vs r:=if_pos rfl
  exact h0.trans (Yv vs r)
theorem eo: ∀(l:List AV),(∀c∈l,c.dY=true)-> ∀ {R:Type} (r:R),Ji l l r=some (lv l r)
 | [],_,_,_=>rfl
 |c::l,h,_,r=>by simp only [Ji,eo l (λc hc=>h c (List.mem_cons_of_mem _ hc)) r,lv];exact ue c (h c (by simp)) _
theorem dP: ∀(l:List (Nat×OB)) {R:Type} (r:R),Ke l l r=some (lh l r)
 | [],_,_=>rfl
 |c::l,_,r=>by simp only [Ke,if_true,dP l r,lh];exact vV c.2 _
theorem kd (s:St) (h: ∀c∈s.tmps,c.dY=true):cC s s=some (AX s):=by
 simp only [cC,dP,AX]
 exact eo _ h _
theorem As {α:Type} {o:Option α} {K:α->Prop} :Dz o K↔ ∃x,o=some x/\K x:=by
 unfold Dz
 cases o with
 |none=>simp
 |some x=>simp
theorem fH: ∀(l m:List AC),l.map Me=m.map Me->l.flatMap Uh=m.flatMap Uh->l=m
 | [],[],_,_=>rfl
 | [],_::_,h,_=>by simp at h
 |_::_,[],h,_=>by simp at h
 |c::l,d::m,h,ho=>by
  simp only [List.map_cons,List.cons.injEq] at h
  simp only [List.flatMap_cons] at ho
  have hcd:c=d/\l.flatMap Uh=m.flatMap Uh:=by
   cases c<;>cases d<;>first|(cases h.1;done)|skip
   all_goals first
    |(obtain ⟨h1,_⟩:=h
      simp only [Me,AC.own.injEq] at h1
      simp only [Uh,List.cons_append,List.nil_append,List.cons.injEq,Prod.mk.injEq] at ho
      exact ⟨by rw [h1.1,ho.1.1,ho.1.2],ho.2⟩)
    |exact ⟨h.1,by simpa only [Uh,List.nil_append] using ho⟩
  rw [hcd.1,fH l m h.2 hcd.2]
theorem gI: ∀(l m:List AC),l.map Me=m.map Me->(l.flatMap Uh).length=(m.flatMap Uh).length
 | [],[],_=>rfl
 | [],_::_,h=>by simp at h
 |_::_,[],h=>by simp at h
 |c::l,d::m,h=>by
  simp only [List.map_cons,List.cons.injEq] at h
  simp only [List.flatMap_cons,List.length_append,gI l m h.2]
  congr 1
  cases c<;>cases d<;>first|rfl|(cases h.1;done)
theorem LL {c d:AV} (h:c.map Me=d.map Me):(Uj c).length=(Uj d).length/\(Uj c=Uj d->(∀l,c≠ .Ir l)->c=d):=by
 cases c with
 | «at»a=>
  cases d<;>simp only [AV.map,AV.at.injEq,reduceCtorEq] at h
  rename_i b
  have h1: [a].map Me= [b].map Me:=by simp [h]
  refine ⟨by simpa [Uj] using gI [a] [b] h1,λho _=>?_⟩
  have:=fH [a] [b] h1 (by simpa [Uj] using ho)
  simpa using this
 |agg cs=>
  cases d<;>simp only [AV.map,AV.agg.injEq,reduceCtorEq] at h
  rename_i ds
  exact ⟨gI cs ds h,λho _=>by rw [fH cs ds h ho]⟩
 |Uf fr τ x=>
  cases d<;>simp only [AV.map,reduceCtorEq] at h
  exact ⟨rfl,λ_ _=>h⟩
 |Ir l=>
  cases d<;>simp only [AV.map,reduceCtorEq] at h
  exact ⟨rfl,λ_ hn=>absurd rfl (hn l)⟩
theorem ug: ∀(l m:List AV),l.map (·.map Me)=m.map (·.map Me)->(∀c∈l,c.dY=true)->(l.flatMap Uj).length=(m.flatMap Uj).length/\(l.flatMap Uj=m.flatMap Uj->l=m)
 | [],[],_,_=>⟨rfl,λ_=>rfl⟩
 | [],_::_,h,_=>by simp at h
 |_::_,[],h,_=>by simp at h
 |c::l,d::m,h,hn=>by
  simp only [List.map_cons,List.cons.injEq] at h
  obtain ⟨h1,h2⟩:=LL h.1
  obtain ⟨h3,h4⟩:=ug l m h.2 λc hc=>hn c (List.mem_cons_of_mem _ hc)
  refine ⟨by simp only [List.flatMap_cons,List.length_append,h1,h3],λho=>?_⟩
  simp only [List.flatMap_cons] at ho
  obtain ⟨g1,g2⟩:=List.append_inj ho h1
  have hnt: ∀l',c≠ .Ir l':= λl' e=>by
   have:=hn c (by simp)
   rw [e] at this
   cases this
  rw [h2 g1 hnt,h4 g2]
theorem MU {c d:OB} (h:c.map Me=d.map Me):(fh c).length=(fh d).length/\(fh c=fh d->c=d):=by
 cases c with
 |var t vs=>
  cases d<;>simp only [OB.map,OB.var.injEq,reduceCtorEq] at h
  rename_i t' us
  obtain ⟨rfl,h⟩:=h
  exact ⟨gI vs us h,λho=>by rw [fH vs us h ho]⟩
 |_=>cases d<;>simp only [OB.map,reduceCtorEq] at h<;>exact ⟨rfl,λ_=>h⟩
theorem q8: ∀(l m:List (Nat×OB)),l.map (λp=>(p.1,p.2.map Me))=m.map (λp=>(p.1,p.2.map Me))->(l.flatMap λp=>fh p.2)=(m.flatMap λp=>fh p.2)->l=m
 | [],[],_,_=>rfl
 | [],_::_,h,_=>by simp at h
 |_::_,[],h,_=>by simp at h
 |(k,c)::l,(k',d)::m,h,ho=>by
  simp only [List.map_cons,List.cons.injEq,Prod.mk.injEq] at h
  simp only [List.flatMap_cons] at ho
  obtain ⟨h1,h2⟩:=MU h.1.2
  obtain ⟨g1,g2⟩:=List.append_inj ho h1
  rw [h.1.1,h2 g1,q8 l m h.2 g2]
theorem uf (l:List (Bool×List AC)) (e:AV) {R:Type} (r:R):eI (.Ir l) e r=none:=by cases e<;>rfl
theorem rm {d e:AV} {R:Type} {r:R} {v:UI d R} (h:eI d e r=some v):d.dY=true:=by
 cases d with
 |Ir l=>rw [uf] at h;cases h
 |_=>rfl
theorem cI: ∀(l m:List AV) {R:Type} (r:R) (v:km l R),Ji l m r=some v-> ∀c∈l,c.dY=true
 | [],_,_,_,_,_,c,hc=>by cases hc
 |d::l,[],_,r,v,h,c,hc=>by cases h
 |d::l,e::m,R,r,v,h,c,hc=>by
  simp only [Ji] at h
  cases hr:Ji l m r with
  |none=>rw [hr] at h;cases h
  |some r'=>
   rw [hr] at h
   rcases List.mem_cons.1 hc with hc|hc
   ·rw [hc];exact rm h
   ·exact cI l m r r' hr c hc
theorem pV {s0 s:St} (h:eqW s0 s):s=s0:=by
 obtain ⟨ho,h⟩:=h
 obtain ⟨v,h1,h2⟩:=As.1 h
 subst h2
 have hn: ∀c∈s0.tmps,c.dY=true:=by
  unfold cC at h1
  cases hr:Ke s0.heap s.heap () with
  |none=>rw [hr] at h1;cases h1
  |some r=>rw [hr] at h1;exact cI _ _ _ _ h1
 have e:=(cD h1).symm.trans (cD (kd s0 hn))
 simp only [St.Ge,St.mk.injEq] at e
 obtain ⟨e1,e2⟩:=e
 obtain ⟨l1,l2⟩:=ug s0.tmps s.tmps e1.symm hn
 unfold zh at ho
 obtain ⟨g1,g2⟩:=List.append_inj ho l1.symm
 have k1:=l2 g1.symm
 have k2:=q8 s.heap s0.heap e2 g2
 cases s;cases s0
 simp only at k1 k2
 rw [k1,k2]
end Go.Proofs.Ytjbdmibbbpdnnaa
