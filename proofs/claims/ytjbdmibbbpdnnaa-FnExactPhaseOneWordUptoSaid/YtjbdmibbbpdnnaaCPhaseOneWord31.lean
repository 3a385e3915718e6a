/-
  Part 32 of the proof that the statement FnExactPhaseOneWord holds.
-/
import Derived.Test.YtjbdmibbbpdnnaaCPhaseOneWord30
namespace Go.Proofs.Ytjbdmibbbpdnnaa
open Go.RowKit
def Mg:AC->AC
 | .own l _ _=> .own l 0 0
 |c=>c
theorem kb: ∀(c d:AC) {R:Type} (r:R) (v:XA c R),iV c d r=some v->Mg (fb c v).1=Mg d/\(fb c v).2=r:=by
 intro c d R r v h
 cases c<;>cases d<;>simp only [iV] at h<;>first|(cases h;first|done|exact ⟨rfl,rfl⟩)|skip
 all_goals
  split at h
  ·rename_i hc
   first
    |(obtain ⟨h1,h2⟩:=hc;subst h1;subst h2;injection h with h;subst h;exact ⟨rfl,rfl⟩)
    |(subst hc;injection h with h;subst h;exact ⟨rfl,rfl⟩)
  ·cases h
theorem Zi: ∀(l m:List AC) {R:Type} (r:R) (v:xK l R),Lp l m r=some v->(Th l v).1.map Mg=m.map Mg/\(Th l v).2=r
 | [],[],R,r,v,h=>by simp only [Lp] at h;injection h with h;subst h;exact ⟨rfl,rfl⟩
 | [],_::_,R,r,v,h=>by simp [Lp] at h
 |_::_,[],R,r,v,h=>by simp [Lp] at h
 |c::l,d::m,R,r,v,h=>by
  simp only [Lp] at h
  cases hr:Lp l m r with
  |none=>rw [hr] at h;cases h
  |some r'=>
   rw [hr] at h
   obtain ⟨h1,h2⟩:=kb c d r' v h
   obtain ⟨h3,h4⟩:=Zi l m r r' hr
   simp only [Th,List.map_cons]
   rw [h1,h2,h3]
   exact ⟨rfl,h4⟩
theorem uH: ∀(c d:AV) {R:Type} (r:R) (v:XB c R),fg c d r=some v->(m9 c v).1.map Mg=d.map Mg/\(m9 c v).2=r
 | .at a, .at b,R,r,v,h=>by
  obtain ⟨h1,h2⟩:=kb a b r v h
  exact ⟨by show AV.at _=AV.at _;rw [h1],h2⟩
 | .agg cs, .agg ds,R,r,v,h=>by
  obtain ⟨h1,h2⟩:=Zi cs ds r v h
  exact ⟨by show AV.agg _=AV.agg _;rw [h1],h2⟩
 | .Uj fr τ y, .Uj On Iy x,R,r,v,h=>by
  by_cases hc:Iy=τ/\On=fr
  ·obtain ⟨h1,h2⟩:=hc
   subst h1;subst h2
   have h3:some ((x,r):Iy.den×R)=some v:=by
    have:fg (.Uj On Iy y) (.Uj On Iy x) r=some ((x,r):Iy.den×R):=dif_pos ⟨rfl,rfl⟩
    exact this.symm.trans h
   injection h3 with h3
   subst h3;exact ⟨rfl,rfl⟩
  ·have h3:fg (.Uj fr τ y) (.Uj On Iy x) r=none:=dif_neg hc
   rw [h3] at h;cases h
 | .at _, .agg _,_,_,_,h=>nomatch (show none=some _ from h)
 | .at _, .Uj _ _ _,_,_,_,h=>nomatch (show none=some _ from h)
 | .agg _, .at _,_,_,_,h=>nomatch (show none=some _ from h)
 | .agg _, .Uj _ _ _,_,_,_,h=>nomatch (show none=some _ from h)
 | .Uj _ _ _, .at _,_,_,_,h=>nomatch (show none=some _ from h)
 | .Uj _ _ _, .agg _,_,_,_,h=>nomatch (show none=some _ from h)
 | .Iw _, .at _,_,_,_,h=>nomatch (show none=some _ from h)
 | .Iw _, .agg _,_,_,_,h=>nomatch (show none=some _ from h)
 | .Iw _, .Uj _ _ _,_,_,_,h=>nomatch (show none=some _ from h)
 | .Iw _, .Iw _,_,_,_,h=>nomatch (show none=some _ from h)
 | .at _, .Iw _,_,_,_,h=>nomatch (show none=some _ from h)
 | .agg _, .Iw _,_,_,_,h=>nomatch (show none=some _ from h)
 | .Uj _ _ _, .Iw _,_,_,_,h=>nomatch (show none=some _ from h)
theorem wv: ∀(c d:OB) {R:Type} (r:R) (v:obV c R),Mj c d r=some v->(nk c v).1.map Mg=d.map Mg/\(nk c v).2=r
 | .arr fr tr e tid ys, .arr On LU e' Nr xs,R,r,v,h=>by
  by_cases hc:e'=e/\On=fr/\LU=tr/\Nr=tid
  ·obtain ⟨h1,h2,h3,h4⟩:=hc
   subst h1;subst h2;subst h3;subst h4
   have h3:some ((xs,r):List e'.den×R)=some v:=by
    have:Mj (.arr On LU e' Nr ys) (.arr On LU e' Nr xs) r=some ((xs,r):List e'.den×R):=dif_pos ⟨rfl,rfl,rfl,rfl⟩
    exact this.symm.trans h
   injection h3 with h3
   subst h3;exact ⟨rfl,rfl⟩
  ·have h3:Mj (.arr fr tr e tid ys) (.arr On LU e' Nr xs) r=none:=dif_neg hc
   rw [h3] at h;cases h
 | .Dg e tid ys, .Dg e' Nr xs,R,r,v,h=>by
  by_cases hc:e'=e/\Nr=tid
  ·obtain ⟨h1,h4⟩:=hc
   subst h1;subst h4
   have h3:some ((xs,r):List e'.den×R)=some v:=by
    have:Mj (.Dg e' Nr ys) (.Dg e' Nr xs) r=some ((xs,r):List e'.den×R):=dif_pos ⟨rfl,rfl⟩
    exact this.symm.trans h
   injection h3 with h3
   subst h3;exact ⟨rfl,rfl⟩
  ·have h3:Mj (.Dg e tid ys) (.Dg e' Nr xs) r=none:=dif_neg hc
   rw [h3] at h;cases h
 | .Oh vt m, .Oh YE m',R,r,v,h=>by
  by_cases hc:YE=vt
  ·subst hc
   have h3:some ((m',r):(ByteArray->Option YE.den)×R)=some v:=by
    have:Mj (.Oh YE m) (.Oh YE m') r=some ((m',r):(ByteArray->Option YE.den)×R):=dif_pos rfl
    exact this.symm.trans h
   injection h3 with h3
   subst h3;exact ⟨rfl,rfl⟩
  ·have h3:Mj (.Oh vt m) (.Oh YE m') r=none:=dif_neg hc
   rw [h3] at h;cases h
 | .var t vs, .var t' us,R,r,v,h=>by
  by_cases hc:t'=t
  ·subst hc
   have h0:Mj (.var t' vs) (.var t' us) r=Lp vs us r:=if_pos rfl
   rw [h0] at h
   obtain ⟨h1,h2⟩:=Zi vs us r v h
   exact ⟨by show OB.var _ _=OB.var _ _;rw [h1],h2⟩
  ·have h3:Mj (.var t vs) (.var t' us) r=none:=if_neg hc
   rw [h3] at h;cases h
 | .Ak e te ys out none, .Ak e' Lc xs br none,R,r,v,h=>by
  by_cases hc:e'=e/\Lc=te/\br=out
  ·obtain ⟨h1,h2,h4⟩:=hc
   subst h1;subst h2;subst h4
   have h3:some ((xs,r):List (List e'.den)×R)=some v:=by
    have:Mj (.Ak e' Lc ys br none) (.Ak e' Lc xs br none) r=some ((xs,r):List (List e'.den)×R):=dif_pos ⟨rfl,rfl,rfl⟩
    exact this.symm.trans h
   injection h3 with h3
   subst h3;exact ⟨rfl,rfl⟩
  ·have h3:Mj (.Ak e te ys out none) (.Ak e' Lc xs br none) r=none:=dif_neg hc
   rw [h3] at h;cases h
 | .Ak e te ys out (some p), .Ak e' Lc xs br (some p'),R,r,v,h=>by
  by_cases hc:e'=e/\Lc=te/\br=out/\p'.1=p.1
  ·obtain ⟨h1,h2,h4,h5⟩:=hc
   subst h1;subst h2;subst h4
   have h3:some ((xs,p'.2,r):List (List e'.den)×(Nat×R))=some v:=by
    have:Mj (.Ak e' Lc ys br (some p)) (.Ak e' Lc xs br (some p')) r=some ((xs,p'.2,r):List (List e'.den)×(Nat×R)):=dif_pos ⟨rfl,rfl,rfl,h5⟩
    exact this.symm.trans h
   injection h3 with h3
   subst h3
   refine ⟨?_,rfl⟩
   show OB.Ak e' Lc xs br (some (p.1,p'.2))=OB.Ak e' Lc xs br (some p')
   rw [<-h5]
  ·have h3:Mj (.Ak e te ys out (some p)) (.Ak e' Lc xs br (some p')) r=none:=dif_neg hc
   rw [h3] at h;cases h
 | .Ak _ _ _ _ none, .Ak _ _ _ _ (some _),_,_,_,h=>nomatch (show none=some _ from h)
 | .Ak _ _ _ _ (some _), .Ak _ _ _ _ none,_,_,_,h=>nomatch (show none=some _ from h)
 | .Ak _ _ _ _ none, .arr _ _ _ _ _,_,_,_,h=>nomatch (show none=some _ from h)
 | .Ak _ _ _ _ none, .Dg _ _ _,_,_,_,h=>nomatch (show none=some _ from h)
 | .Ak _ _ _ _ none, .var _ _,_,_,_,h=>nomatch (show none=some _ from h)
 | .Ak _ _ _ _ none, .Oh _ _,_,_,_,h=>nomatch (show none=some _ from h)
 | .Ak _ _ _ _ (some _), .arr _ _ _ _ _,_,_,_,h=>nomatch (show none=some _ from h)
 | .Ak _ _ _ _ (some _), .Dg _ _ _,_,_,_,h=>nomatch (show none=some _ from h)
 | .Ak _ _ _ _ (some _), .var _ _,_,_,_,h=>nomatch (show none=some _ from h)
 | .Ak _ _ _ _ (some _), .Oh _ _,_,_,_,h=>nomatch (show none=some _ from h)
 | .arr _ _ _ _ _, .Ak _ _ _ _ _,_,_,_,h=>nomatch (show none=some _ from h)
 | .Dg _ _ _, .Ak _ _ _ _ _,_,_,_,h=>nomatch (show none=some _ from h)
 | .var _ _, .Ak _ _ _ _ _,_,_,_,h=>nomatch (show none=some _ from h)
 | .Oh _ _, .Ak _ _ _ _ _,_,_,_,h=>nomatch (show none=some _ from h)
 | .arr _ _ _ _ _, .var _ _,_,_,_,h=>nomatch (show none=some _ from h)
 | .arr _ _ _ _ _, .Dg _ _ _,_,_,_,h=>nomatch (show none=some _ from h)
 | .arr _ _ _ _ _, .Oh _ _,_,_,_,h=>nomatch (show none=some _ from h)
 | .Dg _ _ _, .var _ _,_,_,_,h=>nomatch (show none=some _ from h)
 | .Dg _ _ _, .arr _ _ _ _ _,_,_,_,h=>nomatch (show none=some _ from h)
 | .Dg _ _ _, .Oh _ _,_,_,_,h=>nomatch (show none=some _ from h)
 | .Oh _ _, .var _ _,_,_,_,h=>nomatch (show none=some _ from h)
 | .Oh _ _, .arr _ _ _ _ _,_,_,_,h=>nomatch (show none=some _ from h)
 | .Oh _ _, .Dg _ _ _,_,_,_,h=>nomatch (show none=some _ from h)
 | .var _ _, .arr _ _ _ _ _,_,_,_,h=>nomatch (show none=some _ from h)
 | .var _ _, .Dg _ _ _,_,_,_,h=>nomatch (show none=some _ from h)
 | .var _ _, .Oh _ _,_,_,_,h=>nomatch (show none=some _ from h)
theorem eO: ∀(l m:List AV) {R:Type} (r:R) (v:kX l R),Jm l m r=some v->(Pq l v).1.map (·.map Mg)=m.map (·.map Mg)/\(Pq l v).2=r
 | [],[],R,r,v,h=>by simp only [Jm] at h;injection h with h;subst h;exact ⟨rfl,rfl⟩
 | [],_::_,R,r,v,h=>by simp [Jm] at h
 |_::_,[],R,r,v,h=>by simp [Jm] at h
 |c::l,d::m,R,r,v,h=>by
  simp only [Jm] at h
  cases hr:Jm l m r with
  |none=>rw [hr] at h;cases h
  |some r'=>
   rw [hr] at h
   obtain ⟨h1,h2⟩:=uH c d r' v h
   obtain ⟨h3,h4⟩:=eO l m r r' hr
   simp only [Pq,List.map_cons]
   rw [h1,h2,h3]
   exact ⟨rfl,h4⟩
theorem ef: ∀(l m:List (Nat×OB)) {R:Type} (r:R) (v:qg l R),Ki l m r=some v->(Ye l v).1.map (λp=>(p.1,p.2.map Mg))=m.map (λp=>(p.1,p.2.map Mg))/\(Ye l v).2=r
 | [],[],R,r,v,h=>by simp only [Ki] at h;injection h with h;subst h;exact ⟨rfl,rfl⟩
 | [],_::_,R,r,v,h=>by simp [Ki] at h
 |_::_,[],R,r,v,h=>by simp [Ki] at h
 |c::l,d::m,R,r,v,h=>by
  simp only [Ki] at h
  split at h
  ·rename_i hk
   cases hr:Ki l m r with
   |none=>rw [hr] at h;cases h
   |some r'=>
    rw [hr] at h
    obtain ⟨h1,h2⟩:=wv c.2 d.2 r' v h
    obtain ⟨h3,h4⟩:=ef l m r r' hr
    simp only [Ye,List.map_cons]
    rw [h1,h2,h3,hk]
    exact ⟨rfl,h4⟩
  ·cases h
theorem cY {s t:St} {v:stV s} (h:cX s t=some v):(cW s v).Gh Mg=t.Gh Mg:=by
 unfold cX at h
 cases hr:Ki s.heap t.heap () with
 |none=>rw [hr] at h;cases h
 |some r=>
  rw [hr] at h
  obtain ⟨h1,h2⟩:=eO s.tmps t.tmps r v h
  obtain ⟨h3,_⟩:=ef s.heap t.heap () r hr
  simp only [cW,St.Gh]
  rw [h1,h2,h3]
theorem kc: ∀(c:AC) {R:Type} (r:R),iV c c r=some (zY c r):=by
 intro c R r
 cases c<;>simp [iV,zY]
theorem Zj: ∀(l:List AC) {R:Type} (r:R),Lp l l r=some (lX l r)
 | [],_,_=>rfl
 |c::l,_,r=>by simp only [Lp,Zj l r,lX];exact kc c _
def AV.eC:AV->Bool
 | .Iw _=>false
 |_=>true
theorem uI: ∀(c:AV),c.eC=true-> ∀ {R:Type} (r:R),fg c c r=some (QM c r):=by
 intro c hn R r
 cases c with
 |Iw l=>cases hn
 | «at»a=>exact kc a r
 |agg cs=>exact Zj cs r
 |Uj fr τ x=>exact dif_pos ⟨rfl,rfl⟩
theorem wx: ∀(c:OB) {R:Type} (r:R),Mj c c r=some (SI c r):=by
 intro c R r
 cases c with
 |arr fr tr e t xs=>exact dif_pos ⟨rfl,rfl,rfl,rfl⟩
 |Dg e t xs=>exact dif_pos ⟨rfl,rfl⟩
 |Oh v m=>exact dif_pos rfl
 |Ak e te rows out kp=>
  cases kp with
  |none=>exact dif_pos ⟨rfl,rfl,rfl⟩
  |some p=>exact dif_pos ⟨rfl,rfl,rfl,rfl⟩
 |var t vs=>
  have h0:Mj (.var t vs) (.var t vs) r=Lp vs vs r:=if_pos rfl
  exact h0.trans (Zj vs r)
theorem eP: ∀(l:List AV),(∀c∈l,c.eC=true)-> ∀ {R:Type} (r:R),Jm l l r=some (lP l r)
 | [],_,_,_=>rfl
 |c::l,h,_,r=>by simp only [Jm,eP l (λc hc=>h c (List.mem_cons_of_mem _ hc)) r,lP];exact uI c (h c (by simp)) _
theorem eg: ∀(l:List (Nat×OB)) {R:Type} (r:R),Ki l l r=some (lG l r)
 | [],_,_=>rfl
 |c::l,_,r=>by simp only [Ki,if_true,eg l r,lG];exact wx c.2 _
theorem kT (s:St) (h: ∀c∈s.tmps,c.eC=true):cX s s=some (BQ s):=by
 simp only [cX,eg,BQ]
 exact eP _ h _
theorem As {α:Type} {o:Option α} {K:α->Prop} :Dy o K↔ ∃x,o=some x/\K x:=by
 unfold Dy
 cases o with
 |none=>simp
 |some x=>simp
theorem gm: ∀(l m:List AC),l.map Mg=m.map Mg->l.flatMap Um=m.flatMap Um->l=m
 | [],[],_,_=>rfl
 | [],_::_,h,_=>by simp at h
 |_::_,[],h,_=>by simp at h
 |c::l,d::m,h,ho=>by
  simp only [List.map_cons,List.cons.injEq] at h
  simp only [List.flatMap_cons] at ho
  have hcd:c=d/\l.flatMap Um=m.flatMap Um:=by
   cases c<;>cases d<;>first|(cases h.1;done)|skip
   all_goals first
    |(obtain ⟨h1,_⟩:=h
      simp only [Mg,AC.own.injEq] at h1
      simp only [Um,List.cons_append,List.nil_append,List.cons.injEq,Prod.mk.injEq] at ho
      exact ⟨by rw [h1.1,ho.1.1,ho.1.2],ho.2⟩)
    |exact ⟨h.1,by simpa only [Um,List.nil_append] using ho⟩
  rw [hcd.1,gm l m h.2 hcd.2]
theorem il: ∀(l m:List AC),l.map Mg=m.map Mg->(l.flatMap Um).length=(m.flatMap Um).length
 | [],[],_=>rfl
 | [],_::_,h=>by simp at h
 |_::_,[],h=>by simp at h
 |c::l,d::m,h=>by
  simp only [List.map_cons,List.cons.injEq] at h
  simp only [List.flatMap_cons,List.length_append,il l m h.2]
  congr 1
  cases c<;>cases d<;>first|rfl|(cases h.1;done)
theorem NC {c d:AV} (h:c.map Mg=d.map Mg):(Uo c).length=(Uo d).length/\(Uo c=Uo d->(∀l,c≠ .Iw l)->c=d):=by
 cases c with
 | «at»a=>
  cases d<;>simp only [AV.map,AV.at.injEq,reduceCtorEq] at h
  rename_i b
  have h1: [a].map Mg= [b].map Mg:=by simp [h]
  refine ⟨by simpa [Uo] using il [a] [b] h1,λho _=>?_⟩
  have:=gm [a] [b] h1 (by simpa [Uo] using ho)
  simpa using this
 |agg cs=>
  cases d<;>simp only [AV.map,AV.agg.injEq,reduceCtorEq] at h
  rename_i ds
  exact ⟨il cs ds h,λho _=>by rw [gm cs ds h ho]⟩
 |Uj fr τ x=>
  cases d<;>simp only [AV.map,reduceCtorEq] at h
  exact ⟨rfl,λ_ _=>h⟩
 |Iw l=>
  cases d<;>simp only [AV.map,reduceCtorEq] at h
  exact ⟨rfl,λ_ hn=>absurd rfl (hn l)⟩
theorem uK: ∀(l m:List AV),l.map (·.map Mg)=m.map (·.map Mg)->(∀c∈l,c.eC=true)->(l.flatMap Uo).length=(m.flatMap Uo).length/\(l.flatMap Uo=m.flatMap Uo->l=m)
 | [],[],_,_=>⟨rfl,λ_=>rfl⟩
 | [],_::_,h,_=>by simp at h
 |_::_,[],h,_=>by simp at h
 |c::l,d::m,h,hn=>by
  simp only [List.map_cons,List.cons.injEq] at h
  obtain ⟨h1,h2⟩:=NC h.1
  obtain ⟨h3,h4⟩:=uK l m h.2 λc hc=>hn c (List.mem_cons_of_mem _ hc)
  refine ⟨by simp only [List.flatMap_cons,List.length_append,h1,h3],λho=>?_⟩
  simp only [List.flatMap_cons] at ho
  obtain ⟨g1,g2⟩:=List.append_inj ho h1
  have hnt: ∀l',c≠ .Iw l':= λl' e=>by
   have:=hn c (by simp)
   rw [e] at this
   cases this
  rw [h2 g1 hnt,h4 g2]
theorem OV {c d:OB} (h:c.map Mg=d.map Mg):(fO c).length=(fO d).length/\(fO c=fO d->c=d):=by
 cases c with
 |var t vs=>
  cases d<;>simp only [OB.map,OB.var.injEq,reduceCtorEq] at h
  rename_i t' us
  obtain ⟨rfl,h⟩:=h
  exact ⟨il vs us h,λho=>by rw [gm vs us h ho]⟩
 |_=>cases d<;>simp only [OB.map,reduceCtorEq] at h<;>exact ⟨rfl,λ_=>h⟩
theorem qh: ∀(l m:List (Nat×OB)),l.map (λp=>(p.1,p.2.map Mg))=m.map (λp=>(p.1,p.2.map Mg))->(l.flatMap λp=>fO p.2)=(m.flatMap λp=>fO p.2)->l=m
 | [],[],_,_=>rfl
 | [],_::_,h,_=>by simp at h
 |_::_,[],h,_=>by simp at h
 |(k,c)::l,(k',d)::m,h,ho=>by
  simp only [List.map_cons,List.cons.injEq,Prod.mk.injEq] at h
  simp only [List.flatMap_cons] at ho
  obtain ⟨h1,h2⟩:=OV h.1.2
  obtain ⟨g1,g2⟩:=List.append_inj ho h1
  rw [h.1.1,h2 g1,qh l m h.2 g2]
theorem uJ (l:List (Bool×List AC)) (e:AV) {R:Type} (r:R):fg (.Iw l) e r=none:=by cases e<;>rfl
theorem rF {d e:AV} {R:Type} {r:R} {v:XB d R} (h:fg d e r=some v):d.eC=true:=by
 cases d with
 |Iw l=>rw [uJ] at h;cases h
 |_=>rfl
theorem db: ∀(l m:List AV) {R:Type} (r:R) (v:kX l R),Jm l m r=some v-> ∀c∈l,c.eC=true
 | [],_,_,_,_,_,c,hc=>by cases hc
 |d::l,[],_,r,v,h,c,hc=>by cases h
 |d::l,e::m,R,r,v,h,c,hc=>by
  simp only [Jm] at h
  cases hr:Jm l m r with
  |none=>rw [hr] at h;cases h
  |some r'=>
   rw [hr] at h
   rcases List.mem_cons.1 hc with hc|hc
   ·rw [hc];exact rF h
   ·exact db l m r r' hr c hc
theorem q8 {s0 s:St} (h:eqW s0 s):s=s0:=by
 obtain ⟨ho,h⟩:=h
 obtain ⟨v,h1,h2⟩:=As.1 h
 subst h2
 have hn: ∀c∈s0.tmps,c.eC=true:=by
  unfold cX at h1
  cases hr:Ki s0.heap s.heap () with
  |none=>rw [hr] at h1;cases h1
  |some r=>rw [hr] at h1;exact db _ _ _ _ h1
 have e:=(cY h1).symm.trans (cY (kT s0 hn))
 simp only [St.Gh,St.mk.injEq] at e
 obtain ⟨e1,e2⟩:=e
 obtain ⟨l1,l2⟩:=uK s0.tmps s.tmps e1.symm hn
 unfold zE at ho
 obtain ⟨g1,g2⟩:=List.append_inj ho l1.symm
 have k1:=l2 g1.symm
 have k2:=qh s.heap s0.heap e2 g2
 cases s;cases s0
 simp only at k1 k2
 rw [k1,k2]
end Go.Proofs.Ytjbdmibbbpdnnaa
