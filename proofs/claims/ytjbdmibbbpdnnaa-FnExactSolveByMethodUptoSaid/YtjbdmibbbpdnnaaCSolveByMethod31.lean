/-
  Part 32 of the proof that the statement FnExactSolveByMethod holds.
-/
import Derived.Test.YtjbdmibbbpdnnaaCSolveByMethod30
namespace Go.Proofs.Ytjbdmibbbpdnnaa
open Go.RowKit
def Mp:AC->AC
 | .own l _ _=> .own l 0 0
 |c=>c
theorem kE: ∀(c d:AC) {R:Type} (r:R) (v:ZL c R),jk c d r=some v->Mp (fJ c v).1=Mp d/\(fJ c v).2=r:=by
 intro c d R r v h
 cases c<;>cases d<;>simp only [jk] at h<;>first|(cases h;first|done|exact ⟨rfl,rfl⟩)|skip
 all_goals
  split at h
  ·rename_i hc
   first
    |(obtain ⟨h1,h2⟩:=hc;subst h1;subst h2;injection h with h;subst h;exact ⟨rfl,rfl⟩)
    |(subst hc;injection h with h;subst h;exact ⟨rfl,rfl⟩)
  ·cases h
theorem a5: ∀(l m:List AC) {R:Type} (r:R) (v:yw l R),Lx l m r=some v->(Tn l v).1.map Mp=m.map Mp/\(Tn l v).2=r
 | [],[],R,r,v,h=>by simp only [Lx] at h;injection h with h;subst h;exact ⟨rfl,rfl⟩
 | [],_::_,R,r,v,h=>by simp [Lx] at h
 |_::_,[],R,r,v,h=>by simp [Lx] at h
 |c::l,d::m,R,r,v,h=>by
  simp only [Lx] at h
  cases hr:Lx l m r with
  |none=>rw [hr] at h;cases h
  |some r'=>
   rw [hr] at h
   obtain ⟨h1,h2⟩:=kE c d r' v h
   obtain ⟨h3,h4⟩:=a5 l m r r' hr
   simp only [Tn,List.map_cons]
   rw [h1,h2,h3]
   exact ⟨rfl,h4⟩
theorem vz: ∀(c d:AV) {R:Type} (r:R) (v:ZM c R),fN c d r=some v->(mE c v).1.map Mp=d.map Mp/\(mE c v).2=r
 | .at a, .at b,R,r,v,h=>by
  obtain ⟨h1,h2⟩:=kE a b r v h
  exact ⟨by show AV.at _=AV.at _;rw [h1],h2⟩
 | .agg cs, .agg ds,R,r,v,h=>by
  obtain ⟨h1,h2⟩:=a5 cs ds r v h
  exact ⟨by show AV.agg _=AV.agg _;rw [h1],h2⟩
 | .Us fr τ y, .Us Pc Ji x,R,r,v,h=>by
  by_cases hc:Ji=τ/\Pc=fr
  ·obtain ⟨h1,h2⟩:=hc
   subst h1;subst h2
   have h3:some ((x,r):Ji.den×R)=some v:=by
    have:fN (.Us Pc Ji y) (.Us Pc Ji x) r=some ((x,r):Ji.den×R):=dif_pos ⟨rfl,rfl⟩
    exact this.symm.trans h
   injection h3 with h3
   subst h3;exact ⟨rfl,rfl⟩
  ·have h3:fN (.Us fr τ y) (.Us Pc Ji x) r=none:=dif_neg hc
   rw [h3] at h;cases h
 | .at _, .agg _,_,_,_,h=>nomatch (show none=some _ from h)
 | .at _, .Us _ _ _,_,_,_,h=>nomatch (show none=some _ from h)
 | .agg _, .at _,_,_,_,h=>nomatch (show none=some _ from h)
 | .agg _, .Us _ _ _,_,_,_,h=>nomatch (show none=some _ from h)
 | .Us _ _ _, .at _,_,_,_,h=>nomatch (show none=some _ from h)
 | .Us _ _ _, .agg _,_,_,_,h=>nomatch (show none=some _ from h)
 | .Jg _, .at _,_,_,_,h=>nomatch (show none=some _ from h)
 | .Jg _, .agg _,_,_,_,h=>nomatch (show none=some _ from h)
 | .Jg _, .Us _ _ _,_,_,_,h=>nomatch (show none=some _ from h)
 | .Jg _, .Jg _,_,_,_,h=>nomatch (show none=some _ from h)
 | .at _, .Jg _,_,_,_,h=>nomatch (show none=some _ from h)
 | .agg _, .Jg _,_,_,_,h=>nomatch (show none=some _ from h)
 | .Us _ _ _, .Jg _,_,_,_,h=>nomatch (show none=some _ from h)
theorem x8: ∀(c d:OB) {R:Type} (r:R) (v:obV c R),Ms c d r=some v->(nM c v).1.map Mp=d.map Mp/\(nM c v).2=r
 | .arr fr tr e tid ys, .arr Pc NR e' Oa xs,R,r,v,h=>by
  by_cases hc:e'=e/\Pc=fr/\NR=tr/\Oa=tid
  ·obtain ⟨h1,h2,h3,h4⟩:=hc
   subst h1;subst h2;subst h3;subst h4
   have h3:some ((xs,r):List e'.den×R)=some v:=by
    have:Ms (.arr Pc NR e' Oa ys) (.arr Pc NR e' Oa xs) r=some ((xs,r):List e'.den×R):=dif_pos ⟨rfl,rfl,rfl,rfl⟩
    exact this.symm.trans h
   injection h3 with h3
   subst h3;exact ⟨rfl,rfl⟩
  ·have h3:Ms (.arr fr tr e tid ys) (.arr Pc NR e' Oa xs) r=none:=dif_neg hc
   rw [h3] at h;cases h
 | .Dk e tid ys, .Dk e' Oa xs,R,r,v,h=>by
  by_cases hc:e'=e/\Oa=tid
  ·obtain ⟨h1,h4⟩:=hc
   subst h1;subst h4
   have h3:some ((xs,r):List e'.den×R)=some v:=by
    have:Ms (.Dk e' Oa ys) (.Dk e' Oa xs) r=some ((xs,r):List e'.den×R):=dif_pos ⟨rfl,rfl⟩
    exact this.symm.trans h
   injection h3 with h3
   subst h3;exact ⟨rfl,rfl⟩
  ·have h3:Ms (.Dk e tid ys) (.Dk e' Oa xs) r=none:=dif_neg hc
   rw [h3] at h;cases h
 | .Ov vt m, .Ov vt' m',R,r,v,h=>by
  by_cases hc:vt'=vt
  ·subst hc
   have h3:some ((m',r):(ByteArray->Option vt'.den)×R)=some v:=by
    have:Ms (.Ov vt' m) (.Ov vt' m') r=some ((m',r):(ByteArray->Option vt'.den)×R):=dif_pos rfl
    exact this.symm.trans h
   injection h3 with h3
   subst h3;exact ⟨rfl,rfl⟩
  ·have h3:Ms (.Ov vt m) (.Ov vt' m') r=none:=dif_neg hc
   rw [h3] at h;cases h
 | .var t vs, .var t' us,R,r,v,h=>by
  by_cases hc:t'=t
  ·subst hc
   have h0:Ms (.var t' vs) (.var t' us) r=Lx vs us r:=if_pos rfl
   rw [h0] at h
   obtain ⟨h1,h2⟩:=a5 vs us r v h
   exact ⟨by show OB.var _ _=OB.var _ _;rw [h1],h2⟩
  ·have h3:Ms (.var t vs) (.var t' us) r=none:=if_neg hc
   rw [h3] at h;cases h
 | .Am e te ys out none, .Am e' Li xs bU none,R,r,v,h=>by
  by_cases hc:e'=e/\Li=te/\bU=out
  ·obtain ⟨h1,h2,h4⟩:=hc
   subst h1;subst h2;subst h4
   have h3:some ((xs,r):List (List e'.den)×R)=some v:=by
    have:Ms (.Am e' Li ys bU none) (.Am e' Li xs bU none) r=some ((xs,r):List (List e'.den)×R):=dif_pos ⟨rfl,rfl,rfl⟩
    exact this.symm.trans h
   injection h3 with h3
   subst h3;exact ⟨rfl,rfl⟩
  ·have h3:Ms (.Am e te ys out none) (.Am e' Li xs bU none) r=none:=dif_neg hc
   rw [h3] at h;cases h
 | .Am e te ys out (some p), .Am e' Li xs bU (some p'),R,r,v,h=>by
  by_cases hc:e'=e/\Li=te/\bU=out/\p'.1=p.1
  ·obtain ⟨h1,h2,h4,h5⟩:=hc
   subst h1;subst h2;subst h4
   have h3:some ((xs,p'.2,r):List (List e'.den)×(Nat×R))=some v:=by
    have:Ms (.Am e' Li ys bU (some p)) (.Am e' Li xs bU (some p')) r=some ((xs,p'.2,r):List (List e'.den)×(Nat×R)):=dif_pos ⟨rfl,rfl,rfl,h5⟩
    exact this.symm.trans h
   injection h3 with h3
   subst h3
   refine ⟨?_,rfl⟩
   show OB.Am e' Li xs bU (some (p.1,p'.2))=OB.Am e' Li xs bU (some p')
   rw [<-h5]
  ·have h3:Ms (.Am e te ys out (some p)) (.Am e' Li xs bU (some p')) r=none:=dif_neg hc
   rw [h3] at h;cases h
 | .Am _ _ _ _ none, .Am _ _ _ _ (some _),_,_,_,h=>nomatch (show none=some _ from h)
 | .Am _ _ _ _ (some _), .Am _ _ _ _ none,_,_,_,h=>nomatch (show none=some _ from h)
 | .Am _ _ _ _ none, .arr _ _ _ _ _,_,_,_,h=>nomatch (show none=some _ from h)
 | .Am _ _ _ _ none, .Dk _ _ _,_,_,_,h=>nomatch (show none=some _ from h)
 | .Am _ _ _ _ none, .var _ _,_,_,_,h=>nomatch (show none=some _ from h)
 | .Am _ _ _ _ none, .Ov _ _,_,_,_,h=>nomatch (show none=some _ from h)
 | .Am _ _ _ _ (some _), .arr _ _ _ _ _,_,_,_,h=>nomatch (show none=some _ from h)
 | .Am _ _ _ _ (some _), .Dk _ _ _,_,_,_,h=>nomatch (show none=some _ from h)
 | .Am _ _ _ _ (some _), .var _ _,_,_,_,h=>nomatch (show none=some _ from h)
 | .Am _ _ _ _ (some _), .Ov _ _,_,_,_,h=>nomatch (show none=some _ from h)
 | .arr _ _ _ _ _, .Am _ _ _ _ _,_,_,_,h=>nomatch (show none=some _ from h)
 | .Dk _ _ _, .Am _ _ _ _ _,_,_,_,h=>nomatch (show none=some _ from h)
 | .var _ _, .Am _ _ _ _ _,_,_,_,h=>nomatch (show none=some _ from h)
 | .Ov _ _, .Am _ _ _ _ _,_,_,_,h=>nomatch (show none=some _ from h)
 | .arr _ _ _ _ _, .var _ _,_,_,_,h=>nomatch (show none=some _ from h)
 | .arr _ _ _ _ _, .Dk _ _ _,_,_,_,h=>nomatch (show none=some _ from h)
 | .arr _ _ _ _ _, .Ov _ _,_,_,_,h=>nomatch (show none=some _ from h)
 | .Dk _ _ _, .var _ _,_,_,_,h=>nomatch (show none=some _ from h)
 | .Dk _ _ _, .arr _ _ _ _ _,_,_,_,h=>nomatch (show none=some _ from h)
 | .Dk _ _ _, .Ov _ _,_,_,_,h=>nomatch (show none=some _ from h)
 | .Ov _ _, .var _ _,_,_,_,h=>nomatch (show none=some _ from h)
 | .Ov _ _, .arr _ _ _ _ _,_,_,_,h=>nomatch (show none=some _ from h)
 | .Ov _ _, .Dk _ _ _,_,_,_,h=>nomatch (show none=some _ from h)
 | .var _ _, .arr _ _ _ _ _,_,_,_,h=>nomatch (show none=some _ from h)
 | .var _ _, .Dk _ _ _,_,_,_,h=>nomatch (show none=some _ from h)
 | .var _ _, .Ov _ _,_,_,_,h=>nomatch (show none=some _ from h)
theorem fq: ∀(l m:List AV) {R:Type} (r:R) (v:ly l R),Jw l m r=some v->(Px l v).1.map (·.map Mp)=m.map (·.map Mp)/\(Px l v).2=r
 | [],[],R,r,v,h=>by simp only [Jw] at h;injection h with h;subst h;exact ⟨rfl,rfl⟩
 | [],_::_,R,r,v,h=>by simp [Jw] at h
 |_::_,[],R,r,v,h=>by simp [Jw] at h
 |c::l,d::m,R,r,v,h=>by
  simp only [Jw] at h
  cases hr:Jw l m r with
  |none=>rw [hr] at h;cases h
  |some r'=>
   rw [hr] at h
   obtain ⟨h1,h2⟩:=vz c d r' v h
   obtain ⟨h3,h4⟩:=fq l m r r' hr
   simp only [Px,List.map_cons]
   rw [h1,h2,h3]
   exact ⟨rfl,h4⟩
theorem eU: ∀(l m:List (Nat×OB)) {R:Type} (r:R) (v:qR l R),Ko l m r=some v->(Yy l v).1.map (λp=>(p.1,p.2.map Mp))=m.map (λp=>(p.1,p.2.map Mp))/\(Yy l v).2=r
 | [],[],R,r,v,h=>by simp only [Ko] at h;injection h with h;subst h;exact ⟨rfl,rfl⟩
 | [],_::_,R,r,v,h=>by simp [Ko] at h
 |_::_,[],R,r,v,h=>by simp [Ko] at h
 |c::l,d::m,R,r,v,h=>by
  simp only [Ko] at h
  split at h
  ·rename_i hk
   cases hr:Ko l m r with
   |none=>rw [hr] at h;cases h
   |some r'=>
    rw [hr] at h
    obtain ⟨h1,h2⟩:=x8 c.2 d.2 r' v h
    obtain ⟨h3,h4⟩:=eU l m r r' hr
    simp only [Yy,List.map_cons]
    rw [h1,h2,h3,hk]
    exact ⟨rfl,h4⟩
  ·cases h
theorem dC {s t:St} {v:stV s} (h:dB s t=some v):(dA s v).Gm Mp=t.Gm Mp:=by
 unfold dB at h
 cases hr:Ko s.heap t.heap () with
 |none=>rw [hr] at h;cases h
 |some r=>
  rw [hr] at h
  obtain ⟨h1,h2⟩:=fq s.tmps t.tmps r v h
  obtain ⟨h3,_⟩:=eU s.heap t.heap () r hr
  simp only [dA,St.Gm]
  rw [h1,h2,h3]
theorem kF: ∀(c:AC) {R:Type} (r:R),jk c c r=some (BM c r):=by
 intro c R r
 cases c<;>simp [jk,BM]
theorem a6: ∀(l:List AC) {R:Type} (r:R),Lx l l r=some (mu l r)
 | [],_,_=>rfl
 |c::l,_,r=>by simp only [Lx,a6 l r,mu];exact kF c _
def AV.fe:AV->Bool
 | .Jg _=>false
 |_=>true
theorem vA: ∀(c:AV),c.fe=true-> ∀ {R:Type} (r:R),fN c c r=some (TD c r):=by
 intro c hn R r
 cases c with
 |Jg l=>cases hn
 | «at»a=>exact kF a r
 |agg cs=>exact a6 cs r
 |Us fr τ x=>exact dif_pos ⟨rfl,rfl⟩
theorem x9: ∀(c:OB) {R:Type} (r:R),Ms c c r=some (UY c r):=by
 intro c R r
 cases c with
 |arr fr tr e t xs=>exact dif_pos ⟨rfl,rfl,rfl,rfl⟩
 |Dk e t xs=>exact dif_pos ⟨rfl,rfl⟩
 |Ov v m=>exact dif_pos rfl
 |Am e te rows out kp=>
  cases kp with
  |none=>exact dif_pos ⟨rfl,rfl,rfl⟩
  |some p=>exact dif_pos ⟨rfl,rfl,rfl,rfl⟩
 |var t vs=>
  have h0:Ms (.var t vs) (.var t vs) r=Lx vs vs r:=if_pos rfl
  exact h0.trans (a6 vs r)
theorem fu: ∀(l:List AV),(∀c∈l,c.fe=true)-> ∀ {R:Type} (r:R),Jw l l r=some (mg l r)
 | [],_,_,_=>rfl
 |c::l,h,_,r=>by simp only [Jw,fu l (λc hc=>h c (List.mem_cons_of_mem _ hc)) r,mg];exact vA c (h c (by simp)) _
theorem eV: ∀(l:List (Nat×OB)) {R:Type} (r:R),Ko l l r=some (m7 l r)
 | [],_,_=>rfl
 |c::l,_,r=>by simp only [Ko,if_true,eV l r,m7];exact x9 c.2 _
theorem lu (s:St) (h: ∀c∈s.tmps,c.fe=true):dB s s=some (DH s):=by
 simp only [dB,eV,DH]
 exact fu _ h _
theorem At {α:Type} {o:Option α} {K:α->Prop} :Ed o K↔ ∃x,o=some x/\K x:=by
 unfold Ed
 cases o with
 |none=>simp
 |some x=>simp
theorem gP: ∀(l m:List AC),l.map Mp=m.map Mp->l.flatMap Uv=m.flatMap Uv->l=m
 | [],[],_,_=>rfl
 | [],_::_,h,_=>by simp at h
 |_::_,[],h,_=>by simp at h
 |c::l,d::m,h,ho=>by
  simp only [List.map_cons,List.cons.injEq] at h
  simp only [List.flatMap_cons] at ho
  have hcd:c=d/\l.flatMap Uv=m.flatMap Uv:=by
   cases c<;>cases d<;>first|(cases h.1;done)|skip
   all_goals first
    |(obtain ⟨h1,_⟩:=h
      simp only [Mp,AC.own.injEq] at h1
      simp only [Uv,List.cons_append,List.nil_append,List.cons.injEq,Prod.mk.injEq] at ho
      exact ⟨by rw [h1.1,ho.1.1,ho.1.2],ho.2⟩)
    |exact ⟨h.1,by simpa only [Uv,List.nil_append] using ho⟩
  rw [hcd.1,gP l m h.2 hcd.2]
theorem iP: ∀(l m:List AC),l.map Mp=m.map Mp->(l.flatMap Uv).length=(m.flatMap Uv).length
 | [],[],_=>rfl
 | [],_::_,h=>by simp at h
 |_::_,[],h=>by simp at h
 |c::l,d::m,h=>by
  simp only [List.map_cons,List.cons.injEq] at h
  simp only [List.flatMap_cons,List.length_append,iP l m h.2]
  congr 1
  cases c<;>cases d<;>first|rfl|(cases h.1;done)
theorem PD {c d:AV} (h:c.map Mp=d.map Mp):(Ux c).length=(Ux d).length/\(Ux c=Ux d->(∀l,c≠ .Jg l)->c=d):=by
 cases c with
 | «at»a=>
  cases d<;>simp only [AV.map,AV.at.injEq,reduceCtorEq] at h
  rename_i b
  have h1: [a].map Mp= [b].map Mp:=by simp [h]
  refine ⟨by simpa [Ux] using iP [a] [b] h1,λho _=>?_⟩
  have:=gP [a] [b] h1 (by simpa [Ux] using ho)
  simpa using this
 |agg cs=>
  cases d<;>simp only [AV.map,AV.agg.injEq,reduceCtorEq] at h
  rename_i ds
  exact ⟨iP cs ds h,λho _=>by rw [gP cs ds h ho]⟩
 |Us fr τ x=>
  cases d<;>simp only [AV.map,reduceCtorEq] at h
  exact ⟨rfl,λ_ _=>h⟩
 |Jg l=>
  cases d<;>simp only [AV.map,reduceCtorEq] at h
  exact ⟨rfl,λ_ hn=>absurd rfl (hn l)⟩
theorem vC: ∀(l m:List AV),l.map (·.map Mp)=m.map (·.map Mp)->(∀c∈l,c.fe=true)->(l.flatMap Ux).length=(m.flatMap Ux).length/\(l.flatMap Ux=m.flatMap Ux->l=m)
 | [],[],_,_=>⟨rfl,λ_=>rfl⟩
 | [],_::_,h,_=>by simp at h
 |_::_,[],h,_=>by simp at h
 |c::l,d::m,h,hn=>by
  simp only [List.map_cons,List.cons.injEq] at h
  obtain ⟨h1,h2⟩:=PD h.1
  obtain ⟨h3,h4⟩:=vC l m h.2 λc hc=>hn c (List.mem_cons_of_mem _ hc)
  refine ⟨by simp only [List.flatMap_cons,List.length_append,h1,h3],λho=>?_⟩
  simp only [List.flatMap_cons] at ho
  obtain ⟨g1,g2⟩:=List.append_inj ho h1
  have hnt: ∀l',c≠ .Jg l':= λl' e=>by
   have:=hn c (by simp)
   rw [e] at this
   cases this
  rw [h2 g1 hnt,h4 g2]
theorem RG {c d:OB} (h:c.map Mp=d.map Mp):(gr c).length=(gr d).length/\(gr c=gr d->c=d):=by
 cases c with
 |var t vs=>
  cases d<;>simp only [OB.map,OB.var.injEq,reduceCtorEq] at h
  rename_i t' us
  obtain ⟨rfl,h⟩:=h
  exact ⟨iP vs us h,λho=>by rw [gP vs us h ho]⟩
 |_=>cases d<;>simp only [OB.map,reduceCtorEq] at h<;>exact ⟨rfl,λ_=>h⟩
theorem qS: ∀(l m:List (Nat×OB)),l.map (λp=>(p.1,p.2.map Mp))=m.map (λp=>(p.1,p.2.map Mp))->(l.flatMap λp=>gr p.2)=(m.flatMap λp=>gr p.2)->l=m
 | [],[],_,_=>rfl
 | [],_::_,h,_=>by simp at h
 |_::_,[],h,_=>by simp at h
 |(k,c)::l,(k',d)::m,h,ho=>by
  simp only [List.map_cons,List.cons.injEq,Prod.mk.injEq] at h
  simp only [List.flatMap_cons] at ho
  obtain ⟨h1,h2⟩:=RG h.1.2
  obtain ⟨g1,g2⟩:=List.append_inj ho h1
  rw [h.1.1,h2 g1,qS l m h.2 g2]
theorem vB (l:List (Bool×List AC)) (e:AV) {R:Type} (r:R):fN (.Jg l) e r=none:=by cases e<;>rfl
theorem sr {d e:AV} {R:Type} {r:R} {v:ZM d R} (h:fN d e r=some v):d.fe=true:=by
 cases d with
 |Jg l=>rw [vB] at h;cases h
 |_=>rfl
theorem dE: ∀(l m:List AV) {R:Type} (r:R) (v:ly l R),Jw l m r=some v-> ∀c∈l,c.fe=true
 | [],_,_,_,_,_,c,hc=>by cases hc
 |d::l,[],_,r,v,h,c,hc=>by cases h
 |d::l,e::m,R,r,v,h,c,hc=>by
  simp only [Jw] at h
  cases hr:Jw l m r with
  |none=>rw [hr] at h;cases h
  |some r'=>
   rw [hr] at h
   rcases List.mem_cons.1 hc with hc|hc
   ·rw [hc];exact sr h
   ·exact dE l m r r' hr c hc
theorem qJ {s0 s:St} (h:eqW s0 s):s=s0:=by
 obtain ⟨ho,h⟩:=h
 obtain ⟨v,h1,h2⟩:=At.1 h
 subst h2
 have hn: ∀c∈s0.tmps,c.fe=true:=by
  unfold dB at h1
  cases hr:Ko s0.heap s.heap () with
  |none=>rw [hr] at h1;cases h1
  |some r=>rw [hr] at h1;exact dE _ _ _ _ h1
 have e:=(dC h1).symm.trans (dC (lu s0 hn))
 simp only [St.Gm,St.mk.injEq] at e
 obtain ⟨e1,e2⟩:=e
 obtain ⟨l1,l2⟩:=vC s0.tmps s.tmps e1.symm hn
 unfold AP at ho
 obtain ⟨g1,g2⟩:=List.append_inj ho l1.symm
 have k1:=l2 g1.symm
 have k2:=qS s.heap s0.heap e2 g2
 cases s;cases s0
 simp only at k1 k2
 rw [k1,k2]
end Go.Proofs.Ytjbdmibbbpdnnaa
