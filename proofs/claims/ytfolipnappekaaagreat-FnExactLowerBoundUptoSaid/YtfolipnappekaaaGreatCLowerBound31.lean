/-
  Part 32 of the proof that the statement FnExactLowerBound holds.
-/
import Derived.Test.YtfolipnappekaaaGreatCLowerBound30
namespace Go.Proofs.YtfolipnappekaaaGreat
open Go.RowKit
def Mi:AC->AC
 | .own l _ _=> .own l 0 0
 |c=>c
theorem ku: ∀(c d:AC) {R:Type} (r:R) (v:YT c R),jd c d r=some v->Mi (fo c v).1=Mi d/\(fo c v).2=r:=by
 intro c d R r v h
 cases c<;>cases d<;>simp only [jd] at h<;>first|(cases h;first|done|exact ⟨rfl,rfl⟩)|skip
 all_goals
  split at h
  ·rename_i hc
   first
    |(obtain ⟨h1,h2⟩:=hc;subst h1;subst h2;injection h with h;subst h;exact ⟨rfl,rfl⟩)
    |(subst hc;injection h with h;subst h;exact ⟨rfl,rfl⟩)
  ·cases h
theorem Zo: ∀(l m:List AC) {R:Type} (r:R) (v:yH l R),Ls l m r=some v->(Th l v).1.map Mi=m.map Mi/\(Th l v).2=r
 | [],[],R,r,v,h=>by simp only [Ls] at h;injection h with h;subst h;exact ⟨rfl,rfl⟩
 | [],_::_,R,r,v,h=>by simp [Ls] at h
 |_::_,[],R,r,v,h=>by simp [Ls] at h
 |c::l,d::m,R,r,v,h=>by
  simp only [Ls] at h
  cases hr:Ls l m r with
  |none=>rw [hr] at h;cases h
  |some r'=>
   rw [hr] at h
   obtain ⟨h1,h2⟩:=ku c d r' v h
   obtain ⟨h3,h4⟩:=Zo l m r r' hr
   simp only [Th,List.map_cons]
   rw [h1,h2,h3]
   exact ⟨rfl,h4⟩
theorem vJ: ∀(c d:AV) {R:Type} (r:R) (v:YU c R),fw c d r=some v->(mD c v).1.map Mi=d.map Mi/\(mD c v).2=r
 | .at a, .at b,R,r,v,h=>by
  obtain ⟨h1,h2⟩:=ku a b r v h
  exact ⟨by show AV.at _=AV.at _;rw [h1],h2⟩
 | .agg cs, .agg ds,R,r,v,h=>by
  obtain ⟨h1,h2⟩:=Zo cs ds r v h
  exact ⟨by show AV.agg _=AV.agg _;rw [h1],h2⟩
 | .Um fr τ y, .Um Ov Iu x,R,r,v,h=>by
  by_cases hc:Iu=τ/\Ov=fr
  ·obtain ⟨h1,h2⟩:=hc
   subst h1;subst h2
   have h3:some ((x,r):Iu.den×R)=some v:=by
    have:fw (.Um Ov Iu y) (.Um Ov Iu x) r=some ((x,r):Iu.den×R):=dif_pos ⟨rfl,rfl⟩
    exact this.symm.trans h
   injection h3 with h3
   subst h3;exact ⟨rfl,rfl⟩
  ·have h3:fw (.Um fr τ y) (.Um Ov Iu x) r=none:=dif_neg hc
   rw [h3] at h;cases h
 | .at _, .agg _,_,_,_,h=>nomatch (show none=some _ from h)
 | .at _, .Um _ _ _,_,_,_,h=>nomatch (show none=some _ from h)
 | .agg _, .at _,_,_,_,h=>nomatch (show none=some _ from h)
 | .agg _, .Um _ _ _,_,_,_,h=>nomatch (show none=some _ from h)
 | .Um _ _ _, .at _,_,_,_,h=>nomatch (show none=some _ from h)
 | .Um _ _ _, .agg _,_,_,_,h=>nomatch (show none=some _ from h)
 | .Ht _, .at _,_,_,_,h=>nomatch (show none=some _ from h)
 | .Ht _, .agg _,_,_,_,h=>nomatch (show none=some _ from h)
 | .Ht _, .Um _ _ _,_,_,_,h=>nomatch (show none=some _ from h)
 | .Ht _, .Ht _,_,_,_,h=>nomatch (show none=some _ from h)
 | .at _, .Ht _,_,_,_,h=>nomatch (show none=some _ from h)
 | .agg _, .Ht _,_,_,_,h=>nomatch (show none=some _ from h)
 | .Um _ _ _, .Ht _,_,_,_,h=>nomatch (show none=some _ from h)
theorem xh: ∀(c d:OB) {R:Type} (r:R) (v:obV c R),Mm c d r=some v->(nO c v).1.map Mi=d.map Mi/\(nO c v).2=r
 | .arr fr tr e tid ys, .arr Ov NV e' Nr xs,R,r,v,h=>by
  by_cases hc:e'=e/\Ov=fr/\NV=tr/\Nr=tid
  ·obtain ⟨h1,h2,h3,h4⟩:=hc
   subst h1;subst h2;subst h3;subst h4
   have h3:some ((xs,r):List e'.den×R)=some v:=by
    have:Mm (.arr Ov NV e' Nr ys) (.arr Ov NV e' Nr xs) r=some ((xs,r):List e'.den×R):=dif_pos ⟨rfl,rfl,rfl,rfl⟩
    exact this.symm.trans h
   injection h3 with h3
   subst h3;exact ⟨rfl,rfl⟩
  ·have h3:Mm (.arr fr tr e tid ys) (.arr Ov NV e' Nr xs) r=none:=dif_neg hc
   rw [h3] at h;cases h
 | .Cz e tid ys, .Cz e' Nr xs,R,r,v,h=>by
  by_cases hc:e'=e/\Nr=tid
  ·obtain ⟨h1,h4⟩:=hc
   subst h1;subst h4
   have h3:some ((xs,r):List e'.den×R)=some v:=by
    have:Mm (.Cz e' Nr ys) (.Cz e' Nr xs) r=some ((xs,r):List e'.den×R):=dif_pos ⟨rfl,rfl⟩
    exact this.symm.trans h
   injection h3 with h3
   subst h3;exact ⟨rfl,rfl⟩
  ·have h3:Mm (.Cz e tid ys) (.Cz e' Nr xs) r=none:=dif_neg hc
   rw [h3] at h;cases h
 | .Oj vt m, .Oj ZN m',R,r,v,h=>by
  by_cases hc:ZN=vt
  ·subst hc
   have h3:some ((m',r):(ByteArray->Option ZN.den)×R)=some v:=by
    have:Mm (.Oj ZN m) (.Oj ZN m') r=some ((m',r):(ByteArray->Option ZN.den)×R):=dif_pos rfl
    exact this.symm.trans h
   injection h3 with h3
   subst h3;exact ⟨rfl,rfl⟩
  ·have h3:Mm (.Oj vt m) (.Oj ZN m') r=none:=dif_neg hc
   rw [h3] at h;cases h
 | .var t vs, .var t' us,R,r,v,h=>by
  by_cases hc:t'=t
  ·subst hc
   have h0:Mm (.var t' vs) (.var t' us) r=Ls vs us r:=if_pos rfl
   rw [h0] at h
   obtain ⟨h1,h2⟩:=Zo vs us r v h
   exact ⟨by show OB.var _ _=OB.var _ _;rw [h1],h2⟩
  ·have h3:Mm (.var t vs) (.var t' us) r=none:=if_neg hc
   rw [h3] at h;cases h
 | .Ah e te ys out none, .Ah e' Kz xs bC none,R,r,v,h=>by
  by_cases hc:e'=e/\Kz=te/\bC=out
  ·obtain ⟨h1,h2,h4⟩:=hc
   subst h1;subst h2;subst h4
   have h3:some ((xs,r):List (List e'.den)×R)=some v:=by
    have:Mm (.Ah e' Kz ys bC none) (.Ah e' Kz xs bC none) r=some ((xs,r):List (List e'.den)×R):=dif_pos ⟨rfl,rfl,rfl⟩
    exact this.symm.trans h
   injection h3 with h3
   subst h3;exact ⟨rfl,rfl⟩
  ·have h3:Mm (.Ah e te ys out none) (.Ah e' Kz xs bC none) r=none:=dif_neg hc
   rw [h3] at h;cases h
 | .Ah e te ys out (some p), .Ah e' Kz xs bC (some p'),R,r,v,h=>by
  by_cases hc:e'=e/\Kz=te/\bC=out/\p'.1=p.1
  ·obtain ⟨h1,h2,h4,h5⟩:=hc
   subst h1;subst h2;subst h4
   have h3:some ((xs,p'.2,r):List (List e'.den)×(Nat×R))=some v:=by
    have:Mm (.Ah e' Kz ys bC (some p)) (.Ah e' Kz xs bC (some p')) r=some ((xs,p'.2,r):List (List e'.den)×(Nat×R)):=dif_pos ⟨rfl,rfl,rfl,h5⟩
    exact this.symm.trans h
   injection h3 with h3
   subst h3
   refine ⟨?_,rfl⟩
   show OB.Ah e' Kz xs bC (some (p.1,p'.2))=OB.Ah e' Kz xs bC (some p')
   rw [<-h5]
  ·have h3:Mm (.Ah e te ys out (some p)) (.Ah e' Kz xs bC (some p')) r=none:=dif_neg hc
   rw [h3] at h;cases h
 | .Ah _ _ _ _ none, .Ah _ _ _ _ (some _),_,_,_,h=>nomatch (show none=some _ from h)
 | .Ah _ _ _ _ (some _), .Ah _ _ _ _ none,_,_,_,h=>nomatch (show none=some _ from h)
 | .Ah _ _ _ _ none, .arr _ _ _ _ _,_,_,_,h=>nomatch (show none=some _ from h)
 | .Ah _ _ _ _ none, .Cz _ _ _,_,_,_,h=>nomatch (show none=some _ from h)
 | .Ah _ _ _ _ none, .var _ _,_,_,_,h=>nomatch (show none=some _ from h)
 | .Ah _ _ _ _ none, .Oj _ _,_,_,_,h=>nomatch (show none=some _ from h)
 | .Ah _ _ _ _ (some _), .arr _ _ _ _ _,_,_,_,h=>nomatch (show none=some _ from h)
 | .Ah _ _ _ _ (some _), .Cz _ _ _,_,_,_,h=>nomatch (show none=some _ from h)
 | .Ah _ _ _ _ (some _), .var _ _,_,_,_,h=>nomatch (show none=some _ from h)
 | .Ah _ _ _ _ (some _), .Oj _ _,_,_,_,h=>nomatch (show none=some _ from h)
 | .arr _ _ _ _ _, .Ah _ _ _ _ _,_,_,_,h=>nomatch (show none=some _ from h)
 | .Cz _ _ _, .Ah _ _ _ _ _,_,_,_,h=>nomatch (show none=some _ from h)
 | .var _ _, .Ah _ _ _ _ _,_,_,_,h=>nomatch (show none=some _ from h)
 | .Oj _ _, .Ah _ _ _ _ _,_,_,_,h=>nomatch (show none=some _ from h)
 | .arr _ _ _ _ _, .var _ _,_,_,_,h=>nomatch (show none=some _ from h)
 | .arr _ _ _ _ _, .Cz _ _ _,_,_,_,h=>nomatch (show none=some _ from h)
 | .arr _ _ _ _ _, .Oj _ _,_,_,_,h=>nomatch (show none=some _ from h)
 | .Cz _ _ _, .var _ _,_,_,_,h=>nomatch (show none=some _ from h)
 | .Cz _ _ _, .arr _ _ _ _ _,_,_,_,h=>nomatch (show none=some _ from h)
 | .Cz _ _ _, .Oj _ _,_,_,_,h=>nomatch (show none=some _ from h)
 | .Oj _ _, .var _ _,_,_,_,h=>nomatch (show none=some _ from h)
 | .Oj _ _, .arr _ _ _ _ _,_,_,_,h=>nomatch (show none=some _ from h)
 | .Oj _ _, .Cz _ _ _,_,_,_,h=>nomatch (show none=some _ from h)
 | .var _ _, .arr _ _ _ _ _,_,_,_,h=>nomatch (show none=some _ from h)
 | .var _ _, .Cz _ _ _,_,_,_,h=>nomatch (show none=some _ from h)
 | .var _ _, .Oj _ _,_,_,_,h=>nomatch (show none=some _ from h)
theorem fa: ∀(l m:List AV) {R:Type} (r:R) (v:lg l R),Jj l m r=some v->(Pk l v).1.map (·.map Mi)=m.map (·.map Mi)/\(Pk l v).2=r
 | [],[],R,r,v,h=>by simp only [Jj] at h;injection h with h;subst h;exact ⟨rfl,rfl⟩
 | [],_::_,R,r,v,h=>by simp [Jj] at h
 |_::_,[],R,r,v,h=>by simp [Jj] at h
 |c::l,d::m,R,r,v,h=>by
  simp only [Jj] at h
  cases hr:Jj l m r with
  |none=>rw [hr] at h;cases h
  |some r'=>
   rw [hr] at h
   obtain ⟨h1,h2⟩:=vJ c d r' v h
   obtain ⟨h3,h4⟩:=fa l m r r' hr
   simp only [Pk,List.map_cons]
   rw [h1,h2,h3]
   exact ⟨rfl,h4⟩
theorem eF: ∀(l m:List (Nat×OB)) {R:Type} (r:R) (v:rj l R),Ki l m r=some v->(Yn l v).1.map (λp=>(p.1,p.2.map Mi))=m.map (λp=>(p.1,p.2.map Mi))/\(Yn l v).2=r
 | [],[],R,r,v,h=>by simp only [Ki] at h;injection h with h;subst h;exact ⟨rfl,rfl⟩
 | [],_::_,R,r,v,h=>by simp [Ki] at h
 |_::_,[],R,r,v,h=>by simp [Ki] at h
 |c::l,d::m,R,r,v,h=>by
  simp only [Ki] at h
  split at h
  ·rename_i hk
   cases hr:Ki l m r with
   |none=>rw [hr] at h;cases h
   |some r'=>
    rw [hr] at h
    obtain ⟨h1,h2⟩:=xh c.2 d.2 r' v h
    obtain ⟨h3,h4⟩:=eF l m r r' hr
    simp only [Yn,List.map_cons]
    rw [h1,h2,h3,hk]
    exact ⟨rfl,h4⟩
  ·cases h
theorem da {s t:St} {v:stV s} (h:cZ s t=some v):(cY s v).Gf Mi=t.Gf Mi:=by
 unfold cZ at h
 cases hr:Ki s.heap t.heap () with
 |none=>rw [hr] at h;cases h
 |some r=>
  rw [hr] at h
  obtain ⟨h1,h2⟩:=fa s.tmps t.tmps r v h
  obtain ⟨h3,_⟩:=eF s.heap t.heap () r hr
  simp only [cY,St.Gf]
  rw [h1,h2,h3]
theorem kv: ∀(c:AC) {R:Type} (r:R),jd c c r=some (CJ c r):=by
 intro c R r
 cases c<;>simp [jd,CJ]
theorem Zp: ∀(l:List AC) {R:Type} (r:R),Ls l l r=some (mq l r)
 | [],_,_=>rfl
 |c::l,_,r=>by simp only [Ls,Zp l r,mq];exact kv c _
def AV.eP:AV->Bool
 | .Ht _=>false
 |_=>true
theorem vK: ∀(c:AV),c.eP=true-> ∀ {R:Type} (r:R),fw c c r=some (RV c r):=by
 intro c hn R r
 cases c with
 |Ht l=>cases hn
 | «at»a=>exact kv a r
 |agg cs=>exact Zp cs r
 |Um fr τ x=>exact dif_pos ⟨rfl,rfl⟩
theorem xj: ∀(c:OB) {R:Type} (r:R),Mm c c r=some (TQ c r):=by
 intro c R r
 cases c with
 |arr fr tr e t xs=>exact dif_pos ⟨rfl,rfl,rfl,rfl⟩
 |Cz e t xs=>exact dif_pos ⟨rfl,rfl⟩
 |Oj v m=>exact dif_pos rfl
 |Ah e te rows out kp=>
  cases kp with
  |none=>exact dif_pos ⟨rfl,rfl,rfl⟩
  |some p=>exact dif_pos ⟨rfl,rfl,rfl,rfl⟩
 |var t vs=>
  have h0:Mm (.var t vs) (.var t vs) r=Ls vs vs r:=if_pos rfl
  exact h0.trans (Zp vs r)
theorem fb: ∀(l:List AV),(∀c∈l,c.eP=true)-> ∀ {R:Type} (r:R),Jj l l r=some (mf l r)
 | [],_,_,_=>rfl
 |c::l,h,_,r=>by simp only [Jj,fb l (λc hc=>h c (List.mem_cons_of_mem _ hc)) r,mf];exact vK c (h c (by simp)) _
theorem eG: ∀(l:List (Nat×OB)) {R:Type} (r:R),Ki l l r=some (m5 l r)
 | [],_,_=>rfl
 |c::l,_,r=>by simp only [Ki,if_true,eG l r,m5];exact xj c.2 _
theorem l8 (s:St) (h: ∀c∈s.tmps,c.eP=true):cZ s s=some (DZ s):=by
 simp only [cZ,eG,DZ]
 exact fb _ h _
theorem As {α:Type} {o:Option α} {K:α->Prop} :Dw o K↔ ∃x,o=some x/\K x:=by
 unfold Dw
 cases o with
 |none=>simp
 |some x=>simp
theorem gD: ∀(l m:List AC),l.map Mi=m.map Mi->l.flatMap Up=m.flatMap Up->l=m
 | [],[],_,_=>rfl
 | [],_::_,h,_=>by simp at h
 |_::_,[],h,_=>by simp at h
 |c::l,d::m,h,ho=>by
  simp only [List.map_cons,List.cons.injEq] at h
  simp only [List.flatMap_cons] at ho
  have hcd:c=d/\l.flatMap Up=m.flatMap Up:=by
   cases c<;>cases d<;>first|(cases h.1;done)|skip
   all_goals first
    |(obtain ⟨h1,_⟩:=h
      simp only [Mi,AC.own.injEq] at h1
      simp only [Up,List.cons_append,List.nil_append,List.cons.injEq,Prod.mk.injEq] at ho
      exact ⟨by rw [h1.1,ho.1.1,ho.1.2],ho.2⟩)
    |exact ⟨h.1,by simpa only [Up,List.nil_append] using ho⟩
  rw [hcd.1,gD l m h.2 hcd.2]
theorem iy: ∀(l m:List AC),l.map Mi=m.map Mi->(l.flatMap Up).length=(m.flatMap Up).length
 | [],[],_=>rfl
 | [],_::_,h=>by simp at h
 |_::_,[],h=>by simp at h
 |c::l,d::m,h=>by
  simp only [List.map_cons,List.cons.injEq] at h
  simp only [List.flatMap_cons,List.length_append,iy l m h.2]
  congr 1
  cases c<;>cases d<;>first|rfl|(cases h.1;done)
theorem PD {c d:AV} (h:c.map Mi=d.map Mi):(Ur c).length=(Ur d).length/\(Ur c=Ur d->(∀l,c≠ .Ht l)->c=d):=by
 cases c with
 | «at»a=>
  cases d<;>simp only [AV.map,AV.at.injEq,reduceCtorEq] at h
  rename_i b
  have h1: [a].map Mi= [b].map Mi:=by simp [h]
  refine ⟨by simpa [Ur] using iy [a] [b] h1,λho _=>?_⟩
  have:=gD [a] [b] h1 (by simpa [Ur] using ho)
  simpa using this
 |agg cs=>
  cases d<;>simp only [AV.map,AV.agg.injEq,reduceCtorEq] at h
  rename_i ds
  exact ⟨iy cs ds h,λho _=>by rw [gD cs ds h ho]⟩
 |Um fr τ x=>
  cases d<;>simp only [AV.map,reduceCtorEq] at h
  exact ⟨rfl,λ_ _=>h⟩
 |Ht l=>
  cases d<;>simp only [AV.map,reduceCtorEq] at h
  exact ⟨rfl,λ_ hn=>absurd rfl (hn l)⟩
theorem vM: ∀(l m:List AV),l.map (·.map Mi)=m.map (·.map Mi)->(∀c∈l,c.eP=true)->(l.flatMap Ur).length=(m.flatMap Ur).length/\(l.flatMap Ur=m.flatMap Ur->l=m)
 | [],[],_,_=>⟨rfl,λ_=>rfl⟩
 | [],_::_,h,_=>by simp at h
 |_::_,[],h,_=>by simp at h
 |c::l,d::m,h,hn=>by
  simp only [List.map_cons,List.cons.injEq] at h
  obtain ⟨h1,h2⟩:=PD h.1
  obtain ⟨h3,h4⟩:=vM l m h.2 λc hc=>hn c (List.mem_cons_of_mem _ hc)
  refine ⟨by simp only [List.flatMap_cons,List.length_append,h1,h3],λho=>?_⟩
  simp only [List.flatMap_cons] at ho
  obtain ⟨g1,g2⟩:=List.append_inj ho h1
  have hnt: ∀l',c≠ .Ht l':= λl' e=>by
   have:=hn c (by simp)
   rw [e] at this
   cases this
  rw [h2 g1 hnt,h4 g2]
theorem QP {c d:OB} (h:c.map Mi=d.map Mi):(fV c).length=(fV d).length/\(fV c=fV d->c=d):=by
 cases c with
 |var t vs=>
  cases d<;>simp only [OB.map,OB.var.injEq,reduceCtorEq] at h
  rename_i t' us
  obtain ⟨rfl,h⟩:=h
  exact ⟨iy vs us h,λho=>by rw [gD vs us h ho]⟩
 |_=>cases d<;>simp only [OB.map,reduceCtorEq] at h<;>exact ⟨rfl,λ_=>h⟩
theorem rk: ∀(l m:List (Nat×OB)),l.map (λp=>(p.1,p.2.map Mi))=m.map (λp=>(p.1,p.2.map Mi))->(l.flatMap λp=>fV p.2)=(m.flatMap λp=>fV p.2)->l=m
 | [],[],_,_=>rfl
 | [],_::_,h,_=>by simp at h
 |_::_,[],h,_=>by simp at h
 |(k,c)::l,(k',d)::m,h,ho=>by
  simp only [List.map_cons,List.cons.injEq,Prod.mk.injEq] at h
  simp only [List.flatMap_cons] at ho
  obtain ⟨h1,h2⟩:=QP h.1.2
  obtain ⟨g1,g2⟩:=List.append_inj ho h1
  rw [h.1.1,h2 g1,rk l m h.2 g2]
theorem vL (l:List (Bool×List AC)) (e:AV) {R:Type} (r:R):fw (.Ht l) e r=none:=by cases e<;>rfl
theorem sF {d e:AV} {R:Type} {r:R} {v:YU d R} (h:fw d e r=some v):d.eP=true:=by
 cases d with
 |Ht l=>rw [vL] at h;cases h
 |_=>rfl
theorem df: ∀(l m:List AV) {R:Type} (r:R) (v:lg l R),Jj l m r=some v-> ∀c∈l,c.eP=true
 | [],_,_,_,_,_,c,hc=>by cases hc
 |d::l,[],_,r,v,h,c,hc=>by cases h
 |d::l,e::m,R,r,v,h,c,hc=>by
  simp only [Jj] at h
  cases hr:Jj l m r with
  |none=>rw [hr] at h;cases h
  |some r'=>
   rw [hr] at h
   rcases List.mem_cons.1 hc with hc|hc
   ·rw [hc];exact sF h
   ·exact df l m r r' hr c hc
theorem r6 {s0 s:St} (h:eqW s0 s):s=s0:=by
 obtain ⟨ho,h⟩:=h
 obtain ⟨v,h1,h2⟩:=As.1 h
 subst h2
 have hn: ∀c∈s0.tmps,c.eP=true:=by
  unfold cZ at h1
  cases hr:Ki s0.heap s.heap () with
  |none=>rw [hr] at h1;cases h1
  |some r=>rw [hr] at h1;exact df _ _ _ _ h1
 have e:=(da h1).symm.trans (da (l8 s0 hn))
 simp only [St.Gf,St.mk.injEq] at e
 obtain ⟨e1,e2⟩:=e
 obtain ⟨l1,l2⟩:=vM s0.tmps s.tmps e1.symm hn
 unfold BK at ho
 obtain ⟨g1,g2⟩:=List.append_inj ho l1.symm
 have k1:=l2 g1.symm
 have k2:=rk s.heap s0.heap e2 g2
 cases s;cases s0
 simp only at k1 k2
 rw [k1,k2]
end Go.Proofs.YtfolipnappekaaaGreat
