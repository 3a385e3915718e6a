/-
  Part 32 of the proof that the statement FnExactSolutionsAtDepth holds.
-/
import Derived.Test.YtfolipnappekaaaGreatCSolutionsAtDepth30
namespace Go.Proofs.YtfolipnappekaaaGreat
open Go.RowKit
def Nq:AC->AC
 | .own l _ _=> .own l 0 0
 |c=>c
theorem mB: ∀(c d:AC) {R:Type} (r:R) (v:acV c R),lf c d r=some v->Nq (il c v).1=Nq d/\(il c v).2=r:=by
 intro c d R r v h
 cases c<;>cases d<;>simp only [lf] at h<;>first|(cases h;first|done|exact ⟨rfl,rfl⟩)|skip
 all_goals
  split at h
  ·rename_i hc
   first
    |(obtain ⟨h1,h2⟩:=hc;subst h1;subst h2;injection h with h;subst h;exact ⟨rfl,rfl⟩)
    |(subst hc;injection h with h;subst h;exact ⟨rfl,rfl⟩)
  ·cases h
theorem bk: ∀(l m:List AC) {R:Type} (r:R) (v:CP l R),Na l m r=some v->(Vp l v).1.map Nq=m.map Nq/\(Vp l v).2=r
 | [],[],R,r,v,h=>by simp only [Na] at h;injection h with h;subst h;exact ⟨rfl,rfl⟩
 | [],_::_,R,r,v,h=>by simp [Na] at h
 |_::_,[],R,r,v,h=>by simp [Na] at h
 |c::l,d::m,R,r,v,h=>by
  simp only [Na] at h
  cases hr:Na l m r with
  |none=>rw [hr] at h;cases h
  |some r'=>
   rw [hr] at h
   obtain ⟨h1,h2⟩:=mB c d r' v h
   obtain ⟨h3,h4⟩:=bk l m r r' hr
   simp only [Vp,List.map_cons]
   rw [h1,h2,h3]
   exact ⟨rfl,h4⟩
theorem yi: ∀(c d:AV) {R:Type} (r:R) (v:avV c R),iv c d r=some v->(p8 c v).1.map Nq=d.map Nq/\(p8 c v).2=r
 | .at a, .at b,R,r,v,h=>by
  obtain ⟨h1,h2⟩:=mB a b r v h
  exact ⟨by show AV.at _=AV.at _;rw [h1],h2⟩
 | .agg cs, .agg ds,R,r,v,h=>by
  obtain ⟨h1,h2⟩:=bk cs ds r v h
  exact ⟨by show AV.agg _=AV.agg _;rw [h1],h2⟩
 | .Wv fr τ y, .Wv Qs Jp x,R,r,v,h=>by
  by_cases hc:Jp=τ/\Qs=fr
  ·obtain ⟨h1,h2⟩:=hc
   subst h1;subst h2
   have h3:some ((x,r):Jp.den×R)=some v:=by
    have:iv (.Wv Qs Jp y) (.Wv Qs Jp x) r=some ((x,r):Jp.den×R):=dif_pos ⟨rfl,rfl⟩
    exact this.symm.trans h
   injection h3 with h3
   subst h3;exact ⟨rfl,rfl⟩
  ·have h3:iv (.Wv fr τ y) (.Wv Qs Jp x) r=none:=dif_neg hc
   rw [h3] at h;cases h
 | .at _, .agg _,_,_,_,h=>nomatch (show none=some _ from h)
 | .at _, .Wv _ _ _,_,_,_,h=>nomatch (show none=some _ from h)
 | .agg _, .at _,_,_,_,h=>nomatch (show none=some _ from h)
 | .agg _, .Wv _ _ _,_,_,_,h=>nomatch (show none=some _ from h)
 | .Wv _ _ _, .at _,_,_,_,h=>nomatch (show none=some _ from h)
 | .Wv _ _ _, .agg _,_,_,_,h=>nomatch (show none=some _ from h)
 | .Ih _, .at _,_,_,_,h=>nomatch (show none=some _ from h)
 | .Ih _, .agg _,_,_,_,h=>nomatch (show none=some _ from h)
 | .Ih _, .Wv _ _ _,_,_,_,h=>nomatch (show none=some _ from h)
 | .Ih _, .Ih _,_,_,_,h=>nomatch (show none=some _ from h)
 | .at _, .Ih _,_,_,_,h=>nomatch (show none=some _ from h)
 | .agg _, .Ih _,_,_,_,h=>nomatch (show none=some _ from h)
 | .Wv _ _ _, .Ih _,_,_,_,h=>nomatch (show none=some _ from h)
theorem zH: ∀(c d:OB) {R:Type} (r:R) (v:obV c R),Nu c d r=some v->(qj c v).1.map Nq=d.map Nq/\(qj c v).2=r
 | .arr fr tr e tid ys, .arr Qs VI e' Pn xs,R,r,v,h=>by
  by_cases hc:e'=e/\Qs=fr/\VI=tr/\Pn=tid
  ·obtain ⟨h1,h2,h3,h4⟩:=hc
   subst h1;subst h2;subst h3;subst h4
   have h3:some ((xs,r):List e'.den×R)=some v:=by
    have:Nu (.arr Qs VI e' Pn ys) (.arr Qs VI e' Pn xs) r=some ((xs,r):List e'.den×R):=dif_pos ⟨rfl,rfl,rfl,rfl⟩
    exact this.symm.trans h
   injection h3 with h3
   subst h3;exact ⟨rfl,rfl⟩
  ·have h3:Nu (.arr fr tr e tid ys) (.arr Qs VI e' Pn xs) r=none:=dif_neg hc
   rw [h3] at h;cases h
 | .Dg e tid ys, .Dg e' Pn xs,R,r,v,h=>by
  by_cases hc:e'=e/\Pn=tid
  ·obtain ⟨h1,h4⟩:=hc
   subst h1;subst h4
   have h3:some ((xs,r):List e'.den×R)=some v:=by
    have:Nu (.Dg e' Pn ys) (.Dg e' Pn xs) r=some ((xs,r):List e'.den×R):=dif_pos ⟨rfl,rfl⟩
    exact this.symm.trans h
   injection h3 with h3
   subst h3;exact ⟨rfl,rfl⟩
  ·have h3:Nu (.Dg e tid ys) (.Dg e' Pn xs) r=none:=dif_neg hc
   rw [h3] at h;cases h
 | .Qh vt m, .Qh vt' m',R,r,v,h=>by
  by_cases hc:vt'=vt
  ·subst hc
   have h3:some ((m',r):(ByteArray->Option vt'.den)×R)=some v:=by
    have:Nu (.Qh vt' m) (.Qh vt' m') r=some ((m',r):(ByteArray->Option vt'.den)×R):=dif_pos rfl
    exact this.symm.trans h
   injection h3 with h3
   subst h3;exact ⟨rfl,rfl⟩
  ·have h3:Nu (.Qh vt m) (.Qh vt' m') r=none:=dif_neg hc
   rw [h3] at h;cases h
 | .var t vs, .var t' us,R,r,v,h=>by
  by_cases hc:t'=t
  ·subst hc
   have h0:Nu (.var t' vs) (.var t' us) r=Na vs us r:=if_pos rfl
   rw [h0] at h
   obtain ⟨h1,h2⟩:=bk vs us r v h
   exact ⟨by show OB.var _ _=OB.var _ _;rw [h1],h2⟩
  ·have h3:Nu (.var t vs) (.var t' us) r=none:=if_neg hc
   rw [h3] at h;cases h
 | .Al e te ys out none, .Al e' Mc xs cT none,R,r,v,h=>by
  by_cases hc:e'=e/\Mc=te/\cT=out
  ·obtain ⟨h1,h2,h4⟩:=hc
   subst h1;subst h2;subst h4
   have h3:some ((xs,r):List (List e'.den)×R)=some v:=by
    have:Nu (.Al e' Mc ys cT none) (.Al e' Mc xs cT none) r=some ((xs,r):List (List e'.den)×R):=dif_pos ⟨rfl,rfl,rfl⟩
    exact this.symm.trans h
   injection h3 with h3
   subst h3;exact ⟨rfl,rfl⟩
  ·have h3:Nu (.Al e te ys out none) (.Al e' Mc xs cT none) r=none:=dif_neg hc
   rw [h3] at h;cases h
 | .Al e te ys out (some p), .Al e' Mc xs cT (some p'),R,r,v,h=>by
  by_cases hc:e'=e/\Mc=te/\cT=out/\p'.1=p.1
  ·obtain ⟨h1,h2,h4,h5⟩:=hc
   subst h1;subst h2;subst h4
   have h3:some ((xs,p'.2,r):List (List e'.den)×(Nat×R))=some v:=by
    have:Nu (.Al e' Mc ys cT (some p)) (.Al e' Mc xs cT (some p')) r=some ((xs,p'.2,r):List (List e'.den)×(Nat×R)):=dif_pos ⟨rfl,rfl,rfl,h5⟩
    exact this.symm.trans h
   injection h3 with h3
   subst h3
   refine ⟨?_,rfl⟩
   show OB.Al e' Mc xs cT (some (p.1,p'.2))=OB.Al e' Mc xs cT (some p')
   rw [<-h5]
  ·have h3:Nu (.Al e te ys out (some p)) (.Al e' Mc xs cT (some p')) r=none:=dif_neg hc
   rw [h3] at h;cases h
 | .Al _ _ _ _ none, .Al _ _ _ _ (some _),_,_,_,h=>nomatch (show none=some _ from h)
 | .Al _ _ _ _ (some _), .Al _ _ _ _ none,_,_,_,h=>nomatch (show none=some _ from h)
 | .Al _ _ _ _ none, .arr _ _ _ _ _,_,_,_,h=>nomatch (show none=some _ from h)
 | .Al _ _ _ _ none, .Dg _ _ _,_,_,_,h=>nomatch (show none=some _ from h)
 | .Al _ _ _ _ none, .var _ _,_,_,_,h=>nomatch (show none=some _ from h)
 | .Al _ _ _ _ none, .Qh _ _,_,_,_,h=>nomatch (show none=some _ from h)
 | .Al _ _ _ _ (some _), .arr _ _ _ _ _,_,_,_,h=>nomatch (show none=some _ from h)
 | .Al _ _ _ _ (some _), .Dg _ _ _,_,_,_,h=>nomatch (show none=some _ from h)
 | .Al _ _ _ _ (some _), .var _ _,_,_,_,h=>nomatch (show none=some _ from h)
 | .Al _ _ _ _ (some _), .Qh _ _,_,_,_,h=>nomatch (show none=some _ from h)
 | .arr _ _ _ _ _, .Al _ _ _ _ _,_,_,_,h=>nomatch (show none=some _ from h)
 | .Dg _ _ _, .Al _ _ _ _ _,_,_,_,h=>nomatch (show none=some _ from h)
 | .var _ _, .Al _ _ _ _ _,_,_,_,h=>nomatch (show none=some _ from h)
 | .Qh _ _, .Al _ _ _ _ _,_,_,_,h=>nomatch (show none=some _ from h)
 | .arr _ _ _ _ _, .var _ _,_,_,_,h=>nomatch (show none=some _ from h)
 | .arr _ _ _ _ _, .Dg _ _ _,_,_,_,h=>nomatch (show none=some _ from h)
 | .arr _ _ _ _ _, .Qh _ _,_,_,_,h=>nomatch (show none=some _ from h)
 | .Dg _ _ _, .var _ _,_,_,_,h=>nomatch (show none=some _ from h)
 | .Dg _ _ _, .arr _ _ _ _ _,_,_,_,h=>nomatch (show none=some _ from h)
 | .Dg _ _ _, .Qh _ _,_,_,_,h=>nomatch (show none=some _ from h)
 | .Qh _ _, .var _ _,_,_,_,h=>nomatch (show none=some _ from h)
 | .Qh _ _, .arr _ _ _ _ _,_,_,_,h=>nomatch (show none=some _ from h)
 | .Qh _ _, .Dg _ _ _,_,_,_,h=>nomatch (show none=some _ from h)
 | .var _ _, .arr _ _ _ _ _,_,_,_,h=>nomatch (show none=some _ from h)
 | .var _ _, .Dg _ _ _,_,_,_,h=>nomatch (show none=some _ from h)
 | .var _ _, .Qh _ _,_,_,_,h=>nomatch (show none=some _ from h)
theorem hJ: ∀(l m:List AV) {R:Type} (r:R) (v:nG l R),Kf l m r=some v->(Rj l v).1.map (·.map Nq)=m.map (·.map Nq)/\(Rj l v).2=r
 | [],[],R,r,v,h=>by simp only [Kf] at h;injection h with h;subst h;exact ⟨rfl,rfl⟩
 | [],_::_,R,r,v,h=>by simp [Kf] at h
 |_::_,[],R,r,v,h=>by simp [Kf] at h
 |c::l,d::m,R,r,v,h=>by
  simp only [Kf] at h
  cases hr:Kf l m r with
  |none=>rw [hr] at h;cases h
  |some r'=>
   rw [hr] at h
   obtain ⟨h1,h2⟩:=yi c d r' v h
   obtain ⟨h3,h4⟩:=hJ l m r r' hr
   simp only [Rj,List.map_cons]
   rw [h1,h2,h3]
   exact ⟨rfl,h4⟩
theorem gG: ∀(l m:List (Nat×OB)) {R:Type} (r:R) (v:u5 l R),Lf l m r=some v->(aF l v).1.map (λp=>(p.1,p.2.map Nq))=m.map (λp=>(p.1,p.2.map Nq))/\(aF l v).2=r
 | [],[],R,r,v,h=>by simp only [Lf] at h;injection h with h;subst h;exact ⟨rfl,rfl⟩
 | [],_::_,R,r,v,h=>by simp [Lf] at h
 |_::_,[],R,r,v,h=>by simp [Lf] at h
 |c::l,d::m,R,r,v,h=>by
  simp only [Lf] at h
  split at h
  ·rename_i hk
   cases hr:Lf l m r with
   |none=>rw [hr] at h;cases h
   |some r'=>
    rw [hr] at h
    obtain ⟨h1,h2⟩:=zH c.2 d.2 r' v h
    obtain ⟨h3,h4⟩:=gG l m r r' hr
    simp only [aF,List.map_cons]
    rw [h1,h2,h3,hk]
    exact ⟨rfl,h4⟩
  ·cases h
theorem eE {s t:St} {v:stV s} (h:eD s t=some v):(eC s v).Gl Nq=t.Gl Nq:=by
 unfold eD at h
 cases hr:Lf s.heap t.heap () with
 |none=>rw [hr] at h;cases h
 |some r=>
  rw [hr] at h
  obtain ⟨h1,h2⟩:=hJ s.tmps t.tmps r v h
  obtain ⟨h3,_⟩:=gG s.heap t.heap () r hr
  simp only [eC,St.Gl]
  rw [h1,h2,h3]
theorem mC: ∀(c:AC) {R:Type} (r:R),lf c c r=some (IJ c r):=by
 intro c R r
 cases c<;>simp [lf,IJ]
theorem bl: ∀(l:List AC) {R:Type} (r:R),Na l l r=some (oU l r)
 | [],_,_=>rfl
 |c::l,_,r=>by simp only [Na,bl l r,oU];exact mC c _
def AV.gQ:AV->Bool
 | .Ih _=>false
 |_=>true
theorem yj: ∀(c:AV),c.gQ=true-> ∀ {R:Type} (r:R),iv c c r=some (ZL c r):=by
 intro c hn R r
 cases c with
 |Ih l=>cases hn
 | «at»a=>exact mC a r
 |agg cs=>exact bl cs r
 |Wv fr τ x=>exact dif_pos ⟨rfl,rfl⟩
theorem zI: ∀(c:OB) {R:Type} (r:R),Nu c c r=some (Ab1 c r):=by
 intro c R r
 cases c with
 |arr fr tr e t xs=>exact dif_pos ⟨rfl,rfl,rfl,rfl⟩
 |Dg e t xs=>exact dif_pos ⟨rfl,rfl⟩
 |Qh v m=>exact dif_pos rfl
 |Al e te rows out kp=>
  cases kp with
  |none=>exact dif_pos ⟨rfl,rfl,rfl⟩
  |some p=>exact dif_pos ⟨rfl,rfl,rfl,rfl⟩
 |var t vs=>
  have h0:Nu (.var t vs) (.var t vs) r=Na vs vs r:=if_pos rfl
  exact h0.trans (bl vs r)
theorem hY: ∀(l:List AV),(∀c∈l,c.gQ=true)-> ∀ {R:Type} (r:R),Kf l l r=some (oM l r)
 | [],_,_,_=>rfl
 |c::l,h,_,r=>by simp only [Kf,hY l (λc hc=>h c (List.mem_cons_of_mem _ hc)) r,oM];exact yj c (h c (by simp)) _
theorem gH: ∀(l:List (Nat×OB)) {R:Type} (r:R),Lf l l r=some (oC l r)
 | [],_,_=>rfl
 |c::l,_,r=>by simp only [Lf,if_true,gH l r,oC];exact zI c.2 _
theorem nA (s:St) (h: ∀c∈s.tmps,c.gQ=true):eD s s=some (KH s):=by
 simp only [eD,gH,KH]
 exact hY _ h _
theorem As {α:Type} {o:Option α} {K:α->Prop} :Ea o K↔ ∃x,o=some x/\K x:=by
 unfold Ea
 cases o with
 |none=>simp
 |some x=>simp
theorem ji: ∀(l m:List AC),l.map Nq=m.map Nq->l.flatMap Wy=m.flatMap Wy->l=m
 | [],[],_,_=>rfl
 | [],_::_,h,_=>by simp at h
 |_::_,[],h,_=>by simp at h
 |c::l,d::m,h,ho=>by
  simp only [List.map_cons,List.cons.injEq] at h
  simp only [List.flatMap_cons] at ho
  have hcd:c=d/\l.flatMap Wy=m.flatMap Wy:=by
   cases c<;>cases d<;>first|(cases h.1;done)|skip
   all_goals first
    |(obtain ⟨h1,_⟩:=h
      simp only [Nq,AC.own.injEq] at h1
      simp only [Wy,List.cons_append,List.nil_append,List.cons.injEq,Prod.mk.injEq] at ho
      exact ⟨by rw [h1.1,ho.1.1,ho.1.2],ho.2⟩)
    |exact ⟨h.1,by simpa only [Wy,List.nil_append] using ho⟩
  rw [hcd.1,ji l m h.2 hcd.2]
theorem kf: ∀(l m:List AC),l.map Nq=m.map Nq->(l.flatMap Wy).length=(m.flatMap Wy).length
 | [],[],_=>rfl
 | [],_::_,h=>by simp at h
 |_::_,[],h=>by simp at h
 |c::l,d::m,h=>by
  simp only [List.map_cons,List.cons.injEq] at h
  simp only [List.flatMap_cons,List.length_append,kf l m h.2]
  congr 1
  cases c<;>cases d<;>first|rfl|(cases h.1;done)
theorem WR {c d:AV} (h:c.map Nq=d.map Nq):(Xa c).length=(Xa d).length/\(Xa c=Xa d->(∀l,c≠ .Ih l)->c=d):=by
 cases c with
 | «at»a=>
  cases d<;>simp only [AV.map,AV.at.injEq,reduceCtorEq] at h
  rename_i b
  have h1: [a].map Nq= [b].map Nq:=by simp [h]
  refine ⟨by simpa [Xa] using kf [a] [b] h1,λho _=>?_⟩
  have:=ji [a] [b] h1 (by simpa [Xa] using ho)
  simpa using this
 |agg cs=>
  cases d<;>simp only [AV.map,AV.agg.injEq,reduceCtorEq] at h
  rename_i ds
  exact ⟨kf cs ds h,λho _=>by rw [ji cs ds h ho]⟩
 |Wv fr τ x=>
  cases d<;>simp only [AV.map,reduceCtorEq] at h
  exact ⟨rfl,λ_ _=>h⟩
 |Ih l=>
  cases d<;>simp only [AV.map,reduceCtorEq] at h
  exact ⟨rfl,λ_ hn=>absurd rfl (hn l)⟩
theorem yl: ∀(l m:List AV),l.map (·.map Nq)=m.map (·.map Nq)->(∀c∈l,c.gQ=true)->(l.flatMap Xa).length=(m.flatMap Xa).length/\(l.flatMap Xa=m.flatMap Xa->l=m)
 | [],[],_,_=>⟨rfl,λ_=>rfl⟩
 | [],_::_,h,_=>by simp at h
 |_::_,[],h,_=>by simp at h
 |c::l,d::m,h,hn=>by
  simp only [List.map_cons,List.cons.injEq] at h
  obtain ⟨h1,h2⟩:=WR h.1
  obtain ⟨h3,h4⟩:=yl l m h.2 λc hc=>hn c (List.mem_cons_of_mem _ hc)
  refine ⟨by simp only [List.flatMap_cons,List.length_append,h1,h3],λho=>?_⟩
  simp only [List.flatMap_cons] at ho
  obtain ⟨g1,g2⟩:=List.append_inj ho h1
  have hnt: ∀l',c≠ .Ih l':= λl' e=>by
   have:=hn c (by simp)
   rw [e] at this
   cases this
  rw [h2 g1 hnt,h4 g2]
theorem YC {c d:OB} (h:c.map Nq=d.map Nq):(iT c).length=(iT d).length/\(iT c=iT d->c=d):=by
 cases c with
 |var t vs=>
  cases d<;>simp only [OB.map,OB.var.injEq,reduceCtorEq] at h
  rename_i t' us
  obtain ⟨rfl,h⟩:=h
  exact ⟨kf vs us h,λho=>by rw [ji vs us h ho]⟩
 |_=>cases d<;>simp only [OB.map,reduceCtorEq] at h<;>exact ⟨rfl,λ_=>h⟩
theorem u6: ∀(l m:List (Nat×OB)),l.map (λp=>(p.1,p.2.map Nq))=m.map (λp=>(p.1,p.2.map Nq))->(l.flatMap λp=>iT p.2)=(m.flatMap λp=>iT p.2)->l=m
 | [],[],_,_=>rfl
 | [],_::_,h,_=>by simp at h
 |_::_,[],h,_=>by simp at h
 |(k,c)::l,(k',d)::m,h,ho=>by
  simp only [List.map_cons,List.cons.injEq,Prod.mk.injEq] at h
  simp only [List.flatMap_cons] at ho
  obtain ⟨h1,h2⟩:=YC h.1.2
  obtain ⟨g1,g2⟩:=List.append_inj ho h1
  rw [h.1.1,h2 g1,u6 l m h.2 g2]
theorem yk (l:List (Bool×List AC)) (e:AV) {R:Type} (r:R):iv (.Ih l) e r=none:=by cases e<;>rfl
theorem vG {d e:AV} {R:Type} {r:R} {v:avV d R} (h:iv d e r=some v):d.gQ=true:=by
 cases d with
 |Ih l=>rw [yk] at h;cases h
 |_=>rfl
theorem eM: ∀(l m:List AV) {R:Type} (r:R) (v:nG l R),Kf l m r=some v-> ∀c∈l,c.gQ=true
 | [],_,_,_,_,_,c,hc=>by cases hc
 |d::l,[],_,r,v,h,c,hc=>by cases h
 |d::l,e::m,R,r,v,h,c,hc=>by
  simp only [Kf] at h
  cases hr:Kf l m r with
  |none=>rw [hr] at h;cases h
  |some r'=>
   rw [hr] at h
   rcases List.mem_cons.1 hc with hc|hc
   ·rw [hc];exact vG h
   ·exact eM l m r r' hr c hc
theorem eZ {s0 s:St} (h:eqW s0 s):s=s0:=by
 obtain ⟨ho,h⟩:=h
 obtain ⟨v,h1,h2⟩:=As.1 h
 subst h2
 have hn: ∀c∈s0.tmps,c.gQ=true:=by
  unfold eD at h1
  cases hr:Lf s0.heap s.heap () with
  |none=>rw [hr] at h1;cases h1
  |some r=>rw [hr] at h1;exact eM _ _ _ _ h1
 have e:=(eE h1).symm.trans (eE (nA s0 hn))
 simp only [St.Gl,St.mk.injEq] at e
 obtain ⟨e1,e2⟩:=e
 obtain ⟨l1,l2⟩:=yl s0.tmps s.tmps e1.symm hn
 unfold HG at ho
 obtain ⟨g1,g2⟩:=List.append_inj ho l1.symm
 have k1:=l2 g1.symm
 have k2:=u6 s.heap s0.heap e2 g2
 cases s;cases s0
 simp only at k1 k2
 rw [k1,k2]
end Go.Proofs.YtfolipnappekaaaGreat
