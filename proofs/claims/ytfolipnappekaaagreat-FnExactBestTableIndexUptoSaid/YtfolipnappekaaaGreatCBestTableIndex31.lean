/-
  Part 32 of the proof that the statement FnExactBestTableIndex holds.
-/
import Derived.Test.YtfolipnappekaaaGreatCBestTableIndex30
namespace Go.Proofs.YtfolipnappekaaaGreat
open Go.RowKit
def Mj:AC->AC
 | .own l _ _=> .own l 0 0
 |c=>c
theorem kB: ∀(c d:AC) {R:Type} (r:R) (v:YY c R),jk c d r=some v->Mj (fC c v).1=Mj d/\(fC c v).2=r:=by
 intro c d R r v h
 cases c<;>cases d<;>simp only [jk] at h<;>first|(cases h;first|done|exact ⟨rfl,rfl⟩)|skip
 all_goals
  split at h
  ·rename_i hc
   first
    |(obtain ⟨h1,h2⟩:=hc;subst h1;subst h2;injection h with h;subst h;exact ⟨rfl,rfl⟩)
    |(subst hc;injection h with h;subst h;exact ⟨rfl,rfl⟩)
  ·cases h
theorem Zq: ∀(l m:List AC) {R:Type} (r:R) (v:yP l R),Lt l m r=some v->(Tj l v).1.map Mj=m.map Mj/\(Tj l v).2=r
 | [],[],R,r,v,h=>by simp only [Lt] at h;injection h with h;subst h;exact ⟨rfl,rfl⟩
 | [],_::_,R,r,v,h=>by simp [Lt] at h
 |_::_,[],R,r,v,h=>by simp [Lt] at h
 |c::l,d::m,R,r,v,h=>by
  simp only [Lt] at h
  cases hr:Lt l m r with
  |none=>rw [hr] at h;cases h
  |some r'=>
   rw [hr] at h
   obtain ⟨h1,h2⟩:=kB c d r' v h
   obtain ⟨h3,h4⟩:=Zq l m r r' hr
   simp only [Tj,List.map_cons]
   rw [h1,h2,h3]
   exact ⟨rfl,h4⟩
theorem vN: ∀(c d:AV) {R:Type} (r:R) (v:YZ c R),fH c d r=some v->(mL c v).1.map Mj=d.map Mj/\(mL c v).2=r
 | .at a, .at b,R,r,v,h=>by
  obtain ⟨h1,h2⟩:=kB a b r v h
  exact ⟨by show AV.at _=AV.at _;rw [h1],h2⟩
 | .agg cs, .agg ds,R,r,v,h=>by
  obtain ⟨h1,h2⟩:=Zq cs ds r v h
  exact ⟨by show AV.agg _=AV.agg _;rw [h1],h2⟩
 | .Uo fr τ y, .Uo Ox Iu x,R,r,v,h=>by
  by_cases hc:Iu=τ/\Ox=fr
  ·obtain ⟨h1,h2⟩:=hc
   subst h1;subst h2
   have h3:some ((x,r):Iu.den×R)=some v:=by
    have:fH (.Uo Ox Iu y) (.Uo Ox Iu x) r=some ((x,r):Iu.den×R):=dif_pos ⟨rfl,rfl⟩
    exact this.symm.trans h
   injection h3 with h3
   subst h3;exact ⟨rfl,rfl⟩
  ·have h3:fH (.Uo fr τ y) (.Uo Ox Iu x) r=none:=dif_neg hc
   rw [h3] at h;cases h
 | .at _, .agg _,_,_,_,h=>nomatch (show none=some _ from h)
 | .at _, .Uo _ _ _,_,_,_,h=>nomatch (show none=some _ from h)
 | .agg _, .at _,_,_,_,h=>nomatch (show none=some _ from h)
 | .agg _, .Uo _ _ _,_,_,_,h=>nomatch (show none=some _ from h)
 | .Uo _ _ _, .at _,_,_,_,h=>nomatch (show none=some _ from h)
 | .Uo _ _ _, .agg _,_,_,_,h=>nomatch (show none=some _ from h)
 | .Ht _, .at _,_,_,_,h=>nomatch (show none=some _ from h)
 | .Ht _, .agg _,_,_,_,h=>nomatch (show none=some _ from h)
 | .Ht _, .Uo _ _ _,_,_,_,h=>nomatch (show none=some _ from h)
 | .Ht _, .Ht _,_,_,_,h=>nomatch (show none=some _ from h)
 | .at _, .Ht _,_,_,_,h=>nomatch (show none=some _ from h)
 | .agg _, .Ht _,_,_,_,h=>nomatch (show none=some _ from h)
 | .Uo _ _ _, .Ht _,_,_,_,h=>nomatch (show none=some _ from h)
theorem xl: ∀(c d:OB) {R:Type} (r:R) (v:obV c R),Mn c d r=some v->(nV c v).1.map Mj=d.map Mj/\(nV c v).2=r
 | .arr fr tr e tid ys, .arr Ox NY e' Nt xs,R,r,v,h=>by
  by_cases hc:e'=e/\Ox=fr/\NY=tr/\Nt=tid
  ·obtain ⟨h1,h2,h3,h4⟩:=hc
   subst h1;subst h2;subst h3;subst h4
   have h3:some ((xs,r):List e'.den×R)=some v:=by
    have:Mn (.arr Ox NY e' Nt ys) (.arr Ox NY e' Nt xs) r=some ((xs,r):List e'.den×R):=dif_pos ⟨rfl,rfl,rfl,rfl⟩
    exact this.symm.trans h
   injection h3 with h3
   subst h3;exact ⟨rfl,rfl⟩
  ·have h3:Mn (.arr fr tr e tid ys) (.arr Ox NY e' Nt xs) r=none:=dif_neg hc
   rw [h3] at h;cases h
 | .Cz e tid ys, .Cz e' Nt xs,R,r,v,h=>by
  by_cases hc:e'=e/\Nt=tid
  ·obtain ⟨h1,h4⟩:=hc
   subst h1;subst h4
   have h3:some ((xs,r):List e'.den×R)=some v:=by
    have:Mn (.Cz e' Nt ys) (.Cz e' Nt xs) r=some ((xs,r):List e'.den×R):=dif_pos ⟨rfl,rfl⟩
    exact this.symm.trans h
   injection h3 with h3
   subst h3;exact ⟨rfl,rfl⟩
  ·have h3:Mn (.Cz e tid ys) (.Cz e' Nt xs) r=none:=dif_neg hc
   rw [h3] at h;cases h
 | .Ol vt m, .Ol ZS m',R,r,v,h=>by
  by_cases hc:ZS=vt
  ·subst hc
   have h3:some ((m',r):(ByteArray->Option ZS.den)×R)=some v:=by
    have:Mn (.Ol ZS m) (.Ol ZS m') r=some ((m',r):(ByteArray->Option ZS.den)×R):=dif_pos rfl
    exact this.symm.trans h
   injection h3 with h3
   subst h3;exact ⟨rfl,rfl⟩
  ·have h3:Mn (.Ol vt m) (.Ol ZS m') r=none:=dif_neg hc
   rw [h3] at h;cases h
 | .var t vs, .var t' us,R,r,v,h=>by
  by_cases hc:t'=t
  ·subst hc
   have h0:Mn (.var t' vs) (.var t' us) r=Lt vs us r:=if_pos rfl
   rw [h0] at h
   obtain ⟨h1,h2⟩:=Zq vs us r v h
   exact ⟨by show OB.var _ _=OB.var _ _;rw [h1],h2⟩
  ·have h3:Mn (.var t vs) (.var t' us) r=none:=if_neg hc
   rw [h3] at h;cases h
 | .Ai e te ys out none, .Ai e' Kz xs bF none,R,r,v,h=>by
  by_cases hc:e'=e/\Kz=te/\bF=out
  ·obtain ⟨h1,h2,h4⟩:=hc
   subst h1;subst h2;subst h4
   have h3:some ((xs,r):List (List e'.den)×R)=some v:=by
    have:Mn (.Ai e' Kz ys bF none) (.Ai e' Kz xs bF none) r=some ((xs,r):List (List e'.den)×R):=dif_pos ⟨rfl,rfl,rfl⟩
    exact this.symm.trans h
   injection h3 with h3
   subst h3;exact ⟨rfl,rfl⟩
  ·have h3:Mn (.Ai e te ys out none) (.Ai e' Kz xs bF none) r=none:=dif_neg hc
   rw [h3] at h;cases h
 | .Ai e te ys out (some p), .Ai e' Kz xs bF (some p'),R,r,v,h=>by
  by_cases hc:e'=e/\Kz=te/\bF=out/\p'.1=p.1
  ·obtain ⟨h1,h2,h4,h5⟩:=hc
   subst h1;subst h2;subst h4
   have h3:some ((xs,p'.2,r):List (List e'.den)×(Nat×R))=some v:=by
    have:Mn (.Ai e' Kz ys bF (some p)) (.Ai e' Kz xs bF (some p')) r=some ((xs,p'.2,r):List (List e'.den)×(Nat×R)):=dif_pos ⟨rfl,rfl,rfl,h5⟩
    exact this.symm.trans h
   injection h3 with h3
   subst h3
   refine ⟨?_,rfl⟩
   show OB.Ai e' Kz xs bF (some (p.1,p'.2))=OB.Ai e' Kz xs bF (some p')
   rw [<-h5]
  ·have h3:Mn (.Ai e te ys out (some p)) (.Ai e' Kz xs bF (some p')) r=none:=dif_neg hc
   rw [h3] at h;cases h
 | .Ai _ _ _ _ none, .Ai _ _ _ _ (some _),_,_,_,h=>nomatch (show none=some _ from h)
 | .Ai _ _ _ _ (some _), .Ai _ _ _ _ none,_,_,_,h=>nomatch (show none=some _ from h)
 | .Ai _ _ _ _ none, .arr _ _ _ _ _,_,_,_,h=>nomatch (show none=some _ from h)
 | .Ai _ _ _ _ none, .Cz _ _ _,_,_,_,h=>nomatch (show none=some _ from h)
 | .Ai _ _ _ _ none, .var _ _,_,_,_,h=>nomatch (show none=some _ from h)
 | .Ai _ _ _ _ none, .Ol _ _,_,_,_,h=>nomatch (show none=some _ from h)
 | .Ai _ _ _ _ (some _), .arr _ _ _ _ _,_,_,_,h=>nomatch (show none=some _ from h)
 | .Ai _ _ _ _ (some _), .Cz _ _ _,_,_,_,h=>nomatch (show none=some _ from h)
 | .Ai _ _ _ _ (some _), .var _ _,_,_,_,h=>nomatch (show none=some _ from h)
 | .Ai _ _ _ _ (some _), .Ol _ _,_,_,_,h=>nomatch (show none=some _ from h)
 | .arr _ _ _ _ _, .Ai _ _ _ _ _,_,_,_,h=>nomatch (show none=some _ from h)
 | .Cz _ _ _, .Ai _ _ _ _ _,_,_,_,h=>nomatch (show none=some _ from h)
 | .var _ _, .Ai _ _ _ _ _,_,_,_,h=>nomatch (show none=some _ from h)
 | .Ol _ _, .Ai _ _ _ _ _,_,_,_,h=>nomatch (show none=some _ from h)
 | .arr _ _ _ _ _, .var _ _,_,_,_,h=>nomatch (show none=some _ from h)
 | .arr _ _ _ _ _, .Cz _ _ _,_,_,_,h=>nomatch (show none=some _ from h)
 | .arr _ _ _ _ _, .Ol _ _,_,_,_,h=>nomatch (show none=some _ from h)
 | .Cz _ _ _, .var _ _,_,_,_,h=>nomatch (show none=some _ from h)
 | .Cz _ _ _, .arr _ _ _ _ _,_,_,_,h=>nomatch (show none=some _ from h)
 | .Cz _ _ _, .Ol _ _,_,_,_,h=>nomatch (show none=some _ from h)
 | .Ol _ _, .var _ _,_,_,_,h=>nomatch (show none=some _ from h)
 | .Ol _ _, .arr _ _ _ _ _,_,_,_,h=>nomatch (show none=some _ from h)
 | .Ol _ _, .Cz _ _ _,_,_,_,h=>nomatch (show none=some _ from h)
 | .var _ _, .arr _ _ _ _ _,_,_,_,h=>nomatch (show none=some _ from h)
 | .var _ _, .Cz _ _ _,_,_,_,h=>nomatch (show none=some _ from h)
 | .var _ _, .Ol _ _,_,_,_,h=>nomatch (show none=some _ from h)
theorem fj: ∀(l m:List AV) {R:Type} (r:R) (v:lq l R),Jj l m r=some v->(Pn l v).1.map (·.map Mj)=m.map (·.map Mj)/\(Pn l v).2=r
 | [],[],R,r,v,h=>by simp only [Jj] at h;injection h with h;subst h;exact ⟨rfl,rfl⟩
 | [],_::_,R,r,v,h=>by simp [Jj] at h
 |_::_,[],R,r,v,h=>by simp [Jj] at h
 |c::l,d::m,R,r,v,h=>by
  simp only [Jj] at h
  cases hr:Jj l m r with
  |none=>rw [hr] at h;cases h
  |some r'=>
   rw [hr] at h
   obtain ⟨h1,h2⟩:=vN c d r' v h
   obtain ⟨h3,h4⟩:=fj l m r r' hr
   simp only [Pn,List.map_cons]
   rw [h1,h2,h3]
   exact ⟨rfl,h4⟩
theorem eM: ∀(l m:List (Nat×OB)) {R:Type} (r:R) (v:ru l R),Ki l m r=some v->(Yq l v).1.map (λp=>(p.1,p.2.map Mj))=m.map (λp=>(p.1,p.2.map Mj))/\(Yq l v).2=r
 | [],[],R,r,v,h=>by simp only [Ki] at h;injection h with h;subst h;exact ⟨rfl,rfl⟩
 | [],_::_,R,r,v,h=>by simp [Ki] at h
 |_::_,[],R,r,v,h=>by simp [Ki] at h
 |c::l,d::m,R,r,v,h=>by
  simp only [Ki] at h
  split at h
  ·rename_i hk
   cases hr:Ki l m r with
   |none=>rw [hr] at h;cases h
   |some r'=>
    rw [hr] at h
    obtain ⟨h1,h2⟩:=xl c.2 d.2 r' v h
    obtain ⟨h3,h4⟩:=eM l m r r' hr
    simp only [Yq,List.map_cons]
    rw [h1,h2,h3,hk]
    exact ⟨rfl,h4⟩
  ·cases h
theorem de {s t:St} {v:stV s} (h:dd s t=some v):(dc s v).Gg Mj=t.Gg Mj:=by
 unfold dd at h
 cases hr:Ki s.heap t.heap () with
 |none=>rw [hr] at h;cases h
 |some r=>
  rw [hr] at h
  obtain ⟨h1,h2⟩:=fj s.tmps t.tmps r v h
  obtain ⟨h3,_⟩:=eM s.heap t.heap () r hr
  simp only [dc,St.Gg]
  rw [h1,h2,h3]
theorem kC: ∀(c:AC) {R:Type} (r:R),jk c c r=some (CQ c r):=by
 intro c R r
 cases c<;>simp [jk,CQ]
theorem Zr: ∀(l:List AC) {R:Type} (r:R),Lt l l r=some (mD l r)
 | [],_,_=>rfl
 |c::l,_,r=>by simp only [Lt,Zr l r,mD];exact kC c _
def AV.eX:AV->Bool
 | .Ht _=>false
 |_=>true
theorem vO: ∀(c:AV),c.eX=true-> ∀ {R:Type} (r:R),fH c c r=some (SB c r):=by
 intro c hn R r
 cases c with
 |Ht l=>cases hn
 | «at»a=>exact kC a r
 |agg cs=>exact Zr cs r
 |Uo fr τ x=>exact dif_pos ⟨rfl,rfl⟩
theorem xm: ∀(c:OB) {R:Type} (r:R),Mn c c r=some (TX c r):=by
 intro c R r
 cases c with
 |arr fr tr e t xs=>exact dif_pos ⟨rfl,rfl,rfl,rfl⟩
 |Cz e t xs=>exact dif_pos ⟨rfl,rfl⟩
 |Ol v m=>exact dif_pos rfl
 |Ai e te rows out kp=>
  cases kp with
  |none=>exact dif_pos ⟨rfl,rfl,rfl⟩
  |some p=>exact dif_pos ⟨rfl,rfl,rfl,rfl⟩
 |var t vs=>
  have h0:Mn (.var t vs) (.var t vs) r=Lt vs vs r:=if_pos rfl
  exact h0.trans (Zr vs r)
theorem fk: ∀(l:List AV),(∀c∈l,c.eX=true)-> ∀ {R:Type} (r:R),Jj l l r=some (mr l r)
 | [],_,_,_=>rfl
 |c::l,h,_,r=>by simp only [Jj,fk l (λc hc=>h c (List.mem_cons_of_mem _ hc)) r,mr];exact vO c (h c (by simp)) _
theorem eN: ∀(l:List (Nat×OB)) {R:Type} (r:R),Ki l l r=some (me l r)
 | [],_,_=>rfl
 |c::l,_,r=>by simp only [Ki,if_true,eN l r,me];exact xm c.2 _
theorem lh (s:St) (h: ∀c∈s.tmps,c.eX=true):dd s s=some (EF s):=by
 simp only [dd,eN,EF]
 exact fk _ h _
theorem As {α:Type} {o:Option α} {K:α->Prop} :Dw o K↔ ∃x,o=some x/\K x:=by
 unfold Dw
 cases o with
 |none=>simp
 |some x=>simp
theorem gI: ∀(l m:List AC),l.map Mj=m.map Mj->l.flatMap Ur=m.flatMap Ur->l=m
 | [],[],_,_=>rfl
 | [],_::_,h,_=>by simp at h
 |_::_,[],h,_=>by simp at h
 |c::l,d::m,h,ho=>by
  simp only [List.map_cons,List.cons.injEq] at h
  simp only [List.flatMap_cons] at ho
  have hcd:c=d/\l.flatMap Ur=m.flatMap Ur:=by
   cases c<;>cases d<;>first|(cases h.1;done)|skip
   all_goals first
    |(obtain ⟨h1,_⟩:=h
      simp only [Mj,AC.own.injEq] at h1
      simp only [Ur,List.cons_append,List.nil_append,List.cons.injEq,Prod.mk.injEq] at ho
      exact ⟨by rw [h1.1,ho.1.1,ho.1.2],ho.2⟩)
    |exact ⟨h.1,by simpa only [Ur,List.nil_append] using ho⟩
  rw [hcd.1,gI l m h.2 hcd.2]
theorem iD: ∀(l m:List AC),l.map Mj=m.map Mj->(l.flatMap Ur).length=(m.flatMap Ur).length
 | [],[],_=>rfl
 | [],_::_,h=>by simp at h
 |_::_,[],h=>by simp at h
 |c::l,d::m,h=>by
  simp only [List.map_cons,List.cons.injEq] at h
  simp only [List.flatMap_cons,List.length_append,iD l m h.2]
  congr 1
  cases c<;>cases d<;>first|rfl|(cases h.1;done)
theorem PI {c d:AV} (h:c.map Mj=d.map Mj):(Ut c).length=(Ut d).length/\(Ut c=Ut d->(∀l,c≠ .Ht l)->c=d):=by
 cases c with
 | «at»a=>
  cases d<;>simp only [AV.map,AV.at.injEq,reduceCtorEq] at h
  rename_i b
  have h1: [a].map Mj= [b].map Mj:=by simp [h]
  refine ⟨by simpa [Ut] using iD [a] [b] h1,λho _=>?_⟩
  have:=gI [a] [b] h1 (by simpa [Ut] using ho)
  simpa using this
 |agg cs=>
  cases d<;>simp only [AV.map,AV.agg.injEq,reduceCtorEq] at h
  rename_i ds
  exact ⟨iD cs ds h,λho _=>by rw [gI cs ds h ho]⟩
 |Uo fr τ x=>
  cases d<;>simp only [AV.map,reduceCtorEq] at h
  exact ⟨rfl,λ_ _=>h⟩
 |Ht l=>
  cases d<;>simp only [AV.map,reduceCtorEq] at h
  exact ⟨rfl,λ_ hn=>absurd rfl (hn l)⟩
theorem vQ: ∀(l m:List AV),l.map (·.map Mj)=m.map (·.map Mj)->(∀c∈l,c.eX=true)->(l.flatMap Ut).length=(m.flatMap Ut).length/\(l.flatMap Ut=m.flatMap Ut->l=m)
 | [],[],_,_=>⟨rfl,λ_=>rfl⟩
 | [],_::_,h,_=>by simp at h
 |_::_,[],h,_=>by simp at h
 |c::l,d::m,h,hn=>by
  simp only [List.map_cons,List.cons.injEq] at h
  obtain ⟨h1,h2⟩:=PI h.1
  obtain ⟨h3,h4⟩:=vQ l m h.2 λc hc=>hn c (List.mem_cons_of_mem _ hc)
  refine ⟨by simp only [List.flatMap_cons,List.length_append,h1,h3],λho=>?_⟩
  simp only [List.flatMap_cons] at ho
  obtain ⟨g1,g2⟩:=List.append_inj ho h1
  have hnt: ∀l',c≠ .Ht l':= λl' e=>by
   have:=hn c (by simp)
   rw [e] at this
   cases this
  rw [h2 g1 hnt,h4 g2]
theorem QT {c d:OB} (h:c.map Mj=d.map Mj):(gg c).length=(gg d).length/\(gg c=gg d->c=d):=by
 cases c with
 |var t vs=>
  cases d<;>simp only [OB.map,OB.var.injEq,reduceCtorEq] at h
  rename_i t' us
  obtain ⟨rfl,h⟩:=h
  exact ⟨iD vs us h,λho=>by rw [gI vs us h ho]⟩
 |_=>cases d<;>simp only [OB.map,reduceCtorEq] at h<;>exact ⟨rfl,λ_=>h⟩
theorem rv: ∀(l m:List (Nat×OB)),l.map (λp=>(p.1,p.2.map Mj))=m.map (λp=>(p.1,p.2.map Mj))->(l.flatMap λp=>gg p.2)=(m.flatMap λp=>gg p.2)->l=m
 | [],[],_,_=>rfl
 | [],_::_,h,_=>by simp at h
 |_::_,[],h,_=>by simp at h
 |(k,c)::l,(k',d)::m,h,ho=>by
  simp only [List.map_cons,List.cons.injEq,Prod.mk.injEq] at h
  simp only [List.flatMap_cons] at ho
  obtain ⟨h1,h2⟩:=QT h.1.2
  obtain ⟨g1,g2⟩:=List.append_inj ho h1
  rw [h.1.1,h2 g1,rv l m h.2 g2]
theorem vP (l:List (Bool×List AC)) (e:AV) {R:Type} (r:R):fH (.Ht l) e r=none:=by cases e<;>rfl
theorem sK {d e:AV} {R:Type} {r:R} {v:YZ d R} (h:fH d e r=some v):d.eX=true:=by
 cases d with
 |Ht l=>rw [vP] at h;cases h
 |_=>rfl
theorem dm: ∀(l m:List AV) {R:Type} (r:R) (v:lq l R),Jj l m r=some v-> ∀c∈l,c.eX=true
 | [],_,_,_,_,_,c,hc=>by cases hc
 |d::l,[],_,r,v,h,c,hc=>by cases h
 |d::l,e::m,R,r,v,h,c,hc=>by
  simp only [Jj] at h
  cases hr:Jj l m r with
  |none=>rw [hr] at h;cases h
  |some r'=>
   rw [hr] at h
   rcases List.mem_cons.1 hc with hc|hc
   ·rw [hc];exact sK h
   ·exact dm l m r r' hr c hc
theorem rf {s0 s:St} (h:eqW s0 s):s=s0:=by
 obtain ⟨ho,h⟩:=h
 obtain ⟨v,h1,h2⟩:=As.1 h
 subst h2
 have hn: ∀c∈s0.tmps,c.eX=true:=by
  unfold dd at h1
  cases hr:Ki s0.heap s.heap () with
  |none=>rw [hr] at h1;cases h1
  |some r=>rw [hr] at h1;exact dm _ _ _ _ h1
 have e:=(de h1).symm.trans (de (lh s0 hn))
 simp only [St.Gg,St.mk.injEq] at e
 obtain ⟨e1,e2⟩:=e
 obtain ⟨l1,l2⟩:=vQ s0.tmps s.tmps e1.symm hn
 unfold BR at ho
 obtain ⟨g1,g2⟩:=List.append_inj ho l1.symm
 have k1:=l2 g1.symm
 have k2:=rv s.heap s0.heap e2 g2
 cases s;cases s0
 simp only at k1 k2
 rw [k1,k2]
end Go.Proofs.YtfolipnappekaaaGreat
