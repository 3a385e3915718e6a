/-
  Part 32 of the proof that the statement FnExactSubgroupCosetCount holds.
-/
import Derived.Test.YtjbdmibbbpdnnaaCSubgroupCosetCount30
namespace Go.Proofs.Ytjbdmibbbpdnnaa
open Go.RowKit
def Ld:AC->AC
 | .own l _ _=> .own l 0 0
 |c=>c
theorem ib: ∀(c d:AC) {R:Type} (r:R) (v:MI c R),fQ c d r=some v->Ld (dq c v).1=Ld d/\(dq c v).2=r:=by
 intro c d R r v h
 cases c<;>cases d<;>simp only [fQ] at h<;>first|(cases h;first|done|exact ⟨rfl,rfl⟩)|skip
 all_goals
  split at h
  ·rename_i hc
   first
    |(obtain ⟨h1,h2⟩:=hc;subst h1;subst h2;injection h with h;subst h;exact ⟨rfl,rfl⟩)
    |(subst hc;injection h with h;subst h;exact ⟨rfl,rfl⟩)
  ·cases h
theorem Xb: ∀(l m:List AC) {R:Type} (r:R) (v:uh l R),Kp l m r=some v->(Rf l v).1.map Ld=m.map Ld/\(Rf l v).2=r
 | [],[],R,r,v,h=>by simp only [Kp] at h;injection h with h;subst h;exact ⟨rfl,rfl⟩
 | [],_::_,R,r,v,h=>by simp [Kp] at h
 |_::_,[],R,r,v,h=>by simp [Kp] at h
 |c::l,d::m,R,r,v,h=>by
  simp only [Kp] at h
  cases hr:Kp l m r with
  |none=>rw [hr] at h;cases h
  |some r'=>
   rw [hr] at h
   obtain ⟨h1,h2⟩:=ib c d r' v h
   obtain ⟨h3,h4⟩:=Xb l m r r' hr
   simp only [Rf,List.map_cons]
   rw [h1,h2,h3]
   exact ⟨rfl,h4⟩
theorem re: ∀(c d:AV) {R:Type} (r:R) (v:MJ c R),dv c d r=some v->(jQ c v).1.map Ld=d.map Ld/\(jQ c v).2=r
 | .at a, .at b,R,r,v,h=>by
  obtain ⟨h1,h2⟩:=ib a b r v h
  exact ⟨by show AV.at _=AV.at _;rw [h1],h2⟩
 | .agg cs, .agg ds,R,r,v,h=>by
  obtain ⟨h1,h2⟩:=Xb cs ds r v h
  exact ⟨by show AV.agg _=AV.agg _;rw [h1],h2⟩
 | .Si fr τ y, .Si Nf Hz x,R,r,v,h=>by
  by_cases hc:Hz=τ/\Nf=fr
  ·obtain ⟨h1,h2⟩:=hc
   subst h1;subst h2
   have h3:some ((x,r):Hz.den×R)=some v:=by
    have:dv (.Si Nf Hz y) (.Si Nf Hz x) r=some ((x,r):Hz.den×R):=dif_pos ⟨rfl,rfl⟩
    exact this.symm.trans h
   injection h3 with h3
   subst h3;exact ⟨rfl,rfl⟩
  ·have h3:dv (.Si fr τ y) (.Si Nf Hz x) r=none:=dif_neg hc
   rw [h3] at h;cases h
 | .at _, .agg _,_,_,_,h=>nomatch (show none=some _ from h)
 | .at _, .Si _ _ _,_,_,_,h=>nomatch (show none=some _ from h)
 | .agg _, .at _,_,_,_,h=>nomatch (show none=some _ from h)
 | .agg _, .Si _ _ _,_,_,_,h=>nomatch (show none=some _ from h)
 | .Si _ _ _, .at _,_,_,_,h=>nomatch (show none=some _ from h)
 | .Si _ _ _, .agg _,_,_,_,h=>nomatch (show none=some _ from h)
 | .Hv _, .at _,_,_,_,h=>nomatch (show none=some _ from h)
 | .Hv _, .agg _,_,_,_,h=>nomatch (show none=some _ from h)
 | .Hv _, .Si _ _ _,_,_,_,h=>nomatch (show none=some _ from h)
 | .Hv _, .Hv _,_,_,_,h=>nomatch (show none=some _ from h)
 | .at _, .Hv _,_,_,_,h=>nomatch (show none=some _ from h)
 | .agg _, .Hv _,_,_,_,h=>nomatch (show none=some _ from h)
 | .Si _ _ _, .Hv _,_,_,_,h=>nomatch (show none=some _ from h)
theorem sM: ∀(c d:OB) {R:Type} (r:R) (v:QS c R),Lg c d r=some v->(kU c v).1.map Ld=d.map Ld/\(kU c v).2=r
 | .arr fr tr e tid ys, .arr Nf CV e' Mk xs,R,r,v,h=>by
  by_cases hc:e'=e/\Nf=fr/\CV=tr/\Mk=tid
  ·obtain ⟨h1,h2,h3,h4⟩:=hc
   subst h1;subst h2;subst h3;subst h4
   have h3:some ((xs,r):List e'.den×R)=some v:=by
    have:Lg (.arr Nf CV e' Mk ys) (.arr Nf CV e' Mk xs) r=some ((xs,r):List e'.den×R):=dif_pos ⟨rfl,rfl,rfl,rfl⟩
    exact this.symm.trans h
   injection h3 with h3
   subst h3;exact ⟨rfl,rfl⟩
  ·have h3:Lg (.arr fr tr e tid ys) (.arr Nf CV e' Mk xs) r=none:=dif_neg hc
   rw [h3] at h;cases h
 | .Cq e tid ys, .Cq e' Mk xs,R,r,v,h=>by
  by_cases hc:e'=e/\Mk=tid
  ·obtain ⟨h1,h4⟩:=hc
   subst h1;subst h4
   have h3:some ((xs,r):List e'.den×R)=some v:=by
    have:Lg (.Cq e' Mk ys) (.Cq e' Mk xs) r=some ((xs,r):List e'.den×R):=dif_pos ⟨rfl,rfl⟩
    exact this.symm.trans h
   injection h3 with h3
   subst h3;exact ⟨rfl,rfl⟩
  ·have h3:Lg (.Cq e tid ys) (.Cq e' Mk xs) r=none:=dif_neg hc
   rw [h3] at h;cases h
 | .Mz vt m, .Mz NG m',R,r,v,h=>by
  by_cases hc:NG=vt
  ·subst hc
   have h3:some ((m',r):(ByteArray->Option NG.den)×R)=some v:=by
    have:Lg (.Mz NG m) (.Mz NG m') r=some ((m',r):(ByteArray->Option NG.den)×R):=dif_pos rfl
    exact this.symm.trans h
   injection h3 with h3
   subst h3;exact ⟨rfl,rfl⟩
  ·have h3:Lg (.Mz vt m) (.Mz NG m') r=none:=dif_neg hc
   rw [h3] at h;cases h
 | .var t vs, .var t' us,R,r,v,h=>by
  by_cases hc:t'=t
  ·subst hc
   have h0:Lg (.var t' vs) (.var t' us) r=Kp vs us r:=if_pos rfl
   rw [h0] at h
   obtain ⟨h1,h2⟩:=Xb vs us r v h
   exact ⟨by show OB.var _ _=OB.var _ _;rw [h1],h2⟩
  ·have h3:Lg (.var t vs) (.var t' us) r=none:=if_neg hc
   rw [h3] at h;cases h
 | .Ah e te ys out none, .Ah e' Kc xs Zy none,R,r,v,h=>by
  by_cases hc:e'=e/\Kc=te/\Zy=out
  ·obtain ⟨h1,h2,h4⟩:=hc
   subst h1;subst h2;subst h4
   have h3:some ((xs,r):List (List e'.den)×R)=some v:=by
    have:Lg (.Ah e' Kc ys Zy none) (.Ah e' Kc xs Zy none) r=some ((xs,r):List (List e'.den)×R):=dif_pos ⟨rfl,rfl,rfl⟩
    exact this.symm.trans h
   injection h3 with h3
   subst h3;exact ⟨rfl,rfl⟩
  ·have h3:Lg (.Ah e te ys out none) (.Ah e' Kc xs Zy none) r=none:=dif_neg hc
   rw [h3] at h;cases h
 | .Ah e te ys out (some p), .Ah e' Kc xs Zy (some p'),R,r,v,h=>by
  by_cases hc:e'=e/\Kc=te/\Zy=out/\p'.1=p.1
  ·obtain ⟨h1,h2,h4,h5⟩:=hc
   subst h1;subst h2;subst h4
   have h3:some ((xs,p'.2,r):List (List e'.den)×(Nat×R))=some v:=by
    have:Lg (.Ah e' Kc ys Zy (some p)) (.Ah e' Kc xs Zy (some p')) r=some ((xs,p'.2,r):List (List e'.den)×(Nat×R)):=dif_pos ⟨rfl,rfl,rfl,h5⟩
    exact this.symm.trans h
   injection h3 with h3
   subst h3
   refine ⟨?_,rfl⟩
   show OB.Ah e' Kc xs Zy (some (p.1,p'.2))=OB.Ah e' Kc xs Zy (some p')
   rw [<-h5]
  ·have h3:Lg (.Ah e te ys out (some p)) (.Ah e' Kc xs Zy (some p')) r=none:=dif_neg hc
   rw [h3] at h;cases h
 | .Ah _ _ _ _ none, .Ah _ _ _ _ (some _),_,_,_,h=>nomatch (show none=some _ from h)
 | .Ah _ _ _ _ (some _), .Ah _ _ _ _ none,_,_,_,h=>nomatch (show none=some _ from h)
 | .Ah _ _ _ _ none, .arr _ _ _ _ _,_,_,_,h=>nomatch (show none=some _ from h)
 | .Ah _ _ _ _ none, .Cq _ _ _,_,_,_,h=>nomatch (show none=some _ from h)
 | .Ah _ _ _ _ none, .var _ _,_,_,_,h=>nomatch (show none=some _ from h)
 | .Ah _ _ _ _ none, .Mz _ _,_,_,_,h=>nomatch (show none=some _ from h)
 | .Ah _ _ _ _ (some _), .arr _ _ _ _ _,_,_,_,h=>nomatch (show none=some _ from h)
 | .Ah _ _ _ _ (some _), .Cq _ _ _,_,_,_,h=>nomatch (show none=some _ from h)
 | .Ah _ _ _ _ (some _), .var _ _,_,_,_,h=>nomatch (show none=some _ from h)
 | .Ah _ _ _ _ (some _), .Mz _ _,_,_,_,h=>nomatch (show none=some _ from h)
 | .arr _ _ _ _ _, .Ah _ _ _ _ _,_,_,_,h=>nomatch (show none=some _ from h)
 | .Cq _ _ _, .Ah _ _ _ _ _,_,_,_,h=>nomatch (show none=some _ from h)
 | .var _ _, .Ah _ _ _ _ _,_,_,_,h=>nomatch (show none=some _ from h)
 | .Mz _ _, .Ah _ _ _ _ _,_,_,_,h=>nomatch (show none=some _ from h)
 | .arr _ _ _ _ _, .var _ _,_,_,_,h=>nomatch (show none=some _ from h)
 | .arr _ _ _ _ _, .Cq _ _ _,_,_,_,h=>nomatch (show none=some _ from h)
 | .arr _ _ _ _ _, .Mz _ _,_,_,_,h=>nomatch (show none=some _ from h)
 | .Cq _ _ _, .var _ _,_,_,_,h=>nomatch (show none=some _ from h)
 | .Cq _ _ _, .arr _ _ _ _ _,_,_,_,h=>nomatch (show none=some _ from h)
 | .Cq _ _ _, .Mz _ _,_,_,_,h=>nomatch (show none=some _ from h)
 | .Mz _ _, .var _ _,_,_,_,h=>nomatch (show none=some _ from h)
 | .Mz _ _, .arr _ _ _ _ _,_,_,_,h=>nomatch (show none=some _ from h)
 | .Mz _ _, .Cq _ _ _,_,_,_,h=>nomatch (show none=some _ from h)
 | .var _ _, .arr _ _ _ _ _,_,_,_,h=>nomatch (show none=some _ from h)
 | .var _ _, .Cq _ _ _,_,_,_,h=>nomatch (show none=some _ from h)
 | .var _ _, .Mz _ _,_,_,_,h=>nomatch (show none=some _ from h)
theorem da: ∀(l m:List AV) {R:Type} (r:R) (v:iW l R),Io l m r=some v->(Nw l v).1.map (·.map Ld)=m.map (·.map Ld)/\(Nw l v).2=r
 | [],[],R,r,v,h=>by simp only [Io] at h;injection h with h;subst h;exact ⟨rfl,rfl⟩
 | [],_::_,R,r,v,h=>by simp [Io] at h
 |_::_,[],R,r,v,h=>by simp [Io] at h
 |c::l,d::m,R,r,v,h=>by
  simp only [Io] at h
  cases hr:Io l m r with
  |none=>rw [hr] at h;cases h
  |some r'=>
   rw [hr] at h
   obtain ⟨h1,h2⟩:=re c d r' v h
   obtain ⟨h3,h4⟩:=da l m r r' hr
   simp only [Nw,List.map_cons]
   rw [h1,h2,h3]
   exact ⟨rfl,h4⟩
theorem cB: ∀(l m:List (Nat×OB)) {R:Type} (r:R) (v:nD l R),Ji l m r=some v->(Wa l v).1.map (λp=>(p.1,p.2.map Ld))=m.map (λp=>(p.1,p.2.map Ld))/\(Wa l v).2=r
 | [],[],R,r,v,h=>by simp only [Ji] at h;injection h with h;subst h;exact ⟨rfl,rfl⟩
 | [],_::_,R,r,v,h=>by simp [Ji] at h
 |_::_,[],R,r,v,h=>by simp [Ji] at h
 |c::l,d::m,R,r,v,h=>by
  simp only [Ji] at h
  split at h
  ·rename_i hk
   cases hr:Ji l m r with
   |none=>rw [hr] at h;cases h
   |some r'=>
    rw [hr] at h
    obtain ⟨h1,h2⟩:=sM c.2 d.2 r' v h
    obtain ⟨h3,h4⟩:=cB l m r r' hr
    simp only [Wa,List.map_cons]
    rw [h1,h2,h3,hk]
    exact ⟨rfl,h4⟩
  ·cases h
theorem bD {s t:St} {v:RK s} (h:bC s t=some v):(bB s v).Fl Ld=t.Fl Ld:=by
 unfold bC at h
 cases hr:Ji s.heap t.heap () with
 |none=>rw [hr] at h;cases h
 |some r=>
  rw [hr] at h
  obtain ⟨h1,h2⟩:=da s.tmps t.tmps r v h
  obtain ⟨h3,_⟩:=cB s.heap t.heap () r hr
  simp only [bB,St.Fl]
  rw [h1,h2,h3]
theorem ic: ∀(c:AC) {R:Type} (r:R),fQ c c r=some (wM c r):=by
 intro c R r
 cases c<;>simp [fQ,wM]
theorem Xc: ∀(l:List AC) {R:Type} (r:R),Kp l l r=some (jI l r)
 | [],_,_=>rfl
 |c::l,_,r=>by simp only [Kp,Xc l r,jI];exact ic c _
def AV.cM:AV->Bool
 | .Hv _=>false
 |_=>true
theorem rf: ∀(c:AV),c.cM=true-> ∀ {R:Type} (r:R),dv c c r=some (GL c r):=by
 intro c hn R r
 cases c with
 |Hv l=>cases hn
 | «at»a=>exact ic a r
 |agg cs=>exact Xc cs r
 |Si fr τ x=>exact dif_pos ⟨rfl,rfl⟩
theorem sN: ∀(c:OB) {R:Type} (r:R),Lg c c r=some (IE c r):=by
 intro c R r
 cases c with
 |arr fr tr e t xs=>exact dif_pos ⟨rfl,rfl,rfl,rfl⟩
 |Cq e t xs=>exact dif_pos ⟨rfl,rfl⟩
 |Mz v m=>exact dif_pos rfl
 |Ah e te rows out kp=>
  cases kp with
  |none=>exact dif_pos ⟨rfl,rfl,rfl⟩
  |some p=>exact dif_pos ⟨rfl,rfl,rfl,rfl⟩
 |var t vs=>
  have h0:Lg (.var t vs) (.var t vs) r=Kp vs vs r:=if_pos rfl
  exact h0.trans (Xc vs r)
theorem db: ∀(l:List AV),(∀c∈l,c.cM=true)-> ∀ {R:Type} (r:R),Io l l r=some (jB l r)
 | [],_,_,_=>rfl
 |c::l,h,_,r=>by simp only [Io,db l (λc hc=>h c (List.mem_cons_of_mem _ hc)) r,jB];exact rf c (h c (by simp)) _
theorem cC: ∀(l:List (Nat×OB)) {R:Type} (r:R),Ji l l r=some (jw l r)
 | [],_,_=>rfl
 |c::l,_,r=>by simp only [Ji,if_true,cC l r,jw];exact sN c.2 _
theorem iS (s:St) (h: ∀c∈s.tmps,c.cM=true):bC s s=some (xu s):=by
 simp only [bC,cC,xu]
 exact db _ h _
theorem An {α:Type} {o:Option α} {K:α->Prop} :Dh o K↔ ∃x,o=some x/\K x:=by
 unfold Dh
 cases o with
 |none=>simp
 |some x=>simp
theorem ei: ∀(l m:List AC),l.map Ld=m.map Ld->l.flatMap Sl=m.flatMap Sl->l=m
 | [],[],_,_=>rfl
 | [],_::_,h,_=>by simp at h
 |_::_,[],h,_=>by simp at h
 |c::l,d::m,h,ho=>by
  simp only [List.map_cons,List.cons.injEq] at h
  simp only [List.flatMap_cons] at ho
  have ZG:c=d/\l.flatMap Sl=m.flatMap Sl:=by
   cases c<;>cases d<;>first|(cases h.1;done)|skip
   all_goals first
    |(obtain ⟨h1,_⟩:=h
      simp only [Ld,AC.own.injEq] at h1
      simp only [Sl,List.cons_append,List.nil_append,List.cons.injEq,Prod.mk.injEq] at ho
      exact ⟨by rw [h1.1,ho.1.1,ho.1.2],ho.2⟩)
    |exact ⟨h.1,by simpa only [Sl,List.nil_append] using ho⟩
  rw [ZG.1,ei l m h.2 ZG.2]
theorem fk: ∀(l m:List AC),l.map Ld=m.map Ld->(l.flatMap Sl).length=(m.flatMap Sl).length
 | [],[],_=>rfl
 | [],_::_,h=>by simp at h
 |_::_,[],h=>by simp at h
 |c::l,d::m,h=>by
  simp only [List.map_cons,List.cons.injEq] at h
  simp only [List.flatMap_cons,List.length_append,fk l m h.2]
  congr 1
  cases c<;>cases d<;>first|rfl|(cases h.1;done)
theorem DU {c d:AV} (h:c.map Ld=d.map Ld):(Sn c).length=(Sn d).length/\(Sn c=Sn d->(∀l,c≠ .Hv l)->c=d):=by
 cases c with
 | «at»a=>
  cases d<;>simp only [AV.map,AV.at.injEq,reduceCtorEq] at h
  rename_i b
  have h1: [a].map Ld= [b].map Ld:=by simp [h]
  refine ⟨by simpa [Sn] using fk [a] [b] h1,λho _=>?_⟩
  have:=ei [a] [b] h1 (by simpa [Sn] using ho)
  simpa using this
 |agg cs=>
  cases d<;>simp only [AV.map,AV.agg.injEq,reduceCtorEq] at h
  rename_i ds
  exact ⟨fk cs ds h,λho _=>by rw [ei cs ds h ho]⟩
 |Si fr τ x=>
  cases d<;>simp only [AV.map,reduceCtorEq] at h
  exact ⟨rfl,λ_ _=>h⟩
 |Hv l=>
  cases d<;>simp only [AV.map,reduceCtorEq] at h
  exact ⟨rfl,λ_ hn=>absurd rfl (hn l)⟩
theorem ri: ∀(l m:List AV),l.map (·.map Ld)=m.map (·.map Ld)->(∀c∈l,c.cM=true)->(l.flatMap Sn).length=(m.flatMap Sn).length/\(l.flatMap Sn=m.flatMap Sn->l=m)
 | [],[],_,_=>⟨rfl,λ_=>rfl⟩
 | [],_::_,h,_=>by simp at h
 |_::_,[],h,_=>by simp at h
 |c::l,d::m,h,hn=>by
  simp only [List.map_cons,List.cons.injEq] at h
  obtain ⟨h1,h2⟩:=DU h.1
  obtain ⟨h3,h4⟩:=ri l m h.2 λc hc=>hn c (List.mem_cons_of_mem _ hc)
  refine ⟨by simp only [List.flatMap_cons,List.length_append,h1,h3],λho=>?_⟩
  simp only [List.flatMap_cons] at ho
  obtain ⟨g1,g2⟩:=List.append_inj ho h1
  have hnt: ∀l',c≠ .Hv l':= λl' e=>by
   have:=hn c (by simp)
   rw [e] at this
   cases this
  rw [h2 g1 hnt,h4 g2]
theorem FF {c d:OB} (h:c.map Ld=d.map Ld):(dR c).length=(dR d).length/\(dR c=dR d->c=d):=by
 cases c with
 |var t vs=>
  cases d<;>simp only [OB.map,OB.var.injEq,reduceCtorEq] at h
  rename_i t' us
  obtain ⟨rfl,h⟩:=h
  exact ⟨fk vs us h,λho=>by rw [ei vs us h ho]⟩
 |_=>cases d<;>simp only [OB.map,reduceCtorEq] at h<;>exact ⟨rfl,λ_=>h⟩
theorem nE: ∀(l m:List (Nat×OB)),l.map (λp=>(p.1,p.2.map Ld))=m.map (λp=>(p.1,p.2.map Ld))->(l.flatMap λp=>dR p.2)=(m.flatMap λp=>dR p.2)->l=m
 | [],[],_,_=>rfl
 | [],_::_,h,_=>by simp at h
 |_::_,[],h,_=>by simp at h
 |(k,c)::l,(k',d)::m,h,ho=>by
  simp only [List.map_cons,List.cons.injEq,Prod.mk.injEq] at h
  simp only [List.flatMap_cons] at ho
  obtain ⟨h1,h2⟩:=FF h.1.2
  obtain ⟨g1,g2⟩:=List.append_inj ho h1
  rw [h.1.1,h2 g1,nE l m h.2 g2]
theorem rh (l:List (Bool×List AC)) (e:AV) {R:Type} (r:R):dv (.Hv l) e r=none:=by cases e<;>rfl
theorem oJ {d e:AV} {R:Type} {r:R} {v:MJ d R} (h:dv d e r=some v):d.cM=true:=by
 cases d with
 |Hv l=>rw [rh] at h;cases h
 |_=>rfl
theorem bF: ∀(l m:List AV) {R:Type} (r:R) (v:iW l R),Io l m r=some v-> ∀c∈l,c.cM=true
 | [],_,_,_,_,_,c,hc=>by cases hc
 |d::l,[],_,r,v,h,c,hc=>by cases h
 |d::l,e::m,R,r,v,h,c,hc=>by
  simp only [Io] at h
  cases hr:Io l m r with
  |none=>rw [hr] at h;cases h
  |some r'=>
   rw [hr] at h
   rcases List.mem_cons.1 hc with hc|hc
   ·rw [hc];exact oJ h
   ·exact bF l m r r' hr c hc
theorem nv {s0 s:St} (h:UG s0 s):s=s0:=by
 obtain ⟨ho,h⟩:=h
 obtain ⟨v,h1,h2⟩:=An.1 h
 subst h2
 have hn: ∀c∈s0.tmps,c.cM=true:=by
  unfold bC at h1
  cases hr:Ji s0.heap s.heap () with
  |none=>rw [hr] at h1;cases h1
  |some r=>rw [hr] at h1;exact bF _ _ _ _ h1
 have e:=(bD h1).symm.trans (bD (iS s0 hn))
 simp only [St.Fl,St.mk.injEq] at e
 obtain ⟨e1,e2⟩:=e
 obtain ⟨l1,l2⟩:=ri s0.tmps s.tmps e1.symm hn
 unfold wq at ho
 obtain ⟨g1,g2⟩:=List.append_inj ho l1.symm
 have k1:=l2 g1.symm
 have k2:=nE s.heap s0.heap e2 g2
 cases s;cases s0
 simp only at k1 k2
 rw [k1,k2]
end Go.Proofs.Ytjbdmibbbpdnnaa
