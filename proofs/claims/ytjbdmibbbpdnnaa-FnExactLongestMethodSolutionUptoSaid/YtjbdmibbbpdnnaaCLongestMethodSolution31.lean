/-
  Part 32 of the proof that the statement FnExactLongestMethodSolution holds.
-/
import Derived.Test.YtjbdmibbbpdnnaaCLongestMethodSolution30
namespace Go.Proofs.Ytjbdmibbbpdnnaa
open Go.RowKit
def Mg:AC->AC
 | .own l _ _=> .own l 0 0
 |c=>c
theorem jK: ∀(c d:AC) {R:Type} (r:R) (v:WL c R),iJ c d r=some v->Mg (eU c v).1=Mg d/\(eU c v).2=r:=by
 intro c d R r v h
 cases c<;>cases d<;>simp only [iJ] at h<;>first|(cases h;first|done|exact ⟨rfl,rfl⟩)|skip
 all_goals
  split at h
  ·rename_i hc
   first
    |(obtain ⟨h1,h2⟩:=hc;subst h1;subst h2;injection h with h;subst h;exact ⟨rfl,rfl⟩)
    |(subst hc;injection h with h;subst h;exact ⟨rfl,rfl⟩)
  ·cases h
theorem Za: ∀(l m:List AC) {R:Type} (r:R) (v:xm l R),Lr l m r=some v->(Sr l v).1.map Mg=m.map Mg/\(Sr l v).2=r
 | [],[],R,r,v,h=>by simp only [Lr] at h;injection h with h;subst h;exact ⟨rfl,rfl⟩
 | [],_::_,R,r,v,h=>by simp [Lr] at h
 |_::_,[],R,r,v,h=>by simp [Lr] at h
 |c::l,d::m,R,r,v,h=>by
  simp only [Lr] at h
  cases hr:Lr l m r with
  |none=>rw [hr] at h;cases h
  |some r'=>
   rw [hr] at h
   obtain ⟨h1,h2⟩:=jK c d r' v h
   obtain ⟨h3,h4⟩:=Za l m r r' hr
   simp only [Sr,List.map_cons]
   rw [h1,h2,h3]
   exact ⟨rfl,h4⟩
theorem ud: ∀(c d:AV) {R:Type} (r:R) (v:WM c R),eY c d r=some v->(lP c v).1.map Mg=d.map Mg/\(lP c v).2=r
 | .at a, .at b,R,r,v,h=>by
  obtain ⟨h1,h2⟩:=jK a b r v h
  exact ⟨by show AV.at _=AV.at _;rw [h1],h2⟩
 | .agg cs, .agg ds,R,r,v,h=>by
  obtain ⟨h1,h2⟩:=Za cs ds r v h
  exact ⟨by show AV.agg _=AV.agg _;rw [h1],h2⟩
 | .Tv fr τ y, .Tv Oo Jb x,R,r,v,h=>by
  by_cases hc:Jb=τ/\Oo=fr
  ·obtain ⟨h1,h2⟩:=hc
   subst h1;subst h2
   have h3:some ((x,r):Jb.den×R)=some v:=by
    have:eY (.Tv Oo Jb y) (.Tv Oo Jb x) r=some ((x,r):Jb.den×R):=dif_pos ⟨rfl,rfl⟩
    exact this.symm.trans h
   injection h3 with h3
   subst h3;exact ⟨rfl,rfl⟩
  ·have h3:eY (.Tv fr τ y) (.Tv Oo Jb x) r=none:=dif_neg hc
   rw [h3] at h;cases h
 | .at _, .agg _,_,_,_,h=>nomatch (show none=some _ from h)
 | .at _, .Tv _ _ _,_,_,_,h=>nomatch (show none=some _ from h)
 | .agg _, .at _,_,_,_,h=>nomatch (show none=some _ from h)
 | .agg _, .Tv _ _ _,_,_,_,h=>nomatch (show none=some _ from h)
 | .Tv _ _ _, .at _,_,_,_,h=>nomatch (show none=some _ from h)
 | .Tv _ _ _, .agg _,_,_,_,h=>nomatch (show none=some _ from h)
 | .Iz _, .at _,_,_,_,h=>nomatch (show none=some _ from h)
 | .Iz _, .agg _,_,_,_,h=>nomatch (show none=some _ from h)
 | .Iz _, .Tv _ _ _,_,_,_,h=>nomatch (show none=some _ from h)
 | .Iz _, .Iz _,_,_,_,h=>nomatch (show none=some _ from h)
 | .at _, .Iz _,_,_,_,h=>nomatch (show none=some _ from h)
 | .agg _, .Iz _,_,_,_,h=>nomatch (show none=some _ from h)
 | .Tv _ _ _, .Iz _,_,_,_,h=>nomatch (show none=some _ from h)
theorem vY: ∀(c d:OB) {R:Type} (r:R) (v:obV c R),Mj c d r=some v->(mO c v).1.map Mg=d.map Mg/\(mO c v).2=r
 | .arr fr tr e tid ys, .arr Oo LG e' Nn xs,R,r,v,h=>by
  by_cases hc:e'=e/\Oo=fr/\LG=tr/\Nn=tid
  ·obtain ⟨h1,h2,h3,h4⟩:=hc
   subst h1;subst h2;subst h3;subst h4
   have h3:some ((xs,r):List e'.den×R)=some v:=by
    have:Mj (.arr Oo LG e' Nn ys) (.arr Oo LG e' Nn xs) r=some ((xs,r):List e'.den×R):=dif_pos ⟨rfl,rfl,rfl,rfl⟩
    exact this.symm.trans h
   injection h3 with h3
   subst h3;exact ⟨rfl,rfl⟩
  ·have h3:Mj (.arr fr tr e tid ys) (.arr Oo LG e' Nn xs) r=none:=dif_neg hc
   rw [h3] at h;cases h
 | .Dh e tid ys, .Dh e' Nn xs,R,r,v,h=>by
  by_cases hc:e'=e/\Nn=tid
  ·obtain ⟨h1,h4⟩:=hc
   subst h1;subst h4
   have h3:some ((xs,r):List e'.den×R)=some v:=by
    have:Mj (.Dh e' Nn ys) (.Dh e' Nn xs) r=some ((xs,r):List e'.den×R):=dif_pos ⟨rfl,rfl⟩
    exact this.symm.trans h
   injection h3 with h3
   subst h3;exact ⟨rfl,rfl⟩
  ·have h3:Mj (.Dh e tid ys) (.Dh e' Nn xs) r=none:=dif_neg hc
   rw [h3] at h;cases h
 | .Oh vt m, .Oh XN m',R,r,v,h=>by
  by_cases hc:XN=vt
  ·subst hc
   have h3:some ((m',r):(ByteArray->Option XN.den)×R)=some v:=by
    have:Mj (.Oh XN m) (.Oh XN m') r=some ((m',r):(ByteArray->Option XN.den)×R):=dif_pos rfl
    exact this.symm.trans h
   injection h3 with h3
   subst h3;exact ⟨rfl,rfl⟩
  ·have h3:Mj (.Oh vt m) (.Oh XN m') r=none:=dif_neg hc
   rw [h3] at h;cases h
 | .var t vs, .var t' us,R,r,v,h=>by
  by_cases hc:t'=t
  ·subst hc
   have h0:Mj (.var t' vs) (.var t' us) r=Lr vs us r:=if_pos rfl
   rw [h0] at h
   obtain ⟨h1,h2⟩:=Za vs us r v h
   exact ⟨by show OB.var _ _=OB.var _ _;rw [h1],h2⟩
  ·have h3:Mj (.var t vs) (.var t' us) r=none:=if_neg hc
   rw [h3] at h;cases h
 | .Al e te ys out none, .Al e' La xs bo none,R,r,v,h=>by
  by_cases hc:e'=e/\La=te/\bo=out
  ·obtain ⟨h1,h2,h4⟩:=hc
   subst h1;subst h2;subst h4
   have h3:some ((xs,r):List (List e'.den)×R)=some v:=by
    have:Mj (.Al e' La ys bo none) (.Al e' La xs bo none) r=some ((xs,r):List (List e'.den)×R):=dif_pos ⟨rfl,rfl,rfl⟩
    exact this.symm.trans h
   injection h3 with h3
   subst h3;exact ⟨rfl,rfl⟩
  ·have h3:Mj (.Al e te ys out none) (.Al e' La xs bo none) r=none:=dif_neg hc
   rw [h3] at h;cases h
 | .Al e te ys out (some p), .Al e' La xs bo (some p'),R,r,v,h=>by
  by_cases hc:e'=e/\La=te/\bo=out/\p'.1=p.1
  ·obtain ⟨h1,h2,h4,h5⟩:=hc
   subst h1;subst h2;subst h4
   have h3:some ((xs,p'.2,r):List (List e'.den)×(Nat×R))=some v:=by
    have:Mj (.Al e' La ys bo (some p)) (.Al e' La xs bo (some p')) r=some ((xs,p'.2,r):List (List e'.den)×(Nat×R)):=dif_pos ⟨rfl,rfl,rfl,h5⟩
    exact this.symm.trans h
   injection h3 with h3
   subst h3
   refine ⟨?_,rfl⟩
   show OB.Al e' La xs bo (some (p.1,p'.2))=OB.Al e' La xs bo (some p')
   rw [<-h5]
  ·have h3:Mj (.Al e te ys out (some p)) (.Al e' La xs bo (some p')) r=none:=dif_neg hc
   rw [h3] at h;cases h
 | .Al _ _ _ _ none, .Al _ _ _ _ (some _),_,_,_,h=>nomatch (show none=some _ from h)
 | .Al _ _ _ _ (some _), .Al _ _ _ _ none,_,_,_,h=>nomatch (show none=some _ from h)
 | .Al _ _ _ _ none, .arr _ _ _ _ _,_,_,_,h=>nomatch (show none=some _ from h)
 | .Al _ _ _ _ none, .Dh _ _ _,_,_,_,h=>nomatch (show none=some _ from h)
 | .Al _ _ _ _ none, .var _ _,_,_,_,h=>nomatch (show none=some _ from h)
 | .Al _ _ _ _ none, .Oh _ _,_,_,_,h=>nomatch (show none=some _ from h)
 | .Al _ _ _ _ (some _), .arr _ _ _ _ _,_,_,_,h=>nomatch (show none=some _ from h)
 | .Al _ _ _ _ (some _), .Dh _ _ _,_,_,_,h=>nomatch (show none=some _ from h)
 | .Al _ _ _ _ (some _), .var _ _,_,_,_,h=>nomatch (show none=some _ from h)
 | .Al _ _ _ _ (some _), .Oh _ _,_,_,_,h=>nomatch (show none=some _ from h)
 | .arr _ _ _ _ _, .Al _ _ _ _ _,_,_,_,h=>nomatch (show none=some _ from h)
 | .Dh _ _ _, .Al _ _ _ _ _,_,_,_,h=>nomatch (show none=some _ from h)
 | .var _ _, .Al _ _ _ _ _,_,_,_,h=>nomatch (show none=some _ from h)
 | .Oh _ _, .Al _ _ _ _ _,_,_,_,h=>nomatch (show none=some _ from h)
 | .arr _ _ _ _ _, .var _ _,_,_,_,h=>nomatch (show none=some _ from h)
 | .arr _ _ _ _ _, .Dh _ _ _,_,_,_,h=>nomatch (show none=some _ from h)
 | .arr _ _ _ _ _, .Oh _ _,_,_,_,h=>nomatch (show none=some _ from h)
 | .Dh _ _ _, .var _ _,_,_,_,h=>nomatch (show none=some _ from h)
 | .Dh _ _ _, .arr _ _ _ _ _,_,_,_,h=>nomatch (show none=some _ from h)
 | .Dh _ _ _, .Oh _ _,_,_,_,h=>nomatch (show none=some _ from h)
 | .Oh _ _, .var _ _,_,_,_,h=>nomatch (show none=some _ from h)
 | .Oh _ _, .arr _ _ _ _ _,_,_,_,h=>nomatch (show none=some _ from h)
 | .Oh _ _, .Dh _ _ _,_,_,_,h=>nomatch (show none=some _ from h)
 | .var _ _, .arr _ _ _ _ _,_,_,_,h=>nomatch (show none=some _ from h)
 | .var _ _, .Dh _ _ _,_,_,_,h=>nomatch (show none=some _ from h)
 | .var _ _, .Oh _ _,_,_,_,h=>nomatch (show none=some _ from h)
theorem eH: ∀(l m:List AV) {R:Type} (r:R) (v:kK l R),Jo l m r=some v->(Pj l v).1.map (·.map Mg)=m.map (·.map Mg)/\(Pj l v).2=r
 | [],[],R,r,v,h=>by simp only [Jo] at h;injection h with h;subst h;exact ⟨rfl,rfl⟩
 | [],_::_,R,r,v,h=>by simp [Jo] at h
 |_::_,[],R,r,v,h=>by simp [Jo] at h
 |c::l,d::m,R,r,v,h=>by
  simp only [Jo] at h
  cases hr:Jo l m r with
  |none=>rw [hr] at h;cases h
  |some r'=>
   rw [hr] at h
   obtain ⟨h1,h2⟩:=ud c d r' v h
   obtain ⟨h3,h4⟩:=eH l m r r' hr
   simp only [Pj,List.map_cons]
   rw [h1,h2,h3]
   exact ⟨rfl,h4⟩
theorem ec: ∀(l m:List (Nat×OB)) {R:Type} (r:R) (v:pT l R),Ki l m r=some v->(Xx l v).1.map (λp=>(p.1,p.2.map Mg))=m.map (λp=>(p.1,p.2.map Mg))/\(Xx l v).2=r
 | [],[],R,r,v,h=>by simp only [Ki] at h;injection h with h;subst h;exact ⟨rfl,rfl⟩
 | [],_::_,R,r,v,h=>by simp [Ki] at h
 |_::_,[],R,r,v,h=>by simp [Ki] at h
 |c::l,d::m,R,r,v,h=>by
  simp only [Ki] at h
  split at h
  ·rename_i hk
   cases hr:Ki l m r with
   |none=>rw [hr] at h;cases h
   |some r'=>
    rw [hr] at h
    obtain ⟨h1,h2⟩:=vY c.2 d.2 r' v h
    obtain ⟨h3,h4⟩:=ec l m r r' hr
    simp only [Xx,List.map_cons]
    rw [h1,h2,h3,hk]
    exact ⟨rfl,h4⟩
  ·cases h
theorem cR {s t:St} {v:stV s} (h:cQ s t=some v):(cP s v).Gh Mg=t.Gh Mg:=by
 unfold cQ at h
 cases hr:Ki s.heap t.heap () with
 |none=>rw [hr] at h;cases h
 |some r=>
  rw [hr] at h
  obtain ⟨h1,h2⟩:=eH s.tmps t.tmps r v h
  obtain ⟨h3,_⟩:=ec s.heap t.heap () r hr
  simp only [cP,St.Gh]
  rw [h1,h2,h3]
theorem jL: ∀(c:AC) {R:Type} (r:R),iJ c c r=some (zC c r):=by
 intro c R r
 cases c<;>simp [iJ,zC]
theorem Zb: ∀(l:List AC) {R:Type} (r:R),Lr l l r=some (lH l r)
 | [],_,_=>rfl
 |c::l,_,r=>by simp only [Lr,Zb l r,lH];exact jL c _
def AV.eu:AV->Bool
 | .Iz _=>false
 |_=>true
theorem ue: ∀(c:AV),c.eu=true-> ∀ {R:Type} (r:R),eY c c r=some (QF c r):=by
 intro c hn R r
 cases c with
 |Iz l=>cases hn
 | «at»a=>exact jL a r
 |agg cs=>exact Zb cs r
 |Tv fr τ x=>exact dif_pos ⟨rfl,rfl⟩
theorem vZ: ∀(c:OB) {R:Type} (r:R),Mj c c r=some (RZ c r):=by
 intro c R r
 cases c with
 |arr fr tr e t xs=>exact dif_pos ⟨rfl,rfl,rfl,rfl⟩
 |Dh e t xs=>exact dif_pos ⟨rfl,rfl⟩
 |Oh v m=>exact dif_pos rfl
 |Al e te rows out kp=>
  cases kp with
  |none=>exact dif_pos ⟨rfl,rfl,rfl⟩
  |some p=>exact dif_pos ⟨rfl,rfl,rfl,rfl⟩
 |var t vs=>
  have h0:Mj (.var t vs) (.var t vs) r=Lr vs vs r:=if_pos rfl
  exact h0.trans (Zb vs r)
theorem eI: ∀(l:List AV),(∀c∈l,c.eu=true)-> ∀ {R:Type} (r:R),Jo l l r=some (lz l r)
 | [],_,_,_=>rfl
 |c::l,h,_,r=>by simp only [Jo,eI l (λc hc=>h c (List.mem_cons_of_mem _ hc)) r,lz];exact ue c (h c (by simp)) _
theorem ed: ∀(l:List (Nat×OB)) {R:Type} (r:R),Ki l l r=some (lp l r)
 | [],_,_=>rfl
 |c::l,_,r=>by simp only [Ki,if_true,ed l r,lp];exact vZ c.2 _
theorem kF (s:St) (h: ∀c∈s.tmps,c.eu=true):cQ s s=some (AZ s):=by
 simp only [cQ,ed,AZ]
 exact eI _ h _
theorem As {α:Type} {o:Option α} {K:α->Prop} :Dz o K↔ ∃x,o=some x/\K x:=by
 unfold Dz
 cases o with
 |none=>simp
 |some x=>simp
theorem gi: ∀(l m:List AC),l.map Mg=m.map Mg->l.flatMap Tx=m.flatMap Tx->l=m
 | [],[],_,_=>rfl
 | [],_::_,h,_=>by simp at h
 |_::_,[],h,_=>by simp at h
 |c::l,d::m,h,ho=>by
  simp only [List.map_cons,List.cons.injEq] at h
  simp only [List.flatMap_cons] at ho
  have hcd:c=d/\l.flatMap Tx=m.flatMap Tx:=by
   cases c<;>cases d<;>first|(cases h.1;done)|skip
   all_goals first
    |(obtain ⟨h1,_⟩:=h
      simp only [Mg,AC.own.injEq] at h1
      simp only [Tx,List.cons_append,List.nil_append,List.cons.injEq,Prod.mk.injEq] at ho
      exact ⟨by rw [h1.1,ho.1.1,ho.1.2],ho.2⟩)
    |exact ⟨h.1,by simpa only [Tx,List.nil_append] using ho⟩
  rw [hcd.1,gi l m h.2 hcd.2]
theorem ia: ∀(l m:List AC),l.map Mg=m.map Mg->(l.flatMap Tx).length=(m.flatMap Tx).length
 | [],[],_=>rfl
 | [],_::_,h=>by simp at h
 |_::_,[],h=>by simp at h
 |c::l,d::m,h=>by
  simp only [List.map_cons,List.cons.injEq] at h
  simp only [List.flatMap_cons,List.length_append,ia l m h.2]
  congr 1
  cases c<;>cases d<;>first|rfl|(cases h.1;done)
theorem MO {c d:AV} (h:c.map Mg=d.map Mg):(Ua c).length=(Ua d).length/\(Ua c=Ua d->(∀l,c≠ .Iz l)->c=d):=by
 cases c with
 | «at»a=>
  cases d<;>simp only [AV.map,AV.at.injEq,reduceCtorEq] at h
  rename_i b
  have h1: [a].map Mg= [b].map Mg:=by simp [h]
  refine ⟨by simpa [Ua] using ia [a] [b] h1,λho _=>?_⟩
  have:=gi [a] [b] h1 (by simpa [Ua] using ho)
  simpa using this
 |agg cs=>
  cases d<;>simp only [AV.map,AV.agg.injEq,reduceCtorEq] at h
  rename_i ds
  exact ⟨ia cs ds h,λho _=>by rw [gi cs ds h ho]⟩
 |Tv fr τ x=>
  cases d<;>simp only [AV.map,reduceCtorEq] at h
  exact ⟨rfl,λ_ _=>h⟩
 |Iz l=>
  cases d<;>simp only [AV.map,reduceCtorEq] at h
  exact ⟨rfl,λ_ hn=>absurd rfl (hn l)⟩
theorem ug: ∀(l m:List AV),l.map (·.map Mg)=m.map (·.map Mg)->(∀c∈l,c.eu=true)->(l.flatMap Ua).length=(m.flatMap Ua).length/\(l.flatMap Ua=m.flatMap Ua->l=m)
 | [],[],_,_=>⟨rfl,λ_=>rfl⟩
 | [],_::_,h,_=>by simp at h
 |_::_,[],h,_=>by simp at h
 |c::l,d::m,h,hn=>by
  simp only [List.map_cons,List.cons.injEq] at h
  obtain ⟨h1,h2⟩:=MO h.1
  obtain ⟨h3,h4⟩:=ug l m h.2 λc hc=>hn c (List.mem_cons_of_mem _ hc)
  refine ⟨by simp only [List.flatMap_cons,List.length_append,h1,h3],λho=>?_⟩
  simp only [List.flatMap_cons] at ho
  obtain ⟨g1,g2⟩:=List.append_inj ho h1
  have hnt: ∀l',c≠ .Iz l':= λl' e=>by
   have:=hn c (by simp)
   rw [e] at this
   cases this
  rw [h2 g1 hnt,h4 g2]
theorem OO {c d:OB} (h:c.map Mg=d.map Mg):(fG c).length=(fG d).length/\(fG c=fG d->c=d):=by
 cases c with
 |var t vs=>
  cases d<;>simp only [OB.map,OB.var.injEq,reduceCtorEq] at h
  rename_i t' us
  obtain ⟨rfl,h⟩:=h
  exact ⟨ia vs us h,λho=>by rw [gi vs us h ho]⟩
 |_=>cases d<;>simp only [OB.map,reduceCtorEq] at h<;>exact ⟨rfl,λ_=>h⟩
theorem pU: ∀(l m:List (Nat×OB)),l.map (λp=>(p.1,p.2.map Mg))=m.map (λp=>(p.1,p.2.map Mg))->(l.flatMap λp=>fG p.2)=(m.flatMap λp=>fG p.2)->l=m
 | [],[],_,_=>rfl
 | [],_::_,h,_=>by simp at h
 |_::_,[],h,_=>by simp at h
 |(k,c)::l,(k',d)::m,h,ho=>by
  simp only [List.map_cons,List.cons.injEq,Prod.mk.injEq] at h
  simp only [List.flatMap_cons] at ho
  obtain ⟨h1,h2⟩:=OO h.1.2
  obtain ⟨g1,g2⟩:=List.append_inj ho h1
  rw [h.1.1,h2 g1,pU l m h.2 g2]
theorem uf (l:List (Bool×List AC)) (e:AV) {R:Type} (r:R):eY (.Iz l) e r=none:=by cases e<;>rfl
theorem re {d e:AV} {R:Type} {r:R} {v:WM d R} (h:eY d e r=some v):d.eu=true:=by
 cases d with
 |Iz l=>rw [uf] at h;cases h
 |_=>rfl
theorem cU: ∀(l m:List AV) {R:Type} (r:R) (v:kK l R),Jo l m r=some v-> ∀c∈l,c.eu=true
 | [],_,_,_,_,_,c,hc=>by cases hc
 |d::l,[],_,r,v,h,c,hc=>by cases h
 |d::l,e::m,R,r,v,h,c,hc=>by
  simp only [Jo] at h
  cases hr:Jo l m r with
  |none=>rw [hr] at h;cases h
  |some r'=>
   rw [hr] at h
   rcases List.mem_cons.1 hc with hc|hc
   ·rw [hc];exact re h
   ·exact cU l m r r' hr c hc
theorem pL {s0 s:St} (h:eqW s0 s):s=s0:=by
 obtain ⟨ho,h⟩:=h
 obtain ⟨v,h1,h2⟩:=As.1 h
 subst h2
 have hn: ∀c∈s0.tmps,c.eu=true:=by
  unfold cQ at h1
  cases hr:Ki s0.heap s.heap () with
  |none=>rw [hr] at h1;cases h1
  |some r=>rw [hr] at h1;exact cU _ _ _ _ h1
 have e:=(cR h1).symm.trans (cR (kF s0 hn))
 simp only [St.Gh,St.mk.injEq] at e
 obtain ⟨e1,e2⟩:=e
 obtain ⟨l1,l2⟩:=ug s0.tmps s.tmps e1.symm hn
 unfold ze at ho
 obtain ⟨g1,g2⟩:=List.append_inj ho l1.symm
 have k1:=l2 g1.symm
 have k2:=pU s.heap s0.heap e2 g2
 cases s;cases s0
 simp only at k1 k2
 rw [k1,k2]
end Go.Proofs.Ytjbdmibbbpdnnaa
