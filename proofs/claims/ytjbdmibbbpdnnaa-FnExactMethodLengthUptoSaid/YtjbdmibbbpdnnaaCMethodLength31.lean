/-
  Part 32 of the proof that the statement FnExactMethodLength holds.
-/
import Derived.Test.YtjbdmibbbpdnnaaCMethodLength30
namespace Go.Proofs.Ytjbdmibbbpdnnaa
open Go.RowKit
def Mm:AC->AC
 | .own l _ _=> .own l 0 0
 |c=>c
theorem ku: ∀(c d:AC) {R:Type} (r:R) (v:YQ c R),jb c d r=some v->Mm (fo c v).1=Mm d/\(fo c v).2=r:=by
 intro c d R r v h
 cases c<;>cases d<;>simp only [jb] at h<;>first|(cases h;first|done|exact ⟨rfl,rfl⟩)|skip
 all_goals
  split at h
  ·rename_i hc
   first
    |(obtain ⟨h1,h2⟩:=hc;subst h1;subst h2;injection h with h;subst h;exact ⟨rfl,rfl⟩)
    |(subst hc;injection h with h;subst h;exact ⟨rfl,rfl⟩)
  ·cases h
theorem Zp: ∀(l m:List AC) {R:Type} (r:R) (v:xZ l R),Lu l m r=some v->(Tf l v).1.map Mm=m.map Mm/\(Tf l v).2=r
 | [],[],R,r,v,h=>by simp only [Lu] at h;injection h with h;subst h;exact ⟨rfl,rfl⟩
 | [],_::_,R,r,v,h=>by simp [Lu] at h
 |_::_,[],R,r,v,h=>by simp [Lu] at h
 |c::l,d::m,R,r,v,h=>by
  simp only [Lu] at h
  cases hr:Lu l m r with
  |none=>rw [hr] at h;cases h
  |some r'=>
   rw [hr] at h
   obtain ⟨h1,h2⟩:=ku c d r' v h
   obtain ⟨h3,h4⟩:=Zp l m r r' hr
   simp only [Tf,List.map_cons]
   rw [h1,h2,h3]
   exact ⟨rfl,h4⟩
theorem uX: ∀(c d:AV) {R:Type} (r:R) (v:YR c R),fv c d r=some v->(mq c v).1.map Mm=d.map Mm/\(mq c v).2=r
 | .at a, .at b,R,r,v,h=>by
  obtain ⟨h1,h2⟩:=ku a b r v h
  exact ⟨by show AV.at _=AV.at _;rw [h1],h2⟩
 | .agg cs, .agg ds,R,r,v,h=>by
  obtain ⟨h1,h2⟩:=Zp cs ds r v h
  exact ⟨by show AV.agg _=AV.agg _;rw [h1],h2⟩
 | .Uk fr τ y, .Uk Ow Ji x,R,r,v,h=>by
  by_cases hc:Ji=τ/\Ow=fr
  ·obtain ⟨h1,h2⟩:=hc
   subst h1;subst h2
   have h3:some ((x,r):Ji.den×R)=some v:=by
    have:fv (.Uk Ow Ji y) (.Uk Ow Ji x) r=some ((x,r):Ji.den×R):=dif_pos ⟨rfl,rfl⟩
    exact this.symm.trans h
   injection h3 with h3
   subst h3;exact ⟨rfl,rfl⟩
  ·have h3:fv (.Uk fr τ y) (.Uk Ow Ji x) r=none:=dif_neg hc
   rw [h3] at h;cases h
 | .at _, .agg _,_,_,_,h=>nomatch (show none=some _ from h)
 | .at _, .Uk _ _ _,_,_,_,h=>nomatch (show none=some _ from h)
 | .agg _, .at _,_,_,_,h=>nomatch (show none=some _ from h)
 | .agg _, .Uk _ _ _,_,_,_,h=>nomatch (show none=some _ from h)
 | .Uk _ _ _, .at _,_,_,_,h=>nomatch (show none=some _ from h)
 | .Uk _ _ _, .agg _,_,_,_,h=>nomatch (show none=some _ from h)
 | .Jg _, .at _,_,_,_,h=>nomatch (show none=some _ from h)
 | .Jg _, .agg _,_,_,_,h=>nomatch (show none=some _ from h)
 | .Jg _, .Uk _ _ _,_,_,_,h=>nomatch (show none=some _ from h)
 | .Jg _, .Jg _,_,_,_,h=>nomatch (show none=some _ from h)
 | .at _, .Jg _,_,_,_,h=>nomatch (show none=some _ from h)
 | .agg _, .Jg _,_,_,_,h=>nomatch (show none=some _ from h)
 | .Uk _ _ _, .Jg _,_,_,_,h=>nomatch (show none=some _ from h)
theorem wO: ∀(c d:OB) {R:Type} (r:R) (v:obV c R),Mq c d r=some v->(nB c v).1.map Mm=d.map Mm/\(nB c v).2=r
 | .arr fr tr e tid ys, .arr Ow ND e' Nw xs,R,r,v,h=>by
  by_cases hc:e'=e/\Ow=fr/\ND=tr/\Nw=tid
  ·obtain ⟨h1,h2,h3,h4⟩:=hc
   subst h1;subst h2;subst h3;subst h4
   have h3:some ((xs,r):List e'.den×R)=some v:=by
    have:Mq (.arr Ow ND e' Nw ys) (.arr Ow ND e' Nw xs) r=some ((xs,r):List e'.den×R):=dif_pos ⟨rfl,rfl,rfl,rfl⟩
    exact this.symm.trans h
   injection h3 with h3
   subst h3;exact ⟨rfl,rfl⟩
  ·have h3:Mq (.arr fr tr e tid ys) (.arr Ow ND e' Nw xs) r=none:=dif_neg hc
   rw [h3] at h;cases h
 | .Dj e tid ys, .Dj e' Nw xs,R,r,v,h=>by
  by_cases hc:e'=e/\Nw=tid
  ·obtain ⟨h1,h4⟩:=hc
   subst h1;subst h4
   have h3:some ((xs,r):List e'.den×R)=some v:=by
    have:Mq (.Dj e' Nw ys) (.Dj e' Nw xs) r=some ((xs,r):List e'.den×R):=dif_pos ⟨rfl,rfl⟩
    exact this.symm.trans h
   injection h3 with h3
   subst h3;exact ⟨rfl,rfl⟩
  ·have h3:Mq (.Dj e tid ys) (.Dj e' Nw xs) r=none:=dif_neg hc
   rw [h3] at h;cases h
 | .On vt m, .On ZN m',R,r,v,h=>by
  by_cases hc:ZN=vt
  ·subst hc
   have h3:some ((m',r):(ByteArray->Option ZN.den)×R)=some v:=by
    have:Mq (.On ZN m) (.On ZN m') r=some ((m',r):(ByteArray->Option ZN.den)×R):=dif_pos rfl
    exact this.symm.trans h
   injection h3 with h3
   subst h3;exact ⟨rfl,rfl⟩
  ·have h3:Mq (.On vt m) (.On ZN m') r=none:=dif_neg hc
   rw [h3] at h;cases h
 | .var t vs, .var t' us,R,r,v,h=>by
  by_cases hc:t'=t
  ·subst hc
   have h0:Mq (.var t' vs) (.var t' us) r=Lu vs us r:=if_pos rfl
   rw [h0] at h
   obtain ⟨h1,h2⟩:=Zp vs us r v h
   exact ⟨by show OB.var _ _=OB.var _ _;rw [h1],h2⟩
  ·have h3:Mq (.var t vs) (.var t' us) r=none:=if_neg hc
   rw [h3] at h;cases h
 | .Ak e te ys out none, .Ak e' Lf xs bK none,R,r,v,h=>by
  by_cases hc:e'=e/\Lf=te/\bK=out
  ·obtain ⟨h1,h2,h4⟩:=hc
   subst h1;subst h2;subst h4
   have h3:some ((xs,r):List (List e'.den)×R)=some v:=by
    have:Mq (.Ak e' Lf ys bK none) (.Ak e' Lf xs bK none) r=some ((xs,r):List (List e'.den)×R):=dif_pos ⟨rfl,rfl,rfl⟩
    exact this.symm.trans h
   injection h3 with h3
   subst h3;exact ⟨rfl,rfl⟩
  ·have h3:Mq (.Ak e te ys out none) (.Ak e' Lf xs bK none) r=none:=dif_neg hc
   rw [h3] at h;cases h
 | .Ak e te ys out (some p), .Ak e' Lf xs bK (some p'),R,r,v,h=>by
  by_cases hc:e'=e/\Lf=te/\bK=out/\p'.1=p.1
  ·obtain ⟨h1,h2,h4,h5⟩:=hc
   subst h1;subst h2;subst h4
   have h3:some ((xs,p'.2,r):List (List e'.den)×(Nat×R))=some v:=by
    have:Mq (.Ak e' Lf ys bK (some p)) (.Ak e' Lf xs bK (some p')) r=some ((xs,p'.2,r):List (List e'.den)×(Nat×R)):=dif_pos ⟨rfl,rfl,rfl,h5⟩
    exact this.symm.trans h
   injection h3 with h3
   subst h3
   refine ⟨?_,rfl⟩
   show OB.Ak e' Lf xs bK (some (p.1,p'.2))=OB.Ak e' Lf xs bK (some p')
   rw [<-h5]
  ·have h3:Mq (.Ak e te ys out (some p)) (.Ak e' Lf xs bK (some p')) r=none:=dif_neg hc
   rw [h3] at h;cases h
 | .Ak _ _ _ _ none, .Ak _ _ _ _ (some _),_,_,_,h=>nomatch (show none=some _ from h)
 | .Ak _ _ _ _ (some _), .Ak _ _ _ _ none,_,_,_,h=>nomatch (show none=some _ from h)
 | .Ak _ _ _ _ none, .arr _ _ _ _ _,_,_,_,h=>nomatch (show none=some _ from h)
 | .Ak _ _ _ _ none, .Dj _ _ _,_,_,_,h=>nomatch (show none=some _ from h)
 | .Ak _ _ _ _ none, .var _ _,_,_,_,h=>nomatch (show none=some _ from h)
 | .Ak _ _ _ _ none, .On _ _,_,_,_,h=>nomatch (show none=some _ from h)
 | .Ak _ _ _ _ (some _), .arr _ _ _ _ _,_,_,_,h=>nomatch (show none=some _ from h)
 | .Ak _ _ _ _ (some _), .Dj _ _ _,_,_,_,h=>nomatch (show none=some _ from h)
 | .Ak _ _ _ _ (some _), .var _ _,_,_,_,h=>nomatch (show none=some _ from h)
 | .Ak _ _ _ _ (some _), .On _ _,_,_,_,h=>nomatch (show none=some _ from h)
 | .arr _ _ _ _ _, .Ak _ _ _ _ _,_,_,_,h=>nomatch (show none=some _ from h)
 | .Dj _ _ _, .Ak _ _ _ _ _,_,_,_,h=>nomatch (show none=some _ from h)
 | .var _ _, .Ak _ _ _ _ _,_,_,_,h=>nomatch (show none=some _ from h)
 | .On _ _, .Ak _ _ _ _ _,_,_,_,h=>nomatch (show none=some _ from h)
 | .arr _ _ _ _ _, .var _ _,_,_,_,h=>nomatch (show none=some _ from h)
 | .arr _ _ _ _ _, .Dj _ _ _,_,_,_,h=>nomatch (show none=some _ from h)
 | .arr _ _ _ _ _, .On _ _,_,_,_,h=>nomatch (show none=some _ from h)
 | .Dj _ _ _, .var _ _,_,_,_,h=>nomatch (show none=some _ from h)
 | .Dj _ _ _, .arr _ _ _ _ _,_,_,_,h=>nomatch (show none=some _ from h)
 | .Dj _ _ _, .On _ _,_,_,_,h=>nomatch (show none=some _ from h)
 | .On _ _, .var _ _,_,_,_,h=>nomatch (show none=some _ from h)
 | .On _ _, .arr _ _ _ _ _,_,_,_,h=>nomatch (show none=some _ from h)
 | .On _ _, .Dj _ _ _,_,_,_,h=>nomatch (show none=some _ from h)
 | .var _ _, .arr _ _ _ _ _,_,_,_,h=>nomatch (show none=some _ from h)
 | .var _ _, .Dj _ _ _,_,_,_,h=>nomatch (show none=some _ from h)
 | .var _ _, .On _ _,_,_,_,h=>nomatch (show none=some _ from h)
theorem eY: ∀(l m:List AV) {R:Type} (r:R) (v:lh l R),Jv l m r=some v->(Pq l v).1.map (·.map Mm)=m.map (·.map Mm)/\(Pq l v).2=r
 | [],[],R,r,v,h=>by simp only [Jv] at h;injection h with h;subst h;exact ⟨rfl,rfl⟩
 | [],_::_,R,r,v,h=>by simp [Jv] at h
 |_::_,[],R,r,v,h=>by simp [Jv] at h
 |c::l,d::m,R,r,v,h=>by
  simp only [Jv] at h
  cases hr:Jv l m r with
  |none=>rw [hr] at h;cases h
  |some r'=>
   rw [hr] at h
   obtain ⟨h1,h2⟩:=uX c d r' v h
   obtain ⟨h3,h4⟩:=eY l m r r' hr
   simp only [Pq,List.map_cons]
   rw [h1,h2,h3]
   exact ⟨rfl,h4⟩
theorem eE: ∀(l m:List (Nat×OB)) {R:Type} (r:R) (v:qE l R),Kl l m r=some v->(Ym l v).1.map (λp=>(p.1,p.2.map Mm))=m.map (λp=>(p.1,p.2.map Mm))/\(Ym l v).2=r
 | [],[],R,r,v,h=>by simp only [Kl] at h;injection h with h;subst h;exact ⟨rfl,rfl⟩
 | [],_::_,R,r,v,h=>by simp [Kl] at h
 |_::_,[],R,r,v,h=>by simp [Kl] at h
 |c::l,d::m,R,r,v,h=>by
  simp only [Kl] at h
  split at h
  ·rename_i hk
   cases hr:Kl l m r with
   |none=>rw [hr] at h;cases h
   |some r'=>
    rw [hr] at h
    obtain ⟨h1,h2⟩:=wO c.2 d.2 r' v h
    obtain ⟨h3,h4⟩:=eE l m r r' hr
    simp only [Ym,List.map_cons]
    rw [h1,h2,h3,hk]
    exact ⟨rfl,h4⟩
  ·cases h
theorem dq {s t:St} {v:stV s} (h:dp s t=some v):(dm s v).Gp Mm=t.Gp Mm:=by
 unfold dp at h
 cases hr:Kl s.heap t.heap () with
 |none=>rw [hr] at h;cases h
 |some r=>
  rw [hr] at h
  obtain ⟨h1,h2⟩:=eY s.tmps t.tmps r v h
  obtain ⟨h3,_⟩:=eE s.heap t.heap () r hr
  simp only [dm,St.Gp]
  rw [h1,h2,h3]
theorem kv: ∀(c:AC) {R:Type} (r:R),jb c c r=some (AS c r):=by
 intro c R r
 cases c<;>simp [jb,AS]
theorem Zq: ∀(l:List AC) {R:Type} (r:R),Lu l l r=some (me l r)
 | [],_,_=>rfl
 |c::l,_,r=>by simp only [Lu,Zq l r,me];exact kv c _
def AV.eO:AV->Bool
 | .Jg _=>false
 |_=>true
theorem uY: ∀(c:AV),c.eO=true-> ∀ {R:Type} (r:R),fv c c r=some (SJ c r):=by
 intro c hn R r
 cases c with
 |Jg l=>cases hn
 | «at»a=>exact kv a r
 |agg cs=>exact Zq cs r
 |Uk fr τ x=>exact dif_pos ⟨rfl,rfl⟩
theorem wP: ∀(c:OB) {R:Type} (r:R),Mq c c r=some (UE c r):=by
 intro c R r
 cases c with
 |arr fr tr e t xs=>exact dif_pos ⟨rfl,rfl,rfl,rfl⟩
 |Dj e t xs=>exact dif_pos ⟨rfl,rfl⟩
 |On v m=>exact dif_pos rfl
 |Ak e te rows out kp=>
  cases kp with
  |none=>exact dif_pos ⟨rfl,rfl,rfl⟩
  |some p=>exact dif_pos ⟨rfl,rfl,rfl,rfl⟩
 |var t vs=>
  have h0:Mq (.var t vs) (.var t vs) r=Lu vs vs r:=if_pos rfl
  exact h0.trans (Zq vs r)
theorem eZ: ∀(l:List AV),(∀c∈l,c.eO=true)-> ∀ {R:Type} (r:R),Jv l l r=some (m4 l r)
 | [],_,_,_=>rfl
 |c::l,h,_,r=>by simp only [Jv,eZ l (λc hc=>h c (List.mem_cons_of_mem _ hc)) r,m4];exact uY c (h c (by simp)) _
theorem eF: ∀(l:List (Nat×OB)) {R:Type} (r:R),Kl l l r=some (lR l r)
 | [],_,_=>rfl
 |c::l,_,r=>by simp only [Kl,if_true,eF l r,lR];exact wP c.2 _
theorem ld (s:St) (h: ∀c∈s.tmps,c.eO=true):dp s s=some (CO s):=by
 simp only [dp,eF,CO]
 exact eZ _ h _
theorem At {α:Type} {o:Option α} {K:α->Prop} :Eb o K↔ ∃x,o=some x/\K x:=by
 unfold Eb
 cases o with
 |none=>simp
 |some x=>simp
theorem gE: ∀(l m:List AC),l.map Mm=m.map Mm->l.flatMap Un=m.flatMap Un->l=m
 | [],[],_,_=>rfl
 | [],_::_,h,_=>by simp at h
 |_::_,[],h,_=>by simp at h
 |c::l,d::m,h,ho=>by
  simp only [List.map_cons,List.cons.injEq] at h
  simp only [List.flatMap_cons] at ho
  have hcd:c=d/\l.flatMap Un=m.flatMap Un:=by
   cases c<;>cases d<;>first|(cases h.1;done)|skip
   all_goals first
    |(obtain ⟨h1,_⟩:=h
      simp only [Mm,AC.own.injEq] at h1
      simp only [Un,List.cons_append,List.nil_append,List.cons.injEq,Prod.mk.injEq] at ho
      exact ⟨by rw [h1.1,ho.1.1,ho.1.2],ho.2⟩)
    |exact ⟨h.1,by simpa only [Un,List.nil_append] using ho⟩
  rw [hcd.1,gE l m h.2 hcd.2]
theorem iE: ∀(l m:List AC),l.map Mm=m.map Mm->(l.flatMap Un).length=(m.flatMap Un).length
 | [],[],_=>rfl
 | [],_::_,h=>by simp at h
 |_::_,[],h=>by simp at h
 |c::l,d::m,h=>by
  simp only [List.map_cons,List.cons.injEq] at h
  simp only [List.flatMap_cons,List.length_append,iE l m h.2]
  congr 1
  cases c<;>cases d<;>first|rfl|(cases h.1;done)
theorem OR {c d:AV} (h:c.map Mm=d.map Mm):(Up c).length=(Up d).length/\(Up c=Up d->(∀l,c≠ .Jg l)->c=d):=by
 cases c with
 | «at»a=>
  cases d<;>simp only [AV.map,AV.at.injEq,reduceCtorEq] at h
  rename_i b
  have h1: [a].map Mm= [b].map Mm:=by simp [h]
  refine ⟨by simpa [Up] using iE [a] [b] h1,λho _=>?_⟩
  have:=gE [a] [b] h1 (by simpa [Up] using ho)
  simpa using this
 |agg cs=>
  cases d<;>simp only [AV.map,AV.agg.injEq,reduceCtorEq] at h
  rename_i ds
  exact ⟨iE cs ds h,λho _=>by rw [gE cs ds h ho]⟩
 |Uk fr τ x=>
  cases d<;>simp only [AV.map,reduceCtorEq] at h
  exact ⟨rfl,λ_ _=>h⟩
 |Jg l=>
  cases d<;>simp only [AV.map,reduceCtorEq] at h
  exact ⟨rfl,λ_ hn=>absurd rfl (hn l)⟩
theorem va: ∀(l m:List AV),l.map (·.map Mm)=m.map (·.map Mm)->(∀c∈l,c.eO=true)->(l.flatMap Up).length=(m.flatMap Up).length/\(l.flatMap Up=m.flatMap Up->l=m)
 | [],[],_,_=>⟨rfl,λ_=>rfl⟩
 | [],_::_,h,_=>by simp at h
 |_::_,[],h,_=>by simp at h
 |c::l,d::m,h,hn=>by
  simp only [List.map_cons,List.cons.injEq] at h
  obtain ⟨h1,h2⟩:=OR h.1
  obtain ⟨h3,h4⟩:=va l m h.2 λc hc=>hn c (List.mem_cons_of_mem _ hc)
  refine ⟨by simp only [List.flatMap_cons,List.length_append,h1,h3],λho=>?_⟩
  simp only [List.flatMap_cons] at ho
  obtain ⟨g1,g2⟩:=List.append_inj ho h1
  have hnt: ∀l',c≠ .Jg l':= λl' e=>by
   have:=hn c (by simp)
   rw [e] at this
   cases this
  rw [h2 g1 hnt,h4 g2]
theorem QR {c d:OB} (h:c.map Mm=d.map Mm):(fX c).length=(fX d).length/\(fX c=fX d->c=d):=by
 cases c with
 |var t vs=>
  cases d<;>simp only [OB.map,OB.var.injEq,reduceCtorEq] at h
  rename_i t' us
  obtain ⟨rfl,h⟩:=h
  exact ⟨iE vs us h,λho=>by rw [gE vs us h ho]⟩
 |_=>cases d<;>simp only [OB.map,reduceCtorEq] at h<;>exact ⟨rfl,λ_=>h⟩
theorem qF: ∀(l m:List (Nat×OB)),l.map (λp=>(p.1,p.2.map Mm))=m.map (λp=>(p.1,p.2.map Mm))->(l.flatMap λp=>fX p.2)=(m.flatMap λp=>fX p.2)->l=m
 | [],[],_,_=>rfl
 | [],_::_,h,_=>by simp at h
 |_::_,[],h,_=>by simp at h
 |(k,c)::l,(k',d)::m,h,ho=>by
  simp only [List.map_cons,List.cons.injEq,Prod.mk.injEq] at h
  simp only [List.flatMap_cons] at ho
  obtain ⟨h1,h2⟩:=QR h.1.2
  obtain ⟨g1,g2⟩:=List.append_inj ho h1
  rw [h.1.1,h2 g1,qF l m h.2 g2]
theorem uZ (l:List (Bool×List AC)) (e:AV) {R:Type} (r:R):fv (.Jg l) e r=none:=by cases e<;>rfl
theorem sa {d e:AV} {R:Type} {r:R} {v:YR d R} (h:fv d e r=some v):d.eO=true:=by
 cases d with
 |Jg l=>rw [uZ] at h;cases h
 |_=>rfl
theorem dt: ∀(l m:List AV) {R:Type} (r:R) (v:lh l R),Jv l m r=some v-> ∀c∈l,c.eO=true
 | [],_,_,_,_,_,c,hc=>by cases hc
 |d::l,[],_,r,v,h,c,hc=>by cases h
 |d::l,e::m,R,r,v,h,c,hc=>by
  simp only [Jv] at h
  cases hr:Jv l m r with
  |none=>rw [hr] at h;cases h
  |some r'=>
   rw [hr] at h
   rcases List.mem_cons.1 hc with hc|hc
   ·rw [hc];exact sa h
   ·exact dt l m r r' hr c hc
theorem qw {s0 s:St} (h:eqW s0 s):s=s0:=by
 obtain ⟨ho,h⟩:=h
 obtain ⟨v,h1,h2⟩:=At.1 h
 subst h2
 have hn: ∀c∈s0.tmps,c.eO=true:=by
  unfold dp at h1
  cases hr:Kl s0.heap s.heap () with
  |none=>rw [hr] at h1;cases h1
  |some r=>rw [hr] at h1;exact dt _ _ _ _ h1
 have e:=(dq h1).symm.trans (dq (ld s0 hn))
 simp only [St.Gp,St.mk.injEq] at e
 obtain ⟨e1,e2⟩:=e
 obtain ⟨l1,l2⟩:=va s0.tmps s.tmps e1.symm hn
 unfold zU at ho
 obtain ⟨g1,g2⟩:=List.append_inj ho l1.symm
 have k1:=l2 g1.symm
 have k2:=qF s.heap s0.heap e2 g2
 cases s;cases s0
 simp only at k1 k2
 rw [k1,k2]
end Go.Proofs.Ytjbdmibbbpdnnaa
