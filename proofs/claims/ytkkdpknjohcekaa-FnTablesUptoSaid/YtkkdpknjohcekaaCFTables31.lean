/-
  Part 32 of the proof that the statement FnTables holds.
-/
import Derived.Test.YtkkdpknjohcekaaCFTables30
namespace Go.Proofs.Ytkkdpknjohcekaa
open Go.RowKit
def Ro:AC->AC
 | .own l _ _=> .own l 0 0
 |c=>c
theorem nq: ∀(c d:AC) {R:Type} (r:R) (v:acV c R),ma c d r=some v->Ro (jG c v).1=Ro d/\(jG c v).2=r:=by
 intro c d R r v h
 cases c<;>cases d<;>simp only [ma] at h<;>first|(cases h;first|done|exact ⟨rfl,rfl⟩)|skip
 all_goals
  split at h
  ·rename_i hc
   first
    |(obtain ⟨h1,h2⟩:=hc;subst h1;subst h2;injection h with h;subst h;exact ⟨rfl,rfl⟩)
    |(subst hc;injection h with h;subst h;exact ⟨rfl,rfl⟩)
  ·cases h
theorem cS: ∀(l m:List AC) {R:Type} (r:R) (v:BT l R),Qw l m r=some v->(Yw l v).1.map Ro=m.map Ro/\(Yw l v).2=r
 | [],[],R,r,v,h=>by simp only [Qw] at h;injection h with h;subst h;exact ⟨rfl,rfl⟩
 | [],_::_,R,r,v,h=>by simp [Qw] at h
 |_::_,[],R,r,v,h=>by simp [Qw] at h
 |c::l,d::m,R,r,v,h=>by
  simp only [Qw] at h
  cases hr:Qw l m r with
  |none=>rw [hr] at h;cases h
  |some r'=>
   rw [hr] at h
   obtain ⟨h1,h2⟩:=nq c d r' v h
   obtain ⟨h3,h4⟩:=cS l m r r' hr
   simp only [Yw,Bh]
   rw [h1,h2,h3]
   exact ⟨rfl,h4⟩
theorem yi: ∀(c d:AV) {R:Type} (r:R) (v:avV c R),jL c d r=some v->(pN c v).1.map Ro=d.map Ro/\(pN c v).2=r
 | .at a, .at b,R,r,v,h=>by
  obtain ⟨h1,h2⟩:=nq a b r v h
  exact ⟨by show AV.at _=AV.at _;rw [h1],h2⟩
 | .agg cs, .agg ds,R,r,v,h=>by
  obtain ⟨h1,h2⟩:=cS cs ds r v h
  exact ⟨by show AV.agg _=AV.agg _;rw [h1],h2⟩
 | .Zw fr τ y, .Zw Um Nh x,R,r,v,h=>by
  by_cases hc:Nh=τ/\Um=fr
  ·obtain ⟨h1,h2⟩:=hc
   subst h1;subst h2
   have h3:some ((x,r):Nh.den×R)=some v:=by
    have:jL (.Zw Um Nh y) (.Zw Um Nh x) r=some ((x,r):Nh.den×R):=Ik ⟨rfl,rfl⟩
    exact this.symm.trans h
   injection h3 with h3
   subst h3;exact ⟨rfl,rfl⟩
  ·have h3:jL (.Zw fr τ y) (.Zw Um Nh x) r=none:=dif_neg hc
   rw [h3] at h;cases h
 | .at _, .agg _,_,_,_,h=>nomatch (show none=some _ from h)
 | .at _, .Zw _ _ _,_,_,_,h=>nomatch (show none=some _ from h)
 | .agg _, .at _,_,_,_,h=>nomatch (show none=some _ from h)
 | .agg _, .Zw _ _ _,_,_,_,h=>nomatch (show none=some _ from h)
 | .Zw _ _ _, .at _,_,_,_,h=>nomatch (show none=some _ from h)
 | .Zw _ _ _, .agg _,_,_,_,h=>nomatch (show none=some _ from h)
 | .Mb _, .at _,_,_,_,h=>nomatch (show none=some _ from h)
 | .Mb _, .agg _,_,_,_,h=>nomatch (show none=some _ from h)
 | .Mb _, .Zw _ _ _,_,_,_,h=>nomatch (show none=some _ from h)
 | .Mb _, .Mb _,_,_,_,h=>nomatch (show none=some _ from h)
 | .at _, .Mb _,_,_,_,h=>nomatch (show none=some _ from h)
 | .agg _, .Mb _,_,_,_,h=>nomatch (show none=some _ from h)
 | .Zw _ _ _, .Mb _,_,_,_,h=>nomatch (show none=some _ from h)
theorem zx: ∀(c d:OB) {R:Type} (r:R) (v:obV c R),Rr c d r=some v->(qU c v).1.map Ro=d.map Ro/\(qU c v).2=r
 | .arr fr tr e tid ys, .arr Um SX e' Tf xs,R,r,v,h=>by
  by_cases hc:e'=e/\Um=fr/\SX=tr/\Tf=tid
  ·obtain ⟨h1,h2,h3,h4⟩:=hc
   subst h1;subst h2;subst h3;subst h4
   have h3:some ((xs,r):List e'.den×R)=some v:=by
    have:Rr (.arr Um SX e' Tf ys) (.arr Um SX e' Tf xs) r=some ((xs,r):List e'.den×R):=Ik ⟨rfl,rfl,rfl,rfl⟩
    exact this.symm.trans h
   injection h3 with h3
   subst h3;exact ⟨rfl,rfl⟩
  ·have h3:Rr (.arr fr tr e tid ys) (.arr Um SX e' Tf xs) r=none:=dif_neg hc
   rw [h3] at h;cases h
 | .Gl e tid ys, .Gl e' Tf xs,R,r,v,h=>by
  by_cases hc:e'=e/\Tf=tid
  ·obtain ⟨h1,h4⟩:=hc
   subst h1;subst h4
   have h3:some ((xs,r):List e'.den×R)=some v:=by
    have:Rr (.Gl e' Tf ys) (.Gl e' Tf xs) r=some ((xs,r):List e'.den×R):=Ik ⟨rfl,rfl⟩
    exact this.symm.trans h
   injection h3 with h3
   subst h3;exact ⟨rfl,rfl⟩
  ·have h3:Rr (.Gl e tid ys) (.Gl e' Tf xs) r=none:=dif_neg hc
   rw [h3] at h;cases h
 | .Ub vt m, .Ub vt' m',R,r,v,h=>by
  by_cases hc:vt'=vt
  ·subst hc
   have h3:some ((m',r):(ByteArray->Option vt'.den)×R)=some v:=by
    have:Rr (.Ub vt' m) (.Ub vt' m') r=some ((m',r):(ByteArray->Option vt'.den)×R):=Ik rfl
    exact this.symm.trans h
   injection h3 with h3
   subst h3;exact ⟨rfl,rfl⟩
  ·have h3:Rr (.Ub vt m) (.Ub vt' m') r=none:=dif_neg hc
   rw [h3] at h;cases h
 | .var t vs, .var t' us,R,r,v,h=>by
  by_cases hc:t'=t
  ·subst hc
   have h0:Rr (.var t' vs) (.var t' us) r=Qw vs us r:=Ab rfl
   rw [h0] at h
   obtain ⟨h1,h2⟩:=cS vs us r v h
   exact ⟨by show OB.var _ _=OB.var _ _;rw [h1],h2⟩
  ·have h3:Rr (.var t vs) (.var t' us) r=none:=Al hc
   rw [h3] at h;cases h
 | .Bm e te ys out none, .Bm e' Qg xs eW none,R,r,v,h=>by
  by_cases hc:e'=e/\Qg=te/\eW=out
  ·obtain ⟨h1,h2,h4⟩:=hc
   subst h1;subst h2;subst h4
   have h3:some ((xs,r):List (List e'.den)×R)=some v:=by
    have:Rr (.Bm e' Qg ys eW none) (.Bm e' Qg xs eW none) r=some ((xs,r):List (List e'.den)×R):=Ik ⟨rfl,rfl,rfl⟩
    exact this.symm.trans h
   injection h3 with h3
   subst h3;exact ⟨rfl,rfl⟩
  ·have h3:Rr (.Bm e te ys out none) (.Bm e' Qg xs eW none) r=none:=dif_neg hc
   rw [h3] at h;cases h
 | .Bm e te ys out (some p), .Bm e' Qg xs eW (some p'),R,r,v,h=>by
  by_cases hc:e'=e/\Qg=te/\eW=out/\p'.1=p.1
  ·obtain ⟨h1,h2,h4,h5⟩:=hc
   subst h1;subst h2;subst h4
   have h3:some ((xs,p'.2,r):List (List e'.den)×(Nat×R))=some v:=by
    have:Rr (.Bm e' Qg ys eW (some p)) (.Bm e' Qg xs eW (some p')) r=some ((xs,p'.2,r):List (List e'.den)×(Nat×R)):=Ik ⟨rfl,rfl,rfl,h5⟩
    exact this.symm.trans h
   injection h3 with h3
   subst h3
   refine ⟨?_,rfl⟩
   show OB.Bm e' Qg xs eW (some (p.1,p'.2))=OB.Bm e' Qg xs eW (some p')
   rw [<-h5]
  ·have h3:Rr (.Bm e te ys out (some p)) (.Bm e' Qg xs eW (some p')) r=none:=dif_neg hc
   rw [h3] at h;cases h
 | .Bm _ _ _ _ none, .Bm _ _ _ _ (some _),_,_,_,h=>nomatch (show none=some _ from h)
 | .Bm _ _ _ _ (some _), .Bm _ _ _ _ none,_,_,_,h=>nomatch (show none=some _ from h)
 | .Bm _ _ _ _ none, .arr _ _ _ _ _,_,_,_,h=>nomatch (show none=some _ from h)
 | .Bm _ _ _ _ none, .Gl _ _ _,_,_,_,h=>nomatch (show none=some _ from h)
 | .Bm _ _ _ _ none, .var _ _,_,_,_,h=>nomatch (show none=some _ from h)
 | .Bm _ _ _ _ none, .Ub _ _,_,_,_,h=>nomatch (show none=some _ from h)
 | .Bm _ _ _ _ (some _), .arr _ _ _ _ _,_,_,_,h=>nomatch (show none=some _ from h)
 | .Bm _ _ _ _ (some _), .Gl _ _ _,_,_,_,h=>nomatch (show none=some _ from h)
 | .Bm _ _ _ _ (some _), .var _ _,_,_,_,h=>nomatch (show none=some _ from h)
 | .Bm _ _ _ _ (some _), .Ub _ _,_,_,_,h=>nomatch (show none=some _ from h)
 | .arr _ _ _ _ _, .Bm _ _ _ _ _,_,_,_,h=>nomatch (show none=some _ from h)
 | .Gl _ _ _, .Bm _ _ _ _ _,_,_,_,h=>nomatch (show none=some _ from h)
 | .var _ _, .Bm _ _ _ _ _,_,_,_,h=>nomatch (show none=some _ from h)
 | .Ub _ _, .Bm _ _ _ _ _,_,_,_,h=>nomatch (show none=some _ from h)
 | .arr _ _ _ _ _, .var _ _,_,_,_,h=>nomatch (show none=some _ from h)
 | .arr _ _ _ _ _, .Gl _ _ _,_,_,_,h=>nomatch (show none=some _ from h)
 | .arr _ _ _ _ _, .Ub _ _,_,_,_,h=>nomatch (show none=some _ from h)
 | .Gl _ _ _, .var _ _,_,_,_,h=>nomatch (show none=some _ from h)
 | .Gl _ _ _, .arr _ _ _ _ _,_,_,_,h=>nomatch (show none=some _ from h)
 | .Gl _ _ _, .Ub _ _,_,_,_,h=>nomatch (show none=some _ from h)
 | .Ub _ _, .var _ _,_,_,_,h=>nomatch (show none=some _ from h)
 | .Ub _ _, .arr _ _ _ _ _,_,_,_,h=>nomatch (show none=some _ from h)
 | .Ub _ _, .Gl _ _ _,_,_,_,h=>nomatch (show none=some _ from h)
 | .var _ _, .arr _ _ _ _ _,_,_,_,h=>nomatch (show none=some _ from h)
 | .var _ _, .Gl _ _ _,_,_,_,h=>nomatch (show none=some _ from h)
 | .var _ _, .Ub _ _,_,_,_,h=>nomatch (show none=some _ from h)
theorem ju: ∀(l m:List AV) {R:Type} (r:R) (v:o9 l R),Oa l m r=some v->(Vg l v).1.map (·.map Ro)=m.map (·.map Ro)/\(Vg l v).2=r
 | [],[],R,r,v,h=>by simp only [Oa] at h;injection h with h;subst h;exact ⟨rfl,rfl⟩
 | [],_::_,R,r,v,h=>by simp [Oa] at h
 |_::_,[],R,r,v,h=>by simp [Oa] at h
 |c::l,d::m,R,r,v,h=>by
  simp only [Oa] at h
  cases hr:Oa l m r with
  |none=>rw [hr] at h;cases h
  |some r'=>
   rw [hr] at h
   obtain ⟨h1,h2⟩:=yi c d r' v h
   obtain ⟨h3,h4⟩:=ju l m r r' hr
   simp only [Vg,Bh]
   rw [h1,h2,h3]
   exact ⟨rfl,h4⟩
theorem j6: ∀(l m:List (Nat×OB)) {R:Type} (r:R) (v:u5 l R),Pf l m r=some v->(cv l v).1.map (λp=>(p.1,p.2.map Ro))=m.map (λp=>(p.1,p.2.map Ro))/\(cv l v).2=r
 | [],[],R,r,v,h=>by simp only [Pf] at h;injection h with h;subst h;exact ⟨rfl,rfl⟩
 | [],_::_,R,r,v,h=>by simp [Pf] at h
 |_::_,[],R,r,v,h=>by simp [Pf] at h
 |c::l,d::m,R,r,v,h=>by
  simp only [Pf] at h
  split at h
  ·rename_i hk
   cases hr:Pf l m r with
   |none=>rw [hr] at h;cases h
   |some r'=>
    rw [hr] at h
    obtain ⟨h1,h2⟩:=zx c.2 d.2 r' v h
    obtain ⟨h3,h4⟩:=j6 l m r r' hr
    simp only [cv,Bh]
    rw [h1,h2,h3,hk]
    exact ⟨rfl,h4⟩
  ·cases h
theorem gT {s t:St} {v:stV s} (h:gS s t=some v):(gR s v).Kh Ro=t.Kh Ro:=by
 unfold gS at h
 cases hr:Pf s.heap t.heap () with
 |none=>rw [hr] at h;cases h
 |some r=>
  rw [hr] at h
  obtain ⟨h1,h2⟩:=ju s.tmps t.tmps r v h
  obtain ⟨h3,_⟩:=j6 s.heap t.heap () r hr
  simp only [gR,St.Kh]
  rw [h1,h2,h3]
theorem nt: ∀(c:AC) {R:Type} (r:R),ma c c r=some (GU c r):=by
 intro c R r
 cases c<;>simp [ma,GU]
theorem cT: ∀(l:List AC) {R:Type} (r:R),Qw l l r=some (pE l r)
 | [],_,_=>rfl
 |c::l,_,r=>by simp only [Qw,cT l r,pE];exact nt c _
def AV.jf:AV->Bool
 | .Mb _=>false
 |_=>true
theorem yj: ∀(c:AV),c.jf=true-> ∀ {R:Type} (r:R),jL c c r=some (XA c r):=by
 intro c hn R r
 cases c with
 |Mb l=>cases hn
 | «at»a=>exact nt a r
 |agg cs=>exact cT cs r
 |Zw fr τ x=>exact Ik ⟨rfl,rfl⟩
theorem zy: ∀(c:OB) {R:Type} (r:R),Rr c c r=some (YN c r):=by
 intro c R r
 cases c with
 |arr fr tr e t xs=>exact Ik ⟨rfl,rfl,rfl,rfl⟩
 |Gl e t xs=>exact Ik ⟨rfl,rfl⟩
 |Ub v m=>exact Ik rfl
 |Bm e te rows out kp=>
  cases kp with
  |none=>exact Ik ⟨rfl,rfl,rfl⟩
  |some p=>exact Ik ⟨rfl,rfl,rfl,rfl⟩
 |var t vs=>
  have h0:Rr (.var t vs) (.var t vs) r=Qw vs vs r:=Ab rfl
  exact h0.trans (cT vs r)
theorem jv: ∀(l:List AV),(∀c∈l,c.jf=true)-> ∀ {R:Type} (r:R),Oa l l r=some (po l r)
 | [],_,_,_=>rfl
 |c::l,h,_,r=>by simp only [Oa,jv l (λc hc=>h c (An _ hc)) r,po];exact yj c (h c (by simp)) _
theorem j7: ∀(l:List (Nat×OB)) {R:Type} (r:R),Pf l l r=some (pa l r)
 | [],_,_=>rfl
 |c::l,_,r=>by simp only [Pf,Pw,j7 l r,pa];exact zy c.2 _
theorem o5 (s:St) (h: ∀c∈s.tmps,c.jf=true):gS s s=some (IM s):=by
 simp only [gS,j7,IM]
 exact jv _ h _
theorem Bq {α:Type} {o:Option α} {K:α->Prop} :Hc o K↔ ∃x,o=some x/\K x:=by
 unfold Hc
 cases o with
 |none=>simp
 |some x=>simp
theorem kG: ∀(l m:List AC),l.map Ro=m.map Ro->l.flatMap a5=m.flatMap a5->l=m
 | [],[],_,_=>rfl
 | [],_::_,h,_=>by simp at h
 |_::_,[],h,_=>by simp at h
 |c::l,d::m,h,ho=>by
  simp only [Bh,Gi] at h
  simp only [aO] at ho
  have hcd:c=d/\l.flatMap a5=m.flatMap a5:=by
   cases c<;>cases d<;>first|(cases h.1;done)|skip
   all_goals first
    |(obtain ⟨h1,_⟩:=h
      simp only [Ro,AC.own.injEq] at h1
      simp only [a5,Rj,List.nil_append,Gi,Ae] at ho
      exact ⟨by rw [h1.1,ho.1.1,ho.1.2],ho.2⟩)
    |exact ⟨h.1,by simpa only [a5,List.nil_append] using ho⟩
  rw [hcd.1,kG l m h.2 hcd.2]
theorem lC: ∀(l m:List AC),l.map Ro=m.map Ro->(l.flatMap a5).length=(m.flatMap a5).length
 | [],[],_=>rfl
 | [],_::_,h=>by simp at h
 |_::_,[],h=>by simp at h
 |c::l,d::m,h=>by
  simp only [Bh,Gi] at h
  simp only [aO,Au,lC l m h.2]
  congr 1
  cases c<;>cases d<;>first|rfl|(cases h.1;done)
theorem UM {c d:AV} (h:c.map Ro=d.map Ro):(a7 c).length=(a7 d).length/\(a7 c=a7 d->(∀l,c≠ .Mb l)->c=d):=by
 cases c with
 | «at»a=>
  cases d<;>simp only [AV.map,AV.at.injEq,reduceCtorEq] at h
  rename_i b
  have h1: [a].map Ro= [b].map Ro:=by simp [h]
  refine ⟨by simpa [a7] using lC [a] [b] h1,λho _=>?_⟩
  have:=kG [a] [b] h1 (by simpa [a7] using ho)
  simpa using this
 |agg cs=>
  cases d<;>simp only [AV.map,AV.agg.injEq,reduceCtorEq] at h
  rename_i ds
  exact ⟨lC cs ds h,λho _=>by rw [kG cs ds h ho]⟩
 |Zw fr τ x=>
  cases d<;>simp only [AV.map,reduceCtorEq] at h
  exact ⟨rfl,λ_ _=>h⟩
 |Mb l=>
  cases d<;>simp only [AV.map,reduceCtorEq] at h
  exact ⟨rfl,λ_ hn=>absurd rfl (hn l)⟩
theorem yl: ∀(l m:List AV),l.map (·.map Ro)=m.map (·.map Ro)->(∀c∈l,c.jf=true)->(l.flatMap a7).length=(m.flatMap a7).length/\(l.flatMap a7=m.flatMap a7->l=m)
 | [],[],_,_=>⟨rfl,λ_=>rfl⟩
 | [],_::_,h,_=>by simp at h
 |_::_,[],h,_=>by simp at h
 |c::l,d::m,h,hn=>by
  simp only [Bh,Gi] at h
  obtain ⟨h1,h2⟩:=UM h.1
  obtain ⟨h3,h4⟩:=yl l m h.2 λc hc=>hn c (An _ hc)
  refine ⟨by simp only [aO,Au,h1,h3],λho=>?_⟩
  simp only [aO] at ho
  obtain ⟨g1,g2⟩:=List.append_inj ho h1
  have hnt: ∀l',c≠ .Mb l':= λl' e=>by
   have:=hn c (by simp)
   rw [e] at this
   cases this
  rw [h2 g1 hnt,h4 g2]
theorem VV {c d:OB} (h:c.map Ro=d.map Ro):(kh c).length=(kh d).length/\(kh c=kh d->c=d):=by
 cases c with
 |var t vs=>
  cases d<;>simp only [OB.map,OB.var.injEq,reduceCtorEq] at h
  rename_i t' us
  obtain ⟨rfl,h⟩:=h
  exact ⟨lC vs us h,λho=>by rw [kG vs us h ho]⟩
 |_=>cases d<;>simp only [OB.map,reduceCtorEq] at h<;>exact ⟨rfl,λ_=>h⟩
theorem u6: ∀(l m:List (Nat×OB)),l.map (λp=>(p.1,p.2.map Ro))=m.map (λp=>(p.1,p.2.map Ro))->(l.flatMap λp=>kh p.2)=(m.flatMap λp=>kh p.2)->l=m
 | [],[],_,_=>rfl
 | [],_::_,h,_=>by simp at h
 |_::_,[],h,_=>by simp at h
 |(k,c)::l,(k',d)::m,h,ho=>by
  simp only [Bh,Gi,Ae] at h
  simp only [aO] at ho
  obtain ⟨h1,h2⟩:=VV h.1.2
  obtain ⟨g1,g2⟩:=List.append_inj ho h1
  rw [h.1.1,h2 g1,u6 l m h.2 g2]
theorem yk (l:List (Bool×List AC)) (e:AV) {R:Type} (r:R):jL (.Mb l) e r=none:=by cases e<;>rfl
theorem vD {d e:AV} {R:Type} {r:R} {v:avV d R} (h:jL d e r=some v):d.jf=true:=by
 cases d with
 |Mb l=>rw [yk] at h;cases h
 |_=>rfl
theorem gV: ∀(l m:List AV) {R:Type} (r:R) (v:o9 l R),Oa l m r=some v-> ∀c∈l,c.jf=true
 | [],_,_,_,_,_,c,hc=>by cases hc
 |d::l,[],_,r,v,h,c,hc=>by cases h
 |d::l,e::m,R,r,v,h,c,hc=>by
  simp only [Oa] at h
  cases hr:Oa l m r with
  |none=>rw [hr] at h;cases h
  |some r'=>
   rw [hr] at h
   rcases Bb.1 hc with hc|hc
   ·rw [hc];exact vD h
   ·exact gV l m r r' hr c hc
theorem cd {s0 s:St} (h:eqW s0 s):s=s0:=by
 obtain ⟨ho,h⟩:=h
 obtain ⟨v,h1,h2⟩:=Bq.1 h
 subst h2
 have hn: ∀c∈s0.tmps,c.jf=true:=by
  unfold gS at h1
  cases hr:Pf s0.heap s.heap () with
  |none=>rw [hr] at h1;cases h1
  |some r=>rw [hr] at h1;exact gV _ _ _ _ h1
 have e:=(gT h1).symm.trans (gT (o5 s0 hn))
 simp only [St.Kh,St.mk.injEq] at e
 obtain ⟨e1,e2⟩:=e
 obtain ⟨l1,l2⟩:=yl s0.tmps s.tmps e1.symm hn
 unfold FI at ho
 obtain ⟨g1,g2⟩:=List.append_inj ho l1.symm
 have k1:=l2 g1.symm
 have k2:=u6 s.heap s0.heap e2 g2
 cases s;cases s0
 simp only at k1 k2
 rw [k1,k2]
end Go.Proofs.Ytkkdpknjohcekaa
