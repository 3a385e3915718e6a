/-
  Part 32 of the proof that the statement FnPatterns holds.
-/
import Derived.Test.YtkkdpknjohcekaaGreatCFPatterns30
namespace Go.Proofs.YtkkdpknjohcekaaGreat
open Go.RowKit
def Tc:AC->AC
 | .own l _ _=> .own l 0 0
 |c=>c
theorem pV: ∀(c d:AC) {R:Type} (r:R) (v:acV c R),oJ c d r=some v->Tc (lI c v).1=Tc d/\(lI c v).2=r:=by
 intro c d R r v h
 cases c<;>cases d<;>simp only [oJ] at h<;>first|(cases h;first|done|exact ⟨rfl,rfl⟩)|skip
 all_goals
  split at h
  ·rename_i hc
   first
    |(obtain ⟨h1,h2⟩:=hc;subst h1;subst h2;injection h with h;subst h;exact ⟨rfl,rfl⟩)
    |(subst hc;injection h with h;subst h;exact ⟨rfl,rfl⟩)
  ·cases h
theorem eY: ∀(l m:List AC) {R:Type} (r:R) (v:KJ l R),Si l m r=some v->(aI l v).1.map Tc=m.map Tc/\(aI l v).2=r
 | [],[],R,r,v,h=>by simp only [Si] at h;injection h with h;subst h;exact ⟨rfl,rfl⟩
 | [],_::_,R,r,v,h=>by simp [Si] at h
 |_::_,[],R,r,v,h=>by simp [Si] at h
 |c::l,d::m,R,r,v,h=>by
  simp only [Si] at h
  cases hr:Si l m r with
  |none=>rw [hr] at h;cases h
  |some r'=>
   rw [hr] at h
   obtain ⟨h1,h2⟩:=pV c d r' v h
   obtain ⟨h3,h4⟩:=eY l m r r' hr
   simp only [aI,Bu]
   rw [h1,h2,h3]
   exact ⟨rfl,h4⟩
theorem DT: ∀(c d:AV) {R:Type} (r:R) (v:avV c R),lO c d r=some v->(sw c v).1.map Tc=d.map Tc/\(sw c v).2=r
 | .at a, .at b,R,r,v,h=>by
  obtain ⟨h1,h2⟩:=pV a b r v h
  exact ⟨by show AV.at _=AV.at _;rw [h1],h2⟩
 | .agg cs, .agg ds,R,r,v,h=>by
  obtain ⟨h1,h2⟩:=eY cs ds r v h
  exact ⟨by show AV.agg _=AV.agg _;rw [h1],h2⟩
 | .bw fr τ y, .bw Wh Oe x,R,r,v,h=>by
  by_cases hc:Oe=τ/\Wh=fr
  ·obtain ⟨h1,h2⟩:=hc
   subst h1;subst h2
   have h3:some ((x,r):Oe.den×R)=some v:=by
    have:lO (.bw Wh Oe y) (.bw Wh Oe x) r=some ((x,r):Oe.den×R):=Jg ⟨rfl,rfl⟩
    exact this.symm.trans h
   injection h3 with h3
   subst h3;exact ⟨rfl,rfl⟩
  ·have h3:lO (.bw fr τ y) (.bw Wh Oe x) r=none:=dif_neg hc
   rw [h3] at h;cases h
 | .at _, .agg _,_,_,_,h=>nomatch (show none=some _ from h)
 | .at _, .bw _ _ _,_,_,_,h=>nomatch (show none=some _ from h)
 | .agg _, .at _,_,_,_,h=>nomatch (show none=some _ from h)
 | .agg _, .bw _ _ _,_,_,_,h=>nomatch (show none=some _ from h)
 | .bw _ _ _, .at _,_,_,_,h=>nomatch (show none=some _ from h)
 | .bw _ _ _, .agg _,_,_,_,h=>nomatch (show none=some _ from h)
 | .Mt _, .at _,_,_,_,h=>nomatch (show none=some _ from h)
 | .Mt _, .agg _,_,_,_,h=>nomatch (show none=some _ from h)
 | .Mt _, .bw _ _ _,_,_,_,h=>nomatch (show none=some _ from h)
 | .Mt _, .Mt _,_,_,_,h=>nomatch (show none=some _ from h)
 | .at _, .Mt _,_,_,_,h=>nomatch (show none=some _ from h)
 | .agg _, .Mt _,_,_,_,h=>nomatch (show none=some _ from h)
 | .bw _ _ _, .Mt _,_,_,_,h=>nomatch (show none=some _ from h)
theorem HC: ∀(c d:OB) {R:Type} (r:R) (v:obV c R),Tf c d r=some v->(tZ c v).1.map Tc=d.map Tc/\(tZ c v).2=r
 | .arr fr tr e tid ys, .arr Wh tr' e' Vc xs,R,r,v,h=>by
  by_cases hc:e'=e/\Wh=fr/\tr'=tr/\Vc=tid
  ·obtain ⟨h1,h2,h3,h4⟩:=hc
   subst h1;subst h2;subst h3;subst h4
   have h3:some ((xs,r):List e'.den×R)=some v:=by
    have:Tf (.arr Wh tr' e' Vc ys) (.arr Wh tr' e' Vc xs) r=some ((xs,r):List e'.den×R):=Jg ⟨rfl,rfl,rfl,rfl⟩
    exact this.symm.trans h
   injection h3 with h3
   subst h3;exact ⟨rfl,rfl⟩
  ·have h3:Tf (.arr fr tr e tid ys) (.arr Wh tr' e' Vc xs) r=none:=dif_neg hc
   rw [h3] at h;cases h
 | .Hf e tid ys, .Hf e' Vc xs,R,r,v,h=>by
  by_cases hc:e'=e/\Vc=tid
  ·obtain ⟨h1,h4⟩:=hc
   subst h1;subst h4
   have h3:some ((xs,r):List e'.den×R)=some v:=by
    have:Tf (.Hf e' Vc ys) (.Hf e' Vc xs) r=some ((xs,r):List e'.den×R):=Jg ⟨rfl,rfl⟩
    exact this.symm.trans h
   injection h3 with h3
   subst h3;exact ⟨rfl,rfl⟩
  ·have h3:Tf (.Hf e tid ys) (.Hf e' Vc xs) r=none:=dif_neg hc
   rw [h3] at h;cases h
 | .Vw vt m, .Vw vt' m',R,r,v,h=>by
  by_cases hc:vt'=vt
  ·subst hc
   have h3:some ((m',r):(ByteArray->Option vt'.den)×R)=some v:=by
    have:Tf (.Vw vt' m) (.Vw vt' m') r=some ((m',r):(ByteArray->Option vt'.den)×R):=Jg rfl
    exact this.symm.trans h
   injection h3 with h3
   subst h3;exact ⟨rfl,rfl⟩
  ·have h3:Tf (.Vw vt m) (.Vw vt' m') r=none:=dif_neg hc
   rw [h3] at h;cases h
 | .var t vs, .var t' us,R,r,v,h=>by
  by_cases hc:t'=t
  ·subst hc
   have h0:Tf (.var t' vs) (.var t' us) r=Si vs us r:=Ab rfl
   rw [h0] at h
   obtain ⟨h1,h2⟩:=eY vs us r v h
   exact ⟨by show OB.var _ _=OB.var _ _;rw [h1],h2⟩
  ·have h3:Tf (.var t vs) (.var t' us) r=none:=Ak hc
   rw [h3] at h;cases h
 | .Bl e te ys out none, .Bl e' Ri xs hY none,R,r,v,h=>by
  by_cases hc:e'=e/\Ri=te/\hY=out
  ·obtain ⟨h1,h2,h4⟩:=hc
   subst h1;subst h2;subst h4
   have h3:some ((xs,r):List (List e'.den)×R)=some v:=by
    have:Tf (.Bl e' Ri ys hY none) (.Bl e' Ri xs hY none) r=some ((xs,r):List (List e'.den)×R):=Jg ⟨rfl,rfl,rfl⟩
    exact this.symm.trans h
   injection h3 with h3
   subst h3;exact ⟨rfl,rfl⟩
  ·have h3:Tf (.Bl e te ys out none) (.Bl e' Ri xs hY none) r=none:=dif_neg hc
   rw [h3] at h;cases h
 | .Bl e te ys out (some p), .Bl e' Ri xs hY (some p'),R,r,v,h=>by
  by_cases hc:e'=e/\Ri=te/\hY=out/\p'.1=p.1
  ·obtain ⟨h1,h2,h4,h5⟩:=hc
   subst h1;subst h2;subst h4
   have h3:some ((xs,p'.2,r):List (List e'.den)×(Nat×R))=some v:=by
    have:Tf (.Bl e' Ri ys hY (some p)) (.Bl e' Ri xs hY (some p')) r=some ((xs,p'.2,r):List (List e'.den)×(Nat×R)):=Jg ⟨rfl,rfl,rfl,h5⟩
    exact this.symm.trans h
   injection h3 with h3
   subst h3
   refine ⟨?_,rfl⟩
   show OB.Bl e' Ri xs hY (some (p.1,p'.2))=OB.Bl e' Ri xs hY (some p')
   rw [<-h5]
  ·have h3:Tf (.Bl e te ys out (some p)) (.Bl e' Ri xs hY (some p')) r=none:=dif_neg hc
   rw [h3] at h;cases h
 | .Bl _ _ _ _ none, .Bl _ _ _ _ (some _),_,_,_,h=>nomatch (show none=some _ from h)
 | .Bl _ _ _ _ (some _), .Bl _ _ _ _ none,_,_,_,h=>nomatch (show none=some _ from h)
 | .Bl _ _ _ _ none, .arr _ _ _ _ _,_,_,_,h=>nomatch (show none=some _ from h)
 | .Bl _ _ _ _ none, .Hf _ _ _,_,_,_,h=>nomatch (show none=some _ from h)
 | .Bl _ _ _ _ none, .var _ _,_,_,_,h=>nomatch (show none=some _ from h)
 | .Bl _ _ _ _ none, .Vw _ _,_,_,_,h=>nomatch (show none=some _ from h)
 | .Bl _ _ _ _ (some _), .arr _ _ _ _ _,_,_,_,h=>nomatch (show none=some _ from h)
 | .Bl _ _ _ _ (some _), .Hf _ _ _,_,_,_,h=>nomatch (show none=some _ from h)
 | .Bl _ _ _ _ (some _), .var _ _,_,_,_,h=>nomatch (show none=some _ from h)
 | .Bl _ _ _ _ (some _), .Vw _ _,_,_,_,h=>nomatch (show none=some _ from h)
 | .arr _ _ _ _ _, .Bl _ _ _ _ _,_,_,_,h=>nomatch (show none=some _ from h)
 | .Hf _ _ _, .Bl _ _ _ _ _,_,_,_,h=>nomatch (show none=some _ from h)
 | .var _ _, .Bl _ _ _ _ _,_,_,_,h=>nomatch (show none=some _ from h)
 | .Vw _ _, .Bl _ _ _ _ _,_,_,_,h=>nomatch (show none=some _ from h)
 | .arr _ _ _ _ _, .var _ _,_,_,_,h=>nomatch (show none=some _ from h)
 | .arr _ _ _ _ _, .Hf _ _ _,_,_,_,h=>nomatch (show none=some _ from h)
 | .arr _ _ _ _ _, .Vw _ _,_,_,_,h=>nomatch (show none=some _ from h)
 | .Hf _ _ _, .var _ _,_,_,_,h=>nomatch (show none=some _ from h)
 | .Hf _ _ _, .arr _ _ _ _ _,_,_,_,h=>nomatch (show none=some _ from h)
 | .Hf _ _ _, .Vw _ _,_,_,_,h=>nomatch (show none=some _ from h)
 | .Vw _ _, .var _ _,_,_,_,h=>nomatch (show none=some _ from h)
 | .Vw _ _, .arr _ _ _ _ _,_,_,_,h=>nomatch (show none=some _ from h)
 | .Vw _ _, .Hf _ _ _,_,_,_,h=>nomatch (show none=some _ from h)
 | .var _ _, .arr _ _ _ _ _,_,_,_,h=>nomatch (show none=some _ from h)
 | .var _ _, .Hf _ _ _,_,_,_,h=>nomatch (show none=some _ from h)
 | .var _ _, .Vw _ _,_,_,_,h=>nomatch (show none=some _ from h)
theorem lv: ∀(l m:List AV) {R:Type} (r:R) (v:qU l R),Ow l m r=some v->(Xa l v).1.map (·.map Tc)=m.map (·.map Tc)/\(Xa l v).2=r
 | [],[],R,r,v,h=>by simp only [Ow] at h;injection h with h;subst h;exact ⟨rfl,rfl⟩
 | [],_::_,R,r,v,h=>by simp [Ow] at h
 |_::_,[],R,r,v,h=>by simp [Ow] at h
 |c::l,d::m,R,r,v,h=>by
  simp only [Ow] at h
  cases hr:Ow l m r with
  |none=>rw [hr] at h;cases h
  |some r'=>
   rw [hr] at h
   obtain ⟨h1,h2⟩:=DT c d r' v h
   obtain ⟨h3,h4⟩:=lv l m r r' hr
   simp only [Xa,Bu]
   rw [h1,h2,h3]
   exact ⟨rfl,h4⟩
theorem kW: ∀(l m:List (Nat×OB)) {R:Type} (r:R) (v:xA l R),Qf l m r=some v->(ew l v).1.map (λp=>(p.1,p.2.map Tc))=m.map (λp=>(p.1,p.2.map Tc))/\(ew l v).2=r
 | [],[],R,r,v,h=>by simp only [Qf] at h;injection h with h;subst h;exact ⟨rfl,rfl⟩
 | [],_::_,R,r,v,h=>by simp [Qf] at h
 |_::_,[],R,r,v,h=>by simp [Qf] at h
 |c::l,d::m,R,r,v,h=>by
  simp only [Qf] at h
  split at h
  ·rename_i hk
   cases hr:Qf l m r with
   |none=>rw [hr] at h;cases h
   |some r'=>
    rw [hr] at h
    obtain ⟨h1,h2⟩:=HC c.2 d.2 r' v h
    obtain ⟨h3,h4⟩:=kW l m r r' hr
    simp only [ew,Bu]
    rw [h1,h2,h3,hk]
    exact ⟨rfl,h4⟩
  ·cases h
theorem jA {s t:St} {v:stV s} (h:jz s t=some v):(jy s v).Lb Tc=t.Lb Tc:=by
 unfold jz at h
 cases hr:Qf s.heap t.heap () with
 |none=>rw [hr] at h;cases h
 |some r=>
  rw [hr] at h
  obtain ⟨h1,h2⟩:=lv s.tmps t.tmps r v h
  obtain ⟨h3,_⟩:=kW s.heap t.heap () r hr
  simp only [jy,St.Lb]
  rw [h1,h2,h3]
theorem pW: ∀(c:AC) {R:Type} (r:R),oJ c c r=some (QM c r):=by
 intro c R r
 cases c<;>simp [oJ,QM]
theorem eZ: ∀(l:List AC) {R:Type} (r:R),Si l l r=some (sk l r)
 | [],_,_=>rfl
 |c::l,_,r=>by simp only [Si,eZ l r,sk];exact pW c _
def AV.ld:AV->Bool
 | .Mt _=>false
 |_=>true
theorem DU: ∀(c:AV),c.ld=true-> ∀ {R:Type} (r:R),lO c c r=some (Ag7 c r):=by
 intro c hn R r
 cases c with
 |Mt l=>cases hn
 | «at»a=>exact pW a r
 |agg cs=>exact eZ cs r
 |bw fr τ x=>exact Jg ⟨rfl,rfl⟩
theorem HD: ∀(c:OB) {R:Type} (r:R),Tf c c r=some (Ahi c r):=by
 intro c R r
 cases c with
 |arr fr tr e t xs=>exact Jg ⟨rfl,rfl,rfl,rfl⟩
 |Hf e t xs=>exact Jg ⟨rfl,rfl⟩
 |Vw v m=>exact Jg rfl
 |Bl e te rows out kp=>
  cases kp with
  |none=>exact Jg ⟨rfl,rfl,rfl⟩
  |some p=>exact Jg ⟨rfl,rfl,rfl,rfl⟩
 |var t vs=>
  have h0:Tf (.var t vs) (.var t vs) r=Si vs vs r:=Ab rfl
  exact h0.trans (eZ vs r)
theorem lx: ∀(l:List AV),(∀c∈l,c.ld=true)-> ∀ {R:Type} (r:R),Ow l l r=some (rY l r)
 | [],_,_,_=>rfl
 |c::l,h,_,r=>by simp only [Ow,lx l (λc hc=>h c (Aq _ hc)) r,rY];exact DU c (h c (by simp)) _
theorem kX: ∀(l:List (Nat×OB)) {R:Type} (r:R),Qf l l r=some (rQ l r)
 | [],_,_=>rfl
 |c::l,_,r=>by simp only [Qf,Ph,kX l r,rQ];exact HD c.2 _
theorem qQ (s:St) (h: ∀c∈s.tmps,c.ld=true):jz s s=some (SQ s):=by
 simp only [jz,kX,SQ]
 exact lx _ h _
theorem Cc {α:Type} {o:Option α} {K:α->Prop} :Ie o K↔ ∃x,o=some x/\K x:=by
 unfold Ie
 cases o with
 |none=>simp
 |some x=>simp
theorem mK: ∀(l m:List AC),l.map Tc=m.map Tc->l.flatMap bC=m.flatMap bC->l=m
 | [],[],_,_=>rfl
 | [],_::_,h,_=>by simp at h
 |_::_,[],h,_=>by simp at h
 |c::l,d::m,h,ho=>by
  simp only [Bu,Hb] at h
  simp only [Vx] at ho
  have hcd:c=d/\l.flatMap bC=m.flatMap bC:=by
   cases c<;>cases d<;>first|(cases h.1;done)|skip
   all_goals first
    |(obtain ⟨h1,_⟩:=h
      simp only [Tc,AC.own.injEq] at h1
      simp only [bC,Oz,List.nil_append,Hb,Ae] at ho
      exact ⟨by rw [h1.1,ho.1.1,ho.1.2],ho.2⟩)
    |exact ⟨h.1,by simpa only [bC,List.nil_append] using ho⟩
  rw [hcd.1,mK l m h.2 hcd.2]
theorem nS: ∀(l m:List AC),l.map Tc=m.map Tc->(l.flatMap bC).length=(m.flatMap bC).length
 | [],[],_=>rfl
 | [],_::_,h=>by simp at h
 |_::_,[],h=>by simp at h
 |c::l,d::m,h=>by
  simp only [Bu,Hb] at h
  simp only [Vx,Au,nS l m h.2]
  congr 1
  cases c<;>cases d<;>first|rfl|(cases h.1;done)
theorem Adx {c d:AV} (h:c.map Tc=d.map Tc):(bE c).length=(bE d).length/\(bE c=bE d->(∀l,c≠ .Mt l)->c=d):=by
 cases c with
 | «at»a=>
  cases d<;>simp only [AV.map,AV.at.injEq,reduceCtorEq] at h
  rename_i b
  have h1: [a].map Tc= [b].map Tc:=by simp [h]
  refine ⟨by simpa [bE] using nS [a] [b] h1,λho _=>?_⟩
  have:=mK [a] [b] h1 (by simpa [bE] using ho)
  simpa using this
 |agg cs=>
  cases d<;>simp only [AV.map,AV.agg.injEq,reduceCtorEq] at h
  rename_i ds
  exact ⟨nS cs ds h,λho _=>by rw [mK cs ds h ho]⟩
 |bw fr τ x=>
  cases d<;>simp only [AV.map,reduceCtorEq] at h
  exact ⟨rfl,λ_ _=>h⟩
 |Mt l=>
  cases d<;>simp only [AV.map,reduceCtorEq] at h
  exact ⟨rfl,λ_ hn=>absurd rfl (hn l)⟩
theorem DW: ∀(l m:List AV),l.map (·.map Tc)=m.map (·.map Tc)->(∀c∈l,c.ld=true)->(l.flatMap bE).length=(m.flatMap bE).length/\(l.flatMap bE=m.flatMap bE->l=m)
 | [],[],_,_=>⟨rfl,λ_=>rfl⟩
 | [],_::_,h,_=>by simp at h
 |_::_,[],h,_=>by simp at h
 |c::l,d::m,h,hn=>by
  simp only [Bu,Hb] at h
  obtain ⟨h1,h2⟩:=Adx h.1
  obtain ⟨h3,h4⟩:=DW l m h.2 λc hc=>hn c (Aq _ hc)
  refine ⟨by simp only [Vx,Au,h1,h3],λho=>?_⟩
  simp only [Vx] at ho
  obtain ⟨g1,g2⟩:=List.append_inj ho h1
  have hnt: ∀l',c≠ .Mt l':= λl' e=>by
   have:=hn c (by simp)
   rw [e] at this
   cases this
  rw [h2 g1 hnt,h4 g2]
theorem Aez {c d:OB} (h:c.map Tc=d.map Tc):(mn c).length=(mn d).length/\(mn c=mn d->c=d):=by
 cases c with
 |var t vs=>
  cases d<;>simp only [OB.map,OB.var.injEq,reduceCtorEq] at h
  rename_i t' us
  obtain ⟨rfl,h⟩:=h
  exact ⟨nS vs us h,λho=>by rw [mK vs us h ho]⟩
 |_=>cases d<;>simp only [OB.map,reduceCtorEq] at h<;>exact ⟨rfl,λ_=>h⟩
theorem xB: ∀(l m:List (Nat×OB)),l.map (λp=>(p.1,p.2.map Tc))=m.map (λp=>(p.1,p.2.map Tc))->(l.flatMap λp=>mn p.2)=(m.flatMap λp=>mn p.2)->l=m
 | [],[],_,_=>rfl
 | [],_::_,h,_=>by simp at h
 |_::_,[],h,_=>by simp at h
 |(k,c)::l,(k',d)::m,h,ho=>by
  simp only [Bu,Hb,Ae] at h
  simp only [Vx] at ho
  obtain ⟨h1,h2⟩:=Aez h.1.2
  obtain ⟨g1,g2⟩:=List.append_inj ho h1
  rw [h.1.1,h2 g1,xB l m h.2 g2]
theorem DV (l:List (Bool×List AC)) (e:AV) {R:Type} (r:R):lO (.Mt l) e r=none:=by cases e<;>rfl
theorem yV {d e:AV} {R:Type} {r:R} {v:avV d R} (h:lO d e r=some v):d.ld=true:=by
 cases d with
 |Mt l=>rw [DV] at h;cases h
 |_=>rfl
theorem jE: ∀(l m:List AV) {R:Type} (r:R) (v:qU l R),Ow l m r=some v-> ∀c∈l,c.ld=true
 | [],_,_,_,_,_,c,hc=>by cases hc
 |d::l,[],_,r,v,h,c,hc=>by cases h
 |d::l,e::m,R,r,v,h,c,hc=>by
  simp only [Ow] at h
  cases hr:Ow l m r with
  |none=>rw [hr] at h;cases h
  |some r'=>
   rw [hr] at h
   rcases Be.1 hc with hc|hc
   ·rw [hc];exact yV h
   ·exact jE l m r r' hr c hc
theorem eb {s0 s:St} (h:eqW s0 s):s=s0:=by
 obtain ⟨ho,h⟩:=h
 obtain ⟨v,h1,h2⟩:=Cc.1 h
 subst h2
 have hn: ∀c∈s0.tmps,c.ld=true:=by
  unfold jz at h1
  cases hr:Qf s0.heap s.heap () with
  |none=>rw [hr] at h1;cases h1
  |some r=>rw [hr] at h1;exact jE _ _ _ _ h1
 have e:=(jA h1).symm.trans (jA (qQ s0 hn))
 simp only [St.Lb,St.mk.injEq] at e
 obtain ⟨e1,e2⟩:=e
 obtain ⟨l1,l2⟩:=DW s0.tmps s.tmps e1.symm hn
 unfold PA at ho
 obtain ⟨g1,g2⟩:=List.append_inj ho l1.symm
 have k1:=l2 g1.symm
 have k2:=xB s.heap s0.heap e2 g2
 cases s;cases s0
 simp only at k1 k2
 rw [k1,k2]
end Go.Proofs.YtkkdpknjohcekaaGreat
