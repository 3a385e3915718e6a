/-
  Part 32 of the proof that the statement FnTwoPhase holds.
-/
import Derived.Test.YtkkdpknjohcekaaCFTwoPhase30
namespace Go.Proofs.Ytkkdpknjohcekaa
open Go.RowKit
def Tk:AC->AC
 | .own l _ _=> .own l 0 0
 |c=>c
theorem qb: ∀(c d:AC) {R:Type} (r:R) (v:acV c R),oS c d r=some v->Tk (lW c v).1=Tk d/\(lW c v).2=r:=by
 intro c d R r v h
 cases c<;>cases d<;>simp only [oS] at h<;>first|(cases h;first|done|exact ⟨rfl,rfl⟩)|skip
 all_goals
  split at h
  ·rename_i hc
   first
    |(obtain ⟨h1,h2⟩:=hc;subst h1;subst h2;injection h with h;subst h;exact ⟨rfl,rfl⟩)
    |(subst hc;injection h with h;subst h;exact ⟨rfl,rfl⟩)
  ·cases h
theorem fc: ∀(l m:List AC) {R:Type} (r:R) (v:KF l R),Sp l m r=some v->(aN l v).1.map Tk=m.map Tk/\(aN l v).2=r
 | [],[],R,r,v,h=>by simp only [Sp] at h;injection h with h;subst h;exact ⟨rfl,rfl⟩
 | [],_::_,R,r,v,h=>by simp [Sp] at h
 |_::_,[],R,r,v,h=>by simp [Sp] at h
 |c::l,d::m,R,r,v,h=>by
  simp only [Sp] at h
  cases hr:Sp l m r with
  |none=>rw [hr] at h;cases h
  |some r'=>
   rw [hr] at h
   obtain ⟨h1,h2⟩:=qb c d r' v h
   obtain ⟨h3,h4⟩:=fc l m r r' hr
   simp only [aN,Ca]
   rw [h1,h2,h3]
   exact ⟨rfl,h4⟩
theorem DO: ∀(c d:AV) {R:Type} (r:R) (v:avV c R),m5 c d r=some v->(sJ c v).1.map Tk=d.map Tk/\(sJ c v).2=r
 | .at a, .at b,R,r,v,h=>by
  obtain ⟨h1,h2⟩:=qb a b r v h
  exact ⟨by show AV.at _=AV.at _;rw [h1],h2⟩
 | .agg cs, .agg ds,R,r,v,h=>by
  obtain ⟨h1,h2⟩:=fc cs ds r v h
  exact ⟨by show AV.agg _=AV.agg _;rw [h1],h2⟩
 | .bB fr τ y, .bB Wm Ox x,R,r,v,h=>by
  by_cases hc:Ox=τ/\Wm=fr
  ·obtain ⟨h1,h2⟩:=hc
   subst h1;subst h2
   have h3:some ((x,r):Ox.den×R)=some v:=by
    have:m5 (.bB Wm Ox y) (.bB Wm Ox x) r=some ((x,r):Ox.den×R):=Jk ⟨rfl,rfl⟩
    exact this.symm.trans h
   injection h3 with h3
   subst h3;exact ⟨rfl,rfl⟩
  ·have h3:m5 (.bB fr τ y) (.bB Wm Ox x) r=none:=dif_neg hc
   rw [h3] at h;cases h
 | .at _, .agg _,_,_,_,h=>nomatch (show none=some _ from h)
 | .at _, .bB _ _ _,_,_,_,h=>nomatch (show none=some _ from h)
 | .agg _, .at _,_,_,_,h=>nomatch (show none=some _ from h)
 | .agg _, .bB _ _ _,_,_,_,h=>nomatch (show none=some _ from h)
 | .bB _ _ _, .at _,_,_,_,h=>nomatch (show none=some _ from h)
 | .bB _ _ _, .agg _,_,_,_,h=>nomatch (show none=some _ from h)
 | .Nd _, .at _,_,_,_,h=>nomatch (show none=some _ from h)
 | .Nd _, .agg _,_,_,_,h=>nomatch (show none=some _ from h)
 | .Nd _, .bB _ _ _,_,_,_,h=>nomatch (show none=some _ from h)
 | .Nd _, .Nd _,_,_,_,h=>nomatch (show none=some _ from h)
 | .at _, .Nd _,_,_,_,h=>nomatch (show none=some _ from h)
 | .agg _, .Nd _,_,_,_,h=>nomatch (show none=some _ from h)
 | .bB _ _ _, .Nd _,_,_,_,h=>nomatch (show none=some _ from h)
theorem GY: ∀(c d:OB) {R:Type} (r:R) (v:obV c R),Tn c d r=some v->(uc c v).1.map Tk=d.map Tk/\(uc c v).2=r
 | .arr fr tr e tid ys, .arr Wm tr' e' Vh xs,R,r,v,h=>by
  by_cases hc:e'=e/\Wm=fr/\tr'=tr/\Vh=tid
  ·obtain ⟨h1,h2,h3,h4⟩:=hc
   subst h1;subst h2;subst h3;subst h4
   have h3:some ((xs,r):List e'.den×R)=some v:=by
    have:Tn (.arr Wm tr' e' Vh ys) (.arr Wm tr' e' Vh xs) r=some ((xs,r):List e'.den×R):=Jk ⟨rfl,rfl,rfl,rfl⟩
    exact this.symm.trans h
   injection h3 with h3
   subst h3;exact ⟨rfl,rfl⟩
  ·have h3:Tn (.arr fr tr e tid ys) (.arr Wm tr' e' Vh xs) r=none:=dif_neg hc
   rw [h3] at h;cases h
 | .Hc e tid ys, .Hc e' Vh xs,R,r,v,h=>by
  by_cases hc:e'=e/\Vh=tid
  ·obtain ⟨h1,h4⟩:=hc
   subst h1;subst h4
   have h3:some ((xs,r):List e'.den×R)=some v:=by
    have:Tn (.Hc e' Vh ys) (.Hc e' Vh xs) r=some ((xs,r):List e'.den×R):=Jk ⟨rfl,rfl⟩
    exact this.symm.trans h
   injection h3 with h3
   subst h3;exact ⟨rfl,rfl⟩
  ·have h3:Tn (.Hc e tid ys) (.Hc e' Vh xs) r=none:=dif_neg hc
   rw [h3] at h;cases h
 | .Wb vt m, .Wb vt' m',R,r,v,h=>by
  by_cases hc:vt'=vt
  ·subst hc
   have h3:some ((m',r):(ByteArray->Option vt'.den)×R)=some v:=by
    have:Tn (.Wb vt' m) (.Wb vt' m') r=some ((m',r):(ByteArray->Option vt'.den)×R):=Jk rfl
    exact this.symm.trans h
   injection h3 with h3
   subst h3;exact ⟨rfl,rfl⟩
  ·have h3:Tn (.Wb vt m) (.Wb vt' m') r=none:=dif_neg hc
   rw [h3] at h;cases h
 | .var t vs, .var t' us,R,r,v,h=>by
  by_cases hc:t'=t
  ·subst hc
   have h0:Tn (.var t' vs) (.var t' us) r=Sp vs us r:=Ab rfl
   rw [h0] at h
   obtain ⟨h1,h2⟩:=fc vs us r v h
   exact ⟨by show OB.var _ _=OB.var _ _;rw [h1],h2⟩
  ·have h3:Tn (.var t vs) (.var t' us) r=none:=Ai hc
   rw [h3] at h;cases h
 | .Bu e te ys out none, .Bu e' Ro xs ig none,R,r,v,h=>by
  by_cases hc:e'=e/\Ro=te/\ig=out
  ·obtain ⟨h1,h2,h4⟩:=hc
   subst h1;subst h2;subst h4
   have h3:some ((xs,r):List (List e'.den)×R)=some v:=by
    have:Tn (.Bu e' Ro ys ig none) (.Bu e' Ro xs ig none) r=some ((xs,r):List (List e'.den)×R):=Jk ⟨rfl,rfl,rfl⟩
    exact this.symm.trans h
   injection h3 with h3
   subst h3;exact ⟨rfl,rfl⟩
  ·have h3:Tn (.Bu e te ys out none) (.Bu e' Ro xs ig none) r=none:=dif_neg hc
   rw [h3] at h;cases h
 | .Bu e te ys out (some p), .Bu e' Ro xs ig (some p'),R,r,v,h=>by
  by_cases hc:e'=e/\Ro=te/\ig=out/\p'.1=p.1
  ·obtain ⟨h1,h2,h4,h5⟩:=hc
   subst h1;subst h2;subst h4
   have h3:some ((xs,p'.2,r):List (List e'.den)×(Nat×R))=some v:=by
    have:Tn (.Bu e' Ro ys ig (some p)) (.Bu e' Ro xs ig (some p')) r=some ((xs,p'.2,r):List (List e'.den)×(Nat×R)):=Jk ⟨rfl,rfl,rfl,h5⟩
    exact this.symm.trans h
   injection h3 with h3
   subst h3
   refine ⟨?_,rfl⟩
   show OB.Bu e' Ro xs ig (some (p.1,p'.2))=OB.Bu e' Ro xs ig (some p')
   rw [<-h5]
  ·have h3:Tn (.Bu e te ys out (some p)) (.Bu e' Ro xs ig (some p')) r=none:=dif_neg hc
   rw [h3] at h;cases h
 | .Bu _ _ _ _ none, .Bu _ _ _ _ (some _),_,_,_,h=>nomatch (show none=some _ from h)
 | .Bu _ _ _ _ (some _), .Bu _ _ _ _ none,_,_,_,h=>nomatch (show none=some _ from h)
 | .Bu _ _ _ _ none, .arr _ _ _ _ _,_,_,_,h=>nomatch (show none=some _ from h)
 | .Bu _ _ _ _ none, .Hc _ _ _,_,_,_,h=>nomatch (show none=some _ from h)
 | .Bu _ _ _ _ none, .var _ _,_,_,_,h=>nomatch (show none=some _ from h)
 | .Bu _ _ _ _ none, .Wb _ _,_,_,_,h=>nomatch (show none=some _ from h)
 | .Bu _ _ _ _ (some _), .arr _ _ _ _ _,_,_,_,h=>nomatch (show none=some _ from h)
 | .Bu _ _ _ _ (some _), .Hc _ _ _,_,_,_,h=>nomatch (show none=some _ from h)
 | .Bu _ _ _ _ (some _), .var _ _,_,_,_,h=>nomatch (show none=some _ from h)
 | .Bu _ _ _ _ (some _), .Wb _ _,_,_,_,h=>nomatch (show none=some _ from h)
 | .arr _ _ _ _ _, .Bu _ _ _ _ _,_,_,_,h=>nomatch (show none=some _ from h)
 | .Hc _ _ _, .Bu _ _ _ _ _,_,_,_,h=>nomatch (show none=some _ from h)
 | .var _ _, .Bu _ _ _ _ _,_,_,_,h=>nomatch (show none=some _ from h)
 | .Wb _ _, .Bu _ _ _ _ _,_,_,_,h=>nomatch (show none=some _ from h)
 | .arr _ _ _ _ _, .var _ _,_,_,_,h=>nomatch (show none=some _ from h)
 | .arr _ _ _ _ _, .Hc _ _ _,_,_,_,h=>nomatch (show none=some _ from h)
 | .arr _ _ _ _ _, .Wb _ _,_,_,_,h=>nomatch (show none=some _ from h)
 | .Hc _ _ _, .var _ _,_,_,_,h=>nomatch (show none=some _ from h)
 | .Hc _ _ _, .arr _ _ _ _ _,_,_,_,h=>nomatch (show none=some _ from h)
 | .Hc _ _ _, .Wb _ _,_,_,_,h=>nomatch (show none=some _ from h)
 | .Wb _ _, .var _ _,_,_,_,h=>nomatch (show none=some _ from h)
 | .Wb _ _, .arr _ _ _ _ _,_,_,_,h=>nomatch (show none=some _ from h)
 | .Wb _ _, .Hc _ _ _,_,_,_,h=>nomatch (show none=some _ from h)
 | .var _ _, .arr _ _ _ _ _,_,_,_,h=>nomatch (show none=some _ from h)
 | .var _ _, .Hc _ _ _,_,_,_,h=>nomatch (show none=some _ from h)
 | .var _ _, .Wb _ _,_,_,_,h=>nomatch (show none=some _ from h)
theorem lL: ∀(l m:List AV) {R:Type} (r:R) (v:re l R),Po l m r=some v->(Xg l v).1.map (·.map Tk)=m.map (·.map Tk)/\(Xg l v).2=r
 | [],[],R,r,v,h=>by simp only [Po] at h;injection h with h;subst h;exact ⟨rfl,rfl⟩
 | [],_::_,R,r,v,h=>by simp [Po] at h
 |_::_,[],R,r,v,h=>by simp [Po] at h
 |c::l,d::m,R,r,v,h=>by
  simp only [Po] at h
  cases hr:Po l m r with
  |none=>rw [hr] at h;cases h
  |some r'=>
   rw [hr] at h
   obtain ⟨h1,h2⟩:=DO c d r' v h
   obtain ⟨h3,h4⟩:=lL l m r r' hr
   simp only [Xg,Ca]
   rw [h1,h2,h3]
   exact ⟨rfl,h4⟩
theorem lj: ∀(l m:List (Nat×OB)) {R:Type} (r:R) (v:xp l R),Qj l m r=some v->(er l v).1.map (λp=>(p.1,p.2.map Tk))=m.map (λp=>(p.1,p.2.map Tk))/\(er l v).2=r
 | [],[],R,r,v,h=>by simp only [Qj] at h;injection h with h;subst h;exact ⟨rfl,rfl⟩
 | [],_::_,R,r,v,h=>by simp [Qj] at h
 |_::_,[],R,r,v,h=>by simp [Qj] at h
 |c::l,d::m,R,r,v,h=>by
  simp only [Qj] at h
  split at h
  ·rename_i hk
   cases hr:Qj l m r with
   |none=>rw [hr] at h;cases h
   |some r'=>
    rw [hr] at h
    obtain ⟨h1,h2⟩:=GY c.2 d.2 r' v h
    obtain ⟨h3,h4⟩:=lj l m r r' hr
    simp only [er,Ca]
    rw [h1,h2,h3,hk]
    exact ⟨rfl,h4⟩
  ·cases h
theorem jK {s t:St} {v:stV s} (h:jJ s t=some v):(jI s v).Ln Tk=t.Ln Tk:=by
 unfold jJ at h
 cases hr:Qj s.heap t.heap () with
 |none=>rw [hr] at h;cases h
 |some r=>
  rw [hr] at h
  obtain ⟨h1,h2⟩:=lL s.tmps t.tmps r v h
  obtain ⟨h3,_⟩:=lj s.heap t.heap () r hr
  simp only [jI,St.Ln]
  rw [h1,h2,h3]
theorem qc: ∀(c:AC) {R:Type} (r:R),oS c c r=some (PZ c r):=by
 intro c R r
 cases c<;>simp [oS,PZ]
theorem fe: ∀(l:List AC) {R:Type} (r:R),Sp l l r=some (sy l r)
 | [],_,_=>rfl
 |c::l,_,r=>by simp only [Sp,fe l r,sy];exact qc c _
def AV.lz:AV->Bool
 | .Nd _=>false
 |_=>true
theorem DP: ∀(c:AV),c.lz=true-> ∀ {R:Type} (r:R),m5 c c r=some (Age c r):=by
 intro c hn R r
 cases c with
 |Nd l=>cases hn
 | «at»a=>exact qc a r
 |agg cs=>exact fe cs r
 |bB fr τ x=>exact Jk ⟨rfl,rfl⟩
theorem GZ: ∀(c:OB) {R:Type} (r:R),Tn c c r=some (Ahx c r):=by
 intro c R r
 cases c with
 |arr fr tr e t xs=>exact Jk ⟨rfl,rfl,rfl,rfl⟩
 |Hc e t xs=>exact Jk ⟨rfl,rfl⟩
 |Wb v m=>exact Jk rfl
 |Bu e te rows out kp=>
  cases kp with
  |none=>exact Jk ⟨rfl,rfl,rfl⟩
  |some p=>exact Jk ⟨rfl,rfl,rfl,rfl⟩
 |var t vs=>
  have h0:Tn (.var t vs) (.var t vs) r=Sp vs vs r:=Ab rfl
  exact h0.trans (fe vs r)
theorem lM: ∀(l:List AV),(∀c∈l,c.lz=true)-> ∀ {R:Type} (r:R),Po l l r=some (sm l r)
 | [],_,_,_=>rfl
 |c::l,h,_,r=>by simp only [Po,lM l (λc hc=>h c (As _ hc)) r,sm];exact DP c (h c (by simp)) _
theorem lk: ∀(l:List (Nat×OB)) {R:Type} (r:R),Qj l l r=some (sf l r)
 | [],_,_=>rfl
 |c::l,_,r=>by simp only [Qj,Oz,lk l r,sf];exact GZ c.2 _
theorem r6 (s:St) (h: ∀c∈s.tmps,c.lz=true):jJ s s=some (SF s):=by
 simp only [jJ,lk,SF]
 exact lM _ h _
theorem Ch {α:Type} {o:Option α} {K:α->Prop} :Ic o K↔ ∃x,o=some x/\K x:=by
 unfold Ic
 cases o with
 |none=>simp
 |some x=>simp
theorem nc: ∀(l m:List AC),l.map Tk=m.map Tk->l.flatMap bH=m.flatMap bH->l=m
 | [],[],_,_=>rfl
 | [],_::_,h,_=>by simp at h
 |_::_,[],h,_=>by simp at h
 |c::l,d::m,h,ho=>by
  simp only [Ca,Ha] at h
  simp only [Wd] at ho
  have hcd:c=d/\l.flatMap bH=m.flatMap bH:=by
   cases c<;>cases d<;>first|(cases h.1;done)|skip
   all_goals first
    |(obtain ⟨h1,_⟩:=h
      simp only [Tk,AC.own.injEq] at h1
      simp only [bH,Ms,Ol,Ha,Ag] at ho
      exact ⟨by rw [h1.1,ho.1.1,ho.1.2],ho.2⟩)
    |exact ⟨h.1,by simpa only [bH,Ol] using ho⟩
  rw [hcd.1,nc l m h.2 hcd.2]
theorem oc: ∀(l m:List AC),l.map Tk=m.map Tk->(l.flatMap bH).length=(m.flatMap bH).length
 | [],[],_=>rfl
 | [],_::_,h=>by simp at h
 |_::_,[],h=>by simp at h
 |c::l,d::m,h=>by
  simp only [Ca,Ha] at h
  simp only [Wd,Ax,oc l m h.2]
  congr 1
  cases c<;>cases d<;>first|rfl|(cases h.1;done)
theorem Adx {c d:AV} (h:c.map Tk=d.map Tk):(bJ c).length=(bJ d).length/\(bJ c=bJ d->(∀l,c≠ .Nd l)->c=d):=by
 cases c with
 | «at»a=>
  cases d<;>simp only [AV.map,AV.at.injEq,reduceCtorEq] at h
  rename_i b
  have h1: [a].map Tk= [b].map Tk:=by simp [h]
  refine ⟨by simpa [bJ] using oc [a] [b] h1,λho _=>?_⟩
  have:=nc [a] [b] h1 (by simpa [bJ] using ho)
  simpa using this
 |agg cs=>
  cases d<;>simp only [AV.map,AV.agg.injEq,reduceCtorEq] at h
  rename_i ds
  exact ⟨oc cs ds h,λho _=>by rw [nc cs ds h ho]⟩
 |bB fr τ x=>
  cases d<;>simp only [AV.map,reduceCtorEq] at h
  exact ⟨rfl,λ_ _=>h⟩
 |Nd l=>
  cases d<;>simp only [AV.map,reduceCtorEq] at h
  exact ⟨rfl,λ_ hn=>absurd rfl (hn l)⟩
theorem DS: ∀(l m:List AV),l.map (·.map Tk)=m.map (·.map Tk)->(∀c∈l,c.lz=true)->(l.flatMap bJ).length=(m.flatMap bJ).length/\(l.flatMap bJ=m.flatMap bJ->l=m)
 | [],[],_,_=>⟨rfl,λ_=>rfl⟩
 | [],_::_,h,_=>by simp at h
 |_::_,[],h,_=>by simp at h
 |c::l,d::m,h,hn=>by
  simp only [Ca,Ha] at h
  obtain ⟨h1,h2⟩:=Adx h.1
  obtain ⟨h3,h4⟩:=DS l m h.2 λc hc=>hn c (As _ hc)
  refine ⟨by simp only [Wd,Ax,h1,h3],λho=>?_⟩
  simp only [Wd] at ho
  obtain ⟨g1,g2⟩:=List.append_inj ho h1
  have hnt: ∀l',c≠ .Nd l':= λl' e=>by
   have:=hn c (by simp)
   rw [e] at this
   cases this
  rw [h2 g1 hnt,h4 g2]
theorem Af3 {c d:OB} (h:c.map Tk=d.map Tk):(mD c).length=(mD d).length/\(mD c=mD d->c=d):=by
 cases c with
 |var t vs=>
  cases d<;>simp only [OB.map,OB.var.injEq,reduceCtorEq] at h
  rename_i t' us
  obtain ⟨rfl,h⟩:=h
  exact ⟨oc vs us h,λho=>by rw [nc vs us h ho]⟩
 |_=>cases d<;>simp only [OB.map,reduceCtorEq] at h<;>exact ⟨rfl,λ_=>h⟩
theorem xq: ∀(l m:List (Nat×OB)),l.map (λp=>(p.1,p.2.map Tk))=m.map (λp=>(p.1,p.2.map Tk))->(l.flatMap λp=>mD p.2)=(m.flatMap λp=>mD p.2)->l=m
 | [],[],_,_=>rfl
 | [],_::_,h,_=>by simp at h
 |_::_,[],h,_=>by simp at h
 |(k,c)::l,(k',d)::m,h,ho=>by
  simp only [Ca,Ha,Ag] at h
  simp only [Wd] at ho
  obtain ⟨h1,h2⟩:=Af3 h.1.2
  obtain ⟨g1,g2⟩:=List.append_inj ho h1
  rw [h.1.1,h2 g1,xq l m h.2 g2]
theorem DR (l:List (Bool×List AC)) (e:AV) {R:Type} (r:R):m5 (.Nd l) e r=none:=by cases e<;>rfl
theorem yP {d e:AV} {R:Type} {r:R} {v:avV d R} (h:m5 d e r=some v):d.lz=true:=by
 cases d with
 |Nd l=>rw [DR] at h;cases h
 |_=>rfl
theorem jQ: ∀(l m:List AV) {R:Type} (r:R) (v:re l R),Po l m r=some v-> ∀c∈l,c.lz=true
 | [],_,_,_,_,_,c,hc=>by cases hc
 |d::l,[],_,r,v,h,c,hc=>by cases h
 |d::l,e::m,R,r,v,h,c,hc=>by
  simp only [Po] at h
  cases hr:Po l m r with
  |none=>rw [hr] at h;cases h
  |some r'=>
   rw [hr] at h
   rcases Bb.1 hc with hc|hc
   ·rw [hc];exact yP h
   ·exact jQ l m r r' hr c hc
theorem eb {s0 s:St} (h:eqW s0 s):s=s0:=by
 obtain ⟨ho,h⟩:=h
 obtain ⟨v,h1,h2⟩:=Ch.1 h
 subst h2
 have hn: ∀c∈s0.tmps,c.lz=true:=by
  unfold jJ at h1
  cases hr:Qj s0.heap s.heap () with
  |none=>rw [hr] at h1;cases h1
  |some r=>rw [hr] at h1;exact jQ _ _ _ _ h1
 have e:=(jK h1).symm.trans (jK (r6 s0 hn))
 simp only [St.Ln,St.mk.injEq] at e
 obtain ⟨e1,e2⟩:=e
 obtain ⟨l1,l2⟩:=DS s0.tmps s.tmps e1.symm hn
 unfold OS at ho
 obtain ⟨g1,g2⟩:=List.append_inj ho l1.symm
 have k1:=l2 g1.symm
 have k2:=xq s.heap s0.heap e2 g2
 cases s;cases s0
 simp only at k1 k2
 rw [k1,k2]
end Go.Proofs.Ytkkdpknjohcekaa
