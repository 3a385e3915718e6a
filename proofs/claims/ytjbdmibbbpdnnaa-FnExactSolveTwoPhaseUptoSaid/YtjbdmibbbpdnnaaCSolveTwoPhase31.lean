/-
  Part 32 of the proof that the statement FnExactSolveTwoPhase holds.
-/
import Derived.Test.YtjbdmibbbpdnnaaCSolveTwoPhase30
namespace Go.Proofs.Ytjbdmibbbpdnnaa
open Go.RowKit
def Nh:AC->AC
 | .own l _ _=> .own l 0 0
 |c=>c
theorem l9: ∀(c d:AC) {R:Type} (r:R) (v:acV c R),jM c d r=some v->Nh (gg c v).1=Nh d/\(gg c v).2=r:=by
 intro c d R r v h
 cases c<;>cases d<;>simp only [jM] at h<;>first|(cases h;first|done|exact ⟨rfl,rfl⟩)|skip
 all_goals
  split at h
  ·rename_i hc
   first
    |(obtain ⟨h1,h2⟩:=hc;subst h1;subst h2;injection h with h;subst h;exact ⟨rfl,rfl⟩)
    |(subst hc;injection h with h;subst h;exact ⟨rfl,rfl⟩)
  ·cases h
theorem az: ∀(l m:List AC) {R:Type} (r:R) (v:zc l R),Mn l m r=some v->(Ul l v).1.map Nh=m.map Nh/\(Ul l v).2=r
 | [],[],R,r,v,h=>by simp only [Mn] at h;injection h with h;subst h;exact ⟨rfl,rfl⟩
 | [],_::_,R,r,v,h=>by simp [Mn] at h
 |_::_,[],R,r,v,h=>by simp [Mn] at h
 |c::l,d::m,R,r,v,h=>by
  simp only [Mn] at h
  cases hr:Mn l m r with
  |none=>rw [hr] at h;cases h
  |some r'=>
   rw [hr] at h
   obtain ⟨h1,h2⟩:=l9 c d r' v h
   obtain ⟨h3,h4⟩:=az l m r r' hr
   simp only [Ul,List.map_cons]
   rw [h1,h2,h3]
   exact ⟨rfl,h4⟩
theorem w8: ∀(c d:AV) {R:Type} (r:R) (v:avV c R),gl c d r=some v->(nu c v).1.map Nh=d.map Nh/\(nu c v).2=r
 | .at a, .at b,R,r,v,h=>by
  obtain ⟨h1,h2⟩:=l9 a b r v h
  exact ⟨by show AV.at _=AV.at _;rw [h1],h2⟩
 | .agg cs, .agg ds,R,r,v,h=>by
  obtain ⟨h1,h2⟩:=az cs ds r v h
  exact ⟨by show AV.agg _=AV.agg _;rw [h1],h2⟩
 | .Vn fr τ y, .Vn Py Js x,R,r,v,h=>by
  by_cases hc:Js=τ/\Py=fr
  ·obtain ⟨h1,h2⟩:=hc
   subst h1;subst h2
   have h3:some ((x,r):Js.den×R)=some v:=by
    have:gl (.Vn Py Js y) (.Vn Py Js x) r=some ((x,r):Js.den×R):=dif_pos ⟨rfl,rfl⟩
    exact this.symm.trans h
   injection h3 with h3
   subst h3;exact ⟨rfl,rfl⟩
  ·have h3:gl (.Vn fr τ y) (.Vn Py Js x) r=none:=dif_neg hc
   rw [h3] at h;cases h
 | .at _, .agg _,_,_,_,h=>nomatch (show none=some _ from h)
 | .at _, .Vn _ _ _,_,_,_,h=>nomatch (show none=some _ from h)
 | .agg _, .at _,_,_,_,h=>nomatch (show none=some _ from h)
 | .agg _, .Vn _ _ _,_,_,_,h=>nomatch (show none=some _ from h)
 | .Vn _ _ _, .at _,_,_,_,h=>nomatch (show none=some _ from h)
 | .Vn _ _ _, .agg _,_,_,_,h=>nomatch (show none=some _ from h)
 | .Jq _, .at _,_,_,_,h=>nomatch (show none=some _ from h)
 | .Jq _, .agg _,_,_,_,h=>nomatch (show none=some _ from h)
 | .Jq _, .Vn _ _ _,_,_,_,h=>nomatch (show none=some _ from h)
 | .Jq _, .Jq _,_,_,_,h=>nomatch (show none=some _ from h)
 | .at _, .Jq _,_,_,_,h=>nomatch (show none=some _ from h)
 | .agg _, .Jq _,_,_,_,h=>nomatch (show none=some _ from h)
 | .Vn _ _ _, .Jq _,_,_,_,h=>nomatch (show none=some _ from h)
theorem xF: ∀(c d:OB) {R:Type} (r:R) (v:obV c R),Nk c d r=some v->(oA c v).1.map Nh=d.map Nh/\(oA c v).2=r
 | .arr fr tr e tid ys, .arr Py PK e' Ov xs,R,r,v,h=>by
  by_cases hc:e'=e/\Py=fr/\PK=tr/\Ov=tid
  ·obtain ⟨h1,h2,h3,h4⟩:=hc
   subst h1;subst h2;subst h3;subst h4
   have h3:some ((xs,r):List e'.den×R)=some v:=by
    have:Nk (.arr Py PK e' Ov ys) (.arr Py PK e' Ov xs) r=some ((xs,r):List e'.den×R):=dif_pos ⟨rfl,rfl,rfl,rfl⟩
    exact this.symm.trans h
   injection h3 with h3
   subst h3;exact ⟨rfl,rfl⟩
  ·have h3:Nk (.arr fr tr e tid ys) (.arr Py PK e' Ov xs) r=none:=dif_neg hc
   rw [h3] at h;cases h
 | .Dl e tid ys, .Dl e' Ov xs,R,r,v,h=>by
  by_cases hc:e'=e/\Ov=tid
  ·obtain ⟨h1,h4⟩:=hc
   subst h1;subst h4
   have h3:some ((xs,r):List e'.den×R)=some v:=by
    have:Nk (.Dl e' Ov ys) (.Dl e' Ov xs) r=some ((xs,r):List e'.den×R):=dif_pos ⟨rfl,rfl⟩
    exact this.symm.trans h
   injection h3 with h3
   subst h3;exact ⟨rfl,rfl⟩
  ·have h3:Nk (.Dl e tid ys) (.Dl e' Ov xs) r=none:=dif_neg hc
   rw [h3] at h;cases h
 | .Pp vt m, .Pp vt' m',R,r,v,h=>by
  by_cases hc:vt'=vt
  ·subst hc
   have h3:some ((m',r):(ByteArray->Option vt'.den)×R)=some v:=by
    have:Nk (.Pp vt' m) (.Pp vt' m') r=some ((m',r):(ByteArray->Option vt'.den)×R):=dif_pos rfl
    exact this.symm.trans h
   injection h3 with h3
   subst h3;exact ⟨rfl,rfl⟩
  ·have h3:Nk (.Pp vt m) (.Pp vt' m') r=none:=dif_neg hc
   rw [h3] at h;cases h
 | .var t vs, .var t' us,R,r,v,h=>by
  by_cases hc:t'=t
  ·subst hc
   have h0:Nk (.var t' vs) (.var t' us) r=Mn vs us r:=if_pos rfl
   rw [h0] at h
   obtain ⟨h1,h2⟩:=az vs us r v h
   exact ⟨by show OB.var _ _=OB.var _ _;rw [h1],h2⟩
  ·have h3:Nk (.var t vs) (.var t' us) r=none:=if_neg hc
   rw [h3] at h;cases h
 | .Ao e te ys out none, .Ao e' Lw xs ck none,R,r,v,h=>by
  by_cases hc:e'=e/\Lw=te/\ck=out
  ·obtain ⟨h1,h2,h4⟩:=hc
   subst h1;subst h2;subst h4
   have h3:some ((xs,r):List (List e'.den)×R)=some v:=by
    have:Nk (.Ao e' Lw ys ck none) (.Ao e' Lw xs ck none) r=some ((xs,r):List (List e'.den)×R):=dif_pos ⟨rfl,rfl,rfl⟩
    exact this.symm.trans h
   injection h3 with h3
   subst h3;exact ⟨rfl,rfl⟩
  ·have h3:Nk (.Ao e te ys out none) (.Ao e' Lw xs ck none) r=none:=dif_neg hc
   rw [h3] at h;cases h
 | .Ao e te ys out (some p), .Ao e' Lw xs ck (some p'),R,r,v,h=>by
  by_cases hc:e'=e/\Lw=te/\ck=out/\p'.1=p.1
  ·obtain ⟨h1,h2,h4,h5⟩:=hc
   subst h1;subst h2;subst h4
   have h3:some ((xs,p'.2,r):List (List e'.den)×(Nat×R))=some v:=by
    have:Nk (.Ao e' Lw ys ck (some p)) (.Ao e' Lw xs ck (some p')) r=some ((xs,p'.2,r):List (List e'.den)×(Nat×R)):=dif_pos ⟨rfl,rfl,rfl,h5⟩
    exact this.symm.trans h
   injection h3 with h3
   subst h3
   refine ⟨?_,rfl⟩
   show OB.Ao e' Lw xs ck (some (p.1,p'.2))=OB.Ao e' Lw xs ck (some p')
   rw [<-h5]
  ·have h3:Nk (.Ao e te ys out (some p)) (.Ao e' Lw xs ck (some p')) r=none:=dif_neg hc
   rw [h3] at h;cases h
 | .Ao _ _ _ _ none, .Ao _ _ _ _ (some _),_,_,_,h=>nomatch (show none=some _ from h)
 | .Ao _ _ _ _ (some _), .Ao _ _ _ _ none,_,_,_,h=>nomatch (show none=some _ from h)
 | .Ao _ _ _ _ none, .arr _ _ _ _ _,_,_,_,h=>nomatch (show none=some _ from h)
 | .Ao _ _ _ _ none, .Dl _ _ _,_,_,_,h=>nomatch (show none=some _ from h)
 | .Ao _ _ _ _ none, .var _ _,_,_,_,h=>nomatch (show none=some _ from h)
 | .Ao _ _ _ _ none, .Pp _ _,_,_,_,h=>nomatch (show none=some _ from h)
 | .Ao _ _ _ _ (some _), .arr _ _ _ _ _,_,_,_,h=>nomatch (show none=some _ from h)
 | .Ao _ _ _ _ (some _), .Dl _ _ _,_,_,_,h=>nomatch (show none=some _ from h)
 | .Ao _ _ _ _ (some _), .var _ _,_,_,_,h=>nomatch (show none=some _ from h)
 | .Ao _ _ _ _ (some _), .Pp _ _,_,_,_,h=>nomatch (show none=some _ from h)
 | .arr _ _ _ _ _, .Ao _ _ _ _ _,_,_,_,h=>nomatch (show none=some _ from h)
 | .Dl _ _ _, .Ao _ _ _ _ _,_,_,_,h=>nomatch (show none=some _ from h)
 | .var _ _, .Ao _ _ _ _ _,_,_,_,h=>nomatch (show none=some _ from h)
 | .Pp _ _, .Ao _ _ _ _ _,_,_,_,h=>nomatch (show none=some _ from h)
 | .arr _ _ _ _ _, .var _ _,_,_,_,h=>nomatch (show none=some _ from h)
 | .arr _ _ _ _ _, .Dl _ _ _,_,_,_,h=>nomatch (show none=some _ from h)
 | .arr _ _ _ _ _, .Pp _ _,_,_,_,h=>nomatch (show none=some _ from h)
 | .Dl _ _ _, .var _ _,_,_,_,h=>nomatch (show none=some _ from h)
 | .Dl _ _ _, .arr _ _ _ _ _,_,_,_,h=>nomatch (show none=some _ from h)
 | .Dl _ _ _, .Pp _ _,_,_,_,h=>nomatch (show none=some _ from h)
 | .Pp _ _, .var _ _,_,_,_,h=>nomatch (show none=some _ from h)
 | .Pp _ _, .arr _ _ _ _ _,_,_,_,h=>nomatch (show none=some _ from h)
 | .Pp _ _, .Dl _ _ _,_,_,_,h=>nomatch (show none=some _ from h)
 | .var _ _, .arr _ _ _ _ _,_,_,_,h=>nomatch (show none=some _ from h)
 | .var _ _, .Dl _ _ _,_,_,_,h=>nomatch (show none=some _ from h)
 | .var _ _, .Pp _ _,_,_,_,h=>nomatch (show none=some _ from h)
theorem fS: ∀(l m:List AV) {R:Type} (r:R) (v:m5 l R),Ke l m r=some v->(Qr l v).1.map (·.map Nh)=m.map (·.map Nh)/\(Qr l v).2=r
 | [],[],R,r,v,h=>by simp only [Ke] at h;injection h with h;subst h;exact ⟨rfl,rfl⟩
 | [],_::_,R,r,v,h=>by simp [Ke] at h
 |_::_,[],R,r,v,h=>by simp [Ke] at h
 |c::l,d::m,R,r,v,h=>by
  simp only [Ke] at h
  cases hr:Ke l m r with
  |none=>rw [hr] at h;cases h
  |some r'=>
   rw [hr] at h
   obtain ⟨h1,h2⟩:=w8 c d r' v h
   obtain ⟨h3,h4⟩:=fS l m r r' hr
   simp only [Qr,List.map_cons]
   rw [h1,h2,h3]
   exact ⟨rfl,h4⟩
theorem fp: ∀(l m:List (Nat×OB)) {R:Type} (r:R) (v:ry l R),Kv l m r=some v->(Zp l v).1.map (λp=>(p.1,p.2.map Nh))=m.map (λp=>(p.1,p.2.map Nh))/\(Zp l v).2=r
 | [],[],R,r,v,h=>by simp only [Kv] at h;injection h with h;subst h;exact ⟨rfl,rfl⟩
 | [],_::_,R,r,v,h=>by simp [Kv] at h
 |_::_,[],R,r,v,h=>by simp [Kv] at h
 |c::l,d::m,R,r,v,h=>by
  simp only [Kv] at h
  split at h
  ·rename_i hk
   cases hr:Kv l m r with
   |none=>rw [hr] at h;cases h
   |some r'=>
    rw [hr] at h
    obtain ⟨h1,h2⟩:=xF c.2 d.2 r' v h
    obtain ⟨h3,h4⟩:=fp l m r r' hr
    simp only [Zp,List.map_cons]
    rw [h1,h2,h3,hk]
    exact ⟨rfl,h4⟩
  ·cases h
theorem dU {s t:St} {v:stV s} (h:dT s t=some v):(dS s v).Gs Nh=t.Gs Nh:=by
 unfold dT at h
 cases hr:Kv s.heap t.heap () with
 |none=>rw [hr] at h;cases h
 |some r=>
  rw [hr] at h
  obtain ⟨h1,h2⟩:=fS s.tmps t.tmps r v h
  obtain ⟨h3,_⟩:=fp s.heap t.heap () r hr
  simp only [dS,St.Gs]
  rw [h1,h2,h3]
theorem lb: ∀(c:AC) {R:Type} (r:R),jM c c r=some (DD c r):=by
 intro c R r
 cases c<;>simp [jM,DD]
theorem aA: ∀(l:List AC) {R:Type} (r:R),Mn l l r=some (nh l r)
 | [],_,_=>rfl
 |c::l,_,r=>by simp only [Mn,aA l r,nh];exact lb c _
def AV.fG:AV->Bool
 | .Jq _=>false
 |_=>true
theorem w9: ∀(c:AV),c.fG=true-> ∀ {R:Type} (r:R),gl c c r=some (UI c r):=by
 intro c hn R r
 cases c with
 |Jq l=>cases hn
 | «at»a=>exact lb a r
 |agg cs=>exact aA cs r
 |Vn fr τ x=>exact dif_pos ⟨rfl,rfl⟩
theorem xG: ∀(c:OB) {R:Type} (r:R),Nk c c r=some (WJ c r):=by
 intro c R r
 cases c with
 |arr fr tr e t xs=>exact dif_pos ⟨rfl,rfl,rfl,rfl⟩
 |Dl e t xs=>exact dif_pos ⟨rfl,rfl⟩
 |Pp v m=>exact dif_pos rfl
 |Ao e te rows out kp=>
  cases kp with
  |none=>exact dif_pos ⟨rfl,rfl,rfl⟩
  |some p=>exact dif_pos ⟨rfl,rfl,rfl,rfl⟩
 |var t vs=>
  have h0:Nk (.var t vs) (.var t vs) r=Mn vs vs r:=if_pos rfl
  exact h0.trans (aA vs r)
theorem fT: ∀(l:List AV),(∀c∈l,c.fG=true)-> ∀ {R:Type} (r:R),Ke l l r=some (mV l r)
 | [],_,_,_=>rfl
 |c::l,h,_,r=>by simp only [Ke,fT l (λc hc=>h c (List.mem_cons_of_mem _ hc)) r,mV];exact w9 c (h c (by simp)) _
theorem fq: ∀(l:List (Nat×OB)) {R:Type} (r:R),Kv l l r=some (mN l r)
 | [],_,_=>rfl
 |c::l,_,r=>by simp only [Kv,if_true,fq l r,mN];exact xG c.2 _
theorem lW (s:St) (h: ∀c∈s.tmps,c.fG=true):dT s s=some (FD s):=by
 simp only [dT,fq,FD]
 exact fT _ h _
theorem Aw {α:Type} {o:Option α} {K:α->Prop} :Ed o K↔ ∃x,o=some x/\K x:=by
 unfold Ed
 cases o with
 |none=>simp
 |some x=>simp
theorem il: ∀(l m:List AC),l.map Nh=m.map Nh->l.flatMap Vq=m.flatMap Vq->l=m
 | [],[],_,_=>rfl
 | [],_::_,h,_=>by simp at h
 |_::_,[],h,_=>by simp at h
 |c::l,d::m,h,ho=>by
  simp only [List.map_cons,List.cons.injEq] at h
  simp only [List.flatMap_cons] at ho
  have hcd:c=d/\l.flatMap Vq=m.flatMap Vq:=by
   cases c<;>cases d<;>first|(cases h.1;done)|skip
   all_goals first
    |(obtain ⟨h1,_⟩:=h
      simp only [Nh,AC.own.injEq] at h1
      simp only [Vq,List.cons_append,List.nil_append,List.cons.injEq,Prod.mk.injEq] at ho
      exact ⟨by rw [h1.1,ho.1.1,ho.1.2],ho.2⟩)
    |exact ⟨h.1,by simpa only [Vq,List.nil_append] using ho⟩
  rw [hcd.1,il l m h.2 hcd.2]
theorem jg: ∀(l m:List AC),l.map Nh=m.map Nh->(l.flatMap Vq).length=(m.flatMap Vq).length
 | [],[],_=>rfl
 | [],_::_,h=>by simp at h
 |_::_,[],h=>by simp at h
 |c::l,d::m,h=>by
  simp only [List.map_cons,List.cons.injEq] at h
  simp only [List.flatMap_cons,List.length_append,jg l m h.2]
  congr 1
  cases c<;>cases d<;>first|rfl|(cases h.1;done)
theorem RC {c d:AV} (h:c.map Nh=d.map Nh):(Vs c).length=(Vs d).length/\(Vs c=Vs d->(∀l,c≠ .Jq l)->c=d):=by
 cases c with
 | «at»a=>
  cases d<;>simp only [AV.map,AV.at.injEq,reduceCtorEq] at h
  rename_i b
  have h1: [a].map Nh= [b].map Nh:=by simp [h]
  refine ⟨by simpa [Vs] using jg [a] [b] h1,λho _=>?_⟩
  have:=il [a] [b] h1 (by simpa [Vs] using ho)
  simpa using this
 |agg cs=>
  cases d<;>simp only [AV.map,AV.agg.injEq,reduceCtorEq] at h
  rename_i ds
  exact ⟨jg cs ds h,λho _=>by rw [il cs ds h ho]⟩
 |Vn fr τ x=>
  cases d<;>simp only [AV.map,reduceCtorEq] at h
  exact ⟨rfl,λ_ _=>h⟩
 |Jq l=>
  cases d<;>simp only [AV.map,reduceCtorEq] at h
  exact ⟨rfl,λ_ hn=>absurd rfl (hn l)⟩
theorem wb: ∀(l m:List AV),l.map (·.map Nh)=m.map (·.map Nh)->(∀c∈l,c.fG=true)->(l.flatMap Vs).length=(m.flatMap Vs).length/\(l.flatMap Vs=m.flatMap Vs->l=m)
 | [],[],_,_=>⟨rfl,λ_=>rfl⟩
 | [],_::_,h,_=>by simp at h
 |_::_,[],h,_=>by simp at h
 |c::l,d::m,h,hn=>by
  simp only [List.map_cons,List.cons.injEq] at h
  obtain ⟨h1,h2⟩:=RC h.1
  obtain ⟨h3,h4⟩:=wb l m h.2 λc hc=>hn c (List.mem_cons_of_mem _ hc)
  refine ⟨by simp only [List.flatMap_cons,List.length_append,h1,h3],λho=>?_⟩
  simp only [List.flatMap_cons] at ho
  obtain ⟨g1,g2⟩:=List.append_inj ho h1
  have hnt: ∀l',c≠ .Jq l':= λl' e=>by
   have:=hn c (by simp)
   rw [e] at this
   cases this
  rw [h2 g1 hnt,h4 g2]
theorem SU {c d:OB} (h:c.map Nh=d.map Nh):(gO c).length=(gO d).length/\(gO c=gO d->c=d):=by
 cases c with
 |var t vs=>
  cases d<;>simp only [OB.map,OB.var.injEq,reduceCtorEq] at h
  rename_i t' us
  obtain ⟨rfl,h⟩:=h
  exact ⟨jg vs us h,λho=>by rw [il vs us h ho]⟩
 |_=>cases d<;>simp only [OB.map,reduceCtorEq] at h<;>exact ⟨rfl,λ_=>h⟩
theorem rz: ∀(l m:List (Nat×OB)),l.map (λp=>(p.1,p.2.map Nh))=m.map (λp=>(p.1,p.2.map Nh))->(l.flatMap λp=>gO p.2)=(m.flatMap λp=>gO p.2)->l=m
 | [],[],_,_=>rfl
 | [],_::_,h,_=>by simp at h
 |_::_,[],h,_=>by simp at h
 |(k,c)::l,(k',d)::m,h,ho=>by
  simp only [List.map_cons,List.cons.injEq,Prod.mk.injEq] at h
  simp only [List.flatMap_cons] at ho
  obtain ⟨h1,h2⟩:=SU h.1.2
  obtain ⟨g1,g2⟩:=List.append_inj ho h1
  rw [h.1.1,h2 g1,rz l m h.2 g2]
theorem wa (l:List (Bool×List AC)) (e:AV) {R:Type} (r:R):gl (.Jq l) e r=none:=by cases e<;>rfl
theorem sM {d e:AV} {R:Type} {r:R} {v:avV d R} (h:gl d e r=some v):d.fG=true:=by
 cases d with
 |Jq l=>rw [wa] at h;cases h
 |_=>rfl
theorem e8: ∀(l m:List AV) {R:Type} (r:R) (v:m5 l R),Ke l m r=some v-> ∀c∈l,c.fG=true
 | [],_,_,_,_,_,c,hc=>by cases hc
 |d::l,[],_,r,v,h,c,hc=>by cases h
 |d::l,e::m,R,r,v,h,c,hc=>by
  simp only [Ke] at h
  cases hr:Ke l m r with
  |none=>rw [hr] at h;cases h
  |some r'=>
   rw [hr] at h
   rcases List.mem_cons.1 hc with hc|hc
   ·rw [hc];exact sM h
   ·exact e8 l m r r' hr c hc
theorem ri {s0 s:St} (h:eqW s0 s):s=s0:=by
 obtain ⟨ho,h⟩:=h
 obtain ⟨v,h1,h2⟩:=Aw.1 h
 subst h2
 have hn: ∀c∈s0.tmps,c.fG=true:=by
  unfold dT at h1
  cases hr:Kv s0.heap s.heap () with
  |none=>rw [hr] at h1;cases h1
  |some r=>rw [hr] at h1;exact e8 _ _ _ _ h1
 have e:=(dU h1).symm.trans (dU (lW s0 hn))
 simp only [St.Gs,St.mk.injEq] at e
 obtain ⟨e1,e2⟩:=e
 obtain ⟨l1,l2⟩:=wb s0.tmps s.tmps e1.symm hn
 unfold CI at ho
 obtain ⟨g1,g2⟩:=List.append_inj ho l1.symm
 have k1:=l2 g1.symm
 have k2:=rz s.heap s0.heap e2 g2
 cases s;cases s0
 simp only at k1 k2
 rw [k1,k2]
end Go.Proofs.Ytjbdmibbbpdnnaa
