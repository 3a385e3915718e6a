/-
  Part 6 of the proof that the statement FnExactSolveTwoPhase holds.
-/
import Derived.Test.YtjbdmibbbpdnnaaCSolveTwoPhase04
import Derived.WalkKit
import Derived.Laws.Slices
namespace Go.Proofs.Ytjbdmibbbpdnnaa
open Go.RowKit
def At:Ty->List Value
 | .int k=> [.int k 0]
 | .bool=> [.bool false]
 | .str=> [.string ByteArray.empty]
 | .slice _=> [.slice none 0 0]
 | .oslice _=> [.slice none 0 0]
 | .ptr _=> [.pointer none]
 | .optr _=> [.pointer none]
 | .smap _=> [.map none]
 | .clo _ _=> [.nilFunc]
 | .unit=> []
 | .pair a r=>At a++At r
structure jL (P:Program) (T:Tab) (t:TypeId) (τ:Ty):Prop where
 info: ∃i:TypeInfo,P.info? t=some i/\i.size=τ.size/\i.bytes<=256/\i.zero=some (Av τ (At τ))
 desc:match τ with
  | .int k=>P.underlying t=some (.int k)
  | .bool=>P.underlying t=some .bool
  | .str=>P.underlying t=some .string
  | .slice e=> ∃te,P.underlying t=some (.slice te)/\T.elem t=some te/\T.ty te=some e
  | .oslice e=> ∃te,P.underlying t=some (.slice te)/\T.elem t=some te/\T.ty te=some e
  | .ptr _=> ∃u,P.underlying t=some (.pointer u)
  | .optr _=> ∃u,P.underlying t=some (.pointer u)
  | .smap _=> ∃k e,P.underlying t=some (.map k e)
  | .clo _ _=>False
  | .unit| .pair _ _=> ∃fs,P.underlying t=some (.struct fs)
def placesOf (fs:Array Field):Sem (Array (Nat×Nat)):=fs.mapM λf=>do pure (f.offset,<-sizeOf f.type)
structure Ch (P:Program) (T:Tab):Prop where
 fill: ∀t τ,T.ty t=some τ->τ.Ac=true-> ∃(fs:Array Field) (Hp:Array (Nat×Nat)),P.underlying t=some (.struct fs)/\(∀w,(placesOf fs).run P w= .ok Hp w)/\
  ∀f o u ρ,T.off t f=some (o,u)->T.ty u=some ρ->Hp[f]?=some (o,ρ.size)
 ty: ∀t τ,T.ty t=some τ->jL P T t τ
 elem: ∀t te,T.elem t=some te->P.underlying t=some (.slice te)
 mapOf: ∀t v,T.mapOf t=some v-> ∃k e,P.underlying t=some (.map k e)/\P.underlying k=some .string/\T.ty e=some v/\v.flat=true/\v.Ac=false
 off: ∀s f o t,T.off s f=some (o,t)-> ∃(fs:Array Field) (fd:Field),P.underlying s=some (.struct fs)/\fs[f]?=some fd/\fd.offset=o/\fd.type=t/\ ∃i:TypeInfo,P.info? t=some i/\i.size≠0
section
variable {P:Program} {T:Tab} {X:Ctx} {w w':World} {π:Pi} {H:List (Nat×OB)}
theorem Le {t:TypeId} {d:TypeDesc} (h:P.underlying t=some d):(isAgg t).run P w= .ok (match d with| .struct _| .array _ _=>true|_=>false) w:=by
 unfold isAgg
 rw [Sem.run_bind,run_underlying h]
 cases d<;>rfl
theorem jL.agg {t:TypeId} {τ:Ty} (h:jL P T t τ):(isAgg t).run P w= .ok τ.Ac w:=by
 have hd:=h.desc
 cases τ<;>simp only at hd
 case int k=>rw [Le hd];rfl
 case bool=>rw [Le hd];rfl
 case str=>rw [Le hd];rfl
 case slice e=>obtain ⟨te,hd,_⟩:=hd;rw [Le hd];rfl
 case ptr e=>obtain ⟨te,hd⟩:=hd;rw [Le hd];rfl
 case oslice e=>obtain ⟨te,hd,_⟩:=hd;rw [Le hd];rfl
 case optr e=>obtain ⟨te,hd⟩:=hd;rw [Le hd];rfl
 case smap e=>obtain ⟨k,te,hd⟩:=hd;rw [Le hd];rfl
 case unit=>obtain ⟨te,hd⟩:=hd;rw [Le hd];rfl
 case pair e r=>obtain ⟨te,hd⟩:=hd;rw [Le hd];rfl
theorem jL.size {t:TypeId} {τ:Ty} (h:jL P T t τ):(sizeOf t).run P w= .ok τ.size w:=by
 obtain ⟨i,hi,hs,_⟩:=h.info
 simp [sizeOf,typeInfo,hi,hs]
theorem Bh.Mh {S:Nat->Prop} {τ:Ty} {v:Value} {x:τ.den} (Nx:τ.Ac=false) (h:Bh w S τ v x):Cells w S τ [v] x:=by
 obtain ⟨cs,hc,rfl⟩:=h
 have hl:=Cells.len τ cs x hc
 have h1:τ.size=1:=by cases τ<;>simp_all [Ty.Ac,Ty.size]
 rw [h1] at hl
 obtain ⟨c,rfl⟩:=List.length_eq_one_iff.1 hl
 simpa [Av,Nx] using hc
theorem Bh.je {S:Nat->Prop} {τ:Ty} {v:Value} {x:τ.den} (Nx:τ.Ac=false) (h:Cells w S τ [v] x):Bh w S τ v x:=
 ⟨[v],h,by simp [Av,Nx]⟩
def Ln (X:Ctx) (S:Nat->Prop) (fr:Bool):Prop:=(∀k,S k->k<X.w0.heap.size/\ ¬X.gv k)/\(fr=true\/ ∀k,S k->X.Sc k)
theorem Ln.cw {S:Nat->Prop} {fr:Bool} (h:Ln X S fr) (k:Nat) (hk:S k):Bi X.w0.heap.size X.Sc π fr k:=by
 rcases h.2 with h2|h2
 ·exact .inr (.inr ⟨h2,(h.1 k hk).1⟩)
 ·exact .inr (.inl (h2 k hk))
theorem Ln.and_left {S:Nat->Prop} {f1 f2:Bool} (h:Ln X S (f1&&f2)):Ln X S f1:=
 ⟨h.1,h.2.imp (λh=>by simp at h;exact h.1) id⟩
theorem Ln.and_right {S:Nat->Prop} {f1 f2:Bool} (h:Ln X S (f1&&f2)):Ln X S f2:=
 ⟨h.1,h.2.imp (λh=>by simp at h;exact h.2) id⟩
theorem Rep.apart {S:Nat->Prop} {fr:Bool} {τ:Ty} {cs:List Value} {x:τ.den} (hS:Ln X S (fr||τ.flat)) (h:Cells w (Bi X.w0.heap.size X.Sc π fr) τ cs x):Cells w S τ cs x:=by
 cases hf:τ.flat with
 |true=>exact Cells.flat τ cs x hf h
 |false=>
  rw [hf,Bool.or_false] at hS
  exact Cells.Cz (Nat.le_refl _) (λ_ _ _=>rfl) (λk _ hk=>hS.cw k hk) τ cs x h
theorem Ln.own {S:Nat->Prop} {fr:Bool} (hS:Ln X S fr) (h:Il X w π H) {k:Nat} (hk:S k): ¬Pq π k:= λho=>by
 have h1:=hS.1 k hk
 rcases (h.own ho).2 with h2|h2
 ·omega
 ·exact h1.2 h2
theorem Ln.mono {S:Nat->Prop} {f1 f2:Bool} (h:Ln X S f1) (hf:f1=true->f2=true):Ln X S f2:=⟨h.1,h.2.imp hf id⟩
theorem Ji (st:St) (τ:Ty) (fr:Bool) (Js:Ty) (x:Js.den):Bv st τ (.data fr Js x)=if h:Js=τ then some (fr||τ.flat,h▸x) else cJ fr τ Js x:=by
 cases τ<;>rfl
theorem Ya (st:St) (τ:Ty) (fr:Bool) (Js:Ty) (x:Js.den):Cy st τ (.at (.data fr Js x))=if h:Js=τ then some (fr||τ.flat,h▸x) else if τ.Ac then none else Fy st τ (.data fr Js x):=rfl
theorem vu (st:St) (τ:Ty) (fr:Bool) (Js:Ty) (x:Js.den):Fy st τ (.data fr Js x)=Bv st τ (.data fr Js x):=by
 cases τ<;>rfl
theorem FW {S:Nat->Prop} {fr:Bool} {τ Js:Ty} {x:Js.den} {f:Bool} {y:τ.den} {v:Value} (h:cJ fr τ Js x=some (f,y)) (hc:Bh w (Bi X.w0.heap.size X.Sc π fr) Js v x) (hS:Ln X S f):
  τ.Ac=false/\f=fr/\Cells w S τ [v] y:=by
 unfold cJ at h
 split at h
 ·split at h
  ·rename_i e e' _ LO
   subst LO
   simp only [Option.some.injEq,Prod.mk.injEq] at h
   obtain ⟨rfl,rfl⟩:=h
   refine ⟨rfl,rfl,?_⟩
   have h1:=Rep.apart (S:=S) (τ:= .oslice e') ⟨hS.1,hS.2.imp (λh=>by rw [h];rfl) id⟩ (Bh.Mh rfl hc)
   simp only [Cells] at h1⊢
   rcases h1 with ⟨rfl,c,h1⟩|⟨xs,ad,len,cap,rfl,h1,h2,h3,h4⟩
   ·exact ⟨none,0,c,h1,rfl,Nat.zero_le _, .inl rfl⟩
   ·exact ⟨_,len,cap,h1,h2,h3,h4.imp id λ⟨g,o,ha,h4⟩=>⟨g,o,by rw [ha],h4⟩⟩
  ·cases h
 ·split at h
  ·rename_i a a' _ haa
   subst haa
   simp only [Option.some.injEq,Prod.mk.injEq] at h
   obtain ⟨rfl,rfl⟩:=h
   refine ⟨rfl,rfl,?_⟩
   have h1:=Rep.apart (S:=S) (τ:= .ptr a') ⟨hS.1,hS.2.imp (λh=>by rw [h];rfl) id⟩ (Bh.Mh rfl hc)
   simp only [Cells] at h1⊢
   obtain ⟨g,o,h2⟩:=h1
   exact .inr ⟨_,g,o,rfl,h2⟩
  ·cases h
 ·cases h
theorem pG {st:St} (h:Il X w π st.heap) {S:Nat->Prop} (τ:Ty) (c:AC) (v:Value) (fr:Bool) (x:τ.den) (Nx:τ.Ac=false) (hc:Ec X w π st.heap c v)
  (hv:Bv st τ c=some (fr,x)) (hS:Ln X S fr):Cells w S τ [v] x:=by
 cases c with
 |data Py Js y=>
  rw [Ji] at hv
  split at hv
  ·rename_i ht;subst ht
   simp only [Option.some.injEq,Prod.mk.injEq] at hv
   obtain ⟨rfl,rfl⟩:=hv
   exact Rep.apart hS (Bh.Mh Nx hc)
  ·exact (FW hv hc hS).2.2
 |Ie=>
  cases τ with
  |slice e=>
   simp only [Bv,Option.some.injEq,Prod.mk.injEq] at hv
   obtain ⟨_,rfl⟩:=hv
   exact ⟨none,0,0,by rw [show v=_ from hc],rfl,Nat.le_refl _, .inl rfl⟩
  |oslice e=>
   simp only [Bv,Option.some.injEq,Prod.mk.injEq] at hv
   obtain ⟨_,rfl⟩:=hv
   exact .inl ⟨rfl,0,by rw [show v=_ from hc]⟩
  |_=>simp [Bv] at hv
 |Rr=>
  cases τ with
  |optr e=>
   simp only [Bv,Option.some.injEq,Prod.mk.injEq] at hv
   obtain ⟨_,rfl⟩:=hv
   exact .inl ⟨rfl,by rw [show v=_ from hc]⟩
  |_=>simp [Bv] at hv
 |own l off len=>
  cases τ with
  |slice e=>
   simp only [Bv] at hv
   split at hv
   ·rename_i Py PK e' tid xs hl
    split at hv
    ·rename_i he;subst he
     simp only [Option.some.injEq,Prod.mk.injEq] at hv
     obtain ⟨rfl,rfl⟩:=hv
     obtain ⟨h2,h3⟩:=Jx hc hl
     exact kB h hl h2 h3 (λk hk ⟨r,hr,zO⟩=>hS.own h hk ⟨l,r,hr,zO⟩) (λk _ hk=>hS.cw k hk)
    ·cases hv
   ·rename_i e' tid xs hl
    split at hv
    ·rename_i he;subst he
     simp only [Option.some.injEq,Prod.mk.injEq] at hv
     obtain ⟨rfl,rfl⟩:=hv
     obtain ⟨h2,h3⟩:=Wp hc hl
     exact ic h hl h2 h3 (λk hk ⟨r,hr,zO⟩=>hS.own h hk ⟨l,r,hr,zO⟩)
    ·cases hv
   ·rename_i e' tid rows kp hl
    split at hv
    ·rename_i he;subst he
     simp only [Option.some.injEq,Prod.mk.injEq] at hv
     obtain ⟨rfl,rfl⟩:=hv
     obtain ⟨h2,h3⟩:=jn hc hl
     exact nP h hl h2 h3 (λk hk ⟨r,hr,zO⟩=>hS.own h hk ⟨l,r,hr,zO⟩) (λk hk=>hS.cw k hk)
    ·cases hv
   ·cases hv
  |_=>simp [Bv] at hv
 |sub l i c=>
  cases τ with
  |slice e=>
   simp only [Bv] at hv
   split at hv
   ·rename_i e' tid rows kp hl
    split at hv
    ·rename_i he;subst he
     simp only [Option.some.injEq,Prod.mk.injEq] at hv
     obtain ⟨rfl,rfl⟩:=hv
     exact nQ h hl (wQ hc hl) hc (λk hk ⟨r,hr,zO⟩=>hS.own h hk ⟨l,r,hr,zO⟩) (λk hk=>hS.cw k hk)
    ·cases hv
   ·cases hv
  |_=>simp [Bv] at hv
 |Gt l=>
  cases τ with
  |smap vt=>
   simp only [Bv] at hv
   split at hv
   ·rename_i v' m hl
    split at hv
    ·rename_i he;subst he
     simp only [Option.some.injEq,Prod.mk.injEq] at hv
     obtain ⟨_,rfl⟩:=hv
     obtain ⟨r,vt,m',h1,h2,rfl⟩:=hc
     exact ss ((h.heap l).Na hl) (by rw [h2];rfl) λhs=>hS.own h hs ⟨l,r,h2,h.Bc h2⟩
    ·cases hv
   ·cases hv
  |_=>simp [Bv] at hv
 |_=>cases τ<;>simp [Bv] at hv
theorem Oa {st:St} {τ:Ty} (Nx:τ.Ac=false) (cs:List AC):Cv st τ cs=match cs with| [c]=>Bv st τ c|_=>none:=by
 cases τ<;>simp [Ty.Ac] at Nx<;>rcases cs with _|⟨c,_|⟨d,r⟩⟩<;>rfl
theorem fV {st:St} (h:Il X w π st.heap) {S:Nat->Prop} : ∀(τ:Ty) (cs:List AC) (us:List Value) (fr:Bool) (x:τ.den),Dd X w π st.heap cs us->
  Cv st τ cs=some (fr,x)->Ln X S fr->Cells w S τ us x:=by
 have one: ∀(τ:Ty) (cs:List AC) (us:List Value) (fr:Bool) (x:τ.den),τ.Ac=false->Dd X w π st.heap cs us->
   Cv st τ cs=some (fr,x)->Ln X S fr->Cells w S τ us x:=by
  intro τ cs us fr x Nx hr hv hS
  rw [Oa Nx] at hv
  split at hv
  ·rename_i c
   obtain ⟨u,hu,_,hc⟩:=hr.2 0 c rfl
   have hl:us.length=1:=hr.1
   obtain ⟨u',rfl⟩:=List.length_eq_one_iff.1 hl
   simp at hu;subst hu
   exact pG h τ c _ fr x Nx hc hv hS
  ·cases hv
 intro τ
 induction τ with
 |unit=>
  intro cs us fr x hr hv hS
  cases cs with
  |nil=>have:us= []:=List.eq_nil_of_length_eq_zero hr.1;exact this
  |cons c cs=>simp [Cv] at hv
 |pair a r ij eE=>
  intro cs us fr x hr hv hS
  simp only [Cv] at hv
  split at hv
  ·rename_i f1 y f2 z h1 h2
   simp only [Option.some.injEq,Prod.mk.injEq] at hv
   obtain ⟨rfl,rfl⟩:=hv
   have SJ:Dd X w π st.heap (cs.take a.size) (us.take a.size):=
    ⟨by simp [hr.1],λi c hc=>by
     rw [List.getElem?_take] at hc⊢
     split at hc
     ·rename_i hi;simp only [hi,if_true];exact hr.2 i c hc
     ·cases hc⟩
   have VU:Dd X w π st.heap (cs.drop a.size) (us.drop a.size):=
    ⟨by simp [hr.1],λi c hc=>by
     rw [List.getElem?_drop] at hc⊢
     exact hr.2 _ c hc⟩
   exact ⟨us.take a.size,us.drop a.size,(List.take_append_drop _ _).symm,ij _ _ _ _ SJ h1 hS.and_left,eE _ _ _ _ VU h2 hS.and_right⟩
  ·cases hv
 |_=>exact λcs us fr x hr hv hS=>one _ cs us fr x rfl hr hv hS
theorem To {cs:List AC} {us:List Value} (h:Dd X w π H cs us) (i n:Nat):Dd X w π H ((cs.drop i).take n) ((us.drop i).take n):=
 ⟨by simp [h.1],λj c hc=>by
  rw [List.getElem?_take] at hc⊢
  split at hc
  ·rename_i hi
   simp only [hi,if_true]
   rw [List.getElem?_drop] at hc⊢
   exact h.2 _ c hc
  ·cases hc⟩
theorem eh {st:St} (h:Il X w π st.heap) {S:Nat->Prop} {a:Ty} {l i:Nat} {fr:Bool} {x:a.den} (hv:Oj st a l i=some (fr,x)) (hS:Ln X S fr) {r:Real} (hr:π l=some r):
  r.g<w.heap.size/\ ¬S r.g/\ ∃es:List Value,es.length=a.size/\(∀j u,es[j]?=some u->w.cell? ⟨r.g,i+j,none⟩=some u)/\Cells w S a es x:=by
 unfold Oj at hv
 split at hv
 ·rename_i tid vs hl
  obtain ⟨r',h3,h4,cur,h5,h6⟩:=(h.heap l).Na hl
  rw [hr] at h3;cases h3
  have hc:=fV h a _ _ fr x (To h6 i a.size) hv hS
  refine ⟨Di h5,λhs=>hS.own h hs ⟨l,r,hr,h4⟩,_,Cells.len a _ x hc,λj u hu=>?_,hc⟩
  rw [cellOf h5]
  rw [List.getElem?_take] at hu
  split at hu
  ·rw [List.getElem?_drop] at hu;simpa using hu
  ·cases hu
 ·cases hv
theorem vr {st:St} (h:Il X w π st.heap) {S:Nat->Prop} : ∀(τ:Ty) (Cd:List (Nat×Nat)) (us:List Value) (fr:Bool) (x:τ.den),us.length=Cd.length->
  (∀(j:Nat) p,Cd[j]?=some p-> ∃r tid vs,Ag st.heap p.1=some (.var tid vs)/\π p.1=some r/\us[j]?=some (.pointer (some ⟨r.g,p.2,none⟩)))->
  Gv st τ Cd=some (fr,x)->Ln X S fr->Cells w S τ us x:=by
 intro τ
 induction τ with
 |unit=>
  intro Cd us fr x hl hr hv hS
  cases Cd with
  |nil=>exact List.eq_nil_of_length_eq_zero hl
  |cons c cs=>simp [Gv] at hv
 |pair a r _ eE=>
  intro Cd us fr x hl hr hv hS
  cases a with
  |ptr a=>
   cases Cd with
   |nil=>simp [Gv] at hv
   |cons c cs=>
    obtain ⟨l,i⟩:=c
    simp only [Gv] at hv
    split at hv
    ·rename_i f1 y f2 z h1 h2
     simp only [Option.some.injEq,Prod.mk.injEq] at hv
     obtain ⟨rfl,rfl⟩:=hv
     cases us with
     |nil=>simp at hl
     |cons u us=>
      obtain ⟨r0,tid,vs,h3,h4,h5⟩:=hr 0 (l,i) rfl
      simp only [List.getElem?_cons_zero,Option.some.injEq] at h5
      subst h5
      obtain ⟨h6,h7,es,h8,h9,lv⟩:=eh h h1 hS.and_left h4
      exact ⟨[_],us,rfl,⟨r0.g,i,rfl,h6,h7,es,h8,h9,lv⟩,eE cs us f2 z (by simpa using hl) (λj p hp=>hr (j+1) p hp) h2 hS.and_right⟩
    ·cases hv
  |_=>cases Cd<;>simp [Gv] at hv
 |_=>intro Cd us fr x hl hr hv;cases Cd<;>simp [Gv] at hv
theorem yE {st:St} (h:Il X w π st.heap) {S:Nat->Prop} (τ:Ty) (c:AC) (v:Value) (fr:Bool) (x:τ.den) (Nx:τ.Ac=false) (hc:Ec X w π st.heap c v)
  (hv:Fy st τ c=some (fr,x)) (hS:Ln X S fr):Cells w S τ [v] x:=by
 have Jm:Bv st τ c=some (fr,x)->Cells w S τ [v] x:= λhv=>pG h τ c v fr x Nx hc hv hS
 cases τ with
 |ptr a=>
  cases c with
  |Eb l i=>
   obtain ⟨r,tid,vs,h1,h2,rfl⟩:=hc
   obtain ⟨h6,h7,h8⟩:=eh h hv hS h2
   exact ⟨r.g,i,rfl,h6,h7,h8⟩
  |_=>exact Jm hv
 |optr a=>
  cases c with
  |Eb l i=>
   obtain ⟨r,tid,vs,h1,h2,rfl⟩:=hc
   simp only [Fy] at hv
   cases hp:Oj st a l i with
   |none=>rw [hp] at hv;cases hv
   |some p=>
    rw [hp] at hv
    simp only [Option.map_some,Option.some.injEq,Prod.mk.injEq] at hv
    obtain ⟨rfl,rfl⟩:=hv
    obtain ⟨h6,h7,h8⟩:=eh h hp hS h2
    exact .inr ⟨_,r.g,i,rfl,rfl,h6,h7,h8⟩
  |_=>exact Jm hv
 |clo f a=>
  cases c with
  |clo g Cd=>
   simp only [Fy] at hv
   split at hv
   ·rename_i hg
    obtain ⟨rfl,Hm⟩:=hg
    obtain ⟨us,rfl,h2,h3⟩:=hc
    exact ⟨us,by rw [cF Hm],vr h a Cd us fr x h2 h3 hv hS⟩
   ·cases hv
  |_=>exact Jm hv
 |_=>exact Jm hv
theorem Sm {st:St} (h:Il X w π st.heap) {S:Nat->Prop} (τ:Ty) (c:AV) (v:Value) (fr:Bool) (x:τ.den) (hc:Ar X w π st.heap c v)
  (hv:Cy st τ c=some (fr,x)) (hS:Ln X S fr):Bh w S τ v x:=by
 have Jm: ∀c:AC,Ec X w π st.heap c v->(if τ.Ac then none else Fy st τ c)=some (fr,x)->Bh w S τ v x:=by
  intro c hc hv
  split at hv
  ·cases hv
  ·rename_i Nx
   simp only [Bool.not_eq_true] at Nx
   exact Bh.je Nx (yE h τ c v fr x Nx hc hv hS)
 cases c with
 | «at»c=>
  cases c with
  |data Py Js y=>
   rw [Ya] at hv
   split at hv
   ·rename_i ht;subst ht
    simp only [Option.some.injEq,Prod.mk.injEq] at hv
    obtain ⟨rfl,rfl⟩:=hv
    obtain ⟨cs,h1,h2⟩:=hc
    exact ⟨cs,Rep.apart hS h1,h2⟩
   ·exact Jm (.data Py Js y) hc hv
  |undef=>exact Jm .undef hc hv
  |skip=>exact Jm .skip hc hv
  |Ie=>exact Jm .Ie hc hv
  |Rr=>exact Jm .Rr hc hv
  |own l off len=>exact Jm (.own l off len) hc hv
  |Eb l i=>exact Jm (.Eb l i) hc hv
  |Gh l i=>exact Jm (.Gh l i) hc hv
  |clo f Cd=>exact Jm (.clo f Cd) hc hv
  |Gt l=>exact Jm (.Gt l) hc hv
  |sub l i c=>exact Jm (.sub l i c) hc hv
  |Gf l i c=>exact Jm (.Gf l i c) hc hv
 |agg cs=>
  simp only [Cy] at hv
  split at hv
  ·rename_i Nx
   obtain ⟨us,rfl,hr⟩:=hc
   exact ⟨us,fV h τ cs us fr x hr hv hS,by simp [Av,Nx]⟩
  ·cases hv
 |Vn Py Js y=>simp [Cy] at hv
 |Jq l=>simp [Cy] at hv
theorem Vc {st:St} (h:Il X w π st.heap) {S:Nat->Prop} : ∀(τ:Ty) (cs:List AV) (vs:List Value) (fr:Bool) (x:τ.den),cs.length=vs.length->
  (∀(i:Nat) c v,cs[i]?=some c->vs[i]?=some v->Ar X w π st.heap c v)->Ca st τ cs=some (fr,x)->Ln X S fr->Bb w S τ vs x
 | .unit,[],vs,fr,x,hl,hr,hv,hS=>by
  have:vs= []:=List.eq_nil_of_length_eq_zero hl.symm
  subst this;trivial
 | .unit,_::_,vs,fr,x,hl,hr,hv,hS=>by simp [Ca] at hv
 | .pair a r,[],vs,fr,x,hl,hr,hv,hS=>by simp [Ca] at hv
 | .pair a r,c::cs,[],fr,x,hl,hr,hv,hS=>by simp at hl
 | .pair a r,c::cs,v::vs,fr,x,hl,hr,hv,hS=>by
  simp only [Ca] at hv
  split at hv
  ·rename_i f1 y f2 z h1 h2
   simp only [Option.some.injEq,Prod.mk.injEq] at hv
   obtain ⟨rfl,rfl⟩:=hv
   exact ⟨Sm h a c v f1 y (hr 0 c v rfl rfl) h1 hS.and_left,Vc h r cs vs f2 z (by simpa using hl) (λi c' v' hc yZ=>hr (i+1) c' v' hc yZ) h2 hS.and_right⟩
  ·cases hv
 | .int _,cs,vs,fr,x,hl,hr,hv,hS=>by cases cs<;>simp [Ca] at hv
 | .bool,cs,vs,fr,x,hl,hr,hv,hS=>by cases cs<;>simp [Ca] at hv
 | .str,cs,vs,fr,x,hl,hr,hv,hS=>by cases cs<;>simp [Ca] at hv
 | .slice _,cs,vs,fr,x,hl,hr,hv,hS=>by cases cs<;>simp [Ca] at hv
 | .ptr _,cs,vs,fr,x,hl,hr,hv,hS=>by cases cs<;>simp [Ca] at hv
 | .oslice _,cs,vs,fr,x,hl,hr,hv,hS=>by cases cs<;>simp [Ca] at hv
 | .optr _,cs,vs,fr,x,hl,hr,hv,hS=>by cases cs<;>simp [Ca] at hv
 | .smap _,cs,vs,fr,x,hl,hr,hv,hS=>by cases cs<;>simp [Ca] at hv
 | .clo _ _,cs,vs,fr,x,hl,hr,hv,hS=>by cases cs<;>simp [Ca] at hv
end
end Go.Proofs.Ytjbdmibbbpdnnaa
