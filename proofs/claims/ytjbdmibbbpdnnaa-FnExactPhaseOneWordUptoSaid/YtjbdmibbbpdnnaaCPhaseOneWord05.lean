/-
  Part 6 of the proof that the statement FnExactPhaseOneWord holds.
-/
import Derived.Test.YtjbdmibbbpdnnaaCPhaseOneWord04
import Derived.WalkKit
import Derived.Laws.Slices
namespace Go.Proofs.Ytjbdmibbbpdnnaa
open Go.RowKit
def Ap:Ty->List Value
 | .int k=> [.int k 0]
 | .bool=> [.bool false]
 | .str=> [.string ByteArray.empty]
 | .slice _=> [.slice none 0 0]
 | .oslice _=> [.slice none 0 0]
 | .ptr _=> [.pointer none]
 | .optr _=> [.pointer none]
 | .smap _=> [.map none]
 | .clo _ _=> [.nilFunc]
 | .unit=> []
 | .pair a r=>Ap a++Ap r
structure iU (P:Program) (T:Tab) (t:TypeId) (τ:Ty):Prop where
 info: ∃i:TypeInfo,P.info? t=some i/\i.size=τ.size/\i.bytes<=256/\i.zero=some (Ar τ (Ap τ))
 desc:match τ with
  | .int k=>P.underlying t=some (.int k)
  | .bool=>P.underlying t=some .bool
  | .str=>P.underlying t=some .string
  | .slice e=> ∃te,P.underlying t=some (.slice te)/\T.elem t=some te/\T.ty te=some e
  | .oslice e=> ∃te,P.underlying t=some (.slice te)/\T.elem t=some te/\T.ty te=some e
  | .ptr _=> ∃u,P.underlying t=some (.pointer u)
  | .optr _=> ∃u,P.underlying t=some (.pointer u)
  | .smap _=> ∃k e,P.underlying t=some (.map k e)
  | .clo _ _=>False
  | .unit| .pair _ _=> ∃fs,P.underlying t=some (.struct fs)
def placesOf (fs:Array Field):Sem (Array (Nat×Nat)):=fs.mapM λf=>do pure (f.offset,<-sizeOf f.type)
structure Ca (P:Program) (T:Tab):Prop where
 fill: ∀t τ,T.ty t=some τ->τ.Ac=true-> ∃(fs:Array Field) (Gz:Array (Nat×Nat)),P.underlying t=some (.struct fs)/\(∀w,(placesOf fs).run P w= .ok Gz w)/\
  ∀f o u ρ,T.off t f=some (o,u)->T.ty u=some ρ->Gz[f]?=some (o,ρ.size)
 ty: ∀t τ,T.ty t=some τ->iU P T t τ
 elem: ∀t te,T.elem t=some te->P.underlying t=some (.slice te)
 mapOf: ∀t v,T.mapOf t=some v-> ∃k e,P.underlying t=some (.map k e)/\P.underlying k=some .string/\T.ty e=some v/\v.flat=true/\v.Ac=false
 off: ∀s f o t,T.off s f=some (o,t)-> ∃(fs:Array Field) (fd:Field),P.underlying s=some (.struct fs)/\fs[f]?=some fd/\fd.offset=o/\fd.type=t/\ ∃i:TypeInfo,P.info? t=some i/\i.size≠0
section
variable {P:Program} {T:Tab} {X:Ctx} {w w':World} {π:Pi} {H:List (Nat×OB)}
theorem Ko {t:TypeId} {d:TypeDesc} (h:P.underlying t=some d):(isAgg t).run P w= .ok (match d with| .struct _| .array _ _=>true|_=>false) w:=by
 unfold isAgg
 rw [Sem.run_bind,run_underlying h]
 cases d<;>rfl
theorem iU.agg {t:TypeId} {τ:Ty} (h:iU P T t τ):(isAgg t).run P w= .ok τ.Ac w:=by
 have hd:=h.desc
 cases τ<;>simp only at hd
 case int k=>rw [Ko hd];rfl
 case bool=>rw [Ko hd];rfl
 case str=>rw [Ko hd];rfl
 case slice e=>obtain ⟨te,hd,_⟩:=hd;rw [Ko hd];rfl
 case ptr e=>obtain ⟨te,hd⟩:=hd;rw [Ko hd];rfl
 case oslice e=>obtain ⟨te,hd,_⟩:=hd;rw [Ko hd];rfl
 case optr e=>obtain ⟨te,hd⟩:=hd;rw [Ko hd];rfl
 case smap e=>obtain ⟨k,te,hd⟩:=hd;rw [Ko hd];rfl
 case unit=>obtain ⟨te,hd⟩:=hd;rw [Ko hd];rfl
 case pair e r=>obtain ⟨te,hd⟩:=hd;rw [Ko hd];rfl
theorem iU.size {t:TypeId} {τ:Ty} (h:iU P T t τ):(sizeOf t).run P w= .ok τ.size w:=by
 obtain ⟨i,hi,hs,_⟩:=h.info
 simp [sizeOf,typeInfo,hi,hs]
theorem Bd.Ll {S:Nat->Prop} {τ:Ty} {v:Value} {x:τ.den} (Mu:τ.Ac=false) (h:Bd w S τ v x):Cells w S τ [v] x:=by
 obtain ⟨cs,hc,rfl⟩:=h
 have hl:=Cells.len τ cs x hc
 have h1:τ.size=1:=by cases τ<;>simp_all [Ty.Ac,Ty.size]
 rw [h1] at hl
 obtain ⟨c,rfl⟩:=List.length_eq_one_iff.1 hl
 simpa [Ar,Mu] using hc
theorem Bd.ik {S:Nat->Prop} {τ:Ty} {v:Value} {x:τ.den} (Mu:τ.Ac=false) (h:Cells w S τ [v] x):Bd w S τ v x:=
 ⟨[v],h,by simp [Ar,Mu]⟩
def Kw (X:Ctx) (S:Nat->Prop) (fr:Bool):Prop:=(∀k,S k->k<X.w0.heap.size/\ ¬X.gv k)/\(fr=true\/ ∀k,S k->X.Sc k)
theorem Kw.bB {S:Nat->Prop} {fr:Bool} (h:Kw X S fr) (k:Nat) (hk:S k):Be X.w0.heap.size X.Sc π fr k:=by
 rcases h.2 with h2|h2
 ·exact .inr (.inr ⟨h2,(h.1 k hk).1⟩)
 ·exact .inr (.inl (h2 k hk))
theorem Kw.and_left {S:Nat->Prop} {f1 f2:Bool} (h:Kw X S (f1&&f2)):Kw X S f1:=
 ⟨h.1,h.2.imp (λh=>by simp at h;exact h.1) id⟩
theorem Kw.and_right {S:Nat->Prop} {f1 f2:Bool} (h:Kw X S (f1&&f2)):Kw X S f2:=
 ⟨h.1,h.2.imp (λh=>by simp at h;exact h.2) id⟩
theorem Rep.apart {S:Nat->Prop} {fr:Bool} {τ:Ty} {cs:List Value} {x:τ.den} (hS:Kw X S (fr||τ.flat)) (h:Cells w (Be X.w0.heap.size X.Sc π fr) τ cs x):Cells w S τ cs x:=by
 cases hf:τ.flat with
 |true=>exact Cells.flat τ cs x hf h
 |false=>
  rw [hf,Bool.or_false] at hS
  exact Cells.Cr (Nat.le_refl _) (λ_ _ _=>rfl) (λk _ hk=>hS.bB k hk) τ cs x h
theorem Kw.own {S:Nat->Prop} {fr:Bool} (hS:Kw X S fr) (h:Hw X w π H) {k:Nat} (hk:S k): ¬Oi π k:= λho=>by
 have h1:=hS.1 k hk
 rcases (h.own ho).2 with h2|h2
 ·omega
 ·exact h1.2 h2
theorem Kw.mono {S:Nat->Prop} {f1 f2:Bool} (h:Kw X S f1) (hf:f1=true->f2=true):Kw X S f2:=⟨h.1,h.2.imp hf id⟩
theorem Ip (st:St) (τ:Ty) (fr:Bool) (Iy:Ty) (x:Iy.den):Bm st τ (.data fr Iy x)=if h:Iy=τ then some (fr||τ.flat,h▸x) else bO fr τ Iy x:=by
 cases τ<;>rfl
theorem Wo (st:St) (τ:Ty) (fr:Bool) (Iy:Ty) (x:Iy.den):Cq st τ (.at (.data fr Iy x))=if h:Iy=τ then some (fr||τ.flat,h▸x) else if τ.Ac then none else Fk st τ (.data fr Iy x):=rfl
theorem tY (st:St) (τ:Ty) (fr:Bool) (Iy:Ty) (x:Iy.den):Fk st τ (.data fr Iy x)=Bm st τ (.data fr Iy x):=by
 cases τ<;>rfl
theorem CG {S:Nat->Prop} {fr:Bool} {τ Iy:Ty} {x:Iy.den} {f:Bool} {y:τ.den} {v:Value} (h:bO fr τ Iy x=some (f,y)) (hc:Bd w (Be X.w0.heap.size X.Sc π fr) Iy v x) (hS:Kw X S f):
  τ.Ac=false/\f=fr/\Cells w S τ [v] y:=by
 unfold bO at h
 split at h
 ·split at h
  ·rename_i e e' _ IC
   subst IC
   simp only [Option.some.injEq,Prod.mk.injEq] at h
   obtain ⟨rfl,rfl⟩:=h
   refine ⟨rfl,rfl,?_⟩
   have h1:=Rep.apart (S:=S) (τ:= .oslice e') ⟨hS.1,hS.2.imp (λh=>by rw [h];rfl) id⟩ (Bd.Ll rfl hc)
   simp only [Cells] at h1⊢
   rcases h1 with ⟨rfl,c,h1⟩|⟨xs,ad,len,cap,rfl,h1,h2,h3,h4⟩
   ·exact ⟨none,0,c,h1,rfl,Nat.zero_le _, .inl rfl⟩
   ·exact ⟨_,len,cap,h1,h2,h3,h4.imp id λ⟨g,o,ha,h4⟩=>⟨g,o,by rw [ha],h4⟩⟩
  ·cases h
 ·split at h
  ·rename_i a a' _ haa
   subst haa
   simp only [Option.some.injEq,Prod.mk.injEq] at h
   obtain ⟨rfl,rfl⟩:=h
   refine ⟨rfl,rfl,?_⟩
   have h1:=Rep.apart (S:=S) (τ:= .ptr a') ⟨hS.1,hS.2.imp (λh=>by rw [h];rfl) id⟩ (Bd.Ll rfl hc)
   simp only [Cells] at h1⊢
   obtain ⟨g,o,h2⟩:=h1
   exact .inr ⟨_,g,o,rfl,h2⟩
  ·cases h
 ·cases h
theorem ov {st:St} (h:Hw X w π st.heap) {S:Nat->Prop} (τ:Ty) (c:AC) (v:Value) (fr:Bool) (x:τ.den) (Mu:τ.Ac=false) (hc:Dx X w π st.heap c v)
  (hv:Bm st τ c=some (fr,x)) (hS:Kw X S fr):Cells w S τ [v] x:=by
 cases c with
 |data On Iy y=>
  rw [Ip] at hv
  split at hv
  ·rename_i ht;subst ht
   simp only [Option.some.injEq,Prod.mk.injEq] at hv
   obtain ⟨rfl,rfl⟩:=hv
   exact Rep.apart hS (Bd.Ll Mu hc)
  ·exact (CG hv hc hS).2.2
 |Hp=>
  cases τ with
  |slice e=>
   simp only [Bm,Option.some.injEq,Prod.mk.injEq] at hv
   obtain ⟨_,rfl⟩:=hv
   exact ⟨none,0,0,by rw [show v=_ from hc],rfl,Nat.le_refl _, .inl rfl⟩
  |oslice e=>
   simp only [Bm,Option.some.injEq,Prod.mk.injEq] at hv
   obtain ⟨_,rfl⟩:=hv
   exact .inl ⟨rfl,0,by rw [show v=_ from hc]⟩
  |_=>simp [Bm] at hv
 |Qs=>
  cases τ with
  |optr e=>
   simp only [Bm,Option.some.injEq,Prod.mk.injEq] at hv
   obtain ⟨_,rfl⟩:=hv
   exact .inl ⟨rfl,by rw [show v=_ from hc]⟩
  |_=>simp [Bm] at hv
 |own l off len=>
  cases τ with
  |slice e=>
   simp only [Bm] at hv
   split at hv
   ·rename_i On LU e' tid xs hl
    split at hv
    ·rename_i he;subst he
     simp only [Option.some.injEq,Prod.mk.injEq] at hv
     obtain ⟨rfl,rfl⟩:=hv
     obtain ⟨h2,h3⟩:=Jc hc hl
     exact jx h hl h2 h3 (λk hk ⟨r,hr,yu⟩=>hS.own h hk ⟨l,r,hr,yu⟩) (λk _ hk=>hS.bB k hk)
    ·cases hv
   ·rename_i e' tid xs hl
    split at hv
    ·rename_i he;subst he
     simp only [Option.some.injEq,Prod.mk.injEq] at hv
     obtain ⟨rfl,rfl⟩:=hv
     obtain ⟨h2,h3⟩:=Vi hc hl
     exact gg h hl h2 h3 (λk hk ⟨r,hr,yu⟩=>hS.own h hk ⟨l,r,hr,yu⟩)
    ·cases hv
   ·rename_i e' tid rows kp hl
    split at hv
    ·rename_i he;subst he
     simp only [Option.some.injEq,Prod.mk.injEq] at hv
     obtain ⟨rfl,rfl⟩:=hv
     obtain ⟨h2,h3⟩:=iw hc hl
     exact mB h hl h2 h3 (λk hk ⟨r,hr,yu⟩=>hS.own h hk ⟨l,r,hr,yu⟩) (λk hk=>hS.bB k hk)
    ·cases hv
   ·cases hv
  |_=>simp [Bm] at hv
 |sub l i c=>
  cases τ with
  |slice e=>
   simp only [Bm] at hv
   split at hv
   ·rename_i e' tid rows kp hl
    split at hv
    ·rename_i he;subst he
     simp only [Option.some.injEq,Prod.mk.injEq] at hv
     obtain ⟨rfl,rfl⟩:=hv
     exact mC h hl (vC hc hl) hc (λk hk ⟨r,hr,yu⟩=>hS.own h hk ⟨l,r,hr,yu⟩) (λk hk=>hS.bB k hk)
    ·cases hv
   ·cases hv
  |_=>simp [Bm] at hv
 |Gi l=>
  cases τ with
  |smap vt=>
   simp only [Bm] at hv
   split at hv
   ·rename_i v' m hl
    split at hv
    ·rename_i he;subst he
     simp only [Option.some.injEq,Prod.mk.injEq] at hv
     obtain ⟨_,rfl⟩:=hv
     obtain ⟨r,vt,m',h1,h2,rfl⟩:=hc
     exact r9 ((h.heap l).Ma hl) (by rw [h2];rfl) λhs=>hS.own h hs ⟨l,r,h2,h.Ay h2⟩
    ·cases hv
   ·cases hv
  |_=>simp [Bm] at hv
 |_=>cases τ<;>simp [Bm] at hv
theorem Mx {st:St} {τ:Ty} (Mu:τ.Ac=false) (cs:List AC):Cm st τ cs=match cs with| [c]=>Bm st τ c|_=>none:=by
 cases τ<;>simp [Ty.Ac] at Mu<;>rcases cs with _|⟨c,_|⟨d,r⟩⟩<;>rfl
theorem eR {st:St} (h:Hw X w π st.heap) {S:Nat->Prop} : ∀(τ:Ty) (cs:List AC) (us:List Value) (fr:Bool) (x:τ.den),Cw X w π st.heap cs us->
  Cm st τ cs=some (fr,x)->Kw X S fr->Cells w S τ us x:=by
 have one: ∀(τ:Ty) (cs:List AC) (us:List Value) (fr:Bool) (x:τ.den),τ.Ac=false->Cw X w π st.heap cs us->
   Cm st τ cs=some (fr,x)->Kw X S fr->Cells w S τ us x:=by
  intro τ cs us fr x Mu hr hv hS
  rw [Mx Mu] at hv
  split at hv
  ·rename_i c
   obtain ⟨u,hu,_,hc⟩:=hr.2 0 c rfl
   have hl:us.length=1:=hr.1
   obtain ⟨u',rfl⟩:=List.length_eq_one_iff.1 hl
   simp at hu;subst hu
   exact ov h τ c _ fr x Mu hc hv hS
  ·cases hv
 intro τ
 induction τ with
 |unit=>
  intro cs us fr x hr hv hS
  cases cs with
  |nil=>have:us= []:=List.eq_nil_of_length_eq_zero hr.1;exact this
  |cons c cs=>simp [Cm] at hv
 |pair a r gk dz=>
  intro cs us fr x hr hv hS
  simp only [Cm] at hv
  split at hv
  ·rename_i f1 y f2 z h1 h2
   simp only [Option.some.injEq,Prod.mk.injEq] at hv
   obtain ⟨rfl,rfl⟩:=hv
   have OM:Cw X w π st.heap (cs.take a.size) (us.take a.size):=
    ⟨by simp [hr.1],λi c hc=>by
     rw [List.getElem?_take] at hc⊢
     split at hc
     ·rename_i hi;simp only [hi,if_true];exact hr.2 i c hc
     ·cases hc⟩
   have RW:Cw X w π st.heap (cs.drop a.size) (us.drop a.size):=
    ⟨by simp [hr.1],λi c hc=>by
     rw [List.getElem?_drop] at hc⊢
     exact hr.2 _ c hc⟩
   exact ⟨us.take a.size,us.drop a.size,(List.take_append_drop _ _).symm,gk _ _ _ _ OM h1 hS.and_left,dz _ _ _ _ RW h2 hS.and_right⟩
  ·cases hv
 |_=>exact λcs us fr x hr hv hS=>one _ cs us fr x rfl hr hv hS
theorem Sm {cs:List AC} {us:List Value} (h:Cw X w π H cs us) (i n:Nat):Cw X w π H ((cs.drop i).take n) ((us.drop i).take n):=
 ⟨by simp [h.1],λj c hc=>by
  rw [List.getElem?_take] at hc⊢
  split at hc
  ·rename_i hi
   simp only [hi,if_true]
   rw [List.getElem?_drop] at hc⊢
   exact h.2 _ c hc
  ·cases hc⟩
theorem dj {st:St} (h:Hw X w π st.heap) {S:Nat->Prop} {a:Ty} {l i:Nat} {fr:Bool} {x:a.den} (hv:Nf st a l i=some (fr,x)) (hS:Kw X S fr) {r:Real} (hr:π l=some r):
  r.g<w.heap.size/\ ¬S r.g/\ ∃es:List Value,es.length=a.size/\(∀j u,es[j]?=some u->w.cell? ⟨r.g,i+j,none⟩=some u)/\Cells w S a es x:=by
 unfold Nf at hv
 split at hv
 ·rename_i tid vs hl
  obtain ⟨r',h3,h4,cur,h5,h6⟩:=(h.heap l).Ma hl
  rw [hr] at h3;cases h3
  have hc:=eR h a _ _ fr x (Sm h6 i a.size) hv hS
  refine ⟨Dc h5,λhs=>hS.own h hs ⟨l,r,hr,h4⟩,_,Cells.len a _ x hc,λj u hu=>?_,hc⟩
  rw [cellOf h5]
  rw [List.getElem?_take] at hu
  split at hu
  ·rw [List.getElem?_drop] at hu;simpa using hu
  ·cases hu
 ·cases hv
theorem tX {st:St} (h:Hw X w π st.heap) {S:Nat->Prop} : ∀(τ:Ty) (Bv:List (Nat×Nat)) (us:List Value) (fr:Bool) (x:τ.den),us.length=Bv.length->
  (∀(j:Nat) p,Bv[j]?=some p-> ∃r tid vs,Ae st.heap p.1=some (.var tid vs)/\π p.1=some r/\us[j]?=some (.pointer (some ⟨r.g,p.2,none⟩)))->
  Gk st τ Bv=some (fr,x)->Kw X S fr->Cells w S τ us x:=by
 intro τ
 induction τ with
 |unit=>
  intro Bv us fr x hl hr hv hS
  cases Bv with
  |nil=>exact List.eq_nil_of_length_eq_zero hl
  |cons c cs=>simp [Gk] at hv
 |pair a r _ dz=>
  intro Bv us fr x hl hr hv hS
  cases a with
  |ptr a=>
   cases Bv with
   |nil=>simp [Gk] at hv
   |cons c cs=>
    obtain ⟨l,i⟩:=c
    simp only [Gk] at hv
    split at hv
    ·rename_i f1 y f2 z h1 h2
     simp only [Option.some.injEq,Prod.mk.injEq] at hv
     obtain ⟨rfl,rfl⟩:=hv
     cases us with
     |nil=>simp at hl
     |cons u us=>
      obtain ⟨r0,tid,vs,h3,h4,h5⟩:=hr 0 (l,i) rfl
      simp only [List.getElem?_cons_zero,Option.some.injEq] at h5
      subst h5
      obtain ⟨h6,h7,es,h8,h9,kv⟩:=dj h h1 hS.and_left h4
      exact ⟨[_],us,rfl,⟨r0.g,i,rfl,h6,h7,es,h8,h9,kv⟩,dz cs us f2 z (by simpa using hl) (λj p hp=>hr (j+1) p hp) h2 hS.and_right⟩
    ·cases hv
  |_=>cases Bv<;>simp [Gk] at hv
 |_=>intro Bv us fr x hl hr hv;cases Bv<;>simp [Gk] at hv
theorem xj {st:St} (h:Hw X w π st.heap) {S:Nat->Prop} (τ:Ty) (c:AC) (v:Value) (fr:Bool) (x:τ.den) (Mu:τ.Ac=false) (hc:Dx X w π st.heap c v)
  (hv:Fk st τ c=some (fr,x)) (hS:Kw X S fr):Cells w S τ [v] x:=by
 have It:Bm st τ c=some (fr,x)->Cells w S τ [v] x:= λhv=>ov h τ c v fr x Mu hc hv hS
 cases τ with
 |ptr a=>
  cases c with
  |Dw l i=>
   obtain ⟨r,tid,vs,h1,h2,rfl⟩:=hc
   obtain ⟨h6,h7,h8⟩:=dj h hv hS h2
   exact ⟨r.g,i,rfl,h6,h7,h8⟩
  |_=>exact It hv
 |optr a=>
  cases c with
  |Dw l i=>
   obtain ⟨r,tid,vs,h1,h2,rfl⟩:=hc
   simp only [Fk] at hv
   cases hp:Nf st a l i with
   |none=>rw [hp] at hv;cases hv
   |some p=>
    rw [hp] at hv
    simp only [Option.map_some,Option.some.injEq,Prod.mk.injEq] at hv
    obtain ⟨rfl,rfl⟩:=hv
    obtain ⟨h6,h7,h8⟩:=dj h hp hS h2
    exact .inr ⟨_,r.g,i,rfl,rfl,h6,h7,h8⟩
  |_=>exact It hv
 |clo f a=>
  cases c with
  |clo g Bv=>
   simp only [Fk] at hv
   split at hv
   ·rename_i hg
    obtain ⟨rfl,Ho⟩:=hg
    obtain ⟨us,rfl,h2,h3⟩:=hc
    exact ⟨us,by rw [bJ Ho],tX h a Bv us fr x h2 h3 hv hS⟩
   ·cases hv
  |_=>exact It hv
 |_=>exact It hv
theorem Rg {st:St} (h:Hw X w π st.heap) {S:Nat->Prop} (τ:Ty) (c:AV) (v:Value) (fr:Bool) (x:τ.den) (hc:Am X w π st.heap c v)
  (hv:Cq st τ c=some (fr,x)) (hS:Kw X S fr):Bd w S τ v x:=by
 have It: ∀c:AC,Dx X w π st.heap c v->(if τ.Ac then none else Fk st τ c)=some (fr,x)->Bd w S τ v x:=by
  intro c hc hv
  split at hv
  ·cases hv
  ·rename_i Mu
   simp only [Bool.not_eq_true] at Mu
   exact Bd.ik Mu (xj h τ c v fr x Mu hc hv hS)
 cases c with
 | «at»c=>
  cases c with
  |data On Iy y=>
   rw [Wo] at hv
   split at hv
   ·rename_i ht;subst ht
    simp only [Option.some.injEq,Prod.mk.injEq] at hv
    obtain ⟨rfl,rfl⟩:=hv
    obtain ⟨cs,h1,h2⟩:=hc
    exact ⟨cs,Rep.apart hS h1,h2⟩
   ·exact It (.data On Iy y) hc hv
  |undef=>exact It .undef hc hv
  |skip=>exact It .skip hc hv
  |Hp=>exact It .Hp hc hv
  |Qs=>exact It .Qs hc hv
  |own l off len=>exact It (.own l off len) hc hv
  |Dw l i=>exact It (.Dw l i) hc hv
  |Fz l i=>exact It (.Fz l i) hc hv
  |clo f Bv=>exact It (.clo f Bv) hc hv
  |Gi l=>exact It (.Gi l) hc hv
  |sub l i c=>exact It (.sub l i c) hc hv
  |Fw l i c=>exact It (.Fw l i c) hc hv
 |agg cs=>
  simp only [Cq] at hv
  split at hv
  ·rename_i Mu
   obtain ⟨us,rfl,hr⟩:=hc
   exact ⟨us,eR h τ cs us fr x hr hv hS,by simp [Ar,Mu]⟩
  ·cases hv
 |Uj On Iy y=>simp [Cq] at hv
 |Iw l=>simp [Cq] at hv
theorem Tx {st:St} (h:Hw X w π st.heap) {S:Nat->Prop} : ∀(τ:Ty) (cs:List AV) (vs:List Value) (fr:Bool) (x:τ.den),cs.length=vs.length->
  (∀(i:Nat) c v,cs[i]?=some c->vs[i]?=some v->Am X w π st.heap c v)->Bp st τ cs=some (fr,x)->Kw X S fr->Ax w S τ vs x
 | .unit,[],vs,fr,x,hl,hr,hv,hS=>by
  have:vs= []:=List.eq_nil_of_length_eq_zero hl.symm
  subst this;trivial
 | .unit,_::_,vs,fr,x,hl,hr,hv,hS=>by simp [Bp] at hv
 | .pair a r,[],vs,fr,x,hl,hr,hv,hS=>by simp [Bp] at hv
 | .pair a r,c::cs,[],fr,x,hl,hr,hv,hS=>by simp at hl
 | .pair a r,c::cs,v::vs,fr,x,hl,hr,hv,hS=>by
  simp only [Bp] at hv
  split at hv
  ·rename_i f1 y f2 z h1 h2
   simp only [Option.some.injEq,Prod.mk.injEq] at hv
   obtain ⟨rfl,rfl⟩:=hv
   exact ⟨Rg h a c v f1 y (hr 0 c v rfl rfl) h1 hS.and_left,Tx h r cs vs f2 z (by simpa using hl) (λi c' v' hc xE=>hr (i+1) c' v' hc xE) h2 hS.and_right⟩
  ·cases hv
 | .int _,cs,vs,fr,x,hl,hr,hv,hS=>by cases cs<;>simp [Bp] at hv
 | .bool,cs,vs,fr,x,hl,hr,hv,hS=>by cases cs<;>simp [Bp] at hv
 | .str,cs,vs,fr,x,hl,hr,hv,hS=>by cases cs<;>simp [Bp] at hv
 | .slice _,cs,vs,fr,x,hl,hr,hv,hS=>by cases cs<;>simp [Bp] at hv
 | .ptr _,cs,vs,fr,x,hl,hr,hv,hS=>by cases cs<;>simp [Bp] at hv
 | .oslice _,cs,vs,fr,x,hl,hr,hv,hS=>by cases cs<;>simp [Bp] at hv
 | .optr _,cs,vs,fr,x,hl,hr,hv,hS=>by cases cs<;>simp [Bp] at hv
 | .smap _,cs,vs,fr,x,hl,hr,hv,hS=>by cases cs<;>simp [Bp] at hv
 | .clo _ _,cs,vs,fr,x,hl,hr,hv,hS=>by cases cs<;>simp [Bp] at hv
end
end Go.Proofs.Ytjbdmibbbpdnnaa
