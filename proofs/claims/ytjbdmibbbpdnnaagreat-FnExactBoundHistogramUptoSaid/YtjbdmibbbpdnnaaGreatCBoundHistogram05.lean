/-
  Part 6 of the proof that the statement FnExactBoundHistogram holds.
-/
import Derived.Test.YtjbdmibbbpdnnaaGreatCBoundHistogram04
import Derived.WalkKit
import Derived.Laws.Slices
namespace Go.Proofs.YtjbdmibbbpdnnaaGreat
open Go.RowKit
def Aq:Ty->List Value
 | .int k=> [.int k 0]
 | .bool=> [.bool false]
 | .str=> [.string ByteArray.empty]
 | .slice _=> [.slice none 0 0]
 | .oslice _=> [.slice none 0 0]
 | .ptr _=> [.pointer none]
 | .optr _=> [.pointer none]
 | .smap _=> [.map none]
 | .clo _ _=> [.nilFunc]
 | .unit=> []
 | .pair a r=>Aq a++Aq r
structure l7 (P:Program) (T:Tab) (t:TypeId) (τ:Ty):Prop where
 info: ∃i:TypeInfo,P.info? t=some i/\i.size=τ.size/\i.bytes<=256/\i.zero=some (Ar τ (Aq τ))
 desc:match τ with
  | .int k=>P.underlying t=some (.int k)
  | .bool=>P.underlying t=some .bool
  | .str=>P.underlying t=some .string
  | .slice e=> ∃te,P.underlying t=some (.slice te)/\T.elem t=some te/\T.ty te=some e
  | .oslice e=> ∃te,P.underlying t=some (.slice te)/\T.elem t=some te/\T.ty te=some e
  | .ptr _=> ∃u,P.underlying t=some (.pointer u)
  | .optr _=> ∃u,P.underlying t=some (.pointer u)
  | .smap _=> ∃k e,P.underlying t=some (.map k e)
  | .clo _ _=>False
  | .unit| .pair _ _=> ∃fs,P.underlying t=some (.struct fs)
def placesOf (fs:Array Field):Sem (Array (Nat×Nat)):=fs.mapM λf=>do pure (f.offset,<-sizeOf f.type)
structure Cb (P:Program) (T:Tab):Prop where
 fill: ∀t τ,T.ty t=some τ->τ.Ac=true-> ∃(fs:Array Field) (Iu:Array (Nat×Nat)),P.underlying t=some (.struct fs)/\(∀w,(placesOf fs).run P w= .ok Iu w)/\
  ∀f o u ρ,T.off t f=some (o,u)->T.ty u=some ρ->Iu[f]?=some (o,ρ.size)
 ty: ∀t τ,T.ty t=some τ->l7 P T t τ
 elem: ∀t te,T.elem t=some te->P.underlying t=some (.slice te)
 mapOf: ∀t v,T.mapOf t=some v-> ∃k e,P.underlying t=some (.map k e)/\P.underlying k=some .string/\T.ty e=some v/\v.flat=true/\v.Ac=false
 off: ∀s f o t,T.off s f=some (o,t)-> ∃(fs:Array Field) (fd:Field),P.underlying s=some (.struct fs)/\fs[f]?=some fd/\fd.offset=o/\fd.type=t/\ ∃i:TypeInfo,P.info? t=some i/\i.size≠0
section
variable {P:Program} {T:Tab} {X:Ctx} {w w':World} {π:Pi} {H:List (Nat×OB)}
theorem Ko {t:TypeId} {d:TypeDesc} (h:P.underlying t=some d):(isAgg t).run P w= .ok (match d with| .struct _| .array _ _=>true|_=>false) w:=by
 unfold isAgg
 rw [Sem.run_bind,run_underlying h]
 cases d<;>rfl
theorem l7.agg {t:TypeId} {τ:Ty} (h:l7 P T t τ):(isAgg t).run P w= .ok τ.Ac w:=by
 have hd:=h.desc
 cases τ<;>simp only at hd
 case int k=>rw [Ko hd];rfl
 case bool=>rw [Ko hd];rfl
 case str=>rw [Ko hd];rfl
 case slice e=>obtain ⟨te,hd,_⟩:=hd;rw [Ko hd];rfl
 case ptr e=>obtain ⟨te,hd⟩:=hd;rw [Ko hd];rfl
 case oslice e=>obtain ⟨te,hd,_⟩:=hd;rw [Ko hd];rfl
 case optr e=>obtain ⟨te,hd⟩:=hd;rw [Ko hd];rfl
 case smap e=>obtain ⟨k,te,hd⟩:=hd;rw [Ko hd];rfl
 case unit=>obtain ⟨te,hd⟩:=hd;rw [Ko hd];rfl
 case pair e r=>obtain ⟨te,hd⟩:=hd;rw [Ko hd];rfl
theorem l7.size {t:TypeId} {τ:Ty} (h:l7 P T t τ):(sizeOf t).run P w= .ok τ.size w:=by
 obtain ⟨i,hi,hs,_⟩:=h.info
 simp [sizeOf,typeInfo,hi,hs]
theorem Bd.Lm {S:Nat->Prop} {τ:Ty} {v:Value} {x:τ.den} (Mw:τ.Ac=false) (h:Bd w S τ v x):Cells w S τ [v] x:=by
 obtain ⟨cs,hc,rfl⟩:=h
 have hl:=Cells.len τ cs x hc
 have h1:τ.size=1:=by cases τ<;>simp_all [Ty.Ac,Ty.size]
 rw [h1] at hl
 obtain ⟨c,rfl⟩:=List.length_eq_one_iff.1 hl
 simpa [Ar,Mw] using hc
theorem Bd.im {S:Nat->Prop} {τ:Ty} {v:Value} {x:τ.den} (Mw:τ.Ac=false) (h:Cells w S τ [v] x):Bd w S τ v x:=
 ⟨[v],h,by simp [Ar,Mw]⟩
def Kv (X:Ctx) (S:Nat->Prop) (fr:Bool):Prop:=(∀k,S k->k<X.w0.heap.size/\ ¬X.gv k)/\(fr=true\/ ∀k,S k->X.Sc k)
theorem Kv.bR {S:Nat->Prop} {fr:Bool} (h:Kv X S fr) (k:Nat) (hk:S k):Be X.w0.heap.size X.Sc π fr k:=by
 rcases h.2 with h2|h2
 ·exact .inr (.inr ⟨h2,(h.1 k hk).1⟩)
 ·exact .inr (.inl (h2 k hk))
theorem Kv.and_left {S:Nat->Prop} {f1 f2:Bool} (h:Kv X S (f1&&f2)):Kv X S f1:=
 ⟨h.1,h.2.imp (λh=>by simp at h;exact h.1) id⟩
theorem Kv.and_right {S:Nat->Prop} {f1 f2:Bool} (h:Kv X S (f1&&f2)):Kv X S f2:=
 ⟨h.1,h.2.imp (λh=>by simp at h;exact h.2) id⟩
theorem Rep.apart {S:Nat->Prop} {fr:Bool} {τ:Ty} {cs:List Value} {x:τ.den} (hS:Kv X S (fr||τ.flat)) (h:Cells w (Be X.w0.heap.size X.Sc π fr) τ cs x):Cells w S τ cs x:=by
 cases hf:τ.flat with
 |true=>exact Cells.flat τ cs x hf h
 |false=>
  rw [hf,Bool.or_false] at hS
  exact Cells.Cr (Nat.le_refl _) (λ_ _ _=>rfl) (λk _ hk=>hS.bR k hk) τ cs x h
theorem Kv.own {S:Nat->Prop} {fr:Bool} (hS:Kv X S fr) (h:Hw X w π H) {k:Nat} (hk:S k): ¬Na π k:= λho=>by
 have h1:=hS.1 k hk
 rcases (h.own ho).2 with h2|h2
 ·omega
 ·exact h1.2 h2
theorem Kv.mono {S:Nat->Prop} {f1 f2:Bool} (h:Kv X S f1) (hf:f1=true->f2=true):Kv X S f2:=⟨h.1,h.2.imp hf id⟩
theorem Im (st:St) (τ:Ty) (fr:Bool) (Ja:Ty) (x:Ja.den):Bn st τ (.data fr Ja x)=if h:Ja=τ then some (fr||τ.flat,h▸x) else c8 fr τ Ja x:=by
 cases τ<;>rfl
theorem Xc (st:St) (τ:Ty) (fr:Bool) (Ja:Ty) (x:Ja.den):Ct st τ (.at (.data fr Ja x))=if h:Ja=τ then some (fr||τ.flat,h▸x) else if τ.Ac then none else Fq st τ (.data fr Ja x):=rfl
theorem um (st:St) (τ:Ty) (fr:Bool) (Ja:Ty) (x:Ja.den):Fq st τ (.data fr Ja x)=Bn st τ (.data fr Ja x):=by
 cases τ<;>rfl
theorem DN {S:Nat->Prop} {fr:Bool} {τ Ja:Ty} {x:Ja.den} {f:Bool} {y:τ.den} {v:Value} (h:c8 fr τ Ja x=some (f,y)) (hc:Bd w (Be X.w0.heap.size X.Sc π fr) Ja v x) (hS:Kv X S f):
  τ.Ac=false/\f=fr/\Cells w S τ [v] y:=by
 unfold c8 at h
 split at h
 ·split at h
  ·rename_i e e' _ IZ
   subst IZ
   simp only [Option.some.injEq,Prod.mk.injEq] at h
   obtain ⟨rfl,rfl⟩:=h
   refine ⟨rfl,rfl,?_⟩
   have h1:=Rep.apart (S:=S) (τ:= .oslice e') ⟨hS.1,hS.2.imp (λh=>by rw [h];rfl) id⟩ (Bd.Lm rfl hc)
   simp only [Cells] at h1⊢
   rcases h1 with ⟨rfl,c,h1⟩|⟨xs,ad,len,cap,rfl,h1,h2,h3,h4⟩
   ·exact ⟨none,0,c,h1,rfl,Nat.zero_le _, .inl rfl⟩
   ·exact ⟨_,len,cap,h1,h2,h3,h4.imp id λ⟨g,o,ha,h4⟩=>⟨g,o,by rw [ha],h4⟩⟩
  ·cases h
 ·split at h
  ·rename_i a a' _ haa
   subst haa
   simp only [Option.some.injEq,Prod.mk.injEq] at h
   obtain ⟨rfl,rfl⟩:=h
   refine ⟨rfl,rfl,?_⟩
   have h1:=Rep.apart (S:=S) (τ:= .ptr a') ⟨hS.1,hS.2.imp (λh=>by rw [h];rfl) id⟩ (Bd.Lm rfl hc)
   simp only [Cells] at h1⊢
   obtain ⟨g,o,h2⟩:=h1
   exact .inr ⟨_,g,o,rfl,h2⟩
  ·cases h
 ·cases h
theorem oQ {st:St} (h:Hw X w π st.heap) {S:Nat->Prop} (τ:Ty) (c:AC) (v:Value) (fr:Bool) (x:τ.den) (Mw:τ.Ac=false) (hc:Ea X w π st.heap c v)
  (hv:Bn st τ c=some (fr,x)) (hS:Kv X S fr):Cells w S τ [v] x:=by
 cases c with
 |data Oy Ja y=>
  rw [Im] at hv
  split at hv
  ·rename_i ht;subst ht
   simp only [Option.some.injEq,Prod.mk.injEq] at hv
   obtain ⟨rfl,rfl⟩:=hv
   exact Rep.apart hS (Bd.Lm Mw hc)
  ·exact (DN hv hc hS).2.2
 |Hj=>
  cases τ with
  |slice e=>
   simp only [Bn,Option.some.injEq,Prod.mk.injEq] at hv
   obtain ⟨_,rfl⟩:=hv
   exact ⟨none,0,0,by rw [show v=_ from hc],rfl,Nat.le_refl _, .inl rfl⟩
  |oslice e=>
   simp only [Bn,Option.some.injEq,Prod.mk.injEq] at hv
   obtain ⟨_,rfl⟩:=hv
   exact .inl ⟨rfl,0,by rw [show v=_ from hc]⟩
  |_=>simp [Bn] at hv
 |Qa=>
  cases τ with
  |optr e=>
   simp only [Bn,Option.some.injEq,Prod.mk.injEq] at hv
   obtain ⟨_,rfl⟩:=hv
   exact .inl ⟨rfl,by rw [show v=_ from hc]⟩
  |_=>simp [Bn] at hv
 |own l off len=>
  cases τ with
  |slice e=>
   simp only [Bn] at hv
   split at hv
   ·rename_i Oy MJ e' tid xs hl
    split at hv
    ·rename_i he;subst he
     simp only [Option.some.injEq,Prod.mk.injEq] at hv
     obtain ⟨rfl,rfl⟩:=hv
     obtain ⟨h2,h3⟩:=Je hc hl
     exact jz h hl h2 h3 (λk hk ⟨r,hr,yV⟩=>hS.own h hk ⟨l,r,hr,yV⟩) (λk _ hk=>hS.bR k hk)
    ·cases hv
   ·rename_i e' tid xs hl
    split at hv
    ·rename_i he;subst he
     simp only [Option.some.injEq,Prod.mk.injEq] at hv
     obtain ⟨rfl,rfl⟩:=hv
     obtain ⟨h2,h3⟩:=Vs hc hl
     exact ga h hl h2 h3 (λk hk ⟨r,hr,yV⟩=>hS.own h hk ⟨l,r,hr,yV⟩)
    ·cases hv
   ·rename_i e' tid rows kp hl
    split at hv
    ·rename_i he;subst he
     simp only [Option.some.injEq,Prod.mk.injEq] at hv
     obtain ⟨rfl,rfl⟩:=hv
     obtain ⟨h2,h3⟩:=ix hc hl
     exact mP h hl h2 h3 (λk hk ⟨r,hr,yV⟩=>hS.own h hk ⟨l,r,hr,yV⟩) (λk hk=>hS.bR k hk)
    ·cases hv
   ·cases hv
  |_=>simp [Bn] at hv
 |sub l i c=>
  cases τ with
  |slice e=>
   simp only [Bn] at hv
   split at hv
   ·rename_i e' tid rows kp hl
    split at hv
    ·rename_i he;subst he
     simp only [Option.some.injEq,Prod.mk.injEq] at hv
     obtain ⟨rfl,rfl⟩:=hv
     exact mQ h hl (vS hc hl) hc (λk hk ⟨r,hr,yV⟩=>hS.own h hk ⟨l,r,hr,yV⟩) (λk hk=>hS.bR k hk)
    ·cases hv
   ·cases hv
  |_=>simp [Bn] at hv
 |Ge l=>
  cases τ with
  |smap vt=>
   simp only [Bn] at hv
   split at hv
   ·rename_i v' m hl
    split at hv
    ·rename_i he;subst he
     simp only [Option.some.injEq,Prod.mk.injEq] at hv
     obtain ⟨_,rfl⟩:=hv
     obtain ⟨r,vt,m',h1,h2,rfl⟩:=hc
     exact rM ((h.heap l).blk hl) (by rw [h2];rfl) λhs=>hS.own h hs ⟨l,r,h2,h.Ay h2⟩
    ·cases hv
   ·cases hv
  |_=>simp [Bn] at hv
 |_=>cases τ<;>simp [Bn] at hv
theorem Mz {st:St} {τ:Ty} (Mw:τ.Ac=false) (cs:List AC):Cp st τ cs=match cs with| [c]=>Bn st τ c|_=>none:=by
 cases τ<;>simp [Ty.Ac] at Mw<;>rcases cs with _|⟨c,_|⟨d,r⟩⟩<;>rfl
theorem eY {st:St} (h:Hw X w π st.heap) {S:Nat->Prop} : ∀(τ:Ty) (cs:List AC) (us:List Value) (fr:Bool) (x:τ.den),Cw X w π st.heap cs us->
  Cp st τ cs=some (fr,x)->Kv X S fr->Cells w S τ us x:=by
 have one: ∀(τ:Ty) (cs:List AC) (us:List Value) (fr:Bool) (x:τ.den),τ.Ac=false->Cw X w π st.heap cs us->
   Cp st τ cs=some (fr,x)->Kv X S fr->Cells w S τ us x:=by
  intro τ cs us fr x Mw hr hv hS
  rw [Mz Mw] at hv
  split at hv
  ·rename_i c
   obtain ⟨u,hu,_,hc⟩:=hr.2 0 c rfl
   have hl:us.length=1:=hr.1
   obtain ⟨u',rfl⟩:=List.length_eq_one_iff.1 hl
   simp at hu;subst hu
   exact oQ h τ c _ fr x Mw hc hv hS
  ·cases hv
 intro τ
 induction τ with
 |unit=>
  intro cs us fr x hr hv hS
  cases cs with
  |nil=>have:us= []:=List.eq_nil_of_length_eq_zero hr.1;exact this
  |cons c cs=>simp [Cp] at hv
 |pair a r gg dL=>
  intro cs us fr x hr hv hS
  simp only [Cp] at hv
  split at hv
  ·rename_i f1 y f2 z h1 h2
   simp only [Option.some.injEq,Prod.mk.injEq] at hv
   obtain ⟨rfl,rfl⟩:=hv
   have OR:Cw X w π st.heap (cs.take a.size) (us.take a.size):=
    ⟨by simp [hr.1],λi c hc=>by
     rw [List.getElem?_take] at hc⊢
     split at hc
     ·rename_i hi;simp only [hi,if_true];exact hr.2 i c hc
     ·cases hc⟩
   have SF:Cw X w π st.heap (cs.drop a.size) (us.drop a.size):=
    ⟨by simp [hr.1],λi c hc=>by
     rw [List.getElem?_drop] at hc⊢
     exact hr.2 _ c hc⟩
   exact ⟨us.take a.size,us.drop a.size,(List.take_append_drop _ _).symm,gg _ _ _ _ OR h1 hS.and_left,dL _ _ _ _ SF h2 hS.and_right⟩
  ·cases hv
 |_=>exact λcs us fr x hr hv hS=>one _ cs us fr x rfl hr hv hS
theorem Sm {cs:List AC} {us:List Value} (h:Cw X w π H cs us) (i n:Nat):Cw X w π H ((cs.drop i).take n) ((us.drop i).take n):=
 ⟨by simp [h.1],λj c hc=>by
  rw [List.getElem?_take] at hc⊢
  split at hc
  ·rename_i hi
   simp only [hi,if_true]
   rw [List.getElem?_drop] at hc⊢
   exact h.2 _ c hc
  ·cases hc⟩
theorem dy {st:St} (h:Hw X w π st.heap) {S:Nat->Prop} {a:Ty} {l i:Nat} {fr:Bool} {x:a.den} (hv:Ni st a l i=some (fr,x)) (hS:Kv X S fr) {r:Real} (hr:π l=some r):
  r.g<w.heap.size/\ ¬S r.g/\ ∃es:List Value,es.length=a.size/\(∀j u,es[j]?=some u->w.cell? ⟨r.g,i+j,none⟩=some u)/\Cells w S a es x:=by
 unfold Ni at hv
 split at hv
 ·rename_i tid vs hl
  obtain ⟨r',h3,h4,cur,h5,h6⟩:=(h.heap l).blk hl
  rw [hr] at h3;cases h3
  have hc:=eY h a _ _ fr x (Sm h6 i a.size) hv hS
  refine ⟨Cs h5,λhs=>hS.own h hs ⟨l,r,hr,h4⟩,_,Cells.len a _ x hc,λj u hu=>?_,hc⟩
  rw [cellOf h5]
  rw [List.getElem?_take] at hu
  split at hu
  ·rw [List.getElem?_drop] at hu;simpa using hu
  ·cases hu
 ·cases hv
theorem uk {st:St} (h:Hw X w π st.heap) {S:Nat->Prop} : ∀(τ:Ty) (Bw:List (Nat×Nat)) (us:List Value) (fr:Bool) (x:τ.den),us.length=Bw.length->
  (∀(j:Nat) p,Bw[j]?=some p-> ∃r tid vs,Ad st.heap p.1=some (.var tid vs)/\π p.1=some r/\us[j]?=some (.pointer (some ⟨r.g,p.2,none⟩)))->
  Gm st τ Bw=some (fr,x)->Kv X S fr->Cells w S τ us x:=by
 intro τ
 induction τ with
 |unit=>
  intro Bw us fr x hl hr hv hS
  cases Bw with
  |nil=>exact List.eq_nil_of_length_eq_zero hl
  |cons c cs=>simp [Gm] at hv
 |pair a r _ dL=>
  intro Bw us fr x hl hr hv hS
  cases a with
  |ptr a=>
   cases Bw with
   |nil=>simp [Gm] at hv
   |cons c cs=>
    obtain ⟨l,i⟩:=c
    simp only [Gm] at hv
    split at hv
    ·rename_i f1 y f2 z h1 h2
     simp only [Option.some.injEq,Prod.mk.injEq] at hv
     obtain ⟨rfl,rfl⟩:=hv
     cases us with
     |nil=>simp at hl
     |cons u us=>
      obtain ⟨r0,tid,vs,h3,h4,h5⟩:=hr 0 (l,i) rfl
      simp only [List.getElem?_cons_zero,Option.some.injEq] at h5
      subst h5
      obtain ⟨h6,h7,es,h8,h9,kr⟩:=dy h h1 hS.and_left h4
      exact ⟨[_],us,rfl,⟨r0.g,i,rfl,h6,h7,es,h8,h9,kr⟩,dL cs us f2 z (by simpa using hl) (λj p hp=>hr (j+1) p hp) h2 hS.and_right⟩
    ·cases hv
  |_=>cases Bw<;>simp [Gm] at hv
 |_=>intro Bw us fr x hl hr hv;cases Bw<;>simp [Gm] at hv
theorem xK {st:St} (h:Hw X w π st.heap) {S:Nat->Prop} (τ:Ty) (c:AC) (v:Value) (fr:Bool) (x:τ.den) (Mw:τ.Ac=false) (hc:Ea X w π st.heap c v)
  (hv:Fq st τ c=some (fr,x)) (hS:Kv X S fr):Cells w S τ [v] x:=by
 have Ir:Bn st τ c=some (fr,x)->Cells w S τ [v] x:= λhv=>oQ h τ c v fr x Mw hc hv hS
 cases τ with
 |ptr a=>
  cases c with
  |Dy l i=>
   obtain ⟨r,tid,vs,h1,h2,rfl⟩:=hc
   obtain ⟨h6,h7,h8⟩:=dy h hv hS h2
   exact ⟨r.g,i,rfl,h6,h7,h8⟩
  |_=>exact Ir hv
 |optr a=>
  cases c with
  |Dy l i=>
   obtain ⟨r,tid,vs,h1,h2,rfl⟩:=hc
   simp only [Fq] at hv
   cases hp:Ni st a l i with
   |none=>rw [hp] at hv;cases hv
   |some p=>
    rw [hp] at hv
    simp only [Option.map_some,Option.some.injEq,Prod.mk.injEq] at hv
    obtain ⟨rfl,rfl⟩:=hv
    obtain ⟨h6,h7,h8⟩:=dy h hp hS h2
    exact .inr ⟨_,r.g,i,rfl,rfl,h6,h7,h8⟩
  |_=>exact Ir hv
 |clo f a=>
  cases c with
  |clo g Bw=>
   simp only [Fq] at hv
   split at hv
   ·rename_i hg
    obtain ⟨rfl,Gt⟩:=hg
    obtain ⟨us,rfl,h2,h3⟩:=hc
    exact ⟨us,by rw [bZ Gt],uk h a Bw us fr x h2 h3 hv hS⟩
   ·cases hv
  |_=>exact Ir hv
 |_=>exact Ir hv
theorem Ri {st:St} (h:Hw X w π st.heap) {S:Nat->Prop} (τ:Ty) (c:AV) (v:Value) (fr:Bool) (x:τ.den) (hc:Ap X w π st.heap c v)
  (hv:Ct st τ c=some (fr,x)) (hS:Kv X S fr):Bd w S τ v x:=by
 have Ir: ∀c:AC,Ea X w π st.heap c v->(if τ.Ac then none else Fq st τ c)=some (fr,x)->Bd w S τ v x:=by
  intro c hc hv
  split at hv
  ·cases hv
  ·rename_i Mw
   simp only [Bool.not_eq_true] at Mw
   exact Bd.im Mw (xK h τ c v fr x Mw hc hv hS)
 cases c with
 | «at»c=>
  cases c with
  |data Oy Ja y=>
   rw [Xc] at hv
   split at hv
   ·rename_i ht;subst ht
    simp only [Option.some.injEq,Prod.mk.injEq] at hv
    obtain ⟨rfl,rfl⟩:=hv
    obtain ⟨cs,h1,h2⟩:=hc
    exact ⟨cs,Rep.apart hS h1,h2⟩
   ·exact Ir (.data Oy Ja y) hc hv
  |undef=>exact Ir .undef hc hv
  |skip=>exact Ir .skip hc hv
  |Hj=>exact Ir .Hj hc hv
  |Qa=>exact Ir .Qa hc hv
  |own l off len=>exact Ir (.own l off len) hc hv
  |Dy l i=>exact Ir (.Dy l i) hc hv
  |Fz l i=>exact Ir (.Fz l i) hc hv
  |clo f Bw=>exact Ir (.clo f Bw) hc hv
  |Ge l=>exact Ir (.Ge l) hc hv
  |sub l i c=>exact Ir (.sub l i c) hc hv
  |Fw l i c=>exact Ir (.Fw l i c) hc hv
 |agg cs=>
  simp only [Ct] at hv
  split at hv
  ·rename_i Mw
   obtain ⟨us,rfl,hr⟩:=hc
   exact ⟨us,eY h τ cs us fr x hr hv hS,by simp [Ar,Mw]⟩
  ·cases hv
 |Ur Oy Ja y=>simp [Ct] at hv
 |Iw l=>simp [Ct] at hv
theorem Ud {st:St} (h:Hw X w π st.heap) {S:Nat->Prop} : ∀(τ:Ty) (cs:List AV) (vs:List Value) (fr:Bool) (x:τ.den),cs.length=vs.length->
  (∀(i:Nat) c v,cs[i]?=some c->vs[i]?=some v->Ap X w π st.heap c v)->Bt st τ cs=some (fr,x)->Kv X S fr->Az w S τ vs x
 | .unit,[],vs,fr,x,hl,hr,hv,hS=>by
  have:vs= []:=List.eq_nil_of_length_eq_zero hl.symm
  subst this;trivial
 | .unit,_::_,vs,fr,x,hl,hr,hv,hS=>by simp [Bt] at hv
 | .pair a r,[],vs,fr,x,hl,hr,hv,hS=>by simp [Bt] at hv
 | .pair a r,c::cs,[],fr,x,hl,hr,hv,hS=>by simp at hl
 | .pair a r,c::cs,v::vs,fr,x,hl,hr,hv,hS=>by
  simp only [Bt] at hv
  split at hv
  ·rename_i f1 y f2 z h1 h2
   simp only [Option.some.injEq,Prod.mk.injEq] at hv
   obtain ⟨rfl,rfl⟩:=hv
   exact ⟨Ri h a c v f1 y (hr 0 c v rfl rfl) h1 hS.and_left,Ud h r cs vs f2 z (by simpa using hl) (λi c' v' hc EE=>hr (i+1) c' v' hc EE) h2 hS.and_right⟩
  ·cases hv
 | .int _,cs,vs,fr,x,hl,hr,hv,hS=>by cases cs<;>simp [Bt] at hv
 | .bool,cs,vs,fr,x,hl,hr,hv,hS=>by cases cs<;>simp [Bt] at hv
 | .str,cs,vs,fr,x,hl,hr,hv,hS=>by cases cs<;>simp [Bt] at hv
 | .slice _,cs,vs,fr,x,hl,hr,hv,hS=>by cases cs<;>simp [Bt] at hv
 | .ptr _,cs,vs,fr,x,hl,hr,hv,hS=>by cases cs<;>simp [Bt] at hv
 | .oslice _,cs,vs,fr,x,hl,hr,hv,hS=>by cases cs<;>simp [Bt] at hv
 | .optr _,cs,vs,fr,x,hl,hr,hv,hS=>by cases cs<;>simp [Bt] at hv
 | .smap _,cs,vs,fr,x,hl,hr,hv,hS=>by cases cs<;>simp [Bt] at hv
 | .clo _ _,cs,vs,fr,x,hl,hr,hv,hS=>by cases cs<;>simp [Bt] at hv
end
end Go.Proofs.YtjbdmibbbpdnnaaGreat
