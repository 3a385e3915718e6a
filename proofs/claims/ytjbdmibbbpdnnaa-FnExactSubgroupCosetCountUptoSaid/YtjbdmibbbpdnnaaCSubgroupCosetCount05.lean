/-
  Part 6 of the proof that the statement FnExactSubgroupCosetCount holds.
-/
import Derived.Test.YtjbdmibbbpdnnaaCSubgroupCosetCount04
import Derived.WalkKit
import Derived.Laws.Slices
namespace Go.Proofs.Ytjbdmibbbpdnnaa
open Go.RowKit
def Al:Ty->List Value
 | .int k=> [.int k 0]
 | .bool=> [.bool false]
 | .str=> [.string ByteArray.empty]
 | .slice _=> [.slice none 0 0]
 | .oslice _=> [.slice none 0 0]
 | .ptr _=> [.pointer none]
 | .optr _=> [.pointer none]
 | .smap _=> [.map none]
 | .clo _ _=> [.nilFunc]
 | .unit=> []
 | .pair a r=>Al a++Al r
structure j5 (P:Program) (T:Tab) (t:TypeId) (τ:Ty):Prop where
 info: ∃i:TypeInfo,P.info? t=some i/\i.size=τ.size/\i.bytes<=256/\i.zero=some (Am τ (Al τ))
 desc:match τ with
  | .int k=>P.underlying t=some (.int k)
  | .bool=>P.underlying t=some .bool
  | .str=>P.underlying t=some .string
  | .slice e=> ∃te,P.underlying t=some (.slice te)/\T.elem t=some te/\T.ty te=some e
  | .oslice e=> ∃te,P.underlying t=some (.slice te)/\T.elem t=some te/\T.ty te=some e
  | .ptr _=> ∃u,P.underlying t=some (.pointer u)
  | .optr _=> ∃u,P.underlying t=some (.pointer u)
  | .smap _=> ∃k e,P.underlying t=some (.map k e)
  | .clo _ _=>False
  | .unit| .pair _ _=> ∃fs,P.underlying t=some (.struct fs)
def placesOf (fs:Array Field):Sem (Array (Nat×Nat)):=fs.mapM λf=>do pure (f.offset,<-sizeOf f.type)
structure Bt (P:Program) (T:Tab):Prop where
 fill: ∀t τ,T.ty t=some τ->τ.Ab=true-> ∃(fs:Array Field) (Hu:Array (Nat×Nat)),P.underlying t=some (.struct fs)/\(∀w,(placesOf fs).run P w= .ok Hu w)/\
  ∀f o u ρ,T.off t f=some (o,u)->T.ty u=some ρ->Hu[f]?=some (o,ρ.size)
 ty: ∀t τ,T.ty t=some τ->j5 P T t τ
 elem: ∀t te,T.elem t=some te->P.underlying t=some (.slice te)
 mapOf: ∀t v,T.mapOf t=some v-> ∃k e,P.underlying t=some (.map k e)/\P.underlying k=some .string/\T.ty e=some v/\v.flat=true/\v.Ab=false
 off: ∀s f o t,T.off s f=some (o,t)-> ∃(fs:Array Field) (fd:Field),P.underlying s=some (.struct fs)/\fs[f]?=some fd/\fd.offset=o/\fd.type=t/\ ∃i:TypeInfo,P.info? t=some i/\i.size≠0
section
variable {P:Program} {T:Tab} {X:Ctx} {w w':World} {π:Pi} {H:List (Nat×OB)}
theorem Jp {t:TypeId} {d:TypeDesc} (h:P.underlying t=some d):(isAgg t).run P w= .ok (match d with| .struct _| .array _ _=>true|_=>false) w:=by
 unfold isAgg
 rw [Sem.run_bind,run_underlying h]
 cases d<;>rfl
theorem j5.agg {t:TypeId} {τ:Ty} (h:j5 P T t τ):(isAgg t).run P w= .ok τ.Ab w:=by
 have hd:=h.desc
 cases τ<;>simp only at hd
 case int k=>rw [Jp hd];rfl
 case bool=>rw [Jp hd];rfl
 case str=>rw [Jp hd];rfl
 case slice e=>obtain ⟨te,hd,_⟩:=hd;rw [Jp hd];rfl
 case ptr e=>obtain ⟨te,hd⟩:=hd;rw [Jp hd];rfl
 case oslice e=>obtain ⟨te,hd,_⟩:=hd;rw [Jp hd];rfl
 case optr e=>obtain ⟨te,hd⟩:=hd;rw [Jp hd];rfl
 case smap e=>obtain ⟨k,te,hd⟩:=hd;rw [Jp hd];rfl
 case unit=>obtain ⟨te,hd⟩:=hd;rw [Jp hd];rfl
 case pair e r=>obtain ⟨te,hd⟩:=hd;rw [Jp hd];rfl
theorem j5.size {t:TypeId} {τ:Ty} (h:j5 P T t τ):(sizeOf t).run P w= .ok τ.size w:=by
 obtain ⟨i,hi,hs,_⟩:=h.info
 simp [sizeOf,typeInfo,hi,hs]
theorem Aw.Kk {S:Nat->Prop} {τ:Ty} {v:Value} {x:τ.den} (Lr:τ.Ab=false) (h:Aw w S τ v x):Cells w S τ [v] x:=by
 obtain ⟨cs,hc,rfl⟩:=h
 have hl:=Cells.len τ cs x hc
 have h1:τ.size=1:=by cases τ<;>simp_all [Ty.Ab,Ty.size]
 rw [h1] at hl
 obtain ⟨c,rfl⟩:=List.length_eq_one_iff.1 hl
 simpa [Am,Lr] using hc
theorem Aw.fj {S:Nat->Prop} {τ:Ty} {v:Value} {x:τ.den} (Lr:τ.Ab=false) (h:Cells w S τ [v] x):Aw w S τ v x:=
 ⟨[v],h,by simp [Am,Lr]⟩
def Jw (X:Ctx) (S:Nat->Prop) (fr:Bool):Prop:=(∀k,S k->k<X.w0.heap.size/\ ¬X.gv k)/\(fr=true\/ ∀k,S k->X.Sc k)
theorem Jw.ab {S:Nat->Prop} {fr:Bool} (h:Jw X S fr) (k:Nat) (hk:S k):Ax X.w0.heap.size X.Sc π fr k:=by
 rcases h.2 with h2|h2
 ·exact .inr (.inr ⟨h2,(h.1 k hk).1⟩)
 ·exact .inr (.inl (h2 k hk))
theorem Jw.and_left {S:Nat->Prop} {f1 f2:Bool} (h:Jw X S (f1&&f2)):Jw X S f1:=
 ⟨h.1,h.2.imp (λh=>by simp at h;exact h.1) id⟩
theorem Jw.and_right {S:Nat->Prop} {f1 f2:Bool} (h:Jw X S (f1&&f2)):Jw X S f2:=
 ⟨h.1,h.2.imp (λh=>by simp at h;exact h.2) id⟩
theorem SE.apart {S:Nat->Prop} {fr:Bool} {τ:Ty} {cs:List Value} {x:τ.den} (hS:Jw X S (fr||τ.flat)) (h:Cells w (Ax X.w0.heap.size X.Sc π fr) τ cs x):Cells w S τ cs x:=by
 cases hf:τ.flat with
 |true=>exact Cells.flat τ cs x hf h
 |false=>
  rw [hf,Bool.or_false] at hS
  exact Cells.Ch (Nat.le_refl _) (λ_ _ _=>rfl) (λk _ hk=>hS.ab k hk) τ cs x h
theorem Jw.own {S:Nat->Prop} {fr:Bool} (hS:Jw X S fr) (h:Gy X w π H) {k:Nat} (hk:S k): ¬Na π k:= λho=>by
 have h1:=hS.1 k hk
 rcases (h.own ho).2 with h2|h2
 ·omega
 ·exact h1.2 h2
theorem Jw.mono {S:Nat->Prop} {f1 f2:Bool} (h:Jw X S f1) (hf:f1=true->f2=true):Jw X S f2:=⟨h.1,h.2.imp hf id⟩
theorem Hm (st:St) (τ:Ty) (fr:Bool) (Hz:Ty) (x:Hz.den):Bf st τ (.data fr Hz x)=if h:Hz=τ then some (fr||τ.flat,h▸x) else ar fr τ Hz x:=by
 cases τ<;>rfl
theorem Uo (st:St) (τ:Ty) (fr:Bool) (Hz:Ty) (x:Hz.den):Cg st τ (.at (.data fr Hz x))=if h:Hz=τ then some (fr||τ.flat,h▸x) else if τ.Ab then none else Ep st τ (.data fr Hz x):=rfl
theorem qD (st:St) (τ:Ty) (fr:Bool) (Hz:Ty) (x:Hz.den):Ep st τ (.data fr Hz x)=Bf st τ (.data fr Hz x):=by
 cases τ<;>rfl
theorem xK {S:Nat->Prop} {fr:Bool} {τ Hz:Ty} {x:Hz.den} {f:Bool} {y:τ.den} {v:Value} (h:ar fr τ Hz x=some (f,y)) (hc:Aw w (Ax X.w0.heap.size X.Sc π fr) Hz v x) (hS:Jw X S f):
  τ.Ab=false/\f=fr/\Cells w S τ [v] y:=by
 unfold ar at h
 split at h
 ·split at h
  ·rename_i e e' _ zW
   subst zW
   simp only [Option.some.injEq,Prod.mk.injEq] at h
   obtain ⟨rfl,rfl⟩:=h
   refine ⟨rfl,rfl,?_⟩
   have h1:=SE.apart (S:=S) (τ:= .oslice e') ⟨hS.1,hS.2.imp (λh=>by rw [h];rfl) id⟩ (Aw.Kk rfl hc)
   simp only [Cells] at h1⊢
   rcases h1 with ⟨rfl,c,h1⟩|⟨xs,ad,len,cap,rfl,h1,h2,h3,h4⟩
   ·exact ⟨none,0,c,h1,rfl,Nat.zero_le _, .inl rfl⟩
   ·exact ⟨_,len,cap,h1,h2,h3,h4.imp id λ⟨g,o,ha,h4⟩=>⟨g,o,by rw [ha],h4⟩⟩
  ·cases h
 ·split at h
  ·rename_i a a' _ UZ
   subst UZ
   simp only [Option.some.injEq,Prod.mk.injEq] at h
   obtain ⟨rfl,rfl⟩:=h
   refine ⟨rfl,rfl,?_⟩
   have h1:=SE.apart (S:=S) (τ:= .ptr a') ⟨hS.1,hS.2.imp (λh=>by rw [h];rfl) id⟩ (Aw.Kk rfl hc)
   simp only [Cells] at h1⊢
   obtain ⟨g,o,h2⟩:=h1
   exact .inr ⟨_,g,o,rfl,h2⟩
  ·cases h
 ·cases h
theorem lT {st:St} (h:Gy X w π st.heap) {S:Nat->Prop} (τ:Ty) (c:AC) (v:Value) (fr:Bool) (x:τ.den) (Lr:τ.Ab=false) (hc:Dg X w π st.heap c v)
  (hv:Bf st τ c=some (fr,x)) (hS:Jw X S fr):Cells w S τ [v] x:=by
 cases c with
 |data Nf Hz y=>
  rw [Hm] at hv
  split at hv
  ·rename_i ht;subst ht
   simp only [Option.some.injEq,Prod.mk.injEq] at hv
   obtain ⟨rfl,rfl⟩:=hv
   exact SE.apart hS (Aw.Kk Lr hc)
  ·exact (xK hv hc hS).2.2
 |Gr=>
  cases τ with
  |slice e=>
   simp only [Bf,Option.some.injEq,Prod.mk.injEq] at hv
   obtain ⟨_,rfl⟩:=hv
   exact ⟨none,0,0,by rw [show v=_ from hc],rfl,Nat.le_refl _, .inl rfl⟩
  |oslice e=>
   simp only [Bf,Option.some.injEq,Prod.mk.injEq] at hv
   obtain ⟨_,rfl⟩:=hv
   exact .inl ⟨rfl,0,by rw [show v=_ from hc]⟩
  |_=>simp [Bf] at hv
 |Ox=>
  cases τ with
  |optr e=>
   simp only [Bf,Option.some.injEq,Prod.mk.injEq] at hv
   obtain ⟨_,rfl⟩:=hv
   exact .inl ⟨rfl,by rw [show v=_ from hc]⟩
  |_=>simp [Bf] at hv
 |own l off len=>
  cases τ with
  |slice e=>
   simp only [Bf] at hv
   split at hv
   ·rename_i Nf CV e' tid xs hl
    split at hv
    ·rename_i he;subst he
     simp only [Option.some.injEq,Prod.mk.injEq] at hv
     obtain ⟨rfl,rfl⟩:=hv
     obtain ⟨h2,h3⟩:=Ie hc hl
     exact gD h hl h2 h3 (λk hk ⟨r,hr,uV⟩=>hS.own h hk ⟨l,r,hr,uV⟩) (λk _ hk=>hS.ab k hk)
    ·cases hv
   ·rename_i e' tid xs hl
    split at hv
    ·rename_i he;subst he
     simp only [Option.some.injEq,Prod.mk.injEq] at hv
     obtain ⟨rfl,rfl⟩:=hv
     obtain ⟨h2,h3⟩:=Tk hc hl
     exact ec h hl h2 h3 (λk hk ⟨r,hr,uV⟩=>hS.own h hk ⟨l,r,hr,uV⟩)
    ·cases hv
   ·rename_i e' tid rows kp hl
    split at hv
    ·rename_i he;subst he
     simp only [Option.some.injEq,Prod.mk.injEq] at hv
     obtain ⟨rfl,rfl⟩:=hv
     obtain ⟨h2,h3⟩:=fu hc hl
     exact kq h hl h2 h3 (λk hk ⟨r,hr,uV⟩=>hS.own h hk ⟨l,r,hr,uV⟩) (λk hk=>hS.ab k hk)
    ·cases hv
   ·cases hv
  |_=>simp [Bf] at hv
 |sub l i c=>
  cases τ with
  |slice e=>
   simp only [Bf] at hv
   split at hv
   ·rename_i e' tid rows kp hl
    split at hv
    ·rename_i he;subst he
     simp only [Option.some.injEq,Prod.mk.injEq] at hv
     obtain ⟨rfl,rfl⟩:=hv
     exact kr h hl (rW hc hl) hc (λk hk ⟨r,hr,uV⟩=>hS.own h hk ⟨l,r,hr,uV⟩) (λk hk=>hS.ab k hk)
    ·cases hv
   ·cases hv
  |_=>simp [Bf] at hv
 |Fm l=>
  cases τ with
  |smap vt=>
   simp only [Bf] at hv
   split at hv
   ·rename_i v' m hl
    split at hv
    ·rename_i he;subst he
     simp only [Option.some.injEq,Prod.mk.injEq] at hv
     obtain ⟨_,rfl⟩:=hv
     obtain ⟨r,vt,m',h1,h2,rfl⟩:=hc
     exact om ((h.heap l).Kz hl) (by rw [h2];rfl) λhs=>hS.own h hs ⟨l,r,h2,h.Ar h2⟩
    ·cases hv
   ·cases hv
  |_=>simp [Bf] at hv
 |_=>cases τ<;>simp [Bf] at hv
theorem Lu {st:St} {τ:Ty} (Lr:τ.Ab=false) (cs:List AC):Ce st τ cs=match cs with| [c]=>Bf st τ c|_=>none:=by
 cases τ<;>simp [Ty.Ab] at Lr<;>rcases cs with _|⟨c,_|⟨d,r⟩⟩<;>rfl
theorem dd {st:St} (h:Gy X w π st.heap) {S:Nat->Prop} : ∀(τ:Ty) (cs:List AC) (us:List Value) (fr:Bool) (x:τ.den),Cj X w π st.heap cs us->
  Ce st τ cs=some (fr,x)->Jw X S fr->Cells w S τ us x:=by
 have one: ∀(τ:Ty) (cs:List AC) (us:List Value) (fr:Bool) (x:τ.den),τ.Ab=false->Cj X w π st.heap cs us->
   Ce st τ cs=some (fr,x)->Jw X S fr->Cells w S τ us x:=by
  intro τ cs us fr x Lr hr hv hS
  rw [Lu Lr] at hv
  split at hv
  ·rename_i c
   obtain ⟨u,hu,_,hc⟩:=hr.2 0 c rfl
   have hl:us.length=1:=hr.1
   obtain ⟨u',rfl⟩:=List.length_eq_one_iff.1 hl
   simp at hu;subst hu
   exact lT h τ c _ fr x Lr hc hv hS
  ·cases hv
 intro τ
 induction τ with
 |unit=>
  intro cs us fr x hr hv hS
  cases cs with
  |nil=>have:us= []:=List.eq_nil_of_length_eq_zero hr.1;exact this
  |cons c cs=>simp [Ce] at hv
 |pair a r ef bY=>
  intro cs us fr x hr hv hS
  simp only [Ce] at hv
  split at hv
  ·rename_i f1 y f2 z h1 h2
   simp only [Option.some.injEq,Prod.mk.injEq] at hv
   obtain ⟨rfl,rfl⟩:=hv
   have EW:Cj X w π st.heap (cs.take a.size) (us.take a.size):=
    ⟨by simp [hr.1],λi c hc=>by
     rw [List.getElem?_take] at hc⊢
     split at hc
     ·rename_i hi;simp only [hi,if_true];exact hr.2 i c hc
     ·cases hc⟩
   have HV:Cj X w π st.heap (cs.drop a.size) (us.drop a.size):=
    ⟨by simp [hr.1],λi c hc=>by
     rw [List.getElem?_drop] at hc⊢
     exact hr.2 _ c hc⟩
   exact ⟨us.take a.size,us.drop a.size,(List.take_append_drop _ _).symm,ef _ _ _ _ EW h1 hS.and_left,bY _ _ _ _ HV h2 hS.and_right⟩
  ·cases hv
 |_=>exact λcs us fr x hr hv hS=>one _ cs us fr x rfl hr hv hS
theorem Ql {cs:List AC} {us:List Value} (h:Cj X w π H cs us) (i n:Nat):Cj X w π H ((cs.drop i).take n) ((us.drop i).take n):=
 ⟨by simp [h.1],λj c hc=>by
  rw [List.getElem?_take] at hc⊢
  split at hc
  ·rename_i hi
   simp only [hi,if_true]
   rw [List.getElem?_drop] at hc⊢
   exact h.2 _ c hc
  ·cases hc⟩
theorem bM {st:St} (h:Gy X w π st.heap) {S:Nat->Prop} {a:Ty} {l i:Nat} {fr:Bool} {x:a.den} (hv:Ma st a l i=some (fr,x)) (hS:Jw X S fr) {r:Real} (hr:π l=some r):
  r.g<w.heap.size/\ ¬S r.g/\ ∃es:List Value,es.length=a.size/\(∀j u,es[j]?=some u->w.cell? ⟨r.g,i+j,none⟩=some u)/\Cells w S a es x:=by
 unfold Ma at hv
 split at hv
 ·rename_i tid vs hl
  obtain ⟨r',h3,h4,cur,h5,h6⟩:=(h.heap l).Kz hl
  rw [hr] at h3;cases h3
  have hc:=dd h a _ _ fr x (Ql h6 i a.size) hv hS
  refine ⟨Cn h5,λhs=>hS.own h hs ⟨l,r,hr,h4⟩,_,Cells.len a _ x hc,λj u hu=>?_,hc⟩
  rw [cellOf h5]
  rw [List.getElem?_take] at hu
  split at hu
  ·rw [List.getElem?_drop] at hu;simpa using hu
  ·cases hu
 ·cases hv
theorem qC {st:St} (h:Gy X w π st.heap) {S:Nat->Prop} : ∀(τ:Ty) (Bn:List (Nat×Nat)) (us:List Value) (fr:Bool) (x:τ.den),us.length=Bn.length->
  (∀(j:Nat) p,Bn[j]?=some p-> ∃r tid vs,Ad st.heap p.1=some (.var tid vs)/\π p.1=some r/\us[j]?=some (.pointer (some ⟨r.g,p.2,none⟩)))->
  Fp st τ Bn=some (fr,x)->Jw X S fr->Cells w S τ us x:=by
 intro τ
 induction τ with
 |unit=>
  intro Bn us fr x hl hr hv hS
  cases Bn with
  |nil=>exact List.eq_nil_of_length_eq_zero hl
  |cons c cs=>simp [Fp] at hv
 |pair a r _ bY=>
  intro Bn us fr x hl hr hv hS
  cases a with
  |ptr a=>
   cases Bn with
   |nil=>simp [Fp] at hv
   |cons c cs=>
    obtain ⟨l,i⟩:=c
    simp only [Fp] at hv
    split at hv
    ·rename_i f1 y f2 z h1 h2
     simp only [Option.some.injEq,Prod.mk.injEq] at hv
     obtain ⟨rfl,rfl⟩:=hv
     cases us with
     |nil=>simp at hl
     |cons u us=>
      obtain ⟨r0,tid,vs,h3,h4,h5⟩:=hr 0 (l,i) rfl
      simp only [List.getElem?_cons_zero,Option.some.injEq] at h5
      subst h5
      obtain ⟨h6,h7,es,h8,h9,iw⟩:=bM h h1 hS.and_left h4
      exact ⟨[_],us,rfl,⟨r0.g,i,rfl,h6,h7,es,h8,h9,iw⟩,bY cs us f2 z (by simpa using hl) (λj p hp=>hr (j+1) p hp) h2 hS.and_right⟩
    ·cases hv
  |_=>cases Bn<;>simp [Fp] at hv
 |_=>intro Bn us fr x hl hr hv;cases Bn<;>simp [Fp] at hv
theorem tQ {st:St} (h:Gy X w π st.heap) {S:Nat->Prop} (τ:Ty) (c:AC) (v:Value) (fr:Bool) (x:τ.den) (Lr:τ.Ab=false) (hc:Dg X w π st.heap c v)
  (hv:Ep st τ c=some (fr,x)) (hS:Jw X S fr):Cells w S τ [v] x:=by
 have Hr:Bf st τ c=some (fr,x)->Cells w S τ [v] x:= λhv=>lT h τ c v fr x Lr hc hv hS
 cases τ with
 |ptr a=>
  cases c with
  |Df l i=>
   obtain ⟨r,tid,vs,h1,h2,rfl⟩:=hc
   obtain ⟨h6,h7,h8⟩:=bM h hv hS h2
   exact ⟨r.g,i,rfl,h6,h7,h8⟩
  |_=>exact Hr hv
 |optr a=>
  cases c with
  |Df l i=>
   obtain ⟨r,tid,vs,h1,h2,rfl⟩:=hc
   simp only [Ep] at hv
   cases hp:Ma st a l i with
   |none=>rw [hp] at hv;cases hv
   |some p=>
    rw [hp] at hv
    simp only [Option.map_some,Option.some.injEq,Prod.mk.injEq] at hv
    obtain ⟨rfl,rfl⟩:=hv
    obtain ⟨h6,h7,h8⟩:=bM h hp hS h2
    exact .inr ⟨_,r.g,i,rfl,rfl,h6,h7,h8⟩
  |_=>exact Hr hv
 |clo f a=>
  cases c with
  |clo g Bn=>
   simp only [Ep] at hv
   split at hv
   ·rename_i hg
    obtain ⟨rfl,Gp⟩:=hg
    obtain ⟨us,rfl,h2,h3⟩:=hc
    exact ⟨us,by rw [an Gp],qC h a Bn us fr x h2 h3 hv hS⟩
   ·cases hv
  |_=>exact Hr hv
 |_=>exact Hr hv
theorem Pj {st:St} (h:Gy X w π st.heap) {S:Nat->Prop} (τ:Ty) (c:AV) (v:Value) (fr:Bool) (x:τ.den) (hc:Ak X w π st.heap c v)
  (hv:Cg st τ c=some (fr,x)) (hS:Jw X S fr):Aw w S τ v x:=by
 have Hr: ∀c:AC,Dg X w π st.heap c v->(if τ.Ab then none else Ep st τ c)=some (fr,x)->Aw w S τ v x:=by
  intro c hc hv
  split at hv
  ·cases hv
  ·rename_i Lr
   simp only [Bool.not_eq_true] at Lr
   exact Aw.fj Lr (tQ h τ c v fr x Lr hc hv hS)
 cases c with
 | «at»c=>
  cases c with
  |data Nf Hz y=>
   rw [Uo] at hv
   split at hv
   ·rename_i ht;subst ht
    simp only [Option.some.injEq,Prod.mk.injEq] at hv
    obtain ⟨rfl,rfl⟩:=hv
    obtain ⟨cs,h1,h2⟩:=hc
    exact ⟨cs,SE.apart hS h1,h2⟩
   ·exact Hr (.data Nf Hz y) hc hv
  |undef=>exact Hr .undef hc hv
  |skip=>exact Hr .skip hc hv
  |Gr=>exact Hr .Gr hc hv
  |Ox=>exact Hr .Ox hc hv
  |own l off len=>exact Hr (.own l off len) hc hv
  |Df l i=>exact Hr (.Df l i) hc hv
  |Ey l i=>exact Hr (.Ey l i) hc hv
  |clo f Bn=>exact Hr (.clo f Bn) hc hv
  |Fm l=>exact Hr (.Fm l) hc hv
  |sub l i c=>exact Hr (.sub l i c) hc hv
  |Ew l i c=>exact Hr (.Ew l i c) hc hv
 |agg cs=>
  simp only [Cg] at hv
  split at hv
  ·rename_i Lr
   obtain ⟨us,rfl,hr⟩:=hc
   exact ⟨us,dd h τ cs us fr x hr hv hS,by simp [Am,Lr]⟩
  ·cases hv
 |Si Nf Hz y=>simp [Cg] at hv
 |Hv l=>simp [Cg] at hv
theorem Rz {st:St} (h:Gy X w π st.heap) {S:Nat->Prop} : ∀(τ:Ty) (cs:List AV) (vs:List Value) (fr:Bool) (x:τ.den),cs.length=vs.length->
  (∀(i:Nat) c v,cs[i]?=some c->vs[i]?=some v->Ak X w π st.heap c v)->Bj st τ cs=some (fr,x)->Jw X S fr->Aq w S τ vs x
 | .unit,[],vs,fr,x,hl,hr,hv,hS=>by
  have:vs= []:=List.eq_nil_of_length_eq_zero hl.symm
  subst this;trivial
 | .unit,_::_,vs,fr,x,hl,hr,hv,hS=>by simp [Bj] at hv
 | .pair a r,[],vs,fr,x,hl,hr,hv,hS=>by simp [Bj] at hv
 | .pair a r,c::cs,[],fr,x,hl,hr,hv,hS=>by simp at hl
 | .pair a r,c::cs,v::vs,fr,x,hl,hr,hv,hS=>by
  simp only [Bj] at hv
  split at hv
  ·rename_i f1 y f2 z h1 h2
   simp only [Option.some.injEq,Prod.mk.injEq] at hv
   obtain ⟨rfl,rfl⟩:=hv
   exact ⟨Pj h a c v f1 y (hr 0 c v rfl rfl) h1 hS.and_left,Rz h r cs vs f2 z (by simpa using hl) (λi c' v' hc ub=>hr (i+1) c' v' hc ub) h2 hS.and_right⟩
  ·cases hv
 | .int _,cs,vs,fr,x,hl,hr,hv,hS=>by cases cs<;>simp [Bj] at hv
 | .bool,cs,vs,fr,x,hl,hr,hv,hS=>by cases cs<;>simp [Bj] at hv
 | .str,cs,vs,fr,x,hl,hr,hv,hS=>by cases cs<;>simp [Bj] at hv
 | .slice _,cs,vs,fr,x,hl,hr,hv,hS=>by cases cs<;>simp [Bj] at hv
 | .ptr _,cs,vs,fr,x,hl,hr,hv,hS=>by cases cs<;>simp [Bj] at hv
 | .oslice _,cs,vs,fr,x,hl,hr,hv,hS=>by cases cs<;>simp [Bj] at hv
 | .optr _,cs,vs,fr,x,hl,hr,hv,hS=>by cases cs<;>simp [Bj] at hv
 | .smap _,cs,vs,fr,x,hl,hr,hv,hS=>by cases cs<;>simp [Bj] at hv
 | .clo _ _,cs,vs,fr,x,hl,hr,hv,hS=>by cases cs<;>simp [Bj] at hv
end
end Go.Proofs.Ytjbdmibbbpdnnaa
