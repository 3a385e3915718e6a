/-
  Part 6 of the proof that the statement FnExactBoundGap holds.
-/
import Derived.Test.YtfolipnappekaaaGreatCBoundGap04
import Derived.WalkKit
import Derived.Laws.Slices
namespace Go.Proofs.YtfolipnappekaaaGreat
open Go.RowKit
def Aq:Ty->List Value
 | .int k=> [.int k 0]
 | .bool=> [.bool false]
 | .str=> [.string ByteArray.empty]
 | .slice _=> [.slice none 0 0]
 | .oslice _=> [.slice none 0 0]
 | .ptr _=> [.pointer none]
 | .optr _=> [.pointer none]
 | .smap _=> [.map none]
 | .clo _ _=> [.nilFunc]
 | .unit=> []
 | .pair a r=>Aq a++Aq r
structure jY (P:Program) (T:Tab) (t:TypeId) (τ:Ty):Prop where
 info: ∃i:TypeInfo,P.info? t=some i/\i.size=τ.size/\i.bytes<=256/\i.zero=some (Ar τ (Aq τ))
 desc:match τ with
  | .int k=>P.underlying t=some (.int k)
  | .bool=>P.underlying t=some .bool
  | .str=>P.underlying t=some .string
  | .slice e=> ∃te,P.underlying t=some (.slice te)/\T.elem t=some te/\T.ty te=some e
  | .oslice e=> ∃te,P.underlying t=some (.slice te)/\T.elem t=some te/\T.ty te=some e
  | .ptr _=> ∃u,P.underlying t=some (.pointer u)
  | .optr _=> ∃u,P.underlying t=some (.pointer u)
  | .smap _=> ∃k e,P.underlying t=some (.map k e)
  | .clo _ _=>False
  | .unit| .pair _ _=> ∃fs,P.underlying t=some (.struct fs)
def placesOf (fs:Array Field):Sem (Array (Nat×Nat)):=fs.mapM λf=>do pure (f.offset,<-sizeOf f.type)
structure Ce (P:Program) (T:Tab):Prop where
 fill: ∀t τ,T.ty t=some τ->τ.Ab=true-> ∃(fs:Array Field) (Ho:Array (Nat×Nat)),P.underlying t=some (.struct fs)/\(∀w,(placesOf fs).run P w= .ok Ho w)/\
  ∀f o u ρ,T.off t f=some (o,u)->T.ty u=some ρ->Ho[f]?=some (o,ρ.size)
 ty: ∀t τ,T.ty t=some τ->jY P T t τ
 elem: ∀t te,T.elem t=some te->P.underlying t=some (.slice te)
 mapOf: ∀t v,T.mapOf t=some v-> ∃k e,P.underlying t=some (.map k e)/\P.underlying k=some .string/\T.ty e=some v/\v.flat=true/\v.Ab=false
 off: ∀s f o t,T.off s f=some (o,t)-> ∃(fs:Array Field) (fd:Field),P.underlying s=some (.struct fs)/\fs[f]?=some fd/\fd.offset=o/\fd.type=t/\ ∃i:TypeInfo,P.info? t=some i/\i.size≠0
section
variable {P:Program} {T:Tab} {X:Ctx} {w w':World} {π:Pi} {H:List (Nat×OB)}
theorem Lg {t:TypeId} {d:TypeDesc} (h:P.underlying t=some d):(isAgg t).run P w= .ok (match d with| .struct _| .array _ _=>true|_=>false) w:=by
 unfold isAgg
 rw [Sem.run_bind,run_underlying h]
 cases d<;>rfl
theorem jY.agg {t:TypeId} {τ:Ty} (h:jY P T t τ):(isAgg t).run P w= .ok τ.Ab w:=by
 have hd:=h.desc
 cases τ<;>simp only at hd
 case int k=>rw [Lg hd];rfl
 case bool=>rw [Lg hd];rfl
 case str=>rw [Lg hd];rfl
 case slice e=>obtain ⟨te,hd,_⟩:=hd;rw [Lg hd];rfl
 case ptr e=>obtain ⟨te,hd⟩:=hd;rw [Lg hd];rfl
 case oslice e=>obtain ⟨te,hd,_⟩:=hd;rw [Lg hd];rfl
 case optr e=>obtain ⟨te,hd⟩:=hd;rw [Lg hd];rfl
 case smap e=>obtain ⟨k,te,hd⟩:=hd;rw [Lg hd];rfl
 case unit=>obtain ⟨te,hd⟩:=hd;rw [Lg hd];rfl
 case pair e r=>obtain ⟨te,hd⟩:=hd;rw [Lg hd];rfl
theorem jY.size {t:TypeId} {τ:Ty} (h:jY P T t τ):(sizeOf t).run P w= .ok τ.size w:=by
 obtain ⟨i,hi,hs,_⟩:=h.info
 simp [sizeOf,typeInfo,hi,hs]
theorem Bd.Mi {S:Nat->Prop} {τ:Ty} {v:Value} {x:τ.den} (Od:τ.Ab=false) (h:Bd w S τ v x):Cells w S τ [v] x:=by
 obtain ⟨cs,hc,rfl⟩:=h
 have hl:=Cells.len τ cs x hc
 have h1:τ.size=1:=by cases τ<;>simp_all [Ty.Ab,Ty.size]
 rw [h1] at hl
 obtain ⟨c,rfl⟩:=List.length_eq_one_iff.1 hl
 simpa [Ar,Od] using hc
theorem Bd.jm {S:Nat->Prop} {τ:Ty} {v:Value} {x:τ.den} (Od:τ.Ab=false) (h:Cells w S τ [v] x):Bd w S τ v x:=
 ⟨[v],h,by simp [Ar,Od]⟩
def Lo (X:Ctx) (S:Nat->Prop) (fr:Bool):Prop:=(∀k,S k->k<X.w0.heap.size/\ ¬X.gv k)/\(fr=true\/ ∀k,S k->X.Sc k)
theorem Lo.cM {S:Nat->Prop} {fr:Bool} (h:Lo X S fr) (k:Nat) (hk:S k):Bf X.w0.heap.size X.Sc π fr k:=by
 rcases h.2 with h2|h2
 ·exact .inr (.inr ⟨h2,(h.1 k hk).1⟩)
 ·exact .inr (.inl (h2 k hk))
theorem Lo.and_left {S:Nat->Prop} {f1 f2:Bool} (h:Lo X S (f1&&f2)):Lo X S f1:=
 ⟨h.1,h.2.imp (λh=>by simp at h;exact h.1) id⟩
theorem Lo.and_right {S:Nat->Prop} {f1 f2:Bool} (h:Lo X S (f1&&f2)):Lo X S f2:=
 ⟨h.1,h.2.imp (λh=>by simp at h;exact h.2) id⟩
theorem Rep.apart {S:Nat->Prop} {fr:Bool} {τ:Ty} {cs:List Value} {x:τ.den} (hS:Lo X S (fr||τ.flat)) (h:Cells w (Bf X.w0.heap.size X.Sc π fr) τ cs x):Cells w S τ cs x:=by
 cases hf:τ.flat with
 |true=>exact Cells.flat τ cs x hf h
 |false=>
  rw [hf,Bool.or_false] at hS
  exact Cells.Cs (Nat.le_refl _) (λ_ _ _=>rfl) (λk _ hk=>hS.cM k hk) τ cs x h
theorem Lo.own {S:Nat->Prop} {fr:Bool} (hS:Lo X S fr) (h:Iq X w π H) {k:Nat} (hk:S k): ¬Qd π k:= λho=>by
 have h1:=hS.1 k hk
 rcases (h.own ho).2 with h2|h2
 ·omega
 ·exact h1.2 h2
theorem Lo.mono {S:Nat->Prop} {f1 f2:Bool} (h:Lo X S f1) (hf:f1=true->f2=true):Lo X S f2:=⟨h.1,h.2.imp hf id⟩
theorem Jb (st:St) (τ:Ty) (fr:Bool) (Jj:Ty) (x:Jj.den):Bo st τ (.data fr Jj x)=if h:Jj=τ then some (fr||τ.flat,h▸x) else cY fr τ Jj x:=by
 cases τ<;>rfl
theorem Yq (st:St) (τ:Ty) (fr:Bool) (Jj:Ty) (x:Jj.den):Cx st τ (.at (.data fr Jj x))=if h:Jj=τ then some (fr||τ.flat,h▸x) else if τ.Ab then none else Ga st τ (.data fr Jj x):=rfl
theorem wL (st:St) (τ:Ty) (fr:Bool) (Jj:Ty) (x:Jj.den):Ga st τ (.data fr Jj x)=Bo st τ (.data fr Jj x):=by
 cases τ<;>rfl
theorem IM {S:Nat->Prop} {fr:Bool} {τ Jj:Ty} {x:Jj.den} {f:Bool} {y:τ.den} {v:Value} (h:cY fr τ Jj x=some (f,y)) (hc:Bd w (Bf X.w0.heap.size X.Sc π fr) Jj v x) (hS:Lo X S f):
  τ.Ab=false/\f=fr/\Cells w S τ [v] y:=by
 unfold cY at h
 split at h
 ·split at h
  ·rename_i e e' _ OJ
   subst OJ
   simp only [Option.some.injEq,Prod.mk.injEq] at h
   obtain ⟨rfl,rfl⟩:=h
   refine ⟨rfl,rfl,?_⟩
   have h1:=Rep.apart (S:=S) (τ:= .oslice e') ⟨hS.1,hS.2.imp (λh=>by rw [h];rfl) id⟩ (Bd.Mi rfl hc)
   simp only [Cells] at h1⊢
   rcases h1 with ⟨rfl,c,h1⟩|⟨xs,ad,len,cap,rfl,h1,h2,h3,h4⟩
   ·exact ⟨none,0,c,h1,rfl,Nat.zero_le _, .inl rfl⟩
   ·exact ⟨_,len,cap,h1,h2,h3,h4.imp id λ⟨g,o,ha,h4⟩=>⟨g,o,by rw [ha],h4⟩⟩
  ·cases h
 ·split at h
  ·rename_i a a' _ haa
   subst haa
   simp only [Option.some.injEq,Prod.mk.injEq] at h
   obtain ⟨rfl,rfl⟩:=h
   refine ⟨rfl,rfl,?_⟩
   have h1:=Rep.apart (S:=S) (τ:= .ptr a') ⟨hS.1,hS.2.imp (λh=>by rw [h];rfl) id⟩ (Bd.Mi rfl hc)
   simp only [Cells] at h1⊢
   obtain ⟨g,o,h2⟩:=h1
   exact .inr ⟨_,g,o,rfl,h2⟩
  ·cases h
 ·cases h
theorem qB {st:St} (h:Iq X w π st.heap) {S:Nat->Prop} (τ:Ty) (c:AC) (v:Value) (fr:Bool) (x:τ.den) (Od:τ.Ab=false) (hc:Ec X w π st.heap c v)
  (hv:Bo st τ c=some (fr,x)) (hS:Lo X S fr):Cells w S τ [v] x:=by
 cases c with
 |data Qk Jj y=>
  rw [Jb] at hv
  split at hv
  ·rename_i ht;subst ht
   simp only [Option.some.injEq,Prod.mk.injEq] at hv
   obtain ⟨rfl,rfl⟩:=hv
   exact Rep.apart hS (Bd.Mi Od hc)
  ·exact (IM hv hc hS).2.2
 |Hx=>
  cases τ with
  |slice e=>
   simp only [Bo,Option.some.injEq,Prod.mk.injEq] at hv
   obtain ⟨_,rfl⟩:=hv
   exact ⟨none,0,0,by rw [show v=_ from hc],rfl,Nat.le_refl _, .inl rfl⟩
  |oslice e=>
   simp only [Bo,Option.some.injEq,Prod.mk.injEq] at hv
   obtain ⟨_,rfl⟩:=hv
   exact .inl ⟨rfl,0,by rw [show v=_ from hc]⟩
  |_=>simp [Bo] at hv
 |Rg=>
  cases τ with
  |optr e=>
   simp only [Bo,Option.some.injEq,Prod.mk.injEq] at hv
   obtain ⟨_,rfl⟩:=hv
   exact .inl ⟨rfl,by rw [show v=_ from hc]⟩
  |_=>simp [Bo] at hv
 |own l off len=>
  cases τ with
  |slice e=>
   simp only [Bo] at hv
   split at hv
   ·rename_i Qk SW e' tid xs hl
    split at hv
    ·rename_i he;subst he
     simp only [Option.some.injEq,Prod.mk.injEq] at hv
     obtain ⟨rfl,rfl⟩:=hv
     obtain ⟨h2,h3⟩:=Jp hc hl
     exact kT h hl h2 h3 (λk hk ⟨r,hr,CC⟩=>hS.own h hk ⟨l,r,hr,CC⟩) (λk _ hk=>hS.cM k hk)
    ·cases hv
   ·rename_i e' tid xs hl
    split at hv
    ·rename_i he;subst he
     simp only [Option.some.injEq,Prod.mk.injEq] at hv
     obtain ⟨rfl,rfl⟩:=hv
     obtain ⟨h2,h3⟩:=Xa hc hl
     exact ir h hl h2 h3 (λk hk ⟨r,hr,CC⟩=>hS.own h hk ⟨l,r,hr,CC⟩)
    ·cases hv
   ·rename_i e' tid rows kp hl
    split at hv
    ·rename_i he;subst he
     simp only [Option.some.injEq,Prod.mk.injEq] at hv
     obtain ⟨rfl,rfl⟩:=hv
     obtain ⟨h2,h3⟩:=jw hc hl
     exact oz h hl h2 h3 (λk hk ⟨r,hr,CC⟩=>hS.own h hk ⟨l,r,hr,CC⟩) (λk hk=>hS.cM k hk)
    ·cases hv
   ·cases hv
  |_=>simp [Bo] at hv
 |sub l i c=>
  cases τ with
  |slice e=>
   simp only [Bo] at hv
   split at hv
   ·rename_i e' tid rows kp hl
    split at hv
    ·rename_i he;subst he
     simp only [Option.some.injEq,Prod.mk.injEq] at hv
     obtain ⟨rfl,rfl⟩:=hv
     exact oA h hl (xW hc hl) hc (λk hk ⟨r,hr,CC⟩=>hS.own h hk ⟨l,r,hr,CC⟩) (λk hk=>hS.cM k hk)
    ·cases hv
   ·cases hv
  |_=>simp [Bo] at hv
 |Gm l=>
  cases τ with
  |smap vt=>
   simp only [Bo] at hv
   split at hv
   ·rename_i v' m hl
    split at hv
    ·rename_i he;subst he
     simp only [Option.some.injEq,Prod.mk.injEq] at hv
     obtain ⟨_,rfl⟩:=hv
     obtain ⟨r,vt,m',h1,h2,rfl⟩:=hc
     exact u7 ((h.heap l).Lx hl) (by rw [h2];rfl) λhs=>hS.own h hs ⟨l,r,h2,h.Bc h2⟩
    ·cases hv
   ·cases hv
  |_=>simp [Bo] at hv
 |_=>cases τ<;>simp [Bo] at hv
theorem Of {st:St} {τ:Ty} (Od:τ.Ab=false) (cs:List AC):Cw st τ cs=match cs with| [c]=>Bo st τ c|_=>none:=by
 cases τ<;>simp [Ty.Ab] at Od<;>rcases cs with _|⟨c,_|⟨d,r⟩⟩<;>rfl
theorem gr {st:St} (h:Iq X w π st.heap) {S:Nat->Prop} : ∀(τ:Ty) (cs:List AC) (us:List Value) (fr:Bool) (x:τ.den),Df X w π st.heap cs us->
  Cw st τ cs=some (fr,x)->Lo X S fr->Cells w S τ us x:=by
 have one: ∀(τ:Ty) (cs:List AC) (us:List Value) (fr:Bool) (x:τ.den),τ.Ab=false->Df X w π st.heap cs us->
   Cw st τ cs=some (fr,x)->Lo X S fr->Cells w S τ us x:=by
  intro τ cs us fr x Od hr hv hS
  rw [Of Od] at hv
  split at hv
  ·rename_i c
   obtain ⟨u,hu,_,hc⟩:=hr.2 0 c rfl
   have hl:us.length=1:=hr.1
   obtain ⟨u',rfl⟩:=List.length_eq_one_iff.1 hl
   simp at hu;subst hu
   exact qB h τ c _ fr x Od hc hv hS
  ·cases hv
 intro τ
 induction τ with
 |unit=>
  intro cs us fr x hr hv hS
  cases cs with
  |nil=>have:us= []:=List.eq_nil_of_length_eq_zero hr.1;exact this
  |cons c cs=>simp [Cw] at hv
 |pair a r iw eK=>
  intro cs us fr x hr hv hS
  simp only [Cw] at hv
  split at hv
  ·rename_i f1 y f2 z h1 h2
   simp only [Option.some.injEq,Prod.mk.injEq] at hv
   obtain ⟨rfl,rfl⟩:=hv
   have VE:Df X w π st.heap (cs.take a.size) (us.take a.size):=
    ⟨by simp [hr.1],λi c hc=>by
     rw [List.getElem?_take] at hc⊢
     split at hc
     ·rename_i hi;simp only [hi,if_true];exact hr.2 i c hc
     ·cases hc⟩
   have YI:Df X w π st.heap (cs.drop a.size) (us.drop a.size):=
    ⟨by simp [hr.1],λi c hc=>by
     rw [List.getElem?_drop] at hc⊢
     exact hr.2 _ c hc⟩
   exact ⟨us.take a.size,us.drop a.size,(List.take_append_drop _ _).symm,iw _ _ _ _ VE h1 hS.and_left,eK _ _ _ _ YI h2 hS.and_right⟩
  ·cases hv
 |_=>exact λcs us fr x hr hv hS=>one _ cs us fr x rfl hr hv hS
theorem Tq {cs:List AC} {us:List Value} (h:Df X w π H cs us) (i n:Nat):Df X w π H ((cs.drop i).take n) ((us.drop i).take n):=
 ⟨by simp [h.1],λj c hc=>by
  rw [List.getElem?_take] at hc⊢
  split at hc
  ·rename_i hi
   simp only [hi,if_true]
   rw [List.getElem?_drop] at hc⊢
   exact h.2 _ c hc
  ·cases hc⟩
theorem eu {st:St} (h:Iq X w π st.heap) {S:Nat->Prop} {a:Ty} {l i:Nat} {fr:Bool} {x:a.den} (hv:Oo st a l i=some (fr,x)) (hS:Lo X S fr) {r:Real} (hr:π l=some r):
  r.g<w.heap.size/\ ¬S r.g/\ ∃es:List Value,es.length=a.size/\(∀j u,es[j]?=some u->w.cell? ⟨r.g,i+j,none⟩=some u)/\Cells w S a es x:=by
 unfold Oo at hv
 split at hv
 ·rename_i tid vs hl
  obtain ⟨r',h3,h4,cur,h5,h6⟩:=(h.heap l).Lx hl
  rw [hr] at h3;cases h3
  have hc:=gr h a _ _ fr x (Tq h6 i a.size) hv hS
  refine ⟨Di h5,λhs=>hS.own h hs ⟨l,r,hr,h4⟩,_,Cells.len a _ x hc,λj u hu=>?_,hc⟩
  rw [cellOf h5]
  rw [List.getElem?_take] at hu
  split at hu
  ·rw [List.getElem?_drop] at hu;simpa using hu
  ·cases hu
 ·cases hv
theorem wK {st:St} (h:Iq X w π st.heap) {S:Nat->Prop} : ∀(τ:Ty) (Bz:List (Nat×Nat)) (us:List Value) (fr:Bool) (x:τ.den),us.length=Bz.length->
  (∀(j:Nat) p,Bz[j]?=some p-> ∃r tid vs,Ad st.heap p.1=some (.var tid vs)/\π p.1=some r/\us[j]?=some (.pointer (some ⟨r.g,p.2,none⟩)))->
  Gx st τ Bz=some (fr,x)->Lo X S fr->Cells w S τ us x:=by
 intro τ
 induction τ with
 |unit=>
  intro Bz us fr x hl hr hv hS
  cases Bz with
  |nil=>exact List.eq_nil_of_length_eq_zero hl
  |cons c cs=>simp [Gx] at hv
 |pair a r _ eK=>
  intro Bz us fr x hl hr hv hS
  cases a with
  |ptr a=>
   cases Bz with
   |nil=>simp [Gx] at hv
   |cons c cs=>
    obtain ⟨l,i⟩:=c
    simp only [Gx] at hv
    split at hv
    ·rename_i f1 y f2 z h1 h2
     simp only [Option.some.injEq,Prod.mk.injEq] at hv
     obtain ⟨rfl,rfl⟩:=hv
     cases us with
     |nil=>simp at hl
     |cons u us=>
      obtain ⟨r0,tid,vs,h3,h4,h5⟩:=hr 0 (l,i) rfl
      simp only [List.getElem?_cons_zero,Option.some.injEq] at h5
      subst h5
      obtain ⟨h6,h7,es,h8,h9,jU⟩:=eu h h1 hS.and_left h4
      exact ⟨[_],us,rfl,⟨r0.g,i,rfl,h6,h7,es,h8,h9,jU⟩,eK cs us f2 z (by simpa using hl) (λj p hp=>hr (j+1) p hp) h2 hS.and_right⟩
    ·cases hv
  |_=>cases Bz<;>simp [Gx] at hv
 |_=>intro Bz us fr x hl hr hv;cases Bz<;>simp [Gx] at hv
theorem zN {st:St} (h:Iq X w π st.heap) {S:Nat->Prop} (τ:Ty) (c:AC) (v:Value) (fr:Bool) (x:τ.den) (Od:τ.Ab=false) (hc:Ec X w π st.heap c v)
  (hv:Ga st τ c=some (fr,x)) (hS:Lo X S fr):Cells w S τ [v] x:=by
 have Jf:Bo st τ c=some (fr,x)->Cells w S τ [v] x:= λhv=>qB h τ c v fr x Od hc hv hS
 cases τ with
 |ptr a=>
  cases c with
  |Ea l i=>
   obtain ⟨r,tid,vs,h1,h2,rfl⟩:=hc
   obtain ⟨h6,h7,h8⟩:=eu h hv hS h2
   exact ⟨r.g,i,rfl,h6,h7,h8⟩
  |_=>exact Jf hv
 |optr a=>
  cases c with
  |Ea l i=>
   obtain ⟨r,tid,vs,h1,h2,rfl⟩:=hc
   simp only [Ga] at hv
   cases hp:Oo st a l i with
   |none=>rw [hp] at hv;cases hv
   |some p=>
    rw [hp] at hv
    simp only [Option.map_some,Option.some.injEq,Prod.mk.injEq] at hv
    obtain ⟨rfl,rfl⟩:=hv
    obtain ⟨h6,h7,h8⟩:=eu h hp hS h2
    exact .inr ⟨_,r.g,i,rfl,rfl,h6,h7,h8⟩
  |_=>exact Jf hv
 |clo f a=>
  cases c with
  |clo g Bz=>
   simp only [Ga] at hv
   split at hv
   ·rename_i hg
    obtain ⟨rfl,Gc⟩:=hg
    obtain ⟨us,rfl,h2,h3⟩:=hc
    exact ⟨us,by rw [cU Gc],wK h a Bz us fr x h2 h3 hv hS⟩
   ·cases hv
  |_=>exact Jf hv
 |_=>exact Jf hv
theorem Su {st:St} (h:Iq X w π st.heap) {S:Nat->Prop} (τ:Ty) (c:AV) (v:Value) (fr:Bool) (x:τ.den) (hc:Ao X w π st.heap c v)
  (hv:Cx st τ c=some (fr,x)) (hS:Lo X S fr):Bd w S τ v x:=by
 have Jf: ∀c:AC,Ec X w π st.heap c v->(if τ.Ab then none else Ga st τ c)=some (fr,x)->Bd w S τ v x:=by
  intro c hc hv
  split at hv
  ·cases hv
  ·rename_i Od
   simp only [Bool.not_eq_true] at Od
   exact Bd.jm Od (zN h τ c v fr x Od hc hv hS)
 cases c with
 | «at»c=>
  cases c with
  |data Qk Jj y=>
   rw [Yq] at hv
   split at hv
   ·rename_i ht;subst ht
    simp only [Option.some.injEq,Prod.mk.injEq] at hv
    obtain ⟨rfl,rfl⟩:=hv
    obtain ⟨cs,h1,h2⟩:=hc
    exact ⟨cs,Rep.apart hS h1,h2⟩
   ·exact Jf (.data Qk Jj y) hc hv
  |undef=>exact Jf .undef hc hv
  |skip=>exact Jf .skip hc hv
  |Hx=>exact Jf .Hx hc hv
  |Rg=>exact Jf .Rg hc hv
  |own l off len=>exact Jf (.own l off len) hc hv
  |Ea l i=>exact Jf (.Ea l i) hc hv
  |Gi l i=>exact Jf (.Gi l i) hc hv
  |clo f Bz=>exact Jf (.clo f Bz) hc hv
  |Gm l=>exact Jf (.Gm l) hc hv
  |sub l i c=>exact Jf (.sub l i c) hc hv
  |Gf l i c=>exact Jf (.Gf l i c) hc hv
 |agg cs=>
  simp only [Cx] at hv
  split at hv
  ·rename_i Od
   obtain ⟨us,rfl,hr⟩:=hc
   exact ⟨us,gr h τ cs us fr x hr hv hS,by simp [Ar,Od]⟩
  ·cases hv
 |Vu Qk Jj y=>simp [Cx] at hv
 |Il l=>simp [Cx] at hv
theorem Ve {st:St} (h:Iq X w π st.heap) {S:Nat->Prop} : ∀(τ:Ty) (cs:List AV) (vs:List Value) (fr:Bool) (x:τ.den),cs.length=vs.length->
  (∀(i:Nat) c v,cs[i]?=some c->vs[i]?=some v->Ao X w π st.heap c v)->Bu st τ cs=some (fr,x)->Lo X S fr->Bb w S τ vs x
 | .unit,[],vs,fr,x,hl,hr,hv,hS=>by
  have:vs= []:=List.eq_nil_of_length_eq_zero hl.symm
  subst this;trivial
 | .unit,_::_,vs,fr,x,hl,hr,hv,hS=>by simp [Bu] at hv
 | .pair a r,[],vs,fr,x,hl,hr,hv,hS=>by simp [Bu] at hv
 | .pair a r,c::cs,[],fr,x,hl,hr,hv,hS=>by simp at hl
 | .pair a r,c::cs,v::vs,fr,x,hl,hr,hv,hS=>by
  simp only [Bu] at hv
  split at hv
  ·rename_i f1 y f2 z h1 h2
   simp only [Option.some.injEq,Prod.mk.injEq] at hv
   obtain ⟨rfl,rfl⟩:=hv
   exact ⟨Su h a c v f1 y (hr 0 c v rfl rfl) h1 hS.and_left,Ve h r cs vs f2 z (by simpa using hl) (λi c' v' hc JG=>hr (i+1) c' v' hc JG) h2 hS.and_right⟩
  ·cases hv
 | .int _,cs,vs,fr,x,hl,hr,hv,hS=>by cases cs<;>simp [Bu] at hv
 | .bool,cs,vs,fr,x,hl,hr,hv,hS=>by cases cs<;>simp [Bu] at hv
 | .str,cs,vs,fr,x,hl,hr,hv,hS=>by cases cs<;>simp [Bu] at hv
 | .slice _,cs,vs,fr,x,hl,hr,hv,hS=>by cases cs<;>simp [Bu] at hv
 | .ptr _,cs,vs,fr,x,hl,hr,hv,hS=>by cases cs<;>simp [Bu] at hv
 | .oslice _,cs,vs,fr,x,hl,hr,hv,hS=>by cases cs<;>simp [Bu] at hv
 | .optr _,cs,vs,fr,x,hl,hr,hv,hS=>by cases cs<;>simp [Bu] at hv
 | .smap _,cs,vs,fr,x,hl,hr,hv,hS=>by cases cs<;>simp [Bu] at hv
 | .clo _ _,cs,vs,fr,x,hl,hr,hv,hS=>by cases cs<;>simp [Bu] at hv
end
end Go.Proofs.YtfolipnappekaaaGreat
