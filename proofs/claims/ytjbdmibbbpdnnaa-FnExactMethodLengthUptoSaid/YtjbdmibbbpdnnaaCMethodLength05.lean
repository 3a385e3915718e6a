/-
  Part 6 of the proof that the statement FnExactMethodLength holds.
-/
import Derived.Test.YtjbdmibbbpdnnaaCMethodLength04
import Derived.WalkKit
import Derived.Laws.Slices
namespace Go.Proofs.Ytjbdmibbbpdnnaa
open Go.RowKit
def Ar:Ty->List Value
 | .int k=> [.int k 0]
 | .bool=> [.bool false]
 | .str=> [.string ByteArray.empty]
 | .slice _=> [.slice none 0 0]
 | .oslice _=> [.slice none 0 0]
 | .ptr _=> [.pointer none]
 | .optr _=> [.pointer none]
 | .smap _=> [.map none]
 | .clo _ _=> [.nilFunc]
 | .unit=> []
 | .pair a r=>Ar a++Ar r
structure ja (P:Program) (T:Tab) (t:TypeId) (τ:Ty):Prop where
 info: ∃i:TypeInfo,P.info? t=some i/\i.size=τ.size/\i.bytes<=256/\i.zero=some (As τ (Ar τ))
 desc:match τ with
  | .int k=>P.underlying t=some (.int k)
  | .bool=>P.underlying t=some .bool
  | .str=>P.underlying t=some .string
  | .slice e=> ∃te,P.underlying t=some (.slice te)/\T.elem t=some te/\T.ty te=some e
  | .oslice e=> ∃te,P.underlying t=some (.slice te)/\T.elem t=some te/\T.ty te=some e
  | .ptr _=> ∃u,P.underlying t=some (.pointer u)
  | .optr _=> ∃u,P.underlying t=some (.pointer u)
  | .smap _=> ∃k e,P.underlying t=some (.map k e)
  | .clo _ _=>False
  | .unit| .pair _ _=> ∃fs,P.underlying t=some (.struct fs)
def placesOf (fs:Array Field):Sem (Array (Nat×Nat)):=fs.mapM λf=>do pure (f.offset,<-sizeOf f.type)
structure Cd (P:Program) (T:Tab):Prop where
 fill: ∀t τ,T.ty t=some τ->τ.Ac=true-> ∃(fs:Array Field) (He:Array (Nat×Nat)),P.underlying t=some (.struct fs)/\(∀w,(placesOf fs).run P w= .ok He w)/\
  ∀f o u ρ,T.off t f=some (o,u)->T.ty u=some ρ->He[f]?=some (o,ρ.size)
 ty: ∀t τ,T.ty t=some τ->ja P T t τ
 elem: ∀t te,T.elem t=some te->P.underlying t=some (.slice te)
 mapOf: ∀t v,T.mapOf t=some v-> ∃k e,P.underlying t=some (.map k e)/\P.underlying k=some .string/\T.ty e=some v/\v.flat=true/\v.Ac=false
 off: ∀s f o t,T.off s f=some (o,t)-> ∃(fs:Array Field) (fd:Field),P.underlying s=some (.struct fs)/\fs[f]?=some fd/\fd.offset=o/\fd.type=t/\ ∃i:TypeInfo,P.info? t=some i/\i.size≠0
section
variable {P:Program} {T:Tab} {X:Ctx} {w w':World} {π:Pi} {H:List (Nat×OB)}
theorem Kt {t:TypeId} {d:TypeDesc} (h:P.underlying t=some d):(isAgg t).run P w= .ok (match d with| .struct _| .array _ _=>true|_=>false) w:=by
 unfold isAgg
 rw [Sem.run_bind,run_underlying h]
 cases d<;>rfl
theorem ja.agg {t:TypeId} {τ:Ty} (h:ja P T t τ):(isAgg t).run P w= .ok τ.Ac w:=by
 have hd:=h.desc
 cases τ<;>simp only at hd
 case int k=>rw [Kt hd];rfl
 case bool=>rw [Kt hd];rfl
 case str=>rw [Kt hd];rfl
 case slice e=>obtain ⟨te,hd,_⟩:=hd;rw [Kt hd];rfl
 case ptr e=>obtain ⟨te,hd⟩:=hd;rw [Kt hd];rfl
 case oslice e=>obtain ⟨te,hd,_⟩:=hd;rw [Kt hd];rfl
 case optr e=>obtain ⟨te,hd⟩:=hd;rw [Kt hd];rfl
 case smap e=>obtain ⟨k,te,hd⟩:=hd;rw [Kt hd];rfl
 case unit=>obtain ⟨te,hd⟩:=hd;rw [Kt hd];rfl
 case pair e r=>obtain ⟨te,hd⟩:=hd;rw [Kt hd];rfl
theorem ja.size {t:TypeId} {τ:Ty} (h:ja P T t τ):(sizeOf t).run P w= .ok τ.size w:=by
 obtain ⟨i,hi,hs,_⟩:=h.info
 simp [sizeOf,typeInfo,hi,hs]
theorem Bd.Lq {S:Nat->Prop} {τ:Ty} {v:Value} {x:τ.den} (Nb:τ.Ac=false) (h:Bd w S τ v x):Cells w S τ [v] x:=by
 obtain ⟨cs,hc,rfl⟩:=h
 have hl:=Cells.len τ cs x hc
 have h1:τ.size=1:=by cases τ<;>simp_all [Ty.Ac,Ty.size]
 rw [h1] at hl
 obtain ⟨c,rfl⟩:=List.length_eq_one_iff.1 hl
 simpa [As,Nb] using hc
theorem Bd.iC {S:Nat->Prop} {τ:Ty} {v:Value} {x:τ.den} (Nb:τ.Ac=false) (h:Cells w S τ [v] x):Bd w S τ v x:=
 ⟨[v],h,by simp [As,Nb]⟩
def Ky (X:Ctx) (S:Nat->Prop) (fr:Bool):Prop:=(∀k,S k->k<X.w0.heap.size/\ ¬X.gv k)/\(fr=true\/ ∀k,S k->X.Sc k)
theorem Ky.bS {S:Nat->Prop} {fr:Bool} (h:Ky X S fr) (k:Nat) (hk:S k):Be X.w0.heap.size X.Sc π fr k:=by
 rcases h.2 with h2|h2
 ·exact .inr (.inr ⟨h2,(h.1 k hk).1⟩)
 ·exact .inr (.inl (h2 k hk))
theorem Ky.and_left {S:Nat->Prop} {f1 f2:Bool} (h:Ky X S (f1&&f2)):Ky X S f1:=
 ⟨h.1,h.2.imp (λh=>by simp at h;exact h.1) id⟩
theorem Ky.and_right {S:Nat->Prop} {f1 f2:Bool} (h:Ky X S (f1&&f2)):Ky X S f2:=
 ⟨h.1,h.2.imp (λh=>by simp at h;exact h.2) id⟩
theorem Rep.apart {S:Nat->Prop} {fr:Bool} {τ:Ty} {cs:List Value} {x:τ.den} (hS:Ky X S (fr||τ.flat)) (h:Cells w (Be X.w0.heap.size X.Sc π fr) τ cs x):Cells w S τ cs x:=by
 cases hf:τ.flat with
 |true=>exact Cells.flat τ cs x hf h
 |false=>
  rw [hf,Bool.or_false] at hS
  exact Cells.Cr (Nat.le_refl _) (λ_ _ _=>rfl) (λk _ hk=>hS.bS k hk) τ cs x h
theorem Ky.own {S:Nat->Prop} {fr:Bool} (hS:Ky X S fr) (h:Hw X w π H) {k:Nat} (hk:S k): ¬Nn π k:= λho=>by
 have h1:=hS.1 k hk
 rcases (h.own ho).2 with h2|h2
 ·omega
 ·exact h1.2 h2
theorem Ky.mono {S:Nat->Prop} {f1 f2:Bool} (h:Ky X S f1) (hf:f1=true->f2=true):Ky X S f2:=⟨h.1,h.2.imp hf id⟩
theorem Iv (st:St) (τ:Ty) (fr:Bool) (Ji:Ty) (x:Ji.den):Bm st τ (.data fr Ji x)=if h:Ji=τ then some (fr||τ.flat,h▸x) else cb fr τ Ji x:=by
 cases τ<;>rfl
theorem Wy (st:St) (τ:Ty) (fr:Bool) (Ji:Ty) (x:Ji.den):Ct st τ (.at (.data fr Ji x))=if h:Ji=τ then some (fr||τ.flat,h▸x) else if τ.Ac then none else Fu st τ (.data fr Ji x):=rfl
theorem uw (st:St) (τ:Ty) (fr:Bool) (Ji:Ty) (x:Ji.den):Fu st τ (.data fr Ji x)=Bm st τ (.data fr Ji x):=by
 cases τ<;>rfl
theorem DG {S:Nat->Prop} {fr:Bool} {τ Ji:Ty} {x:Ji.den} {f:Bool} {y:τ.den} {v:Value} (h:cb fr τ Ji x=some (f,y)) (hc:Bd w (Be X.w0.heap.size X.Sc π fr) Ji v x) (hS:Ky X S f):
  τ.Ac=false/\f=fr/\Cells w S τ [v] y:=by
 unfold cb at h
 split at h
 ·split at h
  ·rename_i e e' _ JM
   subst JM
   simp only [Option.some.injEq,Prod.mk.injEq] at h
   obtain ⟨rfl,rfl⟩:=h
   refine ⟨rfl,rfl,?_⟩
   have h1:=Rep.apart (S:=S) (τ:= .oslice e') ⟨hS.1,hS.2.imp (λh=>by rw [h];rfl) id⟩ (Bd.Lq rfl hc)
   simp only [Cells] at h1⊢
   rcases h1 with ⟨rfl,c,h1⟩|⟨xs,ad,len,cap,rfl,h1,h2,h3,h4⟩
   ·exact ⟨none,0,c,h1,rfl,Nat.zero_le _, .inl rfl⟩
   ·exact ⟨_,len,cap,h1,h2,h3,h4.imp id λ⟨g,o,ha,h4⟩=>⟨g,o,by rw [ha],h4⟩⟩
  ·cases h
 ·split at h
  ·rename_i a a' _ haa
   subst haa
   simp only [Option.some.injEq,Prod.mk.injEq] at h
   obtain ⟨rfl,rfl⟩:=h
   refine ⟨rfl,rfl,?_⟩
   have h1:=Rep.apart (S:=S) (τ:= .ptr a') ⟨hS.1,hS.2.imp (λh=>by rw [h];rfl) id⟩ (Bd.Lq rfl hc)
   simp only [Cells] at h1⊢
   obtain ⟨g,o,h2⟩:=h1
   exact .inr ⟨_,g,o,rfl,h2⟩
  ·cases h
 ·cases h
theorem oO {st:St} (h:Hw X w π st.heap) {S:Nat->Prop} (τ:Ty) (c:AC) (v:Value) (fr:Bool) (x:τ.den) (Nb:τ.Ac=false) (hc:Ea X w π st.heap c v)
  (hv:Bm st τ c=some (fr,x)) (hS:Ky X S fr):Cells w S τ [v] x:=by
 cases c with
 |data Ow Ji y=>
  rw [Iv] at hv
  split at hv
  ·rename_i ht;subst ht
   simp only [Option.some.injEq,Prod.mk.injEq] at hv
   obtain ⟨rfl,rfl⟩:=hv
   exact Rep.apart hS (Bd.Lq Nb hc)
  ·exact (DG hv hc hS).2.2
 |Hk=>
  cases τ with
  |slice e=>
   simp only [Bm,Option.some.injEq,Prod.mk.injEq] at hv
   obtain ⟨_,rfl⟩:=hv
   exact ⟨none,0,0,by rw [show v=_ from hc],rfl,Nat.le_refl _, .inl rfl⟩
  |oslice e=>
   simp only [Bm,Option.some.injEq,Prod.mk.injEq] at hv
   obtain ⟨_,rfl⟩:=hv
   exact .inl ⟨rfl,0,by rw [show v=_ from hc]⟩
  |_=>simp [Bm] at hv
 |Pw=>
  cases τ with
  |optr e=>
   simp only [Bm,Option.some.injEq,Prod.mk.injEq] at hv
   obtain ⟨_,rfl⟩:=hv
   exact .inl ⟨rfl,by rw [show v=_ from hc]⟩
  |_=>simp [Bm] at hv
 |own l off len=>
  cases τ with
  |slice e=>
   simp only [Bm] at hv
   split at hv
   ·rename_i Ow ND e' tid xs hl
    split at hv
    ·rename_i he;subst he
     simp only [Option.some.injEq,Prod.mk.injEq] at hv
     obtain ⟨rfl,rfl⟩:=hv
     obtain ⟨h2,h3⟩:=Jm hc hl
     exact jL h hl h2 h3 (λk hk ⟨r,hr,yM⟩=>hS.own h hk ⟨l,r,hr,yM⟩) (λk _ hk=>hS.bS k hk)
    ·cases hv
   ·rename_i e' tid xs hl
    split at hv
    ·rename_i he;subst he
     simp only [Option.some.injEq,Prod.mk.injEq] at hv
     obtain ⟨rfl,rfl⟩:=hv
     obtain ⟨h2,h3⟩:=Vm hc hl
     exact gy h hl h2 h3 (λk hk ⟨r,hr,yM⟩=>hS.own h hk ⟨l,r,hr,yM⟩)
    ·cases hv
   ·rename_i e' tid rows kp hl
    split at hv
    ·rename_i he;subst he
     simp only [Option.some.injEq,Prod.mk.injEq] at hv
     obtain ⟨rfl,rfl⟩:=hv
     obtain ⟨h2,h3⟩:=iK hc hl
     exact mO h hl h2 h3 (λk hk ⟨r,hr,yM⟩=>hS.own h hk ⟨l,r,hr,yM⟩) (λk hk=>hS.bS k hk)
    ·cases hv
   ·cases hv
  |_=>simp [Bm] at hv
 |sub l i c=>
  cases τ with
  |slice e=>
   simp only [Bm] at hv
   split at hv
   ·rename_i e' tid rows kp hl
    split at hv
    ·rename_i he;subst he
     simp only [Option.some.injEq,Prod.mk.injEq] at hv
     obtain ⟨rfl,rfl⟩:=hv
     exact mP h hl (vS hc hl) hc (λk hk ⟨r,hr,yM⟩=>hS.own h hk ⟨l,r,hr,yM⟩) (λk hk=>hS.bS k hk)
    ·cases hv
   ·cases hv
  |_=>simp [Bm] at hv
 |Gi l=>
  cases τ with
  |smap vt=>
   simp only [Bm] at hv
   split at hv
   ·rename_i v' m hl
    split at hv
    ·rename_i he;subst he
     simp only [Option.some.injEq,Prod.mk.injEq] at hv
     obtain ⟨_,rfl⟩:=hv
     obtain ⟨r,vt,m',h1,h2,rfl⟩:=hc
     exact rK ((h.heap l).Mh hl) (by rw [h2];rfl) λhs=>hS.own h hs ⟨l,r,h2,h.Ax h2⟩
    ·cases hv
   ·cases hv
  |_=>simp [Bm] at hv
 |_=>cases τ<;>simp [Bm] at hv
theorem Nf {st:St} {τ:Ty} (Nb:τ.Ac=false) (cs:List AC):Cp st τ cs=match cs with| [c]=>Bm st τ c|_=>none:=by
 cases τ<;>simp [Ty.Ac] at Nb<;>rcases cs with _|⟨c,_|⟨d,r⟩⟩<;>rfl
theorem fb {st:St} (h:Hw X w π st.heap) {S:Nat->Prop} : ∀(τ:Ty) (cs:List AC) (us:List Value) (fr:Bool) (x:τ.den),Cy X w π st.heap cs us->
  Cp st τ cs=some (fr,x)->Ky X S fr->Cells w S τ us x:=by
 have one: ∀(τ:Ty) (cs:List AC) (us:List Value) (fr:Bool) (x:τ.den),τ.Ac=false->Cy X w π st.heap cs us->
   Cp st τ cs=some (fr,x)->Ky X S fr->Cells w S τ us x:=by
  intro τ cs us fr x Nb hr hv hS
  rw [Nf Nb] at hv
  split at hv
  ·rename_i c
   obtain ⟨u,hu,_,hc⟩:=hr.2 0 c rfl
   have hl:us.length=1:=hr.1
   obtain ⟨u',rfl⟩:=List.length_eq_one_iff.1 hl
   simp at hu;subst hu
   exact oO h τ c _ fr x Nb hc hv hS
  ·cases hv
 intro τ
 induction τ with
 |unit=>
  intro cs us fr x hr hv hS
  cases cs with
  |nil=>have:us= []:=List.eq_nil_of_length_eq_zero hr.1;exact this
  |cons c cs=>simp [Cp] at hv
 |pair a r gA dQ=>
  intro cs us fr x hr hv hS
  simp only [Cp] at hv
  split at hv
  ·rename_i f1 y f2 z h1 h2
   simp only [Option.some.injEq,Prod.mk.injEq] at hv
   obtain ⟨rfl,rfl⟩:=hv
   have QF:Cy X w π st.heap (cs.take a.size) (us.take a.size):=
    ⟨by simp [hr.1],λi c hc=>by
     rw [List.getElem?_take] at hc⊢
     split at hc
     ·rename_i hi;simp only [hi,if_true];exact hr.2 i c hc
     ·cases hc⟩
   have TU:Cy X w π st.heap (cs.drop a.size) (us.drop a.size):=
    ⟨by simp [hr.1],λi c hc=>by
     rw [List.getElem?_drop] at hc⊢
     exact hr.2 _ c hc⟩
   exact ⟨us.take a.size,us.drop a.size,(List.take_append_drop _ _).symm,gA _ _ _ _ QF h1 hS.and_left,dQ _ _ _ _ TU h2 hS.and_right⟩
  ·cases hv
 |_=>exact λcs us fr x hr hv hS=>one _ cs us fr x rfl hr hv hS
theorem Sm {cs:List AC} {us:List Value} (h:Cy X w π H cs us) (i n:Nat):Cy X w π H ((cs.drop i).take n) ((us.drop i).take n):=
 ⟨by simp [h.1],λj c hc=>by
  rw [List.getElem?_take] at hc⊢
  split at hc
  ·rename_i hi
   simp only [hi,if_true]
   rw [List.getElem?_drop] at hc⊢
   exact h.2 _ c hc
  ·cases hc⟩
theorem dB {st:St} (h:Hw X w π st.heap) {S:Nat->Prop} {a:Ty} {l i:Nat} {fr:Bool} {x:a.den} (hv:Nm st a l i=some (fr,x)) (hS:Ky X S fr) {r:Real} (hr:π l=some r):
  r.g<w.heap.size/\ ¬S r.g/\ ∃es:List Value,es.length=a.size/\(∀j u,es[j]?=some u->w.cell? ⟨r.g,i+j,none⟩=some u)/\Cells w S a es x:=by
 unfold Nm at hv
 split at hv
 ·rename_i tid vs hl
  obtain ⟨r',h3,h4,cur,h5,h6⟩:=(h.heap l).Mh hl
  rw [hr] at h3;cases h3
  have hc:=fb h a _ _ fr x (Sm h6 i a.size) hv hS
  refine ⟨De h5,λhs=>hS.own h hs ⟨l,r,hr,h4⟩,_,Cells.len a _ x hc,λj u hu=>?_,hc⟩
  rw [cellOf h5]
  rw [List.getElem?_take] at hu
  split at hu
  ·rw [List.getElem?_drop] at hu;simpa using hu
  ·cases hu
 ·cases hv
theorem uv {st:St} (h:Hw X w π st.heap) {S:Nat->Prop} : ∀(τ:Ty) (Bx:List (Nat×Nat)) (us:List Value) (fr:Bool) (x:τ.den),us.length=Bx.length->
  (∀(j:Nat) p,Bx[j]?=some p-> ∃r tid vs,Ae st.heap p.1=some (.var tid vs)/\π p.1=some r/\us[j]?=some (.pointer (some ⟨r.g,p.2,none⟩)))->
  Gr st τ Bx=some (fr,x)->Ky X S fr->Cells w S τ us x:=by
 intro τ
 induction τ with
 |unit=>
  intro Bx us fr x hl hr hv hS
  cases Bx with
  |nil=>exact List.eq_nil_of_length_eq_zero hl
  |cons c cs=>simp [Gr] at hv
 |pair a r _ dQ=>
  intro Bx us fr x hl hr hv hS
  cases a with
  |ptr a=>
   cases Bx with
   |nil=>simp [Gr] at hv
   |cons c cs=>
    obtain ⟨l,i⟩:=c
    simp only [Gr] at hv
    split at hv
    ·rename_i f1 y f2 z h1 h2
     simp only [Option.some.injEq,Prod.mk.injEq] at hv
     obtain ⟨rfl,rfl⟩:=hv
     cases us with
     |nil=>simp at hl
     |cons u us=>
      obtain ⟨r0,tid,vs,h3,h4,h5⟩:=hr 0 (l,i) rfl
      simp only [List.getElem?_cons_zero,Option.some.injEq] at h5
      subst h5
      obtain ⟨h6,h7,es,h8,h9,kI⟩:=dB h h1 hS.and_left h4
      exact ⟨[_],us,rfl,⟨r0.g,i,rfl,h6,h7,es,h8,h9,kI⟩,dQ cs us f2 z (by simpa using hl) (λj p hp=>hr (j+1) p hp) h2 hS.and_right⟩
    ·cases hv
  |_=>cases Bx<;>simp [Gr] at hv
 |_=>intro Bx us fr x hl hr hv;cases Bx<;>simp [Gr] at hv
theorem xC {st:St} (h:Hw X w π st.heap) {S:Nat->Prop} (τ:Ty) (c:AC) (v:Value) (fr:Bool) (x:τ.den) (Nb:τ.Ac=false) (hc:Ea X w π st.heap c v)
  (hv:Fu st τ c=some (fr,x)) (hS:Ky X S fr):Cells w S τ [v] x:=by
 have Jb:Bm st τ c=some (fr,x)->Cells w S τ [v] x:= λhv=>oO h τ c v fr x Nb hc hv hS
 cases τ with
 |ptr a=>
  cases c with
  |Dz l i=>
   obtain ⟨r,tid,vs,h1,h2,rfl⟩:=hc
   obtain ⟨h6,h7,h8⟩:=dB h hv hS h2
   exact ⟨r.g,i,rfl,h6,h7,h8⟩
  |_=>exact Jb hv
 |optr a=>
  cases c with
  |Dz l i=>
   obtain ⟨r,tid,vs,h1,h2,rfl⟩:=hc
   simp only [Fu] at hv
   cases hp:Nm st a l i with
   |none=>rw [hp] at hv;cases hv
   |some p=>
    rw [hp] at hv
    simp only [Option.map_some,Option.some.injEq,Prod.mk.injEq] at hv
    obtain ⟨rfl,rfl⟩:=hv
    obtain ⟨h6,h7,h8⟩:=dB h hp hS h2
    exact .inr ⟨_,r.g,i,rfl,rfl,h6,h7,h8⟩
  |_=>exact Jb hv
 |clo f a=>
  cases c with
  |clo g Bx=>
   simp only [Fu] at hv
   split at hv
   ·rename_i hg
    obtain ⟨rfl,Hq⟩:=hg
    obtain ⟨us,rfl,h2,h3⟩:=hc
    exact ⟨us,by rw [c6 Hq],uv h a Bx us fr x h2 h3 hv hS⟩
   ·cases hv
  |_=>exact Jb hv
 |_=>exact Jb hv
theorem Rg {st:St} (h:Hw X w π st.heap) {S:Nat->Prop} (τ:Ty) (c:AV) (v:Value) (fr:Bool) (x:τ.den) (hc:Ao X w π st.heap c v)
  (hv:Ct st τ c=some (fr,x)) (hS:Ky X S fr):Bd w S τ v x:=by
 have Jb: ∀c:AC,Ea X w π st.heap c v->(if τ.Ac then none else Fu st τ c)=some (fr,x)->Bd w S τ v x:=by
  intro c hc hv
  split at hv
  ·cases hv
  ·rename_i Nb
   simp only [Bool.not_eq_true] at Nb
   exact Bd.iC Nb (xC h τ c v fr x Nb hc hv hS)
 cases c with
 | «at»c=>
  cases c with
  |data Ow Ji y=>
   rw [Wy] at hv
   split at hv
   ·rename_i ht;subst ht
    simp only [Option.some.injEq,Prod.mk.injEq] at hv
    obtain ⟨rfl,rfl⟩:=hv
    obtain ⟨cs,h1,h2⟩:=hc
    exact ⟨cs,Rep.apart hS h1,h2⟩
   ·exact Jb (.data Ow Ji y) hc hv
  |undef=>exact Jb .undef hc hv
  |skip=>exact Jb .skip hc hv
  |Hk=>exact Jb .Hk hc hv
  |Pw=>exact Jb .Pw hc hv
  |own l off len=>exact Jb (.own l off len) hc hv
  |Dz l i=>exact Jb (.Dz l i) hc hv
  |Gc l i=>exact Jb (.Gc l i) hc hv
  |clo f Bx=>exact Jb (.clo f Bx) hc hv
  |Gi l=>exact Jb (.Gi l) hc hv
  |sub l i c=>exact Jb (.sub l i c) hc hv
  |Ga l i c=>exact Jb (.Ga l i c) hc hv
 |agg cs=>
  simp only [Ct] at hv
  split at hv
  ·rename_i Nb
   obtain ⟨us,rfl,hr⟩:=hc
   exact ⟨us,fb h τ cs us fr x hr hv hS,by simp [As,Nb]⟩
  ·cases hv
 |Uk Ow Ji y=>simp [Ct] at hv
 |Jg l=>simp [Ct] at hv
theorem Tu {st:St} (h:Hw X w π st.heap) {S:Nat->Prop} : ∀(τ:Ty) (cs:List AV) (vs:List Value) (fr:Bool) (x:τ.den),cs.length=vs.length->
  (∀(i:Nat) c v,cs[i]?=some c->vs[i]?=some v->Ao X w π st.heap c v)->Bs st τ cs=some (fr,x)->Ky X S fr->Az w S τ vs x
 | .unit,[],vs,fr,x,hl,hr,hv,hS=>by
  have:vs= []:=List.eq_nil_of_length_eq_zero hl.symm
  subst this;trivial
 | .unit,_::_,vs,fr,x,hl,hr,hv,hS=>by simp [Bs] at hv
 | .pair a r,[],vs,fr,x,hl,hr,hv,hS=>by simp [Bs] at hv
 | .pair a r,c::cs,[],fr,x,hl,hr,hv,hS=>by simp at hl
 | .pair a r,c::cs,v::vs,fr,x,hl,hr,hv,hS=>by
  simp only [Bs] at hv
  split at hv
  ·rename_i f1 y f2 z h1 h2
   simp only [Option.some.injEq,Prod.mk.injEq] at hv
   obtain ⟨rfl,rfl⟩:=hv
   exact ⟨Rg h a c v f1 y (hr 0 c v rfl rfl) h1 hS.and_left,Tu h r cs vs f2 z (by simpa using hl) (λi c' v' hc sJ=>hr (i+1) c' v' hc sJ) h2 hS.and_right⟩
  ·cases hv
 | .int _,cs,vs,fr,x,hl,hr,hv,hS=>by cases cs<;>simp [Bs] at hv
 | .bool,cs,vs,fr,x,hl,hr,hv,hS=>by cases cs<;>simp [Bs] at hv
 | .str,cs,vs,fr,x,hl,hr,hv,hS=>by cases cs<;>simp [Bs] at hv
 | .slice _,cs,vs,fr,x,hl,hr,hv,hS=>by cases cs<;>simp [Bs] at hv
 | .ptr _,cs,vs,fr,x,hl,hr,hv,hS=>by cases cs<;>simp [Bs] at hv
 | .oslice _,cs,vs,fr,x,hl,hr,hv,hS=>by cases cs<;>simp [Bs] at hv
 | .optr _,cs,vs,fr,x,hl,hr,hv,hS=>by cases cs<;>simp [Bs] at hv
 | .smap _,cs,vs,fr,x,hl,hr,hv,hS=>by cases cs<;>simp [Bs] at hv
 | .clo _ _,cs,vs,fr,x,hl,hr,hv,hS=>by cases cs<;>simp [Bs] at hv
end
end Go.Proofs.Ytjbdmibbbpdnnaa
