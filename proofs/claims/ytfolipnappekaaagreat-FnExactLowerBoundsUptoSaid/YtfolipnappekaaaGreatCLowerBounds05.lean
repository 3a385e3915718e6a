/-
  Part 6 of the proof that the statement FnExactLowerBounds holds.
-/
import Derived.Test.YtfolipnappekaaaGreatCLowerBounds04
import Derived.WalkKit
import Derived.Laws.Slices
namespace Go.Proofs.YtfolipnappekaaaGreat
open Go.RowKit
def Aq:Ty->List Value
 | .int k=> [.int k 0]
 | .bool=> [.bool false]
 | .str=> [.string ByteArray.empty]
 | .slice _=> [.slice none 0 0]
 | .oslice _=> [.slice none 0 0]
 | .ptr _=> [.pointer none]
 | .optr _=> [.pointer none]
 | .smap _=> [.map none]
 | .clo _ _=> [.nilFunc]
 | .unit=> []
 | .pair a r=>Aq a++Aq r
structure jL (P:Program) (T:Tab) (t:TypeId) (τ:Ty):Prop where
 info: ∃i:TypeInfo,P.info? t=some i/\i.size=τ.size/\i.bytes<=256/\i.zero=some (As τ (Aq τ))
 desc:match τ with
  | .int k=>P.underlying t=some (.int k)
  | .bool=>P.underlying t=some .bool
  | .str=>P.underlying t=some .string
  | .slice e=> ∃te,P.underlying t=some (.slice te)/\T.elem t=some te/\T.ty te=some e
  | .oslice e=> ∃te,P.underlying t=some (.slice te)/\T.elem t=some te/\T.ty te=some e
  | .ptr _=> ∃u,P.underlying t=some (.pointer u)
  | .optr _=> ∃u,P.underlying t=some (.pointer u)
  | .smap _=> ∃k e,P.underlying t=some (.map k e)
  | .clo _ _=>False
  | .unit| .pair _ _=> ∃fs,P.underlying t=some (.struct fs)
def placesOf (fs:Array Field):Sem (Array (Nat×Nat)):=fs.mapM λf=>do pure (f.offset,<-sizeOf f.type)
structure Ca (P:Program) (T:Tab):Prop where
 fill: ∀t τ,T.ty t=some τ->τ.Ab=true-> ∃(fs:Array Field) (Hg:Array (Nat×Nat)),P.underlying t=some (.struct fs)/\(∀w,(placesOf fs).run P w= .ok Hg w)/\
  ∀f o u ρ,T.off t f=some (o,u)->T.ty u=some ρ->Hg[f]?=some (o,ρ.size)
 ty: ∀t τ,T.ty t=some τ->jL P T t τ
 elem: ∀t te,T.elem t=some te->P.underlying t=some (.slice te)
 mapOf: ∀t v,T.mapOf t=some v-> ∃k e,P.underlying t=some (.map k e)/\P.underlying k=some .string/\T.ty e=some v/\v.flat=true/\v.Ab=false
 off: ∀s f o t,T.off s f=some (o,t)-> ∃(fs:Array Field) (fd:Field),P.underlying s=some (.struct fs)/\fs[f]?=some fd/\fd.offset=o/\fd.type=t/\ ∃i:TypeInfo,P.info? t=some i/\i.size≠0
section
variable {P:Program} {T:Tab} {X:Ctx} {w w':World} {π:Pi} {H:List (Nat×OB)}
theorem Kw {t:TypeId} {d:TypeDesc} (h:P.underlying t=some d):(isAgg t).run P w= .ok (match d with| .struct _| .array _ _=>true|_=>false) w:=by
 unfold isAgg
 rw [Sem.run_bind,run_underlying h]
 cases d<;>rfl
theorem jL.agg {t:TypeId} {τ:Ty} (h:jL P T t τ):(isAgg t).run P w= .ok τ.Ab w:=by
 have hd:=h.desc
 cases τ<;>simp only at hd
 case int k=>rw [Kw hd];rfl
 case bool=>rw [Kw hd];rfl
 case str=>rw [Kw hd];rfl
 case slice e=>obtain ⟨te,hd,_⟩:=hd;rw [Kw hd];rfl
 case ptr e=>obtain ⟨te,hd⟩:=hd;rw [Kw hd];rfl
 case oslice e=>obtain ⟨te,hd,_⟩:=hd;rw [Kw hd];rfl
 case optr e=>obtain ⟨te,hd⟩:=hd;rw [Kw hd];rfl
 case smap e=>obtain ⟨k,te,hd⟩:=hd;rw [Kw hd];rfl
 case unit=>obtain ⟨te,hd⟩:=hd;rw [Kw hd];rfl
 case pair e r=>obtain ⟨te,hd⟩:=hd;rw [Kw hd];rfl
theorem jL.size {t:TypeId} {τ:Ty} (h:jL P T t τ):(sizeOf t).run P w= .ok τ.size w:=by
 obtain ⟨i,hi,hs,_⟩:=h.info
 simp [sizeOf,typeInfo,hi,hs]
theorem Be.Lu {S:Nat->Prop} {τ:Ty} {v:Value} {x:τ.den} (Nk:τ.Ab=false) (h:Be w S τ v x):Cells w S τ [v] x:=by
 obtain ⟨cs,hc,rfl⟩:=h
 have hl:=Cells.len τ cs x hc
 have h1:τ.size=1:=by cases τ<;>simp_all [Ty.Ab,Ty.size]
 rw [h1] at hl
 obtain ⟨c,rfl⟩:=List.length_eq_one_iff.1 hl
 simpa [As,Nk] using hc
theorem Be.j5 {S:Nat->Prop} {τ:Ty} {v:Value} {x:τ.den} (Nk:τ.Ab=false) (h:Cells w S τ [v] x):Be w S τ v x:=
 ⟨[v],h,by simp [As,Nk]⟩
def Lc (X:Ctx) (S:Nat->Prop) (fr:Bool):Prop:=(∀k,S k->k<X.w0.heap.size/\ ¬X.gv k)/\(fr=true\/ ∀k,S k->X.Sc k)
theorem Lc.cq {S:Nat->Prop} {fr:Bool} (h:Lc X S fr) (k:Nat) (hk:S k):Bg X.w0.heap.size X.Sc π fr k:=by
 rcases h.2 with h2|h2
 ·exact .inr (.inr ⟨h2,(h.1 k hk).1⟩)
 ·exact .inr (.inl (h2 k hk))
theorem Lc.and_left {S:Nat->Prop} {f1 f2:Bool} (h:Lc X S (f1&&f2)):Lc X S f1:=
 ⟨h.1,h.2.imp (λh=>by simp at h;exact h.1) id⟩
theorem Lc.and_right {S:Nat->Prop} {f1 f2:Bool} (h:Lc X S (f1&&f2)):Lc X S f2:=
 ⟨h.1,h.2.imp (λh=>by simp at h;exact h.2) id⟩
theorem Rep.apart {S:Nat->Prop} {fr:Bool} {τ:Ty} {cs:List Value} {x:τ.den} (hS:Lc X S (fr||τ.flat)) (h:Cells w (Bg X.w0.heap.size X.Sc π fr) τ cs x):Cells w S τ cs x:=by
 cases hf:τ.flat with
 |true=>exact Cells.flat τ cs x hf h
 |false=>
  rw [hf,Bool.or_false] at hS
  exact Cells.Ch (Nat.le_refl _) (λ_ _ _=>rfl) (λk _ hk=>hS.cq k hk) τ cs x h
theorem Lc.own {S:Nat->Prop} {fr:Bool} (hS:Lc X S fr) (h:Ih X w π H) {k:Nat} (hk:S k): ¬No π k:= λho=>by
 have h1:=hS.1 k hk
 rcases (h.own ho).2 with h2|h2
 ·omega
 ·exact h1.2 h2
theorem Lc.mono {S:Nat->Prop} {f1 f2:Bool} (h:Lc X S f1) (hf:f1=true->f2=true):Lc X S f2:=⟨h.1,h.2.imp hf id⟩
theorem It (st:St) (τ:Ty) (fr:Bool) (Jc:Ty) (x:Jc.den):Bn st τ (.data fr Jc x)=if h:Jc=τ then some (fr||τ.flat,h▸x) else cE fr τ Jc x:=by
 cases τ<;>rfl
theorem Ye (st:St) (τ:Ty) (fr:Bool) (Jc:Ty) (x:Jc.den):Ct st τ (.at (.data fr Jc x))=if h:Jc=τ then some (fr||τ.flat,h▸x) else if τ.Ab then none else Fl st τ (.data fr Jc x):=rfl
theorem w6 (st:St) (τ:Ty) (fr:Bool) (Jc:Ty) (x:Jc.den):Fl st τ (.data fr Jc x)=Bn st τ (.data fr Jc x):=by
 cases τ<;>rfl
theorem HB {S:Nat->Prop} {fr:Bool} {τ Jc:Ty} {x:Jc.den} {f:Bool} {y:τ.den} {v:Value} (h:cE fr τ Jc x=some (f,y)) (hc:Be w (Bg X.w0.heap.size X.Sc π fr) Jc v x) (hS:Lc X S f):
  τ.Ab=false/\f=fr/\Cells w S τ [v] y:=by
 unfold cE at h
 split at h
 ·split at h
  ·rename_i e e' _ ML
   subst ML
   simp only [Option.some.injEq,Prod.mk.injEq] at h
   obtain ⟨rfl,rfl⟩:=h
   refine ⟨rfl,rfl,?_⟩
   have h1:=Rep.apart (S:=S) (τ:= .oslice e') ⟨hS.1,hS.2.imp (λh=>by rw [h];rfl) id⟩ (Be.Lu rfl hc)
   simp only [Cells] at h1⊢
   rcases h1 with ⟨rfl,c,h1⟩|⟨xs,ad,len,cap,rfl,h1,h2,h3,h4⟩
   ·exact ⟨none,0,c,h1,rfl,Nat.zero_le _, .inl rfl⟩
   ·exact ⟨_,len,cap,h1,h2,h3,h4.imp id λ⟨g,o,ha,h4⟩=>⟨g,o,by rw [ha],h4⟩⟩
  ·cases h
 ·split at h
  ·rename_i a a' _ haa
   subst haa
   simp only [Option.some.injEq,Prod.mk.injEq] at h
   obtain ⟨rfl,rfl⟩:=h
   refine ⟨rfl,rfl,?_⟩
   have h1:=Rep.apart (S:=S) (τ:= .ptr a') ⟨hS.1,hS.2.imp (λh=>by rw [h];rfl) id⟩ (Be.Lu rfl hc)
   simp only [Cells] at h1⊢
   obtain ⟨g,o,h2⟩:=h1
   exact .inr ⟨_,g,o,rfl,h2⟩
  ·cases h
 ·cases h
theorem pY {st:St} (h:Ih X w π st.heap) {S:Nat->Prop} (τ:Ty) (c:AC) (v:Value) (fr:Bool) (x:τ.den) (Nk:τ.Ab=false) (hc:Dw X w π st.heap c v)
  (hv:Bn st τ c=some (fr,x)) (hS:Lc X S fr):Cells w S τ [v] x:=by
 cases c with
 |data Pk Jc y=>
  rw [It] at hv
  split at hv
  ·rename_i ht;subst ht
   simp only [Option.some.injEq,Prod.mk.injEq] at hv
   obtain ⟨rfl,rfl⟩:=hv
   exact Rep.apart hS (Be.Lu Nk hc)
  ·exact (HB hv hc hS).2.2
 |Hp=>
  cases τ with
  |slice e=>
   simp only [Bn,Option.some.injEq,Prod.mk.injEq] at hv
   obtain ⟨_,rfl⟩:=hv
   exact ⟨none,0,0,by rw [show v=_ from hc],rfl,Nat.le_refl _, .inl rfl⟩
  |oslice e=>
   simp only [Bn,Option.some.injEq,Prod.mk.injEq] at hv
   obtain ⟨_,rfl⟩:=hv
   exact .inl ⟨rfl,0,by rw [show v=_ from hc]⟩
  |_=>simp [Bn] at hv
 |Qd=>
  cases τ with
  |optr e=>
   simp only [Bn,Option.some.injEq,Prod.mk.injEq] at hv
   obtain ⟨_,rfl⟩:=hv
   exact .inl ⟨rfl,by rw [show v=_ from hc]⟩
  |_=>simp [Bn] at hv
 |own l off len=>
  cases τ with
  |slice e=>
   simp only [Bn] at hv
   split at hv
   ·rename_i Pk QI e' tid xs hl
    split at hv
    ·rename_i he;subst he
     simp only [Option.some.injEq,Prod.mk.injEq] at hv
     obtain ⟨rfl,rfl⟩:=hv
     obtain ⟨h2,h3⟩:=Jh hc hl
     exact kA h hl h2 h3 (λk hk ⟨r,hr,AU⟩=>hS.own h hk ⟨l,r,hr,AU⟩) (λk _ hk=>hS.cq k hk)
    ·cases hv
   ·rename_i e' tid xs hl
    split at hv
    ·rename_i he;subst he
     simp only [Option.some.injEq,Prod.mk.injEq] at hv
     obtain ⟨rfl,rfl⟩:=hv
     obtain ⟨h2,h3⟩:=Wl hc hl
     exact gX h hl h2 h3 (λk hk ⟨r,hr,AU⟩=>hS.own h hk ⟨l,r,hr,AU⟩)
    ·cases hv
   ·rename_i e' tid rows kp hl
    split at hv
    ·rename_i he;subst he
     simp only [Option.some.injEq,Prod.mk.injEq] at hv
     obtain ⟨rfl,rfl⟩:=hv
     obtain ⟨h2,h3⟩:=jd hc hl
     exact nZ h hl h2 h3 (λk hk ⟨r,hr,AU⟩=>hS.own h hk ⟨l,r,hr,AU⟩) (λk hk=>hS.cq k hk)
    ·cases hv
   ·cases hv
  |_=>simp [Bn] at hv
 |sub l i c=>
  cases τ with
  |slice e=>
   simp only [Bn] at hv
   split at hv
   ·rename_i e' tid rows kp hl
    split at hv
    ·rename_i he;subst he
     simp only [Option.some.injEq,Prod.mk.injEq] at hv
     obtain ⟨rfl,rfl⟩:=hv
     exact o0 h hl (xm hc hl) hc (λk hk ⟨r,hr,AU⟩=>hS.own h hk ⟨l,r,hr,AU⟩) (λk hk=>hS.cq k hk)
    ·cases hv
   ·cases hv
  |_=>simp [Bn] at hv
 |Ga l=>
  cases τ with
  |smap vt=>
   simp only [Bn] at hv
   split at hv
   ·rename_i v' m hl
    split at hv
    ·rename_i he;subst he
     simp only [Option.some.injEq,Prod.mk.injEq] at hv
     obtain ⟨_,rfl⟩:=hv
     obtain ⟨r,vt,m',h1,h2,rfl⟩:=hc
     exact tp ((h.heap l).Ku hl) (by rw [h2];rfl) λhs=>hS.own h hs ⟨l,r,h2,h.Bb h2⟩
    ·cases hv
   ·cases hv
  |_=>simp [Bn] at hv
 |_=>cases τ<;>simp [Bn] at hv
theorem Nn {st:St} {τ:Ty} (Nk:τ.Ab=false) (cs:List AC):Cq st τ cs=match cs with| [c]=>Bn st τ c|_=>none:=by
 cases τ<;>simp [Ty.Ab] at Nk<;>rcases cs with _|⟨c,_|⟨d,r⟩⟩<;>rfl
theorem fR {st:St} (h:Ih X w π st.heap) {S:Nat->Prop} : ∀(τ:Ty) (cs:List AC) (us:List Value) (fr:Bool) (x:τ.den),Cy X w π st.heap cs us->
  Cq st τ cs=some (fr,x)->Lc X S fr->Cells w S τ us x:=by
 have one: ∀(τ:Ty) (cs:List AC) (us:List Value) (fr:Bool) (x:τ.den),τ.Ab=false->Cy X w π st.heap cs us->
   Cq st τ cs=some (fr,x)->Lc X S fr->Cells w S τ us x:=by
  intro τ cs us fr x Nk hr hv hS
  rw [Nn Nk] at hv
  split at hv
  ·rename_i c
   obtain ⟨u,hu,_,hc⟩:=hr.2 0 c rfl
   have hl:us.length=1:=hr.1
   obtain ⟨u',rfl⟩:=List.length_eq_one_iff.1 hl
   simp at hu;subst hu
   exact pY h τ c _ fr x Nk hc hv hS
  ·cases hv
 intro τ
 induction τ with
 |unit=>
  intro cs us fr x hr hv hS
  cases cs with
  |nil=>have:us= []:=List.eq_nil_of_length_eq_zero hr.1;exact this
  |cons c cs=>simp [Cq] at hv
 |pair a r hJ er=>
  intro cs us fr x hr hv hS
  simp only [Cq] at hv
  split at hv
  ·rename_i f1 y f2 z h1 h2
   simp only [Option.some.injEq,Prod.mk.injEq] at hv
   obtain ⟨rfl,rfl⟩:=hv
   have SU:Cy X w π st.heap (cs.take a.size) (us.take a.size):=
    ⟨by simp [hr.1],λi c hc=>by
     rw [List.getElem?_take] at hc⊢
     split at hc
     ·rename_i hi;simp only [hi,if_true];exact hr.2 i c hc
     ·cases hc⟩
   have VX:Cy X w π st.heap (cs.drop a.size) (us.drop a.size):=
    ⟨by simp [hr.1],λi c hc=>by
     rw [List.getElem?_drop] at hc⊢
     exact hr.2 _ c hc⟩
   exact ⟨us.take a.size,us.drop a.size,(List.take_append_drop _ _).symm,hJ _ _ _ _ SU h1 hS.and_left,er _ _ _ _ VX h2 hS.and_right⟩
  ·cases hv
 |_=>exact λcs us fr x hr hv hS=>one _ cs us fr x rfl hr hv hS
theorem Tc {cs:List AC} {us:List Value} (h:Cy X w π H cs us) (i n:Nat):Cy X w π H ((cs.drop i).take n) ((us.drop i).take n):=
 ⟨by simp [h.1],λj c hc=>by
  rw [List.getElem?_take] at hc⊢
  split at hc
  ·rename_i hi
   simp only [hi,if_true]
   rw [List.getElem?_drop] at hc⊢
   exact h.2 _ c hc
  ·cases hc⟩
theorem dX {st:St} (h:Ih X w π st.heap) {S:Nat->Prop} {a:Ty} {l i:Nat} {fr:Bool} {x:a.den} (hv:Nu st a l i=some (fr,x)) (hS:Lc X S fr) {r:Real} (hr:π l=some r):
  r.g<w.heap.size/\ ¬S r.g/\ ∃es:List Value,es.length=a.size/\(∀j u,es[j]?=some u->w.cell? ⟨r.g,i+j,none⟩=some u)/\Cells w S a es x:=by
 unfold Nu at hv
 split at hv
 ·rename_i tid vs hl
  obtain ⟨r',h3,h4,cur,h5,h6⟩:=(h.heap l).Ku hl
  rw [hr] at h3;cases h3
  have hc:=fR h a _ _ fr x (Tc h6 i a.size) hv hS
  refine ⟨Cs h5,λhs=>hS.own h hs ⟨l,r,hr,h4⟩,_,Cells.len a _ x hc,λj u hu=>?_,hc⟩
  rw [cellOf h5]
  rw [List.getElem?_take] at hu
  split at hu
  ·rw [List.getElem?_drop] at hu;simpa using hu
  ·cases hu
 ·cases hv
theorem w5 {st:St} (h:Ih X w π st.heap) {S:Nat->Prop} : ∀(τ:Ty) (Bv:List (Nat×Nat)) (us:List Value) (fr:Bool) (x:τ.den),us.length=Bv.length->
  (∀(j:Nat) p,Bv[j]?=some p-> ∃r tid vs,Ad st.heap p.1=some (.var tid vs)/\π p.1=some r/\us[j]?=some (.pointer (some ⟨r.g,p.2,none⟩)))->
  Gm st τ Bv=some (fr,x)->Lc X S fr->Cells w S τ us x:=by
 intro τ
 induction τ with
 |unit=>
  intro Bv us fr x hl hr hv hS
  cases Bv with
  |nil=>exact List.eq_nil_of_length_eq_zero hl
  |cons c cs=>simp [Gm] at hv
 |pair a r _ er=>
  intro Bv us fr x hl hr hv hS
  cases a with
  |ptr a=>
   cases Bv with
   |nil=>simp [Gm] at hv
   |cons c cs=>
    obtain ⟨l,i⟩:=c
    simp only [Gm] at hv
    split at hv
    ·rename_i f1 y f2 z h1 h2
     simp only [Option.some.injEq,Prod.mk.injEq] at hv
     obtain ⟨rfl,rfl⟩:=hv
     cases us with
     |nil=>simp at hl
     |cons u us=>
      obtain ⟨r0,tid,vs,h3,h4,h5⟩:=hr 0 (l,i) rfl
      simp only [List.getElem?_cons_zero,Option.some.injEq] at h5
      subst h5
      obtain ⟨h6,h7,es,h8,h9,jG⟩:=dX h h1 hS.and_left h4
      exact ⟨[_],us,rfl,⟨r0.g,i,rfl,h6,h7,es,h8,h9,jG⟩,er cs us f2 z (by simpa using hl) (λj p hp=>hr (j+1) p hp) h2 hS.and_right⟩
    ·cases hv
  |_=>cases Bv<;>simp [Gm] at hv
 |_=>intro Bv us fr x hl hr hv;cases Bv<;>simp [Gm] at hv
theorem zf {st:St} (h:Ih X w π st.heap) {S:Nat->Prop} (τ:Ty) (c:AC) (v:Value) (fr:Bool) (x:τ.den) (Nk:τ.Ab=false) (hc:Dw X w π st.heap c v)
  (hv:Fl st τ c=some (fr,x)) (hS:Lc X S fr):Cells w S τ [v] x:=by
 have Ix:Bn st τ c=some (fr,x)->Cells w S τ [v] x:= λhv=>pY h τ c v fr x Nk hc hv hS
 cases τ with
 |ptr a=>
  cases c with
  |Dv l i=>
   obtain ⟨r,tid,vs,h1,h2,rfl⟩:=hc
   obtain ⟨h6,h7,h8⟩:=dX h hv hS h2
   exact ⟨r.g,i,rfl,h6,h7,h8⟩
  |_=>exact Ix hv
 |optr a=>
  cases c with
  |Dv l i=>
   obtain ⟨r,tid,vs,h1,h2,rfl⟩:=hc
   simp only [Fl] at hv
   cases hp:Nu st a l i with
   |none=>rw [hp] at hv;cases hv
   |some p=>
    rw [hp] at hv
    simp only [Option.map_some,Option.some.injEq,Prod.mk.injEq] at hv
    obtain ⟨rfl,rfl⟩:=hv
    obtain ⟨h6,h7,h8⟩:=dX h hp hS h2
    exact .inr ⟨_,r.g,i,rfl,rfl,h6,h7,h8⟩
  |_=>exact Ix hv
 |clo f a=>
  cases c with
  |clo g Bv=>
   simp only [Fl] at hv
   split at hv
   ·rename_i hg
    obtain ⟨rfl,Fc⟩:=hg
    obtain ⟨us,rfl,h2,h3⟩:=hc
    exact ⟨us,by rw [cB Fc],w5 h a Bv us fr x h2 h3 hv hS⟩
   ·cases hv
  |_=>exact Ix hv
 |_=>exact Ix hv
theorem Rx {st:St} (h:Ih X w π st.heap) {S:Nat->Prop} (τ:Ty) (c:AV) (v:Value) (fr:Bool) (x:τ.den) (hc:An X w π st.heap c v)
  (hv:Ct st τ c=some (fr,x)) (hS:Lc X S fr):Be w S τ v x:=by
 have Ix: ∀c:AC,Dw X w π st.heap c v->(if τ.Ab then none else Fl st τ c)=some (fr,x)->Be w S τ v x:=by
  intro c hc hv
  split at hv
  ·cases hv
  ·rename_i Nk
   simp only [Bool.not_eq_true] at Nk
   exact Be.j5 Nk (zf h τ c v fr x Nk hc hv hS)
 cases c with
 | «at»c=>
  cases c with
  |data Pk Jc y=>
   rw [Ye] at hv
   split at hv
   ·rename_i ht;subst ht
    simp only [Option.some.injEq,Prod.mk.injEq] at hv
    obtain ⟨rfl,rfl⟩:=hv
    obtain ⟨cs,h1,h2⟩:=hc
    exact ⟨cs,Rep.apart hS h1,h2⟩
   ·exact Ix (.data Pk Jc y) hc hv
  |undef=>exact Ix .undef hc hv
  |skip=>exact Ix .skip hc hv
  |Hp=>exact Ix .Hp hc hv
  |Qd=>exact Ix .Qd hc hv
  |own l off len=>exact Ix (.own l off len) hc hv
  |Dv l i=>exact Ix (.Dv l i) hc hv
  |Fu l i=>exact Ix (.Fu l i) hc hv
  |clo f Bv=>exact Ix (.clo f Bv) hc hv
  |Ga l=>exact Ix (.Ga l) hc hv
  |sub l i c=>exact Ix (.sub l i c) hc hv
  |Fp l i c=>exact Ix (.Fp l i c) hc hv
 |agg cs=>
  simp only [Ct] at hv
  split at hv
  ·rename_i Nk
   obtain ⟨us,rfl,hr⟩:=hc
   exact ⟨us,fR h τ cs us fr x hr hv hS,by simp [As,Nk]⟩
  ·cases hv
 |Vl Pk Jc y=>simp [Ct] at hv
 |Ib l=>simp [Ct] at hv
theorem Uv {st:St} (h:Ih X w π st.heap) {S:Nat->Prop} : ∀(τ:Ty) (cs:List AV) (vs:List Value) (fr:Bool) (x:τ.den),cs.length=vs.length->
  (∀(i:Nat) c v,cs[i]?=some c->vs[i]?=some v->An X w π st.heap c v)->Bq st τ cs=some (fr,x)->Lc X S fr->Bd w S τ vs x
 | .unit,[],vs,fr,x,hl,hr,hv,hS=>by
  have:vs= []:=List.eq_nil_of_length_eq_zero hl.symm
  subst this;trivial
 | .unit,_::_,vs,fr,x,hl,hr,hv,hS=>by simp [Bq] at hv
 | .pair a r,[],vs,fr,x,hl,hr,hv,hS=>by simp [Bq] at hv
 | .pair a r,c::cs,[],fr,x,hl,hr,hv,hS=>by simp at hl
 | .pair a r,c::cs,v::vs,fr,x,hl,hr,hv,hS=>by
  simp only [Bq] at hv
  split at hv
  ·rename_i f1 y f2 z h1 h2
   simp only [Option.some.injEq,Prod.mk.injEq] at hv
   obtain ⟨rfl,rfl⟩:=hv
   exact ⟨Rx h a c v f1 y (hr 0 c v rfl rfl) h1 hS.and_left,Uv h r cs vs f2 z (by simpa using hl) (λi c' v' hc HS=>hr (i+1) c' v' hc HS) h2 hS.and_right⟩
  ·cases hv
 | .int _,cs,vs,fr,x,hl,hr,hv,hS=>by cases cs<;>simp [Bq] at hv
 | .bool,cs,vs,fr,x,hl,hr,hv,hS=>by cases cs<;>simp [Bq] at hv
 | .str,cs,vs,fr,x,hl,hr,hv,hS=>by cases cs<;>simp [Bq] at hv
 | .slice _,cs,vs,fr,x,hl,hr,hv,hS=>by cases cs<;>simp [Bq] at hv
 | .ptr _,cs,vs,fr,x,hl,hr,hv,hS=>by cases cs<;>simp [Bq] at hv
 | .oslice _,cs,vs,fr,x,hl,hr,hv,hS=>by cases cs<;>simp [Bq] at hv
 | .optr _,cs,vs,fr,x,hl,hr,hv,hS=>by cases cs<;>simp [Bq] at hv
 | .smap _,cs,vs,fr,x,hl,hr,hv,hS=>by cases cs<;>simp [Bq] at hv
 | .clo _ _,cs,vs,fr,x,hl,hr,hv,hS=>by cases cs<;>simp [Bq] at hv
end
end Go.Proofs.YtfolipnappekaaaGreat
