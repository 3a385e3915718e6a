/-
  Part 6 of the proof that the statement FnExactInSubgroup holds.
-/
import Derived.Test.YtjbdmibbbpdnnaaCInSubgroup04
import Derived.WalkKit
import Derived.Laws.Slices
namespace Go.Proofs.Ytjbdmibbbpdnnaa
open Go.RowKit
def Al:Ty->List Value
 | .int k=> [.int k 0]
 | .bool=> [.bool false]
 | .str=> [.string ByteArray.empty]
 | .slice _=> [.slice none 0 0]
 | .oslice _=> [.slice none 0 0]
 | .ptr _=> [.pointer none]
 | .optr _=> [.pointer none]
 | .smap _=> [.map none]
 | .clo _ _=> [.nilFunc]
 | .unit=> []
 | .pair a r=>Al a++Al r
structure jj (P:Program) (T:Tab) (t:TypeId) (τ:Ty):Prop where
 info: ∃i:TypeInfo,P.info? t=some i/\i.size=τ.size/\i.bytes<=256/\i.zero=some (Am τ (Al τ))
 desc:match τ with
  | .int k=>P.underlying t=some (.int k)
  | .bool=>P.underlying t=some .bool
  | .str=>P.underlying t=some .string
  | .slice e=> ∃te,P.underlying t=some (.slice te)/\T.elem t=some te/\T.ty te=some e
  | .oslice e=> ∃te,P.underlying t=some (.slice te)/\T.elem t=some te/\T.ty te=some e
  | .ptr _=> ∃u,P.underlying t=some (.pointer u)
  | .optr _=> ∃u,P.underlying t=some (.pointer u)
  | .smap _=> ∃k e,P.underlying t=some (.map k e)
  | .clo _ _=>False
  | .unit| .pair _ _=> ∃fs,P.underlying t=some (.struct fs)
def placesOf (fs:Array Field):Sem (Array (Nat×Nat)):=fs.mapM λf=>do pure (f.offset,<-sizeOf f.type)
structure Bu (P:Program) (T:Tab):Prop where
 fill: ∀t τ,T.ty t=some τ->τ.Ab=true-> ∃(fs:Array Field) (Hy:Array (Nat×Nat)),P.underlying t=some (.struct fs)/\(∀w,(placesOf fs).run P w= .ok Hy w)/\
  ∀f o u ρ,T.off t f=some (o,u)->T.ty u=some ρ->Hy[f]?=some (o,ρ.size)
 ty: ∀t τ,T.ty t=some τ->jj P T t τ
 elem: ∀t te,T.elem t=some te->P.underlying t=some (.slice te)
 mapOf: ∀t v,T.mapOf t=some v-> ∃k e,P.underlying t=some (.map k e)/\P.underlying k=some .string/\T.ty e=some v/\v.flat=true/\v.Ab=false
 off: ∀s f o t,T.off s f=some (o,t)-> ∃(fs:Array Field) (fd:Field),P.underlying s=some (.struct fs)/\fs[f]?=some fd/\fd.offset=o/\fd.type=t/\ ∃i:TypeInfo,P.info? t=some i/\i.size≠0
section
variable {P:Program} {T:Tab} {X:Ctx} {w w':World} {π:Pi} {H:List (Nat×OB)}
theorem Jq {t:TypeId} {d:TypeDesc} (h:P.underlying t=some d):(isAgg t).run P w= .ok (match d with| .struct _| .array _ _=>true|_=>false) w:=by
 unfold isAgg
 rw [Sem.run_bind,run_underlying h]
 cases d<;>rfl
theorem jj.agg {t:TypeId} {τ:Ty} (h:jj P T t τ):(isAgg t).run P w= .ok τ.Ab w:=by
 have hd:=h.desc
 cases τ<;>simp only at hd
 case int k=>rw [Jq hd];rfl
 case bool=>rw [Jq hd];rfl
 case str=>rw [Jq hd];rfl
 case slice e=>obtain ⟨te,hd,_⟩:=hd;rw [Jq hd];rfl
 case ptr e=>obtain ⟨te,hd⟩:=hd;rw [Jq hd];rfl
 case oslice e=>obtain ⟨te,hd,_⟩:=hd;rw [Jq hd];rfl
 case optr e=>obtain ⟨te,hd⟩:=hd;rw [Jq hd];rfl
 case smap e=>obtain ⟨k,te,hd⟩:=hd;rw [Jq hd];rfl
 case unit=>obtain ⟨te,hd⟩:=hd;rw [Jq hd];rfl
 case pair e r=>obtain ⟨te,hd⟩:=hd;rw [Jq hd];rfl
theorem jj.size {t:TypeId} {τ:Ty} (h:jj P T t τ):(sizeOf t).run P w= .ok τ.size w:=by
 obtain ⟨i,hi,hs,_⟩:=h.info
 simp [sizeOf,typeInfo,hi,hs]
theorem Aw.Km {S:Nat->Prop} {τ:Ty} {v:Value} {x:τ.den} (Lu:τ.Ab=false) (h:Aw w S τ v x):Cells w S τ [v] x:=by
 obtain ⟨cs,hc,rfl⟩:=h
 have hl:=Cells.len τ cs x hc
 have h1:τ.size=1:=by cases τ<;>simp_all [Ty.Ab,Ty.size]
 rw [h1] at hl
 obtain ⟨c,rfl⟩:=List.length_eq_one_iff.1 hl
 simpa [Am,Lu] using hc
theorem Aw.fz {S:Nat->Prop} {τ:Ty} {v:Value} {x:τ.den} (Lu:τ.Ab=false) (h:Cells w S τ [v] x):Aw w S τ v x:=
 ⟨[v],h,by simp [Am,Lu]⟩
def Jx (X:Ctx) (S:Nat->Prop) (fr:Bool):Prop:=(∀k,S k->k<X.w0.heap.size/\ ¬X.gv k)/\(fr=true\/ ∀k,S k->X.Sc k)
theorem Jx.ar {S:Nat->Prop} {fr:Bool} (h:Jx X S fr) (k:Nat) (hk:S k):Ay X.w0.heap.size X.Sc π fr k:=by
 rcases h.2 with h2|h2
 ·exact .inr (.inr ⟨h2,(h.1 k hk).1⟩)
 ·exact .inr (.inl (h2 k hk))
theorem Jx.and_left {S:Nat->Prop} {f1 f2:Bool} (h:Jx X S (f1&&f2)):Jx X S f1:=
 ⟨h.1,h.2.imp (λh=>by simp at h;exact h.1) id⟩
theorem Jx.and_right {S:Nat->Prop} {f1 f2:Bool} (h:Jx X S (f1&&f2)):Jx X S f2:=
 ⟨h.1,h.2.imp (λh=>by simp at h;exact h.2) id⟩
theorem TZ.apart {S:Nat->Prop} {fr:Bool} {τ:Ty} {cs:List Value} {x:τ.den} (hS:Jx X S (fr||τ.flat)) (h:Cells w (Ay X.w0.heap.size X.Sc π fr) τ cs x):Cells w S τ cs x:=by
 cases hf:τ.flat with
 |true=>exact Cells.flat τ cs x hf h
 |false=>
  rw [hf,Bool.or_false] at hS
  exact Cells.Cj (Nat.le_refl _) (λ_ _ _=>rfl) (λk _ hk=>hS.ar k hk) τ cs x h
theorem Jx.own {S:Nat->Prop} {fr:Bool} (hS:Jx X S fr) (h:Hb X w π H) {k:Nat} (hk:S k): ¬Nf π k:= λho=>by
 have h1:=hS.1 k hk
 rcases (h.own ho).2 with h2|h2
 ·omega
 ·exact h1.2 h2
theorem Jx.mono {S:Nat->Prop} {f1 f2:Bool} (h:Jx X S f1) (hf:f1=true->f2=true):Jx X S f2:=⟨h.1,h.2.imp hf id⟩
theorem Hr (st:St) (τ:Ty) (fr:Bool) (Ie:Ty) (x:Ie.den):Bh st τ (.data fr Ie x)=if h:Ie=τ then some (fr||τ.flat,h▸x) else aG fr τ Ie x:=by
 cases τ<;>rfl
theorem Uz (st:St) (τ:Ty) (fr:Bool) (Ie:Ty) (x:Ie.den):Ci st τ (.at (.data fr Ie x))=if h:Ie=τ then some (fr||τ.flat,h▸x) else if τ.Ab then none else Eu st τ (.data fr Ie x):=rfl
theorem qV (st:St) (τ:Ty) (fr:Bool) (Ie:Ty) (x:Ie.den):Eu st τ (.data fr Ie x)=Bh st τ (.data fr Ie x):=by
 cases τ<;>rfl
theorem yg {S:Nat->Prop} {fr:Bool} {τ Ie:Ty} {x:Ie.den} {f:Bool} {y:τ.den} {v:Value} (h:aG fr τ Ie x=some (f,y)) (hc:Aw w (Ay X.w0.heap.size X.Sc π fr) Ie v x) (hS:Jx X S f):
  τ.Ab=false/\f=fr/\Cells w S τ [v] y:=by
 unfold aG at h
 split at h
 ·split at h
  ·rename_i e e' _ BA
   subst BA
   simp only [Option.some.injEq,Prod.mk.injEq] at h
   obtain ⟨rfl,rfl⟩:=h
   refine ⟨rfl,rfl,?_⟩
   have h1:=TZ.apart (S:=S) (τ:= .oslice e') ⟨hS.1,hS.2.imp (λh=>by rw [h];rfl) id⟩ (Aw.Km rfl hc)
   simp only [Cells] at h1⊢
   rcases h1 with ⟨rfl,c,h1⟩|⟨xs,ad,len,cap,rfl,h1,h2,h3,h4⟩
   ·exact ⟨none,0,c,h1,rfl,Nat.zero_le _, .inl rfl⟩
   ·exact ⟨_,len,cap,h1,h2,h3,h4.imp id λ⟨g,o,ha,h4⟩=>⟨g,o,by rw [ha],h4⟩⟩
  ·cases h
 ·split at h
  ·rename_i a a' _ WT
   subst WT
   simp only [Option.some.injEq,Prod.mk.injEq] at h
   obtain ⟨rfl,rfl⟩:=h
   refine ⟨rfl,rfl,?_⟩
   have h1:=TZ.apart (S:=S) (τ:= .ptr a') ⟨hS.1,hS.2.imp (λh=>by rw [h];rfl) id⟩ (Aw.Km rfl hc)
   simp only [Cells] at h1⊢
   obtain ⟨g,o,h2⟩:=h1
   exact .inr ⟨_,g,o,rfl,h2⟩
  ·cases h
 ·cases h
theorem mc {st:St} (h:Hb X w π st.heap) {S:Nat->Prop} (τ:Ty) (c:AC) (v:Value) (fr:Bool) (x:τ.den) (Lu:τ.Ab=false) (hc:Dk X w π st.heap c v)
  (hv:Bh st τ c=some (fr,x)) (hS:Jx X S fr):Cells w S τ [v] x:=by
 cases c with
 |data Nj Ie y=>
  rw [Hr] at hv
  split at hv
  ·rename_i ht;subst ht
   simp only [Option.some.injEq,Prod.mk.injEq] at hv
   obtain ⟨rfl,rfl⟩:=hv
   exact TZ.apart hS (Aw.Km Lu hc)
  ·exact (yg hv hc hS).2.2
 |Gw=>
  cases τ with
  |slice e=>
   simp only [Bh,Option.some.injEq,Prod.mk.injEq] at hv
   obtain ⟨_,rfl⟩:=hv
   exact ⟨none,0,0,by rw [show v=_ from hc],rfl,Nat.le_refl _, .inl rfl⟩
  |oslice e=>
   simp only [Bh,Option.some.injEq,Prod.mk.injEq] at hv
   obtain ⟨_,rfl⟩:=hv
   exact .inl ⟨rfl,0,by rw [show v=_ from hc]⟩
  |_=>simp [Bh] at hv
 |Pf=>
  cases τ with
  |optr e=>
   simp only [Bh,Option.some.injEq,Prod.mk.injEq] at hv
   obtain ⟨_,rfl⟩:=hv
   exact .inl ⟨rfl,by rw [show v=_ from hc]⟩
  |_=>simp [Bh] at hv
 |own l off len=>
  cases τ with
  |slice e=>
   simp only [Bh] at hv
   split at hv
   ·rename_i Nj EE e' tid xs hl
    split at hv
    ·rename_i he;subst he
     simp only [Option.some.injEq,Prod.mk.injEq] at hv
     obtain ⟨rfl,rfl⟩:=hv
     obtain ⟨h2,h3⟩:=Ij hc hl
     exact gP h hl h2 h3 (λk hk ⟨r,hr,vA⟩=>hS.own h hk ⟨l,r,hr,vA⟩) (λk _ hk=>hS.ar k hk)
    ·cases hv
   ·rename_i e' tid xs hl
    split at hv
    ·rename_i he;subst he
     simp only [Option.some.injEq,Prod.mk.injEq] at hv
     obtain ⟨rfl,rfl⟩:=hv
     obtain ⟨h2,h3⟩:=Tv hc hl
     exact er h hl h2 h3 (λk hk ⟨r,hr,vA⟩=>hS.own h hk ⟨l,r,hr,vA⟩)
    ·cases hv
   ·rename_i e' tid rows kp hl
    split at hv
    ·rename_i he;subst he
     simp only [Option.some.injEq,Prod.mk.injEq] at hv
     obtain ⟨rfl,rfl⟩:=hv
     obtain ⟨h2,h3⟩:=fI hc hl
     exact kG h hl h2 h3 (λk hk ⟨r,hr,vA⟩=>hS.own h hk ⟨l,r,hr,vA⟩) (λk hk=>hS.ar k hk)
    ·cases hv
   ·cases hv
  |_=>simp [Bh] at hv
 |sub l i c=>
  cases τ with
  |slice e=>
   simp only [Bh] at hv
   split at hv
   ·rename_i e' tid rows kp hl
    split at hv
    ·rename_i he;subst he
     simp only [Option.some.injEq,Prod.mk.injEq] at hv
     obtain ⟨rfl,rfl⟩:=hv
     exact kH h hl (sn hc hl) hc (λk hk ⟨r,hr,vA⟩=>hS.own h hk ⟨l,r,hr,vA⟩) (λk hk=>hS.ar k hk)
    ·cases hv
   ·cases hv
  |_=>simp [Bh] at hv
 |Fq l=>
  cases τ with
  |smap vt=>
   simp only [Bh] at hv
   split at hv
   ·rename_i v' m hl
    split at hv
    ·rename_i he;subst he
     simp only [Option.some.injEq,Prod.mk.injEq] at hv
     obtain ⟨_,rfl⟩:=hv
     obtain ⟨r,vt,m',h1,h2,rfl⟩:=hc
     exact oO ((h.heap l).La hl) (by rw [h2];rfl) λhs=>hS.own h hs ⟨l,r,h2,h.Ar h2⟩
    ·cases hv
   ·cases hv
  |_=>simp [Bh] at hv
 |_=>cases τ<;>simp [Bh] at hv
theorem Lz {st:St} {τ:Ty} (Lu:τ.Ab=false) (cs:List AC):Cg st τ cs=match cs with| [c]=>Bh st τ c|_=>none:=by
 cases τ<;>simp [Ty.Ab] at Lu<;>rcases cs with _|⟨c,_|⟨d,r⟩⟩<;>rfl
theorem dq {st:St} (h:Hb X w π st.heap) {S:Nat->Prop} : ∀(τ:Ty) (cs:List AC) (us:List Value) (fr:Bool) (x:τ.den),Cl X w π st.heap cs us->
  Cg st τ cs=some (fr,x)->Jx X S fr->Cells w S τ us x:=by
 have one: ∀(τ:Ty) (cs:List AC) (us:List Value) (fr:Bool) (x:τ.den),τ.Ab=false->Cl X w π st.heap cs us->
   Cg st τ cs=some (fr,x)->Jx X S fr->Cells w S τ us x:=by
  intro τ cs us fr x Lu hr hv hS
  rw [Lz Lu] at hv
  split at hv
  ·rename_i c
   obtain ⟨u,hu,_,hc⟩:=hr.2 0 c rfl
   have hl:us.length=1:=hr.1
   obtain ⟨u',rfl⟩:=List.length_eq_one_iff.1 hl
   simp at hu;subst hu
   exact mc h τ c _ fr x Lu hc hv hS
  ·cases hv
 intro τ
 induction τ with
 |unit=>
  intro cs us fr x hr hv hS
  cases cs with
  |nil=>have:us= []:=List.eq_nil_of_length_eq_zero hr.1;exact this
  |cons c cs=>simp [Cg] at hv
 |pair a r ey cf=>
  intro cs us fr x hr hv hS
  simp only [Cg] at hv
  split at hv
  ·rename_i f1 y f2 z h1 h2
   simp only [Option.some.injEq,Prod.mk.injEq] at hv
   obtain ⟨rfl,rfl⟩:=hv
   have GK:Cl X w π st.heap (cs.take a.size) (us.take a.size):=
    ⟨by simp [hr.1],λi c hc=>by
     rw [List.getElem?_take] at hc⊢
     split at hc
     ·rename_i hi;simp only [hi,if_true];exact hr.2 i c hc
     ·cases hc⟩
   have JI:Cl X w π st.heap (cs.drop a.size) (us.drop a.size):=
    ⟨by simp [hr.1],λi c hc=>by
     rw [List.getElem?_drop] at hc⊢
     exact hr.2 _ c hc⟩
   exact ⟨us.take a.size,us.drop a.size,(List.take_append_drop _ _).symm,ey _ _ _ _ GK h1 hS.and_left,cf _ _ _ _ JI h2 hS.and_right⟩
  ·cases hv
 |_=>exact λcs us fr x hr hv hS=>one _ cs us fr x rfl hr hv hS
theorem Qv {cs:List AC} {us:List Value} (h:Cl X w π H cs us) (i n:Nat):Cl X w π H ((cs.drop i).take n) ((us.drop i).take n):=
 ⟨by simp [h.1],λj c hc=>by
  rw [List.getElem?_take] at hc⊢
  split at hc
  ·rename_i hi
   simp only [hi,if_true]
   rw [List.getElem?_drop] at hc⊢
   exact h.2 _ c hc
  ·cases hc⟩
theorem bX {st:St} (h:Hb X w π st.heap) {S:Nat->Prop} {a:Ty} {l i:Nat} {fr:Bool} {x:a.den} (hv:Mf st a l i=some (fr,x)) (hS:Jx X S fr) {r:Real} (hr:π l=some r):
  r.g<w.heap.size/\ ¬S r.g/\ ∃es:List Value,es.length=a.size/\(∀j u,es[j]?=some u->w.cell? ⟨r.g,i+j,none⟩=some u)/\Cells w S a es x:=by
 unfold Mf at hv
 split at hv
 ·rename_i tid vs hl
  obtain ⟨r',h3,h4,cur,h5,h6⟩:=(h.heap l).La hl
  rw [hr] at h3;cases h3
  have hc:=dq h a _ _ fr x (Qv h6 i a.size) hv hS
  refine ⟨Cr h5,λhs=>hS.own h hs ⟨l,r,hr,h4⟩,_,Cells.len a _ x hc,λj u hu=>?_,hc⟩
  rw [cellOf h5]
  rw [List.getElem?_take] at hu
  split at hu
  ·rw [List.getElem?_drop] at hu;simpa using hu
  ·cases hu
 ·cases hv
theorem qU {st:St} (h:Hb X w π st.heap) {S:Nat->Prop} : ∀(τ:Ty) (Bp:List (Nat×Nat)) (us:List Value) (fr:Bool) (x:τ.den),us.length=Bp.length->
  (∀(j:Nat) p,Bp[j]?=some p-> ∃r tid vs,Ad st.heap p.1=some (.var tid vs)/\π p.1=some r/\us[j]?=some (.pointer (some ⟨r.g,p.2,none⟩)))->
  Fu st τ Bp=some (fr,x)->Jx X S fr->Cells w S τ us x:=by
 intro τ
 induction τ with
 |unit=>
  intro Bp us fr x hl hr hv hS
  cases Bp with
  |nil=>exact List.eq_nil_of_length_eq_zero hl
  |cons c cs=>simp [Fu] at hv
 |pair a r _ cf=>
  intro Bp us fr x hl hr hv hS
  cases a with
  |ptr a=>
   cases Bp with
   |nil=>simp [Fu] at hv
   |cons c cs=>
    obtain ⟨l,i⟩:=c
    simp only [Fu] at hv
    split at hv
    ·rename_i f1 y f2 z h1 h2
     simp only [Option.some.injEq,Prod.mk.injEq] at hv
     obtain ⟨rfl,rfl⟩:=hv
     cases us with
     |nil=>simp at hl
     |cons u us=>
      obtain ⟨r0,tid,vs,h3,h4,h5⟩:=hr 0 (l,i) rfl
      simp only [List.getElem?_cons_zero,Option.some.injEq] at h5
      subst h5
      obtain ⟨h6,h7,es,h8,h9,iH⟩:=bX h h1 hS.and_left h4
      exact ⟨[_],us,rfl,⟨r0.g,i,rfl,h6,h7,es,h8,h9,iH⟩,cf cs us f2 z (by simpa using hl) (λj p hp=>hr (j+1) p hp) h2 hS.and_right⟩
    ·cases hv
  |_=>cases Bp<;>simp [Fu] at hv
 |_=>intro Bp us fr x hl hr hv;cases Bp<;>simp [Fu] at hv
theorem ue {st:St} (h:Hb X w π st.heap) {S:Nat->Prop} (τ:Ty) (c:AC) (v:Value) (fr:Bool) (x:τ.den) (Lu:τ.Ab=false) (hc:Dk X w π st.heap c v)
  (hv:Eu st τ c=some (fr,x)) (hS:Jx X S fr):Cells w S τ [v] x:=by
 have Hv:Bh st τ c=some (fr,x)->Cells w S τ [v] x:= λhv=>mc h τ c v fr x Lu hc hv hS
 cases τ with
 |ptr a=>
  cases c with
  |Dj l i=>
   obtain ⟨r,tid,vs,h1,h2,rfl⟩:=hc
   obtain ⟨h6,h7,h8⟩:=bX h hv hS h2
   exact ⟨r.g,i,rfl,h6,h7,h8⟩
  |_=>exact Hv hv
 |optr a=>
  cases c with
  |Dj l i=>
   obtain ⟨r,tid,vs,h1,h2,rfl⟩:=hc
   simp only [Eu] at hv
   cases hp:Mf st a l i with
   |none=>rw [hp] at hv;cases hv
   |some p=>
    rw [hp] at hv
    simp only [Option.map_some,Option.some.injEq,Prod.mk.injEq] at hv
    obtain ⟨rfl,rfl⟩:=hv
    obtain ⟨h6,h7,h8⟩:=bX h hp hS h2
    exact .inr ⟨_,r.g,i,rfl,rfl,h6,h7,h8⟩
  |_=>exact Hv hv
 |clo f a=>
  cases c with
  |clo g Bp=>
   simp only [Eu] at hv
   split at hv
   ·rename_i hg
    obtain ⟨rfl,Gu⟩:=hg
    obtain ⟨us,rfl,h2,h3⟩:=hc
    exact ⟨us,by rw [aD Gu],qU h a Bp us fr x h2 h3 hv hS⟩
   ·cases hv
  |_=>exact Hv hv
 |_=>exact Hv hv
theorem Pu {st:St} (h:Hb X w π st.heap) {S:Nat->Prop} (τ:Ty) (c:AV) (v:Value) (fr:Bool) (x:τ.den) (hc:Ak X w π st.heap c v)
  (hv:Ci st τ c=some (fr,x)) (hS:Jx X S fr):Aw w S τ v x:=by
 have Hv: ∀c:AC,Dk X w π st.heap c v->(if τ.Ab then none else Eu st τ c)=some (fr,x)->Aw w S τ v x:=by
  intro c hc hv
  split at hv
  ·cases hv
  ·rename_i Lu
   simp only [Bool.not_eq_true] at Lu
   exact Aw.fz Lu (ue h τ c v fr x Lu hc hv hS)
 cases c with
 | «at»c=>
  cases c with
  |data Nj Ie y=>
   rw [Uz] at hv
   split at hv
   ·rename_i ht;subst ht
    simp only [Option.some.injEq,Prod.mk.injEq] at hv
    obtain ⟨rfl,rfl⟩:=hv
    obtain ⟨cs,h1,h2⟩:=hc
    exact ⟨cs,TZ.apart hS h1,h2⟩
   ·exact Hv (.data Nj Ie y) hc hv
  |undef=>exact Hv .undef hc hv
  |skip=>exact Hv .skip hc hv
  |Gw=>exact Hv .Gw hc hv
  |Pf=>exact Hv .Pf hc hv
  |own l off len=>exact Hv (.own l off len) hc hv
  |Dj l i=>exact Hv (.Dj l i) hc hv
  |Fc l i=>exact Hv (.Fc l i) hc hv
  |clo f Bp=>exact Hv (.clo f Bp) hc hv
  |Fq l=>exact Hv (.Fq l) hc hv
  |sub l i c=>exact Hv (.sub l i c) hc hv
  |Fa l i c=>exact Hv (.Fa l i c) hc hv
 |agg cs=>
  simp only [Ci] at hv
  split at hv
  ·rename_i Lu
   obtain ⟨us,rfl,hr⟩:=hc
   exact ⟨us,dq h τ cs us fr x hr hv hS,by simp [Am,Lu]⟩
  ·cases hv
 |Sv Nj Ie y=>simp [Ci] at hv
 |Hz l=>simp [Ci] at hv
theorem Sl {st:St} (h:Hb X w π st.heap) {S:Nat->Prop} : ∀(τ:Ty) (cs:List AV) (vs:List Value) (fr:Bool) (x:τ.den),cs.length=vs.length->
  (∀(i:Nat) c v,cs[i]?=some c->vs[i]?=some v->Ak X w π st.heap c v)->Bl st τ cs=some (fr,x)->Jx X S fr->Aq w S τ vs x
 | .unit,[],vs,fr,x,hl,hr,hv,hS=>by
  have:vs= []:=List.eq_nil_of_length_eq_zero hl.symm
  subst this;trivial
 | .unit,_::_,vs,fr,x,hl,hr,hv,hS=>by simp [Bl] at hv
 | .pair a r,[],vs,fr,x,hl,hr,hv,hS=>by simp [Bl] at hv
 | .pair a r,c::cs,[],fr,x,hl,hr,hv,hS=>by simp at hl
 | .pair a r,c::cs,v::vs,fr,x,hl,hr,hv,hS=>by
  simp only [Bl] at hv
  split at hv
  ·rename_i f1 y f2 z h1 h2
   simp only [Option.some.injEq,Prod.mk.injEq] at hv
   obtain ⟨rfl,rfl⟩:=hv
   exact ⟨Pu h a c v f1 y (hr 0 c v rfl rfl) h1 hS.and_left,Sl h r cs vs f2 z (by simpa using hl) (λi c' v' hc ux=>hr (i+1) c' v' hc ux) h2 hS.and_right⟩
  ·cases hv
 | .int _,cs,vs,fr,x,hl,hr,hv,hS=>by cases cs<;>simp [Bl] at hv
 | .bool,cs,vs,fr,x,hl,hr,hv,hS=>by cases cs<;>simp [Bl] at hv
 | .str,cs,vs,fr,x,hl,hr,hv,hS=>by cases cs<;>simp [Bl] at hv
 | .slice _,cs,vs,fr,x,hl,hr,hv,hS=>by cases cs<;>simp [Bl] at hv
 | .ptr _,cs,vs,fr,x,hl,hr,hv,hS=>by cases cs<;>simp [Bl] at hv
 | .oslice _,cs,vs,fr,x,hl,hr,hv,hS=>by cases cs<;>simp [Bl] at hv
 | .optr _,cs,vs,fr,x,hl,hr,hv,hS=>by cases cs<;>simp [Bl] at hv
 | .smap _,cs,vs,fr,x,hl,hr,hv,hS=>by cases cs<;>simp [Bl] at hv
 | .clo _ _,cs,vs,fr,x,hl,hr,hv,hS=>by cases cs<;>simp [Bl] at hv
end
end Go.Proofs.Ytjbdmibbbpdnnaa
