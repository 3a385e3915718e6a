/-
  Part 6 of the proof that the statement FnExactStatesWithPattern holds.
-/
import Derived.Test.YtebabhocakedaaaCStatesWithPattern04
import Derived.WalkKit
import Derived.Laws.Slices
namespace Go.Proofs.Ytebabhocakedaaa
open Go.RowKit
def Aj:Ty→List Value
 | .int k=> [.int k 0]
 | .bool=> [.bool false]
 | .str=> [.string ByteArray.empty]
 | .slice _=> [.slice none 0 0]
 | .oslice _=> [.slice none 0 0]
 | .ptr _=> [.pointer none]
 | .optr _=> [.pointer none]
 | .smap _=> [.map none]
 | .clo _ _=> [.nilFunc]
 | .unit=> []
 | .pair a r=>Aj a++Aj r
structure Agr (P:Program) (T:Tab) (t:TypeId) (τ:Ty):Prop where
 info: ∃i:TypeInfo,P.info? t=some i∧i.size=τ.size∧i.bytes≤256∧i.zero=some (Al τ (Aj τ))
 desc:match τ with
  | .int k=>P.underlying t=some (.int k)
  | .bool=>P.underlying t=some .bool
  | .str=>P.underlying t=some .string
  | .slice e=> ∃te,P.underlying t=some (.slice te)∧T.elem t=some te∧T.ty te=some e
  | .oslice e=> ∃te,P.underlying t=some (.slice te)∧T.elem t=some te∧T.ty te=some e
  | .ptr _=> ∃u,P.underlying t=some (.pointer u)
  | .optr _=> ∃u,P.underlying t=some (.pointer u)
  | .smap _=> ∃k e,P.underlying t=some (.map k e)
  | .clo _ _=>False
  | .unit| .pair _ _=> ∃fs,P.underlying t=some (.struct fs)
def placesOf (fs:Array Field):Sem (Array (Nat×Nat)):=fs.mapM fun f=>do pure (f.offset,←sizeOf f.type)
structure Bp (P:Program) (T:Tab):Prop where
 fill: ∀t τ,T.ty t=some τ→τ.Ab=true→ ∃(fs:Array Field) (places:Array (Nat×Nat)),P.underlying t=some (.struct fs)∧(∀w,(placesOf fs).run P w= .ok places w)∧
  ∀f o u ρ,T.off t f=some (o,u)→T.ty u=some ρ→places[f]?=some (o,ρ.size)
 ty: ∀t τ,T.ty t=some τ→Agr P T t τ
 elem: ∀t te,T.elem t=some te→P.underlying t=some (.slice te)
 mapOf: ∀t v,T.mapOf t=some v→ ∃k e,P.underlying t=some (.map k e)∧P.underlying k=some .string∧T.ty e=some v∧v.flat=true∧v.Ab=false
 off: ∀s f o t,T.off s f=some (o,t)→ ∃(fs:Array Field) (fd:Field),P.underlying s=some (.struct fs)∧fs[f]?=some fd∧fd.offset=o∧fd.type=t∧ ∃i:TypeInfo,P.info? t=some i∧i.size≠0
section
variable {P:Program} {T:Tab} {X:Ctx} {w w':World} {π:Pi} {H:List (Nat×OB)}
theorem Il {t:TypeId} {d:TypeDesc} (h:P.underlying t=some d):(isAgg t).run P w= .ok (match d with| .struct _| .array _ _=>true|_=>false) w:=by
 unfold isAgg
 rw [Sem.run_bind,run_underlying h]
 cases d<;>rfl
theorem Agr.agg {t:TypeId} {τ:Ty} (h:Agr P T t τ):(isAgg t).run P w= .ok τ.Ab w:=by
 have hd:=h.desc
 cases τ<;>simp only at hd
 case int k=>rw [Il hd];rfl
 case bool=>rw [Il hd];rfl
 case str=>rw [Il hd];rfl
 case slice e=>obtain ⟨te,hd,_⟩:=hd;rw [Il hd];rfl
 case ptr e=>obtain ⟨te,hd⟩:=hd;rw [Il hd];rfl
 case oslice e=>obtain ⟨te,hd,_⟩:=hd;rw [Il hd];rfl
 case optr e=>obtain ⟨te,hd⟩:=hd;rw [Il hd];rfl
 case smap e=>obtain ⟨k,te,hd⟩:=hd;rw [Il hd];rfl
 case unit=>obtain ⟨te,hd⟩:=hd;rw [Il hd];rfl
 case pair e r=>obtain ⟨te,hd⟩:=hd;rw [Il hd];rfl
theorem Agr.size {t:TypeId} {τ:Ty} (h:Agr P T t τ):(sizeOf t).run P w= .ok τ.size w:=by
 obtain ⟨i,hi,hs,_⟩:=h.info
 simp [sizeOf,typeInfo,hi,hs]
theorem Ax.Kf {S:Nat→Prop} {τ:Ty} {v:Value} {x:τ.den} (hτ:τ.Ab=false) (h:Ax w S τ v x):Cells w S τ [v] x:=by
 obtain ⟨cs,hc,rfl⟩:=h
 have hl:=Cells.len τ cs x hc
 have h1:τ.size=1:=by cases τ<;>simp_all [Ty.Ab,Ty.size]
 rw [h1] at hl
 obtain ⟨c,rfl⟩:=List.length_eq_one_iff.1 hl
 simpa [Al,hτ] using hc
theorem Ax.Adm {S:Nat→Prop} {τ:Ty} {v:Value} {x:τ.den} (hτ:τ.Ab=false) (h:Cells w S τ [v] x):Ax w S τ v x:=
 ⟨[v],h,by simp [Al,hτ]⟩
def Iq (X:Ctx) (S:Nat→Prop) (fr:Bool):Prop:=(∀k,S k→k<X.w0.heap.size∧ ¬X.gv k)∧(fr=true∨ ∀k,S k→X.Sc k)
theorem Iq.Xe {S:Nat→Prop} {fr:Bool} (h:Iq X S fr) (k:Nat) (hk:S k):Aw X.w0.heap.size X.Sc π fr k:=by
 rcases h.2 with h2|h2
 ·exact .inr (.inr ⟨h2,(h.1 k hk).1⟩)
 ·exact .inr (.inl (h2 k hk))
theorem Iq.and_left {S:Nat→Prop} {f1 f2:Bool} (h:Iq X S (f1&&f2)):Iq X S f1:=
 ⟨h.1,h.2.imp (fun h=>by simp at h;exact h.1) id⟩
theorem Iq.and_right {S:Nat→Prop} {f1 f2:Bool} (h:Iq X S (f1&&f2)):Iq X S f2:=
 ⟨h.1,h.2.imp (fun h=>by simp at h;exact h.2) id⟩
theorem Rep.apart {S:Nat→Prop} {fr:Bool} {τ:Ty} {cs:List Value} {x:τ.den} (hS:Iq X S (fr||τ.flat)) (h:Cells w (Aw X.w0.heap.size X.Sc π fr) τ cs x):Cells w S τ cs x:=by
 cases hf:τ.flat with
 |true=>exact Cells.flat τ cs x hf h
 |false=>
  rw [hf,Bool.or_false] at hS
  exact Cells.Ce (Nat.le_refl _) (fun _ _ _=>rfl) (fun k _ hk=>hS.Xe k hk) τ cs x h
theorem Iq.own {S:Nat→Prop} {fr:Bool} (hS:Iq X S fr) (h:Ga X w π H) {k:Nat} (hk:S k): ¬Own π k:=fun ho=>by
 have h1:=hS.1 k hk
 rcases (h.own ho).2 with h2|h2
 ·omega
 ·exact h1.2 h2
theorem Iq.mono {S:Nat→Prop} {f1 f2:Bool} (h:Iq X S f1) (hf:f1=true→f2=true):Iq X S f2:=⟨h.1,h.2.imp hf id⟩
theorem Gm (st:St) (τ:Ty) (fr:Bool) (τ':Ty) (x:τ'.den):Bf st τ (.data fr τ' x)=if h:τ'=τ then some (fr||τ.flat,h▸x) else Xp fr τ τ' x:=by
 cases τ<;>rfl
theorem Rz (st:St) (τ:Ty) (fr:Bool) (τ':Ty) (x:τ'.den):Cf st τ (.at (.data fr τ' x))=if h:τ'=τ then some (fr||τ.flat,h▸x) else if τ.Ab then none else Ee st τ (.data fr τ' x):=rfl
theorem Apk (st:St) (τ:Ty) (fr:Bool) (τ':Ty) (x:τ'.den):Ee st τ (.data fr τ' x)=Bf st τ (.data fr τ' x):=by
 cases τ<;>rfl
theorem Ax0 {S:Nat→Prop} {fr:Bool} {τ τ':Ty} {x:τ'.den} {f:Bool} {y:τ.den} {v:Value} (h:Xp fr τ τ' x=some (f,y)) (hc:Ax w (Aw X.w0.heap.size X.Sc π fr) τ' v x) (hS:Iq X S f):
  τ.Ab=false∧f=fr∧Cells w S τ [v] y:=by
 unfold Xp at h
 split at h
 ·split at h
  ·rename_i e e' _ hee
   subst hee
   simp only [Option.some.injEq,Prod.mk.injEq] at h
   obtain ⟨rfl,rfl⟩:=h
   refine ⟨rfl,rfl,?_⟩
   have h1:=Rep.apart (S:=S) (τ:= .oslice e') ⟨hS.1,hS.2.imp (fun h=>by rw [h];rfl) id⟩ (Ax.Kf rfl hc)
   simp only [Cells] at h1⊢
   rcases h1 with ⟨rfl,c,h1⟩|⟨xs,ad,len,cap,rfl,h1,h2,h3,h4⟩
   ·exact ⟨none,0,c,h1,rfl,Nat.zero_le _, .inl rfl⟩
   ·exact ⟨_,len,cap,h1,h2,h3,h4.imp id fun ⟨g,o,ha,h4⟩=>⟨g,o,by rw [ha],h4⟩⟩
  ·cases h
 ·split at h
  ·rename_i a a' _ haa
   subst haa
   simp only [Option.some.injEq,Prod.mk.injEq] at h
   obtain ⟨rfl,rfl⟩:=h
   refine ⟨rfl,rfl,?_⟩
   have h1:=Rep.apart (S:=S) (τ:= .ptr a') ⟨hS.1,hS.2.imp (fun h=>by rw [h];rfl) id⟩ (Ax.Kf rfl hc)
   simp only [Cells] at h1⊢
   obtain ⟨g,o,h2⟩:=h1
   exact .inr ⟨_,g,o,rfl,h2⟩
  ·cases h
 ·cases h
theorem Ak4 {st:St} (h:Ga X w π st.heap) {S:Nat→Prop} (τ:Ty) (c:AC) (v:Value) (fr:Bool) (x:τ.den) (hτ:τ.Ab=false) (hc:Cy X w π st.heap c v)
  (hv:Bf st τ c=some (fr,x)) (hS:Iq X S fr):Cells w S τ [v] x:=by
 cases c with
 |data fr' τ' y=>
  rw [Gm] at hv
  split at hv
  ·rename_i ht;subst ht
   simp only [Option.some.injEq,Prod.mk.injEq] at hv
   obtain ⟨rfl,rfl⟩:=hv
   exact Rep.apart hS (Ax.Kf hτ hc)
  ·exact (Ax0 hv hc hS).2.2
 |nilv=>
  cases τ with
  |slice e=>
   simp only [Bf,Option.some.injEq,Prod.mk.injEq] at hv
   obtain ⟨_,rfl⟩:=hv
   exact ⟨none,0,0,by rw [show v=_ from hc],rfl,Nat.le_refl _, .inl rfl⟩
  |oslice e=>
   simp only [Bf,Option.some.injEq,Prod.mk.injEq] at hv
   obtain ⟨_,rfl⟩:=hv
   exact .inl ⟨rfl,0,by rw [show v=_ from hc]⟩
  |_=>simp [Bf] at hv
 |nilp=>
  cases τ with
  |optr e=>
   simp only [Bf,Option.some.injEq,Prod.mk.injEq] at hv
   obtain ⟨_,rfl⟩:=hv
   exact .inl ⟨rfl,by rw [show v=_ from hc]⟩
  |_=>simp [Bf] at hv
 |own l off len=>
  cases τ with
  |slice e=>
   simp only [Bf] at hv
   split at hv
   ·rename_i fr' tr' e' tid xs hl
    split at hv
    ·rename_i he;subst he
     simp only [Option.some.injEq,Prod.mk.injEq] at hv
     obtain ⟨rfl,rfl⟩:=hv
     obtain ⟨h2,h3⟩:=Ha hc hl
     exact Af4 h hl h2 h3 (fun k hk ⟨r,hr,hrk⟩=>hS.own h hk ⟨l,r,hr,hrk⟩) (fun k _ hk=>hS.Xe k hk)
    ·cases hv
   ·rename_i e' tid xs hl
    split at hv
    ·rename_i he;subst he
     simp only [Option.some.injEq,Prod.mk.injEq] at hv
     obtain ⟨rfl,rfl⟩:=hv
     obtain ⟨h2,h3⟩:=Qs hc hl
     exact Acd h hl h2 h3 (fun k hk ⟨r,hr,hrk⟩=>hS.own h hk ⟨l,r,hr,hrk⟩)
    ·cases hv
   ·rename_i e' tid rows kp hl
    split at hv
    ·rename_i he;subst he
     simp only [Option.some.injEq,Prod.mk.injEq] at hv
     obtain ⟨rfl,rfl⟩:=hv
     obtain ⟨h2,h3⟩:=Adv hc hl
     exact Aib h hl h2 h3 (fun k hk ⟨r,hr,hrk⟩=>hS.own h hk ⟨l,r,hr,hrk⟩) (fun k hk=>hS.Xe k hk)
    ·cases hv
   ·cases hv
  |_=>simp [Bf] at hv
 |sub l i c=>
  cases τ with
  |slice e=>
   simp only [Bf] at hv
   split at hv
   ·rename_i e' tid rows kp hl
    split at hv
    ·rename_i he;subst he
     simp only [Option.some.injEq,Prod.mk.injEq] at hv
     obtain ⟨rfl,rfl⟩:=hv
     exact Aic h hl (Aqz hc hl) hc (fun k hk ⟨r,hr,hrk⟩=>hS.own h hk ⟨l,r,hr,hrk⟩) (fun k hk=>hS.Xe k hk)
    ·cases hv
   ·cases hv
  |_=>simp [Bf] at hv
 |mapr l=>
  cases τ with
  |smap vt=>
   simp only [Bf] at hv
   split at hv
   ·rename_i v' m hl
    split at hv
    ·rename_i he;subst he
     simp only [Option.some.injEq,Prod.mk.injEq] at hv
     obtain ⟨_,rfl⟩:=hv
     obtain ⟨r,vt,m',h1,h2,rfl⟩:=hc
     exact Amy ((h.heap l).blk hl) (by rw [h2];rfl) fun hs=>hS.own h hs ⟨l,r,h2,h.Ar h2⟩
    ·cases hv
   ·cases hv
  |_=>simp [Bf] at hv
 |_=>cases τ<;>simp [Bf] at hv
theorem Kh {st:St} {τ:Ty} (hτ:τ.Ab=false) (cs:List AC):Cc st τ cs=match cs with| [c]=>Bf st τ c|_=>none:=by
 cases τ<;>simp [Ty.Ab] at hτ<;>rcases cs with _|⟨c,_|⟨d,r⟩⟩<;>rfl
theorem Ab4 {st:St} (h:Ga X w π st.heap) {S:Nat→Prop} : ∀(τ:Ty) (cs:List AC) (us:List Value) (fr:Bool) (x:τ.den),Ci X w π st.heap cs us→
  Cc st τ cs=some (fr,x)→Iq X S fr→Cells w S τ us x:=by
 have one: ∀(τ:Ty) (cs:List AC) (us:List Value) (fr:Bool) (x:τ.den),τ.Ab=false→Ci X w π st.heap cs us→
   Cc st τ cs=some (fr,x)→Iq X S fr→Cells w S τ us x:=by
  intro τ cs us fr x hτ hr hv hS
  rw [Kh hτ] at hv
  split at hv
  ·rename_i c
   obtain ⟨u,hu,_,hc⟩:=hr.2 0 c rfl
   have hl:us.length=1:=hr.1
   obtain ⟨u',rfl⟩:=List.length_eq_one_iff.1 hl
   simp at hu;subst hu
   exact Ak4 h τ c _ fr x hτ hc hv hS
  ·cases hv
 intro τ
 induction τ with
 |unit=>
  intro cs us fr x hr hv hS
  cases cs with
  |nil=>have:us= []:=List.eq_nil_of_length_eq_zero hr.1;exact this
  |cons c cs=>simp [Cc] at hv
 |pair a r iha ihr=>
  intro cs us fr x hr hv hS
  simp only [Cc] at hv
  split at hv
  ·rename_i f1 y f2 z h1 h2
   simp only [Option.some.injEq,Prod.mk.injEq] at hv
   obtain ⟨rfl,rfl⟩:=hv
   have hr1:Ci X w π st.heap (cs.take a.size) (us.take a.size):=
    ⟨by simp [hr.1],fun i c hc=>by
     rw [List.getElem?_take] at hc⊢
     split at hc
     ·rename_i hi;simp only [hi,if_true];exact hr.2 i c hc
     ·cases hc⟩
   have hr2:Ci X w π st.heap (cs.drop a.size) (us.drop a.size):=
    ⟨by simp [hr.1],fun i c hc=>by
     rw [List.getElem?_drop] at hc⊢
     exact hr.2 _ c hc⟩
   exact ⟨us.take a.size,us.drop a.size,(List.take_append_drop _ _).symm,iha _ _ _ _ hr1 h1 hS.and_left,ihr _ _ _ _ hr2 h2 hS.and_right⟩
  ·cases hv
 |_=>exact fun cs us fr x hr hv hS=>one _ cs us fr x rfl hr hv hS
theorem Nx {cs:List AC} {us:List Value} (h:Ci X w π H cs us) (i n:Nat):Ci X w π H ((cs.drop i).take n) ((us.drop i).take n):=
 ⟨by simp [h.1],fun j c hc=>by
  rw [List.getElem?_take] at hc⊢
  split at hc
  ·rename_i hi
   simp only [hi,if_true]
   rw [List.getElem?_drop] at hc⊢
   exact h.2 _ c hc
  ·cases hc⟩
theorem Zl {st:St} (h:Ga X w π st.heap) {S:Nat→Prop} {a:Ty} {l i:Nat} {fr:Bool} {x:a.den} (hv:Kn st a l i=some (fr,x)) (hS:Iq X S fr) {r:Real} (hr:π l=some r):
  r.g<w.heap.size∧ ¬S r.g∧ ∃es:List Value,es.length=a.size∧(∀j u,es[j]?=some u→w.cell? ⟨r.g,i+j,none⟩=some u)∧Cells w S a es x:=by
 unfold Kn at hv
 split at hv
 ·rename_i tid vs hl
  obtain ⟨r',h3,h4,cur,h5,h6⟩:=(h.heap l).blk hl
  rw [hr] at h3;cases h3
  have hc:=Ab4 h a _ _ fr x (Nx h6 i a.size) hv hS
  refine ⟨Ck h5,fun hs=>hS.own h hs ⟨l,r,hr,h4⟩,_,Cells.len a _ x hc,fun j u hu=>?_,hc⟩
  rw [cellOf h5]
  rw [List.getElem?_take] at hu
  split at hu
  ·rw [List.getElem?_drop] at hu;simpa using hu
  ·cases hu
 ·cases hv
theorem Apj {st:St} (h:Ga X w π st.heap) {S:Nat→Prop} : ∀(τ:Ty) (caps:List (Nat×Nat)) (us:List Value) (fr:Bool) (x:τ.den),us.length=caps.length→
  (∀(j:Nat) p,caps[j]?=some p→ ∃r tid vs,Ac st.heap p.1=some (.var tid vs)∧π p.1=some r∧us[j]?=some (.pointer (some ⟨r.g,p.2,none⟩)))→
  Ev st τ caps=some (fr,x)→Iq X S fr→Cells w S τ us x:=by
 intro τ
 induction τ with
 |unit=>
  intro caps us fr x hl hr hv hS
  cases caps with
  |nil=>exact List.eq_nil_of_length_eq_zero hl
  |cons c cs=>simp [Ev] at hv
 |pair a r _ ihr=>
  intro caps us fr x hl hr hv hS
  cases a with
  |ptr a=>
   cases caps with
   |nil=>simp [Ev] at hv
   |cons c cs=>
    obtain ⟨l,i⟩:=c
    simp only [Ev] at hv
    split at hv
    ·rename_i f1 y f2 z h1 h2
     simp only [Option.some.injEq,Prod.mk.injEq] at hv
     obtain ⟨rfl,rfl⟩:=hv
     cases us with
     |nil=>simp at hl
     |cons u us=>
      obtain ⟨r0,tid,vs,h3,h4,h5⟩:=hr 0 (l,i) rfl
      simp only [List.getElem?_cons_zero,Option.some.injEq] at h5
      subst h5
      obtain ⟨h6,h7,es,h8,h9,h10⟩:=Zl h h1 hS.and_left h4
      exact ⟨[_],us,rfl,⟨r0.g,i,rfl,h6,h7,es,h8,h9,h10⟩,ihr cs us f2 z (by simpa using hl) (fun j p hp=>hr (j+1) p hp) h2 hS.and_right⟩
    ·cases hv
  |_=>cases caps<;>simp [Ev] at hv
 |_=>intro caps us fr x hl hr hv;cases caps<;>simp [Ev] at hv
theorem At2 {st:St} (h:Ga X w π st.heap) {S:Nat→Prop} (τ:Ty) (c:AC) (v:Value) (fr:Bool) (x:τ.den) (hτ:τ.Ab=false) (hc:Cy X w π st.heap c v)
  (hv:Ee st τ c=some (fr,x)) (hS:Iq X S fr):Cells w S τ [v] x:=by
 have hother:Bf st τ c=some (fr,x)→Cells w S τ [v] x:=fun hv=>Ak4 h τ c v fr x hτ hc hv hS
 cases τ with
 |ptr a=>
  cases c with
  |vptr l i=>
   obtain ⟨r,tid,vs,h1,h2,rfl⟩:=hc
   obtain ⟨h6,h7,h8⟩:=Zl h hv hS h2
   exact ⟨r.g,i,rfl,h6,h7,h8⟩
  |_=>exact hother hv
 |optr a=>
  cases c with
  |vptr l i=>
   obtain ⟨r,tid,vs,h1,h2,rfl⟩:=hc
   simp only [Ee] at hv
   cases hp:Kn st a l i with
   |none=>rw [hp] at hv;cases hv
   |some p=>
    rw [hp] at hv
    simp only [Option.map_some,Option.some.injEq,Prod.mk.injEq] at hv
    obtain ⟨rfl,rfl⟩:=hv
    obtain ⟨h6,h7,h8⟩:=Zl h hp hS h2
    exact .inr ⟨_,r.g,i,rfl,rfl,h6,h7,h8⟩
  |_=>exact hother hv
 |clo f a=>
  cases c with
  |clo g caps=>
   simp only [Ee] at hv
   split at hv
   ·rename_i hg;subst hg
    obtain ⟨us,rfl,h2,h3⟩:=hc
    exact ⟨us,rfl,Apj h a caps us fr x h2 h3 hv hS⟩
   ·cases hv
  |_=>exact hother hv
 |_=>exact hother hv
theorem Mw {st:St} (h:Ga X w π st.heap) {S:Nat→Prop} (τ:Ty) (c:AV) (v:Value) (fr:Bool) (x:τ.den) (hc:Ai X w π st.heap c v)
  (hv:Cf st τ c=some (fr,x)) (hS:Iq X S fr):Ax w S τ v x:=by
 have hother: ∀c:AC,Cy X w π st.heap c v→(if τ.Ab then none else Ee st τ c)=some (fr,x)→Ax w S τ v x:=by
  intro c hc hv
  split at hv
  ·cases hv
  ·rename_i hτ
   simp only [Bool.not_eq_true] at hτ
   exact Ax.Adm hτ (At2 h τ c v fr x hτ hc hv hS)
 cases c with
 | «at»c=>
  cases c with
  |data fr' τ' y=>
   rw [Rz] at hv
   split at hv
   ·rename_i ht;subst ht
    simp only [Option.some.injEq,Prod.mk.injEq] at hv
    obtain ⟨rfl,rfl⟩:=hv
    obtain ⟨cs,h1,h2⟩:=hc
    exact ⟨cs,Rep.apart hS h1,h2⟩
   ·exact hother (.data fr' τ' y) hc hv
  |undef=>exact hother .undef hc hv
  |skip=>exact hother .skip hc hv
  |nilv=>exact hother .nilv hc hv
  |nilp=>exact hother .nilp hc hv
  |own l off len=>exact hother (.own l off len) hc hv
  |vptr l i=>exact hother (.vptr l i) hc hv
  |eptr l i=>exact hother (.eptr l i) hc hv
  |clo f caps=>exact hother (.clo f caps) hc hv
  |mapr l=>exact hother (.mapr l) hc hv
  |sub l i c=>exact hother (.sub l i c) hc hv
  |sptr l i c=>exact hother (.sptr l i c) hc hv
 |agg cs=>
  simp only [Cf] at hv
  split at hv
  ·rename_i hτ
   obtain ⟨us,rfl,hr⟩:=hc
   exact ⟨us,Ab4 h τ cs us fr x hr hv hS,by simp [Al,hτ]⟩
  ·cases hv
 |tup fr' τ' y=>simp [Cf] at hv
 |tupc l=>simp [Cf] at hv
theorem Ph {st:St} (h:Ga X w π st.heap) {S:Nat→Prop} : ∀(τ:Ty) (cs:List AV) (vs:List Value) (fr:Bool) (x:τ.den),cs.length=vs.length→
  (∀(i:Nat) c v,cs[i]?=some c→vs[i]?=some v→Ai X w π st.heap c v)→Bi st τ cs=some (fr,x)→Iq X S fr→Aq w S τ vs x
 | .unit,[],vs,fr,x,hl,hr,hv,hS=>by
  have:vs= []:=List.eq_nil_of_length_eq_zero hl.symm
  subst this;trivial
 | .unit,_::_,vs,fr,x,hl,hr,hv,hS=>by simp [Bi] at hv
 | .pair a r,[],vs,fr,x,hl,hr,hv,hS=>by simp [Bi] at hv
 | .pair a r,c::cs,[],fr,x,hl,hr,hv,hS=>by simp at hl
 | .pair a r,c::cs,v::vs,fr,x,hl,hr,hv,hS=>by
  simp only [Bi] at hv
  split at hv
  ·rename_i f1 y f2 z h1 h2
   simp only [Option.some.injEq,Prod.mk.injEq] at hv
   obtain ⟨rfl,rfl⟩:=hv
   exact ⟨Mw h a c v f1 y (hr 0 c v rfl rfl) h1 hS.and_left,Ph h r cs vs f2 z (by simpa using hl) (fun i c' v' hc hv'=>hr (i+1) c' v' hc hv') h2 hS.and_right⟩
  ·cases hv
 | .int _,cs,vs,fr,x,hl,hr,hv,hS=>by cases cs<;>simp [Bi] at hv
 | .bool,cs,vs,fr,x,hl,hr,hv,hS=>by cases cs<;>simp [Bi] at hv
 | .str,cs,vs,fr,x,hl,hr,hv,hS=>by cases cs<;>simp [Bi] at hv
 | .slice _,cs,vs,fr,x,hl,hr,hv,hS=>by cases cs<;>simp [Bi] at hv
 | .ptr _,cs,vs,fr,x,hl,hr,hv,hS=>by cases cs<;>simp [Bi] at hv
 | .oslice _,cs,vs,fr,x,hl,hr,hv,hS=>by cases cs<;>simp [Bi] at hv
 | .optr _,cs,vs,fr,x,hl,hr,hv,hS=>by cases cs<;>simp [Bi] at hv
 | .smap _,cs,vs,fr,x,hl,hr,hv,hS=>by cases cs<;>simp [Bi] at hv
 | .clo _ _,cs,vs,fr,x,hl,hr,hv,hS=>by cases cs<;>simp [Bi] at hv
end
end Go.Proofs.Ytebabhocakedaaa
