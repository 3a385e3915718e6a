/-
  Part 6 of the proof that the statement FnExactIsMethodSolution holds.
-/
import Derived.Test.YtebabhocakedaaaCIsMethodSolution04
import Derived.WalkKit
import Derived.Laws.Slices
namespace Go.Proofs.Ytebabhocakedaaa
open Go.RowKit
def Ak:Ty→List Value
 | .int k=> [.int k 0]
 | .bool=> [.bool false]
 | .str=> [.string ByteArray.empty]
 | .slice _=> [.slice none 0 0]
 | .oslice _=> [.slice none 0 0]
 | .ptr _=> [.pointer none]
 | .optr _=> [.pointer none]
 | .smap _=> [.map none]
 | .clo _ _=> [.nilFunc]
 | .unit=> []
 | .pair a r=>Ak a++Ak r
structure Ahh (P:Program) (T:Tab) (t:TypeId) (τ:Ty):Prop where
 info: ∃i:TypeInfo,P.info? t=some i∧i.size=τ.size∧i.bytes≤256∧i.zero=some (Ap τ (Ak τ))
 desc:match τ with
  | .int k=>P.underlying t=some (.int k)
  | .bool=>P.underlying t=some .bool
  | .str=>P.underlying t=some .string
  | .slice e=> ∃te,P.underlying t=some (.slice te)∧T.elem t=some te∧T.ty te=some e
  | .oslice e=> ∃te,P.underlying t=some (.slice te)∧T.elem t=some te∧T.ty te=some e
  | .ptr _=> ∃u,P.underlying t=some (.pointer u)
  | .optr _=> ∃u,P.underlying t=some (.pointer u)
  | .smap _=> ∃k e,P.underlying t=some (.map k e)
  | .clo _ _=>False
  | .unit| .pair _ _=> ∃fs,P.underlying t=some (.struct fs)
def placesOf (fs:Array Field):Sem (Array (Nat×Nat)):=fs.mapM fun f=>do pure (f.offset,←sizeOf f.type)
structure Bt (P:Program) (T:Tab):Prop where
 fill: ∀t τ,T.ty t=some τ→τ.Ab=true→ ∃(fs:Array Field) (places:Array (Nat×Nat)),P.underlying t=some (.struct fs)∧(∀w,(placesOf fs).run P w= .ok places w)∧
  ∀f o u ρ,T.off t f=some (o,u)→T.ty u=some ρ→places[f]?=some (o,ρ.size)
 ty: ∀t τ,T.ty t=some τ→Ahh P T t τ
 elem: ∀t te,T.elem t=some te→P.underlying t=some (.slice te)
 mapOf: ∀t v,T.mapOf t=some v→ ∃k e,P.underlying t=some (.map k e)∧P.underlying k=some .string∧T.ty e=some v∧v.flat=true∧v.Ab=false
 off: ∀s f o t,T.off s f=some (o,t)→ ∃(fs:Array Field) (fd:Field),P.underlying s=some (.struct fs)∧fs[f]?=some fd∧fd.offset=o∧fd.type=t∧ ∃i:TypeInfo,P.info? t=some i∧i.size≠0
section
variable {P:Program} {T:Tab} {X:Ctx} {w w':World} {π:Pi} {H:List (Nat×OB)}
theorem Jd {t:TypeId} {d:TypeDesc} (h:P.underlying t=some d):(isAgg t).run P w= .ok (match d with| .struct _| .array _ _=>true|_=>false) w:=by
 unfold isAgg
 rw [Sem.run_bind,run_underlying h]
 cases d<;>rfl
theorem Ahh.agg {t:TypeId} {τ:Ty} (h:Ahh P T t τ):(isAgg t).run P w= .ok τ.Ab w:=by
 have hd:=h.desc
 cases τ<;>simp only at hd
 case int k=>rw [Jd hd];rfl
 case bool=>rw [Jd hd];rfl
 case str=>rw [Jd hd];rfl
 case slice e=>obtain ⟨te,hd,_⟩:=hd;rw [Jd hd];rfl
 case ptr e=>obtain ⟨te,hd⟩:=hd;rw [Jd hd];rfl
 case oslice e=>obtain ⟨te,hd,_⟩:=hd;rw [Jd hd];rfl
 case optr e=>obtain ⟨te,hd⟩:=hd;rw [Jd hd];rfl
 case smap e=>obtain ⟨k,te,hd⟩:=hd;rw [Jd hd];rfl
 case unit=>obtain ⟨te,hd⟩:=hd;rw [Jd hd];rfl
 case pair e r=>obtain ⟨te,hd⟩:=hd;rw [Jd hd];rfl
theorem Ahh.size {t:TypeId} {τ:Ty} (h:Ahh P T t τ):(sizeOf t).run P w= .ok τ.size w:=by
 obtain ⟨i,hi,hs,_⟩:=h.info
 simp [sizeOf,typeInfo,hi,hs]
theorem Bc.Kv {S:Nat→Prop} {τ:Ty} {v:Value} {x:τ.den} (hτ:τ.Ab=false) (h:Bc w S τ v x):Cells w S τ [v] x:=by
 obtain ⟨cs,hc,rfl⟩:=h
 have hl:=Cells.len τ cs x hc
 have h1:τ.size=1:=by cases τ<;>simp_all [Ty.Ab,Ty.size]
 rw [h1] at hl
 obtain ⟨c,rfl⟩:=List.length_eq_one_iff.1 hl
 simpa [Ap,hτ] using hc
theorem Bc.Aea {S:Nat→Prop} {τ:Ty} {v:Value} {x:τ.den} (hτ:τ.Ab=false) (h:Cells w S τ [v] x):Bc w S τ v x:=
 ⟨[v],h,by simp [Ap,hτ]⟩
def Jh (X:Ctx) (S:Nat→Prop) (fr:Bool):Prop:=(∀k,S k→k<X.w0.heap.size∧ ¬X.gv k)∧(fr=true∨ ∀k,S k→X.Sc k)
theorem Jh.Xv {S:Nat→Prop} {fr:Bool} (h:Jh X S fr) (k:Nat) (hk:S k):Bb X.w0.heap.size X.Sc π fr k:=by
 rcases h.2 with h2|h2
 ·exact .inr (.inr ⟨h2,(h.1 k hk).1⟩)
 ·exact .inr (.inl (h2 k hk))
theorem Jh.and_left {S:Nat→Prop} {f1 f2:Bool} (h:Jh X S (f1&&f2)):Jh X S f1:=
 ⟨h.1,h.2.imp (fun h=>by simp at h;exact h.1) id⟩
theorem Jh.and_right {S:Nat→Prop} {f1 f2:Bool} (h:Jh X S (f1&&f2)):Jh X S f2:=
 ⟨h.1,h.2.imp (fun h=>by simp at h;exact h.2) id⟩
theorem Rep.apart {S:Nat→Prop} {fr:Bool} {τ:Ty} {cs:List Value} {x:τ.den} (hS:Jh X S (fr||τ.flat)) (h:Cells w (Bb X.w0.heap.size X.Sc π fr) τ cs x):Cells w S τ cs x:=by
 cases hf:τ.flat with
 |true=>exact Cells.flat τ cs x hf h
 |false=>
  rw [hf,Bool.or_false] at hS
  exact Cells.Ch (Nat.le_refl _) (fun _ _ _=>rfl) (fun k _ hk=>hS.Xv k hk) τ cs x h
theorem Jh.own {S:Nat→Prop} {fr:Bool} (hS:Jh X S fr) (h:Gj X w π H) {k:Nat} (hk:S k): ¬Own π k:=fun ho=>by
 have h1:=hS.1 k hk
 rcases (h.own ho).2 with h2|h2
 ·omega
 ·exact h1.2 h2
theorem Jh.mono {S:Nat→Prop} {f1 f2:Bool} (h:Jh X S f1) (hf:f1=true→f2=true):Jh X S f2:=⟨h.1,h.2.imp hf id⟩
theorem He (st:St) (τ:Ty) (fr:Bool) (τ':Ty) (x:τ'.den):Bj st τ (.data fr τ' x)=if h:τ'=τ then some (fr||τ.flat,h▸x) else Yh fr τ τ' x:=by
 cases τ<;>rfl
theorem Su (st:St) (τ:Ty) (fr:Bool) (τ':Ty) (x:τ'.den):Ci st τ (.at (.data fr τ' x))=if h:τ'=τ then some (fr||τ.flat,h▸x) else if τ.Ab then none else Ek st τ (.data fr τ' x):=rfl
theorem Aqt (st:St) (τ:Ty) (fr:Bool) (τ':Ty) (x:τ'.den):Ek st τ (.data fr τ' x)=Bj st τ (.data fr τ' x):=by
 cases τ<;>rfl
theorem Ayo {S:Nat→Prop} {fr:Bool} {τ τ':Ty} {x:τ'.den} {f:Bool} {y:τ.den} {v:Value} (h:Yh fr τ τ' x=some (f,y)) (hc:Bc w (Bb X.w0.heap.size X.Sc π fr) τ' v x) (hS:Jh X S f):
  τ.Ab=false∧f=fr∧Cells w S τ [v] y:=by
 unfold Yh at h
 split at h
 ·split at h
  ·rename_i e e' _ hee
   subst hee
   simp only [Option.some.injEq,Prod.mk.injEq] at h
   obtain ⟨rfl,rfl⟩:=h
   refine ⟨rfl,rfl,?_⟩
   have h1:=Rep.apart (S:=S) (τ:= .oslice e') ⟨hS.1,hS.2.imp (fun h=>by rw [h];rfl) id⟩ (Bc.Kv rfl hc)
   simp only [Cells] at h1⊢
   rcases h1 with ⟨rfl,c,h1⟩|⟨xs,ad,len,cap,rfl,h1,h2,h3,h4⟩
   ·exact ⟨none,0,c,h1,rfl,Nat.zero_le _, .inl rfl⟩
   ·exact ⟨_,len,cap,h1,h2,h3,h4.imp id fun ⟨g,o,ha,h4⟩=>⟨g,o,by rw [ha],h4⟩⟩
  ·cases h
 ·split at h
  ·rename_i a a' _ haa
   subst haa
   simp only [Option.some.injEq,Prod.mk.injEq] at h
   obtain ⟨rfl,rfl⟩:=h
   refine ⟨rfl,rfl,?_⟩
   have h1:=Rep.apart (S:=S) (τ:= .ptr a') ⟨hS.1,hS.2.imp (fun h=>by rw [h];rfl) id⟩ (Bc.Kv rfl hc)
   simp only [Cells] at h1⊢
   obtain ⟨g,o,h2⟩:=h1
   exact .inr ⟨_,g,o,rfl,h2⟩
  ·cases h
 ·cases h
theorem Aky {st:St} (h:Gj X w π st.heap) {S:Nat→Prop} (τ:Ty) (c:AC) (v:Value) (fr:Bool) (x:τ.den) (hτ:τ.Ab=false) (hc:Df X w π st.heap c v)
  (hv:Bj st τ c=some (fr,x)) (hS:Jh X S fr):Cells w S τ [v] x:=by
 cases c with
 |data fr' τ' y=>
  rw [He] at hv
  split at hv
  ·rename_i ht;subst ht
   simp only [Option.some.injEq,Prod.mk.injEq] at hv
   obtain ⟨rfl,rfl⟩:=hv
   exact Rep.apart hS (Bc.Kv hτ hc)
  ·exact (Ayo hv hc hS).2.2
 |nilv=>
  cases τ with
  |slice e=>
   simp only [Bj,Option.some.injEq,Prod.mk.injEq] at hv
   obtain ⟨_,rfl⟩:=hv
   exact ⟨none,0,0,by rw [show v=_ from hc],rfl,Nat.le_refl _, .inl rfl⟩
  |oslice e=>
   simp only [Bj,Option.some.injEq,Prod.mk.injEq] at hv
   obtain ⟨_,rfl⟩:=hv
   exact .inl ⟨rfl,0,by rw [show v=_ from hc]⟩
  |_=>simp [Bj] at hv
 |nilp=>
  cases τ with
  |optr e=>
   simp only [Bj,Option.some.injEq,Prod.mk.injEq] at hv
   obtain ⟨_,rfl⟩:=hv
   exact .inl ⟨rfl,by rw [show v=_ from hc]⟩
  |_=>simp [Bj] at hv
 |own l off len=>
  cases τ with
  |slice e=>
   simp only [Bj] at hv
   split at hv
   ·rename_i fr' tr' e' tid xs hl
    split at hv
    ·rename_i he;subst he
     simp only [Option.some.injEq,Prod.mk.injEq] at hv
     obtain ⟨rfl,rfl⟩:=hv
     obtain ⟨h2,h3⟩:=Ht hc hl
     exact Afu h hl h2 h3 (fun k hk ⟨r,hr,hrk⟩=>hS.own h hk ⟨l,r,hr,hrk⟩) (fun k _ hk=>hS.Xv k hk)
    ·cases hv
   ·rename_i e' tid xs hl
    split at hv
    ·rename_i he;subst he
     simp only [Option.some.injEq,Prod.mk.injEq] at hv
     obtain ⟨rfl,rfl⟩:=hv
     obtain ⟨h2,h3⟩:=Ro hc hl
     exact Ad3 h hl h2 h3 (fun k hk ⟨r,hr,hrk⟩=>hS.own h hk ⟨l,r,hr,hrk⟩)
    ·cases hv
   ·rename_i e' tid rows kp hl
    split at hv
    ·rename_i he;subst he
     simp only [Option.some.injEq,Prod.mk.injEq] at hv
     obtain ⟨rfl,rfl⟩:=hv
     obtain ⟨h2,h3⟩:=Aeh hc hl
     exact Aj2 h hl h2 h3 (fun k hk ⟨r,hr,hrk⟩=>hS.own h hk ⟨l,r,hr,hrk⟩) (fun k hk=>hS.Xv k hk)
    ·cases hv
   ·cases hv
  |_=>simp [Bj] at hv
 |sub l i c=>
  cases τ with
  |slice e=>
   simp only [Bj] at hv
   split at hv
   ·rename_i e' tid rows kp hl
    split at hv
    ·rename_i he;subst he
     simp only [Option.some.injEq,Prod.mk.injEq] at hv
     obtain ⟨rfl,rfl⟩:=hv
     exact Aj3 h hl (Asb hc hl) hc (fun k hk ⟨r,hr,hrk⟩=>hS.own h hk ⟨l,r,hr,hrk⟩) (fun k hk=>hS.Xv k hk)
    ·cases hv
   ·cases hv
  |_=>simp [Bj] at hv
 |mapr l=>
  cases τ with
  |smap vt=>
   simp only [Bj] at hv
   split at hv
   ·rename_i v' m hl
    split at hv
    ·rename_i he;subst he
     simp only [Option.some.injEq,Prod.mk.injEq] at hv
     obtain ⟨_,rfl⟩:=hv
     obtain ⟨r,vt,m',h1,h2,rfl⟩:=hc
     exact Ao5 ((h.heap l).blk hl) (by rw [h2];rfl) fun hs=>hS.own h hs ⟨l,r,h2,h.Av h2⟩
    ·cases hv
   ·cases hv
  |_=>simp [Bj] at hv
 |_=>cases τ<;>simp [Bj] at hv
theorem Kz {st:St} {τ:Ty} (hτ:τ.Ab=false) (cs:List AC):Ce st τ cs=match cs with| [c]=>Bj st τ c|_=>none:=by
 cases τ<;>simp [Ty.Ab] at hτ<;>rcases cs with _|⟨c,_|⟨d,r⟩⟩<;>rfl
theorem Abs {st:St} (h:Gj X w π st.heap) {S:Nat→Prop} : ∀(τ:Ty) (cs:List AC) (us:List Value) (fr:Bool) (x:τ.den),Cl X w π st.heap cs us→
  Ce st τ cs=some (fr,x)→Jh X S fr→Cells w S τ us x:=by
 have one: ∀(τ:Ty) (cs:List AC) (us:List Value) (fr:Bool) (x:τ.den),τ.Ab=false→Cl X w π st.heap cs us→
   Ce st τ cs=some (fr,x)→Jh X S fr→Cells w S τ us x:=by
  intro τ cs us fr x hτ hr hv hS
  rw [Kz hτ] at hv
  split at hv
  ·rename_i c
   obtain ⟨u,hu,_,hc⟩:=hr.2 0 c rfl
   have hl:us.length=1:=hr.1
   obtain ⟨u',rfl⟩:=List.length_eq_one_iff.1 hl
   simp at hu;subst hu
   exact Aky h τ c _ fr x hτ hc hv hS
  ·cases hv
 intro τ
 induction τ with
 |unit=>
  intro cs us fr x hr hv hS
  cases cs with
  |nil=>have:us= []:=List.eq_nil_of_length_eq_zero hr.1;exact this
  |cons c cs=>simp [Ce] at hv
 |pair a r iha ihr=>
  intro cs us fr x hr hv hS
  simp only [Ce] at hv
  split at hv
  ·rename_i f1 y f2 z h1 h2
   simp only [Option.some.injEq,Prod.mk.injEq] at hv
   obtain ⟨rfl,rfl⟩:=hv
   have hr1:Cl X w π st.heap (cs.take a.size) (us.take a.size):=
    ⟨by simp [hr.1],fun i c hc=>by
     rw [List.getElem?_take] at hc⊢
     split at hc
     ·rename_i hi;simp only [hi,if_true];exact hr.2 i c hc
     ·cases hc⟩
   have hr2:Cl X w π st.heap (cs.drop a.size) (us.drop a.size):=
    ⟨by simp [hr.1],fun i c hc=>by
     rw [List.getElem?_drop] at hc⊢
     exact hr.2 _ c hc⟩
   exact ⟨us.take a.size,us.drop a.size,(List.take_append_drop _ _).symm,iha _ _ _ _ hr1 h1 hS.and_left,ihr _ _ _ _ hr2 h2 hS.and_right⟩
  ·cases hv
 |_=>exact fun cs us fr x hr hv hS=>one _ cs us fr x rfl hr hv hS
theorem Ow {cs:List AC} {us:List Value} (h:Cl X w π H cs us) (i n:Nat):Cl X w π H ((cs.drop i).take n) ((us.drop i).take n):=
 ⟨by simp [h.1],fun j c hc=>by
  rw [List.getElem?_take] at hc⊢
  split at hc
  ·rename_i hi
   simp only [hi,if_true]
   rw [List.getElem?_drop] at hc⊢
   exact h.2 _ c hc
  ·cases hc⟩
theorem Aa7 {st:St} (h:Gj X w π st.heap) {S:Nat→Prop} {a:Ty} {l i:Nat} {fr:Bool} {x:a.den} (hv:Lg st a l i=some (fr,x)) (hS:Jh X S fr) {r:Real} (hr:π l=some r):
  r.g<w.heap.size∧ ¬S r.g∧ ∃es:List Value,es.length=a.size∧(∀j u,es[j]?=some u→w.cell? ⟨r.g,i+j,none⟩=some u)∧Cells w S a es x:=by
 unfold Lg at hv
 split at hv
 ·rename_i tid vs hl
  obtain ⟨r',h3,h4,cur,h5,h6⟩:=(h.heap l).blk hl
  rw [hr] at h3;cases h3
  have hc:=Abs h a _ _ fr x (Ow h6 i a.size) hv hS
  refine ⟨Cn h5,fun hs=>hS.own h hs ⟨l,r,hr,h4⟩,_,Cells.len a _ x hc,fun j u hu=>?_,hc⟩
  rw [cellOf h5]
  rw [List.getElem?_take] at hu
  split at hu
  ·rw [List.getElem?_drop] at hu;simpa using hu
  ·cases hu
 ·cases hv
theorem Aqs {st:St} (h:Gj X w π st.heap) {S:Nat→Prop} : ∀(τ:Ty) (caps:List (Nat×Nat)) (us:List Value) (fr:Bool) (x:τ.den),us.length=caps.length→
  (∀(j:Nat) p,caps[j]?=some p→ ∃r tid vs,Ac st.heap p.1=some (.var tid vs)∧π p.1=some r∧us[j]?=some (.pointer (some ⟨r.g,p.2,none⟩)))→
  Fg st τ caps=some (fr,x)→Jh X S fr→Cells w S τ us x:=by
 intro τ
 induction τ with
 |unit=>
  intro caps us fr x hl hr hv hS
  cases caps with
  |nil=>exact List.eq_nil_of_length_eq_zero hl
  |cons c cs=>simp [Fg] at hv
 |pair a r _ ihr=>
  intro caps us fr x hl hr hv hS
  cases a with
  |ptr a=>
   cases caps with
   |nil=>simp [Fg] at hv
   |cons c cs=>
    obtain ⟨l,i⟩:=c
    simp only [Fg] at hv
    split at hv
    ·rename_i f1 y f2 z h1 h2
     simp only [Option.some.injEq,Prod.mk.injEq] at hv
     obtain ⟨rfl,rfl⟩:=hv
     cases us with
     |nil=>simp at hl
     |cons u us=>
      obtain ⟨r0,tid,vs,h3,h4,h5⟩:=hr 0 (l,i) rfl
      simp only [List.getElem?_cons_zero,Option.some.injEq] at h5
      subst h5
      obtain ⟨h6,h7,es,h8,h9,h10⟩:=Aa7 h h1 hS.and_left h4
      exact ⟨[_],us,rfl,⟨r0.g,i,rfl,h6,h7,es,h8,h9,h10⟩,ihr cs us f2 z (by simpa using hl) (fun j p hp=>hr (j+1) p hp) h2 hS.and_right⟩
    ·cases hv
  |_=>cases caps<;>simp [Fg] at hv
 |_=>intro caps us fr x hl hr hv;cases caps<;>simp [Fg] at hv
theorem Auh {st:St} (h:Gj X w π st.heap) {S:Nat→Prop} (τ:Ty) (c:AC) (v:Value) (fr:Bool) (x:τ.den) (hτ:τ.Ab=false) (hc:Df X w π st.heap c v)
  (hv:Ek st τ c=some (fr,x)) (hS:Jh X S fr):Cells w S τ [v] x:=by
 have hother:Bj st τ c=some (fr,x)→Cells w S τ [v] x:=fun hv=>Aky h τ c v fr x hτ hc hv hS
 cases τ with
 |ptr a=>
  cases c with
  |vptr l i=>
   obtain ⟨r,tid,vs,h1,h2,rfl⟩:=hc
   obtain ⟨h6,h7,h8⟩:=Aa7 h hv hS h2
   exact ⟨r.g,i,rfl,h6,h7,h8⟩
  |_=>exact hother hv
 |optr a=>
  cases c with
  |vptr l i=>
   obtain ⟨r,tid,vs,h1,h2,rfl⟩:=hc
   simp only [Ek] at hv
   cases hp:Lg st a l i with
   |none=>rw [hp] at hv;cases hv
   |some p=>
    rw [hp] at hv
    simp only [Option.map_some,Option.some.injEq,Prod.mk.injEq] at hv
    obtain ⟨rfl,rfl⟩:=hv
    obtain ⟨h6,h7,h8⟩:=Aa7 h hp hS h2
    exact .inr ⟨_,r.g,i,rfl,rfl,h6,h7,h8⟩
  |_=>exact hother hv
 |clo f a=>
  cases c with
  |clo g caps=>
   simp only [Ek] at hv
   split at hv
   ·rename_i hg;subst hg
    obtain ⟨us,rfl,h2,h3⟩:=hc
    exact ⟨us,rfl,Aqs h a caps us fr x h2 h3 hv hS⟩
   ·cases hv
  |_=>exact hother hv
 |_=>exact hother hv
theorem Nu {st:St} (h:Gj X w π st.heap) {S:Nat→Prop} (τ:Ty) (c:AV) (v:Value) (fr:Bool) (x:τ.den) (hc:Ai X w π st.heap c v)
  (hv:Ci st τ c=some (fr,x)) (hS:Jh X S fr):Bc w S τ v x:=by
 have hother: ∀c:AC,Df X w π st.heap c v→(if τ.Ab then none else Ek st τ c)=some (fr,x)→Bc w S τ v x:=by
  intro c hc hv
  split at hv
  ·cases hv
  ·rename_i hτ
   simp only [Bool.not_eq_true] at hτ
   exact Bc.Aea hτ (Auh h τ c v fr x hτ hc hv hS)
 cases c with
 | «at»c=>
  cases c with
  |data fr' τ' y=>
   rw [Su] at hv
   split at hv
   ·rename_i ht;subst ht
    simp only [Option.some.injEq,Prod.mk.injEq] at hv
    obtain ⟨rfl,rfl⟩:=hv
    obtain ⟨cs,h1,h2⟩:=hc
    exact ⟨cs,Rep.apart hS h1,h2⟩
   ·exact hother (.data fr' τ' y) hc hv
  |undef=>exact hother .undef hc hv
  |skip=>exact hother .skip hc hv
  |nilv=>exact hother .nilv hc hv
  |nilp=>exact hother .nilp hc hv
  |own l off len=>exact hother (.own l off len) hc hv
  |vptr l i=>exact hother (.vptr l i) hc hv
  |eptr l i=>exact hother (.eptr l i) hc hv
  |clo f caps=>exact hother (.clo f caps) hc hv
  |mapr l=>exact hother (.mapr l) hc hv
  |sub l i c=>exact hother (.sub l i c) hc hv
  |sptr l i c=>exact hother (.sptr l i c) hc hv
 |agg cs=>
  simp only [Ci] at hv
  split at hv
  ·rename_i hτ
   obtain ⟨us,rfl,hr⟩:=hc
   exact ⟨us,Abs h τ cs us fr x hr hv hS,by simp [Ap,hτ]⟩
  ·cases hv
 |tup fr' τ' y=>simp [Ci] at hv
 |tupc l=>simp [Ci] at hv
theorem Qf {st:St} (h:Gj X w π st.heap) {S:Nat→Prop} : ∀(τ:Ty) (cs:List AV) (vs:List Value) (fr:Bool) (x:τ.den),cs.length=vs.length→
  (∀(i:Nat) c v,cs[i]?=some c→vs[i]?=some v→Ai X w π st.heap c v)→Bm st τ cs=some (fr,x)→Jh X S fr→Au w S τ vs x
 | .unit,[],vs,fr,x,hl,hr,hv,hS=>by
  have:vs= []:=List.eq_nil_of_length_eq_zero hl.symm
  subst this;trivial
 | .unit,_::_,vs,fr,x,hl,hr,hv,hS=>by simp [Bm] at hv
 | .pair a r,[],vs,fr,x,hl,hr,hv,hS=>by simp [Bm] at hv
 | .pair a r,c::cs,[],fr,x,hl,hr,hv,hS=>by simp at hl
 | .pair a r,c::cs,v::vs,fr,x,hl,hr,hv,hS=>by
  simp only [Bm] at hv
  split at hv
  ·rename_i f1 y f2 z h1 h2
   simp only [Option.some.injEq,Prod.mk.injEq] at hv
   obtain ⟨rfl,rfl⟩:=hv
   exact ⟨Nu h a c v f1 y (hr 0 c v rfl rfl) h1 hS.and_left,Qf h r cs vs f2 z (by simpa using hl) (fun i c' v' hc hv'=>hr (i+1) c' v' hc hv') h2 hS.and_right⟩
  ·cases hv
 | .int _,cs,vs,fr,x,hl,hr,hv,hS=>by cases cs<;>simp [Bm] at hv
 | .bool,cs,vs,fr,x,hl,hr,hv,hS=>by cases cs<;>simp [Bm] at hv
 | .str,cs,vs,fr,x,hl,hr,hv,hS=>by cases cs<;>simp [Bm] at hv
 | .slice _,cs,vs,fr,x,hl,hr,hv,hS=>by cases cs<;>simp [Bm] at hv
 | .ptr _,cs,vs,fr,x,hl,hr,hv,hS=>by cases cs<;>simp [Bm] at hv
 | .oslice _,cs,vs,fr,x,hl,hr,hv,hS=>by cases cs<;>simp [Bm] at hv
 | .optr _,cs,vs,fr,x,hl,hr,hv,hS=>by cases cs<;>simp [Bm] at hv
 | .smap _,cs,vs,fr,x,hl,hr,hv,hS=>by cases cs<;>simp [Bm] at hv
 | .clo _ _,cs,vs,fr,x,hl,hr,hv,hS=>by cases cs<;>simp [Bm] at hv
end
end Go.Proofs.Ytebabhocakedaaa
