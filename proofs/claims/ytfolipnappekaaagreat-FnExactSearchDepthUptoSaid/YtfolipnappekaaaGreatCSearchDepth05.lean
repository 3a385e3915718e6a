/-
  Part 6 of the proof that the statement FnExactSearchDepth holds.
-/
import Derived.Test.YtfolipnappekaaaGreatCSearchDepth04
import Derived.WalkKit
import Derived.Laws.Slices
namespace Go.Proofs.YtfolipnappekaaaGreat
open Go.RowKit
def Cd:Ty->List Value
 | .int k=> [.int k 0]
 | .bool=> [.bool false]
 | .str=> [.string ByteArray.empty]
 | .slice _=> [.slice none 0 0]
 | .oslice _=> [.slice none 0 0]
 | .ptr _=> [.pointer none]
 | .optr _=> [.pointer none]
 | .smap _=> [.map none]
 | .clo _ _=> [.nilFunc]
 | .unit=> []
 | .pair a r=>Cd a++Cd r
structure oT (P:Program) (T:Tab) (t:TypeId) (τ:Ty):Prop where
 info: ∃i:TypeInfo,P.info? t=some i/\i.size=τ.size/\i.bytes<=256/\i.zero=some (Ci τ (Cd τ))
 desc:match τ with
  | .int k=>P.underlying t=some (.int k)
  | .bool=>P.underlying t=some .bool
  | .str=>P.underlying t=some .string
  | .slice e=> ∃te,P.underlying t=some (.slice te)/\T.elem t=some te/\T.ty te=some e
  | .oslice e=> ∃te,P.underlying t=some (.slice te)/\T.elem t=some te/\T.ty te=some e
  | .ptr _=> ∃u,P.underlying t=some (.pointer u)
  | .optr _=> ∃u,P.underlying t=some (.pointer u)
  | .smap _=> ∃k e,P.underlying t=some (.map k e)
  | .clo _ _=>False
  | .unit| .pair _ _=> ∃fs,P.underlying t=some (.struct fs)
def placesOf (fs:Array Field):Sem (Array (Nat×Nat)):=fs.mapM λf=>do pure (f.offset,<-sizeOf f.type)
structure Dz (P:Program) (T:Tab):Prop where
 fill: ∀t τ,T.ty t=some τ->τ.Aq=true-> ∃(fs:Array Field) (Ln:Array (Nat×Nat)),P.underlying t=some (.struct fs)/\(∀w,(placesOf fs).run P w= .ok Ln w)/\
  ∀f o u ρ,T.off t f=some (o,u)->T.ty u=some ρ->Ln[f]?=some (o,ρ.size)
 ty: ∀t τ,T.ty t=some τ->oT P T t τ
 elem: ∀t te,T.elem t=some te->P.underlying t=some (.slice te)
 mapOf: ∀t v,T.mapOf t=some v-> ∃k e,P.underlying t=some (.map k e)/\P.underlying k=some .string/\T.ty e=some v/\v.flat=true/\v.Aq=false
 off: ∀s f o t,T.off s f=some (o,t)-> ∃(fs:Array Field) (fd:Field),P.underlying s=some (.struct fs)/\fs[f]?=some fd/\fd.offset=o/\fd.type=t/\ ∃i:TypeInfo,P.info? t=some i/\i.size≠0
section
variable {P:Program} {T:Tab} {X:Ctx} {w w':World} {π:Pi} {H:List (Nat×OB)}
theorem Ql {t:TypeId} {d:TypeDesc} (h:P.underlying t=some d):(isAgg t).run P w= .ok (match d with| .struct _| .array _ _=>true|_=>false) w:=by
 unfold isAgg
 rw [Sem.run_bind,run_underlying h]
 cases d<;>rfl
theorem oT.agg {t:TypeId} {τ:Ty} (h:oT P T t τ):(isAgg t).run P w= .ok τ.Aq w:=by
 have hd:=h.desc
 cases τ<;>simp only at hd
 case int k=>rw [Ql hd];rfl
 case bool=>rw [Ql hd];rfl
 case str=>rw [Ql hd];rfl
 case slice e=>obtain ⟨te,hd,_⟩:=hd;rw [Ql hd];rfl
 case ptr e=>obtain ⟨te,hd⟩:=hd;rw [Ql hd];rfl
 case oslice e=>obtain ⟨te,hd,_⟩:=hd;rw [Ql hd];rfl
 case optr e=>obtain ⟨te,hd⟩:=hd;rw [Ql hd];rfl
 case smap e=>obtain ⟨k,te,hd⟩:=hd;rw [Ql hd];rfl
 case unit=>obtain ⟨te,hd⟩:=hd;rw [Ql hd];rfl
 case pair e r=>obtain ⟨te,hd⟩:=hd;rw [Ql hd];rfl
theorem oT.size {t:TypeId} {τ:Ty} (h:oT P T t τ):(sizeOf t).run P w= .ok τ.size w:=by
 obtain ⟨i,hi,hs,_⟩:=h.info
 simp [sizeOf,typeInfo,hi,hs]
theorem Cs.Ru {S:Nat->Prop} {τ:Ty} {v:Value} {x:τ.den} (Tw:τ.Aq=false) (h:Cs w S τ v x):Cells w S τ [v] x:=by
 obtain ⟨cs,hc,rfl⟩:=h
 have hl:=Cells.len τ cs x hc
 have h1:τ.size=1:=by cases τ<;>simp_all [Ty.Aq,Ty.size]
 rw [h1] at hl
 obtain ⟨c,rfl⟩:=De.1 hl
 simpa [Ci,Tw] using hc
theorem Cs.nQ {S:Nat->Prop} {τ:Ty} {v:Value} {x:τ.den} (Tw:τ.Aq=false) (h:Cells w S τ [v] x):Cs w S τ v x:=
 ⟨[v],h,by simp [Ci,Tw]⟩
def Ts (X:Ctx) (S:Nat->Prop) (fr:Bool):Prop:=(∀k,S k->k<X.w0.heap.size/\ ¬X.gv k)/\(fr=true\/ ∀k,S k->X.Sc k)
theorem Ts.hZ {S:Nat->Prop} {fr:Bool} (h:Ts X S fr) (k:Nat) (hk:S k):Da X.w0.heap.size X.Sc π fr k:=by
 rcases h.2 with h2|h2
 ·exact .inr (.inr ⟨h2,(h.1 k hk).1⟩)
 ·exact .inr (.inl (h2 k hk))
theorem Ts.and_left {S:Nat->Prop} {f1 f2:Bool} (h:Ts X S (f1&&f2)):Ts X S f1:=
 ⟨h.1,h.2.imp (λh=>by simp at h;exact h.1) id⟩
theorem Ts.and_right {S:Nat->Prop} {f1 f2:Bool} (h:Ts X S (f1&&f2)):Ts X S f2:=
 ⟨h.1,h.2.imp (λh=>by simp at h;exact h.2) id⟩
theorem Rep.apart {S:Nat->Prop} {fr:Bool} {τ:Ty} {cs:List Value} {x:τ.den} (hS:Ts X S (fr||τ.flat)) (h:Cells w (Da X.w0.heap.size X.Sc π fr) τ cs x):Cells w S τ cs x:=by
 cases hf:τ.flat with
 |true=>exact Cells.flat τ cs x hf h
 |false=>
  rw [hf,gO] at hS
  exact Cells.Ez (Ao _) (λ_ _ _=>rfl) (λk _ hk=>hS.hZ k hk) τ cs x h
theorem Ts.own {S:Nat->Prop} {fr:Bool} (hS:Ts X S fr) (h:Mv X w π H) {k:Nat} (hk:S k): ¬Ud π k:= λho=>by
 have h1:=hS.1 k hk
 rcases (h.own ho).2 with h2|h2
 ·omega
 ·exact h1.2 h2
theorem Ns (st:St) (τ:Ty) (fr:Bool) (Oe:Ty) (x:Oe.den):Dt st τ (.data fr Oe x)=if h:Oe=τ then some (fr||τ.flat,h▸x) else iq fr τ Oe x:=by
 cases τ<;>rfl
theorem dc (st:St) (τ:Ty) (fr:Bool) (Oe:Ty) (x:Oe.den):Fu st τ (.at (.data fr Oe x))=if h:Oe=τ then some (fr||τ.flat,h▸x) else if τ.Aq then none else Js st τ (.data fr Oe x):=rfl
theorem CR (st:St) (τ:Ty) (fr:Bool) (Oe:Ty) (x:Oe.den):Js st τ (.data fr Oe x)=Dt st τ (.data fr Oe x):=by
 cases τ<;>rfl
theorem TK {S:Nat->Prop} {fr:Bool} {τ Oe:Ty} {x:Oe.den} {f:Bool} {y:τ.den} {v:Value} (h:iq fr τ Oe x=some (f,y)) (hc:Cs w (Da X.w0.heap.size X.Sc π fr) Oe v x) (hS:Ts X S f):
  τ.Aq=false/\f=fr/\Cells w S τ [v] y:=by
 unfold iq at h
 split at h
 ·split at h
  ·rename_i e e' _ ZB
   subst ZB
   simp only [Aa,Ad] at h
   obtain ⟨rfl,rfl⟩:=h
   refine ⟨rfl,rfl,?_⟩
   have h1:=Rep.apart (S:=S) (τ:= .oslice e') ⟨hS.1,hS.2.imp (λh=>by rw [h];rfl) id⟩ (Cs.Ru rfl hc)
   simp only [Cells] at h1⊢
   rcases h1 with ⟨rfl,c,h1⟩|⟨xs,ad,len,cap,rfl,h1,h2,h3,h4⟩
   ·exact ⟨none,0,c,h1,rfl,Iq _, .inl rfl⟩
   ·exact ⟨_,len,cap,h1,h2,h3,h4.imp id λ⟨g,o,ha,h4⟩=>⟨g,o,by rw [ha],h4⟩⟩
  ·cases h
 ·split at h
  ·rename_i a a' _ haa
   subst haa
   simp only [Aa,Ad] at h
   obtain ⟨rfl,rfl⟩:=h
   refine ⟨rfl,rfl,?_⟩
   have h1:=Rep.apart (S:=S) (τ:= .ptr a') ⟨hS.1,hS.2.imp (λh=>by rw [h];rfl) id⟩ (Cs.Ru rfl hc)
   simp only [Cells] at h1⊢
   obtain ⟨g,o,h2⟩:=h1
   exact .inr ⟨_,g,o,rfl,h2⟩
  ·cases h
 ·cases h
theorem vX {st:St} (h:Mv X w π st.heap) {S:Nat->Prop} (τ:Ty) (c:AC) (v:Value) (fr:Bool) (x:τ.den) (Tw:τ.Aq=false) (hc:Hp X w π st.heap c v)
  (hv:Dt st τ c=some (fr,x)) (hS:Ts X S fr):Cells w S τ [v] x:=by
 cases c with
 |data Wb Oe y=>
  rw [Ns] at hv
  split at hv
  ·rename_i ht;subst ht
   simp only [Aa,Ad] at hv
   obtain ⟨rfl,rfl⟩:=hv
   exact Rep.apart hS (Cs.Ru Tw hc)
  ·exact (TK hv hc hS).2.2
 |Ly=>
  cases τ with
  |slice e=>
   simp only [Dt,Aa,Ad] at hv
   obtain ⟨_,rfl⟩:=hv
   exact ⟨none,0,0,by rw [show v=_ from hc],rfl,Ao _, .inl rfl⟩
  |oslice e=>
   simp only [Dt,Aa,Ad] at hv
   obtain ⟨_,rfl⟩:=hv
   exact .inl ⟨rfl,0,by rw [show v=_ from hc]⟩
  |_=>simp [Dt] at hv
 |Xa=>
  cases τ with
  |optr e=>
   simp only [Dt,Aa,Ad] at hv
   obtain ⟨_,rfl⟩:=hv
   exact .inl ⟨rfl,by rw [show v=_ from hc]⟩
  |_=>simp [Dt] at hv
 |own l off len=>
  cases τ with
  |slice e=>
   simp only [Dt] at hv
   split at hv
   ·rename_i Wb tr' e' tid xs hl
    split at hv
    ·rename_i he;subst he
     simp only [Aa,Ad] at hv
     obtain ⟨rfl,rfl⟩:=hv
     obtain ⟨h2,h3⟩:=Ok hc hl
     exact pG h hl h2 h3 (λk hk ⟨r,hr,MI⟩=>hS.own h hk ⟨l,r,hr,MI⟩) (λk _ hk=>hS.hZ k hk)
    ·cases hv
   ·rename_i e' tid xs hl
    split at hv
    ·rename_i he;subst he
     simp only [Aa,Ad] at hv
     obtain ⟨rfl,rfl⟩:=hv
     obtain ⟨h2,h3⟩:=c5 hc hl
     exact mF h hl h2 h3 (λk hk ⟨r,hr,MI⟩=>hS.own h hk ⟨l,r,hr,MI⟩)
    ·cases hv
   ·rename_i e' tid rows kp hl
    split at hv
    ·rename_i he;subst he
     simp only [Aa,Ad] at hv
     obtain ⟨rfl,rfl⟩:=hv
     obtain ⟨h2,h3⟩:=o4 hc hl
     exact tM h hl h2 h3 (λk hk ⟨r,hr,MI⟩=>hS.own h hk ⟨l,r,hr,MI⟩) (λk hk=>hS.hZ k hk)
    ·cases hv
   ·cases hv
  |_=>simp [Dt] at hv
 |sub l i c=>
  cases τ with
  |slice e=>
   simp only [Dt] at hv
   split at hv
   ·rename_i e' tid rows kp hl
    split at hv
    ·rename_i he;subst he
     simp only [Aa,Ad] at hv
     obtain ⟨rfl,rfl⟩:=hv
     exact tN h hl (FB hc hl) hc (λk hk ⟨r,hr,MI⟩=>hS.own h hk ⟨l,r,hr,MI⟩) (λk hk=>hS.hZ k hk)
    ·cases hv
   ·cases hv
  |_=>simp [Dt] at hv
 |Kg l=>
  cases τ with
  |smap vt=>
   simp only [Dt] at hv
   split at hv
   ·rename_i v' m hl
    split at hv
    ·rename_i he;subst he
     simp only [Aa,Ad] at hv
     obtain ⟨_,rfl⟩:=hv
     obtain ⟨r,vt,m',h1,h2,rfl⟩:=hc
     exact yR ((h.heap l).Qi hl) (by rw [h2];rfl) λhs=>hS.own h hs ⟨l,r,h2,h.Ct h2⟩
    ·cases hv
   ·cases hv
  |_=>simp [Dt] at hv
 |_=>cases τ<;>simp [Dt] at hv
theorem Ua {st:St} {τ:Ty} (Tw:τ.Aq=false) (cs:List AC):Fp st τ cs=match cs with| [c]=>Dt st τ c|_=>none:=by
 cases τ<;>simp [Ty.Aq] at Tw<;>rcases cs with _|⟨c,_|⟨d,r⟩⟩<;>rfl
theorem lE {st:St} (h:Mv X w π st.heap) {S:Nat->Prop} : ∀(τ:Ty) (cs:List AC) (us:List Value) (fr:Bool) (x:τ.den),Gi X w π st.heap cs us->
  Fp st τ cs=some (fr,x)->Ts X S fr->Cells w S τ us x:=by
 have one: ∀(τ:Ty) (cs:List AC) (us:List Value) (fr:Bool) (x:τ.den),τ.Aq=false->Gi X w π st.heap cs us->
   Fp st τ cs=some (fr,x)->Ts X S fr->Cells w S τ us x:=by
  intro τ cs us fr x Tw hr hv hS
  rw [Ua Tw] at hv
  split at hv
  ·rename_i c
   obtain ⟨u,hu,_,hc⟩:=hr.2 0 c rfl
   have hl:us.length=1:=hr.1
   obtain ⟨u',rfl⟩:=De.1 hl
   simp at hu;subst hu
   exact vX h τ c _ fr x Tw hc hv hS
  ·cases hv
 intro τ
 induction τ with
 |unit=>
  intro cs us fr x hr hv hS
  cases cs with
  |nil=>have:us= []:=Ck hr.1;exact this
  |cons c cs=>simp [Fp] at hv
 |pair a r mI jX=>
  intro cs us fr x hr hv hS
  simp only [Fp] at hv
  split at hv
  ·rename_i f1 y f2 z h1 h2
   simp only [Aa,Ad] at hv
   obtain ⟨rfl,rfl⟩:=hv
   have UB:Gi X w π st.heap (cs.take a.size) (us.take a.size):=
    ⟨by simp [hr.1],λi c hc=>by
     rw [Cx] at hc⊢
     split at hc
     ·rename_i hi;simp only [hi,Ph];exact hr.2 i c hc
     ·cases hc⟩
   have ZT:Gi X w π st.heap (cs.drop a.size) (us.drop a.size):=
    ⟨by simp [hr.1],λi c hc=>by
     rw [Cw] at hc⊢
     exact hr.2 _ c hc⟩
   exact ⟨us.take a.size,us.drop a.size,(Ig _ _).symm,mI _ _ _ _ UB h1 hS.and_left,jX _ _ _ _ ZT h2 hS.and_right⟩
  ·cases hv
 |_=>exact λcs us fr x hr hv hS=>one _ cs us fr x rfl hr hv hS
theorem Zz {cs:List AC} {us:List Value} (h:Gi X w π H cs us) (i n:Nat):Gi X w π H ((cs.drop i).take n) ((us.drop i).take n):=
 ⟨by simp [h.1],λj c hc=>by
  rw [Cx] at hc⊢
  split at hc
  ·rename_i hi
   simp only [hi,Ph]
   rw [Cw] at hc⊢
   exact h.2 _ c hc
  ·cases hc⟩
theorem jH {st:St} (h:Mv X w π st.heap) {S:Nat->Prop} {a:Ty} {l i:Nat} {fr:Bool} {x:a.den} (hv:Ul st a l i=some (fr,x)) (hS:Ts X S fr) {r:Real} (hr:π l=some r):
  r.g<w.heap.size/\ ¬S r.g/\ ∃es:List Value,es.length=a.size/\(∀j u,es[j]?=some u->w.cell? ⟨r.g,i+j,none⟩=some u)/\Cells w S a es x:=by
 unfold Ul at hv
 split at hv
 ·rename_i tid vs hl
  obtain ⟨r',h3,h4,cur,h5,h6⟩:=(h.heap l).Qi hl
  rw [hr] at h3;cases h3
  have hc:=lE h a _ _ fr x (Zz h6 i a.size) hv hS
  refine ⟨Ft h5,λhs=>hS.own h hs ⟨l,r,hr,h4⟩,_,Cells.len a _ x hc,λj u hu=>?_,hc⟩
  rw [cellOf h5]
  rw [Cx] at hu
  split at hu
  ·rw [Cw] at hu;simpa using hu
  ·cases hu
 ·cases hv
theorem CQ {st:St} (h:Mv X w π st.heap) {S:Nat->Prop} : ∀(τ:Ty) (Ec:List (Nat×Nat)) (us:List Value) (fr:Bool) (x:τ.den),us.length=Ec.length->
  (∀(j:Nat) p,Ec[j]?=some p-> ∃r tid vs,Au st.heap p.1=some (.var tid vs)/\π p.1=some r/\us[j]?=some (.pointer (some ⟨r.g,p.2,none⟩)))->
  Ku st τ Ec=some (fr,x)->Ts X S fr->Cells w S τ us x:=by
 intro τ
 induction τ with
 |unit=>
  intro Ec us fr x hl hr hv hS
  cases Ec with
  |nil=>exact Ck hl
  |cons c cs=>simp [Ku] at hv
 |pair a r _ jX=>
  intro Ec us fr x hl hr hv hS
  cases a with
  |ptr a=>
   cases Ec with
   |nil=>simp [Ku] at hv
   |cons c cs=>
    obtain ⟨l,i⟩:=c
    simp only [Ku] at hv
    split at hv
    ·rename_i f1 y f2 z h1 h2
     simp only [Aa,Ad] at hv
     obtain ⟨rfl,rfl⟩:=hv
     cases us with
     |nil=>simp at hl
     |cons u us=>
      obtain ⟨r0,tid,vs,h3,h4,h5⟩:=hr 0 (l,i) rfl
      simp only [Bz,Aa] at h5
      subst h5
      obtain ⟨h6,h7,es,h8,h9,oO⟩:=jH h h1 hS.and_left h4
      exact ⟨[_],us,rfl,⟨r0.g,i,rfl,h6,h7,es,h8,h9,oO⟩,jX cs us f2 z (by simpa using hl) (λj p hp=>hr (j+1) p hp) h2 hS.and_right⟩
    ·cases hv
  |_=>cases Ec<;>simp [Ku] at hv
 |_=>intro Ec us fr x hl hr hv;cases Ec<;>simp [Ku] at hv
theorem JN {st:St} (h:Mv X w π st.heap) {S:Nat->Prop} (τ:Ty) (c:AC) (v:Value) (fr:Bool) (x:τ.den) (Tw:τ.Aq=false) (hc:Hp X w π st.heap c v)
  (hv:Js st τ c=some (fr,x)) (hS:Ts X S fr):Cells w S τ [v] x:=by
 have Nx:Dt st τ c=some (fr,x)->Cells w S τ [v] x:= λhv=>vX h τ c v fr x Tw hc hv hS
 cases τ with
 |ptr a=>
  cases c with
  |Hm l i=>
   obtain ⟨r,tid,vs,h1,h2,rfl⟩:=hc
   obtain ⟨h6,h7,h8⟩:=jH h hv hS h2
   exact ⟨r.g,i,rfl,h6,h7,h8⟩
  |_=>exact Nx hv
 |optr a=>
  cases c with
  |Hm l i=>
   obtain ⟨r,tid,vs,h1,h2,rfl⟩:=hc
   simp only [Js] at hv
   cases hp:Ul st a l i with
   |none=>rw [hp] at hv;cases hv
   |some p=>
    rw [hp] at hv
    simp only [Am,Aa,Ad] at hv
    obtain ⟨rfl,rfl⟩:=hv
    obtain ⟨h6,h7,h8⟩:=jH h hp hS h2
    exact .inr ⟨_,r.g,i,rfl,rfl,h6,h7,h8⟩
  |_=>exact Nx hv
 |clo f a=>
  cases c with
  |clo g Ec=>
   simp only [Js] at hv
   split at hv
   ·rename_i hg
    obtain ⟨rfl,It⟩:=hg
    obtain ⟨us,rfl,h2,h3⟩:=hc
    exact ⟨us,by rw [ik It],CQ h a Ec us fr x h2 h3 hv hS⟩
   ·cases hv
  |_=>exact Nx hv
 |_=>exact Nx hv
theorem Yw {st:St} (h:Mv X w π st.heap) {S:Nat->Prop} (τ:Ty) (c:AV) (v:Value) (fr:Bool) (x:τ.den) (hc:Bu X w π st.heap c v)
  (hv:Fu st τ c=some (fr,x)) (hS:Ts X S fr):Cs w S τ v x:=by
 have Nx: ∀c:AC,Hp X w π st.heap c v->(if τ.Aq then none else Js st τ c)=some (fr,x)->Cs w S τ v x:=by
  intro c hc hv
  split at hv
  ·cases hv
  ·rename_i Tw
   simp only [Ii] at Tw
   exact Cs.nQ Tw (JN h τ c v fr x Tw hc hv hS)
 cases c with
 | «at»c=>
  cases c with
  |data Wb Oe y=>
   rw [dc] at hv
   split at hv
   ·rename_i ht;subst ht
    simp only [Aa,Ad] at hv
    obtain ⟨rfl,rfl⟩:=hv
    obtain ⟨cs,h1,h2⟩:=hc
    exact ⟨cs,Rep.apart hS h1,h2⟩
   ·exact Nx (.data Wb Oe y) hc hv
  |undef=>exact Nx .undef hc hv
  |skip=>exact Nx .skip hc hv
  |Ly=>exact Nx .Ly hc hv
  |Xa=>exact Nx .Xa hc hv
  |own l off len=>exact Nx (.own l off len) hc hv
  |Hm l i=>exact Nx (.Hm l i) hc hv
  |Jy l i=>exact Nx (.Jy l i) hc hv
  |clo f Ec=>exact Nx (.clo f Ec) hc hv
  |Kg l=>exact Nx (.Kg l) hc hv
  |sub l i c=>exact Nx (.sub l i c) hc hv
  |Jv l i c=>exact Nx (.Jv l i c) hc hv
 |agg cs=>
  simp only [Fu] at hv
  split at hv
  ·rename_i Tw
   obtain ⟨us,rfl,hr⟩:=hc
   exact ⟨us,lE h τ cs us fr x hr hv hS,by simp [Ci,Tw]⟩
  ·cases hv
 |bz Wb Oe y=>simp [Fu] at hv
 |Mq l=>simp [Fu] at hv
theorem bh {st:St} (h:Mv X w π st.heap) {S:Nat->Prop} : ∀(τ:Ty) (cs:List AV) (vs:List Value) (fr:Bool) (x:τ.den),cs.length=vs.length->
  (∀(i:Nat) c v,cs[i]?=some c->vs[i]?=some v->Bu X w π st.heap c v)->Dw st τ cs=some (fr,x)->Ts X S fr->Cv w S τ vs x
 | .unit,[],vs,fr,x,hl,hr,hv,hS=>by
  have:vs= []:=Ck hl.symm
  subst this;trivial
 | .unit,_::_,vs,fr,x,hl,hr,hv,hS=>by simp [Dw] at hv
 | .pair a r,[],vs,fr,x,hl,hr,hv,hS=>by simp [Dw] at hv
 | .pair a r,c::cs,[],fr,x,hl,hr,hv,hS=>by simp at hl
 | .pair a r,c::cs,v::vs,fr,x,hl,hr,hv,hS=>by
  simp only [Dw] at hv
  split at hv
  ·rename_i f1 y f2 z h1 h2
   simp only [Aa,Ad] at hv
   obtain ⟨rfl,rfl⟩:=hv
   exact ⟨Yw h a c v f1 y (hr 0 c v rfl rfl) h1 hS.and_left,bh h r cs vs f2 z (by simpa using hl) (λi c' v' hc FT=>hr (i+1) c' v' hc FT) h2 hS.and_right⟩
  ·cases hv
 | .int _,cs,vs,fr,x,hl,hr,hv,hS=>by cases cs<;>simp [Dw] at hv
 | .bool,cs,vs,fr,x,hl,hr,hv,hS=>by cases cs<;>simp [Dw] at hv
 | .str,cs,vs,fr,x,hl,hr,hv,hS=>by cases cs<;>simp [Dw] at hv
 | .slice _,cs,vs,fr,x,hl,hr,hv,hS=>by cases cs<;>simp [Dw] at hv
 | .ptr _,cs,vs,fr,x,hl,hr,hv,hS=>by cases cs<;>simp [Dw] at hv
 | .oslice _,cs,vs,fr,x,hl,hr,hv,hS=>by cases cs<;>simp [Dw] at hv
 | .optr _,cs,vs,fr,x,hl,hr,hv,hS=>by cases cs<;>simp [Dw] at hv
 | .smap _,cs,vs,fr,x,hl,hr,hv,hS=>by cases cs<;>simp [Dw] at hv
 | .clo _ _,cs,vs,fr,x,hl,hr,hv,hS=>by cases cs<;>simp [Dw] at hv
end
end Go.Proofs.YtfolipnappekaaaGreat
