/-
  Part 6 of the proof that the statement FnCommutatorMacros holds.
-/
import Derived.Test.YtfgfigkbgecfnaaCFCommutatorMacros04
import Derived.WalkKit
import Derived.Laws.Slices
namespace Go.Proofs.Ytfgfigkbgecfnaa
open Go.RowKit
def Bb:Ty->List Value
 | .int k=> [.int k 0]
 | .bool=> [.bool false]
 | .str=> [.string ByteArray.empty]
 | .slice _=> [.slice none 0 0]
 | .oslice _=> [.slice none 0 0]
 | .ptr _=> [.pointer none]
 | .optr _=> [.pointer none]
 | .smap _=> [.map none]
 | .clo _ _=> [.nilFunc]
 | .unit=> []
 | .pair a r=>Bb a++Bb r
structure lA (P:Program) (T:Tab) (t:TypeId) (τ:Ty):Prop where
 info: ∃i:TypeInfo,P.info? t=some i/\i.size=τ.size/\i.bytes<=256/\i.zero=some (Bi τ (Bb τ))
 desc:match τ with
  | .int k=>P.underlying t=some (.int k)
  | .bool=>P.underlying t=some .bool
  | .str=>P.underlying t=some .string
  | .slice e=> ∃te,P.underlying t=some (.slice te)/\T.elem t=some te/\T.ty te=some e
  | .oslice e=> ∃te,P.underlying t=some (.slice te)/\T.elem t=some te/\T.ty te=some e
  | .ptr _=> ∃u,P.underlying t=some (.pointer u)
  | .optr _=> ∃u,P.underlying t=some (.pointer u)
  | .smap _=> ∃k e,P.underlying t=some (.map k e)
  | .clo _ _=>False
  | .unit| .pair _ _=> ∃fs,P.underlying t=some (.struct fs)
def placesOf (fs:Array Field):Sem (Array (Nat×Nat)):=fs.mapM λf=>do pure (f.offset,<-sizeOf f.type)
structure De (P:Program) (T:Tab):Prop where
 fill: ∀t τ,T.ty t=some τ->τ.Ak=true-> ∃(fs:Array Field) (Nj:Array (Nat×Nat)),P.underlying t=some (.struct fs)/\(∀w,(placesOf fs).run P w= .ok Nj w)/\
  ∀f o u ρ,T.off t f=some (o,u)->T.ty u=some ρ->Nj[f]?=some (o,ρ.size)
 ty: ∀t τ,T.ty t=some τ->lA P T t τ
 elem: ∀t te,T.elem t=some te->P.underlying t=some (.slice te)
 mapOf: ∀t v,T.mapOf t=some v-> ∃k e,P.underlying t=some (.map k e)/\P.underlying k=some .string/\T.ty e=some v/\v.flat=true/\v.Ak=false
 off: ∀s f o t,T.off s f=some (o,t)-> ∃(fs:Array Field) (fd:Field),P.underlying s=some (.struct fs)/\fs[f]?=some fd/\fd.offset=o/\fd.type=t/\ ∃i:TypeInfo,P.info? t=some i/\i.size≠0
section
variable {P:Program} {T:Tab} {X:Ctx} {w w':World} {π:Pi} {H:List (Nat×OB)}
theorem Nc {t:TypeId} {d:TypeDesc} (h:P.underlying t=some d):(isAgg t).run P w= .ok (match d with| .struct _| .array _ _=>true|_=>false) w:=by
 unfold isAgg
 rw [Sem.run_bind,run_underlying h]
 cases d<;>rfl
theorem lA.agg {t:TypeId} {τ:Ty} (h:lA P T t τ):(isAgg t).run P w= .ok τ.Ak w:=by
 have hd:=h.desc
 cases τ<;>simp only at hd
 case int k=>rw [Nc hd];rfl
 case bool=>rw [Nc hd];rfl
 case str=>rw [Nc hd];rfl
 case slice e=>obtain ⟨te,hd,_⟩:=hd;rw [Nc hd];rfl
 case ptr e=>obtain ⟨te,hd⟩:=hd;rw [Nc hd];rfl
 case oslice e=>obtain ⟨te,hd,_⟩:=hd;rw [Nc hd];rfl
 case optr e=>obtain ⟨te,hd⟩:=hd;rw [Nc hd];rfl
 case smap e=>obtain ⟨k,te,hd⟩:=hd;rw [Nc hd];rfl
 case unit=>obtain ⟨te,hd⟩:=hd;rw [Nc hd];rfl
 case pair e r=>obtain ⟨te,hd⟩:=hd;rw [Nc hd];rfl
theorem lA.size {t:TypeId} {τ:Ty} (h:lA P T t τ):(sizeOf t).run P w= .ok τ.size w:=by
 obtain ⟨i,hi,hs,_⟩:=h.info
 simp [sizeOf,typeInfo,hi,hs]
theorem Ck.Oc {S:Nat->Prop} {τ:Ty} {v:Value} {x:τ.den} (Pp:τ.Ak=false) (h:Ck w S τ v x):Cells w S τ [v] x:=by
 obtain ⟨cs,hc,rfl⟩:=h
 have hl:=Cells.len τ cs x hc
 have h1:τ.size=1:=by cases τ<;>simp_all [Ty.Ak,Ty.size]
 rw [h1] at hl
 obtain ⟨c,rfl⟩:=Cv.1 hl
 simpa [Bi,Pp] using hc
theorem Ck.ix {S:Nat->Prop} {τ:Ty} {v:Value} {x:τ.den} (Pp:τ.Ak=false) (h:Cells w S τ [v] x):Ck w S τ v x:=
 ⟨[v],h,by simp [Bi,Pp]⟩
def Nk (X:Ctx) (S:Nat->Prop) (fr:Bool):Prop:=(∀k,S k->k<X.w0.heap.size/\ ¬X.gv k)/\(fr=true\/ ∀k,S k->X.Sc k)
theorem Nk.cL {S:Nat->Prop} {fr:Bool} (h:Nk X S fr) (k:Nat) (hk:S k):Cb X.w0.heap.size X.Sc π fr k:=by
 rcases h.2 with h2|h2
 ·exact .inr (.inr ⟨h2,(h.1 k hk).1⟩)
 ·exact .inr (.inl (h2 k hk))
theorem Nk.and_left {S:Nat->Prop} {f1 f2:Bool} (h:Nk X S (f1&&f2)):Nk X S f1:=
 ⟨h.1,h.2.imp (λh=>by simp at h;exact h.1) id⟩
theorem Nk.and_right {S:Nat->Prop} {f1 f2:Bool} (h:Nk X S (f1&&f2)):Nk X S f2:=
 ⟨h.1,h.2.imp (λh=>by simp at h;exact h.2) id⟩
theorem SH.apart {S:Nat->Prop} {fr:Bool} {τ:Ty} {cs:List Value} {x:τ.den} (hS:Nk X S (fr||τ.flat)) (h:Cells w (Cb X.w0.heap.size X.Sc π fr) τ cs x):Cells w S τ cs x:=by
 cases hf:τ.flat with
 |true=>exact Cells.flat τ cs x hf h
 |false=>
  rw [hf,cz] at hS
  exact Cells.Ep (Ao _) (λ_ _ _=>rfl) (λk _ hk=>hS.cL k hk) τ cs x h
theorem Nk.own {S:Nat->Prop} {fr:Bool} (hS:Nk X S fr) (h:Kc X w π H) {k:Nat} (hk:S k): ¬Qk π k:= λho=>by
 have h1:=hS.1 k hk
 rcases (h.own ho).2 with h2|h2
 ·omega
 ·exact h1.2 h2
theorem Nk.mono {S:Nat->Prop} {f1 f2:Bool} (h:Nk X S f1) (hf:f1=true->f2=true):Nk X S f2:=⟨h.1,h.2.imp hf id⟩
theorem Kw (st:St) (τ:Ty) (fr:Bool) (Lg:Ty) (x:Lg.den):Cn st τ (.data fr Lg x)=if h:Lg=τ then some (fr||τ.flat,h▸x) else cW fr τ Lg x:=by
 cases τ<;>rfl
theorem Yx (st:St) (τ:Ty) (fr:Bool) (Lg:Ty) (x:Lg.den):Dz st τ (.at (.data fr Lg x))=if h:Lg=τ then some (fr||τ.flat,h▸x) else if τ.Ak then none else Hc st τ (.data fr Lg x):=rfl
theorem sd (st:St) (τ:Ty) (fr:Bool) (Lg:Ty) (x:Lg.den):Hc st τ (.data fr Lg x)=Cn st τ (.data fr Lg x):=by
 cases τ<;>rfl
theorem yl {S:Nat->Prop} {fr:Bool} {τ Lg:Ty} {x:Lg.den} {f:Bool} {y:τ.den} {v:Value} (h:cW fr τ Lg x=some (f,y)) (hc:Ck w (Cb X.w0.heap.size X.Sc π fr) Lg v x) (hS:Nk X S f):
  τ.Ak=false/\f=fr/\Cells w S τ [v] y:=by
 unfold cW at h
 split at h
 ·split at h
  ·rename_i e e' _ BD
   subst BD
   simp only [Aa,Ab] at h
   obtain ⟨rfl,rfl⟩:=h
   refine ⟨rfl,rfl,?_⟩
   have h1:=SH.apart (S:=S) (τ:= .oslice e') ⟨hS.1,hS.2.imp (λh=>by rw [h];rfl) id⟩ (Ck.Oc rfl hc)
   simp only [Cells] at h1⊢
   rcases h1 with ⟨rfl,c,h1⟩|⟨xs,ad,len,cap,rfl,h1,h2,h3,h4⟩
   ·exact ⟨none,0,c,h1,rfl,Zr _, .inl rfl⟩
   ·exact ⟨_,len,cap,h1,h2,h3,h4.imp id λ⟨g,o,ha,h4⟩=>⟨g,o,by rw [ha],h4⟩⟩
  ·cases h
 ·split at h
  ·rename_i a a' _ VF
   subst VF
   simp only [Aa,Ab] at h
   obtain ⟨rfl,rfl⟩:=h
   refine ⟨rfl,rfl,?_⟩
   have h1:=SH.apart (S:=S) (τ:= .ptr a') ⟨hS.1,hS.2.imp (λh=>by rw [h];rfl) id⟩ (Ck.Oc rfl hc)
   simp only [Cells] at h1⊢
   obtain ⟨g,o,h2⟩:=h1
   exact .inr ⟨_,g,o,rfl,h2⟩
  ·cases h
 ·cases h
theorem nC {st:St} (h:Kc X w π st.heap) {S:Nat->Prop} (τ:Ty) (c:AC) (v:Value) (fr:Bool) (x:τ.den) (Pp:τ.Ak=false) (hc:Fe X w π st.heap c v)
  (hv:Cn st τ c=some (fr,x)) (hS:Nk X S fr):Cells w S τ [v] x:=by
 cases c with
 |data Rj Lg y=>
  rw [Kw] at hv
  split at hv
  ·rename_i ht;subst ht
   simp only [Aa,Ab] at hv
   obtain ⟨rfl,rfl⟩:=hv
   exact SH.apart hS (Ck.Oc Pp hc)
  ·exact (yl hv hc hS).2.2
 |Jf=>
  cases τ with
  |slice e=>
   simp only [Cn,Aa,Ab] at hv
   obtain ⟨_,rfl⟩:=hv
   exact ⟨none,0,0,by rw [show v=_ from hc],rfl,Ao _, .inl rfl⟩
  |oslice e=>
   simp only [Cn,Aa,Ab] at hv
   obtain ⟨_,rfl⟩:=hv
   exact .inl ⟨rfl,0,by rw [show v=_ from hc]⟩
  |_=>simp [Cn] at hv
 |Qx=>
  cases τ with
  |optr e=>
   simp only [Cn,Aa,Ab] at hv
   obtain ⟨_,rfl⟩:=hv
   exact .inl ⟨rfl,by rw [show v=_ from hc]⟩
  |_=>simp [Cn] at hv
 |own l off len=>
  cases τ with
  |slice e=>
   simp only [Cn] at hv
   split at hv
   ·rename_i Rj EG e' tid xs hl
    split at hv
    ·rename_i he;subst he
     simp only [Aa,Ab] at hv
     obtain ⟨rfl,rfl⟩:=hv
     obtain ⟨h2,h3⟩:=Lk hc hl
     exact jn h hl h2 h3 (λk hk ⟨r,hr,vS⟩=>hS.own h hk ⟨l,r,hr,vS⟩) (λk _ hk=>hS.cL k hk)
    ·cases hv
   ·rename_i e' tid xs hl
    split at hv
    ·rename_i he;subst he
     simp only [Aa,Ab] at hv
     obtain ⟨rfl,rfl⟩:=hv
     obtain ⟨h2,h3⟩:=Xi hc hl
     exact gw h hl h2 h3 (λk hk ⟨r,hr,vS⟩=>hS.own h hk ⟨l,r,hr,vS⟩)
    ·cases hv
   ·rename_i e' tid rows kp hl
    split at hv
    ·rename_i he;subst he
     simp only [Aa,Ab] at hv
     obtain ⟨rfl,rfl⟩:=hv
     obtain ⟨h2,h3⟩:=iE hc hl
     exact m6 h hl h2 h3 (λk hk ⟨r,hr,vS⟩=>hS.own h hk ⟨l,r,hr,vS⟩) (λk hk=>hS.cL k hk)
    ·cases hv
   ·cases hv
  |_=>simp [Cn] at hv
 |sub l i c=>
  cases τ with
  |slice e=>
   simp only [Cn] at hv
   split at hv
   ·rename_i e' tid rows kp hl
    split at hv
    ·rename_i he;subst he
     simp only [Aa,Ab] at hv
     obtain ⟨rfl,rfl⟩:=hv
     exact m7 h hl (ta hc hl) hc (λk hk ⟨r,hr,vS⟩=>hS.own h hk ⟨l,r,hr,vS⟩) (λk hk=>hS.cL k hk)
    ·cases hv
   ·cases hv
  |_=>simp [Cn] at hv
 |Hv l=>
  cases τ with
  |smap vt=>
   simp only [Cn] at hv
   split at hv
   ·rename_i v' m hl
    split at hv
    ·rename_i he;subst he
     simp only [Aa,Ab] at hv
     obtain ⟨_,rfl⟩:=hv
     obtain ⟨r,vt,m',h1,h2,rfl⟩:=hc
     exact pO ((h.heap l).Ns hl) (by rw [h2];rfl) λhs=>hS.own h hs ⟨l,r,h2,h.Bu h2⟩
    ·cases hv
   ·cases hv
  |_=>simp [Cn] at hv
 |_=>cases τ<;>simp [Cn] at hv
theorem Pu {st:St} {τ:Ty} (Pp:τ.Ak=false) (cs:List AC):Dn st τ cs=match cs with| [c]=>Cn st τ c|_=>none:=by
 cases τ<;>simp [Ty.Ak] at Pp<;>rcases cs with _|⟨c,_|⟨d,r⟩⟩<;>rfl
theorem fz {st:St} (h:Kc X w π st.heap) {S:Nat->Prop} : ∀(τ:Ty) (cs:List AC) (us:List Value) (fr:Bool) (x:τ.den),Eb X w π st.heap cs us->
  Dn st τ cs=some (fr,x)->Nk X S fr->Cells w S τ us x:=by
 have one: ∀(τ:Ty) (cs:List AC) (us:List Value) (fr:Bool) (x:τ.den),τ.Ak=false->Eb X w π st.heap cs us->
   Dn st τ cs=some (fr,x)->Nk X S fr->Cells w S τ us x:=by
  intro τ cs us fr x Pp hr hv hS
  rw [Pu Pp] at hv
  split at hv
  ·rename_i c
   obtain ⟨u,hu,_,hc⟩:=hr.2 0 c rfl
   have hl:us.length=1:=hr.1
   obtain ⟨u',rfl⟩:=Cv.1 hl
   simp at hu;subst hu
   exact nC h τ c _ fr x Pp hc hv hS
  ·cases hv
 intro τ
 induction τ with
 |unit=>
  intro cs us fr x hr hv hS
  cases cs with
  |nil=>have:us= []:=Cj hr.1;exact this
  |cons c cs=>simp [Dn] at hv
 |pair a r cC cw=>
  intro cs us fr x hr hv hS
  simp only [Dn] at hv
  split at hv
  ·rename_i f1 y f2 z h1 h2
   simp only [Aa,Ab] at hv
   obtain ⟨rfl,rfl⟩:=hv
   have GJ:Eb X w π st.heap (cs.take a.size) (us.take a.size):=
    ⟨by simp [hr.1],λi c hc=>by
     rw [By] at hc⊢
     split at hc
     ·rename_i hi;simp only [hi,Nh];exact hr.2 i c hc
     ·cases hc⟩
   have JA:Eb X w π st.heap (cs.drop a.size) (us.drop a.size):=
    ⟨by simp [hr.1],λi c hc=>by
     rw [Ce] at hc⊢
     exact hr.2 _ c hc⟩
   exact ⟨us.take a.size,us.drop a.size,(Ir _ _).symm,cC _ _ _ _ GJ h1 hS.and_left,cw _ _ _ _ JA h2 hS.and_right⟩
  ·cases hv
 |_=>exact λcs us fr x hr hv hS=>one _ cs us fr x rfl hr hv hS
theorem Um {cs:List AC} {us:List Value} (h:Eb X w π H cs us) (i n:Nat):Eb X w π H ((cs.drop i).take n) ((us.drop i).take n):=
 ⟨by simp [h.1],λj c hc=>by
  rw [By] at hc⊢
  split at hc
  ·rename_i hi
   simp only [hi,Nh]
   rw [Ce] at hc⊢
   exact h.2 _ c hc
  ·cases hc⟩
theorem ed {st:St} (h:Kc X w π st.heap) {S:Nat->Prop} {a:Ty} {l i:Nat} {fr:Bool} {x:a.den} (hv:Qc st a l i=some (fr,x)) (hS:Nk X S fr) {r:Real} (hr:π l=some r):
  r.g<w.heap.size/\ ¬S r.g/\ ∃es:List Value,es.length=a.size/\(∀j u,es[j]?=some u->w.cell? ⟨r.g,i+j,none⟩=some u)/\Cells w S a es x:=by
 unfold Qc at hv
 split at hv
 ·rename_i tid vs hl
  obtain ⟨r',h3,h4,cur,h5,h6⟩:=(h.heap l).Ns hl
  rw [hr] at h3;cases h3
  have hc:=fz h a _ _ fr x (Um h6 i a.size) hv hS
  refine ⟨Ej h5,λhs=>hS.own h hs ⟨l,r,hr,h4⟩,_,Cells.len a _ x hc,λj u hu=>?_,hc⟩
  rw [cellOf h5]
  rw [By] at hu
  split at hu
  ·rw [Ce] at hu;simpa using hu
  ·cases hu
 ·cases hv
theorem sa {st:St} (h:Kc X w π st.heap) {S:Nat->Prop} : ∀(τ:Ty) (Cx:List (Nat×Nat)) (us:List Value) (fr:Bool) (x:τ.den),us.length=Cx.length->
  (∀(j:Nat) p,Cx[j]?=some p-> ∃r tid vs,Ap st.heap p.1=some (.var tid vs)/\π p.1=some r/\us[j]?=some (.pointer (some ⟨r.g,p.2,none⟩)))->
  Ij st τ Cx=some (fr,x)->Nk X S fr->Cells w S τ us x:=by
 intro τ
 induction τ with
 |unit=>
  intro Cx us fr x hl hr hv hS
  cases Cx with
  |nil=>exact Cj hl
  |cons c cs=>simp [Ij] at hv
 |pair a r _ cw=>
  intro Cx us fr x hl hr hv hS
  cases a with
  |ptr a=>
   cases Cx with
   |nil=>simp [Ij] at hv
   |cons c cs=>
    obtain ⟨l,i⟩:=c
    simp only [Ij] at hv
    split at hv
    ·rename_i f1 y f2 z h1 h2
     simp only [Aa,Ab] at hv
     obtain ⟨rfl,rfl⟩:=hv
     cases us with
     |nil=>simp at hl
     |cons u us=>
      obtain ⟨r0,tid,vs,h3,h4,h5⟩:=hr 0 (l,i) rfl
      simp only [Bd,Aa] at h5
      subst h5
      obtain ⟨h6,h7,es,h8,h9,lb⟩:=ed h h1 hS.and_left h4
      exact ⟨[_],us,rfl,⟨r0.g,i,rfl,h6,h7,es,h8,h9,lb⟩,cw cs us f2 z (by simpa using hl) (λj p hp=>hr (j+1) p hp) h2 hS.and_right⟩
    ·cases hv
  |_=>cases Cx<;>simp [Ij] at hv
 |_=>intro Cx us fr x hl hr hv;cases Cx<;>simp [Ij] at hv
theorem uL {st:St} (h:Kc X w π st.heap) {S:Nat->Prop} (τ:Ty) (c:AC) (v:Value) (fr:Bool) (x:τ.den) (Pp:τ.Ak=false) (hc:Fe X w π st.heap c v)
  (hv:Hc st τ c=some (fr,x)) (hS:Nk X S fr):Cells w S τ [v] x:=by
 have Le:Cn st τ c=some (fr,x)->Cells w S τ [v] x:= λhv=>nC h τ c v fr x Pp hc hv hS
 cases τ with
 |ptr a=>
  cases c with
  |Ez l i=>
   obtain ⟨r,tid,vs,h1,h2,rfl⟩:=hc
   obtain ⟨h6,h7,h8⟩:=ed h hv hS h2
   exact ⟨r.g,i,rfl,h6,h7,h8⟩
  |_=>exact Le hv
 |optr a=>
  cases c with
  |Ez l i=>
   obtain ⟨r,tid,vs,h1,h2,rfl⟩:=hc
   simp only [Hc] at hv
   cases hp:Qc st a l i with
   |none=>rw [hp] at hv;cases hv
   |some p=>
    rw [hp] at hv
    simp only [Ah,Aa,Ab] at hv
    obtain ⟨rfl,rfl⟩:=hv
    obtain ⟨h6,h7,h8⟩:=ed h hp hS h2
    exact .inr ⟨_,r.g,i,rfl,rfl,h6,h7,h8⟩
  |_=>exact Le hv
 |clo f a=>
  cases c with
  |clo g Cx=>
   simp only [Hc] at hv
   split at hv
   ·rename_i hg
    obtain ⟨rfl,Im⟩:=hg
    obtain ⟨us,rfl,h2,h3⟩:=hc
    exact ⟨us,by rw [cR Im],sa h a Cx us fr x h2 h3 hv hS⟩
   ·cases hv
  |_=>exact Le hv
 |_=>exact Le hv
theorem Tl {st:St} (h:Kc X w π st.heap) {S:Nat->Prop} (τ:Ty) (c:AV) (v:Value) (fr:Bool) (x:τ.den) (hc:Ba X w π st.heap c v)
  (hv:Dz st τ c=some (fr,x)) (hS:Nk X S fr):Ck w S τ v x:=by
 have Le: ∀c:AC,Fe X w π st.heap c v->(if τ.Ak then none else Hc st τ c)=some (fr,x)->Ck w S τ v x:=by
  intro c hc hv
  split at hv
  ·cases hv
  ·rename_i Pp
   simp only [Gt] at Pp
   exact Ck.ix Pp (uL h τ c v fr x Pp hc hv hS)
 cases c with
 | «at»c=>
  cases c with
  |data Rj Lg y=>
   rw [Yx] at hv
   split at hv
   ·rename_i ht;subst ht
    simp only [Aa,Ab] at hv
    obtain ⟨rfl,rfl⟩:=hv
    obtain ⟨cs,h1,h2⟩:=hc
    exact ⟨cs,SH.apart hS h1,h2⟩
   ·exact Le (.data Rj Lg y) hc hv
  |undef=>exact Le .undef hc hv
  |skip=>exact Le .skip hc hv
  |Jf=>exact Le .Jf hc hv
  |Qx=>exact Le .Qx hc hv
  |own l off len=>exact Le (.own l off len) hc hv
  |Ez l i=>exact Le (.Ez l i) hc hv
  |Hj l i=>exact Le (.Hj l i) hc hv
  |clo f Cx=>exact Le (.clo f Cx) hc hv
  |Hv l=>exact Le (.Hv l) hc hv
  |sub l i c=>exact Le (.sub l i c) hc hv
  |Hf l i c=>exact Le (.Hf l i c) hc hv
 |agg cs=>
  simp only [Dz] at hv
  split at hv
  ·rename_i Pp
   obtain ⟨us,rfl,hr⟩:=hc
   exact ⟨us,fz h τ cs us fr x hr hv hS,by simp [Bi,Pp]⟩
  ·cases hv
 |Wh Rj Lg y=>simp [Dz] at hv
 |Jy l=>simp [Dz] at hv
theorem Vu {st:St} (h:Kc X w π st.heap) {S:Nat->Prop} : ∀(τ:Ty) (cs:List AV) (vs:List Value) (fr:Bool) (x:τ.den),cs.length=vs.length->
  (∀(i:Nat) c v,cs[i]?=some c->vs[i]?=some v->Ba X w π st.heap c v)->Cs st τ cs=some (fr,x)->Nk X S fr->Bv w S τ vs x
 | .unit,[],vs,fr,x,hl,hr,hv,hS=>by
  have:vs= []:=Cj hl.symm
  subst this;trivial
 | .unit,_::_,vs,fr,x,hl,hr,hv,hS=>by simp [Cs] at hv
 | .pair a r,[],vs,fr,x,hl,hr,hv,hS=>by simp [Cs] at hv
 | .pair a r,c::cs,[],fr,x,hl,hr,hv,hS=>by simp at hl
 | .pair a r,c::cs,v::vs,fr,x,hl,hr,hv,hS=>by
  simp only [Cs] at hv
  split at hv
  ·rename_i f1 y f2 z h1 h2
   simp only [Aa,Ab] at hv
   obtain ⟨rfl,rfl⟩:=hv
   exact ⟨Tl h a c v f1 y (hr 0 c v rfl rfl) h1 hS.and_left,Vu h r cs vs f2 z (by simpa using hl) (λi c' v' hc tq=>hr (i+1) c' v' hc tq) h2 hS.and_right⟩
  ·cases hv
 | .int _,cs,vs,fr,x,hl,hr,hv,hS=>by cases cs<;>simp [Cs] at hv
 | .bool,cs,vs,fr,x,hl,hr,hv,hS=>by cases cs<;>simp [Cs] at hv
 | .str,cs,vs,fr,x,hl,hr,hv,hS=>by cases cs<;>simp [Cs] at hv
 | .slice _,cs,vs,fr,x,hl,hr,hv,hS=>by cases cs<;>simp [Cs] at hv
 | .ptr _,cs,vs,fr,x,hl,hr,hv,hS=>by cases cs<;>simp [Cs] at hv
 | .oslice _,cs,vs,fr,x,hl,hr,hv,hS=>by cases cs<;>simp [Cs] at hv
 | .optr _,cs,vs,fr,x,hl,hr,hv,hS=>by cases cs<;>simp [Cs] at hv
 | .smap _,cs,vs,fr,x,hl,hr,hv,hS=>by cases cs<;>simp [Cs] at hv
 | .clo _ _,cs,vs,fr,x,hl,hr,hv,hS=>by cases cs<;>simp [Cs] at hv
end
end Go.Proofs.Ytfgfigkbgecfnaa
