/-
  Part 6 of the proof that the statement FnTwoPhase holds.
-/
import Derived.Test.YtkkdpknjohcekaaCFTwoPhase04
import Derived.WalkKit
import Derived.Laws.Slices
namespace Go.Proofs.Ytkkdpknjohcekaa
open Go.RowKit
def Bx:Ty->List Value
 | .int k=> [.int k 0]
 | .bool=> [.bool false]
 | .str=> [.string ByteArray.empty]
 | .slice _=> [.slice none 0 0]
 | .oslice _=> [.slice none 0 0]
 | .ptr _=> [.pointer none]
 | .optr _=> [.pointer none]
 | .smap _=> [.map none]
 | .clo _ _=> [.nilFunc]
 | .unit=> []
 | .pair a r=>Bx a++Bx r
structure oR (P:Program) (T:Tab) (t:TypeId) (τ:Ty):Prop where
 info: ∃i:TypeInfo,P.info? t=some i/\i.size=τ.size/\i.bytes<=256/\i.zero=some (Ci τ (Bx τ))
 desc:match τ with
  | .int k=>P.underlying t=some (.int k)
  | .bool=>P.underlying t=some .bool
  | .str=>P.underlying t=some .string
  | .slice e=> ∃te,P.underlying t=some (.slice te)/\T.elem t=some te/\T.ty te=some e
  | .oslice e=> ∃te,P.underlying t=some (.slice te)/\T.elem t=some te/\T.ty te=some e
  | .ptr _=> ∃u,P.underlying t=some (.pointer u)
  | .optr _=> ∃u,P.underlying t=some (.pointer u)
  | .smap _=> ∃k e,P.underlying t=some (.map k e)
  | .clo _ _=>False
  | .unit| .pair _ _=> ∃fs,P.underlying t=some (.struct fs)
def placesOf (fs:Array Field):Sem (Array (Nat×Nat)):=fs.mapM λf=>do pure (f.offset,<-sizeOf f.type)
structure Eh (P:Program) (T:Tab):Prop where
 fill: ∀t τ,T.ty t=some τ->τ.Ar=true-> ∃(fs:Array Field) (Mk:Array (Nat×Nat)),P.underlying t=some (.struct fs)/\(∀w,(placesOf fs).run P w= .ok Mk w)/\
  ∀f o u ρ,T.off t f=some (o,u)->T.ty u=some ρ->Mk[f]?=some (o,ρ.size)
 ty: ∀t τ,T.ty t=some τ->oR P T t τ
 elem: ∀t te,T.elem t=some te->P.underlying t=some (.slice te)
 mapOf: ∀t v,T.mapOf t=some v-> ∃k e,P.underlying t=some (.map k e)/\P.underlying k=some .string/\T.ty e=some v/\v.flat=true/\v.Ar=false
 off: ∀s f o t,T.off s f=some (o,t)-> ∃(fs:Array Field) (fd:Field),P.underlying s=some (.struct fs)/\fs[f]?=some fd/\fd.offset=o/\fd.type=t/\ ∃i:TypeInfo,P.info? t=some i/\i.size≠0
section
variable {P:Program} {T:Tab} {X:Ctx} {w w':World} {π:Pi} {H:List (Nat×OB)}
theorem Qt {t:TypeId} {d:TypeDesc} (h:P.underlying t=some d):(isAgg t).run P w= .ok (match d with| .struct _| .array _ _=>true|_=>false) w:=by
 unfold isAgg
 rw [Sem.run_bind,run_underlying h]
 cases d<;>rfl
theorem oR.agg {t:TypeId} {τ:Ty} (h:oR P T t τ):(isAgg t).run P w= .ok τ.Ar w:=by
 have hd:=h.desc
 cases τ<;>simp only at hd
 case int k=>rw [Qt hd];rfl
 case bool=>rw [Qt hd];rfl
 case str=>rw [Qt hd];rfl
 case slice e=>obtain ⟨te,hd,_⟩:=hd;rw [Qt hd];rfl
 case ptr e=>obtain ⟨te,hd⟩:=hd;rw [Qt hd];rfl
 case oslice e=>obtain ⟨te,hd,_⟩:=hd;rw [Qt hd];rfl
 case optr e=>obtain ⟨te,hd⟩:=hd;rw [Qt hd];rfl
 case smap e=>obtain ⟨k,te,hd⟩:=hd;rw [Qt hd];rfl
 case unit=>obtain ⟨te,hd⟩:=hd;rw [Qt hd];rfl
 case pair e r=>obtain ⟨te,hd⟩:=hd;rw [Qt hd];rfl
theorem oR.size {t:TypeId} {τ:Ty} (h:oR P T t τ):(sizeOf t).run P w= .ok τ.size w:=by
 obtain ⟨i,hi,hs,_⟩:=h.info
 simp [sizeOf,typeInfo,hi,hs]
theorem Dc.Sj {S:Nat->Prop} {τ:Ty} {v:Value} {x:τ.den} (Ue:τ.Ar=false) (h:Dc w S τ v x):Cells w S τ [v] x:=by
 obtain ⟨cs,hc,rfl⟩:=h
 have hl:=Cells.len τ cs x hc
 have h1:τ.size=1:=by cases τ<;>simp_all [Ty.Ar,Ty.size]
 rw [h1] at hl
 obtain ⟨c,rfl⟩:=Es.1 hl
 simpa [Ci,Ue] using hc
theorem Dc.oa {S:Nat->Prop} {τ:Ty} {v:Value} {x:τ.den} (Ue:τ.Ar=false) (h:Cells w S τ [v] x):Dc w S τ v x:=
 ⟨[v],h,by simp [Ci,Ue]⟩
def Tz (X:Ctx) (S:Nat->Prop) (fr:Bool):Prop:=(∀k,S k->k<X.w0.heap.size/\ ¬X.gv k)/\(fr=true\/ ∀k,S k->X.Sc k)
theorem Tz.iz {S:Nat->Prop} {fr:Bool} (h:Tz X S fr) (k:Nat) (hk:S k):Df X.w0.heap.size X.Sc π fr k:=by
 rcases h.2 with h2|h2
 ·exact .inr (.inr ⟨h2,(h.1 k hk).1⟩)
 ·exact .inr (.inl (h2 k hk))
theorem Tz.and_left {S:Nat->Prop} {f1 f2:Bool} (h:Tz X S (f1&&f2)):Tz X S f1:=
 ⟨h.1,h.2.imp (λh=>by simp at h;exact h.1) id⟩
theorem Tz.and_right {S:Nat->Prop} {f1 f2:Bool} (h:Tz X S (f1&&f2)):Tz X S f2:=
 ⟨h.1,h.2.imp (λh=>by simp at h;exact h.2) id⟩
theorem Rep.apart {S:Nat->Prop} {fr:Bool} {τ:Ty} {cs:List Value} {x:τ.den} (hS:Tz X S (fr||τ.flat)) (h:Cells w (Df X.w0.heap.size X.Sc π fr) τ cs x):Cells w S τ cs x:=by
 cases hf:τ.flat with
 |true=>exact Cells.flat τ cs x hf h
 |false=>
  rw [hf,ij] at hS
  exact Cells.Fz (Aq _) (λ_ _ _=>rfl) (λk _ hk=>hS.iz k hk) τ cs x h
theorem Tz.own {S:Nat->Prop} {fr:Bool} (hS:Tz X S fr) (h:Nk X w π H) {k:Nat} (hk:S k): ¬Wf π k:= λho=>by
 have h1:=hS.1 k hk
 rcases (h.own ho).2 with h2|h2
 ·omega
 ·exact h1.2 h2
theorem Oi (st:St) (τ:Ty) (fr:Bool) (Ox:Ty) (x:Ox.den):Ee st τ (.data fr Ox x)=if h:Ox=τ then some (fr||τ.flat,h▸x) else iK fr τ Ox x:=by
 cases τ<;>rfl
theorem dk (st:St) (τ:Ty) (fr:Bool) (Ox:Ty) (x:Ox.den):Ge st τ (.at (.data fr Ox x))=if h:Ox=τ then some (fr||τ.flat,h▸x) else if τ.Ar then none else Kj st τ (.data fr Ox x):=rfl
theorem CJ (st:St) (τ:Ty) (fr:Bool) (Ox:Ty) (x:Ox.den):Kj st τ (.data fr Ox x)=Ee st τ (.data fr Ox x):=by
 cases τ<;>rfl
theorem TE {S:Nat->Prop} {fr:Bool} {τ Ox:Ty} {x:Ox.den} {f:Bool} {y:τ.den} {v:Value} (h:iK fr τ Ox x=some (f,y)) (hc:Dc w (Df X.w0.heap.size X.Sc π fr) Ox v x) (hS:Tz X S f):
  τ.Ar=false/\f=fr/\Cells w S τ [v] y:=by
 unfold iK at h
 split at h
 ·split at h
  ·rename_i e e' _ ZJ
   subst ZJ
   simp only [Aa,Ag] at h
   obtain ⟨rfl,rfl⟩:=h
   refine ⟨rfl,rfl,?_⟩
   have h1:=Rep.apart (S:=S) (τ:= .oslice e') ⟨hS.1,hS.2.imp (λh=>by rw [h];rfl) id⟩ (Dc.Sj rfl hc)
   simp only [Cells] at h1⊢
   rcases h1 with ⟨rfl,c,h1⟩|⟨xs,ad,len,cap,rfl,h1,h2,h3,h4⟩
   ·exact ⟨none,0,c,h1,rfl,Kr _, .inl rfl⟩
   ·exact ⟨_,len,cap,h1,h2,h3,h4.imp id λ⟨g,o,ha,h4⟩=>⟨g,o,by rw [ha],h4⟩⟩
  ·cases h
 ·split at h
  ·rename_i a a' _ haa
   subst haa
   simp only [Aa,Ag] at h
   obtain ⟨rfl,rfl⟩:=h
   refine ⟨rfl,rfl,?_⟩
   have h1:=Rep.apart (S:=S) (τ:= .ptr a') ⟨hS.1,hS.2.imp (λh=>by rw [h];rfl) id⟩ (Dc.Sj rfl hc)
   simp only [Cells] at h1⊢
   obtain ⟨g,o,h2⟩:=h1
   exact .inr ⟨_,g,o,rfl,h2⟩
  ·cases h
 ·cases h
theorem vD {st:St} (h:Nk X w π st.heap) {S:Nat->Prop} (τ:Ty) (c:AC) (v:Value) (fr:Bool) (x:τ.den) (Ue:τ.Ar=false) (hc:Hu X w π st.heap c v)
  (hv:Ee st τ c=some (fr,x)) (hS:Tz X S fr):Cells w S τ [v] x:=by
 cases c with
 |data Wm Ox y=>
  rw [Oi] at hv
  split at hv
  ·rename_i ht;subst ht
   simp only [Aa,Ag] at hv
   obtain ⟨rfl,rfl⟩:=hv
   exact Rep.apart hS (Dc.Sj Ue hc)
  ·exact (TE hv hc hS).2.2
 |Mj=>
  cases τ with
  |slice e=>
   simp only [Ee,Aa,Ag] at hv
   obtain ⟨_,rfl⟩:=hv
   exact ⟨none,0,0,by rw [show v=_ from hc],rfl,Aq _, .inl rfl⟩
  |oslice e=>
   simp only [Ee,Aa,Ag] at hv
   obtain ⟨_,rfl⟩:=hv
   exact .inl ⟨rfl,0,by rw [show v=_ from hc]⟩
  |_=>simp [Ee] at hv
 |Wa=>
  cases τ with
  |optr e=>
   simp only [Ee,Aa,Ag] at hv
   obtain ⟨_,rfl⟩:=hv
   exact .inl ⟨rfl,by rw [show v=_ from hc]⟩
  |_=>simp [Ee] at hv
 |own l off len=>
  cases τ with
  |slice e=>
   simp only [Ee] at hv
   split at hv
   ·rename_i Wm tr' e' tid xs hl
    split at hv
    ·rename_i he;subst he
     simp only [Aa,Ag] at hv
     obtain ⟨rfl,rfl⟩:=hv
     obtain ⟨h2,h3⟩:=Pd hc hl
     exact pF h hl h2 h3 (λk hk ⟨r,hr,LX⟩=>hS.own h hk ⟨l,r,hr,LX⟩) (λk _ hk=>hS.iz k hk)
    ·cases hv
   ·rename_i e' tid xs hl
    split at hv
    ·rename_i he;subst he
     simp only [Aa,Ag] at hv
     obtain ⟨rfl,rfl⟩:=hv
     obtain ⟨h2,h3⟩:=cg hc hl
     exact mQ h hl h2 h3 (λk hk ⟨r,hr,LX⟩=>hS.own h hk ⟨l,r,hr,LX⟩)
    ·cases hv
   ·rename_i e' tid rows kp hl
    split at hv
    ·rename_i he;subst he
     simp only [Aa,Ag] at hv
     obtain ⟨rfl,rfl⟩:=hv
     obtain ⟨h2,h3⟩:=oo hc hl
     exact th h hl h2 h3 (λk hk ⟨r,hr,LX⟩=>hS.own h hk ⟨l,r,hr,LX⟩) (λk hk=>hS.iz k hk)
    ·cases hv
   ·cases hv
  |_=>simp [Ee] at hv
 |sub l i c=>
  cases τ with
  |slice e=>
   simp only [Ee] at hv
   split at hv
   ·rename_i e' tid rows kp hl
    split at hv
    ·rename_i he;subst he
     simp only [Aa,Ag] at hv
     obtain ⟨rfl,rfl⟩:=hv
     exact tj h hl (FB hc hl) hc (λk hk ⟨r,hr,LX⟩=>hS.own h hk ⟨l,r,hr,LX⟩) (λk hk=>hS.iz k hk)
    ·cases hv
   ·cases hv
  |_=>simp [Ee] at hv
 |Ky l=>
  cases τ with
  |smap vt=>
   simp only [Ee] at hv
   split at hv
   ·rename_i v' m hl
    split at hv
    ·rename_i he;subst he
     simp only [Aa,Ag] at hv
     obtain ⟨_,rfl⟩:=hv
     obtain ⟨r,vt,m',h1,h2,rfl⟩:=hc
     exact yp ((h.heap l).Ru hl) (by rw [h2];rfl) λhs=>hS.own h hs ⟨l,r,h2,h.Da h2⟩
    ·cases hv
   ·cases hv
  |_=>simp [Ee] at hv
 |_=>cases τ<;>simp [Ee] at hv
theorem Ul {st:St} {τ:Ty} (Ue:τ.Ar=false) (cs:List AC):Fq st τ cs=match cs with| [c]=>Ee st τ c|_=>none:=by
 cases τ<;>simp [Ty.Ar] at Ue<;>rcases cs with _|⟨c,_|⟨d,r⟩⟩<;>rfl
theorem lO {st:St} (h:Nk X w π st.heap) {S:Nat->Prop} : ∀(τ:Ty) (cs:List AC) (us:List Value) (fr:Bool) (x:τ.den),Gh X w π st.heap cs us->
  Fq st τ cs=some (fr,x)->Tz X S fr->Cells w S τ us x:=by
 have one: ∀(τ:Ty) (cs:List AC) (us:List Value) (fr:Bool) (x:τ.den),τ.Ar=false->Gh X w π st.heap cs us->
   Fq st τ cs=some (fr,x)->Tz X S fr->Cells w S τ us x:=by
  intro τ cs us fr x Ue hr hv hS
  rw [Ul Ue] at hv
  split at hv
  ·rename_i c
   obtain ⟨u,hu,_,hc⟩:=hr.2 0 c rfl
   have hl:us.length=1:=hr.1
   obtain ⟨u',rfl⟩:=Es.1 hl
   simp at hu;subst hu
   exact vD h τ c _ fr x Ue hc hv hS
  ·cases hv
 intro τ
 induction τ with
 |unit=>
  intro cs us fr x hr hv hS
  cases cs with
  |nil=>have:us= []:=Cp hr.1;exact this
  |cons c cs=>simp [Fq] at hv
 |pair a r il ie=>
  intro cs us fr x hr hv hS
  simp only [Fq] at hv
  split at hv
  ·rename_i f1 y f2 z h1 h2
   simp only [Aa,Ag] at hv
   obtain ⟨rfl,rfl⟩:=hv
   have hr1:Gh X w π st.heap (cs.take a.size) (us.take a.size):=
    ⟨by simp [hr.1],λi c hc=>by
     rw [Db] at hc⊢
     split at hc
     ·rename_i hi;simp only [hi,Oz];exact hr.2 i c hc
     ·cases hc⟩
   have hr2:Gh X w π st.heap (cs.drop a.size) (us.drop a.size):=
    ⟨by simp [hr.1],λi c hc=>by
     rw [Cs] at hc⊢
     exact hr.2 _ c hc⟩
   exact ⟨us.take a.size,us.drop a.size,(Ka _ _).symm,il _ _ _ _ hr1 h1 hS.and_left,ie _ _ _ _ hr2 h2 hS.and_right⟩
  ·cases hv
 |_=>exact λcs us fr x hr hv hS=>one _ cs us fr x rfl hr hv hS
theorem ae {cs:List AC} {us:List Value} (h:Gh X w π H cs us) (i n:Nat):Gh X w π H ((cs.drop i).take n) ((us.drop i).take n):=
 ⟨by simp [h.1],λj c hc=>by
  rw [Db] at hc⊢
  split at hc
  ·rename_i hi
   simp only [hi,Oz]
   rw [Cs] at hc⊢
   exact h.2 _ c hc
  ·cases hc⟩
theorem jX {st:St} (h:Nk X w π st.heap) {S:Nat->Prop} {a:Ty} {l i:Nat} {fr:Bool} {x:a.den} (hv:Uz st a l i=some (fr,x)) (hS:Tz X S fr) {r:Real} (hr:π l=some r):
  r.g<w.heap.size/\ ¬S r.g/\ ∃es:List Value,es.length=a.size/\(∀j u,es[j]?=some u->w.cell? ⟨r.g,i+j,none⟩=some u)/\Cells w S a es x:=by
 unfold Uz at hv
 split at hv
 ·rename_i tid vs hl
  obtain ⟨r',h3,h4,cur,h5,h6⟩:=(h.heap l).Ru hl
  rw [hr] at h3;cases h3
  have hc:=lO h a _ _ fr x (ae h6 i a.size) hv hS
  refine ⟨Gp h5,λhs=>hS.own h hs ⟨l,r,hr,h4⟩,_,Cells.len a _ x hc,λj u hu=>?_,hc⟩
  rw [cellOf h5]
  rw [Db] at hu
  split at hu
  ·rw [Cs] at hu;simpa using hu
  ·cases hu
 ·cases hv
theorem CI {st:St} (h:Nk X w π st.heap) {S:Nat->Prop} : ∀(τ:Ty) (Ew:List (Nat×Nat)) (us:List Value) (fr:Bool) (x:τ.den),us.length=Ew.length->
  (∀(j:Nat) p,Ew[j]?=some p-> ∃r tid vs,Ay st.heap p.1=some (.var tid vs)/\π p.1=some r/\us[j]?=some (.pointer (some ⟨r.g,p.2,none⟩)))->
  Lr st τ Ew=some (fr,x)->Tz X S fr->Cells w S τ us x:=by
 intro τ
 induction τ with
 |unit=>
  intro Ew us fr x hl hr hv hS
  cases Ew with
  |nil=>exact Cp hl
  |cons c cs=>simp [Lr] at hv
 |pair a r _ ie=>
  intro Ew us fr x hl hr hv hS
  cases a with
  |ptr a=>
   cases Ew with
   |nil=>simp [Lr] at hv
   |cons c cs=>
    obtain ⟨l,i⟩:=c
    simp only [Lr] at hv
    split at hv
    ·rename_i f1 y f2 z h1 h2
     simp only [Aa,Ag] at hv
     obtain ⟨rfl,rfl⟩:=hv
     cases us with
     |nil=>simp at hl
     |cons u us=>
      obtain ⟨r0,tid,vs,h3,h4,h5⟩:=hr 0 (l,i) rfl
      simp only [Bz,Aa] at h5
      subst h5
      obtain ⟨h6,h7,es,h8,h9,qt⟩:=jX h h1 hS.and_left h4
      exact ⟨[_],us,rfl,⟨r0.g,i,rfl,h6,h7,es,h8,h9,qt⟩,ie cs us f2 z (by simpa using hl) (λj p hp=>hr (j+1) p hp) h2 hS.and_right⟩
    ·cases hv
  |_=>cases Ew<;>simp [Lr] at hv
 |_=>intro Ew us fr x hl hr hv;cases Ew<;>simp [Lr] at hv
theorem JD {st:St} (h:Nk X w π st.heap) {S:Nat->Prop} (τ:Ty) (c:AC) (v:Value) (fr:Bool) (x:τ.den) (Ue:τ.Ar=false) (hc:Hu X w π st.heap c v)
  (hv:Kj st τ c=some (fr,x)) (hS:Tz X S fr):Cells w S τ [v] x:=by
 have Ot:Ee st τ c=some (fr,x)->Cells w S τ [v] x:= λhv=>vD h τ c v fr x Ue hc hv hS
 cases τ with
 |ptr a=>
  cases c with
  |Ho l i=>
   obtain ⟨r,tid,vs,h1,h2,rfl⟩:=hc
   obtain ⟨h6,h7,h8⟩:=jX h hv hS h2
   exact ⟨r.g,i,rfl,h6,h7,h8⟩
  |_=>exact Ot hv
 |optr a=>
  cases c with
  |Ho l i=>
   obtain ⟨r,tid,vs,h1,h2,rfl⟩:=hc
   simp only [Kj] at hv
   cases hp:Uz st a l i with
   |none=>rw [hp] at hv;cases hv
   |some p=>
    rw [hp] at hv
    simp only [An,Aa,Ag] at hv
    obtain ⟨rfl,rfl⟩:=hv
    obtain ⟨h6,h7,h8⟩:=jX h hp hS h2
    exact .inr ⟨_,r.g,i,rfl,rfl,h6,h7,h8⟩
  |_=>exact Ot hv
 |clo f a=>
  cases c with
  |clo g Ew=>
   simp only [Kj] at hv
   split at hv
   ·rename_i hg
    obtain ⟨rfl,Lg⟩:=hg
    obtain ⟨us,rfl,h2,h3⟩:=hc
    exact ⟨us,by rw [iG Lg],CI h a Ew us fr x h2 h3 hv hS⟩
   ·cases hv
  |_=>exact Ot hv
 |_=>exact Ot hv
theorem Zd {st:St} (h:Nk X w π st.heap) {S:Nat->Prop} (τ:Ty) (c:AV) (v:Value) (fr:Bool) (x:τ.den) (hc:Bt X w π st.heap c v)
  (hv:Ge st τ c=some (fr,x)) (hS:Tz X S fr):Dc w S τ v x:=by
 have Ot: ∀c:AC,Hu X w π st.heap c v->(if τ.Ar then none else Kj st τ c)=some (fr,x)->Dc w S τ v x:=by
  intro c hc hv
  split at hv
  ·cases hv
  ·rename_i Ue
   simp only [En] at Ue
   exact Dc.oa Ue (JD h τ c v fr x Ue hc hv hS)
 cases c with
 | «at»c=>
  cases c with
  |data Wm Ox y=>
   rw [dk] at hv
   split at hv
   ·rename_i ht;subst ht
    simp only [Aa,Ag] at hv
    obtain ⟨rfl,rfl⟩:=hv
    obtain ⟨cs,h1,h2⟩:=hc
    exact ⟨cs,Rep.apart hS h1,h2⟩
   ·exact Ot (.data Wm Ox y) hc hv
  |undef=>exact Ot .undef hc hv
  |skip=>exact Ot .skip hc hv
  |Mj=>exact Ot .Mj hc hv
  |Wa=>exact Ot .Wa hc hv
  |own l off len=>exact Ot (.own l off len) hc hv
  |Ho l i=>exact Ot (.Ho l i) hc hv
  |Kp l i=>exact Ot (.Kp l i) hc hv
  |clo f Ew=>exact Ot (.clo f Ew) hc hv
  |Ky l=>exact Ot (.Ky l) hc hv
  |sub l i c=>exact Ot (.sub l i c) hc hv
  |Km l i c=>exact Ot (.Km l i c) hc hv
 |agg cs=>
  simp only [Ge] at hv
  split at hv
  ·rename_i Ue
   obtain ⟨us,rfl,hr⟩:=hc
   exact ⟨us,lO h τ cs us fr x hr hv hS,by simp [Ci,Ue]⟩
  ·cases hv
 |bB Wm Ox y=>simp [Ge] at hv
 |Nd l=>simp [Ge] at hv
theorem bk {st:St} (h:Nk X w π st.heap) {S:Nat->Prop} : ∀(τ:Ty) (cs:List AV) (vs:List Value) (fr:Bool) (x:τ.den),cs.length=vs.length->
  (∀(i:Nat) c v,cs[i]?=some c->vs[i]?=some v->Bt X w π st.heap c v)->El st τ cs=some (fr,x)->Tz X S fr->Cz w S τ vs x
 | .unit,[],vs,fr,x,hl,hr,hv,hS=>by
  have:vs= []:=Cp hl.symm
  subst this;trivial
 | .unit,_::_,vs,fr,x,hl,hr,hv,hS=>by simp [El] at hv
 | .pair a r,[],vs,fr,x,hl,hr,hv,hS=>by simp [El] at hv
 | .pair a r,c::cs,[],fr,x,hl,hr,hv,hS=>by simp at hl
 | .pair a r,c::cs,v::vs,fr,x,hl,hr,hv,hS=>by
  simp only [El] at hv
  split at hv
  ·rename_i f1 y f2 z h1 h2
   simp only [Aa,Ag] at hv
   obtain ⟨rfl,rfl⟩:=hv
   exact ⟨Zd h a c v f1 y (hr 0 c v rfl rfl) h1 hS.and_left,bk h r cs vs f2 z (by simpa using hl) (λi c' v' hc xy=>hr (i+1) c' v' hc xy) h2 hS.and_right⟩
  ·cases hv
 | .int _,cs,vs,fr,x,hl,hr,hv,hS=>by cases cs<;>simp [El] at hv
 | .bool,cs,vs,fr,x,hl,hr,hv,hS=>by cases cs<;>simp [El] at hv
 | .str,cs,vs,fr,x,hl,hr,hv,hS=>by cases cs<;>simp [El] at hv
 | .slice _,cs,vs,fr,x,hl,hr,hv,hS=>by cases cs<;>simp [El] at hv
 | .ptr _,cs,vs,fr,x,hl,hr,hv,hS=>by cases cs<;>simp [El] at hv
 | .oslice _,cs,vs,fr,x,hl,hr,hv,hS=>by cases cs<;>simp [El] at hv
 | .optr _,cs,vs,fr,x,hl,hr,hv,hS=>by cases cs<;>simp [El] at hv
 | .smap _,cs,vs,fr,x,hl,hr,hv,hS=>by cases cs<;>simp [El] at hv
 | .clo _ _,cs,vs,fr,x,hl,hr,hv,hS=>by cases cs<;>simp [El] at hv
end
end Go.Proofs.Ytkkdpknjohcekaa
