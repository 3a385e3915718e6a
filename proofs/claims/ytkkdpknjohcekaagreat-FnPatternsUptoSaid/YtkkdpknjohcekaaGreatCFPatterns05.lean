/-
  Part 6 of the proof that the statement FnPatterns holds.
-/
import Derived.Test.YtkkdpknjohcekaaGreatCFPatterns04
import Derived.WalkKit
import Derived.Laws.Slices
namespace Go.Proofs.YtkkdpknjohcekaaGreat
open Go.RowKit
def Bx:Ty->List Value
 | .int k=> [.int k 0]
 | .bool=> [.bool false]
 | .str=> [.string ByteArray.empty]
 | .slice _=> [.slice none 0 0]
 | .oslice _=> [.slice none 0 0]
 | .ptr _=> [.pointer none]
 | .optr _=> [.pointer none]
 | .smap _=> [.map none]
 | .clo _ _=> [.nilFunc]
 | .unit=> []
 | .pair a r=>Bx a++Bx r
structure oI (P:Program) (T:Tab) (t:TypeId) (τ:Ty):Prop where
 info: ∃i:TypeInfo,P.info? t=some i/\i.size=τ.size/\i.bytes<=256/\i.zero=some (Cd τ (Bx τ))
 desc:match τ with
  | .int k=>P.underlying t=some (.int k)
  | .bool=>P.underlying t=some .bool
  | .str=>P.underlying t=some .string
  | .slice e=> ∃te,P.underlying t=some (.slice te)/\T.elem t=some te/\T.ty te=some e
  | .oslice e=> ∃te,P.underlying t=some (.slice te)/\T.elem t=some te/\T.ty te=some e
  | .ptr _=> ∃u,P.underlying t=some (.pointer u)
  | .optr _=> ∃u,P.underlying t=some (.pointer u)
  | .smap _=> ∃k e,P.underlying t=some (.map k e)
  | .clo _ _=>False
  | .unit| .pair _ _=> ∃fs,P.underlying t=some (.struct fs)
def placesOf (fs:Array Field):Sem (Array (Nat×Nat)):=fs.mapM λf=>do pure (f.offset,<-sizeOf f.type)
structure Eb (P:Program) (T:Tab):Prop where
 fill: ∀t τ,T.ty t=some τ->τ.Ap=true-> ∃(fs:Array Field) (Mb:Array (Nat×Nat)),P.underlying t=some (.struct fs)/\(∀w,(placesOf fs).run P w= .ok Mb w)/\
  ∀f o u ρ,T.off t f=some (o,u)->T.ty u=some ρ->Mb[f]?=some (o,ρ.size)
 ty: ∀t τ,T.ty t=some τ->oI P T t τ
 elem: ∀t te,T.elem t=some te->P.underlying t=some (.slice te)
 mapOf: ∀t v,T.mapOf t=some v-> ∃k e,P.underlying t=some (.map k e)/\P.underlying k=some .string/\T.ty e=some v/\v.flat=true/\v.Ap=false
 off: ∀s f o t,T.off s f=some (o,t)-> ∃(fs:Array Field) (fd:Field),P.underlying s=some (.struct fs)/\fs[f]?=some fd/\fd.offset=o/\fd.type=t/\ ∃i:TypeInfo,P.info? t=some i/\i.size≠0
section
variable {P:Program} {T:Tab} {X:Ctx} {w w':World} {π:Pi} {H:List (Nat×OB)}
theorem Qr {t:TypeId} {d:TypeDesc} (h:P.underlying t=some d):(isAgg t).run P w= .ok (match d with| .struct _| .array _ _=>true|_=>false) w:=by
 unfold isAgg
 rw [Sem.run_bind,run_underlying h]
 cases d<;>rfl
theorem oI.agg {t:TypeId} {τ:Ty} (h:oI P T t τ):(isAgg t).run P w= .ok τ.Ap w:=by
 have hd:=h.desc
 cases τ<;>simp only at hd
 case int k=>rw [Qr hd];rfl
 case bool=>rw [Qr hd];rfl
 case str=>rw [Qr hd];rfl
 case slice e=>obtain ⟨te,hd,_⟩:=hd;rw [Qr hd];rfl
 case ptr e=>obtain ⟨te,hd⟩:=hd;rw [Qr hd];rfl
 case oslice e=>obtain ⟨te,hd,_⟩:=hd;rw [Qr hd];rfl
 case optr e=>obtain ⟨te,hd⟩:=hd;rw [Qr hd];rfl
 case smap e=>obtain ⟨k,te,hd⟩:=hd;rw [Qr hd];rfl
 case unit=>obtain ⟨te,hd⟩:=hd;rw [Qr hd];rfl
 case pair e r=>obtain ⟨te,hd⟩:=hd;rw [Qr hd];rfl
theorem oI.size {t:TypeId} {τ:Ty} (h:oI P T t τ):(sizeOf t).run P w= .ok τ.size w:=by
 obtain ⟨i,hi,hs,_⟩:=h.info
 simp [sizeOf,typeInfo,hi,hs]
theorem Cw.Rz {S:Nat->Prop} {τ:Ty} {v:Value} {x:τ.den} (Tz:τ.Ap=false) (h:Cw w S τ v x):Cells w S τ [v] x:=by
 obtain ⟨cs,hc,rfl⟩:=h
 have hl:=Cells.len τ cs x hc
 have h1:τ.size=1:=by cases τ<;>simp_all [Ty.Ap,Ty.size]
 rw [h1] at hl
 obtain ⟨c,rfl⟩:=Ed.1 hl
 simpa [Cd,Tz] using hc
theorem Cw.nQ {S:Nat->Prop} {τ:Ty} {v:Value} {x:τ.den} (Tz:τ.Ap=false) (h:Cells w S τ [v] x):Cw w S τ v x:=
 ⟨[v],h,by simp [Cd,Tz]⟩
def Tt (X:Ctx) (S:Nat->Prop) (fr:Bool):Prop:=(∀k,S k->k<X.w0.heap.size/\ ¬X.gv k)/\(fr=true\/ ∀k,S k->X.Sc k)
theorem Tt.iv {S:Nat->Prop} {fr:Bool} (h:Tt X S fr) (k:Nat) (hk:S k):Da X.w0.heap.size X.Sc π fr k:=by
 rcases h.2 with h2|h2
 ·exact .inr (.inr ⟨h2,(h.1 k hk).1⟩)
 ·exact .inr (.inl (h2 k hk))
theorem Tt.and_left {S:Nat->Prop} {f1 f2:Bool} (h:Tt X S (f1&&f2)):Tt X S f1:=
 ⟨h.1,h.2.imp (λh=>by simp at h;exact h.1) id⟩
theorem Tt.and_right {S:Nat->Prop} {f1 f2:Bool} (h:Tt X S (f1&&f2)):Tt X S f2:=
 ⟨h.1,h.2.imp (λh=>by simp at h;exact h.2) id⟩
theorem Rep.apart {S:Nat->Prop} {fr:Bool} {τ:Ty} {cs:List Value} {x:τ.den} (hS:Tt X S (fr||τ.flat)) (h:Cells w (Da X.w0.heap.size X.Sc π fr) τ cs x):Cells w S τ cs x:=by
 cases hf:τ.flat with
 |true=>exact Cells.flat τ cs x hf h
 |false=>
  rw [hf,hZ] at hS
  exact Cells.Fk (Ao _) (λ_ _ _=>rfl) (λk _ hk=>hS.iv k hk) τ cs x h
theorem Tt.own {S:Nat->Prop} {fr:Bool} (hS:Tt X S fr) (h:Mz X w π H) {k:Nat} (hk:S k): ¬Vy π k:= λho=>by
 have h1:=hS.1 k hk
 rcases (h.own ho).2 with h2|h2
 ·omega
 ·exact h1.2 h2
theorem Nw (st:St) (τ:Ty) (fr:Bool) (Oe:Ty) (x:Oe.den):Dr st τ (.data fr Oe x)=if h:Oe=τ then some (fr||τ.flat,h▸x) else iG fr τ Oe x:=by
 cases τ<;>rfl
theorem di (st:St) (τ:Ty) (fr:Bool) (Oe:Ty) (x:Oe.den):Ga st τ (.at (.data fr Oe x))=if h:Oe=τ then some (fr||τ.flat,h▸x) else if τ.Ap then none else Kb st τ (.data fr Oe x):=rfl
theorem CL (st:St) (τ:Ty) (fr:Bool) (Oe:Ty) (x:Oe.den):Kb st τ (.data fr Oe x)=Dr st τ (.data fr Oe x):=by
 cases τ<;>rfl
theorem TL {S:Nat->Prop} {fr:Bool} {τ Oe:Ty} {x:Oe.den} {f:Bool} {y:τ.den} {v:Value} (h:iG fr τ Oe x=some (f,y)) (hc:Cw w (Da X.w0.heap.size X.Sc π fr) Oe v x) (hS:Tt X S f):
  τ.Ap=false/\f=fr/\Cells w S τ [v] y:=by
 unfold iG at h
 split at h
 ·split at h
  ·rename_i e e' _ ZP
   subst ZP
   simp only [Aa,Ae] at h
   obtain ⟨rfl,rfl⟩:=h
   refine ⟨rfl,rfl,?_⟩
   have h1:=Rep.apart (S:=S) (τ:= .oslice e') ⟨hS.1,hS.2.imp (λh=>by rw [h];rfl) id⟩ (Cw.Rz rfl hc)
   simp only [Cells] at h1⊢
   rcases h1 with ⟨rfl,c,h1⟩|⟨xs,ad,len,cap,rfl,h1,h2,h3,h4⟩
   ·exact ⟨none,0,c,h1,rfl,Ja _, .inl rfl⟩
   ·exact ⟨_,len,cap,h1,h2,h3,h4.imp id λ⟨g,o,ha,h4⟩=>⟨g,o,by rw [ha],h4⟩⟩
  ·cases h
 ·split at h
  ·rename_i a a' _ haa
   subst haa
   simp only [Aa,Ae] at h
   obtain ⟨rfl,rfl⟩:=h
   refine ⟨rfl,rfl,?_⟩
   have h1:=Rep.apart (S:=S) (τ:= .ptr a') ⟨hS.1,hS.2.imp (λh=>by rw [h];rfl) id⟩ (Cw.Rz rfl hc)
   simp only [Cells] at h1⊢
   obtain ⟨g,o,h2⟩:=h1
   exact .inr ⟨_,g,o,rfl,h2⟩
  ·cases h
 ·cases h
theorem vB {st:St} (h:Mz X w π st.heap) {S:Nat->Prop} (τ:Ty) (c:AC) (v:Value) (fr:Bool) (x:τ.den) (Tz:τ.Ap=false) (hc:Hv X w π st.heap c v)
  (hv:Dr st τ c=some (fr,x)) (hS:Tt X S fr):Cells w S τ [v] x:=by
 cases c with
 |data Wh Oe y=>
  rw [Nw] at hv
  split at hv
  ·rename_i ht;subst ht
   simp only [Aa,Ae] at hv
   obtain ⟨rfl,rfl⟩:=hv
   exact Rep.apart hS (Cw.Rz Tz hc)
  ·exact (TL hv hc hS).2.2
 |Ma=>
  cases τ with
  |slice e=>
   simp only [Dr,Aa,Ae] at hv
   obtain ⟨_,rfl⟩:=hv
   exact ⟨none,0,0,by rw [show v=_ from hc],rfl,Ao _, .inl rfl⟩
  |oslice e=>
   simp only [Dr,Aa,Ae] at hv
   obtain ⟨_,rfl⟩:=hv
   exact .inl ⟨rfl,0,by rw [show v=_ from hc]⟩
  |_=>simp [Dr] at hv
 |Vv=>
  cases τ with
  |optr e=>
   simp only [Dr,Aa,Ae] at hv
   obtain ⟨_,rfl⟩:=hv
   exact .inl ⟨rfl,by rw [show v=_ from hc]⟩
  |_=>simp [Dr] at hv
 |own l off len=>
  cases τ with
  |slice e=>
   simp only [Dr] at hv
   split at hv
   ·rename_i Wh tr' e' tid xs hl
    split at hv
    ·rename_i he;subst he
     simp only [Aa,Ae] at hv
     obtain ⟨rfl,rfl⟩:=hv
     obtain ⟨h2,h3⟩:=Oi hc hl
     exact pv h hl h2 h3 (λk hk ⟨r,hr,MB⟩=>hS.own h hk ⟨l,r,hr,MB⟩) (λk _ hk=>hS.iv k hk)
    ·cases hv
   ·rename_i e' tid xs hl
    split at hv
    ·rename_i he;subst he
     simp only [Aa,Ae] at hv
     obtain ⟨rfl,rfl⟩:=hv
     obtain ⟨h2,h3⟩:=c7 hc hl
     exact mG h hl h2 h3 (λk hk ⟨r,hr,MB⟩=>hS.own h hk ⟨l,r,hr,MB⟩)
    ·cases hv
   ·rename_i e' tid rows kp hl
    split at hv
    ·rename_i he;subst he
     simp only [Aa,Ae] at hv
     obtain ⟨rfl,rfl⟩:=hv
     obtain ⟨h2,h3⟩:=o0 hc hl
     exact sV h hl h2 h3 (λk hk ⟨r,hr,MB⟩=>hS.own h hk ⟨l,r,hr,MB⟩) (λk hk=>hS.iv k hk)
    ·cases hv
   ·cases hv
  |_=>simp [Dr] at hv
 |sub l i c=>
  cases τ with
  |slice e=>
   simp only [Dr] at hv
   split at hv
   ·rename_i e' tid rows kp hl
    split at hv
    ·rename_i he;subst he
     simp only [Aa,Ae] at hv
     obtain ⟨rfl,rfl⟩:=hv
     exact sW h hl (FE hc hl) hc (λk hk ⟨r,hr,MB⟩=>hS.own h hk ⟨l,r,hr,MB⟩) (λk hk=>hS.iv k hk)
    ·cases hv
   ·cases hv
  |_=>simp [Dr] at hv
 |Kq l=>
  cases τ with
  |smap vt=>
   simp only [Dr] at hv
   split at hv
   ·rename_i v' m hl
    split at hv
    ·rename_i he;subst he
     simp only [Aa,Ae] at hv
     obtain ⟨_,rfl⟩:=hv
     obtain ⟨r,vt,m',h1,h2,rfl⟩:=hc
     exact yB ((h.heap l).Ro hl) (by rw [h2];rfl) λhs=>hS.own h hs ⟨l,r,h2,h.Cv h2⟩
    ·cases hv
   ·cases hv
  |_=>simp [Dr] at hv
 |_=>cases τ<;>simp [Dr] at hv
theorem Ud {st:St} {τ:Ty} (Tz:τ.Ap=false) (cs:List AC):Fg st τ cs=match cs with| [c]=>Dr st τ c|_=>none:=by
 cases τ<;>simp [Ty.Ap] at Tz<;>rcases cs with _|⟨c,_|⟨d,r⟩⟩<;>rfl
theorem lA {st:St} (h:Mz X w π st.heap) {S:Nat->Prop} : ∀(τ:Ty) (cs:List AC) (us:List Value) (fr:Bool) (x:τ.den),Gc X w π st.heap cs us->
  Fg st τ cs=some (fr,x)->Tt X S fr->Cells w S τ us x:=by
 have one: ∀(τ:Ty) (cs:List AC) (us:List Value) (fr:Bool) (x:τ.den),τ.Ap=false->Gc X w π st.heap cs us->
   Fg st τ cs=some (fr,x)->Tt X S fr->Cells w S τ us x:=by
  intro τ cs us fr x Tz hr hv hS
  rw [Ud Tz] at hv
  split at hv
  ·rename_i c
   obtain ⟨u,hu,_,hc⟩:=hr.2 0 c rfl
   have hl:us.length=1:=hr.1
   obtain ⟨u',rfl⟩:=Ed.1 hl
   simp at hu;subst hu
   exact vB h τ c _ fr x Tz hc hv hS
  ·cases hv
 intro τ
 induction τ with
 |unit=>
  intro cs us fr x hr hv hS
  cases cs with
  |nil=>have:us= []:=Ck hr.1;exact this
  |cons c cs=>simp [Fg] at hv
 |pair a r ib gZ=>
  intro cs us fr x hr hv hS
  simp only [Fg] at hv
  split at hv
  ·rename_i f1 y f2 z h1 h2
   simp only [Aa,Ae] at hv
   obtain ⟨rfl,rfl⟩:=hv
   have hr1:Gc X w π st.heap (cs.take a.size) (us.take a.size):=
    ⟨by simp [hr.1],λi c hc=>by
     rw [Cx] at hc⊢
     split at hc
     ·rename_i hi;simp only [hi,Ph];exact hr.2 i c hc
     ·cases hc⟩
   have hr2:Gc X w π st.heap (cs.drop a.size) (us.drop a.size):=
    ⟨by simp [hr.1],λi c hc=>by
     rw [De] at hc⊢
     exact hr.2 _ c hc⟩
   exact ⟨us.take a.size,us.drop a.size,(Jt _ _).symm,ib _ _ _ _ hr1 h1 hS.and_left,gZ _ _ _ _ hr2 h2 hS.and_right⟩
  ·cases hv
 |_=>exact λcs us fr x hr hv hS=>one _ cs us fr x rfl hr hv hS
theorem a8 {cs:List AC} {us:List Value} (h:Gc X w π H cs us) (i n:Nat):Gc X w π H ((cs.drop i).take n) ((us.drop i).take n):=
 ⟨by simp [h.1],λj c hc=>by
  rw [Cx] at hc⊢
  split at hc
  ·rename_i hi
   simp only [hi,Ph]
   rw [De] at hc⊢
   exact h.2 _ c hc
  ·cases hc⟩
theorem jL {st:St} (h:Mz X w π st.heap) {S:Nat->Prop} {a:Ty} {l i:Nat} {fr:Bool} {x:a.den} (hv:Ur st a l i=some (fr,x)) (hS:Tt X S fr) {r:Real} (hr:π l=some r):
  r.g<w.heap.size/\ ¬S r.g/\ ∃es:List Value,es.length=a.size/\(∀j u,es[j]?=some u->w.cell? ⟨r.g,i+j,none⟩=some u)/\Cells w S a es x:=by
 unfold Ur at hv
 split at hv
 ·rename_i tid vs hl
  obtain ⟨r',h3,h4,cur,h5,h6⟩:=(h.heap l).Ro hl
  rw [hr] at h3;cases h3
  have hc:=lA h a _ _ fr x (a8 h6 i a.size) hv hS
  refine ⟨Gq h5,λhs=>hS.own h hs ⟨l,r,hr,h4⟩,_,Cells.len a _ x hc,λj u hu=>?_,hc⟩
  rw [cellOf h5]
  rw [Cx] at hu
  split at hu
  ·rw [De] at hu;simpa using hu
  ·cases hu
 ·cases hv
theorem CJ {st:St} (h:Mz X w π st.heap) {S:Nat->Prop} : ∀(τ:Ty) (Ef:List (Nat×Nat)) (us:List Value) (fr:Bool) (x:τ.den),us.length=Ef.length->
  (∀(j:Nat) p,Ef[j]?=some p-> ∃r tid vs,At st.heap p.1=some (.var tid vs)/\π p.1=some r/\us[j]?=some (.pointer (some ⟨r.g,p.2,none⟩)))->
  Le st τ Ef=some (fr,x)->Tt X S fr->Cells w S τ us x:=by
 intro τ
 induction τ with
 |unit=>
  intro Ef us fr x hl hr hv hS
  cases Ef with
  |nil=>exact Ck hl
  |cons c cs=>simp [Le] at hv
 |pair a r _ gZ=>
  intro Ef us fr x hl hr hv hS
  cases a with
  |ptr a=>
   cases Ef with
   |nil=>simp [Le] at hv
   |cons c cs=>
    obtain ⟨l,i⟩:=c
    simp only [Le] at hv
    split at hv
    ·rename_i f1 y f2 z h1 h2
     simp only [Aa,Ae] at hv
     obtain ⟨rfl,rfl⟩:=hv
     cases us with
     |nil=>simp at hl
     |cons u us=>
      obtain ⟨r0,tid,vs,h3,h4,h5⟩:=hr 0 (l,i) rfl
      simp only [Bz,Aa] at h5
      subst h5
      obtain ⟨h6,h7,es,h8,h9,oC⟩:=jL h h1 hS.and_left h4
      exact ⟨[_],us,rfl,⟨r0.g,i,rfl,h6,h7,es,h8,h9,oC⟩,gZ cs us f2 z (by simpa using hl) (λj p hp=>hr (j+1) p hp) h2 hS.and_right⟩
    ·cases hv
  |_=>cases Ef<;>simp [Le] at hv
 |_=>intro Ef us fr x hl hr hv;cases Ef<;>simp [Le] at hv
theorem JI {st:St} (h:Mz X w π st.heap) {S:Nat->Prop} (τ:Ty) (c:AC) (v:Value) (fr:Bool) (x:τ.den) (Tz:τ.Ap=false) (hc:Hv X w π st.heap c v)
  (hv:Kb st τ c=some (fr,x)) (hS:Tt X S fr):Cells w S τ [v] x:=by
 have Ob:Dr st τ c=some (fr,x)->Cells w S τ [v] x:= λhv=>vB h τ c v fr x Tz hc hv hS
 cases τ with
 |ptr a=>
  cases c with
  |Hr l i=>
   obtain ⟨r,tid,vs,h1,h2,rfl⟩:=hc
   obtain ⟨h6,h7,h8⟩:=jL h hv hS h2
   exact ⟨r.g,i,rfl,h6,h7,h8⟩
  |_=>exact Ob hv
 |optr a=>
  cases c with
  |Hr l i=>
   obtain ⟨r,tid,vs,h1,h2,rfl⟩:=hc
   simp only [Kb] at hv
   cases hp:Ur st a l i with
   |none=>rw [hp] at hv;cases hv
   |some p=>
    rw [hp] at hv
    simp only [Am,Aa,Ae] at hv
    obtain ⟨rfl,rfl⟩:=hv
    obtain ⟨h6,h7,h8⟩:=jL h hp hS h2
    exact .inr ⟨_,r.g,i,rfl,rfl,h6,h7,h8⟩
  |_=>exact Ob hv
 |clo f a=>
  cases c with
  |clo g Ef=>
   simp only [Kb] at hv
   split at hv
   ·rename_i hg
    obtain ⟨rfl,Jj⟩:=hg
    obtain ⟨us,rfl,h2,h3⟩:=hc
    exact ⟨us,by rw [iD Jj],CJ h a Ef us fr x h2 h3 hv hS⟩
   ·cases hv
  |_=>exact Ob hv
 |_=>exact Ob hv
theorem Zc {st:St} (h:Mz X w π st.heap) {S:Nat->Prop} (τ:Ty) (c:AV) (v:Value) (fr:Bool) (x:τ.den) (hc:Bs X w π st.heap c v)
  (hv:Ga st τ c=some (fr,x)) (hS:Tt X S fr):Cw w S τ v x:=by
 have Ob: ∀c:AC,Hv X w π st.heap c v->(if τ.Ap then none else Kb st τ c)=some (fr,x)->Cw w S τ v x:=by
  intro c hc hv
  split at hv
  ·cases hv
  ·rename_i Tz
   simp only [Ge] at Tz
   exact Cw.nQ Tz (JI h τ c v fr x Tz hc hv hS)
 cases c with
 | «at»c=>
  cases c with
  |data Wh Oe y=>
   rw [di] at hv
   split at hv
   ·rename_i ht;subst ht
    simp only [Aa,Ae] at hv
    obtain ⟨rfl,rfl⟩:=hv
    obtain ⟨cs,h1,h2⟩:=hc
    exact ⟨cs,Rep.apart hS h1,h2⟩
   ·exact Ob (.data Wh Oe y) hc hv
  |undef=>exact Ob .undef hc hv
  |skip=>exact Ob .skip hc hv
  |Ma=>exact Ob .Ma hc hv
  |Vv=>exact Ob .Vv hc hv
  |own l off len=>exact Ob (.own l off len) hc hv
  |Hr l i=>exact Ob (.Hr l i) hc hv
  |Ki l i=>exact Ob (.Ki l i) hc hv
  |clo f Ef=>exact Ob (.clo f Ef) hc hv
  |Kq l=>exact Ob (.Kq l) hc hv
  |sub l i c=>exact Ob (.sub l i c) hc hv
  |Kf l i c=>exact Ob (.Kf l i c) hc hv
 |agg cs=>
  simp only [Ga] at hv
  split at hv
  ·rename_i Tz
   obtain ⟨us,rfl,hr⟩:=hc
   exact ⟨us,lA h τ cs us fr x hr hv hS,by simp [Cd,Tz]⟩
  ·cases hv
 |bw Wh Oe y=>simp [Ga] at hv
 |Mt l=>simp [Ga] at hv
theorem bb {st:St} (h:Mz X w π st.heap) {S:Nat->Prop} : ∀(τ:Ty) (cs:List AV) (vs:List Value) (fr:Bool) (x:τ.den),cs.length=vs.length->
  (∀(i:Nat) c v,cs[i]?=some c->vs[i]?=some v->Bs X w π st.heap c v)->Dx st τ cs=some (fr,x)->Tt X S fr->Cu w S τ vs x
 | .unit,[],vs,fr,x,hl,hr,hv,hS=>by
  have:vs= []:=Ck hl.symm
  subst this;trivial
 | .unit,_::_,vs,fr,x,hl,hr,hv,hS=>by simp [Dx] at hv
 | .pair a r,[],vs,fr,x,hl,hr,hv,hS=>by simp [Dx] at hv
 | .pair a r,c::cs,[],fr,x,hl,hr,hv,hS=>by simp at hl
 | .pair a r,c::cs,v::vs,fr,x,hl,hr,hv,hS=>by
  simp only [Dx] at hv
  split at hv
  ·rename_i f1 y f2 z h1 h2
   simp only [Aa,Ae] at hv
   obtain ⟨rfl,rfl⟩:=hv
   exact ⟨Zc h a c v f1 y (hr 0 c v rfl rfl) h1 hS.and_left,bb h r cs vs f2 z (by simpa using hl) (λi c' v' hc FT=>hr (i+1) c' v' hc FT) h2 hS.and_right⟩
  ·cases hv
 | .int _,cs,vs,fr,x,hl,hr,hv,hS=>by cases cs<;>simp [Dx] at hv
 | .bool,cs,vs,fr,x,hl,hr,hv,hS=>by cases cs<;>simp [Dx] at hv
 | .str,cs,vs,fr,x,hl,hr,hv,hS=>by cases cs<;>simp [Dx] at hv
 | .slice _,cs,vs,fr,x,hl,hr,hv,hS=>by cases cs<;>simp [Dx] at hv
 | .ptr _,cs,vs,fr,x,hl,hr,hv,hS=>by cases cs<;>simp [Dx] at hv
 | .oslice _,cs,vs,fr,x,hl,hr,hv,hS=>by cases cs<;>simp [Dx] at hv
 | .optr _,cs,vs,fr,x,hl,hr,hv,hS=>by cases cs<;>simp [Dx] at hv
 | .smap _,cs,vs,fr,x,hl,hr,hv,hS=>by cases cs<;>simp [Dx] at hv
 | .clo _ _,cs,vs,fr,x,hl,hr,hv,hS=>by cases cs<;>simp [Dx] at hv
end
end Go.Proofs.YtkkdpknjohcekaaGreat
