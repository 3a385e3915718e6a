/-
  Part 6 of the proof that the statement FnStateClasses holds.
-/
import Derived.Test.YtkkdpknjohcekaaCFStateClasses04
import Derived.WalkKit
import Derived.Laws.Slices
namespace Go.Proofs.Ytkkdpknjohcekaa
open Go.RowKit
def Bp:Ty->List Value
 | .int k=> [.int k 0]
 | .bool=> [.bool false]
 | .str=> [.string ByteArray.empty]
 | .slice _=> [.slice none 0 0]
 | .oslice _=> [.slice none 0 0]
 | .ptr _=> [.pointer none]
 | .optr _=> [.pointer none]
 | .smap _=> [.map none]
 | .clo _ _=> [.nilFunc]
 | .unit=> []
 | .pair a r=>Bp a++Bp r
structure p7 (P:Program) (T:Tab) (t:TypeId) (τ:Ty):Prop where
 info: ∃i:TypeInfo,P.info? t=some i/\i.size=τ.size/\i.bytes<=256/\i.zero=some (Bv τ (Bp τ))
 desc:match τ with
  | .int k=>P.underlying t=some (.int k)
  | .bool=>P.underlying t=some .bool
  | .str=>P.underlying t=some .string
  | .slice e=> ∃te,P.underlying t=some (.slice te)/\T.elem t=some te/\T.ty te=some e
  | .oslice e=> ∃te,P.underlying t=some (.slice te)/\T.elem t=some te/\T.ty te=some e
  | .ptr _=> ∃u,P.underlying t=some (.pointer u)
  | .optr _=> ∃u,P.underlying t=some (.pointer u)
  | .smap _=> ∃k e,P.underlying t=some (.map k e)
  | .clo _ _=>False
  | .unit| .pair _ _=> ∃fs,P.underlying t=some (.struct fs)
def placesOf (fs:Array Field):Sem (Array (Nat×Nat)):=fs.mapM λf=>do pure (f.offset,<-sizeOf f.type)
structure Dn (P:Program) (T:Tab):Prop where
 fill: ∀t τ,T.ty t=some τ->τ.Ap=true-> ∃(fs:Array Field) (Nv:Array (Nat×Nat)),P.underlying t=some (.struct fs)/\(∀w,(placesOf fs).run P w= .ok Nv w)/\
  ∀f o u ρ,T.off t f=some (o,u)->T.ty u=some ρ->Nv[f]?=some (o,ρ.size)
 ty: ∀t τ,T.ty t=some τ->p7 P T t τ
 elem: ∀t te,T.elem t=some te->P.underlying t=some (.slice te)
 mapOf: ∀t v,T.mapOf t=some v-> ∃k e,P.underlying t=some (.map k e)/\P.underlying k=some .string/\T.ty e=some v/\v.flat=true/\v.Ap=false
 off: ∀s f o t,T.off s f=some (o,t)-> ∃(fs:Array Field) (fd:Field),P.underlying s=some (.struct fs)/\fs[f]?=some fd/\fd.offset=o/\fd.type=t/\ ∃i:TypeInfo,P.info? t=some i/\i.size≠0
section
variable {P:Program} {T:Tab} {X:Ctx} {w w':World} {π:Pi} {H:List (Nat×OB)}
theorem Qe {t:TypeId} {d:TypeDesc} (h:P.underlying t=some d):(isAgg t).run P w= .ok (match d with| .struct _| .array _ _=>true|_=>false) w:=by
 unfold isAgg
 rw [Sem.run_bind,run_underlying h]
 cases d<;>rfl
theorem p7.agg {t:TypeId} {τ:Ty} (h:p7 P T t τ):(isAgg t).run P w= .ok τ.Ap w:=by
 have hd:=h.desc
 cases τ<;>simp only at hd
 case int k=>rw [Qe hd];rfl
 case bool=>rw [Qe hd];rfl
 case str=>rw [Qe hd];rfl
 case slice e=>obtain ⟨te,hd,_⟩:=hd;rw [Qe hd];rfl
 case ptr e=>obtain ⟨te,hd⟩:=hd;rw [Qe hd];rfl
 case oslice e=>obtain ⟨te,hd,_⟩:=hd;rw [Qe hd];rfl
 case optr e=>obtain ⟨te,hd⟩:=hd;rw [Qe hd];rfl
 case smap e=>obtain ⟨k,te,hd⟩:=hd;rw [Qe hd];rfl
 case unit=>obtain ⟨te,hd⟩:=hd;rw [Qe hd];rfl
 case pair e r=>obtain ⟨te,hd⟩:=hd;rw [Qe hd];rfl
theorem p7.size {t:TypeId} {τ:Ty} (h:p7 P T t τ):(sizeOf t).run P w= .ok τ.size w:=by
 obtain ⟨i,hi,hs,_⟩:=h.info
 simp [sizeOf,typeInfo,hi,hs]
theorem Ct.Rh {S:Nat->Prop} {τ:Ty} {v:Value} {x:τ.den} (Sz:τ.Ap=false) (h:Ct w S τ v x):Cells w S τ [v] x:=by
 obtain ⟨cs,hc,rfl⟩:=h
 have hl:=Cells.len τ cs x hc
 have h1:τ.size=1:=by cases τ<;>simp_all [Ty.Ap,Ty.size]
 rw [h1] at hl
 obtain ⟨c,rfl⟩:=Dw.1 hl
 simpa [Bv,Sz] using hc
theorem Ct.mf {S:Nat->Prop} {τ:Ty} {v:Value} {x:τ.den} (Sz:τ.Ap=false) (h:Cells w S τ [v] x):Ct w S τ v x:=
 ⟨[v],h,by simp [Bv,Sz]⟩
def Sv (X:Ctx) (S:Nat->Prop) (fr:Bool):Prop:=(∀k,S k->k<X.w0.heap.size/\ ¬X.gv k)/\(fr=true\/ ∀k,S k->X.Sc k)
theorem Sv.fS {S:Nat->Prop} {fr:Bool} (h:Sv X S fr) (k:Nat) (hk:S k):Cv X.w0.heap.size X.Sc π fr k:=by
 rcases h.2 with h2|h2
 ·exact .inr (.inr ⟨h2,(h.1 k hk).1⟩)
 ·exact .inr (.inl (h2 k hk))
theorem Sv.and_left {S:Nat->Prop} {f1 f2:Bool} (h:Sv X S (f1&&f2)):Sv X S f1:=
 ⟨h.1,h.2.imp (λh=>by simp at h;exact h.1) id⟩
theorem Sv.and_right {S:Nat->Prop} {f1 f2:Bool} (h:Sv X S (f1&&f2)):Sv X S f2:=
 ⟨h.1,h.2.imp (λh=>by simp at h;exact h.2) id⟩
theorem Rep.apart {S:Nat->Prop} {fr:Bool} {τ:Ty} {cs:List Value} {x:τ.den} (hS:Sv X S (fr||τ.flat)) (h:Cells w (Cv X.w0.heap.size X.Sc π fr) τ cs x):Cells w S τ cs x:=by
 cases hf:τ.flat with
 |true=>exact Cells.flat τ cs x hf h
 |false=>
  rw [hf,aA] at hS
  exact Cells.Fb (Ao _) (λ_ _ _=>rfl) (λk _ hk=>hS.fS k hk) τ cs x h
theorem Sv.own {S:Nat->Prop} {fr:Bool} (hS:Sv X S fr) (h:Mm X w π H) {k:Nat} (hk:S k): ¬Ut π k:= λho=>by
 have h1:=hS.1 k hk
 rcases (h.own ho).2 with h2|h2
 ·omega
 ·exact h1.2 h2
theorem Nl (st:St) (τ:Ty) (fr:Bool) (Nx:Ty) (x:Nx.den):Dk st τ (.data fr Nx x)=if h:Nx=τ then some (fr||τ.flat,h▸x) else gg fr τ Nx x:=by
 cases τ<;>rfl
theorem c5 (st:St) (τ:Ty) (fr:Bool) (Nx:Ty) (x:Nx.den):Ff st τ (.at (.data fr Nx x))=if h:Nx=τ then some (fr||τ.flat,h▸x) else if τ.Ap then none else Jg st τ (.data fr Nx x):=rfl
theorem yL (st:St) (τ:Ty) (fr:Bool) (Nx:Ty) (x:Nx.den):Jg st τ (.data fr Nx x)=Dk st τ (.data fr Nx x):=by
 cases τ<;>rfl
theorem MO {S:Nat->Prop} {fr:Bool} {τ Nx:Ty} {x:Nx.den} {f:Bool} {y:τ.den} {v:Value} (h:gg fr τ Nx x=some (f,y)) (hc:Ct w (Cv X.w0.heap.size X.Sc π fr) Nx v x) (hS:Sv X S f):
  τ.Ap=false/\f=fr/\Cells w S τ [v] y:=by
 unfold gg at h
 split at h
 ·split at h
  ·rename_i e e' _ SO
   subst SO
   simp only [Aa,Ad] at h
   obtain ⟨rfl,rfl⟩:=h
   refine ⟨rfl,rfl,?_⟩
   have h1:=Rep.apart (S:=S) (τ:= .oslice e') ⟨hS.1,hS.2.imp (λh=>by rw [h];rfl) id⟩ (Ct.Rh rfl hc)
   simp only [Cells] at h1⊢
   rcases h1 with ⟨rfl,c,h1⟩|⟨xs,ad,len,cap,rfl,h1,h2,h3,h4⟩
   ·exact ⟨none,0,c,h1,rfl,Iz _, .inl rfl⟩
   ·exact ⟨_,len,cap,h1,h2,h3,h4.imp id λ⟨g,o,ha,h4⟩=>⟨g,o,by rw [ha],h4⟩⟩
  ·cases h
 ·split at h
  ·rename_i a a' _ haa
   subst haa
   simp only [Aa,Ad] at h
   obtain ⟨rfl,rfl⟩:=h
   refine ⟨rfl,rfl,?_⟩
   have h1:=Rep.apart (S:=S) (τ:= .ptr a') ⟨hS.1,hS.2.imp (λh=>by rw [h];rfl) id⟩ (Ct.Rh rfl hc)
   simp only [Cells] at h1⊢
   obtain ⟨g,o,h2⟩:=h1
   exact .inr ⟨_,g,o,rfl,h2⟩
  ·cases h
 ·cases h
theorem sO {st:St} (h:Mm X w π st.heap) {S:Nat->Prop} (τ:Ty) (c:AC) (v:Value) (fr:Bool) (x:τ.den) (Sz:τ.Ap=false) (hc:Gu X w π st.heap c v)
  (hv:Dk st τ c=some (fr,x)) (hS:Sv X S fr):Cells w S τ [v] x:=by
 cases c with
 |data Vc Nx y=>
  rw [Nl] at hv
  split at hv
  ·rename_i ht;subst ht
   simp only [Aa,Ad] at hv
   obtain ⟨rfl,rfl⟩:=hv
   exact Rep.apart hS (Ct.Rh Sz hc)
  ·exact (MO hv hc hS).2.2
 |Ln=>
  cases τ with
  |slice e=>
   simp only [Dk,Aa,Ad] at hv
   obtain ⟨_,rfl⟩:=hv
   exact ⟨none,0,0,by rw [show v=_ from hc],rfl,Ao _, .inl rfl⟩
  |oslice e=>
   simp only [Dk,Aa,Ad] at hv
   obtain ⟨_,rfl⟩:=hv
   exact .inl ⟨rfl,0,by rw [show v=_ from hc]⟩
  |_=>simp [Dk] at hv
 |Up=>
  cases τ with
  |optr e=>
   simp only [Dk,Aa,Ad] at hv
   obtain ⟨_,rfl⟩:=hv
   exact .inl ⟨rfl,by rw [show v=_ from hc]⟩
  |_=>simp [Dk] at hv
 |own l off len=>
  cases τ with
  |slice e=>
   simp only [Dk] at hv
   split at hv
   ·rename_i Vc WG e' tid xs hl
    split at hv
    ·rename_i he;subst he
     simp only [Aa,Ad] at hv
     obtain ⟨rfl,rfl⟩:=hv
     obtain ⟨h2,h3⟩:=Oa hc hl
     exact nA h hl h2 h3 (λk hk ⟨r,hr,GH⟩=>hS.own h hk ⟨l,r,hr,GH⟩) (λk _ hk=>hS.fS k hk)
    ·cases hv
   ·rename_i e' tid xs hl
    split at hv
    ·rename_i he;subst he
     simp only [Aa,Ad] at hv
     obtain ⟨rfl,rfl⟩:=hv
     obtain ⟨h2,h3⟩:=bb hc hl
     exact l4 h hl h2 h3 (λk hk ⟨r,hr,GH⟩=>hS.own h hk ⟨l,r,hr,GH⟩)
    ·cases hv
   ·rename_i e' tid rows kp hl
    split at hv
    ·rename_i he;subst he
     simp only [Aa,Ad] at hv
     obtain ⟨rfl,rfl⟩:=hv
     obtain ⟨h2,h3⟩:=mq hc hl
     exact qL h hl h2 h3 (λk hk ⟨r,hr,GH⟩=>hS.own h hk ⟨l,r,hr,GH⟩) (λk hk=>hS.fS k hk)
    ·cases hv
   ·cases hv
  |_=>simp [Dk] at hv
 |sub l i c=>
  cases τ with
  |slice e=>
   simp only [Dk] at hv
   split at hv
   ·rename_i e' tid rows kp hl
    split at hv
    ·rename_i he;subst he
     simp only [Aa,Ad] at hv
     obtain ⟨rfl,rfl⟩:=hv
     exact qM h hl (AA hc hl) hc (λk hk ⟨r,hr,GH⟩=>hS.own h hk ⟨l,r,hr,GH⟩) (λk hk=>hS.fS k hk)
    ·cases hv
   ·cases hv
  |_=>simp [Dk] at hv
 |Jt l=>
  cases τ with
  |smap vt=>
   simp only [Dk] at hv
   split at hv
   ·rename_i v' m hl
    split at hv
    ·rename_i he;subst he
     simp only [Aa,Ad] at hv
     obtain ⟨_,rfl⟩:=hv
     obtain ⟨r,vt,m',h1,h2,rfl⟩:=hc
     exact vX ((h.heap l).Qw hl) (by rw [h2];rfl) λhs=>hS.own h hs ⟨l,r,h2,h.Cq h2⟩
    ·cases hv
   ·cases hv
  |_=>simp [Dk] at hv
 |_=>cases τ<;>simp [Dk] at hv
theorem Tc {st:St} {τ:Ty} (Sz:τ.Ap=false) (cs:List AC):Et st τ cs=match cs with| [c]=>Dk st τ c|_=>none:=by
 cases τ<;>simp [Ty.Ap] at Sz<;>rcases cs with _|⟨c,_|⟨d,r⟩⟩<;>rfl
theorem jV {st:St} (h:Mm X w π st.heap) {S:Nat->Prop} : ∀(τ:Ty) (cs:List AC) (us:List Value) (fr:Bool) (x:τ.den),Fg X w π st.heap cs us->
  Et st τ cs=some (fr,x)->Sv X S fr->Cells w S τ us x:=by
 have one: ∀(τ:Ty) (cs:List AC) (us:List Value) (fr:Bool) (x:τ.den),τ.Ap=false->Fg X w π st.heap cs us->
   Et st τ cs=some (fr,x)->Sv X S fr->Cells w S τ us x:=by
  intro τ cs us fr x Sz hr hv hS
  rw [Tc Sz] at hv
  split at hv
  ·rename_i c
   obtain ⟨u,hu,_,hc⟩:=hr.2 0 c rfl
   have hl:us.length=1:=hr.1
   obtain ⟨u',rfl⟩:=Dw.1 hl
   simp at hu;subst hu
   exact sO h τ c _ fr x Sz hc hv hS
  ·cases hv
 intro τ
 induction τ with
 |unit=>
  intro cs us fr x hr hv hS
  cases cs with
  |nil=>have:us= []:=Ce hr.1;exact this
  |cons c cs=>simp [Et] at hv
 |pair a r fH fF=>
  intro cs us fr x hr hv hS
  simp only [Et] at hv
  split at hv
  ·rename_i f1 y f2 z h1 h2
   simp only [Aa,Ad] at hv
   obtain ⟨rfl,rfl⟩:=hv
   have YU:Fg X w π st.heap (cs.take a.size) (us.take a.size):=
    ⟨by simp [hr.1],λi c hc=>by
     rw [Cr] at hc⊢
     split at hc
     ·rename_i hi;simp only [hi,Oy];exact hr.2 i c hc
     ·cases hc⟩
   have XK:Fg X w π st.heap (cs.drop a.size) (us.drop a.size):=
    ⟨by simp [hr.1],λi c hc=>by
     rw [Co] at hc⊢
     exact hr.2 _ c hc⟩
   exact ⟨us.take a.size,us.drop a.size,(Fo _ _).symm,fH _ _ _ _ YU h1 hS.and_left,fF _ _ _ _ XK h2 hS.and_right⟩
  ·cases hv
 |_=>exact λcs us fr x hr hv hS=>one _ cs us fr x rfl hr hv hS
theorem Ys {cs:List AC} {us:List Value} (h:Fg X w π H cs us) (i n:Nat):Fg X w π H ((cs.drop i).take n) ((us.drop i).take n):=
 ⟨by simp [h.1],λj c hc=>by
  rw [Cr] at hc⊢
  split at hc
  ·rename_i hi
   simp only [hi,Oy]
   rw [Co] at hc⊢
   exact h.2 _ c hc
  ·cases hc⟩
theorem iz {st:St} (h:Mm X w π st.heap) {S:Nat->Prop} {a:Ty} {l i:Nat} {fr:Bool} {x:a.den} (hv:Tm st a l i=some (fr,x)) (hS:Sv X S fr) {r:Real} (hr:π l=some r):
  r.g<w.heap.size/\ ¬S r.g/\ ∃es:List Value,es.length=a.size/\(∀j u,es[j]?=some u->w.cell? ⟨r.g,i+j,none⟩=some u)/\Cells w S a es x:=by
 unfold Tm at hv
 split at hv
 ·rename_i tid vs hl
  obtain ⟨r',h3,h4,cur,h5,h6⟩:=(h.heap l).Qw hl
  rw [hr] at h3;cases h3
  have hc:=jV h a _ _ fr x (Ys h6 i a.size) hv hS
  refine ⟨Fw h5,λhs=>hS.own h hs ⟨l,r,hr,h4⟩,_,Cells.len a _ x hc,λj u hu=>?_,hc⟩
  rw [cellOf h5]
  rw [Cr] at hu
  split at hu
  ·rw [Co] at hu;simpa using hu
  ·cases hu
 ·cases hv
theorem yK {st:St} (h:Mm X w π st.heap) {S:Nat->Prop} : ∀(τ:Ty) (Dz:List (Nat×Nat)) (us:List Value) (fr:Bool) (x:τ.den),us.length=Dz.length->
  (∀(j:Nat) p,Dz[j]?=some p-> ∃r tid vs,At st.heap p.1=some (.var tid vs)/\π p.1=some r/\us[j]?=some (.pointer (some ⟨r.g,p.2,none⟩)))->
  Kq st τ Dz=some (fr,x)->Sv X S fr->Cells w S τ us x:=by
 intro τ
 induction τ with
 |unit=>
  intro Dz us fr x hl hr hv hS
  cases Dz with
  |nil=>exact Ce hl
  |cons c cs=>simp [Kq] at hv
 |pair a r _ fF=>
  intro Dz us fr x hl hr hv hS
  cases a with
  |ptr a=>
   cases Dz with
   |nil=>simp [Kq] at hv
   |cons c cs=>
    obtain ⟨l,i⟩:=c
    simp only [Kq] at hv
    split at hv
    ·rename_i f1 y f2 z h1 h2
     simp only [Aa,Ad] at hv
     obtain ⟨rfl,rfl⟩:=hv
     cases us with
     |nil=>simp at hl
     |cons u us=>
      obtain ⟨r0,tid,vs,h3,h4,h5⟩:=hr 0 (l,i) rfl
      simp only [Bs,Aa] at h5
      subst h5
      obtain ⟨h6,h7,es,h8,h9,og⟩:=iz h h1 hS.and_left h4
      exact ⟨[_],us,rfl,⟨r0.g,i,rfl,h6,h7,es,h8,h9,og⟩,fF cs us f2 z (by simpa using hl) (λj p hp=>hr (j+1) p hp) h2 hS.and_right⟩
    ·cases hv
  |_=>cases Dz<;>simp [Kq] at hv
 |_=>intro Dz us fr x hl hr hv;cases Dz<;>simp [Kq] at hv
theorem DU {st:St} (h:Mm X w π st.heap) {S:Nat->Prop} (τ:Ty) (c:AC) (v:Value) (fr:Bool) (x:τ.den) (Sz:τ.Ap=false) (hc:Gu X w π st.heap c v)
  (hv:Jg st τ c=some (fr,x)) (hS:Sv X S fr):Cells w S τ [v] x:=by
 have Nt:Dk st τ c=some (fr,x)->Cells w S τ [v] x:= λhv=>sO h τ c v fr x Sz hc hv hS
 cases τ with
 |ptr a=>
  cases c with
  |Gp l i=>
   obtain ⟨r,tid,vs,h1,h2,rfl⟩:=hc
   obtain ⟨h6,h7,h8⟩:=iz h hv hS h2
   exact ⟨r.g,i,rfl,h6,h7,h8⟩
  |_=>exact Nt hv
 |optr a=>
  cases c with
  |Gp l i=>
   obtain ⟨r,tid,vs,h1,h2,rfl⟩:=hc
   simp only [Jg] at hv
   cases hp:Tm st a l i with
   |none=>rw [hp] at hv;cases hv
   |some p=>
    rw [hp] at hv
    simp only [Ak,Aa,Ad] at hv
    obtain ⟨rfl,rfl⟩:=hv
    obtain ⟨h6,h7,h8⟩:=iz h hp hS h2
    exact .inr ⟨_,r.g,i,rfl,rfl,h6,h7,h8⟩
  |_=>exact Nt hv
 |clo f a=>
  cases c with
  |clo g Dz=>
   simp only [Jg] at hv
   split at hv
   ·rename_i hg
    obtain ⟨rfl,Jl⟩:=hg
    obtain ⟨us,rfl,h2,h3⟩:=hc
    exact ⟨us,by rw [fZ Jl],yK h a Dz us fr x h2 h3 hv hS⟩
   ·cases hv
  |_=>exact Nt hv
 |_=>exact Nt hv
theorem Xr {st:St} (h:Mm X w π st.heap) {S:Nat->Prop} (τ:Ty) (c:AV) (v:Value) (fr:Bool) (x:τ.den) (hc:Bn X w π st.heap c v)
  (hv:Ff st τ c=some (fr,x)) (hS:Sv X S fr):Ct w S τ v x:=by
 have Nt: ∀c:AC,Gu X w π st.heap c v->(if τ.Ap then none else Jg st τ c)=some (fr,x)->Ct w S τ v x:=by
  intro c hc hv
  split at hv
  ·cases hv
  ·rename_i Sz
   simp only [Hs] at Sz
   exact Ct.mf Sz (DU h τ c v fr x Sz hc hv hS)
 cases c with
 | «at»c=>
  cases c with
  |data Vc Nx y=>
   rw [c5] at hv
   split at hv
   ·rename_i ht;subst ht
    simp only [Aa,Ad] at hv
    obtain ⟨rfl,rfl⟩:=hv
    obtain ⟨cs,h1,h2⟩:=hc
    exact ⟨cs,Rep.apart hS h1,h2⟩
   ·exact Nt (.data Vc Nx y) hc hv
  |undef=>exact Nt .undef hc hv
  |skip=>exact Nt .skip hc hv
  |Ln=>exact Nt .Ln hc hv
  |Up=>exact Nt .Up hc hv
  |own l off len=>exact Nt (.own l off len) hc hv
  |Gp l i=>exact Nt (.Gp l i) hc hv
  |Jm l i=>exact Nt (.Jm l i) hc hv
  |clo f Dz=>exact Nt (.clo f Dz) hc hv
  |Jt l=>exact Nt (.Jt l) hc hv
  |sub l i c=>exact Nt (.sub l i c) hc hv
  |Jj l i c=>exact Nt (.Jj l i c) hc hv
 |agg cs=>
  simp only [Ff] at hv
  split at hv
  ·rename_i Sz
   obtain ⟨us,rfl,hr⟩:=hc
   exact ⟨us,jV h τ cs us fr x hr hv hS,by simp [Bv,Sz]⟩
  ·cases hv
 |ay Vc Nx y=>simp [Ff] at hv
 |Mh l=>simp [Ff] at hv
theorem ag {st:St} (h:Mm X w π st.heap) {S:Nat->Prop} : ∀(τ:Ty) (cs:List AV) (vs:List Value) (fr:Bool) (x:τ.den),cs.length=vs.length->
  (∀(i:Nat) c v,cs[i]?=some c->vs[i]?=some v->Bn X w π st.heap c v)->Dq st τ cs=some (fr,x)->Sv X S fr->Cp w S τ vs x
 | .unit,[],vs,fr,x,hl,hr,hv,hS=>by
  have:vs= []:=Ce hl.symm
  subst this;trivial
 | .unit,_::_,vs,fr,x,hl,hr,hv,hS=>by simp [Dq] at hv
 | .pair a r,[],vs,fr,x,hl,hr,hv,hS=>by simp [Dq] at hv
 | .pair a r,c::cs,[],fr,x,hl,hr,hv,hS=>by simp at hl
 | .pair a r,c::cs,v::vs,fr,x,hl,hr,hv,hS=>by
  simp only [Dq] at hv
  split at hv
  ·rename_i f1 y f2 z h1 h2
   simp only [Aa,Ad] at hv
   obtain ⟨rfl,rfl⟩:=hv
   exact ⟨Xr h a c v f1 y (hr 0 c v rfl rfl) h1 hS.and_left,ag h r cs vs f2 z (by simpa using hl) (λi c' v' hc lU=>hr (i+1) c' v' hc lU) h2 hS.and_right⟩
  ·cases hv
 | .int _,cs,vs,fr,x,hl,hr,hv,hS=>by cases cs<;>simp [Dq] at hv
 | .bool,cs,vs,fr,x,hl,hr,hv,hS=>by cases cs<;>simp [Dq] at hv
 | .str,cs,vs,fr,x,hl,hr,hv,hS=>by cases cs<;>simp [Dq] at hv
 | .slice _,cs,vs,fr,x,hl,hr,hv,hS=>by cases cs<;>simp [Dq] at hv
 | .ptr _,cs,vs,fr,x,hl,hr,hv,hS=>by cases cs<;>simp [Dq] at hv
 | .oslice _,cs,vs,fr,x,hl,hr,hv,hS=>by cases cs<;>simp [Dq] at hv
 | .optr _,cs,vs,fr,x,hl,hr,hv,hS=>by cases cs<;>simp [Dq] at hv
 | .smap _,cs,vs,fr,x,hl,hr,hv,hS=>by cases cs<;>simp [Dq] at hv
 | .clo _ _,cs,vs,fr,x,hl,hr,hv,hS=>by cases cs<;>simp [Dq] at hv
end
end Go.Proofs.Ytkkdpknjohcekaa
