/-
  Part 6 of the proof that the statement FnMethods holds.
-/
import Derived.Test.YtkkdpknjohcekaaGreatCFMethods04
import Derived.WalkKit
import Derived.Laws.Slices
namespace Go.Proofs.YtkkdpknjohcekaaGreat
open Go.RowKit
def Bw:Ty->List Value
 | .int k=> [.int k 0]
 | .bool=> [.bool false]
 | .str=> [.string ByteArray.empty]
 | .slice _=> [.slice none 0 0]
 | .oslice _=> [.slice none 0 0]
 | .ptr _=> [.pointer none]
 | .optr _=> [.pointer none]
 | .smap _=> [.map none]
 | .clo _ _=> [.nilFunc]
 | .unit=> []
 | .pair a r=>Bw a++Bw r
structure ph (P:Program) (T:Tab) (t:TypeId) (τ:Ty):Prop where
 info: ∃i:TypeInfo,P.info? t=some i/\i.size=τ.size/\i.bytes<=256/\i.zero=some (Ce τ (Bw τ))
 desc:match τ with
  | .int k=>P.underlying t=some (.int k)
  | .bool=>P.underlying t=some .bool
  | .str=>P.underlying t=some .string
  | .slice e=> ∃te,P.underlying t=some (.slice te)/\T.elem t=some te/\T.ty te=some e
  | .oslice e=> ∃te,P.underlying t=some (.slice te)/\T.elem t=some te/\T.ty te=some e
  | .ptr _=> ∃u,P.underlying t=some (.pointer u)
  | .optr _=> ∃u,P.underlying t=some (.pointer u)
  | .smap _=> ∃k e,P.underlying t=some (.map k e)
  | .clo _ _=>False
  | .unit| .pair _ _=> ∃fs,P.underlying t=some (.struct fs)
def placesOf (fs:Array Field):Sem (Array (Nat×Nat)):=fs.mapM λf=>do pure (f.offset,<-sizeOf f.type)
structure Ep (P:Program) (T:Tab):Prop where
 fill: ∀t τ,T.ty t=some τ->τ.Ar=true-> ∃(fs:Array Field) (My:Array (Nat×Nat)),P.underlying t=some (.struct fs)/\(∀w,(placesOf fs).run P w= .ok My w)/\
  ∀f o u ρ,T.off t f=some (o,u)->T.ty u=some ρ->My[f]?=some (o,ρ.size)
 ty: ∀t τ,T.ty t=some τ->ph P T t τ
 elem: ∀t te,T.elem t=some te->P.underlying t=some (.slice te)
 mapOf: ∀t v,T.mapOf t=some v-> ∃k e,P.underlying t=some (.map k e)/\P.underlying k=some .string/\T.ty e=some v/\v.flat=true/\v.Ar=false
 off: ∀s f o t,T.off s f=some (o,t)-> ∃(fs:Array Field) (fd:Field),P.underlying s=some (.struct fs)/\fs[f]?=some fd/\fd.offset=o/\fd.type=t/\ ∃i:TypeInfo,P.info? t=some i/\i.size≠0
section
variable {P:Program} {T:Tab} {X:Ctx} {w w':World} {π:Pi} {H:List (Nat×OB)}
theorem Rl {t:TypeId} {d:TypeDesc} (h:P.underlying t=some d):(isAgg t).run P w= .ok (match d with| .struct _| .array _ _=>true|_=>false) w:=by
 unfold isAgg
 rw [Sem.run_bind,run_underlying h]
 cases d<;>rfl
theorem ph.agg {t:TypeId} {τ:Ty} (h:ph P T t τ):(isAgg t).run P w= .ok τ.Ar w:=by
 have hd:=h.desc
 cases τ<;>simp only at hd
 case int k=>rw [Rl hd];rfl
 case bool=>rw [Rl hd];rfl
 case str=>rw [Rl hd];rfl
 case slice e=>obtain ⟨te,hd,_⟩:=hd;rw [Rl hd];rfl
 case ptr e=>obtain ⟨te,hd⟩:=hd;rw [Rl hd];rfl
 case oslice e=>obtain ⟨te,hd,_⟩:=hd;rw [Rl hd];rfl
 case optr e=>obtain ⟨te,hd⟩:=hd;rw [Rl hd];rfl
 case smap e=>obtain ⟨k,te,hd⟩:=hd;rw [Rl hd];rfl
 case unit=>obtain ⟨te,hd⟩:=hd;rw [Rl hd];rfl
 case pair e r=>obtain ⟨te,hd⟩:=hd;rw [Rl hd];rfl
theorem ph.size {t:TypeId} {τ:Ty} (h:ph P T t τ):(sizeOf t).run P w= .ok τ.size w:=by
 obtain ⟨i,hi,hs,_⟩:=h.info
 simp [sizeOf,typeInfo,hi,hs]
theorem Dg.Sx {S:Nat->Prop} {τ:Ty} {v:Value} {x:τ.den} (Um:τ.Ar=false) (h:Dg w S τ v x):Cells w S τ [v] x:=by
 obtain ⟨cs,hc,rfl⟩:=h
 have hl:=Cells.len τ cs x hc
 have h1:τ.size=1:=by cases τ<;>simp_all [Ty.Ar,Ty.size]
 rw [h1] at hl
 obtain ⟨c,rfl⟩:=En.1 hl
 simpa [Ce,Um] using hc
theorem Dg.om {S:Nat->Prop} {τ:Ty} {v:Value} {x:τ.den} (Um:τ.Ar=false) (h:Cells w S τ [v] x):Dg w S τ v x:=
 ⟨[v],h,by simp [Ce,Um]⟩
def Uh (X:Ctx) (S:Nat->Prop) (fr:Bool):Prop:=(∀k,S k->k<X.w0.heap.size/\ ¬X.gv k)/\(fr=true\/ ∀k,S k->X.Sc k)
theorem Uh.iM {S:Nat->Prop} {fr:Bool} (h:Uh X S fr) (k:Nat) (hk:S k):Dc X.w0.heap.size X.Sc π fr k:=by
 rcases h.2 with h2|h2
 ·exact .inr (.inr ⟨h2,(h.1 k hk).1⟩)
 ·exact .inr (.inl (h2 k hk))
theorem Uh.and_left {S:Nat->Prop} {f1 f2:Bool} (h:Uh X S (f1&&f2)):Uh X S f1:=
 ⟨h.1,h.2.imp (λh=>by simp at h;exact h.1) id⟩
theorem Uh.and_right {S:Nat->Prop} {f1 f2:Bool} (h:Uh X S (f1&&f2)):Uh X S f2:=
 ⟨h.1,h.2.imp (λh=>by simp at h;exact h.2) id⟩
theorem Rep.apart {S:Nat->Prop} {fr:Bool} {τ:Ty} {cs:List Value} {x:τ.den} (hS:Uh X S (fr||τ.flat)) (h:Cells w (Dc X.w0.heap.size X.Sc π fr) τ cs x):Cells w S τ cs x:=by
 cases hf:τ.flat with
 |true=>exact Cells.flat τ cs x hf h
 |false=>
  rw [hf,iz] at hS
  exact Cells.Gj (Aq _) (λ_ _ _=>rfl) (λk _ hk=>hS.iM k hk) τ cs x h
theorem Uh.own {S:Nat->Prop} {fr:Bool} (hS:Uh X S fr) (h:Nw X w π H) {k:Nat} (hk:S k): ¬Vd π k:= λho=>by
 have h1:=hS.1 k hk
 rcases (h.own ho).2 with h2|h2
 ·omega
 ·exact h1.2 h2
theorem Oy (st:St) (τ:Ty) (fr:Bool) (Pj:Ty) (x:Pj.den):Ec st τ (.data fr Pj x)=if h:Pj=τ then some (fr||τ.flat,h▸x) else iW fr τ Pj x:=by
 cases τ<;>rfl
theorem dw (st:St) (τ:Ty) (fr:Bool) (Pj:Ty) (x:Pj.den):Gt st τ (.at (.data fr Pj x))=if h:Pj=τ then some (fr||τ.flat,h▸x) else if τ.Ar then none else Kw st τ (.data fr Pj x):=rfl
theorem DB (st:St) (τ:Ty) (fr:Bool) (Pj:Ty) (x:Pj.den):Kw st τ (.data fr Pj x)=Ec st τ (.data fr Pj x):=by
 cases τ<;>rfl
theorem TV {S:Nat->Prop} {fr:Bool} {τ Pj:Ty} {x:Pj.den} {f:Bool} {y:τ.den} {v:Value} (h:iW fr τ Pj x=some (f,y)) (hc:Dg w (Dc X.w0.heap.size X.Sc π fr) Pj v x) (hS:Uh X S f):
  τ.Ar=false/\f=fr/\Cells w S τ [v] y:=by
 unfold iW at h
 split at h
 ·split at h
  ·rename_i e e' _ hee
   subst hee
   simp only [Aa,Af] at h
   obtain ⟨rfl,rfl⟩:=h
   refine ⟨rfl,rfl,?_⟩
   have h1:=Rep.apart (S:=S) (τ:= .oslice e') ⟨hS.1,hS.2.imp (λh=>by rw [h];rfl) id⟩ (Dg.Sx rfl hc)
   simp only [Cells] at h1⊢
   rcases h1 with ⟨rfl,c,h1⟩|⟨xs,ad,len,cap,rfl,h1,h2,h3,h4⟩
   ·exact ⟨none,0,c,h1,rfl,Mc _, .inl rfl⟩
   ·exact ⟨_,len,cap,h1,h2,h3,h4.imp id λ⟨g,o,ha,h4⟩=>⟨g,o,by rw [ha],h4⟩⟩
  ·cases h
 ·split at h
  ·rename_i a a' _ haa
   subst haa
   simp only [Aa,Af] at h
   obtain ⟨rfl,rfl⟩:=h
   refine ⟨rfl,rfl,?_⟩
   have h1:=Rep.apart (S:=S) (τ:= .ptr a') ⟨hS.1,hS.2.imp (λh=>by rw [h];rfl) id⟩ (Dg.Sx rfl hc)
   simp only [Cells] at h1⊢
   obtain ⟨g,o,h2⟩:=h1
   exact .inr ⟨_,g,o,rfl,h2⟩
  ·cases h
 ·cases h
theorem vM {st:St} (h:Nw X w π st.heap) {S:Nat->Prop} (τ:Ty) (c:AC) (v:Value) (fr:Bool) (x:τ.den) (Um:τ.Ar=false) (hc:Iq X w π st.heap c v)
  (hv:Ec st τ c=some (fr,x)) (hS:Uh X S fr):Cells w S τ [v] x:=by
 cases c with
 |data Wt Pj y=>
  rw [Oy] at hv
  split at hv
  ·rename_i ht;subst ht
   simp only [Aa,Af] at hv
   obtain ⟨rfl,rfl⟩:=hv
   exact Rep.apart hS (Dg.Sx Um hc)
  ·exact (TV hv hc hS).2.2
 |Mx=>
  cases τ with
  |slice e=>
   simp only [Ec,Aa,Af] at hv
   obtain ⟨_,rfl⟩:=hv
   exact ⟨none,0,0,by rw [show v=_ from hc],rfl,Aq _, .inl rfl⟩
  |oslice e=>
   simp only [Ec,Aa,Af] at hv
   obtain ⟨_,rfl⟩:=hv
   exact .inl ⟨rfl,0,by rw [show v=_ from hc]⟩
  |_=>simp [Ec] at hv
 |Wh=>
  cases τ with
  |optr e=>
   simp only [Ec,Aa,Af] at hv
   obtain ⟨_,rfl⟩:=hv
   exact .inl ⟨rfl,by rw [show v=_ from hc]⟩
  |_=>simp [Ec] at hv
 |own l off len=>
  cases τ with
  |slice e=>
   simp only [Ec] at hv
   split at hv
   ·rename_i Wt tr' e' tid xs hl
    split at hv
    ·rename_i he;subst he
     simp only [Aa,Af] at hv
     obtain ⟨rfl,rfl⟩:=hv
     obtain ⟨h2,h3⟩:=Po hc hl
     exact pY h hl h2 h3 (λk hk ⟨r,hr,MI⟩=>hS.own h hk ⟨l,r,hr,MI⟩) (λk _ hk=>hS.iM k hk)
    ·cases hv
   ·rename_i e' tid xs hl
    split at hv
    ·rename_i he;subst he
     simp only [Aa,Af] at hv
     obtain ⟨rfl,rfl⟩:=hv
     obtain ⟨h2,h3⟩:=ct hc hl
     exact mZ h hl h2 h3 (λk hk ⟨r,hr,MI⟩=>hS.own h hk ⟨l,r,hr,MI⟩)
    ·cases hv
   ·rename_i e' tid rows kp hl
    split at hv
    ·rename_i he;subst he
     simp only [Aa,Af] at hv
     obtain ⟨rfl,rfl⟩:=hv
     obtain ⟨h2,h3⟩:=oC hc hl
     exact tz h hl h2 h3 (λk hk ⟨r,hr,MI⟩=>hS.own h hk ⟨l,r,hr,MI⟩) (λk hk=>hS.iM k hk)
    ·cases hv
   ·cases hv
  |_=>simp [Ec] at hv
 |sub l i c=>
  cases τ with
  |slice e=>
   simp only [Ec] at hv
   split at hv
   ·rename_i e' tid rows kp hl
    split at hv
    ·rename_i he;subst he
     simp only [Aa,Af] at hv
     obtain ⟨rfl,rfl⟩:=hv
     exact tA h hl (FR hc hl) hc (λk hk ⟨r,hr,MI⟩=>hS.own h hk ⟨l,r,hr,MI⟩) (λk hk=>hS.iM k hk)
    ·cases hv
   ·cases hv
  |_=>simp [Ec] at hv
 |Lk l=>
  cases τ with
  |smap vt=>
   simp only [Ec] at hv
   split at hv
   ·rename_i v' m hl
    split at hv
    ·rename_i he;subst he
     simp only [Aa,Af] at hv
     obtain ⟨_,rfl⟩:=hv
     obtain ⟨r,vt,m',h1,h2,rfl⟩:=hc
     exact yR ((h.heap l).Sl hl) (by rw [h2];rfl) λhs=>hS.own h hs ⟨l,r,h2,h.Cw h2⟩
    ·cases hv
   ·cases hv
  |_=>simp [Ec] at hv
 |_=>cases τ<;>simp [Ec] at hv
theorem Uq {st:St} {τ:Ty} (Um:τ.Ar=false) (cs:List AC):Ge st τ cs=match cs with| [c]=>Ec st τ c|_=>none:=by
 cases τ<;>simp [Ty.Ar] at Um<;>rcases cs with _|⟨c,_|⟨d,r⟩⟩<;>rfl
theorem lO {st:St} (h:Nw X w π st.heap) {S:Nat->Prop} : ∀(τ:Ty) (cs:List AC) (us:List Value) (fr:Bool) (x:τ.den),Gv X w π st.heap cs us->
  Ge st τ cs=some (fr,x)->Uh X S fr->Cells w S τ us x:=by
 have one: ∀(τ:Ty) (cs:List AC) (us:List Value) (fr:Bool) (x:τ.den),τ.Ar=false->Gv X w π st.heap cs us->
   Ge st τ cs=some (fr,x)->Uh X S fr->Cells w S τ us x:=by
  intro τ cs us fr x Um hr hv hS
  rw [Uq Um] at hv
  split at hv
  ·rename_i c
   obtain ⟨u,hu,_,hc⟩:=hr.2 0 c rfl
   have hl:us.length=1:=hr.1
   obtain ⟨u',rfl⟩:=En.1 hl
   simp at hu;subst hu
   exact vM h τ c _ fr x Um hc hv hS
  ·cases hv
 intro τ
 induction τ with
 |unit=>
  intro cs us fr x hr hv hS
  cases cs with
  |nil=>have:us= []:=Cm hr.1;exact this
  |cons c cs=>simp [Ge] at hv
 |pair a r iC iw=>
  intro cs us fr x hr hv hS
  simp only [Ge] at hv
  split at hv
  ·rename_i f1 y f2 z h1 h2
   simp only [Aa,Af] at hv
   obtain ⟨rfl,rfl⟩:=hv
   have hr1:Gv X w π st.heap (cs.take a.size) (us.take a.size):=
    ⟨by simp [hr.1],λi c hc=>by
     rw [Cv] at hc⊢
     split at hc
     ·rename_i hi;simp only [hi,Pl];exact hr.2 i c hc
     ·cases hc⟩
   have hr2:Gv X w π st.heap (cs.drop a.size) (us.drop a.size):=
    ⟨by simp [hr.1],λi c hc=>by
     rw [Cz] at hc⊢
     exact hr.2 _ c hc⟩
   exact ⟨us.take a.size,us.drop a.size,(Jc _ _).symm,iC _ _ _ _ hr1 h1 hS.and_left,iw _ _ _ _ hr2 h2 hS.and_right⟩
  ·cases hv
 |_=>exact λcs us fr x hr hv hS=>one _ cs us fr x rfl hr hv hS
theorem an {cs:List AC} {us:List Value} (h:Gv X w π H cs us) (i n:Nat):Gv X w π H ((cs.drop i).take n) ((us.drop i).take n):=
 ⟨by simp [h.1],λj c hc=>by
  rw [Cv] at hc⊢
  split at hc
  ·rename_i hi
   simp only [hi,Pl]
   rw [Cz] at hc⊢
   exact h.2 _ c hc
  ·cases hc⟩
theorem kh {st:St} (h:Nw X w π st.heap) {S:Nat->Prop} {a:Ty} {l i:Nat} {fr:Bool} {x:a.den} (hv:Vc st a l i=some (fr,x)) (hS:Uh X S fr) {r:Real} (hr:π l=some r):
  r.g<w.heap.size/\ ¬S r.g/\ ∃es:List Value,es.length=a.size/\(∀j u,es[j]?=some u->w.cell? ⟨r.g,i+j,none⟩=some u)/\Cells w S a es x:=by
 unfold Vc at hv
 split at hv
 ·rename_i tid vs hl
  obtain ⟨r',h3,h4,cur,h5,h6⟩:=(h.heap l).Sl hl
  rw [hr] at h3;cases h3
  have hc:=lO h a _ _ fr x (an h6 i a.size) hv hS
  refine ⟨He h5,λhs=>hS.own h hs ⟨l,r,hr,h4⟩,_,Cells.len a _ x hc,λj u hu=>?_,hc⟩
  rw [cellOf h5]
  rw [Cv] at hu
  split at hu
  ·rw [Cz] at hu;simpa using hu
  ·cases hu
 ·cases hv
theorem DA {st:St} (h:Nw X w π st.heap) {S:Nat->Prop} : ∀(τ:Ty) (Ev:List (Nat×Nat)) (us:List Value) (fr:Bool) (x:τ.den),us.length=Ev.length->
  (∀(j:Nat) p,Ev[j]?=some p-> ∃r tid vs,Av st.heap p.1=some (.var tid vs)/\π p.1=some r/\us[j]?=some (.pointer (some ⟨r.g,p.2,none⟩)))->
  Lz st τ Ev=some (fr,x)->Uh X S fr->Cells w S τ us x:=by
 intro τ
 induction τ with
 |unit=>
  intro Ev us fr x hl hr hv hS
  cases Ev with
  |nil=>exact Cm hl
  |cons c cs=>simp [Lz] at hv
 |pair a r _ iw=>
  intro Ev us fr x hl hr hv hS
  cases a with
  |ptr a=>
   cases Ev with
   |nil=>simp [Lz] at hv
   |cons c cs=>
    obtain ⟨l,i⟩:=c
    simp only [Lz] at hv
    split at hv
    ·rename_i f1 y f2 z h1 h2
     simp only [Aa,Af] at hv
     obtain ⟨rfl,rfl⟩:=hv
     cases us with
     |nil=>simp at hl
     |cons u us=>
      obtain ⟨r0,tid,vs,h3,h4,h5⟩:=hr 0 (l,i) rfl
      simp only [Bx,Aa] at h5
      subst h5
      obtain ⟨h6,h7,es,h8,h9,qN⟩:=kh h h1 hS.and_left h4
      exact ⟨[_],us,rfl,⟨r0.g,i,rfl,h6,h7,es,h8,h9,qN⟩,iw cs us f2 z (by simpa using hl) (λj p hp=>hr (j+1) p hp) h2 hS.and_right⟩
    ·cases hv
  |_=>cases Ev<;>simp [Lz] at hv
 |_=>intro Ev us fr x hl hr hv;cases Ev<;>simp [Lz] at hv
theorem JQ {st:St} (h:Nw X w π st.heap) {S:Nat->Prop} (τ:Ty) (c:AC) (v:Value) (fr:Bool) (x:τ.den) (Um:τ.Ar=false) (hc:Iq X w π st.heap c v)
  (hv:Kw st τ c=some (fr,x)) (hS:Uh X S fr):Cells w S τ [v] x:=by
 have Pg:Ec st τ c=some (fr,x)->Cells w S τ [v] x:= λhv=>vM h τ c v fr x Um hc hv hS
 cases τ with
 |ptr a=>
  cases c with
  |Ii l i=>
   obtain ⟨r,tid,vs,h1,h2,rfl⟩:=hc
   obtain ⟨h6,h7,h8⟩:=kh h hv hS h2
   exact ⟨r.g,i,rfl,h6,h7,h8⟩
  |_=>exact Pg hv
 |optr a=>
  cases c with
  |Ii l i=>
   obtain ⟨r,tid,vs,h1,h2,rfl⟩:=hc
   simp only [Kw] at hv
   cases hp:Vc st a l i with
   |none=>rw [hp] at hv;cases hv
   |some p=>
    rw [hp] at hv
    simp only [An,Aa,Af] at hv
    obtain ⟨rfl,rfl⟩:=hv
    obtain ⟨h6,h7,h8⟩:=kh h hp hS h2
    exact .inr ⟨_,r.g,i,rfl,rfl,h6,h7,h8⟩
  |_=>exact Pg hv
 |clo f a=>
  cases c with
  |clo g Ev=>
   simp only [Kw] at hv
   split at hv
   ·rename_i hg
    obtain ⟨rfl,Me⟩:=hg
    obtain ⟨us,rfl,h2,h3⟩:=hc
    exact ⟨us,by rw [iS Me],DA h a Ev us fr x h2 h3 hv hS⟩
   ·cases hv
  |_=>exact Pg hv
 |_=>exact Pg hv
theorem Zi {st:St} (h:Nw X w π st.heap) {S:Nat->Prop} (τ:Ty) (c:AV) (v:Value) (fr:Bool) (x:τ.den) (hc:Bs X w π st.heap c v)
  (hv:Gt st τ c=some (fr,x)) (hS:Uh X S fr):Dg w S τ v x:=by
 have Pg: ∀c:AC,Iq X w π st.heap c v->(if τ.Ar then none else Kw st τ c)=some (fr,x)->Dg w S τ v x:=by
  intro c hc hv
  split at hv
  ·cases hv
  ·rename_i Um
   simp only [Fc] at Um
   exact Dg.om Um (JQ h τ c v fr x Um hc hv hS)
 cases c with
 | «at»c=>
  cases c with
  |data Wt Pj y=>
   rw [dw] at hv
   split at hv
   ·rename_i ht;subst ht
    simp only [Aa,Af] at hv
    obtain ⟨rfl,rfl⟩:=hv
    obtain ⟨cs,h1,h2⟩:=hc
    exact ⟨cs,Rep.apart hS h1,h2⟩
   ·exact Pg (.data Wt Pj y) hc hv
  |undef=>exact Pg .undef hc hv
  |skip=>exact Pg .skip hc hv
  |Mx=>exact Pg .Mx hc hv
  |Wh=>exact Pg .Wh hc hv
  |own l off len=>exact Pg (.own l off len) hc hv
  |Ii l i=>exact Pg (.Ii l i) hc hv
  |Ld l i=>exact Pg (.Ld l i) hc hv
  |clo f Ev=>exact Pg (.clo f Ev) hc hv
  |Lk l=>exact Pg (.Lk l) hc hv
  |sub l i c=>exact Pg (.sub l i c) hc hv
  |Ky l i c=>exact Pg (.Ky l i c) hc hv
 |agg cs=>
  simp only [Gt] at hv
  split at hv
  ·rename_i Um
   obtain ⟨us,rfl,hr⟩:=hc
   exact ⟨us,lO h τ cs us fr x hr hv hS,by simp [Ce,Um]⟩
  ·cases hv
 |bH Wt Pj y=>simp [Gt] at hv
 |Nr l=>simp [Gt] at hv
theorem bo {st:St} (h:Nw X w π st.heap) {S:Nat->Prop} : ∀(τ:Ty) (cs:List AV) (vs:List Value) (fr:Bool) (x:τ.den),cs.length=vs.length->
  (∀(i:Nat) c v,cs[i]?=some c->vs[i]?=some v->Bs X w π st.heap c v)->Eg st τ cs=some (fr,x)->Uh X S fr->Cy w S τ vs x
 | .unit,[],vs,fr,x,hl,hr,hv,hS=>by
  have:vs= []:=Cm hl.symm
  subst this;trivial
 | .unit,_::_,vs,fr,x,hl,hr,hv,hS=>by simp [Eg] at hv
 | .pair a r,[],vs,fr,x,hl,hr,hv,hS=>by simp [Eg] at hv
 | .pair a r,c::cs,[],fr,x,hl,hr,hv,hS=>by simp at hl
 | .pair a r,c::cs,v::vs,fr,x,hl,hr,hv,hS=>by
  simp only [Eg] at hv
  split at hv
  ·rename_i f1 y f2 z h1 h2
   simp only [Aa,Af] at hv
   obtain ⟨rfl,rfl⟩:=hv
   exact ⟨Zi h a c v f1 y (hr 0 c v rfl rfl) h1 hS.and_left,bo h r cs vs f2 z (by simpa using hl) (λi c' v' hc tV=>hr (i+1) c' v' hc tV) h2 hS.and_right⟩
  ·cases hv
 | .int _,cs,vs,fr,x,hl,hr,hv,hS=>by cases cs<;>simp [Eg] at hv
 | .bool,cs,vs,fr,x,hl,hr,hv,hS=>by cases cs<;>simp [Eg] at hv
 | .str,cs,vs,fr,x,hl,hr,hv,hS=>by cases cs<;>simp [Eg] at hv
 | .slice _,cs,vs,fr,x,hl,hr,hv,hS=>by cases cs<;>simp [Eg] at hv
 | .ptr _,cs,vs,fr,x,hl,hr,hv,hS=>by cases cs<;>simp [Eg] at hv
 | .oslice _,cs,vs,fr,x,hl,hr,hv,hS=>by cases cs<;>simp [Eg] at hv
 | .optr _,cs,vs,fr,x,hl,hr,hv,hS=>by cases cs<;>simp [Eg] at hv
 | .smap _,cs,vs,fr,x,hl,hr,hv,hS=>by cases cs<;>simp [Eg] at hv
 | .clo _ _,cs,vs,fr,x,hl,hr,hv,hS=>by cases cs<;>simp [Eg] at hv
end
end Go.Proofs.YtkkdpknjohcekaaGreat
