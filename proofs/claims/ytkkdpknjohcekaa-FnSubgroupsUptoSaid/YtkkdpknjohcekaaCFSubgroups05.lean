/-
  Part 6 of the proof that the statement FnSubgroups holds.
-/
import Derived.Test.YtkkdpknjohcekaaCFSubgroups04
import Derived.WalkKit
import Derived.Laws.Slices
namespace Go.Proofs.Ytkkdpknjohcekaa
open Go.RowKit
def Bw:Ty->List Value
 | .int k=> [.int k 0]
 | .bool=> [.bool false]
 | .str=> [.string ByteArray.empty]
 | .slice _=> [.slice none 0 0]
 | .oslice _=> [.slice none 0 0]
 | .ptr _=> [.pointer none]
 | .optr _=> [.pointer none]
 | .smap _=> [.map none]
 | .clo _ _=> [.nilFunc]
 | .unit=> []
 | .pair a r=>Bw a++Bw r
structure nk (P:Program) (T:Tab) (t:TypeId) (τ:Ty):Prop where
 info: ∃i:TypeInfo,P.info? t=some i/\i.size=τ.size/\i.bytes<=256/\i.zero=some (Ce τ (Bw τ))
 desc:match τ with
  | .int k=>P.underlying t=some (.int k)
  | .bool=>P.underlying t=some .bool
  | .str=>P.underlying t=some .string
  | .slice e=> ∃te,P.underlying t=some (.slice te)/\T.elem t=some te/\T.ty te=some e
  | .oslice e=> ∃te,P.underlying t=some (.slice te)/\T.elem t=some te/\T.ty te=some e
  | .ptr _=> ∃u,P.underlying t=some (.pointer u)
  | .optr _=> ∃u,P.underlying t=some (.pointer u)
  | .smap _=> ∃k e,P.underlying t=some (.map k e)
  | .clo _ _=>False
  | .unit| .pair _ _=> ∃fs,P.underlying t=some (.struct fs)
def placesOf (fs:Array Field):Sem (Array (Nat×Nat)):=fs.mapM λf=>do pure (f.offset,<-sizeOf f.type)
structure Ef (P:Program) (T:Tab):Prop where
 fill: ∀t τ,T.ty t=some τ->τ.Ap=true-> ∃(fs:Array Field) (Kj:Array (Nat×Nat)),P.underlying t=some (.struct fs)/\(∀w,(placesOf fs).run P w= .ok Kj w)/\
  ∀f o u ρ,T.off t f=some (o,u)->T.ty u=some ρ->Kj[f]?=some (o,ρ.size)
 ty: ∀t τ,T.ty t=some τ->nk P T t τ
 elem: ∀t te,T.elem t=some te->P.underlying t=some (.slice te)
 mapOf: ∀t v,T.mapOf t=some v-> ∃k e,P.underlying t=some (.map k e)/\P.underlying k=some .string/\T.ty e=some v/\v.flat=true/\v.Ap=false
 off: ∀s f o t,T.off s f=some (o,t)-> ∃(fs:Array Field) (fd:Field),P.underlying s=some (.struct fs)/\fs[f]?=some fd/\fd.offset=o/\fd.type=t/\ ∃i:TypeInfo,P.info? t=some i/\i.size≠0
section
variable {P:Program} {T:Tab} {X:Ctx} {w w':World} {π:Pi} {H:List (Nat×OB)}
theorem Qk {t:TypeId} {d:TypeDesc} (h:P.underlying t=some d):(isAgg t).run P w= .ok (match d with| .struct _| .array _ _=>true|_=>false) w:=by
 unfold isAgg
 rw [Sem.run_bind,run_underlying h]
 cases d<;>rfl
theorem nk.agg {t:TypeId} {τ:Ty} (h:nk P T t τ):(isAgg t).run P w= .ok τ.Ap w:=by
 have hd:=h.desc
 cases τ<;>simp only at hd
 case int k=>rw [Qk hd];rfl
 case bool=>rw [Qk hd];rfl
 case str=>rw [Qk hd];rfl
 case slice e=>obtain ⟨te,hd,_⟩:=hd;rw [Qk hd];rfl
 case ptr e=>obtain ⟨te,hd⟩:=hd;rw [Qk hd];rfl
 case oslice e=>obtain ⟨te,hd,_⟩:=hd;rw [Qk hd];rfl
 case optr e=>obtain ⟨te,hd⟩:=hd;rw [Qk hd];rfl
 case smap e=>obtain ⟨k,te,hd⟩:=hd;rw [Qk hd];rfl
 case unit=>obtain ⟨te,hd⟩:=hd;rw [Qk hd];rfl
 case pair e r=>obtain ⟨te,hd⟩:=hd;rw [Qk hd];rfl
theorem nk.size {t:TypeId} {τ:Ty} (h:nk P T t τ):(sizeOf t).run P w= .ok τ.size w:=by
 obtain ⟨i,hi,hs,_⟩:=h.info
 simp [sizeOf,typeInfo,hi,hs]
theorem Da.Rr {S:Nat->Prop} {τ:Ty} {v:Value} {x:τ.den} (Ts:τ.Ap=false) (h:Da w S τ v x):Cells w S τ [v] x:=by
 obtain ⟨cs,hc,rfl⟩:=h
 have hl:=Cells.len τ cs x hc
 have h1:τ.size=1:=by cases τ<;>simp_all [Ty.Ap,Ty.size]
 rw [h1] at hl
 obtain ⟨c,rfl⟩:=Eh.1 hl
 simpa [Ce,Ts] using hc
theorem Da.ov {S:Nat->Prop} {τ:Ty} {v:Value} {x:τ.den} (Ts:τ.Ap=false) (h:Cells w S τ [v] x):Da w S τ v x:=
 ⟨[v],h,by simp [Ce,Ts]⟩
def Tn (X:Ctx) (S:Nat->Prop) (fr:Bool):Prop:=(∀k,S k->k<X.w0.heap.size/\ ¬X.gv k)/\(fr=true\/ ∀k,S k->X.Sc k)
theorem Tn.iE {S:Nat->Prop} {fr:Bool} (h:Tn X S fr) (k:Nat) (hk:S k):De X.w0.heap.size X.Sc π fr k:=by
 rcases h.2 with h2|h2
 ·exact .inr (.inr ⟨h2,(h.1 k hk).1⟩)
 ·exact .inr (.inl (h2 k hk))
theorem Tn.and_left {S:Nat->Prop} {f1 f2:Bool} (h:Tn X S (f1&&f2)):Tn X S f1:=
 ⟨h.1,h.2.imp (λh=>by simp at h;exact h.1) id⟩
theorem Tn.and_right {S:Nat->Prop} {f1 f2:Bool} (h:Tn X S (f1&&f2)):Tn X S f2:=
 ⟨h.1,h.2.imp (λh=>by simp at h;exact h.2) id⟩
theorem Rep.apart {S:Nat->Prop} {fr:Bool} {τ:Ty} {cs:List Value} {x:τ.den} (hS:Tn X S (fr||τ.flat)) (h:Cells w (De X.w0.heap.size X.Sc π fr) τ cs x):Cells w S τ cs x:=by
 cases hf:τ.flat with
 |true=>exact Cells.flat τ cs x hf h
 |false=>
  rw [hf,il] at hS
  exact Cells.Fm (Aq _) (λ_ _ _=>rfl) (λk _ hk=>hS.iE k hk) τ cs x h
theorem Tn.own {S:Nat->Prop} {fr:Bool} (hS:Tn X S fr) (h:Mr X w π H) {k:Nat} (hk:S k): ¬Vu π k:= λho=>by
 have h1:=hS.1 k hk
 rcases (h.own ho).2 with h2|h2
 ·omega
 ·exact h1.2 h2
theorem Nl (st:St) (τ:Ty) (fr:Bool) (Nv:Ty) (x:Nv.den):Dx st τ (.data fr Nv x)=if h:Nv=τ then some (fr||τ.flat,h▸x) else iO fr τ Nv x:=by
 cases τ<;>rfl
theorem dh (st:St) (τ:Ty) (fr:Bool) (Nv:Ty) (x:Nv.den):Fv st τ (.at (.data fr Nv x))=if h:Nv=τ then some (fr||τ.flat,h▸x) else if τ.Ap then none else Jp st τ (.data fr Nv x):=rfl
theorem CM (st:St) (τ:Ty) (fr:Bool) (Nv:Ty) (x:Nv.den):Jp st τ (.data fr Nv x)=Dx st τ (.data fr Nv x):=by
 cases τ<;>rfl
theorem TG {S:Nat->Prop} {fr:Bool} {τ Nv:Ty} {x:Nv.den} {f:Bool} {y:τ.den} {v:Value} (h:iO fr τ Nv x=some (f,y)) (hc:Da w (De X.w0.heap.size X.Sc π fr) Nv v x) (hS:Tn X S f):
  τ.Ap=false/\f=fr/\Cells w S τ [v] y:=by
 unfold iO at h
 split at h
 ·split at h
  ·rename_i e e' _ ZN
   subst ZN
   simp only [Aa,Ah] at h
   obtain ⟨rfl,rfl⟩:=h
   refine ⟨rfl,rfl,?_⟩
   have h1:=Rep.apart (S:=S) (τ:= .oslice e') ⟨hS.1,hS.2.imp (λh=>by rw [h];rfl) id⟩ (Da.Rr rfl hc)
   simp only [Cells] at h1⊢
   rcases h1 with ⟨rfl,c,h1⟩|⟨xs,ad,len,cap,rfl,h1,h2,h3,h4⟩
   ·exact ⟨none,0,c,h1,rfl,Jx _, .inl rfl⟩
   ·exact ⟨_,len,cap,h1,h2,h3,h4.imp id λ⟨g,o,ha,h4⟩=>⟨g,o,by rw [ha],h4⟩⟩
  ·cases h
 ·split at h
  ·rename_i a a' _ haa
   subst haa
   simp only [Aa,Ah] at h
   obtain ⟨rfl,rfl⟩:=h
   refine ⟨rfl,rfl,?_⟩
   have h1:=Rep.apart (S:=S) (τ:= .ptr a') ⟨hS.1,hS.2.imp (λh=>by rw [h];rfl) id⟩ (Da.Rr rfl hc)
   simp only [Cells] at h1⊢
   obtain ⟨g,o,h2⟩:=h1
   exact .inr ⟨_,g,o,rfl,h2⟩
  ·cases h
 ·cases h
theorem vF {st:St} (h:Mr X w π st.heap) {S:Nat->Prop} (τ:Ty) (c:AC) (v:Value) (fr:Bool) (x:τ.den) (Ts:τ.Ap=false) (hc:Hj X w π st.heap c v)
  (hv:Dx st τ c=some (fr,x)) (hS:Tn X S fr):Cells w S τ [v] x:=by
 cases c with
 |data Wd Nv y=>
  rw [Nl] at hv
  split at hv
  ·rename_i ht;subst ht
   simp only [Aa,Ah] at hv
   obtain ⟨rfl,rfl⟩:=hv
   exact Rep.apart hS (Da.Rr Ts hc)
  ·exact (TG hv hc hS).2.2
 |Lp=>
  cases τ with
  |slice e=>
   simp only [Dx,Aa,Ah] at hv
   obtain ⟨_,rfl⟩:=hv
   exact ⟨none,0,0,by rw [show v=_ from hc],rfl,Aq _, .inl rfl⟩
  |oslice e=>
   simp only [Dx,Aa,Ah] at hv
   obtain ⟨_,rfl⟩:=hv
   exact .inl ⟨rfl,0,by rw [show v=_ from hc]⟩
  |_=>simp [Dx] at hv
 |Vp=>
  cases τ with
  |optr e=>
   simp only [Dx,Aa,Ah] at hv
   obtain ⟨_,rfl⟩:=hv
   exact .inl ⟨rfl,by rw [show v=_ from hc]⟩
  |_=>simp [Dx] at hv
 |own l off len=>
  cases τ with
  |slice e=>
   simp only [Dx] at hv
   split at hv
   ·rename_i Wd tr' e' tid xs hl
    split at hv
    ·rename_i he;subst he
     simp only [Aa,Ah] at hv
     obtain ⟨rfl,rfl⟩:=hv
     obtain ⟨h2,h3⟩:=Oc hc hl
     exact pR h hl h2 h3 (λk hk ⟨r,hr,LX⟩=>hS.own h hk ⟨l,r,hr,LX⟩) (λk _ hk=>hS.iE k hk)
    ·cases hv
   ·rename_i e' tid xs hl
    split at hv
    ·rename_i he;subst he
     simp only [Aa,Ah] at hv
     obtain ⟨rfl,rfl⟩:=hv
     obtain ⟨h2,h3⟩:=bZ hc hl
     exact nc h hl h2 h3 (λk hk ⟨r,hr,LX⟩=>hS.own h hk ⟨l,r,hr,LX⟩)
    ·cases hv
   ·rename_i e' tid rows kp hl
    split at hv
    ·rename_i he;subst he
     simp only [Aa,Ah] at hv
     obtain ⟨rfl,rfl⟩:=hv
     obtain ⟨h2,h3⟩:=oE hc hl
     exact tu h hl h2 h3 (λk hk ⟨r,hr,LX⟩=>hS.own h hk ⟨l,r,hr,LX⟩) (λk hk=>hS.iE k hk)
    ·cases hv
   ·cases hv
  |_=>simp [Dx] at hv
 |sub l i c=>
  cases τ with
  |slice e=>
   simp only [Dx] at hv
   split at hv
   ·rename_i e' tid rows kp hl
    split at hv
    ·rename_i he;subst he
     simp only [Aa,Ah] at hv
     obtain ⟨rfl,rfl⟩:=hv
     exact tv h hl (FE hc hl) hc (λk hk ⟨r,hr,LX⟩=>hS.own h hk ⟨l,r,hr,LX⟩) (λk hk=>hS.iE k hk)
    ·cases hv
   ·cases hv
  |_=>simp [Dx] at hv
 |Kh l=>
  cases τ with
  |smap vt=>
   simp only [Dx] at hv
   split at hv
   ·rename_i v' m hl
    split at hv
    ·rename_i he;subst he
     simp only [Aa,Ah] at hv
     obtain ⟨_,rfl⟩:=hv
     obtain ⟨r,vt,m',h1,h2,rfl⟩:=hc
     exact yt ((h.heap l).Rc hl) (by rw [h2];rfl) λhs=>hS.own h hs ⟨l,r,h2,h.Cz h2⟩
    ·cases hv
   ·cases hv
  |_=>simp [Dx] at hv
 |_=>cases τ<;>simp [Dx] at hv
theorem Ua {st:St} {τ:Ty} (Ts:τ.Ap=false) (cs:List AC):Fh st τ cs=match cs with| [c]=>Dx st τ c|_=>none:=by
 cases τ<;>simp [Ty.Ap] at Ts<;>rcases cs with _|⟨c,_|⟨d,r⟩⟩<;>rfl
theorem lR {st:St} (h:Mr X w π st.heap) {S:Nat->Prop} : ∀(τ:Ty) (cs:List AC) (us:List Value) (fr:Bool) (x:τ.den),Fw X w π st.heap cs us->
  Fh st τ cs=some (fr,x)->Tn X S fr->Cells w S τ us x:=by
 have one: ∀(τ:Ty) (cs:List AC) (us:List Value) (fr:Bool) (x:τ.den),τ.Ap=false->Fw X w π st.heap cs us->
   Fh st τ cs=some (fr,x)->Tn X S fr->Cells w S τ us x:=by
  intro τ cs us fr x Ts hr hv hS
  rw [Ua Ts] at hv
  split at hv
  ·rename_i c
   obtain ⟨u,hu,_,hc⟩:=hr.2 0 c rfl
   have hl:us.length=1:=hr.1
   obtain ⟨u',rfl⟩:=Eh.1 hl
   simp at hu;subst hu
   exact vF h τ c _ fr x Ts hc hv hS
  ·cases hv
 intro τ
 induction τ with
 |unit=>
  intro cs us fr x hr hv hS
  cases cs with
  |nil=>have:us= []:=Co hr.1;exact this
  |cons c cs=>simp [Fh] at hv
 |pair a r iq ie=>
  intro cs us fr x hr hv hS
  simp only [Fh] at hv
  split at hv
  ·rename_i f1 y f2 z h1 h2
   simp only [Aa,Ah] at hv
   obtain ⟨rfl,rfl⟩:=hv
   have hr1:Fw X w π st.heap (cs.take a.size) (us.take a.size):=
    ⟨by simp [hr.1],λi c hc=>by
     rw [Dc] at hc⊢
     split at hc
     ·rename_i hi;simp only [hi,Ny];exact hr.2 i c hc
     ·cases hc⟩
   have hr2:Fw X w π st.heap (cs.drop a.size) (us.drop a.size):=
    ⟨by simp [hr.1],λi c hc=>by
     rw [Db] at hc⊢
     exact hr.2 _ c hc⟩
   exact ⟨us.take a.size,us.drop a.size,(Lc _ _).symm,iq _ _ _ _ hr1 h1 hS.and_left,ie _ _ _ _ hr2 h2 hS.and_right⟩
  ·cases hv
 |_=>exact λcs us fr x hr hv hS=>one _ cs us fr x rfl hr hv hS
theorem a7 {cs:List AC} {us:List Value} (h:Fw X w π H cs us) (i n:Nat):Fw X w π H ((cs.drop i).take n) ((us.drop i).take n):=
 ⟨by simp [h.1],λj c hc=>by
  rw [Dc] at hc⊢
  split at hc
  ·rename_i hi
   simp only [hi,Ny]
   rw [Db] at hc⊢
   exact h.2 _ c hc
  ·cases hc⟩
theorem kc {st:St} (h:Mr X w π st.heap) {S:Nat->Prop} {a:Ty} {l i:Nat} {fr:Bool} {x:a.den} (hv:Un st a l i=some (fr,x)) (hS:Tn X S fr) {r:Real} (hr:π l=some r):
  r.g<w.heap.size/\ ¬S r.g/\ ∃es:List Value,es.length=a.size/\(∀j u,es[j]?=some u->w.cell? ⟨r.g,i+j,none⟩=some u)/\Cells w S a es x:=by
 unfold Un at hv
 split at hv
 ·rename_i tid vs hl
  obtain ⟨r',h3,h4,cur,h5,h6⟩:=(h.heap l).Rc hl
  rw [hr] at h3;cases h3
  have hc:=lR h a _ _ fr x (a7 h6 i a.size) hv hS
  refine ⟨Gh h5,λhs=>hS.own h hs ⟨l,r,hr,h4⟩,_,Cells.len a _ x hc,λj u hu=>?_,hc⟩
  rw [cellOf h5]
  rw [Dc] at hu
  split at hu
  ·rw [Db] at hu;simpa using hu
  ·cases hu
 ·cases hv
theorem CL {st:St} (h:Mr X w π st.heap) {S:Nat->Prop} : ∀(τ:Ty) (Ek:List (Nat×Nat)) (us:List Value) (fr:Bool) (x:τ.den),us.length=Ek.length->
  (∀(j:Nat) p,Ek[j]?=some p-> ∃r tid vs,Aw st.heap p.1=some (.var tid vs)/\π p.1=some r/\us[j]?=some (.pointer (some ⟨r.g,p.2,none⟩)))->
  Kx st τ Ek=some (fr,x)->Tn X S fr->Cells w S τ us x:=by
 intro τ
 induction τ with
 |unit=>
  intro Ek us fr x hl hr hv hS
  cases Ek with
  |nil=>exact Co hl
  |cons c cs=>simp [Kx] at hv
 |pair a r _ ie=>
  intro Ek us fr x hl hr hv hS
  cases a with
  |ptr a=>
   cases Ek with
   |nil=>simp [Kx] at hv
   |cons c cs=>
    obtain ⟨l,i⟩:=c
    simp only [Kx] at hv
    split at hv
    ·rename_i f1 y f2 z h1 h2
     simp only [Aa,Ah] at hv
     obtain ⟨rfl,rfl⟩:=hv
     cases us with
     |nil=>simp at hl
     |cons u us=>
      obtain ⟨r0,tid,vs,h3,h4,h5⟩:=hr 0 (l,i) rfl
      simp only [Bz,Aa] at h5
      subst h5
      obtain ⟨h6,h7,es,h8,h9,oX⟩:=kc h h1 hS.and_left h4
      exact ⟨[_],us,rfl,⟨r0.g,i,rfl,h6,h7,es,h8,h9,oX⟩,ie cs us f2 z (by simpa using hl) (λj p hp=>hr (j+1) p hp) h2 hS.and_right⟩
    ·cases hv
  |_=>cases Ek<;>simp [Kx] at hv
 |_=>intro Ek us fr x hl hr hv;cases Ek<;>simp [Kx] at hv
theorem JH {st:St} (h:Mr X w π st.heap) {S:Nat->Prop} (τ:Ty) (c:AC) (v:Value) (fr:Bool) (x:τ.den) (Ts:τ.Ap=false) (hc:Hj X w π st.heap c v)
  (hv:Jp st τ c=some (fr,x)) (hS:Tn X S fr):Cells w S τ [v] x:=by
 have Ns:Dx st τ c=some (fr,x)->Cells w S τ [v] x:= λhv=>vF h τ c v fr x Ts hc hv hS
 cases τ with
 |ptr a=>
  cases c with
  |He l i=>
   obtain ⟨r,tid,vs,h1,h2,rfl⟩:=hc
   obtain ⟨h6,h7,h8⟩:=kc h hv hS h2
   exact ⟨r.g,i,rfl,h6,h7,h8⟩
  |_=>exact Ns hv
 |optr a=>
  cases c with
  |He l i=>
   obtain ⟨r,tid,vs,h1,h2,rfl⟩:=hc
   simp only [Jp] at hv
   cases hp:Un st a l i with
   |none=>rw [hp] at hv;cases hv
   |some p=>
    rw [hp] at hv
    simp only [Am,Aa,Ah] at hv
    obtain ⟨rfl,rfl⟩:=hv
    obtain ⟨h6,h7,h8⟩:=kc h hp hS h2
    exact .inr ⟨_,r.g,i,rfl,rfl,h6,h7,h8⟩
  |_=>exact Ns hv
 |clo f a=>
  cases c with
  |clo g Ek=>
   simp only [Jp] at hv
   split at hv
   ·rename_i hg
    obtain ⟨rfl,Jc⟩:=hg
    obtain ⟨us,rfl,h2,h3⟩:=hc
    exact ⟨us,by rw [iL Jc],CL h a Ek us fr x h2 h3 hv hS⟩
   ·cases hv
  |_=>exact Ns hv
 |_=>exact Ns hv
theorem Yx {st:St} (h:Mr X w π st.heap) {S:Nat->Prop} (τ:Ty) (c:AV) (v:Value) (fr:Bool) (x:τ.den) (hc:Bq X w π st.heap c v)
  (hv:Fv st τ c=some (fr,x)) (hS:Tn X S fr):Da w S τ v x:=by
 have Ns: ∀c:AC,Hj X w π st.heap c v->(if τ.Ap then none else Jp st τ c)=some (fr,x)->Da w S τ v x:=by
  intro c hc hv
  split at hv
  ·cases hv
  ·rename_i Ts
   simp only [Fa] at Ts
   exact Da.ov Ts (JH h τ c v fr x Ts hc hv hS)
 cases c with
 | «at»c=>
  cases c with
  |data Wd Nv y=>
   rw [dh] at hv
   split at hv
   ·rename_i ht;subst ht
    simp only [Aa,Ah] at hv
    obtain ⟨rfl,rfl⟩:=hv
    obtain ⟨cs,h1,h2⟩:=hc
    exact ⟨cs,Rep.apart hS h1,h2⟩
   ·exact Ns (.data Wd Nv y) hc hv
  |undef=>exact Ns .undef hc hv
  |skip=>exact Ns .skip hc hv
  |Lp=>exact Ns .Lp hc hv
  |Vp=>exact Ns .Vp hc hv
  |own l off len=>exact Ns (.own l off len) hc hv
  |He l i=>exact Ns (.He l i) hc hv
  |Jv l i=>exact Ns (.Jv l i) hc hv
  |clo f Ek=>exact Ns (.clo f Ek) hc hv
  |Kh l=>exact Ns (.Kh l) hc hv
  |sub l i c=>exact Ns (.sub l i c) hc hv
  |Js l i c=>exact Ns (.Js l i c) hc hv
 |agg cs=>
  simp only [Fv] at hv
  split at hv
  ·rename_i Ts
   obtain ⟨us,rfl,hr⟩:=hc
   exact ⟨us,lR h τ cs us fr x hr hv hS,by simp [Ce,Ts]⟩
  ·cases hv
 |bp Wd Nv y=>simp [Fv] at hv
 |Mn l=>simp [Fv] at hv
theorem ba {st:St} (h:Mr X w π st.heap) {S:Nat->Prop} : ∀(τ:Ty) (cs:List AV) (vs:List Value) (fr:Bool) (x:τ.den),cs.length=vs.length->
  (∀(i:Nat) c v,cs[i]?=some c->vs[i]?=some v->Bq X w π st.heap c v)->Ec st τ cs=some (fr,x)->Tn X S fr->Cy w S τ vs x
 | .unit,[],vs,fr,x,hl,hr,hv,hS=>by
  have:vs= []:=Co hl.symm
  subst this;trivial
 | .unit,_::_,vs,fr,x,hl,hr,hv,hS=>by simp [Ec] at hv
 | .pair a r,[],vs,fr,x,hl,hr,hv,hS=>by simp [Ec] at hv
 | .pair a r,c::cs,[],fr,x,hl,hr,hv,hS=>by simp at hl
 | .pair a r,c::cs,v::vs,fr,x,hl,hr,hv,hS=>by
  simp only [Ec] at hv
  split at hv
  ·rename_i f1 y f2 z h1 h2
   simp only [Aa,Ah] at hv
   obtain ⟨rfl,rfl⟩:=hv
   exact ⟨Yx h a c v f1 y (hr 0 c v rfl rfl) h1 hS.and_left,ba h r cs vs f2 z (by simpa using hl) (λi c' v' hc tJ=>hr (i+1) c' v' hc tJ) h2 hS.and_right⟩
  ·cases hv
 | .int _,cs,vs,fr,x,hl,hr,hv,hS=>by cases cs<;>simp [Ec] at hv
 | .bool,cs,vs,fr,x,hl,hr,hv,hS=>by cases cs<;>simp [Ec] at hv
 | .str,cs,vs,fr,x,hl,hr,hv,hS=>by cases cs<;>simp [Ec] at hv
 | .slice _,cs,vs,fr,x,hl,hr,hv,hS=>by cases cs<;>simp [Ec] at hv
 | .ptr _,cs,vs,fr,x,hl,hr,hv,hS=>by cases cs<;>simp [Ec] at hv
 | .oslice _,cs,vs,fr,x,hl,hr,hv,hS=>by cases cs<;>simp [Ec] at hv
 | .optr _,cs,vs,fr,x,hl,hr,hv,hS=>by cases cs<;>simp [Ec] at hv
 | .smap _,cs,vs,fr,x,hl,hr,hv,hS=>by cases cs<;>simp [Ec] at hv
 | .clo _ _,cs,vs,fr,x,hl,hr,hv,hS=>by cases cs<;>simp [Ec] at hv
end
end Go.Proofs.Ytkkdpknjohcekaa
