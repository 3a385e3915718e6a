/-
  Part 6 of the proof that the statement FnLowerBounds holds.
-/
import Derived.Test.YtkkdpknjohcekaaGreatCFLowerBounds04
import Derived.WalkKit
import Derived.Laws.Slices
namespace Go.Proofs.YtkkdpknjohcekaaGreat
open Go.RowKit
def Bq:Ty->List Value
 | .int k=> [.int k 0]
 | .bool=> [.bool false]
 | .str=> [.string ByteArray.empty]
 | .slice _=> [.slice none 0 0]
 | .oslice _=> [.slice none 0 0]
 | .ptr _=> [.pointer none]
 | .optr _=> [.pointer none]
 | .smap _=> [.map none]
 | .clo _ _=> [.nilFunc]
 | .unit=> []
 | .pair a r=>Bq a++Bq r
structure qT (P:Program) (T:Tab) (t:TypeId) (τ:Ty):Prop where
 info: ∃i:TypeInfo,P.info? t=some i/\i.size=τ.size/\i.bytes<=256/\i.zero=some (Ca τ (Bq τ))
 desc:match τ with
  | .int k=>P.underlying t=some (.int k)
  | .bool=>P.underlying t=some .bool
  | .str=>P.underlying t=some .string
  | .slice e=> ∃te,P.underlying t=some (.slice te)/\T.elem t=some te/\T.ty te=some e
  | .oslice e=> ∃te,P.underlying t=some (.slice te)/\T.elem t=some te/\T.ty te=some e
  | .ptr _=> ∃u,P.underlying t=some (.pointer u)
  | .optr _=> ∃u,P.underlying t=some (.pointer u)
  | .smap _=> ∃k e,P.underlying t=some (.map k e)
  | .clo _ _=>False
  | .unit| .pair _ _=> ∃fs,P.underlying t=some (.struct fs)
def placesOf (fs:Array Field):Sem (Array (Nat×Nat)):=fs.mapM λf=>do pure (f.offset,<-sizeOf f.type)
structure Eg (P:Program) (T:Tab):Prop where
 fill: ∀t τ,T.ty t=some τ->τ.Ao=true-> ∃(fs:Array Field) (Oy:Array (Nat×Nat)),P.underlying t=some (.struct fs)/\(∀w,(placesOf fs).run P w= .ok Oy w)/\
  ∀f o u ρ,T.off t f=some (o,u)->T.ty u=some ρ->Oy[f]?=some (o,ρ.size)
 ty: ∀t τ,T.ty t=some τ->qT P T t τ
 elem: ∀t te,T.elem t=some te->P.underlying t=some (.slice te)
 mapOf: ∀t v,T.mapOf t=some v-> ∃k e,P.underlying t=some (.map k e)/\P.underlying k=some .string/\T.ty e=some v/\v.flat=true/\v.Ao=false
 off: ∀s f o t,T.off s f=some (o,t)-> ∃(fs:Array Field) (fd:Field),P.underlying s=some (.struct fs)/\fs[f]?=some fd/\fd.offset=o/\fd.type=t/\ ∃i:TypeInfo,P.info? t=some i/\i.size≠0
section
variable {P:Program} {T:Tab} {X:Ctx} {w w':World} {π:Pi} {H:List (Nat×OB)}
theorem Rp {t:TypeId} {d:TypeDesc} (h:P.underlying t=some d):(isAgg t).run P w= .ok (match d with| .struct _| .array _ _=>true|_=>false) w:=by
 unfold isAgg
 rw [Sem.run_bind,run_underlying h]
 cases d<;>rfl
theorem qT.agg {t:TypeId} {τ:Ty} (h:qT P T t τ):(isAgg t).run P w= .ok τ.Ao w:=by
 have hd:=h.desc
 cases τ<;>simp only at hd
 case int k=>rw [Rp hd];rfl
 case bool=>rw [Rp hd];rfl
 case str=>rw [Rp hd];rfl
 case slice e=>obtain ⟨te,hd,_⟩:=hd;rw [Rp hd];rfl
 case ptr e=>obtain ⟨te,hd⟩:=hd;rw [Rp hd];rfl
 case oslice e=>obtain ⟨te,hd,_⟩:=hd;rw [Rp hd];rfl
 case optr e=>obtain ⟨te,hd⟩:=hd;rw [Rp hd];rfl
 case smap e=>obtain ⟨k,te,hd⟩:=hd;rw [Rp hd];rfl
 case unit=>obtain ⟨te,hd⟩:=hd;rw [Rp hd];rfl
 case pair e r=>obtain ⟨te,hd⟩:=hd;rw [Rp hd];rfl
theorem qT.size {t:TypeId} {τ:Ty} (h:qT P T t τ):(sizeOf t).run P w= .ok τ.size w:=by
 obtain ⟨i,hi,hs,_⟩:=h.info
 simp [sizeOf,typeInfo,hi,hs]
theorem Cu.Tc {S:Nat->Prop} {τ:Ty} {v:Value} {x:τ.den} (Uv:τ.Ao=false) (h:Cu w S τ v x):Cells w S τ [v] x:=by
 obtain ⟨cs,hc,rfl⟩:=h
 have hl:=Cells.len τ cs x hc
 have h1:τ.size=1:=by cases τ<;>simp_all [Ty.Ao,Ty.size]
 rw [h1] at hl
 obtain ⟨c,rfl⟩:=Ee.1 hl
 simpa [Ca,Uv] using hc
theorem Cu.nU {S:Nat->Prop} {τ:Ty} {v:Value} {x:τ.den} (Uv:τ.Ao=false) (h:Cells w S τ [v] x):Cu w S τ v x:=
 ⟨[v],h,by simp [Ca,Uv]⟩
def Uq (X:Ctx) (S:Nat->Prop) (fr:Bool):Prop:=(∀k,S k->k<X.w0.heap.size/\ ¬X.gv k)/\(fr=true\/ ∀k,S k->X.Sc k)
theorem Uq.ir {S:Nat->Prop} {fr:Bool} (h:Uq X S fr) (k:Nat) (hk:S k):Cx X.w0.heap.size X.Sc π fr k:=by
 rcases h.2 with h2|h2
 ·exact .inr (.inr ⟨h2,(h.1 k hk).1⟩)
 ·exact .inr (.inl (h2 k hk))
theorem Uq.and_left {S:Nat->Prop} {f1 f2:Bool} (h:Uq X S (f1&&f2)):Uq X S f1:=
 ⟨h.1,h.2.imp (λh=>by simp at h;exact h.1) id⟩
theorem Uq.and_right {S:Nat->Prop} {f1 f2:Bool} (h:Uq X S (f1&&f2)):Uq X S f2:=
 ⟨h.1,h.2.imp (λh=>by simp at h;exact h.2) id⟩
theorem Rep.apart {S:Nat->Prop} {fr:Bool} {τ:Ty} {cs:List Value} {x:τ.den} (hS:Uq X S (fr||τ.flat)) (h:Cells w (Cx X.w0.heap.size X.Sc π fr) τ cs x):Cells w S τ cs x:=by
 cases hf:τ.flat with
 |true=>exact Cells.flat τ cs x hf h
 |false=>
  rw [hf,ia] at hS
  exact Cells.Fw (Ap _) (λ_ _ _=>rfl) (λk _ hk=>hS.ir k hk) τ cs x h
theorem Uq.own {S:Nat->Prop} {fr:Bool} (hS:Uq X S fr) (h:Nm X w π H) {k:Nat} (hk:S k): ¬Wo π k:= λho=>by
 have h1:=hS.1 k hk
 rcases (h.own ho).2 with h2|h2
 ·omega
 ·exact h1.2 h2
theorem Ol (st:St) (τ:Ty) (fr:Bool) (Pb:Ty) (x:Pb.den):Dr st τ (.data fr Pb x)=if h:Pb=τ then some (fr||τ.flat,h▸x) else iF fr τ Pb x:=by
 cases τ<;>rfl
theorem dq (st:St) (τ:Ty) (fr:Bool) (Pb:Ty) (x:Pb.den):Gc st τ (.at (.data fr Pb x))=if h:Pb=τ then some (fr||τ.flat,h▸x) else if τ.Ao then none else Kp st τ (.data fr Pb x):=rfl
theorem AT (st:St) (τ:Ty) (fr:Bool) (Pb:Ty) (x:Pb.den):Kp st τ (.data fr Pb x)=Dr st τ (.data fr Pb x):=by
 cases τ<;>rfl
theorem RF {S:Nat->Prop} {fr:Bool} {τ Pb:Ty} {x:Pb.den} {f:Bool} {y:τ.den} {v:Value} (h:iF fr τ Pb x=some (f,y)) (hc:Cu w (Cx X.w0.heap.size X.Sc π fr) Pb v x) (hS:Uq X S f):
  τ.Ao=false/\f=fr/\Cells w S τ [v] y:=by
 unfold iF at h
 split at h
 ·split at h
  ·rename_i e e' _ WZ
   subst WZ
   simp only [Aa,Ae] at h
   obtain ⟨rfl,rfl⟩:=h
   refine ⟨rfl,rfl,?_⟩
   have h1:=Rep.apart (S:=S) (τ:= .oslice e') ⟨hS.1,hS.2.imp (λh=>by rw [h];rfl) id⟩ (Cu.Tc rfl hc)
   simp only [Cells] at h1⊢
   rcases h1 with ⟨rfl,c,h1⟩|⟨xs,ad,len,cap,rfl,h1,h2,h3,h4⟩
   ·exact ⟨none,0,c,h1,rfl,Kd _, .inl rfl⟩
   ·exact ⟨_,len,cap,h1,h2,h3,h4.imp id λ⟨g,o,ha,h4⟩=>⟨g,o,by rw [ha],h4⟩⟩
  ·cases h
 ·split at h
  ·rename_i a a' _ haa
   subst haa
   simp only [Aa,Ae] at h
   obtain ⟨rfl,rfl⟩:=h
   refine ⟨rfl,rfl,?_⟩
   have h1:=Rep.apart (S:=S) (τ:= .ptr a') ⟨hS.1,hS.2.imp (λh=>by rw [h];rfl) id⟩ (Cu.Tc rfl hc)
   simp only [Cells] at h1⊢
   obtain ⟨g,o,h2⟩:=h1
   exact .inr ⟨_,g,o,rfl,h2⟩
  ·cases h
 ·cases h
theorem uV {st:St} (h:Nm X w π st.heap) {S:Nat->Prop} (τ:Ty) (c:AC) (v:Value) (fr:Bool) (x:τ.den) (Uv:τ.Ao=false) (hc:Ia X w π st.heap c v)
  (hv:Dr st τ c=some (fr,x)) (hS:Uq X S fr):Cells w S τ [v] x:=by
 cases c with
 |data Ww Pb y=>
  rw [Ol] at hv
  split at hv
  ·rename_i ht;subst ht
   simp only [Aa,Ae] at hv
   obtain ⟨rfl,rfl⟩:=hv
   exact Rep.apart hS (Cu.Tc Uv hc)
  ·exact (RF hv hc hS).2.2
 |Mm=>
  cases τ with
  |slice e=>
   simp only [Dr,Aa,Ae] at hv
   obtain ⟨_,rfl⟩:=hv
   exact ⟨none,0,0,by rw [show v=_ from hc],rfl,Ap _, .inl rfl⟩
  |oslice e=>
   simp only [Dr,Aa,Ae] at hv
   obtain ⟨_,rfl⟩:=hv
   exact .inl ⟨rfl,0,by rw [show v=_ from hc]⟩
  |_=>simp [Dr] at hv
 |Wl=>
  cases τ with
  |optr e=>
   simp only [Dr,Aa,Ae] at hv
   obtain ⟨_,rfl⟩:=hv
   exact .inl ⟨rfl,by rw [show v=_ from hc]⟩
  |_=>simp [Dr] at hv
 |own l off len=>
  cases τ with
  |slice e=>
   simp only [Dr] at hv
   split at hv
   ·rename_i Ww tr' e' tid xs hl
    split at hv
    ·rename_i he;subst he
     simp only [Aa,Ae] at hv
     obtain ⟨rfl,rfl⟩:=hv
     obtain ⟨h2,h3⟩:=Pg hc hl
     exact pt h hl h2 h3 (λk hk ⟨r,hr,JZ⟩=>hS.own h hk ⟨l,r,hr,JZ⟩) (λk _ hk=>hS.ir k hk)
    ·cases hv
   ·rename_i e' tid xs hl
    split at hv
    ·rename_i he;subst he
     simp only [Aa,Ae] at hv
     obtain ⟨rfl,rfl⟩:=hv
     obtain ⟨h2,h3⟩:=ck hc hl
     exact mG h hl h2 h3 (λk hk ⟨r,hr,JZ⟩=>hS.own h hk ⟨l,r,hr,JZ⟩)
    ·cases hv
   ·rename_i e' tid rows kp hl
    split at hv
    ·rename_i he;subst he
     simp only [Aa,Ae] at hv
     obtain ⟨rfl,rfl⟩:=hv
     obtain ⟨h2,h3⟩:=o4 hc hl
     exact sP h hl h2 h3 (λk hk ⟨r,hr,JZ⟩=>hS.own h hk ⟨l,r,hr,JZ⟩) (λk hk=>hS.ir k hk)
    ·cases hv
   ·cases hv
  |_=>simp [Dr] at hv
 |sub l i c=>
  cases τ with
  |slice e=>
   simp only [Dr] at hv
   split at hv
   ·rename_i e' tid rows kp hl
    split at hv
    ·rename_i he;subst he
     simp only [Aa,Ae] at hv
     obtain ⟨rfl,rfl⟩:=hv
     exact sQ h hl (DG hc hl) hc (λk hk ⟨r,hr,JZ⟩=>hS.own h hk ⟨l,r,hr,JZ⟩) (λk hk=>hS.ir k hk)
    ·cases hv
   ·cases hv
  |_=>simp [Dr] at hv
 |Ld l=>
  cases τ with
  |smap vt=>
   simp only [Dr] at hv
   split at hv
   ·rename_i v' m hl
    split at hv
    ·rename_i he;subst he
     simp only [Aa,Ae] at hv
     obtain ⟨_,rfl⟩:=hv
     obtain ⟨r,vt,m',h1,h2,rfl⟩:=hc
     exact xW ((h.heap l).Sn hl) (by rw [h2];rfl) λhs=>hS.own h hs ⟨l,r,h2,h.Cq h2⟩
    ·cases hv
   ·cases hv
  |_=>simp [Dr] at hv
 |_=>cases τ<;>simp [Dr] at hv
theorem Uz {st:St} {τ:Ty} (Uv:τ.Ao=false) (cs:List AC):Ff st τ cs=match cs with| [c]=>Dr st τ c|_=>none:=by
 cases τ<;>simp [Ty.Ao] at Uv<;>rcases cs with _|⟨c,_|⟨d,r⟩⟩<;>rfl
theorem lC {st:St} (h:Nm X w π st.heap) {S:Nat->Prop} : ∀(τ:Ty) (cs:List AC) (us:List Value) (fr:Bool) (x:τ.den),Gf X w π st.heap cs us->
  Ff st τ cs=some (fr,x)->Uq X S fr->Cells w S τ us x:=by
 have one: ∀(τ:Ty) (cs:List AC) (us:List Value) (fr:Bool) (x:τ.den),τ.Ao=false->Gf X w π st.heap cs us->
   Ff st τ cs=some (fr,x)->Uq X S fr->Cells w S τ us x:=by
  intro τ cs us fr x Uv hr hv hS
  rw [Uz Uv] at hv
  split at hv
  ·rename_i c
   obtain ⟨u,hu,_,hc⟩:=hr.2 0 c rfl
   have hl:us.length=1:=hr.1
   obtain ⟨u',rfl⟩:=Ee.1 hl
   simp at hu;subst hu
   exact uV h τ c _ fr x Uv hc hv hS
  ·cases hv
 intro τ
 induction τ with
 |unit=>
  intro cs us fr x hr hv hS
  cases cs with
  |nil=>have:us= []:=Ci hr.1;exact this
  |cons c cs=>simp [Ff] at hv
 |pair a r ib hJ=>
  intro cs us fr x hr hv hS
  simp only [Ff] at hv
  split at hv
  ·rename_i f1 y f2 z h1 h2
   simp only [Aa,Ae] at hv
   obtain ⟨rfl,rfl⟩:=hv
   have hr1:Gf X w π st.heap (cs.take a.size) (us.take a.size):=
    ⟨by simp [hr.1],λi c hc=>by
     rw [Cs] at hc⊢
     split at hc
     ·rename_i hi;simp only [hi,Qi];exact hr.2 i c hc
     ·cases hc⟩
   have hr2:Gf X w π st.heap (cs.drop a.size) (us.drop a.size):=
    ⟨by simp [hr.1],λi c hc=>by
     rw [Da] at hc⊢
     exact hr.2 _ c hc⟩
   exact ⟨us.take a.size,us.drop a.size,(Kf _ _).symm,ib _ _ _ _ hr1 h1 hS.and_left,hJ _ _ _ _ hr2 h2 hS.and_right⟩
  ·cases hv
 |_=>exact λcs us fr x hr hv hS=>one _ cs us fr x rfl hr hv hS
theorem ak {cs:List AC} {us:List Value} (h:Gf X w π H cs us) (i n:Nat):Gf X w π H ((cs.drop i).take n) ((us.drop i).take n):=
 ⟨by simp [h.1],λj c hc=>by
  rw [Cs] at hc⊢
  split at hc
  ·rename_i hi
   simp only [hi,Qi]
   rw [Da] at hc⊢
   exact h.2 _ c hc
  ·cases hc⟩
theorem jK {st:St} (h:Nm X w π st.heap) {S:Nat->Prop} {a:Ty} {l i:Nat} {fr:Bool} {x:a.den} (hv:Vj st a l i=some (fr,x)) (hS:Uq X S fr) {r:Real} (hr:π l=some r):
  r.g<w.heap.size/\ ¬S r.g/\ ∃es:List Value,es.length=a.size/\(∀j u,es[j]?=some u->w.cell? ⟨r.g,i+j,none⟩=some u)/\Cells w S a es x:=by
 unfold Vj at hv
 split at hv
 ·rename_i tid vs hl
  obtain ⟨r',h3,h4,cur,h5,h6⟩:=(h.heap l).Sn hl
  rw [hr] at h3;cases h3
  have hc:=lC h a _ _ fr x (ak h6 i a.size) hv hS
  refine ⟨Gr h5,λhs=>hS.own h hs ⟨l,r,hr,h4⟩,_,Cells.len a _ x hc,λj u hu=>?_,hc⟩
  rw [cellOf h5]
  rw [Cs] at hu
  split at hu
  ·rw [Da] at hu;simpa using hu
  ·cases hu
 ·cases hv
theorem AS {st:St} (h:Nm X w π st.heap) {S:Nat->Prop} : ∀(τ:Ty) (Eh:List (Nat×Nat)) (us:List Value) (fr:Bool) (x:τ.den),us.length=Eh.length->
  (∀(j:Nat) p,Eh[j]?=some p-> ∃r tid vs,At st.heap p.1=some (.var tid vs)/\π p.1=some r/\us[j]?=some (.pointer (some ⟨r.g,p.2,none⟩)))->
  Lp st τ Eh=some (fr,x)->Uq X S fr->Cells w S τ us x:=by
 intro τ
 induction τ with
 |unit=>
  intro Eh us fr x hl hr hv hS
  cases Eh with
  |nil=>exact Ci hl
  |cons c cs=>simp [Lp] at hv
 |pair a r _ hJ=>
  intro Eh us fr x hl hr hv hS
  cases a with
  |ptr a=>
   cases Eh with
   |nil=>simp [Lp] at hv
   |cons c cs=>
    obtain ⟨l,i⟩:=c
    simp only [Lp] at hv
    split at hv
    ·rename_i f1 y f2 z h1 h2
     simp only [Aa,Ae] at hv
     obtain ⟨rfl,rfl⟩:=hv
     cases us with
     |nil=>simp at hl
     |cons u us=>
      obtain ⟨r0,tid,vs,h3,h4,h5⟩:=hr 0 (l,i) rfl
      simp only [Bs,Aa] at h5
      subst h5
      obtain ⟨h6,h7,es,h8,h9,qd⟩:=jK h h1 hS.and_left h4
      exact ⟨[_],us,rfl,⟨r0.g,i,rfl,h6,h7,es,h8,h9,qd⟩,hJ cs us f2 z (by simpa using hl) (λj p hp=>hr (j+1) p hp) h2 hS.and_right⟩
    ·cases hv
  |_=>cases Eh<;>simp [Lp] at hv
 |_=>intro Eh us fr x hl hr hv;cases Eh<;>simp [Lp] at hv
theorem HH {st:St} (h:Nm X w π st.heap) {S:Nat->Prop} (τ:Ty) (c:AC) (v:Value) (fr:Bool) (x:τ.den) (Uv:τ.Ao=false) (hc:Ia X w π st.heap c v)
  (hv:Kp st τ c=some (fr,x)) (hS:Uq X S fr):Cells w S τ [v] x:=by
 have Ov:Dr st τ c=some (fr,x)->Cells w S τ [v] x:= λhv=>uV h τ c v fr x Uv hc hv hS
 cases τ with
 |ptr a=>
  cases c with
  |Hv l i=>
   obtain ⟨r,tid,vs,h1,h2,rfl⟩:=hc
   obtain ⟨h6,h7,h8⟩:=jK h hv hS h2
   exact ⟨r.g,i,rfl,h6,h7,h8⟩
  |_=>exact Ov hv
 |optr a=>
  cases c with
  |Hv l i=>
   obtain ⟨r,tid,vs,h1,h2,rfl⟩:=hc
   simp only [Kp] at hv
   cases hp:Vj st a l i with
   |none=>rw [hp] at hv;cases hv
   |some p=>
    rw [hp] at hv
    simp only [Al,Aa,Ae] at hv
    obtain ⟨rfl,rfl⟩:=hv
    obtain ⟨h6,h7,h8⟩:=jK h hp hS h2
    exact .inr ⟨_,r.g,i,rfl,rfl,h6,h7,h8⟩
  |_=>exact Ov hv
 |clo f a=>
  cases c with
  |clo g Eh=>
   simp only [Kp] at hv
   split at hv
   ·rename_i hg
    obtain ⟨rfl,Lq⟩:=hg
    obtain ⟨us,rfl,h2,h3⟩:=hc
    exact ⟨us,by rw [iB Lq],AS h a Eh us fr x h2 h3 hv hS⟩
   ·cases hv
  |_=>exact Ov hv
 |_=>exact Ov hv
theorem Zo {st:St} (h:Nm X w π st.heap) {S:Nat->Prop} (τ:Ty) (c:AV) (v:Value) (fr:Bool) (x:τ.den) (hc:Bl X w π st.heap c v)
  (hv:Gc st τ c=some (fr,x)) (hS:Uq X S fr):Cu w S τ v x:=by
 have Ov: ∀c:AC,Ia X w π st.heap c v->(if τ.Ao then none else Kp st τ c)=some (fr,x)->Cu w S τ v x:=by
  intro c hc hv
  split at hv
  ·cases hv
  ·rename_i Uv
   simp only [Hc] at Uv
   exact Cu.nU Uv (HH h τ c v fr x Uv hc hv hS)
 cases c with
 | «at»c=>
  cases c with
  |data Ww Pb y=>
   rw [dq] at hv
   split at hv
   ·rename_i ht;subst ht
    simp only [Aa,Ae] at hv
    obtain ⟨rfl,rfl⟩:=hv
    obtain ⟨cs,h1,h2⟩:=hc
    exact ⟨cs,Rep.apart hS h1,h2⟩
   ·exact Ov (.data Ww Pb y) hc hv
  |undef=>exact Ov .undef hc hv
  |skip=>exact Ov .skip hc hv
  |Mm=>exact Ov .Mm hc hv
  |Wl=>exact Ov .Wl hc hv
  |own l off len=>exact Ov (.own l off len) hc hv
  |Hv l i=>exact Ov (.Hv l i) hc hv
  |Kw l i=>exact Ov (.Kw l i) hc hv
  |clo f Eh=>exact Ov (.clo f Eh) hc hv
  |Ld l=>exact Ov (.Ld l) hc hv
  |sub l i c=>exact Ov (.sub l i c) hc hv
  |Ks l i c=>exact Ov (.Ks l i c) hc hv
 |agg cs=>
  simp only [Gc] at hv
  split at hv
  ·rename_i Uv
   obtain ⟨us,rfl,hr⟩:=hc
   exact ⟨us,lC h τ cs us fr x hr hv hS,by simp [Ca,Uv]⟩
  ·cases hv
 |bF Ww Pb y=>simp [Gc] at hv
 |Ng l=>simp [Gc] at hv
theorem bm {st:St} (h:Nm X w π st.heap) {S:Nat->Prop} : ∀(τ:Ty) (cs:List AV) (vs:List Value) (fr:Bool) (x:τ.den),cs.length=vs.length->
  (∀(i:Nat) c v,cs[i]?=some c->vs[i]?=some v->Bl X w π st.heap c v)->Dz st τ cs=some (fr,x)->Uq X S fr->Cp w S τ vs x
 | .unit,[],vs,fr,x,hl,hr,hv,hS=>by
  have:vs= []:=Ci hl.symm
  subst this;trivial
 | .unit,_::_,vs,fr,x,hl,hr,hv,hS=>by simp [Dz] at hv
 | .pair a r,[],vs,fr,x,hl,hr,hv,hS=>by simp [Dz] at hv
 | .pair a r,c::cs,[],fr,x,hl,hr,hv,hS=>by simp at hl
 | .pair a r,c::cs,v::vs,fr,x,hl,hr,hv,hS=>by
  simp only [Dz] at hv
  split at hv
  ·rename_i f1 y f2 z h1 h2
   simp only [Aa,Ae] at hv
   obtain ⟨rfl,rfl⟩:=hv
   exact ⟨Zo h a c v f1 y (hr 0 c v rfl rfl) h1 hS.and_left,bm h r cs vs f2 z (by simpa using hl) (λi c' v' hc DQ=>hr (i+1) c' v' hc DQ) h2 hS.and_right⟩
  ·cases hv
 | .int _,cs,vs,fr,x,hl,hr,hv,hS=>by cases cs<;>simp [Dz] at hv
 | .bool,cs,vs,fr,x,hl,hr,hv,hS=>by cases cs<;>simp [Dz] at hv
 | .str,cs,vs,fr,x,hl,hr,hv,hS=>by cases cs<;>simp [Dz] at hv
 | .slice _,cs,vs,fr,x,hl,hr,hv,hS=>by cases cs<;>simp [Dz] at hv
 | .ptr _,cs,vs,fr,x,hl,hr,hv,hS=>by cases cs<;>simp [Dz] at hv
 | .oslice _,cs,vs,fr,x,hl,hr,hv,hS=>by cases cs<;>simp [Dz] at hv
 | .optr _,cs,vs,fr,x,hl,hr,hv,hS=>by cases cs<;>simp [Dz] at hv
 | .smap _,cs,vs,fr,x,hl,hr,hv,hS=>by cases cs<;>simp [Dz] at hv
 | .clo _ _,cs,vs,fr,x,hl,hr,hv,hS=>by cases cs<;>simp [Dz] at hv
end
end Go.Proofs.YtkkdpknjohcekaaGreat
