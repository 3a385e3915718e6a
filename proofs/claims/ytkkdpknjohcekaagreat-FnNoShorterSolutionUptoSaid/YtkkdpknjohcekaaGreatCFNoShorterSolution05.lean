/-
  Part 6 of the proof that the statement FnNoShorterSolution holds.
-/
import Derived.Test.YtkkdpknjohcekaaGreatCFNoShorterSolution04
import Derived.WalkKit
import Derived.Laws.Slices
namespace Go.Proofs.YtkkdpknjohcekaaGreat
open Go.RowKit
def Bp:Ty->List Value
 | .int k=> [.int k 0]
 | .bool=> [.bool false]
 | .str=> [.string ByteArray.empty]
 | .slice _=> [.slice none 0 0]
 | .oslice _=> [.slice none 0 0]
 | .ptr _=> [.pointer none]
 | .optr _=> [.pointer none]
 | .smap _=> [.map none]
 | .clo _ _=> [.nilFunc]
 | .unit=> []
 | .pair a r=>Bp a++Bp r
structure r7 (P:Program) (T:Tab) (t:TypeId) (τ:Ty):Prop where
 info: ∃i:TypeInfo,P.info? t=some i/\i.size=τ.size/\i.bytes<=256/\i.zero=some (Bz τ (Bp τ))
 desc:match τ with
  | .int k=>P.underlying t=some (.int k)
  | .bool=>P.underlying t=some .bool
  | .str=>P.underlying t=some .string
  | .slice e=> ∃te,P.underlying t=some (.slice te)/\T.elem t=some te/\T.ty te=some e
  | .oslice e=> ∃te,P.underlying t=some (.slice te)/\T.elem t=some te/\T.ty te=some e
  | .ptr _=> ∃u,P.underlying t=some (.pointer u)
  | .optr _=> ∃u,P.underlying t=some (.pointer u)
  | .smap _=> ∃k e,P.underlying t=some (.map k e)
  | .clo _ _=>False
  | .unit| .pair _ _=> ∃fs,P.underlying t=some (.struct fs)
def placesOf (fs:Array Field):Sem (Array (Nat×Nat)):=fs.mapM λf=>do pure (f.offset,<-sizeOf f.type)
structure Ed (P:Program) (T:Tab):Prop where
 fill: ∀t τ,T.ty t=some τ->τ.Aq=true-> ∃(fs:Array Field) (Ov:Array (Nat×Nat)),P.underlying t=some (.struct fs)/\(∀w,(placesOf fs).run P w= .ok Ov w)/\
  ∀f o u ρ,T.off t f=some (o,u)->T.ty u=some ρ->Ov[f]?=some (o,ρ.size)
 ty: ∀t τ,T.ty t=some τ->r7 P T t τ
 elem: ∀t te,T.elem t=some te->P.underlying t=some (.slice te)
 mapOf: ∀t v,T.mapOf t=some v-> ∃k e,P.underlying t=some (.map k e)/\P.underlying k=some .string/\T.ty e=some v/\v.flat=true/\v.Aq=false
 off: ∀s f o t,T.off s f=some (o,t)-> ∃(fs:Array Field) (fd:Field),P.underlying s=some (.struct fs)/\fs[f]?=some fd/\fd.offset=o/\fd.type=t/\ ∃i:TypeInfo,P.info? t=some i/\i.size≠0
section
variable {P:Program} {T:Tab} {X:Ctx} {w w':World} {π:Pi} {H:List (Nat×OB)}
theorem Rh {t:TypeId} {d:TypeDesc} (h:P.underlying t=some d):(isAgg t).run P w= .ok (match d with| .struct _| .array _ _=>true|_=>false) w:=by
 unfold isAgg
 rw [Sem.run_bind,run_underlying h]
 cases d<;>rfl
theorem r7.agg {t:TypeId} {τ:Ty} (h:r7 P T t τ):(isAgg t).run P w= .ok τ.Aq w:=by
 have hd:=h.desc
 cases τ<;>simp only at hd
 case int k=>rw [Rh hd];rfl
 case bool=>rw [Rh hd];rfl
 case str=>rw [Rh hd];rfl
 case slice e=>obtain ⟨te,hd,_⟩:=hd;rw [Rh hd];rfl
 case ptr e=>obtain ⟨te,hd⟩:=hd;rw [Rh hd];rfl
 case oslice e=>obtain ⟨te,hd,_⟩:=hd;rw [Rh hd];rfl
 case optr e=>obtain ⟨te,hd⟩:=hd;rw [Rh hd];rfl
 case smap e=>obtain ⟨k,te,hd⟩:=hd;rw [Rh hd];rfl
 case unit=>obtain ⟨te,hd⟩:=hd;rw [Rh hd];rfl
 case pair e r=>obtain ⟨te,hd⟩:=hd;rw [Rh hd];rfl
theorem r7.size {t:TypeId} {τ:Ty} (h:r7 P T t τ):(sizeOf t).run P w= .ok τ.size w:=by
 obtain ⟨i,hi,hs,_⟩:=h.info
 simp [sizeOf,typeInfo,hi,hs]
theorem Cu.Sp {S:Nat->Prop} {τ:Ty} {v:Value} {x:τ.den} (Ud:τ.Aq=false) (h:Cu w S τ v x):Cells w S τ [v] x:=by
 obtain ⟨cs,hc,rfl⟩:=h
 have hl:=Cells.len τ cs x hc
 have h1:τ.size=1:=by cases τ<;>simp_all [Ty.Aq,Ty.size]
 rw [h1] at hl
 obtain ⟨c,rfl⟩:=Ea.1 hl
 simpa [Bz,Ud] using hc
theorem Cu.o3 {S:Nat->Prop} {τ:Ty} {v:Value} {x:τ.den} (Ud:τ.Aq=false) (h:Cells w S τ [v] x):Cu w S τ v x:=
 ⟨[v],h,by simp [Bz,Ud]⟩
def Tx (X:Ctx) (S:Nat->Prop) (fr:Bool):Prop:=(∀k,S k->k<X.w0.heap.size/\ ¬X.gv k)/\(fr=true\/ ∀k,S k->X.Sc k)
theorem Tx.iM {S:Nat->Prop} {fr:Bool} (h:Tx X S fr) (k:Nat) (hk:S k):Cy X.w0.heap.size X.Sc π fr k:=by
 rcases h.2 with h2|h2
 ·exact .inr (.inr ⟨h2,(h.1 k hk).1⟩)
 ·exact .inr (.inl (h2 k hk))
theorem Tx.and_left {S:Nat->Prop} {f1 f2:Bool} (h:Tx X S (f1&&f2)):Tx X S f1:=
 ⟨h.1,h.2.imp (λh=>by simp at h;exact h.1) id⟩
theorem Tx.and_right {S:Nat->Prop} {f1 f2:Bool} (h:Tx X S (f1&&f2)):Tx X S f2:=
 ⟨h.1,h.2.imp (λh=>by simp at h;exact h.2) id⟩
theorem Rep.apart {S:Nat->Prop} {fr:Bool} {τ:Ty} {cs:List Value} {x:τ.den} (hS:Tx X S (fr||τ.flat)) (h:Cells w (Cy X.w0.heap.size X.Sc π fr) τ cs x):Cells w S τ cs x:=by
 cases hf:τ.flat with
 |true=>exact Cells.flat τ cs x hf h
 |false=>
  rw [hf,iy] at hS
  exact Cells.Fp (Ap _) (λ_ _ _=>rfl) (λk _ hk=>hS.iM k hk) τ cs x h
theorem Tx.own {S:Nat->Prop} {fr:Bool} (hS:Tx X S fr) (h:Nm X w π H) {k:Nat} (hk:S k): ¬Wa π k:= λho=>by
 have h1:=hS.1 k hk
 rcases (h.own ho).2 with h2|h2
 ·omega
 ·exact h1.2 h2
theorem Oj (st:St) (τ:Ty) (fr:Bool) (Ox:Ty) (x:Ox.den):Dr st τ (.data fr Ox x)=if h:Ox=τ then some (fr||τ.flat,h▸x) else iY fr τ Ox x:=by
 cases τ<;>rfl
theorem dq (st:St) (τ:Ty) (fr:Bool) (Ox:Ty) (x:Ox.den):Fv st τ (.at (.data fr Ox x))=if h:Ox=τ then some (fr||τ.flat,h▸x) else if τ.Aq then none else Kn st τ (.data fr Ox x):=rfl
theorem BN (st:St) (τ:Ty) (fr:Bool) (Ox:Ty) (x:Ox.den):Kn st τ (.data fr Ox x)=Dr st τ (.data fr Ox x):=by
 cases τ<;>rfl
theorem SD {S:Nat->Prop} {fr:Bool} {τ Ox:Ty} {x:Ox.den} {f:Bool} {y:τ.den} {v:Value} (h:iY fr τ Ox x=some (f,y)) (hc:Cu w (Cy X.w0.heap.size X.Sc π fr) Ox v x) (hS:Tx X S f):
  τ.Aq=false/\f=fr/\Cells w S τ [v] y:=by
 unfold iY at h
 split at h
 ·split at h
  ·rename_i e e' _ YC
   subst YC
   simp only [Aa,Ae] at h
   obtain ⟨rfl,rfl⟩:=h
   refine ⟨rfl,rfl,?_⟩
   have h1:=Rep.apart (S:=S) (τ:= .oslice e') ⟨hS.1,hS.2.imp (λh=>by rw [h];rfl) id⟩ (Cu.Sp rfl hc)
   simp only [Cells] at h1⊢
   rcases h1 with ⟨rfl,c,h1⟩|⟨xs,ad,len,cap,rfl,h1,h2,h3,h4⟩
   ·exact ⟨none,0,c,h1,rfl,Kd _, .inl rfl⟩
   ·exact ⟨_,len,cap,h1,h2,h3,h4.imp id λ⟨g,o,ha,h4⟩=>⟨g,o,by rw [ha],h4⟩⟩
  ·cases h
 ·split at h
  ·rename_i a a' _ haa
   subst haa
   simp only [Aa,Ae] at h
   obtain ⟨rfl,rfl⟩:=h
   refine ⟨rfl,rfl,?_⟩
   have h1:=Rep.apart (S:=S) (τ:= .ptr a') ⟨hS.1,hS.2.imp (λh=>by rw [h];rfl) id⟩ (Cu.Sp rfl hc)
   simp only [Cells] at h1⊢
   obtain ⟨g,o,h2⟩:=h1
   exact .inr ⟨_,g,o,rfl,h2⟩
  ·cases h
 ·cases h
theorem vh {st:St} (h:Nm X w π st.heap) {S:Nat->Prop} (τ:Ty) (c:AC) (v:Value) (fr:Bool) (x:τ.den) (Ud:τ.Aq=false) (hc:Ib X w π st.heap c v)
  (hv:Dr st τ c=some (fr,x)) (hS:Tx X S fr):Cells w S τ [v] x:=by
 cases c with
 |data Wh Ox y=>
  rw [Oj] at hv
  split at hv
  ·rename_i ht;subst ht
   simp only [Aa,Ae] at hv
   obtain ⟨rfl,rfl⟩:=hv
   exact Rep.apart hS (Cu.Sp Ud hc)
  ·exact (SD hv hc hS).2.2
 |Mp=>
  cases τ with
  |slice e=>
   simp only [Dr,Aa,Ae] at hv
   obtain ⟨_,rfl⟩:=hv
   exact ⟨none,0,0,by rw [show v=_ from hc],rfl,Ap _, .inl rfl⟩
  |oslice e=>
   simp only [Dr,Aa,Ae] at hv
   obtain ⟨_,rfl⟩:=hv
   exact .inl ⟨rfl,0,by rw [show v=_ from hc]⟩
  |_=>simp [Dr] at hv
 |Vx=>
  cases τ with
  |optr e=>
   simp only [Dr,Aa,Ae] at hv
   obtain ⟨_,rfl⟩:=hv
   exact .inl ⟨rfl,by rw [show v=_ from hc]⟩
  |_=>simp [Dr] at hv
 |own l off len=>
  cases τ with
  |slice e=>
   simp only [Dr] at hv
   split at hv
   ·rename_i Wh tr' e' tid xs hl
    split at hv
    ·rename_i he;subst he
     simp only [Aa,Ae] at hv
     obtain ⟨rfl,rfl⟩:=hv
     obtain ⟨h2,h3⟩:=Pa hc hl
     exact pz h hl h2 h3 (λk hk ⟨r,hr,KN⟩=>hS.own h hk ⟨l,r,hr,KN⟩) (λk _ hk=>hS.iM k hk)
    ·cases hv
   ·rename_i e' tid xs hl
    split at hv
    ·rename_i he;subst he
     simp only [Aa,Ae] at hv
     obtain ⟨rfl,rfl⟩:=hv
     obtain ⟨h2,h3⟩:=cj hc hl
     exact mU h hl h2 h3 (λk hk ⟨r,hr,KN⟩=>hS.own h hk ⟨l,r,hr,KN⟩)
    ·cases hv
   ·rename_i e' tid rows kp hl
    split at hv
    ·rename_i he;subst he
     simp only [Aa,Ae] at hv
     obtain ⟨rfl,rfl⟩:=hv
     obtain ⟨h2,h3⟩:=od hc hl
     exact tf h hl h2 h3 (λk hk ⟨r,hr,KN⟩=>hS.own h hk ⟨l,r,hr,KN⟩) (λk hk=>hS.iM k hk)
    ·cases hv
   ·cases hv
  |_=>simp [Dr] at hv
 |sub l i c=>
  cases τ with
  |slice e=>
   simp only [Dr] at hv
   split at hv
   ·rename_i e' tid rows kp hl
    split at hv
    ·rename_i he;subst he
     simp only [Aa,Ae] at hv
     obtain ⟨rfl,rfl⟩:=hv
     exact th h hl (EF hc hl) hc (λk hk ⟨r,hr,KN⟩=>hS.own h hk ⟨l,r,hr,KN⟩) (λk hk=>hS.iM k hk)
    ·cases hv
   ·cases hv
  |_=>simp [Dr] at hv
 |Lc l=>
  cases τ with
  |smap vt=>
   simp only [Dr] at hv
   split at hv
   ·rename_i v' m hl
    split at hv
    ·rename_i he;subst he
     simp only [Aa,Ae] at hv
     obtain ⟨_,rfl⟩:=hv
     obtain ⟨r,vt,m',h1,h2,rfl⟩:=hc
     exact yj ((h.heap l).Rz hl) (by rw [h2];rfl) λhs=>hS.own h hs ⟨l,r,h2,h.Cr h2⟩
    ·cases hv
   ·cases hv
  |_=>simp [Dr] at hv
 |_=>cases τ<;>simp [Dr] at hv
theorem Uk {st:St} {τ:Ty} (Ud:τ.Aq=false) (cs:List AC):Fb st τ cs=match cs with| [c]=>Dr st τ c|_=>none:=by
 cases τ<;>simp [Ty.Aq] at Ud<;>rcases cs with _|⟨c,_|⟨d,r⟩⟩<;>rfl
theorem lU {st:St} (h:Nm X w π st.heap) {S:Nat->Prop} : ∀(τ:Ty) (cs:List AC) (us:List Value) (fr:Bool) (x:τ.den),Gd X w π st.heap cs us->
  Fb st τ cs=some (fr,x)->Tx X S fr->Cells w S τ us x:=by
 have one: ∀(τ:Ty) (cs:List AC) (us:List Value) (fr:Bool) (x:τ.den),τ.Aq=false->Gd X w π st.heap cs us->
   Fb st τ cs=some (fr,x)->Tx X S fr->Cells w S τ us x:=by
  intro τ cs us fr x Ud hr hv hS
  rw [Uk Ud] at hv
  split at hv
  ·rename_i c
   obtain ⟨u,hu,_,hc⟩:=hr.2 0 c rfl
   have hl:us.length=1:=hr.1
   obtain ⟨u',rfl⟩:=Ea.1 hl
   simp at hu;subst hu
   exact vh h τ c _ fr x Ud hc hv hS
  ·cases hv
 intro τ
 induction τ with
 |unit=>
  intro cs us fr x hr hv hS
  cases cs with
  |nil=>have:us= []:=Ci hr.1;exact this
  |cons c cs=>simp [Fb] at hv
 |pair a r iA iw=>
  intro cs us fr x hr hv hS
  simp only [Fb] at hv
  split at hv
  ·rename_i f1 y f2 z h1 h2
   simp only [Aa,Ae] at hv
   obtain ⟨rfl,rfl⟩:=hv
   have SV:Gd X w π st.heap (cs.take a.size) (us.take a.size):=
    ⟨by simp [hr.1],λi c hc=>by
     rw [Ct] at hc⊢
     split at hc
     ·rename_i hi;simp only [hi,Qa];exact hr.2 i c hc
     ·cases hc⟩
   have YT:Gd X w π st.heap (cs.drop a.size) (us.drop a.size):=
    ⟨by simp [hr.1],λi c hc=>by
     rw [Da] at hc⊢
     exact hr.2 _ c hc⟩
   exact ⟨us.take a.size,us.drop a.size,(Kf _ _).symm,iA _ _ _ _ SV h1 hS.and_left,iw _ _ _ _ YT h2 hS.and_right⟩
  ·cases hv
 |_=>exact λcs us fr x hr hv hS=>one _ cs us fr x rfl hr hv hS
theorem a9 {cs:List AC} {us:List Value} (h:Gd X w π H cs us) (i n:Nat):Gd X w π H ((cs.drop i).take n) ((us.drop i).take n):=
 ⟨by simp [h.1],λj c hc=>by
  rw [Ct] at hc⊢
  split at hc
  ·rename_i hi
   simp only [hi,Qa]
   rw [Da] at hc⊢
   exact h.2 _ c hc
  ·cases hc⟩
theorem ki {st:St} (h:Nm X w π st.heap) {S:Nat->Prop} {a:Ty} {l i:Nat} {fr:Bool} {x:a.den} (hv:Uw st a l i=some (fr,x)) (hS:Tx X S fr) {r:Real} (hr:π l=some r):
  r.g<w.heap.size/\ ¬S r.g/\ ∃es:List Value,es.length=a.size/\(∀j u,es[j]?=some u->w.cell? ⟨r.g,i+j,none⟩=some u)/\Cells w S a es x:=by
 unfold Uw at hv
 split at hv
 ·rename_i tid vs hl
  obtain ⟨r',h3,h4,cur,h5,h6⟩:=(h.heap l).Rz hl
  rw [hr] at h3;cases h3
  have hc:=lU h a _ _ fr x (a9 h6 i a.size) hv hS
  refine ⟨Gi h5,λhs=>hS.own h hs ⟨l,r,hr,h4⟩,_,Cells.len a _ x hc,λj u hu=>?_,hc⟩
  rw [cellOf h5]
  rw [Ct] at hu
  split at hu
  ·rw [Da] at hu;simpa using hu
  ·cases hu
 ·cases hv
theorem BM {st:St} (h:Nm X w π st.heap) {S:Nat->Prop} : ∀(τ:Ty) (Ee:List (Nat×Nat)) (us:List Value) (fr:Bool) (x:τ.den),us.length=Ee.length->
  (∀(j:Nat) p,Ee[j]?=some p-> ∃r tid vs,Aw st.heap p.1=some (.var tid vs)/\π p.1=some r/\us[j]?=some (.pointer (some ⟨r.g,p.2,none⟩)))->
  Ls st τ Ee=some (fr,x)->Tx X S fr->Cells w S τ us x:=by
 intro τ
 induction τ with
 |unit=>
  intro Ee us fr x hl hr hv hS
  cases Ee with
  |nil=>exact Ci hl
  |cons c cs=>simp [Ls] at hv
 |pair a r _ iw=>
  intro Ee us fr x hl hr hv hS
  cases a with
  |ptr a=>
   cases Ee with
   |nil=>simp [Ls] at hv
   |cons c cs=>
    obtain ⟨l,i⟩:=c
    simp only [Ls] at hv
    split at hv
    ·rename_i f1 y f2 z h1 h2
     simp only [Aa,Ae] at hv
     obtain ⟨rfl,rfl⟩:=hv
     cases us with
     |nil=>simp at hl
     |cons u us=>
      obtain ⟨r0,tid,vs,h3,h4,h5⟩:=hr 0 (l,i) rfl
      simp only [Bq,Aa] at h5
      subst h5
      obtain ⟨h6,h7,es,h8,h9,qj⟩:=ki h h1 hS.and_left h4
      exact ⟨[_],us,rfl,⟨r0.g,i,rfl,h6,h7,es,h8,h9,qj⟩,iw cs us f2 z (by simpa using hl) (λj p hp=>hr (j+1) p hp) h2 hS.and_right⟩
    ·cases hv
  |_=>cases Ee<;>simp [Ls] at hv
 |_=>intro Ee us fr x hl hr hv;cases Ee<;>simp [Ls] at hv
theorem HZ {st:St} (h:Nm X w π st.heap) {S:Nat->Prop} (τ:Ty) (c:AC) (v:Value) (fr:Bool) (x:τ.den) (Ud:τ.Aq=false) (hc:Ib X w π st.heap c v)
  (hv:Kn st τ c=some (fr,x)) (hS:Tx X S fr):Cells w S τ [v] x:=by
 have Oq:Dr st τ c=some (fr,x)->Cells w S τ [v] x:= λhv=>vh h τ c v fr x Ud hc hv hS
 cases τ with
 |ptr a=>
  cases c with
  |Hu l i=>
   obtain ⟨r,tid,vs,h1,h2,rfl⟩:=hc
   obtain ⟨h6,h7,h8⟩:=ki h hv hS h2
   exact ⟨r.g,i,rfl,h6,h7,h8⟩
  |_=>exact Oq hv
 |optr a=>
  cases c with
  |Hu l i=>
   obtain ⟨r,tid,vs,h1,h2,rfl⟩:=hc
   simp only [Kn] at hv
   cases hp:Uw st a l i with
   |none=>rw [hp] at hv;cases hv
   |some p=>
    rw [hp] at hv
    simp only [Al,Aa,Ae] at hv
    obtain ⟨rfl,rfl⟩:=hv
    obtain ⟨h6,h7,h8⟩:=ki h hp hS h2
    exact .inr ⟨_,r.g,i,rfl,rfl,h6,h7,h8⟩
  |_=>exact Oq hv
 |clo f a=>
  cases c with
  |clo g Ee=>
   simp only [Kn] at hv
   split at hv
   ·rename_i hg
    obtain ⟨rfl,Li⟩:=hg
    obtain ⟨us,rfl,h2,h3⟩:=hc
    exact ⟨us,by rw [iV Li],BM h a Ee us fr x h2 h3 hv hS⟩
   ·cases hv
  |_=>exact Oq hv
 |_=>exact Oq hv
theorem Zf {st:St} (h:Nm X w π st.heap) {S:Nat->Prop} (τ:Ty) (c:AV) (v:Value) (fr:Bool) (x:τ.den) (hc:Bm X w π st.heap c v)
  (hv:Fv st τ c=some (fr,x)) (hS:Tx X S fr):Cu w S τ v x:=by
 have Oq: ∀c:AC,Ib X w π st.heap c v->(if τ.Aq then none else Kn st τ c)=some (fr,x)->Cu w S τ v x:=by
  intro c hc hv
  split at hv
  ·cases hv
  ·rename_i Ud
   simp only [Hy] at Ud
   exact Cu.o3 Ud (HZ h τ c v fr x Ud hc hv hS)
 cases c with
 | «at»c=>
  cases c with
  |data Wh Ox y=>
   rw [dq] at hv
   split at hv
   ·rename_i ht;subst ht
    simp only [Aa,Ae] at hv
    obtain ⟨rfl,rfl⟩:=hv
    obtain ⟨cs,h1,h2⟩:=hc
    exact ⟨cs,Rep.apart hS h1,h2⟩
   ·exact Oq (.data Wh Ox y) hc hv
  |undef=>exact Oq .undef hc hv
  |skip=>exact Oq .skip hc hv
  |Mp=>exact Oq .Mp hc hv
  |Vx=>exact Oq .Vx hc hv
  |own l off len=>exact Oq (.own l off len) hc hv
  |Hu l i=>exact Oq (.Hu l i) hc hv
  |Kw l i=>exact Oq (.Kw l i) hc hv
  |clo f Ee=>exact Oq (.clo f Ee) hc hv
  |Lc l=>exact Oq (.Lc l) hc hv
  |sub l i c=>exact Oq (.sub l i c) hc hv
  |Kq l i c=>exact Oq (.Kq l i c) hc hv
 |agg cs=>
  simp only [Fv] at hv
  split at hv
  ·rename_i Ud
   obtain ⟨us,rfl,hr⟩:=hc
   exact ⟨us,lU h τ cs us fr x hr hv hS,by simp [Bz,Ud]⟩
  ·cases hv
 |bF Wh Ox y=>simp [Fv] at hv
 |Ng l=>simp [Fv] at hv
theorem bk {st:St} (h:Nm X w π st.heap) {S:Nat->Prop} : ∀(τ:Ty) (cs:List AV) (vs:List Value) (fr:Bool) (x:τ.den),cs.length=vs.length->
  (∀(i:Nat) c v,cs[i]?=some c->vs[i]?=some v->Bm X w π st.heap c v)->Dw st τ cs=some (fr,x)->Tx X S fr->Cq w S τ vs x
 | .unit,[],vs,fr,x,hl,hr,hv,hS=>by
  have:vs= []:=Ci hl.symm
  subst this;trivial
 | .unit,_::_,vs,fr,x,hl,hr,hv,hS=>by simp [Dw] at hv
 | .pair a r,[],vs,fr,x,hl,hr,hv,hS=>by simp [Dw] at hv
 | .pair a r,c::cs,[],fr,x,hl,hr,hv,hS=>by simp at hl
 | .pair a r,c::cs,v::vs,fr,x,hl,hr,hv,hS=>by
  simp only [Dw] at hv
  split at hv
  ·rename_i f1 y f2 z h1 h2
   simp only [Aa,Ae] at hv
   obtain ⟨rfl,rfl⟩:=hv
   exact ⟨Zf h a c v f1 y (hr 0 c v rfl rfl) h1 hS.and_left,bk h r cs vs f2 z (by simpa using hl) (λi c' v' hc EO=>hr (i+1) c' v' hc EO) h2 hS.and_right⟩
  ·cases hv
 | .int _,cs,vs,fr,x,hl,hr,hv,hS=>by cases cs<;>simp [Dw] at hv
 | .bool,cs,vs,fr,x,hl,hr,hv,hS=>by cases cs<;>simp [Dw] at hv
 | .str,cs,vs,fr,x,hl,hr,hv,hS=>by cases cs<;>simp [Dw] at hv
 | .slice _,cs,vs,fr,x,hl,hr,hv,hS=>by cases cs<;>simp [Dw] at hv
 | .ptr _,cs,vs,fr,x,hl,hr,hv,hS=>by cases cs<;>simp [Dw] at hv
 | .oslice _,cs,vs,fr,x,hl,hr,hv,hS=>by cases cs<;>simp [Dw] at hv
 | .optr _,cs,vs,fr,x,hl,hr,hv,hS=>by cases cs<;>simp [Dw] at hv
 | .smap _,cs,vs,fr,x,hl,hr,hv,hS=>by cases cs<;>simp [Dw] at hv
 | .clo _ _,cs,vs,fr,x,hl,hr,hv,hS=>by cases cs<;>simp [Dw] at hv
end
end Go.Proofs.YtkkdpknjohcekaaGreat
