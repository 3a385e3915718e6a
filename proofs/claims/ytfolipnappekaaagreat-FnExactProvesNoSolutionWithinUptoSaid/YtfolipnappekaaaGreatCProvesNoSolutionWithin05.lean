/-
  Part 6 of the proof that the statement FnExactProvesNoSolutionWithin holds.
-/
import Derived.Test.YtfolipnappekaaaGreatCProvesNoSolutionWithin04
import Derived.WalkKit
import Derived.Laws.Slices
namespace Go.Proofs.YtfolipnappekaaaGreat
open Go.RowKit
def Ar:Ty->List Value
 | .int k=> [.int k 0]
 | .bool=> [.bool false]
 | .str=> [.string ByteArray.empty]
 | .slice _=> [.slice none 0 0]
 | .oslice _=> [.slice none 0 0]
 | .ptr _=> [.pointer none]
 | .optr _=> [.pointer none]
 | .smap _=> [.map none]
 | .clo _ _=> [.nilFunc]
 | .unit=> []
 | .pair a r=>Ar a++Ar r
structure lp (P:Program) (T:Tab) (t:TypeId) (τ:Ty):Prop where
 info: ∃i:TypeInfo,P.info? t=some i/\i.size=τ.size/\i.bytes<=256/\i.zero=some (Au τ (Ar τ))
 desc:match τ with
  | .int k=>P.underlying t=some (.int k)
  | .bool=>P.underlying t=some .bool
  | .str=>P.underlying t=some .string
  | .slice e=> ∃te,P.underlying t=some (.slice te)/\T.elem t=some te/\T.ty te=some e
  | .oslice e=> ∃te,P.underlying t=some (.slice te)/\T.elem t=some te/\T.ty te=some e
  | .ptr _=> ∃u,P.underlying t=some (.pointer u)
  | .optr _=> ∃u,P.underlying t=some (.pointer u)
  | .smap _=> ∃k e,P.underlying t=some (.map k e)
  | .clo _ _=>False
  | .unit| .pair _ _=> ∃fs,P.underlying t=some (.struct fs)
def placesOf (fs:Array Field):Sem (Array (Nat×Nat)):=fs.mapM λf=>do pure (f.offset,<-sizeOf f.type)
structure By (P:Program) (T:Tab):Prop where
 fill: ∀t τ,T.ty t=some τ->τ.Ac=true-> ∃(fs:Array Field) (Hi:Array (Nat×Nat)),P.underlying t=some (.struct fs)/\(∀w,(placesOf fs).run P w= .ok Hi w)/\
  ∀f o u ρ,T.off t f=some (o,u)->T.ty u=some ρ->Hi[f]?=some (o,ρ.size)
 ty: ∀t τ,T.ty t=some τ->lp P T t τ
 elem: ∀t te,T.elem t=some te->P.underlying t=some (.slice te)
 mapOf: ∀t v,T.mapOf t=some v-> ∃k e,P.underlying t=some (.map k e)/\P.underlying k=some .string/\T.ty e=some v/\v.flat=true/\v.Ac=false
 off: ∀s f o t,T.off s f=some (o,t)-> ∃(fs:Array Field) (fd:Field),P.underlying s=some (.struct fs)/\fs[f]?=some fd/\fd.offset=o/\fd.type=t/\ ∃i:TypeInfo,P.info? t=some i/\i.size≠0
section
variable {P:Program} {T:Tab} {X:Ctx} {w w':World} {π:Pi} {H:List (Nat×OB)}
theorem Lo {t:TypeId} {d:TypeDesc} (h:P.underlying t=some d):(isAgg t).run P w= .ok (match d with| .struct _| .array _ _=>true|_=>false) w:=by
 unfold isAgg
 rw [Sem.run_bind,run_underlying h]
 cases d<;>rfl
theorem lp.agg {t:TypeId} {τ:Ty} (h:lp P T t τ):(isAgg t).run P w= .ok τ.Ac w:=by
 have hd:=h.desc
 cases τ<;>simp only at hd
 case int k=>rw [Lo hd];rfl
 case bool=>rw [Lo hd];rfl
 case str=>rw [Lo hd];rfl
 case slice e=>obtain ⟨te,hd,_⟩:=hd;rw [Lo hd];rfl
 case ptr e=>obtain ⟨te,hd⟩:=hd;rw [Lo hd];rfl
 case oslice e=>obtain ⟨te,hd,_⟩:=hd;rw [Lo hd];rfl
 case optr e=>obtain ⟨te,hd⟩:=hd;rw [Lo hd];rfl
 case smap e=>obtain ⟨k,te,hd⟩:=hd;rw [Lo hd];rfl
 case unit=>obtain ⟨te,hd⟩:=hd;rw [Lo hd];rfl
 case pair e r=>obtain ⟨te,hd⟩:=hd;rw [Lo hd];rfl
theorem lp.size {t:TypeId} {τ:Ty} (h:lp P T t τ):(sizeOf t).run P w= .ok τ.size w:=by
 obtain ⟨i,hi,hs,_⟩:=h.info
 simp [sizeOf,typeInfo,hi,hs]
theorem Bc.Mv {S:Nat->Prop} {τ:Ty} {v:Value} {x:τ.den} (Oi:τ.Ac=false) (h:Bc w S τ v x):Cells w S τ [v] x:=by
 obtain ⟨cs,hc,rfl⟩:=h
 have hl:=Cells.len τ cs x hc
 have h1:τ.size=1:=by cases τ<;>simp_all [Ty.Ac,Ty.size]
 rw [h1] at hl
 obtain ⟨c,rfl⟩:=List.length_eq_one_iff.1 hl
 simpa [Au,Oi] using hc
theorem Bc.ko {S:Nat->Prop} {τ:Ty} {v:Value} {x:τ.den} (Oi:τ.Ac=false) (h:Cells w S τ [v] x):Bc w S τ v x:=
 ⟨[v],h,by simp [Au,Oi]⟩
def Lx (X:Ctx) (S:Nat->Prop) (fr:Bool):Prop:=(∀k,S k->k<X.w0.heap.size/\ ¬X.gv k)/\(fr=true\/ ∀k,S k->X.Sc k)
theorem Lx.dh {S:Nat->Prop} {fr:Bool} (h:Lx X S fr) (k:Nat) (hk:S k):Bj X.w0.heap.size X.Sc π fr k:=by
 rcases h.2 with h2|h2
 ·exact .inr (.inr ⟨h2,(h.1 k hk).1⟩)
 ·exact .inr (.inl (h2 k hk))
theorem Lx.and_left {S:Nat->Prop} {f1 f2:Bool} (h:Lx X S (f1&&f2)):Lx X S f1:=
 ⟨h.1,h.2.imp (λh=>by simp at h;exact h.1) id⟩
theorem Lx.and_right {S:Nat->Prop} {f1 f2:Bool} (h:Lx X S (f1&&f2)):Lx X S f2:=
 ⟨h.1,h.2.imp (λh=>by simp at h;exact h.2) id⟩
theorem Rep.apart {S:Nat->Prop} {fr:Bool} {τ:Ty} {cs:List Value} {x:τ.den} (hS:Lx X S (fr||τ.flat)) (h:Cells w (Bj X.w0.heap.size X.Sc π fr) τ cs x):Cells w S τ cs x:=by
 cases hf:τ.flat with
 |true=>exact Cells.flat τ cs x hf h
 |false=>
  rw [hf,Bool.or_false] at hS
  exact Cells.Cn (Nat.le_refl _) (λ_ _ _=>rfl) (λk _ hk=>hS.dh k hk) τ cs x h
theorem Lx.own {S:Nat->Prop} {fr:Bool} (hS:Lx X S fr) (h:Im X w π H) {k:Nat} (hk:S k): ¬Qj π k:= λho=>by
 have h1:=hS.1 k hk
 rcases (h.own ho).2 with h2|h2
 ·omega
 ·exact h1.2 h2
theorem Lx.mono {S:Nat->Prop} {f1 f2:Bool} (h:Lx X S f1) (hf:f1=true->f2=true):Lx X S f2:=⟨h.1,h.2.imp hf id⟩
theorem Jh (st:St) (τ:Ty) (fr:Bool) (Jr:Ty) (x:Jr.den):Bp st τ (.data fr Jr x)=if h:Jr=τ then some (fr||τ.flat,h▸x) else dw fr τ Jr x:=by
 cases τ<;>rfl
theorem Zs (st:St) (τ:Ty) (fr:Bool) (Jr:Ty) (x:Jr.den):Cv st τ (.at (.data fr Jr x))=if h:Jr=τ then some (fr||τ.flat,h▸x) else if τ.Ac then none else Fp st τ (.data fr Jr x):=rfl
theorem xN (st:St) (τ:Ty) (fr:Bool) (Jr:Ty) (x:Jr.den):Fp st τ (.data fr Jr x)=Bp st τ (.data fr Jr x):=by
 cases τ<;>rfl
theorem LP {S:Nat->Prop} {fr:Bool} {τ Jr:Ty} {x:Jr.den} {f:Bool} {y:τ.den} {v:Value} (h:dw fr τ Jr x=some (f,y)) (hc:Bc w (Bj X.w0.heap.size X.Sc π fr) Jr v x) (hS:Lx X S f):
  τ.Ac=false/\f=fr/\Cells w S τ [v] y:=by
 unfold dw at h
 split at h
 ·split at h
  ·rename_i e e' _ RL
   subst RL
   simp only [Option.some.injEq,Prod.mk.injEq] at h
   obtain ⟨rfl,rfl⟩:=h
   refine ⟨rfl,rfl,?_⟩
   have h1:=Rep.apart (S:=S) (τ:= .oslice e') ⟨hS.1,hS.2.imp (λh=>by rw [h];rfl) id⟩ (Bc.Mv rfl hc)
   simp only [Cells] at h1⊢
   rcases h1 with ⟨rfl,c,h1⟩|⟨xs,ad,len,cap,rfl,h1,h2,h3,h4⟩
   ·exact ⟨none,0,c,h1,rfl,Nat.zero_le _, .inl rfl⟩
   ·exact ⟨_,len,cap,h1,h2,h3,h4.imp id λ⟨g,o,ha,h4⟩=>⟨g,o,by rw [ha],h4⟩⟩
  ·cases h
 ·split at h
  ·rename_i a a' _ haa
   subst haa
   simp only [Option.some.injEq,Prod.mk.injEq] at h
   obtain ⟨rfl,rfl⟩:=h
   refine ⟨rfl,rfl,?_⟩
   have h1:=Rep.apart (S:=S) (τ:= .ptr a') ⟨hS.1,hS.2.imp (λh=>by rw [h];rfl) id⟩ (Bc.Mv rfl hc)
   simp only [Cells] at h1⊢
   obtain ⟨g,o,h2⟩:=h1
   exact .inr ⟨_,g,o,rfl,h2⟩
  ·cases h
 ·cases h
theorem rT {st:St} (h:Im X w π st.heap) {S:Nat->Prop} (τ:Ty) (c:AC) (v:Value) (fr:Bool) (x:τ.den) (Oi:τ.Ac=false) (hc:Dv X w π st.heap c v)
  (hv:Bp st τ c=some (fr,x)) (hS:Lx X S fr):Cells w S τ [v] x:=by
 cases c with
 |data Qt Jr y=>
  rw [Jh] at hv
  split at hv
  ·rename_i ht;subst ht
   simp only [Option.some.injEq,Prod.mk.injEq] at hv
   obtain ⟨rfl,rfl⟩:=hv
   exact Rep.apart hS (Bc.Mv Oi hc)
  ·exact (LP hv hc hS).2.2
 |Hr=>
  cases τ with
  |slice e=>
   simp only [Bp,Option.some.injEq,Prod.mk.injEq] at hv
   obtain ⟨_,rfl⟩:=hv
   exact ⟨none,0,0,by rw [show v=_ from hc],rfl,Nat.le_refl _, .inl rfl⟩
  |oslice e=>
   simp only [Bp,Option.some.injEq,Prod.mk.injEq] at hv
   obtain ⟨_,rfl⟩:=hv
   exact .inl ⟨rfl,0,by rw [show v=_ from hc]⟩
  |_=>simp [Bp] at hv
 |Rp=>
  cases τ with
  |optr e=>
   simp only [Bp,Option.some.injEq,Prod.mk.injEq] at hv
   obtain ⟨_,rfl⟩:=hv
   exact .inl ⟨rfl,by rw [show v=_ from hc]⟩
  |_=>simp [Bp] at hv
 |own l off len=>
  cases τ with
  |slice e=>
   simp only [Bp] at hv
   split at hv
   ·rename_i Qt VS e' tid xs hl
    split at hv
    ·rename_i he;subst he
     simp only [Option.some.injEq,Prod.mk.injEq] at hv
     obtain ⟨rfl,rfl⟩:=hv
     obtain ⟨h2,h3⟩:=Jv hc hl
     exact m4 h hl h2 h3 (λk hk ⟨r,hr,EI⟩=>hS.own h hk ⟨l,r,hr,EI⟩) (λk _ hk=>hS.dh k hk)
    ·cases hv
   ·rename_i e' tid xs hl
    split at hv
    ·rename_i he;subst he
     simp only [Option.some.injEq,Prod.mk.injEq] at hv
     obtain ⟨rfl,rfl⟩:=hv
     obtain ⟨h2,h3⟩:=Xy hc hl
     exact jj h hl h2 h3 (λk hk ⟨r,hr,EI⟩=>hS.own h hk ⟨l,r,hr,EI⟩)
    ·cases hv
   ·rename_i e' tid rows kp hl
    split at hv
    ·rename_i he;subst he
     simp only [Option.some.injEq,Prod.mk.injEq] at hv
     obtain ⟨rfl,rfl⟩:=hv
     obtain ⟨h2,h3⟩:=kE hc hl
     exact pN h hl h2 h3 (λk hk ⟨r,hr,EI⟩=>hS.own h hk ⟨l,r,hr,EI⟩) (λk hk=>hS.dh k hk)
    ·cases hv
   ·cases hv
  |_=>simp [Bp] at hv
 |sub l i c=>
  cases τ with
  |slice e=>
   simp only [Bp] at hv
   split at hv
   ·rename_i e' tid rows kp hl
    split at hv
    ·rename_i he;subst he
     simp only [Option.some.injEq,Prod.mk.injEq] at hv
     obtain ⟨rfl,rfl⟩:=hv
     exact pO h hl (yZ hc hl) hc (λk hk ⟨r,hr,EI⟩=>hS.own h hk ⟨l,r,hr,EI⟩) (λk hk=>hS.dh k hk)
    ·cases hv
   ·cases hv
  |_=>simp [Bp] at hv
 |Gd l=>
  cases τ with
  |smap vt=>
   simp only [Bp] at hv
   split at hv
   ·rename_i v' m hl
    split at hv
    ·rename_i he;subst he
     simp only [Option.some.injEq,Prod.mk.injEq] at hv
     obtain ⟨_,rfl⟩:=hv
     obtain ⟨r,vt,m',h1,h2,rfl⟩:=hc
     exact vf ((h.heap l).Md hl) (by rw [h2];rfl) λhs=>hS.own h hs ⟨l,r,h2,h.Bg h2⟩
    ·cases hv
   ·cases hv
  |_=>simp [Bp] at hv
 |_=>cases τ<;>simp [Bp] at hv
theorem Ok {st:St} {τ:Ty} (Oi:τ.Ac=false) (cs:List AC):Cu st τ cs=match cs with| [c]=>Bp st τ c|_=>none:=by
 cases τ<;>simp [Ty.Ac] at Oi<;>rcases cs with _|⟨c,_|⟨d,r⟩⟩<;>rfl
theorem ik {st:St} (h:Im X w π st.heap) {S:Nat->Prop} : ∀(τ:Ty) (cs:List AC) (us:List Value) (fr:Bool) (x:τ.den),Da X w π st.heap cs us->
  Cu st τ cs=some (fr,x)->Lx X S fr->Cells w S τ us x:=by
 have one: ∀(τ:Ty) (cs:List AC) (us:List Value) (fr:Bool) (x:τ.den),τ.Ac=false->Da X w π st.heap cs us->
   Cu st τ cs=some (fr,x)->Lx X S fr->Cells w S τ us x:=by
  intro τ cs us fr x Oi hr hv hS
  rw [Ok Oi] at hv
  split at hv
  ·rename_i c
   obtain ⟨u,hu,_,hc⟩:=hr.2 0 c rfl
   have hl:us.length=1:=hr.1
   obtain ⟨u',rfl⟩:=List.length_eq_one_iff.1 hl
   simp at hu;subst hu
   exact rT h τ c _ fr x Oi hc hv hS
  ·cases hv
 intro τ
 induction τ with
 |unit=>
  intro cs us fr x hr hv hS
  cases cs with
  |nil=>have:us= []:=List.eq_nil_of_length_eq_zero hr.1;exact this
  |cons c cs=>simp [Cu] at hv
 |pair a r jm fv=>
  intro cs us fr x hr hv hS
  simp only [Cu] at hv
  split at hv
  ·rename_i f1 y f2 z h1 h2
   simp only [Option.some.injEq,Prod.mk.injEq] at hv
   obtain ⟨rfl,rfl⟩:=hv
   have MG:Da X w π st.heap (cs.take a.size) (us.take a.size):=
    ⟨by simp [hr.1],λi c hc=>by
     rw [List.getElem?_take] at hc⊢
     split at hc
     ·rename_i hi;simp only [hi,if_true];exact hr.2 i c hc
     ·cases hc⟩
   have SC:Da X w π st.heap (cs.drop a.size) (us.drop a.size):=
    ⟨by simp [hr.1],λi c hc=>by
     rw [List.getElem?_drop] at hc⊢
     exact hr.2 _ c hc⟩
   exact ⟨us.take a.size,us.drop a.size,(List.take_append_drop _ _).symm,jm _ _ _ _ MG h1 hS.and_left,fv _ _ _ _ SC h2 hS.and_right⟩
  ·cases hv
 |_=>exact λcs us fr x hr hv hS=>one _ cs us fr x rfl hr hv hS
theorem Ur {cs:List AC} {us:List Value} (h:Da X w π H cs us) (i n:Nat):Da X w π H ((cs.drop i).take n) ((us.drop i).take n):=
 ⟨by simp [h.1],λj c hc=>by
  rw [List.getElem?_take] at hc⊢
  split at hc
  ·rename_i hi
   simp only [hi,if_true]
   rw [List.getElem?_drop] at hc⊢
   exact h.2 _ c hc
  ·cases hc⟩
theorem eZ {st:St} (h:Im X w π st.heap) {S:Nat->Prop} {a:Ty} {l i:Nat} {fr:Bool} {x:a.den} (hv:Oz st a l i=some (fr,x)) (hS:Lx X S fr) {r:Real} (hr:π l=some r):
  r.g<w.heap.size/\ ¬S r.g/\ ∃es:List Value,es.length=a.size/\(∀j u,es[j]?=some u->w.cell? ⟨r.g,i+j,none⟩=some u)/\Cells w S a es x:=by
 unfold Oz at hv
 split at hv
 ·rename_i tid vs hl
  obtain ⟨r',h3,h4,cur,h5,h6⟩:=(h.heap l).Md hl
  rw [hr] at h3;cases h3
  have hc:=ik h a _ _ fr x (Ur h6 i a.size) hv hS
  refine ⟨Dd h5,λhs=>hS.own h hs ⟨l,r,hr,h4⟩,_,Cells.len a _ x hc,λj u hu=>?_,hc⟩
  rw [cellOf h5]
  rw [List.getElem?_take] at hu
  split at hu
  ·rw [List.getElem?_drop] at hu;simpa using hu
  ·cases hu
 ·cases hv
theorem xM {st:St} (h:Im X w π st.heap) {S:Nat->Prop} : ∀(τ:Ty) (Ca:List (Nat×Nat)) (us:List Value) (fr:Bool) (x:τ.den),us.length=Ca.length->
  (∀(j:Nat) p,Ca[j]?=some p-> ∃r tid vs,Ad st.heap p.1=some (.var tid vs)/\π p.1=some r/\us[j]?=some (.pointer (some ⟨r.g,p.2,none⟩)))->
  Gp st τ Ca=some (fr,x)->Lx X S fr->Cells w S τ us x:=by
 intro τ
 induction τ with
 |unit=>
  intro Ca us fr x hl hr hv hS
  cases Ca with
  |nil=>exact List.eq_nil_of_length_eq_zero hl
  |cons c cs=>simp [Gp] at hv
 |pair a r _ fv=>
  intro Ca us fr x hl hr hv hS
  cases a with
  |ptr a=>
   cases Ca with
   |nil=>simp [Gp] at hv
   |cons c cs=>
    obtain ⟨l,i⟩:=c
    simp only [Gp] at hv
    split at hv
    ·rename_i f1 y f2 z h1 h2
     simp only [Option.some.injEq,Prod.mk.injEq] at hv
     obtain ⟨rfl,rfl⟩:=hv
     cases us with
     |nil=>simp at hl
     |cons u us=>
      obtain ⟨r0,tid,vs,h3,h4,h5⟩:=hr 0 (l,i) rfl
      simp only [List.getElem?_cons_zero,Option.some.injEq] at h5
      subst h5
      obtain ⟨h6,h7,es,h8,h9,lg⟩:=eZ h h1 hS.and_left h4
      exact ⟨[_],us,rfl,⟨r0.g,i,rfl,h6,h7,es,h8,h9,lg⟩,fv cs us f2 z (by simpa using hl) (λj p hp=>hr (j+1) p hp) h2 hS.and_right⟩
    ·cases hv
  |_=>cases Ca<;>simp [Gp] at hv
 |_=>intro Ca us fr x hl hr hv;cases Ca<;>simp [Gp] at hv
theorem BU {st:St} (h:Im X w π st.heap) {S:Nat->Prop} (τ:Ty) (c:AC) (v:Value) (fr:Bool) (x:τ.den) (Oi:τ.Ac=false) (hc:Dv X w π st.heap c v)
  (hv:Fp st τ c=some (fr,x)) (hS:Lx X S fr):Cells w S τ [v] x:=by
 have Jl:Bp st τ c=some (fr,x)->Cells w S τ [v] x:= λhv=>rT h τ c v fr x Oi hc hv hS
 cases τ with
 |ptr a=>
  cases c with
  |Dt l i=>
   obtain ⟨r,tid,vs,h1,h2,rfl⟩:=hc
   obtain ⟨h6,h7,h8⟩:=eZ h hv hS h2
   exact ⟨r.g,i,rfl,h6,h7,h8⟩
  |_=>exact Jl hv
 |optr a=>
  cases c with
  |Dt l i=>
   obtain ⟨r,tid,vs,h1,h2,rfl⟩:=hc
   simp only [Fp] at hv
   cases hp:Oz st a l i with
   |none=>rw [hp] at hv;cases hv
   |some p=>
    rw [hp] at hv
    simp only [Option.map_some,Option.some.injEq,Prod.mk.injEq] at hv
    obtain ⟨rfl,rfl⟩:=hv
    obtain ⟨h6,h7,h8⟩:=eZ h hp hS h2
    exact .inr ⟨_,r.g,i,rfl,rfl,h6,h7,h8⟩
  |_=>exact Jl hv
 |clo f a=>
  cases c with
  |clo g Ca=>
   simp only [Fp] at hv
   split at hv
   ·rename_i hg
    obtain ⟨rfl,Ey⟩:=hg
    obtain ⟨us,rfl,h2,h3⟩:=hc
    exact ⟨us,by rw [dt Ey],xM h a Ca us fr x h2 h3 hv hS⟩
   ·cases hv
  |_=>exact Jl hv
 |_=>exact Jl hv
theorem Tq {st:St} (h:Im X w π st.heap) {S:Nat->Prop} (τ:Ty) (c:AV) (v:Value) (fr:Bool) (x:τ.den) (hc:Ao X w π st.heap c v)
  (hv:Cv st τ c=some (fr,x)) (hS:Lx X S fr):Bc w S τ v x:=by
 have Jl: ∀c:AC,Dv X w π st.heap c v->(if τ.Ac then none else Fp st τ c)=some (fr,x)->Bc w S τ v x:=by
  intro c hc hv
  split at hv
  ·cases hv
  ·rename_i Oi
   simp only [Bool.not_eq_true] at Oi
   exact Bc.ko Oi (BU h τ c v fr x Oi hc hv hS)
 cases c with
 | «at»c=>
  cases c with
  |data Qt Jr y=>
   rw [Zs] at hv
   split at hv
   ·rename_i ht;subst ht
    simp only [Option.some.injEq,Prod.mk.injEq] at hv
    obtain ⟨rfl,rfl⟩:=hv
    obtain ⟨cs,h1,h2⟩:=hc
    exact ⟨cs,Rep.apart hS h1,h2⟩
   ·exact Jl (.data Qt Jr y) hc hv
  |undef=>exact Jl .undef hc hv
  |skip=>exact Jl .skip hc hv
  |Hr=>exact Jl .Hr hc hv
  |Rp=>exact Jl .Rp hc hv
  |own l off len=>exact Jl (.own l off len) hc hv
  |Dt l i=>exact Jl (.Dt l i) hc hv
  |Fy l i=>exact Jl (.Fy l i) hc hv
  |clo f Ca=>exact Jl (.clo f Ca) hc hv
  |Gd l=>exact Jl (.Gd l) hc hv
  |sub l i c=>exact Jl (.sub l i c) hc hv
  |Fu l i c=>exact Jl (.Fu l i c) hc hv
 |agg cs=>
  simp only [Cv] at hv
  split at hv
  ·rename_i Oi
   obtain ⟨us,rfl,hr⟩:=hc
   exact ⟨us,ik h τ cs us fr x hr hv hS,by simp [Au,Oi]⟩
  ·cases hv
 |Xa Qt Jr y=>simp [Cv] at hv
 |Ih l=>simp [Cv] at hv
theorem Wn {st:St} (h:Im X w π st.heap) {S:Nat->Prop} : ∀(τ:Ty) (cs:List AV) (vs:List Value) (fr:Bool) (x:τ.den),cs.length=vs.length->
  (∀(i:Nat) c v,cs[i]?=some c->vs[i]?=some v->Ao X w π st.heap c v)->Bt st τ cs=some (fr,x)->Lx X S fr->Bf w S τ vs x
 | .unit,[],vs,fr,x,hl,hr,hv,hS=>by
  have:vs= []:=List.eq_nil_of_length_eq_zero hl.symm
  subst this;trivial
 | .unit,_::_,vs,fr,x,hl,hr,hv,hS=>by simp [Bt] at hv
 | .pair a r,[],vs,fr,x,hl,hr,hv,hS=>by simp [Bt] at hv
 | .pair a r,c::cs,[],fr,x,hl,hr,hv,hS=>by simp at hl
 | .pair a r,c::cs,v::vs,fr,x,hl,hr,hv,hS=>by
  simp only [Bt] at hv
  split at hv
  ·rename_i f1 y f2 z h1 h2
   simp only [Option.some.injEq,Prod.mk.injEq] at hv
   obtain ⟨rfl,rfl⟩:=hv
   exact ⟨Tq h a c v f1 y (hr 0 c v rfl rfl) h1 hS.and_left,Wn h r cs vs f2 z (by simpa using hl) (λi c' v' hc zm=>hr (i+1) c' v' hc zm) h2 hS.and_right⟩
  ·cases hv
 | .int _,cs,vs,fr,x,hl,hr,hv,hS=>by cases cs<;>simp [Bt] at hv
 | .bool,cs,vs,fr,x,hl,hr,hv,hS=>by cases cs<;>simp [Bt] at hv
 | .str,cs,vs,fr,x,hl,hr,hv,hS=>by cases cs<;>simp [Bt] at hv
 | .slice _,cs,vs,fr,x,hl,hr,hv,hS=>by cases cs<;>simp [Bt] at hv
 | .ptr _,cs,vs,fr,x,hl,hr,hv,hS=>by cases cs<;>simp [Bt] at hv
 | .oslice _,cs,vs,fr,x,hl,hr,hv,hS=>by cases cs<;>simp [Bt] at hv
 | .optr _,cs,vs,fr,x,hl,hr,hv,hS=>by cases cs<;>simp [Bt] at hv
 | .smap _,cs,vs,fr,x,hl,hr,hv,hS=>by cases cs<;>simp [Bt] at hv
 | .clo _ _,cs,vs,fr,x,hl,hr,hv,hS=>by cases cs<;>simp [Bt] at hv
end
end Go.Proofs.YtfolipnappekaaaGreat
