/-
  Part 6 of the proof that the statement FnExactIterationNodes holds.
-/
import Derived.Test.YtfolipnappekaaaGreatCIterationNodes04
import Derived.WalkKit
import Derived.Laws.Slices
namespace Go.Proofs.YtfolipnappekaaaGreat
open Go.RowKit
def Bw:Ty->List Value
 | .int k=> [.int k 0]
 | .bool=> [.bool false]
 | .str=> [.string ByteArray.empty]
 | .slice _=> [.slice none 0 0]
 | .oslice _=> [.slice none 0 0]
 | .ptr _=> [.pointer none]
 | .optr _=> [.pointer none]
 | .smap _=> [.map none]
 | .clo _ _=> [.nilFunc]
 | .unit=> []
 | .pair a r=>Bw a++Bw r
structure p9 (P:Program) (T:Tab) (t:TypeId) (τ:Ty):Prop where
 info: ∃i:TypeInfo,P.info? t=some i/\i.size=τ.size/\i.bytes<=256/\i.zero=some (Cf τ (Bw τ))
 desc:match τ with
  | .int k=>P.underlying t=some (.int k)
  | .bool=>P.underlying t=some .bool
  | .str=>P.underlying t=some .string
  | .slice e=> ∃te,P.underlying t=some (.slice te)/\T.elem t=some te/\T.ty te=some e
  | .oslice e=> ∃te,P.underlying t=some (.slice te)/\T.elem t=some te/\T.ty te=some e
  | .ptr _=> ∃u,P.underlying t=some (.pointer u)
  | .optr _=> ∃u,P.underlying t=some (.pointer u)
  | .smap _=> ∃k e,P.underlying t=some (.map k e)
  | .clo _ _=>False
  | .unit| .pair _ _=> ∃fs,P.underlying t=some (.struct fs)
def placesOf (fs:Array Field):Sem (Array (Nat×Nat)):=fs.mapM λf=>do pure (f.offset,<-sizeOf f.type)
structure Eb (P:Program) (T:Tab):Prop where
 fill: ∀t τ,T.ty t=some τ->τ.Aq=true-> ∃(fs:Array Field) (Ls:Array (Nat×Nat)),P.underlying t=some (.struct fs)/\(∀w,(placesOf fs).run P w= .ok Ls w)/\
  ∀f o u ρ,T.off t f=some (o,u)->T.ty u=some ρ->Ls[f]?=some (o,ρ.size)
 ty: ∀t τ,T.ty t=some τ->p9 P T t τ
 elem: ∀t te,T.elem t=some te->P.underlying t=some (.slice te)
 mapOf: ∀t v,T.mapOf t=some v-> ∃k e,P.underlying t=some (.map k e)/\P.underlying k=some .string/\T.ty e=some v/\v.flat=true/\v.Aq=false
 off: ∀s f o t,T.off s f=some (o,t)-> ∃(fs:Array Field) (fd:Field),P.underlying s=some (.struct fs)/\fs[f]?=some fd/\fd.offset=o/\fd.type=t/\ ∃i:TypeInfo,P.info? t=some i/\i.size≠0
section
variable {P:Program} {T:Tab} {X:Ctx} {w w':World} {π:Pi} {H:List (Nat×OB)}
theorem Qp {t:TypeId} {d:TypeDesc} (h:P.underlying t=some d):(isAgg t).run P w= .ok (match d with| .struct _| .array _ _=>true|_=>false) w:=by
 unfold isAgg
 rw [Sem.run_bind,run_underlying h]
 cases d<;>rfl
theorem p9.agg {t:TypeId} {τ:Ty} (h:p9 P T t τ):(isAgg t).run P w= .ok τ.Aq w:=by
 have hd:=h.desc
 cases τ<;>simp only at hd
 case int k=>rw [Qp hd];rfl
 case bool=>rw [Qp hd];rfl
 case str=>rw [Qp hd];rfl
 case slice e=>obtain ⟨te,hd,_⟩:=hd;rw [Qp hd];rfl
 case ptr e=>obtain ⟨te,hd⟩:=hd;rw [Qp hd];rfl
 case oslice e=>obtain ⟨te,hd,_⟩:=hd;rw [Qp hd];rfl
 case optr e=>obtain ⟨te,hd⟩:=hd;rw [Qp hd];rfl
 case smap e=>obtain ⟨k,te,hd⟩:=hd;rw [Qp hd];rfl
 case unit=>obtain ⟨te,hd⟩:=hd;rw [Qp hd];rfl
 case pair e r=>obtain ⟨te,hd⟩:=hd;rw [Qp hd];rfl
theorem p9.size {t:TypeId} {τ:Ty} (h:p9 P T t τ):(sizeOf t).run P w= .ok τ.size w:=by
 obtain ⟨i,hi,hs,_⟩:=h.info
 simp [sizeOf,typeInfo,hi,hs]
theorem Ct.Ry {S:Nat->Prop} {τ:Ty} {v:Value} {x:τ.den} (Tz:τ.Aq=false) (h:Ct w S τ v x):Cells w S τ [v] x:=by
 obtain ⟨cs,hc,rfl⟩:=h
 have hl:=Cells.len τ cs x hc
 have h1:τ.size=1:=by cases τ<;>simp_all [Ty.Aq,Ty.size]
 rw [h1] at hl
 obtain ⟨c,rfl⟩:=Df.1 hl
 simpa [Cf,Tz] using hc
theorem Ct.o0 {S:Nat->Prop} {τ:Ty} {v:Value} {x:τ.den} (Tz:τ.Aq=false) (h:Cells w S τ [v] x):Ct w S τ v x:=
 ⟨[v],h,by simp [Cf,Tz]⟩
def Tu (X:Ctx) (S:Nat->Prop) (fr:Bool):Prop:=(∀k,S k->k<X.w0.heap.size/\ ¬X.gv k)/\(fr=true\/ ∀k,S k->X.Sc k)
theorem Tu.iq {S:Nat->Prop} {fr:Bool} (h:Tu X S fr) (k:Nat) (hk:S k):Dc X.w0.heap.size X.Sc π fr k:=by
 rcases h.2 with h2|h2
 ·exact .inr (.inr ⟨h2,(h.1 k hk).1⟩)
 ·exact .inr (.inl (h2 k hk))
theorem Tu.and_left {S:Nat->Prop} {f1 f2:Bool} (h:Tu X S (f1&&f2)):Tu X S f1:=
 ⟨h.1,h.2.imp (λh=>by simp at h;exact h.1) id⟩
theorem Tu.and_right {S:Nat->Prop} {f1 f2:Bool} (h:Tu X S (f1&&f2)):Tu X S f2:=
 ⟨h.1,h.2.imp (λh=>by simp at h;exact h.2) id⟩
theorem Rep.apart {S:Nat->Prop} {fr:Bool} {τ:Ty} {cs:List Value} {x:τ.den} (hS:Tu X S (fr||τ.flat)) (h:Cells w (Dc X.w0.heap.size X.Sc π fr) τ cs x):Cells w S τ cs x:=by
 cases hf:τ.flat with
 |true=>exact Cells.flat τ cs x hf h
 |false=>
  rw [hf,gY] at hS
  exact Cells.Ex (Ao _) (λ_ _ _=>rfl) (λk _ hk=>hS.iq k hk) τ cs x h
theorem Tu.own {S:Nat->Prop} {fr:Bool} (hS:Tu X S fr) (h:Mx X w π H) {k:Nat} (hk:S k): ¬Uf π k:= λho=>by
 have h1:=hS.1 k hk
 rcases (h.own ho).2 with h2|h2
 ·omega
 ·exact h1.2 h2
theorem Nw (st:St) (τ:Ty) (fr:Bool) (Oh:Ty) (x:Oh.den):Du st τ (.data fr Oh x)=if h:Oh=τ then some (fr||τ.flat,h▸x) else iC fr τ Oh x:=by
 cases τ<;>rfl
theorem dm (st:St) (τ:Ty) (fr:Bool) (Oh:Ty) (x:Oh.den):Fq st τ (.at (.data fr Oh x))=if h:Oh=τ then some (fr||τ.flat,h▸x) else if τ.Aq then none else Js st τ (.data fr Oh x):=rfl
theorem DO (st:St) (τ:Ty) (fr:Bool) (Oh:Ty) (x:Oh.den):Js st τ (.data fr Oh x)=Du st τ (.data fr Oh x):=by
 cases τ<;>rfl
theorem UJ {S:Nat->Prop} {fr:Bool} {τ Oh:Ty} {x:Oh.den} {f:Bool} {y:τ.den} {v:Value} (h:iC fr τ Oh x=some (f,y)) (hc:Ct w (Dc X.w0.heap.size X.Sc π fr) Oh v x) (hS:Tu X S f):
  τ.Aq=false/\f=fr/\Cells w S τ [v] y:=by
 unfold iC at h
 split at h
 ·split at h
  ·rename_i e e' _ hee
   subst hee
   simp only [Aa,Ad] at h
   obtain ⟨rfl,rfl⟩:=h
   refine ⟨rfl,rfl,?_⟩
   have h1:=Rep.apart (S:=S) (τ:= .oslice e') ⟨hS.1,hS.2.imp (λh=>by rw [h];rfl) id⟩ (Ct.Ry rfl hc)
   simp only [Cells] at h1⊢
   rcases h1 with ⟨rfl,c,h1⟩|⟨xs,ad,len,cap,rfl,h1,h2,h3,h4⟩
   ·exact ⟨none,0,c,h1,rfl,Iq _, .inl rfl⟩
   ·exact ⟨_,len,cap,h1,h2,h3,h4.imp id λ⟨g,o,ha,h4⟩=>⟨g,o,by rw [ha],h4⟩⟩
  ·cases h
 ·split at h
  ·rename_i a a' _ haa
   subst haa
   simp only [Aa,Ad] at h
   obtain ⟨rfl,rfl⟩:=h
   refine ⟨rfl,rfl,?_⟩
   have h1:=Rep.apart (S:=S) (τ:= .ptr a') ⟨hS.1,hS.2.imp (λh=>by rw [h];rfl) id⟩ (Ct.Ry rfl hc)
   simp only [Cells] at h1⊢
   obtain ⟨g,o,h2⟩:=h1
   exact .inr ⟨_,g,o,rfl,h2⟩
  ·cases h
 ·cases h
theorem wx {st:St} (h:Mx X w π st.heap) {S:Nat->Prop} (τ:Ty) (c:AC) (v:Value) (fr:Bool) (x:τ.den) (Tz:τ.Aq=false) (hc:Hm X w π st.heap c v)
  (hv:Du st τ c=some (fr,x)) (hS:Tu X S fr):Cells w S τ [v] x:=by
 cases c with
 |data Wf Oh y=>
  rw [Nw] at hv
  split at hv
  ·rename_i ht;subst ht
   simp only [Aa,Ad] at hv
   obtain ⟨rfl,rfl⟩:=hv
   exact Rep.apart hS (Ct.Ry Tz hc)
  ·exact (UJ hv hc hS).2.2
 |Lr=>
  cases τ with
  |slice e=>
   simp only [Du,Aa,Ad] at hv
   obtain ⟨_,rfl⟩:=hv
   exact ⟨none,0,0,by rw [show v=_ from hc],rfl,Ao _, .inl rfl⟩
  |oslice e=>
   simp only [Du,Aa,Ad] at hv
   obtain ⟨_,rfl⟩:=hv
   exact .inl ⟨rfl,0,by rw [show v=_ from hc]⟩
  |_=>simp [Du] at hv
 |Vu=>
  cases τ with
  |optr e=>
   simp only [Du,Aa,Ad] at hv
   obtain ⟨_,rfl⟩:=hv
   exact .inl ⟨rfl,by rw [show v=_ from hc]⟩
  |_=>simp [Du] at hv
 |own l off len=>
  cases τ with
  |slice e=>
   simp only [Du] at hv
   split at hv
   ·rename_i Wf tr' e' tid xs hl
    split at hv
    ·rename_i he;subst he
     simp only [Aa,Ad] at hv
     obtain ⟨rfl,rfl⟩:=hv
     obtain ⟨h2,h3⟩:=On hc hl
     exact pO h hl h2 h3 (λk hk ⟨r,hr,NF⟩=>hS.own h hk ⟨l,r,hr,NF⟩) (λk _ hk=>hS.iq k hk)
    ·cases hv
   ·rename_i e' tid xs hl
    split at hv
    ·rename_i he;subst he
     simp only [Aa,Ad] at hv
     obtain ⟨rfl,rfl⟩:=hv
     obtain ⟨h2,h3⟩:=ck hc hl
     exact mS h hl h2 h3 (λk hk ⟨r,hr,NF⟩=>hS.own h hk ⟨l,r,hr,NF⟩)
    ·cases hv
   ·rename_i e' tid rows kp hl
    split at hv
    ·rename_i he;subst he
     simp only [Aa,Ad] at hv
     obtain ⟨rfl,rfl⟩:=hv
     obtain ⟨h2,h3⟩:=og hc hl
     exact uc h hl h2 h3 (λk hk ⟨r,hr,NF⟩=>hS.own h hk ⟨l,r,hr,NF⟩) (λk hk=>hS.iq k hk)
    ·cases hv
   ·cases hv
  |_=>simp [Du] at hv
 |sub l i c=>
  cases τ with
  |slice e=>
   simp only [Du] at hv
   split at hv
   ·rename_i e' tid rows kp hl
    split at hv
    ·rename_i he;subst he
     simp only [Aa,Ad] at hv
     obtain ⟨rfl,rfl⟩:=hv
     exact ud h hl (FZ hc hl) hc (λk hk ⟨r,hr,NF⟩=>hS.own h hk ⟨l,r,hr,NF⟩) (λk hk=>hS.iq k hk)
    ·cases hv
   ·cases hv
  |_=>simp [Du] at hv
 |Kh l=>
  cases τ with
  |smap vt=>
   simp only [Du] at hv
   split at hv
   ·rename_i v' m hl
    split at hv
    ·rename_i he;subst he
     simp only [Aa,Ad] at hv
     obtain ⟨_,rfl⟩:=hv
     obtain ⟨r,vt,m',h1,h2,rfl⟩:=hc
     exact zl ((h.heap l).Qm hl) (by rw [h2];rfl) λhs=>hS.own h hs ⟨l,r,h2,h.Cu h2⟩
    ·cases hv
   ·cases hv
  |_=>simp [Du] at hv
 |_=>cases τ<;>simp [Du] at hv
theorem Uc {st:St} {τ:Ty} (Tz:τ.Aq=false) (cs:List AC):Ew st τ cs=match cs with| [c]=>Du st τ c|_=>none:=by
 cases τ<;>simp [Ty.Aq] at Tz<;>rcases cs with _|⟨c,_|⟨d,r⟩⟩<;>rfl
theorem lS {st:St} (h:Mx X w π st.heap) {S:Nat->Prop} : ∀(τ:Ty) (cs:List AC) (us:List Value) (fr:Bool) (x:τ.den),Fv X w π st.heap cs us->
  Ew st τ cs=some (fr,x)->Tu X S fr->Cells w S τ us x:=by
 have one: ∀(τ:Ty) (cs:List AC) (us:List Value) (fr:Bool) (x:τ.den),τ.Aq=false->Fv X w π st.heap cs us->
   Ew st τ cs=some (fr,x)->Tu X S fr->Cells w S τ us x:=by
  intro τ cs us fr x Tz hr hv hS
  rw [Uc Tz] at hv
  split at hv
  ·rename_i c
   obtain ⟨u,hu,_,hc⟩:=hr.2 0 c rfl
   have hl:us.length=1:=hr.1
   obtain ⟨u',rfl⟩:=Df.1 hl
   simp at hu;subst hu
   exact wx h τ c _ fr x Tz hc hv hS
  ·cases hv
 intro τ
 induction τ with
 |unit=>
  intro cs us fr x hr hv hS
  cases cs with
  |nil=>have:us= []:=Ck hr.1;exact this
  |cons c cs=>simp [Ew] at hv
 |pair a r hZ gW=>
  intro cs us fr x hr hv hS
  simp only [Ew] at hv
  split at hv
  ·rename_i f1 y f2 z h1 h2
   simp only [Aa,Ad] at hv
   obtain ⟨rfl,rfl⟩:=hv
   have VB:Fv X w π st.heap (cs.take a.size) (us.take a.size):=
    ⟨by simp [hr.1],λi c hc=>by
     rw [Cx] at hc⊢
     split at hc
     ·rename_i hi;simp only [hi,Pn];exact hr.2 i c hc
     ·cases hc⟩
   have hr2:Fv X w π st.heap (cs.drop a.size) (us.drop a.size):=
    ⟨by simp [hr.1],λi c hc=>by
     rw [Cw] at hc⊢
     exact hr.2 _ c hc⟩
   exact ⟨us.take a.size,us.drop a.size,(Ie _ _).symm,hZ _ _ _ _ VB h1 hS.and_left,gW _ _ _ _ hr2 h2 hS.and_right⟩
  ·cases hv
 |_=>exact λcs us fr x hr hv hS=>one _ cs us fr x rfl hr hv hS
theorem ak {cs:List AC} {us:List Value} (h:Fv X w π H cs us) (i n:Nat):Fv X w π H ((cs.drop i).take n) ((us.drop i).take n):=
 ⟨by simp [h.1],λj c hc=>by
  rw [Cx] at hc⊢
  split at hc
  ·rename_i hi
   simp only [hi,Pn]
   rw [Cw] at hc⊢
   exact h.2 _ c hc
  ·cases hc⟩
theorem jU {st:St} (h:Mx X w π st.heap) {S:Nat->Prop} {a:Ty} {l i:Nat} {fr:Bool} {x:a.den} (hv:Uo st a l i=some (fr,x)) (hS:Tu X S fr) {r:Real} (hr:π l=some r):
  r.g<w.heap.size/\ ¬S r.g/\ ∃es:List Value,es.length=a.size/\(∀j u,es[j]?=some u->w.cell? ⟨r.g,i+j,none⟩=some u)/\Cells w S a es x:=by
 unfold Uo at hv
 split at hv
 ·rename_i tid vs hl
  obtain ⟨r',h3,h4,cur,h5,h6⟩:=(h.heap l).Qm hl
  rw [hr] at h3;cases h3
  have hc:=lS h a _ _ fr x (ak h6 i a.size) hv hS
  refine ⟨Fk h5,λhs=>hS.own h hs ⟨l,r,hr,h4⟩,_,Cells.len a _ x hc,λj u hu=>?_,hc⟩
  rw [cellOf h5]
  rw [Cx] at hu
  split at hu
  ·rw [Cw] at hu;simpa using hu
  ·cases hu
 ·cases hv
theorem DN {st:St} (h:Mx X w π st.heap) {S:Nat->Prop} : ∀(τ:Ty) (Ee:List (Nat×Nat)) (us:List Value) (fr:Bool) (x:τ.den),us.length=Ee.length->
  (∀(j:Nat) p,Ee[j]?=some p-> ∃r tid vs,Au st.heap p.1=some (.var tid vs)/\π p.1=some r/\us[j]?=some (.pointer (some ⟨r.g,p.2,none⟩)))->
  Kv st τ Ee=some (fr,x)->Tu X S fr->Cells w S τ us x:=by
 intro τ
 induction τ with
 |unit=>
  intro Ee us fr x hl hr hv hS
  cases Ee with
  |nil=>exact Ck hl
  |cons c cs=>simp [Kv] at hv
 |pair a r _ gW=>
  intro Ee us fr x hl hr hv hS
  cases a with
  |ptr a=>
   cases Ee with
   |nil=>simp [Kv] at hv
   |cons c cs=>
    obtain ⟨l,i⟩:=c
    simp only [Kv] at hv
    split at hv
    ·rename_i f1 y f2 z h1 h2
     simp only [Aa,Ad] at hv
     obtain ⟨rfl,rfl⟩:=hv
     cases us with
     |nil=>simp at hl
     |cons u us=>
      obtain ⟨r0,tid,vs,h3,h4,h5⟩:=hr 0 (l,i) rfl
      simp only [Cb,Aa] at h5
      subst h5
      obtain ⟨h6,h7,es,h8,h9,oY⟩:=jU h h1 hS.and_left h4
      exact ⟨[_],us,rfl,⟨r0.g,i,rfl,h6,h7,es,h8,h9,oY⟩,gW cs us f2 z (by simpa using hl) (λj p hp=>hr (j+1) p hp) h2 hS.and_right⟩
    ·cases hv
  |_=>cases Ee<;>simp [Kv] at hv
 |_=>intro Ee us fr x hl hr hv;cases Ee<;>simp [Kv] at hv
theorem KI {st:St} (h:Mx X w π st.heap) {S:Nat->Prop} (τ:Ty) (c:AC) (v:Value) (fr:Bool) (x:τ.den) (Tz:τ.Aq=false) (hc:Hm X w π st.heap c v)
  (hv:Js st τ c=some (fr,x)) (hS:Tu X S fr):Cells w S τ [v] x:=by
 have Ob:Du st τ c=some (fr,x)->Cells w S τ [v] x:= λhv=>wx h τ c v fr x Tz hc hv hS
 cases τ with
 |ptr a=>
  cases c with
  |Hj l i=>
   obtain ⟨r,tid,vs,h1,h2,rfl⟩:=hc
   obtain ⟨h6,h7,h8⟩:=jU h hv hS h2
   exact ⟨r.g,i,rfl,h6,h7,h8⟩
  |_=>exact Ob hv
 |optr a=>
  cases c with
  |Hj l i=>
   obtain ⟨r,tid,vs,h1,h2,rfl⟩:=hc
   simp only [Js] at hv
   cases hp:Uo st a l i with
   |none=>rw [hp] at hv;cases hv
   |some p=>
    rw [hp] at hv
    simp only [Am,Aa,Ad] at hv
    obtain ⟨rfl,rfl⟩:=hv
    obtain ⟨h6,h7,h8⟩:=jU h hp hS h2
    exact .inr ⟨_,r.g,i,rfl,rfl,h6,h7,h8⟩
  |_=>exact Ob hv
 |clo f a=>
  cases c with
  |clo g Ee=>
   simp only [Js] at hv
   split at hv
   ·rename_i hg
    obtain ⟨rfl,It⟩:=hg
    obtain ⟨us,rfl,h2,h3⟩:=hc
    exact ⟨us,by rw [iz It],DN h a Ee us fr x h2 h3 hv hS⟩
   ·cases hv
  |_=>exact Ob hv
 |_=>exact Ob hv
theorem Zf {st:St} (h:Mx X w π st.heap) {S:Nat->Prop} (τ:Ty) (c:AV) (v:Value) (fr:Bool) (x:τ.den) (hc:Bp X w π st.heap c v)
  (hv:Fq st τ c=some (fr,x)) (hS:Tu X S fr):Ct w S τ v x:=by
 have Ob: ∀c:AC,Hm X w π st.heap c v->(if τ.Aq then none else Js st τ c)=some (fr,x)->Ct w S τ v x:=by
  intro c hc hv
  split at hv
  ·cases hv
  ·rename_i Tz
   simp only [Ii] at Tz
   exact Ct.o0 Tz (KI h τ c v fr x Tz hc hv hS)
 cases c with
 | «at»c=>
  cases c with
  |data Wf Oh y=>
   rw [dm] at hv
   split at hv
   ·rename_i ht;subst ht
    simp only [Aa,Ad] at hv
    obtain ⟨rfl,rfl⟩:=hv
    obtain ⟨cs,h1,h2⟩:=hc
    exact ⟨cs,Rep.apart hS h1,h2⟩
   ·exact Ob (.data Wf Oh y) hc hv
  |undef=>exact Ob .undef hc hv
  |skip=>exact Ob .skip hc hv
  |Lr=>exact Ob .Lr hc hv
  |Vu=>exact Ob .Vu hc hv
  |own l off len=>exact Ob (.own l off len) hc hv
  |Hj l i=>exact Ob (.Hj l i) hc hv
  |Jz l i=>exact Ob (.Jz l i) hc hv
  |clo f Ee=>exact Ob (.clo f Ee) hc hv
  |Kh l=>exact Ob (.Kh l) hc hv
  |sub l i c=>exact Ob (.sub l i c) hc hv
  |Jv l i c=>exact Ob (.Jv l i c) hc hv
 |agg cs=>
  simp only [Fq] at hv
  split at hv
  ·rename_i Tz
   obtain ⟨us,rfl,hr⟩:=hc
   exact ⟨us,lS h τ cs us fr x hr hv hS,by simp [Cf,Tz]⟩
  ·cases hv
 |bL Wf Oh y=>simp [Fq] at hv
 |Ms l=>simp [Fq] at hv
theorem bt {st:St} (h:Mx X w π st.heap) {S:Nat->Prop} : ∀(τ:Ty) (cs:List AV) (vs:List Value) (fr:Bool) (x:τ.den),cs.length=vs.length->
  (∀(i:Nat) c v,cs[i]?=some c->vs[i]?=some v->Bp X w π st.heap c v)->Dx st τ cs=some (fr,x)->Tu X S fr->Cv w S τ vs x
 | .unit,[],vs,fr,x,hl,hr,hv,hS=>by
  have:vs= []:=Ck hl.symm
  subst this;trivial
 | .unit,_::_,vs,fr,x,hl,hr,hv,hS=>by simp [Dx] at hv
 | .pair a r,[],vs,fr,x,hl,hr,hv,hS=>by simp [Dx] at hv
 | .pair a r,c::cs,[],fr,x,hl,hr,hv,hS=>by simp at hl
 | .pair a r,c::cs,v::vs,fr,x,hl,hr,hv,hS=>by
  simp only [Dx] at hv
  split at hv
  ·rename_i f1 y f2 z h1 h2
   simp only [Aa,Ad] at hv
   obtain ⟨rfl,rfl⟩:=hv
   exact ⟨Zf h a c v f1 y (hr 0 c v rfl rfl) h1 hS.and_left,bt h r cs vs f2 z (by simpa using hl) (λi c' v' hc wU=>hr (i+1) c' v' hc wU) h2 hS.and_right⟩
  ·cases hv
 | .int _,cs,vs,fr,x,hl,hr,hv,hS=>by cases cs<;>simp [Dx] at hv
 | .bool,cs,vs,fr,x,hl,hr,hv,hS=>by cases cs<;>simp [Dx] at hv
 | .str,cs,vs,fr,x,hl,hr,hv,hS=>by cases cs<;>simp [Dx] at hv
 | .slice _,cs,vs,fr,x,hl,hr,hv,hS=>by cases cs<;>simp [Dx] at hv
 | .ptr _,cs,vs,fr,x,hl,hr,hv,hS=>by cases cs<;>simp [Dx] at hv
 | .oslice _,cs,vs,fr,x,hl,hr,hv,hS=>by cases cs<;>simp [Dx] at hv
 | .optr _,cs,vs,fr,x,hl,hr,hv,hS=>by cases cs<;>simp [Dx] at hv
 | .smap _,cs,vs,fr,x,hl,hr,hv,hS=>by cases cs<;>simp [Dx] at hv
 | .clo _ _,cs,vs,fr,x,hl,hr,hv,hS=>by cases cs<;>simp [Dx] at hv
end
end Go.Proofs.YtfolipnappekaaaGreat
