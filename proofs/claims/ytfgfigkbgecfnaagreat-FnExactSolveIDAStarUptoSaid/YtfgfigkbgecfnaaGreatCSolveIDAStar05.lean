/-
  Part 6 of the proof that the statement FnExactSolveIDAStar holds.
-/
import Derived.Test.YtfgfigkbgecfnaaGreatCSolveIDAStar04
import Derived.WalkKit
import Derived.Laws.Slices
namespace Go.Proofs.YtfgfigkbgecfnaaGreat
open Go.RowKit
def By:Ty->List Value
 | .int k=> [.int k 0]
 | .bool=> [.bool false]
 | .str=> [.string ByteArray.empty]
 | .slice _=> [.slice none 0 0]
 | .oslice _=> [.slice none 0 0]
 | .ptr _=> [.pointer none]
 | .optr _=> [.pointer none]
 | .smap _=> [.map none]
 | .clo _ _=> [.nilFunc]
 | .unit=> []
 | .pair a r=>By a++By r
structure q7 (P:Program) (T:Tab) (t:TypeId) (τ:Ty):Prop where
 info: ∃i:TypeInfo,P.info? t=some i/\i.size=τ.size/\i.bytes<=256/\i.zero=some (Cf τ (By τ))
 desc:match τ with
  | .int k=>P.underlying t=some (.int k)
  | .bool=>P.underlying t=some .bool
  | .str=>P.underlying t=some .string
  | .slice e=> ∃te,P.underlying t=some (.slice te)/\T.elem t=some te/\T.ty te=some e
  | .oslice e=> ∃te,P.underlying t=some (.slice te)/\T.elem t=some te/\T.ty te=some e
  | .ptr _=> ∃u,P.underlying t=some (.pointer u)
  | .optr _=> ∃u,P.underlying t=some (.pointer u)
  | .smap _=> ∃k e,P.underlying t=some (.map k e)
  | .clo _ _=>False
  | .unit| .pair _ _=> ∃fs,P.underlying t=some (.struct fs)
def placesOf (fs:Array Field):Sem (Array (Nat×Nat)):=fs.mapM λf=>do pure (f.offset,<-sizeOf f.type)
structure Ed (P:Program) (T:Tab):Prop where
 fill: ∀t τ,T.ty t=some τ->τ.Aq=true-> ∃(fs:Array Field) (Md:Array (Nat×Nat)),P.underlying t=some (.struct fs)/\(∀w,(placesOf fs).run P w= .ok Md w)/\
  ∀f o u ρ,T.off t f=some (o,u)->T.ty u=some ρ->Md[f]?=some (o,ρ.size)
 ty: ∀t τ,T.ty t=some τ->q7 P T t τ
 elem: ∀t te,T.elem t=some te->P.underlying t=some (.slice te)
 mapOf: ∀t v,T.mapOf t=some v-> ∃k e,P.underlying t=some (.map k e)/\P.underlying k=some .string/\T.ty e=some v/\v.flat=true/\v.Aq=false
 off: ∀s f o t,T.off s f=some (o,t)-> ∃(fs:Array Field) (fd:Field),P.underlying s=some (.struct fs)/\fs[f]?=some fd/\fd.offset=o/\fd.type=t/\ ∃i:TypeInfo,P.info? t=some i/\i.size≠0
section
variable {P:Program} {T:Tab} {X:Ctx} {w w':World} {π:Pi} {H:List (Nat×OB)}
theorem Re {t:TypeId} {d:TypeDesc} (h:P.underlying t=some d):(isAgg t).run P w= .ok (match d with| .struct _| .array _ _=>true|_=>false) w:=by
 unfold isAgg
 rw [Sem.run_bind,run_underlying h]
 cases d<;>rfl
theorem q7.agg {t:TypeId} {τ:Ty} (h:q7 P T t τ):(isAgg t).run P w= .ok τ.Aq w:=by
 have hd:=h.desc
 cases τ<;>simp only at hd
 case int k=>rw [Re hd];rfl
 case bool=>rw [Re hd];rfl
 case str=>rw [Re hd];rfl
 case slice e=>obtain ⟨te,hd,_⟩:=hd;rw [Re hd];rfl
 case ptr e=>obtain ⟨te,hd⟩:=hd;rw [Re hd];rfl
 case oslice e=>obtain ⟨te,hd,_⟩:=hd;rw [Re hd];rfl
 case optr e=>obtain ⟨te,hd⟩:=hd;rw [Re hd];rfl
 case smap e=>obtain ⟨k,te,hd⟩:=hd;rw [Re hd];rfl
 case unit=>obtain ⟨te,hd⟩:=hd;rw [Re hd];rfl
 case pair e r=>obtain ⟨te,hd⟩:=hd;rw [Re hd];rfl
theorem q7.size {t:TypeId} {τ:Ty} (h:q7 P T t τ):(sizeOf t).run P w= .ok τ.size w:=by
 obtain ⟨i,hi,hs,_⟩:=h.info
 simp [sizeOf,typeInfo,hi,hs]
theorem Cw.Sq {S:Nat->Prop} {τ:Ty} {v:Value} {x:τ.den} (Uq:τ.Aq=false) (h:Cw w S τ v x):Cells w S τ [v] x:=by
 obtain ⟨cs,hc,rfl⟩:=h
 have hl:=Cells.len τ cs x hc
 have h1:τ.size=1:=by cases τ<;>simp_all [Ty.Aq,Ty.size]
 rw [h1] at hl
 obtain ⟨c,rfl⟩:=Dg.1 hl
 simpa [Cf,Uq] using hc
theorem Cw.oV {S:Nat->Prop} {τ:Ty} {v:Value} {x:τ.den} (Uq:τ.Aq=false) (h:Cells w S τ [v] x):Cw w S τ v x:=
 ⟨[v],h,by simp [Cf,Uq]⟩
def Um (X:Ctx) (S:Nat->Prop) (fr:Bool):Prop:=(∀k,S k->k<X.w0.heap.size/\ ¬X.gv k)/\(fr=true\/ ∀k,S k->X.Sc k)
theorem Um.jb {S:Nat->Prop} {fr:Bool} (h:Um X S fr) (k:Nat) (hk:S k):Dd X.w0.heap.size X.Sc π fr k:=by
 rcases h.2 with h2|h2
 ·exact .inr (.inr ⟨h2,(h.1 k hk).1⟩)
 ·exact .inr (.inl (h2 k hk))
theorem Um.and_left {S:Nat->Prop} {f1 f2:Bool} (h:Um X S (f1&&f2)):Um X S f1:=
 ⟨h.1,h.2.imp (λh=>by simp at h;exact h.1) id⟩
theorem Um.and_right {S:Nat->Prop} {f1 f2:Bool} (h:Um X S (f1&&f2)):Um X S f2:=
 ⟨h.1,h.2.imp (λh=>by simp at h;exact h.2) id⟩
theorem Rep.apart {S:Nat->Prop} {fr:Bool} {τ:Ty} {cs:List Value} {x:τ.den} (hS:Um X S (fr||τ.flat)) (h:Cells w (Dd X.w0.heap.size X.Sc π fr) τ cs x):Cells w S τ cs x:=by
 cases hf:τ.flat with
 |true=>exact Cells.flat τ cs x hf h
 |false=>
  rw [hf,iT] at hS
  exact Cells.Fg (Ao _) (λ_ _ _=>rfl) (λk _ hk=>hS.jb k hk) τ cs x h
theorem Um.own {S:Nat->Prop} {fr:Bool} (hS:Um X S fr) (h:Nf X w π H) {k:Nat} (hk:S k): ¬Ux π k:= λho=>by
 have h1:=hS.1 k hk
 rcases (h.own ho).2 with h2|h2
 ·omega
 ·exact h1.2 h2
theorem Od (st:St) (τ:Ty) (fr:Bool) (Oq:Ty) (x:Oq.den):Dv st τ (.data fr Oq x)=if h:Oq=τ then some (fr||τ.flat,h▸x) else jk fr τ Oq x:=by
 cases τ<;>rfl
theorem dU (st:St) (τ:Ty) (fr:Bool) (Oq:Ty) (x:Oq.den):Gc st τ (.at (.data fr Oq x))=if h:Oq=τ then some (fr||τ.flat,h▸x) else if τ.Aq then none else Jz st τ (.data fr Oq x):=rfl
theorem FR (st:St) (τ:Ty) (fr:Bool) (Oq:Ty) (x:Oq.den):Jz st τ (.data fr Oq x)=Dv st τ (.data fr Oq x):=by
 cases τ<;>rfl
theorem XE {S:Nat->Prop} {fr:Bool} {τ Oq:Ty} {x:Oq.den} {f:Bool} {y:τ.den} {v:Value} (h:jk fr τ Oq x=some (f,y)) (hc:Cw w (Dd X.w0.heap.size X.Sc π fr) Oq v x) (hS:Um X S f):
  τ.Aq=false/\f=fr/\Cells w S τ [v] y:=by
 unfold jk at h
 split at h
 ·split at h
  ·rename_i e e' _ hee
   subst hee
   simp only [Aa,Ae] at h
   obtain ⟨rfl,rfl⟩:=h
   refine ⟨rfl,rfl,?_⟩
   have h1:=Rep.apart (S:=S) (τ:= .oslice e') ⟨hS.1,hS.2.imp (λh=>by rw [h];rfl) id⟩ (Cw.Sq rfl hc)
   simp only [Cells] at h1⊢
   rcases h1 with ⟨rfl,c,h1⟩|⟨xs,ad,len,cap,rfl,h1,h2,h3,h4⟩
   ·exact ⟨none,0,c,h1,rfl,Ip _, .inl rfl⟩
   ·exact ⟨_,len,cap,h1,h2,h3,h4.imp id λ⟨g,o,ha,h4⟩=>⟨g,o,by rw [ha],h4⟩⟩
  ·cases h
 ·split at h
  ·rename_i a a' _ haa
   subst haa
   simp only [Aa,Ae] at h
   obtain ⟨rfl,rfl⟩:=h
   refine ⟨rfl,rfl,?_⟩
   have h1:=Rep.apart (S:=S) (τ:= .ptr a') ⟨hS.1,hS.2.imp (λh=>by rw [h];rfl) id⟩ (Cw.Sq rfl hc)
   simp only [Cells] at h1⊢
   obtain ⟨g,o,h2⟩:=h1
   exact .inr ⟨_,g,o,rfl,h2⟩
  ·cases h
 ·cases h
theorem xu {st:St} (h:Nf X w π st.heap) {S:Nat->Prop} (τ:Ty) (c:AC) (v:Value) (fr:Bool) (x:τ.den) (Uq:τ.Aq=false) (hc:Hk X w π st.heap c v)
  (hv:Dv st τ c=some (fr,x)) (hS:Um X S fr):Cells w S τ [v] x:=by
 cases c with
 |data Ww Oq y=>
  rw [Od] at hv
  split at hv
  ·rename_i ht;subst ht
   simp only [Aa,Ae] at hv
   obtain ⟨rfl,rfl⟩:=hv
   exact Rep.apart hS (Cw.Sq Uq hc)
  ·exact (XE hv hc hS).2.2
 |Lm=>
  cases τ with
  |slice e=>
   simp only [Dv,Aa,Ae] at hv
   obtain ⟨_,rfl⟩:=hv
   exact ⟨none,0,0,by rw [show v=_ from hc],rfl,Ao _, .inl rfl⟩
  |oslice e=>
   simp only [Dv,Aa,Ae] at hv
   obtain ⟨_,rfl⟩:=hv
   exact .inl ⟨rfl,0,by rw [show v=_ from hc]⟩
  |_=>simp [Dv] at hv
 |Vo=>
  cases τ with
  |optr e=>
   simp only [Dv,Aa,Ae] at hv
   obtain ⟨_,rfl⟩:=hv
   exact .inl ⟨rfl,by rw [show v=_ from hc]⟩
  |_=>simp [Dv] at hv
 |own l off len=>
  cases τ with
  |slice e=>
   simp only [Dv] at hv
   split at hv
   ·rename_i Ww tr' e' tid xs hl
    split at hv
    ·rename_i he;subst he
     simp only [Aa,Ae] at hv
     obtain ⟨rfl,rfl⟩:=hv
     obtain ⟨h2,h3⟩:=Oy hc hl
     exact qL h hl h2 h3 (λk hk ⟨r,hr,QB⟩=>hS.own h hk ⟨l,r,hr,QB⟩) (λk _ hk=>hS.jb k hk)
    ·cases hv
   ·rename_i e' tid xs hl
    split at hv
    ·rename_i he;subst he
     simp only [Aa,Ae] at hv
     obtain ⟨rfl,rfl⟩:=hv
     obtain ⟨h2,h3⟩:=cN hc hl
     exact nN h hl h2 h3 (λk hk ⟨r,hr,QB⟩=>hS.own h hk ⟨l,r,hr,QB⟩)
    ·cases hv
   ·rename_i e' tid rows kp hl
    split at hv
    ·rename_i he;subst he
     simp only [Aa,Ae] at hv
     obtain ⟨rfl,rfl⟩:=hv
     obtain ⟨h2,h3⟩:=pf hc hl
     exact vo h hl h2 h3 (λk hk ⟨r,hr,QB⟩=>hS.own h hk ⟨l,r,hr,QB⟩) (λk hk=>hS.jb k hk)
    ·cases hv
   ·cases hv
  |_=>simp [Dv] at hv
 |sub l i c=>
  cases τ with
  |slice e=>
   simp only [Dv] at hv
   split at hv
   ·rename_i e' tid rows kp hl
    split at hv
    ·rename_i he;subst he
     simp only [Aa,Ae] at hv
     obtain ⟨rfl,rfl⟩:=hv
     exact vq h hl (ID hc hl) hc (λk hk ⟨r,hr,QB⟩=>hS.own h hk ⟨l,r,hr,QB⟩) (λk hk=>hS.jb k hk)
    ·cases hv
   ·cases hv
  |_=>simp [Dv] at hv
 |Kr l=>
  cases τ with
  |smap vt=>
   simp only [Dv] at hv
   split at hv
   ·rename_i v' m hl
    split at hv
    ·rename_i he;subst he
     simp only [Aa,Ae] at hv
     obtain ⟨_,rfl⟩:=hv
     obtain ⟨r,vt,m',h1,h2,rfl⟩:=hc
     exact AN ((h.heap l).Qs hl) (by rw [h2];rfl) λhs=>hS.own h hs ⟨l,r,h2,h.Cx h2⟩
    ·cases hv
   ·cases hv
  |_=>simp [Dv] at hv
 |_=>cases τ<;>simp [Dv] at hv
theorem Uu {st:St} {τ:Ty} (Uq:τ.Aq=false) (cs:List AC):Ff st τ cs=match cs with| [c]=>Dv st τ c|_=>none:=by
 cases τ<;>simp [Ty.Aq] at Uq<;>rcases cs with _|⟨c,_|⟨d,r⟩⟩<;>rfl
theorem mG {st:St} (h:Nf X w π st.heap) {S:Nat->Prop} : ∀(τ:Ty) (cs:List AC) (us:List Value) (fr:Bool) (x:τ.den),Fv X w π st.heap cs us->
  Ff st τ cs=some (fr,x)->Um X S fr->Cells w S τ us x:=by
 have one: ∀(τ:Ty) (cs:List AC) (us:List Value) (fr:Bool) (x:τ.den),τ.Aq=false->Fv X w π st.heap cs us->
   Ff st τ cs=some (fr,x)->Um X S fr->Cells w S τ us x:=by
  intro τ cs us fr x Uq hr hv hS
  rw [Uu Uq] at hv
  split at hv
  ·rename_i c
   obtain ⟨u,hu,_,hc⟩:=hr.2 0 c rfl
   have hl:us.length=1:=hr.1
   obtain ⟨u',rfl⟩:=Dg.1 hl
   simp at hu;subst hu
   exact xu h τ c _ fr x Uq hc hv hS
  ·cases hv
 intro τ
 induction τ with
 |unit=>
  intro cs us fr x hr hv hS
  cases cs with
  |nil=>have:us= []:=Cn hr.1;exact this
  |cons c cs=>simp [Ff] at hv
 |pair a r iX iR=>
  intro cs us fr x hr hv hS
  simp only [Ff] at hv
  split at hv
  ·rename_i f1 y f2 z h1 h2
   simp only [Aa,Ae] at hv
   obtain ⟨rfl,rfl⟩:=hv
   have XY:Fv X w π st.heap (cs.take a.size) (us.take a.size):=
    ⟨by simp [hr.1],λi c hc=>by
     rw [Da] at hc⊢
     split at hc
     ·rename_i hi;simp only [hi,Pv];exact hr.2 i c hc
     ·cases hc⟩
   have hr2:Fv X w π st.heap (cs.drop a.size) (us.drop a.size):=
    ⟨by simp [hr.1],λi c hc=>by
     rw [Cz] at hc⊢
     exact hr.2 _ c hc⟩
   exact ⟨us.take a.size,us.drop a.size,(Io _ _).symm,iX _ _ _ _ XY h1 hS.and_left,iR _ _ _ _ hr2 h2 hS.and_right⟩
  ·cases hv
 |_=>exact λcs us fr x hr hv hS=>one _ cs us fr x rfl hr hv hS
theorem aL {cs:List AC} {us:List Value} (h:Fv X w π H cs us) (i n:Nat):Fv X w π H ((cs.drop i).take n) ((us.drop i).take n):=
 ⟨by simp [h.1],λj c hc=>by
  rw [Da] at hc⊢
  split at hc
  ·rename_i hi
   simp only [hi,Pv]
   rw [Cz] at hc⊢
   exact h.2 _ c hc
  ·cases hc⟩
theorem kQ {st:St} (h:Nf X w π st.heap) {S:Nat->Prop} {a:Ty} {l i:Nat} {fr:Bool} {x:a.den} (hv:Vh st a l i=some (fr,x)) (hS:Um X S fr) {r:Real} (hr:π l=some r):
  r.g<w.heap.size/\ ¬S r.g/\ ∃es:List Value,es.length=a.size/\(∀j u,es[j]?=some u->w.cell? ⟨r.g,i+j,none⟩=some u)/\Cells w S a es x:=by
 unfold Vh at hv
 split at hv
 ·rename_i tid vs hl
  obtain ⟨r',h3,h4,cur,h5,h6⟩:=(h.heap l).Qs hl
  rw [hr] at h3;cases h3
  have hc:=mG h a _ _ fr x (aL h6 i a.size) hv hS
  refine ⟨Fw h5,λhs=>hS.own h hs ⟨l,r,hr,h4⟩,_,Cells.len a _ x hc,λj u hu=>?_,hc⟩
  rw [cellOf h5]
  rw [Da] at hu
  split at hu
  ·rw [Cz] at hu;simpa using hu
  ·cases hu
 ·cases hv
theorem FQ {st:St} (h:Nf X w π st.heap) {S:Nat->Prop} : ∀(τ:Ty) (Eg:List (Nat×Nat)) (us:List Value) (fr:Bool) (x:τ.den),us.length=Eg.length->
  (∀(j:Nat) p,Eg[j]?=some p-> ∃r tid vs,Au st.heap p.1=some (.var tid vs)/\π p.1=some r/\us[j]?=some (.pointer (some ⟨r.g,p.2,none⟩)))->
  Le st τ Eg=some (fr,x)->Um X S fr->Cells w S τ us x:=by
 intro τ
 induction τ with
 |unit=>
  intro Eg us fr x hl hr hv hS
  cases Eg with
  |nil=>exact Cn hl
  |cons c cs=>simp [Le] at hv
 |pair a r _ iR=>
  intro Eg us fr x hl hr hv hS
  cases a with
  |ptr a=>
   cases Eg with
   |nil=>simp [Le] at hv
   |cons c cs=>
    obtain ⟨l,i⟩:=c
    simp only [Le] at hv
    split at hv
    ·rename_i f1 y f2 z h1 h2
     simp only [Aa,Ae] at hv
     obtain ⟨rfl,rfl⟩:=hv
     cases us with
     |nil=>simp at hl
     |cons u us=>
      obtain ⟨r0,tid,vs,h3,h4,h5⟩:=hr 0 (l,i) rfl
      simp only [Ca,Aa] at h5
      subst h5
      obtain ⟨h6,h7,es,h8,h9,pW⟩:=kQ h h1 hS.and_left h4
      exact ⟨[_],us,rfl,⟨r0.g,i,rfl,h6,h7,es,h8,h9,pW⟩,iR cs us f2 z (by simpa using hl) (λj p hp=>hr (j+1) p hp) h2 hS.and_right⟩
    ·cases hv
  |_=>cases Eg<;>simp [Le] at hv
 |_=>intro Eg us fr x hl hr hv;cases Eg<;>simp [Le] at hv
theorem NB {st:St} (h:Nf X w π st.heap) {S:Nat->Prop} (τ:Ty) (c:AC) (v:Value) (fr:Bool) (x:τ.den) (Uq:τ.Aq=false) (hc:Hk X w π st.heap c v)
  (hv:Jz st τ c=some (fr,x)) (hS:Um X S fr):Cells w S τ [v] x:=by
 have Oj:Dv st τ c=some (fr,x)->Cells w S τ [v] x:= λhv=>xu h τ c v fr x Uq hc hv hS
 cases τ with
 |ptr a=>
  cases c with
  |Gy l i=>
   obtain ⟨r,tid,vs,h1,h2,rfl⟩:=hc
   obtain ⟨h6,h7,h8⟩:=kQ h hv hS h2
   exact ⟨r.g,i,rfl,h6,h7,h8⟩
  |_=>exact Oj hv
 |optr a=>
  cases c with
  |Gy l i=>
   obtain ⟨r,tid,vs,h1,h2,rfl⟩:=hc
   simp only [Jz] at hv
   cases hp:Vh st a l i with
   |none=>rw [hp] at hv;cases hv
   |some p=>
    rw [hp] at hv
    simp only [Am,Aa,Ae] at hv
    obtain ⟨rfl,rfl⟩:=hv
    obtain ⟨h6,h7,h8⟩:=kQ h hp hS h2
    exact .inr ⟨_,r.g,i,rfl,rfl,h6,h7,h8⟩
  |_=>exact Oj hv
 |clo f a=>
  cases c with
  |clo g Eg=>
   simp only [Jz] at hv
   split at hv
   ·rename_i hg
    obtain ⟨rfl,Iz⟩:=hg
    obtain ⟨us,rfl,h2,h3⟩:=hc
    exact ⟨us,by rw [jg Iz],FQ h a Eg us fr x h2 h3 hv hS⟩
   ·cases hv
  |_=>exact Oj hv
 |_=>exact Oj hv
theorem Zw {st:St} (h:Nf X w π st.heap) {S:Nat->Prop} (τ:Ty) (c:AV) (v:Value) (fr:Bool) (x:τ.den) (hc:Bs X w π st.heap c v)
  (hv:Gc st τ c=some (fr,x)) (hS:Um X S fr):Cw w S τ v x:=by
 have Oj: ∀c:AC,Hk X w π st.heap c v->(if τ.Aq then none else Jz st τ c)=some (fr,x)->Cw w S τ v x:=by
  intro c hc hv
  split at hv
  ·cases hv
  ·rename_i Uq
   simp only [Ir] at Uq
   exact Cw.oV Uq (NB h τ c v fr x Uq hc hv hS)
 cases c with
 | «at»c=>
  cases c with
  |data Ww Oq y=>
   rw [dU] at hv
   split at hv
   ·rename_i ht;subst ht
    simp only [Aa,Ae] at hv
    obtain ⟨rfl,rfl⟩:=hv
    obtain ⟨cs,h1,h2⟩:=hc
    exact ⟨cs,Rep.apart hS h1,h2⟩
   ·exact Oj (.data Ww Oq y) hc hv
  |undef=>exact Oj .undef hc hv
  |skip=>exact Oj .skip hc hv
  |Lm=>exact Oj .Lm hc hv
  |Vo=>exact Oj .Vo hc hv
  |own l off len=>exact Oj (.own l off len) hc hv
  |Gy l i=>exact Oj (.Gy l i) hc hv
  |Kh l i=>exact Oj (.Kh l i) hc hv
  |clo f Eg=>exact Oj (.clo f Eg) hc hv
  |Kr l=>exact Oj (.Kr l) hc hv
  |sub l i c=>exact Oj (.sub l i c) hc hv
  |Kd l i c=>exact Oj (.Kd l i c) hc hv
 |agg cs=>
  simp only [Gc] at hv
  split at hv
  ·rename_i Uq
   obtain ⟨us,rfl,hr⟩:=hc
   exact ⟨us,mG h τ cs us fr x hr hv hS,by simp [Cf,Uq]⟩
  ·cases hv
 |cf Ww Oq y=>simp [Gc] at hv
 |Mn l=>simp [Gc] at hv
theorem bR {st:St} (h:Nf X w π st.heap) {S:Nat->Prop} : ∀(τ:Ty) (cs:List AV) (vs:List Value) (fr:Bool) (x:τ.den),cs.length=vs.length->
  (∀(i:Nat) c v,cs[i]?=some c->vs[i]?=some v->Bs X w π st.heap c v)->Eb st τ cs=some (fr,x)->Um X S fr->Cy w S τ vs x
 | .unit,[],vs,fr,x,hl,hr,hv,hS=>by
  have:vs= []:=Cn hl.symm
  subst this;trivial
 | .unit,_::_,vs,fr,x,hl,hr,hv,hS=>by simp [Eb] at hv
 | .pair a r,[],vs,fr,x,hl,hr,hv,hS=>by simp [Eb] at hv
 | .pair a r,c::cs,[],fr,x,hl,hr,hv,hS=>by simp at hl
 | .pair a r,c::cs,v::vs,fr,x,hl,hr,hv,hS=>by
  simp only [Eb] at hv
  split at hv
  ·rename_i f1 y f2 z h1 h2
   simp only [Aa,Ae] at hv
   obtain ⟨rfl,rfl⟩:=hv
   exact ⟨Zw h a c v f1 y (hr 0 c v rfl rfl) h1 hS.and_left,bR h r cs vs f2 z (by simpa using hl) (λi c' v' hc xS=>hr (i+1) c' v' hc xS) h2 hS.and_right⟩
  ·cases hv
 | .int _,cs,vs,fr,x,hl,hr,hv,hS=>by cases cs<;>simp [Eb] at hv
 | .bool,cs,vs,fr,x,hl,hr,hv,hS=>by cases cs<;>simp [Eb] at hv
 | .str,cs,vs,fr,x,hl,hr,hv,hS=>by cases cs<;>simp [Eb] at hv
 | .slice _,cs,vs,fr,x,hl,hr,hv,hS=>by cases cs<;>simp [Eb] at hv
 | .ptr _,cs,vs,fr,x,hl,hr,hv,hS=>by cases cs<;>simp [Eb] at hv
 | .oslice _,cs,vs,fr,x,hl,hr,hv,hS=>by cases cs<;>simp [Eb] at hv
 | .optr _,cs,vs,fr,x,hl,hr,hv,hS=>by cases cs<;>simp [Eb] at hv
 | .smap _,cs,vs,fr,x,hl,hr,hv,hS=>by cases cs<;>simp [Eb] at hv
 | .clo _ _,cs,vs,fr,x,hl,hr,hv,hS=>by cases cs<;>simp [Eb] at hv
end
end Go.Proofs.YtfgfigkbgecfnaaGreat
