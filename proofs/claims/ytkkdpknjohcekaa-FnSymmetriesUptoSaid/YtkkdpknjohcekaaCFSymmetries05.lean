/-
  Part 6 of the proof that the statement FnSymmetries holds.
-/
import Derived.Test.YtkkdpknjohcekaaCFSymmetries04
import Derived.WalkKit
import Derived.Laws.Slices
namespace Go.Proofs.Ytkkdpknjohcekaa
open Go.RowKit
def Bi:Ty->List Value
 | .int k=> [.int k 0]
 | .bool=> [.bool false]
 | .str=> [.string ByteArray.empty]
 | .slice _=> [.slice none 0 0]
 | .oslice _=> [.slice none 0 0]
 | .ptr _=> [.pointer none]
 | .optr _=> [.pointer none]
 | .smap _=> [.map none]
 | .clo _ _=> [.nilFunc]
 | .unit=> []
 | .pair a r=>Bi a++Bi r
structure pd (P:Program) (T:Tab) (t:TypeId) (τ:Ty):Prop where
 info: ∃i:TypeInfo,P.info? t=some i/\i.size=τ.size/\i.bytes<=256/\i.zero=some (Bs τ (Bi τ))
 desc:match τ with
  | .int k=>P.underlying t=some (.int k)
  | .bool=>P.underlying t=some .bool
  | .str=>P.underlying t=some .string
  | .slice e=> ∃te,P.underlying t=some (.slice te)/\T.elem t=some te/\T.ty te=some e
  | .oslice e=> ∃te,P.underlying t=some (.slice te)/\T.elem t=some te/\T.ty te=some e
  | .ptr _=> ∃u,P.underlying t=some (.pointer u)
  | .optr _=> ∃u,P.underlying t=some (.pointer u)
  | .smap _=> ∃k e,P.underlying t=some (.map k e)
  | .clo _ _=>False
  | .unit| .pair _ _=> ∃fs,P.underlying t=some (.struct fs)
def placesOf (fs:Array Field):Sem (Array (Nat×Nat)):=fs.mapM λf=>do pure (f.offset,<-sizeOf f.type)
structure Du (P:Program) (T:Tab):Prop where
 fill: ∀t τ,T.ty t=some τ->τ.Ap=true-> ∃(fs:Array Field) (Qg:Array (Nat×Nat)),P.underlying t=some (.struct fs)/\(∀w,(placesOf fs).run P w= .ok Qg w)/\
  ∀f o u ρ,T.off t f=some (o,u)->T.ty u=some ρ->Qg[f]?=some (o,ρ.size)
 ty: ∀t τ,T.ty t=some τ->pd P T t τ
 elem: ∀t te,T.elem t=some te->P.underlying t=some (.slice te)
 mapOf: ∀t v,T.mapOf t=some v-> ∃k e,P.underlying t=some (.map k e)/\P.underlying k=some .string/\T.ty e=some v/\v.flat=true/\v.Ap=false
 off: ∀s f o t,T.off s f=some (o,t)-> ∃(fs:Array Field) (fd:Field),P.underlying s=some (.struct fs)/\fs[f]?=some fd/\fd.offset=o/\fd.type=t/\ ∃i:TypeInfo,P.info? t=some i/\i.size≠0
section
variable {P:Program} {T:Tab} {X:Ctx} {w w':World} {π:Pi} {H:List (Nat×OB)}
theorem Qc {t:TypeId} {d:TypeDesc} (h:P.underlying t=some d):(isAgg t).run P w= .ok (match d with| .struct _| .array _ _=>true|_=>false) w:=by
 unfold isAgg
 rw [Sem.run_bind,run_underlying h]
 cases d<;>rfl
theorem pd.agg {t:TypeId} {τ:Ty} (h:pd P T t τ):(isAgg t).run P w= .ok τ.Ap w:=by
 have hd:=h.desc
 cases τ<;>simp only at hd
 case int k=>rw [Qc hd];rfl
 case bool=>rw [Qc hd];rfl
 case str=>rw [Qc hd];rfl
 case slice e=>obtain ⟨te,hd,_⟩:=hd;rw [Qc hd];rfl
 case ptr e=>obtain ⟨te,hd⟩:=hd;rw [Qc hd];rfl
 case oslice e=>obtain ⟨te,hd,_⟩:=hd;rw [Qc hd];rfl
 case optr e=>obtain ⟨te,hd⟩:=hd;rw [Qc hd];rfl
 case smap e=>obtain ⟨k,te,hd⟩:=hd;rw [Qc hd];rfl
 case unit=>obtain ⟨te,hd⟩:=hd;rw [Qc hd];rfl
 case pair e r=>obtain ⟨te,hd⟩:=hd;rw [Qc hd];rfl
theorem pd.size {t:TypeId} {τ:Ty} (h:pd P T t τ):(sizeOf t).run P w= .ok τ.size w:=by
 obtain ⟨i,hi,hs,_⟩:=h.info
 simp [sizeOf,typeInfo,hi,hs]
theorem Cz.Rc {S:Nat->Prop} {τ:Ty} {v:Value} {x:τ.den} (Sq:τ.Ap=false) (h:Cz w S τ v x):Cells w S τ [v] x:=by
 obtain ⟨cs,hc,rfl⟩:=h
 have hl:=Cells.len τ cs x hc
 have h1:τ.size=1:=by cases τ<;>simp_all [Ty.Ap,Ty.size]
 rw [h1] at hl
 obtain ⟨c,rfl⟩:=Dy.1 hl
 simpa [Bs,Sq] using hc
theorem Cz.ly {S:Nat->Prop} {τ:Ty} {v:Value} {x:τ.den} (Sq:τ.Ap=false) (h:Cells w S τ [v] x):Cz w S τ v x:=
 ⟨[v],h,by simp [Bs,Sq]⟩
def Qh (X:Ctx) (S:Nat->Prop) (fr:Bool):Prop:=(∀k,S k->k<X.w0.heap.size/\ ¬X.gv k)/\(fr=true\/ ∀k,S k->X.Sc k)
theorem Qh.fk {S:Nat->Prop} {fr:Bool} (h:Qh X S fr) (k:Nat) (hk:S k):Cr X.w0.heap.size X.Sc π fr k:=by
 rcases h.2 with h2|h2
 ·exact .inr (.inr ⟨h2,(h.1 k hk).1⟩)
 ·exact .inr (.inl (h2 k hk))
theorem Qh.and_left {S:Nat->Prop} {f1 f2:Bool} (h:Qh X S (f1&&f2)):Qh X S f1:=
 ⟨h.1,h.2.imp (λh=>by simp at h;exact h.1) id⟩
theorem Qh.and_right {S:Nat->Prop} {f1 f2:Bool} (h:Qh X S (f1&&f2)):Qh X S f2:=
 ⟨h.1,h.2.imp (λh=>by simp at h;exact h.2) id⟩
theorem Rep.apart {S:Nat->Prop} {fr:Bool} {τ:Ty} {cs:List Value} {x:τ.den} (hS:Qh X S (fr||τ.flat)) (h:Cells w (Cr X.w0.heap.size X.Sc π fr) τ cs x):Cells w S τ cs x:=by
 cases hf:τ.flat with
 |true=>exact Cells.flat τ cs x hf h
 |false=>
  rw [hf,eW] at hS
  exact Cells.Fw (Ar _) (λ_ _ _=>rfl) (λk _ hk=>hS.fk k hk) τ cs x h
theorem Qh.own {S:Nat->Prop} {fr:Bool} (hS:Qh X S fr) (h:Mm X w π H) {k:Nat} (hk:S k): ¬Un π k:= λho=>by
 have h1:=hS.1 k hk
 rcases (h.own ho).2 with h2|h2
 ·omega
 ·exact h1.2 h2
theorem Qh.mono {S:Nat->Prop} {f1 f2:Bool} (h:Qh X S f1) (hf:f1=true->f2=true):Qh X S f2:=⟨h.1,h.2.imp hf id⟩
theorem Ng (st:St) (τ:Ty) (fr:Bool) (Nr:Ty) (x:Nr.den):Dm st τ (.data fr Nr x)=if h:Nr=τ then some (fr||τ.flat,h▸x) else fC fr τ Nr x:=by
 cases τ<;>rfl
theorem bH (st:St) (τ:Ty) (fr:Bool) (Nr:Ty) (x:Nr.den):Ez st τ (.at (.data fr Nr x))=if h:Nr=τ then some (fr||τ.flat,h▸x) else if τ.Ap then none else Jk st τ (.data fr Nr x):=rfl
theorem xm (st:St) (τ:Ty) (fr:Bool) (Nr:Ty) (x:Nr.den):Jk st τ (.data fr Nr x)=Dm st τ (.data fr Nr x):=by
 cases τ<;>rfl
theorem IH {S:Nat->Prop} {fr:Bool} {τ Nr:Ty} {x:Nr.den} {f:Bool} {y:τ.den} {v:Value} (h:fC fr τ Nr x=some (f,y)) (hc:Cz w (Cr X.w0.heap.size X.Sc π fr) Nr v x) (hS:Qh X S f):
  τ.Ap=false/\f=fr/\Cells w S τ [v] y:=by
 unfold fC at h
 split at h
 ·split at h
  ·rename_i e e' _ OE
   subst OE
   simp only [Aa,Ad] at h
   obtain ⟨rfl,rfl⟩:=h
   refine ⟨rfl,rfl,?_⟩
   have h1:=Rep.apart (S:=S) (τ:= .oslice e') ⟨hS.1,hS.2.imp (λh=>by rw [h];rfl) id⟩ (Cz.Rc rfl hc)
   simp only [Cells] at h1⊢
   rcases h1 with ⟨rfl,c,h1⟩|⟨xs,ad,len,cap,rfl,h1,h2,h3,h4⟩
   ·exact ⟨none,0,c,h1,rfl,Ni _, .inl rfl⟩
   ·exact ⟨_,len,cap,h1,h2,h3,h4.imp id λ⟨g,o,ha,h4⟩=>⟨g,o,by rw [ha],h4⟩⟩
  ·cases h
 ·split at h
  ·rename_i a a' _ haa
   subst haa
   simp only [Aa,Ad] at h
   obtain ⟨rfl,rfl⟩:=h
   refine ⟨rfl,rfl,?_⟩
   have h1:=Rep.apart (S:=S) (τ:= .ptr a') ⟨hS.1,hS.2.imp (λh=>by rw [h];rfl) id⟩ (Cz.Rc rfl hc)
   simp only [Cells] at h1⊢
   obtain ⟨g,o,h2⟩:=h1
   exact .inr ⟨_,g,o,rfl,h2⟩
  ·cases h
 ·cases h
theorem rC {st:St} (h:Mm X w π st.heap) {S:Nat->Prop} (τ:Ty) (c:AC) (v:Value) (fr:Bool) (x:τ.den) (Sq:τ.Ap=false) (hc:Gy X w π st.heap c v)
  (hv:Dm st τ c=some (fr,x)) (hS:Qh X S fr):Cells w S τ [v] x:=by
 cases c with
 |data Uz Nr y=>
  rw [Ng] at hv
  split at hv
  ·rename_i ht;subst ht
   simp only [Aa,Ad] at hv
   obtain ⟨rfl,rfl⟩:=hv
   exact Rep.apart hS (Cz.Rc Sq hc)
  ·exact (IH hv hc hS).2.2
 |Lo=>
  cases τ with
  |slice e=>
   simp only [Dm,Aa,Ad] at hv
   obtain ⟨_,rfl⟩:=hv
   exact ⟨none,0,0,by rw [show v=_ from hc],rfl,Ar _, .inl rfl⟩
  |oslice e=>
   simp only [Dm,Aa,Ad] at hv
   obtain ⟨_,rfl⟩:=hv
   exact .inl ⟨rfl,0,by rw [show v=_ from hc]⟩
  |_=>simp [Dm] at hv
 |Uk=>
  cases τ with
  |optr e=>
   simp only [Dm,Aa,Ad] at hv
   obtain ⟨_,rfl⟩:=hv
   exact .inl ⟨rfl,by rw [show v=_ from hc]⟩
  |_=>simp [Dm] at hv
 |own l off len=>
  cases τ with
  |slice e=>
   simp only [Dm] at hv
   split at hv
   ·rename_i Uz RW e' tid xs hl
    split at hv
    ·rename_i he;subst he
     simp only [Aa,Ad] at hv
     obtain ⟨rfl,rfl⟩:=hv
     obtain ⟨h2,h3⟩:=Nx hc hl
     exact mN h hl h2 h3 (λk hk ⟨r,hr,CO⟩=>hS.own h hk ⟨l,r,hr,CO⟩) (λk _ hk=>hS.fk k hk)
    ·cases hv
   ·rename_i e' tid xs hl
    split at hv
    ·rename_i he;subst he
     simp only [Aa,Ad] at hv
     obtain ⟨rfl,rfl⟩:=hv
     obtain ⟨h2,h3⟩:=aM hc hl
     exact kl h hl h2 h3 (λk hk ⟨r,hr,CO⟩=>hS.own h hk ⟨l,r,hr,CO⟩)
    ·cases hv
   ·rename_i e' tid rows kp hl
    split at hv
    ·rename_i he;subst he
     simp only [Aa,Ad] at hv
     obtain ⟨rfl,rfl⟩:=hv
     obtain ⟨h2,h3⟩:=lH hc hl
     exact pO h hl h2 h3 (λk hk ⟨r,hr,CO⟩=>hS.own h hk ⟨l,r,hr,CO⟩) (λk hk=>hS.fk k hk)
    ·cases hv
   ·cases hv
  |_=>simp [Dm] at hv
 |sub l i c=>
  cases τ with
  |slice e=>
   simp only [Dm] at hv
   split at hv
   ·rename_i e' tid rows kp hl
    split at hv
    ·rename_i he;subst he
     simp only [Aa,Ad] at hv
     obtain ⟨rfl,rfl⟩:=hv
     exact pP h hl (yz hc hl) hc (λk hk ⟨r,hr,CO⟩=>hS.own h hk ⟨l,r,hr,CO⟩) (λk hk=>hS.fk k hk)
    ·cases hv
   ·cases hv
  |_=>simp [Dm] at hv
 |Ka l=>
  cases τ with
  |smap vt=>
   simp only [Dm] at hv
   split at hv
   ·rename_i v' m hl
    split at hv
    ·rename_i he;subst he
     simp only [Aa,Ad] at hv
     obtain ⟨_,rfl⟩:=hv
     obtain ⟨r,vt,m',h1,h2,rfl⟩:=hc
     exact ux ((h.heap l).Qq hl) (by rw [h2];rfl) λhs=>hS.own h hs ⟨l,r,h2,h.Cm h2⟩
    ·cases hv
   ·cases hv
  |_=>simp [Dm] at hv
 |_=>cases τ<;>simp [Dm] at hv
theorem Sz {st:St} {τ:Ty} (Sq:τ.Ap=false) (cs:List AC):Eo st τ cs=match cs with| [c]=>Dm st τ c|_=>none:=by
 cases τ<;>simp [Ty.Ap] at Sq<;>rcases cs with _|⟨c,_|⟨d,r⟩⟩<;>rfl
theorem ji {st:St} (h:Mm X w π st.heap) {S:Nat->Prop} : ∀(τ:Ty) (cs:List AC) (us:List Value) (fr:Bool) (x:τ.den),Fc X w π st.heap cs us->
  Eo st τ cs=some (fr,x)->Qh X S fr->Cells w S τ us x:=by
 have one: ∀(τ:Ty) (cs:List AC) (us:List Value) (fr:Bool) (x:τ.den),τ.Ap=false->Fc X w π st.heap cs us->
   Eo st τ cs=some (fr,x)->Qh X S fr->Cells w S τ us x:=by
  intro τ cs us fr x Sq hr hv hS
  rw [Sz Sq] at hv
  split at hv
  ·rename_i c
   obtain ⟨u,hu,_,hc⟩:=hr.2 0 c rfl
   have hl:us.length=1:=hr.1
   obtain ⟨u',rfl⟩:=Dy.1 hl
   simp at hu;subst hu
   exact rC h τ c _ fr x Sq hc hv hS
  ·cases hv
 intro τ
 induction τ with
 |unit=>
  intro cs us fr x hr hv hS
  cases cs with
  |nil=>have:us= []:=Dd hr.1;exact this
  |cons c cs=>simp [Eo] at hv
 |pair a r eZ eV=>
  intro cs us fr x hr hv hS
  simp only [Eo] at hv
  split at hv
  ·rename_i f1 y f2 z h1 h2
   simp only [Aa,Ad] at hv
   obtain ⟨rfl,rfl⟩:=hv
   have UQ:Fc X w π st.heap (cs.take a.size) (us.take a.size):=
    ⟨by simp [hr.1],λi c hc=>by
     rw [Cn] at hc⊢
     split at hc
     ·rename_i hi;simp only [hi,Qf];exact hr.2 i c hc
     ·cases hc⟩
   have TG:Fc X w π st.heap (cs.drop a.size) (us.drop a.size):=
    ⟨by simp [hr.1],λi c hc=>by
     rw [Ci] at hc⊢
     exact hr.2 _ c hc⟩
   exact ⟨us.take a.size,us.drop a.size,(Gk _ _).symm,eZ _ _ _ _ UQ h1 hS.and_left,eV _ _ _ _ TG h2 hS.and_right⟩
  ·cases hv
 |_=>exact λcs us fr x hr hv hS=>one _ cs us fr x rfl hr hv hS
theorem Yg {cs:List AC} {us:List Value} (h:Fc X w π H cs us) (i n:Nat):Fc X w π H ((cs.drop i).take n) ((us.drop i).take n):=
 ⟨by simp [h.1],λj c hc=>by
  rw [Cn] at hc⊢
  split at hc
  ·rename_i hi
   simp only [hi,Qf]
   rw [Ci] at hc⊢
   exact h.2 _ c hc
  ·cases hc⟩
theorem gO {st:St} (h:Mm X w π st.heap) {S:Nat->Prop} {a:Ty} {l i:Nat} {fr:Bool} {x:a.den} (hv:Tl st a l i=some (fr,x)) (hS:Qh X S fr) {r:Real} (hr:π l=some r):
  r.g<w.heap.size/\ ¬S r.g/\ ∃es:List Value,es.length=a.size/\(∀j u,es[j]?=some u->w.cell? ⟨r.g,i+j,none⟩=some u)/\Cells w S a es x:=by
 unfold Tl at hv
 split at hv
 ·rename_i tid vs hl
  obtain ⟨r',h3,h4,cur,h5,h6⟩:=(h.heap l).Qq hl
  rw [hr] at h3;cases h3
  have hc:=ji h a _ _ fr x (Yg h6 i a.size) hv hS
  refine ⟨Fm h5,λhs=>hS.own h hs ⟨l,r,hr,h4⟩,_,Cells.len a _ x hc,λj u hu=>?_,hc⟩
  rw [cellOf h5]
  rw [Cn] at hu
  split at hu
  ·rw [Ci] at hu;simpa using hu
  ·cases hu
 ·cases hv
theorem xl {st:St} (h:Mm X w π st.heap) {S:Nat->Prop} : ∀(τ:Ty) (Eb:List (Nat×Nat)) (us:List Value) (fr:Bool) (x:τ.den),us.length=Eb.length->
  (∀(j:Nat) p,Eb[j]?=some p-> ∃r tid vs,As st.heap p.1=some (.var tid vs)/\π p.1=some r/\us[j]?=some (.pointer (some ⟨r.g,p.2,none⟩)))->
  Kt st τ Eb=some (fr,x)->Qh X S fr->Cells w S τ us x:=by
 intro τ
 induction τ with
 |unit=>
  intro Eb us fr x hl hr hv hS
  cases Eb with
  |nil=>exact Dd hl
  |cons c cs=>simp [Kt] at hv
 |pair a r _ eV=>
  intro Eb us fr x hl hr hv hS
  cases a with
  |ptr a=>
   cases Eb with
   |nil=>simp [Kt] at hv
   |cons c cs=>
    obtain ⟨l,i⟩:=c
    simp only [Kt] at hv
    split at hv
    ·rename_i f1 y f2 z h1 h2
     simp only [Aa,Ad] at hv
     obtain ⟨rfl,rfl⟩:=hv
     cases us with
     |nil=>simp at hl
     |cons u us=>
      obtain ⟨r0,tid,vs,h3,h4,h5⟩:=hr 0 (l,i) rfl
      simp only [Bl,Aa] at h5
      subst h5
      obtain ⟨h6,h7,es,h8,h9,oQ⟩:=gO h h1 hS.and_left h4
      exact ⟨[_],us,rfl,⟨r0.g,i,rfl,h6,h7,es,h8,h9,oQ⟩,eV cs us f2 z (by simpa using hl) (λj p hp=>hr (j+1) p hp) h2 hS.and_right⟩
    ·cases hv
  |_=>cases Eb<;>simp [Kt] at hv
 |_=>intro Eb us fr x hl hr hv;cases Eb<;>simp [Kt] at hv
theorem AH {st:St} (h:Mm X w π st.heap) {S:Nat->Prop} (τ:Ty) (c:AC) (v:Value) (fr:Bool) (x:τ.den) (Sq:τ.Ap=false) (hc:Gy X w π st.heap c v)
  (hv:Jk st τ c=some (fr,x)) (hS:Qh X S fr):Cells w S τ [v] x:=by
 have Nn:Dm st τ c=some (fr,x)->Cells w S τ [v] x:= λhv=>rC h τ c v fr x Sq hc hv hS
 cases τ with
 |ptr a=>
  cases c with
  |Gr l i=>
   obtain ⟨r,tid,vs,h1,h2,rfl⟩:=hc
   obtain ⟨h6,h7,h8⟩:=gO h hv hS h2
   exact ⟨r.g,i,rfl,h6,h7,h8⟩
  |_=>exact Nn hv
 |optr a=>
  cases c with
  |Gr l i=>
   obtain ⟨r,tid,vs,h1,h2,rfl⟩:=hc
   simp only [Jk] at hv
   cases hp:Tl st a l i with
   |none=>rw [hp] at hv;cases hv
   |some p=>
    rw [hp] at hv
    simp only [Ah,Aa,Ad] at hv
    obtain ⟨rfl,rfl⟩:=hv
    obtain ⟨h6,h7,h8⟩:=gO h hp hS h2
    exact .inr ⟨_,r.g,i,rfl,rfl,h6,h7,h8⟩
  |_=>exact Nn hv
 |clo f a=>
  cases c with
  |clo g Eb=>
   simp only [Jk] at hv
   split at hv
   ·rename_i hg
    obtain ⟨rfl,Jx⟩:=hg
    obtain ⟨us,rfl,h2,h3⟩:=hc
    exact ⟨us,by rw [fw Jx],xl h a Eb us fr x h2 h3 hv hS⟩
   ·cases hv
  |_=>exact Nn hv
 |_=>exact Nn hv
theorem Xe {st:St} (h:Mm X w π st.heap) {S:Nat->Prop} (τ:Ty) (c:AV) (v:Value) (fr:Bool) (x:τ.den) (hc:Bf X w π st.heap c v)
  (hv:Ez st τ c=some (fr,x)) (hS:Qh X S fr):Cz w S τ v x:=by
 have Nn: ∀c:AC,Gy X w π st.heap c v->(if τ.Ap then none else Jk st τ c)=some (fr,x)->Cz w S τ v x:=by
  intro c hc hv
  split at hv
  ·cases hv
  ·rename_i Sq
   simp only [Gw] at Sq
   exact Cz.ly Sq (AH h τ c v fr x Sq hc hv hS)
 cases c with
 | «at»c=>
  cases c with
  |data Uz Nr y=>
   rw [bH] at hv
   split at hv
   ·rename_i ht;subst ht
    simp only [Aa,Ad] at hv
    obtain ⟨rfl,rfl⟩:=hv
    obtain ⟨cs,h1,h2⟩:=hc
    exact ⟨cs,Rep.apart hS h1,h2⟩
   ·exact Nn (.data Uz Nr y) hc hv
  |undef=>exact Nn .undef hc hv
  |skip=>exact Nn .skip hc hv
  |Lo=>exact Nn .Lo hc hv
  |Uk=>exact Nn .Uk hc hv
  |own l off len=>exact Nn (.own l off len) hc hv
  |Gr l i=>exact Nn (.Gr l i) hc hv
  |Jp l i=>exact Nn (.Jp l i) hc hv
  |clo f Eb=>exact Nn (.clo f Eb) hc hv
  |Ka l=>exact Nn (.Ka l) hc hv
  |sub l i c=>exact Nn (.sub l i c) hc hv
  |Jn l i c=>exact Nn (.Jn l i c) hc hv
 |agg cs=>
  simp only [Ez] at hv
  split at hv
  ·rename_i Sq
   obtain ⟨us,rfl,hr⟩:=hc
   exact ⟨us,ji h τ cs us fr x hr hv hS,by simp [Bs,Sq]⟩
  ·cases hv
 |aa Uz Nr y=>simp [Ez] at hv
 |Mh l=>simp [Ez] at hv
theorem Zt {st:St} (h:Mm X w π st.heap) {S:Nat->Prop} : ∀(τ:Ty) (cs:List AV) (vs:List Value) (fr:Bool) (x:τ.den),cs.length=vs.length->
  (∀(i:Nat) c v,cs[i]?=some c->vs[i]?=some v->Bf X w π st.heap c v)->Dr st τ cs=some (fr,x)->Qh X S fr->Cl w S τ vs x
 | .unit,[],vs,fr,x,hl,hr,hv,hS=>by
  have:vs= []:=Dd hl.symm
  subst this;trivial
 | .unit,_::_,vs,fr,x,hl,hr,hv,hS=>by simp [Dr] at hv
 | .pair a r,[],vs,fr,x,hl,hr,hv,hS=>by simp [Dr] at hv
 | .pair a r,c::cs,[],fr,x,hl,hr,hv,hS=>by simp at hl
 | .pair a r,c::cs,v::vs,fr,x,hl,hr,hv,hS=>by
  simp only [Dr] at hv
  split at hv
  ·rename_i f1 y f2 z h1 h2
   simp only [Aa,Ad] at hv
   obtain ⟨rfl,rfl⟩:=hv
   exact ⟨Xe h a c v f1 y (hr 0 c v rfl rfl) h1 hS.and_left,Zt h r cs vs f2 z (by simpa using hl) (λi c' v' hc l7=>hr (i+1) c' v' hc l7) h2 hS.and_right⟩
  ·cases hv
 | .int _,cs,vs,fr,x,hl,hr,hv,hS=>by cases cs<;>simp [Dr] at hv
 | .bool,cs,vs,fr,x,hl,hr,hv,hS=>by cases cs<;>simp [Dr] at hv
 | .str,cs,vs,fr,x,hl,hr,hv,hS=>by cases cs<;>simp [Dr] at hv
 | .slice _,cs,vs,fr,x,hl,hr,hv,hS=>by cases cs<;>simp [Dr] at hv
 | .ptr _,cs,vs,fr,x,hl,hr,hv,hS=>by cases cs<;>simp [Dr] at hv
 | .oslice _,cs,vs,fr,x,hl,hr,hv,hS=>by cases cs<;>simp [Dr] at hv
 | .optr _,cs,vs,fr,x,hl,hr,hv,hS=>by cases cs<;>simp [Dr] at hv
 | .smap _,cs,vs,fr,x,hl,hr,hv,hS=>by cases cs<;>simp [Dr] at hv
 | .clo _ _,cs,vs,fr,x,hl,hr,hv,hS=>by cases cs<;>simp [Dr] at hv
end
end Go.Proofs.Ytkkdpknjohcekaa
