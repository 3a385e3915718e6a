/-
  Part 6 of the proof that the statement FnExactSolveTwoPhaseWithin holds.
-/
import Derived.Test.YtfgfigkbgecfnaaCSolveTwoPhaseWithin04
import Derived.WalkKit
import Derived.Laws.Slices
namespace Go.Proofs.Ytfgfigkbgecfnaa
open Go.RowKit
def Cd:Ty->List Value
 | .int k=> [.int k 0]
 | .bool=> [.bool false]
 | .str=> [.string ByteArray.empty]
 | .slice _=> [.slice none 0 0]
 | .oslice _=> [.slice none 0 0]
 | .ptr _=> [.pointer none]
 | .optr _=> [.pointer none]
 | .smap _=> [.map none]
 | .clo _ _=> [.nilFunc]
 | .unit=> []
 | .pair a r=>Cd a++Cd r
structure pk (P:Program) (T:Tab) (t:TypeId) (τ:Ty):Prop where
 info: ∃i:TypeInfo,P.info? t=some i/\i.size=τ.size/\i.bytes<=256/\i.zero=some (Cj τ (Cd τ))
 desc:match τ with
  | .int k=>P.underlying t=some (.int k)
  | .bool=>P.underlying t=some .bool
  | .str=>P.underlying t=some .string
  | .slice e=> ∃te,P.underlying t=some (.slice te)/\T.elem t=some te/\T.ty te=some e
  | .oslice e=> ∃te,P.underlying t=some (.slice te)/\T.elem t=some te/\T.ty te=some e
  | .ptr _=> ∃u,P.underlying t=some (.pointer u)
  | .optr _=> ∃u,P.underlying t=some (.pointer u)
  | .smap _=> ∃k e,P.underlying t=some (.map k e)
  | .clo _ _=>False
  | .unit| .pair _ _=> ∃fs,P.underlying t=some (.struct fs)
def placesOf (fs:Array Field):Sem (Array (Nat×Nat)):=fs.mapM λf=>do pure (f.offset,<-sizeOf f.type)
structure Ec (P:Program) (T:Tab):Prop where
 fill: ∀t τ,T.ty t=some τ->τ.Ar=true-> ∃(fs:Array Field) (Mo:Array (Nat×Nat)),P.underlying t=some (.struct fs)/\(∀w,(placesOf fs).run P w= .ok Mo w)/\
  ∀f o u ρ,T.off t f=some (o,u)->T.ty u=some ρ->Mo[f]?=some (o,ρ.size)
 ty: ∀t τ,T.ty t=some τ->pk P T t τ
 elem: ∀t te,T.elem t=some te->P.underlying t=some (.slice te)
 mapOf: ∀t v,T.mapOf t=some v-> ∃k e,P.underlying t=some (.map k e)/\P.underlying k=some .string/\T.ty e=some v/\v.flat=true/\v.Ar=false
 off: ∀s f o t,T.off s f=some (o,t)-> ∃(fs:Array Field) (fd:Field),P.underlying s=some (.struct fs)/\fs[f]?=some fd/\fd.offset=o/\fd.type=t/\ ∃i:TypeInfo,P.info? t=some i/\i.size≠0
section
variable {P:Program} {T:Tab} {X:Ctx} {w w':World} {π:Pi} {H:List (Nat×OB)}
theorem Rd {t:TypeId} {d:TypeDesc} (h:P.underlying t=some d):(isAgg t).run P w= .ok (match d with| .struct _| .array _ _=>true|_=>false) w:=by
 unfold isAgg;rw [Sem.run_bind,run_underlying h]
 cases d<;>rfl
theorem pk.agg {t:TypeId} {τ:Ty} (h:pk P T t τ):(isAgg t).run P w= .ok τ.Ar w:=by
 have hd:=h.desc
 cases τ<;>simp only at hd
 case int k=>rw [Rd hd];rfl
 case bool=>rw [Rd hd];rfl
 case str=>rw [Rd hd];rfl
 case slice e=>obtain ⟨te,hd,_⟩:=hd;rw [Rd hd];rfl
 case ptr e=>obtain ⟨te,hd⟩:=hd;rw [Rd hd];rfl
 case oslice e=>obtain ⟨te,hd,_⟩:=hd;rw [Rd hd];rfl
 case optr e=>obtain ⟨te,hd⟩:=hd;rw [Rd hd];rfl
 case smap e=>obtain ⟨k,te,hd⟩:=hd;rw [Rd hd];rfl
 case unit=>obtain ⟨te,hd⟩:=hd;rw [Rd hd];rfl
 case pair e r=>obtain ⟨te,hd⟩:=hd;rw [Rd hd];rfl
theorem pk.size {t:TypeId} {τ:Ty} (h:pk P T t τ):(sizeOf t).run P w= .ok τ.size w:=by
 obtain ⟨i,hi,hs,_⟩:=h.info;simp [sizeOf,typeInfo,hi,hs]
theorem Dd.Sw {S:Nat->Prop} {τ:Ty} {v:Value} {x:τ.den} (Up:τ.Ar=false) (h:Dd w S τ v x):Cells w S τ [v] x:=by
 obtain ⟨cs,hc,rfl⟩:=h;have hl:=Cells.len τ cs x hc
 have h1:τ.size=1:=by cases τ<;>simp_all [Ty.Ar,Ty.size]
 rw [h1] at hl;obtain ⟨c,rfl⟩:=Ek.1 hl;simpa [Cj,Up] using hc
theorem Dd.oD {S:Nat->Prop} {τ:Ty} {v:Value} {x:τ.den} (Up:τ.Ar=false) (h:Cells w S τ [v] x):Dd w S τ v x:=
 ⟨[v],h,by simp [Cj,Up]⟩
def Ul (X:Ctx) (S:Nat->Prop) (fr:Bool):Prop:=(∀k,S k->k<X.w0.heap.size/\ ¬X.gv k)/\(fr=true\/ ∀k,S k->X.Sc k)
theorem Ul.iU {S:Nat->Prop} {fr:Bool} (h:Ul X S fr) (k:Nat) (hk:S k):Dk X.w0.heap.size X.Sc π fr k:=by
 rcases h.2 with h2|h2
 ·exact .inr (.inr ⟨h2,(h.1 k hk).1⟩)
 ·exact .inr (.inl (h2 k hk))
theorem Ul.and_left {S:Nat->Prop} {f1 f2:Bool} (h:Ul X S (f1&&f2)):Ul X S f1:=
 ⟨h.1,h.2.imp (λh=>by simp at h;exact h.1) id⟩
theorem Ul.and_right {S:Nat->Prop} {f1 f2:Bool} (h:Ul X S (f1&&f2)):Ul X S f2:=
 ⟨h.1,h.2.imp (λh=>by simp at h;exact h.2) id⟩
theorem Rep.apart {S:Nat->Prop} {fr:Bool} {τ:Ty} {cs:List Value} {x:τ.den} (hS:Ul X S (fr||τ.flat)) (h:Cells w (Dk X.w0.heap.size X.Sc π fr) τ cs x):Cells w S τ cs x:=by
 cases hf:τ.flat with
 |true=>exact Cells.flat τ cs x hf h
 |false=>
  rw [hf,iK] at hS;exact Cells.Gd (Ap _) (λ_ _ _=>rfl) (λk _ hk=>hS.iU k hk) τ cs x h
theorem Ul.own {S:Nat->Prop} {fr:Bool} (hS:Ul X S fr) (h:Nm X w π H) {k:Nat} (hk:S k): ¬Wn π k:= λho=>by
 have h1:=hS.1 k hk;rcases (h.own ho).2 with h2|h2
 ·omega
 ·exact h1.2 h2
theorem Ol (st:St) (τ:Ty) (fr:Bool) (Ow:Ty) (x:Ow.den):Dy st τ (.data fr Ow x)=if h:Ow=τ then some (fr||τ.flat,h▸x) else j8 fr τ Ow x:=by
 cases τ<;>rfl
theorem dH (st:St) (τ:Ty) (fr:Bool) (Ow:Ty) (x:Ow.den):Gk st τ (.at (.data fr Ow x))=if h:Ow=τ then some (fr||τ.flat,h▸x) else if τ.Ar then none else Kh st τ (.data fr Ow x):=rfl
theorem DD (st:St) (τ:Ty) (fr:Bool) (Ow:Ty) (x:Ow.den):Kh st τ (.data fr Ow x)=Dy st τ (.data fr Ow x):=by
 cases τ<;>rfl
theorem UF {S:Nat->Prop} {fr:Bool} {τ Ow:Ty} {x:Ow.den} {f:Bool} {y:τ.den} {v:Value} (h:j8 fr τ Ow x=some (f,y)) (hc:Dd w (Dk X.w0.heap.size X.Sc π fr) Ow v x) (hS:Ul X S f):
  τ.Ar=false/\f=fr/\Cells w S τ [v] y:=by
 unfold j8 at h;split at h
 ·split at h
  ·rename_i e e' _ hee;subst hee;simp only [Aa,Ag] at h;obtain ⟨rfl,rfl⟩:=h;refine ⟨rfl,rfl,?_⟩;have h1:=Rep.apart (S:=S) (τ:= .oslice e') ⟨hS.1,hS.2.imp (λh=>by rw [h];rfl) id⟩ (Dd.Sw rfl hc);simp only [Cells] at h1⊢;rcases h1 with ⟨rfl,c,h1⟩|⟨xs,ad,len,cap,rfl,h1,h2,h3,h4⟩
   ·exact ⟨none,0,c,h1,rfl,Iz _, .inl rfl⟩
   ·exact ⟨_,len,cap,h1,h2,h3,h4.imp id λ⟨g,o,ha,h4⟩=>⟨g,o,by rw [ha],h4⟩⟩
  ·cases h
 ·split at h
  ·rename_i a a' _ haa;subst haa;simp only [Aa,Ag] at h;obtain ⟨rfl,rfl⟩:=h;refine ⟨rfl,rfl,?_⟩;have h1:=Rep.apart (S:=S) (τ:= .ptr a') ⟨hS.1,hS.2.imp (λh=>by rw [h];rfl) id⟩ (Dd.Sw rfl hc);simp only [Cells] at h1⊢;obtain ⟨g,o,h2⟩:=h1;exact .inr ⟨_,g,o,rfl,h2⟩
  ·cases h
 ·cases h
theorem wa {st:St} (h:Nm X w π st.heap) {S:Nat->Prop} (τ:Ty) (c:AC) (v:Value) (fr:Bool) (x:τ.den) (Up:τ.Ar=false) (hc:Hw X w π st.heap c v)
  (hv:Dy st τ c=some (fr,x)) (hS:Ul X S fr):Cells w S τ [v] x:=by
 cases c with
 |data Ww Ow y=>
  rw [Ol] at hv;split at hv
  ·rename_i ht;subst ht;simp only [Aa,Ag] at hv;obtain ⟨rfl,rfl⟩:=hv;exact Rep.apart hS (Dd.Sw Up hc)
  ·exact (UF hv hc hS).2.2
 |Mn=>
  cases τ with
  |slice e=>
   simp only [Dy,Aa,Ag] at hv;obtain ⟨_,rfl⟩:=hv;exact ⟨none,0,0,by rw [show v=_ from hc],rfl,Ap _, .inl rfl⟩
  |oslice e=>
   simp only [Dy,Aa,Ag] at hv;obtain ⟨_,rfl⟩:=hv;exact .inl ⟨rfl,0,by rw [show v=_ from hc]⟩
  |_=>simp [Dy] at hv
 |Wk=>
  cases τ with
  |optr e=>
   simp only [Dy,Aa,Ag] at hv;obtain ⟨_,rfl⟩:=hv;exact .inl ⟨rfl,by rw [show v=_ from hc]⟩
  |_=>simp [Dy] at hv
 |own l off len=>
  cases τ with
  |slice e=>
   simp only [Dy] at hv;split at hv
   ·rename_i Ww tr' e' tid xs hl;split at hv
    ·rename_i he;subst he;simp only [Aa,Ag] at hv;obtain ⟨rfl,rfl⟩:=hv;obtain ⟨h2,h3⟩:=Pe hc hl;exact q6 h hl h2 h3 (λk hk ⟨r,hr,NH⟩=>hS.own h hk ⟨l,r,hr,NH⟩) (λk _ hk=>hS.iU k hk)
    ·cases hv
   ·rename_i e' tid xs hl;split at hv
    ·rename_i he;subst he;simp only [Aa,Ag] at hv;obtain ⟨rfl,rfl⟩:=hv;obtain ⟨h2,h3⟩:=cB hc hl;exact np h hl h2 h3 (λk hk ⟨r,hr,NH⟩=>hS.own h hk ⟨l,r,hr,NH⟩)
    ·cases hv
   ·rename_i e' tid rows kp hl;split at hv
    ·rename_i he;subst he;simp only [Aa,Ag] at hv;obtain ⟨rfl,rfl⟩:=hv;obtain ⟨h2,h3⟩:=oL hc hl;exact tS h hl h2 h3 (λk hk ⟨r,hr,NH⟩=>hS.own h hk ⟨l,r,hr,NH⟩) (λk hk=>hS.iU k hk)
    ·cases hv
   ·cases hv
  |_=>simp [Dy] at hv
 |sub l i c=>
  cases τ with
  |slice e=>
   simp only [Dy] at hv;split at hv
   ·rename_i e' tid rows kp hl;split at hv
    ·rename_i he;subst he;simp only [Aa,Ag] at hv;obtain ⟨rfl,rfl⟩:=hv;exact tT h hl (FW hc hl) hc (λk hk ⟨r,hr,NH⟩=>hS.own h hk ⟨l,r,hr,NH⟩) (λk hk=>hS.iU k hk)
    ·cases hv
   ·cases hv
  |_=>simp [Dy] at hv
 |Le l=>
  cases τ with
  |smap vt=>
   simp only [Dy] at hv;split at hv
   ·rename_i v' m hl;split at hv
    ·rename_i he;subst he;simp only [Aa,Ag] at hv;obtain ⟨_,rfl⟩:=hv;obtain ⟨r,vt,m',h1,h2,rfl⟩:=hc;exact yS ((h.heap l).Se hl) (by rw [h2];rfl) λhs=>hS.own h hs ⟨l,r,h2,h.Df h2⟩
    ·cases hv
   ·cases hv
  |_=>simp [Dy] at hv
 |_=>cases τ<;>simp [Dy] at hv
theorem Uw {st:St} {τ:Ty} (Up:τ.Ar=false) (cs:List AC):Fq st τ cs=match cs with| [c]=>Dy st τ c|_=>none:=by
 cases τ<;>simp [Ty.Ar] at Up<;>rcases cs with _|⟨c,_|⟨d,r⟩⟩<;>rfl
theorem m8 {st:St} (h:Nm X w π st.heap) {S:Nat->Prop} : ∀(τ:Ty) (cs:List AC) (us:List Value) (fr:Bool) (x:τ.den),Gq X w π st.heap cs us->
  Fq st τ cs=some (fr,x)->Ul X S fr->Cells w S τ us x:=by
 have one: ∀(τ:Ty) (cs:List AC) (us:List Value) (fr:Bool) (x:τ.den),τ.Ar=false->Gq X w π st.heap cs us->
   Fq st τ cs=some (fr,x)->Ul X S fr->Cells w S τ us x:=by
  intro τ cs us fr x Up hr hv hS;rw [Uw Up] at hv;split at hv
  ·rename_i c;obtain ⟨u,hu,_,hc⟩:=hr.2 0 c rfl;have hl:us.length=1:=hr.1;obtain ⟨u',rfl⟩:=Ek.1 hl;simp at hu;subst hu;exact wa h τ c _ fr x Up hc hv hS
  ·cases hv
 intro τ
 induction τ with
 |unit=>
  intro cs us fr x hr hv hS
  cases cs with
  |nil=>have:us= []:=Cr hr.1;exact this
  |cons c cs=>simp [Fq] at hv
 |pair a r iL iH=>
  intro cs us fr x hr hv hS;simp only [Fq] at hv;split at hv
  ·rename_i f1 y f2 z h1 h2;simp only [Aa,Ag] at hv;obtain ⟨rfl,rfl⟩:=hv
   have SK:Gq X w π st.heap (cs.take a.size) (us.take a.size):=
    ⟨by simp [hr.1],λi c hc=>by
     rw [Di] at hc⊢;split at hc
     ·rename_i hi;simp only [hi,Oz];exact hr.2 i c hc
     ·cases hc⟩
   have YV:Gq X w π st.heap (cs.drop a.size) (us.drop a.size):=
    ⟨by simp [hr.1],λi c hc=>by
     rw [Cp] at hc⊢
     exact hr.2 _ c hc⟩
   exact ⟨us.take a.size,us.drop a.size,(Ip _ _).symm,iL _ _ _ _ SK h1 hS.and_left,iH _ _ _ _ YV h2 hS.and_right⟩
  ·cases hv
 |_=>exact λcs us fr x hr hv hS=>one _ cs us fr x rfl hr hv hS
theorem aw {cs:List AC} {us:List Value} (h:Gq X w π H cs us) (i n:Nat):Gq X w π H ((cs.drop i).take n) ((us.drop i).take n):=
 ⟨by simp [h.1],λj c hc=>by
  rw [Di] at hc⊢;split at hc
  ·rename_i hi;simp only [hi,Oz];rw [Cp] at hc⊢;exact h.2 _ c hc
  ·cases hc⟩
theorem kv {st:St} (h:Nm X w π st.heap) {S:Nat->Prop} {a:Ty} {l i:Nat} {fr:Bool} {x:a.den} (hv:Vj st a l i=some (fr,x)) (hS:Ul X S fr) {r:Real} (hr:π l=some r):
  r.g<w.heap.size/\ ¬S r.g/\ ∃es:List Value,es.length=a.size/\(∀j u,es[j]?=some u->w.cell? ⟨r.g,i+j,none⟩=some u)/\Cells w S a es x:=by
 unfold Vj at hv;split at hv
 ·rename_i tid vs hl;obtain ⟨r',h3,h4,cur,h5,h6⟩:=(h.heap l).Se hl;rw [hr] at h3;cases h3;have hc:=m8 h a _ _ fr x (aw h6 i a.size) hv hS;refine ⟨Gv h5,λhs=>hS.own h hs ⟨l,r,hr,h4⟩,_,Cells.len a _ x hc,λj u hu=>?_,hc⟩;rw [cellOf h5];rw [Di] at hu;split at hu
  ·rw [Cp] at hu;simpa using hu
  ·cases hu
 ·cases hv
theorem DC {st:St} (h:Nm X w π st.heap) {S:Nat->Prop} : ∀(τ:Ty) (En:List (Nat×Nat)) (us:List Value) (fr:Bool) (x:τ.den),us.length=En.length->
  (∀(j:Nat) p,En[j]?=some p-> ∃r tid vs,Ay st.heap p.1=some (.var tid vs)/\π p.1=some r/\us[j]?=some (.pointer (some ⟨r.g,p.2,none⟩)))->
  Lr st τ En=some (fr,x)->Ul X S fr->Cells w S τ us x:=by
 intro τ
 induction τ with
 |unit=>
  intro En us fr x hl hr hv hS
  cases En with
  |nil=>exact Cr hl
  |cons c cs=>simp [Lr] at hv
 |pair a r _ iH=>
  intro En us fr x hl hr hv hS
  cases a with
  |ptr a=>
   cases En with
   |nil=>simp [Lr] at hv
   |cons c cs=>
    obtain ⟨l,i⟩:=c;simp only [Lr] at hv;split at hv
    ·rename_i f1 y f2 z h1 h2;simp only [Aa,Ag] at hv;obtain ⟨rfl,rfl⟩:=hv
     cases us with
     |nil=>simp at hl
     |cons u us=>
      obtain ⟨r0,tid,vs,h3,h4,h5⟩:=hr 0 (l,i) rfl;simp only [Cf,Aa] at h5;subst h5;obtain ⟨h6,h7,es,h8,h9,qT⟩:=kv h h1 hS.and_left h4;exact ⟨[_],us,rfl,⟨r0.g,i,rfl,h6,h7,es,h8,h9,qT⟩,iH cs us f2 z (by simpa using hl) (λj p hp=>hr (j+1) p hp) h2 hS.and_right⟩
    ·cases hv
  |_=>cases En<;>simp [Lr] at hv
 |_=>intro En us fr x hl hr hv;cases En<;>simp [Lr] at hv
theorem KH {st:St} (h:Nm X w π st.heap) {S:Nat->Prop} (τ:Ty) (c:AC) (v:Value) (fr:Bool) (x:τ.den) (Up:τ.Ar=false) (hc:Hw X w π st.heap c v)
  (hv:Kh st τ c=some (fr,x)) (hS:Ul X S fr):Cells w S τ [v] x:=by
 have Ou:Dy st τ c=some (fr,x)->Cells w S τ [v] x:= λhv=>wa h τ c v fr x Up hc hv hS
 cases τ with
 |ptr a=>
  cases c with
  |Hs l i=>
   obtain ⟨r,tid,vs,h1,h2,rfl⟩:=hc;obtain ⟨h6,h7,h8⟩:=kv h hv hS h2;exact ⟨r.g,i,rfl,h6,h7,h8⟩
  |_=>exact Ou hv
 |optr a=>
  cases c with
  |Hs l i=>
   obtain ⟨r,tid,vs,h1,h2,rfl⟩:=hc;simp only [Kh] at hv
   cases hp:Vj st a l i with
   |none=>rw [hp] at hv;cases hv
   |some p=>
    rw [hp] at hv;simp only [An,Aa,Ag] at hv;obtain ⟨rfl,rfl⟩:=hv;obtain ⟨h6,h7,h8⟩:=kv h hp hS h2;exact .inr ⟨_,r.g,i,rfl,rfl,h6,h7,h8⟩
  |_=>exact Ou hv
 |clo f a=>
  cases c with
  |clo g En=>
   simp only [Kh] at hv;split at hv
   ·rename_i hg;obtain ⟨rfl,Kr⟩:=hg;obtain ⟨us,rfl,h2,h3⟩:=hc;exact ⟨us,by rw [j4 Kr],DC h a En us fr x h2 h3 hv hS⟩
   ·cases hv
  |_=>exact Ou hv
 |_=>exact Ou hv
theorem Zo {st:St} (h:Nm X w π st.heap) {S:Nat->Prop} (τ:Ty) (c:AV) (v:Value) (fr:Bool) (x:τ.den) (hc:Bx X w π st.heap c v)
  (hv:Gk st τ c=some (fr,x)) (hS:Ul X S fr):Dd w S τ v x:=by
 have Ou: ∀c:AC,Hw X w π st.heap c v->(if τ.Ar then none else Kh st τ c)=some (fr,x)->Dd w S τ v x:=by
  intro c hc hv;split at hv
  ·cases hv
  ·rename_i Up;simp only [Gb] at Up;exact Dd.oD Up (KH h τ c v fr x Up hc hv hS)
 cases c with
 | «at»c=>
  cases c with
  |data Ww Ow y=>
   rw [dH] at hv;split at hv
   ·rename_i ht;subst ht;simp only [Aa,Ag] at hv;obtain ⟨rfl,rfl⟩:=hv;obtain ⟨cs,h1,h2⟩:=hc;exact ⟨cs,Rep.apart hS h1,h2⟩
   ·exact Ou (.data Ww Ow y) hc hv
  |undef=>exact Ou .undef hc hv
  |skip=>exact Ou .skip hc hv
  |Mn=>exact Ou .Mn hc hv
  |Wk=>exact Ou .Wk hc hv
  |own l off len=>exact Ou (.own l off len) hc hv
  |Hs l i=>exact Ou (.Hs l i) hc hv
  |Kq l i=>exact Ou (.Kq l i) hc hv
  |clo f En=>exact Ou (.clo f En) hc hv
  |Le l=>exact Ou (.Le l) hc hv
  |sub l i c=>exact Ou (.sub l i c) hc hv
  |Kl l i c=>exact Ou (.Kl l i c) hc hv
 |agg cs=>
  simp only [Gk] at hv;split at hv
  ·rename_i Up;obtain ⟨us,rfl,hr⟩:=hc;exact ⟨us,m8 h τ cs us fr x hr hv hS,by simp [Cj,Up]⟩
  ·cases hv
 |bL Ww Ow y=>simp [Gk] at hv
 |Nh l=>simp [Gk] at hv
theorem bx {st:St} (h:Nm X w π st.heap) {S:Nat->Prop} : ∀(τ:Ty) (cs:List AV) (vs:List Value) (fr:Bool) (x:τ.den),cs.length=vs.length->
  (∀(i:Nat) c v,cs[i]?=some c->vs[i]?=some v->Bx X w π st.heap c v)->Eg st τ cs=some (fr,x)->Ul X S fr->De w S τ vs x
 | .unit,[],vs,fr,x,hl,hr,hv,hS=>by
  have:vs= []:=Cr hl.symm;subst this;trivial
 | .unit,_::_,vs,fr,x,hl,hr,hv,hS=>by simp [Eg] at hv
 | .pair a r,[],vs,fr,x,hl,hr,hv,hS=>by simp [Eg] at hv
 | .pair a r,c::cs,[],fr,x,hl,hr,hv,hS=>by simp at hl
 | .pair a r,c::cs,v::vs,fr,x,hl,hr,hv,hS=>by
  simp only [Eg] at hv;split at hv
  ·rename_i f1 y f2 z h1 h2;simp only [Aa,Ag] at hv;obtain ⟨rfl,rfl⟩:=hv;exact ⟨Zo h a c v f1 y (hr 0 c v rfl rfl) h1 hS.and_left,bx h r cs vs f2 z (by simpa using hl) (λi c' v' hc ya=>hr (i+1) c' v' hc ya) h2 hS.and_right⟩
  ·cases hv
 | .int _,cs,vs,fr,x,hl,hr,hv,hS=>by cases cs<;>simp [Eg] at hv
 | .bool,cs,vs,fr,x,hl,hr,hv,hS=>by cases cs<;>simp [Eg] at hv
 | .str,cs,vs,fr,x,hl,hr,hv,hS=>by cases cs<;>simp [Eg] at hv
 | .slice _,cs,vs,fr,x,hl,hr,hv,hS=>by cases cs<;>simp [Eg] at hv
 | .ptr _,cs,vs,fr,x,hl,hr,hv,hS=>by cases cs<;>simp [Eg] at hv
 | .oslice _,cs,vs,fr,x,hl,hr,hv,hS=>by cases cs<;>simp [Eg] at hv
 | .optr _,cs,vs,fr,x,hl,hr,hv,hS=>by cases cs<;>simp [Eg] at hv
 | .smap _,cs,vs,fr,x,hl,hr,hv,hS=>by cases cs<;>simp [Eg] at hv
 | .clo _ _,cs,vs,fr,x,hl,hr,hv,hS=>by cases cs<;>simp [Eg] at hv
end
end Go.Proofs.Ytfgfigkbgecfnaa
