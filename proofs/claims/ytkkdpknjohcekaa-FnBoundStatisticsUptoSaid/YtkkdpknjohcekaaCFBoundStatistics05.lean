/-
  Part 6 of the proof that the statement FnBoundStatistics holds.
-/
import Derived.Test.YtkkdpknjohcekaaCFBoundStatistics04
import Derived.WalkKit
import Derived.Laws.Slices
namespace Go.Proofs.Ytkkdpknjohcekaa
open Go.RowKit
def Bu:Ty->List Value
 | .int k=> [.int k 0]
 | .bool=> [.bool false]
 | .str=> [.string ByteArray.empty]
 | .slice _=> [.slice none 0 0]
 | .oslice _=> [.slice none 0 0]
 | .ptr _=> [.pointer none]
 | .optr _=> [.pointer none]
 | .smap _=> [.map none]
 | .clo _ _=> [.nilFunc]
 | .unit=> []
 | .pair a r=>Bu a++Bu r
structure oJ (P:Program) (T:Tab) (t:TypeId) (τ:Ty):Prop where
 info: ∃i:TypeInfo,P.info? t=some i/\i.size=τ.size/\i.bytes<=256/\i.zero=some (Cb τ (Bu τ))
 desc:match τ with
  | .int k=>P.underlying t=some (.int k)
  | .bool=>P.underlying t=some .bool
  | .str=>P.underlying t=some .string
  | .slice e=> ∃te,P.underlying t=some (.slice te)/\T.elem t=some te/\T.ty te=some e
  | .oslice e=> ∃te,P.underlying t=some (.slice te)/\T.elem t=some te/\T.ty te=some e
  | .ptr _=> ∃u,P.underlying t=some (.pointer u)
  | .optr _=> ∃u,P.underlying t=some (.pointer u)
  | .smap _=> ∃k e,P.underlying t=some (.map k e)
  | .clo _ _=>False
  | .unit| .pair _ _=> ∃fs,P.underlying t=some (.struct fs)
def placesOf (fs:Array Field):Sem (Array (Nat×Nat)):=fs.mapM λf=>do pure (f.offset,<-sizeOf f.type)
structure Dz (P:Program) (T:Tab):Prop where
 fill: ∀t τ,T.ty t=some τ->τ.Ao=true-> ∃(fs:Array Field) (Lz:Array (Nat×Nat)),P.underlying t=some (.struct fs)/\(∀w,(placesOf fs).run P w= .ok Lz w)/\
  ∀f o u ρ,T.off t f=some (o,u)->T.ty u=some ρ->Lz[f]?=some (o,ρ.size)
 ty: ∀t τ,T.ty t=some τ->oJ P T t τ
 elem: ∀t te,T.elem t=some te->P.underlying t=some (.slice te)
 mapOf: ∀t v,T.mapOf t=some v-> ∃k e,P.underlying t=some (.map k e)/\P.underlying k=some .string/\T.ty e=some v/\v.flat=true/\v.Ao=false
 off: ∀s f o t,T.off s f=some (o,t)-> ∃(fs:Array Field) (fd:Field),P.underlying s=some (.struct fs)/\fs[f]?=some fd/\fd.offset=o/\fd.type=t/\ ∃i:TypeInfo,P.info? t=some i/\i.size≠0
section
variable {P:Program} {T:Tab} {X:Ctx} {w w':World} {π:Pi} {H:List (Nat×OB)}
theorem Qx {t:TypeId} {d:TypeDesc} (h:P.underlying t=some d):(isAgg t).run P w= .ok (match d with| .struct _| .array _ _=>true|_=>false) w:=by
 unfold isAgg
 rw [Sem.run_bind,run_underlying h]
 cases d<;>rfl
theorem oJ.agg {t:TypeId} {τ:Ty} (h:oJ P T t τ):(isAgg t).run P w= .ok τ.Ao w:=by
 have hd:=h.desc
 cases τ<;>simp only at hd
 case int k=>rw [Qx hd];rfl
 case bool=>rw [Qx hd];rfl
 case str=>rw [Qx hd];rfl
 case slice e=>obtain ⟨te,hd,_⟩:=hd;rw [Qx hd];rfl
 case ptr e=>obtain ⟨te,hd⟩:=hd;rw [Qx hd];rfl
 case oslice e=>obtain ⟨te,hd,_⟩:=hd;rw [Qx hd];rfl
 case optr e=>obtain ⟨te,hd⟩:=hd;rw [Qx hd];rfl
 case smap e=>obtain ⟨k,te,hd⟩:=hd;rw [Qx hd];rfl
 case unit=>obtain ⟨te,hd⟩:=hd;rw [Qx hd];rfl
 case pair e r=>obtain ⟨te,hd⟩:=hd;rw [Qx hd];rfl
theorem oJ.size {t:TypeId} {τ:Ty} (h:oJ P T t τ):(sizeOf t).run P w= .ok τ.size w:=by
 obtain ⟨i,hi,hs,_⟩:=h.info
 simp [sizeOf,typeInfo,hi,hs]
theorem Cw.Sh {S:Nat->Prop} {τ:Ty} {v:Value} {x:τ.den} (Ua:τ.Ao=false) (h:Cw w S τ v x):Cells w S τ [v] x:=by
 obtain ⟨cs,hc,rfl⟩:=h
 have hl:=Cells.len τ cs x hc
 have h1:τ.size=1:=by cases τ<;>simp_all [Ty.Ao,Ty.size]
 rw [h1] at hl
 obtain ⟨c,rfl⟩:=Eb.1 hl
 simpa [Cb,Ua] using hc
theorem Cw.nO {S:Nat->Prop} {τ:Ty} {v:Value} {x:τ.den} (Ua:τ.Ao=false) (h:Cells w S τ [v] x):Cw w S τ v x:=
 ⟨[v],h,by simp [Cb,Ua]⟩
def Tu (X:Ctx) (S:Nat->Prop) (fr:Bool):Prop:=(∀k,S k->k<X.w0.heap.size/\ ¬X.gv k)/\(fr=true\/ ∀k,S k->X.Sc k)
theorem Tu.ic {S:Nat->Prop} {fr:Bool} (h:Tu X S fr) (k:Nat) (hk:S k):Da X.w0.heap.size X.Sc π fr k:=by
 rcases h.2 with h2|h2
 ·exact .inr (.inr ⟨h2,(h.1 k hk).1⟩)
 ·exact .inr (.inl (h2 k hk))
theorem Tu.and_left {S:Nat->Prop} {f1 f2:Bool} (h:Tu X S (f1&&f2)):Tu X S f1:=
 ⟨h.1,h.2.imp (λh=>by simp at h;exact h.1) id⟩
theorem Tu.and_right {S:Nat->Prop} {f1 f2:Bool} (h:Tu X S (f1&&f2)):Tu X S f2:=
 ⟨h.1,h.2.imp (λh=>by simp at h;exact h.2) id⟩
theorem Rep.apart {S:Nat->Prop} {fr:Bool} {τ:Ty} {cs:List Value} {x:τ.den} (hS:Tu X S (fr||τ.flat)) (h:Cells w (Da X.w0.heap.size X.Sc π fr) τ cs x):Cells w S τ cs x:=by
 cases hf:τ.flat with
 |true=>exact Cells.flat τ cs x hf h
 |false=>
  rw [hf,gU] at hS
  exact Cells.Fb (Ap _) (λ_ _ _=>rfl) (λk _ hk=>hS.ic k hk) τ cs x h
theorem Tu.own {S:Nat->Prop} {fr:Bool} (hS:Tu X S fr) (h:Ng X w π H) {k:Nat} (hk:S k): ¬Vy π k:= λho=>by
 have h1:=hS.1 k hk
 rcases (h.own ho).2 with h2|h2
 ·omega
 ·exact h1.2 h2
theorem Oc (st:St) (τ:Ty) (fr:Bool) (Ok:Ty) (x:Ok.den):Dm st τ (.data fr Ok x)=if h:Ok=τ then some (fr||τ.flat,h▸x) else iy fr τ Ok x:=by
 cases τ<;>rfl
theorem dc (st:St) (τ:Ty) (fr:Bool) (Ok:Ty) (x:Ok.den):Fp st τ (.at (.data fr Ok x))=if h:Ok=τ then some (fr||τ.flat,h▸x) else if τ.Ao then none else Kc st τ (.data fr Ok x):=rfl
theorem BK (st:St) (τ:Ty) (fr:Bool) (Ok:Ty) (x:Ok.den):Kc st τ (.data fr Ok x)=Dm st τ (.data fr Ok x):=by
 cases τ<;>rfl
theorem SB {S:Nat->Prop} {fr:Bool} {τ Ok:Ty} {x:Ok.den} {f:Bool} {y:τ.den} {v:Value} (h:iy fr τ Ok x=some (f,y)) (hc:Cw w (Da X.w0.heap.size X.Sc π fr) Ok v x) (hS:Tu X S f):
  τ.Ao=false/\f=fr/\Cells w S τ [v] y:=by
 unfold iy at h
 split at h
 ·split at h
  ·rename_i e e' _ YB
   subst YB
   simp only [Aa,Ae] at h
   obtain ⟨rfl,rfl⟩:=h
   refine ⟨rfl,rfl,?_⟩
   have h1:=Rep.apart (S:=S) (τ:= .oslice e') ⟨hS.1,hS.2.imp (λh=>by rw [h];rfl) id⟩ (Cw.Sh rfl hc)
   simp only [Cells] at h1⊢
   rcases h1 with ⟨rfl,c,h1⟩|⟨xs,ad,len,cap,rfl,h1,h2,h3,h4⟩
   ·exact ⟨none,0,c,h1,rfl,Ja _, .inl rfl⟩
   ·exact ⟨_,len,cap,h1,h2,h3,h4.imp id λ⟨g,o,ha,h4⟩=>⟨g,o,by rw [ha],h4⟩⟩
  ·cases h
 ·split at h
  ·rename_i a a' _ haa
   subst haa
   simp only [Aa,Ae] at h
   obtain ⟨rfl,rfl⟩:=h
   refine ⟨rfl,rfl,?_⟩
   have h1:=Rep.apart (S:=S) (τ:= .ptr a') ⟨hS.1,hS.2.imp (λh=>by rw [h];rfl) id⟩ (Cw.Sh rfl hc)
   simp only [Cells] at h1⊢
   obtain ⟨g,o,h2⟩:=h1
   exact .inr ⟨_,g,o,rfl,h2⟩
  ·cases h
 ·cases h
theorem vf {st:St} (h:Ng X w π st.heap) {S:Nat->Prop} (τ:Ty) (c:AC) (v:Value) (fr:Bool) (x:τ.den) (Ua:τ.Ao=false) (hc:Hq X w π st.heap c v)
  (hv:Dm st τ c=some (fr,x)) (hS:Tu X S fr):Cells w S τ [v] x:=by
 cases c with
 |data Wh Ok y=>
  rw [Oc] at hv
  split at hv
  ·rename_i ht;subst ht
   simp only [Aa,Ae] at hv
   obtain ⟨rfl,rfl⟩:=hv
   exact Rep.apart hS (Cw.Sh Ua hc)
  ·exact (SB hv hc hS).2.2
 |Ly=>
  cases τ with
  |slice e=>
   simp only [Dm,Aa,Ae] at hv
   obtain ⟨_,rfl⟩:=hv
   exact ⟨none,0,0,by rw [show v=_ from hc],rfl,Ap _, .inl rfl⟩
  |oslice e=>
   simp only [Dm,Aa,Ae] at hv
   obtain ⟨_,rfl⟩:=hv
   exact .inl ⟨rfl,0,by rw [show v=_ from hc]⟩
  |_=>simp [Dm] at hv
 |Vt=>
  cases τ with
  |optr e=>
   simp only [Dm,Aa,Ae] at hv
   obtain ⟨_,rfl⟩:=hv
   exact .inl ⟨rfl,by rw [show v=_ from hc]⟩
  |_=>simp [Dm] at hv
 |own l off len=>
  cases τ with
  |slice e=>
   simp only [Dm] at hv
   split at hv
   ·rename_i Wh tr' e' tid xs hl
    split at hv
    ·rename_i he;subst he
     simp only [Aa,Ae] at hv
     obtain ⟨rfl,rfl⟩:=hv
     obtain ⟨h2,h3⟩:=Ot hc hl
     exact pt h hl h2 h3 (λk hk ⟨r,hr,KY⟩=>hS.own h hk ⟨l,r,hr,KY⟩) (λk _ hk=>hS.ic k hk)
    ·cases hv
   ·rename_i e' tid xs hl
    split at hv
    ·rename_i he;subst he
     simp only [Aa,Ae] at hv
     obtain ⟨rfl,rfl⟩:=hv
     obtain ⟨h2,h3⟩:=c5 hc hl
     exact mD h hl h2 h3 (λk hk ⟨r,hr,KY⟩=>hS.own h hk ⟨l,r,hr,KY⟩)
    ·cases hv
   ·rename_i e' tid rows kp hl
    split at hv
    ·rename_i he;subst he
     simp only [Aa,Ae] at hv
     obtain ⟨rfl,rfl⟩:=hv
     obtain ⟨h2,h3⟩:=nX hc hl
     exact sZ h hl h2 h3 (λk hk ⟨r,hr,KY⟩=>hS.own h hk ⟨l,r,hr,KY⟩) (λk hk=>hS.ic k hk)
    ·cases hv
   ·cases hv
  |_=>simp [Dm] at hv
 |sub l i c=>
  cases τ with
  |slice e=>
   simp only [Dm] at hv
   split at hv
   ·rename_i e' tid rows kp hl
    split at hv
    ·rename_i he;subst he
     simp only [Aa,Ae] at hv
     obtain ⟨rfl,rfl⟩:=hv
     exact ta h hl (DZ hc hl) hc (λk hk ⟨r,hr,KY⟩=>hS.own h hk ⟨l,r,hr,KY⟩) (λk hk=>hS.ic k hk)
    ·cases hv
   ·cases hv
  |_=>simp [Dm] at hv
 |Ks l=>
  cases τ with
  |smap vt=>
   simp only [Dm] at hv
   split at hv
   ·rename_i v' m hl
    split at hv
    ·rename_i he;subst he
     simp only [Aa,Ae] at hv
     obtain ⟨_,rfl⟩:=hv
     obtain ⟨r,vt,m',h1,h2,rfl⟩:=hc
     exact yd ((h.heap l).Rp hl) (by rw [h2];rfl) λhs=>hS.own h hs ⟨l,r,h2,h.Cv h2⟩
    ·cases hv
   ·cases hv
  |_=>simp [Dm] at hv
 |_=>cases τ<;>simp [Dm] at hv
theorem Uf {st:St} {τ:Ty} (Ua:τ.Ao=false) (cs:List AC):Ey st τ cs=match cs with| [c]=>Dm st τ c|_=>none:=by
 cases τ<;>simp [Ty.Ao] at Ua<;>rcases cs with _|⟨c,_|⟨d,r⟩⟩<;>rfl
theorem lC {st:St} (h:Ng X w π st.heap) {S:Nat->Prop} : ∀(τ:Ty) (cs:List AC) (us:List Value) (fr:Bool) (x:τ.den),Fw X w π st.heap cs us->
  Ey st τ cs=some (fr,x)->Tu X S fr->Cells w S τ us x:=by
 have one: ∀(τ:Ty) (cs:List AC) (us:List Value) (fr:Bool) (x:τ.den),τ.Ao=false->Fw X w π st.heap cs us->
   Ey st τ cs=some (fr,x)->Tu X S fr->Cells w S τ us x:=by
  intro τ cs us fr x Ua hr hv hS
  rw [Uf Ua] at hv
  split at hv
  ·rename_i c
   obtain ⟨u,hu,_,hc⟩:=hr.2 0 c rfl
   have hl:us.length=1:=hr.1
   obtain ⟨u',rfl⟩:=Eb.1 hl
   simp at hu;subst hu
   exact vf h τ c _ fr x Ua hc hv hS
  ·cases hv
 intro τ
 induction τ with
 |unit=>
  intro cs us fr x hr hv hS
  cases cs with
  |nil=>have:us= []:=Cl hr.1;exact this
  |cons c cs=>simp [Ey] at hv
 |pair a r gV gR=>
  intro cs us fr x hr hv hS
  simp only [Ey] at hv
  split at hv
  ·rename_i f1 y f2 z h1 h2
   simp only [Aa,Ae] at hv
   obtain ⟨rfl,rfl⟩:=hv
   have hr1:Fw X w π st.heap (cs.take a.size) (us.take a.size):=
    ⟨by simp [hr.1],λi c hc=>by
     rw [Cx] at hc⊢
     split at hc
     ·rename_i hi;simp only [hi,Po];exact hr.2 i c hc
     ·cases hc⟩
   have hr2:Fw X w π st.heap (cs.drop a.size) (us.drop a.size):=
    ⟨by simp [hr.1],λi c hc=>by
     rw [Dd] at hc⊢
     exact hr.2 _ c hc⟩
   exact ⟨us.take a.size,us.drop a.size,(Ik _ _).symm,gV _ _ _ _ hr1 h1 hS.and_left,gR _ _ _ _ hr2 h2 hS.and_right⟩
  ·cases hv
 |_=>exact λcs us fr x hr hv hS=>one _ cs us fr x rfl hr hv hS
theorem a9 {cs:List AC} {us:List Value} (h:Fw X w π H cs us) (i n:Nat):Fw X w π H ((cs.drop i).take n) ((us.drop i).take n):=
 ⟨by simp [h.1],λj c hc=>by
  rw [Cx] at hc⊢
  split at hc
  ·rename_i hi
   simp only [hi,Po]
   rw [Dd] at hc⊢
   exact h.2 _ c hc
  ·cases hc⟩
theorem jJ {st:St} (h:Ng X w π st.heap) {S:Nat->Prop} {a:Ty} {l i:Nat} {fr:Bool} {x:a.den} (hv:Up st a l i=some (fr,x)) (hS:Tu X S fr) {r:Real} (hr:π l=some r):
  r.g<w.heap.size/\ ¬S r.g/\ ∃es:List Value,es.length=a.size/\(∀j u,es[j]?=some u->w.cell? ⟨r.g,i+j,none⟩=some u)/\Cells w S a es x:=by
 unfold Up at hv
 split at hv
 ·rename_i tid vs hl
  obtain ⟨r',h3,h4,cur,h5,h6⟩:=(h.heap l).Rp hl
  rw [hr] at h3;cases h3
  have hc:=lC h a _ _ fr x (a9 h6 i a.size) hv hS
  refine ⟨Gi h5,λhs=>hS.own h hs ⟨l,r,hr,h4⟩,_,Cells.len a _ x hc,λj u hu=>?_,hc⟩
  rw [cellOf h5]
  rw [Cx] at hu
  split at hu
  ·rw [Dd] at hu;simpa using hu
  ·cases hu
 ·cases hv
theorem BJ {st:St} (h:Ng X w π st.heap) {S:Nat->Prop} : ∀(τ:Ty) (Ee:List (Nat×Nat)) (us:List Value) (fr:Bool) (x:τ.den),us.length=Ee.length->
  (∀(j:Nat) p,Ee[j]?=some p-> ∃r tid vs,At st.heap p.1=some (.var tid vs)/\π p.1=some r/\us[j]?=some (.pointer (some ⟨r.g,p.2,none⟩)))->
  Le st τ Ee=some (fr,x)->Tu X S fr->Cells w S τ us x:=by
 intro τ
 induction τ with
 |unit=>
  intro Ee us fr x hl hr hv hS
  cases Ee with
  |nil=>exact Cl hl
  |cons c cs=>simp [Le] at hv
 |pair a r _ gR=>
  intro Ee us fr x hl hr hv hS
  cases a with
  |ptr a=>
   cases Ee with
   |nil=>simp [Le] at hv
   |cons c cs=>
    obtain ⟨l,i⟩:=c
    simp only [Le] at hv
    split at hv
    ·rename_i f1 y f2 z h1 h2
     simp only [Aa,Ae] at hv
     obtain ⟨rfl,rfl⟩:=hv
     cases us with
     |nil=>simp at hl
     |cons u us=>
      obtain ⟨r0,tid,vs,h3,h4,h5⟩:=hr 0 (l,i) rfl
      simp only [Bv,Aa] at h5
      subst h5
      obtain ⟨h6,h7,es,h8,h9,oC⟩:=jJ h h1 hS.and_left h4
      exact ⟨[_],us,rfl,⟨r0.g,i,rfl,h6,h7,es,h8,h9,oC⟩,gR cs us f2 z (by simpa using hl) (λj p hp=>hr (j+1) p hp) h2 hS.and_right⟩
    ·cases hv
  |_=>cases Ee<;>simp [Le] at hv
 |_=>intro Ee us fr x hl hr hv;cases Ee<;>simp [Le] at hv
theorem IE {st:St} (h:Ng X w π st.heap) {S:Nat->Prop} (τ:Ty) (c:AC) (v:Value) (fr:Bool) (x:τ.den) (Ua:τ.Ao=false) (hc:Hq X w π st.heap c v)
  (hv:Kc st τ c=some (fr,x)) (hS:Tu X S fr):Cells w S τ [v] x:=by
 have Oi:Dm st τ c=some (fr,x)->Cells w S τ [v] x:= λhv=>vf h τ c v fr x Ua hc hv hS
 cases τ with
 |ptr a=>
  cases c with
  |Hj l i=>
   obtain ⟨r,tid,vs,h1,h2,rfl⟩:=hc
   obtain ⟨h6,h7,h8⟩:=jJ h hv hS h2
   exact ⟨r.g,i,rfl,h6,h7,h8⟩
  |_=>exact Oi hv
 |optr a=>
  cases c with
  |Hj l i=>
   obtain ⟨r,tid,vs,h1,h2,rfl⟩:=hc
   simp only [Kc] at hv
   cases hp:Up st a l i with
   |none=>rw [hp] at hv;cases hv
   |some p=>
    rw [hp] at hv
    simp only [Am,Aa,Ae] at hv
    obtain ⟨rfl,rfl⟩:=hv
    obtain ⟨h6,h7,h8⟩:=jJ h hp hS h2
    exact .inr ⟨_,r.g,i,rfl,rfl,h6,h7,h8⟩
  |_=>exact Oi hv
 |clo f a=>
  cases c with
  |clo g Ee=>
   simp only [Kc] at hv
   split at hv
   ·rename_i hg
    obtain ⟨rfl,Jr⟩:=hg
    obtain ⟨us,rfl,h2,h3⟩:=hc
    exact ⟨us,by rw [iv Jr],BJ h a Ee us fr x h2 h3 hv hS⟩
   ·cases hv
  |_=>exact Oi hv
 |_=>exact Oi hv
theorem Zf {st:St} (h:Ng X w π st.heap) {S:Nat->Prop} (τ:Ty) (c:AV) (v:Value) (fr:Bool) (x:τ.den) (hc:Bq X w π st.heap c v)
  (hv:Fp st τ c=some (fr,x)) (hS:Tu X S fr):Cw w S τ v x:=by
 have Oi: ∀c:AC,Hq X w π st.heap c v->(if τ.Ao then none else Kc st τ c)=some (fr,x)->Cw w S τ v x:=by
  intro c hc hv
  split at hv
  ·cases hv
  ·rename_i Ua
   simp only [Ho] at Ua
   exact Cw.nO Ua (IE h τ c v fr x Ua hc hv hS)
 cases c with
 | «at»c=>
  cases c with
  |data Wh Ok y=>
   rw [dc] at hv
   split at hv
   ·rename_i ht;subst ht
    simp only [Aa,Ae] at hv
    obtain ⟨rfl,rfl⟩:=hv
    obtain ⟨cs,h1,h2⟩:=hc
    exact ⟨cs,Rep.apart hS h1,h2⟩
   ·exact Oi (.data Wh Ok y) hc hv
  |undef=>exact Oi .undef hc hv
  |skip=>exact Oi .skip hc hv
  |Ly=>exact Oi .Ly hc hv
  |Vt=>exact Oi .Vt hc hv
  |own l off len=>exact Oi (.own l off len) hc hv
  |Hj l i=>exact Oi (.Hj l i) hc hv
  |Kk l i=>exact Oi (.Kk l i) hc hv
  |clo f Ee=>exact Oi (.clo f Ee) hc hv
  |Ks l=>exact Oi (.Ks l) hc hv
  |sub l i c=>exact Oi (.sub l i c) hc hv
  |Kh l i c=>exact Oi (.Kh l i c) hc hv
 |agg cs=>
  simp only [Fp] at hv
  split at hv
  ·rename_i Ua
   obtain ⟨us,rfl,hr⟩:=hc
   exact ⟨us,lC h τ cs us fr x hr hv hS,by simp [Cb,Ua]⟩
  ·cases hv
 |bu Wh Ok y=>simp [Fp] at hv
 |Mw l=>simp [Fp] at hv
theorem ba {st:St} (h:Ng X w π st.heap) {S:Nat->Prop} : ∀(τ:Ty) (cs:List AV) (vs:List Value) (fr:Bool) (x:τ.den),cs.length=vs.length->
  (∀(i:Nat) c v,cs[i]?=some c->vs[i]?=some v->Bq X w π st.heap c v)->Dv st τ cs=some (fr,x)->Tu X S fr->Cu w S τ vs x
 | .unit,[],vs,fr,x,hl,hr,hv,hS=>by
  have:vs= []:=Cl hl.symm
  subst this;trivial
 | .unit,_::_,vs,fr,x,hl,hr,hv,hS=>by simp [Dv] at hv
 | .pair a r,[],vs,fr,x,hl,hr,hv,hS=>by simp [Dv] at hv
 | .pair a r,c::cs,[],fr,x,hl,hr,hv,hS=>by simp at hl
 | .pair a r,c::cs,v::vs,fr,x,hl,hr,hv,hS=>by
  simp only [Dv] at hv
  split at hv
  ·rename_i f1 y f2 z h1 h2
   simp only [Aa,Ae] at hv
   obtain ⟨rfl,rfl⟩:=hv
   exact ⟨Zf h a c v f1 y (hr 0 c v rfl rfl) h1 hS.and_left,ba h r cs vs f2 z (by simpa using hl) (λi c' v' hc EM=>hr (i+1) c' v' hc EM) h2 hS.and_right⟩
  ·cases hv
 | .int _,cs,vs,fr,x,hl,hr,hv,hS=>by cases cs<;>simp [Dv] at hv
 | .bool,cs,vs,fr,x,hl,hr,hv,hS=>by cases cs<;>simp [Dv] at hv
 | .str,cs,vs,fr,x,hl,hr,hv,hS=>by cases cs<;>simp [Dv] at hv
 | .slice _,cs,vs,fr,x,hl,hr,hv,hS=>by cases cs<;>simp [Dv] at hv
 | .ptr _,cs,vs,fr,x,hl,hr,hv,hS=>by cases cs<;>simp [Dv] at hv
 | .oslice _,cs,vs,fr,x,hl,hr,hv,hS=>by cases cs<;>simp [Dv] at hv
 | .optr _,cs,vs,fr,x,hl,hr,hv,hS=>by cases cs<;>simp [Dv] at hv
 | .smap _,cs,vs,fr,x,hl,hr,hv,hS=>by cases cs<;>simp [Dv] at hv
 | .clo _ _,cs,vs,fr,x,hl,hr,hv,hS=>by cases cs<;>simp [Dv] at hv
end
end Go.Proofs.Ytkkdpknjohcekaa
