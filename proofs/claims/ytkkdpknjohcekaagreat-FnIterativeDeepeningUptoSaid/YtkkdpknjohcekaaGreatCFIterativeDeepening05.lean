/-
  Part 6 of the proof that the statement FnIterativeDeepening holds.
-/
import Derived.Test.YtkkdpknjohcekaaGreatCFIterativeDeepening04
import Derived.WalkKit
import Derived.Laws.Slices
namespace Go.Proofs.YtkkdpknjohcekaaGreat
open Go.RowKit
def Bp:Ty->List Value
 | .int k=> [.int k 0]
 | .bool=> [.bool false]
 | .str=> [.string ByteArray.empty]
 | .slice _=> [.slice none 0 0]
 | .oslice _=> [.slice none 0 0]
 | .ptr _=> [.pointer none]
 | .optr _=> [.pointer none]
 | .smap _=> [.map none]
 | .clo _ _=> [.nilFunc]
 | .unit=> []
 | .pair a r=>Bp a++Bp r
structure qV (P:Program) (T:Tab) (t:TypeId) (τ:Ty):Prop where
 info: ∃i:TypeInfo,P.info? t=some i/\i.size=τ.size/\i.bytes<=256/\i.zero=some (By τ (Bp τ))
 desc:match τ with
  | .int k=>P.underlying t=some (.int k)
  | .bool=>P.underlying t=some .bool
  | .str=>P.underlying t=some .string
  | .slice e=> ∃te,P.underlying t=some (.slice te)/\T.elem t=some te/\T.ty te=some e
  | .oslice e=> ∃te,P.underlying t=some (.slice te)/\T.elem t=some te/\T.ty te=some e
  | .ptr _=> ∃u,P.underlying t=some (.pointer u)
  | .optr _=> ∃u,P.underlying t=some (.pointer u)
  | .smap _=> ∃k e,P.underlying t=some (.map k e)
  | .clo _ _=>False
  | .unit| .pair _ _=> ∃fs,P.underlying t=some (.struct fs)
def placesOf (fs:Array Field):Sem (Array (Nat×Nat)):=fs.mapM λf=>do pure (f.offset,<-sizeOf f.type)
structure Eb (P:Program) (T:Tab):Prop where
 fill: ∀t τ,T.ty t=some τ->τ.Aq=true-> ∃(fs:Array Field) (Oq:Array (Nat×Nat)),P.underlying t=some (.struct fs)/\(∀w,(placesOf fs).run P w= .ok Oq w)/\
  ∀f o u ρ,T.off t f=some (o,u)->T.ty u=some ρ->Oq[f]?=some (o,ρ.size)
 ty: ∀t τ,T.ty t=some τ->qV P T t τ
 elem: ∀t te,T.elem t=some te->P.underlying t=some (.slice te)
 mapOf: ∀t v,T.mapOf t=some v-> ∃k e,P.underlying t=some (.map k e)/\P.underlying k=some .string/\T.ty e=some v/\v.flat=true/\v.Aq=false
 off: ∀s f o t,T.off s f=some (o,t)-> ∃(fs:Array Field) (fd:Field),P.underlying s=some (.struct fs)/\fs[f]?=some fd/\fd.offset=o/\fd.type=t/\ ∃i:TypeInfo,P.info? t=some i/\i.size≠0
section
variable {P:Program} {T:Tab} {X:Ctx} {w w':World} {π:Pi} {H:List (Nat×OB)}
theorem Rd {t:TypeId} {d:TypeDesc} (h:P.underlying t=some d):(isAgg t).run P w= .ok (match d with| .struct _| .array _ _=>true|_=>false) w:=by
 unfold isAgg
 rw [Sem.run_bind,run_underlying h]
 cases d<;>rfl
theorem qV.agg {t:TypeId} {τ:Ty} (h:qV P T t τ):(isAgg t).run P w= .ok τ.Aq w:=by
 have hd:=h.desc
 cases τ<;>simp only at hd
 case int k=>rw [Rd hd];rfl
 case bool=>rw [Rd hd];rfl
 case str=>rw [Rd hd];rfl
 case slice e=>obtain ⟨te,hd,_⟩:=hd;rw [Rd hd];rfl
 case ptr e=>obtain ⟨te,hd⟩:=hd;rw [Rd hd];rfl
 case oslice e=>obtain ⟨te,hd,_⟩:=hd;rw [Rd hd];rfl
 case optr e=>obtain ⟨te,hd⟩:=hd;rw [Rd hd];rfl
 case smap e=>obtain ⟨k,te,hd⟩:=hd;rw [Rd hd];rfl
 case unit=>obtain ⟨te,hd⟩:=hd;rw [Rd hd];rfl
 case pair e r=>obtain ⟨te,hd⟩:=hd;rw [Rd hd];rfl
theorem qV.size {t:TypeId} {τ:Ty} (h:qV P T t τ):(sizeOf t).run P w= .ok τ.size w:=by
 obtain ⟨i,hi,hs,_⟩:=h.info
 simp [sizeOf,typeInfo,hi,hs]
theorem Ct.So {S:Nat->Prop} {τ:Ty} {v:Value} {x:τ.den} (Ug:τ.Aq=false) (h:Ct w S τ v x):Cells w S τ [v] x:=by
 obtain ⟨cs,hc,rfl⟩:=h
 have hl:=Cells.len τ cs x hc
 have h1:τ.size=1:=by cases τ<;>simp_all [Ty.Aq,Ty.size]
 rw [h1] at hl
 obtain ⟨c,rfl⟩:=Dz.1 hl
 simpa [By,Ug] using hc
theorem Ct.nL {S:Nat->Prop} {τ:Ty} {v:Value} {x:τ.den} (Ug:τ.Aq=false) (h:Cells w S τ [v] x):Ct w S τ v x:=
 ⟨[v],h,by simp [By,Ug]⟩
def Uc (X:Ctx) (S:Nat->Prop) (fr:Bool):Prop:=(∀k,S k->k<X.w0.heap.size/\ ¬X.gv k)/\(fr=true\/ ∀k,S k->X.Sc k)
theorem Uc.ik {S:Nat->Prop} {fr:Bool} (h:Uc X S fr) (k:Nat) (hk:S k):Cx X.w0.heap.size X.Sc π fr k:=by
 rcases h.2 with h2|h2
 ·exact .inr (.inr ⟨h2,(h.1 k hk).1⟩)
 ·exact .inr (.inl (h2 k hk))
theorem Uc.and_left {S:Nat->Prop} {f1 f2:Bool} (h:Uc X S (f1&&f2)):Uc X S f1:=
 ⟨h.1,h.2.imp (λh=>by simp at h;exact h.1) id⟩
theorem Uc.and_right {S:Nat->Prop} {f1 f2:Bool} (h:Uc X S (f1&&f2)):Uc X S f2:=
 ⟨h.1,h.2.imp (λh=>by simp at h;exact h.2) id⟩
theorem Rep.apart {S:Nat->Prop} {fr:Bool} {τ:Ty} {cs:List Value} {x:τ.den} (hS:Uc X S (fr||τ.flat)) (h:Cells w (Cx X.w0.heap.size X.Sc π fr) τ cs x):Cells w S τ cs x:=by
 cases hf:τ.flat with
 |true=>exact Cells.flat τ cs x hf h
 |false=>
  rw [hf,gV] at hS
  exact Cells.Ft (Ap _) (λ_ _ _=>rfl) (λk _ hk=>hS.ik k hk) τ cs x h
theorem Uc.own {S:Nat->Prop} {fr:Bool} (hS:Uc X S fr) (h:Nj X w π H) {k:Nat} (hk:S k): ¬Wa π k:= λho=>by
 have h1:=hS.1 k hk
 rcases (h.own ho).2 with h2|h2
 ·omega
 ·exact h1.2 h2
theorem Of (st:St) (τ:Ty) (fr:Bool) (Ov:Ty) (x:Ov.den):Dn st τ (.data fr Ov x)=if h:Ov=τ then some (fr||τ.flat,h▸x) else iA fr τ Ov x:=by
 cases τ<;>rfl
theorem de (st:St) (τ:Ty) (fr:Bool) (Ov:Ty) (x:Ov.den):Fw st τ (.at (.data fr Ov x))=if h:Ov=τ then some (fr||τ.flat,h▸x) else if τ.Aq then none else Ko st τ (.data fr Ov x):=rfl
theorem AU (st:St) (τ:Ty) (fr:Bool) (Ov:Ty) (x:Ov.den):Ko st τ (.data fr Ov x)=Dn st τ (.data fr Ov x):=by
 cases τ<;>rfl
theorem RR {S:Nat->Prop} {fr:Bool} {τ Ov:Ty} {x:Ov.den} {f:Bool} {y:τ.den} {v:Value} (h:iA fr τ Ov x=some (f,y)) (hc:Ct w (Cx X.w0.heap.size X.Sc π fr) Ov v x) (hS:Uc X S f):
  τ.Aq=false/\f=fr/\Cells w S τ [v] y:=by
 unfold iA at h
 split at h
 ·split at h
  ·rename_i e e' _ XV
   subst XV
   simp only [Aa,Ae] at h
   obtain ⟨rfl,rfl⟩:=h
   refine ⟨rfl,rfl,?_⟩
   have h1:=Rep.apart (S:=S) (τ:= .oslice e') ⟨hS.1,hS.2.imp (λh=>by rw [h];rfl) id⟩ (Ct.So rfl hc)
   simp only [Cells] at h1⊢
   rcases h1 with ⟨rfl,c,h1⟩|⟨xs,ad,len,cap,rfl,h1,h2,h3,h4⟩
   ·exact ⟨none,0,c,h1,rfl,Kw _, .inl rfl⟩
   ·exact ⟨_,len,cap,h1,h2,h3,h4.imp id λ⟨g,o,ha,h4⟩=>⟨g,o,by rw [ha],h4⟩⟩
  ·cases h
 ·split at h
  ·rename_i a a' _ haa
   subst haa
   simp only [Aa,Ae] at h
   obtain ⟨rfl,rfl⟩:=h
   refine ⟨rfl,rfl,?_⟩
   have h1:=Rep.apart (S:=S) (τ:= .ptr a') ⟨hS.1,hS.2.imp (λh=>by rw [h];rfl) id⟩ (Ct.So rfl hc)
   simp only [Cells] at h1⊢
   obtain ⟨g,o,h2⟩:=h1
   exact .inr ⟨_,g,o,rfl,h2⟩
  ·cases h
 ·cases h
theorem vd {st:St} (h:Nj X w π st.heap) {S:Nat->Prop} (τ:Ty) (c:AC) (v:Value) (fr:Bool) (x:τ.den) (Ug:τ.Aq=false) (hc:Ia X w π st.heap c v)
  (hv:Dn st τ c=some (fr,x)) (hS:Uc X S fr):Cells w S τ [v] x:=by
 cases c with
 |data Wh Ov y=>
  rw [Of] at hv
  split at hv
  ·rename_i ht;subst ht
   simp only [Aa,Ae] at hv
   obtain ⟨rfl,rfl⟩:=hv
   exact Rep.apart hS (Ct.So Ug hc)
  ·exact (RR hv hc hS).2.2
 |Mo=>
  cases τ with
  |slice e=>
   simp only [Dn,Aa,Ae] at hv
   obtain ⟨_,rfl⟩:=hv
   exact ⟨none,0,0,by rw [show v=_ from hc],rfl,Ap _, .inl rfl⟩
  |oslice e=>
   simp only [Dn,Aa,Ae] at hv
   obtain ⟨_,rfl⟩:=hv
   exact .inl ⟨rfl,0,by rw [show v=_ from hc]⟩
  |_=>simp [Dn] at hv
 |Vw=>
  cases τ with
  |optr e=>
   simp only [Dn,Aa,Ae] at hv
   obtain ⟨_,rfl⟩:=hv
   exact .inl ⟨rfl,by rw [show v=_ from hc]⟩
  |_=>simp [Dn] at hv
 |own l off len=>
  cases τ with
  |slice e=>
   simp only [Dn] at hv
   split at hv
   ·rename_i Wh tr' e' tid xs hl
    split at hv
    ·rename_i he;subst he
     simp only [Aa,Ae] at hv
     obtain ⟨rfl,rfl⟩:=hv
     obtain ⟨h2,h3⟩:=Oy hc hl
     exact pt h hl h2 h3 (λk hk ⟨r,hr,JU⟩=>hS.own h hk ⟨l,r,hr,JU⟩) (λk _ hk=>hS.ik k hk)
    ·cases hv
   ·rename_i e' tid xs hl
    split at hv
    ·rename_i he;subst he
     simp only [Aa,Ae] at hv
     obtain ⟨rfl,rfl⟩:=hv
     obtain ⟨h2,h3⟩:=c5 hc hl
     exact mE h hl h2 h3 (λk hk ⟨r,hr,JU⟩=>hS.own h hk ⟨l,r,hr,JU⟩)
    ·cases hv
   ·rename_i e' tid rows kp hl
    split at hv
    ·rename_i he;subst he
     simp only [Aa,Ae] at hv
     obtain ⟨rfl,rfl⟩:=hv
     obtain ⟨h2,h3⟩:=nV hc hl
     exact sT h hl h2 h3 (λk hk ⟨r,hr,JU⟩=>hS.own h hk ⟨l,r,hr,JU⟩) (λk hk=>hS.ik k hk)
    ·cases hv
   ·cases hv
  |_=>simp [Dn] at hv
 |sub l i c=>
  cases τ with
  |slice e=>
   simp only [Dn] at hv
   split at hv
   ·rename_i e' tid rows kp hl
    split at hv
    ·rename_i he;subst he
     simp only [Aa,Ae] at hv
     obtain ⟨rfl,rfl⟩:=hv
     exact sU h hl (DK hc hl) hc (λk hk ⟨r,hr,JU⟩=>hS.own h hk ⟨l,r,hr,JU⟩) (λk hk=>hS.ik k hk)
    ·cases hv
   ·cases hv
  |_=>simp [Dn] at hv
 |Lb l=>
  cases τ with
  |smap vt=>
   simp only [Dn] at hv
   split at hv
   ·rename_i v' m hl
    split at hv
    ·rename_i he;subst he
     simp only [Aa,Ae] at hv
     obtain ⟨_,rfl⟩:=hv
     obtain ⟨r,vt,m',h1,h2,rfl⟩:=hc
     exact xV ((h.heap l).Rz hl) (by rw [h2];rfl) λhs=>hS.own h hs ⟨l,r,h2,h.Cq h2⟩
    ·cases hv
   ·cases hv
  |_=>simp [Dn] at hv
 |_=>cases τ<;>simp [Dn] at hv
theorem Uk {st:St} {τ:Ty} (Ug:τ.Aq=false) (cs:List AC):Ff st τ cs=match cs with| [c]=>Dn st τ c|_=>none:=by
 cases τ<;>simp [Ty.Aq] at Ug<;>rcases cs with _|⟨c,_|⟨d,r⟩⟩<;>rfl
theorem lx {st:St} (h:Nj X w π st.heap) {S:Nat->Prop} : ∀(τ:Ty) (cs:List AC) (us:List Value) (fr:Bool) (x:τ.den),Gb X w π st.heap cs us->
  Ff st τ cs=some (fr,x)->Uc X S fr->Cells w S τ us x:=by
 have one: ∀(τ:Ty) (cs:List AC) (us:List Value) (fr:Bool) (x:τ.den),τ.Aq=false->Gb X w π st.heap cs us->
   Ff st τ cs=some (fr,x)->Uc X S fr->Cells w S τ us x:=by
  intro τ cs us fr x Ug hr hv hS
  rw [Uk Ug] at hv
  split at hv
  ·rename_i c
   obtain ⟨u,hu,_,hc⟩:=hr.2 0 c rfl
   have hl:us.length=1:=hr.1
   obtain ⟨u',rfl⟩:=Dz.1 hl
   simp at hu;subst hu
   exact vd h τ c _ fr x Ug hc hv hS
  ·cases hv
 intro τ
 induction τ with
 |unit=>
  intro cs us fr x hr hv hS
  cases cs with
  |nil=>have:us= []:=Ch hr.1;exact this
  |cons c cs=>simp [Ff] at hv
 |pair a r gX gT=>
  intro cs us fr x hr hv hS
  simp only [Ff] at hv
  split at hv
  ·rename_i f1 y f2 z h1 h2
   simp only [Aa,Ae] at hv
   obtain ⟨rfl,rfl⟩:=hv
   have SH:Gb X w π st.heap (cs.take a.size) (us.take a.size):=
    ⟨by simp [hr.1],λi c hc=>by
     rw [Cs] at hc⊢
     split at hc
     ·rename_i hi;simp only [hi,Py];exact hr.2 i c hc
     ·cases hc⟩
   have YM:Gb X w π st.heap (cs.drop a.size) (us.drop a.size):=
    ⟨by simp [hr.1],λi c hc=>by
     rw [Da] at hc⊢
     exact hr.2 _ c hc⟩
   exact ⟨us.take a.size,us.drop a.size,(Kf _ _).symm,gX _ _ _ _ SH h1 hS.and_left,gT _ _ _ _ YM h2 hS.and_right⟩
  ·cases hv
 |_=>exact λcs us fr x hr hv hS=>one _ cs us fr x rfl hr hv hS
theorem a6 {cs:List AC} {us:List Value} (h:Gb X w π H cs us) (i n:Nat):Gb X w π H ((cs.drop i).take n) ((us.drop i).take n):=
 ⟨by simp [h.1],λj c hc=>by
  rw [Cs] at hc⊢
  split at hc
  ·rename_i hi
   simp only [hi,Py]
   rw [Da] at hc⊢
   exact h.2 _ c hc
  ·cases hc⟩
theorem jI {st:St} (h:Nj X w π st.heap) {S:Nat->Prop} {a:Ty} {l i:Nat} {fr:Bool} {x:a.den} (hv:Uv st a l i=some (fr,x)) (hS:Uc X S fr) {r:Real} (hr:π l=some r):
  r.g<w.heap.size/\ ¬S r.g/\ ∃es:List Value,es.length=a.size/\(∀j u,es[j]?=some u->w.cell? ⟨r.g,i+j,none⟩=some u)/\Cells w S a es x:=by
 unfold Uv at hv
 split at hv
 ·rename_i tid vs hl
  obtain ⟨r',h3,h4,cur,h5,h6⟩:=(h.heap l).Rz hl
  rw [hr] at h3;cases h3
  have hc:=lx h a _ _ fr x (a6 h6 i a.size) hv hS
  refine ⟨Gk h5,λhs=>hS.own h hs ⟨l,r,hr,h4⟩,_,Cells.len a _ x hc,λj u hu=>?_,hc⟩
  rw [cellOf h5]
  rw [Cs] at hu
  split at hu
  ·rw [Da] at hu;simpa using hu
  ·cases hu
 ·cases hv
theorem AT {st:St} (h:Nj X w π st.heap) {S:Nat->Prop} : ∀(τ:Ty) (Ec:List (Nat×Nat)) (us:List Value) (fr:Bool) (x:τ.den),us.length=Ec.length->
  (∀(j:Nat) p,Ec[j]?=some p-> ∃r tid vs,Av st.heap p.1=some (.var tid vs)/\π p.1=some r/\us[j]?=some (.pointer (some ⟨r.g,p.2,none⟩)))->
  Lq st τ Ec=some (fr,x)->Uc X S fr->Cells w S τ us x:=by
 intro τ
 induction τ with
 |unit=>
  intro Ec us fr x hl hr hv hS
  cases Ec with
  |nil=>exact Ch hl
  |cons c cs=>simp [Lq] at hv
 |pair a r _ gT=>
  intro Ec us fr x hl hr hv hS
  cases a with
  |ptr a=>
   cases Ec with
   |nil=>simp [Lq] at hv
   |cons c cs=>
    obtain ⟨l,i⟩:=c
    simp only [Lq] at hv
    split at hv
    ·rename_i f1 y f2 z h1 h2
     simp only [Aa,Ae] at hv
     obtain ⟨rfl,rfl⟩:=hv
     cases us with
     |nil=>simp at hl
     |cons u us=>
      obtain ⟨r0,tid,vs,h3,h4,h5⟩:=hr 0 (l,i) rfl
      simp only [Bq,Aa] at h5
      subst h5
      obtain ⟨h6,h7,es,h8,h9,qb⟩:=jI h h1 hS.and_left h4
      exact ⟨[_],us,rfl,⟨r0.g,i,rfl,h6,h7,es,h8,h9,qb⟩,gT cs us f2 z (by simpa using hl) (λj p hp=>hr (j+1) p hp) h2 hS.and_right⟩
    ·cases hv
  |_=>cases Ec<;>simp [Lq] at hv
 |_=>intro Ec us fr x hl hr hv;cases Ec<;>simp [Lq] at hv
theorem HH {st:St} (h:Nj X w π st.heap) {S:Nat->Prop} (τ:Ty) (c:AC) (v:Value) (fr:Bool) (x:τ.den) (Ug:τ.Aq=false) (hc:Ia X w π st.heap c v)
  (hv:Ko st τ c=some (fr,x)) (hS:Uc X S fr):Cells w S τ [v] x:=by
 have Ol:Dn st τ c=some (fr,x)->Cells w S τ [v] x:= λhv=>vd h τ c v fr x Ug hc hv hS
 cases τ with
 |ptr a=>
  cases c with
  |Hs l i=>
   obtain ⟨r,tid,vs,h1,h2,rfl⟩:=hc
   obtain ⟨h6,h7,h8⟩:=jI h hv hS h2
   exact ⟨r.g,i,rfl,h6,h7,h8⟩
  |_=>exact Ol hv
 |optr a=>
  cases c with
  |Hs l i=>
   obtain ⟨r,tid,vs,h1,h2,rfl⟩:=hc
   simp only [Ko] at hv
   cases hp:Uv st a l i with
   |none=>rw [hp] at hv;cases hv
   |some p=>
    rw [hp] at hv
    simp only [Ak,Aa,Ae] at hv
    obtain ⟨rfl,rfl⟩:=hv
    obtain ⟨h6,h7,h8⟩:=jI h hp hS h2
    exact .inr ⟨_,r.g,i,rfl,rfl,h6,h7,h8⟩
  |_=>exact Ol hv
 |clo f a=>
  cases c with
  |clo g Ec=>
   simp only [Ko] at hv
   split at hv
   ·rename_i hg
    obtain ⟨rfl,Lr⟩:=hg
    obtain ⟨us,rfl,h2,h3⟩:=hc
    exact ⟨us,by rw [ix Lr],AT h a Ec us fr x h2 h3 hv hS⟩
   ·cases hv
  |_=>exact Ol hv
 |_=>exact Ol hv
theorem Ze {st:St} (h:Nj X w π st.heap) {S:Nat->Prop} (τ:Ty) (c:AV) (v:Value) (fr:Bool) (x:τ.den) (hc:Bm X w π st.heap c v)
  (hv:Fw st τ c=some (fr,x)) (hS:Uc X S fr):Ct w S τ v x:=by
 have Ol: ∀c:AC,Ia X w π st.heap c v->(if τ.Aq then none else Ko st τ c)=some (fr,x)->Ct w S τ v x:=by
  intro c hc hv
  split at hv
  ·cases hv
  ·rename_i Ug
   simp only [Hx] at Ug
   exact Ct.nL Ug (HH h τ c v fr x Ug hc hv hS)
 cases c with
 | «at»c=>
  cases c with
  |data Wh Ov y=>
   rw [de] at hv
   split at hv
   ·rename_i ht;subst ht
    simp only [Aa,Ae] at hv
    obtain ⟨rfl,rfl⟩:=hv
    obtain ⟨cs,h1,h2⟩:=hc
    exact ⟨cs,Rep.apart hS h1,h2⟩
   ·exact Ol (.data Wh Ov y) hc hv
  |undef=>exact Ol .undef hc hv
  |skip=>exact Ol .skip hc hv
  |Mo=>exact Ol .Mo hc hv
  |Vw=>exact Ol .Vw hc hv
  |own l off len=>exact Ol (.own l off len) hc hv
  |Hs l i=>exact Ol (.Hs l i) hc hv
  |Ku l i=>exact Ol (.Ku l i) hc hv
  |clo f Ec=>exact Ol (.clo f Ec) hc hv
  |Lb l=>exact Ol (.Lb l) hc hv
  |sub l i c=>exact Ol (.sub l i c) hc hv
  |Kr l i c=>exact Ol (.Kr l i c) hc hv
 |agg cs=>
  simp only [Fw] at hv
  split at hv
  ·rename_i Ug
   obtain ⟨us,rfl,hr⟩:=hc
   exact ⟨us,lx h τ cs us fr x hr hv hS,by simp [By,Ug]⟩
  ·cases hv
 |bw Wh Ov y=>simp [Fw] at hv
 |Nd l=>simp [Fw] at hv
theorem bf {st:St} (h:Nj X w π st.heap) {S:Nat->Prop} : ∀(τ:Ty) (cs:List AV) (vs:List Value) (fr:Bool) (x:τ.den),cs.length=vs.length->
  (∀(i:Nat) c v,cs[i]?=some c->vs[i]?=some v->Bm X w π st.heap c v)->Du st τ cs=some (fr,x)->Uc X S fr->Cp w S τ vs x
 | .unit,[],vs,fr,x,hl,hr,hv,hS=>by
  have:vs= []:=Ch hl.symm
  subst this;trivial
 | .unit,_::_,vs,fr,x,hl,hr,hv,hS=>by simp [Du] at hv
 | .pair a r,[],vs,fr,x,hl,hr,hv,hS=>by simp [Du] at hv
 | .pair a r,c::cs,[],fr,x,hl,hr,hv,hS=>by simp at hl
 | .pair a r,c::cs,v::vs,fr,x,hl,hr,hv,hS=>by
  simp only [Du] at hv
  split at hv
  ·rename_i f1 y f2 z h1 h2
   simp only [Aa,Ae] at hv
   obtain ⟨rfl,rfl⟩:=hv
   exact ⟨Ze h a c v f1 y (hr 0 c v rfl rfl) h1 hS.and_left,bf h r cs vs f2 z (by simpa using hl) (λi c' v' hc yU=>hr (i+1) c' v' hc yU) h2 hS.and_right⟩
  ·cases hv
 | .int _,cs,vs,fr,x,hl,hr,hv,hS=>by cases cs<;>simp [Du] at hv
 | .bool,cs,vs,fr,x,hl,hr,hv,hS=>by cases cs<;>simp [Du] at hv
 | .str,cs,vs,fr,x,hl,hr,hv,hS=>by cases cs<;>simp [Du] at hv
 | .slice _,cs,vs,fr,x,hl,hr,hv,hS=>by cases cs<;>simp [Du] at hv
 | .ptr _,cs,vs,fr,x,hl,hr,hv,hS=>by cases cs<;>simp [Du] at hv
 | .oslice _,cs,vs,fr,x,hl,hr,hv,hS=>by cases cs<;>simp [Du] at hv
 | .optr _,cs,vs,fr,x,hl,hr,hv,hS=>by cases cs<;>simp [Du] at hv
 | .smap _,cs,vs,fr,x,hl,hr,hv,hS=>by cases cs<;>simp [Du] at hv
 | .clo _ _,cs,vs,fr,x,hl,hr,hv,hS=>by cases cs<;>simp [Du] at hv
end
end Go.Proofs.YtkkdpknjohcekaaGreat
