/-
  Part 6 of the proof that the statement FnTables holds.
-/
import Derived.Test.YtkkdpknjohcekaaCFTables04
import Derived.WalkKit
import Derived.Laws.Slices
namespace Go.Proofs.Ytkkdpknjohcekaa
open Go.RowKit
def Bl:Ty->List Value
 | .int k=> [.int k 0]
 | .bool=> [.bool false]
 | .str=> [.string ByteArray.empty]
 | .slice _=> [.slice none 0 0]
 | .oslice _=> [.slice none 0 0]
 | .ptr _=> [.pointer none]
 | .optr _=> [.pointer none]
 | .smap _=> [.map none]
 | .clo _ _=> [.nilFunc]
 | .unit=> []
 | .pair a r=>Bl a++Bl r
structure pD (P:Program) (T:Tab) (t:TypeId) (τ:Ty):Prop where
 info: ∃i:TypeInfo,P.info? t=some i/\i.size=τ.size/\i.bytes<=256/\i.zero=some (Bs τ (Bl τ))
 desc:match τ with
  | .int k=>P.underlying t=some (.int k)
  | .bool=>P.underlying t=some .bool
  | .str=>P.underlying t=some .string
  | .slice e=> ∃te,P.underlying t=some (.slice te)/\T.elem t=some te/\T.ty te=some e
  | .oslice e=> ∃te,P.underlying t=some (.slice te)/\T.elem t=some te/\T.ty te=some e
  | .ptr _=> ∃u,P.underlying t=some (.pointer u)
  | .optr _=> ∃u,P.underlying t=some (.pointer u)
  | .smap _=> ∃k e,P.underlying t=some (.map k e)
  | .clo _ _=>False
  | .unit| .pair _ _=> ∃fs,P.underlying t=some (.struct fs)
def placesOf (fs:Array Field):Sem (Array (Nat×Nat)):=fs.mapM λf=>do pure (f.offset,<-sizeOf f.type)
structure Ed (P:Program) (T:Tab):Prop where
 fill: ∀t τ,T.ty t=some τ->τ.Am=true-> ∃(fs:Array Field) (Py:Array (Nat×Nat)),P.underlying t=some (.struct fs)/\(∀w,(placesOf fs).run P w= .ok Py w)/\
  ∀f o u ρ,T.off t f=some (o,u)->T.ty u=some ρ->Py[f]?=some (o,ρ.size)
 ty: ∀t τ,T.ty t=some τ->pD P T t τ
 elem: ∀t te,T.elem t=some te->P.underlying t=some (.slice te)
 mapOf: ∀t v,T.mapOf t=some v-> ∃k e,P.underlying t=some (.map k e)/\P.underlying k=some .string/\T.ty e=some v/\v.flat=true/\v.Am=false
 off: ∀s f o t,T.off s f=some (o,t)-> ∃(fs:Array Field) (fd:Field),P.underlying s=some (.struct fs)/\fs[f]?=some fd/\fd.offset=o/\fd.type=t/\ ∃i:TypeInfo,P.info? t=some i/\i.size≠0
section
variable {P:Program} {T:Tab} {X:Ctx} {w w':World} {π:Pi} {H:List (Nat×OB)}
theorem Pq {t:TypeId} {d:TypeDesc} (h:P.underlying t=some d):(isAgg t).run P w= .ok (match d with| .struct _| .array _ _=>true|_=>false) w:=by
 unfold isAgg
 rw [Sem.run_bind,run_underlying h]
 cases d<;>rfl
theorem pD.agg {t:TypeId} {τ:Ty} (h:pD P T t τ):(isAgg t).run P w= .ok τ.Am w:=by
 have hd:=h.desc
 cases τ<;>simp only at hd
 case int k=>rw [Pq hd];rfl
 case bool=>rw [Pq hd];rfl
 case str=>rw [Pq hd];rfl
 case slice e=>obtain ⟨te,hd,_⟩:=hd;rw [Pq hd];rfl
 case ptr e=>obtain ⟨te,hd⟩:=hd;rw [Pq hd];rfl
 case oslice e=>obtain ⟨te,hd,_⟩:=hd;rw [Pq hd];rfl
 case optr e=>obtain ⟨te,hd⟩:=hd;rw [Pq hd];rfl
 case smap e=>obtain ⟨k,te,hd⟩:=hd;rw [Pq hd];rfl
 case unit=>obtain ⟨te,hd⟩:=hd;rw [Pq hd];rfl
 case pair e r=>obtain ⟨te,hd⟩:=hd;rw [Pq hd];rfl
theorem pD.size {t:TypeId} {τ:Ty} (h:pD P T t τ):(sizeOf t).run P w= .ok τ.size w:=by
 obtain ⟨i,hi,hs,_⟩:=h.info
 simp [sizeOf,typeInfo,hi,hs]
theorem Df.Qr {S:Nat->Prop} {τ:Ty} {v:Value} {x:τ.den} (Sf:τ.Am=false) (h:Df w S τ v x):Cells w S τ [v] x:=by
 obtain ⟨cs,hc,rfl⟩:=h
 have hl:=Cells.len τ cs x hc
 have h1:τ.size=1:=by cases τ<;>simp_all [Ty.Am,Ty.size]
 rw [h1] at hl
 obtain ⟨c,rfl⟩:=Dv.1 hl
 simpa [Bs,Sf] using hc
theorem Df.lA {S:Nat->Prop} {τ:Ty} {v:Value} {x:τ.den} (Sf:τ.Am=false) (h:Cells w S τ [v] x):Df w S τ v x:=
 ⟨[v],h,by simp [Bs,Sf]⟩
def Qa (X:Ctx) (S:Nat->Prop) (fr:Bool):Prop:=(∀k,S k->k<X.w0.heap.size/\ ¬X.gv k)/\(fr=true\/ ∀k,S k->X.Sc k)
theorem Qa.fj {S:Nat->Prop} {fr:Bool} (h:Qa X S fr) (k:Nat) (hk:S k):Cp X.w0.heap.size X.Sc π fr k:=by
 rcases h.2 with h2|h2
 ·exact .inr (.inr ⟨h2,(h.1 k hk).1⟩)
 ·exact .inr (.inl (h2 k hk))
theorem Qa.and_left {S:Nat->Prop} {f1 f2:Bool} (h:Qa X S (f1&&f2)):Qa X S f1:=
 ⟨h.1,h.2.imp (λh=>by simp at h;exact h.1) id⟩
theorem Qa.and_right {S:Nat->Prop} {f1 f2:Bool} (h:Qa X S (f1&&f2)):Qa X S f2:=
 ⟨h.1,h.2.imp (λh=>by simp at h;exact h.2) id⟩
theorem Rep.apart {S:Nat->Prop} {fr:Bool} {τ:Ty} {cs:List Value} {x:τ.den} (hS:Qa X S (fr||τ.flat)) (h:Cells w (Cp X.w0.heap.size X.Sc π fr) τ cs x):Cells w S τ cs x:=by
 cases hf:τ.flat with
 |true=>exact Cells.flat τ cs x hf h
 |false=>
  rw [hf,eY] at hS
  exact Cells.Gg (Ar _) (λ_ _ _=>rfl) (λk _ hk=>hS.fj k hk) τ cs x h
theorem Qa.own {S:Nat->Prop} {fr:Bool} (hS:Qa X S fr) (h:Mh X w π H) {k:Nat} (hk:S k): ¬Ue π k:= λho=>by
 have h1:=hS.1 k hk
 rcases (h.own ho).2 with h2|h2
 ·omega
 ·exact h1.2 h2
theorem Qa.mono {S:Nat->Prop} {f1 f2:Bool} (h:Qa X S f1) (hf:f1=true->f2=true):Qa X S f2:=⟨h.1,h.2.imp hf id⟩
theorem Mx (st:St) (τ:Ty) (fr:Bool) (Nh:Ty) (x:Nh.den):Dj st τ (.data fr Nh x)=if h:Nh=τ then some (fr||τ.flat,h▸x) else fD fr τ Nh x:=by
 cases τ<;>rfl
theorem bB (st:St) (τ:Ty) (fr:Bool) (Nh:Ty) (x:Nh.den):Fe st τ (.at (.data fr Nh x))=if h:Nh=τ then some (fr||τ.flat,h▸x) else if τ.Am then none else Jf st τ (.data fr Nh x):=rfl
theorem xI (st:St) (τ:Ty) (fr:Bool) (Nh:Ty) (x:Nh.den):Jf st τ (.data fr Nh x)=Dj st τ (.data fr Nh x):=by
 cases τ<;>rfl
theorem JH {S:Nat->Prop} {fr:Bool} {τ Nh:Ty} {x:Nh.den} {f:Bool} {y:τ.den} {v:Value} (h:fD fr τ Nh x=some (f,y)) (hc:Df w (Cp X.w0.heap.size X.Sc π fr) Nh v x) (hS:Qa X S f):
  τ.Am=false/\f=fr/\Cells w S τ [v] y:=by
 unfold fD at h
 split at h
 ·split at h
  ·rename_i e e' _ PB
   subst PB
   simp only [Aa,Ae] at h
   obtain ⟨rfl,rfl⟩:=h
   refine ⟨rfl,rfl,?_⟩
   have h1:=Rep.apart (S:=S) (τ:= .oslice e') ⟨hS.1,hS.2.imp (λh=>by rw [h];rfl) id⟩ (Df.Qr rfl hc)
   simp only [Cells] at h1⊢
   rcases h1 with ⟨rfl,c,h1⟩|⟨xs,ad,len,cap,rfl,h1,h2,h3,h4⟩
   ·exact ⟨none,0,c,h1,rfl,Mz _, .inl rfl⟩
   ·exact ⟨_,len,cap,h1,h2,h3,h4.imp id λ⟨g,o,ha,h4⟩=>⟨g,o,by rw [ha],h4⟩⟩
  ·cases h
 ·split at h
  ·rename_i a a' _ haa
   subst haa
   simp only [Aa,Ae] at h
   obtain ⟨rfl,rfl⟩:=h
   refine ⟨rfl,rfl,?_⟩
   have h1:=Rep.apart (S:=S) (τ:= .ptr a') ⟨hS.1,hS.2.imp (λh=>by rw [h];rfl) id⟩ (Df.Qr rfl hc)
   simp only [Cells] at h1⊢
   obtain ⟨g,o,h2⟩:=h1
   exact .inr ⟨_,g,o,rfl,h2⟩
  ·cases h
 ·cases h
theorem sa {st:St} (h:Mh X w π st.heap) {S:Nat->Prop} (τ:Ty) (c:AC) (v:Value) (fr:Bool) (x:τ.den) (Sf:τ.Am=false) (hc:Gx X w π st.heap c v)
  (hv:Dj st τ c=some (fr,x)) (hS:Qa X S fr):Cells w S τ [v] x:=by
 cases c with
 |data Um Nh y=>
  rw [Mx] at hv
  split at hv
  ·rename_i ht;subst ht
   simp only [Aa,Ae] at hv
   obtain ⟨rfl,rfl⟩:=hv
   exact Rep.apart hS (Df.Qr Sf hc)
  ·exact (JH hv hc hS).2.2
 |Le=>
  cases τ with
  |slice e=>
   simp only [Dj,Aa,Ae] at hv
   obtain ⟨_,rfl⟩:=hv
   exact ⟨none,0,0,by rw [show v=_ from hc],rfl,Ar _, .inl rfl⟩
  |oslice e=>
   simp only [Dj,Aa,Ae] at hv
   obtain ⟨_,rfl⟩:=hv
   exact .inl ⟨rfl,0,by rw [show v=_ from hc]⟩
  |_=>simp [Dj] at hv
 |Ua=>
  cases τ with
  |optr e=>
   simp only [Dj,Aa,Ae] at hv
   obtain ⟨_,rfl⟩:=hv
   exact .inl ⟨rfl,by rw [show v=_ from hc]⟩
  |_=>simp [Dj] at hv
 |own l off len=>
  cases τ with
  |slice e=>
   simp only [Dj] at hv
   split at hv
   ·rename_i Um SX e' tid xs hl
    split at hv
    ·rename_i he;subst he
     simp only [Aa,Ae] at hv
     obtain ⟨rfl,rfl⟩:=hv
     obtain ⟨h2,h3⟩:=Nl hc hl
     exact mK h hl h2 h3 (λk hk ⟨r,hr,DA⟩=>hS.own h hk ⟨l,r,hr,DA⟩) (λk _ hk=>hS.fj k hk)
    ·cases hv
   ·rename_i e' tid xs hl
    split at hv
    ·rename_i he;subst he
     simp only [Aa,Ae] at hv
     obtain ⟨rfl,rfl⟩:=hv
     obtain ⟨h2,h3⟩:=aC hc hl
     exact kB h hl h2 h3 (λk hk ⟨r,hr,DA⟩=>hS.own h hk ⟨l,r,hr,DA⟩)
    ·cases hv
   ·rename_i e' tid rows kp hl
    split at hv
    ·rename_i he;subst he
     simp only [Aa,Ae] at hv
     obtain ⟨rfl,rfl⟩:=hv
     obtain ⟨h2,h3⟩:=lJ hc hl
     exact qi h hl h2 h3 (λk hk ⟨r,hr,DA⟩=>hS.own h hk ⟨l,r,hr,DA⟩) (λk hk=>hS.fj k hk)
    ·cases hv
   ·cases hv
  |_=>simp [Dj] at hv
 |sub l i c=>
  cases τ with
  |slice e=>
   simp only [Dj] at hv
   split at hv
   ·rename_i e' tid rows kp hl
    split at hv
    ·rename_i he;subst he
     simp only [Aa,Ae] at hv
     obtain ⟨rfl,rfl⟩:=hv
     exact qj h hl (yO hc hl) hc (λk hk ⟨r,hr,DA⟩=>hS.own h hk ⟨l,r,hr,DA⟩) (λk hk=>hS.fj k hk)
    ·cases hv
   ·cases hv
  |_=>simp [Dj] at hv
 |Jw l=>
  cases τ with
  |smap vt=>
   simp only [Dj] at hv
   split at hv
   ·rename_i v' m hl
    split at hv
    ·rename_i he;subst he
     simp only [Aa,Ae] at hv
     obtain ⟨_,rfl⟩:=hv
     obtain ⟨r,vt,m',h1,h2,rfl⟩:=hc
     exact uV ((h.heap l).Qi hl) (by rw [h2];rfl) λhs=>hS.own h hs ⟨l,r,h2,h.Ci h2⟩
    ·cases hv
   ·cases hv
  |_=>simp [Dj] at hv
 |_=>cases τ<;>simp [Dj] at hv
theorem Sl {st:St} {τ:Ty} (Sf:τ.Am=false) (cs:List AC):Er st τ cs=match cs with| [c]=>Dj st τ c|_=>none:=by
 cases τ<;>simp [Ty.Am] at Sf<;>rcases cs with _|⟨c,_|⟨d,r⟩⟩<;>rfl
theorem jx {st:St} (h:Mh X w π st.heap) {S:Nat->Prop} : ∀(τ:Ty) (cs:List AC) (us:List Value) (fr:Bool) (x:τ.den),Fh X w π st.heap cs us->
  Er st τ cs=some (fr,x)->Qa X S fr->Cells w S τ us x:=by
 have one: ∀(τ:Ty) (cs:List AC) (us:List Value) (fr:Bool) (x:τ.den),τ.Am=false->Fh X w π st.heap cs us->
   Er st τ cs=some (fr,x)->Qa X S fr->Cells w S τ us x:=by
  intro τ cs us fr x Sf hr hv hS
  rw [Sl Sf] at hv
  split at hv
  ·rename_i c
   obtain ⟨u,hu,_,hc⟩:=hr.2 0 c rfl
   have hl:us.length=1:=hr.1
   obtain ⟨u',rfl⟩:=Dv.1 hl
   simp at hu;subst hu
   exact sa h τ c _ fr x Sf hc hv hS
  ·cases hv
 intro τ
 induction τ with
 |unit=>
  intro cs us fr x hr hv hS
  cases cs with
  |nil=>have:us= []:=De hr.1;exact this
  |cons c cs=>simp [Er] at hv
 |pair a r fa eV=>
  intro cs us fr x hr hv hS
  simp only [Er] at hv
  split at hv
  ·rename_i f1 y f2 z h1 h2
   simp only [Aa,Ae] at hv
   obtain ⟨rfl,rfl⟩:=hv
   have VI:Fh X w π st.heap (cs.take a.size) (us.take a.size):=
    ⟨by simp [hr.1],λi c hc=>by
     rw [Ck] at hc⊢
     split at hc
     ·rename_i hi;simp only [hi,Pw];exact hr.2 i c hc
     ·cases hc⟩
   have YD:Fh X w π st.heap (cs.drop a.size) (us.drop a.size):=
    ⟨by simp [hr.1],λi c hc=>by
     rw [Ct] at hc⊢
     exact hr.2 _ c hc⟩
   exact ⟨us.take a.size,us.drop a.size,(Hp _ _).symm,fa _ _ _ _ VI h1 hS.and_left,eV _ _ _ _ YD h2 hS.and_right⟩
  ·cases hv
 |_=>exact λcs us fr x hr hv hS=>one _ cs us fr x rfl hr hv hS
theorem Xu {cs:List AC} {us:List Value} (h:Fh X w π H cs us) (i n:Nat):Fh X w π H ((cs.drop i).take n) ((us.drop i).take n):=
 ⟨by simp [h.1],λj c hc=>by
  rw [Ck] at hc⊢
  split at hc
  ·rename_i hi
   simp only [hi,Pw]
   rw [Ct] at hc⊢
   exact h.2 _ c hc
  ·cases hc⟩
theorem hY {st:St} (h:Mh X w π st.heap) {S:Nat->Prop} {a:Ty} {l i:Nat} {fr:Bool} {x:a.den} (hv:Sx st a l i=some (fr,x)) (hS:Qa X S fr) {r:Real} (hr:π l=some r):
  r.g<w.heap.size/\ ¬S r.g/\ ∃es:List Value,es.length=a.size/\(∀j u,es[j]?=some u->w.cell? ⟨r.g,i+j,none⟩=some u)/\Cells w S a es x:=by
 unfold Sx at hv
 split at hv
 ·rename_i tid vs hl
  obtain ⟨r',h3,h4,cur,h5,h6⟩:=(h.heap l).Qi hl
  rw [hr] at h3;cases h3
  have hc:=jx h a _ _ fr x (Xu h6 i a.size) hv hS
  refine ⟨Ft h5,λhs=>hS.own h hs ⟨l,r,hr,h4⟩,_,Cells.len a _ x hc,λj u hu=>?_,hc⟩
  rw [cellOf h5]
  rw [Ck] at hu
  split at hu
  ·rw [Ct] at hu;simpa using hu
  ·cases hu
 ·cases hv
theorem xH {st:St} (h:Mh X w π st.heap) {S:Nat->Prop} : ∀(τ:Ty) (Dy:List (Nat×Nat)) (us:List Value) (fr:Bool) (x:τ.den),us.length=Dy.length->
  (∀(j:Nat) p,Dy[j]?=some p-> ∃r tid vs,Aq st.heap p.1=some (.var tid vs)/\π p.1=some r/\us[j]?=some (.pointer (some ⟨r.g,p.2,none⟩)))->
  Kk st τ Dy=some (fr,x)->Qa X S fr->Cells w S τ us x:=by
 intro τ
 induction τ with
 |unit=>
  intro Dy us fr x hl hr hv hS
  cases Dy with
  |nil=>exact De hl
  |cons c cs=>simp [Kk] at hv
 |pair a r _ eV=>
  intro Dy us fr x hl hr hv hS
  cases a with
  |ptr a=>
   cases Dy with
   |nil=>simp [Kk] at hv
   |cons c cs=>
    obtain ⟨l,i⟩:=c
    simp only [Kk] at hv
    split at hv
    ·rename_i f1 y f2 z h1 h2
     simp only [Aa,Ae] at hv
     obtain ⟨rfl,rfl⟩:=hv
     cases us with
     |nil=>simp at hl
     |cons u us=>
      obtain ⟨r0,tid,vs,h3,h4,h5⟩:=hr 0 (l,i) rfl
      simp only [Bn,Aa] at h5
      subst h5
      obtain ⟨h6,h7,es,h8,h9,p9⟩:=hY h h1 hS.and_left h4
      exact ⟨[_],us,rfl,⟨r0.g,i,rfl,h6,h7,es,h8,h9,p9⟩,eV cs us f2 z (by simpa using hl) (λj p hp=>hr (j+1) p hp) h2 hS.and_right⟩
    ·cases hv
  |_=>cases Dy<;>simp [Kk] at hv
 |_=>intro Dy us fr x hl hr hv;cases Dy<;>simp [Kk] at hv
theorem AU {st:St} (h:Mh X w π st.heap) {S:Nat->Prop} (τ:Ty) (c:AC) (v:Value) (fr:Bool) (x:τ.den) (Sf:τ.Am=false) (hc:Gx X w π st.heap c v)
  (hv:Jf st τ c=some (fr,x)) (hS:Qa X S fr):Cells w S τ [v] x:=by
 have Nf:Dj st τ c=some (fr,x)->Cells w S τ [v] x:= λhv=>sa h τ c v fr x Sf hc hv hS
 cases τ with
 |ptr a=>
  cases c with
  |Gs l i=>
   obtain ⟨r,tid,vs,h1,h2,rfl⟩:=hc
   obtain ⟨h6,h7,h8⟩:=hY h hv hS h2
   exact ⟨r.g,i,rfl,h6,h7,h8⟩
  |_=>exact Nf hv
 |optr a=>
  cases c with
  |Gs l i=>
   obtain ⟨r,tid,vs,h1,h2,rfl⟩:=hc
   simp only [Jf] at hv
   cases hp:Sx st a l i with
   |none=>rw [hp] at hv;cases hv
   |some p=>
    rw [hp] at hv
    simp only [Ai,Aa,Ae] at hv
    obtain ⟨rfl,rfl⟩:=hv
    obtain ⟨h6,h7,h8⟩:=hY h hp hS h2
    exact .inr ⟨_,r.g,i,rfl,rfl,h6,h7,h8⟩
  |_=>exact Nf hv
 |clo f a=>
  cases c with
  |clo g Dy=>
   simp only [Jf] at hv
   split at hv
   ·rename_i hg
    obtain ⟨rfl,Js⟩:=hg
    obtain ⟨us,rfl,h2,h3⟩:=hc
    exact ⟨us,by rw [fy Js],xH h a Dy us fr x h2 h3 hv hS⟩
   ·cases hv
  |_=>exact Nf hv
 |_=>exact Nf hv
theorem Wu {st:St} (h:Mh X w π st.heap) {S:Nat->Prop} (τ:Ty) (c:AV) (v:Value) (fr:Bool) (x:τ.den) (hc:Bi X w π st.heap c v)
  (hv:Fe st τ c=some (fr,x)) (hS:Qa X S fr):Df w S τ v x:=by
 have Nf: ∀c:AC,Gx X w π st.heap c v->(if τ.Am then none else Jf st τ c)=some (fr,x)->Df w S τ v x:=by
  intro c hc hv
  split at hv
  ·cases hv
  ·rename_i Sf
   simp only [Ht] at Sf
   exact Df.lA Sf (AU h τ c v fr x Sf hc hv hS)
 cases c with
 | «at»c=>
  cases c with
  |data Um Nh y=>
   rw [bB] at hv
   split at hv
   ·rename_i ht;subst ht
    simp only [Aa,Ae] at hv
    obtain ⟨rfl,rfl⟩:=hv
    obtain ⟨cs,h1,h2⟩:=hc
    exact ⟨cs,Rep.apart hS h1,h2⟩
   ·exact Nf (.data Um Nh y) hc hv
  |undef=>exact Nf .undef hc hv
  |skip=>exact Nf .skip hc hv
  |Le=>exact Nf .Le hc hv
  |Ua=>exact Nf .Ua hc hv
  |own l off len=>exact Nf (.own l off len) hc hv
  |Gs l i=>exact Nf (.Gs l i) hc hv
  |Jl l i=>exact Nf (.Jl l i) hc hv
  |clo f Dy=>exact Nf (.clo f Dy) hc hv
  |Jw l=>exact Nf (.Jw l) hc hv
  |sub l i c=>exact Nf (.sub l i c) hc hv
  |Ji l i c=>exact Nf (.Ji l i c) hc hv
 |agg cs=>
  simp only [Fe] at hv
  split at hv
  ·rename_i Sf
   obtain ⟨us,rfl,hr⟩:=hc
   exact ⟨us,jx h τ cs us fr x hr hv hS,by simp [Bs,Sf]⟩
  ·cases hv
 |Zw Um Nh y=>simp [Fe] at hv
 |Mb l=>simp [Fe] at hv
theorem Zj {st:St} (h:Mh X w π st.heap) {S:Nat->Prop} : ∀(τ:Ty) (cs:List AV) (vs:List Value) (fr:Bool) (x:τ.den),cs.length=vs.length->
  (∀(i:Nat) c v,cs[i]?=some c->vs[i]?=some v->Bi X w π st.heap c v)->Dr st τ cs=some (fr,x)->Qa X S fr->Ch w S τ vs x
 | .unit,[],vs,fr,x,hl,hr,hv,hS=>by
  have:vs= []:=De hl.symm
  subst this;trivial
 | .unit,_::_,vs,fr,x,hl,hr,hv,hS=>by simp [Dr] at hv
 | .pair a r,[],vs,fr,x,hl,hr,hv,hS=>by simp [Dr] at hv
 | .pair a r,c::cs,[],fr,x,hl,hr,hv,hS=>by simp at hl
 | .pair a r,c::cs,v::vs,fr,x,hl,hr,hv,hS=>by
  simp only [Dr] at hv
  split at hv
  ·rename_i f1 y f2 z h1 h2
   simp only [Aa,Ae] at hv
   obtain ⟨rfl,rfl⟩:=hv
   exact ⟨Wu h a c v f1 y (hr 0 c v rfl rfl) h1 hS.and_left,Zj h r cs vs f2 z (by simpa using hl) (λi c' v' hc yX=>hr (i+1) c' v' hc yX) h2 hS.and_right⟩
  ·cases hv
 | .int _,cs,vs,fr,x,hl,hr,hv,hS=>by cases cs<;>simp [Dr] at hv
 | .bool,cs,vs,fr,x,hl,hr,hv,hS=>by cases cs<;>simp [Dr] at hv
 | .str,cs,vs,fr,x,hl,hr,hv,hS=>by cases cs<;>simp [Dr] at hv
 | .slice _,cs,vs,fr,x,hl,hr,hv,hS=>by cases cs<;>simp [Dr] at hv
 | .ptr _,cs,vs,fr,x,hl,hr,hv,hS=>by cases cs<;>simp [Dr] at hv
 | .oslice _,cs,vs,fr,x,hl,hr,hv,hS=>by cases cs<;>simp [Dr] at hv
 | .optr _,cs,vs,fr,x,hl,hr,hv,hS=>by cases cs<;>simp [Dr] at hv
 | .smap _,cs,vs,fr,x,hl,hr,hv,hS=>by cases cs<;>simp [Dr] at hv
 | .clo _ _,cs,vs,fr,x,hl,hr,hv,hS=>by cases cs<;>simp [Dr] at hv
end
end Go.Proofs.Ytkkdpknjohcekaa
