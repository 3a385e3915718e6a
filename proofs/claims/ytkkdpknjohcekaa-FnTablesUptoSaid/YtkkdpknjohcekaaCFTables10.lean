/-
  Part 11 of the proof that the statement FnTables holds.
-/
import Derived.Test.YtkkdpknjohcekaaCFTables09
namespace Go.Proofs.Ytkkdpknjohcekaa
open Go.RowKit
section
variable {P:Program} {T:Tab} {X:Ctx} {w w':World} {π:Pi} {H:List (Nat×OB)}
theorem OB.map_map (f g:AC->AC) (b:OB):OB.map g (OB.map f b)=OB.map (λc=>g (f c)) b:=by
 cases b with
 |var t vs=>simp [OB.map,Function.comp_def]
 |_=>rfl
theorem OB.zn (b:OB):OB.map (λc=>c) b=b:=by
 cases b with
 |var t vs=>simp [OB.map]
 |_=>rfl
def Ke (π π':Pi) (H H':List (Nat×OB)):Prop:= ∀l b',Aq H' l=some b'->π' l=π l/\ ∃b f,Aq H l=some b/\b'=OB.map f b
theorem Ke.refl (π:Pi) (H:List (Nat×OB)):Ke π π H H:= λ_ b h=>⟨rfl,b,λc=>c,h,(OB.zn b).symm⟩
theorem Ke.trans {aK NI π3:Pi} {H1 H2 H3:List (Nat×OB)} (h:Ke aK NI H1 H2) (h':Ke NI π3 H2 H3):Ke aK π3 H1 H3:= λl b hb=>by
 obtain ⟨e1,b1,f1,h1,rfl⟩:=h' l b hb
 obtain ⟨e2,b2,f2,h2,rfl⟩:=h l b1 h1
 exact ⟨e1.trans e2,b2,_,h2,OB.map_map f2 f1 b2⟩
theorem Ke.freeze (st:St) (l:Nat) (fr:Bool) (e:Ty) (xs:List e.den):Ke π (Vh π l none) st.heap (st.freeze l fr e xs).heap:= λk b hb=>by
 by_cases hk:k=l
 ·subst hk;rw [St.Ll] at hb;cases hb
 ·rw [St.Qo st l k fr e xs hk] at hb
  cases h0:Aq st.heap k with
  |none=>rw [h0] at hb;cases hb
  |some b0=>
   rw [h0] at hb
   simp only [Ai,Aa] at hb
   exact ⟨Fv π none hk,b0,_,rfl,hb.symm⟩
theorem Ke.Ie (st:St) (l:Nat) (v:Ty) (m:ByteArray->Option v.den):Ke π (Vh π l none) st.heap (st.Ie l v m).heap:= λk b hb=>by
 by_cases hk:k=l
 ·subst hk;rw [St.Rp] at hb;cases hb
 ·rw [St.Qb st l k v m hk] at hb
  cases h0:Aq st.heap k with
  |none=>rw [h0] at hb;cases hb
  |some b0=>
   rw [h0] at hb
   simp only [Ai,Aa] at hb
   exact ⟨Fv π none hk,b0,_,rfl,hb.symm⟩
theorem Ke.gone {π':Pi} {H':List (Nat×OB)} (k:Ke π π' H H') {l:Nat} (h:Aq H l=none):Aq H' l=none:=by
 cases hb:Aq H' l with
 |none=>rfl
 |some b=>
  obtain ⟨_,b0,f,h1,_⟩:=k l b hb
  rw [h] at h1;cases h1
def Di (st:St):AC->AC
 | .own l off len=>match st.at l with
  |some (.arr fr _ e _ xs)=> .data fr (.slice e) ((xs.drop off).take len)
  |some (.Gl e _ xs)=> .data false (.slice e) ((xs.drop off).take len)
  |_=> .own l off len
 | .Jw l=>match st.at l with
  |some (.Ub v m)=> .data false (.smap v) m
  |_=> .Jw l
 |c=>c
theorem Ru {st:St} {c:AC} (h:c.settled=true):Di st c=c:=by
 cases c<;>simp [AC.settled] at h<;>rfl
theorem sZ {st st':St} {f:AC->AC} {l:Nat} (hH: ∀m,m≠l->Aq st'.heap m=(Aq st.heap m).map (OB.map f)) {c:AC} (hc: ∀k∈c.refs,k≠l):Di st' c=Di st c:=by
 cases c with
 |own k off len=>
  have hk:k≠l:=hc k (by simp [AC.refs])
  simp only [Di,St.at,hH k hk]
  cases Aq st.heap k with
  |none=>rfl
  |some b=>cases b<;>rfl
 |Jw k=>
  have hk:k≠l:=hc k (by simp [AC.refs])
  simp only [Di,St.at,hH k hk]
  cases Aq st.heap k with
  |none=>rfl
  |some b=>cases b<;>rfl
 |_=>rfl
theorem eG {a:Act} : ∀(n:Nat) (st:St) (π:Pi) (cs:List AC) (us:List Value) (fE:List AC) (st':St),Bd X π st a w->Fh X w π st.heap cs us->
  Gy n st cs=some (fE,st')-> ∃π',Bd X π' st' a w/\Fh X w π' st'.heap fE us/\fE.all (·.settled)=true/\Ke π π' st.heap st'.heap/\fE=cs.map (Di st)/\
   (∀k,k∈cs.flatMap AC.refs->Aq st'.heap k=none)
 |0,st,π,cs,us,fE,st',h,hr,he=>by
  simp only [Gy] at he
  split at he
  ·rename_i hs
   simp only [Aa,Ae] at he
   obtain ⟨rfl,rfl⟩:=he
   have KA:=At.1 hs
   exact ⟨π,h,hr,hs,Ke.refl _ _,((Ek λc hc=>Ru (KA c hc)).trans (List.map_id'' (λ_=>rfl) cs)).symm,λk hk=>by
    obtain ⟨c,hc,xX⟩:=Oe.1 hk
    have:=KA c hc
    cases c<;>simp [AC.settled] at this<;>simp [AC.refs] at xX⟩
  ·cases he
 |n+1,st,π,cs,us,fE,st',h,hr,he=>by
  simp only [Gy] at he
  have step: ∀(f:AC->AC) (l:Nat) (st1:St),Bd X (Vh π l none) st1 a w->Move X w w π (Vh π l none) st.heap st1.heap f->Aq st1.heap l=none->(∀m,m≠l->Aq st1.heap m=(Aq st.heap m).map (OB.map f))->
    Ke π (Vh π l none) st.heap st1.heap->(∀c∈cs,(∀k∈c.refs,k≠l)->f c=c)->(∀c∈cs,l∈c.refs->(f c).refs= []/\(Di st1 (f c)).settled=true->f c=Di st c)->
    (∀c∈cs,l∈c.refs->(f c).refs= [])->Gy n st1 (cs.map f)=some (fE,st')->
    ∃π',Bd X π' st' a w/\Fh X w π' st'.heap fE us/\fE.all (·.settled)=true/\Ke π π' st.heap st'.heap/\fE=cs.map (Di st)/\(∀k,k∈cs.flatMap AC.refs->Aq st'.heap k=none):=by
   intro f l st1 h1 m hl hH hK hf0 hf1 ZU he
   obtain ⟨π',h2,h3,h4,h5,h6,h7⟩:=eG n st1 _ (cs.map f) us fE st' h1 (m.TW hr) he
   refine ⟨π',h2,h3,h4,hK.trans h5,?_,λk hk=>?_⟩
   ·rw [h6,List.map_map]
    refine Ek λc hc=>?_
    simp only [Function.comp]
    by_cases Of:l∈c.refs
    ·have Kt:=At.1 h4
     have fS:Di st1 (f c)∈fE:=by rw [h6];exact Bo.2 ⟨f c,Bo.2 ⟨c,hc,rfl⟩,rfl⟩
     have hs:=Kt _ fS
     have h8:=hf1 c hc Of ⟨ZU c hc Of,hs⟩
     have h9:Di st1 (f c)=f c:=by
      have:=ZU c hc Of
      cases hfc:f c<;>rw [hfc] at this<;>first|(simp [AC.refs] at this;done)|rfl
     rw [h9,h8]
    ·have Jg: ∀k∈c.refs,k≠l:= λk hk e=>Of (e▸hk)
     rw [hf0 c hc Jg]
     exact sZ hH Jg
   ·obtain ⟨c,hc,xX⟩:=Oe.1 hk
    by_cases Ra:k=l
    ·subst Ra;exact h5.gone hl
    ·by_cases Of:l∈c.refs
     ·
      have Kt:=At.1 h4
      have fS:Di st1 (f c)∈fE:=by rw [h6];exact Bo.2 ⟨f c,Bo.2 ⟨c,hc,rfl⟩,rfl⟩
      have hs:=Kt _ fS
      have h8:=hf1 c hc Of ⟨ZU c hc Of,hs⟩
      have h9:Di st1 (f c)=f c:=by
       have:=ZU c hc Of
       cases hfc:f c<;>rw [hfc] at this<;>first|(simp [AC.refs] at this;done)|rfl
      rw [h9,h8] at hs
      cases c with
      |clo g Dy=>simp [Di,AC.settled] at hs
      |own k' _ _=>simp [AC.refs] at Of xX;exact absurd (xX.trans Of.symm) Ra
      |Jw k'=>simp [AC.refs] at Of xX;exact absurd (xX.trans Of.symm) Ra
      |Gs k' _=>simp [AC.refs] at Of xX;exact absurd (xX.trans Of.symm) Ra
      |Jl k' _=>simp [AC.refs] at Of xX;exact absurd (xX.trans Of.symm) Ra
      |sub k' _ _=>simp [AC.refs] at Of xX;exact absurd (xX.trans Of.symm) Ra
      |Ji k' _ _=>simp [AC.refs] at Of xX;exact absurd (xX.trans Of.symm) Ra
      |_=>simp [AC.refs] at xX
     ·have Jg: ∀k∈c.refs,k≠l:= λk hk e=>Of (e▸hk)
      exact h7 k (Oe.2 ⟨f c,Bo.2 ⟨c,hc,rfl⟩,by rw [hf0 c hc Jg];exact xX⟩)
  have y0: ∀(st1:St) (c:AC),(Di st1 c).settled=true->c≠ .undef:= λst1 c hs e=>by rw [e] at hs;simp [Di,AC.settled] at hs
  split at he
  ·rename_i hf
   simp only [Aa,Ae] at he
   obtain ⟨rfl,rfl⟩:=he
   have KA: ∀c∈cs,c.settled=true:= λc hc=>by have:=List.find?_eq_none.1 hf c hc;simpa using this
   exact ⟨π,h,hr,At.2 KA,Ke.refl _ _,((Ek λc hc=>Ru (KA c hc)).trans (List.map_id'' (λ_=>rfl) cs)).symm,λk hk=>by
    obtain ⟨c,hc,xX⟩:=Oe.1 hk
    have:=KA c hc
    cases c<;>simp [AC.settled] at this<;>simp [AC.refs] at xX⟩
  ·rename_i l off len hf
   split at he
   ·rename_i fr tr e tid xs hl
    unfold St.at at hl
    obtain ⟨h1,m⟩:=h.freeze (fr:=fr) (.inl ⟨tr,tid,hl⟩)
    refine step _ l _ h1 m (St.Ll st l fr e xs) (λm hm=>St.Qo st l m fr e xs hm) (Ke.freeze st l fr e xs) (λc _ hc=>fP hc) (λc _ Of hs=>?_) (λc _ Of=>?_) he
    ·cases c with
     |own k o n=>have:k=l:=(Ad.1 Of).symm
                 subst this;simp only [Co,Ab,Di,St.at,hl]
     |Gs k o=>have:k=l:=(Ad.1 Of).symm
              subst this;simp only [Co,Ab] at hs;exact absurd rfl (y0 _ _ hs.2)
     |Jl k o=>have:k=l:=(Ad.1 Of).symm
              subst this;simp only [Co,Ab] at hs;exact absurd rfl (y0 _ _ hs.2)
     |sub k o o2=>have:k=l:=(Ad.1 Of).symm
                  subst this;simp only [Co,Ab] at hs;exact absurd rfl (y0 _ _ hs.2)
     |Ji k o o2=>have:k=l:=(Ad.1 Of).symm
                 subst this;simp only [Co,Ab] at hs;exact absurd rfl (y0 _ _ hs.2)
     |Jw k=>have:k=l:=(Ad.1 Of).symm
            subst this;simp only [Co,Ab] at hs;exact absurd rfl (y0 _ _ hs.2)
     |clo g Dy=>
      simp only [Co] at hs
      rw [Ab (by simpa [AC.refs] using Of)] at hs
      exact absurd rfl (y0 _ _ hs.2)
     |_=>simp [AC.refs] at Of
    ·cases c with
     |own k o n=>have:k=l:=(Ad.1 Of).symm
                 subst this;simp only [Co,Ab];rfl
     |Gs k o=>have:k=l:=(Ad.1 Of).symm
              subst this;simp only [Co,Ab];rfl
     |Jl k o=>have:k=l:=(Ad.1 Of).symm
              subst this;simp only [Co,Ab];rfl
     |sub k o o2=>have:k=l:=(Ad.1 Of).symm
                  subst this;simp only [Co,Ab];rfl
     |Ji k o o2=>have:k=l:=(Ad.1 Of).symm
                 subst this;simp only [Co,Ab];rfl
     |Jw k=>have:k=l:=(Ad.1 Of).symm
            subst this;simp only [Co,Ab];rfl
     |clo g Dy=>simp only [Co];rw [Ab (by simpa [AC.refs] using Of)];rfl
     |_=>simp [AC.refs] at Of
   ·rename_i e tid xs hl
    unfold St.at at hl
    obtain ⟨h1,m⟩:=h.freeze (fr:=false) (.inr ⟨rfl,tid,hl⟩)
    refine step _ l _ h1 m (St.Ll st l false e xs) (λm hm=>St.Qo st l m false e xs hm) (Ke.freeze st l false e xs) (λc _ hc=>fP hc) (λc _ Of hs=>?_) (λc _ Of=>?_) he
    ·cases c with
     |own k o n=>have:k=l:=(Ad.1 Of).symm
                 subst this;simp only [Co,Ab,Di,St.at,hl]
     |Gs k o=>have:k=l:=(Ad.1 Of).symm
              subst this;simp only [Co,Ab] at hs;exact absurd rfl (y0 _ _ hs.2)
     |Jl k o=>have:k=l:=(Ad.1 Of).symm
              subst this;simp only [Co,Ab] at hs;exact absurd rfl (y0 _ _ hs.2)
     |sub k o o2=>have:k=l:=(Ad.1 Of).symm
                  subst this;simp only [Co,Ab] at hs;exact absurd rfl (y0 _ _ hs.2)
     |Ji k o o2=>have:k=l:=(Ad.1 Of).symm
                 subst this;simp only [Co,Ab] at hs;exact absurd rfl (y0 _ _ hs.2)
     |Jw k=>have:k=l:=(Ad.1 Of).symm
            subst this;simp only [Co,Ab] at hs;exact absurd rfl (y0 _ _ hs.2)
     |clo g Dy=>
      simp only [Co] at hs
      rw [Ab (by simpa [AC.refs] using Of)] at hs
      exact absurd rfl (y0 _ _ hs.2)
     |_=>simp [AC.refs] at Of
    ·cases c with
     |own k o n=>have:k=l:=(Ad.1 Of).symm
                 subst this;simp only [Co,Ab];rfl
     |Gs k o=>have:k=l:=(Ad.1 Of).symm
              subst this;simp only [Co,Ab];rfl
     |Jl k o=>have:k=l:=(Ad.1 Of).symm
              subst this;simp only [Co,Ab];rfl
     |sub k o o2=>have:k=l:=(Ad.1 Of).symm
                  subst this;simp only [Co,Ab];rfl
     |Ji k o o2=>have:k=l:=(Ad.1 Of).symm
                 subst this;simp only [Co,Ab];rfl
     |Jw k=>have:k=l:=(Ad.1 Of).symm
            subst this;simp only [Co,Ab];rfl
     |clo g Dy=>simp only [Co];rw [Ab (by simpa [AC.refs] using Of)];rfl
     |_=>simp [AC.refs] at Of
   ·cases he
  ·rename_i l hf
   split at he
   ·rename_i v mm hl
    unfold St.at at hl
    obtain ⟨h1,m⟩:=h.Ie hl
    refine step _ l _ h1 m (St.Rp st l v mm) (λm hm=>St.Qb st l m v mm hm) (Ke.Ie st l v mm) (λc _ hc=>qh hc) (λc _ Of hs=>?_) (λc _ Of=>?_) he
    ·cases c with
     |Jw k=>have:k=l:=(Ad.1 Of).symm
            subst this;simp only [Gq,Ab,Di,St.at,hl]
     |Gs k o=>have:k=l:=(Ad.1 Of).symm
              subst this;simp only [Gq,Ab] at hs;exact absurd rfl (y0 _ _ hs.2)
     |Jl k o=>have:k=l:=(Ad.1 Of).symm
              subst this;simp only [Gq,Ab] at hs;exact absurd rfl (y0 _ _ hs.2)
     |sub k o o2=>have:k=l:=(Ad.1 Of).symm
                  subst this;simp only [Gq,Ab] at hs;exact absurd rfl (y0 _ _ hs.2)
     |Ji k o o2=>have:k=l:=(Ad.1 Of).symm
                 subst this;simp only [Gq,Ab] at hs;exact absurd rfl (y0 _ _ hs.2)
     |own k o n=>have:k=l:=(Ad.1 Of).symm
                 subst this;simp only [Gq,Ab] at hs;exact absurd rfl (y0 _ _ hs.2)
     |clo g Dy=>
      simp only [Gq] at hs
      rw [Ab (by simpa [AC.refs] using Of)] at hs
      exact absurd rfl (y0 _ _ hs.2)
     |_=>simp [AC.refs] at Of
    ·cases c with
     |own k o n=>have:k=l:=(Ad.1 Of).symm
                 subst this;simp only [Gq,Ab];rfl
     |Gs k o=>have:k=l:=(Ad.1 Of).symm
              subst this;simp only [Gq,Ab];rfl
     |Jl k o=>have:k=l:=(Ad.1 Of).symm
              subst this;simp only [Gq,Ab];rfl
     |sub k o o2=>have:k=l:=(Ad.1 Of).symm
                  subst this;simp only [Gq,Ab];rfl
     |Ji k o o2=>have:k=l:=(Ad.1 Of).symm
                 subst this;simp only [Gq,Ab];rfl
     |Jw k=>have:k=l:=(Ad.1 Of).symm
            subst this;simp only [Gq,Ab];rfl
     |clo g Dy=>simp only [Gq];rw [Ab (by simpa [AC.refs] using Of)];rfl
     |_=>simp [AC.refs] at Of
   ·cases he
  ·cases he
def fc (X:Ctx) (w:World) (π:Pi) (F:List Nat):Prop:=F.Nodup/\ ∀b∈F,(X.w0.heap.size<=b\/X.gv b)/\b<w.heap.size/\ ∀l r,π l=some r-> ¬r.cl b
theorem Wd {S:Nat->Prop} : ∀(e:Ty) (es:List Value) (x:e.den),e.flat=true->Cells w S e es x->Cn w [] e es x
 | .int k,cs,n,_,h=>⟨rfl,h⟩
 | .bool,cs,n,_,h=>⟨rfl,h⟩
 | .str,cs,n,_,h=>⟨rfl,h⟩
 | .unit,cs,n,_,h=>⟨rfl,h⟩
 | .pair a r,cs,x,hf,h=>by
  simp only [Ty.flat,Ag] at hf
  simp only [Cells] at h
  simp only [Cn]
  obtain ⟨c1,c2,h1,h2,h3⟩:=h
  exact ⟨c1,c2,[],[],h1,rfl,Wd a c1 x.1 hf.1 h2,Wd r c2 x.2 hf.2 h3⟩
 | .slice _,_,_,hf,_=>by simp [Ty.flat] at hf
 | .oslice _,_,_,hf,_=>by simp [Ty.flat] at hf
 | .ptr _,_,_,hf,_=>by simp [Ty.flat] at hf
 | .optr _,_,_,hf,_=>by simp [Ty.flat] at hf
 | .smap _,_,_,hf,_=>by simp [Ty.flat] at hf
 | .clo _ _,_,_,hf,_=>by simp [Ty.flat] at hf
theorem Qz {Fs:List (List Nat)} (off len:Nat) (b:Nat) (h:b∈List.flatten ((Fs.drop off).take len)):b∈List.flatten Fs:=by
 obtain ⟨F,hF,hb⟩:=Gw.1 h
 exact Gw.2 ⟨F,Uc (Ic hF),hb⟩
theorem eJ {α:Type} {a b:List (List α)} (h:a.Sublist b):(List.flatten a).Sublist (List.flatten b):=by
 induction h with
 |slnil=>exact List.Sublist.refl _
 |cons c _ ih=>simp only [Km];exact ih.trans (List.sublist_append_right _ _)
 |cons_cons c _ ih=>simp only [Km];exact List.Sublist.append (List.Sublist.refl _) ih
theorem kg {Fs:List (List Nat)} (off len:Nat) (h:(List.flatten Fs).Nodup):(List.flatten ((Fs.drop off).take len)).Nodup:=by
 have h1:((Fs.drop off).take len).Sublist Fs:=(List.take_sublist len _).trans (List.drop_sublist off Fs)
 exact h.sublist (eJ h1)
theorem iG {P:Nat->Prop} {r:Real} {off len:Nat} {v:Value} {e:Ty} {tid:TypeId} {xs:List e.den} {cur:Array Value} (h2:w.heap[r.g]?=some (.cells cur tid (0,0))) (Yp:cur.size=(r.o+r.cap)*e.size) (qn:r.cap<=maxLen)
  (hlen:off+len<=xs.length) (hv:He (some r) e.size off len v) (ht:Vs w P r.g r.o cur e xs) (hg:P r.g):
  ∃F,Cn w F (.slice e) [v] ((xs.drop off).take len)/\F.Nodup/\ ∀b∈F,P b:=by
 have UG:((xs.drop off).take len).length=len:=by simp;omega
 obtain ⟨ad,rfl,hc,ha⟩:=hv
 obtain ⟨Fs,t1,t2,t3,t4⟩:=ht
 ·refine ⟨r.g::List.flatten ((Fs.drop off).take len),⟨some ad,len,r.cap-off,rfl,UG.symm,by omega, .inr ⟨ad,r.g,(r.o+off)*e.size,_,rfl,λh0=>ha (by omega),⟨cur,tid,r.o+off,h2,rfl,by rw [Yp];congr 1;omega,by omega⟩,rfl,by simp;omega,λi x F hx hF=>?_⟩⟩,?_,λb hb=>?_⟩
  ·have hi:i<len:=by
    have:=(Aj.1 hx).1
    rw [UG] at this;exact this
   have hx':xs[off+i]?=some x:=by rw [Ck,Ab hi,Ct] at hx;exact hx
   have hF':Fs[off+i]?=some F:=by rw [Ck,Ab hi,Ct] at hF;exact hF
   obtain ⟨es,he,hj,vZ⟩:=t4 (off+i) x F hx' hF'
   refine ⟨es,he,λj u hu=>?_,vZ⟩
   rw [cellOf h2]
   have:=hj j u hu
   rw [<-this]
   congr 1
   rw [<-Gh,Cx (r.o+off) i]
  ·have:=Ca.1 t2
   exact Ca.2 ⟨λhm=>this.1 (Qz off len _ hm),kg off len this.2⟩
  ·rcases Bb.1 hb with rfl|hb
   ·exact hg
   ·exact t3 b (Qz off len b hb)
theorem lV {st:St} (h:Mh X w π st.heap) {c:AC} {v:Value} (hc:Gx X w π st.heap c v) (ht:Qt st c=true) (τ:Ty) (fr:Bool) (x:τ.den) (Sf:τ.Am=false) (JU:τ.tree=true)
  (hv:Dj st τ (Di st c)=some (fr,x)): ∃F,Cn w F τ [v] x/\F.Nodup/\ ∀b∈F,∃l r,l∈c.refs/\π l=some r/\r.cl b:=by
 cases c with
 |data Um Nh y=>
  simp only [Qt] at ht
  simp only [Di,Mx] at hv
  split at hv
  ·rename_i he;subst he
   simp only [Aa,Ae] at hv
   obtain ⟨_,rfl⟩:=hv
   exact ⟨[],Wd Nh _ _ ht (Df.Qr Sf hc),Kw,λb hb=>by cases hb⟩
  ·unfold fD at hv
   split at hv
   ·simp [Ty.flat] at ht
   ·simp [Ty.flat] at ht
   ·cases hv
 |Le=>
  have hc:v= .slice none 0 0:=hc
  subst hc
  cases τ with
  |slice e=>
   simp only [Di,Dj,Aa,Ae] at hv
   obtain ⟨_,rfl⟩:=hv
   exact ⟨[],⟨none,0,0,rfl,rfl,Ar _, .inl ⟨rfl,rfl,rfl,rfl⟩⟩,Kw,λb hb=>by cases hb⟩
  |oslice e=>simp [Ty.tree] at JU
  |_=>simp [Di,Dj] at hv
 |own l off len=>
  simp only [Qt] at ht
  split at ht
  ·rename_i Um tr e tid xs hl
   have Ns:=hl
   unfold St.at at hl
   simp only [Di,Ns,Mx] at hv
   split at hv
   ·rename_i he;subst he
    simp only [Aa,Ae] at hv
    obtain ⟨_,rfl⟩:=hv
    obtain ⟨h2,h3⟩:=Nl hc hl
    have hb:=(h.heap l).Qi hl
    simp only [Bw,Jj] at hb
    cases hp:π l with
    |none=>
     rw [hp] at h3
     obtain ⟨rfl,rfl,rfl⟩:=h3
     exact ⟨[],⟨none,0,0,rfl,by simp,Ar _, .inl ⟨by simp,rfl,rfl,rfl⟩⟩,Kw,λb hb=>by cases hb⟩
    |some r=>
     rw [hp] at hb h3
     obtain ⟨k1,cur,_,k2,k3,k4,k5,k6,k7⟩:=hb
     have HT:Vs w r.cl r.g r.o cur e xs:=by
      simp only [Jq] at ht
      rcases ht with ht|ht
      ·exact k7 ht
      ·refine ⟨List.replicate xs.length [],by simp,by simp,by simp,λi x F hx hF=>?_⟩
       obtain ⟨es,e1,e2,e3⟩:=k6 i x hx
       have:F= []:=by
        have:=Bx hF
        exact Fa this
       subst this
       exact ⟨es,e1,e2,Wd e es x ht e3⟩
     obtain ⟨F,f1,f2,f3⟩:=iG k2 k3 k4 h2 h3 HT (h.sub l r _ hp k1.1)
     exact ⟨F,f1,f2,λb hb=>⟨l,r,by simp [AC.refs],hp,f3 b hb⟩⟩
   ·cases τ<;>simp [fD] at hv
  ·rename_i e tid xs hl
   have Ns:=hl
   unfold St.at at hl
   simp only [Di,Ns,Mx] at hv
   split at hv
   ·rename_i he;subst he
    simp only [Aa,Ae] at hv
    obtain ⟨_,rfl⟩:=hv
    obtain ⟨h2,h3⟩:=aC hc hl
    have hb:=(h.heap l).Qi hl
    simp only [Bw,Na] at hb
    cases hp:π l with
    |none=>
     rw [hp] at h3
     obtain ⟨rfl,rfl,rfl⟩:=h3
     exact ⟨[],⟨none,0,0,rfl,by simp,Ar _, .inl ⟨by simp,rfl,rfl,rfl⟩⟩,Kw,λb hb=>by cases hb⟩
    |some r=>
     rw [hp] at hb h3
     obtain ⟨k1,cur,_,k2,k3,k4,k5,k7⟩:=hb
     obtain ⟨F,f1,f2,f3⟩:=iG k2 k3 k4 h2 h3 k7 k1
     exact ⟨F,f1,f2,λb hb=>⟨l,r,by simp [AC.refs],hp,h.sub l r b hp (f3 b hb)⟩⟩
   ·cases τ<;>simp [fD] at hv
  ·cases ht
 |_=>simp [Qt] at ht
theorem Wi: ∀ {l:List Nat},Yh l=true->l.Nodup
 | [],_=>Kw
 |a::r,h=>by
  simp only [Yh,Ag,Dn,List.contains_eq_mem,decide_eq_false_iff_not] at h
  exact Ca.2 ⟨h.1,Wi h.2⟩
theorem Zi {st st':St} {τ:Ty} {c:AC} (h:c.settled=true):Dj st' τ c=Dj st τ c:=by
 cases c<;>simp [AC.settled] at h<;>cases τ<;>rfl
theorem tu {st st':St} (h:Mh X w π st.heap): ∀(τ:Ty) (cs:List AC) (us:List Value) (fr:Bool) (x:τ.den),Fh X w π st.heap cs us->cs.all (Qt st)=true->(cs.flatMap AC.refs).Nodup->
  (cs.map (Di st)).all (·.settled)=true->τ.tree=true->Er st' τ (cs.map (Di st))=some (fr,x)-> ∃F,Cn w F τ us x/\F.Nodup/\ ∀b∈F,∃l r,l∈cs.flatMap AC.refs/\π l=some r/\r.cl b:=by
 have one: ∀(τ:Ty) (cs:List AC) (us:List Value) (fr:Bool) (x:τ.den),τ.Am=false->Fh X w π st.heap cs us->cs.all (Qt st)=true->
   (cs.map (Di st)).all (·.settled)=true->τ.tree=true->Er st' τ (cs.map (Di st))=some (fr,x)-> ∃F,Cn w F τ us x/\F.Nodup/\ ∀b∈F,∃l r,l∈cs.flatMap AC.refs/\π l=some r/\r.cl b:=by
  intro τ cs us fr x Sf hr ht hs Uf hv
  rw [Sl Sf] at hv
  rcases cs with _|⟨c,_|⟨d,cs⟩⟩
  ·cases hv
  ·simp only [Bh,List.map_nil] at hv
   obtain ⟨u,hu,_,hc⟩:=hr.2 0 c rfl
   have hl:us.length=1:=hr.1
   obtain ⟨u',rfl⟩:=Dv.1 hl
   simp at hu;subst hu
   rw [Zi (st:=st) (by simpa using hs)] at hv
   obtain ⟨F,f1,f2,f3⟩:=lV h hc (by simpa using ht) τ fr x Sf Uf hv
   exact ⟨F,f1,f2,λb hb=>by obtain ⟨l,r,g1,g2⟩:=f3 b hb;exact ⟨l,r,by simpa using g1,g2⟩⟩
  ·cases hv
 intro τ
 induction τ with
 |unit=>
  intro cs us fr x hr ht hd hs Uf hv
  cases cs with
  |nil=>have:us= []:=De hr.1;subst this;exact ⟨[],⟨rfl,rfl⟩,Kw,λb hb=>by cases hb⟩
  |cons c cs=>simp [Er] at hv
 |pair a r fa eV=>
  intro cs us fr x hr ht hd hs Uf hv
  simp only [Ty.tree,Ag] at Uf
  simp only [Er] at hv
  split at hv
  ·rename_i f1 y f2 z h1 h2
   simp only [Aa,Ae] at hv
   obtain ⟨rfl,rfl⟩:=hv
   have VI:Fh X w π st.heap (cs.take a.size) (us.take a.size):=by have:=Xu hr 0 a.size;simpa using this
   have YD:Fh X w π st.heap (cs.drop a.size) (us.drop a.size):=
    ⟨by simp [hr.1],λi c hc=>by
     rw [Ct] at hc⊢
     exact hr.2 _ c hc⟩
   have Afa: ∀ {p:AC->Bool} {l:List AC} (n:Nat),l.all p=true->(l.take n).all p=true:= λn hl=>At.2 λc hc=>At.1 hl c (Ic hc)
   have Afb: ∀ {p:AC->Bool} {l:List AC} (n:Nat),l.all p=true->(l.drop n).all p=true:= λn hl=>At.2 λc hc=>At.1 hl c (Uc hc)
   have hdd:((cs.take a.size++cs.drop a.size).flatMap AC.refs).Nodup:=by rw [Hp];exact hd
   rw [List.flatMap_append] at hdd
   obtain ⟨d1,d2,d3⟩:=Dg.1 hdd
   rw [<-List.map_take] at h1
   rw [<-List.map_drop] at h2
   obtain ⟨F1,t1,n1,c1⟩:=fa _ _ f1 y VI (Afa _ ht) d1 (by rw [List.map_take];exact Afa _ hs) Uf.1 h1
   obtain ⟨F2,t2,n2,c2⟩:=eV _ _ f2 z YD (Afb _ ht) d2 (by rw [List.map_drop];exact Afb _ hs) Uf.2 h2
   refine ⟨F1++F2,⟨us.take a.size,us.drop a.size,F1,F2,(Hp _ _).symm,rfl,t1,t2⟩,Dg.2 ⟨n1,n2,λb hb b' sk e=>?_⟩,λb hb=>?_⟩
   ·subst e
    obtain ⟨l1,r1,g1,g2,g3⟩:=c1 b hb
    obtain ⟨l2,r2,g4,g5,g6⟩:=c2 b sk
    exact d3 l1 g1 l2 g4 (h.inj l1 l2 r1 r2 b g2 g5 g3 g6)
   ·have Kt: ∀l,(l∈(cs.take a.size).flatMap AC.refs\/l∈(cs.drop a.size).flatMap AC.refs)->l∈cs.flatMap AC.refs:= λl hl=>by
     rw [<-Aw,<-List.flatMap_append,Hp] at hl;exact hl
    rcases Aw.1 hb with hb|hb
    ·obtain ⟨l1,r1,g1,g2⟩:=c1 b hb;exact ⟨l1,r1,Kt l1 (.inl g1),g2⟩
    ·obtain ⟨l1,r1,g1,g2⟩:=c2 b hb;exact ⟨l1,r1,Kt l1 (.inr g1),g2⟩
  ·cases hv
 |_=>exact λcs us fr x hr ht _ hs Uf hv=>one _ cs us fr x rfl hr ht hs Uf hv
theorem HE {π':Pi} {st st':St} {a:Act} (h:Bd X π st a w) (h':Bd X π' st' a w) (k:Ke π π' st.heap st'.heap) {ls:List Nat} (hg: ∀l∈ls,Aq st'.heap l=none) {F:List Nat} (hF:F.Nodup)
  (hc: ∀b∈F,∃l r,l∈ls/\π l=some r/\r.cl b):fc X w π' F:=by
 refine ⟨hF,λb hb=>?_⟩
 obtain ⟨l,r,h1,h2,h3⟩:=hc b hb
 have hp:=h.1.place l r b h2 h3
 refine ⟨hp.1,hp.2,λl2 r2 h4 h5=>?_⟩
 cases hh:Aq st'.heap l2 with
 |none=>rw [(h'.1.heap l2).emp hh] at h4;cases h4
 |some b'=>
  have h6:=(k l2 b' hh).1
  rw [h6] at h4
  have:=h.1.inj l l2 r r2 b h2 h4 h3 h5
  subst this
  rw [hg l h1] at hh;cases hh
theorem aE {st:St} {a:Act} (h:Bd X π st a w) {c:AV} {v:Value} (hc:Bi X w π st.heap c v) {c':AV} {st':St} (he:settle st c=some (c',st')):
  ∃π',Bd X π' st' a w/\Bi X w π' st'.heap c' v/\c'.settled=true/\Ke π π' st.heap st'.heap/\
   (Rw st c=true-> ∀(τ:Ty) (fr:Bool) (x:τ.den),τ.tree=true->Fe st' τ c'=some (fr,x)-> ∃F us,Cn w F τ us x/\v=Bs τ us/\fc X w π' F/\ ∀b∈F,∃l r,π l=some r/\r.cl b):=by
 have cell: ∀(a0:AC) (st':St) (π':Pi),Gx X w π st.heap a0 v->Bd X π' st' a w->(Di st a0).settled=true->Ke π π' st.heap st'.heap->(∀l∈a0.refs,Aq st'.heap l=none)->
   Qt st a0=true-> ∀(τ:Ty) (fr:Bool) (x:τ.den),τ.tree=true->Fe st' τ (.at (Di st a0))=some (fr,x)-> ∃F us,Cn w F τ us x/\v=Bs τ us/\fc X w π' F/\ ∀b∈F,∃l r,π l=some r/\r.cl b:=by
  intro a0 st1 aK hr h1 hs hk hg ht τ fr x Uf hv
  by_cases Sf:τ.Am=true
  ·
   cases yW:Di st a0 with
   |data Um Nh y=>
    rw [yW,bB] at hv
    split at hv
    ·rename_i het;subst het
     simp only [Aa,Ae] at hv
     obtain ⟨_,rfl⟩:=hv
     cases a0 with
     |data p7 τ2 z=>
      simp only [Di,AC.data.injEq] at yW
      obtain ⟨rfl,rfl,hz⟩:=yW
      have hz:=eq_of_heq hz
      subst hz
      obtain ⟨cs,vZ,rfl⟩:=hr
      exact ⟨[],cs,Wd _ cs _ ht vZ,rfl,⟨Kw,λb hb=>by cases hb⟩,λb hb=>by cases hb⟩
     |own l off len=>
      simp only [Di] at yW
      split at yW
      ·simp only [AC.data.injEq] at yW;obtain ⟨_,h2,_⟩:=yW;subst h2;simp [Ty.Am] at Sf
      ·simp only [AC.data.injEq] at yW;obtain ⟨_,h2,_⟩:=yW;subst h2;simp [Ty.Am] at Sf
      ·cases yW
     |Jw l=>simp [Qt] at ht
     |_=>simp [Di] at yW
    ·cases hv
   |_=>rw [yW] at hv;simp only [Fe,Sf,Pw] at hv;cases hv
  ·simp only [Ht] at Sf
   have yX:Dj st τ (Di st a0)=some (fr,x):=by
    rw [<-Zi (st:=st) (st':=st1) hs]
    cases yW:Di st a0 with
    |data Um Nh y=>
     rw [yW,bB] at hv
     rw [Mx]
     split at hv
     ·rename_i het;rw [Ik het];exact hv
     ·rename_i het
      rw [dif_neg het]
      simp only [Sf,Cy,Sa,xI,Mx] at hv
      rw [dif_neg het] at hv
      exact hv
    |Le=>rw [yW] at hv;simp only [Fe,Sf,Cy,Sa] at hv;rw [Pn rfl] at hv;exact hv
    |Ua=>rw [yW] at hv;simp only [Fe,Sf,Cy,Sa] at hv;rw [Pn rfl] at hv;exact hv
    |_=>rw [yW] at hs;simp [AC.settled] at hs
   obtain ⟨F,f1,f2,f3⟩:=lV h.1 hr ht τ fr x Sf Uf yX
   exact ⟨F,[v],f1,by simp [Bs,Sf],HE h h1 hk hg f2 f3,λb hb=>let ⟨l,r,_,q⟩:=f3 b hb;⟨l,r,q⟩⟩
 unfold settle at he
 split at he
 ·rename_i l off len
  split at he
  ·rename_i fr tr e tid xs hl
   simp only [Aa,Ae] at he
   obtain ⟨rfl,rfl⟩:=he
   obtain ⟨h1,m⟩:=h.freeze (fr:=fr) (.inl ⟨tr,tid,hl⟩)
   have:=m.ac (.own l off len) v hc
   simp only [Co,Pw] at this
   have fV:Di st (.own l off len)= .data fr (.slice e) ((xs.drop off).take len):=by simp only [Di,hl]
   refine ⟨_,h1,this,rfl,Ke.freeze st l fr e xs,λht=>?_⟩
   have:=cell (.own l off len) _ _ hc h1 (by rw [fV];rfl) (Ke.freeze st l fr e xs) (λk hk=>by rw [Ad.1 hk];exact St.Ll st l fr e xs) ht
   rw [fV] at this
   exact this
  ·rename_i e tid xs hl
   simp only [Aa,Ae] at he
   obtain ⟨rfl,rfl⟩:=he
   obtain ⟨h1,m⟩:=h.freeze (fr:=false) (.inr ⟨rfl,tid,hl⟩)
   have:=m.ac (.own l off len) v hc
   simp only [Co,Pw] at this
   have fV:Di st (.own l off len)= .data false (.slice e) ((xs.drop off).take len):=by simp only [Di,hl]
   refine ⟨_,h1,this,rfl,Ke.freeze st l false e xs,λht=>?_⟩
   have:=cell (.own l off len) _ _ hc h1 (by rw [fV];rfl) (Ke.freeze st l false e xs) (λk hk=>by rw [Ad.1 hk];exact St.Ll st l false e xs) ht
   rw [fV] at this
   exact this
  ·cases he
 ·rename_i l
  split at he
  ·rename_i vt mm hl
   simp only [Aa,Ae] at he
   obtain ⟨rfl,rfl⟩:=he
   obtain ⟨h1,m⟩:=h.Ie hl
   have:=m.ac (.Jw l) v hc
   simp only [Gq,Pw] at this
   exact ⟨_,h1,this,rfl,Ke.Ie st l vt mm,λht=>by simp [Rw,Qt] at ht⟩
  ·cases he
 ·rename_i a0 _ _
  split at he
  ·rename_i hs
   simp only [Aa,Ae] at he
   obtain ⟨rfl,rfl⟩:=he
   refine ⟨π,h,hc,hs,Ke.refl _ _,λht=>?_⟩
   have fV:=Ru (st:=st) hs
   have:=cell a0 st π hc h (by rw [fV];exact hs) (Ke.refl _ _) (λk hk=>by
    cases a0<;>simp [AC.settled] at hs<;>simp [AC.refs] at hk) ht
   rw [fV] at this
   exact this
  ·cases he
 ·rename_i cs
  cases hsc:Gy cs.length st cs with
  |none=>rw [hsc] at he;cases he
  |some p=>
   rw [hsc] at he
   simp only [Ai,Aa,Ae] at he
   obtain ⟨rfl,rfl⟩:=he
   obtain ⟨us,rfl,hr⟩:=hc
   obtain ⟨π',h2,h3,h4,h5,h6,h7⟩:=eG cs.length st π cs us p.1 p.2 h hr hsc
   refine ⟨π',h2,⟨us,rfl,h3⟩,h4,h5,λht τ fr x Uf hv=>?_⟩
   simp only [Rw,Ag] at ht
   simp only [Fe] at hv
   split at hv
   ·rename_i Sf
    rw [h6] at hv h4
    obtain ⟨F,f1,f2,f3⟩:=tu h.1 τ cs us fr x hr ht.1 (Wi ht.2) h4 Uf hv
    exact ⟨F,us,f1,by simp [Bs,Sf],HE h h2 h5 h7 f2 f3,λb hb=>let ⟨l,r,_,q⟩:=f3 b hb;⟨l,r,q⟩⟩
   ·cases hv
 ·simp only [Aa,Ae] at he
  obtain ⟨rfl,rfl⟩:=he
  exact ⟨π,h,hc,rfl,Ke.refl _ _,λht=>by simp [Rw] at ht⟩
 ·cases he
theorem fk {o i j s p:Nat} (Jg:i≠j) (hp:p<s):(o+i)*s+p<(o+j)*s\/(o+j)*s+s<=(o+i)*s+p:=by
 rcases Nat.lt_or_gt_of_ne Jg with h|h
 ·left
  have:(o+i+1)*s<=(o+j)*s:=Ff _ (by omega)
  rw [Cx,Ud] at this
  omega
 ·right
  have:(o+j+1)*s<=(o+i)*s:=Ff _ (by omega)
  rw [Cx,Ud] at this
  omega
theorem Hl {α:Type} (l ys:List α) (i k:Nat) (h:i+ys.length<=l.length):(Dq l i ys)[k]?=if k<i then l[k]? else if k<i+ys.length then ys[k-i]? else l[k]?:=by
 unfold Dq
 have t1:(l.take i).length=i:=by simp;omega
 split
 ·rename_i hk
  rw [Cz,Ap (by omega),Ck,Ab hk]
 ·split
  ·rename_i hk
   rw [Cz,Ao (by omega),t1,Ap (by omega)]
  ·rw [Ao (by simp;omega),Ct]
   congr 1
   simp;omega
theorem Ij {α:Type} (l ys:List α) (i:Nat) (h:i+ys.length<=l.length):(Dq l i ys).length=l.length:=by
 unfold Dq;simp;omega
theorem xw (hT:Ed P T) {st:St} {a:Act} (h:Bd X π st a w) {t:TypeId} {e:Ty} (ht:T.ty t=some e) {l j:Nat} {r:Real} {vx:Value} {tid:TypeId} {fr Um:Bool} {xs:List e.den} {x:e.den}
  (hp:π l=some r) {tr:Bool} (hl:Aq st.heap l=some (.arr fr tr e tid xs)) (hj:j<xs.length) (hx:Df w (Cp X.w0.heap.size X.Sc π Um) e vx x):
  ∃w',(Instr.storeAt t (.pointer (some ⟨r.g,(r.o+j)*e.size,none⟩)) vx).run P w= .ok () w'/\Bd X π (st.Jh l (.arr (fr&&Um) false e tid (xs.set j x))) a w':=by
 have hb:=(h.1.heap l).Qi hl
 simp only [Bw,Jj,hp] at hb
 obtain ⟨h1,cur,ti,h2,h3,h4,h5,h6,_⟩:=hb
 obtain ⟨es,eR,hv⟩:=hx
 have j8:=Cells.len e es x eR
 have We:(r.o+j)*e.size+es.length<=cur.size:=by
  have:(r.o+j+1)*e.size<=(r.o+r.cap)*e.size:=Ff _ (by omega)
  rw [Cx (r.o+j) 1,Ud] at this
  omega
 have Xm:(r.o+j)*e.size+es.length<=cur.toList.length:=by simpa using We
 have Tz:=Uy (P:=P) (w:=w) (hT.ty _ _ ht) r.g ((r.o+j)*e.size) vx es (by rw [hv];exact Ki e es x eR) j8 (Cells.plain e es x eR) cur ti h2 We
 refine ⟨_,by simp only [Instr.storeAt,Instr.sureAddr];simpa using Tz,?_⟩
 refine h.set hl (b:= .arr (fr&&Um) false e tid (xs.set j x)) ⟨rfl,by simp⟩ (by rw [hp];exact Mr w r.g _) λm=>?_
 simp only [Bw,Jj,hp]
 refine ⟨⟨h1.1,h1.2.1,λhf=>h1.2.2 (by simp only [Ag] at hf;exact hf.1)⟩,_,_,setRow_heap w r.g cur _ ti _ h2,by rw [Gj,Ij _ _ _ Xm];simpa using h3,h4,by simpa using h5,λi y hy=>?_,λhf=>by cases hf⟩
 rw [Dp] at hy
 split at hy
 ·rename_i pc;subst pc
  simp only [Aa] at hy;subst hy
  refine ⟨es,j8,λk u hu=>?_,(m.cells Um e es x eR).and_right⟩
  have hk:k<es.length:=(Aj.1 hu).1
  rw [Ho,Hl _ _ _ _ Xm,Al (by omega),Ab (by omega)]
  rw [show (r.o+j)*e.size+k-(r.o+j)*e.size=k by omega];exact hu
 ·rename_i pc
  obtain ⟨kT,UC,qs,u4⟩:=h6 i y hy
  refine ⟨kT,UC,λk u hu=>?_,(m.cells fr e kT y u4).and_left⟩
  have hk:k<kT.length:=(Aj.1 hu).1
  have:=qs k u hu
  rw [Ho,Hl _ _ _ _ Xm]
  rcases fk (o:=r.o) (i:=i) (j:=j) (s:=e.size) (p:=k) (Hi pc) (by omega) with Js|NM
  ·rw [Ab Js];simpa using this
  ·rw [Al (by omega),Al (by omega)];simpa using this
theorem jg: ∀(Fs:List (List Nat)) (i:Nat) (F':List Nat),(List.flatten Fs).Nodup->F'.Nodup->(∀b∈F',b∉List.flatten Fs)->(List.flatten (Fs.set i F')).Nodup/\ ∀b∈List.flatten (Fs.set i F'),b∈List.flatten Fs\/b∈F'
 | [],i,F',_,_,_=>by simp
 |G::Fs,0,F',hn,pd,hs=>by
  simp only [List.set_cons_zero,Km] at hn hs⊢
  obtain ⟨n1,n2,n3⟩:=Dg.1 hn
  refine ⟨Dg.2 ⟨pd,n2,λa ha b hb e=>hs a ha (Bu _ (e▸hb))⟩,λb hb=>?_⟩
  rcases Aw.1 hb with hb|hb
  ·exact .inr hb
  ·exact .inl (Bu _ hb)
 |G::Fs,i+1,F',hn,pd,hs=>by
  simp only [List.set_cons_succ,Km] at hn hs⊢
  obtain ⟨n1,n2,n3⟩:=Dg.1 hn
  obtain ⟨m1,m2⟩:=jg Fs i F' n2 pd λb hb hm=>hs b hb (Bu _ hm)
  refine ⟨Dg.2 ⟨n1,m1,λa ha b hb e=>?_⟩,λb hb=>?_⟩
  ·subst e
   rcases m2 a hb with h|h
   ·exact n3 a ha a h rfl
   ·exact hs a h (Bk _ ha)
  ·rcases Aw.1 hb with hb|hb
   ·exact .inl (Bk _ hb)
   ·exact (m2 b hb).imp (Bu _) id
theorem tp (hT:Ed P T) {st:St} {a:Act} (h:Bd X π st a w) {t:TypeId} {e:Ty} (ht:T.ty t=some e) {l j:Nat} {r:Real} {vx:Value} {tid:TypeId} {fr Um:Bool} {xs:List e.den} {x:e.den}
  (hp:π l=some r) (hl:Aq st.heap l=some (.arr fr true e tid xs)) (hj:j<xs.length) (hx:Df w (Cp X.w0.heap.size X.Sc π Um) e vx x) {F:List Nat} {us:List Value} (hF:Cn w F e us x) (PX:vx=Bs e us) (lg:fc X w π F):
  ∃w',(Instr.storeAt t (.pointer (some ⟨r.g,(r.o+j)*e.size,none⟩)) vx).run P w= .ok () w'/\Bd X (Vh π l (some (r.plus F))) (st.Jh l (.arr (fr&&Um) true e tid (xs.set j x))) a w':=by
 have hb:=(h.1.heap l).Qi hl
 simp only [Bw,Jj,hp] at hb
 obtain ⟨h1,cur,ti,h2,h3,h4,h5,h6,h7⟩:=hb
 obtain ⟨Fs,t1,t2,t3,t4⟩:=h7 trivial
 obtain ⟨es,eR,hv⟩:=hx
 have j8:=Cells.len e es x eR
 have Ajw:us=es:=by
  have c1:=Ki e us x (Cn.cells (S:= λ_=>False) F e us x hF λ_ _ h=>h)
  have c2:=Ki e es x eR
  rw [<-PX,hv,c2] at c1
  simpa using c1.symm
 subst Ajw
 have We:(r.o+j)*e.size+us.length<=cur.size:=by
  have:(r.o+j+1)*e.size<=(r.o+r.cap)*e.size:=Ff _ (by omega)
  rw [Cx (r.o+j) 1,Ud] at this
  omega
 have Xm:(r.o+j)*e.size+us.length<=cur.toList.length:=by simpa using We
 have Tz:=Uy (P:=P) (w:=w) (hT.ty _ _ ht) r.g ((r.o+j)*e.size) vx us (by rw [hv];exact Ki e us x eR) j8 (Cells.plain e us x eR) cur ti h2 We
 have Qh:r.cl r.g:=h.1.sub l r _ hp h1.1
 have hng: ∀b∈F,b≠r.g:= λb hb e=>(lg.2 b hb).2.2 l r hp (e▸Qh)
 have HP:=jg Fs j F (Ca.1 t2).2 lg.1 λb hb hm=>(lg.2 b hb).2.2 l r hp (t3 b hm)
 refine ⟨_,by simp only [Instr.storeAt,Instr.sureAddr];simpa using Tz,?_⟩
 refine h.Ake hl (b:= .arr (fr&&Um) true e tid (xs.set j x)) ⟨rfl,by simp⟩ hp (λc hc=>⟨(lg.2 c hc).1,(lg.2 c hc).2.1,λm r0 _=>(lg.2 c hc).2.2 m r0⟩) (Mr w r.g _) λm=>?_
 simp only [Bw,Jj]
 have cell: ∀(i:Nat) (kT:List Value),i≠j->kT.length=e.size->(∀k u,kT[k]?=some u->cur[(r.o+i)*e.size+k]?=some u)-> ∀k u,kT[k]?=some u->(Dq cur.toList ((r.o+j)*e.size) us).toArray[(r.o+i)*e.size+k]?=some u:=by
  intro i kT il UC qs k u hu
  have hk:k<kT.length:=(Aj.1 hu).1
  have:=qs k u hu
  rw [Ho,Hl _ _ _ _ Xm]
  rcases fk (o:=r.o) (i:=i) (j:=j) (s:=e.size) (p:=k) il (by omega) with Js|NM
  ·rw [Ab Js];simpa using this
  ·rw [Al (by omega),Al (by omega)];simpa using this
 have XB: ∀k u,us[k]?=some u->(Dq cur.toList ((r.o+j)*e.size) us).toArray[(r.o+j)*e.size+k]?=some u:=by
  intro k u hu
  have hk:k<us.length:=(Aj.1 hu).1
  rw [Ho,Hl _ _ _ _ Xm,Al (by omega),Ab (by omega)]
  rw [show (r.o+j)*e.size+k-(r.o+j)*e.size=k by omega];exact hu
 refine ⟨⟨h1.1,h1.2.1,λhf=>h1.2.2 (by simp only [Ag] at hf;exact hf.1)⟩,_,_,setRow_heap w r.g cur _ ti _ h2,by rw [Gj,Ij _ _ _ Xm,Vr];exact h3,h4,by rw [Ez];exact h5,λi y hy=>?_,λ_=>?_⟩
 ·rw [Dp] at hy
  split at hy
  ·rename_i pc;subst pc
   simp only [Aa] at hy;subst hy
   exact ⟨us,j8,XB,(m.cells Um e us x eR).and_right⟩
  ·rename_i pc
   obtain ⟨kT,UC,qs,u4⟩:=h6 i y hy
   exact ⟨kT,UC,cell i kT (Hi pc) UC qs,(m.cells fr e kT y u4).and_left⟩
 ·refine ⟨Fs.set j F,by simp [t1],Ca.2 ⟨λhm=>?_,HP.1⟩,λb hb=>?_,λi y G hy hG=>?_⟩
  ·rcases HP.2 _ hm with h8|h8
   ·exact (Ca.1 t2).1 h8
   ·exact hng _ h8 rfl
  ·exact (HP.2 b hb).imp (t3 b) id
  ·rw [Dp] at hy hG
   split at hy
   ·rename_i pc;subst pc
    rw [Ab rfl] at hG
    rw [Ab (by omega)] at hG
    simp only [Aa] at hy hG;subst hy;subst hG
    exact ⟨us,j8,XB,hF.Gg _ _ _ _ (by simp) λb hb=>setRow_other w r.g b _ (hng b hb)⟩
   ·rename_i pc
    rw [Al pc] at hG
    obtain ⟨kT,UC,qs,u4⟩:=t4 i y G hy hG
    exact ⟨kT,UC,cell i kT (Hi pc) UC qs,u4.Gg _ _ _ _ (by simp) λb hb=>setRow_other w r.g b _ λe=>(Ca.1 t2).1 (Gw.2 ⟨G,Bx hG,e▸hb⟩)⟩
theorem JK {st:St} {a:Act} (h:Bd X π st a w) {τ:Ty} {l:Nat} {x:AV} {vx:Value} (hx:Bi X w π st.heap x vx):Bi X w π st.heap (OS T st τ l x) vx:=by
 unfold OS
 split
 ·rename_i hc
  split
  ·rename_i p hp
   have:=Mc τ x vx p.1 p.2 (Bj.1 hc).2 hx hp
   exact Df.Io this λb _ hA=>hA.imp id (Or.imp id λ⟨h1,_⟩=>by cases h1)
  ·exact hx
 ·exact hx
theorem ow (hT:Ed P T) {st:St} {a:Act} (h:Bd X π st a w) (t:TypeId) (p x:AV) (vp vx:Value) (hp:Bi X w π st.heap p vp) (hx:Bi X w π st.heap x vx) (st':St)
  (he:Ti T st t p x=some st'): ∃w' π',(Instr.storeAt t vp vx).run P w= .ok () w'/\Bd X π' st' a w':=by
 unfold Ti at he
 split at he
 ·rename_i τ l i ht
  split at he
  ·rename_i tid vs cs hl hc
   split at he
   ·rename_i hle
    simp only [Aa] at he
    obtain ⟨w',h1,h2⟩:=xy hT h ht hp (JK h hx) hl hc hle
    split at he
    ·rename_i Jd
     simp only [Ag,Ml] at Jd
     subst he
     obtain ⟨NI,h3⟩:=dC (T:=T) l i t τ cs.length 0 _ π (by omega) h2
     exact ⟨w',NI,h1,h3⟩
    ·subst he
     exact ⟨w',π,h1,h2⟩
   ·cases he
  ·cases he
 ·rename_i τ l j ht
  split at he
  ·rename_i x' st1 hs
   obtain ⟨aK,h1,h2,h3,h4,h5⟩:=aE h hx hs
   split at he
   ·rename_i fr tr e tid xs Um y hl hv
    split at he
    ·rename_i j9;subst j9
     split at he
     ·rename_i hj
      simp only [Aa] at he;subst he
      obtain ⟨r,b,sz,n,g1,g0,g2,g3,rfl⟩:=hp
      obtain ⟨k1,b',f,k2,k3⟩:=h4 l _ hl
      rw [g1] at k2;cases k2
      have g4:=Hv OB.row k3
      rw [show (OB.map f b).row=b.row by cases b<;>rfl,g0] at g4
      simp only [OB.row,Aa,Ae] at g4
      obtain ⟨rfl,rfl⟩:=g4
      cases eT:(tr&&(Rw st x&&τ.tree)) with
      |false=>
       obtain ⟨w',q1,q2⟩:=xw hT h1 ht (k1.trans g3) hl hj (Mc _ x' vx Um y h3 h2 hv)
       exact ⟨w',aK,q1,q2⟩
      |true=>
       simp only [Ag] at eT
       obtain ⟨rfl,htv,j9⟩:=eT
       obtain ⟨F,us,f1,f2,f3,_⟩:=h5 htv τ Um y j9 hv
       obtain ⟨w',q1,q2⟩:=tp hT h1 ht (k1.trans g3) hl hj (Mc _ x' vx Um y h3 h2 hv) f1 f2 f3
       exact ⟨w',_,q1,q2⟩
     ·cases he
    ·cases he
   ·cases he
  ·cases he
 ·cases he
theorem rG {S:Nat->Prop} {e:Ty} {v:Value} {ys:List e.den} (h:Cells w S (.slice e) [v] ys):
  ∃ad c,v= .slice ad ys.length c/\(ys= []\/ ∃g o,ad=some ⟨g,o,none⟩/\ ∃news:List Value,news.length=ys.length*e.size/\(∀j u,news[j]?=some u->w.cell? ⟨g,o+j,none⟩=some u)/\(∀u∈news,u.oneCell'=true)/\(∀j u,j<ys.length*e.size->w.cell? ⟨g,o+j,none⟩=some u->news[j]?=some u)/\
   ∀(i:Nat) (y:e.den),ys[i]?=some y-> ∃es:List Value,es.length=e.size/\(∀j u,es[j]?=some u->news[i*e.size+j]?=some u)/\Cells w S e es y):=by
 simp only [Cells] at h
 obtain ⟨ad,len,cap,hv,hl,qn,CX⟩:=h
 simp only [Gi,eZ] at hv
 subst hl
 refine ⟨ad,cap,hv,?_⟩
 rcases CX with h0|⟨g,o,rfl,hg,hn,Kt⟩
 ·exact .inl h0
 ·right
  refine ⟨g,o,rfl,(List.range (ys.length*e.size)).map λj=>(w.cell? ⟨g,o+j,none⟩).getD undef,by simp,?_⟩
  have key: ∀k,k<ys.length*e.size-> ∃u,w.cell? ⟨g,o+k,none⟩=some u/\u.oneCell'=true:=by
   intro k hk
   have hs:0<e.size:=by
    rcases Rz e.size with h|h
    ·rw [h] at hk;simp at hk
    ·exact h
   have hi:k/e.size<ys.length:=(Nat.div_lt_iff_lt_mul hs).2 hk
   obtain ⟨es,eR,hc,aj⟩:=Kt (k/e.size) _ (Ac hi)
   have hm:k%e.size<es.length:=by rw [eR];exact Nat.mod_lt _ hs
   have:=hc (k%e.size) _ (Ac hm)
   rw [Gh,show k/e.size*e.size+k%e.size=k by rw [Nat.mul_comm];exact Nat.div_add_mod k e.size] at this
   exact ⟨_,this,Cells.plain e es _ aj _ (Ak hm)⟩
  refine ⟨λj u hu=>?_,λu hu=>?_,λj u hj hu=>by rw [Fk,ed hj];simp [hu],λi y hy=>?_⟩
  ·rw [Fk] at hu
   have hj:j<ys.length*e.size:=by
    by_cases hj:j<ys.length*e.size
    ·exact hj
    ·rw [Ev (by simpa using hj)] at hu;cases hu
   rw [ed hj] at hu
   obtain ⟨u',eU,_⟩:=key j hj
   simp only [Ai,eU,Option.getD_some,Aa] at hu
   rw [eU,hu]
  ·obtain ⟨j,hj,rfl⟩:=Bo.1 hu
   obtain ⟨u',eU,h1⟩:=key j (Hu.1 hj)
   rw [eU];exact h1
  ·obtain ⟨es,eR,hc,aj⟩:=Kt i y hy
   refine ⟨es,eR,λj u hu=>?_,aj⟩
   have hi:=(Aj.1 hy).1
   have hj:=(Aj.1 hu).1
   have Js:i*e.size+j<ys.length*e.size:=by
    have:(i+1)*e.size<=ys.length*e.size:=Ff _ (by omega)
    rw [Cx,Ud] at this
    omega
   rw [Fk,ed Js]
   have:=hc j u hu
   rw [Gh] at this
   simp [this]
end
end Go.Proofs.Ytkkdpknjohcekaa
