/-
  Part 15 of the proof that the statement FnExactIterationNodes holds.
-/
import Derived.Test.YtfolipnappekaaaGreatCIterationNodes13
namespace Go.Proofs.YtfolipnappekaaaGreat
open Go.RowKit
section
variable {P:Program} {T:Tab} {X:Ctx} {w w':World} {π π':Pi} {H H':List (Nat×OB)}
def full (r:Real):Real:= {r with cl:=r.Cu}
theorem Ch.tY: ∀(τ:Ty) (F:List Nat) (es:List Value) (x:τ.den),τ.flat=true->Ch w F τ es x->F= []
 | .int k,F,es,x,_,h=>h.1
 | .bool,F,es,x,_,h=>h.1
 | .str,F,es,x,_,h=>h.1
 | .unit,F,es,x,_,h=>h.1
 | .pair a r,F,es,x,hf,h=>by
  simp only [Ty.flat,Af] at hf
  simp only [Ch] at h
  obtain ⟨c1,c2,F1,F2,_,rfl,h1,h2⟩:=h
  rw [Ch.tY a F1 c1 x.1 hf.1 h1,Ch.tY r F2 c2 x.2 hf.2 h2]
  rfl
 | .slice _,_,_,_,hf,_=>by simp [Ty.flat] at hf
 | .oslice _,_,_,_,hf,_=>by simp [Ty.flat] at hf
 | .ptr _,_,_,_,hf,_=>by simp [Ty.flat] at hf
 | .optr _,_,_,_,hf,_=>by simp [Ty.flat] at hf
 | .smap _,_,_,_,hf,_=>by simp [Ty.flat] at hf
 | .clo _ _,_,_,_,hf,_=>by simp [Ty.flat] at hf
theorem nC {S P:Nat->Prop} {g o:Nat} {cur:Array Value} {e:Ty} {xs:List e.den} (hf:e.flat=true)
  (h: ∀(i:Nat) (x:e.den),xs[i]?=some x-> ∃es:List Value,es.length=e.size/\(∀j u,es[j]?=some u->cur[(o+i)*e.size+j]?=some u)/\Cells w S e es x):Xr w P g o cur e xs:=by
 refine ⟨List.replicate xs.length [],by simp,by simp,by simp,λi x F hx hF=>?_⟩
 obtain ⟨es,e1,e2,e3⟩:=h i x hx
 have:F= []:=Fl (Bs hF)
 subst this
 exact ⟨es,e1,e2,Yc e es x hf e3⟩
theorem Ta.QQ {D:Nat->Prop} {r:Option Real} {e:Ty} {ys:List e.den} {u:Value} (h:Ta w D r e ys) (hf:e.flat=true) (hv:Hw r e.size 0 ys.length u):
  ∃F,Ch w F (.slice e) [u] ys/\F.Nodup/\ ∀b∈F,∃r',r=some r'/\r'.Cu b:=by
 cases r with
 |none=>
  obtain ⟨rfl,_,_⟩:=hv
  have h:ys= []:=h
  subst h
  exact ⟨[],⟨none,0,0,rfl,rfl,Ao _, .inl ⟨rfl,rfl,rfl,rfl⟩⟩,Nh,λb hb=>by cases hb⟩
 |some r=>
  obtain ⟨h1,cur,ti,h2,h3,h4,h5,h6⟩:=h
  obtain ⟨F,f1,f2,f3⟩:=kL (P:=r.Cu) h2 h3 h4 (by omega) hv (nC hf h6) h1.1
  exact ⟨F,by simpa using f1,f2,λb hb=>⟨r,rfl,f3 b hb⟩⟩
theorem Ny.QQ {r:Option Real} {e:Ty} {te:TypeId} {ys:List e.den} {u:Value} (h:Ny w r e te ys) (hv:Hw r e.size 0 ys.length u):
  ∃F,Ch w F (.slice e) [u] ys/\F.Nodup/\ ∀b∈F,∃r',r=some r'/\r'.Cu b:=by
 cases r with
 |none=>
  obtain ⟨rfl,_,_⟩:=hv
  have h:ys= []:=h
  subst h
  exact ⟨[],⟨none,0,0,rfl,rfl,Ao _, .inl ⟨rfl,rfl,rfl,rfl⟩⟩,Nh,λb hb=>by cases hb⟩
 |some r=>
  obtain ⟨h1,cur,ti,h2,h3,h4,h5,h6⟩:=h
  obtain ⟨F,f1,f2,f3⟩:=kL (P:=r.Cu) h2 h3 h4 (by omega) hv h6 h1
  exact ⟨F,by simpa using f1,f2,λb hb=>⟨r,rfl,f3 b hb⟩⟩
theorem Ch.row {F:List Nat} {e:Ty} {u:Value} {xs:List e.den} (h:Ch w F (.slice e) [u] xs) (hn:F.Nodup):
  ∃r:Option Real,Hw r e.size 0 xs.length u/\(e.flat=true-> ∀D,Ta w D r e xs)/\(∀te,Ny w r e te xs)/\(∀r',r=some r'-> ∀b,r'.Cu b↔b∈F)/\(r=none->F= []):=by
 simp only [Ch] at h
 obtain ⟨a,len,cap,e0,e1,e2,h⟩:=h
 simp only [Gc,Ol] at e0
 subst e0
 rcases h with ⟨rfl,rfl,rfl,rfl⟩|⟨ad,g,o,Fs,rfl,ha,⟨cur,ti,o',s1,s2,s3,s4⟩,rfl,hl,Kf⟩
 ·exact ⟨none,⟨by rw [e1];rfl,rfl,rfl⟩,λ_ _=>rfl,λ_=>rfl,(λr' h=>by cases h),λ_=>rfl⟩
 ·subst s2
  have lq: ∀(i:Nat) (x:e.den) (Fi:List Nat),xs[i]?=some x->Fs[i]?=some Fi-> ∃es:List Value,es.length=e.size/\(∀j u,es[j]?=some u->cur[(o'+i)*e.size+j]?=some u)/\Ch w Fi e es x:=by
   intro i x Fi hx hF
   obtain ⟨es,k1,k2,k3⟩:=Kf i x Fi hx hF
   refine ⟨es,k1,λj v hv=>?_,k3⟩
   have:=k2 j v hv
   rw [cellOf s1] at this
   rw [Dd];exact this
  refine ⟨some ⟨g,o',cap,(· ∈g::List.flatten Fs),(· ∈g::List.flatten Fs)⟩,⟨ad,by rw [e1];rfl,by dsimp only;omega,λh0=>by rw [ha h0];rfl⟩,λhf D=>⟨⟨by simp,λb hb=>?_⟩,cur,ti,s1,s3,s4,by rw [<-e1];exact e2,λi x hx=>?_⟩,
   fun te=>⟨by simp,cur,ti,s1,s3,s4,by rw [<-e1];exact e2,Fs,hl,hn,λb hb=>by simp [hb],lq⟩,λr' hr b=>by cases hr;exact Iff.rfl,λh=>by cases h⟩
  ·rcases Be.1 hb with hb|hb
   ·exact hb
   ·obtain ⟨Fi,h1,h2⟩:=Fg.1 hb
    obtain ⟨i,hi,rfl⟩:=Rh h1
    obtain ⟨es,_,_,k3⟩:=lq i (xs[i]'(by omega)) _ (Ac _) (Ac hi)
    rw [Ch.tY e _ _ _ hf k3] at h2
    cases h2
  ·have hi:i<Fs.length:=by have:=(An.1 hx).1;omega
   obtain ⟨es,k1,k2,k3⟩:=lq i x _ hx (Ac hi)
   exact ⟨es,k1,k2,Cells.flat e es x hf (Ch.cells (S:= λ_=>False) _ e es x k3 λb hb=> λh=>h)⟩
theorem cX: ∀(Fs:List (List Nat)) (i:Nat) (Fi F':List Nat),(List.flatten Fs).Nodup->Fs[i]?=some Fi->F'.Nodup->(∀b∈F',b∈Fi)->(List.flatten (Fs.set i F')).Nodup/\ ∀b∈List.flatten (Fs.set i F'),b∈List.flatten Fs
 | [],i,Fi,F',_,h,_,_=>by simp at h
 |G::Fs,0,Fi,F',hn,h,sP,hs=>by
  simp only [Cb,Aa] at h;subst h
  simp only [List.set_cons_zero,Kw] at hn⊢
  obtain ⟨n1,n2,n3⟩:=Cy.1 hn
  refine ⟨Cy.2 ⟨sP,n2,λa ha b hb=>n3 a (hs a ha) b hb⟩,λb hb=>?_⟩
  rcases Bb.1 hb with hb|hb
  ·exact Bc _ (hs b hb)
  ·exact Bu _ hb
 |G::Fs,i+1,Fi,F',hn,h,sP,hs=>by
  simp only [Me] at h
  simp only [List.set_cons_succ,Kw] at hn⊢
  obtain ⟨n1,n2,n3⟩:=Cy.1 hn
  obtain ⟨m1,m2⟩:=cX Fs i Fi F' n2 h sP hs
  refine ⟨Cy.2 ⟨n1,m1,λa ha b hb=>n3 a ha b (m2 b hb)⟩,λb hb=>?_⟩
  rcases Bb.1 hb with hb|hb
  ·exact Bc _ hb
  ·exact Bu _ (m2 b hb)
theorem dv: ∀(Fs:List (List Nat)) (i j:Nat) (Fi Fj:List Nat) (b:Nat),(List.flatten Fs).Nodup->Fs[i]?=some Fi->Fs[j]?=some Fj->b∈Fi->b∈Fj->i=j
 | [],i,j,Fi,Fj,b,_,h,_,_,_=>by simp at h
 |G::Fs,0,0,_,_,_,_,_,_,_,_=>rfl
 |G::Fs,0,j+1,Fi,Fj,b,hn,h1,h2,h3,h4=>by
  simp only [Cb,Aa,Me] at h1 h2
  subst h1
  simp only [Kw] at hn
  exact absurd rfl ((Cy.1 hn).2.2 b h3 b (Fg.2 ⟨Fj,Bs h2,h4⟩))
 |G::Fs,i+1,0,Fi,Fj,b,hn,h1,h2,h3,h4=>by
  simp only [Cb,Aa,Me] at h1 h2
  subst h2
  simp only [Kw] at hn
  exact absurd rfl ((Cy.1 hn).2.2 b h4 b (Fg.2 ⟨Fi,Bs h1,h3⟩))
 |G::Fs,i+1,j+1,Fi,Fj,b,hn,h1,h2,h3,h4=>by
  simp only [Me] at h1 h2
  simp only [Kw] at hn
  rw [dv Fs i j Fi Fj b (Cy.1 hn).2.1 h1 h2 h3 h4]
def zB (w:World) (π:Pi) (l i:Nat) (e:Ty) (tid:TypeId) (xs:List (List e.den)) (u:Value) (r:Option Real):Prop:=
 ∃q,π l=some q/\(∀r',r=some r'-> ∀b,r'.Cu b->q.Cu b/\b≠q.g)/\
  ∀(w':World) (ys:List e.den),w.heap.size<=w'.heap.size->(∀b,b<w.heap.size->q.Cu b->(∀r',r=some r'-> ¬r'.Cu b)->w'.heap[b]?=w.heap[b]?)->
   (∃F',Ch w' F' (.slice e) [u] ys/\F'.Nodup/\ ∀b∈F',∃r',r=some r'/\r'.Cu b)->Ny w' (some q) (.slice e) tid (xs.set i ys)
theorem JT (h:Mx X w π H) {l i c:Nat} {e:Ty} {tid:TypeId} {xs:List (List e.den)} {x:List e.den} {u:Value} (hl:Au H l=some (.Gu (.slice e) tid xs)) (hx:xs[i]?=some x) (hc:c=0)
  (hu:Hm X w π H (.sub l i c) u): ∃r,Hw r e.size 0 x.length u/\(e.flat=true-> ∀D,Ta w D r e x)/\(∀te,Ny w r e te x)/\zB w π l i e tid xs u r:=by
 subst hc
 obtain ⟨q,b0,sz0,n0,h1,oY,h2,h3,⟨h4,a,n,m,rfl⟩,h5⟩:=hu
 rw [hl] at h1;cases h1
 simp only [OB.gz,Aa,Ad] at oY
 obtain ⟨rfl,rfl⟩:=oY
 have hb:=(h.heap l).Qm hl
 simp only [Cj,Ny,h2] at hb
 obtain ⟨k1,cur,ti,k2,k3,k4,k5,Fs,t1,t2,t3,t4⟩:=hb
 have hi:i<Fs.length:=by have:=(An.1 hx).1;omega
 have hFi:Fs[i]?=some Fs[i]:=Ac hi
 obtain ⟨es,e1,e2,e3⟩:=t4 i x _ hx hFi
 have e1':es.length=1:=e1
 obtain ⟨v,rfl⟩:=Df.1 e1'
 have hv:v= .slice a n m:=by
  have:=e2 0 v rfl
  rw [cellOf k2] at h5
  rw [this] at h5;exact Ba h5
 subst hv
 have hn2:=(Cd.1 t2).2
 have nL: ∀b∈Fs[i],b∈List.flatten Fs:= λb hb=>Fg.2 ⟨_,Aj hi,hb⟩
 have hnF:(Fs[i]).Nodup:=hn2.sublist (by
  have:=aF (List.singleton_sublist.2 (Aj hi))
  simpa using this)
 obtain ⟨r,r1,r2,r3,r4,r5⟩:=Ch.row e3 hnF
 refine ⟨r,r1,r2,r3,q,h2,λr' hr b hb=>?_,λw' ys hs hk ⟨F',f1,f2,f3⟩=>?_⟩
 ·have hb:=(r4 r' hr b).1 hb
  exact ⟨t3 b (nL b hb),λe=>(Cd.1 t2).1 (e▸nL b hb)⟩
 ·have hF': ∀b∈F',b∈Fs[i]:= λb hb=>by
   obtain ⟨r',g1,g2⟩:=f3 b hb
   exact (r4 r' g1 b).1 g2
  have nJ:=cX Fs i _ F' hn2 hFi f2 hF'
  have hkg:w'.heap[q.g]?=w.heap[q.g]?:=hk q.g (Fk k2) k1 λr' hr hb=>(Cd.1 t2).1 (nL _ ((r4 r' hr _).1 hb))
  refine ⟨k1,cur,ti,hkg.trans k2,k3,k4,by simpa using k5,Fs.set i F',by simp [t1],Cd.2 ⟨λhm=>(Cd.1 t2).1 (nJ.2 _ hm),nJ.1⟩,λb hb=>t3 b (nJ.2 b hb),λj y F hy hF=>?_⟩
  rw [Fe] at hy hF
  split at hy
  ·rename_i iW;subst iW
   rw [Ab rfl] at hF
   rw [Ab hi] at hF
   simp only [Aa] at hF
   have hy:ys=y:=by simpa [h3] using hy
   subst hy;subst hF
   exact ⟨[.slice a n m],rfl,e2,f1⟩
  ·rename_i iW
   rw [Ag iW] at hF
   obtain ⟨oX,g1,g2,g3⟩:=t4 j y F hy hF
   refine ⟨oX,g1,g2,g3.Ex _ _ _ _ hs λb hb=>?_⟩
   have hbf:b∈List.flatten Fs:=Fg.2 ⟨F,Bs hF,hb⟩
   exact hk b (g3.lt _ _ _ _ b hb) (t3 b hbf) λr' hr iV=>iW (dv Fs i j _ F b hn2 hFi hF ((r4 r' hr b).1 iV) hb)
def Tv (w:World) (π:Pi) (H:List (Nat×OB)) (io:Bool) (a:AC) (u:Value) (r:Option Real):(c:CK)->c.den->Prop
 | .Fm _,_=>r=none
 | .row e te,x=>match a with
  | .Lr=>r=none
  | .own l off len=>r=(π l).map full/\off=0/\len=List.length x/\ ∃fr tr,Au H l=some (.arr fr tr e te x)
  | .sub l i _=>(io=true/\e.flat=true)/\ ∃tid xs,Au H l=some (.Gu (.slice e) tid xs)/\xs[i]?=some x/\zB w π l i e tid xs u r
  |_=>False
 | .Hk e te,x=>match a with
  | .Lr=>r=none
  | .own l off len=>r=(π l).map full/\off=0/\len=List.length x/\Au H l=some (.Gu e te x)
  | .sub l i _=>io=true/\ ∃tid xs,Au H l=some (.Gu (.slice e) tid xs)/\xs[i]?=some x/\zB w π l i e tid xs u r
  |_=>False
 | .part e te,x=>e.flat=true/\match a with
  | .own l _ _=>r=(π l).map full/\io=true/\ ∃fr tr,Au H l=some (.arr fr tr e te x.1)
  |_=>False
 | .Bm e te _,x=>io=false/\match a with
  | .own l off len=>r=(π l).map full/\off=0/\len=List.length x/\ ∃kp,Au H l=some (.Bm e te x none kp)
  |_=>False
theorem aj {r:Option Real} {s off len:Nat} {v:Value} (h:Hw r s off len v):Hw (r.map full) s off len v:=by
 cases r<;>exact h
def Oq (X:Ctx) (π:Pi) (V:List Nat) (b:Nat):Prop:=(Uf π b/\ ∀l∈V,∀r,π l=some r-> ¬r.Cu b)\/X.Sc b
theorem Oq.not {V:List Nat} {b l:Nat} (hb:Oq X π V b) (h:Mx X w π H) (hl:l∈V) {r:Real} (hr:π l=some r) (hf:r.Cu b):False:=by
 rcases hb with hb|hb
 ·exact hb.2 l hl r hr hf
 ·have h1:=h.sc b hb
  rcases (h.own ⟨l,r,hr,hf⟩).2 with h2|h2
  ·omega
  ·exact h1.2 h2
theorem Oq.iq {V:List Nat} {b:Nat} {B:Nat} {fr:Bool} (hb:Oq X π V b):Dc B X.Sc π fr b:=hb.elim (λh=> .inl h.1) λh=> .inr (.inl h)
theorem QT {st:St} {ls:List Nat} (h:cw st ls=true) {l:Nat} (hl:l∈ls) {tid:TypeId} {vs:List AC} (hv:Au st.heap l=some (.var tid vs)):vs.all (·.settled)=true:=by
 have:=Bd.1 h l hl
 unfold St.at at this
 rw [hv] at this
 exact this
theorem Cells.but {V:List Nat} {f:Bool} {τ:Ty} {cs:List Value} {x:τ.den} (h:Cells w (Dc X.w0.heap.size X.Sc π f) τ cs x):Cells w (Oq X π V) τ cs x:=
 Cells.Ex (Ao _) (λ_ _ _=>rfl) (λ_ _ hk=>hk.iq) τ cs x h
theorem jT {st:St} (h:Mx X w π st.heap) {V:List Nat} {a:Ty} {l i:Nat} {fr:Bool} {x:a.den} (iY:cw st [l]=true) (hlV:l∈V) (hv:Uo st a l i=some (fr,x)) {r:Real} (hr:π l=some r):
  r.g<w.heap.size/\ ¬Oq X π V r.g/\ ∃es:List Value,es.length=a.size/\(∀j u,es[j]?=some u->w.cell? ⟨r.g,i+j,none⟩=some u)/\Cells w (Oq X π V) a es x:=by
 unfold Uo at hv
 split at hv
 ·rename_i tid vs hl
  unfold St.at at hl
  obtain ⟨r',h3,h4,cur,h5,h6⟩:=(h.heap l).Qm hl
  rw [hr] at h3;cases h3
  have hs:=QT iY (Ae.2 rfl) hl
  have GN:((vs.drop i).take a.size).all (·.settled)=true:=Bd.2 λc hc=>Bd.1 hs c (dK (Gp hc))
  have hc:=Xb a _ _ fr x GN (ak h6 i a.size) hv
  refine ⟨Fk h5,λhb=>hb.not h hlV hr h4,_,Cells.len a _ x hc,λj u hu=>?_,hc.but⟩
  rw [cellOf h5]
  rw [Cx] at hu
  split at hu
  ·rw [Cw] at hu;simpa using hu
  ·cases hu
 ·cases hv
theorem KH {st:St} {l:Nat} {ls:List Nat} (h:cw st (l::ls)=true):cw st [l]=true/\cw st ls=true:=by
 simp only [cw,Hx,List.all_nil,Bool.and_true,Af] at h⊢
 exact h
theorem DM {st:St} (h:Mx X w π st.heap) {V:List Nat} : ∀(τ:Ty) (Ee:List (Nat×Nat)) (us:List Value) (fr:Bool) (x:τ.den),us.length=Ee.length->
  (∀(j:Nat) p,Ee[j]?=some p-> ∃r tid vs,Au st.heap p.1=some (.var tid vs)/\π p.1=some r/\us[j]?=some (.pointer (some ⟨r.g,p.2,none⟩)))->
  cw st (Ee.map (·.1))=true->(∀p∈Ee,p.1∈V)->Kv st τ Ee=some (fr,x)->Cells w (Oq X π V) τ us x:=by
 intro τ
 induction τ with
 |unit=>
  intro Ee us fr x hl hr _ _ hv
  cases Ee with
  |nil=>exact Ck hl
  |cons c cs=>simp [Kv] at hv
 |pair a r _ gW=>
  intro Ee us fr x hl hr iY hV hv
  cases a with
  |ptr a=>
   cases Ee with
   |nil=>simp [Kv] at hv
   |cons c cs=>
    obtain ⟨l,i⟩:=c
    simp only [Kv] at hv
    split at hv
    ·rename_i f1 y f2 z h1 h2
     simp only [Aa,Ad] at hv
     obtain ⟨rfl,rfl⟩:=hv
     cases us with
     |nil=>simp at hl
     |cons u us=>
      obtain ⟨r0,tid,vs,h3,h4,h5⟩:=hr 0 (l,i) rfl
      simp only [Cb,Aa] at h5
      subst h5
      obtain ⟨ok1,ok2⟩:=KH iY
      obtain ⟨h6,h7,es,h8,h9,oY⟩:=jT h ok1 (hV _ (Iw ..)) h1 h4
      exact ⟨[_],us,rfl,⟨r0.g,i,rfl,h6,h7,es,h8,h9,oY⟩,gW cs us f2 z (by simpa using hl) (λj p hp=>hr (j+1) p hp) ok2 (λp hp=>hV p (At _ hp)) h2⟩
    ·cases hv
  |_=>cases Ee<;>simp [Kv] at hv
 |_=>intro Ee us fr x hl hr _ _ hv;cases Ee<;>simp [Kv] at hv
theorem XN {st:St} (h:Mx X w π st.heap) {V:List Nat} {io:Bool} {k:Nat} {c:CK} {a:AC} {u:Value} (hu:Hm X w π st.heap a u) {x:c.den} {tks:List (Nat×Loc)} (he:Lx st io k c a=some (x,tks))
  (hV: ∀t∈tks,t.2.reads=true->t.2.Xf∈V): ∃r,eP w (Oq X π V) r u c x/\Tv w π st.heap io a u r c x:=by
 cases c with
 |Fm τ=>
  have own: ∀l off len,a= .own l off len-> ∃r,eP w (Oq X π V) r u (.Fm τ) x/\Tv w π st.heap io a u r (.Fm τ) x:=by
   intro l off len ea
   subst ea
   simp only [Lx] at he
   cases hv:Du st τ (.own l off len) with
   |none=>rw [hv] at he;cases he
   |some p=>
    obtain ⟨fr,y⟩:=p
    rw [hv] at he
    simp only [Am,Aa,Ad] at he
    obtain ⟨rfl,rfl⟩:=he
    have hlV:l∈V:=hV _ (Ae.2 rfl) rfl
    refine ⟨none,⟨rfl,?_⟩,rfl⟩
    cases τ<;>simp only [Du] at hv<;>try (cases hv;done)
    rename_i e
    cases hl:st.at l with
    |none=>rw [hl] at hv;cases hv
    |some b=>
     rw [hl] at hv
     unfold St.at at hl
     cases b<;>(try simp only [] at hv)<;>try (cases hv;done)
     ·rename_i u9 DK e0 tid xs
      split at hv
      ·rename_i hee;subst hee
       simp only [Aa,Ad] at hv
       obtain ⟨_,rfl⟩:=hv
       obtain ⟨h1,h2⟩:=On hu hl
       exact ⟨[u],pO h hl h1 h2 (λb hb ⟨r,hr,hf⟩=>hb.not h hlV hr hf) (λb _ hb=>hb.iq),rfl⟩
      ·cases hv
     ·rename_i e0 tid xs
      split at hv
      ·rename_i hee;subst hee
       simp only [Aa,Ad] at hv
       obtain ⟨_,rfl⟩:=hv
       obtain ⟨h1,h2⟩:=ck hu hl
       exact ⟨[u],mS h hl h1 h2 (λb hb ⟨r,hr,hf⟩=>hb.not h hlV hr hf),rfl⟩
      ·cases hv
     ·rename_i e0 te0 rows out kp
      cases out with
      |some i=>cases hv
      |none=>
       simp only [] at hv
       split at hv
       ·rename_i hee;subst hee
        simp only [Aa,Ad] at hv
        obtain ⟨_,rfl⟩:=hv
        obtain ⟨h1,h2⟩:=og hu hl
        exact ⟨[u],uc h hl h1 h2 (λb hb ⟨r,hr,hf⟩=>hb.not h hlV hr hf) (λb hb=>hb.iq),rfl⟩
       ·cases hv
  have Ass: ∀g Ee,a= .clo g Ee-> ∃r,eP w (Oq X π V) r u (.Fm τ) x/\Tv w π st.heap io a u r (.Fm τ) x:=by
   intro g Ee ea
   subst ea
   simp only [Lx] at he
   split at he
   ·rename_i hc
    simp only [Af,Eg] at hc
    obtain ⟨iY,Tz⟩:=hc
    cases hv:Js st τ (.clo g Ee) with
    |none=>rw [hv] at he;cases he
    |some p=>
     obtain ⟨fr,y⟩:=p
     rw [hv] at he
     simp only [Am,Aa,Ad] at he
     obtain ⟨rfl,rfl⟩:=he
     have hcV: ∀p∈Ee,p.1∈V:= λp hp=>hV (Ds false k, .view p.1) (Bj.2 ⟨p.1,Bj.2 ⟨p,hp,rfl⟩,rfl⟩) rfl
     obtain ⟨us,rfl,h2,h3⟩:=hu
     refine ⟨none,⟨rfl,Ct.o0 Tz ?_⟩,rfl⟩
     cases τ<;>simp only [Js] at hv<;>try (simp only [Du,reduceCtorEq] at hv;done)
     rename_i f0 c0
     split at hv
     ·rename_i hg
      obtain ⟨rfl,It⟩:=hg
      exact ⟨us,by rw [iz It],DM h c0 Ee us fr y h2 h3 iY hcV hv⟩
     ·cases hv
   ·cases he
  have hvp: ∀l i,a= .Hj l i-> ∃r,eP w (Oq X π V) r u (.Fm τ) x/\Tv w π st.heap io a u r (.Fm τ) x:=by
   intro l i ea
   subst ea
   simp only [Lx] at he
   split at he
   ·rename_i hc
    simp only [Af,Eg] at hc
    obtain ⟨iY,Tz⟩:=hc
    cases hv:Js st τ (.Hj l i) with
    |none=>rw [hv] at he;cases he
    |some p=>
     obtain ⟨fr,y⟩:=p
     rw [hv] at he
     simp only [Am,Aa,Ad] at he
     obtain ⟨rfl,rfl⟩:=he
     have hlV:l∈V:=hV (Ds false k, .view l) (Bj.2 ⟨l,Ae.2 rfl,rfl⟩) rfl
     obtain ⟨r,tid,vs,h1,h2,rfl⟩:=hu
     refine ⟨none,⟨rfl,Ct.o0 Tz ?_⟩,rfl⟩
     cases τ<;>simp only [Js] at hv<;>try (simp only [Du,reduceCtorEq] at hv;done)
     ·obtain ⟨h6,h7,h8⟩:=jT h iY hlV hv h2
      exact ⟨r.g,i,rfl,h6,h7,h8⟩
     ·rename_i a
      cases hp:Uo st a l i with
      |none=>rw [hp] at hv;cases hv
      |some p=>
       rw [hp] at hv
       simp only [Am,Aa,Ad] at hv
       obtain ⟨_,rfl⟩:=hv
       obtain ⟨h6,h7,h8⟩:=jT h iY hlV hp h2
       exact .inr ⟨_,r.g,i,rfl,rfl,h6,h7,h8⟩
   ·cases he
  have Qa: ∀l i c,a= .sub l i c-> ∃r,eP w (Oq X π V) r u (.Fm τ) x/\Tv w π st.heap io a u r (.Fm τ) x:=by
   intro l i c ea
   subst ea
   simp only [Lx] at he
   cases hv:Du st τ (.sub l i c) with
   |none=>rw [hv] at he;cases he
   |some p=>
    obtain ⟨fr,y⟩:=p
    rw [hv] at he
    simp only [Am,Aa,Ad] at he
    obtain ⟨rfl,rfl⟩:=he
    have hlV:l∈V:=hV _ (Ae.2 rfl) rfl
    refine ⟨none,⟨rfl,?_⟩,rfl⟩
    cases τ<;>simp only [Du] at hv<;>try (cases hv;done)
    rename_i e
    cases hl:st.at l with
    |none=>rw [hl] at hv;cases hv
    |some b=>
     rw [hl] at hv
     unfold St.at at hl
     cases b<;>(try simp only [] at hv)<;>try (cases hv;done)
     rename_i e0 te0 rows out kp
     cases out with
     |some i=>cases hv
     |none=>
      simp only [] at hv
      split at hv
      ·rename_i hee;subst hee
       simp only [Aa,Ad] at hv
       obtain ⟨_,rfl⟩:=hv
       exact ⟨[u],ud h hl (FZ hu hl) hu (λb hb ⟨r,hr,hf⟩=>hb.not h hlV hr hf) (λb hb=>hb.iq),rfl⟩
      ·cases hv
  by_cases SU: ∃l i c,a= .sub l i c
  ·obtain ⟨l,i,c,ea⟩:=SU;exact Qa l i c ea
  by_cases Ah5: ∃g Ee,a= .clo g Ee
  ·obtain ⟨g,Ee,ea⟩:=Ah5;exact Ass g Ee ea
  by_cases Aor: ∃l i,a= .Hj l i
  ·obtain ⟨l,i,ea⟩:=Aor;exact hvp l i ea
  by_cases a5: ∃l off len,a= .own l off len
  ·obtain ⟨l,off,len,ea⟩:=a5;exact own l off len ea
  have he:(if τ.flat||a.settled then (Du st τ a).map λp=>(p.2,([]:List (Nat×Loc))) else none)=some (x,tks):=by
   cases a<;>first|exact he|exact absurd ⟨_,_,_,rfl⟩ a5|exact absurd ⟨_,_,rfl⟩ Ah5|exact absurd ⟨_,_,rfl⟩ Aor|exact absurd ⟨_,_,_,rfl⟩ SU
  split at he
  ·rename_i hc
   cases hv:Du st τ a with
   |none=>rw [hv] at he;cases he
   |some p=>
    obtain ⟨fr,y⟩:=p
    rw [hv] at he
    simp only [Am,Aa,Ad] at he
    obtain ⟨rfl,rfl⟩:=he
    refine ⟨none,⟨rfl,?_⟩,rfl⟩
    have Im: ∀f,Ct w (Dc X.w0.heap.size X.Sc π f) τ u y->Ct w (Oq X π V) τ u y:= λf hr=>hr.Im λk _ hk=>hk.iq
    cases a with
    |data f Oh z=>
     rw [Nw] at hv
     split at hv
     ·rename_i ht;subst ht
      simp only [Aa,Ad] at hv
      obtain ⟨_,rfl⟩:=hv
      exact Im f hu
     ·have Ts:τ.Aq=false:=by unfold iC at hv;split at hv<;>first|rfl|cases hv
      exact Im _ ⟨[u],dt hv hu,by simp [Cf,Ts]⟩
    |Lr=>
     have hu:u= .slice none 0 0:=hu
     subst hu
     cases τ<;>simp only [Du,Aa,Ad,reduceCtorEq] at hv
     ·obtain ⟨_,rfl⟩:=hv;exact ⟨[_],⟨none,0,0,rfl,rfl,Ao _, .inl rfl⟩,rfl⟩
     ·obtain ⟨_,rfl⟩:=hv;exact ⟨[_], .inl ⟨rfl,0,rfl⟩,rfl⟩
    |Vu=>
     have hu:u= .pointer none:=hu
     subst hu
     cases τ<;>simp only [Du,Aa,Ad,reduceCtorEq] at hv
     obtain ⟨_,rfl⟩:=hv;exact ⟨[_], .inl ⟨rfl,rfl⟩,rfl⟩
    |_=>cases τ<;>simp [AC.settled,Ty.flat,Du] at hc hv
  ·cases he
 |row e te=>
  cases a<;>simp only [Lx] at he<;>try (cases he;done)
  ·simp only [Aa,Ad] at he
   obtain ⟨rfl,rfl⟩:=he
   have hu:u= .slice none 0 0:=hu
   exact ⟨none,⟨⟨hu,rfl,rfl⟩,rfl⟩,rfl⟩
  ·rename_i l off len
   split at he
   ·rename_i fr tr e' Rf xs hl
    split at he
    ·rename_i hc
     obtain ⟨rfl,rfl,rfl,rfl⟩:=hc
     simp only [Aa,Ad] at he
     obtain ⟨rfl,rfl⟩:=he
     unfold St.at at hl
     obtain ⟨_,h2⟩:=On hu hl
     refine ⟨(π l).map full,⟨aj h2,?_⟩,rfl,rfl,rfl,fr,tr,hl⟩
     have hb:=(h.heap l).Qm hl
     simp only [Cj,Jw] at hb
     cases hp:π l with
     |none=>rw [hp] at hb;exact hb
     |some q=>
      rw [hp] at hb
      obtain ⟨k1,cur,ti,k2,k3,k4,k5,k6,_⟩:=hb
      refine ⟨⟨k1.1,k1.2.1⟩,cur,ti,k2,k3,k4,k5,λi y hy=>?_⟩
      obtain ⟨es,g1,g2,g3⟩:=k6 i y hy
      exact ⟨es,g1,g2,Cells.Ex (Ao _) (λ_ _ _=>rfl) (λ_ _ hk=>hk.iq) e' es y g3⟩
    ·cases he
   ·cases he
  ·rename_i l i c
   split at he
   ·rename_i e' tid xs hl
    split at he
    ·rename_i hc
     obtain ⟨rfl,hf,AB,lk⟩:=hc
     cases hx:xs[i]? with
     |none=>rw [hx] at he;cases he
     |some y=>
      rw [hx] at he
      simp only [Am,Aa,Ad] at he
      obtain ⟨rfl,rfl⟩:=he
      unfold St.at at hl
      obtain ⟨r,r1,r2,_,r4⟩:=JT h hl hx lk hu
      exact ⟨r,⟨r1,r2 hf _⟩,⟨AB,hf⟩,tid,xs,hl,hx,r4⟩
    ·cases he
   ·cases he
 |Hk e te=>
  cases a<;>simp only [Lx] at he<;>try (cases he;done)
  ·simp only [Aa,Ad] at he
   obtain ⟨rfl,rfl⟩:=he
   have hu:u= .slice none 0 0:=hu
   exact ⟨none,⟨⟨hu,rfl,rfl⟩,rfl⟩,rfl⟩
  ·rename_i l off len
   split at he
   ·rename_i e' Rf xs hl
    split at he
    ·rename_i hc
     obtain ⟨rfl,rfl,rfl,rfl⟩:=hc
     simp only [Aa,Ad] at he
     obtain ⟨rfl,rfl⟩:=he
     unfold St.at at hl
     obtain ⟨_,h2⟩:=ck hu hl
     refine ⟨(π l).map full,⟨aj h2,?_⟩,rfl,rfl,rfl,hl⟩
     have hb:=(h.heap l).Qm hl
     simp only [Cj] at hb
     cases hp:π l with
     |none=>rw [hp] at hb;exact hb
     |some q=>rw [hp] at hb;exact hb
    ·cases he
   ·cases he
  ·rename_i l i c
   split at he
   ·rename_i e' tid xs hl
    split at he
    ·rename_i hc
     obtain ⟨rfl,AB,lk⟩:=hc
     cases hx:xs[i]? with
     |none=>rw [hx] at he;cases he
     |some y=>
      rw [hx] at he
      simp only [Am,Aa,Ad] at he
      obtain ⟨rfl,rfl⟩:=he
      unfold St.at at hl
      obtain ⟨r,r1,_,r3,r4⟩:=JT h hl hx lk hu
      exact ⟨r,⟨r1,r3 te⟩,AB,tid,xs,hl,hx,r4⟩
    ·cases he
   ·cases he
 |part e te=>
  cases a<;>simp only [Lx] at he<;>try (cases he;done)
  rename_i l off len
  split at he
  ·rename_i fr tr e' Rf xs hl
   split at he
   ·rename_i hc
    obtain ⟨rfl,rfl,hf,AB⟩:=hc
    simp only [Aa,Ad] at he
    obtain ⟨rfl,rfl⟩:=he
    unfold St.at at hl
    obtain ⟨h1,h2⟩:=On hu hl
    refine ⟨(π l).map full,⟨⟨aj h2,h1⟩,hf,?_⟩,hf,rfl,AB,fr,tr,hl⟩
    have hb:=(h.heap l).Qm hl
    simp only [Cj,Jw] at hb
    cases hp:π l with
    |none=>rw [hp] at hb;exact hb
    |some q=>
     rw [hp] at hb
     obtain ⟨k1,cur,ti,k2,k3,k4,k5,k6,_⟩:=hb
     refine ⟨⟨k1.1,k1.2.1⟩,cur,ti,k2,k3,k4,k5,λi y hy=>?_⟩
     obtain ⟨es,g1,g2,g3⟩:=k6 i y hy
     exact ⟨es,g1,g2,Cells.flat e' es y hf g3⟩
   ·cases he
  ·cases he
 |Bm e te kp=>
  cases a<;>simp only [Lx] at he<;>try (cases he;done)
  rename_i l off len
  split at he
  ·rename_i e' Rf rows kp' hl
   split at he
   ·rename_i hc
    obtain ⟨rfl,rfl,rfl,rfl,AB⟩:=hc
    simp only [Aa,Ad] at he
    obtain ⟨rfl,rfl⟩:=he
    unfold St.at at hl
    obtain ⟨h1,h2⟩:=og hu hl
    refine ⟨(π l).map full,⟨aj h2,?_⟩,AB,rfl,rfl,rfl,kp',hl⟩
    have hb:=(h.heap l).Qm hl
    simp only [Cj] at hb
    have hb:=hb.1
    have hg:aI w (Dc X.w0.heap.size X.Sc π false) ((π l).map full) e' rows none:=by
     cases hp:π l with
     |none=>rw [hp] at hb;exact hb
     |some q=>rw [hp] at hb;exact hb
    exact hg.Ex (λ_ _ _ _ _=>rfl) λes x hc=>hc.but
   ·cases he
  ·cases he
end
end Go.Proofs.YtfolipnappekaaaGreat
