/-
  Part 15 of the proof that the statement FnStateClasses holds.
-/
import Derived.Test.YtkkdpknjohcekaaCFStateClasses13
namespace Go.Proofs.Ytkkdpknjohcekaa
open Go.RowKit
section
variable {P:Program} {T:Tab} {X:Ctx} {w w':World} {π π':Pi} {H H':List (Nat×OB)}
def full (r:Real):Real:= {r with cl:=r.Cq}
theorem Cy.qH: ∀(τ:Ty) (F:List Nat) (es:List Value) (x:τ.den),τ.flat=true->Cy w F τ es x->F= []
 | .int k,F,es,x,_,h=>h.1
 | .bool,F,es,x,_,h=>h.1
 | .str,F,es,x,_,h=>h.1
 | .unit,F,es,x,_,h=>h.1
 | .pair a r,F,es,x,hf,h=>by
  simp only [Ty.flat,Ag] at hf
  simp only [Cy] at h
  obtain ⟨c1,c2,F1,F2,_,rfl,h1,h2⟩:=h
  rw [Cy.qH a F1 c1 x.1 hf.1 h1,Cy.qH r F2 c2 x.2 hf.2 h2]
  rfl
 | .slice _,_,_,_,hf,_=>by simp [Ty.flat] at hf
 | .oslice _,_,_,_,hf,_=>by simp [Ty.flat] at hf
 | .ptr _,_,_,_,hf,_=>by simp [Ty.flat] at hf
 | .optr _,_,_,_,hf,_=>by simp [Ty.flat] at hf
 | .smap _,_,_,_,hf,_=>by simp [Ty.flat] at hf
 | .clo _ _,_,_,_,hf,_=>by simp [Ty.flat] at hf
theorem lF {S P:Nat->Prop} {g o:Nat} {cur:Array Value} {e:Ty} {xs:List e.den} (hf:e.flat=true)
  (h: ∀(i:Nat) (x:e.den),xs[i]?=some x-> ∃es:List Value,es.length=e.size/\(∀j u,es[j]?=some u->cur[(o+i)*e.size+j]?=some u)/\Cells w S e es x):Wi w P g o cur e xs:=by
 refine ⟨List.replicate xs.length [],by simp,by simp,by simp,λi x F hx hF=>?_⟩
 obtain ⟨es,e1,e2,e3⟩:=h i x hx
 have:F= []:=Fc (Cf hF)
 subst this
 exact ⟨es,e1,e2,Wu e es x hf e3⟩
theorem Se.JF {D:Nat->Prop} {r:Option Real} {e:Ty} {ys:List e.den} {u:Value} (h:Se w D r e ys) (hf:e.flat=true) (hv:He r e.size 0 ys.length u):
  ∃F,Cy w F (.slice e) [u] ys/\F.Nodup/\ ∀b∈F,∃r',r=some r'/\r'.Cq b:=by
 cases r with
 |none=>
  obtain ⟨rfl,_,_⟩:=hv
  have h:ys= []:=h
  subst h
  exact ⟨[],⟨none,0,0,rfl,rfl,Ao _, .inl ⟨rfl,rfl,rfl,rfl⟩⟩,Lb,λb hb=>by cases hb⟩
 |some r=>
  obtain ⟨h1,cur,ti,h2,h3,h4,h5,h6⟩:=h
  obtain ⟨F,f1,f2,f3⟩:=j0 (P:=r.Cq) h2 h3 h4 (by omega) hv (lF hf h6) h1.1
  exact ⟨F,by simpa using f1,f2,λb hb=>⟨r,rfl,f3 b hb⟩⟩
theorem Np.JF {r:Option Real} {e:Ty} {te:TypeId} {ys:List e.den} {u:Value} (h:Np w r e te ys) (hv:He r e.size 0 ys.length u):
  ∃F,Cy w F (.slice e) [u] ys/\F.Nodup/\ ∀b∈F,∃r',r=some r'/\r'.Cq b:=by
 cases r with
 |none=>
  obtain ⟨rfl,_,_⟩:=hv
  have h:ys= []:=h
  subst h
  exact ⟨[],⟨none,0,0,rfl,rfl,Ao _, .inl ⟨rfl,rfl,rfl,rfl⟩⟩,Lb,λb hb=>by cases hb⟩
 |some r=>
  obtain ⟨h1,cur,ti,h2,h3,h4,h5,h6⟩:=h
  obtain ⟨F,f1,f2,f3⟩:=j0 (P:=r.Cq) h2 h3 h4 (by omega) hv h6 h1
  exact ⟨F,by simpa using f1,f2,λb hb=>⟨r,rfl,f3 b hb⟩⟩
theorem Cy.row {F:List Nat} {e:Ty} {u:Value} {xs:List e.den} (h:Cy w F (.slice e) [u] xs) (hn:F.Nodup):
  ∃r:Option Real,He r e.size 0 xs.length u/\(e.flat=true-> ∀D,Se w D r e xs)/\(∀te,Np w r e te xs)/\(∀r',r=some r'-> ∀b,r'.Cq b↔b∈F)/\(r=none->F= []):=by
 simp only [Cy] at h
 obtain ⟨a,len,cap,e0,e1,e2,h⟩:=h
 simp only [Ge,ah] at e0
 subst e0
 rcases h with ⟨rfl,rfl,rfl,rfl⟩|⟨ad,g,o,Fs,rfl,ha,⟨cur,ti,o',s1,s2,s3,s4⟩,rfl,hl,Kl⟩
 ·exact ⟨none,⟨by rw [e1];rfl,rfl,rfl⟩,λ_ _=>rfl,λ_=>rfl,(λr' h=>by cases h),λ_=>rfl⟩
 ·subst s2
  have jy: ∀(i:Nat) (x:e.den) (Fi:List Nat),xs[i]?=some x->Fs[i]?=some Fi-> ∃es:List Value,es.length=e.size/\(∀j u,es[j]?=some u->cur[(o'+i)*e.size+j]?=some u)/\Cy w Fi e es x:=by
   intro i x Fi hx hF
   obtain ⟨es,k1,k2,k3⟩:=Kl i x Fi hx hF
   refine ⟨es,k1,λj v hv=>?_,k3⟩
   have:=k2 j v hv
   rw [cellOf s1] at this
   rw [Dc];exact this
  refine ⟨some ⟨g,o',cap,(· ∈g::List.flatten Fs),(· ∈g::List.flatten Fs)⟩,⟨ad,by rw [e1];rfl,by dsimp only;omega,λh0=>by rw [ha h0];rfl⟩,λhf D=>⟨⟨by simp,λb hb=>?_⟩,cur,ti,s1,s3,s4,by rw [<-e1];exact e2,λi x hx=>?_⟩,
   fun te=>⟨by simp,cur,ti,s1,s3,s4,by rw [<-e1];exact e2,Fs,hl,hn,λb hb=>by simp [hb],jy⟩,λr' hr b=>by cases hr;exact Iff.rfl,λh=>by cases h⟩
  ·rcases Ay.1 hb with hb|hb
   ·exact hb
   ·obtain ⟨Fi,h1,h2⟩:=Gt.1 hb
    obtain ⟨i,hi,rfl⟩:=Mz h1
    obtain ⟨es,_,_,k3⟩:=jy i (xs[i]'(by omega)) _ (Ab _) (Ab hi)
    rw [Cy.qH e _ _ _ hf k3] at h2
    cases h2
  ·have hi:i<Fs.length:=by have:=(Am.1 hx).1;omega
   obtain ⟨es,k1,k2,k3⟩:=jy i x _ hx (Ab hi)
   exact ⟨es,k1,k2,Cells.flat e es x hf (Cy.cells (S:= λ_=>False) _ e es x k3 λb hb=> λh=>h)⟩
theorem bK: ∀(Fs:List (List Nat)) (i:Nat) (Fi F':List Nat),(List.flatten Fs).Nodup->Fs[i]?=some Fi->F'.Nodup->(∀b∈F',b∈Fi)->(List.flatten (Fs.set i F')).Nodup/\ ∀b∈List.flatten (Fs.set i F'),b∈List.flatten Fs
 | [],i,Fi,F',_,h,_,_=>by simp at h
 |G::Fs,0,Fi,F',hn,h,pN,hs=>by
  simp only [Bs,Aa] at h;subst h
  simp only [List.set_cons_zero,Ks] at hn⊢
  obtain ⟨n1,n2,n3⟩:=Dg.1 hn
  refine ⟨Dg.2 ⟨pN,n2,λa ha b hb=>n3 a (hs a ha) b hb⟩,λb hb=>?_⟩
  rcases Az.1 hb with hb|hb
  ·exact Bj _ (hs b hb)
  ·exact Cc _ hb
 |G::Fs,i+1,Fi,F',hn,h,pN,hs=>by
  simp only [Lz] at h
  simp only [List.set_cons_succ,Ks] at hn⊢
  obtain ⟨n1,n2,n3⟩:=Dg.1 hn
  obtain ⟨m1,m2⟩:=bK Fs i Fi F' n2 h pN hs
  refine ⟨Dg.2 ⟨n1,m1,λa ha b hb=>n3 a ha b (m2 b hb)⟩,λb hb=>?_⟩
  rcases Az.1 hb with hb|hb
  ·exact Bj _ hb
  ·exact Cc _ (m2 b hb)
theorem js: ∀(Fs:List (List Nat)) (i j:Nat) (Fi Fj:List Nat) (b:Nat),(List.flatten Fs).Nodup->Fs[i]?=some Fi->Fs[j]?=some Fj->b∈Fi->b∈Fj->i=j
 | [],i,j,Fi,Fj,b,_,h,_,_,_=>by simp at h
 |G::Fs,0,0,_,_,_,_,_,_,_,_=>rfl
 |G::Fs,0,j+1,Fi,Fj,b,hn,h1,h2,h3,h4=>by
  simp only [Bs,Aa,Lz] at h1 h2
  subst h1
  simp only [Ks] at hn
  exact absurd rfl ((Dg.1 hn).2.2 b h3 b (Gt.2 ⟨Fj,Cf h2,h4⟩))
 |G::Fs,i+1,0,Fi,Fj,b,hn,h1,h2,h3,h4=>by
  simp only [Bs,Aa,Lz] at h1 h2
  subst h2
  simp only [Ks] at hn
  exact absurd rfl ((Dg.1 hn).2.2 b h4 b (Gt.2 ⟨Fi,Cf h1,h3⟩))
 |G::Fs,i+1,j+1,Fi,Fj,b,hn,h1,h2,h3,h4=>by
  simp only [Lz] at h1 h2
  simp only [Ks] at hn
  rw [js Fs i j Fi Fj b (Dg.1 hn).2.1 h1 h2 h3 h4]
def wq (w:World) (π:Pi) (l i:Nat) (e:Ty) (tid:TypeId) (xs:List (List e.den)) (u:Value) (r:Option Real):Prop:=
 ∃q,π l=some q/\(∀r',r=some r'-> ∀b,r'.Cq b->q.Cq b/\b≠q.g)/\
  ∀(w':World) (ys:List e.den),w.heap.size<=w'.heap.size->(∀b,b<w.heap.size->q.Cq b->(∀r',r=some r'-> ¬r'.Cq b)->w'.heap[b]?=w.heap[b]?)->
   (∃F',Cy w' F' (.slice e) [u] ys/\F'.Nodup/\ ∀b∈F',∃r',r=some r'/\r'.Cq b)->Np w' (some q) (.slice e) tid (xs.set i ys)
theorem DE (h:Mm X w π H) {l i c:Nat} {e:Ty} {tid:TypeId} {xs:List (List e.den)} {x:List e.den} {u:Value} (hl:At H l=some (.Gg (.slice e) tid xs)) (hx:xs[i]?=some x) (hc:c=0)
  (hu:Gu X w π H (.sub l i c) u): ∃r,He r e.size 0 x.length u/\(e.flat=true-> ∀D,Se w D r e x)/\(∀te,Np w r e te x)/\wq w π l i e tid xs u r:=by
 subst hc
 obtain ⟨q,b0,sz0,n0,h1,og,h2,h3,⟨h4,a,n,m,rfl⟩,h5⟩:=hu
 rw [hl] at h1;cases h1
 simp only [OB.eW,Aa,Ad] at og
 obtain ⟨rfl,rfl⟩:=og
 have hb:=(h.heap l).Qw hl
 simp only [Cd,Np,h2] at hb
 obtain ⟨k1,cur,ti,k2,k3,k4,k5,Fs,t1,t2,t3,t4⟩:=hb
 have hi:i<Fs.length:=by have:=(Am.1 hx).1;omega
 have hFi:Fs[i]?=some Fs[i]:=Ab hi
 obtain ⟨es,e1,e2,e3⟩:=t4 i x _ hx hFi
 have e1':es.length=1:=e1
 obtain ⟨v,rfl⟩:=Dw.1 e1'
 have hv:v= .slice a n m:=by
  have:=e2 0 v rfl
  rw [cellOf k2] at h5
  rw [this] at h5;exact Ax h5
 subst hv
 have hn2:=(Ca.1 t2).2
 have r6: ∀b∈Fs[i],b∈List.flatten Fs:= λb hb=>Gt.2 ⟨_,Al hi,hb⟩
 have hnF:(Fs[i]).Nodup:=hn2.sublist (by
  have:=fo (List.singleton_sublist.2 (Al hi))
  simpa using this)
 obtain ⟨r,r1,r2,r3,r4,r5⟩:=Cy.row e3 hnF
 refine ⟨r,r1,r2,r3,q,h2,λr' hr b hb=>?_,λw' ys hs hk ⟨F',f1,f2,f3⟩=>?_⟩
 ·have hb:=(r4 r' hr b).1 hb
  exact ⟨t3 b (r6 b hb),λe=>(Ca.1 t2).1 (e▸r6 b hb)⟩
 ·have hF': ∀b∈F',b∈Fs[i]:= λb hb=>by
   obtain ⟨r',g1,g2⟩:=f3 b hb
   exact (r4 r' g1 b).1 g2
  have KQ:=bK Fs i _ F' hn2 hFi f2 hF'
  have hkg:w'.heap[q.g]?=w.heap[q.g]?:=hk q.g (Fw k2) k1 λr' hr hb=>(Ca.1 t2).1 (r6 _ ((r4 r' hr _).1 hb))
  refine ⟨k1,cur,ti,hkg.trans k2,k3,k4,by simpa using k5,Fs.set i F',by simp [t1],Ca.2 ⟨λhm=>(Ca.1 t2).1 (KQ.2 _ hm),KQ.1⟩,λb hb=>t3 b (KQ.2 b hb),λj y F hy hF=>?_⟩
  rw [Eb] at hy hF
  split at hy
  ·rename_i dO;subst dO
   rw [Ac rfl] at hF
   rw [Ac hi] at hF
   simp only [Aa] at hF
   have hy:ys=y:=by simpa [h3] using hy
   subst hy;subst hF
   exact ⟨[.slice a n m],rfl,e2,f1⟩
  ·rename_i dO
   rw [Ai dO] at hF
   obtain ⟨lu,g1,g2,g3⟩:=t4 j y F hy hF
   refine ⟨lu,g1,g2,g3.Fb _ _ _ _ hs λb hb=>?_⟩
   have SL:b∈List.flatten Fs:=Gt.2 ⟨F,Cf hF,hb⟩
   exact hk b (g3.lt _ _ _ _ b hb) (t3 b SL) λr' hr sT=>dO (js Fs i j _ F b hn2 hFi hF ((r4 r' hr b).1 sT) hb)
def Sw (w:World) (π:Pi) (H:List (Nat×OB)) (io:Bool) (a:AC) (u:Value) (r:Option Real):(c:CK)->c.den->Prop
 | .Hx _,_=>r=none
 | .row e te,x=>match a with
  | .Ln=>r=none
  | .own l off len=>r=(π l).map full/\off=0/\len=List.length x/\ ∃fr tr,At H l=some (.arr fr tr e te x)
  | .sub l i _=>(io=true/\e.flat=true)/\ ∃tid xs,At H l=some (.Gg (.slice e) tid xs)/\xs[i]?=some x/\wq w π l i e tid xs u r
  |_=>False
 | .Gz e te,x=>match a with
  | .Ln=>r=none
  | .own l off len=>r=(π l).map full/\off=0/\len=List.length x/\At H l=some (.Gg e te x)
  | .sub l i _=>io=true/\ ∃tid xs,At H l=some (.Gg (.slice e) tid xs)/\xs[i]?=some x/\wq w π l i e tid xs u r
  |_=>False
 | .part e te,x=>e.flat=true/\match a with
  | .own l _ _=>r=(π l).map full/\io=true/\ ∃fr tr,At H l=some (.arr fr tr e te x.1)
  |_=>False
 | .Bo e te _,x=>io=false/\match a with
  | .own l off len=>r=(π l).map full/\off=0/\len=List.length x/\ ∃kp,At H l=some (.Bo e te x none kp)
  |_=>False
theorem Yr {r:Option Real} {s off len:Nat} {v:Value} (h:He r s off len v):He (r.map full) s off len v:=by
 cases r<;>exact h
def Oc (X:Ctx) (π:Pi) (V:List Nat) (b:Nat):Prop:=(Ut π b/\ ∀l∈V,∀r,π l=some r-> ¬r.Cq b)\/X.Sc b
theorem Oc.not {V:List Nat} {b l:Nat} (hb:Oc X π V b) (h:Mm X w π H) (hl:l∈V) {r:Real} (hr:π l=some r) (hf:r.Cq b):False:=by
 rcases hb with hb|hb
 ·exact hb.2 l hl r hr hf
 ·have h1:=h.sc b hb
  rcases (h.own ⟨l,r,hr,hf⟩).2 with h2|h2
  ·omega
  ·exact h1.2 h2
theorem Oc.fS {V:List Nat} {b:Nat} {B:Nat} {fr:Bool} (hb:Oc X π V b):Cv B X.Sc π fr b:=hb.elim (λh=> .inl h.1) λh=> .inr (.inl h)
theorem JI {st:St} {ls:List Nat} (h:bj st ls=true) {l:Nat} (hl:l∈ls) {tid:TypeId} {vs:List AC} (hv:At st.heap l=some (.var tid vs)):vs.all (·.settled)=true:=by
 have:=Ba.1 h l hl
 unfold St.at at this
 rw [hv] at this
 exact this
theorem Cells.but {V:List Nat} {f:Bool} {τ:Ty} {cs:List Value} {x:τ.den} (h:Cells w (Cv X.w0.heap.size X.Sc π f) τ cs x):Cells w (Oc X π V) τ cs x:=
 Cells.Fb (Ao _) (λ_ _ _=>rfl) (λ_ _ hk=>hk.fS) τ cs x h
theorem iy {st:St} (h:Mm X w π st.heap) {V:List Nat} {a:Ty} {l i:Nat} {fr:Bool} {x:a.den} (lR:bj st [l]=true) (XH:l∈V) (hv:Tm st a l i=some (fr,x)) {r:Real} (hr:π l=some r):
  r.g<w.heap.size/\ ¬Oc X π V r.g/\ ∃es:List Value,es.length=a.size/\(∀j u,es[j]?=some u->w.cell? ⟨r.g,i+j,none⟩=some u)/\Cells w (Oc X π V) a es x:=by
 unfold Tm at hv
 split at hv
 ·rename_i tid vs hl
  unfold St.at at hl
  obtain ⟨r',h3,h4,cur,h5,h6⟩:=(h.heap l).Qw hl
  rw [hr] at h3;cases h3
  have hs:=JI lR (Ae.2 rfl) hl
  have GI:((vs.drop i).take a.size).all (·.settled)=true:=Ba.2 λc hc=>Ba.1 hs c (cz (Ib hc))
  have hc:=Vt a _ _ fr x GI (Ys h6 i a.size) hv
  refine ⟨Fw h5,λhb=>hb.not h XH hr h4,_,Cells.len a _ x hc,λj u hu=>?_,hc.but⟩
  rw [cellOf h5]
  rw [Cr] at hu
  split at hu
  ·rw [Co] at hu;simpa using hu
  ·cases hu
 ·cases hv
theorem DT {st:St} {l:Nat} {ls:List Nat} (h:bj st (l::ls)=true):bj st [l]=true/\bj st ls=true:=by
 simp only [bj,Iw,List.all_nil,Bool.and_true,Ag] at h⊢
 exact h
theorem yJ {st:St} (h:Mm X w π st.heap) {V:List Nat} : ∀(τ:Ty) (Dz:List (Nat×Nat)) (us:List Value) (fr:Bool) (x:τ.den),us.length=Dz.length->
  (∀(j:Nat) p,Dz[j]?=some p-> ∃r tid vs,At st.heap p.1=some (.var tid vs)/\π p.1=some r/\us[j]?=some (.pointer (some ⟨r.g,p.2,none⟩)))->
  bj st (Dz.map (·.1))=true->(∀p∈Dz,p.1∈V)->Kq st τ Dz=some (fr,x)->Cells w (Oc X π V) τ us x:=by
 intro τ
 induction τ with
 |unit=>
  intro Dz us fr x hl hr _ _ hv
  cases Dz with
  |nil=>exact Ce hl
  |cons c cs=>simp [Kq] at hv
 |pair a r _ fF=>
  intro Dz us fr x hl hr lR hV hv
  cases a with
  |ptr a=>
   cases Dz with
   |nil=>simp [Kq] at hv
   |cons c cs=>
    obtain ⟨l,i⟩:=c
    simp only [Kq] at hv
    split at hv
    ·rename_i f1 y f2 z h1 h2
     simp only [Aa,Ad] at hv
     obtain ⟨rfl,rfl⟩:=hv
     cases us with
     |nil=>simp at hl
     |cons u us=>
      obtain ⟨r0,tid,vs,h3,h4,h5⟩:=hr 0 (l,i) rfl
      simp only [Bs,Aa] at h5
      subst h5
      obtain ⟨ok1,ok2⟩:=DT lR
      obtain ⟨h6,h7,es,h8,h9,og⟩:=iy h ok1 (hV _ (Ik ..)) h1 h4
      exact ⟨[_],us,rfl,⟨r0.g,i,rfl,h6,h7,es,h8,h9,og⟩,fF cs us f2 z (by simpa using hl) (λj p hp=>hr (j+1) p hp) ok2 (λp hp=>hV p (An _ hp)) h2⟩
    ·cases hv
  |_=>cases Dz<;>simp [Kq] at hv
 |_=>intro Dz us fr x hl hr _ _ hv;cases Dz<;>simp [Kq] at hv
theorem PW {st:St} (h:Mm X w π st.heap) {V:List Nat} {io:Bool} {k:Nat} {c:CK} {a:AC} {u:Value} (hu:Gu X w π st.heap a u) {x:c.den} {tks:List (Nat×Loc)} (he:Lt st io k c a=some (x,tks))
  (hV: ∀t∈tks,t.2.reads=true->t.2.Vx∈V): ∃r,dw w (Oc X π V) r u c x/\Sw w π st.heap io a u r c x:=by
 cases c with
 |Hx τ=>
  have own: ∀l off len,a= .own l off len-> ∃r,dw w (Oc X π V) r u (.Hx τ) x/\Sw w π st.heap io a u r (.Hx τ) x:=by
   intro l off len ea
   subst ea
   simp only [Lt] at he
   cases hv:Dk st τ (.own l off len) with
   |none=>rw [hv] at he;cases he
   |some p=>
    obtain ⟨fr,y⟩:=p
    rw [hv] at he
    simp only [Ak,Aa,Ad] at he
    obtain ⟨rfl,rfl⟩:=he
    have XH:l∈V:=hV _ (Ae.2 rfl) rfl
    refine ⟨none,⟨rfl,?_⟩,rfl⟩
    cases τ<;>simp only [Dk] at hv<;>try (cases hv;done)
    rename_i e
    cases hl:st.at l with
    |none=>rw [hl] at hv;cases hv
    |some b=>
     rw [hl] at hv
     unfold St.at at hl
     cases b<;>(try simp only [] at hv)<;>try (cases hv;done)
     ·rename_i sS z8 e0 tid xs
      split at hv
      ·rename_i SO;subst SO
       simp only [Aa,Ad] at hv
       obtain ⟨_,rfl⟩:=hv
       obtain ⟨h1,h2⟩:=Oa hu hl
       exact ⟨[u],nA h hl h1 h2 (λb hb ⟨r,hr,hf⟩=>hb.not h XH hr hf) (λb _ hb=>hb.fS),rfl⟩
      ·cases hv
     ·rename_i e0 tid xs
      split at hv
      ·rename_i SO;subst SO
       simp only [Aa,Ad] at hv
       obtain ⟨_,rfl⟩:=hv
       obtain ⟨h1,h2⟩:=bb hu hl
       exact ⟨[u],l4 h hl h1 h2 (λb hb ⟨r,hr,hf⟩=>hb.not h XH hr hf),rfl⟩
      ·cases hv
     ·rename_i e0 te0 rows out kp
      cases out with
      |some i=>cases hv
      |none=>
       simp only [] at hv
       split at hv
       ·rename_i SO;subst SO
        simp only [Aa,Ad] at hv
        obtain ⟨_,rfl⟩:=hv
        obtain ⟨h1,h2⟩:=mq hu hl
        exact ⟨[u],qL h hl h1 h2 (λb hb ⟨r,hr,hf⟩=>hb.not h XH hr hf) (λb hb=>hb.fS),rfl⟩
       ·cases hv
  have All: ∀g Dz,a= .clo g Dz-> ∃r,dw w (Oc X π V) r u (.Hx τ) x/\Sw w π st.heap io a u r (.Hx τ) x:=by
   intro g Dz ea
   subst ea
   simp only [Lt] at he
   split at he
   ·rename_i hc
    simp only [Ag,Fk] at hc
    obtain ⟨lR,Sz⟩:=hc
    cases hv:Jg st τ (.clo g Dz) with
    |none=>rw [hv] at he;cases he
    |some p=>
     obtain ⟨fr,y⟩:=p
     rw [hv] at he
     simp only [Ak,Aa,Ad] at he
     obtain ⟨rfl,rfl⟩:=he
     have hcV: ∀p∈Dz,p.1∈V:= λp hp=>hV (Dr false k, .view p.1) (Be.2 ⟨p.1,Be.2 ⟨p,hp,rfl⟩,rfl⟩) rfl
     obtain ⟨us,rfl,h2,h3⟩:=hu
     refine ⟨none,⟨rfl,Ct.mf Sz ?_⟩,rfl⟩
     cases τ<;>simp only [Jg] at hv<;>try (simp only [Dk,reduceCtorEq] at hv;done)
     rename_i f0 c0
     split at hv
     ·rename_i hg
      obtain ⟨rfl,Jl⟩:=hg
      exact ⟨us,by rw [fZ Jl],yJ h c0 Dz us fr y h2 h3 lR hcV hv⟩
     ·cases hv
   ·cases he
  have hvp: ∀l i,a= .Gp l i-> ∃r,dw w (Oc X π V) r u (.Hx τ) x/\Sw w π st.heap io a u r (.Hx τ) x:=by
   intro l i ea
   subst ea
   simp only [Lt] at he
   split at he
   ·rename_i hc
    simp only [Ag,Fk] at hc
    obtain ⟨lR,Sz⟩:=hc
    cases hv:Jg st τ (.Gp l i) with
    |none=>rw [hv] at he;cases he
    |some p=>
     obtain ⟨fr,y⟩:=p
     rw [hv] at he
     simp only [Ak,Aa,Ad] at he
     obtain ⟨rfl,rfl⟩:=he
     have XH:l∈V:=hV (Dr false k, .view l) (Be.2 ⟨l,Ae.2 rfl,rfl⟩) rfl
     obtain ⟨r,tid,vs,h1,h2,rfl⟩:=hu
     refine ⟨none,⟨rfl,Ct.mf Sz ?_⟩,rfl⟩
     cases τ<;>simp only [Jg] at hv<;>try (simp only [Dk,reduceCtorEq] at hv;done)
     ·obtain ⟨h6,h7,h8⟩:=iy h lR XH hv h2
      exact ⟨r.g,i,rfl,h6,h7,h8⟩
     ·rename_i a
      cases hp:Tm st a l i with
      |none=>rw [hp] at hv;cases hv
      |some p=>
       rw [hp] at hv
       simp only [Ak,Aa,Ad] at hv
       obtain ⟨_,rfl⟩:=hv
       obtain ⟨h6,h7,h8⟩:=iy h lR XH hp h2
       exact .inr ⟨_,r.g,i,rfl,rfl,h6,h7,h8⟩
   ·cases he
  have Wy: ∀l i c,a= .sub l i c-> ∃r,dw w (Oc X π V) r u (.Hx τ) x/\Sw w π st.heap io a u r (.Hx τ) x:=by
   intro l i c ea
   subst ea
   simp only [Lt] at he
   cases hv:Dk st τ (.sub l i c) with
   |none=>rw [hv] at he;cases he
   |some p=>
    obtain ⟨fr,y⟩:=p
    rw [hv] at he
    simp only [Ak,Aa,Ad] at he
    obtain ⟨rfl,rfl⟩:=he
    have XH:l∈V:=hV _ (Ae.2 rfl) rfl
    refine ⟨none,⟨rfl,?_⟩,rfl⟩
    cases τ<;>simp only [Dk] at hv<;>try (cases hv;done)
    rename_i e
    cases hl:st.at l with
    |none=>rw [hl] at hv;cases hv
    |some b=>
     rw [hl] at hv
     unfold St.at at hl
     cases b<;>(try simp only [] at hv)<;>try (cases hv;done)
     rename_i e0 te0 rows out kp
     cases out with
     |some i=>cases hv
     |none=>
      simp only [] at hv
      split at hv
      ·rename_i SO;subst SO
       simp only [Aa,Ad] at hv
       obtain ⟨_,rfl⟩:=hv
       exact ⟨[u],qM h hl (AA hu hl) hu (λb hb ⟨r,hr,hf⟩=>hb.not h XH hr hf) (λb hb=>hb.fS),rfl⟩
      ·cases hv
  by_cases LC: ∃l i c,a= .sub l i c
  ·obtain ⟨l,i,c,ea⟩:=LC;exact Wy l i c ea
  by_cases Aaw: ∃g Dz,a= .clo g Dz
  ·obtain ⟨g,Dz,ea⟩:=Aaw;exact All g Dz ea
  by_cases Ahu: ∃l i,a= .Gp l i
  ·obtain ⟨l,i,ea⟩:=Ahu;exact hvp l i ea
  by_cases cS: ∃l off len,a= .own l off len
  ·obtain ⟨l,off,len,ea⟩:=cS;exact own l off len ea
  have he:(if τ.flat||a.settled then (Dk st τ a).map λp=>(p.2,([]:List (Nat×Loc))) else none)=some (x,tks):=by
   cases a<;>first|exact he|exact absurd ⟨_,_,_,rfl⟩ cS|exact absurd ⟨_,_,rfl⟩ Aaw|exact absurd ⟨_,_,rfl⟩ Ahu|exact absurd ⟨_,_,_,rfl⟩ LC
  split at he
  ·rename_i hc
   cases hv:Dk st τ a with
   |none=>rw [hv] at he;cases he
   |some p=>
    obtain ⟨fr,y⟩:=p
    rw [hv] at he
    simp only [Ak,Aa,Ad] at he
    obtain ⟨rfl,rfl⟩:=he
    refine ⟨none,⟨rfl,?_⟩,rfl⟩
    have Ij: ∀f,Ct w (Cv X.w0.heap.size X.Sc π f) τ u y->Ct w (Oc X π V) τ u y:= λf hr=>hr.Ij λk _ hk=>hk.fS
    cases a with
    |data f Nx z=>
     rw [Nl] at hv
     split at hv
     ·rename_i ht;subst ht
      simp only [Aa,Ad] at hv
      obtain ⟨_,rfl⟩:=hv
      exact Ij f hu
     ·have Ya:τ.Ap=false:=by unfold gg at hv;split at hv<;>first|rfl|cases hv
      exact Ij _ ⟨[u],c8 hv hu,by simp [Bv,Ya]⟩
    |Ln=>
     have hu:u= .slice none 0 0:=hu
     subst hu
     cases τ<;>simp only [Dk,Aa,Ad,reduceCtorEq] at hv
     ·obtain ⟨_,rfl⟩:=hv;exact ⟨[_],⟨none,0,0,rfl,rfl,Ao _, .inl rfl⟩,rfl⟩
     ·obtain ⟨_,rfl⟩:=hv;exact ⟨[_], .inl ⟨rfl,0,rfl⟩,rfl⟩
    |Up=>
     have hu:u= .pointer none:=hu
     subst hu
     cases τ<;>simp only [Dk,Aa,Ad,reduceCtorEq] at hv
     obtain ⟨_,rfl⟩:=hv;exact ⟨[_], .inl ⟨rfl,rfl⟩,rfl⟩
    |_=>cases τ<;>simp [AC.settled,Ty.flat,Dk] at hc hv
  ·cases he
 |row e te=>
  cases a<;>simp only [Lt] at he<;>try (cases he;done)
  ·simp only [Aa,Ad] at he
   obtain ⟨rfl,rfl⟩:=he
   have hu:u= .slice none 0 0:=hu
   exact ⟨none,⟨⟨hu,rfl,rfl⟩,rfl⟩,rfl⟩
  ·rename_i l off len
   split at he
   ·rename_i fr tr e' Qr xs hl
    split at he
    ·rename_i hc
     obtain ⟨rfl,rfl,rfl,rfl⟩:=hc
     simp only [Aa,Ad] at he
     obtain ⟨rfl,rfl⟩:=he
     unfold St.at at hl
     obtain ⟨_,h2⟩:=Oa hu hl
     refine ⟨(π l).map full,⟨Yr h2,?_⟩,rfl,rfl,rfl,fr,tr,hl⟩
     have hb:=(h.heap l).Qw hl
     simp only [Cd,Jk] at hb
     cases hp:π l with
     |none=>rw [hp] at hb;exact hb
     |some q=>
      rw [hp] at hb
      obtain ⟨k1,cur,ti,k2,k3,k4,k5,k6,_⟩:=hb
      refine ⟨⟨k1.1,k1.2.1⟩,cur,ti,k2,k3,k4,k5,λi y hy=>?_⟩
      obtain ⟨es,g1,g2,g3⟩:=k6 i y hy
      exact ⟨es,g1,g2,Cells.Fb (Ao _) (λ_ _ _=>rfl) (λ_ _ hk=>hk.fS) e' es y g3⟩
    ·cases he
   ·cases he
  ·rename_i l i c
   split at he
   ·rename_i e' tid xs hl
    split at he
    ·rename_i hc
     obtain ⟨rfl,hf,wV,j7⟩:=hc
     cases hx:xs[i]? with
     |none=>rw [hx] at he;cases he
     |some y=>
      rw [hx] at he
      simp only [Ak,Aa,Ad] at he
      obtain ⟨rfl,rfl⟩:=he
      unfold St.at at hl
      obtain ⟨r,r1,r2,_,r4⟩:=DE h hl hx j7 hu
      exact ⟨r,⟨r1,r2 hf _⟩,⟨wV,hf⟩,tid,xs,hl,hx,r4⟩
    ·cases he
   ·cases he
 |Gz e te=>
  cases a<;>simp only [Lt] at he<;>try (cases he;done)
  ·simp only [Aa,Ad] at he
   obtain ⟨rfl,rfl⟩:=he
   have hu:u= .slice none 0 0:=hu
   exact ⟨none,⟨⟨hu,rfl,rfl⟩,rfl⟩,rfl⟩
  ·rename_i l off len
   split at he
   ·rename_i e' Qr xs hl
    split at he
    ·rename_i hc
     obtain ⟨rfl,rfl,rfl,rfl⟩:=hc
     simp only [Aa,Ad] at he
     obtain ⟨rfl,rfl⟩:=he
     unfold St.at at hl
     obtain ⟨_,h2⟩:=bb hu hl
     refine ⟨(π l).map full,⟨Yr h2,?_⟩,rfl,rfl,rfl,hl⟩
     have hb:=(h.heap l).Qw hl
     simp only [Cd] at hb
     cases hp:π l with
     |none=>rw [hp] at hb;exact hb
     |some q=>rw [hp] at hb;exact hb
    ·cases he
   ·cases he
  ·rename_i l i c
   split at he
   ·rename_i e' tid xs hl
    split at he
    ·rename_i hc
     obtain ⟨rfl,wV,j7⟩:=hc
     cases hx:xs[i]? with
     |none=>rw [hx] at he;cases he
     |some y=>
      rw [hx] at he
      simp only [Ak,Aa,Ad] at he
      obtain ⟨rfl,rfl⟩:=he
      unfold St.at at hl
      obtain ⟨r,r1,_,r3,r4⟩:=DE h hl hx j7 hu
      exact ⟨r,⟨r1,r3 te⟩,wV,tid,xs,hl,hx,r4⟩
    ·cases he
   ·cases he
 |part e te=>
  cases a<;>simp only [Lt] at he<;>try (cases he;done)
  rename_i l off len
  split at he
  ·rename_i fr tr e' Qr xs hl
   split at he
   ·rename_i hc
    obtain ⟨rfl,rfl,hf,wV⟩:=hc
    simp only [Aa,Ad] at he
    obtain ⟨rfl,rfl⟩:=he
    unfold St.at at hl
    obtain ⟨h1,h2⟩:=Oa hu hl
    refine ⟨(π l).map full,⟨⟨Yr h2,h1⟩,hf,?_⟩,hf,rfl,wV,fr,tr,hl⟩
    have hb:=(h.heap l).Qw hl
    simp only [Cd,Jk] at hb
    cases hp:π l with
    |none=>rw [hp] at hb;exact hb
    |some q=>
     rw [hp] at hb
     obtain ⟨k1,cur,ti,k2,k3,k4,k5,k6,_⟩:=hb
     refine ⟨⟨k1.1,k1.2.1⟩,cur,ti,k2,k3,k4,k5,λi y hy=>?_⟩
     obtain ⟨es,g1,g2,g3⟩:=k6 i y hy
     exact ⟨es,g1,g2,Cells.flat e' es y hf g3⟩
   ·cases he
  ·cases he
 |Bo e te kp=>
  cases a<;>simp only [Lt] at he<;>try (cases he;done)
  rename_i l off len
  split at he
  ·rename_i e' Qr rows kp' hl
   split at he
   ·rename_i hc
    obtain ⟨rfl,rfl,rfl,rfl,wV⟩:=hc
    simp only [Aa,Ad] at he
    obtain ⟨rfl,rfl⟩:=he
    unfold St.at at hl
    obtain ⟨h1,h2⟩:=mq hu hl
    refine ⟨(π l).map full,⟨Yr h2,?_⟩,wV,rfl,rfl,rfl,kp',hl⟩
    have hb:=(h.heap l).Qw hl
    simp only [Cd] at hb
    have hb:=hb.1
    have hg:Zg w (Cv X.w0.heap.size X.Sc π false) ((π l).map full) e' rows none:=by
     cases hp:π l with
     |none=>rw [hp] at hb;exact hb
     |some q=>rw [hp] at hb;exact hb
    exact hg.Fb (λ_ _ _ _ _=>rfl) λes x hc=>hc.but
   ·cases he
  ·cases he
end
end Go.Proofs.Ytkkdpknjohcekaa
