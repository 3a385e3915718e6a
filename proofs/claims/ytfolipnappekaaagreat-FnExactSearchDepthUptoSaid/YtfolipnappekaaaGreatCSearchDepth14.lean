/-
  Part 15 of the proof that the statement FnExactSearchDepth holds.
-/
import Derived.Test.YtfolipnappekaaaGreatCSearchDepth13
namespace Go.Proofs.YtfolipnappekaaaGreat
open Go.RowKit
section
variable {P:Program} {T:Tab} {X:Ctx} {w w':World} {π π':Pi} {H H':List (Nat×OB)}
def full (r:Real):Real:= {r with cl:=r.Ct}
theorem Cg.tC: ∀(τ:Ty) (F:List Nat) (es:List Value) (x:τ.den),τ.flat=true->Cg w F τ es x->F= []
 | .int k,F,es,x,_,h=>h.1
 | .bool,F,es,x,_,h=>h.1
 | .str,F,es,x,_,h=>h.1
 | .unit,F,es,x,_,h=>h.1
 | .pair a r,F,es,x,hf,h=>by
  simp only [Ty.flat,Af] at hf
  simp only [Cg] at h
  obtain ⟨c1,c2,F1,F2,_,rfl,h1,h2⟩:=h
  rw [Cg.tC a F1 c1 x.1 hf.1 h1,Cg.tC r F2 c2 x.2 hf.2 h2]
  rfl
 | .slice _,_,_,_,hf,_=>by simp [Ty.flat] at hf
 | .oslice _,_,_,_,hf,_=>by simp [Ty.flat] at hf
 | .ptr _,_,_,_,hf,_=>by simp [Ty.flat] at hf
 | .optr _,_,_,_,hf,_=>by simp [Ty.flat] at hf
 | .smap _,_,_,_,hf,_=>by simp [Ty.flat] at hf
 | .clo _ _,_,_,_,hf,_=>by simp [Ty.flat] at hf
theorem nm {S P:Nat->Prop} {g o:Nat} {cur:Array Value} {e:Ty} {xs:List e.den} (hf:e.flat=true)
  (h: ∀(i:Nat) (x:e.den),xs[i]?=some x-> ∃es:List Value,es.length=e.size/\(∀j u,es[j]?=some u->cur[(o+i)*e.size+j]?=some u)/\Cells w S e es x):Xm w P g o cur e xs:=by
 refine ⟨List.replicate xs.length [],by simp,by simp,by simp,λi x F hx hF=>?_⟩
 obtain ⟨es,e1,e2,e3⟩:=h i x hx
 have:F= []:=Fk (Bq hF)
 subst this
 exact ⟨es,e1,e2,Xw e es x hf e3⟩
theorem Sy.PV {D:Nat->Prop} {r:Option Real} {e:Ty} {ys:List e.den} {u:Value} (h:Sy w D r e ys) (hf:e.flat=true) (hv:Hw r e.size 0 ys.length u):
  ∃F,Cg w F (.slice e) [u] ys/\F.Nodup/\ ∀b∈F,∃r',r=some r'/\r'.Ct b:=by
 cases r with
 |none=>
  obtain ⟨rfl,_,_⟩:=hv
  have h:ys= []:=h
  subst h
  exact ⟨[],⟨none,0,0,rfl,rfl,Ao _, .inl ⟨rfl,rfl,rfl,rfl⟩⟩,Nc,λb hb=>by cases hb⟩
 |some r=>
  obtain ⟨h1,cur,ti,h2,h3,h4,h5,h6⟩:=h
  obtain ⟨F,f1,f2,f3⟩:=kx (P:=r.Ct) h2 h3 h4 (by omega) hv (nm hf h6) h1.1
  exact ⟨F,by simpa using f1,f2,λb hb=>⟨r,rfl,f3 b hb⟩⟩
theorem Nu.PV {r:Option Real} {e:Ty} {te:TypeId} {ys:List e.den} {u:Value} (h:Nu w r e te ys) (hv:Hw r e.size 0 ys.length u):
  ∃F,Cg w F (.slice e) [u] ys/\F.Nodup/\ ∀b∈F,∃r',r=some r'/\r'.Ct b:=by
 cases r with
 |none=>
  obtain ⟨rfl,_,_⟩:=hv
  have h:ys= []:=h
  subst h
  exact ⟨[],⟨none,0,0,rfl,rfl,Ao _, .inl ⟨rfl,rfl,rfl,rfl⟩⟩,Nc,λb hb=>by cases hb⟩
 |some r=>
  obtain ⟨h1,cur,ti,h2,h3,h4,h5,h6⟩:=h
  obtain ⟨F,f1,f2,f3⟩:=kx (P:=r.Ct) h2 h3 h4 (by omega) hv h6 h1
  exact ⟨F,by simpa using f1,f2,λb hb=>⟨r,rfl,f3 b hb⟩⟩
theorem Cg.row {F:List Nat} {e:Ty} {u:Value} {xs:List e.den} (h:Cg w F (.slice e) [u] xs) (hn:F.Nodup):
  ∃r:Option Real,Hw r e.size 0 xs.length u/\(e.flat=true-> ∀D,Sy w D r e xs)/\(∀te,Nu w r e te xs)/\(∀r',r=some r'-> ∀b,r'.Ct b↔b∈F)/\(r=none->F= []):=by
 simp only [Cg] at h
 obtain ⟨a,len,cap,e0,e1,e2,h⟩:=h
 simp only [Gb,Oi] at e0
 subst e0
 rcases h with ⟨rfl,rfl,rfl,rfl⟩|⟨ad,g,o,Fs,rfl,ha,⟨cur,ti,o',s1,s2,s3,s4⟩,rfl,hl,Ke⟩
 ·exact ⟨none,⟨by rw [e1];rfl,rfl,rfl⟩,λ_ _=>rfl,λ_=>rfl,(λr' h=>by cases h),λ_=>rfl⟩
 ·subst s2
  have l7: ∀(i:Nat) (x:e.den) (Fi:List Nat),xs[i]?=some x->Fs[i]?=some Fi-> ∃es:List Value,es.length=e.size/\(∀j u,es[j]?=some u->cur[(o'+i)*e.size+j]?=some u)/\Cg w Fi e es x:=by
   intro i x Fi hx hF
   obtain ⟨es,k1,k2,k3⟩:=Ke i x Fi hx hF
   refine ⟨es,k1,λj v hv=>?_,k3⟩
   have:=k2 j v hv
   rw [cellOf s1] at this
   rw [Dc];exact this
  refine ⟨some ⟨g,o',cap,(· ∈g::List.flatten Fs),(· ∈g::List.flatten Fs)⟩,⟨ad,by rw [e1];rfl,by dsimp only;omega,λh0=>by rw [ha h0];rfl⟩,λhf D=>⟨⟨by simp,λb hb=>?_⟩,cur,ti,s1,s3,s4,by rw [<-e1];exact e2,λi x hx=>?_⟩,
   fun te=>⟨by simp,cur,ti,s1,s3,s4,by rw [<-e1];exact e2,Fs,hl,hn,λb hb=>by simp [hb],l7⟩,λr' hr b=>by cases hr;exact Iff.rfl,λh=>by cases h⟩
  ·rcases Be.1 hb with hb|hb
   ·exact hb
   ·obtain ⟨Fi,h1,h2⟩:=Fg.1 hb
    obtain ⟨i,hi,rfl⟩:=Rd h1
    obtain ⟨es,_,_,k3⟩:=l7 i (xs[i]'(by omega)) _ (Ac _) (Ac hi)
    rw [Cg.tC e _ _ _ hf k3] at h2
    cases h2
  ·have hi:i<Fs.length:=by have:=(An.1 hx).1;omega
   obtain ⟨es,k1,k2,k3⟩:=l7 i x _ hx (Ac hi)
   exact ⟨es,k1,k2,Cells.flat e es x hf (Cg.cells (S:= λ_=>False) _ e es x k3 λb hb=> λh=>h)⟩
theorem cN: ∀(Fs:List (List Nat)) (i:Nat) (Fi F':List Nat),(List.flatten Fs).Nodup->Fs[i]?=some Fi->F'.Nodup->(∀b∈F',b∈Fi)->(List.flatten (Fs.set i F')).Nodup/\ ∀b∈List.flatten (Fs.set i F'),b∈List.flatten Fs
 | [],i,Fi,F',_,h,_,_=>by simp at h
 |G::Fs,0,Fi,F',hn,h,sA,hs=>by
  simp only [Bz,Aa] at h;subst h
  simp only [List.set_cons_zero,Kv] at hn⊢
  obtain ⟨n1,n2,n3⟩:=Cy.1 hn
  refine ⟨Cy.2 ⟨sA,n2,λa ha b hb=>n3 a (hs a ha) b hb⟩,λb hb=>?_⟩
  rcases Bb.1 hb with hb|hb
  ·exact Bc _ (hs b hb)
  ·exact Bt _ hb
 |G::Fs,i+1,Fi,F',hn,h,sA,hs=>by
  simp only [Mb] at h
  simp only [List.set_cons_succ,Kv] at hn⊢
  obtain ⟨n1,n2,n3⟩:=Cy.1 hn
  obtain ⟨m1,m2⟩:=cN Fs i Fi F' n2 h sA hs
  refine ⟨Cy.2 ⟨n1,m1,λa ha b hb=>n3 a ha b (m2 b hb)⟩,λb hb=>?_⟩
  rcases Bb.1 hb with hb|hb
  ·exact Bc _ hb
  ·exact Bt _ (m2 b hb)
theorem dj: ∀(Fs:List (List Nat)) (i j:Nat) (Fi Fj:List Nat) (b:Nat),(List.flatten Fs).Nodup->Fs[i]?=some Fi->Fs[j]?=some Fj->b∈Fi->b∈Fj->i=j
 | [],i,j,Fi,Fj,b,_,h,_,_,_=>by simp at h
 |G::Fs,0,0,_,_,_,_,_,_,_,_=>rfl
 |G::Fs,0,j+1,Fi,Fj,b,hn,h1,h2,h3,h4=>by
  simp only [Bz,Aa,Mb] at h1 h2
  subst h1
  simp only [Kv] at hn
  exact absurd rfl ((Cy.1 hn).2.2 b h3 b (Fg.2 ⟨Fj,Bq h2,h4⟩))
 |G::Fs,i+1,0,Fi,Fj,b,hn,h1,h2,h3,h4=>by
  simp only [Bz,Aa,Mb] at h1 h2
  subst h2
  simp only [Kv] at hn
  exact absurd rfl ((Cy.1 hn).2.2 b h4 b (Fg.2 ⟨Fi,Bq h1,h3⟩))
 |G::Fs,i+1,j+1,Fi,Fj,b,hn,h1,h2,h3,h4=>by
  simp only [Mb] at h1 h2
  simp only [Kv] at hn
  rw [dj Fs i j Fi Fj b (Cy.1 hn).2.1 h1 h2 h3 h4]
def zb (w:World) (π:Pi) (l i:Nat) (e:Ty) (tid:TypeId) (xs:List (List e.den)) (u:Value) (r:Option Real):Prop:=
 ∃q,π l=some q/\(∀r',r=some r'-> ∀b,r'.Ct b->q.Ct b/\b≠q.g)/\
  ∀(w':World) (ys:List e.den),w.heap.size<=w'.heap.size->(∀b,b<w.heap.size->q.Ct b->(∀r',r=some r'-> ¬r'.Ct b)->w'.heap[b]?=w.heap[b]?)->
   (∃F',Cg w' F' (.slice e) [u] ys/\F'.Nodup/\ ∀b∈F',∃r',r=some r'/\r'.Ct b)->Nu w' (some q) (.slice e) tid (xs.set i ys)
theorem IZ (h:Mv X w π H) {l i c:Nat} {e:Ty} {tid:TypeId} {xs:List (List e.den)} {x:List e.den} {u:Value} (hl:Au H l=some (.Gt (.slice e) tid xs)) (hx:xs[i]?=some x) (hc:c=0)
  (hu:Hp X w π H (.sub l i c) u): ∃r,Hw r e.size 0 x.length u/\(e.flat=true-> ∀D,Sy w D r e x)/\(∀te,Nu w r e te x)/\zb w π l i e tid xs u r:=by
 subst hc
 obtain ⟨q,b0,sz0,n0,h1,oO,h2,h3,⟨h4,a,n,m,rfl⟩,h5⟩:=hu
 rw [hl] at h1;cases h1
 simp only [OB.gi,Aa,Ad] at oO
 obtain ⟨rfl,rfl⟩:=oO
 have hb:=(h.heap l).Qi hl
 simp only [Cj,Nu,h2] at hb
 obtain ⟨k1,cur,ti,k2,k3,k4,k5,Fs,t1,t2,t3,t4⟩:=hb
 have hi:i<Fs.length:=by have:=(An.1 hx).1;omega
 have hFi:Fs[i]?=some Fs[i]:=Ac hi
 obtain ⟨es,e1,e2,e3⟩:=t4 i x _ hx hFi
 have e1':es.length=1:=e1
 obtain ⟨v,rfl⟩:=De.1 e1'
 have hv:v= .slice a n m:=by
  have:=e2 0 v rfl
  rw [cellOf k2] at h5
  rw [this] at h5;exact Ba h5
 subst hv
 have hn2:=(Cb.1 t2).2
 have nA: ∀b∈Fs[i],b∈List.flatten Fs:= λb hb=>Fg.2 ⟨_,Aj hi,hb⟩
 have hnF:(Fs[i]).Nodup:=hn2.sublist (by
  have:=aw (List.singleton_sublist.2 (Aj hi))
  simpa using this)
 obtain ⟨r,r1,r2,r3,r4,r5⟩:=Cg.row e3 hnF
 refine ⟨r,r1,r2,r3,q,h2,λr' hr b hb=>?_,λw' ys hs hk ⟨F',f1,f2,f3⟩=>?_⟩
 ·have hb:=(r4 r' hr b).1 hb
  exact ⟨t3 b (nA b hb),λe=>(Cb.1 t2).1 (e▸nA b hb)⟩
 ·have hF': ∀b∈F',b∈Fs[i]:= λb hb=>by
   obtain ⟨r',g1,g2⟩:=f3 b hb
   exact (r4 r' g1 b).1 g2
  have ny:=cN Fs i _ F' hn2 hFi f2 hF'
  have hkg:w'.heap[q.g]?=w.heap[q.g]?:=hk q.g (Ft k2) k1 λr' hr hb=>(Cb.1 t2).1 (nA _ ((r4 r' hr _).1 hb))
  refine ⟨k1,cur,ti,hkg.trans k2,k3,k4,by simpa using k5,Fs.set i F',by simp [t1],Cb.2 ⟨λhm=>(Cb.1 t2).1 (ny.2 _ hm),ny.1⟩,λb hb=>t3 b (ny.2 b hb),λj y F hy hF=>?_⟩
  rw [Fe] at hy hF
  split at hy
  ·rename_i iK;subst iK
   rw [Ab rfl] at hF
   rw [Ab hi] at hF
   simp only [Aa] at hF
   have hy:ys=y:=by simpa [h3] using hy
   subst hy;subst hF
   exact ⟨[.slice a n m],rfl,e2,f1⟩
  ·rename_i iK
   rw [Ag iK] at hF
   obtain ⟨oN,g1,g2,g3⟩:=t4 j y F hy hF
   refine ⟨oN,g1,g2,g3.Ez _ _ _ _ hs λb hb=>?_⟩
   have YX:b∈List.flatten Fs:=Fg.2 ⟨F,Bq hF,hb⟩
   exact hk b (g3.lt _ _ _ _ b hb) (t3 b YX) λr' hr iJ=>iK (dj Fs i j _ F b hn2 hFi hF ((r4 r' hr b).1 iJ) hb)
def Tt (w:World) (π:Pi) (H:List (Nat×OB)) (io:Bool) (a:AC) (u:Value) (r:Option Real):(c:CK)->c.den->Prop
 | .Eu _,_=>r=none
 | .row e te,x=>match a with
  | .Ly=>r=none
  | .own l off len=>r=(π l).map full/\off=0/\len=List.length x/\ ∃fr tr,Au H l=some (.arr fr tr e te x)
  | .sub l i _=>(io=true/\e.flat=true)/\ ∃tid xs,Au H l=some (.Gt (.slice e) tid xs)/\xs[i]?=some x/\zb w π l i e tid xs u r
  |_=>False
 | .Hi e te,x=>match a with
  | .Ly=>r=none
  | .own l off len=>r=(π l).map full/\off=0/\len=List.length x/\Au H l=some (.Gt e te x)
  | .sub l i _=>io=true/\ ∃tid xs,Au H l=some (.Gt (.slice e) tid xs)/\xs[i]?=some x/\zb w π l i e tid xs u r
  |_=>False
 | .part e te,x=>e.flat=true/\match a with
  | .own l _ _=>r=(π l).map full/\io=true/\ ∃fr tr,Au H l=some (.arr fr tr e te x.1)
  |_=>False
 | .Bm e te _,x=>io=false/\match a with
  | .own l off len=>r=(π l).map full/\off=0/\len=List.length x/\ ∃kp,Au H l=some (.Bm e te x none kp)
  |_=>False
theorem Zy {r:Option Real} {s off len:Nat} {v:Value} (h:Hw r s off len v):Hw (r.map full) s off len v:=by
 cases r<;>exact h
def Om (X:Ctx) (π:Pi) (V:List Nat) (b:Nat):Prop:=(Ud π b/\ ∀l∈V,∀r,π l=some r-> ¬r.Ct b)\/X.Sc b
theorem Om.not {V:List Nat} {b l:Nat} (hb:Om X π V b) (h:Mv X w π H) (hl:l∈V) {r:Real} (hr:π l=some r) (hf:r.Ct b):False:=by
 rcases hb with hb|hb
 ·exact hb.2 l hl r hr hf
 ·have h1:=h.sc b hb
  rcases (h.own ⟨l,r,hr,hf⟩).2 with h2|h2
  ·omega
  ·exact h1.2 h2
theorem Om.hZ {V:List Nat} {b:Nat} {B:Nat} {fr:Bool} (hb:Om X π V b):Da B X.Sc π fr b:=hb.elim (λh=> .inl h.1) λh=> .inr (.inl h)
theorem PY {st:St} {ls:List Nat} (h:cf st ls=true) {l:Nat} (hl:l∈ls) {tid:TypeId} {vs:List AC} (hv:Au st.heap l=some (.var tid vs)):vs.all (·.settled)=true:=by
 have:=Bd.1 h l hl
 unfold St.at at this
 rw [hv] at this
 exact this
theorem Cells.but {V:List Nat} {f:Bool} {τ:Ty} {cs:List Value} {x:τ.den} (h:Cells w (Da X.w0.heap.size X.Sc π f) τ cs x):Cells w (Om X π V) τ cs x:=
 Cells.Ez (Ao _) (λ_ _ _=>rfl) (λ_ _ hk=>hk.hZ) τ cs x h
theorem jG {st:St} (h:Mv X w π st.heap) {V:List Nat} {a:Ty} {l i:Nat} {fr:Bool} {x:a.den} (iM:cf st [l]=true) (hlV:l∈V) (hv:Ul st a l i=some (fr,x)) {r:Real} (hr:π l=some r):
  r.g<w.heap.size/\ ¬Om X π V r.g/\ ∃es:List Value,es.length=a.size/\(∀j u,es[j]?=some u->w.cell? ⟨r.g,i+j,none⟩=some u)/\Cells w (Om X π V) a es x:=by
 unfold Ul at hv
 split at hv
 ·rename_i tid vs hl
  unfold St.at at hl
  obtain ⟨r',h3,h4,cur,h5,h6⟩:=(h.heap l).Qi hl
  rw [hr] at h3;cases h3
  have hs:=PY iM (Ae.2 rfl) hl
  have FO:((vs.drop i).take a.size).all (·.settled)=true:=Bd.2 λc hc=>Bd.1 hs c (dA (Gl hc))
  have hc:=de a _ _ fr x FO (Zz h6 i a.size) hv
  refine ⟨Ft h5,λhb=>hb.not h hlV hr h4,_,Cells.len a _ x hc,λj u hu=>?_,hc.but⟩
  rw [cellOf h5]
  rw [Cx] at hu
  split at hu
  ·rw [Cw] at hu;simpa using hu
  ·cases hu
 ·cases hv
theorem JM {st:St} {l:Nat} {ls:List Nat} (h:cf st (l::ls)=true):cf st [l]=true/\cf st ls=true:=by
 simp only [cf,Hx,List.all_nil,Bool.and_true,Af] at h⊢
 exact h
theorem CP {st:St} (h:Mv X w π st.heap) {V:List Nat} : ∀(τ:Ty) (Ec:List (Nat×Nat)) (us:List Value) (fr:Bool) (x:τ.den),us.length=Ec.length->
  (∀(j:Nat) p,Ec[j]?=some p-> ∃r tid vs,Au st.heap p.1=some (.var tid vs)/\π p.1=some r/\us[j]?=some (.pointer (some ⟨r.g,p.2,none⟩)))->
  cf st (Ec.map (·.1))=true->(∀p∈Ec,p.1∈V)->Ku st τ Ec=some (fr,x)->Cells w (Om X π V) τ us x:=by
 intro τ
 induction τ with
 |unit=>
  intro Ec us fr x hl hr _ _ hv
  cases Ec with
  |nil=>exact Ck hl
  |cons c cs=>simp [Ku] at hv
 |pair a r _ jX=>
  intro Ec us fr x hl hr iM hV hv
  cases a with
  |ptr a=>
   cases Ec with
   |nil=>simp [Ku] at hv
   |cons c cs=>
    obtain ⟨l,i⟩:=c
    simp only [Ku] at hv
    split at hv
    ·rename_i f1 y f2 z h1 h2
     simp only [Aa,Ad] at hv
     obtain ⟨rfl,rfl⟩:=hv
     cases us with
     |nil=>simp at hl
     |cons u us=>
      obtain ⟨r0,tid,vs,h3,h4,h5⟩:=hr 0 (l,i) rfl
      simp only [Bz,Aa] at h5
      subst h5
      obtain ⟨ok1,ok2⟩:=JM iM
      obtain ⟨h6,h7,es,h8,h9,oO⟩:=jG h ok1 (hV _ (Iw ..)) h1 h4
      exact ⟨[_],us,rfl,⟨r0.g,i,rfl,h6,h7,es,h8,h9,oO⟩,jX cs us f2 z (by simpa using hl) (λj p hp=>hr (j+1) p hp) ok2 (λp hp=>hV p (As _ hp)) h2⟩
    ·cases hv
  |_=>cases Ec<;>simp [Ku] at hv
 |_=>intro Ec us fr x hl hr _ _ hv;cases Ec<;>simp [Ku] at hv
theorem WK {st:St} (h:Mv X w π st.heap) {V:List Nat} {io:Bool} {k:Nat} {c:CK} {a:AC} {u:Value} (hu:Hp X w π st.heap a u) {x:c.den} {tks:List (Nat×Loc)} (he:Ls st io k c a=some (x,tks))
  (hV: ∀t∈tks,t.2.reads=true->t.2.Wz∈V): ∃r,eF w (Om X π V) r u c x/\Tt w π st.heap io a u r c x:=by
 cases c with
 |Eu τ=>
  have own: ∀l off len,a= .own l off len-> ∃r,eF w (Om X π V) r u (.Eu τ) x/\Tt w π st.heap io a u r (.Eu τ) x:=by
   intro l off len ea
   subst ea
   simp only [Ls] at he
   cases hv:Dt st τ (.own l off len) with
   |none=>rw [hv] at he;cases he
   |some p=>
    obtain ⟨fr,y⟩:=p
    rw [hv] at he
    simp only [Am,Aa,Ad] at he
    obtain ⟨rfl,rfl⟩:=he
    have hlV:l∈V:=hV _ (Ae.2 rfl) rfl
    refine ⟨none,⟨rfl,?_⟩,rfl⟩
    cases τ<;>simp only [Dt] at hv<;>try (cases hv;done)
    rename_i e
    cases hl:st.at l with
    |none=>rw [hl] at hv;cases hv
    |some b=>
     rw [hl] at hv
     unfold St.at at hl
     cases b<;>(try simp only [] at hv)<;>try (cases hv;done)
     ·rename_i tH CO e0 tid xs
      split at hv
      ·rename_i ZB;subst ZB
       simp only [Aa,Ad] at hv
       obtain ⟨_,rfl⟩:=hv
       obtain ⟨h1,h2⟩:=Ok hu hl
       exact ⟨[u],pG h hl h1 h2 (λb hb ⟨r,hr,hf⟩=>hb.not h hlV hr hf) (λb _ hb=>hb.hZ),rfl⟩
      ·cases hv
     ·rename_i e0 tid xs
      split at hv
      ·rename_i ZB;subst ZB
       simp only [Aa,Ad] at hv
       obtain ⟨_,rfl⟩:=hv
       obtain ⟨h1,h2⟩:=c5 hu hl
       exact ⟨[u],mF h hl h1 h2 (λb hb ⟨r,hr,hf⟩=>hb.not h hlV hr hf),rfl⟩
      ·cases hv
     ·rename_i e0 te0 rows out kp
      cases out with
      |some i=>cases hv
      |none=>
       simp only [] at hv
       split at hv
       ·rename_i ZB;subst ZB
        simp only [Aa,Ad] at hv
        obtain ⟨_,rfl⟩:=hv
        obtain ⟨h1,h2⟩:=o4 hu hl
        exact ⟨[u],tM h hl h1 h2 (λb hb ⟨r,hr,hf⟩=>hb.not h hlV hr hf) (λb hb=>hb.hZ),rfl⟩
       ·cases hv
  have As2: ∀g Ec,a= .clo g Ec-> ∃r,eF w (Om X π V) r u (.Eu τ) x/\Tt w π st.heap io a u r (.Eu τ) x:=by
   intro g Ec ea
   subst ea
   simp only [Ls] at he
   split at he
   ·rename_i hc
    simp only [Af,Ef] at hc
    obtain ⟨iM,Tw⟩:=hc
    cases hv:Js st τ (.clo g Ec) with
    |none=>rw [hv] at he;cases he
    |some p=>
     obtain ⟨fr,y⟩:=p
     rw [hv] at he
     simp only [Am,Aa,Ad] at he
     obtain ⟨rfl,rfl⟩:=he
     have hcV: ∀p∈Ec,p.1∈V:= λp hp=>hV (Dr false k, .view p.1) (Bj.2 ⟨p.1,Bj.2 ⟨p,hp,rfl⟩,rfl⟩) rfl
     obtain ⟨us,rfl,h2,h3⟩:=hu
     refine ⟨none,⟨rfl,Cs.nQ Tw ?_⟩,rfl⟩
     cases τ<;>simp only [Js] at hv<;>try (simp only [Dt,reduceCtorEq] at hv;done)
     rename_i f0 c0
     split at hv
     ·rename_i hg
      obtain ⟨rfl,It⟩:=hg
      exact ⟨us,by rw [ik It],CP h c0 Ec us fr y h2 h3 iM hcV hv⟩
     ·cases hv
   ·cases he
  have hvp: ∀l i,a= .Hm l i-> ∃r,eF w (Om X π V) r u (.Eu τ) x/\Tt w π st.heap io a u r (.Eu τ) x:=by
   intro l i ea
   subst ea
   simp only [Ls] at he
   split at he
   ·rename_i hc
    simp only [Af,Ef] at hc
    obtain ⟨iM,Tw⟩:=hc
    cases hv:Js st τ (.Hm l i) with
    |none=>rw [hv] at he;cases he
    |some p=>
     obtain ⟨fr,y⟩:=p
     rw [hv] at he
     simp only [Am,Aa,Ad] at he
     obtain ⟨rfl,rfl⟩:=he
     have hlV:l∈V:=hV (Dr false k, .view l) (Bj.2 ⟨l,Ae.2 rfl,rfl⟩) rfl
     obtain ⟨r,tid,vs,h1,h2,rfl⟩:=hu
     refine ⟨none,⟨rfl,Cs.nQ Tw ?_⟩,rfl⟩
     cases τ<;>simp only [Js] at hv<;>try (simp only [Dt,reduceCtorEq] at hv;done)
     ·obtain ⟨h6,h7,h8⟩:=jG h iM hlV hv h2
      exact ⟨r.g,i,rfl,h6,h7,h8⟩
     ·rename_i a
      cases hp:Ul st a l i with
      |none=>rw [hp] at hv;cases hv
      |some p=>
       rw [hp] at hv
       simp only [Am,Aa,Ad] at hv
       obtain ⟨_,rfl⟩:=hv
       obtain ⟨h6,h7,h8⟩:=jG h iM hlV hp h2
       exact .inr ⟨_,r.g,i,rfl,rfl,h6,h7,h8⟩
   ·cases he
  have Px: ∀l i c,a= .sub l i c-> ∃r,eF w (Om X π V) r u (.Eu τ) x/\Tt w π st.heap io a u r (.Eu τ) x:=by
   intro l i c ea
   subst ea
   simp only [Ls] at he
   cases hv:Dt st τ (.sub l i c) with
   |none=>rw [hv] at he;cases he
   |some p=>
    obtain ⟨fr,y⟩:=p
    rw [hv] at he
    simp only [Am,Aa,Ad] at he
    obtain ⟨rfl,rfl⟩:=he
    have hlV:l∈V:=hV _ (Ae.2 rfl) rfl
    refine ⟨none,⟨rfl,?_⟩,rfl⟩
    cases τ<;>simp only [Dt] at hv<;>try (cases hv;done)
    rename_i e
    cases hl:st.at l with
    |none=>rw [hl] at hv;cases hv
    |some b=>
     rw [hl] at hv
     unfold St.at at hl
     cases b<;>(try simp only [] at hv)<;>try (cases hv;done)
     rename_i e0 te0 rows out kp
     cases out with
     |some i=>cases hv
     |none=>
      simp only [] at hv
      split at hv
      ·rename_i ZB;subst ZB
       simp only [Aa,Ad] at hv
       obtain ⟨_,rfl⟩:=hv
       exact ⟨[u],tN h hl (FB hu hl) hu (λb hb ⟨r,hr,hf⟩=>hb.not h hlV hr hf) (λb hb=>hb.hZ),rfl⟩
      ·cases hv
  by_cases RU: ∃l i c,a= .sub l i c
  ·obtain ⟨l,i,c,ea⟩:=RU;exact Px l i c ea
  by_cases Age: ∃g Ec,a= .clo g Ec
  ·obtain ⟨g,Ec,ea⟩:=Age;exact As2 g Ec ea
  by_cases Ao1: ∃l i,a= .Hm l i
  ·obtain ⟨l,i,ea⟩:=Ao1;exact hvp l i ea
  by_cases Zr: ∃l off len,a= .own l off len
  ·obtain ⟨l,off,len,ea⟩:=Zr;exact own l off len ea
  have he:(if τ.flat||a.settled then (Dt st τ a).map λp=>(p.2,([]:List (Nat×Loc))) else none)=some (x,tks):=by
   cases a<;>first|exact he|exact absurd ⟨_,_,_,rfl⟩ Zr|exact absurd ⟨_,_,rfl⟩ Age|exact absurd ⟨_,_,rfl⟩ Ao1|exact absurd ⟨_,_,_,rfl⟩ RU
  split at he
  ·rename_i hc
   cases hv:Dt st τ a with
   |none=>rw [hv] at he;cases he
   |some p=>
    obtain ⟨fr,y⟩:=p
    rw [hv] at he
    simp only [Am,Aa,Ad] at he
    obtain ⟨rfl,rfl⟩:=he
    refine ⟨none,⟨rfl,?_⟩,rfl⟩
    have Ip: ∀f,Cs w (Da X.w0.heap.size X.Sc π f) τ u y->Cs w (Om X π V) τ u y:= λf hr=>hr.Ip λk _ hk=>hk.hZ
    cases a with
    |data f Oe z=>
     rw [Ns] at hv
     split at hv
     ·rename_i ht;subst ht
      simp only [Aa,Ad] at hv
      obtain ⟨_,rfl⟩:=hv
      exact Ip f hu
     ·have Tq:τ.Aq=false:=by unfold iq at hv;split at hv<;>first|rfl|cases hv
      exact Ip _ ⟨[u],dh hv hu,by simp [Ci,Tq]⟩
    |Ly=>
     have hu:u= .slice none 0 0:=hu
     subst hu
     cases τ<;>simp only [Dt,Aa,Ad,reduceCtorEq] at hv
     ·obtain ⟨_,rfl⟩:=hv;exact ⟨[_],⟨none,0,0,rfl,rfl,Ao _, .inl rfl⟩,rfl⟩
     ·obtain ⟨_,rfl⟩:=hv;exact ⟨[_], .inl ⟨rfl,0,rfl⟩,rfl⟩
    |Xa=>
     have hu:u= .pointer none:=hu
     subst hu
     cases τ<;>simp only [Dt,Aa,Ad,reduceCtorEq] at hv
     obtain ⟨_,rfl⟩:=hv;exact ⟨[_], .inl ⟨rfl,rfl⟩,rfl⟩
    |_=>cases τ<;>simp [AC.settled,Ty.flat,Dt] at hc hv
  ·cases he
 |row e te=>
  cases a<;>simp only [Ls] at he<;>try (cases he;done)
  ·simp only [Aa,Ad] at he
   obtain ⟨rfl,rfl⟩:=he
   have hu:u= .slice none 0 0:=hu
   exact ⟨none,⟨⟨hu,rfl,rfl⟩,rfl⟩,rfl⟩
  ·rename_i l off len
   split at he
   ·rename_i fr tr e' Rb xs hl
    split at he
    ·rename_i hc
     obtain ⟨rfl,rfl,rfl,rfl⟩:=hc
     simp only [Aa,Ad] at he
     obtain ⟨rfl,rfl⟩:=he
     unfold St.at at hl
     obtain ⟨_,h2⟩:=Ok hu hl
     refine ⟨(π l).map full,⟨Zy h2,?_⟩,rfl,rfl,rfl,fr,tr,hl⟩
     have hb:=(h.heap l).Qi hl
     simp only [Cj,Jw] at hb
     cases hp:π l with
     |none=>rw [hp] at hb;exact hb
     |some q=>
      rw [hp] at hb
      obtain ⟨k1,cur,ti,k2,k3,k4,k5,k6,_⟩:=hb
      refine ⟨⟨k1.1,k1.2.1⟩,cur,ti,k2,k3,k4,k5,λi y hy=>?_⟩
      obtain ⟨es,g1,g2,g3⟩:=k6 i y hy
      exact ⟨es,g1,g2,Cells.Ez (Ao _) (λ_ _ _=>rfl) (λ_ _ hk=>hk.hZ) e' es y g3⟩
    ·cases he
   ·cases he
  ·rename_i l i c
   split at he
   ·rename_i e' tid xs hl
    split at he
    ·rename_i hc
     obtain ⟨rfl,hf,zC,l4⟩:=hc
     cases hx:xs[i]? with
     |none=>rw [hx] at he;cases he
     |some y=>
      rw [hx] at he
      simp only [Am,Aa,Ad] at he
      obtain ⟨rfl,rfl⟩:=he
      unfold St.at at hl
      obtain ⟨r,r1,r2,_,r4⟩:=IZ h hl hx l4 hu
      exact ⟨r,⟨r1,r2 hf _⟩,⟨zC,hf⟩,tid,xs,hl,hx,r4⟩
    ·cases he
   ·cases he
 |Hi e te=>
  cases a<;>simp only [Ls] at he<;>try (cases he;done)
  ·simp only [Aa,Ad] at he
   obtain ⟨rfl,rfl⟩:=he
   have hu:u= .slice none 0 0:=hu
   exact ⟨none,⟨⟨hu,rfl,rfl⟩,rfl⟩,rfl⟩
  ·rename_i l off len
   split at he
   ·rename_i e' Rb xs hl
    split at he
    ·rename_i hc
     obtain ⟨rfl,rfl,rfl,rfl⟩:=hc
     simp only [Aa,Ad] at he
     obtain ⟨rfl,rfl⟩:=he
     unfold St.at at hl
     obtain ⟨_,h2⟩:=c5 hu hl
     refine ⟨(π l).map full,⟨Zy h2,?_⟩,rfl,rfl,rfl,hl⟩
     have hb:=(h.heap l).Qi hl
     simp only [Cj] at hb
     cases hp:π l with
     |none=>rw [hp] at hb;exact hb
     |some q=>rw [hp] at hb;exact hb
    ·cases he
   ·cases he
  ·rename_i l i c
   split at he
   ·rename_i e' tid xs hl
    split at he
    ·rename_i hc
     obtain ⟨rfl,zC,l4⟩:=hc
     cases hx:xs[i]? with
     |none=>rw [hx] at he;cases he
     |some y=>
      rw [hx] at he
      simp only [Am,Aa,Ad] at he
      obtain ⟨rfl,rfl⟩:=he
      unfold St.at at hl
      obtain ⟨r,r1,_,r3,r4⟩:=IZ h hl hx l4 hu
      exact ⟨r,⟨r1,r3 te⟩,zC,tid,xs,hl,hx,r4⟩
    ·cases he
   ·cases he
 |part e te=>
  cases a<;>simp only [Ls] at he<;>try (cases he;done)
  rename_i l off len
  split at he
  ·rename_i fr tr e' Rb xs hl
   split at he
   ·rename_i hc
    obtain ⟨rfl,rfl,hf,zC⟩:=hc
    simp only [Aa,Ad] at he
    obtain ⟨rfl,rfl⟩:=he
    unfold St.at at hl
    obtain ⟨h1,h2⟩:=Ok hu hl
    refine ⟨(π l).map full,⟨⟨Zy h2,h1⟩,hf,?_⟩,hf,rfl,zC,fr,tr,hl⟩
    have hb:=(h.heap l).Qi hl
    simp only [Cj,Jw] at hb
    cases hp:π l with
    |none=>rw [hp] at hb;exact hb
    |some q=>
     rw [hp] at hb
     obtain ⟨k1,cur,ti,k2,k3,k4,k5,k6,_⟩:=hb
     refine ⟨⟨k1.1,k1.2.1⟩,cur,ti,k2,k3,k4,k5,λi y hy=>?_⟩
     obtain ⟨es,g1,g2,g3⟩:=k6 i y hy
     exact ⟨es,g1,g2,Cells.flat e' es y hf g3⟩
   ·cases he
  ·cases he
 |Bm e te kp=>
  cases a<;>simp only [Ls] at he<;>try (cases he;done)
  rename_i l off len
  split at he
  ·rename_i e' Rb rows kp' hl
   split at he
   ·rename_i hc
    obtain ⟨rfl,rfl,rfl,rfl,zC⟩:=hc
    simp only [Aa,Ad] at he
    obtain ⟨rfl,rfl⟩:=he
    unfold St.at at hl
    obtain ⟨h1,h2⟩:=o4 hu hl
    refine ⟨(π l).map full,⟨Zy h2,?_⟩,zC,rfl,rfl,rfl,kp',hl⟩
    have hb:=(h.heap l).Qi hl
    simp only [Cj] at hb
    have hb:=hb.1
    have hg:aA w (Da X.w0.heap.size X.Sc π false) ((π l).map full) e' rows none:=by
     cases hp:π l with
     |none=>rw [hp] at hb;exact hb
     |some q=>rw [hp] at hb;exact hb
    exact hg.Ez (λ_ _ _ _ _=>rfl) λes x hc=>hc.but
   ·cases he
  ·cases he
end
end Go.Proofs.YtfolipnappekaaaGreat
