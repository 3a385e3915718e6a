/-
  Part 15 of the proof that the statement FnSymmetries holds.
-/
import Derived.Test.YtkkdpknjohcekaaCFSymmetries13
namespace Go.Proofs.Ytkkdpknjohcekaa
open Go.RowKit
section
variable {P:Program} {T:Tab} {X:Ctx} {w w':World} {π π':Pi} {H H':List (Nat×OB)}
def full (r:Real):Real:= {r with cl:=r.Cm}
theorem Cp.pL: ∀(τ:Ty) (F:List Nat) (es:List Value) (x:τ.den),τ.flat=true->Cp w F τ es x->F= []
 | .int k,F,es,x,_,h=>h.1
 | .bool,F,es,x,_,h=>h.1
 | .str,F,es,x,_,h=>h.1
 | .unit,F,es,x,_,h=>h.1
 | .pair a r,F,es,x,hf,h=>by
  simp only [Ty.flat,Ag] at hf
  simp only [Cp] at h
  obtain ⟨c1,c2,F1,F2,_,rfl,h1,h2⟩:=h
  rw [Cp.pL a F1 c1 x.1 hf.1 h1,Cp.pL r F2 c2 x.2 hf.2 h2]
  rfl
 | .slice _,_,_,_,hf,_=>by simp [Ty.flat] at hf
 | .oslice _,_,_,_,hf,_=>by simp [Ty.flat] at hf
 | .ptr _,_,_,_,hf,_=>by simp [Ty.flat] at hf
 | .optr _,_,_,_,hf,_=>by simp [Ty.flat] at hf
 | .smap _,_,_,_,hf,_=>by simp [Ty.flat] at hf
 | .clo _ _,_,_,_,hf,_=>by simp [Ty.flat] at hf
theorem kT {S P:Nat->Prop} {g o:Nat} {cur:Array Value} {e:Ty} {xs:List e.den} (hf:e.flat=true)
  (h: ∀(i:Nat) (x:e.den),xs[i]?=some x-> ∃es:List Value,es.length=e.size/\(∀j u,es[j]?=some u->cur[(o+i)*e.size+j]?=some u)/\Cells w S e es x):Wd w P g o cur e xs:=by
 refine ⟨List.replicate xs.length [],by simp,by simp,by simp,λi x F hx hF=>?_⟩
 obtain ⟨es,e1,e2,e3⟩:=h i x hx
 have:F= []:=Ew (Bz hF)
 subst this
 exact ⟨es,e1,e2,Wo e es x hf e3⟩
theorem Rw.FB {D:Nat->Prop} {r:Option Real} {e:Ty} {ys:List e.den} {u:Value} (h:Rw w D r e ys) (hf:e.flat=true) (hv:Hf r e.size 0 ys.length u):
  ∃F,Cp w F (.slice e) [u] ys/\F.Nodup/\ ∀b∈F,∃r',r=some r'/\r'.Cm b:=by
 cases r with
 |none=>
  obtain ⟨rfl,_,_⟩:=hv
  have h:ys= []:=h
  subst h
  exact ⟨[],⟨none,0,0,rfl,rfl,Ar _, .inl ⟨rfl,rfl,rfl,rfl⟩⟩,Mr,λb hb=>by cases hb⟩
 |some r=>
  obtain ⟨h1,cur,ti,h2,h3,h4,h5,h6⟩:=h
  obtain ⟨F,f1,f2,f3⟩:=im (P:=r.Cm) h2 h3 h4 (by omega) hv (kT hf h6) h1.1
  exact ⟨F,by simpa using f1,f2,λb hb=>⟨r,rfl,f3 b hb⟩⟩
theorem Nj.FB {r:Option Real} {e:Ty} {te:TypeId} {ys:List e.den} {u:Value} (h:Nj w r e te ys) (hv:Hf r e.size 0 ys.length u):
  ∃F,Cp w F (.slice e) [u] ys/\F.Nodup/\ ∀b∈F,∃r',r=some r'/\r'.Cm b:=by
 cases r with
 |none=>
  obtain ⟨rfl,_,_⟩:=hv
  have h:ys= []:=h
  subst h
  exact ⟨[],⟨none,0,0,rfl,rfl,Ar _, .inl ⟨rfl,rfl,rfl,rfl⟩⟩,Mr,λb hb=>by cases hb⟩
 |some r=>
  obtain ⟨h1,cur,ti,h2,h3,h4,h5,h6⟩:=h
  obtain ⟨F,f1,f2,f3⟩:=im (P:=r.Cm) h2 h3 h4 (by omega) hv h6 h1
  exact ⟨F,by simpa using f1,f2,λb hb=>⟨r,rfl,f3 b hb⟩⟩
theorem Cp.row {F:List Nat} {e:Ty} {u:Value} {xs:List e.den} (h:Cp w F (.slice e) [u] xs) (hn:F.Nodup):
  ∃r:Option Real,Hf r e.size 0 xs.length u/\(e.flat=true-> ∀D,Rw w D r e xs)/\(∀te,Nj w r e te xs)/\(∀r',r=some r'-> ∀b,r'.Cm b↔b∈F)/\(r=none->F= []):=by
 simp only [Cp] at h
 obtain ⟨a,len,cap,e0,e1,e2,h⟩:=h
 simp only [Gd,eY] at e0
 subst e0
 rcases h with ⟨rfl,rfl,rfl,rfl⟩|⟨ad,g,o,Fs,rfl,ha,⟨cur,ti,o',s1,s2,s3,s4⟩,rfl,hl,Kp⟩
 ·exact ⟨none,⟨by rw [e1];rfl,rfl,rfl⟩,λ_ _=>rfl,λ_=>rfl,(λr' h=>by cases h),λ_=>rfl⟩
 ·subst s2
  have iR: ∀(i:Nat) (x:e.den) (Fi:List Nat),xs[i]?=some x->Fs[i]?=some Fi-> ∃es:List Value,es.length=e.size/\(∀j u,es[j]?=some u->cur[(o'+i)*e.size+j]?=some u)/\Cp w Fi e es x:=by
   intro i x Fi hx hF
   obtain ⟨es,k1,k2,k3⟩:=Kp i x Fi hx hF
   refine ⟨es,k1,λj v hv=>?_,k3⟩
   have:=k2 j v hv
   rw [cellOf s1] at this
   rw [Cw];exact this
  refine ⟨some ⟨g,o',cap,(· ∈g::List.flatten Fs),(· ∈g::List.flatten Fs)⟩,⟨ad,by rw [e1];rfl,by dsimp only;omega,λh0=>by rw [ha h0];rfl⟩,λhf D=>⟨⟨by simp,λb hb=>?_⟩,cur,ti,s1,s3,s4,by rw [<-e1];exact e2,λi x hx=>?_⟩,
   fun te=>⟨by simp,cur,ti,s1,s3,s4,by rw [<-e1];exact e2,Fs,hl,hn,λb hb=>by simp [hb],iR⟩,λr' hr b=>by cases hr;exact Iff.rfl,λh=>by cases h⟩
  ·rcases Ba.1 hb with hb|hb
   ·exact hb
   ·obtain ⟨Fi,h1,h2⟩:=Gx.1 hb
    obtain ⟨i,hi,rfl⟩:=Mw h1
    obtain ⟨es,_,_,k3⟩:=iR i (xs[i]'(by omega)) _ (Ac _) (Ac hi)
    rw [Cp.pL e _ _ _ hf k3] at h2
    cases h2
  ·have hi:i<Fs.length:=by have:=(Aj.1 hx).1;omega
   obtain ⟨es,k1,k2,k3⟩:=iR i x _ hx (Ac hi)
   exact ⟨es,k1,k2,Cells.flat e es x hf (Cp.cells (S:= λ_=>False) _ e es x k3 λb hb=> λh=>h)⟩
theorem bp: ∀(Fs:List (List Nat)) (i:Nat) (Fi F':List Nat),(List.flatten Fs).Nodup->Fs[i]?=some Fi->F'.Nodup->(∀b∈F',b∈Fi)->(List.flatten (Fs.set i F')).Nodup/\ ∀b∈List.flatten (Fs.set i F'),b∈List.flatten Fs
 | [],i,Fi,F',_,h,_,_=>by simp at h
 |G::Fs,0,Fi,F',hn,h,oU,hs=>by
  simp only [Bl,Aa] at h;subst h
  simp only [List.set_cons_zero,Kv] at hn⊢
  obtain ⟨n1,n2,n3⟩:=Dp.1 hn
  refine ⟨Dp.2 ⟨oU,n2,λa ha b hb=>n3 a (hs a ha) b hb⟩,λb hb=>?_⟩
  rcases Az.1 hb with hb|hb
  ·exact Bn _ (hs b hb)
  ·exact Bx _ hb
 |G::Fs,i+1,Fi,F',hn,h,oU,hs=>by
  simp only [Lz] at h
  simp only [List.set_cons_succ,Kv] at hn⊢
  obtain ⟨n1,n2,n3⟩:=Dp.1 hn
  obtain ⟨m1,m2⟩:=bp Fs i Fi F' n2 h oU hs
  refine ⟨Dp.2 ⟨n1,m1,λa ha b hb=>n3 a ha b (m2 b hb)⟩,λb hb=>?_⟩
  rcases Az.1 hb with hb|hb
  ·exact Bn _ hb
  ·exact Bx _ (m2 b hb)
theorem iN: ∀(Fs:List (List Nat)) (i j:Nat) (Fi Fj:List Nat) (b:Nat),(List.flatten Fs).Nodup->Fs[i]?=some Fi->Fs[j]?=some Fj->b∈Fi->b∈Fj->i=j
 | [],i,j,Fi,Fj,b,_,h,_,_,_=>by simp at h
 |G::Fs,0,0,_,_,_,_,_,_,_,_=>rfl
 |G::Fs,0,j+1,Fi,Fj,b,hn,h1,h2,h3,h4=>by
  simp only [Bl,Aa,Lz] at h1 h2
  subst h1
  simp only [Kv] at hn
  exact absurd rfl ((Dp.1 hn).2.2 b h3 b (Gx.2 ⟨Fj,Bz h2,h4⟩))
 |G::Fs,i+1,0,Fi,Fj,b,hn,h1,h2,h3,h4=>by
  simp only [Bl,Aa,Lz] at h1 h2
  subst h2
  simp only [Kv] at hn
  exact absurd rfl ((Dp.1 hn).2.2 b h4 b (Gx.2 ⟨Fi,Bz h1,h3⟩))
 |G::Fs,i+1,j+1,Fi,Fj,b,hn,h1,h2,h3,h4=>by
  simp only [Lz] at h1 h2
  simp only [Kv] at hn
  rw [iN Fs i j Fi Fj b (Dp.1 hn).2.1 h1 h2 h3 h4]
def uR (w:World) (π:Pi) (l i:Nat) (e:Ty) (tid:TypeId) (xs:List (List e.den)) (u:Value) (r:Option Real):Prop:=
 ∃q,π l=some q/\(∀r',r=some r'-> ∀b,r'.Cm b->q.Cm b/\b≠q.g)/\
  ∀(w':World) (ys:List e.den),w.heap.size<=w'.heap.size->(∀b,b<w.heap.size->q.Cm b->(∀r',r=some r'-> ¬r'.Cm b)->w'.heap[b]?=w.heap[b]?)->
   (∃F',Cp w' F' (.slice e) [u] ys/\F'.Nodup/\ ∀b∈F',∃r',r=some r'/\r'.Cm b)->Nj w' (some q) (.slice e) tid (xs.set i ys)
theorem zR (h:Mm X w π H) {l i c:Nat} {e:Ty} {tid:TypeId} {xs:List (List e.den)} {x:List e.den} {u:Value} (hl:As H l=some (.Gg (.slice e) tid xs)) (hx:xs[i]?=some x) (hc:c=0)
  (hu:Gy X w π H (.sub l i c) u): ∃r,Hf r e.size 0 x.length u/\(e.flat=true-> ∀D,Rw w D r e x)/\(∀te,Nj w r e te x)/\uR w π l i e tid xs u r:=by
 subst hc
 obtain ⟨q,b0,sz0,n0,h1,oQ,h2,h3,⟨h4,a,n,m,rfl⟩,h5⟩:=hu
 rw [hl] at h1;cases h1
 simp only [OB.ez,Aa,Ad] at oQ
 obtain ⟨rfl,rfl⟩:=oQ
 have hb:=(h.heap l).Qq hl
 simp only [By,Nj,h2] at hb
 obtain ⟨k1,cur,ti,k2,k3,k4,k5,Fs,t1,t2,t3,t4⟩:=hb
 have hi:i<Fs.length:=by have:=(Aj.1 hx).1;omega
 have hFi:Fs[i]?=some Fs[i]:=Ac hi
 obtain ⟨es,e1,e2,e3⟩:=t4 i x _ hx hFi
 have e1':es.length=1:=e1
 obtain ⟨v,rfl⟩:=Dy.1 e1'
 have hv:v= .slice a n m:=by
  have:=e2 0 v rfl
  rw [cellOf k2] at h5
  rw [this] at h5;exact Aw h5
 subst hv
 have hn2:=(Cf.1 t2).2
 have pY: ∀b∈Fs[i],b∈List.flatten Fs:= λb hb=>Gx.2 ⟨_,Ak hi,hb⟩
 have hnF:(Fs[i]).Nodup:=hn2.sublist (by
  have:=eL (List.singleton_sublist.2 (Ak hi))
  simpa using this)
 obtain ⟨r,r1,r2,r3,r4,r5⟩:=Cp.row e3 hnF
 refine ⟨r,r1,r2,r3,q,h2,λr' hr b hb=>?_,λw' ys hs hk ⟨F',f1,f2,f3⟩=>?_⟩
 ·have hb:=(r4 r' hr b).1 hb
  exact ⟨t3 b (pY b hb),λe=>(Cf.1 t2).1 (e▸pY b hb)⟩
 ·have hF': ∀b∈F',b∈Fs[i]:= λb hb=>by
   obtain ⟨r',g1,g2⟩:=f3 b hb
   exact (r4 r' g1 b).1 g2
  have hgs:=bp Fs i _ F' hn2 hFi f2 hF'
  have hkg:w'.heap[q.g]?=w.heap[q.g]?:=hk q.g (Fm k2) k1 λr' hr hb=>(Cf.1 t2).1 (pY _ ((r4 r' hr _).1 hb))
  refine ⟨k1,cur,ti,hkg.trans k2,k3,k4,by simpa using k5,Fs.set i F',by simp [t1],Cf.2 ⟨λhm=>(Cf.1 t2).1 (hgs.2 _ hm),hgs.1⟩,λb hb=>t3 b (hgs.2 b hb),λj y F hy hF=>?_⟩
  rw [Eh] at hy hF
  split at hy
  ·rename_i dm;subst dm
   rw [Ab rfl] at hF
   rw [Ab hi] at hF
   simp only [Aa] at hF
   have hy:ys=y:=by simpa [h3] using hy
   subst hy;subst hF
   exact ⟨[.slice a n m],rfl,e2,f1⟩
  ·rename_i dm
   rw [Ai dm] at hF
   obtain ⟨kJ,g1,g2,g3⟩:=t4 j y F hy hF
   refine ⟨kJ,g1,g2,g3.Fw _ _ _ _ hs λb hb=>?_⟩
   have hbf:b∈List.flatten Fs:=Gx.2 ⟨F,Bz hF,hb⟩
   exact hk b (g3.lt _ _ _ _ b hb) (t3 b hbf) λr' hr rH=>dm (iN Fs i j _ F b hn2 hFi hF ((r4 r' hr b).1 rH) hb)
def Sm (w:World) (π:Pi) (H:List (Nat×OB)) (io:Bool) (a:AC) (u:Value) (r:Option Real):(c:CK)->c.den->Prop
 | .Gb _,_=>r=none
 | .row e te,x=>match a with
  | .Lo=>r=none
  | .own l off len=>r=(π l).map full/\off=0/\len=List.length x/\ ∃fr tr,As H l=some (.arr fr tr e te x)
  | .sub l i _=>(io=true/\e.flat=true)/\ ∃tid xs,As H l=some (.Gg (.slice e) tid xs)/\xs[i]?=some x/\uR w π l i e tid xs u r
  |_=>False
 | .Ha e te,x=>match a with
  | .Lo=>r=none
  | .own l off len=>r=(π l).map full/\off=0/\len=List.length x/\As H l=some (.Gg e te x)
  | .sub l i _=>io=true/\ ∃tid xs,As H l=some (.Gg (.slice e) tid xs)/\xs[i]?=some x/\uR w π l i e tid xs u r
  |_=>False
 | .part e te,x=>e.flat=true/\match a with
  | .own l _ _=>r=(π l).map full/\io=true/\ ∃fr tr,As H l=some (.arr fr tr e te x.1)
  |_=>False
 | .Bj e te _,x=>io=false/\match a with
  | .own l off len=>r=(π l).map full/\off=0/\len=List.length x/\ ∃kp,As H l=some (.Bj e te x none kp)
  |_=>False
theorem Yf {r:Option Real} {s off len:Nat} {v:Value} (h:Hf r s off len v):Hf (r.map full) s off len v:=by
 cases r<;>exact h
def Nz (X:Ctx) (π:Pi) (V:List Nat) (b:Nat):Prop:=(Un π b/\ ∀l∈V,∀r,π l=some r-> ¬r.Cm b)\/X.Sc b
theorem Nz.not {V:List Nat} {b l:Nat} (hb:Nz X π V b) (h:Mm X w π H) (hl:l∈V) {r:Real} (hr:π l=some r) (hf:r.Cm b):False:=by
 rcases hb with hb|hb
 ·exact hb.2 l hl r hr hf
 ·have h1:=h.sc b hb
  rcases (h.own ⟨l,r,hr,hf⟩).2 with h2|h2
  ·omega
  ·exact h1.2 h2
theorem Nz.fk {V:List Nat} {b:Nat} {B:Nat} {fr:Bool} (hb:Nz X π V b):Cr B X.Sc π fr b:=hb.elim (λh=> .inl h.1) λh=> .inr (.inl h)
theorem FE {st:St} {ls:List Nat} (h:aT st ls=true) {l:Nat} (hl:l∈ls) {tid:TypeId} {vs:List AC} (hv:As st.heap l=some (.var tid vs)):vs.all (·.settled)=true:=by
 have:=Ax.1 h l hl
 unfold St.at at this
 rw [hv] at this
 exact this
theorem Cells.but {V:List Nat} {f:Bool} {τ:Ty} {cs:List Value} {x:τ.den} (h:Cells w (Cr X.w0.heap.size X.Sc π f) τ cs x):Cells w (Nz X π V) τ cs x:=
 Cells.Fw (Ar _) (λ_ _ _=>rfl) (λ_ _ hk=>hk.fk) τ cs x h
theorem gN {st:St} (h:Mm X w π st.heap) {V:List Nat} {a:Ty} {l i:Nat} {fr:Bool} {x:a.den} (fT:aT st [l]=true) (TC:l∈V) (hv:Tl st a l i=some (fr,x)) {r:Real} (hr:π l=some r):
  r.g<w.heap.size/\ ¬Nz X π V r.g/\ ∃es:List Value,es.length=a.size/\(∀j u,es[j]?=some u->w.cell? ⟨r.g,i+j,none⟩=some u)/\Cells w (Nz X π V) a es x:=by
 unfold Tl at hv
 split at hv
 ·rename_i tid vs hl
  unfold St.at at hl
  obtain ⟨r',h3,h4,cur,h5,h6⟩:=(h.heap l).Qq hl
  rw [hr] at h3;cases h3
  have hs:=FE fT (Ae.2 rfl) hl
  have OW:((vs.drop i).take a.size).all (·.settled)=true:=Ax.2 λc hc=>Ax.1 hs c (bZ (Ma hc))
  have hc:=Vs a _ _ fr x OW (Yg h6 i a.size) hv
  refine ⟨Fm h5,λhb=>hb.not h TC hr h4,_,Cells.len a _ x hc,λj u hu=>?_,hc.but⟩
  rw [cellOf h5]
  rw [Cn] at hu
  split at hu
  ·rw [Ci] at hu;simpa using hu
  ·cases hu
 ·cases hv
theorem AG {st:St} {l:Nat} {ls:List Nat} (h:aT st (l::ls)=true):aT st [l]=true/\aT st ls=true:=by
 simp only [aT,Iv,List.all_nil,Bool.and_true,Ag] at h⊢
 exact h
theorem xk {st:St} (h:Mm X w π st.heap) {V:List Nat} : ∀(τ:Ty) (Eb:List (Nat×Nat)) (us:List Value) (fr:Bool) (x:τ.den),us.length=Eb.length->
  (∀(j:Nat) p,Eb[j]?=some p-> ∃r tid vs,As st.heap p.1=some (.var tid vs)/\π p.1=some r/\us[j]?=some (.pointer (some ⟨r.g,p.2,none⟩)))->
  aT st (Eb.map (·.1))=true->(∀p∈Eb,p.1∈V)->Kt st τ Eb=some (fr,x)->Cells w (Nz X π V) τ us x:=by
 intro τ
 induction τ with
 |unit=>
  intro Eb us fr x hl hr _ _ hv
  cases Eb with
  |nil=>exact Dd hl
  |cons c cs=>simp [Kt] at hv
 |pair a r _ eV=>
  intro Eb us fr x hl hr fT hV hv
  cases a with
  |ptr a=>
   cases Eb with
   |nil=>simp [Kt] at hv
   |cons c cs=>
    obtain ⟨l,i⟩:=c
    simp only [Kt] at hv
    split at hv
    ·rename_i f1 y f2 z h1 h2
     simp only [Aa,Ad] at hv
     obtain ⟨rfl,rfl⟩:=hv
     cases us with
     |nil=>simp at hl
     |cons u us=>
      obtain ⟨r0,tid,vs,h3,h4,h5⟩:=hr 0 (l,i) rfl
      simp only [Bl,Aa] at h5
      subst h5
      obtain ⟨ok1,ok2⟩:=AG fT
      obtain ⟨h6,h7,es,h8,h9,oQ⟩:=gN h ok1 (hV _ (Jr ..)) h1 h4
      exact ⟨[_],us,rfl,⟨r0.g,i,rfl,h6,h7,es,h8,h9,oQ⟩,eV cs us f2 z (by simpa using hl) (λj p hp=>hr (j+1) p hp) ok2 (λp hp=>hV p (Am _ hp)) h2⟩
    ·cases hv
  |_=>cases Eb<;>simp [Kt] at hv
 |_=>intro Eb us fr x hl hr _ _ hv;cases Eb<;>simp [Kt] at hv
theorem LJ {st:St} (h:Mm X w π st.heap) {V:List Nat} {io:Bool} {k:Nat} {c:CK} {a:AC} {u:Value} (hu:Gy X w π st.heap a u) {x:c.den} {tks:List (Nat×Loc)} (he:Lu st io k c a=some (x,tks))
  (hV: ∀t∈tks,t.2.reads=true->t.2.Vx∈V): ∃r,cU w (Nz X π V) r u c x/\Sm w π st.heap io a u r c x:=by
 cases c with
 |Gb τ=>
  have own: ∀l off len,a= .own l off len-> ∃r,cU w (Nz X π V) r u (.Gb τ) x/\Sm w π st.heap io a u r (.Gb τ) x:=by
   intro l off len ea
   subst ea
   simp only [Lu] at he
   cases hv:Dm st τ (.own l off len) with
   |none=>rw [hv] at he;cases he
   |some p=>
    obtain ⟨fr,y⟩:=p
    rw [hv] at he
    simp only [Ah,Aa,Ad] at he
    obtain ⟨rfl,rfl⟩:=he
    have TC:l∈V:=hV _ (Ae.2 rfl) rfl
    refine ⟨none,⟨rfl,?_⟩,rfl⟩
    cases τ<;>simp only [Dm] at hv<;>try (cases hv;done)
    rename_i e
    cases hl:st.at l with
    |none=>rw [hl] at hv;cases hv
    |some b=>
     rw [hl] at hv
     unfold St.at at hl
     cases b<;>(try simp only [] at hv)<;>try (cases hv;done)
     ·rename_i rU AA e0 tid xs
      split at hv
      ·rename_i OE;subst OE
       simp only [Aa,Ad] at hv
       obtain ⟨_,rfl⟩:=hv
       obtain ⟨h1,h2⟩:=Nx hu hl
       exact ⟨[u],mN h hl h1 h2 (λb hb ⟨r,hr,hf⟩=>hb.not h TC hr hf) (λb _ hb=>hb.fk),rfl⟩
      ·cases hv
     ·rename_i e0 tid xs
      split at hv
      ·rename_i OE;subst OE
       simp only [Aa,Ad] at hv
       obtain ⟨_,rfl⟩:=hv
       obtain ⟨h1,h2⟩:=aM hu hl
       exact ⟨[u],kl h hl h1 h2 (λb hb ⟨r,hr,hf⟩=>hb.not h TC hr hf),rfl⟩
      ·cases hv
     ·rename_i e0 te0 rows out kp
      cases out with
      |some i=>cases hv
      |none=>
       simp only [] at hv
       split at hv
       ·rename_i OE;subst OE
        simp only [Aa,Ad] at hv
        obtain ⟨_,rfl⟩:=hv
        obtain ⟨h1,h2⟩:=lH hu hl
        exact ⟨[u],pO h hl h1 h2 (λb hb ⟨r,hr,hf⟩=>hb.not h TC hr hf) (λb hb=>hb.fk),rfl⟩
       ·cases hv
  have Ai2: ∀g Eb,a= .clo g Eb-> ∃r,cU w (Nz X π V) r u (.Gb τ) x/\Sm w π st.heap io a u r (.Gb τ) x:=by
   intro g Eb ea
   subst ea
   simp only [Lu] at he
   split at he
   ·rename_i hc
    simp only [Ag,Eg] at hc
    obtain ⟨fT,Sq⟩:=hc
    cases hv:Jk st τ (.clo g Eb) with
    |none=>rw [hv] at he;cases he
    |some p=>
     obtain ⟨fr,y⟩:=p
     rw [hv] at he
     simp only [Ah,Aa,Ad] at he
     obtain ⟨rfl,rfl⟩:=he
     have hcV: ∀p∈Eb,p.1∈V:= λp hp=>hV (Dt false k, .view p.1) (Bo.2 ⟨p.1,Bo.2 ⟨p,hp,rfl⟩,rfl⟩) rfl
     obtain ⟨us,rfl,h2,h3⟩:=hu
     refine ⟨none,⟨rfl,Cz.ly Sq ?_⟩,rfl⟩
     cases τ<;>simp only [Jk] at hv<;>try (simp only [Dm,reduceCtorEq] at hv;done)
     rename_i f0 c0
     split at hv
     ·rename_i hg
      obtain ⟨rfl,Jx⟩:=hg
      exact ⟨us,by rw [fw Jx],xk h c0 Eb us fr y h2 h3 fT hcV hv⟩
     ·cases hv
   ·cases he
  have hvp: ∀l i,a= .Gr l i-> ∃r,cU w (Nz X π V) r u (.Gb τ) x/\Sm w π st.heap io a u r (.Gb τ) x:=by
   intro l i ea
   subst ea
   simp only [Lu] at he
   split at he
   ·rename_i hc
    simp only [Ag,Eg] at hc
    obtain ⟨fT,Sq⟩:=hc
    cases hv:Jk st τ (.Gr l i) with
    |none=>rw [hv] at he;cases he
    |some p=>
     obtain ⟨fr,y⟩:=p
     rw [hv] at he
     simp only [Ah,Aa,Ad] at he
     obtain ⟨rfl,rfl⟩:=he
     have TC:l∈V:=hV (Dt false k, .view l) (Bo.2 ⟨l,Ae.2 rfl,rfl⟩) rfl
     obtain ⟨r,tid,vs,h1,h2,rfl⟩:=hu
     refine ⟨none,⟨rfl,Cz.ly Sq ?_⟩,rfl⟩
     cases τ<;>simp only [Jk] at hv<;>try (simp only [Dm,reduceCtorEq] at hv;done)
     ·obtain ⟨h6,h7,h8⟩:=gN h fT TC hv h2
      exact ⟨r.g,i,rfl,h6,h7,h8⟩
     ·rename_i a
      cases hp:Tl st a l i with
      |none=>rw [hp] at hv;cases hv
      |some p=>
       rw [hp] at hv
       simp only [Ah,Aa,Ad] at hv
       obtain ⟨_,rfl⟩:=hv
       obtain ⟨h6,h7,h8⟩:=gN h fT TC hp h2
       exact .inr ⟨_,r.g,i,rfl,rfl,h6,h7,h8⟩
   ·cases he
  have fV: ∀l i c,a= .sub l i c-> ∃r,cU w (Nz X π V) r u (.Gb τ) x/\Sm w π st.heap io a u r (.Gb τ) x:=by
   intro l i c ea
   subst ea
   simp only [Lu] at he
   cases hv:Dm st τ (.sub l i c) with
   |none=>rw [hv] at he;cases he
   |some p=>
    obtain ⟨fr,y⟩:=p
    rw [hv] at he
    simp only [Ah,Aa,Ad] at he
    obtain ⟨rfl,rfl⟩:=he
    have TC:l∈V:=hV _ (Ae.2 rfl) rfl
    refine ⟨none,⟨rfl,?_⟩,rfl⟩
    cases τ<;>simp only [Dm] at hv<;>try (cases hv;done)
    rename_i e
    cases hl:st.at l with
    |none=>rw [hl] at hv;cases hv
    |some b=>
     rw [hl] at hv
     unfold St.at at hl
     cases b<;>(try simp only [] at hv)<;>try (cases hv;done)
     rename_i e0 te0 rows out kp
     cases out with
     |some i=>cases hv
     |none=>
      simp only [] at hv
      split at hv
      ·rename_i OE;subst OE
       simp only [Aa,Ad] at hv
       obtain ⟨_,rfl⟩:=hv
       exact ⟨[u],pP h hl (yz hu hl) hu (λb hb ⟨r,hr,hf⟩=>hb.not h TC hr hf) (λb hb=>hb.fk),rfl⟩
      ·cases hv
  by_cases XL: ∃l i c,a= .sub l i c
  ·obtain ⟨l,i,c,ea⟩:=XL;exact fV l i c ea
  by_cases WU: ∃g Eb,a= .clo g Eb
  ·obtain ⟨g,Eb,ea⟩:=WU;exact Ai2 g Eb ea
  by_cases Ae6: ∃l i,a= .Gr l i
  ·obtain ⟨l,i,ea⟩:=Ae6;exact hvp l i ea
  by_cases cw: ∃l off len,a= .own l off len
  ·obtain ⟨l,off,len,ea⟩:=cw;exact own l off len ea
  have he:(if τ.flat||a.settled then (Dm st τ a).map λp=>(p.2,([]:List (Nat×Loc))) else none)=some (x,tks):=by
   cases a<;>first|exact he|exact absurd ⟨_,_,_,rfl⟩ cw|exact absurd ⟨_,_,rfl⟩ WU|exact absurd ⟨_,_,rfl⟩ Ae6|exact absurd ⟨_,_,_,rfl⟩ XL
  split at he
  ·rename_i hc
   cases hv:Dm st τ a with
   |none=>rw [hv] at he;cases he
   |some p=>
    obtain ⟨fr,y⟩:=p
    rw [hv] at he
    simp only [Ah,Aa,Ad] at he
    obtain ⟨rfl,rfl⟩:=he
    refine ⟨none,⟨rfl,?_⟩,rfl⟩
    have Ig: ∀f,Cz w (Cr X.w0.heap.size X.Sc π f) τ u y->Cz w (Nz X π V) τ u y:= λf hr=>hr.Ig λk _ hk=>hk.fk
    cases a with
    |data f Nr z=>
     rw [Ng] at hv
     split at hv
     ·rename_i ht;subst ht
      simp only [Aa,Ad] at hv
      obtain ⟨_,rfl⟩:=hv
      exact Ig f hu
     ·have Up:τ.Ap=false:=by unfold fC at hv;split at hv<;>first|rfl|cases hv
      exact Ig _ ⟨[u],bK hv hu,by simp [Bs,Up]⟩
    |Lo=>
     have hu:u= .slice none 0 0:=hu
     subst hu
     cases τ<;>simp only [Dm,Aa,Ad,reduceCtorEq] at hv
     ·obtain ⟨_,rfl⟩:=hv;exact ⟨[_],⟨none,0,0,rfl,rfl,Ar _, .inl rfl⟩,rfl⟩
     ·obtain ⟨_,rfl⟩:=hv;exact ⟨[_], .inl ⟨rfl,0,rfl⟩,rfl⟩
    |Uk=>
     have hu:u= .pointer none:=hu
     subst hu
     cases τ<;>simp only [Dm,Aa,Ad,reduceCtorEq] at hv
     obtain ⟨_,rfl⟩:=hv;exact ⟨[_], .inl ⟨rfl,rfl⟩,rfl⟩
    |_=>cases τ<;>simp [AC.settled,Ty.flat,Dm] at hc hv
  ·cases he
 |row e te=>
  cases a<;>simp only [Lu] at he<;>try (cases he;done)
  ·simp only [Aa,Ad] at he
   obtain ⟨rfl,rfl⟩:=he
   have hu:u= .slice none 0 0:=hu
   exact ⟨none,⟨⟨hu,rfl,rfl⟩,rfl⟩,rfl⟩
  ·rename_i l off len
   split at he
   ·rename_i fr tr e' Qo xs hl
    split at he
    ·rename_i hc
     obtain ⟨rfl,rfl,rfl,rfl⟩:=hc
     simp only [Aa,Ad] at he
     obtain ⟨rfl,rfl⟩:=he
     unfold St.at at hl
     obtain ⟨_,h2⟩:=Nx hu hl
     refine ⟨(π l).map full,⟨Yf h2,?_⟩,rfl,rfl,rfl,fr,tr,hl⟩
     have hb:=(h.heap l).Qq hl
     simp only [By,Jo] at hb
     cases hp:π l with
     |none=>rw [hp] at hb;exact hb
     |some q=>
      rw [hp] at hb
      obtain ⟨k1,cur,ti,k2,k3,k4,k5,k6,_⟩:=hb
      refine ⟨⟨k1.1,k1.2.1⟩,cur,ti,k2,k3,k4,k5,λi y hy=>?_⟩
      obtain ⟨es,g1,g2,g3⟩:=k6 i y hy
      exact ⟨es,g1,g2,Cells.Fw (Ar _) (λ_ _ _=>rfl) (λ_ _ hk=>hk.fk) e' es y g3⟩
    ·cases he
   ·cases he
  ·rename_i l i c
   split at he
   ·rename_i e' tid xs hl
    split at he
    ·rename_i hc
     obtain ⟨rfl,hf,vE,ko⟩:=hc
     cases hx:xs[i]? with
     |none=>rw [hx] at he;cases he
     |some y=>
      rw [hx] at he
      simp only [Ah,Aa,Ad] at he
      obtain ⟨rfl,rfl⟩:=he
      unfold St.at at hl
      obtain ⟨r,r1,r2,_,r4⟩:=zR h hl hx ko hu
      exact ⟨r,⟨r1,r2 hf _⟩,⟨vE,hf⟩,tid,xs,hl,hx,r4⟩
    ·cases he
   ·cases he
 |Ha e te=>
  cases a<;>simp only [Lu] at he<;>try (cases he;done)
  ·simp only [Aa,Ad] at he
   obtain ⟨rfl,rfl⟩:=he
   have hu:u= .slice none 0 0:=hu
   exact ⟨none,⟨⟨hu,rfl,rfl⟩,rfl⟩,rfl⟩
  ·rename_i l off len
   split at he
   ·rename_i e' Qo xs hl
    split at he
    ·rename_i hc
     obtain ⟨rfl,rfl,rfl,rfl⟩:=hc
     simp only [Aa,Ad] at he
     obtain ⟨rfl,rfl⟩:=he
     unfold St.at at hl
     obtain ⟨_,h2⟩:=aM hu hl
     refine ⟨(π l).map full,⟨Yf h2,?_⟩,rfl,rfl,rfl,hl⟩
     have hb:=(h.heap l).Qq hl
     simp only [By] at hb
     cases hp:π l with
     |none=>rw [hp] at hb;exact hb
     |some q=>rw [hp] at hb;exact hb
    ·cases he
   ·cases he
  ·rename_i l i c
   split at he
   ·rename_i e' tid xs hl
    split at he
    ·rename_i hc
     obtain ⟨rfl,vE,ko⟩:=hc
     cases hx:xs[i]? with
     |none=>rw [hx] at he;cases he
     |some y=>
      rw [hx] at he
      simp only [Ah,Aa,Ad] at he
      obtain ⟨rfl,rfl⟩:=he
      unfold St.at at hl
      obtain ⟨r,r1,_,r3,r4⟩:=zR h hl hx ko hu
      exact ⟨r,⟨r1,r3 te⟩,vE,tid,xs,hl,hx,r4⟩
    ·cases he
   ·cases he
 |part e te=>
  cases a<;>simp only [Lu] at he<;>try (cases he;done)
  rename_i l off len
  split at he
  ·rename_i fr tr e' Qo xs hl
   split at he
   ·rename_i hc
    obtain ⟨rfl,rfl,hf,vE⟩:=hc
    simp only [Aa,Ad] at he
    obtain ⟨rfl,rfl⟩:=he
    unfold St.at at hl
    obtain ⟨h1,h2⟩:=Nx hu hl
    refine ⟨(π l).map full,⟨⟨Yf h2,h1⟩,hf,?_⟩,hf,rfl,vE,fr,tr,hl⟩
    have hb:=(h.heap l).Qq hl
    simp only [By,Jo] at hb
    cases hp:π l with
    |none=>rw [hp] at hb;exact hb
    |some q=>
     rw [hp] at hb
     obtain ⟨k1,cur,ti,k2,k3,k4,k5,k6,_⟩:=hb
     refine ⟨⟨k1.1,k1.2.1⟩,cur,ti,k2,k3,k4,k5,λi y hy=>?_⟩
     obtain ⟨es,g1,g2,g3⟩:=k6 i y hy
     exact ⟨es,g1,g2,Cells.flat e' es y hf g3⟩
   ·cases he
  ·cases he
 |Bj e te kp=>
  cases a<;>simp only [Lu] at he<;>try (cases he;done)
  rename_i l off len
  split at he
  ·rename_i e' Qo rows kp' hl
   split at he
   ·rename_i hc
    obtain ⟨rfl,rfl,rfl,rfl,vE⟩:=hc
    simp only [Aa,Ad] at he
    obtain ⟨rfl,rfl⟩:=he
    unfold St.at at hl
    obtain ⟨h1,h2⟩:=lH hu hl
    refine ⟨(π l).map full,⟨Yf h2,?_⟩,vE,rfl,rfl,rfl,kp',hl⟩
    have hb:=(h.heap l).Qq hl
    simp only [By] at hb
    have hb:=hb.1
    have hg:Yx w (Cr X.w0.heap.size X.Sc π false) ((π l).map full) e' rows none:=by
     cases hp:π l with
     |none=>rw [hp] at hb;exact hb
     |some q=>rw [hp] at hb;exact hb
    exact hg.Fw (λ_ _ _ _ _=>rfl) λes x hc=>hc.but
   ·cases he
  ·cases he
end
end Go.Proofs.Ytkkdpknjohcekaa
