/-
  Part 15 of the proof that the statement FnNoShorterSolution holds.
-/
import Derived.Test.YtkkdpknjohcekaaGreatCFNoShorterSolution13
namespace Go.Proofs.YtkkdpknjohcekaaGreat
open Go.RowKit
section
variable {P:Program} {T:Tab} {X:Ctx} {w w':World} {π π':Pi} {H H':List (Nat×OB)}
def full (r:Real):Real:= {r with cl:=r.Cr}
theorem Db.sX: ∀(τ:Ty) (F:List Nat) (es:List Value) (x:τ.den),τ.flat=true->Db w F τ es x->F= []
 | .int k,F,es,x,_,h=>h.1
 | .bool,F,es,x,_,h=>h.1
 | .str,F,es,x,_,h=>h.1
 | .unit,F,es,x,_,h=>h.1
 | .pair a r,F,es,x,hf,h=>by
  simp only [Ty.flat,Af] at hf
  simp only [Db] at h
  obtain ⟨c1,c2,F1,F2,_,rfl,h1,h2⟩:=h
  rw [Db.sX a F1 c1 x.1 hf.1 h1,Db.sX r F2 c2 x.2 hf.2 h2]
  rfl
 | .slice _,_,_,_,hf,_=>by simp [Ty.flat] at hf
 | .oslice _,_,_,_,hf,_=>by simp [Ty.flat] at hf
 | .ptr _,_,_,_,hf,_=>by simp [Ty.flat] at hf
 | .optr _,_,_,_,hf,_=>by simp [Ty.flat] at hf
 | .smap _,_,_,_,hf,_=>by simp [Ty.flat] at hf
 | .clo _ _,_,_,_,hf,_=>by simp [Ty.flat] at hf
theorem nG {S P:Nat->Prop} {g o:Nat} {cur:Array Value} {e:Ty} {xs:List e.den} (hf:e.flat=true)
  (h: ∀(i:Nat) (x:e.den),xs[i]?=some x-> ∃es:List Value,es.length=e.size/\(∀j u,es[j]?=some u->cur[(o+i)*e.size+j]?=some u)/\Cells w S e es x):Xv w P g o cur e xs:=by
 refine ⟨List.replicate xs.length [],by simp,by simp,by simp,λi x F hx hF=>?_⟩
 obtain ⟨es,e1,e2,e3⟩:=h i x hx
 have:F= []:=Fq (Cb hF)
 subst this
 exact ⟨es,e1,e2,Yg e es x hf e3⟩
theorem Th.NV {D:Nat->Prop} {r:Option Real} {e:Ty} {ys:List e.den} {u:Value} (h:Th w D r e ys) (hf:e.flat=true) (hv:Im r e.size 0 ys.length u):
  ∃F,Db w F (.slice e) [u] ys/\F.Nodup/\ ∀b∈F,∃r',r=some r'/\r'.Cr b:=by
 cases r with
 |none=>
  obtain ⟨rfl,_,_⟩:=hv
  have h:ys= []:=h
  subst h
  exact ⟨[],⟨none,0,0,rfl,rfl,Ap _, .inl ⟨rfl,rfl,rfl,rfl⟩⟩,Nu,λb hb=>by cases hb⟩
 |some r=>
  obtain ⟨h1,cur,ti,h2,h3,h4,h5,h6⟩:=h
  obtain ⟨F,f1,f2,f3⟩:=kM (P:=r.Cr) h2 h3 h4 (by omega) hv (nG hf h6) h1.1
  exact ⟨F,by simpa using f1,f2,λb hb=>⟨r,rfl,f3 b hb⟩⟩
theorem Ol.NV {r:Option Real} {e:Ty} {te:TypeId} {ys:List e.den} {u:Value} (h:Ol w r e te ys) (hv:Im r e.size 0 ys.length u):
  ∃F,Db w F (.slice e) [u] ys/\F.Nodup/\ ∀b∈F,∃r',r=some r'/\r'.Cr b:=by
 cases r with
 |none=>
  obtain ⟨rfl,_,_⟩:=hv
  have h:ys= []:=h
  subst h
  exact ⟨[],⟨none,0,0,rfl,rfl,Ap _, .inl ⟨rfl,rfl,rfl,rfl⟩⟩,Nu,λb hb=>by cases hb⟩
 |some r=>
  obtain ⟨h1,cur,ti,h2,h3,h4,h5,h6⟩:=h
  obtain ⟨F,f1,f2,f3⟩:=kM (P:=r.Cr) h2 h3 h4 (by omega) hv h6 h1
  exact ⟨F,by simpa using f1,f2,λb hb=>⟨r,rfl,f3 b hb⟩⟩
theorem Db.row {F:List Nat} {e:Ty} {u:Value} {xs:List e.den} (h:Db w F (.slice e) [u] xs) (hn:F.Nodup):
  ∃r:Option Real,Im r e.size 0 xs.length u/\(e.flat=true-> ∀D,Th w D r e xs)/\(∀te,Ol w r e te xs)/\(∀r',r=some r'-> ∀b,r'.Cr b↔b∈F)/\(r=none->F= []):=by
 simp only [Db] at h
 obtain ⟨a,len,cap,e0,e1,e2,h⟩:=h
 simp only [Gz,bl] at e0
 subst e0
 rcases h with ⟨rfl,rfl,rfl,rfl⟩|⟨ad,g,o,Fs,rfl,ha,⟨cur,ti,o',s1,s2,s3,s4⟩,rfl,hl,Jt⟩
 ·exact ⟨none,⟨by rw [e1];rfl,rfl,rfl⟩,λ_ _=>rfl,λ_=>rfl,(λr' h=>by cases h),λ_=>rfl⟩
 ·subst s2
  have lq: ∀(i:Nat) (x:e.den) (Fi:List Nat),xs[i]?=some x->Fs[i]?=some Fi-> ∃es:List Value,es.length=e.size/\(∀j u,es[j]?=some u->cur[(o'+i)*e.size+j]?=some u)/\Db w Fi e es x:=by
   intro i x Fi hx hF
   obtain ⟨es,k1,k2,k3⟩:=Jt i x Fi hx hF
   refine ⟨es,k1,λj v hv=>?_,k3⟩
   have:=k2 j v hv
   rw [cellOf s1] at this
   rw [De];exact this
  refine ⟨some ⟨g,o',cap,(· ∈g::List.flatten Fs),(· ∈g::List.flatten Fs)⟩,⟨ad,by rw [e1];rfl,by dsimp only;omega,λh0=>by rw [ha h0];rfl⟩,λhf D=>⟨⟨by simp,λb hb=>?_⟩,cur,ti,s1,s3,s4,by rw [<-e1];exact e2,λi x hx=>?_⟩,
   fun te=>⟨by simp,cur,ti,s1,s3,s4,by rw [<-e1];exact e2,Fs,hl,hn,λb hb=>by simp [hb],lq⟩,λr' hr b=>by cases hr;exact Iff.rfl,λh=>by cases h⟩
  ·rcases Bg.1 hb with hb|hb
   ·exact hb
   ·obtain ⟨Fi,h1,h2⟩:=Ia.1 hb
    obtain ⟨i,hi,rfl⟩:=Oa h1
    obtain ⟨es,_,_,k3⟩:=lq i (xs[i]'(by omega)) _ (Ac _) (Ac hi)
    rw [Db.sX e _ _ _ hf k3] at h2
    cases h2
  ·have hi:i<Fs.length:=by have:=(Am.1 hx).1;omega
   obtain ⟨es,k1,k2,k3⟩:=lq i x _ hx (Ac hi)
   exact ⟨es,k1,k2,Cells.flat e es x hf (Db.cells (S:= λ_=>False) _ e es x k3 λb hb=> λh=>h)⟩
theorem cU: ∀(Fs:List (List Nat)) (i:Nat) (Fi F':List Nat),(List.flatten Fs).Nodup->Fs[i]?=some Fi->F'.Nodup->(∀b∈F',b∈Fi)->(List.flatten (Fs.set i F')).Nodup/\ ∀b∈List.flatten (Fs.set i F'),b∈List.flatten Fs
 | [],i,Fi,F',_,h,_,_=>by simp at h
 |G::Fs,0,Fi,F',hn,h,s8,hs=>by
  simp only [Bq,Aa] at h;subst h
  simp only [List.set_cons_zero,Lu] at hn⊢
  obtain ⟨n1,n2,n3⟩:=Du.1 hn
  refine ⟨Du.2 ⟨s8,n2,λa ha b hb=>n3 a (hs a ha) b hb⟩,λb hb=>?_⟩
  rcases Bb.1 hb with hb|hb
  ·exact Bk _ (hs b hb)
  ·exact Cg _ hb
 |G::Fs,i+1,Fi,F',hn,h,s8,hs=>by
  simp only [Mx] at h
  simp only [List.set_cons_succ,Lu] at hn⊢
  obtain ⟨n1,n2,n3⟩:=Du.1 hn
  obtain ⟨m1,m2⟩:=cU Fs i Fi F' n2 h s8 hs
  refine ⟨Du.2 ⟨n1,m1,λa ha b hb=>n3 a ha b (m2 b hb)⟩,λb hb=>?_⟩
  rcases Bb.1 hb with hb|hb
  ·exact Bk _ hb
  ·exact Cg _ (m2 b hb)
theorem lf: ∀(Fs:List (List Nat)) (i j:Nat) (Fi Fj:List Nat) (b:Nat),(List.flatten Fs).Nodup->Fs[i]?=some Fi->Fs[j]?=some Fj->b∈Fi->b∈Fj->i=j
 | [],i,j,Fi,Fj,b,_,h,_,_,_=>by simp at h
 |G::Fs,0,0,_,_,_,_,_,_,_,_=>rfl
 |G::Fs,0,j+1,Fi,Fj,b,hn,h1,h2,h3,h4=>by
  simp only [Bq,Aa,Mx] at h1 h2
  subst h1
  simp only [Lu] at hn
  exact absurd rfl ((Du.1 hn).2.2 b h3 b (Ia.2 ⟨Fj,Cb h2,h4⟩))
 |G::Fs,i+1,0,Fi,Fj,b,hn,h1,h2,h3,h4=>by
  simp only [Bq,Aa,Mx] at h1 h2
  subst h2
  simp only [Lu] at hn
  exact absurd rfl ((Du.1 hn).2.2 b h4 b (Ia.2 ⟨Fi,Cb h1,h3⟩))
 |G::Fs,i+1,j+1,Fi,Fj,b,hn,h1,h2,h3,h4=>by
  simp only [Mx] at h1 h2
  simp only [Lu] at hn
  rw [lf Fs i j Fi Fj b (Du.1 hn).2.1 h1 h2 h3 h4]
def yA (w:World) (π:Pi) (l i:Nat) (e:Ty) (tid:TypeId) (xs:List (List e.den)) (u:Value) (r:Option Real):Prop:=
 ∃q,π l=some q/\(∀r',r=some r'-> ∀b,r'.Cr b->q.Cr b/\b≠q.g)/\
  ∀(w':World) (ys:List e.den),w.heap.size<=w'.heap.size->(∀b,b<w.heap.size->q.Cr b->(∀r',r=some r'-> ¬r'.Cr b)->w'.heap[b]?=w.heap[b]?)->
   (∃F',Db w' F' (.slice e) [u] ys/\F'.Nodup/\ ∀b∈F',∃r',r=some r'/\r'.Cr b)->Ol w' (some q) (.slice e) tid (xs.set i ys)
theorem HO (h:Nm X w π H) {l i c:Nat} {e:Ty} {tid:TypeId} {xs:List (List e.den)} {x:List e.den} {u:Value} (hl:Aw H l=some (.He (.slice e) tid xs)) (hx:xs[i]?=some x) (hc:c=0)
  (hu:Ib X w π H (.sub l i c) u): ∃r,Im r e.size 0 x.length u/\(e.flat=true-> ∀D,Th w D r e x)/\(∀te,Ol w r e te x)/\yA w π l i e tid xs u r:=by
 subst hc
 obtain ⟨q,b0,sz0,n0,h1,qj,h2,h3,⟨h4,a,n,m,rfl⟩,h5⟩:=hu
 rw [hl] at h1;cases h1
 simp only [OB.gT,Aa,Ae] at qj
 obtain ⟨rfl,rfl⟩:=qj
 have hb:=(h.heap l).Rz hl
 simp only [Ch,Ol,h2] at hb
 obtain ⟨k1,cur,ti,k2,k3,k4,k5,Fs,t1,t2,t3,t4⟩:=hb
 have hi:i<Fs.length:=by have:=(Am.1 hx).1;omega
 have hFi:Fs[i]?=some Fs[i]:=Ac hi
 obtain ⟨es,e1,e2,e3⟩:=t4 i x _ hx hFi
 have e1':es.length=1:=e1
 obtain ⟨v,rfl⟩:=Ea.1 e1'
 have hv:v= .slice a n m:=by
  have:=e2 0 v rfl
  rw [cellOf k2] at h5
  rw [this] at h5;exact Bc h5
 subst hv
 have hn2:=(Cd.1 t2).2
 have rm: ∀b∈Fs[i],b∈List.flatten Fs:= λb hb=>Ia.2 ⟨_,Ak hi,hb⟩
 have hnF:(Fs[i]).Nodup:=hn2.sublist (by
  have:=ic (List.singleton_sublist.2 (Ak hi))
  simpa using this)
 obtain ⟨r,r1,r2,r3,r4,r5⟩:=Db.row e3 hnF
 refine ⟨r,r1,r2,r3,q,h2,λr' hr b hb=>?_,λw' ys hs hk ⟨F',f1,f2,f3⟩=>?_⟩
 ·have hb:=(r4 r' hr b).1 hb
  exact ⟨t3 b (rm b hb),λe=>(Cd.1 t2).1 (e▸rm b hb)⟩
 ·have hF': ∀b∈F',b∈Fs[i]:= λb hb=>by
   obtain ⟨r',g1,g2⟩:=f3 b hb
   exact (r4 r' g1 b).1 g2
  have PU:=cU Fs i _ F' hn2 hFi f2 hF'
  have hkg:w'.heap[q.g]?=w.heap[q.g]?:=hk q.g (Gi k2) k1 λr' hr hb=>(Cd.1 t2).1 (rm _ ((r4 r' hr _).1 hb))
  refine ⟨k1,cur,ti,hkg.trans k2,k3,k4,by simpa using k5,Fs.set i F',by simp [t1],Cd.2 ⟨λhm=>(Cd.1 t2).1 (PU.2 _ hm),PU.1⟩,λb hb=>t3 b (PU.2 b hb),λj y F hy hF=>?_⟩
  rw [Ei] at hy hF
  split at hy
  ·rename_i jh;subst jh
   rw [Ab rfl] at hF
   rw [Ab hi] at hF
   simp only [Aa] at hF
   have hy:ys=y:=by simpa [h3] using hy
   subst hy;subst hF
   exact ⟨[.slice a n m],rfl,e2,f1⟩
  ·rename_i jh
   rw [Ai jh] at hF
   obtain ⟨nv,g1,g2,g3⟩:=t4 j y F hy hF
   refine ⟨nv,g1,g2,g3.Fp _ _ _ _ hs λb hb=>?_⟩
   have XZ:b∈List.flatten Fs:=Ia.2 ⟨F,Cb hF,hb⟩
   exact hk b (g3.lt _ _ _ _ b hb) (t3 b XZ) λr' hr vz=>jh (lf Fs i j _ F b hn2 hFi hF ((r4 r' hr b).1 vz) hb)
def Tz (w:World) (π:Pi) (H:List (Nat×OB)) (io:Bool) (a:AC) (u:Value) (r:Option Real):(c:CK)->c.den->Prop
 | .Ec _,_=>r=none
 | .row e te,x=>match a with
  | .Mp=>r=none
  | .own l off len=>r=(π l).map full/\off=0/\len=List.length x/\ ∃fr tr,Aw H l=some (.arr fr tr e te x)
  | .sub l i _=>(io=true/\e.flat=true)/\ ∃tid xs,Aw H l=some (.He (.slice e) tid xs)/\xs[i]?=some x/\yA w π l i e tid xs u r
  |_=>False
 | .Ij e te,x=>match a with
  | .Mp=>r=none
  | .own l off len=>r=(π l).map full/\off=0/\len=List.length x/\Aw H l=some (.He e te x)
  | .sub l i _=>io=true/\ ∃tid xs,Aw H l=some (.He (.slice e) tid xs)/\xs[i]?=some x/\yA w π l i e tid xs u r
  |_=>False
 | .part e te,x=>e.flat=true/\match a with
  | .own l _ _=>r=(π l).map full/\io=true/\ ∃fr tr,Aw H l=some (.arr fr tr e te x.1)
  |_=>False
 | .Bo e te _,x=>io=false/\match a with
  | .own l off len=>r=(π l).map full/\off=0/\len=List.length x/\ ∃kp,Aw H l=some (.Bo e te x none kp)
  |_=>False
theorem a8 {r:Option Real} {s off len:Nat} {v:Value} (h:Im r s off len v):Im (r.map full) s off len v:=by
 cases r<;>exact h
def Pd (X:Ctx) (π:Pi) (V:List Nat) (b:Nat):Prop:=(Wa π b/\ ∀l∈V,∀r,π l=some r-> ¬r.Cr b)\/X.Sc b
theorem Pd.not {V:List Nat} {b l:Nat} (hb:Pd X π V b) (h:Nm X w π H) (hl:l∈V) {r:Real} (hr:π l=some r) (hf:r.Cr b):False:=by
 rcases hb with hb|hb
 ·exact hb.2 l hl r hr hf
 ·have h1:=h.sc b hb
  rcases (h.own ⟨l,r,hr,hf⟩).2 with h2|h2
  ·omega
  ·exact h1.2 h2
theorem Pd.iM {V:List Nat} {b:Nat} {B:Nat} {fr:Bool} (hb:Pd X π V b):Cy B X.Sc π fr b:=hb.elim (λh=> .inl h.1) λh=> .inr (.inl h)
theorem OA {st:St} {ls:List Nat} (h:cw st ls=true) {l:Nat} (hl:l∈ls) {tid:TypeId} {vs:List AC} (hv:Aw st.heap l=some (.var tid vs)):vs.all (·.settled)=true:=by
 have:=Az.1 h l hl
 unfold St.at at this
 rw [hv] at this
 exact this
theorem Cells.but {V:List Nat} {f:Bool} {τ:Ty} {cs:List Value} {x:τ.den} (h:Cells w (Cy X.w0.heap.size X.Sc π f) τ cs x):Cells w (Pd X π V) τ cs x:=
 Cells.Fp (Ap _) (λ_ _ _=>rfl) (λ_ _ hk=>hk.iM) τ cs x h
theorem kh {st:St} (h:Nm X w π st.heap) {V:List Nat} {a:Ty} {l i:Nat} {fr:Bool} {x:a.den} (dX:cw st [l]=true) (hlV:l∈V) (hv:Uw st a l i=some (fr,x)) {r:Real} (hr:π l=some r):
  r.g<w.heap.size/\ ¬Pd X π V r.g/\ ∃es:List Value,es.length=a.size/\(∀j u,es[j]?=some u->w.cell? ⟨r.g,i+j,none⟩=some u)/\Cells w (Pd X π V) a es x:=by
 unfold Uw at hv
 split at hv
 ·rename_i tid vs hl
  unfold St.at at hl
  obtain ⟨r',h3,h4,cur,h5,h6⟩:=(h.heap l).Rz hl
  rw [hr] at h3;cases h3
  have hs:=OA dX (Ad.2 rfl) hl
  have EM:((vs.drop i).take a.size).all (·.settled)=true:=Az.2 λc hc=>Az.1 hs c (dV (Fy hc))
  have hc:=Xf a _ _ fr x EM (a9 h6 i a.size) hv
  refine ⟨Gi h5,λhb=>hb.not h hlV hr h4,_,Cells.len a _ x hc,λj u hu=>?_,hc.but⟩
  rw [cellOf h5]
  rw [Ct] at hu
  split at hu
  ·rw [Da] at hu;simpa using hu
  ·cases hu
 ·cases hv
theorem HY {st:St} {l:Nat} {ls:List Nat} (h:cw st (l::ls)=true):cw st [l]=true/\cw st ls=true:=by
 simp only [cw,Jf,List.all_nil,Bool.and_true,Af] at h⊢
 exact h
theorem BL {st:St} (h:Nm X w π st.heap) {V:List Nat} : ∀(τ:Ty) (Ee:List (Nat×Nat)) (us:List Value) (fr:Bool) (x:τ.den),us.length=Ee.length->
  (∀(j:Nat) p,Ee[j]?=some p-> ∃r tid vs,Aw st.heap p.1=some (.var tid vs)/\π p.1=some r/\us[j]?=some (.pointer (some ⟨r.g,p.2,none⟩)))->
  cw st (Ee.map (·.1))=true->(∀p∈Ee,p.1∈V)->Ls st τ Ee=some (fr,x)->Cells w (Pd X π V) τ us x:=by
 intro τ
 induction τ with
 |unit=>
  intro Ee us fr x hl hr _ _ hv
  cases Ee with
  |nil=>exact Ci hl
  |cons c cs=>simp [Ls] at hv
 |pair a r _ iw=>
  intro Ee us fr x hl hr dX hV hv
  cases a with
  |ptr a=>
   cases Ee with
   |nil=>simp [Ls] at hv
   |cons c cs=>
    obtain ⟨l,i⟩:=c
    simp only [Ls] at hv
    split at hv
    ·rename_i f1 y f2 z h1 h2
     simp only [Aa,Ae] at hv
     obtain ⟨rfl,rfl⟩:=hv
     cases us with
     |nil=>simp at hl
     |cons u us=>
      obtain ⟨r0,tid,vs,h3,h4,h5⟩:=hr 0 (l,i) rfl
      simp only [Bq,Aa] at h5
      subst h5
      obtain ⟨ok1,ok2⟩:=HY dX
      obtain ⟨h6,h7,es,h8,h9,qj⟩:=kh h ok1 (hV _ (Fk ..)) h1 h4
      exact ⟨[_],us,rfl,⟨r0.g,i,rfl,h6,h7,es,h8,h9,qj⟩,iw cs us f2 z (by simpa using hl) (λj p hp=>hr (j+1) p hp) ok2 (λp hp=>hV p (Ao _ hp)) h2⟩
    ·cases hv
  |_=>cases Ee<;>simp [Ls] at hv
 |_=>intro Ee us fr x hl hr _ _ hv;cases Ee<;>simp [Ls] at hv
theorem VH {st:St} (h:Nm X w π st.heap) {V:List Nat} {io:Bool} {k:Nat} {c:CK} {a:AC} {u:Value} (hu:Ib X w π st.heap a u) {x:c.den} {tks:List (Nat×Loc)} (he:Ms st io k c a=some (x,tks))
  (hV: ∀t∈tks,t.2.reads=true->t.2.Xj∈V): ∃r,fh w (Pd X π V) r u c x/\Tz w π st.heap io a u r c x:=by
 cases c with
 |Ec τ=>
  have own: ∀l off len,a= .own l off len-> ∃r,fh w (Pd X π V) r u (.Ec τ) x/\Tz w π st.heap io a u r (.Ec τ) x:=by
   intro l off len ea
   subst ea
   simp only [Ms] at he
   cases hv:Dr st τ (.own l off len) with
   |none=>rw [hv] at he;cases he
   |some p=>
    obtain ⟨fr,y⟩:=p
    rw [hv] at he
    simp only [Al,Aa,Ae] at he
    obtain ⟨rfl,rfl⟩:=he
    have hlV:l∈V:=hV _ (Ad.2 rfl) rfl
    refine ⟨none,⟨rfl,?_⟩,rfl⟩
    cases τ<;>simp only [Dr] at hv<;>try (cases hv;done)
    rename_i e
    cases hl:st.at l with
    |none=>rw [hl] at hv;cases hv
    |some b=>
     rw [hl] at hv
     unfold St.at at hl
     cases b<;>(try simp only [] at hv)<;>try (cases hv;done)
     ·rename_i vu CB e0 tid xs
      split at hv
      ·rename_i YC;subst YC
       simp only [Aa,Ae] at hv
       obtain ⟨_,rfl⟩:=hv
       obtain ⟨h1,h2⟩:=Pa hu hl
       exact ⟨[u],pz h hl h1 h2 (λb hb ⟨r,hr,hf⟩=>hb.not h hlV hr hf) (λb _ hb=>hb.iM),rfl⟩
      ·cases hv
     ·rename_i e0 tid xs
      split at hv
      ·rename_i YC;subst YC
       simp only [Aa,Ae] at hv
       obtain ⟨_,rfl⟩:=hv
       obtain ⟨h1,h2⟩:=cj hu hl
       exact ⟨[u],mU h hl h1 h2 (λb hb ⟨r,hr,hf⟩=>hb.not h hlV hr hf),rfl⟩
      ·cases hv
     ·rename_i e0 te0 rows out kp
      cases out with
      |some i=>cases hv
      |none=>
       simp only [] at hv
       split at hv
       ·rename_i YC;subst YC
        simp only [Aa,Ae] at hv
        obtain ⟨_,rfl⟩:=hv
        obtain ⟨h1,h2⟩:=od hu hl
        exact ⟨[u],tf h hl h1 h2 (λb hb ⟨r,hr,hf⟩=>hb.not h hlV hr hf) (λb hb=>hb.iM),rfl⟩
       ·cases hv
  have Arl: ∀g Ee,a= .clo g Ee-> ∃r,fh w (Pd X π V) r u (.Ec τ) x/\Tz w π st.heap io a u r (.Ec τ) x:=by
   intro g Ee ea
   subst ea
   simp only [Ms] at he
   split at he
   ·rename_i hc
    simp only [Af,Es] at hc
    obtain ⟨dX,Ud⟩:=hc
    cases hv:Kn st τ (.clo g Ee) with
    |none=>rw [hv] at he;cases he
    |some p=>
     obtain ⟨fr,y⟩:=p
     rw [hv] at he
     simp only [Al,Aa,Ae] at he
     obtain ⟨rfl,rfl⟩:=he
     have hcV: ∀p∈Ee,p.1∈V:= λp hp=>hV (Dx false k, .view p.1) (Bi.2 ⟨p.1,Bi.2 ⟨p,hp,rfl⟩,rfl⟩) rfl
     obtain ⟨us,rfl,h2,h3⟩:=hu
     refine ⟨none,⟨rfl,Cu.o3 Ud ?_⟩,rfl⟩
     cases τ<;>simp only [Kn] at hv<;>try (simp only [Dr,reduceCtorEq] at hv;done)
     rename_i f0 c0
     split at hv
     ·rename_i hg
      obtain ⟨rfl,Li⟩:=hg
      exact ⟨us,by rw [iV Li],BL h c0 Ee us fr y h2 h3 dX hcV hv⟩
     ·cases hv
   ·cases he
  have hvp: ∀l i,a= .Hu l i-> ∃r,fh w (Pd X π V) r u (.Ec τ) x/\Tz w π st.heap io a u r (.Ec τ) x:=by
   intro l i ea
   subst ea
   simp only [Ms] at he
   split at he
   ·rename_i hc
    simp only [Af,Es] at hc
    obtain ⟨dX,Ud⟩:=hc
    cases hv:Kn st τ (.Hu l i) with
    |none=>rw [hv] at he;cases he
    |some p=>
     obtain ⟨fr,y⟩:=p
     rw [hv] at he
     simp only [Al,Aa,Ae] at he
     obtain ⟨rfl,rfl⟩:=he
     have hlV:l∈V:=hV (Dx false k, .view l) (Bi.2 ⟨l,Ad.2 rfl,rfl⟩) rfl
     obtain ⟨r,tid,vs,h1,h2,rfl⟩:=hu
     refine ⟨none,⟨rfl,Cu.o3 Ud ?_⟩,rfl⟩
     cases τ<;>simp only [Kn] at hv<;>try (simp only [Dr,reduceCtorEq] at hv;done)
     ·obtain ⟨h6,h7,h8⟩:=kh h dX hlV hv h2
      exact ⟨r.g,i,rfl,h6,h7,h8⟩
     ·rename_i a
      cases hp:Uw st a l i with
      |none=>rw [hp] at hv;cases hv
      |some p=>
       rw [hp] at hv
       simp only [Al,Aa,Ae] at hv
       obtain ⟨_,rfl⟩:=hv
       obtain ⟨h6,h7,h8⟩:=kh h dX hlV hp h2
       exact .inr ⟨_,r.g,i,rfl,rfl,h6,h7,h8⟩
   ·cases he
  have Yj: ∀l i c,a= .sub l i c-> ∃r,fh w (Pd X π V) r u (.Ec τ) x/\Tz w π st.heap io a u r (.Ec τ) x:=by
   intro l i c ea
   subst ea
   simp only [Ms] at he
   cases hv:Dr st τ (.sub l i c) with
   |none=>rw [hv] at he;cases he
   |some p=>
    obtain ⟨fr,y⟩:=p
    rw [hv] at he
    simp only [Al,Aa,Ae] at he
    obtain ⟨rfl,rfl⟩:=he
    have hlV:l∈V:=hV _ (Ad.2 rfl) rfl
    refine ⟨none,⟨rfl,?_⟩,rfl⟩
    cases τ<;>simp only [Dr] at hv<;>try (cases hv;done)
    rename_i e
    cases hl:st.at l with
    |none=>rw [hl] at hv;cases hv
    |some b=>
     rw [hl] at hv
     unfold St.at at hl
     cases b<;>(try simp only [] at hv)<;>try (cases hv;done)
     rename_i e0 te0 rows out kp
     cases out with
     |some i=>cases hv
     |none=>
      simp only [] at hv
      split at hv
      ·rename_i YC;subst YC
       simp only [Aa,Ae] at hv
       obtain ⟨_,rfl⟩:=hv
       exact ⟨[u],th h hl (EF hu hl) hu (λb hb ⟨r,hr,hf⟩=>hb.not h hlV hr hf) (λb hb=>hb.iM),rfl⟩
      ·cases hv
  by_cases QF: ∃l i c,a= .sub l i c
  ·obtain ⟨l,i,c,ea⟩:=QF;exact Yj l i c ea
  by_cases Afv: ∃g Ee,a= .clo g Ee
  ·obtain ⟨g,Ee,ea⟩:=Afv;exact Arl g Ee ea
  by_cases An4: ∃l i,a= .Hu l i
  ·obtain ⟨l,i,ea⟩:=An4;exact hvp l i ea
  by_cases eB: ∃l off len,a= .own l off len
  ·obtain ⟨l,off,len,ea⟩:=eB;exact own l off len ea
  have he:(if τ.flat||a.settled then (Dr st τ a).map λp=>(p.2,([]:List (Nat×Loc))) else none)=some (x,tks):=by
   cases a<;>first|exact he|exact absurd ⟨_,_,_,rfl⟩ eB|exact absurd ⟨_,_,rfl⟩ Afv|exact absurd ⟨_,_,rfl⟩ An4|exact absurd ⟨_,_,_,rfl⟩ QF
  split at he
  ·rename_i hc
   cases hv:Dr st τ a with
   |none=>rw [hv] at he;cases he
   |some p=>
    obtain ⟨fr,y⟩:=p
    rw [hv] at he
    simp only [Al,Aa,Ae] at he
    obtain ⟨rfl,rfl⟩:=he
    refine ⟨none,⟨rfl,?_⟩,rfl⟩
    have Jp: ∀f,Cu w (Cy X.w0.heap.size X.Sc π f) τ u y->Cu w (Pd X π V) τ u y:= λf hr=>hr.Jp λk _ hk=>hk.iM
    cases a with
    |data f Ox z=>
     rw [Oj] at hv
     split at hv
     ·rename_i ht;subst ht
      simp only [Aa,Ae] at hv
      obtain ⟨_,rfl⟩:=hv
      exact Jp f hu
     ·have Pn:τ.Aq=false:=by unfold iY at hv;split at hv<;>first|rfl|cases hv
      exact Jp _ ⟨[u],dv hv hu,by simp [Bz,Pn]⟩
    |Mp=>
     have hu:u= .slice none 0 0:=hu
     subst hu
     cases τ<;>simp only [Dr,Aa,Ae,reduceCtorEq] at hv
     ·obtain ⟨_,rfl⟩:=hv;exact ⟨[_],⟨none,0,0,rfl,rfl,Ap _, .inl rfl⟩,rfl⟩
     ·obtain ⟨_,rfl⟩:=hv;exact ⟨[_], .inl ⟨rfl,0,rfl⟩,rfl⟩
    |Vx=>
     have hu:u= .pointer none:=hu
     subst hu
     cases τ<;>simp only [Dr,Aa,Ae,reduceCtorEq] at hv
     obtain ⟨_,rfl⟩:=hv;exact ⟨[_], .inl ⟨rfl,rfl⟩,rfl⟩
    |_=>cases τ<;>simp [AC.settled,Ty.flat,Dr] at hc hv
  ·cases he
 |row e te=>
  cases a<;>simp only [Ms] at he<;>try (cases he;done)
  ·simp only [Aa,Ae] at he
   obtain ⟨rfl,rfl⟩:=he
   have hu:u= .slice none 0 0:=hu
   exact ⟨none,⟨⟨hu,rfl,rfl⟩,rfl⟩,rfl⟩
  ·rename_i l off len
   split at he
   ·rename_i fr tr e' Rv xs hl
    split at he
    ·rename_i hc
     obtain ⟨rfl,rfl,rfl,rfl⟩:=hc
     simp only [Aa,Ae] at he
     obtain ⟨rfl,rfl⟩:=he
     unfold St.at at hl
     obtain ⟨_,h2⟩:=Pa hu hl
     refine ⟨(π l).map full,⟨a8 h2,?_⟩,rfl,rfl,rfl,fr,tr,hl⟩
     have hb:=(h.heap l).Rz hl
     simp only [Ch,Kr] at hb
     cases hp:π l with
     |none=>rw [hp] at hb;exact hb
     |some q=>
      rw [hp] at hb
      obtain ⟨k1,cur,ti,k2,k3,k4,k5,k6,_⟩:=hb
      refine ⟨⟨k1.1,k1.2.1⟩,cur,ti,k2,k3,k4,k5,λi y hy=>?_⟩
      obtain ⟨es,g1,g2,g3⟩:=k6 i y hy
      exact ⟨es,g1,g2,Cells.Fp (Ap _) (λ_ _ _=>rfl) (λ_ _ hk=>hk.iM) e' es y g3⟩
    ·cases he
   ·cases he
  ·rename_i l i c
   split at he
   ·rename_i e' tid xs hl
    split at he
    ·rename_i hc
     obtain ⟨rfl,hf,z6,kQ⟩:=hc
     cases hx:xs[i]? with
     |none=>rw [hx] at he;cases he
     |some y=>
      rw [hx] at he
      simp only [Al,Aa,Ae] at he
      obtain ⟨rfl,rfl⟩:=he
      unfold St.at at hl
      obtain ⟨r,r1,r2,_,r4⟩:=HO h hl hx kQ hu
      exact ⟨r,⟨r1,r2 hf _⟩,⟨z6,hf⟩,tid,xs,hl,hx,r4⟩
    ·cases he
   ·cases he
 |Ij e te=>
  cases a<;>simp only [Ms] at he<;>try (cases he;done)
  ·simp only [Aa,Ae] at he
   obtain ⟨rfl,rfl⟩:=he
   have hu:u= .slice none 0 0:=hu
   exact ⟨none,⟨⟨hu,rfl,rfl⟩,rfl⟩,rfl⟩
  ·rename_i l off len
   split at he
   ·rename_i e' Rv xs hl
    split at he
    ·rename_i hc
     obtain ⟨rfl,rfl,rfl,rfl⟩:=hc
     simp only [Aa,Ae] at he
     obtain ⟨rfl,rfl⟩:=he
     unfold St.at at hl
     obtain ⟨_,h2⟩:=cj hu hl
     refine ⟨(π l).map full,⟨a8 h2,?_⟩,rfl,rfl,rfl,hl⟩
     have hb:=(h.heap l).Rz hl
     simp only [Ch] at hb
     cases hp:π l with
     |none=>rw [hp] at hb;exact hb
     |some q=>rw [hp] at hb;exact hb
    ·cases he
   ·cases he
  ·rename_i l i c
   split at he
   ·rename_i e' tid xs hl
    split at he
    ·rename_i hc
     obtain ⟨rfl,z6,kQ⟩:=hc
     cases hx:xs[i]? with
     |none=>rw [hx] at he;cases he
     |some y=>
      rw [hx] at he
      simp only [Al,Aa,Ae] at he
      obtain ⟨rfl,rfl⟩:=he
      unfold St.at at hl
      obtain ⟨r,r1,_,r3,r4⟩:=HO h hl hx kQ hu
      exact ⟨r,⟨r1,r3 te⟩,z6,tid,xs,hl,hx,r4⟩
    ·cases he
   ·cases he
 |part e te=>
  cases a<;>simp only [Ms] at he<;>try (cases he;done)
  rename_i l off len
  split at he
  ·rename_i fr tr e' Rv xs hl
   split at he
   ·rename_i hc
    obtain ⟨rfl,rfl,hf,z6⟩:=hc
    simp only [Aa,Ae] at he
    obtain ⟨rfl,rfl⟩:=he
    unfold St.at at hl
    obtain ⟨h1,h2⟩:=Pa hu hl
    refine ⟨(π l).map full,⟨⟨a8 h2,h1⟩,hf,?_⟩,hf,rfl,z6,fr,tr,hl⟩
    have hb:=(h.heap l).Rz hl
    simp only [Ch,Kr] at hb
    cases hp:π l with
    |none=>rw [hp] at hb;exact hb
    |some q=>
     rw [hp] at hb
     obtain ⟨k1,cur,ti,k2,k3,k4,k5,k6,_⟩:=hb
     refine ⟨⟨k1.1,k1.2.1⟩,cur,ti,k2,k3,k4,k5,λi y hy=>?_⟩
     obtain ⟨es,g1,g2,g3⟩:=k6 i y hy
     exact ⟨es,g1,g2,Cells.flat e' es y hf g3⟩
   ·cases he
  ·cases he
 |Bo e te kp=>
  cases a<;>simp only [Ms] at he<;>try (cases he;done)
  rename_i l off len
  split at he
  ·rename_i e' Rv rows kp' hl
   split at he
   ·rename_i hc
    obtain ⟨rfl,rfl,rfl,rfl,z6⟩:=hc
    simp only [Aa,Ae] at he
    obtain ⟨rfl,rfl⟩:=he
    unfold St.at at hl
    obtain ⟨h1,h2⟩:=od hu hl
    refine ⟨(π l).map full,⟨a8 h2,?_⟩,z6,rfl,rfl,rfl,kp',hl⟩
    have hb:=(h.heap l).Rz hl
    simp only [Ch] at hb
    have hb:=hb.1
    have hg:aE w (Cy X.w0.heap.size X.Sc π false) ((π l).map full) e' rows none:=by
     cases hp:π l with
     |none=>rw [hp] at hb;exact hb
     |some q=>rw [hp] at hb;exact hb
    exact hg.Fp (λ_ _ _ _ _=>rfl) λes x hc=>hc.but
   ·cases he
  ·cases he
end
end Go.Proofs.YtkkdpknjohcekaaGreat
