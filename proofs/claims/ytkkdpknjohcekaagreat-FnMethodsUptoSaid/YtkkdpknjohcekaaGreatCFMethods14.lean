/-
  Part 15 of the proof that the statement FnMethods holds.
-/
import Derived.Test.YtkkdpknjohcekaaGreatCFMethods13
namespace Go.Proofs.YtkkdpknjohcekaaGreat
open Go.RowKit
section
variable {P:Program} {T:Tab} {X:Ctx} {w w':World} {π π':Pi} {H H':List (Nat×OB)}
def full (r:Real):Real:= {r with cl:=r.Cw}
theorem Di.tm: ∀(τ:Ty) (F:List Nat) (es:List Value) (x:τ.den),τ.flat=true->Di w F τ es x->F= []
 | .int k,F,es,x,_,h=>h.1
 | .bool,F,es,x,_,h=>h.1
 | .str,F,es,x,_,h=>h.1
 | .unit,F,es,x,_,h=>h.1
 | .pair a r,F,es,x,hf,h=>by
  simp only [Ty.flat,Ah] at hf
  simp only [Di] at h
  obtain ⟨c1,c2,F1,F2,_,rfl,h1,h2⟩:=h
  rw [Di.tm a F1 c1 x.1 hf.1 h1,Di.tm r F2 c2 x.2 hf.2 h2]
  rfl
 | .slice _,_,_,_,hf,_=>by simp [Ty.flat] at hf
 | .oslice _,_,_,_,hf,_=>by simp [Ty.flat] at hf
 | .ptr _,_,_,_,hf,_=>by simp [Ty.flat] at hf
 | .optr _,_,_,_,hf,_=>by simp [Ty.flat] at hf
 | .smap _,_,_,_,hf,_=>by simp [Ty.flat] at hf
 | .clo _ _,_,_,_,hf,_=>by simp [Ty.flat] at hf
theorem nO {S P:Nat->Prop} {g o:Nat} {cur:Array Value} {e:Ty} {xs:List e.den} (hf:e.flat=true)
  (h: ∀(i:Nat) (x:e.den),xs[i]?=some x-> ∃es:List Value,es.length=e.size/\(∀j u,es[j]?=some u->cur[(o+i)*e.size+j]?=some u)/\Cells w S e es x):Ye w P g o cur e xs:=by
 refine ⟨List.replicate xs.length [],by simp,by simp,by simp,λi x F hx hF=>?_⟩
 obtain ⟨es,e1,e2,e3⟩:=h i x hx
 have:F= []:=Gr (Cn hF)
 subst this
 exact ⟨es,e1,e2,Yp e es x hf e3⟩
theorem Sk.PT {D:Nat->Prop} {r:Option Real} {e:Ty} {ys:List e.den} {u:Value} (h:Sk w D r e ys) (hf:e.flat=true) (hv:Ib r e.size 0 ys.length u):
  ∃F,Di w F (.slice e) [u] ys/\F.Nodup/\ ∀b∈F,∃r',r=some r'/\r'.Cw b:=by
 cases r with
 |none=>
  obtain ⟨rfl,_,_⟩:=hv
  have h:ys= []:=h
  subst h
  exact ⟨[],⟨none,0,0,rfl,rfl,Aq _, .inl ⟨rfl,rfl,rfl,rfl⟩⟩,Ob,λb hb=>by cases hb⟩
 |some r=>
  obtain ⟨h1,cur,ti,h2,h3,h4,h5,h6⟩:=h
  obtain ⟨F,f1,f2,f3⟩:=kS (P:=r.Cw) h2 h3 h4 (by omega) hv (nO hf h6) h1.1
  exact ⟨F,by simpa using f1,f2,λb hb=>⟨r,rfl,f3 b hb⟩⟩
theorem Pb.PT {r:Option Real} {e:Ty} {te:TypeId} {ys:List e.den} {u:Value} (h:Pb w r e te ys) (hv:Ib r e.size 0 ys.length u):
  ∃F,Di w F (.slice e) [u] ys/\F.Nodup/\ ∀b∈F,∃r',r=some r'/\r'.Cw b:=by
 cases r with
 |none=>
  obtain ⟨rfl,_,_⟩:=hv
  have h:ys= []:=h
  subst h
  exact ⟨[],⟨none,0,0,rfl,rfl,Aq _, .inl ⟨rfl,rfl,rfl,rfl⟩⟩,Ob,λb hb=>by cases hb⟩
 |some r=>
  obtain ⟨h1,cur,ti,h2,h3,h4,h5,h6⟩:=h
  obtain ⟨F,f1,f2,f3⟩:=kS (P:=r.Cw) h2 h3 h4 (by omega) hv h6 h1
  exact ⟨F,by simpa using f1,f2,λb hb=>⟨r,rfl,f3 b hb⟩⟩
theorem Di.row {F:List Nat} {e:Ty} {u:Value} {xs:List e.den} (h:Di w F (.slice e) [u] xs) (hn:F.Nodup):
  ∃r:Option Real,Ib r e.size 0 xs.length u/\(e.flat=true-> ∀D,Sk w D r e xs)/\(∀te,Pb w r e te xs)/\(∀r',r=some r'-> ∀b,r'.Cw b↔b∈F)/\(r=none->F= []):=by
 simp only [Di] at h
 obtain ⟨a,len,cap,e0,e1,e2,h⟩:=h
 simp only [Hq,bq] at e0
 subst e0
 rcases h with ⟨rfl,rfl,rfl,rfl⟩|⟨ad,g,o,Fs,rfl,ha,⟨cur,ti,o',s1,s2,s3,s4⟩,rfl,hl,Le⟩
 ·exact ⟨none,⟨by rw [e1];rfl,rfl,rfl⟩,λ_ _=>rfl,λ_=>rfl,(λr' h=>by cases h),λ_=>rfl⟩
 ·subst s2
  have jg: ∀(i:Nat) (x:e.den) (Fi:List Nat),xs[i]?=some x->Fs[i]?=some Fi-> ∃es:List Value,es.length=e.size/\(∀j u,es[j]?=some u->cur[(o'+i)*e.size+j]?=some u)/\Di w Fi e es x:=by
   intro i x Fi hx hF
   obtain ⟨es,k1,k2,k3⟩:=Le i x Fi hx hF
   refine ⟨es,k1,λj v hv=>?_,k3⟩
   have:=k2 j v hv
   rw [cellOf s1] at this
   rw [Dq];exact this
  refine ⟨some ⟨g,o',cap,(· ∈g::List.flatten Fs),(· ∈g::List.flatten Fs)⟩,⟨ad,by rw [e1];rfl,by dsimp only;omega,λh0=>by rw [ha h0];rfl⟩,λhf D=>⟨⟨by simp,λb hb=>?_⟩,cur,ti,s1,s3,s4,by rw [<-e1];exact e2,λi x hx=>?_⟩,
   fun te=>⟨by simp,cur,ti,s1,s3,s4,by rw [<-e1];exact e2,Fs,hl,hn,λb hb=>by simp [hb],jg⟩,λr' hr b=>by cases hr;exact Iff.rfl,λh=>by cases h⟩
  ·rcases Bb.1 hb with hb|hb
   ·exact hb
   ·obtain ⟨Fi,h1,h2⟩:=Ip.1 hb
    obtain ⟨i,hi,rfl⟩:=Ol h1
    obtain ⟨es,_,_,k3⟩:=jg i (xs[i]'(by omega)) _ (Ac _) (Ac hi)
    rw [Di.tm e _ _ _ hf k3] at h2
    cases h2
  ·have hi:i<Fs.length:=by have:=(Ao.1 hx).1;omega
   obtain ⟨es,k1,k2,k3⟩:=jg i x _ hx (Ac hi)
   exact ⟨es,k1,k2,Cells.flat e es x hf (Di.cells (S:= λ_=>False) _ e es x k3 λb hb=> λh=>h)⟩
theorem dd: ∀(Fs:List (List Nat)) (i:Nat) (Fi F':List Nat),(List.flatten Fs).Nodup->Fs[i]?=some Fi->F'.Nodup->(∀b∈F',b∈Fi)->(List.flatten (Fs.set i F')).Nodup/\ ∀b∈List.flatten (Fs.set i F'),b∈List.flatten Fs
 | [],i,Fi,F',_,h,_,_=>by simp at h
 |G::Fs,0,Fi,F',hn,h,sq,hs=>by
  simp only [Bx,Aa] at h;subst h
  simp only [List.set_cons_zero,Mb] at hn⊢
  obtain ⟨n1,n2,n3⟩:=Ef.1 hn
  refine ⟨Ef.2 ⟨sq,n2,λa ha b hb=>n3 a (hs a ha) b hb⟩,λb hb=>?_⟩
  rcases Ba.1 hb with hb|hb
  ·exact Bi _ (hs b hb)
  ·exact Ck _ hb
 |G::Fs,i+1,Fi,F',hn,h,sq,hs=>by
  simp only [Nh] at h
  simp only [List.set_cons_succ,Mb] at hn⊢
  obtain ⟨n1,n2,n3⟩:=Ef.1 hn
  obtain ⟨m1,m2⟩:=dd Fs i Fi F' n2 h sq hs
  refine ⟨Ef.2 ⟨n1,m1,λa ha b hb=>n3 a ha b (m2 b hb)⟩,λb hb=>?_⟩
  rcases Ba.1 hb with hb|hb
  ·exact Bi _ hb
  ·exact Ck _ (m2 b hb)
theorem lh: ∀(Fs:List (List Nat)) (i j:Nat) (Fi Fj:List Nat) (b:Nat),(List.flatten Fs).Nodup->Fs[i]?=some Fi->Fs[j]?=some Fj->b∈Fi->b∈Fj->i=j
 | [],i,j,Fi,Fj,b,_,h,_,_,_=>by simp at h
 |G::Fs,0,0,_,_,_,_,_,_,_,_=>rfl
 |G::Fs,0,j+1,Fi,Fj,b,hn,h1,h2,h3,h4=>by
  simp only [Bx,Aa,Nh] at h1 h2
  subst h1
  simp only [Mb] at hn
  exact absurd rfl ((Ef.1 hn).2.2 b h3 b (Ip.2 ⟨Fj,Cn h2,h4⟩))
 |G::Fs,i+1,0,Fi,Fj,b,hn,h1,h2,h3,h4=>by
  simp only [Bx,Aa,Nh] at h1 h2
  subst h2
  simp only [Mb] at hn
  exact absurd rfl ((Ef.1 hn).2.2 b h4 b (Ip.2 ⟨Fi,Cn h1,h3⟩))
 |G::Fs,i+1,j+1,Fi,Fj,b,hn,h1,h2,h3,h4=>by
  simp only [Nh] at h1 h2
  simp only [Mb] at hn
  rw [lh Fs i j Fi Fj b (Ef.1 hn).2.1 h1 h2 h3 h4]
def zb (w:World) (π:Pi) (l i:Nat) (e:Ty) (tid:TypeId) (xs:List (List e.den)) (u:Value) (r:Option Real):Prop:=
 ∃q,π l=some q/\(∀r',r=some r'-> ∀b,r'.Cw b->q.Cw b/\b≠q.g)/\
  ∀(w':World) (ys:List e.den),w.heap.size<=w'.heap.size->(∀b,b<w.heap.size->q.Cw b->(∀r',r=some r'-> ¬r'.Cw b)->w'.heap[b]?=w.heap[b]?)->
   (∃F',Di w' F' (.slice e) [u] ys/\F'.Nodup/\ ∀b∈F',∃r',r=some r'/\r'.Cw b)->Pb w' (some q) (.slice e) tid (xs.set i ys)
theorem JG (h:Nw X w π H) {l i c:Nat} {e:Ty} {tid:TypeId} {xs:List (List e.den)} {x:List e.den} {u:Value} (hl:Av H l=some (.Hs (.slice e) tid xs)) (hx:xs[i]?=some x) (hc:c=0)
  (hu:Iq X w π H (.sub l i c) u): ∃r,Ib r e.size 0 x.length u/\(e.flat=true-> ∀D,Sk w D r e x)/\(∀te,Pb w r e te x)/\zb w π l i e tid xs u r:=by
 subst hc
 obtain ⟨q,b0,sz0,n0,h1,qN,h2,h3,⟨h4,a,n,m,rfl⟩,h5⟩:=hu
 rw [hl] at h1;cases h1
 simp only [OB.gQ,Aa,Af] at qN
 obtain ⟨rfl,rfl⟩:=qN
 have hb:=(h.heap l).Sl hl
 simp only [Cl,Pb,h2] at hb
 obtain ⟨k1,cur,ti,k2,k3,k4,k5,Fs,t1,t2,t3,t4⟩:=hb
 have hi:i<Fs.length:=by have:=(Ao.1 hx).1;omega
 have hFi:Fs[i]?=some Fs[i]:=Ac hi
 obtain ⟨es,e1,e2,e3⟩:=t4 i x _ hx hFi
 have e1':es.length=1:=e1
 obtain ⟨v,rfl⟩:=En.1 e1'
 have hv:v= .slice a n m:=by
  have:=e2 0 v rfl
  rw [cellOf k2] at h5
  rw [this] at h5;exact Bd h5
 subst hv
 have hn2:=(Cg.1 t2).2
 have tR: ∀b∈Fs[i],b∈List.flatten Fs:= λb hb=>Ip.2 ⟨_,Am hi,hb⟩
 have hnF:(Fs[i]).Nodup:=hn2.sublist (by
  have:=hZ (List.singleton_sublist.2 (Am hi))
  simpa using this)
 obtain ⟨r,r1,r2,r3,r4,r5⟩:=Di.row e3 hnF
 refine ⟨r,r1,r2,r3,q,h2,λr' hr b hb=>?_,λw' ys hs hk ⟨F',f1,f2,f3⟩=>?_⟩
 ·have hb:=(r4 r' hr b).1 hb
  exact ⟨t3 b (tR b hb),λe=>(Cg.1 t2).1 (e▸tR b hb)⟩
 ·have hF': ∀b∈F',b∈Fs[i]:= λb hb=>by
   obtain ⟨r',g1,g2⟩:=f3 b hb
   exact (r4 r' g1 b).1 g2
  have RW:=dd Fs i _ F' hn2 hFi f2 hF'
  have hkg:w'.heap[q.g]?=w.heap[q.g]?:=hk q.g (He k2) k1 λr' hr hb=>(Cg.1 t2).1 (tR _ ((r4 r' hr _).1 hb))
  refine ⟨k1,cur,ti,hkg.trans k2,k3,k4,by simpa using k5,Fs.set i F',by simp [t1],Cg.2 ⟨λhm=>(Cg.1 t2).1 (RW.2 _ hm),RW.1⟩,λb hb=>t3 b (RW.2 b hb),λj y F hy hF=>?_⟩
  rw [Ex] at hy hF
  split at hy
  ·rename_i kA;subst kA
   rw [Ab rfl] at hF
   rw [Ab hi] at hF
   simp only [Aa] at hF
   have hy:ys=y:=by simpa [h3] using hy
   subst hy;subst hF
   exact ⟨[.slice a n m],rfl,e2,f1⟩
  ·rename_i kA
   rw [Ai kA] at hF
   obtain ⟨nE,g1,g2,g3⟩:=t4 j y F hy hF
   refine ⟨nE,g1,g2,g3.Gj _ _ _ _ hs λb hb=>?_⟩
   have ZY:b∈List.flatten Fs:=Ip.2 ⟨F,Cn hF,hb⟩
   exact hk b (g3.lt _ _ _ _ b hb) (t3 b ZY) λr' hr vT=>kA (lh Fs i j _ F b hn2 hFi hF ((r4 r' hr b).1 vT) hb)
def Ui (w:World) (π:Pi) (H:List (Nat×OB)) (io:Bool) (a:AC) (u:Value) (r:Option Real):(c:CK)->c.den->Prop
 | .Hw _,_=>r=none
 | .row e te,x=>match a with
  | .Mx=>r=none
  | .own l off len=>r=(π l).map full/\off=0/\len=List.length x/\ ∃fr tr,Av H l=some (.arr fr tr e te x)
  | .sub l i _=>(io=true/\e.flat=true)/\ ∃tid xs,Av H l=some (.Hs (.slice e) tid xs)/\xs[i]?=some x/\zb w π l i e tid xs u r
  |_=>False
 | .Iu e te,x=>match a with
  | .Mx=>r=none
  | .own l off len=>r=(π l).map full/\off=0/\len=List.length x/\Av H l=some (.Hs e te x)
  | .sub l i _=>io=true/\ ∃tid xs,Av H l=some (.Hs (.slice e) tid xs)/\xs[i]?=some x/\zb w π l i e tid xs u r
  |_=>False
 | .part e te,x=>e.flat=true/\match a with
  | .own l _ _=>r=(π l).map full/\io=true/\ ∃fr tr,Av H l=some (.arr fr tr e te x.1)
  |_=>False
 | .Bu e te _,x=>io=false/\match a with
  | .own l off len=>r=(π l).map full/\off=0/\len=List.length x/\ ∃kp,Av H l=some (.Bu e te x none kp)
  |_=>False
theorem ak {r:Option Real} {s off len:Nat} {v:Value} (h:Ib r s off len v):Ib (r.map full) s off len v:=by
 cases r<;>exact h
def Pq (X:Ctx) (π:Pi) (V:List Nat) (b:Nat):Prop:=(Vd π b/\ ∀l∈V,∀r,π l=some r-> ¬r.Cw b)\/X.Sc b
theorem Pq.not {V:List Nat} {b l:Nat} (hb:Pq X π V b) (h:Nw X w π H) (hl:l∈V) {r:Real} (hr:π l=some r) (hf:r.Cw b):False:=by
 rcases hb with hb|hb
 ·exact hb.2 l hl r hr hf
 ·have h1:=h.sc b hb
  rcases (h.own ⟨l,r,hr,hf⟩).2 with h2|h2
  ·omega
  ·exact h1.2 h2
theorem Pq.iM {V:List Nat} {b:Nat} {B:Nat} {fr:Bool} (hb:Pq X π V b):Dc B X.Sc π fr b:=hb.elim (λh=> .inl h.1) λh=> .inr (.inl h)
theorem PW {st:St} {ls:List Nat} (h:cE st ls=true) {l:Nat} (hl:l∈ls) {tid:TypeId} {vs:List AC} (hv:Av st.heap l=some (.var tid vs)):vs.all (·.settled)=true:=by
 have:=Bc.1 h l hl
 unfold St.at at this
 rw [hv] at this
 exact this
theorem Cells.but {V:List Nat} {f:Bool} {τ:Ty} {cs:List Value} {x:τ.den} (h:Cells w (Dc X.w0.heap.size X.Sc π f) τ cs x):Cells w (Pq X π V) τ cs x:=
 Cells.Gj (Aq _) (λ_ _ _=>rfl) (λ_ _ hk=>hk.iM) τ cs x h
theorem kf {st:St} (h:Nw X w π st.heap) {V:List Nat} {a:Ty} {l i:Nat} {fr:Bool} {x:a.den} (gO:cE st [l]=true) (hlV:l∈V) (hv:Vc st a l i=some (fr,x)) {r:Real} (hr:π l=some r):
  r.g<w.heap.size/\ ¬Pq X π V r.g/\ ∃es:List Value,es.length=a.size/\(∀j u,es[j]?=some u->w.cell? ⟨r.g,i+j,none⟩=some u)/\Cells w (Pq X π V) a es x:=by
 unfold Vc at hv
 split at hv
 ·rename_i tid vs hl
  unfold St.at at hl
  obtain ⟨r',h3,h4,cur,h5,h6⟩:=(h.heap l).Sl hl
  rw [hr] at h3;cases h3
  have hs:=PW gO (Ad.2 rfl) hl
  have xP:((vs.drop i).take a.size).all (·.settled)=true:=Bc.2 λc hc=>Bc.1 hs c (dU (De hc))
  have hc:=Xp a _ _ fr x xP (an h6 i a.size) hv
  refine ⟨He h5,λhb=>hb.not h hlV hr h4,_,Cells.len a _ x hc,λj u hu=>?_,hc.but⟩
  rw [cellOf h5]
  rw [Cv] at hu
  split at hu
  ·rw [Cz] at hu;simpa using hu
  ·cases hu
 ·cases hv
theorem JP {st:St} {l:Nat} {ls:List Nat} (h:cE st (l::ls)=true):cE st [l]=true/\cE st ls=true:=by
 simp only [cE,Jl,List.all_nil,Bool.and_true,Ah] at h⊢
 exact h
theorem CZ {st:St} (h:Nw X w π st.heap) {V:List Nat} : ∀(τ:Ty) (Ev:List (Nat×Nat)) (us:List Value) (fr:Bool) (x:τ.den),us.length=Ev.length->
  (∀(j:Nat) p,Ev[j]?=some p-> ∃r tid vs,Av st.heap p.1=some (.var tid vs)/\π p.1=some r/\us[j]?=some (.pointer (some ⟨r.g,p.2,none⟩)))->
  cE st (Ev.map (·.1))=true->(∀p∈Ev,p.1∈V)->Lz st τ Ev=some (fr,x)->Cells w (Pq X π V) τ us x:=by
 intro τ
 induction τ with
 |unit=>
  intro Ev us fr x hl hr _ _ hv
  cases Ev with
  |nil=>exact Cm hl
  |cons c cs=>simp [Lz] at hv
 |pair a r _ iw=>
  intro Ev us fr x hl hr gO hV hv
  cases a with
  |ptr a=>
   cases Ev with
   |nil=>simp [Lz] at hv
   |cons c cs=>
    obtain ⟨l,i⟩:=c
    simp only [Lz] at hv
    split at hv
    ·rename_i f1 y f2 z h1 h2
     simp only [Aa,Af] at hv
     obtain ⟨rfl,rfl⟩:=hv
     cases us with
     |nil=>simp at hl
     |cons u us=>
      obtain ⟨r0,tid,vs,h3,h4,h5⟩:=hr 0 (l,i) rfl
      simp only [Bx,Aa] at h5
      subst h5
      obtain ⟨ok1,ok2⟩:=JP gO
      obtain ⟨h6,h7,es,h8,h9,qN⟩:=kf h ok1 (hV _ (Lg ..)) h1 h4
      exact ⟨[_],us,rfl,⟨r0.g,i,rfl,h6,h7,es,h8,h9,qN⟩,iw cs us f2 z (by simpa using hl) (λj p hp=>hr (j+1) p hp) ok2 (λp hp=>hV p (Ap _ hp)) h2⟩
    ·cases hv
  |_=>cases Ev<;>simp [Lz] at hv
 |_=>intro Ev us fr x hl hr _ _ hv;cases Ev<;>simp [Lz] at hv
theorem XF {st:St} (h:Nw X w π st.heap) {V:List Nat} {io:Bool} {k:Nat} {c:CK} {a:AC} {u:Value} (hu:Iq X w π st.heap a u) {x:c.den} {tks:List (Nat×Loc)} (he:Na st io k c a=some (x,tks))
  (hV: ∀t∈tks,t.2.reads=true->t.2.Xu∈V): ∃r,fc w (Pq X π V) r u c x/\Ui w π st.heap io a u r c x:=by
 cases c with
 |Hw τ=>
  have own: ∀l off len,a= .own l off len-> ∃r,fc w (Pq X π V) r u (.Hw τ) x/\Ui w π st.heap io a u r (.Hw τ) x:=by
   intro l off len ea
   subst ea
   simp only [Na] at he
   cases hv:Ec st τ (.own l off len) with
   |none=>rw [hv] at he;cases he
   |some p=>
    obtain ⟨fr,y⟩:=p
    rw [hv] at he
    simp only [An,Aa,Af] at he
    obtain ⟨rfl,rfl⟩:=he
    have hlV:l∈V:=hV _ (Ad.2 rfl) rfl
    refine ⟨none,⟨rfl,?_⟩,rfl⟩
    cases τ<;>simp only [Ec] at hv<;>try (cases hv;done)
    rename_i e
    cases hl:st.at l with
    |none=>rw [hl] at hv;cases hv
    |some b=>
     rw [hl] at hv
     unfold St.at at hl
     cases b<;>(try simp only [] at hv)<;>try (cases hv;done)
     ·rename_i tq CY e0 tid xs
      split at hv
      ·rename_i hee;subst hee
       simp only [Aa,Af] at hv
       obtain ⟨_,rfl⟩:=hv
       obtain ⟨h1,h2⟩:=Po hu hl
       exact ⟨[u],pY h hl h1 h2 (λb hb ⟨r,hr,hf⟩=>hb.not h hlV hr hf) (λb _ hb=>hb.iM),rfl⟩
      ·cases hv
     ·rename_i e0 tid xs
      split at hv
      ·rename_i hee;subst hee
       simp only [Aa,Af] at hv
       obtain ⟨_,rfl⟩:=hv
       obtain ⟨h1,h2⟩:=ct hu hl
       exact ⟨[u],mZ h hl h1 h2 (λb hb ⟨r,hr,hf⟩=>hb.not h hlV hr hf),rfl⟩
      ·cases hv
     ·rename_i e0 te0 rows out kp
      cases out with
      |some i=>cases hv
      |none=>
       simp only [] at hv
       split at hv
       ·rename_i hee;subst hee
        simp only [Aa,Af] at hv
        obtain ⟨_,rfl⟩:=hv
        obtain ⟨h1,h2⟩:=oC hu hl
        exact ⟨[u],tz h hl h1 h2 (λb hb ⟨r,hr,hf⟩=>hb.not h hlV hr hf) (λb hb=>hb.iM),rfl⟩
       ·cases hv
  have Au1: ∀g Ev,a= .clo g Ev-> ∃r,fc w (Pq X π V) r u (.Hw τ) x/\Ui w π st.heap io a u r (.Hw τ) x:=by
   intro g Ev ea
   subst ea
   simp only [Na] at he
   split at he
   ·rename_i hc
    simp only [Ah,Fm] at hc
    obtain ⟨gO,Um⟩:=hc
    cases hv:Kw st τ (.clo g Ev) with
    |none=>rw [hv] at he;cases he
    |some p=>
     obtain ⟨fr,y⟩:=p
     rw [hv] at he
     simp only [An,Aa,Af] at he
     obtain ⟨rfl,rfl⟩:=he
     have hcV: ∀p∈Ev,p.1∈V:= λp hp=>hV (Ee false k, .view p.1) (Bf.2 ⟨p.1,Bf.2 ⟨p,hp,rfl⟩,rfl⟩) rfl
     obtain ⟨us,rfl,h2,h3⟩:=hu
     refine ⟨none,⟨rfl,Dg.om Um ?_⟩,rfl⟩
     cases τ<;>simp only [Kw] at hv<;>try (simp only [Ec,reduceCtorEq] at hv;done)
     rename_i f0 c0
     split at hv
     ·rename_i hg
      obtain ⟨rfl,Me⟩:=hg
      exact ⟨us,by rw [iS Me],CZ h c0 Ev us fr y h2 h3 gO hcV hv⟩
     ·cases hv
   ·cases he
  have hvp: ∀l i,a= .Ii l i-> ∃r,fc w (Pq X π V) r u (.Hw τ) x/\Ui w π st.heap io a u r (.Hw τ) x:=by
   intro l i ea
   subst ea
   simp only [Na] at he
   split at he
   ·rename_i hc
    simp only [Ah,Fm] at hc
    obtain ⟨gO,Um⟩:=hc
    cases hv:Kw st τ (.Ii l i) with
    |none=>rw [hv] at he;cases he
    |some p=>
     obtain ⟨fr,y⟩:=p
     rw [hv] at he
     simp only [An,Aa,Af] at he
     obtain ⟨rfl,rfl⟩:=he
     have hlV:l∈V:=hV (Ee false k, .view l) (Bf.2 ⟨l,Ad.2 rfl,rfl⟩) rfl
     obtain ⟨r,tid,vs,h1,h2,rfl⟩:=hu
     refine ⟨none,⟨rfl,Dg.om Um ?_⟩,rfl⟩
     cases τ<;>simp only [Kw] at hv<;>try (simp only [Ec,reduceCtorEq] at hv;done)
     ·obtain ⟨h6,h7,h8⟩:=kf h gO hlV hv h2
      exact ⟨r.g,i,rfl,h6,h7,h8⟩
     ·rename_i a
      cases hp:Vc st a l i with
      |none=>rw [hp] at hv;cases hv
      |some p=>
       rw [hp] at hv
       simp only [An,Aa,Af] at hv
       obtain ⟨_,rfl⟩:=hv
       obtain ⟨h6,h7,h8⟩:=kf h gO hlV hp h2
       exact .inr ⟨_,r.g,i,rfl,rfl,h6,h7,h8⟩
   ·cases he
  have Yr: ∀l i c,a= .sub l i c-> ∃r,fc w (Pq X π V) r u (.Hw τ) x/\Ui w π st.heap io a u r (.Hw τ) x:=by
   intro l i c ea
   subst ea
   simp only [Na] at he
   cases hv:Ec st τ (.sub l i c) with
   |none=>rw [hv] at he;cases he
   |some p=>
    obtain ⟨fr,y⟩:=p
    rw [hv] at he
    simp only [An,Aa,Af] at he
    obtain ⟨rfl,rfl⟩:=he
    have hlV:l∈V:=hV _ (Ad.2 rfl) rfl
    refine ⟨none,⟨rfl,?_⟩,rfl⟩
    cases τ<;>simp only [Ec] at hv<;>try (cases hv;done)
    rename_i e
    cases hl:st.at l with
    |none=>rw [hl] at hv;cases hv
    |some b=>
     rw [hl] at hv
     unfold St.at at hl
     cases b<;>(try simp only [] at hv)<;>try (cases hv;done)
     rename_i e0 te0 rows out kp
     cases out with
     |some i=>cases hv
     |none=>
      simp only [] at hv
      split at hv
      ·rename_i hee;subst hee
       simp only [Aa,Af] at hv
       obtain ⟨_,rfl⟩:=hv
       exact ⟨[u],tA h hl (FR hu hl) hu (λb hb ⟨r,hr,hf⟩=>hb.not h hlV hr hf) (λb hb=>hb.iM),rfl⟩
      ·cases hv
  by_cases SF: ∃l i c,a= .sub l i c
  ·obtain ⟨l,i,c,ea⟩:=SF;exact Yr l i c ea
  by_cases Ahp: ∃g Ev,a= .clo g Ev
  ·obtain ⟨g,Ev,ea⟩:=Ahp;exact Au1 g Ev ea
  by_cases Ap4: ∃l i,a= .Ii l i
  ·obtain ⟨l,i,ea⟩:=Ap4;exact hvp l i ea
  by_cases eC: ∃l off len,a= .own l off len
  ·obtain ⟨l,off,len,ea⟩:=eC;exact own l off len ea
  have he:(if τ.flat||a.settled then (Ec st τ a).map λp=>(p.2,([]:List (Nat×Loc))) else none)=some (x,tks):=by
   cases a<;>first|exact he|exact absurd ⟨_,_,_,rfl⟩ eC|exact absurd ⟨_,_,rfl⟩ Ahp|exact absurd ⟨_,_,rfl⟩ Ap4|exact absurd ⟨_,_,_,rfl⟩ SF
  split at he
  ·rename_i hc
   cases hv:Ec st τ a with
   |none=>rw [hv] at he;cases he
   |some p=>
    obtain ⟨fr,y⟩:=p
    rw [hv] at he
    simp only [An,Aa,Af] at he
    obtain ⟨rfl,rfl⟩:=he
    refine ⟨none,⟨rfl,?_⟩,rfl⟩
    have Jv: ∀f,Dg w (Dc X.w0.heap.size X.Sc π f) τ u y->Dg w (Pq X π V) τ u y:= λf hr=>hr.Jv λk _ hk=>hk.iM
    cases a with
    |data f Pj z=>
     rw [Oy] at hv
     split at hv
     ·rename_i ht;subst ht
      simp only [Aa,Af] at hv
      obtain ⟨_,rfl⟩:=hv
      exact Jv f hu
     ·have Qj:τ.Ar=false:=by unfold iW at hv;split at hv<;>first|rfl|cases hv
      exact Jv _ ⟨[u],dB hv hu,by simp [Ce,Qj]⟩
    |Mx=>
     have hu:u= .slice none 0 0:=hu
     subst hu
     cases τ<;>simp only [Ec,Aa,Af,reduceCtorEq] at hv
     ·obtain ⟨_,rfl⟩:=hv;exact ⟨[_],⟨none,0,0,rfl,rfl,Aq _, .inl rfl⟩,rfl⟩
     ·obtain ⟨_,rfl⟩:=hv;exact ⟨[_], .inl ⟨rfl,0,rfl⟩,rfl⟩
    |Wh=>
     have hu:u= .pointer none:=hu
     subst hu
     cases τ<;>simp only [Ec,Aa,Af,reduceCtorEq] at hv
     obtain ⟨_,rfl⟩:=hv;exact ⟨[_], .inl ⟨rfl,rfl⟩,rfl⟩
    |_=>cases τ<;>simp [AC.settled,Ty.flat,Ec] at hc hv
  ·cases he
 |row e te=>
  cases a<;>simp only [Na] at he<;>try (cases he;done)
  ·simp only [Aa,Af] at he
   obtain ⟨rfl,rfl⟩:=he
   have hu:u= .slice none 0 0:=hu
   exact ⟨none,⟨⟨hu,rfl,rfl⟩,rfl⟩,rfl⟩
  ·rename_i l off len
   split at he
   ·rename_i fr tr e' Se xs hl
    split at he
    ·rename_i hc
     obtain ⟨rfl,rfl,rfl,rfl⟩:=hc
     simp only [Aa,Af] at he
     obtain ⟨rfl,rfl⟩:=he
     unfold St.at at hl
     obtain ⟨_,h2⟩:=Po hu hl
     refine ⟨(π l).map full,⟨ak h2,?_⟩,rfl,rfl,rfl,fr,tr,hl⟩
     have hb:=(h.heap l).Sl hl
     simp only [Cl,Kz] at hb
     cases hp:π l with
     |none=>rw [hp] at hb;exact hb
     |some q=>
      rw [hp] at hb
      obtain ⟨k1,cur,ti,k2,k3,k4,k5,k6,_⟩:=hb
      refine ⟨⟨k1.1,k1.2.1⟩,cur,ti,k2,k3,k4,k5,λi y hy=>?_⟩
      obtain ⟨es,g1,g2,g3⟩:=k6 i y hy
      exact ⟨es,g1,g2,Cells.Gj (Aq _) (λ_ _ _=>rfl) (λ_ _ hk=>hk.iM) e' es y g3⟩
    ·cases he
   ·cases he
  ·rename_i l i c
   split at he
   ·rename_i e' tid xs hl
    split at he
    ·rename_i hc
     obtain ⟨rfl,hf,zH,kV⟩:=hc
     cases hx:xs[i]? with
     |none=>rw [hx] at he;cases he
     |some y=>
      rw [hx] at he
      simp only [An,Aa,Af] at he
      obtain ⟨rfl,rfl⟩:=he
      unfold St.at at hl
      obtain ⟨r,r1,r2,_,r4⟩:=JG h hl hx kV hu
      exact ⟨r,⟨r1,r2 hf _⟩,⟨zH,hf⟩,tid,xs,hl,hx,r4⟩
    ·cases he
   ·cases he
 |Iu e te=>
  cases a<;>simp only [Na] at he<;>try (cases he;done)
  ·simp only [Aa,Af] at he
   obtain ⟨rfl,rfl⟩:=he
   have hu:u= .slice none 0 0:=hu
   exact ⟨none,⟨⟨hu,rfl,rfl⟩,rfl⟩,rfl⟩
  ·rename_i l off len
   split at he
   ·rename_i e' Se xs hl
    split at he
    ·rename_i hc
     obtain ⟨rfl,rfl,rfl,rfl⟩:=hc
     simp only [Aa,Af] at he
     obtain ⟨rfl,rfl⟩:=he
     unfold St.at at hl
     obtain ⟨_,h2⟩:=ct hu hl
     refine ⟨(π l).map full,⟨ak h2,?_⟩,rfl,rfl,rfl,hl⟩
     have hb:=(h.heap l).Sl hl
     simp only [Cl] at hb
     cases hp:π l with
     |none=>rw [hp] at hb;exact hb
     |some q=>rw [hp] at hb;exact hb
    ·cases he
   ·cases he
  ·rename_i l i c
   split at he
   ·rename_i e' tid xs hl
    split at he
    ·rename_i hc
     obtain ⟨rfl,zH,kV⟩:=hc
     cases hx:xs[i]? with
     |none=>rw [hx] at he;cases he
     |some y=>
      rw [hx] at he
      simp only [An,Aa,Af] at he
      obtain ⟨rfl,rfl⟩:=he
      unfold St.at at hl
      obtain ⟨r,r1,_,r3,r4⟩:=JG h hl hx kV hu
      exact ⟨r,⟨r1,r3 te⟩,zH,tid,xs,hl,hx,r4⟩
    ·cases he
   ·cases he
 |part e te=>
  cases a<;>simp only [Na] at he<;>try (cases he;done)
  rename_i l off len
  split at he
  ·rename_i fr tr e' Se xs hl
   split at he
   ·rename_i hc
    obtain ⟨rfl,rfl,hf,zH⟩:=hc
    simp only [Aa,Af] at he
    obtain ⟨rfl,rfl⟩:=he
    unfold St.at at hl
    obtain ⟨h1,h2⟩:=Po hu hl
    refine ⟨(π l).map full,⟨⟨ak h2,h1⟩,hf,?_⟩,hf,rfl,zH,fr,tr,hl⟩
    have hb:=(h.heap l).Sl hl
    simp only [Cl,Kz] at hb
    cases hp:π l with
    |none=>rw [hp] at hb;exact hb
    |some q=>
     rw [hp] at hb
     obtain ⟨k1,cur,ti,k2,k3,k4,k5,k6,_⟩:=hb
     refine ⟨⟨k1.1,k1.2.1⟩,cur,ti,k2,k3,k4,k5,λi y hy=>?_⟩
     obtain ⟨es,g1,g2,g3⟩:=k6 i y hy
     exact ⟨es,g1,g2,Cells.flat e' es y hf g3⟩
   ·cases he
  ·cases he
 |Bu e te kp=>
  cases a<;>simp only [Na] at he<;>try (cases he;done)
  rename_i l off len
  split at he
  ·rename_i e' Se rows kp' hl
   split at he
   ·rename_i hc
    obtain ⟨rfl,rfl,rfl,rfl,zH⟩:=hc
    simp only [Aa,Af] at he
    obtain ⟨rfl,rfl⟩:=he
    unfold St.at at hl
    obtain ⟨h1,h2⟩:=oC hu hl
    refine ⟨(π l).map full,⟨ak h2,?_⟩,zH,rfl,rfl,rfl,kp',hl⟩
    have hb:=(h.heap l).Sl hl
    simp only [Cl] at hb
    have hb:=hb.1
    have hg:aK w (Dc X.w0.heap.size X.Sc π false) ((π l).map full) e' rows none:=by
     cases hp:π l with
     |none=>rw [hp] at hb;exact hb
     |some q=>rw [hp] at hb;exact hb
    exact hg.Gj (λ_ _ _ _ _=>rfl) λes x hc=>hc.but
   ·cases he
  ·cases he
end
end Go.Proofs.YtkkdpknjohcekaaGreat
