/-
  Part 15 of the proof that the statement FnTwoPhase holds.
-/
import Derived.Test.YtkkdpknjohcekaaCFTwoPhase13
namespace Go.Proofs.Ytkkdpknjohcekaa
open Go.RowKit
section
variable {P:Program} {T:Tab} {X:Ctx} {w w':World} {π π':Pi} {H H':List (Nat×OB)}
def full (r:Real):Real:= {r with cl:=r.Da}
theorem Dj.sZ: ∀(τ:Ty) (F:List Nat) (es:List Value) (x:τ.den),τ.flat=true->Dj w F τ es x->F= []
 | .int k,F,es,x,_,h=>h.1
 | .bool,F,es,x,_,h=>h.1
 | .str,F,es,x,_,h=>h.1
 | .unit,F,es,x,_,h=>h.1
 | .pair a r,F,es,x,hf,h=>by
  simp only [Ty.flat,Aj] at hf
  simp only [Dj] at h
  obtain ⟨c1,c2,F1,F2,_,rfl,h1,h2⟩:=h
  rw [Dj.sZ a F1 c1 x.1 hf.1 h1,Dj.sZ r F2 c2 x.2 hf.2 h2]
  rfl
 | .slice _,_,_,_,hf,_=>by simp [Ty.flat] at hf
 | .oslice _,_,_,_,hf,_=>by simp [Ty.flat] at hf
 | .ptr _,_,_,_,hf,_=>by simp [Ty.flat] at hf
 | .optr _,_,_,_,hf,_=>by simp [Ty.flat] at hf
 | .smap _,_,_,_,hf,_=>by simp [Ty.flat] at hf
 | .clo _ _,_,_,_,hf,_=>by simp [Ty.flat] at hf
theorem nL {S P:Nat->Prop} {g o:Nat} {cur:Array Value} {e:Ty} {xs:List e.den} (hf:e.flat=true)
  (h: ∀(i:Nat) (x:e.den),xs[i]?=some x-> ∃es:List Value,es.length=e.size/\(∀j u,es[j]?=some u->cur[(o+i)*e.size+j]?=some u)/\Cells w S e es x):Xy w P g o cur e xs:=by
 refine ⟨List.replicate xs.length [],by simp,by simp,by simp,λi x F hx hF=>?_⟩
 obtain ⟨es,e1,e2,e3⟩:=h i x hx
 have:F= []:=Gc (Cq hF)
 subst this
 exact ⟨es,e1,e2,Yi e es x hf e3⟩
theorem Ti.OZ {D:Nat->Prop} {r:Option Real} {e:Ty} {ys:List e.den} {u:Value} (h:Ti w D r e ys) (hf:e.flat=true) (hv:Ig r e.size 0 ys.length u):
  ∃F,Dj w F (.slice e) [u] ys/\F.Nodup/\ ∀b∈F,∃r',r=some r'/\r'.Da b:=by
 cases r with
 |none=>
  obtain ⟨rfl,_,_⟩:=hv
  have h:ys= []:=h
  subst h
  exact ⟨[],⟨none,0,0,rfl,rfl,Aq _, .inl ⟨rfl,rfl,rfl,rfl⟩⟩,Mc,λb hb=>by cases hb⟩
 |some r=>
  obtain ⟨h1,cur,ti,h2,h3,h4,h5,h6⟩:=h
  obtain ⟨F,f1,f2,f3⟩:=kI (P:=r.Da) h2 h3 h4 (by omega) hv (nL hf h6) h1.1
  exact ⟨F,by simpa using f1,f2,λb hb=>⟨r,rfl,f3 b hb⟩⟩
theorem Om.OZ {r:Option Real} {e:Ty} {te:TypeId} {ys:List e.den} {u:Value} (h:Om w r e te ys) (hv:Ig r e.size 0 ys.length u):
  ∃F,Dj w F (.slice e) [u] ys/\F.Nodup/\ ∀b∈F,∃r',r=some r'/\r'.Da b:=by
 cases r with
 |none=>
  obtain ⟨rfl,_,_⟩:=hv
  have h:ys= []:=h
  subst h
  exact ⟨[],⟨none,0,0,rfl,rfl,Aq _, .inl ⟨rfl,rfl,rfl,rfl⟩⟩,Mc,λb hb=>by cases hb⟩
 |some r=>
  obtain ⟨h1,cur,ti,h2,h3,h4,h5,h6⟩:=h
  obtain ⟨F,f1,f2,f3⟩:=kI (P:=r.Da) h2 h3 h4 (by omega) hv h6 h1
  exact ⟨F,by simpa using f1,f2,λb hb=>⟨r,rfl,f3 b hb⟩⟩
theorem Dj.row {F:List Nat} {e:Ty} {u:Value} {xs:List e.den} (h:Dj w F (.slice e) [u] xs) (hn:F.Nodup):
  ∃r:Option Real,Ig r e.size 0 xs.length u/\(e.flat=true-> ∀D,Ti w D r e xs)/\(∀te,Om w r e te xs)/\(∀r',r=some r'-> ∀b,r'.Da b↔b∈F)/\(r=none->F= []):=by
 simp only [Dj] at h
 obtain ⟨a,len,cap,e0,e1,e2,h⟩:=h
 simp only [Ha,bm] at e0
 subst e0
 rcases h with ⟨rfl,rfl,rfl,rfl⟩|⟨ad,g,o,Fs,rfl,ha,⟨cur,ti,o',s1,s2,s3,s4⟩,rfl,hl,Ly⟩
 ·exact ⟨none,⟨by rw [e1];rfl,rfl,rfl⟩,λ_ _=>rfl,λ_=>rfl,(λr' h=>by cases h),λ_=>rfl⟩
 ·subst s2
  have ll: ∀(i:Nat) (x:e.den) (Fi:List Nat),xs[i]?=some x->Fs[i]?=some Fi-> ∃es:List Value,es.length=e.size/\(∀j u,es[j]?=some u->cur[(o'+i)*e.size+j]?=some u)/\Dj w Fi e es x:=by
   intro i x Fi hx hF
   obtain ⟨es,k1,k2,k3⟩:=Ly i x Fi hx hF
   refine ⟨es,k1,λj v hv=>?_,k3⟩
   have:=k2 j v hv
   rw [cellOf s1] at this
   rw [Dq];exact this
  refine ⟨some ⟨g,o',cap,(· ∈g::List.flatten Fs),(· ∈g::List.flatten Fs)⟩,⟨ad,by rw [e1];rfl,by dsimp only;omega,λh0=>by rw [ha h0];rfl⟩,λhf D=>⟨⟨by simp,λb hb=>?_⟩,cur,ti,s1,s3,s4,by rw [<-e1];exact e2,λi x hx=>?_⟩,
   fun te=>⟨by simp,cur,ti,s1,s3,s4,by rw [<-e1];exact e2,Fs,hl,hn,λb hb=>by simp [hb],ll⟩,λr' hr b=>by cases hr;exact Iff.rfl,λh=>by cases h⟩
  ·rcases Bb.1 hb with hb|hb
   ·exact hb
   ·obtain ⟨Fi,h1,h2⟩:=Ht.1 hb
    obtain ⟨i,hi,rfl⟩:=Nw h1
    obtain ⟨es,_,_,k3⟩:=ll i (xs[i]'(by omega)) _ (Ad _) (Ad hi)
    rw [Dj.sZ e _ _ _ hf k3] at h2
    cases h2
  ·have hi:i<Fs.length:=by have:=(Ap.1 hx).1;omega
   obtain ⟨es,k1,k2,k3⟩:=ll i x _ hx (Ad hi)
   exact ⟨es,k1,k2,Cells.flat e es x hf (Dj.cells (S:= λ_=>False) _ e es x k3 λb hb=> λh=>h)⟩
theorem cU: ∀(Fs:List (List Nat)) (i:Nat) (Fi F':List Nat),(List.flatten Fs).Nodup->Fs[i]?=some Fi->F'.Nodup->(∀b∈F',b∈Fi)->(List.flatten (Fs.set i F')).Nodup/\ ∀b∈List.flatten (Fs.set i F'),b∈List.flatten Fs
 | [],i,Fi,F',_,h,_,_=>by simp at h
 |G::Fs,0,Fi,F',hn,h,lp,hs=>by
  simp only [Bz,Aa] at h;subst h
  simp only [List.set_cons_zero,Ls] at hn⊢
  obtain ⟨n1,n2,n3⟩:=Dz.1 hn
  refine ⟨Dz.2 ⟨lp,n2,λa ha b hb=>n3 a (hs a ha) b hb⟩,λb hb=>?_⟩
  rcases Az.1 hb with hb|hb
  ·exact Bj _ (hs b hb)
  ·exact Cn _ hb
 |G::Fs,i+1,Fi,F',hn,h,lp,hs=>by
  simp only [Kk] at h
  simp only [List.set_cons_succ,Ls] at hn⊢
  obtain ⟨n1,n2,n3⟩:=Dz.1 hn
  obtain ⟨m1,m2⟩:=cU Fs i Fi F' n2 h lp hs
  refine ⟨Dz.2 ⟨n1,m1,λa ha b hb=>n3 a ha b (m2 b hb)⟩,λb hb=>?_⟩
  rcases Az.1 hb with hb|hb
  ·exact Bj _ hb
  ·exact Cn _ (m2 b hb)
theorem ld: ∀(Fs:List (List Nat)) (i j:Nat) (Fi Fj:List Nat) (b:Nat),(List.flatten Fs).Nodup->Fs[i]?=some Fi->Fs[j]?=some Fj->b∈Fi->b∈Fj->i=j
 | [],i,j,Fi,Fj,b,_,h,_,_,_=>by simp at h
 |G::Fs,0,0,_,_,_,_,_,_,_,_=>rfl
 |G::Fs,0,j+1,Fi,Fj,b,hn,h1,h2,h3,h4=>by
  simp only [Bz,Aa,Kk] at h1 h2
  subst h1
  simp only [Ls] at hn
  exact absurd rfl ((Dz.1 hn).2.2 b h3 b (Ht.2 ⟨Fj,Cq h2,h4⟩))
 |G::Fs,i+1,0,Fi,Fj,b,hn,h1,h2,h3,h4=>by
  simp only [Bz,Aa,Kk] at h1 h2
  subst h2
  simp only [Ls] at hn
  exact absurd rfl ((Dz.1 hn).2.2 b h4 b (Ht.2 ⟨Fi,Cq h1,h3⟩))
 |G::Fs,i+1,j+1,Fi,Fj,b,hn,h1,h2,h3,h4=>by
  simp only [Kk] at h1 h2
  simp only [Ls] at hn
  rw [ld Fs i j Fi Fj b (Dz.1 hn).2.1 h1 h2 h3 h4]
def yJ (w:World) (π:Pi) (l i:Nat) (e:Ty) (tid:TypeId) (xs:List (List e.den)) (u:Value) (r:Option Real):Prop:=
 ∃q,π l=some q/\(∀r',r=some r'-> ∀b,r'.Da b->q.Da b/\b≠q.g)/\
  ∀(w':World) (ys:List e.den),w.heap.size<=w'.heap.size->(∀b,b<w.heap.size->q.Da b->(∀r',r=some r'-> ¬r'.Da b)->w'.heap[b]?=w.heap[b]?)->
   (∃F',Dj w' F' (.slice e) [u] ys/\F'.Nodup/\ ∀b∈F',∃r',r=some r'/\r'.Da b)->Om w' (some q) (.slice e) tid (xs.set i ys)
theorem IQ (h:Nk X w π H) {l i c:Nat} {e:Ty} {tid:TypeId} {xs:List (List e.den)} {x:List e.den} {u:Value} (hl:Ay H l=some (.Hc (.slice e) tid xs)) (hx:xs[i]?=some x) (hc:c=0)
  (hu:Hu X w π H (.sub l i c) u): ∃r,Ig r e.size 0 x.length u/\(e.flat=true-> ∀D,Ti w D r e x)/\(∀te,Om w r e te x)/\yJ w π l i e tid xs u r:=by
 subst hc
 obtain ⟨q,b0,sz0,n0,h1,qt,h2,h3,⟨h4,a,n,m,rfl⟩,h5⟩:=hu
 rw [hl] at h1;cases h1
 simp only [OB.gJ,Aa,Ag] at qt
 obtain ⟨rfl,rfl⟩:=qt
 have hb:=(h.heap l).Ru hl
 simp only [Co,Om,h2] at hb
 obtain ⟨k1,cur,ti,k2,k3,k4,k5,Fs,t1,t2,t3,t4⟩:=hb
 have hi:i<Fs.length:=by have:=(Ap.1 hx).1;omega
 have hFi:Fs[i]?=some Fs[i]:=Ad hi
 obtain ⟨es,e1,e2,e3⟩:=t4 i x _ hx hFi
 have e1':es.length=1:=e1
 obtain ⟨v,rfl⟩:=Es.1 e1'
 have hv:v= .slice a n m:=by
  have:=e2 0 v rfl
  rw [cellOf k2] at h5
  rw [this] at h5;exact Bd h5
 subst hv
 have hn2:=(Cm.1 t2).2
 have tA: ∀b∈Fs[i],b∈List.flatten Fs:= λb hb=>Ht.2 ⟨_,Am hi,hb⟩
 have hnF:(Fs[i]).Nodup:=hn2.sublist (by
  have:=gV (List.singleton_sublist.2 (Am hi))
  simpa using this)
 obtain ⟨r,r1,r2,r3,r4,r5⟩:=Dj.row e3 hnF
 refine ⟨r,r1,r2,r3,q,h2,λr' hr b hb=>?_,λw' ys hs hk ⟨F',f1,f2,f3⟩=>?_⟩
 ·have hb:=(r4 r' hr b).1 hb
  exact ⟨t3 b (tA b hb),λe=>(Cm.1 t2).1 (e▸tA b hb)⟩
 ·have hF': ∀b∈F',b∈Fs[i]:= λb hb=>by
   obtain ⟨r',g1,g2⟩:=f3 b hb
   exact (r4 r' g1 b).1 g2
  have QV:=cU Fs i _ F' hn2 hFi f2 hF'
  have hkg:w'.heap[q.g]?=w.heap[q.g]?:=hk q.g (Gp k2) k1 λr' hr hb=>(Cm.1 t2).1 (tA _ ((r4 r' hr _).1 hb))
  refine ⟨k1,cur,ti,hkg.trans k2,k3,k4,by simpa using k5,Fs.set i F',by simp [t1],Cm.2 ⟨λhm=>(Cm.1 t2).1 (QV.2 _ hm),QV.1⟩,λb hb=>t3 b (QV.2 b hb),λj y F hy hF=>?_⟩
  rw [Ei] at hy hF
  split at hy
  ·rename_i eX;subst eX
   rw [Ab rfl] at hF
   rw [Ab hi] at hF
   simp only [Aa] at hF
   have hy:ys=y:=by simpa [h3] using hy
   subst hy;subst hF
   exact ⟨[.slice a n m],rfl,e2,f1⟩
  ·rename_i eX
   rw [Ai eX] at hF
   obtain ⟨nA,g1,g2,g3⟩:=t4 j y F hy hF
   refine ⟨nA,g1,g2,g3.Fz _ _ _ _ hs λb hb=>?_⟩
   have ZG:b∈List.flatten Fs:=Ht.2 ⟨F,Cq hF,hb⟩
   exact hk b (g3.lt _ _ _ _ b hb) (t3 b ZG) λr' hr se=>eX (ld Fs i j _ F b hn2 hFi hF ((r4 r' hr b).1 se) hb)
def Ua (w:World) (π:Pi) (H:List (Nat×OB)) (io:Bool) (a:AC) (u:Value) (r:Option Real):(c:CK)->c.den->Prop
 | .Gw _,_=>r=none
 | .row e te,x=>match a with
  | .Mj=>r=none
  | .own l off len=>r=(π l).map full/\off=0/\len=List.length x/\ ∃fr tr,Ay H l=some (.arr fr tr e te x)
  | .sub l i _=>(io=true/\e.flat=true)/\ ∃tid xs,Ay H l=some (.Hc (.slice e) tid xs)/\xs[i]?=some x/\yJ w π l i e tid xs u r
  |_=>False
 | .Ie e te,x=>match a with
  | .Mj=>r=none
  | .own l off len=>r=(π l).map full/\off=0/\len=List.length x/\Ay H l=some (.Hc e te x)
  | .sub l i _=>io=true/\ ∃tid xs,Ay H l=some (.Hc (.slice e) tid xs)/\xs[i]?=some x/\yJ w π l i e tid xs u r
  |_=>False
 | .part e te,x=>e.flat=true/\match a with
  | .own l _ _=>r=(π l).map full/\io=true/\ ∃fr tr,Ay H l=some (.arr fr tr e te x.1)
  |_=>False
 | .Bu e te _,x=>io=false/\match a with
  | .own l off len=>r=(π l).map full/\off=0/\len=List.length x/\ ∃kp,Ay H l=some (.Bu e te x none kp)
  |_=>False
theorem aa {r:Option Real} {s off len:Nat} {v:Value} (h:Ig r s off len v):Ig (r.map full) s off len v:=by
 cases r<;>exact h
def Pf (X:Ctx) (π:Pi) (V:List Nat) (b:Nat):Prop:=(Wf π b/\ ∀l∈V,∀r,π l=some r-> ¬r.Da b)\/X.Sc b
theorem Pf.not {V:List Nat} {b l:Nat} (hb:Pf X π V b) (h:Nk X w π H) (hl:l∈V) {r:Real} (hr:π l=some r) (hf:r.Da b):False:=by
 rcases hb with hb|hb
 ·exact hb.2 l hl r hr hf
 ·have h1:=h.sc b hb
  rcases (h.own ⟨l,r,hr,hf⟩).2 with h2|h2
  ·omega
  ·exact h1.2 h2
theorem Pf.iz {V:List Nat} {b:Nat} {B:Nat} {fr:Bool} (hb:Pf X π V b):Df B X.Sc π fr b:=hb.elim (λh=> .inl h.1) λh=> .inr (.inl h)
theorem PD {st:St} {ls:List Nat} (h:cr st ls=true) {l:Nat} (hl:l∈ls) {tid:TypeId} {vs:List AC} (hv:Ay st.heap l=some (.var tid vs)):vs.all (·.settled)=true:=by
 have:=Bg.1 h l hl
 unfold St.at at this
 rw [hv] at this
 exact this
theorem Cells.but {V:List Nat} {f:Bool} {τ:Ty} {cs:List Value} {x:τ.den} (h:Cells w (Df X.w0.heap.size X.Sc π f) τ cs x):Cells w (Pf X π V) τ cs x:=
 Cells.Fz (Aq _) (λ_ _ _=>rfl) (λ_ _ hk=>hk.iz) τ cs x h
theorem jW {st:St} (h:Nk X w π st.heap) {V:List Nat} {a:Ty} {l i:Nat} {fr:Bool} {x:a.den} (mW:cr st [l]=true) (hlV:l∈V) (hv:Uz st a l i=some (fr,x)) {r:Real} (hr:π l=some r):
  r.g<w.heap.size/\ ¬Pf X π V r.g/\ ∃es:List Value,es.length=a.size/\(∀j u,es[j]?=some u->w.cell? ⟨r.g,i+j,none⟩=some u)/\Cells w (Pf X π V) a es x:=by
 unfold Uz at hv
 split at hv
 ·rename_i tid vs hl
  unfold St.at at hl
  obtain ⟨r',h3,h4,cur,h5,h6⟩:=(h.heap l).Ru hl
  rw [hr] at h3;cases h3
  have hs:=PD mW (Af.2 rfl) hl
  have CZ:((vs.drop i).take a.size).all (·.settled)=true:=Bg.2 λc hc=>Bg.1 hs c (dQ (Gf hc))
  have hc:=Xi a _ _ fr x CZ (ae h6 i a.size) hv
  refine ⟨Gp h5,λhb=>hb.not h hlV hr h4,_,Cells.len a _ x hc,λj u hu=>?_,hc.but⟩
  rw [cellOf h5]
  rw [Db] at hu
  split at hu
  ·rw [Cs] at hu;simpa using hu
  ·cases hu
 ·cases hv
theorem JC {st:St} {l:Nat} {ls:List Nat} (h:cr st (l::ls)=true):cr st [l]=true/\cr st ls=true:=by
 simp only [cr,Jw,List.all_nil,Bool.and_true,Aj] at h⊢
 exact h
theorem CH {st:St} (h:Nk X w π st.heap) {V:List Nat} : ∀(τ:Ty) (Ew:List (Nat×Nat)) (us:List Value) (fr:Bool) (x:τ.den),us.length=Ew.length->
  (∀(j:Nat) p,Ew[j]?=some p-> ∃r tid vs,Ay st.heap p.1=some (.var tid vs)/\π p.1=some r/\us[j]?=some (.pointer (some ⟨r.g,p.2,none⟩)))->
  cr st (Ew.map (·.1))=true->(∀p∈Ew,p.1∈V)->Lr st τ Ew=some (fr,x)->Cells w (Pf X π V) τ us x:=by
 intro τ
 induction τ with
 |unit=>
  intro Ew us fr x hl hr _ _ hv
  cases Ew with
  |nil=>exact Cp hl
  |cons c cs=>simp [Lr] at hv
 |pair a r _ ie=>
  intro Ew us fr x hl hr mW hV hv
  cases a with
  |ptr a=>
   cases Ew with
   |nil=>simp [Lr] at hv
   |cons c cs=>
    obtain ⟨l,i⟩:=c
    simp only [Lr] at hv
    split at hv
    ·rename_i f1 y f2 z h1 h2
     simp only [Aa,Ag] at hv
     obtain ⟨rfl,rfl⟩:=hv
     cases us with
     |nil=>simp at hl
     |cons u us=>
      obtain ⟨r0,tid,vs,h3,h4,h5⟩:=hr 0 (l,i) rfl
      simp only [Bz,Aa] at h5
      subst h5
      obtain ⟨ok1,ok2⟩:=JC mW
      obtain ⟨h6,h7,es,h8,h9,qt⟩:=jW h ok1 (hV _ (Ji ..)) h1 h4
      exact ⟨[_],us,rfl,⟨r0.g,i,rfl,h6,h7,es,h8,h9,qt⟩,ie cs us f2 z (by simpa using hl) (λj p hp=>hr (j+1) p hp) ok2 (λp hp=>hV p (As _ hp)) h2⟩
    ·cases hv
  |_=>cases Ew<;>simp [Lr] at hv
 |_=>intro Ew us fr x hl hr _ _ hv;cases Ew<;>simp [Lr] at hv
theorem WD {st:St} (h:Nk X w π st.heap) {V:List Nat} {io:Bool} {k:Nat} {c:CK} {a:AC} {u:Value} (hu:Hu X w π st.heap a u) {x:c.den} {tks:List (Nat×Loc)} (he:Mn st io k c a=some (x,tks))
  (hV: ∀t∈tks,t.2.reads=true->t.2.Xn∈V): ∃r,eZ w (Pf X π V) r u c x/\Ua w π st.heap io a u r c x:=by
 cases c with
 |Gw τ=>
  have own: ∀l off len,a= .own l off len-> ∃r,eZ w (Pf X π V) r u (.Gw τ) x/\Ua w π st.heap io a u r (.Gw τ) x:=by
   intro l off len ea
   subst ea
   simp only [Mn] at he
   cases hv:Ee st τ (.own l off len) with
   |none=>rw [hv] at he;cases he
   |some p=>
    obtain ⟨fr,y⟩:=p
    rw [hv] at he
    simp only [An,Aa,Ag] at he
    obtain ⟨rfl,rfl⟩:=he
    have hlV:l∈V:=hV _ (Af.2 rfl) rfl
    refine ⟨none,⟨rfl,?_⟩,rfl⟩
    cases τ<;>simp only [Ee] at hv<;>try (cases hv;done)
    rename_i e
    cases hl:st.at l with
    |none=>rw [hl] at hv;cases hv
    |some b=>
     rw [hl] at hv
     unfold St.at at hl
     cases b<;>(try simp only [] at hv)<;>try (cases hv;done)
     ·rename_i tb CG e0 tid xs
      split at hv
      ·rename_i ZJ;subst ZJ
       simp only [Aa,Ag] at hv
       obtain ⟨_,rfl⟩:=hv
       obtain ⟨h1,h2⟩:=Pd hu hl
       exact ⟨[u],pF h hl h1 h2 (λb hb ⟨r,hr,hf⟩=>hb.not h hlV hr hf) (λb _ hb=>hb.iz),rfl⟩
      ·cases hv
     ·rename_i e0 tid xs
      split at hv
      ·rename_i ZJ;subst ZJ
       simp only [Aa,Ag] at hv
       obtain ⟨_,rfl⟩:=hv
       obtain ⟨h1,h2⟩:=cg hu hl
       exact ⟨[u],mQ h hl h1 h2 (λb hb ⟨r,hr,hf⟩=>hb.not h hlV hr hf),rfl⟩
      ·cases hv
     ·rename_i e0 te0 rows out kp
      cases out with
      |some i=>cases hv
      |none=>
       simp only [] at hv
       split at hv
       ·rename_i ZJ;subst ZJ
        simp only [Aa,Ag] at hv
        obtain ⟨_,rfl⟩:=hv
        obtain ⟨h1,h2⟩:=oo hu hl
        exact ⟨[u],th h hl h1 h2 (λb hb ⟨r,hr,hf⟩=>hb.not h hlV hr hf) (λb hb=>hb.iz),rfl⟩
       ·cases hv
  have At8: ∀g Ew,a= .clo g Ew-> ∃r,eZ w (Pf X π V) r u (.Gw τ) x/\Ua w π st.heap io a u r (.Gw τ) x:=by
   intro g Ew ea
   subst ea
   simp only [Mn] at he
   split at he
   ·rename_i hc
    simp only [Aj,Fg] at hc
    obtain ⟨mW,Ue⟩:=hc
    cases hv:Kj st τ (.clo g Ew) with
    |none=>rw [hv] at he;cases he
    |some p=>
     obtain ⟨fr,y⟩:=p
     rw [hv] at he
     simp only [An,Aa,Ag] at he
     obtain ⟨rfl,rfl⟩:=he
     have hcV: ∀p∈Ew,p.1∈V:= λp hp=>hV (Em false k, .view p.1) (Be.2 ⟨p.1,Be.2 ⟨p,hp,rfl⟩,rfl⟩) rfl
     obtain ⟨us,rfl,h2,h3⟩:=hu
     refine ⟨none,⟨rfl,Dc.oa Ue ?_⟩,rfl⟩
     cases τ<;>simp only [Kj] at hv<;>try (simp only [Ee,reduceCtorEq] at hv;done)
     rename_i f0 c0
     split at hv
     ·rename_i hg
      obtain ⟨rfl,Lg⟩:=hg
      exact ⟨us,by rw [iG Lg],CH h c0 Ew us fr y h2 h3 mW hcV hv⟩
     ·cases hv
   ·cases he
  have hvp: ∀l i,a= .Ho l i-> ∃r,eZ w (Pf X π V) r u (.Gw τ) x/\Ua w π st.heap io a u r (.Gw τ) x:=by
   intro l i ea
   subst ea
   simp only [Mn] at he
   split at he
   ·rename_i hc
    simp only [Aj,Fg] at hc
    obtain ⟨mW,Ue⟩:=hc
    cases hv:Kj st τ (.Ho l i) with
    |none=>rw [hv] at he;cases he
    |some p=>
     obtain ⟨fr,y⟩:=p
     rw [hv] at he
     simp only [An,Aa,Ag] at he
     obtain ⟨rfl,rfl⟩:=he
     have hlV:l∈V:=hV (Em false k, .view l) (Be.2 ⟨l,Af.2 rfl,rfl⟩) rfl
     obtain ⟨r,tid,vs,h1,h2,rfl⟩:=hu
     refine ⟨none,⟨rfl,Dc.oa Ue ?_⟩,rfl⟩
     cases τ<;>simp only [Kj] at hv<;>try (simp only [Ee,reduceCtorEq] at hv;done)
     ·obtain ⟨h6,h7,h8⟩:=jW h mW hlV hv h2
      exact ⟨r.g,i,rfl,h6,h7,h8⟩
     ·rename_i a
      cases hp:Uz st a l i with
      |none=>rw [hp] at hv;cases hv
      |some p=>
       rw [hp] at hv
       simp only [An,Aa,Ag] at hv
       obtain ⟨_,rfl⟩:=hv
       obtain ⟨h6,h7,h8⟩:=jW h mW hlV hp h2
       exact .inr ⟨_,r.g,i,rfl,rfl,h6,h7,h8⟩
   ·cases he
  have Oe: ∀l i c,a= .sub l i c-> ∃r,eZ w (Pf X π V) r u (.Gw τ) x/\Ua w π st.heap io a u r (.Gw τ) x:=by
   intro l i c ea
   subst ea
   simp only [Mn] at he
   cases hv:Ee st τ (.sub l i c) with
   |none=>rw [hv] at he;cases he
   |some p=>
    obtain ⟨fr,y⟩:=p
    rw [hv] at he
    simp only [An,Aa,Ag] at he
    obtain ⟨rfl,rfl⟩:=he
    have hlV:l∈V:=hV _ (Af.2 rfl) rfl
    refine ⟨none,⟨rfl,?_⟩,rfl⟩
    cases τ<;>simp only [Ee] at hv<;>try (cases hv;done)
    rename_i e
    cases hl:st.at l with
    |none=>rw [hl] at hv;cases hv
    |some b=>
     rw [hl] at hv
     unfold St.at at hl
     cases b<;>(try simp only [] at hv)<;>try (cases hv;done)
     rename_i e0 te0 rows out kp
     cases out with
     |some i=>cases hv
     |none=>
      simp only [] at hv
      split at hv
      ·rename_i ZJ;subst ZJ
       simp only [Aa,Ag] at hv
       obtain ⟨_,rfl⟩:=hv
       exact ⟨[u],tj h hl (FB hu hl) hu (λb hb ⟨r,hr,hf⟩=>hb.not h hlV hr hf) (λb hb=>hb.iz),rfl⟩
      ·cases hv
  by_cases RF: ∃l i c,a= .sub l i c
  ·obtain ⟨l,i,c,ea⟩:=RF;exact Oe l i c ea
  by_cases Agx: ∃g Ew,a= .clo g Ew
  ·obtain ⟨g,Ew,ea⟩:=Agx;exact At8 g Ew ea
  by_cases Aor: ∃l i,a= .Ho l i
  ·obtain ⟨l,i,ea⟩:=Aor;exact hvp l i ea
  by_cases ew: ∃l off len,a= .own l off len
  ·obtain ⟨l,off,len,ea⟩:=ew;exact own l off len ea
  have he:(if τ.flat||a.settled then (Ee st τ a).map λp=>(p.2,([]:List (Nat×Loc))) else none)=some (x,tks):=by
   cases a<;>first|exact he|exact absurd ⟨_,_,_,rfl⟩ ew|exact absurd ⟨_,_,rfl⟩ Agx|exact absurd ⟨_,_,rfl⟩ Aor|exact absurd ⟨_,_,_,rfl⟩ RF
  split at he
  ·rename_i hc
   cases hv:Ee st τ a with
   |none=>rw [hv] at he;cases he
   |some p=>
    obtain ⟨fr,y⟩:=p
    rw [hv] at he
    simp only [An,Aa,Ag] at he
    obtain ⟨rfl,rfl⟩:=he
    refine ⟨none,⟨rfl,?_⟩,rfl⟩
    have Jh: ∀f,Dc w (Df X.w0.heap.size X.Sc π f) τ u y->Dc w (Pf X π V) τ u y:= λf hr=>hr.Jh λk _ hk=>hk.iz
    cases a with
    |data f Ox z=>
     rw [Oi] at hv
     split at hv
     ·rename_i ht;subst ht
      simp only [Aa,Ag] at hv
      obtain ⟨_,rfl⟩:=hv
      exact Jh f hu
     ·have Pc:τ.Ar=false:=by unfold iK at hv;split at hv<;>first|rfl|cases hv
      exact Jh _ ⟨[u],dt hv hu,by simp [Ci,Pc]⟩
    |Mj=>
     have hu:u= .slice none 0 0:=hu
     subst hu
     cases τ<;>simp only [Ee,Aa,Ag,reduceCtorEq] at hv
     ·obtain ⟨_,rfl⟩:=hv;exact ⟨[_],⟨none,0,0,rfl,rfl,Aq _, .inl rfl⟩,rfl⟩
     ·obtain ⟨_,rfl⟩:=hv;exact ⟨[_], .inl ⟨rfl,0,rfl⟩,rfl⟩
    |Wa=>
     have hu:u= .pointer none:=hu
     subst hu
     cases τ<;>simp only [Ee,Aa,Ag,reduceCtorEq] at hv
     obtain ⟨_,rfl⟩:=hv;exact ⟨[_], .inl ⟨rfl,rfl⟩,rfl⟩
    |_=>cases τ<;>simp [AC.settled,Ty.flat,Ee] at hc hv
  ·cases he
 |row e te=>
  cases a<;>simp only [Mn] at he<;>try (cases he;done)
  ·simp only [Aa,Ag] at he
   obtain ⟨rfl,rfl⟩:=he
   have hu:u= .slice none 0 0:=hu
   exact ⟨none,⟨⟨hu,rfl,rfl⟩,rfl⟩,rfl⟩
  ·rename_i l off len
   split at he
   ·rename_i fr tr e' Ro xs hl
    split at he
    ·rename_i hc
     obtain ⟨rfl,rfl,rfl,rfl⟩:=hc
     simp only [Aa,Ag] at he
     obtain ⟨rfl,rfl⟩:=he
     unfold St.at at hl
     obtain ⟨_,h2⟩:=Pd hu hl
     refine ⟨(π l).map full,⟨aa h2,?_⟩,rfl,rfl,rfl,fr,tr,hl⟩
     have hb:=(h.heap l).Ru hl
     simp only [Co,Kn] at hb
     cases hp:π l with
     |none=>rw [hp] at hb;exact hb
     |some q=>
      rw [hp] at hb
      obtain ⟨k1,cur,ti,k2,k3,k4,k5,k6,_⟩:=hb
      refine ⟨⟨k1.1,k1.2.1⟩,cur,ti,k2,k3,k4,k5,λi y hy=>?_⟩
      obtain ⟨es,g1,g2,g3⟩:=k6 i y hy
      exact ⟨es,g1,g2,Cells.Fz (Aq _) (λ_ _ _=>rfl) (λ_ _ hk=>hk.iz) e' es y g3⟩
    ·cases he
   ·cases he
  ·rename_i l i c
   split at he
   ·rename_i e' tid xs hl
    split at he
    ·rename_i hc
     obtain ⟨rfl,hf,zj,kO⟩:=hc
     cases hx:xs[i]? with
     |none=>rw [hx] at he;cases he
     |some y=>
      rw [hx] at he
      simp only [An,Aa,Ag] at he
      obtain ⟨rfl,rfl⟩:=he
      unfold St.at at hl
      obtain ⟨r,r1,r2,_,r4⟩:=IQ h hl hx kO hu
      exact ⟨r,⟨r1,r2 hf _⟩,⟨zj,hf⟩,tid,xs,hl,hx,r4⟩
    ·cases he
   ·cases he
 |Ie e te=>
  cases a<;>simp only [Mn] at he<;>try (cases he;done)
  ·simp only [Aa,Ag] at he
   obtain ⟨rfl,rfl⟩:=he
   have hu:u= .slice none 0 0:=hu
   exact ⟨none,⟨⟨hu,rfl,rfl⟩,rfl⟩,rfl⟩
  ·rename_i l off len
   split at he
   ·rename_i e' Ro xs hl
    split at he
    ·rename_i hc
     obtain ⟨rfl,rfl,rfl,rfl⟩:=hc
     simp only [Aa,Ag] at he
     obtain ⟨rfl,rfl⟩:=he
     unfold St.at at hl
     obtain ⟨_,h2⟩:=cg hu hl
     refine ⟨(π l).map full,⟨aa h2,?_⟩,rfl,rfl,rfl,hl⟩
     have hb:=(h.heap l).Ru hl
     simp only [Co] at hb
     cases hp:π l with
     |none=>rw [hp] at hb;exact hb
     |some q=>rw [hp] at hb;exact hb
    ·cases he
   ·cases he
  ·rename_i l i c
   split at he
   ·rename_i e' tid xs hl
    split at he
    ·rename_i hc
     obtain ⟨rfl,zj,kO⟩:=hc
     cases hx:xs[i]? with
     |none=>rw [hx] at he;cases he
     |some y=>
      rw [hx] at he
      simp only [An,Aa,Ag] at he
      obtain ⟨rfl,rfl⟩:=he
      unfold St.at at hl
      obtain ⟨r,r1,_,r3,r4⟩:=IQ h hl hx kO hu
      exact ⟨r,⟨r1,r3 te⟩,zj,tid,xs,hl,hx,r4⟩
    ·cases he
   ·cases he
 |part e te=>
  cases a<;>simp only [Mn] at he<;>try (cases he;done)
  rename_i l off len
  split at he
  ·rename_i fr tr e' Ro xs hl
   split at he
   ·rename_i hc
    obtain ⟨rfl,rfl,hf,zj⟩:=hc
    simp only [Aa,Ag] at he
    obtain ⟨rfl,rfl⟩:=he
    unfold St.at at hl
    obtain ⟨h1,h2⟩:=Pd hu hl
    refine ⟨(π l).map full,⟨⟨aa h2,h1⟩,hf,?_⟩,hf,rfl,zj,fr,tr,hl⟩
    have hb:=(h.heap l).Ru hl
    simp only [Co,Kn] at hb
    cases hp:π l with
    |none=>rw [hp] at hb;exact hb
    |some q=>
     rw [hp] at hb
     obtain ⟨k1,cur,ti,k2,k3,k4,k5,k6,_⟩:=hb
     refine ⟨⟨k1.1,k1.2.1⟩,cur,ti,k2,k3,k4,k5,λi y hy=>?_⟩
     obtain ⟨es,g1,g2,g3⟩:=k6 i y hy
     exact ⟨es,g1,g2,Cells.flat e' es y hf g3⟩
   ·cases he
  ·cases he
 |Bu e te kp=>
  cases a<;>simp only [Mn] at he<;>try (cases he;done)
  rename_i l off len
  split at he
  ·rename_i e' Ro rows kp' hl
   split at he
   ·rename_i hc
    obtain ⟨rfl,rfl,rfl,rfl,zj⟩:=hc
    simp only [Aa,Ag] at he
    obtain ⟨rfl,rfl⟩:=he
    unfold St.at at hl
    obtain ⟨h1,h2⟩:=oo hu hl
    refine ⟨(π l).map full,⟨aa h2,?_⟩,zj,rfl,rfl,rfl,kp',hl⟩
    have hb:=(h.heap l).Ru hl
    simp only [Co] at hb
    have hb:=hb.1
    have hg:aD w (Df X.w0.heap.size X.Sc π false) ((π l).map full) e' rows none:=by
     cases hp:π l with
     |none=>rw [hp] at hb;exact hb
     |some q=>rw [hp] at hb;exact hb
    exact hg.Fz (λ_ _ _ _ _=>rfl) λes x hc=>hc.but
   ·cases he
  ·cases he
end
end Go.Proofs.Ytkkdpknjohcekaa
