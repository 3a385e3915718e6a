/-
  Part 15 of the proof that the statement FnExactSolveIDAStar holds.
-/
import Derived.Test.YtfgfigkbgecfnaaGreatCSolveIDAStar13
namespace Go.Proofs.YtfgfigkbgecfnaaGreat
open Go.RowKit
section
variable {P:Program} {T:Tab} {X:Ctx} {w w':World} {π π':Pi} {H H':List (Nat×OB)}
def full (r:Real):Real:= {r with cl:=r.Cx}
theorem Ci.uY: ∀(τ:Ty) (F:List Nat) (es:List Value) (x:τ.den),τ.flat=true->Ci w F τ es x->F= []
 | .int k,F,es,x,_,h=>h.1
 | .bool,F,es,x,_,h=>h.1
 | .str,F,es,x,_,h=>h.1
 | .unit,F,es,x,_,h=>h.1
 | .pair a r,F,es,x,hf,h=>by
  simp only [Ty.flat,Af] at hf
  simp only [Ci] at h
  obtain ⟨c1,c2,F1,F2,_,rfl,h1,h2⟩:=h
  rw [Ci.uY a F1 c1 x.1 hf.1 h1,Ci.uY r F2 c2 x.2 hf.2 h2]
  rfl
 | .slice _,_,_,_,hf,_=>by simp [Ty.flat] at hf
 | .oslice _,_,_,_,hf,_=>by simp [Ty.flat] at hf
 | .ptr _,_,_,_,hf,_=>by simp [Ty.flat] at hf
 | .optr _,_,_,_,hf,_=>by simp [Ty.flat] at hf
 | .smap _,_,_,_,hf,_=>by simp [Ty.flat] at hf
 | .clo _ _,_,_,_,hf,_=>by simp [Ty.flat] at hf
theorem oq {S P:Nat->Prop} {g o:Nat} {cur:Array Value} {e:Ty} {xs:List e.den} (hf:e.flat=true)
  (h: ∀(i:Nat) (x:e.den),xs[i]?=some x-> ∃es:List Value,es.length=e.size/\(∀j u,es[j]?=some u->cur[(o+i)*e.size+j]?=some u)/\Cells w S e es x):Yk w P g o cur e xs:=by
 refine ⟨List.replicate xs.length [],by simp,by simp,by simp,λi x F hx hF=>?_⟩
 obtain ⟨es,e1,e2,e3⟩:=h i x hx
 have:F= []:=Fy (Bv hF)
 subst this
 exact ⟨es,e1,e2,Yv e es x hf e3⟩
theorem Ts.TM {D:Nat->Prop} {r:Option Real} {e:Ty} {ys:List e.den} {u:Value} (h:Ts w D r e ys) (hf:e.flat=true) (hv:Ib r e.size 0 ys.length u):
  ∃F,Ci w F (.slice e) [u] ys/\F.Nodup/\ ∀b∈F,∃r',r=some r'/\r'.Cx b:=by
 cases r with
 |none=>
  obtain ⟨rfl,_,_⟩:=hv
  have h:ys= []:=h
  subst h
  exact ⟨[],⟨none,0,0,rfl,rfl,Ao _, .inl ⟨rfl,rfl,rfl,rfl⟩⟩,Nl,λb hb=>by cases hb⟩
 |some r=>
  obtain ⟨h1,cur,ti,h2,h3,h4,h5,h6⟩:=h
  obtain ⟨F,f1,f2,f3⟩:=lz (P:=r.Cx) h2 h3 h4 (by omega) hv (oq hf h6) h1.1
  exact ⟨F,by simpa using f1,f2,λb hb=>⟨r,rfl,f3 b hb⟩⟩
theorem Of.TM {r:Option Real} {e:Ty} {te:TypeId} {ys:List e.den} {u:Value} (h:Of w r e te ys) (hv:Ib r e.size 0 ys.length u):
  ∃F,Ci w F (.slice e) [u] ys/\F.Nodup/\ ∀b∈F,∃r',r=some r'/\r'.Cx b:=by
 cases r with
 |none=>
  obtain ⟨rfl,_,_⟩:=hv
  have h:ys= []:=h
  subst h
  exact ⟨[],⟨none,0,0,rfl,rfl,Ao _, .inl ⟨rfl,rfl,rfl,rfl⟩⟩,Nl,λb hb=>by cases hb⟩
 |some r=>
  obtain ⟨h1,cur,ti,h2,h3,h4,h5,h6⟩:=h
  obtain ⟨F,f1,f2,f3⟩:=lz (P:=r.Cx) h2 h3 h4 (by omega) hv h6 h1
  exact ⟨F,by simpa using f1,f2,λb hb=>⟨r,rfl,f3 b hb⟩⟩
theorem Ci.row {F:List Nat} {e:Ty} {u:Value} {xs:List e.den} (h:Ci w F (.slice e) [u] xs) (hn:F.Nodup):
  ∃r:Option Real,Ib r e.size 0 xs.length u/\(e.flat=true-> ∀D,Ts w D r e xs)/\(∀te,Of w r e te xs)/\(∀r',r=some r'-> ∀b,r'.Cx b↔b∈F)/\(r=none->F= []):=by
 simp only [Ci] at h
 obtain ⟨a,len,cap,e0,e1,e2,h⟩:=h
 simp only [Gj,Ow] at e0
 subst e0
 rcases h with ⟨rfl,rfl,rfl,rfl⟩|⟨ad,g,o,Fs,rfl,ha,⟨cur,ti,o',s1,s2,s3,s4⟩,rfl,hl,Js⟩
 ·exact ⟨none,⟨by rw [e1];rfl,rfl,rfl⟩,λ_ _=>rfl,λ_=>rfl,(λr' h=>by cases h),λ_=>rfl⟩
 ·subst s2
  have m9: ∀(i:Nat) (x:e.den) (Fi:List Nat),xs[i]?=some x->Fs[i]?=some Fi-> ∃es:List Value,es.length=e.size/\(∀j u,es[j]?=some u->cur[(o'+i)*e.size+j]?=some u)/\Ci w Fi e es x:=by
   intro i x Fi hx hF
   obtain ⟨es,k1,k2,k3⟩:=Js i x Fi hx hF
   refine ⟨es,k1,λj v hv=>?_,k3⟩
   have:=k2 j v hv
   rw [cellOf s1] at this
   rw [Df];exact this
  refine ⟨some ⟨g,o',cap,(· ∈g::List.flatten Fs),(· ∈g::List.flatten Fs)⟩,⟨ad,by rw [e1];rfl,by dsimp only;omega,λh0=>by rw [ha h0];rfl⟩,λhf D=>⟨⟨by simp,λb hb=>?_⟩,cur,ti,s1,s3,s4,by rw [<-e1];exact e2,λi x hx=>?_⟩,
   fun te=>⟨by simp,cur,ti,s1,s3,s4,by rw [<-e1];exact e2,Fs,hl,hn,λb hb=>by simp [hb],m9⟩,λr' hr b=>by cases hr;exact Iff.rfl,λh=>by cases h⟩
  ·rcases Be.1 hb with hb|hb
   ·exact hb
   ·obtain ⟨Fi,h1,h2⟩:=Fq.1 hb
    obtain ⟨i,hi,rfl⟩:=Ry h1
    obtain ⟨es,_,_,k3⟩:=m9 i (xs[i]'(by omega)) _ (Ac _) (Ac hi)
    rw [Ci.uY e _ _ _ hf k3] at h2
    cases h2
  ·have hi:i<Fs.length:=by have:=(An.1 hx).1;omega
   obtain ⟨es,k1,k2,k3⟩:=m9 i x _ hx (Ac hi)
   exact ⟨es,k1,k2,Cells.flat e es x hf (Ci.cells (S:= λ_=>False) _ e es x k3 λb hb=> λh=>h)⟩
theorem dD: ∀(Fs:List (List Nat)) (i:Nat) (Fi F':List Nat),(List.flatten Fs).Nodup->Fs[i]?=some Fi->F'.Nodup->(∀b∈F',b∈Fi)->(List.flatten (Fs.set i F')).Nodup/\ ∀b∈List.flatten (Fs.set i F'),b∈List.flatten Fs
 | [],i,Fi,F',_,h,_,_=>by simp at h
 |G::Fs,0,Fi,F',hn,h,tU,hs=>by
  simp only [Ca,Aa] at h;subst h
  simp only [List.set_cons_zero,Lf] at hn⊢
  obtain ⟨n1,n2,n3⟩:=Cv.1 hn
  refine ⟨Cv.2 ⟨tU,n2,λa ha b hb=>n3 a (hs a ha) b hb⟩,λb hb=>?_⟩
  rcases Az.1 hb with hb|hb
  ·exact Bd _ (hs b hb)
  ·exact Bx _ hb
 |G::Fs,i+1,Fi,F',hn,h,tU,hs=>by
  simp only [Hf] at h
  simp only [List.set_cons_succ,Lf] at hn⊢
  obtain ⟨n1,n2,n3⟩:=Cv.1 hn
  obtain ⟨m1,m2⟩:=dD Fs i Fi F' n2 h tU hs
  refine ⟨Cv.2 ⟨n1,m1,λa ha b hb=>n3 a ha b (m2 b hb)⟩,λb hb=>?_⟩
  rcases Az.1 hb with hb|hb
  ·exact Bd _ hb
  ·exact Bx _ (m2 b hb)
theorem e8: ∀(Fs:List (List Nat)) (i j:Nat) (Fi Fj:List Nat) (b:Nat),(List.flatten Fs).Nodup->Fs[i]?=some Fi->Fs[j]?=some Fj->b∈Fi->b∈Fj->i=j
 | [],i,j,Fi,Fj,b,_,h,_,_,_=>by simp at h
 |G::Fs,0,0,_,_,_,_,_,_,_,_=>rfl
 |G::Fs,0,j+1,Fi,Fj,b,hn,h1,h2,h3,h4=>by
  simp only [Ca,Aa,Hf] at h1 h2
  subst h1
  simp only [Lf] at hn
  exact absurd rfl ((Cv.1 hn).2.2 b h3 b (Fq.2 ⟨Fj,Bv h2,h4⟩))
 |G::Fs,i+1,0,Fi,Fj,b,hn,h1,h2,h3,h4=>by
  simp only [Ca,Aa,Hf] at h1 h2
  subst h2
  simp only [Lf] at hn
  exact absurd rfl ((Cv.1 hn).2.2 b h4 b (Fq.2 ⟨Fi,Bv h1,h3⟩))
 |G::Fs,i+1,j+1,Fi,Fj,b,hn,h1,h2,h3,h4=>by
  simp only [Hf] at h1 h2
  simp only [Lf] at hn
  rw [e8 Fs i j Fi Fj b (Cv.1 hn).2.1 h1 h2 h3 h4]
def BF (w:World) (π:Pi) (l i:Nat) (e:Ty) (tid:TypeId) (xs:List (List e.den)) (u:Value) (r:Option Real):Prop:=
 ∃q,π l=some q/\(∀r',r=some r'-> ∀b,r'.Cx b->q.Cx b/\b≠q.g)/\
  ∀(w':World) (ys:List e.den),w.heap.size<=w'.heap.size->(∀b,b<w.heap.size->q.Cx b->(∀r',r=some r'-> ¬r'.Cx b)->w'.heap[b]?=w.heap[b]?)->
   (∃F',Ci w' F' (.slice e) [u] ys/\F'.Nodup/\ ∀b∈F',∃r',r=some r'/\r'.Cx b)->Of w' (some q) (.slice e) tid (xs.set i ys)
theorem MJ (h:Nf X w π H) {l i c:Nat} {e:Ty} {tid:TypeId} {xs:List (List e.den)} {x:List e.den} {u:Value} (hl:Au H l=some (.Gz (.slice e) tid xs)) (hx:xs[i]?=some x) (hc:c=0)
  (hu:Hk X w π H (.sub l i c) u): ∃r,Ib r e.size 0 x.length u/\(e.flat=true-> ∀D,Ts w D r e x)/\(∀te,Of w r e te x)/\BF w π l i e tid xs u r:=by
 subst hc
 obtain ⟨q,b0,sz0,n0,h1,pW,h2,h3,⟨h4,a,n,m,rfl⟩,h5⟩:=hu
 rw [hl] at h1;cases h1
 simp only [OB.iu,Aa,Ae] at pW
 obtain ⟨rfl,rfl⟩:=pW
 have hb:=(h.heap l).Qs hl
 simp only [Cm,Of,h2] at hb
 obtain ⟨k1,cur,ti,k2,k3,k4,k5,Fs,t1,t2,t3,t4⟩:=hb
 have hi:i<Fs.length:=by have:=(An.1 hx).1;omega
 have hFi:Fs[i]?=some Fs[i]:=Ac hi
 obtain ⟨es,e1,e2,e3⟩:=t4 i x _ hx hFi
 have e1':es.length=1:=e1
 obtain ⟨v,rfl⟩:=Dg.1 e1'
 have hv:v= .slice a n m:=by
  have:=e2 0 v rfl
  rw [cellOf k2] at h5
  rw [this] at h5;exact Ba h5
 subst hv
 have hn2:=(Cd.1 t2).2
 have oF: ∀b∈Fs[i],b∈List.flatten Fs:= λb hb=>Fq.2 ⟨_,Ak hi,hb⟩
 have hnF:(Fs[i]).Nodup:=hn2.sublist (by
  have:=aZ (List.singleton_sublist.2 (Ak hi))
  simpa using this)
 obtain ⟨r,r1,r2,r3,r4,r5⟩:=Ci.row e3 hnF
 refine ⟨r,r1,r2,r3,q,h2,λr' hr b hb=>?_,λw' ys hs hk ⟨F',f1,f2,f3⟩=>?_⟩
 ·have hb:=(r4 r' hr b).1 hb
  exact ⟨t3 b (oF b hb),λe=>(Cd.1 t2).1 (e▸oF b hb)⟩
 ·have hF': ∀b∈F',b∈Fs[i]:= λb hb=>by
   obtain ⟨r',g1,g2⟩:=f3 b hb
   exact (r4 r' g1 b).1 g2
  have oC:=dD Fs i _ F' hn2 hFi f2 hF'
  have hkg:w'.heap[q.g]?=w.heap[q.g]?:=hk q.g (Fw k2) k1 λr' hr hb=>(Cd.1 t2).1 (oF _ ((r4 r' hr _).1 hb))
  refine ⟨k1,cur,ti,hkg.trans k2,k3,k4,by simpa using k5,Fs.set i F',by simp [t1],Cd.2 ⟨λhm=>(Cd.1 t2).1 (oC.2 _ hm),oC.1⟩,λb hb=>t3 b (oC.2 b hb),λj y F hy hF=>?_⟩
  rw [Fo] at hy hF
  split at hy
  ·rename_i jC;subst jC
   rw [Ab rfl] at hF
   rw [Ab hi] at hF
   simp only [Aa] at hF
   have hy:ys=y:=by simpa [h3] using hy
   subst hy;subst hF
   exact ⟨[.slice a n m],rfl,e2,f1⟩
  ·rename_i jC
   rw [Ag jC] at hF
   obtain ⟨pV,g1,g2,g3⟩:=t4 j y F hy hF
   refine ⟨pV,g1,g2,g3.Fg _ _ _ _ hs λb hb=>?_⟩
   have hbf:b∈List.flatten Fs:=Fq.2 ⟨F,Bv hF,hb⟩
   exact hk b (g3.lt _ _ _ _ b hb) (t3 b hbf) λr' hr jB=>jC (e8 Fs i j _ F b hn2 hFi hF ((r4 r' hr b).1 jB) hb)
def Un (w:World) (π:Pi) (H:List (Nat×OB)) (io:Bool) (a:AC) (u:Value) (r:Option Real):(c:CK)->c.den->Prop
 | .Em _,_=>r=none
 | .row e te,x=>match a with
  | .Lm=>r=none
  | .own l off len=>r=(π l).map full/\off=0/\len=List.length x/\ ∃fr tr,Au H l=some (.arr fr tr e te x)
  | .sub l i _=>(io=true/\e.flat=true)/\ ∃tid xs,Au H l=some (.Gz (.slice e) tid xs)/\xs[i]?=some x/\BF w π l i e tid xs u r
  |_=>False
 | .Hp e te,x=>match a with
  | .Lm=>r=none
  | .own l off len=>r=(π l).map full/\off=0/\len=List.length x/\Au H l=some (.Gz e te x)
  | .sub l i _=>io=true/\ ∃tid xs,Au H l=some (.Gz (.slice e) tid xs)/\xs[i]?=some x/\BF w π l i e tid xs u r
  |_=>False
 | .part e te,x=>e.flat=true/\match a with
  | .own l _ _=>r=(π l).map full/\io=true/\ ∃fr tr,Au H l=some (.arr fr tr e te x.1)
  |_=>False
 | .Bp e te _,x=>io=false/\match a with
  | .own l off len=>r=(π l).map full/\off=0/\len=List.length x/\ ∃kp,Au H l=some (.Bp e te x none kp)
  |_=>False
theorem aK {r:Option Real} {s off len:Nat} {v:Value} (h:Ib r s off len v):Ib (r.map full) s off len v:=by
 cases r<;>exact h
def Pb (X:Ctx) (π:Pi) (V:List Nat) (b:Nat):Prop:=(Ux π b/\ ∀l∈V,∀r,π l=some r-> ¬r.Cx b)\/X.Sc b
theorem Pb.not {V:List Nat} {b l:Nat} (hb:Pb X π V b) (h:Nf X w π H) (hl:l∈V) {r:Real} (hr:π l=some r) (hf:r.Cx b):False:=by
 rcases hb with hb|hb
 ·exact hb.2 l hl r hr hf
 ·have h1:=h.sc b hb
  rcases (h.own ⟨l,r,hr,hf⟩).2 with h2|h2
  ·omega
  ·exact h1.2 h2
theorem Pb.jb {V:List Nat} {b:Nat} {B:Nat} {fr:Bool} (hb:Pb X π V b):Dd B X.Sc π fr b:=hb.elim (λh=> .inl h.1) λh=> .inr (.inl h)
theorem TP {st:St} {ls:List Nat} (h:cW st ls=true) {l:Nat} (hl:l∈ls) {tid:TypeId} {vs:List AC} (hv:Au st.heap l=some (.var tid vs)):vs.all (·.settled)=true:=by
 have:=Bc.1 h l hl
 unfold St.at at this
 rw [hv] at this
 exact this
theorem Cells.but {V:List Nat} {f:Bool} {τ:Ty} {cs:List Value} {x:τ.den} (h:Cells w (Dd X.w0.heap.size X.Sc π f) τ cs x):Cells w (Pb X π V) τ cs x:=
 Cells.Fg (Ao _) (λ_ _ _=>rfl) (λ_ _ hk=>hk.jb) τ cs x h
theorem kP {st:St} (h:Nf X w π st.heap) {V:List Nat} {a:Ty} {l i:Nat} {fr:Bool} {x:a.den} (jE:cW st [l]=true) (hlV:l∈V) (hv:Vh st a l i=some (fr,x)) {r:Real} (hr:π l=some r):
  r.g<w.heap.size/\ ¬Pb X π V r.g/\ ∃es:List Value,es.length=a.size/\(∀j u,es[j]?=some u->w.cell? ⟨r.g,i+j,none⟩=some u)/\Cells w (Pb X π V) a es x:=by
 unfold Vh at hv
 split at hv
 ·rename_i tid vs hl
  unfold St.at at hl
  obtain ⟨r',h3,h4,cur,h5,h6⟩:=(h.heap l).Qs hl
  rw [hr] at h3;cases h3
  have hs:=TP jE (Ad.2 rfl) hl
  have IW:((vs.drop i).take a.size).all (·.settled)=true:=Bc.2 λc hc=>Bc.1 hs c (eC (El hc))
  have hc:=Xu a _ _ fr x IW (aL h6 i a.size) hv
  refine ⟨Fw h5,λhb=>hb.not h hlV hr h4,_,Cells.len a _ x hc,λj u hu=>?_,hc.but⟩
  rw [cellOf h5]
  rw [Da] at hu
  split at hu
  ·rw [Cz] at hu;simpa using hu
  ·cases hu
 ·cases hv
theorem NA {st:St} {l:Nat} {ls:List Nat} (h:cW st (l::ls)=true):cW st [l]=true/\cW st ls=true:=by
 simp only [cW,Ie,List.all_nil,Bool.and_true,Af] at h⊢
 exact h
theorem FP {st:St} (h:Nf X w π st.heap) {V:List Nat} : ∀(τ:Ty) (Eg:List (Nat×Nat)) (us:List Value) (fr:Bool) (x:τ.den),us.length=Eg.length->
  (∀(j:Nat) p,Eg[j]?=some p-> ∃r tid vs,Au st.heap p.1=some (.var tid vs)/\π p.1=some r/\us[j]?=some (.pointer (some ⟨r.g,p.2,none⟩)))->
  cW st (Eg.map (·.1))=true->(∀p∈Eg,p.1∈V)->Le st τ Eg=some (fr,x)->Cells w (Pb X π V) τ us x:=by
 intro τ
 induction τ with
 |unit=>
  intro Eg us fr x hl hr _ _ hv
  cases Eg with
  |nil=>exact Cn hl
  |cons c cs=>simp [Le] at hv
 |pair a r _ iR=>
  intro Eg us fr x hl hr jE hV hv
  cases a with
  |ptr a=>
   cases Eg with
   |nil=>simp [Le] at hv
   |cons c cs=>
    obtain ⟨l,i⟩:=c
    simp only [Le] at hv
    split at hv
    ·rename_i f1 y f2 z h1 h2
     simp only [Aa,Ae] at hv
     obtain ⟨rfl,rfl⟩:=hv
     cases us with
     |nil=>simp at hl
     |cons u us=>
      obtain ⟨r0,tid,vs,h3,h4,h5⟩:=hr 0 (l,i) rfl
      simp only [Ca,Aa] at h5
      subst h5
      obtain ⟨ok1,ok2⟩:=NA jE
      obtain ⟨h6,h7,es,h8,h9,pW⟩:=kP h ok1 (hV _ (Jc ..)) h1 h4
      exact ⟨[_],us,rfl,⟨r0.g,i,rfl,h6,h7,es,h8,h9,pW⟩,iR cs us f2 z (by simpa using hl) (λj p hp=>hr (j+1) p hp) ok2 (λp hp=>hV p (Ar _ hp)) h2⟩
    ·cases hv
  |_=>cases Eg<;>simp [Le] at hv
 |_=>intro Eg us fr x hl hr _ _ hv;cases Eg<;>simp [Le] at hv
theorem Aaa {st:St} (h:Nf X w π st.heap) {V:List Nat} {io:Bool} {k:Nat} {c:CK} {a:AC} {u:Value} (hu:Hk X w π st.heap a u) {x:c.den} {tks:List (Nat×Loc)} (he:Mi st io k c a=some (x,tks))
  (hV: ∀t∈tks,t.2.reads=true->t.2.Xy∈V): ∃r,fI w (Pb X π V) r u c x/\Un w π st.heap io a u r c x:=by
 cases c with
 |Em τ=>
  have own: ∀l off len,a= .own l off len-> ∃r,fI w (Pb X π V) r u (.Em τ) x/\Un w π st.heap io a u r (.Em τ) x:=by
   intro l off len ea
   subst ea
   simp only [Mi] at he
   cases hv:Dv st τ (.own l off len) with
   |none=>rw [hv] at he;cases he
   |some p=>
    obtain ⟨fr,y⟩:=p
    rw [hv] at he
    simp only [Am,Aa,Ae] at he
    obtain ⟨rfl,rfl⟩:=he
    have hlV:l∈V:=hV _ (Ad.2 rfl) rfl
    refine ⟨none,⟨rfl,?_⟩,rfl⟩
    cases τ<;>simp only [Dv] at hv<;>try (cases hv;done)
    rename_i e
    cases hl:st.at l with
    |none=>rw [hl] at hv;cases hv
    |some b=>
     rw [hl] at hv
     unfold St.at at hl
     cases b<;>(try simp only [] at hv)<;>try (cases hv;done)
     ·rename_i vg FN e0 tid xs
      split at hv
      ·rename_i hee;subst hee
       simp only [Aa,Ae] at hv
       obtain ⟨_,rfl⟩:=hv
       obtain ⟨h1,h2⟩:=Oy hu hl
       exact ⟨[u],qL h hl h1 h2 (λb hb ⟨r,hr,hf⟩=>hb.not h hlV hr hf) (λb _ hb=>hb.jb),rfl⟩
      ·cases hv
     ·rename_i e0 tid xs
      split at hv
      ·rename_i hee;subst hee
       simp only [Aa,Ae] at hv
       obtain ⟨_,rfl⟩:=hv
       obtain ⟨h1,h2⟩:=cN hu hl
       exact ⟨[u],nN h hl h1 h2 (λb hb ⟨r,hr,hf⟩=>hb.not h hlV hr hf),rfl⟩
      ·cases hv
     ·rename_i e0 te0 rows out kp
      cases out with
      |some i=>cases hv
      |none=>
       simp only [] at hv
       split at hv
       ·rename_i hee;subst hee
        simp only [Aa,Ae] at hv
        obtain ⟨_,rfl⟩:=hv
        obtain ⟨h1,h2⟩:=pf hu hl
        exact ⟨[u],vo h hl h1 h2 (λb hb ⟨r,hr,hf⟩=>hb.not h hlV hr hf) (λb hb=>hb.jb),rfl⟩
       ·cases hv
  have Avi: ∀g Eg,a= .clo g Eg-> ∃r,fI w (Pb X π V) r u (.Em τ) x/\Un w π st.heap io a u r (.Em τ) x:=by
   intro g Eg ea
   subst ea
   simp only [Mi] at he
   split at he
   ·rename_i hc
    simp only [Af,Ei] at hc
    obtain ⟨jE,Uq⟩:=hc
    cases hv:Jz st τ (.clo g Eg) with
    |none=>rw [hv] at he;cases he
    |some p=>
     obtain ⟨fr,y⟩:=p
     rw [hv] at he
     simp only [Am,Aa,Ae] at he
     obtain ⟨rfl,rfl⟩:=he
     have hcV: ∀p∈Eg,p.1∈V:= λp hp=>hV (Dt false k, .view p.1) (Bi.2 ⟨p.1,Bi.2 ⟨p,hp,rfl⟩,rfl⟩) rfl
     obtain ⟨us,rfl,h2,h3⟩:=hu
     refine ⟨none,⟨rfl,Cw.oV Uq ?_⟩,rfl⟩
     cases τ<;>simp only [Jz] at hv<;>try (simp only [Dv,reduceCtorEq] at hv;done)
     rename_i f0 c0
     split at hv
     ·rename_i hg
      obtain ⟨rfl,Iz⟩:=hg
      exact ⟨us,by rw [jg Iz],FP h c0 Eg us fr y h2 h3 jE hcV hv⟩
     ·cases hv
   ·cases he
  have hvp: ∀l i,a= .Gy l i-> ∃r,fI w (Pb X π V) r u (.Em τ) x/\Un w π st.heap io a u r (.Em τ) x:=by
   intro l i ea
   subst ea
   simp only [Mi] at he
   split at he
   ·rename_i hc
    simp only [Af,Ei] at hc
    obtain ⟨jE,Uq⟩:=hc
    cases hv:Jz st τ (.Gy l i) with
    |none=>rw [hv] at he;cases he
    |some p=>
     obtain ⟨fr,y⟩:=p
     rw [hv] at he
     simp only [Am,Aa,Ae] at he
     obtain ⟨rfl,rfl⟩:=he
     have hlV:l∈V:=hV (Dt false k, .view l) (Bi.2 ⟨l,Ad.2 rfl,rfl⟩) rfl
     obtain ⟨r,tid,vs,h1,h2,rfl⟩:=hu
     refine ⟨none,⟨rfl,Cw.oV Uq ?_⟩,rfl⟩
     cases τ<;>simp only [Jz] at hv<;>try (simp only [Dv,reduceCtorEq] at hv;done)
     ·obtain ⟨h6,h7,h8⟩:=kP h jE hlV hv h2
      exact ⟨r.g,i,rfl,h6,h7,h8⟩
     ·rename_i a
      cases hp:Vh st a l i with
      |none=>rw [hp] at hv;cases hv
      |some p=>
       rw [hp] at hv
       simp only [Am,Aa,Ae] at hv
       obtain ⟨_,rfl⟩:=hv
       obtain ⟨h6,h7,h8⟩:=kP h jE hlV hp h2
       exact .inr ⟨_,r.g,i,rfl,rfl,h6,h7,h8⟩
   ·cases he
  have Qh: ∀l i c,a= .sub l i c-> ∃r,fI w (Pb X π V) r u (.Em τ) x/\Un w π st.heap io a u r (.Em τ) x:=by
   intro l i c ea
   subst ea
   simp only [Mi] at he
   cases hv:Dv st τ (.sub l i c) with
   |none=>rw [hv] at he;cases he
   |some p=>
    obtain ⟨fr,y⟩:=p
    rw [hv] at he
    simp only [Am,Aa,Ae] at he
    obtain ⟨rfl,rfl⟩:=he
    have hlV:l∈V:=hV _ (Ad.2 rfl) rfl
    refine ⟨none,⟨rfl,?_⟩,rfl⟩
    cases τ<;>simp only [Dv] at hv<;>try (cases hv;done)
    rename_i e
    cases hl:st.at l with
    |none=>rw [hl] at hv;cases hv
    |some b=>
     rw [hl] at hv
     unfold St.at at hl
     cases b<;>(try simp only [] at hv)<;>try (cases hv;done)
     rename_i e0 te0 rows out kp
     cases out with
     |some i=>cases hv
     |none=>
      simp only [] at hv
      split at hv
      ·rename_i hee;subst hee
       simp only [Aa,Ae] at hv
       obtain ⟨_,rfl⟩:=hv
       exact ⟨[u],vq h hl (ID hu hl) hu (λb hb ⟨r,hr,hf⟩=>hb.not h hlV hr hf) (λb hb=>hb.jb),rfl⟩
      ·cases hv
  by_cases VL: ∃l i c,a= .sub l i c
  ·obtain ⟨l,i,c,ea⟩:=VL;exact Qh l i c ea
  by_cases Ajp: ∃g Eg,a= .clo g Eg
  ·obtain ⟨g,Eg,ea⟩:=Ajp;exact Avi g Eg ea
  by_cases Ara: ∃l i,a= .Gy l i
  ·obtain ⟨l,i,ea⟩:=Ara;exact hvp l i ea
  by_cases aB: ∃l off len,a= .own l off len
  ·obtain ⟨l,off,len,ea⟩:=aB;exact own l off len ea
  have he:(if τ.flat||a.settled then (Dv st τ a).map λp=>(p.2,([]:List (Nat×Loc))) else none)=some (x,tks):=by
   cases a<;>first|exact he|exact absurd ⟨_,_,_,rfl⟩ aB|exact absurd ⟨_,_,rfl⟩ Ajp|exact absurd ⟨_,_,rfl⟩ Ara|exact absurd ⟨_,_,_,rfl⟩ VL
  split at he
  ·rename_i hc
   cases hv:Dv st τ a with
   |none=>rw [hv] at he;cases he
   |some p=>
    obtain ⟨fr,y⟩:=p
    rw [hv] at he
    simp only [Am,Aa,Ae] at he
    obtain ⟨rfl,rfl⟩:=he
    refine ⟨none,⟨rfl,?_⟩,rfl⟩
    have Iv: ∀f,Cw w (Dd X.w0.heap.size X.Sc π f) τ u y->Cw w (Pb X π V) τ u y:= λf hr=>hr.Iv λk _ hk=>hk.jb
    cases a with
    |data f Oq z=>
     rw [Od] at hv
     split at hv
     ·rename_i ht;subst ht
      simp only [Aa,Ae] at hv
      obtain ⟨_,rfl⟩:=hv
      exact Iv f hu
     ·have Uk:τ.Aq=false:=by unfold jk at hv;split at hv<;>first|rfl|cases hv
      exact Iv _ ⟨[u],dY hv hu,by simp [Cf,Uk]⟩
    |Lm=>
     have hu:u= .slice none 0 0:=hu
     subst hu
     cases τ<;>simp only [Dv,Aa,Ae,reduceCtorEq] at hv
     ·obtain ⟨_,rfl⟩:=hv;exact ⟨[_],⟨none,0,0,rfl,rfl,Ao _, .inl rfl⟩,rfl⟩
     ·obtain ⟨_,rfl⟩:=hv;exact ⟨[_], .inl ⟨rfl,0,rfl⟩,rfl⟩
    |Vo=>
     have hu:u= .pointer none:=hu
     subst hu
     cases τ<;>simp only [Dv,Aa,Ae,reduceCtorEq] at hv
     obtain ⟨_,rfl⟩:=hv;exact ⟨[_], .inl ⟨rfl,rfl⟩,rfl⟩
    |_=>cases τ<;>simp [AC.settled,Ty.flat,Dv] at hc hv
  ·cases he
 |row e te=>
  cases a<;>simp only [Mi] at he<;>try (cases he;done)
  ·simp only [Aa,Ae] at he
   obtain ⟨rfl,rfl⟩:=he
   have hu:u= .slice none 0 0:=hu
   exact ⟨none,⟨⟨hu,rfl,rfl⟩,rfl⟩,rfl⟩
  ·rename_i l off len
   split at he
   ·rename_i fr tr e' Rv xs hl
    split at he
    ·rename_i hc
     obtain ⟨rfl,rfl,rfl,rfl⟩:=hc
     simp only [Aa,Ae] at he
     obtain ⟨rfl,rfl⟩:=he
     unfold St.at at hl
     obtain ⟨_,h2⟩:=Oy hu hl
     refine ⟨(π l).map full,⟨aK h2,?_⟩,rfl,rfl,rfl,fr,tr,hl⟩
     have hb:=(h.heap l).Qs hl
     simp only [Cm,Ke] at hb
     cases hp:π l with
     |none=>rw [hp] at hb;exact hb
     |some q=>
      rw [hp] at hb
      obtain ⟨k1,cur,ti,k2,k3,k4,k5,k6,_⟩:=hb
      refine ⟨⟨k1.1,k1.2.1⟩,cur,ti,k2,k3,k4,k5,λi y hy=>?_⟩
      obtain ⟨es,g1,g2,g3⟩:=k6 i y hy
      exact ⟨es,g1,g2,Cells.Fg (Ao _) (λ_ _ _=>rfl) (λ_ _ hk=>hk.jb) e' es y g3⟩
    ·cases he
   ·cases he
  ·rename_i l i c
   split at he
   ·rename_i e' tid xs hl
    split at he
    ·rename_i hc
     obtain ⟨rfl,hf,CF,m5⟩:=hc
     cases hx:xs[i]? with
     |none=>rw [hx] at he;cases he
     |some y=>
      rw [hx] at he
      simp only [Am,Aa,Ae] at he
      obtain ⟨rfl,rfl⟩:=he
      unfold St.at at hl
      obtain ⟨r,r1,r2,_,r4⟩:=MJ h hl hx m5 hu
      exact ⟨r,⟨r1,r2 hf _⟩,⟨CF,hf⟩,tid,xs,hl,hx,r4⟩
    ·cases he
   ·cases he
 |Hp e te=>
  cases a<;>simp only [Mi] at he<;>try (cases he;done)
  ·simp only [Aa,Ae] at he
   obtain ⟨rfl,rfl⟩:=he
   have hu:u= .slice none 0 0:=hu
   exact ⟨none,⟨⟨hu,rfl,rfl⟩,rfl⟩,rfl⟩
  ·rename_i l off len
   split at he
   ·rename_i e' Rv xs hl
    split at he
    ·rename_i hc
     obtain ⟨rfl,rfl,rfl,rfl⟩:=hc
     simp only [Aa,Ae] at he
     obtain ⟨rfl,rfl⟩:=he
     unfold St.at at hl
     obtain ⟨_,h2⟩:=cN hu hl
     refine ⟨(π l).map full,⟨aK h2,?_⟩,rfl,rfl,rfl,hl⟩
     have hb:=(h.heap l).Qs hl
     simp only [Cm] at hb
     cases hp:π l with
     |none=>rw [hp] at hb;exact hb
     |some q=>rw [hp] at hb;exact hb
    ·cases he
   ·cases he
  ·rename_i l i c
   split at he
   ·rename_i e' tid xs hl
    split at he
    ·rename_i hc
     obtain ⟨rfl,CF,m5⟩:=hc
     cases hx:xs[i]? with
     |none=>rw [hx] at he;cases he
     |some y=>
      rw [hx] at he
      simp only [Am,Aa,Ae] at he
      obtain ⟨rfl,rfl⟩:=he
      unfold St.at at hl
      obtain ⟨r,r1,_,r3,r4⟩:=MJ h hl hx m5 hu
      exact ⟨r,⟨r1,r3 te⟩,CF,tid,xs,hl,hx,r4⟩
    ·cases he
   ·cases he
 |part e te=>
  cases a<;>simp only [Mi] at he<;>try (cases he;done)
  rename_i l off len
  split at he
  ·rename_i fr tr e' Rv xs hl
   split at he
   ·rename_i hc
    obtain ⟨rfl,rfl,hf,CF⟩:=hc
    simp only [Aa,Ae] at he
    obtain ⟨rfl,rfl⟩:=he
    unfold St.at at hl
    obtain ⟨h1,h2⟩:=Oy hu hl
    refine ⟨(π l).map full,⟨⟨aK h2,h1⟩,hf,?_⟩,hf,rfl,CF,fr,tr,hl⟩
    have hb:=(h.heap l).Qs hl
    simp only [Cm,Ke] at hb
    cases hp:π l with
    |none=>rw [hp] at hb;exact hb
    |some q=>
     rw [hp] at hb
     obtain ⟨k1,cur,ti,k2,k3,k4,k5,k6,_⟩:=hb
     refine ⟨⟨k1.1,k1.2.1⟩,cur,ti,k2,k3,k4,k5,λi y hy=>?_⟩
     obtain ⟨es,g1,g2,g3⟩:=k6 i y hy
     exact ⟨es,g1,g2,Cells.flat e' es y hf g3⟩
   ·cases he
  ·cases he
 |Bp e te kp=>
  cases a<;>simp only [Mi] at he<;>try (cases he;done)
  rename_i l off len
  split at he
  ·rename_i e' Rv rows kp' hl
   split at he
   ·rename_i hc
    obtain ⟨rfl,rfl,rfl,rfl,CF⟩:=hc
    simp only [Aa,Ae] at he
    obtain ⟨rfl,rfl⟩:=he
    unfold St.at at hl
    obtain ⟨h1,h2⟩:=pf hu hl
    refine ⟨(π l).map full,⟨aK h2,?_⟩,CF,rfl,rfl,rfl,kp',hl⟩
    have hb:=(h.heap l).Qs hl
    simp only [Cm] at hb
    have hb:=hb.1
    have hg:bd w (Dd X.w0.heap.size X.Sc π false) ((π l).map full) e' rows none:=by
     cases hp:π l with
     |none=>rw [hp] at hb;exact hb
     |some q=>rw [hp] at hb;exact hb
    exact hg.Fg (λ_ _ _ _ _=>rfl) λes x hc=>hc.but
   ·cases he
  ·cases he
end
end Go.Proofs.YtfgfigkbgecfnaaGreat
