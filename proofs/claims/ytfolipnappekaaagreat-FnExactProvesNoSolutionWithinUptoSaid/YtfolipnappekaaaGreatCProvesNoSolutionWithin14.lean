/-
  Part 15 of the proof that the statement FnExactProvesNoSolutionWithin holds.
-/
import Derived.Test.YtfolipnappekaaaGreatCProvesNoSolutionWithin13
namespace Go.Proofs.YtfolipnappekaaaGreat
open Go.RowKit
section
variable {P:Program} {T:Tab} {X:Ctx} {w w':World} {π π':Pi} {H H':List (Nat×OB)}
def full (r:Real):Real:= {r with cl:=r.Bg}
theorem Ax.pF: ∀(τ:Ty) (F:List Nat) (es:List Value) (x:τ.den),τ.flat=true->Ax w F τ es x->F= []
 | .int k,F,es,x,_,h=>h.1
 | .bool,F,es,x,_,h=>h.1
 | .str,F,es,x,_,h=>h.1
 | .unit,F,es,x,_,h=>h.1
 | .pair a r,F,es,x,hf,h=>by
  simp only [Ty.flat,Bool.and_eq_true] at hf
  simp only [Ax] at h
  obtain ⟨c1,c2,F1,F2,_,rfl,h1,h2⟩:=h
  rw [Ax.pF a F1 c1 x.1 hf.1 h1,Ax.pF r F2 c2 x.2 hf.2 h2]
  rfl
 | .slice _,_,_,_,hf,_=>by simp [Ty.flat] at hf
 | .oslice _,_,_,_,hf,_=>by simp [Ty.flat] at hf
 | .ptr _,_,_,_,hf,_=>by simp [Ty.flat] at hf
 | .optr _,_,_,_,hf,_=>by simp [Ty.flat] at hf
 | .smap _,_,_,_,hf,_=>by simp [Ty.flat] at hf
 | .clo _ _,_,_,_,hf,_=>by simp [Ty.flat] at hf
theorem jN {S P:Nat->Prop} {g o:Nat} {cur:Array Value} {e:Ty} {xs:List e.den} (hf:e.flat=true)
  (h: ∀(i:Nat) (x:e.den),xs[i]?=some x-> ∃es:List Value,es.length=e.size/\(∀j u,es[j]?=some u->cur[(o+i)*e.size+j]?=some u)/\Cells w S e es x):Sa w P g o cur e xs:=by
 refine ⟨List.replicate xs.length [],by simp,by simp,by simp,λi x F hx hF=>?_⟩
 obtain ⟨es,e1,e2,e3⟩:=h i x hx
 have:F= []:=List.eq_of_mem_replicate (List.mem_of_getElem? hF)
 subst this
 exact ⟨es,e1,e2,So e es x hf e3⟩
theorem Nq.HU {D:Nat->Prop} {r:Option Real} {e:Ty} {ys:List e.den} {u:Value} (h:Nq w D r e ys) (hf:e.flat=true) (hv:Ec r e.size 0 ys.length u):
  ∃F,Ax w F (.slice e) [u] ys/\F.Nodup/\ ∀b∈F,∃r',r=some r'/\r'.Bg b:=by
 cases r with
 |none=>
  obtain ⟨rfl,_,_⟩:=hv
  have h:ys= []:=h
  subst h
  exact ⟨[],⟨none,0,0,rfl,rfl,Nat.le_refl _, .inl ⟨rfl,rfl,rfl,rfl⟩⟩,List.nodup_nil,λb hb=>by cases hb⟩
 |some r=>
  obtain ⟨h1,cur,ti,h2,h3,h4,h5,h6⟩:=h
  obtain ⟨F,f1,f2,f3⟩:=fT (P:=r.Bg) h2 h3 h4 (by omega) hv (jN hf h6) h1.1
  exact ⟨F,by simpa using f1,f2,λb hb=>⟨r,rfl,f3 b hb⟩⟩
theorem Ji.HU {r:Option Real} {e:Ty} {te:TypeId} {ys:List e.den} {u:Value} (h:Ji w r e te ys) (hv:Ec r e.size 0 ys.length u):
  ∃F,Ax w F (.slice e) [u] ys/\F.Nodup/\ ∀b∈F,∃r',r=some r'/\r'.Bg b:=by
 cases r with
 |none=>
  obtain ⟨rfl,_,_⟩:=hv
  have h:ys= []:=h
  subst h
  exact ⟨[],⟨none,0,0,rfl,rfl,Nat.le_refl _, .inl ⟨rfl,rfl,rfl,rfl⟩⟩,List.nodup_nil,λb hb=>by cases hb⟩
 |some r=>
  obtain ⟨h1,cur,ti,h2,h3,h4,h5,h6⟩:=h
  obtain ⟨F,f1,f2,f3⟩:=fT (P:=r.Bg) h2 h3 h4 (by omega) hv h6 h1
  exact ⟨F,by simpa using f1,f2,λb hb=>⟨r,rfl,f3 b hb⟩⟩
theorem Ax.row {F:List Nat} {e:Ty} {u:Value} {xs:List e.den} (h:Ax w F (.slice e) [u] xs) (hn:F.Nodup):
  ∃r:Option Real,Ec r e.size 0 xs.length u/\(e.flat=true-> ∀D,Nq w D r e xs)/\(∀te,Ji w r e te xs)/\(∀r',r=some r'-> ∀b,r'.Bg b↔b∈F)/\(r=none->F= []):=by
 simp only [Ax] at h
 obtain ⟨a,len,cap,e0,e1,e2,h⟩:=h
 simp only [List.cons.injEq,and_true] at e0
 subst e0
 rcases h with ⟨rfl,rfl,rfl,rfl⟩|⟨ad,g,o,Fs,rfl,ha,⟨cur,ti,o',s1,s2,s3,s4⟩,rfl,hl,Fh⟩
 ·exact ⟨none,⟨by rw [e1];rfl,rfl,rfl⟩,λ_ _=>rfl,λ_=>rfl,(λr' h=>by cases h),λ_=>rfl⟩
 ·subst s2
  have gL: ∀(i:Nat) (x:e.den) (Fi:List Nat),xs[i]?=some x->Fs[i]?=some Fi-> ∃es:List Value,es.length=e.size/\(∀j u,es[j]?=some u->cur[(o'+i)*e.size+j]?=some u)/\Ax w Fi e es x:=by
   intro i x Fi hx hF
   obtain ⟨es,k1,k2,k3⟩:=Fh i x Fi hx hF
   refine ⟨es,k1,λj v hv=>?_,k3⟩
   have:=k2 j v hv
   rw [cellOf s1] at this
   rw [Nat.add_mul];exact this
  refine ⟨some ⟨g,o',cap,(· ∈g::List.flatten Fs),(· ∈g::List.flatten Fs)⟩,⟨ad,by rw [e1];rfl,by dsimp only;omega,λh0=>by rw [ha h0];rfl⟩,λhf D=>⟨⟨by simp,λb hb=>?_⟩,cur,ti,s1,s3,s4,by rw [<-e1];exact e2,λi x hx=>?_⟩,
   fun te=>⟨by simp,cur,ti,s1,s3,s4,by rw [<-e1];exact e2,Fs,hl,hn,λb hb=>by simp [hb],gL⟩,λr' hr b=>by cases hr;exact Iff.rfl,λh=>by cases h⟩
  ·rcases List.mem_cons.1 hb with hb|hb
   ·exact hb
   ·obtain ⟨Fi,h1,h2⟩:=List.mem_flatten.1 hb
    obtain ⟨i,hi,rfl⟩:=List.getElem_of_mem h1
    obtain ⟨es,_,_,k3⟩:=gL i (xs[i]'(by omega)) _ (List.getElem?_eq_getElem _) (List.getElem?_eq_getElem hi)
    rw [Ax.pF e _ _ _ hf k3] at h2
    cases h2
  ·have hi:i<Fs.length:=by have:=(List.getElem?_eq_some_iff.1 hx).1;omega
   obtain ⟨es,k1,k2,k3⟩:=gL i x _ hx (List.getElem?_eq_getElem hi)
   exact ⟨es,k1,k2,Cells.flat e es x hf (Ax.cells (S:= λ_=>False) _ e es x k3 λb hb=> λh=>h)⟩
theorem Ze: ∀(Fs:List (List Nat)) (i:Nat) (Fi F':List Nat),(List.flatten Fs).Nodup->Fs[i]?=some Fi->F'.Nodup->(∀b∈F',b∈Fi)->(List.flatten (Fs.set i F')).Nodup/\ ∀b∈List.flatten (Fs.set i F'),b∈List.flatten Fs
 | [],i,Fi,F',_,h,_,_=>by simp at h
 |G::Fs,0,Fi,F',hn,h,oL,hs=>by
  simp only [List.getElem?_cons_zero,Option.some.injEq] at h;subst h
  simp only [List.set_cons_zero,List.flatten_cons] at hn⊢
  obtain ⟨n1,n2,n3⟩:=List.nodup_append.1 hn
  refine ⟨List.nodup_append.2 ⟨oL,n2,λa ha b hb=>n3 a (hs a ha) b hb⟩,λb hb=>?_⟩
  rcases List.mem_append.1 hb with hb|hb
  ·exact List.mem_append_left _ (hs b hb)
  ·exact List.mem_append_right _ hb
 |G::Fs,i+1,Fi,F',hn,h,oL,hs=>by
  simp only [List.getElem?_cons_succ] at h
  simp only [List.set_cons_succ,List.flatten_cons] at hn⊢
  obtain ⟨n1,n2,n3⟩:=List.nodup_append.1 hn
  obtain ⟨m1,m2⟩:=Ze Fs i Fi F' n2 h oL hs
  refine ⟨List.nodup_append.2 ⟨n1,m1,λa ha b hb=>n3 a ha b (m2 b hb)⟩,λb hb=>?_⟩
  rcases List.mem_append.1 hb with hb|hb
  ·exact List.mem_append_left _ hb
  ·exact List.mem_append_right _ (m2 b hb)
theorem gF: ∀(Fs:List (List Nat)) (i j:Nat) (Fi Fj:List Nat) (b:Nat),(List.flatten Fs).Nodup->Fs[i]?=some Fi->Fs[j]?=some Fj->b∈Fi->b∈Fj->i=j
 | [],i,j,Fi,Fj,b,_,h,_,_,_=>by simp at h
 |G::Fs,0,0,_,_,_,_,_,_,_,_=>rfl
 |G::Fs,0,j+1,Fi,Fj,b,hn,h1,h2,h3,h4=>by
  simp only [List.getElem?_cons_zero,Option.some.injEq,List.getElem?_cons_succ] at h1 h2
  subst h1
  simp only [List.flatten_cons] at hn
  exact absurd rfl ((List.nodup_append.1 hn).2.2 b h3 b (List.mem_flatten.2 ⟨Fj,List.mem_of_getElem? h2,h4⟩))
 |G::Fs,i+1,0,Fi,Fj,b,hn,h1,h2,h3,h4=>by
  simp only [List.getElem?_cons_zero,Option.some.injEq,List.getElem?_cons_succ] at h1 h2
  subst h2
  simp only [List.flatten_cons] at hn
  exact absurd rfl ((List.nodup_append.1 hn).2.2 b h4 b (List.mem_flatten.2 ⟨Fi,List.mem_of_getElem? h1,h3⟩))
 |G::Fs,i+1,j+1,Fi,Fj,b,hn,h1,h2,h3,h4=>by
  simp only [List.getElem?_cons_succ] at h1 h2
  simp only [List.flatten_cons] at hn
  rw [gF Fs i j Fi Fj b (List.nodup_append.1 hn).2.1 h1 h2 h3 h4]
def vF (w:World) (π:Pi) (l i:Nat) (e:Ty) (tid:TypeId) (xs:List (List e.den)) (u:Value) (r:Option Real):Prop:=
 ∃q,π l=some q/\(∀r',r=some r'-> ∀b,r'.Bg b->q.Bg b/\b≠q.g)/\
  ∀(w':World) (ys:List e.den),w.heap.size<=w'.heap.size->(∀b,b<w.heap.size->q.Bg b->(∀r',r=some r'-> ¬r'.Bg b)->w'.heap[b]?=w.heap[b]?)->
   (∃F',Ax w' F' (.slice e) [u] ys/\F'.Nodup/\ ∀b∈F',∃r',r=some r'/\r'.Bg b)->Ji w' (some q) (.slice e) tid (xs.set i ys)
theorem BI (h:Im X w π H) {l i c:Nat} {e:Ty} {tid:TypeId} {xs:List (List e.den)} {x:List e.den} {u:Value} (hl:Ad H l=some (.Dg (.slice e) tid xs)) (hx:xs[i]?=some x) (hc:c=0)
  (hu:Dv X w π H (.sub l i c) u): ∃r,Ec r e.size 0 x.length u/\(e.flat=true-> ∀D,Nq w D r e x)/\(∀te,Ji w r e te x)/\vF w π l i e tid xs u r:=by
 subst hc
 obtain ⟨q,b0,sz0,n0,h1,lg,h2,h3,⟨h4,a,n,m,rfl⟩,h5⟩:=hu
 rw [hl] at h1;cases h1
 simp only [OB.cE,Option.some.injEq,Prod.mk.injEq] at lg
 obtain ⟨rfl,rfl⟩:=lg
 have hb:=(h.heap l).Md hl
 simp only [Av,Ji,h2] at hb
 obtain ⟨k1,cur,ti,k2,k3,k4,k5,Fs,t1,t2,t3,t4⟩:=hb
 have hi:i<Fs.length:=by have:=(List.getElem?_eq_some_iff.1 hx).1;omega
 have hFi:Fs[i]?=some Fs[i]:=List.getElem?_eq_getElem hi
 obtain ⟨es,e1,e2,e3⟩:=t4 i x _ hx hFi
 have e1':es.length=1:=e1
 obtain ⟨v,rfl⟩:=List.length_eq_one_iff.1 e1'
 have hv:v= .slice a n m:=by
  have:=e2 0 v rfl
  rw [cellOf k2] at h5
  rw [this] at h5;exact Option.some.inj h5
 subst hv
 have hn2:=(List.nodup_cons.1 t2).2
 have jW: ∀b∈Fs[i],b∈List.flatten Fs:= λb hb=>List.mem_flatten.2 ⟨_,List.getElem_mem hi,hb⟩
 have hnF:(Fs[i]).Nodup:=hn2.sublist (by
  have:=Vj (List.singleton_sublist.2 (List.getElem_mem hi))
  simpa using this)
 obtain ⟨r,r1,r2,r3,r4,r5⟩:=Ax.row e3 hnF
 refine ⟨r,r1,r2,r3,q,h2,λr' hr b hb=>?_,λw' ys hs hk ⟨F',f1,f2,f3⟩=>?_⟩
 ·have hb:=(r4 r' hr b).1 hb
  exact ⟨t3 b (jW b hb),λe=>(List.nodup_cons.1 t2).1 (e▸jW b hb)⟩
 ·have hF': ∀b∈F',b∈Fs[i]:= λb hb=>by
   obtain ⟨r',g1,g2⟩:=f3 b hb
   exact (r4 r' g1 b).1 g2
  have jU:=Ze Fs i _ F' hn2 hFi f2 hF'
  have hkg:w'.heap[q.g]?=w.heap[q.g]?:=hk q.g (Dd k2) k1 λr' hr hb=>(List.nodup_cons.1 t2).1 (jW _ ((r4 r' hr _).1 hb))
  refine ⟨k1,cur,ti,hkg.trans k2,k3,k4,by simpa using k5,Fs.set i F',by simp [t1],List.nodup_cons.2 ⟨λhm=>(List.nodup_cons.1 t2).1 (jU.2 _ hm),jU.1⟩,λb hb=>t3 b (jU.2 b hb),λj y F hy hF=>?_⟩
  rw [List.getElem?_set] at hy hF
  split at hy
  ·rename_i dN;subst dN
   rw [if_pos rfl] at hF
   rw [if_pos hi] at hF
   simp only [Option.some.injEq] at hF
   have hy:ys=y:=by simpa [h3] using hy
   subst hy;subst hF
   exact ⟨[.slice a n m],rfl,e2,f1⟩
  ·rename_i dN
   rw [if_neg dN] at hF
   obtain ⟨lf,g1,g2,g3⟩:=t4 j y F hy hF
   refine ⟨lf,g1,g2,g3.Cn _ _ _ _ hs λb hb=>?_⟩
   have RH:b∈List.flatten Fs:=List.mem_flatten.2 ⟨F,List.mem_of_getElem? hF,hb⟩
   exact hk b (g3.lt _ _ _ _ b hb) (t3 b RH) λr' hr rZ=>dN (gF Fs i j _ F b hn2 hFi hF ((r4 r' hr b).1 rZ) hb)
def Of (w:World) (π:Pi) (H:List (Nat×OB)) (io:Bool) (a:AC) (u:Value) (r:Option Real):(c:CK)->c.den->Prop
 | .Dm _,_=>r=none
 | .row e te,x=>match a with
  | .Hr=>r=none
  | .own l off len=>r=(π l).map full/\off=0/\len=List.length x/\ ∃fr tr,Ad H l=some (.arr fr tr e te x)
  | .sub l i _=>(io=true/\e.flat=true)/\ ∃tid xs,Ad H l=some (.Dg (.slice e) tid xs)/\xs[i]?=some x/\vF w π l i e tid xs u r
  |_=>False
 | .Du e te,x=>match a with
  | .Hr=>r=none
  | .own l off len=>r=(π l).map full/\off=0/\len=List.length x/\Ad H l=some (.Dg e te x)
  | .sub l i _=>io=true/\ ∃tid xs,Ad H l=some (.Dg (.slice e) tid xs)/\xs[i]?=some x/\vF w π l i e tid xs u r
  |_=>False
 | .part e te,x=>e.flat=true/\match a with
  | .own l _ _=>r=(π l).map full/\io=true/\ ∃fr tr,Ad H l=some (.arr fr tr e te x.1)
  |_=>False
 | .Al e te _,x=>io=false/\match a with
  | .own l off len=>r=(π l).map full/\off=0/\len=List.length x/\ ∃kp,Ad H l=some (.Al e te x none kp)
  |_=>False
theorem Uq {r:Option Real} {s off len:Nat} {v:Value} (h:Ec r s off len v):Ec (r.map full) s off len v:=by
 cases r<;>exact h
def Jy (X:Ctx) (π:Pi) (V:List Nat) (b:Nat):Prop:=(Qj π b/\ ∀l∈V,∀r,π l=some r-> ¬r.Bg b)\/X.Sc b
theorem Jy.not {V:List Nat} {b l:Nat} (hb:Jy X π V b) (h:Im X w π H) (hl:l∈V) {r:Real} (hr:π l=some r) (hf:r.Bg b):False:=by
 rcases hb with hb|hb
 ·exact hb.2 l hl r hr hf
 ·have h1:=h.sc b hb
  rcases (h.own ⟨l,r,hr,hf⟩).2 with h2|h2
  ·omega
  ·exact h1.2 h2
theorem Jy.dh {V:List Nat} {b:Nat} {B:Nat} {fr:Bool} (hb:Jy X π V b):Bj B X.Sc π fr b:=hb.elim (λh=> .inl h.1) λh=> .inr (.inl h)
theorem HX {st:St} {ls:List Nat} (h:Yg st ls=true) {l:Nat} (hl:l∈ls) {tid:TypeId} {vs:List AC} (hv:Ad st.heap l=some (.var tid vs)):vs.all (·.settled)=true:=by
 have:=List.all_eq_true.1 h l hl
 unfold St.at at this
 rw [hv] at this
 exact this
theorem Cells.but {V:List Nat} {f:Bool} {τ:Ty} {cs:List Value} {x:τ.den} (h:Cells w (Bj X.w0.heap.size X.Sc π f) τ cs x):Cells w (Jy X π V) τ cs x:=
 Cells.Cn (Nat.le_refl _) (λ_ _ _=>rfl) (λ_ _ hk=>hk.dh) τ cs x h
theorem eY {st:St} (h:Im X w π st.heap) {V:List Nat} {a:Ty} {l i:Nat} {fr:Bool} {x:a.den} (dP:Yg st [l]=true) (WR:l∈V) (hv:Oz st a l i=some (fr,x)) {r:Real} (hr:π l=some r):
  r.g<w.heap.size/\ ¬Jy X π V r.g/\ ∃es:List Value,es.length=a.size/\(∀j u,es[j]?=some u->w.cell? ⟨r.g,i+j,none⟩=some u)/\Cells w (Jy X π V) a es x:=by
 unfold Oz at hv
 split at hv
 ·rename_i tid vs hl
  unfold St.at at hl
  obtain ⟨r',h3,h4,cur,h5,h6⟩:=(h.heap l).Md hl
  rw [hr] at h3;cases h3
  have hs:=HX dP (List.mem_singleton.2 rfl) hl
  have zi:((vs.drop i).take a.size).all (·.settled)=true:=List.all_eq_true.2 λc hc=>List.all_eq_true.1 hs c (List.mem_of_mem_drop (List.mem_of_mem_take hc))
  have hc:=Zu a _ _ fr x zi (Ur h6 i a.size) hv
  refine ⟨Dd h5,λhb=>hb.not h WR hr h4,_,Cells.len a _ x hc,λj u hu=>?_,hc.but⟩
  rw [cellOf h5]
  rw [List.getElem?_take] at hu
  split at hu
  ·rw [List.getElem?_drop] at hu;simpa using hu
  ·cases hu
 ·cases hv
theorem BT {st:St} {l:Nat} {ls:List Nat} (h:Yg st (l::ls)=true):Yg st [l]=true/\Yg st ls=true:=by
 simp only [Yg,List.all_cons,List.all_nil,Bool.and_true,Bool.and_eq_true] at h⊢
 exact h
theorem xL {st:St} (h:Im X w π st.heap) {V:List Nat} : ∀(τ:Ty) (Ca:List (Nat×Nat)) (us:List Value) (fr:Bool) (x:τ.den),us.length=Ca.length->
  (∀(j:Nat) p,Ca[j]?=some p-> ∃r tid vs,Ad st.heap p.1=some (.var tid vs)/\π p.1=some r/\us[j]?=some (.pointer (some ⟨r.g,p.2,none⟩)))->
  Yg st (Ca.map (·.1))=true->(∀p∈Ca,p.1∈V)->Gp st τ Ca=some (fr,x)->Cells w (Jy X π V) τ us x:=by
 intro τ
 induction τ with
 |unit=>
  intro Ca us fr x hl hr _ _ hv
  cases Ca with
  |nil=>exact List.eq_nil_of_length_eq_zero hl
  |cons c cs=>simp [Gp] at hv
 |pair a r _ fv=>
  intro Ca us fr x hl hr dP hV hv
  cases a with
  |ptr a=>
   cases Ca with
   |nil=>simp [Gp] at hv
   |cons c cs=>
    obtain ⟨l,i⟩:=c
    simp only [Gp] at hv
    split at hv
    ·rename_i f1 y f2 z h1 h2
     simp only [Option.some.injEq,Prod.mk.injEq] at hv
     obtain ⟨rfl,rfl⟩:=hv
     cases us with
     |nil=>simp at hl
     |cons u us=>
      obtain ⟨r0,tid,vs,h3,h4,h5⟩:=hr 0 (l,i) rfl
      simp only [List.getElem?_cons_zero,Option.some.injEq] at h5
      subst h5
      obtain ⟨ok1,ok2⟩:=BT dP
      obtain ⟨h6,h7,es,h8,h9,lg⟩:=eY h ok1 (hV _ (List.mem_cons_self ..)) h1 h4
      exact ⟨[_],us,rfl,⟨r0.g,i,rfl,h6,h7,es,h8,h9,lg⟩,fv cs us f2 z (by simpa using hl) (λj p hp=>hr (j+1) p hp) ok2 (λp hp=>hV p (List.mem_cons_of_mem _ hp)) h2⟩
    ·cases hv
  |_=>cases Ca<;>simp [Gp] at hv
 |_=>intro Ca us fr x hl hr _ _ hv;cases Ca<;>simp [Gp] at hv
theorem OP {st:St} (h:Im X w π st.heap) {V:List Nat} {io:Bool} {k:Nat} {c:CK} {a:AC} {u:Value} (hu:Dv X w π st.heap a u) {x:c.den} {tks:List (Nat×Loc)} (he:Hl st io k c a=some (x,tks))
  (hV: ∀t∈tks,t.2.reads=true->t.2.Ro∈V): ∃r,bl w (Jy X π V) r u c x/\Of w π st.heap io a u r c x:=by
 cases c with
 |Dm τ=>
  have own: ∀l off len,a= .own l off len-> ∃r,bl w (Jy X π V) r u (.Dm τ) x/\Of w π st.heap io a u r (.Dm τ) x:=by
   intro l off len ea
   subst ea
   simp only [Hl] at he
   cases hv:Bp st τ (.own l off len) with
   |none=>rw [hv] at he;cases he
   |some p=>
    obtain ⟨fr,y⟩:=p
    rw [hv] at he
    simp only [Option.map_some,Option.some.injEq,Prod.mk.injEq] at he
    obtain ⟨rfl,rfl⟩:=he
    have WR:l∈V:=hV _ (List.mem_singleton.2 rfl) rfl
    refine ⟨none,⟨rfl,?_⟩,rfl⟩
    cases τ<;>simp only [Bp] at hv<;>try (cases hv;done)
    rename_i e
    cases hl:st.at l with
    |none=>rw [hl] at hv;cases hv
    |some b=>
     rw [hl] at hv
     unfold St.at at hl
     cases b<;>(try simp only [] at hv)<;>try (cases hv;done)
     ·rename_i pK xK e0 tid xs
      split at hv
      ·rename_i RL;subst RL
       simp only [Option.some.injEq,Prod.mk.injEq] at hv
       obtain ⟨_,rfl⟩:=hv
       obtain ⟨h1,h2⟩:=Jv hu hl
       exact ⟨[u],m4 h hl h1 h2 (λb hb ⟨r,hr,hf⟩=>hb.not h WR hr hf) (λb _ hb=>hb.dh),rfl⟩
      ·cases hv
     ·rename_i e0 tid xs
      split at hv
      ·rename_i RL;subst RL
       simp only [Option.some.injEq,Prod.mk.injEq] at hv
       obtain ⟨_,rfl⟩:=hv
       obtain ⟨h1,h2⟩:=Xy hu hl
       exact ⟨[u],jj h hl h1 h2 (λb hb ⟨r,hr,hf⟩=>hb.not h WR hr hf),rfl⟩
      ·cases hv
     ·rename_i e0 te0 rows out kp
      cases out with
      |some i=>cases hv
      |none=>
       simp only [] at hv
       split at hv
       ·rename_i RL;subst RL
        simp only [Option.some.injEq,Prod.mk.injEq] at hv
        obtain ⟨_,rfl⟩:=hv
        obtain ⟨h1,h2⟩:=kE hu hl
        exact ⟨[u],pN h hl h1 h2 (λb hb ⟨r,hr,hf⟩=>hb.not h WR hr hf) (λb hb=>hb.dh),rfl⟩
       ·cases hv
  have Alu: ∀g Ca,a= .clo g Ca-> ∃r,bl w (Jy X π V) r u (.Dm τ) x/\Of w π st.heap io a u r (.Dm τ) x:=by
   intro g Ca ea
   subst ea
   simp only [Hl] at he
   split at he
   ·rename_i hc
    simp only [Bool.and_eq_true,Bool.not_eq_true'] at hc
    obtain ⟨dP,Oi⟩:=hc
    cases hv:Fp st τ (.clo g Ca) with
    |none=>rw [hv] at he;cases he
    |some p=>
     obtain ⟨fr,y⟩:=p
     rw [hv] at he
     simp only [Option.map_some,Option.some.injEq,Prod.mk.injEq] at he
     obtain ⟨rfl,rfl⟩:=he
     have hcV: ∀p∈Ca,p.1∈V:= λp hp=>hV (Bu false k, .view p.1) (List.mem_map.2 ⟨p.1,List.mem_map.2 ⟨p,hp,rfl⟩,rfl⟩) rfl
     obtain ⟨us,rfl,h2,h3⟩:=hu
     refine ⟨none,⟨rfl,Bc.ko Oi ?_⟩,rfl⟩
     cases τ<;>simp only [Fp] at hv<;>try (simp only [Bp,reduceCtorEq] at hv;done)
     rename_i f0 c0
     split at hv
     ·rename_i hg
      obtain ⟨rfl,Ey⟩:=hg
      exact ⟨us,by rw [dt Ey],xL h c0 Ca us fr y h2 h3 dP hcV hv⟩
     ·cases hv
   ·cases he
  have hvp: ∀l i,a= .Dt l i-> ∃r,bl w (Jy X π V) r u (.Dm τ) x/\Of w π st.heap io a u r (.Dm τ) x:=by
   intro l i ea
   subst ea
   simp only [Hl] at he
   split at he
   ·rename_i hc
    simp only [Bool.and_eq_true,Bool.not_eq_true'] at hc
    obtain ⟨dP,Oi⟩:=hc
    cases hv:Fp st τ (.Dt l i) with
    |none=>rw [hv] at he;cases he
    |some p=>
     obtain ⟨fr,y⟩:=p
     rw [hv] at he
     simp only [Option.map_some,Option.some.injEq,Prod.mk.injEq] at he
     obtain ⟨rfl,rfl⟩:=he
     have WR:l∈V:=hV (Bu false k, .view l) (List.mem_map.2 ⟨l,List.mem_singleton.2 rfl,rfl⟩) rfl
     obtain ⟨r,tid,vs,h1,h2,rfl⟩:=hu
     refine ⟨none,⟨rfl,Bc.ko Oi ?_⟩,rfl⟩
     cases τ<;>simp only [Fp] at hv<;>try (simp only [Bp,reduceCtorEq] at hv;done)
     ·obtain ⟨h6,h7,h8⟩:=eY h dP WR hv h2
      exact ⟨r.g,i,rfl,h6,h7,h8⟩
     ·rename_i a
      cases hp:Oz st a l i with
      |none=>rw [hp] at hv;cases hv
      |some p=>
       rw [hp] at hv
       simp only [Option.map_some,Option.some.injEq,Prod.mk.injEq] at hv
       obtain ⟨_,rfl⟩:=hv
       obtain ⟨h6,h7,h8⟩:=eY h dP WR hp h2
       exact .inr ⟨_,r.g,i,rfl,rfl,h6,h7,h8⟩
   ·cases he
  have Kz: ∀l i c,a= .sub l i c-> ∃r,bl w (Jy X π V) r u (.Dm τ) x/\Of w π st.heap io a u r (.Dm τ) x:=by
   intro l i c ea
   subst ea
   simp only [Hl] at he
   cases hv:Bp st τ (.sub l i c) with
   |none=>rw [hv] at he;cases he
   |some p=>
    obtain ⟨fr,y⟩:=p
    rw [hv] at he
    simp only [Option.map_some,Option.some.injEq,Prod.mk.injEq] at he
    obtain ⟨rfl,rfl⟩:=he
    have WR:l∈V:=hV _ (List.mem_singleton.2 rfl) rfl
    refine ⟨none,⟨rfl,?_⟩,rfl⟩
    cases τ<;>simp only [Bp] at hv<;>try (cases hv;done)
    rename_i e
    cases hl:st.at l with
    |none=>rw [hl] at hv;cases hv
    |some b=>
     rw [hl] at hv
     unfold St.at at hl
     cases b<;>(try simp only [] at hv)<;>try (cases hv;done)
     rename_i e0 te0 rows out kp
     cases out with
     |some i=>cases hv
     |none=>
      simp only [] at hv
      split at hv
      ·rename_i RL;subst RL
       simp only [Option.some.injEq,Prod.mk.injEq] at hv
       obtain ⟨_,rfl⟩:=hv
       exact ⟨[u],pO h hl (yZ hu hl) hu (λb hb ⟨r,hr,hf⟩=>hb.not h WR hr hf) (λb hb=>hb.dh),rfl⟩
      ·cases hv
  by_cases JX: ∃l i c,a= .sub l i c
  ·obtain ⟨l,i,c,ea⟩:=JX;exact Kz l i c ea
  by_cases Aab: ∃g Ca,a= .clo g Ca
  ·obtain ⟨g,Ca,ea⟩:=Aab;exact Alu g Ca ea
  by_cases Ahr: ∃l i,a= .Dt l i
  ·obtain ⟨l,i,ea⟩:=Ahr;exact hvp l i ea
  by_cases aK: ∃l off len,a= .own l off len
  ·obtain ⟨l,off,len,ea⟩:=aK;exact own l off len ea
  have he:(if τ.flat||a.settled then (Bp st τ a).map λp=>(p.2,([]:List (Nat×Loc))) else none)=some (x,tks):=by
   cases a<;>first|exact he|exact absurd ⟨_,_,_,rfl⟩ aK|exact absurd ⟨_,_,rfl⟩ Aab|exact absurd ⟨_,_,rfl⟩ Ahr|exact absurd ⟨_,_,_,rfl⟩ JX
  split at he
  ·rename_i hc
   cases hv:Bp st τ a with
   |none=>rw [hv] at he;cases he
   |some p=>
    obtain ⟨fr,y⟩:=p
    rw [hv] at he
    simp only [Option.map_some,Option.some.injEq,Prod.mk.injEq] at he
    obtain ⟨rfl,rfl⟩:=he
    refine ⟨none,⟨rfl,?_⟩,rfl⟩
    have En: ∀f,Bc w (Bj X.w0.heap.size X.Sc π f) τ u y->Bc w (Jy X π V) τ u y:= λf hr=>hr.En λk _ hk=>hk.dh
    cases a with
    |data f Jr z=>
     rw [Jh] at hv
     split at hv
     ·rename_i ht;subst ht
      simp only [Option.some.injEq,Prod.mk.injEq] at hv
      obtain ⟨_,rfl⟩:=hv
      exact En f hu
     ·have Oq:τ.Ac=false:=by unfold dw at hv;split at hv<;>first|rfl|cases hv
      exact En _ ⟨[u],Zx hv hu,by simp [Au,Oq]⟩
    |Hr=>
     have hu:u= .slice none 0 0:=hu
     subst hu
     cases τ<;>simp only [Bp,Option.some.injEq,Prod.mk.injEq,reduceCtorEq] at hv
     ·obtain ⟨_,rfl⟩:=hv;exact ⟨[_],⟨none,0,0,rfl,rfl,Nat.le_refl _, .inl rfl⟩,rfl⟩
     ·obtain ⟨_,rfl⟩:=hv;exact ⟨[_], .inl ⟨rfl,0,rfl⟩,rfl⟩
    |Rp=>
     have hu:u= .pointer none:=hu
     subst hu
     cases τ<;>simp only [Bp,Option.some.injEq,Prod.mk.injEq,reduceCtorEq] at hv
     obtain ⟨_,rfl⟩:=hv;exact ⟨[_], .inl ⟨rfl,rfl⟩,rfl⟩
    |_=>cases τ<;>simp [AC.settled,Ty.flat,Bp] at hc hv
  ·cases he
 |row e te=>
  cases a<;>simp only [Hl] at he<;>try (cases he;done)
  ·simp only [Option.some.injEq,Prod.mk.injEq] at he
   obtain ⟨rfl,rfl⟩:=he
   have hu:u= .slice none 0 0:=hu
   exact ⟨none,⟨⟨hu,rfl,rfl⟩,rfl⟩,rfl⟩
  ·rename_i l off len
   split at he
   ·rename_i fr tr e' Mf xs hl
    split at he
    ·rename_i hc
     obtain ⟨rfl,rfl,rfl,rfl⟩:=hc
     simp only [Option.some.injEq,Prod.mk.injEq] at he
     obtain ⟨rfl,rfl⟩:=he
     unfold St.at at hl
     obtain ⟨_,h2⟩:=Jv hu hl
     refine ⟨(π l).map full,⟨Uq h2,?_⟩,rfl,rfl,rfl,fr,tr,hl⟩
     have hb:=(h.heap l).Md hl
     simp only [Av,Fv] at hb
     cases hp:π l with
     |none=>rw [hp] at hb;exact hb
     |some q=>
      rw [hp] at hb
      obtain ⟨k1,cur,ti,k2,k3,k4,k5,k6,_⟩:=hb
      refine ⟨⟨k1.1,k1.2.1⟩,cur,ti,k2,k3,k4,k5,λi y hy=>?_⟩
      obtain ⟨es,g1,g2,g3⟩:=k6 i y hy
      exact ⟨es,g1,g2,Cells.Cn (Nat.le_refl _) (λ_ _ _=>rfl) (λ_ _ hk=>hk.dh) e' es y g3⟩
    ·cases he
   ·cases he
  ·rename_i l i c
   split at he
   ·rename_i e' tid xs hl
    split at he
    ·rename_i hc
     obtain ⟨rfl,hf,wb,gI⟩:=hc
     cases hx:xs[i]? with
     |none=>rw [hx] at he;cases he
     |some y=>
      rw [hx] at he
      simp only [Option.map_some,Option.some.injEq,Prod.mk.injEq] at he
      obtain ⟨rfl,rfl⟩:=he
      unfold St.at at hl
      obtain ⟨r,r1,r2,_,r4⟩:=BI h hl hx gI hu
      exact ⟨r,⟨r1,r2 hf _⟩,⟨wb,hf⟩,tid,xs,hl,hx,r4⟩
    ·cases he
   ·cases he
 |Du e te=>
  cases a<;>simp only [Hl] at he<;>try (cases he;done)
  ·simp only [Option.some.injEq,Prod.mk.injEq] at he
   obtain ⟨rfl,rfl⟩:=he
   have hu:u= .slice none 0 0:=hu
   exact ⟨none,⟨⟨hu,rfl,rfl⟩,rfl⟩,rfl⟩
  ·rename_i l off len
   split at he
   ·rename_i e' Mf xs hl
    split at he
    ·rename_i hc
     obtain ⟨rfl,rfl,rfl,rfl⟩:=hc
     simp only [Option.some.injEq,Prod.mk.injEq] at he
     obtain ⟨rfl,rfl⟩:=he
     unfold St.at at hl
     obtain ⟨_,h2⟩:=Xy hu hl
     refine ⟨(π l).map full,⟨Uq h2,?_⟩,rfl,rfl,rfl,hl⟩
     have hb:=(h.heap l).Md hl
     simp only [Av] at hb
     cases hp:π l with
     |none=>rw [hp] at hb;exact hb
     |some q=>rw [hp] at hb;exact hb
    ·cases he
   ·cases he
  ·rename_i l i c
   split at he
   ·rename_i e' tid xs hl
    split at he
    ·rename_i hc
     obtain ⟨rfl,wb,gI⟩:=hc
     cases hx:xs[i]? with
     |none=>rw [hx] at he;cases he
     |some y=>
      rw [hx] at he
      simp only [Option.map_some,Option.some.injEq,Prod.mk.injEq] at he
      obtain ⟨rfl,rfl⟩:=he
      unfold St.at at hl
      obtain ⟨r,r1,_,r3,r4⟩:=BI h hl hx gI hu
      exact ⟨r,⟨r1,r3 te⟩,wb,tid,xs,hl,hx,r4⟩
    ·cases he
   ·cases he
 |part e te=>
  cases a<;>simp only [Hl] at he<;>try (cases he;done)
  rename_i l off len
  split at he
  ·rename_i fr tr e' Mf xs hl
   split at he
   ·rename_i hc
    obtain ⟨rfl,rfl,hf,wb⟩:=hc
    simp only [Option.some.injEq,Prod.mk.injEq] at he
    obtain ⟨rfl,rfl⟩:=he
    unfold St.at at hl
    obtain ⟨h1,h2⟩:=Jv hu hl
    refine ⟨(π l).map full,⟨⟨Uq h2,h1⟩,hf,?_⟩,hf,rfl,wb,fr,tr,hl⟩
    have hb:=(h.heap l).Md hl
    simp only [Av,Fv] at hb
    cases hp:π l with
    |none=>rw [hp] at hb;exact hb
    |some q=>
     rw [hp] at hb
     obtain ⟨k1,cur,ti,k2,k3,k4,k5,k6,_⟩:=hb
     refine ⟨⟨k1.1,k1.2.1⟩,cur,ti,k2,k3,k4,k5,λi y hy=>?_⟩
     obtain ⟨es,g1,g2,g3⟩:=k6 i y hy
     exact ⟨es,g1,g2,Cells.flat e' es y hf g3⟩
   ·cases he
  ·cases he
 |Al e te kp=>
  cases a<;>simp only [Hl] at he<;>try (cases he;done)
  rename_i l off len
  split at he
  ·rename_i e' Mf rows kp' hl
   split at he
   ·rename_i hc
    obtain ⟨rfl,rfl,rfl,rfl,wb⟩:=hc
    simp only [Option.some.injEq,Prod.mk.injEq] at he
    obtain ⟨rfl,rfl⟩:=he
    unfold St.at at hl
    obtain ⟨h1,h2⟩:=kE hu hl
    refine ⟨(π l).map full,⟨Uq h2,?_⟩,wb,rfl,rfl,rfl,kp',hl⟩
    have hb:=(h.heap l).Md hl
    simp only [Av] at hb
    have hb:=hb.1
    have hg:Vm w (Bj X.w0.heap.size X.Sc π false) ((π l).map full) e' rows none:=by
     cases hp:π l with
     |none=>rw [hp] at hb;exact hb
     |some q=>rw [hp] at hb;exact hb
    exact hg.Cn (λ_ _ _ _ _=>rfl) λes x hc=>hc.but
   ·cases he
  ·cases he
end
end Go.Proofs.YtfolipnappekaaaGreat
