/-
  Part 15 of the proof that the statement FnExactSolutionsAtDepth holds.
-/
import Derived.Test.YtfolipnappekaaaGreatCSolutionsAtDepth13
namespace Go.Proofs.YtfolipnappekaaaGreat
open Go.RowKit
section
variable {P:Program} {T:Tab} {X:Ctx} {w w':World} {π π':Pi} {H H':List (Nat×OB)}
def full (r:Real):Real:= {r with cl:=r.Bg}
theorem Ax.px: ∀(τ:Ty) (F:List Nat) (es:List Value) (x:τ.den),τ.flat=true->Ax w F τ es x->F= []
 | .int k,F,es,x,_,h=>h.1
 | .bool,F,es,x,_,h=>h.1
 | .str,F,es,x,_,h=>h.1
 | .unit,F,es,x,_,h=>h.1
 | .pair a r,F,es,x,hf,h=>by
  simp only [Ty.flat,Bool.and_eq_true] at hf
  simp only [Ax] at h
  obtain ⟨c1,c2,F1,F2,_,rfl,h1,h2⟩:=h
  rw [Ax.px a F1 c1 x.1 hf.1 h1,Ax.px r F2 c2 x.2 hf.2 h2]
  rfl
 | .slice _,_,_,_,hf,_=>by simp [Ty.flat] at hf
 | .oslice _,_,_,_,hf,_=>by simp [Ty.flat] at hf
 | .ptr _,_,_,_,hf,_=>by simp [Ty.flat] at hf
 | .optr _,_,_,_,hf,_=>by simp [Ty.flat] at hf
 | .smap _,_,_,_,hf,_=>by simp [Ty.flat] at hf
 | .clo _ _,_,_,_,hf,_=>by simp [Ty.flat] at hf
theorem jF {S P:Nat->Prop} {g o:Nat} {cur:Array Value} {e:Ty} {xs:List e.den} (hf:e.flat=true)
  (h: ∀(i:Nat) (x:e.den),xs[i]?=some x-> ∃es:List Value,es.length=e.size/\(∀j u,es[j]?=some u->cur[(o+i)*e.size+j]?=some u)/\Cells w S e es x):Rz w P g o cur e xs:=by
 refine ⟨List.replicate xs.length [],by simp,by simp,by simp,λi x F hx hF=>?_⟩
 obtain ⟨es,e1,e2,e3⟩:=h i x hx
 have:F= []:=List.eq_of_mem_replicate (List.mem_of_getElem? hF)
 subst this
 exact ⟨es,e1,e2,Sl e es x hf e3⟩
theorem No.HM {D:Nat->Prop} {r:Option Real} {e:Ty} {ys:List e.den} {u:Value} (h:No w D r e ys) (hf:e.flat=true) (hv:Ed r e.size 0 ys.length u):
  ∃F,Ax w F (.slice e) [u] ys/\F.Nodup/\ ∀b∈F,∃r',r=some r'/\r'.Bg b:=by
 cases r with
 |none=>
  obtain ⟨rfl,_,_⟩:=hv
  have h:ys= []:=h
  subst h
  exact ⟨[],⟨none,0,0,rfl,rfl,Nat.le_refl _, .inl ⟨rfl,rfl,rfl,rfl⟩⟩,List.nodup_nil,λb hb=>by cases hb⟩
 |some r=>
  obtain ⟨h1,cur,ti,h2,h3,h4,h5,h6⟩:=h
  obtain ⟨F,f1,f2,f3⟩:=fQ (P:=r.Bg) h2 h3 h4 (by omega) hv (jF hf h6) h1.1
  exact ⟨F,by simpa using f1,f2,λb hb=>⟨r,rfl,f3 b hb⟩⟩
theorem Jg.HM {r:Option Real} {e:Ty} {te:TypeId} {ys:List e.den} {u:Value} (h:Jg w r e te ys) (hv:Ed r e.size 0 ys.length u):
  ∃F,Ax w F (.slice e) [u] ys/\F.Nodup/\ ∀b∈F,∃r',r=some r'/\r'.Bg b:=by
 cases r with
 |none=>
  obtain ⟨rfl,_,_⟩:=hv
  have h:ys= []:=h
  subst h
  exact ⟨[],⟨none,0,0,rfl,rfl,Nat.le_refl _, .inl ⟨rfl,rfl,rfl,rfl⟩⟩,List.nodup_nil,λb hb=>by cases hb⟩
 |some r=>
  obtain ⟨h1,cur,ti,h2,h3,h4,h5,h6⟩:=h
  obtain ⟨F,f1,f2,f3⟩:=fQ (P:=r.Bg) h2 h3 h4 (by omega) hv h6 h1
  exact ⟨F,by simpa using f1,f2,λb hb=>⟨r,rfl,f3 b hb⟩⟩
theorem Ax.row {F:List Nat} {e:Ty} {u:Value} {xs:List e.den} (h:Ax w F (.slice e) [u] xs) (hn:F.Nodup):
  ∃r:Option Real,Ed r e.size 0 xs.length u/\(e.flat=true-> ∀D,No w D r e xs)/\(∀te,Jg w r e te xs)/\(∀r',r=some r'-> ∀b,r'.Bg b↔b∈F)/\(r=none->F= []):=by
 simp only [Ax] at h
 obtain ⟨a,len,cap,e0,e1,e2,h⟩:=h
 simp only [List.cons.injEq,and_true] at e0
 subst e0
 rcases h with ⟨rfl,rfl,rfl,rfl⟩|⟨ad,g,o,Fs,rfl,ha,⟨cur,ti,o',s1,s2,s3,s4⟩,rfl,hl,Gc⟩
 ·exact ⟨none,⟨by rw [e1];rfl,rfl,rfl⟩,λ_ _=>rfl,λ_=>rfl,(λr' h=>by cases h),λ_=>rfl⟩
 ·subst s2
  have gI: ∀(i:Nat) (x:e.den) (Fi:List Nat),xs[i]?=some x->Fs[i]?=some Fi-> ∃es:List Value,es.length=e.size/\(∀j u,es[j]?=some u->cur[(o'+i)*e.size+j]?=some u)/\Ax w Fi e es x:=by
   intro i x Fi hx hF
   obtain ⟨es,k1,k2,k3⟩:=Gc i x Fi hx hF
   refine ⟨es,k1,λj v hv=>?_,k3⟩
   have:=k2 j v hv
   rw [cellOf s1] at this
   rw [Nat.add_mul];exact this
  refine ⟨some ⟨g,o',cap,(· ∈g::List.flatten Fs),(· ∈g::List.flatten Fs)⟩,⟨ad,by rw [e1];rfl,by dsimp only;omega,λh0=>by rw [ha h0];rfl⟩,λhf D=>⟨⟨by simp,λb hb=>?_⟩,cur,ti,s1,s3,s4,by rw [<-e1];exact e2,λi x hx=>?_⟩,
   fun te=>⟨by simp,cur,ti,s1,s3,s4,by rw [<-e1];exact e2,Fs,hl,hn,λb hb=>by simp [hb],gI⟩,λr' hr b=>by cases hr;exact Iff.rfl,λh=>by cases h⟩
  ·rcases List.mem_cons.1 hb with hb|hb
   ·exact hb
   ·obtain ⟨Fi,h1,h2⟩:=List.mem_flatten.1 hb
    obtain ⟨i,hi,rfl⟩:=List.getElem_of_mem h1
    obtain ⟨es,_,_,k3⟩:=gI i (xs[i]'(by omega)) _ (List.getElem?_eq_getElem _) (List.getElem?_eq_getElem hi)
    rw [Ax.px e _ _ _ hf k3] at h2
    cases h2
  ·have hi:i<Fs.length:=by have:=(List.getElem?_eq_some_iff.1 hx).1;omega
   obtain ⟨es,k1,k2,k3⟩:=gI i x _ hx (List.getElem?_eq_getElem hi)
   exact ⟨es,k1,k2,Cells.flat e es x hf (Ax.cells (S:= λ_=>False) _ e es x k3 λb hb=> λh=>h)⟩
theorem Yz: ∀(Fs:List (List Nat)) (i:Nat) (Fi F':List Nat),(List.flatten Fs).Nodup->Fs[i]?=some Fi->F'.Nodup->(∀b∈F',b∈Fi)->(List.flatten (Fs.set i F')).Nodup/\ ∀b∈List.flatten (Fs.set i F'),b∈List.flatten Fs
 | [],i,Fi,F',_,h,_,_=>by simp at h
 |G::Fs,0,Fi,F',hn,h,oD,hs=>by
  simp only [List.getElem?_cons_zero,Option.some.injEq] at h;subst h
  simp only [List.set_cons_zero,List.flatten_cons] at hn⊢
  obtain ⟨n1,n2,n3⟩:=List.nodup_append.1 hn
  refine ⟨List.nodup_append.2 ⟨oD,n2,λa ha b hb=>n3 a (hs a ha) b hb⟩,λb hb=>?_⟩
  rcases List.mem_append.1 hb with hb|hb
  ·exact List.mem_append_left _ (hs b hb)
  ·exact List.mem_append_right _ hb
 |G::Fs,i+1,Fi,F',hn,h,oD,hs=>by
  simp only [List.getElem?_cons_succ] at h
  simp only [List.set_cons_succ,List.flatten_cons] at hn⊢
  obtain ⟨n1,n2,n3⟩:=List.nodup_append.1 hn
  obtain ⟨m1,m2⟩:=Yz Fs i Fi F' n2 h oD hs
  refine ⟨List.nodup_append.2 ⟨n1,m1,λa ha b hb=>n3 a ha b (m2 b hb)⟩,λb hb=>?_⟩
  rcases List.mem_append.1 hb with hb|hb
  ·exact List.mem_append_left _ hb
  ·exact List.mem_append_right _ (m2 b hb)
theorem gC: ∀(Fs:List (List Nat)) (i j:Nat) (Fi Fj:List Nat) (b:Nat),(List.flatten Fs).Nodup->Fs[i]?=some Fi->Fs[j]?=some Fj->b∈Fi->b∈Fj->i=j
 | [],i,j,Fi,Fj,b,_,h,_,_,_=>by simp at h
 |G::Fs,0,0,_,_,_,_,_,_,_,_=>rfl
 |G::Fs,0,j+1,Fi,Fj,b,hn,h1,h2,h3,h4=>by
  simp only [List.getElem?_cons_zero,Option.some.injEq,List.getElem?_cons_succ] at h1 h2
  subst h1
  simp only [List.flatten_cons] at hn
  exact absurd rfl ((List.nodup_append.1 hn).2.2 b h3 b (List.mem_flatten.2 ⟨Fj,List.mem_of_getElem? h2,h4⟩))
 |G::Fs,i+1,0,Fi,Fj,b,hn,h1,h2,h3,h4=>by
  simp only [List.getElem?_cons_zero,Option.some.injEq,List.getElem?_cons_succ] at h1 h2
  subst h2
  simp only [List.flatten_cons] at hn
  exact absurd rfl ((List.nodup_append.1 hn).2.2 b h4 b (List.mem_flatten.2 ⟨Fi,List.mem_of_getElem? h1,h3⟩))
 |G::Fs,i+1,j+1,Fi,Fj,b,hn,h1,h2,h3,h4=>by
  simp only [List.getElem?_cons_succ] at h1 h2
  simp only [List.flatten_cons] at hn
  rw [gC Fs i j Fi Fj b (List.nodup_append.1 hn).2.1 h1 h2 h3 h4]
def vu (w:World) (π:Pi) (l i:Nat) (e:Ty) (tid:TypeId) (xs:List (List e.den)) (u:Value) (r:Option Real):Prop:=
 ∃q,π l=some q/\(∀r',r=some r'-> ∀b,r'.Bg b->q.Bg b/\b≠q.g)/\
  ∀(w':World) (ys:List e.den),w.heap.size<=w'.heap.size->(∀b,b<w.heap.size->q.Bg b->(∀r',r=some r'-> ¬r'.Bg b)->w'.heap[b]?=w.heap[b]?)->
   (∃F',Ax w' F' (.slice e) [u] ys/\F'.Nodup/\ ∀b∈F',∃r',r=some r'/\r'.Bg b)->Jg w' (some q) (.slice e) tid (xs.set i ys)
theorem AX (h:Im X w π H) {l i c:Nat} {e:Ty} {tid:TypeId} {xs:List (List e.den)} {x:List e.den} {u:Value} (hl:Ad H l=some (.Dg (.slice e) tid xs)) (hx:xs[i]?=some x) (hc:c=0)
  (hu:Dw X w π H (.sub l i c) u): ∃r,Ed r e.size 0 x.length u/\(e.flat=true-> ∀D,No w D r e x)/\(∀te,Jg w r e te x)/\vu w π l i e tid xs u r:=by
 subst hc
 obtain ⟨q,b0,sz0,n0,h1,l6,h2,h3,⟨h4,a,n,m,rfl⟩,h5⟩:=hu
 rw [hl] at h1;cases h1
 simp only [OB.cz,Option.some.injEq,Prod.mk.injEq] at l6
 obtain ⟨rfl,rfl⟩:=l6
 have hb:=(h.heap l).Ma hl
 simp only [Av,Jg,h2] at hb
 obtain ⟨k1,cur,ti,k2,k3,k4,k5,Fs,t1,t2,t3,t4⟩:=hb
 have hi:i<Fs.length:=by have:=(List.getElem?_eq_some_iff.1 hx).1;omega
 have hFi:Fs[i]?=some Fs[i]:=List.getElem?_eq_getElem hi
 obtain ⟨es,e1,e2,e3⟩:=t4 i x _ hx hFi
 have e1':es.length=1:=e1
 obtain ⟨v,rfl⟩:=List.length_eq_one_iff.1 e1'
 have hv:v= .slice a n m:=by
  have:=e2 0 v rfl
  rw [cellOf k2] at h5
  rw [this] at h5;exact Option.some.inj h5
 subst hv
 have hn2:=(List.nodup_cons.1 t2).2
 have jO: ∀b∈Fs[i],b∈List.flatten Fs:= λb hb=>List.mem_flatten.2 ⟨_,List.getElem_mem hi,hb⟩
 have hnF:(Fs[i]).Nodup:=hn2.sublist (by
  have:=Vf (List.singleton_sublist.2 (List.getElem_mem hi))
  simpa using this)
 obtain ⟨r,r1,r2,r3,r4,r5⟩:=Ax.row e3 hnF
 refine ⟨r,r1,r2,r3,q,h2,λr' hr b hb=>?_,λw' ys hs hk ⟨F',f1,f2,f3⟩=>?_⟩
 ·have hb:=(r4 r' hr b).1 hb
  exact ⟨t3 b (jO b hb),λe=>(List.nodup_cons.1 t2).1 (e▸jO b hb)⟩
 ·have hF': ∀b∈F',b∈Fs[i]:= λb hb=>by
   obtain ⟨r',g1,g2⟩:=f3 b hb
   exact (r4 r' g1 b).1 g2
  have jM:=Yz Fs i _ F' hn2 hFi f2 hF'
  have hkg:w'.heap[q.g]?=w.heap[q.g]?:=hk q.g (Dd k2) k1 λr' hr hb=>(List.nodup_cons.1 t2).1 (jO _ ((r4 r' hr _).1 hb))
  refine ⟨k1,cur,ti,hkg.trans k2,k3,k4,by simpa using k5,Fs.set i F',by simp [t1],List.nodup_cons.2 ⟨λhm=>(List.nodup_cons.1 t2).1 (jM.2 _ hm),jM.1⟩,λb hb=>t3 b (jM.2 b hb),λj y F hy hF=>?_⟩
  rw [List.getElem?_set] at hy hF
  split at hy
  ·rename_i dI;subst dI
   rw [if_pos rfl] at hF
   rw [if_pos hi] at hF
   simp only [Option.some.injEq] at hF
   have hy:ys=y:=by simpa [h3] using hy
   subst hy;subst hF
   exact ⟨[.slice a n m],rfl,e2,f1⟩
  ·rename_i dI
   rw [if_neg dI] at hF
   obtain ⟨l5,g1,g2,g3⟩:=t4 j y F hy hF
   refine ⟨l5,g1,g2,g3.Cn _ _ _ _ hs λb hb=>?_⟩
   have QU:b∈List.flatten Fs:=List.mem_flatten.2 ⟨F,List.mem_of_getElem? hF,hb⟩
   exact hk b (g3.lt _ _ _ _ b hb) (t3 b QU) λr' hr rR=>dI (gC Fs i j _ F b hn2 hFi hF ((r4 r' hr b).1 rR) hb)
def Od (w:World) (π:Pi) (H:List (Nat×OB)) (io:Bool) (a:AC) (u:Value) (r:Option Real):(c:CK)->c.den->Prop
 | .Dn _,_=>r=none
 | .row e te,x=>match a with
  | .Hr=>r=none
  | .own l off len=>r=(π l).map full/\off=0/\len=List.length x/\ ∃fr tr,Ad H l=some (.arr fr tr e te x)
  | .sub l i _=>(io=true/\e.flat=true)/\ ∃tid xs,Ad H l=some (.Dg (.slice e) tid xs)/\xs[i]?=some x/\vu w π l i e tid xs u r
  |_=>False
 | .Dv e te,x=>match a with
  | .Hr=>r=none
  | .own l off len=>r=(π l).map full/\off=0/\len=List.length x/\Ad H l=some (.Dg e te x)
  | .sub l i _=>io=true/\ ∃tid xs,Ad H l=some (.Dg (.slice e) tid xs)/\xs[i]?=some x/\vu w π l i e tid xs u r
  |_=>False
 | .part e te,x=>e.flat=true/\match a with
  | .own l _ _=>r=(π l).map full/\io=true/\ ∃fr tr,Ad H l=some (.arr fr tr e te x.1)
  |_=>False
 | .Al e te _,x=>io=false/\match a with
  | .own l off len=>r=(π l).map full/\off=0/\len=List.length x/\ ∃kp,Ad H l=some (.Al e te x none kp)
  |_=>False
theorem Um {r:Option Real} {s off len:Nat} {v:Value} (h:Ed r s off len v):Ed (r.map full) s off len v:=by
 cases r<;>exact h
def Jw (X:Ctx) (π:Pi) (V:List Nat) (b:Nat):Prop:=(Qi π b/\ ∀l∈V,∀r,π l=some r-> ¬r.Bg b)\/X.Sc b
theorem Jw.not {V:List Nat} {b l:Nat} (hb:Jw X π V b) (h:Im X w π H) (hl:l∈V) {r:Real} (hr:π l=some r) (hf:r.Bg b):False:=by
 rcases hb with hb|hb
 ·exact hb.2 l hl r hr hf
 ·have h1:=h.sc b hb
  rcases (h.own ⟨l,r,hr,hf⟩).2 with h2|h2
  ·omega
  ·exact h1.2 h2
theorem Jw.dc {V:List Nat} {b:Nat} {B:Nat} {fr:Bool} (hb:Jw X π V b):Bj B X.Sc π fr b:=hb.elim (λh=> .inl h.1) λh=> .inr (.inl h)
theorem HP {st:St} {ls:List Nat} (h:Yb st ls=true) {l:Nat} (hl:l∈ls) {tid:TypeId} {vs:List AC} (hv:Ad st.heap l=some (.var tid vs)):vs.all (·.settled)=true:=by
 have:=List.all_eq_true.1 h l hl
 unfold St.at at this
 rw [hv] at this
 exact this
theorem Cells.but {V:List Nat} {f:Bool} {τ:Ty} {cs:List Value} {x:τ.den} (h:Cells w (Bj X.w0.heap.size X.Sc π f) τ cs x):Cells w (Jw X π V) τ cs x:=
 Cells.Cn (Nat.le_refl _) (λ_ _ _=>rfl) (λ_ _ hk=>hk.dc) τ cs x h
theorem eV {st:St} (h:Im X w π st.heap) {V:List Nat} {a:Ty} {l i:Nat} {fr:Bool} {x:a.den} (dK:Yb st [l]=true) (WG:l∈V) (hv:Oy st a l i=some (fr,x)) {r:Real} (hr:π l=some r):
  r.g<w.heap.size/\ ¬Jw X π V r.g/\ ∃es:List Value,es.length=a.size/\(∀j u,es[j]?=some u->w.cell? ⟨r.g,i+j,none⟩=some u)/\Cells w (Jw X π V) a es x:=by
 unfold Oy at hv
 split at hv
 ·rename_i tid vs hl
  unfold St.at at hl
  obtain ⟨r',h3,h4,cur,h5,h6⟩:=(h.heap l).Ma hl
  rw [hr] at h3;cases h3
  have hs:=HP dK (List.mem_singleton.2 rfl) hl
  have z7:((vs.drop i).take a.size).all (·.settled)=true:=List.all_eq_true.2 λc hc=>List.all_eq_true.1 hs c (List.mem_of_mem_drop (List.mem_of_mem_take hc))
  have hc:=Zp a _ _ fr x z7 (Un h6 i a.size) hv
  refine ⟨Dd h5,λhb=>hb.not h WG hr h4,_,Cells.len a _ x hc,λj u hu=>?_,hc.but⟩
  rw [cellOf h5]
  rw [List.getElem?_take] at hu
  split at hu
  ·rw [List.getElem?_drop] at hu;simpa using hu
  ·cases hu
 ·cases hv
theorem BJ {st:St} {l:Nat} {ls:List Nat} (h:Yb st (l::ls)=true):Yb st [l]=true/\Yb st ls=true:=by
 simp only [Yb,List.all_cons,List.all_nil,Bool.and_true,Bool.and_eq_true] at h⊢
 exact h
theorem xC {st:St} (h:Im X w π st.heap) {V:List Nat} : ∀(τ:Ty) (Ca:List (Nat×Nat)) (us:List Value) (fr:Bool) (x:τ.den),us.length=Ca.length->
  (∀(j:Nat) p,Ca[j]?=some p-> ∃r tid vs,Ad st.heap p.1=some (.var tid vs)/\π p.1=some r/\us[j]?=some (.pointer (some ⟨r.g,p.2,none⟩)))->
  Yb st (Ca.map (·.1))=true->(∀p∈Ca,p.1∈V)->Gp st τ Ca=some (fr,x)->Cells w (Jw X π V) τ us x:=by
 intro τ
 induction τ with
 |unit=>
  intro Ca us fr x hl hr _ _ hv
  cases Ca with
  |nil=>exact List.eq_nil_of_length_eq_zero hl
  |cons c cs=>simp [Gp] at hv
 |pair a r _ fp=>
  intro Ca us fr x hl hr dK hV hv
  cases a with
  |ptr a=>
   cases Ca with
   |nil=>simp [Gp] at hv
   |cons c cs=>
    obtain ⟨l,i⟩:=c
    simp only [Gp] at hv
    split at hv
    ·rename_i f1 y f2 z h1 h2
     simp only [Option.some.injEq,Prod.mk.injEq] at hv
     obtain ⟨rfl,rfl⟩:=hv
     cases us with
     |nil=>simp at hl
     |cons u us=>
      obtain ⟨r0,tid,vs,h3,h4,h5⟩:=hr 0 (l,i) rfl
      simp only [List.getElem?_cons_zero,Option.some.injEq] at h5
      subst h5
      obtain ⟨ok1,ok2⟩:=BJ dK
      obtain ⟨h6,h7,es,h8,h9,l6⟩:=eV h ok1 (hV _ (List.mem_cons_self ..)) h1 h4
      exact ⟨[_],us,rfl,⟨r0.g,i,rfl,h6,h7,es,h8,h9,l6⟩,fp cs us f2 z (by simpa using hl) (λj p hp=>hr (j+1) p hp) ok2 (λp hp=>hV p (List.mem_cons_of_mem _ hp)) h2⟩
    ·cases hv
  |_=>cases Ca<;>simp [Gp] at hv
 |_=>intro Ca us fr x hl hr _ _ hv;cases Ca<;>simp [Gp] at hv
theorem OE {st:St} (h:Im X w π st.heap) {V:List Nat} {io:Bool} {k:Nat} {c:CK} {a:AC} {u:Value} (hu:Dw X w π st.heap a u) {x:c.den} {tks:List (Nat×Loc)} (he:Hl st io k c a=some (x,tks))
  (hV: ∀t∈tks,t.2.reads=true->t.2.Rn∈V): ∃r,bg w (Jw X π V) r u c x/\Od w π st.heap io a u r c x:=by
 cases c with
 |Dn τ=>
  have own: ∀l off len,a= .own l off len-> ∃r,bg w (Jw X π V) r u (.Dn τ) x/\Od w π st.heap io a u r (.Dn τ) x:=by
   intro l off len ea
   subst ea
   simp only [Hl] at he
   cases hv:Bp st τ (.own l off len) with
   |none=>rw [hv] at he;cases he
   |some p=>
    obtain ⟨fr,y⟩:=p
    rw [hv] at he
    simp only [Option.map_some,Option.some.injEq,Prod.mk.injEq] at he
    obtain ⟨rfl,rfl⟩:=he
    have WG:l∈V:=hV _ (List.mem_singleton.2 rfl) rfl
    refine ⟨none,⟨rfl,?_⟩,rfl⟩
    cases τ<;>simp only [Bp] at hv<;>try (cases hv;done)
    rename_i e
    cases hl:st.at l with
    |none=>rw [hl] at hv;cases hv
    |some b=>
     rw [hl] at hv
     unfold St.at at hl
     cases b<;>(try simp only [] at hv)<;>try (cases hv;done)
     ·rename_i pC xB e0 tid xs
      split at hv
      ·rename_i QY;subst QY
       simp only [Option.some.injEq,Prod.mk.injEq] at hv
       obtain ⟨_,rfl⟩:=hv
       obtain ⟨h1,h2⟩:=Jt hu hl
       exact ⟨[u],lT h hl h1 h2 (λb hb ⟨r,hr,hf⟩=>hb.not h WG hr hf) (λb _ hb=>hb.dc),rfl⟩
      ·cases hv
     ·rename_i e0 tid xs
      split at hv
      ·rename_i QY;subst QY
       simp only [Option.some.injEq,Prod.mk.injEq] at hv
       obtain ⟨_,rfl⟩:=hv
       obtain ⟨h1,h2⟩:=Xt hu hl
       exact ⟨[u],jb h hl h1 h2 (λb hb ⟨r,hr,hf⟩=>hb.not h WG hr hf),rfl⟩
      ·cases hv
     ·rename_i e0 te0 rows out kp
      cases out with
      |some i=>cases hv
      |none=>
       simp only [] at hv
       split at hv
       ·rename_i QY;subst QY
        simp only [Option.some.injEq,Prod.mk.injEq] at hv
        obtain ⟨_,rfl⟩:=hv
        obtain ⟨h1,h2⟩:=ku hu hl
        exact ⟨[u],pF h hl h1 h2 (λb hb ⟨r,hr,hf⟩=>hb.not h WG hr hf) (λb hb=>hb.dc),rfl⟩
       ·cases hv
  have Alk: ∀g Ca,a= .clo g Ca-> ∃r,bg w (Jw X π V) r u (.Dn τ) x/\Od w π st.heap io a u r (.Dn τ) x:=by
   intro g Ca ea
   subst ea
   simp only [Hl] at he
   split at he
   ·rename_i hc
    simp only [Bool.and_eq_true,Bool.not_eq_true'] at hc
    obtain ⟨dK,Og⟩:=hc
    cases hv:Fo st τ (.clo g Ca) with
    |none=>rw [hv] at he;cases he
    |some p=>
     obtain ⟨fr,y⟩:=p
     rw [hv] at he
     simp only [Option.map_some,Option.some.injEq,Prod.mk.injEq] at he
     obtain ⟨rfl,rfl⟩:=he
     have hcV: ∀p∈Ca,p.1∈V:= λp hp=>hV (Bu false k, .view p.1) (List.mem_map.2 ⟨p.1,List.mem_map.2 ⟨p,hp,rfl⟩,rfl⟩) rfl
     obtain ⟨us,rfl,h2,h3⟩:=hu
     refine ⟨none,⟨rfl,Bc.kb Og ?_⟩,rfl⟩
     cases τ<;>simp only [Fo] at hv<;>try (simp only [Bp,reduceCtorEq] at hv;done)
     rename_i f0 c0
     split at hv
     ·rename_i hg
      obtain ⟨rfl,Ey⟩:=hg
      exact ⟨us,by rw [dk Ey],xC h c0 Ca us fr y h2 h3 dK hcV hv⟩
     ·cases hv
   ·cases he
  have hvp: ∀l i,a= .Du l i-> ∃r,bg w (Jw X π V) r u (.Dn τ) x/\Od w π st.heap io a u r (.Dn τ) x:=by
   intro l i ea
   subst ea
   simp only [Hl] at he
   split at he
   ·rename_i hc
    simp only [Bool.and_eq_true,Bool.not_eq_true'] at hc
    obtain ⟨dK,Og⟩:=hc
    cases hv:Fo st τ (.Du l i) with
    |none=>rw [hv] at he;cases he
    |some p=>
     obtain ⟨fr,y⟩:=p
     rw [hv] at he
     simp only [Option.map_some,Option.some.injEq,Prod.mk.injEq] at he
     obtain ⟨rfl,rfl⟩:=he
     have WG:l∈V:=hV (Bu false k, .view l) (List.mem_map.2 ⟨l,List.mem_singleton.2 rfl,rfl⟩) rfl
     obtain ⟨r,tid,vs,h1,h2,rfl⟩:=hu
     refine ⟨none,⟨rfl,Bc.kb Og ?_⟩,rfl⟩
     cases τ<;>simp only [Fo] at hv<;>try (simp only [Bp,reduceCtorEq] at hv;done)
     ·obtain ⟨h6,h7,h8⟩:=eV h dK WG hv h2
      exact ⟨r.g,i,rfl,h6,h7,h8⟩
     ·rename_i a
      cases hp:Oy st a l i with
      |none=>rw [hp] at hv;cases hv
      |some p=>
       rw [hp] at hv
       simp only [Option.map_some,Option.some.injEq,Prod.mk.injEq] at hv
       obtain ⟨_,rfl⟩:=hv
       obtain ⟨h6,h7,h8⟩:=eV h dK WG hp h2
       exact .inr ⟨_,r.g,i,rfl,rfl,h6,h7,h8⟩
   ·cases he
  have Kx: ∀l i c,a= .sub l i c-> ∃r,bg w (Jw X π V) r u (.Dn τ) x/\Od w π st.heap io a u r (.Dn τ) x:=by
   intro l i c ea
   subst ea
   simp only [Hl] at he
   cases hv:Bp st τ (.sub l i c) with
   |none=>rw [hv] at he;cases he
   |some p=>
    obtain ⟨fr,y⟩:=p
    rw [hv] at he
    simp only [Option.map_some,Option.some.injEq,Prod.mk.injEq] at he
    obtain ⟨rfl,rfl⟩:=he
    have WG:l∈V:=hV _ (List.mem_singleton.2 rfl) rfl
    refine ⟨none,⟨rfl,?_⟩,rfl⟩
    cases τ<;>simp only [Bp] at hv<;>try (cases hv;done)
    rename_i e
    cases hl:st.at l with
    |none=>rw [hl] at hv;cases hv
    |some b=>
     rw [hl] at hv
     unfold St.at at hl
     cases b<;>(try simp only [] at hv)<;>try (cases hv;done)
     rename_i e0 te0 rows out kp
     cases out with
     |some i=>cases hv
     |none=>
      simp only [] at hv
      split at hv
      ·rename_i QY;subst QY
       simp only [Option.some.injEq,Prod.mk.injEq] at hv
       obtain ⟨_,rfl⟩:=hv
       exact ⟨[u],pG h hl (yO hu hl) hu (λb hb ⟨r,hr,hf⟩=>hb.not h WG hr hf) (λb hb=>hb.dc),rfl⟩
      ·cases hv
  by_cases JP: ∃l i c,a= .sub l i c
  ·obtain ⟨l,i,c,ea⟩:=JP;exact Kx l i c ea
  by_cases Aa2: ∃g Ca,a= .clo g Ca
  ·obtain ⟨g,Ca,ea⟩:=Aa2;exact Alk g Ca ea
  by_cases Ahi: ∃l i,a= .Du l i
  ·obtain ⟨l,i,ea⟩:=Ahi;exact hvp l i ea
  by_cases aG: ∃l off len,a= .own l off len
  ·obtain ⟨l,off,len,ea⟩:=aG;exact own l off len ea
  have he:(if τ.flat||a.settled then (Bp st τ a).map λp=>(p.2,([]:List (Nat×Loc))) else none)=some (x,tks):=by
   cases a<;>first|exact he|exact absurd ⟨_,_,_,rfl⟩ aG|exact absurd ⟨_,_,rfl⟩ Aa2|exact absurd ⟨_,_,rfl⟩ Ahi|exact absurd ⟨_,_,_,rfl⟩ JP
  split at he
  ·rename_i hc
   cases hv:Bp st τ a with
   |none=>rw [hv] at he;cases he
   |some p=>
    obtain ⟨fr,y⟩:=p
    rw [hv] at he
    simp only [Option.map_some,Option.some.injEq,Prod.mk.injEq] at he
    obtain ⟨rfl,rfl⟩:=he
    refine ⟨none,⟨rfl,?_⟩,rfl⟩
    have En: ∀f,Bc w (Bj X.w0.heap.size X.Sc π f) τ u y->Bc w (Jw X π V) τ u y:= λf hr=>hr.En λk _ hk=>hk.dc
    cases a with
    |data f Jp z=>
     rw [Je] at hv
     split at hv
     ·rename_i ht;subst ht
      simp only [Option.some.injEq,Prod.mk.injEq] at hv
      obtain ⟨_,rfl⟩:=hv
      exact En f hu
     ·have On:τ.Ac=false:=by unfold dq at hv;split at hv<;>first|rfl|cases hv
      exact En _ ⟨[u],Zt hv hu,by simp [Au,On]⟩
    |Hr=>
     have hu:u= .slice none 0 0:=hu
     subst hu
     cases τ<;>simp only [Bp,Option.some.injEq,Prod.mk.injEq,reduceCtorEq] at hv
     ·obtain ⟨_,rfl⟩:=hv;exact ⟨[_],⟨none,0,0,rfl,rfl,Nat.le_refl _, .inl rfl⟩,rfl⟩
     ·obtain ⟨_,rfl⟩:=hv;exact ⟨[_], .inl ⟨rfl,0,rfl⟩,rfl⟩
    |Ro=>
     have hu:u= .pointer none:=hu
     subst hu
     cases τ<;>simp only [Bp,Option.some.injEq,Prod.mk.injEq,reduceCtorEq] at hv
     obtain ⟨_,rfl⟩:=hv;exact ⟨[_], .inl ⟨rfl,rfl⟩,rfl⟩
    |_=>cases τ<;>simp [AC.settled,Ty.flat,Bp] at hc hv
  ·cases he
 |row e te=>
  cases a<;>simp only [Hl] at he<;>try (cases he;done)
  ·simp only [Option.some.injEq,Prod.mk.injEq] at he
   obtain ⟨rfl,rfl⟩:=he
   have hu:u= .slice none 0 0:=hu
   exact ⟨none,⟨⟨hu,rfl,rfl⟩,rfl⟩,rfl⟩
  ·rename_i l off len
   split at he
   ·rename_i fr tr e' Mc xs hl
    split at he
    ·rename_i hc
     obtain ⟨rfl,rfl,rfl,rfl⟩:=hc
     simp only [Option.some.injEq,Prod.mk.injEq] at he
     obtain ⟨rfl,rfl⟩:=he
     unfold St.at at hl
     obtain ⟨_,h2⟩:=Jt hu hl
     refine ⟨(π l).map full,⟨Um h2,?_⟩,rfl,rfl,rfl,fr,tr,hl⟩
     have hb:=(h.heap l).Ma hl
     simp only [Av,Fu] at hb
     cases hp:π l with
     |none=>rw [hp] at hb;exact hb
     |some q=>
      rw [hp] at hb
      obtain ⟨k1,cur,ti,k2,k3,k4,k5,k6,_⟩:=hb
      refine ⟨⟨k1.1,k1.2.1⟩,cur,ti,k2,k3,k4,k5,λi y hy=>?_⟩
      obtain ⟨es,g1,g2,g3⟩:=k6 i y hy
      exact ⟨es,g1,g2,Cells.Cn (Nat.le_refl _) (λ_ _ _=>rfl) (λ_ _ hk=>hk.dc) e' es y g3⟩
    ·cases he
   ·cases he
  ·rename_i l i c
   split at he
   ·rename_i e' tid xs hl
    split at he
    ·rename_i hc
     obtain ⟨rfl,hf,vZ,gF⟩:=hc
     cases hx:xs[i]? with
     |none=>rw [hx] at he;cases he
     |some y=>
      rw [hx] at he
      simp only [Option.map_some,Option.some.injEq,Prod.mk.injEq] at he
      obtain ⟨rfl,rfl⟩:=he
      unfold St.at at hl
      obtain ⟨r,r1,r2,_,r4⟩:=AX h hl hx gF hu
      exact ⟨r,⟨r1,r2 hf _⟩,⟨vZ,hf⟩,tid,xs,hl,hx,r4⟩
    ·cases he
   ·cases he
 |Dv e te=>
  cases a<;>simp only [Hl] at he<;>try (cases he;done)
  ·simp only [Option.some.injEq,Prod.mk.injEq] at he
   obtain ⟨rfl,rfl⟩:=he
   have hu:u= .slice none 0 0:=hu
   exact ⟨none,⟨⟨hu,rfl,rfl⟩,rfl⟩,rfl⟩
  ·rename_i l off len
   split at he
   ·rename_i e' Mc xs hl
    split at he
    ·rename_i hc
     obtain ⟨rfl,rfl,rfl,rfl⟩:=hc
     simp only [Option.some.injEq,Prod.mk.injEq] at he
     obtain ⟨rfl,rfl⟩:=he
     unfold St.at at hl
     obtain ⟨_,h2⟩:=Xt hu hl
     refine ⟨(π l).map full,⟨Um h2,?_⟩,rfl,rfl,rfl,hl⟩
     have hb:=(h.heap l).Ma hl
     simp only [Av] at hb
     cases hp:π l with
     |none=>rw [hp] at hb;exact hb
     |some q=>rw [hp] at hb;exact hb
    ·cases he
   ·cases he
  ·rename_i l i c
   split at he
   ·rename_i e' tid xs hl
    split at he
    ·rename_i hc
     obtain ⟨rfl,vZ,gF⟩:=hc
     cases hx:xs[i]? with
     |none=>rw [hx] at he;cases he
     |some y=>
      rw [hx] at he
      simp only [Option.map_some,Option.some.injEq,Prod.mk.injEq] at he
      obtain ⟨rfl,rfl⟩:=he
      unfold St.at at hl
      obtain ⟨r,r1,_,r3,r4⟩:=AX h hl hx gF hu
      exact ⟨r,⟨r1,r3 te⟩,vZ,tid,xs,hl,hx,r4⟩
    ·cases he
   ·cases he
 |part e te=>
  cases a<;>simp only [Hl] at he<;>try (cases he;done)
  rename_i l off len
  split at he
  ·rename_i fr tr e' Mc xs hl
   split at he
   ·rename_i hc
    obtain ⟨rfl,rfl,hf,vZ⟩:=hc
    simp only [Option.some.injEq,Prod.mk.injEq] at he
    obtain ⟨rfl,rfl⟩:=he
    unfold St.at at hl
    obtain ⟨h1,h2⟩:=Jt hu hl
    refine ⟨(π l).map full,⟨⟨Um h2,h1⟩,hf,?_⟩,hf,rfl,vZ,fr,tr,hl⟩
    have hb:=(h.heap l).Ma hl
    simp only [Av,Fu] at hb
    cases hp:π l with
    |none=>rw [hp] at hb;exact hb
    |some q=>
     rw [hp] at hb
     obtain ⟨k1,cur,ti,k2,k3,k4,k5,k6,_⟩:=hb
     refine ⟨⟨k1.1,k1.2.1⟩,cur,ti,k2,k3,k4,k5,λi y hy=>?_⟩
     obtain ⟨es,g1,g2,g3⟩:=k6 i y hy
     exact ⟨es,g1,g2,Cells.flat e' es y hf g3⟩
   ·cases he
  ·cases he
 |Al e te kp=>
  cases a<;>simp only [Hl] at he<;>try (cases he;done)
  rename_i l off len
  split at he
  ·rename_i e' Mc rows kp' hl
   split at he
   ·rename_i hc
    obtain ⟨rfl,rfl,rfl,rfl,vZ⟩:=hc
    simp only [Option.some.injEq,Prod.mk.injEq] at he
    obtain ⟨rfl,rfl⟩:=he
    unfold St.at at hl
    obtain ⟨h1,h2⟩:=ku hu hl
    refine ⟨(π l).map full,⟨Um h2,?_⟩,vZ,rfl,rfl,rfl,kp',hl⟩
    have hb:=(h.heap l).Ma hl
    simp only [Av] at hb
    have hb:=hb.1
    have hg:Vi w (Bj X.w0.heap.size X.Sc π false) ((π l).map full) e' rows none:=by
     cases hp:π l with
     |none=>rw [hp] at hb;exact hb
     |some q=>rw [hp] at hb;exact hb
    exact hg.Cn (λ_ _ _ _ _=>rfl) λes x hc=>hc.but
   ·cases he
  ·cases he
end
end Go.Proofs.YtfolipnappekaaaGreat
