/-
  Part 15 of the proof that the statement FnExactLowerBounds holds.
-/
import Derived.Test.YtfolipnappekaaaGreatCLowerBounds13
namespace Go.Proofs.YtfolipnappekaaaGreat
open Go.RowKit
section
variable {P:Program} {T:Tab} {X:Ctx} {w w':World} {π π':Pi} {H H':List (Nat×OB)}
def full (r:Real):Real:= {r with cl:=r.Bb}
theorem Ar.nT: ∀(τ:Ty) (F:List Nat) (es:List Value) (x:τ.den),τ.flat=true->Ar w F τ es x->F= []
 | .int k,F,es,x,_,h=>h.1
 | .bool,F,es,x,_,h=>h.1
 | .str,F,es,x,_,h=>h.1
 | .unit,F,es,x,_,h=>h.1
 | .pair a r,F,es,x,hf,h=>by
  simp only [Ty.flat,Bool.and_eq_true] at hf
  simp only [Ar] at h
  obtain ⟨c1,c2,F1,F2,_,rfl,h1,h2⟩:=h
  rw [Ar.nT a F1 c1 x.1 hf.1 h1,Ar.nT r F2 c2 x.2 hf.2 h2]
  rfl
 | .slice _,_,_,_,hf,_=>by simp [Ty.flat] at hf
 | .oslice _,_,_,_,hf,_=>by simp [Ty.flat] at hf
 | .ptr _,_,_,_,hf,_=>by simp [Ty.flat] at hf
 | .optr _,_,_,_,hf,_=>by simp [Ty.flat] at hf
 | .smap _,_,_,_,hf,_=>by simp [Ty.flat] at hf
 | .clo _ _,_,_,_,hf,_=>by simp [Ty.flat] at hf
theorem iD {S P:Nat->Prop} {g o:Nat} {cur:Array Value} {e:Ty} {xs:List e.den} (hf:e.flat=true)
  (h: ∀(i:Nat) (x:e.den),xs[i]?=some x-> ∃es:List Value,es.length=e.size/\(∀j u,es[j]?=some u->cur[(o+i)*e.size+j]?=some u)/\Cells w S e es x):Qi w P g o cur e xs:=by
 refine ⟨List.replicate xs.length [],by simp,by simp,by simp,λi x F hx hF=>?_⟩
 obtain ⟨es,e1,e2,e3⟩:=h i x hx
 have:F= []:=List.eq_of_mem_replicate (List.mem_of_getElem? hF)
 subst this
 exact ⟨es,e1,e2,Qs e es x hf e3⟩
theorem Mr.DW {D:Nat->Prop} {r:Option Real} {e:Ty} {ys:List e.den} {u:Value} (h:Mr w D r e ys) (hf:e.flat=true) (hv:Eb r e.size 0 ys.length u):
  ∃F,Ar w F (.slice e) [u] ys/\F.Nodup/\ ∀b∈F,∃r',r=some r'/\r'.Bb b:=by
 cases r with
 |none=>
  obtain ⟨rfl,_,_⟩:=hv
  have h:ys= []:=h
  subst h
  exact ⟨[],⟨none,0,0,rfl,rfl,Nat.le_refl _, .inl ⟨rfl,rfl,rfl,rfl⟩⟩,List.nodup_nil,λb hb=>by cases hb⟩
 |some r=>
  obtain ⟨h1,cur,ti,h2,h3,h4,h5,h6⟩:=h
  obtain ⟨F,f1,f2,f3⟩:=eJ (P:=r.Bb) h2 h3 h4 (by omega) hv (iD hf h6) h1.1
  exact ⟨F,by simpa using f1,f2,λb hb=>⟨r,rfl,f3 b hb⟩⟩
theorem Iu.DW {r:Option Real} {e:Ty} {te:TypeId} {ys:List e.den} {u:Value} (h:Iu w r e te ys) (hv:Eb r e.size 0 ys.length u):
  ∃F,Ar w F (.slice e) [u] ys/\F.Nodup/\ ∀b∈F,∃r',r=some r'/\r'.Bb b:=by
 cases r with
 |none=>
  obtain ⟨rfl,_,_⟩:=hv
  have h:ys= []:=h
  subst h
  exact ⟨[],⟨none,0,0,rfl,rfl,Nat.le_refl _, .inl ⟨rfl,rfl,rfl,rfl⟩⟩,List.nodup_nil,λb hb=>by cases hb⟩
 |some r=>
  obtain ⟨h1,cur,ti,h2,h3,h4,h5,h6⟩:=h
  obtain ⟨F,f1,f2,f3⟩:=eJ (P:=r.Bb) h2 h3 h4 (by omega) hv h6 h1
  exact ⟨F,by simpa using f1,f2,λb hb=>⟨r,rfl,f3 b hb⟩⟩
theorem Ar.row {F:List Nat} {e:Ty} {u:Value} {xs:List e.den} (h:Ar w F (.slice e) [u] xs) (hn:F.Nodup):
  ∃r:Option Real,Eb r e.size 0 xs.length u/\(e.flat=true-> ∀D,Mr w D r e xs)/\(∀te,Iu w r e te xs)/\(∀r',r=some r'-> ∀b,r'.Bb b↔b∈F)/\(r=none->F= []):=by
 simp only [Ar] at h
 obtain ⟨a,len,cap,e0,e1,e2,h⟩:=h
 simp only [List.cons.injEq,and_true] at e0
 subst e0
 rcases h with ⟨rfl,rfl,rfl,rfl⟩|⟨ad,g,o,Fs,rfl,ha,⟨cur,ti,o',s1,s2,s3,s4⟩,rfl,hl,Hf⟩
 ·exact ⟨none,⟨by rw [e1];rfl,rfl,rfl⟩,λ_ _=>rfl,λ_=>rfl,(λr' h=>by cases h),λ_=>rfl⟩
 ·subst s2
  have iJ: ∀(i:Nat) (x:e.den) (Fi:List Nat),xs[i]?=some x->Fs[i]?=some Fi-> ∃es:List Value,es.length=e.size/\(∀j u,es[j]?=some u->cur[(o'+i)*e.size+j]?=some u)/\Ar w Fi e es x:=by
   intro i x Fi hx hF
   obtain ⟨es,k1,k2,k3⟩:=Hf i x Fi hx hF
   refine ⟨es,k1,λj v hv=>?_,k3⟩
   have:=k2 j v hv
   rw [cellOf s1] at this
   rw [Nat.add_mul];exact this
  refine ⟨some ⟨g,o',cap,(· ∈g::List.flatten Fs),(· ∈g::List.flatten Fs)⟩,⟨ad,by rw [e1];rfl,by dsimp only;omega,λh0=>by rw [ha h0];rfl⟩,λhf D=>⟨⟨by simp,λb hb=>?_⟩,cur,ti,s1,s3,s4,by rw [<-e1];exact e2,λi x hx=>?_⟩,
   fun te=>⟨by simp,cur,ti,s1,s3,s4,by rw [<-e1];exact e2,Fs,hl,hn,λb hb=>by simp [hb],iJ⟩,λr' hr b=>by cases hr;exact Iff.rfl,λh=>by cases h⟩
  ·rcases List.mem_cons.1 hb with hb|hb
   ·exact hb
   ·obtain ⟨Fi,h1,h2⟩:=List.mem_flatten.1 hb
    obtain ⟨i,hi,rfl⟩:=List.getElem_of_mem h1
    obtain ⟨es,_,_,k3⟩:=iJ i (xs[i]'(by omega)) _ (List.getElem?_eq_getElem _) (List.getElem?_eq_getElem hi)
    rw [Ar.nT e _ _ _ hf k3] at h2
    cases h2
  ·have hi:i<Fs.length:=by have:=(List.getElem?_eq_some_iff.1 hx).1;omega
   obtain ⟨es,k1,k2,k3⟩:=iJ i x _ hx (List.getElem?_eq_getElem hi)
   exact ⟨es,k1,k2,Cells.flat e es x hf (Ar.cells (S:= λ_=>False) _ e es x k3 λb hb=> λh=>h)⟩
theorem Xs: ∀(Fs:List (List Nat)) (i:Nat) (Fi F':List Nat),(List.flatten Fs).Nodup->Fs[i]?=some Fi->F'.Nodup->(∀b∈F',b∈Fi)->(List.flatten (Fs.set i F')).Nodup/\ ∀b∈List.flatten (Fs.set i F'),b∈List.flatten Fs
 | [],i,Fi,F',_,h,_,_=>by simp at h
 |G::Fs,0,Fi,F',hn,h,mW,hs=>by
  simp only [List.getElem?_cons_zero,Option.some.injEq] at h;subst h
  simp only [List.set_cons_zero,List.flatten_cons] at hn⊢
  obtain ⟨n1,n2,n3⟩:=List.nodup_append.1 hn
  refine ⟨List.nodup_append.2 ⟨mW,n2,λa ha b hb=>n3 a (hs a ha) b hb⟩,λb hb=>?_⟩
  rcases List.mem_append.1 hb with hb|hb
  ·exact List.mem_append_left _ (hs b hb)
  ·exact List.mem_append_right _ hb
 |G::Fs,i+1,Fi,F',hn,h,mW,hs=>by
  simp only [List.getElem?_cons_succ] at h
  simp only [List.set_cons_succ,List.flatten_cons] at hn⊢
  obtain ⟨n1,n2,n3⟩:=List.nodup_append.1 hn
  obtain ⟨m1,m2⟩:=Xs Fs i Fi F' n2 h mW hs
  refine ⟨List.nodup_append.2 ⟨n1,m1,λa ha b hb=>n3 a ha b (m2 b hb)⟩,λb hb=>?_⟩
  rcases List.mem_append.1 hb with hb|hb
  ·exact List.mem_append_left _ hb
  ·exact List.mem_append_right _ (m2 b hb)
theorem Yl: ∀(Fs:List (List Nat)) (i j:Nat) (Fi Fj:List Nat) (b:Nat),(List.flatten Fs).Nodup->Fs[i]?=some Fi->Fs[j]?=some Fj->b∈Fi->b∈Fj->i=j
 | [],i,j,Fi,Fj,b,_,h,_,_,_=>by simp at h
 |G::Fs,0,0,_,_,_,_,_,_,_,_=>rfl
 |G::Fs,0,j+1,Fi,Fj,b,hn,h1,h2,h3,h4=>by
  simp only [List.getElem?_cons_zero,Option.some.injEq,List.getElem?_cons_succ] at h1 h2
  subst h1
  simp only [List.flatten_cons] at hn
  exact absurd rfl ((List.nodup_append.1 hn).2.2 b h3 b (List.mem_flatten.2 ⟨Fj,List.mem_of_getElem? h2,h4⟩))
 |G::Fs,i+1,0,Fi,Fj,b,hn,h1,h2,h3,h4=>by
  simp only [List.getElem?_cons_zero,Option.some.injEq,List.getElem?_cons_succ] at h1 h2
  subst h2
  simp only [List.flatten_cons] at hn
  exact absurd rfl ((List.nodup_append.1 hn).2.2 b h4 b (List.mem_flatten.2 ⟨Fi,List.mem_of_getElem? h1,h3⟩))
 |G::Fs,i+1,j+1,Fi,Fj,b,hn,h1,h2,h3,h4=>by
  simp only [List.getElem?_cons_succ] at h1 h2
  simp only [List.flatten_cons] at hn
  rw [Yl Fs i j Fi Fj b (List.nodup_append.1 hn).2.1 h1 h2 h3 h4]
def tD (w:World) (π:Pi) (l i:Nat) (e:Ty) (tid:TypeId) (xs:List (List e.den)) (u:Value) (r:Option Real):Prop:=
 ∃q,π l=some q/\(∀r',r=some r'-> ∀b,r'.Bb b->q.Bb b/\b≠q.g)/\
  ∀(w':World) (ys:List e.den),w.heap.size<=w'.heap.size->(∀b,b<w.heap.size->q.Bb b->(∀r',r=some r'-> ¬r'.Bb b)->w'.heap[b]?=w.heap[b]?)->
   (∃F',Ar w' F' (.slice e) [u] ys/\F'.Nodup/\ ∀b∈F',∃r',r=some r'/\r'.Bb b)->Iu w' (some q) (.slice e) tid (xs.set i ys)
theorem yX (h:Ih X w π H) {l i c:Nat} {e:Ty} {tid:TypeId} {xs:List (List e.den)} {x:List e.den} {u:Value} (hl:Ad H l=some (.Dc (.slice e) tid xs)) (hx:xs[i]?=some x) (hc:c=0)
  (hu:Dw X w π H (.sub l i c) u): ∃r,Eb r e.size 0 x.length u/\(e.flat=true-> ∀D,Mr w D r e x)/\(∀te,Iu w r e te x)/\tD w π l i e tid xs u r:=by
 subst hc
 obtain ⟨q,b0,sz0,n0,h1,jG,h2,h3,⟨h4,a,n,m,rfl⟩,h5⟩:=hu
 rw [hl] at h1;cases h1
 simp only [OB.bJ,Option.some.injEq,Prod.mk.injEq] at jG
 obtain ⟨rfl,rfl⟩:=jG
 have hb:=(h.heap l).Ku hl
 simp only [Aw,Iu,h2] at hb
 obtain ⟨k1,cur,ti,k2,k3,k4,k5,Fs,t1,t2,t3,t4⟩:=hb
 have hi:i<Fs.length:=by have:=(List.getElem?_eq_some_iff.1 hx).1;omega
 have hFi:Fs[i]?=some Fs[i]:=List.getElem?_eq_getElem hi
 obtain ⟨es,e1,e2,e3⟩:=t4 i x _ hx hFi
 have e1':es.length=1:=e1
 obtain ⟨v,rfl⟩:=List.length_eq_one_iff.1 e1'
 have hv:v= .slice a n m:=by
  have:=e2 0 v rfl
  rw [cellOf k2] at h5
  rw [this] at h5;exact Option.some.inj h5
 subst hv
 have hn2:=(List.nodup_cons.1 t2).2
 have mh: ∀b∈Fs[i],b∈List.flatten Fs:= λb hb=>List.mem_flatten.2 ⟨_,List.getElem_mem hi,hb⟩
 have hnF:(Fs[i]).Nodup:=hn2.sublist (by
  have:=Ts (List.singleton_sublist.2 (List.getElem_mem hi))
  simpa using this)
 obtain ⟨r,r1,r2,r3,r4,r5⟩:=Ar.row e3 hnF
 refine ⟨r,r1,r2,r3,q,h2,λr' hr b hb=>?_,λw' ys hs hk ⟨F',f1,f2,f3⟩=>?_⟩
 ·have hb:=(r4 r' hr b).1 hb
  exact ⟨t3 b (mh b hb),λe=>(List.nodup_cons.1 t2).1 (e▸mh b hb)⟩
 ·have UY: ∀b∈F',b∈Fs[i]:= λb hb=>by
   obtain ⟨r',g1,g2⟩:=f3 b hb
   exact (r4 r' g1 b).1 g2
  have iL:=Xs Fs i _ F' hn2 hFi f2 UY
  have YH:w'.heap[q.g]?=w.heap[q.g]?:=hk q.g (Cs k2) k1 λr' hr hb=>(List.nodup_cons.1 t2).1 (mh _ ((r4 r' hr _).1 hb))
  refine ⟨k1,cur,ti,YH.trans k2,k3,k4,by simpa using k5,Fs.set i F',by simp [t1],List.nodup_cons.2 ⟨λhm=>(List.nodup_cons.1 t2).1 (iL.2 _ hm),iL.1⟩,λb hb=>t3 b (iL.2 b hb),λj y F hy hF=>?_⟩
  rw [List.getElem?_set] at hy hF
  split at hy
  ·rename_i jI;subst jI
   rw [if_pos rfl] at hF
   rw [if_pos hi] at hF
   simp only [Option.some.injEq] at hF
   have hy:ys=y:=by simpa [h3] using hy
   subst hy;subst hF
   exact ⟨[.slice a n m],rfl,e2,f1⟩
  ·rename_i jI
   rw [if_neg jI] at hF
   obtain ⟨jF,g1,g2,g3⟩:=t4 j y F hy hF
   refine ⟨jF,g1,g2,g3.Ch _ _ _ _ hs λb hb=>?_⟩
   have MI:b∈List.flatten Fs:=List.mem_flatten.2 ⟨F,List.mem_of_getElem? hF,hb⟩
   exact hk b (g3.lt _ _ _ _ b hb) (t3 b MI) λr' hr cS=>jI (Yl Fs i j _ F b hn2 hFi hF ((r4 r' hr b).1 cS) hb)
def Nh (w:World) (π:Pi) (H:List (Nat×OB)) (io:Bool) (a:AC) (u:Value) (r:Option Real):(c:CK)->c.den->Prop
 | .Dh _,_=>r=none
 | .row e te,x=>match a with
  | .Hp=>r=none
  | .own l off len=>r=(π l).map full/\off=0/\len=List.length x/\ ∃fr tr,Ad H l=some (.arr fr tr e te x)
  | .sub l i _=>(io=true/\e.flat=true)/\ ∃tid xs,Ad H l=some (.Dc (.slice e) tid xs)/\xs[i]?=some x/\tD w π l i e tid xs u r
  |_=>False
 | .Ds e te,x=>match a with
  | .Hp=>r=none
  | .own l off len=>r=(π l).map full/\off=0/\len=List.length x/\Ad H l=some (.Dc e te x)
  | .sub l i _=>io=true/\ ∃tid xs,Ad H l=some (.Dc (.slice e) tid xs)/\xs[i]?=some x/\tD w π l i e tid xs u r
  |_=>False
 | .part e te,x=>e.flat=true/\match a with
  | .own l _ _=>r=(π l).map full/\io=true/\ ∃fr tr,Ad H l=some (.arr fr tr e te x.1)
  |_=>False
 | .Aj e te _,x=>io=false/\match a with
  | .own l off len=>r=(π l).map full/\off=0/\len=List.length x/\ ∃kp,Ad H l=some (.Aj e te x none kp)
  |_=>False
theorem Tb {r:Option Real} {s off len:Nat} {v:Value} (h:Eb r s off len v):Eb (r.map full) s off len v:=by
 cases r<;>exact h
def Ji (X:Ctx) (π:Pi) (V:List Nat) (b:Nat):Prop:=(No π b/\ ∀l∈V,∀r,π l=some r-> ¬r.Bb b)\/X.Sc b
theorem Ji.not {V:List Nat} {b l:Nat} (hb:Ji X π V b) (h:Ih X w π H) (hl:l∈V) {r:Real} (hr:π l=some r) (hf:r.Bb b):False:=by
 rcases hb with hb|hb
 ·exact hb.2 l hl r hr hf
 ·have h1:=h.sc b hb
  rcases (h.own ⟨l,r,hr,hf⟩).2 with h2|h2
  ·omega
  ·exact h1.2 h2
theorem Ji.cq {V:List Nat} {b:Nat} {B:Nat} {fr:Bool} (hb:Ji X π V b):Bg B X.Sc π fr b:=hb.elim (λh=> .inl h.1) λh=> .inr (.inl h)
theorem DZ {st:St} {ls:List Nat} (h:Wt st ls=true) {l:Nat} (hl:l∈ls) {tid:TypeId} {vs:List AC} (hv:Ad st.heap l=some (.var tid vs)):vs.all (·.settled)=true:=by
 have:=List.all_eq_true.1 h l hl
 unfold St.at at this
 rw [hv] at this
 exact this
theorem Cells.but {V:List Nat} {f:Bool} {τ:Ty} {cs:List Value} {x:τ.den} (h:Cells w (Bg X.w0.heap.size X.Sc π f) τ cs x):Cells w (Ji X π V) τ cs x:=
 Cells.Ch (Nat.le_refl _) (λ_ _ _=>rfl) (λ_ _ hk=>hk.cq) τ cs x h
theorem dW {st:St} (h:Ih X w π st.heap) {V:List Nat} {a:Ty} {l i:Nat} {fr:Bool} {x:a.den} (eS:Wt st [l]=true) (RH:l∈V) (hv:Nu st a l i=some (fr,x)) {r:Real} (hr:π l=some r):
  r.g<w.heap.size/\ ¬Ji X π V r.g/\ ∃es:List Value,es.length=a.size/\(∀j u,es[j]?=some u->w.cell? ⟨r.g,i+j,none⟩=some u)/\Cells w (Ji X π V) a es x:=by
 unfold Nu at hv
 split at hv
 ·rename_i tid vs hl
  unfold St.at at hl
  obtain ⟨r',h3,h4,cur,h5,h6⟩:=(h.heap l).Ku hl
  rw [hr] at h3;cases h3
  have hs:=DZ eS (List.mem_singleton.2 rfl) hl
  have xA:((vs.drop i).take a.size).all (·.settled)=true:=List.all_eq_true.2 λc hc=>List.all_eq_true.1 hs c (List.mem_of_mem_drop (List.mem_of_mem_take hc))
  have hc:=Yg a _ _ fr x xA (Tc h6 i a.size) hv
  refine ⟨Cs h5,λhb=>hb.not h RH hr h4,_,Cells.len a _ x hc,λj u hu=>?_,hc.but⟩
  rw [cellOf h5]
  rw [List.getElem?_take] at hu
  split at hu
  ·rw [List.getElem?_drop] at hu;simpa using hu
  ·cases hu
 ·cases hv
theorem ze {st:St} {l:Nat} {ls:List Nat} (h:Wt st (l::ls)=true):Wt st [l]=true/\Wt st ls=true:=by
 simp only [Wt,List.all_cons,List.all_nil,Bool.and_true,Bool.and_eq_true] at h⊢
 exact h
theorem vZ {st:St} (h:Ih X w π st.heap) {V:List Nat} : ∀(τ:Ty) (Bv:List (Nat×Nat)) (us:List Value) (fr:Bool) (x:τ.den),us.length=Bv.length->
  (∀(j:Nat) p,Bv[j]?=some p-> ∃r tid vs,Ad st.heap p.1=some (.var tid vs)/\π p.1=some r/\us[j]?=some (.pointer (some ⟨r.g,p.2,none⟩)))->
  Wt st (Bv.map (·.1))=true->(∀p∈Bv,p.1∈V)->Gm st τ Bv=some (fr,x)->Cells w (Ji X π V) τ us x:=by
 intro τ
 induction τ with
 |unit=>
  intro Bv us fr x hl hr _ _ hv
  cases Bv with
  |nil=>exact List.eq_nil_of_length_eq_zero hl
  |cons c cs=>simp [Gm] at hv
 |pair a r _ er=>
  intro Bv us fr x hl hr eS hV hv
  cases a with
  |ptr a=>
   cases Bv with
   |nil=>simp [Gm] at hv
   |cons c cs=>
    obtain ⟨l,i⟩:=c
    simp only [Gm] at hv
    split at hv
    ·rename_i f1 y f2 z h1 h2
     simp only [Option.some.injEq,Prod.mk.injEq] at hv
     obtain ⟨rfl,rfl⟩:=hv
     cases us with
     |nil=>simp at hl
     |cons u us=>
      obtain ⟨r0,tid,vs,h3,h4,h5⟩:=hr 0 (l,i) rfl
      simp only [List.getElem?_cons_zero,Option.some.injEq] at h5
      subst h5
      obtain ⟨ok1,ok2⟩:=ze eS
      obtain ⟨h6,h7,es,h8,h9,jG⟩:=dW h ok1 (hV _ (List.mem_cons_self ..)) h1 h4
      exact ⟨[_],us,rfl,⟨r0.g,i,rfl,h6,h7,es,h8,h9,jG⟩,er cs us f2 z (by simpa using hl) (λj p hp=>hr (j+1) p hp) ok2 (λp hp=>hV p (List.mem_cons_of_mem _ hp)) h2⟩
    ·cases hv
  |_=>cases Bv<;>simp [Gm] at hv
 |_=>intro Bv us fr x hl hr _ _ hv;cases Bv<;>simp [Gm] at hv
theorem JZ {st:St} (h:Ih X w π st.heap) {V:List Nat} {io:Bool} {k:Nat} {c:CK} {a:AC} {u:Value} (hu:Dw X w π st.heap a u) {x:c.den} {tks:List (Nat×Loc)} (he:Hk st io k c a=some (x,tks))
  (hV: ∀t∈tks,t.2.reads=true->t.2.Qc∈V): ∃r,ao w (Ji X π V) r u c x/\Nh w π st.heap io a u r c x:=by
 cases c with
 |Dh τ=>
  have own: ∀l off len,a= .own l off len-> ∃r,ao w (Ji X π V) r u (.Dh τ) x/\Nh w π st.heap io a u r (.Dh τ) x:=by
   intro l off len ea
   subst ea
   simp only [Hk] at he
   cases hv:Bn st τ (.own l off len) with
   |none=>rw [hv] at he;cases he
   |some p=>
    obtain ⟨fr,y⟩:=p
    rw [hv] at he
    simp only [Option.map_some,Option.some.injEq,Prod.mk.injEq] at he
    obtain ⟨rfl,rfl⟩:=he
    have RH:l∈V:=hV _ (List.mem_singleton.2 rfl) rfl
    refine ⟨none,⟨rfl,?_⟩,rfl⟩
    cases τ<;>simp only [Bn] at hv<;>try (cases hv;done)
    rename_i e
    cases hl:st.at l with
    |none=>rw [hl] at hv;cases hv
    |some b=>
     rw [hl] at hv
     unfold St.at at hl
     cases b<;>(try simp only [] at hv)<;>try (cases hv;done)
     ·rename_i nX vY e0 tid xs
      split at hv
      ·rename_i ML;subst ML
       simp only [Option.some.injEq,Prod.mk.injEq] at hv
       obtain ⟨_,rfl⟩:=hv
       obtain ⟨h1,h2⟩:=Jh hu hl
       exact ⟨[u],kA h hl h1 h2 (λb hb ⟨r,hr,hf⟩=>hb.not h RH hr hf) (λb _ hb=>hb.cq),rfl⟩
      ·cases hv
     ·rename_i e0 tid xs
      split at hv
      ·rename_i ML;subst ML
       simp only [Option.some.injEq,Prod.mk.injEq] at hv
       obtain ⟨_,rfl⟩:=hv
       obtain ⟨h1,h2⟩:=Wl hu hl
       exact ⟨[u],gX h hl h1 h2 (λb hb ⟨r,hr,hf⟩=>hb.not h RH hr hf),rfl⟩
      ·cases hv
     ·rename_i e0 te0 rows out kp
      cases out with
      |some i=>cases hv
      |none=>
       simp only [] at hv
       split at hv
       ·rename_i ML;subst ML
        simp only [Option.some.injEq,Prod.mk.injEq] at hv
        obtain ⟨_,rfl⟩:=hv
        obtain ⟨h1,h2⟩:=jd hu hl
        exact ⟨[u],nZ h hl h1 h2 (λb hb ⟨r,hr,hf⟩=>hb.not h RH hr hf) (λb hb=>hb.cq),rfl⟩
       ·cases hv
  have Ahd: ∀g Bv,a= .clo g Bv-> ∃r,ao w (Ji X π V) r u (.Dh τ) x/\Nh w π st.heap io a u r (.Dh τ) x:=by
   intro g Bv ea
   subst ea
   simp only [Hk] at he
   split at he
   ·rename_i hc
    simp only [Bool.and_eq_true,Bool.not_eq_true'] at hc
    obtain ⟨eS,Nk⟩:=hc
    cases hv:Fl st τ (.clo g Bv) with
    |none=>rw [hv] at he;cases he
    |some p=>
     obtain ⟨fr,y⟩:=p
     rw [hv] at he
     simp only [Option.map_some,Option.some.injEq,Prod.mk.injEq] at he
     obtain ⟨rfl,rfl⟩:=he
     have hcV: ∀p∈Bv,p.1∈V:= λp hp=>hV (Bl false k, .view p.1) (List.mem_map.2 ⟨p.1,List.mem_map.2 ⟨p,hp,rfl⟩,rfl⟩) rfl
     obtain ⟨us,rfl,h2,h3⟩:=hu
     refine ⟨none,⟨rfl,Be.j5 Nk ?_⟩,rfl⟩
     cases τ<;>simp only [Fl] at hv<;>try (simp only [Bn,reduceCtorEq] at hv;done)
     rename_i f0 c0
     split at hv
     ·rename_i hg
      obtain ⟨rfl,Fc⟩:=hg
      exact ⟨us,by rw [cB Fc],vZ h c0 Bv us fr y h2 h3 eS hcV hv⟩
     ·cases hv
   ·cases he
  have hvp: ∀l i,a= .Dv l i-> ∃r,ao w (Ji X π V) r u (.Dh τ) x/\Nh w π st.heap io a u r (.Dh τ) x:=by
   intro l i ea
   subst ea
   simp only [Hk] at he
   split at he
   ·rename_i hc
    simp only [Bool.and_eq_true,Bool.not_eq_true'] at hc
    obtain ⟨eS,Nk⟩:=hc
    cases hv:Fl st τ (.Dv l i) with
    |none=>rw [hv] at he;cases he
    |some p=>
     obtain ⟨fr,y⟩:=p
     rw [hv] at he
     simp only [Option.map_some,Option.some.injEq,Prod.mk.injEq] at he
     obtain ⟨rfl,rfl⟩:=he
     have RH:l∈V:=hV (Bl false k, .view l) (List.mem_map.2 ⟨l,List.mem_singleton.2 rfl,rfl⟩) rfl
     obtain ⟨r,tid,vs,h1,h2,rfl⟩:=hu
     refine ⟨none,⟨rfl,Be.j5 Nk ?_⟩,rfl⟩
     cases τ<;>simp only [Fl] at hv<;>try (simp only [Bn,reduceCtorEq] at hv;done)
     ·obtain ⟨h6,h7,h8⟩:=dW h eS RH hv h2
      exact ⟨r.g,i,rfl,h6,h7,h8⟩
     ·rename_i a
      cases hp:Nu st a l i with
      |none=>rw [hp] at hv;cases hv
      |some p=>
       rw [hp] at hv
       simp only [Option.map_some,Option.some.injEq,Prod.mk.injEq] at hv
       obtain ⟨_,rfl⟩:=hv
       obtain ⟨h6,h7,h8⟩:=dW h eS RH hp h2
       exact .inr ⟨_,r.g,i,rfl,rfl,h6,h7,h8⟩
   ·cases he
  have Kh: ∀l i c,a= .sub l i c-> ∃r,ao w (Ji X π V) r u (.Dh τ) x/\Nh w π st.heap io a u r (.Dh τ) x:=by
   intro l i c ea
   subst ea
   simp only [Hk] at he
   cases hv:Bn st τ (.sub l i c) with
   |none=>rw [hv] at he;cases he
   |some p=>
    obtain ⟨fr,y⟩:=p
    rw [hv] at he
    simp only [Option.map_some,Option.some.injEq,Prod.mk.injEq] at he
    obtain ⟨rfl,rfl⟩:=he
    have RH:l∈V:=hV _ (List.mem_singleton.2 rfl) rfl
    refine ⟨none,⟨rfl,?_⟩,rfl⟩
    cases τ<;>simp only [Bn] at hv<;>try (cases hv;done)
    rename_i e
    cases hl:st.at l with
    |none=>rw [hl] at hv;cases hv
    |some b=>
     rw [hl] at hv
     unfold St.at at hl
     cases b<;>(try simp only [] at hv)<;>try (cases hv;done)
     rename_i e0 te0 rows out kp
     cases out with
     |some i=>cases hv
     |none=>
      simp only [] at hv
      split at hv
      ·rename_i ML;subst ML
       simp only [Option.some.injEq,Prod.mk.injEq] at hv
       obtain ⟨_,rfl⟩:=hv
       exact ⟨[u],o0 h hl (xm hu hl) hu (λb hb ⟨r,hr,hf⟩=>hb.not h RH hr hf) (λb hb=>hb.cq),rfl⟩
      ·cases hv
  by_cases FU: ∃l i c,a= .sub l i c
  ·obtain ⟨l,i,c,ea⟩:=FU;exact Kh l i c ea
  by_cases VF: ∃g Bv,a= .clo g Bv
  ·obtain ⟨g,Bv,ea⟩:=VF;exact Ahd g Bv ea
  by_cases Adm: ∃l i,a= .Dv l i
  ·obtain ⟨l,i,ea⟩:=Adm;exact hvp l i ea
  by_cases Su: ∃l off len,a= .own l off len
  ·obtain ⟨l,off,len,ea⟩:=Su;exact own l off len ea
  have he:(if τ.flat||a.settled then (Bn st τ a).map λp=>(p.2,([]:List (Nat×Loc))) else none)=some (x,tks):=by
   cases a<;>first|exact he|exact absurd ⟨_,_,_,rfl⟩ Su|exact absurd ⟨_,_,rfl⟩ VF|exact absurd ⟨_,_,rfl⟩ Adm|exact absurd ⟨_,_,_,rfl⟩ FU
  split at he
  ·rename_i hc
   cases hv:Bn st τ a with
   |none=>rw [hv] at he;cases he
   |some p=>
    obtain ⟨fr,y⟩:=p
    rw [hv] at he
    simp only [Option.map_some,Option.some.injEq,Prod.mk.injEq] at he
    obtain ⟨rfl,rfl⟩:=he
    refine ⟨none,⟨rfl,?_⟩,rfl⟩
    have Ep: ∀f,Be w (Bg X.w0.heap.size X.Sc π f) τ u y->Be w (Ji X π V) τ u y:= λf hr=>hr.Ep λk _ hk=>hk.cq
    cases a with
    |data f Jc z=>
     rw [It] at hv
     split at hv
     ·rename_i ht;subst ht
      simp only [Option.some.injEq,Prod.mk.injEq] at hv
      obtain ⟨_,rfl⟩:=hv
      exact Ep f hu
     ·have Tx:τ.Ab=false:=by unfold cE at hv;split at hv<;>first|rfl|cases hv
      exact Ep _ ⟨[u],Yj hv hu,by simp [As,Tx]⟩
    |Hp=>
     have hu:u= .slice none 0 0:=hu
     subst hu
     cases τ<;>simp only [Bn,Option.some.injEq,Prod.mk.injEq,reduceCtorEq] at hv
     ·obtain ⟨_,rfl⟩:=hv;exact ⟨[_],⟨none,0,0,rfl,rfl,Nat.le_refl _, .inl rfl⟩,rfl⟩
     ·obtain ⟨_,rfl⟩:=hv;exact ⟨[_], .inl ⟨rfl,0,rfl⟩,rfl⟩
    |Qd=>
     have hu:u= .pointer none:=hu
     subst hu
     cases τ<;>simp only [Bn,Option.some.injEq,Prod.mk.injEq,reduceCtorEq] at hv
     obtain ⟨_,rfl⟩:=hv;exact ⟨[_], .inl ⟨rfl,rfl⟩,rfl⟩
    |_=>cases τ<;>simp [AC.settled,Ty.flat,Bn] at hc hv
  ·cases he
 |row e te=>
  cases a<;>simp only [Hk] at he<;>try (cases he;done)
  ·simp only [Option.some.injEq,Prod.mk.injEq] at he
   obtain ⟨rfl,rfl⟩:=he
   have hu:u= .slice none 0 0:=hu
   exact ⟨none,⟨⟨hu,rfl,rfl⟩,rfl⟩,rfl⟩
  ·rename_i l off len
   split at he
   ·rename_i fr tr e' Li xs hl
    split at he
    ·rename_i hc
     obtain ⟨rfl,rfl,rfl,rfl⟩:=hc
     simp only [Option.some.injEq,Prod.mk.injEq] at he
     obtain ⟨rfl,rfl⟩:=he
     unfold St.at at hl
     obtain ⟨_,h2⟩:=Jh hu hl
     refine ⟨(π l).map full,⟨Tb h2,?_⟩,rfl,rfl,rfl,fr,tr,hl⟩
     have hb:=(h.heap l).Ku hl
     simp only [Aw,Fq] at hb
     cases hp:π l with
     |none=>rw [hp] at hb;exact hb
     |some q=>
      rw [hp] at hb
      obtain ⟨k1,cur,ti,k2,k3,k4,k5,k6,_⟩:=hb
      refine ⟨⟨k1.1,k1.2.1⟩,cur,ti,k2,k3,k4,k5,λi y hy=>?_⟩
      obtain ⟨es,g1,g2,g3⟩:=k6 i y hy
      exact ⟨es,g1,g2,Cells.Ch (Nat.le_refl _) (λ_ _ _=>rfl) (λ_ _ hk=>hk.cq) e' es y g3⟩
    ·cases he
   ·cases he
  ·rename_i l i c
   split at he
   ·rename_i e' tid xs hl
    split at he
    ·rename_i hc
     obtain ⟨rfl,hf,uc,fj⟩:=hc
     cases hx:xs[i]? with
     |none=>rw [hx] at he;cases he
     |some y=>
      rw [hx] at he
      simp only [Option.map_some,Option.some.injEq,Prod.mk.injEq] at he
      obtain ⟨rfl,rfl⟩:=he
      unfold St.at at hl
      obtain ⟨r,r1,r2,_,r4⟩:=yX h hl hx fj hu
      exact ⟨r,⟨r1,r2 hf _⟩,⟨uc,hf⟩,tid,xs,hl,hx,r4⟩
    ·cases he
   ·cases he
 |Ds e te=>
  cases a<;>simp only [Hk] at he<;>try (cases he;done)
  ·simp only [Option.some.injEq,Prod.mk.injEq] at he
   obtain ⟨rfl,rfl⟩:=he
   have hu:u= .slice none 0 0:=hu
   exact ⟨none,⟨⟨hu,rfl,rfl⟩,rfl⟩,rfl⟩
  ·rename_i l off len
   split at he
   ·rename_i e' Li xs hl
    split at he
    ·rename_i hc
     obtain ⟨rfl,rfl,rfl,rfl⟩:=hc
     simp only [Option.some.injEq,Prod.mk.injEq] at he
     obtain ⟨rfl,rfl⟩:=he
     unfold St.at at hl
     obtain ⟨_,h2⟩:=Wl hu hl
     refine ⟨(π l).map full,⟨Tb h2,?_⟩,rfl,rfl,rfl,hl⟩
     have hb:=(h.heap l).Ku hl
     simp only [Aw] at hb
     cases hp:π l with
     |none=>rw [hp] at hb;exact hb
     |some q=>rw [hp] at hb;exact hb
    ·cases he
   ·cases he
  ·rename_i l i c
   split at he
   ·rename_i e' tid xs hl
    split at he
    ·rename_i hc
     obtain ⟨rfl,uc,fj⟩:=hc
     cases hx:xs[i]? with
     |none=>rw [hx] at he;cases he
     |some y=>
      rw [hx] at he
      simp only [Option.map_some,Option.some.injEq,Prod.mk.injEq] at he
      obtain ⟨rfl,rfl⟩:=he
      unfold St.at at hl
      obtain ⟨r,r1,_,r3,r4⟩:=yX h hl hx fj hu
      exact ⟨r,⟨r1,r3 te⟩,uc,tid,xs,hl,hx,r4⟩
    ·cases he
   ·cases he
 |part e te=>
  cases a<;>simp only [Hk] at he<;>try (cases he;done)
  rename_i l off len
  split at he
  ·rename_i fr tr e' Li xs hl
   split at he
   ·rename_i hc
    obtain ⟨rfl,rfl,hf,uc⟩:=hc
    simp only [Option.some.injEq,Prod.mk.injEq] at he
    obtain ⟨rfl,rfl⟩:=he
    unfold St.at at hl
    obtain ⟨h1,h2⟩:=Jh hu hl
    refine ⟨(π l).map full,⟨⟨Tb h2,h1⟩,hf,?_⟩,hf,rfl,uc,fr,tr,hl⟩
    have hb:=(h.heap l).Ku hl
    simp only [Aw,Fq] at hb
    cases hp:π l with
    |none=>rw [hp] at hb;exact hb
    |some q=>
     rw [hp] at hb
     obtain ⟨k1,cur,ti,k2,k3,k4,k5,k6,_⟩:=hb
     refine ⟨⟨k1.1,k1.2.1⟩,cur,ti,k2,k3,k4,k5,λi y hy=>?_⟩
     obtain ⟨es,g1,g2,g3⟩:=k6 i y hy
     exact ⟨es,g1,g2,Cells.flat e' es y hf g3⟩
   ·cases he
  ·cases he
 |Aj e te kp=>
  cases a<;>simp only [Hk] at he<;>try (cases he;done)
  rename_i l off len
  split at he
  ·rename_i e' Li rows kp' hl
   split at he
   ·rename_i hc
    obtain ⟨rfl,rfl,rfl,rfl,uc⟩:=hc
    simp only [Option.some.injEq,Prod.mk.injEq] at he
    obtain ⟨rfl,rfl⟩:=he
    unfold St.at at hl
    obtain ⟨h1,h2⟩:=jd hu hl
    refine ⟨(π l).map full,⟨Tb h2,?_⟩,uc,rfl,rfl,rfl,kp',hl⟩
    have hb:=(h.heap l).Ku hl
    simp only [Aw] at hb
    have hb:=hb.1
    have hg:Tu w (Bg X.w0.heap.size X.Sc π false) ((π l).map full) e' rows none:=by
     cases hp:π l with
     |none=>rw [hp] at hb;exact hb
     |some q=>rw [hp] at hb;exact hb
    exact hg.Ch (λ_ _ _ _ _=>rfl) λes x hc=>hc.but
   ·cases he
  ·cases he
end
end Go.Proofs.YtfolipnappekaaaGreat
