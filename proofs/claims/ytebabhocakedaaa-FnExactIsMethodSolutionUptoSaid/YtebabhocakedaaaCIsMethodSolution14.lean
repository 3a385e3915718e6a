/-
  Part 15 of the proof that the statement FnExactIsMethodSolution holds.
-/
import Derived.Test.YtebabhocakedaaaCIsMethodSolution13
namespace Go.Proofs.Ytebabhocakedaaa
open Go.RowKit
section
variable {P:Program} {T:Tab} {X:Ctx} {w w':World} {π π':Pi} {H H':List (Nat×OB)}
def full (r:Real):Real:= {r with cl:=r.Av}
theorem Bd.Aiy: ∀(τ:Ty) (F:List Nat) (es:List Value) (x:τ.den),τ.flat=true→Bd w F τ es x→F= []
 | .int k,F,es,x,_,h=>h.1
 | .bool,F,es,x,_,h=>h.1
 | .str,F,es,x,_,h=>h.1
 | .unit,F,es,x,_,h=>h.1
 | .pair a r,F,es,x,hf,h=>by
  simp only [Ty.flat,Bool.and_eq_true] at hf
  simp only [Bd] at h
  obtain ⟨c1,c2,F1,F2,_,rfl,h1,h2⟩:=h
  rw [Bd.Aiy a F1 c1 x.1 hf.1 h1,Bd.Aiy r F2 c2 x.2 hf.2 h2]
  rfl
 | .slice _,_,_,_,hf,_=>by simp [Ty.flat] at hf
 | .oslice _,_,_,_,hf,_=>by simp [Ty.flat] at hf
 | .ptr _,_,_,_,hf,_=>by simp [Ty.flat] at hf
 | .optr _,_,_,_,hf,_=>by simp [Ty.flat] at hf
 | .smap _,_,_,_,hf,_=>by simp [Ty.flat] at hf
 | .clo _ _,_,_,_,hf,_=>by simp [Ty.flat] at hf
theorem Ads {S P:Nat→Prop} {g o:Nat} {cur:Array Value} {e:Ty} {xs:List e.den} (hf:e.flat=true)
  (h: ∀(i:Nat) (x:e.den),xs[i]?=some x→ ∃es:List Value,es.length=e.size∧(∀j u,es[j]?=some u→cur[(o+i)*e.size+j]?=some u)∧Cells w S e es x):Mu w P g o cur e xs:=by
 refine ⟨List.replicate xs.length [],by simp,by simp,by simp,fun i x F hx hF=>?_⟩
 obtain ⟨es,e1,e2,e3⟩:=h i x hx
 have:F= []:=List.eq_of_mem_replicate (List.mem_of_getElem? hF)
 subst this
 exact ⟨es,e1,e2,Nc e es x hf e3⟩
theorem Kf.Ax8 {D:Nat→Prop} {r:Option Real} {e:Ty} {ys:List e.den} {u:Value} (h:Kf w D r e ys) (hf:e.flat=true) (hv:De r e.size 0 ys.length u):
  ∃F,Bd w F (.slice e) [u] ys∧F.Nodup∧ ∀b∈F,∃r',r=some r'∧r'.Av b:=by
 cases r with
 |none=>
  obtain ⟨rfl,_,_⟩:=hv
  have h:ys= []:=h
  subst h
  exact ⟨[],⟨none,0,0,rfl,rfl,Nat.le_refl _, .inl ⟨rfl,rfl,rfl,rfl⟩⟩,List.nodup_nil,fun b hb=>by cases hb⟩
 |some r=>
  obtain ⟨h1,cur,ti,h2,h3,h4,h5,h6⟩:=h
  obtain ⟨F,f1,f2,f3⟩:=Aav (P:=r.Av) h2 h3 h4 (by omega) hv (Ads hf h6) h1.1
  exact ⟨F,by simpa using f1,f2,fun b hb=>⟨r,rfl,f3 b hb⟩⟩
theorem Hf.Ax8 {r:Option Real} {e:Ty} {te:TypeId} {ys:List e.den} {u:Value} (h:Hf w r e te ys) (hv:De r e.size 0 ys.length u):
  ∃F,Bd w F (.slice e) [u] ys∧F.Nodup∧ ∀b∈F,∃r',r=some r'∧r'.Av b:=by
 cases r with
 |none=>
  obtain ⟨rfl,_,_⟩:=hv
  have h:ys= []:=h
  subst h
  exact ⟨[],⟨none,0,0,rfl,rfl,Nat.le_refl _, .inl ⟨rfl,rfl,rfl,rfl⟩⟩,List.nodup_nil,fun b hb=>by cases hb⟩
 |some r=>
  obtain ⟨h1,cur,ti,h2,h3,h4,h5,h6⟩:=h
  obtain ⟨F,f1,f2,f3⟩:=Aav (P:=r.Av) h2 h3 h4 (by omega) hv h6 h1
  exact ⟨F,by simpa using f1,f2,fun b hb=>⟨r,rfl,f3 b hb⟩⟩
theorem Bd.row {F:List Nat} {e:Ty} {u:Value} {xs:List e.den} (h:Bd w F (.slice e) [u] xs) (hn:F.Nodup):
  ∃r:Option Real,De r e.size 0 xs.length u∧(e.flat=true→ ∀D,Kf w D r e xs)∧(∀te,Hf w r e te xs)∧(∀r',r=some r'→ ∀b,r'.Av b↔b∈F)∧(r=none→F= []):=by
 simp only [Bd] at h
 obtain ⟨a,len,cap,e0,e1,e2,h⟩:=h
 simp only [List.cons.injEq,and_true] at e0
 subst e0
 rcases h with ⟨rfl,rfl,rfl,rfl⟩|⟨ad,g,o,Fs,rfl,ha,⟨cur,ti,o',s1,s2,s3,s4⟩,rfl,hl,hall⟩
 ·exact ⟨none,⟨by rw [e1];rfl,rfl,rfl⟩,fun _ _=>rfl,fun _=>rfl,(fun r' h=>by cases h),fun _=>rfl⟩
 ·subst s2
  have hel: ∀(i:Nat) (x:e.den) (Fi:List Nat),xs[i]?=some x→Fs[i]?=some Fi→ ∃es:List Value,es.length=e.size∧(∀j u,es[j]?=some u→cur[(o'+i)*e.size+j]?=some u)∧Bd w Fi e es x:=by
   intro i x Fi hx hF
   obtain ⟨es,k1,k2,k3⟩:=hall i x Fi hx hF
   refine ⟨es,k1,fun j v hv=>?_,k3⟩
   have:=k2 j v hv
   rw [cellOf s1] at this
   rw [Nat.add_mul];exact this
  refine ⟨some ⟨g,o',cap,(· ∈g::List.flatten Fs),(· ∈g::List.flatten Fs)⟩,⟨ad,by rw [e1];rfl,by dsimp only;omega,fun h0=>by rw [ha h0];rfl⟩,fun hf D=>⟨⟨by simp,fun b hb=>?_⟩,cur,ti,s1,s3,s4,by rw [←e1];exact e2,fun i x hx=>?_⟩,
   fun te=>⟨by simp,cur,ti,s1,s3,s4,by rw [←e1];exact e2,Fs,hl,hn,fun b hb=>by simp [hb],hel⟩,fun r' hr b=>by cases hr;exact Iff.rfl,fun h=>by cases h⟩
  ·rcases List.mem_cons.1 hb with hb|hb
   ·exact hb
   ·obtain ⟨Fi,h1,h2⟩:=List.mem_flatten.1 hb
    obtain ⟨i,hi,rfl⟩:=List.getElem_of_mem h1
    obtain ⟨es,_,_,k3⟩:=hel i (xs[i]'(by omega)) _ (List.getElem?_eq_getElem _) (List.getElem?_eq_getElem hi)
    rw [Bd.Aiy e _ _ _ hf k3] at h2
    cases h2
  ·have hi:i<Fs.length:=by have:=(List.getElem?_eq_some_iff.1 hx).1;omega
   obtain ⟨es,k1,k2,k3⟩:=hel i x _ hx (List.getElem?_eq_getElem hi)
   exact ⟨es,k1,k2,Cells.flat e es x hf (Bd.cells (S:=fun _=>False) _ e es x k3 fun b hb=>fun h=>h)⟩
theorem Sl: ∀(Fs:List (List Nat)) (i:Nat) (Fi F':List Nat),(List.flatten Fs).Nodup→Fs[i]?=some Fi→F'.Nodup→(∀b∈F',b∈Fi)→(List.flatten (Fs.set i F')).Nodup∧ ∀b∈List.flatten (Fs.set i F'),b∈List.flatten Fs
 | [],i,Fi,F',_,h,_,_=>by simp at h
 |G::Fs,0,Fi,F',hn,h,hn',hs=>by
  simp only [List.getElem?_cons_zero,Option.some.injEq] at h;subst h
  simp only [List.set_cons_zero,List.flatten_cons] at hn⊢
  obtain ⟨n1,n2,n3⟩:=List.nodup_append.1 hn
  refine ⟨List.nodup_append.2 ⟨hn',n2,fun a ha b hb=>n3 a (hs a ha) b hb⟩,fun b hb=>?_⟩
  rcases List.mem_append.1 hb with hb|hb
  ·exact List.mem_append_left _ (hs b hb)
  ·exact List.mem_append_right _ hb
 |G::Fs,i+1,Fi,F',hn,h,hn',hs=>by
  simp only [List.getElem?_cons_succ] at h
  simp only [List.set_cons_succ,List.flatten_cons] at hn⊢
  obtain ⟨n1,n2,n3⟩:=List.nodup_append.1 hn
  obtain ⟨m1,m2⟩:=Sl Fs i Fi F' n2 h hn' hs
  refine ⟨List.nodup_append.2 ⟨n1,m1,fun a ha b hb=>n3 a ha b (m2 b hb)⟩,fun b hb=>?_⟩
  rcases List.mem_append.1 hb with hb|hb
  ·exact List.mem_append_left _ hb
  ·exact List.mem_append_right _ (m2 b hb)
theorem Ab6: ∀(Fs:List (List Nat)) (i j:Nat) (Fi Fj:List Nat) (b:Nat),(List.flatten Fs).Nodup→Fs[i]?=some Fi→Fs[j]?=some Fj→b∈Fi→b∈Fj→i=j
 | [],i,j,Fi,Fj,b,_,h,_,_,_=>by simp at h
 |G::Fs,0,0,_,_,_,_,_,_,_,_=>rfl
 |G::Fs,0,j+1,Fi,Fj,b,hn,h1,h2,h3,h4=>by
  simp only [List.getElem?_cons_zero,Option.some.injEq,List.getElem?_cons_succ] at h1 h2
  subst h1
  simp only [List.flatten_cons] at hn
  exact absurd rfl ((List.nodup_append.1 hn).2.2 b h3 b (List.mem_flatten.2 ⟨Fj,List.mem_of_getElem? h2,h4⟩))
 |G::Fs,i+1,0,Fi,Fj,b,hn,h1,h2,h3,h4=>by
  simp only [List.getElem?_cons_zero,Option.some.injEq,List.getElem?_cons_succ] at h1 h2
  subst h2
  simp only [List.flatten_cons] at hn
  exact absurd rfl ((List.nodup_append.1 hn).2.2 b h4 b (List.mem_flatten.2 ⟨Fi,List.mem_of_getElem? h1,h3⟩))
 |G::Fs,i+1,j+1,Fi,Fj,b,hn,h1,h2,h3,h4=>by
  simp only [List.getElem?_cons_succ] at h1 h2
  simp only [List.flatten_cons] at hn
  rw [Ab6 Fs i j Fi Fj b (List.nodup_append.1 hn).2.1 h1 h2 h3 h4]
def Aog (w:World) (π:Pi) (l i:Nat) (e:Ty) (tid:TypeId) (xs:List (List e.den)) (u:Value) (r:Option Real):Prop:=
 ∃q,π l=some q∧(∀r',r=some r'→ ∀b,r'.Av b→q.Av b∧b≠q.g)∧
  ∀(w':World) (ys:List e.den),w.heap.size≤w'.heap.size→(∀b,b<w.heap.size→q.Av b→(∀r',r=some r'→ ¬r'.Av b)→w'.heap[b]?=w.heap[b]?)→
   (∃F',Bd w' F' (.slice e) [u] ys∧F'.Nodup∧ ∀b∈F',∃r',r=some r'∧r'.Av b)→Hf w' (some q) (.slice e) tid (xs.set i ys)
theorem Au7 (h:Gj X w π H) {l i c:Nat} {e:Ty} {tid:TypeId} {xs:List (List e.den)} {x:List e.den} {u:Value} (hl:Ac H l=some (.xarr (.slice e) tid xs)) (hx:xs[i]?=some x) (hc:c=0)
  (hu:Df X w π H (.sub l i c) u): ∃r,De r e.size 0 x.length u∧(e.flat=true→ ∀D,Kf w D r e x)∧(∀te,Hf w r e te x)∧Aog w π l i e tid xs u r:=by
 subst hc
 obtain ⟨q,b0,sz0,n0,h1,h10,h2,h3,⟨h4,a,n,m,rfl⟩,h5⟩:=hu
 rw [hl] at h1;cases h1
 simp only [OB.inn,Option.some.injEq,Prod.mk.injEq] at h10
 obtain ⟨rfl,rfl⟩:=h10
 have hb:=(h.heap l).blk hl
 simp only [Aq,Hf,h2] at hb
 obtain ⟨k1,cur,ti,k2,k3,k4,k5,Fs,t1,t2,t3,t4⟩:=hb
 have hi:i<Fs.length:=by have:=(List.getElem?_eq_some_iff.1 hx).1;omega
 have hFi:Fs[i]?=some Fs[i]:=List.getElem?_eq_getElem hi
 obtain ⟨es,e1,e2,e3⟩:=t4 i x _ hx hFi
 have e1':es.length=1:=e1
 obtain ⟨v,rfl⟩:=List.length_eq_one_iff.1 e1'
 have hv:v= .slice a n m:=by
  have:=e2 0 v rfl
  rw [cellOf k2] at h5
  rw [this] at h5;exact Option.some.inj h5
 subst hv
 have hn2:=(List.nodup_cons.1 t2).2
 have hmem: ∀b∈Fs[i],b∈List.flatten Fs:=fun b hb=>List.mem_flatten.2 ⟨_,List.getElem_mem hi,hb⟩
 have hnF:(Fs[i]).Nodup:=hn2.sublist (by
  have:=Xl (List.singleton_sublist.2 (List.getElem_mem hi))
  simpa using this)
 obtain ⟨r,r1,r2,r3,r4,r5⟩:=Bd.row e3 hnF
 refine ⟨r,r1,r2,r3,q,h2,fun r' hr b hb=>?_,fun w' ys hs hk ⟨F',f1,f2,f3⟩=>?_⟩
 ·have hb:=(r4 r' hr b).1 hb
  exact ⟨t3 b (hmem b hb),fun e=>(List.nodup_cons.1 t2).1 (e▸hmem b hb)⟩
 ·have hF': ∀b∈F',b∈Fs[i]:=fun b hb=>by
   obtain ⟨r',g1,g2⟩:=f3 b hb
   exact (r4 r' g1 b).1 g2
  have hgs:=Sl Fs i _ F' hn2 hFi f2 hF'
  have hkg:w'.heap[q.g]?=w.heap[q.g]?:=hk q.g (Cn k2) k1 fun r' hr hb=>(List.nodup_cons.1 t2).1 (hmem _ ((r4 r' hr _).1 hb))
  refine ⟨k1,cur,ti,hkg.trans k2,k3,k4,by simpa using k5,Fs.set i F',by simp [t1],List.nodup_cons.2 ⟨fun hm=>(List.nodup_cons.1 t2).1 (hgs.2 _ hm),hgs.1⟩,fun b hb=>t3 b (hgs.2 b hb),fun j y F hy hF=>?_⟩
  rw [List.getElem?_set] at hy hF
  split at hy
  ·rename_i hij;subst hij
   rw [if_pos rfl] at hF
   rw [if_pos hi] at hF
   simp only [Option.some.injEq] at hF
   have hy:ys=y:=by simpa [h3] using hy
   subst hy;subst hF
   exact ⟨[.slice a n m],rfl,e2,f1⟩
  ·rename_i hij
   rw [if_neg hij] at hF
   obtain ⟨es',g1,g2,g3⟩:=t4 j y F hy hF
   refine ⟨es',g1,g2,g3.Ch _ _ _ _ hs fun b hb=>?_⟩
   have hbf:b∈List.flatten Fs:=List.mem_flatten.2 ⟨F,List.mem_of_getElem? hF,hb⟩
   exact hk b (g3.lt _ _ _ _ b hb) (t3 b hbf) fun r' hr hb'=>hij (Ab6 Fs i j _ F b hn2 hFi hF ((r4 r' hr b).1 hb') hb)
def Kq (w:World) (π:Pi) (H:List (Nat×OB)) (io:Bool) (a:AC) (u:Value) (r:Option Real):(c:CK)→c.den→Prop
 | .dat _,_=>r=none
 | .row e te,x=>match a with
  | .nilv=>r=none
  | .own l off len=>r=(π l).map full∧off=0∧len=List.length x∧ ∃fr tr,Ac H l=some (.arr fr tr e te x)
  | .sub l i _=>(io=true∧e.flat=true)∧ ∃tid xs,Ac H l=some (.xarr (.slice e) tid xs)∧xs[i]?=some x∧Aog w π l i e tid xs u r
  |_=>False
 | .xrow e te,x=>match a with
  | .nilv=>r=none
  | .own l off len=>r=(π l).map full∧off=0∧len=List.length x∧Ac H l=some (.xarr e te x)
  | .sub l i _=>io=true∧ ∃tid xs,Ac H l=some (.xarr (.slice e) tid xs)∧xs[i]?=some x∧Aog w π l i e tid xs u r
  |_=>False
 | .part e te,x=>e.flat=true∧match a with
  | .own l _ _=>r=(π l).map full∧io=true∧ ∃fr tr,Ac H l=some (.arr fr tr e te x.1)
  |_=>False
 | .grid e te _,x=>io=false∧match a with
  | .own l off len=>r=(π l).map full∧off=0∧len=List.length x∧ ∃kp,Ac H l=some (.grid e te x none kp)
  |_=>False
theorem Ov {r:Option Real} {s off len:Nat} {v:Value} (h:De r s off len v):De (r.map full) s off len v:=by
 cases r<;>exact h
def Hu (X:Ctx) (π:Pi) (V:List Nat) (b:Nat):Prop:=(Own π b∧ ∀l∈V,∀r,π l=some r→ ¬r.Av b)∨X.Sc b
theorem Hu.not {V:List Nat} {b l:Nat} (hb:Hu X π V b) (h:Gj X w π H) (hl:l∈V) {r:Real} (hr:π l=some r) (hf:r.Av b):False:=by
 rcases hb with hb|hb
 ·exact hb.2 l hl r hr hf
 ·have h1:=h.sc b hb
  rcases (h.own ⟨l,r,hr,hf⟩).2 with h2|h2
  ·omega
  ·exact h1.2 h2
theorem Hu.Xv {V:List Nat} {b:Nat} {B:Nat} {fr:Bool} (hb:Hu X π V b):Bb B X.Sc π fr b:=hb.elim (fun h=> .inl h.1) fun h=> .inr (.inl h)
theorem Ax9 {st:St} {ls:List Nat} (h:Rv st ls=true) {l:Nat} (hl:l∈ls) {tid:TypeId} {vs:List AC} (hv:Ac st.heap l=some (.var tid vs)):vs.all (·.settled)=true:=by
 have:=List.all_eq_true.1 h l hl
 unfold St.at at this
 rw [hv] at this
 exact this
theorem Cells.but {V:List Nat} {f:Bool} {τ:Ty} {cs:List Value} {x:τ.den} (h:Cells w (Bb X.w0.heap.size X.Sc π f) τ cs x):Cells w (Hu X π V) τ cs x:=
 Cells.Ch (Nat.le_refl _) (fun _ _ _=>rfl) (fun _ _ hk=>hk.Xv) τ cs x h
theorem Aa6 {st:St} (h:Gj X w π st.heap) {V:List Nat} {a:Ty} {l i:Nat} {fr:Bool} {x:a.den} (hok:Rv st [l]=true) (hlV:l∈V) (hv:Lg st a l i=some (fr,x)) {r:Real} (hr:π l=some r):
  r.g<w.heap.size∧ ¬Hu X π V r.g∧ ∃es:List Value,es.length=a.size∧(∀j u,es[j]?=some u→w.cell? ⟨r.g,i+j,none⟩=some u)∧Cells w (Hu X π V) a es x:=by
 unfold Lg at hv
 split at hv
 ·rename_i tid vs hl
  unfold St.at at hl
  obtain ⟨r',h3,h4,cur,h5,h6⟩:=(h.heap l).blk hl
  rw [hr] at h3;cases h3
  have hs:=Ax9 hok (List.mem_singleton.2 rfl) hl
  have hs':((vs.drop i).take a.size).all (·.settled)=true:=List.all_eq_true.2 fun c hc=>List.all_eq_true.1 hs c (List.mem_of_mem_drop (List.mem_of_mem_take hc))
  have hc:=Sw a _ _ fr x hs' (Ow h6 i a.size) hv
  refine ⟨Cn h5,fun hb=>hb.not h hlV hr h4,_,Cells.len a _ x hc,fun j u hu=>?_,hc.but⟩
  rw [cellOf h5]
  rw [List.getElem?_take] at hu
  split at hu
  ·rw [List.getElem?_drop] at hu;simpa using hu
  ·cases hu
 ·cases hv
theorem Aug {st:St} {l:Nat} {ls:List Nat} (h:Rv st (l::ls)=true):Rv st [l]=true∧Rv st ls=true:=by
 simp only [Rv,List.all_cons,List.all_nil,Bool.and_true,Bool.and_eq_true] at h⊢
 exact h
theorem Aqr {st:St} (h:Gj X w π st.heap) {V:List Nat} : ∀(τ:Ty) (caps:List (Nat×Nat)) (us:List Value) (fr:Bool) (x:τ.den),us.length=caps.length→
  (∀(j:Nat) p,caps[j]?=some p→ ∃r tid vs,Ac st.heap p.1=some (.var tid vs)∧π p.1=some r∧us[j]?=some (.pointer (some ⟨r.g,p.2,none⟩)))→
  Rv st (caps.map (·.1))=true→(∀p∈caps,p.1∈V)→Fg st τ caps=some (fr,x)→Cells w (Hu X π V) τ us x:=by
 intro τ
 induction τ with
 |unit=>
  intro caps us fr x hl hr _ _ hv
  cases caps with
  |nil=>exact List.eq_nil_of_length_eq_zero hl
  |cons c cs=>simp [Fg] at hv
 |pair a r _ ihr=>
  intro caps us fr x hl hr hok hV hv
  cases a with
  |ptr a=>
   cases caps with
   |nil=>simp [Fg] at hv
   |cons c cs=>
    obtain ⟨l,i⟩:=c
    simp only [Fg] at hv
    split at hv
    ·rename_i f1 y f2 z h1 h2
     simp only [Option.some.injEq,Prod.mk.injEq] at hv
     obtain ⟨rfl,rfl⟩:=hv
     cases us with
     |nil=>simp at hl
     |cons u us=>
      obtain ⟨r0,tid,vs,h3,h4,h5⟩:=hr 0 (l,i) rfl
      simp only [List.getElem?_cons_zero,Option.some.injEq] at h5
      subst h5
      obtain ⟨ok1,ok2⟩:=Aug hok
      obtain ⟨h6,h7,es,h8,h9,h10⟩:=Aa6 h ok1 (hV _ (List.mem_cons_self ..)) h1 h4
      exact ⟨[_],us,rfl,⟨r0.g,i,rfl,h6,h7,es,h8,h9,h10⟩,ihr cs us f2 z (by simpa using hl) (fun j p hp=>hr (j+1) p hp) ok2 (fun p hp=>hV p (List.mem_cons_of_mem _ hp)) h2⟩
    ·cases hv
  |_=>cases caps<;>simp [Fg] at hv
 |_=>intro caps us fr x hl hr _ _ hv;cases caps<;>simp [Fg] at hv
theorem Ba9 {st:St} (h:Gj X w π st.heap) {V:List Nat} {io:Bool} {k:Nat} {c:CK} {a:AC} {u:Value} (hu:Df X w π st.heap a u) {x:c.den} {tks:List (Nat×Loc)} (he:Fv st io k c a=some (x,tks))
  (hV: ∀t∈tks,t.2.reads=true→t.2.lab∈V): ∃r,Uw w (Hu X π V) r u c x∧Kq w π st.heap io a u r c x:=by
 cases c with
 |dat τ=>
  have own: ∀l off len,a= .own l off len→ ∃r,Uw w (Hu X π V) r u (.dat τ) x∧Kq w π st.heap io a u r (.dat τ) x:=by
   intro l off len ea
   subst ea
   simp only [Fv] at he
   cases hv:Bj st τ (.own l off len) with
   |none=>rw [hv] at he;cases he
   |some p=>
    obtain ⟨fr,y⟩:=p
    rw [hv] at he
    simp only [Option.map_some,Option.some.injEq,Prod.mk.injEq] at he
    obtain ⟨rfl,rfl⟩:=he
    have hlV:l∈V:=hV _ (List.mem_singleton.2 rfl) rfl
    refine ⟨none,⟨rfl,?_⟩,rfl⟩
    cases τ<;>simp only [Bj] at hv<;>try (cases hv;done)
    rename_i e
    cases hl:st.at l with
    |none=>rw [hl] at hv;cases hv
    |some b=>
     rw [hl] at hv
     unfold St.at at hl
     cases b<;>(try simp only [] at hv)<;>try (cases hv;done)
     ·rename_i fr0 tr0 e0 tid xs
      split at hv
      ·rename_i hee;subst hee
       simp only [Option.some.injEq,Prod.mk.injEq] at hv
       obtain ⟨_,rfl⟩:=hv
       obtain ⟨h1,h2⟩:=Ht hu hl
       exact ⟨[u],Afu h hl h1 h2 (fun b hb ⟨r,hr,hf⟩=>hb.not h hlV hr hf) (fun b _ hb=>hb.Xv),rfl⟩
      ·cases hv
     ·rename_i e0 tid xs
      split at hv
      ·rename_i hee;subst hee
       simp only [Option.some.injEq,Prod.mk.injEq] at hv
       obtain ⟨_,rfl⟩:=hv
       obtain ⟨h1,h2⟩:=Ro hu hl
       exact ⟨[u],Ad3 h hl h1 h2 (fun b hb ⟨r,hr,hf⟩=>hb.not h hlV hr hf),rfl⟩
      ·cases hv
     ·rename_i e0 te0 rows out kp
      cases out with
      |some i=>cases hv
      |none=>
       simp only [] at hv
       split at hv
       ·rename_i hee;subst hee
        simp only [Option.some.injEq,Prod.mk.injEq] at hv
        obtain ⟨_,rfl⟩:=hv
        obtain ⟨h1,h2⟩:=Aeh hu hl
        exact ⟨[u],Aj2 h hl h1 h2 (fun b hb ⟨r,hr,hf⟩=>hb.not h hlV hr hf) (fun b hb=>hb.Xv),rfl⟩
       ·cases hv
  have hclo: ∀g caps,a= .clo g caps→ ∃r,Uw w (Hu X π V) r u (.dat τ) x∧Kq w π st.heap io a u r (.dat τ) x:=by
   intro g caps ea
   subst ea
   simp only [Fv] at he
   split at he
   ·rename_i hc
    simp only [Bool.and_eq_true,Bool.not_eq_true'] at hc
    obtain ⟨hok,hτ⟩:=hc
    cases hv:Ek st τ (.clo g caps) with
    |none=>rw [hv] at he;cases he
    |some p=>
     obtain ⟨fr,y⟩:=p
     rw [hv] at he
     simp only [Option.map_some,Option.some.injEq,Prod.mk.injEq] at he
     obtain ⟨rfl,rfl⟩:=he
     have hcV: ∀p∈caps,p.1∈V:=fun p hp=>hV (Bn false k, .view p.1) (List.mem_map.2 ⟨p.1,List.mem_map.2 ⟨p,hp,rfl⟩,rfl⟩) rfl
     obtain ⟨us,rfl,h2,h3⟩:=hu
     refine ⟨none,⟨rfl,Bc.Aea hτ ?_⟩,rfl⟩
     cases τ<;>simp only [Ek] at hv<;>try (simp only [Bj,reduceCtorEq] at hv;done)
     rename_i f0 c0
     split at hv
     ·rename_i hg
      subst hg
      exact ⟨us,rfl,Aqr h c0 caps us fr y h2 h3 hok hcV hv⟩
     ·cases hv
   ·cases he
  have hvp: ∀l i,a= .vptr l i→ ∃r,Uw w (Hu X π V) r u (.dat τ) x∧Kq w π st.heap io a u r (.dat τ) x:=by
   intro l i ea
   subst ea
   simp only [Fv] at he
   split at he
   ·rename_i hc
    simp only [Bool.and_eq_true,Bool.not_eq_true'] at hc
    obtain ⟨hok,hτ⟩:=hc
    cases hv:Ek st τ (.vptr l i) with
    |none=>rw [hv] at he;cases he
    |some p=>
     obtain ⟨fr,y⟩:=p
     rw [hv] at he
     simp only [Option.map_some,Option.some.injEq,Prod.mk.injEq] at he
     obtain ⟨rfl,rfl⟩:=he
     have hlV:l∈V:=hV (Bn false k, .view l) (List.mem_map.2 ⟨l,List.mem_singleton.2 rfl,rfl⟩) rfl
     obtain ⟨r,tid,vs,h1,h2,rfl⟩:=hu
     refine ⟨none,⟨rfl,Bc.Aea hτ ?_⟩,rfl⟩
     cases τ<;>simp only [Ek] at hv<;>try (simp only [Bj,reduceCtorEq] at hv;done)
     ·obtain ⟨h6,h7,h8⟩:=Aa6 h hok hlV hv h2
      exact ⟨r.g,i,rfl,h6,h7,h8⟩
     ·rename_i a
      cases hp:Lg st a l i with
      |none=>rw [hp] at hv;cases hv
      |some p=>
       rw [hp] at hv
       simp only [Option.map_some,Option.some.injEq,Prod.mk.injEq] at hv
       obtain ⟨_,rfl⟩:=hv
       obtain ⟨h6,h7,h8⟩:=Aa6 h hok hlV hp h2
       exact .inr ⟨_,r.g,i,rfl,rfl,h6,h7,h8⟩
   ·cases he
  have hsub: ∀l i c,a= .sub l i c→ ∃r,Uw w (Hu X π V) r u (.dat τ) x∧Kq w π st.heap io a u r (.dat τ) x:=by
   intro l i c ea
   subst ea
   simp only [Fv] at he
   cases hv:Bj st τ (.sub l i c) with
   |none=>rw [hv] at he;cases he
   |some p=>
    obtain ⟨fr,y⟩:=p
    rw [hv] at he
    simp only [Option.map_some,Option.some.injEq,Prod.mk.injEq] at he
    obtain ⟨rfl,rfl⟩:=he
    have hlV:l∈V:=hV _ (List.mem_singleton.2 rfl) rfl
    refine ⟨none,⟨rfl,?_⟩,rfl⟩
    cases τ<;>simp only [Bj] at hv<;>try (cases hv;done)
    rename_i e
    cases hl:st.at l with
    |none=>rw [hl] at hv;cases hv
    |some b=>
     rw [hl] at hv
     unfold St.at at hl
     cases b<;>(try simp only [] at hv)<;>try (cases hv;done)
     rename_i e0 te0 rows out kp
     cases out with
     |some i=>cases hv
     |none=>
      simp only [] at hv
      split at hv
      ·rename_i hee;subst hee
       simp only [Option.some.injEq,Prod.mk.injEq] at hv
       obtain ⟨_,rfl⟩:=hv
       exact ⟨[u],Aj3 h hl (Asb hu hl) hu (fun b hb ⟨r,hr,hf⟩=>hb.not h hlV hr hf) (fun b hb=>hb.Xv),rfl⟩
      ·cases hv
  by_cases hsub': ∃l i c,a= .sub l i c
  ·obtain ⟨l,i,c,ea⟩:=hsub';exact hsub l i c ea
  by_cases hclo': ∃g caps,a= .clo g caps
  ·obtain ⟨g,caps,ea⟩:=hclo';exact hclo g caps ea
  by_cases hvp': ∃l i,a= .vptr l i
  ·obtain ⟨l,i,ea⟩:=hvp';exact hvp l i ea
  by_cases hown: ∃l off len,a= .own l off len
  ·obtain ⟨l,off,len,ea⟩:=hown;exact own l off len ea
  have he:(if τ.flat||a.settled then (Bj st τ a).map fun p=>(p.2,([]:List (Nat×Loc))) else none)=some (x,tks):=by
   cases a<;>first|exact he|exact absurd ⟨_,_,_,rfl⟩ hown|exact absurd ⟨_,_,rfl⟩ hclo'|exact absurd ⟨_,_,rfl⟩ hvp'|exact absurd ⟨_,_,_,rfl⟩ hsub'
  split at he
  ·rename_i hc
   cases hv:Bj st τ a with
   |none=>rw [hv] at he;cases he
   |some p=>
    obtain ⟨fr,y⟩:=p
    rw [hv] at he
    simp only [Option.map_some,Option.some.injEq,Prod.mk.injEq] at he
    obtain ⟨rfl,rfl⟩:=he
    refine ⟨none,⟨rfl,?_⟩,rfl⟩
    have Eb: ∀f,Bc w (Bb X.w0.heap.size X.Sc π f) τ u y→Bc w (Hu X π V) τ u y:=fun f hr=>hr.Eb fun k _ hk=>hk.Xv
    cases a with
    |data f τ' z=>
     rw [He] at hv
     split at hv
     ·rename_i ht;subst ht
      simp only [Option.some.injEq,Prod.mk.injEq] at hv
      obtain ⟨_,rfl⟩:=hv
      exact Eb f hu
     ·have hst:τ.Ab=false:=by unfold Yh at hv;split at hv<;>first|rfl|cases hv
      exact Eb _ ⟨[u],Ta hv hu,by simp [Ap,hst]⟩
    |nilv=>
     have hu:u= .slice none 0 0:=hu
     subst hu
     cases τ<;>simp only [Bj,Option.some.injEq,Prod.mk.injEq,reduceCtorEq] at hv
     ·obtain ⟨_,rfl⟩:=hv;exact ⟨[_],⟨none,0,0,rfl,rfl,Nat.le_refl _, .inl rfl⟩,rfl⟩
     ·obtain ⟨_,rfl⟩:=hv;exact ⟨[_], .inl ⟨rfl,0,rfl⟩,rfl⟩
    |nilp=>
     have hu:u= .pointer none:=hu
     subst hu
     cases τ<;>simp only [Bj,Option.some.injEq,Prod.mk.injEq,reduceCtorEq] at hv
     obtain ⟨_,rfl⟩:=hv;exact ⟨[_], .inl ⟨rfl,rfl⟩,rfl⟩
    |_=>cases τ<;>simp [AC.settled,Ty.flat,Bj] at hc hv
  ·cases he
 |row e te=>
  cases a<;>simp only [Fv] at he<;>try (cases he;done)
  ·simp only [Option.some.injEq,Prod.mk.injEq] at he
   obtain ⟨rfl,rfl⟩:=he
   have hu:u= .slice none 0 0:=hu
   exact ⟨none,⟨⟨hu,rfl,rfl⟩,rfl⟩,rfl⟩
  ·rename_i l off len
   split at he
   ·rename_i fr tr e' te' xs hl
    split at he
    ·rename_i hc
     obtain ⟨rfl,rfl,rfl,rfl⟩:=hc
     simp only [Option.some.injEq,Prod.mk.injEq] at he
     obtain ⟨rfl,rfl⟩:=he
     unfold St.at at hl
     obtain ⟨_,h2⟩:=Ht hu hl
     refine ⟨(π l).map full,⟨Ov h2,?_⟩,rfl,rfl,rfl,fr,tr,hl⟩
     have hb:=(h.heap l).blk hl
     simp only [Aq,El] at hb
     cases hp:π l with
     |none=>rw [hp] at hb;exact hb
     |some q=>
      rw [hp] at hb
      obtain ⟨k1,cur,ti,k2,k3,k4,k5,k6,_⟩:=hb
      refine ⟨⟨k1.1,k1.2.1⟩,cur,ti,k2,k3,k4,k5,fun i y hy=>?_⟩
      obtain ⟨es,g1,g2,g3⟩:=k6 i y hy
      exact ⟨es,g1,g2,Cells.Ch (Nat.le_refl _) (fun _ _ _=>rfl) (fun _ _ hk=>hk.Xv) e' es y g3⟩
    ·cases he
   ·cases he
  ·rename_i l i c
   split at he
   ·rename_i e' tid xs hl
    split at he
    ·rename_i hc
     obtain ⟨rfl,hf,hio,hc0⟩:=hc
     cases hx:xs[i]? with
     |none=>rw [hx] at he;cases he
     |some y=>
      rw [hx] at he
      simp only [Option.map_some,Option.some.injEq,Prod.mk.injEq] at he
      obtain ⟨rfl,rfl⟩:=he
      unfold St.at at hl
      obtain ⟨r,r1,r2,_,r4⟩:=Au7 h hl hx hc0 hu
      exact ⟨r,⟨r1,r2 hf _⟩,⟨hio,hf⟩,tid,xs,hl,hx,r4⟩
    ·cases he
   ·cases he
 |xrow e te=>
  cases a<;>simp only [Fv] at he<;>try (cases he;done)
  ·simp only [Option.some.injEq,Prod.mk.injEq] at he
   obtain ⟨rfl,rfl⟩:=he
   have hu:u= .slice none 0 0:=hu
   exact ⟨none,⟨⟨hu,rfl,rfl⟩,rfl⟩,rfl⟩
  ·rename_i l off len
   split at he
   ·rename_i e' te' xs hl
    split at he
    ·rename_i hc
     obtain ⟨rfl,rfl,rfl,rfl⟩:=hc
     simp only [Option.some.injEq,Prod.mk.injEq] at he
     obtain ⟨rfl,rfl⟩:=he
     unfold St.at at hl
     obtain ⟨_,h2⟩:=Ro hu hl
     refine ⟨(π l).map full,⟨Ov h2,?_⟩,rfl,rfl,rfl,hl⟩
     have hb:=(h.heap l).blk hl
     simp only [Aq] at hb
     cases hp:π l with
     |none=>rw [hp] at hb;exact hb
     |some q=>rw [hp] at hb;exact hb
    ·cases he
   ·cases he
  ·rename_i l i c
   split at he
   ·rename_i e' tid xs hl
    split at he
    ·rename_i hc
     obtain ⟨rfl,hio,hc0⟩:=hc
     cases hx:xs[i]? with
     |none=>rw [hx] at he;cases he
     |some y=>
      rw [hx] at he
      simp only [Option.map_some,Option.some.injEq,Prod.mk.injEq] at he
      obtain ⟨rfl,rfl⟩:=he
      unfold St.at at hl
      obtain ⟨r,r1,_,r3,r4⟩:=Au7 h hl hx hc0 hu
      exact ⟨r,⟨r1,r3 te⟩,hio,tid,xs,hl,hx,r4⟩
    ·cases he
   ·cases he
 |part e te=>
  cases a<;>simp only [Fv] at he<;>try (cases he;done)
  rename_i l off len
  split at he
  ·rename_i fr tr e' te' xs hl
   split at he
   ·rename_i hc
    obtain ⟨rfl,rfl,hf,hio⟩:=hc
    simp only [Option.some.injEq,Prod.mk.injEq] at he
    obtain ⟨rfl,rfl⟩:=he
    unfold St.at at hl
    obtain ⟨h1,h2⟩:=Ht hu hl
    refine ⟨(π l).map full,⟨⟨Ov h2,h1⟩,hf,?_⟩,hf,rfl,hio,fr,tr,hl⟩
    have hb:=(h.heap l).blk hl
    simp only [Aq,El] at hb
    cases hp:π l with
    |none=>rw [hp] at hb;exact hb
    |some q=>
     rw [hp] at hb
     obtain ⟨k1,cur,ti,k2,k3,k4,k5,k6,_⟩:=hb
     refine ⟨⟨k1.1,k1.2.1⟩,cur,ti,k2,k3,k4,k5,fun i y hy=>?_⟩
     obtain ⟨es,g1,g2,g3⟩:=k6 i y hy
     exact ⟨es,g1,g2,Cells.flat e' es y hf g3⟩
   ·cases he
  ·cases he
 |grid e te kp=>
  cases a<;>simp only [Fv] at he<;>try (cases he;done)
  rename_i l off len
  split at he
  ·rename_i e' te' rows kp' hl
   split at he
   ·rename_i hc
    obtain ⟨rfl,rfl,rfl,rfl,hio⟩:=hc
    simp only [Option.some.injEq,Prod.mk.injEq] at he
    obtain ⟨rfl,rfl⟩:=he
    unfold St.at at hl
    obtain ⟨h1,h2⟩:=Aeh hu hl
    refine ⟨(π l).map full,⟨Ov h2,?_⟩,hio,rfl,rfl,rfl,kp',hl⟩
    have hb:=(h.heap l).blk hl
    simp only [Aq] at hb
    have hb:=hb.1
    have hg:Pk w (Bb X.w0.heap.size X.Sc π false) ((π l).map full) e' rows none:=by
     cases hp:π l with
     |none=>rw [hp] at hb;exact hb
     |some q=>rw [hp] at hb;exact hb
    exact hg.Ch (fun _ _ _ _ _=>rfl) fun es x hc=>hc.but
   ·cases he
  ·cases he
end
end Go.Proofs.Ytebabhocakedaaa
