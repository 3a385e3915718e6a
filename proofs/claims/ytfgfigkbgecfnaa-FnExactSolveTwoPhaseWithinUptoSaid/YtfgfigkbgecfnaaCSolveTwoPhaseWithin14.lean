/-
  Part 15 of the proof that the statement FnExactSolveTwoPhaseWithin holds.
-/
import Derived.Test.YtfgfigkbgecfnaaCSolveTwoPhaseWithin13
namespace Go.Proofs.Ytfgfigkbgecfnaa
open Go.RowKit
section
variable {P:Program} {T:Tab} {X:Ctx} {w w':World} {π π':Pi} {H H':List (Nat×OB)}
def full (r:Real):Real:= {r with cl:=r.Df}
theorem Dn.tK: ∀(τ:Ty) (F:List Nat) (es:List Value) (x:τ.den),τ.flat=true->Dn w F τ es x->F= []
 | .int k,F,es,x,_,h=>h.1
 | .bool,F,es,x,_,h=>h.1
 | .str,F,es,x,_,h=>h.1
 | .unit,F,es,x,_,h=>h.1
 | .pair a r,F,es,x,hf,h=>by
  simp only [Ty.flat,Ak] at hf;simp only [Dn] at h;obtain ⟨c1,c2,F1,F2,_,rfl,h1,h2⟩:=h;rw [Dn.tK a F1 c1 x.1 hf.1 h1,Dn.tK r F2 c2 x.2 hf.2 h2];rfl
 | .slice _,_,_,_,hf,_=>by simp [Ty.flat] at hf
 | .oslice _,_,_,_,hf,_=>by simp [Ty.flat] at hf
 | .ptr _,_,_,_,hf,_=>by simp [Ty.flat] at hf
 | .optr _,_,_,_,hf,_=>by simp [Ty.flat] at hf
 | .smap _,_,_,_,hf,_=>by simp [Ty.flat] at hf
 | .clo _ _,_,_,_,hf,_=>by simp [Ty.flat] at hf
theorem nY {S P:Nat->Prop} {g o:Nat} {cur:Array Value} {e:Ty} {xs:List e.den} (hf:e.flat=true)
  (h: ∀(i:Nat) (x:e.den),xs[i]?=some x-> ∃es:List Value,es.length=e.size/\(∀j u,es[j]?=some u->cur[(o+i)*e.size+j]?=some u)/\Cells w S e es x):Yh w P g o cur e xs:=by
 refine ⟨List.replicate xs.length [],by simp,by simp,by simp,λi x F hx hF=>?_⟩;obtain ⟨es,e1,e2,e3⟩:=h i x hx;have:F= []:=Gf (Cs hF);subst this;exact ⟨es,e1,e2,Yt e es x hf e3⟩
theorem Tr.QM {D:Nat->Prop} {r:Option Real} {e:Ty} {ys:List e.den} {u:Value} (h:Tr w D r e ys) (hf:e.flat=true) (hv:Ih r e.size 0 ys.length u):
  ∃F,Dn w F (.slice e) [u] ys/\F.Nodup/\ ∀b∈F,∃r',r=some r'/\r'.Df b:=by
 cases r with
 |none=>
  obtain ⟨rfl,_,_⟩:=hv;have h:ys= []:=h;subst h;exact ⟨[],⟨none,0,0,rfl,rfl,Ap _, .inl ⟨rfl,rfl,rfl,rfl⟩⟩,Mc,λb hb=>by cases hb⟩
 |some r=>
  obtain ⟨h1,cur,ti,h2,h3,h4,h5,h6⟩:=h;obtain ⟨F,f1,f2,f3⟩:=kZ (P:=r.Df) h2 h3 h4 (by omega) hv (nY hf h6) h1.1;exact ⟨F,by simpa using f1,f2,λb hb=>⟨r,rfl,f3 b hb⟩⟩
theorem On.QM {r:Option Real} {e:Ty} {te:TypeId} {ys:List e.den} {u:Value} (h:On w r e te ys) (hv:Ih r e.size 0 ys.length u):
  ∃F,Dn w F (.slice e) [u] ys/\F.Nodup/\ ∀b∈F,∃r',r=some r'/\r'.Df b:=by
 cases r with
 |none=>
  obtain ⟨rfl,_,_⟩:=hv;have h:ys= []:=h;subst h;exact ⟨[],⟨none,0,0,rfl,rfl,Ap _, .inl ⟨rfl,rfl,rfl,rfl⟩⟩,Mc,λb hb=>by cases hb⟩
 |some r=>
  obtain ⟨h1,cur,ti,h2,h3,h4,h5,h6⟩:=h;obtain ⟨F,f1,f2,f3⟩:=kZ (P:=r.Df) h2 h3 h4 (by omega) hv h6 h1;exact ⟨F,by simpa using f1,f2,λb hb=>⟨r,rfl,f3 b hb⟩⟩
theorem Dn.row {F:List Nat} {e:Ty} {u:Value} {xs:List e.den} (h:Dn w F (.slice e) [u] xs) (hn:F.Nodup):
  ∃r:Option Real,Ih r e.size 0 xs.length u/\(e.flat=true-> ∀D,Tr w D r e xs)/\(∀te,On w r e te xs)/\(∀r',r=some r'-> ∀b,r'.Df b↔b∈F)/\(r=none->F= []):=by
 simp only [Dn] at h;obtain ⟨a,len,cap,e0,e1,e2,h⟩:=h;simp only [Hi,bz] at e0;subst e0;rcases h with ⟨rfl,rfl,rfl,rfl⟩|⟨ad,g,o,Fs,rfl,ha,⟨cur,ti,o',s1,s2,s3,s4⟩,rfl,hl,Ma⟩
 ·exact ⟨none,⟨by rw [e1];rfl,rfl,rfl⟩,λ_ _=>rfl,λ_=>rfl,(λr' h=>by cases h),λ_=>rfl⟩
 ·subst s2
  have lI: ∀(i:Nat) (x:e.den) (Fi:List Nat),xs[i]?=some x->Fs[i]?=some Fi-> ∃es:List Value,es.length=e.size/\(∀j u,es[j]?=some u->cur[(o'+i)*e.size+j]?=some u)/\Dn w Fi e es x:=by
   intro i x Fi hx hF;obtain ⟨es,k1,k2,k3⟩:=Ma i x Fi hx hF;refine ⟨es,k1,λj v hv=>?_,k3⟩;have:=k2 j v hv;rw [cellOf s1] at this;rw [Dr];exact this
  refine ⟨some ⟨g,o',cap,(· ∈g::List.flatten Fs),(· ∈g::List.flatten Fs)⟩,⟨ad,by rw [e1];rfl,by dsimp only;omega,λh0=>by rw [ha h0];rfl⟩,λhf D=>⟨⟨by simp,λb hb=>?_⟩,cur,ti,s1,s3,s4,by rw [<-e1];exact e2,λi x hx=>?_⟩,
   fun te=>⟨by simp,cur,ti,s1,s3,s4,by rw [<-e1];exact e2,Fs,hl,hn,λb hb=>by simp [hb],lI⟩,λr' hr b=>by cases hr;exact Iff.rfl,λh=>by cases h⟩
  ·rcases Bd.1 hb with hb|hb
   ·exact hb
   ·obtain ⟨Fi,h1,h2⟩:=Hv.1 hb;obtain ⟨i,hi,rfl⟩:=Sa h1;obtain ⟨es,_,_,k3⟩:=lI i (xs[i]'(by omega)) _ (Ad _) (Ad hi);rw [Dn.tK e _ _ _ hf k3] at h2;cases h2
  ·have hi:i<Fs.length:=by have:=(Ao.1 hx).1;omega
   obtain ⟨es,k1,k2,k3⟩:=lI i x _ hx (Ad hi);exact ⟨es,k1,k2,Cells.flat e es x hf (Dn.cells (S:= λ_=>False) _ e es x k3 λb hb=> λh=>h)⟩
theorem dt: ∀(Fs:List (List Nat)) (i:Nat) (Fi F':List Nat),(List.flatten Fs).Nodup->Fs[i]?=some Fi->F'.Nodup->(∀b∈F',b∈Fi)->(List.flatten (Fs.set i F')).Nodup/\ ∀b∈List.flatten (Fs.set i F'),b∈List.flatten Fs
 | [],i,Fi,F',_,h,_,_=>by simp at h
 |G::Fs,0,Fi,F',hn,h,lK,hs=>by
  simp only [Cf,Aa] at h;subst h;simp only [List.set_cons_zero,Ls] at hn⊢;obtain ⟨n1,n2,n3⟩:=Ee.1 hn;refine ⟨Ee.2 ⟨lK,n2,λa ha b hb=>n3 a (hs a ha) b hb⟩,λb hb=>?_⟩;rcases Be.1 hb with hb|hb
  ·exact Bo _ (hs b hb)
  ·exact Cm _ hb
 |G::Fs,i+1,Fi,F',hn,h,lK,hs=>by
  simp only [Kj] at h;simp only [List.set_cons_succ,Ls] at hn⊢;obtain ⟨n1,n2,n3⟩:=Ee.1 hn;obtain ⟨m1,m2⟩:=dt Fs i Fi F' n2 h lK hs;refine ⟨Ee.2 ⟨n1,m1,λa ha b hb=>n3 a ha b (m2 b hb)⟩,λb hb=>?_⟩;rcases Be.1 hb with hb|hb
  ·exact Bo _ hb
  ·exact Cm _ (m2 b hb)
theorem lC: ∀(Fs:List (List Nat)) (i j:Nat) (Fi Fj:List Nat) (b:Nat),(List.flatten Fs).Nodup->Fs[i]?=some Fi->Fs[j]?=some Fj->b∈Fi->b∈Fj->i=j
 | [],i,j,Fi,Fj,b,_,h,_,_,_=>by simp at h
 |G::Fs,0,0,_,_,_,_,_,_,_,_=>rfl
 |G::Fs,0,j+1,Fi,Fj,b,hn,h1,h2,h3,h4=>by
  simp only [Cf,Aa,Kj] at h1 h2;subst h1;simp only [Ls] at hn;exact absurd rfl ((Ee.1 hn).2.2 b h3 b (Hv.2 ⟨Fj,Cs h2,h4⟩))
 |G::Fs,i+1,0,Fi,Fj,b,hn,h1,h2,h3,h4=>by
  simp only [Cf,Aa,Kj] at h1 h2;subst h2;simp only [Ls] at hn;exact absurd rfl ((Ee.1 hn).2.2 b h4 b (Hv.2 ⟨Fi,Cs h1,h3⟩))
 |G::Fs,i+1,j+1,Fi,Fj,b,hn,h1,h2,h3,h4=>by
  simp only [Kj] at h1 h2;simp only [Ls] at hn;rw [lC Fs i j Fi Fj b (Ee.1 hn).2.1 h1 h2 h3 h4]
def zf (w:World) (π:Pi) (l i:Nat) (e:Ty) (tid:TypeId) (xs:List (List e.den)) (u:Value) (r:Option Real):Prop:=
 ∃q,π l=some q/\(∀r',r=some r'-> ∀b,r'.Df b->q.Df b/\b≠q.g)/\
  ∀(w':World) (ys:List e.den),w.heap.size<=w'.heap.size->(∀b,b<w.heap.size->q.Df b->(∀r',r=some r'-> ¬r'.Df b)->w'.heap[b]?=w.heap[b]?)->
   (∃F',Dn w' F' (.slice e) [u] ys/\F'.Nodup/\ ∀b∈F',∃r',r=some r'/\r'.Df b)->On w' (some q) (.slice e) tid (xs.set i ys)
theorem JU (h:Nm X w π H) {l i c:Nat} {e:Ty} {tid:TypeId} {xs:List (List e.den)} {x:List e.den} {u:Value} (hl:Ay H l=some (.Hl (.slice e) tid xs)) (hx:xs[i]?=some x) (hc:c=0)
  (hu:Hw X w π H (.sub l i c) u): ∃r,Ih r e.size 0 x.length u/\(e.flat=true-> ∀D,Tr w D r e x)/\(∀te,On w r e te x)/\zf w π l i e tid xs u r:=by
 subst hc;obtain ⟨q,b0,sz0,n0,h1,qT,h2,h3,⟨h4,a,n,m,rfl⟩,h5⟩:=hu;rw [hl] at h1;cases h1;simp only [OB.ic,Aa,Ag] at qT;obtain ⟨rfl,rfl⟩:=qT;have hb:=(h.heap l).Se hl;simp only [Cq,On,h2] at hb;obtain ⟨k1,cur,ti,k2,k3,k4,k5,Fs,t1,t2,t3,t4⟩:=hb
 have hi:i<Fs.length:=by have:=(Ao.1 hx).1;omega
 have hFi:Fs[i]?=some Fs[i]:=Ad hi;obtain ⟨es,e1,e2,e3⟩:=t4 i x _ hx hFi;have e1':es.length=1:=e1;obtain ⟨v,rfl⟩:=Ek.1 e1'
 have hv:v= .slice a n m:=by
  have:=e2 0 v rfl;rw [cellOf k2] at h5;rw [this] at h5;exact Bi h5
 subst hv;have hn2:=(Cn.1 t2).2;have jq: ∀b∈Fs[i],b∈List.flatten Fs:= λb hb=>Hv.2 ⟨_,Ah hi,hb⟩
 have hnF:(Fs[i]).Nodup:=hn2.sublist (by
  have:=iw (List.singleton_sublist.2 (Ah hi))
  simpa using this)
 obtain ⟨r,r1,r2,r3,r4,r5⟩:=Dn.row e3 hnF;refine ⟨r,r1,r2,r3,q,h2,λr' hr b hb=>?_,λw' ys hs hk ⟨F',f1,f2,f3⟩=>?_⟩
 ·have hb:=(r4 r' hr b).1 hb;exact ⟨t3 b (jq b hb),λe=>(Cn.1 t2).1 (e▸jq b hb)⟩
 ·have hF': ∀b∈F',b∈Fs[i]:= λb hb=>by
   obtain ⟨r',g1,g2⟩:=f3 b hb;exact (r4 r' g1 b).1 g2
  have SA:=dt Fs i _ F' hn2 hFi f2 hF';have hkg:w'.heap[q.g]?=w.heap[q.g]?:=hk q.g (Gv k2) k1 λr' hr hb=>(Cn.1 t2).1 (jq _ ((r4 r' hr _).1 hb));refine ⟨k1,cur,ti,hkg.trans k2,k3,k4,by simpa using k5,Fs.set i F',by simp [t1],Cn.2 ⟨λhm=>(Cn.1 t2).1 (SA.2 _ hm),SA.1⟩,λb hb=>t3 b (SA.2 b hb),λj y F hy hF=>?_⟩;rw [Fb] at hy hF;split at hy
  ·rename_i fU;subst fU;rw [Ac rfl] at hF;rw [Ac hi] at hF;simp only [Aa] at hF
   have hy:ys=y:=by simpa [h3] using hy
   subst hy;subst hF;exact ⟨[.slice a n m],rfl,e2,f1⟩
  ·rename_i fU;rw [Ai fU] at hF;obtain ⟨pd,g1,g2,g3⟩:=t4 j y F hy hF;refine ⟨pd,g1,g2,g3.Gd _ _ _ _ hs λb hb=>?_⟩;have hbf:b∈List.flatten Fs:=Hv.2 ⟨F,Cs hF,hb⟩;exact hk b (g3.lt _ _ _ _ b hb) (t3 b hbf) λr' hr sD=>fU (lC Fs i j _ F b hn2 hFi hF ((r4 r' hr b).1 sD) hb)
def Um (w:World) (π:Pi) (H:List (Nat×OB)) (io:Bool) (a:AC) (u:Value) (r:Option Real):(c:CK)->c.den->Prop
 | .Ia _,_=>r=none
 | .row e te,x=>match a with
  | .Mn=>r=none
  | .own l off len=>r=(π l).map full/\off=0/\len=List.length x/\ ∃fr tr,Ay H l=some (.arr fr tr e te x)
  | .sub l i _=>(io=true/\e.flat=true)/\ ∃tid xs,Ay H l=some (.Hl (.slice e) tid xs)/\xs[i]?=some x/\zf w π l i e tid xs u r
  |_=>False
 | .Hz e te,x=>match a with
  | .Mn=>r=none
  | .own l off len=>r=(π l).map full/\off=0/\len=List.length x/\Ay H l=some (.Hl e te x)
  | .sub l i _=>io=true/\ ∃tid xs,Ay H l=some (.Hl (.slice e) tid xs)/\xs[i]?=some x/\zf w π l i e tid xs u r
  |_=>False
 | .part e te,x=>e.flat=true/\match a with
  | .own l _ _=>r=(π l).map full/\io=true/\ ∃fr tr,Ay H l=some (.arr fr tr e te x.1)
  |_=>False
 | .Ca e te _,x=>io=false/\match a with
  | .own l off len=>r=(π l).map full/\off=0/\len=List.length x/\ ∃kp,Ay H l=some (.Ca e te x none kp)
  |_=>False
theorem au {r:Option Real} {s off len:Nat} {v:Value} (h:Ih r s off len v):Ih (r.map full) s off len v:=by
 cases r<;>exact h
def Pg (X:Ctx) (π:Pi) (V:List Nat) (b:Nat):Prop:=(Wn π b/\ ∀l∈V,∀r,π l=some r-> ¬r.Df b)\/X.Sc b
theorem Pg.not {V:List Nat} {b l:Nat} (hb:Pg X π V b) (h:Nm X w π H) (hl:l∈V) {r:Real} (hr:π l=some r) (hf:r.Df b):False:=by
 rcases hb with hb|hb
 ·exact hb.2 l hl r hr hf
 ·have h1:=h.sc b hb;rcases (h.own ⟨l,r,hr,hf⟩).2 with h2|h2
  ·omega
  ·exact h1.2 h2
theorem Pg.iU {V:List Nat} {b:Nat} {B:Nat} {fr:Bool} (hb:Pg X π V b):Dk B X.Sc π fr b:=hb.elim (λh=> .inl h.1) λh=> .inr (.inl h)
theorem QP {st:St} {ls:List Nat} (h:cL st ls=true) {l:Nat} (hl:l∈ls) {tid:TypeId} {vs:List AC} (hv:Ay st.heap l=some (.var tid vs)):vs.all (·.settled)=true:=by
 have:=Bk.1 h l hl;unfold St.at at this;rw [hv] at this;exact this
theorem Cells.but {V:List Nat} {f:Bool} {τ:Ty} {cs:List Value} {x:τ.den} (h:Cells w (Dk X.w0.heap.size X.Sc π f) τ cs x):Cells w (Pg X π V) τ cs x:=
 Cells.Gd (Ap _) (λ_ _ _=>rfl) (λ_ _ hk=>hk.iU) τ cs x h
theorem ku {st:St} (h:Nm X w π st.heap) {V:List Nat} {a:Ty} {l i:Nat} {fr:Bool} {x:a.den} (jr:cL st [l]=true) (hlV:l∈V) (hv:Vj st a l i=some (fr,x)) {r:Real} (hr:π l=some r):
  r.g<w.heap.size/\ ¬Pg X π V r.g/\ ∃es:List Value,es.length=a.size/\(∀j u,es[j]?=some u->w.cell? ⟨r.g,i+j,none⟩=some u)/\Cells w (Pg X π V) a es x:=by
 unfold Vj at hv;split at hv
 ·rename_i tid vs hl;unfold St.at at hl;obtain ⟨r',h3,h4,cur,h5,h6⟩:=(h.heap l).Se hl;rw [hr] at h3;cases h3;have hs:=QP jr (Af.2 rfl) hl;have DV:((vs.drop i).take a.size).all (·.settled)=true:=Bk.2 λc hc=>Bk.1 hs c (er (Gl hc));have hc:=Xq a _ _ fr x DV (aw h6 i a.size) hv;refine ⟨Gv h5,λhb=>hb.not h hlV hr h4,_,Cells.len a _ x hc,λj u hu=>?_,hc.but⟩;rw [cellOf h5];rw [Di] at hu;split at hu
  ·rw [Cp] at hu;simpa using hu
  ·cases hu
 ·cases hv
theorem KG {st:St} {l:Nat} {ls:List Nat} (h:cL st (l::ls)=true):cL st [l]=true/\cL st ls=true:=by
 simp only [cL,Jz,List.all_nil,Bool.and_true,Ak] at h⊢;exact h
theorem DB {st:St} (h:Nm X w π st.heap) {V:List Nat} : ∀(τ:Ty) (En:List (Nat×Nat)) (us:List Value) (fr:Bool) (x:τ.den),us.length=En.length->
  (∀(j:Nat) p,En[j]?=some p-> ∃r tid vs,Ay st.heap p.1=some (.var tid vs)/\π p.1=some r/\us[j]?=some (.pointer (some ⟨r.g,p.2,none⟩)))->
  cL st (En.map (·.1))=true->(∀p∈En,p.1∈V)->Lr st τ En=some (fr,x)->Cells w (Pg X π V) τ us x:=by
 intro τ
 induction τ with
 |unit=>
  intro En us fr x hl hr _ _ hv
  cases En with
  |nil=>exact Cr hl
  |cons c cs=>simp [Lr] at hv
 |pair a r _ iH=>
  intro En us fr x hl hr jr hV hv
  cases a with
  |ptr a=>
   cases En with
   |nil=>simp [Lr] at hv
   |cons c cs=>
    obtain ⟨l,i⟩:=c;simp only [Lr] at hv;split at hv
    ·rename_i f1 y f2 z h1 h2;simp only [Aa,Ag] at hv;obtain ⟨rfl,rfl⟩:=hv
     cases us with
     |nil=>simp at hl
     |cons u us=>
      obtain ⟨r0,tid,vs,h3,h4,h5⟩:=hr 0 (l,i) rfl;simp only [Cf,Aa] at h5;subst h5;obtain ⟨ok1,ok2⟩:=KG jr;obtain ⟨h6,h7,es,h8,h9,qT⟩:=ku h ok1 (hV _ (Kv ..)) h1 h4;exact ⟨[_],us,rfl,⟨r0.g,i,rfl,h6,h7,es,h8,h9,qT⟩,iH cs us f2 z (by simpa using hl) (λj p hp=>hr (j+1) p hp) ok2 (λp hp=>hV p (At _ hp)) h2⟩
    ·cases hv
  |_=>cases En<;>simp [Lr] at hv
 |_=>intro En us fr x hl hr _ _ hv;cases En<;>simp [Lr] at hv
theorem XJ {st:St} (h:Nm X w π st.heap) {V:List Nat} {io:Bool} {k:Nat} {c:CK} {a:AC} {u:Value} (hu:Hw X w π st.heap a u) {x:c.den} {tks:List (Nat×Loc)} (he:Mt st io k c a=some (x,tks))
  (hV: ∀t∈tks,t.2.reads=true->t.2.Xw∈V): ∃r,fC w (Pg X π V) r u c x/\Um w π st.heap io a u r c x:=by
 cases c with
 |Ia τ=>
  have own: ∀l off len,a= .own l off len-> ∃r,fC w (Pg X π V) r u (.Ia τ) x/\Um w π st.heap io a u r (.Ia τ) x:=by
   intro l off len ea;subst ea;simp only [Mt] at he
   cases hv:Dy st τ (.own l off len) with
   |none=>rw [hv] at he;cases he
   |some p=>
    obtain ⟨fr,y⟩:=p;rw [hv] at he;simp only [An,Aa,Ag] at he;obtain ⟨rfl,rfl⟩:=he;have hlV:l∈V:=hV _ (Af.2 rfl) rfl;refine ⟨none,⟨rfl,?_⟩,rfl⟩
    cases τ<;>simp only [Dy] at hv<;>try (cases hv;done)
    rename_i e
    cases hl:st.at l with
    |none=>rw [hl] at hv;cases hv
    |some b=>
     rw [hl] at hv;unfold St.at at hl
     cases b<;>(try simp only [] at hv)<;>try (cases hv;done)
     ·rename_i tN DA e0 tid xs;split at hv
      ·rename_i hee;subst hee;simp only [Aa,Ag] at hv;obtain ⟨_,rfl⟩:=hv;obtain ⟨h1,h2⟩:=Pe hu hl;exact ⟨[u],q6 h hl h1 h2 (λb hb ⟨r,hr,hf⟩=>hb.not h hlV hr hf) (λb _ hb=>hb.iU),rfl⟩
      ·cases hv
     ·rename_i e0 tid xs;split at hv
      ·rename_i hee;subst hee;simp only [Aa,Ag] at hv;obtain ⟨_,rfl⟩:=hv;obtain ⟨h1,h2⟩:=cB hu hl;exact ⟨[u],np h hl h1 h2 (λb hb ⟨r,hr,hf⟩=>hb.not h hlV hr hf),rfl⟩
      ·cases hv
     ·rename_i e0 te0 rows out kp
      cases out with
      |some i=>cases hv
      |none=>
       simp only [] at hv;split at hv
       ·rename_i hee;subst hee;simp only [Aa,Ag] at hv;obtain ⟨_,rfl⟩:=hv;obtain ⟨h1,h2⟩:=oL hu hl;exact ⟨[u],tS h hl h1 h2 (λb hb ⟨r,hr,hf⟩=>hb.not h hlV hr hf) (λb hb=>hb.iU),rfl⟩
       ·cases hv
  have Auu: ∀g En,a= .clo g En-> ∃r,fC w (Pg X π V) r u (.Ia τ) x/\Um w π st.heap io a u r (.Ia τ) x:=by
   intro g En ea;subst ea;simp only [Mt] at he;split at he
   ·rename_i hc;simp only [Ak,Fy] at hc;obtain ⟨jr,Up⟩:=hc
    cases hv:Kh st τ (.clo g En) with
    |none=>rw [hv] at he;cases he
    |some p=>
     obtain ⟨fr,y⟩:=p;rw [hv] at he;simp only [An,Aa,Ag] at he;obtain ⟨rfl,rfl⟩:=he;have hcV: ∀p∈En,p.1∈V:= λp hp=>hV (Eh false k, .view p.1) (Bh.2 ⟨p.1,Bh.2 ⟨p,hp,rfl⟩,rfl⟩) rfl;obtain ⟨us,rfl,h2,h3⟩:=hu;refine ⟨none,⟨rfl,Dd.oD Up ?_⟩,rfl⟩
     cases τ<;>simp only [Kh] at hv<;>try (simp only [Dy,reduceCtorEq] at hv;done)
     rename_i f0 c0;split at hv
     ·rename_i hg;obtain ⟨rfl,Kr⟩:=hg;exact ⟨us,by rw [j4 Kr],DB h c0 En us fr y h2 h3 jr hcV hv⟩
     ·cases hv
   ·cases he
  have hvp: ∀l i,a= .Hs l i-> ∃r,fC w (Pg X π V) r u (.Ia τ) x/\Um w π st.heap io a u r (.Ia τ) x:=by
   intro l i ea;subst ea;simp only [Mt] at he;split at he
   ·rename_i hc;simp only [Ak,Fy] at hc;obtain ⟨jr,Up⟩:=hc
    cases hv:Kh st τ (.Hs l i) with
    |none=>rw [hv] at he;cases he
    |some p=>
     obtain ⟨fr,y⟩:=p;rw [hv] at he;simp only [An,Aa,Ag] at he;obtain ⟨rfl,rfl⟩:=he;have hlV:l∈V:=hV (Eh false k, .view l) (Bh.2 ⟨l,Af.2 rfl,rfl⟩) rfl;obtain ⟨r,tid,vs,h1,h2,rfl⟩:=hu;refine ⟨none,⟨rfl,Dd.oD Up ?_⟩,rfl⟩
     cases τ<;>simp only [Kh] at hv<;>try (simp only [Dy,reduceCtorEq] at hv;done)
     ·obtain ⟨h6,h7,h8⟩:=ku h jr hlV hv h2;exact ⟨r.g,i,rfl,h6,h7,h8⟩
     ·rename_i a
      cases hp:Vj st a l i with
      |none=>rw [hp] at hv;cases hv
      |some p=>
       rw [hp] at hv;simp only [An,Aa,Ag] at hv;obtain ⟨_,rfl⟩:=hv;obtain ⟨h6,h7,h8⟩:=ku h jr hlV hp h2;exact .inr ⟨_,r.g,i,rfl,rfl,h6,h7,h8⟩
   ·cases he
  have Oy: ∀l i c,a= .sub l i c-> ∃r,fC w (Pg X π V) r u (.Ia τ) x/\Um w π st.heap io a u r (.Ia τ) x:=by
   intro l i c ea;subst ea;simp only [Mt] at he
   cases hv:Dy st τ (.sub l i c) with
   |none=>rw [hv] at he;cases he
   |some p=>
    obtain ⟨fr,y⟩:=p;rw [hv] at he;simp only [An,Aa,Ag] at he;obtain ⟨rfl,rfl⟩:=he;have hlV:l∈V:=hV _ (Af.2 rfl) rfl;refine ⟨none,⟨rfl,?_⟩,rfl⟩
    cases τ<;>simp only [Dy] at hv<;>try (cases hv;done)
    rename_i e
    cases hl:st.at l with
    |none=>rw [hl] at hv;cases hv
    |some b=>
     rw [hl] at hv;unfold St.at at hl
     cases b<;>(try simp only [] at hv)<;>try (cases hv;done)
     rename_i e0 te0 rows out kp
     cases out with
     |some i=>cases hv
     |none=>
      simp only [] at hv;split at hv
      ·rename_i hee;subst hee;simp only [Aa,Ag] at hv;obtain ⟨_,rfl⟩:=hv;exact ⟨[u],tT h hl (FW hu hl) hu (λb hb ⟨r,hr,hf⟩=>hb.not h hlV hr hf) (λb hb=>hb.iU),rfl⟩
      ·cases hv
  by_cases SN: ∃l i c,a= .sub l i c
  ·obtain ⟨l,i,c,ea⟩:=SN;exact Oy l i c ea
  by_cases Ai5: ∃g En,a= .clo g En
  ·obtain ⟨g,En,ea⟩:=Ai5;exact Auu g En ea
  by_cases Aqi: ∃l i,a= .Hs l i
  ·obtain ⟨l,i,ea⟩:=Aqi;exact hvp l i ea
  by_cases eR: ∃l off len,a= .own l off len
  ·obtain ⟨l,off,len,ea⟩:=eR;exact own l off len ea
  have he:(if τ.flat||a.settled then (Dy st τ a).map λp=>(p.2,([]:List (Nat×Loc))) else none)=some (x,tks):=by
   cases a<;>first|exact he|exact absurd ⟨_,_,_,rfl⟩ eR|exact absurd ⟨_,_,rfl⟩ Ai5|exact absurd ⟨_,_,rfl⟩ Aqi|exact absurd ⟨_,_,_,rfl⟩ SN
  split at he
  ·rename_i hc
   cases hv:Dy st τ a with
   |none=>rw [hv] at he;cases he
   |some p=>
    obtain ⟨fr,y⟩:=p;rw [hv] at he;simp only [An,Aa,Ag] at he;obtain ⟨rfl,rfl⟩:=he;refine ⟨none,⟨rfl,?_⟩,rfl⟩;have Jg: ∀f,Dd w (Dk X.w0.heap.size X.Sc π f) τ u y->Dd w (Pg X π V) τ u y:= λf hr=>hr.Jg λk _ hk=>hk.iU
    cases a with
    |data f Ow z=>
     rw [Ol] at hv;split at hv
     ·rename_i ht;subst ht;simp only [Aa,Ag] at hv;obtain ⟨_,rfl⟩:=hv;exact Jg f hu
     ·have Sd:τ.Ar=false:=by unfold j8 at hv;split at hv<;>first|rfl|cases hv
      exact Jg _ ⟨[u],dN hv hu,by simp [Cj,Sd]⟩
    |Mn=>
     have hu:u= .slice none 0 0:=hu;subst hu
     cases τ<;>simp only [Dy,Aa,Ag,reduceCtorEq] at hv
     ·obtain ⟨_,rfl⟩:=hv;exact ⟨[_],⟨none,0,0,rfl,rfl,Ap _, .inl rfl⟩,rfl⟩
     ·obtain ⟨_,rfl⟩:=hv;exact ⟨[_], .inl ⟨rfl,0,rfl⟩,rfl⟩
    |Wk=>
     have hu:u= .pointer none:=hu;subst hu
     cases τ<;>simp only [Dy,Aa,Ag,reduceCtorEq] at hv
     obtain ⟨_,rfl⟩:=hv;exact ⟨[_], .inl ⟨rfl,rfl⟩,rfl⟩
    |_=>cases τ<;>simp [AC.settled,Ty.flat,Dy] at hc hv
  ·cases he
 |row e te=>
  cases a<;>simp only [Mt] at he<;>try (cases he;done)
  ·simp only [Aa,Ag] at he;obtain ⟨rfl,rfl⟩:=he;have hu:u= .slice none 0 0:=hu;exact ⟨none,⟨⟨hu,rfl,rfl⟩,rfl⟩,rfl⟩
  ·rename_i l off len;split at he
   ·rename_i fr tr e' Rx xs hl;split at he
    ·rename_i hc;obtain ⟨rfl,rfl,rfl,rfl⟩:=hc;simp only [Aa,Ag] at he;obtain ⟨rfl,rfl⟩:=he;unfold St.at at hl;obtain ⟨_,h2⟩:=Pe hu hl;refine ⟨(π l).map full,⟨au h2,?_⟩,rfl,rfl,rfl,fr,tr,hl⟩;have hb:=(h.heap l).Se hl;simp only [Cq,Km] at hb
     cases hp:π l with
     |none=>rw [hp] at hb;exact hb
     |some q=>
      rw [hp] at hb;obtain ⟨k1,cur,ti,k2,k3,k4,k5,k6,_⟩:=hb;refine ⟨⟨k1.1,k1.2.1⟩,cur,ti,k2,k3,k4,k5,λi y hy=>?_⟩;obtain ⟨es,g1,g2,g3⟩:=k6 i y hy;exact ⟨es,g1,g2,Cells.Gd (Ap _) (λ_ _ _=>rfl) (λ_ _ hk=>hk.iU) e' es y g3⟩
    ·cases he
   ·cases he
  ·rename_i l i c;split at he
   ·rename_i e' tid xs hl;split at he
    ·rename_i hc;obtain ⟨rfl,hf,zL,mF⟩:=hc
     cases hx:xs[i]? with
     |none=>rw [hx] at he;cases he
     |some y=>
      rw [hx] at he;simp only [An,Aa,Ag] at he;obtain ⟨rfl,rfl⟩:=he;unfold St.at at hl;obtain ⟨r,r1,r2,_,r4⟩:=JU h hl hx mF hu;exact ⟨r,⟨r1,r2 hf _⟩,⟨zL,hf⟩,tid,xs,hl,hx,r4⟩
    ·cases he
   ·cases he
 |Hz e te=>
  cases a<;>simp only [Mt] at he<;>try (cases he;done)
  ·simp only [Aa,Ag] at he;obtain ⟨rfl,rfl⟩:=he;have hu:u= .slice none 0 0:=hu;exact ⟨none,⟨⟨hu,rfl,rfl⟩,rfl⟩,rfl⟩
  ·rename_i l off len;split at he
   ·rename_i e' Rx xs hl;split at he
    ·rename_i hc;obtain ⟨rfl,rfl,rfl,rfl⟩:=hc;simp only [Aa,Ag] at he;obtain ⟨rfl,rfl⟩:=he;unfold St.at at hl;obtain ⟨_,h2⟩:=cB hu hl;refine ⟨(π l).map full,⟨au h2,?_⟩,rfl,rfl,rfl,hl⟩;have hb:=(h.heap l).Se hl;simp only [Cq] at hb
     cases hp:π l with
     |none=>rw [hp] at hb;exact hb
     |some q=>rw [hp] at hb;exact hb
    ·cases he
   ·cases he
  ·rename_i l i c;split at he
   ·rename_i e' tid xs hl;split at he
    ·rename_i hc;obtain ⟨rfl,zL,mF⟩:=hc
     cases hx:xs[i]? with
     |none=>rw [hx] at he;cases he
     |some y=>
      rw [hx] at he;simp only [An,Aa,Ag] at he;obtain ⟨rfl,rfl⟩:=he;unfold St.at at hl;obtain ⟨r,r1,_,r3,r4⟩:=JU h hl hx mF hu;exact ⟨r,⟨r1,r3 te⟩,zL,tid,xs,hl,hx,r4⟩
    ·cases he
   ·cases he
 |part e te=>
  cases a<;>simp only [Mt] at he<;>try (cases he;done)
  rename_i l off len;split at he
  ·rename_i fr tr e' Rx xs hl;split at he
   ·rename_i hc;obtain ⟨rfl,rfl,hf,zL⟩:=hc;simp only [Aa,Ag] at he;obtain ⟨rfl,rfl⟩:=he;unfold St.at at hl;obtain ⟨h1,h2⟩:=Pe hu hl;refine ⟨(π l).map full,⟨⟨au h2,h1⟩,hf,?_⟩,hf,rfl,zL,fr,tr,hl⟩;have hb:=(h.heap l).Se hl;simp only [Cq,Km] at hb
    cases hp:π l with
    |none=>rw [hp] at hb;exact hb
    |some q=>
     rw [hp] at hb;obtain ⟨k1,cur,ti,k2,k3,k4,k5,k6,_⟩:=hb;refine ⟨⟨k1.1,k1.2.1⟩,cur,ti,k2,k3,k4,k5,λi y hy=>?_⟩;obtain ⟨es,g1,g2,g3⟩:=k6 i y hy;exact ⟨es,g1,g2,Cells.flat e' es y hf g3⟩
   ·cases he
  ·cases he
 |Ca e te kp=>
  cases a<;>simp only [Mt] at he<;>try (cases he;done)
  rename_i l off len;split at he
  ·rename_i e' Rx rows kp' hl;split at he
   ·rename_i hc;obtain ⟨rfl,rfl,rfl,rfl,zL⟩:=hc;simp only [Aa,Ag] at he;obtain ⟨rfl,rfl⟩:=he;unfold St.at at hl;obtain ⟨h1,h2⟩:=oL hu hl;refine ⟨(π l).map full,⟨au h2,?_⟩,zL,rfl,rfl,rfl,kp',hl⟩;have hb:=(h.heap l).Se hl;simp only [Cq] at hb;have hb:=hb.1
    have hg:aP w (Dk X.w0.heap.size X.Sc π false) ((π l).map full) e' rows none:=by
     cases hp:π l with
     |none=>rw [hp] at hb;exact hb
     |some q=>rw [hp] at hb;exact hb
    exact hg.Gd (λ_ _ _ _ _=>rfl) λes x hc=>hc.but
   ·cases he
  ·cases he
end
end Go.Proofs.Ytfgfigkbgecfnaa
