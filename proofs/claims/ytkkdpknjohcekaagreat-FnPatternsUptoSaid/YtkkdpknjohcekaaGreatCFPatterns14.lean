/-
  Part 15 of the proof that the statement FnPatterns holds.
-/
import Derived.Test.YtkkdpknjohcekaaGreatCFPatterns13
namespace Go.Proofs.YtkkdpknjohcekaaGreat
open Go.RowKit
section
variable {P:Program} {T:Tab} {X:Ctx} {w w':World} {π π':Pi} {H H':List (Nat×OB)}
def full (r:Real):Real:= {r with cl:=r.Cv}
theorem Dg.sP: ∀(τ:Ty) (F:List Nat) (es:List Value) (x:τ.den),τ.flat=true->Dg w F τ es x->F= []
 | .int k,F,es,x,_,h=>h.1
 | .bool,F,es,x,_,h=>h.1
 | .str,F,es,x,_,h=>h.1
 | .unit,F,es,x,_,h=>h.1
 | .pair a r,F,es,x,hf,h=>by
  simp only [Ty.flat,Ag] at hf
  simp only [Dg] at h
  obtain ⟨c1,c2,F1,F2,_,rfl,h1,h2⟩:=h
  rw [Dg.sP a F1 c1 x.1 hf.1 h1,Dg.sP r F2 c2 x.2 hf.2 h2]
  rfl
 | .slice _,_,_,_,hf,_=>by simp [Ty.flat] at hf
 | .oslice _,_,_,_,hf,_=>by simp [Ty.flat] at hf
 | .ptr _,_,_,_,hf,_=>by simp [Ty.flat] at hf
 | .optr _,_,_,_,hf,_=>by simp [Ty.flat] at hf
 | .smap _,_,_,_,hf,_=>by simp [Ty.flat] at hf
 | .clo _ _,_,_,_,hf,_=>by simp [Ty.flat] at hf
theorem nm {S P:Nat->Prop} {g o:Nat} {cur:Array Value} {e:Ty} {xs:List e.den} (hf:e.flat=true)
  (h: ∀(i:Nat) (x:e.den),xs[i]?=some x-> ∃es:List Value,es.length=e.size/\(∀j u,es[j]?=some u->cur[(o+i)*e.size+j]?=some u)/\Cells w S e es x):Xt w P g o cur e xs:=by
 refine ⟨List.replicate xs.length [],by simp,by simp,by simp,λi x F hx hF=>?_⟩
 obtain ⟨es,e1,e2,e3⟩:=h i x hx
 have:F= []:=Fv (Cl hF)
 subst this
 exact ⟨es,e1,e2,Yf e es x hf e3⟩
theorem Ta.PI {D:Nat->Prop} {r:Option Real} {e:Ty} {ys:List e.den} {u:Value} (h:Ta w D r e ys) (hf:e.flat=true) (hv:Ih r e.size 0 ys.length u):
  ∃F,Dg w F (.slice e) [u] ys/\F.Nodup/\ ∀b∈F,∃r',r=some r'/\r'.Cv b:=by
 cases r with
 |none=>
  obtain ⟨rfl,_,_⟩:=hv
  have h:ys= []:=h
  subst h
  exact ⟨[],⟨none,0,0,rfl,rfl,Ao _, .inl ⟨rfl,rfl,rfl,rfl⟩⟩,Nd,λb hb=>by cases hb⟩
 |some r=>
  obtain ⟨h1,cur,ti,h2,h3,h4,h5,h6⟩:=h
  obtain ⟨F,f1,f2,f3⟩:=kA (P:=r.Cv) h2 h3 h4 (by omega) hv (nm hf h6) h1.1
  exact ⟨F,by simpa using f1,f2,λb hb=>⟨r,rfl,f3 b hb⟩⟩
theorem Nx.PI {r:Option Real} {e:Ty} {te:TypeId} {ys:List e.den} {u:Value} (h:Nx w r e te ys) (hv:Ih r e.size 0 ys.length u):
  ∃F,Dg w F (.slice e) [u] ys/\F.Nodup/\ ∀b∈F,∃r',r=some r'/\r'.Cv b:=by
 cases r with
 |none=>
  obtain ⟨rfl,_,_⟩:=hv
  have h:ys= []:=h
  subst h
  exact ⟨[],⟨none,0,0,rfl,rfl,Ao _, .inl ⟨rfl,rfl,rfl,rfl⟩⟩,Nd,λb hb=>by cases hb⟩
 |some r=>
  obtain ⟨h1,cur,ti,h2,h3,h4,h5,h6⟩:=h
  obtain ⟨F,f1,f2,f3⟩:=kA (P:=r.Cv) h2 h3 h4 (by omega) hv h6 h1
  exact ⟨F,by simpa using f1,f2,λb hb=>⟨r,rfl,f3 b hb⟩⟩
theorem Dg.row {F:List Nat} {e:Ty} {u:Value} {xs:List e.den} (h:Dg w F (.slice e) [u] xs) (hn:F.Nodup):
  ∃r:Option Real,Ih r e.size 0 xs.length u/\(e.flat=true-> ∀D,Ta w D r e xs)/\(∀te,Nx w r e te xs)/\(∀r',r=some r'-> ∀b,r'.Cv b↔b∈F)/\(r=none->F= []):=by
 simp only [Dg] at h
 obtain ⟨a,len,cap,e0,e1,e2,h⟩:=h
 simp only [Hb,Oh] at e0
 subst e0
 rcases h with ⟨rfl,rfl,rfl,rfl⟩|⟨ad,g,o,Fs,rfl,ha,⟨cur,ti,o',s1,s2,s3,s4⟩,rfl,hl,Ky⟩
 ·exact ⟨none,⟨by rw [e1];rfl,rfl,rfl⟩,λ_ _=>rfl,λ_=>rfl,(λr' h=>by cases h),λ_=>rfl⟩
 ·subst s2
  have kY: ∀(i:Nat) (x:e.den) (Fi:List Nat),xs[i]?=some x->Fs[i]?=some Fi-> ∃es:List Value,es.length=e.size/\(∀j u,es[j]?=some u->cur[(o'+i)*e.size+j]?=some u)/\Dg w Fi e es x:=by
   intro i x Fi hx hF
   obtain ⟨es,k1,k2,k3⟩:=Ky i x Fi hx hF
   refine ⟨es,k1,λj v hv=>?_,k3⟩
   have:=k2 j v hv
   rw [cellOf s1] at this
   rw [Dj];exact this
  refine ⟨some ⟨g,o',cap,(· ∈g::List.flatten Fs),(· ∈g::List.flatten Fs)⟩,⟨ad,by rw [e1];rfl,by dsimp only;omega,λh0=>by rw [ha h0];rfl⟩,λhf D=>⟨⟨by simp,λb hb=>?_⟩,cur,ti,s1,s3,s4,by rw [<-e1];exact e2,λi x hx=>?_⟩,
   fun te=>⟨by simp,cur,ti,s1,s3,s4,by rw [<-e1];exact e2,Fs,hl,hn,λb hb=>by simp [hb],kY⟩,λr' hr b=>by cases hr;exact Iff.rfl,λh=>by cases h⟩
  ·rcases Be.1 hb with hb|hb
   ·exact hb
   ·obtain ⟨Fi,h1,h2⟩:=Hu.1 hb
    obtain ⟨i,hi,rfl⟩:=Nn h1
    obtain ⟨es,_,_,k3⟩:=kY i (xs[i]'(by omega)) _ (Ac _) (Ac hi)
    rw [Dg.sP e _ _ _ hf k3] at h2
    cases h2
  ·have hi:i<Fs.length:=by have:=(An.1 hx).1;omega
   obtain ⟨es,k1,k2,k3⟩:=kY i x _ hx (Ac hi)
   exact ⟨es,k1,k2,Cells.flat e es x hf (Dg.cells (S:= λ_=>False) _ e es x k3 λb hb=> λh=>h)⟩
theorem cT: ∀(Fs:List (List Nat)) (i:Nat) (Fi F':List Nat),(List.flatten Fs).Nodup->Fs[i]?=some Fi->F'.Nodup->(∀b∈F',b∈Fi)->(List.flatten (Fs.set i F')).Nodup/\ ∀b∈List.flatten (Fs.set i F'),b∈List.flatten Fs
 | [],i,Fi,F',_,h,_,_=>by simp at h
 |G::Fs,0,Fi,F',hn,h,rS,hs=>by
  simp only [Bz,Aa] at h;subst h
  simp only [List.set_cons_zero,Lf] at hn⊢
  obtain ⟨n1,n2,n3⟩:=Dv.1 hn
  refine ⟨Dv.2 ⟨rS,n2,λa ha b hb=>n3 a (hs a ha) b hb⟩,λb hb=>?_⟩
  rcases Az.1 hb with hb|hb
  ·exact Bj _ (hs b hb)
  ·exact Ci _ hb
 |G::Fs,i+1,Fi,F',hn,h,rS,hs=>by
  simp only [Mm] at h
  simp only [List.set_cons_succ,Lf] at hn⊢
  obtain ⟨n1,n2,n3⟩:=Dv.1 hn
  obtain ⟨m1,m2⟩:=cT Fs i Fi F' n2 h rS hs
  refine ⟨Dv.2 ⟨n1,m1,λa ha b hb=>n3 a ha b (m2 b hb)⟩,λb hb=>?_⟩
  rcases Az.1 hb with hb|hb
  ·exact Bj _ hb
  ·exact Ci _ (m2 b hb)
theorem kU: ∀(Fs:List (List Nat)) (i j:Nat) (Fi Fj:List Nat) (b:Nat),(List.flatten Fs).Nodup->Fs[i]?=some Fi->Fs[j]?=some Fj->b∈Fi->b∈Fj->i=j
 | [],i,j,Fi,Fj,b,_,h,_,_,_=>by simp at h
 |G::Fs,0,0,_,_,_,_,_,_,_,_=>rfl
 |G::Fs,0,j+1,Fi,Fj,b,hn,h1,h2,h3,h4=>by
  simp only [Bz,Aa,Mm] at h1 h2
  subst h1
  simp only [Lf] at hn
  exact absurd rfl ((Dv.1 hn).2.2 b h3 b (Hu.2 ⟨Fj,Cl h2,h4⟩))
 |G::Fs,i+1,0,Fi,Fj,b,hn,h1,h2,h3,h4=>by
  simp only [Bz,Aa,Mm] at h1 h2
  subst h2
  simp only [Lf] at hn
  exact absurd rfl ((Dv.1 hn).2.2 b h4 b (Hu.2 ⟨Fi,Cl h1,h3⟩))
 |G::Fs,i+1,j+1,Fi,Fj,b,hn,h1,h2,h3,h4=>by
  simp only [Mm] at h1 h2
  simp only [Lf] at hn
  rw [kU Fs i j Fi Fj b (Dv.1 hn).2.1 h1 h2 h3 h4]
def yO (w:World) (π:Pi) (l i:Nat) (e:Ty) (tid:TypeId) (xs:List (List e.den)) (u:Value) (r:Option Real):Prop:=
 ∃q,π l=some q/\(∀r',r=some r'-> ∀b,r'.Cv b->q.Cv b/\b≠q.g)/\
  ∀(w':World) (ys:List e.den),w.heap.size<=w'.heap.size->(∀b,b<w.heap.size->q.Cv b->(∀r',r=some r'-> ¬r'.Cv b)->w'.heap[b]?=w.heap[b]?)->
   (∃F',Dg w' F' (.slice e) [u] ys/\F'.Nodup/\ ∀b∈F',∃r',r=some r'/\r'.Cv b)->Nx w' (some q) (.slice e) tid (xs.set i ys)
theorem IV (h:Mz X w π H) {l i c:Nat} {e:Ty} {tid:TypeId} {xs:List (List e.den)} {x:List e.den} {u:Value} (hl:At H l=some (.Hf (.slice e) tid xs)) (hx:xs[i]?=some x) (hc:c=0)
  (hu:Hv X w π H (.sub l i c) u): ∃r,Ih r e.size 0 x.length u/\(e.flat=true-> ∀D,Ta w D r e x)/\(∀te,Nx w r e te x)/\yO w π l i e tid xs u r:=by
 subst hc
 obtain ⟨q,b0,sz0,n0,h1,oC,h2,h3,⟨h4,a,n,m,rfl⟩,h5⟩:=hu
 rw [hl] at h1;cases h1
 simp only [OB.gD,Aa,Ae] at oC
 obtain ⟨rfl,rfl⟩:=oC
 have hb:=(h.heap l).Ro hl
 simp only [Cj,Nx,h2] at hb
 obtain ⟨k1,cur,ti,k2,k3,k4,k5,Fs,t1,t2,t3,t4⟩:=hb
 have hi:i<Fs.length:=by have:=(An.1 hx).1;omega
 have hFi:Fs[i]?=some Fs[i]:=Ac hi
 obtain ⟨es,e1,e2,e3⟩:=t4 i x _ hx hFi
 have e1':es.length=1:=e1
 obtain ⟨v,rfl⟩:=Ed.1 e1'
 have hv:v= .slice a n m:=by
  have:=e2 0 v rfl
  rw [cellOf k2] at h5
  rw [this] at h5;exact Bd h5
 subst hv
 have hn2:=(Ce.1 t2).2
 have nz: ∀b∈Fs[i],b∈List.flatten Fs:= λb hb=>Hu.2 ⟨_,Al hi,hb⟩
 have hnF:(Fs[i]).Nodup:=hn2.sublist (by
  have:=gO (List.singleton_sublist.2 (Al hi))
  simpa using this)
 obtain ⟨r,r1,r2,r3,r4,r5⟩:=Dg.row e3 hnF
 refine ⟨r,r1,r2,r3,q,h2,λr' hr b hb=>?_,λw' ys hs hk ⟨F',f1,f2,f3⟩=>?_⟩
 ·have hb:=(r4 r' hr b).1 hb
  exact ⟨t3 b (nz b hb),λe=>(Ce.1 t2).1 (e▸nz b hb)⟩
 ·have hF': ∀b∈F',b∈Fs[i]:= λb hb=>by
   obtain ⟨r',g1,g2⟩:=f3 b hb
   exact (r4 r' g1 b).1 g2
  have ny:=cT Fs i _ F' hn2 hFi f2 hF'
  have hkg:w'.heap[q.g]?=w.heap[q.g]?:=hk q.g (Gq k2) k1 λr' hr hb=>(Ce.1 t2).1 (nz _ ((r4 r' hr _).1 hb))
  refine ⟨k1,cur,ti,hkg.trans k2,k3,k4,by simpa using k5,Fs.set i F',by simp [t1],Ce.2 ⟨λhm=>(Ce.1 t2).1 (ny.2 _ hm),ny.1⟩,λb hb=>t3 b (ny.2 b hb),λj y F hy hF=>?_⟩
  rw [Eh] at hy hF
  split at hy
  ·rename_i jZ;subst jZ
   rw [Ab rfl] at hF
   rw [Ab hi] at hF
   simp only [Aa] at hF
   have hy:ys=y:=by simpa [h3] using hy
   subst hy;subst hF
   exact ⟨[.slice a n m],rfl,e2,f1⟩
  ·rename_i jZ
   rw [Ak jZ] at hF
   obtain ⟨mX,g1,g2,g3⟩:=t4 j y F hy hF
   refine ⟨mX,g1,g2,g3.Fk _ _ _ _ hs λb hb=>?_⟩
   have ZM:b∈List.flatten Fs:=Hu.2 ⟨F,Cl hF,hb⟩
   exact hk b (g3.lt _ _ _ _ b hb) (t3 b ZM) λr' hr vG=>jZ (kU Fs i j _ F b hn2 hFi hF ((r4 r' hr b).1 vG) hb)
def Tu (w:World) (π:Pi) (H:List (Nat×OB)) (io:Bool) (a:AC) (u:Value) (r:Option Real):(c:CK)->c.den->Prop
 | .Fz _,_=>r=none
 | .row e te,x=>match a with
  | .Ma=>r=none
  | .own l off len=>r=(π l).map full/\off=0/\len=List.length x/\ ∃fr tr,At H l=some (.arr fr tr e te x)
  | .sub l i _=>(io=true/\e.flat=true)/\ ∃tid xs,At H l=some (.Hf (.slice e) tid xs)/\xs[i]?=some x/\yO w π l i e tid xs u r
  |_=>False
 | .Hz e te,x=>match a with
  | .Ma=>r=none
  | .own l off len=>r=(π l).map full/\off=0/\len=List.length x/\At H l=some (.Hf e te x)
  | .sub l i _=>io=true/\ ∃tid xs,At H l=some (.Hf (.slice e) tid xs)/\xs[i]?=some x/\yO w π l i e tid xs u r
  |_=>False
 | .part e te,x=>e.flat=true/\match a with
  | .own l _ _=>r=(π l).map full/\io=true/\ ∃fr tr,At H l=some (.arr fr tr e te x.1)
  |_=>False
 | .Bl e te _,x=>io=false/\match a with
  | .own l off len=>r=(π l).map full/\off=0/\len=List.length x/\ ∃kp,At H l=some (.Bl e te x none kp)
  |_=>False
theorem a7 {r:Option Real} {s off len:Nat} {v:Value} (h:Ih r s off len v):Ih (r.map full) s off len v:=by
 cases r<;>exact h
def Ol (X:Ctx) (π:Pi) (V:List Nat) (b:Nat):Prop:=(Vy π b/\ ∀l∈V,∀r,π l=some r-> ¬r.Cv b)\/X.Sc b
theorem Ol.not {V:List Nat} {b l:Nat} (hb:Ol X π V b) (h:Mz X w π H) (hl:l∈V) {r:Real} (hr:π l=some r) (hf:r.Cv b):False:=by
 rcases hb with hb|hb
 ·exact hb.2 l hl r hr hf
 ·have h1:=h.sc b hb
  rcases (h.own ⟨l,r,hr,hf⟩).2 with h2|h2
  ·omega
  ·exact h1.2 h2
theorem Ol.iv {V:List Nat} {b:Nat} {B:Nat} {fr:Bool} (hb:Ol X π V b):Da B X.Sc π fr b:=hb.elim (λh=> .inl h.1) λh=> .inr (.inl h)
theorem PN {st:St} {ls:List Nat} (h:ck st ls=true) {l:Nat} (hl:l∈ls) {tid:TypeId} {vs:List AC} (hv:At st.heap l=some (.var tid vs)):vs.all (·.settled)=true:=by
 have:=Bf.1 h l hl
 unfold St.at at this
 rw [hv] at this
 exact this
theorem Cells.but {V:List Nat} {f:Bool} {τ:Ty} {cs:List Value} {x:τ.den} (h:Cells w (Da X.w0.heap.size X.Sc π f) τ cs x):Cells w (Ol X π V) τ cs x:=
 Cells.Fk (Ao _) (λ_ _ _=>rfl) (λ_ _ hk=>hk.iv) τ cs x h
theorem jK {st:St} (h:Mz X w π st.heap) {V:List Nat} {a:Ty} {l i:Nat} {fr:Bool} {x:a.den} (l4:ck st [l]=true) (hlV:l∈V) (hv:Ur st a l i=some (fr,x)) {r:Real} (hr:π l=some r):
  r.g<w.heap.size/\ ¬Ol X π V r.g/\ ∃es:List Value,es.length=a.size/\(∀j u,es[j]?=some u->w.cell? ⟨r.g,i+j,none⟩=some u)/\Cells w (Ol X π V) a es x:=by
 unfold Ur at hv
 split at hv
 ·rename_i tid vs hl
  unfold St.at at hl
  obtain ⟨r',h3,h4,cur,h5,h6⟩:=(h.heap l).Ro hl
  rw [hr] at h3;cases h3
  have hs:=PN l4 (Ad.2 rfl) hl
  have zw:((vs.drop i).take a.size).all (·.settled)=true:=Bf.2 λc hc=>Bf.1 hs c (dM (En hc))
  have hc:=Xc a _ _ fr x zw (a8 h6 i a.size) hv
  refine ⟨Gq h5,λhb=>hb.not h hlV hr h4,_,Cells.len a _ x hc,λj u hu=>?_,hc.but⟩
  rw [cellOf h5]
  rw [Cx] at hu
  split at hu
  ·rw [De] at hu;simpa using hu
  ·cases hu
 ·cases hv
theorem JH {st:St} {l:Nat} {ls:List Nat} (h:ck st (l::ls)=true):ck st [l]=true/\ck st ls=true:=by
 simp only [ck,Jp,List.all_nil,Bool.and_true,Ag] at h⊢
 exact h
theorem CI {st:St} (h:Mz X w π st.heap) {V:List Nat} : ∀(τ:Ty) (Ef:List (Nat×Nat)) (us:List Value) (fr:Bool) (x:τ.den),us.length=Ef.length->
  (∀(j:Nat) p,Ef[j]?=some p-> ∃r tid vs,At st.heap p.1=some (.var tid vs)/\π p.1=some r/\us[j]?=some (.pointer (some ⟨r.g,p.2,none⟩)))->
  ck st (Ef.map (·.1))=true->(∀p∈Ef,p.1∈V)->Le st τ Ef=some (fr,x)->Cells w (Ol X π V) τ us x:=by
 intro τ
 induction τ with
 |unit=>
  intro Ef us fr x hl hr _ _ hv
  cases Ef with
  |nil=>exact Ck hl
  |cons c cs=>simp [Le] at hv
 |pair a r _ gZ=>
  intro Ef us fr x hl hr l4 hV hv
  cases a with
  |ptr a=>
   cases Ef with
   |nil=>simp [Le] at hv
   |cons c cs=>
    obtain ⟨l,i⟩:=c
    simp only [Le] at hv
    split at hv
    ·rename_i f1 y f2 z h1 h2
     simp only [Aa,Ae] at hv
     obtain ⟨rfl,rfl⟩:=hv
     cases us with
     |nil=>simp at hl
     |cons u us=>
      obtain ⟨r0,tid,vs,h3,h4,h5⟩:=hr 0 (l,i) rfl
      simp only [Bz,Aa] at h5
      subst h5
      obtain ⟨ok1,ok2⟩:=JH l4
      obtain ⟨h6,h7,es,h8,h9,oC⟩:=jK h ok1 (hV _ (Mc ..)) h1 h4
      exact ⟨[_],us,rfl,⟨r0.g,i,rfl,h6,h7,es,h8,h9,oC⟩,gZ cs us f2 z (by simpa using hl) (λj p hp=>hr (j+1) p hp) ok2 (λp hp=>hV p (Aq _ hp)) h2⟩
    ·cases hv
  |_=>cases Ef<;>simp [Le] at hv
 |_=>intro Ef us fr x hl hr _ _ hv;cases Ef<;>simp [Le] at hv
theorem WW {st:St} (h:Mz X w π st.heap) {V:List Nat} {io:Bool} {k:Nat} {c:CK} {a:AC} {u:Value} (hu:Hv X w π st.heap a u) {x:c.den} {tks:List (Nat×Loc)} (he:Mh st io k c a=some (x,tks))
  (hV: ∀t∈tks,t.2.reads=true->t.2.Xi∈V): ∃r,eV w (Ol X π V) r u c x/\Tu w π st.heap io a u r c x:=by
 cases c with
 |Fz τ=>
  have own: ∀l off len,a= .own l off len-> ∃r,eV w (Ol X π V) r u (.Fz τ) x/\Tu w π st.heap io a u r (.Fz τ) x:=by
   intro l off len ea
   subst ea
   simp only [Mh] at he
   cases hv:Dr st τ (.own l off len) with
   |none=>rw [hv] at he;cases he
   |some p=>
    obtain ⟨fr,y⟩:=p
    rw [hv] at he
    simp only [Am,Aa,Ae] at he
    obtain ⟨rfl,rfl⟩:=he
    have hlV:l∈V:=hV _ (Ad.2 rfl) rfl
    refine ⟨none,⟨rfl,?_⟩,rfl⟩
    cases τ<;>simp only [Dr] at hv<;>try (cases hv;done)
    rename_i e
    cases hl:st.at l with
    |none=>rw [hl] at hv;cases hv
    |some b=>
     rw [hl] at hv
     unfold St.at at hl
     cases b<;>(try simp only [] at hv)<;>try (cases hv;done)
     ·rename_i sT CH e0 tid xs
      split at hv
      ·rename_i ZP;subst ZP
       simp only [Aa,Ae] at hv
       obtain ⟨_,rfl⟩:=hv
       obtain ⟨h1,h2⟩:=Oi hu hl
       exact ⟨[u],pv h hl h1 h2 (λb hb ⟨r,hr,hf⟩=>hb.not h hlV hr hf) (λb _ hb=>hb.iv),rfl⟩
      ·cases hv
     ·rename_i e0 tid xs
      split at hv
      ·rename_i ZP;subst ZP
       simp only [Aa,Ae] at hv
       obtain ⟨_,rfl⟩:=hv
       obtain ⟨h1,h2⟩:=c7 hu hl
       exact ⟨[u],mG h hl h1 h2 (λb hb ⟨r,hr,hf⟩=>hb.not h hlV hr hf),rfl⟩
      ·cases hv
     ·rename_i e0 te0 rows out kp
      cases out with
      |some i=>cases hv
      |none=>
       simp only [] at hv
       split at hv
       ·rename_i ZP;subst ZP
        simp only [Aa,Ae] at hv
        obtain ⟨_,rfl⟩:=hv
        obtain ⟨h1,h2⟩:=o0 hu hl
        exact ⟨[u],sV h hl h1 h2 (λb hb ⟨r,hr,hf⟩=>hb.not h hlV hr hf) (λb hb=>hb.iv),rfl⟩
       ·cases hv
  have As6: ∀g Ef,a= .clo g Ef-> ∃r,eV w (Ol X π V) r u (.Fz τ) x/\Tu w π st.heap io a u r (.Fz τ) x:=by
   intro g Ef ea
   subst ea
   simp only [Mh] at he
   split at he
   ·rename_i hc
    simp only [Ag,Es] at hc
    obtain ⟨l4,Tz⟩:=hc
    cases hv:Kb st τ (.clo g Ef) with
    |none=>rw [hv] at he;cases he
    |some p=>
     obtain ⟨fr,y⟩:=p
     rw [hv] at he
     simp only [Am,Aa,Ae] at he
     obtain ⟨rfl,rfl⟩:=he
     have hcV: ∀p∈Ef,p.1∈V:= λp hp=>hV (Dy false k, .view p.1) (Bg.2 ⟨p.1,Bg.2 ⟨p,hp,rfl⟩,rfl⟩) rfl
     obtain ⟨us,rfl,h2,h3⟩:=hu
     refine ⟨none,⟨rfl,Cw.nQ Tz ?_⟩,rfl⟩
     cases τ<;>simp only [Kb] at hv<;>try (simp only [Dr,reduceCtorEq] at hv;done)
     rename_i f0 c0
     split at hv
     ·rename_i hg
      obtain ⟨rfl,Jj⟩:=hg
      exact ⟨us,by rw [iD Jj],CI h c0 Ef us fr y h2 h3 l4 hcV hv⟩
     ·cases hv
   ·cases he
  have hvp: ∀l i,a= .Hr l i-> ∃r,eV w (Ol X π V) r u (.Fz τ) x/\Tu w π st.heap io a u r (.Fz τ) x:=by
   intro l i ea
   subst ea
   simp only [Mh] at he
   split at he
   ·rename_i hc
    simp only [Ag,Es] at hc
    obtain ⟨l4,Tz⟩:=hc
    cases hv:Kb st τ (.Hr l i) with
    |none=>rw [hv] at he;cases he
    |some p=>
     obtain ⟨fr,y⟩:=p
     rw [hv] at he
     simp only [Am,Aa,Ae] at he
     obtain ⟨rfl,rfl⟩:=he
     have hlV:l∈V:=hV (Dy false k, .view l) (Bg.2 ⟨l,Ad.2 rfl,rfl⟩) rfl
     obtain ⟨r,tid,vs,h1,h2,rfl⟩:=hu
     refine ⟨none,⟨rfl,Cw.nQ Tz ?_⟩,rfl⟩
     cases τ<;>simp only [Kb] at hv<;>try (simp only [Dr,reduceCtorEq] at hv;done)
     ·obtain ⟨h6,h7,h8⟩:=jK h l4 hlV hv h2
      exact ⟨r.g,i,rfl,h6,h7,h8⟩
     ·rename_i a
      cases hp:Ur st a l i with
      |none=>rw [hp] at hv;cases hv
      |some p=>
       rw [hp] at hv
       simp only [Am,Aa,Ae] at hv
       obtain ⟨_,rfl⟩:=hv
       obtain ⟨h6,h7,h8⟩:=jK h l4 hlV hp h2
       exact .inr ⟨_,r.g,i,rfl,rfl,h6,h7,h8⟩
   ·cases he
  have Ps: ∀l i c,a= .sub l i c-> ∃r,eV w (Ol X π V) r u (.Fz τ) x/\Tu w π st.heap io a u r (.Fz τ) x:=by
   intro l i c ea
   subst ea
   simp only [Mh] at he
   cases hv:Dr st τ (.sub l i c) with
   |none=>rw [hv] at he;cases he
   |some p=>
    obtain ⟨fr,y⟩:=p
    rw [hv] at he
    simp only [Am,Aa,Ae] at he
    obtain ⟨rfl,rfl⟩:=he
    have hlV:l∈V:=hV _ (Ad.2 rfl) rfl
    refine ⟨none,⟨rfl,?_⟩,rfl⟩
    cases τ<;>simp only [Dr] at hv<;>try (cases hv;done)
    rename_i e
    cases hl:st.at l with
    |none=>rw [hl] at hv;cases hv
    |some b=>
     rw [hl] at hv
     unfold St.at at hl
     cases b<;>(try simp only [] at hv)<;>try (cases hv;done)
     rename_i e0 te0 rows out kp
     cases out with
     |some i=>cases hv
     |none=>
      simp only [] at hv
      split at hv
      ·rename_i ZP;subst ZP
       simp only [Aa,Ae] at hv
       obtain ⟨_,rfl⟩:=hv
       exact ⟨[u],sW h hl (FE hu hl) hu (λb hb ⟨r,hr,hf⟩=>hb.not h hlV hr hf) (λb hb=>hb.iv),rfl⟩
      ·cases hv
  by_cases RV: ∃l i c,a= .sub l i c
  ·obtain ⟨l,i,c,ea⟩:=RV;exact Ps l i c ea
  by_cases Agm: ∃g Ef,a= .clo g Ef
  ·obtain ⟨g,Ef,ea⟩:=Agm;exact As6 g Ef ea
  by_cases Ant: ∃l i,a= .Hr l i
  ·obtain ⟨l,i,ea⟩:=Ant;exact hvp l i ea
  by_cases ey: ∃l off len,a= .own l off len
  ·obtain ⟨l,off,len,ea⟩:=ey;exact own l off len ea
  have he:(if τ.flat||a.settled then (Dr st τ a).map λp=>(p.2,([]:List (Nat×Loc))) else none)=some (x,tks):=by
   cases a<;>first|exact he|exact absurd ⟨_,_,_,rfl⟩ ey|exact absurd ⟨_,_,rfl⟩ Agm|exact absurd ⟨_,_,rfl⟩ Ant|exact absurd ⟨_,_,_,rfl⟩ RV
  split at he
  ·rename_i hc
   cases hv:Dr st τ a with
   |none=>rw [hv] at he;cases he
   |some p=>
    obtain ⟨fr,y⟩:=p
    rw [hv] at he
    simp only [Am,Aa,Ae] at he
    obtain ⟨rfl,rfl⟩:=he
    refine ⟨none,⟨rfl,?_⟩,rfl⟩
    have It: ∀f,Cw w (Da X.w0.heap.size X.Sc π f) τ u y->Cw w (Ol X π V) τ u y:= λf hr=>hr.It λk _ hk=>hk.iv
    cases a with
    |data f Oe z=>
     rw [Nw] at hv
     split at hv
     ·rename_i ht;subst ht
      simp only [Aa,Ae] at hv
      obtain ⟨_,rfl⟩:=hv
      exact It f hu
     ·have Uh:τ.Ap=false:=by unfold iG at hv;split at hv<;>first|rfl|cases hv
      exact It _ ⟨[u],dq hv hu,by simp [Cd,Uh]⟩
    |Ma=>
     have hu:u= .slice none 0 0:=hu
     subst hu
     cases τ<;>simp only [Dr,Aa,Ae,reduceCtorEq] at hv
     ·obtain ⟨_,rfl⟩:=hv;exact ⟨[_],⟨none,0,0,rfl,rfl,Ao _, .inl rfl⟩,rfl⟩
     ·obtain ⟨_,rfl⟩:=hv;exact ⟨[_], .inl ⟨rfl,0,rfl⟩,rfl⟩
    |Vv=>
     have hu:u= .pointer none:=hu
     subst hu
     cases τ<;>simp only [Dr,Aa,Ae,reduceCtorEq] at hv
     obtain ⟨_,rfl⟩:=hv;exact ⟨[_], .inl ⟨rfl,rfl⟩,rfl⟩
    |_=>cases τ<;>simp [AC.settled,Ty.flat,Dr] at hc hv
  ·cases he
 |row e te=>
  cases a<;>simp only [Mh] at he<;>try (cases he;done)
  ·simp only [Aa,Ae] at he
   obtain ⟨rfl,rfl⟩:=he
   have hu:u= .slice none 0 0:=hu
   exact ⟨none,⟨⟨hu,rfl,rfl⟩,rfl⟩,rfl⟩
  ·rename_i l off len
   split at he
   ·rename_i fr tr e' Ri xs hl
    split at he
    ·rename_i hc
     obtain ⟨rfl,rfl,rfl,rfl⟩:=hc
     simp only [Aa,Ae] at he
     obtain ⟨rfl,rfl⟩:=he
     unfold St.at at hl
     obtain ⟨_,h2⟩:=Oi hu hl
     refine ⟨(π l).map full,⟨a7 h2,?_⟩,rfl,rfl,rfl,fr,tr,hl⟩
     have hb:=(h.heap l).Ro hl
     simp only [Cj,Kg] at hb
     cases hp:π l with
     |none=>rw [hp] at hb;exact hb
     |some q=>
      rw [hp] at hb
      obtain ⟨k1,cur,ti,k2,k3,k4,k5,k6,_⟩:=hb
      refine ⟨⟨k1.1,k1.2.1⟩,cur,ti,k2,k3,k4,k5,λi y hy=>?_⟩
      obtain ⟨es,g1,g2,g3⟩:=k6 i y hy
      exact ⟨es,g1,g2,Cells.Fk (Ao _) (λ_ _ _=>rfl) (λ_ _ hk=>hk.iv) e' es y g3⟩
    ·cases he
   ·cases he
  ·rename_i l i c
   split at he
   ·rename_i e' tid xs hl
    split at he
    ·rename_i hc
     obtain ⟨rfl,hf,zq,jU⟩:=hc
     cases hx:xs[i]? with
     |none=>rw [hx] at he;cases he
     |some y=>
      rw [hx] at he
      simp only [Am,Aa,Ae] at he
      obtain ⟨rfl,rfl⟩:=he
      unfold St.at at hl
      obtain ⟨r,r1,r2,_,r4⟩:=IV h hl hx jU hu
      exact ⟨r,⟨r1,r2 hf _⟩,⟨zq,hf⟩,tid,xs,hl,hx,r4⟩
    ·cases he
   ·cases he
 |Hz e te=>
  cases a<;>simp only [Mh] at he<;>try (cases he;done)
  ·simp only [Aa,Ae] at he
   obtain ⟨rfl,rfl⟩:=he
   have hu:u= .slice none 0 0:=hu
   exact ⟨none,⟨⟨hu,rfl,rfl⟩,rfl⟩,rfl⟩
  ·rename_i l off len
   split at he
   ·rename_i e' Ri xs hl
    split at he
    ·rename_i hc
     obtain ⟨rfl,rfl,rfl,rfl⟩:=hc
     simp only [Aa,Ae] at he
     obtain ⟨rfl,rfl⟩:=he
     unfold St.at at hl
     obtain ⟨_,h2⟩:=c7 hu hl
     refine ⟨(π l).map full,⟨a7 h2,?_⟩,rfl,rfl,rfl,hl⟩
     have hb:=(h.heap l).Ro hl
     simp only [Cj] at hb
     cases hp:π l with
     |none=>rw [hp] at hb;exact hb
     |some q=>rw [hp] at hb;exact hb
    ·cases he
   ·cases he
  ·rename_i l i c
   split at he
   ·rename_i e' tid xs hl
    split at he
    ·rename_i hc
     obtain ⟨rfl,zq,jU⟩:=hc
     cases hx:xs[i]? with
     |none=>rw [hx] at he;cases he
     |some y=>
      rw [hx] at he
      simp only [Am,Aa,Ae] at he
      obtain ⟨rfl,rfl⟩:=he
      unfold St.at at hl
      obtain ⟨r,r1,_,r3,r4⟩:=IV h hl hx jU hu
      exact ⟨r,⟨r1,r3 te⟩,zq,tid,xs,hl,hx,r4⟩
    ·cases he
   ·cases he
 |part e te=>
  cases a<;>simp only [Mh] at he<;>try (cases he;done)
  rename_i l off len
  split at he
  ·rename_i fr tr e' Ri xs hl
   split at he
   ·rename_i hc
    obtain ⟨rfl,rfl,hf,zq⟩:=hc
    simp only [Aa,Ae] at he
    obtain ⟨rfl,rfl⟩:=he
    unfold St.at at hl
    obtain ⟨h1,h2⟩:=Oi hu hl
    refine ⟨(π l).map full,⟨⟨a7 h2,h1⟩,hf,?_⟩,hf,rfl,zq,fr,tr,hl⟩
    have hb:=(h.heap l).Ro hl
    simp only [Cj,Kg] at hb
    cases hp:π l with
    |none=>rw [hp] at hb;exact hb
    |some q=>
     rw [hp] at hb
     obtain ⟨k1,cur,ti,k2,k3,k4,k5,k6,_⟩:=hb
     refine ⟨⟨k1.1,k1.2.1⟩,cur,ti,k2,k3,k4,k5,λi y hy=>?_⟩
     obtain ⟨es,g1,g2,g3⟩:=k6 i y hy
     exact ⟨es,g1,g2,Cells.flat e' es y hf g3⟩
   ·cases he
  ·cases he
 |Bl e te kp=>
  cases a<;>simp only [Mh] at he<;>try (cases he;done)
  rename_i l off len
  split at he
  ·rename_i e' Ri rows kp' hl
   split at he
   ·rename_i hc
    obtain ⟨rfl,rfl,rfl,rfl,zq⟩:=hc
    simp only [Aa,Ae] at he
    obtain ⟨rfl,rfl⟩:=he
    unfold St.at at hl
    obtain ⟨h1,h2⟩:=o0 hu hl
    refine ⟨(π l).map full,⟨a7 h2,?_⟩,zq,rfl,rfl,rfl,kp',hl⟩
    have hb:=(h.heap l).Ro hl
    simp only [Cj] at hb
    have hb:=hb.1
    have hg:ay w (Da X.w0.heap.size X.Sc π false) ((π l).map full) e' rows none:=by
     cases hp:π l with
     |none=>rw [hp] at hb;exact hb
     |some q=>rw [hp] at hb;exact hb
    exact hg.Fk (λ_ _ _ _ _=>rfl) λes x hc=>hc.but
   ·cases he
  ·cases he
end
end Go.Proofs.YtkkdpknjohcekaaGreat
