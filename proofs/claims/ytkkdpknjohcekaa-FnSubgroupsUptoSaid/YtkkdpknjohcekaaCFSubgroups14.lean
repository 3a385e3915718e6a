/-
  Part 15 of the proof that the statement FnSubgroups holds.
-/
import Derived.Test.YtkkdpknjohcekaaCFSubgroups13
namespace Go.Proofs.Ytkkdpknjohcekaa
open Go.RowKit
section
variable {P:Program} {T:Tab} {X:Ctx} {w w':World} {π π':Pi} {H H':List (Nat×OB)}
def full (r:Real):Real:= {r with cl:=r.Cz}
theorem Dg.tj: ∀(τ:Ty) (F:List Nat) (es:List Value) (x:τ.den),τ.flat=true->Dg w F τ es x->F= []
 | .int k,F,es,x,_,h=>h.1
 | .bool,F,es,x,_,h=>h.1
 | .str,F,es,x,_,h=>h.1
 | .unit,F,es,x,_,h=>h.1
 | .pair a r,F,es,x,hf,h=>by
  simp only [Ty.flat,Ai] at hf
  simp only [Dg] at h
  obtain ⟨c1,c2,F1,F2,_,rfl,h1,h2⟩:=h
  rw [Dg.tj a F1 c1 x.1 hf.1 h1,Dg.tj r F2 c2 x.2 hf.2 h2]
  rfl
 | .slice _,_,_,_,hf,_=>by simp [Ty.flat] at hf
 | .oslice _,_,_,_,hf,_=>by simp [Ty.flat] at hf
 | .ptr _,_,_,_,hf,_=>by simp [Ty.flat] at hf
 | .optr _,_,_,_,hf,_=>by simp [Ty.flat] at hf
 | .smap _,_,_,_,hf,_=>by simp [Ty.flat] at hf
 | .clo _ _,_,_,_,hf,_=>by simp [Ty.flat] at hf
theorem nO {S P:Nat->Prop} {g o:Nat} {cur:Array Value} {e:Ty} {xs:List e.den} (hf:e.flat=true)
  (h: ∀(i:Nat) (x:e.den),xs[i]?=some x-> ∃es:List Value,es.length=e.size/\(∀j u,es[j]?=some u->cur[(o+i)*e.size+j]?=some u)/\Cells w S e es x):Xi w P g o cur e xs:=by
 refine ⟨List.replicate xs.length [],by simp,by simp,by simp,λi x F hx hF=>?_⟩
 obtain ⟨es,e1,e2,e3⟩:=h i x hx
 have:F= []:=Ft (Cp hF)
 subst this
 exact ⟨es,e1,e2,Xu e es x hf e3⟩
theorem Sv.PA {D:Nat->Prop} {r:Option Real} {e:Ty} {ys:List e.den} {u:Value} (h:Sv w D r e ys) (hf:e.flat=true) (hv:Hs r e.size 0 ys.length u):
  ∃F,Dg w F (.slice e) [u] ys/\F.Nodup/\ ∀b∈F,∃r',r=some r'/\r'.Cz b:=by
 cases r with
 |none=>
  obtain ⟨rfl,_,_⟩:=hv
  have h:ys= []:=h
  subst h
  exact ⟨[],⟨none,0,0,rfl,rfl,Aq _, .inl ⟨rfl,rfl,rfl,rfl⟩⟩,Mv,λb hb=>by cases hb⟩
 |some r=>
  obtain ⟨h1,cur,ti,h2,h3,h4,h5,h6⟩:=h
  obtain ⟨F,f1,f2,f3⟩:=kN (P:=r.Cz) h2 h3 h4 (by omega) hv (nO hf h6) h1.1
  exact ⟨F,by simpa using f1,f2,λb hb=>⟨r,rfl,f3 b hb⟩⟩
theorem No.PA {r:Option Real} {e:Ty} {te:TypeId} {ys:List e.den} {u:Value} (h:No w r e te ys) (hv:Hs r e.size 0 ys.length u):
  ∃F,Dg w F (.slice e) [u] ys/\F.Nodup/\ ∀b∈F,∃r',r=some r'/\r'.Cz b:=by
 cases r with
 |none=>
  obtain ⟨rfl,_,_⟩:=hv
  have h:ys= []:=h
  subst h
  exact ⟨[],⟨none,0,0,rfl,rfl,Aq _, .inl ⟨rfl,rfl,rfl,rfl⟩⟩,Mv,λb hb=>by cases hb⟩
 |some r=>
  obtain ⟨h1,cur,ti,h2,h3,h4,h5,h6⟩:=h
  obtain ⟨F,f1,f2,f3⟩:=kN (P:=r.Cz) h2 h3 h4 (by omega) hv h6 h1
  exact ⟨F,by simpa using f1,f2,λb hb=>⟨r,rfl,f3 b hb⟩⟩
theorem Dg.row {F:List Nat} {e:Ty} {u:Value} {xs:List e.den} (h:Dg w F (.slice e) [u] xs) (hn:F.Nodup):
  ∃r:Option Real,Hs r e.size 0 xs.length u/\(e.flat=true-> ∀D,Sv w D r e xs)/\(∀te,No w r e te xs)/\(∀r',r=some r'-> ∀b,r'.Cz b↔b∈F)/\(r=none->F= []):=by
 simp only [Dg] at h
 obtain ⟨a,len,cap,e0,e1,e2,h⟩:=h
 simp only [Gu,Oa] at e0
 subst e0
 rcases h with ⟨rfl,rfl,rfl,rfl⟩|⟨ad,g,o,Fs,rfl,ha,⟨cur,ti,o',s1,s2,s3,s4⟩,rfl,hl,Kf⟩
 ·exact ⟨none,⟨by rw [e1];rfl,rfl,rfl⟩,λ_ _=>rfl,λ_=>rfl,(λr' h=>by cases h),λ_=>rfl⟩
 ·subst s2
  have ll: ∀(i:Nat) (x:e.den) (Fi:List Nat),xs[i]?=some x->Fs[i]?=some Fi-> ∃es:List Value,es.length=e.size/\(∀j u,es[j]?=some u->cur[(o'+i)*e.size+j]?=some u)/\Dg w Fi e es x:=by
   intro i x Fi hx hF
   obtain ⟨es,k1,k2,k3⟩:=Kf i x Fi hx hF
   refine ⟨es,k1,λj v hv=>?_,k3⟩
   have:=k2 j v hv
   rw [cellOf s1] at this
   rw [Dh];exact this
  refine ⟨some ⟨g,o',cap,(· ∈g::List.flatten Fs),(· ∈g::List.flatten Fs)⟩,⟨ad,by rw [e1];rfl,by dsimp only;omega,λh0=>by rw [ha h0];rfl⟩,λhf D=>⟨⟨by simp,λb hb=>?_⟩,cur,ti,s1,s3,s4,by rw [<-e1];exact e2,λi x hx=>?_⟩,
   fun te=>⟨by simp,cur,ti,s1,s3,s4,by rw [<-e1];exact e2,Fs,hl,hn,λb hb=>by simp [hb],ll⟩,λr' hr b=>by cases hr;exact Iff.rfl,λh=>by cases h⟩
  ·rcases Bc.1 hb with hb|hb
   ·exact hb
   ·obtain ⟨Fi,h1,h2⟩:=Hi.1 hb
    obtain ⟨i,hi,rfl⟩:=Nc h1
    obtain ⟨es,_,_,k3⟩:=ll i (xs[i]'(by omega)) _ (Ad _) (Ad hi)
    rw [Dg.tj e _ _ _ hf k3] at h2
    cases h2
  ·have hi:i<Fs.length:=by have:=(Ao.1 hx).1;omega
   obtain ⟨es,k1,k2,k3⟩:=ll i x _ hx (Ad hi)
   exact ⟨es,k1,k2,Cells.flat e es x hf (Dg.cells (S:= λ_=>False) _ e es x k3 λb hb=> λh=>h)⟩
theorem cS: ∀(Fs:List (List Nat)) (i:Nat) (Fi F':List Nat),(List.flatten Fs).Nodup->Fs[i]?=some Fi->F'.Nodup->(∀b∈F',b∈Fi)->(List.flatten (Fs.set i F')).Nodup/\ ∀b∈List.flatten (Fs.set i F'),b∈List.flatten Fs
 | [],i,Fi,F',_,h,_,_=>by simp at h
 |G::Fs,0,Fi,F',hn,h,oZ,hs=>by
  simp only [Bz,Aa] at h;subst h
  simp only [List.set_cons_zero,Ky] at hn⊢
  obtain ⟨n1,n2,n3⟩:=Eb.1 hn
  refine ⟨Eb.2 ⟨oZ,n2,λa ha b hb=>n3 a (hs a ha) b hb⟩,λb hb=>?_⟩
  rcases Az.1 hb with hb|hb
  ·exact Bi _ (hs b hb)
  ·exact Cm _ hb
 |G::Fs,i+1,Fi,F',hn,h,oZ,hs=>by
  simp only [Jq] at h
  simp only [List.set_cons_succ,Ky] at hn⊢
  obtain ⟨n1,n2,n3⟩:=Eb.1 hn
  obtain ⟨m1,m2⟩:=cS Fs i Fi F' n2 h oZ hs
  refine ⟨Eb.2 ⟨n1,m1,λa ha b hb=>n3 a ha b (m2 b hb)⟩,λb hb=>?_⟩
  rcases Az.1 hb with hb|hb
  ·exact Bi _ hb
  ·exact Cm _ (m2 b hb)
theorem lg: ∀(Fs:List (List Nat)) (i j:Nat) (Fi Fj:List Nat) (b:Nat),(List.flatten Fs).Nodup->Fs[i]?=some Fi->Fs[j]?=some Fj->b∈Fi->b∈Fj->i=j
 | [],i,j,Fi,Fj,b,_,h,_,_,_=>by simp at h
 |G::Fs,0,0,_,_,_,_,_,_,_,_=>rfl
 |G::Fs,0,j+1,Fi,Fj,b,hn,h1,h2,h3,h4=>by
  simp only [Bz,Aa,Jq] at h1 h2
  subst h1
  simp only [Ky] at hn
  exact absurd rfl ((Eb.1 hn).2.2 b h3 b (Hi.2 ⟨Fj,Cp h2,h4⟩))
 |G::Fs,i+1,0,Fi,Fj,b,hn,h1,h2,h3,h4=>by
  simp only [Bz,Aa,Jq] at h1 h2
  subst h2
  simp only [Ky] at hn
  exact absurd rfl ((Eb.1 hn).2.2 b h4 b (Hi.2 ⟨Fi,Cp h1,h3⟩))
 |G::Fs,i+1,j+1,Fi,Fj,b,hn,h1,h2,h3,h4=>by
  simp only [Jq] at h1 h2
  simp only [Ky] at hn
  rw [lg Fs i j Fi Fj b (Eb.1 hn).2.1 h1 h2 h3 h4]
def yL (w:World) (π:Pi) (l i:Nat) (e:Ty) (tid:TypeId) (xs:List (List e.den)) (u:Value) (r:Option Real):Prop:=
 ∃q,π l=some q/\(∀r',r=some r'-> ∀b,r'.Cz b->q.Cz b/\b≠q.g)/\
  ∀(w':World) (ys:List e.den),w.heap.size<=w'.heap.size->(∀b,b<w.heap.size->q.Cz b->(∀r',r=some r'-> ¬r'.Cz b)->w'.heap[b]?=w.heap[b]?)->
   (∃F',Dg w' F' (.slice e) [u] ys/\F'.Nodup/\ ∀b∈F',∃r',r=some r'/\r'.Cz b)->No w' (some q) (.slice e) tid (xs.set i ys)
theorem IW (h:Mr X w π H) {l i c:Nat} {e:Ty} {tid:TypeId} {xs:List (List e.den)} {x:List e.den} {u:Value} (hl:Aw H l=some (.Gx (.slice e) tid xs)) (hx:xs[i]?=some x) (hc:c=0)
  (hu:Hj X w π H (.sub l i c) u): ∃r,Hs r e.size 0 x.length u/\(e.flat=true-> ∀D,Sv w D r e x)/\(∀te,No w r e te x)/\yL w π l i e tid xs u r:=by
 subst hc
 obtain ⟨q,b0,sz0,n0,h1,oX,h2,h3,⟨h4,a,n,m,rfl⟩,h5⟩:=hu
 rw [hl] at h1;cases h1
 simp only [OB.gK,Aa,Ah] at oX
 obtain ⟨rfl,rfl⟩:=oX
 have hb:=(h.heap l).Rc hl
 simp only [Cn,No,h2] at hb
 obtain ⟨k1,cur,ti,k2,k3,k4,k5,Fs,t1,t2,t3,t4⟩:=hb
 have hi:i<Fs.length:=by have:=(Ao.1 hx).1;omega
 have hFi:Fs[i]?=some Fs[i]:=Ad hi
 obtain ⟨es,e1,e2,e3⟩:=t4 i x _ hx hFi
 have e1':es.length=1:=e1
 obtain ⟨v,rfl⟩:=Eh.1 e1'
 have hv:v= .slice a n m:=by
  have:=e2 0 v rfl
  rw [cellOf k2] at h5
  rw [this] at h5;exact Bd h5
 subst hv
 have hn2:=(Cg.1 t2).2
 have zm: ∀b∈Fs[i],b∈List.flatten Fs:= λb hb=>Hi.2 ⟨_,An hi,hb⟩
 have hnF:(Fs[i]).Nodup:=hn2.sublist (by
  have:=gV (List.singleton_sublist.2 (An hi))
  simpa using this)
 obtain ⟨r,r1,r2,r3,r4,r5⟩:=Dg.row e3 hnF
 refine ⟨r,r1,r2,r3,q,h2,λr' hr b hb=>?_,λw' ys hs hk ⟨F',f1,f2,f3⟩=>?_⟩
 ·have hb:=(r4 r' hr b).1 hb
  exact ⟨t3 b (zm b hb),λe=>(Cg.1 t2).1 (e▸zm b hb)⟩
 ·have hF': ∀b∈F',b∈Fs[i]:= λb hb=>by
   obtain ⟨r',g1,g2⟩:=f3 b hb
   exact (r4 r' g1 b).1 g2
  have lp:=cS Fs i _ F' hn2 hFi f2 hF'
  have hkg:w'.heap[q.g]?=w.heap[q.g]?:=hk q.g (Gh k2) k1 λr' hr hb=>(Cg.1 t2).1 (zm _ ((r4 r' hr _).1 hb))
  refine ⟨k1,cur,ti,hkg.trans k2,k3,k4,by simpa using k5,Fs.set i F',by simp [t1],Cg.2 ⟨λhm=>(Cg.1 t2).1 (lp.2 _ hm),lp.1⟩,λb hb=>t3 b (lp.2 b hb),λj y F hy hF=>?_⟩
  rw [Em] at hy hF
  split at hy
  ·rename_i fw;subst fw
   rw [Ab rfl] at hF
   rw [Ab hi] at hF
   simp only [Aa] at hF
   have hy:ys=y:=by simpa [h3] using hy
   subst hy;subst hF
   exact ⟨[.slice a n m],rfl,e2,f1⟩
  ·rename_i fw
   rw [Ak fw] at hF
   obtain ⟨nD,g1,g2,g3⟩:=t4 j y F hy hF
   refine ⟨nD,g1,g2,g3.Fm _ _ _ _ hs λb hb=>?_⟩
   have ZK:b∈List.flatten Fs:=Hi.2 ⟨F,Cp hF,hb⟩
   exact hk b (g3.lt _ _ _ _ b hb) (t3 b ZK) λr' hr vL=>fw (lg Fs i j _ F b hn2 hFi hF ((r4 r' hr b).1 vL) hb)
def To (w:World) (π:Pi) (H:List (Nat×OB)) (io:Bool) (a:AC) (u:Value) (r:Option Real):(c:CK)->c.den->Prop
 | .Fe _,_=>r=none
 | .row e te,x=>match a with
  | .Lp=>r=none
  | .own l off len=>r=(π l).map full/\off=0/\len=List.length x/\ ∃fr tr,Aw H l=some (.arr fr tr e te x)
  | .sub l i _=>(io=true/\e.flat=true)/\ ∃tid xs,Aw H l=some (.Gx (.slice e) tid xs)/\xs[i]?=some x/\yL w π l i e tid xs u r
  |_=>False
 | .Ho e te,x=>match a with
  | .Lp=>r=none
  | .own l off len=>r=(π l).map full/\off=0/\len=List.length x/\Aw H l=some (.Gx e te x)
  | .sub l i _=>io=true/\ ∃tid xs,Aw H l=some (.Gx (.slice e) tid xs)/\xs[i]?=some x/\yL w π l i e tid xs u r
  |_=>False
 | .part e te,x=>e.flat=true/\match a with
  | .own l _ _=>r=(π l).map full/\io=true/\ ∃fr tr,Aw H l=some (.arr fr tr e te x.1)
  |_=>False
 | .Bo e te _,x=>io=false/\match a with
  | .own l off len=>r=(π l).map full/\off=0/\len=List.length x/\ ∃kp,Aw H l=some (.Bo e te x none kp)
  |_=>False
theorem a6 {r:Option Real} {s off len:Nat} {v:Value} (h:Hs r s off len v):Hs (r.map full) s off len v:=by
 cases r<;>exact h
def Of (X:Ctx) (π:Pi) (V:List Nat) (b:Nat):Prop:=(Vu π b/\ ∀l∈V,∀r,π l=some r-> ¬r.Cz b)\/X.Sc b
theorem Of.not {V:List Nat} {b l:Nat} (hb:Of X π V b) (h:Mr X w π H) (hl:l∈V) {r:Real} (hr:π l=some r) (hf:r.Cz b):False:=by
 rcases hb with hb|hb
 ·exact hb.2 l hl r hr hf
 ·have h1:=h.sc b hb
  rcases (h.own ⟨l,r,hr,hf⟩).2 with h2|h2
  ·omega
  ·exact h1.2 h2
theorem Of.iE {V:List Nat} {b:Nat} {B:Nat} {fr:Bool} (hb:Of X π V b):De B X.Sc π fr b:=hb.elim (λh=> .inl h.1) λh=> .inr (.inl h)
theorem PE {st:St} {ls:List Nat} (h:cj st ls=true) {l:Nat} (hl:l∈ls) {tid:TypeId} {vs:List AC} (hv:Aw st.heap l=some (.var tid vs)):vs.all (·.settled)=true:=by
 have:=Bf.1 h l hl
 unfold St.at at this
 rw [hv] at this
 exact this
theorem Cells.but {V:List Nat} {f:Bool} {τ:Ty} {cs:List Value} {x:τ.den} (h:Cells w (De X.w0.heap.size X.Sc π f) τ cs x):Cells w (Of X π V) τ cs x:=
 Cells.Fm (Aq _) (λ_ _ _=>rfl) (λ_ _ hk=>hk.iE) τ cs x h
theorem kb {st:St} (h:Mr X w π st.heap) {V:List Nat} {a:Ty} {l i:Nat} {fr:Bool} {x:a.den} (nh:cj st [l]=true) (hlV:l∈V) (hv:Un st a l i=some (fr,x)) {r:Real} (hr:π l=some r):
  r.g<w.heap.size/\ ¬Of X π V r.g/\ ∃es:List Value,es.length=a.size/\(∀j u,es[j]?=some u->w.cell? ⟨r.g,i+j,none⟩=some u)/\Cells w (Of X π V) a es x:=by
 unfold Un at hv
 split at hv
 ·rename_i tid vs hl
  unfold St.at at hl
  obtain ⟨r',h3,h4,cur,h5,h6⟩:=(h.heap l).Rc hl
  rw [hr] at h3;cases h3
  have hs:=PE nh (Ae.2 rfl) hl
  have xy:((vs.drop i).take a.size).all (·.settled)=true:=Bf.2 λc hc=>Bf.1 hs c (dM (Er hc))
  have hc:=Wx a _ _ fr x xy (a7 h6 i a.size) hv
  refine ⟨Gh h5,λhb=>hb.not h hlV hr h4,_,Cells.len a _ x hc,λj u hu=>?_,hc.but⟩
  rw [cellOf h5]
  rw [Dc] at hu
  split at hu
  ·rw [Db] at hu;simpa using hu
  ·cases hu
 ·cases hv
theorem JG {st:St} {l:Nat} {ls:List Nat} (h:cj st (l::ls)=true):cj st [l]=true/\cj st ls=true:=by
 simp only [cj,Jb,List.all_nil,Bool.and_true,Ai] at h⊢
 exact h
theorem CJ {st:St} (h:Mr X w π st.heap) {V:List Nat} : ∀(τ:Ty) (Ek:List (Nat×Nat)) (us:List Value) (fr:Bool) (x:τ.den),us.length=Ek.length->
  (∀(j:Nat) p,Ek[j]?=some p-> ∃r tid vs,Aw st.heap p.1=some (.var tid vs)/\π p.1=some r/\us[j]?=some (.pointer (some ⟨r.g,p.2,none⟩)))->
  cj st (Ek.map (·.1))=true->(∀p∈Ek,p.1∈V)->Kx st τ Ek=some (fr,x)->Cells w (Of X π V) τ us x:=by
 intro τ
 induction τ with
 |unit=>
  intro Ek us fr x hl hr _ _ hv
  cases Ek with
  |nil=>exact Co hl
  |cons c cs=>simp [Kx] at hv
 |pair a r _ ie=>
  intro Ek us fr x hl hr nh hV hv
  cases a with
  |ptr a=>
   cases Ek with
   |nil=>simp [Kx] at hv
   |cons c cs=>
    obtain ⟨l,i⟩:=c
    simp only [Kx] at hv
    split at hv
    ·rename_i f1 y f2 z h1 h2
     simp only [Aa,Ah] at hv
     obtain ⟨rfl,rfl⟩:=hv
     cases us with
     |nil=>simp at hl
     |cons u us=>
      obtain ⟨r0,tid,vs,h3,h4,h5⟩:=hr 0 (l,i) rfl
      simp only [Bz,Aa] at h5
      subst h5
      obtain ⟨ok1,ok2⟩:=JG nh
      obtain ⟨h6,h7,es,h8,h9,oX⟩:=kb h ok1 (hV _ (Lr ..)) h1 h4
      exact ⟨[_],us,rfl,⟨r0.g,i,rfl,h6,h7,es,h8,h9,oX⟩,ie cs us f2 z (by simpa using hl) (λj p hp=>hr (j+1) p hp) ok2 (λp hp=>hV p (Ar _ hp)) h2⟩
    ·cases hv
  |_=>cases Ek<;>simp [Kx] at hv
 |_=>intro Ek us fr x hl hr _ _ hv;cases Ek<;>simp [Kx] at hv
theorem WK {st:St} (h:Mr X w π st.heap) {V:List Nat} {io:Bool} {k:Nat} {c:CK} {a:AC} {u:Value} (hu:Hj X w π st.heap a u) {x:c.den} {tks:List (Nat×Loc)} (he:Lx st io k c a=some (x,tks))
  (hV: ∀t∈tks,t.2.reads=true->t.2.Xb∈V): ∃r,eX w (Of X π V) r u c x/\To w π st.heap io a u r c x:=by
 cases c with
 |Fe τ=>
  have own: ∀l off len,a= .own l off len-> ∃r,eX w (Of X π V) r u (.Fe τ) x/\To w π st.heap io a u r (.Fe τ) x:=by
   intro l off len ea
   subst ea
   simp only [Lx] at he
   cases hv:Dx st τ (.own l off len) with
   |none=>rw [hv] at he;cases he
   |some p=>
    obtain ⟨fr,y⟩:=p
    rw [hv] at he
    simp only [Am,Aa,Ah] at he
    obtain ⟨rfl,rfl⟩:=he
    have hlV:l∈V:=hV _ (Ae.2 rfl) rfl
    refine ⟨none,⟨rfl,?_⟩,rfl⟩
    cases τ<;>simp only [Dx] at hv<;>try (cases hv;done)
    rename_i e
    cases hl:st.at l with
    |none=>rw [hl] at hv;cases hv
    |some b=>
     rw [hl] at hv
     unfold St.at at hl
     cases b<;>(try simp only [] at hv)<;>try (cases hv;done)
     ·rename_i sl yC e0 tid xs
      split at hv
      ·rename_i ZN;subst ZN
       simp only [Aa,Ah] at hv
       obtain ⟨_,rfl⟩:=hv
       obtain ⟨h1,h2⟩:=Oc hu hl
       exact ⟨[u],pR h hl h1 h2 (λb hb ⟨r,hr,hf⟩=>hb.not h hlV hr hf) (λb _ hb=>hb.iE),rfl⟩
      ·cases hv
     ·rename_i e0 tid xs
      split at hv
      ·rename_i ZN;subst ZN
       simp only [Aa,Ah] at hv
       obtain ⟨_,rfl⟩:=hv
       obtain ⟨h1,h2⟩:=bZ hu hl
       exact ⟨[u],nc h hl h1 h2 (λb hb ⟨r,hr,hf⟩=>hb.not h hlV hr hf),rfl⟩
      ·cases hv
     ·rename_i e0 te0 rows out kp
      cases out with
      |some i=>cases hv
      |none=>
       simp only [] at hv
       split at hv
       ·rename_i ZN;subst ZN
        simp only [Aa,Ah] at hv
        obtain ⟨_,rfl⟩:=hv
        obtain ⟨h1,h2⟩:=oE hu hl
        exact ⟨[u],tu h hl h1 h2 (λb hb ⟨r,hr,hf⟩=>hb.not h hlV hr hf) (λb hb=>hb.iE),rfl⟩
       ·cases hv
  have At8: ∀g Ek,a= .clo g Ek-> ∃r,eX w (Of X π V) r u (.Fe τ) x/\To w π st.heap io a u r (.Fe τ) x:=by
   intro g Ek ea
   subst ea
   simp only [Lx] at he
   split at he
   ·rename_i hc
    simp only [Ai,Ew] at hc
    obtain ⟨nh,Ts⟩:=hc
    cases hv:Jp st τ (.clo g Ek) with
    |none=>rw [hv] at he;cases he
    |some p=>
     obtain ⟨fr,y⟩:=p
     rw [hv] at he
     simp only [Am,Aa,Ah] at he
     obtain ⟨rfl,rfl⟩:=he
     have hcV: ∀p∈Ek,p.1∈V:= λp hp=>hV (Ed false k, .view p.1) (Ba.2 ⟨p.1,Ba.2 ⟨p,hp,rfl⟩,rfl⟩) rfl
     obtain ⟨us,rfl,h2,h3⟩:=hu
     refine ⟨none,⟨rfl,Da.ov Ts ?_⟩,rfl⟩
     cases τ<;>simp only [Jp] at hv<;>try (simp only [Dx,reduceCtorEq] at hv;done)
     rename_i f0 c0
     split at hv
     ·rename_i hg
      obtain ⟨rfl,Jc⟩:=hg
      exact ⟨us,by rw [iL Jc],CJ h c0 Ek us fr y h2 h3 nh hcV hv⟩
     ·cases hv
   ·cases he
  have hvp: ∀l i,a= .He l i-> ∃r,eX w (Of X π V) r u (.Fe τ) x/\To w π st.heap io a u r (.Fe τ) x:=by
   intro l i ea
   subst ea
   simp only [Lx] at he
   split at he
   ·rename_i hc
    simp only [Ai,Ew] at hc
    obtain ⟨nh,Ts⟩:=hc
    cases hv:Jp st τ (.He l i) with
    |none=>rw [hv] at he;cases he
    |some p=>
     obtain ⟨fr,y⟩:=p
     rw [hv] at he
     simp only [Am,Aa,Ah] at he
     obtain ⟨rfl,rfl⟩:=he
     have hlV:l∈V:=hV (Ed false k, .view l) (Ba.2 ⟨l,Ae.2 rfl,rfl⟩) rfl
     obtain ⟨r,tid,vs,h1,h2,rfl⟩:=hu
     refine ⟨none,⟨rfl,Da.ov Ts ?_⟩,rfl⟩
     cases τ<;>simp only [Jp] at hv<;>try (simp only [Dx,reduceCtorEq] at hv;done)
     ·obtain ⟨h6,h7,h8⟩:=kb h nh hlV hv h2
      exact ⟨r.g,i,rfl,h6,h7,h8⟩
     ·rename_i a
      cases hp:Un st a l i with
      |none=>rw [hp] at hv;cases hv
      |some p=>
       rw [hp] at hv
       simp only [Am,Aa,Ah] at hv
       obtain ⟨_,rfl⟩:=hv
       obtain ⟨h6,h7,h8⟩:=kb h nh hlV hp h2
       exact .inr ⟨_,r.g,i,rfl,rfl,h6,h7,h8⟩
   ·cases he
  have Jl: ∀l i c,a= .sub l i c-> ∃r,eX w (Of X π V) r u (.Fe τ) x/\To w π st.heap io a u r (.Fe τ) x:=by
   intro l i c ea
   subst ea
   simp only [Lx] at he
   cases hv:Dx st τ (.sub l i c) with
   |none=>rw [hv] at he;cases he
   |some p=>
    obtain ⟨fr,y⟩:=p
    rw [hv] at he
    simp only [Am,Aa,Ah] at he
    obtain ⟨rfl,rfl⟩:=he
    have hlV:l∈V:=hV _ (Ae.2 rfl) rfl
    refine ⟨none,⟨rfl,?_⟩,rfl⟩
    cases τ<;>simp only [Dx] at hv<;>try (cases hv;done)
    rename_i e
    cases hl:st.at l with
    |none=>rw [hl] at hv;cases hv
    |some b=>
     rw [hl] at hv
     unfold St.at at hl
     cases b<;>(try simp only [] at hv)<;>try (cases hv;done)
     rename_i e0 te0 rows out kp
     cases out with
     |some i=>cases hv
     |none=>
      simp only [] at hv
      split at hv
      ·rename_i ZN;subst ZN
       simp only [Aa,Ah] at hv
       obtain ⟨_,rfl⟩:=hv
       exact ⟨[u],tv h hl (FE hu hl) hu (λb hb ⟨r,hr,hf⟩=>hb.not h hlV hr hf) (λb hb=>hb.iE),rfl⟩
      ·cases hv
  by_cases RL: ∃l i c,a= .sub l i c
  ·obtain ⟨l,i,c,ea⟩:=RL;exact Jl l i c ea
  by_cases Ah9: ∃g Ek,a= .clo g Ek
  ·obtain ⟨g,Ek,ea⟩:=Ah9;exact At8 g Ek ea
  by_cases Ap2: ∃l i,a= .He l i
  ·obtain ⟨l,i,ea⟩:=Ap2;exact hvp l i ea
  by_cases ez: ∃l off len,a= .own l off len
  ·obtain ⟨l,off,len,ea⟩:=ez;exact own l off len ea
  have he:(if τ.flat||a.settled then (Dx st τ a).map λp=>(p.2,([]:List (Nat×Loc))) else none)=some (x,tks):=by
   cases a<;>first|exact he|exact absurd ⟨_,_,_,rfl⟩ ez|exact absurd ⟨_,_,rfl⟩ Ah9|exact absurd ⟨_,_,rfl⟩ Ap2|exact absurd ⟨_,_,_,rfl⟩ RL
  split at he
  ·rename_i hc
   cases hv:Dx st τ a with
   |none=>rw [hv] at he;cases he
   |some p=>
    obtain ⟨fr,y⟩:=p
    rw [hv] at he
    simp only [Am,Aa,Ah] at he
    obtain ⟨rfl,rfl⟩:=he
    refine ⟨none,⟨rfl,?_⟩,rfl⟩
    have Ii: ∀f,Da w (De X.w0.heap.size X.Sc π f) τ u y->Da w (Of X π V) τ u y:= λf hr=>hr.Ii λk _ hk=>hk.iE
    cases a with
    |data f Nv z=>
     rw [Nl] at hv
     split at hv
     ·rename_i ht;subst ht
      simp only [Aa,Ah] at hv
      obtain ⟨_,rfl⟩:=hv
      exact Ii f hu
     ·have Rj:τ.Ap=false:=by unfold iO at hv;split at hv<;>first|rfl|cases hv
      exact Ii _ ⟨[u],dk hv hu,by simp [Ce,Rj]⟩
    |Lp=>
     have hu:u= .slice none 0 0:=hu
     subst hu
     cases τ<;>simp only [Dx,Aa,Ah,reduceCtorEq] at hv
     ·obtain ⟨_,rfl⟩:=hv;exact ⟨[_],⟨none,0,0,rfl,rfl,Aq _, .inl rfl⟩,rfl⟩
     ·obtain ⟨_,rfl⟩:=hv;exact ⟨[_], .inl ⟨rfl,0,rfl⟩,rfl⟩
    |Vp=>
     have hu:u= .pointer none:=hu
     subst hu
     cases τ<;>simp only [Dx,Aa,Ah,reduceCtorEq] at hv
     obtain ⟨_,rfl⟩:=hv;exact ⟨[_], .inl ⟨rfl,rfl⟩,rfl⟩
    |_=>cases τ<;>simp [AC.settled,Ty.flat,Dx] at hc hv
  ·cases he
 |row e te=>
  cases a<;>simp only [Lx] at he<;>try (cases he;done)
  ·simp only [Aa,Ah] at he
   obtain ⟨rfl,rfl⟩:=he
   have hu:u= .slice none 0 0:=hu
   exact ⟨none,⟨⟨hu,rfl,rfl⟩,rfl⟩,rfl⟩
  ·rename_i l off len
   split at he
   ·rename_i fr tr e' Qx xs hl
    split at he
    ·rename_i hc
     obtain ⟨rfl,rfl,rfl,rfl⟩:=hc
     simp only [Aa,Ah] at he
     obtain ⟨rfl,rfl⟩:=he
     unfold St.at at hl
     obtain ⟨_,h2⟩:=Oc hu hl
     refine ⟨(π l).map full,⟨a6 h2,?_⟩,rfl,rfl,rfl,fr,tr,hl⟩
     have hb:=(h.heap l).Rc hl
     simp only [Cn,Jt] at hb
     cases hp:π l with
     |none=>rw [hp] at hb;exact hb
     |some q=>
      rw [hp] at hb
      obtain ⟨k1,cur,ti,k2,k3,k4,k5,k6,_⟩:=hb
      refine ⟨⟨k1.1,k1.2.1⟩,cur,ti,k2,k3,k4,k5,λi y hy=>?_⟩
      obtain ⟨es,g1,g2,g3⟩:=k6 i y hy
      exact ⟨es,g1,g2,Cells.Fm (Aq _) (λ_ _ _=>rfl) (λ_ _ hk=>hk.iE) e' es y g3⟩
    ·cases he
   ·cases he
  ·rename_i l i c
   split at he
   ·rename_i e' tid xs hl
    split at he
    ·rename_i hc
     obtain ⟨rfl,hf,zj,kq⟩:=hc
     cases hx:xs[i]? with
     |none=>rw [hx] at he;cases he
     |some y=>
      rw [hx] at he
      simp only [Am,Aa,Ah] at he
      obtain ⟨rfl,rfl⟩:=he
      unfold St.at at hl
      obtain ⟨r,r1,r2,_,r4⟩:=IW h hl hx kq hu
      exact ⟨r,⟨r1,r2 hf _⟩,⟨zj,hf⟩,tid,xs,hl,hx,r4⟩
    ·cases he
   ·cases he
 |Ho e te=>
  cases a<;>simp only [Lx] at he<;>try (cases he;done)
  ·simp only [Aa,Ah] at he
   obtain ⟨rfl,rfl⟩:=he
   have hu:u= .slice none 0 0:=hu
   exact ⟨none,⟨⟨hu,rfl,rfl⟩,rfl⟩,rfl⟩
  ·rename_i l off len
   split at he
   ·rename_i e' Qx xs hl
    split at he
    ·rename_i hc
     obtain ⟨rfl,rfl,rfl,rfl⟩:=hc
     simp only [Aa,Ah] at he
     obtain ⟨rfl,rfl⟩:=he
     unfold St.at at hl
     obtain ⟨_,h2⟩:=bZ hu hl
     refine ⟨(π l).map full,⟨a6 h2,?_⟩,rfl,rfl,rfl,hl⟩
     have hb:=(h.heap l).Rc hl
     simp only [Cn] at hb
     cases hp:π l with
     |none=>rw [hp] at hb;exact hb
     |some q=>rw [hp] at hb;exact hb
    ·cases he
   ·cases he
  ·rename_i l i c
   split at he
   ·rename_i e' tid xs hl
    split at he
    ·rename_i hc
     obtain ⟨rfl,zj,kq⟩:=hc
     cases hx:xs[i]? with
     |none=>rw [hx] at he;cases he
     |some y=>
      rw [hx] at he
      simp only [Am,Aa,Ah] at he
      obtain ⟨rfl,rfl⟩:=he
      unfold St.at at hl
      obtain ⟨r,r1,_,r3,r4⟩:=IW h hl hx kq hu
      exact ⟨r,⟨r1,r3 te⟩,zj,tid,xs,hl,hx,r4⟩
    ·cases he
   ·cases he
 |part e te=>
  cases a<;>simp only [Lx] at he<;>try (cases he;done)
  rename_i l off len
  split at he
  ·rename_i fr tr e' Qx xs hl
   split at he
   ·rename_i hc
    obtain ⟨rfl,rfl,hf,zj⟩:=hc
    simp only [Aa,Ah] at he
    obtain ⟨rfl,rfl⟩:=he
    unfold St.at at hl
    obtain ⟨h1,h2⟩:=Oc hu hl
    refine ⟨(π l).map full,⟨⟨a6 h2,h1⟩,hf,?_⟩,hf,rfl,zj,fr,tr,hl⟩
    have hb:=(h.heap l).Rc hl
    simp only [Cn,Jt] at hb
    cases hp:π l with
    |none=>rw [hp] at hb;exact hb
    |some q=>
     rw [hp] at hb
     obtain ⟨k1,cur,ti,k2,k3,k4,k5,k6,_⟩:=hb
     refine ⟨⟨k1.1,k1.2.1⟩,cur,ti,k2,k3,k4,k5,λi y hy=>?_⟩
     obtain ⟨es,g1,g2,g3⟩:=k6 i y hy
     exact ⟨es,g1,g2,Cells.flat e' es y hf g3⟩
   ·cases he
  ·cases he
 |Bo e te kp=>
  cases a<;>simp only [Lx] at he<;>try (cases he;done)
  rename_i l off len
  split at he
  ·rename_i e' Qx rows kp' hl
   split at he
   ·rename_i hc
    obtain ⟨rfl,rfl,rfl,rfl,zj⟩:=hc
    simp only [Aa,Ah] at he
    obtain ⟨rfl,rfl⟩:=he
    unfold St.at at hl
    obtain ⟨h1,h2⟩:=oE hu hl
    refine ⟨(π l).map full,⟨a6 h2,?_⟩,zj,rfl,rfl,rfl,kp',hl⟩
    have hb:=(h.heap l).Rc hl
    simp only [Cn] at hb
    have hb:=hb.1
    have hg:aC w (De X.w0.heap.size X.Sc π false) ((π l).map full) e' rows none:=by
     cases hp:π l with
     |none=>rw [hp] at hb;exact hb
     |some q=>rw [hp] at hb;exact hb
    exact hg.Fm (λ_ _ _ _ _=>rfl) λes x hc=>hc.but
   ·cases he
  ·cases he
end
end Go.Proofs.Ytkkdpknjohcekaa
