/-
  Part 15 of the proof that the statement FnIterativeDeepening holds.
-/
import Derived.Test.YtkkdpknjohcekaaGreatCFIterativeDeepening13
namespace Go.Proofs.YtkkdpknjohcekaaGreat
open Go.RowKit
section
variable {P:Program} {T:Tab} {X:Ctx} {w w':World} {π π':Pi} {H H':List (Nat×OB)}
def full (r:Real):Real:= {r with cl:=r.Cq}
theorem Db.sO: ∀(τ:Ty) (F:List Nat) (es:List Value) (x:τ.den),τ.flat=true->Db w F τ es x->F= []
 | .int k,F,es,x,_,h=>h.1
 | .bool,F,es,x,_,h=>h.1
 | .str,F,es,x,_,h=>h.1
 | .unit,F,es,x,_,h=>h.1
 | .pair a r,F,es,x,hf,h=>by
  simp only [Ty.flat,Ag] at hf
  simp only [Db] at h
  obtain ⟨c1,c2,F1,F2,_,rfl,h1,h2⟩:=h
  rw [Db.sO a F1 c1 x.1 hf.1 h1,Db.sO r F2 c2 x.2 hf.2 h2]
  rfl
 | .slice _,_,_,_,hf,_=>by simp [Ty.flat] at hf
 | .oslice _,_,_,_,hf,_=>by simp [Ty.flat] at hf
 | .ptr _,_,_,_,hf,_=>by simp [Ty.flat] at hf
 | .optr _,_,_,_,hf,_=>by simp [Ty.flat] at hf
 | .smap _,_,_,_,hf,_=>by simp [Ty.flat] at hf
 | .clo _ _,_,_,_,hf,_=>by simp [Ty.flat] at hf
theorem nj {S P:Nat->Prop} {g o:Nat} {cur:Array Value} {e:Ty} {xs:List e.den} (hf:e.flat=true)
  (h: ∀(i:Nat) (x:e.den),xs[i]?=some x-> ∃es:List Value,es.length=e.size/\(∀j u,es[j]?=some u->cur[(o+i)*e.size+j]?=some u)/\Cells w S e es x):Xs w P g o cur e xs:=by
 refine ⟨List.replicate xs.length [],by simp,by simp,by simp,λi x F hx hF=>?_⟩
 obtain ⟨es,e1,e2,e3⟩:=h i x hx
 have:F= []:=Fu (Cd hF)
 subst this
 exact ⟨es,e1,e2,Yc e es x hf e3⟩
theorem Tl.ND {D:Nat->Prop} {r:Option Real} {e:Ty} {ys:List e.den} {u:Value} (h:Tl w D r e ys) (hf:e.flat=true) (hv:Ip r e.size 0 ys.length u):
  ∃F,Db w F (.slice e) [u] ys/\F.Nodup/\ ∀b∈F,∃r',r=some r'/\r'.Cq b:=by
 cases r with
 |none=>
  obtain ⟨rfl,_,_⟩:=hv
  have h:ys= []:=h
  subst h
  exact ⟨[],⟨none,0,0,rfl,rfl,Ap _, .inl ⟨rfl,rfl,rfl,rfl⟩⟩,Nr,λb hb=>by cases hb⟩
 |some r=>
  obtain ⟨h1,cur,ti,h2,h3,h4,h5,h6⟩:=h
  obtain ⟨F,f1,f2,f3⟩:=ki (P:=r.Cq) h2 h3 h4 (by omega) hv (nj hf h6) h1.1
  exact ⟨F,by simpa using f1,f2,λb hb=>⟨r,rfl,f3 b hb⟩⟩
theorem Oh.ND {r:Option Real} {e:Ty} {te:TypeId} {ys:List e.den} {u:Value} (h:Oh w r e te ys) (hv:Ip r e.size 0 ys.length u):
  ∃F,Db w F (.slice e) [u] ys/\F.Nodup/\ ∀b∈F,∃r',r=some r'/\r'.Cq b:=by
 cases r with
 |none=>
  obtain ⟨rfl,_,_⟩:=hv
  have h:ys= []:=h
  subst h
  exact ⟨[],⟨none,0,0,rfl,rfl,Ap _, .inl ⟨rfl,rfl,rfl,rfl⟩⟩,Nr,λb hb=>by cases hb⟩
 |some r=>
  obtain ⟨h1,cur,ti,h2,h3,h4,h5,h6⟩:=h
  obtain ⟨F,f1,f2,f3⟩:=ki (P:=r.Cq) h2 h3 h4 (by omega) hv h6 h1
  exact ⟨F,by simpa using f1,f2,λb hb=>⟨r,rfl,f3 b hb⟩⟩
theorem Db.row {F:List Nat} {e:Ty} {u:Value} {xs:List e.den} (h:Db w F (.slice e) [u] xs) (hn:F.Nodup):
  ∃r:Option Real,Ip r e.size 0 xs.length u/\(e.flat=true-> ∀D,Tl w D r e xs)/\(∀te,Oh w r e te xs)/\(∀r',r=some r'-> ∀b,r'.Cq b↔b∈F)/\(r=none->F= []):=by
 simp only [Db] at h
 obtain ⟨a,len,cap,e0,e1,e2,h⟩:=h
 simp only [Hb,bg] at e0
 subst e0
 rcases h with ⟨rfl,rfl,rfl,rfl⟩|⟨ad,g,o,Fs,rfl,ha,⟨cur,ti,o',s1,s2,s3,s4⟩,rfl,hl,Jh⟩
 ·exact ⟨none,⟨by rw [e1];rfl,rfl,rfl⟩,λ_ _=>rfl,λ_=>rfl,(λr' h=>by cases h),λ_=>rfl⟩
 ·subst s2
  have kV: ∀(i:Nat) (x:e.den) (Fi:List Nat),xs[i]?=some x->Fs[i]?=some Fi-> ∃es:List Value,es.length=e.size/\(∀j u,es[j]?=some u->cur[(o'+i)*e.size+j]?=some u)/\Db w Fi e es x:=by
   intro i x Fi hx hF
   obtain ⟨es,k1,k2,k3⟩:=Jh i x Fi hx hF
   refine ⟨es,k1,λj v hv=>?_,k3⟩
   have:=k2 j v hv
   rw [cellOf s1] at this
   rw [De];exact this
  refine ⟨some ⟨g,o',cap,(· ∈g::List.flatten Fs),(· ∈g::List.flatten Fs)⟩,⟨ad,by rw [e1];rfl,by dsimp only;omega,λh0=>by rw [ha h0];rfl⟩,λhf D=>⟨⟨by simp,λb hb=>?_⟩,cur,ti,s1,s3,s4,by rw [<-e1];exact e2,λi x hx=>?_⟩,
   fun te=>⟨by simp,cur,ti,s1,s3,s4,by rw [<-e1];exact e2,Fs,hl,hn,λb hb=>by simp [hb],kV⟩,λr' hr b=>by cases hr;exact Iff.rfl,λh=>by cases h⟩
  ·rcases Bg.1 hb with hb|hb
   ·exact hb
   ·obtain ⟨Fi,h1,h2⟩:=Hz.1 hb
    obtain ⟨i,hi,rfl⟩:=Nw h1
    obtain ⟨es,_,_,k3⟩:=kV i (xs[i]'(by omega)) _ (Ac _) (Ac hi)
    rw [Db.sO e _ _ _ hf k3] at h2
    cases h2
  ·have hi:i<Fs.length:=by have:=(An.1 hx).1;omega
   obtain ⟨es,k1,k2,k3⟩:=kV i x _ hx (Ac hi)
   exact ⟨es,k1,k2,Cells.flat e es x hf (Db.cells (S:= λ_=>False) _ e es x k3 λb hb=> λh=>h)⟩
theorem cO: ∀(Fs:List (List Nat)) (i:Nat) (Fi F':List Nat),(List.flatten Fs).Nodup->Fs[i]?=some Fi->F'.Nodup->(∀b∈F',b∈Fi)->(List.flatten (Fs.set i F')).Nodup/\ ∀b∈List.flatten (Fs.set i F'),b∈List.flatten Fs
 | [],i,Fi,F',_,h,_,_=>by simp at h
 |G::Fs,0,Fi,F',hn,h,oE,hs=>by
  simp only [Bq,Aa] at h;subst h
  simp only [List.set_cons_zero,Ls] at hn⊢
  obtain ⟨n1,n2,n3⟩:=Dr.1 hn
  refine ⟨Dr.2 ⟨oE,n2,λa ha b hb=>n3 a (hs a ha) b hb⟩,λb hb=>?_⟩
  rcases Ay.1 hb with hb|hb
  ·exact Bk _ (hs b hb)
  ·exact Cf _ hb
 |G::Fs,i+1,Fi,F',hn,h,oE,hs=>by
  simp only [Mv] at h
  simp only [List.set_cons_succ,Ls] at hn⊢
  obtain ⟨n1,n2,n3⟩:=Dr.1 hn
  obtain ⟨m1,m2⟩:=cO Fs i Fi F' n2 h oE hs
  refine ⟨Dr.2 ⟨n1,m1,λa ha b hb=>n3 a ha b (m2 b hb)⟩,λb hb=>?_⟩
  rcases Ay.1 hb with hb|hb
  ·exact Bk _ hb
  ·exact Cf _ (m2 b hb)
theorem kM: ∀(Fs:List (List Nat)) (i j:Nat) (Fi Fj:List Nat) (b:Nat),(List.flatten Fs).Nodup->Fs[i]?=some Fi->Fs[j]?=some Fj->b∈Fi->b∈Fj->i=j
 | [],i,j,Fi,Fj,b,_,h,_,_,_=>by simp at h
 |G::Fs,0,0,_,_,_,_,_,_,_,_=>rfl
 |G::Fs,0,j+1,Fi,Fj,b,hn,h1,h2,h3,h4=>by
  simp only [Bq,Aa,Mv] at h1 h2
  subst h1
  simp only [Ls] at hn
  exact absurd rfl ((Dr.1 hn).2.2 b h3 b (Hz.2 ⟨Fj,Cd h2,h4⟩))
 |G::Fs,i+1,0,Fi,Fj,b,hn,h1,h2,h3,h4=>by
  simp only [Bq,Aa,Mv] at h1 h2
  subst h2
  simp only [Ls] at hn
  exact absurd rfl ((Dr.1 hn).2.2 b h4 b (Hz.2 ⟨Fi,Cd h1,h3⟩))
 |G::Fs,i+1,j+1,Fi,Fj,b,hn,h1,h2,h3,h4=>by
  simp only [Mv] at h1 h2
  simp only [Ls] at hn
  rw [kM Fs i j Fi Fj b (Dr.1 hn).2.1 h1 h2 h3 h4]
def yh (w:World) (π:Pi) (l i:Nat) (e:Ty) (tid:TypeId) (xs:List (List e.den)) (u:Value) (r:Option Real):Prop:=
 ∃q,π l=some q/\(∀r',r=some r'-> ∀b,r'.Cq b->q.Cq b/\b≠q.g)/\
  ∀(w':World) (ys:List e.den),w.heap.size<=w'.heap.size->(∀b,b<w.heap.size->q.Cq b->(∀r',r=some r'-> ¬r'.Cq b)->w'.heap[b]?=w.heap[b]?)->
   (∃F',Db w' F' (.slice e) [u] ys/\F'.Nodup/\ ∀b∈F',∃r',r=some r'/\r'.Cq b)->Oh w' (some q) (.slice e) tid (xs.set i ys)
theorem GU (h:Nj X w π H) {l i c:Nat} {e:Ty} {tid:TypeId} {xs:List (List e.den)} {x:List e.den} {u:Value} (hl:Av H l=some (.Hf (.slice e) tid xs)) (hx:xs[i]?=some x) (hc:c=0)
  (hu:Ia X w π H (.sub l i c) u): ∃r,Ip r e.size 0 x.length u/\(e.flat=true-> ∀D,Tl w D r e x)/\(∀te,Oh w r e te x)/\yh w π l i e tid xs u r:=by
 subst hc
 obtain ⟨q,b0,sz0,n0,h1,qb,h2,h3,⟨h4,a,n,m,rfl⟩,h5⟩:=hu
 rw [hl] at h1;cases h1
 simp only [OB.gz,Aa,Ae] at qb
 obtain ⟨rfl,rfl⟩:=qb
 have hb:=(h.heap l).Rz hl
 simp only [Cg,Oh,h2] at hb
 obtain ⟨k1,cur,ti,k2,k3,k4,k5,Fs,t1,t2,t3,t4⟩:=hb
 have hi:i<Fs.length:=by have:=(An.1 hx).1;omega
 have hFi:Fs[i]?=some Fs[i]:=Ac hi
 obtain ⟨es,e1,e2,e3⟩:=t4 i x _ hx hFi
 have e1':es.length=1:=e1
 obtain ⟨v,rfl⟩:=Dz.1 e1'
 have hv:v= .slice a n m:=by
  have:=e2 0 v rfl
  rw [cellOf k2] at h5
  rw [this] at h5;exact Az h5
 subst hv
 have hn2:=(Ce.1 t2).2
 have ny: ∀b∈Fs[i],b∈List.flatten Fs:= λb hb=>Hz.2 ⟨_,Al hi,hb⟩
 have hnF:(Fs[i]).Nodup:=hn2.sublist (by
  have:=gK (List.singleton_sublist.2 (Al hi))
  simpa using this)
 obtain ⟨r,r1,r2,r3,r4,r5⟩:=Db.row e3 hnF
 refine ⟨r,r1,r2,r3,q,h2,λr' hr b hb=>?_,λw' ys hs hk ⟨F',f1,f2,f3⟩=>?_⟩
 ·have hb:=(r4 r' hr b).1 hb
  exact ⟨t3 b (ny b hb),λe=>(Ce.1 t2).1 (e▸ny b hb)⟩
 ·have hF': ∀b∈F',b∈Fs[i]:= λb hb=>by
   obtain ⟨r',g1,g2⟩:=f3 b hb
   exact (r4 r' g1 b).1 g2
  have OX:=cO Fs i _ F' hn2 hFi f2 hF'
  have hkg:w'.heap[q.g]?=w.heap[q.g]?:=hk q.g (Gk k2) k1 λr' hr hb=>(Ce.1 t2).1 (ny _ ((r4 r' hr _).1 hb))
  refine ⟨k1,cur,ti,hkg.trans k2,k3,k4,by simpa using k5,Fs.set i F',by simp [t1],Ce.2 ⟨λhm=>(Ce.1 t2).1 (OX.2 _ hm),OX.1⟩,λb hb=>t3 b (OX.2 b hb),λj y F hy hF=>?_⟩
  rw [Eg] at hy hF
  split at hy
  ·rename_i jT;subst jT
   rw [Ab rfl] at hF
   rw [Ab hi] at hF
   simp only [Aa] at hF
   have hy:ys=y:=by simpa [h3] using hy
   subst hy;subst hF
   exact ⟨[.slice a n m],rfl,e2,f1⟩
  ·rename_i jT
   rw [Ai jT] at hF
   obtain ⟨mX,g1,g2,g3⟩:=t4 j y F hy hF
   refine ⟨mX,g1,g2,g3.Ft _ _ _ _ hs λb hb=>?_⟩
   have XQ:b∈List.flatten Fs:=Hz.2 ⟨F,Cd hF,hb⟩
   exact hk b (g3.lt _ _ _ _ b hb) (t3 b XQ) λr' hr vo=>jT (kM Fs i j _ F b hn2 hFi hF ((r4 r' hr b).1 vo) hb)
def Ud (w:World) (π:Pi) (H:List (Nat×OB)) (io:Bool) (a:AC) (u:Value) (r:Option Real):(c:CK)->c.den->Prop
 | .Eh _,_=>r=none
 | .row e te,x=>match a with
  | .Mo=>r=none
  | .own l off len=>r=(π l).map full/\off=0/\len=List.length x/\ ∃fr tr,Av H l=some (.arr fr tr e te x)
  | .sub l i _=>(io=true/\e.flat=true)/\ ∃tid xs,Av H l=some (.Hf (.slice e) tid xs)/\xs[i]?=some x/\yh w π l i e tid xs u r
  |_=>False
 | .Ij e te,x=>match a with
  | .Mo=>r=none
  | .own l off len=>r=(π l).map full/\off=0/\len=List.length x/\Av H l=some (.Hf e te x)
  | .sub l i _=>io=true/\ ∃tid xs,Av H l=some (.Hf (.slice e) tid xs)/\xs[i]?=some x/\yh w π l i e tid xs u r
  |_=>False
 | .part e te,x=>e.flat=true/\match a with
  | .own l _ _=>r=(π l).map full/\io=true/\ ∃fr tr,Av H l=some (.arr fr tr e te x.1)
  |_=>False
 | .Bn e te _,x=>io=false/\match a with
  | .own l off len=>r=(π l).map full/\off=0/\len=List.length x/\ ∃kp,Av H l=some (.Bn e te x none kp)
  |_=>False
theorem a5 {r:Option Real} {s off len:Nat} {v:Value} (h:Ip r s off len v):Ip (r.map full) s off len v:=by
 cases r<;>exact h
def Pb (X:Ctx) (π:Pi) (V:List Nat) (b:Nat):Prop:=(Wa π b/\ ∀l∈V,∀r,π l=some r-> ¬r.Cq b)\/X.Sc b
theorem Pb.not {V:List Nat} {b l:Nat} (hb:Pb X π V b) (h:Nj X w π H) (hl:l∈V) {r:Real} (hr:π l=some r) (hf:r.Cq b):False:=by
 rcases hb with hb|hb
 ·exact hb.2 l hl r hr hf
 ·have h1:=h.sc b hb
  rcases (h.own ⟨l,r,hr,hf⟩).2 with h2|h2
  ·omega
  ·exact h1.2 h2
theorem Pb.ik {V:List Nat} {b:Nat} {B:Nat} {fr:Bool} (hb:Pb X π V b):Cx B X.Sc π fr b:=hb.elim (λh=> .inl h.1) λh=> .inr (.inl h)
theorem NJ {st:St} {ls:List Nat} (h:ck st ls=true) {l:Nat} (hl:l∈ls) {tid:TypeId} {vs:List AC} (hv:Av st.heap l=some (.var tid vs)):vs.all (·.settled)=true:=by
 have:=Bb.1 h l hl
 unfold St.at at this
 rw [hv] at this
 exact this
theorem Cells.but {V:List Nat} {f:Bool} {τ:Ty} {cs:List Value} {x:τ.den} (h:Cells w (Cx X.w0.heap.size X.Sc π f) τ cs x):Cells w (Pb X π V) τ cs x:=
 Cells.Ft (Ap _) (λ_ _ _=>rfl) (λ_ _ hk=>hk.ik) τ cs x h
theorem jH {st:St} (h:Nj X w π st.heap) {V:List Nat} {a:Ty} {l i:Nat} {fr:Bool} {x:a.den} (bM:ck st [l]=true) (hlV:l∈V) (hv:Uv st a l i=some (fr,x)) {r:Real} (hr:π l=some r):
  r.g<w.heap.size/\ ¬Pb X π V r.g/\ ∃es:List Value,es.length=a.size/\(∀j u,es[j]?=some u->w.cell? ⟨r.g,i+j,none⟩=some u)/\Cells w (Pb X π V) a es x:=by
 unfold Uv at hv
 split at hv
 ·rename_i tid vs hl
  unfold St.at at hl
  obtain ⟨r',h3,h4,cur,h5,h6⟩:=(h.heap l).Rz hl
  rw [hr] at h3;cases h3
  have hs:=NJ bM (Ad.2 rfl) hl
  have DU:((vs.drop i).take a.size).all (·.settled)=true:=Bb.2 λc hc=>Bb.1 hs c (dJ (Ey hc))
  have hc:=Xd a _ _ fr x DU (a6 h6 i a.size) hv
  refine ⟨Gk h5,λhb=>hb.not h hlV hr h4,_,Cells.len a _ x hc,λj u hu=>?_,hc.but⟩
  rw [cellOf h5]
  rw [Cs] at hu
  split at hu
  ·rw [Da] at hu;simpa using hu
  ·cases hu
 ·cases hv
theorem HG {st:St} {l:Nat} {ls:List Nat} (h:ck st (l::ls)=true):ck st [l]=true/\ck st ls=true:=by
 simp only [ck,Jg,List.all_nil,Bool.and_true,Ag] at h⊢
 exact h
theorem AS {st:St} (h:Nj X w π st.heap) {V:List Nat} : ∀(τ:Ty) (Ec:List (Nat×Nat)) (us:List Value) (fr:Bool) (x:τ.den),us.length=Ec.length->
  (∀(j:Nat) p,Ec[j]?=some p-> ∃r tid vs,Av st.heap p.1=some (.var tid vs)/\π p.1=some r/\us[j]?=some (.pointer (some ⟨r.g,p.2,none⟩)))->
  ck st (Ec.map (·.1))=true->(∀p∈Ec,p.1∈V)->Lq st τ Ec=some (fr,x)->Cells w (Pb X π V) τ us x:=by
 intro τ
 induction τ with
 |unit=>
  intro Ec us fr x hl hr _ _ hv
  cases Ec with
  |nil=>exact Ch hl
  |cons c cs=>simp [Lq] at hv
 |pair a r _ gT=>
  intro Ec us fr x hl hr bM hV hv
  cases a with
  |ptr a=>
   cases Ec with
   |nil=>simp [Lq] at hv
   |cons c cs=>
    obtain ⟨l,i⟩:=c
    simp only [Lq] at hv
    split at hv
    ·rename_i f1 y f2 z h1 h2
     simp only [Aa,Ae] at hv
     obtain ⟨rfl,rfl⟩:=hv
     cases us with
     |nil=>simp at hl
     |cons u us=>
      obtain ⟨r0,tid,vs,h3,h4,h5⟩:=hr 0 (l,i) rfl
      simp only [Bq,Aa] at h5
      subst h5
      obtain ⟨ok1,ok2⟩:=HG bM
      obtain ⟨h6,h7,es,h8,h9,qb⟩:=jH h ok1 (hV _ (Fm ..)) h1 h4
      exact ⟨[_],us,rfl,⟨r0.g,i,rfl,h6,h7,es,h8,h9,qb⟩,gT cs us f2 z (by simpa using hl) (λj p hp=>hr (j+1) p hp) ok2 (λp hp=>hV p (Ao _ hp)) h2⟩
    ·cases hv
  |_=>cases Ec<;>simp [Lq] at hv
 |_=>intro Ec us fr x hl hr _ _ hv;cases Ec<;>simp [Lq] at hv
theorem UW {st:St} (h:Nj X w π st.heap) {V:List Nat} {io:Bool} {k:Nat} {c:CK} {a:AC} {u:Value} (hu:Ia X w π st.heap a u) {x:c.den} {tks:List (Nat×Loc)} (he:Mr st io k c a=some (x,tks))
  (hV: ∀t∈tks,t.2.reads=true->t.2.Xg∈V): ∃r,eP w (Pb X π V) r u c x/\Ud w π st.heap io a u r c x:=by
 cases c with
 |Eh τ=>
  have own: ∀l off len,a= .own l off len-> ∃r,eP w (Pb X π V) r u (.Eh τ) x/\Ud w π st.heap io a u r (.Eh τ) x:=by
   intro l off len ea
   subst ea
   simp only [Mr] at he
   cases hv:Dn st τ (.own l off len) with
   |none=>rw [hv] at he;cases he
   |some p=>
    obtain ⟨fr,y⟩:=p
    rw [hv] at he
    simp only [Ak,Aa,Ae] at he
    obtain ⟨rfl,rfl⟩:=he
    have hlV:l∈V:=hV _ (Ad.2 rfl) rfl
    refine ⟨none,⟨rfl,?_⟩,rfl⟩
    cases τ<;>simp only [Dn] at hv<;>try (cases hv;done)
    rename_i e
    cases hl:st.at l with
    |none=>rw [hl] at hv;cases hv
    |some b=>
     rw [hl] at hv
     unfold St.at at hl
     cases b<;>(try simp only [] at hv)<;>try (cases hv;done)
     ·rename_i vn BK e0 tid xs
      split at hv
      ·rename_i XV;subst XV
       simp only [Aa,Ae] at hv
       obtain ⟨_,rfl⟩:=hv
       obtain ⟨h1,h2⟩:=Oy hu hl
       exact ⟨[u],pt h hl h1 h2 (λb hb ⟨r,hr,hf⟩=>hb.not h hlV hr hf) (λb _ hb=>hb.ik),rfl⟩
      ·cases hv
     ·rename_i e0 tid xs
      split at hv
      ·rename_i XV;subst XV
       simp only [Aa,Ae] at hv
       obtain ⟨_,rfl⟩:=hv
       obtain ⟨h1,h2⟩:=c5 hu hl
       exact ⟨[u],mE h hl h1 h2 (λb hb ⟨r,hr,hf⟩=>hb.not h hlV hr hf),rfl⟩
      ·cases hv
     ·rename_i e0 te0 rows out kp
      cases out with
      |some i=>cases hv
      |none=>
       simp only [] at hv
       split at hv
       ·rename_i XV;subst XV
        simp only [Aa,Ae] at hv
        obtain ⟨_,rfl⟩:=hv
        obtain ⟨h1,h2⟩:=nV hu hl
        exact ⟨[u],sT h hl h1 h2 (λb hb ⟨r,hr,hf⟩=>hb.not h hlV hr hf) (λb hb=>hb.ik),rfl⟩
       ·cases hv
  have Ar3: ∀g Ec,a= .clo g Ec-> ∃r,eP w (Pb X π V) r u (.Eh τ) x/\Ud w π st.heap io a u r (.Eh τ) x:=by
   intro g Ec ea
   subst ea
   simp only [Mr] at he
   split at he
   ·rename_i hc
    simp only [Ag,Er] at hc
    obtain ⟨bM,Ug⟩:=hc
    cases hv:Ko st τ (.clo g Ec) with
    |none=>rw [hv] at he;cases he
    |some p=>
     obtain ⟨fr,y⟩:=p
     rw [hv] at he
     simp only [Ak,Aa,Ae] at he
     obtain ⟨rfl,rfl⟩:=he
     have hcV: ∀p∈Ec,p.1∈V:= λp hp=>hV (Dv false k, .view p.1) (Bj.2 ⟨p.1,Bj.2 ⟨p,hp,rfl⟩,rfl⟩) rfl
     obtain ⟨us,rfl,h2,h3⟩:=hu
     refine ⟨none,⟨rfl,Ct.nL Ug ?_⟩,rfl⟩
     cases τ<;>simp only [Ko] at hv<;>try (simp only [Dn,reduceCtorEq] at hv;done)
     rename_i f0 c0
     split at hv
     ·rename_i hg
      obtain ⟨rfl,Lr⟩:=hg
      exact ⟨us,by rw [ix Lr],AS h c0 Ec us fr y h2 h3 bM hcV hv⟩
     ·cases hv
   ·cases he
  have hvp: ∀l i,a= .Hs l i-> ∃r,eP w (Pb X π V) r u (.Eh τ) x/\Ud w π st.heap io a u r (.Eh τ) x:=by
   intro l i ea
   subst ea
   simp only [Mr] at he
   split at he
   ·rename_i hc
    simp only [Ag,Er] at hc
    obtain ⟨bM,Ug⟩:=hc
    cases hv:Ko st τ (.Hs l i) with
    |none=>rw [hv] at he;cases he
    |some p=>
     obtain ⟨fr,y⟩:=p
     rw [hv] at he
     simp only [Ak,Aa,Ae] at he
     obtain ⟨rfl,rfl⟩:=he
     have hlV:l∈V:=hV (Dv false k, .view l) (Bj.2 ⟨l,Ad.2 rfl,rfl⟩) rfl
     obtain ⟨r,tid,vs,h1,h2,rfl⟩:=hu
     refine ⟨none,⟨rfl,Ct.nL Ug ?_⟩,rfl⟩
     cases τ<;>simp only [Ko] at hv<;>try (simp only [Dn,reduceCtorEq] at hv;done)
     ·obtain ⟨h6,h7,h8⟩:=jH h bM hlV hv h2
      exact ⟨r.g,i,rfl,h6,h7,h8⟩
     ·rename_i a
      cases hp:Uv st a l i with
      |none=>rw [hp] at hv;cases hv
      |some p=>
       rw [hp] at hv
       simp only [Ak,Aa,Ae] at hv
       obtain ⟨_,rfl⟩:=hv
       obtain ⟨h6,h7,h8⟩:=jH h bM hlV hp h2
       exact .inr ⟨_,r.g,i,rfl,rfl,h6,h7,h8⟩
   ·cases he
  have Yf: ∀l i c,a= .sub l i c-> ∃r,eP w (Pb X π V) r u (.Eh τ) x/\Ud w π st.heap io a u r (.Eh τ) x:=by
   intro l i c ea
   subst ea
   simp only [Mr] at he
   cases hv:Dn st τ (.sub l i c) with
   |none=>rw [hv] at he;cases he
   |some p=>
    obtain ⟨fr,y⟩:=p
    rw [hv] at he
    simp only [Ak,Aa,Ae] at he
    obtain ⟨rfl,rfl⟩:=he
    have hlV:l∈V:=hV _ (Ad.2 rfl) rfl
    refine ⟨none,⟨rfl,?_⟩,rfl⟩
    cases τ<;>simp only [Dn] at hv<;>try (cases hv;done)
    rename_i e
    cases hl:st.at l with
    |none=>rw [hl] at hv;cases hv
    |some b=>
     rw [hl] at hv
     unfold St.at at hl
     cases b<;>(try simp only [] at hv)<;>try (cases hv;done)
     rename_i e0 te0 rows out kp
     cases out with
     |some i=>cases hv
     |none=>
      simp only [] at hv
      split at hv
      ·rename_i XV;subst XV
       simp only [Aa,Ae] at hv
       obtain ⟨_,rfl⟩:=hv
       exact ⟨[u],sU h hl (DK hu hl) hu (λb hb ⟨r,hr,hf⟩=>hb.not h hlV hr hf) (λb hb=>hb.ik),rfl⟩
      ·cases hv
  by_cases PJ: ∃l i c,a= .sub l i c
  ·obtain ⟨l,i,c,ea⟩:=PJ;exact Yf l i c ea
  by_cases Afe: ∃g Ec,a= .clo g Ec
  ·obtain ⟨g,Ec,ea⟩:=Afe;exact Ar3 g Ec ea
  by_cases Amm: ∃l i,a= .Hs l i
  ·obtain ⟨l,i,ea⟩:=Amm;exact hvp l i ea
  by_cases eg: ∃l off len,a= .own l off len
  ·obtain ⟨l,off,len,ea⟩:=eg;exact own l off len ea
  have he:(if τ.flat||a.settled then (Dn st τ a).map λp=>(p.2,([]:List (Nat×Loc))) else none)=some (x,tks):=by
   cases a<;>first|exact he|exact absurd ⟨_,_,_,rfl⟩ eg|exact absurd ⟨_,_,rfl⟩ Afe|exact absurd ⟨_,_,rfl⟩ Amm|exact absurd ⟨_,_,_,rfl⟩ PJ
  split at he
  ·rename_i hc
   cases hv:Dn st τ a with
   |none=>rw [hv] at he;cases he
   |some p=>
    obtain ⟨fr,y⟩:=p
    rw [hv] at he
    simp only [Ak,Aa,Ae] at he
    obtain ⟨rfl,rfl⟩:=he
    refine ⟨none,⟨rfl,?_⟩,rfl⟩
    have Jr: ∀f,Ct w (Cx X.w0.heap.size X.Sc π f) τ u y->Ct w (Pb X π V) τ u y:= λf hr=>hr.Jr λk _ hk=>hk.ik
    cases a with
    |data f Ov z=>
     rw [Of] at hv
     split at hv
     ·rename_i ht;subst ht
      simp only [Aa,Ae] at hv
      obtain ⟨_,rfl⟩:=hv
      exact Jr f hu
     ·have Pj:τ.Aq=false:=by unfold iA at hv;split at hv<;>first|rfl|cases hv
      exact Jr _ ⟨[u],di hv hu,by simp [By,Pj]⟩
    |Mo=>
     have hu:u= .slice none 0 0:=hu
     subst hu
     cases τ<;>simp only [Dn,Aa,Ae,reduceCtorEq] at hv
     ·obtain ⟨_,rfl⟩:=hv;exact ⟨[_],⟨none,0,0,rfl,rfl,Ap _, .inl rfl⟩,rfl⟩
     ·obtain ⟨_,rfl⟩:=hv;exact ⟨[_], .inl ⟨rfl,0,rfl⟩,rfl⟩
    |Vw=>
     have hu:u= .pointer none:=hu
     subst hu
     cases τ<;>simp only [Dn,Aa,Ae,reduceCtorEq] at hv
     obtain ⟨_,rfl⟩:=hv;exact ⟨[_], .inl ⟨rfl,rfl⟩,rfl⟩
    |_=>cases τ<;>simp [AC.settled,Ty.flat,Dn] at hc hv
  ·cases he
 |row e te=>
  cases a<;>simp only [Mr] at he<;>try (cases he;done)
  ·simp only [Aa,Ae] at he
   obtain ⟨rfl,rfl⟩:=he
   have hu:u= .slice none 0 0:=hu
   exact ⟨none,⟨⟨hu,rfl,rfl⟩,rfl⟩,rfl⟩
  ·rename_i l off len
   split at he
   ·rename_i fr tr e' Ru xs hl
    split at he
    ·rename_i hc
     obtain ⟨rfl,rfl,rfl,rfl⟩:=hc
     simp only [Aa,Ae] at he
     obtain ⟨rfl,rfl⟩:=he
     unfold St.at at hl
     obtain ⟨_,h2⟩:=Oy hu hl
     refine ⟨(π l).map full,⟨a5 h2,?_⟩,rfl,rfl,rfl,fr,tr,hl⟩
     have hb:=(h.heap l).Rz hl
     simp only [Cg,Ks] at hb
     cases hp:π l with
     |none=>rw [hp] at hb;exact hb
     |some q=>
      rw [hp] at hb
      obtain ⟨k1,cur,ti,k2,k3,k4,k5,k6,_⟩:=hb
      refine ⟨⟨k1.1,k1.2.1⟩,cur,ti,k2,k3,k4,k5,λi y hy=>?_⟩
      obtain ⟨es,g1,g2,g3⟩:=k6 i y hy
      exact ⟨es,g1,g2,Cells.Ft (Ap _) (λ_ _ _=>rfl) (λ_ _ hk=>hk.ik) e' es y g3⟩
    ·cases he
   ·cases he
  ·rename_i l i c
   split at he
   ·rename_i e' tid xs hl
    split at he
    ·rename_i hc
     obtain ⟨rfl,hf,yN,kq⟩:=hc
     cases hx:xs[i]? with
     |none=>rw [hx] at he;cases he
     |some y=>
      rw [hx] at he
      simp only [Ak,Aa,Ae] at he
      obtain ⟨rfl,rfl⟩:=he
      unfold St.at at hl
      obtain ⟨r,r1,r2,_,r4⟩:=GU h hl hx kq hu
      exact ⟨r,⟨r1,r2 hf _⟩,⟨yN,hf⟩,tid,xs,hl,hx,r4⟩
    ·cases he
   ·cases he
 |Ij e te=>
  cases a<;>simp only [Mr] at he<;>try (cases he;done)
  ·simp only [Aa,Ae] at he
   obtain ⟨rfl,rfl⟩:=he
   have hu:u= .slice none 0 0:=hu
   exact ⟨none,⟨⟨hu,rfl,rfl⟩,rfl⟩,rfl⟩
  ·rename_i l off len
   split at he
   ·rename_i e' Ru xs hl
    split at he
    ·rename_i hc
     obtain ⟨rfl,rfl,rfl,rfl⟩:=hc
     simp only [Aa,Ae] at he
     obtain ⟨rfl,rfl⟩:=he
     unfold St.at at hl
     obtain ⟨_,h2⟩:=c5 hu hl
     refine ⟨(π l).map full,⟨a5 h2,?_⟩,rfl,rfl,rfl,hl⟩
     have hb:=(h.heap l).Rz hl
     simp only [Cg] at hb
     cases hp:π l with
     |none=>rw [hp] at hb;exact hb
     |some q=>rw [hp] at hb;exact hb
    ·cases he
   ·cases he
  ·rename_i l i c
   split at he
   ·rename_i e' tid xs hl
    split at he
    ·rename_i hc
     obtain ⟨rfl,yN,kq⟩:=hc
     cases hx:xs[i]? with
     |none=>rw [hx] at he;cases he
     |some y=>
      rw [hx] at he
      simp only [Ak,Aa,Ae] at he
      obtain ⟨rfl,rfl⟩:=he
      unfold St.at at hl
      obtain ⟨r,r1,_,r3,r4⟩:=GU h hl hx kq hu
      exact ⟨r,⟨r1,r3 te⟩,yN,tid,xs,hl,hx,r4⟩
    ·cases he
   ·cases he
 |part e te=>
  cases a<;>simp only [Mr] at he<;>try (cases he;done)
  rename_i l off len
  split at he
  ·rename_i fr tr e' Ru xs hl
   split at he
   ·rename_i hc
    obtain ⟨rfl,rfl,hf,yN⟩:=hc
    simp only [Aa,Ae] at he
    obtain ⟨rfl,rfl⟩:=he
    unfold St.at at hl
    obtain ⟨h1,h2⟩:=Oy hu hl
    refine ⟨(π l).map full,⟨⟨a5 h2,h1⟩,hf,?_⟩,hf,rfl,yN,fr,tr,hl⟩
    have hb:=(h.heap l).Rz hl
    simp only [Cg,Ks] at hb
    cases hp:π l with
    |none=>rw [hp] at hb;exact hb
    |some q=>
     rw [hp] at hb
     obtain ⟨k1,cur,ti,k2,k3,k4,k5,k6,_⟩:=hb
     refine ⟨⟨k1.1,k1.2.1⟩,cur,ti,k2,k3,k4,k5,λi y hy=>?_⟩
     obtain ⟨es,g1,g2,g3⟩:=k6 i y hy
     exact ⟨es,g1,g2,Cells.flat e' es y hf g3⟩
   ·cases he
  ·cases he
 |Bn e te kp=>
  cases a<;>simp only [Mr] at he<;>try (cases he;done)
  rename_i l off len
  split at he
  ·rename_i e' Ru rows kp' hl
   split at he
   ·rename_i hc
    obtain ⟨rfl,rfl,rfl,rfl,yN⟩:=hc
    simp only [Aa,Ae] at he
    obtain ⟨rfl,rfl⟩:=he
    unfold St.at at hl
    obtain ⟨h1,h2⟩:=nV hu hl
    refine ⟨(π l).map full,⟨a5 h2,?_⟩,yN,rfl,rfl,rfl,kp',hl⟩
    have hb:=(h.heap l).Rz hl
    simp only [Cg] at hb
    have hb:=hb.1
    have hg:aB w (Cx X.w0.heap.size X.Sc π false) ((π l).map full) e' rows none:=by
     cases hp:π l with
     |none=>rw [hp] at hb;exact hb
     |some q=>rw [hp] at hb;exact hb
    exact hg.Ft (λ_ _ _ _ _=>rfl) λes x hc=>hc.but
   ·cases he
  ·cases he
end
end Go.Proofs.YtkkdpknjohcekaaGreat
