/-
  Part 15 of the proof that the statement FnTables holds.
-/
import Derived.Test.YtkkdpknjohcekaaCFTables13
namespace Go.Proofs.Ytkkdpknjohcekaa
open Go.RowKit
section
variable {P:Program} {T:Tab} {X:Ctx} {w w':World} {π π':Pi} {H H':List (Nat×OB)}
def full (r:Real):Real:= {r with cl:=r.Ci}
theorem Cn.qe: ∀(τ:Ty) (F:List Nat) (es:List Value) (x:τ.den),τ.flat=true->Cn w F τ es x->F= []
 | .int k,F,es,x,_,h=>h.1
 | .bool,F,es,x,_,h=>h.1
 | .str,F,es,x,_,h=>h.1
 | .unit,F,es,x,_,h=>h.1
 | .pair a r,F,es,x,hf,h=>by
  simp only [Ty.flat,Ag] at hf
  simp only [Cn] at h
  obtain ⟨c1,c2,F1,F2,_,rfl,h1,h2⟩:=h
  rw [Cn.qe a F1 c1 x.1 hf.1 h1,Cn.qe r F2 c2 x.2 hf.2 h2]
  rfl
 | .slice _,_,_,_,hf,_=>by simp [Ty.flat] at hf
 | .oslice _,_,_,_,hf,_=>by simp [Ty.flat] at hf
 | .ptr _,_,_,_,hf,_=>by simp [Ty.flat] at hf
 | .optr _,_,_,_,hf,_=>by simp [Ty.flat] at hf
 | .smap _,_,_,_,hf,_=>by simp [Ty.flat] at hf
 | .clo _ _,_,_,_,hf,_=>by simp [Ty.flat] at hf
theorem l7 {S P:Nat->Prop} {g o:Nat} {cur:Array Value} {e:Ty} {xs:List e.den} (hf:e.flat=true)
  (h: ∀(i:Nat) (x:e.den),xs[i]?=some x-> ∃es:List Value,es.length=e.size/\(∀j u,es[j]?=some u->cur[(o+i)*e.size+j]?=some u)/\Cells w S e es x):Vs w P g o cur e xs:=by
 refine ⟨List.replicate xs.length [],by simp,by simp,by simp,λi x F hx hF=>?_⟩
 obtain ⟨es,e1,e2,e3⟩:=h i x hx
 have:F= []:=Fa (Bx hF)
 subst this
 exact ⟨es,e1,e2,Wd e es x hf e3⟩
theorem Rl.FR {D:Nat->Prop} {r:Option Real} {e:Ty} {ys:List e.den} {u:Value} (h:Rl w D r e ys) (hf:e.flat=true) (hv:He r e.size 0 ys.length u):
  ∃F,Cn w F (.slice e) [u] ys/\F.Nodup/\ ∀b∈F,∃r',r=some r'/\r'.Ci b:=by
 cases r with
 |none=>
  obtain ⟨rfl,_,_⟩:=hv
  have h:ys= []:=h
  subst h
  exact ⟨[],⟨none,0,0,rfl,rfl,Ar _, .inl ⟨rfl,rfl,rfl,rfl⟩⟩,Kw,λb hb=>by cases hb⟩
 |some r=>
  obtain ⟨h1,cur,ti,h2,h3,h4,h5,h6⟩:=h
  obtain ⟨F,f1,f2,f3⟩:=iG (P:=r.Ci) h2 h3 h4 (by omega) hv (l7 hf h6) h1.1
  exact ⟨F,by simpa using f1,f2,λb hb=>⟨r,rfl,f3 b hb⟩⟩
theorem Na.FR {r:Option Real} {e:Ty} {te:TypeId} {ys:List e.den} {u:Value} (h:Na w r e te ys) (hv:He r e.size 0 ys.length u):
  ∃F,Cn w F (.slice e) [u] ys/\F.Nodup/\ ∀b∈F,∃r',r=some r'/\r'.Ci b:=by
 cases r with
 |none=>
  obtain ⟨rfl,_,_⟩:=hv
  have h:ys= []:=h
  subst h
  exact ⟨[],⟨none,0,0,rfl,rfl,Ar _, .inl ⟨rfl,rfl,rfl,rfl⟩⟩,Kw,λb hb=>by cases hb⟩
 |some r=>
  obtain ⟨h1,cur,ti,h2,h3,h4,h5,h6⟩:=h
  obtain ⟨F,f1,f2,f3⟩:=iG (P:=r.Ci) h2 h3 h4 (by omega) hv h6 h1
  exact ⟨F,by simpa using f1,f2,λb hb=>⟨r,rfl,f3 b hb⟩⟩
theorem Cn.row {F:List Nat} {e:Ty} {u:Value} {xs:List e.den} (h:Cn w F (.slice e) [u] xs) (hn:F.Nodup):
  ∃r:Option Real,He r e.size 0 xs.length u/\(e.flat=true-> ∀D,Rl w D r e xs)/\(∀te,Na w r e te xs)/\(∀r',r=some r'-> ∀b,r'.Ci b↔b∈F)/\(r=none->F= []):=by
 simp only [Cn] at h
 obtain ⟨a,len,cap,e0,e1,e2,h⟩:=h
 simp only [Gi,eZ] at e0
 subst e0
 rcases h with ⟨rfl,rfl,rfl,rfl⟩|⟨ad,g,o,Fs,rfl,ha,⟨cur,ti,o',s1,s2,s3,s4⟩,rfl,hl,Kt⟩
 ·exact ⟨none,⟨by rw [e1];rfl,rfl,rfl⟩,λ_ _=>rfl,λ_=>rfl,(λr' h=>by cases h),λ_=>rfl⟩
 ·subst s2
  have j8: ∀(i:Nat) (x:e.den) (Fi:List Nat),xs[i]?=some x->Fs[i]?=some Fi-> ∃es:List Value,es.length=e.size/\(∀j u,es[j]?=some u->cur[(o'+i)*e.size+j]?=some u)/\Cn w Fi e es x:=by
   intro i x Fi hx hF
   obtain ⟨es,k1,k2,k3⟩:=Kt i x Fi hx hF
   refine ⟨es,k1,λj v hv=>?_,k3⟩
   have:=k2 j v hv
   rw [cellOf s1] at this
   rw [Cx];exact this
  refine ⟨some ⟨g,o',cap,(· ∈g::List.flatten Fs),(· ∈g::List.flatten Fs)⟩,⟨ad,by rw [e1];rfl,by dsimp only;omega,λh0=>by rw [ha h0];rfl⟩,λhf D=>⟨⟨by simp,λb hb=>?_⟩,cur,ti,s1,s3,s4,by rw [<-e1];exact e2,λi x hx=>?_⟩,
   fun te=>⟨by simp,cur,ti,s1,s3,s4,by rw [<-e1];exact e2,Fs,hl,hn,λb hb=>by simp [hb],j8⟩,λr' hr b=>by cases hr;exact Iff.rfl,λh=>by cases h⟩
  ·rcases Bb.1 hb with hb|hb
   ·exact hb
   ·obtain ⟨Fi,h1,h2⟩:=Gw.1 hb
    obtain ⟨i,hi,rfl⟩:=Ja h1
    obtain ⟨es,_,_,k3⟩:=j8 i (xs[i]'(by omega)) _ (Ac _) (Ac hi)
    rw [Cn.qe e _ _ _ hf k3] at h2
    cases h2
  ·have hi:i<Fs.length:=by have:=(Aj.1 hx).1;omega
   obtain ⟨es,k1,k2,k3⟩:=j8 i x _ hx (Ac hi)
   exact ⟨es,k1,k2,Cells.flat e es x hf (Cn.cells (S:= λ_=>False) _ e es x k3 λb hb=> λh=>h)⟩
theorem bj: ∀(Fs:List (List Nat)) (i:Nat) (Fi F':List Nat),(List.flatten Fs).Nodup->Fs[i]?=some Fi->F'.Nodup->(∀b∈F',b∈Fi)->(List.flatten (Fs.set i F')).Nodup/\ ∀b∈List.flatten (Fs.set i F'),b∈List.flatten Fs
 | [],i,Fi,F',_,h,_,_=>by simp at h
 |G::Fs,0,Fi,F',hn,h,pd,hs=>by
  simp only [Bn,Aa] at h;subst h
  simp only [List.set_cons_zero,Km] at hn⊢
  obtain ⟨n1,n2,n3⟩:=Dg.1 hn
  refine ⟨Dg.2 ⟨pd,n2,λa ha b hb=>n3 a (hs a ha) b hb⟩,λb hb=>?_⟩
  rcases Aw.1 hb with hb|hb
  ·exact Bk _ (hs b hb)
  ·exact Bu _ hb
 |G::Fs,i+1,Fi,F',hn,h,pd,hs=>by
  simp only [Ln] at h
  simp only [List.set_cons_succ,Km] at hn⊢
  obtain ⟨n1,n2,n3⟩:=Dg.1 hn
  obtain ⟨m1,m2⟩:=bj Fs i Fi F' n2 h pd hs
  refine ⟨Dg.2 ⟨n1,m1,λa ha b hb=>n3 a ha b (m2 b hb)⟩,λb hb=>?_⟩
  rcases Aw.1 hb with hb|hb
  ·exact Bk _ hb
  ·exact Bu _ (m2 b hb)
theorem iZ: ∀(Fs:List (List Nat)) (i j:Nat) (Fi Fj:List Nat) (b:Nat),(List.flatten Fs).Nodup->Fs[i]?=some Fi->Fs[j]?=some Fj->b∈Fi->b∈Fj->i=j
 | [],i,j,Fi,Fj,b,_,h,_,_,_=>by simp at h
 |G::Fs,0,0,_,_,_,_,_,_,_,_=>rfl
 |G::Fs,0,j+1,Fi,Fj,b,hn,h1,h2,h3,h4=>by
  simp only [Bn,Aa,Ln] at h1 h2
  subst h1
  simp only [Km] at hn
  exact absurd rfl ((Dg.1 hn).2.2 b h3 b (Gw.2 ⟨Fj,Bx h2,h4⟩))
 |G::Fs,i+1,0,Fi,Fj,b,hn,h1,h2,h3,h4=>by
  simp only [Bn,Aa,Ln] at h1 h2
  subst h2
  simp only [Km] at hn
  exact absurd rfl ((Dg.1 hn).2.2 b h4 b (Gw.2 ⟨Fi,Bx h1,h3⟩))
 |G::Fs,i+1,j+1,Fi,Fj,b,hn,h1,h2,h3,h4=>by
  simp only [Ln] at h1 h2
  simp only [Km] at hn
  rw [iZ Fs i j Fi Fj b (Dg.1 hn).2.1 h1 h2 h3 h4]
def vv (w:World) (π:Pi) (l i:Nat) (e:Ty) (tid:TypeId) (xs:List (List e.den)) (u:Value) (r:Option Real):Prop:=
 ∃q,π l=some q/\(∀r',r=some r'-> ∀b,r'.Ci b->q.Ci b/\b≠q.g)/\
  ∀(w':World) (ys:List e.den),w.heap.size<=w'.heap.size->(∀b,b<w.heap.size->q.Ci b->(∀r',r=some r'-> ¬r'.Ci b)->w'.heap[b]?=w.heap[b]?)->
   (∃F',Cn w' F' (.slice e) [u] ys/\F'.Nodup/\ ∀b∈F',∃r',r=some r'/\r'.Ci b)->Na w' (some q) (.slice e) tid (xs.set i ys)
theorem AH (h:Mh X w π H) {l i c:Nat} {e:Ty} {tid:TypeId} {xs:List (List e.den)} {x:List e.den} {u:Value} (hl:Aq H l=some (.Gl (.slice e) tid xs)) (hx:xs[i]?=some x) (hc:c=0)
  (hu:Gx X w π H (.sub l i c) u): ∃r,He r e.size 0 x.length u/\(e.flat=true-> ∀D,Rl w D r e x)/\(∀te,Na w r e te x)/\vv w π l i e tid xs u r:=by
 subst hc
 obtain ⟨q,b0,sz0,n0,h1,p9,h2,h3,⟨h4,a,n,m,rfl⟩,h5⟩:=hu
 rw [hl] at h1;cases h1
 simp only [OB.eu,Aa,Ae] at p9
 obtain ⟨rfl,rfl⟩:=p9
 have hb:=(h.heap l).Qi hl
 simp only [Bw,Na,h2] at hb
 obtain ⟨k1,cur,ti,k2,k3,k4,k5,Fs,t1,t2,t3,t4⟩:=hb
 have hi:i<Fs.length:=by have:=(Aj.1 hx).1;omega
 have hFi:Fs[i]?=some Fs[i]:=Ac hi
 obtain ⟨es,e1,e2,e3⟩:=t4 i x _ hx hFi
 have e1':es.length=1:=e1
 obtain ⟨v,rfl⟩:=Dv.1 e1'
 have hv:v= .slice a n m:=by
  have:=e2 0 v rfl
  rw [cellOf k2] at h5
  rw [this] at h5;exact Ba h5
 subst hv
 have hn2:=(Ca.1 t2).2
 have fS: ∀b∈Fs[i],b∈List.flatten Fs:= λb hb=>Gw.2 ⟨_,Ak hi,hb⟩
 have hnF:(Fs[i]).Nodup:=hn2.sublist (by
  have:=eJ (List.singleton_sublist.2 (Ak hi))
  simpa using this)
 obtain ⟨r,r1,r2,r3,r4,r5⟩:=Cn.row e3 hnF
 refine ⟨r,r1,r2,r3,q,h2,λr' hr b hb=>?_,λw' ys hs hk ⟨F',f1,f2,f3⟩=>?_⟩
 ·have hb:=(r4 r' hr b).1 hb
  exact ⟨t3 b (fS b hb),λe=>(Ca.1 t2).1 (e▸fS b hb)⟩
 ·have hF': ∀b∈F',b∈Fs[i]:= λb hb=>by
   obtain ⟨r',g1,g2⟩:=f3 b hb
   exact (r4 r' g1 b).1 g2
  have hgs:=bj Fs i _ F' hn2 hFi f2 hF'
  have hkg:w'.heap[q.g]?=w.heap[q.g]?:=hk q.g (Ft k2) k1 λr' hr hb=>(Ca.1 t2).1 (fS _ ((r4 r' hr _).1 hb))
  refine ⟨k1,cur,ti,hkg.trans k2,k3,k4,by simpa using k5,Fs.set i F',by simp [t1],Ca.2 ⟨λhm=>(Ca.1 t2).1 (hgs.2 _ hm),hgs.1⟩,λb hb=>t3 b (hgs.2 b hb),λj y F hy hF=>?_⟩
  rw [Dp] at hy hF
  split at hy
  ·rename_i il;subst il
   rw [Ab rfl] at hF
   rw [Ab hi] at hF
   simp only [Aa] at hF
   have hy:ys=y:=by simpa [h3] using hy
   subst hy;subst hF
   exact ⟨[.slice a n m],rfl,e2,f1⟩
  ·rename_i il
   rw [Al il] at hF
   obtain ⟨kT,g1,g2,g3⟩:=t4 j y F hy hF
   refine ⟨kT,g1,g2,g3.Gg _ _ _ _ hs λb hb=>?_⟩
   have hbf:b∈List.flatten Fs:=Gw.2 ⟨F,Bx hF,hb⟩
   exact hk b (g3.lt _ _ _ _ b hb) (t3 b hbf) λr' hr sk=>il (iZ Fs i j _ F b hn2 hFi hF ((r4 r' hr b).1 sk) hb)
def Sb (w:World) (π:Pi) (H:List (Nat×OB)) (io:Bool) (a:AC) (u:Value) (r:Option Real):(c:CK)->c.den->Prop
 | .Fp _,_=>r=none
 | .row e te,x=>match a with
  | .Le=>r=none
  | .own l off len=>r=(π l).map full/\off=0/\len=List.length x/\ ∃fr tr,Aq H l=some (.arr fr tr e te x)
  | .sub l i _=>(io=true/\e.flat=true)/\ ∃tid xs,Aq H l=some (.Gl (.slice e) tid xs)/\xs[i]?=some x/\vv w π l i e tid xs u r
  |_=>False
 | .Hb e te,x=>match a with
  | .Le=>r=none
  | .own l off len=>r=(π l).map full/\off=0/\len=List.length x/\Aq H l=some (.Gl e te x)
  | .sub l i _=>io=true/\ ∃tid xs,Aq H l=some (.Gl (.slice e) tid xs)/\xs[i]?=some x/\vv w π l i e tid xs u r
  |_=>False
 | .part e te,x=>e.flat=true/\match a with
  | .own l _ _=>r=(π l).map full/\io=true/\ ∃fr tr,Aq H l=some (.arr fr tr e te x.1)
  |_=>False
 | .Bm e te _,x=>io=false/\match a with
  | .own l off len=>r=(π l).map full/\off=0/\len=List.length x/\ ∃kp,Aq H l=some (.Bm e te x none kp)
  |_=>False
theorem Xt {r:Option Real} {s off len:Nat} {v:Value} (h:He r s off len v):He (r.map full) s off len v:=by
 cases r<;>exact h
def Nn (X:Ctx) (π:Pi) (V:List Nat) (b:Nat):Prop:=(Ue π b/\ ∀l∈V,∀r,π l=some r-> ¬r.Ci b)\/X.Sc b
theorem Nn.not {V:List Nat} {b l:Nat} (hb:Nn X π V b) (h:Mh X w π H) (hl:l∈V) {r:Real} (hr:π l=some r) (hf:r.Ci b):False:=by
 rcases hb with hb|hb
 ·exact hb.2 l hl r hr hf
 ·have h1:=h.sc b hb
  rcases (h.own ⟨l,r,hr,hf⟩).2 with h2|h2
  ·omega
  ·exact h1.2 h2
theorem Nn.fj {V:List Nat} {b:Nat} {B:Nat} {fr:Bool} (hb:Nn X π V b):Cp B X.Sc π fr b:=hb.elim (λh=> .inl h.1) λh=> .inr (.inl h)
theorem FX {st:St} {ls:List Nat} (h:aI st ls=true) {l:Nat} (hl:l∈ls) {tid:TypeId} {vs:List AC} (hv:Aq st.heap l=some (.var tid vs)):vs.all (·.settled)=true:=by
 have:=At.1 h l hl
 unfold St.at at this
 rw [hv] at this
 exact this
theorem Cells.but {V:List Nat} {f:Bool} {τ:Ty} {cs:List Value} {x:τ.den} (h:Cells w (Cp X.w0.heap.size X.Sc π f) τ cs x):Cells w (Nn X π V) τ cs x:=
 Cells.Gg (Ar _) (λ_ _ _=>rfl) (λ_ _ hk=>hk.fj) τ cs x h
theorem hJ {st:St} (h:Mh X w π st.heap) {V:List Nat} {a:Ty} {l i:Nat} {fr:Bool} {x:a.den} (df:aI st [l]=true) (UF:l∈V) (hv:Sx st a l i=some (fr,x)) {r:Real} (hr:π l=some r):
  r.g<w.heap.size/\ ¬Nn X π V r.g/\ ∃es:List Value,es.length=a.size/\(∀j u,es[j]?=some u->w.cell? ⟨r.g,i+j,none⟩=some u)/\Cells w (Nn X π V) a es x:=by
 unfold Sx at hv
 split at hv
 ·rename_i tid vs hl
  unfold St.at at hl
  obtain ⟨r',h3,h4,cur,h5,h6⟩:=(h.heap l).Qi hl
  rw [hr] at h3;cases h3
  have hs:=FX df (Ad.2 rfl) hl
  have KA:((vs.drop i).take a.size).all (·.settled)=true:=At.2 λc hc=>At.1 hs c (Uc (Ic hc))
  have hc:=Vj a _ _ fr x KA (Xu h6 i a.size) hv
  refine ⟨Ft h5,λhb=>hb.not h UF hr h4,_,Cells.len a _ x hc,λj u hu=>?_,hc.but⟩
  rw [cellOf h5]
  rw [Ck] at hu
  split at hu
  ·rw [Ct] at hu;simpa using hu
  ·cases hu
 ·cases hv
theorem AT {st:St} {l:Nat} {ls:List Nat} (h:aI st (l::ls)=true):aI st [l]=true/\aI st ls=true:=by
 simp only [aI,Iw,List.all_nil,Bool.and_true,Ag] at h⊢
 exact h
theorem xG {st:St} (h:Mh X w π st.heap) {V:List Nat} : ∀(τ:Ty) (Dy:List (Nat×Nat)) (us:List Value) (fr:Bool) (x:τ.den),us.length=Dy.length->
  (∀(j:Nat) p,Dy[j]?=some p-> ∃r tid vs,Aq st.heap p.1=some (.var tid vs)/\π p.1=some r/\us[j]?=some (.pointer (some ⟨r.g,p.2,none⟩)))->
  aI st (Dy.map (·.1))=true->(∀p∈Dy,p.1∈V)->Kk st τ Dy=some (fr,x)->Cells w (Nn X π V) τ us x:=by
 intro τ
 induction τ with
 |unit=>
  intro Dy us fr x hl hr _ _ hv
  cases Dy with
  |nil=>exact De hl
  |cons c cs=>simp [Kk] at hv
 |pair a r _ eV=>
  intro Dy us fr x hl hr df hV hv
  cases a with
  |ptr a=>
   cases Dy with
   |nil=>simp [Kk] at hv
   |cons c cs=>
    obtain ⟨l,i⟩:=c
    simp only [Kk] at hv
    split at hv
    ·rename_i f1 y f2 z h1 h2
     simp only [Aa,Ae] at hv
     obtain ⟨rfl,rfl⟩:=hv
     cases us with
     |nil=>simp at hl
     |cons u us=>
      obtain ⟨r0,tid,vs,h3,h4,h5⟩:=hr 0 (l,i) rfl
      simp only [Bn,Aa] at h5
      subst h5
      obtain ⟨ok1,ok2⟩:=AT df
      obtain ⟨h6,h7,es,h8,h9,p9⟩:=hJ h ok1 (hV _ (Lf ..)) h1 h4
      exact ⟨[_],us,rfl,⟨r0.g,i,rfl,h6,h7,es,h8,h9,p9⟩,eV cs us f2 z (by simpa using hl) (λj p hp=>hr (j+1) p hp) ok2 (λp hp=>hV p (An _ hp)) h2⟩
    ·cases hv
  |_=>cases Dy<;>simp [Kk] at hv
 |_=>intro Dy us fr x hl hr _ _ hv;cases Dy<;>simp [Kk] at hv
theorem ML {st:St} (h:Mh X w π st.heap) {V:List Nat} {io:Bool} {k:Nat} {c:CK} {a:AC} {u:Value} (hu:Gx X w π st.heap a u) {x:c.den} {tks:List (Nat×Loc)} (he:Lj st io k c a=some (x,tks))
  (hV: ∀t∈tks,t.2.reads=true->t.2.Vm∈V): ∃r,cP w (Nn X π V) r u c x/\Sb w π st.heap io a u r c x:=by
 cases c with
 |Fp τ=>
  have own: ∀l off len,a= .own l off len-> ∃r,cP w (Nn X π V) r u (.Fp τ) x/\Sb w π st.heap io a u r (.Fp τ) x:=by
   intro l off len ea
   subst ea
   simp only [Lj] at he
   cases hv:Dj st τ (.own l off len) with
   |none=>rw [hv] at he;cases he
   |some p=>
    obtain ⟨fr,y⟩:=p
    rw [hv] at he
    simp only [Ai,Aa,Ae] at he
    obtain ⟨rfl,rfl⟩:=he
    have UF:l∈V:=hV _ (Ad.2 rfl) rfl
    refine ⟨none,⟨rfl,?_⟩,rfl⟩
    cases τ<;>simp only [Dj] at hv<;>try (cases hv;done)
    rename_i e
    cases hl:st.at l with
    |none=>rw [hl] at hv;cases hv
    |some b=>
     rw [hl] at hv
     unfold St.at at hl
     cases b<;>(try simp only [] at hv)<;>try (cases hv;done)
     ·rename_i sv AQ e0 tid xs
      split at hv
      ·rename_i PB;subst PB
       simp only [Aa,Ae] at hv
       obtain ⟨_,rfl⟩:=hv
       obtain ⟨h1,h2⟩:=Nl hu hl
       exact ⟨[u],mK h hl h1 h2 (λb hb ⟨r,hr,hf⟩=>hb.not h UF hr hf) (λb _ hb=>hb.fj),rfl⟩
      ·cases hv
     ·rename_i e0 tid xs
      split at hv
      ·rename_i PB;subst PB
       simp only [Aa,Ae] at hv
       obtain ⟨_,rfl⟩:=hv
       obtain ⟨h1,h2⟩:=aC hu hl
       exact ⟨[u],kB h hl h1 h2 (λb hb ⟨r,hr,hf⟩=>hb.not h UF hr hf),rfl⟩
      ·cases hv
     ·rename_i e0 te0 rows out kp
      cases out with
      |some i=>cases hv
      |none=>
       simp only [] at hv
       split at hv
       ·rename_i PB;subst PB
        simp only [Aa,Ae] at hv
        obtain ⟨_,rfl⟩:=hv
        obtain ⟨h1,h2⟩:=lJ hu hl
        exact ⟨[u],qi h hl h1 h2 (λb hb ⟨r,hr,hf⟩=>hb.not h UF hr hf) (λb hb=>hb.fj),rfl⟩
       ·cases hv
  have Aif: ∀g Dy,a= .clo g Dy-> ∃r,cP w (Nn X π V) r u (.Fp τ) x/\Sb w π st.heap io a u r (.Fp τ) x:=by
   intro g Dy ea
   subst ea
   simp only [Lj] at he
   split at he
   ·rename_i hc
    simp only [Ag,Dn] at hc
    obtain ⟨df,Sf⟩:=hc
    cases hv:Jf st τ (.clo g Dy) with
    |none=>rw [hv] at he;cases he
    |some p=>
     obtain ⟨fr,y⟩:=p
     rw [hv] at he
     simp only [Ai,Aa,Ae] at he
     obtain ⟨rfl,rfl⟩:=he
     have hcV: ∀p∈Dy,p.1∈V:= λp hp=>hV (Ds false k, .view p.1) (Bo.2 ⟨p.1,Bo.2 ⟨p,hp,rfl⟩,rfl⟩) rfl
     obtain ⟨us,rfl,h2,h3⟩:=hu
     refine ⟨none,⟨rfl,Df.lA Sf ?_⟩,rfl⟩
     cases τ<;>simp only [Jf] at hv<;>try (simp only [Dj,reduceCtorEq] at hv;done)
     rename_i f0 c0
     split at hv
     ·rename_i hg
      obtain ⟨rfl,Js⟩:=hg
      exact ⟨us,by rw [fy Js],xG h c0 Dy us fr y h2 h3 df hcV hv⟩
     ·cases hv
   ·cases he
  have hvp: ∀l i,a= .Gs l i-> ∃r,cP w (Nn X π V) r u (.Fp τ) x/\Sb w π st.heap io a u r (.Fp τ) x:=by
   intro l i ea
   subst ea
   simp only [Lj] at he
   split at he
   ·rename_i hc
    simp only [Ag,Dn] at hc
    obtain ⟨df,Sf⟩:=hc
    cases hv:Jf st τ (.Gs l i) with
    |none=>rw [hv] at he;cases he
    |some p=>
     obtain ⟨fr,y⟩:=p
     rw [hv] at he
     simp only [Ai,Aa,Ae] at he
     obtain ⟨rfl,rfl⟩:=he
     have UF:l∈V:=hV (Ds false k, .view l) (Bo.2 ⟨l,Ad.2 rfl,rfl⟩) rfl
     obtain ⟨r,tid,vs,h1,h2,rfl⟩:=hu
     refine ⟨none,⟨rfl,Df.lA Sf ?_⟩,rfl⟩
     cases τ<;>simp only [Jf] at hv<;>try (simp only [Dj,reduceCtorEq] at hv;done)
     ·obtain ⟨h6,h7,h8⟩:=hJ h df UF hv h2
      exact ⟨r.g,i,rfl,h6,h7,h8⟩
     ·rename_i a
      cases hp:Sx st a l i with
      |none=>rw [hp] at hv;cases hv
      |some p=>
       rw [hp] at hv
       simp only [Ai,Aa,Ae] at hv
       obtain ⟨_,rfl⟩:=hv
       obtain ⟨h6,h7,h8⟩:=hJ h df UF hp h2
       exact .inr ⟨_,r.g,i,rfl,rfl,h6,h7,h8⟩
   ·cases he
  have fX: ∀l i c,a= .sub l i c-> ∃r,cP w (Nn X π V) r u (.Fp τ) x/\Sb w π st.heap io a u r (.Fp τ) x:=by
   intro l i c ea
   subst ea
   simp only [Lj] at he
   cases hv:Dj st τ (.sub l i c) with
   |none=>rw [hv] at he;cases he
   |some p=>
    obtain ⟨fr,y⟩:=p
    rw [hv] at he
    simp only [Ai,Aa,Ae] at he
    obtain ⟨rfl,rfl⟩:=he
    have UF:l∈V:=hV _ (Ad.2 rfl) rfl
    refine ⟨none,⟨rfl,?_⟩,rfl⟩
    cases τ<;>simp only [Dj] at hv<;>try (cases hv;done)
    rename_i e
    cases hl:st.at l with
    |none=>rw [hl] at hv;cases hv
    |some b=>
     rw [hl] at hv
     unfold St.at at hl
     cases b<;>(try simp only [] at hv)<;>try (cases hv;done)
     rename_i e0 te0 rows out kp
     cases out with
     |some i=>cases hv
     |none=>
      simp only [] at hv
      split at hv
      ·rename_i PB;subst PB
       simp only [Aa,Ae] at hv
       obtain ⟨_,rfl⟩:=hv
       exact ⟨[u],qj h hl (yO hu hl) hu (λb hb ⟨r,hr,hf⟩=>hb.not h UF hr hf) (λb hb=>hb.fj),rfl⟩
      ·cases hv
  by_cases YG: ∃l i c,a= .sub l i c
  ·obtain ⟨l,i,c,ea⟩:=YG;exact fX l i c ea
  by_cases XO: ∃g Dy,a= .clo g Dy
  ·obtain ⟨g,Dy,ea⟩:=XO;exact Aif g Dy ea
  by_cases Ae9: ∃l i,a= .Gs l i
  ·obtain ⟨l,i,ea⟩:=Ae9;exact hvp l i ea
  by_cases bI: ∃l off len,a= .own l off len
  ·obtain ⟨l,off,len,ea⟩:=bI;exact own l off len ea
  have he:(if τ.flat||a.settled then (Dj st τ a).map λp=>(p.2,([]:List (Nat×Loc))) else none)=some (x,tks):=by
   cases a<;>first|exact he|exact absurd ⟨_,_,_,rfl⟩ bI|exact absurd ⟨_,_,rfl⟩ XO|exact absurd ⟨_,_,rfl⟩ Ae9|exact absurd ⟨_,_,_,rfl⟩ YG
  split at he
  ·rename_i hc
   cases hv:Dj st τ a with
   |none=>rw [hv] at he;cases he
   |some p=>
    obtain ⟨fr,y⟩:=p
    rw [hv] at he
    simp only [Ai,Aa,Ae] at he
    obtain ⟨rfl,rfl⟩:=he
    refine ⟨none,⟨rfl,?_⟩,rfl⟩
    have Io: ∀f,Df w (Cp X.w0.heap.size X.Sc π f) τ u y->Df w (Nn X π V) τ u y:= λf hr=>hr.Io λk _ hk=>hk.fj
    cases a with
    |data f Nh z=>
     rw [Mx] at hv
     split at hv
     ·rename_i ht;subst ht
      simp only [Aa,Ae] at hv
      obtain ⟨_,rfl⟩:=hv
      exact Io f hu
     ·have Yo:τ.Am=false:=by unfold fD at hv;split at hv<;>first|rfl|cases hv
      exact Io _ ⟨[u],bF hv hu,by simp [Bs,Yo]⟩
    |Le=>
     have hu:u= .slice none 0 0:=hu
     subst hu
     cases τ<;>simp only [Dj,Aa,Ae,reduceCtorEq] at hv
     ·obtain ⟨_,rfl⟩:=hv;exact ⟨[_],⟨none,0,0,rfl,rfl,Ar _, .inl rfl⟩,rfl⟩
     ·obtain ⟨_,rfl⟩:=hv;exact ⟨[_], .inl ⟨rfl,0,rfl⟩,rfl⟩
    |Ua=>
     have hu:u= .pointer none:=hu
     subst hu
     cases τ<;>simp only [Dj,Aa,Ae,reduceCtorEq] at hv
     obtain ⟨_,rfl⟩:=hv;exact ⟨[_], .inl ⟨rfl,rfl⟩,rfl⟩
    |_=>cases τ<;>simp [AC.settled,Ty.flat,Dj] at hc hv
  ·cases he
 |row e te=>
  cases a<;>simp only [Lj] at he<;>try (cases he;done)
  ·simp only [Aa,Ae] at he
   obtain ⟨rfl,rfl⟩:=he
   have hu:u= .slice none 0 0:=hu
   exact ⟨none,⟨⟨hu,rfl,rfl⟩,rfl⟩,rfl⟩
  ·rename_i l off len
   split at he
   ·rename_i fr tr e' Qg xs hl
    split at he
    ·rename_i hc
     obtain ⟨rfl,rfl,rfl,rfl⟩:=hc
     simp only [Aa,Ae] at he
     obtain ⟨rfl,rfl⟩:=he
     unfold St.at at hl
     obtain ⟨_,h2⟩:=Nl hu hl
     refine ⟨(π l).map full,⟨Xt h2,?_⟩,rfl,rfl,rfl,fr,tr,hl⟩
     have hb:=(h.heap l).Qi hl
     simp only [Bw,Jj] at hb
     cases hp:π l with
     |none=>rw [hp] at hb;exact hb
     |some q=>
      rw [hp] at hb
      obtain ⟨k1,cur,ti,k2,k3,k4,k5,k6,_⟩:=hb
      refine ⟨⟨k1.1,k1.2.1⟩,cur,ti,k2,k3,k4,k5,λi y hy=>?_⟩
      obtain ⟨es,g1,g2,g3⟩:=k6 i y hy
      exact ⟨es,g1,g2,Cells.Gg (Ar _) (λ_ _ _=>rfl) (λ_ _ hk=>hk.fj) e' es y g3⟩
    ·cases he
   ·cases he
  ·rename_i l i c
   split at he
   ·rename_i e' tid xs hl
    split at he
    ·rename_i hc
     obtain ⟨rfl,hf,w5,kD⟩:=hc
     cases hx:xs[i]? with
     |none=>rw [hx] at he;cases he
     |some y=>
      rw [hx] at he
      simp only [Ai,Aa,Ae] at he
      obtain ⟨rfl,rfl⟩:=he
      unfold St.at at hl
      obtain ⟨r,r1,r2,_,r4⟩:=AH h hl hx kD hu
      exact ⟨r,⟨r1,r2 hf _⟩,⟨w5,hf⟩,tid,xs,hl,hx,r4⟩
    ·cases he
   ·cases he
 |Hb e te=>
  cases a<;>simp only [Lj] at he<;>try (cases he;done)
  ·simp only [Aa,Ae] at he
   obtain ⟨rfl,rfl⟩:=he
   have hu:u= .slice none 0 0:=hu
   exact ⟨none,⟨⟨hu,rfl,rfl⟩,rfl⟩,rfl⟩
  ·rename_i l off len
   split at he
   ·rename_i e' Qg xs hl
    split at he
    ·rename_i hc
     obtain ⟨rfl,rfl,rfl,rfl⟩:=hc
     simp only [Aa,Ae] at he
     obtain ⟨rfl,rfl⟩:=he
     unfold St.at at hl
     obtain ⟨_,h2⟩:=aC hu hl
     refine ⟨(π l).map full,⟨Xt h2,?_⟩,rfl,rfl,rfl,hl⟩
     have hb:=(h.heap l).Qi hl
     simp only [Bw] at hb
     cases hp:π l with
     |none=>rw [hp] at hb;exact hb
     |some q=>rw [hp] at hb;exact hb
    ·cases he
   ·cases he
  ·rename_i l i c
   split at he
   ·rename_i e' tid xs hl
    split at he
    ·rename_i hc
     obtain ⟨rfl,w5,kD⟩:=hc
     cases hx:xs[i]? with
     |none=>rw [hx] at he;cases he
     |some y=>
      rw [hx] at he
      simp only [Ai,Aa,Ae] at he
      obtain ⟨rfl,rfl⟩:=he
      unfold St.at at hl
      obtain ⟨r,r1,_,r3,r4⟩:=AH h hl hx kD hu
      exact ⟨r,⟨r1,r3 te⟩,w5,tid,xs,hl,hx,r4⟩
    ·cases he
   ·cases he
 |part e te=>
  cases a<;>simp only [Lj] at he<;>try (cases he;done)
  rename_i l off len
  split at he
  ·rename_i fr tr e' Qg xs hl
   split at he
   ·rename_i hc
    obtain ⟨rfl,rfl,hf,w5⟩:=hc
    simp only [Aa,Ae] at he
    obtain ⟨rfl,rfl⟩:=he
    unfold St.at at hl
    obtain ⟨h1,h2⟩:=Nl hu hl
    refine ⟨(π l).map full,⟨⟨Xt h2,h1⟩,hf,?_⟩,hf,rfl,w5,fr,tr,hl⟩
    have hb:=(h.heap l).Qi hl
    simp only [Bw,Jj] at hb
    cases hp:π l with
    |none=>rw [hp] at hb;exact hb
    |some q=>
     rw [hp] at hb
     obtain ⟨k1,cur,ti,k2,k3,k4,k5,k6,_⟩:=hb
     refine ⟨⟨k1.1,k1.2.1⟩,cur,ti,k2,k3,k4,k5,λi y hy=>?_⟩
     obtain ⟨es,g1,g2,g3⟩:=k6 i y hy
     exact ⟨es,g1,g2,Cells.flat e' es y hf g3⟩
   ·cases he
  ·cases he
 |Bm e te kp=>
  cases a<;>simp only [Lj] at he<;>try (cases he;done)
  rename_i l off len
  split at he
  ·rename_i e' Qg rows kp' hl
   split at he
   ·rename_i hc
    obtain ⟨rfl,rfl,rfl,rfl,w5⟩:=hc
    simp only [Aa,Ae] at he
    obtain ⟨rfl,rfl⟩:=he
    unfold St.at at hl
    obtain ⟨h1,h2⟩:=lJ hu hl
    refine ⟨(π l).map full,⟨Xt h2,?_⟩,w5,rfl,rfl,rfl,kp',hl⟩
    have hb:=(h.heap l).Qi hl
    simp only [Bw] at hb
    have hb:=hb.1
    have hg:Ym w (Cp X.w0.heap.size X.Sc π false) ((π l).map full) e' rows none:=by
     cases hp:π l with
     |none=>rw [hp] at hb;exact hb
     |some q=>rw [hp] at hb;exact hb
    exact hg.Gg (λ_ _ _ _ _=>rfl) λes x hc=>hc.but
   ·cases he
  ·cases he
end
end Go.Proofs.Ytkkdpknjohcekaa
