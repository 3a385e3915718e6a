/-
  Part 15 of the proof that the statement FnCommutatorMacros holds.
-/
import Derived.Test.YtfgfigkbgecfnaaCFCommutatorMacros13
namespace Go.Proofs.Ytfgfigkbgecfnaa
open Go.RowKit
section
variable {P:Program} {T:Tab} {X:Ctx} {w w':World} {π π':Pi} {H H':List (Nat×OB)}
def full (r:Real):Real:= {r with cl:=r.Bu}
theorem Bz.lZ: ∀(τ:Ty) (F:List Nat) (es:List Value) (x:τ.den),τ.flat=true->Bz w F τ es x->F= []
 | .int k,F,es,x,_,h=>h.1
 | .bool,F,es,x,_,h=>h.1
 | .str,F,es,x,_,h=>h.1
 | .unit,F,es,x,_,h=>h.1
 | .pair a r,F,es,x,hf,h=>by
  simp only [Ty.flat,Ag] at hf
  simp only [Bz] at h
  obtain ⟨c1,c2,F1,F2,_,rfl,h1,h2⟩:=h
  rw [Bz.lZ a F1 c1 x.1 hf.1 h1,Bz.lZ r F2 c2 x.2 hf.2 h2]
  rfl
 | .slice _,_,_,_,hf,_=>by simp [Ty.flat] at hf
 | .oslice _,_,_,_,hf,_=>by simp [Ty.flat] at hf
 | .ptr _,_,_,_,hf,_=>by simp [Ty.flat] at hf
 | .optr _,_,_,_,hf,_=>by simp [Ty.flat] at hf
 | .smap _,_,_,_,hf,_=>by simp [Ty.flat] at hf
 | .clo _ _,_,_,_,hf,_=>by simp [Ty.flat] at hf
theorem gX {S P:Nat->Prop} {g o:Nat} {cur:Array Value} {e:Ty} {xs:List e.den} (hf:e.flat=true)
  (h: ∀(i:Nat) (x:e.den),xs[i]?=some x-> ∃es:List Value,es.length=e.size/\(∀j u,es[j]?=some u->cur[(o+i)*e.size+j]?=some u)/\Cells w S e es x):Sh w P g o cur e xs:=by
 refine ⟨List.replicate xs.length [],by simp,by simp,by simp,λi x F hx hF=>?_⟩
 obtain ⟨es,e1,e2,e3⟩:=h i x hx
 have:F= []:=Dx (Bo hF)
 subst this
 exact ⟨es,e1,e2,Ss e es x hf e3⟩
theorem Oe.wW {D:Nat->Prop} {r:Option Real} {e:Ty} {ys:List e.den} {u:Value} (h:Oe w D r e ys) (hf:e.flat=true) (hv:Fm r e.size 0 ys.length u):
  ∃F,Bz w F (.slice e) [u] ys/\F.Nodup/\ ∀b∈F,∃r',r=some r'/\r'.Bu b:=by
 cases r with
 |none=>
  obtain ⟨rfl,_,_⟩:=hv
  have h:ys= []:=h
  subst h
  exact ⟨[],⟨none,0,0,rfl,rfl,Ao _, .inl ⟨rfl,rfl,rfl,rfl⟩⟩,Kh,λb hb=>by cases hb⟩
 |some r=>
  obtain ⟨h1,cur,ti,h2,h3,h4,h5,h6⟩:=h
  obtain ⟨F,f1,f2,f3⟩:=eE (P:=r.Bu) h2 h3 h4 (by omega) hv (gX hf h6) h1.1
  exact ⟨F,by simpa using f1,f2,λb hb=>⟨r,rfl,f3 b hb⟩⟩
theorem Kz.wW {r:Option Real} {e:Ty} {te:TypeId} {ys:List e.den} {u:Value} (h:Kz w r e te ys) (hv:Fm r e.size 0 ys.length u):
  ∃F,Bz w F (.slice e) [u] ys/\F.Nodup/\ ∀b∈F,∃r',r=some r'/\r'.Bu b:=by
 cases r with
 |none=>
  obtain ⟨rfl,_,_⟩:=hv
  have h:ys= []:=h
  subst h
  exact ⟨[],⟨none,0,0,rfl,rfl,Ao _, .inl ⟨rfl,rfl,rfl,rfl⟩⟩,Kh,λb hb=>by cases hb⟩
 |some r=>
  obtain ⟨h1,cur,ti,h2,h3,h4,h5,h6⟩:=h
  obtain ⟨F,f1,f2,f3⟩:=eE (P:=r.Bu) h2 h3 h4 (by omega) hv h6 h1
  exact ⟨F,by simpa using f1,f2,λb hb=>⟨r,rfl,f3 b hb⟩⟩
theorem Bz.row {F:List Nat} {e:Ty} {u:Value} {xs:List e.den} (h:Bz w F (.slice e) [u] xs) (hn:F.Nodup):
  ∃r:Option Real,Fm r e.size 0 xs.length u/\(e.flat=true-> ∀D,Oe w D r e xs)/\(∀te,Kz w r e te xs)/\(∀r',r=some r'-> ∀b,r'.Bu b↔b∈F)/\(r=none->F= []):=by
 simp only [Bz] at h
 obtain ⟨a,len,cap,e0,e1,e2,h⟩:=h
 simp only [Es,cA] at e0
 subst e0
 rcases h with ⟨rfl,rfl,rfl,rfl⟩|⟨ad,g,o,Fs,rfl,ha,⟨cur,ti,o',s1,s2,s3,s4⟩,rfl,hl,Ig⟩
 ·exact ⟨none,⟨by rw [e1];rfl,rfl,rfl⟩,λ_ _=>rfl,λ_=>rfl,(λr' h=>by cases h),λ_=>rfl⟩
 ·subst s2
  have eZ: ∀(i:Nat) (x:e.den) (Fi:List Nat),xs[i]?=some x->Fs[i]?=some Fi-> ∃es:List Value,es.length=e.size/\(∀j u,es[j]?=some u->cur[(o'+i)*e.size+j]?=some u)/\Bz w Fi e es x:=by
   intro i x Fi hx hF
   obtain ⟨es,k1,k2,k3⟩:=Ig i x Fi hx hF
   refine ⟨es,k1,λj v hv=>?_,k3⟩
   have:=k2 j v hv
   rw [cellOf s1] at this
   rw [Ch];exact this
  refine ⟨some ⟨g,o',cap,(· ∈g::List.flatten Fs),(· ∈g::List.flatten Fs)⟩,⟨ad,by rw [e1];rfl,by dsimp only;omega,λh0=>by rw [ha h0];rfl⟩,λhf D=>⟨⟨by simp,λb hb=>?_⟩,cur,ti,s1,s3,s4,by rw [<-e1];exact e2,λi x hx=>?_⟩,
   fun te=>⟨by simp,cur,ti,s1,s3,s4,by rw [<-e1];exact e2,Fs,hl,hn,λb hb=>by simp [hb],eZ⟩,λr' hr b=>by cases hr;exact Iff.rfl,λh=>by cases h⟩
  ·rcases Ay.1 hb with hb|hb
   ·exact hb
   ·obtain ⟨Fi,h1,h2⟩:=Fc.1 hb
    obtain ⟨i,hi,rfl⟩:=Ko h1
    obtain ⟨es,_,_,k3⟩:=eZ i (xs[i]'(by omega)) _ (Ac _) (Ac hi)
    rw [Bz.lZ e _ _ _ hf k3] at h2
    cases h2
  ·have hi:i<Fs.length:=by have:=(Ai.1 hx).1;omega
   obtain ⟨es,k1,k2,k3⟩:=eZ i x _ hx (Ac hi)
   exact ⟨es,k1,k2,Cells.flat e es x hf (Bz.cells (S:= λ_=>False) _ e es x k3 λb hb=> λh=>h)⟩
theorem Yn: ∀(Fs:List (List Nat)) (i:Nat) (Fi F':List Nat),(List.flatten Fs).Nodup->Fs[i]?=some Fi->F'.Nodup->(∀b∈F',b∈Fi)->(List.flatten (Fs.set i F')).Nodup/\ ∀b∈List.flatten (Fs.set i F'),b∈List.flatten Fs
 | [],i,Fi,F',_,h,_,_=>by simp at h
 |G::Fs,0,Fi,F',hn,h,lg,hs=>by
  simp only [Bd,Aa] at h;subst h
  simp only [List.set_cons_zero,Ik] at hn⊢
  obtain ⟨n1,n2,n3⟩:=Cz.1 hn
  refine ⟨Cz.2 ⟨lg,n2,λa ha b hb=>n3 a (hs a ha) b hb⟩,λb hb=>?_⟩
  rcases Av.1 hb with hb|hb
  ·exact Bg _ (hs b hb)
  ·exact Bp _ hb
 |G::Fs,i+1,Fi,F',hn,h,lg,hs=>by
  simp only [Jq] at h
  simp only [List.set_cons_succ,Ik] at hn⊢
  obtain ⟨n1,n2,n3⟩:=Cz.1 hn
  obtain ⟨m1,m2⟩:=Yn Fs i Fi F' n2 h lg hs
  refine ⟨Cz.2 ⟨n1,m1,λa ha b hb=>n3 a ha b (m2 b hb)⟩,λb hb=>?_⟩
  rcases Av.1 hb with hb|hb
  ·exact Bg _ hb
  ·exact Bp _ (m2 b hb)
theorem eV: ∀(Fs:List (List Nat)) (i j:Nat) (Fi Fj:List Nat) (b:Nat),(List.flatten Fs).Nodup->Fs[i]?=some Fi->Fs[j]?=some Fj->b∈Fi->b∈Fj->i=j
 | [],i,j,Fi,Fj,b,_,h,_,_,_=>by simp at h
 |G::Fs,0,0,_,_,_,_,_,_,_,_=>rfl
 |G::Fs,0,j+1,Fi,Fj,b,hn,h1,h2,h3,h4=>by
  simp only [Bd,Aa,Jq] at h1 h2
  subst h1
  simp only [Ik] at hn
  exact absurd rfl ((Cz.1 hn).2.2 b h3 b (Fc.2 ⟨Fj,Bo h2,h4⟩))
 |G::Fs,i+1,0,Fi,Fj,b,hn,h1,h2,h3,h4=>by
  simp only [Bd,Aa,Jq] at h1 h2
  subst h2
  simp only [Ik] at hn
  exact absurd rfl ((Cz.1 hn).2.2 b h4 b (Fc.2 ⟨Fi,Bo h1,h3⟩))
 |G::Fs,i+1,j+1,Fi,Fj,b,hn,h1,h2,h3,h4=>by
  simp only [Jq] at h1 h2
  simp only [Ik] at hn
  rw [eV Fs i j Fi Fj b (Cz.1 hn).2.1 h1 h2 h3 h4]
def q7 (w:World) (π:Pi) (l i:Nat) (e:Ty) (tid:TypeId) (xs:List (List e.den)) (u:Value) (r:Option Real):Prop:=
 ∃q,π l=some q/\(∀r',r=some r'-> ∀b,r'.Bu b->q.Bu b/\b≠q.g)/\
  ∀(w':World) (ys:List e.den),w.heap.size<=w'.heap.size->(∀b,b<w.heap.size->q.Bu b->(∀r',r=some r'-> ¬r'.Bu b)->w'.heap[b]?=w.heap[b]?)->
   (∃F',Bz w' F' (.slice e) [u] ys/\F'.Nodup/\ ∀b∈F',∃r',r=some r'/\r'.Bu b)->Kz w' (some q) (.slice e) tid (xs.set i ys)
theorem uy (h:Kc X w π H) {l i c:Nat} {e:Ty} {tid:TypeId} {xs:List (List e.den)} {x:List e.den} {u:Value} (hl:Ap H l=some (.Ev (.slice e) tid xs)) (hx:xs[i]?=some x) (hc:c=0)
  (hu:Fe X w π H (.sub l i c) u): ∃r,Fm r e.size 0 x.length u/\(e.flat=true-> ∀D,Oe w D r e x)/\(∀te,Kz w r e te x)/\q7 w π l i e tid xs u r:=by
 subst hc
 obtain ⟨q,b0,sz0,n0,h1,lb,h2,h3,⟨h4,a,n,m,rfl⟩,h5⟩:=hu
 rw [hl] at h1;cases h1
 simp only [OB.c6,Aa,Ab] at lb
 obtain ⟨rfl,rfl⟩:=lb
 have hb:=(h.heap l).Ns hl
 simp only [Bn,Kz,h2] at hb
 obtain ⟨k1,cur,ti,k2,k3,k4,k5,Fs,t1,t2,t3,t4⟩:=hb
 have hi:i<Fs.length:=by have:=(Ai.1 hx).1;omega
 have OO:Fs[i]?=some Fs[i]:=Ac hi
 obtain ⟨es,e1,e2,e3⟩:=t4 i x _ hx OO
 have e1':es.length=1:=e1
 obtain ⟨v,rfl⟩:=Cv.1 e1'
 have hv:v= .slice a n m:=by
  have:=e2 0 v rfl
  rw [cellOf k2] at h5
  rw [this] at h5;exact Aw h5
 subst hv
 have PU:=(Bw.1 t2).2
 have nS: ∀b∈Fs[i],b∈List.flatten Fs:= λb hb=>Fc.2 ⟨_,Ar hi,hb⟩
 have hnF:(Fs[i]).Nodup:=PU.sublist (by
  have:=ck (List.singleton_sublist.2 (Ar hi))
  simpa using this)
 obtain ⟨r,r1,r2,r3,r4,r5⟩:=Bz.row e3 hnF
 refine ⟨r,r1,r2,r3,q,h2,λr' hr b hb=>?_,λw' ys hs hk ⟨F',f1,f2,f3⟩=>?_⟩
 ·have hb:=(r4 r' hr b).1 hb
  exact ⟨t3 b (nS b hb),λe=>(Bw.1 t2).1 (e▸nS b hb)⟩
 ·have ON: ∀b∈F',b∈Fs[i]:= λb hb=>by
   obtain ⟨r',g1,g2⟩:=f3 b hb
   exact (r4 r' g1 b).1 g2
  have WA:=Yn Fs i _ F' PU OO f2 ON
  have TD:w'.heap[q.g]?=w.heap[q.g]?:=hk q.g (Ej k2) k1 λr' hr hb=>(Bw.1 t2).1 (nS _ ((r4 r' hr _).1 hb))
  refine ⟨k1,cur,ti,TD.trans k2,k3,k4,by simpa using k5,Fs.set i F',by simp [t1],Bw.2 ⟨λhm=>(Bw.1 t2).1 (WA.2 _ hm),WA.1⟩,λb hb=>t3 b (WA.2 b hb),λj y F hy hF=>?_⟩
  rw [Dg] at hy hF
  split at hy
  ·rename_i fW;subst fW
   rw [Af rfl] at hF
   rw [Af hi] at hF
   simp only [Aa] at hF
   have hy:ys=y:=by simpa [h3] using hy
   subst hy;subst hF
   exact ⟨[.slice a n m],rfl,e2,f1⟩
  ·rename_i fW
   rw [Aj fW] at hF
   obtain ⟨gN,g1,g2,g3⟩:=t4 j y F hy hF
   refine ⟨gN,g1,g2,g3.Ep _ _ _ _ hs λb hb=>?_⟩
   have SQ:b∈List.flatten Fs:=Fc.2 ⟨F,Bo hF,hb⟩
   exact hk b (g3.lt _ _ _ _ b hb) (t3 b SQ) λr' hr nF=>fW (eV Fs i j _ F b PU OO hF ((r4 r' hr b).1 nF) hb)
def Pl (w:World) (π:Pi) (H:List (Nat×OB)) (io:Bool) (a:AC) (u:Value) (r:Option Real):(c:CK)->c.den->Prop
 | .Ji _,_=>r=none
 | .row e te,x=>match a with
  | .Jf=>r=none
  | .own l off len=>r=(π l).map full/\off=0/\len=List.length x/\ ∃fr tr,Ap H l=some (.arr fr tr e te x)
  | .sub l i _=>(io=true/\e.flat=true)/\ ∃tid xs,Ap H l=some (.Ev (.slice e) tid xs)/\xs[i]?=some x/\q7 w π l i e tid xs u r
  |_=>False
 | .Fl e te,x=>match a with
  | .Jf=>r=none
  | .own l off len=>r=(π l).map full/\off=0/\len=List.length x/\Ap H l=some (.Ev e te x)
  | .sub l i _=>io=true/\ ∃tid xs,Ap H l=some (.Ev (.slice e) tid xs)/\xs[i]?=some x/\q7 w π l i e tid xs u r
  |_=>False
 | .part e te,x=>e.flat=true/\match a with
  | .own l _ _=>r=(π l).map full/\io=true/\ ∃fr tr,Ap H l=some (.arr fr tr e te x.1)
  |_=>False
 | .Bc e te _,x=>io=false/\match a with
  | .own l off len=>r=(π l).map full/\off=0/\len=List.length x/\ ∃kp,Ap H l=some (.Bc e te x none kp)
  |_=>False
theorem Ul {r:Option Real} {s off len:Nat} {v:Value} (h:Fm r s off len v):Fm (r.map full) s off len v:=by
 cases r<;>exact h
def Lm (X:Ctx) (π:Pi) (V:List Nat) (b:Nat):Prop:=(Qk π b/\ ∀l∈V,∀r,π l=some r-> ¬r.Bu b)\/X.Sc b
theorem Lm.not {V:List Nat} {b l:Nat} (hb:Lm X π V b) (h:Kc X w π H) (hl:l∈V) {r:Real} (hr:π l=some r) (hf:r.Bu b):False:=by
 rcases hb with hb|hb
 ·exact hb.2 l hl r hr hf
 ·have h1:=h.sc b hb
  rcases (h.own ⟨l,r,hr,hf⟩).2 with h2|h2
  ·omega
  ·exact h1.2 h2
theorem Lm.cL {V:List Nat} {b:Nat} {B:Nat} {fr:Bool} (hb:Lm X π V b):Cb B X.Sc π fr b:=hb.elim (λh=> .inl h.1) λh=> .inr (.inl h)
theorem x3 {st:St} {ls:List Nat} (h:Xn st ls=true) {l:Nat} (hl:l∈ls) {tid:TypeId} {vs:List AC} (hv:Ap st.heap l=some (.var tid vs)):vs.all (·.settled)=true:=by
 have:=Au.1 h l hl
 unfold St.at at this
 rw [hv] at this
 exact this
theorem Cells.YN {V:List Nat} {f:Bool} {τ:Ty} {cs:List Value} {x:τ.den} (h:Cells w (Cb X.w0.heap.size X.Sc π f) τ cs x):Cells w (Lm X π V) τ cs x:=
 Cells.Ep (Ao _) (λ_ _ _=>rfl) (λ_ _ hk=>hk.cL) τ cs x h
theorem ec {st:St} (h:Kc X w π st.heap) {V:List Nat} {a:Ty} {l i:Nat} {fr:Bool} {x:a.den} (kR:Xn st [l]=true) (FC:l∈V) (hv:Qc st a l i=some (fr,x)) {r:Real} (hr:π l=some r):
  r.g<w.heap.size/\ ¬Lm X π V r.g/\ ∃es:List Value,es.length=a.size/\(∀j u,es[j]?=some u->w.cell? ⟨r.g,i+j,none⟩=some u)/\Cells w (Lm X π V) a es x:=by
 unfold Qc at hv
 split at hv
 ·rename_i tid vs hl
  unfold St.at at hl
  obtain ⟨r',h3,h4,cur,h5,h6⟩:=(h.heap l).Ns hl
  rw [hr] at h3;cases h3
  have hs:=x3 kR (Ad.2 rfl) hl
  have JC:((vs.drop i).take a.size).all (·.settled)=true:=Au.2 λc hc=>Au.1 hs c (Zq (Hm hc))
  have hc:=Rz a _ _ fr x JC (Um h6 i a.size) hv
  refine ⟨Ej h5,λhb=>hb.not h FC hr h4,_,Cells.len a _ x hc,λj u hu=>?_,hc.YN⟩
  rw [cellOf h5]
  rw [By] at hu
  split at hu
  ·rw [Ce] at hu;simpa using hu
  ·cases hu
 ·cases hv
theorem uK {st:St} {l:Nat} {ls:List Nat} (h:Xn st (l::ls)=true):Xn st [l]=true/\Xn st ls=true:=by
 simp only [Xn,Gu,List.all_nil,Bool.and_true,Ag] at h⊢
 exact h
theorem s9 {st:St} (h:Kc X w π st.heap) {V:List Nat} : ∀(τ:Ty) (Cx:List (Nat×Nat)) (us:List Value) (fr:Bool) (x:τ.den),us.length=Cx.length->
  (∀(j:Nat) p,Cx[j]?=some p-> ∃r tid vs,Ap st.heap p.1=some (.var tid vs)/\π p.1=some r/\us[j]?=some (.pointer (some ⟨r.g,p.2,none⟩)))->
  Xn st (Cx.map (·.1))=true->(∀p∈Cx,p.1∈V)->Ij st τ Cx=some (fr,x)->Cells w (Lm X π V) τ us x:=by
 intro τ
 induction τ with
 |unit=>
  intro Cx us fr x hl hr _ _ hv
  cases Cx with
  |nil=>exact Cj hl
  |cons c cs=>simp [Ij] at hv
 |pair a r _ cw=>
  intro Cx us fr x hl hr kR hV hv
  cases a with
  |ptr a=>
   cases Cx with
   |nil=>simp [Ij] at hv
   |cons c cs=>
    obtain ⟨l,i⟩:=c
    simp only [Ij] at hv
    split at hv
    ·rename_i f1 y f2 z h1 h2
     simp only [Aa,Ab] at hv
     obtain ⟨rfl,rfl⟩:=hv
     cases us with
     |nil=>simp at hl
     |cons u us=>
      obtain ⟨r0,tid,vs,h3,h4,h5⟩:=hr 0 (l,i) rfl
      simp only [Bd,Aa] at h5
      subst h5
      obtain ⟨ok1,ok2⟩:=uK kR
      obtain ⟨h6,h7,es,h8,h9,lb⟩:=ec h ok1 (hV _ (Jh ..)) h1 h4
      exact ⟨[_],us,rfl,⟨r0.g,i,rfl,h6,h7,es,h8,h9,lb⟩,cw cs us f2 z (by simpa using hl) (λj p hp=>hr (j+1) p hp) ok2 (λp hp=>hV p (Aq _ hp)) h2⟩
    ·cases hv
  |_=>cases Cx<;>simp [Ij] at hv
 |_=>intro Cx us fr x hl hr _ _ hv;cases Cx<;>simp [Ij] at hv
theorem zx {st:St} (h:Kc X w π st.heap) {V:List Nat} {io:Bool} {k:Nat} {c:CK} {a:AC} {u:Value} (hu:Fe X w π st.heap a u) {x:c.den} {tks:List (Nat×Loc)} (he:Jm st io k c a=some (x,tks))
  (hV: ∀t∈tks,t.2.reads=true->t.2.Sa∈V): ∃r,aI w (Lm X π V) r u c x/\Pl w π st.heap io a u r c x:=by
 cases c with
 |Ji τ=>
  have own: ∀l off len,a= .own l off len-> ∃r,aI w (Lm X π V) r u (.Ji τ) x/\Pl w π st.heap io a u r (.Ji τ) x:=by
   intro l off len ea
   subst ea
   simp only [Jm] at he
   cases hv:Cn st τ (.own l off len) with
   |none=>rw [hv] at he;cases he
   |some p=>
    obtain ⟨fr,y⟩:=p
    rw [hv] at he
    simp only [Ah,Aa,Ab] at he
    obtain ⟨rfl,rfl⟩:=he
    have FC:l∈V:=hV _ (Ad.2 rfl) rfl
    refine ⟨none,⟨rfl,?_⟩,rfl⟩
    cases τ<;>simp only [Cn] at hv<;>try (cases hv;done)
    rename_i e
    cases hl:st.at l with
    |none=>rw [hl] at hv;cases hv
    |some b=>
     rw [hl] at hv
     unfold St.at at hl
     cases b<;>(try simp only [] at hv)<;>try (cases hv;done)
     ·rename_i nO uF e0 tid xs
      split at hv
      ·rename_i BD;subst BD
       simp only [Aa,Ab] at hv
       obtain ⟨_,rfl⟩:=hv
       obtain ⟨h1,h2⟩:=Lk hu hl
       exact ⟨[u],jn h hl h1 h2 (λb hb ⟨r,hr,hf⟩=>hb.not h FC hr hf) (λb _ hb=>hb.cL),rfl⟩
      ·cases hv
     ·rename_i e0 tid xs
      split at hv
      ·rename_i BD;subst BD
       simp only [Aa,Ab] at hv
       obtain ⟨_,rfl⟩:=hv
       obtain ⟨h1,h2⟩:=Xi hu hl
       exact ⟨[u],gw h hl h1 h2 (λb hb ⟨r,hr,hf⟩=>hb.not h FC hr hf),rfl⟩
      ·cases hv
     ·rename_i e0 YE rows out kp
      cases out with
      |some i=>cases hv
      |none=>
       simp only [] at hv
       split at hv
       ·rename_i BD;subst BD
        simp only [Aa,Ab] at hv
        obtain ⟨_,rfl⟩:=hv
        obtain ⟨h1,h2⟩:=iE hu hl
        exact ⟨[u],m6 h hl h1 h2 (λb hb ⟨r,hr,hf⟩=>hb.not h FC hr hf) (λb hb=>hb.cL),rfl⟩
       ·cases hv
  have VR: ∀g Cx,a= .clo g Cx-> ∃r,aI w (Lm X π V) r u (.Ji τ) x/\Pl w π st.heap io a u r (.Ji τ) x:=by
   intro g Cx ea
   subst ea
   simp only [Jm] at he
   split at he
   ·rename_i hc
    simp only [Ag,Ds] at hc
    obtain ⟨kR,Pp⟩:=hc
    cases hv:Hc st τ (.clo g Cx) with
    |none=>rw [hv] at he;cases he
    |some p=>
     obtain ⟨fr,y⟩:=p
     rw [hv] at he
     simp only [Ah,Aa,Ab] at he
     obtain ⟨rfl,rfl⟩:=he
     have hcV: ∀p∈Cx,p.1∈V:= λp hp=>hV (Cp false k, .view p.1) (Bq.2 ⟨p.1,Bq.2 ⟨p,hp,rfl⟩,rfl⟩) rfl
     obtain ⟨us,rfl,h2,h3⟩:=hu
     refine ⟨none,⟨rfl,Ck.ix Pp ?_⟩,rfl⟩
     cases τ<;>simp only [Hc] at hv<;>try (simp only [Cn,reduceCtorEq] at hv;done)
     rename_i f0 c0
     split at hv
     ·rename_i hg
      obtain ⟨rfl,Im⟩:=hg
      exact ⟨us,by rw [cR Im],s9 h c0 Cx us fr y h2 h3 kR hcV hv⟩
     ·cases hv
   ·cases he
  have hvp: ∀l i,a= .Ez l i-> ∃r,aI w (Lm X π V) r u (.Ji τ) x/\Pl w π st.heap io a u r (.Ji τ) x:=by
   intro l i ea
   subst ea
   simp only [Jm] at he
   split at he
   ·rename_i hc
    simp only [Ag,Ds] at hc
    obtain ⟨kR,Pp⟩:=hc
    cases hv:Hc st τ (.Ez l i) with
    |none=>rw [hv] at he;cases he
    |some p=>
     obtain ⟨fr,y⟩:=p
     rw [hv] at he
     simp only [Ah,Aa,Ab] at he
     obtain ⟨rfl,rfl⟩:=he
     have FC:l∈V:=hV (Cp false k, .view l) (Bq.2 ⟨l,Ad.2 rfl,rfl⟩) rfl
     obtain ⟨r,tid,vs,h1,h2,rfl⟩:=hu
     refine ⟨none,⟨rfl,Ck.ix Pp ?_⟩,rfl⟩
     cases τ<;>simp only [Hc] at hv<;>try (simp only [Cn,reduceCtorEq] at hv;done)
     ·obtain ⟨h6,h7,h8⟩:=ec h kR FC hv h2
      exact ⟨r.g,i,rfl,h6,h7,h8⟩
     ·rename_i a
      cases hp:Qc st a l i with
      |none=>rw [hp] at hv;cases hv
      |some p=>
       rw [hp] at hv
       simp only [Ah,Aa,Ab] at hv
       obtain ⟨_,rfl⟩:=hv
       obtain ⟨h6,h7,h8⟩:=ec h kR FC hp h2
       exact .inr ⟨_,r.g,i,rfl,rfl,h6,h7,h8⟩
   ·cases he
  have dm: ∀l i c,a= .sub l i c-> ∃r,aI w (Lm X π V) r u (.Ji τ) x/\Pl w π st.heap io a u r (.Ji τ) x:=by
   intro l i c ea
   subst ea
   simp only [Jm] at he
   cases hv:Cn st τ (.sub l i c) with
   |none=>rw [hv] at he;cases he
   |some p=>
    obtain ⟨fr,y⟩:=p
    rw [hv] at he
    simp only [Ah,Aa,Ab] at he
    obtain ⟨rfl,rfl⟩:=he
    have FC:l∈V:=hV _ (Ad.2 rfl) rfl
    refine ⟨none,⟨rfl,?_⟩,rfl⟩
    cases τ<;>simp only [Cn] at hv<;>try (cases hv;done)
    rename_i e
    cases hl:st.at l with
    |none=>rw [hl] at hv;cases hv
    |some b=>
     rw [hl] at hv
     unfold St.at at hl
     cases b<;>(try simp only [] at hv)<;>try (cases hv;done)
     rename_i e0 YE rows out kp
     cases out with
     |some i=>cases hv
     |none=>
      simp only [] at hv
      split at hv
      ·rename_i BD;subst BD
       simp only [Aa,Ab] at hv
       obtain ⟨_,rfl⟩:=hv
       exact ⟨[u],m7 h hl (ta hu hl) hu (λb hb ⟨r,hr,hf⟩=>hb.not h FC hr hf) (λb hb=>hb.cL),rfl⟩
      ·cases hv
  by_cases JE: ∃l i c,a= .sub l i c
  ·obtain ⟨l,i,c,ea⟩:=JE;exact dm l i c ea
  by_cases IH: ∃g Cx,a= .clo g Cx
  ·obtain ⟨g,Cx,ea⟩:=IH;exact VR g Cx ea
  by_cases QU: ∃l i,a= .Ez l i
  ·obtain ⟨l,i,ea⟩:=QU;exact hvp l i ea
  by_cases al: ∃l off len,a= .own l off len
  ·obtain ⟨l,off,len,ea⟩:=al;exact own l off len ea
  have he:(if τ.flat||a.settled then (Cn st τ a).map λp=>(p.2,([]:List (Nat×Loc))) else none)=some (x,tks):=by
   cases a<;>first|exact he|exact absurd ⟨_,_,_,rfl⟩ al|exact absurd ⟨_,_,rfl⟩ IH|exact absurd ⟨_,_,rfl⟩ QU|exact absurd ⟨_,_,_,rfl⟩ JE
  split at he
  ·rename_i hc
   cases hv:Cn st τ a with
   |none=>rw [hv] at he;cases he
   |some p=>
    obtain ⟨fr,y⟩:=p
    rw [hv] at he
    simp only [Ah,Aa,Ab] at he
    obtain ⟨rfl,rfl⟩:=he
    refine ⟨none,⟨rfl,?_⟩,rfl⟩
    have Gj: ∀f,Ck w (Cb X.w0.heap.size X.Sc π f) τ u y->Ck w (Lm X π V) τ u y:= λf hr=>hr.Gj λk _ hk=>hk.cL
    cases a with
    |data f Lg z=>
     rw [Kw] at hv
     split at hv
     ·rename_i ht;subst ht
      simp only [Aa,Ab] at hv
      obtain ⟨_,rfl⟩:=hv
      exact Gj f hu
     ·have Yi:τ.Ak=false:=by unfold cW at hv;split at hv<;>first|rfl|cases hv
      exact Gj _ ⟨[u],Za hv hu,by simp [Bi,Yi]⟩
    |Jf=>
     have hu:u= .slice none 0 0:=hu
     subst hu
     cases τ<;>simp only [Cn,Aa,Ab,reduceCtorEq] at hv
     ·obtain ⟨_,rfl⟩:=hv;exact ⟨[_],⟨none,0,0,rfl,rfl,Ao _, .inl rfl⟩,rfl⟩
     ·obtain ⟨_,rfl⟩:=hv;exact ⟨[_], .inl ⟨rfl,0,rfl⟩,rfl⟩
    |Qx=>
     have hu:u= .pointer none:=hu
     subst hu
     cases τ<;>simp only [Cn,Aa,Ab,reduceCtorEq] at hv
     obtain ⟨_,rfl⟩:=hv;exact ⟨[_], .inl ⟨rfl,rfl⟩,rfl⟩
    |_=>cases τ<;>simp [AC.settled,Ty.flat,Cn] at hc hv
  ·cases he
 |row e te=>
  cases a<;>simp only [Jm] at he<;>try (cases he;done)
  ·simp only [Aa,Ab] at he
   obtain ⟨rfl,rfl⟩:=he
   have hu:u= .slice none 0 0:=hu
   exact ⟨none,⟨⟨hu,rfl,rfl⟩,rfl⟩,rfl⟩
  ·rename_i l off len
   split at he
   ·rename_i fr tr e' Nr xs hl
    split at he
    ·rename_i hc
     obtain ⟨rfl,rfl,rfl,rfl⟩:=hc
     simp only [Aa,Ab] at he
     obtain ⟨rfl,rfl⟩:=he
     unfold St.at at hl
     obtain ⟨_,h2⟩:=Lk hu hl
     refine ⟨(π l).map full,⟨Ul h2,?_⟩,rfl,rfl,rfl,fr,tr,hl⟩
     have hb:=(h.heap l).Ns hl
     simp only [Bn,Hg] at hb
     cases hp:π l with
     |none=>rw [hp] at hb;exact hb
     |some q=>
      rw [hp] at hb
      obtain ⟨k1,cur,ti,k2,k3,k4,k5,k6,_⟩:=hb
      refine ⟨⟨k1.1,k1.2.1⟩,cur,ti,k2,k3,k4,k5,λi y hy=>?_⟩
      obtain ⟨es,g1,g2,g3⟩:=k6 i y hy
      exact ⟨es,g1,g2,Cells.Ep (Ao _) (λ_ _ _=>rfl) (λ_ _ hk=>hk.cL) e' es y g3⟩
    ·cases he
   ·cases he
  ·rename_i l i c
   split at he
   ·rename_i e' tid xs hl
    split at he
    ·rename_i hc
     obtain ⟨rfl,hf,qw,gz⟩:=hc
     cases hx:xs[i]? with
     |none=>rw [hx] at he;cases he
     |some y=>
      rw [hx] at he
      simp only [Ah,Aa,Ab] at he
      obtain ⟨rfl,rfl⟩:=he
      unfold St.at at hl
      obtain ⟨r,r1,r2,_,r4⟩:=uy h hl hx gz hu
      exact ⟨r,⟨r1,r2 hf _⟩,⟨qw,hf⟩,tid,xs,hl,hx,r4⟩
    ·cases he
   ·cases he
 |Fl e te=>
  cases a<;>simp only [Jm] at he<;>try (cases he;done)
  ·simp only [Aa,Ab] at he
   obtain ⟨rfl,rfl⟩:=he
   have hu:u= .slice none 0 0:=hu
   exact ⟨none,⟨⟨hu,rfl,rfl⟩,rfl⟩,rfl⟩
  ·rename_i l off len
   split at he
   ·rename_i e' Nr xs hl
    split at he
    ·rename_i hc
     obtain ⟨rfl,rfl,rfl,rfl⟩:=hc
     simp only [Aa,Ab] at he
     obtain ⟨rfl,rfl⟩:=he
     unfold St.at at hl
     obtain ⟨_,h2⟩:=Xi hu hl
     refine ⟨(π l).map full,⟨Ul h2,?_⟩,rfl,rfl,rfl,hl⟩
     have hb:=(h.heap l).Ns hl
     simp only [Bn] at hb
     cases hp:π l with
     |none=>rw [hp] at hb;exact hb
     |some q=>rw [hp] at hb;exact hb
    ·cases he
   ·cases he
  ·rename_i l i c
   split at he
   ·rename_i e' tid xs hl
    split at he
    ·rename_i hc
     obtain ⟨rfl,qw,gz⟩:=hc
     cases hx:xs[i]? with
     |none=>rw [hx] at he;cases he
     |some y=>
      rw [hx] at he
      simp only [Ah,Aa,Ab] at he
      obtain ⟨rfl,rfl⟩:=he
      unfold St.at at hl
      obtain ⟨r,r1,_,r3,r4⟩:=uy h hl hx gz hu
      exact ⟨r,⟨r1,r3 te⟩,qw,tid,xs,hl,hx,r4⟩
    ·cases he
   ·cases he
 |part e te=>
  cases a<;>simp only [Jm] at he<;>try (cases he;done)
  rename_i l off len
  split at he
  ·rename_i fr tr e' Nr xs hl
   split at he
   ·rename_i hc
    obtain ⟨rfl,rfl,hf,qw⟩:=hc
    simp only [Aa,Ab] at he
    obtain ⟨rfl,rfl⟩:=he
    unfold St.at at hl
    obtain ⟨h1,h2⟩:=Lk hu hl
    refine ⟨(π l).map full,⟨⟨Ul h2,h1⟩,hf,?_⟩,hf,rfl,qw,fr,tr,hl⟩
    have hb:=(h.heap l).Ns hl
    simp only [Bn,Hg] at hb
    cases hp:π l with
    |none=>rw [hp] at hb;exact hb
    |some q=>
     rw [hp] at hb
     obtain ⟨k1,cur,ti,k2,k3,k4,k5,k6,_⟩:=hb
     refine ⟨⟨k1.1,k1.2.1⟩,cur,ti,k2,k3,k4,k5,λi y hy=>?_⟩
     obtain ⟨es,g1,g2,g3⟩:=k6 i y hy
     exact ⟨es,g1,g2,Cells.flat e' es y hf g3⟩
   ·cases he
  ·cases he
 |Bc e te kp=>
  cases a<;>simp only [Jm] at he<;>try (cases he;done)
  rename_i l off len
  split at he
  ·rename_i e' Nr rows kp' hl
   split at he
   ·rename_i hc
    obtain ⟨rfl,rfl,rfl,rfl,qw⟩:=hc
    simp only [Aa,Ab] at he
    obtain ⟨rfl,rfl⟩:=he
    unfold St.at at hl
    obtain ⟨h1,h2⟩:=iE hu hl
    refine ⟨(π l).map full,⟨Ul h2,?_⟩,qw,rfl,rfl,rfl,kp',hl⟩
    have hb:=(h.heap l).Ns hl
    simp only [Bn] at hb
    have hb:=hb.1
    have hg:Uy w (Cb X.w0.heap.size X.Sc π false) ((π l).map full) e' rows none:=by
     cases hp:π l with
     |none=>rw [hp] at hb;exact hb
     |some q=>rw [hp] at hb;exact hb
    exact hg.Ep (λ_ _ _ _ _=>rfl) λes x hc=>hc.YN
   ·cases he
  ·cases he
end
end Go.Proofs.Ytfgfigkbgecfnaa
