/-
  Part 20 of the proof that the statement FnIterativeDeepening holds.
-/
import Derived.Test.YtkkdpknjohcekaaGreatCFIterativeDeepening18
namespace Go.Proofs.YtkkdpknjohcekaaGreat
open Go.RowKit
section
variable {P:Program} {T:Tab} {X:Ctx} {w w':World} {π π':Pi} {H H':List (Nat×OB)}
theorem qa (dead part:List Nat) (c:AC):Cm dead part c= .undef\/(Cm dead part c=c/\(∀k∈c.refs,k∉dead)/\ ∀k i j,c= .sub k i j\/c= .Kr k i j->k∉part):=by
 by_cases hu:Cm dead part c= .undef
 ·exact .inl hu
 have hr:=np hu
 have hp: ∀l i j,c= .sub l i j\/c= .Kr l i j->l∉part:=by
  intro l i j e hm
  refine hu ?_
  unfold Cm
  rcases e with rfl|rfl
  all_goals
   split
   ·rfl
   ·simp [hm]
 exact .inr ⟨cJ hr hp,hr,hp⟩
theorem Aap {τ:Ty} (h:τ.Aq=false):τ.size=1:=by cases τ<;>simp_all [Ty.Aq,Ty.size]
theorem IH (hT:Eb P T) {st:St} {a:Act} (h:Bh X π st a w) {t:TypeId} {τ:Ty} (ht:T.ty t=some τ) (Ug:τ.Aq=false) {l j m:Nat} {e:Ty} {te tid:TypeId} {rows:List (List e.den)} {xs:List e.den} {out:Option Nat} {kp:Option (Nat×Nat)} {fr tr:Bool}
  (hl:Av st.heap l=some (.Bn e te rows out kp)) (ho:out=none\/out=some j) (iQ:m≠l) (hm:Av st.heap m=some (.arr fr tr e tid xs)) (re:l<Bl)
  {vp vx:Value} (hp:Ia X w π st.heap (.Ku l j) vp) (hx:Ia X w π st.heap (.own m 0 (List.length xs)) vx):
  ∃w' π',(Instr.storeAt t vp vx).run P w= .ok () w'/\Bh X π' (Ue st l j m e te rows xs (bS j kp)) a w':=by
 have aE:τ.size=1:=Aap Ug
 obtain ⟨r,b0,sz,n,h1,h0,h3,h2,rfl⟩:=hp
 rw [hl] at h1;cases h1
 simp only [OB.row,Aa,Ae] at h0
 obtain ⟨rfl,rfl⟩:=h0
 rw [Fl]
 obtain ⟨_,vr⟩:=Oy (X:=X) (w:=w) hx hm
 obtain ⟨ax,nx,cx,hvx⟩:=aY vr
 have hb:=(h.1.heap l).Rz hl
 simp only [Cg] at hb
 obtain ⟨hb,tf⟩:=hb
 rw [h2] at hb tf
 obtain ⟨b1,cur,ti,b2,b3,b4,b5,Rs,b6,b7,b8,b9⟩:=hb
 have qd:=(h.1.heap m).Rz hm
 simp only [Cg,Ks] at qd
 have Vv:=Ws (P:=P) (w:=w) (hT.ty _ _ ht) r.g (r.o+j) vx [vx] (by rw [hvx];rfl) (by rw [aE];rfl) (by intro u hu;rw [Ad.1 hu,hvx];rfl) cur ti b2 (by simp;omega)
 let R:Option Real:=π m
 have hfa:Tl w (Cx X.w0.heap.size X.Sc π false) R e xs:=by
  show Tl w _ (π m) e xs
  cases hR:π m with
  |none=>rw [hR] at qd;exact qd
  |some q=>
   rw [hR] at qd
   obtain ⟨⟨f0,f0',_⟩,cu,ti',f2,f3,f4,f5,f6,_⟩:=qd
   exact ⟨⟨f0,f0'⟩,cu,ti',f2,f3,f4,f5,λp y hy=>by
    obtain ⟨es,g1,g2,g3⟩:=f6 p y hy
    exact ⟨es,g1,g2,Cells.Ft (Ap _) (λ_ _ _=>rfl) (λb _ hA=>hA.imp id (Or.imp id λ⟨h1,_⟩=>by cases h1)) e es y g3⟩⟩
 have hRq: ∀q,R=some q->π m=some q:= λq hq=>hq
 have Wl: ∀q,R=some q->q.Cq q.g/\q.cl q.g/\q.g≠r.g:= λq hq=>⟨h.1.Cq hq,h.1.sub m q _ hq (h.1.Cq hq),λe0=>iQ (h.1.apart hq h2 (h.1.Cq hq) (e0▸b1))⟩
 let rl:Real:= {r with Cq:= λb=>r.Cq b\/ ∃q,R=some q/\q.Cq b,cl:= λb=>r.cl b\/ ∃q,R=some q/\q.cl b}
 let π':Pi:= λk=>if k=m then none else if k=l then some rl else π k
 have yV:π' m=none:=Ab rfl
 have JZ:π' l=some rl:=(Ai (Hr iQ)).trans (Ab rfl)
 have iT: ∀k,k≠m->k≠l->π' k=π k:= λk g1 g2=>(Ai g1).trans (Ai g2)
 have vh: ∀k q,π' k=some q->(k=l/\q=rl)\/(k≠m/\k≠l/\π k=some q):= λk q hq=>by
  by_cases e1:k=m
  ·subst e1;rw [yV] at hq;cases hq
  ·by_cases e2:k=l
   ·subst e2;rw [JZ] at hq;exact .inl ⟨rfl,(Az hq).symm⟩
   ·rw [iT k e1 e2] at hq;exact .inr ⟨e1,e2,hq⟩
 have Ye:r.o+j+ [vx].length<=cur.toList.length:=by simp;omega
 have ta:=Nx w r.g (Dt cur.toList (r.o+j) [vx]).toArray
 have rf: ∀c,c≠r.g->(w.setRow r.g (Dt cur.toList (r.o+j) [vx]).toArray).heap[c]?=w.heap[c]?:= λc hc=>setRow_other w r.g c _ hc
 have Ai5: ∀k,Av (Ue st l j m e te rows xs (bS j kp)).heap k=Av (aw (Xw (st.heap.map λp=>(p.1,p.2.map (Cm [m] [l]))) [m]) l (.Bn e te (rows.set j xs) none (bS j kp))) k:= λk=>rfl
 have oD:Av (Xw (st.heap.map λp=>(p.1,p.2.map (Cm [m] [l]))) [m]) l=some (.Bn e te rows out kp):=by
  rw [Nz,Ph,Ai (by simpa using Hr iQ),hl];rfl
 have hHl:Av (Ue st l j m e te rows xs (bS j kp)).heap l=some (.Bn e te (rows.set j xs) none (bS j kp)):=(Ai5 l).trans (Ev _ _ _ _ oD)
 have OV: ∀k,k≠m->k≠l->Av (Ue st l j m e te rows xs (bS j kp)).heap k=(Av st.heap k).map (OB.map (Cm [m] [l])):= λk g1 g2=>by
  rw [Ai5,Dx _ _ _ _ g2,Nz,Ph,Ai (by simpa using g1)]
 have hHm:Av (Ue st l j m e te rows xs (bS j kp)).heap m=none:=by
  rw [Ai5,Dx _ _ _ _ iQ,Nz,Ab (by simp)]
 have Ar4:r.cl r.g:=h.1.sub l r _ h2 b1
 have th: ∀k r0 c,π k=some r0->r0.cl c->k≠l->c≠r.g:= λk r0 c hk hc Jl e=>Jl (h.1.inj k l r0 r c hk h2 hc (e▸Ar4))
 refine ⟨_,π',by simp only [Instr.storeAt,Instr.sureAddr];simpa using Vv,?_⟩
 have Pj:Ue st l j m e te rows xs (bS j kp)= {tmps:=st.tmps.map (·.map (Cm [m] [l])),heap:=(Ue st l j m e te rows xs (bS j kp)).heap} :=rfl
 rw [Pj]
 refine h.nU (by simp [Cm,AC.refs]) (gv:= λc=>c=r.g) (λc hc=>hc▸⟨l,r,h2,b1⟩) ⟨ta.os,ta.tape,ta.output,ta.size,λc _ hc=>rf c hc⟩ (λb _ ⟨k,q,g1,g2⟩=>?_) (λk q b g1 g2=>?_) (λk q b g1 g2=>?_) (λk k' q q' b g1 g2 g3 g4=>?_) (λk hk Jl=>?_)
  (λhc=>nT (D:= λk=>k=m) (Pt:= λk=>k=l) (λc=>?_) (λk hk=>?_) (λk b hk hb=>?_) (λk r0 b hk hk2 g1 g2 g3=>rf _ (th k r0 _ g3 (h.1.sub k r0 _ g3 (h.1.Cq g3)) hk2)) hc) (λmv k b hb=>?_) (λk hk=>?_)
 ·rcases vh k q g1 with ⟨_,rfl⟩|⟨_,_,e1⟩
  ·rcases g2 with g2|⟨q0,g2,g3⟩
   ·exact ⟨l,r,h2,g2⟩
   ·exact ⟨m,q0,g2,g3⟩
  ·exact ⟨k,q,e1,g2⟩
 ·rcases vh k q g1 with ⟨_,rfl⟩|⟨_,_,e1⟩
  ·rcases g2 with g2|⟨q0,g2,g3⟩
   ·exact .inl (h.1.sub l r b h2 g2)
   ·exact .inr ⟨q0,g2,h.1.sub m q0 b g2 g3⟩
  ·exact h.1.sub k q b e1 g2
 ·have up: ∀k q b,π k=some q->q.cl b->(X.w0.heap.size<=b\/X.gv b)/\b<(w.setRow r.g (Dt cur.toList (r.o+j) [vx]).toArray).heap.size:= λk q b e1 e2=>⟨(h.1.place k q b e1 e2).1,Ef (h.1.place k q b e1 e2).2 ta.size⟩
  rcases vh k q g1 with ⟨_,rfl⟩|⟨_,_,e1⟩
  ·rcases g2 with g2|⟨q0,g2,g3⟩
   ·exact up l r b h2 g2
   ·exact up m q0 b g2 g3
  ·exact up k q b e1 g2
 ·rcases vh k q g1 with ⟨e0,rfl⟩|⟨e0,e2,e1⟩<;>rcases vh k' q' g2 with ⟨f0,rfl⟩|⟨f0,f2,f1⟩
  ·rw [e0,f0]
  ·rcases g3 with g3|⟨q0,g3,g5⟩
   ·exact absurd (h.1.inj k' l q' r b f1 h2 g4 g3) f2
   ·exact absurd (h.1.inj k' m q' q0 b f1 g3 g4 g5) f0
  ·rcases g4 with g4|⟨q0,g4,g5⟩
   ·exact absurd (h.1.inj k l q r b e1 h2 g3 g4) e2
   ·exact absurd (h.1.inj k m q q0 b e1 g4 g3 g5) e0
  ·exact h.1.inj k k' q q' b e1 f1 g3 g4
 ·by_cases e1:k=m
  ·subst e1;exact absurd hHm Jl
  have e2:k≠l:=by omega
  rw [iT k e1 e2]
  refine h.1.gZ k hk λh0=>Jl ?_
  rw [OV k e1 e2,h0];rfl
 ·rcases qa [m] [l] c with e|⟨e,g,g'⟩
  ·exact .inl e
  ·exact .inr ⟨e,λk hk hkm=>g k hk (by simp [hkm]),λk i j hc Tc=>g' k i j hc (by simp [Tc])⟩
 ·by_cases e2:k=l
  ·subst e2;rw [JZ,h2];exact ⟨rfl,rfl,rfl⟩
  ·rw [iT k hk e2];exact gl.rfl' _
 ·by_cases e2:k=l
  ·subst e2
   rw [hl] at hb;cases hb
   exact ⟨_,hHl,⟨λ_ n h=>⟨n,by simpa [OB.row] using h,Ap _⟩,λ_ h=>by simpa [OB.gz] using h,λ_ h=>by simpa [OB.vH] using h,(λ_ _ h=>by cases h),(λ_ _ h=>by cases h)⟩⟩
  ·exact ⟨_,by rw [OV k hk e2,hb];rfl,OB.Tt.map _ b⟩
 ·by_cases e1:k=m
  ·subst e1;rw [hHm] at hb;cases hb
  by_cases e2:k=l
  ·subst e2
   rw [hHl] at hb;cases hb
   rw [JZ]
   have hat: ∀p,(Dt cur.toList (r.o+j) [vx]).toArray[r.o+p]?=if p=j then some vx else cur[r.o+p]?:= λp=>by
    rw [Iz,Iw _ _ _ _ Ye]
    by_cases hpj:p=j
    ·subst hpj
     rw [Ai (by omega),Ab (by simp),Ab rfl]
     simp
    ·rw [Ai hpj]
     split
     ·simp
     ·rw [Ai (by simp;omega)];simp
   have OY:=setRow_heap w r.g cur (Dt cur.toList (r.o+j) [vx]).toArray ti _ b2
   refine ⟨⟨.inl b1,_,_,OY,by rw [Hc,Jq _ _ _ Ye,Xp];exact b3,b4,by simpa using b5,Rs.set j R,by simpa using b6,λp q hq=>?_,λp p' q q' hq kW he=>?_,λp y hy _=>?_⟩,?_⟩
   ·rw [Eg] at hq
    split at hq
    ·split at hq
     ·have hq:=Az hq
      exact ⟨.inr ⟨q,hq,(Wl q hq).1⟩,(Wl q hq).2.2⟩
     ·cases hq
    ·exact ⟨.inl (b7 p q hq).1,(b7 p q hq).2⟩
   ·rw [Eg] at hq kW
    split at hq
    ·rename_i hjp
     split at hq
     ·have hq:=Az hq
      split at kW
      ·rename_i Arl;rw [<-hjp,<-Arl]
      ·exact absurd (h.1.apart hq h2 (Wl q hq).1 (he▸(b7 p' q' kW).1)) iQ
     ·cases hq
    ·split at kW
     ·split at kW
      ·have kW:=Az kW
       exact absurd (h.1.apart kW h2 (Wl q' kW).1 (he▸(b7 p q hq).1)) iQ
      ·cases kW
     ·exact b8 p p' q q' hq kW he
   ·rw [Eg] at hy
    split at hy
    ·rename_i hjp
     subst hjp
     have hy:=Az hy
     subst hy
     exact ⟨vx,R,by rw [hat,Ab rfl],by rw [Eg,Ab rfl,Ab (by omega)],vr,hfa.to (λq hq=>rf _ (Wl q hq).2.2) λes y hc=>mv.cells false e es y hc⟩
    ·rename_i hjp
     obtain ⟨u',R',q1,q2,q3,q4⟩:=b9 p y hy (by rcases ho with ho|ho<;>rw [ho]<;>simp [hjp])
     refine ⟨u',R',by rw [hat,Ai (Hr hjp)];exact q1,by rw [Eg,Ai hjp];exact q2,q3,q4.to (λq hq=>rf _ ?_) λes y hc=>mv.cells false e es y hc⟩
     subst hq
     exact (b7 p q q2).2
   ·cases kp with
    |none=>trivial
    |some p=>
     obtain ⟨l0,n0⟩:=p
     simp only [KeptAt,bS] at tf⊢
     cases SG:X.gZ l0 with
     |none=>rw [SG] at tf;exact tf.elim
     |some r0=>
      rw [SG] at tf
      obtain ⟨g1,g2,g3,g4⟩:=tf
      refine ⟨g1,g2,g3,λp hp hc=>?_⟩
      have WC:p<n0/\p<j:=by omega
      rw [<-g4 p WC.1 hc,<-g1,<-g2,cellOf OY,cellOf b2,hat,Ai (by omega)]
  ·rw [OV k e1 e2] at hb
   cases hk:Av st.heap k with
   |none=>rw [hk] at hb;cases hb
   |some b1=>
    rw [hk] at hb
    simp only [Ak,Aa] at hb;subst hb
    rw [iT k e1 e2]
    exact ((h.1.heap k).Rz hk).move mv ta.size (λr0 c h0 h1=>h.1.sub _ r0 c h0 h1) λr0 c h0 h1 _=>rf c (th k r0 c h0 h1 e2)
 ·have e2:k≠l:= λe=>by subst e;rw [hHl] at hk;cases hk
  by_cases e1:k=m
  ·subst e1;exact yV
  rw [OV k e1 e2] at hk
  rw [iT k e1 e2]
  cases vq:Av st.heap k with
  |none=>exact (h.1.heap k).emp vq
  |some b=>rw [vq] at hk;cases hk
end
end Go.Proofs.YtkkdpknjohcekaaGreat
