/-
  Part 20 of the proof that the statement FnExactSolveTwoPhase holds.
-/
import Derived.Test.YtjbdmibbbpdnnaaCSolveTwoPhase18
namespace Go.Proofs.Ytjbdmibbbpdnnaa
open Go.RowKit
section
variable {P:Program} {T:Tab} {X:Ctx} {w w':World} {π π':Pi} {H H':List (Nat×OB)}
theorem lu (dead part:List Nat) (c:AC):Az dead part c= .undef\/(Az dead part c=c/\(∀k∈c.refs,k∉dead)/\ ∀k i j,c= .sub k i j\/c= .Gf k i j->k∉part):=by
 by_cases hu:Az dead part c= .undef
 ·exact .inl hu
 have hr:=iP hu
 have hp: ∀l i j,c= .sub l i j\/c= .Gf l i j->l∉part:=by
  intro l i j e hm
  refine hu ?_
  unfold Az
  rcases e with rfl|rfl
  all_goals
   split
   ·rfl
   ·simp [hm]
 exact .inr ⟨Xl hr hp,hr,hp⟩
theorem ON {τ:Ty} (h:τ.Ac=false):τ.size=1:=by cases τ<;>simp_all [Ty.Ac,Ty.size]
theorem zb (hT:Ch P T) {st:St} {a:Act} (h:Al X π st a w) {t:TypeId} {τ:Ty} (ht:T.ty t=some τ) (Nx:τ.Ac=false) {l j m:Nat} {e:Ty} {te tid:TypeId} {rows:List (List e.den)} {xs:List e.den} {out:Option Nat} {kp:Option (Nat×Nat)} {fr tr:Bool}
  (hl:Ag st.heap l=some (.Ao e te rows out kp)) (ho:out=none\/out=some j) (eV:m≠l) (hm:Ag st.heap m=some (.arr fr tr e tid xs)) (q8:l<Am)
  {vp vx:Value} (hp:Ec X w π st.heap (.Gh l j) vp) (hx:Ec X w π st.heap (.own m 0 (List.length xs)) vx):
  ∃w' π',(Instr.storeAt t vp vx).run P w= .ok () w'/\Al X π' (Nu st l j m e te rows xs (Wg j kp)) a w':=by
 have Pr:τ.size=1:=ON Nx
 obtain ⟨r,b0,sz,n,h1,h0,h3,h2,rfl⟩:=hp
 rw [hl] at h1;cases h1
 simp only [OB.row,Option.some.injEq,Prod.mk.injEq] at h0
 obtain ⟨rfl,rfl⟩:=h0
 rw [Nat.mul_one]
 obtain ⟨_,pN⟩:=Jx (X:=X) (w:=w) hx hm
 obtain ⟨ax,nx,cx,SM⟩:=Uw pN
 have hb:=(h.1.heap l).Na hl
 simp only [Ay] at hb
 obtain ⟨hb,nY⟩:=hb
 rw [h2] at hb nY
 obtain ⟨b1,cur,ti,b2,b3,b4,b5,Rs,b6,b7,b8,b9⟩:=hb
 have yW:=(h.1.heap m).Na hm
 simp only [Ay,Fz] at yW
 have Po:=Qk (P:=P) (w:=w) (hT.ty _ _ ht) r.g (r.o+j) vx [vx] (by rw [SM];rfl) (by rw [Pr];rfl) (by intro u hu;rw [List.mem_singleton.1 hu,SM];rfl) cur ti b2 (by simp;omega)
 let R:Option Real:=π m
 have hfa:Nd w (Bi X.w0.heap.size X.Sc π false) R e xs:=by
  show Nd w _ (π m) e xs
  cases hR:π m with
  |none=>rw [hR] at yW;exact yW
  |some q=>
   rw [hR] at yW
   obtain ⟨⟨f0,f0',_⟩,cu,QU,f2,f3,f4,f5,f6,_⟩:=yW
   exact ⟨⟨f0,f0'⟩,cu,QU,f2,f3,f4,f5,λp y hy=>by
    obtain ⟨es,g1,g2,g3⟩:=f6 p y hy
    exact ⟨es,g1,g2,Cells.Cz (Nat.le_refl _) (λ_ _ _=>rfl) (λb _ hA=>hA.imp id (Or.imp id λ⟨h1,_⟩=>by cases h1)) e es y g3⟩⟩
 have hRq: ∀q,R=some q->π m=some q:= λq hq=>hq
 have Qc: ∀q,R=some q->q.Bc q.g/\q.cl q.g/\q.g≠r.g:= λq hq=>⟨h.1.Bc hq,h.1.sub m q _ hq (h.1.Bc hq),λe0=>eV (h.1.apart hq h2 (h.1.Bc hq) (e0▸b1))⟩
 let rl:Real:= {r with Bc:= λb=>r.Bc b\/ ∃q,R=some q/\q.Bc b,cl:= λb=>r.cl b\/ ∃q,R=some q/\q.cl b}
 let π':Pi:= λk=>if k=m then none else if k=l then some rl else π k
 have tC:π' m=none:=if_pos rfl
 have zQ:π' l=some rl:=(if_neg (Ne.symm eV)).trans (if_pos rfl)
 have dc: ∀k,k≠m->k≠l->π' k=π k:= λk g1 g2=>(if_neg g1).trans (if_neg g2)
 have pL: ∀k q,π' k=some q->(k=l/\q=rl)\/(k≠m/\k≠l/\π k=some q):= λk q hq=>by
  by_cases e1:k=m
  ·subst e1;rw [tC] at hq;cases hq
  ·by_cases e2:k=l
   ·subst e2;rw [zQ] at hq;exact .inl ⟨rfl,(Option.some.inj hq).symm⟩
   ·rw [dc k e1 e2] at hq;exact .inr ⟨e1,e2,hq⟩
 have Qb:r.o+j+ [vx].length<=cur.toList.length:=by simp;omega
 have nU:=Iz w r.g (Bp cur.toList (r.o+j) [vx]).toArray
 have mj: ∀c,c≠r.g->(w.setRow r.g (Bp cur.toList (r.o+j) [vx]).toArray).heap[c]?=w.heap[c]?:= λc hc=>setRow_other w r.g c _ hc
 have YR: ∀k,Ag (Nu st l j m e te rows xs (Wg j kp)).heap k=Ag (Ys (Rf (st.heap.map λp=>(p.1,p.2.map (Az [m] [l]))) [m]) l (.Ao e te (rows.set j xs) none (Wg j kp))) k:= λk=>rfl
 have wX:Ag (Rf (st.heap.map λp=>(p.1,p.2.map (Az [m] [l]))) [m]) l=some (.Ao e te rows out kp):=by
  rw [Ja,Kb,if_neg (by simpa using Ne.symm eV),hl];rfl
 have XD:Ag (Nu st l j m e te rows xs (Wg j kp)).heap l=some (.Ao e te (rows.set j xs) none (Wg j kp)):=(YR l).trans (Cw _ _ _ _ wX)
 have EA: ∀k,k≠m->k≠l->Ag (Nu st l j m e te rows xs (Wg j kp)).heap k=(Ag st.heap k).map (OB.map (Az [m] [l])):= λk g1 g2=>by
  rw [YR,Cr _ _ _ _ g2,Ja,Kb,if_neg (by simpa using g1)]
 have UU:Ag (Nu st l j m e te rows xs (Wg j kp)).heap m=none:=by
  rw [YR,Cr _ _ _ _ eV,Ja,if_pos (by simp)]
 have Ahm:r.cl r.g:=h.1.sub l r _ h2 b1
 have o0: ∀k r0 c,π k=some r0->r0.cl c->k≠l->c≠r.g:= λk r0 c hk hc Et e=>Et (h.1.inj k l r0 r c hk h2 hc (e▸Ahm))
 refine ⟨_,π',by simp only [Instr.storeAt,Instr.sureAddr];simpa using Po,?_⟩
 have Qv:Nu st l j m e te rows xs (Wg j kp)= {tmps:=st.tmps.map (·.map (Az [m] [l])),heap:=(Nu st l j m e te rows xs (Wg j kp)).heap} :=rfl
 rw [Qv]
 refine h.jl (by simp [Az,AC.refs]) (gv:= λc=>c=r.g) (λc hc=>hc▸⟨l,r,h2,b1⟩) ⟨nU.os,nU.tape,nU.output,nU.size,λc _ hc=>mj c hc⟩ (λb _ ⟨k,q,g1,g2⟩=>?_) (λk q b g1 g2=>?_) (λk q b g1 g2=>?_) (λk k' q q' b g1 g2 g3 g4=>?_) (λk hk Et=>?_)
  (λhc=>jk (D:= λk=>k=m) (Pt:= λk=>k=l) (λc=>?_) (λk hk=>?_) (λk b hk hb=>?_) (λk r0 b hk QK g1 g2 g3=>mj _ (o0 k r0 _ g3 (h.1.sub k r0 _ g3 (h.1.Bc g3)) QK)) hc) (λmv k b hb=>?_) (λk hk=>?_)
 ·rcases pL k q g1 with ⟨_,rfl⟩|⟨_,_,e1⟩
  ·rcases g2 with g2|⟨q0,g2,g3⟩
   ·exact ⟨l,r,h2,g2⟩
   ·exact ⟨m,q0,g2,g3⟩
  ·exact ⟨k,q,e1,g2⟩
 ·rcases pL k q g1 with ⟨_,rfl⟩|⟨_,_,e1⟩
  ·rcases g2 with g2|⟨q0,g2,g3⟩
   ·exact .inl (h.1.sub l r b h2 g2)
   ·exact .inr ⟨q0,g2,h.1.sub m q0 b g2 g3⟩
  ·exact h.1.sub k q b e1 g2
 ·have up: ∀k q b,π k=some q->q.cl b->(X.w0.heap.size<=b\/X.gv b)/\b<(w.setRow r.g (Bp cur.toList (r.o+j) [vx]).toArray).heap.size:= λk q b e1 e2=>⟨(h.1.place k q b e1 e2).1,Nat.lt_of_lt_of_le (h.1.place k q b e1 e2).2 nU.size⟩
  rcases pL k q g1 with ⟨_,rfl⟩|⟨_,_,e1⟩
  ·rcases g2 with g2|⟨q0,g2,g3⟩
   ·exact up l r b h2 g2
   ·exact up m q0 b g2 g3
  ·exact up k q b e1 g2
 ·rcases pL k q g1 with ⟨e0,rfl⟩|⟨e0,e2,e1⟩<;>rcases pL k' q' g2 with ⟨f0,rfl⟩|⟨f0,f2,f1⟩
  ·rw [e0,f0]
  ·rcases g3 with g3|⟨q0,g3,g5⟩
   ·exact absurd (h.1.inj k' l q' r b f1 h2 g4 g3) f2
   ·exact absurd (h.1.inj k' m q' q0 b f1 g3 g4 g5) f0
  ·rcases g4 with g4|⟨q0,g4,g5⟩
   ·exact absurd (h.1.inj k l q r b e1 h2 g3 g4) e2
   ·exact absurd (h.1.inj k m q q0 b e1 g4 g3 g5) e0
  ·exact h.1.inj k k' q q' b e1 f1 g3 g4
 ·by_cases e1:k=m
  ·subst e1;exact absurd UU Et
  have e2:k≠l:=by omega
  rw [dc k e1 e2]
  refine h.1.dv k hk λh0=>Et ?_
  rw [EA k e1 e2,h0];rfl
 ·rcases lu [m] [l] c with e|⟨e,g,g'⟩
  ·exact .inl e
  ·exact .inr ⟨e,λk hk hkm=>g k hk (by simp [hkm]),λk i j hc Hx=>g' k i j hc (by simp [Hx])⟩
 ·by_cases e2:k=l
  ·subst e2;rw [zQ,h2];exact ⟨rfl,rfl,rfl⟩
  ·rw [dc k hk e2];exact bG.rfl' _
 ·by_cases e2:k=l
  ·subst e2
   rw [hl] at hb;cases hb
   exact ⟨_,XD,⟨λ_ n h=>⟨n,by simpa [OB.row] using h,Nat.le_refl _⟩,λ_ h=>by simpa [OB.bM] using h,λ_ h=>by simpa [OB.pW] using h,(λ_ _ h=>by cases h),(λ_ _ h=>by cases h)⟩⟩
  ·exact ⟨_,by rw [EA k hk e2,hb];rfl,OB.Nn.map _ b⟩
 ·by_cases e1:k=m
  ·subst e1;rw [UU] at hb;cases hb
  by_cases e2:k=l
  ·subst e2
   rw [XD] at hb;cases hb
   rw [zQ]
   have RQ: ∀p,(Bp cur.toList (r.o+j) [vx]).toArray[r.o+p]?=if p=j then some vx else cur[r.o+p]?:= λp=>by
    rw [List.getElem?_toArray,Ei _ _ _ _ Qb]
    by_cases hpj:p=j
    ·subst hpj
     rw [if_neg (by omega),if_pos (by simp),if_pos rfl]
     simp
    ·rw [if_neg hpj]
     split
     ·simp
     ·rw [if_neg (by simp;omega)];simp
   have EE:=setRow_heap w r.g cur (Bp cur.toList (r.o+j) [vx]).toArray ti _ b2
   refine ⟨⟨.inl b1,_,_,EE,by rw [List.size_toArray,Ey _ _ _ Qb,Array.length_toList];exact b3,b4,by simpa using b5,Rs.set j R,by simpa using b6,λp q hq=>?_,λp p' q q' hq fy he=>?_,λp y hy _=>?_⟩,?_⟩
   ·rw [List.getElem?_set] at hq
    split at hq
    ·split at hq
     ·have hq:=Option.some.inj hq
      exact ⟨.inr ⟨q,hq,(Qc q hq).1⟩,(Qc q hq).2.2⟩
     ·cases hq
    ·exact ⟨.inl (b7 p q hq).1,(b7 p q hq).2⟩
   ·rw [List.getElem?_set] at hq fy
    split at hq
    ·rename_i XU
     split at hq
     ·have hq:=Option.some.inj hq
      split at fy
      ·rename_i Ai8;rw [<-XU,<-Ai8]
      ·exact absurd (h.1.apart hq h2 (Qc q hq).1 (he▸(b7 p' q' fy).1)) eV
     ·cases hq
    ·split at fy
     ·split at fy
      ·have fy:=Option.some.inj fy
       exact absurd (h.1.apart fy h2 (Qc q' fy).1 (he▸(b7 p q hq).1)) eV
      ·cases fy
     ·exact b8 p p' q q' hq fy he
   ·rw [List.getElem?_set] at hy
    split at hy
    ·rename_i XU
     subst XU
     have hy:=Option.some.inj hy
     subst hy
     exact ⟨vx,R,by rw [RQ,if_pos rfl],by rw [List.getElem?_set,if_pos rfl,if_pos (by omega)],pN,hfa.to (λq hq=>mj _ (Qc q hq).2.2) λes y hc=>mv.cells false e es y hc⟩
    ·rename_i XU
     obtain ⟨u',R',q1,q2,q3,q4⟩:=b9 p y hy (by rcases ho with ho|ho<;>rw [ho]<;>simp [XU])
     refine ⟨u',R',by rw [RQ,if_neg (Ne.symm XU)];exact q1,by rw [List.getElem?_set,if_neg XU];exact q2,q3,q4.to (λq hq=>mj _ ?_) λes y hc=>mv.cells false e es y hc⟩
     subst hq
     exact (b7 p q q2).2
   ·cases kp with
    |none=>trivial
    |some p=>
     obtain ⟨l0,n0⟩:=p
     simp only [KeptAt,Wg] at nY⊢
     cases GO:X.dv l0 with
     |none=>rw [GO] at nY;exact nY.elim
     |some r0=>
      rw [GO] at nY
      obtain ⟨g1,g2,g3,g4⟩:=nY
      refine ⟨g1,g2,g3,λp hp hc=>?_⟩
      have nX:p<n0/\p<j:=by omega
      rw [<-g4 p nX.1 hc,<-g1,<-g2,cellOf EE,cellOf b2,RQ,if_neg (by omega)]
  ·rw [EA k e1 e2] at hb
   cases hk:Ag st.heap k with
   |none=>rw [hk] at hb;cases hb
   |some b1=>
    rw [hk] at hb
    simp only [Option.map_some,Option.some.injEq] at hb;subst hb
    rw [dc k e1 e2]
    exact ((h.1.heap k).Na hk).move mv nU.size (λr0 c h0 h1=>h.1.sub _ r0 c h0 h1) λr0 c h0 h1 _=>mj c (o0 k r0 c h0 h1 e2)
 ·have e2:k≠l:= λe=>by subst e;rw [XD] at hk;cases hk
  by_cases e1:k=m
  ·subst e1;exact tC
  rw [EA k e1 e2] at hk
  rw [dc k e1 e2]
  cases pZ:Ag st.heap k with
  |none=>exact (h.1.heap k).emp pZ
  |some b=>rw [pZ] at hk;cases hk
end
end Go.Proofs.Ytjbdmibbbpdnnaa
