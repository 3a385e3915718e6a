/-
  Part 20 of the proof that the statement FnSymmetries holds.
-/
import Derived.Test.YtkkdpknjohcekaaCFSymmetries18
namespace Go.Proofs.Ytkkdpknjohcekaa
open Go.RowKit
section
variable {P:Program} {T:Tab} {X:Ctx} {w w':World} {π π':Pi} {H H':List (Nat×OB)}
theorem nF (dead part:List Nat) (c:AC):Ch dead part c= .undef\/(Ch dead part c=c/\(∀k∈c.refs,k∉dead)/\ ∀k i j,c= .sub k i j\/c= .Jn k i j->k∉part):=by
 by_cases hu:Ch dead part c= .undef
 ·exact .inl hu
 have hr:=kW hu
 have hp: ∀l i j,c= .sub l i j\/c= .Jn l i j->l∉part:=by
  intro l i j e hm
  refine hu ?_
  unfold Ch
  rcases e with rfl|rfl
  all_goals
   split
   ·rfl
   ·simp [hm]
 exact .inr ⟨bk hr hp,hr,hp⟩
theorem RH {τ:Ty} (h:τ.Ap=false):τ.size=1:=by cases τ<;>simp_all [Ty.Ap,Ty.size]
theorem BE (hT:Du P T) {st:St} {a:Act} (h:Bb X π st a w) {t:TypeId} {τ:Ty} (ht:T.ty t=some τ) (Sq:τ.Ap=false) {l j m:Nat} {e:Ty} {te tid:TypeId} {rows:List (List e.den)} {xs:List e.den} {out:Option Nat} {kp:Option (Nat×Nat)} {fr tr:Bool}
  (hl:As st.heap l=some (.Bj e te rows out kp)) (ho:out=none\/out=some j) (fS:m≠l) (hm:As st.heap m=some (.arr fr tr e tid xs)) (ow:l<Be)
  {vp vx:Value} (hp:Gy X w π st.heap (.Jp l j) vp) (hx:Gy X w π st.heap (.own m 0 (List.length xs)) vx):
  ∃w' π',(Instr.storeAt t vp vx).run P w= .ok () w'/\Bb X π' (Sn st l j m e te rows xs (aE j kp)) a w':=by
 have Yz:τ.size=1:=RH Sq
 obtain ⟨r,b0,sz,n,h1,h0,h3,h2,rfl⟩:=hp
 rw [hl] at h1;cases h1
 simp only [OB.row,Aa,Ad] at h0
 obtain ⟨rfl,rfl⟩:=h0
 rw [Et]
 obtain ⟨_,rJ⟩:=Nx (X:=X) (w:=w) hx hm
 obtain ⟨ax,nx,cx,UU⟩:=Zp rJ
 have hb:=(h.1.heap l).Qq hl
 simp only [By] at hb
 obtain ⟨hb,xH⟩:=hb
 rw [h2] at hb xH
 obtain ⟨b1,cur,ti,b2,b3,b4,b5,Rs,b6,b7,b8,b9⟩:=hb
 have AY:=(h.1.heap m).Qq hm
 simp only [By,Jo] at AY
 have Qy:=Vj (P:=P) (w:=w) (hT.ty _ _ ht) r.g (r.o+j) vx [vx] (by rw [UU];rfl) (by rw [Yz];rfl) (by intro u hu;rw [Ae.1 hu,UU];rfl) cur ti b2 (by simp;omega)
 let R:Option Real:=π m
 have hfa:Rw w (Cr X.w0.heap.size X.Sc π false) R e xs:=by
  show Rw w _ (π m) e xs
  cases hR:π m with
  |none=>rw [hR] at AY;exact AY
  |some q=>
   rw [hR] at AY
   obtain ⟨⟨f0,f0',_⟩,cu,TI,f2,f3,f4,f5,f6,_⟩:=AY
   exact ⟨⟨f0,f0'⟩,cu,TI,f2,f3,f4,f5,λp y hy=>by
    obtain ⟨es,g1,g2,g3⟩:=f6 p y hy
    exact ⟨es,g1,g2,Cells.Fw (Ar _) (λ_ _ _=>rfl) (λb _ hA=>hA.imp id (Or.imp id λ⟨h1,_⟩=>by cases h1)) e es y g3⟩⟩
 have hRq: ∀q,R=some q->π m=some q:= λq hq=>hq
 have Vc: ∀q,R=some q->q.Cm q.g/\q.cl q.g/\q.g≠r.g:= λq hq=>⟨h.1.Cm hq,h.1.sub m q _ hq (h.1.Cm hq),λe0=>fS (h.1.apart hq h2 (h.1.Cm hq) (e0▸b1))⟩
 let rl:Real:= {r with Cm:= λb=>r.Cm b\/ ∃q,R=some q/\q.Cm b,cl:= λb=>r.cl b\/ ∃q,R=some q/\q.cl b}
 let π':Pi:= λk=>if k=m then none else if k=l then some rl else π k
 have vK:π' m=none:=Ab rfl
 have CP:π' l=some rl:=(Ai (Gl fS)).trans (Ab rfl)
 have fW: ∀k,k≠m->k≠l->π' k=π k:= λk g1 g2=>(Ai g1).trans (Ai g2)
 have rG: ∀k q,π' k=some q->(k=l/\q=rl)\/(k≠m/\k≠l/\π k=some q):= λk q hq=>by
  by_cases e1:k=m
  ·subst e1;rw [vK] at hq;cases hq
  ·by_cases e2:k=l
   ·subst e2;rw [CP] at hq;exact .inl ⟨rfl,(Aw hq).symm⟩
   ·rw [fW k e1 e2] at hq;exact .inr ⟨e1,e2,hq⟩
 have Wp:r.o+j+ [vx].length<=cur.toList.length:=by simp;omega
 have pU:=Mx w r.g (Dq cur.toList (r.o+j) [vx]).toArray
 have oz: ∀c,c≠r.g->(w.setRow r.g (Dq cur.toList (r.o+j) [vx]).toArray).heap[c]?=w.heap[c]?:= λc hc=>setRow_other w r.g c _ hc
 have ZZ: ∀k,As (Sn st l j m e te rows xs (aE j kp)).heap k=As (Yr (Wi (st.heap.map λp=>(p.1,p.2.map (Ch [m] [l]))) [m]) l (.Bj e te (rows.set j xs) none (aE j kp))) k:= λk=>rfl
 have GQ:As (Wi (st.heap.map λp=>(p.1,p.2.map (Ch [m] [l]))) [m]) l=some (.Bj e te rows out kp):=by
  rw [Mz,Oe,Ai (by simpa using Gl fS),hl];rfl
 have YS:As (Sn st l j m e te rows xs (aE j kp)).heap l=some (.Bj e te (rows.set j xs) none (aE j kp)):=(ZZ l).trans (Ej _ _ _ _ GQ)
 have GK: ∀k,k≠m->k≠l->As (Sn st l j m e te rows xs (aE j kp)).heap k=(As st.heap k).map (OB.map (Ch [m] [l])):= λk g1 g2=>by
  rw [ZZ,Dv _ _ _ _ g2,Mz,Oe,Ai (by simpa using g1)]
 have WO:As (Sn st l j m e te rows xs (aE j kp)).heap m=none:=by
  rw [ZZ,Dv _ _ _ _ fS,Mz,Ab (by simp)]
 have Ai3:r.cl r.g:=h.1.sub l r _ h2 b1
 have pZ: ∀k r0 c,π k=some r0->r0.cl c->k≠l->c≠r.g:= λk r0 c hk hc Is e=>Is (h.1.inj k l r0 r c hk h2 hc (e▸Ai3))
 refine ⟨_,π',by simp only [Instr.storeAt,Instr.sureAddr];simpa using Qy,?_⟩
 have Up:Sn st l j m e te rows xs (aE j kp)= {tmps:=st.tmps.map (·.map (Ch [m] [l])),heap:=(Sn st l j m e te rows xs (aE j kp)).heap} :=rfl
 rw [Up]
 refine h.lG (by simp [Ch,AC.refs]) (gv:= λc=>c=r.g) (λc hc=>hc▸⟨l,r,h2,b1⟩) ⟨pU.os,pU.tape,pU.output,pU.size,λc _ hc=>oz c hc⟩ (λb _ ⟨k,q,g1,g2⟩=>?_) (λk q b g1 g2=>?_) (λk q b g1 g2=>?_) (λk k' q q' b g1 g2 g3 g4=>?_) (λk hk Is=>?_)
  (λhc=>lF (D:= λk=>k=m) (Pt:= λk=>k=l) (λc=>?_) (λk hk=>?_) (λk b hk hb=>?_) (λk r0 b hk hk2 g1 g2 g3=>oz _ (pZ k r0 _ g3 (h.1.sub k r0 _ g3 (h.1.Cm g3)) hk2)) hc) (λmv k b hb=>?_) (λk hk=>?_)
 ·rcases rG k q g1 with ⟨_,rfl⟩|⟨_,_,e1⟩
  ·rcases g2 with g2|⟨q0,g2,g3⟩
   ·exact ⟨l,r,h2,g2⟩
   ·exact ⟨m,q0,g2,g3⟩
  ·exact ⟨k,q,e1,g2⟩
 ·rcases rG k q g1 with ⟨_,rfl⟩|⟨_,_,e1⟩
  ·rcases g2 with g2|⟨q0,g2,g3⟩
   ·exact .inl (h.1.sub l r b h2 g2)
   ·exact .inr ⟨q0,g2,h.1.sub m q0 b g2 g3⟩
  ·exact h.1.sub k q b e1 g2
 ·have up: ∀k q b,π k=some q->q.cl b->(X.w0.heap.size<=b\/X.gv b)/\b<(w.setRow r.g (Dq cur.toList (r.o+j) [vx]).toArray).heap.size:= λk q b e1 e2=>⟨(h.1.place k q b e1 e2).1,Ec (h.1.place k q b e1 e2).2 pU.size⟩
  rcases rG k q g1 with ⟨_,rfl⟩|⟨_,_,e1⟩
  ·rcases g2 with g2|⟨q0,g2,g3⟩
   ·exact up l r b h2 g2
   ·exact up m q0 b g2 g3
  ·exact up k q b e1 g2
 ·rcases rG k q g1 with ⟨e0,rfl⟩|⟨e0,e2,e1⟩<;>rcases rG k' q' g2 with ⟨f0,rfl⟩|⟨f0,f2,f1⟩
  ·rw [e0,f0]
  ·rcases g3 with g3|⟨q0,g3,g5⟩
   ·exact absurd (h.1.inj k' l q' r b f1 h2 g4 g3) f2
   ·exact absurd (h.1.inj k' m q' q0 b f1 g3 g4 g5) f0
  ·rcases g4 with g4|⟨q0,g4,g5⟩
   ·exact absurd (h.1.inj k l q r b e1 h2 g3 g4) e2
   ·exact absurd (h.1.inj k m q q0 b e1 g4 g3 g5) e0
  ·exact h.1.inj k k' q q' b e1 f1 g3 g4
 ·by_cases e1:k=m
  ·subst e1;exact absurd WO Is
  have e2:k≠l:=by omega
  rw [fW k e1 e2]
  refine h.1.fb k hk λh0=>Is ?_
  rw [GK k e1 e2,h0];rfl
 ·rcases nF [m] [l] c with e|⟨e,g,g'⟩
  ·exact .inl e
  ·exact .inr ⟨e,λk hk hkm=>g k hk (by simp [hkm]),λk i j hc Rl=>g' k i j hc (by simp [Rl])⟩
 ·by_cases e2:k=l
  ·subst e2;rw [CP,h2];exact ⟨rfl,rfl,rfl⟩
  ·rw [fW k hk e2];exact ej.rfl' _
 ·by_cases e2:k=l
  ·subst e2
   rw [hl] at hb;cases hb
   exact ⟨_,YS,⟨λ_ n h=>⟨n,by simpa [OB.row] using h,Ar _⟩,λ_ h=>by simpa [OB.ez] using h,λ_ h=>by simpa [OB.rV] using h,(λ_ _ h=>by cases h),(λ_ _ h=>by cases h)⟩⟩
  ·exact ⟨_,by rw [GK k hk e2,hb];rfl,OB.Sd.map _ b⟩
 ·by_cases e1:k=m
  ·subst e1;rw [WO] at hb;cases hb
  by_cases e2:k=l
  ·subst e2
   rw [YS] at hb;cases hb
   rw [CP]
   have hat: ∀p,(Dq cur.toList (r.o+j) [vx]).toArray[r.o+p]?=if p=j then some vx else cur[r.o+p]?:= λp=>by
    rw [Hp,Ho _ _ _ _ Wp]
    by_cases hpj:p=j
    ·subst hpj
     rw [Ai (by omega),Ab (by simp),Ab rfl]
     simp
    ·rw [Ai hpj]
     split
     ·simp
     ·rw [Ai (by simp;omega)];simp
   have GO:=setRow_heap w r.g cur (Dq cur.toList (r.o+j) [vx]).toArray ti _ b2
   refine ⟨⟨.inl b1,_,_,GO,by rw [Gf,Ie _ _ _ Wp,Wc];exact b3,b4,by simpa using b5,Rs.set j R,by simpa using b6,λp q hq=>?_,λp p' q q' hq m8 he=>?_,λp y hy _=>?_⟩,?_⟩
   ·rw [Eh] at hq
    split at hq
    ·split at hq
     ·have hq:=Aw hq
      exact ⟨.inr ⟨q,hq,(Vc q hq).1⟩,(Vc q hq).2.2⟩
     ·cases hq
    ·exact ⟨.inl (b7 p q hq).1,(b7 p q hq).2⟩
   ·rw [Eh] at hq m8
    split at hq
    ·rename_i ZJ
     split at hq
     ·have hq:=Aw hq
      split at m8
      ·rename_i Ain;rw [<-ZJ,<-Ain]
      ·exact absurd (h.1.apart hq h2 (Vc q hq).1 (he▸(b7 p' q' m8).1)) fS
     ·cases hq
    ·split at m8
     ·split at m8
      ·have m8:=Aw m8
       exact absurd (h.1.apart m8 h2 (Vc q' m8).1 (he▸(b7 p q hq).1)) fS
      ·cases m8
     ·exact b8 p p' q q' hq m8 he
   ·rw [Eh] at hy
    split at hy
    ·rename_i ZJ
     subst ZJ
     have hy:=Aw hy
     subst hy
     exact ⟨vx,R,by rw [hat,Ab rfl],by rw [Eh,Ab rfl,Ab (by omega)],rJ,hfa.to (λq hq=>oz _ (Vc q hq).2.2) λes y hc=>mv.cells false e es y hc⟩
    ·rename_i ZJ
     obtain ⟨u',R',q1,q2,q3,q4⟩:=b9 p y hy (by rcases ho with ho|ho<;>rw [ho]<;>simp [ZJ])
     refine ⟨u',R',by rw [hat,Ai (Gl ZJ)];exact q1,by rw [Eh,Ai ZJ];exact q2,q3,q4.to (λq hq=>oz _ ?_) λes y hc=>mv.cells false e es y hc⟩
     subst hq
     exact (b7 p q q2).2
   ·cases kp with
    |none=>trivial
    |some p=>
     obtain ⟨l0,n0⟩:=p
     simp only [KeptAt,aE] at xH⊢
     cases IX:X.fb l0 with
     |none=>rw [IX] at xH;exact xH.elim
     |some r0=>
      rw [IX] at xH
      obtain ⟨g1,g2,g3,g4⟩:=xH
      refine ⟨g1,g2,g3,λp hp hc=>?_⟩
      have MM:p<n0/\p<j:=by omega
      rw [<-g4 p MM.1 hc,<-g1,<-g2,cellOf GO,cellOf b2,hat,Ai (by omega)]
  ·rw [GK k e1 e2] at hb
   cases hk:As st.heap k with
   |none=>rw [hk] at hb;cases hb
   |some b1=>
    rw [hk] at hb
    simp only [Ah,Aa] at hb;subst hb
    rw [fW k e1 e2]
    exact ((h.1.heap k).Qq hk).move mv pU.size (λr0 c h0 h1=>h.1.sub _ r0 c h0 h1) λr0 c h0 h1 _=>oz c (pZ k r0 c h0 h1 e2)
 ·have e2:k≠l:= λe=>by subst e;rw [YS] at hk;cases hk
  by_cases e1:k=m
  ·subst e1;exact vK
  rw [GK k e1 e2] at hk
  rw [fW k e1 e2]
  cases rW:As st.heap k with
  |none=>exact (h.1.heap k).emp rW
  |some b=>rw [rW] at hk;cases hk
end
end Go.Proofs.Ytkkdpknjohcekaa
