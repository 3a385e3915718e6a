/-
  Part 20 of the proof that the statement FnExactMethodLength holds.
-/
import Derived.Test.YtjbdmibbbpdnnaaCMethodLength18
namespace Go.Proofs.Ytjbdmibbbpdnnaa
open Go.RowKit
section
variable {P:Program} {T:Tab} {X:Ctx} {w w':World} {π π':Pi} {H H':List (Nat×OB)}
theorem kH (dead part:List Nat) (c:AC):Aw dead part c= .undef\/(Aw dead part c=c/\(∀k∈c.refs,k∉dead)/\ ∀k i j,c= .sub k i j\/c= .Ga k i j->k∉part):=by
 by_cases hu:Aw dead part c= .undef
 ·exact .inl hu
 have hr:=hJ hu
 have hp: ∀l i j,c= .sub l i j\/c= .Ga l i j->l∉part:=by
  intro l i j e hm
  refine hu ?_
  unfold Aw
  rcases e with rfl|rfl
  all_goals
   split
   ·rfl
   ·simp [hm]
 exact .inr ⟨Wg hr hp,hr,hp⟩
theorem MK {τ:Ty} (h:τ.Ac=false):τ.size=1:=by cases τ<;>simp_all [Ty.Ac,Ty.size]
theorem xY (hT:Cd P T) {st:St} {a:Act} (h:Aj X π st a w) {t:TypeId} {τ:Ty} (ht:T.ty t=some τ) (Nb:τ.Ac=false) {l j m:Nat} {e:Ty} {te tid:TypeId} {rows:List (List e.den)} {xs:List e.den} {out:Option Nat} {kp:Option (Nat×Nat)} {fr tr:Bool}
  (hl:Ae st.heap l=some (.Ak e te rows out kp)) (ho:out=none\/out=some j) (eg:m≠l) (hm:Ae st.heap m=some (.arr fr tr e tid xs)) (ph:l<Ai)
  {vp vx:Value} (hp:Ea X w π st.heap (.Gc l j) vp) (hx:Ea X w π st.heap (.own m 0 (List.length xs)) vx):
  ∃w' π',(Instr.storeAt t vp vx).run P w= .ok () w'/\Aj X π' (Mx st l j m e te rows xs (Vg j kp)) a w':=by
 have Wi:τ.size=1:=MK Nb
 obtain ⟨r,b0,sz,n,h1,h0,h3,h2,rfl⟩:=hp
 rw [hl] at h1;cases h1
 simp only [OB.row,Option.some.injEq,Prod.mk.injEq] at h0
 obtain ⟨rfl,rfl⟩:=h0
 rw [Nat.mul_one]
 obtain ⟨_,lU⟩:=Jm (X:=X) (w:=w) hx hm
 obtain ⟨ax,nx,cx,QJ⟩:=Tq lU
 have hb:=(h.1.heap l).Mh hl
 simp only [Au] at hb
 obtain ⟨hb,mY⟩:=hb
 rw [h2] at hb mY
 obtain ⟨b1,cur,ti,b2,b3,b4,b5,Rs,b6,b7,b8,b9⟩:=hb
 have xQ:=(h.1.heap m).Mh hm
 simp only [Au,Fv] at xQ
 have Om:=Pk (P:=P) (w:=w) (hT.ty _ _ ht) r.g (r.o+j) vx [vx] (by rw [QJ];rfl) (by rw [Wi];rfl) (by intro u hu;rw [List.mem_singleton.1 hu,QJ];rfl) cur ti b2 (by simp;omega)
 let R:Option Real:=π m
 have hfa:Lh w (Be X.w0.heap.size X.Sc π false) R e xs:=by
  show Lh w _ (π m) e xs
  cases hR:π m with
  |none=>rw [hR] at xQ;exact xQ
  |some q=>
   rw [hR] at xQ
   obtain ⟨⟨f0,f0',_⟩,cu,OM,f2,f3,f4,f5,f6,_⟩:=xQ
   exact ⟨⟨f0,f0'⟩,cu,OM,f2,f3,f4,f5,λp y hy=>by
    obtain ⟨es,g1,g2,g3⟩:=f6 p y hy
    exact ⟨es,g1,g2,Cells.Cr (Nat.le_refl _) (λ_ _ _=>rfl) (λb _ hA=>hA.imp id (Or.imp id λ⟨h1,_⟩=>by cases h1)) e es y g3⟩⟩
 have hRq: ∀q,R=some q->π m=some q:= λq hq=>hq
 have Pb: ∀q,R=some q->q.Ax q.g/\q.cl q.g/\q.g≠r.g:= λq hq=>⟨h.1.Ax hq,h.1.sub m q _ hq (h.1.Ax hq),λe0=>eg (h.1.apart hq h2 (h.1.Ax hq) (e0▸b1))⟩
 let rl:Real:= {r with Ax:= λb=>r.Ax b\/ ∃q,R=some q/\q.Ax b,cl:= λb=>r.cl b\/ ∃q,R=some q/\q.cl b}
 let π':Pi:= λk=>if k=m then none else if k=l then some rl else π k
 have sK:π' m=none:=if_pos rfl
 have yO:π' l=some rl:=(if_neg (Ne.symm eg)).trans (if_pos rfl)
 have cB: ∀k,k≠m->k≠l->π' k=π k:= λk g1 g2=>(if_neg g1).trans (if_neg g2)
 have oT: ∀k q,π' k=some q->(k=l/\q=rl)\/(k≠m/\k≠l/\π k=some q):= λk q hq=>by
  by_cases e1:k=m
  ·subst e1;rw [sK] at hq;cases hq
  ·by_cases e2:k=l
   ·subst e2;rw [yO] at hq;exact .inl ⟨rfl,(Option.some.inj hq).symm⟩
   ·rw [cB k e1 e2] at hq;exact .inr ⟨e1,e2,hq⟩
 have Oz:r.o+j+ [vx].length<=cur.toList.length:=by simp;omega
 have mU:=Il w r.g (Bh cur.toList (r.o+j) [vx]).toArray
 have lz: ∀c,c≠r.g->(w.setRow r.g (Bh cur.toList (r.o+j) [vx]).toArray).heap[c]?=w.heap[c]?:= λc hc=>setRow_other w r.g c _ hc
 have WJ: ∀k,Ae (Mx st l j m e te rows xs (Vg j kp)).heap k=Ae (Xp (Qe (st.heap.map λp=>(p.1,p.2.map (Aw [m] [l]))) [m]) l (.Ak e te (rows.set j xs) none (Vg j kp))) k:= λk=>rfl
 have vZ:Ae (Qe (st.heap.map λp=>(p.1,p.2.map (Aw [m] [l]))) [m]) l=some (.Ak e te rows out kp):=by
  rw [Im,Jr,if_neg (by simpa using Ne.symm eg),hl];rfl
 have UX:Ae (Mx st l j m e te rows xs (Vg j kp)).heap l=some (.Ak e te (rows.set j xs) none (Vg j kp)):=(WJ l).trans (Cq _ _ _ _ vZ)
 have BN: ∀k,k≠m->k≠l->Ae (Mx st l j m e te rows xs (Vg j kp)).heap k=(Ae st.heap k).map (OB.map (Aw [m] [l])):= λk g1 g2=>by
  rw [WJ,Cm _ _ _ _ g2,Im,Jr,if_neg (by simpa using g1)]
 have SZ:Ae (Mx st l j m e te rows xs (Vg j kp)).heap m=none:=by
  rw [WJ,Cm _ _ _ _ eg,Im,if_pos (by simp)]
 have Afw:r.cl r.g:=h.1.sub l r _ h2 b1
 have mZ: ∀k r0 c,π k=some r0->r0.cl c->k≠l->c≠r.g:= λk r0 c hk hc Ex e=>Ex (h.1.inj k l r0 r c hk h2 hc (e▸Afw))
 refine ⟨_,π',by simp only [Instr.storeAt,Instr.sureAddr];simpa using Om,?_⟩
 have Pc:Mx st l j m e te rows xs (Vg j kp)= {tmps:=st.tmps.map (·.map (Aw [m] [l])),heap:=(Mx st l j m e te rows xs (Vg j kp)).heap} :=rfl
 rw [Pc]
 refine h.iI (by simp [Aw,AC.refs]) (gv:= λc=>c=r.g) (λc hc=>hc▸⟨l,r,h2,b1⟩) ⟨mU.os,mU.tape,mU.output,mU.size,λc _ hc=>lz c hc⟩ (λb _ ⟨k,q,g1,g2⟩=>?_) (λk q b g1 g2=>?_) (λk q b g1 g2=>?_) (λk k' q q' b g1 g2 g3 g4=>?_) (λk hk Ex=>?_)
  (λhc=>iH (D:= λk=>k=m) (Pt:= λk=>k=l) (λc=>?_) (λk hk=>?_) (λk b hk hb=>?_) (λk r0 b hk hk2 g1 g2 g3=>lz _ (mZ k r0 _ g3 (h.1.sub k r0 _ g3 (h.1.Ax g3)) hk2)) hc) (λmv k b hb=>?_) (λk hk=>?_)
 ·rcases oT k q g1 with ⟨_,rfl⟩|⟨_,_,e1⟩
  ·rcases g2 with g2|⟨q0,g2,g3⟩
   ·exact ⟨l,r,h2,g2⟩
   ·exact ⟨m,q0,g2,g3⟩
  ·exact ⟨k,q,e1,g2⟩
 ·rcases oT k q g1 with ⟨_,rfl⟩|⟨_,_,e1⟩
  ·rcases g2 with g2|⟨q0,g2,g3⟩
   ·exact .inl (h.1.sub l r b h2 g2)
   ·exact .inr ⟨q0,g2,h.1.sub m q0 b g2 g3⟩
  ·exact h.1.sub k q b e1 g2
 ·have up: ∀k q b,π k=some q->q.cl b->(X.w0.heap.size<=b\/X.gv b)/\b<(w.setRow r.g (Bh cur.toList (r.o+j) [vx]).toArray).heap.size:= λk q b e1 e2=>⟨(h.1.place k q b e1 e2).1,Nat.lt_of_lt_of_le (h.1.place k q b e1 e2).2 mU.size⟩
  rcases oT k q g1 with ⟨_,rfl⟩|⟨_,_,e1⟩
  ·rcases g2 with g2|⟨q0,g2,g3⟩
   ·exact up l r b h2 g2
   ·exact up m q0 b g2 g3
  ·exact up k q b e1 g2
 ·rcases oT k q g1 with ⟨e0,rfl⟩|⟨e0,e2,e1⟩<;>rcases oT k' q' g2 with ⟨f0,rfl⟩|⟨f0,f2,f1⟩
  ·rw [e0,f0]
  ·rcases g3 with g3|⟨q0,g3,g5⟩
   ·exact absurd (h.1.inj k' l q' r b f1 h2 g4 g3) f2
   ·exact absurd (h.1.inj k' m q' q0 b f1 g3 g4 g5) f0
  ·rcases g4 with g4|⟨q0,g4,g5⟩
   ·exact absurd (h.1.inj k l q r b e1 h2 g3 g4) e2
   ·exact absurd (h.1.inj k m q q0 b e1 g4 g3 g5) e0
  ·exact h.1.inj k k' q q' b e1 f1 g3 g4
 ·by_cases e1:k=m
  ·subst e1;exact absurd SZ Ex
  have e2:k≠l:=by omega
  rw [cB k e1 e2]
  refine h.1.cR k hk λh0=>Ex ?_
  rw [BN k e1 e2,h0];rfl
 ·rcases kH [m] [l] c with e|⟨e,g,g'⟩
  ·exact .inl e
  ·exact .inr ⟨e,λk hk hkm=>g k hk (by simp [hkm]),λk i j hc Ja=>g' k i j hc (by simp [Ja])⟩
 ·by_cases e2:k=l
  ·subst e2;rw [yO,h2];exact ⟨rfl,rfl,rfl⟩
  ·rw [cB k hk e2];exact aZ.rfl' _
 ·by_cases e2:k=l
  ·subst e2
   rw [hl] at hb;cases hb
   exact ⟨_,UX,⟨λ_ n h=>⟨n,by simpa [OB.row] using h,Nat.le_refl _⟩,λ_ h=>by simpa [OB.bh] using h,λ_ h=>by simpa [OB.p9] using h,(λ_ _ h=>by cases h),(λ_ _ h=>by cases h)⟩⟩
  ·exact ⟨_,by rw [BN k hk e2,hb];rfl,OB.Mr.map _ b⟩
 ·by_cases e1:k=m
  ·subst e1;rw [SZ] at hb;cases hb
  by_cases e2:k=l
  ·subst e2
   rw [UX] at hb;cases hb
   rw [yO]
   have YV: ∀p,(Bh cur.toList (r.o+j) [vx]).toArray[r.o+p]?=if p=j then some vx else cur[r.o+p]?:= λp=>by
    rw [List.getElem?_toArray,Eg _ _ _ _ Oz]
    by_cases hpj:p=j
    ·subst hpj
     rw [if_neg (by omega),if_pos (by simp),if_pos rfl]
     simp
    ·rw [if_neg hpj]
     split
     ·simp
     ·rw [if_neg (by simp;omega)];simp
   have ic:=setRow_heap w r.g cur (Bh cur.toList (r.o+j) [vx]).toArray ti _ b2
   refine ⟨⟨.inl b1,_,_,ic,by rw [List.size_toArray,Ev _ _ _ Oz,Array.length_toList];exact b3,b4,by simpa using b5,Rs.set j R,by simpa using b6,λp q hq=>?_,λp p' q q' hq dP he=>?_,λp y hy _=>?_⟩,?_⟩
   ·rw [List.getElem?_set] at hq
    split at hq
    ·split at hq
     ·have hq:=Option.some.inj hq
      exact ⟨.inr ⟨q,hq,(Pb q hq).1⟩,(Pb q hq).2.2⟩
     ·cases hq
    ·exact ⟨.inl (b7 p q hq).1,(b7 p q hq).2⟩
   ·rw [List.getElem?_set] at hq dP
    split at hq
    ·rename_i VP
     split at hq
     ·have hq:=Option.some.inj hq
      split at dP
      ·rename_i Agf;rw [<-VP,<-Agf]
      ·exact absurd (h.1.apart hq h2 (Pb q hq).1 (he▸(b7 p' q' dP).1)) eg
     ·cases hq
    ·split at dP
     ·split at dP
      ·have dP:=Option.some.inj dP
       exact absurd (h.1.apart dP h2 (Pb q' dP).1 (he▸(b7 p q hq).1)) eg
      ·cases dP
     ·exact b8 p p' q q' hq dP he
   ·rw [List.getElem?_set] at hy
    split at hy
    ·rename_i VP
     subst VP
     have hy:=Option.some.inj hy
     subst hy
     exact ⟨vx,R,by rw [YV,if_pos rfl],by rw [List.getElem?_set,if_pos rfl,if_pos (by omega)],lU,hfa.to (λq hq=>lz _ (Pb q hq).2.2) λes y hc=>mv.cells false e es y hc⟩
    ·rename_i VP
     obtain ⟨u',R',q1,q2,q3,q4⟩:=b9 p y hy (by rcases ho with ho|ho<;>rw [ho]<;>simp [VP])
     refine ⟨u',R',by rw [YV,if_neg (Ne.symm VP)];exact q1,by rw [List.getElem?_set,if_neg VP];exact q2,q3,q4.to (λq hq=>lz _ ?_) λes y hc=>mv.cells false e es y hc⟩
     subst hq
     exact (b7 p q q2).2
   ·cases kp with
    |none=>trivial
    |some p=>
     obtain ⟨l0,n0⟩:=p
     simp only [KeptAt,Vg] at mY⊢
     cases ED:X.cR l0 with
     |none=>rw [ED] at mY;exact mY.elim
     |some r0=>
      rw [ED] at mY
      obtain ⟨g1,g2,g3,g4⟩:=mY
      refine ⟨g1,g2,g3,λp hp hc=>?_⟩
      have HZ:p<n0/\p<j:=by omega
      rw [<-g4 p HZ.1 hc,<-g1,<-g2,cellOf ic,cellOf b2,YV,if_neg (by omega)]
  ·rw [BN k e1 e2] at hb
   cases hk:Ae st.heap k with
   |none=>rw [hk] at hb;cases hb
   |some b1=>
    rw [hk] at hb
    simp only [Option.map_some,Option.some.injEq] at hb;subst hb
    rw [cB k e1 e2]
    exact ((h.1.heap k).Mh hk).move mv mU.size (λr0 c h0 h1=>h.1.sub _ r0 c h0 h1) λr0 c h0 h1 _=>lz c (mZ k r0 c h0 h1 e2)
 ·have e2:k≠l:= λe=>by subst e;rw [UX] at hk;cases hk
  by_cases e1:k=m
  ·subst e1;exact sK
  rw [BN k e1 e2] at hk
  rw [cB k e1 e2]
  cases pd:Ae st.heap k with
  |none=>exact (h.1.heap k).emp pd
  |some b=>rw [pd] at hk;cases hk
end
end Go.Proofs.Ytjbdmibbbpdnnaa
