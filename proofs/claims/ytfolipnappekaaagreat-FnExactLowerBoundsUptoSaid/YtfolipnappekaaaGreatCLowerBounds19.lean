/-
  Part 20 of the proof that the statement FnExactLowerBounds holds.
-/
import Derived.Test.YtfolipnappekaaaGreatCLowerBounds18
namespace Go.Proofs.YtfolipnappekaaaGreat
open Go.RowKit
section
variable {P:Program} {T:Tab} {X:Ctx} {w w':World} {π π':Pi} {H H':List (Nat×OB)}
theorem lr (dead part:List Nat) (c:AC):Ba dead part c= .undef\/(Ba dead part c=c/\(∀k∈c.refs,k∉dead)/\ ∀k i j,c= .sub k i j\/c= .Fp k i j->k∉part):=by
 by_cases hu:Ba dead part c= .undef
 ·exact .inl hu
 have hr:=iG hu
 have hp: ∀l i j,c= .sub l i j\/c= .Fp l i j->l∉part:=by
  intro l i j e hm
  refine hu ?_
  unfold Ba
  rcases e with rfl|rfl
  all_goals
   split
   ·rfl
   ·simp [hm]
 exact .inr ⟨Xj hr hp,hr,hp⟩
theorem PH {τ:Ty} (h:τ.Ab=false):τ.size=1:=by cases τ<;>simp_all [Ty.Ab,Ty.size]
theorem zJ (hT:Ca P T) {st:St} {a:Act} (h:Al X π st a w) {t:TypeId} {τ:Ty} (ht:T.ty t=some τ) (Nk:τ.Ab=false) {l j m:Nat} {e:Ty} {te tid:TypeId} {rows:List (List e.den)} {xs:List e.den} {out:Option Nat} {kp:Option (Nat×Nat)} {fr tr:Bool}
  (hl:Ad st.heap l=some (.Aj e te rows out kp)) (ho:out=none\/out=some j) (eQ:m≠l) (hm:Ad st.heap m=some (.arr fr tr e tid xs)) (oc:l<Ak)
  {vp vx:Value} (hp:Dw X w π st.heap (.Fu l j) vp) (hx:Dw X w π st.heap (.own m 0 (List.length xs)) vx):
  ∃w' π',(Instr.storeAt t vp vx).run P w= .ok () w'/\Al X π' (Ni st l j m e te rows xs (We j kp)) a w':=by
 have Xm:τ.size=1:=PH Nk
 obtain ⟨r,b0,sz,n,h1,h0,h3,h2,rfl⟩:=hp
 rw [hl] at h1;cases h1
 simp only [OB.row,Option.some.injEq,Prod.mk.injEq] at h0
 obtain ⟨rfl,rfl⟩:=h0
 rw [Nat.mul_one]
 obtain ⟨_,qc⟩:=Jh (X:=X) (w:=w) hx hm
 obtain ⟨ax,nx,cx,SX⟩:=Up qc
 have hb:=(h.1.heap l).Ku hl
 simp only [Aw] at hb
 obtain ⟨hb,oa⟩:=hb
 rw [h2] at hb oa
 obtain ⟨b1,cur,ti,b2,b3,b4,b5,Rs,b6,b7,b8,b9⟩:=hb
 have zB:=(h.1.heap m).Ku hm
 simp only [Aw,Fq] at zB
 have Pa:=Pv (P:=P) (w:=w) (hT.ty _ _ ht) r.g (r.o+j) vx [vx] (by rw [SX];rfl) (by rw [Xm];rfl) (by intro u hu;rw [List.mem_singleton.1 hu,SX];rfl) cur ti b2 (by simp;omega)
 let R:Option Real:=π m
 have hfa:Mr w (Bg X.w0.heap.size X.Sc π false) R e xs:=by
  show Mr w _ (π m) e xs
  cases hR:π m with
  |none=>rw [hR] at zB;exact zB
  |some q=>
   rw [hR] at zB
   obtain ⟨⟨f0,f0',_⟩,cu,RN,f2,f3,f4,f5,f6,_⟩:=zB
   exact ⟨⟨f0,f0'⟩,cu,RN,f2,f3,f4,f5,λp y hy=>by
    obtain ⟨es,g1,g2,g3⟩:=f6 p y hy
    exact ⟨es,g1,g2,Cells.Ch (Nat.le_refl _) (λ_ _ _=>rfl) (λb _ hA=>hA.imp id (Or.imp id λ⟨h1,_⟩=>by cases h1)) e es y g3⟩⟩
 have hRq: ∀q,R=some q->π m=some q:= λq hq=>hq
 have Pn: ∀q,R=some q->q.Bb q.g/\q.cl q.g/\q.g≠r.g:= λq hq=>⟨h.1.Bb hq,h.1.sub m q _ hq (h.1.Bb hq),λe0=>eQ (h.1.apart hq h2 (h.1.Bb hq) (e0▸b1))⟩
 let rl:Real:= {r with Bb:= λb=>r.Bb b\/ ∃q,R=some q/\q.Bb b,cl:= λb=>r.cl b\/ ∃q,R=some q/\q.cl b}
 let π':Pi:= λk=>if k=m then none else if k=l then some rl else π k
 have ui:π' m=none:=if_pos rfl
 have AX:π' l=some rl:=(if_neg (Ne.symm eQ)).trans (if_pos rfl)
 have cW: ∀k,k≠m->k≠l->π' k=π k:= λk g1 g2=>(if_neg g1).trans (if_neg g2)
 have qa: ∀k q,π' k=some q->(k=l/\q=rl)\/(k≠m/\k≠l/\π k=some q):= λk q hq=>by
  by_cases e1:k=m
  ·subst e1;rw [ui] at hq;cases hq
  ·by_cases e2:k=l
   ·subst e2;rw [AX] at hq;exact .inl ⟨rfl,(Option.some.inj hq).symm⟩
   ·rw [cW k e1 e2] at hq;exact .inr ⟨e1,e2,hq⟩
 have Qt:r.o+j+ [vx].length<=cur.toList.length:=by simp;omega
 have o5:=Ip w r.g (Bp cur.toList (r.o+j) [vx]).toArray
 have mi: ∀c,c≠r.g->(w.setRow r.g (Bp cur.toList (r.o+j) [vx]).toArray).heap[c]?=w.heap[c]?:= λc hc=>setRow_other w r.g c _ hc
 have ZD: ∀k,Ad (Ni st l j m e te rows xs (We j kp)).heap k=Ad (Tq (Qm (st.heap.map λp=>(p.1,p.2.map (Ba [m] [l]))) [m]) l (.Aj e te (rows.set j xs) none (We j kp))) k:= λk=>rfl
 have ek:Ad (Qm (st.heap.map λp=>(p.1,p.2.map (Ba [m] [l]))) [m]) l=some (.Aj e te rows out kp):=by
  rw [Iq,Jn,if_neg (by simpa using Ne.symm eQ),hl];rfl
 have XO:Ad (Ni st l j m e te rows xs (We j kp)).heap l=some (.Aj e te (rows.set j xs) none (We j kp)):=(ZD l).trans (Cd _ _ _ _ ek)
 have FK: ∀k,k≠m->k≠l->Ad (Ni st l j m e te rows xs (We j kp)).heap k=(Ad st.heap k).map (OB.map (Ba [m] [l])):= λk g1 g2=>by
  rw [ZD,Bs _ _ _ _ g2,Iq,Jn,if_neg (by simpa using g1)]
 have VB:Ad (Ni st l j m e te rows xs (We j kp)).heap m=none:=by
  rw [ZD,Bs _ _ _ _ eQ,Iq,if_pos (by simp)]
 have Ahe:r.cl r.g:=h.1.sub l r _ h2 b1
 have od: ∀k r0 c,π k=some r0->r0.cl c->k≠l->c≠r.g:= λk r0 c hk hc Fa e=>Fa (h.1.inj k l r0 r c hk h2 hc (e▸Ahe))
 refine ⟨_,π',by simp only [Instr.storeAt,Instr.sureAddr];simpa using Pa,?_⟩
 have Tx:Ni st l j m e te rows xs (We j kp)= {tmps:=st.tmps.map (·.map (Ba [m] [l])),heap:=(Ni st l j m e te rows xs (We j kp)).heap} :=rfl
 rw [Tx]
 refine h.jb (by simp [Ba,AC.refs]) (gv:= λc=>c=r.g) (λc hc=>hc▸⟨l,r,h2,b1⟩) ⟨o5.os,o5.tape,o5.output,o5.size,λc _ hc=>mi c hc⟩ (λb _ ⟨k,q,g1,g2⟩=>?_) (λk q b g1 g2=>?_) (λk q b g1 g2=>?_) (λk k' q q' b g1 g2 g3 g4=>?_) (λk hk Fa=>?_)
  (λhc=>ja (D:= λk=>k=m) (Pt:= λk=>k=l) (λc=>?_) (λk hk=>?_) (λk b hk hb=>?_) (λk r0 b hk MR g1 g2 g3=>mi _ (od k r0 _ g3 (h.1.sub k r0 _ g3 (h.1.Bb g3)) MR)) hc) (λmv k b hb=>?_) (λk hk=>?_)
 ·rcases qa k q g1 with ⟨_,rfl⟩|⟨_,_,e1⟩
  ·rcases g2 with g2|⟨q0,g2,g3⟩
   ·exact ⟨l,r,h2,g2⟩
   ·exact ⟨m,q0,g2,g3⟩
  ·exact ⟨k,q,e1,g2⟩
 ·rcases qa k q g1 with ⟨_,rfl⟩|⟨_,_,e1⟩
  ·rcases g2 with g2|⟨q0,g2,g3⟩
   ·exact .inl (h.1.sub l r b h2 g2)
   ·exact .inr ⟨q0,g2,h.1.sub m q0 b g2 g3⟩
  ·exact h.1.sub k q b e1 g2
 ·have up: ∀k q b,π k=some q->q.cl b->(X.w0.heap.size<=b\/X.gv b)/\b<(w.setRow r.g (Bp cur.toList (r.o+j) [vx]).toArray).heap.size:= λk q b e1 e2=>⟨(h.1.place k q b e1 e2).1,Nat.lt_of_lt_of_le (h.1.place k q b e1 e2).2 o5.size⟩
  rcases qa k q g1 with ⟨_,rfl⟩|⟨_,_,e1⟩
  ·rcases g2 with g2|⟨q0,g2,g3⟩
   ·exact up l r b h2 g2
   ·exact up m q0 b g2 g3
  ·exact up k q b e1 g2
 ·rcases qa k q g1 with ⟨e0,rfl⟩|⟨e0,e2,e1⟩<;>rcases qa k' q' g2 with ⟨f0,rfl⟩|⟨f0,f2,f1⟩
  ·rw [e0,f0]
  ·rcases g3 with g3|⟨q0,g3,g5⟩
   ·exact absurd (h.1.inj k' l q' r b f1 h2 g4 g3) f2
   ·exact absurd (h.1.inj k' m q' q0 b f1 g3 g4 g5) f0
  ·rcases g4 with g4|⟨q0,g4,g5⟩
   ·exact absurd (h.1.inj k l q r b e1 h2 g3 g4) e2
   ·exact absurd (h.1.inj k m q q0 b e1 g4 g3 g5) e0
  ·exact h.1.inj k k' q q' b e1 f1 g3 g4
 ·by_cases e1:k=m
  ·subst e1;exact absurd VB Fa
  have e2:k≠l:=by omega
  rw [cW k e1 e2]
  refine h.1.cg k hk λh0=>Fa ?_
  rw [FK k e1 e2,h0];rfl
 ·rcases lr [m] [l] c with e|⟨e,g,g'⟩
  ·exact .inl e
  ·exact .inr ⟨e,λk hk hkm=>g k hk (by simp [hkm]),λk i j hc Ma=>g' k i j hc (by simp [Ma])⟩
 ·by_cases e2:k=l
  ·subst e2;rw [AX,h2];exact ⟨rfl,rfl,rfl⟩
  ·rw [cW k hk e2];exact bB.rfl' _
 ·by_cases e2:k=l
  ·subst e2
   rw [hl] at hb;cases hb
   exact ⟨_,XO,⟨λ_ n h=>⟨n,by simpa [OB.row] using h,Nat.le_refl _⟩,λ_ h=>by simpa [OB.bJ] using h,λ_ h=>by simpa [OB.qt] using h,(λ_ _ h=>by cases h),(λ_ _ h=>by cases h)⟩⟩
  ·exact ⟨_,by rw [FK k hk e2,hb];rfl,OB.My.map _ b⟩
 ·by_cases e1:k=m
  ·subst e1;rw [VB] at hb;cases hb
  by_cases e2:k=l
  ·subst e2
   rw [XO] at hb;cases hb
   rw [AX]
   have hat: ∀p,(Bp cur.toList (r.o+j) [vx]).toArray[r.o+p]?=if p=j then some vx else cur[r.o+p]?:= λp=>by
    rw [List.getElem?_toArray,Eg _ _ _ _ Qt]
    by_cases hpj:p=j
    ·subst hpj
     rw [if_neg (by omega),if_pos (by simp),if_pos rfl]
     simp
    ·rw [if_neg hpj]
     split
     ·simp
     ·rw [if_neg (by simp;omega)];simp
   have FM:=setRow_heap w r.g cur (Bp cur.toList (r.o+j) [vx]).toArray ti _ b2
   refine ⟨⟨.inl b1,_,_,FM,by rw [List.size_toArray,Eo _ _ _ Qt,Array.length_toList];exact b3,b4,by simpa using b5,Rs.set j R,by simpa using b6,λp q hq=>?_,λp p' q q' hq gz he=>?_,λp y hy _=>?_⟩,?_⟩
   ·rw [List.getElem?_set] at hq
    split at hq
    ·split at hq
     ·have hq:=Option.some.inj hq
      exact ⟨.inr ⟨q,hq,(Pn q hq).1⟩,(Pn q hq).2.2⟩
     ·cases hq
    ·exact ⟨.inl (b7 p q hq).1,(b7 p q hq).2⟩
   ·rw [List.getElem?_set] at hq gz
    split at hq
    ·rename_i YD
     split at hq
     ·have hq:=Option.some.inj hq
      split at gz
      ·rename_i Ahu;rw [<-YD,<-Ahu]
      ·exact absurd (h.1.apart hq h2 (Pn q hq).1 (he▸(b7 p' q' gz).1)) eQ
     ·cases hq
    ·split at gz
     ·split at gz
      ·have gz:=Option.some.inj gz
       exact absurd (h.1.apart gz h2 (Pn q' gz).1 (he▸(b7 p q hq).1)) eQ
      ·cases gz
     ·exact b8 p p' q q' hq gz he
   ·rw [List.getElem?_set] at hy
    split at hy
    ·rename_i YD
     subst YD
     have hy:=Option.some.inj hy
     subst hy
     exact ⟨vx,R,by rw [hat,if_pos rfl],by rw [List.getElem?_set,if_pos rfl,if_pos (by omega)],qc,hfa.to (λq hq=>mi _ (Pn q hq).2.2) λes y hc=>mv.cells false e es y hc⟩
    ·rename_i YD
     obtain ⟨u',R',q1,q2,q3,q4⟩:=b9 p y hy (by rcases ho with ho|ho<;>rw [ho]<;>simp [YD])
     refine ⟨u',R',by rw [hat,if_neg (Ne.symm YD)];exact q1,by rw [List.getElem?_set,if_neg YD];exact q2,q3,q4.to (λq hq=>mi _ ?_) λes y hc=>mv.cells false e es y hc⟩
     subst hq
     exact (b7 p q q2).2
   ·cases kp with
    |none=>trivial
    |some p=>
     obtain ⟨l0,n0⟩:=p
     simp only [KeptAt,We] at oa⊢
     cases HP:X.cg l0 with
     |none=>rw [HP] at oa;exact oa.elim
     |some r0=>
      rw [HP] at oa
      obtain ⟨g1,g2,g3,g4⟩:=oa
      refine ⟨g1,g2,g3,λp hp hc=>?_⟩
      have LF:p<n0/\p<j:=by omega
      rw [<-g4 p LF.1 hc,<-g1,<-g2,cellOf FM,cellOf b2,hat,if_neg (by omega)]
  ·rw [FK k e1 e2] at hb
   cases hk:Ad st.heap k with
   |none=>rw [hk] at hb;cases hb
   |some b1=>
    rw [hk] at hb
    simp only [Option.map_some,Option.some.injEq] at hb;subst hb
    rw [cW k e1 e2]
    exact ((h.1.heap k).Ku hk).move mv o5.size (λr0 c h0 h1=>h.1.sub _ r0 c h0 h1) λr0 c h0 h1 _=>mi c (od k r0 c h0 h1 e2)
 ·have e2:k≠l:= λe=>by subst e;rw [XO] at hk;cases hk
  by_cases e1:k=m
  ·subst e1;exact ui
  rw [FK k e1 e2] at hk
  rw [cW k e1 e2]
  cases ud:Ad st.heap k with
  |none=>exact (h.1.heap k).emp ud
  |some b=>rw [ud] at hk;cases hk
end
end Go.Proofs.YtfolipnappekaaaGreat
