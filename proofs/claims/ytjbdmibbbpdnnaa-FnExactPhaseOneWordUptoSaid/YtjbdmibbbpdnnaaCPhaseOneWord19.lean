/-
  Part 20 of the proof that the statement FnExactPhaseOneWord holds.
-/
import Derived.Test.YtjbdmibbbpdnnaaCPhaseOneWord18
namespace Go.Proofs.Ytjbdmibbbpdnnaa
open Go.RowKit
section
variable {P:Program} {T:Tab} {X:Ctx} {w w':World} {π π':Pi} {H H':List (Nat×OB)}
theorem ku (dead part:List Nat) (c:AC):Aw dead part c= .undef\/(Aw dead part c=c/\(∀k∈c.refs,k∉dead)/\ ∀k i j,c= .sub k i j\/c= .Fw k i j->k∉part):=by
 by_cases hu:Aw dead part c= .undef
 ·exact .inl hu
 have hr:=gO hu
 have hp: ∀l i j,c= .sub l i j\/c= .Fw l i j->l∉part:=by
  intro l i j e hm
  refine hu ?_
  unfold Aw
  rcases e with rfl|rfl
  all_goals
   split
   ·rfl
   ·simp [hm]
 exact .inr ⟨Wa hr hp,hr,hp⟩
theorem KU {τ:Ty} (h:τ.Ac=false):τ.size=1:=by cases τ<;>simp_all [Ty.Ac,Ty.size]
theorem xJ (hT:Ca P T) {st:St} {a:Act} (h:Ai X π st a w) {t:TypeId} {τ:Ty} (ht:T.ty t=some τ) (Mu:τ.Ac=false) {l j m:Nat} {e:Ty} {te tid:TypeId} {rows:List (List e.den)} {xs:List e.den} {out:Option Nat} {kp:Option (Nat×Nat)} {fr tr:Bool}
  (hl:Ae st.heap l=some (.Ak e te rows out kp)) (ho:out=none\/out=some j) (dQ:m≠l) (hm:Ae st.heap m=some (.arr fr tr e tid xs)) (oS:l<Aj)
  {vp vx:Value} (hp:Dx X w π st.heap (.Fz l j) vp) (hx:Dx X w π st.heap (.own m 0 (List.length xs)) vx):
  ∃w' π',(Instr.storeAt t vp vx).run P w= .ok () w'/\Ai X π' (Ms st l j m e te rows xs (Vb j kp)) a w':=by
 have Ps:τ.size=1:=KU Mu
 obtain ⟨r,b0,sz,n,h1,h0,h3,h2,rfl⟩:=hp
 rw [hl] at h1;cases h1
 simp only [OB.row,Option.some.injEq,Prod.mk.injEq] at h0
 obtain ⟨rfl,rfl⟩:=h0
 rw [Nat.mul_one]
 obtain ⟨_,oD⟩:=Jc (X:=X) (w:=w) hx hm
 obtain ⟨ax,nx,cx,OQ⟩:=Ts oD
 have hb:=(h.1.heap l).Ma hl
 simp only [Au] at hb
 obtain ⟨hb,mL⟩:=hb
 rw [h2] at hb mL
 obtain ⟨b1,cur,ti,b2,b3,b4,b5,Rs,b6,b7,b8,b9⟩:=hb
 have xC:=(h.1.heap m).Ma hm
 simp only [Au,Fl] at xC
 have Og:=Pg (P:=P) (w:=w) (hT.ty _ _ ht) r.g (r.o+j) vx [vx] (by rw [OQ];rfl) (by rw [Ps];rfl) (by intro u hu;rw [List.mem_singleton.1 hu,OQ];rfl) cur ti b2 (by simp;omega)
 let R:Option Real:=π m
 have hfa:Md w (Be X.w0.heap.size X.Sc π false) R e xs:=by
  show Md w _ (π m) e xs
  cases hR:π m with
  |none=>rw [hR] at xC;exact xC
  |some q=>
   rw [hR] at xC
   obtain ⟨⟨f0,f0',_⟩,cu,MX,f2,f3,f4,f5,f6,_⟩:=xC
   exact ⟨⟨f0,f0'⟩,cu,MX,f2,f3,f4,f5,λp y hy=>by
    obtain ⟨es,g1,g2,g3⟩:=f6 p y hy
    exact ⟨es,g1,g2,Cells.Cr (Nat.le_refl _) (λ_ _ _=>rfl) (λb _ hA=>hA.imp id (Or.imp id λ⟨h1,_⟩=>by cases h1)) e es y g3⟩⟩
 have hRq: ∀q,R=some q->π m=some q:= λq hq=>hq
 have Ov: ∀q,R=some q->q.Ay q.g/\q.cl q.g/\q.g≠r.g:= λq hq=>⟨h.1.Ay hq,h.1.sub m q _ hq (h.1.Ay hq),λe0=>dQ (h.1.apart hq h2 (h.1.Ay hq) (e0▸b1))⟩
 let rl:Real:= {r with Ay:= λb=>r.Ay b\/ ∃q,R=some q/\q.Ay b,cl:= λb=>r.cl b\/ ∃q,R=some q/\q.cl b}
 let π':Pi:= λk=>if k=m then none else if k=l then some rl else π k
 have si:π' m=none:=if_pos rfl
 have yx:π' l=some rl:=(if_neg (Ne.symm dQ)).trans (if_pos rfl)
 have cd: ∀k,k≠m->k≠l->π' k=π k:= λk g1 g2=>(if_neg g1).trans (if_neg g2)
 have oB: ∀k q,π' k=some q->(k=l/\q=rl)\/(k≠m/\k≠l/\π k=some q):= λk q hq=>by
  by_cases e1:k=m
  ·subst e1;rw [si] at hq;cases hq
  ·by_cases e2:k=l
   ·subst e2;rw [yx] at hq;exact .inl ⟨rfl,(Option.some.inj hq).symm⟩
   ·rw [cd k e1 e2] at hq;exact .inr ⟨e1,e2,hq⟩
 have Ou:r.o+j+ [vx].length<=cur.toList.length:=by simp;omega
 have mG:=Ih w r.g (Bi cur.toList (r.o+j) [vx]).toArray
 have lg: ∀c,c≠r.g->(w.setRow r.g (Bi cur.toList (r.o+j) [vx]).toArray).heap[c]?=w.heap[c]?:= λc hc=>setRow_other w r.g c _ hc
 have UP: ∀k,Ae (Ms st l j m e te rows xs (Vb j kp)).heap k=Ae (Xe (Qf (st.heap.map λp=>(p.1,p.2.map (Aw [m] [l]))) [m]) l (.Ak e te (rows.set j xs) none (Vb j kp))) k:= λk=>rfl
 have vI:Ae (Qf (st.heap.map λp=>(p.1,p.2.map (Aw [m] [l]))) [m]) l=some (.Ak e te rows out kp):=by
  rw [Ii,Jg,if_neg (by simpa using Ne.symm dQ),hl];rfl
 have TC:Ae (Ms st l j m e te rows xs (Vb j kp)).heap l=some (.Ak e te (rows.set j xs) none (Vb j kp)):=(UP l).trans (Cn _ _ _ _ vI)
 have AR: ∀k,k≠m->k≠l->Ae (Ms st l j m e te rows xs (Vb j kp)).heap k=(Ae st.heap k).map (OB.map (Aw [m] [l])):= λk g1 g2=>by
  rw [UP,Ci _ _ _ _ g2,Ii,Jg,if_neg (by simpa using g1)]
 have QY:Ae (Ms st l j m e te rows xs (Vb j kp)).heap m=none:=by
  rw [UP,Ci _ _ _ _ dQ,Ii,if_pos (by simp)]
 have Aeo:r.cl r.g:=h.1.sub l r _ h2 b1
 have mM: ∀k r0 c,π k=some r0->r0.cl c->k≠l->c≠r.g:= λk r0 c hk hc El e=>El (h.1.inj k l r0 r c hk h2 hc (e▸Aeo))
 refine ⟨_,π',by simp only [Instr.storeAt,Instr.sureAddr];simpa using Og,?_⟩
 have Qn:Ms st l j m e te rows xs (Vb j kp)= {tmps:=st.tmps.map (·.map (Aw [m] [l])),heap:=(Ms st l j m e te rows xs (Vb j kp)).heap} :=rfl
 rw [Qn]
 refine h.iu (by simp [Aw,AC.refs]) (gv:= λc=>c=r.g) (λc hc=>hc▸⟨l,r,h2,b1⟩) ⟨mG.os,mG.tape,mG.output,mG.size,λc _ hc=>lg c hc⟩ (λb _ ⟨k,q,g1,g2⟩=>?_) (λk q b g1 g2=>?_) (λk q b g1 g2=>?_) (λk k' q q' b g1 g2 g3 g4=>?_) (λk hk El=>?_)
  (λhc=>ir (D:= λk=>k=m) (Pt:= λk=>k=l) (λc=>?_) (λk hk=>?_) (λk b hk hb=>?_) (λk r0 b hk MO g1 g2 g3=>lg _ (mM k r0 _ g3 (h.1.sub k r0 _ g3 (h.1.Ay g3)) MO)) hc) (λmv k b hb=>?_) (λk hk=>?_)
 ·rcases oB k q g1 with ⟨_,rfl⟩|⟨_,_,e1⟩
  ·rcases g2 with g2|⟨q0,g2,g3⟩
   ·exact ⟨l,r,h2,g2⟩
   ·exact ⟨m,q0,g2,g3⟩
  ·exact ⟨k,q,e1,g2⟩
 ·rcases oB k q g1 with ⟨_,rfl⟩|⟨_,_,e1⟩
  ·rcases g2 with g2|⟨q0,g2,g3⟩
   ·exact .inl (h.1.sub l r b h2 g2)
   ·exact .inr ⟨q0,g2,h.1.sub m q0 b g2 g3⟩
  ·exact h.1.sub k q b e1 g2
 ·have up: ∀k q b,π k=some q->q.cl b->(X.w0.heap.size<=b\/X.gv b)/\b<(w.setRow r.g (Bi cur.toList (r.o+j) [vx]).toArray).heap.size:= λk q b e1 e2=>⟨(h.1.place k q b e1 e2).1,Nat.lt_of_lt_of_le (h.1.place k q b e1 e2).2 mG.size⟩
  rcases oB k q g1 with ⟨_,rfl⟩|⟨_,_,e1⟩
  ·rcases g2 with g2|⟨q0,g2,g3⟩
   ·exact up l r b h2 g2
   ·exact up m q0 b g2 g3
  ·exact up k q b e1 g2
 ·rcases oB k q g1 with ⟨e0,rfl⟩|⟨e0,e2,e1⟩<;>rcases oB k' q' g2 with ⟨f0,rfl⟩|⟨f0,f2,f1⟩
  ·rw [e0,f0]
  ·rcases g3 with g3|⟨q0,g3,g5⟩
   ·exact absurd (h.1.inj k' l q' r b f1 h2 g4 g3) f2
   ·exact absurd (h.1.inj k' m q' q0 b f1 g3 g4 g5) f0
  ·rcases g4 with g4|⟨q0,g4,g5⟩
   ·exact absurd (h.1.inj k l q r b e1 h2 g3 g4) e2
   ·exact absurd (h.1.inj k m q q0 b e1 g4 g3 g5) e0
  ·exact h.1.inj k k' q q' b e1 f1 g3 g4
 ·by_cases e1:k=m
  ·subst e1;exact absurd QY El
  have e2:k≠l:=by omega
  rw [cd k e1 e2]
  refine h.1.cz k hk λh0=>El ?_
  rw [AR k e1 e2,h0];rfl
 ·rcases ku [m] [l] c with e|⟨e,g,g'⟩
  ·exact .inl e
  ·exact .inr ⟨e,λk hk hkm=>g k hk (by simp [hkm]),λk i j hc Ht=>g' k i j hc (by simp [Ht])⟩
 ·by_cases e2:k=l
  ·subst e2;rw [yx,h2];exact ⟨rfl,rfl,rfl⟩
  ·rw [cd k hk e2];exact aM.rfl' _
 ·by_cases e2:k=l
  ·subst e2
   rw [hl] at hb;cases hb
   exact ⟨_,TC,⟨λ_ n h=>⟨n,by simpa [OB.row] using h,Nat.le_refl _⟩,λ_ h=>by simpa [OB.aS] using h,λ_ h=>by simpa [OB.oL] using h,(λ_ _ h=>by cases h),(λ_ _ h=>by cases h)⟩⟩
  ·exact ⟨_,by rw [AR k hk e2,hb];rfl,OB.Mm.map _ b⟩
 ·by_cases e1:k=m
  ·subst e1;rw [QY] at hb;cases hb
  by_cases e2:k=l
  ·subst e2
   rw [TC] at hb;cases hb
   rw [yx]
   have NT: ∀p,(Bi cur.toList (r.o+j) [vx]).toArray[r.o+p]?=if p=j then some vx else cur[r.o+p]?:= λp=>by
    rw [List.getElem?_toArray,Ec _ _ _ _ Ou]
    by_cases hpj:p=j
    ·subst hpj
     rw [if_neg (by omega),if_pos (by simp),if_pos rfl]
     simp
    ·rw [if_neg hpj]
     split
     ·simp
     ·rw [if_neg (by simp;omega)];simp
   have AW:=setRow_heap w r.g cur (Bi cur.toList (r.o+j) [vx]).toArray ti _ b2
   refine ⟨⟨.inl b1,_,_,AW,by rw [List.size_toArray,Ep _ _ _ Ou,Array.length_toList];exact b3,b4,by simpa using b5,Rs.set j R,by simpa using b6,λp q hq=>?_,λp p' q q' hq ek he=>?_,λp y hy _=>?_⟩,?_⟩
   ·rw [List.getElem?_set] at hq
    split at hq
    ·split at hq
     ·have hq:=Option.some.inj hq
      exact ⟨.inr ⟨q,hq,(Ov q hq).1⟩,(Ov q hq).2.2⟩
     ·cases hq
    ·exact ⟨.inl (b7 p q hq).1,(b7 p q hq).2⟩
   ·rw [List.getElem?_set] at hq ek
    split at hq
    ·rename_i TT
     split at hq
     ·have hq:=Option.some.inj hq
      split at ek
      ·rename_i Afa;rw [<-TT,<-Afa]
      ·exact absurd (h.1.apart hq h2 (Ov q hq).1 (he▸(b7 p' q' ek).1)) dQ
     ·cases hq
    ·split at ek
     ·split at ek
      ·have ek:=Option.some.inj ek
       exact absurd (h.1.apart ek h2 (Ov q' ek).1 (he▸(b7 p q hq).1)) dQ
      ·cases ek
     ·exact b8 p p' q q' hq ek he
   ·rw [List.getElem?_set] at hy
    split at hy
    ·rename_i TT
     subst TT
     have hy:=Option.some.inj hy
     subst hy
     exact ⟨vx,R,by rw [NT,if_pos rfl],by rw [List.getElem?_set,if_pos rfl,if_pos (by omega)],oD,hfa.to (λq hq=>lg _ (Ov q hq).2.2) λes y hc=>mv.cells false e es y hc⟩
    ·rename_i TT
     obtain ⟨u',R',q1,q2,q3,q4⟩:=b9 p y hy (by rcases ho with ho|ho<;>rw [ho]<;>simp [TT])
     refine ⟨u',R',by rw [NT,if_neg (Ne.symm TT)];exact q1,by rw [List.getElem?_set,if_neg TT];exact q2,q3,q4.to (λq hq=>lg _ ?_) λes y hc=>mv.cells false e es y hc⟩
     subst hq
     exact (b7 p q q2).2
   ·cases kp with
    |none=>trivial
    |some p=>
     obtain ⟨l0,n0⟩:=p
     simp only [KeptAt,Vb] at mL⊢
     cases CY:X.cz l0 with
     |none=>rw [CY] at mL;exact mL.elim
     |some r0=>
      rw [CY] at mL
      obtain ⟨g1,g2,g3,g4⟩:=mL
      refine ⟨g1,g2,g3,λp hp hc=>?_⟩
      have mJ:p<n0/\p<j:=by omega
      rw [<-g4 p mJ.1 hc,<-g1,<-g2,cellOf AW,cellOf b2,NT,if_neg (by omega)]
  ·rw [AR k e1 e2] at hb
   cases hk:Ae st.heap k with
   |none=>rw [hk] at hb;cases hb
   |some b1=>
    rw [hk] at hb
    simp only [Option.map_some,Option.some.injEq] at hb;subst hb
    rw [cd k e1 e2]
    exact ((h.1.heap k).Ma hk).move mv mG.size (λr0 c h0 h1=>h.1.sub _ r0 c h0 h1) λr0 c h0 h1 _=>lg c (mM k r0 c h0 h1 e2)
 ·have e2:k≠l:= λe=>by subst e;rw [TC] at hk;cases hk
  by_cases e1:k=m
  ·subst e1;exact si
  rw [AR k e1 e2] at hk
  rw [cd k e1 e2]
  cases oP:Ae st.heap k with
  |none=>exact (h.1.heap k).emp oP
  |some b=>rw [oP] at hk;cases hk
end
end Go.Proofs.Ytjbdmibbbpdnnaa
