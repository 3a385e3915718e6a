/-
  Part 20 of the proof that the statement FnExactLongestMethodSolution holds.
-/
import Derived.Test.YtjbdmibbbpdnnaaCLongestMethodSolution18
namespace Go.Proofs.Ytjbdmibbbpdnnaa
open Go.RowKit
section
variable {P:Program} {T:Tab} {X:Ctx} {w w':World} {π π':Pi} {H H':List (Nat×OB)}
theorem jV (dead part:List Nat) (c:AC):Av dead part c= .undef\/(Av dead part c=c/\(∀k∈c.refs,k∉dead)/\ ∀k i j,c= .sub k i j\/c= .Fv k i j->k∉part):=by
 by_cases hu:Av dead part c= .undef
 ·exact .inl hu
 have hr:=gI hu
 have hp: ∀l i j,c= .sub l i j\/c= .Fv l i j->l∉part:=by
  intro l i j e hm
  refine hu ?_
  unfold Av
  rcases e with rfl|rfl
  all_goals
   split
   ·rfl
   ·simp [hm]
 exact .inr ⟨Vt hr hp,hr,hp⟩
theorem KJ {τ:Ty} (h:τ.Ac=false):τ.size=1:=by cases τ<;>simp_all [Ty.Ac,Ty.size]
theorem xl (hT:Cd P T) {st:St} {a:Act} (h:Ai X π st a w) {t:TypeId} {τ:Ty} (ht:T.ty t=some τ) (Ms:τ.Ac=false) {l j m:Nat} {e:Ty} {te tid:TypeId} {rows:List (List e.den)} {xs:List e.den} {out:Option Nat} {kp:Option (Nat×Nat)} {fr tr:Bool}
  (hl:Ae st.heap l=some (.Al e te rows out kp)) (ho:out=none\/out=some j) (dM:m≠l) (hm:Ae st.heap m=some (.arr fr tr e tid xs)) (oI:l<Aj)
  {vp vx:Value} (hp:Dy X w π st.heap (.Fy l j) vp) (hx:Dy X w π st.heap (.own m 0 (List.length xs)) vx):
  ∃w' π',(Instr.storeAt t vp vx).run P w= .ok () w'/\Ai X π' (Mq st l j m e te rows xs (Ur j kp)) a w':=by
 have Vv:τ.size=1:=KJ Ms
 obtain ⟨r,b0,sz,n,h1,h0,h3,h2,rfl⟩:=hp
 rw [hl] at h1;cases h1
 simp only [OB.row,Option.some.injEq,Prod.mk.injEq] at h0
 obtain ⟨rfl,rfl⟩:=h0
 rw [Nat.mul_one]
 obtain ⟨_,om⟩:=Jf (X:=X) (w:=w) hx hm
 obtain ⟨ax,nx,cx,OE⟩:=Tf om
 have hb:=(h.1.heap l).Mc hl
 simp only [Au] at hb
 obtain ⟨hb,mo⟩:=hb
 rw [h2] at hb mo
 obtain ⟨b1,cur,ti,b2,b3,b4,b5,Rs,b6,b7,b8,b9⟩:=hb
 have xd:=(h.1.heap m).Mc hm
 simp only [Au,Fk] at xd
 have Of:=Pc (P:=P) (w:=w) (hT.ty _ _ ht) r.g (r.o+j) vx [vx] (by rw [OE];rfl) (by rw [Vv];rfl) (by intro u hu;rw [List.mem_singleton.1 hu,OE];rfl) cur ti b2 (by simp;omega)
 let R:Option Real:=π m
 have hfa:Me w (Bd X.w0.heap.size X.Sc π false) R e xs:=by
  show Me w _ (π m) e xs
  cases hR:π m with
  |none=>rw [hR] at xd;exact xd
  |some q=>
   rw [hR] at xd
   obtain ⟨⟨f0,f0',_⟩,cu,MJ,f2,f3,f4,f5,f6,_⟩:=xd
   exact ⟨⟨f0,f0'⟩,cu,MJ,f2,f3,f4,f5,λp y hy=>by
    obtain ⟨es,g1,g2,g3⟩:=f6 p y hy
    exact ⟨es,g1,g2,Cells.Ct (Nat.le_refl _) (λ_ _ _=>rfl) (λb _ hA=>hA.imp id (Or.imp id λ⟨h1,_⟩=>by cases h1)) e es y g3⟩⟩
 have hRq: ∀q,R=some q->π m=some q:= λq hq=>hq
 have Ou: ∀q,R=some q->q.Ay q.g/\q.cl q.g/\q.g≠r.g:= λq hq=>⟨h.1.Ay hq,h.1.sub m q _ hq (h.1.Ay hq),λe0=>dM (h.1.apart hq h2 (h.1.Ay hq) (e0▸b1))⟩
 let rl:Real:= {r with Ay:= λb=>r.Ay b\/ ∃q,R=some q/\q.Ay b,cl:= λb=>r.cl b\/ ∃q,R=some q/\q.cl b}
 let π':Pi:= λk=>if k=m then none else if k=l then some rl else π k
 have rT:π' m=none:=if_pos rfl
 have xZ:π' l=some rl:=(if_neg (Ne.symm dM)).trans (if_pos rfl)
 have cb: ∀k,k≠m->k≠l->π' k=π k:= λk g1 g2=>(if_neg g1).trans (if_neg g2)
 have od: ∀k q,π' k=some q->(k=l/\q=rl)\/(k≠m/\k≠l/\π k=some q):= λk q hq=>by
  by_cases e1:k=m
  ·subst e1;rw [rT] at hq;cases hq
  ·by_cases e2:k=l
   ·subst e2;rw [xZ] at hq;exact .inl ⟨rfl,(Option.some.inj hq).symm⟩
   ·rw [cb k e1 e2] at hq;exact .inr ⟨e1,e2,hq⟩
 have Qb:r.o+j+ [vx].length<=cur.toList.length:=by simp;omega
 have mh:=Ii w r.g (Bg cur.toList (r.o+j) [vx]).toArray
 have kW: ∀c,c≠r.g->(w.setRow r.g (Bg cur.toList (r.o+j) [vx]).toArray).heap[c]?=w.heap[c]?:= λc hc=>setRow_other w r.g c _ hc
 have UG: ∀k,Ae (Mq st l j m e te rows xs (Ur j kp)).heap k=Ae (Xa (Pu (st.heap.map λp=>(p.1,p.2.map (Av [m] [l]))) [m]) l (.Al e te (rows.set j xs) none (Ur j kp))) k:= λk=>rfl
 have jZ:Ae (Pu (st.heap.map λp=>(p.1,p.2.map (Av [m] [l]))) [m]) l=some (.Al e te rows out kp):=by
  rw [Ij,Jj,if_neg (by simpa using Ne.symm dM),hl];rfl
 have SU:Ae (Mq st l j m e te rows xs (Ur j kp)).heap l=some (.Al e te (rows.set j xs) none (Ur j kp)):=(UG l).trans (Cq _ _ _ _ jZ)
 have zX: ∀k,k≠m->k≠l->Ae (Mq st l j m e te rows xs (Ur j kp)).heap k=(Ae st.heap k).map (OB.map (Av [m] [l])):= λk g1 g2=>by
  rw [UG,Cn _ _ _ _ g2,Ij,Jj,if_neg (by simpa using g1)]
 have QS:Ae (Mq st l j m e te rows xs (Ur j kp)).heap m=none:=by
  rw [UG,Cn _ _ _ _ dM,Ij,if_pos (by simp)]
 have Aef:r.cl r.g:=h.1.sub l r _ h2 b1
 have mq: ∀k r0 c,π k=some r0->r0.cl c->k≠l->c≠r.g:= λk r0 c hk hc Er e=>Er (h.1.inj k l r0 r c hk h2 hc (e▸Aef))
 refine ⟨_,π',by simp only [Instr.storeAt,Instr.sureAddr];simpa using Of,?_⟩
 have Og:Mq st l j m e te rows xs (Ur j kp)= {tmps:=st.tmps.map (·.map (Av [m] [l])),heap:=(Mq st l j m e te rows xs (Ur j kp)).heap} :=rfl
 rw [Og]
 refine h.ig (by simp [Av,AC.refs]) (gv:= λc=>c=r.g) (λc hc=>hc▸⟨l,r,h2,b1⟩) ⟨mh.os,mh.tape,mh.output,mh.size,λc _ hc=>kW c hc⟩ (λb _ ⟨k,q,g1,g2⟩=>?_) (λk q b g1 g2=>?_) (λk q b g1 g2=>?_) (λk k' q q' b g1 g2 g3 g4=>?_) (λk hk Er=>?_)
  (λhc=>ie (D:= λk=>k=m) (Pt:= λk=>k=l) (λc=>?_) (λk hk=>?_) (λk b hk hb=>?_) (λk r0 b hk hk2 g1 g2 g3=>kW _ (mq k r0 _ g3 (h.1.sub k r0 _ g3 (h.1.Ay g3)) hk2)) hc) (λmv k b hb=>?_) (λk hk=>?_)
 ·rcases od k q g1 with ⟨_,rfl⟩|⟨_,_,e1⟩
  ·rcases g2 with g2|⟨q0,g2,g3⟩
   ·exact ⟨l,r,h2,g2⟩
   ·exact ⟨m,q0,g2,g3⟩
  ·exact ⟨k,q,e1,g2⟩
 ·rcases od k q g1 with ⟨_,rfl⟩|⟨_,_,e1⟩
  ·rcases g2 with g2|⟨q0,g2,g3⟩
   ·exact .inl (h.1.sub l r b h2 g2)
   ·exact .inr ⟨q0,g2,h.1.sub m q0 b g2 g3⟩
  ·exact h.1.sub k q b e1 g2
 ·have up: ∀k q b,π k=some q->q.cl b->(X.w0.heap.size<=b\/X.gv b)/\b<(w.setRow r.g (Bg cur.toList (r.o+j) [vx]).toArray).heap.size:= λk q b e1 e2=>⟨(h.1.place k q b e1 e2).1,Nat.lt_of_lt_of_le (h.1.place k q b e1 e2).2 mh.size⟩
  rcases od k q g1 with ⟨_,rfl⟩|⟨_,_,e1⟩
  ·rcases g2 with g2|⟨q0,g2,g3⟩
   ·exact up l r b h2 g2
   ·exact up m q0 b g2 g3
  ·exact up k q b e1 g2
 ·rcases od k q g1 with ⟨e0,rfl⟩|⟨e0,e2,e1⟩<;>rcases od k' q' g2 with ⟨f0,rfl⟩|⟨f0,f2,f1⟩
  ·rw [e0,f0]
  ·rcases g3 with g3|⟨q0,g3,g5⟩
   ·exact absurd (h.1.inj k' l q' r b f1 h2 g4 g3) f2
   ·exact absurd (h.1.inj k' m q' q0 b f1 g3 g4 g5) f0
  ·rcases g4 with g4|⟨q0,g4,g5⟩
   ·exact absurd (h.1.inj k l q r b e1 h2 g3 g4) e2
   ·exact absurd (h.1.inj k m q q0 b e1 g4 g3 g5) e0
  ·exact h.1.inj k k' q q' b e1 f1 g3 g4
 ·by_cases e1:k=m
  ·subst e1;exact absurd QS Er
  have e2:k≠l:=by omega
  rw [cb k e1 e2]
  refine h.1.cw k hk λh0=>Er ?_
  rw [zX k e1 e2,h0];rfl
 ·rcases jV [m] [l] c with e|⟨e,g,g'⟩
  ·exact .inl e
  ·exact .inr ⟨e,λk hk hkm=>g k hk (by simp [hkm]),λk i j hc Iv=>g' k i j hc (by simp [Iv])⟩
 ·by_cases e2:k=l
  ·subst e2;rw [xZ,h2];exact ⟨rfl,rfl,rfl⟩
  ·rw [cb k hk e2];exact aG.rfl' _
 ·by_cases e2:k=l
  ·subst e2
   rw [hl] at hb;cases hb
   exact ⟨_,SU,⟨λ_ n h=>⟨n,by simpa [OB.row] using h,Nat.le_refl _⟩,λ_ h=>by simpa [OB.aM] using h,λ_ h=>by simpa [OB.oB] using h,(λ_ _ h=>by cases h),(λ_ _ h=>by cases h)⟩⟩
  ·exact ⟨_,by rw [zX k hk e2,hb];rfl,OB.Mk.map _ b⟩
 ·by_cases e1:k=m
  ·subst e1;rw [QS] at hb;cases hb
  by_cases e2:k=l
  ·subst e2
   rw [SU] at hb;cases hb
   rw [xZ]
   have WR: ∀p,(Bg cur.toList (r.o+j) [vx]).toArray[r.o+p]?=if p=j then some vx else cur[r.o+p]?:= λp=>by
    rw [List.getElem?_toArray,Ef _ _ _ _ Qb]
    by_cases ZK:p=j
    ·subst ZK
     rw [if_neg (by omega),if_pos (by simp),if_pos rfl]
     simp
    ·rw [if_neg ZK]
     split
     ·simp
     ·rw [if_neg (by simp;omega)];simp
   have AB:=setRow_heap w r.g cur (Bg cur.toList (r.o+j) [vx]).toArray ti _ b2
   refine ⟨⟨.inl b1,_,_,AB,by rw [List.size_toArray,Eo _ _ _ Qb,Array.length_toList];exact b3,b4,by simpa using b5,Rs.set j R,by simpa using b6,λp q hq=>?_,λp p' q q' hq eg he=>?_,λp y hy _=>?_⟩,?_⟩
   ·rw [List.getElem?_set] at hq
    split at hq
    ·split at hq
     ·have hq:=Option.some.inj hq
      exact ⟨.inr ⟨q,hq,(Ou q hq).1⟩,(Ou q hq).2.2⟩
     ·cases hq
    ·exact ⟨.inl (b7 p q hq).1,(b7 p q hq).2⟩
   ·rw [List.getElem?_set] at hq eg
    split at hq
    ·rename_i TN
     split at hq
     ·have hq:=Option.some.inj hq
      split at eg
      ·rename_i Af0;rw [<-TN,<-Af0]
      ·exact absurd (h.1.apart hq h2 (Ou q hq).1 (he▸(b7 p' q' eg).1)) dM
     ·cases hq
    ·split at eg
     ·split at eg
      ·have eg:=Option.some.inj eg
       exact absurd (h.1.apart eg h2 (Ou q' eg).1 (he▸(b7 p q hq).1)) dM
      ·cases eg
     ·exact b8 p p' q q' hq eg he
   ·rw [List.getElem?_set] at hy
    split at hy
    ·rename_i TN
     subst TN
     have hy:=Option.some.inj hy
     subst hy
     exact ⟨vx,R,by rw [WR,if_pos rfl],by rw [List.getElem?_set,if_pos rfl,if_pos (by omega)],om,hfa.to (λq hq=>kW _ (Ou q hq).2.2) λes y hc=>mv.cells false e es y hc⟩
    ·rename_i TN
     obtain ⟨u',R',q1,q2,q3,q4⟩:=b9 p y hy (by rcases ho with ho|ho<;>rw [ho]<;>simp [TN])
     refine ⟨u',R',by rw [WR,if_neg (Ne.symm TN)];exact q1,by rw [List.getElem?_set,if_neg TN];exact q2,q3,q4.to (λq hq=>kW _ ?_) λes y hc=>mv.cells false e es y hc⟩
     subst hq
     exact (b7 p q q2).2
   ·cases kp with
    |none=>trivial
    |some p=>
     obtain ⟨l0,n0⟩:=p
     simp only [KeptAt,Ur] at mo⊢
     cases CF:X.cw l0 with
     |none=>rw [CF] at mo;exact mo.elim
     |some r0=>
      rw [CF] at mo
      obtain ⟨g1,g2,g3,g4⟩:=mo
      refine ⟨g1,g2,g3,λp hp hc=>?_⟩
      have oF:p<n0/\p<j:=by omega
      rw [<-g4 p oF.1 hc,<-g1,<-g2,cellOf AB,cellOf b2,WR,if_neg (by omega)]
  ·rw [zX k e1 e2] at hb
   cases hk:Ae st.heap k with
   |none=>rw [hk] at hb;cases hb
   |some b1=>
    rw [hk] at hb
    simp only [Option.map_some,Option.some.injEq] at hb;subst hb
    rw [cb k e1 e2]
    exact ((h.1.heap k).Mc hk).move mv mh.size (λr0 c h0 h1=>h.1.sub _ r0 c h0 h1) λr0 c h0 h1 _=>kW c (mq k r0 c h0 h1 e2)
 ·have e2:k≠l:= λe=>by subst e;rw [SU] at hk;cases hk
  by_cases e1:k=m
  ·subst e1;exact rT
  rw [zX k e1 e2] at hk
  rw [cb k e1 e2]
  cases oh:Ae st.heap k with
  |none=>exact (h.1.heap k).emp oh
  |some b=>rw [oh] at hk;cases hk
end
end Go.Proofs.Ytjbdmibbbpdnnaa
