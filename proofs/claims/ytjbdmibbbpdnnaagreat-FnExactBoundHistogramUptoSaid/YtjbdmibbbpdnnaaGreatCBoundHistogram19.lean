/-
  Part 20 of the proof that the statement FnExactBoundHistogram holds.
-/
import Derived.Test.YtjbdmibbbpdnnaaGreatCBoundHistogram18
namespace Go.Proofs.YtjbdmibbbpdnnaaGreat
open Go.RowKit
section
variable {P:Program} {T:Tab} {X:Ctx} {w w':World} {π π':Pi} {H H':List (Nat×OB)}
theorem kq (dead part:List Nat) (c:AC):Ax dead part c= .undef\/(Ax dead part c=c/\(∀k∈c.refs,k∉dead)/\ ∀k i j,c= .sub k i j\/c= .Fw k i j->k∉part):=by
 by_cases hu:Ax dead part c= .undef
 ·exact .inl hu
 have hr:=gM hu
 have hp: ∀l i j,c= .sub l i j\/c= .Fw l i j->l∉part:=by
  intro l i j e hm
  refine hu ?_
  unfold Ax
  rcases e with rfl|rfl
  all_goals
   split
   ·rfl
   ·simp [hm]
 exact .inr ⟨Wl hr hp,hr,hp⟩
theorem LQ {τ:Ty} (h:τ.Ac=false):τ.size=1:=by cases τ<;>simp_all [Ty.Ac,Ty.size]
theorem yi (hT:Cb P T) {st:St} {a:Act} (h:Aj X π st a w) {t:TypeId} {τ:Ty} (ht:T.ty t=some τ) (Mw:τ.Ac=false) {l j m:Nat} {e:Ty} {te tid:TypeId} {rows:List (List e.den)} {xs:List e.den} {out:Option Nat} {kp:Option (Nat×Nat)} {fr tr:Bool}
  (hl:Ad st.heap l=some (.Al e te rows out kp)) (ho:out=none\/out=some j) (dZ:m≠l) (hm:Ad st.heap m=some (.arr fr tr e tid xs)) (pq:l<Ai)
  {vp vx:Value} (hp:Ea X w π st.heap (.Fz l j) vp) (hx:Ea X w π st.heap (.own m 0 (List.length xs)) vx):
  ∃w' π',(Instr.storeAt t vp vx).run P w= .ok () w'/\Aj X π' (Mt st l j m e te rows xs (Vj j kp)) a w':=by
 have Wn:τ.size=1:=LQ Mw
 obtain ⟨r,b0,sz,n,h1,h0,h3,h2,rfl⟩:=hp
 rw [hl] at h1;cases h1
 simp only [OB.row,Option.some.injEq,Prod.mk.injEq] at h0
 obtain ⟨rfl,rfl⟩:=h0
 rw [Nat.mul_one]
 obtain ⟨_,oY⟩:=Je (X:=X) (w:=w) hx hm
 obtain ⟨ax,nx,cx,OU⟩:=Tw oY
 have hb:=(h.1.heap l).blk hl
 simp only [Av] at hb
 obtain ⟨hb,mZ⟩:=hb
 rw [h2] at hb mZ
 obtain ⟨b1,cur,ti,b2,b3,b4,b5,Rs,b6,b7,b8,b9⟩:=hb
 have yd:=(h.1.heap m).blk hm
 simp only [Av,Fu] at yd
 have On:=Po (P:=P) (w:=w) (hT.ty _ _ ht) r.g (r.o+j) vx [vx] (by rw [OU];rfl) (by rw [Wn];rfl) (by intro u hu;rw [List.mem_singleton.1 hu,OU];rfl) cur ti b2 (by simp;omega)
 let R:Option Real:=π m
 have hfa:Me w (Be X.w0.heap.size X.Sc π false) R e xs:=by
  show Me w _ (π m) e xs
  cases hR:π m with
  |none=>rw [hR] at yd;exact yd
  |some q=>
   rw [hR] at yd
   obtain ⟨⟨f0,f0',_⟩,cu,NH,f2,f3,f4,f5,f6,_⟩:=yd
   exact ⟨⟨f0,f0'⟩,cu,NH,f2,f3,f4,f5,λp y hy=>by
    obtain ⟨es,g1,g2,g3⟩:=f6 p y hy
    exact ⟨es,g1,g2,Cells.Cr (Nat.le_refl _) (λ_ _ _=>rfl) (λb _ hA=>hA.imp id (Or.imp id λ⟨h1,_⟩=>by cases h1)) e es y g3⟩⟩
 have hRq: ∀q,R=some q->π m=some q:= λq hq=>hq
 have Pb: ∀q,R=some q->q.Ay q.g/\q.cl q.g/\q.g≠r.g:= λq hq=>⟨h.1.Ay hq,h.1.sub m q _ hq (h.1.Ay hq),λe0=>dZ (h.1.apart hq h2 (h.1.Ay hq) (e0▸b1))⟩
 let rl:Real:= {r with Ay:= λb=>r.Ay b\/ ∃q,R=some q/\q.Ay b,cl:= λb=>r.cl b\/ ∃q,R=some q/\q.cl b}
 let π':Pi:= λk=>if k=m then none else if k=l then some rl else π k
 have sI:π' m=none:=if_pos rfl
 have yX:π' l=some rl:=(if_neg (Ne.symm dZ)).trans (if_pos rfl)
 have cy: ∀k,k≠m->k≠l->π' k=π k:= λk g1 g2=>(if_neg g1).trans (if_neg g2)
 have oV: ∀k q,π' k=some q->(k=l/\q=rl)\/(k≠m/\k≠l/\π k=some q):= λk q hq=>by
  by_cases e1:k=m
  ·subst e1;rw [sI] at hq;cases hq
  ·by_cases e2:k=l
   ·subst e2;rw [yX] at hq;exact .inl ⟨rfl,(Option.some.inj hq).symm⟩
   ·rw [cy k e1 e2] at hq;exact .inr ⟨e1,e2,hq⟩
 have Qp:r.o+j+ [vx].length<=cur.toList.length:=by simp;omega
 have mV:=Ig w r.g (Bs cur.toList (r.o+j) [vx]).toArray
 have lp: ∀c,c≠r.g->(w.setRow r.g (Bs cur.toList (r.o+j) [vx]).toArray).heap[c]?=w.heap[c]?:= λc hc=>setRow_other w r.g c _ hc
 have UY: ∀k,Ad (Mt st l j m e te rows xs (Vj j kp)).heap k=Ad (Xu (Qh (st.heap.map λp=>(p.1,p.2.map (Ax [m] [l]))) [m]) l (.Al e te (rows.set j xs) none (Vj j kp))) k:= λk=>rfl
 have dJ:Ad (Qh (st.heap.map λp=>(p.1,p.2.map (Ax [m] [l]))) [m]) l=some (.Al e te rows out kp):=by
  rw [Ih,Jj,if_neg (by simpa using Ne.symm dZ),hl];rfl
 have TK:Ad (Mt st l j m e te rows xs (Vj j kp)).heap l=some (.Al e te (rows.set j xs) none (Vj j kp)):=(UY l).trans (Cq _ _ _ _ dJ)
 have BZ: ∀k,k≠m->k≠l->Ad (Mt st l j m e te rows xs (Vj j kp)).heap k=(Ad st.heap k).map (OB.map (Ax [m] [l])):= λk g1 g2=>by
  rw [UY,Cj _ _ _ _ g2,Ih,Jj,if_neg (by simpa using g1)]
 have RG:Ad (Mt st l j m e te rows xs (Vj j kp)).heap m=none:=by
  rw [UY,Cj _ _ _ _ dZ,Ih,if_pos (by simp)]
 have Aeh:r.cl r.g:=h.1.sub l r _ h2 b1
 have nc: ∀k r0 c,π k=some r0->r0.cl c->k≠l->c≠r.g:= λk r0 c hk hc Fc e=>Fc (h.1.inj k l r0 r c hk h2 hc (e▸Aeh))
 refine ⟨_,π',by simp only [Instr.storeAt,Instr.sureAddr];simpa using On,?_⟩
 have Ss:Mt st l j m e te rows xs (Vj j kp)= {tmps:=st.tmps.map (·.map (Ax [m] [l])),heap:=(Mt st l j m e te rows xs (Vj j kp)).heap} :=rfl
 rw [Ss]
 refine h.iw (by simp [Ax,AC.refs]) (gv:= λc=>c=r.g) (λc hc=>hc▸⟨l,r,h2,b1⟩) ⟨mV.os,mV.tape,mV.output,mV.size,λc _ hc=>lp c hc⟩ (λb _ ⟨k,q,g1,g2⟩=>?_) (λk q b g1 g2=>?_) (λk q b g1 g2=>?_) (λk k' q q' b g1 g2 g3 g4=>?_) (λk hk Fc=>?_)
  (λhc=>iv (D:= λk=>k=m) (Pt:= λk=>k=l) (λc=>?_) (λk hk=>?_) (λk b hk hb=>?_) (λk r0 b hk hk2 g1 g2 g3=>lp _ (nc k r0 _ g3 (h.1.sub k r0 _ g3 (h.1.Ay g3)) hk2)) hc) (λmv k b hb=>?_) (λk hk=>?_)
 ·rcases oV k q g1 with ⟨_,rfl⟩|⟨_,_,e1⟩
  ·rcases g2 with g2|⟨q0,g2,g3⟩
   ·exact ⟨l,r,h2,g2⟩
   ·exact ⟨m,q0,g2,g3⟩
  ·exact ⟨k,q,e1,g2⟩
 ·rcases oV k q g1 with ⟨_,rfl⟩|⟨_,_,e1⟩
  ·rcases g2 with g2|⟨q0,g2,g3⟩
   ·exact .inl (h.1.sub l r b h2 g2)
   ·exact .inr ⟨q0,g2,h.1.sub m q0 b g2 g3⟩
  ·exact h.1.sub k q b e1 g2
 ·have up: ∀k q b,π k=some q->q.cl b->(X.w0.heap.size<=b\/X.gv b)/\b<(w.setRow r.g (Bs cur.toList (r.o+j) [vx]).toArray).heap.size:= λk q b e1 e2=>⟨(h.1.place k q b e1 e2).1,Nat.lt_of_lt_of_le (h.1.place k q b e1 e2).2 mV.size⟩
  rcases oV k q g1 with ⟨_,rfl⟩|⟨_,_,e1⟩
  ·rcases g2 with g2|⟨q0,g2,g3⟩
   ·exact up l r b h2 g2
   ·exact up m q0 b g2 g3
  ·exact up k q b e1 g2
 ·rcases oV k q g1 with ⟨e0,rfl⟩|⟨e0,e2,e1⟩<;>rcases oV k' q' g2 with ⟨f0,rfl⟩|⟨f0,f2,f1⟩
  ·rw [e0,f0]
  ·rcases g3 with g3|⟨q0,g3,g5⟩
   ·exact absurd (h.1.inj k' l q' r b f1 h2 g4 g3) f2
   ·exact absurd (h.1.inj k' m q' q0 b f1 g3 g4 g5) f0
  ·rcases g4 with g4|⟨q0,g4,g5⟩
   ·exact absurd (h.1.inj k l q r b e1 h2 g3 g4) e2
   ·exact absurd (h.1.inj k m q q0 b e1 g4 g3 g5) e0
  ·exact h.1.inj k k' q q' b e1 f1 g3 g4
 ·by_cases e1:k=m
  ·subst e1;exact absurd RG Fc
  have e2:k≠l:=by omega
  rw [cy k e1 e2]
  refine h.1.cO k hk λh0=>Fc ?_
  rw [BZ k e1 e2,h0];rfl
 ·rcases kq [m] [l] c with e|⟨e,g,g'⟩
  ·exact .inl e
  ·exact .inr ⟨e,λk hk hkm=>g k hk (by simp [hkm]),λk i j hc Mj=>g' k i j hc (by simp [Mj])⟩
 ·by_cases e2:k=l
  ·subst e2;rw [yX,h2];exact ⟨rfl,rfl,rfl⟩
  ·rw [cy k hk e2];exact ba.rfl' _
 ·by_cases e2:k=l
  ·subst e2
   rw [hl] at hb;cases hb
   exact ⟨_,TK,⟨λ_ n h=>⟨n,by simpa [OB.row] using h,Nat.le_refl _⟩,λ_ h=>by simpa [OB.bj] using h,λ_ h=>by simpa [OB.pe] using h,(λ_ _ h=>by cases h),(λ_ _ h=>by cases h)⟩⟩
  ·exact ⟨_,by rw [BZ k hk e2,hb];rfl,OB.Ml.map _ b⟩
 ·by_cases e1:k=m
  ·subst e1;rw [RG] at hb;cases hb
  by_cases e2:k=l
  ·subst e2
   rw [TK] at hb;cases hb
   rw [yX]
   have YY: ∀p,(Bs cur.toList (r.o+j) [vx]).toArray[r.o+p]?=if p=j then some vx else cur[r.o+p]?:= λp=>by
    rw [List.getElem?_toArray,Ei _ _ _ _ Qp]
    by_cases ZY:p=j
    ·subst ZY
     rw [if_neg (by omega),if_pos (by simp),if_pos rfl]
     simp
    ·rw [if_neg ZY]
     split
     ·simp
     ·rw [if_neg (by simp;omega)];simp
   have CB:=setRow_heap w r.g cur (Bs cur.toList (r.o+j) [vx]).toArray ti _ b2
   refine ⟨⟨.inl b1,_,_,CB,by rw [List.size_toArray,Et _ _ _ Qp,Array.length_toList];exact b3,b4,by simpa using b5,Rs.set j R,by simpa using b6,λp q hq=>?_,λp p' q q' hq eA he=>?_,λp y hy _=>?_⟩,?_⟩
   ·rw [List.getElem?_set] at hq
    split at hq
    ·split at hq
     ·have hq:=Option.some.inj hq
      exact ⟨.inr ⟨q,hq,(Pb q hq).1⟩,(Pb q hq).2.2⟩
     ·cases hq
    ·exact ⟨.inl (b7 p q hq).1,(b7 p q hq).2⟩
   ·rw [List.getElem?_set] at hq eA
    split at hq
    ·rename_i UC
     split at hq
     ·have hq:=Option.some.inj hq
      split at eA
      ·rename_i Aez;rw [<-UC,<-Aez]
      ·exact absurd (h.1.apart hq h2 (Pb q hq).1 (he▸(b7 p' q' eA).1)) dZ
     ·cases hq
    ·split at eA
     ·split at eA
      ·have eA:=Option.some.inj eA
       exact absurd (h.1.apart eA h2 (Pb q' eA).1 (he▸(b7 p q hq).1)) dZ
      ·cases eA
     ·exact b8 p p' q q' hq eA he
   ·rw [List.getElem?_set] at hy
    split at hy
    ·rename_i UC
     subst UC
     have hy:=Option.some.inj hy
     subst hy
     exact ⟨vx,R,by rw [YY,if_pos rfl],by rw [List.getElem?_set,if_pos rfl,if_pos (by omega)],oY,hfa.to (λq hq=>lp _ (Pb q hq).2.2) λes y hc=>mv.cells false e es y hc⟩
    ·rename_i UC
     obtain ⟨u',R',q1,q2,q3,q4⟩:=b9 p y hy (by rcases ho with ho|ho<;>rw [ho]<;>simp [UC])
     refine ⟨u',R',by rw [YY,if_neg (Ne.symm UC)];exact q1,by rw [List.getElem?_set,if_neg UC];exact q2,q3,q4.to (λq hq=>lp _ ?_) λes y hc=>mv.cells false e es y hc⟩
     subst hq
     exact (b7 p q q2).2
   ·cases kp with
    |none=>trivial
    |some p=>
     obtain ⟨l0,n0⟩:=p
     simp only [KeptAt,Vj] at mZ⊢
     cases EB:X.cO l0 with
     |none=>rw [EB] at mZ;exact mZ.elim
     |some r0=>
      rw [EB] at mZ
      obtain ⟨g1,g2,g3,g4⟩:=mZ
      refine ⟨g1,g2,g3,λp hp hc=>?_⟩
      have HR:p<n0/\p<j:=by omega
      rw [<-g4 p HR.1 hc,<-g1,<-g2,cellOf CB,cellOf b2,YY,if_neg (by omega)]
  ·rw [BZ k e1 e2] at hb
   cases hk:Ad st.heap k with
   |none=>rw [hk] at hb;cases hb
   |some b1=>
    rw [hk] at hb
    simp only [Option.map_some,Option.some.injEq] at hb;subst hb
    rw [cy k e1 e2]
    exact ((h.1.heap k).blk hk).move mv mV.size (λr0 c h0 h1=>h.1.sub _ r0 c h0 h1) λr0 c h0 h1 _=>lp c (nc k r0 c h0 h1 e2)
 ·have e2:k≠l:= λe=>by subst e;rw [TK] at hk;cases hk
  by_cases e1:k=m
  ·subst e1;exact sI
  rw [BZ k e1 e2] at hk
  rw [cy k e1 e2]
  cases pj:Ad st.heap k with
  |none=>exact (h.1.heap k).emp pj
  |some b=>rw [pj] at hk;cases hk
end
end Go.Proofs.YtjbdmibbbpdnnaaGreat
