/-
  Part 20 of the proof that the statement FnExactIterationNodes holds.
-/
import Derived.Test.YtfolipnappekaaaGreatCIterationNodes18
namespace Go.Proofs.YtfolipnappekaaaGreat
open Go.RowKit
section
variable {P:Program} {T:Tab} {X:Ctx} {w w':World} {π π':Pi} {H H':List (Nat×OB)}
theorem qO (dead part:List Nat) (c:AC):Cs dead part c= .undef\/(Cs dead part c=c/\(∀k∈c.refs,k∉dead)/\ ∀k i j,c= .sub k i j\/c= .Jv k i j->k∉part):=by
 by_cases hu:Cs dead part c= .undef
 ·exact .inl hu
 have hr:=nF hu
 have hp: ∀l i j,c= .sub l i j\/c= .Jv l i j->l∉part:=by
  intro l i j e hm
  refine hu ?_
  unfold Cs
  rcases e with rfl|rfl
  all_goals
   split
   ·rfl
   ·simp [hm]
 exact .inr ⟨cR hr hp,hr,hp⟩
theorem Acd {τ:Ty} (h:τ.Aq=false):τ.size=1:=by cases τ<;>simp_all [Ty.Aq,Ty.size]
theorem LQ (hT:Eb P T) {st:St} {a:Act} (h:Bl X π st a w) {t:TypeId} {τ:Ty} (ht:T.ty t=some τ) (Tz:τ.Aq=false) {l j m:Nat} {e:Ty} {te tid:TypeId} {rows:List (List e.den)} {xs:List e.den} {out:Option Nat} {kp:Option (Nat×Nat)} {fr tr:Bool}
  (hl:Au st.heap l=some (.Bm e te rows out kp)) (ho:out=none\/out=some j) (kS:m≠l) (hm:Au st.heap m=some (.arr fr tr e tid xs)) (ur:l<Bn)
  {vp vx:Value} (hp:Hm X w π st.heap (.Jz l j) vp) (hx:Hm X w π st.heap (.own m 0 (List.length xs)) vx):
  ∃w' π',(Instr.storeAt t vp vx).run P w= .ok () w'/\Bl X π' (Tw st l j m e te rows xs (ca j kp)) a w':=by
 have aO:τ.size=1:=Acd Tz
 obtain ⟨r,b0,sz,n,h1,h0,h3,h2,rfl⟩:=hp
 rw [hl] at h1;cases h1
 simp only [OB.row,Aa,Ad] at h0
 obtain ⟨rfl,rfl⟩:=h0
 rw [Ft]
 obtain ⟨_,wE⟩:=On (X:=X) (w:=w) hx hm
 obtain ⟨ax,nx,cx,hvx⟩:=bl wE
 have hb:=(h.1.heap l).Qm hl
 simp only [Cj] at hb
 obtain ⟨hb,uq⟩:=hb
 rw [h2] at hb uq
 obtain ⟨b1,cur,ti,b2,b3,b4,b5,Rs,b6,b7,b8,b9⟩:=hb
 have LI:=(h.1.heap m).Qm hm
 simp only [Cj,Jw] at LI
 have Vt:=Wr (P:=P) (w:=w) (hT.ty _ _ ht) r.g (r.o+j) vx [vx] (by rw [hvx];rfl) (by rw [aO];rfl) (by intro u hu;rw [Ae.1 hu,hvx];rfl) cur ti b2 (by simp;omega)
 let R:Option Real:=π m
 have hfa:Ta w (Dc X.w0.heap.size X.Sc π false) R e xs:=by
  show Ta w _ (π m) e xs
  cases hR:π m with
  |none=>rw [hR] at LI;exact LI
  |some q=>
   rw [hR] at LI
   obtain ⟨⟨f0,f0',_⟩,cu,ti',f2,f3,f4,f5,f6,_⟩:=LI
   exact ⟨⟨f0,f0'⟩,cu,ti',f2,f3,f4,f5,λp y hy=>by
    obtain ⟨es,g1,g2,g3⟩:=f6 p y hy
    exact ⟨es,g1,g2,Cells.Ex (Ao _) (λ_ _ _=>rfl) (λb _ hA=>hA.imp id (Or.imp id λ⟨h1,_⟩=>by cases h1)) e es y g3⟩⟩
 have hRq: ∀q,R=some q->π m=some q:= λq hq=>hq
 have Wh: ∀q,R=some q->q.Cu q.g/\q.cl q.g/\q.g≠r.g:= λq hq=>⟨h.1.Cu hq,h.1.sub m q _ hq (h.1.Cu hq),λe0=>kS (h.1.apart hq h2 (h.1.Cu hq) (e0▸b1))⟩
 let rl:Real:= {r with Cu:= λb=>r.Cu b\/ ∃q,R=some q/\q.Cu b,cl:= λb=>r.cl b\/ ∃q,R=some q/\q.cl b}
 let π':Pi:= λk=>if k=m then none else if k=l then some rl else π k
 have AH:π' m=none:=Ab rfl
 have NI:π' l=some rl:=(Ag (Gf kS)).trans (Ab rfl)
 have j0: ∀k,k≠m->k≠l->π' k=π k:= λk g1 g2=>(Ag g1).trans (Ag g2)
 have wC: ∀k q,π' k=some q->(k=l/\q=rl)\/(k≠m/\k≠l/\π k=some q):= λk q hq=>by
  by_cases e1:k=m
  ·subst e1;rw [AH] at hq;cases hq
  ·by_cases e2:k=l
   ·subst e2;rw [NI] at hq;exact .inl ⟨rfl,(Ba hq).symm⟩
   ·rw [j0 k e1 e2] at hq;exact .inr ⟨e1,e2,hq⟩
 have Ye:r.o+j+ [vx].length<=cur.toList.length:=by simp;omega
 have uh:=Nr w r.g (Dw cur.toList (r.o+j) [vx]).toArray
 have se: ∀c,c≠r.g->(w.setRow r.g (Dw cur.toList (r.o+j) [vx]).toArray).heap[c]?=w.heap[c]?:= λc hc=>setRow_other w r.g c _ hc
 have Ak3: ∀k,Au (Tw st l j m e te rows xs (ca j kp)).heap k=Au (aE (Xw (st.heap.map λp=>(p.1,p.2.map (Cs [m] [l]))) [m]) l (.Bm e te (rows.set j xs) none (ca j kp))) k:= λk=>rfl
 have kl:Au (Xw (st.heap.map λp=>(p.1,p.2.map (Cs [m] [l]))) [m]) l=some (.Bm e te rows out kp):=by
  rw [Ns,Ox,Ag (by simpa using Gf kS),hl];rfl
 have hHl:Au (Tw st l j m e te rows xs (ca j kp)).heap l=some (.Bm e te (rows.set j xs) none (ca j kp)):=(Ak3 l).trans (Em _ _ _ _ kl)
 have SG: ∀k,k≠m->k≠l->Au (Tw st l j m e te rows xs (ca j kp)).heap k=(Au st.heap k).map (OB.map (Cs [m] [l])):= λk g1 g2=>by
  rw [Ak3,Dy _ _ _ _ g2,Ns,Ox,Ag (by simpa using g1)]
 have hHm:Au (Tw st l j m e te rows xs (ca j kp)).heap m=none:=by
  rw [Ak3,Dy _ _ _ _ kS,Ns,Ab (by simp)]
 have Ast:r.cl r.g:=h.1.sub l r _ h2 b1
 have uu: ∀k r0 c,π k=some r0->r0.cl c->k≠l->c≠r.g:= λk r0 c hk hc Ik e=>Ik (h.1.inj k l r0 r c hk h2 hc (e▸Ast))
 refine ⟨_,π',by simp only [Instr.storeAt,Instr.sureAddr];simpa using Vt,?_⟩
 have Ts:Tw st l j m e te rows xs (ca j kp)= {tmps:=st.tmps.map (·.map (Cs [m] [l])),heap:=(Tw st l j m e te rows xs (ca j kp)).heap} :=rfl
 rw [Ts]
 refine h.od (by simp [Cs,AC.refs]) (gv:= λc=>c=r.g) (λc hc=>hc▸⟨l,r,h2,b1⟩) ⟨uh.os,uh.tape,uh.output,uh.size,λc _ hc=>se c hc⟩ (λb _ ⟨k,q,g1,g2⟩=>?_) (λk q b g1 g2=>?_) (λk q b g1 g2=>?_) (λk k' q q' b g1 g2 g3 g4=>?_) (λk hk Ik=>?_)
  (λhc=>oc (D:= λk=>k=m) (Pt:= λk=>k=l) (λc=>?_) (λk hk=>?_) (λk b hk hb=>?_) (λk r0 b hk hk2 g1 g2 g3=>se _ (uu k r0 _ g3 (h.1.sub k r0 _ g3 (h.1.Cu g3)) hk2)) hc) (λmv k b hb=>?_) (λk hk=>?_)
 ·rcases wC k q g1 with ⟨_,rfl⟩|⟨_,_,e1⟩
  ·rcases g2 with g2|⟨q0,g2,g3⟩
   ·exact ⟨l,r,h2,g2⟩
   ·exact ⟨m,q0,g2,g3⟩
  ·exact ⟨k,q,e1,g2⟩
 ·rcases wC k q g1 with ⟨_,rfl⟩|⟨_,_,e1⟩
  ·rcases g2 with g2|⟨q0,g2,g3⟩
   ·exact .inl (h.1.sub l r b h2 g2)
   ·exact .inr ⟨q0,g2,h.1.sub m q0 b g2 g3⟩
  ·exact h.1.sub k q b e1 g2
 ·have up: ∀k q b,π k=some q->q.cl b->(X.w0.heap.size<=b\/X.gv b)/\b<(w.setRow r.g (Dw cur.toList (r.o+j) [vx]).toArray).heap.size:= λk q b e1 e2=>⟨(h.1.place k q b e1 e2).1,Di (h.1.place k q b e1 e2).2 uh.size⟩
  rcases wC k q g1 with ⟨_,rfl⟩|⟨_,_,e1⟩
  ·rcases g2 with g2|⟨q0,g2,g3⟩
   ·exact up l r b h2 g2
   ·exact up m q0 b g2 g3
  ·exact up k q b e1 g2
 ·rcases wC k q g1 with ⟨e0,rfl⟩|⟨e0,e2,e1⟩<;>rcases wC k' q' g2 with ⟨f0,rfl⟩|⟨f0,f2,f1⟩
  ·rw [e0,f0]
  ·rcases g3 with g3|⟨q0,g3,g5⟩
   ·exact absurd (h.1.inj k' l q' r b f1 h2 g4 g3) f2
   ·exact absurd (h.1.inj k' m q' q0 b f1 g3 g4 g5) f0
  ·rcases g4 with g4|⟨q0,g4,g5⟩
   ·exact absurd (h.1.inj k l q r b e1 h2 g3 g4) e2
   ·exact absurd (h.1.inj k m q q0 b e1 g4 g3 g5) e0
  ·exact h.1.inj k k' q q' b e1 f1 g3 g4
 ·by_cases e1:k=m
  ·subst e1;exact absurd hHm Ik
  have e2:k≠l:=by omega
  rw [j0 k e1 e2]
  refine h.1.ia k hk λh0=>Ik ?_
  rw [SG k e1 e2,h0];rfl
 ·rcases qO [m] [l] c with e|⟨e,g,g'⟩
  ·exact .inl e
  ·exact .inr ⟨e,λk hk hkm=>g k hk (by simp [hkm]),λk i j hc Se=>g' k i j hc (by simp [Se])⟩
 ·by_cases e2:k=l
  ·subst e2;rw [NI,h2];exact ⟨rfl,rfl,rfl⟩
  ·rw [j0 k hk e2];exact gk.rfl' _
 ·by_cases e2:k=l
  ·subst e2
   rw [hl] at hb;cases hb
   exact ⟨_,hHl,⟨λ_ n h=>⟨n,by simpa [OB.row] using h,Ao _⟩,λ_ h=>by simpa [OB.gz] using h,λ_ h=>by simpa [OB.wQ] using h,(λ_ _ h=>by cases h),(λ_ _ h=>by cases h)⟩⟩
  ·exact ⟨_,by rw [SG k hk e2,hb];rfl,OB.Ti.map _ b⟩
 ·by_cases e1:k=m
  ·subst e1;rw [hHm] at hb;cases hb
  by_cases e2:k=l
  ·subst e2
   rw [hHl] at hb;cases hb
   rw [NI]
   have hat: ∀p,(Dw cur.toList (r.o+j) [vx]).toArray[r.o+p]?=if p=j then some vx else cur[r.o+p]?:= λp=>by
    rw [Ic,Ib _ _ _ _ Ye]
    by_cases hpj:p=j
    ·subst hpj
     rw [Ag (by omega),Ab (by simp),Ab rfl]
     simp
    ·rw [Ag hpj]
     split
     ·simp
     ·rw [Ag (by simp;omega)];simp
   have SI:=setRow_heap w r.g cur (Dw cur.toList (r.o+j) [vx]).toArray ti _ b2
   refine ⟨⟨.inl b1,_,_,SI,by rw [Gs,Iv _ _ _ Ye,Xp];exact b3,b4,by simpa using b5,Rs.set j R,by simpa using b6,λp q hq=>?_,λp p' q q' hq kU he=>?_,λp y hy _=>?_⟩,?_⟩
   ·rw [Fe] at hq
    split at hq
    ·split at hq
     ·have hq:=Ba hq
      exact ⟨.inr ⟨q,hq,(Wh q hq).1⟩,(Wh q hq).2.2⟩
     ·cases hq
    ·exact ⟨.inl (b7 p q hq).1,(b7 p q hq).2⟩
   ·rw [Fe] at hq kU
    split at hq
    ·rename_i hjp
     split at hq
     ·have hq:=Ba hq
      split at kU
      ·rename_i At9;rw [<-hjp,<-At9]
      ·exact absurd (h.1.apart hq h2 (Wh q hq).1 (he▸(b7 p' q' kU).1)) kS
     ·cases hq
    ·split at kU
     ·split at kU
      ·have kU:=Ba kU
       exact absurd (h.1.apart kU h2 (Wh q' kU).1 (he▸(b7 p q hq).1)) kS
      ·cases kU
     ·exact b8 p p' q q' hq kU he
   ·rw [Fe] at hy
    split at hy
    ·rename_i hjp
     subst hjp
     have hy:=Ba hy
     subst hy
     exact ⟨vx,R,by rw [hat,Ab rfl],by rw [Fe,Ab rfl,Ab (by omega)],wE,hfa.to (λq hq=>se _ (Wh q hq).2.2) λes y hc=>mv.cells false e es y hc⟩
    ·rename_i hjp
     obtain ⟨u',R',q1,q2,q3,q4⟩:=b9 p y hy (by rcases ho with ho|ho<;>rw [ho]<;>simp [hjp])
     refine ⟨u',R',by rw [hat,Ag (Gf hjp)];exact q1,by rw [Fe,Ag hjp];exact q2,q3,q4.to (λq hq=>se _ ?_) λes y hc=>mv.cells false e es y hc⟩
     subst hq
     exact (b7 p q q2).2
   ·cases kp with
    |none=>trivial
    |some p=>
     obtain ⟨l0,n0⟩:=p
     simp only [KeptAt,ca] at uq⊢
     cases UY:X.ia l0 with
     |none=>rw [UY] at uq;exact uq.elim
     |some r0=>
      rw [UY] at uq
      obtain ⟨g1,g2,g3,g4⟩:=uq
      refine ⟨g1,g2,g3,λp hp hc=>?_⟩
      have YS:p<n0/\p<j:=by omega
      rw [<-g4 p YS.1 hc,<-g1,<-g2,cellOf SI,cellOf b2,hat,Ag (by omega)]
  ·rw [SG k e1 e2] at hb
   cases hk:Au st.heap k with
   |none=>rw [hk] at hb;cases hb
   |some b1=>
    rw [hk] at hb
    simp only [Am,Aa] at hb;subst hb
    rw [j0 k e1 e2]
    exact ((h.1.heap k).Qm hk).move mv uh.size (λr0 c h0 h1=>h.1.sub _ r0 c h0 h1) λr0 c h0 h1 _=>se c (uu k r0 c h0 h1 e2)
 ·have e2:k≠l:= λe=>by subst e;rw [hHl] at hk;cases hk
  by_cases e1:k=m
  ·subst e1;exact AH
  rw [SG k e1 e2] at hk
  rw [j0 k e1 e2]
  cases um:Au st.heap k with
  |none=>exact (h.1.heap k).emp um
  |some b=>rw [um] at hk;cases hk
end
end Go.Proofs.YtfolipnappekaaaGreat
