/-
  Part 20 of the proof that the statement FnExactProvesNoSolutionWithin holds.
-/
import Derived.Test.YtfolipnappekaaaGreatCProvesNoSolutionWithin18
namespace Go.Proofs.YtfolipnappekaaaGreat
open Go.RowKit
section
variable {P:Program} {T:Tab} {X:Ctx} {w w':World} {π π':Pi} {H H':List (Nat×OB)}
theorem mY (dead part:List Nat) (c:AC):Ba dead part c= .undef\/(Ba dead part c=c/\(∀k∈c.refs,k∉dead)/\ ∀k i j,c= .sub k i j\/c= .Fu k i j->k∉part):=by
 by_cases hu:Ba dead part c= .undef
 ·exact .inl hu
 have hr:=jQ hu
 have hp: ∀l i j,c= .sub l i j\/c= .Fu l i j->l∉part:=by
  intro l i j e hm
  refine hu ?_
  unfold Ba
  rcases e with rfl|rfl
  all_goals
   split
   ·rfl
   ·simp [hm]
 exact .inr ⟨Yy hr hp,hr,hp⟩
theorem UP {τ:Ty} (h:τ.Ac=false):τ.size=1:=by cases τ<;>simp_all [Ty.Ac,Ty.size]
theorem CX (hT:By P T) {st:St} {a:Act} (h:Ak X π st a w) {t:TypeId} {τ:Ty} (ht:T.ty t=some τ) (Oi:τ.Ac=false) {l j m:Nat} {e:Ty} {te tid:TypeId} {rows:List (List e.den)} {xs:List e.den} {out:Option Nat} {kp:Option (Nat×Nat)} {fr tr:Bool}
  (hl:Ad st.heap l=some (.Al e te rows out kp)) (ho:out=none\/out=some j) (gg:m≠l) (hm:Ad st.heap m=some (.arr fr tr e tid xs)) (pY:l<Am)
  {vp vx:Value} (hp:Dv X w π st.heap (.Fy l j) vp) (hx:Dv X w π st.heap (.own m 0 (List.length xs)) vx):
  ∃w' π',(Instr.storeAt t vp vx).run P w= .ok () w'/\Ak X π' (Og st l j m e te rows xs (Xr j kp)) a w':=by
 have Vp:τ.size=1:=UP Oi
 obtain ⟨r,b0,sz,n,h1,h0,h3,h2,rfl⟩:=hp
 rw [hl] at h1;cases h1
 simp only [OB.row,Option.some.injEq,Prod.mk.injEq] at h0
 obtain ⟨rfl,rfl⟩:=h0
 rw [Nat.mul_one]
 obtain ⟨_,s9⟩:=Jv (X:=X) (w:=w) hx hm
 obtain ⟨ax,nx,cx,YE⟩:=Wj s9
 have hb:=(h.1.heap l).Md hl
 simp only [Av] at hb
 obtain ⟨hb,pX⟩:=hb
 rw [h2] at hb pX
 obtain ⟨b1,cur,ti,b2,b3,b4,b5,Rs,b6,b7,b8,b9⟩:=hb
 have CP:=(h.1.heap m).Md hm
 simp only [Av,Fv] at CP
 have Qh:=Rd (P:=P) (w:=w) (hT.ty _ _ ht) r.g (r.o+j) vx [vx] (by rw [YE];rfl) (by rw [Vp];rfl) (by intro u hu;rw [List.mem_singleton.1 hu,YE];rfl) cur ti b2 (by simp;omega)
 let R:Option Real:=π m
 have hfa:Nq w (Bj X.w0.heap.size X.Sc π false) R e xs:=by
  show Nq w _ (π m) e xs
  cases hR:π m with
  |none=>rw [hR] at CP;exact CP
  |some q=>
   rw [hR] at CP
   obtain ⟨⟨f0,f0',_⟩,cu,WX,f2,f3,f4,f5,f6,_⟩:=CP
   exact ⟨⟨f0,f0'⟩,cu,WX,f2,f3,f4,f5,λp y hy=>by
    obtain ⟨es,g1,g2,g3⟩:=f6 p y hy
    exact ⟨es,g1,g2,Cells.Cn (Nat.le_refl _) (λ_ _ _=>rfl) (λb _ hA=>hA.imp id (Or.imp id λ⟨h1,_⟩=>by cases h1)) e es y g3⟩⟩
 have hRq: ∀q,R=some q->π m=some q:= λq hq=>hq
 have Qv: ∀q,R=some q->q.Bg q.g/\q.cl q.g/\q.g≠r.g:= λq hq=>⟨h.1.Bg hq,h.1.sub m q _ hq (h.1.Bg hq),λe0=>gg (h.1.apart hq h2 (h.1.Bg hq) (e0▸b1))⟩
 let rl:Real:= {r with Bg:= λb=>r.Bg b\/ ∃q,R=some q/\q.Bg b,cl:= λb=>r.cl b\/ ∃q,R=some q/\q.cl b}
 let π':Pi:= λk=>if k=m then none else if k=l then some rl else π k
 have wm:π' m=none:=if_pos rfl
 have EL:π' l=some rl:=(if_neg (Ne.symm gg)).trans (if_pos rfl)
 have dR: ∀k,k≠m->k≠l->π' k=π k:= λk g1 g2=>(if_neg g1).trans (if_neg g2)
 have rY: ∀k q,π' k=some q->(k=l/\q=rl)\/(k≠m/\k≠l/\π k=some q):= λk q hq=>by
  by_cases e1:k=m
  ·subst e1;rw [wm] at hq;cases hq
  ·by_cases e2:k=l
   ·subst e2;rw [EL] at hq;exact .inl ⟨rfl,(Option.some.inj hq).symm⟩
   ·rw [dR k e1 e2] at hq;exact .inr ⟨e1,e2,hq⟩
 have Sq:r.o+j+ [vx].length<=cur.toList.length:=by simp;omega
 have pS:=Jb w r.g (Bs cur.toList (r.o+j) [vx]).toArray
 have o1: ∀c,c≠r.g->(w.setRow r.g (Bs cur.toList (r.o+j) [vx]).toArray).heap[c]?=w.heap[c]?:= λc hc=>setRow_other w r.g c _ hc
 have Ad7: ∀k,Ad (Og st l j m e te rows xs (Xr j kp)).heap k=Ad (Vi (Si (st.heap.map λp=>(p.1,p.2.map (Ba [m] [l]))) [m]) l (.Al e te (rows.set j xs) none (Xr j kp))) k:= λk=>rfl
 have fq:Ad (Si (st.heap.map λp=>(p.1,p.2.map (Ba [m] [l]))) [m]) l=some (.Al e te rows out kp):=by
  rw [Jc,Kd,if_neg (by simpa using Ne.symm gg),hl];rfl
 have hHl:Ad (Og st l j m e te rows xs (Xr j kp)).heap l=some (.Al e te (rows.set j xs) none (Xr j kp)):=(Ad7 l).trans (Cf _ _ _ _ fq)
 have JM: ∀k,k≠m->k≠l->Ad (Og st l j m e te rows xs (Xr j kp)).heap k=(Ad st.heap k).map (OB.map (Ba [m] [l])):= λk g1 g2=>by
  rw [Ad7,Bv _ _ _ _ g2,Jc,Kd,if_neg (by simpa using g1)]
 have hHm:Ad (Og st l j m e te rows xs (Xr j kp)).heap m=none:=by
  rw [Ad7,Bv _ _ _ _ gg,Jc,if_pos (by simp)]
 have Alv:r.cl r.g:=h.1.sub l r _ h2 b1
 have pZ: ∀k r0 c,π k=some r0->r0.cl c->k≠l->c≠r.g:= λk r0 c hk hc Ek e=>Ek (h.1.inj k l r0 r c hk h2 hc (e▸Alv))
 refine ⟨_,π',by simp only [Instr.storeAt,Instr.sureAddr];simpa using Qh,?_⟩
 have Oq:Og st l j m e te rows xs (Xr j kp)= {tmps:=st.tmps.map (·.map (Ba [m] [l])),heap:=(Og st l j m e te rows xs (Xr j kp)).heap} :=rfl
 rw [Oq]
 refine h.kC (by simp [Ba,AC.refs]) (gv:= λc=>c=r.g) (λc hc=>hc▸⟨l,r,h2,b1⟩) ⟨pS.os,pS.tape,pS.output,pS.size,λc _ hc=>o1 c hc⟩ (λb _ ⟨k,q,g1,g2⟩=>?_) (λk q b g1 g2=>?_) (λk q b g1 g2=>?_) (λk k' q q' b g1 g2 g3 g4=>?_) (λk hk Ek=>?_)
  (λhc=>kB (D:= λk=>k=m) (Pt:= λk=>k=l) (λc=>?_) (λk hk=>?_) (λk b hk hb=>?_) (λk r0 b hk RQ g1 g2 g3=>o1 _ (pZ k r0 _ g3 (h.1.sub k r0 _ g3 (h.1.Bg g3)) RQ)) hc) (λmv k b hb=>?_) (λk hk=>?_)
 ·rcases rY k q g1 with ⟨_,rfl⟩|⟨_,_,e1⟩
  ·rcases g2 with g2|⟨q0,g2,g3⟩
   ·exact ⟨l,r,h2,g2⟩
   ·exact ⟨m,q0,g2,g3⟩
  ·exact ⟨k,q,e1,g2⟩
 ·rcases rY k q g1 with ⟨_,rfl⟩|⟨_,_,e1⟩
  ·rcases g2 with g2|⟨q0,g2,g3⟩
   ·exact .inl (h.1.sub l r b h2 g2)
   ·exact .inr ⟨q0,g2,h.1.sub m q0 b g2 g3⟩
  ·exact h.1.sub k q b e1 g2
 ·have up: ∀k q b,π k=some q->q.cl b->(X.w0.heap.size<=b\/X.gv b)/\b<(w.setRow r.g (Bs cur.toList (r.o+j) [vx]).toArray).heap.size:= λk q b e1 e2=>⟨(h.1.place k q b e1 e2).1,Nat.lt_of_lt_of_le (h.1.place k q b e1 e2).2 pS.size⟩
  rcases rY k q g1 with ⟨_,rfl⟩|⟨_,_,e1⟩
  ·rcases g2 with g2|⟨q0,g2,g3⟩
   ·exact up l r b h2 g2
   ·exact up m q0 b g2 g3
  ·exact up k q b e1 g2
 ·rcases rY k q g1 with ⟨e0,rfl⟩|⟨e0,e2,e1⟩<;>rcases rY k' q' g2 with ⟨f0,rfl⟩|⟨f0,f2,f1⟩
  ·rw [e0,f0]
  ·rcases g3 with g3|⟨q0,g3,g5⟩
   ·exact absurd (h.1.inj k' l q' r b f1 h2 g4 g3) f2
   ·exact absurd (h.1.inj k' m q' q0 b f1 g3 g4 g5) f0
  ·rcases g4 with g4|⟨q0,g4,g5⟩
   ·exact absurd (h.1.inj k l q r b e1 h2 g3 g4) e2
   ·exact absurd (h.1.inj k m q q0 b e1 g4 g3 g5) e0
  ·exact h.1.inj k k' q q' b e1 f1 g3 g4
 ·by_cases e1:k=m
  ·subst e1;exact absurd hHm Ek
  have e2:k≠l:=by omega
  rw [dR k e1 e2]
  refine h.1.db k hk λh0=>Ek ?_
  rw [JM k e1 e2,h0];rfl
 ·rcases mY [m] [l] c with e|⟨e,g,g'⟩
  ·exact .inl e
  ·exact .inr ⟨e,λk hk hkm=>g k hk (by simp [hkm]),λk i j hc Na=>g' k i j hc (by simp [Na])⟩
 ·by_cases e2:k=l
  ·subst e2;rw [EL,h2];exact ⟨rfl,rfl,rfl⟩
  ·rw [dR k hk e2];exact ct.rfl' _
 ·by_cases e2:k=l
  ·subst e2
   rw [hl] at hb;cases hb
   exact ⟨_,hHl,⟨λ_ n h=>⟨n,by simpa [OB.row] using h,Nat.le_refl _⟩,λ_ h=>by simpa [OB.cE] using h,λ_ h=>by simpa [OB.sq] using h,(λ_ _ h=>by cases h),(λ_ _ h=>by cases h)⟩⟩
  ·exact ⟨_,by rw [JM k hk e2,hb];rfl,OB.Ny.map _ b⟩
 ·by_cases e1:k=m
  ·subst e1;rw [hHm] at hb;cases hb
  by_cases e2:k=l
  ·subst e2
   rw [hHl] at hb;cases hb
   rw [EL]
   have hat: ∀p,(Bs cur.toList (r.o+j) [vx]).toArray[r.o+p]?=if p=j then some vx else cur[r.o+p]?:= λp=>by
    rw [List.getElem?_toArray,Ei _ _ _ _ Sq]
    by_cases hpj:p=j
    ·subst hpj
     rw [if_neg (by omega),if_pos (by simp),if_pos rfl]
     simp
    ·rw [if_neg hpj]
     split
     ·simp
     ·rw [if_neg (by simp;omega)];simp
   have JO:=setRow_heap w r.g cur (Bs cur.toList (r.o+j) [vx]).toArray ti _ b2
   refine ⟨⟨.inl b1,_,_,JO,by rw [List.size_toArray,Et _ _ _ Sq,Array.length_toList];exact b3,b4,by simpa using b5,Rs.set j R,by simpa using b6,λp q hq=>?_,λp p' q q' hq gi he=>?_,λp y hy _=>?_⟩,?_⟩
   ·rw [List.getElem?_set] at hq
    split at hq
    ·split at hq
     ·have hq:=Option.some.inj hq
      exact ⟨.inr ⟨q,hq,(Qv q hq).1⟩,(Qv q hq).2.2⟩
     ·cases hq
    ·exact ⟨.inl (b7 p q hq).1,(b7 p q hq).2⟩
   ·rw [List.getElem?_set] at hq gi
    split at hq
    ·rename_i hjp
     split at hq
     ·have hq:=Option.some.inj hq
      split at gi
      ·rename_i Amb;rw [<-hjp,<-Amb]
      ·exact absurd (h.1.apart hq h2 (Qv q hq).1 (he▸(b7 p' q' gi).1)) gg
     ·cases hq
    ·split at gi
     ·split at gi
      ·have gi:=Option.some.inj gi
       exact absurd (h.1.apart gi h2 (Qv q' gi).1 (he▸(b7 p q hq).1)) gg
      ·cases gi
     ·exact b8 p p' q q' hq gi he
   ·rw [List.getElem?_set] at hy
    split at hy
    ·rename_i hjp
     subst hjp
     have hy:=Option.some.inj hy
     subst hy
     exact ⟨vx,R,by rw [hat,if_pos rfl],by rw [List.getElem?_set,if_pos rfl,if_pos (by omega)],s9,hfa.to (λq hq=>o1 _ (Qv q hq).2.2) λes y hc=>mv.cells false e es y hc⟩
    ·rename_i hjp
     obtain ⟨u',R',q1,q2,q3,q4⟩:=b9 p y hy (by rcases ho with ho|ho<;>rw [ho]<;>simp [hjp])
     refine ⟨u',R',by rw [hat,if_neg (Ne.symm hjp)];exact q1,by rw [List.getElem?_set,if_neg hjp];exact q2,q3,q4.to (λq hq=>o1 _ ?_) λes y hc=>mv.cells false e es y hc⟩
     subst hq
     exact (b7 p q q2).2
   ·cases kp with
    |none=>trivial
    |some p=>
     obtain ⟨l0,n0⟩:=p
     simp only [KeptAt,Xr] at pX⊢
     cases MD:X.db l0 with
     |none=>rw [MD] at pX;exact pX.elim
     |some r0=>
      rw [MD] at pX
      obtain ⟨g1,g2,g3,g4⟩:=pX
      refine ⟨g1,g2,g3,λp hp hc=>?_⟩
      have PV:p<n0/\p<j:=by omega
      rw [<-g4 p PV.1 hc,<-g1,<-g2,cellOf JO,cellOf b2,hat,if_neg (by omega)]
  ·rw [JM k e1 e2] at hb
   cases hk:Ad st.heap k with
   |none=>rw [hk] at hb;cases hb
   |some b1=>
    rw [hk] at hb
    simp only [Option.map_some,Option.some.injEq] at hb;subst hb
    rw [dR k e1 e2]
    exact ((h.1.heap k).Md hk).move mv pS.size (λr0 c h0 h1=>h.1.sub _ r0 c h0 h1) λr0 c h0 h1 _=>o1 c (pZ k r0 c h0 h1 e2)
 ·have e2:k≠l:= λe=>by subst e;rw [hHl] at hk;cases hk
  by_cases e1:k=m
  ·subst e1;exact wm
  rw [JM k e1 e2] at hk
  rw [dR k e1 e2]
  cases we:Ad st.heap k with
  |none=>exact (h.1.heap k).emp we
  |some b=>rw [we] at hk;cases hk
end
end Go.Proofs.YtfolipnappekaaaGreat
