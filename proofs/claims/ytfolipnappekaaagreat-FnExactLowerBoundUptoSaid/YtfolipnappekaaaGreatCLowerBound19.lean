/-
  Part 20 of the proof that the statement FnExactLowerBound holds.
-/
import Derived.Test.YtfolipnappekaaaGreatCLowerBound18
namespace Go.Proofs.YtfolipnappekaaaGreat
open Go.RowKit
section
variable {P:Program} {T:Tab} {X:Ctx} {w w':World} {π π':Pi} {H H':List (Nat×OB)}
theorem kH (dead part:List Nat) (c:AC):Ax dead part c= .undef\/(Ax dead part c=c/\(∀k∈c.refs,k∉dead)/\ ∀k i j,c= .sub k i j\/c= .Fk k i j->k∉part):=by
 by_cases hu:Ax dead part c= .undef
 ·exact .inl hu
 have hr:=gZ hu
 have hp: ∀l i j,c= .sub l i j\/c= .Fk l i j->l∉part:=by
  intro l i j e hm
  refine hu ?_
  unfold Ax
  rcases e with rfl|rfl
  all_goals
   split
   ·rfl
   ·simp [hm]
 exact .inr ⟨Wj hr hp,hr,hp⟩
theorem MU {τ:Ty} (h:τ.Ab=false):τ.size=1:=by cases τ<;>simp_all [Ty.Ab,Ty.size]
theorem yG (hT:Bz P T) {st:St} {a:Act} (h:Aj X π st a w) {t:TypeId} {τ:Ty} (ht:T.ty t=some τ) (Mx:τ.Ab=false) {l j m:Nat} {e:Ty} {te tid:TypeId} {rows:List (List e.den)} {xs:List e.den} {out:Option Nat} {kp:Option (Nat×Nat)} {fr tr:Bool}
  (hl:Ad st.heap l=some (.Ah e te rows out kp)) (ho:out=none\/out=some j) (ec:m≠l) (hm:Ad st.heap m=some (.arr fr tr e tid xs)) (nm:l<Ak)
  {vp vx:Value} (hp:Dq X w π st.heap (.Fo l j) vp) (hx:Dq X w π st.heap (.own m 0 (List.length xs)) vx):
  ∃w' π',(Instr.storeAt t vp vx).run P w= .ok () w'/\Aj X π' (Mv st l j m e te rows xs (Vf j kp)) a w':=by
 have Wm:τ.size=1:=MU Mx
 obtain ⟨r,b0,sz,n,h1,h0,h3,h2,rfl⟩:=hp
 rw [hl] at h1;cases h1
 simp only [OB.row,Option.some.injEq,Prod.mk.injEq] at h0
 obtain ⟨rfl,rfl⟩:=h0
 rw [Nat.mul_one]
 obtain ⟨_,pk⟩:=Iz (X:=X) (w:=w) hx hm
 obtain ⟨ax,nx,cx,QI⟩:=Tt pk
 have hb:=(h.1.heap l).Lc hl
 simp only [Au] at hb
 obtain ⟨hb,nk⟩:=hb
 rw [h2] at hb nk
 obtain ⟨b1,cur,ti,b2,b3,b4,b5,Rs,b6,b7,b8,b9⟩:=hb
 have yz:=(h.1.heap m).Lc hm
 simp only [Au,Fl] at yz
 have Oi:=Pe (P:=P) (w:=w) (hT.ty _ _ ht) r.g (r.o+j) vx [vx] (by rw [QI];rfl) (by rw [Wm];rfl) (by intro u hu;rw [List.mem_singleton.1 hu,QI];rfl) cur ti b2 (by simp;omega)
 let R:Option Real:=π m
 have hfa:Mg w (Bd X.w0.heap.size X.Sc π false) R e xs:=by
  show Mg w _ (π m) e xs
  cases hR:π m with
  |none=>rw [hR] at yz;exact yz
  |some q=>
   rw [hR] at yz
   obtain ⟨⟨f0,f0',_⟩,cu,OX,f2,f3,f4,f5,f6,_⟩:=yz
   exact ⟨⟨f0,f0'⟩,cu,OX,f2,f3,f4,f5,λp y hy=>by
    obtain ⟨es,g1,g2,g3⟩:=f6 p y hy
    exact ⟨es,g1,g2,Cells.Ci (Nat.le_refl _) (λ_ _ _=>rfl) (λb _ hA=>hA.imp id (Or.imp id λ⟨h1,_⟩=>by cases h1)) e es y g3⟩⟩
 have hRq: ∀q,R=some q->π m=some q:= λq hq=>hq
 have Ox: ∀q,R=some q->q.Ba q.g/\q.cl q.g/\q.g≠r.g:= λq hq=>⟨h.1.Ba hq,h.1.sub m q _ hq (h.1.Ba hq),λe0=>ec (h.1.apart hq h2 (h.1.Ba hq) (e0▸b1))⟩
 let rl:Real:= {r with Ba:= λb=>r.Ba b\/ ∃q,R=some q/\q.Ba b,cl:= λb=>r.cl b\/ ∃q,R=some q/\q.cl b}
 let π':Pi:= λk=>if k=m then none else if k=l then some rl else π k
 have tj:π' m=none:=if_pos rfl
 have zm:π' l=some rl:=(if_neg (Ne.symm ec)).trans (if_pos rfl)
 have cp: ∀k,k≠m->k≠l->π' k=π k:= λk g1 g2=>(if_neg g1).trans (if_neg g2)
 have pf: ∀k q,π' k=some q->(k=l/\q=rl)\/(k≠m/\k≠l/\π k=some q):= λk q hq=>by
  by_cases e1:k=m
  ·subst e1;rw [tj] at hq;cases hq
  ·by_cases e2:k=l
   ·subst e2;rw [zm] at hq;exact .inl ⟨rfl,(Option.some.inj hq).symm⟩
   ·rw [cp k e1 e2] at hq;exact .inr ⟨e1,e2,hq⟩
 have Qg:r.o+j+ [vx].length<=cur.toList.length:=by simp;omega
 have nf:=Ih w r.g (Bo cur.toList (r.o+j) [vx]).toArray
 have lz: ∀c,c≠r.g->(w.setRow r.g (Bo cur.toList (r.o+j) [vx]).toArray).heap[c]?=w.heap[c]?:= λc hc=>setRow_other w r.g c _ hc
 have WI: ∀k,Ad (Mv st l j m e te rows xs (Vf j kp)).heap k=Ad (Sw (Pz (st.heap.map λp=>(p.1,p.2.map (Ax [m] [l]))) [m]) l (.Ah e te (rows.set j xs) none (Vf j kp))) k:= λk=>rfl
 have dD:Ad (Pz (st.heap.map λp=>(p.1,p.2.map (Ax [m] [l]))) [m]) l=some (.Ah e te rows out kp):=by
  rw [Ii,Jf,if_neg (by simpa using Ne.symm ec),hl];rfl
 have UT:Ad (Mv st l j m e te rows xs (Vf j kp)).heap l=some (.Ah e te (rows.set j xs) none (Vf j kp)):=(WI l).trans (Cb _ _ _ _ dD)
 have DC: ∀k,k≠m->k≠l->Ad (Mv st l j m e te rows xs (Vf j kp)).heap k=(Ad st.heap k).map (OB.map (Ax [m] [l])):= λk g1 g2=>by
  rw [WI,Bs _ _ _ _ g2,Ii,Jf,if_neg (by simpa using g1)]
 have SG:Ad (Mv st l j m e te rows xs (Vf j kp)).heap m=none:=by
  rw [WI,Bs _ _ _ _ ec,Ii,if_pos (by simp)]
 have Afc:r.cl r.g:=h.1.sub l r _ h2 b1
 have np: ∀k r0 c,π k=some r0->r0.cl c->k≠l->c≠r.g:= λk r0 c hk hc Ex e=>Ex (h.1.inj k l r0 r c hk h2 hc (e▸Afc))
 refine ⟨_,π',by simp only [Instr.storeAt,Instr.sureAddr];simpa using Oi,?_⟩
 have Tc:Mv st l j m e te rows xs (Vf j kp)= {tmps:=st.tmps.map (·.map (Ax [m] [l])),heap:=(Mv st l j m e te rows xs (Vf j kp)).heap} :=rfl
 rw [Tc]
 refine h.iC (by simp [Ax,AC.refs]) (gv:= λc=>c=r.g) (λc hc=>hc▸⟨l,r,h2,b1⟩) ⟨nf.os,nf.tape,nf.output,nf.size,λc _ hc=>lz c hc⟩ (λb _ ⟨k,q,g1,g2⟩=>?_) (λk q b g1 g2=>?_) (λk q b g1 g2=>?_) (λk k' q q' b g1 g2 g3 g4=>?_) (λk hk Ex=>?_)
  (λhc=>iB (D:= λk=>k=m) (Pt:= λk=>k=l) (λc=>?_) (λk hk=>?_) (λk b hk hb=>?_) (λk r0 b hk KB g1 g2 g3=>lz _ (np k r0 _ g3 (h.1.sub k r0 _ g3 (h.1.Ba g3)) KB)) hc) (λmv k b hb=>?_) (λk hk=>?_)
 ·rcases pf k q g1 with ⟨_,rfl⟩|⟨_,_,e1⟩
  ·rcases g2 with g2|⟨q0,g2,g3⟩
   ·exact ⟨l,r,h2,g2⟩
   ·exact ⟨m,q0,g2,g3⟩
  ·exact ⟨k,q,e1,g2⟩
 ·rcases pf k q g1 with ⟨_,rfl⟩|⟨_,_,e1⟩
  ·rcases g2 with g2|⟨q0,g2,g3⟩
   ·exact .inl (h.1.sub l r b h2 g2)
   ·exact .inr ⟨q0,g2,h.1.sub m q0 b g2 g3⟩
  ·exact h.1.sub k q b e1 g2
 ·have up: ∀k q b,π k=some q->q.cl b->(X.w0.heap.size<=b\/X.gv b)/\b<(w.setRow r.g (Bo cur.toList (r.o+j) [vx]).toArray).heap.size:= λk q b e1 e2=>⟨(h.1.place k q b e1 e2).1,Nat.lt_of_lt_of_le (h.1.place k q b e1 e2).2 nf.size⟩
  rcases pf k q g1 with ⟨_,rfl⟩|⟨_,_,e1⟩
  ·rcases g2 with g2|⟨q0,g2,g3⟩
   ·exact up l r b h2 g2
   ·exact up m q0 b g2 g3
  ·exact up k q b e1 g2
 ·rcases pf k q g1 with ⟨e0,rfl⟩|⟨e0,e2,e1⟩<;>rcases pf k' q' g2 with ⟨f0,rfl⟩|⟨f0,f2,f1⟩
  ·rw [e0,f0]
  ·rcases g3 with g3|⟨q0,g3,g5⟩
   ·exact absurd (h.1.inj k' l q' r b f1 h2 g4 g3) f2
   ·exact absurd (h.1.inj k' m q' q0 b f1 g3 g4 g5) f0
  ·rcases g4 with g4|⟨q0,g4,g5⟩
   ·exact absurd (h.1.inj k l q r b e1 h2 g3 g4) e2
   ·exact absurd (h.1.inj k m q q0 b e1 g4 g3 g5) e0
  ·exact h.1.inj k k' q q' b e1 f1 g3 g4
 ·by_cases e1:k=m
  ·subst e1;exact absurd SG Ex
  have e2:k≠l:=by omega
  rw [cp k e1 e2]
  refine h.1.bF k hk λh0=>Ex ?_
  rw [DC k e1 e2,h0];rfl
 ·rcases kH [m] [l] c with e|⟨e,g,g'⟩
  ·exact .inl e
  ·exact .inr ⟨e,λk hk hkm=>g k hk (by simp [hkm]),λk i j hc Lr=>g' k i j hc (by simp [Lr])⟩
 ·by_cases e2:k=l
  ·subst e2;rw [zm,h2];exact ⟨rfl,rfl,rfl⟩
  ·rw [cp k hk e2];exact aS.rfl' _
 ·by_cases e2:k=l
  ·subst e2
   rw [hl] at hb;cases hb
   exact ⟨_,UT,⟨λ_ n h=>⟨n,by simpa [OB.row] using h,Nat.le_refl _⟩,λ_ h=>by simpa [OB.ba] using h,λ_ h=>by simpa [OB.pC] using h,(λ_ _ h=>by cases h),(λ_ _ h=>by cases h)⟩⟩
  ·exact ⟨_,by rw [DC k hk e2,hb];rfl,OB.Mn.map _ b⟩
 ·by_cases e1:k=m
  ·subst e1;rw [SG] at hb;cases hb
  by_cases e2:k=l
  ·subst e2
   rw [UT] at hb;cases hb
   rw [zm]
   have hat: ∀p,(Bo cur.toList (r.o+j) [vx]).toArray[r.o+p]?=if p=j then some vx else cur[r.o+p]?:= λp=>by
    rw [List.getElem?_toArray,Ea _ _ _ _ Qg]
    by_cases hpj:p=j
    ·subst hpj
     rw [if_neg (by omega),if_pos (by simp),if_pos rfl]
     simp
    ·rw [if_neg hpj]
     split
     ·simp
     ·rw [if_neg (by simp;omega)];simp
   have DE:=setRow_heap w r.g cur (Bo cur.toList (r.o+j) [vx]).toArray ti _ b2
   refine ⟨⟨.inl b1,_,_,DE,by rw [List.size_toArray,Ej _ _ _ Qg,Array.length_toList];exact b3,b4,by simpa using b5,Rs.set j R,by simpa using b6,λp q hq=>?_,λp p' q q' hq fL he=>?_,λp y hy _=>?_⟩,?_⟩
   ·rw [List.getElem?_set] at hq
    split at hq
    ·split at hq
     ·have hq:=Option.some.inj hq
      exact ⟨.inr ⟨q,hq,(Ox q hq).1⟩,(Ox q hq).2.2⟩
     ·cases hq
    ·exact ⟨.inl (b7 p q hq).1,(b7 p q hq).2⟩
   ·rw [List.getElem?_set] at hq fL
    split at hq
    ·rename_i VI
     split at hq
     ·have hq:=Option.some.inj hq
      split at fL
      ·rename_i Afs;rw [<-VI,<-Afs]
      ·exact absurd (h.1.apart hq h2 (Ox q hq).1 (he▸(b7 p' q' fL).1)) ec
     ·cases hq
    ·split at fL
     ·split at fL
      ·have fL:=Option.some.inj fL
       exact absurd (h.1.apart fL h2 (Ox q' fL).1 (he▸(b7 p q hq).1)) ec
      ·cases fL
     ·exact b8 p p' q q' hq fL he
   ·rw [List.getElem?_set] at hy
    split at hy
    ·rename_i VI
     subst VI
     have hy:=Option.some.inj hy
     subst hy
     exact ⟨vx,R,by rw [hat,if_pos rfl],by rw [List.getElem?_set,if_pos rfl,if_pos (by omega)],pk,hfa.to (λq hq=>lz _ (Ox q hq).2.2) λes y hc=>mv.cells false e es y hc⟩
    ·rename_i VI
     obtain ⟨u',R',q1,q2,q3,q4⟩:=b9 p y hy (by rcases ho with ho|ho<;>rw [ho]<;>simp [VI])
     refine ⟨u',R',by rw [hat,if_neg (Ne.symm VI)];exact q1,by rw [List.getElem?_set,if_neg VI];exact q2,q3,q4.to (λq hq=>lz _ ?_) λes y hc=>mv.cells false e es y hc⟩
     subst hq
     exact (b7 p q q2).2
   ·cases kp with
    |none=>trivial
    |some p=>
     obtain ⟨l0,n0⟩:=p
     simp only [KeptAt,Vf] at nk⊢
     cases FE:X.bF l0 with
     |none=>rw [FE] at nk;exact nk.elim
     |some r0=>
      rw [FE] at nk
      obtain ⟨g1,g2,g3,g4⟩:=nk
      refine ⟨g1,g2,g3,λp hp hc=>?_⟩
      have IN:p<n0/\p<j:=by omega
      rw [<-g4 p IN.1 hc,<-g1,<-g2,cellOf DE,cellOf b2,hat,if_neg (by omega)]
  ·rw [DC k e1 e2] at hb
   cases hk:Ad st.heap k with
   |none=>rw [hk] at hb;cases hb
   |some b1=>
    rw [hk] at hb
    simp only [Option.map_some,Option.some.injEq] at hb;subst hb
    rw [cp k e1 e2]
    exact ((h.1.heap k).Lc hk).move mv nf.size (λr0 c h0 h1=>h.1.sub _ r0 c h0 h1) λr0 c h0 h1 _=>lz c (np k r0 c h0 h1 e2)
 ·have e2:k≠l:= λe=>by subst e;rw [UT] at hk;cases hk
  by_cases e1:k=m
  ·subst e1;exact tj
  rw [DC k e1 e2] at hk
  rw [cp k e1 e2]
  cases ta:Ad st.heap k with
  |none=>exact (h.1.heap k).emp ta
  |some b=>rw [ta] at hk;cases hk
end
end Go.Proofs.YtfolipnappekaaaGreat
