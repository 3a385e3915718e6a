/-
  Part 20 of the proof that the statement FnExactBestTableIndex holds.
-/
import Derived.Test.YtfolipnappekaaaGreatCBestTableIndex18
namespace Go.Proofs.YtfolipnappekaaaGreat
open Go.RowKit
section
variable {P:Program} {T:Tab} {X:Ctx} {w w':World} {π π':Pi} {H H':List (Nat×OB)}
theorem kN (dead part:List Nat) (c:AC):Ax dead part c= .undef\/(Ax dead part c=c/\(∀k∈c.refs,k∉dead)/\ ∀k i j,c= .sub k i j\/c= .Fk k i j->k∉part):=by
 by_cases hu:Ax dead part c= .undef
 ·exact .inl hu
 have hr:=hZ hu
 have hp: ∀l i j,c= .sub l i j\/c= .Fk l i j->l∉part:=by
  intro l i j e hm
  refine hu ?_
  unfold Ax
  rcases e with rfl|rfl
  all_goals
   split
   ·rfl
   ·simp [hm]
 exact .inr ⟨Wl hr hp,hr,hp⟩
theorem MX {τ:Ty} (h:τ.Ab=false):τ.size=1:=by cases τ<;>simp_all [Ty.Ab,Ty.size]
theorem yO (hT:Bz P T) {st:St} {a:Act} (h:Aj X π st a w) {t:TypeId} {τ:Ty} (ht:T.ty t=some τ) (My:τ.Ab=false) {l j m:Nat} {e:Ty} {te tid:TypeId} {rows:List (List e.den)} {xs:List e.den} {out:Option Nat} {kp:Option (Nat×Nat)} {fr tr:Bool}
  (hl:Ad st.heap l=some (.Ai e te rows out kp)) (ho:out=none\/out=some j) (ej:m≠l) (hm:Ad st.heap m=some (.arr fr tr e tid xs)) (nz:l<Ak)
  {vp vx:Value} (hp:Dq X w π st.heap (.Fo l j) vp) (hx:Dq X w π st.heap (.own m 0 (List.length xs)) vx):
  ∃w' π',(Instr.storeAt t vp vx).run P w= .ok () w'/\Aj X π' (Mw st l j m e te rows xs (Vh j kp)) a w':=by
 have Wo:τ.size=1:=MX My
 obtain ⟨r,b0,sz,n,h1,h0,h3,h2,rfl⟩:=hp
 rw [hl] at h1;cases h1
 simp only [OB.row,Option.some.injEq,Prod.mk.injEq] at h0
 obtain ⟨rfl,rfl⟩:=h0
 rw [Nat.mul_one]
 obtain ⟨_,pw⟩:=Iz (X:=X) (w:=w) hx hm
 obtain ⟨ax,nx,cx,QM⟩:=Tv pw
 have hb:=(h.1.heap l).Lc hl
 simp only [Au] at hb
 obtain ⟨hb,ny⟩:=hb
 rw [h2] at hb ny
 obtain ⟨b1,cur,ti,b2,b3,b4,b5,Rs,b6,b7,b8,b9⟩:=hb
 have yH:=(h.1.heap m).Lc hm
 simp only [Au,Fl] at yH
 have Ok:=Pf (P:=P) (w:=w) (hT.ty _ _ ht) r.g (r.o+j) vx [vx] (by rw [QM];rfl) (by rw [Wo];rfl) (by intro u hu;rw [List.mem_singleton.1 hu,QM];rfl) cur ti b2 (by simp;omega)
 let R:Option Real:=π m
 have hfa:Mh w (Bd X.w0.heap.size X.Sc π false) R e xs:=by
  show Mh w _ (π m) e xs
  cases hR:π m with
  |none=>rw [hR] at yH;exact yH
  |some q=>
   rw [hR] at yH
   obtain ⟨⟨f0,f0',_⟩,cu,PB,f2,f3,f4,f5,f6,_⟩:=yH
   exact ⟨⟨f0,f0'⟩,cu,PB,f2,f3,f4,f5,λp y hy=>by
    obtain ⟨es,g1,g2,g3⟩:=f6 p y hy
    exact ⟨es,g1,g2,Cells.Ci (Nat.le_refl _) (λ_ _ _=>rfl) (λb _ hA=>hA.imp id (Or.imp id λ⟨h1,_⟩=>by cases h1)) e es y g3⟩⟩
 have hRq: ∀q,R=some q->π m=some q:= λq hq=>hq
 have Oz: ∀q,R=some q->q.Ba q.g/\q.cl q.g/\q.g≠r.g:= λq hq=>⟨h.1.Ba hq,h.1.sub m q _ hq (h.1.Ba hq),λe0=>ej (h.1.apart hq h2 (h.1.Ba hq) (e0▸b1))⟩
 let rl:Real:= {r with Ba:= λb=>r.Ba b\/ ∃q,R=some q/\q.Ba b,cl:= λb=>r.cl b\/ ∃q,R=some q/\q.cl b}
 let π':Pi:= λk=>if k=m then none else if k=l then some rl else π k
 have tt:π' m=none:=if_pos rfl
 have zv:π' l=some rl:=(if_neg (Ne.symm ej)).trans (if_pos rfl)
 have ct: ∀k,k≠m->k≠l->π' k=π k:= λk g1 g2=>(if_neg g1).trans (if_neg g2)
 have pq: ∀k q,π' k=some q->(k=l/\q=rl)\/(k≠m/\k≠l/\π k=some q):= λk q hq=>by
  by_cases e1:k=m
  ·subst e1;rw [tt] at hq;cases hq
  ·by_cases e2:k=l
   ·subst e2;rw [zv] at hq;exact .inl ⟨rfl,(Option.some.inj hq).symm⟩
   ·rw [ct k e1 e2] at hq;exact .inr ⟨e1,e2,hq⟩
 have Qi:r.o+j+ [vx].length<=cur.toList.length:=by simp;omega
 have nq:=Ih w r.g (Bo cur.toList (r.o+j) [vx]).toArray
 have lF: ∀c,c≠r.g->(w.setRow r.g (Bo cur.toList (r.o+j) [vx]).toArray).heap[c]?=w.heap[c]?:= λc hc=>setRow_other w r.g c _ hc
 have WO: ∀k,Ad (Mw st l j m e te rows xs (Vh j kp)).heap k=Ad (Sy (Qb (st.heap.map λp=>(p.1,p.2.map (Ax [m] [l]))) [m]) l (.Ai e te (rows.set j xs) none (Vh j kp))) k:= λk=>rfl
 have dJ:Ad (Qb (st.heap.map λp=>(p.1,p.2.map (Ax [m] [l]))) [m]) l=some (.Ai e te rows out kp):=by
  rw [Ii,Jf,if_neg (by simpa using Ne.symm ej),hl];rfl
 have VA:Ad (Mw st l j m e te rows xs (Vh j kp)).heap l=some (.Ai e te (rows.set j xs) none (Vh j kp)):=(WO l).trans (Cb _ _ _ _ dJ)
 have DI: ∀k,k≠m->k≠l->Ad (Mw st l j m e te rows xs (Vh j kp)).heap k=(Ad st.heap k).map (OB.map (Ax [m] [l])):= λk g1 g2=>by
  rw [WO,Bs _ _ _ _ g2,Ii,Jf,if_neg (by simpa using g1)]
 have SM:Ad (Mw st l j m e te rows xs (Vh j kp)).heap m=none:=by
  rw [WO,Bs _ _ _ _ ej,Ii,if_pos (by simp)]
 have Afh:r.cl r.g:=h.1.sub l r _ h2 b1
 have nA: ∀k r0 c,π k=some r0->r0.cl c->k≠l->c≠r.g:= λk r0 c hk hc Ex e=>Ex (h.1.inj k l r0 r c hk h2 hc (e▸Afh))
 refine ⟨_,π',by simp only [Instr.storeAt,Instr.sureAddr];simpa using Ok,?_⟩
 have Te:Mw st l j m e te rows xs (Vh j kp)= {tmps:=st.tmps.map (·.map (Ax [m] [l])),heap:=(Mw st l j m e te rows xs (Vh j kp)).heap} :=rfl
 rw [Te]
 refine h.iH (by simp [Ax,AC.refs]) (gv:= λc=>c=r.g) (λc hc=>hc▸⟨l,r,h2,b1⟩) ⟨nq.os,nq.tape,nq.output,nq.size,λc _ hc=>lF c hc⟩ (λb _ ⟨k,q,g1,g2⟩=>?_) (λk q b g1 g2=>?_) (λk q b g1 g2=>?_) (λk k' q q' b g1 g2 g3 g4=>?_) (λk hk Ex=>?_)
  (λhc=>iG (D:= λk=>k=m) (Pt:= λk=>k=l) (λc=>?_) (λk hk=>?_) (λk b hk hb=>?_) (λk r0 b hk KE g1 g2 g3=>lF _ (nA k r0 _ g3 (h.1.sub k r0 _ g3 (h.1.Ba g3)) KE)) hc) (λmv k b hb=>?_) (λk hk=>?_)
 ·rcases pq k q g1 with ⟨_,rfl⟩|⟨_,_,e1⟩
  ·rcases g2 with g2|⟨q0,g2,g3⟩
   ·exact ⟨l,r,h2,g2⟩
   ·exact ⟨m,q0,g2,g3⟩
  ·exact ⟨k,q,e1,g2⟩
 ·rcases pq k q g1 with ⟨_,rfl⟩|⟨_,_,e1⟩
  ·rcases g2 with g2|⟨q0,g2,g3⟩
   ·exact .inl (h.1.sub l r b h2 g2)
   ·exact .inr ⟨q0,g2,h.1.sub m q0 b g2 g3⟩
  ·exact h.1.sub k q b e1 g2
 ·have up: ∀k q b,π k=some q->q.cl b->(X.w0.heap.size<=b\/X.gv b)/\b<(w.setRow r.g (Bo cur.toList (r.o+j) [vx]).toArray).heap.size:= λk q b e1 e2=>⟨(h.1.place k q b e1 e2).1,Nat.lt_of_lt_of_le (h.1.place k q b e1 e2).2 nq.size⟩
  rcases pq k q g1 with ⟨_,rfl⟩|⟨_,_,e1⟩
  ·rcases g2 with g2|⟨q0,g2,g3⟩
   ·exact up l r b h2 g2
   ·exact up m q0 b g2 g3
  ·exact up k q b e1 g2
 ·rcases pq k q g1 with ⟨e0,rfl⟩|⟨e0,e2,e1⟩<;>rcases pq k' q' g2 with ⟨f0,rfl⟩|⟨f0,f2,f1⟩
  ·rw [e0,f0]
  ·rcases g3 with g3|⟨q0,g3,g5⟩
   ·exact absurd (h.1.inj k' l q' r b f1 h2 g4 g3) f2
   ·exact absurd (h.1.inj k' m q' q0 b f1 g3 g4 g5) f0
  ·rcases g4 with g4|⟨q0,g4,g5⟩
   ·exact absurd (h.1.inj k l q r b e1 h2 g3 g4) e2
   ·exact absurd (h.1.inj k m q q0 b e1 g4 g3 g5) e0
  ·exact h.1.inj k k' q q' b e1 f1 g3 g4
 ·by_cases e1:k=m
  ·subst e1;exact absurd SM Ex
  have e2:k≠l:=by omega
  rw [ct k e1 e2]
  refine h.1.bI k hk λh0=>Ex ?_
  rw [DI k e1 e2,h0];rfl
 ·rcases kN [m] [l] c with e|⟨e,g,g'⟩
  ·exact .inl e
  ·exact .inr ⟨e,λk hk hkm=>g k hk (by simp [hkm]),λk i j hc Ls=>g' k i j hc (by simp [Ls])⟩
 ·by_cases e2:k=l
  ·subst e2;rw [zv,h2];exact ⟨rfl,rfl,rfl⟩
  ·rw [ct k hk e2];exact aV.rfl' _
 ·by_cases e2:k=l
  ·subst e2
   rw [hl] at hb;cases hb
   exact ⟨_,VA,⟨λ_ n h=>⟨n,by simpa [OB.row] using h,Nat.le_refl _⟩,λ_ h=>by simpa [OB.bf] using h,λ_ h=>by simpa [OB.pI] using h,(λ_ _ h=>by cases h),(λ_ _ h=>by cases h)⟩⟩
  ·exact ⟨_,by rw [DI k hk e2,hb];rfl,OB.Mo.map _ b⟩
 ·by_cases e1:k=m
  ·subst e1;rw [SM] at hb;cases hb
  by_cases e2:k=l
  ·subst e2
   rw [VA] at hb;cases hb
   rw [zv]
   have hat: ∀p,(Bo cur.toList (r.o+j) [vx]).toArray[r.o+p]?=if p=j then some vx else cur[r.o+p]?:= λp=>by
    rw [List.getElem?_toArray,Ea _ _ _ _ Qi]
    by_cases hpj:p=j
    ·subst hpj
     rw [if_neg (by omega),if_pos (by simp),if_pos rfl]
     simp
    ·rw [if_neg hpj]
     split
     ·simp
     ·rw [if_neg (by simp;omega)];simp
   have DK:=setRow_heap w r.g cur (Bo cur.toList (r.o+j) [vx]).toArray ti _ b2
   refine ⟨⟨.inl b1,_,_,DK,by rw [List.size_toArray,Ej _ _ _ Qi,Array.length_toList];exact b3,b4,by simpa using b5,Rs.set j R,by simpa using b6,λp q hq=>?_,λp p' q q' hq fS he=>?_,λp y hy _=>?_⟩,?_⟩
   ·rw [List.getElem?_set] at hq
    split at hq
    ·split at hq
     ·have hq:=Option.some.inj hq
      exact ⟨.inr ⟨q,hq,(Oz q hq).1⟩,(Oz q hq).2.2⟩
     ·cases hq
    ·exact ⟨.inl (b7 p q hq).1,(b7 p q hq).2⟩
   ·rw [List.getElem?_set] at hq fS
    split at hq
    ·rename_i VO
     split at hq
     ·have hq:=Option.some.inj hq
      split at fS
      ·rename_i Afx;rw [<-VO,<-Afx]
      ·exact absurd (h.1.apart hq h2 (Oz q hq).1 (he▸(b7 p' q' fS).1)) ej
     ·cases hq
    ·split at fS
     ·split at fS
      ·have fS:=Option.some.inj fS
       exact absurd (h.1.apart fS h2 (Oz q' fS).1 (he▸(b7 p q hq).1)) ej
      ·cases fS
     ·exact b8 p p' q q' hq fS he
   ·rw [List.getElem?_set] at hy
    split at hy
    ·rename_i VO
     subst VO
     have hy:=Option.some.inj hy
     subst hy
     exact ⟨vx,R,by rw [hat,if_pos rfl],by rw [List.getElem?_set,if_pos rfl,if_pos (by omega)],pw,hfa.to (λq hq=>lF _ (Oz q hq).2.2) λes y hc=>mv.cells false e es y hc⟩
    ·rename_i VO
     obtain ⟨u',R',q1,q2,q3,q4⟩:=b9 p y hy (by rcases ho with ho|ho<;>rw [ho]<;>simp [VO])
     refine ⟨u',R',by rw [hat,if_neg (Ne.symm VO)];exact q1,by rw [List.getElem?_set,if_neg VO];exact q2,q3,q4.to (λq hq=>lF _ ?_) λes y hc=>mv.cells false e es y hc⟩
     subst hq
     exact (b7 p q q2).2
   ·cases kp with
    |none=>trivial
    |some p=>
     obtain ⟨l0,n0⟩:=p
     simp only [KeptAt,Vh] at ny⊢
     cases FK:X.bI l0 with
     |none=>rw [FK] at ny;exact ny.elim
     |some r0=>
      rw [FK] at ny
      obtain ⟨g1,g2,g3,g4⟩:=ny
      refine ⟨g1,g2,g3,λp hp hc=>?_⟩
      have IS:p<n0/\p<j:=by omega
      rw [<-g4 p IS.1 hc,<-g1,<-g2,cellOf DK,cellOf b2,hat,if_neg (by omega)]
  ·rw [DI k e1 e2] at hb
   cases hk:Ad st.heap k with
   |none=>rw [hk] at hb;cases hb
   |some b1=>
    rw [hk] at hb
    simp only [Option.map_some,Option.some.injEq] at hb;subst hb
    rw [ct k e1 e2]
    exact ((h.1.heap k).Lc hk).move mv nq.size (λr0 c h0 h1=>h.1.sub _ r0 c h0 h1) λr0 c h0 h1 _=>lF c (nA k r0 c h0 h1 e2)
 ·have e2:k≠l:= λe=>by subst e;rw [VA] at hk;cases hk
  by_cases e1:k=m
  ·subst e1;exact tt
  rw [DI k e1 e2] at hk
  rw [ct k e1 e2]
  cases tj:Ad st.heap k with
  |none=>exact (h.1.heap k).emp tj
  |some b=>rw [tj] at hk;cases hk
end
end Go.Proofs.YtfolipnappekaaaGreat
