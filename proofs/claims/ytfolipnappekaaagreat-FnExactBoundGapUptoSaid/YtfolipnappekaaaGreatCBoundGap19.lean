/-
  Part 20 of the proof that the statement FnExactBoundGap holds.
-/
import Derived.Test.YtfolipnappekaaaGreatCBoundGap18
namespace Go.Proofs.YtfolipnappekaaaGreat
open Go.RowKit
section
variable {P:Program} {T:Tab} {X:Ctx} {w w':World} {π π':Pi} {H H':List (Nat×OB)}
theorem lT (dead part:List Nat) (c:AC):Az dead part c= .undef\/(Az dead part c=c/\(∀k∈c.refs,k∉dead)/\ ∀k i j,c= .sub k i j\/c= .Gf k i j->k∉part):=by
 by_cases hu:Az dead part c= .undef
 ·exact .inl hu
 have hr:=iW hu
 have hp: ∀l i j,c= .sub l i j\/c= .Gf l i j->l∉part:=by
  intro l i j e hm
  refine hu ?_
  unfold Az
  rcases e with rfl|rfl
  all_goals
   split
   ·rfl
   ·simp [hm]
 exact .inr ⟨Xw hr hp,hr,hp⟩
theorem RT {τ:Ty} (h:τ.Ab=false):τ.size=1:=by cases τ<;>simp_all [Ty.Ab,Ty.size]
theorem AN (hT:Ce P T) {st:St} {a:Act} (h:Al X π st a w) {t:TypeId} {τ:Ty} (ht:T.ty t=some τ) (Od:τ.Ab=false) {l j m:Nat} {e:Ty} {te tid:TypeId} {rows:List (List e.den)} {xs:List e.den} {out:Option Nat} {kp:Option (Nat×Nat)} {fr tr:Bool}
  (hl:Ad st.heap l=some (.Ak e te rows out kp)) (ho:out=none\/out=some j) (fj:m≠l) (hm:Ad st.heap m=some (.arr fr tr e tid xs)) (oK:l<Am)
  {vp vx:Value} (hp:Ec X w π st.heap (.Gi l j) vp) (hx:Ec X w π st.heap (.own m 0 (List.length xs)) vx):
  ∃w' π',(Instr.storeAt t vp vx).run P w= .ok () w'/\Al X π' (Oa st l j m e te rows xs (Ws j kp)) a w':=by
 have Xz:τ.size=1:=RT Od
 obtain ⟨r,b0,sz,n,h1,h0,h3,h2,rfl⟩:=hp
 rw [hl] at h1;cases h1
 simp only [OB.row,Option.some.injEq,Prod.mk.injEq] at h0
 obtain ⟨rfl,rfl⟩:=h0
 rw [Nat.mul_one]
 obtain ⟨_,qJ⟩:=Jp (X:=X) (w:=w) hx hm
 obtain ⟨ax,nx,cx,VH⟩:=Uz qJ
 have hb:=(h.1.heap l).Lx hl
 simp only [Aw] at hb
 obtain ⟨hb,oJ⟩:=hb
 rw [h2] at hb oJ
 obtain ⟨b1,cur,ti,b2,b3,b4,b5,Rs,b6,b7,b8,b9⟩:=hb
 have AG:=(h.1.heap m).Lx hm
 simp only [Aw,Gg] at AG
 have Qb:=Qu (P:=P) (w:=w) (hT.ty _ _ ht) r.g (r.o+j) vx [vx] (by rw [VH];rfl) (by rw [Xz];rfl) (by intro u hu;rw [List.mem_singleton.1 hu,VH];rfl) cur ti b2 (by simp;omega)
 let R:Option Real:=π m
 have hfa:Nk w (Bf X.w0.heap.size X.Sc π false) R e xs:=by
  show Nk w _ (π m) e xs
  cases hR:π m with
  |none=>rw [hR] at AG;exact AG
  |some q=>
   rw [hR] at AG
   obtain ⟨⟨f0,f0',_⟩,cu,TX,f2,f3,f4,f5,f6,_⟩:=AG
   exact ⟨⟨f0,f0'⟩,cu,TX,f2,f3,f4,f5,λp y hy=>by
    obtain ⟨es,g1,g2,g3⟩:=f6 p y hy
    exact ⟨es,g1,g2,Cells.Cs (Nat.le_refl _) (λ_ _ _=>rfl) (λb _ hA=>hA.imp id (Or.imp id λ⟨h1,_⟩=>by cases h1)) e es y g3⟩⟩
 have hRq: ∀q,R=some q->π m=some q:= λq hq=>hq
 have Qm: ∀q,R=some q->q.Bc q.g/\q.cl q.g/\q.g≠r.g:= λq hq=>⟨h.1.Bc hq,h.1.sub m q _ hq (h.1.Bc hq),λe0=>fj (h.1.apart hq h2 (h.1.Bc hq) (e0▸b1))⟩
 let rl:Real:= {r with Bc:= λb=>r.Bc b\/ ∃q,R=some q/\q.Bc b,cl:= λb=>r.cl b\/ ∃q,R=some q/\q.cl b}
 let π':Pi:= λk=>if k=m then none else if k=l then some rl else π k
 have uX:π' m=none:=if_pos rfl
 have CD:π' l=some rl:=(if_neg (Ne.symm fj)).trans (if_pos rfl)
 have dr: ∀k,k≠m->k≠l->π' k=π k:= λk g1 g2=>(if_neg g1).trans (if_neg g2)
 have qH: ∀k q,π' k=some q->(k=l/\q=rl)\/(k≠m/\k≠l/\π k=some q):= λk q hq=>by
  by_cases e1:k=m
  ·subst e1;rw [uX] at hq;cases hq
  ·by_cases e2:k=l
   ·subst e2;rw [CD] at hq;exact .inl ⟨rfl,(Option.some.inj hq).symm⟩
   ·rw [dr k e1 e2] at hq;exact .inr ⟨e1,e2,hq⟩
 have Ry:r.o+j+ [vx].length<=cur.toList.length:=by simp;omega
 have oE:=Iy w r.g (Bt cur.toList (r.o+j) [vx]).toArray
 have mQ: ∀c,c≠r.g->(w.setRow r.g (Bt cur.toList (r.o+j) [vx]).toArray).heap[c]?=w.heap[c]?:= λc hc=>setRow_other w r.g c _ hc
 have Aav: ∀k,Ad (Oa st l j m e te rows xs (Ws j kp)).heap k=Ad (Ug (Rq (st.heap.map λp=>(p.1,p.2.map (Az [m] [l]))) [m]) l (.Ak e te (rows.set j xs) none (Ws j kp))) k:= λk=>rfl
 have eI:Ad (Rq (st.heap.map λp=>(p.1,p.2.map (Az [m] [l]))) [m]) l=some (.Ak e te rows out kp):=by
  rw [Iz,Jv,if_neg (by simpa using Ne.symm fj),hl];rfl
 have ZV:Ad (Oa st l j m e te rows xs (Ws j kp)).heap l=some (.Ak e te (rows.set j xs) none (Ws j kp)):=(Aav l).trans (Ci _ _ _ _ eI)
 have GU: ∀k,k≠m->k≠l->Ad (Oa st l j m e te rows xs (Ws j kp)).heap k=(Ad st.heap k).map (OB.map (Az [m] [l])):= λk g1 g2=>by
  rw [Aav,Bw _ _ _ _ g2,Iz,Jv,if_neg (by simpa using g1)]
 have XM:Ad (Oa st l j m e te rows xs (Ws j kp)).heap m=none:=by
  rw [Aav,Bw _ _ _ _ fj,Iz,if_pos (by simp)]
 have Aj4:r.cl r.g:=h.1.sub l r _ h2 b1
 have oL: ∀k r0 c,π k=some r0->r0.cl c->k≠l->c≠r.g:= λk r0 c hk hc Ff e=>Ff (h.1.inj k l r0 r c hk h2 hc (e▸Aj4))
 refine ⟨_,π',by simp only [Instr.storeAt,Instr.sureAddr];simpa using Qb,?_⟩
 have Ul:Oa st l j m e te rows xs (Ws j kp)= {tmps:=st.tmps.map (·.map (Az [m] [l])),heap:=(Oa st l j m e te rows xs (Ws j kp)).heap} :=rfl
 rw [Ul]
 refine h.ju (by simp [Az,AC.refs]) (gv:= λc=>c=r.g) (λc hc=>hc▸⟨l,r,h2,b1⟩) ⟨oE.os,oE.tape,oE.output,oE.size,λc _ hc=>mQ c hc⟩ (λb _ ⟨k,q,g1,g2⟩=>?_) (λk q b g1 g2=>?_) (λk q b g1 g2=>?_) (λk k' q q' b g1 g2 g3 g4=>?_) (λk hk Ff=>?_)
  (λhc=>jt (D:= λk=>k=m) (Pt:= λk=>k=l) (λc=>?_) (λk hk=>?_) (λk b hk hb=>?_) (λk r0 b hk OQ g1 g2 g3=>mQ _ (oL k r0 _ g3 (h.1.sub k r0 _ g3 (h.1.Bc g3)) OQ)) hc) (λmv k b hb=>?_) (λk hk=>?_)
 ·rcases qH k q g1 with ⟨_,rfl⟩|⟨_,_,e1⟩
  ·rcases g2 with g2|⟨q0,g2,g3⟩
   ·exact ⟨l,r,h2,g2⟩
   ·exact ⟨m,q0,g2,g3⟩
  ·exact ⟨k,q,e1,g2⟩
 ·rcases qH k q g1 with ⟨_,rfl⟩|⟨_,_,e1⟩
  ·rcases g2 with g2|⟨q0,g2,g3⟩
   ·exact .inl (h.1.sub l r b h2 g2)
   ·exact .inr ⟨q0,g2,h.1.sub m q0 b g2 g3⟩
  ·exact h.1.sub k q b e1 g2
 ·have up: ∀k q b,π k=some q->q.cl b->(X.w0.heap.size<=b\/X.gv b)/\b<(w.setRow r.g (Bt cur.toList (r.o+j) [vx]).toArray).heap.size:= λk q b e1 e2=>⟨(h.1.place k q b e1 e2).1,Nat.lt_of_lt_of_le (h.1.place k q b e1 e2).2 oE.size⟩
  rcases qH k q g1 with ⟨_,rfl⟩|⟨_,_,e1⟩
  ·rcases g2 with g2|⟨q0,g2,g3⟩
   ·exact up l r b h2 g2
   ·exact up m q0 b g2 g3
  ·exact up k q b e1 g2
 ·rcases qH k q g1 with ⟨e0,rfl⟩|⟨e0,e2,e1⟩<;>rcases qH k' q' g2 with ⟨f0,rfl⟩|⟨f0,f2,f1⟩
  ·rw [e0,f0]
  ·rcases g3 with g3|⟨q0,g3,g5⟩
   ·exact absurd (h.1.inj k' l q' r b f1 h2 g4 g3) f2
   ·exact absurd (h.1.inj k' m q' q0 b f1 g3 g4 g5) f0
  ·rcases g4 with g4|⟨q0,g4,g5⟩
   ·exact absurd (h.1.inj k l q r b e1 h2 g3 g4) e2
   ·exact absurd (h.1.inj k m q q0 b e1 g4 g3 g5) e0
  ·exact h.1.inj k k' q q' b e1 f1 g3 g4
 ·by_cases e1:k=m
  ·subst e1;exact absurd XM Ff
  have e2:k≠l:=by omega
  rw [dr k e1 e2]
  refine h.1.cE k hk λh0=>Ff ?_
  rw [GU k e1 e2,h0];rfl
 ·rcases lT [m] [l] c with e|⟨e,g,g'⟩
  ·exact .inl e
  ·exact .inr ⟨e,λk hk hkm=>g k hk (by simp [hkm]),λk i j hc Mp=>g' k i j hc (by simp [Mp])⟩
 ·by_cases e2:k=l
  ·subst e2;rw [CD,h2];exact ⟨rfl,rfl,rfl⟩
  ·rw [dr k hk e2];exact bP.rfl' _
 ·by_cases e2:k=l
  ·subst e2
   rw [hl] at hb;cases hb
   exact ⟨_,ZV,⟨λ_ n h=>⟨n,by simpa [OB.row] using h,Nat.le_refl _⟩,λ_ h=>by simpa [OB.bZ] using h,λ_ h=>by simpa [OB.qX] using h,(λ_ _ h=>by cases h),(λ_ _ h=>by cases h)⟩⟩
  ·exact ⟨_,by rw [GU k hk e2,hb];rfl,OB.Ns.map _ b⟩
 ·by_cases e1:k=m
  ·subst e1;rw [XM] at hb;cases hb
  by_cases e2:k=l
  ·subst e2
   rw [ZV] at hb;cases hb
   rw [CD]
   have hat: ∀p,(Bt cur.toList (r.o+j) [vx]).toArray[r.o+p]?=if p=j then some vx else cur[r.o+p]?:= λp=>by
    rw [List.getElem?_toArray,En _ _ _ _ Ry]
    by_cases hpj:p=j
    ·subst hpj
     rw [if_neg (by omega),if_pos (by simp),if_pos rfl]
     simp
    ·rw [if_neg hpj]
     split
     ·simp
     ·rw [if_neg (by simp;omega)];simp
   have GW:=setRow_heap w r.g cur (Bt cur.toList (r.o+j) [vx]).toArray ti _ b2
   refine ⟨⟨.inl b1,_,_,GW,by rw [List.size_toArray,Ew _ _ _ Ry,Array.length_toList];exact b3,b4,by simpa using b5,Rs.set j R,by simpa using b6,λp q hq=>?_,λp p' q q' hq cD he=>?_,λp y hy _=>?_⟩,?_⟩
   ·rw [List.getElem?_set] at hq
    split at hq
    ·split at hq
     ·have hq:=Option.some.inj hq
      exact ⟨.inr ⟨q,hq,(Qm q hq).1⟩,(Qm q hq).2.2⟩
     ·cases hq
    ·exact ⟨.inl (b7 p q hq).1,(b7 p q hq).2⟩
   ·rw [List.getElem?_set] at hq cD
    split at hq
    ·rename_i hjp
     split at hq
     ·have hq:=Option.some.inj hq
      split at cD
      ·rename_i Ajn;rw [<-hjp,<-Ajn]
      ·exact absurd (h.1.apart hq h2 (Qm q hq).1 (he▸(b7 p' q' cD).1)) fj
     ·cases hq
    ·split at cD
     ·split at cD
      ·have cD:=Option.some.inj cD
       exact absurd (h.1.apart cD h2 (Qm q' cD).1 (he▸(b7 p q hq).1)) fj
      ·cases cD
     ·exact b8 p p' q q' hq cD he
   ·rw [List.getElem?_set] at hy
    split at hy
    ·rename_i hjp
     subst hjp
     have hy:=Option.some.inj hy
     subst hy
     exact ⟨vx,R,by rw [hat,if_pos rfl],by rw [List.getElem?_set,if_pos rfl,if_pos (by omega)],qJ,hfa.to (λq hq=>mQ _ (Qm q hq).2.2) λes y hc=>mv.cells false e es y hc⟩
    ·rename_i hjp
     obtain ⟨u',R',q1,q2,q3,q4⟩:=b9 p y hy (by rcases ho with ho|ho<;>rw [ho]<;>simp [hjp])
     refine ⟨u',R',by rw [hat,if_neg (Ne.symm hjp)];exact q1,by rw [List.getElem?_set,if_neg hjp];exact q2,q3,q4.to (λq hq=>mQ _ ?_) λes y hc=>mv.cells false e es y hc⟩
     subst hq
     exact (b7 p q q2).2
   ·cases kp with
    |none=>trivial
    |some p=>
     obtain ⟨l0,n0⟩:=p
     simp only [KeptAt,Ws] at oJ⊢
     cases JE:X.cE l0 with
     |none=>rw [JE] at oJ;exact oJ.elim
     |some r0=>
      rw [JE] at oJ
      obtain ⟨g1,g2,g3,g4⟩:=oJ
      refine ⟨g1,g2,g3,λp hp hc=>?_⟩
      have MX:p<n0/\p<j:=by omega
      rw [<-g4 p MX.1 hc,<-g1,<-g2,cellOf GW,cellOf b2,hat,if_neg (by omega)]
  ·rw [GU k e1 e2] at hb
   cases hk:Ad st.heap k with
   |none=>rw [hk] at hb;cases hb
   |some b1=>
    rw [hk] at hb
    simp only [Option.map_some,Option.some.injEq] at hb;subst hb
    rw [dr k e1 e2]
    exact ((h.1.heap k).Lx hk).move mv oE.size (λr0 c h0 h1=>h.1.sub _ r0 c h0 h1) λr0 c h0 h1 _=>mQ c (oL k r0 c h0 h1 e2)
 ·have e2:k≠l:= λe=>by subst e;rw [ZV] at hk;cases hk
  by_cases e1:k=m
  ·subst e1;exact uX
  rw [GU k e1 e2] at hk
  rw [dr k e1 e2]
  cases qZ:Ad st.heap k with
  |none=>exact (h.1.heap k).emp qZ
  |some b=>rw [qZ] at hk;cases hk
end
end Go.Proofs.YtfolipnappekaaaGreat
