/-
  Part 20 of the proof that the statement FnExactInSubgroup holds.
-/
import Derived.Test.YtjbdmibbbpdnnaaCInSubgroup18
namespace Go.Proofs.Ytjbdmibbbpdnnaa
open Go.RowKit
section
variable {P:Program} {T:Tab} {X:Ctx} {w w':World} {π π':Pi} {H H':List (Nat×OB)}
theorem iG (dead part:List Nat) (c:AC):Ap dead part c= .undef\/(Ap dead part c=c/\(∀k∈c.refs,k∉dead)/\ ∀k i j,c= .sub k i j\/c= .Fa k i j->k∉part):=by
 by_cases hu:Ap dead part c= .undef
 ·exact .inl hu
 have hr:=eY hu
 have hp: ∀l i j,c= .sub l i j\/c= .Fa l i j->l∉part:=by
  intro l i j e hm
  refine hu ?_
  unfold Ap
  rcases e with rfl|rfl
  all_goals
   split
   ·rfl
   ·simp [hm]
 exact .inr ⟨Um hr hp,hr,hp⟩
theorem DJ {τ:Ty} (h:τ.Ab=false):τ.size=1:=by cases τ<;>simp_all [Ty.Ab,Ty.size]
theorem uE (hT:Bu P T) {st:St} {a:Act} (h:Af X π st a w) {t:TypeId} {τ:Ty} (ht:T.ty t=some τ) (Lu:τ.Ab=false) {l j m:Nat} {e:Ty} {te tid:TypeId} {rows:List (List e.den)} {xs:List e.den} {out:Option Nat} {kp:Option (Nat×Nat)} {fr tr:Bool}
  (hl:Ad st.heap l=some (.Ai e te rows out kp)) (ho:out=none\/out=some j) (cA:m≠l) (hm:Ad st.heap m=some (.arr fr tr e tid xs)) (mJ:l<Ah)
  {vp vx:Value} (hp:Dk X w π st.heap (.Fc l j) vp) (hx:Dk X w π st.heap (.own m 0 (List.length xs)) vx):
  ∃w' π',(Instr.storeAt t vp vx).run P w= .ok () w'/\Af X π' (Lr st l j m e te rows xs (Tp j kp)) a w':=by
 have Od:τ.size=1:=DJ Lu
 obtain ⟨r,b0,sz,n,h1,h0,h3,h2,rfl⟩:=hp
 rw [hl] at h1;cases h1
 simp only [OB.row,Option.some.injEq,Prod.mk.injEq] at h0
 obtain ⟨rfl,rfl⟩:=h0
 rw [Nat.mul_one]
 obtain ⟨_,mn⟩:=Ij (X:=X) (w:=w) hx hm
 obtain ⟨ax,nx,cx,GN⟩:=Se mn
 have hb:=(h.1.heap l).La hl
 simp only [Ao] at hb
 obtain ⟨hb,kO⟩:=hb
 rw [h2] at hb kO
 obtain ⟨b1,cur,ti,b2,b3,b4,b5,Rs,b6,b7,b8,b9⟩:=hb
 have uv:=(h.1.heap m).La hm
 simp only [Ao,Ew] at uv
 have Nc:=Nw (P:=P) (w:=w) (hT.ty _ _ ht) r.g (r.o+j) vx [vx] (by rw [GN];rfl) (by rw [Od];rfl) (by intro u hu;rw [List.mem_singleton.1 hu,GN];rfl) cur ti b2 (by simp;omega)
 let R:Option Real:=π m
 have XI:Ld w (Ay X.w0.heap.size X.Sc π false) R e xs:=by
  show Ld w _ (π m) e xs
  cases hR:π m with
  |none=>rw [hR] at uv;exact uv
  |some q=>
   rw [hR] at uv
   obtain ⟨⟨f0,WA,_⟩,cu,FB,f2,f3,f4,f5,f6,_⟩:=uv
   exact ⟨⟨f0,WA⟩,cu,FB,f2,f3,f4,f5,λp y hy=>by
    obtain ⟨es,g1,g2,g3⟩:=f6 p y hy
    exact ⟨es,g1,g2,Cells.Cj (Nat.le_refl _) (λ_ _ _=>rfl) (λb _ hA=>hA.imp id (Or.imp id λ⟨h1,_⟩=>by cases h1)) e es y g3⟩⟩
 have hRq: ∀q,R=some q->π m=some q:= λq hq=>hq
 have Nm: ∀q,R=some q->q.Ar q.g/\q.cl q.g/\q.g≠r.g:= λq hq=>⟨h.1.Ar hq,h.1.sub m q _ hq (h.1.Ar hq),λe0=>cA (h.1.apart hq h2 (h.1.Ar hq) (e0▸b1))⟩
 let rl:Real:= {r with Ar:= λb=>r.Ar b\/ ∃q,R=some q/\q.Ar b,cl:= λb=>r.cl b\/ ∃q,R=some q/\q.cl b}
 let π':Pi:= λk=>if k=m then none else if k=l then some rl else π k
 have pF:π' m=none:=if_pos rfl
 have vC:π' l=some rl:=(if_neg (Ne.symm cA)).trans (if_pos rfl)
 have aW: ∀k,k≠m->k≠l->π' k=π k:= λk g1 g2=>(if_neg g1).trans (if_neg g2)
 have mh: ∀k q,π' k=some q->(k=l/\q=rl)\/(k≠m/\k≠l/\π k=some q):= λk q hq=>by
  by_cases e1:k=m
  ·subst e1;rw [pF] at hq;cases hq
  ·by_cases e2:k=l
   ·subst e2;rw [vC] at hq;exact .inl ⟨rfl,(Option.some.inj hq).symm⟩
   ·rw [aW k e1 e2] at hq;exact .inr ⟨e1,e2,hq⟩
 have Pb:r.o+j+ [vx].length<=cur.toList.length:=by simp;omega
 have kL:=Hl w r.g (Bk cur.toList (r.o+j) [vx]).toArray
 have jr: ∀c,c≠r.g->(w.setRow r.g (Bk cur.toList (r.o+j) [vx]).toArray).heap[c]?=w.heap[c]?:= λc hc=>setRow_other w r.g c _ hc
 have LZ: ∀k,Ad (Lr st l j m e te rows xs (Tp j kp)).heap k=Ad (Vm (Oq (st.heap.map λp=>(p.1,p.2.map (Ap [m] [l]))) [m]) l (.Ai e te (rows.set j xs) none (Tp j kp))) k:= λk=>rfl
 have sv:Ad (Oq (st.heap.map λp=>(p.1,p.2.map (Ap [m] [l]))) [m]) l=some (.Ai e te rows out kp):=by
  rw [Hm,Io,if_neg (by simpa using Ne.symm cA),hl];rfl
 have KN:Ad (Lr st l j m e te rows xs (Tp j kp)).heap l=some (.Ai e te (rows.set j xs) none (Tp j kp)):=(LZ l).trans (Ch _ _ _ _ sv)
 have xt: ∀k,k≠m->k≠l->Ad (Lr st l j m e te rows xs (Tp j kp)).heap k=(Ad st.heap k).map (OB.map (Ap [m] [l])):= λk g1 g2=>by
  rw [LZ,Cc _ _ _ _ g2,Hm,Io,if_neg (by simpa using g1)]
 have IL:Ad (Lr st l j m e te rows xs (Tp j kp)).heap m=none:=by
  rw [LZ,Cc _ _ _ _ cA,Hm,if_pos (by simp)]
 have XD:r.cl r.g:=h.1.sub l r _ h2 b1
 have kQ: ∀k r0 c,π k=some r0->r0.cl c->k≠l->c≠r.g:= λk r0 c hk hc Ev e=>Ev (h.1.inj k l r0 r c hk h2 hc (e▸XD))
 refine ⟨_,π',by simp only [Instr.storeAt,Instr.sureAddr];simpa using Nc,?_⟩
 have Qy:Lr st l j m e te rows xs (Tp j kp)= {tmps:=st.tmps.map (·.map (Ap [m] [l])),heap:=(Lr st l j m e te rows xs (Tp j kp)).heap} :=rfl
 rw [Qy]
 refine h.fG (by simp [Ap,AC.refs]) (gv:= λc=>c=r.g) (λc hc=>hc▸⟨l,r,h2,b1⟩) ⟨kL.os,kL.tape,kL.output,kL.size,λc _ hc=>jr c hc⟩ (λb _ ⟨k,q,g1,g2⟩=>?_) (λk q b g1 g2=>?_) (λk q b g1 g2=>?_) (λk k' q q' b g1 g2 g3 g4=>?_) (λk hk Ev=>?_)
  (λhc=>fF (D:= λk=>k=m) (Pt:= λk=>k=l) (λc=>?_) (λk hk=>?_) (λk b hk hb=>?_) (λk r0 b hk QL g1 g2 g3=>jr _ (kQ k r0 _ g3 (h.1.sub k r0 _ g3 (h.1.Ar g3)) QL)) hc) (λmv k b hb=>?_) (λk hk=>?_)
 ·rcases mh k q g1 with ⟨_,rfl⟩|⟨_,_,e1⟩
  ·rcases g2 with g2|⟨q0,g2,g3⟩
   ·exact ⟨l,r,h2,g2⟩
   ·exact ⟨m,q0,g2,g3⟩
  ·exact ⟨k,q,e1,g2⟩
 ·rcases mh k q g1 with ⟨_,rfl⟩|⟨_,_,e1⟩
  ·rcases g2 with g2|⟨q0,g2,g3⟩
   ·exact .inl (h.1.sub l r b h2 g2)
   ·exact .inr ⟨q0,g2,h.1.sub m q0 b g2 g3⟩
  ·exact h.1.sub k q b e1 g2
 ·have up: ∀k q b,π k=some q->q.cl b->(X.w0.heap.size<=b\/X.gv b)/\b<(w.setRow r.g (Bk cur.toList (r.o+j) [vx]).toArray).heap.size:= λk q b e1 e2=>⟨(h.1.place k q b e1 e2).1,Nat.lt_of_lt_of_le (h.1.place k q b e1 e2).2 kL.size⟩
  rcases mh k q g1 with ⟨_,rfl⟩|⟨_,_,e1⟩
  ·rcases g2 with g2|⟨q0,g2,g3⟩
   ·exact up l r b h2 g2
   ·exact up m q0 b g2 g3
  ·exact up k q b e1 g2
 ·rcases mh k q g1 with ⟨e0,rfl⟩|⟨e0,e2,e1⟩<;>rcases mh k' q' g2 with ⟨f0,rfl⟩|⟨f0,f2,f1⟩
  ·rw [e0,f0]
  ·rcases g3 with g3|⟨q0,g3,g5⟩
   ·exact absurd (h.1.inj k' l q' r b f1 h2 g4 g3) f2
   ·exact absurd (h.1.inj k' m q' q0 b f1 g3 g4 g5) f0
  ·rcases g4 with g4|⟨q0,g4,g5⟩
   ·exact absurd (h.1.inj k l q r b e1 h2 g3 g4) e2
   ·exact absurd (h.1.inj k m q q0 b e1 g4 g3 g5) e0
  ·exact h.1.inj k k' q q' b e1 f1 g3 g4
 ·by_cases e1:k=m
  ·subst e1;exact absurd IL Ev
  have e2:k≠l:=by omega
  rw [aW k e1 e2]
  refine h.1.bk k hk λh0=>Ev ?_
  rw [xt k e1 e2,h0];rfl
 ·rcases iG [m] [l] c with e|⟨e,g,g'⟩
  ·exact .inl e
  ·exact .inr ⟨e,λk hk hkm=>g k hk (by simp [hkm]),λk i j hc Lt=>g' k i j hc (by simp [Lt])⟩
 ·by_cases e2:k=l
  ·subst e2;rw [vC,h2];exact ⟨rfl,rfl,rfl⟩
  ·rw [aW k hk e2];exact Zk.rfl' _
 ·by_cases e2:k=l
  ·subst e2
   rw [hl] at hb;cases hb
   exact ⟨_,KN,⟨λ_ n h=>⟨n,by simpa [OB.row] using h,Nat.le_refl _⟩,λ_ h=>by simpa [OB.Zq] using h,λ_ h=>by simpa [OB.mB] using h,(λ_ _ h=>by cases h),(λ_ _ h=>by cases h)⟩⟩
  ·exact ⟨_,by rw [xt k hk e2,hb];rfl,OB.Ll.map _ b⟩
 ·by_cases e1:k=m
  ·subst e1;rw [IL] at hb;cases hb
  by_cases e2:k=l
  ·subst e2
   rw [KN] at hb;cases hb
   rw [vC]
   have OD: ∀p,(Bk cur.toList (r.o+j) [vx]).toArray[r.o+p]?=if p=j then some vx else cur[r.o+p]?:= λp=>by
    rw [List.getElem?_toArray,Ds _ _ _ _ Pb]
    by_cases QZ:p=j
    ·subst QZ
     rw [if_neg (by omega),if_pos (by simp),if_pos rfl]
     simp
    ·rw [if_neg QZ]
     split
     ·simp
     ·rw [if_neg (by simp;omega)];simp
   have xx:=setRow_heap w r.g cur (Bk cur.toList (r.o+j) [vx]).toArray ti _ b2
   refine ⟨⟨.inl b1,_,_,xx,by rw [List.size_toArray,Eg _ _ _ Pb,Array.length_toList];exact b3,b4,by simpa using b5,Rs.set j R,by simpa using b6,λp q hq=>?_,λp p' q q' hq cR he=>?_,λp y hy _=>?_⟩,?_⟩
   ·rw [List.getElem?_set] at hq
    split at hq
    ·split at hq
     ·have hq:=Option.some.inj hq
      exact ⟨.inr ⟨q,hq,(Nm q hq).1⟩,(Nm q hq).2.2⟩
     ·cases hq
    ·exact ⟨.inl (b7 p q hq).1,(b7 p q hq).2⟩
   ·rw [List.getElem?_set] at hq cR
    split at hq
    ·rename_i LG
     split at hq
     ·have hq:=Option.some.inj hq
      split at cR
      ·rename_i XY;rw [<-LG,<-XY]
      ·exact absurd (h.1.apart hq h2 (Nm q hq).1 (he▸(b7 p' q' cR).1)) cA
     ·cases hq
    ·split at cR
     ·split at cR
      ·have cR:=Option.some.inj cR
       exact absurd (h.1.apart cR h2 (Nm q' cR).1 (he▸(b7 p q hq).1)) cA
      ·cases cR
     ·exact b8 p p' q q' hq cR he
   ·rw [List.getElem?_set] at hy
    split at hy
    ·rename_i LG
     subst LG
     have hy:=Option.some.inj hy
     subst hy
     exact ⟨vx,R,by rw [OD,if_pos rfl],by rw [List.getElem?_set,if_pos rfl,if_pos (by omega)],mn,XI.to (λq hq=>jr _ (Nm q hq).2.2) λes y hc=>mv.cells false e es y hc⟩
    ·rename_i LG
     obtain ⟨u',R',q1,q2,q3,q4⟩:=b9 p y hy (by rcases ho with ho|ho<;>rw [ho]<;>simp [LG])
     refine ⟨u',R',by rw [OD,if_neg (Ne.symm LG)];exact q1,by rw [List.getElem?_set,if_neg LG];exact q2,q3,q4.to (λq hq=>jr _ ?_) λes y hc=>mv.cells false e es y hc⟩
     subst hq
     exact (b7 p q q2).2
   ·cases kp with
    |none=>trivial
    |some p=>
     obtain ⟨l0,n0⟩:=p
     simp only [KeptAt,Tp] at kO⊢
     cases yz:X.bk l0 with
     |none=>rw [yz] at kO;exact kO.elim
     |some r0=>
      rw [yz] at kO
      obtain ⟨g1,g2,g3,g4⟩:=kO
      refine ⟨g1,g2,g3,λp hp hc=>?_⟩
      have zR:p<n0/\p<j:=by omega
      rw [<-g4 p zR.1 hc,<-g1,<-g2,cellOf xx,cellOf b2,OD,if_neg (by omega)]
  ·rw [xt k e1 e2] at hb
   cases hk:Ad st.heap k with
   |none=>rw [hk] at hb;cases hb
   |some b1=>
    rw [hk] at hb
    simp only [Option.map_some,Option.some.injEq] at hb;subst hb
    rw [aW k e1 e2]
    exact ((h.1.heap k).La hk).move mv kL.size (λr0 c h0 h1=>h.1.sub _ r0 c h0 h1) λr0 c h0 h1 _=>jr c (kQ k r0 c h0 h1 e2)
 ·have e2:k≠l:= λe=>by subst e;rw [KN] at hk;cases hk
  by_cases e1:k=m
  ·subst e1;exact pF
  rw [xt k e1 e2] at hk
  rw [aW k e1 e2]
  cases mF:Ad st.heap k with
  |none=>exact (h.1.heap k).emp mF
  |some b=>rw [mF] at hk;cases hk
end
end Go.Proofs.Ytjbdmibbbpdnnaa
