/-
  Part 20 of the proof that the statement FnExactSubgroupCosetCount holds.
-/
import Derived.Test.YtjbdmibbbpdnnaaCSubgroupCosetCount18
namespace Go.Proofs.Ytjbdmibbbpdnnaa
open Go.RowKit
section
variable {P:Program} {T:Tab} {X:Ctx} {w w':World} {π π':Pi} {H H':List (Nat×OB)}
theorem iv (dead part:List Nat) (c:AC):Ap dead part c= .undef\/(Ap dead part c=c/\(∀k∈c.refs,k∉dead)/\ ∀k i j,c= .sub k i j\/c= .Ew k i j->k∉part):=by
 by_cases hu:Ap dead part c= .undef
 ·exact .inl hu
 have hr:=eN hu
 have hp: ∀l i j,c= .sub l i j\/c= .Ew l i j->l∉part:=by
  intro l i j e hm
  refine hu ?_
  unfold Ap
  rcases e with rfl|rfl
  all_goals
   split
   ·rfl
   ·simp [hm]
 exact .inr ⟨Ua hr hp,hr,hp⟩
theorem CD {τ:Ty} (h:τ.Ab=false):τ.size=1:=by cases τ<;>simp_all [Ty.Ab,Ty.size]
theorem ug (hT:Bt P T) {st:St} {a:Act} (h:Ae X π st a w) {t:TypeId} {τ:Ty} (ht:T.ty t=some τ) (Lr:τ.Ab=false) {l j m:Nat} {e:Ty} {te tid:TypeId} {rows:List (List e.den)} {xs:List e.den} {out:Option Nat} {kp:Option (Nat×Nat)} {fr tr:Bool}
  (hl:Ad st.heap l=some (.Ah e te rows out kp)) (ho:out=none\/out=some j) (cj:m≠l) (hm:Ad st.heap m=some (.arr fr tr e tid xs)) (mo:l<Ag)
  {vp vx:Value} (hp:Dg X w π st.heap (.Ey l j) vp) (hx:Dg X w π st.heap (.own m 0 (List.length xs)) vx):
  ∃w' π',(Instr.storeAt t vp vx).run P w= .ok () w'/\Ae X π' (Ln st l j m e te rows xs (Te j kp)) a w':=by
 have Nx:τ.size=1:=CD Lr
 obtain ⟨r,b0,sz,n,h1,h0,h3,h2,rfl⟩:=hp
 rw [hl] at h1;cases h1
 simp only [OB.row,Option.some.injEq,Prod.mk.injEq] at h0
 obtain ⟨rfl,rfl⟩:=h0
 rw [Nat.mul_one]
 obtain ⟨_,lZ⟩:=Ie (X:=X) (w:=w) hx hm
 obtain ⟨ax,nx,cx,FA⟩:=Rv lZ
 have hb:=(h.1.heap l).Kz hl
 simp only [Ao] at hb
 obtain ⟨hb,kB⟩:=hb
 rw [h2] at hb kB
 obtain ⟨b1,cur,ti,b2,b3,b4,b5,Rs,b6,b7,b8,b9⟩:=hb
 have u9:=(h.1.heap m).Kz hm
 simp only [Ao,Es] at u9
 have My:=Nq (P:=P) (w:=w) (hT.ty _ _ ht) r.g (r.o+j) vx [vx] (by rw [FA];rfl) (by rw [Nx];rfl) (by intro u hu;rw [List.mem_singleton.1 hu,FA];rfl) cur ti b2 (by simp;omega)
 let R:Option Real:=π m
 have VP:Lb w (Ax X.w0.heap.size X.Sc π false) R e xs:=by
  show Lb w _ (π m) e xs
  cases hR:π m with
  |none=>rw [hR] at u9;exact u9
  |some q=>
   rw [hR] at u9
   obtain ⟨⟨f0,UI,_⟩,cu,DP,f2,f3,f4,f5,f6,_⟩:=u9
   exact ⟨⟨f0,UI⟩,cu,DP,f2,f3,f4,f5,λp y hy=>by
    obtain ⟨es,g1,g2,g3⟩:=f6 p y hy
    exact ⟨es,g1,g2,Cells.Ch (Nat.le_refl _) (λ_ _ _=>rfl) (λb _ hA=>hA.imp id (Or.imp id λ⟨h1,_⟩=>by cases h1)) e es y g3⟩⟩
 have hRq: ∀q,R=some q->π m=some q:= λq hq=>hq
 have Ni: ∀q,R=some q->q.Ar q.g/\q.cl q.g/\q.g≠r.g:= λq hq=>⟨h.1.Ar hq,h.1.sub m q _ hq (h.1.Ar hq),λe0=>cj (h.1.apart hq h2 (h.1.Ar hq) (e0▸b1))⟩
 let rl:Real:= {r with Ar:= λb=>r.Ar b\/ ∃q,R=some q/\q.Ar b,cl:= λb=>r.cl b\/ ∃q,R=some q/\q.cl b}
 let π':Pi:= λk=>if k=m then none else if k=l then some rl else π k
 have pb:π' m=none:=if_pos rfl
 have uY:π' l=some rl:=(if_neg (Ne.symm cj)).trans (if_pos rfl)
 have aL: ∀k,k≠m->k≠l->π' k=π k:= λk g1 g2=>(if_neg g1).trans (if_neg g2)
 have lW: ∀k q,π' k=some q->(k=l/\q=rl)\/(k≠m/\k≠l/\π k=some q):= λk q hq=>by
  by_cases e1:k=m
  ·subst e1;rw [pb] at hq;cases hq
  ·by_cases e2:k=l
   ·subst e2;rw [uY] at hq;exact .inl ⟨rfl,(Option.some.inj hq).symm⟩
   ·rw [aL k e1 e2] at hq;exact .inr ⟨e1,e2,hq⟩
 have Ot:r.o+j+ [vx].length<=cur.toList.length:=by simp;omega
 have ky:=Hg w r.g (Bi cur.toList (r.o+j) [vx]).toArray
 have jc: ∀c,c≠r.g->(w.setRow r.g (Bi cur.toList (r.o+j) [vx]).toArray).heap[c]?=w.heap[c]?:= λc hc=>setRow_other w r.g c _ hc
 have KK: ∀k,Ad (Ln st l j m e te rows xs (Te j kp)).heap k=Ad (Ve (Oi (st.heap.map λp=>(p.1,p.2.map (Ap [m] [l]))) [m]) l (.Ah e te (rows.set j xs) none (Te j kp))) k:= λk=>rfl
 have s7:Ad (Oi (st.heap.map λp=>(p.1,p.2.map (Ap [m] [l]))) [m]) l=some (.Ah e te rows out kp):=by
  rw [Hi,Ij,if_neg (by simpa using Ne.symm cj),hl];rfl
 have JC:Ad (Ln st l j m e te rows xs (Te j kp)).heap l=some (.Ah e te (rows.set j xs) none (Te j kp)):=(KK l).trans (Cf _ _ _ _ s7)
 have x6: ∀k,k≠m->k≠l->Ad (Ln st l j m e te rows xs (Te j kp)).heap k=(Ad st.heap k).map (OB.map (Ap [m] [l])):= λk g1 g2=>by
  rw [KK,Cb _ _ _ _ g2,Hi,Ij,if_neg (by simpa using g1)]
 have GX:Ad (Ln st l j m e te rows xs (Te j kp)).heap m=none:=by
  rw [KK,Cb _ _ _ _ cj,Hi,if_pos (by simp)]
 have VK:r.cl r.g:=h.1.sub l r _ h2 b1
 have kD: ∀k r0 c,π k=some r0->r0.cl c->k≠l->c≠r.g:= λk r0 c hk hc Er e=>Er (h.1.inj k l r0 r c hk h2 hc (e▸VK))
 refine ⟨_,π',by simp only [Instr.storeAt,Instr.sureAddr];simpa using My,?_⟩
 have Ra:Ln st l j m e te rows xs (Te j kp)= {tmps:=st.tmps.map (·.map (Ap [m] [l])),heap:=(Ln st l j m e te rows xs (Te j kp)).heap} :=rfl
 rw [Ra]
 refine h.fq (by simp [Ap,AC.refs]) (gv:= λc=>c=r.g) (λc hc=>hc▸⟨l,r,h2,b1⟩) ⟨ky.os,ky.tape,ky.output,ky.size,λc _ hc=>jc c hc⟩ (λb _ ⟨k,q,g1,g2⟩=>?_) (λk q b g1 g2=>?_) (λk q b g1 g2=>?_) (λk k' q q' b g1 g2 g3 g4=>?_) (λk hk Er=>?_)
  (λhc=>fp (D:= λk=>k=m) (Pt:= λk=>k=l) (λc=>?_) (λk hk=>?_) (λk b hk hb=>?_) (λk r0 b hk OR g1 g2 g3=>jc _ (kD k r0 _ g3 (h.1.sub k r0 _ g3 (h.1.Ar g3)) OR)) hc) (λmv k b hb=>?_) (λk hk=>?_)
 ·rcases lW k q g1 with ⟨_,rfl⟩|⟨_,_,e1⟩
  ·rcases g2 with g2|⟨q0,g2,g3⟩
   ·exact ⟨l,r,h2,g2⟩
   ·exact ⟨m,q0,g2,g3⟩
  ·exact ⟨k,q,e1,g2⟩
 ·rcases lW k q g1 with ⟨_,rfl⟩|⟨_,_,e1⟩
  ·rcases g2 with g2|⟨q0,g2,g3⟩
   ·exact .inl (h.1.sub l r b h2 g2)
   ·exact .inr ⟨q0,g2,h.1.sub m q0 b g2 g3⟩
  ·exact h.1.sub k q b e1 g2
 ·have up: ∀k q b,π k=some q->q.cl b->(X.w0.heap.size<=b\/X.gv b)/\b<(w.setRow r.g (Bi cur.toList (r.o+j) [vx]).toArray).heap.size:= λk q b e1 e2=>⟨(h.1.place k q b e1 e2).1,Nat.lt_of_lt_of_le (h.1.place k q b e1 e2).2 ky.size⟩
  rcases lW k q g1 with ⟨_,rfl⟩|⟨_,_,e1⟩
  ·rcases g2 with g2|⟨q0,g2,g3⟩
   ·exact up l r b h2 g2
   ·exact up m q0 b g2 g3
  ·exact up k q b e1 g2
 ·rcases lW k q g1 with ⟨e0,rfl⟩|⟨e0,e2,e1⟩<;>rcases lW k' q' g2 with ⟨f0,rfl⟩|⟨f0,f2,f1⟩
  ·rw [e0,f0]
  ·rcases g3 with g3|⟨q0,g3,g5⟩
   ·exact absurd (h.1.inj k' l q' r b f1 h2 g4 g3) f2
   ·exact absurd (h.1.inj k' m q' q0 b f1 g3 g4 g5) f0
  ·rcases g4 with g4|⟨q0,g4,g5⟩
   ·exact absurd (h.1.inj k l q r b e1 h2 g3 g4) e2
   ·exact absurd (h.1.inj k m q q0 b e1 g4 g3 g5) e0
  ·exact h.1.inj k k' q q' b e1 f1 g3 g4
 ·by_cases e1:k=m
  ·subst e1;exact absurd GX Er
  have e2:k≠l:=by omega
  rw [aL k e1 e2]
  refine h.1.aX k hk λh0=>Er ?_
  rw [x6 k e1 e2,h0];rfl
 ·rcases iv [m] [l] c with e|⟨e,g,g'⟩
  ·exact .inl e
  ·exact .inr ⟨e,λk hk hkm=>g k hk (by simp [hkm]),λk i j hc Lq=>g' k i j hc (by simp [Lq])⟩
 ·by_cases e2:k=l
  ·subst e2;rw [uY,h2];exact ⟨rfl,rfl,rfl⟩
  ·rw [aL k hk e2];exact Yy.rfl' _
 ·by_cases e2:k=l
  ·subst e2
   rw [hl] at hb;cases hb
   exact ⟨_,JC,⟨λ_ n h=>⟨n,by simpa [OB.row] using h,Nat.le_refl _⟩,λ_ h=>by simpa [OB.Zf] using h,λ_ h=>by simpa [OB.mc] using h,(λ_ _ h=>by cases h),(λ_ _ h=>by cases h)⟩⟩
  ·exact ⟨_,by rw [x6 k hk e2,hb];rfl,OB.Lh.map _ b⟩
 ·by_cases e1:k=m
  ·subst e1;rw [GX] at hb;cases hb
  by_cases e2:k=l
  ·subst e2
   rw [JC] at hb;cases hb
   rw [uY]
   have MN: ∀p,(Bi cur.toList (r.o+j) [vx]).toArray[r.o+p]?=if p=j then some vx else cur[r.o+p]?:= λp=>by
    rw [List.getElem?_toArray,Dn _ _ _ _ Ot]
    by_cases PF:p=j
    ·subst PF
     rw [if_neg (by omega),if_pos (by simp),if_pos rfl]
     simp
    ·rw [if_neg PF]
     split
     ·simp
     ·rw [if_neg (by simp;omega)];simp
   have x9:=setRow_heap w r.g cur (Bi cur.toList (r.o+j) [vx]).toArray ti _ b2
   refine ⟨⟨.inl b1,_,_,x9,by rw [List.size_toArray,Eb _ _ _ Ot,Array.length_toList];exact b3,b4,by simpa using b5,Rs.set j R,by simpa using b6,λp q hq=>?_,λp p' q q' hq cF he=>?_,λp y hy _=>?_⟩,?_⟩
   ·rw [List.getElem?_set] at hq
    split at hq
    ·split at hq
     ·have hq:=Option.some.inj hq
      exact ⟨.inr ⟨q,hq,(Ni q hq).1⟩,(Ni q hq).2.2⟩
     ·cases hq
    ·exact ⟨.inl (b7 p q hq).1,(b7 p q hq).2⟩
   ·rw [List.getElem?_set] at hq cF
    split at hq
    ·rename_i JS
     split at hq
     ·have hq:=Option.some.inj hq
      split at cF
      ·rename_i WE;rw [<-JS,<-WE]
      ·exact absurd (h.1.apart hq h2 (Ni q hq).1 (he▸(b7 p' q' cF).1)) cj
     ·cases hq
    ·split at cF
     ·split at cF
      ·have cF:=Option.some.inj cF
       exact absurd (h.1.apart cF h2 (Ni q' cF).1 (he▸(b7 p q hq).1)) cj
      ·cases cF
     ·exact b8 p p' q q' hq cF he
   ·rw [List.getElem?_set] at hy
    split at hy
    ·rename_i JS
     subst JS
     have hy:=Option.some.inj hy
     subst hy
     exact ⟨vx,R,by rw [MN,if_pos rfl],by rw [List.getElem?_set,if_pos rfl,if_pos (by omega)],lZ,VP.to (λq hq=>jc _ (Ni q hq).2.2) λes y hc=>mv.cells false e es y hc⟩
    ·rename_i JS
     obtain ⟨u',R',q1,q2,q3,q4⟩:=b9 p y hy (by rcases ho with ho|ho<;>rw [ho]<;>simp [JS])
     refine ⟨u',R',by rw [MN,if_neg (Ne.symm JS)];exact q1,by rw [List.getElem?_set,if_neg JS];exact q2,q3,q4.to (λq hq=>jc _ ?_) λes y hc=>mv.cells false e es y hc⟩
     subst hq
     exact (b7 p q q2).2
   ·cases kp with
    |none=>trivial
    |some p=>
     obtain ⟨l0,n0⟩:=p
     simp only [KeptAt,Te] at kB⊢
     cases y0:X.aX l0 with
     |none=>rw [y0] at kB;exact kB.elim
     |some r0=>
      rw [y0] at kB
      obtain ⟨g1,g2,g3,g4⟩:=kB
      refine ⟨g1,g2,g3,λp hp hc=>?_⟩
      have zr:p<n0/\p<j:=by omega
      rw [<-g4 p zr.1 hc,<-g1,<-g2,cellOf x9,cellOf b2,MN,if_neg (by omega)]
  ·rw [x6 k e1 e2] at hb
   cases hk:Ad st.heap k with
   |none=>rw [hk] at hb;cases hb
   |some b1=>
    rw [hk] at hb
    simp only [Option.map_some,Option.some.injEq] at hb;subst hb
    rw [aL k e1 e2]
    exact ((h.1.heap k).Kz hk).move mv ky.size (λr0 c h0 h1=>h.1.sub _ r0 c h0 h1) λr0 c h0 h1 _=>jc c (kD k r0 c h0 h1 e2)
 ·have e2:k≠l:= λe=>by subst e;rw [JC] at hk;cases hk
  by_cases e1:k=m
  ·subst e1;exact pb
  rw [x6 k e1 e2] at hk
  rw [aL k e1 e2]
  cases mh:Ad st.heap k with
  |none=>exact (h.1.heap k).emp mh
  |some b=>rw [mh] at hk;cases hk
end
end Go.Proofs.Ytjbdmibbbpdnnaa
