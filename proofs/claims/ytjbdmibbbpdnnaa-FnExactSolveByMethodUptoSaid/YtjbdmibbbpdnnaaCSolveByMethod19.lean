/-
  Part 20 of the proof that the statement FnExactSolveByMethod holds.
-/
import Derived.Test.YtjbdmibbbpdnnaaCSolveByMethod18
namespace Go.Proofs.Ytjbdmibbbpdnnaa
open Go.RowKit
section
variable {P:Program} {T:Tab} {X:Ctx} {w w':World} {π π':Pi} {H H':List (Nat×OB)}
theorem kP (dead part:List Nat) (c:AC):Aw dead part c= .undef\/(Aw dead part c=c/\(∀k∈c.refs,k∉dead)/\ ∀k i j,c= .sub k i j\/c= .Gd k i j->k∉part):=by
 by_cases hu:Aw dead part c= .undef
 ·exact .inl hu
 have hr:=il hu
 have hp: ∀l i j,c= .sub l i j\/c= .Gd l i j->l∉part:=by
  intro l i j e hm
  refine hu ?_
  unfold Aw
  rcases e with rfl|rfl
  all_goals
   split
   ·rfl
   ·simp [hm]
 exact .inr ⟨Wq hr hp,hr,hp⟩
theorem MX {τ:Ty} (h:τ.Ac=false):τ.size=1:=by cases τ<;>simp_all [Ty.Ac,Ty.size]
theorem yu (hT:Cf P T) {st:St} {a:Act} (h:Ai X π st a w) {t:TypeId} {τ:Ty} (ht:T.ty t=some τ) (Nb:τ.Ac=false) {l j m:Nat} {e:Ty} {te tid:TypeId} {rows:List (List e.den)} {xs:List e.den} {out:Option Nat} {kp:Option (Nat×Nat)} {fr tr:Bool}
  (hl:Ae st.heap l=some (.Am e te rows out kp)) (ho:out=none\/out=some j) (eE:m≠l) (hm:Ae st.heap m=some (.arr fr tr e tid xs)) (pC:l<Ak)
  {vp vx:Value} (hp:Ec X w π st.heap (.Gf l j) vp) (hx:Ec X w π st.heap (.own m 0 (List.length xs)) vx):
  ∃w' π',(Instr.storeAt t vp vx).run P w= .ok () w'/\Ai X π' (Mz st l j m e te rows xs (Vn j kp)) a w':=by
 have Ws:τ.size=1:=MX Nb
 obtain ⟨r,b0,sz,n,h1,h0,h3,h2,rfl⟩:=hp
 rw [hl] at h1;cases h1
 simp only [OB.row,Option.some.injEq,Prod.mk.injEq] at h0
 obtain ⟨rfl,rfl⟩:=h0
 rw [Nat.mul_one]
 obtain ⟨_,pd⟩:=Jn (X:=X) (w:=w) hx hm
 obtain ⟨ax,nx,cx,QW⟩:=Tz pd
 have hb:=(h.1.heap l).Mj hl
 simp only [Au] at hb
 obtain ⟨hb,nm⟩:=hb
 rw [h2] at hb nm
 obtain ⟨b1,cur,ti,b2,b3,b4,b5,Rs,b6,b7,b8,b9⟩:=hb
 have yk:=(h.1.heap m).Mj hm
 simp only [Au,Fu] at yk
 have Ou:=Pr (P:=P) (w:=w) (hT.ty _ _ ht) r.g (r.o+j) vx [vx] (by rw [QW];rfl) (by rw [Ws];rfl) (by intro u hu;rw [List.mem_singleton.1 hu,QW];rfl) cur ti b2 (by simp;omega)
 let R:Option Real:=π m
 have hfa:Mm w (Be X.w0.heap.size X.Sc π false) R e xs:=by
  show Mm w _ (π m) e xs
  cases hR:π m with
  |none=>rw [hR] at yk;exact yk
  |some q=>
   rw [hR] at yk
   obtain ⟨⟨f0,f0',_⟩,cu,OX,f2,f3,f4,f5,f6,_⟩:=yk
   exact ⟨⟨f0,f0'⟩,cu,OX,f2,f3,f4,f5,λp y hy=>by
    obtain ⟨es,g1,g2,g3⟩:=f6 p y hy
    exact ⟨es,g1,g2,Cells.Cv (Nat.le_refl _) (λ_ _ _=>rfl) (λb _ hA=>hA.imp id (Or.imp id λ⟨h1,_⟩=>by cases h1)) e es y g3⟩⟩
 have hRq: ∀q,R=some q->π m=some q:= λq hq=>hq
 have Pg: ∀q,R=some q->q.Az q.g/\q.cl q.g/\q.g≠r.g:= λq hq=>⟨h.1.Az hq,h.1.sub m q _ hq (h.1.Az hq),λe0=>eE (h.1.apart hq h2 (h.1.Az hq) (e0▸b1))⟩
 let rl:Real:= {r with Az:= λb=>r.Az b\/ ∃q,R=some q/\q.Az b,cl:= λb=>r.cl b\/ ∃q,R=some q/\q.cl b}
 let π':Pi:= λk=>if k=m then none else if k=l then some rl else π k
 have sX:π' m=none:=if_pos rfl
 have ze:π' l=some rl:=(if_neg (Ne.symm eE)).trans (if_pos rfl)
 have cL: ∀k,k≠m->k≠l->π' k=π k:= λk g1 g2=>(if_neg g1).trans (if_neg g2)
 have pa: ∀k q,π' k=some q->(k=l/\q=rl)\/(k≠m/\k≠l/\π k=some q):= λk q hq=>by
  by_cases e1:k=m
  ·subst e1;rw [sX] at hq;cases hq
  ·by_cases e2:k=l
   ·subst e2;rw [ze] at hq;exact .inl ⟨rfl,(Option.some.inj hq).symm⟩
   ·rw [cL k e1 e2] at hq;exact .inr ⟨e1,e2,hq⟩
 have Pf:r.o+j+ [vx].length<=cur.toList.length:=by simp;omega
 have nh:=Ik w r.g (Bj cur.toList (r.o+j) [vx]).toArray
 have lJ: ∀c,c≠r.g->(w.setRow r.g (Bj cur.toList (r.o+j) [vx]).toArray).heap[c]?=w.heap[c]?:= λc hc=>setRow_other w r.g c _ hc
 have XE: ∀k,Ae (Mz st l j m e te rows xs (Vn j kp)).heap k=Ae (Ya (Qi (st.heap.map λp=>(p.1,p.2.map (Aw [m] [l]))) [m]) l (.Am e te (rows.set j xs) none (Vn j kp))) k:= λk=>rfl
 have wo:Ae (Qi (st.heap.map λp=>(p.1,p.2.map (Aw [m] [l]))) [m]) l=some (.Am e te rows out kp):=by
  rw [Il,Js,if_neg (by simpa using Ne.symm eE),hl];rfl
 have VP:Ae (Mz st l j m e te rows xs (Vn j kp)).heap l=some (.Am e te (rows.set j xs) none (Vn j kp)):=(XE l).trans (Ct _ _ _ _ wo)
 have CG: ∀k,k≠m->k≠l->Ae (Mz st l j m e te rows xs (Vn j kp)).heap k=(Ae st.heap k).map (OB.map (Aw [m] [l])):= λk g1 g2=>by
  rw [XE,Cp _ _ _ _ g2,Il,Js,if_neg (by simpa using g1)]
 have TR:Ae (Mz st l j m e te rows xs (Vn j kp)).heap m=none:=by
  rw [XE,Cp _ _ _ _ eE,Il,if_pos (by simp)]
 have Agh:r.cl r.g:=h.1.sub l r _ h2 b1
 have np: ∀k r0 c,π k=some r0->r0.cl c->k≠l->c≠r.g:= λk r0 c hk hc Ep e=>Ep (h.1.inj k l r0 r c hk h2 hc (e▸Agh))
 refine ⟨_,π',by simp only [Instr.storeAt,Instr.sureAddr];simpa using Ou,?_⟩
 have Ph:Mz st l j m e te rows xs (Vn j kp)= {tmps:=st.tmps.map (·.map (Aw [m] [l])),heap:=(Mz st l j m e te rows xs (Vn j kp)).heap} :=rfl
 rw [Ph]
 refine h.iT (by simp [Aw,AC.refs]) (gv:= λc=>c=r.g) (λc hc=>hc▸⟨l,r,h2,b1⟩) ⟨nh.os,nh.tape,nh.output,nh.size,λc _ hc=>lJ c hc⟩ (λb _ ⟨k,q,g1,g2⟩=>?_) (λk q b g1 g2=>?_) (λk q b g1 g2=>?_) (λk k' q q' b g1 g2 g3 g4=>?_) (λk hk Ep=>?_)
  (λhc=>iS (D:= λk=>k=m) (Pt:= λk=>k=l) (λc=>?_) (λk hk=>?_) (λk b hk hb=>?_) (λk r0 b hk hk2 g1 g2 g3=>lJ _ (np k r0 _ g3 (h.1.sub k r0 _ g3 (h.1.Az g3)) hk2)) hc) (λmv k b hb=>?_) (λk hk=>?_)
 ·rcases pa k q g1 with ⟨_,rfl⟩|⟨_,_,e1⟩
  ·rcases g2 with g2|⟨q0,g2,g3⟩
   ·exact ⟨l,r,h2,g2⟩
   ·exact ⟨m,q0,g2,g3⟩
  ·exact ⟨k,q,e1,g2⟩
 ·rcases pa k q g1 with ⟨_,rfl⟩|⟨_,_,e1⟩
  ·rcases g2 with g2|⟨q0,g2,g3⟩
   ·exact .inl (h.1.sub l r b h2 g2)
   ·exact .inr ⟨q0,g2,h.1.sub m q0 b g2 g3⟩
  ·exact h.1.sub k q b e1 g2
 ·have up: ∀k q b,π k=some q->q.cl b->(X.w0.heap.size<=b\/X.gv b)/\b<(w.setRow r.g (Bj cur.toList (r.o+j) [vx]).toArray).heap.size:= λk q b e1 e2=>⟨(h.1.place k q b e1 e2).1,Nat.lt_of_lt_of_le (h.1.place k q b e1 e2).2 nh.size⟩
  rcases pa k q g1 with ⟨_,rfl⟩|⟨_,_,e1⟩
  ·rcases g2 with g2|⟨q0,g2,g3⟩
   ·exact up l r b h2 g2
   ·exact up m q0 b g2 g3
  ·exact up k q b e1 g2
 ·rcases pa k q g1 with ⟨e0,rfl⟩|⟨e0,e2,e1⟩<;>rcases pa k' q' g2 with ⟨f0,rfl⟩|⟨f0,f2,f1⟩
  ·rw [e0,f0]
  ·rcases g3 with g3|⟨q0,g3,g5⟩
   ·exact absurd (h.1.inj k' l q' r b f1 h2 g4 g3) f2
   ·exact absurd (h.1.inj k' m q' q0 b f1 g3 g4 g5) f0
  ·rcases g4 with g4|⟨q0,g4,g5⟩
   ·exact absurd (h.1.inj k l q r b e1 h2 g3 g4) e2
   ·exact absurd (h.1.inj k m q q0 b e1 g4 g3 g5) e0
  ·exact h.1.inj k k' q q' b e1 f1 g3 g4
 ·by_cases e1:k=m
  ·subst e1;exact absurd TR Ep
  have e2:k≠l:=by omega
  rw [cL k e1 e2]
  refine h.1.dc k hk λh0=>Ep ?_
  rw [CG k e1 e2,h0];rfl
 ·rcases kP [m] [l] c with e|⟨e,g,g'⟩
  ·exact .inl e
  ·exact .inr ⟨e,λk hk hkm=>g k hk (by simp [hkm]),λk i j hc Iz=>g' k i j hc (by simp [Iz])⟩
 ·by_cases e2:k=l
  ·subst e2;rw [ze,h2];exact ⟨rfl,rfl,rfl⟩
  ·rw [cL k hk e2];exact bl.rfl' _
 ·by_cases e2:k=l
  ·subst e2
   rw [hl] at hb;cases hb
   exact ⟨_,VP,⟨λ_ n h=>⟨n,by simpa [OB.row] using h,Nat.le_refl _⟩,λ_ h=>by simpa [OB.br] using h,λ_ h=>by simpa [OB.pt] using h,(λ_ _ h=>by cases h),(λ_ _ h=>by cases h)⟩⟩
  ·exact ⟨_,by rw [CG k hk e2,hb];rfl,OB.Mt.map _ b⟩
 ·by_cases e1:k=m
  ·subst e1;rw [TR] at hb;cases hb
  by_cases e2:k=l
  ·subst e2
   rw [VP] at hb;cases hb
   rw [ze]
   have ZQ: ∀p,(Bj cur.toList (r.o+j) [vx]).toArray[r.o+p]?=if p=j then some vx else cur[r.o+p]?:= λp=>by
    rw [List.getElem?_toArray,Ei _ _ _ _ Pf]
    by_cases hpj:p=j
    ·subst hpj
     rw [if_neg (by omega),if_pos (by simp),if_pos rfl]
     simp
    ·rw [if_neg hpj]
     split
     ·simp
     ·rw [if_neg (by simp;omega)];simp
   have CL:=setRow_heap w r.g cur (Bj cur.toList (r.o+j) [vx]).toArray ti _ b2
   refine ⟨⟨.inl b1,_,_,CL,by rw [List.size_toArray,Ew _ _ _ Pf,Array.length_toList];exact b3,b4,by simpa using b5,Rs.set j R,by simpa using b6,λp q hq=>?_,λp p' q q' hq eX he=>?_,λp y hy _=>?_⟩,?_⟩
   ·rw [List.getElem?_set] at hq
    split at hq
    ·split at hq
     ·have hq:=Option.some.inj hq
      exact ⟨.inr ⟨q,hq,(Pg q hq).1⟩,(Pg q hq).2.2⟩
     ·cases hq
    ·exact ⟨.inl (b7 p q hq).1,(b7 p q hq).2⟩
   ·rw [List.getElem?_set] at hq eX
    split at hq
    ·rename_i WH
     split at hq
     ·have hq:=Option.some.inj hq
      split at eX
      ·rename_i Ah2;rw [<-WH,<-Ah2]
      ·exact absurd (h.1.apart hq h2 (Pg q hq).1 (he▸(b7 p' q' eX).1)) eE
     ·cases hq
    ·split at eX
     ·split at eX
      ·have eX:=Option.some.inj eX
       exact absurd (h.1.apart eX h2 (Pg q' eX).1 (he▸(b7 p q hq).1)) eE
      ·cases eX
     ·exact b8 p p' q q' hq eX he
   ·rw [List.getElem?_set] at hy
    split at hy
    ·rename_i WH
     subst WH
     have hy:=Option.some.inj hy
     subst hy
     exact ⟨vx,R,by rw [ZQ,if_pos rfl],by rw [List.getElem?_set,if_pos rfl,if_pos (by omega)],pd,hfa.to (λq hq=>lJ _ (Pg q hq).2.2) λes y hc=>mv.cells false e es y hc⟩
    ·rename_i WH
     obtain ⟨u',R',q1,q2,q3,q4⟩:=b9 p y hy (by rcases ho with ho|ho<;>rw [ho]<;>simp [WH])
     refine ⟨u',R',by rw [ZQ,if_neg (Ne.symm WH)];exact q1,by rw [List.getElem?_set,if_neg WH];exact q2,q3,q4.to (λq hq=>lJ _ ?_) λes y hc=>mv.cells false e es y hc⟩
     subst hq
     exact (b7 p q q2).2
   ·cases kp with
    |none=>trivial
    |some p=>
     obtain ⟨l0,n0⟩:=p
     simp only [KeptAt,Vn] at nm⊢
     cases EU:X.dc l0 with
     |none=>rw [EU] at nm;exact nm.elim
     |some r0=>
      rw [EU] at nm
      obtain ⟨g1,g2,g3,g4⟩:=nm
      refine ⟨g1,g2,g3,λp hp hc=>?_⟩
      have IN:p<n0/\p<j:=by omega
      rw [<-g4 p IN.1 hc,<-g1,<-g2,cellOf CL,cellOf b2,ZQ,if_neg (by omega)]
  ·rw [CG k e1 e2] at hb
   cases hk:Ae st.heap k with
   |none=>rw [hk] at hb;cases hb
   |some b1=>
    rw [hk] at hb
    simp only [Option.map_some,Option.some.injEq] at hb;subst hb
    rw [cL k e1 e2]
    exact ((h.1.heap k).Mj hk).move mv nh.size (λr0 c h0 h1=>h.1.sub _ r0 c h0 h1) λr0 c h0 h1 _=>lJ c (np k r0 c h0 h1 e2)
 ·have e2:k≠l:= λe=>by subst e;rw [VP] at hk;cases hk
  by_cases e1:k=m
  ·subst e1;exact sX
  rw [CG k e1 e2] at hk
  rw [cL k e1 e2]
  cases pz:Ae st.heap k with
  |none=>exact (h.1.heap k).emp pz
  |some b=>rw [pz] at hk;cases hk
end
end Go.Proofs.Ytjbdmibbbpdnnaa
