/-
  Part 20 of the proof that the statement FnExactPhaseTwoWord holds.
-/
import Derived.Test.YtjbdmibbbpdnnaaCPhaseTwoWord18
namespace Go.Proofs.Ytjbdmibbbpdnnaa
open Go.RowKit
section
variable {P:Program} {T:Tab} {X:Ctx} {w w':World} {π π':Pi} {H H':List (Nat×OB)}
theorem kh (dead part:List Nat) (c:AC):Aw dead part c= .undef\/(Aw dead part c=c/\(∀k∈c.refs,k∉dead)/\ ∀k i j,c= .sub k i j\/c= .Fv k i j->k∉part):=by
 by_cases hu:Aw dead part c= .undef
 ·exact .inl hu
 have hr:=gL hu
 have hp: ∀l i j,c= .sub l i j\/c= .Fv l i j->l∉part:=by
  intro l i j e hm
  refine hu ?_
  unfold Aw
  rcases e with rfl|rfl
  all_goals
   split
   ·rfl
   ·simp [hm]
 exact .inr ⟨Wi hr hp,hr,hp⟩
theorem JP {τ:Ty} (h:τ.Ac=false):τ.size=1:=by cases τ<;>simp_all [Ty.Ac,Ty.size]
theorem xm (hT:Cd P T) {st:St} {a:Act} (h:Aj X π st a w) {t:TypeId} {τ:Ty} (ht:T.ty t=some τ) (Mz:τ.Ac=false) {l j m:Nat} {e:Ty} {te tid:TypeId} {rows:List (List e.den)} {xs:List e.den} {out:Option Nat} {kp:Option (Nat×Nat)} {fr tr:Bool}
  (hl:Ae st.heap l=some (.Al e te rows out kp)) (ho:out=none\/out=some j) (dR:m≠l) (hm:Ae st.heap m=some (.arr fr tr e tid xs)) (oE:l<Ak)
  {vp vx:Value} (hp:Dx X w π st.heap (.Fy l j) vp) (hx:Dx X w π st.heap (.own m 0 (List.length xs)) vx):
  ∃w' π',(Instr.storeAt t vp vx).run P w= .ok () w'/\Aj X π' (Mx st l j m e te rows xs (Vi j kp)) a w':=by
 have On:τ.size=1:=JP Mz
 obtain ⟨r,b0,sz,n,h1,h0,h3,h2,rfl⟩:=hp
 rw [hl] at h1;cases h1
 simp only [OB.row,Option.some.injEq,Prod.mk.injEq] at h0
 obtain ⟨rfl,rfl⟩:=h0
 rw [Nat.mul_one]
 obtain ⟨_,oe⟩:=Jd (X:=X) (w:=w) hx hm
 obtain ⟨ax,nx,cx,NC⟩:=Tu oe
 have hb:=(h.1.heap l).Me hl
 simp only [Av] at hb
 obtain ⟨hb,mG⟩:=hb
 rw [h2] at hb mG
 obtain ⟨b1,cur,ti,b2,b3,b4,b5,Rs,b6,b7,b8,b9⟩:=hb
 have xd:=(h.1.heap m).Me hm
 simp only [Av,Fl] at xd
 have Oj:=Pl (P:=P) (w:=w) (hT.ty _ _ ht) r.g (r.o+j) vx [vx] (by rw [NC];rfl) (by rw [On];rfl) (by intro u hu;rw [List.mem_singleton.1 hu,NC];rfl) cur ti b2 (by simp;omega)
 let R:Option Real:=π m
 have hfa:Mh w (Be X.w0.heap.size X.Sc π false) R e xs:=by
  show Mh w _ (π m) e xs
  cases hR:π m with
  |none=>rw [hR] at xd;exact xd
  |some q=>
   rw [hR] at xd
   obtain ⟨⟨f0,f0',_⟩,cu,LO,f2,f3,f4,f5,f6,_⟩:=xd
   exact ⟨⟨f0,f0'⟩,cu,LO,f2,f3,f4,f5,λp y hy=>by
    obtain ⟨es,g1,g2,g3⟩:=f6 p y hy
    exact ⟨es,g1,g2,Cells.Cw (Nat.le_refl _) (λ_ _ _=>rfl) (λb _ hA=>hA.imp id (Or.imp id λ⟨h1,_⟩=>by cases h1)) e es y g3⟩⟩
 have hRq: ∀q,R=some q->π m=some q:= λq hq=>hq
 have Oy: ∀q,R=some q->q.Az q.g/\q.cl q.g/\q.g≠r.g:= λq hq=>⟨h.1.Az hq,h.1.sub m q _ hq (h.1.Az hq),λe0=>dR (h.1.apart hq h2 (h.1.Az hq) (e0▸b1))⟩
 let rl:Real:= {r with Az:= λb=>r.Az b\/ ∃q,R=some q/\q.Az b,cl:= λb=>r.cl b\/ ∃q,R=some q/\q.cl b}
 let π':Pi:= λk=>if k=m then none else if k=l then some rl else π k
 have rP:π' m=none:=if_pos rfl
 have yc:π' l=some rl:=(if_neg (Ne.symm dR)).trans (if_pos rfl)
 have ck: ∀k,k≠m->k≠l->π' k=π k:= λk g1 g2=>(if_neg g1).trans (if_neg g2)
 have o9: ∀k q,π' k=some q->(k=l/\q=rl)\/(k≠m/\k≠l/\π k=some q):= λk q hq=>by
  by_cases e1:k=m
  ·subst e1;rw [rP] at hq;cases hq
  ·by_cases e2:k=l
   ·subst e2;rw [yc] at hq;exact .inl ⟨rfl,(Option.some.inj hq).symm⟩
   ·rw [ck k e1 e2] at hq;exact .inr ⟨e1,e2,hq⟩
 have Qp:r.o+j+ [vx].length<=cur.toList.length:=by simp;omega
 have mD:=Ig w r.g (Bt cur.toList (r.o+j) [vx]).toArray
 have l6: ∀c,c≠r.g->(w.setRow r.g (Bt cur.toList (r.o+j) [vx]).toArray).heap[c]?=w.heap[c]?:= λc hc=>setRow_other w r.g c _ hc
 have TA: ∀k,Ae (Mx st l j m e te rows xs (Vi j kp)).heap k=Ae (Xn (Qh (st.heap.map λp=>(p.1,p.2.map (Aw [m] [l]))) [m]) l (.Al e te (rows.set j xs) none (Vi j kp))) k:= λk=>rfl
 have uU:Ae (Qh (st.heap.map λp=>(p.1,p.2.map (Aw [m] [l]))) [m]) l=some (.Al e te rows out kp):=by
  rw [Ih,Jh,if_neg (by simpa using Ne.symm dR),hl];rfl
 have RO:Ae (Mx st l j m e te rows xs (Vi j kp)).heap l=some (.Al e te (rows.set j xs) none (Vi j kp)):=(TA l).trans (Cs _ _ _ _ uU)
 have zS: ∀k,k≠m->k≠l->Ae (Mx st l j m e te rows xs (Vi j kp)).heap k=(Ae st.heap k).map (OB.map (Aw [m] [l])):= λk g1 g2=>by
  rw [TA,Cm _ _ _ _ g2,Ih,Jh,if_neg (by simpa using g1)]
 have PJ:Ae (Mx st l j m e te rows xs (Vi j kp)).heap m=none:=by
  rw [TA,Cm _ _ _ _ dR,Ih,if_pos (by simp)]
 have Ad4:r.cl r.g:=h.1.sub l r _ h2 b1
 have mH: ∀k r0 c,π k=some r0->r0.cl c->k≠l->c≠r.g:= λk r0 c hk hc Ff e=>Ff (h.1.inj k l r0 r c hk h2 hc (e▸Ad4))
 refine ⟨_,π',by simp only [Instr.storeAt,Instr.sureAddr];simpa using Oj,?_⟩
 have Ss:Mx st l j m e te rows xs (Vi j kp)= {tmps:=st.tmps.map (·.map (Aw [m] [l])),heap:=(Mx st l j m e te rows xs (Vi j kp)).heap} :=rfl
 rw [Ss]
 refine h.il (by simp [Aw,AC.refs]) (gv:= λc=>c=r.g) (λc hc=>hc▸⟨l,r,h2,b1⟩) ⟨mD.os,mD.tape,mD.output,mD.size,λc _ hc=>l6 c hc⟩ (λb _ ⟨k,q,g1,g2⟩=>?_) (λk q b g1 g2=>?_) (λk q b g1 g2=>?_) (λk k' q q' b g1 g2 g3 g4=>?_) (λk hk Ff=>?_)
  (λhc=>ik (D:= λk=>k=m) (Pt:= λk=>k=l) (λc=>?_) (λk hk=>?_) (λk b hk hb=>?_) (λk r0 b hk XN g1 g2 g3=>l6 _ (mH k r0 _ g3 (h.1.sub k r0 _ g3 (h.1.Az g3)) XN)) hc) (λmv k b hb=>?_) (λk hk=>?_)
 ·rcases o9 k q g1 with ⟨_,rfl⟩|⟨_,_,e1⟩
  ·rcases g2 with g2|⟨q0,g2,g3⟩
   ·exact ⟨l,r,h2,g2⟩
   ·exact ⟨m,q0,g2,g3⟩
  ·exact ⟨k,q,e1,g2⟩
 ·rcases o9 k q g1 with ⟨_,rfl⟩|⟨_,_,e1⟩
  ·rcases g2 with g2|⟨q0,g2,g3⟩
   ·exact .inl (h.1.sub l r b h2 g2)
   ·exact .inr ⟨q0,g2,h.1.sub m q0 b g2 g3⟩
  ·exact h.1.sub k q b e1 g2
 ·have up: ∀k q b,π k=some q->q.cl b->(X.w0.heap.size<=b\/X.gv b)/\b<(w.setRow r.g (Bt cur.toList (r.o+j) [vx]).toArray).heap.size:= λk q b e1 e2=>⟨(h.1.place k q b e1 e2).1,Nat.lt_of_lt_of_le (h.1.place k q b e1 e2).2 mD.size⟩
  rcases o9 k q g1 with ⟨_,rfl⟩|⟨_,_,e1⟩
  ·rcases g2 with g2|⟨q0,g2,g3⟩
   ·exact up l r b h2 g2
   ·exact up m q0 b g2 g3
  ·exact up k q b e1 g2
 ·rcases o9 k q g1 with ⟨e0,rfl⟩|⟨e0,e2,e1⟩<;>rcases o9 k' q' g2 with ⟨f0,rfl⟩|⟨f0,f2,f1⟩
  ·rw [e0,f0]
  ·rcases g3 with g3|⟨q0,g3,g5⟩
   ·exact absurd (h.1.inj k' l q' r b f1 h2 g4 g3) f2
   ·exact absurd (h.1.inj k' m q' q0 b f1 g3 g4 g5) f0
  ·rcases g4 with g4|⟨q0,g4,g5⟩
   ·exact absurd (h.1.inj k l q r b e1 h2 g3 g4) e2
   ·exact absurd (h.1.inj k m q q0 b e1 g4 g3 g5) e0
  ·exact h.1.inj k k' q q' b e1 f1 g3 g4
 ·by_cases e1:k=m
  ·subst e1;exact absurd PJ Ff
  have e2:k≠l:=by omega
  rw [ck k e1 e2]
  refine h.1.cB k hk λh0=>Ff ?_
  rw [zS k e1 e2,h0];rfl
 ·rcases kh [m] [l] c with e|⟨e,g,g'⟩
  ·exact .inl e
  ·exact .inr ⟨e,λk hk hkm=>g k hk (by simp [hkm]),λk i j hc Kz=>g' k i j hc (by simp [Kz])⟩
 ·by_cases e2:k=l
  ·subst e2;rw [yc,h2];exact ⟨rfl,rfl,rfl⟩
  ·rw [ck k hk e2];exact aV.rfl' _
 ·by_cases e2:k=l
  ·subst e2
   rw [hl] at hb;cases hb
   exact ⟨_,RO,⟨λ_ n h=>⟨n,by simpa [OB.row] using h,Nat.le_refl _⟩,λ_ h=>by simpa [OB.ba] using h,λ_ h=>by simpa [OB.ow] using h,(λ_ _ h=>by cases h),(λ_ _ h=>by cases h)⟩⟩
  ·exact ⟨_,by rw [zS k hk e2,hb];rfl,OB.Mr.map _ b⟩
 ·by_cases e1:k=m
  ·subst e1;rw [PJ] at hb;cases hb
  by_cases e2:k=l
  ·subst e2
   rw [RO] at hb;cases hb
   rw [yc]
   have MI: ∀p,(Bt cur.toList (r.o+j) [vx]).toArray[r.o+p]?=if p=j then some vx else cur[r.o+p]?:= λp=>by
    rw [List.getElem?_toArray,Ed _ _ _ _ Qp]
    by_cases YE:p=j
    ·subst YE
     rw [if_neg (by omega),if_pos (by simp),if_pos rfl]
     simp
    ·rw [if_neg YE]
     split
     ·simp
     ·rw [if_neg (by simp;omega)];simp
   have zW:=setRow_heap w r.g cur (Bt cur.toList (r.o+j) [vx]).toArray ti _ b2
   refine ⟨⟨.inl b1,_,_,zW,by rw [List.size_toArray,Ep _ _ _ Qp,Array.length_toList];exact b3,b4,by simpa using b5,Rs.set j R,by simpa using b6,λp q hq=>?_,λp p' q q' hq ew he=>?_,λp y hy _=>?_⟩,?_⟩
   ·rw [List.getElem?_set] at hq
    split at hq
    ·split at hq
     ·have hq:=Option.some.inj hq
      exact ⟨.inr ⟨q,hq,(Oy q hq).1⟩,(Oy q hq).2.2⟩
     ·cases hq
    ·exact ⟨.inl (b7 p q hq).1,(b7 p q hq).2⟩
   ·rw [List.getElem?_set] at hq ew
    split at hq
    ·rename_i SF
     split at hq
     ·have hq:=Option.some.inj hq
      split at ew
      ·rename_i Adp;rw [<-SF,<-Adp]
      ·exact absurd (h.1.apart hq h2 (Oy q hq).1 (he▸(b7 p' q' ew).1)) dR
     ·cases hq
    ·split at ew
     ·split at ew
      ·have ew:=Option.some.inj ew
       exact absurd (h.1.apart ew h2 (Oy q' ew).1 (he▸(b7 p q hq).1)) dR
      ·cases ew
     ·exact b8 p p' q q' hq ew he
   ·rw [List.getElem?_set] at hy
    split at hy
    ·rename_i SF
     subst SF
     have hy:=Option.some.inj hy
     subst hy
     exact ⟨vx,R,by rw [MI,if_pos rfl],by rw [List.getElem?_set,if_pos rfl,if_pos (by omega)],oe,hfa.to (λq hq=>l6 _ (Oy q hq).2.2) λes y hc=>mv.cells false e es y hc⟩
    ·rename_i SF
     obtain ⟨u',R',q1,q2,q3,q4⟩:=b9 p y hy (by rcases ho with ho|ho<;>rw [ho]<;>simp [SF])
     refine ⟨u',R',by rw [MI,if_neg (Ne.symm SF)];exact q1,by rw [List.getElem?_set,if_neg SF];exact q2,q3,q4.to (λq hq=>l6 _ ?_) λes y hc=>mv.cells false e es y hc⟩
     subst hq
     exact (b7 p q q2).2
   ·cases kp with
    |none=>trivial
    |some p=>
     obtain ⟨l0,n0⟩:=p
     simp only [KeptAt,Vi] at mG⊢
     cases CE:X.cB l0 with
     |none=>rw [CE] at mG;exact mG.elim
     |some r0=>
      rw [CE] at mG
      obtain ⟨g1,g2,g3,g4⟩:=mG
      refine ⟨g1,g2,g3,λp hp hc=>?_⟩
      have FN:p<n0/\p<j:=by omega
      rw [<-g4 p FN.1 hc,<-g1,<-g2,cellOf zW,cellOf b2,MI,if_neg (by omega)]
  ·rw [zS k e1 e2] at hb
   cases hk:Ae st.heap k with
   |none=>rw [hk] at hb;cases hb
   |some b1=>
    rw [hk] at hb
    simp only [Option.map_some,Option.some.injEq] at hb;subst hb
    rw [ck k e1 e2]
    exact ((h.1.heap k).Me hk).move mv mD.size (λr0 c h0 h1=>h.1.sub _ r0 c h0 h1) λr0 c h0 h1 _=>l6 c (mH k r0 c h0 h1 e2)
 ·have e2:k≠l:= λe=>by subst e;rw [RO] at hk;cases hk
  by_cases e1:k=m
  ·subst e1;exact rP
  rw [zS k e1 e2] at hk
  rw [ck k e1 e2]
  cases oB:Ae st.heap k with
  |none=>exact (h.1.heap k).emp oB
  |some b=>rw [oB] at hk;cases hk
end
end Go.Proofs.Ytjbdmibbbpdnnaa
