/-
  Part 20 of the proof that the statement FnExactStageWord holds.
-/
import Derived.Test.YtjbdmibbbpdnnaaCStageWord18
namespace Go.Proofs.Ytjbdmibbbpdnnaa
open Go.RowKit
section
variable {P:Program} {T:Tab} {X:Ctx} {w w':World} {π π':Pi} {H H':List (Nat×OB)}
theorem jX (dead part:List Nat) (c:AC):Au dead part c= .undef\/(Au dead part c=c/\(∀k∈c.refs,k∉dead)/\ ∀k i j,c= .sub k i j\/c= .Fo k i j->k∉part):=by
 by_cases hu:Au dead part c= .undef
 ·exact .inl hu
 have hr:=gw hu
 have hp: ∀l i j,c= .sub l i j\/c= .Fo l i j->l∉part:=by
  intro l i j e hm
  refine hu ?_
  unfold Au
  rcases e with rfl|rfl
  all_goals
   split
   ·rfl
   ·simp [hm]
 exact .inr ⟨Vv hr hp,hr,hp⟩
theorem KC {τ:Ty} (h:τ.Ab=false):τ.size=1:=by cases τ<;>simp_all [Ty.Ab,Ty.size]
theorem xl (hT:Bz P T) {st:St} {a:Act} (h:Ai X π st a w) {t:TypeId} {τ:Ty} (ht:T.ty t=some τ) (Mu:τ.Ab=false) {l j m:Nat} {e:Ty} {te tid:TypeId} {rows:List (List e.den)} {xs:List e.den} {out:Option Nat} {kp:Option (Nat×Nat)} {fr tr:Bool}
  (hl:Ae st.heap l=some (.Ak e te rows out kp)) (ho:out=none\/out=some j) (dI:m≠l) (hm:Ae st.heap m=some (.arr fr tr e tid xs)) (ov:l<Aj)
  {vp vx:Value} (hp:Dx X w π st.heap (.Fq l j) vp) (hx:Dx X w π st.heap (.own m 0 (List.length xs)) vx):
  ∃w' π',(Instr.storeAt t vp vx).run P w= .ok () w'/\Ai X π' (Ms st l j m e te rows xs (Uw j kp)) a w':=by
 have Vx:τ.size=1:=KC Mu
 obtain ⟨r,b0,sz,n,h1,h0,h3,h2,rfl⟩:=hp
 rw [hl] at h1;cases h1
 simp only [OB.row,Option.some.injEq,Prod.mk.injEq] at h0
 obtain ⟨rfl,rfl⟩:=h0
 rw [Nat.mul_one]
 obtain ⟨_,o5⟩:=Ja (X:=X) (w:=w) hx hm
 obtain ⟨ax,nx,cx,NW⟩:=Tk o5
 have hb:=(h.1.heap l).Ma hl
 simp only [At] at hb
 obtain ⟨hb,my⟩:=hb
 rw [h2] at hb my
 obtain ⟨b1,cur,ti,b2,b3,b4,b5,Rs,b6,b7,b8,b9⟩:=hb
 have xe:=(h.1.heap m).Ma hm
 simp only [At,Fe] at xe
 have Og:=Pc (P:=P) (w:=w) (hT.ty _ _ ht) r.g (r.o+j) vx [vx] (by rw [NW];rfl) (by rw [Vx];rfl) (by intro u hu;rw [List.mem_singleton.1 hu,NW];rfl) cur ti b2 (by simp;omega)
 let R:Option Real:=π m
 have hfa:Md w (Bc X.w0.heap.size X.Sc π false) R e xs:=by
  show Md w _ (π m) e xs
  cases hR:π m with
  |none=>rw [hR] at xe;exact xe
  |some q=>
   rw [hR] at xe
   obtain ⟨⟨f0,f0',_⟩,cu,ME,f2,f3,f4,f5,f6,_⟩:=xe
   exact ⟨⟨f0,f0'⟩,cu,ME,f2,f3,f4,f5,λp y hy=>by
    obtain ⟨es,g1,g2,g3⟩:=f6 p y hy
    exact ⟨es,g1,g2,Cells.Cs (Nat.le_refl _) (λ_ _ _=>rfl) (λb _ hA=>hA.imp id (Or.imp id λ⟨h1,_⟩=>by cases h1)) e es y g3⟩⟩
 have hRq: ∀q,R=some q->π m=some q:= λq hq=>hq
 have Ot: ∀q,R=some q->q.Ax q.g/\q.cl q.g/\q.g≠r.g:= λq hq=>⟨h.1.Ax hq,h.1.sub m q _ hq (h.1.Ax hq),λe0=>dI (h.1.apart hq h2 (h.1.Ax hq) (e0▸b1))⟩
 let rl:Real:= {r with Ax:= λb=>r.Ax b\/ ∃q,R=some q/\q.Ax b,cl:= λb=>r.cl b\/ ∃q,R=some q/\q.cl b}
 let π':Pi:= λk=>if k=m then none else if k=l then some rl else π k
 have rR:π' m=none:=if_pos rfl
 have xY:π' l=some rl:=(if_neg (Ne.symm dI)).trans (if_pos rfl)
 have c8: ∀k,k≠m->k≠l->π' k=π k:= λk g1 g2=>(if_neg g1).trans (if_neg g2)
 have o0: ∀k q,π' k=some q->(k=l/\q=rl)\/(k≠m/\k≠l/\π k=some q):= λk q hq=>by
  by_cases e1:k=m
  ·subst e1;rw [rR] at hq;cases hq
  ·by_cases e2:k=l
   ·subst e2;rw [xY] at hq;exact .inl ⟨rfl,(Option.some.inj hq).symm⟩
   ·rw [c8 k e1 e2] at hq;exact .inr ⟨e1,e2,hq⟩
 have Qf:r.o+j+ [vx].length<=cur.toList.length:=by simp;omega
 have mq:=Ib w r.g (Bf cur.toList (r.o+j) [vx]).toArray
 have kV: ∀c,c≠r.g->(w.setRow r.g (Bf cur.toList (r.o+j) [vx]).toArray).heap[c]?=w.heap[c]?:= λc hc=>setRow_other w r.g c _ hc
 have UA: ∀k,Ae (Ms st l j m e te rows xs (Uw j kp)).heap k=Ae (Xd (Py (st.heap.map λp=>(p.1,p.2.map (Au [m] [l]))) [m]) l (.Ak e te (rows.set j xs) none (Uw j kp))) k:= λk=>rfl
 have uY:Ae (Py (st.heap.map λp=>(p.1,p.2.map (Au [m] [l]))) [m]) l=some (.Ak e te rows out kp):=by
  rw [Ic,Jg,if_neg (by simpa using Ne.symm dI),hl];rfl
 have SN:Ae (Ms st l j m e te rows xs (Uw j kp)).heap l=some (.Ak e te (rows.set j xs) none (Uw j kp)):=(UA l).trans (Cq _ _ _ _ uY)
 have zU: ∀k,k≠m->k≠l->Ae (Ms st l j m e te rows xs (Uw j kp)).heap k=(Ae st.heap k).map (OB.map (Au [m] [l])):= λk g1 g2=>by
  rw [UA,Cj _ _ _ _ g2,Ic,Jg,if_neg (by simpa using g1)]
 have QP:Ae (Ms st l j m e te rows xs (Uw j kp)).heap m=none:=by
  rw [UA,Cj _ _ _ _ dI,Ic,if_pos (by simp)]
 have Ae8:r.cl r.g:=h.1.sub l r _ h2 b1
 have mz: ∀k r0 c,π k=some r0->r0.cl c->k≠l->c≠r.g:= λk r0 c hk hc Ek e=>Ek (h.1.inj k l r0 r c hk h2 hc (e▸Ae8))
 refine ⟨_,π',by simp only [Instr.storeAt,Instr.sureAddr];simpa using Og,?_⟩
 have Pp:Ms st l j m e te rows xs (Uw j kp)= {tmps:=st.tmps.map (·.map (Au [m] [l])),heap:=(Ms st l j m e te rows xs (Uw j kp)).heap} :=rfl
 rw [Pp]
 refine h.gX (by simp [Au,AC.refs]) (gv:= λc=>c=r.g) (λc hc=>hc▸⟨l,r,h2,b1⟩) ⟨mq.os,mq.tape,mq.output,mq.size,λc _ hc=>kV c hc⟩ (λb _ ⟨k,q,g1,g2⟩=>?_) (λk q b g1 g2=>?_) (λk q b g1 g2=>?_) (λk k' q q' b g1 g2 g3 g4=>?_) (λk hk Ek=>?_)
  (λhc=>gW (D:= λk=>k=m) (Pt:= λk=>k=l) (λc=>?_) (λk hk=>?_) (λk b hk hb=>?_) (λk r0 b hk hk2 g1 g2 g3=>kV _ (mz k r0 _ g3 (h.1.sub k r0 _ g3 (h.1.Ax g3)) hk2)) hc) (λmv k b hb=>?_) (λk hk=>?_)
 ·rcases o0 k q g1 with ⟨_,rfl⟩|⟨_,_,e1⟩
  ·rcases g2 with g2|⟨q0,g2,g3⟩
   ·exact ⟨l,r,h2,g2⟩
   ·exact ⟨m,q0,g2,g3⟩
  ·exact ⟨k,q,e1,g2⟩
 ·rcases o0 k q g1 with ⟨_,rfl⟩|⟨_,_,e1⟩
  ·rcases g2 with g2|⟨q0,g2,g3⟩
   ·exact .inl (h.1.sub l r b h2 g2)
   ·exact .inr ⟨q0,g2,h.1.sub m q0 b g2 g3⟩
  ·exact h.1.sub k q b e1 g2
 ·have up: ∀k q b,π k=some q->q.cl b->(X.w0.heap.size<=b\/X.gv b)/\b<(w.setRow r.g (Bf cur.toList (r.o+j) [vx]).toArray).heap.size:= λk q b e1 e2=>⟨(h.1.place k q b e1 e2).1,Nat.lt_of_lt_of_le (h.1.place k q b e1 e2).2 mq.size⟩
  rcases o0 k q g1 with ⟨_,rfl⟩|⟨_,_,e1⟩
  ·rcases g2 with g2|⟨q0,g2,g3⟩
   ·exact up l r b h2 g2
   ·exact up m q0 b g2 g3
  ·exact up k q b e1 g2
 ·rcases o0 k q g1 with ⟨e0,rfl⟩|⟨e0,e2,e1⟩<;>rcases o0 k' q' g2 with ⟨f0,rfl⟩|⟨f0,f2,f1⟩
  ·rw [e0,f0]
  ·rcases g3 with g3|⟨q0,g3,g5⟩
   ·exact absurd (h.1.inj k' l q' r b f1 h2 g4 g3) f2
   ·exact absurd (h.1.inj k' m q' q0 b f1 g3 g4 g5) f0
  ·rcases g4 with g4|⟨q0,g4,g5⟩
   ·exact absurd (h.1.inj k l q r b e1 h2 g3 g4) e2
   ·exact absurd (h.1.inj k m q q0 b e1 g4 g3 g5) e0
  ·exact h.1.inj k k' q q' b e1 f1 g3 g4
 ·by_cases e1:k=m
  ·subst e1;exact absurd QP Ek
  have e2:k≠l:=by omega
  rw [c8 k e1 e2]
  refine h.1.cw k hk λh0=>Ek ?_
  rw [zU k e1 e2,h0];rfl
 ·rcases jX [m] [l] c with e|⟨e,g,g'⟩
  ·exact .inl e
  ·exact .inr ⟨e,λk hk hkm=>g k hk (by simp [hkm]),λk i j hc Ix=>g' k i j hc (by simp [Ix])⟩
 ·by_cases e2:k=l
  ·subst e2;rw [xY,h2];exact ⟨rfl,rfl,rfl⟩
  ·rw [c8 k hk e2];exact aJ.rfl' _
 ·by_cases e2:k=l
  ·subst e2
   rw [hl] at hb;cases hb
   exact ⟨_,SN,⟨λ_ n h=>⟨n,by simpa [OB.row] using h,Nat.le_refl _⟩,λ_ h=>by simpa [OB.aP] using h,λ_ h=>by simpa [OB.oe] using h,(λ_ _ h=>by cases h),(λ_ _ h=>by cases h)⟩⟩
  ·exact ⟨_,by rw [zU k hk e2,hb];rfl,OB.Mm.map _ b⟩
 ·by_cases e1:k=m
  ·subst e1;rw [QP] at hb;cases hb
  by_cases e2:k=l
  ·subst e2
   rw [SN] at hb;cases hb
   rw [xY]
   have WJ: ∀p,(Bf cur.toList (r.o+j) [vx]).toArray[r.o+p]?=if p=j then some vx else cur[r.o+p]?:= λp=>by
    rw [List.getElem?_toArray,Ed _ _ _ _ Qf]
    by_cases ZG:p=j
    ·subst ZG
     rw [if_neg (by omega),if_pos (by simp),if_pos rfl]
     simp
    ·rw [if_neg ZG]
     split
     ·simp
     ·rw [if_neg (by simp;omega)];simp
   have zY:=setRow_heap w r.g cur (Bf cur.toList (r.o+j) [vx]).toArray ti _ b2
   refine ⟨⟨.inl b1,_,_,zY,by rw [List.size_toArray,En _ _ _ Qf,Array.length_toList];exact b3,b4,by simpa using b5,Rs.set j R,by simpa using b6,λp q hq=>?_,λp p' q q' hq eb he=>?_,λp y hy _=>?_⟩,?_⟩
   ·rw [List.getElem?_set] at hq
    split at hq
    ·split at hq
     ·have hq:=Option.some.inj hq
      exact ⟨.inr ⟨q,hq,(Ot q hq).1⟩,(Ot q hq).2.2⟩
     ·cases hq
    ·exact ⟨.inl (b7 p q hq).1,(b7 p q hq).2⟩
   ·rw [List.getElem?_set] at hq eb
    split at hq
    ·rename_i TH
     split at hq
     ·have hq:=Option.some.inj hq
      split at eb
      ·rename_i Aet;rw [<-TH,<-Aet]
      ·exact absurd (h.1.apart hq h2 (Ot q hq).1 (he▸(b7 p' q' eb).1)) dI
     ·cases hq
    ·split at eb
     ·split at eb
      ·have eb:=Option.some.inj eb
       exact absurd (h.1.apart eb h2 (Ot q' eb).1 (he▸(b7 p q hq).1)) dI
      ·cases eb
     ·exact b8 p p' q q' hq eb he
   ·rw [List.getElem?_set] at hy
    split at hy
    ·rename_i TH
     subst TH
     have hy:=Option.some.inj hy
     subst hy
     exact ⟨vx,R,by rw [WJ,if_pos rfl],by rw [List.getElem?_set,if_pos rfl,if_pos (by omega)],o5,hfa.to (λq hq=>kV _ (Ot q hq).2.2) λes y hc=>mv.cells false e es y hc⟩
    ·rename_i TH
     obtain ⟨u',R',q1,q2,q3,q4⟩:=b9 p y hy (by rcases ho with ho|ho<;>rw [ho]<;>simp [TH])
     refine ⟨u',R',by rw [WJ,if_neg (Ne.symm TH)];exact q1,by rw [List.getElem?_set,if_neg TH];exact q2,q3,q4.to (λq hq=>kV _ ?_) λes y hc=>mv.cells false e es y hc⟩
     subst hq
     exact (b7 p q q2).2
   ·cases kp with
    |none=>trivial
    |some p=>
     obtain ⟨l0,n0⟩:=p
     simp only [KeptAt,Uw] at my⊢
     cases CE:X.cw l0 with
     |none=>rw [CE] at my;exact my.elim
     |some r0=>
      rw [CE] at my
      obtain ⟨g1,g2,g3,g4⟩:=my
      refine ⟨g1,g2,g3,λp hp hc=>?_⟩
      have FX:p<n0/\p<j:=by omega
      rw [<-g4 p FX.1 hc,<-g1,<-g2,cellOf zY,cellOf b2,WJ,if_neg (by omega)]
  ·rw [zU k e1 e2] at hb
   cases hk:Ae st.heap k with
   |none=>rw [hk] at hb;cases hb
   |some b1=>
    rw [hk] at hb
    simp only [Option.map_some,Option.some.injEq] at hb;subst hb
    rw [c8 k e1 e2]
    exact ((h.1.heap k).Ma hk).move mv mq.size (λr0 c h0 h1=>h.1.sub _ r0 c h0 h1) λr0 c h0 h1 _=>kV c (mz k r0 c h0 h1 e2)
 ·have e2:k≠l:= λe=>by subst e;rw [SN] at hk;cases hk
  by_cases e1:k=m
  ·subst e1;exact rR
  rw [zU k e1 e2] at hk
  rw [c8 k e1 e2]
  cases oo:Ae st.heap k with
  |none=>exact (h.1.heap k).emp oo
  |some b=>rw [oo] at hk;cases hk
end
end Go.Proofs.Ytjbdmibbbpdnnaa
