/-
  Part 20 of the proof that the statement FnExactSearchDepth holds.
-/
import Derived.Test.YtfolipnappekaaaGreatCSearchDepth18
namespace Go.Proofs.YtfolipnappekaaaGreat
open Go.RowKit
section
variable {P:Program} {T:Tab} {X:Ctx} {w w':World} {π π':Pi} {H H':List (Nat×OB)}
theorem qB (dead part:List Nat) (c:AC):Cq dead part c= .undef\/(Cq dead part c=c/\(∀k∈c.refs,k∉dead)/\ ∀k i j,c= .sub k i j\/c= .Jv k i j->k∉part):=by
 by_cases hu:Cq dead part c= .undef
 ·exact .inl hu
 have hr:=nt hu
 have hp: ∀l i j,c= .sub l i j\/c= .Jv l i j->l∉part:=by
  intro l i j e hm
  refine hu ?_
  unfold Cq
  rcases e with rfl|rfl
  all_goals
   split
   ·rfl
   ·simp [hm]
 exact .inr ⟨cH hr hp,hr,hp⟩
theorem Abj {τ:Ty} (h:τ.Aq=false):τ.size=1:=by cases τ<;>simp_all [Ty.Aq,Ty.size]
theorem KT (hT:Dz P T) {st:St} {a:Act} (h:Bl X π st a w) {t:TypeId} {τ:Ty} (ht:T.ty t=some τ) (Tw:τ.Aq=false) {l j m:Nat} {e:Ty} {te tid:TypeId} {rows:List (List e.den)} {xs:List e.den} {out:Option Nat} {kp:Option (Nat×Nat)} {fr tr:Bool}
  (hl:Au st.heap l=some (.Bm e te rows out kp)) (ho:out=none\/out=some j) (kF:m≠l) (hm:Au st.heap m=some (.arr fr tr e tid xs)) (tY:l<Bn)
  {vp vx:Value} (hp:Hp X w π st.heap (.Jy l j) vp) (hx:Hp X w π st.heap (.own m 0 (List.length xs)) vx):
  ∃w' π',(Instr.storeAt t vp vx).run P w= .ok () w'/\Bl X π' (Tu st l j m e te rows xs (bS j kp)) a w':=by
 have aG:τ.size=1:=Abj Tw
 obtain ⟨r,b0,sz,n,h1,h0,h3,h2,rfl⟩:=hp
 rw [hl] at h1;cases h1
 simp only [OB.row,Aa,Ad] at h0
 obtain ⟨rfl,rfl⟩:=h0
 rw [Fq]
 obtain ⟨_,w8⟩:=Ok (X:=X) (w:=w) hx hm
 obtain ⟨ax,nx,cx,hvx⟩:=ba w8
 have hb:=(h.1.heap l).Qi hl
 simp only [Cj] at hb
 obtain ⟨hb,tX⟩:=hb
 rw [h2] at hb tX
 obtain ⟨b1,cur,ti,b2,b3,b4,b5,Rs,b6,b7,b8,b9⟩:=hb
 have KK:=(h.1.heap m).Qi hm
 simp only [Cj,Jw] at KK
 have Vr:=Wm (P:=P) (w:=w) (hT.ty _ _ ht) r.g (r.o+j) vx [vx] (by rw [hvx];rfl) (by rw [aG];rfl) (by intro u hu;rw [Ae.1 hu,hvx];rfl) cur ti b2 (by simp;omega)
 let R:Option Real:=π m
 have hfa:Sy w (Da X.w0.heap.size X.Sc π false) R e xs:=by
  show Sy w _ (π m) e xs
  cases hR:π m with
  |none=>rw [hR] at KK;exact KK
  |some q=>
   rw [hR] at KK
   obtain ⟨⟨f0,f0',_⟩,cu,ti',f2,f3,f4,f5,f6,_⟩:=KK
   exact ⟨⟨f0,f0'⟩,cu,ti',f2,f3,f4,f5,λp y hy=>by
    obtain ⟨es,g1,g2,g3⟩:=f6 p y hy
    exact ⟨es,g1,g2,Cells.Ez (Ao _) (λ_ _ _=>rfl) (λb _ hA=>hA.imp id (Or.imp id λ⟨h1,_⟩=>by cases h1)) e es y g3⟩⟩
 have hRq: ∀q,R=some q->π m=some q:= λq hq=>hq
 have Wd: ∀q,R=some q->q.Ct q.g/\q.cl q.g/\q.g≠r.g:= λq hq=>⟨h.1.Ct hq,h.1.sub m q _ hq (h.1.Ct hq),λe0=>kF (h.1.apart hq h2 (h.1.Ct hq) (e0▸b1))⟩
 let rl:Real:= {r with Ct:= λb=>r.Ct b\/ ∃q,R=some q/\q.Ct b,cl:= λb=>r.cl b\/ ∃q,R=some q/\q.cl b}
 let π':Pi:= λk=>if k=m then none else if k=l then some rl else π k
 have zI:π' m=none:=Ab rfl
 have ML:π' l=some rl:=(Ag (Ge kF)).trans (Ab rfl)
 have iP: ∀k,k≠m->k≠l->π' k=π k:= λk g1 g2=>(Ag g1).trans (Ag g2)
 have w6: ∀k q,π' k=some q->(k=l/\q=rl)\/(k≠m/\k≠l/\π k=some q):= λk q hq=>by
  by_cases e1:k=m
  ·subst e1;rw [zI] at hq;cases hq
  ·by_cases e2:k=l
   ·subst e2;rw [ML] at hq;exact .inl ⟨rfl,(Ba hq).symm⟩
   ·rw [iP k e1 e2] at hq;exact .inr ⟨e1,e2,hq⟩
 have Xy:r.o+j+ [vx].length<=cur.toList.length:=by simp;omega
 have tS:=Nn w r.g (Dv cur.toList (r.o+j) [vx]).toArray
 have rO: ∀c,c≠r.g->(w.setRow r.g (Dv cur.toList (r.o+j) [vx]).toArray).heap[c]?=w.heap[c]?:= λc hc=>setRow_other w r.g c _ hc
 have Ajd: ∀k,Au (Tu st l j m e te rows xs (bS j kp)).heap k=Au (au (Xq (st.heap.map λp=>(p.1,p.2.map (Cq [m] [l]))) [m]) l (.Bm e te (rows.set j xs) none (bS j kp))) k:= λk=>rfl
 have jV:Au (Xq (st.heap.map λp=>(p.1,p.2.map (Cq [m] [l]))) [m]) l=some (.Bm e te rows out kp):=by
  rw [No,Ou,Ag (by simpa using Ge kF),hl];rfl
 have hHl:Au (Tu st l j m e te rows xs (bS j kp)).heap l=some (.Bm e te (rows.set j xs) none (bS j kp)):=(Ajd l).trans (El _ _ _ _ jV)
 have RJ: ∀k,k≠m->k≠l->Au (Tu st l j m e te rows xs (bS j kp)).heap k=(Au st.heap k).map (OB.map (Cq [m] [l])):= λk g1 g2=>by
  rw [Ajd,Dx _ _ _ _ g2,No,Ou,Ag (by simpa using g1)]
 have hHm:Au (Tu st l j m e te rows xs (bS j kp)).heap m=none:=by
  rw [Ajd,Dx _ _ _ _ kF,No,Ab (by simp)]
 have As3:r.cl r.g:=h.1.sub l r _ h2 b1
 have tZ: ∀k r0 c,π k=some r0->r0.cl c->k≠l->c≠r.g:= λk r0 c hk hc Ik e=>Ik (h.1.inj k l r0 r c hk h2 hc (e▸As3))
 refine ⟨_,π',by simp only [Instr.storeAt,Instr.sureAddr];simpa using Vr,?_⟩
 have Tq:Tu st l j m e te rows xs (bS j kp)= {tmps:=st.tmps.map (·.map (Cq [m] [l])),heap:=(Tu st l j m e te rows xs (bS j kp)).heap} :=rfl
 rw [Tq]
 refine h.o1 (by simp [Cq,AC.refs]) (gv:= λc=>c=r.g) (λc hc=>hc▸⟨l,r,h2,b1⟩) ⟨tS.os,tS.tape,tS.output,tS.size,λc _ hc=>rO c hc⟩ (λb _ ⟨k,q,g1,g2⟩=>?_) (λk q b g1 g2=>?_) (λk q b g1 g2=>?_) (λk k' q q' b g1 g2 g3 g4=>?_) (λk hk Ik=>?_)
  (λhc=>o0 (D:= λk=>k=m) (Pt:= λk=>k=l) (λc=>?_) (λk hk=>?_) (λk b hk hb=>?_) (λk r0 b hk ZH g1 g2 g3=>rO _ (tZ k r0 _ g3 (h.1.sub k r0 _ g3 (h.1.Ct g3)) ZH)) hc) (λmv k b hb=>?_) (λk hk=>?_)
 ·rcases w6 k q g1 with ⟨_,rfl⟩|⟨_,_,e1⟩
  ·rcases g2 with g2|⟨q0,g2,g3⟩
   ·exact ⟨l,r,h2,g2⟩
   ·exact ⟨m,q0,g2,g3⟩
  ·exact ⟨k,q,e1,g2⟩
 ·rcases w6 k q g1 with ⟨_,rfl⟩|⟨_,_,e1⟩
  ·rcases g2 with g2|⟨q0,g2,g3⟩
   ·exact .inl (h.1.sub l r b h2 g2)
   ·exact .inr ⟨q0,g2,h.1.sub m q0 b g2 g3⟩
  ·exact h.1.sub k q b e1 g2
 ·have up: ∀k q b,π k=some q->q.cl b->(X.w0.heap.size<=b\/X.gv b)/\b<(w.setRow r.g (Dv cur.toList (r.o+j) [vx]).toArray).heap.size:= λk q b e1 e2=>⟨(h.1.place k q b e1 e2).1,Dn (h.1.place k q b e1 e2).2 tS.size⟩
  rcases w6 k q g1 with ⟨_,rfl⟩|⟨_,_,e1⟩
  ·rcases g2 with g2|⟨q0,g2,g3⟩
   ·exact up l r b h2 g2
   ·exact up m q0 b g2 g3
  ·exact up k q b e1 g2
 ·rcases w6 k q g1 with ⟨e0,rfl⟩|⟨e0,e2,e1⟩<;>rcases w6 k' q' g2 with ⟨f0,rfl⟩|⟨f0,f2,f1⟩
  ·rw [e0,f0]
  ·rcases g3 with g3|⟨q0,g3,g5⟩
   ·exact absurd (h.1.inj k' l q' r b f1 h2 g4 g3) f2
   ·exact absurd (h.1.inj k' m q' q0 b f1 g3 g4 g5) f0
  ·rcases g4 with g4|⟨q0,g4,g5⟩
   ·exact absurd (h.1.inj k l q r b e1 h2 g3 g4) e2
   ·exact absurd (h.1.inj k m q q0 b e1 g4 g3 g5) e0
  ·exact h.1.inj k k' q q' b e1 f1 g3 g4
 ·by_cases e1:k=m
  ·subst e1;exact absurd hHm Ik
  have e2:k≠l:=by omega
  rw [iP k e1 e2]
  refine h.1.gT k hk λh0=>Ik ?_
  rw [RJ k e1 e2,h0];rfl
 ·rcases qB [m] [l] c with e|⟨e,g,g'⟩
  ·exact .inl e
  ·exact .inr ⟨e,λk hk hkm=>g k hk (by simp [hkm]),λk i j hc Sa=>g' k i j hc (by simp [Sa])⟩
 ·by_cases e2:k=l
  ·subst e2;rw [ML,h2];exact ⟨rfl,rfl,rfl⟩
  ·rw [iP k hk e2];exact fV.rfl' _
 ·by_cases e2:k=l
  ·subst e2
   rw [hl] at hb;cases hb
   exact ⟨_,hHl,⟨λ_ n h=>⟨n,by simpa [OB.row] using h,Ao _⟩,λ_ h=>by simpa [OB.gi] using h,λ_ h=>by simpa [OB.wq] using h,(λ_ _ h=>by cases h),(λ_ _ h=>by cases h)⟩⟩
  ·exact ⟨_,by rw [RJ k hk e2,hb];rfl,OB.Tg.map _ b⟩
 ·by_cases e1:k=m
  ·subst e1;rw [hHm] at hb;cases hb
  by_cases e2:k=l
  ·subst e2
   rw [hHl] at hb;cases hb
   rw [ML]
   have hat: ∀p,(Dv cur.toList (r.o+j) [vx]).toArray[r.o+p]?=if p=j then some vx else cur[r.o+p]?:= λp=>by
    rw [Ie,Ic _ _ _ _ Xy]
    by_cases hpj:p=j
    ·subst hpj
     rw [Ag (by omega),Ab (by simp),Ab rfl]
     simp
    ·rw [Ag hpj]
     split
     ·simp
     ·rw [Ag (by simp;omega)];simp
   have RL:=setRow_heap w r.g cur (Dv cur.toList (r.o+j) [vx]).toArray ti _ b2
   refine ⟨⟨.inl b1,_,_,RL,by rw [Gr,Iv _ _ _ Xy,Xk];exact b3,b4,by simpa using b5,Rs.set j R,by simpa using b6,λp q hq=>?_,λp p' q q' hq kH he=>?_,λp y hy _=>?_⟩,?_⟩
   ·rw [Fe] at hq
    split at hq
    ·split at hq
     ·have hq:=Ba hq
      exact ⟨.inr ⟨q,hq,(Wd q hq).1⟩,(Wd q hq).2.2⟩
     ·cases hq
    ·exact ⟨.inl (b7 p q hq).1,(b7 p q hq).2⟩
   ·rw [Fe] at hq kH
    split at hq
    ·rename_i hjp
     split at hq
     ·have hq:=Ba hq
      split at kH
      ·rename_i Asl;rw [<-hjp,<-Asl]
      ·exact absurd (h.1.apart hq h2 (Wd q hq).1 (he▸(b7 p' q' kH).1)) kF
     ·cases hq
    ·split at kH
     ·split at kH
      ·have kH:=Ba kH
       exact absurd (h.1.apart kH h2 (Wd q' kH).1 (he▸(b7 p q hq).1)) kF
      ·cases kH
     ·exact b8 p p' q q' hq kH he
   ·rw [Fe] at hy
    split at hy
    ·rename_i hjp
     subst hjp
     have hy:=Ba hy
     subst hy
     exact ⟨vx,R,by rw [hat,Ab rfl],by rw [Fe,Ab rfl,Ab (by omega)],w8,hfa.to (λq hq=>rO _ (Wd q hq).2.2) λes y hc=>mv.cells false e es y hc⟩
    ·rename_i hjp
     obtain ⟨u',R',q1,q2,q3,q4⟩:=b9 p y hy (by rcases ho with ho|ho<;>rw [ho]<;>simp [hjp])
     refine ⟨u',R',by rw [hat,Ag (Ge hjp)];exact q1,by rw [Fe,Ag hjp];exact q2,q3,q4.to (λq hq=>rO _ ?_) λes y hc=>mv.cells false e es y hc⟩
     subst hq
     exact (b7 p q q2).2
   ·cases kp with
    |none=>trivial
    |some p=>
     obtain ⟨l0,n0⟩:=p
     simp only [KeptAt,bS] at tX⊢
     cases TY:X.gT l0 with
     |none=>rw [TY] at tX;exact tX.elim
     |some r0=>
      rw [TY] at tX
      obtain ⟨g1,g2,g3,g4⟩:=tX
      refine ⟨g1,g2,g3,λp hp hc=>?_⟩
      have XP:p<n0/\p<j:=by omega
      rw [<-g4 p XP.1 hc,<-g1,<-g2,cellOf RL,cellOf b2,hat,Ag (by omega)]
  ·rw [RJ k e1 e2] at hb
   cases hk:Au st.heap k with
   |none=>rw [hk] at hb;cases hb
   |some b1=>
    rw [hk] at hb
    simp only [Am,Aa] at hb;subst hb
    rw [iP k e1 e2]
    exact ((h.1.heap k).Qi hk).move mv tS.size (λr0 c h0 h1=>h.1.sub _ r0 c h0 h1) λr0 c h0 h1 _=>rO c (tZ k r0 c h0 h1 e2)
 ·have e2:k≠l:= λe=>by subst e;rw [hHl] at hk;cases hk
  by_cases e1:k=m
  ·subst e1;exact zI
  rw [RJ k e1 e2] at hk
  rw [iP k e1 e2]
  cases zD:Au st.heap k with
  |none=>exact (h.1.heap k).emp zD
  |some b=>rw [zD] at hk;cases hk
end
end Go.Proofs.YtfolipnappekaaaGreat
