/-
  Part 20 of the proof that the statement FnStateClasses holds.
-/
import Derived.Test.YtkkdpknjohcekaaCFStateClasses18
namespace Go.Proofs.Ytkkdpknjohcekaa
open Go.RowKit
section
variable {P:Program} {T:Tab} {X:Ctx} {w w':World} {π π':Pi} {H H':List (Nat×OB)}
theorem oe (dead part:List Nat) (c:AC):Cn dead part c= .undef\/(Cn dead part c=c/\(∀k∈c.refs,k∉dead)/\ ∀k i j,c= .sub k i j\/c= .Jj k i j->k∉part):=by
 by_cases hu:Cn dead part c= .undef
 ·exact .inl hu
 have hr:=lI hu
 have hp: ∀l i j,c= .sub l i j\/c= .Jj l i j->l∉part:=by
  intro l i j e hm
  refine hu ?_
  unfold Cn
  rcases e with rfl|rfl
  all_goals
   split
   ·rfl
   ·simp [hm]
 exact .inr ⟨bD hr hp,hr,hp⟩
theorem VN {τ:Ty} (h:τ.Ap=false):τ.size=1:=by cases τ<;>simp_all [Ty.Ap,Ty.size]
theorem ES (hT:Dn P T) {st:St} {a:Act} (h:Bg X π st a w) {t:TypeId} {τ:Ty} (ht:T.ty t=some τ) (Sz:τ.Ap=false) {l j m:Nat} {e:Ty} {te tid:TypeId} {rows:List (List e.den)} {xs:List e.den} {out:Option Nat} {kp:Option (Nat×Nat)} {fr tr:Bool}
  (hl:At st.heap l=some (.Bo e te rows out kp)) (ho:out=none\/out=some j) (gB:m≠l) (hm:At st.heap m=some (.arr fr tr e tid xs)) (qZ:l<Bl)
  {vp vx:Value} (hp:Gu X w π st.heap (.Jm l j) vp) (hx:Gu X w π st.heap (.own m 0 (List.length xs)) vx):
  ∃w' π',(Instr.storeAt t vp vx).run P w= .ok () w'/\Bg X π' (Sx st l j m e te rows xs (aV j kp)) a w':=by
 have Zl:τ.size=1:=VN Sz
 obtain ⟨r,b0,sz,n,h1,h0,h3,h2,rfl⟩:=hp
 rw [hl] at h1;cases h1
 simp only [OB.row,Aa,Ad] at h0
 obtain ⟨rfl,rfl⟩:=h0
 rw [Ew]
 obtain ⟨_,sV⟩:=Oa (X:=X) (w:=w) hx hm
 obtain ⟨ax,nx,cx,YX⟩:=a7 sV
 have hb:=(h.1.heap l).Qw hl
 simp only [Cd] at hb
 obtain ⟨hb,qY⟩:=hb
 rw [h2] at hb qY
 obtain ⟨b1,cur,ti,b2,b3,b4,b5,Rs,b6,b7,b8,b9⟩:=hb
 have EM:=(h.1.heap m).Qw hm
 simp only [Cd,Jk] at EM
 have Rd:=Vo (P:=P) (w:=w) (hT.ty _ _ ht) r.g (r.o+j) vx [vx] (by rw [YX];rfl) (by rw [Zl];rfl) (by intro u hu;rw [Ae.1 hu,YX];rfl) cur ti b2 (by simp;omega)
 let R:Option Real:=π m
 have hfa:Se w (Cv X.w0.heap.size X.Sc π false) R e xs:=by
  show Se w _ (π m) e xs
  cases hR:π m with
  |none=>rw [hR] at EM;exact EM
  |some q=>
   rw [hR] at EM
   obtain ⟨⟨f0,f0',_⟩,cu,XM,f2,f3,f4,f5,f6,_⟩:=EM
   exact ⟨⟨f0,f0'⟩,cu,XM,f2,f3,f4,f5,λp y hy=>by
    obtain ⟨es,g1,g2,g3⟩:=f6 p y hy
    exact ⟨es,g1,g2,Cells.Fb (Ao _) (λ_ _ _=>rfl) (λb _ hA=>hA.imp id (Or.imp id λ⟨h1,_⟩=>by cases h1)) e es y g3⟩⟩
 have hRq: ∀q,R=some q->π m=some q:= λq hq=>hq
 have Vg: ∀q,R=some q->q.Cq q.g/\q.cl q.g/\q.g≠r.g:= λq hq=>⟨h.1.Cq hq,h.1.sub m q _ hq (h.1.Cq hq),λe0=>gB (h.1.apart hq h2 (h.1.Cq hq) (e0▸b1))⟩
 let rl:Real:= {r with Cq:= λb=>r.Cq b\/ ∃q,R=some q/\q.Cq b,cl:= λb=>r.cl b\/ ∃q,R=some q/\q.cl b}
 let π':Pi:= λk=>if k=m then none else if k=l then some rl else π k
 have x4:π' m=none:=Ac rfl
 have GM:π' l=some rl:=(Ai (Fv gB)).trans (Ac rfl)
 have gF: ∀k,k≠m->k≠l->π' k=π k:= λk g1 g2=>(Ai g1).trans (Ai g2)
 have sR: ∀k q,π' k=some q->(k=l/\q=rl)\/(k≠m/\k≠l/\π k=some q):= λk q hq=>by
  by_cases e1:k=m
  ·subst e1;rw [x4] at hq;cases hq
  ·by_cases e2:k=l
   ·subst e2;rw [GM] at hq;exact .inl ⟨rfl,(Ax hq).symm⟩
   ·rw [gF k e1 e2] at hq;exact .inr ⟨e1,e2,hq⟩
 have Ww:r.o+j+ [vx].length<=cur.toList.length:=by simp;omega
 have qU:=Nb w r.g (Dp cur.toList (r.o+j) [vx]).toArray
 have pf: ∀c,c≠r.g->(w.setRow r.g (Dp cur.toList (r.o+j) [vx]).toArray).heap[c]?=w.heap[c]?:= λc hc=>setRow_other w r.g c _ hc
 have Adk: ∀k,At (Sx st l j m e te rows xs (aV j kp)).heap k=At (Ze (Wo (st.heap.map λp=>(p.1,p.2.map (Cn [m] [l]))) [m]) l (.Bo e te (rows.set j xs) none (aV j kp))) k:= λk=>rfl
 have KT:At (Wo (st.heap.map λp=>(p.1,p.2.map (Cn [m] [l]))) [m]) l=some (.Bo e te rows out kp):=by
  rw [Nf,Og,Ai (by simpa using Fv gB),hl];rfl
 have hHl:At (Sx st l j m e te rows xs (aV j kp)).heap l=some (.Bo e te (rows.set j xs) none (aV j kp)):=(Adk l).trans (Eo _ _ _ _ KT)
 have KN: ∀k,k≠m->k≠l->At (Sx st l j m e te rows xs (aV j kp)).heap k=(At st.heap k).map (OB.map (Cn [m] [l])):= λk g1 g2=>by
  rw [Adk,Dv _ _ _ _ g2,Nf,Og,Ai (by simpa using g1)]
 have hHm:At (Sx st l j m e te rows xs (aV j kp)).heap m=none:=by
  rw [Adk,Dv _ _ _ _ gB,Nf,Ac (by simp)]
 have Alm:r.cl r.g:=h.1.sub l r _ h2 b1
 have r7: ∀k r0 c,π k=some r0->r0.cl c->k≠l->c≠r.g:= λk r0 c hk hc Hq e=>Hq (h.1.inj k l r0 r c hk h2 hc (e▸Alm))
 refine ⟨_,π',by simp only [Instr.storeAt,Instr.sureAddr];simpa using Rd,?_⟩
 have Ya:Sx st l j m e te rows xs (aV j kp)= {tmps:=st.tmps.map (·.map (Cn [m] [l])),heap:=(Sx st l j m e te rows xs (aV j kp)).heap} :=rfl
 rw [Ya]
 refine h.mo (by simp [Cn,AC.refs]) (gv:= λc=>c=r.g) (λc hc=>hc▸⟨l,r,h2,b1⟩) ⟨qU.os,qU.tape,qU.output,qU.size,λc _ hc=>pf c hc⟩ (λb _ ⟨k,q,g1,g2⟩=>?_) (λk q b g1 g2=>?_) (λk q b g1 g2=>?_) (λk k' q q' b g1 g2 g3 g4=>?_) (λk hk Hq=>?_)
  (λhc=>mn (D:= λk=>k=m) (Pt:= λk=>k=l) (λc=>?_) (λk hk=>?_) (λk b hk hb=>?_) (λk r0 b hk hk2 g1 g2 g3=>pf _ (r7 k r0 _ g3 (h.1.sub k r0 _ g3 (h.1.Cq g3)) hk2)) hc) (λmv k b hb=>?_) (λk hk=>?_)
 ·rcases sR k q g1 with ⟨_,rfl⟩|⟨_,_,e1⟩
  ·rcases g2 with g2|⟨q0,g2,g3⟩
   ·exact ⟨l,r,h2,g2⟩
   ·exact ⟨m,q0,g2,g3⟩
  ·exact ⟨k,q,e1,g2⟩
 ·rcases sR k q g1 with ⟨_,rfl⟩|⟨_,_,e1⟩
  ·rcases g2 with g2|⟨q0,g2,g3⟩
   ·exact .inl (h.1.sub l r b h2 g2)
   ·exact .inr ⟨q0,g2,h.1.sub m q0 b g2 g3⟩
  ·exact h.1.sub k q b e1 g2
 ·have up: ∀k q b,π k=some q->q.cl b->(X.w0.heap.size<=b\/X.gv b)/\b<(w.setRow r.g (Dp cur.toList (r.o+j) [vx]).toArray).heap.size:= λk q b e1 e2=>⟨(h.1.place k q b e1 e2).1,Ea (h.1.place k q b e1 e2).2 qU.size⟩
  rcases sR k q g1 with ⟨_,rfl⟩|⟨_,_,e1⟩
  ·rcases g2 with g2|⟨q0,g2,g3⟩
   ·exact up l r b h2 g2
   ·exact up m q0 b g2 g3
  ·exact up k q b e1 g2
 ·rcases sR k q g1 with ⟨e0,rfl⟩|⟨e0,e2,e1⟩<;>rcases sR k' q' g2 with ⟨f0,rfl⟩|⟨f0,f2,f1⟩
  ·rw [e0,f0]
  ·rcases g3 with g3|⟨q0,g3,g5⟩
   ·exact absurd (h.1.inj k' l q' r b f1 h2 g4 g3) f2
   ·exact absurd (h.1.inj k' m q' q0 b f1 g3 g4 g5) f0
  ·rcases g4 with g4|⟨q0,g4,g5⟩
   ·exact absurd (h.1.inj k l q r b e1 h2 g3 g4) e2
   ·exact absurd (h.1.inj k m q q0 b e1 g4 g3 g5) e0
  ·exact h.1.inj k k' q q' b e1 f1 g3 g4
 ·by_cases e1:k=m
  ·subst e1;exact absurd hHm Hq
  have e2:k≠l:=by omega
  rw [gF k e1 e2]
  refine h.1.fI k hk λh0=>Hq ?_
  rw [KN k e1 e2,h0];rfl
 ·rcases oe [m] [l] c with e|⟨e,g,g'⟩
  ·exact .inl e
  ·exact .inr ⟨e,λk hk hkm=>g k hk (by simp [hkm]),λk i j hc Rq=>g' k i j hc (by simp [Rq])⟩
 ·by_cases e2:k=l
  ·subst e2;rw [GM,h2];exact ⟨rfl,rfl,rfl⟩
  ·rw [gF k hk e2];exact eN.rfl' _
 ·by_cases e2:k=l
  ·subst e2
   rw [hl] at hb;cases hb
   exact ⟨_,hHl,⟨λ_ n h=>⟨n,by simpa [OB.row] using h,Ao _⟩,λ_ h=>by simpa [OB.eW] using h,λ_ h=>by simpa [OB.tp] using h,(λ_ _ h=>by cases h),(λ_ _ h=>by cases h)⟩⟩
  ·exact ⟨_,by rw [KN k hk e2,hb];rfl,OB.Sn.map _ b⟩
 ·by_cases e1:k=m
  ·subst e1;rw [hHm] at hb;cases hb
  by_cases e2:k=l
  ·subst e2
   rw [hHl] at hb;cases hb
   rw [GM]
   have hat: ∀p,(Dp cur.toList (r.o+j) [vx]).toArray[r.o+p]?=if p=j then some vx else cur[r.o+p]?:= λp=>by
    rw [Hl,Hj _ _ _ _ Ww]
    by_cases hpj:p=j
    ·subst hpj
     rw [Ai (by omega),Ac (by simp),Ac rfl]
     simp
    ·rw [Ai hpj]
     split
     ·simp
     ·rw [Ai (by simp;omega)];simp
   have KR:=setRow_heap w r.g cur (Dp cur.toList (r.o+j) [vx]).toArray ti _ b2
   refine ⟨⟨.inl b1,_,_,KR,by rw [Gf,Ii _ _ _ Ww,Wf];exact b3,b4,by simpa using b5,Rs.set j R,by simpa using b6,λp q hq=>?_,λp p' q q' hq cA he=>?_,λp y hy _=>?_⟩,?_⟩
   ·rw [Eb] at hq
    split at hq
    ·split at hq
     ·have hq:=Ax hq
      exact ⟨.inr ⟨q,hq,(Vg q hq).1⟩,(Vg q hq).2.2⟩
     ·cases hq
    ·exact ⟨.inl (b7 p q hq).1,(b7 p q hq).2⟩
   ·rw [Eb] at hq cA
    split at hq
    ·rename_i hjp
     split at hq
     ·have hq:=Ax hq
      split at cA
      ·rename_i Am8;rw [<-hjp,<-Am8]
      ·exact absurd (h.1.apart hq h2 (Vg q hq).1 (he▸(b7 p' q' cA).1)) gB
     ·cases hq
    ·split at cA
     ·split at cA
      ·have cA:=Ax cA
       exact absurd (h.1.apart cA h2 (Vg q' cA).1 (he▸(b7 p q hq).1)) gB
      ·cases cA
     ·exact b8 p p' q q' hq cA he
   ·rw [Eb] at hy
    split at hy
    ·rename_i hjp
     subst hjp
     have hy:=Ax hy
     subst hy
     exact ⟨vx,R,by rw [hat,Ac rfl],by rw [Eb,Ac rfl,Ac (by omega)],sV,hfa.to (λq hq=>pf _ (Vg q hq).2.2) λes y hc=>mv.cells false e es y hc⟩
    ·rename_i hjp
     obtain ⟨u',R',q1,q2,q3,q4⟩:=b9 p y hy (by rcases ho with ho|ho<;>rw [ho]<;>simp [hjp])
     refine ⟨u',R',by rw [hat,Ai (Fv hjp)];exact q1,by rw [Eb,Ai hjp];exact q2,q3,q4.to (λq hq=>pf _ ?_) λes y hc=>mv.cells false e es y hc⟩
     subst hq
     exact (b7 p q q2).2
   ·cases kp with
    |none=>trivial
    |some p=>
     obtain ⟨l0,n0⟩:=p
     simp only [KeptAt,aV] at qY⊢
     cases NH:X.fI l0 with
     |none=>rw [NH] at qY;exact qY.elim
     |some r0=>
      rw [NH] at qY
      obtain ⟨g1,g2,g3,g4⟩:=qY
      refine ⟨g1,g2,g3,λp hp hc=>?_⟩
      have QX:p<n0/\p<j:=by omega
      rw [<-g4 p QX.1 hc,<-g1,<-g2,cellOf KR,cellOf b2,hat,Ai (by omega)]
  ·rw [KN k e1 e2] at hb
   cases hk:At st.heap k with
   |none=>rw [hk] at hb;cases hb
   |some b1=>
    rw [hk] at hb
    simp only [Ak,Aa] at hb;subst hb
    rw [gF k e1 e2]
    exact ((h.1.heap k).Qw hk).move mv qU.size (λr0 c h0 h1=>h.1.sub _ r0 c h0 h1) λr0 c h0 h1 _=>pf c (r7 k r0 c h0 h1 e2)
 ·have e2:k≠l:= λe=>by subst e;rw [hHl] at hk;cases hk
  by_cases e1:k=m
  ·subst e1;exact x4
  rw [KN k e1 e2] at hk
  rw [gF k e1 e2]
  cases sU:At st.heap k with
  |none=>exact (h.1.heap k).emp sU
  |some b=>rw [sU] at hk;cases hk
end
end Go.Proofs.Ytkkdpknjohcekaa
