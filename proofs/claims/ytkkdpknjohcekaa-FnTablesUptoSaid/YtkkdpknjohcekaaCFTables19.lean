/-
  Part 20 of the proof that the statement FnTables holds.
-/
import Derived.Test.YtkkdpknjohcekaaCFTables18
namespace Go.Proofs.Ytkkdpknjohcekaa
open Go.RowKit
section
variable {P:Program} {T:Tab} {X:Ctx} {w w':World} {π π':Pi} {H H':List (Nat×OB)}
theorem nH (dead part:List Nat) (c:AC):Ce dead part c= .undef\/(Ce dead part c=c/\(∀k∈c.refs,k∉dead)/\ ∀k i j,c= .sub k i j\/c= .Ji k i j->k∉part):=by
 by_cases hu:Ce dead part c= .undef
 ·exact .inl hu
 have hr:=ld hu
 have hp: ∀l i j,c= .sub l i j\/c= .Ji l i j->l∉part:=by
  intro l i j e hm
  refine hu ?_
  unfold Ce
  rcases e with rfl|rfl
  all_goals
   split
   ·rfl
   ·simp [hm]
 exact .inr ⟨aZ hr hp,hr,hp⟩
theorem SG {τ:Ty} (h:τ.Am=false):τ.size=1:=by cases τ<;>simp_all [Ty.Am,Ty.size]
theorem BS (hT:Ed P T) {st:St} {a:Act} (h:Bd X π st a w) {t:TypeId} {τ:Ty} (ht:T.ty t=some τ) (Sf:τ.Am=false) {l j m:Nat} {e:Ty} {te tid:TypeId} {rows:List (List e.den)} {xs:List e.den} {out:Option Nat} {kp:Option (Nat×Nat)} {fr tr:Bool}
  (hl:Aq st.heap l=some (.Bm e te rows out kp)) (ho:out=none\/out=some j) (fT:m≠l) (hm:Aq st.heap m=some (.arr fr tr e tid xs)) (oD:l<Bf)
  {vp vx:Value} (hp:Gx X w π st.heap (.Jl l j) vp) (hx:Gx X w π st.heap (.own m 0 (List.length xs)) vx):
  ∃w' π',(Instr.storeAt t vp vx).run P w= .ok () w'/\Bd X π' (Sd st l j m e te rows xs (aq j kp)) a w':=by
 have Yp:τ.size=1:=SG Sf
 obtain ⟨r,b0,sz,n,h1,h0,h3,h2,rfl⟩:=hp
 rw [hl] at h1;cases h1
 simp only [OB.row,Aa,Ae] at h0
 obtain ⟨rfl,rfl⟩:=h0
 rw [Ex]
 obtain ⟨_,sm⟩:=Nl (X:=X) (w:=w) hx hm
 obtain ⟨ax,nx,cx,VM⟩:=Zg sm
 have hb:=(h.1.heap l).Qi hl
 simp only [Bw] at hb
 obtain ⟨hb,xY⟩:=hb
 rw [h2] at hb xY
 obtain ⟨b1,cur,ti,b2,b3,b4,b5,Rs,b6,b7,b8,b9⟩:=hb
 have BM:=(h.1.heap m).Qi hm
 simp only [Bw,Jj] at BM
 have Tz:=Uy (P:=P) (w:=w) (hT.ty _ _ ht) r.g (r.o+j) vx [vx] (by rw [VM];rfl) (by rw [Yp];rfl) (by intro u hu;rw [Ad.1 hu,VM];rfl) cur ti b2 (by simp;omega)
 let R:Option Real:=π m
 have hfa:Rl w (Cp X.w0.heap.size X.Sc π false) R e xs:=by
  show Rl w _ (π m) e xs
  cases hR:π m with
  |none=>rw [hR] at BM;exact BM
  |some q=>
   rw [hR] at BM
   obtain ⟨⟨f0,f0',_⟩,cu,UI,f2,f3,f4,f5,f6,_⟩:=BM
   exact ⟨⟨f0,f0'⟩,cu,UI,f2,f3,f4,f5,λp y hy=>by
    obtain ⟨es,g1,g2,g3⟩:=f6 p y hy
    exact ⟨es,g1,g2,Cells.Gg (Ar _) (λ_ _ _=>rfl) (λb _ hA=>hA.imp id (Or.imp id λ⟨h1,_⟩=>by cases h1)) e es y g3⟩⟩
 have hRq: ∀q,R=some q->π m=some q:= λq hq=>hq
 have Uq: ∀q,R=some q->q.Ci q.g/\q.cl q.g/\q.g≠r.g:= λq hq=>⟨h.1.Ci hq,h.1.sub m q _ hq (h.1.Ci hq),λe0=>fT (h.1.apart hq h2 (h.1.Ci hq) (e0▸b1))⟩
 let rl:Real:= {r with Ci:= λb=>r.Ci b\/ ∃q,R=some q/\q.Ci b,cl:= λb=>r.cl b\/ ∃q,R=some q/\q.cl b}
 let π':Pi:= λk=>if k=m then none else if k=l then some rl else π k
 have wb:π' m=none:=Ab rfl
 have DC:π' l=some rl:=(Al (Hi fT)).trans (Ab rfl)
 have fY: ∀k,k≠m->k≠l->π' k=π k:= λk g1 g2=>(Al g1).trans (Al g2)
 have sj: ∀k q,π' k=some q->(k=l/\q=rl)\/(k≠m/\k≠l/\π k=some q):= λk q hq=>by
  by_cases e1:k=m
  ·subst e1;rw [wb] at hq;cases hq
  ·by_cases e2:k=l
   ·subst e2;rw [DC] at hq;exact .inl ⟨rfl,(Ba hq).symm⟩
   ·rw [fY k e1 e2] at hq;exact .inr ⟨e1,e2,hq⟩
 have We:r.o+j+ [vx].length<=cur.toList.length:=by simp;omega
 have qp:=Mr w r.g (Dq cur.toList (r.o+j) [vx]).toArray
 have oE: ∀c,c≠r.g->(w.setRow r.g (Dq cur.toList (r.o+j) [vx]).toArray).heap[c]?=w.heap[c]?:= λc hc=>setRow_other w r.g c _ hc
 have Aak: ∀k,Aq (Sd st l j m e te rows xs (aq j kp)).heap k=Aq (Yj (Vx (st.heap.map λp=>(p.1,p.2.map (Ce [m] [l]))) [m]) l (.Bm e te (rows.set j xs) none (aq j kp))) k:= λk=>rfl
 have kE:Aq (Vx (st.heap.map λp=>(p.1,p.2.map (Ce [m] [l]))) [m]) l=some (.Bm e te rows out kp):=by
  rw [Mt,Nr,Al (by simpa using Hi fT),hl];rfl
 have ZM:Aq (Sd st l j m e te rows xs (aq j kp)).heap l=some (.Bm e te (rows.set j xs) none (aq j kp)):=(Aak l).trans (El _ _ _ _ kE)
 have HI: ∀k,k≠m->k≠l->Aq (Sd st l j m e te rows xs (aq j kp)).heap k=(Aq st.heap k).map (OB.map (Ce [m] [l])):= λk g1 g2=>by
  rw [Aak,Dt _ _ _ _ g2,Mt,Nr,Al (by simpa using g1)]
 have XK:Aq (Sd st l j m e te rows xs (aq j kp)).heap m=none:=by
  rw [Aak,Dt _ _ _ _ fT,Mt,Ab (by simp)]
 have Aig:r.cl r.g:=h.1.sub l r _ h2 b1
 have qu: ∀k r0 c,π k=some r0->r0.cl c->k≠l->c≠r.g:= λk r0 c hk hc Jg e=>Jg (h.1.inj k l r0 r c hk h2 hc (e▸Aig))
 refine ⟨_,π',by simp only [Instr.storeAt,Instr.sureAddr];simpa using Tz,?_⟩
 have Yo:Sd st l j m e te rows xs (aq j kp)= {tmps:=st.tmps.map (·.map (Ce [m] [l])),heap:=(Sd st l j m e te rows xs (aq j kp)).heap} :=rfl
 rw [Yo]
 refine h.lI (by simp [Ce,AC.refs]) (gv:= λc=>c=r.g) (λc hc=>hc▸⟨l,r,h2,b1⟩) ⟨qp.os,qp.tape,qp.output,qp.size,λc _ hc=>oE c hc⟩ (λb _ ⟨k,q,g1,g2⟩=>?_) (λk q b g1 g2=>?_) (λk q b g1 g2=>?_) (λk k' q q' b g1 g2 g3 g4=>?_) (λk hk Jg=>?_)
  (λhc=>lH (D:= λk=>k=m) (Pt:= λk=>k=l) (λc=>?_) (λk hk=>?_) (λk b hk hb=>?_) (λk r0 b hk hk2 g1 g2 g3=>oE _ (qu k r0 _ g3 (h.1.sub k r0 _ g3 (h.1.Ci g3)) hk2)) hc) (λmv k b hb=>?_) (λk hk=>?_)
 ·rcases sj k q g1 with ⟨_,rfl⟩|⟨_,_,e1⟩
  ·rcases g2 with g2|⟨q0,g2,g3⟩
   ·exact ⟨l,r,h2,g2⟩
   ·exact ⟨m,q0,g2,g3⟩
  ·exact ⟨k,q,e1,g2⟩
 ·rcases sj k q g1 with ⟨_,rfl⟩|⟨_,_,e1⟩
  ·rcases g2 with g2|⟨q0,g2,g3⟩
   ·exact .inl (h.1.sub l r b h2 g2)
   ·exact .inr ⟨q0,g2,h.1.sub m q0 b g2 g3⟩
  ·exact h.1.sub k q b e1 g2
 ·have up: ∀k q b,π k=some q->q.cl b->(X.w0.heap.size<=b\/X.gv b)/\b<(w.setRow r.g (Dq cur.toList (r.o+j) [vx]).toArray).heap.size:= λk q b e1 e2=>⟨(h.1.place k q b e1 e2).1,Dz (h.1.place k q b e1 e2).2 qp.size⟩
  rcases sj k q g1 with ⟨_,rfl⟩|⟨_,_,e1⟩
  ·rcases g2 with g2|⟨q0,g2,g3⟩
   ·exact up l r b h2 g2
   ·exact up m q0 b g2 g3
  ·exact up k q b e1 g2
 ·rcases sj k q g1 with ⟨e0,rfl⟩|⟨e0,e2,e1⟩<;>rcases sj k' q' g2 with ⟨f0,rfl⟩|⟨f0,f2,f1⟩
  ·rw [e0,f0]
  ·rcases g3 with g3|⟨q0,g3,g5⟩
   ·exact absurd (h.1.inj k' l q' r b f1 h2 g4 g3) f2
   ·exact absurd (h.1.inj k' m q' q0 b f1 g3 g4 g5) f0
  ·rcases g4 with g4|⟨q0,g4,g5⟩
   ·exact absurd (h.1.inj k l q r b e1 h2 g3 g4) e2
   ·exact absurd (h.1.inj k m q q0 b e1 g4 g3 g5) e0
  ·exact h.1.inj k k' q q' b e1 f1 g3 g4
 ·by_cases e1:k=m
  ·subst e1;exact absurd XK Jg
  have e2:k≠l:=by omega
  rw [fY k e1 e2]
  refine h.1.fb k hk λh0=>Jg ?_
  rw [HI k e1 e2,h0];rfl
 ·rcases nH [m] [l] c with e|⟨e,g,g'⟩
  ·exact .inl e
  ·exact .inr ⟨e,λk hk hkm=>g k hk (by simp [hkm]),λk i j hc Ra=>g' k i j hc (by simp [Ra])⟩
 ·by_cases e2:k=l
  ·subst e2;rw [DC,h2];exact ⟨rfl,rfl,rfl⟩
  ·rw [fY k hk e2];exact ef.rfl' _
 ·by_cases e2:k=l
  ·subst e2
   rw [hl] at hb;cases hb
   exact ⟨_,ZM,⟨λ_ n h=>⟨n,by simpa [OB.row] using h,Ar _⟩,λ_ h=>by simpa [OB.eu] using h,λ_ h=>by simpa [OB.sw] using h,(λ_ _ h=>by cases h),(λ_ _ h=>by cases h)⟩⟩
  ·exact ⟨_,by rw [HI k hk e2,hb];rfl,OB.Rt.map _ b⟩
 ·by_cases e1:k=m
  ·subst e1;rw [XK] at hb;cases hb
  by_cases e2:k=l
  ·subst e2
   rw [ZM] at hb;cases hb
   rw [DC]
   have JQ: ∀p,(Dq cur.toList (r.o+j) [vx]).toArray[r.o+p]?=if p=j then some vx else cur[r.o+p]?:= λp=>by
    rw [Ho,Hl _ _ _ _ We]
    by_cases hpj:p=j
    ·subst hpj
     rw [Al (by omega),Ab (by simp),Ab rfl]
     simp
    ·rw [Al hpj]
     split
     ·simp
     ·rw [Al (by simp;omega)];simp
   have HK:=setRow_heap w r.g cur (Dq cur.toList (r.o+j) [vx]).toArray ti _ b2
   refine ⟨⟨.inl b1,_,_,HK,by rw [Gj,Ij _ _ _ We,Vr];exact b3,b4,by simpa using b5,Rs.set j R,by simpa using b6,λp q hq=>?_,λp p' q q' hq ud he=>?_,λp y hy _=>?_⟩,?_⟩
   ·rw [Dp] at hq
    split at hq
    ·split at hq
     ·have hq:=Ba hq
      exact ⟨.inr ⟨q,hq,(Uq q hq).1⟩,(Uq q hq).2.2⟩
     ·cases hq
    ·exact ⟨.inl (b7 p q hq).1,(b7 p q hq).2⟩
   ·rw [Dp] at hq ud
    split at hq
    ·rename_i hjp
     split at hq
     ·have hq:=Ba hq
      split at ud
      ·rename_i Aj0;rw [<-hjp,<-Aj0]
      ·exact absurd (h.1.apart hq h2 (Uq q hq).1 (he▸(b7 p' q' ud).1)) fT
     ·cases hq
    ·split at ud
     ·split at ud
      ·have ud:=Ba ud
       exact absurd (h.1.apart ud h2 (Uq q' ud).1 (he▸(b7 p q hq).1)) fT
      ·cases ud
     ·exact b8 p p' q q' hq ud he
   ·rw [Dp] at hy
    split at hy
    ·rename_i hjp
     subst hjp
     have hy:=Ba hy
     subst hy
     exact ⟨vx,R,by rw [JQ,Ab rfl],by rw [Dp,Ab rfl,Ab (by omega)],sm,hfa.to (λq hq=>oE _ (Uq q hq).2.2) λes y hc=>mv.cells false e es y hc⟩
    ·rename_i hjp
     obtain ⟨u',R',q1,q2,q3,q4⟩:=b9 p y hy (by rcases ho with ho|ho<;>rw [ho]<;>simp [hjp])
     refine ⟨u',R',by rw [JQ,Al (Hi hjp)];exact q1,by rw [Dp,Al hjp];exact q2,q3,q4.to (λq hq=>oE _ ?_) λes y hc=>mv.cells false e es y hc⟩
     subst hq
     exact (b7 p q q2).2
   ·cases kp with
    |none=>trivial
    |some p=>
     obtain ⟨l0,n0⟩:=p
     simp only [KeptAt,aq] at xY⊢
     cases JZ:X.fb l0 with
     |none=>rw [JZ] at xY;exact xY.elim
     |some r0=>
      rw [JZ] at xY
      obtain ⟨g1,g2,g3,g4⟩:=xY
      refine ⟨g1,g2,g3,λp hp hc=>?_⟩
      have NO:p<n0/\p<j:=by omega
      rw [<-g4 p NO.1 hc,<-g1,<-g2,cellOf HK,cellOf b2,JQ,Al (by omega)]
  ·rw [HI k e1 e2] at hb
   cases hk:Aq st.heap k with
   |none=>rw [hk] at hb;cases hb
   |some b1=>
    rw [hk] at hb
    simp only [Ai,Aa] at hb;subst hb
    rw [fY k e1 e2]
    exact ((h.1.heap k).Qi hk).move mv qp.size (λr0 c h0 h1=>h.1.sub _ r0 c h0 h1) λr0 c h0 h1 _=>oE c (qu k r0 c h0 h1 e2)
 ·have e2:k≠l:= λe=>by subst e;rw [ZM] at hk;cases hk
  by_cases e1:k=m
  ·subst e1;exact wb
  rw [HI k e1 e2] at hk
  rw [fY k e1 e2]
  cases ua:Aq st.heap k with
  |none=>exact (h.1.heap k).emp ua
  |some b=>rw [ua] at hk;cases hk
end
end Go.Proofs.Ytkkdpknjohcekaa
