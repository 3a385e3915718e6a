/-
  Part 20 of the proof that the statement FnCommutatorMacros holds.
-/
import Derived.Test.YtfgfigkbgecfnaaCFCommutatorMacros18
namespace Go.Proofs.Ytfgfigkbgecfnaa
open Go.RowKit
section
variable {P:Program} {T:Tab} {X:Ctx} {w w':World} {π π':Pi} {H H':List (Nat×OB)}
theorem jW (dead part:List Nat) (c:AC):Bt dead part c= .undef\/(Bt dead part c=c/\(∀k∈c.refs,k∉dead)/\ ∀k i j,c= .sub k i j\/c= .Hf k i j->k∉part):=by
 by_cases hu:Bt dead part c= .undef
 ·exact .inl hu
 have hr:=hI hu
 have hp: ∀l i j,c= .sub l i j\/c= .Hf l i j->l∉part:=by
  intro l i j e hm
  refine hu ?_
  unfold Bt
  rcases e with rfl|rfl
  all_goals
   split
   ·rfl
   ·simp [hm]
 exact .inr ⟨Yg hr hp,hr,hp⟩
theorem DV {τ:Ty} (h:τ.Ak=false):τ.size=1:=by cases τ<;>simp_all [Ty.Ak,Ty.size]
theorem uZ (hT:De P T) {st:St} {a:Act} (h:Ax X π st a w) {t:TypeId} {τ:Ty} (ht:T.ty t=some τ) (Pp:τ.Ak=false) {l j m:Nat} {e:Ty} {te tid:TypeId} {rows:List (List e.den)} {xs:List e.den} {out:Option Nat} {kp:Option (Nat×Nat)} {fr tr:Bool}
  (hl:Ap st.heap l=some (.Bc e te rows out kp)) (ho:out=none\/out=some j) (cB:m≠l) (hm:Ap st.heap m=some (.arr fr tr e tid xs)) (kQ:l<Az)
  {vp vx:Value} (hp:Fe X w π st.heap (.Hj l j) vp) (hx:Fe X w π st.heap (.own m 0 (List.length xs)) vx):
  ∃w' π',(Instr.storeAt t vp vx).run P w= .ok () w'/\Ax X π' (Pn st l j m e te rows xs (Xd j kp)) a w':=by
 have Vc:τ.size=1:=DV Pp
 obtain ⟨r,b0,sz,n,h1,h0,h3,h2,rfl⟩:=hp
 rw [hl] at h1;cases h1
 simp only [OB.row,Aa,Ab] at h0
 obtain ⟨rfl,rfl⟩:=h0
 rw [Dt]
 obtain ⟨_,nG⟩:=Lk (X:=X) (w:=w) hx hm
 obtain ⟨ax,nx,cx,GN⟩:=Vr nG
 have hb:=(h.1.heap l).Ns hl
 simp only [Bn] at hb
 obtain ⟨hb,sv⟩:=hb
 rw [h2] at hb sv
 obtain ⟨b1,cur,ti,b2,b3,b4,b5,Rs,b6,b7,b8,b9⟩:=hb
 have uT:=(h.1.heap m).Ns hm
 simp only [Bn,Hg] at uT
 have Qw:=Ru (P:=P) (w:=w) (hT.ty _ _ ht) r.g (r.o+j) vx [vx] (by rw [GN];rfl) (by rw [Vc];rfl) (by intro u hu;rw [Ad.1 hu,GN];rfl) cur ti b2 (by simp;omega)
 let R:Option Real:=π m
 have VV:Oe w (Cb X.w0.heap.size X.Sc π false) R e xs:=by
  show Oe w _ (π m) e xs
  cases hR:π m with
  |none=>rw [hR] at uT;exact uT
  |some q=>
   rw [hR] at uT
   obtain ⟨⟨f0,UN,_⟩,cu,FH,f2,f3,f4,f5,f6,_⟩:=uT
   exact ⟨⟨f0,UN⟩,cu,FH,f2,f3,f4,f5,λp y hy=>by
    obtain ⟨es,g1,g2,g3⟩:=f6 p y hy
    exact ⟨es,g1,g2,Cells.Ep (Ao _) (λ_ _ _=>rfl) (λb _ hA=>hA.imp id (Or.imp id λ⟨h1,_⟩=>by cases h1)) e es y g3⟩⟩
 have hRq: ∀q,R=some q->π m=some q:= λq hq=>hq
 have Rn: ∀q,R=some q->q.Bu q.g/\q.cl q.g/\q.g≠r.g:= λq hq=>⟨h.1.Bu hq,h.1.sub m q _ hq (h.1.Bu hq),λe0=>cB (h.1.apart hq h2 (h.1.Bu hq) (e0▸b1))⟩
 let rl:Real:= {r with Bu:= λb=>r.Bu b\/ ∃q,R=some q/\q.Bu b,cl:= λb=>r.cl b\/ ∃q,R=some q/\q.cl b}
 let π':Pi:= λk=>if k=m then none else if k=l then some rl else π k
 have qC:π' m=none:=Af rfl
 have vT:π' l=some rl:=(Aj (Fo cB)).trans (Af rfl)
 have dp: ∀k,k≠m->k≠l->π' k=π k:= λk g1 g2=>(Aj g1).trans (Aj g2)
 have nE: ∀k q,π' k=some q->(k=l/\q=rl)\/(k≠m/\k≠l/\π k=some q):= λk q hq=>by
  by_cases e1:k=m
  ·subst e1;rw [qC] at hq;cases hq
  ·by_cases e2:k=l
   ·subst e2;rw [vT] at hq;exact .inl ⟨rfl,(Aw hq).symm⟩
   ·rw [dp k e1 e2] at hq;exact .inr ⟨e1,e2,hq⟩
 have Su:r.o+j+ [vx].length<=cur.toList.length:=by simp;omega
 have ma:=Kq w r.g (Dd cur.toList (r.o+j) [vx]).toArray
 have kS: ∀c,c≠r.g->(w.setRow r.g (Dd cur.toList (r.o+j) [vx]).toArray).heap[c]?=w.heap[c]?:= λc hc=>setRow_other w r.g c _ hc
 have LN: ∀k,Ap (Pn st l j m e te rows xs (Xd j kp)).heap k=Ap (Ux (Sl (st.heap.map λp=>(p.1,p.2.map (Bt [m] [l]))) [m]) l (.Bc e te (rows.set j xs) none (Xd j kp))) k:= λk=>rfl
 have zY:Ap (Sl (st.heap.map λp=>(p.1,p.2.map (Bt [m] [l]))) [m]) l=some (.Bc e te rows out kp):=by
  rw [Ks,Lr,Aj (by simpa using Fo cB),hl];rfl
 have KH:Ap (Pn st l j m e te rows xs (Xd j kp)).heap l=some (.Bc e te (rows.set j xs) none (Xd j kp)):=(LN l).trans (Dj _ _ _ _ zY)
 have xw: ∀k,k≠m->k≠l->Ap (Pn st l j m e te rows xs (Xd j kp)).heap k=(Ap st.heap k).map (OB.map (Bt [m] [l])):= λk g1 g2=>by
  rw [LN,Cu _ _ _ _ g2,Ks,Lr,Aj (by simpa using g1)]
 have IC:Ap (Pn st l j m e te rows xs (Xd j kp)).heap m=none:=by
  rw [LN,Cu _ _ _ _ cB,Ks,Af (by simp)]
 have VS:r.cl r.g:=h.1.sub l r _ h2 b1
 have mf: ∀k r0 c,π k=some r0->r0.cl c->k≠l->c≠r.g:= λk r0 c hk hc Hs e=>Hs (h.1.inj k l r0 r c hk h2 hc (e▸VS))
 refine ⟨_,π',by simp only [Instr.storeAt,Instr.sureAddr];simpa using Qw,?_⟩
 have Yi:Pn st l j m e te rows xs (Xd j kp)= {tmps:=st.tmps.map (·.map (Bt [m] [l])),heap:=(Pn st l j m e te rows xs (Xd j kp)).heap} :=rfl
 rw [Yi]
 refine h.iD (by simp [Bt,AC.refs]) (gv:= λc=>c=r.g) (λc hc=>hc▸⟨l,r,h2,b1⟩) ⟨ma.os,ma.tape,ma.output,ma.size,λc _ hc=>kS c hc⟩ (λb _ ⟨k,q,g1,g2⟩=>?_) (λk q b g1 g2=>?_) (λk q b g1 g2=>?_) (λk k' q q' b g1 g2 g3 g4=>?_) (λk hk Hs=>?_)
  (λhc=>iC (D:= λk=>k=m) (Pt:= λk=>k=l) (λc=>?_) (λk hk=>?_) (λk b hk hb=>?_) (λk r0 b hk TB g1 g2 g3=>kS _ (mf k r0 _ g3 (h.1.sub k r0 _ g3 (h.1.Bu g3)) TB)) hc) (λmv k b hb=>?_) (λk hk=>?_)
 ·rcases nE k q g1 with ⟨_,rfl⟩|⟨_,_,e1⟩
  ·rcases g2 with g2|⟨q0,g2,g3⟩
   ·exact ⟨l,r,h2,g2⟩
   ·exact ⟨m,q0,g2,g3⟩
  ·exact ⟨k,q,e1,g2⟩
 ·rcases nE k q g1 with ⟨_,rfl⟩|⟨_,_,e1⟩
  ·rcases g2 with g2|⟨q0,g2,g3⟩
   ·exact .inl (h.1.sub l r b h2 g2)
   ·exact .inr ⟨q0,g2,h.1.sub m q0 b g2 g3⟩
  ·exact h.1.sub k q b e1 g2
 ·have up: ∀k q b,π k=some q->q.cl b->(X.w0.heap.size<=b\/X.gv b)/\b<(w.setRow r.g (Dd cur.toList (r.o+j) [vx]).toArray).heap.size:= λk q b e1 e2=>⟨(h.1.place k q b e1 e2).1,Cy (h.1.place k q b e1 e2).2 ma.size⟩
  rcases nE k q g1 with ⟨_,rfl⟩|⟨_,_,e1⟩
  ·rcases g2 with g2|⟨q0,g2,g3⟩
   ·exact up l r b h2 g2
   ·exact up m q0 b g2 g3
  ·exact up k q b e1 g2
 ·rcases nE k q g1 with ⟨e0,rfl⟩|⟨e0,e2,e1⟩<;>rcases nE k' q' g2 with ⟨f0,rfl⟩|⟨f0,f2,f1⟩
  ·rw [e0,f0]
  ·rcases g3 with g3|⟨q0,g3,g5⟩
   ·exact absurd (h.1.inj k' l q' r b f1 h2 g4 g3) f2
   ·exact absurd (h.1.inj k' m q' q0 b f1 g3 g4 g5) f0
  ·rcases g4 with g4|⟨q0,g4,g5⟩
   ·exact absurd (h.1.inj k l q r b e1 h2 g3 g4) e2
   ·exact absurd (h.1.inj k m q q0 b e1 g4 g3 g5) e0
  ·exact h.1.inj k k' q q' b e1 f1 g3 g4
 ·by_cases e1:k=m
  ·subst e1;exact absurd IC Hs
  have e2:k≠l:=by omega
  rw [dp k e1 e2]
  refine h.1.cD k hk λh0=>Hs ?_
  rw [xw k e1 e2,h0];rfl
 ·rcases jW [m] [l] c with e|⟨e,g,g'⟩
  ·exact .inl e
  ·exact .inr ⟨e,λk hk hkm=>g k hk (by simp [hkm]),λk i j hc Om=>g' k i j hc (by simp [Om])⟩
 ·by_cases e2:k=l
  ·subst e2;rw [vT,h2];exact ⟨rfl,rfl,rfl⟩
  ·rw [dp k hk e2];exact bR.rfl' _
 ·by_cases e2:k=l
  ·subst e2
   rw [hl] at hb;cases hb
   exact ⟨_,KH,⟨λ_ n h=>⟨n,by simpa [OB.row] using h,Ao _⟩,λ_ h=>by simpa [OB.c6] using h,λ_ h=>by simpa [OB.nP] using h,(λ_ _ h=>by cases h),(λ_ _ h=>by cases h)⟩⟩
  ·exact ⟨_,by rw [xw k hk e2,hb];rfl,OB.Pe.map _ b⟩
 ·by_cases e1:k=m
  ·subst e1;rw [IC] at hb;cases hb
  by_cases e2:k=l
  ·subst e2
   rw [KH] at hb;cases hb
   rw [vT]
   have VI: ∀p,(Dd cur.toList (r.o+j) [vx]).toArray[r.o+p]?=if p=j then some vx else cur[r.o+p]?:= λp=>by
    rw [Fv,Fu _ _ _ _ Su]
    by_cases QD:p=j
    ·subst QD
     rw [Aj (by omega),Af (by simp),Af rfl]
     simp
    ·rw [Aj QD]
     split
     ·simp
     ·rw [Aj (by simp;omega)];simp
   have k8:=setRow_heap w r.g cur (Dd cur.toList (r.o+j) [vx]).toArray ti _ b2
   refine ⟨⟨.inl b1,_,_,k8,by rw [Eu,Gg _ _ _ Su,Sf];exact b3,b4,by simpa using b5,Rs.set j R,by simpa using b6,λp q hq=>?_,λp p' q q' hq tm he=>?_,λp y hy _=>?_⟩,?_⟩
   ·rw [Dg] at hq
    split at hq
    ·split at hq
     ·have hq:=Aw hq
      exact ⟨.inr ⟨q,hq,(Rn q hq).1⟩,(Rn q hq).2.2⟩
     ·cases hq
    ·exact ⟨.inl (b7 p q hq).1,(b7 p q hq).2⟩
   ·rw [Dg] at hq tm
    split at hq
    ·rename_i KV
     split at hq
     ·have hq:=Aw hq
      split at tm
      ·rename_i WK;rw [<-KV,<-WK]
      ·exact absurd (h.1.apart hq h2 (Rn q hq).1 (he▸(b7 p' q' tm).1)) cB
     ·cases hq
    ·split at tm
     ·split at tm
      ·have tm:=Aw tm
       exact absurd (h.1.apart tm h2 (Rn q' tm).1 (he▸(b7 p q hq).1)) cB
      ·cases tm
     ·exact b8 p p' q q' hq tm he
   ·rw [Dg] at hy
    split at hy
    ·rename_i KV
     subst KV
     have hy:=Aw hy
     subst hy
     exact ⟨vx,R,by rw [VI,Af rfl],by rw [Dg,Af rfl,Af (by omega)],nG,VV.to (λq hq=>kS _ (Rn q hq).2.2) λes y hc=>mv.cells false e es y hc⟩
    ·rename_i KV
     obtain ⟨u',R',q1,q2,q3,q4⟩:=b9 p y hy (by rcases ho with ho|ho<;>rw [ho]<;>simp [KV])
     refine ⟨u',R',by rw [VI,Aj (Fo KV)];exact q1,by rw [Dg,Aj KV];exact q2,q3,q4.to (λq hq=>kS _ ?_) λes y hc=>mv.cells false e es y hc⟩
     subst hq
     exact (b7 p q q2).2
   ·cases kp with
    |none=>trivial
    |some p=>
     obtain ⟨l0,n0⟩:=p
     simp only [KeptAt,Xd] at sv⊢
     cases yD:X.cD l0 with
     |none=>rw [yD] at sv;exact sv.elim
     |some r0=>
      rw [yD] at sv
      obtain ⟨g1,g2,g3,g4⟩:=sv
      refine ⟨g1,g2,g3,λp hp hc=>?_⟩
      have zX:p<n0/\p<j:=by omega
      rw [<-g4 p zX.1 hc,<-g1,<-g2,cellOf k8,cellOf b2,VI,Aj (by omega)]
  ·rw [xw k e1 e2] at hb
   cases hk:Ap st.heap k with
   |none=>rw [hk] at hb;cases hb
   |some b1=>
    rw [hk] at hb
    simp only [Ah,Aa] at hb;subst hb
    rw [dp k e1 e2]
    exact ((h.1.heap k).Ns hk).move mv ma.size (λr0 c h0 h1=>h.1.sub _ r0 c h0 h1) λr0 c h0 h1 _=>kS c (mf k r0 c h0 h1 e2)
 ·have e2:k≠l:= λe=>by subst e;rw [KH] at hk;cases hk
  by_cases e1:k=m
  ·subst e1;exact qC
  rw [xw k e1 e2] at hk
  rw [dp k e1 e2]
  cases qx:Ap st.heap k with
  |none=>exact (h.1.heap k).emp qx
  |some b=>rw [qx] at hk;cases hk
end
end Go.Proofs.Ytfgfigkbgecfnaa
