/-
  Part 20 of the proof that the statement FnNoShorterSolution holds.
-/
import Derived.Test.YtkkdpknjohcekaaGreatCFNoShorterSolution18
namespace Go.Proofs.YtkkdpknjohcekaaGreat
open Go.RowKit
section
variable {P:Program} {T:Tab} {X:Ctx} {w w':World} {π π':Pi} {H H':List (Nat×OB)}
theorem qi (dead part:List Nat) (c:AC):Cl dead part c= .undef\/(Cl dead part c=c/\(∀k∈c.refs,k∉dead)/\ ∀k i j,c= .sub k i j\/c= .Kq k i j->k∉part):=by
 by_cases hu:Cl dead part c= .undef
 ·exact .inl hu
 have hr:=nJ hu
 have hp: ∀l i j,c= .sub l i j\/c= .Kq l i j->l∉part:=by
  intro l i j e hm
  refine hu ?_
  unfold Cl
  rcases e with rfl|rfl
  all_goals
   split
   ·rfl
   ·simp [hm]
 exact .inr ⟨cP hr hp,hr,hp⟩
theorem Aax {τ:Ty} (h:τ.Aq=false):τ.size=1:=by cases τ<;>simp_all [Ty.Aq,Ty.size]
theorem JE (hT:Ed P T) {st:St} {a:Act} (h:Bh X π st a w) {t:TypeId} {τ:Ty} (ht:T.ty t=some τ) (Ud:τ.Aq=false) {l j m:Nat} {e:Ty} {te tid:TypeId} {rows:List (List e.den)} {xs:List e.den} {out:Option Nat} {kp:Option (Nat×Nat)} {fr tr:Bool}
  (hl:Aw st.heap l=some (.Bo e te rows out kp)) (ho:out=none\/out=some j) (ji:m≠l) (hm:Aw st.heap m=some (.arr fr tr e tid xs)) (rk:l<Bl)
  {vp vx:Value} (hp:Ib X w π st.heap (.Kw l j) vp) (hx:Ib X w π st.heap (.own m 0 (List.length xs)) vx):
  ∃w' π',(Instr.storeAt t vp vx).run P w= .ok () w'/\Bh X π' (Ua st l j m e te rows xs (c8 j kp)) a w':=by
 have aH:τ.size=1:=Aax Ud
 obtain ⟨r,b0,sz,n,h1,h0,h3,h2,rfl⟩:=hp
 rw [hl] at h1;cases h1
 simp only [OB.row,Aa,Ae] at h0
 obtain ⟨rfl,rfl⟩:=h0
 rw [Fg]
 obtain ⟨_,vA⟩:=Pa (X:=X) (w:=w) hx hm
 obtain ⟨ax,nx,cx,hvx⟩:=bf vA
 have hb:=(h.1.heap l).Rz hl
 simp only [Ch] at hb
 obtain ⟨hb,tw⟩:=hb
 rw [h2] at hb tw
 obtain ⟨b1,cur,ti,b2,b3,b4,b5,Rs,b6,b7,b8,b9⟩:=hb
 have xp:=(h.1.heap m).Rz hm
 simp only [Ch,Kr] at xp
 have Vw:=Wv (P:=P) (w:=w) (hT.ty _ _ ht) r.g (r.o+j) vx [vx] (by rw [hvx];rfl) (by rw [aH];rfl) (by intro u hu;rw [Ad.1 hu,hvx];rfl) cur ti b2 (by simp;omega)
 let R:Option Real:=π m
 have hfa:Th w (Cy X.w0.heap.size X.Sc π false) R e xs:=by
  show Th w _ (π m) e xs
  cases hR:π m with
  |none=>rw [hR] at xp;exact xp
  |some q=>
   rw [hR] at xp
   obtain ⟨⟨f0,f0',_⟩,cu,ti',f2,f3,f4,f5,f6,_⟩:=xp
   exact ⟨⟨f0,f0'⟩,cu,ti',f2,f3,f4,f5,λp y hy=>by
    obtain ⟨es,g1,g2,g3⟩:=f6 p y hy
    exact ⟨es,g1,g2,Cells.Fp (Ap _) (λ_ _ _=>rfl) (λb _ hA=>hA.imp id (Or.imp id λ⟨h1,_⟩=>by cases h1)) e es y g3⟩⟩
 have hRq: ∀q,R=some q->π m=some q:= λq hq=>hq
 have Wm: ∀q,R=some q->q.Cr q.g/\q.cl q.g/\q.g≠r.g:= λq hq=>⟨h.1.Cr hq,h.1.sub m q _ hq (h.1.Cr hq),λe0=>ji (h.1.apart hq h2 (h.1.Cr hq) (e0▸b1))⟩
 let rl:Real:= {r with Cr:= λb=>r.Cr b\/ ∃q,R=some q/\q.Cr b,cl:= λb=>r.cl b\/ ∃q,R=some q/\q.cl b}
 let π':Pi:= λk=>if k=m then none else if k=l then some rl else π k
 have za:π' m=none:=Ab rfl
 have KR:π' l=some rl:=(Ai (Hs ji)).trans (Ab rfl)
 have jm: ∀k,k≠m->k≠l->π' k=π k:= λk g1 g2=>(Ai g1).trans (Ai g2)
 have vr: ∀k q,π' k=some q->(k=l/\q=rl)\/(k≠m/\k≠l/\π k=some q):= λk q hq=>by
  by_cases e1:k=m
  ·subst e1;rw [za] at hq;cases hq
  ·by_cases e2:k=l
   ·subst e2;rw [KR] at hq;exact .inl ⟨rfl,(Bc hq).symm⟩
   ·rw [jm k e1 e2] at hq;exact .inr ⟨e1,e2,hq⟩
 have Yi:r.o+j+ [vx].length<=cur.toList.length:=by simp;omega
 have tq:=Ob w r.g (Dv cur.toList (r.o+j) [vx]).toArray
 have rn: ∀c,c≠r.g->(w.setRow r.g (Dv cur.toList (r.o+j) [vx]).toArray).heap[c]?=w.heap[c]?:= λc hc=>setRow_other w r.g c _ hc
 have Aij: ∀k,Aw (Ua st l j m e te rows xs (c8 j kp)).heap k=Aw (aB (Ya (st.heap.map λp=>(p.1,p.2.map (Cl [m] [l]))) [m]) l (.Bo e te (rows.set j xs) none (c8 j kp))) k:= λk=>rfl
 have ph:Aw (Ya (st.heap.map λp=>(p.1,p.2.map (Cl [m] [l]))) [m]) l=some (.Bo e te rows out kp):=by
  rw [Od,Pl,Ai (by simpa using Hs ji),hl];rfl
 have hHl:Aw (Ua st l j m e te rows xs (c8 j kp)).heap l=some (.Bo e te (rows.set j xs) none (c8 j kp)):=(Aij l).trans (Ev _ _ _ _ ph)
 have PQ: ∀k,k≠m->k≠l->Aw (Ua st l j m e te rows xs (c8 j kp)).heap k=(Aw st.heap k).map (OB.map (Cl [m] [l])):= λk g1 g2=>by
  rw [Aij,Dy _ _ _ _ g2,Od,Pl,Ai (by simpa using g1)]
 have hHm:Aw (Ua st l j m e te rows xs (c8 j kp)).heap m=none:=by
  rw [Aij,Dy _ _ _ _ ji,Od,Ab (by simp)]
 have Arm:r.cl r.g:=h.1.sub l r _ h2 b1
 have tA: ∀k r0 c,π k=some r0->r0.cl c->k≠l->c≠r.g:= λk r0 c hk hc Jr e=>Jr (h.1.inj k l r0 r c hk h2 hc (e▸Arm))
 refine ⟨_,π',by simp only [Instr.storeAt,Instr.sureAddr];simpa using Vw,?_⟩
 have Pn:Ua st l j m e te rows xs (c8 j kp)= {tmps:=st.tmps.map (·.map (Cl [m] [l])),heap:=(Ua st l j m e te rows xs (c8 j kp)).heap} :=rfl
 rw [Pn]
 refine h.oc (by simp [Cl,AC.refs]) (gv:= λc=>c=r.g) (λc hc=>hc▸⟨l,r,h2,b1⟩) ⟨tq.os,tq.tape,tq.output,tq.size,λc _ hc=>rn c hc⟩ (λb _ ⟨k,q,g1,g2⟩=>?_) (λk q b g1 g2=>?_) (λk q b g1 g2=>?_) (λk k' q q' b g1 g2 g3 g4=>?_) (λk hk Jr=>?_)
  (λhc=>oa (D:= λk=>k=m) (Pt:= λk=>k=l) (λc=>?_) (λk hk=>?_) (λk b hk hb=>?_) (λk r0 b hk hk2 g1 g2 g3=>rn _ (tA k r0 _ g3 (h.1.sub k r0 _ g3 (h.1.Cr g3)) hk2)) hc) (λmv k b hb=>?_) (λk hk=>?_)
 ·rcases vr k q g1 with ⟨_,rfl⟩|⟨_,_,e1⟩
  ·rcases g2 with g2|⟨q0,g2,g3⟩
   ·exact ⟨l,r,h2,g2⟩
   ·exact ⟨m,q0,g2,g3⟩
  ·exact ⟨k,q,e1,g2⟩
 ·rcases vr k q g1 with ⟨_,rfl⟩|⟨_,_,e1⟩
  ·rcases g2 with g2|⟨q0,g2,g3⟩
   ·exact .inl (h.1.sub l r b h2 g2)
   ·exact .inr ⟨q0,g2,h.1.sub m q0 b g2 g3⟩
  ·exact h.1.sub k q b e1 g2
 ·have up: ∀k q b,π k=some q->q.cl b->(X.w0.heap.size<=b\/X.gv b)/\b<(w.setRow r.g (Dv cur.toList (r.o+j) [vx]).toArray).heap.size:= λk q b e1 e2=>⟨(h.1.place k q b e1 e2).1,Eh (h.1.place k q b e1 e2).2 tq.size⟩
  rcases vr k q g1 with ⟨_,rfl⟩|⟨_,_,e1⟩
  ·rcases g2 with g2|⟨q0,g2,g3⟩
   ·exact up l r b h2 g2
   ·exact up m q0 b g2 g3
  ·exact up k q b e1 g2
 ·rcases vr k q g1 with ⟨e0,rfl⟩|⟨e0,e2,e1⟩<;>rcases vr k' q' g2 with ⟨f0,rfl⟩|⟨f0,f2,f1⟩
  ·rw [e0,f0]
  ·rcases g3 with g3|⟨q0,g3,g5⟩
   ·exact absurd (h.1.inj k' l q' r b f1 h2 g4 g3) f2
   ·exact absurd (h.1.inj k' m q' q0 b f1 g3 g4 g5) f0
  ·rcases g4 with g4|⟨q0,g4,g5⟩
   ·exact absurd (h.1.inj k l q r b e1 h2 g3 g4) e2
   ·exact absurd (h.1.inj k m q q0 b e1 g4 g3 g5) e0
  ·exact h.1.inj k k' q q' b e1 f1 g3 g4
 ·by_cases e1:k=m
  ·subst e1;exact absurd hHm Jr
  have e2:k≠l:=by omega
  rw [jm k e1 e2]
  refine h.1.iB k hk λh0=>Jr ?_
  rw [PQ k e1 e2,h0];rfl
 ·rcases qi [m] [l] c with e|⟨e,g,g'⟩
  ·exact .inl e
  ·exact .inr ⟨e,λk hk hkm=>g k hk (by simp [hkm]),λk i j hc Tb=>g' k i j hc (by simp [Tb])⟩
 ·by_cases e2:k=l
  ·subst e2;rw [KR,h2];exact ⟨rfl,rfl,rfl⟩
  ·rw [jm k hk e2];exact gK.rfl' _
 ·by_cases e2:k=l
  ·subst e2
   rw [hl] at hb;cases hb
   exact ⟨_,hHl,⟨λ_ n h=>⟨n,by simpa [OB.row] using h,Ap _⟩,λ_ h=>by simpa [OB.gT] using h,λ_ h=>by simpa [OB.vJ] using h,(λ_ _ h=>by cases h),(λ_ _ h=>by cases h)⟩⟩
  ·exact ⟨_,by rw [PQ k hk e2,hb];rfl,OB.To.map _ b⟩
 ·by_cases e1:k=m
  ·subst e1;rw [hHm] at hb;cases hb
  by_cases e2:k=l
  ·subst e2
   rw [hHl] at hb;cases hb
   rw [KR]
   have hat: ∀p,(Dv cur.toList (r.o+j) [vx]).toArray[r.o+p]?=if p=j then some vx else cur[r.o+p]?:= λp=>by
    rw [Ix,Iv _ _ _ _ Yi]
    by_cases hpj:p=j
    ·subst hpj
     rw [Ai (by omega),Ab (by simp),Ab rfl]
     simp
    ·rw [Ai hpj]
     split
     ·simp
     ·rw [Ai (by simp;omega)];simp
   have PV:=setRow_heap w r.g cur (Dv cur.toList (r.o+j) [vx]).toArray ti _ b2
   refine ⟨⟨.inl b1,_,_,PV,by rw [Ha,Jo _ _ _ Yi,Xs];exact b3,b4,by simpa using b5,Rs.set j R,by simpa using b6,λp q hq=>?_,λp p' q q' hq lu he=>?_,λp y hy _=>?_⟩,?_⟩
   ·rw [Ei] at hq
    split at hq
    ·split at hq
     ·have hq:=Bc hq
      exact ⟨.inr ⟨q,hq,(Wm q hq).1⟩,(Wm q hq).2.2⟩
     ·cases hq
    ·exact ⟨.inl (b7 p q hq).1,(b7 p q hq).2⟩
   ·rw [Ei] at hq lu
    split at hq
    ·rename_i hjp
     split at hq
     ·have hq:=Bc hq
      split at lu
      ·rename_i As4;rw [<-hjp,<-As4]
      ·exact absurd (h.1.apart hq h2 (Wm q hq).1 (he▸(b7 p' q' lu).1)) ji
     ·cases hq
    ·split at lu
     ·split at lu
      ·have lu:=Bc lu
       exact absurd (h.1.apart lu h2 (Wm q' lu).1 (he▸(b7 p q hq).1)) ji
      ·cases lu
     ·exact b8 p p' q q' hq lu he
   ·rw [Ei] at hy
    split at hy
    ·rename_i hjp
     subst hjp
     have hy:=Bc hy
     subst hy
     exact ⟨vx,R,by rw [hat,Ab rfl],by rw [Ei,Ab rfl,Ab (by omega)],vA,hfa.to (λq hq=>rn _ (Wm q hq).2.2) λes y hc=>mv.cells false e es y hc⟩
    ·rename_i hjp
     obtain ⟨u',R',q1,q2,q3,q4⟩:=b9 p y hy (by rcases ho with ho|ho<;>rw [ho]<;>simp [hjp])
     refine ⟨u',R',by rw [hat,Ai (Hs hjp)];exact q1,by rw [Ei,Ai hjp];exact q2,q3,q4.to (λq hq=>rn _ ?_) λes y hc=>mv.cells false e es y hc⟩
     subst hq
     exact (b7 p q q2).2
   ·cases kp with
    |none=>trivial
    |some p=>
     obtain ⟨l0,n0⟩:=p
     simp only [KeptAt,c8] at tw⊢
     cases IW:X.iB l0 with
     |none=>rw [IW] at tw;exact tw.elim
     |some r0=>
      rw [IW] at tw
      obtain ⟨g1,g2,g3,g4⟩:=tw
      refine ⟨g1,g2,g3,λp hp hc=>?_⟩
      have WN:p<n0/\p<j:=by omega
      rw [<-g4 p WN.1 hc,<-g1,<-g2,cellOf PV,cellOf b2,hat,Ai (by omega)]
  ·rw [PQ k e1 e2] at hb
   cases hk:Aw st.heap k with
   |none=>rw [hk] at hb;cases hb
   |some b1=>
    rw [hk] at hb
    simp only [Al,Aa] at hb;subst hb
    rw [jm k e1 e2]
    exact ((h.1.heap k).Rz hk).move mv tq.size (λr0 c h0 h1=>h.1.sub _ r0 c h0 h1) λr0 c h0 h1 _=>rn c (tA k r0 c h0 h1 e2)
 ·have e2:k≠l:= λe=>by subst e;rw [hHl] at hk;cases hk
  by_cases e1:k=m
  ·subst e1;exact za
  rw [PQ k e1 e2] at hk
  rw [jm k e1 e2]
  cases xy:Aw st.heap k with
  |none=>exact (h.1.heap k).emp xy
  |some b=>rw [xy] at hk;cases hk
end
end Go.Proofs.YtkkdpknjohcekaaGreat
