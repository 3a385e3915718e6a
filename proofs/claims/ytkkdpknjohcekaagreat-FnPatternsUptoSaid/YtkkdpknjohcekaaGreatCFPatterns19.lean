/-
  Part 20 of the proof that the statement FnPatterns holds.
-/
import Derived.Test.YtkkdpknjohcekaaGreatCFPatterns18
namespace Go.Proofs.YtkkdpknjohcekaaGreat
open Go.RowKit
section
variable {P:Program} {T:Tab} {X:Ctx} {w w':World} {π π':Pi} {H H':List (Nat×OB)}
theorem qh (dead part:List Nat) (c:AC):Cs dead part c= .undef\/(Cs dead part c=c/\(∀k∈c.refs,k∉dead)/\ ∀k i j,c= .sub k i j\/c= .Kf k i j->k∉part):=by
 by_cases hu:Cs dead part c= .undef
 ·exact .inl hu
 have hr:=nt hu
 have hp: ∀l i j,c= .sub l i j\/c= .Kf l i j->l∉part:=by
  intro l i j e hm
  refine hu ?_
  unfold Cs
  rcases e with rfl|rfl
  all_goals
   split
   ·rfl
   ·simp [hm]
 exact .inr ⟨cJ hr hp,hr,hp⟩
theorem Aby {τ:Ty} (h:τ.Ap=false):τ.size=1:=by cases τ<;>simp_all [Ty.Ap,Ty.size]
theorem KI (hT:Eb P T) {st:St} {a:Act} (h:Bi X π st a w) {t:TypeId} {τ:Ty} (ht:T.ty t=some τ) (Tz:τ.Ap=false) {l j m:Nat} {e:Ty} {te tid:TypeId} {rows:List (List e.den)} {xs:List e.den} {out:Option Nat} {kp:Option (Nat×Nat)} {fr tr:Bool}
  (hl:At st.heap l=some (.Bl e te rows out kp)) (ho:out=none\/out=some j) (iV:m≠l) (hm:At st.heap m=some (.arr fr tr e tid xs)) (p7:l<Bn)
  {vp vx:Value} (hp:Hv X w π st.heap (.Ki l j) vp) (hx:Hv X w π st.heap (.own m 0 (List.length xs)) vx):
  ∃w' π',(Instr.storeAt t vp vx).run P w= .ok () w'/\Bi X π' (Tv st l j m e te rows xs (bV j kp)) a w':=by
 have aB:τ.size=1:=Aby Tz
 obtain ⟨r,b0,sz,n,h1,h0,h3,h2,rfl⟩:=hp
 rw [hl] at h1;cases h1
 simp only [OB.row,Aa,Ae] at h0
 obtain ⟨rfl,rfl⟩:=h0
 rw [Fm]
 obtain ⟨_,vI⟩:=Oi (X:=X) (w:=w) hx hm
 obtain ⟨ax,nx,cx,hvx⟩:=aW vI
 have hb:=(h.1.heap l).Ro hl
 simp only [Cj] at hb
 obtain ⟨hb,tp⟩:=hb
 rw [h2] at hb tp
 obtain ⟨b1,cur,ti,b2,b3,b4,b5,Rs,b6,b7,b8,b9⟩:=hb
 have JZ:=(h.1.heap m).Ro hm
 simp only [Cj,Kg] at JZ
 have Vu:=Wr (P:=P) (w:=w) (hT.ty _ _ ht) r.g (r.o+j) vx [vx] (by rw [hvx];rfl) (by rw [aB];rfl) (by intro u hu;rw [Ad.1 hu,hvx];rfl) cur ti b2 (by simp;omega)
 let R:Option Real:=π m
 have hfa:Ta w (Da X.w0.heap.size X.Sc π false) R e xs:=by
  show Ta w _ (π m) e xs
  cases hR:π m with
  |none=>rw [hR] at JZ;exact JZ
  |some q=>
   rw [hR] at JZ
   obtain ⟨⟨f0,f0',_⟩,cu,ti',f2,f3,f4,f5,f6,_⟩:=JZ
   exact ⟨⟨f0,f0'⟩,cu,ti',f2,f3,f4,f5,λp y hy=>by
    obtain ⟨es,g1,g2,g3⟩:=f6 p y hy
    exact ⟨es,g1,g2,Cells.Fk (Ao _) (λ_ _ _=>rfl) (λb _ hA=>hA.imp id (Or.imp id λ⟨h1,_⟩=>by cases h1)) e es y g3⟩⟩
 have hRq: ∀q,R=some q->π m=some q:= λq hq=>hq
 have Wk: ∀q,R=some q->q.Cv q.g/\q.cl q.g/\q.g≠r.g:= λq hq=>⟨h.1.Cv hq,h.1.sub m q _ hq (h.1.Cv hq),λe0=>iV (h.1.apart hq h2 (h.1.Cv hq) (e0▸b1))⟩
 let rl:Real:= {r with Cv:= λb=>r.Cv b\/ ∃q,R=some q/\q.Cv b,cl:= λb=>r.cl b\/ ∃q,R=some q/\q.cl b}
 let π':Pi:= λk=>if k=m then none else if k=l then some rl else π k
 have zy:π' m=none:=Ab rfl
 have MC:π' l=some rl:=(Ak (Gg iV)).trans (Ab rfl)
 have iX: ∀k,k≠m->k≠l->π' k=π k:= λk g1 g2=>(Ak g1).trans (Ak g2)
 have vF: ∀k q,π' k=some q->(k=l/\q=rl)\/(k≠m/\k≠l/\π k=some q):= λk q hq=>by
  by_cases e1:k=m
  ·subst e1;rw [zy] at hq;cases hq
  ·by_cases e2:k=l
   ·subst e2;rw [MC] at hq;exact .inl ⟨rfl,(Bd hq).symm⟩
   ·rw [iX k e1 e2] at hq;exact .inr ⟨e1,e2,hq⟩
 have Yg:r.o+j+ [vx].length<=cur.toList.length:=by simp;omega
 have tf:=Np w r.g (Dw cur.toList (r.o+j) [vx]).toArray
 have rk: ∀c,c≠r.g->(w.setRow r.g (Dw cur.toList (r.o+j) [vx]).toArray).heap[c]?=w.heap[c]?:= λc hc=>setRow_other w r.g c _ hc
 have Ajb: ∀k,At (Tv st l j m e te rows xs (bV j kp)).heap k=At (ar (Xz (st.heap.map λp=>(p.1,p.2.map (Cs [m] [l]))) [m]) l (.Bl e te (rows.set j xs) none (bV j kp))) k:= λk=>rfl
 have YD:At (Xz (st.heap.map λp=>(p.1,p.2.map (Cs [m] [l]))) [m]) l=some (.Bl e te rows out kp):=by
  rw [Nr,Oq,Ak (by simpa using Gg iV),hl];rfl
 have hHl:At (Tv st l j m e te rows xs (bV j kp)).heap l=some (.Bl e te (rows.set j xs) none (bV j kp)):=(Ajb l).trans (Ez _ _ _ _ YD)
 have RI: ∀k,k≠m->k≠l->At (Tv st l j m e te rows xs (bV j kp)).heap k=(At st.heap k).map (OB.map (Cs [m] [l])):= λk g1 g2=>by
  rw [Ajb,Ec _ _ _ _ g2,Nr,Oq,Ak (by simpa using g1)]
 have hHm:At (Tv st l j m e te rows xs (bV j kp)).heap m=none:=by
  rw [Ajb,Ec _ _ _ _ iV,Nr,Ab (by simp)]
 have As7:r.cl r.g:=h.1.sub l r _ h2 b1
 have tq: ∀k r0 c,π k=some r0->r0.cl c->k≠l->c≠r.g:= λk r0 c hk hc Iz e=>Iz (h.1.inj k l r0 r c hk h2 hc (e▸As7))
 refine ⟨_,π',by simp only [Instr.storeAt,Instr.sureAddr];simpa using Vu,?_⟩
 have Uh:Tv st l j m e te rows xs (bV j kp)= {tmps:=st.tmps.map (·.map (Cs [m] [l])),heap:=(Tv st l j m e te rows xs (bV j kp)).heap} :=rfl
 rw [Uh]
 refine h.nZ (by simp [Cs,AC.refs]) (gv:= λc=>c=r.g) (λc hc=>hc▸⟨l,r,h2,b1⟩) ⟨tf.os,tf.tape,tf.output,tf.size,λc _ hc=>rk c hc⟩ (λb _ ⟨k,q,g1,g2⟩=>?_) (λk q b g1 g2=>?_) (λk q b g1 g2=>?_) (λk k' q q' b g1 g2 g3 g4=>?_) (λk hk Iz=>?_)
  (λhc=>nY (D:= λk=>k=m) (Pt:= λk=>k=l) (λc=>?_) (λk hk=>?_) (λk b hk hb=>?_) (λk r0 b hk ZV g1 g2 g3=>rk _ (tq k r0 _ g3 (h.1.sub k r0 _ g3 (h.1.Cv g3)) ZV)) hc) (λmv k b hb=>?_) (λk hk=>?_)
 ·rcases vF k q g1 with ⟨_,rfl⟩|⟨_,_,e1⟩
  ·rcases g2 with g2|⟨q0,g2,g3⟩
   ·exact ⟨l,r,h2,g2⟩
   ·exact ⟨m,q0,g2,g3⟩
  ·exact ⟨k,q,e1,g2⟩
 ·rcases vF k q g1 with ⟨_,rfl⟩|⟨_,_,e1⟩
  ·rcases g2 with g2|⟨q0,g2,g3⟩
   ·exact .inl (h.1.sub l r b h2 g2)
   ·exact .inr ⟨q0,g2,h.1.sub m q0 b g2 g3⟩
  ·exact h.1.sub k q b e1 g2
 ·have up: ∀k q b,π k=some q->q.cl b->(X.w0.heap.size<=b\/X.gv b)/\b<(w.setRow r.g (Dw cur.toList (r.o+j) [vx]).toArray).heap.size:= λk q b e1 e2=>⟨(h.1.place k q b e1 e2).1,Eg (h.1.place k q b e1 e2).2 tf.size⟩
  rcases vF k q g1 with ⟨_,rfl⟩|⟨_,_,e1⟩
  ·rcases g2 with g2|⟨q0,g2,g3⟩
   ·exact up l r b h2 g2
   ·exact up m q0 b g2 g3
  ·exact up k q b e1 g2
 ·rcases vF k q g1 with ⟨e0,rfl⟩|⟨e0,e2,e1⟩<;>rcases vF k' q' g2 with ⟨f0,rfl⟩|⟨f0,f2,f1⟩
  ·rw [e0,f0]
  ·rcases g3 with g3|⟨q0,g3,g5⟩
   ·exact absurd (h.1.inj k' l q' r b f1 h2 g4 g3) f2
   ·exact absurd (h.1.inj k' m q' q0 b f1 g3 g4 g5) f0
  ·rcases g4 with g4|⟨q0,g4,g5⟩
   ·exact absurd (h.1.inj k l q r b e1 h2 g3 g4) e2
   ·exact absurd (h.1.inj k m q q0 b e1 g4 g3 g5) e0
  ·exact h.1.inj k k' q q' b e1 f1 g3 g4
 ·by_cases e1:k=m
  ·subst e1;exact absurd hHm Iz
  have e2:k≠l:=by omega
  rw [iX k e1 e2]
  refine h.1.ic k hk λh0=>Iz ?_
  rw [RI k e1 e2,h0];rfl
 ·rcases qh [m] [l] c with e|⟨e,g,g'⟩
  ·exact .inl e
  ·exact .inr ⟨e,λk hk hkm=>g k hk (by simp [hkm]),λk i j hc Rk=>g' k i j hc (by simp [Rk])⟩
 ·by_cases e2:k=l
  ·subst e2;rw [MC,h2];exact ⟨rfl,rfl,rfl⟩
  ·rw [iX k hk e2];exact gp.rfl' _
 ·by_cases e2:k=l
  ·subst e2
   rw [hl] at hb;cases hb
   exact ⟨_,hHl,⟨λ_ n h=>⟨n,by simpa [OB.row] using h,Ao _⟩,λ_ h=>by simpa [OB.gD] using h,λ_ h=>by simpa [OB.vX] using h,(λ_ _ h=>by cases h),(λ_ _ h=>by cases h)⟩⟩
  ·exact ⟨_,by rw [RI k hk e2,hb];rfl,OB.Th.map _ b⟩
 ·by_cases e1:k=m
  ·subst e1;rw [hHm] at hb;cases hb
  by_cases e2:k=l
  ·subst e2
   rw [hHl] at hb;cases hb
   rw [MC]
   have hat: ∀p,(Dw cur.toList (r.o+j) [vx]).toArray[r.o+p]?=if p=j then some vx else cur[r.o+p]?:= λp=>by
    rw [Ip,Im _ _ _ _ Yg]
    by_cases hpj:p=j
    ·subst hpj
     rw [Ak (by omega),Ab (by simp),Ab rfl]
     simp
    ·rw [Ak hpj]
     split
     ·simp
     ·rw [Ak (by simp;omega)];simp
   have RK:=setRow_heap w r.g cur (Dw cur.toList (r.o+j) [vx]).toArray ti _ b2
   refine ⟨⟨.inl b1,_,_,RK,by rw [Hc,Je _ _ _ Yg,Xq];exact b3,b4,by simpa using b5,Rs.set j R,by simpa using b6,λp q hq=>?_,λp p' q q' hq gB he=>?_,λp y hy _=>?_⟩,?_⟩
   ·rw [Eh] at hq
    split at hq
    ·split at hq
     ·have hq:=Bd hq
      exact ⟨.inr ⟨q,hq,(Wk q hq).1⟩,(Wk q hq).2.2⟩
     ·cases hq
    ·exact ⟨.inl (b7 p q hq).1,(b7 p q hq).2⟩
   ·rw [Eh] at hq gB
    split at hq
    ·rename_i hjp
     split at hq
     ·have hq:=Bd hq
      split at gB
      ·rename_i Ast;rw [<-hjp,<-Ast]
      ·exact absurd (h.1.apart hq h2 (Wk q hq).1 (he▸(b7 p' q' gB).1)) iV
     ·cases hq
    ·split at gB
     ·split at gB
      ·have gB:=Bd gB
       exact absurd (h.1.apart gB h2 (Wk q' gB).1 (he▸(b7 p q hq).1)) iV
      ·cases gB
     ·exact b8 p p' q q' hq gB he
   ·rw [Eh] at hy
    split at hy
    ·rename_i hjp
     subst hjp
     have hy:=Bd hy
     subst hy
     exact ⟨vx,R,by rw [hat,Ab rfl],by rw [Eh,Ab rfl,Ab (by omega)],vI,hfa.to (λq hq=>rk _ (Wk q hq).2.2) λes y hc=>mv.cells false e es y hc⟩
    ·rename_i hjp
     obtain ⟨u',R',q1,q2,q3,q4⟩:=b9 p y hy (by rcases ho with ho|ho<;>rw [ho]<;>simp [hjp])
     refine ⟨u',R',by rw [hat,Ak (Gg hjp)];exact q1,by rw [Eh,Ak hjp];exact q2,q3,q4.to (λq hq=>rk _ ?_) λes y hc=>mv.cells false e es y hc⟩
     subst hq
     exact (b7 p q q2).2
   ·cases kp with
    |none=>trivial
    |some p=>
     obtain ⟨l0,n0⟩:=p
     simp only [KeptAt,bV] at tp⊢
     cases UE:X.ic l0 with
     |none=>rw [UE] at tp;exact tp.elim
     |some r0=>
      rw [UE] at tp
      obtain ⟨g1,g2,g3,g4⟩:=tp
      refine ⟨g1,g2,g3,λp hp hc=>?_⟩
      have YC:p<n0/\p<j:=by omega
      rw [<-g4 p YC.1 hc,<-g1,<-g2,cellOf RK,cellOf b2,hat,Ak (by omega)]
  ·rw [RI k e1 e2] at hb
   cases hk:At st.heap k with
   |none=>rw [hk] at hb;cases hb
   |some b1=>
    rw [hk] at hb
    simp only [Am,Aa] at hb;subst hb
    rw [iX k e1 e2]
    exact ((h.1.heap k).Ro hk).move mv tf.size (λr0 c h0 h1=>h.1.sub _ r0 c h0 h1) λr0 c h0 h1 _=>rk c (tq k r0 c h0 h1 e2)
 ·have e2:k≠l:= λe=>by subst e;rw [hHl] at hk;cases hk
  by_cases e1:k=m
  ·subst e1;exact zy
  rw [RI k e1 e2] at hk
  rw [iX k e1 e2]
  cases vH:At st.heap k with
  |none=>exact (h.1.heap k).emp vH
  |some b=>rw [vH] at hk;cases hk
end
end Go.Proofs.YtkkdpknjohcekaaGreat
