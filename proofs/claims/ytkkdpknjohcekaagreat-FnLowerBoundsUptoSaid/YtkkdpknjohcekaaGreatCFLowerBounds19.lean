/-
  Part 20 of the proof that the statement FnLowerBounds holds.
-/
import Derived.Test.YtkkdpknjohcekaaGreatCFLowerBounds18
namespace Go.Proofs.YtkkdpknjohcekaaGreat
open Go.RowKit
section
variable {P:Program} {T:Tab} {X:Ctx} {w w':World} {π π':Pi} {H H':List (Nat×OB)}
theorem qb (dead part:List Nat) (c:AC):Cm dead part c= .undef\/(Cm dead part c=c/\(∀k∈c.refs,k∉dead)/\ ∀k i j,c= .sub k i j\/c= .Ks k i j->k∉part):=by
 by_cases hu:Cm dead part c= .undef
 ·exact .inl hu
 have hr:=ny hu
 have hp: ∀l i j,c= .sub l i j\/c= .Ks l i j->l∉part:=by
  intro l i j e hm
  refine hu ?_
  unfold Cm
  rcases e with rfl|rfl
  all_goals
   split
   ·rfl
   ·simp [hm]
 exact .inr ⟨cQ hr hp,hr,hp⟩
theorem Aa3 {τ:Ty} (h:τ.Ao=false):τ.size=1:=by cases τ<;>simp_all [Ty.Ao,Ty.size]
theorem II (hT:Eg P T) {st:St} {a:Act} (h:Bh X π st a w) {t:TypeId} {τ:Ty} (ht:T.ty t=some τ) (Uv:τ.Ao=false) {l j m:Nat} {e:Ty} {te tid:TypeId} {rows:List (List e.den)} {xs:List e.den} {out:Option Nat} {kp:Option (Nat×Nat)} {fr tr:Bool}
  (hl:At st.heap l=some (.Bp e te rows out kp)) (ho:out=none\/out=some j) (iV:m≠l) (hm:At st.heap m=some (.arr fr tr e tid xs)) (r9:l<Bk)
  {vp vx:Value} (hp:Ia X w π st.heap (.Kw l j) vp) (hx:Ia X w π st.heap (.own m 0 (List.length xs)) vx):
  ∃w' π',(Instr.storeAt t vp vx).run P w= .ok () w'/\Bh X π' (Us st l j m e te rows xs (ca j kp)) a w':=by
 have aM:τ.size=1:=Aa3 Uv
 obtain ⟨r,b0,sz,n,h1,h0,h3,h2,rfl⟩:=hp
 rw [hl] at h1;cases h1
 simp only [OB.row,Aa,Ae] at h0
 obtain ⟨rfl,rfl⟩:=h0
 rw [Fm]
 obtain ⟨_,vg⟩:=Pg (X:=X) (w:=w) hx hm
 obtain ⟨ax,nx,cx,hvx⟩:=bg vg
 have hb:=(h.1.heap l).Sn hl
 simp only [Cg] at hb
 obtain ⟨hb,sZ⟩:=hb
 rw [h2] at hb sZ
 obtain ⟨b1,cur,ti,b2,b3,b4,b5,Rs,b6,b7,b8,b9⟩:=hb
 have IA:=(h.1.heap m).Sn hm
 simp only [Cg,Kt] at IA
 have Wk:=Xi (P:=P) (w:=w) (hT.ty _ _ ht) r.g (r.o+j) vx [vx] (by rw [hvx];rfl) (by rw [aM];rfl) (by intro u hu;rw [Ad.1 hu,hvx];rfl) cur ti b2 (by simp;omega)
 let R:Option Real:=π m
 have hfa:Ub w (Cx X.w0.heap.size X.Sc π false) R e xs:=by
  show Ub w _ (π m) e xs
  cases hR:π m with
  |none=>rw [hR] at IA;exact IA
  |some q=>
   rw [hR] at IA
   obtain ⟨⟨f0,f0',_⟩,cu,ti',f2,f3,f4,f5,f6,_⟩:=IA
   exact ⟨⟨f0,f0'⟩,cu,ti',f2,f3,f4,f5,λp y hy=>by
    obtain ⟨es,g1,g2,g3⟩:=f6 p y hy
    exact ⟨es,g1,g2,Cells.Fw (Ap _) (λ_ _ _=>rfl) (λb _ hA=>hA.imp id (Or.imp id λ⟨h1,_⟩=>by cases h1)) e es y g3⟩⟩
 have hRq: ∀q,R=some q->π m=some q:= λq hq=>hq
 have Wz: ∀q,R=some q->q.Cq q.g/\q.cl q.g/\q.g≠r.g:= λq hq=>⟨h.1.Cq hq,h.1.sub m q _ hq (h.1.Cq hq),λe0=>iV (h.1.apart hq h2 (h.1.Cq hq) (e0▸b1))⟩
 let rl:Real:= {r with Cq:= λb=>r.Cq b\/ ∃q,R=some q/\q.Cq b,cl:= λb=>r.cl b\/ ∃q,R=some q/\q.cl b}
 let π':Pi:= λk=>if k=m then none else if k=l then some rl else π k
 have yT:π' m=none:=Ab rfl
 have KB:π' l=some rl:=(Aj (Hm iV)).trans (Ab rfl)
 have iX: ∀k,k≠m->k≠l->π' k=π k:= λk g1 g2=>(Aj g1).trans (Aj g2)
 have uZ: ∀k q,π' k=some q->(k=l/\q=rl)\/(k≠m/\k≠l/\π k=some q):= λk q hq=>by
  by_cases e1:k=m
  ·subst e1;rw [yT] at hq;cases hq
  ·by_cases e2:k=l
   ·subst e2;rw [KB] at hq;exact .inl ⟨rfl,(Bc hq).symm⟩
   ·rw [iX k e1 e2] at hq;exact .inr ⟨e1,e2,hq⟩
 have Yv:r.o+j+ [vx].length<=cur.toList.length:=by simp;omega
 have sV:=Oc w r.g (Dy cur.toList (r.o+j) [vx]).toArray
 have rf: ∀c,c≠r.g->(w.setRow r.g (Dy cur.toList (r.o+j) [vx]).toArray).heap[c]?=w.heap[c]?:= λc hc=>setRow_other w r.g c _ hc
 have Ahg: ∀k,At (Us st l j m e te rows xs (ca j kp)).heap k=At (aF (Yn (st.heap.map λp=>(p.1,p.2.map (Cm [m] [l]))) [m]) l (.Bp e te (rows.set j xs) none (ca j kp))) k:= λk=>rfl
 have rU:At (Yn (st.heap.map λp=>(p.1,p.2.map (Cm [m] [l]))) [m]) l=some (.Bp e te rows out kp):=by
  rw [Oe,Ps,Aj (by simpa using Hm iV),hl];rfl
 have hHl:At (Us st l j m e te rows xs (ca j kp)).heap l=some (.Bp e te (rows.set j xs) none (ca j kp)):=(Ahg l).trans (Ew _ _ _ _ rU)
 have OV: ∀k,k≠m->k≠l->At (Us st l j m e te rows xs (ca j kp)).heap k=(At st.heap k).map (OB.map (Cm [m] [l])):= λk g1 g2=>by
  rw [Ahg,Ed _ _ _ _ g2,Oe,Ps,Aj (by simpa using g1)]
 have hHm:At (Us st l j m e te rows xs (ca j kp)).heap m=none:=by
  rw [Ahg,Ed _ _ _ _ iV,Oe,Ab (by simp)]
 have Aqe:r.cl r.g:=h.1.sub l r _ h2 b1
 have ta: ∀k r0 c,π k=some r0->r0.cl c->k≠l->c≠r.g:= λk r0 c hk hc Jd e=>Jd (h.1.inj k l r0 r c hk h2 hc (e▸Aqe))
 refine ⟨_,π',by simp only [Instr.storeAt,Instr.sureAddr];simpa using Wk,?_⟩
 have Si:Us st l j m e te rows xs (ca j kp)= {tmps:=st.tmps.map (·.map (Cm [m] [l])),heap:=(Us st l j m e te rows xs (ca j kp)).heap} :=rfl
 rw [Si]
 refine h.o3 (by simp [Cm,AC.refs]) (gv:= λc=>c=r.g) (λc hc=>hc▸⟨l,r,h2,b1⟩) ⟨sV.os,sV.tape,sV.output,sV.size,λc _ hc=>rf c hc⟩ (λb _ ⟨k,q,g1,g2⟩=>?_) (λk q b g1 g2=>?_) (λk q b g1 g2=>?_) (λk k' q q' b g1 g2 g3 g4=>?_) (λk hk Jd=>?_)
  (λhc=>o1 (D:= λk=>k=m) (Pt:= λk=>k=l) (λc=>?_) (λk hk=>?_) (λk b hk hb=>?_) (λk r0 b hk hk2 g1 g2 g3=>rf _ (ta k r0 _ g3 (h.1.sub k r0 _ g3 (h.1.Cq g3)) hk2)) hc) (λmv k b hb=>?_) (λk hk=>?_)
 ·rcases uZ k q g1 with ⟨_,rfl⟩|⟨_,_,e1⟩
  ·rcases g2 with g2|⟨q0,g2,g3⟩
   ·exact ⟨l,r,h2,g2⟩
   ·exact ⟨m,q0,g2,g3⟩
  ·exact ⟨k,q,e1,g2⟩
 ·rcases uZ k q g1 with ⟨_,rfl⟩|⟨_,_,e1⟩
  ·rcases g2 with g2|⟨q0,g2,g3⟩
   ·exact .inl (h.1.sub l r b h2 g2)
   ·exact .inr ⟨q0,g2,h.1.sub m q0 b g2 g3⟩
  ·exact h.1.sub k q b e1 g2
 ·have up: ∀k q b,π k=some q->q.cl b->(X.w0.heap.size<=b\/X.gv b)/\b<(w.setRow r.g (Dy cur.toList (r.o+j) [vx]).toArray).heap.size:= λk q b e1 e2=>⟨(h.1.place k q b e1 e2).1,Ei (h.1.place k q b e1 e2).2 sV.size⟩
  rcases uZ k q g1 with ⟨_,rfl⟩|⟨_,_,e1⟩
  ·rcases g2 with g2|⟨q0,g2,g3⟩
   ·exact up l r b h2 g2
   ·exact up m q0 b g2 g3
  ·exact up k q b e1 g2
 ·rcases uZ k q g1 with ⟨e0,rfl⟩|⟨e0,e2,e1⟩<;>rcases uZ k' q' g2 with ⟨f0,rfl⟩|⟨f0,f2,f1⟩
  ·rw [e0,f0]
  ·rcases g3 with g3|⟨q0,g3,g5⟩
   ·exact absurd (h.1.inj k' l q' r b f1 h2 g4 g3) f2
   ·exact absurd (h.1.inj k' m q' q0 b f1 g3 g4 g5) f0
  ·rcases g4 with g4|⟨q0,g4,g5⟩
   ·exact absurd (h.1.inj k l q r b e1 h2 g3 g4) e2
   ·exact absurd (h.1.inj k m q q0 b e1 g4 g3 g5) e0
  ·exact h.1.inj k k' q q' b e1 f1 g3 g4
 ·by_cases e1:k=m
  ·subst e1;exact absurd hHm Jd
  have e2:k≠l:=by omega
  rw [iX k e1 e2]
  refine h.1.ic k hk λh0=>Jd ?_
  rw [OV k e1 e2,h0];rfl
 ·rcases qb [m] [l] c with e|⟨e,g,g'⟩
  ·exact .inl e
  ·exact .inr ⟨e,λk hk hkm=>g k hk (by simp [hkm]),λk i j hc To=>g' k i j hc (by simp [To])⟩
 ·by_cases e2:k=l
  ·subst e2;rw [KB,h2];exact ⟨rfl,rfl,rfl⟩
  ·rw [iX k hk e2];exact gq.rfl' _
 ·by_cases e2:k=l
  ·subst e2
   rw [hl] at hb;cases hb
   exact ⟨_,hHl,⟨λ_ n h=>⟨n,by simpa [OB.row] using h,Ap _⟩,λ_ h=>by simpa [OB.gB] using h,λ_ h=>by simpa [OB.vB] using h,(λ_ _ h=>by cases h),(λ_ _ h=>by cases h)⟩⟩
  ·exact ⟨_,by rw [OV k hk e2,hb];rfl,OB.Ui.map _ b⟩
 ·by_cases e1:k=m
  ·subst e1;rw [hHm] at hb;cases hb
  by_cases e2:k=l
  ·subst e2
   rw [hHl] at hb;cases hb
   rw [KB]
   have hat: ∀p,(Dy cur.toList (r.o+j) [vx]).toArray[r.o+p]?=if p=j then some vx else cur[r.o+p]?:= λp=>by
    rw [Iw,Iv _ _ _ _ Yv]
    by_cases hpj:p=j
    ·subst hpj
     rw [Aj (by omega),Ab (by simp),Ab rfl]
     simp
    ·rw [Aj hpj]
     split
     ·simp
     ·rw [Aj (by simp;omega)];simp
   have OX:=setRow_heap w r.g cur (Dy cur.toList (r.o+j) [vx]).toArray ti _ b2
   refine ⟨⟨.inl b1,_,_,OX,by rw [Hg,Jm _ _ _ Yv,Yf];exact b3,b4,by simpa using b5,Rs.set j R,by simpa using b6,λp q hq=>?_,λp p' q q' hq jW he=>?_,λp y hy _=>?_⟩,?_⟩
   ·rw [Ej] at hq
    split at hq
    ·split at hq
     ·have hq:=Bc hq
      exact ⟨.inr ⟨q,hq,(Wz q hq).1⟩,(Wz q hq).2.2⟩
     ·cases hq
    ·exact ⟨.inl (b7 p q hq).1,(b7 p q hq).2⟩
   ·rw [Ej] at hq jW
    split at hq
    ·rename_i hjp
     split at hq
     ·have hq:=Bc hq
      split at jW
      ·rename_i Aqw;rw [<-hjp,<-Aqw]
      ·exact absurd (h.1.apart hq h2 (Wz q hq).1 (he▸(b7 p' q' jW).1)) iV
     ·cases hq
    ·split at jW
     ·split at jW
      ·have jW:=Bc jW
       exact absurd (h.1.apart jW h2 (Wz q' jW).1 (he▸(b7 p q hq).1)) iV
      ·cases jW
     ·exact b8 p p' q q' hq jW he
   ·rw [Ej] at hy
    split at hy
    ·rename_i hjp
     subst hjp
     have hy:=Bc hy
     subst hy
     exact ⟨vx,R,by rw [hat,Ab rfl],by rw [Ej,Ab rfl,Ab (by omega)],vg,hfa.to (λq hq=>rf _ (Wz q hq).2.2) λes y hc=>mv.cells false e es y hc⟩
    ·rename_i hjp
     obtain ⟨u',R',q1,q2,q3,q4⟩:=b9 p y hy (by rcases ho with ho|ho<;>rw [ho]<;>simp [hjp])
     refine ⟨u',R',by rw [hat,Aj (Hm hjp)];exact q1,by rw [Ej,Aj hjp];exact q2,q3,q4.to (λq hq=>rf _ ?_) λes y hc=>mv.cells false e es y hc⟩
     subst hq
     exact (b7 p q q2).2
   ·cases kp with
    |none=>trivial
    |some p=>
     obtain ⟨l0,n0⟩:=p
     simp only [KeptAt,ca] at sZ⊢
     cases RU:X.ic l0 with
     |none=>rw [RU] at sZ;exact sZ.elim
     |some r0=>
      rw [RU] at sZ
      obtain ⟨g1,g2,g3,g4⟩:=sZ
      refine ⟨g1,g2,g3,λp hp hc=>?_⟩
      have VM:p<n0/\p<j:=by omega
      rw [<-g4 p VM.1 hc,<-g1,<-g2,cellOf OX,cellOf b2,hat,Aj (by omega)]
  ·rw [OV k e1 e2] at hb
   cases hk:At st.heap k with
   |none=>rw [hk] at hb;cases hb
   |some b1=>
    rw [hk] at hb
    simp only [Al,Aa] at hb;subst hb
    rw [iX k e1 e2]
    exact ((h.1.heap k).Sn hk).move mv sV.size (λr0 c h0 h1=>h.1.sub _ r0 c h0 h1) λr0 c h0 h1 _=>rf c (ta k r0 c h0 h1 e2)
 ·have e2:k≠l:= λe=>by subst e;rw [hHl] at hk;cases hk
  by_cases e1:k=m
  ·subst e1;exact yT
  rw [OV k e1 e2] at hk
  rw [iX k e1 e2]
  cases vf:At st.heap k with
  |none=>exact (h.1.heap k).emp vf
  |some b=>rw [vf] at hk;cases hk
end
end Go.Proofs.YtkkdpknjohcekaaGreat
