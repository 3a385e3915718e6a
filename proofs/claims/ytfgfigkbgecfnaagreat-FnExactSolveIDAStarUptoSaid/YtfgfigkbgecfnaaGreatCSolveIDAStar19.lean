/-
  Part 20 of the proof that the statement FnExactSolveIDAStar holds.
-/
import Derived.Test.YtfgfigkbgecfnaaGreatCSolveIDAStar18
namespace Go.Proofs.YtfgfigkbgecfnaaGreat
open Go.RowKit
section
variable {P:Program} {T:Tab} {X:Ctx} {w w':World} {π π':Pi} {H H':List (Nat×OB)}
theorem rT (dead part:List Nat) (c:AC):Ct dead part c= .undef\/(Ct dead part c=c/\(∀k∈c.refs,k∉dead)/\ ∀k i j,c= .sub k i j\/c= .Kd k i j->k∉part):=by
 by_cases hu:Ct dead part c= .undef
 ·exact .inl hu
 have hr:=ow hu
 have hp: ∀l i j,c= .sub l i j\/c= .Kd l i j->l∉part:=by
  intro l i j e hm
  refine hu ?_
  unfold Ct
  rcases e with rfl|rfl
  all_goals
   split
   ·rfl
   ·simp [hm]
 exact .inr ⟨dx hr hp,hr,hp⟩
theorem Aes {τ:Ty} (h:τ.Aq=false):τ.size=1:=by cases τ<;>simp_all [Ty.Aq,Ty.size]
theorem OJ (hT:Ed P T) {st:St} {a:Act} (h:Bk X π st a w) {t:TypeId} {τ:Ty} (ht:T.ty t=some τ) (Uq:τ.Aq=false) {l j m:Nat} {e:Ty} {te tid:TypeId} {rows:List (List e.den)} {xs:List e.den} {out:Option Nat} {kp:Option (Nat×Nat)} {fr tr:Bool}
  (hl:Au st.heap l=some (.Bp e te rows out kp)) (ho:out=none\/out=some j) (lG:m≠l) (hm:Au st.heap m=some (.arr fr tr e tid xs)) (vG:l<Bn)
  {vp vx:Value} (hp:Hk X w π st.heap (.Kh l j) vp) (hx:Hk X w π st.heap (.own m 0 (List.length xs)) vx):
  ∃w' π',(Instr.storeAt t vp vx).run P w= .ok () w'/\Bk X π' (Uo st l j m e te rows xs (cI j kp)) a w':=by
 have bm:τ.size=1:=Aes Uq
 obtain ⟨r,b0,sz,n,h1,h0,h3,h2,rfl⟩:=hp
 rw [hl] at h1;cases h1
 simp only [OB.row,Aa,Ae] at h0
 obtain ⟨rfl,rfl⟩:=h0
 rw [Gd]
 obtain ⟨_,xC⟩:=Oy (X:=X) (w:=w) hx hm
 obtain ⟨ax,nx,cx,hvx⟩:=bJ xC
 have hb:=(h.1.heap l).Qs hl
 simp only [Cm] at hb
 obtain ⟨hb,vF⟩:=hb
 rw [h2] at hb vF
 obtain ⟨b1,cur,ti,b2,b3,b4,b5,Rs,b6,b7,b8,b9⟩:=hb
 have OA:=(h.1.heap m).Qs hm
 simp only [Cm,Ke] at OA
 have Vl:=Xl (P:=P) (w:=w) (hT.ty _ _ ht) r.g (r.o+j) vx [vx] (by rw [hvx];rfl) (by rw [bm];rfl) (by intro u hu;rw [Ad.1 hu,hvx];rfl) cur ti b2 (by simp;omega)
 let R:Option Real:=π m
 have hfa:Ts w (Dd X.w0.heap.size X.Sc π false) R e xs:=by
  show Ts w _ (π m) e xs
  cases hR:π m with
  |none=>rw [hR] at OA;exact OA
  |some q=>
   rw [hR] at OA
   obtain ⟨⟨f0,f0',_⟩,cu,ti',f2,f3,f4,f5,f6,_⟩:=OA
   exact ⟨⟨f0,f0'⟩,cu,ti',f2,f3,f4,f5,λp y hy=>by
    obtain ⟨es,g1,g2,g3⟩:=f6 p y hy
    exact ⟨es,g1,g2,Cells.Fg (Ao _) (λ_ _ _=>rfl) (λb _ hA=>hA.imp id (Or.imp id λ⟨h1,_⟩=>by cases h1)) e es y g3⟩⟩
 have hRq: ∀q,R=some q->π m=some q:= λq hq=>hq
 have Wy: ∀q,R=some q->q.Cx q.g/\q.cl q.g/\q.g≠r.g:= λq hq=>⟨h.1.Cx hq,h.1.sub m q _ hq (h.1.Cx hq),λe0=>lG (h.1.apart hq h2 (h.1.Cx hq) (e0▸b1))⟩
 let rl:Real:= {r with Cx:= λb=>r.Cx b\/ ∃q,R=some q/\q.Cx b,cl:= λb=>r.cl b\/ ∃q,R=some q/\q.cl b}
 let π':Pi:= λk=>if k=m then none else if k=l then some rl else π k
 have CL:π' m=none:=Ab rfl
 have QE:π' l=some rl:=(Ag (Gl lG)).trans (Ab rfl)
 have jG: ∀k,k≠m->k≠l->π' k=π k:= λk g1 g2=>(Ag g1).trans (Ag g2)
 have xA: ∀k q,π' k=some q->(k=l/\q=rl)\/(k≠m/\k≠l/\π k=some q):= λk q hq=>by
  by_cases e1:k=m
  ·subst e1;rw [CL] at hq;cases hq
  ·by_cases e2:k=l
   ·subst e2;rw [QE] at hq;exact .inl ⟨rfl,(Ba hq).symm⟩
   ·rw [jG k e1 e2] at hq;exact .inr ⟨e1,e2,hq⟩
 have Yw:r.o+j+ [vx].length<=cur.toList.length:=by simp;omega
 have vA:=Nw w r.g (Ea cur.toList (r.o+j) [vx]).toArray
 have sZ: ∀c,c≠r.g->(w.setRow r.g (Ea cur.toList (r.o+j) [vx]).toArray).heap[c]?=w.heap[c]?:= λc hc=>setRow_other w r.g c _ hc
 have Amn: ∀k,Au (Uo st l j m e te rows xs (cI j kp)).heap k=Au (aY (Yp (st.heap.map λp=>(p.1,p.2.map (Ct [m] [l]))) [m]) l (.Bp e te (rows.set j xs) none (cI j kp))) k:= λk=>rfl
 have l6:Au (Yp (st.heap.map λp=>(p.1,p.2.map (Ct [m] [l]))) [m]) l=some (.Bp e te rows out kp):=by
  rw [Ny,Pg,Ag (by simpa using Gl lG),hl];rfl
 have hHl:Au (Uo st l j m e te rows xs (cI j kp)).heap l=some (.Bp e te (rows.set j xs) none (cI j kp)):=(Amn l).trans (Ew _ _ _ _ l6)
 have VA: ∀k,k≠m->k≠l->Au (Uo st l j m e te rows xs (cI j kp)).heap k=(Au st.heap k).map (OB.map (Ct [m] [l])):= λk g1 g2=>by
  rw [Amn,Ee _ _ _ _ g2,Ny,Pg,Ag (by simpa using g1)]
 have hHm:Au (Uo st l j m e te rows xs (cI j kp)).heap m=none:=by
  rw [Amn,Ee _ _ _ _ lG,Ny,Ab (by simp)]
 have Avj:r.cl r.g:=h.1.sub l r _ h2 b1
 have vH: ∀k r0 c,π k=some r0->r0.cl c->k≠l->c≠r.g:= λk r0 c hk hc Ih e=>Ih (h.1.inj k l r0 r c hk h2 hc (e▸Avj))
 refine ⟨_,π',by simp only [Instr.storeAt,Instr.sureAddr];simpa using Vl,?_⟩
 have Uk:Uo st l j m e te rows xs (cI j kp)= {tmps:=st.tmps.map (·.map (Ct [m] [l])),heap:=(Uo st l j m e te rows xs (cI j kp)).heap} :=rfl
 rw [Uk]
 refine h.pd (by simp [Ct,AC.refs]) (gv:= λc=>c=r.g) (λc hc=>hc▸⟨l,r,h2,b1⟩) ⟨vA.os,vA.tape,vA.output,vA.size,λc _ hc=>sZ c hc⟩ (λb _ ⟨k,q,g1,g2⟩=>?_) (λk q b g1 g2=>?_) (λk q b g1 g2=>?_) (λk k' q q' b g1 g2 g3 g4=>?_) (λk hk Ih=>?_)
  (λhc=>pc (D:= λk=>k=m) (Pt:= λk=>k=l) (λc=>?_) (λk hk=>?_) (λk b hk hb=>?_) (λk r0 b hk hk2 g1 g2 g3=>sZ _ (vH k r0 _ g3 (h.1.sub k r0 _ g3 (h.1.Cx g3)) hk2)) hc) (λmv k b hb=>?_) (λk hk=>?_)
 ·rcases xA k q g1 with ⟨_,rfl⟩|⟨_,_,e1⟩
  ·rcases g2 with g2|⟨q0,g2,g3⟩
   ·exact ⟨l,r,h2,g2⟩
   ·exact ⟨m,q0,g2,g3⟩
  ·exact ⟨k,q,e1,g2⟩
 ·rcases xA k q g1 with ⟨_,rfl⟩|⟨_,_,e1⟩
  ·rcases g2 with g2|⟨q0,g2,g3⟩
   ·exact .inl (h.1.sub l r b h2 g2)
   ·exact .inr ⟨q0,g2,h.1.sub m q0 b g2 g3⟩
  ·exact h.1.sub k q b e1 g2
 ·have up: ∀k q b,π k=some q->q.cl b->(X.w0.heap.size<=b\/X.gv b)/\b<(w.setRow r.g (Ea cur.toList (r.o+j) [vx]).toArray).heap.size:= λk q b e1 e2=>⟨(h.1.place k q b e1 e2).1,Dk (h.1.place k q b e1 e2).2 vA.size⟩
  rcases xA k q g1 with ⟨_,rfl⟩|⟨_,_,e1⟩
  ·rcases g2 with g2|⟨q0,g2,g3⟩
   ·exact up l r b h2 g2
   ·exact up m q0 b g2 g3
  ·exact up k q b e1 g2
 ·rcases xA k q g1 with ⟨e0,rfl⟩|⟨e0,e2,e1⟩<;>rcases xA k' q' g2 with ⟨f0,rfl⟩|⟨f0,f2,f1⟩
  ·rw [e0,f0]
  ·rcases g3 with g3|⟨q0,g3,g5⟩
   ·exact absurd (h.1.inj k' l q' r b f1 h2 g4 g3) f2
   ·exact absurd (h.1.inj k' m q' q0 b f1 g3 g4 g5) f0
  ·rcases g4 with g4|⟨q0,g4,g5⟩
   ·exact absurd (h.1.inj k l q r b e1 h2 g3 g4) e2
   ·exact absurd (h.1.inj k m q q0 b e1 g4 g3 g5) e0
  ·exact h.1.inj k k' q q' b e1 f1 g3 g4
 ·by_cases e1:k=m
  ·subst e1;exact absurd hHm Ih
  have e2:k≠l:=by omega
  rw [jG k e1 e2]
  refine h.1.iY k hk λh0=>Ih ?_
  rw [VA k e1 e2,h0];rfl
 ·rcases rT [m] [l] c with e|⟨e,g,g'⟩
  ·exact .inl e
  ·exact .inr ⟨e,λk hk hkm=>g k hk (by simp [hkm]),λk i j hc Rz=>g' k i j hc (by simp [Rz])⟩
 ·by_cases e2:k=l
  ·subst e2;rw [QE,h2];exact ⟨rfl,rfl,rfl⟩
  ·rw [jG k hk e2];exact ib.rfl' _
 ·by_cases e2:k=l
  ·subst e2
   rw [hl] at hb;cases hb
   exact ⟨_,hHl,⟨λ_ n h=>⟨n,by simpa [OB.row] using h,Ao _⟩,λ_ h=>by simpa [OB.iu] using h,λ_ h=>by simpa [OB.xO] using h,(λ_ _ h=>by cases h),(λ_ _ h=>by cases h)⟩⟩
  ·exact ⟨_,by rw [VA k hk e2,hb];rfl,OB.Ub.map _ b⟩
 ·by_cases e1:k=m
  ·subst e1;rw [hHm] at hb;cases hb
  by_cases e2:k=l
  ·subst e2
   rw [hHl] at hb;cases hb
   rw [QE]
   have hat: ∀p,(Ea cur.toList (r.o+j) [vx]).toArray[r.o+p]?=if p=j then some vx else cur[r.o+p]?:= λp=>by
    rw [Im,Ik _ _ _ _ Yw]
    by_cases hpj:p=j
    ·subst hpj
     rw [Ag (by omega),Ab (by simp),Ab rfl]
     simp
    ·rw [Ag hpj]
     split
     ·simp
     ·rw [Ag (by simp;omega)];simp
   have VC:=setRow_heap w r.g cur (Ea cur.toList (r.o+j) [vx]).toArray ti _ b2
   refine ⟨⟨.inl b1,_,_,VC,by rw [Gw,Jb _ _ _ Yw,Nt];exact b3,b4,by simpa using b5,Rs.set j R,by simpa using b6,λp q hq=>?_,λp p' q q' hq lI he=>?_,λp y hy _=>?_⟩,?_⟩
   ·rw [Fo] at hq
    split at hq
    ·split at hq
     ·have hq:=Ba hq
      exact ⟨.inr ⟨q,hq,(Wy q hq).1⟩,(Wy q hq).2.2⟩
     ·cases hq
    ·exact ⟨.inl (b7 p q hq).1,(b7 p q hq).2⟩
   ·rw [Fo] at hq lI
    split at hq
    ·rename_i hjp
     split at hq
     ·have hq:=Ba hq
      split at lI
      ·rename_i Aw0;rw [<-hjp,<-Aw0]
      ·exact absurd (h.1.apart hq h2 (Wy q hq).1 (he▸(b7 p' q' lI).1)) lG
     ·cases hq
    ·split at lI
     ·split at lI
      ·have lI:=Ba lI
       exact absurd (h.1.apart lI h2 (Wy q' lI).1 (he▸(b7 p q hq).1)) lG
      ·cases lI
     ·exact b8 p p' q q' hq lI he
   ·rw [Fo] at hy
    split at hy
    ·rename_i hjp
     subst hjp
     have hy:=Ba hy
     subst hy
     exact ⟨vx,R,by rw [hat,Ab rfl],by rw [Fo,Ab rfl,Ab (by omega)],xC,hfa.to (λq hq=>sZ _ (Wy q hq).2.2) λes y hc=>mv.cells false e es y hc⟩
    ·rename_i hjp
     obtain ⟨u',R',q1,q2,q3,q4⟩:=b9 p y hy (by rcases ho with ho|ho<;>rw [ho]<;>simp [hjp])
     refine ⟨u',R',by rw [hat,Ag (Gl hjp)];exact q1,by rw [Fo,Ag hjp];exact q2,q3,q4.to (λq hq=>sZ _ ?_) λes y hc=>mv.cells false e es y hc⟩
     subst hq
     exact (b7 p q q2).2
   ·cases kp with
    |none=>trivial
    |some p=>
     obtain ⟨l0,n0⟩:=p
     simp only [KeptAt,cI] at vF⊢
     cases XV:X.iY l0 with
     |none=>rw [XV] at vF;exact vF.elim
     |some r0=>
      rw [XV] at vF
      obtain ⟨g1,g2,g3,g4⟩:=vF
      refine ⟨g1,g2,g3,λp hp hc=>?_⟩
      have hkj:p<n0/\p<j:=by omega
      rw [<-g4 p hkj.1 hc,<-g1,<-g2,cellOf VC,cellOf b2,hat,Ag (by omega)]
  ·rw [VA k e1 e2] at hb
   cases hk:Au st.heap k with
   |none=>rw [hk] at hb;cases hb
   |some b1=>
    rw [hk] at hb
    simp only [Am,Aa] at hb;subst hb
    rw [jG k e1 e2]
    exact ((h.1.heap k).Qs hk).move mv vA.size (λr0 c h0 h1=>h.1.sub _ r0 c h0 h1) λr0 c h0 h1 _=>sZ c (vH k r0 c h0 h1 e2)
 ·have e2:k≠l:= λe=>by subst e;rw [hHl] at hk;cases hk
  by_cases e1:k=m
  ·subst e1;exact CL
  rw [VA k e1 e2] at hk
  rw [jG k e1 e2]
  cases vD:Au st.heap k with
  |none=>exact (h.1.heap k).emp vD
  |some b=>rw [vD] at hk;cases hk
end
end Go.Proofs.YtfgfigkbgecfnaaGreat
