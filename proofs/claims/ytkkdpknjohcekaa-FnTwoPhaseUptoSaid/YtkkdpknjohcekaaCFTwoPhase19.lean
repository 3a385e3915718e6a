/-
  Part 20 of the proof that the statement FnTwoPhase holds.
-/
import Derived.Test.YtkkdpknjohcekaaCFTwoPhase18
namespace Go.Proofs.Ytkkdpknjohcekaa
open Go.RowKit
section
variable {P:Program} {T:Tab} {X:Ctx} {w w':World} {π π':Pi} {H H':List (Nat×OB)}
theorem qp (dead part:List Nat) (c:AC):Cx dead part c= .undef\/(Cx dead part c=c/\(∀k∈c.refs,k∉dead)/\ ∀k i j,c= .sub k i j\/c= .Km k i j->k∉part):=by
 by_cases hu:Cx dead part c= .undef
 ·exact .inl hu
 have hr:=nO hu
 have hp: ∀l i j,c= .sub l i j\/c= .Km l i j->l∉part:=by
  intro l i j e hm
  refine hu ?_
  unfold Cx
  rcases e with rfl|rfl
  all_goals
   split
   ·rfl
   ·simp [hm]
 exact .inr ⟨cK hr hp,hr,hp⟩
theorem Abw {τ:Ty} (h:τ.Ar=false):τ.size=1:=by cases τ<;>simp_all [Ty.Ar,Ty.size]
theorem KE (hT:Eh P T) {st:St} {a:Act} (h:Bm X π st a w) {t:TypeId} {τ:Ty} (ht:T.ty t=some τ) (Ue:τ.Ar=false) {l j m:Nat} {e:Ty} {te tid:TypeId} {rows:List (List e.den)} {xs:List e.den} {out:Option Nat} {kp:Option (Nat×Nat)} {fr tr:Bool}
  (hl:Ay st.heap l=some (.Bu e te rows out kp)) (ho:out=none\/out=some j) (j0:m≠l) (hm:Ay st.heap m=some (.arr fr tr e tid xs)) (rF:l<Bq)
  {vp vx:Value} (hp:Hu X w π st.heap (.Kp l j) vp) (hx:Hu X w π st.heap (.own m 0 (List.length xs)) vx):
  ∃w' π',(Instr.storeAt t vp vx).run P w= .ok () w'/\Bm X π' (Ub st l j m e te rows xs (c7 j kp)) a w':=by
 have Uo:τ.size=1:=Abw Ue
 obtain ⟨r,b0,sz,n,h1,h0,h3,h2,rfl⟩:=hp
 rw [hl] at h1;cases h1
 simp only [OB.row,Aa,Ag] at h0
 obtain ⟨rfl,rfl⟩:=h0
 rw [Fw]
 obtain ⟨_,vI⟩:=Pd (X:=X) (w:=w) hx hm
 obtain ⟨ax,nx,cx,hvx⟩:=bb vI
 have hb:=(h.1.heap l).Ru hl
 simp only [Co] at hb
 obtain ⟨hb,tz⟩:=hb
 rw [h2] at hb tz
 obtain ⟨b1,cur,ti,b2,b3,b4,b5,Rs,b6,b7,b8,b9⟩:=hb
 have JR:=(h.1.heap m).Ru hm
 simp only [Co,Kn] at JR
 have Vz:=Wz (P:=P) (w:=w) (hT.ty _ _ ht) r.g (r.o+j) vx [vx] (by rw [hvx];rfl) (by rw [Uo];rfl) (by intro u hu;rw [Af.1 hu,hvx];rfl) cur ti b2 (by simp;omega)
 let R:Option Real:=π m
 have hfa:Ti w (Df X.w0.heap.size X.Sc π false) R e xs:=by
  show Ti w _ (π m) e xs
  cases hR:π m with
  |none=>rw [hR] at JR;exact JR
  |some q=>
   rw [hR] at JR
   obtain ⟨⟨f0,f0',_⟩,cu,ti',f2,f3,f4,f5,f6,_⟩:=JR
   exact ⟨⟨f0,f0'⟩,cu,ti',f2,f3,f4,f5,λp y hy=>by
    obtain ⟨es,g1,g2,g3⟩:=f6 p y hy
    exact ⟨es,g1,g2,Cells.Fz (Aq _) (λ_ _ _=>rfl) (λb _ hA=>hA.imp id (Or.imp id λ⟨h1,_⟩=>by cases h1)) e es y g3⟩⟩
 have hRq: ∀q,R=some q->π m=some q:= λq hq=>hq
 have Wq: ∀q,R=some q->q.Da q.g/\q.cl q.g/\q.g≠r.g:= λq hq=>⟨h.1.Da hq,h.1.sub m q _ hq (h.1.Da hq),λe0=>j0 (h.1.apart hq h2 (h.1.Da hq) (e0▸b1))⟩
 let rl:Real:= {r with Da:= λb=>r.Da b\/ ∃q,R=some q/\q.Da b,cl:= λb=>r.cl b\/ ∃q,R=some q/\q.cl b}
 let π':Pi:= λk=>if k=m then none else if k=l then some rl else π k
 have zt:π' m=none:=Ab rfl
 have MA:π' l=some rl:=(Ai (Gv j0)).trans (Ab rfl)
 have j6: ∀k,k≠m->k≠l->π' k=π k:= λk g1 g2=>(Ai g1).trans (Ai g2)
 have vH: ∀k q,π' k=some q->(k=l/\q=rl)\/(k≠m/\k≠l/\π k=some q):= λk q hq=>by
  by_cases e1:k=m
  ·subst e1;rw [zt] at hq;cases hq
  ·by_cases e2:k=l
   ·subst e2;rw [MA] at hq;exact .inl ⟨rfl,(Bd hq).symm⟩
   ·rw [j6 k e1 e2] at hq;exact .inr ⟨e1,e2,hq⟩
 have Yj:r.o+j+ [vx].length<=cur.toList.length:=by simp;omega
 have tt:=Nz w r.g (Dw cur.toList (r.o+j) [vx]).toArray
 have rJ: ∀c,c≠r.g->(w.setRow r.g (Dw cur.toList (r.o+j) [vx]).toArray).heap[c]?=w.heap[c]?:= λc hc=>setRow_other w r.g c _ hc
 have LY: ∀k,Ay (Ub st l j m e te rows xs (c7 j kp)).heap k=Ay (az (Yc (st.heap.map λp=>(p.1,p.2.map (Cx [m] [l]))) [m]) l (.Bu e te (rows.set j xs) none (c7 j kp))) k:= λk=>rfl
 have LS:Ay (Yc (st.heap.map λp=>(p.1,p.2.map (Cx [m] [l]))) [m]) l=some (.Bu e te rows out kp):=by
  rw [Oc,Pk,Ai (by simpa using Gv j0),hl];rfl
 have hHl:Ay (Ub st l j m e te rows xs (c7 j kp)).heap l=some (.Bu e te (rows.set j xs) none (c7 j kp)):=(LY l).trans (Fk _ _ _ _ LS)
 have QS: ∀k,k≠m->k≠l->Ay (Ub st l j m e te rows xs (c7 j kp)).heap k=(Ay st.heap k).map (OB.map (Cx [m] [l])):= λk g1 g2=>by
  rw [LY,Er _ _ _ _ g2,Oc,Pk,Ai (by simpa using g1)]
 have hHm:Ay (Ub st l j m e te rows xs (c7 j kp)).heap m=none:=by
  rw [LY,Er _ _ _ _ j0,Oc,Ab (by simp)]
 have At9:r.cl r.g:=h.1.sub l r _ h2 b1
 have tC: ∀k r0 c,π k=some r0->r0.cl c->k≠l->c≠r.g:= λk r0 c hk hc Ip e=>Ip (h.1.inj k l r0 r c hk h2 hc (e▸At9))
 refine ⟨_,π',by simp only [Instr.storeAt,Instr.sureAddr];simpa using Vz,?_⟩
 have Pc:Ub st l j m e te rows xs (c7 j kp)= {tmps:=st.tmps.map (·.map (Cx [m] [l])),heap:=(Ub st l j m e te rows xs (c7 j kp)).heap} :=rfl
 rw [Pc]
 refine h.om (by simp [Cx,AC.refs]) (gv:= λc=>c=r.g) (λc hc=>hc▸⟨l,r,h2,b1⟩) ⟨tt.os,tt.tape,tt.output,tt.size,λc _ hc=>rJ c hc⟩ (λb _ ⟨k,q,g1,g2⟩=>?_) (λk q b g1 g2=>?_) (λk q b g1 g2=>?_) (λk k' q q' b g1 g2 g3 g4=>?_) (λk hk Ip=>?_)
  (λhc=>oh (D:= λk=>k=m) (Pt:= λk=>k=l) (λc=>?_) (λk hk=>?_) (λk b hk hb=>?_) (λk r0 b hk hk2 g1 g2 g3=>rJ _ (tC k r0 _ g3 (h.1.sub k r0 _ g3 (h.1.Da g3)) hk2)) hc) (λmv k b hb=>?_) (λk hk=>?_)
 ·rcases vH k q g1 with ⟨_,rfl⟩|⟨_,_,e1⟩
  ·rcases g2 with g2|⟨q0,g2,g3⟩
   ·exact ⟨l,r,h2,g2⟩
   ·exact ⟨m,q0,g2,g3⟩
  ·exact ⟨k,q,e1,g2⟩
 ·rcases vH k q g1 with ⟨_,rfl⟩|⟨_,_,e1⟩
  ·rcases g2 with g2|⟨q0,g2,g3⟩
   ·exact .inl (h.1.sub l r b h2 g2)
   ·exact .inr ⟨q0,g2,h.1.sub m q0 b g2 g3⟩
  ·exact h.1.sub k q b e1 g2
 ·have up: ∀k q b,π k=some q->q.cl b->(X.w0.heap.size<=b\/X.gv b)/\b<(w.setRow r.g (Dw cur.toList (r.o+j) [vx]).toArray).heap.size:= λk q b e1 e2=>⟨(h.1.place k q b e1 e2).1,Ex (h.1.place k q b e1 e2).2 tt.size⟩
  rcases vH k q g1 with ⟨_,rfl⟩|⟨_,_,e1⟩
  ·rcases g2 with g2|⟨q0,g2,g3⟩
   ·exact up l r b h2 g2
   ·exact up m q0 b g2 g3
  ·exact up k q b e1 g2
 ·rcases vH k q g1 with ⟨e0,rfl⟩|⟨e0,e2,e1⟩<;>rcases vH k' q' g2 with ⟨f0,rfl⟩|⟨f0,f2,f1⟩
  ·rw [e0,f0]
  ·rcases g3 with g3|⟨q0,g3,g5⟩
   ·exact absurd (h.1.inj k' l q' r b f1 h2 g4 g3) f2
   ·exact absurd (h.1.inj k' m q' q0 b f1 g3 g4 g5) f0
  ·rcases g4 with g4|⟨q0,g4,g5⟩
   ·exact absurd (h.1.inj k l q r b e1 h2 g3 g4) e2
   ·exact absurd (h.1.inj k m q q0 b e1 g4 g3 g5) e0
  ·exact h.1.inj k k' q q' b e1 f1 g3 g4
 ·by_cases e1:k=m
  ·subst e1;exact absurd hHm Ip
  have e2:k≠l:=by omega
  rw [j6 k e1 e2]
  refine h.1.im k hk λh0=>Ip ?_
  rw [QS k e1 e2,h0];rfl
 ·rcases qp [m] [l] c with e|⟨e,g,g'⟩
  ·exact .inl e
  ·exact .inr ⟨e,λk hk hkm=>g k hk (by simp [hkm]),λk i j hc Nn=>g' k i j hc (by simp [Nn])⟩
 ·by_cases e2:k=l
  ·subst e2;rw [MA,h2];exact ⟨rfl,rfl,rfl⟩
  ·rw [j6 k hk e2];exact gA.rfl' _
 ·by_cases e2:k=l
  ·subst e2
   rw [hl] at hb;cases hb
   exact ⟨_,hHl,⟨λ_ n h=>⟨n,by simpa [OB.row] using h,Aq _⟩,λ_ h=>by simpa [OB.gJ] using h,λ_ h=>by simpa [OB.vS] using h,(λ_ _ h=>by cases h),(λ_ _ h=>by cases h)⟩⟩
  ·exact ⟨_,by rw [QS k hk e2,hb];rfl,OB.Tp.map _ b⟩
 ·by_cases e1:k=m
  ·subst e1;rw [hHm] at hb;cases hb
  by_cases e2:k=l
  ·subst e2
   rw [hHl] at hb;cases hb
   rw [MA]
   have hat: ∀p,(Dw cur.toList (r.o+j) [vx]).toArray[r.o+p]?=if p=j then some vx else cur[r.o+p]?:= λp=>by
    rw [Io,Im _ _ _ _ Yj]
    by_cases hpj:p=j
    ·subst hpj
     rw [Ai (by omega),Ab (by simp),Ab rfl]
     simp
    ·rw [Ai hpj]
     split
     ·simp
     ·rw [Ai (by simp;omega)];simp
   have QW:=setRow_heap w r.g cur (Dw cur.toList (r.o+j) [vx]).toArray ti _ b2
   refine ⟨⟨.inl b1,_,_,QW,by rw [Hb,Jg _ _ _ Yj,Xw];exact b3,b4,by simpa using b5,Rs.set j R,by simpa using b6,λp q hq=>?_,λp p' q q' hq km he=>?_,λp y hy _=>?_⟩,?_⟩
   ·rw [Ei] at hq
    split at hq
    ·split at hq
     ·have hq:=Bd hq
      exact ⟨.inr ⟨q,hq,(Wq q hq).1⟩,(Wq q hq).2.2⟩
     ·cases hq
    ·exact ⟨.inl (b7 p q hq).1,(b7 p q hq).2⟩
   ·rw [Ei] at hq km
    split at hq
    ·rename_i hjp
     split at hq
     ·have hq:=Bd hq
      split at km
      ·rename_i Au0;rw [<-hjp,<-Au0]
      ·exact absurd (h.1.apart hq h2 (Wq q hq).1 (he▸(b7 p' q' km).1)) j0
     ·cases hq
    ·split at km
     ·split at km
      ·have km:=Bd km
       exact absurd (h.1.apart km h2 (Wq q' km).1 (he▸(b7 p q hq).1)) j0
      ·cases km
     ·exact b8 p p' q q' hq km he
   ·rw [Ei] at hy
    split at hy
    ·rename_i hjp
     subst hjp
     have hy:=Bd hy
     subst hy
     exact ⟨vx,R,by rw [hat,Ab rfl],by rw [Ei,Ab rfl,Ab (by omega)],vI,hfa.to (λq hq=>rJ _ (Wq q hq).2.2) λes y hc=>mv.cells false e es y hc⟩
    ·rename_i hjp
     obtain ⟨u',R',q1,q2,q3,q4⟩:=b9 p y hy (by rcases ho with ho|ho<;>rw [ho]<;>simp [hjp])
     refine ⟨u',R',by rw [hat,Ai (Gv hjp)];exact q1,by rw [Ei,Ai hjp];exact q2,q3,q4.to (λq hq=>rJ _ ?_) λes y hc=>mv.cells false e es y hc⟩
     subst hq
     exact (b7 p q q2).2
   ·cases kp with
    |none=>trivial
    |some p=>
     obtain ⟨l0,n0⟩:=p
     simp only [KeptAt,c7] at tz⊢
     cases TW:X.im l0 with
     |none=>rw [TW] at tz;exact tz.elim
     |some r0=>
      rw [TW] at tz
      obtain ⟨g1,g2,g3,g4⟩:=tz
      refine ⟨g1,g2,g3,λp hp hc=>?_⟩
      have XM:p<n0/\p<j:=by omega
      rw [<-g4 p XM.1 hc,<-g1,<-g2,cellOf QW,cellOf b2,hat,Ai (by omega)]
  ·rw [QS k e1 e2] at hb
   cases hk:Ay st.heap k with
   |none=>rw [hk] at hb;cases hb
   |some b1=>
    rw [hk] at hb
    simp only [An,Aa] at hb;subst hb
    rw [j6 k e1 e2]
    exact ((h.1.heap k).Ru hk).move mv tt.size (λr0 c h0 h1=>h.1.sub _ r0 c h0 h1) λr0 c h0 h1 _=>rJ c (tC k r0 c h0 h1 e2)
 ·have e2:k≠l:= λe=>by subst e;rw [hHl] at hk;cases hk
  by_cases e1:k=m
  ·subst e1;exact zt
  rw [QS k e1 e2] at hk
  rw [j6 k e1 e2]
  cases si:Ay st.heap k with
  |none=>exact (h.1.heap k).emp si
  |some b=>rw [si] at hk;cases hk
end
end Go.Proofs.Ytkkdpknjohcekaa
