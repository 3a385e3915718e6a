/-
  Part 20 of the proof that the statement FnSubgroups holds.
-/
import Derived.Test.YtkkdpknjohcekaaCFSubgroups18
namespace Go.Proofs.Ytkkdpknjohcekaa
open Go.RowKit
section
variable {P:Program} {T:Tab} {X:Ctx} {w w':World} {π π':Pi} {H H':List (Nat×OB)}
theorem qJ (dead part:List Nat) (c:AC):Cv dead part c= .undef\/(Cv dead part c=c/\(∀k∈c.refs,k∉dead)/\ ∀k i j,c= .sub k i j\/c= .Js k i j->k∉part):=by
 by_cases hu:Cv dead part c= .undef
 ·exact .inl hu
 have hr:=nR hu
 have hp: ∀l i j,c= .sub l i j\/c= .Js l i j->l∉part:=by
  intro l i j e hm
  refine hu ?_
  unfold Cv
  rcases e with rfl|rfl
  all_goals
   split
   ·rfl
   ·simp [hm]
 exact .inr ⟨cK hr hp,hr,hp⟩
theorem Abx {τ:Ty} (h:τ.Ap=false):τ.size=1:=by cases τ<;>simp_all [Ty.Ap,Ty.size]
theorem KG (hT:Ef P T) {st:St} {a:Act} (h:Bl X π st a w) {t:TypeId} {τ:Ty} (ht:T.ty t=some τ) (Ts:τ.Ap=false) {l j m:Nat} {e:Ty} {te tid:TypeId} {rows:List (List e.den)} {xs:List e.den} {out:Option Nat} {kp:Option (Nat×Nat)} {fr tr:Bool}
  (hl:Aw st.heap l=some (.Bo e te rows out kp)) (ho:out=none\/out=some j) (j9:m≠l) (hm:Aw st.heap m=some (.arr fr tr e tid xs)) (rR:l<Bp)
  {vp vx:Value} (hp:Hj X w π st.heap (.Jv l j) vp) (hx:Hj X w π st.heap (.own m 0 (List.length xs)) vx):
  ∃w' π',(Instr.storeAt t vp vx).run P w= .ok () w'/\Bl X π' (Tp st l j m e te rows xs (bS j kp)) a w':=by
 have Uf:τ.size=1:=Abx Ts
 obtain ⟨r,b0,sz,n,h1,h0,h3,h2,rfl⟩:=hp
 rw [hl] at h1;cases h1
 simp only [OB.row,Aa,Ah] at h0
 obtain ⟨rfl,rfl⟩:=h0
 rw [Fo]
 obtain ⟨_,vN⟩:=Oc (X:=X) (w:=w) hx hm
 obtain ⟨ax,nx,cx,hvx⟩:=aW vN
 have hb:=(h.1.heap l).Rc hl
 simp only [Cn] at hb
 obtain ⟨hb,tF⟩:=hb
 rw [h2] at hb tF
 obtain ⟨b1,cur,ti,b2,b3,b4,b5,Rs,b6,b7,b8,b9⟩:=hb
 have JW:=(h.1.heap m).Rc hm
 simp only [Cn,Jt] at JW
 have Vo:=Wp (P:=P) (w:=w) (hT.ty _ _ ht) r.g (r.o+j) vx [vx] (by rw [hvx];rfl) (by rw [Uf];rfl) (by intro u hu;rw [Ae.1 hu,hvx];rfl) cur ti b2 (by simp;omega)
 let R:Option Real:=π m
 have hfa:Sv w (De X.w0.heap.size X.Sc π false) R e xs:=by
  show Sv w _ (π m) e xs
  cases hR:π m with
  |none=>rw [hR] at JW;exact JW
  |some q=>
   rw [hR] at JW
   obtain ⟨⟨f0,f0',_⟩,cu,ti',f2,f3,f4,f5,f6,_⟩:=JW
   exact ⟨⟨f0,f0'⟩,cu,ti',f2,f3,f4,f5,λp y hy=>by
    obtain ⟨es,g1,g2,g3⟩:=f6 p y hy
    exact ⟨es,g1,g2,Cells.Fm (Aq _) (λ_ _ _=>rfl) (λb _ hA=>hA.imp id (Or.imp id λ⟨h1,_⟩=>by cases h1)) e es y g3⟩⟩
 have hRq: ∀q,R=some q->π m=some q:= λq hq=>hq
 have Wg: ∀q,R=some q->q.Cz q.g/\q.cl q.g/\q.g≠r.g:= λq hq=>⟨h.1.Cz hq,h.1.sub m q _ hq (h.1.Cz hq),λe0=>j9 (h.1.apart hq h2 (h.1.Cz hq) (e0▸b1))⟩
 let rl:Real:= {r with Cz:= λb=>r.Cz b\/ ∃q,R=some q/\q.Cz b,cl:= λb=>r.cl b\/ ∃q,R=some q/\q.cl b}
 let π':Pi:= λk=>if k=m then none else if k=l then some rl else π k
 have zt:π' m=none:=Ab rfl
 have LY:π' l=some rl:=(Ak (Gb j9)).trans (Ab rfl)
 have jb: ∀k,k≠m->k≠l->π' k=π k:= λk g1 g2=>(Ak g1).trans (Ak g2)
 have vK: ∀k q,π' k=some q->(k=l/\q=rl)\/(k≠m/\k≠l/\π k=some q):= λk q hq=>by
  by_cases e1:k=m
  ·subst e1;rw [zt] at hq;cases hq
  ·by_cases e2:k=l
   ·subst e2;rw [LY] at hq;exact .inl ⟨rfl,(Bd hq).symm⟩
   ·rw [jb k e1 e2] at hq;exact .inr ⟨e1,e2,hq⟩
 have Xv:r.o+j+ [vx].length<=cur.toList.length:=by simp;omega
 have tA:=Nd w r.g (Dw cur.toList (r.o+j) [vx]).toArray
 have rU: ∀c,c≠r.g->(w.setRow r.g (Dw cur.toList (r.o+j) [vx]).toArray).heap[c]?=w.heap[c]?:= λc hc=>setRow_other w r.g c _ hc
 have zr: ∀k,Aw (Tp st l j m e te rows xs (bS j kp)).heap k=Aw (ay (Xo (st.heap.map λp=>(p.1,p.2.map (Cv [m] [l]))) [m]) l (.Bo e te (rows.set j xs) none (bS j kp))) k:= λk=>rfl
 have hl1:Aw (Xo (st.heap.map λp=>(p.1,p.2.map (Cv [m] [l]))) [m]) l=some (.Bo e te rows out kp):=by
  rw [Ng,Ol,Ak (by simpa using Gb j9),hl];rfl
 have hHl:Aw (Tp st l j m e te rows xs (bS j kp)).heap l=some (.Bo e te (rows.set j xs) none (bS j kp)):=(zr l).trans (Fb _ _ _ _ hl1)
 have QW: ∀k,k≠m->k≠l->Aw (Tp st l j m e te rows xs (bS j kp)).heap k=(Aw st.heap k).map (OB.map (Cv [m] [l])):= λk g1 g2=>by
  rw [zr,Eg _ _ _ _ g2,Ng,Ol,Ak (by simpa using g1)]
 have hHm:Aw (Tp st l j m e te rows xs (bS j kp)).heap m=none:=by
  rw [zr,Eg _ _ _ _ j9,Ng,Ab (by simp)]
 have At9:r.cl r.g:=h.1.sub l r _ h2 b1
 have tG: ∀k r0 c,π k=some r0->r0.cl c->k≠l->c≠r.g:= λk r0 c hk hc Ig e=>Ig (h.1.inj k l r0 r c hk h2 hc (e▸At9))
 refine ⟨_,π',by simp only [Instr.storeAt,Instr.sureAddr];simpa using Vo,?_⟩
 have Rj:Tp st l j m e te rows xs (bS j kp)= {tmps:=st.tmps.map (·.map (Cv [m] [l])),heap:=(Tp st l j m e te rows xs (bS j kp)).heap} :=rfl
 rw [Rj]
 refine h.oD (by simp [Cv,AC.refs]) (gv:= λc=>c=r.g) (λc hc=>hc▸⟨l,r,h2,b1⟩) ⟨tA.os,tA.tape,tA.output,tA.size,λc _ hc=>rU c hc⟩ (λb _ ⟨k,q,g1,g2⟩=>?_) (λk q b g1 g2=>?_) (λk q b g1 g2=>?_) (λk k' q q' b g1 g2 g3 g4=>?_) (λk hk Ig=>?_)
  (λhc=>oC (D:= λk=>k=m) (Pt:= λk=>k=l) (λc=>?_) (λk hk=>?_) (λk b hk hb=>?_) (λk r0 b hk XQ g1 g2 g3=>rU _ (tG k r0 _ g3 (h.1.sub k r0 _ g3 (h.1.Cz g3)) XQ)) hc) (λmv k b hb=>?_) (λk hk=>?_)
 ·rcases vK k q g1 with ⟨_,rfl⟩|⟨_,_,e1⟩
  ·rcases g2 with g2|⟨q0,g2,g3⟩
   ·exact ⟨l,r,h2,g2⟩
   ·exact ⟨m,q0,g2,g3⟩
  ·exact ⟨k,q,e1,g2⟩
 ·rcases vK k q g1 with ⟨_,rfl⟩|⟨_,_,e1⟩
  ·rcases g2 with g2|⟨q0,g2,g3⟩
   ·exact .inl (h.1.sub l r b h2 g2)
   ·exact .inr ⟨q0,g2,h.1.sub m q0 b g2 g3⟩
  ·exact h.1.sub k q b e1 g2
 ·have up: ∀k q b,π k=some q->q.cl b->(X.w0.heap.size<=b\/X.gv b)/\b<(w.setRow r.g (Dw cur.toList (r.o+j) [vx]).toArray).heap.size:= λk q b e1 e2=>⟨(h.1.place k q b e1 e2).1,El (h.1.place k q b e1 e2).2 tA.size⟩
  rcases vK k q g1 with ⟨_,rfl⟩|⟨_,_,e1⟩
  ·rcases g2 with g2|⟨q0,g2,g3⟩
   ·exact up l r b h2 g2
   ·exact up m q0 b g2 g3
  ·exact up k q b e1 g2
 ·rcases vK k q g1 with ⟨e0,rfl⟩|⟨e0,e2,e1⟩<;>rcases vK k' q' g2 with ⟨f0,rfl⟩|⟨f0,f2,f1⟩
  ·rw [e0,f0]
  ·rcases g3 with g3|⟨q0,g3,g5⟩
   ·exact absurd (h.1.inj k' l q' r b f1 h2 g4 g3) f2
   ·exact absurd (h.1.inj k' m q' q0 b f1 g3 g4 g5) f0
  ·rcases g4 with g4|⟨q0,g4,g5⟩
   ·exact absurd (h.1.inj k l q r b e1 h2 g3 g4) e2
   ·exact absurd (h.1.inj k m q q0 b e1 g4 g3 g5) e0
  ·exact h.1.inj k k' q q' b e1 f1 g3 g4
 ·by_cases e1:k=m
  ·subst e1;exact absurd hHm Ig
  have e2:k≠l:=by omega
  rw [jb k e1 e2]
  refine h.1.iu k hk λh0=>Ig ?_
  rw [QW k e1 e2,h0];rfl
 ·rcases qJ [m] [l] c with e|⟨e,g,g'⟩
  ·exact .inl e
  ·exact .inr ⟨e,λk hk hkm=>g k hk (by simp [hkm]),λk i j hc My=>g' k i j hc (by simp [My])⟩
 ·by_cases e2:k=l
  ·subst e2;rw [LY,h2];exact ⟨rfl,rfl,rfl⟩
  ·rw [jb k hk e2];exact gA.rfl' _
 ·by_cases e2:k=l
  ·subst e2
   rw [hl] at hb;cases hb
   exact ⟨_,hHl,⟨λ_ n h=>⟨n,by simpa [OB.row] using h,Aq _⟩,λ_ h=>by simpa [OB.gK] using h,λ_ h=>by simpa [OB.vZ] using h,(λ_ _ h=>by cases h),(λ_ _ h=>by cases h)⟩⟩
  ·exact ⟨_,by rw [QW k hk e2,hb];rfl,OB.Td.map _ b⟩
 ·by_cases e1:k=m
  ·subst e1;rw [hHm] at hb;cases hb
  by_cases e2:k=l
  ·subst e2
   rw [hHl] at hb;cases hb
   rw [LY]
   have hat: ∀p,(Dw cur.toList (r.o+j) [vx]).toArray[r.o+p]?=if p=j then some vx else cur[r.o+p]?:= λp=>by
    rw [Hy,Hx _ _ _ _ Xv]
    by_cases hpj:p=j
    ·subst hpj
     rw [Ak (by omega),Ab (by simp),Ab rfl]
     simp
    ·rw [Ak hpj]
     split
     ·simp
     ·rw [Ak (by simp;omega)];simp
   have RD:=setRow_heap w r.g cur (Dw cur.toList (r.o+j) [vx]).toArray ti _ b2
   refine ⟨⟨.inl b1,_,_,RD,by rw [Gv,Io _ _ _ Xv,Xg];exact b3,b4,by simpa using b5,Rs.set j R,by simpa using b6,λp q hq=>?_,λp p' q q' hq gJ he=>?_,λp y hy _=>?_⟩,?_⟩
   ·rw [Em] at hq
    split at hq
    ·split at hq
     ·have hq:=Bd hq
      exact ⟨.inr ⟨q,hq,(Wg q hq).1⟩,(Wg q hq).2.2⟩
     ·cases hq
    ·exact ⟨.inl (b7 p q hq).1,(b7 p q hq).2⟩
   ·rw [Em] at hq gJ
    split at hq
    ·rename_i hjp
     split at hq
     ·have hq:=Bd hq
      split at gJ
      ·rename_i Ats;rw [<-hjp,<-Ats]
      ·exact absurd (h.1.apart hq h2 (Wg q hq).1 (he▸(b7 p' q' gJ).1)) j9
     ·cases hq
    ·split at gJ
     ·split at gJ
      ·have gJ:=Bd gJ
       exact absurd (h.1.apart gJ h2 (Wg q' gJ).1 (he▸(b7 p q hq).1)) j9
      ·cases gJ
     ·exact b8 p p' q q' hq gJ he
   ·rw [Em] at hy
    split at hy
    ·rename_i hjp
     subst hjp
     have hy:=Bd hy
     subst hy
     exact ⟨vx,R,by rw [hat,Ab rfl],by rw [Em,Ab rfl,Ab (by omega)],vN,hfa.to (λq hq=>rU _ (Wg q hq).2.2) λes y hc=>mv.cells false e es y hc⟩
    ·rename_i hjp
     obtain ⟨u',R',q1,q2,q3,q4⟩:=b9 p y hy (by rcases ho with ho|ho<;>rw [ho]<;>simp [hjp])
     refine ⟨u',R',by rw [hat,Ak (Gb hjp)];exact q1,by rw [Em,Ak hjp];exact q2,q3,q4.to (λq hq=>rU _ ?_) λes y hc=>mv.cells false e es y hc⟩
     subst hq
     exact (b7 p q q2).2
   ·cases kp with
    |none=>trivial
    |some p=>
     obtain ⟨l0,n0⟩:=p
     simp only [KeptAt,bS] at tF⊢
     cases TY:X.iu l0 with
     |none=>rw [TY] at tF;exact tF.elim
     |some r0=>
      rw [TY] at tF
      obtain ⟨g1,g2,g3,g4⟩:=tF
      refine ⟨g1,g2,g3,λp hp hc=>?_⟩
      have XR:p<n0/\p<j:=by omega
      rw [<-g4 p XR.1 hc,<-g1,<-g2,cellOf RD,cellOf b2,hat,Ak (by omega)]
  ·rw [QW k e1 e2] at hb
   cases hk:Aw st.heap k with
   |none=>rw [hk] at hb;cases hb
   |some b1=>
    rw [hk] at hb
    simp only [Am,Aa] at hb;subst hb
    rw [jb k e1 e2]
    exact ((h.1.heap k).Rc hk).move mv tA.size (λr0 c h0 h1=>h.1.sub _ r0 c h0 h1) λr0 c h0 h1 _=>rU c (tG k r0 c h0 h1 e2)
 ·have e2:k≠l:= λe=>by subst e;rw [hHl] at hk;cases hk
  by_cases e1:k=m
  ·subst e1;exact zt
  rw [QW k e1 e2] at hk
  rw [jb k e1 e2]
  cases vM:Aw st.heap k with
  |none=>exact (h.1.heap k).emp vM
  |some b=>rw [vM] at hk;cases hk
end
end Go.Proofs.Ytkkdpknjohcekaa
