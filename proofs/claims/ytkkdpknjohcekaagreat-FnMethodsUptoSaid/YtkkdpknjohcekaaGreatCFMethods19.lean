/-
  Part 20 of the proof that the statement FnMethods holds.
-/
import Derived.Test.YtkkdpknjohcekaaGreatCFMethods18
namespace Go.Proofs.YtkkdpknjohcekaaGreat
open Go.RowKit
section
variable {P:Program} {T:Tab} {X:Ctx} {w w':World} {π π':Pi} {H H':List (Nat×OB)}
theorem qM (dead part:List Nat) (c:AC):Cu dead part c= .undef\/(Cu dead part c=c/\(∀k∈c.refs,k∉dead)/\ ∀k i j,c= .sub k i j\/c= .Ky k i j->k∉part):=by
 by_cases hu:Cu dead part c= .undef
 ·exact .inl hu
 have hr:=nS hu
 have hp: ∀l i j,c= .sub l i j\/c= .Ky l i j->l∉part:=by
  intro l i j e hm
  refine hu ?_
  unfold Cu
  rcases e with rfl|rfl
  all_goals
   split
   ·rfl
   ·simp [hm]
 exact .inr ⟨cW hr hp,hr,hp⟩
theorem Acf {τ:Ty} (h:τ.Ar=false):τ.size=1:=by cases τ<;>simp_all [Ty.Ar,Ty.size]
theorem KS (hT:Ep P T) {st:St} {a:Act} (h:Bh X π st a w) {t:TypeId} {τ:Ty} (ht:T.ty t=some τ) (Um:τ.Ar=false) {l j m:Nat} {e:Ty} {te tid:TypeId} {rows:List (List e.den)} {xs:List e.den} {out:Option Nat} {kp:Option (Nat×Nat)} {fr tr:Bool}
  (hl:Av st.heap l=some (.Bu e te rows out kp)) (ho:out=none\/out=some j) (jh:m≠l) (hm:Av st.heap m=some (.arr fr tr e tid xs)) (pH:l<Bk)
  {vp vx:Value} (hp:Iq X w π st.heap (.Ld l j) vp) (hx:Iq X w π st.heap (.own m 0 (List.length xs)) vx):
  ∃w' π',(Instr.storeAt t vp vx).run P w= .ok () w'/\Bh X π' (Uj st l j m e te rows xs (cj j kp)) a w':=by
 have aN:τ.size=1:=Acf Um
 obtain ⟨r,b0,sz,n,h1,h0,h3,h2,rfl⟩:=hp
 rw [hl] at h1;cases h1
 simp only [OB.row,Aa,Af] at h0
 obtain ⟨rfl,rfl⟩:=h0
 rw [Fw]
 obtain ⟨_,ss⟩:=Po (X:=X) (w:=w) hx hm
 obtain ⟨ax,nx,cx,hvx⟩:=bj ss
 have hb:=(h.1.heap l).Sl hl
 simp only [Cl] at hb
 obtain ⟨hb,tP⟩:=hb
 rw [h2] at hb tP
 obtain ⟨b1,cur,ti,b2,b3,b4,b5,Rs,b6,b7,b8,b9⟩:=hb
 have KJ:=(h.1.heap m).Sl hm
 simp only [Cl,Kz] at KJ
 have Wg:=Xg (P:=P) (w:=w) (hT.ty _ _ ht) r.g (r.o+j) vx [vx] (by rw [hvx];rfl) (by rw [aN];rfl) (by intro u hu;rw [Ad.1 hu,hvx];rfl) cur ti b2 (by simp;omega)
 let R:Option Real:=π m
 have hfa:Sk w (Dc X.w0.heap.size X.Sc π false) R e xs:=by
  show Sk w _ (π m) e xs
  cases hR:π m with
  |none=>rw [hR] at KJ;exact KJ
  |some q=>
   rw [hR] at KJ
   obtain ⟨⟨f0,f0',_⟩,cu,ti',f2,f3,f4,f5,f6,_⟩:=KJ
   exact ⟨⟨f0,f0'⟩,cu,ti',f2,f3,f4,f5,λp y hy=>by
    obtain ⟨es,g1,g2,g3⟩:=f6 p y hy
    exact ⟨es,g1,g2,Cells.Gj (Aq _) (λ_ _ _=>rfl) (λb _ hA=>hA.imp id (Or.imp id λ⟨h1,_⟩=>by cases h1)) e es y g3⟩⟩
 have hRq: ∀q,R=some q->π m=some q:= λq hq=>hq
 have Wy: ∀q,R=some q->q.Cw q.g/\q.cl q.g/\q.g≠r.g:= λq hq=>⟨h.1.Cw hq,h.1.sub m q _ hq (h.1.Cw hq),λe0=>jh (h.1.apart hq h2 (h.1.Cw hq) (e0▸b1))⟩
 let rl:Real:= {r with Cw:= λb=>r.Cw b\/ ∃q,R=some q/\q.Cw b,cl:= λb=>r.cl b\/ ∃q,R=some q/\q.cl b}
 let π':Pi:= λk=>if k=m then none else if k=l then some rl else π k
 have zP:π' m=none:=Ab rfl
 have ML:π' l=some rl:=(Ai (Hv jh)).trans (Ab rfl)
 have jl: ∀k,k≠m->k≠l->π' k=π k:= λk g1 g2=>(Ai g1).trans (Ai g2)
 have vS: ∀k q,π' k=some q->(k=l/\q=rl)\/(k≠m/\k≠l/\π k=some q):= λk q hq=>by
  by_cases e1:k=m
  ·subst e1;rw [zP] at hq;cases hq
  ·by_cases e2:k=l
   ·subst e2;rw [ML] at hq;exact .inl ⟨rfl,(Bd hq).symm⟩
   ·rw [jl k e1 e2] at hq;exact .inr ⟨e1,e2,hq⟩
 have Wx:r.o+j+ [vx].length<=cur.toList.length:=by simp;omega
 have tH:=Om w r.g (Dt cur.toList (r.o+j) [vx]).toArray
 have rU: ∀c,c≠r.g->(w.setRow r.g (Dt cur.toList (r.o+j) [vx]).toArray).heap[c]?=w.heap[c]?:= λc hc=>setRow_other w r.g c _ hc
 have Akb: ∀k,Av (Uj st l j m e te rows xs (cj j kp)).heap k=Av (aF (Yi (st.heap.map λp=>(p.1,p.2.map (Cu [m] [l]))) [m]) l (.Bu e te (rows.set j xs) none (cj j kp))) k:= λk=>rfl
 have p9:Av (Yi (st.heap.map λp=>(p.1,p.2.map (Cu [m] [l]))) [m]) l=some (.Bu e te rows out kp):=by
  rw [Oq,Pv,Ai (by simpa using Hv jh),hl];rfl
 have hHl:Av (Uj st l j m e te rows xs (cj j kp)).heap l=some (.Bu e te (rows.set j xs) none (cj j kp)):=(Akb l).trans (Fu _ _ _ _ p9)
 have RS: ∀k,k≠m->k≠l->Av (Uj st l j m e te rows xs (cj j kp)).heap k=(Av st.heap k).map (OB.map (Cu [m] [l])):= λk g1 g2=>by
  rw [Akb,El _ _ _ _ g2,Oq,Pv,Ai (by simpa using g1)]
 have hHm:Av (Uj st l j m e te rows xs (cj j kp)).heap m=none:=by
  rw [Akb,El _ _ _ _ jh,Oq,Ab (by simp)]
 have Au2:r.cl r.g:=h.1.sub l r _ h2 b1
 have tS: ∀k r0 c,π k=some r0->r0.cl c->k≠l->c≠r.g:= λk r0 c hk hc Jd e=>Jd (h.1.inj k l r0 r c hk h2 hc (e▸Au2))
 refine ⟨_,π',by simp only [Instr.storeAt,Instr.sureAddr];simpa using Wg,?_⟩
 have Qj:Uj st l j m e te rows xs (cj j kp)= {tmps:=st.tmps.map (·.map (Cu [m] [l])),heap:=(Uj st l j m e te rows xs (cj j kp)).heap} :=rfl
 rw [Qj]
 refine h.oB (by simp [Cu,AC.refs]) (gv:= λc=>c=r.g) (λc hc=>hc▸⟨l,r,h2,b1⟩) ⟨tH.os,tH.tape,tH.output,tH.size,λc _ hc=>rU c hc⟩ (λb _ ⟨k,q,g1,g2⟩=>?_) (λk q b g1 g2=>?_) (λk q b g1 g2=>?_) (λk k' q q' b g1 g2 g3 g4=>?_) (λk hk Jd=>?_)
  (λhc=>oA (D:= λk=>k=m) (Pt:= λk=>k=l) (λc=>?_) (λk hk=>?_) (λk b hk hb=>?_) (λk r0 b hk hk2 g1 g2 g3=>rU _ (tS k r0 _ g3 (h.1.sub k r0 _ g3 (h.1.Cw g3)) hk2)) hc) (λmv k b hb=>?_) (λk hk=>?_)
 ·rcases vS k q g1 with ⟨_,rfl⟩|⟨_,_,e1⟩
  ·rcases g2 with g2|⟨q0,g2,g3⟩
   ·exact ⟨l,r,h2,g2⟩
   ·exact ⟨m,q0,g2,g3⟩
  ·exact ⟨k,q,e1,g2⟩
 ·rcases vS k q g1 with ⟨_,rfl⟩|⟨_,_,e1⟩
  ·rcases g2 with g2|⟨q0,g2,g3⟩
   ·exact .inl (h.1.sub l r b h2 g2)
   ·exact .inr ⟨q0,g2,h.1.sub m q0 b g2 g3⟩
  ·exact h.1.sub k q b e1 g2
 ·have up: ∀k q b,π k=some q->q.cl b->(X.w0.heap.size<=b\/X.gv b)/\b<(w.setRow r.g (Dt cur.toList (r.o+j) [vx]).toArray).heap.size:= λk q b e1 e2=>⟨(h.1.place k q b e1 e2).1,Ew (h.1.place k q b e1 e2).2 tH.size⟩
  rcases vS k q g1 with ⟨_,rfl⟩|⟨_,_,e1⟩
  ·rcases g2 with g2|⟨q0,g2,g3⟩
   ·exact up l r b h2 g2
   ·exact up m q0 b g2 g3
  ·exact up k q b e1 g2
 ·rcases vS k q g1 with ⟨e0,rfl⟩|⟨e0,e2,e1⟩<;>rcases vS k' q' g2 with ⟨f0,rfl⟩|⟨f0,f2,f1⟩
  ·rw [e0,f0]
  ·rcases g3 with g3|⟨q0,g3,g5⟩
   ·exact absurd (h.1.inj k' l q' r b f1 h2 g4 g3) f2
   ·exact absurd (h.1.inj k' m q' q0 b f1 g3 g4 g5) f0
  ·rcases g4 with g4|⟨q0,g4,g5⟩
   ·exact absurd (h.1.inj k l q r b e1 h2 g3 g4) e2
   ·exact absurd (h.1.inj k m q q0 b e1 g4 g3 g5) e0
  ·exact h.1.inj k k' q q' b e1 f1 g3 g4
 ·by_cases e1:k=m
  ·subst e1;exact absurd hHm Jd
  have e2:k≠l:=by omega
  rw [jl k e1 e2]
  refine h.1.iD k hk λh0=>Jd ?_
  rw [RS k e1 e2,h0];rfl
 ·rcases qM [m] [l] c with e|⟨e,g,g'⟩
  ·exact .inl e
  ·exact .inr ⟨e,λk hk hkm=>g k hk (by simp [hkm]),λk i j hc Pf=>g' k i j hc (by simp [Pf])⟩
 ·by_cases e2:k=l
  ·subst e2;rw [ML,h2];exact ⟨rfl,rfl,rfl⟩
  ·rw [jl k hk e2];exact gD.rfl' _
 ·by_cases e2:k=l
  ·subst e2
   rw [hl] at hb;cases hb
   exact ⟨_,hHl,⟨λ_ n h=>⟨n,by simpa [OB.row] using h,Aq _⟩,λ_ h=>by simpa [OB.gQ] using h,λ_ h=>by simpa [OB.w9] using h,(λ_ _ h=>by cases h),(λ_ _ h=>by cases h)⟩⟩
  ·exact ⟨_,by rw [RS k hk e2,hb];rfl,OB.Tw.map _ b⟩
 ·by_cases e1:k=m
  ·subst e1;rw [hHm] at hb;cases hb
  by_cases e2:k=l
  ·subst e2
   rw [hHl] at hb;cases hb
   rw [ML]
   have hat: ∀p,(Dt cur.toList (r.o+j) [vx]).toArray[r.o+p]?=if p=j then some vx else cur[r.o+p]?:= λp=>by
    rw [Jb,Ja _ _ _ _ Wx]
    by_cases hpj:p=j
    ·subst hpj
     rw [Ai (by omega),Ab (by simp),Ab rfl]
     simp
    ·rw [Ai hpj]
     split
     ·simp
     ·rw [Ai (by simp;omega)];simp
   have nX:=setRow_heap w r.g cur (Dt cur.toList (r.o+j) [vx]).toArray ti _ b2
   refine ⟨⟨.inl b1,_,_,nX,by rw [Gz,Ju _ _ _ Wx,Ma];exact b3,b4,by simpa using b5,Rs.set j R,by simpa using b6,λp q hq=>?_,λp p' q q' hq iB he=>?_,λp y hy _=>?_⟩,?_⟩
   ·rw [Ex] at hq
    split at hq
    ·split at hq
     ·have hq:=Bd hq
      exact ⟨.inr ⟨q,hq,(Wy q hq).1⟩,(Wy q hq).2.2⟩
     ·cases hq
    ·exact ⟨.inl (b7 p q hq).1,(b7 p q hq).2⟩
   ·rw [Ex] at hq iB
    split at hq
    ·rename_i hjp
     split at hq
     ·have hq:=Bd hq
      split at iB
      ·rename_i Aul;rw [<-hjp,<-Aul]
      ·exact absurd (h.1.apart hq h2 (Wy q hq).1 (he▸(b7 p' q' iB).1)) jh
     ·cases hq
    ·split at iB
     ·split at iB
      ·have iB:=Bd iB
       exact absurd (h.1.apart iB h2 (Wy q' iB).1 (he▸(b7 p q hq).1)) jh
      ·cases iB
     ·exact b8 p p' q q' hq iB he
   ·rw [Ex] at hy
    split at hy
    ·rename_i hjp
     subst hjp
     have hy:=Bd hy
     subst hy
     exact ⟨vx,R,by rw [hat,Ab rfl],by rw [Ex,Ab rfl,Ab (by omega)],ss,hfa.to (λq hq=>rU _ (Wy q hq).2.2) λes y hc=>mv.cells false e es y hc⟩
    ·rename_i hjp
     obtain ⟨u',R',q1,q2,q3,q4⟩:=b9 p y hy (by rcases ho with ho|ho<;>rw [ho]<;>simp [hjp])
     refine ⟨u',R',by rw [hat,Ai (Hv hjp)];exact q1,by rw [Ex,Ai hjp];exact q2,q3,q4.to (λq hq=>rU _ ?_) λes y hc=>mv.cells false e es y hc⟩
     subst hq
     exact (b7 p q q2).2
   ·cases kp with
    |none=>trivial
    |some p=>
     obtain ⟨l0,n0⟩:=p
     simp only [KeptAt,cj] at tP⊢
     cases UO:X.iD l0 with
     |none=>rw [UO] at tP;exact tP.elim
     |some r0=>
      rw [UO] at tP
      obtain ⟨g1,g2,g3,g4⟩:=tP
      refine ⟨g1,g2,g3,λp hp hc=>?_⟩
      have we:p<n0/\p<j:=by omega
      rw [<-g4 p we.1 hc,<-g1,<-g2,cellOf nX,cellOf b2,hat,Ai (by omega)]
  ·rw [RS k e1 e2] at hb
   cases hk:Av st.heap k with
   |none=>rw [hk] at hb;cases hb
   |some b1=>
    rw [hk] at hb
    simp only [An,Aa] at hb;subst hb
    rw [jl k e1 e2]
    exact ((h.1.heap k).Sl hk).move mv tH.size (λr0 c h0 h1=>h.1.sub _ r0 c h0 h1) λr0 c h0 h1 _=>rU c (tS k r0 c h0 h1 e2)
 ·have e2:k≠l:= λe=>by subst e;rw [hHl] at hk;cases hk
  by_cases e1:k=m
  ·subst e1;exact zP
  rw [RS k e1 e2] at hk
  rw [jl k e1 e2]
  cases tM:Av st.heap k with
  |none=>exact (h.1.heap k).emp tM
  |some b=>rw [tM] at hk;cases hk
end
end Go.Proofs.YtkkdpknjohcekaaGreat
