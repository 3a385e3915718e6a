/-
  Part 20 of the proof that the statement FnBoundStatistics holds.
-/
import Derived.Test.YtkkdpknjohcekaaCFBoundStatistics18
namespace Go.Proofs.Ytkkdpknjohcekaa
open Go.RowKit
section
variable {P:Program} {T:Tab} {X:Ctx} {w w':World} {π π':Pi} {H H':List (Nat×OB)}
theorem qg (dead part:List Nat) (c:AC):Cr dead part c= .undef\/(Cr dead part c=c/\(∀k∈c.refs,k∉dead)/\ ∀k i j,c= .sub k i j\/c= .Kh k i j->k∉part):=by
 by_cases hu:Cr dead part c= .undef
 ·exact .inl hu
 have hr:=nm hu
 have hp: ∀l i j,c= .sub l i j\/c= .Kh l i j->l∉part:=by
  intro l i j e hm
  refine hu ?_
  unfold Cr
  rcases e with rfl|rfl
  all_goals
   split
   ·rfl
   ·simp [hm]
 exact .inr ⟨cE hr hp,hr,hp⟩
theorem Aav {τ:Ty} (h:τ.Ao=false):τ.size=1:=by cases τ<;>simp_all [Ty.Ao,Ty.size]
theorem JK (hT:Dz P T) {st:St} {a:Act} (h:Bh X π st a w) {t:TypeId} {τ:Ty} (ht:T.ty t=some τ) (Ua:τ.Ao=false) {l j m:Nat} {e:Ty} {te tid:TypeId} {rows:List (List e.den)} {xs:List e.den} {out:Option Nat} {kp:Option (Nat×Nat)} {fr tr:Bool}
  (hl:At st.heap l=some (.Bl e te rows out kp)) (ho:out=none\/out=some j) (iO:m≠l) (hm:At st.heap m=some (.arr fr tr e tid xs)) (tu:l<Bn)
  {vp vx:Value} (hp:Hq X w π st.heap (.Kk l j) vp) (hx:Hq X w π st.heap (.own m 0 (List.length xs)) vx):
  ∃w' π',(Instr.storeAt t vp vx).run P w= .ok () w'/\Bh X π' (Tw st l j m e te rows xs (bU j kp)) a w':=by
 have aB:τ.size=1:=Aav Ua
 obtain ⟨r,b0,sz,n,h1,h0,h3,h2,rfl⟩:=hp
 rw [hl] at h1;cases h1
 simp only [OB.row,Aa,Ae] at h0
 obtain ⟨rfl,rfl⟩:=h0
 rw [Fe]
 obtain ⟨_,vr⟩:=Ot (X:=X) (w:=w) hx hm
 obtain ⟨ax,nx,cx,hvx⟩:=aU vr
 have hb:=(h.1.heap l).Rp hl
 simp only [Cj] at hb
 obtain ⟨hb,tt⟩:=hb
 rw [h2] at hb tt
 obtain ⟨b1,cur,ti,b2,b3,b4,b5,Rs,b6,b7,b8,b9⟩:=hb
 have JB:=(h.1.heap m).Rp hm
 simp only [Cj,Ki] at JB
 have Vs:=Wu (P:=P) (w:=w) (hT.ty _ _ ht) r.g (r.o+j) vx [vx] (by rw [hvx];rfl) (by rw [aB];rfl) (by intro u hu;rw [Ad.1 hu,hvx];rfl) cur ti b2 (by simp;omega)
 let R:Option Real:=π m
 have hfa:Td w (Da X.w0.heap.size X.Sc π false) R e xs:=by
  show Td w _ (π m) e xs
  cases hR:π m with
  |none=>rw [hR] at JB;exact JB
  |some q=>
   rw [hR] at JB
   obtain ⟨⟨f0,f0',_⟩,cu,ti',f2,f3,f4,f5,f6,_⟩:=JB
   exact ⟨⟨f0,f0'⟩,cu,ti',f2,f3,f4,f5,λp y hy=>by
    obtain ⟨es,g1,g2,g3⟩:=f6 p y hy
    exact ⟨es,g1,g2,Cells.Fb (Ap _) (λ_ _ _=>rfl) (λb _ hA=>hA.imp id (Or.imp id λ⟨h1,_⟩=>by cases h1)) e es y g3⟩⟩
 have hRq: ∀q,R=some q->π m=some q:= λq hq=>hq
 have Wk: ∀q,R=some q->q.Cv q.g/\q.cl q.g/\q.g≠r.g:= λq hq=>⟨h.1.Cv hq,h.1.sub m q _ hq (h.1.Cv hq),λe0=>iO (h.1.apart hq h2 (h.1.Cv hq) (e0▸b1))⟩
 let rl:Real:= {r with Cv:= λb=>r.Cv b\/ ∃q,R=some q/\q.Cv b,cl:= λb=>r.cl b\/ ∃q,R=some q/\q.cl b}
 let π':Pi:= λk=>if k=m then none else if k=l then some rl else π k
 have z9:π' m=none:=Ac rfl
 have LC:π' l=some rl:=(Ak (Gb iO)).trans (Ac rfl)
 have iR: ∀k,k≠m->k≠l->π' k=π k:= λk g1 g2=>(Ak g1).trans (Ak g2)
 have vo: ∀k q,π' k=some q->(k=l/\q=rl)\/(k≠m/\k≠l/\π k=some q):= λk q hq=>by
  by_cases e1:k=m
  ·subst e1;rw [z9] at hq;cases hq
  ·by_cases e2:k=l
   ·subst e2;rw [LC] at hq;exact .inl ⟨rfl,(Bb hq).symm⟩
   ·rw [iR k e1 e2] at hq;exact .inr ⟨e1,e2,hq⟩
 have Yk:r.o+j+ [vx].length<=cur.toList.length:=by simp;omega
 have tm:=Nu w r.g (Du cur.toList (r.o+j) [vx]).toArray
 have rm: ∀c,c≠r.g->(w.setRow r.g (Du cur.toList (r.o+j) [vx]).toArray).heap[c]?=w.heap[c]?:= λc hc=>setRow_other w r.g c _ hc
 have Aia: ∀k,At (Tw st l j m e te rows xs (bU j kp)).heap k=At (au (Yd (st.heap.map λp=>(p.1,p.2.map (Cr [m] [l]))) [m]) l (.Bl e te (rows.set j xs) none (bU j kp))) k:= λk=>rfl
 have s8:At (Yd (st.heap.map λp=>(p.1,p.2.map (Cr [m] [l]))) [m]) l=some (.Bl e te rows out kp):=by
  rw [Nw,Oz,Ak (by simpa using Gb iO),hl];rfl
 have hHl:At (Tw st l j m e te rows xs (bU j kp)).heap l=some (.Bl e te (rows.set j xs) none (bU j kp)):=(Aia l).trans (Er _ _ _ _ s8)
 have PY: ∀k,k≠m->k≠l->At (Tw st l j m e te rows xs (bU j kp)).heap k=(At st.heap k).map (OB.map (Cr [m] [l])):= λk g1 g2=>by
  rw [Aia,Ea _ _ _ _ g2,Nw,Oz,Ak (by simpa using g1)]
 have hHm:At (Tw st l j m e te rows xs (bU j kp)).heap m=none:=by
  rw [Aia,Ea _ _ _ _ iO,Nw,Ac (by simp)]
 have Ar3:r.cl r.g:=h.1.sub l r _ h2 b1
 have tv: ∀k r0 c,π k=some r0->r0.cl c->k≠l->c≠r.g:= λk r0 c hk hc Iv e=>Iv (h.1.inj k l r0 r c hk h2 hc (e▸Ar3))
 refine ⟨_,π',by simp only [Instr.storeAt,Instr.sureAddr];simpa using Vs,?_⟩
 have Vz:Tw st l j m e te rows xs (bU j kp)= {tmps:=st.tmps.map (·.map (Cr [m] [l])),heap:=(Tw st l j m e te rows xs (bU j kp)).heap} :=rfl
 rw [Vz]
 refine h.nW (by simp [Cr,AC.refs]) (gv:= λc=>c=r.g) (λc hc=>hc▸⟨l,r,h2,b1⟩) ⟨tm.os,tm.tape,tm.output,tm.size,λc _ hc=>rm c hc⟩ (λb _ ⟨k,q,g1,g2⟩=>?_) (λk q b g1 g2=>?_) (λk q b g1 g2=>?_) (λk k' q q' b g1 g2 g3 g4=>?_) (λk hk Iv=>?_)
  (λhc=>nV (D:= λk=>k=m) (Pt:= λk=>k=l) (λc=>?_) (λk hk=>?_) (λk b hk hb=>?_) (λk r0 b hk YH g1 g2 g3=>rm _ (tv k r0 _ g3 (h.1.sub k r0 _ g3 (h.1.Cv g3)) YH)) hc) (λmv k b hb=>?_) (λk hk=>?_)
 ·rcases vo k q g1 with ⟨_,rfl⟩|⟨_,_,e1⟩
  ·rcases g2 with g2|⟨q0,g2,g3⟩
   ·exact ⟨l,r,h2,g2⟩
   ·exact ⟨m,q0,g2,g3⟩
  ·exact ⟨k,q,e1,g2⟩
 ·rcases vo k q g1 with ⟨_,rfl⟩|⟨_,_,e1⟩
  ·rcases g2 with g2|⟨q0,g2,g3⟩
   ·exact .inl (h.1.sub l r b h2 g2)
   ·exact .inr ⟨q0,g2,h.1.sub m q0 b g2 g3⟩
  ·exact h.1.sub k q b e1 g2
 ·have up: ∀k q b,π k=some q->q.cl b->(X.w0.heap.size<=b\/X.gv b)/\b<(w.setRow r.g (Du cur.toList (r.o+j) [vx]).toArray).heap.size:= λk q b e1 e2=>⟨(h.1.place k q b e1 e2).1,Eg (h.1.place k q b e1 e2).2 tm.size⟩
  rcases vo k q g1 with ⟨_,rfl⟩|⟨_,_,e1⟩
  ·rcases g2 with g2|⟨q0,g2,g3⟩
   ·exact up l r b h2 g2
   ·exact up m q0 b g2 g3
  ·exact up k q b e1 g2
 ·rcases vo k q g1 with ⟨e0,rfl⟩|⟨e0,e2,e1⟩<;>rcases vo k' q' g2 with ⟨f0,rfl⟩|⟨f0,f2,f1⟩
  ·rw [e0,f0]
  ·rcases g3 with g3|⟨q0,g3,g5⟩
   ·exact absurd (h.1.inj k' l q' r b f1 h2 g4 g3) f2
   ·exact absurd (h.1.inj k' m q' q0 b f1 g3 g4 g5) f0
  ·rcases g4 with g4|⟨q0,g4,g5⟩
   ·exact absurd (h.1.inj k l q r b e1 h2 g3 g4) e2
   ·exact absurd (h.1.inj k m q q0 b e1 g4 g3 g5) e0
  ·exact h.1.inj k k' q q' b e1 f1 g3 g4
 ·by_cases e1:k=m
  ·subst e1;exact absurd hHm Iv
  have e2:k≠l:=by omega
  rw [iR k e1 e2]
  refine h.1.gW k hk λh0=>Iv ?_
  rw [PY k e1 e2,h0];rfl
 ·rcases qg [m] [l] c with e|⟨e,g,g'⟩
  ·exact .inl e
  ·exact .inr ⟨e,λk hk hkm=>g k hk (by simp [hkm]),λk i j hc Rl=>g' k i j hc (by simp [Rl])⟩
 ·by_cases e2:k=l
  ·subst e2;rw [LC,h2];exact ⟨rfl,rfl,rfl⟩
  ·rw [iR k hk e2];exact fY.rfl' _
 ·by_cases e2:k=l
  ·subst e2
   rw [hl] at hb;cases hb
   exact ⟨_,hHl,⟨λ_ n h=>⟨n,by simpa [OB.row] using h,Ap _⟩,λ_ h=>by simpa [OB.gq] using h,λ_ h=>by simpa [OB.vJ] using h,(λ_ _ h=>by cases h),(λ_ _ h=>by cases h)⟩⟩
  ·exact ⟨_,by rw [PY k hk e2,hb];rfl,OB.Tk.map _ b⟩
 ·by_cases e1:k=m
  ·subst e1;rw [hHm] at hb;cases hb
  by_cases e2:k=l
  ·subst e2
   rw [hHl] at hb;cases hb
   rw [LC]
   have hat: ∀p,(Du cur.toList (r.o+j) [vx]).toArray[r.o+p]?=if p=j then some vx else cur[r.o+p]?:= λp=>by
    rw [Ij,Ii _ _ _ _ Yk]
    by_cases hpj:p=j
    ·subst hpj
     rw [Ak (by omega),Ac (by simp),Ac rfl]
     simp
    ·rw [Ak hpj]
     split
     ·simp
     ·rw [Ak (by simp;omega)];simp
   have QA:=setRow_heap w r.g cur (Du cur.toList (r.o+j) [vx]).toArray ti _ b2
   refine ⟨⟨.inl b1,_,_,QA,by rw [Gt,Je _ _ _ Yk,Xu];exact b3,b4,by simpa using b5,Rs.set j R,by simpa using b6,λp q hq=>?_,λp p' q q' hq gm he=>?_,λp y hy _=>?_⟩,?_⟩
   ·rw [Ds] at hq
    split at hq
    ·split at hq
     ·have hq:=Bb hq
      exact ⟨.inr ⟨q,hq,(Wk q hq).1⟩,(Wk q hq).2.2⟩
     ·cases hq
    ·exact ⟨.inl (b7 p q hq).1,(b7 p q hq).2⟩
   ·rw [Ds] at hq gm
    split at hq
    ·rename_i hjp
     split at hq
     ·have hq:=Bb hq
      split at gm
      ·rename_i Aro;rw [<-hjp,<-Aro]
      ·exact absurd (h.1.apart hq h2 (Wk q hq).1 (he▸(b7 p' q' gm).1)) iO
     ·cases hq
    ·split at gm
     ·split at gm
      ·have gm:=Bb gm
       exact absurd (h.1.apart gm h2 (Wk q' gm).1 (he▸(b7 p q hq).1)) iO
      ·cases gm
     ·exact b8 p p' q q' hq gm he
   ·rw [Ds] at hy
    split at hy
    ·rename_i hjp
     subst hjp
     have hy:=Bb hy
     subst hy
     exact ⟨vx,R,by rw [hat,Ac rfl],by rw [Ds,Ac rfl,Ac (by omega)],vr,hfa.to (λq hq=>rm _ (Wk q hq).2.2) λes y hc=>mv.cells false e es y hc⟩
    ·rename_i hjp
     obtain ⟨u',R',q1,q2,q3,q4⟩:=b9 p y hy (by rcases ho with ho|ho<;>rw [ho]<;>simp [hjp])
     refine ⟨u',R',by rw [hat,Ak (Gb hjp)];exact q1,by rw [Ds,Ak hjp];exact q2,q3,q4.to (λq hq=>rm _ ?_) λes y hc=>mv.cells false e es y hc⟩
     subst hq
     exact (b7 p q q2).2
   ·cases kp with
    |none=>trivial
    |some p=>
     obtain ⟨l0,n0⟩:=p
     simp only [KeptAt,bU] at tt⊢
     cases SU:X.gW l0 with
     |none=>rw [SU] at tt;exact tt.elim
     |some r0=>
      rw [SU] at tt
      obtain ⟨g1,g2,g3,g4⟩:=tt
      refine ⟨g1,g2,g3,λp hp hc=>?_⟩
      have WH:p<n0/\p<j:=by omega
      rw [<-g4 p WH.1 hc,<-g1,<-g2,cellOf QA,cellOf b2,hat,Ak (by omega)]
  ·rw [PY k e1 e2] at hb
   cases hk:At st.heap k with
   |none=>rw [hk] at hb;cases hb
   |some b1=>
    rw [hk] at hb
    simp only [Am,Aa] at hb;subst hb
    rw [iR k e1 e2]
    exact ((h.1.heap k).Rp hk).move mv tm.size (λr0 c h0 h1=>h.1.sub _ r0 c h0 h1) λr0 c h0 h1 _=>rm c (tv k r0 c h0 h1 e2)
 ·have e2:k≠l:= λe=>by subst e;rw [hHl] at hk;cases hk
  by_cases e1:k=m
  ·subst e1;exact z9
  rw [PY k e1 e2] at hk
  rw [iR k e1 e2]
  cases vL:At st.heap k with
  |none=>exact (h.1.heap k).emp vL
  |some b=>rw [vL] at hk;cases hk
end
end Go.Proofs.Ytkkdpknjohcekaa
