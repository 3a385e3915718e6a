/-
  Part 20 of the proof that the statement FnExactSolveTwoPhaseWithin holds.
-/
import Derived.Test.YtfgfigkbgecfnaaCSolveTwoPhaseWithin18
namespace Go.Proofs.Ytfgfigkbgecfnaa
open Go.RowKit
section
variable {P:Program} {T:Tab} {X:Ctx} {w w':World} {π π':Pi} {H H':List (Nat×OB)}
theorem qS (dead part:List Nat) (c:AC):Cz dead part c= .undef\/(Cz dead part c=c/\(∀k∈c.refs,k∉dead)/\ ∀k i j,c= .sub k i j\/c= .Kl k i j->k∉part):=by
 by_cases hu:Cz dead part c= .undef
 ·exact .inl hu
 have hr:=o3 hu
 have hp: ∀l i j,c= .sub l i j\/c= .Kl l i j->l∉part:=by
  intro l i j e hm;refine hu ?_;unfold Cz;rcases e with rfl|rfl
  all_goals
   split
   ·rfl
   ·simp [hm]
 exact .inr ⟨di hr hp,hr,hp⟩
theorem Acq {τ:Ty} (h:τ.Ar=false):τ.size=1:=by cases τ<;>simp_all [Ty.Ar,Ty.size]
theorem LO (hT:Ec P T) {st:St} {a:Act} (h:Bs X π st a w) {t:TypeId} {τ:Ty} (ht:T.ty t=some τ) (Up:τ.Ar=false) {l j m:Nat} {e:Ty} {te tid:TypeId} {rows:List (List e.den)} {xs:List e.den} {out:Option Nat} {kp:Option (Nat×Nat)} {fr tr:Bool}
  (hl:Ay st.heap l=some (.Ca e te rows out kp)) (ho:out=none\/out=some j) (l8:m≠l) (hm:Ay st.heap m=some (.arr fr tr e tid xs)) (ud:l<Bv)
  {vp vx:Value} (hp:Hw X w π st.heap (.Kq l j) vp) (hx:Hw X w π st.heap (.own m 0 (List.length xs)) vx):
  ∃w' π',(Instr.storeAt t vp vx).run P w= .ok () w'/\Bs X π' (Un st l j m e te rows xs (cm j kp)) a w':=by
 have Uj:τ.size=1:=Acq Up;obtain ⟨r,b0,sz,n,h1,h0,h3,h2,rfl⟩:=hp;rw [hl] at h1;cases h1;simp only [OB.row,Aa,Ag] at h0;obtain ⟨rfl,rfl⟩:=h0;rw [Gm];obtain ⟨_,wo⟩:=Pe (X:=X) (w:=w) hx hm;obtain ⟨ax,nx,cx,hvx⟩:=bp wo;have hb:=(h.1.heap l).Se hl;simp only [Cq] at hb;obtain ⟨hb,ub⟩:=hb;rw [h2] at hb ub;obtain ⟨b1,cur,ti,b2,b3,b4,b5,Rs,b6,b7,b8,b9⟩:=hb;have LC:=(h.1.heap m).Se hm;simp only [Cq,Km] at LC;have Wj:=Xi (P:=P) (w:=w) (hT.ty _ _ ht) r.g (r.o+j) vx [vx] (by rw [hvx];rfl) (by rw [Uj];rfl) (by intro u hu;rw [Af.1 hu,hvx];rfl) cur ti b2 (by simp;omega)
 let R:Option Real:=π m
 have hfa:Tr w (Dk X.w0.heap.size X.Sc π false) R e xs:=by
  show Tr w _ (π m) e xs
  cases hR:π m with
  |none=>rw [hR] at LC;exact LC
  |some q=>
   rw [hR] at LC;obtain ⟨⟨f0,f0',_⟩,cu,ti',f2,f3,f4,f5,f6,_⟩:=LC
   exact ⟨⟨f0,f0'⟩,cu,ti',f2,f3,f4,f5,λp y hy=>by
    obtain ⟨es,g1,g2,g3⟩:=f6 p y hy
    exact ⟨es,g1,g2,Cells.Gd (Ap _) (λ_ _ _=>rfl) (λb _ hA=>hA.imp id (Or.imp id λ⟨h1,_⟩=>by cases h1)) e es y g3⟩⟩
 have hRq: ∀q,R=some q->π m=some q:= λq hq=>hq
 have Xa: ∀q,R=some q->q.Df q.g/\q.cl q.g/\q.g≠r.g:= λq hq=>⟨h.1.Df hq,h.1.sub m q _ hq (h.1.Df hq),λe0=>l8 (h.1.apart hq h2 (h.1.Df hq) (e0▸b1))⟩
 let rl:Real:= {r with Df:= λb=>r.Df b\/ ∃q,R=some q/\q.Df b,cl:= λb=>r.cl b\/ ∃q,R=some q/\q.cl b}
 let π':Pi:= λk=>if k=m then none else if k=l then some rl else π k
 have zS:π' m=none:=Ac rfl;have NK:π' l=some rl:=(Ai (Ha l8)).trans (Ac rfl);have ju: ∀k,k≠m->k≠l->π' k=π k:= λk g1 g2=>(Ai g1).trans (Ai g2)
 have wm: ∀k q,π' k=some q->(k=l/\q=rl)\/(k≠m/\k≠l/\π k=some q):= λk q hq=>by
  by_cases e1:k=m
  ·subst e1;rw [zS] at hq;cases hq
  ·by_cases e2:k=l
   ·subst e2;rw [NK] at hq;exact .inl ⟨rfl,(Bi hq).symm⟩
   ·rw [ju k e1 e2] at hq;exact .inr ⟨e1,e2,hq⟩
 have Wz:r.o+j+ [vx].length<=cur.toList.length:=by simp;omega
 have tY:=Oe w r.g (Du cur.toList (r.o+j) [vx]).toArray;have se: ∀c,c≠r.g->(w.setRow r.g (Du cur.toList (r.o+j) [vx]).toArray).heap[c]?=w.heap[c]?:= λc hc=>setRow_other w r.g c _ hc;have Al7: ∀k,Ay (Un st l j m e te rows xs (cm j kp)).heap k=Ay (aN (Yn (st.heap.map λp=>(p.1,p.2.map (Cz [m] [l]))) [m]) l (.Ca e te (rows.set j xs) none (cm j kp))) k:= λk=>rfl
 have GD:Ay (Yn (st.heap.map λp=>(p.1,p.2.map (Cz [m] [l]))) [m]) l=some (.Ca e te rows out kp):=by
  rw [Oh,Pl,Ai (by simpa using Ha l8),hl];rfl
 have hHl:Ay (Un st l j m e te rows xs (cm j kp)).heap l=some (.Ca e te (rows.set j xs) none (cm j kp)):=(Al7 l).trans (Ff _ _ _ _ GD)
 have RY: ∀k,k≠m->k≠l->Ay (Un st l j m e te rows xs (cm j kp)).heap k=(Ay st.heap k).map (OB.map (Cz [m] [l])):= λk g1 g2=>by
  rw [Al7,Ej _ _ _ _ g2,Oh,Pl,Ai (by simpa using g1)]
 have hHm:Ay (Un st l j m e te rows xs (cm j kp)).heap m=none:=by
  rw [Al7,Ej _ _ _ _ l8,Oh,Ac (by simp)]
 have Auv:r.cl r.g:=h.1.sub l r _ h2 b1;have ue: ∀k r0 c,π k=some r0->r0.cl c->k≠l->c≠r.g:= λk r0 c hk hc Ii e=>Ii (h.1.inj k l r0 r c hk h2 hc (e▸Auv));refine ⟨_,π',by simp only [Instr.storeAt,Instr.sureAddr];simpa using Wj,?_⟩;have Sd:Un st l j m e te rows xs (cm j kp)= {tmps:=st.tmps.map (·.map (Cz [m] [l])),heap:=(Un st l j m e te rows xs (cm j kp)).heap} :=rfl;rw [Sd]
 refine h.oJ (by simp [Cz,AC.refs]) (gv:= λc=>c=r.g) (λc hc=>hc▸⟨l,r,h2,b1⟩) ⟨tY.os,tY.tape,tY.output,tY.size,λc _ hc=>se c hc⟩ (λb _ ⟨k,q,g1,g2⟩=>?_) (λk q b g1 g2=>?_) (λk q b g1 g2=>?_) (λk k' q q' b g1 g2 g3 g4=>?_) (λk hk Ii=>?_)
  (λhc=>oI (D:= λk=>k=m) (Pt:= λk=>k=l) (λc=>?_) (λk hk=>?_) (λk b hk hb=>?_) (λk r0 b hk GC g1 g2 g3=>se _ (ue k r0 _ g3 (h.1.sub k r0 _ g3 (h.1.Df g3)) GC)) hc) (λmv k b hb=>?_) (λk hk=>?_)
 ·rcases wm k q g1 with ⟨_,rfl⟩|⟨_,_,e1⟩
  ·rcases g2 with g2|⟨q0,g2,g3⟩
   ·exact ⟨l,r,h2,g2⟩
   ·exact ⟨m,q0,g2,g3⟩
  ·exact ⟨k,q,e1,g2⟩
 ·rcases wm k q g1 with ⟨_,rfl⟩|⟨_,_,e1⟩
  ·rcases g2 with g2|⟨q0,g2,g3⟩
   ·exact .inl (h.1.sub l r b h2 g2)
   ·exact .inr ⟨q0,g2,h.1.sub m q0 b g2 g3⟩
  ·exact h.1.sub k q b e1 g2
 ·have up: ∀k q b,π k=some q->q.cl b->(X.w0.heap.size<=b\/X.gv b)/\b<(w.setRow r.g (Du cur.toList (r.o+j) [vx]).toArray).heap.size:= λk q b e1 e2=>⟨(h.1.place k q b e1 e2).1,Ep (h.1.place k q b e1 e2).2 tY.size⟩
  rcases wm k q g1 with ⟨_,rfl⟩|⟨_,_,e1⟩
  ·rcases g2 with g2|⟨q0,g2,g3⟩
   ·exact up l r b h2 g2
   ·exact up m q0 b g2 g3
  ·exact up k q b e1 g2
 ·rcases wm k q g1 with ⟨e0,rfl⟩|⟨e0,e2,e1⟩<;>rcases wm k' q' g2 with ⟨f0,rfl⟩|⟨f0,f2,f1⟩
  ·rw [e0,f0]
  ·rcases g3 with g3|⟨q0,g3,g5⟩
   ·exact absurd (h.1.inj k' l q' r b f1 h2 g4 g3) f2
   ·exact absurd (h.1.inj k' m q' q0 b f1 g3 g4 g5) f0
  ·rcases g4 with g4|⟨q0,g4,g5⟩
   ·exact absurd (h.1.inj k l q r b e1 h2 g3 g4) e2
   ·exact absurd (h.1.inj k m q q0 b e1 g4 g3 g5) e0
  ·exact h.1.inj k k' q q' b e1 f1 g3 g4
 ·by_cases e1:k=m
  ·subst e1;exact absurd hHm Ii
  have e2:k≠l:=by omega
  rw [ju k e1 e2];refine h.1.iM k hk λh0=>Ii ?_;rw [RY k e1 e2,h0];rfl
 ·rcases qS [m] [l] c with e|⟨e,g,g'⟩
  ·exact .inl e
  ·exact .inr ⟨e,λk hk hkm=>g k hk (by simp [hkm]),λk i j hc Ml=>g' k i j hc (by simp [Ml])⟩
 ·by_cases e2:k=l
  ·subst e2;rw [NK,h2];exact ⟨rfl,rfl,rfl⟩
  ·rw [ju k hk e2];exact gY.rfl' _
 ·by_cases e2:k=l
  ·subst e2;rw [hl] at hb;cases hb;exact ⟨_,hHl,⟨λ_ n h=>⟨n,by simpa [OB.row] using h,Ap _⟩,λ_ h=>by simpa [OB.ic] using h,λ_ h=>by simpa [OB.wE] using h,(λ_ _ h=>by cases h),(λ_ _ h=>by cases h)⟩⟩
  ·exact ⟨_,by rw [RY k hk e2,hb];rfl,OB.Ua.map _ b⟩
 ·by_cases e1:k=m
  ·subst e1;rw [hHm] at hb;cases hb
  by_cases e2:k=l
  ·subst e2;rw [hHl] at hb;cases hb;rw [NK]
   have hat: ∀p,(Du cur.toList (r.o+j) [vx]).toArray[r.o+p]?=if p=j then some vx else cur[r.o+p]?:= λp=>by
    rw [Io,Im _ _ _ _ Wz]
    by_cases hpj:p=j
    ·subst hpj;rw [Ai (by omega),Ac (by simp),Ac rfl];simp
    ·rw [Ai hpj];split
     ·simp
     ·rw [Ai (by simp;omega)];simp
   have SB:=setRow_heap w r.g cur (Du cur.toList (r.o+j) [vx]).toArray ti _ b2;refine ⟨⟨.inl b1,_,_,SB,by rw [Hk,Jf _ _ _ Wz,Yf];exact b3,b4,by simpa using b5,Rs.set j R,by simpa using b6,λp q hq=>?_,λp p' q q' hq iE he=>?_,λp y hy _=>?_⟩,?_⟩
   ·rw [Fb] at hq;split at hq
    ·split at hq
     ·have hq:=Bi hq;exact ⟨.inr ⟨q,hq,(Xa q hq).1⟩,(Xa q hq).2.2⟩
     ·cases hq
    ·exact ⟨.inl (b7 p q hq).1,(b7 p q hq).2⟩
   ·rw [Fb] at hq iE;split at hq
    ·rename_i hjp;split at hq
     ·have hq:=Bi hq;split at iE
      ·rename_i Avk;rw [<-hjp,<-Avk]
      ·exact absurd (h.1.apart hq h2 (Xa q hq).1 (he▸(b7 p' q' iE).1)) l8
     ·cases hq
    ·split at iE
     ·split at iE
      ·have iE:=Bi iE;exact absurd (h.1.apart iE h2 (Xa q' iE).1 (he▸(b7 p q hq).1)) l8
      ·cases iE
     ·exact b8 p p' q q' hq iE he
   ·rw [Fb] at hy;split at hy
    ·rename_i hjp;subst hjp;have hy:=Bi hy;subst hy;exact ⟨vx,R,by rw [hat,Ac rfl],by rw [Fb,Ac rfl,Ac (by omega)],wo,hfa.to (λq hq=>se _ (Xa q hq).2.2) λes y hc=>mv.cells false e es y hc⟩
    ·rename_i hjp
     obtain ⟨u',R',q1,q2,q3,q4⟩:=b9 p y hy (by rcases ho with ho|ho<;>rw [ho]<;>simp [hjp])
     refine ⟨u',R',by rw [hat,Ai (Ha hjp)];exact q1,by rw [Fb,Ai hjp];exact q2,q3,q4.to (λq hq=>se _ ?_) λes y hc=>mv.cells false e es y hc⟩;subst hq;exact (b7 p q q2).2
   ·cases kp with
    |none=>trivial
    |some p=>
     obtain ⟨l0,n0⟩:=p;simp only [KeptAt,cm] at ub⊢
     cases NG:X.iM l0 with
     |none=>rw [NG] at ub;exact ub.elim
     |some r0=>
      rw [NG] at ub;obtain ⟨g1,g2,g3,g4⟩:=ub;refine ⟨g1,g2,g3,λp hp hc=>?_⟩
      have ua:p<n0/\p<j:=by omega
      rw [<-g4 p ua.1 hc,<-g1,<-g2,cellOf SB,cellOf b2,hat,Ai (by omega)]
  ·rw [RY k e1 e2] at hb
   cases hk:Ay st.heap k with
   |none=>rw [hk] at hb;cases hb
   |some b1=>
    rw [hk] at hb;simp only [An,Aa] at hb;subst hb;rw [ju k e1 e2];exact ((h.1.heap k).Se hk).move mv tY.size (λr0 c h0 h1=>h.1.sub _ r0 c h0 h1) λr0 c h0 h1 _=>se c (ue k r0 c h0 h1 e2)
 ·have e2:k≠l:= λe=>by subst e;rw [hHl] at hk;cases hk
  by_cases e1:k=m
  ·subst e1;exact zS
  rw [RY k e1 e2] at hk;rw [ju k e1 e2]
  cases u7:Ay st.heap k with
  |none=>exact (h.1.heap k).emp u7
  |some b=>rw [u7] at hk;cases hk
end
end Go.Proofs.Ytfgfigkbgecfnaa
