/-
  Part 20 of the proof that the statement FnExactIsMethodSolution holds.
-/
import Derived.Test.YtebabhocakedaaaCIsMethodSolution18
namespace Go.Proofs.Ytebabhocakedaaa
open Go.RowKit
section
variable {P:Program} {T:Tab} {X:Ctx} {w w':World} {π π':Pi} {H H':List (Nat×OB)}
theorem Ago (dead part:List Nat) (c:AC):At dead part c= .undef∨(At dead part c=c∧(∀k∈c.refs,k∉dead)∧ ∀k i j,c= .sub k i j∨c= .sptr k i j→k∉part):=by
 by_cases hu:At dead part c= .undef
 ·exact .inl hu
 have hr:=Adv hu
 have hp: ∀l i j,c= .sub l i j∨c= .sptr l i j→l∉part:=by
  intro l i j e hm
  refine hu ?_
  unfold At
  rcases e with rfl|rfl
  all_goals
   split
   ·rfl
   ·simp [hm]
 exact .inr ⟨Sf hr hp,hr,hp⟩
theorem Bcb {τ:Ty} (h:τ.Ab=false):τ.size=1:=by cases τ<;>simp_all [Ty.Ab,Ty.size]
theorem Auz (hT:Bt P T) {st:St} {a:Act} (h:Af X π st a w) {t:TypeId} {τ:Ty} (ht:T.ty t=some τ) (hτ:τ.Ab=false) {l j m:Nat} {e:Ty} {te tid:TypeId} {rows:List (List e.den)} {xs:List e.den} {out:Option Nat} {kp:Option (Nat×Nat)} {fr tr:Bool}
  (hl:Ac st.heap l=some (.grid e te rows out kp)) (ho:out=none∨out=some j) (hml:m≠l) (hm:Ac st.heap m=some (.arr fr tr e tid xs)) (hlp:l<Ag)
  {vp vx:Value} (hp:Df X w π st.heap (.eptr l j) vp) (hx:Df X w π st.heap (.own m 0 (List.length xs)) vx):
  ∃w' π',(Instr.storeAt t vp vx).run P w= .ok () w'∧Af X π' (Kr st l j m e te rows xs (Rh j kp)) a w':=by
 have hsz:τ.size=1:=Bcb hτ
 obtain ⟨r,b0,sz,n,h1,h0,h3,h2,rfl⟩:=hp
 rw [hl] at h1;cases h1
 simp only [OB.row,Option.some.injEq,Prod.mk.injEq] at h0
 obtain ⟨rfl,rfl⟩:=h0
 rw [Nat.mul_one]
 obtain ⟨_,hov⟩:=Ht (X:=X) (w:=w) hx hm
 obtain ⟨ax,nx,cx,hvx⟩:=Qb hov
 have hb:=(h.1.heap l).blk hl
 simp only [Aq] at hb
 obtain ⟨hb,hkp⟩:=hb
 rw [h2] at hb hkp
 obtain ⟨b1,cur,ti,b2,b3,b4,b5,Rs,b6,b7,b8,b9⟩:=hb
 have hbm:=(h.1.heap m).blk hm
 simp only [Aq,El] at hbm
 have hrun:=Ml (P:=P) (w:=w) (hT.ty _ _ ht) r.g (r.o+j) vx [vx] (by rw [hvx];rfl) (by rw [hsz];rfl) (by intro u hu;rw [List.mem_singleton.1 hu,hvx];rfl) cur ti b2 (by simp;omega)
 let R:Option Real:=π m
 have hfa:Kf w (Bb X.w0.heap.size X.Sc π false) R e xs:=by
  show Kf w _ (π m) e xs
  cases hR:π m with
  |none=>rw [hR] at hbm;exact hbm
  |some q=>
   rw [hR] at hbm
   obtain ⟨⟨f0,f0',_⟩,cu,ti',f2,f3,f4,f5,f6,_⟩:=hbm
   exact ⟨⟨f0,f0'⟩,cu,ti',f2,f3,f4,f5,fun p y hy=>by
    obtain ⟨es,g1,g2,g3⟩:=f6 p y hy
    exact ⟨es,g1,g2,Cells.Ch (Nat.le_refl _) (fun _ _ _=>rfl) (fun b _ hA=>hA.imp id (Or.imp id fun ⟨h1,_⟩=>by cases h1)) e es y g3⟩⟩
 have hRq: ∀q,R=some q→π m=some q:=fun q hq=>hq
 have hfoot: ∀q,R=some q→q.Av q.g∧q.cl q.g∧q.g≠r.g:=fun q hq=>⟨h.1.Av hq,h.1.sub m q _ hq (h.1.Av hq),fun e0=>hml (h.1.apart hq h2 (h.1.Av hq) (e0▸b1))⟩
 let rl:Real:= {r with Av:=fun b=>r.Av b∨ ∃q,R=some q∧q.Av b,cl:=fun b=>r.cl b∨ ∃q,R=some q∧q.cl b}
 let π':Pi:=fun k=>if k=m then none else if k=l then some rl else π k
 have hπm:π' m=none:=if_pos rfl
 have hπl:π' l=some rl:=(if_neg (Ne.symm hml)).trans (if_pos rfl)
 have hπo: ∀k,k≠m→k≠l→π' k=π k:=fun k g1 g2=>(if_neg g1).trans (if_neg g2)
 have cas: ∀k q,π' k=some q→(k=l∧q=rl)∨(k≠m∧k≠l∧π k=some q):=fun k q hq=>by
  by_cases e1:k=m
  ·subst e1;rw [hπm] at hq;cases hq
  ·by_cases e2:k=l
   ·subst e2;rw [hπl] at hq;exact .inl ⟨rfl,(Option.some.inj hq).symm⟩
   ·rw [hπo k e1 e2] at hq;exact .inr ⟨e1,e2,hq⟩
 have hfit:r.o+j+ [vx].length≤cur.toList.length:=by simp;omega
 have hgr:=Gw w r.g (Bl cur.toList (r.o+j) [vx]).toArray
 have hoth: ∀c,c≠r.g→(w.setRow r.g (Bl cur.toList (r.o+j) [vx]).toArray).heap[c]?=w.heap[c]?:=fun c hc=>setRow_other w r.g c _ hc
 have hst1: ∀k,Ac (Kr st l j m e te rows xs (Rh j kp)).heap k=Ac (Tj (Mx (st.heap.map fun p=>(p.1,p.2.map (At [m] [l]))) [m]) l (.grid e te (rows.set j xs) none (Rh j kp))) k:=fun k=>rfl
 have hl1:Ac (Mx (st.heap.map fun p=>(p.1,p.2.map (At [m] [l]))) [m]) l=some (.grid e te rows out kp):=by
  rw [Gx,Hw,if_neg (by simpa using Ne.symm hml),hl];rfl
 have hHl:Ac (Kr st l j m e te rows xs (Rh j kp)).heap l=some (.grid e te (rows.set j xs) none (Rh j kp)):=(hst1 l).trans (Cf _ _ _ _ hl1)
 have hHo: ∀k,k≠m→k≠l→Ac (Kr st l j m e te rows xs (Rh j kp)).heap k=(Ac st.heap k).map (OB.map (At [m] [l])):=fun k g1 g2=>by
  rw [hst1,Cb _ _ _ _ g2,Gx,Hw,if_neg (by simpa using g1)]
 have hHm:Ac (Kr st l j m e te rows xs (Rh j kp)).heap m=none:=by
  rw [hst1,Cb _ _ _ _ hml,Gx,if_pos (by simp)]
 have hclr:r.cl r.g:=h.1.sub l r _ h2 b1
 have hnot: ∀k r0 c,π k=some r0→r0.cl c→k≠l→c≠r.g:=fun k r0 c hk hc hne e=>hne (h.1.inj k l r0 r c hk h2 hc (e▸hclr))
 refine ⟨_,π',by simp only [Instr.storeAt,Instr.sureAddr];simpa using hrun,?_⟩
 have hst:Kr st l j m e te rows xs (Rh j kp)= {tmps:=st.tmps.map (·.map (At [m] [l])),heap:=(Kr st l j m e te rows xs (Rh j kp)).heap} :=rfl
 rw [hst]
 refine h.Aeg (by simp [At,AC.refs]) (gv:=fun c=>c=r.g) (fun c hc=>hc▸⟨l,r,h2,b1⟩) ⟨hgr.os,hgr.tape,hgr.output,hgr.size,fun c _ hc=>hoth c hc⟩ (fun b _ ⟨k,q,g1,g2⟩=>?_) (fun k q b g1 g2=>?_) (fun k q b g1 g2=>?_) (fun k k' q q' b g1 g2 g3 g4=>?_) (fun k hk hne=>?_)
  (fun hc=>Aef (D:=fun k=>k=m) (Pt:=fun k=>k=l) (fun c=>?_) (fun k hk=>?_) (fun k b hk hb=>?_) (fun k r0 b hk hk2 g1 g2 g3=>hoth _ (hnot k r0 _ g3 (h.1.sub k r0 _ g3 (h.1.Av g3)) hk2)) hc) (fun mv k b hb=>?_) (fun k hk=>?_)
 ·rcases cas k q g1 with ⟨_,rfl⟩|⟨_,_,e1⟩
  ·rcases g2 with g2|⟨q0,g2,g3⟩
   ·exact ⟨l,r,h2,g2⟩
   ·exact ⟨m,q0,g2,g3⟩
  ·exact ⟨k,q,e1,g2⟩
 ·rcases cas k q g1 with ⟨_,rfl⟩|⟨_,_,e1⟩
  ·rcases g2 with g2|⟨q0,g2,g3⟩
   ·exact .inl (h.1.sub l r b h2 g2)
   ·exact .inr ⟨q0,g2,h.1.sub m q0 b g2 g3⟩
  ·exact h.1.sub k q b e1 g2
 ·have up: ∀k q b,π k=some q→q.cl b→(X.w0.heap.size≤b∨X.gv b)∧b<(w.setRow r.g (Bl cur.toList (r.o+j) [vx]).toArray).heap.size:=fun k q b e1 e2=>⟨(h.1.place k q b e1 e2).1,Nat.lt_of_lt_of_le (h.1.place k q b e1 e2).2 hgr.size⟩
  rcases cas k q g1 with ⟨_,rfl⟩|⟨_,_,e1⟩
  ·rcases g2 with g2|⟨q0,g2,g3⟩
   ·exact up l r b h2 g2
   ·exact up m q0 b g2 g3
  ·exact up k q b e1 g2
 ·rcases cas k q g1 with ⟨e0,rfl⟩|⟨e0,e2,e1⟩<;>rcases cas k' q' g2 with ⟨f0,rfl⟩|⟨f0,f2,f1⟩
  ·rw [e0,f0]
  ·rcases g3 with g3|⟨q0,g3,g5⟩
   ·exact absurd (h.1.inj k' l q' r b f1 h2 g4 g3) f2
   ·exact absurd (h.1.inj k' m q' q0 b f1 g3 g4 g5) f0
  ·rcases g4 with g4|⟨q0,g4,g5⟩
   ·exact absurd (h.1.inj k l q r b e1 h2 g3 g4) e2
   ·exact absurd (h.1.inj k m q q0 b e1 g4 g3 g5) e0
  ·exact h.1.inj k k' q q' b e1 f1 g3 g4
 ·by_cases e1:k=m
  ·subst e1;exact absurd hHm hne
  have e2:k≠l:=by omega
  rw [hπo k e1 e2]
  refine h.1.pin k hk fun h0=>hne ?_
  rw [hHo k e1 e2,h0];rfl
 ·rcases Ago [m] [l] c with e|⟨e,g,g'⟩
  ·exact .inl e
  ·exact .inr ⟨e,fun k hk hkm=>g k hk (by simp [hkm]),fun k i j hc hkl=>g' k i j hc (by simp [hkl])⟩
 ·by_cases e2:k=l
  ·subst e2;rw [hπl,h2];exact ⟨rfl,rfl,rfl⟩
  ·rw [hπo k hk e2];exact Wx.Hl _
 ·by_cases e2:k=l
  ·subst e2
   rw [hl] at hb;cases hb
   exact ⟨_,hHl,⟨fun _ n h=>⟨n,by simpa [OB.row] using h,Nat.le_refl _⟩,fun _ h=>by simpa [OB.inn] using h,fun _ h=>by simpa [OB.gsz] using h,(fun _ _ h=>by cases h),(fun _ _ h=>by cases h)⟩⟩
  ·exact ⟨_,by rw [hHo k hk e2,hb];rfl,OB.Kl.map _ b⟩
 ·by_cases e1:k=m
  ·subst e1;rw [hHm] at hb;cases hb
  by_cases e2:k=l
  ·subst e2
   rw [hHl] at hb;cases hb
   rw [hπl]
   have hat: ∀p,(Bl cur.toList (r.o+j) [vx]).toArray[r.o+p]?=if p=j then some vx else cur[r.o+p]?:=fun p=>by
    rw [List.getElem?_toArray,Dl _ _ _ _ hfit]
    by_cases hpj:p=j
    ·subst hpj
     rw [if_neg (by omega),if_pos (by simp),if_pos rfl]
     simp
    ·rw [if_neg hpj]
     split
     ·simp
     ·rw [if_neg (by simp;omega)];simp
   have hheap:=setRow_heap w r.g cur (Bl cur.toList (r.o+j) [vx]).toArray ti _ b2
   refine ⟨⟨.inl b1,_,_,hheap,by rw [List.size_toArray,Dx _ _ _ hfit,Array.length_toList];exact b3,b4,by simpa using b5,Rs.set j R,by simpa using b6,fun p q hq=>?_,fun p p' q q' hq hq' he=>?_,fun p y hy _=>?_⟩,?_⟩
   ·rw [List.getElem?_set] at hq
    split at hq
    ·split at hq
     ·have hq:=Option.some.inj hq
      exact ⟨.inr ⟨q,hq,(hfoot q hq).1⟩,(hfoot q hq).2.2⟩
     ·cases hq
    ·exact ⟨.inl (b7 p q hq).1,(b7 p q hq).2⟩
   ·rw [List.getElem?_set] at hq hq'
    split at hq
    ·rename_i hjp
     split at hq
     ·have hq:=Option.some.inj hq
      split at hq'
      ·rename_i hjp';rw [←hjp,←hjp']
      ·exact absurd (h.1.apart hq h2 (hfoot q hq).1 (he▸(b7 p' q' hq').1)) hml
     ·cases hq
    ·split at hq'
     ·split at hq'
      ·have hq':=Option.some.inj hq'
       exact absurd (h.1.apart hq' h2 (hfoot q' hq').1 (he▸(b7 p q hq).1)) hml
      ·cases hq'
     ·exact b8 p p' q q' hq hq' he
   ·rw [List.getElem?_set] at hy
    split at hy
    ·rename_i hjp
     subst hjp
     have hy:=Option.some.inj hy
     subst hy
     exact ⟨vx,R,by rw [hat,if_pos rfl],by rw [List.getElem?_set,if_pos rfl,if_pos (by omega)],hov,hfa.to (fun q hq=>hoth _ (hfoot q hq).2.2) fun es y hc=>mv.cells false e es y hc⟩
    ·rename_i hjp
     obtain ⟨u',R',q1,q2,q3,q4⟩:=b9 p y hy (by rcases ho with ho|ho<;>rw [ho]<;>simp [hjp])
     refine ⟨u',R',by rw [hat,if_neg (Ne.symm hjp)];exact q1,by rw [List.getElem?_set,if_neg hjp];exact q2,q3,q4.to (fun q hq=>hoth _ ?_) fun es y hc=>mv.cells false e es y hc⟩
     subst hq
     exact (b7 p q q2).2
   ·cases kp with
    |none=>trivial
    |some p=>
     obtain ⟨l0,n0⟩:=p
     simp only [KeptAt,Rh] at hkp⊢
     cases hpn:X.pin l0 with
     |none=>rw [hpn] at hkp;exact hkp.elim
     |some r0=>
      rw [hpn] at hkp
      obtain ⟨g1,g2,g3,g4⟩:=hkp
      refine ⟨g1,g2,g3,fun p hp hc=>?_⟩
      have hkj:p<n0∧p<j:=by omega
      rw [←g4 p hkj.1 hc,←g1,←g2,cellOf hheap,cellOf b2,hat,if_neg (by omega)]
  ·rw [hHo k e1 e2] at hb
   cases hk:Ac st.heap k with
   |none=>rw [hk] at hb;cases hb
   |some b1=>
    rw [hk] at hb
    simp only [Option.map_some,Option.some.injEq] at hb;subst hb
    rw [hπo k e1 e2]
    exact ((h.1.heap k).blk hk).move mv hgr.size (fun r0 c h0 h1=>h.1.sub _ r0 c h0 h1) fun r0 c h0 h1 _=>hoth c (hnot k r0 c h0 h1 e2)
 ·have e2:k≠l:=fun e=>by subst e;rw [hHl] at hk;cases hk
  by_cases e1:k=m
  ·subst e1;exact hπm
  rw [hHo k e1 e2] at hk
  rw [hπo k e1 e2]
  cases hk0:Ac st.heap k with
  |none=>exact (h.1.heap k).emp hk0
  |some b=>rw [hk0] at hk;cases hk
end
end Go.Proofs.Ytebabhocakedaaa
