/-
  Part 18 of the proof that the statement FnExactBoundHistogram holds.
-/
import Derived.Test.YtjbdmibbbpdnnaaGreatCBoundHistogram16
namespace Go.Proofs.YtjbdmibbbpdnnaaGreat
open Go.RowKit
section
variable {P:Program} {T:Tab} {X:Ctx} {w w':World} {π π':Pi} {H H':List (Nat×OB)}
theorem DT {l:Nat} {e:Ty} {te:TypeId} {rows xe:List (List e.den)} {out bI:Option Nat} {kp:Option (Nat×Nat)} (hl:Ad H l=some (.Al e te rows out kp)) (hn:xe.length=rows.length)
  (hc: ∀fr τ cs x,Cells w (Be X.w0.heap.size X.Sc π fr) τ cs x->Cells w' (Be X.w0.heap.size X.Sc π fr) τ cs x)
  (hg: ∀k r b,Ad H k=some b->b.bj≠none->π k=some r->w'.heap[r.g]?=w.heap[r.g]?): ∀c v,Ea X w π H c v->Ea X w' π (Xu H l (.Al e te xe bI kp)) c v:=by
 have Ue: ∀k b,Ad H k=some b-> ∃b',Ad (Xu H l (.Al e te xe bI kp)) k=some b'/\b'.row=b.row/\b'.bj=b.bj/\b'.pe=b.pe/\(∀tid vs,b= .var tid vs->b'=b)/\ ∀v m,b= .Oo v m->b'=b:= λk b hb=>by
  by_cases e:k=l
  ·subst e
   rw [hl] at hb;cases hb
   exact ⟨_,Cq _ _ _ _ hl,by simp [OB.row,hn],by simp [OB.bj,hn],by simp [OB.pe,hn],(λ_ _ h=>by cases h),(λ_ _ h=>by cases h)⟩
  ·exact ⟨b,(Cj _ _ _ _ e).trans hb,rfl,rfl,rfl,λ_ _ _=>rfl,λ_ _ _=>rfl⟩
 intro c v h
 cases c with
 |data fr τ x=>obtain ⟨cs,h1,h2⟩:=h;exact ⟨cs,hc _ _ _ _ h1,h2⟩
 |own k off len=>
  obtain ⟨b,sz,n,h1,h0,h2,h3⟩:=h
  obtain ⟨b',g1,g2,_⟩:=Ue k b h1
  exact ⟨b',sz,n,g1,g2.trans h0,h2,h3⟩
 |Dy k i=>
  obtain ⟨r,tid,vs,h1,h2,h3⟩:=h
  obtain ⟨b',g1,_,_,_,g2,_⟩:=Ue k _ h1
  rw [g2 tid vs rfl] at g1
  exact ⟨r,tid,vs,g1,h2,h3⟩
 |Fz k i=>
  obtain ⟨r,b,sz,n,h1,h0,h2,h3,h4⟩:=h
  obtain ⟨b',g1,g2,_⟩:=Ue k b h1
  exact ⟨r,b',sz,n,g1,g2.trans h0,h2,h3,h4⟩
 |sub k i c=>
  obtain ⟨r,b,sz,n,h1,h0,h2,h3,h4,h5⟩:=h
  obtain ⟨b',g1,_,g2,_⟩:=Ue k b h1
  exact ⟨r,b',sz,n,g1,g2.trans h0,h2,h3,h4,by rw [World.cell?_of_block (hg k r b h1 (by rw [h0];simp) h2)];exact h5⟩
 |Fw k i c=>
  obtain ⟨r,b,n,sz,g,o,len,cap,h1,h0,h2,h3,h4,h5,h6⟩:=h
  obtain ⟨b',g1,_,_,g2,_⟩:=Ue k b h1
  exact ⟨r,b',n,sz,g,o,len,cap,g1,g2.trans h0,h2,h3,h4,by rw [World.cell?_of_block (hg k r b h1 (by cases b<;>first|(cases h0;done)|simp [OB.bj]) h2)];exact h5,h6⟩
 |clo f Bw=>
  obtain ⟨us,h1,h2,h3⟩:=h
  refine ⟨us,h1,h2,λj p hp=>?_⟩
  obtain ⟨r,tid,vs,h4,h5,h6⟩:=h3 j p hp
  obtain ⟨b',g1,_,_,_,g2,_⟩:=Ue p.1 _ h4
  rw [g2 tid vs rfl] at g1
  exact ⟨r,tid,vs,g1,h5,h6⟩
 |Ge k=>
  obtain ⟨r,vt,m,h1,h2,h3⟩:=h
  obtain ⟨b',g1,_,_,_,_,g2⟩:=Ue k _ h1
  rw [g2 vt m rfl] at g1
  exact ⟨r,vt,m,g1,h2,h3⟩
 |_=>exact h
theorem ua (hT:Cb P T) {st:St} {a:Act} (h:Aj X π st a w) {t:TypeId} {e:Ty} (ht:T.ty t=some e) {l i j:Nat} {te:TypeId} {rows:List (List e.den)} {kp:Option (Nat×Nat)} (hl:Ad st.heap l=some (.Al e te rows none kp))
  {vp vx:Value} {fr:Bool} {x:e.den} (hp:Ea X w π st.heap (.Fw l i j) vp) (hx:Bd w (Be X.w0.heap.size X.Sc π fr) e vx x) (vW:fr=false):
  ∃w',(Instr.storeAt t vp vx).run P w= .ok () w'/\Aj X π (st.Gc l (.Al e te (rows.set i ((rows.getD i []).set j x)) none kp)) a w':=by
 subst vW
 obtain ⟨r,b,n,sz,g,o,len,cap,h1,h0,h2,h3,h4,h5,rfl⟩:=hp
 rw [hl] at h1;cases h1
 simp only [OB.pe,Option.some.injEq,Prod.mk.injEq] at h0
 obtain ⟨rfl,rfl⟩:=h0
 have hb:=(h.1.heap l).blk hl
 simp only [Av] at hb
 obtain ⟨hb,mZ⟩:=hb
 rw [h2] at hb
 obtain ⟨b1,cur,ti,b2,b3,b4,b5,Rs,b6,b7,b8,b9⟩:=hb
 have Tt:rows[i]?=some (rows.getD i []):=by rw [List.getD_eq_getElem?_getD,List.getElem?_eq_getElem h3];rfl
 obtain ⟨u,R,k1,k2,k3,k4⟩:=b9 i _ Tt (by simp)
 rw [cellOf b2,k1] at h5
 have hu:=Option.some.inj h5
 subst hu
 cases R with
 |none=>obtain ⟨hh,_⟩:=k3;cases hh
 |some q=>
  obtain ⟨ad,hh,g1,g2⟩:=k3
  simp only [Value.slice.injEq,Option.some.injEq] at hh
  obtain ⟨rfl,rfl,rfl⟩:=hh
  have yL:=g2 (by omega)
  simp only [Addr.mk.injEq,and_true] at yL
  obtain ⟨rfl,rfl⟩:=yL
  obtain ⟨f1,cu,NH,f2,f3,f4,f5,f6⟩:=k4
  obtain ⟨XX,hqg⟩:=b7 i q k2
  obtain ⟨es,bK,hv⟩:=hx
  have gQ:=Cells.len e es x bK
  have ON:(q.o+0)*e.size+j*e.size=(q.o+j)*e.size:=by rw [Nat.add_zero,<-Nat.add_mul]
  have Qp:(q.o+j)*e.size+es.length<=cu.size:=by
   have:(q.o+j+1)*e.size<=(q.o+q.cap)*e.size:=Nat.mul_le_mul_right _ (by omega)
   rw [Nat.add_mul (q.o+j) 1,Nat.one_mul] at this
   omega
  have Sa:(q.o+j)*e.size+es.length<=cu.toList.length:=by simpa using Qp
  have On:=Po (P:=P) (w:=w) (hT.ty _ _ ht) q.g ((q.o+j)*e.size) vx es (by rw [hv];exact Gk e es x bK) gQ (Cells.plain e es x bK) cu NH f2 Qp
  have hqo:Na π q.g:=⟨l,r,h2,XX⟩
  have Ly:r.cl q.g:=h.1.sub l r _ h2 XX
  have mV:=Ig w q.g (Bs cu.toList ((q.o+j)*e.size) es).toArray
  have lp: ∀c,c≠q.g->(w.setRow q.g (Bs cu.toList ((q.o+j)*e.size) es).toArray).heap[c]?=w.heap[c]?:= λc hc=>setRow_other w q.g c _ hc
  refine ⟨_,by simp only [Instr.storeAt,Instr.sureAddr];rw [ON];simpa using On,?_⟩
  have UW:(st.Gc l (.Al e te (rows.set i ((rows.getD i []).set j x)) none kp))= {tmps:=st.tmps.map (·.map λc=>c),heap:=Xu st.heap l (.Al e te (rows.set i ((rows.getD i []).set j x)) none kp)} :=by
   unfold St.Gc
   congr 1
   exact ((List.map_congr_left λc _=>AC.map_id c).trans (List.map_id'' (λ_=>rfl) st.tmps)).symm
  rw [UW]
  have nc: ∀k r0 c,π k=some r0->r0.cl c->k≠l->c≠q.g:= λk r0 c hk hc Fc e=>Fc (h.1.inj k l r0 r c hk h2 hc (e▸Ly))
  refine h.iw rfl (gv:= λc=>c=q.g) (λc hc=>hc▸hqo) ⟨mV.os,mV.tape,mV.output,mV.size,λc _ hc=>lp c hc⟩ (λ_ _ ho=>ho) h.1.sub (λk r0 c hk hc=>⟨(h.1.place k r0 c hk hc).1,Nat.lt_of_lt_of_le (h.1.place k r0 c hk hc).2 mV.size⟩) h.1.inj
   (λk hk Fc=>h.1.cO k hk λh0=>Fc ?_) (λhc=>DT hl (by simp) hc λk r0 b0 g1 g2 g3=>lp _ λe=>?_) (λm k b0 hk=>?_) (λk hk=>?_)
  ·have:k≠l:= λe=>by subst e;rw [hl] at h0;cases h0
   rw [Cj _ _ _ _ this];exact h0
  ·by_cases Mj:k=l
   ·subst Mj;rw [h2] at g3;cases g3;exact hqg e.symm
   ·exact nc k r0 _ g3 (h.1.sub k r0 _ g3 (h.1.Ay g3)) Mj e
  ·by_cases Mj:k=l
   ·subst Mj
    rw [Cq _ _ _ _ hl] at hk;cases hk
    show bO X _ π (π k) e _ none kp
    rw [h2]
    refine ⟨⟨b1,cur,ti,(lp _ (Ne.symm hqg)).trans b2,b3,b4,by simpa using b5,Rs,by simpa using b6,b7,b8,λi' y hy _=>?_⟩,(h2▸mZ).Cr λq' eA=>by cases eA;exact lp _ (Ne.symm hqg)⟩
    rw [List.getElem?_set] at hy
    split at hy
    ·rename_i RT;subst RT
     have hy:=Option.some.inj hy
     subst hy
     refine ⟨_,some q,k1,k2,⟨_,by rw [List.length_set],by simpa using g1,λ_=>rfl⟩,?_⟩
     refine ⟨f1,_,_,setRow_heap w q.g cu _ NH _ f2,by rw [List.size_toArray,Et _ _ _ Sa,Array.length_toList];exact f3,f4,by simpa using f5,λj' y hy=>?_⟩
     rw [List.getElem?_set] at hy
     split at hy
     ·rename_i hjj;subst hjj
      have hy:=Option.some.inj hy
      subst hy
      refine ⟨es,gQ,λp v EE=>?_,m.cells false e es x bK⟩
      have hp:p<es.length:=(List.getElem?_eq_some_iff.1 EE).1
      rw [List.getElem?_toArray,Ei _ _ _ _ Sa,if_neg (by omega),if_pos (by omega)]
      rw [show (q.o+j)*e.size+p-(q.o+j)*e.size=p by omega];exact EE
     ·rename_i hjj
      obtain ⟨iV,MZ,mX,vU⟩:=f6 j' y hy
      refine ⟨iV,MZ,λp v EE=>?_,m.cells false e iV y vU⟩
      have hp:p<iV.length:=(List.getElem?_eq_some_iff.1 EE).1
      have:=mX p v EE
      rw [List.getElem?_toArray,Ei _ _ _ _ Sa]
      rcases bS (o:=q.o) (i:=j') (j:=j) (s:=e.size) (p:=p) (λe=>hjj e.symm) (by omega) with Gt|pf
      ·rw [if_pos Gt];simpa using this
      ·rw [if_neg (by omega),if_neg (by omega)];simpa using this
    ·rename_i RT
     obtain ⟨u',R',q1,q2,q3,q4⟩:=b9 i' y hy (by simp)
     refine ⟨u',R',q1,q2,q3,q4.to (λq' eA=>lp _ λe=>RT ?_) λes y hc=>m.cells false e es y hc⟩
     subst eA
     exact b8 i i' q q' k2 q2 e.symm
   ·rw [Cj _ _ _ _ Mj] at hk
    have:=((h.1.heap k).blk hk).move m mV.size (λr0 c h0 h1=>h.1.sub _ r0 c h0 h1) λr0 c h0 h1 _=>lp c (nc k r0 c h0 h1 Mj)
    cases b0 with
    |var tid vs=>simpa [OB.map] using this
    |_=>exact this
  ·have Mj:k≠l:= λe=>by subst e;rw [Cq _ _ _ _ hl] at hk;cases hk
   rw [Cj _ _ _ _ Mj] at hk
   exact (h.1.heap k).emp hk
end
end Go.Proofs.YtjbdmibbbpdnnaaGreat
