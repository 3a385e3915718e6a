/-
  Part 18 of the proof that the statement FnExactLowerBounds holds.
-/
import Derived.Test.YtfolipnappekaaaGreatCLowerBounds16
namespace Go.Proofs.YtfolipnappekaaaGreat
open Go.RowKit
section
variable {P:Program} {T:Tab} {X:Ctx} {w w':World} {π π':Pi} {H H':List (Nat×OB)}
theorem HG {l:Nat} {e:Ty} {te:TypeId} {rows yI:List (List e.den)} {out cc:Option Nat} {kp:Option (Nat×Nat)} (hl:Ad H l=some (.Aj e te rows out kp)) (hn:yI.length=rows.length)
  (hc: ∀fr τ cs x,Cells w (Bg X.w0.heap.size X.Sc π fr) τ cs x->Cells w' (Bg X.w0.heap.size X.Sc π fr) τ cs x)
  (hg: ∀k r b,Ad H k=some b->b.bJ≠none->π k=some r->w'.heap[r.g]?=w.heap[r.g]?): ∀c v,Dw X w π H c v->Dw X w' π (Tq H l (.Aj e te yI cc kp)) c v:=by
 have Ue: ∀k b,Ad H k=some b-> ∃b',Ad (Tq H l (.Aj e te yI cc kp)) k=some b'/\b'.row=b.row/\b'.bJ=b.bJ/\b'.qt=b.qt/\(∀tid vs,b= .var tid vs->b'=b)/\ ∀v m,b= .Pb v m->b'=b:= λk b hb=>by
  by_cases e:k=l
  ·subst e
   rw [hl] at hb;cases hb
   exact ⟨_,Cd _ _ _ _ hl,by simp [OB.row,hn],by simp [OB.bJ,hn],by simp [OB.qt,hn],(λ_ _ h=>by cases h),(λ_ _ h=>by cases h)⟩
  ·exact ⟨b,(Bs _ _ _ _ e).trans hb,rfl,rfl,rfl,λ_ _ _=>rfl,λ_ _ _=>rfl⟩
 intro c v h
 cases c with
 |data fr τ x=>obtain ⟨cs,h1,h2⟩:=h;exact ⟨cs,hc _ _ _ _ h1,h2⟩
 |own k off len=>
  obtain ⟨b,sz,n,h1,h0,h2,h3⟩:=h
  obtain ⟨b',g1,g2,_⟩:=Ue k b h1
  exact ⟨b',sz,n,g1,g2.trans h0,h2,h3⟩
 |Dv k i=>
  obtain ⟨r,tid,vs,h1,h2,h3⟩:=h
  obtain ⟨b',g1,_,_,_,g2,_⟩:=Ue k _ h1
  rw [g2 tid vs rfl] at g1
  exact ⟨r,tid,vs,g1,h2,h3⟩
 |Fu k i=>
  obtain ⟨r,b,sz,n,h1,h0,h2,h3,h4⟩:=h
  obtain ⟨b',g1,g2,_⟩:=Ue k b h1
  exact ⟨r,b',sz,n,g1,g2.trans h0,h2,h3,h4⟩
 |sub k i c=>
  obtain ⟨r,b,sz,n,h1,h0,h2,h3,h4,h5⟩:=h
  obtain ⟨b',g1,_,g2,_⟩:=Ue k b h1
  exact ⟨r,b',sz,n,g1,g2.trans h0,h2,h3,h4,by rw [World.cell?_of_block (hg k r b h1 (by rw [h0];simp) h2)];exact h5⟩
 |Fp k i c=>
  obtain ⟨r,b,n,sz,g,o,len,cap,h1,h0,h2,h3,h4,h5,h6⟩:=h
  obtain ⟨b',g1,_,_,g2,_⟩:=Ue k b h1
  exact ⟨r,b',n,sz,g,o,len,cap,g1,g2.trans h0,h2,h3,h4,by rw [World.cell?_of_block (hg k r b h1 (by cases b<;>first|(cases h0;done)|simp [OB.bJ]) h2)];exact h5,h6⟩
 |clo f Bv=>
  obtain ⟨us,h1,h2,h3⟩:=h
  refine ⟨us,h1,h2,λj p hp=>?_⟩
  obtain ⟨r,tid,vs,h4,h5,h6⟩:=h3 j p hp
  obtain ⟨b',g1,_,_,_,g2,_⟩:=Ue p.1 _ h4
  rw [g2 tid vs rfl] at g1
  exact ⟨r,tid,vs,g1,h5,h6⟩
 |Ga k=>
  obtain ⟨r,vt,m,h1,h2,h3⟩:=h
  obtain ⟨b',g1,_,_,_,_,g2⟩:=Ue k _ h1
  rw [g2 vt m rfl] at g1
  exact ⟨r,vt,m,g1,h2,h3⟩
 |_=>exact h
theorem vO (hT:Ca P T) {st:St} {a:Act} (h:Al X π st a w) {t:TypeId} {e:Ty} (ht:T.ty t=some e) {l i j:Nat} {te:TypeId} {rows:List (List e.den)} {kp:Option (Nat×Nat)} (hl:Ad st.heap l=some (.Aj e te rows none kp))
  {vp vx:Value} {fr:Bool} {x:e.den} (hp:Dw X w π st.heap (.Fp l i j) vp) (hx:Be w (Bg X.w0.heap.size X.Sc π fr) e vx x) (AN:fr=false):
  ∃w',(Instr.storeAt t vp vx).run P w= .ok () w'/\Al X π (st.Fo l (.Aj e te (rows.set i ((rows.getD i []).set j x)) none kp)) a w':=by
 subst AN
 obtain ⟨r,b,n,sz,g,o,len,cap,h1,h0,h2,h3,h4,h5,rfl⟩:=hp
 rw [hl] at h1;cases h1
 simp only [OB.qt,Option.some.injEq,Prod.mk.injEq] at h0
 obtain ⟨rfl,rfl⟩:=h0
 have hb:=(h.1.heap l).Ku hl
 simp only [Aw] at hb
 obtain ⟨hb,oa⟩:=hb
 rw [h2] at hb
 obtain ⟨b1,cur,ti,b2,b3,b4,b5,Rs,b6,b7,b8,b9⟩:=hb
 have Gh:rows[i]?=some (rows.getD i []):=by rw [List.getD_eq_getElem?_getD,List.getElem?_eq_getElem h3];rfl
 obtain ⟨u,R,k1,k2,k3,k4⟩:=b9 i _ Gh (by simp)
 rw [cellOf b2,k1] at h5
 have hu:=Option.some.inj h5
 subst hu
 cases R with
 |none=>obtain ⟨hh,_⟩:=k3;cases hh
 |some q=>
  obtain ⟨ad,hh,g1,g2⟩:=k3
  simp only [Value.slice.injEq,Option.some.injEq] at hh
  obtain ⟨rfl,rfl,rfl⟩:=hh
  have AL:=g2 (by omega)
  simp only [Addr.mk.injEq,and_true] at AL
  obtain ⟨rfl,rfl⟩:=AL
  obtain ⟨f1,cu,RN,f2,f3,f4,f5,f6⟩:=k4
  obtain ⟨hqf,hqg⟩:=b7 i q k2
  obtain ⟨es,cf,hv⟩:=hx
  have iJ:=Cells.len e es x cf
  have SP:(q.o+0)*e.size+j*e.size=(q.o+j)*e.size:=by rw [Nat.add_zero,<-Nat.add_mul]
  have Qt:(q.o+j)*e.size+es.length<=cu.size:=by
   have:(q.o+j+1)*e.size<=(q.o+q.cap)*e.size:=Nat.mul_le_mul_right _ (by omega)
   rw [Nat.add_mul (q.o+j) 1,Nat.one_mul] at this
   omega
  have Ss:(q.o+j)*e.size+es.length<=cu.toList.length:=by simpa using Qt
  have Pa:=Pv (P:=P) (w:=w) (hT.ty _ _ ht) q.g ((q.o+j)*e.size) vx es (by rw [hv];exact Gk e es x cf) iJ (Cells.plain e es x cf) cu RN f2 Qt
  have hqo:No π q.g:=⟨l,r,h2,hqf⟩
  have Mg:r.cl q.g:=h.1.sub l r _ h2 hqf
  have o5:=Ip w q.g (Bp cu.toList ((q.o+j)*e.size) es).toArray
  have mi: ∀c,c≠q.g->(w.setRow q.g (Bp cu.toList ((q.o+j)*e.size) es).toArray).heap[c]?=w.heap[c]?:= λc hc=>setRow_other w q.g c _ hc
  refine ⟨_,by simp only [Instr.storeAt,Instr.sureAddr];rw [SP];simpa using Pa,?_⟩
  have ZB:(st.Fo l (.Aj e te (rows.set i ((rows.getD i []).set j x)) none kp))= {tmps:=st.tmps.map (·.map λc=>c),heap:=Tq st.heap l (.Aj e te (rows.set i ((rows.getD i []).set j x)) none kp)} :=by
   unfold St.Fo
   congr 1
   exact ((List.map_congr_left λc _=>AC.map_id c).trans (List.map_id'' (λ_=>rfl) st.tmps)).symm
  rw [ZB]
  have od: ∀k r0 c,π k=some r0->r0.cl c->k≠l->c≠q.g:= λk r0 c hk hc Fa e=>Fa (h.1.inj k l r0 r c hk h2 hc (e▸Mg))
  refine h.jb rfl (gv:= λc=>c=q.g) (λc hc=>hc▸hqo) ⟨o5.os,o5.tape,o5.output,o5.size,λc _ hc=>mi c hc⟩ (λ_ _ ho=>ho) h.1.sub (λk r0 c hk hc=>⟨(h.1.place k r0 c hk hc).1,Nat.lt_of_lt_of_le (h.1.place k r0 c hk hc).2 o5.size⟩) h.1.inj
   (λk hk Fa=>h.1.cg k hk λh0=>Fa ?_) (λhc=>HG hl (by simp) hc λk r0 b0 g1 g2 g3=>mi _ λe=>?_) (λm k b0 hk=>?_) (λk hk=>?_)
  ·have:k≠l:= λe=>by subst e;rw [hl] at h0;cases h0
   rw [Bs _ _ _ _ this];exact h0
  ·by_cases Ma:k=l
   ·subst Ma;rw [h2] at g3;cases g3;exact hqg e.symm
   ·exact od k r0 _ g3 (h.1.sub k r0 _ g3 (h.1.Bb g3)) Ma e
  ·by_cases Ma:k=l
   ·subst Ma
    rw [Cd _ _ _ _ hl] at hk;cases hk
    show cn X _ π (π k) e _ none kp
    rw [h2]
    refine ⟨⟨b1,cur,ti,(mi _ (Ne.symm hqg)).trans b2,b3,b4,by simpa using b5,Rs,by simpa using b6,b7,b8,λi' y hy _=>?_⟩,(h2▸oa).Ch λq' gz=>by cases gz;exact mi _ (Ne.symm hqg)⟩
    rw [List.getElem?_set] at hy
    split at hy
    ·rename_i hii;subst hii
     have hy:=Option.some.inj hy
     subst hy
     refine ⟨_,some q,k1,k2,⟨_,by rw [List.length_set],by simpa using g1,λ_=>rfl⟩,?_⟩
     refine ⟨f1,_,_,setRow_heap w q.g cu _ RN _ f2,by rw [List.size_toArray,Eo _ _ _ Ss,Array.length_toList];exact f3,f4,by simpa using f5,λj' y hy=>?_⟩
     rw [List.getElem?_set] at hy
     split at hy
     ·rename_i hjj;subst hjj
      have hy:=Option.some.inj hy
      subst hy
      refine ⟨es,iJ,λp v HS=>?_,m.cells false e es x cf⟩
      have hp:p<es.length:=(List.getElem?_eq_some_iff.1 HS).1
      rw [List.getElem?_toArray,Eg _ _ _ _ Ss,if_neg (by omega),if_pos (by omega)]
      rw [show (q.o+j)*e.size+p-(q.o+j)*e.size=p by omega];exact HS
     ·rename_i hjj
      obtain ⟨jF,RC,o8,xr⟩:=f6 j' y hy
      refine ⟨jF,RC,λp v HS=>?_,m.cells false e jF y xr⟩
      have hp:p<jF.length:=(List.getElem?_eq_some_iff.1 HS).1
      have:=o8 p v HS
      rw [List.getElem?_toArray,Eg _ _ _ _ Ss]
      rcases cr (o:=q.o) (i:=j') (j:=j) (s:=e.size) (p:=p) (λe=>hjj e.symm) (by omega) with Fc|jH
      ·rw [if_pos Fc];simpa using this
      ·rw [if_neg (by omega),if_neg (by omega)];simpa using this
    ·rename_i hii
     obtain ⟨u',R',q1,q2,q3,q4⟩:=b9 i' y hy (by simp)
     refine ⟨u',R',q1,q2,q3,q4.to (λq' gz=>mi _ λe=>hii ?_) λes y hc=>m.cells false e es y hc⟩
     subst gz
     exact b8 i i' q q' k2 q2 e.symm
   ·rw [Bs _ _ _ _ Ma] at hk
    have:=((h.1.heap k).Ku hk).move m o5.size (λr0 c h0 h1=>h.1.sub _ r0 c h0 h1) λr0 c h0 h1 _=>mi c (od k r0 c h0 h1 Ma)
    cases b0 with
    |var tid vs=>simpa [OB.map] using this
    |_=>exact this
  ·have Ma:k≠l:= λe=>by subst e;rw [Cd _ _ _ _ hl] at hk;cases hk
   rw [Bs _ _ _ _ Ma] at hk
   exact (h.1.heap k).emp hk
end
end Go.Proofs.YtfolipnappekaaaGreat
