/-
  Part 18 of the proof that the statement FnExactSubgroupCosetCount holds.
-/
import Derived.Test.YtjbdmibbbpdnnaaCSubgroupCosetCount16
namespace Go.Proofs.Ytjbdmibbbpdnnaa
open Go.RowKit
section
variable {P:Program} {T:Tab} {X:Ctx} {w w':World} {π π':Pi} {H H':List (Nat×OB)}
theorem xQ {l:Nat} {e:Ty} {te:TypeId} {rows tg:List (List e.den)} {out Zy:Option Nat} {kp:Option (Nat×Nat)} (hl:Ad H l=some (.Ah e te rows out kp)) (hn:tg.length=rows.length)
  (hc: ∀fr τ cs x,Cells w (Ax X.w0.heap.size X.Sc π fr) τ cs x->Cells w' (Ax X.w0.heap.size X.Sc π fr) τ cs x)
  (hg: ∀k r b,Ad H k=some b->b.Zf≠none->π k=some r->w'.heap[r.g]?=w.heap[r.g]?): ∀c v,Dg X w π H c v->Dg X w' π (Ve H l (.Ah e te tg Zy kp)) c v:=by
 have Of: ∀k b,Ad H k=some b-> ∃b',Ad (Ve H l (.Ah e te tg Zy kp)) k=some b'/\b'.row=b.row/\b'.Zf=b.Zf/\b'.mc=b.mc/\(∀tid vs,b= .var tid vs->b'=b)/\ ∀v m,b= .Mz v m->b'=b:= λk b hb=>by
  by_cases e:k=l
  ·subst e
   rw [hl] at hb;cases hb
   exact ⟨_,Cf _ _ _ _ hl,by simp [OB.row,hn],by simp [OB.Zf,hn],by simp [OB.mc,hn],(λ_ _ h=>by cases h),(λ_ _ h=>by cases h)⟩
  ·exact ⟨b,(Cb _ _ _ _ e).trans hb,rfl,rfl,rfl,λ_ _ _=>rfl,λ_ _ _=>rfl⟩
 intro c v h
 cases c with
 |data fr τ x=>obtain ⟨cs,h1,h2⟩:=h;exact ⟨cs,hc _ _ _ _ h1,h2⟩
 |own k off len=>
  obtain ⟨b,sz,n,h1,h0,h2,h3⟩:=h
  obtain ⟨b',g1,g2,_⟩:=Of k b h1
  exact ⟨b',sz,n,g1,g2.trans h0,h2,h3⟩
 |Df k i=>
  obtain ⟨r,tid,vs,h1,h2,h3⟩:=h
  obtain ⟨b',g1,_,_,_,g2,_⟩:=Of k _ h1
  rw [g2 tid vs rfl] at g1
  exact ⟨r,tid,vs,g1,h2,h3⟩
 |Ey k i=>
  obtain ⟨r,b,sz,n,h1,h0,h2,h3,h4⟩:=h
  obtain ⟨b',g1,g2,_⟩:=Of k b h1
  exact ⟨r,b',sz,n,g1,g2.trans h0,h2,h3,h4⟩
 |sub k i c=>
  obtain ⟨r,b,sz,n,h1,h0,h2,h3,h4,h5⟩:=h
  obtain ⟨b',g1,_,g2,_⟩:=Of k b h1
  exact ⟨r,b',sz,n,g1,g2.trans h0,h2,h3,h4,by rw [World.cell?_of_block (hg k r b h1 (by rw [h0];simp) h2)];exact h5⟩
 |Ew k i c=>
  obtain ⟨r,b,n,sz,g,o,len,cap,h1,h0,h2,h3,h4,h5,h6⟩:=h
  obtain ⟨b',g1,_,_,g2,_⟩:=Of k b h1
  exact ⟨r,b',n,sz,g,o,len,cap,g1,g2.trans h0,h2,h3,h4,by rw [World.cell?_of_block (hg k r b h1 (by cases b<;>first|(cases h0;done)|simp [OB.Zf]) h2)];exact h5,h6⟩
 |clo f Bn=>
  obtain ⟨us,h1,h2,h3⟩:=h
  refine ⟨us,h1,h2,λj p hp=>?_⟩
  obtain ⟨r,tid,vs,h4,h5,h6⟩:=h3 j p hp
  obtain ⟨b',g1,_,_,_,g2,_⟩:=Of p.1 _ h4
  rw [g2 tid vs rfl] at g1
  exact ⟨r,tid,vs,g1,h5,h6⟩
 |Fm k=>
  obtain ⟨r,vt,m,h1,h2,h3⟩:=h
  obtain ⟨b',g1,_,_,_,_,g2⟩:=Of k _ h1
  rw [g2 vt m rfl] at g1
  exact ⟨r,vt,m,g1,h2,h3⟩
 |_=>exact h
theorem ql (hT:Bt P T) {st:St} {a:Act} (h:Ae X π st a w) {t:TypeId} {e:Ty} (ht:T.ty t=some e) {l i j:Nat} {te:TypeId} {rows:List (List e.den)} {kp:Option (Nat×Nat)} (hl:Ad st.heap l=some (.Ah e te rows none kp))
  {vp vx:Value} {fr:Bool} {x:e.den} (hp:Dg X w π st.heap (.Ew l i j) vp) (hx:Aw w (Ax X.w0.heap.size X.Sc π fr) e vx x) (s5:fr=false):
  ∃w',(Instr.storeAt t vp vx).run P w= .ok () w'/\Ae X π (st.Fb l (.Ah e te (rows.set i ((rows.getD i []).set j x)) none kp)) a w':=by
 subst s5
 obtain ⟨r,b,n,sz,g,o,len,cap,h1,h0,h2,h3,h4,h5,rfl⟩:=hp
 rw [hl] at h1;cases h1
 simp only [OB.mc,Option.some.injEq,Prod.mk.injEq] at h0
 obtain ⟨rfl,rfl⟩:=h0
 have hb:=(h.1.heap l).Kz hl
 simp only [Ao] at hb
 obtain ⟨hb,kB⟩:=hb
 rw [h2] at hb
 obtain ⟨b1,cur,ti,b2,b3,b4,b5,Rs,b6,b7,b8,b9⟩:=hb
 have Rp:rows[i]?=some (rows.getD i []):=by rw [List.getD_eq_getElem?_getD,List.getElem?_eq_getElem h3];rfl
 obtain ⟨u,R,k1,k2,k3,k4⟩:=b9 i _ Rp (by simp)
 rw [cellOf b2,k1] at h5
 have hu:=Option.some.inj h5
 subst hu
 cases R with
 |none=>obtain ⟨hh,_⟩:=k3;cases hh
 |some q=>
  obtain ⟨ad,hh,g1,g2⟩:=k3
  simp only [Value.slice.injEq,Option.some.injEq] at hh
  obtain ⟨rfl,rfl,rfl⟩:=hh
  have zR:=g2 (by omega)
  simp only [Addr.mk.injEq,and_true] at zR
  obtain ⟨rfl,rfl⟩:=zR
  obtain ⟨f1,cu,DP,f2,f3,f4,f5,f6⟩:=k4
  obtain ⟨NB,PK⟩:=b7 i q k2
  obtain ⟨es,Wx,hv⟩:=hx
  have eR:=Cells.len e es x Wx
  have ES:(q.o+0)*e.size+j*e.size=(q.o+j)*e.size:=by rw [Nat.add_zero,<-Nat.add_mul]
  have Ot:(q.o+j)*e.size+es.length<=cu.size:=by
   have:(q.o+j+1)*e.size<=(q.o+q.cap)*e.size:=Nat.mul_le_mul_right _ (by omega)
   rw [Nat.add_mul (q.o+j) 1,Nat.one_mul] at this
   omega
  have Qe:(q.o+j)*e.size+es.length<=cu.toList.length:=by simpa using Ot
  have My:=Nq (P:=P) (w:=w) (hT.ty _ _ ht) q.g ((q.o+j)*e.size) vx es (by rw [hv];exact Fo e es x Wx) eR (Cells.plain e es x Wx) cu DP f2 Ot
  have hqo:Na π q.g:=⟨l,r,h2,NB⟩
  have Nz:r.cl q.g:=h.1.sub l r _ h2 NB
  have ky:=Hg w q.g (Bi cu.toList ((q.o+j)*e.size) es).toArray
  have jc: ∀c,c≠q.g->(w.setRow q.g (Bi cu.toList ((q.o+j)*e.size) es).toArray).heap[c]?=w.heap[c]?:= λc hc=>setRow_other w q.g c _ hc
  refine ⟨_,by simp only [Instr.storeAt,Instr.sureAddr];rw [ES];simpa using My,?_⟩
  have KJ:(st.Fb l (.Ah e te (rows.set i ((rows.getD i []).set j x)) none kp))= {tmps:=st.tmps.map (·.map λc=>c),heap:=Ve st.heap l (.Ah e te (rows.set i ((rows.getD i []).set j x)) none kp)} :=by
   unfold St.Fb
   congr 1
   exact ((List.map_congr_left λc _=>AC.map_id c).trans (List.map_id'' (λ_=>rfl) st.tmps)).symm
  rw [KJ]
  have kD: ∀k r0 c,π k=some r0->r0.cl c->k≠l->c≠q.g:= λk r0 c hk hc Er e=>Er (h.1.inj k l r0 r c hk h2 hc (e▸Nz))
  refine h.fq rfl (gv:= λc=>c=q.g) (λc hc=>hc▸hqo) ⟨ky.os,ky.tape,ky.output,ky.size,λc _ hc=>jc c hc⟩ (λ_ _ ho=>ho) h.1.sub (λk r0 c hk hc=>⟨(h.1.place k r0 c hk hc).1,Nat.lt_of_lt_of_le (h.1.place k r0 c hk hc).2 ky.size⟩) h.1.inj
   (λk hk Er=>h.1.aX k hk λh0=>Er ?_) (λhc=>xQ hl (by simp) hc λk r0 b0 g1 g2 g3=>jc _ λe=>?_) (λm k b0 hk=>?_) (λk hk=>?_)
  ·have:k≠l:= λe=>by subst e;rw [hl] at h0;cases h0
   rw [Cb _ _ _ _ this];exact h0
  ·by_cases Lq:k=l
   ·subst Lq;rw [h2] at g3;cases g3;exact PK e.symm
   ·exact kD k r0 _ g3 (h.1.sub k r0 _ g3 (h.1.Ar g3)) Lq e
  ·by_cases Lq:k=l
   ·subst Lq
    rw [Cf _ _ _ _ hl] at hk;cases hk
    show a8 X _ π (π k) e _ none kp
    rw [h2]
    refine ⟨⟨b1,cur,ti,(jc _ (Ne.symm PK)).trans b2,b3,b4,by simpa using b5,Rs,by simpa using b6,b7,b8,λi' y hy _=>?_⟩,(h2▸kB).Ch λq' cF=>by cases cF;exact jc _ (Ne.symm PK)⟩
    rw [List.getElem?_set] at hy
    split at hy
    ·rename_i VV;subst VV
     have hy:=Option.some.inj hy
     subst hy
     refine ⟨_,some q,k1,k2,⟨_,by rw [List.length_set],by simpa using g1,λ_=>rfl⟩,?_⟩
     refine ⟨f1,_,_,setRow_heap w q.g cu _ DP _ f2,by rw [List.size_toArray,Eb _ _ _ Qe,Array.length_toList];exact f3,f4,by simpa using f5,λj' y hy=>?_⟩
     rw [List.getElem?_set] at hy
     split at hy
     ·rename_i WC;subst WC
      have hy:=Option.some.inj hy
      subst hy
      refine ⟨es,eR,λp v ub=>?_,m.cells false e es x Wx⟩
      have hp:p<es.length:=(List.getElem?_eq_some_iff.1 ub).1
      rw [List.getElem?_toArray,Dn _ _ _ _ Qe,if_neg (by omega),if_pos (by omega)]
      rw [show (q.o+j)*e.size+p-(q.o+j)*e.size=p by omega];exact ub
     ·rename_i WC
      obtain ⟨fO,DH,ee,rY⟩:=f6 j' y hy
      refine ⟨fO,DH,λp v ub=>?_,m.cells false e fO y rY⟩
      have hp:p<fO.length:=(List.getElem?_eq_some_iff.1 ub).1
      have:=ee p v ub
      rw [List.getElem?_toArray,Dn _ _ _ _ Qe]
      rcases ae (o:=q.o) (i:=j') (j:=j) (s:=e.size) (p:=p) (λe=>WC e.symm) (by omega) with Gp|mf
      ·rw [if_pos Gp];simpa using this
      ·rw [if_neg (by omega),if_neg (by omega)];simpa using this
    ·rename_i VV
     obtain ⟨u',R',q1,q2,q3,q4⟩:=b9 i' y hy (by simp)
     refine ⟨u',R',q1,q2,q3,q4.to (λq' cF=>jc _ λe=>VV ?_) λes y hc=>m.cells false e es y hc⟩
     subst cF
     exact b8 i i' q q' k2 q2 e.symm
   ·rw [Cb _ _ _ _ Lq] at hk
    have:=((h.1.heap k).Kz hk).move m ky.size (λr0 c h0 h1=>h.1.sub _ r0 c h0 h1) λr0 c h0 h1 _=>jc c (kD k r0 c h0 h1 Lq)
    cases b0 with
    |var tid vs=>simpa [OB.map] using this
    |_=>exact this
  ·have Lq:k≠l:= λe=>by subst e;rw [Cf _ _ _ _ hl] at hk;cases hk
   rw [Cb _ _ _ _ Lq] at hk
   exact (h.1.heap k).emp hk
end
end Go.Proofs.Ytjbdmibbbpdnnaa
