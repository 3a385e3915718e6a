/-
  Part 18 of the proof that the statement FnExactInSubgroup holds.
-/
import Derived.Test.YtjbdmibbbpdnnaaCInSubgroup16
namespace Go.Proofs.Ytjbdmibbbpdnnaa
open Go.RowKit
section
variable {P:Program} {T:Tab} {X:Ctx} {w w':World} {π π':Pi} {H H':List (Nat×OB)}
theorem ym {l:Nat} {e:Ty} {te:TypeId} {rows tH:List (List e.den)} {out ai:Option Nat} {kp:Option (Nat×Nat)} (hl:Ad H l=some (.Ai e te rows out kp)) (hn:tH.length=rows.length)
  (hc: ∀fr τ cs x,Cells w (Ay X.w0.heap.size X.Sc π fr) τ cs x->Cells w' (Ay X.w0.heap.size X.Sc π fr) τ cs x)
  (hg: ∀k r b,Ad H k=some b->b.Zq≠none->π k=some r->w'.heap[r.g]?=w.heap[r.g]?): ∀c v,Dk X w π H c v->Dk X w' π (Vm H l (.Ai e te tH ai kp)) c v:=by
 have Om: ∀k b,Ad H k=some b-> ∃b',Ad (Vm H l (.Ai e te tH ai kp)) k=some b'/\b'.row=b.row/\b'.Zq=b.Zq/\b'.mB=b.mB/\(∀tid vs,b= .var tid vs->b'=b)/\ ∀v m,b= .Nd v m->b'=b:= λk b hb=>by
  by_cases e:k=l
  ·subst e
   rw [hl] at hb;cases hb
   exact ⟨_,Ch _ _ _ _ hl,by simp [OB.row,hn],by simp [OB.Zq,hn],by simp [OB.mB,hn],(λ_ _ h=>by cases h),(λ_ _ h=>by cases h)⟩
  ·exact ⟨b,(Cc _ _ _ _ e).trans hb,rfl,rfl,rfl,λ_ _ _=>rfl,λ_ _ _=>rfl⟩
 intro c v h
 cases c with
 |data fr τ x=>obtain ⟨cs,h1,h2⟩:=h;exact ⟨cs,hc _ _ _ _ h1,h2⟩
 |own k off len=>
  obtain ⟨b,sz,n,h1,h0,h2,h3⟩:=h
  obtain ⟨b',g1,g2,_⟩:=Om k b h1
  exact ⟨b',sz,n,g1,g2.trans h0,h2,h3⟩
 |Dj k i=>
  obtain ⟨r,tid,vs,h1,h2,h3⟩:=h
  obtain ⟨b',g1,_,_,_,g2,_⟩:=Om k _ h1
  rw [g2 tid vs rfl] at g1
  exact ⟨r,tid,vs,g1,h2,h3⟩
 |Fc k i=>
  obtain ⟨r,b,sz,n,h1,h0,h2,h3,h4⟩:=h
  obtain ⟨b',g1,g2,_⟩:=Om k b h1
  exact ⟨r,b',sz,n,g1,g2.trans h0,h2,h3,h4⟩
 |sub k i c=>
  obtain ⟨r,b,sz,n,h1,h0,h2,h3,h4,h5⟩:=h
  obtain ⟨b',g1,_,g2,_⟩:=Om k b h1
  exact ⟨r,b',sz,n,g1,g2.trans h0,h2,h3,h4,by rw [World.cell?_of_block (hg k r b h1 (by rw [h0];simp) h2)];exact h5⟩
 |Fa k i c=>
  obtain ⟨r,b,n,sz,g,o,len,cap,h1,h0,h2,h3,h4,h5,h6⟩:=h
  obtain ⟨b',g1,_,_,g2,_⟩:=Om k b h1
  exact ⟨r,b',n,sz,g,o,len,cap,g1,g2.trans h0,h2,h3,h4,by rw [World.cell?_of_block (hg k r b h1 (by cases b<;>first|(cases h0;done)|simp [OB.Zq]) h2)];exact h5,h6⟩
 |clo f Bp=>
  obtain ⟨us,h1,h2,h3⟩:=h
  refine ⟨us,h1,h2,λj p hp=>?_⟩
  obtain ⟨r,tid,vs,h4,h5,h6⟩:=h3 j p hp
  obtain ⟨b',g1,_,_,_,g2,_⟩:=Om p.1 _ h4
  rw [g2 tid vs rfl] at g1
  exact ⟨r,tid,vs,g1,h5,h6⟩
 |Fq k=>
  obtain ⟨r,vt,m,h1,h2,h3⟩:=h
  obtain ⟨b',g1,_,_,_,_,g2⟩:=Om k _ h1
  rw [g2 vt m rfl] at g1
  exact ⟨r,vt,m,g1,h2,h3⟩
 |_=>exact h
theorem qJ (hT:Bu P T) {st:St} {a:Act} (h:Af X π st a w) {t:TypeId} {e:Ty} (ht:T.ty t=some e) {l i j:Nat} {te:TypeId} {rows:List (List e.den)} {kp:Option (Nat×Nat)} (hl:Ad st.heap l=some (.Ai e te rows none kp))
  {vp vx:Value} {fr:Bool} {x:e.den} (hp:Dk X w π st.heap (.Fa l i j) vp) (hx:Aw w (Ay X.w0.heap.size X.Sc π fr) e vx x) (ss:fr=false):
  ∃w',(Instr.storeAt t vp vx).run P w= .ok () w'/\Af X π (st.Ff l (.Ai e te (rows.set i ((rows.getD i []).set j x)) none kp)) a w':=by
 subst ss
 obtain ⟨r,b,n,sz,g,o,len,cap,h1,h0,h2,h3,h4,h5,rfl⟩:=hp
 rw [hl] at h1;cases h1
 simp only [OB.mB,Option.some.injEq,Prod.mk.injEq] at h0
 obtain ⟨rfl,rfl⟩:=h0
 have hb:=(h.1.heap l).La hl
 simp only [Ao] at hb
 obtain ⟨hb,kO⟩:=hb
 rw [h2] at hb
 obtain ⟨b1,cur,ti,b2,b3,b4,b5,Rs,b6,b7,b8,b9⟩:=hb
 have Sa:rows[i]?=some (rows.getD i []):=by rw [List.getD_eq_getElem?_getD,List.getElem?_eq_getElem h3];rfl
 obtain ⟨u,R,k1,k2,k3,k4⟩:=b9 i _ Sa (by simp)
 rw [cellOf b2,k1] at h5
 have hu:=Option.some.inj h5
 subst hu
 cases R with
 |none=>obtain ⟨hh,_⟩:=k3;cases hh
 |some q=>
  obtain ⟨ad,hh,g1,g2⟩:=k3
  simp only [Value.slice.injEq,Option.some.injEq] at hh
  obtain ⟨rfl,rfl,rfl⟩:=hh
  have AU:=g2 (by omega)
  simp only [Addr.mk.injEq,and_true] at AU
  obtain ⟨rfl,rfl⟩:=AU
  obtain ⟨f1,cu,FB,f2,f3,f4,f5,f6⟩:=k4
  obtain ⟨OS,RF⟩:=b7 i q k2
  obtain ⟨es,Xf,hv⟩:=hx
  have fb:=Cells.len e es x Xf
  have GG:(q.o+0)*e.size+j*e.size=(q.o+j)*e.size:=by rw [Nat.add_zero,<-Nat.add_mul]
  have Pb:(q.o+j)*e.size+es.length<=cu.size:=by
   have:(q.o+j+1)*e.size<=(q.o+q.cap)*e.size:=Nat.mul_le_mul_right _ (by omega)
   rw [Nat.add_mul (q.o+j) 1,Nat.one_mul] at this
   omega
  have Qp:(q.o+j)*e.size+es.length<=cu.toList.length:=by simpa using Pb
  have Nc:=Nw (P:=P) (w:=w) (hT.ty _ _ ht) q.g ((q.o+j)*e.size) vx es (by rw [hv];exact Ft e es x Xf) fb (Cells.plain e es x Xf) cu FB f2 Pb
  have hqo:Nf π q.g:=⟨l,r,h2,OS⟩
  have Of:r.cl q.g:=h.1.sub l r _ h2 OS
  have kL:=Hl w q.g (Bk cu.toList ((q.o+j)*e.size) es).toArray
  have jr: ∀c,c≠q.g->(w.setRow q.g (Bk cu.toList ((q.o+j)*e.size) es).toArray).heap[c]?=w.heap[c]?:= λc hc=>setRow_other w q.g c _ hc
  refine ⟨_,by simp only [Instr.storeAt,Instr.sureAddr];rw [GG];simpa using Nc,?_⟩
  have LY:(st.Ff l (.Ai e te (rows.set i ((rows.getD i []).set j x)) none kp))= {tmps:=st.tmps.map (·.map λc=>c),heap:=Vm st.heap l (.Ai e te (rows.set i ((rows.getD i []).set j x)) none kp)} :=by
   unfold St.Ff
   congr 1
   exact ((List.map_congr_left λc _=>AC.map_id c).trans (List.map_id'' (λ_=>rfl) st.tmps)).symm
  rw [LY]
  have kQ: ∀k r0 c,π k=some r0->r0.cl c->k≠l->c≠q.g:= λk r0 c hk hc Ev e=>Ev (h.1.inj k l r0 r c hk h2 hc (e▸Of))
  refine h.fG rfl (gv:= λc=>c=q.g) (λc hc=>hc▸hqo) ⟨kL.os,kL.tape,kL.output,kL.size,λc _ hc=>jr c hc⟩ (λ_ _ ho=>ho) h.1.sub (λk r0 c hk hc=>⟨(h.1.place k r0 c hk hc).1,Nat.lt_of_lt_of_le (h.1.place k r0 c hk hc).2 kL.size⟩) h.1.inj
   (λk hk Ev=>h.1.bk k hk λh0=>Ev ?_) (λhc=>ym hl (by simp) hc λk r0 b0 g1 g2 g3=>jr _ λe=>?_) (λm k b0 hk=>?_) (λk hk=>?_)
  ·have:k≠l:= λe=>by subst e;rw [hl] at h0;cases h0
   rw [Cc _ _ _ _ this];exact h0
  ·by_cases Lt:k=l
   ·subst Lt;rw [h2] at g3;cases g3;exact RF e.symm
   ·exact kQ k r0 _ g3 (h.1.sub k r0 _ g3 (h.1.Ar g3)) Lt e
  ·by_cases Lt:k=l
   ·subst Lt
    rw [Ch _ _ _ _ hl] at hk;cases hk
    show an X _ π (π k) e _ none kp
    rw [h2]
    refine ⟨⟨b1,cur,ti,(jr _ (Ne.symm RF)).trans b2,b3,b4,by simpa using b5,Rs,by simpa using b6,b7,b8,λi' y hy _=>?_⟩,(h2▸kO).Cj λq' cR=>by cases cR;exact jr _ (Ne.symm RF)⟩
    rw [List.getElem?_set] at hy
    split at hy
    ·rename_i XO;subst XO
     have hy:=Option.some.inj hy
     subst hy
     refine ⟨_,some q,k1,k2,⟨_,by rw [List.length_set],by simpa using g1,λ_=>rfl⟩,?_⟩
     refine ⟨f1,_,_,setRow_heap w q.g cu _ FB _ f2,by rw [List.size_toArray,Eg _ _ _ Qp,Array.length_toList];exact f3,f4,by simpa using f5,λj' y hy=>?_⟩
     rw [List.getElem?_set] at hy
     split at hy
     ·rename_i XW;subst XW
      have hy:=Option.some.inj hy
      subst hy
      refine ⟨es,fb,λp v ux=>?_,m.cells false e es x Xf⟩
      have hp:p<es.length:=(List.getElem?_eq_some_iff.1 ux).1
      rw [List.getElem?_toArray,Ds _ _ _ _ Qp,if_neg (by omega),if_pos (by omega)]
      rw [show (q.o+j)*e.size+p-(q.o+j)*e.size=p by omega];exact ux
     ·rename_i XW
      obtain ⟨fZ,ES,ew,sq⟩:=f6 j' y hy
      refine ⟨fZ,ES,λp v ux=>?_,m.cells false e fZ y sq⟩
      have hp:p<fZ.length:=(List.getElem?_eq_some_iff.1 ux).1
      have:=ew p v ux
      rw [List.getElem?_toArray,Ds _ _ _ _ Qp]
      rcases au (o:=q.o) (i:=j') (j:=j) (s:=e.size) (p:=p) (λe=>XW e.symm) (by omega) with Gu|mD
      ·rw [if_pos Gu];simpa using this
      ·rw [if_neg (by omega),if_neg (by omega)];simpa using this
    ·rename_i XO
     obtain ⟨u',R',q1,q2,q3,q4⟩:=b9 i' y hy (by simp)
     refine ⟨u',R',q1,q2,q3,q4.to (λq' cR=>jr _ λe=>XO ?_) λes y hc=>m.cells false e es y hc⟩
     subst cR
     exact b8 i i' q q' k2 q2 e.symm
   ·rw [Cc _ _ _ _ Lt] at hk
    have:=((h.1.heap k).La hk).move m kL.size (λr0 c h0 h1=>h.1.sub _ r0 c h0 h1) λr0 c h0 h1 _=>jr c (kQ k r0 c h0 h1 Lt)
    cases b0 with
    |var tid vs=>simpa [OB.map] using this
    |_=>exact this
  ·have Lt:k≠l:= λe=>by subst e;rw [Ch _ _ _ _ hl] at hk;cases hk
   rw [Cc _ _ _ _ Lt] at hk
   exact (h.1.heap k).emp hk
end
end Go.Proofs.Ytjbdmibbbpdnnaa
