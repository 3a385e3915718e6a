/-
  Part 18 of the proof that the statement FnExactBoundGap holds.
-/
import Derived.Test.YtfolipnappekaaaGreatCBoundGap16
namespace Go.Proofs.YtfolipnappekaaaGreat
open Go.RowKit
section
variable {P:Program} {T:Tab} {X:Ctx} {w w':World} {π π':Pi} {H H':List (Nat×OB)}
theorem IU {l:Nat} {e:Ty} {te:TypeId} {rows zk:List (List e.den)} {out cA:Option Nat} {kp:Option (Nat×Nat)} (hl:Ad H l=some (.Ak e te rows out kp)) (hn:zk.length=rows.length)
  (hc: ∀fr τ cs x,Cells w (Bf X.w0.heap.size X.Sc π fr) τ cs x->Cells w' (Bf X.w0.heap.size X.Sc π fr) τ cs x)
  (hg: ∀k r b,Ad H k=some b->b.bZ≠none->π k=some r->w'.heap[r.g]?=w.heap[r.g]?): ∀c v,Ec X w π H c v->Ec X w' π (Ug H l (.Ak e te zk cA kp)) c v:=by
 have Ur: ∀k b,Ad H k=some b-> ∃b',Ad (Ug H l (.Ak e te zk cA kp)) k=some b'/\b'.row=b.row/\b'.bZ=b.bZ/\b'.qX=b.qX/\(∀tid vs,b= .var tid vs->b'=b)/\ ∀v m,b= .Qc v m->b'=b:= λk b hb=>by
  by_cases e:k=l
  ·subst e
   rw [hl] at hb;cases hb
   exact ⟨_,Ci _ _ _ _ hl,by simp [OB.row,hn],by simp [OB.bZ,hn],by simp [OB.qX,hn],(λ_ _ h=>by cases h),(λ_ _ h=>by cases h)⟩
  ·exact ⟨b,(Bw _ _ _ _ e).trans hb,rfl,rfl,rfl,λ_ _ _=>rfl,λ_ _ _=>rfl⟩
 intro c v h
 cases c with
 |data fr τ x=>obtain ⟨cs,h1,h2⟩:=h;exact ⟨cs,hc _ _ _ _ h1,h2⟩
 |own k off len=>
  obtain ⟨b,sz,n,h1,h0,h2,h3⟩:=h
  obtain ⟨b',g1,g2,_⟩:=Ur k b h1
  exact ⟨b',sz,n,g1,g2.trans h0,h2,h3⟩
 |Ea k i=>
  obtain ⟨r,tid,vs,h1,h2,h3⟩:=h
  obtain ⟨b',g1,_,_,_,g2,_⟩:=Ur k _ h1
  rw [g2 tid vs rfl] at g1
  exact ⟨r,tid,vs,g1,h2,h3⟩
 |Gi k i=>
  obtain ⟨r,b,sz,n,h1,h0,h2,h3,h4⟩:=h
  obtain ⟨b',g1,g2,_⟩:=Ur k b h1
  exact ⟨r,b',sz,n,g1,g2.trans h0,h2,h3,h4⟩
 |sub k i c=>
  obtain ⟨r,b,sz,n,h1,h0,h2,h3,h4,h5⟩:=h
  obtain ⟨b',g1,_,g2,_⟩:=Ur k b h1
  exact ⟨r,b',sz,n,g1,g2.trans h0,h2,h3,h4,by rw [World.cell?_of_block (hg k r b h1 (by rw [h0];simp) h2)];exact h5⟩
 |Gf k i c=>
  obtain ⟨r,b,n,sz,g,o,len,cap,h1,h0,h2,h3,h4,h5,h6⟩:=h
  obtain ⟨b',g1,_,_,g2,_⟩:=Ur k b h1
  exact ⟨r,b',n,sz,g,o,len,cap,g1,g2.trans h0,h2,h3,h4,by rw [World.cell?_of_block (hg k r b h1 (by cases b<;>first|(cases h0;done)|simp [OB.bZ]) h2)];exact h5,h6⟩
 |clo f Bz=>
  obtain ⟨us,h1,h2,h3⟩:=h
  refine ⟨us,h1,h2,λj p hp=>?_⟩
  obtain ⟨r,tid,vs,h4,h5,h6⟩:=h3 j p hp
  obtain ⟨b',g1,_,_,_,g2,_⟩:=Ur p.1 _ h4
  rw [g2 tid vs rfl] at g1
  exact ⟨r,tid,vs,g1,h5,h6⟩
 |Gm k=>
  obtain ⟨r,vt,m,h1,h2,h3⟩:=h
  obtain ⟨b',g1,_,_,_,_,g2⟩:=Ur k _ h1
  rw [g2 vt m rfl] at g1
  exact ⟨r,vt,m,g1,h2,h3⟩
 |_=>exact h
theorem wz (hT:Ce P T) {st:St} {a:Act} (h:Al X π st a w) {t:TypeId} {e:Ty} (ht:T.ty t=some e) {l i j:Nat} {te:TypeId} {rows:List (List e.den)} {kp:Option (Nat×Nat)} (hl:Ad st.heap l=some (.Ak e te rows none kp))
  {vp vx:Value} {fr:Bool} {x:e.den} (hp:Ec X w π st.heap (.Gf l i j) vp) (hx:Bd w (Bf X.w0.heap.size X.Sc π fr) e vx x) (yc:fr=false):
  ∃w',(Instr.storeAt t vp vx).run P w= .ok () w'/\Al X π (st.Ge l (.Ak e te (rows.set i ((rows.getD i []).set j x)) none kp)) a w':=by
 subst yc
 obtain ⟨r,b,n,sz,g,o,len,cap,h1,h0,h2,h3,h4,h5,rfl⟩:=hp
 rw [hl] at h1;cases h1
 simp only [OB.qX,Option.some.injEq,Prod.mk.injEq] at h0
 obtain ⟨rfl,rfl⟩:=h0
 have hb:=(h.1.heap l).Lx hl
 simp only [Aw] at hb
 obtain ⟨hb,oJ⟩:=hb
 rw [h2] at hb
 obtain ⟨b1,cur,ti,b2,b3,b4,b5,Rs,b6,b7,b8,b9⟩:=hb
 have Gl:rows[i]?=some (rows.getD i []):=by rw [List.getD_eq_getElem?_getD,List.getElem?_eq_getElem h3];rfl
 obtain ⟨u,R,k1,k2,k3,k4⟩:=b9 i _ Gl (by simp)
 rw [cellOf b2,k1] at h5
 have hu:=Option.some.inj h5
 subst hu
 cases R with
 |none=>obtain ⟨hh,_⟩:=k3;cases hh
 |some q=>
  obtain ⟨ad,hh,g1,g2⟩:=k3
  simp only [Value.slice.injEq,Option.some.injEq] at hh
  obtain ⟨rfl,rfl,rfl⟩:=hh
  have OD:=g2 (by omega)
  simp only [Addr.mk.injEq,and_true] at OD
  obtain ⟨rfl,rfl⟩:=OD
  obtain ⟨f1,cu,TX,f2,f3,f4,f5,f6⟩:=k4
  obtain ⟨hqf,hqg⟩:=b7 i q k2
  obtain ⟨es,cC,hv⟩:=hx
  have j0:=Cells.len e es x cC
  have VB:(q.o+0)*e.size+j*e.size=(q.o+j)*e.size:=by rw [Nat.add_zero,<-Nat.add_mul]
  have Ry:(q.o+j)*e.size+es.length<=cu.size:=by
   have:(q.o+j+1)*e.size<=(q.o+q.cap)*e.size:=Nat.mul_le_mul_right _ (by omega)
   rw [Nat.add_mul (q.o+j) 1,Nat.one_mul] at this
   omega
  have Tk:(q.o+j)*e.size+es.length<=cu.toList.length:=by simpa using Ry
  have Qb:=Qu (P:=P) (w:=w) (hT.ty _ _ ht) q.g ((q.o+j)*e.size) vx es (by rw [hv];exact Gw e es x cC) j0 (Cells.plain e es x cC) cu TX f2 Ry
  have hqo:Qd π q.g:=⟨l,r,h2,hqf⟩
  have Mu:r.cl q.g:=h.1.sub l r _ h2 hqf
  have oE:=Iy w q.g (Bt cu.toList ((q.o+j)*e.size) es).toArray
  have mQ: ∀c,c≠q.g->(w.setRow q.g (Bt cu.toList ((q.o+j)*e.size) es).toArray).heap[c]?=w.heap[c]?:= λc hc=>setRow_other w q.g c _ hc
  refine ⟨_,by simp only [Instr.storeAt,Instr.sureAddr];rw [VB];simpa using Qb,?_⟩
  have Aat:(st.Ge l (.Ak e te (rows.set i ((rows.getD i []).set j x)) none kp))= {tmps:=st.tmps.map (·.map λc=>c),heap:=Ug st.heap l (.Ak e te (rows.set i ((rows.getD i []).set j x)) none kp)} :=by
   unfold St.Ge
   congr 1
   exact ((List.map_congr_left λc _=>AC.map_id c).trans (List.map_id'' (λ_=>rfl) st.tmps)).symm
  rw [Aat]
  have oL: ∀k r0 c,π k=some r0->r0.cl c->k≠l->c≠q.g:= λk r0 c hk hc Ff e=>Ff (h.1.inj k l r0 r c hk h2 hc (e▸Mu))
  refine h.ju rfl (gv:= λc=>c=q.g) (λc hc=>hc▸hqo) ⟨oE.os,oE.tape,oE.output,oE.size,λc _ hc=>mQ c hc⟩ (λ_ _ ho=>ho) h.1.sub (λk r0 c hk hc=>⟨(h.1.place k r0 c hk hc).1,Nat.lt_of_lt_of_le (h.1.place k r0 c hk hc).2 oE.size⟩) h.1.inj
   (λk hk Ff=>h.1.cE k hk λh0=>Ff ?_) (λhc=>IU hl (by simp) hc λk r0 b0 g1 g2 g3=>mQ _ λe=>?_) (λm k b0 hk=>?_) (λk hk=>?_)
  ·have:k≠l:= λe=>by subst e;rw [hl] at h0;cases h0
   rw [Bw _ _ _ _ this];exact h0
  ·by_cases Mp:k=l
   ·subst Mp;rw [h2] at g3;cases g3;exact hqg e.symm
   ·exact oL k r0 _ g3 (h.1.sub k r0 _ g3 (h.1.Bc g3)) Mp e
  ·by_cases Mp:k=l
   ·subst Mp
    rw [Ci _ _ _ _ hl] at hk;cases hk
    show cI X _ π (π k) e _ none kp
    rw [h2]
    refine ⟨⟨b1,cur,ti,(mQ _ (Ne.symm hqg)).trans b2,b3,b4,by simpa using b5,Rs,by simpa using b6,b7,b8,λi' y hy _=>?_⟩,(h2▸oJ).Cs λq' cD=>by cases cD;exact mQ _ (Ne.symm hqg)⟩
    rw [List.getElem?_set] at hy
    split at hy
    ·rename_i XW;subst XW
     have hy:=Option.some.inj hy
     subst hy
     refine ⟨_,some q,k1,k2,⟨_,by rw [List.length_set],by simpa using g1,λ_=>rfl⟩,?_⟩
     refine ⟨f1,_,_,setRow_heap w q.g cu _ TX _ f2,by rw [List.size_toArray,Ew _ _ _ Tk,Array.length_toList];exact f3,f4,by simpa using f5,λj' y hy=>?_⟩
     rw [List.getElem?_set] at hy
     split at hy
     ·rename_i hjj;subst hjj
      have hy:=Option.some.inj hy
      subst hy
      refine ⟨es,j0,λp v JG=>?_,m.cells false e es x cC⟩
      have hp:p<es.length:=(List.getElem?_eq_some_iff.1 JG).1
      rw [List.getElem?_toArray,En _ _ _ _ Tk,if_neg (by omega),if_pos (by omega)]
      rw [show (q.o+j)*e.size+p-(q.o+j)*e.size=p by omega];exact JG
     ·rename_i hjj
      obtain ⟨jT,TO,oH,y0⟩:=f6 j' y hy
      refine ⟨jT,TO,λp v JG=>?_,m.cells false e jT y y0⟩
      have hp:p<jT.length:=(List.getElem?_eq_some_iff.1 JG).1
      have:=oH p v JG
      rw [List.getElem?_toArray,En _ _ _ _ Tk]
      rcases cN (o:=q.o) (i:=j') (j:=j) (s:=e.size) (p:=p) (λe=>hjj e.symm) (by omega) with Gc|jV
      ·rw [if_pos Gc];simpa using this
      ·rw [if_neg (by omega),if_neg (by omega)];simpa using this
    ·rename_i XW
     obtain ⟨u',R',q1,q2,q3,q4⟩:=b9 i' y hy (by simp)
     refine ⟨u',R',q1,q2,q3,q4.to (λq' cD=>mQ _ λe=>XW ?_) λes y hc=>m.cells false e es y hc⟩
     subst cD
     exact b8 i i' q q' k2 q2 e.symm
   ·rw [Bw _ _ _ _ Mp] at hk
    have:=((h.1.heap k).Lx hk).move m oE.size (λr0 c h0 h1=>h.1.sub _ r0 c h0 h1) λr0 c h0 h1 _=>mQ c (oL k r0 c h0 h1 Mp)
    cases b0 with
    |var tid vs=>simpa [OB.map] using this
    |_=>exact this
  ·have Mp:k≠l:= λe=>by subst e;rw [Ci _ _ _ _ hl] at hk;cases hk
   rw [Bw _ _ _ _ Mp] at hk
   exact (h.1.heap k).emp hk
end
end Go.Proofs.YtfolipnappekaaaGreat
