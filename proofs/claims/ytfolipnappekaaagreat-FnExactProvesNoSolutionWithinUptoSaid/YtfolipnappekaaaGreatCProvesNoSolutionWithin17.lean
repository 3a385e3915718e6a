/-
  Part 18 of the proof that the statement FnExactProvesNoSolutionWithin holds.
-/
import Derived.Test.YtfolipnappekaaaGreatCProvesNoSolutionWithin16
namespace Go.Proofs.YtfolipnappekaaaGreat
open Go.RowKit
section
variable {P:Program} {T:Tab} {X:Ctx} {w w':World} {π π':Pi} {H H':List (Nat×OB)}
theorem LV {l:Nat} {e:Ty} {te:TypeId} {rows AQ:List (List e.den)} {out cY:Option Nat} {kp:Option (Nat×Nat)} (hl:Ad H l=some (.Al e te rows out kp)) (hn:AQ.length=rows.length)
  (hc: ∀fr τ cs x,Cells w (Bj X.w0.heap.size X.Sc π fr) τ cs x->Cells w' (Bj X.w0.heap.size X.Sc π fr) τ cs x)
  (hg: ∀k r b,Ad H k=some b->b.cE≠none->π k=some r->w'.heap[r.g]?=w.heap[r.g]?): ∀c v,Dv X w π H c v->Dv X w' π (Vi H l (.Al e te AQ cY kp)) c v:=by
 have Vu: ∀k b,Ad H k=some b-> ∃b',Ad (Vi H l (.Al e te AQ cY kp)) k=some b'/\b'.row=b.row/\b'.cE=b.cE/\b'.sq=b.sq/\(∀tid vs,b= .var tid vs->b'=b)/\ ∀v m,b= .Qi v m->b'=b:= λk b hb=>by
  by_cases e:k=l
  ·subst e
   rw [hl] at hb;cases hb
   exact ⟨_,Cf _ _ _ _ hl,by simp [OB.row,hn],by simp [OB.cE,hn],by simp [OB.sq,hn],(λ_ _ h=>by cases h),(λ_ _ h=>by cases h)⟩
  ·exact ⟨b,(Bv _ _ _ _ e).trans hb,rfl,rfl,rfl,λ_ _ _=>rfl,λ_ _ _=>rfl⟩
 intro c v h
 cases c with
 |data fr τ x=>obtain ⟨cs,h1,h2⟩:=h;exact ⟨cs,hc _ _ _ _ h1,h2⟩
 |own k off len=>
  obtain ⟨b,sz,n,h1,h0,h2,h3⟩:=h
  obtain ⟨b',g1,g2,_⟩:=Vu k b h1
  exact ⟨b',sz,n,g1,g2.trans h0,h2,h3⟩
 |Dt k i=>
  obtain ⟨r,tid,vs,h1,h2,h3⟩:=h
  obtain ⟨b',g1,_,_,_,g2,_⟩:=Vu k _ h1
  rw [g2 tid vs rfl] at g1
  exact ⟨r,tid,vs,g1,h2,h3⟩
 |Fy k i=>
  obtain ⟨r,b,sz,n,h1,h0,h2,h3,h4⟩:=h
  obtain ⟨b',g1,g2,_⟩:=Vu k b h1
  exact ⟨r,b',sz,n,g1,g2.trans h0,h2,h3,h4⟩
 |sub k i c=>
  obtain ⟨r,b,sz,n,h1,h0,h2,h3,h4,h5⟩:=h
  obtain ⟨b',g1,_,g2,_⟩:=Vu k b h1
  exact ⟨r,b',sz,n,g1,g2.trans h0,h2,h3,h4,by rw [World.cell?_of_block (hg k r b h1 (by rw [h0];simp) h2)];exact h5⟩
 |Fu k i c=>
  obtain ⟨r,b,n,sz,g,o,len,cap,h1,h0,h2,h3,h4,h5,h6⟩:=h
  obtain ⟨b',g1,_,_,g2,_⟩:=Vu k b h1
  exact ⟨r,b',n,sz,g,o,len,cap,g1,g2.trans h0,h2,h3,h4,by rw [World.cell?_of_block (hg k r b h1 (by cases b<;>first|(cases h0;done)|simp [OB.cE]) h2)];exact h5,h6⟩
 |clo f Ca=>
  obtain ⟨us,h1,h2,h3⟩:=h
  refine ⟨us,h1,h2,λj p hp=>?_⟩
  obtain ⟨r,tid,vs,h4,h5,h6⟩:=h3 j p hp
  obtain ⟨b',g1,_,_,_,g2,_⟩:=Vu p.1 _ h4
  rw [g2 tid vs rfl] at g1
  exact ⟨r,tid,vs,g1,h5,h6⟩
 |Gd k=>
  obtain ⟨r,vt,m,h1,h2,h3⟩:=h
  obtain ⟨b',g1,_,_,_,_,g2⟩:=Vu k _ h1
  rw [g2 vt m rfl] at g1
  exact ⟨r,vt,m,g1,h2,h3⟩
 |_=>exact h
theorem xB (hT:By P T) {st:St} {a:Act} (h:Ak X π st a w) {t:TypeId} {e:Ty} (ht:T.ty t=some e) {l i j:Nat} {te:TypeId} {rows:List (List e.den)} {kp:Option (Nat×Nat)} (hl:Ad st.heap l=some (.Al e te rows none kp))
  {vp vx:Value} {fr:Bool} {x:e.den} (hp:Dv X w π st.heap (.Fu l i j) vp) (hx:Bc w (Bj X.w0.heap.size X.Sc π fr) e vx x) (zd:fr=false):
  ∃w',(Instr.storeAt t vp vx).run P w= .ok () w'/\Ak X π (st.Ft l (.Al e te (rows.set i ((rows.getD i []).set j x)) none kp)) a w':=by
 subst zd
 obtain ⟨r,b,n,sz,g,o,len,cap,h1,h0,h2,h3,h4,h5,rfl⟩:=hp
 rw [hl] at h1;cases h1
 simp only [OB.sq,Option.some.injEq,Prod.mk.injEq] at h0
 obtain ⟨rfl,rfl⟩:=h0
 have hb:=(h.1.heap l).Md hl
 simp only [Av] at hb
 obtain ⟨hb,pX⟩:=hb
 rw [h2] at hb
 obtain ⟨b1,cur,ti,b2,b3,b4,b5,Rs,b6,b7,b8,b9⟩:=hb
 have Gj:rows[i]?=some (rows.getD i []):=by rw [List.getD_eq_getElem?_getD,List.getElem?_eq_getElem h3];rfl
 obtain ⟨u,R,k1,k2,k3,k4⟩:=b9 i _ Gj (by simp)
 rw [cellOf b2,k1] at h5
 have hu:=Option.some.inj h5
 subst hu
 cases R with
 |none=>obtain ⟨hh,_⟩:=k3;cases hh
 |some q=>
  obtain ⟨ad,hh,g1,g2⟩:=k3
  simp only [Value.slice.injEq,Option.some.injEq] at hh
  obtain ⟨rfl,rfl,rfl⟩:=hh
  have RE:=g2 (by omega)
  simp only [Addr.mk.injEq,and_true] at RE
  obtain ⟨rfl,rfl⟩:=RE
  obtain ⟨f1,cu,WX,f2,f3,f4,f5,f6⟩:=k4
  obtain ⟨hqf,hqg⟩:=b7 i q k2
  obtain ⟨es,da,hv⟩:=hx
  have gL:=Cells.len e es x da
  have XY:(q.o+0)*e.size+j*e.size=(q.o+j)*e.size:=by rw [Nat.add_zero,<-Nat.add_mul]
  have Sq:(q.o+j)*e.size+es.length<=cu.size:=by
   have:(q.o+j+1)*e.size<=(q.o+q.cap)*e.size:=Nat.mul_le_mul_right _ (by omega)
   rw [Nat.add_mul (q.o+j) 1,Nat.one_mul] at this
   omega
  have Uj:(q.o+j)*e.size+es.length<=cu.toList.length:=by simpa using Sq
  have Qh:=Rd (P:=P) (w:=w) (hT.ty _ _ ht) q.g ((q.o+j)*e.size) vx es (by rw [hv];exact Gm e es x da) gL (Cells.plain e es x da) cu WX f2 Sq
  have hqo:Qj π q.g:=⟨l,r,h2,hqf⟩
  have Ky:r.cl q.g:=h.1.sub l r _ h2 hqf
  have pS:=Jb w q.g (Bs cu.toList ((q.o+j)*e.size) es).toArray
  have o1: ∀c,c≠q.g->(w.setRow q.g (Bs cu.toList ((q.o+j)*e.size) es).toArray).heap[c]?=w.heap[c]?:= λc hc=>setRow_other w q.g c _ hc
  refine ⟨_,by simp only [Instr.storeAt,Instr.sureAddr];rw [XY];simpa using Qh,?_⟩
  have Ad5:(st.Ft l (.Al e te (rows.set i ((rows.getD i []).set j x)) none kp))= {tmps:=st.tmps.map (·.map λc=>c),heap:=Vi st.heap l (.Al e te (rows.set i ((rows.getD i []).set j x)) none kp)} :=by
   unfold St.Ft
   congr 1
   exact ((List.map_congr_left λc _=>AC.map_id c).trans (List.map_id'' (λ_=>rfl) st.tmps)).symm
  rw [Ad5]
  have pZ: ∀k r0 c,π k=some r0->r0.cl c->k≠l->c≠q.g:= λk r0 c hk hc Ek e=>Ek (h.1.inj k l r0 r c hk h2 hc (e▸Ky))
  refine h.kC rfl (gv:= λc=>c=q.g) (λc hc=>hc▸hqo) ⟨pS.os,pS.tape,pS.output,pS.size,λc _ hc=>o1 c hc⟩ (λ_ _ ho=>ho) h.1.sub (λk r0 c hk hc=>⟨(h.1.place k r0 c hk hc).1,Nat.lt_of_lt_of_le (h.1.place k r0 c hk hc).2 pS.size⟩) h.1.inj
   (λk hk Ek=>h.1.db k hk λh0=>Ek ?_) (λhc=>LV hl (by simp) hc λk r0 b0 g1 g2 g3=>o1 _ λe=>?_) (λm k b0 hk=>?_) (λk hk=>?_)
  ·have:k≠l:= λe=>by subst e;rw [hl] at h0;cases h0
   rw [Bv _ _ _ _ this];exact h0
  ·by_cases Na:k=l
   ·subst Na;rw [h2] at g3;cases g3;exact hqg e.symm
   ·exact pZ k r0 _ g3 (h.1.sub k r0 _ g3 (h.1.Bg g3)) Na e
  ·by_cases Na:k=l
   ·subst Na
    rw [Cf _ _ _ _ hl] at hk;cases hk
    show de X _ π (π k) e _ none kp
    rw [h2]
    refine ⟨⟨b1,cur,ti,(o1 _ (Ne.symm hqg)).trans b2,b3,b4,by simpa using b5,Rs,by simpa using b6,b7,b8,λi' y hy _=>?_⟩,(h2▸pX).Cn λq' gi=>by cases gi;exact o1 _ (Ne.symm hqg)⟩
    rw [List.getElem?_set] at hy
    split at hy
    ·rename_i hii;subst hii
     have hy:=Option.some.inj hy
     subst hy
     refine ⟨_,some q,k1,k2,⟨_,by rw [List.length_set],by simpa using g1,λ_=>rfl⟩,?_⟩
     refine ⟨f1,_,_,setRow_heap w q.g cu _ WX _ f2,by rw [List.size_toArray,Et _ _ _ Uj,Array.length_toList];exact f3,f4,by simpa using f5,λj' y hy=>?_⟩
     rw [List.getElem?_set] at hy
     split at hy
     ·rename_i hjj;subst hjj
      have hy:=Option.some.inj hy
      subst hy
      refine ⟨es,gL,λp v zm=>?_,m.cells false e es x da⟩
      have hp:p<es.length:=(List.getElem?_eq_some_iff.1 zm).1
      rw [List.getElem?_toArray,Ei _ _ _ _ Uj,if_neg (by omega),if_pos (by omega)]
      rw [show (q.o+j)*e.size+p-(q.o+j)*e.size=p by omega];exact zm
     ·rename_i hjj
      obtain ⟨lf,WL,pV,z8⟩:=f6 j' y hy
      refine ⟨lf,WL,λp v zm=>?_,m.cells false e lf y z8⟩
      have hp:p<lf.length:=(List.getElem?_eq_some_iff.1 zm).1
      have:=pV p v zm
      rw [List.getElem?_toArray,Ei _ _ _ _ Uj]
      rcases di (o:=q.o) (i:=j') (j:=j) (s:=e.size) (p:=p) (λe=>hjj e.symm) (by omega) with Ey|lh
      ·rw [if_pos Ey];simpa using this
      ·rw [if_neg (by omega),if_neg (by omega)];simpa using this
    ·rename_i hii
     obtain ⟨u',R',q1,q2,q3,q4⟩:=b9 i' y hy (by simp)
     refine ⟨u',R',q1,q2,q3,q4.to (λq' gi=>o1 _ λe=>hii ?_) λes y hc=>m.cells false e es y hc⟩
     subst gi
     exact b8 i i' q q' k2 q2 e.symm
   ·rw [Bv _ _ _ _ Na] at hk
    have:=((h.1.heap k).Md hk).move m pS.size (λr0 c h0 h1=>h.1.sub _ r0 c h0 h1) λr0 c h0 h1 _=>o1 c (pZ k r0 c h0 h1 Na)
    cases b0 with
    |var tid vs=>simpa [OB.map] using this
    |_=>exact this
  ·have Na:k≠l:= λe=>by subst e;rw [Cf _ _ _ _ hl] at hk;cases hk
   rw [Bv _ _ _ _ Na] at hk
   exact (h.1.heap k).emp hk
end
end Go.Proofs.YtfolipnappekaaaGreat
