/-
  Part 18 of the proof that the statement FnExactMethodLength holds.
-/
import Derived.Test.YtjbdmibbbpdnnaaCMethodLength16
namespace Go.Proofs.Ytjbdmibbbpdnnaa
open Go.RowKit
section
variable {P:Program} {T:Tab} {X:Ctx} {w w':World} {π π':Pi} {H H':List (Nat×OB)}
theorem DS {l:Nat} {e:Ty} {te:TypeId} {rows xa:List (List e.den)} {out bK:Option Nat} {kp:Option (Nat×Nat)} (hl:Ae H l=some (.Ak e te rows out kp)) (hn:xa.length=rows.length)
  (hc: ∀fr τ cs x,Cells w (Be X.w0.heap.size X.Sc π fr) τ cs x->Cells w' (Be X.w0.heap.size X.Sc π fr) τ cs x)
  (hg: ∀k r b,Ae H k=some b->b.bh≠none->π k=some r->w'.heap[r.g]?=w.heap[r.g]?): ∀c v,Ea X w π H c v->Ea X w' π (Xp H l (.Ak e te xa bK kp)) c v:=by
 have Rx: ∀k b,Ae H k=some b-> ∃b',Ae (Xp H l (.Ak e te xa bK kp)) k=some b'/\b'.row=b.row/\b'.bh=b.bh/\b'.p9=b.p9/\(∀tid vs,b= .var tid vs->b'=b)/\ ∀v m,b= .On v m->b'=b:= λk b hb=>by
  by_cases e:k=l
  ·subst e
   rw [hl] at hb;cases hb
   exact ⟨_,Cq _ _ _ _ hl,by simp [OB.row,hn],by simp [OB.bh,hn],by simp [OB.p9,hn],(λ_ _ h=>by cases h),(λ_ _ h=>by cases h)⟩
  ·exact ⟨b,(Cm _ _ _ _ e).trans hb,rfl,rfl,rfl,λ_ _ _=>rfl,λ_ _ _=>rfl⟩
 intro c v h
 cases c with
 |data fr τ x=>obtain ⟨cs,h1,h2⟩:=h;exact ⟨cs,hc _ _ _ _ h1,h2⟩
 |own k off len=>
  obtain ⟨b,sz,n,h1,h0,h2,h3⟩:=h
  obtain ⟨b',g1,g2,_⟩:=Rx k b h1
  exact ⟨b',sz,n,g1,g2.trans h0,h2,h3⟩
 |Dz k i=>
  obtain ⟨r,tid,vs,h1,h2,h3⟩:=h
  obtain ⟨b',g1,_,_,_,g2,_⟩:=Rx k _ h1
  rw [g2 tid vs rfl] at g1
  exact ⟨r,tid,vs,g1,h2,h3⟩
 |Gc k i=>
  obtain ⟨r,b,sz,n,h1,h0,h2,h3,h4⟩:=h
  obtain ⟨b',g1,g2,_⟩:=Rx k b h1
  exact ⟨r,b',sz,n,g1,g2.trans h0,h2,h3,h4⟩
 |sub k i c=>
  obtain ⟨r,b,sz,n,h1,h0,h2,h3,h4,h5⟩:=h
  obtain ⟨b',g1,_,g2,_⟩:=Rx k b h1
  exact ⟨r,b',sz,n,g1,g2.trans h0,h2,h3,h4,by rw [World.cell?_of_block (hg k r b h1 (by rw [h0];simp) h2)];exact h5⟩
 |Ga k i c=>
  obtain ⟨r,b,n,sz,g,o,len,cap,h1,h0,h2,h3,h4,h5,h6⟩:=h
  obtain ⟨b',g1,_,_,g2,_⟩:=Rx k b h1
  exact ⟨r,b',n,sz,g,o,len,cap,g1,g2.trans h0,h2,h3,h4,by rw [World.cell?_of_block (hg k r b h1 (by cases b<;>first|(cases h0;done)|simp [OB.bh]) h2)];exact h5,h6⟩
 |clo f Bx=>
  obtain ⟨us,h1,h2,h3⟩:=h
  refine ⟨us,h1,h2,λj p hp=>?_⟩
  obtain ⟨r,tid,vs,h4,h5,h6⟩:=h3 j p hp
  obtain ⟨b',g1,_,_,_,g2,_⟩:=Rx p.1 _ h4
  rw [g2 tid vs rfl] at g1
  exact ⟨r,tid,vs,g1,h5,h6⟩
 |Gi k=>
  obtain ⟨r,vt,m,h1,h2,h3⟩:=h
  obtain ⟨b',g1,_,_,_,_,g2⟩:=Rx k _ h1
  rw [g2 vt m rfl] at g1
  exact ⟨r,vt,m,g1,h2,h3⟩
 |_=>exact h
theorem ue (hT:Cd P T) {st:St} {a:Act} (h:Aj X π st a w) {t:TypeId} {e:Ty} (ht:T.ty t=some e) {l i j:Nat} {te:TypeId} {rows:List (List e.den)} {kp:Option (Nat×Nat)} (hl:Ae st.heap l=some (.Ak e te rows none kp))
  {vp vx:Value} {fr:Bool} {x:e.den} (hp:Ea X w π st.heap (.Ga l i j) vp) (hx:Bd w (Be X.w0.heap.size X.Sc π fr) e vx x) (vX:fr=false):
  ∃w',(Instr.storeAt t vp vx).run P w= .ok () w'/\Aj X π (st.Gf l (.Ak e te (rows.set i ((rows.getD i []).set j x)) none kp)) a w':=by
 subst vX
 obtain ⟨r,b,n,sz,g,o,len,cap,h1,h0,h2,h3,h4,h5,rfl⟩:=hp
 rw [hl] at h1;cases h1
 simp only [OB.p9,Option.some.injEq,Prod.mk.injEq] at h0
 obtain ⟨rfl,rfl⟩:=h0
 have hb:=(h.1.heap l).Mh hl
 simp only [Au] at hb
 obtain ⟨hb,mY⟩:=hb
 rw [h2] at hb
 obtain ⟨b1,cur,ti,b2,b3,b4,b5,Rs,b6,b7,b8,b9⟩:=hb
 have Ql:rows[i]?=some (rows.getD i []):=by rw [List.getD_eq_getElem?_getD,List.getElem?_eq_getElem h3];rfl
 obtain ⟨u,R,k1,k2,k3,k4⟩:=b9 i _ Ql (by simp)
 rw [cellOf b2,k1] at h5
 have hu:=Option.some.inj h5
 subst hu
 cases R with
 |none=>obtain ⟨hh,_⟩:=k3;cases hh
 |some q=>
  obtain ⟨ad,hh,g1,g2⟩:=k3
  simp only [Value.slice.injEq,Option.some.injEq] at hh
  obtain ⟨rfl,rfl,rfl⟩:=hh
  have BO:=g2 (by omega)
  simp only [Addr.mk.injEq,and_true] at BO
  obtain ⟨rfl,rfl⟩:=BO
  obtain ⟨f1,cu,OM,f2,f3,f4,f5,f6⟩:=k4
  obtain ⟨ZJ,hqg⟩:=b7 i q k2
  obtain ⟨es,bM,hv⟩:=hx
  have ia:=Cells.len e es x bM
  have QB:(q.o+0)*e.size+j*e.size=(q.o+j)*e.size:=by rw [Nat.add_zero,<-Nat.add_mul]
  have Oz:(q.o+j)*e.size+es.length<=cu.size:=by
   have:(q.o+j+1)*e.size<=(q.o+q.cap)*e.size:=Nat.mul_le_mul_right _ (by omega)
   rw [Nat.add_mul (q.o+j) 1,Nat.one_mul] at this
   omega
  have Sf:(q.o+j)*e.size+es.length<=cu.toList.length:=by simpa using Oz
  have Om:=Pk (P:=P) (w:=w) (hT.ty _ _ ht) q.g ((q.o+j)*e.size) vx es (by rw [hv];exact Gq e es x bM) ia (Cells.plain e es x bM) cu OM f2 Oz
  have hqo:Nn π q.g:=⟨l,r,h2,ZJ⟩
  have Na:r.cl q.g:=h.1.sub l r _ h2 ZJ
  have mU:=Il w q.g (Bh cu.toList ((q.o+j)*e.size) es).toArray
  have lz: ∀c,c≠q.g->(w.setRow q.g (Bh cu.toList ((q.o+j)*e.size) es).toArray).heap[c]?=w.heap[c]?:= λc hc=>setRow_other w q.g c _ hc
  refine ⟨_,by simp only [Instr.storeAt,Instr.sureAddr];rw [QB];simpa using Om,?_⟩
  have WI:(st.Gf l (.Ak e te (rows.set i ((rows.getD i []).set j x)) none kp))= {tmps:=st.tmps.map (·.map λc=>c),heap:=Xp st.heap l (.Ak e te (rows.set i ((rows.getD i []).set j x)) none kp)} :=by
   unfold St.Gf
   congr 1
   exact ((List.map_congr_left λc _=>AC.map_id c).trans (List.map_id'' (λ_=>rfl) st.tmps)).symm
  rw [WI]
  have mZ: ∀k r0 c,π k=some r0->r0.cl c->k≠l->c≠q.g:= λk r0 c hk hc Ex e=>Ex (h.1.inj k l r0 r c hk h2 hc (e▸Na))
  refine h.iI rfl (gv:= λc=>c=q.g) (λc hc=>hc▸hqo) ⟨mU.os,mU.tape,mU.output,mU.size,λc _ hc=>lz c hc⟩ (λ_ _ ho=>ho) h.1.sub (λk r0 c hk hc=>⟨(h.1.place k r0 c hk hc).1,Nat.lt_of_lt_of_le (h.1.place k r0 c hk hc).2 mU.size⟩) h.1.inj
   (λk hk Ex=>h.1.cR k hk λh0=>Ex ?_) (λhc=>DS hl (by simp) hc λk r0 b0 g1 g2 g3=>lz _ λe=>?_) (λm k b0 hk=>?_) (λk hk=>?_)
  ·have:k≠l:= λe=>by subst e;rw [hl] at h0;cases h0
   rw [Cm _ _ _ _ this];exact h0
  ·by_cases Ja:k=l
   ·subst Ja;rw [h2] at g3;cases g3;exact hqg e.symm
   ·exact mZ k r0 _ g3 (h.1.sub k r0 _ g3 (h.1.Ax g3)) Ja e
  ·by_cases Ja:k=l
   ·subst Ja
    rw [Cq _ _ _ _ hl] at hk;cases hk
    show bQ X _ π (π k) e _ none kp
    rw [h2]
    refine ⟨⟨b1,cur,ti,(lz _ (Ne.symm hqg)).trans b2,b3,b4,by simpa using b5,Rs,by simpa using b6,b7,b8,λi' y hy _=>?_⟩,(h2▸mY).Cr λq' dP=>by cases dP;exact lz _ (Ne.symm hqg)⟩
    rw [List.getElem?_set] at hy
    split at hy
    ·rename_i hii;subst hii
     have hy:=Option.some.inj hy
     subst hy
     refine ⟨_,some q,k1,k2,⟨_,by rw [List.length_set],by simpa using g1,λ_=>rfl⟩,?_⟩
     refine ⟨f1,_,_,setRow_heap w q.g cu _ OM _ f2,by rw [List.size_toArray,Ev _ _ _ Sf,Array.length_toList];exact f3,f4,by simpa using f5,λj' y hy=>?_⟩
     rw [List.getElem?_set] at hy
     split at hy
     ·rename_i hjj;subst hjj
      have hy:=Option.some.inj hy
      subst hy
      refine ⟨es,ia,λp v sJ=>?_,m.cells false e es x bM⟩
      have hp:p<es.length:=(List.getElem?_eq_some_iff.1 sJ).1
      rw [List.getElem?_toArray,Eg _ _ _ _ Sf,if_neg (by omega),if_pos (by omega)]
      rw [show (q.o+j)*e.size+p-(q.o+j)*e.size=p by omega];exact sJ
     ·rename_i hjj
      obtain ⟨j7,NY,mW,vU⟩:=f6 j' y hy
      refine ⟨j7,NY,λp v sJ=>?_,m.cells false e j7 y vU⟩
      have hp:p<j7.length:=(List.getElem?_eq_some_iff.1 sJ).1
      have:=mW p v sJ
      rw [List.getElem?_toArray,Eg _ _ _ _ Sf]
      rcases bT (o:=q.o) (i:=j') (j:=j) (s:=e.size) (p:=p) (λe=>hjj e.symm) (by omega) with Hq|pb
      ·rw [if_pos Hq];simpa using this
      ·rw [if_neg (by omega),if_neg (by omega)];simpa using this
    ·rename_i hii
     obtain ⟨u',R',q1,q2,q3,q4⟩:=b9 i' y hy (by simp)
     refine ⟨u',R',q1,q2,q3,q4.to (λq' dP=>lz _ λe=>hii ?_) λes y hc=>m.cells false e es y hc⟩
     subst dP
     exact b8 i i' q q' k2 q2 e.symm
   ·rw [Cm _ _ _ _ Ja] at hk
    have:=((h.1.heap k).Mh hk).move m mU.size (λr0 c h0 h1=>h.1.sub _ r0 c h0 h1) λr0 c h0 h1 _=>lz c (mZ k r0 c h0 h1 Ja)
    cases b0 with
    |var tid vs=>simpa [OB.map] using this
    |_=>exact this
  ·have Ja:k≠l:= λe=>by subst e;rw [Cq _ _ _ _ hl] at hk;cases hk
   rw [Cm _ _ _ _ Ja] at hk
   exact (h.1.heap k).emp hk
end
end Go.Proofs.Ytjbdmibbbpdnnaa
