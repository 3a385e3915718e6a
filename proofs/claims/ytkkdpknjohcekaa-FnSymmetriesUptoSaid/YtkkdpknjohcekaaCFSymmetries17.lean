/-
  Part 18 of the proof that the statement FnSymmetries holds.
-/
import Derived.Test.YtkkdpknjohcekaaCFSymmetries16
namespace Go.Proofs.Ytkkdpknjohcekaa
open Go.RowKit
section
variable {P:Program} {T:Tab} {X:Ctx} {w w':World} {π π':Pi} {H H':List (Nat×OB)}
theorem IP {l:Nat} {e:Ty} {te:TypeId} {rows zC:List (List e.den)} {out Ye:Option Nat} {kp:Option (Nat×Nat)} (hl:As H l=some (.Bj e te rows out kp)) (hn:zC.length=rows.length)
  (hc: ∀fr τ cs x,Cells w (Cr X.w0.heap.size X.Sc π fr) τ cs x->Cells w' (Cr X.w0.heap.size X.Sc π fr) τ cs x)
  (hg: ∀k r b,As H k=some b->b.ez≠none->π k=some r->w'.heap[r.g]?=w.heap[r.g]?): ∀c v,Gy X w π H c v->Gy X w' π (Yr H l (.Bj e te zC Ye kp)) c v:=by
 have Zg: ∀k b,As H k=some b-> ∃b',As (Yr H l (.Bj e te zC Ye kp)) k=some b'/\b'.row=b.row/\b'.ez=b.ez/\b'.rV=b.rV/\(∀tid vs,b= .var tid vs->b'=b)/\ ∀v m,b= .Ul v m->b'=b:= λk b hb=>by
  by_cases e:k=l
  ·subst e
   rw [hl] at hb;cases hb
   exact ⟨_,Ej _ _ _ _ hl,by simp [OB.row,hn],by simp [OB.ez,hn],by simp [OB.rV,hn],(λ_ _ h=>by cases h),(λ_ _ h=>by cases h)⟩
  ·exact ⟨b,(Dv _ _ _ _ e).trans hb,rfl,rfl,rfl,λ_ _ _=>rfl,λ_ _ _=>rfl⟩
 intro c v h
 cases c with
 |data fr τ x=>obtain ⟨cs,h1,h2⟩:=h;exact ⟨cs,hc _ _ _ _ h1,h2⟩
 |own k off len=>
  obtain ⟨b,sz,n,h1,h0,h2,h3⟩:=h
  obtain ⟨b',g1,g2,_⟩:=Zg k b h1
  exact ⟨b',sz,n,g1,g2.trans h0,h2,h3⟩
 |Gr k i=>
  obtain ⟨r,tid,vs,h1,h2,h3⟩:=h
  obtain ⟨b',g1,_,_,_,g2,_⟩:=Zg k _ h1
  rw [g2 tid vs rfl] at g1
  exact ⟨r,tid,vs,g1,h2,h3⟩
 |Jp k i=>
  obtain ⟨r,b,sz,n,h1,h0,h2,h3,h4⟩:=h
  obtain ⟨b',g1,g2,_⟩:=Zg k b h1
  exact ⟨r,b',sz,n,g1,g2.trans h0,h2,h3,h4⟩
 |sub k i c=>
  obtain ⟨r,b,sz,n,h1,h0,h2,h3,h4,h5⟩:=h
  obtain ⟨b',g1,_,g2,_⟩:=Zg k b h1
  exact ⟨r,b',sz,n,g1,g2.trans h0,h2,h3,h4,by rw [World.cell?_of_block (hg k r b h1 (by rw [h0];simp) h2)];exact h5⟩
 |Jn k i c=>
  obtain ⟨r,b,n,sz,g,o,len,cap,h1,h0,h2,h3,h4,h5,h6⟩:=h
  obtain ⟨b',g1,_,_,g2,_⟩:=Zg k b h1
  exact ⟨r,b',n,sz,g,o,len,cap,g1,g2.trans h0,h2,h3,h4,by rw [World.cell?_of_block (hg k r b h1 (by cases b<;>first|(cases h0;done)|simp [OB.ez]) h2)];exact h5,h6⟩
 |clo f Eb=>
  obtain ⟨us,h1,h2,h3⟩:=h
  refine ⟨us,h1,h2,λj p hp=>?_⟩
  obtain ⟨r,tid,vs,h4,h5,h6⟩:=h3 j p hp
  obtain ⟨b',g1,_,_,_,g2,_⟩:=Zg p.1 _ h4
  rw [g2 tid vs rfl] at g1
  exact ⟨r,tid,vs,g1,h5,h6⟩
 |Ka k=>
  obtain ⟨r,vt,m,h1,h2,h3⟩:=h
  obtain ⟨b',g1,_,_,_,_,g2⟩:=Zg k _ h1
  rw [g2 vt m rfl] at g1
  exact ⟨r,vt,m,g1,h2,h3⟩
 |_=>exact h
theorem x9 (hT:Du P T) {st:St} {a:Act} (h:Bb X π st a w) {t:TypeId} {e:Ty} (ht:T.ty t=some e) {l i j:Nat} {te:TypeId} {rows:List (List e.den)} {kp:Option (Nat×Nat)} (hl:As st.heap l=some (.Bj e te rows none kp))
  {vp vx:Value} {fr:Bool} {x:e.den} (hp:Gy X w π st.heap (.Jn l i j) vp) (hx:Cz w (Cr X.w0.heap.size X.Sc π fr) e vx x) (vD:fr=false):
  ∃w',(Instr.storeAt t vp vx).run P w= .ok () w'/\Bb X π (st.Jm l (.Bj e te (rows.set i ((rows.getD i []).set j x)) none kp)) a w':=by
 subst vD
 obtain ⟨r,b,n,sz,g,o,len,cap,h1,h0,h2,h3,h4,h5,rfl⟩:=hp
 rw [hl] at h1;cases h1
 simp only [OB.rV,Aa,Ad] at h0
 obtain ⟨rfl,rfl⟩:=h0
 have hb:=(h.1.heap l).Qq hl
 simp only [By] at hb
 obtain ⟨hb,xH⟩:=hb
 rw [h2] at hb
 obtain ⟨b1,cur,ti,b2,b3,b4,b5,Rs,b6,b7,b8,b9⟩:=hb
 have dr:rows[i]?=some (rows.getD i []):=by rw [Al,Ac h3];rfl
 obtain ⟨u,R,k1,k2,k3,k4⟩:=b9 i _ dr (by simp)
 rw [cellOf b2,k1] at h5
 have hu:=Aw h5
 subst hu
 cases R with
 |none=>obtain ⟨hh,_⟩:=k3;cases hh
 |some q=>
  obtain ⟨ad,hh,g1,g2⟩:=k3
  simp only [Value.slice.injEq,Aa] at hh
  obtain ⟨rfl,rfl,rfl⟩:=hh
  have NZ:=g2 (by omega)
  simp only [Addr.mk.injEq,eY] at NZ
  obtain ⟨rfl,rfl⟩:=NZ
  obtain ⟨f1,cu,TI,f2,f3,f4,f5,f6⟩:=k4
  obtain ⟨hqf,hqg⟩:=b7 i q k2
  obtain ⟨es,eR,hv⟩:=hx
  have iR:=Cells.len e es x eR
  have UO:(q.o+0)*e.size+j*e.size=(q.o+j)*e.size:=by rw [Dz,<-Cw]
  have Wp:(q.o+j)*e.size+es.length<=cu.size:=by
   have:(q.o+j+1)*e.size<=(q.o+q.cap)*e.size:=Fa _ (by omega)
   rw [Cw (q.o+j) 1,Um] at this
   omega
  have Xy:(q.o+j)*e.size+es.length<=cu.toList.length:=by simpa using Wp
  have Qy:=Vj (P:=P) (w:=w) (hT.ty _ _ ht) q.g ((q.o+j)*e.size) vx es (by rw [hv];exact Ks e es x eR) iR (Cells.plain e es x eR) cu TI f2 Wp
  have hqo:Un π q.g:=⟨l,r,h2,hqf⟩
  have Qp:r.cl q.g:=h.1.sub l r _ h2 hqf
  have pU:=Mx w q.g (Dq cu.toList ((q.o+j)*e.size) es).toArray
  have oz: ∀c,c≠q.g->(w.setRow q.g (Dq cu.toList ((q.o+j)*e.size) es).toArray).heap[c]?=w.heap[c]?:= λc hc=>setRow_other w q.g c _ hc
  refine ⟨_,by simp only [Instr.storeAt,Instr.sureAddr];rw [UO];simpa using Qy,?_⟩
  have ZX:(st.Jm l (.Bj e te (rows.set i ((rows.getD i []).set j x)) none kp))= {tmps:=st.tmps.map (·.map λc=>c),heap:=Yr st.heap l (.Bj e te (rows.set i ((rows.getD i []).set j x)) none kp)} :=by
   unfold St.Jm
   congr 1
   exact ((Hq λc _=>AC.map_id c).trans (List.map_id'' (λ_=>rfl) st.tmps)).symm
  rw [ZX]
  have pZ: ∀k r0 c,π k=some r0->r0.cl c->k≠l->c≠q.g:= λk r0 c hk hc Is e=>Is (h.1.inj k l r0 r c hk h2 hc (e▸Qp))
  refine h.lG rfl (gv:= λc=>c=q.g) (λc hc=>hc▸hqo) ⟨pU.os,pU.tape,pU.output,pU.size,λc _ hc=>oz c hc⟩ (λ_ _ ho=>ho) h.1.sub (λk r0 c hk hc=>⟨(h.1.place k r0 c hk hc).1,Ec (h.1.place k r0 c hk hc).2 pU.size⟩) h.1.inj
   (λk hk Is=>h.1.fb k hk λh0=>Is ?_) (λhc=>IP hl (by simp) hc λk r0 b0 g1 g2 g3=>oz _ λe=>?_) (λm k b0 hk=>?_) (λk hk=>?_)
  ·have:k≠l:= λe=>by subst e;rw [hl] at h0;cases h0
   rw [Dv _ _ _ _ this];exact h0
  ·by_cases Rl:k=l
   ·subst Rl;rw [h2] at g3;cases g3;exact hqg e.symm
   ·exact pZ k r0 _ g3 (h.1.sub k r0 _ g3 (h.1.Cm g3)) Rl e
  ·by_cases Rl:k=l
   ·subst Rl
    rw [Ej _ _ _ _ hl] at hk;cases hk
    show ff X _ π (π k) e _ none kp
    rw [h2]
    refine ⟨⟨b1,cur,ti,(oz _ (Gl hqg)).trans b2,b3,b4,by simpa using b5,Rs,by simpa using b6,b7,b8,λi' y hy _=>?_⟩,(h2▸xH).Fw λq' m8=>by cases m8;exact oz _ (Gl hqg)⟩
    rw [Eh] at hy
    split at hy
    ·rename_i hii;subst hii
     have hy:=Aw hy
     subst hy
     refine ⟨_,some q,k1,k2,⟨_,by rw [Ce],by simpa using g1,λ_=>rfl⟩,?_⟩
     refine ⟨f1,_,_,setRow_heap w q.g cu _ TI _ f2,by rw [Gf,Ie _ _ _ Xy,Wc];exact f3,f4,by simpa using f5,λj' y hy=>?_⟩
     rw [Eh] at hy
     split at hy
     ·rename_i hjj;subst hjj
      have hy:=Aw hy
      subst hy
      refine ⟨es,iR,λp v l7=>?_,m.cells false e es x eR⟩
      have hp:p<es.length:=(Aj.1 l7).1
      rw [Hp,Ho _ _ _ _ Xy,Ai (by omega),Ab (by omega)]
      rw [show (q.o+j)*e.size+p-(q.o+j)*e.size=p by omega];exact l7
     ·rename_i hjj
      obtain ⟨kJ,SZ,pW,tA⟩:=f6 j' y hy
      refine ⟨kJ,SZ,λp v l7=>?_,m.cells false e kJ y tA⟩
      have hp:p<kJ.length:=(Aj.1 l7).1
      have:=pW p v l7
      rw [Hp,Ho _ _ _ _ Xy]
      rcases fm (o:=q.o) (i:=j') (j:=j) (s:=e.size) (p:=p) (λe=>hjj e.symm) (by omega) with Jx|GN
      ·rw [Ab Jx];simpa using this
      ·rw [Ai (by omega),Ai (by omega)];simpa using this
    ·rename_i hii
     obtain ⟨u',R',q1,q2,q3,q4⟩:=b9 i' y hy (by simp)
     refine ⟨u',R',q1,q2,q3,q4.to (λq' m8=>oz _ λe=>hii ?_) λes y hc=>m.cells false e es y hc⟩
     subst m8
     exact b8 i i' q q' k2 q2 e.symm
   ·rw [Dv _ _ _ _ Rl] at hk
    have:=((h.1.heap k).Qq hk).move m pU.size (λr0 c h0 h1=>h.1.sub _ r0 c h0 h1) λr0 c h0 h1 _=>oz c (pZ k r0 c h0 h1 Rl)
    cases b0 with
    |var tid vs=>simpa [OB.map] using this
    |_=>exact this
  ·have Rl:k≠l:= λe=>by subst e;rw [Ej _ _ _ _ hl] at hk;cases hk
   rw [Dv _ _ _ _ Rl] at hk
   exact (h.1.heap k).emp hk
end
end Go.Proofs.Ytkkdpknjohcekaa
