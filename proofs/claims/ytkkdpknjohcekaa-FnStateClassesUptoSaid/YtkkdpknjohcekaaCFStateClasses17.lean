/-
  Part 18 of the proof that the statement FnStateClasses holds.
-/
import Derived.Test.YtkkdpknjohcekaaCFStateClasses16
namespace Go.Proofs.Ytkkdpknjohcekaa
open Go.RowKit
section
variable {P:Program} {T:Tab} {X:Ctx} {w w':World} {π π':Pi} {H H':List (Nat×OB)}
theorem MY {l:Nat} {e:Ty} {te:TypeId} {rows CN:List (List e.den)} {out Uq:Option Nat} {kp:Option (Nat×Nat)} (hl:At H l=some (.Bo e te rows out kp)) (hn:CN.length=rows.length)
  (hc: ∀fr τ cs x,Cells w (Cv X.w0.heap.size X.Sc π fr) τ cs x->Cells w' (Cv X.w0.heap.size X.Sc π fr) τ cs x)
  (hg: ∀k r b,At H k=some b->b.eW≠none->π k=some r->w'.heap[r.g]?=w.heap[r.g]?): ∀c v,Gu X w π H c v->Gu X w' π (Ze H l (.Bo e te CN Uq kp)) c v:=by
 have Yh: ∀k b,At H k=some b-> ∃b',At (Ze H l (.Bo e te CN Uq kp)) k=some b'/\b'.row=b.row/\b'.eW=b.eW/\b'.tp=b.tp/\(∀tid vs,b= .var tid vs->b'=b)/\ ∀v m,b= .Ur v m->b'=b:= λk b hb=>by
  by_cases e:k=l
  ·subst e
   rw [hl] at hb;cases hb
   exact ⟨_,Eo _ _ _ _ hl,by simp [OB.row,hn],by simp [OB.eW,hn],by simp [OB.tp,hn],(λ_ _ h=>by cases h),(λ_ _ h=>by cases h)⟩
  ·exact ⟨b,(Dv _ _ _ _ e).trans hb,rfl,rfl,rfl,λ_ _ _=>rfl,λ_ _ _=>rfl⟩
 intro c v h
 cases c with
 |data fr τ x=>obtain ⟨cs,h1,h2⟩:=h;exact ⟨cs,hc _ _ _ _ h1,h2⟩
 |own k off len=>
  obtain ⟨b,sz,n,h1,h0,h2,h3⟩:=h
  obtain ⟨b',g1,g2,_⟩:=Yh k b h1
  exact ⟨b',sz,n,g1,g2.trans h0,h2,h3⟩
 |Gp k i=>
  obtain ⟨r,tid,vs,h1,h2,h3⟩:=h
  obtain ⟨b',g1,_,_,_,g2,_⟩:=Yh k _ h1
  rw [g2 tid vs rfl] at g1
  exact ⟨r,tid,vs,g1,h2,h3⟩
 |Jm k i=>
  obtain ⟨r,b,sz,n,h1,h0,h2,h3,h4⟩:=h
  obtain ⟨b',g1,g2,_⟩:=Yh k b h1
  exact ⟨r,b',sz,n,g1,g2.trans h0,h2,h3,h4⟩
 |sub k i c=>
  obtain ⟨r,b,sz,n,h1,h0,h2,h3,h4,h5⟩:=h
  obtain ⟨b',g1,_,g2,_⟩:=Yh k b h1
  exact ⟨r,b',sz,n,g1,g2.trans h0,h2,h3,h4,by rw [World.cell?_of_block (hg k r b h1 (by rw [h0];simp) h2)];exact h5⟩
 |Jj k i c=>
  obtain ⟨r,b,n,sz,g,o,len,cap,h1,h0,h2,h3,h4,h5,h6⟩:=h
  obtain ⟨b',g1,_,_,g2,_⟩:=Yh k b h1
  exact ⟨r,b',n,sz,g,o,len,cap,g1,g2.trans h0,h2,h3,h4,by rw [World.cell?_of_block (hg k r b h1 (by cases b<;>first|(cases h0;done)|simp [OB.eW]) h2)];exact h5,h6⟩
 |clo f Dz=>
  obtain ⟨us,h1,h2,h3⟩:=h
  refine ⟨us,h1,h2,λj p hp=>?_⟩
  obtain ⟨r,tid,vs,h4,h5,h6⟩:=h3 j p hp
  obtain ⟨b',g1,_,_,_,g2,_⟩:=Yh p.1 _ h4
  rw [g2 tid vs rfl] at g1
  exact ⟨r,tid,vs,g1,h5,h6⟩
 |Jt k=>
  obtain ⟨r,vt,m,h1,h2,h3⟩:=h
  obtain ⟨b',g1,_,_,_,_,g2⟩:=Yh k _ h1
  rw [g2 vt m rfl] at g1
  exact ⟨r,vt,m,g1,h2,h3⟩
 |_=>exact h
theorem yw (hT:Dn P T) {st:St} {a:Act} (h:Bg X π st a w) {t:TypeId} {e:Ty} (ht:T.ty t=some e) {l i j:Nat} {te:TypeId} {rows:List (List e.den)} {kp:Option (Nat×Nat)} (hl:At st.heap l=some (.Bo e te rows none kp))
  {vp vx:Value} {fr:Bool} {x:e.den} (hp:Gu X w π st.heap (.Jj l i j) vp) (hx:Ct w (Cv X.w0.heap.size X.Sc π fr) e vx x) (wU:fr=false):
  ∃w',(Instr.storeAt t vp vx).run P w= .ok () w'/\Bg X π (st.Ji l (.Bo e te (rows.set i ((rows.getD i []).set j x)) none kp)) a w':=by
 subst wU
 obtain ⟨r,b,n,sz,g,o,len,cap,h1,h0,h2,h3,h4,h5,rfl⟩:=hp
 rw [hl] at h1;cases h1
 simp only [OB.tp,Aa,Ad] at h0
 obtain ⟨rfl,rfl⟩:=h0
 have hb:=(h.1.heap l).Qw hl
 simp only [Cd] at hb
 obtain ⟨hb,qY⟩:=hb
 rw [h2] at hb
 obtain ⟨b1,cur,ti,b2,b3,b4,b5,Rs,b6,b7,b8,b9⟩:=hb
 have Wx:rows[i]?=some (rows.getD i []):=by rw [Ah,Ab h3];rfl
 obtain ⟨u,R,k1,k2,k3,k4⟩:=b9 i _ Wx (by simp)
 rw [cellOf b2,k1] at h5
 have hu:=Ax h5
 subst hu
 cases R with
 |none=>obtain ⟨hh,_⟩:=k3;cases hh
 |some q=>
  obtain ⟨ad,hh,g1,g2⟩:=k3
  simp only [Value.slice.injEq,Aa] at hh
  obtain ⟨rfl,rfl,rfl⟩:=hh
  have SI:=g2 (by omega)
  simp only [Addr.mk.injEq,ah] at SI
  obtain ⟨rfl,rfl⟩:=SI
  obtain ⟨f1,cu,XM,f2,f3,f4,f5,f6⟩:=k4
  obtain ⟨hqf,hqg⟩:=b7 i q k2
  obtain ⟨es,fz,hv⟩:=hx
  have jy:=Cells.len e es x fz
  have YP:(q.o+0)*e.size+j*e.size=(q.o+j)*e.size:=by rw [Dx,<-Dc]
  have Ww:(q.o+j)*e.size+es.length<=cu.size:=by
   have:(q.o+j+1)*e.size<=(q.o+q.cap)*e.size:=Eg _ (by omega)
   rw [Dc (q.o+j) 1,Us] at this
   omega
  have Yl:(q.o+j)*e.size+es.length<=cu.toList.length:=by simpa using Ww
  have Rd:=Vo (P:=P) (w:=w) (hT.ty _ _ ht) q.g ((q.o+j)*e.size) vx es (by rw [hv];exact Ko e es x fz) jy (Cells.plain e es x fz) cu XM f2 Ww
  have hqo:Ut π q.g:=⟨l,r,h2,hqf⟩
  have Py:r.cl q.g:=h.1.sub l r _ h2 hqf
  have qU:=Nb w q.g (Dp cu.toList ((q.o+j)*e.size) es).toArray
  have pf: ∀c,c≠q.g->(w.setRow q.g (Dp cu.toList ((q.o+j)*e.size) es).toArray).heap[c]?=w.heap[c]?:= λc hc=>setRow_other w q.g c _ hc
  refine ⟨_,by simp only [Instr.storeAt,Instr.sureAddr];rw [YP];simpa using Rd,?_⟩
  have Adh:(st.Ji l (.Bo e te (rows.set i ((rows.getD i []).set j x)) none kp))= {tmps:=st.tmps.map (·.map λc=>c),heap:=Ze st.heap l (.Bo e te (rows.set i ((rows.getD i []).set j x)) none kp)} :=by
   unfold St.Ji
   congr 1
   exact ((Fz λc _=>AC.map_id c).trans (List.map_id'' (λ_=>rfl) st.tmps)).symm
  rw [Adh]
  have r7: ∀k r0 c,π k=some r0->r0.cl c->k≠l->c≠q.g:= λk r0 c hk hc Hq e=>Hq (h.1.inj k l r0 r c hk h2 hc (e▸Py))
  refine h.mo rfl (gv:= λc=>c=q.g) (λc hc=>hc▸hqo) ⟨qU.os,qU.tape,qU.output,qU.size,λc _ hc=>pf c hc⟩ (λ_ _ ho=>ho) h.1.sub (λk r0 c hk hc=>⟨(h.1.place k r0 c hk hc).1,Ea (h.1.place k r0 c hk hc).2 qU.size⟩) h.1.inj
   (λk hk Hq=>h.1.fI k hk λh0=>Hq ?_) (λhc=>MY hl (by simp) hc λk r0 b0 g1 g2 g3=>pf _ λe=>?_) (λm k b0 hk=>?_) (λk hk=>?_)
  ·have:k≠l:= λe=>by subst e;rw [hl] at h0;cases h0
   rw [Dv _ _ _ _ this];exact h0
  ·by_cases Rq:k=l
   ·subst Rq;rw [h2] at g3;cases g3;exact hqg e.symm
   ·exact r7 k r0 _ g3 (h.1.sub k r0 _ g3 (h.1.Cq g3)) Rq e
  ·by_cases Rq:k=l
   ·subst Rq
    rw [Eo _ _ _ _ hl] at hk;cases hk
    show fM X _ π (π k) e _ none kp
    rw [h2]
    refine ⟨⟨b1,cur,ti,(pf _ (Fv hqg)).trans b2,b3,b4,by simpa using b5,Rs,by simpa using b6,b7,b8,λi' y hy _=>?_⟩,(h2▸qY).Fb λq' cA=>by cases cA;exact pf _ (Fv hqg)⟩
    rw [Eb] at hy
    split at hy
    ·rename_i hii;subst hii
     have hy:=Ax hy
     subst hy
     refine ⟨_,some q,k1,k2,⟨_,by rw [Bt],by simpa using g1,λ_=>rfl⟩,?_⟩
     refine ⟨f1,_,_,setRow_heap w q.g cu _ XM _ f2,by rw [Gf,Ii _ _ _ Yl,Wf];exact f3,f4,by simpa using f5,λj' y hy=>?_⟩
     rw [Eb] at hy
     split at hy
     ·rename_i hjj;subst hjj
      have hy:=Ax hy
      subst hy
      refine ⟨es,jy,λp v lU=>?_,m.cells false e es x fz⟩
      have hp:p<es.length:=(Am.1 lU).1
      rw [Hl,Hj _ _ _ _ Yl,Ai (by omega),Ac (by omega)]
      rw [show (q.o+j)*e.size+p-(q.o+j)*e.size=p by omega];exact lU
     ·rename_i hjj
      obtain ⟨lu,XE,oq,uM⟩:=f6 j' y hy
      refine ⟨lu,XE,λp v lU=>?_,m.cells false e lu y uM⟩
      have hp:p<lu.length:=(Am.1 lU).1
      have:=oq p v lU
      rw [Hl,Hj _ _ _ _ Yl]
      rcases fT (o:=q.o) (i:=j') (j:=j) (s:=e.size) (p:=p) (λe=>hjj e.symm) (by omega) with Jl|qT
      ·rw [Ac Jl];simpa using this
      ·rw [Ai (by omega),Ai (by omega)];simpa using this
    ·rename_i hii
     obtain ⟨u',R',q1,q2,q3,q4⟩:=b9 i' y hy (by simp)
     refine ⟨u',R',q1,q2,q3,q4.to (λq' cA=>pf _ λe=>hii ?_) λes y hc=>m.cells false e es y hc⟩
     subst cA
     exact b8 i i' q q' k2 q2 e.symm
   ·rw [Dv _ _ _ _ Rq] at hk
    have:=((h.1.heap k).Qw hk).move m qU.size (λr0 c h0 h1=>h.1.sub _ r0 c h0 h1) λr0 c h0 h1 _=>pf c (r7 k r0 c h0 h1 Rq)
    cases b0 with
    |var tid vs=>simpa [OB.map] using this
    |_=>exact this
  ·have Rq:k≠l:= λe=>by subst e;rw [Eo _ _ _ _ hl] at hk;cases hk
   rw [Dv _ _ _ _ Rq] at hk
   exact (h.1.heap k).emp hk
end
end Go.Proofs.Ytkkdpknjohcekaa
