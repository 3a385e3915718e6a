/-
  Part 18 of the proof that the statement FnTables holds.
-/
import Derived.Test.YtkkdpknjohcekaaCFTables16
namespace Go.Proofs.Ytkkdpknjohcekaa
open Go.RowKit
section
variable {P:Program} {T:Tab} {X:Ctx} {w w':World} {π π':Pi} {H H':List (Nat×OB)}
theorem JP {l:Nat} {e:Ty} {te:TypeId} {rows zU:List (List e.den)} {out eW:Option Nat} {kp:Option (Nat×Nat)} (hl:Aq H l=some (.Bm e te rows out kp)) (hn:zU.length=rows.length)
  (hc: ∀fr τ cs x,Cells w (Cp X.w0.heap.size X.Sc π fr) τ cs x->Cells w' (Cp X.w0.heap.size X.Sc π fr) τ cs x)
  (hg: ∀k r b,Aq H k=some b->b.eu≠none->π k=some r->w'.heap[r.g]?=w.heap[r.g]?): ∀c v,Gx X w π H c v->Gx X w' π (Yj H l (.Bm e te zU eW kp)) c v:=by
 have Yc: ∀k b,Aq H k=some b-> ∃b',Aq (Yj H l (.Bm e te zU eW kp)) k=some b'/\b'.row=b.row/\b'.eu=b.eu/\b'.sw=b.sw/\(∀tid vs,b= .var tid vs->b'=b)/\ ∀v m,b= .Ub v m->b'=b:= λk b hb=>by
  by_cases e:k=l
  ·subst e
   rw [hl] at hb;cases hb
   exact ⟨_,El _ _ _ _ hl,by simp [OB.row,hn],by simp [OB.eu,hn],by simp [OB.sw,hn],(λ_ _ h=>by cases h),(λ_ _ h=>by cases h)⟩
  ·exact ⟨b,(Dt _ _ _ _ e).trans hb,rfl,rfl,rfl,λ_ _ _=>rfl,λ_ _ _=>rfl⟩
 intro c v h
 cases c with
 |data fr τ x=>obtain ⟨cs,h1,h2⟩:=h;exact ⟨cs,hc _ _ _ _ h1,h2⟩
 |own k off len=>
  obtain ⟨b,sz,n,h1,h0,h2,h3⟩:=h
  obtain ⟨b',g1,g2,_⟩:=Yc k b h1
  exact ⟨b',sz,n,g1,g2.trans h0,h2,h3⟩
 |Gs k i=>
  obtain ⟨r,tid,vs,h1,h2,h3⟩:=h
  obtain ⟨b',g1,_,_,_,g2,_⟩:=Yc k _ h1
  rw [g2 tid vs rfl] at g1
  exact ⟨r,tid,vs,g1,h2,h3⟩
 |Jl k i=>
  obtain ⟨r,b,sz,n,h1,h0,h2,h3,h4⟩:=h
  obtain ⟨b',g1,g2,_⟩:=Yc k b h1
  exact ⟨r,b',sz,n,g1,g2.trans h0,h2,h3,h4⟩
 |sub k i c=>
  obtain ⟨r,b,sz,n,h1,h0,h2,h3,h4,h5⟩:=h
  obtain ⟨b',g1,_,g2,_⟩:=Yc k b h1
  exact ⟨r,b',sz,n,g1,g2.trans h0,h2,h3,h4,by rw [World.cell?_of_block (hg k r b h1 (by rw [h0];simp) h2)];exact h5⟩
 |Ji k i c=>
  obtain ⟨r,b,n,sz,g,o,len,cap,h1,h0,h2,h3,h4,h5,h6⟩:=h
  obtain ⟨b',g1,_,_,g2,_⟩:=Yc k b h1
  exact ⟨r,b',n,sz,g,o,len,cap,g1,g2.trans h0,h2,h3,h4,by rw [World.cell?_of_block (hg k r b h1 (by cases b<;>first|(cases h0;done)|simp [OB.eu]) h2)];exact h5,h6⟩
 |clo f Dy=>
  obtain ⟨us,h1,h2,h3⟩:=h
  refine ⟨us,h1,h2,λj p hp=>?_⟩
  obtain ⟨r,tid,vs,h4,h5,h6⟩:=h3 j p hp
  obtain ⟨b',g1,_,_,_,g2,_⟩:=Yc p.1 _ h4
  rw [g2 tid vs rfl] at g1
  exact ⟨r,tid,vs,g1,h5,h6⟩
 |Jw k=>
  obtain ⟨r,vt,m,h1,h2,h3⟩:=h
  obtain ⟨b',g1,_,_,_,_,g2⟩:=Yc k _ h1
  rw [g2 vt m rfl] at g1
  exact ⟨r,vt,m,g1,h2,h3⟩
 |_=>exact h
theorem xx (hT:Ed P T) {st:St} {a:Act} (h:Bd X π st a w) {t:TypeId} {e:Ty} (ht:T.ty t=some e) {l i j:Nat} {te:TypeId} {rows:List (List e.den)} {kp:Option (Nat×Nat)} (hl:Aq st.heap l=some (.Bm e te rows none kp))
  {vp vx:Value} {fr:Bool} {x:e.den} (hp:Gx X w π st.heap (.Ji l i j) vp) (hx:Df w (Cp X.w0.heap.size X.Sc π fr) e vx x) (yS:fr=false):
  ∃w',(Instr.storeAt t vp vx).run P w= .ok () w'/\Bd X π (st.Jh l (.Bm e te (rows.set i ((rows.getD i []).set j x)) none kp)) a w':=by
 subst yS
 obtain ⟨r,b,n,sz,g,o,len,cap,h1,h0,h2,h3,h4,h5,rfl⟩:=hp
 rw [hl] at h1;cases h1
 simp only [OB.sw,Aa,Ae] at h0
 obtain ⟨rfl,rfl⟩:=h0
 have hb:=(h.1.heap l).Qi hl
 simp only [Bw] at hb
 obtain ⟨hb,xY⟩:=hb
 rw [h2] at hb
 obtain ⟨b1,cur,ti,b2,b3,b4,b5,Rs,b6,b7,b8,b9⟩:=hb
 have bJ:rows[i]?=some (rows.getD i []):=by rw [Ah,Ac h3];rfl
 obtain ⟨u,R,k1,k2,k3,k4⟩:=b9 i _ bJ (by simp)
 rw [cellOf b2,k1] at h5
 have hu:=Ba h5
 subst hu
 cases R with
 |none=>obtain ⟨hh,_⟩:=k3;cases hh
 |some q=>
  obtain ⟨ad,hh,g1,g2⟩:=k3
  simp only [Value.slice.injEq,Aa] at hh
  obtain ⟨rfl,rfl,rfl⟩:=hh
  have OW:=g2 (by omega)
  simp only [Addr.mk.injEq,eZ] at OW
  obtain ⟨rfl,rfl⟩:=OW
  obtain ⟨f1,cu,UI,f2,f3,f4,f5,f6⟩:=k4
  obtain ⟨hqf,hqg⟩:=b7 i q k2
  obtain ⟨es,eR,hv⟩:=hx
  have j8:=Cells.len e es x eR
  have VF:(q.o+0)*e.size+j*e.size=(q.o+j)*e.size:=by rw [Ef,<-Cx]
  have We:(q.o+j)*e.size+es.length<=cu.size:=by
   have:(q.o+j+1)*e.size<=(q.o+q.cap)*e.size:=Ff _ (by omega)
   rw [Cx (q.o+j) 1,Ud] at this
   omega
  have Xm:(q.o+j)*e.size+es.length<=cu.toList.length:=by simpa using We
  have Tz:=Uy (P:=P) (w:=w) (hT.ty _ _ ht) q.g ((q.o+j)*e.size) vx es (by rw [hv];exact Ki e es x eR) j8 (Cells.plain e es x eR) cu UI f2 We
  have hqo:Ue π q.g:=⟨l,r,h2,hqf⟩
  have Qh:r.cl q.g:=h.1.sub l r _ h2 hqf
  have qp:=Mr w q.g (Dq cu.toList ((q.o+j)*e.size) es).toArray
  have oE: ∀c,c≠q.g->(w.setRow q.g (Dq cu.toList ((q.o+j)*e.size) es).toArray).heap[c]?=w.heap[c]?:= λc hc=>setRow_other w q.g c _ hc
  refine ⟨_,by simp only [Instr.storeAt,Instr.sureAddr];rw [VF];simpa using Tz,?_⟩
  have KB:(st.Jh l (.Bm e te (rows.set i ((rows.getD i []).set j x)) none kp))= {tmps:=st.tmps.map (·.map λc=>c),heap:=Yj st.heap l (.Bm e te (rows.set i ((rows.getD i []).set j x)) none kp)} :=by
   unfold St.Jh
   congr 1
   exact ((Ek λc _=>AC.map_id c).trans (List.map_id'' (λ_=>rfl) st.tmps)).symm
  rw [KB]
  have qu: ∀k r0 c,π k=some r0->r0.cl c->k≠l->c≠q.g:= λk r0 c hk hc Jg e=>Jg (h.1.inj k l r0 r c hk h2 hc (e▸Qh))
  refine h.lI rfl (gv:= λc=>c=q.g) (λc hc=>hc▸hqo) ⟨qp.os,qp.tape,qp.output,qp.size,λc _ hc=>oE c hc⟩ (λ_ _ ho=>ho) h.1.sub (λk r0 c hk hc=>⟨(h.1.place k r0 c hk hc).1,Dz (h.1.place k r0 c hk hc).2 qp.size⟩) h.1.inj
   (λk hk Jg=>h.1.fb k hk λh0=>Jg ?_) (λhc=>JP hl (by simp) hc λk r0 b0 g1 g2 g3=>oE _ λe=>?_) (λm k b0 hk=>?_) (λk hk=>?_)
  ·have:k≠l:= λe=>by subst e;rw [hl] at h0;cases h0
   rw [Dt _ _ _ _ this];exact h0
  ·by_cases Ra:k=l
   ·subst Ra;rw [h2] at g3;cases g3;exact hqg e.symm
   ·exact qu k r0 _ g3 (h.1.sub k r0 _ g3 (h.1.Ci g3)) Ra e
  ·by_cases Ra:k=l
   ·subst Ra
    rw [El _ _ _ _ hl] at hk;cases hk
    show ff X _ π (π k) e _ none kp
    rw [h2]
    refine ⟨⟨b1,cur,ti,(oE _ (Hi hqg)).trans b2,b3,b4,by simpa using b5,Rs,by simpa using b6,b7,b8,λi' y hy _=>?_⟩,(h2▸xY).Gg λq' ud=>by cases ud;exact oE _ (Hi hqg)⟩
    rw [Dp] at hy
    split at hy
    ·rename_i hii;subst hii
     have hy:=Ba hy
     subst hy
     refine ⟨_,some q,k1,k2,⟨_,by rw [Ez],by simpa using g1,λ_=>rfl⟩,?_⟩
     refine ⟨f1,_,_,setRow_heap w q.g cu _ UI _ f2,by rw [Gj,Ij _ _ _ Xm,Vr];exact f3,f4,by simpa using f5,λj' y hy=>?_⟩
     rw [Dp] at hy
     split at hy
     ·rename_i hjj;subst hjj
      have hy:=Ba hy
      subst hy
      refine ⟨es,j8,λp v yX=>?_,m.cells false e es x eR⟩
      have hp:p<es.length:=(Aj.1 yX).1
      rw [Ho,Hl _ _ _ _ Xm,Al (by omega),Ab (by omega)]
      rw [show (q.o+j)*e.size+p-(q.o+j)*e.size=p by omega];exact yX
     ·rename_i hjj
      obtain ⟨kT,UC,qs,u4⟩:=f6 j' y hy
      refine ⟨kT,UC,λp v yX=>?_,m.cells false e kT y u4⟩
      have hp:p<kT.length:=(Aj.1 yX).1
      have:=qs p v yX
      rw [Ho,Hl _ _ _ _ Xm]
      rcases fk (o:=q.o) (i:=j') (j:=j) (s:=e.size) (p:=p) (λe=>hjj e.symm) (by omega) with Js|NM
      ·rw [Ab Js];simpa using this
      ·rw [Al (by omega),Al (by omega)];simpa using this
    ·rename_i hii
     obtain ⟨u',R',q1,q2,q3,q4⟩:=b9 i' y hy (by simp)
     refine ⟨u',R',q1,q2,q3,q4.to (λq' ud=>oE _ λe=>hii ?_) λes y hc=>m.cells false e es y hc⟩
     subst ud
     exact b8 i i' q q' k2 q2 e.symm
   ·rw [Dt _ _ _ _ Ra] at hk
    have:=((h.1.heap k).Qi hk).move m qp.size (λr0 c h0 h1=>h.1.sub _ r0 c h0 h1) λr0 c h0 h1 _=>oE c (qu k r0 c h0 h1 Ra)
    cases b0 with
    |var tid vs=>simpa [OB.map] using this
    |_=>exact this
  ·have Ra:k≠l:= λe=>by subst e;rw [El _ _ _ _ hl] at hk;cases hk
   rw [Dt _ _ _ _ Ra] at hk
   exact (h.1.heap k).emp hk
end
end Go.Proofs.Ytkkdpknjohcekaa
