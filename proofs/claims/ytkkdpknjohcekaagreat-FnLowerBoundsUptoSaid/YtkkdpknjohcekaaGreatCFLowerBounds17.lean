/-
  Part 18 of the proof that the statement FnLowerBounds holds.
-/
import Derived.Test.YtkkdpknjohcekaaGreatCFLowerBounds16
namespace Go.Proofs.YtkkdpknjohcekaaGreat
open Go.RowKit
section
variable {P:Program} {T:Tab} {X:Ctx} {w w':World} {π π':Pi} {H H':List (Nat×OB)}
theorem RO {l:Nat} {e:Ty} {te:TypeId} {rows GF:List (List e.den)} {out hY:Option Nat} {kp:Option (Nat×Nat)} (hl:At H l=some (.Bp e te rows out kp)) (hn:GF.length=rows.length)
  (hc: ∀fr τ cs x,Cells w (Cx X.w0.heap.size X.Sc π fr) τ cs x->Cells w' (Cx X.w0.heap.size X.Sc π fr) τ cs x)
  (hg: ∀k r b,At H k=some b->b.gB≠none->π k=some r->w'.heap[r.g]?=w.heap[r.g]?): ∀c v,Ia X w π H c v->Ia X w' π (aF H l (.Bp e te GF hY kp)) c v:=by
 have aw: ∀k b,At H k=some b-> ∃b',At (aF H l (.Bp e te GF hY kp)) k=some b'/\b'.row=b.row/\b'.gB=b.gB/\b'.vB=b.vB/\(∀tid vs,b= .var tid vs->b'=b)/\ ∀v m,b= .Wm v m->b'=b:= λk b hb=>by
  by_cases e:k=l
  ·subst e
   rw [hl] at hb;cases hb
   exact ⟨_,Ew _ _ _ _ hl,by simp [OB.row,hn],by simp [OB.gB,hn],by simp [OB.vB,hn],(λ_ _ h=>by cases h),(λ_ _ h=>by cases h)⟩
  ·exact ⟨b,(Ed _ _ _ _ e).trans hb,rfl,rfl,rfl,λ_ _ _=>rfl,λ_ _ _=>rfl⟩
 intro c v h
 cases c with
 |data fr τ x=>obtain ⟨cs,h1,h2⟩:=h;exact ⟨cs,hc _ _ _ _ h1,h2⟩
 |own k off len=>
  obtain ⟨b,sz,n,h1,h0,h2,h3⟩:=h
  obtain ⟨b',g1,g2,_⟩:=aw k b h1
  exact ⟨b',sz,n,g1,g2.trans h0,h2,h3⟩
 |Hv k i=>
  obtain ⟨r,tid,vs,h1,h2,h3⟩:=h
  obtain ⟨b',g1,_,_,_,g2,_⟩:=aw k _ h1
  rw [g2 tid vs rfl] at g1
  exact ⟨r,tid,vs,g1,h2,h3⟩
 |Kw k i=>
  obtain ⟨r,b,sz,n,h1,h0,h2,h3,h4⟩:=h
  obtain ⟨b',g1,g2,_⟩:=aw k b h1
  exact ⟨r,b',sz,n,g1,g2.trans h0,h2,h3,h4⟩
 |sub k i c=>
  obtain ⟨r,b,sz,n,h1,h0,h2,h3,h4,h5⟩:=h
  obtain ⟨b',g1,_,g2,_⟩:=aw k b h1
  exact ⟨r,b',sz,n,g1,g2.trans h0,h2,h3,h4,by rw [World.cell?_of_block (hg k r b h1 (by rw [h0];simp) h2)];exact h5⟩
 |Ks k i c=>
  obtain ⟨r,b,n,sz,g,o,len,cap,h1,h0,h2,h3,h4,h5,h6⟩:=h
  obtain ⟨b',g1,_,_,g2,_⟩:=aw k b h1
  exact ⟨r,b',n,sz,g,o,len,cap,g1,g2.trans h0,h2,h3,h4,by rw [World.cell?_of_block (hg k r b h1 (by cases b<;>first|(cases h0;done)|simp [OB.gB]) h2)];exact h5,h6⟩
 |clo f Eh=>
  obtain ⟨us,h1,h2,h3⟩:=h
  refine ⟨us,h1,h2,λj p hp=>?_⟩
  obtain ⟨r,tid,vs,h4,h5,h6⟩:=h3 j p hp
  obtain ⟨b',g1,_,_,_,g2,_⟩:=aw p.1 _ h4
  rw [g2 tid vs rfl] at g1
  exact ⟨r,tid,vs,g1,h5,h6⟩
 |Ld k=>
  obtain ⟨r,vt,m,h1,h2,h3⟩:=h
  obtain ⟨b',g1,_,_,_,_,g2⟩:=aw k _ h1
  rw [g2 vt m rfl] at g1
  exact ⟨r,vt,m,g1,h2,h3⟩
 |_=>exact h
theorem AH (hT:Eg P T) {st:St} {a:Act} (h:Bh X π st a w) {t:TypeId} {e:Ty} (ht:T.ty t=some e) {l i j:Nat} {te:TypeId} {rows:List (List e.den)} {kp:Option (Nat×Nat)} (hl:At st.heap l=some (.Bp e te rows none kp))
  {vp vx:Value} {fr:Bool} {x:e.den} (hp:Ia X w π st.heap (.Ks l i j) vp) (hx:Cu w (Cx X.w0.heap.size X.Sc π fr) e vx x) (yN:fr=false):
  ∃w',(Instr.storeAt t vp vx).run P w= .ok () w'/\Bh X π (st.Kr l (.Bp e te (rows.set i ((rows.getD i []).set j x)) none kp)) a w':=by
 subst yN
 obtain ⟨r,b,n,sz,g,o,len,cap,h1,h0,h2,h3,h4,h5,rfl⟩:=hp
 rw [hl] at h1;cases h1
 simp only [OB.vB,Aa,Ae] at h0
 obtain ⟨rfl,rfl⟩:=h0
 have hb:=(h.1.heap l).Sn hl
 simp only [Cg] at hb
 obtain ⟨hb,sZ⟩:=hb
 rw [h2] at hb
 obtain ⟨b1,cur,ti,b2,b3,b4,b5,Rs,b6,b7,b8,b9⟩:=hb
 have bd:rows[i]?=some (rows.getD i []):=by rw [Ah,Ac h3];rfl
 obtain ⟨u,R,k1,k2,k3,k4⟩:=b9 i _ bd (by simp)
 rw [cellOf b2,k1] at h5
 have hu:=Bc h5
 subst hu
 cases R with
 |none=>obtain ⟨hh,_⟩:=k3;cases hh
 |some q=>
  obtain ⟨ad,hh,g1,g2⟩:=k3
  simp only [Value.slice.injEq,Aa] at hh
  obtain ⟨rfl,rfl,rfl⟩:=hh
  have WR:=g2 (by omega)
  simp only [Addr.mk.injEq,bo] at WR
  obtain ⟨rfl,rfl⟩:=WR
  obtain ⟨f1,cu,ti',f2,f3,f4,f5,f6⟩:=k4
  obtain ⟨hqf,hqg⟩:=b7 i q k2
  obtain ⟨es,gW,hv⟩:=hx
  have l4:=Cells.len e es x gW
  have Acq:(q.o+0)*e.size+j*e.size=(q.o+j)*e.size:=by rw [En,<-Df]
  have Yv:(q.o+j)*e.size+es.length<=cu.size:=by
   have:(q.o+j+1)*e.size<=(q.o+q.cap)*e.size:=Fa _ (by omega)
   rw [Df (q.o+j) 1,Wn] at this
   omega
  have aa:(q.o+j)*e.size+es.length<=cu.toList.length:=by simpa using Yv
  have Wk:=Xi (P:=P) (w:=w) (hT.ty _ _ ht) q.g ((q.o+j)*e.size) vx es (by rw [hv];exact Lo e es x gW) l4 (Cells.plain e es x gW) cu ti' f2 Yv
  have hqo:Wo π q.g:=⟨l,r,h2,hqf⟩
  have Rc:r.cl q.g:=h.1.sub l r _ h2 hqf
  have sV:=Oc w q.g (Dy cu.toList ((q.o+j)*e.size) es).toArray
  have rf: ∀c,c≠q.g->(w.setRow q.g (Dy cu.toList ((q.o+j)*e.size) es).toArray).heap[c]?=w.heap[c]?:= λc hc=>setRow_other w q.g c _ hc
  refine ⟨_,by simp only [Instr.storeAt,Instr.sureAddr];rw [Acq];simpa using Wk,?_⟩
  have Ahd:(st.Kr l (.Bp e te (rows.set i ((rows.getD i []).set j x)) none kp))= {tmps:=st.tmps.map (·.map λc=>c),heap:=aF st.heap l (.Bp e te (rows.set i ((rows.getD i []).set j x)) none kp)} :=by
   unfold St.Kr
   congr 1
   exact ((Ev λc _=>AC.map_id c).trans (List.map_id'' (λ_=>rfl) st.tmps)).symm
  rw [Ahd]
  have ta: ∀k r0 c,π k=some r0->r0.cl c->k≠l->c≠q.g:= λk r0 c hk hc Jd e=>Jd (h.1.inj k l r0 r c hk h2 hc (e▸Rc))
  refine h.o3 rfl (gv:= λc=>c=q.g) (λc hc=>hc▸hqo) ⟨sV.os,sV.tape,sV.output,sV.size,λc _ hc=>rf c hc⟩ (λ_ _ ho=>ho) h.1.sub (λk r0 c hk hc=>⟨(h.1.place k r0 c hk hc).1,Ei (h.1.place k r0 c hk hc).2 sV.size⟩) h.1.inj
   (λk hk Jd=>h.1.ic k hk λh0=>Jd ?_) (λhc=>RO hl (by simp) hc λk r0 b0 g1 g2 g3=>rf _ λe=>?_) (λm k b0 hk=>?_) (λk hk=>?_)
  ·have:k≠l:= λe=>by subst e;rw [hl] at h0;cases h0
   rw [Ed _ _ _ _ this];exact h0
  ·by_cases To:k=l
   ·subst To;rw [h2] at g3;cases g3;exact hqg e.symm
   ·exact ta k r0 _ g3 (h.1.sub k r0 _ g3 (h.1.Cq g3)) To e
  ·by_cases To:k=l
   ·subst To
    rw [Ew _ _ _ _ hl] at hk;cases hk
    show ij X _ π (π k) e _ none kp
    rw [h2]
    refine ⟨⟨b1,cur,ti,(rf _ (Hm hqg)).trans b2,b3,b4,by simpa using b5,Rs,by simpa using b6,b7,b8,λi' y hy _=>?_⟩,(h2▸sZ).Fw λq' jW=>by cases jW;exact rf _ (Hm hqg)⟩
    rw [Ej] at hy
    split at hy
    ·rename_i hii;subst hii
     have hy:=Bc hy
     subst hy
     refine ⟨_,some q,k1,k2,⟨_,by rw [Dg],by simpa using g1,λ_=>rfl⟩,?_⟩
     refine ⟨f1,_,_,setRow_heap w q.g cu _ ti' _ f2,by rw [Hg,Jm _ _ _ aa,Yf];exact f3,f4,by simpa using f5,λj' y hy=>?_⟩
     rw [Ej] at hy
     split at hy
     ·rename_i hjj;subst hjj
      have hy:=Bc hy
      subst hy
      refine ⟨es,l4,λp v DQ=>?_,m.cells false e es x gW⟩
      have hp:p<es.length:=(Am.1 DQ).1
      rw [Iw,Iv _ _ _ _ aa,Aj (by omega),Ab (by omega)]
      rw [show (q.o+j)*e.size+p-(q.o+j)*e.size=p by omega];exact DQ
     ·rename_i hjj
      obtain ⟨nc,he',sX,x9⟩:=f6 j' y hy
      refine ⟨nc,he',λp v DQ=>?_,m.cells false e nc y x9⟩
      have hp:p<nc.length:=(Am.1 DQ).1
      have:=sX p v DQ
      rw [Iw,Iv _ _ _ _ aa]
      rcases iu (o:=q.o) (i:=j') (j:=j) (s:=e.size) (p:=p) (λe=>hjj e.symm) (by omega) with Lq|vD
      ·rw [Ab Lq];simpa using this
      ·rw [Aj (by omega),Aj (by omega)];simpa using this
    ·rename_i hii
     obtain ⟨u',R',q1,q2,q3,q4⟩:=b9 i' y hy (by simp)
     refine ⟨u',R',q1,q2,q3,q4.to (λq' jW=>rf _ λe=>hii ?_) λes y hc=>m.cells false e es y hc⟩
     subst jW
     exact b8 i i' q q' k2 q2 e.symm
   ·rw [Ed _ _ _ _ To] at hk
    have:=((h.1.heap k).Sn hk).move m sV.size (λr0 c h0 h1=>h.1.sub _ r0 c h0 h1) λr0 c h0 h1 _=>rf c (ta k r0 c h0 h1 To)
    cases b0 with
    |var tid vs=>simpa [OB.map] using this
    |_=>exact this
  ·have To:k≠l:= λe=>by subst e;rw [Ew _ _ _ _ hl] at hk;cases hk
   rw [Ed _ _ _ _ To] at hk
   exact (h.1.heap k).emp hk
end
end Go.Proofs.YtkkdpknjohcekaaGreat
