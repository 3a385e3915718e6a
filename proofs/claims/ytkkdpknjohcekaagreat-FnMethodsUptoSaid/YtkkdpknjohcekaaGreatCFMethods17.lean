/-
  Part 18 of the proof that the statement FnMethods holds.
-/
import Derived.Test.YtkkdpknjohcekaaGreatCFMethods16
namespace Go.Proofs.YtkkdpknjohcekaaGreat
open Go.RowKit
section
variable {P:Program} {T:Tab} {X:Ctx} {w w':World} {π π':Pi} {H H':List (Nat×OB)}
theorem UH {l:Nat} {e:Ty} {te:TypeId} {rows IJ:List (List e.den)} {out iy:Option Nat} {kp:Option (Nat×Nat)} (hl:Av H l=some (.Bu e te rows out kp)) (hn:IJ.length=rows.length)
  (hc: ∀fr τ cs x,Cells w (Dc X.w0.heap.size X.Sc π fr) τ cs x->Cells w' (Dc X.w0.heap.size X.Sc π fr) τ cs x)
  (hg: ∀k r b,Av H k=some b->b.gQ≠none->π k=some r->w'.heap[r.g]?=w.heap[r.g]?): ∀c v,Iq X w π H c v->Iq X w' π (aF H l (.Bu e te IJ iy kp)) c v:=by
 have Wl: ∀k b,Av H k=some b-> ∃b',Av (aF H l (.Bu e te IJ iy kp)) k=some b'/\b'.row=b.row/\b'.gQ=b.gQ/\b'.w9=b.w9/\(∀tid vs,b= .var tid vs->b'=b)/\ ∀v m,b= .Wi v m->b'=b:= λk b hb=>by
  by_cases e:k=l
  ·subst e
   rw [hl] at hb;cases hb
   exact ⟨_,Fu _ _ _ _ hl,by simp [OB.row,hn],by simp [OB.gQ,hn],by simp [OB.w9,hn],(λ_ _ h=>by cases h),(λ_ _ h=>by cases h)⟩
  ·exact ⟨b,(El _ _ _ _ e).trans hb,rfl,rfl,rfl,λ_ _ _=>rfl,λ_ _ _=>rfl⟩
 intro c v h
 cases c with
 |data fr τ x=>obtain ⟨cs,h1,h2⟩:=h;exact ⟨cs,hc _ _ _ _ h1,h2⟩
 |own k off len=>
  obtain ⟨b,sz,n,h1,h0,h2,h3⟩:=h
  obtain ⟨b',g1,g2,_⟩:=Wl k b h1
  exact ⟨b',sz,n,g1,g2.trans h0,h2,h3⟩
 |Ii k i=>
  obtain ⟨r,tid,vs,h1,h2,h3⟩:=h
  obtain ⟨b',g1,_,_,_,g2,_⟩:=Wl k _ h1
  rw [g2 tid vs rfl] at g1
  exact ⟨r,tid,vs,g1,h2,h3⟩
 |Ld k i=>
  obtain ⟨r,b,sz,n,h1,h0,h2,h3,h4⟩:=h
  obtain ⟨b',g1,g2,_⟩:=Wl k b h1
  exact ⟨r,b',sz,n,g1,g2.trans h0,h2,h3,h4⟩
 |sub k i c=>
  obtain ⟨r,b,sz,n,h1,h0,h2,h3,h4,h5⟩:=h
  obtain ⟨b',g1,_,g2,_⟩:=Wl k b h1
  exact ⟨r,b',sz,n,g1,g2.trans h0,h2,h3,h4,by rw [World.cell?_of_block (hg k r b h1 (by rw [h0];simp) h2)];exact h5⟩
 |Ky k i c=>
  obtain ⟨r,b,n,sz,g,o,len,cap,h1,h0,h2,h3,h4,h5,h6⟩:=h
  obtain ⟨b',g1,_,_,g2,_⟩:=Wl k b h1
  exact ⟨r,b',n,sz,g,o,len,cap,g1,g2.trans h0,h2,h3,h4,by rw [World.cell?_of_block (hg k r b h1 (by cases b<;>first|(cases h0;done)|simp [OB.gQ]) h2)];exact h5,h6⟩
 |clo f Ev=>
  obtain ⟨us,h1,h2,h3⟩:=h
  refine ⟨us,h1,h2,λj p hp=>?_⟩
  obtain ⟨r,tid,vs,h4,h5,h6⟩:=h3 j p hp
  obtain ⟨b',g1,_,_,_,g2,_⟩:=Wl p.1 _ h4
  rw [g2 tid vs rfl] at g1
  exact ⟨r,tid,vs,g1,h5,h6⟩
 |Lk k=>
  obtain ⟨r,vt,m,h1,h2,h3⟩:=h
  obtain ⟨b',g1,_,_,_,_,g2⟩:=Wl k _ h1
  rw [g2 vt m rfl] at g1
  exact ⟨r,vt,m,g1,h2,h3⟩
 |_=>exact h
theorem CM (hT:Ep P T) {st:St} {a:Act} (h:Bh X π st a w) {t:TypeId} {e:Ty} (ht:T.ty t=some e) {l i j:Nat} {te:TypeId} {rows:List (List e.den)} {kp:Option (Nat×Nat)} (hl:Av st.heap l=some (.Bu e te rows none kp))
  {vp vx:Value} {fr:Bool} {x:e.den} (hp:Iq X w π st.heap (.Ky l i j) vp) (hx:Dg w (Dc X.w0.heap.size X.Sc π fr) e vx x) (zG:fr=false):
  ∃w',(Instr.storeAt t vp vx).run P w= .ok () w'/\Bh X π (st.Kx l (.Bu e te (rows.set i ((rows.getD i []).set j x)) none kp)) a w':=by
 subst zG
 obtain ⟨r,b,n,sz,g,o,len,cap,h1,h0,h2,h3,h4,h5,rfl⟩:=hp
 rw [hl] at h1;cases h1
 simp only [OB.w9,Aa,Af] at h0
 obtain ⟨rfl,rfl⟩:=h0
 have hb:=(h.1.heap l).Sl hl
 simp only [Cl] at hb
 obtain ⟨hb,tP⟩:=hb
 rw [h2] at hb
 obtain ⟨b1,cur,ti,b2,b3,b4,b5,Rs,b6,b7,b8,b9⟩:=hb
 have Yq:rows[i]?=some (rows.getD i []):=by rw [Ak,Ac h3];rfl
 obtain ⟨u,R,k1,k2,k3,k4⟩:=b9 i _ Yq (by simp)
 rw [cellOf b2,k1] at h5
 have hu:=Bd h5
 subst hu
 cases R with
 |none=>obtain ⟨hh,_⟩:=k3;cases hh
 |some q=>
  obtain ⟨ad,hh,g1,g2⟩:=k3
  simp only [Value.slice.injEq,Aa] at hh
  obtain ⟨rfl,rfl,rfl⟩:=hh
  have RT:=g2 (by omega)
  simp only [Addr.mk.injEq,bq] at RT
  obtain ⟨rfl,rfl⟩:=RT
  obtain ⟨f1,cu,ti',f2,f3,f4,f5,f6⟩:=k4
  obtain ⟨hqf,hqg⟩:=b7 i q k2
  obtain ⟨es,ir,hv⟩:=hx
  have jg:=Cells.len e es x ir
  have Afd:(q.o+0)*e.size+j*e.size=(q.o+j)*e.size:=by rw [Eo,<-Dq]
  have Wx:(q.o+j)*e.size+es.length<=cu.size:=by
   have:(q.o+j+1)*e.size<=(q.o+q.cap)*e.size:=Fv _ (by omega)
   rw [Dq (q.o+j) 1,Wk] at this
   omega
  have a7:(q.o+j)*e.size+es.length<=cu.toList.length:=by simpa using Wx
  have Wg:=Xg (P:=P) (w:=w) (hT.ty _ _ ht) q.g ((q.o+j)*e.size) vx es (by rw [hv];exact Ly e es x ir) jg (Cells.plain e es x ir) cu ti' f2 Wx
  have hqo:Vd π q.g:=⟨l,r,h2,hqf⟩
  have Sa:r.cl q.g:=h.1.sub l r _ h2 hqf
  have tH:=Om w q.g (Dt cu.toList ((q.o+j)*e.size) es).toArray
  have rU: ∀c,c≠q.g->(w.setRow q.g (Dt cu.toList ((q.o+j)*e.size) es).toArray).heap[c]?=w.heap[c]?:= λc hc=>setRow_other w q.g c _ hc
  refine ⟨_,by simp only [Instr.storeAt,Instr.sureAddr];rw [Afd];simpa using Wg,?_⟩
  have Aka:(st.Kx l (.Bu e te (rows.set i ((rows.getD i []).set j x)) none kp))= {tmps:=st.tmps.map (·.map λc=>c),heap:=aF st.heap l (.Bu e te (rows.set i ((rows.getD i []).set j x)) none kp)} :=by
   unfold St.Kx
   congr 1
   exact ((Ft λc _=>AC.map_id c).trans (List.map_id'' (λ_=>rfl) st.tmps)).symm
  rw [Aka]
  have tS: ∀k r0 c,π k=some r0->r0.cl c->k≠l->c≠q.g:= λk r0 c hk hc Jd e=>Jd (h.1.inj k l r0 r c hk h2 hc (e▸Sa))
  refine h.oB rfl (gv:= λc=>c=q.g) (λc hc=>hc▸hqo) ⟨tH.os,tH.tape,tH.output,tH.size,λc _ hc=>rU c hc⟩ (λ_ _ ho=>ho) h.1.sub (λk r0 c hk hc=>⟨(h.1.place k r0 c hk hc).1,Ew (h.1.place k r0 c hk hc).2 tH.size⟩) h.1.inj
   (λk hk Jd=>h.1.iD k hk λh0=>Jd ?_) (λhc=>UH hl (by simp) hc λk r0 b0 g1 g2 g3=>rU _ λe=>?_) (λm k b0 hk=>?_) (λk hk=>?_)
  ·have:k≠l:= λe=>by subst e;rw [hl] at h0;cases h0
   rw [El _ _ _ _ this];exact h0
  ·by_cases Pf:k=l
   ·subst Pf;rw [h2] at g3;cases g3;exact hqg e.symm
   ·exact tS k r0 _ g3 (h.1.sub k r0 _ g3 (h.1.Cw g3)) Pf e
  ·by_cases Pf:k=l
   ·subst Pf
    rw [Fu _ _ _ _ hl] at hk;cases hk
    show iG X _ π (π k) e _ none kp
    rw [h2]
    refine ⟨⟨b1,cur,ti,(rU _ (Hv hqg)).trans b2,b3,b4,by simpa using b5,Rs,by simpa using b6,b7,b8,λi' y hy _=>?_⟩,(h2▸tP).Gj λq' iB=>by cases iB;exact rU _ (Hv hqg)⟩
    rw [Ex] at hy
    split at hy
    ·rename_i hii;subst hii
     have hy:=Bd hy
     subst hy
     refine ⟨_,some q,k1,k2,⟨_,by rw [Co],by simpa using g1,λ_=>rfl⟩,?_⟩
     refine ⟨f1,_,_,setRow_heap w q.g cu _ ti' _ f2,by rw [Gz,Ju _ _ _ a7,Ma];exact f3,f4,by simpa using f5,λj' y hy=>?_⟩
     rw [Ex] at hy
     split at hy
     ·rename_i hjj;subst hjj
      have hy:=Bd hy
      subst hy
      refine ⟨es,jg,λp v tV=>?_,m.cells false e es x ir⟩
      have hp:p<es.length:=(Ao.1 tV).1
      rw [Jb,Ja _ _ _ _ a7,Ai (by omega),Ab (by omega)]
      rw [show (q.o+j)*e.size+p-(q.o+j)*e.size=p by omega];exact tV
     ·rename_i hjj
      obtain ⟨nE,he',tK,xG⟩:=f6 j' y hy
      refine ⟨nE,he',λp v tV=>?_,m.cells false e nE y xG⟩
      have hp:p<nE.length:=(Ao.1 tV).1
      have:=tK p v tV
      rw [Jb,Ja _ _ _ _ a7]
      rcases iN (o:=q.o) (i:=j') (j:=j) (s:=e.size) (p:=p) (λe=>hjj e.symm) (by omega) with Me|wc
      ·rw [Ab Me];simpa using this
      ·rw [Ai (by omega),Ai (by omega)];simpa using this
    ·rename_i hii
     obtain ⟨u',R',q1,q2,q3,q4⟩:=b9 i' y hy (by simp)
     refine ⟨u',R',q1,q2,q3,q4.to (λq' iB=>rU _ λe=>hii ?_) λes y hc=>m.cells false e es y hc⟩
     subst iB
     exact b8 i i' q q' k2 q2 e.symm
   ·rw [El _ _ _ _ Pf] at hk
    have:=((h.1.heap k).Sl hk).move m tH.size (λr0 c h0 h1=>h.1.sub _ r0 c h0 h1) λr0 c h0 h1 _=>rU c (tS k r0 c h0 h1 Pf)
    cases b0 with
    |var tid vs=>simpa [OB.map] using this
    |_=>exact this
  ·have Pf:k≠l:= λe=>by subst e;rw [Fu _ _ _ _ hl] at hk;cases hk
   rw [El _ _ _ _ Pf] at hk
   exact (h.1.heap k).emp hk
end
end Go.Proofs.YtkkdpknjohcekaaGreat
