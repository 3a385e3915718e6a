/-
  Part 18 of the proof that the statement FnNoShorterSolution holds.
-/
import Derived.Test.YtkkdpknjohcekaaGreatCFNoShorterSolution16
namespace Go.Proofs.YtkkdpknjohcekaaGreat
open Go.RowKit
section
variable {P:Program} {T:Tab} {X:Ctx} {w w':World} {π π':Pi} {H H':List (Nat×OB)}
theorem SK {l:Nat} {e:Ty} {te:TypeId} {rows HB:List (List e.den)} {out ix:Option Nat} {kp:Option (Nat×Nat)} (hl:Aw H l=some (.Bo e te rows out kp)) (hn:HB.length=rows.length)
  (hc: ∀fr τ cs x,Cells w (Cy X.w0.heap.size X.Sc π fr) τ cs x->Cells w' (Cy X.w0.heap.size X.Sc π fr) τ cs x)
  (hg: ∀k r b,Aw H k=some b->b.gT≠none->π k=some r->w'.heap[r.g]?=w.heap[r.g]?): ∀c v,Ib X w π H c v->Ib X w' π (aB H l (.Bo e te HB ix kp)) c v:=by
 have aq: ∀k b,Aw H k=some b-> ∃b',Aw (aB H l (.Bo e te HB ix kp)) k=some b'/\b'.row=b.row/\b'.gT=b.gT/\b'.vJ=b.vJ/\(∀tid vs,b= .var tid vs->b'=b)/\ ∀v m,b= .Vy v m->b'=b:= λk b hb=>by
  by_cases e:k=l
  ·subst e
   rw [hl] at hb;cases hb
   exact ⟨_,Ev _ _ _ _ hl,by simp [OB.row,hn],by simp [OB.gT,hn],by simp [OB.vJ,hn],(λ_ _ h=>by cases h),(λ_ _ h=>by cases h)⟩
  ·exact ⟨b,(Dy _ _ _ _ e).trans hb,rfl,rfl,rfl,λ_ _ _=>rfl,λ_ _ _=>rfl⟩
 intro c v h
 cases c with
 |data fr τ x=>obtain ⟨cs,h1,h2⟩:=h;exact ⟨cs,hc _ _ _ _ h1,h2⟩
 |own k off len=>
  obtain ⟨b,sz,n,h1,h0,h2,h3⟩:=h
  obtain ⟨b',g1,g2,_⟩:=aq k b h1
  exact ⟨b',sz,n,g1,g2.trans h0,h2,h3⟩
 |Hu k i=>
  obtain ⟨r,tid,vs,h1,h2,h3⟩:=h
  obtain ⟨b',g1,_,_,_,g2,_⟩:=aq k _ h1
  rw [g2 tid vs rfl] at g1
  exact ⟨r,tid,vs,g1,h2,h3⟩
 |Kw k i=>
  obtain ⟨r,b,sz,n,h1,h0,h2,h3,h4⟩:=h
  obtain ⟨b',g1,g2,_⟩:=aq k b h1
  exact ⟨r,b',sz,n,g1,g2.trans h0,h2,h3,h4⟩
 |sub k i c=>
  obtain ⟨r,b,sz,n,h1,h0,h2,h3,h4,h5⟩:=h
  obtain ⟨b',g1,_,g2,_⟩:=aq k b h1
  exact ⟨r,b',sz,n,g1,g2.trans h0,h2,h3,h4,by rw [World.cell?_of_block (hg k r b h1 (by rw [h0];simp) h2)];exact h5⟩
 |Kq k i c=>
  obtain ⟨r,b,n,sz,g,o,len,cap,h1,h0,h2,h3,h4,h5,h6⟩:=h
  obtain ⟨b',g1,_,_,g2,_⟩:=aq k b h1
  exact ⟨r,b',n,sz,g,o,len,cap,g1,g2.trans h0,h2,h3,h4,by rw [World.cell?_of_block (hg k r b h1 (by cases b<;>first|(cases h0;done)|simp [OB.gT]) h2)];exact h5,h6⟩
 |clo f Ee=>
  obtain ⟨us,h1,h2,h3⟩:=h
  refine ⟨us,h1,h2,λj p hp=>?_⟩
  obtain ⟨r,tid,vs,h4,h5,h6⟩:=h3 j p hp
  obtain ⟨b',g1,_,_,_,g2,_⟩:=aq p.1 _ h4
  rw [g2 tid vs rfl] at g1
  exact ⟨r,tid,vs,g1,h5,h6⟩
 |Lc k=>
  obtain ⟨r,vt,m,h1,h2,h3⟩:=h
  obtain ⟨b',g1,_,_,_,_,g2⟩:=aq k _ h1
  rw [g2 vt m rfl] at g1
  exact ⟨r,vt,m,g1,h2,h3⟩
 |_=>exact h
theorem AZ (hT:Ed P T) {st:St} {a:Act} (h:Bh X π st a w) {t:TypeId} {e:Ty} (ht:T.ty t=some e) {l i j:Nat} {te:TypeId} {rows:List (List e.den)} {kp:Option (Nat×Nat)} (hl:Aw st.heap l=some (.Bo e te rows none kp))
  {vp vx:Value} {fr:Bool} {x:e.den} (hp:Ib X w π st.heap (.Kq l i j) vp) (hx:Cu w (Cy X.w0.heap.size X.Sc π fr) e vx x) (z0:fr=false):
  ∃w',(Instr.storeAt t vp vx).run P w= .ok () w'/\Bh X π (st.Kp l (.Bo e te (rows.set i ((rows.getD i []).set j x)) none kp)) a w':=by
 subst z0
 obtain ⟨r,b,n,sz,g,o,len,cap,h1,h0,h2,h3,h4,h5,rfl⟩:=hp
 rw [hl] at h1;cases h1
 simp only [OB.vJ,Aa,Ae] at h0
 obtain ⟨rfl,rfl⟩:=h0
 have hb:=(h.1.heap l).Rz hl
 simp only [Ch] at hb
 obtain ⟨hb,tw⟩:=hb
 rw [h2] at hb
 obtain ⟨b1,cur,ti,b2,b3,b4,b5,Rs,b6,b7,b8,b9⟩:=hb
 have aZ:rows[i]?=some (rows.getD i []):=by rw [Aj,Ac h3];rfl
 obtain ⟨u,R,k1,k2,k3,k4⟩:=b9 i _ aZ (by simp)
 rw [cellOf b2,k1] at h5
 have hu:=Bc h5
 subst hu
 cases R with
 |none=>obtain ⟨hh,_⟩:=k3;cases hh
 |some q=>
  obtain ⟨ad,hh,g1,g2⟩:=k3
  simp only [Value.slice.injEq,Aa] at hh
  obtain ⟨rfl,rfl,rfl⟩:=hh
  have XW:=g2 (by omega)
  simp only [Addr.mk.injEq,bl] at XW
  obtain ⟨rfl,rfl⟩:=XW
  obtain ⟨f1,cu,ti',f2,f3,f4,f5,f6⟩:=k4
  obtain ⟨hqf,hqg⟩:=b7 i q k2
  obtain ⟨es,ir,hv⟩:=hx
  have lq:=Cells.len e es x ir
  have Adw:(q.o+0)*e.size+j*e.size=(q.o+j)*e.size:=by rw [En,<-De]
  have Yi:(q.o+j)*e.size+es.length<=cu.size:=by
   have:(q.o+j+1)*e.size<=(q.o+q.cap)*e.size:=Fz _ (by omega)
   rw [De (q.o+j) 1,Vz] at this
   omega
  have Zw:(q.o+j)*e.size+es.length<=cu.toList.length:=by simpa using Yi
  have Vw:=Wv (P:=P) (w:=w) (hT.ty _ _ ht) q.g ((q.o+j)*e.size) vx es (by rw [hv];exact Lq e es x ir) lq (Cells.plain e es x ir) cu ti' f2 Yi
  have hqo:Wa π q.g:=⟨l,r,h2,hqf⟩
  have Qj:r.cl q.g:=h.1.sub l r _ h2 hqf
  have tq:=Ob w q.g (Dv cu.toList ((q.o+j)*e.size) es).toArray
  have rn: ∀c,c≠q.g->(w.setRow q.g (Dv cu.toList ((q.o+j)*e.size) es).toArray).heap[c]?=w.heap[c]?:= λc hc=>setRow_other w q.g c _ hc
  refine ⟨_,by simp only [Instr.storeAt,Instr.sureAddr];rw [Adw];simpa using Vw,?_⟩
  have Aig:(st.Kp l (.Bo e te (rows.set i ((rows.getD i []).set j x)) none kp))= {tmps:=st.tmps.map (·.map λc=>c),heap:=aB st.heap l (.Bo e te (rows.set i ((rows.getD i []).set j x)) none kp)} :=by
   unfold St.Kp
   congr 1
   exact ((Eu λc _=>AC.map_id c).trans (List.map_id'' (λ_=>rfl) st.tmps)).symm
  rw [Aig]
  have tA: ∀k r0 c,π k=some r0->r0.cl c->k≠l->c≠q.g:= λk r0 c hk hc Jr e=>Jr (h.1.inj k l r0 r c hk h2 hc (e▸Qj))
  refine h.oc rfl (gv:= λc=>c=q.g) (λc hc=>hc▸hqo) ⟨tq.os,tq.tape,tq.output,tq.size,λc _ hc=>rn c hc⟩ (λ_ _ ho=>ho) h.1.sub (λk r0 c hk hc=>⟨(h.1.place k r0 c hk hc).1,Eh (h.1.place k r0 c hk hc).2 tq.size⟩) h.1.inj
   (λk hk Jr=>h.1.iB k hk λh0=>Jr ?_) (λhc=>SK hl (by simp) hc λk r0 b0 g1 g2 g3=>rn _ λe=>?_) (λm k b0 hk=>?_) (λk hk=>?_)
  ·have:k≠l:= λe=>by subst e;rw [hl] at h0;cases h0
   rw [Dy _ _ _ _ this];exact h0
  ·by_cases Tb:k=l
   ·subst Tb;rw [h2] at g3;cases g3;exact hqg e.symm
   ·exact tA k r0 _ g3 (h.1.sub k r0 _ g3 (h.1.Cr g3)) Tb e
  ·by_cases Tb:k=l
   ·subst Tb
    rw [Ev _ _ _ _ hl] at hk;cases hk
    show iF X _ π (π k) e _ none kp
    rw [h2]
    refine ⟨⟨b1,cur,ti,(rn _ (Hs hqg)).trans b2,b3,b4,by simpa using b5,Rs,by simpa using b6,b7,b8,λi' y hy _=>?_⟩,(h2▸tw).Fp λq' lu=>by cases lu;exact rn _ (Hs hqg)⟩
    rw [Ei] at hy
    split at hy
    ·rename_i hii;subst hii
     have hy:=Bc hy
     subst hy
     refine ⟨_,some q,k1,k2,⟨_,by rw [Df],by simpa using g1,λ_=>rfl⟩,?_⟩
     refine ⟨f1,_,_,setRow_heap w q.g cu _ ti' _ f2,by rw [Ha,Jo _ _ _ Zw,Xs];exact f3,f4,by simpa using f5,λj' y hy=>?_⟩
     rw [Ei] at hy
     split at hy
     ·rename_i hjj;subst hjj
      have hy:=Bc hy
      subst hy
      refine ⟨es,lq,λp v EO=>?_,m.cells false e es x ir⟩
      have hp:p<es.length:=(Am.1 EO).1
      rw [Ix,Iv _ _ _ _ Zw,Ai (by omega),Ab (by omega)]
      rw [show (q.o+j)*e.size+p-(q.o+j)*e.size=p by omega];exact EO
     ·rename_i hjj
      obtain ⟨nv,he',tu,xq⟩:=f6 j' y hy
      refine ⟨nv,he',λp v EO=>?_,m.cells false e nv y xq⟩
      have hp:p<nv.length:=(Am.1 EO).1
      have:=tu p v EO
      rw [Ix,Iv _ _ _ _ Zw]
      rcases iO (o:=q.o) (i:=j') (j:=j) (s:=e.size) (p:=p) (λe=>hjj e.symm) (by omega) with Li|vM
      ·rw [Ab Li];simpa using this
      ·rw [Ai (by omega),Ai (by omega)];simpa using this
    ·rename_i hii
     obtain ⟨u',R',q1,q2,q3,q4⟩:=b9 i' y hy (by simp)
     refine ⟨u',R',q1,q2,q3,q4.to (λq' lu=>rn _ λe=>hii ?_) λes y hc=>m.cells false e es y hc⟩
     subst lu
     exact b8 i i' q q' k2 q2 e.symm
   ·rw [Dy _ _ _ _ Tb] at hk
    have:=((h.1.heap k).Rz hk).move m tq.size (λr0 c h0 h1=>h.1.sub _ r0 c h0 h1) λr0 c h0 h1 _=>rn c (tA k r0 c h0 h1 Tb)
    cases b0 with
    |var tid vs=>simpa [OB.map] using this
    |_=>exact this
  ·have Tb:k≠l:= λe=>by subst e;rw [Ev _ _ _ _ hl] at hk;cases hk
   rw [Dy _ _ _ _ Tb] at hk
   exact (h.1.heap k).emp hk
end
end Go.Proofs.YtkkdpknjohcekaaGreat
