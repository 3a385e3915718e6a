/-
  Part 18 of the proof that the statement FnIterativeDeepening holds.
-/
import Derived.Test.YtkkdpknjohcekaaGreatCFIterativeDeepening16
namespace Go.Proofs.YtkkdpknjohcekaaGreat
open Go.RowKit
section
variable {P:Program} {T:Tab} {X:Ctx} {w w':World} {π π':Pi} {H H':List (Nat×OB)}
theorem RY {l:Nat} {e:Ty} {te:TypeId} {rows GH:List (List e.den)} {out gU:Option Nat} {kp:Option (Nat×Nat)} (hl:Av H l=some (.Bn e te rows out kp)) (hn:GH.length=rows.length)
  (hc: ∀fr τ cs x,Cells w (Cx X.w0.heap.size X.Sc π fr) τ cs x->Cells w' (Cx X.w0.heap.size X.Sc π fr) τ cs x)
  (hg: ∀k r b,Av H k=some b->b.gz≠none->π k=some r->w'.heap[r.g]?=w.heap[r.g]?): ∀c v,Ia X w π H c v->Ia X w' π (aw H l (.Bn e te GH gU kp)) c v:=by
 have aj: ∀k b,Av H k=some b-> ∃b',Av (aw H l (.Bn e te GH gU kp)) k=some b'/\b'.row=b.row/\b'.gz=b.gz/\b'.vH=b.vH/\(∀tid vs,b= .var tid vs->b'=b)/\ ∀v m,b= .Vx v m->b'=b:= λk b hb=>by
  by_cases e:k=l
  ·subst e
   rw [hl] at hb;cases hb
   exact ⟨_,Ev _ _ _ _ hl,by simp [OB.row,hn],by simp [OB.gz,hn],by simp [OB.vH,hn],(λ_ _ h=>by cases h),(λ_ _ h=>by cases h)⟩
  ·exact ⟨b,(Dx _ _ _ _ e).trans hb,rfl,rfl,rfl,λ_ _ _=>rfl,λ_ _ _=>rfl⟩
 intro c v h
 cases c with
 |data fr τ x=>obtain ⟨cs,h1,h2⟩:=h;exact ⟨cs,hc _ _ _ _ h1,h2⟩
 |own k off len=>
  obtain ⟨b,sz,n,h1,h0,h2,h3⟩:=h
  obtain ⟨b',g1,g2,_⟩:=aj k b h1
  exact ⟨b',sz,n,g1,g2.trans h0,h2,h3⟩
 |Hs k i=>
  obtain ⟨r,tid,vs,h1,h2,h3⟩:=h
  obtain ⟨b',g1,_,_,_,g2,_⟩:=aj k _ h1
  rw [g2 tid vs rfl] at g1
  exact ⟨r,tid,vs,g1,h2,h3⟩
 |Ku k i=>
  obtain ⟨r,b,sz,n,h1,h0,h2,h3,h4⟩:=h
  obtain ⟨b',g1,g2,_⟩:=aj k b h1
  exact ⟨r,b',sz,n,g1,g2.trans h0,h2,h3,h4⟩
 |sub k i c=>
  obtain ⟨r,b,sz,n,h1,h0,h2,h3,h4,h5⟩:=h
  obtain ⟨b',g1,_,g2,_⟩:=aj k b h1
  exact ⟨r,b',sz,n,g1,g2.trans h0,h2,h3,h4,by rw [World.cell?_of_block (hg k r b h1 (by rw [h0];simp) h2)];exact h5⟩
 |Kr k i c=>
  obtain ⟨r,b,n,sz,g,o,len,cap,h1,h0,h2,h3,h4,h5,h6⟩:=h
  obtain ⟨b',g1,_,_,g2,_⟩:=aj k b h1
  exact ⟨r,b',n,sz,g,o,len,cap,g1,g2.trans h0,h2,h3,h4,by rw [World.cell?_of_block (hg k r b h1 (by cases b<;>first|(cases h0;done)|simp [OB.gz]) h2)];exact h5,h6⟩
 |clo f Ec=>
  obtain ⟨us,h1,h2,h3⟩:=h
  refine ⟨us,h1,h2,λj p hp=>?_⟩
  obtain ⟨r,tid,vs,h4,h5,h6⟩:=h3 j p hp
  obtain ⟨b',g1,_,_,_,g2,_⟩:=aj p.1 _ h4
  rw [g2 tid vs rfl] at g1
  exact ⟨r,tid,vs,g1,h5,h6⟩
 |Lb k=>
  obtain ⟨r,vt,m,h1,h2,h3⟩:=h
  obtain ⟨b',g1,_,_,_,_,g2⟩:=aj k _ h1
  rw [g2 vt m rfl] at g1
  exact ⟨r,vt,m,g1,h2,h3⟩
 |_=>exact h
theorem AI (hT:Eb P T) {st:St} {a:Act} (h:Bh X π st a w) {t:TypeId} {e:Ty} (ht:T.ty t=some e) {l i j:Nat} {te:TypeId} {rows:List (List e.den)} {kp:Option (Nat×Nat)} (hl:Av st.heap l=some (.Bn e te rows none kp))
  {vp vx:Value} {fr:Bool} {x:e.den} (hp:Ia X w π st.heap (.Kr l i j) vp) (hx:Ct w (Cx X.w0.heap.size X.Sc π fr) e vx x) (yM:fr=false):
  ∃w',(Instr.storeAt t vp vx).run P w= .ok () w'/\Bh X π (st.Kq l (.Bn e te (rows.set i ((rows.getD i []).set j x)) none kp)) a w':=by
 subst yM
 obtain ⟨r,b,n,sz,g,o,len,cap,h1,h0,h2,h3,h4,h5,rfl⟩:=hp
 rw [hl] at h1;cases h1
 simp only [OB.vH,Aa,Ae] at h0
 obtain ⟨rfl,rfl⟩:=h0
 have hb:=(h.1.heap l).Rz hl
 simp only [Cg] at hb
 obtain ⟨hb,tf⟩:=hb
 rw [h2] at hb
 obtain ⟨b1,cur,ti,b2,b3,b4,b5,Rs,b6,b7,b8,b9⟩:=hb
 have ct:rows[i]?=some (rows.getD i []):=by rw [Aj,Ac h3];rfl
 obtain ⟨u,R,k1,k2,k3,k4⟩:=b9 i _ ct (by simp)
 rw [cellOf b2,k1] at h5
 have hu:=Az h5
 subst hu
 cases R with
 |none=>obtain ⟨hh,_⟩:=k3;cases hh
 |some q=>
  obtain ⟨ad,hh,g1,g2⟩:=k3
  simp only [Value.slice.injEq,Aa] at hh
  obtain ⟨rfl,rfl,rfl⟩:=hh
  have XM:=g2 (by omega)
  simp only [Addr.mk.injEq,bg] at XM
  obtain ⟨rfl,rfl⟩:=XM
  obtain ⟨f1,cu,ti',f2,f3,f4,f5,f6⟩:=k4
  obtain ⟨hqf,hqg⟩:=b7 i q k2
  obtain ⟨es,gQ,hv⟩:=hx
  have kV:=Cells.len e es x gQ
  have Adl:(q.o+0)*e.size+j*e.size=(q.o+j)*e.size:=by rw [En,<-De]
  have Ye:(q.o+j)*e.size+es.length<=cu.size:=by
   have:(q.o+j+1)*e.size<=(q.o+q.cap)*e.size:=Fz _ (by omega)
   rw [De (q.o+j) 1,Vz] at this
   omega
  have Zt:(q.o+j)*e.size+es.length<=cu.toList.length:=by simpa using Ye
  have Vv:=Ws (P:=P) (w:=w) (hT.ty _ _ ht) q.g ((q.o+j)*e.size) vx es (by rw [hv];exact Lp e es x gQ) kV (Cells.plain e es x gQ) cu ti' f2 Ye
  have hqo:Wa π q.g:=⟨l,r,h2,hqf⟩
  have Qo:r.cl q.g:=h.1.sub l r _ h2 hqf
  have ta:=Nx w q.g (Dt cu.toList ((q.o+j)*e.size) es).toArray
  have rf: ∀c,c≠q.g->(w.setRow q.g (Dt cu.toList ((q.o+j)*e.size) es).toArray).heap[c]?=w.heap[c]?:= λc hc=>setRow_other w q.g c _ hc
  refine ⟨_,by simp only [Instr.storeAt,Instr.sureAddr];rw [Adl];simpa using Vv,?_⟩
  have Ai3:(st.Kq l (.Bn e te (rows.set i ((rows.getD i []).set j x)) none kp))= {tmps:=st.tmps.map (·.map λc=>c),heap:=aw st.heap l (.Bn e te (rows.set i ((rows.getD i []).set j x)) none kp)} :=by
   unfold St.Kq
   congr 1
   exact ((Eu λc _=>AC.map_id c).trans (List.map_id'' (λ_=>rfl) st.tmps)).symm
  rw [Ai3]
  have th: ∀k r0 c,π k=some r0->r0.cl c->k≠l->c≠q.g:= λk r0 c hk hc Jl e=>Jl (h.1.inj k l r0 r c hk h2 hc (e▸Qo))
  refine h.nU rfl (gv:= λc=>c=q.g) (λc hc=>hc▸hqo) ⟨ta.os,ta.tape,ta.output,ta.size,λc _ hc=>rf c hc⟩ (λ_ _ ho=>ho) h.1.sub (λk r0 c hk hc=>⟨(h.1.place k r0 c hk hc).1,Ef (h.1.place k r0 c hk hc).2 ta.size⟩) h.1.inj
   (λk hk Jl=>h.1.gZ k hk λh0=>Jl ?_) (λhc=>RY hl (by simp) hc λk r0 b0 g1 g2 g3=>rf _ λe=>?_) (λm k b0 hk=>?_) (λk hk=>?_)
  ·have:k≠l:= λe=>by subst e;rw [hl] at h0;cases h0
   rw [Dx _ _ _ _ this];exact h0
  ·by_cases Tc:k=l
   ·subst Tc;rw [h2] at g3;cases g3;exact hqg e.symm
   ·exact th k r0 _ g3 (h.1.sub k r0 _ g3 (h.1.Cq g3)) Tc e
  ·by_cases Tc:k=l
   ·subst Tc
    rw [Ev _ _ _ _ hl] at hk;cases hk
    show ia X _ π (π k) e _ none kp
    rw [h2]
    refine ⟨⟨b1,cur,ti,(rf _ (Hr hqg)).trans b2,b3,b4,by simpa using b5,Rs,by simpa using b6,b7,b8,λi' y hy _=>?_⟩,(h2▸tf).Ft λq' kW=>by cases kW;exact rf _ (Hr hqg)⟩
    rw [Eg] at hy
    split at hy
    ·rename_i hii;subst hii
     have hy:=Az hy
     subst hy
     refine ⟨_,some q,k1,k2,⟨_,by rw [Dg],by simpa using g1,λ_=>rfl⟩,?_⟩
     refine ⟨f1,_,_,setRow_heap w q.g cu _ ti' _ f2,by rw [Hc,Jq _ _ _ Zt,Xp];exact f3,f4,by simpa using f5,λj' y hy=>?_⟩
     rw [Eg] at hy
     split at hy
     ·rename_i hjj;subst hjj
      have hy:=Az hy
      subst hy
      refine ⟨es,kV,λp v yU=>?_,m.cells false e es x gQ⟩
      have hp:p<es.length:=(An.1 yU).1
      rw [Iz,Iw _ _ _ _ Zt,Ai (by omega),Ab (by omega)]
      rw [show (q.o+j)*e.size+p-(q.o+j)*e.size=p by omega];exact yU
     ·rename_i hjj
      obtain ⟨mX,he',qg,xb⟩:=f6 j' y hy
      refine ⟨mX,he',λp v yU=>?_,m.cells false e mX y xb⟩
      have hp:p<mX.length:=(An.1 yU).1
      have:=qg p v yU
      rw [Iz,Iw _ _ _ _ Zt]
      rcases il (o:=q.o) (i:=j') (j:=j) (s:=e.size) (p:=p) (λe=>hjj e.symm) (by omega) with Lr|vI
      ·rw [Ab Lr];simpa using this
      ·rw [Ai (by omega),Ai (by omega)];simpa using this
    ·rename_i hii
     obtain ⟨u',R',q1,q2,q3,q4⟩:=b9 i' y hy (by simp)
     refine ⟨u',R',q1,q2,q3,q4.to (λq' kW=>rf _ λe=>hii ?_) λes y hc=>m.cells false e es y hc⟩
     subst kW
     exact b8 i i' q q' k2 q2 e.symm
   ·rw [Dx _ _ _ _ Tc] at hk
    have:=((h.1.heap k).Rz hk).move m ta.size (λr0 c h0 h1=>h.1.sub _ r0 c h0 h1) λr0 c h0 h1 _=>rf c (th k r0 c h0 h1 Tc)
    cases b0 with
    |var tid vs=>simpa [OB.map] using this
    |_=>exact this
  ·have Tc:k≠l:= λe=>by subst e;rw [Ev _ _ _ _ hl] at hk;cases hk
   rw [Dx _ _ _ _ Tc] at hk
   exact (h.1.heap k).emp hk
end
end Go.Proofs.YtkkdpknjohcekaaGreat
