/-
  Part 18 of the proof that the statement FnTwoPhase holds.
-/
import Derived.Test.YtkkdpknjohcekaaCFTwoPhase16
namespace Go.Proofs.Ytkkdpknjohcekaa
open Go.RowKit
section
variable {P:Program} {T:Tab} {X:Ctx} {w w':World} {π π':Pi} {H H':List (Nat×OB)}
theorem TO {l:Nat} {e:Ty} {te:TypeId} {rows HY:List (List e.den)} {out ig:Option Nat} {kp:Option (Nat×Nat)} (hl:Ay H l=some (.Bu e te rows out kp)) (hn:HY.length=rows.length)
  (hc: ∀fr τ cs x,Cells w (Df X.w0.heap.size X.Sc π fr) τ cs x->Cells w' (Df X.w0.heap.size X.Sc π fr) τ cs x)
  (hg: ∀k r b,Ay H k=some b->b.gJ≠none->π k=some r->w'.heap[r.g]?=w.heap[r.g]?): ∀c v,Hu X w π H c v->Hu X w' π (az H l (.Bu e te HY ig kp)) c v:=by
 have Re: ∀k b,Ay H k=some b-> ∃b',Ay (az H l (.Bu e te HY ig kp)) k=some b'/\b'.row=b.row/\b'.gJ=b.gJ/\b'.vS=b.vS/\(∀tid vs,b= .var tid vs->b'=b)/\ ∀v m,b= .Wb v m->b'=b:= λk b hb=>by
  by_cases e:k=l
  ·subst e
   rw [hl] at hb;cases hb
   exact ⟨_,Fk _ _ _ _ hl,by simp [OB.row,hn],by simp [OB.gJ,hn],by simp [OB.vS,hn],(λ_ _ h=>by cases h),(λ_ _ h=>by cases h)⟩
  ·exact ⟨b,(Er _ _ _ _ e).trans hb,rfl,rfl,rfl,λ_ _ _=>rfl,λ_ _ _=>rfl⟩
 intro c v h
 cases c with
 |data fr τ x=>obtain ⟨cs,h1,h2⟩:=h;exact ⟨cs,hc _ _ _ _ h1,h2⟩
 |own k off len=>
  obtain ⟨b,sz,n,h1,h0,h2,h3⟩:=h
  obtain ⟨b',g1,g2,_⟩:=Re k b h1
  exact ⟨b',sz,n,g1,g2.trans h0,h2,h3⟩
 |Ho k i=>
  obtain ⟨r,tid,vs,h1,h2,h3⟩:=h
  obtain ⟨b',g1,_,_,_,g2,_⟩:=Re k _ h1
  rw [g2 tid vs rfl] at g1
  exact ⟨r,tid,vs,g1,h2,h3⟩
 |Kp k i=>
  obtain ⟨r,b,sz,n,h1,h0,h2,h3,h4⟩:=h
  obtain ⟨b',g1,g2,_⟩:=Re k b h1
  exact ⟨r,b',sz,n,g1,g2.trans h0,h2,h3,h4⟩
 |sub k i c=>
  obtain ⟨r,b,sz,n,h1,h0,h2,h3,h4,h5⟩:=h
  obtain ⟨b',g1,_,g2,_⟩:=Re k b h1
  exact ⟨r,b',sz,n,g1,g2.trans h0,h2,h3,h4,by rw [World.cell?_of_block (hg k r b h1 (by rw [h0];simp) h2)];exact h5⟩
 |Km k i c=>
  obtain ⟨r,b,n,sz,g,o,len,cap,h1,h0,h2,h3,h4,h5,h6⟩:=h
  obtain ⟨b',g1,_,_,g2,_⟩:=Re k b h1
  exact ⟨r,b',n,sz,g,o,len,cap,g1,g2.trans h0,h2,h3,h4,by rw [World.cell?_of_block (hg k r b h1 (by cases b<;>first|(cases h0;done)|simp [OB.gJ]) h2)];exact h5,h6⟩
 |clo f Ew=>
  obtain ⟨us,h1,h2,h3⟩:=h
  refine ⟨us,h1,h2,λj p hp=>?_⟩
  obtain ⟨r,tid,vs,h4,h5,h6⟩:=h3 j p hp
  obtain ⟨b',g1,_,_,_,g2,_⟩:=Re p.1 _ h4
  rw [g2 tid vs rfl] at g1
  exact ⟨r,tid,vs,g1,h5,h6⟩
 |Ky k=>
  obtain ⟨r,vt,m,h1,h2,h3⟩:=h
  obtain ⟨b',g1,_,_,_,_,g2⟩:=Re k _ h1
  rw [g2 vt m rfl] at g1
  exact ⟨r,vt,m,g1,h2,h3⟩
 |_=>exact h
theorem BQ (hT:Eh P T) {st:St} {a:Act} (h:Bm X π st a w) {t:TypeId} {e:Ty} (ht:T.ty t=some e) {l i j:Nat} {te:TypeId} {rows:List (List e.den)} {kp:Option (Nat×Nat)} (hl:Ay st.heap l=some (.Bu e te rows none kp))
  {vp vx:Value} {fr:Bool} {x:e.den} (hp:Hu X w π st.heap (.Km l i j) vp) (hx:Dc w (Df X.w0.heap.size X.Sc π fr) e vx x) (zi:fr=false):
  ∃w',(Instr.storeAt t vp vx).run P w= .ok () w'/\Bm X π (st.Kl l (.Bu e te (rows.set i ((rows.getD i []).set j x)) none kp)) a w':=by
 subst zi
 obtain ⟨r,b,n,sz,g,o,len,cap,h1,h0,h2,h3,h4,h5,rfl⟩:=hp
 rw [hl] at h1;cases h1
 simp only [OB.vS,Aa,Ag] at h0
 obtain ⟨rfl,rfl⟩:=h0
 have hb:=(h.1.heap l).Ru hl
 simp only [Co] at hb
 obtain ⟨hb,tz⟩:=hb
 rw [h2] at hb
 obtain ⟨b1,cur,ti,b2,b3,b4,b5,Rs,b6,b7,b8,b9⟩:=hb
 have Su:rows[i]?=some (rows.getD i []):=by rw [Al,Ad h3];rfl
 obtain ⟨u,R,k1,k2,k3,k4⟩:=b9 i _ Su (by simp)
 rw [cellOf b2,k1] at h5
 have hu:=Bd h5
 subst hu
 cases R with
 |none=>obtain ⟨hh,_⟩:=k3;cases hh
 |some q=>
  obtain ⟨ad,hh,g1,g2⟩:=k3
  simp only [Value.slice.injEq,Aa] at hh
  obtain ⟨rfl,rfl,rfl⟩:=hh
  have ZD:=g2 (by omega)
  simp only [Addr.mk.injEq,bm] at ZD
  obtain ⟨rfl,rfl⟩:=ZD
  obtain ⟨f1,cu,ti',f2,f3,f4,f5,f6⟩:=k4
  obtain ⟨hqf,hqg⟩:=b7 i q k2
  obtain ⟨es,eu,hv⟩:=hx
  have ll:=Cells.len e es x eu
  have Aeo:(q.o+0)*e.size+j*e.size=(q.o+j)*e.size:=by rw [Ed,<-Dq]
  have Yj:(q.o+j)*e.size+es.length<=cu.size:=by
   have:(q.o+j+1)*e.size<=(q.o+q.cap)*e.size:=Fl _ (by omega)
   rw [Dq (q.o+j) 1,We] at this
   omega
  have Zy:(q.o+j)*e.size+es.length<=cu.toList.length:=by simpa using Yj
  have Vz:=Wz (P:=P) (w:=w) (hT.ty _ _ ht) q.g ((q.o+j)*e.size) vx es (by rw [hv];exact Lp e es x eu) ll (Cells.plain e es x eu) cu ti' f2 Yj
  have hqo:Wf π q.g:=⟨l,r,h2,hqf⟩
  have Rn:r.cl q.g:=h.1.sub l r _ h2 hqf
  have tt:=Nz w q.g (Dw cu.toList ((q.o+j)*e.size) es).toArray
  have rJ: ∀c,c≠q.g->(w.setRow q.g (Dw cu.toList ((q.o+j)*e.size) es).toArray).heap[c]?=w.heap[c]?:= λc hc=>setRow_other w q.g c _ hc
  refine ⟨_,by simp only [Instr.storeAt,Instr.sureAddr];rw [Aeo];simpa using Vz,?_⟩
  have Ajn:(st.Kl l (.Bu e te (rows.set i ((rows.getD i []).set j x)) none kp))= {tmps:=st.tmps.map (·.map λc=>c),heap:=az st.heap l (.Bu e te (rows.set i ((rows.getD i []).set j x)) none kp)} :=by
   unfold St.Kl
   congr 1
   exact ((Hl λc _=>AC.map_id c).trans (List.map_id'' (λ_=>rfl) st.tmps)).symm
  rw [Ajn]
  have tC: ∀k r0 c,π k=some r0->r0.cl c->k≠l->c≠q.g:= λk r0 c hk hc Ip e=>Ip (h.1.inj k l r0 r c hk h2 hc (e▸Rn))
  refine h.om rfl (gv:= λc=>c=q.g) (λc hc=>hc▸hqo) ⟨tt.os,tt.tape,tt.output,tt.size,λc _ hc=>rJ c hc⟩ (λ_ _ ho=>ho) h.1.sub (λk r0 c hk hc=>⟨(h.1.place k r0 c hk hc).1,Ex (h.1.place k r0 c hk hc).2 tt.size⟩) h.1.inj
   (λk hk Ip=>h.1.im k hk λh0=>Ip ?_) (λhc=>TO hl (by simp) hc λk r0 b0 g1 g2 g3=>rJ _ λe=>?_) (λm k b0 hk=>?_) (λk hk=>?_)
  ·have:k≠l:= λe=>by subst e;rw [hl] at h0;cases h0
   rw [Er _ _ _ _ this];exact h0
  ·by_cases Nn:k=l
   ·subst Nn;rw [h2] at g3;cases g3;exact hqg e.symm
   ·exact tC k r0 _ g3 (h.1.sub k r0 _ g3 (h.1.Da g3)) Nn e
  ·by_cases Nn:k=l
   ·subst Nn
    rw [Fk _ _ _ _ hl] at hk;cases hk
    show iu X _ π (π k) e _ none kp
    rw [h2]
    refine ⟨⟨b1,cur,ti,(rJ _ (Gv hqg)).trans b2,b3,b4,by simpa using b5,Rs,by simpa using b6,b7,b8,λi' y hy _=>?_⟩,(h2▸tz).Fz λq' km=>by cases km;exact rJ _ (Gv hqg)⟩
    rw [Ei] at hy
    split at hy
    ·rename_i hii;subst hii
     have hy:=Bd hy
     subst hy
     refine ⟨_,some q,k1,k2,⟨_,by rw [Bv],by simpa using g1,λ_=>rfl⟩,?_⟩
     refine ⟨f1,_,_,setRow_heap w q.g cu _ ti' _ f2,by rw [Hb,Jg _ _ _ Zy,Xw];exact f3,f4,by simpa using f5,λj' y hy=>?_⟩
     rw [Ei] at hy
     split at hy
     ·rename_i hjj;subst hjj
      have hy:=Bd hy
      subst hy
      refine ⟨es,ll,λp v xy=>?_,m.cells false e es x eu⟩
      have hp:p<es.length:=(Ap.1 xy).1
      rw [Io,Im _ _ _ _ Zy,Ai (by omega),Ab (by omega)]
      rw [show (q.o+j)*e.size+p-(q.o+j)*e.size=p by omega];exact xy
     ·rename_i hjj
      obtain ⟨nA,FF,mU,xo⟩:=f6 j' y hy
      refine ⟨nA,FF,λp v xy=>?_,m.cells false e nA y xo⟩
      have hp:p<nA.length:=(Ap.1 xy).1
      have:=mU p v xy
      rw [Io,Im _ _ _ _ Zy]
      rcases iA (o:=q.o) (i:=j') (j:=j) (s:=e.size) (p:=p) (λe=>hjj e.symm) (by omega) with Lg|vT
      ·rw [Ab Lg];simpa using this
      ·rw [Ai (by omega),Ai (by omega)];simpa using this
    ·rename_i hii
     obtain ⟨u',R',q1,q2,q3,q4⟩:=b9 i' y hy (by simp)
     refine ⟨u',R',q1,q2,q3,q4.to (λq' km=>rJ _ λe=>hii ?_) λes y hc=>m.cells false e es y hc⟩
     subst km
     exact b8 i i' q q' k2 q2 e.symm
   ·rw [Er _ _ _ _ Nn] at hk
    have:=((h.1.heap k).Ru hk).move m tt.size (λr0 c h0 h1=>h.1.sub _ r0 c h0 h1) λr0 c h0 h1 _=>rJ c (tC k r0 c h0 h1 Nn)
    cases b0 with
    |var tid vs=>simpa [OB.map] using this
    |_=>exact this
  ·have Nn:k≠l:= λe=>by subst e;rw [Fk _ _ _ _ hl] at hk;cases hk
   rw [Er _ _ _ _ Nn] at hk
   exact (h.1.heap k).emp hk
end
end Go.Proofs.Ytkkdpknjohcekaa
