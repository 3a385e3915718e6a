/-
  Part 18 of the proof that the statement FnPatterns holds.
-/
import Derived.Test.YtkkdpknjohcekaaGreatCFPatterns16
namespace Go.Proofs.YtkkdpknjohcekaaGreat
open Go.RowKit
section
variable {P:Program} {T:Tab} {X:Ctx} {w w':World} {π π':Pi} {H H':List (Nat×OB)}
theorem TX {l:Nat} {e:Ty} {te:TypeId} {rows IA:List (List e.den)} {out hY:Option Nat} {kp:Option (Nat×Nat)} (hl:At H l=some (.Bl e te rows out kp)) (hn:IA.length=rows.length)
  (hc: ∀fr τ cs x,Cells w (Da X.w0.heap.size X.Sc π fr) τ cs x->Cells w' (Da X.w0.heap.size X.Sc π fr) τ cs x)
  (hg: ∀k r b,At H k=some b->b.gD≠none->π k=some r->w'.heap[r.g]?=w.heap[r.g]?): ∀c v,Hv X w π H c v->Hv X w' π (ar H l (.Bl e te IA hY kp)) c v:=by
 have Xm: ∀k b,At H k=some b-> ∃b',At (ar H l (.Bl e te IA hY kp)) k=some b'/\b'.row=b.row/\b'.gD=b.gD/\b'.vX=b.vX/\(∀tid vs,b= .var tid vs->b'=b)/\ ∀v m,b= .Vw v m->b'=b:= λk b hb=>by
  by_cases e:k=l
  ·subst e
   rw [hl] at hb;cases hb
   exact ⟨_,Ez _ _ _ _ hl,by simp [OB.row,hn],by simp [OB.gD,hn],by simp [OB.vX,hn],(λ_ _ h=>by cases h),(λ_ _ h=>by cases h)⟩
  ·exact ⟨b,(Ec _ _ _ _ e).trans hb,rfl,rfl,rfl,λ_ _ _=>rfl,λ_ _ _=>rfl⟩
 intro c v h
 cases c with
 |data fr τ x=>obtain ⟨cs,h1,h2⟩:=h;exact ⟨cs,hc _ _ _ _ h1,h2⟩
 |own k off len=>
  obtain ⟨b,sz,n,h1,h0,h2,h3⟩:=h
  obtain ⟨b',g1,g2,_⟩:=Xm k b h1
  exact ⟨b',sz,n,g1,g2.trans h0,h2,h3⟩
 |Hr k i=>
  obtain ⟨r,tid,vs,h1,h2,h3⟩:=h
  obtain ⟨b',g1,_,_,_,g2,_⟩:=Xm k _ h1
  rw [g2 tid vs rfl] at g1
  exact ⟨r,tid,vs,g1,h2,h3⟩
 |Ki k i=>
  obtain ⟨r,b,sz,n,h1,h0,h2,h3,h4⟩:=h
  obtain ⟨b',g1,g2,_⟩:=Xm k b h1
  exact ⟨r,b',sz,n,g1,g2.trans h0,h2,h3,h4⟩
 |sub k i c=>
  obtain ⟨r,b,sz,n,h1,h0,h2,h3,h4,h5⟩:=h
  obtain ⟨b',g1,_,g2,_⟩:=Xm k b h1
  exact ⟨r,b',sz,n,g1,g2.trans h0,h2,h3,h4,by rw [World.cell?_of_block (hg k r b h1 (by rw [h0];simp) h2)];exact h5⟩
 |Kf k i c=>
  obtain ⟨r,b,n,sz,g,o,len,cap,h1,h0,h2,h3,h4,h5,h6⟩:=h
  obtain ⟨b',g1,_,_,g2,_⟩:=Xm k b h1
  exact ⟨r,b',n,sz,g,o,len,cap,g1,g2.trans h0,h2,h3,h4,by rw [World.cell?_of_block (hg k r b h1 (by cases b<;>first|(cases h0;done)|simp [OB.gD]) h2)];exact h5,h6⟩
 |clo f Ef=>
  obtain ⟨us,h1,h2,h3⟩:=h
  refine ⟨us,h1,h2,λj p hp=>?_⟩
  obtain ⟨r,tid,vs,h4,h5,h6⟩:=h3 j p hp
  obtain ⟨b',g1,_,_,_,g2,_⟩:=Xm p.1 _ h4
  rw [g2 tid vs rfl] at g1
  exact ⟨r,tid,vs,g1,h5,h6⟩
 |Kq k=>
  obtain ⟨r,vt,m,h1,h2,h3⟩:=h
  obtain ⟨b',g1,_,_,_,_,g2⟩:=Xm k _ h1
  rw [g2 vt m rfl] at g1
  exact ⟨r,vt,m,g1,h2,h3⟩
 |_=>exact h
theorem BV (hT:Eb P T) {st:St} {a:Act} (h:Bi X π st a w) {t:TypeId} {e:Ty} (ht:T.ty t=some e) {l i j:Nat} {te:TypeId} {rows:List (List e.den)} {kp:Option (Nat×Nat)} (hl:At st.heap l=some (.Bl e te rows none kp))
  {vp vx:Value} {fr:Bool} {x:e.den} (hp:Hv X w π st.heap (.Kf l i j) vp) (hx:Cw w (Da X.w0.heap.size X.Sc π fr) e vx x) (zp:fr=false):
  ∃w',(Instr.storeAt t vp vx).run P w= .ok () w'/\Bi X π (st.Ke l (.Bl e te (rows.set i ((rows.getD i []).set j x)) none kp)) a w':=by
 subst zp
 obtain ⟨r,b,n,sz,g,o,len,cap,h1,h0,h2,h3,h4,h5,rfl⟩:=hp
 rw [hl] at h1;cases h1
 simp only [OB.vX,Aa,Ae] at h0
 obtain ⟨rfl,rfl⟩:=h0
 have hb:=(h.1.heap l).Ro hl
 simp only [Cj] at hb
 obtain ⟨hb,tp⟩:=hb
 rw [h2] at hb
 obtain ⟨b1,cur,ti,b2,b3,b4,b5,Rs,b6,b7,b8,b9⟩:=hb
 have Kd:rows[i]?=some (rows.getD i []):=by rw [Ai,Ac h3];rfl
 obtain ⟨u,R,k1,k2,k3,k4⟩:=b9 i _ Kd (by simp)
 rw [cellOf b2,k1] at h5
 have hu:=Bd h5
 subst hu
 cases R with
 |none=>obtain ⟨hh,_⟩:=k3;cases hh
 |some q=>
  obtain ⟨ad,hh,g1,g2⟩:=k3
  simp only [Value.slice.injEq,Aa] at hh
  obtain ⟨rfl,rfl,rfl⟩:=hh
  have ZK:=g2 (by omega)
  simp only [Addr.mk.injEq,Oh] at ZK
  obtain ⟨rfl,rfl⟩:=ZK
  obtain ⟨f1,cu,ti',f2,f3,f4,f5,f6⟩:=k4
  obtain ⟨hqf,hqg⟩:=b7 i q k2
  obtain ⟨es,gV,hv⟩:=hx
  have kY:=Cells.len e es x gV
  have Aej:(q.o+0)*e.size+j*e.size=(q.o+j)*e.size:=by rw [Er,<-Dj]
  have Yg:(q.o+j)*e.size+es.length<=cu.size:=by
   have:(q.o+j+1)*e.size<=(q.o+q.cap)*e.size:=Eo _ (by omega)
   rw [Dj (q.o+j) 1,Sh] at this
   omega
  have Zv:(q.o+j)*e.size+es.length<=cu.toList.length:=by simpa using Yg
  have Vu:=Wr (P:=P) (w:=w) (hT.ty _ _ ht) q.g ((q.o+j)*e.size) vx es (by rw [hv];exact Ld e es x gV) kY (Cells.plain e es x gV) cu ti' f2 Yg
  have hqo:Vy π q.g:=⟨l,r,h2,hqf⟩
  have Pc:r.cl q.g:=h.1.sub l r _ h2 hqf
  have tf:=Np w q.g (Dw cu.toList ((q.o+j)*e.size) es).toArray
  have rk: ∀c,c≠q.g->(w.setRow q.g (Dw cu.toList ((q.o+j)*e.size) es).toArray).heap[c]?=w.heap[c]?:= λc hc=>setRow_other w q.g c _ hc
  refine ⟨_,by simp only [Instr.storeAt,Instr.sureAddr];rw [Aej];simpa using Vu,?_⟩
  have Aja:(st.Ke l (.Bl e te (rows.set i ((rows.getD i []).set j x)) none kp))= {tmps:=st.tmps.map (·.map λc=>c),heap:=ar st.heap l (.Bl e te (rows.set i ((rows.getD i []).set j x)) none kp)} :=by
   unfold St.Ke
   congr 1
   exact ((Ei λc _=>AC.map_id c).trans (List.map_id'' (λ_=>rfl) st.tmps)).symm
  rw [Aja]
  have tq: ∀k r0 c,π k=some r0->r0.cl c->k≠l->c≠q.g:= λk r0 c hk hc Iz e=>Iz (h.1.inj k l r0 r c hk h2 hc (e▸Pc))
  refine h.nZ rfl (gv:= λc=>c=q.g) (λc hc=>hc▸hqo) ⟨tf.os,tf.tape,tf.output,tf.size,λc _ hc=>rk c hc⟩ (λ_ _ ho=>ho) h.1.sub (λk r0 c hk hc=>⟨(h.1.place k r0 c hk hc).1,Eg (h.1.place k r0 c hk hc).2 tf.size⟩) h.1.inj
   (λk hk Iz=>h.1.ic k hk λh0=>Iz ?_) (λhc=>TX hl (by simp) hc λk r0 b0 g1 g2 g3=>rk _ λe=>?_) (λm k b0 hk=>?_) (λk hk=>?_)
  ·have:k≠l:= λe=>by subst e;rw [hl] at h0;cases h0
   rw [Ec _ _ _ _ this];exact h0
  ·by_cases Rk:k=l
   ·subst Rk;rw [h2] at g3;cases g3;exact hqg e.symm
   ·exact tq k r0 _ g3 (h.1.sub k r0 _ g3 (h.1.Cv g3)) Rk e
  ·by_cases Rk:k=l
   ·subst Rk
    rw [Ez _ _ _ _ hl] at hk;cases hk
    show ij X _ π (π k) e _ none kp
    rw [h2]
    refine ⟨⟨b1,cur,ti,(rk _ (Gg hqg)).trans b2,b3,b4,by simpa using b5,Rs,by simpa using b6,b7,b8,λi' y hy _=>?_⟩,(h2▸tp).Fk λq' gB=>by cases gB;exact rk _ (Gg hqg)⟩
    rw [Eh] at hy
    split at hy
    ·rename_i hii;subst hii
     have hy:=Bd hy
     subst hy
     refine ⟨_,some q,k1,k2,⟨_,by rw [Cm],by simpa using g1,λ_=>rfl⟩,?_⟩
     refine ⟨f1,_,_,setRow_heap w q.g cu _ ti' _ f2,by rw [Hc,Je _ _ _ Zv,Xq];exact f3,f4,by simpa using f5,λj' y hy=>?_⟩
     rw [Eh] at hy
     split at hy
     ·rename_i hjj;subst hjj
      have hy:=Bd hy
      subst hy
      refine ⟨es,kY,λp v FT=>?_,m.cells false e es x gV⟩
      have hp:p<es.length:=(An.1 FT).1
      rw [Ip,Im _ _ _ _ Zv,Ak (by omega),Ab (by omega)]
      rw [show (q.o+j)*e.size+p-(q.o+j)*e.size=p by omega];exact FT
     ·rename_i hjj
      obtain ⟨mX,he',tm,xz⟩:=f6 j' y hy
      refine ⟨mX,he',λp v FT=>?_,m.cells false e mX y xz⟩
      have hp:p<mX.length:=(An.1 FT).1
      have:=tm p v FT
      rw [Ip,Im _ _ _ _ Zv]
      rcases iw (o:=q.o) (i:=j') (j:=j) (s:=e.size) (p:=p) (λe=>hjj e.symm) (by omega) with Jj|oD
      ·rw [Ab Jj];simpa using this
      ·rw [Ak (by omega),Ak (by omega)];simpa using this
    ·rename_i hii
     obtain ⟨u',R',q1,q2,q3,q4⟩:=b9 i' y hy (by simp)
     refine ⟨u',R',q1,q2,q3,q4.to (λq' gB=>rk _ λe=>hii ?_) λes y hc=>m.cells false e es y hc⟩
     subst gB
     exact b8 i i' q q' k2 q2 e.symm
   ·rw [Ec _ _ _ _ Rk] at hk
    have:=((h.1.heap k).Ro hk).move m tf.size (λr0 c h0 h1=>h.1.sub _ r0 c h0 h1) λr0 c h0 h1 _=>rk c (tq k r0 c h0 h1 Rk)
    cases b0 with
    |var tid vs=>simpa [OB.map] using this
    |_=>exact this
  ·have Rk:k≠l:= λe=>by subst e;rw [Ez _ _ _ _ hl] at hk;cases hk
   rw [Ec _ _ _ _ Rk] at hk
   exact (h.1.heap k).emp hk
end
end Go.Proofs.YtkkdpknjohcekaaGreat
