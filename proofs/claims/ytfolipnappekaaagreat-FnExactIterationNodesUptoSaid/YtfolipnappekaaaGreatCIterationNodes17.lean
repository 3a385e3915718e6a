/-
  Part 18 of the proof that the statement FnExactIterationNodes holds.
-/
import Derived.Test.YtfolipnappekaaaGreatCIterationNodes16
namespace Go.Proofs.YtfolipnappekaaaGreat
open Go.RowKit
section
variable {P:Program} {T:Tab} {X:Ctx} {w w':World} {π π':Pi} {H H':List (Nat×OB)}
theorem UP {l:Nat} {e:Ty} {te:TypeId} {rows JB:List (List e.den)} {out gX:Option Nat} {kp:Option (Nat×Nat)} (hl:Au H l=some (.Bm e te rows out kp)) (hn:JB.length=rows.length)
  (hc: ∀fr τ cs x,Cells w (Dc X.w0.heap.size X.Sc π fr) τ cs x->Cells w' (Dc X.w0.heap.size X.Sc π fr) τ cs x)
  (hg: ∀k r b,Au H k=some b->b.gz≠none->π k=some r->w'.heap[r.g]?=w.heap[r.g]?): ∀c v,Hm X w π H c v->Hm X w' π (aE H l (.Bm e te JB gX kp)) c v:=by
 have aT: ∀k b,Au H k=some b-> ∃b',Au (aE H l (.Bm e te JB gX kp)) k=some b'/\b'.row=b.row/\b'.gz=b.gz/\b'.wQ=b.wQ/\(∀tid vs,b= .var tid vs->b'=b)/\ ∀v m,b= .Vv v m->b'=b:= λk b hb=>by
  by_cases e:k=l
  ·subst e
   rw [hl] at hb;cases hb
   exact ⟨_,Em _ _ _ _ hl,by simp [OB.row,hn],by simp [OB.gz,hn],by simp [OB.wQ,hn],(λ_ _ h=>by cases h),(λ_ _ h=>by cases h)⟩
  ·exact ⟨b,(Dy _ _ _ _ e).trans hb,rfl,rfl,rfl,λ_ _ _=>rfl,λ_ _ _=>rfl⟩
 intro c v h
 cases c with
 |data fr τ x=>obtain ⟨cs,h1,h2⟩:=h;exact ⟨cs,hc _ _ _ _ h1,h2⟩
 |own k off len=>
  obtain ⟨b,sz,n,h1,h0,h2,h3⟩:=h
  obtain ⟨b',g1,g2,_⟩:=aT k b h1
  exact ⟨b',sz,n,g1,g2.trans h0,h2,h3⟩
 |Hj k i=>
  obtain ⟨r,tid,vs,h1,h2,h3⟩:=h
  obtain ⟨b',g1,_,_,_,g2,_⟩:=aT k _ h1
  rw [g2 tid vs rfl] at g1
  exact ⟨r,tid,vs,g1,h2,h3⟩
 |Jz k i=>
  obtain ⟨r,b,sz,n,h1,h0,h2,h3,h4⟩:=h
  obtain ⟨b',g1,g2,_⟩:=aT k b h1
  exact ⟨r,b',sz,n,g1,g2.trans h0,h2,h3,h4⟩
 |sub k i c=>
  obtain ⟨r,b,sz,n,h1,h0,h2,h3,h4,h5⟩:=h
  obtain ⟨b',g1,_,g2,_⟩:=aT k b h1
  exact ⟨r,b',sz,n,g1,g2.trans h0,h2,h3,h4,by rw [World.cell?_of_block (hg k r b h1 (by rw [h0];simp) h2)];exact h5⟩
 |Jv k i c=>
  obtain ⟨r,b,n,sz,g,o,len,cap,h1,h0,h2,h3,h4,h5,h6⟩:=h
  obtain ⟨b',g1,_,_,g2,_⟩:=aT k b h1
  exact ⟨r,b',n,sz,g,o,len,cap,g1,g2.trans h0,h2,h3,h4,by rw [World.cell?_of_block (hg k r b h1 (by cases b<;>first|(cases h0;done)|simp [OB.gz]) h2)];exact h5,h6⟩
 |clo f Ee=>
  obtain ⟨us,h1,h2,h3⟩:=h
  refine ⟨us,h1,h2,λj p hp=>?_⟩
  obtain ⟨r,tid,vs,h4,h5,h6⟩:=h3 j p hp
  obtain ⟨b',g1,_,_,_,g2,_⟩:=aT p.1 _ h4
  rw [g2 tid vs rfl] at g1
  exact ⟨r,tid,vs,g1,h5,h6⟩
 |Kh k=>
  obtain ⟨r,vt,m,h1,h2,h3⟩:=h
  obtain ⟨b',g1,_,_,_,_,g2⟩:=aT k _ h1
  rw [g2 vt m rfl] at g1
  exact ⟨r,vt,m,g1,h2,h3⟩
 |_=>exact h
theorem DA (hT:Eb P T) {st:St} {a:Act} (h:Bl X π st a w) {t:TypeId} {e:Ty} (ht:T.ty t=some e) {l i j:Nat} {te:TypeId} {rows:List (List e.den)} {kp:Option (Nat×Nat)} (hl:Au st.heap l=some (.Bm e te rows none kp))
  {vp vx:Value} {fr:Bool} {x:e.den} (hp:Hm X w π st.heap (.Jv l i j) vp) (hx:Ct w (Dc X.w0.heap.size X.Sc π fr) e vx x) (GJ:fr=false):
  ∃w',(Instr.storeAt t vp vx).run P w= .ok () w'/\Bl X π (st.Ju l (.Bm e te (rows.set i ((rows.getD i []).set j x)) none kp)) a w':=by
 subst GJ
 obtain ⟨r,b,n,sz,g,o,len,cap,h1,h0,h2,h3,h4,h5,rfl⟩:=hp
 rw [hl] at h1;cases h1
 simp only [OB.wQ,Aa,Ad] at h0
 obtain ⟨rfl,rfl⟩:=h0
 have hb:=(h.1.heap l).Qm hl
 simp only [Cj] at hb
 obtain ⟨hb,uq⟩:=hb
 rw [h2] at hb
 obtain ⟨b1,cur,ti,b2,b3,b4,b5,Rs,b6,b7,b8,b9⟩:=hb
 have Kq:rows[i]?=some (rows.getD i []):=by rw [Ak,Ac h3];rfl
 obtain ⟨u,R,k1,k2,k3,k4⟩:=b9 i _ Kq (by simp)
 rw [cellOf b2,k1] at h5
 have hu:=Ba h5
 subst hu
 cases R with
 |none=>obtain ⟨hh,_⟩:=k3;cases hh
 |some q=>
  obtain ⟨ad,hh,g1,g2⟩:=k3
  simp only [Value.slice.injEq,Aa] at hh
  obtain ⟨rfl,rfl,rfl⟩:=hh
  have MV:=g2 (by omega)
  simp only [Addr.mk.injEq,Ol] at MV
  obtain ⟨rfl,rfl⟩:=MV
  obtain ⟨f1,cu,ti',f2,f3,f4,f5,f6⟩:=k4
  obtain ⟨hqf,hqg⟩:=b7 i q k2
  obtain ⟨es,hY,hv⟩:=hx
  have lq:=Cells.len e es x hY
  have Aew:(q.o+0)*e.size+j*e.size=(q.o+j)*e.size:=by rw [Ez,<-Dd]
  have Ye:(q.o+j)*e.size+es.length<=cu.size:=by
   have:(q.o+j+1)*e.size<=(q.o+q.cap)*e.size:=Eo _ (by omega)
   rw [Dd (q.o+j) 1,Si] at this
   omega
  have Zy:(q.o+j)*e.size+es.length<=cu.toList.length:=by simpa using Ye
  have Vt:=Wr (P:=P) (w:=w) (hT.ty _ _ ht) q.g ((q.o+j)*e.size) vx es (by rw [hv];exact Kt e es x hY) lq (Cells.plain e es x hY) cu ti' f2 Ye
  have hqo:Uf π q.g:=⟨l,r,h2,hqf⟩
  have Pe:r.cl q.g:=h.1.sub l r _ h2 hqf
  have uh:=Nr w q.g (Dw cu.toList ((q.o+j)*e.size) es).toArray
  have se: ∀c,c≠q.g->(w.setRow q.g (Dw cu.toList ((q.o+j)*e.size) es).toArray).heap[c]?=w.heap[c]?:= λc hc=>setRow_other w q.g c _ hc
  refine ⟨_,by simp only [Instr.storeAt,Instr.sureAddr];rw [Aew];simpa using Vt,?_⟩
  have Ak1:(st.Ju l (.Bm e te (rows.set i ((rows.getD i []).set j x)) none kp))= {tmps:=st.tmps.map (·.map λc=>c),heap:=aE st.heap l (.Bm e te (rows.set i ((rows.getD i []).set j x)) none kp)} :=by
   unfold St.Ju
   congr 1
   exact ((El λc _=>AC.map_id c).trans (List.map_id'' (λ_=>rfl) st.tmps)).symm
  rw [Ak1]
  have uu: ∀k r0 c,π k=some r0->r0.cl c->k≠l->c≠q.g:= λk r0 c hk hc Ik e=>Ik (h.1.inj k l r0 r c hk h2 hc (e▸Pe))
  refine h.od rfl (gv:= λc=>c=q.g) (λc hc=>hc▸hqo) ⟨uh.os,uh.tape,uh.output,uh.size,λc _ hc=>se c hc⟩ (λ_ _ ho=>ho) h.1.sub (λk r0 c hk hc=>⟨(h.1.place k r0 c hk hc).1,Di (h.1.place k r0 c hk hc).2 uh.size⟩) h.1.inj
   (λk hk Ik=>h.1.ia k hk λh0=>Ik ?_) (λhc=>UP hl (by simp) hc λk r0 b0 g1 g2 g3=>se _ λe=>?_) (λm k b0 hk=>?_) (λk hk=>?_)
  ·have:k≠l:= λe=>by subst e;rw [hl] at h0;cases h0
   rw [Dy _ _ _ _ this];exact h0
  ·by_cases Se:k=l
   ·subst Se;rw [h2] at g3;cases g3;exact hqg e.symm
   ·exact uu k r0 _ g3 (h.1.sub k r0 _ g3 (h.1.Cu g3)) Se e
  ·by_cases Se:k=l
   ·subst Se
    rw [Em _ _ _ _ hl] at hk;cases hk
    show ig X _ π (π k) e _ none kp
    rw [h2]
    refine ⟨⟨b1,cur,ti,(se _ (Gf hqg)).trans b2,b3,b4,by simpa using b5,Rs,by simpa using b6,b7,b8,λi' y hy _=>?_⟩,(h2▸uq).Ex λq' kU=>by cases kU;exact se _ (Gf hqg)⟩
    rw [Fe] at hy
    split at hy
    ·rename_i hii;subst hii
     have hy:=Ba hy
     subst hy
     refine ⟨_,some q,k1,k2,⟨_,by rw [Bi],by simpa using g1,λ_=>rfl⟩,?_⟩
     refine ⟨f1,_,_,setRow_heap w q.g cu _ ti' _ f2,by rw [Gs,Iv _ _ _ Zy,Xp];exact f3,f4,by simpa using f5,λj' y hy=>?_⟩
     rw [Fe] at hy
     split at hy
     ·rename_i hjj;subst hjj
      have hy:=Ba hy
      subst hy
      refine ⟨es,lq,λp v wU=>?_,m.cells false e es x hY⟩
      have hp:p<es.length:=(An.1 wU).1
      rw [Ic,Ib _ _ _ _ Zy,Ag (by omega),Ab (by omega)]
      rw [show (q.o+j)*e.size+p-(q.o+j)*e.size=p by omega];exact wU
     ·rename_i hjj
      obtain ⟨oX,he',uk,GD⟩:=f6 j' y hy
      refine ⟨oX,he',λp v wU=>?_,m.cells false e oX y GD⟩
      have hp:p<oX.length:=(An.1 wU).1
      have:=uk p v wU
      rw [Ic,Ib _ _ _ _ Zy]
      rcases ir (o:=q.o) (i:=j') (j:=j) (s:=e.size) (p:=p) (λe=>hjj e.symm) (by omega) with It|oZ
      ·rw [Ab It];simpa using this
      ·rw [Ag (by omega),Ag (by omega)];simpa using this
    ·rename_i hii
     obtain ⟨u',R',q1,q2,q3,q4⟩:=b9 i' y hy (by simp)
     refine ⟨u',R',q1,q2,q3,q4.to (λq' kU=>se _ λe=>hii ?_) λes y hc=>m.cells false e es y hc⟩
     subst kU
     exact b8 i i' q q' k2 q2 e.symm
   ·rw [Dy _ _ _ _ Se] at hk
    have:=((h.1.heap k).Qm hk).move m uh.size (λr0 c h0 h1=>h.1.sub _ r0 c h0 h1) λr0 c h0 h1 _=>se c (uu k r0 c h0 h1 Se)
    cases b0 with
    |var tid vs=>simpa [OB.map] using this
    |_=>exact this
  ·have Se:k≠l:= λe=>by subst e;rw [Em _ _ _ _ hl] at hk;cases hk
   rw [Dy _ _ _ _ Se] at hk
   exact (h.1.heap k).emp hk
end
end Go.Proofs.YtfolipnappekaaaGreat
