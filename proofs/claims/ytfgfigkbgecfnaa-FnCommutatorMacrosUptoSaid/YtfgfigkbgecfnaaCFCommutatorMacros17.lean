/-
  Part 18 of the proof that the statement FnCommutatorMacros holds.
-/
import Derived.Test.YtfgfigkbgecfnaaCFCommutatorMacros16
namespace Go.Proofs.Ytfgfigkbgecfnaa
open Go.RowKit
section
variable {P:Program} {T:Tab} {X:Ctx} {w w':World} {π π':Pi} {H H':List (Nat×OB)}
theorem yu {l:Nat} {e:Ty} {te:TypeId} {rows uf:List (List e.den)} {out cy:Option Nat} {kp:Option (Nat×Nat)} (hl:Ap H l=some (.Bc e te rows out kp)) (hn:uf.length=rows.length)
  (hc: ∀fr τ cs x,Cells w (Cb X.w0.heap.size X.Sc π fr) τ cs x->Cells w' (Cb X.w0.heap.size X.Sc π fr) τ cs x)
  (hg: ∀k r b,Ap H k=some b->b.c6≠none->π k=some r->w'.heap[r.g]?=w.heap[r.g]?): ∀c v,Fe X w π H c v->Fe X w' π (Ux H l (.Bc e te uf cy kp)) c v:=by
 have Vy: ∀k b,Ap H k=some b-> ∃b',Ap (Ux H l (.Bc e te uf cy kp)) k=some b'/\b'.row=b.row/\b'.c6=b.c6/\b'.nP=b.nP/\(∀tid vs,b= .var tid vs->b'=b)/\ ∀v m,b= .Qy v m->b'=b:= λk b hb=>by
  by_cases e:k=l
  ·subst e
   rw [hl] at hb;cases hb
   exact ⟨_,Dj _ _ _ _ hl,by simp [OB.row,hn],by simp [OB.c6,hn],by simp [OB.nP,hn],(λ_ _ h=>by cases h),(λ_ _ h=>by cases h)⟩
  ·exact ⟨b,(Cu _ _ _ _ e).trans hb,rfl,rfl,rfl,λ_ _ _=>rfl,λ_ _ _=>rfl⟩
 intro c v h
 cases c with
 |data fr τ x=>obtain ⟨cs,h1,h2⟩:=h;exact ⟨cs,hc _ _ _ _ h1,h2⟩
 |own k off len=>
  obtain ⟨b,sz,n,h1,h0,h2,h3⟩:=h
  obtain ⟨b',g1,g2,_⟩:=Vy k b h1
  exact ⟨b',sz,n,g1,g2.trans h0,h2,h3⟩
 |Ez k i=>
  obtain ⟨r,tid,vs,h1,h2,h3⟩:=h
  obtain ⟨b',g1,_,_,_,g2,_⟩:=Vy k _ h1
  rw [g2 tid vs rfl] at g1
  exact ⟨r,tid,vs,g1,h2,h3⟩
 |Hj k i=>
  obtain ⟨r,b,sz,n,h1,h0,h2,h3,h4⟩:=h
  obtain ⟨b',g1,g2,_⟩:=Vy k b h1
  exact ⟨r,b',sz,n,g1,g2.trans h0,h2,h3,h4⟩
 |sub k i c=>
  obtain ⟨r,b,sz,n,h1,h0,h2,h3,h4,h5⟩:=h
  obtain ⟨b',g1,_,g2,_⟩:=Vy k b h1
  exact ⟨r,b',sz,n,g1,g2.trans h0,h2,h3,h4,by rw [World.cell?_of_block (hg k r b h1 (by rw [h0];simp) h2)];exact h5⟩
 |Hf k i c=>
  obtain ⟨r,b,n,sz,g,o,len,cap,h1,h0,h2,h3,h4,h5,h6⟩:=h
  obtain ⟨b',g1,_,_,g2,_⟩:=Vy k b h1
  exact ⟨r,b',n,sz,g,o,len,cap,g1,g2.trans h0,h2,h3,h4,by rw [World.cell?_of_block (hg k r b h1 (by cases b<;>first|(cases h0;done)|simp [OB.c6]) h2)];exact h5,h6⟩
 |clo f Cx=>
  obtain ⟨us,h1,h2,h3⟩:=h
  refine ⟨us,h1,h2,λj p hp=>?_⟩
  obtain ⟨r,tid,vs,h4,h5,h6⟩:=h3 j p hp
  obtain ⟨b',g1,_,_,_,g2,_⟩:=Vy p.1 _ h4
  rw [g2 tid vs rfl] at g1
  exact ⟨r,tid,vs,g1,h5,h6⟩
 |Hv k=>
  obtain ⟨r,vt,m,h1,h2,h3⟩:=h
  obtain ⟨b',g1,_,_,_,_,g2⟩:=Vy k _ h1
  rw [g2 vt m rfl] at g1
  exact ⟨r,vt,m,g1,h2,h3⟩
 |_=>exact h
theorem rW (hT:De P T) {st:St} {a:Act} (h:Ax X π st a w) {t:TypeId} {e:Ty} (ht:T.ty t=some e) {l i j:Nat} {te:TypeId} {rows:List (List e.den)} {kp:Option (Nat×Nat)} (hl:Ap st.heap l=some (.Bc e te rows none kp))
  {vp vx:Value} {fr:Bool} {x:e.den} (hp:Fe X w π st.heap (.Hf l i j) vp) (hx:Ck w (Cb X.w0.heap.size X.Sc π fr) e vx x) (tf:fr=false):
  ∃w',(Instr.storeAt t vp vx).run P w= .ok () w'/\Ax X π (st.He l (.Bc e te (rows.set i ((rows.getD i []).set j x)) none kp)) a w':=by
 subst tf
 obtain ⟨r,b,n,sz,g,o,len,cap,h1,h0,h2,h3,h4,h5,rfl⟩:=hp
 rw [hl] at h1;cases h1
 simp only [OB.nP,Aa,Ab] at h0
 obtain ⟨rfl,rfl⟩:=h0
 have hb:=(h.1.heap l).Ns hl
 simp only [Bn] at hb
 obtain ⟨hb,sv⟩:=hb
 rw [h2] at hb
 obtain ⟨b1,cur,ti,b2,b3,b4,b5,Rs,b6,b7,b8,b9⟩:=hb
 have bf:rows[i]?=some (rows.getD i []):=by rw [An,Ac h3];rfl
 obtain ⟨u,R,k1,k2,k3,k4⟩:=b9 i _ bf (by simp)
 rw [cellOf b2,k1] at h5
 have hu:=Aw h5
 subst hu
 cases R with
 |none=>obtain ⟨hh,_⟩:=k3;cases hh
 |some q=>
  obtain ⟨ad,hh,g1,g2⟩:=k3
  simp only [Value.slice.injEq,Aa] at hh
  obtain ⟨rfl,rfl,rfl⟩:=hh
  have yv:=g2 (by omega)
  simp only [Addr.mk.injEq,cA] at yv
  obtain ⟨rfl,rfl⟩:=yv
  obtain ⟨f1,cu,FH,f2,f3,f4,f5,f6⟩:=k4
  obtain ⟨NW,QI⟩:=b7 i q k2
  obtain ⟨es,cr,hv⟩:=hx
  have eZ:=Cells.len e es x cr
  have GH:(q.o+0)*e.size+j*e.size=(q.o+j)*e.size:=by rw [Dc,<-Ch]
  have Su:(q.o+j)*e.size+es.length<=cu.size:=by
   have:(q.o+j+1)*e.size<=(q.o+q.cap)*e.size:=Ea _ (by omega)
   rw [Ch (q.o+j) 1,Qz] at this
   omega
  have Uf:(q.o+j)*e.size+es.length<=cu.toList.length:=by simpa using Su
  have Qw:=Ru (P:=P) (w:=w) (hT.ty _ _ ht) q.g ((q.o+j)*e.size) vx es (by rw [hv];exact Ii e es x cr) eZ (Cells.plain e es x cr) cu FH f2 Su
  have hqo:Qk π q.g:=⟨l,r,h2,NW⟩
  have Ol:r.cl q.g:=h.1.sub l r _ h2 NW
  have ma:=Kq w q.g (Dd cu.toList ((q.o+j)*e.size) es).toArray
  have kS: ∀c,c≠q.g->(w.setRow q.g (Dd cu.toList ((q.o+j)*e.size) es).toArray).heap[c]?=w.heap[c]?:= λc hc=>setRow_other w q.g c _ hc
  refine ⟨_,by simp only [Instr.storeAt,Instr.sureAddr];rw [GH];simpa using Qw,?_⟩
  have LM:(st.He l (.Bc e te (rows.set i ((rows.getD i []).set j x)) none kp))= {tmps:=st.tmps.map (·.map λc=>c),heap:=Ux st.heap l (.Bc e te (rows.set i ((rows.getD i []).set j x)) none kp)} :=by
   unfold St.He
   congr 1
   exact ((Fw λc _=>AC.map_id c).trans (List.map_id'' (λ_=>rfl) st.tmps)).symm
  rw [LM]
  have mf: ∀k r0 c,π k=some r0->r0.cl c->k≠l->c≠q.g:= λk r0 c hk hc Hs e=>Hs (h.1.inj k l r0 r c hk h2 hc (e▸Ol))
  refine h.iD rfl (gv:= λc=>c=q.g) (λc hc=>hc▸hqo) ⟨ma.os,ma.tape,ma.output,ma.size,λc _ hc=>kS c hc⟩ (λ_ _ ho=>ho) h.1.sub (λk r0 c hk hc=>⟨(h.1.place k r0 c hk hc).1,Cy (h.1.place k r0 c hk hc).2 ma.size⟩) h.1.inj
   (λk hk Hs=>h.1.cD k hk λh0=>Hs ?_) (λhc=>yu hl (by simp) hc λk r0 b0 g1 g2 g3=>kS _ λe=>?_) (λm k b0 hk=>?_) (λk hk=>?_)
  ·have:k≠l:= λe=>by subst e;rw [hl] at h0;cases h0
   rw [Cu _ _ _ _ this];exact h0
  ·by_cases Om:k=l
   ·subst Om;rw [h2] at g3;cases g3;exact QI e.symm
   ·exact mf k r0 _ g3 (h.1.sub k r0 _ g3 (h.1.Bu g3)) Om e
  ·by_cases Om:k=l
   ·subst Om
    rw [Dj _ _ _ _ hl] at hk;cases hk
    show cH X _ π (π k) e _ none kp
    rw [h2]
    refine ⟨⟨b1,cur,ti,(kS _ (Fo QI)).trans b2,b3,b4,by simpa using b5,Rs,by simpa using b6,b7,b8,λi' y hy _=>?_⟩,(h2▸sv).Ep λq' tm=>by cases tm;exact kS _ (Fo QI)⟩
    rw [Dg] at hy
    split at hy
    ·rename_i WD;subst WD
     have hy:=Aw hy
     subst hy
     refine ⟨_,some q,k1,k2,⟨_,by rw [Eh],by simpa using g1,λ_=>rfl⟩,?_⟩
     refine ⟨f1,_,_,setRow_heap w q.g cu _ FH _ f2,by rw [Eu,Gg _ _ _ Uf,Sf];exact f3,f4,by simpa using f5,λj' y hy=>?_⟩
     rw [Dg] at hy
     split at hy
     ·rename_i WJ;subst WJ
      have hy:=Aw hy
      subst hy
      refine ⟨es,eZ,λp v tq=>?_,m.cells false e es x cr⟩
      have hp:p<es.length:=(Ai.1 tq).1
      rw [Fv,Fu _ _ _ _ Uf,Aj (by omega),Af (by omega)]
      rw [show (q.o+j)*e.size+p-(q.o+j)*e.size=p by omega];exact tq
     ·rename_i WJ
      obtain ⟨gN,FA,mc,oY⟩:=f6 j' y hy
      refine ⟨gN,FA,λp v tq=>?_,m.cells false e gN y oY⟩
      have hp:p<gN.length:=(Ai.1 tq).1
      have:=mc p v tq
      rw [Fv,Fu _ _ _ _ Uf]
      rcases cM (o:=q.o) (i:=j') (j:=j) (s:=e.size) (p:=p) (λe=>WJ e.symm) (by omega) with Im|zV
      ·rw [Af Im];simpa using this
      ·rw [Aj (by omega),Aj (by omega)];simpa using this
    ·rename_i WD
     obtain ⟨u',R',q1,q2,q3,q4⟩:=b9 i' y hy (by simp)
     refine ⟨u',R',q1,q2,q3,q4.to (λq' tm=>kS _ λe=>WD ?_) λes y hc=>m.cells false e es y hc⟩
     subst tm
     exact b8 i i' q q' k2 q2 e.symm
   ·rw [Cu _ _ _ _ Om] at hk
    have:=((h.1.heap k).Ns hk).move m ma.size (λr0 c h0 h1=>h.1.sub _ r0 c h0 h1) λr0 c h0 h1 _=>kS c (mf k r0 c h0 h1 Om)
    cases b0 with
    |var tid vs=>simpa [OB.map] using this
    |_=>exact this
  ·have Om:k≠l:= λe=>by subst e;rw [Dj _ _ _ _ hl] at hk;cases hk
   rw [Cu _ _ _ _ Om] at hk
   exact (h.1.heap k).emp hk
end
end Go.Proofs.Ytfgfigkbgecfnaa
