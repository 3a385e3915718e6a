/-
  Part 18 of the proof that the statement FnExactBestTableIndex holds.
-/
import Derived.Test.YtfolipnappekaaaGreatCBestTableIndex16
namespace Go.Proofs.YtfolipnappekaaaGreat
open Go.RowKit
section
variable {P:Program} {T:Tab} {X:Ctx} {w w':World} {π π':Pi} {H H':List (Nat×OB)}
theorem FB {l:Nat} {e:Ty} {te:TypeId} {rows xK:List (List e.den)} {out bF:Option Nat} {kp:Option (Nat×Nat)} (hl:Ad H l=some (.Ai e te rows out kp)) (hn:xK.length=rows.length)
  (hc: ∀fr τ cs x,Cells w (Bd X.w0.heap.size X.Sc π fr) τ cs x->Cells w' (Bd X.w0.heap.size X.Sc π fr) τ cs x)
  (hg: ∀k r b,Ad H k=some b->b.bf≠none->π k=some r->w'.heap[r.g]?=w.heap[r.g]?): ∀c v,Dq X w π H c v->Dq X w' π (Sy H l (.Ai e te xK bF kp)) c v:=by
 have Tk: ∀k b,Ad H k=some b-> ∃b',Ad (Sy H l (.Ai e te xK bF kp)) k=some b'/\b'.row=b.row/\b'.bf=b.bf/\b'.pI=b.pI/\(∀tid vs,b= .var tid vs->b'=b)/\ ∀v m,b= .Ol v m->b'=b:= λk b hb=>by
  by_cases e:k=l
  ·subst e
   rw [hl] at hb;cases hb
   exact ⟨_,Cb _ _ _ _ hl,by simp [OB.row,hn],by simp [OB.bf,hn],by simp [OB.pI,hn],(λ_ _ h=>by cases h),(λ_ _ h=>by cases h)⟩
  ·exact ⟨b,(Bs _ _ _ _ e).trans hb,rfl,rfl,rfl,λ_ _ _=>rfl,λ_ _ _=>rfl⟩
 intro c v h
 cases c with
 |data fr τ x=>obtain ⟨cs,h1,h2⟩:=h;exact ⟨cs,hc _ _ _ _ h1,h2⟩
 |own k off len=>
  obtain ⟨b,sz,n,h1,h0,h2,h3⟩:=h
  obtain ⟨b',g1,g2,_⟩:=Tk k b h1
  exact ⟨b',sz,n,g1,g2.trans h0,h2,h3⟩
 |Dn k i=>
  obtain ⟨r,tid,vs,h1,h2,h3⟩:=h
  obtain ⟨b',g1,_,_,_,g2,_⟩:=Tk k _ h1
  rw [g2 tid vs rfl] at g1
  exact ⟨r,tid,vs,g1,h2,h3⟩
 |Fo k i=>
  obtain ⟨r,b,sz,n,h1,h0,h2,h3,h4⟩:=h
  obtain ⟨b',g1,g2,_⟩:=Tk k b h1
  exact ⟨r,b',sz,n,g1,g2.trans h0,h2,h3,h4⟩
 |sub k i c=>
  obtain ⟨r,b,sz,n,h1,h0,h2,h3,h4,h5⟩:=h
  obtain ⟨b',g1,_,g2,_⟩:=Tk k b h1
  exact ⟨r,b',sz,n,g1,g2.trans h0,h2,h3,h4,by rw [World.cell?_of_block (hg k r b h1 (by rw [h0];simp) h2)];exact h5⟩
 |Fk k i c=>
  obtain ⟨r,b,n,sz,g,o,len,cap,h1,h0,h2,h3,h4,h5,h6⟩:=h
  obtain ⟨b',g1,_,_,g2,_⟩:=Tk k b h1
  exact ⟨r,b',n,sz,g,o,len,cap,g1,g2.trans h0,h2,h3,h4,by rw [World.cell?_of_block (hg k r b h1 (by cases b<;>first|(cases h0;done)|simp [OB.bf]) h2)];exact h5,h6⟩
 |clo f Bu=>
  obtain ⟨us,h1,h2,h3⟩:=h
  refine ⟨us,h1,h2,λj p hp=>?_⟩
  obtain ⟨r,tid,vs,h4,h5,h6⟩:=h3 j p hp
  obtain ⟨b',g1,_,_,_,g2,_⟩:=Tk p.1 _ h4
  rw [g2 tid vs rfl] at g1
  exact ⟨r,tid,vs,g1,h5,h6⟩
 |Fw k=>
  obtain ⟨r,vt,m,h1,h2,h3⟩:=h
  obtain ⟨b',g1,_,_,_,_,g2⟩:=Tk k _ h1
  rw [g2 vt m rfl] at g1
  exact ⟨r,vt,m,g1,h2,h3⟩
 |_=>exact h
theorem uG (hT:Bz P T) {st:St} {a:Act} (h:Aj X π st a w) {t:TypeId} {e:Ty} (ht:T.ty t=some e) {l i j:Nat} {te:TypeId} {rows:List (List e.den)} {kp:Option (Nat×Nat)} (hl:Ad st.heap l=some (.Ai e te rows none kp))
  {vp vx:Value} {fr:Bool} {x:e.den} (hp:Dq X w π st.heap (.Fk l i j) vp) (hx:Bb w (Bd X.w0.heap.size X.Sc π fr) e vx x) (zl:fr=false):
  ∃w',(Instr.storeAt t vp vx).run P w= .ok () w'/\Aj X π (st.Fh l (.Ai e te (rows.set i ((rows.getD i []).set j x)) none kp)) a w':=by
 subst zl
 obtain ⟨r,b,n,sz,g,o,len,cap,h1,h0,h2,h3,h4,h5,rfl⟩:=hp
 rw [hl] at h1;cases h1
 simp only [OB.pI,Option.some.injEq,Prod.mk.injEq] at h0
 obtain ⟨rfl,rfl⟩:=h0
 have hb:=(h.1.heap l).Lc hl
 simp only [Au] at hb
 obtain ⟨hb,ny⟩:=hb
 rw [h2] at hb
 obtain ⟨b1,cur,ti,b2,b3,b4,b5,Rs,b6,b7,b8,b9⟩:=hb
 have Ge:rows[i]?=some (rows.getD i []):=by rw [List.getD_eq_getElem?_getD,List.getElem?_eq_getElem h3];rfl
 obtain ⟨u,R,k1,k2,k3,k4⟩:=b9 i _ Ge (by simp)
 rw [cellOf b2,k1] at h5
 have hu:=Option.some.inj h5
 subst hu
 cases R with
 |none=>obtain ⟨hh,_⟩:=k3;cases hh
 |some q=>
  obtain ⟨ad,hh,g1,g2⟩:=k3
  simp only [Value.slice.injEq,Option.some.injEq] at hh
  obtain ⟨rfl,rfl,rfl⟩:=hh
  have JT:=g2 (by omega)
  simp only [Addr.mk.injEq,and_true] at JT
  obtain ⟨rfl,rfl⟩:=JT
  obtain ⟨f1,cu,PB,f2,f3,f4,f5,f6⟩:=k4
  obtain ⟨ZQ,hqg⟩:=b7 i q k2
  obtain ⟨es,bH,hv⟩:=hx
  have ic:=Cells.len e es x bH
  have QG:(q.o+0)*e.size+j*e.size=(q.o+j)*e.size:=by rw [Nat.add_zero,<-Nat.add_mul]
  have Qi:(q.o+j)*e.size+es.length<=cu.size:=by
   have:(q.o+j+1)*e.size<=(q.o+q.cap)*e.size:=Nat.mul_le_mul_right _ (by omega)
   rw [Nat.add_mul (q.o+j) 1,Nat.one_mul] at this
   omega
  have Sb:(q.o+j)*e.size+es.length<=cu.toList.length:=by simpa using Qi
  have Ok:=Pf (P:=P) (w:=w) (hT.ty _ _ ht) q.g ((q.o+j)*e.size) vx es (by rw [hv];exact Gh e es x bH) ic (Cells.plain e es x bH) cu PB f2 Qi
  have hqo:Om π q.g:=⟨l,r,h2,ZQ⟩
  have Ly:r.cl q.g:=h.1.sub l r _ h2 ZQ
  have nq:=Ih w q.g (Bo cu.toList ((q.o+j)*e.size) es).toArray
  have lF: ∀c,c≠q.g->(w.setRow q.g (Bo cu.toList ((q.o+j)*e.size) es).toArray).heap[c]?=w.heap[c]?:= λc hc=>setRow_other w q.g c _ hc
  refine ⟨_,by simp only [Instr.storeAt,Instr.sureAddr];rw [QG];simpa using Ok,?_⟩
  have WM:(st.Fh l (.Ai e te (rows.set i ((rows.getD i []).set j x)) none kp))= {tmps:=st.tmps.map (·.map λc=>c),heap:=Sy st.heap l (.Ai e te (rows.set i ((rows.getD i []).set j x)) none kp)} :=by
   unfold St.Fh
   congr 1
   exact ((List.map_congr_left λc _=>AC.map_id c).trans (List.map_id'' (λ_=>rfl) st.tmps)).symm
  rw [WM]
  have nA: ∀k r0 c,π k=some r0->r0.cl c->k≠l->c≠q.g:= λk r0 c hk hc Ex e=>Ex (h.1.inj k l r0 r c hk h2 hc (e▸Ly))
  refine h.iH rfl (gv:= λc=>c=q.g) (λc hc=>hc▸hqo) ⟨nq.os,nq.tape,nq.output,nq.size,λc _ hc=>lF c hc⟩ (λ_ _ ho=>ho) h.1.sub (λk r0 c hk hc=>⟨(h.1.place k r0 c hk hc).1,Nat.lt_of_lt_of_le (h.1.place k r0 c hk hc).2 nq.size⟩) h.1.inj
   (λk hk Ex=>h.1.bI k hk λh0=>Ex ?_) (λhc=>FB hl (by simp) hc λk r0 b0 g1 g2 g3=>lF _ λe=>?_) (λm k b0 hk=>?_) (λk hk=>?_)
  ·have:k≠l:= λe=>by subst e;rw [hl] at h0;cases h0
   rw [Bs _ _ _ _ this];exact h0
  ·by_cases Ls:k=l
   ·subst Ls;rw [h2] at g3;cases g3;exact hqg e.symm
   ·exact nA k r0 _ g3 (h.1.sub k r0 _ g3 (h.1.Ba g3)) Ls e
  ·by_cases Ls:k=l
   ·subst Ls
    rw [Cb _ _ _ _ hl] at hk;cases hk
    show bL X _ π (π k) e _ none kp
    rw [h2]
    refine ⟨⟨b1,cur,ti,(lF _ (Ne.symm hqg)).trans b2,b3,b4,by simpa using b5,Rs,by simpa using b6,b7,b8,λi' y hy _=>?_⟩,(h2▸ny).Ci λq' fS=>by cases fS;exact lF _ (Ne.symm hqg)⟩
    rw [List.getElem?_set] at hy
    split at hy
    ·rename_i TA;subst TA
     have hy:=Option.some.inj hy
     subst hy
     refine ⟨_,some q,k1,k2,⟨_,by rw [List.length_set],by simpa using g1,λ_=>rfl⟩,?_⟩
     refine ⟨f1,_,_,setRow_heap w q.g cu _ PB _ f2,by rw [List.size_toArray,Ej _ _ _ Sb,Array.length_toList];exact f3,f4,by simpa using f5,λj' y hy=>?_⟩
     rw [List.getElem?_set] at hy
     split at hy
     ·rename_i hjj;subst hjj
      have hy:=Option.some.inj hy
      subst hy
      refine ⟨es,ic,λp v FN=>?_,m.cells false e es x bH⟩
      have hp:p<es.length:=(List.getElem?_eq_some_iff.1 FN).1
      rw [List.getElem?_toArray,Ea _ _ _ _ Sb,if_neg (by omega),if_pos (by omega)]
      rw [show (q.o+j)*e.size+p-(q.o+j)*e.size=p by omega];exact FN
     ·rename_i hjj
      obtain ⟨je,OP,nv,wA⟩:=f6 j' y hy
      refine ⟨je,OP,λp v FN=>?_,m.cells false e je y wA⟩
      have hp:p<je.length:=(List.getElem?_eq_some_iff.1 FN).1
      have:=nv p v FN
      rw [List.getElem?_toArray,Ea _ _ _ _ Sb]
      rcases bP (o:=q.o) (i:=j') (j:=j) (s:=e.size) (p:=p) (λe=>hjj e.symm) (by omega) with Fg|jg
      ·rw [if_pos Fg];simpa using this
      ·rw [if_neg (by omega),if_neg (by omega)];simpa using this
    ·rename_i TA
     obtain ⟨u',R',q1,q2,q3,q4⟩:=b9 i' y hy (by simp)
     refine ⟨u',R',q1,q2,q3,q4.to (λq' fS=>lF _ λe=>TA ?_) λes y hc=>m.cells false e es y hc⟩
     subst fS
     exact b8 i i' q q' k2 q2 e.symm
   ·rw [Bs _ _ _ _ Ls] at hk
    have:=((h.1.heap k).Lc hk).move m nq.size (λr0 c h0 h1=>h.1.sub _ r0 c h0 h1) λr0 c h0 h1 _=>lF c (nA k r0 c h0 h1 Ls)
    cases b0 with
    |var tid vs=>simpa [OB.map] using this
    |_=>exact this
  ·have Ls:k≠l:= λe=>by subst e;rw [Cb _ _ _ _ hl] at hk;cases hk
   rw [Bs _ _ _ _ Ls] at hk
   exact (h.1.heap k).emp hk
end
end Go.Proofs.YtfolipnappekaaaGreat
