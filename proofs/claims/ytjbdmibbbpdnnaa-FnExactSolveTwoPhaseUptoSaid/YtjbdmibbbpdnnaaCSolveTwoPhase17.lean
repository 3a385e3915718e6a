/-
  Part 18 of the proof that the statement FnExactSolveTwoPhase holds.
-/
import Derived.Test.YtjbdmibbbpdnnaaCSolveTwoPhase16
namespace Go.Proofs.Ytjbdmibbbpdnnaa
open Go.RowKit
section
variable {P:Program} {T:Tab} {X:Ctx} {w w':World} {π π':Pi} {H H':List (Nat×OB)}
theorem GG {l:Nat} {e:Ty} {te:TypeId} {rows ya:List (List e.den)} {out ck:Option Nat} {kp:Option (Nat×Nat)} (hl:Ag H l=some (.Ao e te rows out kp)) (hn:ya.length=rows.length)
  (hc: ∀fr τ cs x,Cells w (Bi X.w0.heap.size X.Sc π fr) τ cs x->Cells w' (Bi X.w0.heap.size X.Sc π fr) τ cs x)
  (hg: ∀k r b,Ag H k=some b->b.bM≠none->π k=some r->w'.heap[r.g]?=w.heap[r.g]?): ∀c v,Ec X w π H c v->Ec X w' π (Ys H l (.Ao e te ya ck kp)) c v:=by
 have Nv: ∀k b,Ag H k=some b-> ∃b',Ag (Ys H l (.Ao e te ya ck kp)) k=some b'/\b'.row=b.row/\b'.bM=b.bM/\b'.pW=b.pW/\(∀tid vs,b= .var tid vs->b'=b)/\ ∀v m,b= .Pp v m->b'=b:= λk b hb=>by
  by_cases e:k=l
  ·subst e
   rw [hl] at hb;cases hb
   exact ⟨_,Cw _ _ _ _ hl,by simp [OB.row,hn],by simp [OB.bM,hn],by simp [OB.pW,hn],(λ_ _ h=>by cases h),(λ_ _ h=>by cases h)⟩
  ·exact ⟨b,(Cr _ _ _ _ e).trans hb,rfl,rfl,rfl,λ_ _ _=>rfl,λ_ _ _=>rfl⟩
 intro c v h
 cases c with
 |data fr τ x=>obtain ⟨cs,h1,h2⟩:=h;exact ⟨cs,hc _ _ _ _ h1,h2⟩
 |own k off len=>
  obtain ⟨b,sz,n,h1,h0,h2,h3⟩:=h
  obtain ⟨b',g1,g2,_⟩:=Nv k b h1
  exact ⟨b',sz,n,g1,g2.trans h0,h2,h3⟩
 |Eb k i=>
  obtain ⟨r,tid,vs,h1,h2,h3⟩:=h
  obtain ⟨b',g1,_,_,_,g2,_⟩:=Nv k _ h1
  rw [g2 tid vs rfl] at g1
  exact ⟨r,tid,vs,g1,h2,h3⟩
 |Gh k i=>
  obtain ⟨r,b,sz,n,h1,h0,h2,h3,h4⟩:=h
  obtain ⟨b',g1,g2,_⟩:=Nv k b h1
  exact ⟨r,b',sz,n,g1,g2.trans h0,h2,h3,h4⟩
 |sub k i c=>
  obtain ⟨r,b,sz,n,h1,h0,h2,h3,h4,h5⟩:=h
  obtain ⟨b',g1,_,g2,_⟩:=Nv k b h1
  exact ⟨r,b',sz,n,g1,g2.trans h0,h2,h3,h4,by rw [World.cell?_of_block (hg k r b h1 (by rw [h0];simp) h2)];exact h5⟩
 |Gf k i c=>
  obtain ⟨r,b,n,sz,g,o,len,cap,h1,h0,h2,h3,h4,h5,h6⟩:=h
  obtain ⟨b',g1,_,_,g2,_⟩:=Nv k b h1
  exact ⟨r,b',n,sz,g,o,len,cap,g1,g2.trans h0,h2,h3,h4,by rw [World.cell?_of_block (hg k r b h1 (by cases b<;>first|(cases h0;done)|simp [OB.bM]) h2)];exact h5,h6⟩
 |clo f Cd=>
  obtain ⟨us,h1,h2,h3⟩:=h
  refine ⟨us,h1,h2,λj p hp=>?_⟩
  obtain ⟨r,tid,vs,h4,h5,h6⟩:=h3 j p hp
  obtain ⟨b',g1,_,_,_,g2,_⟩:=Nv p.1 _ h4
  rw [g2 tid vs rfl] at g1
  exact ⟨r,tid,vs,g1,h5,h6⟩
 |Gt k=>
  obtain ⟨r,vt,m,h1,h2,h3⟩:=h
  obtain ⟨b',g1,_,_,_,_,g2⟩:=Nv k _ h1
  rw [g2 vt m rfl] at g1
  exact ⟨r,vt,m,g1,h2,h3⟩
 |_=>exact h
theorem uW (hT:Ch P T) {st:St} {a:Act} (h:Al X π st a w) {t:TypeId} {e:Ty} (ht:T.ty t=some e) {l i j:Nat} {te:TypeId} {rows:List (List e.den)} {kp:Option (Nat×Nat)} (hl:Ag st.heap l=some (.Ao e te rows none kp))
  {vp vx:Value} {fr:Bool} {x:e.den} (hp:Ec X w π st.heap (.Gf l i j) vp) (hx:Bh w (Bi X.w0.heap.size X.Sc π fr) e vx x) (wV:fr=false):
  ∃w',(Instr.storeAt t vp vx).run P w= .ok () w'/\Al X π (st.Gk l (.Ao e te (rows.set i ((rows.getD i []).set j x)) none kp)) a w':=by
 subst wV
 obtain ⟨r,b,n,sz,g,o,len,cap,h1,h0,h2,h3,h4,h5,rfl⟩:=hp
 rw [hl] at h1;cases h1
 simp only [OB.pW,Option.some.injEq,Prod.mk.injEq] at h0
 obtain ⟨rfl,rfl⟩:=h0
 have hb:=(h.1.heap l).Na hl
 simp only [Ay] at hb
 obtain ⟨hb,nY⟩:=hb
 rw [h2] at hb
 obtain ⟨b1,cur,ti,b2,b3,b4,b5,Rs,b6,b7,b8,b9⟩:=hb
 have Rn:rows[i]?=some (rows.getD i []):=by rw [List.getD_eq_getElem?_getD,List.getElem?_eq_getElem h3];rfl
 obtain ⟨u,R,k1,k2,k3,k4⟩:=b9 i _ Rn (by simp)
 rw [cellOf b2,k1] at h5
 have hu:=Option.some.inj h5
 subst hu
 cases R with
 |none=>obtain ⟨hh,_⟩:=k3;cases hh
 |some q=>
  obtain ⟨ad,hh,g1,g2⟩:=k3
  simp only [Value.slice.injEq,Option.some.injEq] at hh
  obtain ⟨rfl,rfl,rfl⟩:=hh
  have LH:=g2 (by omega)
  simp only [Addr.mk.injEq,and_true] at LH
  obtain ⟨rfl,rfl⟩:=LH
  obtain ⟨f1,cu,QU,f2,f3,f4,f5,f6⟩:=k4
  obtain ⟨hqf,hqg⟩:=b7 i q k2
  obtain ⟨es,ao,hv⟩:=hx
  have iS:=Cells.len e es x ao
  have SF:(q.o+0)*e.size+j*e.size=(q.o+j)*e.size:=by rw [Nat.add_zero,<-Nat.add_mul]
  have Qb:(q.o+j)*e.size+es.length<=cu.size:=by
   have:(q.o+j+1)*e.size<=(q.o+q.cap)*e.size:=Nat.mul_le_mul_right _ (by omega)
   rw [Nat.add_mul (q.o+j) 1,Nat.one_mul] at this
   omega
  have Ti:(q.o+j)*e.size+es.length<=cu.toList.length:=by simpa using Qb
  have Po:=Qk (P:=P) (w:=w) (hT.ty _ _ ht) q.g ((q.o+j)*e.size) vx es (by rw [hv];exact Gu e es x ao) iS (Cells.plain e es x ao) cu QU f2 Qb
  have hqo:Pq π q.g:=⟨l,r,h2,hqf⟩
  have Ob:r.cl q.g:=h.1.sub l r _ h2 hqf
  have nU:=Iz w q.g (Bp cu.toList ((q.o+j)*e.size) es).toArray
  have mj: ∀c,c≠q.g->(w.setRow q.g (Bp cu.toList ((q.o+j)*e.size) es).toArray).heap[c]?=w.heap[c]?:= λc hc=>setRow_other w q.g c _ hc
  refine ⟨_,by simp only [Instr.storeAt,Instr.sureAddr];rw [SF];simpa using Po,?_⟩
  have YQ:(st.Gk l (.Ao e te (rows.set i ((rows.getD i []).set j x)) none kp))= {tmps:=st.tmps.map (·.map λc=>c),heap:=Ys st.heap l (.Ao e te (rows.set i ((rows.getD i []).set j x)) none kp)} :=by
   unfold St.Gk
   congr 1
   exact ((List.map_congr_left λc _=>AC.map_id c).trans (List.map_id'' (λ_=>rfl) st.tmps)).symm
  rw [YQ]
  have o0: ∀k r0 c,π k=some r0->r0.cl c->k≠l->c≠q.g:= λk r0 c hk hc Et e=>Et (h.1.inj k l r0 r c hk h2 hc (e▸Ob))
  refine h.jl rfl (gv:= λc=>c=q.g) (λc hc=>hc▸hqo) ⟨nU.os,nU.tape,nU.output,nU.size,λc _ hc=>mj c hc⟩ (λ_ _ ho=>ho) h.1.sub (λk r0 c hk hc=>⟨(h.1.place k r0 c hk hc).1,Nat.lt_of_lt_of_le (h.1.place k r0 c hk hc).2 nU.size⟩) h.1.inj
   (λk hk Et=>h.1.dv k hk λh0=>Et ?_) (λhc=>GG hl (by simp) hc λk r0 b0 g1 g2 g3=>mj _ λe=>?_) (λm k b0 hk=>?_) (λk hk=>?_)
  ·have:k≠l:= λe=>by subst e;rw [hl] at h0;cases h0
   rw [Cr _ _ _ _ this];exact h0
  ·by_cases Hx:k=l
   ·subst Hx;rw [h2] at g3;cases g3;exact hqg e.symm
   ·exact o0 k r0 _ g3 (h.1.sub k r0 _ g3 (h.1.Bc g3)) Hx e
  ·by_cases Hx:k=l
   ·subst Hx
    rw [Cw _ _ _ _ hl] at hk;cases hk
    show cr X _ π (π k) e _ none kp
    rw [h2]
    refine ⟨⟨b1,cur,ti,(mj _ (Ne.symm hqg)).trans b2,b3,b4,by simpa using b5,Rs,by simpa using b6,b7,b8,λi' y hy _=>?_⟩,(h2▸nY).Cz λq' fy=>by cases fy;exact mj _ (Ne.symm hqg)⟩
    rw [List.getElem?_set] at hy
    split at hy
    ·rename_i hii;subst hii
     have hy:=Option.some.inj hy
     subst hy
     refine ⟨_,some q,k1,k2,⟨_,by rw [List.length_set],by simpa using g1,λ_=>rfl⟩,?_⟩
     refine ⟨f1,_,_,setRow_heap w q.g cu _ QU _ f2,by rw [List.size_toArray,Ey _ _ _ Ti,Array.length_toList];exact f3,f4,by simpa using f5,λj' y hy=>?_⟩
     rw [List.getElem?_set] at hy
     split at hy
     ·rename_i hjj;subst hjj
      have hy:=Option.some.inj hy
      subst hy
      refine ⟨es,iS,λp v yZ=>?_,m.cells false e es x ao⟩
      have hp:p<es.length:=(List.getElem?_eq_some_iff.1 yZ).1
      rw [List.getElem?_toArray,Ei _ _ _ _ Ti,if_neg (by omega),if_pos (by omega)]
      rw [show (q.o+j)*e.size+p-(q.o+j)*e.size=p by omega];exact yZ
     ·rename_i hjj
      obtain ⟨jG,GH,fw,wS⟩:=f6 j' y hy
      refine ⟨jG,GH,λp v yZ=>?_,m.cells false e jG y wS⟩
      have hp:p<jG.length:=(List.getElem?_eq_some_iff.1 yZ).1
      have:=fw p v yZ
      rw [List.getElem?_toArray,Ei _ _ _ _ Ti]
      rcases cy (o:=q.o) (i:=j') (j:=j) (s:=e.size) (p:=p) (λe=>hjj e.symm) (by omega) with Hm|pY
      ·rw [if_pos Hm];simpa using this
      ·rw [if_neg (by omega),if_neg (by omega)];simpa using this
    ·rename_i hii
     obtain ⟨u',R',q1,q2,q3,q4⟩:=b9 i' y hy (by simp)
     refine ⟨u',R',q1,q2,q3,q4.to (λq' fy=>mj _ λe=>hii ?_) λes y hc=>m.cells false e es y hc⟩
     subst fy
     exact b8 i i' q q' k2 q2 e.symm
   ·rw [Cr _ _ _ _ Hx] at hk
    have:=((h.1.heap k).Na hk).move m nU.size (λr0 c h0 h1=>h.1.sub _ r0 c h0 h1) λr0 c h0 h1 _=>mj c (o0 k r0 c h0 h1 Hx)
    cases b0 with
    |var tid vs=>simpa [OB.map] using this
    |_=>exact this
  ·have Hx:k≠l:= λe=>by subst e;rw [Cw _ _ _ _ hl] at hk;cases hk
   rw [Cr _ _ _ _ Hx] at hk
   exact (h.1.heap k).emp hk
end
end Go.Proofs.Ytjbdmibbbpdnnaa
