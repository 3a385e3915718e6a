/-
  Part 18 of the proof that the statement FnExactSolveIDAStar holds.
-/
import Derived.Test.YtfgfigkbgecfnaaGreatCSolveIDAStar16
namespace Go.Proofs.YtfgfigkbgecfnaaGreat
open Go.RowKit
section
variable {P:Program} {T:Tab} {X:Ctx} {w w':World} {π π':Pi} {H H':List (Nat×OB)}
theorem XN {l:Nat} {e:Ty} {te:TypeId} {rows LO:List (List e.den)} {out iS:Option Nat} {kp:Option (Nat×Nat)} (hl:Au H l=some (.Bp e te rows out kp)) (hn:LO.length=rows.length)
  (hc: ∀fr τ cs x,Cells w (Dd X.w0.heap.size X.Sc π fr) τ cs x->Cells w' (Dd X.w0.heap.size X.Sc π fr) τ cs x)
  (hg: ∀k r b,Au H k=some b->b.iu≠none->π k=some r->w'.heap[r.g]?=w.heap[r.g]?): ∀c v,Hk X w π H c v->Hk X w' π (aY H l (.Bp e te LO iS kp)) c v:=by
 have bj: ∀k b,Au H k=some b-> ∃b',Au (aY H l (.Bp e te LO iS kp)) k=some b'/\b'.row=b.row/\b'.iu=b.iu/\b'.xO=b.xO/\(∀tid vs,b= .var tid vs->b'=b)/\ ∀v m,b= .Wo v m->b'=b:= λk b hb=>by
  by_cases e:k=l
  ·subst e
   rw [hl] at hb;cases hb
   exact ⟨_,Ew _ _ _ _ hl,by simp [OB.row,hn],by simp [OB.iu,hn],by simp [OB.xO,hn],(λ_ _ h=>by cases h),(λ_ _ h=>by cases h)⟩
  ·exact ⟨b,(Ee _ _ _ _ e).trans hb,rfl,rfl,rfl,λ_ _ _=>rfl,λ_ _ _=>rfl⟩
 intro c v h
 cases c with
 |data fr τ x=>obtain ⟨cs,h1,h2⟩:=h;exact ⟨cs,hc _ _ _ _ h1,h2⟩
 |own k off len=>
  obtain ⟨b,sz,n,h1,h0,h2,h3⟩:=h
  obtain ⟨b',g1,g2,_⟩:=bj k b h1
  exact ⟨b',sz,n,g1,g2.trans h0,h2,h3⟩
 |Gy k i=>
  obtain ⟨r,tid,vs,h1,h2,h3⟩:=h
  obtain ⟨b',g1,_,_,_,g2,_⟩:=bj k _ h1
  rw [g2 tid vs rfl] at g1
  exact ⟨r,tid,vs,g1,h2,h3⟩
 |Kh k i=>
  obtain ⟨r,b,sz,n,h1,h0,h2,h3,h4⟩:=h
  obtain ⟨b',g1,g2,_⟩:=bj k b h1
  exact ⟨r,b',sz,n,g1,g2.trans h0,h2,h3,h4⟩
 |sub k i c=>
  obtain ⟨r,b,sz,n,h1,h0,h2,h3,h4,h5⟩:=h
  obtain ⟨b',g1,_,g2,_⟩:=bj k b h1
  exact ⟨r,b',sz,n,g1,g2.trans h0,h2,h3,h4,by rw [World.cell?_of_block (hg k r b h1 (by rw [h0];simp) h2)];exact h5⟩
 |Kd k i c=>
  obtain ⟨r,b,n,sz,g,o,len,cap,h1,h0,h2,h3,h4,h5,h6⟩:=h
  obtain ⟨b',g1,_,_,g2,_⟩:=bj k b h1
  exact ⟨r,b',n,sz,g,o,len,cap,g1,g2.trans h0,h2,h3,h4,by rw [World.cell?_of_block (hg k r b h1 (by cases b<;>first|(cases h0;done)|simp [OB.iu]) h2)];exact h5,h6⟩
 |clo f Eg=>
  obtain ⟨us,h1,h2,h3⟩:=h
  refine ⟨us,h1,h2,λj p hp=>?_⟩
  obtain ⟨r,tid,vs,h4,h5,h6⟩:=h3 j p hp
  obtain ⟨b',g1,_,_,_,g2,_⟩:=bj p.1 _ h4
  rw [g2 tid vs rfl] at g1
  exact ⟨r,tid,vs,g1,h5,h6⟩
 |Kr k=>
  obtain ⟨r,vt,m,h1,h2,h3⟩:=h
  obtain ⟨b',g1,_,_,_,_,g2⟩:=bj k _ h1
  rw [g2 vt m rfl] at g1
  exact ⟨r,vt,m,g1,h2,h3⟩
 |_=>exact h
theorem FD (hT:Ed P T) {st:St} {a:Act} (h:Bk X π st a w) {t:TypeId} {e:Ty} (ht:T.ty t=some e) {l i j:Nat} {te:TypeId} {rows:List (List e.den)} {kp:Option (Nat×Nat)} (hl:Au st.heap l=some (.Bp e te rows none kp))
  {vp vx:Value} {fr:Bool} {x:e.den} (hp:Hk X w π st.heap (.Kd l i j) vp) (hx:Cw w (Dd X.w0.heap.size X.Sc π fr) e vx x) (IN:fr=false):
  ∃w',(Instr.storeAt t vp vx).run P w= .ok () w'/\Bk X π (st.Kc l (.Bp e te (rows.set i ((rows.getD i []).set j x)) none kp)) a w':=by
 subst IN
 obtain ⟨r,b,n,sz,g,o,len,cap,h1,h0,h2,h3,h4,h5,rfl⟩:=hp
 rw [hl] at h1;cases h1
 simp only [OB.xO,Aa,Ae] at h0
 obtain ⟨rfl,rfl⟩:=h0
 have hb:=(h.1.heap l).Qs hl
 simp only [Cm] at hb
 obtain ⟨hb,vF⟩:=hb
 rw [h2] at hb
 obtain ⟨b1,cur,ti,b2,b3,b4,b5,Rs,b6,b7,b8,b9⟩:=hb
 have La:rows[i]?=some (rows.getD i []):=by rw [Aj,Ac h3];rfl
 obtain ⟨u,R,k1,k2,k3,k4⟩:=b9 i _ La (by simp)
 rw [cellOf b2,k1] at h5
 have hu:=Ba h5
 subst hu
 cases R with
 |none=>obtain ⟨hh,_⟩:=k3;cases hh
 |some q=>
  obtain ⟨ad,hh,g1,g2⟩:=k3
  simp only [Value.slice.injEq,Aa] at hh
  obtain ⟨rfl,rfl,rfl⟩:=hh
  have PS:=g2 (by omega)
  simp only [Addr.mk.injEq,Ow] at PS
  obtain ⟨rfl,rfl⟩:=PS
  obtain ⟨f1,cu,ti',f2,f3,f4,f5,f6⟩:=k4
  obtain ⟨hqf,hqg⟩:=b7 i q k2
  obtain ⟨es,iW,hv⟩:=hx
  have m9:=Cells.len e es x iW
  have Ahe:(q.o+0)*e.size+j*e.size=(q.o+j)*e.size:=by rw [Fk,<-Df]
  have Yw:(q.o+j)*e.size+es.length<=cu.size:=by
   have:(q.o+j+1)*e.size<=(q.o+q.cap)*e.size:=Ey _ (by omega)
   rw [Df (q.o+j) 1,Sz] at this
   omega
  have az:(q.o+j)*e.size+es.length<=cu.toList.length:=by simpa using Yw
  have Vl:=Xl (P:=P) (w:=w) (hT.ty _ _ ht) q.g ((q.o+j)*e.size) vx es (by rw [hv];exact Lc e es x iW) m9 (Cells.plain e es x iW) cu ti' f2 Yw
  have hqo:Ux π q.g:=⟨l,r,h2,hqf⟩
  have Ox:r.cl q.g:=h.1.sub l r _ h2 hqf
  have vA:=Nw w q.g (Ea cu.toList ((q.o+j)*e.size) es).toArray
  have sZ: ∀c,c≠q.g->(w.setRow q.g (Ea cu.toList ((q.o+j)*e.size) es).toArray).heap[c]?=w.heap[c]?:= λc hc=>setRow_other w q.g c _ hc
  refine ⟨_,by simp only [Instr.storeAt,Instr.sureAddr];rw [Ahe];simpa using Vl,?_⟩
  have Aml:(st.Kc l (.Bp e te (rows.set i ((rows.getD i []).set j x)) none kp))= {tmps:=st.tmps.map (·.map λc=>c),heap:=aY st.heap l (.Bp e te (rows.set i ((rows.getD i []).set j x)) none kp)} :=by
   unfold St.Kc
   congr 1
   exact ((Ev λc _=>AC.map_id c).trans (List.map_id'' (λ_=>rfl) st.tmps)).symm
  rw [Aml]
  have vH: ∀k r0 c,π k=some r0->r0.cl c->k≠l->c≠q.g:= λk r0 c hk hc Ih e=>Ih (h.1.inj k l r0 r c hk h2 hc (e▸Ox))
  refine h.pd rfl (gv:= λc=>c=q.g) (λc hc=>hc▸hqo) ⟨vA.os,vA.tape,vA.output,vA.size,λc _ hc=>sZ c hc⟩ (λ_ _ ho=>ho) h.1.sub (λk r0 c hk hc=>⟨(h.1.place k r0 c hk hc).1,Dk (h.1.place k r0 c hk hc).2 vA.size⟩) h.1.inj
   (λk hk Ih=>h.1.iY k hk λh0=>Ih ?_) (λhc=>XN hl (by simp) hc λk r0 b0 g1 g2 g3=>sZ _ λe=>?_) (λm k b0 hk=>?_) (λk hk=>?_)
  ·have:k≠l:= λe=>by subst e;rw [hl] at h0;cases h0
   rw [Ee _ _ _ _ this];exact h0
  ·by_cases Rz:k=l
   ·subst Rz;rw [h2] at g3;cases g3;exact hqg e.symm
   ·exact vH k r0 _ g3 (h.1.sub k r0 _ g3 (h.1.Cx g3)) Rz e
  ·by_cases Rz:k=l
   ·subst Rz
    rw [Ew _ _ _ _ hl] at hk;cases hk
    show j5 X _ π (π k) e _ none kp
    rw [h2]
    refine ⟨⟨b1,cur,ti,(sZ _ (Gl hqg)).trans b2,b3,b4,by simpa using b5,Rs,by simpa using b6,b7,b8,λi' y hy _=>?_⟩,(h2▸vF).Fg λq' lI=>by cases lI;exact sZ _ (Gl hqg)⟩
    rw [Fo] at hy
    split at hy
    ·rename_i hii;subst hii
     have hy:=Ba hy
     subst hy
     refine ⟨_,some q,k1,k2,⟨_,by rw [Bj],by simpa using g1,λ_=>rfl⟩,?_⟩
     refine ⟨f1,_,_,setRow_heap w q.g cu _ ti' _ f2,by rw [Gw,Jb _ _ _ az,Nt];exact f3,f4,by simpa using f5,λj' y hy=>?_⟩
     rw [Fo] at hy
     split at hy
     ·rename_i hjj;subst hjj
      have hy:=Ba hy
      subst hy
      refine ⟨es,m9,λp v xS=>?_,m.cells false e es x iW⟩
      have hp:p<es.length:=(An.1 xS).1
      rw [Im,Ik _ _ _ _ az,Ag (by omega),Ab (by omega)]
      rw [show (q.o+j)*e.size+p-(q.o+j)*e.size=p by omega];exact xS
     ·rename_i hjj
      obtain ⟨pV,he',oE,II⟩:=f6 j' y hy
      refine ⟨pV,he',λp v xS=>?_,m.cells false e pV y II⟩
      have hp:p<pV.length:=(An.1 xS).1
      have:=oE p v xS
      rw [Im,Ik _ _ _ _ az]
      rcases jc (o:=q.o) (i:=j') (j:=j) (s:=e.size) (p:=p) (λe=>hjj e.symm) (by omega) with Iz|pX
      ·rw [Ab Iz];simpa using this
      ·rw [Ag (by omega),Ag (by omega)];simpa using this
    ·rename_i hii
     obtain ⟨u',R',q1,q2,q3,q4⟩:=b9 i' y hy (by simp)
     refine ⟨u',R',q1,q2,q3,q4.to (λq' lI=>sZ _ λe=>hii ?_) λes y hc=>m.cells false e es y hc⟩
     subst lI
     exact b8 i i' q q' k2 q2 e.symm
   ·rw [Ee _ _ _ _ Rz] at hk
    have:=((h.1.heap k).Qs hk).move m vA.size (λr0 c h0 h1=>h.1.sub _ r0 c h0 h1) λr0 c h0 h1 _=>sZ c (vH k r0 c h0 h1 Rz)
    cases b0 with
    |var tid vs=>simpa [OB.map] using this
    |_=>exact this
  ·have Rz:k≠l:= λe=>by subst e;rw [Ew _ _ _ _ hl] at hk;cases hk
   rw [Ee _ _ _ _ Rz] at hk
   exact (h.1.heap k).emp hk
end
end Go.Proofs.YtfgfigkbgecfnaaGreat
