/-
  Part 18 of the proof that the statement FnBoundStatistics holds.
-/
import Derived.Test.YtkkdpknjohcekaaCFBoundStatistics16
namespace Go.Proofs.Ytkkdpknjohcekaa
open Go.RowKit
section
variable {P:Program} {T:Tab} {X:Ctx} {w w':World} {π π':Pi} {H H':List (Nat×OB)}
theorem SK {l:Nat} {e:Ty} {te:TypeId} {rows HB:List (List e.den)} {out gT:Option Nat} {kp:Option (Nat×Nat)} (hl:At H l=some (.Bl e te rows out kp)) (hn:HB.length=rows.length)
  (hc: ∀fr τ cs x,Cells w (Da X.w0.heap.size X.Sc π fr) τ cs x->Cells w' (Da X.w0.heap.size X.Sc π fr) τ cs x)
  (hg: ∀k r b,At H k=some b->b.gq≠none->π k=some r->w'.heap[r.g]?=w.heap[r.g]?): ∀c v,Hq X w π H c v->Hq X w' π (au H l (.Bl e te HB gT kp)) c v:=by
 have Zk: ∀k b,At H k=some b-> ∃b',At (au H l (.Bl e te HB gT kp)) k=some b'/\b'.row=b.row/\b'.gq=b.gq/\b'.vJ=b.vJ/\(∀tid vs,b= .var tid vs->b'=b)/\ ∀v m,b= .Vu v m->b'=b:= λk b hb=>by
  by_cases e:k=l
  ·subst e
   rw [hl] at hb;cases hb
   exact ⟨_,Er _ _ _ _ hl,by simp [OB.row,hn],by simp [OB.gq,hn],by simp [OB.vJ,hn],(λ_ _ h=>by cases h),(λ_ _ h=>by cases h)⟩
  ·exact ⟨b,(Ea _ _ _ _ e).trans hb,rfl,rfl,rfl,λ_ _ _=>rfl,λ_ _ _=>rfl⟩
 intro c v h
 cases c with
 |data fr τ x=>obtain ⟨cs,h1,h2⟩:=h;exact ⟨cs,hc _ _ _ _ h1,h2⟩
 |own k off len=>
  obtain ⟨b,sz,n,h1,h0,h2,h3⟩:=h
  obtain ⟨b',g1,g2,_⟩:=Zk k b h1
  exact ⟨b',sz,n,g1,g2.trans h0,h2,h3⟩
 |Hj k i=>
  obtain ⟨r,tid,vs,h1,h2,h3⟩:=h
  obtain ⟨b',g1,_,_,_,g2,_⟩:=Zk k _ h1
  rw [g2 tid vs rfl] at g1
  exact ⟨r,tid,vs,g1,h2,h3⟩
 |Kk k i=>
  obtain ⟨r,b,sz,n,h1,h0,h2,h3,h4⟩:=h
  obtain ⟨b',g1,g2,_⟩:=Zk k b h1
  exact ⟨r,b',sz,n,g1,g2.trans h0,h2,h3,h4⟩
 |sub k i c=>
  obtain ⟨r,b,sz,n,h1,h0,h2,h3,h4,h5⟩:=h
  obtain ⟨b',g1,_,g2,_⟩:=Zk k b h1
  exact ⟨r,b',sz,n,g1,g2.trans h0,h2,h3,h4,by rw [World.cell?_of_block (hg k r b h1 (by rw [h0];simp) h2)];exact h5⟩
 |Kh k i c=>
  obtain ⟨r,b,n,sz,g,o,len,cap,h1,h0,h2,h3,h4,h5,h6⟩:=h
  obtain ⟨b',g1,_,_,g2,_⟩:=Zk k b h1
  exact ⟨r,b',n,sz,g,o,len,cap,g1,g2.trans h0,h2,h3,h4,by rw [World.cell?_of_block (hg k r b h1 (by cases b<;>first|(cases h0;done)|simp [OB.gq]) h2)];exact h5,h6⟩
 |clo f Ee=>
  obtain ⟨us,h1,h2,h3⟩:=h
  refine ⟨us,h1,h2,λj p hp=>?_⟩
  obtain ⟨r,tid,vs,h4,h5,h6⟩:=h3 j p hp
  obtain ⟨b',g1,_,_,_,g2,_⟩:=Zk p.1 _ h4
  rw [g2 tid vs rfl] at g1
  exact ⟨r,tid,vs,g1,h5,h6⟩
 |Ks k=>
  obtain ⟨r,vt,m,h1,h2,h3⟩:=h
  obtain ⟨b',g1,_,_,_,_,g2⟩:=Zk k _ h1
  rw [g2 vt m rfl] at g1
  exact ⟨r,vt,m,g1,h2,h3⟩
 |_=>exact h
theorem AS (hT:Dz P T) {st:St} {a:Act} (h:Bh X π st a w) {t:TypeId} {e:Ty} (ht:T.ty t=some e) {l i j:Nat} {te:TypeId} {rows:List (List e.den)} {kp:Option (Nat×Nat)} (hl:At st.heap l=some (.Bl e te rows none kp))
  {vp vx:Value} {fr:Bool} {x:e.den} (hp:Hq X w π st.heap (.Kh l i j) vp) (hx:Cw w (Da X.w0.heap.size X.Sc π fr) e vx x) (EE:fr=false):
  ∃w',(Instr.storeAt t vp vx).run P w= .ok () w'/\Bh X π (st.Kg l (.Bl e te (rows.set i ((rows.getD i []).set j x)) none kp)) a w':=by
 subst EE
 obtain ⟨r,b,n,sz,g,o,len,cap,h1,h0,h2,h3,h4,h5,rfl⟩:=hp
 rw [hl] at h1;cases h1
 simp only [OB.vJ,Aa,Ae] at h0
 obtain ⟨rfl,rfl⟩:=h0
 have hb:=(h.1.heap l).Rp hl
 simp only [Cj] at hb
 obtain ⟨hb,tt⟩:=hb
 rw [h2] at hb
 obtain ⟨b1,cur,ti,b2,b3,b4,b5,Rs,b6,b7,b8,b9⟩:=hb
 have Kf:rows[i]?=some (rows.getD i []):=by rw [Ah,Ab h3];rfl
 obtain ⟨u,R,k1,k2,k3,k4⟩:=b9 i _ Kf (by simp)
 rw [cellOf b2,k1] at h5
 have hu:=Bb h5
 subst hu
 cases R with
 |none=>obtain ⟨hh,_⟩:=k3;cases hh
 |some q=>
  obtain ⟨ad,hh,g1,g2⟩:=k3
  simp only [Value.slice.injEq,Aa] at hh
  obtain ⟨rfl,rfl,rfl⟩:=hh
  have XW:=g2 (by omega)
  simp only [Addr.mk.injEq,On] at XW
  obtain ⟨rfl,rfl⟩:=XW
  obtain ⟨f1,cu,ti',f2,f3,f4,f5,f6⟩:=k4
  obtain ⟨hqf,hqg⟩:=b7 i q k2
  obtain ⟨es,gN,hv⟩:=hx
  have l4:=Cells.len e es x gN
  have Adi:(q.o+0)*e.size+j*e.size=(q.o+j)*e.size:=by rw [Ek,<-Dg]
  have Yk:(q.o+j)*e.size+es.length<=cu.size:=by
   have:(q.o+j+1)*e.size<=(q.o+q.cap)*e.size:=Ej _ (by omega)
   rw [Dg (q.o+j) 1,So] at this
   omega
  have Zw:(q.o+j)*e.size+es.length<=cu.toList.length:=by simpa using Yk
  have Vs:=Wu (P:=P) (w:=w) (hT.ty _ _ ht) q.g ((q.o+j)*e.size) vx es (by rw [hv];exact Ld e es x gN) l4 (Cells.plain e es x gN) cu ti' f2 Yk
  have hqo:Vy π q.g:=⟨l,r,h2,hqf⟩
  have Qk:r.cl q.g:=h.1.sub l r _ h2 hqf
  have tm:=Nu w q.g (Du cu.toList ((q.o+j)*e.size) es).toArray
  have rm: ∀c,c≠q.g->(w.setRow q.g (Du cu.toList ((q.o+j)*e.size) es).toArray).heap[c]?=w.heap[c]?:= λc hc=>setRow_other w q.g c _ hc
  refine ⟨_,by simp only [Instr.storeAt,Instr.sureAddr];rw [Adi];simpa using Vs,?_⟩
  have YU:(st.Kg l (.Bl e te (rows.set i ((rows.getD i []).set j x)) none kp))= {tmps:=st.tmps.map (·.map λc=>c),heap:=au st.heap l (.Bl e te (rows.set i ((rows.getD i []).set j x)) none kp)} :=by
   unfold St.Kg
   congr 1
   exact ((Eh λc _=>AC.map_id c).trans (List.map_id'' (λ_=>rfl) st.tmps)).symm
  rw [YU]
  have tv: ∀k r0 c,π k=some r0->r0.cl c->k≠l->c≠q.g:= λk r0 c hk hc Iv e=>Iv (h.1.inj k l r0 r c hk h2 hc (e▸Qk))
  refine h.nW rfl (gv:= λc=>c=q.g) (λc hc=>hc▸hqo) ⟨tm.os,tm.tape,tm.output,tm.size,λc _ hc=>rm c hc⟩ (λ_ _ ho=>ho) h.1.sub (λk r0 c hk hc=>⟨(h.1.place k r0 c hk hc).1,Eg (h.1.place k r0 c hk hc).2 tm.size⟩) h.1.inj
   (λk hk Iv=>h.1.gW k hk λh0=>Iv ?_) (λhc=>SK hl (by simp) hc λk r0 b0 g1 g2 g3=>rm _ λe=>?_) (λm k b0 hk=>?_) (λk hk=>?_)
  ·have:k≠l:= λe=>by subst e;rw [hl] at h0;cases h0
   rw [Ea _ _ _ _ this];exact h0
  ·by_cases Rl:k=l
   ·subst Rl;rw [h2] at g3;cases g3;exact hqg e.symm
   ·exact tv k r0 _ g3 (h.1.sub k r0 _ g3 (h.1.Cv g3)) Rl e
  ·by_cases Rl:k=l
   ·subst Rl
    rw [Er _ _ _ _ hl] at hk;cases hk
    show gZ X _ π (π k) e _ none kp
    rw [h2]
    refine ⟨⟨b1,cur,ti,(rm _ (Gb hqg)).trans b2,b3,b4,by simpa using b5,Rs,by simpa using b6,b7,b8,λi' y hy _=>?_⟩,(h2▸tt).Fb λq' gm=>by cases gm;exact rm _ (Gb hqg)⟩
    rw [Ds] at hy
    split at hy
    ·rename_i hii;subst hii
     have hy:=Bb hy
     subst hy
     refine ⟨_,some q,k1,k2,⟨_,by rw [Cf],by simpa using g1,λ_=>rfl⟩,?_⟩
     refine ⟨f1,_,_,setRow_heap w q.g cu _ ti' _ f2,by rw [Gt,Je _ _ _ Zw,Xu];exact f3,f4,by simpa using f5,λj' y hy=>?_⟩
     rw [Ds] at hy
     split at hy
     ·rename_i hjj;subst hjj
      have hy:=Bb hy
      subst hy
      refine ⟨es,l4,λp v EM=>?_,m.cells false e es x gN⟩
      have hp:p<es.length:=(An.1 EM).1
      rw [Ij,Ii _ _ _ _ Zw,Ak (by omega),Ac (by omega)]
      rw [show (q.o+j)*e.size+p-(q.o+j)*e.size=p by omega];exact EM
     ·rename_i hjj
      obtain ⟨mU,he',qn,xd⟩:=f6 j' y hy
      refine ⟨mU,he',λp v EM=>?_,m.cells false e mU y xd⟩
      have hp:p<mU.length:=(An.1 EM).1
      have:=qn p v EM
      rw [Ij,Ii _ _ _ _ Zw]
      rcases ie (o:=q.o) (i:=j') (j:=j) (s:=e.size) (p:=p) (λe=>hjj e.symm) (by omega) with Jr|oD
      ·rw [Ac Jr];simpa using this
      ·rw [Ak (by omega),Ak (by omega)];simpa using this
    ·rename_i hii
     obtain ⟨u',R',q1,q2,q3,q4⟩:=b9 i' y hy (by simp)
     refine ⟨u',R',q1,q2,q3,q4.to (λq' gm=>rm _ λe=>hii ?_) λes y hc=>m.cells false e es y hc⟩
     subst gm
     exact b8 i i' q q' k2 q2 e.symm
   ·rw [Ea _ _ _ _ Rl] at hk
    have:=((h.1.heap k).Rp hk).move m tm.size (λr0 c h0 h1=>h.1.sub _ r0 c h0 h1) λr0 c h0 h1 _=>rm c (tv k r0 c h0 h1 Rl)
    cases b0 with
    |var tid vs=>simpa [OB.map] using this
    |_=>exact this
  ·have Rl:k≠l:= λe=>by subst e;rw [Er _ _ _ _ hl] at hk;cases hk
   rw [Ea _ _ _ _ Rl] at hk
   exact (h.1.heap k).emp hk
end
end Go.Proofs.Ytkkdpknjohcekaa
