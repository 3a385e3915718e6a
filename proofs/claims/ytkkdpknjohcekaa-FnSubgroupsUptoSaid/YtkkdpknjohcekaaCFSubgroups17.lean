/-
  Part 18 of the proof that the statement FnSubgroups holds.
-/
import Derived.Test.YtkkdpknjohcekaaCFSubgroups16
namespace Go.Proofs.Ytkkdpknjohcekaa
open Go.RowKit
section
variable {P:Program} {T:Tab} {X:Ctx} {w w':World} {π π':Pi} {H H':List (Nat×OB)}
theorem TR {l:Nat} {e:Ty} {te:TypeId} {rows IC:List (List e.den)} {out ij:Option Nat} {kp:Option (Nat×Nat)} (hl:Aw H l=some (.Bo e te rows out kp)) (hn:IC.length=rows.length)
  (hc: ∀fr τ cs x,Cells w (De X.w0.heap.size X.Sc π fr) τ cs x->Cells w' (De X.w0.heap.size X.Sc π fr) τ cs x)
  (hg: ∀k r b,Aw H k=some b->b.gK≠none->π k=some r->w'.heap[r.g]?=w.heap[r.g]?): ∀c v,Hj X w π H c v->Hj X w' π (ay H l (.Bo e te IC ij kp)) c v:=by
 have Ss: ∀k b,Aw H k=some b-> ∃b',Aw (ay H l (.Bo e te IC ij kp)) k=some b'/\b'.row=b.row/\b'.gK=b.gK/\b'.vZ=b.vZ/\(∀tid vs,b= .var tid vs->b'=b)/\ ∀v m,b= .Vq v m->b'=b:= λk b hb=>by
  by_cases e:k=l
  ·subst e
   rw [hl] at hb;cases hb
   exact ⟨_,Fb _ _ _ _ hl,by simp [OB.row,hn],by simp [OB.gK,hn],by simp [OB.vZ,hn],(λ_ _ h=>by cases h),(λ_ _ h=>by cases h)⟩
  ·exact ⟨b,(Eg _ _ _ _ e).trans hb,rfl,rfl,rfl,λ_ _ _=>rfl,λ_ _ _=>rfl⟩
 intro c v h
 cases c with
 |data fr τ x=>obtain ⟨cs,h1,h2⟩:=h;exact ⟨cs,hc _ _ _ _ h1,h2⟩
 |own k off len=>
  obtain ⟨b,sz,n,h1,h0,h2,h3⟩:=h
  obtain ⟨b',g1,g2,_⟩:=Ss k b h1
  exact ⟨b',sz,n,g1,g2.trans h0,h2,h3⟩
 |He k i=>
  obtain ⟨r,tid,vs,h1,h2,h3⟩:=h
  obtain ⟨b',g1,_,_,_,g2,_⟩:=Ss k _ h1
  rw [g2 tid vs rfl] at g1
  exact ⟨r,tid,vs,g1,h2,h3⟩
 |Jv k i=>
  obtain ⟨r,b,sz,n,h1,h0,h2,h3,h4⟩:=h
  obtain ⟨b',g1,g2,_⟩:=Ss k b h1
  exact ⟨r,b',sz,n,g1,g2.trans h0,h2,h3,h4⟩
 |sub k i c=>
  obtain ⟨r,b,sz,n,h1,h0,h2,h3,h4,h5⟩:=h
  obtain ⟨b',g1,_,g2,_⟩:=Ss k b h1
  exact ⟨r,b',sz,n,g1,g2.trans h0,h2,h3,h4,by rw [World.cell?_of_block (hg k r b h1 (by rw [h0];simp) h2)];exact h5⟩
 |Js k i c=>
  obtain ⟨r,b,n,sz,g,o,len,cap,h1,h0,h2,h3,h4,h5,h6⟩:=h
  obtain ⟨b',g1,_,_,g2,_⟩:=Ss k b h1
  exact ⟨r,b',n,sz,g,o,len,cap,g1,g2.trans h0,h2,h3,h4,by rw [World.cell?_of_block (hg k r b h1 (by cases b<;>first|(cases h0;done)|simp [OB.gK]) h2)];exact h5,h6⟩
 |clo f Ek=>
  obtain ⟨us,h1,h2,h3⟩:=h
  refine ⟨us,h1,h2,λj p hp=>?_⟩
  obtain ⟨r,tid,vs,h4,h5,h6⟩:=h3 j p hp
  obtain ⟨b',g1,_,_,_,g2,_⟩:=Ss p.1 _ h4
  rw [g2 tid vs rfl] at g1
  exact ⟨r,tid,vs,g1,h5,h6⟩
 |Kh k=>
  obtain ⟨r,vt,m,h1,h2,h3⟩:=h
  obtain ⟨b',g1,_,_,_,_,g2⟩:=Ss k _ h1
  rw [g2 vt m rfl] at g1
  exact ⟨r,vt,m,g1,h2,h3⟩
 |_=>exact h
theorem BU (hT:Ef P T) {st:St} {a:Act} (h:Bl X π st a w) {t:TypeId} {e:Ty} (ht:T.ty t=some e) {l i j:Nat} {te:TypeId} {rows:List (List e.den)} {kp:Option (Nat×Nat)} (hl:Aw st.heap l=some (.Bo e te rows none kp))
  {vp vx:Value} {fr:Bool} {x:e.den} (hp:Hj X w π st.heap (.Js l i j) vp) (hx:Da w (De X.w0.heap.size X.Sc π fr) e vx x) (FJ:fr=false):
  ∃w',(Instr.storeAt t vp vx).run P w= .ok () w'/\Bl X π (st.Jr l (.Bo e te (rows.set i ((rows.getD i []).set j x)) none kp)) a w':=by
 subst FJ
 obtain ⟨r,b,n,sz,g,o,len,cap,h1,h0,h2,h3,h4,h5,rfl⟩:=hp
 rw [hl] at h1;cases h1
 simp only [OB.vZ,Aa,Ah] at h0
 obtain ⟨rfl,rfl⟩:=h0
 have hb:=(h.1.heap l).Rc hl
 simp only [Cn] at hb
 obtain ⟨hb,tF⟩:=hb
 rw [h2] at hb
 obtain ⟨b1,cur,ti,b2,b3,b4,b5,Rs,b6,b7,b8,b9⟩:=hb
 have Ka:rows[i]?=some (rows.getD i []):=by rw [Al,Ad h3];rfl
 obtain ⟨u,R,k1,k2,k3,k4⟩:=b9 i _ Ka (by simp)
 rw [cellOf b2,k1] at h5
 have hu:=Bd h5
 subst hu
 cases R with
 |none=>obtain ⟨hh,_⟩:=k3;cases hh
 |some q=>
  obtain ⟨ad,hh,g1,g2⟩:=k3
  simp only [Value.slice.injEq,Aa] at hh
  obtain ⟨rfl,rfl,rfl⟩:=hh
  have ZI:=g2 (by omega)
  simp only [Addr.mk.injEq,Oa] at ZI
  obtain ⟨rfl,rfl⟩:=ZI
  obtain ⟨f1,cu,ti',f2,f3,f4,f5,f6⟩:=k4
  obtain ⟨hqf,hqg⟩:=b7 i q k2
  obtain ⟨es,fv,hv⟩:=hx
  have ll:=Cells.len e es x fv
  have Aez:(q.o+0)*e.size+j*e.size=(q.o+j)*e.size:=by rw [Dv,<-Dh]
  have Xv:(q.o+j)*e.size+es.length<=cu.size:=by
   have:(q.o+j+1)*e.size<=(q.o+q.cap)*e.size:=Et _ (by omega)
   rw [Dh (q.o+j) 1,Rx] at this
   omega
  have Zt:(q.o+j)*e.size+es.length<=cu.toList.length:=by simpa using Xv
  have Vo:=Wp (P:=P) (w:=w) (hT.ty _ _ ht) q.g ((q.o+j)*e.size) vx es (by rw [hv];exact Kw e es x fv) ll (Cells.plain e es x fv) cu ti' f2 Xv
  have hqo:Vu π q.g:=⟨l,r,h2,hqf⟩
  have Qf:r.cl q.g:=h.1.sub l r _ h2 hqf
  have tA:=Nd w q.g (Dw cu.toList ((q.o+j)*e.size) es).toArray
  have rU: ∀c,c≠q.g->(w.setRow q.g (Dw cu.toList ((q.o+j)*e.size) es).toArray).heap[c]?=w.heap[c]?:= λc hc=>setRow_other w q.g c _ hc
  refine ⟨_,by simp only [Instr.storeAt,Instr.sureAddr];rw [Aez];simpa using Vo,?_⟩
  have Ajw:(st.Jr l (.Bo e te (rows.set i ((rows.getD i []).set j x)) none kp))= {tmps:=st.tmps.map (·.map λc=>c),heap:=ay st.heap l (.Bo e te (rows.set i ((rows.getD i []).set j x)) none kp)} :=by
   unfold St.Jr
   congr 1
   exact ((Gj λc _=>AC.map_id c).trans (List.map_id'' (λ_=>rfl) st.tmps)).symm
  rw [Ajw]
  have tG: ∀k r0 c,π k=some r0->r0.cl c->k≠l->c≠q.g:= λk r0 c hk hc Ig e=>Ig (h.1.inj k l r0 r c hk h2 hc (e▸Qf))
  refine h.oD rfl (gv:= λc=>c=q.g) (λc hc=>hc▸hqo) ⟨tA.os,tA.tape,tA.output,tA.size,λc _ hc=>rU c hc⟩ (λ_ _ ho=>ho) h.1.sub (λk r0 c hk hc=>⟨(h.1.place k r0 c hk hc).1,El (h.1.place k r0 c hk hc).2 tA.size⟩) h.1.inj
   (λk hk Ig=>h.1.iu k hk λh0=>Ig ?_) (λhc=>TR hl (by simp) hc λk r0 b0 g1 g2 g3=>rU _ λe=>?_) (λm k b0 hk=>?_) (λk hk=>?_)
  ·have:k≠l:= λe=>by subst e;rw [hl] at h0;cases h0
   rw [Eg _ _ _ _ this];exact h0
  ·by_cases My:k=l
   ·subst My;rw [h2] at g3;cases g3;exact hqg e.symm
   ·exact tG k r0 _ g3 (h.1.sub k r0 _ g3 (h.1.Cz g3)) My e
  ·by_cases My:k=l
   ·subst My
    rw [Fb _ _ _ _ hl] at hk;cases hk
    show iz X _ π (π k) e _ none kp
    rw [h2]
    refine ⟨⟨b1,cur,ti,(rU _ (Gb hqg)).trans b2,b3,b4,by simpa using b5,Rs,by simpa using b6,b7,b8,λi' y hy _=>?_⟩,(h2▸tF).Fm λq' gJ=>by cases gJ;exact rU _ (Gb hqg)⟩
    rw [Em] at hy
    split at hy
    ·rename_i hii;subst hii
     have hy:=Bd hy
     subst hy
     refine ⟨_,some q,k1,k2,⟨_,by rw [Bv],by simpa using g1,λ_=>rfl⟩,?_⟩
     refine ⟨f1,_,_,setRow_heap w q.g cu _ ti' _ f2,by rw [Gv,Io _ _ _ Zt,Xg];exact f3,f4,by simpa using f5,λj' y hy=>?_⟩
     rw [Em] at hy
     split at hy
     ·rename_i hjj;subst hjj
      have hy:=Bd hy
      subst hy
      refine ⟨es,ll,λp v tJ=>?_,m.cells false e es x fv⟩
      have hp:p<es.length:=(Ao.1 tJ).1
      rw [Hy,Hx _ _ _ _ Zt,Ak (by omega),Ab (by omega)]
      rw [show (q.o+j)*e.size+p-(q.o+j)*e.size=p by omega];exact tJ
     ·rename_i hjj
      obtain ⟨nD,TS,ng,xp⟩:=f6 j' y hy
      refine ⟨nD,TS,λp v tJ=>?_,m.cells false e nD y xp⟩
      have hp:p<nD.length:=(Ao.1 tJ).1
      have:=ng p v tJ
      rw [Hy,Hx _ _ _ _ Zt]
      rcases iF (o:=q.o) (i:=j') (j:=j) (s:=e.size) (p:=p) (λe=>hjj e.symm) (by omega) with Jc|oY
      ·rw [Ab Jc];simpa using this
      ·rw [Ak (by omega),Ak (by omega)];simpa using this
    ·rename_i hii
     obtain ⟨u',R',q1,q2,q3,q4⟩:=b9 i' y hy (by simp)
     refine ⟨u',R',q1,q2,q3,q4.to (λq' gJ=>rU _ λe=>hii ?_) λes y hc=>m.cells false e es y hc⟩
     subst gJ
     exact b8 i i' q q' k2 q2 e.symm
   ·rw [Eg _ _ _ _ My] at hk
    have:=((h.1.heap k).Rc hk).move m tA.size (λr0 c h0 h1=>h.1.sub _ r0 c h0 h1) λr0 c h0 h1 _=>rU c (tG k r0 c h0 h1 My)
    cases b0 with
    |var tid vs=>simpa [OB.map] using this
    |_=>exact this
  ·have My:k≠l:= λe=>by subst e;rw [Fb _ _ _ _ hl] at hk;cases hk
   rw [Eg _ _ _ _ My] at hk
   exact (h.1.heap k).emp hk
end
end Go.Proofs.Ytkkdpknjohcekaa
