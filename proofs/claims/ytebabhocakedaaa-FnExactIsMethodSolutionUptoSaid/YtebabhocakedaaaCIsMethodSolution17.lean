/-
  Part 18 of the proof that the statement FnExactIsMethodSolution holds.
-/
import Derived.Test.YtebabhocakedaaaCIsMethodSolution16
namespace Go.Proofs.Ytebabhocakedaaa
open Go.RowKit
section
variable {P:Program} {T:Tab} {X:Ctx} {w w':World} {π π':Pi} {H H':List (Nat×OB)}
theorem Ayt {l:Nat} {e:Ty} {te:TypeId} {rows rows':List (List e.den)} {out out':Option Nat} {kp:Option (Nat×Nat)} (hl:Ac H l=some (.grid e te rows out kp)) (hn:rows'.length=rows.length)
  (hc: ∀fr τ cs x,Cells w (Bb X.w0.heap.size X.Sc π fr) τ cs x→Cells w' (Bb X.w0.heap.size X.Sc π fr) τ cs x)
  (hg: ∀k r b,Ac H k=some b→b.inn≠none→π k=some r→w'.heap[r.g]?=w.heap[r.g]?): ∀c v,Df X w π H c v→Df X w' π (Tj H l (.grid e te rows' out' kp)) c v:=by
 have at': ∀k b,Ac H k=some b→ ∃b',Ac (Tj H l (.grid e te rows' out' kp)) k=some b'∧b'.row=b.row∧b'.inn=b.inn∧b'.gsz=b.gsz∧(∀tid vs,b= .var tid vs→b'=b)∧ ∀v m,b= .smp v m→b'=b:=fun k b hb=>by
  by_cases e:k=l
  ·subst e
   rw [hl] at hb;cases hb
   exact ⟨_,Cf _ _ _ _ hl,by simp [OB.row,hn],by simp [OB.inn,hn],by simp [OB.gsz,hn],(fun _ _ h=>by cases h),(fun _ _ h=>by cases h)⟩
  ·exact ⟨b,(Cb _ _ _ _ e).trans hb,rfl,rfl,rfl,fun _ _ _=>rfl,fun _ _ _=>rfl⟩
 intro c v h
 cases c with
 |data fr τ x=>obtain ⟨cs,h1,h2⟩:=h;exact ⟨cs,hc _ _ _ _ h1,h2⟩
 |own k off len=>
  obtain ⟨b,sz,n,h1,h0,h2,h3⟩:=h
  obtain ⟨b',g1,g2,_⟩:=at' k b h1
  exact ⟨b',sz,n,g1,g2.trans h0,h2,h3⟩
 |vptr k i=>
  obtain ⟨r,tid,vs,h1,h2,h3⟩:=h
  obtain ⟨b',g1,_,_,_,g2,_⟩:=at' k _ h1
  rw [g2 tid vs rfl] at g1
  exact ⟨r,tid,vs,g1,h2,h3⟩
 |eptr k i=>
  obtain ⟨r,b,sz,n,h1,h0,h2,h3,h4⟩:=h
  obtain ⟨b',g1,g2,_⟩:=at' k b h1
  exact ⟨r,b',sz,n,g1,g2.trans h0,h2,h3,h4⟩
 |sub k i c=>
  obtain ⟨r,b,sz,n,h1,h0,h2,h3,h4,h5⟩:=h
  obtain ⟨b',g1,_,g2,_⟩:=at' k b h1
  exact ⟨r,b',sz,n,g1,g2.trans h0,h2,h3,h4,by rw [World.cell?_of_block (hg k r b h1 (by rw [h0];simp) h2)];exact h5⟩
 |sptr k i c=>
  obtain ⟨r,b,n,sz,g,o,len,cap,h1,h0,h2,h3,h4,h5,h6⟩:=h
  obtain ⟨b',g1,_,_,g2,_⟩:=at' k b h1
  exact ⟨r,b',n,sz,g,o,len,cap,g1,g2.trans h0,h2,h3,h4,by rw [World.cell?_of_block (hg k r b h1 (by cases b<;>first|(cases h0;done)|simp [OB.inn]) h2)];exact h5,h6⟩
 |clo f caps=>
  obtain ⟨us,h1,h2,h3⟩:=h
  refine ⟨us,h1,h2,fun j p hp=>?_⟩
  obtain ⟨r,tid,vs,h4,h5,h6⟩:=h3 j p hp
  obtain ⟨b',g1,_,_,_,g2,_⟩:=at' p.1 _ h4
  rw [g2 tid vs rfl] at g1
  exact ⟨r,tid,vs,g1,h5,h6⟩
 |mapr k=>
  obtain ⟨r,vt,m,h1,h2,h3⟩:=h
  obtain ⟨b',g1,_,_,_,_,g2⟩:=at' k _ h1
  rw [g2 vt m rfl] at g1
  exact ⟨r,vt,m,g1,h2,h3⟩
 |_=>exact h
theorem Aqk (hT:Bt P T) {st:St} {a:Act} (h:Af X π st a w) {t:TypeId} {e:Ty} (ht:T.ty t=some e) {l i j:Nat} {te:TypeId} {rows:List (List e.den)} {kp:Option (Nat×Nat)} (hl:Ac st.heap l=some (.grid e te rows none kp))
  {vp vx:Value} {fr:Bool} {x:e.den} (hp:Df X w π st.heap (.sptr l i j) vp) (hx:Bc w (Bb X.w0.heap.size X.Sc π fr) e vx x) (hfr:fr=false):
  ∃w',(Instr.storeAt t vp vx).run P w= .ok () w'∧Af X π (st.Ew l (.grid e te (rows.set i ((rows.getD i []).set j x)) none kp)) a w':=by
 subst hfr
 obtain ⟨r,b,n,sz,g,o,len,cap,h1,h0,h2,h3,h4,h5,rfl⟩:=hp
 rw [hl] at h1;cases h1
 simp only [OB.gsz,Option.some.injEq,Prod.mk.injEq] at h0
 obtain ⟨rfl,rfl⟩:=h0
 have hb:=(h.1.heap l).blk hl
 simp only [Aq] at hb
 obtain ⟨hb,hkp⟩:=hb
 rw [h2] at hb
 obtain ⟨b1,cur,ti,b2,b3,b4,b5,Rs,b6,b7,b8,b9⟩:=hb
 have hrow:rows[i]?=some (rows.getD i []):=by rw [List.getD_eq_getElem?_getD,List.getElem?_eq_getElem h3];rfl
 obtain ⟨u,R,k1,k2,k3,k4⟩:=b9 i _ hrow (by simp)
 rw [cellOf b2,k1] at h5
 have hu:=Option.some.inj h5
 subst hu
 cases R with
 |none=>obtain ⟨hh,_⟩:=k3;cases hh
 |some q=>
  obtain ⟨ad,hh,g1,g2⟩:=k3
  simp only [Value.slice.injEq,Option.some.injEq] at hh
  obtain ⟨rfl,rfl,rfl⟩:=hh
  have had:=g2 (by omega)
  simp only [Addr.mk.injEq,and_true] at had
  obtain ⟨rfl,rfl⟩:=had
  obtain ⟨f1,cu,ti',f2,f3,f4,f5,f6⟩:=k4
  obtain ⟨hqf,hqg⟩:=b7 i q k2
  obtain ⟨es,hes,hv⟩:=hx
  have hel:=Cells.len e es x hes
  have hoff:(q.o+0)*e.size+j*e.size=(q.o+j)*e.size:=by rw [Nat.add_zero,←Nat.add_mul]
  have hfit:(q.o+j)*e.size+es.length≤cu.size:=by
   have:(q.o+j+1)*e.size≤(q.o+q.cap)*e.size:=Nat.mul_le_mul_right _ (by omega)
   rw [Nat.add_mul (q.o+j) 1,Nat.one_mul] at this
   omega
  have hfit':(q.o+j)*e.size+es.length≤cu.toList.length:=by simpa using hfit
  have hrun:=Ml (P:=P) (w:=w) (hT.ty _ _ ht) q.g ((q.o+j)*e.size) vx es (by rw [hv];exact Fe e es x hes) hel (Cells.plain e es x hes) cu ti' f2 hfit
  have hqo:Own π q.g:=⟨l,r,h2,hqf⟩
  have hcl:r.cl q.g:=h.1.sub l r _ h2 hqf
  have hgr:=Gw w q.g (Bl cu.toList ((q.o+j)*e.size) es).toArray
  have hoth: ∀c,c≠q.g→(w.setRow q.g (Bl cu.toList ((q.o+j)*e.size) es).toArray).heap[c]?=w.heap[c]?:=fun c hc=>setRow_other w q.g c _ hc
  refine ⟨_,by simp only [Instr.storeAt,Instr.sureAddr];rw [hoff];simpa using hrun,?_⟩
  have hset:(st.Ew l (.grid e te (rows.set i ((rows.getD i []).set j x)) none kp))= {tmps:=st.tmps.map (·.map fun c=>c),heap:=Tj st.heap l (.grid e te (rows.set i ((rows.getD i []).set j x)) none kp)} :=by
   unfold St.Ew
   congr 1
   exact ((List.map_congr_left fun c _=>AC.map_id c).trans (List.map_id'' (fun _=>rfl) st.tmps)).symm
  rw [hset]
  have hnot: ∀k r0 c,π k=some r0→r0.cl c→k≠l→c≠q.g:=fun k r0 c hk hc hne e=>hne (h.1.inj k l r0 r c hk h2 hc (e▸hcl))
  refine h.Aeg rfl (gv:=fun c=>c=q.g) (fun c hc=>hc▸hqo) ⟨hgr.os,hgr.tape,hgr.output,hgr.size,fun c _ hc=>hoth c hc⟩ (fun _ _ ho=>ho) h.1.sub (fun k r0 c hk hc=>⟨(h.1.place k r0 c hk hc).1,Nat.lt_of_lt_of_le (h.1.place k r0 c hk hc).2 hgr.size⟩) h.1.inj
   (fun k hk hne=>h.1.pin k hk fun h0=>hne ?_) (fun hc=>Ayt hl (by simp) hc fun k r0 b0 g1 g2 g3=>hoth _ fun e=>?_) (fun m k b0 hk=>?_) (fun k hk=>?_)
  ·have:k≠l:=fun e=>by subst e;rw [hl] at h0;cases h0
   rw [Cb _ _ _ _ this];exact h0
  ·by_cases hkl:k=l
   ·subst hkl;rw [h2] at g3;cases g3;exact hqg e.symm
   ·exact hnot k r0 _ g3 (h.1.sub k r0 _ g3 (h.1.Av g3)) hkl e
  ·by_cases hkl:k=l
   ·subst hkl
    rw [Cf _ _ _ _ hl] at hk;cases hk
    show Xt X _ π (π k) e _ none kp
    rw [h2]
    refine ⟨⟨b1,cur,ti,(hoth _ (Ne.symm hqg)).trans b2,b3,b4,by simpa using b5,Rs,by simpa using b6,b7,b8,fun i' y hy _=>?_⟩,(h2▸hkp).Ch fun q' hq'=>by cases hq';exact hoth _ (Ne.symm hqg)⟩
    rw [List.getElem?_set] at hy
    split at hy
    ·rename_i hii;subst hii
     have hy:=Option.some.inj hy
     subst hy
     refine ⟨_,some q,k1,k2,⟨_,by rw [List.length_set],by simpa using g1,fun _=>rfl⟩,?_⟩
     refine ⟨f1,_,_,setRow_heap w q.g cu _ ti' _ f2,by rw [List.size_toArray,Dx _ _ _ hfit',Array.length_toList];exact f3,f4,by simpa using f5,fun j' y hy=>?_⟩
     rw [List.getElem?_set] at hy
     split at hy
     ·rename_i hjj;subst hjj
      have hy:=Option.some.inj hy
      subst hy
      refine ⟨es,hel,fun p v hv'=>?_,m.cells false e es x hes⟩
      have hp:p<es.length:=(List.getElem?_eq_some_iff.1 hv').1
      rw [List.getElem?_toArray,Dl _ _ _ _ hfit',if_neg (by omega),if_pos (by omega)]
      rw [show (q.o+j)*e.size+p-(q.o+j)*e.size=p by omega];exact hv'
     ·rename_i hjj
      obtain ⟨es',he',hk',hc'⟩:=f6 j' y hy
      refine ⟨es',he',fun p v hv'=>?_,m.cells false e es' y hc'⟩
      have hp:p<es'.length:=(List.getElem?_eq_some_iff.1 hv').1
      have:=hk' p v hv'
      rw [List.getElem?_toArray,Dl _ _ _ _ hfit']
      rcases Xw (o:=q.o) (i:=j') (j:=j) (s:=e.size) (p:=p) (fun e=>hjj e.symm) (by omega) with hlt|hge
      ·rw [if_pos hlt];simpa using this
      ·rw [if_neg (by omega),if_neg (by omega)];simpa using this
    ·rename_i hii
     obtain ⟨u',R',q1,q2,q3,q4⟩:=b9 i' y hy (by simp)
     refine ⟨u',R',q1,q2,q3,q4.to (fun q' hq'=>hoth _ fun e=>hii ?_) fun es y hc=>m.cells false e es y hc⟩
     subst hq'
     exact b8 i i' q q' k2 q2 e.symm
   ·rw [Cb _ _ _ _ hkl] at hk
    have:=((h.1.heap k).blk hk).move m hgr.size (fun r0 c h0 h1=>h.1.sub _ r0 c h0 h1) fun r0 c h0 h1 _=>hoth c (hnot k r0 c h0 h1 hkl)
    cases b0 with
    |var tid vs=>simpa [OB.map] using this
    |_=>exact this
  ·have hkl:k≠l:=fun e=>by subst e;rw [Cf _ _ _ _ hl] at hk;cases hk
   rw [Cb _ _ _ _ hkl] at hk
   exact (h.1.heap k).emp hk
end
end Go.Proofs.Ytebabhocakedaaa
