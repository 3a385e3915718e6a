/-
  Part 18 of the proof that the statement FnExactSolveTwoPhaseWithin holds.
-/
import Derived.Test.YtfgfigkbgecfnaaCSolveTwoPhaseWithin16
namespace Go.Proofs.Ytfgfigkbgecfnaa
open Go.RowKit
section
variable {P:Program} {T:Tab} {X:Ctx} {w w':World} {π π':Pi} {H H':List (Nat×OB)}
theorem UR {l:Nat} {e:Ty} {te:TypeId} {rows IY:List (List e.den)} {out iJ:Option Nat} {kp:Option (Nat×Nat)} (hl:Ay H l=some (.Ca e te rows out kp)) (hn:IY.length=rows.length)
  (hc: ∀fr τ cs x,Cells w (Dk X.w0.heap.size X.Sc π fr) τ cs x->Cells w' (Dk X.w0.heap.size X.Sc π fr) τ cs x)
  (hg: ∀k r b,Ay H k=some b->b.ic≠none->π k=some r->w'.heap[r.g]?=w.heap[r.g]?): ∀c v,Hw X w π H c v->Hw X w' π (aN H l (.Ca e te IY iJ kp)) c v:=by
 have Sb: ∀k b,Ay H k=some b-> ∃b',Ay (aN H l (.Ca e te IY iJ kp)) k=some b'/\b'.row=b.row/\b'.ic=b.ic/\b'.wE=b.wE/\(∀tid vs,b= .var tid vs->b'=b)/\ ∀v m,b= .Wl v m->b'=b:= λk b hb=>by
  by_cases e:k=l
  ·subst e;rw [hl] at hb;cases hb;exact ⟨_,Ff _ _ _ _ hl,by simp [OB.row,hn],by simp [OB.ic,hn],by simp [OB.wE,hn],(λ_ _ h=>by cases h),(λ_ _ h=>by cases h)⟩
  ·exact ⟨b,(Ej _ _ _ _ e).trans hb,rfl,rfl,rfl,λ_ _ _=>rfl,λ_ _ _=>rfl⟩
 intro c v h
 cases c with
 |data fr τ x=>obtain ⟨cs,h1,h2⟩:=h;exact ⟨cs,hc _ _ _ _ h1,h2⟩
 |own k off len=>
  obtain ⟨b,sz,n,h1,h0,h2,h3⟩:=h;obtain ⟨b',g1,g2,_⟩:=Sb k b h1;exact ⟨b',sz,n,g1,g2.trans h0,h2,h3⟩
 |Hs k i=>
  obtain ⟨r,tid,vs,h1,h2,h3⟩:=h;obtain ⟨b',g1,_,_,_,g2,_⟩:=Sb k _ h1;rw [g2 tid vs rfl] at g1;exact ⟨r,tid,vs,g1,h2,h3⟩
 |Kq k i=>
  obtain ⟨r,b,sz,n,h1,h0,h2,h3,h4⟩:=h;obtain ⟨b',g1,g2,_⟩:=Sb k b h1;exact ⟨r,b',sz,n,g1,g2.trans h0,h2,h3,h4⟩
 |sub k i c=>
  obtain ⟨r,b,sz,n,h1,h0,h2,h3,h4,h5⟩:=h;obtain ⟨b',g1,_,g2,_⟩:=Sb k b h1;exact ⟨r,b',sz,n,g1,g2.trans h0,h2,h3,h4,by rw [World.cell?_of_block (hg k r b h1 (by rw [h0];simp) h2)];exact h5⟩
 |Kl k i c=>
  obtain ⟨r,b,n,sz,g,o,len,cap,h1,h0,h2,h3,h4,h5,h6⟩:=h;obtain ⟨b',g1,_,_,g2,_⟩:=Sb k b h1
  exact ⟨r,b',n,sz,g,o,len,cap,g1,g2.trans h0,h2,h3,h4,by rw [World.cell?_of_block (hg k r b h1 (by cases b<;>first|(cases h0;done)|simp [OB.ic]) h2)];exact h5,h6⟩
 |clo f En=>
  obtain ⟨us,h1,h2,h3⟩:=h;refine ⟨us,h1,h2,λj p hp=>?_⟩;obtain ⟨r,tid,vs,h4,h5,h6⟩:=h3 j p hp;obtain ⟨b',g1,_,_,_,g2,_⟩:=Sb p.1 _ h4;rw [g2 tid vs rfl] at g1;exact ⟨r,tid,vs,g1,h5,h6⟩
 |Le k=>
  obtain ⟨r,vt,m,h1,h2,h3⟩:=h;obtain ⟨b',g1,_,_,_,_,g2⟩:=Sb k _ h1;rw [g2 vt m rfl] at g1;exact ⟨r,vt,m,g1,h2,h3⟩
 |_=>exact h
theorem CP (hT:Ec P T) {st:St} {a:Act} (h:Bs X π st a w) {t:TypeId} {e:Ty} (ht:T.ty t=some e) {l i j:Nat} {te:TypeId} {rows:List (List e.den)} {kp:Option (Nat×Nat)} (hl:Ay st.heap l=some (.Ca e te rows none kp))
  {vp vx:Value} {fr:Bool} {x:e.den} (hp:Hw X w π st.heap (.Kl l i j) vp) (hx:Dd w (Dk X.w0.heap.size X.Sc π fr) e vx x) (zK:fr=false):
  ∃w',(Instr.storeAt t vp vx).run P w= .ok () w'/\Bs X π (st.Kk l (.Ca e te (rows.set i ((rows.getD i []).set j x)) none kp)) a w':=by
 subst zK;obtain ⟨r,b,n,sz,g,o,len,cap,h1,h0,h2,h3,h4,h5,rfl⟩:=hp;rw [hl] at h1;cases h1;simp only [OB.wE,Aa,Ag] at h0;obtain ⟨rfl,rfl⟩:=h0;have hb:=(h.1.heap l).Se hl;simp only [Cq] at hb;obtain ⟨hb,ub⟩:=hb;rw [h2] at hb;obtain ⟨b1,cur,ti,b2,b3,b4,b5,Rs,b6,b7,b8,b9⟩:=hb
 have Qd:rows[i]?=some (rows.getD i []):=by rw [Al,Ad h3];rfl
 obtain ⟨u,R,k1,k2,k3,k4⟩:=b9 i _ Qd (by simp);rw [cellOf b2,k1] at h5;have hu:=Bi h5;subst hu
 cases R with
 |none=>obtain ⟨hh,_⟩:=k3;cases hh
 |some q=>
  obtain ⟨ad,hh,g1,g2⟩:=k3;simp only [Value.slice.injEq,Aa] at hh;obtain ⟨rfl,rfl,rfl⟩:=hh;have had:=g2 (by omega);simp only [Addr.mk.injEq,bz] at had;obtain ⟨rfl,rfl⟩:=had;obtain ⟨f1,cu,ti',f2,f3,f4,f5,f6⟩:=k4;obtain ⟨hqf,hqg⟩:=b7 i q k2;obtain ⟨es,fy,hv⟩:=hx;have lI:=Cells.len e es x fy
  have Afr:(q.o+0)*e.size+j*e.size=(q.o+j)*e.size:=by rw [El,<-Dr]
  have Wz:(q.o+j)*e.size+es.length<=cu.size:=by
   have:(q.o+j+1)*e.size<=(q.o+q.cap)*e.size:=Fk _ (by omega);rw [Dr (q.o+j) 1,Wm] at this;omega
  have ak:(q.o+j)*e.size+es.length<=cu.toList.length:=by simpa using Wz
  have Wj:=Xi (P:=P) (w:=w) (hT.ty _ _ ht) q.g ((q.o+j)*e.size) vx es (by rw [hv];exact Lp e es x fy) lI (Cells.plain e es x fy) cu ti' f2 Wz
  have hqo:Wn π q.g:=⟨l,r,h2,hqf⟩
  have Ra:r.cl q.g:=h.1.sub l r _ h2 hqf;have tY:=Oe w q.g (Du cu.toList ((q.o+j)*e.size) es).toArray;have se: ∀c,c≠q.g->(w.setRow q.g (Du cu.toList ((q.o+j)*e.size) es).toArray).heap[c]?=w.heap[c]?:= λc hc=>setRow_other w q.g c _ hc;refine ⟨_,by simp only [Instr.storeAt,Instr.sureAddr];rw [Afr];simpa using Wj,?_⟩
  have Al5:(st.Kk l (.Ca e te (rows.set i ((rows.getD i []).set j x)) none kp))= {tmps:=st.tmps.map (·.map λc=>c),heap:=aN st.heap l (.Ca e te (rows.set i ((rows.getD i []).set j x)) none kp)} :=by
   unfold St.Kk
   congr 1
   exact ((Er λc _=>AC.map_id c).trans (List.map_id'' (λ_=>rfl) st.tmps)).symm
  rw [Al5];have ue: ∀k r0 c,π k=some r0->r0.cl c->k≠l->c≠q.g:= λk r0 c hk hc Ii e=>Ii (h.1.inj k l r0 r c hk h2 hc (e▸Ra))
  refine h.oJ rfl (gv:= λc=>c=q.g) (λc hc=>hc▸hqo) ⟨tY.os,tY.tape,tY.output,tY.size,λc _ hc=>se c hc⟩ (λ_ _ ho=>ho) h.1.sub (λk r0 c hk hc=>⟨(h.1.place k r0 c hk hc).1,Ep (h.1.place k r0 c hk hc).2 tY.size⟩) h.1.inj
   (λk hk Ii=>h.1.iM k hk λh0=>Ii ?_) (λhc=>UR hl (by simp) hc λk r0 b0 g1 g2 g3=>se _ λe=>?_) (λm k b0 hk=>?_) (λk hk=>?_)
  ·have:k≠l:= λe=>by subst e;rw [hl] at h0;cases h0
   rw [Ej _ _ _ _ this];exact h0
  ·by_cases Ml:k=l
   ·subst Ml;rw [h2] at g3;cases g3;exact hqg e.symm
   ·exact ue k r0 _ g3 (h.1.sub k r0 _ g3 (h.1.Df g3)) Ml e
  ·by_cases Ml:k=l
   ·subst Ml;rw [Ff _ _ _ _ hl] at hk;cases hk;show iP X _ π (π k) e _ none kp;rw [h2];refine ⟨⟨b1,cur,ti,(se _ (Ha hqg)).trans b2,b3,b4,by simpa using b5,Rs,by simpa using b6,b7,b8,λi' y hy _=>?_⟩,(h2▸ub).Gd λq' iE=>by cases iE;exact se _ (Ha hqg)⟩;rw [Fb] at hy;split at hy
    ·rename_i hii;subst hii;have hy:=Bi hy;subst hy;refine ⟨_,some q,k1,k2,⟨_,by rw [Bb],by simpa using g1,λ_=>rfl⟩,?_⟩;refine ⟨f1,_,_,setRow_heap w q.g cu _ ti' _ f2,by rw [Hk,Jf _ _ _ ak,Yf];exact f3,f4,by simpa using f5,λj' y hy=>?_⟩;rw [Fb] at hy;split at hy
     ·rename_i hjj;subst hjj;have hy:=Bi hy;subst hy;refine ⟨es,lI,λp v ya=>?_,m.cells false e es x fy⟩;have hp:p<es.length:=(Ao.1 ya).1;rw [Io,Im _ _ _ _ ak,Ai (by omega),Ac (by omega)];rw [show (q.o+j)*e.size+p-(q.o+j)*e.size=p by omega];exact ya
     ·rename_i hjj;obtain ⟨pd,US,lJ,FY⟩:=f6 j' y hy;refine ⟨pd,US,λp v ya=>?_,m.cells false e pd y FY⟩;have hp:p<pd.length:=(Ao.1 ya).1;have:=lJ p v ya;rw [Io,Im _ _ _ _ ak];rcases iV (o:=q.o) (i:=j') (j:=j) (s:=e.size) (p:=p) (λe=>hjj e.symm) (by omega) with Kr|wG
      ·rw [Ac Kr];simpa using this
      ·rw [Ai (by omega),Ai (by omega)];simpa using this
    ·rename_i hii;obtain ⟨u',R',q1,q2,q3,q4⟩:=b9 i' y hy (by simp);refine ⟨u',R',q1,q2,q3,q4.to (λq' iE=>se _ λe=>hii ?_) λes y hc=>m.cells false e es y hc⟩;subst iE;exact b8 i i' q q' k2 q2 e.symm
   ·rw [Ej _ _ _ _ Ml] at hk;have:=((h.1.heap k).Se hk).move m tY.size (λr0 c h0 h1=>h.1.sub _ r0 c h0 h1) λr0 c h0 h1 _=>se c (ue k r0 c h0 h1 Ml)
    cases b0 with
    |var tid vs=>simpa [OB.map] using this
    |_=>exact this
  ·have Ml:k≠l:= λe=>by subst e;rw [Ff _ _ _ _ hl] at hk;cases hk
   rw [Ej _ _ _ _ Ml] at hk;exact (h.1.heap k).emp hk
end
end Go.Proofs.Ytfgfigkbgecfnaa
