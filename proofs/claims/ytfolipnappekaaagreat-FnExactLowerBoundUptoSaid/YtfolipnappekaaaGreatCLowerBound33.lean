/-
  Part 34 of the proof that the statement FnExactLowerBound holds.
-/
import Derived.Test.YtfolipnappekaaaGreatCLowerBound32
namespace Go.Proofs.YtfolipnappekaaaGreat
open Go.RowKit
theorem Nf {B:List (Nat×Nat×Nat)} {H:List (Nat×OB)} : ∀ {l:List AV} {K:Prop},Ul B H l K-> ∀c∈l,c.eP=true
 | [],_,_,c,hc=>by cases hc
 |d::l,K,h,c,hc=>by
  simp only [Ul] at h
  cases d with
  |Ht l'=>exact h.elim
  | «at»a=>
   rcases List.mem_cons.1 hc with rfl|hc
   ·rfl
   ·have h':Ul B H l K:=by
     cases a with
     |own k o n=>exact h.2.2
     |_=>exact h
    exact Nf h' c hc
  |Um _ _ _=>
   rcases List.mem_cons.1 hc with rfl|hc
   ·rfl
   ·exact Nf h c hc
  |agg cs=>
   rcases List.mem_cons.1 hc with rfl|hc
   ·rfl
   ·have: ∀(cs:List AC) (Q:Prop),Xx B H cs Q->Q:=by
     intro cs
     induction cs with
     |nil=>exact λQ h=>h
     |cons a cs ih=>
      intro Q h
      have h2:Xx B H cs Q:=by
       cases a with
       |own k o n=>exact h.2.2
       |_=>exact h
      exact ih Q h2
    exact Nf (this cs _ h) c hc
theorem fT: ∀(f:List Bool) (l:List AV),(∀c∈l,c.eP=true)-> ∀c∈Ny f l,c.eP=true
 | [],l,h=>by simpa [Ny] using h
 |true::f,[],h=>by simp [Ny] at h⊢
 |false::f,[],h=>by simp [Ny] at h⊢
 |true::f,a::l,h=>by
  intro c hc
  simp only [Ny,List.mem_cons] at hc
  rcases hc with rfl|hc
  ·rfl
  ·exact fT f l (λc hc=>h c (List.mem_cons_of_mem _ hc)) c hc
 |false::f,a::l,h=>by
  intro c hc
  simp only [Ny,List.mem_cons] at hc
  rcases hc with rfl|hc
  ·exact h c (by simp)
  ·exact fT f l (λc hc=>h c (List.mem_cons_of_mem _ hc)) c hc
theorem FN (f:AC->AC) (H:List (Nat×OB)) (l:Nat):lenOf (H.map λp=>(p.1,p.2.map f)) l=lenOf H l:=by
 unfold lenOf
 rw [Jf]
 cases Ad H l with
 |none=>rfl
 |some b=>cases b<;>rfl
theorem yJ (f g:AC->AC) (c:AV):(c.map f).map g=c.map λa=>g (f a):=by
 cases c<;>simp [AV.map]
theorem zM (f g:AC->AC) (c:OB):(c.map f).map g=c.map λa=>g (f a):=by
 cases c<;>simp [OB.map]
theorem x7 (s:St) (f g:AC->AC):(s.Gf f).Gf g=s.Gf λa=>g (f a):=by
 simp [St.Gf,List.map_map,Function.comp_def,yJ,zM]
theorem wS (f:AC->AC) (H:List (Nat×OB)) (l:Nat): ∀(B:List (Nat×Nat×Nat)),FL B (H.map λp=>(p.1,p.2.map f)) l=FL B H l
 | []=>FN f H l
 |(k,o,n)::r=>by simp only [FL];rw [wS f H l r]
theorem yw (B:List (Nat×Nat×Nat)) (s:St):(s.Gf Mi).whole B=s.whole B:=by
 unfold St.whole
 rw [x7]
 congr 1
 funext a
 cases a with
 |own l off len=>simp only [Mi,aO,St.Gf,wS]
 |_=>rfl
theorem yu {B:List (Nat×Nat×Nat)} {s t:St} (h:s.Gf Mi=t.Gf Mi):s.whole B=t.whole B:=by rw [<-yw B s,h,yw]
theorem jL (f:AC->AC): ∀(fx:List Bool) (a b:List AV),(Pc fx a b).map (·.map f)=Pc fx (a.map (·.map f)) (b.map (·.map f))
 | [],_,_=>by simp [Pc]
 |_::_,[],_=>by simp [Pc]
 |true::_,_::_,[]=>by simp [Pc]
 |false::_,_::_,[]=>by simp [Pc]
 |true::fx,x::a,y::b=>by simp only [Pc,List.map_cons,jL f fx a b]
 |false::fx,x::a,y::b=>by simp only [Pc,List.map_cons,jL f fx a b]
theorem nT (f:AC->AC) (fx:List Bool) (a b:St):(St.pR fx a b).Gf f=St.pR fx (a.Gf f) (b.Gf f):=by
 simp only [St.pR,St.Gf,jL]
theorem nS (p:Nat->Bool): ∀(i:Nat) (l0 l1:List AV),(∀t,(l0.getD t .undef).Qj=true->p (i+t)=true->l1.getD t .undef=l0.getD t .undef)->
  Pc (Hk p i l0) l0 (Ny (Hk p i l0) l1)=l1
 |_,[],l1,_=>by simp [Hk,Ny,Pc]
 |i,a::r,[],_=>by
  simp only [Hk]
  cases (a.Qj&&p i)<;>simp [Ny,Pc]
 |i,a::r,b::s,h=>by
  have hr:=nS p (i+1) r s λt h1 h2=>by
   have:=h (t+1) (by simpa using h1) (by rw [show i+(t+1)=i+1+t by omega];exact h2)
   simpa using this
  simp only [Hk]
  cases hc:(a.Qj&&p i) with
  |false=>simp only [Ny,Pc];rw [hr]
  |true=>
   simp only [Ny,Pc]
   rw [hr]
   simp only [Bool.and_eq_true] at hc
   have:=h 0 (by simpa using hc.1) hc.2
   simp only [List.getD_cons_zero] at this
   rw [this]
theorem ah: ∀(f:List Bool) (l:List AV),(Ny f l).length=l.length
 | [],l=>by simp [Ny]
 |true::f,[]=>by simp [Ny]
 |false::f,[]=>by simp [Ny]
 |true::f,a::l=>by simp [Ny,ah f l]
 |false::f,a::l=>by simp [Ny,ah f l]
theorem br: ∀(l:List AV) {R:Type} (v:lg l R),(Pk l v).1.length=l.length
 | [],_,_=>rfl
 |c::l,_,v=>by simp [Pk,br l]
theorem rT (p:Nat->Bool): ∀(i:Nat) (l0 l:List AV) (t:Nat),l.length=l0.length->(l0.getD t .undef).Qj=true->p (i+t)=true->(Pc (Hk p i l0) l0 l).getD t .undef=l0.getD t .undef
 |_,[],_,t,_,h,_=>by simp [AV.Qj] at h
 |i,a::r,[],_,h,_,_=>by simp at h
 |i,a::r,b::s,0,_,h1,h2=>by
  have:(a.Qj&&p i)=true:=by
   simp only [Bool.and_eq_true]
   exact ⟨by simpa using h1,h2⟩
  simp only [Hk,this,Pc,List.getD_cons_zero]
 |i,a::r,b::s,t+1,hl,h1,h2=>by
  have hr:=rT p (i+1) r s t (by simpa using hl) (by simpa using h1) (by rw [show i+1+t=i+(t+1) by omega];exact h2)
  simp only [Hk]
  cases (a.Qj&&p i)<;>simpa only [Pc,List.getD_cons_succ] using hr
theorem ek {B:List (Nat×Nat×Nat)} {H:List (Nat×OB)} {c:AC} {K:Prop} (h:sy B H c K):aO B H c=c/\K:=by
 cases c with
 |own l off len=>obtain ⟨h1,h2,h3⟩:=h;exact ⟨by rw [h1,h2];rfl,h3⟩
 |_=>exact ⟨rfl,h⟩
theorem Uq {B:List (Nat×Nat×Nat)} {H:List (Nat×OB)} : ∀ {l:List AC} {K:Prop},Xx B H l K->l.map (aO B H)=l/\K
 | [],_,h=>⟨rfl,h⟩
 |c::l,_,h=>by
  obtain ⟨h1,h2⟩:=ek h
  obtain ⟨h3,h4⟩:=Uq h2
  exact ⟨by rw [List.map_cons,h1,h3],h4⟩
theorem pv {B:List (Nat×Nat×Nat)} {H:List (Nat×OB)} {c:AV} {K:Prop} (h:CQ B H c K):c.map (aO B H)=c/\K:=by
 cases c with
 | «at»a=>obtain ⟨h1,h2⟩:=ek h;exact ⟨by rw [AV.map,h1],h2⟩
 |agg cs=>obtain ⟨h1,h2⟩:=Uq h;exact ⟨by rw [AV.map,h1],h2⟩
 |Um _ _ _=>exact ⟨rfl,h⟩
 |Ht l=>exact h.elim
theorem bt {B:List (Nat×Nat×Nat)} {H:List (Nat×OB)} : ∀ {l:List AV} {K:Prop},Ul B H l K->l.map (·.map (aO B H))=l/\K
 | [],_,h=>⟨rfl,h⟩
 |c::l,_,h=>by
  obtain ⟨h1,h2⟩:=pv h
  obtain ⟨h3,h4⟩:=bt h2
  exact ⟨by rw [List.map_cons,h1,h3],h4⟩
theorem Ib {B:List (Nat×Nat×Nat)} {H:List (Nat×OB)} : ∀ {l:List (Nat×OB)} {K:Prop},dA B H l K->l.map (λp=>(p.1,p.2.map (aO B H)))=l/\K
 | [],_,h=>⟨rfl,h⟩
 |(k, .var t vs)::l,_,h=>by
  obtain ⟨h1,h2⟩:=Uq h
  obtain ⟨h3,h4⟩:=Ib h2
  exact ⟨by rw [List.map_cons,h3];simp only [OB.map,h1],h4⟩
 |(k, .arr a b c d e)::l,_,h=>by
  obtain ⟨h3,h4⟩:=Ib (l:=l) h
  exact ⟨by rw [List.map_cons,h3];rfl,h4⟩
 |(k, .Cz a b c)::l,_,h=>by
  obtain ⟨h3,h4⟩:=Ib (l:=l) h
  exact ⟨by rw [List.map_cons,h3];rfl,h4⟩
 |(k, .Ah a b c d e)::l,_,h=>by
  obtain ⟨h3,h4⟩:=Ib (l:=l) h
  exact ⟨by rw [List.map_cons,h3];rfl,h4⟩
 |(k, .Oj a b)::l,_,h=>by
  obtain ⟨h3,h4⟩:=Ib (l:=l) h
  exact ⟨by rw [List.map_cons,h3];rfl,h4⟩
theorem eU {B:List (Nat×Nat×Nat)} {s:St} {K:Prop} (h:ux B s K):s.whole B=s/\K:=by
 obtain ⟨h1,h2⟩:=bt h
 obtain ⟨h3,h4⟩:=Ib h2
 exact ⟨by unfold St.whole St.Gf;rw [h1,h3],h4⟩
theorem bR (live:List Nat): ∀(i:Nat) (l:List AV) (t:Nat),i+t∉live->(Fu live i l).getD t .undef= .undef
 |_,[],_,_=>rfl
 |i,v::r,0,h=>by simp [Fu];intro hn;exact absurd hn h
 |i,v::r,t+1,h=>by
  simp only [Fu,List.getD_cons_succ]
  exact bR live (i+1) r t (by rw [show i+1+t=i+(t+1) by omega];exact h)
theorem aZ: ∀(l:List Nat) (st:St) (t:Nat),st.get t= .undef->(Yi l st).get t= .undef
 | [],_,_,h=>h
 |a::r,st,t,h=>aZ r _ t (by
  show (st.tmps.map (·.map (Ay a))).getD t .undef= .undef
  rw [Nv (Ay a) rfl,show st.tmps.getD t .undef= .undef from h]
  rfl)
theorem uc (l k:Nat) (st:St) (t:Nat) (h:st.get t= .undef):(st.rename l k).get t= .undef:=by
 unfold St.rename
 split
 ·split
  ·show (st.tmps.map (·.map (Oa l k))).getD t .undef= .undef
   rw [Nv (Oa l k) rfl,show st.tmps.getD t .undef= .undef from h]
   rfl
  ·exact h
 ·exact h
theorem Yx: ∀(n i:Nat) (st:St) (t:Nat),st.get t= .undef->(Hq n i st).get t= .undef
 |0,_,_,_,h=>h
 |n+1,i,st,t,h=>by
  simp only [Hq]
  refine Yx n (i+1) _ t ?_
  split
  ·split
   ·split
    ·exact h
    ·exact uc _ _ _ t h
   ·exact h
  ·exact h
theorem u7 (st:St) (d:Nat) (v:AV) (t:Nat) (Ex:t≠d) (h:st.get t= .undef):(st.put (some d) v).get t= .undef:=by rw [Uz _ _ Ex];exact h
theorem o4 (k:Nat) (st:St) (t:Nat) (h:st.get t= .undef):(Vk k st).get t= .undef:=by
 unfold Vk
 split
 ·rename_i l off len hg
  split
  ·split
   ·refine u7 _ _ _ _ (λe=>by subst e;rw [hg] at h;cases h) ?_
    show (st.tmps.map (·.map (Ay l))).getD t .undef= .undef
    rw [Nv (Ay l) rfl,show st.tmps.getD t .undef= .undef from h]
    rfl
   ·exact h
  ·exact h
 ·exact h
theorem fX (c:Nat) (st:St) (t:Nat) (h:st.get t= .undef):(Kd c st).get t= .undef:=by
 unfold Kd
 split
 ·split
  ·rename_i l off len hc
   split
   ·split
    ·split
     ·show (st.tmps.map (·.map (Ay l))).getD t .undef= .undef
      rw [Nv (Ay l) rfl,show st.tmps.getD t .undef= .undef from h]
      rfl
     ·exact h
    ·exact h
   ·exact h
  ·exact h
 ·exact h
theorem Wt (live:List Nat): ∀(n i:Nat) (st:St) (t:Nat),st.get t= .undef->(Jt live n i st).get t= .undef
 |0,_,_,_,h=>h
 |n+1,i,st,t,h=>by
  simp only [Jt]
  refine Wt live n (i+1) _ t ?_
  split
  ·exact fX _ _ _ h
  ·exact h
theorem bj (live:List Nat): ∀(n i:Nat) (st:St) (t:Nat),st.get t= .undef->(Jh live n i st).get t= .undef
 |0,_,st,t,h=>Wt live 16 0 st t h
 |n+1,i,st,t,h=>by
  simp only [Jh]
  refine bj live n (i+1) _ t ?_
  split
  ·exact o4 _ _ _ h
  ·exact h
theorem yW {live:List Nat} {st:St} {t:Nat} (h:((st.clean live).get t).Qj=true):t∈live:=by
 refine Classical.byContradiction λhn=>?_
 have:(st.clean live).get t= .undef:=by
  have key: ∀s:St,s.get t= .undef->(if live.contains Wu then Hq s.tmps.length 0 s else s).get t= .undef:=by
   intro s hs
   split
   ·exact Yx _ _ s t hs
   ·exact hs
  unfold St.clean
  have LG: ∀s:St,s.get t= .undef->(if live.any (λt=>Nat.ble Sl t) then s.Ek live else s).get t= .undef:=by
   intro s hs
   split<;>exact hs
  have LH: ∀s:St,s.get t= .undef->(if live.any (λt=>Nat.ble Ln t&&Nat.blt t Wu) then Jh live s.tmps.length 0 s else s).get t= .undef:=by
   intro s hs
   split
   ·exact bj _ _ _ s t hs
   ·exact hs
  refine LG _ (key _ (LH _ (aZ _ _ t ?_)))
  exact bR live 0 st.tmps t (by simpa using hn)
 rw [this] at h
 cases h
theorem nz {c:AV} (h:c.Qj=true): ∃fr τ,∃x:τ.den,c= .at (.data fr τ x):=by
 unfold AV.Qj at h
 split at h
 ·exact ⟨_,_,_,rfl⟩
 ·cases h
theorem HL {live:Nat->List Nat} {c:Code} {t:Nat} (h:stays live c t=true):t∉writes c/\Vd live c t=true:=by
 unfold stays at h
 simpa using h
section
variable {T:Tab} {Γ:Env} {live:Nat->List Nat}
theorem Iv.keeps {c:Code} {st:St} {Q:Gr->St->Prop} (h:Iv T Γ live c st Q):Iv T Γ live c st (λe s=>Q e s/\Eu (λt=>t∉writes c/\Vd live c t=true) st s):=by
 exact AR h st _ Aw.rfl'.on λt ht=>ht
def wsQ (Q:Gr->WS->Prop) (e:Gr) (s:St):Prop:= ∃w':WS,w'.st=s/\w'.OK/\Q e w'
theorem x4 {c:Code} (ih: ∀(w:WS) (Q:Gr->WS->Prop),w.OK->Yb T Γ live c w Q->Iv T Γ live c w.st (wsQ Q)) {w:WS} {Q:Gr->WS->Prop} (h:Yb T Γ live (.loop c) w Q):
  Iv T Γ live (.loop c) w.st (wsQ Q):=by
 simp only [Yb,EU,fF] at h
 obtain ⟨WK,I,μ,h0,hs⟩:=eU h
 have Ad: ∀(t:Nat),((w.st.clean (live (Cc c))).get t).Qj=true->stays live c t=true-> ∀v,((St.pR (Hk (stays live c) 0 (w.st.clean (live (Cc c))).tmps) (w.st.clean (live (Cc c))) (cY ((w.st.clean (live (Cc c))).mask (Hk (stays live c) 0 (w.st.clean (live (Cc c))).tmps)) v)).whole (Sm T.parts (w.st.clean (live (Cc c))).tmps)).get t=(w.st.clean (live (Cc c))).get t:=by
  intro t h1 h2 v
  have h3:=rT (stays live c) 0 (w.st.clean (live (Cc c))).tmps (cY ((w.st.clean (live (Cc c))).mask (Hk (stays live c) 0 (w.st.clean (live (Cc c))).tmps)) v).tmps t
   ((br _ _).trans (ah _ _)) h1 (by simpa using h2)
  obtain ⟨fr,τ,x,hx⟩:=nz h1
  refine (Jp _ _ rfl λ_ _ _=>rfl) t fr τ x ?_|>.trans hx.symm
  exact h3.trans hx
 have TA: ∀(s1:St),(∀t,((w.st.clean (live (Cc c))).get t).Qj=true->stays live c t=true->s1.get t=(w.st.clean (live (Cc c))).get t)->s1.whole (Sm T.parts (w.st.clean (live (Cc c))).tmps)=s1-> ∀v,cZ ((w.st.clean (live (Cc c))).mask (Hk (stays live c) 0 (w.st.clean (live (Cc c))).tmps)) (s1.mask (Hk (stays live c) 0 (w.st.clean (live (Cc c))).tmps))=some v->
   s1=(St.pR (Hk (stays live c) 0 (w.st.clean (live (Cc c))).tmps) (w.st.clean (live (Cc c))) (cY ((w.st.clean (live (Cc c))).mask (Hk (stays live c) 0 (w.st.clean (live (Cc c))).tmps)) v)).whole (Sm T.parts (w.st.clean (live (Cc c))).tmps):=by
  intro s1 hf hwh v hv
  have h1:=da hv
  have h2:St.pR (Hk (stays live c) 0 (w.st.clean (live (Cc c))).tmps) (w.st.clean (live (Cc c))) (s1.mask (Hk (stays live c) 0 (w.st.clean (live (Cc c))).tmps))=s1:=by
   simp only [St.pR,St.mask]
   rw [nS (stays live c) 0 (w.st.clean (live (Cc c))).tmps s1.tmps λt h3 h4=>hf t h3 (by simpa using h4)]
  have h3:(St.pR (Hk (stays live c) 0 (w.st.clean (live (Cc c))).tmps) (w.st.clean (live (Cc c))) (cY ((w.st.clean (live (Cc c))).mask (Hk (stays live c) 0 (w.st.clean (live (Cc c))).tmps)) v)).whole (Sm T.parts (w.st.clean (live (Cc c))).tmps)=s1.whole (Sm T.parts (w.st.clean (live (Cc c))).tmps):=by
   refine yu ?_
   rw [nT,h1,<-nT,h2]
  rw [h3,hwh]
 refine GU (λv=>(St.pR (Hk (stays live c) 0 (w.st.clean (live (Cc c))).tmps) (w.st.clean (live (Cc c))) (cY ((w.st.clean (live (Cc c))).mask (Hk (stays live c) 0 (w.st.clean (live (Cc c))).tmps)) v)).whole (Sm T.parts (w.st.clean (live (Cc c))).tmps)) I μ _ h0 (TA _ (λ_ _ _=>rfl) WK _ (l8 _ (fT _ _ (Nf h)))) ?_
 intro a ha
 refine (Iv.keeps (ih ⟨[],_⟩ _ (λt b h=>by cases h) (hs a ha))).mono ?_
 intro e s hQ
 obtain ⟨⟨w',h1,h2,h3⟩,hk⟩:=hQ
 subst h1
 cases e with
 |normal=>
  obtain ⟨h4,h5⟩:=eU h3
  obtain ⟨v',h6,h7,h8⟩:=As.1 h5
  refine ⟨v',TA _ (λt hd ht=>?_) h4 _ h6,h7,h8⟩
  obtain ⟨fr,τ,x,hx⟩:=nz hd
  rw [hx]
  exact eK (live (Cc c)) w'.st t fr τ x (yW hd) (hk t fr τ x (HL ht) (by rw [Ad t hd ht a];exact hx))
 |exit id=>exact ⟨w',rfl,h2,h3⟩
 |ret=>exact ⟨w',rfl,h2,h3⟩
theorem kB: ∀(c:Code) (w:WS) (Q:Gr->WS->Prop),w.OK->Yb T Γ live c w Q->Iv T Γ live c w.st (wsQ Q):=by
 intro c
 induction c with
 |skip=>intro w Q hw h;exact .skip ⟨w,rfl,hw,h⟩
 |label _=>intro w Q hw h;exact .label ⟨w,rfl,hw,h⟩
 |exit _=>intro w Q hw h;exact .exit ⟨w,rfl,hw,h⟩
 |ret=>intro w Q hw h;exact .ret ⟨w,rfl,hw,h⟩
 |region id ops draw=>
  intro w Q hw h
  have hw':WS.OK {w with st:=w.st.gM ops} := λt b ht=>by
   obtain ⟨fr,e⟩:=hw t b ht
   exact ⟨fr,eL ops w.st t fr .bool b e⟩
  exact .region ((qc hw' h).mono λs ⟨w',h1,h2,h3⟩=>⟨w',h1,h2,a7.1 h3⟩)
 |seq x y ihx ihy=>
  intro w Q hw h
  refine MT ((ihx w _ hw h).mono λe s hQ=>?_)
  obtain ⟨w',h1,h2,h3⟩:=hQ
  subst h1
  cases e with
  |normal=>exact ihy w' Q h2 h3
  |exit id=>exact ⟨w',rfl,h2,h3⟩
  |ret=>exact ⟨w',rfl,h2,h3⟩
 |cond c x y ihx ihy=>
  intro w Q hw h
  obtain ⟨fr,b,w',h1,h2,h3,h4⟩:=qU hw h
  refine GS h1 (λhb=>?_) (λhb=>?_)
  ·subst hb;rw [<-h2];exact ihx w' Q h3 h4
  ·subst hb;rw [<-h2];exact ihy w' Q h3 h4
 |block id c ih=>
  intro w Q hw h
  refine AQ ((ih w _ hw h).mono λe s hQ=>?_)
  obtain ⟨w',h1,h2,h3⟩:=hQ
  subst h1
  cases e with
  |normal=>exact ⟨w',rfl,h2,h3⟩
  |ret=>exact ⟨w',rfl,h2,h3⟩
  |exit FI=>
   simp only at h3
   simp only [rz]
   split at h3
   ·rename_i hi;rw [if_pos hi];exact ⟨w',rfl,h2,h3⟩
   ·rename_i hi;rw [if_neg hi];exact ⟨w',rfl,h2,h3⟩
 |loop c ih=>intro w Q hw h;exact x4 ih h
 |_=>intro w Q hw h;exact absurd h (by simp [Yb])
theorem mM {s:Spec} {fn:Func} {P:s.res.den->Prop} {st:St} (h:UK T s fn P st): ∃fr y,gV T s fn st=some (fr,y)/\(fr||!s.fresh)=true/\P y:=by
 obtain ⟨p,h1,h2⟩:=As.1 h
 split at h2
 ·rename_i hf;exact ⟨p.1,p.2,h1,hf,h2⟩
 ·cases h2
theorem ET {s:Spec} {fn:Func} {x:s.arg.den} {P:s.res.den->Prop} (h:fnW T Γ s fn x P):IY T Γ s fn x P:=by
 unfold fnW at h
 obtain ⟨c,h1,h2⟩:=As.1 h
 refine ⟨c,h1,(kB c _ _ (λt b h=>by cases h) h2).mono λe st ⟨w,h4,h5,h6⟩=>?_⟩
 subst h4
 cases e with
 |normal=>exact ⟨λid hh=>(by cases hh),mM h6⟩
 |ret=>exact ⟨λid hh=>(by cases hh),mM h6⟩
 |exit id=>cases h6
theorem Wp {st:St} {K:Prop} : ∀(vs:List AC) (cs:List (Bool×CK)),cv st K vs cs->ct st vs cs/\K
 | [],cs,h=>⟨by simp [ct],by simpa [cv] using h⟩
 |a::vs,[],h=>⟨by cases a<;>simp [ct],by cases a<;>simpa [cv] using h⟩
 |a::vs,(false,c)::r,h=>by
  have h:cv st K vs r:=by cases a<;>simpa only [cv] using h
  obtain ⟨h1,h2⟩:=Wp vs r h
  exact ⟨by cases a<;>simpa only [ct] using h1,h2⟩
 |a::vs,(true,c)::r,h=>by
  cases a with
  |own l off len=>
   simp only [cv] at h
   split at h
   ·rename_i hl
    obtain ⟨h1,h2⟩:=Wp vs r h.2
    refine ⟨?_,h2⟩
    simp only [ct,hl]
    exact ⟨h.1,h1⟩
   ·rename_i hl
    obtain ⟨h1,h2⟩:=Wp vs r h.2
    refine ⟨?_,h2⟩
    simp only [ct,hl]
    exact ⟨h.1,h1⟩
   ·exact h.elim
  |_=>exact ⟨by simp [ct],by simpa [cv] using h⟩
theorem an {st:St} : ∀(cs:List CK) (as:List AC) (K:CKs.den cs->List Nat->Prop),jK st cs as K-> ∃x ls,Nz st cs as=some (x,ls)/\K x ls
 | [],[],K,h=>⟨(),[],rfl,h⟩
 | [],_::_,_,h=>h.elim
 |c::r,[],K,h=>by cases c<;>exact h.elim
 |c::r,a::as,K,h=>by
  have po:Dw (ef st c a) (λp=>jK st r as λy t=>K (p.1,y) (p.2++t))-> ∃x ls,Nz st (c::r) (a::as)=some (x,ls)/\K x ls:= λh=>by
   obtain ⟨p,h1,h2⟩:=As.1 h
   obtain ⟨y,t,h3,h4⟩:=an r as _ h2
   exact ⟨_,_,by simp only [Nz,h1,h3],h4⟩
  cases c with
  |Ah e te kp=>
   cases a with
   |own l off len=>
    simp only [jK] at h
    split at h
    ·rename_i hl
     split at h
     ·rename_i hc
      obtain ⟨⟨h1,h2⟩,h⟩:=h
      obtain ⟨y,t,h3,h4⟩:=an r as _ h
      exact ⟨_,_,by simp only [Nz,ef,hl];rw [dif_pos ⟨hc.1,hc.2,h1,h2⟩];simp only [h3];rfl,h4⟩
     ·exact h.elim
    ·exact h.elim
   |_=>exact po h
  |_=>exact po h
theorem iq {st:St} {n:Nat} {as:List AC} {K:Prop} : ∀(ks:List (Nat×Nat)),tA st n as ks K->rG st n as ks/\K
 | [],h=>⟨trivial,h⟩
 |(k,j)::r,h=>by
  simp only [tA] at h
  split at h
  ·rename_i l off len ha
   split at h
   ·rename_i p hl
    split at h
    ·rename_i hc
     simp only [Bool.and_eq_true] at hc
     obtain ⟨h1,h2⟩:=iq r h.2
     refine ⟨?_,h2⟩
     simp only [rG,ha,hl]
     exact ⟨⟨Nat.eq_of_beq_eq_true hc.1,h.1,hc.2⟩,h1⟩
    ·exact h.elim
   ·exact h.elim
  ·exact h.elim
theorem cQ {s:MSpec} {fn:Func} {x:Ins.den s.ins} {st:St} {cs:List AC} {P:CKs.den s.outs×IOs.den s.ins->Prop} (h:o8 T s fn x st cs P):dM T s fn x st cs P:=by
 obtain ⟨l,h1,h⟩:=As.1 h
 obtain ⟨⟨as,ml⟩,h2,h⟩:=As.1 h
 obtain ⟨r,ls,h3,h⟩:=an _ _ _ h
 obtain ⟨o,h4,h⟩:=As.1 h
 split at h
 ·rename_i hc
  obtain ⟨h5,h6⟩:=iq _ h
  unfold dM
  simp only [h1,h2,h3,h4]
  exact ⟨hc,h5,h6⟩
 ·exact h.elim
theorem l4 {s:MSpec} {fn:Func} {x:Ins.den s.ins} {st:St} {P:CKs.den s.outs×IOs.den s.ins->Prop} (h:DW T s fn x st P):IX T s fn x st P:=by
 unfold DW at h
 unfold IX
 cases hp:s.ptr with
 |none=>rw [hp] at h;exact cQ h
 |some p=>
  rw [hp] at h
  simp only at h⊢
  split at h
  ·rename_i tid vs hl
   split at h
   ·rename_i hc
    simp only [Bool.and_eq_true] at hc
    obtain ⟨h1,h2⟩:=hc
    have h1:tid=p.1:=Nat.eq_of_beq_eq_true h1
    have h2:=Nat.eq_of_beq_eq_true h2
    subst h1
    obtain ⟨cs,h3,h4⟩:=As.1 h
    obtain ⟨h5,h6⟩:=Wp vs s.ins h4
    exact ⟨vs,cs,hl,h2,h3,h5,cQ h6⟩
   ·exact h.elim
  ·exact h.elim
theorem za {s:MSpec} {fn:Func} {x:Ins.den s.ins} {P:CKs.den s.outs×IOs.den s.ins->Prop} (h:fnMW T Γ s fn x P):RT T Γ s fn x P:=by
 unfold fnMW at h
 split at h
 ·cases h
 rename_i hlen
 obtain ⟨c,h1,h2⟩:=As.1 h
 refine ⟨hlen,c,h1,(kB c _ _ (λt b h=>by cases h) h2).mono λe st ⟨w,h4,h5,h6⟩=>?_⟩
 subst h4
 cases e with
 |normal=>exact ⟨λid hh=>(by cases hh),l4 h6⟩
 |ret=>exact ⟨λid hh=>(by cases hh),l4 h6⟩
 |exit id=>cases h6
theorem Bf.ofW {P:Program} (hT:Bz P T) (Mf:Ia P Γ) (hm:P.follows .mixedOrders=true) {f:FuncId} {fn:Func} (hf:P.funcs[f]?=some fn) (hn:(fn.name== "runtime.NumGoroutine")=false)
  (hb:fn.body.isNone=false) (s:MSpec) (h: ∀x y,s.fn x=some y->fnMW T Γ s fn x (λz=>z=y)):Bf P f s:=
 ⟨bO hf hn hb,λw S π us x r o g vs h1 hg h2 h3 hS h4 h5=>pA hT Mf hm hf s w S π us x r o g vs h1 hg h2 h3 hS h4 (za (h x (r,o) h5))⟩
theorem Sound.ofW {P:Program} (hT:Bz P T) (Mf:Ia P Γ) (hm:P.follows .mixedOrders=true) {f:FuncId} {fn:Func} (hf:P.funcs[f]?=some fn) (hn:(fn.name== "runtime.NumGoroutine")=false)
  (hb:fn.body.isNone=false) (s:Spec) (h: ∀x y,s.fn x=some y->fnW T Γ s fn x (λz=>z=y)):Sound P f s:=
 MV hT Mf hm hf hn hb s λx y hx=>ET (h x y hx)
end
end Go.Proofs.YtfolipnappekaaaGreat
