/-
  Part 34 of the proof that the statement FnExactLowerBoundWithInverse holds.
-/
import Derived.Test.YtfolipnappekaaaGreatCLowerBoundWithInverse32
namespace Go.Proofs.YtfolipnappekaaaGreat
open Go.RowKit
theorem Ng {B:List (Nat×Nat×Nat)} {H:List (Nat×OB)} : ∀ {l:List AV} {K:Prop},Un B H l K-> ∀c∈l,c.eT=true
 | [],_,_,c,hc=>by cases hc
 |d::l,K,h,c,hc=>by
  simp only [Un] at h
  cases d with
  |Hv l'=>exact h.elim
  | «at»a=>
   rcases List.mem_cons.1 hc with rfl|hc
   ·rfl
   ·have h':Un B H l K:=by
     cases a with
     |own k o n=>exact h.2.2
     |_=>exact h
    exact Ng h' c hc
  |Uo _ _ _=>
   rcases List.mem_cons.1 hc with rfl|hc
   ·rfl
   ·exact Ng h c hc
  |agg cs=>
   rcases List.mem_cons.1 hc with rfl|hc
   ·rfl
   ·have: ∀(cs:List AC) (Q:Prop),Yb B H cs Q->Q:=by
     intro cs
     induction cs with
     |nil=>exact λQ h=>h
     |cons a cs ih=>
      intro Q h
      have h2:Yb B H cs Q:=by
       cases a with
       |own k o n=>exact h.2.2
       |_=>exact h
      exact ih Q h2
    exact Ng (this cs _ h) c hc
theorem fW: ∀(f:List Bool) (l:List AV),(∀c∈l,c.eT=true)-> ∀c∈Nz f l,c.eT=true
 | [],l,h=>by simpa [Nz] using h
 |true::f,[],h=>by simp [Nz] at h⊢
 |false::f,[],h=>by simp [Nz] at h⊢
 |true::f,a::l,h=>by
  intro c hc
  simp only [Nz,List.mem_cons] at hc
  rcases hc with rfl|hc
  ·rfl
  ·exact fW f l (λc hc=>h c (List.mem_cons_of_mem _ hc)) c hc
 |false::f,a::l,h=>by
  intro c hc
  simp only [Nz,List.mem_cons] at hc
  rcases hc with rfl|hc
  ·exact h c (by simp)
  ·exact fW f l (λc hc=>h c (List.mem_cons_of_mem _ hc)) c hc
theorem FT (f:AC->AC) (H:List (Nat×OB)) (l:Nat):lenOf (H.map λp=>(p.1,p.2.map f)) l=lenOf H l:=by
 unfold lenOf
 rw [Jh]
 cases Ad H l with
 |none=>rfl
 |some b=>cases b<;>rfl
theorem yN (f g:AC->AC) (c:AV):(c.map f).map g=c.map λa=>g (f a):=by
 cases c<;>simp [AV.map]
theorem zQ (f g:AC->AC) (c:OB):(c.map f).map g=c.map λa=>g (f a):=by
 cases c<;>simp [OB.map]
theorem xb (s:St) (f g:AC->AC):(s.Gh f).Gh g=s.Gh λa=>g (f a):=by
 simp [St.Gh,List.map_map,Function.comp_def,yN,zQ]
theorem wX (f:AC->AC) (H:List (Nat×OB)) (l:Nat): ∀(B:List (Nat×Nat×Nat)),FQ B (H.map λp=>(p.1,p.2.map f)) l=FQ B H l
 | []=>FT f H l
 |(k,o,n)::r=>by simp only [FQ];rw [wX f H l r]
theorem yA (B:List (Nat×Nat×Nat)) (s:St):(s.Gh Mj).whole B=s.whole B:=by
 unfold St.whole
 rw [xb]
 congr 1
 funext a
 cases a with
 |own l off len=>simp only [Mj,aV,St.Gh,wX]
 |_=>rfl
theorem yz {B:List (Nat×Nat×Nat)} {s t:St} (h:s.Gh Mj=t.Gh Mj):s.whole B=t.whole B:=by rw [<-yA B s,h,yA]
theorem jO (f:AC->AC): ∀(fx:List Bool) (a b:List AV),(Pe fx a b).map (·.map f)=Pe fx (a.map (·.map f)) (b.map (·.map f))
 | [],_,_=>by simp [Pe]
 |_::_,[],_=>by simp [Pe]
 |true::_,_::_,[]=>by simp [Pe]
 |false::_,_::_,[]=>by simp [Pe]
 |true::fx,x::a,y::b=>by simp only [Pe,List.map_cons,jO f fx a b]
 |false::fx,x::a,y::b=>by simp only [Pe,List.map_cons,jO f fx a b]
theorem nU (f:AC->AC) (fx:List Bool) (a b:St):(St.pU fx a b).Gh f=St.pU fx (a.Gh f) (b.Gh f):=by
 simp only [St.pU,St.Gh,jO]
theorem nT (p:Nat->Bool): ∀(i:Nat) (l0 l1:List AV),(∀t,(l0.getD t .undef).Qk=true->p (i+t)=true->l1.getD t .undef=l0.getD t .undef)->
  Pe (Hm p i l0) l0 (Nz (Hm p i l0) l1)=l1
 |_,[],l1,_=>by simp [Hm,Nz,Pe]
 |i,a::r,[],_=>by
  simp only [Hm]
  cases (a.Qk&&p i)<;>simp [Nz,Pe]
 |i,a::r,b::s,h=>by
  have hr:=nT p (i+1) r s λt h1 h2=>by
   have:=h (t+1) (by simpa using h1) (by rw [show i+(t+1)=i+1+t by omega];exact h2)
   simpa using this
  simp only [Hm]
  cases hc:(a.Qk&&p i) with
  |false=>simp only [Nz,Pe];rw [hr]
  |true=>
   simp only [Nz,Pe]
   rw [hr]
   simp only [Bool.and_eq_true] at hc
   have:=h 0 (by simpa using hc.1) hc.2
   simp only [List.getD_cons_zero] at this
   rw [this]
theorem ao: ∀(f:List Bool) (l:List AV),(Nz f l).length=l.length
 | [],l=>by simp [Nz]
 |true::f,[]=>by simp [Nz]
 |false::f,[]=>by simp [Nz]
 |true::f,a::l=>by simp [Nz,ao f l]
 |false::f,a::l=>by simp [Nz,ao f l]
theorem bB: ∀(l:List AV) {R:Type} (v:ll l R),(Pl l v).1.length=l.length
 | [],_,_=>rfl
 |c::l,_,v=>by simp [Pl,bB l]
theorem rX (p:Nat->Bool): ∀(i:Nat) (l0 l:List AV) (t:Nat),l.length=l0.length->(l0.getD t .undef).Qk=true->p (i+t)=true->(Pe (Hm p i l0) l0 l).getD t .undef=l0.getD t .undef
 |_,[],_,t,_,h,_=>by simp [AV.Qk] at h
 |i,a::r,[],_,h,_,_=>by simp at h
 |i,a::r,b::s,0,_,h1,h2=>by
  have:(a.Qk&&p i)=true:=by
   simp only [Bool.and_eq_true]
   exact ⟨by simpa using h1,h2⟩
  simp only [Hm,this,Pe,List.getD_cons_zero]
 |i,a::r,b::s,t+1,hl,h1,h2=>by
  have hr:=rX p (i+1) r s t (by simpa using hl) (by simpa using h1) (by rw [show i+1+t=i+(t+1) by omega];exact h2)
  simp only [Hm]
  cases (a.Qk&&p i)<;>simpa only [Pe,List.getD_cons_succ] using hr
theorem ew {B:List (Nat×Nat×Nat)} {H:List (Nat×OB)} {c:AC} {K:Prop} (h:sD B H c K):aV B H c=c/\K:=by
 cases c with
 |own l off len=>obtain ⟨h1,h2,h3⟩:=h;exact ⟨by rw [h1,h2];rfl,h3⟩
 |_=>exact ⟨rfl,h⟩
theorem Ut {B:List (Nat×Nat×Nat)} {H:List (Nat×OB)} : ∀ {l:List AC} {K:Prop},Yb B H l K->l.map (aV B H)=l/\K
 | [],_,h=>⟨rfl,h⟩
 |c::l,_,h=>by
  obtain ⟨h1,h2⟩:=ew h
  obtain ⟨h3,h4⟩:=Ut h2
  exact ⟨by rw [List.map_cons,h1,h3],h4⟩
theorem py {B:List (Nat×Nat×Nat)} {H:List (Nat×OB)} {c:AV} {K:Prop} (h:CU B H c K):c.map (aV B H)=c/\K:=by
 cases c with
 | «at»a=>obtain ⟨h1,h2⟩:=ew h;exact ⟨by rw [AV.map,h1],h2⟩
 |agg cs=>obtain ⟨h1,h2⟩:=Ut h;exact ⟨by rw [AV.map,h1],h2⟩
 |Uo _ _ _=>exact ⟨rfl,h⟩
 |Hv l=>exact h.elim
theorem bC {B:List (Nat×Nat×Nat)} {H:List (Nat×OB)} : ∀ {l:List AV} {K:Prop},Un B H l K->l.map (·.map (aV B H))=l/\K
 | [],_,h=>⟨rfl,h⟩
 |c::l,_,h=>by
  obtain ⟨h1,h2⟩:=py h
  obtain ⟨h3,h4⟩:=bC h2
  exact ⟨by rw [List.map_cons,h1,h3],h4⟩
theorem Ie {B:List (Nat×Nat×Nat)} {H:List (Nat×OB)} : ∀ {l:List (Nat×OB)} {K:Prop},dG B H l K->l.map (λp=>(p.1,p.2.map (aV B H)))=l/\K
 | [],_,h=>⟨rfl,h⟩
 |(k, .var t vs)::l,_,h=>by
  obtain ⟨h1,h2⟩:=Ut h
  obtain ⟨h3,h4⟩:=Ie h2
  exact ⟨by rw [List.map_cons,h3];simp only [OB.map,h1],h4⟩
 |(k, .arr a b c d e)::l,_,h=>by
  obtain ⟨h3,h4⟩:=Ie (l:=l) h
  exact ⟨by rw [List.map_cons,h3];rfl,h4⟩
 |(k, .Da a b c)::l,_,h=>by
  obtain ⟨h3,h4⟩:=Ie (l:=l) h
  exact ⟨by rw [List.map_cons,h3];rfl,h4⟩
 |(k, .Ah a b c d e)::l,_,h=>by
  obtain ⟨h3,h4⟩:=Ie (l:=l) h
  exact ⟨by rw [List.map_cons,h3];rfl,h4⟩
 |(k, .Ok a b)::l,_,h=>by
  obtain ⟨h3,h4⟩:=Ie (l:=l) h
  exact ⟨by rw [List.map_cons,h3];rfl,h4⟩
theorem eY {B:List (Nat×Nat×Nat)} {s:St} {K:Prop} (h:uE B s K):s.whole B=s/\K:=by
 obtain ⟨h1,h2⟩:=bC h
 obtain ⟨h3,h4⟩:=Ie h2
 exact ⟨by unfold St.whole St.Gh;rw [h1,h3],h4⟩
theorem bZ (live:List Nat): ∀(i:Nat) (l:List AV) (t:Nat),i+t∉live->(Fu live i l).getD t .undef= .undef
 |_,[],_,_=>rfl
 |i,v::r,0,h=>by simp [Fu];intro hn;exact absurd hn h
 |i,v::r,t+1,h=>by
  simp only [Fu,List.getD_cons_succ]
  exact bZ live (i+1) r t (by rw [show i+1+t=i+(t+1) by omega];exact h)
theorem bj: ∀(l:List Nat) (st:St) (t:Nat),st.get t= .undef->(Yn l st).get t= .undef
 | [],_,_,h=>h
 |a::r,st,t,h=>bj r _ t (by
  show (st.tmps.map (·.map (Ay a))).getD t .undef= .undef
  rw [Nw (Ay a) rfl,show st.tmps.getD t .undef= .undef from h]
  rfl)
theorem uh (l k:Nat) (st:St) (t:Nat) (h:st.get t= .undef):(st.rename l k).get t= .undef:=by
 unfold St.rename
 split
 ·split
  ·show (st.tmps.map (·.map (Ob l k))).getD t .undef= .undef
   rw [Nw (Ob l k) rfl,show st.tmps.getD t .undef= .undef from h]
   rfl
  ·exact h
 ·exact h
theorem Zd: ∀(n i:Nat) (st:St) (t:Nat),st.get t= .undef->(Hs n i st).get t= .undef
 |0,_,_,_,h=>h
 |n+1,i,st,t,h=>by
  simp only [Hs]
  refine Zd n (i+1) _ t ?_
  split
  ·split
   ·split
    ·exact h
    ·exact uh _ _ _ t h
   ·exact h
  ·exact h
theorem ud (st:St) (d:Nat) (v:AV) (t:Nat) (Ey:t≠d) (h:st.get t= .undef):(st.put (some d) v).get t= .undef:=by rw [Vc _ _ Ey];exact h
theorem o7 (k:Nat) (st:St) (t:Nat) (h:st.get t= .undef):(Vn k st).get t= .undef:=by
 unfold Vn
 split
 ·rename_i l off len hg
  split
  ·split
   ·refine ud _ _ _ _ (λe=>by subst e;rw [hg] at h;cases h) ?_
    show (st.tmps.map (·.map (Ay l))).getD t .undef= .undef
    rw [Nw (Ay l) rfl,show st.tmps.getD t .undef= .undef from h]
    rfl
   ·exact h
  ·exact h
 ·exact h
theorem ga (c:Nat) (st:St) (t:Nat) (h:st.get t= .undef):(Ke c st).get t= .undef:=by
 unfold Ke
 split
 ·split
  ·rename_i l off len hc
   split
   ·split
    ·split
     ·show (st.tmps.map (·.map (Ay l))).getD t .undef= .undef
      rw [Nw (Ay l) rfl,show st.tmps.getD t .undef= .undef from h]
      rfl
     ·exact h
    ·exact h
   ·exact h
  ·exact h
 ·exact h
theorem Wx (live:List Nat): ∀(n i:Nat) (st:St) (t:Nat),st.get t= .undef->(Jv live n i st).get t= .undef
 |0,_,_,_,h=>h
 |n+1,i,st,t,h=>by
  simp only [Jv]
  refine Wx live n (i+1) _ t ?_
  split
  ·exact ga _ _ _ h
  ·exact h
theorem bq (live:List Nat): ∀(n i:Nat) (st:St) (t:Nat),st.get t= .undef->(Jj live n i st).get t= .undef
 |0,_,st,t,h=>Wx live 16 0 st t h
 |n+1,i,st,t,h=>by
  simp only [Jj]
  refine bq live n (i+1) _ t ?_
  split
  ·exact o7 _ _ _ h
  ·exact h
theorem z0 {live:List Nat} {st:St} {t:Nat} (h:((st.clean live).get t).Qk=true):t∈live:=by
 refine Classical.byContradiction λhn=>?_
 have:(st.clean live).get t= .undef:=by
  have key: ∀s:St,s.get t= .undef->(if live.contains Wy then Hs s.tmps.length 0 s else s).get t= .undef:=by
   intro s hs
   split
   ·exact Zd _ _ s t hs
   ·exact hs
  unfold St.clean
  have LN: ∀s:St,s.get t= .undef->(if live.any (λt=>Nat.ble Sn t) then s.El live else s).get t= .undef:=by
   intro s hs
   split<;>exact hs
  have LO: ∀s:St,s.get t= .undef->(if live.any (λt=>Nat.ble Lo t&&Nat.blt t Wy) then Jj live s.tmps.length 0 s else s).get t= .undef:=by
   intro s hs
   split
   ·exact bq _ _ _ s t hs
   ·exact hs
  refine LN _ (key _ (LO _ (bj _ _ t ?_)))
  exact bZ live 0 st.tmps t (by simpa using hn)
 rw [this] at h
 cases h
theorem nA {c:AV} (h:c.Qk=true): ∃fr τ,∃x:τ.den,c= .at (.data fr τ x):=by
 unfold AV.Qk at h
 split at h
 ·exact ⟨_,_,_,rfl⟩
 ·cases h
theorem HR {live:Nat->List Nat} {c:Code} {t:Nat} (h:stays live c t=true):t∉writes c/\Vg live c t=true:=by
 unfold stays at h
 simpa using h
section
variable {T:Tab} {Γ:Env} {live:Nat->List Nat}
theorem Ix.keeps {c:Code} {st:St} {Q:Gt->St->Prop} (h:Ix T Γ live c st Q):Ix T Γ live c st (λe s=>Q e s/\Ev (λt=>t∉writes c/\Vg live c t=true) st s):=by
 exact AW h st _ Aw.rfl'.on λt ht=>ht
def wsQ (Q:Gt->WS->Prop) (e:Gt) (s:St):Prop:= ∃w':WS,w'.st=s/\w'.OK/\Q e w'
theorem x9 {c:Code} (ih: ∀(w:WS) (Q:Gt->WS->Prop),w.OK->Yg T Γ live c w Q->Ix T Γ live c w.st (wsQ Q)) {w:WS} {Q:Gt->WS->Prop} (h:Yg T Γ live (.loop c) w Q):
  Ix T Γ live (.loop c) w.st (wsQ Q):=by
 simp only [Yg,EY,fH] at h
 obtain ⟨WQ,I,μ,h0,hs⟩:=eY h
 have Ad: ∀(t:Nat),((w.st.clean (live (Cd c))).get t).Qk=true->stays live c t=true-> ∀v,((St.pU (Hm (stays live c) 0 (w.st.clean (live (Cd c))).tmps) (w.st.clean (live (Cd c))) (de ((w.st.clean (live (Cd c))).mask (Hm (stays live c) 0 (w.st.clean (live (Cd c))).tmps)) v)).whole (So T.parts (w.st.clean (live (Cd c))).tmps)).get t=(w.st.clean (live (Cd c))).get t:=by
  intro t h1 h2 v
  have h3:=rX (stays live c) 0 (w.st.clean (live (Cd c))).tmps (de ((w.st.clean (live (Cd c))).mask (Hm (stays live c) 0 (w.st.clean (live (Cd c))).tmps)) v).tmps t
   ((bB _ _).trans (ao _ _)) h1 (by simpa using h2)
  obtain ⟨fr,τ,x,hx⟩:=nA h1
  refine (Jr _ _ rfl λ_ _ _=>rfl) t fr τ x ?_|>.trans hx.symm
  exact h3.trans hx
 have TF: ∀(s1:St),(∀t,((w.st.clean (live (Cd c))).get t).Qk=true->stays live c t=true->s1.get t=(w.st.clean (live (Cd c))).get t)->s1.whole (So T.parts (w.st.clean (live (Cd c))).tmps)=s1-> ∀v,df ((w.st.clean (live (Cd c))).mask (Hm (stays live c) 0 (w.st.clean (live (Cd c))).tmps)) (s1.mask (Hm (stays live c) 0 (w.st.clean (live (Cd c))).tmps))=some v->
   s1=(St.pU (Hm (stays live c) 0 (w.st.clean (live (Cd c))).tmps) (w.st.clean (live (Cd c))) (de ((w.st.clean (live (Cd c))).mask (Hm (stays live c) 0 (w.st.clean (live (Cd c))).tmps)) v)).whole (So T.parts (w.st.clean (live (Cd c))).tmps):=by
  intro s1 hf hwh v hv
  have h1:=dg hv
  have h2:St.pU (Hm (stays live c) 0 (w.st.clean (live (Cd c))).tmps) (w.st.clean (live (Cd c))) (s1.mask (Hm (stays live c) 0 (w.st.clean (live (Cd c))).tmps))=s1:=by
   simp only [St.pU,St.mask]
   rw [nT (stays live c) 0 (w.st.clean (live (Cd c))).tmps s1.tmps λt h3 h4=>hf t h3 (by simpa using h4)]
  have h3:(St.pU (Hm (stays live c) 0 (w.st.clean (live (Cd c))).tmps) (w.st.clean (live (Cd c))) (de ((w.st.clean (live (Cd c))).mask (Hm (stays live c) 0 (w.st.clean (live (Cd c))).tmps)) v)).whole (So T.parts (w.st.clean (live (Cd c))).tmps)=s1.whole (So T.parts (w.st.clean (live (Cd c))).tmps):=by
   refine yz ?_
   rw [nU,h1,<-nU,h2]
  rw [h3,hwh]
 refine HB (λv=>(St.pU (Hm (stays live c) 0 (w.st.clean (live (Cd c))).tmps) (w.st.clean (live (Cd c))) (de ((w.st.clean (live (Cd c))).mask (Hm (stays live c) 0 (w.st.clean (live (Cd c))).tmps)) v)).whole (So T.parts (w.st.clean (live (Cd c))).tmps)) I μ _ h0 (TF _ (λ_ _ _=>rfl) WQ _ (lf _ (fW _ _ (Ng h)))) ?_
 intro a ha
 refine (Ix.keeps (ih ⟨[],_⟩ _ (λt b h=>by cases h) (hs a ha))).mono ?_
 intro e s hQ
 obtain ⟨⟨w',h1,h2,h3⟩,hk⟩:=hQ
 subst h1
 cases e with
 |normal=>
  obtain ⟨h4,h5⟩:=eY h3
  obtain ⟨v',h6,h7,h8⟩:=As.1 h5
  refine ⟨v',TF _ (λt hd ht=>?_) h4 _ h6,h7,h8⟩
  obtain ⟨fr,τ,x,hx⟩:=nA hd
  rw [hx]
  exact eO (live (Cd c)) w'.st t fr τ x (z0 hd) (hk t fr τ x (HR ht) (by rw [Ad t hd ht a];exact hx))
 |exit id=>exact ⟨w',rfl,h2,h3⟩
 |ret=>exact ⟨w',rfl,h2,h3⟩
theorem kE: ∀(c:Code) (w:WS) (Q:Gt->WS->Prop),w.OK->Yg T Γ live c w Q->Ix T Γ live c w.st (wsQ Q):=by
 intro c
 induction c with
 |skip=>intro w Q hw h;exact .skip ⟨w,rfl,hw,h⟩
 |label _=>intro w Q hw h;exact .label ⟨w,rfl,hw,h⟩
 |exit _=>intro w Q hw h;exact .exit ⟨w,rfl,hw,h⟩
 |ret=>intro w Q hw h;exact .ret ⟨w,rfl,hw,h⟩
 |region id ops draw=>
  intro w Q hw h
  have hw':WS.OK {w with st:=w.st.gP ops} := λt b ht=>by
   obtain ⟨fr,e⟩:=hw t b ht
   exact ⟨fr,eP ops w.st t fr .bool b e⟩
  exact .region ((qf hw' h).mono λs ⟨w',h1,h2,h3⟩=>⟨w',h1,h2,ae.1 h3⟩)
 |seq x y ihx ihy=>
  intro w Q hw h
  refine MY ((ihx w _ hw h).mono λe s hQ=>?_)
  obtain ⟨w',h1,h2,h3⟩:=hQ
  subst h1
  cases e with
  |normal=>exact ihy w' Q h2 h3
  |exit id=>exact ⟨w',rfl,h2,h3⟩
  |ret=>exact ⟨w',rfl,h2,h3⟩
 |cond c x y ihx ihy=>
  intro w Q hw h
  obtain ⟨fr,b,w',h1,h2,h3,h4⟩:=qY hw h
  refine GZ h1 (λhb=>?_) (λhb=>?_)
  ·subst hb;rw [<-h2];exact ihx w' Q h3 h4
  ·subst hb;rw [<-h2];exact ihy w' Q h3 h4
 |block id c ih=>
  intro w Q hw h
  refine AU ((ih w _ hw h).mono λe s hQ=>?_)
  obtain ⟨w',h1,h2,h3⟩:=hQ
  subst h1
  cases e with
  |normal=>exact ⟨w',rfl,h2,h3⟩
  |ret=>exact ⟨w',rfl,h2,h3⟩
  |exit FM=>
   simp only at h3
   simp only [rE]
   split at h3
   ·rename_i hi;rw [if_pos hi];exact ⟨w',rfl,h2,h3⟩
   ·rename_i hi;rw [if_neg hi];exact ⟨w',rfl,h2,h3⟩
 |loop c ih=>intro w Q hw h;exact x9 ih h
 |_=>intro w Q hw h;exact absurd h (by simp [Yg])
theorem mO {s:Spec} {fn:Func} {P:s.res.den->Prop} {st:St} (h:UP T s fn P st): ∃fr y,gY T s fn st=some (fr,y)/\(fr||!s.fresh)=true/\P y:=by
 obtain ⟨p,h1,h2⟩:=As.1 h
 split at h2
 ·rename_i hf;exact ⟨p.1,p.2,h1,hf,h2⟩
 ·cases h2
theorem EX {s:Spec} {fn:Func} {x:s.arg.den} {P:s.res.den->Prop} (h:fnW T Γ s fn x P):JE T Γ s fn x P:=by
 unfold fnW at h
 obtain ⟨c,h1,h2⟩:=As.1 h
 refine ⟨c,h1,(kE c _ _ (λt b h=>by cases h) h2).mono λe st ⟨w,h4,h5,h6⟩=>?_⟩
 subst h4
 cases e with
 |normal=>exact ⟨λid hh=>(by cases hh),mO h6⟩
 |ret=>exact ⟨λid hh=>(by cases hh),mO h6⟩
 |exit id=>cases h6
theorem Wt {st:St} {K:Prop} : ∀(vs:List AC) (cs:List (Bool×CK)),cD st K vs cs->cC st vs cs/\K
 | [],cs,h=>⟨by simp [cC],by simpa [cD] using h⟩
 |a::vs,[],h=>⟨by cases a<;>simp [cC],by cases a<;>simpa [cD] using h⟩
 |a::vs,(false,c)::r,h=>by
  have h:cD st K vs r:=by cases a<;>simpa only [cD] using h
  obtain ⟨h1,h2⟩:=Wt vs r h
  exact ⟨by cases a<;>simpa only [cC] using h1,h2⟩
 |a::vs,(true,c)::r,h=>by
  cases a with
  |own l off len=>
   simp only [cD] at h
   split at h
   ·rename_i hl
    obtain ⟨h1,h2⟩:=Wt vs r h.2
    refine ⟨?_,h2⟩
    simp only [cC,hl]
    exact ⟨h.1,h1⟩
   ·rename_i hl
    obtain ⟨h1,h2⟩:=Wt vs r h.2
    refine ⟨?_,h2⟩
    simp only [cC,hl]
    exact ⟨h.1,h1⟩
   ·exact h.elim
  |_=>exact ⟨by simp [cC],by simpa [cD] using h⟩
theorem aw {st:St} : ∀(cs:List CK) (as:List AC) (K:CKs.den cs->List Nat->Prop),jN st cs as K-> ∃x ls,Oa st cs as=some (x,ls)/\K x ls
 | [],[],K,h=>⟨(),[],rfl,h⟩
 | [],_::_,_,h=>h.elim
 |c::r,[],K,h=>by cases c<;>exact h.elim
 |c::r,a::as,K,h=>by
  have pv:Dy (ej st c a) (λp=>jN st r as λy t=>K (p.1,y) (p.2++t))-> ∃x ls,Oa st (c::r) (a::as)=some (x,ls)/\K x ls:= λh=>by
   obtain ⟨p,h1,h2⟩:=As.1 h
   obtain ⟨y,t,h3,h4⟩:=aw r as _ h2
   exact ⟨_,_,by simp only [Oa,h1,h3],h4⟩
  cases c with
  |Ah e te kp=>
   cases a with
   |own l off len=>
    simp only [jN] at h
    split at h
    ·rename_i hl
     split at h
     ·rename_i hc
      obtain ⟨⟨h1,h2⟩,h⟩:=h
      obtain ⟨y,t,h3,h4⟩:=aw r as _ h
      exact ⟨_,_,by simp only [Oa,ej,hl];rw [dif_pos ⟨hc.1,hc.2,h1,h2⟩];simp only [h3];rfl,h4⟩
     ·exact h.elim
    ·exact h.elim
   |_=>exact pv h
  |_=>exact pv h
theorem ix {st:St} {n:Nat} {as:List AC} {K:Prop} : ∀(ks:List (Nat×Nat)),tE st n as ks K->rJ st n as ks/\K
 | [],h=>⟨trivial,h⟩
 |(k,j)::r,h=>by
  simp only [tE] at h
  split at h
  ·rename_i l off len ha
   split at h
   ·rename_i p hl
    split at h
    ·rename_i hc
     simp only [Bool.and_eq_true] at hc
     obtain ⟨h1,h2⟩:=ix r h.2
     refine ⟨?_,h2⟩
     simp only [rJ,ha,hl]
     exact ⟨⟨Nat.eq_of_beq_eq_true hc.1,h.1,hc.2⟩,h1⟩
    ·exact h.elim
   ·exact h.elim
  ·exact h.elim
theorem cW {s:MSpec} {fn:Func} {x:Ins.den s.ins} {st:St} {cs:List AC} {P:CKs.den s.outs×IOs.den s.ins->Prop} (h:oc T s fn x st cs P):dS T s fn x st cs P:=by
 obtain ⟨l,h1,h⟩:=As.1 h
 obtain ⟨⟨as,ml⟩,h2,h⟩:=As.1 h
 obtain ⟨r,ls,h3,h⟩:=aw _ _ _ h
 obtain ⟨o,h4,h⟩:=As.1 h
 split at h
 ·rename_i hc
  obtain ⟨h5,h6⟩:=ix _ h
  unfold dS
  simp only [h1,h2,h3,h4]
  exact ⟨hc,h5,h6⟩
 ·exact h.elim
theorem l8 {s:MSpec} {fn:Func} {x:Ins.den s.ins} {st:St} {P:CKs.den s.outs×IOs.den s.ins->Prop} (h:EA T s fn x st P):JD T s fn x st P:=by
 unfold EA at h
 unfold JD
 cases hp:s.ptr with
 |none=>rw [hp] at h;exact cW h
 |some p=>
  rw [hp] at h
  simp only at h⊢
  split at h
  ·rename_i tid vs hl
   split at h
   ·rename_i hc
    simp only [Bool.and_eq_true] at hc
    obtain ⟨h1,h2⟩:=hc
    have h1:tid=p.1:=Nat.eq_of_beq_eq_true h1
    have h2:=Nat.eq_of_beq_eq_true h2
    subst h1
    obtain ⟨cs,h3,h4⟩:=As.1 h
    obtain ⟨h5,h6⟩:=Wt vs s.ins h4
    exact ⟨vs,cs,hl,h2,h3,h5,cW h6⟩
   ·exact h.elim
  ·exact h.elim
theorem ze {s:MSpec} {fn:Func} {x:Ins.den s.ins} {P:CKs.den s.outs×IOs.den s.ins->Prop} (h:fnMW T Γ s fn x P):RY T Γ s fn x P:=by
 unfold fnMW at h
 split at h
 ·cases h
 rename_i hlen
 obtain ⟨c,h1,h2⟩:=As.1 h
 refine ⟨hlen,c,h1,(kE c _ _ (λt b h=>by cases h) h2).mono λe st ⟨w,h4,h5,h6⟩=>?_⟩
 subst h4
 cases e with
 |normal=>exact ⟨λid hh=>(by cases hh),l8 h6⟩
 |ret=>exact ⟨λid hh=>(by cases hh),l8 h6⟩
 |exit id=>cases h6
theorem Bf.ofW {P:Program} (hT:Bz P T) (Mg:Ic P Γ) (hm:P.follows .mixedOrders=true) {f:FuncId} {fn:Func} (hf:P.funcs[f]?=some fn) (hn:(fn.name== "runtime.NumGoroutine")=false)
  (hb:fn.body.isNone=false) (s:MSpec) (h: ∀x y,s.fn x=some y->fnMW T Γ s fn x (λz=>z=y)):Bf P f s:=
 ⟨bX hf hn hb,λw S π us x r o g vs h1 hg h2 h3 hS h4 h5=>pD hT Mg hm hf s w S π us x r o g vs h1 hg h2 h3 hS h4 (ze (h x (r,o) h5))⟩
theorem Sound.ofW {P:Program} (hT:Bz P T) (Mg:Ic P Γ) (hm:P.follows .mixedOrders=true) {f:FuncId} {fn:Func} (hf:P.funcs[f]?=some fn) (hn:(fn.name== "runtime.NumGoroutine")=false)
  (hb:fn.body.isNone=false) (s:Spec) (h: ∀x y,s.fn x=some y->fnW T Γ s fn x (λz=>z=y)):Sound P f s:=
 NA hT Mg hm hf hn hb s λx y hx=>EX (h x y hx)
end
end Go.Proofs.YtfolipnappekaaaGreat
