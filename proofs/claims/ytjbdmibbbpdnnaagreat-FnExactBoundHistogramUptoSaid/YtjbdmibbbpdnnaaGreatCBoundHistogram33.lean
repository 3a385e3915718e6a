/-
  Part 34 of the proof that the statement FnExactBoundHistogram holds.
-/
import Derived.Test.YtjbdmibbbpdnnaaGreatCBoundHistogram32
namespace Go.Proofs.YtjbdmibbbpdnnaaGreat
open Go.RowKit
theorem Ng {B:List (Nat×Nat×Nat)} {H:List (Nat×OB)} : ∀ {l:List AV} {K:Prop},Uq B H l K-> ∀c∈l,c.eJ=true
 | [],_,_,c,hc=>by cases hc
 |d::l,K,h,c,hc=>by
  simp only [Uq] at h
  cases d with
  |Iw l'=>exact h.elim
  | «at»a=>
   rcases List.mem_cons.1 hc with rfl|hc
   ·rfl
   ·have h':Uq B H l K:=by
     cases a with
     |own k o n=>exact h.2.2
     |_=>exact h
    exact Ng h' c hc
  |Ur _ _ _=>
   rcases List.mem_cons.1 hc with rfl|hc
   ·rfl
   ·exact Ng h c hc
  |agg cs=>
   rcases List.mem_cons.1 hc with rfl|hc
   ·rfl
   ·have: ∀(cs:List AC) (Q:Prop),Yb B H cs Q->Q:=by
     intro cs
     induction cs with
     |nil=>exact λQ h=>h
     |cons a cs ih=>
      intro Q h
      have h2:Yb B H cs Q:=by
       cases a with
       |own k o n=>exact h.2.2
       |_=>exact h
      exact ih Q h2
    exact Ng (this cs _ h) c hc
theorem fO: ∀(f:List Bool) (l:List AV),(∀c∈l,c.eJ=true)-> ∀c∈Oa f l,c.eJ=true
 | [],l,h=>by simpa [Oa] using h
 |true::f,[],h=>by simp [Oa] at h⊢
 |false::f,[],h=>by simp [Oa] at h⊢
 |true::f,a::l,h=>by
  intro c hc
  simp only [Oa,List.mem_cons] at hc
  rcases hc with rfl|hc
  ·rfl
  ·exact fO f l (λc hc=>h c (List.mem_cons_of_mem _ hc)) c hc
 |false::f,a::l,h=>by
  intro c hc
  simp only [Oa,List.mem_cons] at hc
  rcases hc with rfl|hc
  ·exact h c (by simp)
  ·exact fO f l (λc hc=>h c (List.mem_cons_of_mem _ hc)) c hc
theorem EL (f:AC->AC) (H:List (Nat×OB)) (l:Nat):lenOf (H.map λp=>(p.1,p.2.map f)) l=lenOf H l:=by
 unfold lenOf
 rw [Jj]
 cases Ad H l with
 |none=>rfl
 |some b=>cases b<;>rfl
theorem yl (f g:AC->AC) (c:AV):(c.map f).map g=c.map λa=>g (f a):=by
 cases c<;>simp [AV.map]
theorem zp (f g:AC->AC) (c:OB):(c.map f).map g=c.map λa=>g (f a):=by
 cases c<;>simp [OB.map]
theorem wC (s:St) (f g:AC->AC):(s.Gj f).Gj g=s.Gj λa=>g (f a):=by
 simp [St.Gj,List.map_map,Function.comp_def,yl,zp]
theorem wk (f:AC->AC) (H:List (Nat×OB)) (l:Nat): ∀(B:List (Nat×Nat×Nat)),EJ B (H.map λp=>(p.1,p.2.map f)) l=EJ B H l
 | []=>EL f H l
 |(k,o,n)::r=>by simp only [EJ];rw [wk f H l r]
theorem ya (B:List (Nat×Nat×Nat)) (s:St):(s.Gj Mg).whole B=s.whole B:=by
 unfold St.whole
 rw [wC]
 congr 1
 funext a
 cases a with
 |own l off len=>simp only [Mg,aW,St.Gj,wk]
 |_=>rfl
theorem xY {B:List (Nat×Nat×Nat)} {s t:St} (h:s.Gj Mg=t.Gj Mg):s.whole B=t.whole B:=by rw [<-ya B s,h,ya]
theorem jy (f:AC->AC): ∀(fx:List Bool) (a b:List AV),(Pk fx a b).map (·.map f)=Pk fx (a.map (·.map f)) (b.map (·.map f))
 | [],_,_=>by simp [Pk]
 |_::_,[],_=>by simp [Pk]
 |true::_,_::_,[]=>by simp [Pk]
 |false::_,_::_,[]=>by simp [Pk]
 |true::fx,x::a,y::b=>by simp only [Pk,List.map_cons,jy f fx a b]
 |false::fx,x::a,y::b=>by simp only [Pk,List.map_cons,jy f fx a b]
theorem nH (f:AC->AC) (fx:List Bool) (a b:St):(St.pD fx a b).Gj f=St.pD fx (a.Gj f) (b.Gj f):=by
 simp only [St.pD,St.Gj,jy]
theorem nG (p:Nat->Bool): ∀(i:Nat) (l0 l1:List AV),(∀t,(l0.getD t .undef).Qt=true->p (i+t)=true->l1.getD t .undef=l0.getD t .undef)->
  Pk (Hm p i l0) l0 (Oa (Hm p i l0) l1)=l1
 |_,[],l1,_=>by simp [Hm,Oa,Pk]
 |i,a::r,[],_=>by
  simp only [Hm]
  cases (a.Qt&&p i)<;>simp [Oa,Pk]
 |i,a::r,b::s,h=>by
  have hr:=nG p (i+1) r s λt h1 h2=>by
   have:=h (t+1) (by simpa using h1) (by rw [show i+(t+1)=i+1+t by omega];exact h2)
   simpa using this
  simp only [Hm]
  cases hc:(a.Qt&&p i) with
  |false=>simp only [Oa,Pk];rw [hr]
  |true=>
   simp only [Oa,Pk]
   rw [hr]
   simp only [Bool.and_eq_true] at hc
   have:=h 0 (by simpa using hc.1) hc.2
   simp only [List.getD_cons_zero] at this
   rw [this]
theorem aq: ∀(f:List Bool) (l:List AV),(Oa f l).length=l.length
 | [],l=>by simp [Oa]
 |true::f,[]=>by simp [Oa]
 |false::f,[]=>by simp [Oa]
 |true::f,a::l=>by simp [Oa,aq f l]
 |false::f,a::l=>by simp [Oa,aq f l]
theorem bz: ∀(l:List AV) {R:Type} (v:kX l R),(Pw l v).1.length=l.length
 | [],_,_=>rfl
 |c::l,_,v=>by simp [Pw,bz l]
theorem re (p:Nat->Bool): ∀(i:Nat) (l0 l:List AV) (t:Nat),l.length=l0.length->(l0.getD t .undef).Qt=true->p (i+t)=true->(Pk (Hm p i l0) l0 l).getD t .undef=l0.getD t .undef
 |_,[],_,t,_,h,_=>by simp [AV.Qt] at h
 |i,a::r,[],_,h,_,_=>by simp at h
 |i,a::r,b::s,0,_,h1,h2=>by
  have:(a.Qt&&p i)=true:=by
   simp only [Bool.and_eq_true]
   exact ⟨by simpa using h1,h2⟩
  simp only [Hm,this,Pk,List.getD_cons_zero]
 |i,a::r,b::s,t+1,hl,h1,h2=>by
  have hr:=re p (i+1) r s t (by simpa using hl) (by simpa using h1) (by rw [show i+1+t=i+(t+1) by omega];exact h2)
  simp only [Hm]
  cases (a.Qt&&p i)<;>simpa only [Pk,List.getD_cons_succ] using hr
theorem ef {B:List (Nat×Nat×Nat)} {H:List (Nat×OB)} {c:AC} {K:Prop} (h:s6 B H c K):aW B H c=c/\K:=by
 cases c with
 |own l off len=>obtain ⟨h1,h2,h3⟩:=h;exact ⟨by rw [h1,h2];rfl,h3⟩
 |_=>exact ⟨rfl,h⟩
theorem Uu {B:List (Nat×Nat×Nat)} {H:List (Nat×OB)} : ∀ {l:List AC} {K:Prop},Yb B H l K->l.map (aW B H)=l/\K
 | [],_,h=>⟨rfl,h⟩
 |c::l,_,h=>by
  obtain ⟨h1,h2⟩:=ef h
  obtain ⟨h3,h4⟩:=Uu h2
  exact ⟨by rw [List.map_cons,h1,h3],h4⟩
theorem p7 {B:List (Nat×Nat×Nat)} {H:List (Nat×OB)} {c:AV} {K:Prop} (h:BM B H c K):c.map (aW B H)=c/\K:=by
 cases c with
 | «at»a=>obtain ⟨h1,h2⟩:=ef h;exact ⟨by rw [AV.map,h1],h2⟩
 |agg cs=>obtain ⟨h1,h2⟩:=Uu h;exact ⟨by rw [AV.map,h1],h2⟩
 |Ur _ _ _=>exact ⟨rfl,h⟩
 |Iw l=>exact h.elim
theorem bA {B:List (Nat×Nat×Nat)} {H:List (Nat×OB)} : ∀ {l:List AV} {K:Prop},Uq B H l K->l.map (·.map (aW B H))=l/\K
 | [],_,h=>⟨rfl,h⟩
 |c::l,_,h=>by
  obtain ⟨h1,h2⟩:=p7 h
  obtain ⟨h3,h4⟩:=bA h2
  exact ⟨by rw [List.map_cons,h1,h3],h4⟩
theorem Ia {B:List (Nat×Nat×Nat)} {H:List (Nat×OB)} : ∀ {l:List (Nat×OB)} {K:Prop},dH B H l K->l.map (λp=>(p.1,p.2.map (aW B H)))=l/\K
 | [],_,h=>⟨rfl,h⟩
 |(k, .var t vs)::l,_,h=>by
  obtain ⟨h1,h2⟩:=Uu h
  obtain ⟨h3,h4⟩:=Ia h2
  exact ⟨by rw [List.map_cons,h3];simp only [OB.map,h1],h4⟩
 |(k, .arr a b c d e)::l,_,h=>by
  obtain ⟨h3,h4⟩:=Ia (l:=l) h
  exact ⟨by rw [List.map_cons,h3];rfl,h4⟩
 |(k, .Dc a b c)::l,_,h=>by
  obtain ⟨h3,h4⟩:=Ia (l:=l) h
  exact ⟨by rw [List.map_cons,h3];rfl,h4⟩
 |(k, .Al a b c d e)::l,_,h=>by
  obtain ⟨h3,h4⟩:=Ia (l:=l) h
  exact ⟨by rw [List.map_cons,h3];rfl,h4⟩
 |(k, .Oo a b)::l,_,h=>by
  obtain ⟨h3,h4⟩:=Ia (l:=l) h
  exact ⟨by rw [List.map_cons,h3];rfl,h4⟩
theorem eQ {B:List (Nat×Nat×Nat)} {s:St} {K:Prop} (h:u5 B s K):s.whole B=s/\K:=by
 obtain ⟨h1,h2⟩:=bA h
 obtain ⟨h3,h4⟩:=Ia h2
 exact ⟨by unfold St.whole St.Gj;rw [h1,h3],h4⟩
theorem bV (live:List Nat): ∀(i:Nat) (l:List AV) (t:Nat),i+t∉live->(Ga live i l).getD t .undef= .undef
 |_,[],_,_=>rfl
 |i,v::r,0,h=>by simp [Ga];intro hn;exact absurd hn h
 |i,v::r,t+1,h=>by
  simp only [Ga,List.getD_cons_succ]
  exact bV live (i+1) r t (by rw [show i+1+t=i+(t+1) by omega];exact h)
theorem bg: ∀(l:List Nat) (st:St) (t:Nat),st.get t= .undef->(Yn l st).get t= .undef
 | [],_,_,h=>h
 |a::r,st,t,h=>bg r _ t (by
  show (st.tmps.map (·.map (Ba a))).getD t .undef= .undef
  rw [Rw (Ba a) rfl,show st.tmps.getD t .undef= .undef from h]
  rfl)
theorem tH (l k:Nat) (st:St) (t:Nat) (h:st.get t= .undef):(st.rename l k).get t= .undef:=by
 unfold St.rename
 split
 ·split
  ·show (st.tmps.map (·.map (Oc l k))).getD t .undef= .undef
   rw [Rw (Oc l k) rfl,show st.tmps.getD t .undef= .undef from h]
   rfl
  ·exact h
 ·exact h
theorem Zc: ∀(n i:Nat) (st:St) (t:Nat),st.get t= .undef->(Hq n i st).get t= .undef
 |0,_,_,_,h=>h
 |n+1,i,st,t,h=>by
  simp only [Hq]
  refine Zc n (i+1) _ t ?_
  split
  ·split
   ·split
    ·exact h
    ·exact tH _ _ _ t h
   ·exact h
  ·exact h
theorem tD (st:St) (d:Nat) (v:AV) (t:Nat) (Fc:t≠d) (h:st.get t= .undef):(st.put (some d) v).get t= .undef:=by rw [Vd _ _ Fc];exact h
theorem nR (k:Nat) (st:St) (t:Nat) (h:st.get t= .undef):(Vq k st).get t= .undef:=by
 unfold Vq
 split
 ·rename_i l off len hg
  split
  ·split
   ·refine tD _ _ _ _ (λe=>by subst e;rw [hg] at h;cases h) ?_
    show (st.tmps.map (·.map (Ba l))).getD t .undef= .undef
    rw [Rw (Ba l) rfl,show st.tmps.getD t .undef= .undef from h]
    rfl
   ·exact h
  ·exact h
 ·exact h
theorem bp (live:List Nat): ∀(n i:Nat) (st:St) (t:Nat),st.get t= .undef->(Jl live n i st).get t= .undef
 |0,_,_,_,h=>h
 |n+1,i,st,t,h=>by
  simp only [Jl]
  refine bp live n (i+1) _ t ?_
  split
  ·exact nR _ _ _ h
  ·exact h
theorem yA {live:List Nat} {st:St} {t:Nat} (h:((st.clean live).get t).Qt=true):t∈live:=by
 refine Classical.byContradiction λhn=>?_
 have:(st.clean live).get t= .undef:=by
  have key: ∀s:St,s.get t= .undef->(if live.contains Wt then Hq s.tmps.length 0 s else s).get t= .undef:=by
   intro s hs
   split
   ·exact Zc _ _ s t hs
   ·exact hs
  unfold St.clean
  have KE: ∀s:St,s.get t= .undef->(if live.any (λt=>Nat.ble Sr t) then s.Ez live else s).get t= .undef:=by
   intro s hs
   split<;>exact hs
  have KF: ∀s:St,s.get t= .undef->(if live.any (λt=>Nat.ble Ln t&&Nat.blt t Wt) then Jl live s.tmps.length 0 s else s).get t= .undef:=by
   intro s hs
   split
   ·exact bp _ _ _ s t hs
   ·exact hs
  refine KE _ (key _ (KF _ (bg _ _ t ?_)))
  exact bV live 0 st.tmps t (by simpa using hn)
 rw [this] at h
 cases h
theorem nj {c:AV} (h:c.Qt=true): ∃fr τ,∃x:τ.den,c= .at (.data fr τ x):=by
 unfold AV.Qt at h
 split at h
 ·exact ⟨_,_,_,rfl⟩
 ·cases h
theorem GN {live:Nat->List Nat} {c:Code} {t:Nat} (h:stays live c t=true):t∉writes c/\Vh live c t=true:=by
 unfold stays at h
 simpa using h
section
variable {T:Tab} {Γ:Env} {live:Nat->List Nat}
theorem Jb.keeps {c:Code} {st:St} {Q:Gw->St->Prop} (h:Jb T Γ live c st Q):Jb T Γ live c st (λe s=>Q e s/\Fg (λt=>t∉writes c/\Vh live c t=true) st s):=by
 exact zT h st _ Bc.rfl'.on λt ht=>ht
def wsQ (Q:Gw->WS->Prop) (e:Gw) (s:St):Prop:= ∃w':WS,w'.st=s/\w'.OK/\Q e w'
theorem wz {c:Code} (ih: ∀(w:WS) (Q:Gw->WS->Prop),w.OK->Yg T Γ live c w Q->Jb T Γ live c w.st (wsQ Q)) {w:WS} {Q:Gw->WS->Prop} (h:Yg T Γ live (.loop c) w Q):
  Jb T Γ live (.loop c) w.st (wsQ Q):=by
 simp only [Yg,DS,fy] at h
 obtain ⟨VA,I,μ,h0,hs⟩:=eQ h
 have Ad: ∀(t:Nat),((w.st.clean (live (Ce c))).get t).Qt=true->stays live c t=true-> ∀v,((St.pD (Hm (stays live c) 0 (w.st.clean (live (Ce c))).tmps) (w.st.clean (live (Ce c))) (di ((w.st.clean (live (Ce c))).mask (Hm (stays live c) 0 (w.st.clean (live (Ce c))).tmps)) v)).whole (Su T.parts (w.st.clean (live (Ce c))).tmps)).get t=(w.st.clean (live (Ce c))).get t:=by
  intro t h1 h2 v
  have h3:=re (stays live c) 0 (w.st.clean (live (Ce c))).tmps (di ((w.st.clean (live (Ce c))).mask (Hm (stays live c) 0 (w.st.clean (live (Ce c))).tmps)) v).tmps t
   ((bz _ _).trans (aq _ _)) h1 (by simpa using h2)
  obtain ⟨fr,τ,x,hx⟩:=nj h1
  refine (Jr _ _ rfl λ_ _ _=>rfl) t fr τ x ?_|>.trans hx.symm
  exact h3.trans hx
 have RZ: ∀(s1:St),(∀t,((w.st.clean (live (Ce c))).get t).Qt=true->stays live c t=true->s1.get t=(w.st.clean (live (Ce c))).get t)->s1.whole (Su T.parts (w.st.clean (live (Ce c))).tmps)=s1-> ∀v,dj ((w.st.clean (live (Ce c))).mask (Hm (stays live c) 0 (w.st.clean (live (Ce c))).tmps)) (s1.mask (Hm (stays live c) 0 (w.st.clean (live (Ce c))).tmps))=some v->
   s1=(St.pD (Hm (stays live c) 0 (w.st.clean (live (Ce c))).tmps) (w.st.clean (live (Ce c))) (di ((w.st.clean (live (Ce c))).mask (Hm (stays live c) 0 (w.st.clean (live (Ce c))).tmps)) v)).whole (Su T.parts (w.st.clean (live (Ce c))).tmps):=by
  intro s1 hf hwh v hv
  have h1:=dk hv
  have h2:St.pD (Hm (stays live c) 0 (w.st.clean (live (Ce c))).tmps) (w.st.clean (live (Ce c))) (s1.mask (Hm (stays live c) 0 (w.st.clean (live (Ce c))).tmps))=s1:=by
   simp only [St.pD,St.mask]
   rw [nG (stays live c) 0 (w.st.clean (live (Ce c))).tmps s1.tmps λt h3 h4=>hf t h3 (by simpa using h4)]
  have h3:(St.pD (Hm (stays live c) 0 (w.st.clean (live (Ce c))).tmps) (w.st.clean (live (Ce c))) (di ((w.st.clean (live (Ce c))).mask (Hm (stays live c) 0 (w.st.clean (live (Ce c))).tmps)) v)).whole (Su T.parts (w.st.clean (live (Ce c))).tmps)=s1.whole (Su T.parts (w.st.clean (live (Ce c))).tmps):=by
   refine xY ?_
   rw [nH,h1,<-nH,h2]
  rw [h3,hwh]
 refine FU (λv=>(St.pD (Hm (stays live c) 0 (w.st.clean (live (Ce c))).tmps) (w.st.clean (live (Ce c))) (di ((w.st.clean (live (Ce c))).mask (Hm (stays live c) 0 (w.st.clean (live (Ce c))).tmps)) v)).whole (Su T.parts (w.st.clean (live (Ce c))).tmps)) I μ _ h0 (RZ _ (λ_ _ _=>rfl) VA _ (kS _ (fO _ _ (Ng h)))) ?_
 intro a ha
 refine (Jb.keeps (ih ⟨[],_⟩ _ (λt b h=>by cases h) (hs a ha))).mono ?_
 intro e s hQ
 obtain ⟨⟨w',h1,h2,h3⟩,hk⟩:=hQ
 subst h1
 cases e with
 |normal=>
  obtain ⟨h4,h5⟩:=eQ h3
  obtain ⟨v',h6,h7,h8⟩:=As.1 h5
  refine ⟨v',RZ _ (λt hd ht=>?_) h4 _ h6,h7,h8⟩
  obtain ⟨fr,τ,x,hx⟩:=nj hd
  rw [hx]
  exact eD (live (Ce c)) w'.st t fr τ x (yA hd) (hk t fr τ x (GN ht) (by rw [Ad t hd ht a];exact hx))
 |exit id=>exact ⟨w',rfl,h2,h3⟩
 |ret=>exact ⟨w',rfl,h2,h3⟩
theorem ke: ∀(c:Code) (w:WS) (Q:Gw->WS->Prop),w.OK->Yg T Γ live c w Q->Jb T Γ live c w.st (wsQ Q):=by
 intro c
 induction c with
 |skip=>intro w Q hw h;exact .skip ⟨w,rfl,hw,h⟩
 |label _=>intro w Q hw h;exact .label ⟨w,rfl,hw,h⟩
 |exit _=>intro w Q hw h;exact .exit ⟨w,rfl,hw,h⟩
 |ret=>intro w Q hw h;exact .ret ⟨w,rfl,hw,h⟩
 |region id ops draw=>
  intro w Q hw h
  exact .region ((pN hw h).mono λs ⟨w',h1,h2,h3⟩=>⟨w',h1,h2,ag.1 h3⟩)
 |seq x y ihx ihy=>
  intro w Q hw h
  refine LP ((ihx w _ hw h).mono λe s hQ=>?_)
  obtain ⟨w',h1,h2,h3⟩:=hQ
  subst h1
  cases e with
  |normal=>exact ihy w' Q h2 h3
  |exit id=>exact ⟨w',rfl,h2,h3⟩
  |ret=>exact ⟨w',rfl,h2,h3⟩
 |cond c x y ihx ihy=>
  intro w Q hw h
  obtain ⟨fr,b,w',h1,h2,h3,h4⟩:=qw hw h
  refine FT h1 (λhb=>?_) (λhb=>?_)
  ·subst hb;rw [<-h2];exact ihx w' Q h3 h4
  ·subst hb;rw [<-h2];exact ihy w' Q h3 h4
 |block id c ih=>
  intro w Q hw h
  refine zS ((ih w _ hw h).mono λe s hQ=>?_)
  obtain ⟨w',h1,h2,h3⟩:=hQ
  subst h1
  cases e with
  |normal=>exact ⟨w',rfl,h2,h3⟩
  |ret=>exact ⟨w',rfl,h2,h3⟩
  |exit EF=>
   simp only at h3
   simp only [qL]
   split at h3
   ·rename_i hi;rw [if_pos hi];exact ⟨w',rfl,h2,h3⟩
   ·rename_i hi;rw [if_neg hi];exact ⟨w',rfl,h2,h3⟩
 |loop c ih=>intro w Q hw h;exact wz ih h
 |_=>intro w Q hw h;exact absurd h (by simp [Yg])
theorem mD {s:Spec} {fn:Func} {P:s.res.den->Prop} {st:St} (h:TE T s fn P st): ∃fr y,gH T s fn st=some (fr,y)/\(fr||!s.fresh)=true/\P y:=by
 obtain ⟨p,h1,h2⟩:=As.1 h
 split at h2
 ·rename_i hf;exact ⟨p.1,p.2,h1,hf,h2⟩
 ·cases h2
theorem DR {s:Spec} {fn:Func} {x:s.arg.den} {P:s.res.den->Prop} (h:fnW T Γ s fn x P):IC T Γ s fn x P:=by
 unfold fnW at h
 obtain ⟨c,h1,h2⟩:=As.1 h
 refine ⟨c,h1,(ke c _ _ (λt b h=>by cases h) h2).mono λe st ⟨w,h4,h5,h6⟩=>?_⟩
 subst h4
 cases e with
 |normal=>exact ⟨λid hh=>(by cases hh),mD h6⟩
 |ret=>exact ⟨λid hh=>(by cases hh),mD h6⟩
 |exit id=>cases h6
theorem Wp {st:St} {K:Prop} : ∀(vs:List AC) (cs:List (Bool×CK)),cB st K vs cs->cA st vs cs/\K
 | [],cs,h=>⟨by simp [cA],by simpa [cB] using h⟩
 |a::vs,[],h=>⟨by cases a<;>simp [cA],by cases a<;>simpa [cB] using h⟩
 |a::vs,(false,c)::r,h=>by
  have h:cB st K vs r:=by cases a<;>simpa only [cB] using h
  obtain ⟨h1,h2⟩:=Wp vs r h
  exact ⟨by cases a<;>simpa only [cA] using h1,h2⟩
 |a::vs,(true,c)::r,h=>by
  cases a with
  |own l off len=>
   simp only [cB] at h
   split at h
   ·rename_i hl
    obtain ⟨h1,h2⟩:=Wp vs r h.2
    refine ⟨?_,h2⟩
    simp only [cA,hl]
    exact ⟨h.1,h1⟩
   ·rename_i hl
    obtain ⟨h1,h2⟩:=Wp vs r h.2
    refine ⟨?_,h2⟩
    simp only [cA,hl]
    exact ⟨h.1,h1⟩
   ·exact h.elim
  |_=>exact ⟨by simp [cA],by simpa [cB] using h⟩
theorem ay {st:St} : ∀(cs:List CK) (as:List AC) (K:CKs.den cs->List Nat->Prop),jx st cs as K-> ∃x ls,Ob st cs as=some (x,ls)/\K x ls
 | [],[],K,h=>⟨(),[],rfl,h⟩
 | [],_::_,_,h=>h.elim
 |c::r,[],K,h=>by cases c<;>exact h.elim
 |c::r,a::as,K,h=>by
  have p6:Eb (eb st c a) (λp=>jx st r as λy t=>K (p.1,y) (p.2++t))-> ∃x ls,Ob st (c::r) (a::as)=some (x,ls)/\K x ls:= λh=>by
   obtain ⟨p,h1,h2⟩:=As.1 h
   obtain ⟨y,t,h3,h4⟩:=ay r as _ h2
   exact ⟨_,_,by simp only [Ob,h1,h3],h4⟩
  cases c with
  |Al e te kp=>
   cases a with
   |own l off len=>
    simp only [jx] at h
    split at h
    ·rename_i hl
     split at h
     ·rename_i hc
      obtain ⟨⟨h1,h2⟩,h⟩:=h
      obtain ⟨y,t,h3,h4⟩:=ay r as _ h
      exact ⟨_,_,by simp only [Ob,eb,hl];rw [dif_pos ⟨hc.1,hc.2,h1,h2⟩];simp only [h3];rfl,h4⟩
     ·exact h.elim
    ·exact h.elim
   |_=>exact p6 h
  |_=>exact p6 h
theorem hY {st:St} {n:Nat} {as:List AC} {K:Prop} : ∀(ks:List (Nat×Nat)),sR st n as ks K->qQ st n as ks/\K
 | [],h=>⟨trivial,h⟩
 |(k,j)::r,h=>by
  simp only [sR] at h
  split at h
  ·rename_i l off len ha
   split at h
   ·rename_i p hl
    split at h
    ·rename_i hc
     simp only [Bool.and_eq_true] at hc
     obtain ⟨h1,h2⟩:=hY r h.2
     refine ⟨?_,h2⟩
     simp only [qQ,ha,hl]
     exact ⟨⟨Nat.eq_of_beq_eq_true hc.1,h.1,hc.2⟩,h1⟩
    ·exact h.elim
   ·exact h.elim
  ·exact h.elim
theorem da {s:MSpec} {fn:Func} {x:Ins.den s.ins} {st:St} {cs:List AC} {P:CKs.den s.outs×IOs.den s.ins->Prop} (h:nU T s fn x st cs P):dR T s fn x st cs P:=by
 obtain ⟨l,h1,h⟩:=As.1 h
 obtain ⟨⟨as,ml⟩,h2,h⟩:=As.1 h
 obtain ⟨r,ls,h3,h⟩:=ay _ _ _ h
 obtain ⟨o,h4,h⟩:=As.1 h
 split at h
 ·rename_i hc
  obtain ⟨h5,h6⟩:=hY _ h
  unfold dR
  simp only [h1,h2,h3,h4]
  exact ⟨hc,h5,h6⟩
 ·exact h.elim
theorem kN {s:MSpec} {fn:Func} {x:Ins.den s.ins} {st:St} {P:CKs.den s.outs×IOs.den s.ins->Prop} (h:CT T s fn x st P):IB T s fn x st P:=by
 unfold CT at h
 unfold IB
 cases hp:s.ptr with
 |none=>rw [hp] at h;exact da h
 |some p=>
  rw [hp] at h
  simp only at h⊢
  split at h
  ·rename_i tid vs hl
   split at h
   ·rename_i hc
    simp only [Bool.and_eq_true] at hc
    obtain ⟨h1,h2⟩:=hc
    have h1:tid=p.1:=Nat.eq_of_beq_eq_true h1
    have h2:=Nat.eq_of_beq_eq_true h2
    subst h1
    obtain ⟨cs,h3,h4⟩:=As.1 h
    obtain ⟨h5,h6⟩:=Wp vs s.ins h4
    exact ⟨vs,cs,hl,h2,h3,h5,da h6⟩
   ·exact h.elim
  ·exact h.elim
theorem yJ {s:MSpec} {fn:Func} {x:Ins.den s.ins} {P:CKs.den s.outs×IOs.den s.ins->Prop} (h:fnMW T Γ s fn x P):QS T Γ s fn x P:=by
 unfold fnMW at h
 split at h
 ·cases h
 rename_i hlen
 obtain ⟨c,h1,h2⟩:=As.1 h
 refine ⟨hlen,c,h1,(ke c _ _ (λt b h=>by cases h) h2).mono λe st ⟨w,h4,h5,h6⟩=>?_⟩
 subst h4
 cases e with
 |normal=>exact ⟨λid hh=>(by cases hh),kN h6⟩
 |ret=>exact ⟨λid hh=>(by cases hh),kN h6⟩
 |exit id=>cases h6
theorem Bh.ofW {P:Program} (hT:Cb P T) (Md:Hc P Γ) (hm:P.follows .mixedOrders=true) {f:FuncId} {fn:Func} (hf:P.funcs[f]?=some fn) (hn:(fn.name== "runtime.NumGoroutine")=false)
  (hb:fn.body.isNone=false) (s:MSpec) (h: ∀x y,s.fn x=some y->fnMW T Γ s fn x (λz=>z=y)):Bh P f s:=
 ⟨Uw hf hn hb,λw S π us x r o g vs h1 hg h2 h3 hS h4 h5=>pb hT Md hm hf s w S π us x r o g vs h1 hg h2 h3 hS h4 (yJ (h x (r,o) h5))⟩
theorem Sound.ofW {P:Program} (hT:Cb P T) (Md:Hc P Γ) (hm:P.follows .mixedOrders=true) {f:FuncId} {fn:Func} (hf:P.funcs[f]?=some fn) (hn:(fn.name== "runtime.NumGoroutine")=false)
  (hb:fn.body.isNone=false) (s:Spec) (h: ∀x y,s.fn x=some y->fnW T Γ s fn x (λz=>z=y)):Sound P f s:=
 LR hT Md hm hf hn hb s λx y hx=>DR (h x y hx)
end
end Go.Proofs.YtjbdmibbbpdnnaaGreat
