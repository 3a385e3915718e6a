/-
  Part 34 of the proof that the statement FnExactStageWord holds.
-/
import Derived.Test.YtjbdmibbbpdnnaaCStageWord32
namespace Go.Proofs.Ytjbdmibbbpdnnaa
open Go.RowKit
theorem Nb {B:List (Nat×Nat×Nat)} {H:List (Nat×OB)} : ∀ {l:List AV} {K:Prop},Ub B H l K-> ∀c∈l,c.ej=true
 | [],_,_,c,hc=>by cases hc
 |d::l,K,h,c,hc=>by
  simp only [Ub] at h
  cases d with
  |It l'=>exact h.elim
  | «at»a=>
   rcases List.mem_cons.1 hc with rfl|hc
   ·rfl
   ·have h':Ub B H l K:=by
     cases a with
     |own k o n=>exact h.2.2
     |_=>exact h
    exact Nb h' c hc
  |Uc _ _ _=>
   rcases List.mem_cons.1 hc with rfl|hc
   ·rfl
   ·exact Nb h c hc
  |agg cs=>
   rcases List.mem_cons.1 hc with rfl|hc
   ·rfl
   ·have: ∀(cs:List AC) (Q:Prop),Xk B H cs Q->Q:=by
     intro cs
     induction cs with
     |nil=>exact λQ h=>h
     |cons a cs ih=>
      intro Q h
      have h2:Xk B H cs Q:=by
       cases a with
       |own k o n=>exact h.2.2
       |_=>exact h
      exact ih Q h2
    exact Nb (this cs _ h) c hc
theorem fw: ∀(f:List Bool) (l:List AV),(∀c∈l,c.ej=true)-> ∀c∈Nv f l,c.ej=true
 | [],l,h=>by simpa [Nv] using h
 |true::f,[],h=>by simp [Nv] at h⊢
 |false::f,[],h=>by simp [Nv] at h⊢
 |true::f,a::l,h=>by
  intro c hc
  simp only [Nv,List.mem_cons] at hc
  rcases hc with rfl|hc
  ·rfl
  ·exact fw f l (λc hc=>h c (List.mem_cons_of_mem _ hc)) c hc
 |false::f,a::l,h=>by
  intro c hc
  simp only [Nv,List.mem_cons] at hc
  rcases hc with rfl|hc
  ·exact h c (by simp)
  ·exact fw f l (λc hc=>h c (List.mem_cons_of_mem _ hc)) c hc
theorem CO (f:AC->AC) (H:List (Nat×OB)) (l:Nat):lenOf (H.map λp=>(p.1,p.2.map f)) l=lenOf H l:=by
 unfold lenOf
 rw [Jg]
 cases Ae H l with
 |none=>rfl
 |some b=>cases b<;>rfl
theorem xp (f g:AC->AC) (c:AV):(c.map f).map g=c.map λa=>g (f a):=by
 cases c<;>simp [AV.map]
theorem yt (f g:AC->AC) (c:OB):(c.map f).map g=c.map λa=>g (f a):=by
 cases c<;>simp [OB.map]
theorem vH (s:St) (f g:AC->AC):(s.Ge f).Ge g=s.Ge λa=>g (f a):=by
 simp [St.Ge,List.map_map,Function.comp_def,xp,yt]
theorem vu (f:AC->AC) (H:List (Nat×OB)) (l:Nat): ∀(B:List (Nat×Nat×Nat)),CM B (H.map λp=>(p.1,p.2.map f)) l=CM B H l
 | []=>CO f H l
 |(k,o,n)::r=>by simp only [CM];rw [vu f H l r]
theorem xa (B:List (Nat×Nat×Nat)) (s:St):(s.Ge Mg).whole B=s.whole B:=by
 unfold St.whole
 rw [vH]
 congr 1
 funext a
 cases a with
 |own l off len=>simp only [Mg,aG,St.Ge,vu]
 |_=>rfl
theorem x8 {B:List (Nat×Nat×Nat)} {s t:St} (h:s.Ge Mg=t.Ge Mg):s.whole B=t.whole B:=by rw [<-xa B s,h,xa]
theorem jj (f:AC->AC): ∀(fx:List Bool) (a b:List AV),(Oz fx a b).map (·.map f)=Oz fx (a.map (·.map f)) (b.map (·.map f))
 | [],_,_=>by simp [Oz]
 |_::_,[],_=>by simp [Oz]
 |true::_,_::_,[]=>by simp [Oz]
 |false::_,_::_,[]=>by simp [Oz]
 |true::fx,x::a,y::b=>by simp only [Oz,List.map_cons,jj f fx a b]
 |false::fx,x::a,y::b=>by simp only [Oz,List.map_cons,jj f fx a b]
theorem mX (f:AC->AC) (fx:List Bool) (a b:St):(St.oJ fx a b).Ge f=St.oJ fx (a.Ge f) (b.Ge f):=by
 simp only [St.oJ,St.Ge,jj]
theorem mW (p:Nat->Bool): ∀(i:Nat) (l0 l1:List AV),(∀t,(l0.getD t .undef).Ql=true->p (i+t)=true->l1.getD t .undef=l0.getD t .undef)->
  Oz (Hj p i l0) l0 (Nv (Hj p i l0) l1)=l1
 |_,[],l1,_=>by simp [Hj,Nv,Oz]
 |i,a::r,[],_=>by
  simp only [Hj]
  cases (a.Ql&&p i)<;>simp [Nv,Oz]
 |i,a::r,b::s,h=>by
  have hr:=mW p (i+1) r s λt h1 h2=>by
   have:=h (t+1) (by simpa using h1) (by rw [show i+(t+1)=i+1+t by omega];exact h2)
   simpa using this
  simp only [Hj]
  cases hc:(a.Ql&&p i) with
  |false=>simp only [Nv,Oz];rw [hr]
  |true=>
   simp only [Nv,Oz]
   rw [hr]
   simp only [Bool.and_eq_true] at hc
   have:=h 0 (by simpa using hc.1) hc.2
   simp only [List.getD_cons_zero] at this
   rw [this]
theorem Zz: ∀(f:List Bool) (l:List AV),(Nv f l).length=l.length
 | [],l=>by simp [Nv]
 |true::f,[]=>by simp [Nv]
 |false::f,[]=>by simp [Nv]
 |true::f,a::l=>by simp [Nv,Zz f l]
 |false::f,a::l=>by simp [Nv,Zz f l]
theorem bg: ∀(l:List AV) {R:Type} (v:kJ l R),(Pl l v).1.length=l.length
 | [],_,_=>rfl
 |c::l,_,v=>by simp [Pl,bg l]
theorem qi (p:Nat->Bool): ∀(i:Nat) (l0 l:List AV) (t:Nat),l.length=l0.length->(l0.getD t .undef).Ql=true->p (i+t)=true->(Oz (Hj p i l0) l0 l).getD t .undef=l0.getD t .undef
 |_,[],_,t,_,h,_=>by simp [AV.Ql] at h
 |i,a::r,[],_,h,_,_=>by simp at h
 |i,a::r,b::s,0,_,h1,h2=>by
  have:(a.Ql&&p i)=true:=by
   simp only [Bool.and_eq_true]
   exact ⟨by simpa using h1,h2⟩
  simp only [Hj,this,Oz,List.getD_cons_zero]
 |i,a::r,b::s,t+1,hl,h1,h2=>by
  have hr:=qi p (i+1) r s t (by simpa using hl) (by simpa using h1) (by rw [show i+1+t=i+(t+1) by omega];exact h2)
  simp only [Hj]
  cases (a.Ql&&p i)<;>simpa only [Oz,List.getD_cons_succ] using hr
theorem dN {B:List (Nat×Nat×Nat)} {H:List (Nat×OB)} {c:AC} {K:Prop} (h:qX B H c K):aG B H c=c/\K:=by
 cases c with
 |own l off len=>obtain ⟨h1,h2,h3⟩:=h;exact ⟨by rw [h1,h2];rfl,h3⟩
 |_=>exact ⟨rfl,h⟩
theorem Ug {B:List (Nat×Nat×Nat)} {H:List (Nat×OB)} : ∀ {l:List AC} {K:Prop},Xk B H l K->l.map (aG B H)=l/\K
 | [],_,h=>⟨rfl,h⟩
 |c::l,_,h=>by
  obtain ⟨h1,h2⟩:=dN h
  obtain ⟨h3,h4⟩:=Ug h2
  exact ⟨by rw [List.map_cons,h1,h3],h4⟩
theorem o7 {B:List (Nat×Nat×Nat)} {H:List (Nat×OB)} {c:AV} {K:Prop} (h:zD B H c K):c.map (aG B H)=c/\K:=by
 cases c with
 | «at»a=>obtain ⟨h1,h2⟩:=dN h;exact ⟨by rw [AV.map,h1],h2⟩
 |agg cs=>obtain ⟨h1,h2⟩:=Ug h;exact ⟨by rw [AV.map,h1],h2⟩
 |Uc _ _ _=>exact ⟨rfl,h⟩
 |It l=>exact h.elim
theorem bh {B:List (Nat×Nat×Nat)} {H:List (Nat×OB)} : ∀ {l:List AV} {K:Prop},Ub B H l K->l.map (·.map (aG B H))=l/\K
 | [],_,h=>⟨rfl,h⟩
 |c::l,_,h=>by
  obtain ⟨h1,h2⟩:=o7 h
  obtain ⟨h3,h4⟩:=bh h2
  exact ⟨by rw [List.map_cons,h1,h3],h4⟩
theorem Hx {B:List (Nat×Nat×Nat)} {H:List (Nat×OB)} : ∀ {l:List (Nat×OB)} {K:Prop},dp B H l K->l.map (λp=>(p.1,p.2.map (aG B H)))=l/\K
 | [],_,h=>⟨rfl,h⟩
 |(k, .var t vs)::l,_,h=>by
  obtain ⟨h1,h2⟩:=Ug h
  obtain ⟨h3,h4⟩:=Hx h2
  exact ⟨by rw [List.map_cons,h3];simp only [OB.map,h1],h4⟩
 |(k, .arr a b c d e)::l,_,h=>by
  obtain ⟨h3,h4⟩:=Hx (l:=l) h
  exact ⟨by rw [List.map_cons,h3];rfl,h4⟩
 |(k, .Df a b c)::l,_,h=>by
  obtain ⟨h3,h4⟩:=Hx (l:=l) h
  exact ⟨by rw [List.map_cons,h3];rfl,h4⟩
 |(k, .Ak a b c d e)::l,_,h=>by
  obtain ⟨h3,h4⟩:=Hx (l:=l) h
  exact ⟨by rw [List.map_cons,h3];rfl,h4⟩
 |(k, .Oh a b)::l,_,h=>by
  obtain ⟨h3,h4⟩:=Hx (l:=l) h
  exact ⟨by rw [List.map_cons,h3];rfl,h4⟩
theorem ew {B:List (Nat×Nat×Nat)} {s:St} {K:Prop} (h:ta B s K):s.whole B=s/\K:=by
 obtain ⟨h1,h2⟩:=bh h
 obtain ⟨h3,h4⟩:=Hx h2
 exact ⟨by unfold St.whole St.Ge;rw [h1,h3],h4⟩
theorem bD (live:List Nat): ∀(i:Nat) (l:List AV) (t:Nat),i+t∉live->(Fp live i l).getD t .undef= .undef
 |_,[],_,_=>rfl
 |i,v::r,0,h=>by simp [Fp];intro hn;exact absurd hn h
 |i,v::r,t+1,h=>by
  simp only [Fp,List.getD_cons_succ]
  exact bD live (i+1) r t (by rw [show i+1+t=i+(t+1) by omega];exact h)
theorem aN: ∀(l:List Nat) (st:St) (t:Nat),st.get t= .undef->(Xw l st).get t= .undef
 | [],_,_,h=>h
 |a::r,st,t,h=>aN r _ t (by
  show (st.tmps.map (·.map (Ay a))).getD t .undef= .undef
  rw [Rt (Ay a) rfl,show st.tmps.getD t .undef= .undef from h]
  rfl)
theorem sJ (l k:Nat) (st:St) (t:Nat) (h:st.get t= .undef):(st.rename l k).get t= .undef:=by
 unfold St.rename
 split
 ·split
  ·show (st.tmps.map (·.map (Nx l k))).getD t .undef= .undef
   rw [Rt (Nx l k) rfl,show st.tmps.getD t .undef= .undef from h]
   rfl
  ·exact h
 ·exact h
theorem Yn: ∀(n i:Nat) (st:St) (t:Nat),st.get t= .undef->(Hp n i st).get t= .undef
 |0,_,_,_,h=>h
 |n+1,i,st,t,h=>by
  simp only [Hp]
  refine Yn n (i+1) _ t ?_
  split
  ·split
   ·split
    ·exact h
    ·exact sJ _ _ _ t h
   ·exact h
  ·exact h
theorem sF (st:St) (d:Nat) (v:AV) (t:Nat) (Ek:t≠d) (h:st.get t= .undef):(st.put (some d) v).get t= .undef:=by rw [Up _ _ Ek];exact h
theorem ni (k:Nat) (st:St) (t:Nat) (h:st.get t= .undef):(Va k st).get t= .undef:=by
 unfold Va
 split
 ·rename_i l off len hg
  split
  ·split
   ·refine sF _ _ _ _ (λe=>by subst e;rw [hg] at h;cases h) ?_
    show (st.tmps.map (·.map (Ay l))).getD t .undef= .undef
    rw [Rt (Ay l) rfl,show st.tmps.getD t .undef= .undef from h]
    rfl
   ·exact h
  ·exact h
 ·exact h
theorem aW (live:List Nat): ∀(n i:Nat) (st:St) (t:Nat),st.get t= .undef->(Jj live n i st).get t= .undef
 |0,_,_,_,h=>h
 |n+1,i,st,t,h=>by
  simp only [Jj]
  refine aW live n (i+1) _ t ?_
  split
  ·exact ni _ _ _ h
  ·exact h
theorem xB {live:List Nat} {st:St} {t:Nat} (h:((st.clean live).get t).Ql=true):t∈live:=by
 refine Classical.byContradiction λhn=>?_
 have:(st.clean live).get t= .undef:=by
  have key: ∀s:St,s.get t= .undef->(if live.contains We then Hp s.tmps.length 0 s else s).get t= .undef:=by
   intro s hs
   split
   ·exact Yn _ _ s t hs
   ·exact hs
  unfold St.clean
  have IP: ∀s:St,s.get t= .undef->(if live.any (λt=>Nat.ble Sh t) then s.Es live else s).get t= .undef:=by
   intro s hs
   split<;>exact hs
  have IQ: ∀s:St,s.get t= .undef->(if live.any (λt=>Nat.ble Ho t&&Nat.blt t We) then Jj live s.tmps.length 0 s else s).get t= .undef:=by
   intro s hs
   split
   ·exact aW _ _ _ s t hs
   ·exact hs
  refine IP _ (key _ (IQ _ (aN _ _ t ?_)))
  exact bD live 0 st.tmps t (by simpa using hn)
 rw [this] at h
 cases h
theorem mE {c:AV} (h:c.Ql=true): ∃fr τ,∃x:τ.den,c= .at (.data fr τ x):=by
 unfold AV.Ql at h
 split at h
 ·exact ⟨_,_,_,rfl⟩
 ·cases h
theorem ET {live:Nat->List Nat} {c:Code} {t:Nat} (h:stays live c t=true):t∉writes c/\Uu live c t=true:=by
 unfold stays at h
 simpa using h
section
variable {T:Tab} {Γ:Env} {live:Nat->List Nat}
theorem Iw.keeps {c:Code} {st:St} {Q:Gr->St->Prop} (h:Iw T Γ live c st Q):Iw T Γ live c st (λe s=>Q e s/\Ey (λt=>t∉writes c/\Uu live c t=true) st s):=by
 exact yT h st _ Ba.rfl'.on λt ht=>ht
def wsQ (Q:Gr->WS->Prop) (e:Gr) (s:St):Prop:= ∃w':WS,w'.st=s/\w'.OK/\Q e w'
theorem vF {c:Code} (ih: ∀(w:WS) (Q:Gr->WS->Prop),w.OK->Xo T Γ live c w Q->Iw T Γ live c w.st (wsQ Q)) {w:WS} {Q:Gr->WS->Prop} (h:Xo T Γ live (.loop c) w Q):
  Iw T Γ live (.loop c) w.st (wsQ Q):=by
 simp only [Xo,BU,fe] at h
 obtain ⟨UD,I,μ,h0,hs⟩:=ew h
 have Ae: ∀(t:Nat),((w.st.clean (live (Ce c))).get t).Ql=true->stays live c t=true-> ∀v,((St.oJ (Hj (stays live c) 0 (w.st.clean (live (Ce c))).tmps) (w.st.clean (live (Ce c))) (cO ((w.st.clean (live (Ce c))).mask (Hj (stays live c) 0 (w.st.clean (live (Ce c))).tmps)) v)).whole (Sk T.parts (w.st.clean (live (Ce c))).tmps)).get t=(w.st.clean (live (Ce c))).get t:=by
  intro t h1 h2 v
  have h3:=qi (stays live c) 0 (w.st.clean (live (Ce c))).tmps (cO ((w.st.clean (live (Ce c))).mask (Hj (stays live c) 0 (w.st.clean (live (Ce c))).tmps)) v).tmps t
   ((bg _ _).trans (Zz _ _)) h1 (by simpa using h2)
  obtain ⟨fr,τ,x,hx⟩:=mE h1
  refine (Jp _ _ rfl λ_ _ _=>rfl) t fr τ x ?_|>.trans hx.symm
  exact h3.trans hx
 have RH: ∀(s1:St),(∀t,((w.st.clean (live (Ce c))).get t).Ql=true->stays live c t=true->s1.get t=(w.st.clean (live (Ce c))).get t)->s1.whole (Sk T.parts (w.st.clean (live (Ce c))).tmps)=s1-> ∀v,cP ((w.st.clean (live (Ce c))).mask (Hj (stays live c) 0 (w.st.clean (live (Ce c))).tmps)) (s1.mask (Hj (stays live c) 0 (w.st.clean (live (Ce c))).tmps))=some v->
   s1=(St.oJ (Hj (stays live c) 0 (w.st.clean (live (Ce c))).tmps) (w.st.clean (live (Ce c))) (cO ((w.st.clean (live (Ce c))).mask (Hj (stays live c) 0 (w.st.clean (live (Ce c))).tmps)) v)).whole (Sk T.parts (w.st.clean (live (Ce c))).tmps):=by
  intro s1 hf hwh v hv
  have h1:=cQ hv
  have h2:St.oJ (Hj (stays live c) 0 (w.st.clean (live (Ce c))).tmps) (w.st.clean (live (Ce c))) (s1.mask (Hj (stays live c) 0 (w.st.clean (live (Ce c))).tmps))=s1:=by
   simp only [St.oJ,St.mask]
   rw [mW (stays live c) 0 (w.st.clean (live (Ce c))).tmps s1.tmps λt h3 h4=>hf t h3 (by simpa using h4)]
  have h3:(St.oJ (Hj (stays live c) 0 (w.st.clean (live (Ce c))).tmps) (w.st.clean (live (Ce c))) (cO ((w.st.clean (live (Ce c))).mask (Hj (stays live c) 0 (w.st.clean (live (Ce c))).tmps)) v)).whole (Sk T.parts (w.st.clean (live (Ce c))).tmps)=s1.whole (Sk T.parts (w.st.clean (live (Ce c))).tmps):=by
   refine x8 ?_
   rw [mX,h1,<-mX,h2]
  rw [h3,hwh]
 refine DZ (λv=>(St.oJ (Hj (stays live c) 0 (w.st.clean (live (Ce c))).tmps) (w.st.clean (live (Ce c))) (cO ((w.st.clean (live (Ce c))).mask (Hj (stays live c) 0 (w.st.clean (live (Ce c))).tmps)) v)).whole (Sk T.parts (w.st.clean (live (Ce c))).tmps)) I μ _ h0 (RH _ (λ_ _ _=>rfl) UD _ (kG _ (fw _ _ (Nb h)))) ?_
 intro a ha
 refine (Iw.keeps (ih ⟨[],_⟩ _ (λt b h=>by cases h) (hs a ha))).mono ?_
 intro e s hQ
 obtain ⟨⟨w',h1,h2,h3⟩,hk⟩:=hQ
 subst h1
 cases e with
 |normal=>
  obtain ⟨h4,h5⟩:=ew h3
  obtain ⟨v',h6,h7,h8⟩:=Aq.1 h5
  refine ⟨v',RH _ (λt hd ht=>?_) h4 _ h6,h7,h8⟩
  obtain ⟨fr,τ,x,hx⟩:=mE hd
  rw [hx]
  exact ee (live (Ce c)) w'.st t fr τ x (xB hd) (hk t fr τ x (ET ht) (by rw [Ae t hd ht a];exact hx))
 |exit id=>exact ⟨w',rfl,h2,h3⟩
 |ret=>exact ⟨w',rfl,h2,h3⟩
theorem jS: ∀(c:Code) (w:WS) (Q:Gr->WS->Prop),w.OK->Xo T Γ live c w Q->Iw T Γ live c w.st (wsQ Q):=by
 intro c
 induction c with
 |skip=>intro w Q hw h;exact .skip ⟨w,rfl,hw,h⟩
 |label _=>intro w Q hw h;exact .label ⟨w,rfl,hw,h⟩
 |exit _=>intro w Q hw h;exact .exit ⟨w,rfl,hw,h⟩
 |ret=>intro w Q hw h;exact .ret ⟨w,rfl,hw,h⟩
 |region id ops draw=>
  intro w Q hw h
  exact .region ((oS hw h).mono λs ⟨w',h1,h2,h3⟩=>⟨w',h1,h2,Zr.1 h3⟩)
 |seq x y ihx ihy=>
  intro w Q hw h
  refine KB ((ihx w _ hw h).mono λe s hQ=>?_)
  obtain ⟨w',h1,h2,h3⟩:=hQ
  subst h1
  cases e with
  |normal=>exact ihy w' Q h2 h3
  |exit id=>exact ⟨w',rfl,h2,h3⟩
  |ret=>exact ⟨w',rfl,h2,h3⟩
 |cond c x y ihx ihy=>
  intro w Q hw h
  obtain ⟨fr,b,w',h1,h2,h3,h4⟩:=pA hw h
  refine DY h1 (λhb=>?_) (λhb=>?_)
  ·subst hb;rw [<-h2];exact ihx w' Q h3 h4
  ·subst hb;rw [<-h2];exact ihy w' Q h3 h4
 |block id c ih=>
  intro w Q hw h
  refine yS ((ih w _ hw h).mono λe s hQ=>?_)
  obtain ⟨w',h1,h2,h3⟩:=hQ
  subst h1
  cases e with
  |normal=>exact ⟨w',rfl,h2,h3⟩
  |ret=>exact ⟨w',rfl,h2,h3⟩
  |exit CG=>
   simp only at h3
   simp only [pU]
   split at h3
   ·rename_i hi;rw [if_pos hi];exact ⟨w',rfl,h2,h3⟩
   ·rename_i hi;rw [if_neg hi];exact ⟨w',rfl,h2,h3⟩
 |loop c ih=>intro w Q hw h;exact vF ih h
 |_=>intro w Q hw h;exact absurd h (by simp [Xo])
theorem m4 {s:Spec} {fn:Func} {P:s.res.den->Prop} {st:St} (h:SH T s fn P st): ∃fr y,gp T s fn st=some (fr,y)/\(fr||!s.fresh)=true/\P y:=by
 obtain ⟨p,h1,h2⟩:=Aq.1 h
 split at h2
 ·rename_i hf;exact ⟨p.1,p.2,h1,hf,h2⟩
 ·cases h2
theorem BT {s:Spec} {fn:Func} {x:s.arg.den} {P:s.res.den->Prop} (h:fnW T Γ s fn x P):GJ T Γ s fn x P:=by
 unfold fnW at h
 obtain ⟨c,h1,h2⟩:=Aq.1 h
 refine ⟨c,h1,(jS c _ _ (λt b h=>by cases h) h2).mono λe st ⟨w,h4,h5,h6⟩=>?_⟩
 subst h4
 cases e with
 |normal=>exact ⟨λid hh=>(by cases hh),m4 h6⟩
 |ret=>exact ⟨λid hh=>(by cases hh),m4 h6⟩
 |exit id=>cases h6
theorem Vz {st:St} {K:Prop} : ∀(vs:List AC) (cs:List (Bool×CK)),cb st K vs cs->ca st vs cs/\K
 | [],cs,h=>⟨by simp [ca],by simpa [cb] using h⟩
 |a::vs,[],h=>⟨by cases a<;>simp [ca],by cases a<;>simpa [cb] using h⟩
 |a::vs,(false,c)::r,h=>by
  have h:cb st K vs r:=by cases a<;>simpa only [cb] using h
  obtain ⟨h1,h2⟩:=Vz vs r h
  exact ⟨by cases a<;>simpa only [ca] using h1,h2⟩
 |a::vs,(true,c)::r,h=>by
  cases a with
  |own l off len=>
   simp only [cb] at h
   split at h
   ·rename_i hl
    obtain ⟨h1,h2⟩:=Vz vs r h.2
    refine ⟨?_,h2⟩
    simp only [ca,hl]
    exact ⟨h.1,h1⟩
   ·rename_i hl
    obtain ⟨h1,h2⟩:=Vz vs r h.2
    refine ⟨?_,h2⟩
    simp only [ca,hl]
    exact ⟨h.1,h1⟩
   ·exact h.elim
  |_=>exact ⟨by simp [ca],by simpa [cb] using h⟩
theorem a9 {st:St} : ∀(cs:List CK) (as:List AC) (K:CKs.den cs->List Nat->Prop),ji st cs as K-> ∃x ls,Nw st cs as=some (x,ls)/\K x ls
 | [],[],K,h=>⟨(),[],rfl,h⟩
 | [],_::_,_,h=>h.elim
 |c::r,[],K,h=>by cases c<;>exact h.elim
 |c::r,a::as,K,h=>by
  have o6:Dy (dK st c a) (λp=>ji st r as λy t=>K (p.1,y) (p.2++t))-> ∃x ls,Nw st (c::r) (a::as)=some (x,ls)/\K x ls:= λh=>by
   obtain ⟨p,h1,h2⟩:=Aq.1 h
   obtain ⟨y,t,h3,h4⟩:=a9 r as _ h2
   exact ⟨_,_,by simp only [Nw,h1,h3],h4⟩
  cases c with
  |Ak e te kp=>
   cases a with
   |own l off len=>
    simp only [ji] at h
    split at h
    ·rename_i hl
     split at h
     ·rename_i hc
      obtain ⟨⟨h1,h2⟩,h⟩:=h
      obtain ⟨y,t,h3,h4⟩:=a9 r as _ h
      exact ⟨_,_,by simp only [Nw,dK,hl];rw [dif_pos ⟨hc.1,hc.2,h1,h2⟩];simp only [h3];rfl,h4⟩
     ·exact h.elim
    ·exact h.elim
   |_=>exact o6 h
  |_=>exact o6 h
theorem gH {st:St} {n:Nat} {as:List AC} {K:Prop} : ∀(ks:List (Nat×Nat)),s5 st n as ks K->pY st n as ks/\K
 | [],h=>⟨trivial,h⟩
 |(k,j)::r,h=>by
  simp only [s5] at h
  split at h
  ·rename_i l off len ha
   split at h
   ·rename_i p hl
    split at h
    ·rename_i hc
     simp only [Bool.and_eq_true] at hc
     obtain ⟨h1,h2⟩:=gH r h.2
     refine ⟨?_,h2⟩
     simp only [pY,ha,hl]
     exact ⟨⟨Nat.eq_of_beq_eq_true hc.1,h.1,hc.2⟩,h1⟩
    ·exact h.elim
   ·exact h.elim
  ·exact h.elim
theorem cH {s:MSpec} {fn:Func} {x:Ins.den s.ins} {st:St} {cs:List AC} {P:CKs.den s.outs×IOs.den s.ins->Prop} (h:nk T s fn x st cs P):dz T s fn x st cs P:=by
 obtain ⟨l,h1,h⟩:=Aq.1 h
 obtain ⟨⟨as,ml⟩,h2,h⟩:=Aq.1 h
 obtain ⟨r,ls,h3,h⟩:=a9 _ _ _ h
 obtain ⟨o,h4,h⟩:=Aq.1 h
 split at h
 ·rename_i hc
  obtain ⟨h5,h6⟩:=gH _ h
  unfold dz
  simp only [h1,h2,h3,h4]
  exact ⟨hc,h5,h6⟩
 ·exact h.elim
theorem kz {s:MSpec} {fn:Func} {x:Ins.den s.ins} {st:St} {P:CKs.den s.outs×IOs.den s.ins->Prop} (h:AS T s fn x st P):GI T s fn x st P:=by
 unfold AS at h
 unfold GI
 cases hp:s.ptr with
 |none=>rw [hp] at h;exact cH h
 |some p=>
  rw [hp] at h
  simp only at h⊢
  split at h
  ·rename_i tid vs hl
   split at h
   ·rename_i hc
    simp only [Bool.and_eq_true] at hc
    obtain ⟨h1,h2⟩:=hc
    have h1:tid=p.1:=Nat.eq_of_beq_eq_true h1
    have h2:=Nat.eq_of_beq_eq_true h2
    subst h1
    obtain ⟨cs,h3,h4⟩:=Aq.1 h
    obtain ⟨h5,h6⟩:=Vz vs s.ins h4
    exact ⟨vs,cs,hl,h2,h3,h5,cH h6⟩
   ·exact h.elim
  ·exact h.elim
theorem xL {s:MSpec} {fn:Func} {x:Ins.den s.ins} {P:CKs.den s.outs×IOs.den s.ins->Prop} (h:fnMW T Γ s fn x P):PY T Γ s fn x P:=by
 unfold fnMW at h
 split at h
 ·cases h
 rename_i hlen
 obtain ⟨c,h1,h2⟩:=Aq.1 h
 refine ⟨hlen,c,h1,(jS c _ _ (λt b h=>by cases h) h2).mono λe st ⟨w,h4,h5,h6⟩=>?_⟩
 subst h4
 cases e with
 |normal=>exact ⟨λid hh=>(by cases hh),kz h6⟩
 |ret=>exact ⟨λid hh=>(by cases hh),kz h6⟩
 |exit id=>cases h6
theorem Cd.ofW {P:Program} (hT:Bz P T) (Mb:Gz P Γ) (hm:P.follows .mixedOrders=true) {f:FuncId} {fn:Func} (hf:P.funcs[f]?=some fn) (hn:(fn.name== "runtime.NumGoroutine")=false)
  (hb:fn.body.isNone=false) (s:MSpec) (h: ∀x y,s.fn x=some y->fnMW T Γ s fn x (λz=>z=y)):Cd P f s:=
 ⟨bB hf hn hb,λw S π us x r o g vs h1 hg h2 h3 hS h4 h5=>oc hT Mb hm hf s w S π us x r o g vs h1 hg h2 h3 hS h4 (xL (h x (r,o) h5))⟩
theorem Sound.ofW {P:Program} (hT:Bz P T) (Mb:Gz P Γ) (hm:P.follows .mixedOrders=true) {f:FuncId} {fn:Func} (hf:P.funcs[f]?=some fn) (hn:(fn.name== "runtime.NumGoroutine")=false)
  (hb:fn.body.isNone=false) (s:Spec) (h: ∀x y,s.fn x=some y->fnW T Γ s fn x (λz=>z=y)):Sound P f s:=
 KD hT Mb hm hf hn hb s λx y hx=>BT (h x y hx)
end
end Go.Proofs.Ytjbdmibbbpdnnaa
