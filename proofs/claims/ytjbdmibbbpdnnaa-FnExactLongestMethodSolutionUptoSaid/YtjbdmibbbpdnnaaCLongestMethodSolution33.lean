/-
  Part 34 of the proof that the statement FnExactLongestMethodSolution holds.
-/
import Derived.Test.YtjbdmibbbpdnnaaCLongestMethodSolution32
namespace Go.Proofs.Ytjbdmibbbpdnnaa
open Go.RowKit
theorem Nb {B:List (Nat×Nat×Nat)} {H:List (Nat×OB)} : ∀ {l:List AV} {K:Prop},Tu B H l K-> ∀c∈l,c.eu=true
 | [],_,_,c,hc=>by cases hc
 |d::l,K,h,c,hc=>by
  simp only [Tu] at h
  cases d with
  |Iz l'=>exact h.elim
  | «at»a=>
   rcases List.mem_cons.1 hc with rfl|hc
   ·rfl
   ·have h':Tu B H l K:=by
     cases a with
     |own k o n=>exact h.2.2
     |_=>exact h
    exact Nb h' c hc
  |Tv _ _ _=>
   rcases List.mem_cons.1 hc with rfl|hc
   ·rfl
   ·exact Nb h c hc
  |agg cs=>
   rcases List.mem_cons.1 hc with rfl|hc
   ·rfl
   ·have: ∀(cs:List AC) (Q:Prop),Xg B H cs Q->Q:=by
     intro cs
     induction cs with
     |nil=>exact λQ h=>h
     |cons a cs ih=>
      intro Q h
      have h2:Xg B H cs Q:=by
       cases a with
       |own k o n=>exact h.2.2
       |_=>exact h
      exact ih Q h2
    exact Nb (this cs _ h) c hc
theorem fE: ∀(f:List Bool) (l:List AV),(∀c∈l,c.eu=true)-> ∀c∈Nv f l,c.eu=true
 | [],l,h=>by simpa [Nv] using h
 |true::f,[],h=>by simp [Nv] at h⊢
 |false::f,[],h=>by simp [Nv] at h⊢
 |true::f,a::l,h=>by
  intro c hc
  simp only [Nv,List.mem_cons] at hc
  rcases hc with rfl|hc
  ·rfl
  ·exact fE f l (λc hc=>h c (List.mem_cons_of_mem _ hc)) c hc
 |false::f,a::l,h=>by
  intro c hc
  simp only [Nv,List.mem_cons] at hc
  rcases hc with rfl|hc
  ·exact h c (by simp)
  ·exact fE f l (λc hc=>h c (List.mem_cons_of_mem _ hc)) c hc
theorem CO (f:AC->AC) (H:List (Nat×OB)) (l:Nat):lenOf (H.map λp=>(p.1,p.2.map f)) l=lenOf H l:=by
 unfold lenOf
 rw [Jj]
 cases Ae H l with
 |none=>rfl
 |some b=>cases b<;>rfl
theorem xq (f g:AC->AC) (c:AV):(c.map f).map g=c.map λa=>g (f a):=by
 cases c<;>simp [AV.map]
theorem yu (f g:AC->AC) (c:OB):(c.map f).map g=c.map λa=>g (f a):=by
 cases c<;>simp [OB.map]
theorem vK (s:St) (f g:AC->AC):(s.Gh f).Gh g=s.Gh λa=>g (f a):=by
 simp [St.Gh,List.map_map,Function.comp_def,xq,yu]
theorem vz (f:AC->AC) (H:List (Nat×OB)) (l:Nat): ∀(B:List (Nat×Nat×Nat)),CM B (H.map λp=>(p.1,p.2.map f)) l=CM B H l
 | []=>CO f H l
 |(k,o,n)::r=>by simp only [CM];rw [vz f H l r]
theorem xa (B:List (Nat×Nat×Nat)) (s:St):(s.Gh Mg).whole B=s.whole B:=by
 unfold St.whole
 rw [vK]
 congr 1
 funext a
 cases a with
 |own l off len=>simp only [Mg,aD,St.Gh,vz]
 |_=>rfl
theorem x8 {B:List (Nat×Nat×Nat)} {s t:St} (h:s.Gh Mg=t.Gh Mg):s.whole B=t.whole B:=by rw [<-xa B s,h,xa]
theorem jk (f:AC->AC): ∀(fx:List Bool) (a b:List AV),(Oz fx a b).map (·.map f)=Oz fx (a.map (·.map f)) (b.map (·.map f))
 | [],_,_=>by simp [Oz]
 |_::_,[],_=>by simp [Oz]
 |true::_,_::_,[]=>by simp [Oz]
 |false::_,_::_,[]=>by simp [Oz]
 |true::fx,x::a,y::b=>by simp only [Oz,List.map_cons,jk f fx a b]
 |false::fx,x::a,y::b=>by simp only [Oz,List.map_cons,jk f fx a b]
theorem mT (f:AC->AC) (fx:List Bool) (a b:St):(St.oT fx a b).Gh f=St.oT fx (a.Gh f) (b.Gh f):=by
 simp only [St.oT,St.Gh,jk]
theorem mS (p:Nat->Bool): ∀(i:Nat) (l0 l1:List AV),(∀t,(l0.getD t .undef).Qg=true->p (i+t)=true->l1.getD t .undef=l0.getD t .undef)->
  Oz (Hl p i l0) l0 (Nv (Hl p i l0) l1)=l1
 |_,[],l1,_=>by simp [Hl,Nv,Oz]
 |i,a::r,[],_=>by
  simp only [Hl]
  cases (a.Qg&&p i)<;>simp [Nv,Oz]
 |i,a::r,b::s,h=>by
  have hr:=mS p (i+1) r s λt h1 h2=>by
   have:=h (t+1) (by simpa using h1) (by rw [show i+(t+1)=i+1+t by omega];exact h2)
   simpa using this
  simp only [Hl]
  cases hc:(a.Qg&&p i) with
  |false=>simp only [Nv,Oz];rw [hr]
  |true=>
   simp only [Nv,Oz]
   rw [hr]
   simp only [Bool.and_eq_true] at hc
   have:=h 0 (by simpa using hc.1) hc.2
   simp only [List.getD_cons_zero] at this
   rw [this]
theorem Zv: ∀(f:List Bool) (l:List AV),(Nv f l).length=l.length
 | [],l=>by simp [Nv]
 |true::f,[]=>by simp [Nv]
 |false::f,[]=>by simp [Nv]
 |true::f,a::l=>by simp [Nv,Zv f l]
 |false::f,a::l=>by simp [Nv,Zv f l]
theorem bf: ∀(l:List AV) {R:Type} (v:kK l R),(Pj l v).1.length=l.length
 | [],_,_=>rfl
 |c::l,_,v=>by simp [Pj,bf l]
theorem qn (p:Nat->Bool): ∀(i:Nat) (l0 l:List AV) (t:Nat),l.length=l0.length->(l0.getD t .undef).Qg=true->p (i+t)=true->(Oz (Hl p i l0) l0 l).getD t .undef=l0.getD t .undef
 |_,[],_,t,_,h,_=>by simp [AV.Qg] at h
 |i,a::r,[],_,h,_,_=>by simp at h
 |i,a::r,b::s,0,_,h1,h2=>by
  have:(a.Qg&&p i)=true:=by
   simp only [Bool.and_eq_true]
   exact ⟨by simpa using h1,h2⟩
  simp only [Hl,this,Oz,List.getD_cons_zero]
 |i,a::r,b::s,t+1,hl,h1,h2=>by
  have hr:=qn p (i+1) r s t (by simpa using hl) (by simpa using h1) (by rw [show i+1+t=i+(t+1) by omega];exact h2)
  simp only [Hl]
  cases (a.Qg&&p i)<;>simpa only [Oz,List.getD_cons_succ] using hr
theorem dR {B:List (Nat×Nat×Nat)} {H:List (Nat×OB)} {c:AC} {K:Prop} (h:qZ B H c K):aD B H c=c/\K:=by
 cases c with
 |own l off len=>obtain ⟨h1,h2,h3⟩:=h;exact ⟨by rw [h1,h2];rfl,h3⟩
 |_=>exact ⟨rfl,h⟩
theorem Tz {B:List (Nat×Nat×Nat)} {H:List (Nat×OB)} : ∀ {l:List AC} {K:Prop},Xg B H l K->l.map (aD B H)=l/\K
 | [],_,h=>⟨rfl,h⟩
 |c::l,_,h=>by
  obtain ⟨h1,h2⟩:=dR h
  obtain ⟨h3,h4⟩:=Tz h2
  exact ⟨by rw [List.map_cons,h1,h3],h4⟩
theorem oq {B:List (Nat×Nat×Nat)} {H:List (Nat×OB)} {c:AV} {K:Prop} (h:zE B H c K):c.map (aD B H)=c/\K:=by
 cases c with
 | «at»a=>obtain ⟨h1,h2⟩:=dR h;exact ⟨by rw [AV.map,h1],h2⟩
 |agg cs=>obtain ⟨h1,h2⟩:=Tz h;exact ⟨by rw [AV.map,h1],h2⟩
 |Tv _ _ _=>exact ⟨rfl,h⟩
 |Iz l=>exact h.elim
theorem bg {B:List (Nat×Nat×Nat)} {H:List (Nat×OB)} : ∀ {l:List AV} {K:Prop},Tu B H l K->l.map (·.map (aD B H))=l/\K
 | [],_,h=>⟨rfl,h⟩
 |c::l,_,h=>by
  obtain ⟨h1,h2⟩:=oq h
  obtain ⟨h3,h4⟩:=bg h2
  exact ⟨by rw [List.map_cons,h1,h3],h4⟩
theorem Ib {B:List (Nat×Nat×Nat)} {H:List (Nat×OB)} : ∀ {l:List (Nat×OB)} {K:Prop},dp B H l K->l.map (λp=>(p.1,p.2.map (aD B H)))=l/\K
 | [],_,h=>⟨rfl,h⟩
 |(k, .var t vs)::l,_,h=>by
  obtain ⟨h1,h2⟩:=Tz h
  obtain ⟨h3,h4⟩:=Ib h2
  exact ⟨by rw [List.map_cons,h3];simp only [OB.map,h1],h4⟩
 |(k, .arr a b c d e)::l,_,h=>by
  obtain ⟨h3,h4⟩:=Ib (l:=l) h
  exact ⟨by rw [List.map_cons,h3];rfl,h4⟩
 |(k, .Dh a b c)::l,_,h=>by
  obtain ⟨h3,h4⟩:=Ib (l:=l) h
  exact ⟨by rw [List.map_cons,h3];rfl,h4⟩
 |(k, .Al a b c d e)::l,_,h=>by
  obtain ⟨h3,h4⟩:=Ib (l:=l) h
  exact ⟨by rw [List.map_cons,h3];rfl,h4⟩
 |(k, .Oh a b)::l,_,h=>by
  obtain ⟨h3,h4⟩:=Ib (l:=l) h
  exact ⟨by rw [List.map_cons,h3];rfl,h4⟩
theorem eC {B:List (Nat×Nat×Nat)} {s:St} {K:Prop} (h:sY B s K):s.whole B=s/\K:=by
 obtain ⟨h1,h2⟩:=bg h
 obtain ⟨h3,h4⟩:=Ib h2
 exact ⟨by unfold St.whole St.Gh;rw [h1,h3],h4⟩
theorem bF (live:List Nat): ∀(i:Nat) (l:List AV) (t:Nat),i+t∉live->(Fw live i l).getD t .undef= .undef
 |_,[],_,_=>rfl
 |i,v::r,0,h=>by simp [Fw];intro hn;exact absurd hn h
 |i,v::r,t+1,h=>by
  simp only [Fw,List.getD_cons_succ]
  exact bF live (i+1) r t (by rw [show i+1+t=i+(t+1) by omega];exact h)
theorem aK: ∀(l:List Nat) (st:St) (t:Nat),st.get t= .undef->(Xr l st).get t= .undef
 | [],_,_,h=>h
 |a::r,st,t,h=>aK r _ t (by
  show (st.tmps.map (·.map (Az a))).getD t .undef= .undef
  rw [Rl (Az a) rfl,show st.tmps.getD t .undef= .undef from h]
  rfl)
theorem sH (l k:Nat) (st:St) (t:Nat) (h:st.get t= .undef):(st.rename l k).get t= .undef:=by
 unfold St.rename
 split
 ·split
  ·show (st.tmps.map (·.map (Nx l k))).getD t .undef= .undef
   rw [Rl (Nx l k) rfl,show st.tmps.getD t .undef= .undef from h]
   rfl
  ·exact h
 ·exact h
theorem Yi: ∀(n i:Nat) (st:St) (t:Nat),st.get t= .undef->(Hs n i st).get t= .undef
 |0,_,_,_,h=>h
 |n+1,i,st,t,h=>by
  simp only [Hs]
  refine Yi n (i+1) _ t ?_
  split
  ·split
   ·split
    ·exact h
    ·exact sH _ _ _ t h
   ·exact h
  ·exact h
theorem sD (st:St) (d:Nat) (v:AV) (t:Nat) (Er:t≠d) (h:st.get t= .undef):(st.put (some d) v).get t= .undef:=by rw [Uk _ _ Er];exact h
theorem nf (k:Nat) (st:St) (t:Nat) (h:st.get t= .undef):(Uw k st).get t= .undef:=by
 unfold Uw
 split
 ·rename_i l off len hg
  split
  ·split
   ·refine sD _ _ _ _ (λe=>by subst e;rw [hg] at h;cases h) ?_
    show (st.tmps.map (·.map (Az l))).getD t .undef= .undef
    rw [Rl (Az l) rfl,show st.tmps.getD t .undef= .undef from h]
    rfl
   ·exact h
  ·exact h
 ·exact h
theorem aS (live:List Nat): ∀(n i:Nat) (st:St) (t:Nat),st.get t= .undef->(Jm live n i st).get t= .undef
 |0,_,_,_,h=>h
 |n+1,i,st,t,h=>by
  simp only [Jm]
  refine aS live n (i+1) _ t ?_
  split
  ·exact nf _ _ _ h
  ·exact h
theorem xD {live:List Nat} {st:St} {t:Nat} (h:((st.clean live).get t).Qg=true):t∈live:=by
 refine Classical.byContradiction λhn=>?_
 have:(st.clean live).get t= .undef:=by
  have key: ∀s:St,s.get t= .undef->(if live.contains Wd then Hs s.tmps.length 0 s else s).get t= .undef:=by
   intro s hs
   split
   ·exact Yi _ _ s t hs
   ·exact hs
  unfold St.clean
  have IY: ∀s:St,s.get t= .undef->(if live.any (λt=>Nat.ble Rz t) then s.Ev live else s).get t= .undef:=by
   intro s hs
   split<;>exact hs
  have IZ: ∀s:St,s.get t= .undef->(if live.any (λt=>Nat.ble Hr t&&Nat.blt t Wd) then Jm live s.tmps.length 0 s else s).get t= .undef:=by
   intro s hs
   split
   ·exact aS _ _ _ s t hs
   ·exact hs
  refine IY _ (key _ (IZ _ (aK _ _ t ?_)))
  exact bF live 0 st.tmps t (by simpa using hn)
 rw [this] at h
 cases h
theorem mz {c:AV} (h:c.Qg=true): ∃fr τ,∃x:τ.den,c= .at (.data fr τ x):=by
 unfold AV.Qg at h
 split at h
 ·exact ⟨_,_,_,rfl⟩
 ·cases h
theorem EY {live:Nat->List Nat} {c:Code} {t:Nat} (h:stays live c t=true):t∉writes c/\Up live c t=true:=by
 unfold stays at h
 simpa using h
section
variable {T:Tab} {Γ:Env} {live:Nat->List Nat}
theorem Jc.keeps {c:Code} {st:St} {Q:Gv->St->Prop} (h:Jc T Γ live c st Q):Jc T Γ live c st (λe s=>Q e s/\Fc (λt=>t∉writes c/\Up live c t=true) st s):=by
 exact yW h st _ Bb.rfl'.on λt ht=>ht
def wsQ (Q:Gv->WS->Prop) (e:Gv) (s:St):Prop:= ∃w':WS,w'.st=s/\w'.OK/\Q e w'
theorem vG {c:Code} (ih: ∀(w:WS) (Q:Gv->WS->Prop),w.OK->Xk T Γ live c w Q->Jc T Γ live c w.st (wsQ Q)) {w:WS} {Q:Gv->WS->Prop} (h:Xk T Γ live (.loop c) w Q):
  Jc T Γ live (.loop c) w.st (wsQ Q):=by
 simp only [Xk,BV,fi] at h
 obtain ⟨UJ,I,μ,h0,hs⟩:=eC h
 have Ae: ∀(t:Nat),((w.st.clean (live (Ci c))).get t).Qg=true->stays live c t=true-> ∀v,((St.oT (Hl (stays live c) 0 (w.st.clean (live (Ci c))).tmps) (w.st.clean (live (Ci c))) (cP ((w.st.clean (live (Ci c))).mask (Hl (stays live c) 0 (w.st.clean (live (Ci c))).tmps)) v)).whole (Sb T.parts (w.st.clean (live (Ci c))).tmps)).get t=(w.st.clean (live (Ci c))).get t:=by
  intro t h1 h2 v
  have h3:=qn (stays live c) 0 (w.st.clean (live (Ci c))).tmps (cP ((w.st.clean (live (Ci c))).mask (Hl (stays live c) 0 (w.st.clean (live (Ci c))).tmps)) v).tmps t
   ((bf _ _).trans (Zv _ _)) h1 (by simpa using h2)
  obtain ⟨fr,τ,x,hx⟩:=mz h1
  refine (Js _ _ rfl λ_ _ _=>rfl) t fr τ x ?_|>.trans hx.symm
  exact h3.trans hx
 have RK: ∀(s1:St),(∀t,((w.st.clean (live (Ci c))).get t).Qg=true->stays live c t=true->s1.get t=(w.st.clean (live (Ci c))).get t)->s1.whole (Sb T.parts (w.st.clean (live (Ci c))).tmps)=s1-> ∀v,cQ ((w.st.clean (live (Ci c))).mask (Hl (stays live c) 0 (w.st.clean (live (Ci c))).tmps)) (s1.mask (Hl (stays live c) 0 (w.st.clean (live (Ci c))).tmps))=some v->
   s1=(St.oT (Hl (stays live c) 0 (w.st.clean (live (Ci c))).tmps) (w.st.clean (live (Ci c))) (cP ((w.st.clean (live (Ci c))).mask (Hl (stays live c) 0 (w.st.clean (live (Ci c))).tmps)) v)).whole (Sb T.parts (w.st.clean (live (Ci c))).tmps):=by
  intro s1 hf hwh v hv
  have h1:=cR hv
  have h2:St.oT (Hl (stays live c) 0 (w.st.clean (live (Ci c))).tmps) (w.st.clean (live (Ci c))) (s1.mask (Hl (stays live c) 0 (w.st.clean (live (Ci c))).tmps))=s1:=by
   simp only [St.oT,St.mask]
   rw [mS (stays live c) 0 (w.st.clean (live (Ci c))).tmps s1.tmps λt h3 h4=>hf t h3 (by simpa using h4)]
  have h3:(St.oT (Hl (stays live c) 0 (w.st.clean (live (Ci c))).tmps) (w.st.clean (live (Ci c))) (cP ((w.st.clean (live (Ci c))).mask (Hl (stays live c) 0 (w.st.clean (live (Ci c))).tmps)) v)).whole (Sb T.parts (w.st.clean (live (Ci c))).tmps)=s1.whole (Sb T.parts (w.st.clean (live (Ci c))).tmps):=by
   refine x8 ?_
   rw [mT,h1,<-mT,h2]
  rw [h3,hwh]
 refine DZ (λv=>(St.oT (Hl (stays live c) 0 (w.st.clean (live (Ci c))).tmps) (w.st.clean (live (Ci c))) (cP ((w.st.clean (live (Ci c))).mask (Hl (stays live c) 0 (w.st.clean (live (Ci c))).tmps)) v)).whole (Sb T.parts (w.st.clean (live (Ci c))).tmps)) I μ _ h0 (RK _ (λ_ _ _=>rfl) UJ _ (kF _ (fE _ _ (Nb h)))) ?_
 intro a ha
 refine (Jc.keeps (ih ⟨[],_⟩ _ (λt b h=>by cases h) (hs a ha))).mono ?_
 intro e s hQ
 obtain ⟨⟨w',h1,h2,h3⟩,hk⟩:=hQ
 subst h1
 cases e with
 |normal=>
  obtain ⟨h4,h5⟩:=eC h3
  obtain ⟨v',h6,h7,h8⟩:=As.1 h5
  refine ⟨v',RK _ (λt hd ht=>?_) h4 _ h6,h7,h8⟩
  obtain ⟨fr,τ,x,hx⟩:=mz hd
  rw [hx]
  exact ej (live (Ci c)) w'.st t fr τ x (xD hd) (hk t fr τ x (EY ht) (by rw [Ae t hd ht a];exact hx))
 |exit id=>exact ⟨w',rfl,h2,h3⟩
 |ret=>exact ⟨w',rfl,h2,h3⟩
theorem jQ: ∀(c:Code) (w:WS) (Q:Gv->WS->Prop),w.OK->Xk T Γ live c w Q->Jc T Γ live c w.st (wsQ Q):=by
 intro c
 induction c with
 |skip=>intro w Q hw h;exact .skip ⟨w,rfl,hw,h⟩
 |label _=>intro w Q hw h;exact .label ⟨w,rfl,hw,h⟩
 |exit _=>intro w Q hw h;exact .exit ⟨w,rfl,hw,h⟩
 |ret=>intro w Q hw h;exact .ret ⟨w,rfl,hw,h⟩
 |region id ops draw=>
  intro w Q hw h
  exact .region ((p6 hw h).mono λs ⟨w',h1,h2,h3⟩=>⟨w',h1,h2,Zo.1 h3⟩)
 |seq x y ihx ihy=>
  intro w Q hw h
  refine KI ((ihx w _ hw h).mono λe s hQ=>?_)
  obtain ⟨w',h1,h2,h3⟩:=hQ
  subst h1
  cases e with
  |normal=>exact ihy w' Q h2 h3
  |exit id=>exact ⟨w',rfl,h2,h3⟩
  |ret=>exact ⟨w',rfl,h2,h3⟩
 |cond c x y ihx ihy=>
  intro w Q hw h
  obtain ⟨fr,b,w',h1,h2,h3,h4⟩:=pG hw h
  refine DY h1 (λhb=>?_) (λhb=>?_)
  ·subst hb;rw [<-h2];exact ihx w' Q h3 h4
  ·subst hb;rw [<-h2];exact ihy w' Q h3 h4
 |block id c ih=>
  intro w Q hw h
  refine yV ((ih w _ hw h).mono λe s hQ=>?_)
  obtain ⟨w',h1,h2,h3⟩:=hQ
  subst h1
  cases e with
  |normal=>exact ⟨w',rfl,h2,h3⟩
  |ret=>exact ⟨w',rfl,h2,h3⟩
  |exit CG=>
   simp only at h3
   simp only [pY]
   split at h3
   ·rename_i hi;rw [if_pos hi];exact ⟨w',rfl,h2,h3⟩
   ·rename_i hi;rw [if_neg hi];exact ⟨w',rfl,h2,h3⟩
 |loop c ih=>intro w Q hw h;exact vG ih h
 |_=>intro w Q hw h;exact absurd h (by simp [Xk])
theorem lV {s:Spec} {fn:Func} {P:s.res.den->Prop} {st:St} (h:SM T s fn P st): ∃fr y,gE T s fn st=some (fr,y)/\(fr||!s.fresh)=true/\P y:=by
 obtain ⟨p,h1,h2⟩:=As.1 h
 split at h2
 ·rename_i hf;exact ⟨p.1,p.2,h1,hf,h2⟩
 ·cases h2
theorem BU {s:Spec} {fn:Func} {x:s.arg.den} {P:s.res.den->Prop} (h:fnW T Γ s fn x P):GM T Γ s fn x P:=by
 unfold fnW at h
 obtain ⟨c,h1,h2⟩:=As.1 h
 refine ⟨c,h1,(jQ c _ _ (λt b h=>by cases h) h2).mono λe st ⟨w,h4,h5,h6⟩=>?_⟩
 subst h4
 cases e with
 |normal=>exact ⟨λid hh=>(by cases hh),lV h6⟩
 |ret=>exact ⟨λid hh=>(by cases hh),lV h6⟩
 |exit id=>cases h6
theorem Vx {st:St} {K:Prop} : ∀(vs:List AC) (cs:List (Bool×CK)),cf st K vs cs->cd st vs cs/\K
 | [],cs,h=>⟨by simp [cd],by simpa [cf] using h⟩
 |a::vs,[],h=>⟨by cases a<;>simp [cd],by cases a<;>simpa [cf] using h⟩
 |a::vs,(false,c)::r,h=>by
  have h:cf st K vs r:=by cases a<;>simpa only [cf] using h
  obtain ⟨h1,h2⟩:=Vx vs r h
  exact ⟨by cases a<;>simpa only [cd] using h1,h2⟩
 |a::vs,(true,c)::r,h=>by
  cases a with
  |own l off len=>
   simp only [cf] at h
   split at h
   ·rename_i hl
    obtain ⟨h1,h2⟩:=Vx vs r h.2
    refine ⟨?_,h2⟩
    simp only [cd,hl]
    exact ⟨h.1,h1⟩
   ·rename_i hl
    obtain ⟨h1,h2⟩:=Vx vs r h.2
    refine ⟨?_,h2⟩
    simp only [cd,hl]
    exact ⟨h.1,h1⟩
   ·exact h.elim
  |_=>exact ⟨by simp [cd],by simpa [cf] using h⟩
theorem a5 {st:St} : ∀(cs:List CK) (as:List AC) (K:CKs.den cs->List Nat->Prop),jj st cs as K-> ∃x ls,Nw st cs as=some (x,ls)/\K x ls
 | [],[],K,h=>⟨(),[],rfl,h⟩
 | [],_::_,_,h=>h.elim
 |c::r,[],K,h=>by cases c<;>exact h.elim
 |c::r,a::as,K,h=>by
  have oo:Dz (dO st c a) (λp=>jj st r as λy t=>K (p.1,y) (p.2++t))-> ∃x ls,Nw st (c::r) (a::as)=some (x,ls)/\K x ls:= λh=>by
   obtain ⟨p,h1,h2⟩:=As.1 h
   obtain ⟨y,t,h3,h4⟩:=a5 r as _ h2
   exact ⟨_,_,by simp only [Nw,h1,h3],h4⟩
  cases c with
  |Al e te kp=>
   cases a with
   |own l off len=>
    simp only [jj] at h
    split at h
    ·rename_i hl
     split at h
     ·rename_i hc
      obtain ⟨⟨h1,h2⟩,h⟩:=h
      obtain ⟨y,t,h3,h4⟩:=a5 r as _ h
      exact ⟨_,_,by simp only [Nw,dO,hl];rw [dif_pos ⟨hc.1,hc.2,h1,h2⟩];simp only [h3];rfl,h4⟩
     ·exact h.elim
    ·exact h.elim
   |_=>exact oo h
  |_=>exact oo h
theorem gT {st:St} {n:Nat} {as:List AC} {K:Prop} : ∀(ks:List (Nat×Nat)),s7 st n as ks K->q8 st n as ks/\K
 | [],h=>⟨trivial,h⟩
 |(k,j)::r,h=>by
  simp only [s7] at h
  split at h
  ·rename_i l off len ha
   split at h
   ·rename_i p hl
    split at h
    ·rename_i hc
     simp only [Bool.and_eq_true] at hc
     obtain ⟨h1,h2⟩:=gT r h.2
     refine ⟨?_,h2⟩
     simp only [q8,ha,hl]
     exact ⟨⟨Nat.eq_of_beq_eq_true hc.1,h.1,hc.2⟩,h1⟩
    ·exact h.elim
   ·exact h.elim
  ·exact h.elim
theorem cH {s:MSpec} {fn:Func} {x:Ins.den s.ins} {st:St} {cs:List AC} {P:CKs.den s.outs×IOs.den s.ins->Prop} (h:ni T s fn x st cs P):dz T s fn x st cs P:=by
 obtain ⟨l,h1,h⟩:=As.1 h
 obtain ⟨⟨as,ml⟩,h2,h⟩:=As.1 h
 obtain ⟨r,ls,h3,h⟩:=a5 _ _ _ h
 obtain ⟨o,h4,h⟩:=As.1 h
 split at h
 ·rename_i hc
  obtain ⟨h5,h6⟩:=gT _ h
  unfold dz
  simp only [h1,h2,h3,h4]
  exact ⟨hc,h5,h6⟩
 ·exact h.elim
theorem kz {s:MSpec} {fn:Func} {x:Ins.den s.ins} {st:St} {P:CKs.den s.outs×IOs.den s.ins->Prop} (h:AW T s fn x st P):GL T s fn x st P:=by
 unfold AW at h
 unfold GL
 cases hp:s.ptr with
 |none=>rw [hp] at h;exact cH h
 |some p=>
  rw [hp] at h
  simp only at h⊢
  split at h
  ·rename_i tid vs hl
   split at h
   ·rename_i hc
    simp only [Bool.and_eq_true] at hc
    obtain ⟨h1,h2⟩:=hc
    have h1:tid=p.1:=Nat.eq_of_beq_eq_true h1
    have h2:=Nat.eq_of_beq_eq_true h2
    subst h1
    obtain ⟨cs,h3,h4⟩:=As.1 h
    obtain ⟨h5,h6⟩:=Vx vs s.ins h4
    exact ⟨vs,cs,hl,h2,h3,h5,cH h6⟩
   ·exact h.elim
  ·exact h.elim
theorem xN {s:MSpec} {fn:Func} {x:Ins.den s.ins} {P:CKs.den s.outs×IOs.den s.ins->Prop} (h:fnMW T Γ s fn x P):QD T Γ s fn x P:=by
 unfold fnMW at h
 split at h
 ·cases h
 rename_i hlen
 obtain ⟨c,h1,h2⟩:=As.1 h
 refine ⟨hlen,c,h1,(jQ c _ _ (λt b h=>by cases h) h2).mono λe st ⟨w,h4,h5,h6⟩=>?_⟩
 subst h4
 cases e with
 |normal=>exact ⟨λid hh=>(by cases hh),kz h6⟩
 |ret=>exact ⟨λid hh=>(by cases hh),kz h6⟩
 |exit id=>cases h6
theorem Ea.ofW {P:Program} (hT:Cd P T) (Md:Hy P Γ) (hm:P.follows .mixedOrders=true) {f:FuncId} {fn:Func} (hf:P.funcs[f]?=some fn) (hn:(fn.name== "runtime.NumGoroutine")=false)
  (hb:fn.body.isNone=false) (s:MSpec) (h: ∀x y,s.fn x=some y->fnMW T Γ s fn x (λz=>z=y)):Ea P f s:=
 ⟨bD hf hn hb,λw S π us x r o g vs h1 hg h2 h3 hS h4 h5=>oz hT Md hm hf s w S π us x r o g vs h1 hg h2 h3 hS h4 (xN (h x (r,o) h5))⟩
theorem Sound.ofW {P:Program} (hT:Cd P T) (Md:Hy P Γ) (hm:P.follows .mixedOrders=true) {f:FuncId} {fn:Func} (hf:P.funcs[f]?=some fn) (hn:(fn.name== "runtime.NumGoroutine")=false)
  (hb:fn.body.isNone=false) (s:Spec) (h: ∀x y,s.fn x=some y->fnW T Γ s fn x (λz=>z=y)):Sound P f s:=
 KK hT Md hm hf hn hb s λx y hx=>BU (h x y hx)
end
end Go.Proofs.Ytjbdmibbbpdnnaa
