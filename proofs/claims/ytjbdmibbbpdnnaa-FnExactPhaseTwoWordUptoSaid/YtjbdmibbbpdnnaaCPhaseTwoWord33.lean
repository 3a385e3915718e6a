/-
  Part 34 of the proof that the statement FnExactPhaseTwoWord holds.
-/
import Derived.Test.YtjbdmibbbpdnnaaCPhaseTwoWord32
namespace Go.Proofs.Ytjbdmibbbpdnnaa
open Go.RowKit
theorem Nh {B:List (Nat×Nat×Nat)} {H:List (Nat×OB)} : ∀ {l:List AV} {K:Prop},Un B H l K-> ∀c∈l,c.eE=true
 | [],_,_,c,hc=>by cases hc
 |d::l,K,h,c,hc=>by
  simp only [Un] at h
  cases d with
  |Ix l'=>exact h.elim
  | «at»a=>
   rcases List.mem_cons.1 hc with rfl|hc
   ·rfl
   ·have h':Un B H l K:=by
     cases a with
     |own k o n=>exact h.2.2
     |_=>exact h
    exact Nh h' c hc
  |Uo _ _ _=>
   rcases List.mem_cons.1 hc with rfl|hc
   ·rfl
   ·exact Nh h c hc
  |agg cs=>
   rcases List.mem_cons.1 hc with rfl|hc
   ·rfl
   ·have: ∀(cs:List AC) (Q:Prop),Xt B H cs Q->Q:=by
     intro cs
     induction cs with
     |nil=>exact λQ h=>h
     |cons a cs ih=>
      intro Q h
      have h2:Xt B H cs Q:=by
       cases a with
       |own k o n=>exact h.2.2
       |_=>exact h
      exact ih Q h2
    exact Nh (this cs _ h) c hc
theorem fM: ∀(f:List Bool) (l:List AV),(∀c∈l,c.eE=true)-> ∀c∈Oc f l,c.eE=true
 | [],l,h=>by simpa [Oc] using h
 |true::f,[],h=>by simp [Oc] at h⊢
 |false::f,[],h=>by simp [Oc] at h⊢
 |true::f,a::l,h=>by
  intro c hc
  simp only [Oc,List.mem_cons] at hc
  rcases hc with rfl|hc
  ·rfl
  ·exact fM f l (λc hc=>h c (List.mem_cons_of_mem _ hc)) c hc
 |false::f,a::l,h=>by
  intro c hc
  simp only [Oc,List.mem_cons] at hc
  rcases hc with rfl|hc
  ·exact h c (by simp)
  ·exact fM f l (λc hc=>h c (List.mem_cons_of_mem _ hc)) c hc
theorem CP (f:AC->AC) (H:List (Nat×OB)) (l:Nat):lenOf (H.map λp=>(p.1,p.2.map f)) l=lenOf H l:=by
 unfold lenOf
 rw [Jh]
 cases Ae H l with
 |none=>rfl
 |some b=>cases b<;>rfl
theorem xq (f g:AC->AC) (c:AV):(c.map f).map g=c.map λa=>g (f a):=by
 cases c<;>simp [AV.map]
theorem yy (f g:AC->AC) (c:OB):(c.map f).map g=c.map λa=>g (f a):=by
 cases c<;>simp [OB.map]
theorem vF (s:St) (f g:AC->AC):(s.Gh f).Gh g=s.Gh λa=>g (f a):=by
 simp [St.Gh,List.map_map,Function.comp_def,xq,yy]
theorem vn (f:AC->AC) (H:List (Nat×OB)) (l:Nat): ∀(B:List (Nat×Nat×Nat)),CN B (H.map λp=>(p.1,p.2.map f)) l=CN B H l
 | []=>CP f H l
 |(k,o,n)::r=>by simp only [CN];rw [vn f H l r]
theorem x9 (B:List (Nat×Nat×Nat)) (s:St):(s.Gh Mk).whole B=s.whole B:=by
 unfold St.whole
 rw [vF]
 congr 1
 funext a
 cases a with
 |own l off len=>simp only [Mk,aS,St.Gh,vn]
 |_=>rfl
theorem x7 {B:List (Nat×Nat×Nat)} {s t:St} (h:s.Gh Mk=t.Gh Mk):s.whole B=t.whole B:=by rw [<-x9 B s,h,x9]
theorem jr (f:AC->AC): ∀(fx:List Bool) (a b:List AV),(Pj fx a b).map (·.map f)=Pj fx (a.map (·.map f)) (b.map (·.map f))
 | [],_,_=>by simp [Pj]
 |_::_,[],_=>by simp [Pj]
 |true::_,_::_,[]=>by simp [Pj]
 |false::_,_::_,[]=>by simp [Pj]
 |true::fx,x::a,y::b=>by simp only [Pj,List.map_cons,jr f fx a b]
 |false::fx,x::a,y::b=>by simp only [Pj,List.map_cons,jr f fx a b]
theorem nh (f:AC->AC) (fx:List Bool) (a b:St):(St.oR fx a b).Gh f=St.oR fx (a.Gh f) (b.Gh f):=by
 simp only [St.oR,St.Gh,jr]
theorem ng (p:Nat->Bool): ∀(i:Nat) (l0 l1:List AV),(∀t,(l0.getD t .undef).Qt=true->p (i+t)=true->l1.getD t .undef=l0.getD t .undef)->
  Pj (Hm p i l0) l0 (Oc (Hm p i l0) l1)=l1
 |_,[],l1,_=>by simp [Hm,Oc,Pj]
 |i,a::r,[],_=>by
  simp only [Hm]
  cases (a.Qt&&p i)<;>simp [Oc,Pj]
 |i,a::r,b::s,h=>by
  have hr:=ng p (i+1) r s λt h1 h2=>by
   have:=h (t+1) (by simpa using h1) (by rw [show i+(t+1)=i+1+t by omega];exact h2)
   simpa using this
  simp only [Hm]
  cases hc:(a.Qt&&p i) with
  |false=>simp only [Oc,Pj];rw [hr]
  |true=>
   simp only [Oc,Pj]
   rw [hr]
   simp only [Bool.and_eq_true] at hc
   have:=h 0 (by simpa using hc.1) hc.2
   simp only [List.getD_cons_zero] at this
   rw [this]
theorem ah: ∀(f:List Bool) (l:List AV),(Oc f l).length=l.length
 | [],l=>by simp [Oc]
 |true::f,[]=>by simp [Oc]
 |false::f,[]=>by simp [Oc]
 |true::f,a::l=>by simp [Oc,ah f l]
 |false::f,a::l=>by simp [Oc,ah f l]
theorem br: ∀(l:List AV) {R:Type} (v:kQ l R),(Pv l v).1.length=l.length
 | [],_,_=>rfl
 |c::l,_,v=>by simp [Pv,br l]
theorem qp (p:Nat->Bool): ∀(i:Nat) (l0 l:List AV) (t:Nat),l.length=l0.length->(l0.getD t .undef).Qt=true->p (i+t)=true->(Pj (Hm p i l0) l0 l).getD t .undef=l0.getD t .undef
 |_,[],_,t,_,h,_=>by simp [AV.Qt] at h
 |i,a::r,[],_,h,_,_=>by simp at h
 |i,a::r,b::s,0,_,h1,h2=>by
  have:(a.Qt&&p i)=true:=by
   simp only [Bool.and_eq_true]
   exact ⟨by simpa using h1,h2⟩
  simp only [Hm,this,Pj,List.getD_cons_zero]
 |i,a::r,b::s,t+1,hl,h1,h2=>by
  have hr:=qp p (i+1) r s t (by simpa using hl) (by simpa using h1) (by rw [show i+1+t=i+(t+1) by omega];exact h2)
  simp only [Hm]
  cases (a.Qt&&p i)<;>simpa only [Pj,List.getD_cons_succ] using hr
theorem dU {B:List (Nat×Nat×Nat)} {H:List (Nat×OB)} {c:AC} {K:Prop} (h:qZ B H c K):aS B H c=c/\K:=by
 cases c with
 |own l off len=>obtain ⟨h1,h2,h3⟩:=h;exact ⟨by rw [h1,h2];rfl,h3⟩
 |_=>exact ⟨rfl,h⟩
theorem Us {B:List (Nat×Nat×Nat)} {H:List (Nat×OB)} : ∀ {l:List AC} {K:Prop},Xt B H l K->l.map (aS B H)=l/\K
 | [],_,h=>⟨rfl,h⟩
 |c::l,_,h=>by
  obtain ⟨h1,h2⟩:=dU h
  obtain ⟨h3,h4⟩:=Us h2
  exact ⟨by rw [List.map_cons,h1,h3],h4⟩
theorem oh {B:List (Nat×Nat×Nat)} {H:List (Nat×OB)} {c:AV} {K:Prop} (h:zE B H c K):c.map (aS B H)=c/\K:=by
 cases c with
 | «at»a=>obtain ⟨h1,h2⟩:=dU h;exact ⟨by rw [AV.map,h1],h2⟩
 |agg cs=>obtain ⟨h1,h2⟩:=Us h;exact ⟨by rw [AV.map,h1],h2⟩
 |Uo _ _ _=>exact ⟨rfl,h⟩
 |Ix l=>exact h.elim
theorem bt {B:List (Nat×Nat×Nat)} {H:List (Nat×OB)} : ∀ {l:List AV} {K:Prop},Un B H l K->l.map (·.map (aS B H))=l/\K
 | [],_,h=>⟨rfl,h⟩
 |c::l,_,h=>by
  obtain ⟨h1,h2⟩:=oh h
  obtain ⟨h3,h4⟩:=bt h2
  exact ⟨by rw [List.map_cons,h1,h3],h4⟩
theorem Hz {B:List (Nat×Nat×Nat)} {H:List (Nat×OB)} : ∀ {l:List (Nat×OB)} {K:Prop},dy B H l K->l.map (λp=>(p.1,p.2.map (aS B H)))=l/\K
 | [],_,h=>⟨rfl,h⟩
 |(k, .var t vs)::l,_,h=>by
  obtain ⟨h1,h2⟩:=Us h
  obtain ⟨h3,h4⟩:=Hz h2
  exact ⟨by rw [List.map_cons,h3];simp only [OB.map,h1],h4⟩
 |(k, .arr a b c d e)::l,_,h=>by
  obtain ⟨h3,h4⟩:=Hz (l:=l) h
  exact ⟨by rw [List.map_cons,h3];rfl,h4⟩
 |(k, .Dg a b c)::l,_,h=>by
  obtain ⟨h3,h4⟩:=Hz (l:=l) h
  exact ⟨by rw [List.map_cons,h3];rfl,h4⟩
 |(k, .Al a b c d e)::l,_,h=>by
  obtain ⟨h3,h4⟩:=Hz (l:=l) h
  exact ⟨by rw [List.map_cons,h3];rfl,h4⟩
 |(k, .Ok a b)::l,_,h=>by
  obtain ⟨h3,h4⟩:=Hz (l:=l) h
  exact ⟨by rw [List.map_cons,h3];rfl,h4⟩
theorem eJ {B:List (Nat×Nat×Nat)} {s:St} {K:Prop} (h:sX B s K):s.whole B=s/\K:=by
 obtain ⟨h1,h2⟩:=bt h
 obtain ⟨h3,h4⟩:=Hz h2
 exact ⟨by unfold St.whole St.Gh;rw [h1,h3],h4⟩
theorem bM (live:List Nat): ∀(i:Nat) (l:List AV) (t:Nat),i+t∉live->(Fw live i l).getD t .undef= .undef
 |_,[],_,_=>rfl
 |i,v::r,0,h=>by simp [Fw];intro hn;exact absurd hn h
 |i,v::r,t+1,h=>by
  simp only [Fw,List.getD_cons_succ]
  exact bM live (i+1) r t (by rw [show i+1+t=i+(t+1) by omega];exact h)
theorem aZ: ∀(l:List Nat) (st:St) (t:Nat),st.get t= .undef->(Ye l st).get t= .undef
 | [],_,_,h=>h
 |a::r,st,t,h=>aZ r _ t (by
  show (st.tmps.map (·.map (Ba a))).getD t .undef= .undef
  rw [Sa (Ba a) rfl,show st.tmps.getD t .undef= .undef from h]
  rfl)
theorem sG (l k:Nat) (st:St) (t:Nat) (h:st.get t= .undef):(st.rename l k).get t= .undef:=by
 unfold St.rename
 split
 ·split
  ·show (st.tmps.map (·.map (Oe l k))).getD t .undef= .undef
   rw [Sa (Oe l k) rfl,show st.tmps.getD t .undef= .undef from h]
   rfl
  ·exact h
 ·exact h
theorem Yv: ∀(n i:Nat) (st:St) (t:Nat),st.get t= .undef->(Hq n i st).get t= .undef
 |0,_,_,_,h=>h
 |n+1,i,st,t,h=>by
  simp only [Hq]
  refine Yv n (i+1) _ t ?_
  split
  ·split
   ·split
    ·exact h
    ·exact sG _ _ _ t h
   ·exact h
  ·exact h
theorem sC (st:St) (d:Nat) (v:AV) (t:Nat) (Ff:t≠d) (h:st.get t= .undef):(st.put (some d) v).get t= .undef:=by rw [Vc _ _ Ff];exact h
theorem nt (k:Nat) (st:St) (t:Nat) (h:st.get t= .undef):(Vo k st).get t= .undef:=by
 unfold Vo
 split
 ·rename_i l off len hg
  split
  ·split
   ·refine sC _ _ _ _ (λe=>by subst e;rw [hg] at h;cases h) ?_
    show (st.tmps.map (·.map (Ba l))).getD t .undef= .undef
    rw [Sa (Ba l) rfl,show st.tmps.getD t .undef= .undef from h]
    rfl
   ·exact h
  ·exact h
 ·exact h
theorem bj (live:List Nat): ∀(n i:Nat) (st:St) (t:Nat),st.get t= .undef->(Jk live n i st).get t= .undef
 |0,_,_,_,h=>h
 |n+1,i,st,t,h=>by
  simp only [Jk]
  refine bj live n (i+1) _ t ?_
  split
  ·exact nt _ _ _ h
  ·exact h
theorem xD {live:List Nat} {st:St} {t:Nat} (h:((st.clean live).get t).Qt=true):t∈live:=by
 refine Classical.byContradiction λhn=>?_
 have:(st.clean live).get t= .undef:=by
  have key: ∀s:St,s.get t= .undef->(if live.contains Wq then Hq s.tmps.length 0 s else s).get t= .undef:=by
   intro s hs
   split
   ·exact Yv _ _ s t hs
   ·exact hs
  unfold St.clean
  have IA: ∀s:St,s.get t= .undef->(if live.any (λt=>Nat.ble Sr t) then s.Ev live else s).get t= .undef:=by
   intro s hs
   split<;>exact hs
  have IB: ∀s:St,s.get t= .undef->(if live.any (λt=>Nat.ble Lo t&&Nat.blt t Wq) then Jk live s.tmps.length 0 s else s).get t= .undef:=by
   intro s hs
   split
   ·exact bj _ _ _ s t hs
   ·exact hs
  refine IA _ (key _ (IB _ (aZ _ _ t ?_)))
  exact bM live 0 st.tmps t (by simpa using hn)
 rw [this] at h
 cases h
theorem mL {c:AV} (h:c.Qt=true): ∃fr τ,∃x:τ.den,c= .at (.data fr τ x):=by
 unfold AV.Qt at h
 split at h
 ·exact ⟨_,_,_,rfl⟩
 ·cases h
theorem EK {live:Nat->List Nat} {c:Code} {t:Nat} (h:stays live c t=true):t∉writes c/\Vg live c t=true:=by
 unfold stays at h
 simpa using h
section
variable {T:Tab} {Γ:Env} {live:Nat->List Nat}
theorem Ja.keeps {c:Code} {st:St} {Q:Gw->St->Prop} (h:Ja T Γ live c st Q):Ja T Γ live c st (λe s=>Q e s/\Fc (λt=>t∉writes c/\Vg live c t=true) st s):=by
 exact yX h st _ Bc.rfl'.on λt ht=>ht
def wsQ (Q:Gw->WS->Prop) (e:Gw) (s:St):Prop:= ∃w':WS,w'.st=s/\w'.OK/\Q e w'
theorem vC {c:Code} (ih: ∀(w:WS) (Q:Gw->WS->Prop),w.OK->Xx T Γ live c w Q->Ja T Γ live c w.st (wsQ Q)) {w:WS} {Q:Gw->WS->Prop} (h:Xx T Γ live (.loop c) w Q):
  Ja T Γ live (.loop c) w.st (wsQ Q):=by
 simp only [Xx,BV,fv] at h
 obtain ⟨TD,I,μ,h0,hs⟩:=eJ h
 have Ae: ∀(t:Nat),((w.st.clean (live (Ch c))).get t).Qt=true->stays live c t=true-> ∀v,((St.oR (Hm (stays live c) 0 (w.st.clean (live (Ch c))).tmps) (w.st.clean (live (Ch c))) (cZ ((w.st.clean (live (Ch c))).mask (Hm (stays live c) 0 (w.st.clean (live (Ch c))).tmps)) v)).whole (Sv T.parts (w.st.clean (live (Ch c))).tmps)).get t=(w.st.clean (live (Ch c))).get t:=by
  intro t h1 h2 v
  have h3:=qp (stays live c) 0 (w.st.clean (live (Ch c))).tmps (cZ ((w.st.clean (live (Ch c))).mask (Hm (stays live c) 0 (w.st.clean (live (Ch c))).tmps)) v).tmps t
   ((br _ _).trans (ah _ _)) h1 (by simpa using h2)
  obtain ⟨fr,τ,x,hx⟩:=mL h1
  refine (Jr _ _ rfl λ_ _ _=>rfl) t fr τ x ?_|>.trans hx.symm
  exact h3.trans hx
 have QB: ∀(s1:St),(∀t,((w.st.clean (live (Ch c))).get t).Qt=true->stays live c t=true->s1.get t=(w.st.clean (live (Ch c))).get t)->s1.whole (Sv T.parts (w.st.clean (live (Ch c))).tmps)=s1-> ∀v,da ((w.st.clean (live (Ch c))).mask (Hm (stays live c) 0 (w.st.clean (live (Ch c))).tmps)) (s1.mask (Hm (stays live c) 0 (w.st.clean (live (Ch c))).tmps))=some v->
   s1=(St.oR (Hm (stays live c) 0 (w.st.clean (live (Ch c))).tmps) (w.st.clean (live (Ch c))) (cZ ((w.st.clean (live (Ch c))).mask (Hm (stays live c) 0 (w.st.clean (live (Ch c))).tmps)) v)).whole (Sv T.parts (w.st.clean (live (Ch c))).tmps):=by
  intro s1 hf hwh v hv
  have h1:=db hv
  have h2:St.oR (Hm (stays live c) 0 (w.st.clean (live (Ch c))).tmps) (w.st.clean (live (Ch c))) (s1.mask (Hm (stays live c) 0 (w.st.clean (live (Ch c))).tmps))=s1:=by
   simp only [St.oR,St.mask]
   rw [ng (stays live c) 0 (w.st.clean (live (Ch c))).tmps s1.tmps λt h3 h4=>hf t h3 (by simpa using h4)]
  have h3:(St.oR (Hm (stays live c) 0 (w.st.clean (live (Ch c))).tmps) (w.st.clean (live (Ch c))) (cZ ((w.st.clean (live (Ch c))).mask (Hm (stays live c) 0 (w.st.clean (live (Ch c))).tmps)) v)).whole (Sv T.parts (w.st.clean (live (Ch c))).tmps)=s1.whole (Sv T.parts (w.st.clean (live (Ch c))).tmps):=by
   refine x7 ?_
   rw [nh,h1,<-nh,h2]
  rw [h3,hwh]
 refine DV (λv=>(St.oR (Hm (stays live c) 0 (w.st.clean (live (Ch c))).tmps) (w.st.clean (live (Ch c))) (cZ ((w.st.clean (live (Ch c))).mask (Hm (stays live c) 0 (w.st.clean (live (Ch c))).tmps)) v)).whole (Sv T.parts (w.st.clean (live (Ch c))).tmps)) I μ _ h0 (QB _ (λ_ _ _=>rfl) TD _ (kM _ (fM _ _ (Nh h)))) ?_
 intro a ha
 refine (Ja.keeps (ih ⟨[],_⟩ _ (λt b h=>by cases h) (hs a ha))).mono ?_
 intro e s hQ
 obtain ⟨⟨w',h1,h2,h3⟩,hk⟩:=hQ
 subst h1
 cases e with
 |normal=>
  obtain ⟨h4,h5⟩:=eJ h3
  obtain ⟨v',h6,h7,h8⟩:=As.1 h5
  refine ⟨v',QB _ (λt hd ht=>?_) h4 _ h6,h7,h8⟩
  obtain ⟨fr,τ,x,hx⟩:=mL hd
  rw [hx]
  exact ez (live (Ch c)) w'.st t fr τ x (xD hd) (hk t fr τ x (EK ht) (by rw [Ae t hd ht a];exact hx))
 |exit id=>exact ⟨w',rfl,h2,h3⟩
 |ret=>exact ⟨w',rfl,h2,h3⟩
theorem kb: ∀(c:Code) (w:WS) (Q:Gw->WS->Prop),w.OK->Xx T Γ live c w Q->Ja T Γ live c w.st (wsQ Q):=by
 intro c
 induction c with
 |skip=>intro w Q hw h;exact .skip ⟨w,rfl,hw,h⟩
 |label _=>intro w Q hw h;exact .label ⟨w,rfl,hw,h⟩
 |exit _=>intro w Q hw h;exact .exit ⟨w,rfl,hw,h⟩
 |ret=>intro w Q hw h;exact .ret ⟨w,rfl,hw,h⟩
 |region id ops draw=>
  intro w Q hw h
  exact .region ((oZ hw h).mono λs ⟨w',h1,h2,h3⟩=>⟨w',h1,h2,a7.1 h3⟩)
 |seq x y ihx ihy=>
  intro w Q hw h
  refine JO ((ihx w _ hw h).mono λe s hQ=>?_)
  obtain ⟨w',h1,h2,h3⟩:=hQ
  subst h1
  cases e with
  |normal=>exact ihy w' Q h2 h3
  |exit id=>exact ⟨w',rfl,h2,h3⟩
  |ret=>exact ⟨w',rfl,h2,h3⟩
 |cond c x y ihx ihy=>
  intro w Q hw h
  obtain ⟨fr,b,w',h1,h2,h3,h4⟩:=pH hw h
  refine DU h1 (λhb=>?_) (λhb=>?_)
  ·subst hb;rw [<-h2];exact ihx w' Q h3 h4
  ·subst hb;rw [<-h2];exact ihy w' Q h3 h4
 |block id c ih=>
  intro w Q hw h
  refine yW ((ih w _ hw h).mono λe s hQ=>?_)
  obtain ⟨w',h1,h2,h3⟩:=hQ
  subst h1
  cases e with
  |normal=>exact ⟨w',rfl,h2,h3⟩
  |ret=>exact ⟨w',rfl,h2,h3⟩
  |exit CH=>
   simp only at h3
   simp only [pZ]
   split at h3
   ·rename_i hi;rw [if_pos hi];exact ⟨w',rfl,h2,h3⟩
   ·rename_i hi;rw [if_neg hi];exact ⟨w',rfl,h2,h3⟩
 |loop c ih=>intro w Q hw h;exact vC ih h
 |_=>intro w Q hw h;exact absurd h (by simp [Xx])
theorem mf {s:Spec} {fn:Func} {P:s.res.den->Prop} {st:St} (h:RI T s fn P st): ∃fr y,gG T s fn st=some (fr,y)/\(fr||!s.fresh)=true/\P y:=by
 obtain ⟨p,h1,h2⟩:=As.1 h
 split at h2
 ·rename_i hf;exact ⟨p.1,p.2,h1,hf,h2⟩
 ·cases h2
theorem BU {s:Spec} {fn:Func} {x:s.arg.den} {P:s.res.den->Prop} (h:fnW T Γ s fn x P):FX T Γ s fn x P:=by
 unfold fnW at h
 obtain ⟨c,h1,h2⟩:=As.1 h
 refine ⟨c,h1,(kb c _ _ (λt b h=>by cases h) h2).mono λe st ⟨w,h4,h5,h6⟩=>?_⟩
 subst h4
 cases e with
 |normal=>exact ⟨λid hh=>(by cases hh),mf h6⟩
 |ret=>exact ⟨λid hh=>(by cases hh),mf h6⟩
 |exit id=>cases h6
theorem Wl {st:St} {K:Prop} : ∀(vs:List AC) (cs:List (Bool×CK)),cp st K vs cs->cn st vs cs/\K
 | [],cs,h=>⟨by simp [cn],by simpa [cp] using h⟩
 |a::vs,[],h=>⟨by cases a<;>simp [cn],by cases a<;>simpa [cp] using h⟩
 |a::vs,(false,c)::r,h=>by
  have h:cp st K vs r:=by cases a<;>simpa only [cp] using h
  obtain ⟨h1,h2⟩:=Wl vs r h
  exact ⟨by cases a<;>simpa only [cn] using h1,h2⟩
 |a::vs,(true,c)::r,h=>by
  cases a with
  |own l off len=>
   simp only [cp] at h
   split at h
   ·rename_i hl
    obtain ⟨h1,h2⟩:=Wl vs r h.2
    refine ⟨?_,h2⟩
    simp only [cn,hl]
    exact ⟨h.1,h1⟩
   ·rename_i hl
    obtain ⟨h1,h2⟩:=Wl vs r h.2
    refine ⟨?_,h2⟩
    simp only [cn,hl]
    exact ⟨h.1,h1⟩
   ·exact h.elim
  |_=>exact ⟨by simp [cn],by simpa [cp] using h⟩
theorem an {st:St} : ∀(cs:List CK) (as:List AC) (K:CKs.den cs->List Nat->Prop),jq st cs as K-> ∃x ls,Od st cs as=some (x,ls)/\K x ls
 | [],[],K,h=>⟨(),[],rfl,h⟩
 | [],_::_,_,h=>h.elim
 |c::r,[],K,h=>by cases c<;>exact h.elim
 |c::r,a::as,K,h=>by
  have og:Dy (dT st c a) (λp=>jq st r as λy t=>K (p.1,y) (p.2++t))-> ∃x ls,Od st (c::r) (a::as)=some (x,ls)/\K x ls:= λh=>by
   obtain ⟨p,h1,h2⟩:=As.1 h
   obtain ⟨y,t,h3,h4⟩:=an r as _ h2
   exact ⟨_,_,by simp only [Od,h1,h3],h4⟩
  cases c with
  |Al e te kp=>
   cases a with
   |own l off len=>
    simp only [jq] at h
    split at h
    ·rename_i hl
     split at h
     ·rename_i hc
      obtain ⟨⟨h1,h2⟩,h⟩:=h
      obtain ⟨y,t,h3,h4⟩:=an r as _ h
      exact ⟨_,_,by simp only [Od,dT,hl];rw [dif_pos ⟨hc.1,hc.2,h1,h2⟩];simp only [h3];rfl,h4⟩
     ·exact h.elim
    ·exact h.elim
   |_=>exact og h
  |_=>exact og h
theorem gW {st:St} {n:Nat} {as:List AC} {K:Prop} : ∀(ks:List (Nat×Nat)),rY st n as ks K->q9 st n as ks/\K
 | [],h=>⟨trivial,h⟩
 |(k,j)::r,h=>by
  simp only [rY] at h
  split at h
  ·rename_i l off len ha
   split at h
   ·rename_i p hl
    split at h
    ·rename_i hc
     simp only [Bool.and_eq_true] at hc
     obtain ⟨h1,h2⟩:=gW r h.2
     refine ⟨?_,h2⟩
     simp only [q9,ha,hl]
     exact ⟨⟨Nat.eq_of_beq_eq_true hc.1,h.1,hc.2⟩,h1⟩
    ·exact h.elim
   ·exact h.elim
  ·exact h.elim
theorem cN {s:MSpec} {fn:Func} {x:Ins.den s.ins} {st:St} {cs:List AC} {P:CKs.den s.outs×IOs.den s.ins->Prop} (h:nv T s fn x st cs P):dG T s fn x st cs P:=by
 obtain ⟨l,h1,h⟩:=As.1 h
 obtain ⟨⟨as,ml⟩,h2,h⟩:=As.1 h
 obtain ⟨r,ls,h3,h⟩:=an _ _ _ h
 obtain ⟨o,h4,h⟩:=As.1 h
 split at h
 ·rename_i hc
  obtain ⟨h5,h6⟩:=gW _ h
  unfold dG
  simp only [h1,h2,h3,h4]
  exact ⟨hc,h5,h6⟩
 ·exact h.elim
theorem kH {s:MSpec} {fn:Func} {x:Ins.den s.ins} {st:St} {P:CKs.den s.outs×IOs.den s.ins->Prop} (h:AR T s fn x st P):FW T s fn x st P:=by
 unfold AR at h
 unfold FW
 cases hp:s.ptr with
 |none=>rw [hp] at h;exact cN h
 |some p=>
  rw [hp] at h
  simp only at h⊢
  split at h
  ·rename_i tid vs hl
   split at h
   ·rename_i hc
    simp only [Bool.and_eq_true] at hc
    obtain ⟨h1,h2⟩:=hc
    have h1:tid=p.1:=Nat.eq_of_beq_eq_true h1
    have h2:=Nat.eq_of_beq_eq_true h2
    subst h1
    obtain ⟨cs,h3,h4⟩:=As.1 h
    obtain ⟨h5,h6⟩:=Wl vs s.ins h4
    exact ⟨vs,cs,hl,h2,h3,h5,cN h6⟩
   ·exact h.elim
  ·exact h.elim
theorem xN {s:MSpec} {fn:Func} {x:Ins.den s.ins} {P:CKs.den s.outs×IOs.den s.ins->Prop} (h:fnMW T Γ s fn x P):OV T Γ s fn x P:=by
 unfold fnMW at h
 split at h
 ·cases h
 rename_i hlen
 obtain ⟨c,h1,h2⟩:=As.1 h
 refine ⟨hlen,c,h1,(kb c _ _ (λt b h=>by cases h) h2).mono λe st ⟨w,h4,h5,h6⟩=>?_⟩
 subst h4
 cases e with
 |normal=>exact ⟨λid hh=>(by cases hh),kH h6⟩
 |ret=>exact ⟨λid hh=>(by cases hh),kH h6⟩
 |exit id=>cases h6
theorem Bo.ofW {P:Program} (hT:Cd P T) (Mf:Hc P Γ) (hm:P.follows .mixedOrders=true) {f:FuncId} {fn:Func} (hf:P.funcs[f]?=some fn) (hn:(fn.name== "runtime.NumGoroutine")=false)
  (hb:fn.body.isNone=false) (s:MSpec) (h: ∀x y,s.fn x=some y->fnMW T Γ s fn x (λz=>z=y)):Bo P f s:=
 ⟨bK hf hn hb,λw S π us x r o g vs h1 hg h2 h3 hS h4 h5=>ou hT Mf hm hf s w S π us x r o g vs h1 hg h2 h3 hS h4 (xN (h x (r,o) h5))⟩
theorem Sound.ofW {P:Program} (hT:Cd P T) (Mf:Hc P Γ) (hm:P.follows .mixedOrders=true) {f:FuncId} {fn:Func} (hf:P.funcs[f]?=some fn) (hn:(fn.name== "runtime.NumGoroutine")=false)
  (hb:fn.body.isNone=false) (s:Spec) (h: ∀x y,s.fn x=some y->fnW T Γ s fn x (λz=>z=y)):Sound P f s:=
 JQ hT Mf hm hf hn hb s λx y hx=>BU (h x y hx)
end
end Go.Proofs.Ytjbdmibbbpdnnaa
