/-
  Part 34 of the proof that the statement FnExactExactStateCount holds.
-/
import Derived.Test.YtjbdmibbbpdnnaaCExactStateCount32
namespace Go.Proofs.Ytjbdmibbbpdnnaa
open Go.RowKit
theorem Nb {B:List (Nat×Nat×Nat)} {H:List (Nat×OB)} : ∀ {l:List AV} {K:Prop},Ue B H l K-> ∀c∈l,c.dY=true
 | [],_,_,c,hc=>by cases hc
 |d::l,K,h,c,hc=>by
  simp only [Ue] at h
  cases d with
  |Ir l'=>exact h.elim
  | «at»a=>
   rcases List.mem_cons.1 hc with rfl|hc
   ·rfl
   ·have h':Ue B H l K:=by
     cases a with
     |own k o n=>exact h.2.2
     |_=>exact h
    exact Nb h' c hc
  |Uf _ _ _=>
   rcases List.mem_cons.1 hc with rfl|hc
   ·rfl
   ·exact Nb h c hc
  |agg cs=>
   rcases List.mem_cons.1 hc with rfl|hc
   ·rfl
   ·have: ∀(cs:List AC) (Q:Prop),Xd B H cs Q->Q:=by
     intro cs
     induction cs with
     |nil=>exact λQ h=>h
     |cons a cs ih=>
      intro Q h
      have h2:Xd B H cs Q:=by
       cases a with
       |own k o n=>exact h.2.2
       |_=>exact h
      exact ih Q h2
    exact Nb (this cs _ h) c hc
theorem ff: ∀(f:List Bool) (l:List AV),(∀c∈l,c.dY=true)-> ∀c∈Nu f l,c.dY=true
 | [],l,h=>by simpa [Nu] using h
 |true::f,[],h=>by simp [Nu] at h⊢
 |false::f,[],h=>by simp [Nu] at h⊢
 |true::f,a::l,h=>by
  intro c hc
  simp only [Nu,List.mem_cons] at hc
  rcases hc with rfl|hc
  ·rfl
  ·exact ff f l (λc hc=>h c (List.mem_cons_of_mem _ hc)) c hc
 |false::f,a::l,h=>by
  intro c hc
  simp only [Nu,List.mem_cons] at hc
  rcases hc with rfl|hc
  ·exact h c (by simp)
  ·exact ff f l (λc hc=>h c (List.mem_cons_of_mem _ hc)) c hc
theorem CM (f:AC->AC) (H:List (Nat×OB)) (l:Nat):lenOf (H.map λp=>(p.1,p.2.map f)) l=lenOf H l:=by
 unfold lenOf
 rw [Je]
 cases Ad H l with
 |none=>rfl
 |some b=>cases b<;>rfl
theorem xm (f g:AC->AC) (c:AV):(c.map f).map g=c.map λa=>g (f a):=by
 cases c<;>simp [AV.map]
theorem yu (f g:AC->AC) (c:OB):(c.map f).map g=c.map λa=>g (f a):=by
 cases c<;>simp [OB.map]
theorem vH (s:St) (f g:AC->AC):(s.Ge f).Ge g=s.Ge λa=>g (f a):=by
 simp [St.Ge,List.map_map,Function.comp_def,xm,yu]
theorem vr (f:AC->AC) (H:List (Nat×OB)) (l:Nat): ∀(B:List (Nat×Nat×Nat)),CJ B (H.map λp=>(p.1,p.2.map f)) l=CJ B H l
 | []=>CM f H l
 |(k,o,n)::r=>by simp only [CJ];rw [vr f H l r]
theorem xb (B:List (Nat×Nat×Nat)) (s:St):(s.Ge Me).whole B=s.whole B:=by
 unfold St.whole
 rw [vH]
 congr 1
 funext a
 cases a with
 |own l off len=>simp only [Me,ao,St.Ge,vr]
 |_=>rfl
theorem x9 {B:List (Nat×Nat×Nat)} {s t:St} (h:s.Ge Me=t.Ge Me):s.whole B=t.whole B:=by rw [<-xb B s,h,xb]
theorem iY (f:AC->AC): ∀(fx:List Bool) (a b:List AV),(Pc fx a b).map (·.map f)=Pc fx (a.map (·.map f)) (b.map (·.map f))
 | [],_,_=>by simp [Pc]
 |_::_,[],_=>by simp [Pc]
 |true::_,_::_,[]=>by simp [Pc]
 |false::_,_::_,[]=>by simp [Pc]
 |true::fx,x::a,y::b=>by simp only [Pc,List.map_cons,iY f fx a b]
 |false::fx,x::a,y::b=>by simp only [Pc,List.map_cons,iY f fx a b]
theorem mV (f:AC->AC) (fx:List Bool) (a b:St):(St.oT fx a b).Ge f=St.oT fx (a.Ge f) (b.Ge f):=by
 simp only [St.oT,St.Ge,iY]
theorem mU (p:Nat->Bool): ∀(i:Nat) (l0 l1:List AV),(∀t,(l0.getD t .undef).Qk=true->p (i+t)=true->l1.getD t .undef=l0.getD t .undef)->
  Pc (Hf p i l0) l0 (Nu (Hf p i l0) l1)=l1
 |_,[],l1,_=>by simp [Hf,Nu,Pc]
 |i,a::r,[],_=>by
  simp only [Hf]
  cases (a.Qk&&p i)<;>simp [Nu,Pc]
 |i,a::r,b::s,h=>by
  have hr:=mU p (i+1) r s λt h1 h2=>by
   have:=h (t+1) (by simpa using h1) (by rw [show i+(t+1)=i+1+t by omega];exact h2)
   simpa using this
  simp only [Hf]
  cases hc:(a.Qk&&p i) with
  |false=>simp only [Nu,Pc];rw [hr]
  |true=>
   simp only [Nu,Pc]
   rw [hr]
   simp only [Bool.and_eq_true] at hc
   have:=h 0 (by simpa using hc.1) hc.2
   simp only [List.getD_cons_zero] at this
   rw [this]
theorem Zp: ∀(f:List Bool) (l:List AV),(Nu f l).length=l.length
 | [],l=>by simp [Nu]
 |true::f,[]=>by simp [Nu]
 |false::f,[]=>by simp [Nu]
 |true::f,a::l=>by simp [Nu,Zp f l]
 |false::f,a::l=>by simp [Nu,Zp f l]
theorem aQ: ∀(l:List AV) {R:Type} (v:km l R),(Pn l v).1.length=l.length
 | [],_,_=>rfl
 |c::l,_,v=>by simp [Pn,aQ l]
theorem qx (p:Nat->Bool): ∀(i:Nat) (l0 l:List AV) (t:Nat),l.length=l0.length->(l0.getD t .undef).Qk=true->p (i+t)=true->(Pc (Hf p i l0) l0 l).getD t .undef=l0.getD t .undef
 |_,[],_,t,_,h,_=>by simp [AV.Qk] at h
 |i,a::r,[],_,h,_,_=>by simp at h
 |i,a::r,b::s,0,_,h1,h2=>by
  have:(a.Qk&&p i)=true:=by
   simp only [Bool.and_eq_true]
   exact ⟨by simpa using h1,h2⟩
  simp only [Hf,this,Pc,List.getD_cons_zero]
 |i,a::r,b::s,t+1,hl,h1,h2=>by
  have hr:=qx p (i+1) r s t (by simpa using hl) (by simpa using h1) (by rw [show i+1+t=i+(t+1) by omega];exact h2)
  simp only [Hf]
  cases (a.Qk&&p i)<;>simpa only [Pc,List.getD_cons_succ] using hr
theorem dD {B:List (Nat×Nat×Nat)} {H:List (Nat×OB)} {c:AC} {K:Prop} (h:rf B H c K):ao B H c=c/\K:=by
 cases c with
 |own l off len=>obtain ⟨h1,h2,h3⟩:=h;exact ⟨by rw [h1,h2];rfl,h3⟩
 |_=>exact ⟨rfl,h⟩
theorem Ui {B:List (Nat×Nat×Nat)} {H:List (Nat×OB)} : ∀ {l:List AC} {K:Prop},Xd B H l K->l.map (ao B H)=l/\K
 | [],_,h=>⟨rfl,h⟩
 |c::l,_,h=>by
  obtain ⟨h1,h2⟩:=dD h
  obtain ⟨h3,h4⟩:=Ui h2
  exact ⟨by rw [List.map_cons,h1,h3],h4⟩
theorem ov {B:List (Nat×Nat×Nat)} {H:List (Nat×OB)} {c:AV} {K:Prop} (h:zK B H c K):c.map (ao B H)=c/\K:=by
 cases c with
 | «at»a=>obtain ⟨h1,h2⟩:=dD h;exact ⟨by rw [AV.map,h1],h2⟩
 |agg cs=>obtain ⟨h1,h2⟩:=Ui h;exact ⟨by rw [AV.map,h1],h2⟩
 |Uf _ _ _=>exact ⟨rfl,h⟩
 |Ir l=>exact h.elim
theorem aR {B:List (Nat×Nat×Nat)} {H:List (Nat×OB)} : ∀ {l:List AV} {K:Prop},Ue B H l K->l.map (·.map (ao B H))=l/\K
 | [],_,h=>⟨rfl,h⟩
 |c::l,_,h=>by
  obtain ⟨h1,h2⟩:=ov h
  obtain ⟨h3,h4⟩:=aR h2
  exact ⟨by rw [List.map_cons,h1,h3],h4⟩
theorem Hw {B:List (Nat×Nat×Nat)} {H:List (Nat×OB)} : ∀ {l:List (Nat×OB)} {K:Prop},cX B H l K->l.map (λp=>(p.1,p.2.map (ao B H)))=l/\K
 | [],_,h=>⟨rfl,h⟩
 |(k, .var t vs)::l,_,h=>by
  obtain ⟨h1,h2⟩:=Ui h
  obtain ⟨h3,h4⟩:=Hw h2
  exact ⟨by rw [List.map_cons,h3];simp only [OB.map,h1],h4⟩
 |(k, .arr a b c d e)::l,_,h=>by
  obtain ⟨h3,h4⟩:=Hw (l:=l) h
  exact ⟨by rw [List.map_cons,h3];rfl,h4⟩
 |(k, .Dc a b c)::l,_,h=>by
  obtain ⟨h3,h4⟩:=Hw (l:=l) h
  exact ⟨by rw [List.map_cons,h3];rfl,h4⟩
 |(k, .Ak a b c d e)::l,_,h=>by
  obtain ⟨h3,h4⟩:=Hw (l:=l) h
  exact ⟨by rw [List.map_cons,h3];rfl,h4⟩
 |(k, .Oh a b)::l,_,h=>by
  obtain ⟨h3,h4⟩:=Hw (l:=l) h
  exact ⟨by rw [List.map_cons,h3];rfl,h4⟩
theorem ef {B:List (Nat×Nat×Nat)} {s:St} {K:Prop} (h:tb B s K):s.whole B=s/\K:=by
 obtain ⟨h1,h2⟩:=aR h
 obtain ⟨h3,h4⟩:=Hw h2
 exact ⟨by unfold St.whole St.Ge;rw [h1,h3],h4⟩
theorem bq (live:List Nat): ∀(i:Nat) (l:List AV) (t:Nat),i+t∉live->(Fw live i l).getD t .undef= .undef
 |_,[],_,_=>rfl
 |i,v::r,0,h=>by simp [Fw];intro hn;exact absurd hn h
 |i,v::r,t+1,h=>by
  simp only [Fw,List.getD_cons_succ]
  exact bq live (i+1) r t (by rw [show i+1+t=i+(t+1) by omega];exact h)
theorem aA: ∀(l:List Nat) (st:St) (t:Nat),st.get t= .undef->(Xq l st).get t= .undef
 | [],_,_,h=>h
 |a::r,st,t,h=>aA r _ t (by
  show (st.tmps.map (·.map (Az a))).getD t .undef= .undef
  rw [Rn (Az a) rfl,show st.tmps.getD t .undef= .undef from h]
  rfl)
theorem sL (l k:Nat) (st:St) (t:Nat) (h:st.get t= .undef):(st.rename l k).get t= .undef:=by
 unfold St.rename
 split
 ·split
  ·show (st.tmps.map (·.map (Nw l k))).getD t .undef= .undef
   rw [Rn (Nw l k) rfl,show st.tmps.getD t .undef= .undef from h]
   rfl
  ·exact h
 ·exact h
theorem Yf: ∀(n i:Nat) (st:St) (t:Nat),st.get t= .undef->(Hk n i st).get t= .undef
 |0,_,_,_,h=>h
 |n+1,i,st,t,h=>by
  simp only [Hk]
  refine Yf n (i+1) _ t ?_
  split
  ·split
   ·split
    ·exact h
    ·exact sL _ _ _ t h
   ·exact h
  ·exact h
theorem sH (st:St) (d:Nat) (v:AV) (t:Nat) (Fe:t≠d) (h:st.get t= .undef):(st.put (some d) v).get t= .undef:=by rw [Uq _ _ Fe];exact h
theorem ni (k:Nat) (st:St) (t:Nat) (h:st.get t= .undef):(Vb k st).get t= .undef:=by
 unfold Vb
 split
 ·rename_i l off len hg
  split
  ·split
   ·refine sH _ _ _ _ (λe=>by subst e;rw [hg] at h;cases h) ?_
    show (st.tmps.map (·.map (Az l))).getD t .undef= .undef
    rw [Rn (Az l) rfl,show st.tmps.getD t .undef= .undef from h]
    rfl
   ·exact h
  ·exact h
 ·exact h
theorem aI (live:List Nat): ∀(n i:Nat) (st:St) (t:Nat),st.get t= .undef->(Jg live n i st).get t= .undef
 |0,_,_,_,h=>h
 |n+1,i,st,t,h=>by
  simp only [Jg]
  refine aI live n (i+1) _ t ?_
  split
  ·exact ni _ _ _ h
  ·exact h
theorem xA {live:List Nat} {st:St} {t:Nat} (h:((st.clean live).get t).Qk=true):t∈live:=by
 refine Classical.byContradiction λhn=>?_
 have:(st.clean live).get t= .undef:=by
  have key: ∀s:St,s.get t= .undef->(if live.contains Wa then Hk s.tmps.length 0 s else s).get t= .undef:=by
   intro s hs
   split
   ·exact Yf _ _ s t hs
   ·exact hs
  unfold St.clean
  have ID: ∀s:St,s.get t= .undef->(if live.any (λt=>Nat.ble Se t) then s.Eu live else s).get t= .undef:=by
   intro s hs
   split<;>exact hs
  have IE: ∀s:St,s.get t= .undef->(if live.any (λt=>Nat.ble Lk t&&Nat.blt t Wa) then Jg live s.tmps.length 0 s else s).get t= .undef:=by
   intro s hs
   split
   ·exact aI _ _ _ s t hs
   ·exact hs
  refine ID _ (key _ (IE _ (aA _ _ t ?_)))
  exact bq live 0 st.tmps t (by simpa using hn)
 rw [this] at h
 cases h
theorem mB {c:AV} (h:c.Qk=true): ∃fr τ,∃x:τ.den,c= .at (.data fr τ x):=by
 unfold AV.Qk at h
 split at h
 ·exact ⟨_,_,_,rfl⟩
 ·cases h
theorem EK {live:Nat->List Nat} {c:Code} {t:Nat} (h:stays live c t=true):t∉writes c/\Uu live c t=true:=by
 unfold stays at h
 simpa using h
section
variable {T:Tab} {Γ:Env} {live:Nat->List Nat}
theorem Iw.keeps {c:Code} {st:St} {Q:Gp->St->Prop} (h:Iw T Γ live c st Q):Iw T Γ live c st (λe s=>Q e s/\Fa (λt=>t∉writes c/\Uu live c t=true) st s):=by
 exact yY h st _ Bc.rfl'.on λt ht=>ht
def wsQ (Q:Gp->WS->Prop) (e:Gp) (s:St):Prop:= ∃w':WS,w'.st=s/\w'.OK/\Q e w'
theorem vF {c:Code} (ih: ∀(w:WS) (Q:Gp->WS->Prop),w.OK->Xi T Γ live c w Q->Iw T Γ live c w.st (wsQ Q)) {w:WS} {Q:Gp->WS->Prop} (h:Xi T Γ live (.loop c) w Q):
  Iw T Γ live (.loop c) w.st (wsQ Q):=by
 simp only [Xi,BS,eQ] at h
 obtain ⟨SG,I,μ,h0,hs⟩:=ef h
 have Ad: ∀(t:Nat),((w.st.clean (live (Cc c))).get t).Qk=true->stays live c t=true-> ∀v,((St.oT (Hf (stays live c) 0 (w.st.clean (live (Cc c))).tmps) (w.st.clean (live (Cc c))) (cB ((w.st.clean (live (Cc c))).mask (Hf (stays live c) 0 (w.st.clean (live (Cc c))).tmps)) v)).whole (Si T.parts (w.st.clean (live (Cc c))).tmps)).get t=(w.st.clean (live (Cc c))).get t:=by
  intro t h1 h2 v
  have h3:=qx (stays live c) 0 (w.st.clean (live (Cc c))).tmps (cB ((w.st.clean (live (Cc c))).mask (Hf (stays live c) 0 (w.st.clean (live (Cc c))).tmps)) v).tmps t
   ((aQ _ _).trans (Zp _ _)) h1 (by simpa using h2)
  obtain ⟨fr,τ,x,hx⟩:=mB h1
  refine (Jm _ _ rfl λ_ _ _=>rfl) t fr τ x ?_|>.trans hx.symm
  exact h3.trans hx
 have PI: ∀(s1:St),(∀t,((w.st.clean (live (Cc c))).get t).Qk=true->stays live c t=true->s1.get t=(w.st.clean (live (Cc c))).get t)->s1.whole (Si T.parts (w.st.clean (live (Cc c))).tmps)=s1-> ∀v,cC ((w.st.clean (live (Cc c))).mask (Hf (stays live c) 0 (w.st.clean (live (Cc c))).tmps)) (s1.mask (Hf (stays live c) 0 (w.st.clean (live (Cc c))).tmps))=some v->
   s1=(St.oT (Hf (stays live c) 0 (w.st.clean (live (Cc c))).tmps) (w.st.clean (live (Cc c))) (cB ((w.st.clean (live (Cc c))).mask (Hf (stays live c) 0 (w.st.clean (live (Cc c))).tmps)) v)).whole (Si T.parts (w.st.clean (live (Cc c))).tmps):=by
  intro s1 hf hwh v hv
  have h1:=cD hv
  have h2:St.oT (Hf (stays live c) 0 (w.st.clean (live (Cc c))).tmps) (w.st.clean (live (Cc c))) (s1.mask (Hf (stays live c) 0 (w.st.clean (live (Cc c))).tmps))=s1:=by
   simp only [St.oT,St.mask]
   rw [mU (stays live c) 0 (w.st.clean (live (Cc c))).tmps s1.tmps λt h3 h4=>hf t h3 (by simpa using h4)]
  have h3:(St.oT (Hf (stays live c) 0 (w.st.clean (live (Cc c))).tmps) (w.st.clean (live (Cc c))) (cB ((w.st.clean (live (Cc c))).mask (Hf (stays live c) 0 (w.st.clean (live (Cc c))).tmps)) v)).whole (Si T.parts (w.st.clean (live (Cc c))).tmps)=s1.whole (Si T.parts (w.st.clean (live (Cc c))).tmps):=by
   refine x9 ?_
   rw [mV,h1,<-mV,h2]
  rw [h3,hwh]
 refine DT (λv=>(St.oT (Hf (stays live c) 0 (w.st.clean (live (Cc c))).tmps) (w.st.clean (live (Cc c))) (cB ((w.st.clean (live (Cc c))).mask (Hf (stays live c) 0 (w.st.clean (live (Cc c))).tmps)) v)).whole (Si T.parts (w.st.clean (live (Cc c))).tmps)) I μ _ h0 (PI _ (λ_ _ _=>rfl) SG _ (kd _ (ff _ _ (Nb h)))) ?_
 intro a ha
 refine (Iw.keeps (ih ⟨[],_⟩ _ (λt b h=>by cases h) (hs a ha))).mono ?_
 intro e s hQ
 obtain ⟨⟨w',h1,h2,h3⟩,hk⟩:=hQ
 subst h1
 cases e with
 |normal=>
  obtain ⟨h4,h5⟩:=ef h3
  obtain ⟨v',h6,h7,h8⟩:=As.1 h5
  refine ⟨v',PI _ (λt hd ht=>?_) h4 _ h6,h7,h8⟩
  obtain ⟨fr,τ,x,hx⟩:=mB hd
  rw [hx]
  exact dT (live (Cc c)) w'.st t fr τ x (xA hd) (hk t fr τ x (EK ht) (by rw [Ad t hd ht a];exact hx))
 |exit id=>exact ⟨w',rfl,h2,h3⟩
 |ret=>exact ⟨w',rfl,h2,h3⟩
theorem jz: ∀(c:Code) (w:WS) (Q:Gp->WS->Prop),w.OK->Xi T Γ live c w Q->Iw T Γ live c w.st (wsQ Q):=by
 intro c
 induction c with
 |skip=>intro w Q hw h;exact .skip ⟨w,rfl,hw,h⟩
 |label _=>intro w Q hw h;exact .label ⟨w,rfl,hw,h⟩
 |exit _=>intro w Q hw h;exact .exit ⟨w,rfl,hw,h⟩
 |ret=>intro w Q hw h;exact .ret ⟨w,rfl,hw,h⟩
 |region id ops draw=>
  intro w Q hw h
  exact .region ((p9 hw h).mono λs ⟨w',h1,h2,h3⟩=>⟨w',h1,h2,Zi.1 h3⟩)
 |seq x y ihx ihy=>
  intro w Q hw h
  refine JL ((ihx w _ hw h).mono λe s hQ=>?_)
  obtain ⟨w',h1,h2,h3⟩:=hQ
  subst h1
  cases e with
  |normal=>exact ihy w' Q h2 h3
  |exit id=>exact ⟨w',rfl,h2,h3⟩
  |ret=>exact ⟨w',rfl,h2,h3⟩
 |cond c x y ihx ihy=>
  intro w Q hw h
  obtain ⟨fr,b,w',h1,h2,h3,h4⟩:=pQ hw h
  refine DS h1 (λhb=>?_) (λhb=>?_)
  ·subst hb;rw [<-h2];exact ihx w' Q h3 h4
  ·subst hb;rw [<-h2];exact ihy w' Q h3 h4
 |block id c ih=>
  intro w Q hw h
  refine yX ((ih w _ hw h).mono λe s hQ=>?_)
  obtain ⟨w',h1,h2,h3⟩:=hQ
  subst h1
  cases e with
  |normal=>exact ⟨w',rfl,h2,h3⟩
  |ret=>exact ⟨w',rfl,h2,h3⟩
  |exit CF=>
   simp only at h3
   simp only [qb]
   split at h3
   ·rename_i hi;rw [if_pos hi];exact ⟨w',rfl,h2,h3⟩
   ·rename_i hi;rw [if_neg hi];exact ⟨w',rfl,h2,h3⟩
 |loop c ih=>intro w Q hw h;exact vF ih h
 |_=>intro w Q hw h;exact absurd h (by simp [Xi])
theorem lV {s:Spec} {fn:Func} {P:s.res.den->Prop} {st:St} (h:QO T s fn P st): ∃fr y,fZ T s fn st=some (fr,y)/\(fr||!s.fresh)=true/\P y:=by
 obtain ⟨p,h1,h2⟩:=As.1 h
 split at h2
 ·rename_i hf;exact ⟨p.1,p.2,h1,hf,h2⟩
 ·cases h2
theorem BR {s:Spec} {fn:Func} {x:s.arg.den} {P:s.res.den->Prop} (h:fnW T Γ s fn x P):FY T Γ s fn x P:=by
 unfold fnW at h
 obtain ⟨c,h1,h2⟩:=As.1 h
 refine ⟨c,h1,(jz c _ _ (λt b h=>by cases h) h2).mono λe st ⟨w,h4,h5,h6⟩=>?_⟩
 subst h4
 cases e with
 |normal=>exact ⟨λid hh=>(by cases hh),lV h6⟩
 |ret=>exact ⟨λid hh=>(by cases hh),lV h6⟩
 |exit id=>cases h6
theorem Vw {st:St} {K:Prop} : ∀(vs:List AC) (cs:List (Bool×CK)),bU st K vs cs->bT st vs cs/\K
 | [],cs,h=>⟨by simp [bT],by simpa [bU] using h⟩
 |a::vs,[],h=>⟨by cases a<;>simp [bT],by cases a<;>simpa [bU] using h⟩
 |a::vs,(false,c)::r,h=>by
  have h:bU st K vs r:=by cases a<;>simpa only [bU] using h
  obtain ⟨h1,h2⟩:=Vw vs r h
  exact ⟨by cases a<;>simpa only [bT] using h1,h2⟩
 |a::vs,(true,c)::r,h=>by
  cases a with
  |own l off len=>
   simp only [bU] at h
   split at h
   ·rename_i hl
    obtain ⟨h1,h2⟩:=Vw vs r h.2
    refine ⟨?_,h2⟩
    simp only [bT,hl]
    exact ⟨h.1,h1⟩
   ·rename_i hl
    obtain ⟨h1,h2⟩:=Vw vs r h.2
    refine ⟨?_,h2⟩
    simp only [bT,hl]
    exact ⟨h.1,h1⟩
   ·exact h.elim
  |_=>exact ⟨by simp [bT],by simpa [bU] using h⟩
theorem Zt {st:St} : ∀(cs:List CK) (as:List AC) (K:CKs.den cs->List Nat->Prop),iX st cs as K-> ∃x ls,Nv st cs as=some (x,ls)/\K x ls
 | [],[],K,h=>⟨(),[],rfl,h⟩
 | [],_::_,_,h=>h.elim
 |c::r,[],K,h=>by cases c<;>exact h.elim
 |c::r,a::as,K,h=>by
  have ou:Dz (dz st c a) (λp=>iX st r as λy t=>K (p.1,y) (p.2++t))-> ∃x ls,Nv st (c::r) (a::as)=some (x,ls)/\K x ls:= λh=>by
   obtain ⟨p,h1,h2⟩:=As.1 h
   obtain ⟨y,t,h3,h4⟩:=Zt r as _ h2
   exact ⟨_,_,by simp only [Nv,h1,h3],h4⟩
  cases c with
  |Ak e te kp=>
   cases a with
   |own l off len=>
    simp only [iX] at h
    split at h
    ·rename_i hl
     split at h
     ·rename_i hc
      obtain ⟨⟨h1,h2⟩,h⟩:=h
      obtain ⟨y,t,h3,h4⟩:=Zt r as _ h
      exact ⟨_,_,by simp only [Nv,dz,hl];rw [dif_pos ⟨hc.1,hc.2,h1,h2⟩];simp only [h3];rfl,h4⟩
     ·exact h.elim
    ·exact h.elim
   |_=>exact ou h
  |_=>exact ou h
theorem gA {st:St} {n:Nat} {as:List AC} {K:Prop} : ∀(ks:List (Nat×Nat)),sd st n as ks K->qg st n as ks/\K
 | [],h=>⟨trivial,h⟩
 |(k,j)::r,h=>by
  simp only [sd] at h
  split at h
  ·rename_i l off len ha
   split at h
   ·rename_i p hl
    split at h
    ·rename_i hc
     simp only [Bool.and_eq_true] at hc
     obtain ⟨h1,h2⟩:=gA r h.2
     refine ⟨?_,h2⟩
     simp only [qg,ha,hl]
     exact ⟨⟨Nat.eq_of_beq_eq_true hc.1,h.1,hc.2⟩,h1⟩
    ·exact h.elim
   ·exact h.elim
  ·exact h.elim
theorem cq {s:MSpec} {fn:Func} {x:Ins.den s.ins} {st:St} {cs:List AC} {P:CKs.den s.outs×IOs.den s.ins->Prop} (h:nm T s fn x st cs P):di T s fn x st cs P:=by
 obtain ⟨l,h1,h⟩:=As.1 h
 obtain ⟨⟨as,ml⟩,h2,h⟩:=As.1 h
 obtain ⟨r,ls,h3,h⟩:=Zt _ _ _ h
 obtain ⟨o,h4,h⟩:=As.1 h
 split at h
 ·rename_i hc
  obtain ⟨h5,h6⟩:=gA _ h
  unfold di
  simp only [h1,h2,h3,h4]
  exact ⟨hc,h5,h6⟩
 ·exact h.elim
theorem jY {s:MSpec} {fn:Func} {x:Ins.den s.ins} {st:St} {P:CKs.den s.outs×IOs.den s.ins->Prop} (h:AT T s fn x st P):FX T s fn x st P:=by
 unfold AT at h
 unfold FX
 cases hp:s.ptr with
 |none=>rw [hp] at h;exact cq h
 |some p=>
  rw [hp] at h
  simp only at h⊢
  split at h
  ·rename_i tid vs hl
   split at h
   ·rename_i hc
    simp only [Bool.and_eq_true] at hc
    obtain ⟨h1,h2⟩:=hc
    have h1:tid=p.1:=Nat.eq_of_beq_eq_true h1
    have h2:=Nat.eq_of_beq_eq_true h2
    subst h1
    obtain ⟨cs,h3,h4⟩:=As.1 h
    obtain ⟨h5,h6⟩:=Vw vs s.ins h4
    exact ⟨vs,cs,hl,h2,h3,h5,cq h6⟩
   ·exact h.elim
  ·exact h.elim
theorem xJ {s:MSpec} {fn:Func} {x:Ins.den s.ins} {P:CKs.den s.outs×IOs.den s.ins->Prop} (h:fnMW T Γ s fn x P):OC T Γ s fn x P:=by
 unfold fnMW at h
 split at h
 ·cases h
 rename_i hlen
 obtain ⟨c,h1,h2⟩:=As.1 h
 refine ⟨hlen,c,h1,(jz c _ _ (λt b h=>by cases h) h2).mono λe st ⟨w,h4,h5,h6⟩=>?_⟩
 subst h4
 cases e with
 |normal=>exact ⟨λid hh=>(by cases hh),jY h6⟩
 |ret=>exact ⟨λid hh=>(by cases hh),jY h6⟩
 |exit id=>cases h6
theorem Co.ofW {P:Program} (hT:Bz P T) (Mb:Hs P Γ) (hm:P.follows .mixedOrders=true) {f:FuncId} {fn:Func} (hf:P.funcs[f]?=some fn) (hn:(fn.name== "runtime.NumGoroutine")=false)
  (hb:fn.body.isNone=false) (s:MSpec) (h: ∀x y,s.fn x=some y->fnMW T Γ s fn x (λz=>z=y)):Co P f s:=
 ⟨bo hf hn hb,λw S π us x r o g vs h1 hg h2 h3 hS h4 h5=>oB hT Mb hm hf s w S π us x r o g vs h1 hg h2 h3 hS h4 (xJ (h x (r,o) h5))⟩
theorem Sound.ofW {P:Program} (hT:Bz P T) (Mb:Hs P Γ) (hm:P.follows .mixedOrders=true) {f:FuncId} {fn:Func} (hf:P.funcs[f]?=some fn) (hn:(fn.name== "runtime.NumGoroutine")=false)
  (hb:fn.body.isNone=false) (s:Spec) (h: ∀x y,s.fn x=some y->fnW T Γ s fn x (λz=>z=y)):Sound P f s:=
 JN hT Mb hm hf hn hb s λx y hx=>BR (h x y hx)
end
end Go.Proofs.Ytjbdmibbbpdnnaa
