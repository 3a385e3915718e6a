/-
  Part 34 of the proof that the statement FnExactMethodLength holds.
-/
import Derived.Test.YtjbdmibbbpdnnaaCMethodLength32
namespace Go.Proofs.Ytjbdmibbbpdnnaa
open Go.RowKit
theorem Nl {B:List (Nat×Nat×Nat)} {H:List (Nat×OB)} : ∀ {l:List AV} {K:Prop},Uj B H l K-> ∀c∈l,c.eO=true
 | [],_,_,c,hc=>by cases hc
 |d::l,K,h,c,hc=>by
  simp only [Uj] at h
  cases d with
  |Jg l'=>exact h.elim
  | «at»a=>
   rcases List.mem_cons.1 hc with rfl|hc
   ·rfl
   ·have h':Uj B H l K:=by
     cases a with
     |own k o n=>exact h.2.2
     |_=>exact h
    exact Nl h' c hc
  |Uk _ _ _=>
   rcases List.mem_cons.1 hc with rfl|hc
   ·rfl
   ·exact Nl h c hc
  |agg cs=>
   rcases List.mem_cons.1 hc with rfl|hc
   ·rfl
   ·have: ∀(cs:List AC) (Q:Prop),Xw B H cs Q->Q:=by
     intro cs
     induction cs with
     |nil=>exact λQ h=>h
     |cons a cs ih=>
      intro Q h
      have h2:Xw B H cs Q:=by
       cases a with
       |own k o n=>exact h.2.2
       |_=>exact h
      exact ih Q h2
    exact Nl (this cs _ h) c hc
theorem fV: ∀(f:List Bool) (l:List AV),(∀c∈l,c.eO=true)-> ∀c∈Oc f l,c.eO=true
 | [],l,h=>by simpa [Oc] using h
 |true::f,[],h=>by simp [Oc] at h⊢
 |false::f,[],h=>by simp [Oc] at h⊢
 |true::f,a::l,h=>by
  intro c hc
  simp only [Oc,List.mem_cons] at hc
  rcases hc with rfl|hc
  ·rfl
  ·exact fV f l (λc hc=>h c (List.mem_cons_of_mem _ hc)) c hc
 |false::f,a::l,h=>by
  intro c hc
  simp only [Oc,List.mem_cons] at hc
  rcases hc with rfl|hc
  ·exact h c (by simp)
  ·exact fV f l (λc hc=>h c (List.mem_cons_of_mem _ hc)) c hc
theorem EL (f:AC->AC) (H:List (Nat×OB)) (l:Nat):lenOf (H.map λp=>(p.1,p.2.map f)) l=lenOf H l:=by
 unfold lenOf
 rw [Jr]
 cases Ae H l with
 |none=>rfl
 |some b=>cases b<;>rfl
theorem yb (f g:AC->AC) (c:AV):(c.map f).map g=c.map λa=>g (f a):=by
 cases c<;>simp [AV.map]
theorem zd (f g:AC->AC) (c:OB):(c.map f).map g=c.map λa=>g (f a):=by
 cases c<;>simp [OB.map]
theorem wA (s:St) (f g:AC->AC):(s.Gp f).Gp g=s.Gp λa=>g (f a):=by
 simp [St.Gp,List.map_map,Function.comp_def,yb,zd]
theorem wi (f:AC->AC) (H:List (Nat×OB)) (l:Nat): ∀(B:List (Nat×Nat×Nat)),EJ B (H.map λp=>(p.1,p.2.map f)) l=EJ B H l
 | []=>EL f H l
 |(k,o,n)::r=>by simp only [EJ];rw [wi f H l r]
theorem xN (B:List (Nat×Nat×Nat)) (s:St):(s.Gp Mm).whole B=s.whole B:=by
 unfold St.whole
 rw [wA]
 congr 1
 funext a
 cases a with
 |own l off len=>simp only [Mm,aW,St.Gp,wi]
 |_=>rfl
theorem xL {B:List (Nat×Nat×Nat)} {s t:St} (h:s.Gp Mm=t.Gp Mm):s.whole B=t.whole B:=by rw [<-xN B s,h,xN]
theorem jK (f:AC->AC): ∀(fx:List Bool) (a b:List AV),(Ph fx a b).map (·.map f)=Ph fx (a.map (·.map f)) (b.map (·.map f))
 | [],_,_=>by simp [Ph]
 |_::_,[],_=>by simp [Ph]
 |true::_,_::_,[]=>by simp [Ph]
 |false::_,_::_,[]=>by simp [Ph]
 |true::fx,x::a,y::b=>by simp only [Ph,List.map_cons,jK f fx a b]
 |false::fx,x::a,y::b=>by simp only [Ph,List.map_cons,jK f fx a b]
theorem nG (f:AC->AC) (fx:List Bool) (a b:St):(St.pA fx a b).Gp f=St.pA fx (a.Gp f) (b.Gp f):=by
 simp only [St.pA,St.Gp,jK]
theorem nF (p:Nat->Bool): ∀(i:Nat) (l0 l1:List AV),(∀t,(l0.getD t .undef).Qp=true->p (i+t)=true->l1.getD t .undef=l0.getD t .undef)->
  Ph (Ho p i l0) l0 (Oc (Ho p i l0) l1)=l1
 |_,[],l1,_=>by simp [Ho,Oc,Ph]
 |i,a::r,[],_=>by
  simp only [Ho]
  cases (a.Qp&&p i)<;>simp [Oc,Ph]
 |i,a::r,b::s,h=>by
  have hr:=nF p (i+1) r s λt h1 h2=>by
   have:=h (t+1) (by simpa using h1) (by rw [show i+(t+1)=i+1+t by omega];exact h2)
   simpa using this
  simp only [Ho]
  cases hc:(a.Qp&&p i) with
  |false=>simp only [Oc,Ph];rw [hr]
  |true=>
   simp only [Oc,Ph]
   rw [hr]
   simp only [Bool.and_eq_true] at hc
   have:=h 0 (by simpa using hc.1) hc.2
   simp only [List.getD_cons_zero] at this
   rw [this]
theorem al: ∀(f:List Bool) (l:List AV),(Oc f l).length=l.length
 | [],l=>by simp [Oc]
 |true::f,[]=>by simp [Oc]
 |false::f,[]=>by simp [Oc]
 |true::f,a::l=>by simp [Oc,al f l]
 |false::f,a::l=>by simp [Oc,al f l]
theorem bD: ∀(l:List AV) {R:Type} (v:lh l R),(Pq l v).1.length=l.length
 | [],_,_=>rfl
 |c::l,_,v=>by simp [Pq,bD l]
theorem r9 (p:Nat->Bool): ∀(i:Nat) (l0 l:List AV) (t:Nat),l.length=l0.length->(l0.getD t .undef).Qp=true->p (i+t)=true->(Ph (Ho p i l0) l0 l).getD t .undef=l0.getD t .undef
 |_,[],_,t,_,h,_=>by simp [AV.Qp] at h
 |i,a::r,[],_,h,_,_=>by simp at h
 |i,a::r,b::s,0,_,h1,h2=>by
  have:(a.Qp&&p i)=true:=by
   simp only [Bool.and_eq_true]
   exact ⟨by simpa using h1,h2⟩
  simp only [Ho,this,Ph,List.getD_cons_zero]
 |i,a::r,b::s,t+1,hl,h1,h2=>by
  have hr:=r9 p (i+1) r s t (by simpa using hl) (by simpa using h1) (by rw [show i+1+t=i+(t+1) by omega];exact h2)
  simp only [Ho]
  cases (a.Qp&&p i)<;>simpa only [Ph,List.getD_cons_succ] using hr
theorem ej {B:List (Nat×Nat×Nat)} {H:List (Nat×OB)} {c:AC} {K:Prop} (h:s5 B H c K):aW B H c=c/\K:=by
 cases c with
 |own l off len=>obtain ⟨h1,h2,h3⟩:=h;exact ⟨by rw [h1,h2];rfl,h3⟩
 |_=>exact ⟨rfl,h⟩
theorem Uo {B:List (Nat×Nat×Nat)} {H:List (Nat×OB)} : ∀ {l:List AC} {K:Prop},Xw B H l K->l.map (aW B H)=l/\K
 | [],_,h=>⟨rfl,h⟩
 |c::l,_,h=>by
  obtain ⟨h1,h2⟩:=ej h
  obtain ⟨h3,h4⟩:=Uo h2
  exact ⟨by rw [List.map_cons,h1,h3],h4⟩
theorem oX {B:List (Nat×Nat×Nat)} {H:List (Nat×OB)} {c:AV} {K:Prop} (h:AU B H c K):c.map (aW B H)=c/\K:=by
 cases c with
 | «at»a=>obtain ⟨h1,h2⟩:=ej h;exact ⟨by rw [AV.map,h1],h2⟩
 |agg cs=>obtain ⟨h1,h2⟩:=Uo h;exact ⟨by rw [AV.map,h1],h2⟩
 |Uk _ _ _=>exact ⟨rfl,h⟩
 |Jg l=>exact h.elim
theorem bE {B:List (Nat×Nat×Nat)} {H:List (Nat×OB)} : ∀ {l:List AV} {K:Prop},Uj B H l K->l.map (·.map (aW B H))=l/\K
 | [],_,h=>⟨rfl,h⟩
 |c::l,_,h=>by
  obtain ⟨h1,h2⟩:=oX h
  obtain ⟨h3,h4⟩:=bE h2
  exact ⟨by rw [List.map_cons,h1,h3],h4⟩
theorem Ie {B:List (Nat×Nat×Nat)} {H:List (Nat×OB)} : ∀ {l:List (Nat×OB)} {K:Prop},dN B H l K->l.map (λp=>(p.1,p.2.map (aW B H)))=l/\K
 | [],_,h=>⟨rfl,h⟩
 |(k, .var t vs)::l,_,h=>by
  obtain ⟨h1,h2⟩:=Uo h
  obtain ⟨h3,h4⟩:=Ie h2
  exact ⟨by rw [List.map_cons,h3];simp only [OB.map,h1],h4⟩
 |(k, .arr a b c d e)::l,_,h=>by
  obtain ⟨h3,h4⟩:=Ie (l:=l) h
  exact ⟨by rw [List.map_cons,h3];rfl,h4⟩
 |(k, .Dj a b c)::l,_,h=>by
  obtain ⟨h3,h4⟩:=Ie (l:=l) h
  exact ⟨by rw [List.map_cons,h3];rfl,h4⟩
 |(k, .Ak a b c d e)::l,_,h=>by
  obtain ⟨h3,h4⟩:=Ie (l:=l) h
  exact ⟨by rw [List.map_cons,h3];rfl,h4⟩
 |(k, .On a b)::l,_,h=>by
  obtain ⟨h3,h4⟩:=Ie (l:=l) h
  exact ⟨by rw [List.map_cons,h3];rfl,h4⟩
theorem eT {B:List (Nat×Nat×Nat)} {s:St} {K:Prop} (h:ua B s K):s.whole B=s/\K:=by
 obtain ⟨h1,h2⟩:=bE h
 obtain ⟨h3,h4⟩:=Ie h2
 exact ⟨by unfold St.whole St.Gp;rw [h1,h3],h4⟩
theorem bX (live:List Nat): ∀(i:Nat) (l:List AV) (t:Nat),i+t∉live->(Ge live i l).getD t .undef= .undef
 |_,[],_,_=>rfl
 |i,v::r,0,h=>by simp [Ge];intro hn;exact absurd hn h
 |i,v::r,t+1,h=>by
  simp only [Ge,List.getD_cons_succ]
  exact bX live (i+1) r t (by rw [show i+1+t=i+(t+1) by omega];exact h)
theorem bf: ∀(l:List Nat) (st:St) (t:Nat),st.get t= .undef->(Yh l st).get t= .undef
 | [],_,_,h=>h
 |a::r,st,t,h=>bf r _ t (by
  show (st.tmps.map (·.map (Ba a))).getD t .undef= .undef
  rw [Sa (Ba a) rfl,show st.tmps.getD t .undef= .undef from h]
  rfl)
theorem tK (l k:Nat) (st:St) (t:Nat) (h:st.get t= .undef):(st.rename l k).get t= .undef:=by
 unfold St.rename
 split
 ·split
  ·show (st.tmps.map (·.map (Oe l k))).getD t .undef= .undef
   rw [Sa (Oe l k) rfl,show st.tmps.getD t .undef= .undef from h]
   rfl
  ·exact h
 ·exact h
theorem Yx: ∀(n i:Nat) (st:St) (t:Nat),st.get t= .undef->(Hs n i st).get t= .undef
 |0,_,_,_,h=>h
 |n+1,i,st,t,h=>by
  simp only [Hs]
  refine Yx n (i+1) _ t ?_
  split
  ·split
   ·split
    ·exact h
    ·exact tK _ _ _ t h
   ·exact h
  ·exact h
theorem tF (st:St) (d:Nat) (v:AV) (t:Nat) (Ex:t≠d) (h:st.get t= .undef):(st.put (some d) v).get t= .undef:=by rw [Uz _ _ Ex];exact h
theorem nQ (k:Nat) (st:St) (t:Nat) (h:st.get t= .undef):(Vk k st).get t= .undef:=by
 unfold Vk
 split
 ·rename_i l off len hg
  split
  ·split
   ·refine tF _ _ _ _ (λe=>by subst e;rw [hg] at h;cases h) ?_
    show (st.tmps.map (·.map (Ba l))).getD t .undef= .undef
    rw [Sa (Ba l) rfl,show st.tmps.getD t .undef= .undef from h]
    rfl
   ·exact h
  ·exact h
 ·exact h
theorem bp (live:List Nat): ∀(n i:Nat) (st:St) (t:Nat),st.get t= .undef->(Jt live n i st).get t= .undef
 |0,_,_,_,h=>h
 |n+1,i,st,t,h=>by
  simp only [Jt]
  refine bp live n (i+1) _ t ?_
  split
  ·exact nQ _ _ _ h
  ·exact h
theorem ym {live:List Nat} {st:St} {t:Nat} (h:((st.clean live).get t).Qp=true):t∈live:=by
 refine Classical.byContradiction λhn=>?_
 have:(st.clean live).get t= .undef:=by
  have key: ∀s:St,s.get t= .undef->(if live.contains Wq then Hs s.tmps.length 0 s else s).get t= .undef:=by
   intro s hs
   split
   ·exact Yx _ _ s t hs
   ·exact hs
  unfold St.clean
  have KS: ∀s:St,s.get t= .undef->(if live.any (λt=>Nat.ble Sp t) then s.Fb live else s).get t= .undef:=by
   intro s hs
   split<;>exact hs
  have KT: ∀s:St,s.get t= .undef->(if live.any (λt=>Nat.ble Hr t&&Nat.blt t Wq) then Jt live s.tmps.length 0 s else s).get t= .undef:=by
   intro s hs
   split
   ·exact bp _ _ _ s t hs
   ·exact hs
  refine KS _ (key _ (KT _ (bf _ _ t ?_)))
  exact bX live 0 st.tmps t (by simpa using hn)
 rw [this] at h
 cases h
theorem nh {c:AV} (h:c.Qp=true): ∃fr τ,∃x:τ.den,c= .at (.data fr τ x):=by
 unfold AV.Qp at h
 split at h
 ·exact ⟨_,_,_,rfl⟩
 ·cases h
theorem GS {live:Nat->List Nat} {c:Code} {t:Nat} (h:stays live c t=true):t∉writes c/\Ve live c t=true:=by
 unfold stays at h
 simpa using h
section
variable {T:Tab} {Γ:Env} {live:Nat->List Nat}
theorem Jj.keeps {c:Code} {st:St} {Q:Gz->St->Prop} (h:Jj T Γ live c st Q):Jj T Γ live c st (λe s=>Q e s/\Fm (λt=>t∉writes c/\Ve live c t=true) st s):=by
 exact zG h st _ Bc.rfl'.on λt ht=>ht
def wsQ (Q:Gz->WS->Prop) (e:Gz) (s:St):Prop:= ∃w':WS,w'.st=s/\w'.OK/\Q e w'
theorem wv {c:Code} (ih: ∀(w:WS) (Q:Gz->WS->Prop),w.OK->Ya T Γ live c w Q->Jj T Γ live c w.st (wsQ Q)) {w:WS} {Q:Gz->WS->Prop} (h:Ya T Γ live (.loop c) w Q):
  Jj T Γ live (.loop c) w.st (wsQ Q):=by
 simp only [Ya,DR,fH] at h
 obtain ⟨WM,I,μ,h0,hs⟩:=eT h
 have Ae: ∀(t:Nat),((w.st.clean (live (Ch c))).get t).Qp=true->stays live c t=true-> ∀v,((St.pA (Ho (stays live c) 0 (w.st.clean (live (Ch c))).tmps) (w.st.clean (live (Ch c))) (dm ((w.st.clean (live (Ch c))).mask (Ho (stays live c) 0 (w.st.clean (live (Ch c))).tmps)) v)).whole (Sq T.parts (w.st.clean (live (Ch c))).tmps)).get t=(w.st.clean (live (Ch c))).get t:=by
  intro t h1 h2 v
  have h3:=r9 (stays live c) 0 (w.st.clean (live (Ch c))).tmps (dm ((w.st.clean (live (Ch c))).mask (Ho (stays live c) 0 (w.st.clean (live (Ch c))).tmps)) v).tmps t
   ((bD _ _).trans (al _ _)) h1 (by simpa using h2)
  obtain ⟨fr,τ,x,hx⟩:=nh h1
  refine (Jz _ _ rfl λ_ _ _=>rfl) t fr τ x ?_|>.trans hx.symm
  exact h3.trans hx
 have TP: ∀(s1:St),(∀t,((w.st.clean (live (Ch c))).get t).Qp=true->stays live c t=true->s1.get t=(w.st.clean (live (Ch c))).get t)->s1.whole (Sq T.parts (w.st.clean (live (Ch c))).tmps)=s1-> ∀v,dp ((w.st.clean (live (Ch c))).mask (Ho (stays live c) 0 (w.st.clean (live (Ch c))).tmps)) (s1.mask (Ho (stays live c) 0 (w.st.clean (live (Ch c))).tmps))=some v->
   s1=(St.pA (Ho (stays live c) 0 (w.st.clean (live (Ch c))).tmps) (w.st.clean (live (Ch c))) (dm ((w.st.clean (live (Ch c))).mask (Ho (stays live c) 0 (w.st.clean (live (Ch c))).tmps)) v)).whole (Sq T.parts (w.st.clean (live (Ch c))).tmps):=by
  intro s1 hf hwh v hv
  have h1:=dq hv
  have h2:St.pA (Ho (stays live c) 0 (w.st.clean (live (Ch c))).tmps) (w.st.clean (live (Ch c))) (s1.mask (Ho (stays live c) 0 (w.st.clean (live (Ch c))).tmps))=s1:=by
   simp only [St.pA,St.mask]
   rw [nF (stays live c) 0 (w.st.clean (live (Ch c))).tmps s1.tmps λt h3 h4=>hf t h3 (by simpa using h4)]
  have h3:(St.pA (Ho (stays live c) 0 (w.st.clean (live (Ch c))).tmps) (w.st.clean (live (Ch c))) (dm ((w.st.clean (live (Ch c))).mask (Ho (stays live c) 0 (w.st.clean (live (Ch c))).tmps)) v)).whole (Sq T.parts (w.st.clean (live (Ch c))).tmps)=s1.whole (Sq T.parts (w.st.clean (live (Ch c))).tmps):=by
   refine xL ?_
   rw [nG,h1,<-nG,h2]
  rw [h3,hwh]
 refine FW (λv=>(St.pA (Ho (stays live c) 0 (w.st.clean (live (Ch c))).tmps) (w.st.clean (live (Ch c))) (dm ((w.st.clean (live (Ch c))).mask (Ho (stays live c) 0 (w.st.clean (live (Ch c))).tmps)) v)).whole (Sq T.parts (w.st.clean (live (Ch c))).tmps)) I μ _ h0 (TP _ (λ_ _ _=>rfl) WM _ (ld _ (fV _ _ (Nl h)))) ?_
 intro a ha
 refine (Jj.keeps (ih ⟨[],_⟩ _ (λt b h=>by cases h) (hs a ha))).mono ?_
 intro e s hQ
 obtain ⟨⟨w',h1,h2,h3⟩,hk⟩:=hQ
 subst h1
 cases e with
 |normal=>
  obtain ⟨h4,h5⟩:=eT h3
  obtain ⟨v',h6,h7,h8⟩:=At.1 h5
  refine ⟨v',TP _ (λt hd ht=>?_) h4 _ h6,h7,h8⟩
  obtain ⟨fr,τ,x,hx⟩:=nh hd
  rw [hx]
  exact eL (live (Ch c)) w'.st t fr τ x (ym hd) (hk t fr τ x (GS ht) (by rw [Ae t hd ht a];exact hx))
 |exit id=>exact ⟨w',rfl,h2,h3⟩
 |ret=>exact ⟨w',rfl,h2,h3⟩
theorem kA: ∀(c:Code) (w:WS) (Q:Gz->WS->Prop),w.OK->Ya T Γ live c w Q->Jj T Γ live c w.st (wsQ Q):=by
 intro c
 induction c with
 |skip=>intro w Q hw h;exact .skip ⟨w,rfl,hw,h⟩
 |label _=>intro w Q hw h;exact .label ⟨w,rfl,hw,h⟩
 |exit _=>intro w Q hw h;exact .exit ⟨w,rfl,hw,h⟩
 |ret=>intro w Q hw h;exact .ret ⟨w,rfl,hw,h⟩
 |region id ops draw=>
  intro w Q hw h
  exact .region ((pK hw h).mono λs ⟨w',h1,h2,h3⟩=>⟨w',h1,h2,a8.1 h3⟩)
 |seq x y ihx ihy=>
  intro w Q hw h
  refine MJ ((ihx w _ hw h).mono λe s hQ=>?_)
  obtain ⟨w',h1,h2,h3⟩:=hQ
  subst h1
  cases e with
  |normal=>exact ihy w' Q h2 h3
  |exit id=>exact ⟨w',rfl,h2,h3⟩
  |ret=>exact ⟨w',rfl,h2,h3⟩
 |cond c x y ihx ihy=>
  intro w Q hw h
  obtain ⟨fr,b,w',h1,h2,h3,h4⟩:=ql hw h
  refine FV h1 (λhb=>?_) (λhb=>?_)
  ·subst hb;rw [<-h2];exact ihx w' Q h3 h4
  ·subst hb;rw [<-h2];exact ihy w' Q h3 h4
 |block id c ih=>
  intro w Q hw h
  refine zF ((ih w _ hw h).mono λe s hQ=>?_)
  obtain ⟨w',h1,h2,h3⟩:=hQ
  subst h1
  cases e with
  |normal=>exact ⟨w',rfl,h2,h3⟩
  |ret=>exact ⟨w',rfl,h2,h3⟩
  |exit EE=>
   simp only at h3
   simp only [qK]
   split at h3
   ·rename_i hi;rw [if_pos hi];exact ⟨w',rfl,h2,h3⟩
   ·rename_i hi;rw [if_neg hi];exact ⟨w',rfl,h2,h3⟩
 |loop c ih=>intro w Q hw h;exact wv ih h
 |_=>intro w Q hw h;exact absurd h (by simp [Ya])
theorem mB {s:Spec} {fn:Func} {P:s.res.den->Prop} {st:St} (h:UQ T s fn P st): ∃fr y,gW T s fn st=some (fr,y)/\(fr||!s.fresh)=true/\P y:=by
 obtain ⟨p,h1,h2⟩:=At.1 h
 split at h2
 ·rename_i hf;exact ⟨p.1,p.2,h1,hf,h2⟩
 ·cases h2
theorem DP {s:Spec} {fn:Func} {x:s.arg.den} {P:s.res.den->Prop} (h:fnW T Γ s fn x P):IK T Γ s fn x P:=by
 unfold fnW at h
 obtain ⟨c,h1,h2⟩:=At.1 h
 refine ⟨c,h1,(kA c _ _ (λt b h=>by cases h) h2).mono λe st ⟨w,h4,h5,h6⟩=>?_⟩
 subst h4
 cases e with
 |normal=>exact ⟨λid hh=>(by cases hh),mB h6⟩
 |ret=>exact ⟨λid hh=>(by cases hh),mB h6⟩
 |exit id=>cases h6
theorem Wk {st:St} {K:Prop} : ∀(vs:List AC) (cs:List (Bool×CK)),cE st K vs cs->cD st vs cs/\K
 | [],cs,h=>⟨by simp [cD],by simpa [cE] using h⟩
 |a::vs,[],h=>⟨by cases a<;>simp [cD],by cases a<;>simpa [cE] using h⟩
 |a::vs,(false,c)::r,h=>by
  have h:cE st K vs r:=by cases a<;>simpa only [cE] using h
  obtain ⟨h1,h2⟩:=Wk vs r h
  exact ⟨by cases a<;>simpa only [cD] using h1,h2⟩
 |a::vs,(true,c)::r,h=>by
  cases a with
  |own l off len=>
   simp only [cE] at h
   split at h
   ·rename_i hl
    obtain ⟨h1,h2⟩:=Wk vs r h.2
    refine ⟨?_,h2⟩
    simp only [cD,hl]
    exact ⟨h.1,h1⟩
   ·rename_i hl
    obtain ⟨h1,h2⟩:=Wk vs r h.2
    refine ⟨?_,h2⟩
    simp only [cD,hl]
    exact ⟨h.1,h1⟩
   ·exact h.elim
  |_=>exact ⟨by simp [cD],by simpa [cE] using h⟩
theorem aw {st:St} : ∀(cs:List CK) (as:List AC) (K:CKs.den cs->List Nat->Prop),jJ st cs as K-> ∃x ls,Od st cs as=some (x,ls)/\K x ls
 | [],[],K,h=>⟨(),[],rfl,h⟩
 | [],_::_,_,h=>h.elim
 |c::r,[],K,h=>by cases c<;>exact h.elim
 |c::r,a::as,K,h=>by
  have oW:Eb (eh st c a) (λp=>jJ st r as λy t=>K (p.1,y) (p.2++t))-> ∃x ls,Od st (c::r) (a::as)=some (x,ls)/\K x ls:= λh=>by
   obtain ⟨p,h1,h2⟩:=At.1 h
   obtain ⟨y,t,h3,h4⟩:=aw r as _ h2
   exact ⟨_,_,by simp only [Od,h1,h3],h4⟩
  cases c with
  |Ak e te kp=>
   cases a with
   |own l off len=>
    simp only [jJ] at h
    split at h
    ·rename_i hl
     split at h
     ·rename_i hc
      obtain ⟨⟨h1,h2⟩,h⟩:=h
      obtain ⟨y,t,h3,h4⟩:=aw r as _ h
      exact ⟨_,_,by simp only [Od,eh,hl];rw [dif_pos ⟨hc.1,hc.2,h1,h2⟩];simp only [h3];rfl,h4⟩
     ·exact h.elim
    ·exact h.elim
   |_=>exact oW h
  |_=>exact oW h
theorem iq {st:St} {n:Nat} {as:List AC} {K:Prop} : ∀(ks:List (Nat×Nat)),sT st n as ks K->qO st n as ks/\K
 | [],h=>⟨trivial,h⟩
 |(k,j)::r,h=>by
  simp only [sT] at h
  split at h
  ·rename_i l off len ha
   split at h
   ·rename_i p hl
    split at h
    ·rename_i hc
     simp only [Bool.and_eq_true] at hc
     obtain ⟨h1,h2⟩:=iq r h.2
     refine ⟨?_,h2⟩
     simp only [qO,ha,hl]
     exact ⟨⟨Nat.eq_of_beq_eq_true hc.1,h.1,hc.2⟩,h1⟩
    ·exact h.elim
   ·exact h.elim
  ·exact h.elim
theorem db {s:MSpec} {fn:Func} {x:Ins.den s.ins} {st:St} {cs:List AC} {P:CKs.den s.outs×IOs.den s.ins->Prop} (h:nT T s fn x st cs P):dW T s fn x st cs P:=by
 obtain ⟨l,h1,h⟩:=At.1 h
 obtain ⟨⟨as,ml⟩,h2,h⟩:=At.1 h
 obtain ⟨r,ls,h3,h⟩:=aw _ _ _ h
 obtain ⟨o,h4,h⟩:=At.1 h
 split at h
 ·rename_i hc
  obtain ⟨h5,h6⟩:=iq _ h
  unfold dW
  simp only [h1,h2,h3,h4]
  exact ⟨hc,h5,h6⟩
 ·exact h.elim
theorem l5 {s:MSpec} {fn:Func} {x:Ins.den s.ins} {st:St} {P:CKs.den s.outs×IOs.den s.ins->Prop} (h:CL T s fn x st P):IJ T s fn x st P:=by
 unfold CL at h
 unfold IJ
 cases hp:s.ptr with
 |none=>rw [hp] at h;exact db h
 |some p=>
  rw [hp] at h
  simp only at h⊢
  split at h
  ·rename_i tid vs hl
   split at h
   ·rename_i hc
    simp only [Bool.and_eq_true] at hc
    obtain ⟨h1,h2⟩:=hc
    have h1:tid=p.1:=Nat.eq_of_beq_eq_true h1
    have h2:=Nat.eq_of_beq_eq_true h2
    subst h1
    obtain ⟨cs,h3,h4⟩:=At.1 h
    obtain ⟨h5,h6⟩:=Wk vs s.ins h4
    exact ⟨vs,cs,hl,h2,h3,h5,db h6⟩
   ·exact h.elim
  ·exact h.elim
theorem yA {s:MSpec} {fn:Func} {x:Ins.den s.ins} {P:CKs.den s.outs×IOs.den s.ins->Prop} (h:fnMW T Γ s fn x P):SH T Γ s fn x P:=by
 unfold fnMW at h
 split at h
 ·cases h
 rename_i hlen
 obtain ⟨c,h1,h2⟩:=At.1 h
 refine ⟨hlen,c,h1,(kA c _ _ (λt b h=>by cases h) h2).mono λe st ⟨w,h4,h5,h6⟩=>?_⟩
 subst h4
 cases e with
 |normal=>exact ⟨λid hh=>(by cases hh),l5 h6⟩
 |ret=>exact ⟨λid hh=>(by cases hh),l5 h6⟩
 |exit id=>cases h6
theorem Dp.ofW {P:Program} (hT:Cd P T) (Mi:Hy P Γ) (hm:P.follows .mixedOrders=true) {f:FuncId} {fn:Func} (hf:P.funcs[f]?=some fn) (hn:(fn.name== "runtime.NumGoroutine")=false)
  (hb:fn.body.isNone=false) (s:MSpec) (h: ∀x y,s.fn x=some y->fnMW T Γ s fn x (λz=>z=y)):Dp P f s:=
 ⟨Uq hf hn hb,λw S π us x r o g vs h1 hg h2 h3 hS h4 h5=>p7 hT Mi hm hf s w S π us x r o g vs h1 hg h2 h3 hS h4 (yA (h x (r,o) h5))⟩
theorem Sound.ofW {P:Program} (hT:Cd P T) (Mi:Hy P Γ) (hm:P.follows .mixedOrders=true) {f:FuncId} {fn:Func} (hf:P.funcs[f]?=some fn) (hn:(fn.name== "runtime.NumGoroutine")=false)
  (hb:fn.body.isNone=false) (s:Spec) (h: ∀x y,s.fn x=some y->fnW T Γ s fn x (λz=>z=y)):Sound P f s:=
 ML hT Mi hm hf hn hb s λx y hx=>DP (h x y hx)
end
end Go.Proofs.Ytjbdmibbbpdnnaa
