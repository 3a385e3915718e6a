/-
  Part 34 of the proof that the statement FnExactIterationNodes holds.
-/
import Derived.Test.YtfolipnappekaaaGreatCIterationNodes32
namespace Go.Proofs.YtfolipnappekaaaGreat
open Go.RowKit
theorem Un {B:List (Nat×Nat×Nat)} {H:List (Nat×OB)} : ∀ {l:List AV} {K:Prop},bK B H l K-> ∀c∈l,c.lE=true
 | [],_,_,c,hc=>by cases hc
 |d::l,K,h,c,hc=>by
  simp only [bK] at h
  cases d with
  |Ms l'=>exact h.elim
  | «at»a=>
   rcases Be.1 hc with rfl|hc
   ·rfl
   ·have h':bK B H l K:=by
     cases a with
     |own k o n=>exact h.2.2
     |_=>exact h
    exact Un h' c hc
  |bL _ _ _=>
   rcases Be.1 hc with rfl|hc
   ·rfl
   ·exact Un h c hc
  |agg cs=>
   rcases Be.1 hc with rfl|hc
   ·rfl
   ·have: ∀(cs:List AC) (Q:Prop),dO B H cs Q->Q:=by
     intro cs
     induction cs with
     |nil=>exact λQ h=>h
     |cons a cs ih=>
      intro Q h
      have h2:dO B H cs Q:=by
       cases a with
       |own k o n=>exact h.2.2
       |_=>exact h
      exact ih Q h2
    exact Un (this cs _ h) c hc
theorem mB: ∀(f:List Bool) (l:List AV),(∀c∈l,c.lE=true)-> ∀c∈Vk f l,c.lE=true
 | [],l,h=>by simpa [Vk] using h
 |true::f,[],h=>by simp [Vk] at h⊢
 |false::f,[],h=>by simp [Vk] at h⊢
 |true::f,a::l,h=>by
  intro c hc
  simp only [Vk,Be] at hc
  rcases hc with rfl|hc
  ·rfl
  ·exact mB f l (λc hc=>h c (At _ hc)) c hc
 |false::f,a::l,h=>by
  intro c hc
  simp only [Vk,Be] at hc
  rcases hc with rfl|hc
  ·exact h c (by simp)
  ·exact mB f l (λc hc=>h c (At _ hc)) c hc
theorem VK (f:AC->AC) (H:List (Nat×OB)) (l:Nat):lenOf (H.map λp=>(p.1,p.2.map f)) l=lenOf H l:=by
 unfold lenOf
 rw [Ox]
 cases Au H l with
 |none=>rfl
 |some b=>cases b<;>rfl
theorem LU (f g:AC->AC) (c:AV):(c.map f).map g=c.map λa=>g (f a):=by
 cases c<;>simp [AV.map]
theorem OH (f g:AC->AC) (c:OB):(c.map f).map g=c.map λa=>g (f a):=by
 cases c<;>simp [OB.map]
theorem HP (s:St) (f g:AC->AC):(s.Ks f).Ks g=s.Ks λa=>g (f a):=by
 simp [St.Ks,List.map_map,Function.comp_def,LU,OH]
theorem HC (f:AC->AC) (H:List (Nat×OB)) (l:Nat): ∀(B:List (Nat×Nat×Nat)),VI B (H.map λp=>(p.1,p.2.map f)) l=VI B H l
 | []=>VK f H l
 |(k,o,n)::r=>by simp only [VI];rw [HC f H l r]
theorem LD (B:List (Nat×Nat×Nat)) (s:St):(s.Ks Tc).whole B=s.whole B:=by
 unfold St.whole
 rw [HP]
 congr 1
 funext a
 cases a with
 |own l off len=>simp only [Tc,gf,St.Ks,HC]
 |_=>rfl
theorem LC {B:List (Nat×Nat×Nat)} {s t:St} (h:s.Ks Tc=t.Ks Tc):s.whole B=t.whole B:=by rw [<-LD B s,h,LD]
theorem pN (f:AC->AC): ∀(fx:List Bool) (a b:List AV),(Wp fx a b).map (·.map f)=Wp fx (a.map (·.map f)) (b.map (·.map f))
 | [],_,_=>by simp [Wp]
 |_::_,[],_=>by simp [Wp]
 |true::_,_::_,[]=>by simp [Wp]
 |false::_,_::_,[]=>by simp [Wp]
 |true::fx,x::a,y::b=>by simp only [Wp,Cc,pN f fx a b]
 |false::fx,x::a,y::b=>by simp only [Wp,Cc,pN f fx a b]
theorem uU (f:AC->AC) (fx:List Bool) (a b:St):(St.xa fx a b).Ks f=St.xa fx (a.Ks f) (b.Ks f):=by
 simp only [St.xa,St.Ks,pN]
theorem uT (p:Nat->Bool): ∀(i:Nat) (l0 l1:List AV),(∀t,(l0.getD t .undef).Yh=true->p (i+t)=true->l1.getD t .undef=l0.getD t .undef)->
  Wp (Mj p i l0) l0 (Vk (Mj p i l0) l1)=l1
 |_,[],l1,_=>by simp [Mj,Vk,Wp]
 |i,a::r,[],_=>by
  simp only [Mj]
  cases (a.Yh&&p i)<;>simp [Vk,Wp]
 |i,a::r,b::s,h=>by
  have hr:=uT p (i+1) r s λt h1 h2=>by
   have:=h (t+1) (by simpa using h1) (by rw [show i+(t+1)=i+1+t by omega];exact h2)
   simpa using this
  simp only [Mj]
  cases hc:(a.Yh&&p i) with
  |false=>simp only [Vk,Wp];rw [hr]
  |true=>
   simp only [Vk,Wp]
   rw [hr]
   simp only [Af] at hc
   have:=h 0 (by simpa using hc.1) hc.2
   simp only [Xq] at this
   rw [this]
theorem fw: ∀(f:List Bool) (l:List AV),(Vk f l).length=l.length
 | [],l=>by simp [Vk]
 |true::f,[]=>by simp [Vk]
 |false::f,[]=>by simp [Vk]
 |true::f,a::l=>by simp [Vk,fw f l]
 |false::f,a::l=>by simp [Vk,fw f l]
theorem gN: ∀(l:List AV) {R:Type} (v:rQ l R),(Wz l v).1.length=l.length
 | [],_,_=>rfl
 |c::l,_,v=>by simp [Wz,gN l]
theorem yX (p:Nat->Bool): ∀(i:Nat) (l0 l:List AV) (t:Nat),l.length=l0.length->(l0.getD t .undef).Yh=true->p (i+t)=true->(Wp (Mj p i l0) l0 l).getD t .undef=l0.getD t .undef
 |_,[],_,t,_,h,_=>by simp [AV.Yh] at h
 |i,a::r,[],_,h,_,_=>by simp at h
 |i,a::r,b::s,0,_,h1,h2=>by
  have:(a.Yh&&p i)=true:=by
   simp only [Af]
   exact ⟨by simpa using h1,h2⟩
  simp only [Mj,this,Wp,Xq]
 |i,a::r,b::s,t+1,hl,h1,h2=>by
  have hr:=yX p (i+1) r s t (by simpa using hl) (by simpa using h1) (by rw [show i+1+t=i+(t+1) by omega];exact h2)
  simp only [Mj]
  cases (a.Yh&&p i)<;>simpa only [Wp,No] using hr
theorem l4 {B:List (Nat×Nat×Nat)} {H:List (Nat×OB)} {c:AC} {K:Prop} (h:zD B H c K):gf B H c=c/\K:=by
 cases c with
 |own l off len=>obtain ⟨h1,h2,h3⟩:=h;exact ⟨by rw [h1,h2];rfl,h3⟩
 |_=>exact ⟨rfl,h⟩
theorem bQ {B:List (Nat×Nat×Nat)} {H:List (Nat×OB)} : ∀ {l:List AC} {K:Prop},dO B H l K->l.map (gf B H)=l/\K
 | [],_,h=>⟨rfl,h⟩
 |c::l,_,h=>by
  obtain ⟨h1,h2⟩:=l4 h
  obtain ⟨h3,h4⟩:=bQ h2
  exact ⟨by rw [Cc,h1,h3],h4⟩
theorem wI {B:List (Nat×Nat×Nat)} {H:List (Nat×OB)} {c:AV} {K:Prop} (h:RU B H c K):c.map (gf B H)=c/\K:=by
 cases c with
 | «at»a=>obtain ⟨h1,h2⟩:=l4 h;exact ⟨by rw [AV.map,h1],h2⟩
 |agg cs=>obtain ⟨h1,h2⟩:=bQ h;exact ⟨by rw [AV.map,h1],h2⟩
 |bL _ _ _=>exact ⟨rfl,h⟩
 |Ms l=>exact h.elim
theorem gO {B:List (Nat×Nat×Nat)} {H:List (Nat×OB)} : ∀ {l:List AV} {K:Prop},bK B H l K->l.map (·.map (gf B H))=l/\K
 | [],_,h=>⟨rfl,h⟩
 |c::l,_,h=>by
  obtain ⟨h1,h2⟩:=wI h
  obtain ⟨h3,h4⟩:=gO h2
  exact ⟨by rw [Cc,h1,h3],h4⟩
theorem Nk {B:List (Nat×Nat×Nat)} {H:List (Nat×OB)} : ∀ {l:List (Nat×OB)} {K:Prop},kf B H l K->l.map (λp=>(p.1,p.2.map (gf B H)))=l/\K
 | [],_,h=>⟨rfl,h⟩
 |(k, .var t vs)::l,_,h=>by
  obtain ⟨h1,h2⟩:=bQ h
  obtain ⟨h3,h4⟩:=Nk h2
  exact ⟨by rw [Cc,h3];simp only [OB.map,h1],h4⟩
 |(k, .arr a b c d e)::l,_,h=>by
  obtain ⟨h3,h4⟩:=Nk (l:=l) h
  exact ⟨by rw [Cc,h3];rfl,h4⟩
 |(k, .Gu a b c)::l,_,h=>by
  obtain ⟨h3,h4⟩:=Nk (l:=l) h
  exact ⟨by rw [Cc,h3];rfl,h4⟩
 |(k, .Bm a b c d e)::l,_,h=>by
  obtain ⟨h3,h4⟩:=Nk (l:=l) h
  exact ⟨by rw [Cc,h3];rfl,h4⟩
 |(k, .Vv a b)::l,_,h=>by
  obtain ⟨h3,h4⟩:=Nk (l:=l) h
  exact ⟨by rw [Cc,h3];rfl,h4⟩
theorem lK {B:List (Nat×Nat×Nat)} {s:St} {K:Prop} (h:CX B s K):s.whole B=s/\K:=by
 obtain ⟨h1,h2⟩:=gO h
 obtain ⟨h3,h4⟩:=Nk h2
 exact ⟨by unfold St.whole St.Ks;rw [h1,h3],h4⟩
theorem iw (live:List Nat): ∀(i:Nat) (l:List AV) (t:Nat),i+t∉live->(Kd live i l).getD t .undef= .undef
 |_,[],_,_=>rfl
 |i,v::r,0,h=>by simp [Kd];intro hn;exact absurd hn h
 |i,v::r,t+1,h=>by
  simp only [Kd,No]
  exact iw live (i+1) r t (by rw [show i+1+t=i+(t+1) by omega];exact h)
theorem gx: ∀(l:List Nat) (st:St) (t:Nat),st.get t= .undef->(e8 l st).get t= .undef
 | [],_,_,h=>h
 |a::r,st,t,h=>gx r _ t (by
  show (st.tmps.map (·.map (Cr a))).getD t .undef= .undef
  rw [Vf (Cr a) rfl,show st.tmps.getD t .undef= .undef from h]
  rfl)
theorem CD (l k:Nat) (st:St) (t:Nat) (h:st.get t= .undef):(st.rename l k).get t= .undef:=by
 unfold St.rename
 split
 ·split
  ·show (st.tmps.map (·.map (Vm l k))).getD t .undef= .undef
   rw [Vf (Vm l k) rfl,show st.tmps.getD t .undef= .undef from h]
   rfl
  ·exact h
 ·exact h
theorem eC: ∀(n i:Nat) (st:St) (t:Nat),st.get t= .undef->(Mo n i st).get t= .undef
 |0,_,_,_,h=>h
 |n+1,i,st,t,h=>by
  simp only [Mo]
  refine eC n (i+1) _ t ?_
  split
  ·split
   ·split
    ·exact h
    ·exact CD _ _ _ t h
   ·exact h
  ·exact h
theorem BY (st:St) (d:Nat) (v:AV) (t:Nat) (Ik:t≠d) (h:st.get t= .undef):(st.put (some d) v).get t= .undef:=by rw [bZ _ _ Ik];exact h
theorem vh (k:Nat) (st:St) (t:Nat) (h:st.get t= .undef):(cg k st).get t= .undef:=by
 unfold cg
 split
 ·rename_i l off len hg
  split
  ·split
   ·refine BY _ _ _ _ (λe=>by subst e;rw [hg] at h;cases h) ?_
    show (st.tmps.map (·.map (Cr l))).getD t .undef= .undef
    rw [Vf (Cr l) rfl,show st.tmps.getD t .undef= .undef from h]
    rfl
   ·exact h
  ·exact h
 ·exact h
theorem mG (c:Nat) (st:St) (t:Nat) (h:st.get t= .undef):(Qd c st).get t= .undef:=by
 unfold Qd
 split
 ·split
  ·rename_i l off len hc
   split
   ·split
    ·split
     ·show (st.tmps.map (·.map (Cr l))).getD t .undef= .undef
      rw [Vf (Cr l) rfl,show st.tmps.getD t .undef= .undef from h]
      rfl
     ·exact h
    ·exact h
   ·exact h
  ·exact h
 ·exact h
theorem cZ (live:List Nat): ∀(n i:Nat) (st:St) (t:Nat),st.get t= .undef->(Pu live n i st).get t= .undef
 |0,_,_,_,h=>h
 |n+1,i,st,t,h=>by
  simp only [Pu]
  refine cZ live n (i+1) _ t ?_
  split
  ·exact mG _ _ _ h
  ·exact h
theorem gF (live:List Nat): ∀(n i:Nat) (st:St) (t:Nat),st.get t= .undef->(Oz live n i st).get t= .undef
 |0,_,st,t,h=>cZ live 16 0 st t h
 |n+1,i,st,t,h=>by
  simp only [Oz]
  refine gF live n (i+1) _ t ?_
  split
  ·exact vh _ _ _ h
  ·exact h
theorem MI {live:List Nat} {st:St} {t:Nat} (h:((st.clean live).get t).Yh=true):t∈live:=by
 refine Ce λhn=>?_
 have:(st.clean live).get t= .undef:=by
  have key: ∀s:St,s.get t= .undef->(if live.contains da then Mo s.tmps.length 0 s else s).get t= .undef:=by
   intro s hs
   split
   ·exact eC _ _ s t hs
   ·exact hs
  unfold St.clean
  have Ab7: ∀s:St,s.get t= .undef->(if live.any (λt=>Nat.ble Ud t) then s.Im live else s).get t= .undef:=by
   intro s hs
   split<;>exact hs
  have Ab8: ∀s:St,s.get t= .undef->(if live.any (λt=>Nat.ble Rz t&&Nat.blt t da) then Oz live s.tmps.length 0 s else s).get t= .undef:=by
   intro s hs
   split
   ·exact gF _ _ _ s t hs
   ·exact hs
  refine Ab7 _ (key _ (Ab8 _ (gx _ _ t ?_)))
  exact iw live 0 st.tmps t (by simpa using hn)
 rw [this] at h
 cases h
theorem uC {c:AV} (h:c.Yh=true): ∃fr τ,∃x:τ.den,c= .at (.data fr τ x):=by
 unfold AV.Yh at h
 split at h
 ·exact ⟨_,_,_,rfl⟩
 ·cases h
theorem XK {live:Nat->List Nat} {c:Code} {t:Nat} (h:stays live c t=true):t∉writes c/\c8 live c t=true:=by
 unfold stays at h
 simpa using h
section
variable {T:Tab} {Γ:Env} {live:Nat->List Nat}
theorem Oi.keeps {c:Code} {st:St} {Q:Lh->St->Prop} (h:Oi T Γ live c st Q):Oi T Γ live c st (λe s=>Q e s/\Io (λt=>t∉writes c/\c8 live c t=true) st s):=by
 exact PT h st _ Cp.rfl'.on λt ht=>ht
def wsQ (Q:Lh->WS->Prop) (e:Lh) (s:St):Prop:= ∃w':WS,w'.st=s/\w'.OK/\Q e w'
theorem HK {c:Code} (ih: ∀(w:WS) (Q:Lh->WS->Prop),w.OK->dT T Γ live c w Q->Oi T Γ live c w.st (wsQ Q)) {w:WS} {Q:Lh->WS->Prop} (h:dT T Γ live (.loop c) w Q):
  Oi T Γ live (.loop c) w.st (wsQ Q):=by
 simp only [dT,UO,me] at h
 obtain ⟨hw0,I,μ,h0,hs⟩:=lK h
 have Au: ∀(t:Nat),((w.st.clean (live (Es c))).get t).Yh=true->stays live c t=true-> ∀v,((St.xa (Mj (stays live c) 0 (w.st.clean (live (Es c))).tmps) (w.st.clean (live (Es c))) (jC ((w.st.clean (live (Es c))).mask (Mj (stays live c) 0 (w.st.clean (live (Es c))).tmps)) v)).whole (ay T.parts (w.st.clean (live (Es c))).tmps)).get t=(w.st.clean (live (Es c))).get t:=by
  intro t h1 h2 v
  have h3:=yX (stays live c) 0 (w.st.clean (live (Es c))).tmps (jC ((w.st.clean (live (Es c))).mask (Mj (stays live c) 0 (w.st.clean (live (Es c))).tmps)) v).tmps t
   ((gN _ _).trans (fw _ _)) h1 (by simpa using h2)
  obtain ⟨fr,τ,x,hx⟩:=uC h1
  refine (Po _ _ rfl λ_ _ _=>rfl) t fr τ x ?_|>.trans hx.symm
  exact h3.trans hx
 have hmk: ∀(s1:St),(∀t,((w.st.clean (live (Es c))).get t).Yh=true->stays live c t=true->s1.get t=(w.st.clean (live (Es c))).get t)->s1.whole (ay T.parts (w.st.clean (live (Es c))).tmps)=s1-> ∀v,jD ((w.st.clean (live (Es c))).mask (Mj (stays live c) 0 (w.st.clean (live (Es c))).tmps)) (s1.mask (Mj (stays live c) 0 (w.st.clean (live (Es c))).tmps))=some v->
   s1=(St.xa (Mj (stays live c) 0 (w.st.clean (live (Es c))).tmps) (w.st.clean (live (Es c))) (jC ((w.st.clean (live (Es c))).mask (Mj (stays live c) 0 (w.st.clean (live (Es c))).tmps)) v)).whole (ay T.parts (w.st.clean (live (Es c))).tmps):=by
  intro s1 hf hwh v hv
  have h1:=jE hv
  have h2:St.xa (Mj (stays live c) 0 (w.st.clean (live (Es c))).tmps) (w.st.clean (live (Es c))) (s1.mask (Mj (stays live c) 0 (w.st.clean (live (Es c))).tmps))=s1:=by
   simp only [St.xa,St.mask]
   rw [uT (stays live c) 0 (w.st.clean (live (Es c))).tmps s1.tmps λt h3 h4=>hf t h3 (by simpa using h4)]
  have h3:(St.xa (Mj (stays live c) 0 (w.st.clean (live (Es c))).tmps) (w.st.clean (live (Es c))) (jC ((w.st.clean (live (Es c))).mask (Mj (stays live c) 0 (w.st.clean (live (Es c))).tmps)) v)).whole (ay T.parts (w.st.clean (live (Es c))).tmps)=s1.whole (ay T.parts (w.st.clean (live (Es c))).tmps):=by
   refine LC ?_
   rw [uU,h1,<-uU,h2]
  rw [h3,hwh]
 refine WU (λv=>(St.xa (Mj (stays live c) 0 (w.st.clean (live (Es c))).tmps) (w.st.clean (live (Es c))) (jC ((w.st.clean (live (Es c))).mask (Mj (stays live c) 0 (w.st.clean (live (Es c))).tmps)) v)).whole (ay T.parts (w.st.clean (live (Es c))).tmps)) I μ _ h0 (hmk _ (λ_ _ _=>rfl) hw0 _ (rH _ (mB _ _ (Un h)))) ?_
 intro a ha
 refine (Oi.keeps (ih ⟨[],_⟩ _ (λt b h=>by cases h) (hs a ha))).mono ?_
 intro e s hQ
 obtain ⟨⟨w',h1,h2,h3⟩,hk⟩:=hQ
 subst h1
 cases e with
 |normal=>
  obtain ⟨h4,h5⟩:=lK h3
  obtain ⟨v',h6,h7,h8⟩:=Cg.1 h5
  refine ⟨v',hmk _ (λt hd ht=>?_) h4 _ h6,h7,h8⟩
  obtain ⟨fr,τ,x,hx⟩:=uC hd
  rw [hx]
  exact lx (live (Es c)) w'.st t fr τ x (MI hd) (hk t fr τ x (XK ht) (by rw [Au t hd ht a];exact hx))
 |exit id=>exact ⟨w',rfl,h2,h3⟩
 |ret=>exact ⟨w',rfl,h2,h3⟩
theorem qH: ∀(c:Code) (w:WS) (Q:Lh->WS->Prop),w.OK->dT T Γ live c w Q->Oi T Γ live c w.st (wsQ Q):=by
 intro c
 induction c with
 |skip=>intro w Q hw h;exact .skip ⟨w,rfl,hw,h⟩
 |label _=>intro w Q hw h;exact .label ⟨w,rfl,hw,h⟩
 |exit _=>intro w Q hw h;exact .exit ⟨w,rfl,hw,h⟩
 |ret=>intro w Q hw h;exact .ret ⟨w,rfl,hw,h⟩
 |region id ops draw=>
  intro w Q hw h
  have hw':WS.OK {w with st:=w.st.nm ops} := λt b ht=>by
   obtain ⟨fr,e⟩:=hw t b ht
   exact ⟨fr,ly ops w.st t fr .bool b e⟩
  exact .region ((xq hw' h).mono λs ⟨w',h1,h2,h3⟩=>⟨w',h1,h2,Yd.1 h3⟩)
 |seq x y ihx ihy=>
  intro w Q hw h
  refine Acb ((ihx w _ hw h).mono λe s hQ=>?_)
  obtain ⟨w',h1,h2,h3⟩:=hQ
  subst h1
  cases e with
  |normal=>exact ihy w' Q h2 h3
  |exit id=>exact ⟨w',rfl,h2,h3⟩
  |ret=>exact ⟨w',rfl,h2,h3⟩
 |cond c x y ihx ihy=>
  intro w Q hw h
  obtain ⟨fr,b,w',h1,h2,h3,h4⟩:=yk hw h
  refine WT h1 (λhb=>?_) (λhb=>?_)
  ·subst hb;rw [<-h2];exact ihx w' Q h3 h4
  ·subst hb;rw [<-h2];exact ihy w' Q h3 h4
 |block id c ih=>
  intro w Q hw h
  refine PS ((ih w _ hw h).mono λe s hQ=>?_)
  obtain ⟨w',h1,h2,h3⟩:=hQ
  subst h1
  cases e with
  |normal=>exact ⟨w',rfl,h2,h3⟩
  |ret=>exact ⟨w',rfl,h2,h3⟩
  |exit VD=>
   simp only at h3
   simp only [yH]
   split at h3
   ·rename_i hi;rw [Ab hi];exact ⟨w',rfl,h2,h3⟩
   ·rename_i hi;rw [Ag hi];exact ⟨w',rfl,h2,h3⟩
 |loop c ih=>intro w Q hw h;exact HK ih h
 |_=>intro w Q hw h;exact absurd h (by simp [dT])
theorem tQ {s:Spec} {fn:Func} {P:s.res.den->Prop} {st:St} (h:Ain T s fn P st): ∃fr y,nB T s fn st=some (fr,y)/\(fr||!s.fresh)=true/\P y:=by
 obtain ⟨p,h1,h2⟩:=Cg.1 h
 split at h2
 ·rename_i hf;exact ⟨p.1,p.2,h1,hf,h2⟩
 ·cases h2
theorem UN {s:Spec} {fn:Func} {x:s.arg.den} {P:s.res.den->Prop} (h:fnW T Γ s fn x P):ZB T Γ s fn x P:=by
 unfold fnW at h
 obtain ⟨c,h1,h2⟩:=Cg.1 h
 refine ⟨c,h1,(qH c _ _ (λt b h=>by cases h) h2).mono λe st ⟨w,h4,h5,h6⟩=>?_⟩
 subst h4
 cases e with
 |normal=>exact ⟨λid hh=>(by cases hh),tQ h6⟩
 |ret=>exact ⟨λid hh=>(by cases hh),tQ h6⟩
 |exit id=>cases h6
theorem cW {st:St} {K:Prop} : ∀(vs:List AC) (cs:List (Bool×CK)),j7 st K vs cs->j6 st vs cs/\K
 | [],cs,h=>⟨by simp [j6],by simpa [j7] using h⟩
 |a::vs,[],h=>⟨by cases a<;>simp [j6],by cases a<;>simpa [j7] using h⟩
 |a::vs,(false,c)::r,h=>by
  have h:j7 st K vs r:=by cases a<;>simpa only [j7] using h
  obtain ⟨h1,h2⟩:=cW vs r h
  exact ⟨by cases a<;>simpa only [j6] using h1,h2⟩
 |a::vs,(true,c)::r,h=>by
  cases a with
  |own l off len=>
   simp only [j7] at h
   split at h
   ·rename_i hl
    obtain ⟨h1,h2⟩:=cW vs r h.2
    refine ⟨?_,h2⟩
    simp only [j6,hl]
    exact ⟨h.1,h1⟩
   ·rename_i hl
    obtain ⟨h1,h2⟩:=cW vs r h.2
    refine ⟨?_,h2⟩
    simp only [j6,hl]
    exact ⟨h.1,h1⟩
   ·exact h.elim
  |_=>exact ⟨by simp [j6],by simpa [j7] using h⟩
theorem fD {st:St} : ∀(cs:List CK) (as:List AC) (K:CKs.den cs->List Nat->Prop),pM st cs as K-> ∃x ls,Vl st cs as=some (x,ls)/\K x ls
 | [],[],K,h=>⟨(),[],rfl,h⟩
 | [],_::_,_,h=>h.elim
 |c::r,[],K,h=>by cases c<;>exact h.elim
 |c::r,a::as,K,h=>by
  have wF:Ht (kV st c a) (λp=>pM st r as λy t=>K (p.1,y) (p.2++t))-> ∃x ls,Vl st (c::r) (a::as)=some (x,ls)/\K x ls:= λh=>by
   obtain ⟨p,h1,h2⟩:=Cg.1 h
   obtain ⟨y,t,h3,h4⟩:=fD r as _ h2
   exact ⟨_,_,by simp only [Vl,h1,h3],h4⟩
  cases c with
  |Bm e te kp=>
   cases a with
   |own l off len=>
    simp only [pM] at h
    split at h
    ·rename_i hl
     split at h
     ·rename_i hc
      obtain ⟨⟨h1,h2⟩,h⟩:=h
      obtain ⟨y,t,h3,h4⟩:=fD r as _ h
      exact ⟨_,_,by simp only [Vl,kV,hl];rw [Iy ⟨hc.1,hc.2,h1,h2⟩];simp only [h3];rfl,h4⟩
     ·exact h.elim
    ·exact h.elim
   |_=>exact wF h
  |_=>exact wF h
theorem nU {st:St} {n:Nat} {as:List AC} {K:Prop} : ∀(ks:List (Nat×Nat)),AS st n as ks K->yM st n as ks/\K
 | [],h=>⟨trivial,h⟩
 |(k,j)::r,h=>by
  simp only [AS] at h
  split at h
  ·rename_i l off len ha
   split at h
   ·rename_i p hl
    split at h
    ·rename_i hc
     simp only [Af] at hc
     obtain ⟨h1,h2⟩:=nU r h.2
     refine ⟨?_,h2⟩
     simp only [yM,ha,hl]
     exact ⟨⟨Jl hc.1,h.1,hc.2⟩,h1⟩
    ·exact h.elim
   ·exact h.elim
  ·exact h.elim
theorem js {s:MSpec} {fn:Func} {x:Ins.den s.ins} {st:St} {cs:List AC} {P:CKs.den s.outs×IOs.den s.ins->Prop} (h:vu T s fn x st cs P):kD T s fn x st cs P:=by
 obtain ⟨l,h1,h⟩:=Cg.1 h
 obtain ⟨⟨as,ml⟩,h2,h⟩:=Cg.1 h
 obtain ⟨r,ls,h3,h⟩:=fD _ _ _ h
 obtain ⟨o,h4,h⟩:=Cg.1 h
 split at h
 ·rename_i hc
  obtain ⟨h5,h6⟩:=nU _ h
  unfold kD
  simp only [h1,h2,h3,h4]
  exact ⟨hc,h5,h6⟩
 ·exact h.elim
theorem ry {s:MSpec} {fn:Func} {x:Ins.den s.ins} {st:St} {P:CKs.den s.outs×IOs.den s.ins->Prop} (h:TJ T s fn x st P):ZA T s fn x st P:=by
 unfold TJ at h
 unfold ZA
 cases hp:s.ptr with
 |none=>rw [hp] at h;exact js h
 |some p=>
  rw [hp] at h
  simp only at h⊢
  split at h
  ·rename_i tid vs hl
   split at h
   ·rename_i hc
    simp only [Af] at hc
    obtain ⟨h1,h2⟩:=hc
    have h1:tid=p.1:=Jl h1
    have h2:=Jl h2
    subst h1
    obtain ⟨cs,h3,h4⟩:=Cg.1 h
    obtain ⟨h5,h6⟩:=cW vs s.ins h4
    exact ⟨vs,cs,hl,h2,h3,h5,js h6⟩
   ·exact h.elim
  ·exact h.elim
theorem MT {s:MSpec} {fn:Func} {x:Ins.den s.ins} {P:CKs.den s.outs×IOs.den s.ins->Prop} (h:fnMW T Γ s fn x P):Agl T Γ s fn x P:=by
 unfold fnMW at h
 split at h
 ·cases h
 rename_i hlen
 obtain ⟨c,h1,h2⟩:=Cg.1 h
 refine ⟨hlen,c,h1,(qH c _ _ (λt b h=>by cases h) h2).mono λe st ⟨w,h4,h5,h6⟩=>?_⟩
 subst h4
 cases e with
 |normal=>exact ⟨λid hh=>(by cases hh),ry h6⟩
 |ret=>exact ⟨λid hh=>(by cases hh),ry h6⟩
 |exit id=>cases h6
theorem Ca.ofW {P:Program} (hT:Eb P T) (Pl:Kj P Γ) (hm:P.follows .mixedOrders=true) {f:FuncId} {fn:Func} (hf:P.funcs[f]?=some fn) (hn:(fn.name== "runtime.NumGoroutine")=false)
  (hb:fn.body.isNone=false) (s:MSpec) (h: ∀x y,s.fn x=some y->fnMW T Γ s fn x (λz=>z=y)):Ca P f s:=
 ⟨bS hf hn hb,λw S π us x r o g vs h1 hg h2 h3 hS h4 h5=>wN hT Pl hm hf s w S π us x r o g vs h1 hg h2 h3 hS h4 (MT (h x (r,o) h5))⟩
theorem Sound.ofW {P:Program} (hT:Eb P T) (Pl:Kj P Γ) (hm:P.follows .mixedOrders=true) {f:FuncId} {fn:Func} (hf:P.funcs[f]?=some fn) (hn:(fn.name== "runtime.NumGoroutine")=false)
  (hb:fn.body.isNone=false) (s:Spec) (h: ∀x y,s.fn x=some y->fnW T Γ s fn x (λz=>z=y)):Sound P f s:=
 Ace hT Pl hm hf hn hb s λx y hx=>UN (h x y hx)
end
end Go.Proofs.YtfolipnappekaaaGreat
