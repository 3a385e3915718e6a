/-
  Part 34 of the proof that the statement FnExactSearchDepth holds.
-/
import Derived.Test.YtfolipnappekaaaGreatCSearchDepth32
namespace Go.Proofs.YtfolipnappekaaaGreat
open Go.RowKit
theorem Uk {B:List (Nat×Nat×Nat)} {H:List (Nat×OB)} : ∀ {l:List AV} {K:Prop},bx B H l K-> ∀c∈l,c.lk=true
 | [],_,_,c,hc=>by cases hc
 |d::l,K,h,c,hc=>by
  simp only [bx] at h
  cases d with
  |Mq l'=>exact h.elim
  | «at»a=>
   rcases Be.1 hc with rfl|hc
   ·rfl
   ·have h':bx B H l K:=by
     cases a with
     |own k o n=>exact h.2.2
     |_=>exact h
    exact Uk h' c hc
  |bz _ _ _=>
   rcases Be.1 hc with rfl|hc
   ·rfl
   ·exact Uk h c hc
  |agg cs=>
   rcases Be.1 hc with rfl|hc
   ·rfl
   ·have: ∀(cs:List AC) (Q:Prop),dC B H cs Q->Q:=by
     intro cs
     induction cs with
     |nil=>exact λQ h=>h
     |cons a cs ih=>
      intro Q h
      have h2:dC B H cs Q:=by
       cases a with
       |own k o n=>exact h.2.2
       |_=>exact h
      exact ih Q h2
    exact Uk (this cs _ h) c hc
theorem mf: ∀(f:List Bool) (l:List AV),(∀c∈l,c.lk=true)-> ∀c∈Vh f l,c.lk=true
 | [],l,h=>by simpa [Vh] using h
 |true::f,[],h=>by simp [Vh] at h⊢
 |false::f,[],h=>by simp [Vh] at h⊢
 |true::f,a::l,h=>by
  intro c hc
  simp only [Vh,Be] at hc
  rcases hc with rfl|hc
  ·rfl
  ·exact mf f l (λc hc=>h c (As _ hc)) c hc
 |false::f,a::l,h=>by
  intro c hc
  simp only [Vh,Be] at hc
  rcases hc with rfl|hc
  ·exact h c (by simp)
  ·exact mf f l (λc hc=>h c (As _ hc)) c hc
theorem UK (f:AC->AC) (H:List (Nat×OB)) (l:Nat):lenOf (H.map λp=>(p.1,p.2.map f)) l=lenOf H l:=by
 unfold lenOf
 rw [Ou]
 cases Au H l with
 |none=>rfl
 |some b=>cases b<;>rfl
theorem KW (f g:AC->AC) (c:AV):(c.map f).map g=c.map λa=>g (f a):=by
 cases c<;>simp [AV.map]
theorem NM (f g:AC->AC) (c:OB):(c.map f).map g=c.map λa=>g (f a):=by
 cases c<;>simp [OB.map]
theorem GQ (s:St) (f g:AC->AC):(s.Kr f).Kr g=s.Kr λa=>g (f a):=by
 simp [St.Kr,List.map_map,Function.comp_def,KW,NM]
theorem GD (f:AC->AC) (H:List (Nat×OB)) (l:Nat): ∀(B:List (Nat×Nat×Nat)),UI B (H.map λp=>(p.1,p.2.map f)) l=UI B H l
 | []=>UK f H l
 |(k,o,n)::r=>by simp only [UI];rw [GD f H l r]
theorem KG (B:List (Nat×Nat×Nat)) (s:St):(s.Kr Ta).whole B=s.whole B:=by
 unfold St.whole
 rw [GQ]
 congr 1
 funext a
 cases a with
 |own l off len=>simp only [Ta,fP,St.Kr,GD]
 |_=>rfl
theorem KF {B:List (Nat×Nat×Nat)} {s t:St} (h:s.Kr Ta=t.Kr Ta):s.whole B=t.whole B:=by rw [<-KG B s,h,KG]
theorem pF (f:AC->AC): ∀(fx:List Bool) (a b:List AV),(Wk fx a b).map (·.map f)=Wk fx (a.map (·.map f)) (b.map (·.map f))
 | [],_,_=>by simp [Wk]
 |_::_,[],_=>by simp [Wk]
 |true::_,_::_,[]=>by simp [Wk]
 |false::_,_::_,[]=>by simp [Wk]
 |true::fx,x::a,y::b=>by simp only [Wk,Ca,pF f fx a b]
 |false::fx,x::a,y::b=>by simp only [Wk,Ca,pF f fx a b]
theorem uy (f:AC->AC) (fx:List Bool) (a b:St):(St.wJ fx a b).Kr f=St.wJ fx (a.Kr f) (b.Kr f):=by
 simp only [St.wJ,St.Kr,pF]
theorem ux (p:Nat->Bool): ∀(i:Nat) (l0 l1:List AV),(∀t,(l0.getD t .undef).Yb=true->p (i+t)=true->l1.getD t .undef=l0.getD t .undef)->
  Wk (Mh p i l0) l0 (Vh (Mh p i l0) l1)=l1
 |_,[],l1,_=>by simp [Mh,Vh,Wk]
 |i,a::r,[],_=>by
  simp only [Mh]
  cases (a.Yb&&p i)<;>simp [Vh,Wk]
 |i,a::r,b::s,h=>by
  have hr:=ux p (i+1) r s λt h1 h2=>by
   have:=h (t+1) (by simpa using h1) (by rw [show i+(t+1)=i+1+t by omega];exact h2)
   simpa using this
  simp only [Mh]
  cases hc:(a.Yb&&p i) with
  |false=>simp only [Vh,Wk];rw [hr]
  |true=>
   simp only [Vh,Wk]
   rw [hr]
   simp only [Af] at hc
   have:=h 0 (by simpa using hc.1) hc.2
   simp only [Xl] at this
   rw [this]
theorem ff: ∀(f:List Bool) (l:List AV),(Vh f l).length=l.length
 | [],l=>by simp [Vh]
 |true::f,[]=>by simp [Vh]
 |false::f,[]=>by simp [Vh]
 |true::f,a::l=>by simp [Vh,ff f l]
 |false::f,a::l=>by simp [Vh,ff f l]
theorem gE: ∀(l:List AV) {R:Type} (v:ru l R),(Wu l v).1.length=l.length
 | [],_,_=>rfl
 |c::l,_,v=>by simp [Wu,gE l]
theorem yy (p:Nat->Bool): ∀(i:Nat) (l0 l:List AV) (t:Nat),l.length=l0.length->(l0.getD t .undef).Yb=true->p (i+t)=true->(Wk (Mh p i l0) l0 l).getD t .undef=l0.getD t .undef
 |_,[],_,t,_,h,_=>by simp [AV.Yb] at h
 |i,a::r,[],_,h,_,_=>by simp at h
 |i,a::r,b::s,0,_,h1,h2=>by
  have:(a.Yb&&p i)=true:=by
   simp only [Af]
   exact ⟨by simpa using h1,h2⟩
  simp only [Mh,this,Wk,Xl]
 |i,a::r,b::s,t+1,hl,h1,h2=>by
  have hr:=yy p (i+1) r s t (by simpa using hl) (by simpa using h1) (by rw [show i+1+t=i+(t+1) by omega];exact h2)
  simp only [Mh]
  cases (a.Yb&&p i)<;>simpa only [Wk,Nk] using hr
theorem kO {B:List (Nat×Nat×Nat)} {H:List (Nat×OB)} {c:AC} {K:Prop} (h:zd B H c K):fP B H c=c/\K:=by
 cases c with
 |own l off len=>obtain ⟨h1,h2,h3⟩:=h;exact ⟨by rw [h1,h2];rfl,h3⟩
 |_=>exact ⟨rfl,h⟩
theorem bE {B:List (Nat×Nat×Nat)} {H:List (Nat×OB)} : ∀ {l:List AC} {K:Prop},dC B H l K->l.map (fP B H)=l/\K
 | [],_,h=>⟨rfl,h⟩
 |c::l,_,h=>by
  obtain ⟨h1,h2⟩:=kO h
  obtain ⟨h3,h4⟩:=bE h2
  exact ⟨by rw [Ca,h1,h3],h4⟩
theorem wc {B:List (Nat×Nat×Nat)} {H:List (Nat×OB)} {c:AV} {K:Prop} (h:QV B H c K):c.map (fP B H)=c/\K:=by
 cases c with
 | «at»a=>obtain ⟨h1,h2⟩:=kO h;exact ⟨by rw [AV.map,h1],h2⟩
 |agg cs=>obtain ⟨h1,h2⟩:=bE h;exact ⟨by rw [AV.map,h1],h2⟩
 |bz _ _ _=>exact ⟨rfl,h⟩
 |Mq l=>exact h.elim
theorem gF {B:List (Nat×Nat×Nat)} {H:List (Nat×OB)} : ∀ {l:List AV} {K:Prop},bx B H l K->l.map (·.map (fP B H))=l/\K
 | [],_,h=>⟨rfl,h⟩
 |c::l,_,h=>by
  obtain ⟨h1,h2⟩:=wc h
  obtain ⟨h3,h4⟩:=gF h2
  exact ⟨by rw [Ca,h1,h3],h4⟩
theorem Ng {B:List (Nat×Nat×Nat)} {H:List (Nat×OB)} : ∀ {l:List (Nat×OB)} {K:Prop},jS B H l K->l.map (λp=>(p.1,p.2.map (fP B H)))=l/\K
 | [],_,h=>⟨rfl,h⟩
 |(k, .var t vs)::l,_,h=>by
  obtain ⟨h1,h2⟩:=bE h
  obtain ⟨h3,h4⟩:=Ng h2
  exact ⟨by rw [Ca,h3];simp only [OB.map,h1],h4⟩
 |(k, .arr a b c d e)::l,_,h=>by
  obtain ⟨h3,h4⟩:=Ng (l:=l) h
  exact ⟨by rw [Ca,h3];rfl,h4⟩
 |(k, .Gt a b c)::l,_,h=>by
  obtain ⟨h3,h4⟩:=Ng (l:=l) h
  exact ⟨by rw [Ca,h3];rfl,h4⟩
 |(k, .Bm a b c d e)::l,_,h=>by
  obtain ⟨h3,h4⟩:=Ng (l:=l) h
  exact ⟨by rw [Ca,h3];rfl,h4⟩
 |(k, .Vs a b)::l,_,h=>by
  obtain ⟨h3,h4⟩:=Ng (l:=l) h
  exact ⟨by rw [Ca,h3];rfl,h4⟩
theorem lv {B:List (Nat×Nat×Nat)} {s:St} {K:Prop} (h:BY B s K):s.whole B=s/\K:=by
 obtain ⟨h1,h2⟩:=gF h
 obtain ⟨h3,h4⟩:=Ng h2
 exact ⟨by unfold St.whole St.Kr;rw [h1,h3],h4⟩
theorem ie (live:List Nat): ∀(i:Nat) (l:List AV) (t:Nat),i+t∉live->(Kc live i l).getD t .undef= .undef
 |_,[],_,_=>rfl
 |i,v::r,0,h=>by simp [Kc];intro hn;exact absurd hn h
 |i,v::r,t+1,h=>by
  simp only [Kc,Nk]
  exact ie live (i+1) r t (by rw [show i+1+t=i+(t+1) by omega];exact h)
theorem gg: ∀(l:List Nat) (st:St) (t:Nat),st.get t= .undef->(dP l st).get t= .undef
 | [],_,_,h=>h
 |a::r,st,t,h=>gg r _ t (by
  show (st.tmps.map (·.map (Cu a))).getD t .undef= .undef
  rw [Vb (Cu a) rfl,show st.tmps.getD t .undef= .undef from h]
  rfl)
theorem BE (l k:Nat) (st:St) (t:Nat) (h:st.get t= .undef):(st.rename l k).get t= .undef:=by
 unfold St.rename
 split
 ·split
  ·show (st.tmps.map (·.map (Vj l k))).getD t .undef= .undef
   rw [Vb (Vj l k) rfl,show st.tmps.getD t .undef= .undef from h]
   rfl
  ·exact h
 ·exact h
theorem eh: ∀(n i:Nat) (st:St) (t:Nat),st.get t= .undef->(Mm n i st).get t= .undef
 |0,_,_,_,h=>h
 |n+1,i,st,t,h=>by
  simp only [Mm]
  refine eh n (i+1) _ t ?_
  split
  ·split
   ·split
    ·exact h
    ·exact BE _ _ _ t h
   ·exact h
  ·exact h
theorem AY (st:St) (d:Nat) (v:AV) (t:Nat) (Ik:t≠d) (h:st.get t= .undef):(st.put (some d) v).get t= .undef:=by rw [bM _ _ Ik];exact h
theorem uL (k:Nat) (st:St) (t:Nat) (h:st.get t= .undef):(bY k st).get t= .undef:=by
 unfold bY
 split
 ·rename_i l off len hg
  split
  ·split
   ·refine AY _ _ _ _ (λe=>by subst e;rw [hg] at h;cases h) ?_
    show (st.tmps.map (·.map (Cu l))).getD t .undef= .undef
    rw [Vb (Cu l) rfl,show st.tmps.getD t .undef= .undef from h]
    rfl
   ·exact h
  ·exact h
 ·exact h
theorem mj (c:Nat) (st:St) (t:Nat) (h:st.get t= .undef):(Qa c st).get t= .undef:=by
 unfold Qa
 split
 ·split
  ·rename_i l off len hc
   split
   ·split
    ·split
     ·show (st.tmps.map (·.map (Cu l))).getD t .undef= .undef
      rw [Vb (Cu l) rfl,show st.tmps.getD t .undef= .undef from h]
      rfl
     ·exact h
    ·exact h
   ·exact h
  ·exact h
 ·exact h
theorem cP (live:List Nat): ∀(n i:Nat) (st:St) (t:Nat),st.get t= .undef->(Pp live n i st).get t= .undef
 |0,_,_,_,h=>h
 |n+1,i,st,t,h=>by
  simp only [Pp]
  refine cP live n (i+1) _ t ?_
  split
  ·exact mj _ _ _ h
  ·exact h
theorem gw (live:List Nat): ∀(n i:Nat) (st:St) (t:Nat),st.get t= .undef->(Ow live n i st).get t= .undef
 |0,_,st,t,h=>cP live 16 0 st t h
 |n+1,i,st,t,h=>by
  simp only [Ow]
  refine gw live n (i+1) _ t ?_
  split
  ·exact uL _ _ _ h
  ·exact h
theorem LN {live:List Nat} {st:St} {t:Nat} (h:((st.clean live).get t).Yb=true):t∈live:=by
 refine Cc λhn=>?_
 have:(st.clean live).get t= .undef:=by
  have key: ∀s:St,s.get t= .undef->(if live.contains cQ then Mm s.tmps.length 0 s else s).get t= .undef:=by
   intro s hs
   split
   ·exact eh _ _ s t hs
   ·exact hs
  unfold St.clean
  have Aae: ∀s:St,s.get t= .undef->(if live.any (λt=>Nat.ble Ub t) then s.Ip live else s).get t= .undef:=by
   intro s hs
   split<;>exact hs
  have Aaf: ∀s:St,s.get t= .undef->(if live.any (λt=>Nat.ble Rv t&&Nat.blt t cQ) then Ow live s.tmps.length 0 s else s).get t= .undef:=by
   intro s hs
   split
   ·exact gw _ _ _ s t hs
   ·exact hs
  refine Aae _ (key _ (Aaf _ (gg _ _ t ?_)))
  exact ie live 0 st.tmps t (by simpa using hn)
 rw [this] at h
 cases h
theorem ub {c:AV} (h:c.Yb=true): ∃fr τ,∃x:τ.den,c= .at (.data fr τ x):=by
 unfold AV.Yb at h
 split at h
 ·exact ⟨_,_,_,rfl⟩
 ·cases h
theorem WH {live:Nat->List Nat} {c:Code} {t:Nat} (h:stays live c t=true):t∉writes c/\bQ live c t=true:=by
 unfold stays at h
 simpa using h
section
variable {T:Tab} {Γ:Env} {live:Nat->List Nat}
theorem Of.keeps {c:Code} {st:St} {Q:Le->St->Prop} (h:Of T Γ live c st Q):Of T Γ live c st (λe s=>Q e s/\Im (λt=>t∉writes c/\bQ live c t=true) st s):=by
 exact OT h st _ Cp.rfl'.on λt ht=>ht
def wsQ (Q:Le->WS->Prop) (e:Le) (s:St):Prop:= ∃w':WS,w'.st=s/\w'.OK/\Q e w'
theorem GM {c:Code} (ih: ∀(w:WS) (Q:Le->WS->Prop),w.OK->dH T Γ live c w Q->Of T Γ live c w.st (wsQ Q)) {w:WS} {Q:Le->WS->Prop} (h:dH T Γ live (.loop c) w Q):
  Of T Γ live (.loop c) w.st (wsQ Q):=by
 simp only [dH,TO,lV] at h
 obtain ⟨hw0,I,μ,h0,hs⟩:=lv h
 have Au: ∀(t:Nat),((w.st.clean (live (Ep c))).get t).Yb=true->stays live c t=true-> ∀v,((St.wJ (Mh (stays live c) 0 (w.st.clean (live (Ep c))).tmps) (w.st.clean (live (Ep c))) (jq ((w.st.clean (live (Ep c))).mask (Mh (stays live c) 0 (w.st.clean (live (Ep c))).tmps)) v)).whole (ah T.parts (w.st.clean (live (Ep c))).tmps)).get t=(w.st.clean (live (Ep c))).get t:=by
  intro t h1 h2 v
  have h3:=yy (stays live c) 0 (w.st.clean (live (Ep c))).tmps (jq ((w.st.clean (live (Ep c))).mask (Mh (stays live c) 0 (w.st.clean (live (Ep c))).tmps)) v).tmps t
   ((gE _ _).trans (ff _ _)) h1 (by simpa using h2)
  obtain ⟨fr,τ,x,hx⟩:=ub h1
  refine (Pj _ _ rfl λ_ _ _=>rfl) t fr τ x ?_|>.trans hx.symm
  exact h3.trans hx
 have hmk: ∀(s1:St),(∀t,((w.st.clean (live (Ep c))).get t).Yb=true->stays live c t=true->s1.get t=(w.st.clean (live (Ep c))).get t)->s1.whole (ah T.parts (w.st.clean (live (Ep c))).tmps)=s1-> ∀v,jr ((w.st.clean (live (Ep c))).mask (Mh (stays live c) 0 (w.st.clean (live (Ep c))).tmps)) (s1.mask (Mh (stays live c) 0 (w.st.clean (live (Ep c))).tmps))=some v->
   s1=(St.wJ (Mh (stays live c) 0 (w.st.clean (live (Ep c))).tmps) (w.st.clean (live (Ep c))) (jq ((w.st.clean (live (Ep c))).mask (Mh (stays live c) 0 (w.st.clean (live (Ep c))).tmps)) v)).whole (ah T.parts (w.st.clean (live (Ep c))).tmps):=by
  intro s1 hf hwh v hv
  have h1:=js hv
  have h2:St.wJ (Mh (stays live c) 0 (w.st.clean (live (Ep c))).tmps) (w.st.clean (live (Ep c))) (s1.mask (Mh (stays live c) 0 (w.st.clean (live (Ep c))).tmps))=s1:=by
   simp only [St.wJ,St.mask]
   rw [ux (stays live c) 0 (w.st.clean (live (Ep c))).tmps s1.tmps λt h3 h4=>hf t h3 (by simpa using h4)]
  have h3:(St.wJ (Mh (stays live c) 0 (w.st.clean (live (Ep c))).tmps) (w.st.clean (live (Ep c))) (jq ((w.st.clean (live (Ep c))).mask (Mh (stays live c) 0 (w.st.clean (live (Ep c))).tmps)) v)).whole (ah T.parts (w.st.clean (live (Ep c))).tmps)=s1.whole (ah T.parts (w.st.clean (live (Ep c))).tmps):=by
   refine KF ?_
   rw [uy,h1,<-uy,h2]
  rw [h3,hwh]
 refine VQ (λv=>(St.wJ (Mh (stays live c) 0 (w.st.clean (live (Ep c))).tmps) (w.st.clean (live (Ep c))) (jq ((w.st.clean (live (Ep c))).mask (Mh (stays live c) 0 (w.st.clean (live (Ep c))).tmps)) v)).whole (ah T.parts (w.st.clean (live (Ep c))).tmps)) I μ _ h0 (hmk _ (λ_ _ _=>rfl) hw0 _ (rh _ (mf _ _ (Uk h)))) ?_
 intro a ha
 refine (Of.keeps (ih ⟨[],_⟩ _ (λt b h=>by cases h) (hs a ha))).mono ?_
 intro e s hQ
 obtain ⟨⟨w',h1,h2,h3⟩,hk⟩:=hQ
 subst h1
 cases e with
 |normal=>
  obtain ⟨h4,h5⟩:=lv h3
  obtain ⟨v',h6,h7,h8⟩:=Ce.1 h5
  refine ⟨v',hmk _ (λt hd ht=>?_) h4 _ h6,h7,h8⟩
  obtain ⟨fr,τ,x,hx⟩:=ub hd
  rw [hx]
  exact ld (live (Ep c)) w'.st t fr τ x (LN hd) (hk t fr τ x (WH ht) (by rw [Au t hd ht a];exact hx))
 |exit id=>exact ⟨w',rfl,h2,h3⟩
 |ret=>exact ⟨w',rfl,h2,h3⟩
theorem qv: ∀(c:Code) (w:WS) (Q:Le->WS->Prop),w.OK->dH T Γ live c w Q->Of T Γ live c w.st (wsQ Q):=by
 intro c
 induction c with
 |skip=>intro w Q hw h;exact .skip ⟨w,rfl,hw,h⟩
 |label _=>intro w Q hw h;exact .label ⟨w,rfl,hw,h⟩
 |exit _=>intro w Q hw h;exact .exit ⟨w,rfl,hw,h⟩
 |ret=>intro w Q hw h;exact .ret ⟨w,rfl,hw,h⟩
 |region id ops draw=>
  intro w Q hw h
  have hw':WS.OK {w with st:=w.st.mY ops} := λt b ht=>by
   obtain ⟨fr,e⟩:=hw t b ht
   exact ⟨fr,lf ops w.st t fr .bool b e⟩
  exact .region ((wX hw' h).mono λs ⟨w',h1,h2,h3⟩=>⟨w',h1,h2,Xx.1 h3⟩)
 |seq x y ihx ihy=>
  intro w Q hw h
  refine Abi ((ihx w _ hw h).mono λe s hQ=>?_)
  obtain ⟨w',h1,h2,h3⟩:=hQ
  subst h1
  cases e with
  |normal=>exact ihy w' Q h2 h3
  |exit id=>exact ⟨w',rfl,h2,h3⟩
  |ret=>exact ⟨w',rfl,h2,h3⟩
 |cond c x y ihx ihy=>
  intro w Q hw h
  obtain ⟨fr,b,w',h1,h2,h3,h4⟩:=xL hw h
  refine VP h1 (λhb=>?_) (λhb=>?_)
  ·subst hb;rw [<-h2];exact ihx w' Q h3 h4
  ·subst hb;rw [<-h2];exact ihy w' Q h3 h4
 |block id c ih=>
  intro w Q hw h
  refine OS ((ih w _ hw h).mono λe s hQ=>?_)
  obtain ⟨w',h1,h2,h3⟩:=hQ
  subst h1
  cases e with
  |normal=>exact ⟨w',rfl,h2,h3⟩
  |ret=>exact ⟨w',rfl,h2,h3⟩
  |exit UD=>
   simp only at h3
   simp only [yf]
   split at h3
   ·rename_i hi;rw [Ab hi];exact ⟨w',rfl,h2,h3⟩
   ·rename_i hi;rw [Ag hi];exact ⟨w',rfl,h2,h3⟩
 |loop c ih=>intro w Q hw h;exact GM ih h
 |_=>intro w Q hw h;exact absurd h (by simp [dH])
theorem tq {s:Spec} {fn:Func} {P:s.res.den->Prop} {st:St} (h:Ahx T s fn P st): ∃fr y,nk T s fn st=some (fr,y)/\(fr||!s.fresh)=true/\P y:=by
 obtain ⟨p,h1,h2⟩:=Ce.1 h
 split at h2
 ·rename_i hf;exact ⟨p.1,p.2,h1,hf,h2⟩
 ·cases h2
theorem TN {s:Spec} {fn:Func} {x:s.arg.den} {P:s.res.den->Prop} (h:fnW T Γ s fn x P):XY T Γ s fn x P:=by
 unfold fnW at h
 obtain ⟨c,h1,h2⟩:=Ce.1 h
 refine ⟨c,h1,(qv c _ _ (λt b h=>by cases h) h2).mono λe st ⟨w,h4,h5,h6⟩=>?_⟩
 subst h4
 cases e with
 |normal=>exact ⟨λid hh=>(by cases hh),tq h6⟩
 |ret=>exact ⟨λid hh=>(by cases hh),tq h6⟩
 |exit id=>cases h6
theorem cM {st:St} {K:Prop} : ∀(vs:List AC) (cs:List (Bool×CK)),iT st K vs cs->iS st vs cs/\K
 | [],cs,h=>⟨by simp [iS],by simpa [iT] using h⟩
 |a::vs,[],h=>⟨by cases a<;>simp [iS],by cases a<;>simpa [iT] using h⟩
 |a::vs,(false,c)::r,h=>by
  have h:iT st K vs r:=by cases a<;>simpa only [iT] using h
  obtain ⟨h1,h2⟩:=cM vs r h
  exact ⟨by cases a<;>simpa only [iS] using h1,h2⟩
 |a::vs,(true,c)::r,h=>by
  cases a with
  |own l off len=>
   simp only [iT] at h
   split at h
   ·rename_i hl
    obtain ⟨h1,h2⟩:=cM vs r h.2
    refine ⟨?_,h2⟩
    simp only [iS,hl]
    exact ⟨h.1,h1⟩
   ·rename_i hl
    obtain ⟨h1,h2⟩:=cM vs r h.2
    refine ⟨?_,h2⟩
    simp only [iS,hl]
    exact ⟨h.1,h1⟩
   ·exact h.elim
  |_=>exact ⟨by simp [iS],by simpa [iT] using h⟩
theorem fj {st:St} : ∀(cs:List CK) (as:List AC) (K:CKs.den cs->List Nat->Prop),pE st cs as K-> ∃x ls,Vi st cs as=some (x,ls)/\K x ls
 | [],[],K,h=>⟨(),[],rfl,h⟩
 | [],_::_,_,h=>h.elim
 |c::r,[],K,h=>by cases c<;>exact h.elim
 |c::r,a::as,K,h=>by
  have w9:Ht (kJ st c a) (λp=>pE st r as λy t=>K (p.1,y) (p.2++t))-> ∃x ls,Vi st (c::r) (a::as)=some (x,ls)/\K x ls:= λh=>by
   obtain ⟨p,h1,h2⟩:=Ce.1 h
   obtain ⟨y,t,h3,h4⟩:=fj r as _ h2
   exact ⟨_,_,by simp only [Vi,h1,h3],h4⟩
  cases c with
  |Bm e te kp=>
   cases a with
   |own l off len=>
    simp only [pE] at h
    split at h
    ·rename_i hl
     split at h
     ·rename_i hc
      obtain ⟨⟨h1,h2⟩,h⟩:=h
      obtain ⟨y,t,h3,h4⟩:=fj r as _ h
      exact ⟨_,_,by simp only [Vi,kJ,hl];rw [Iy ⟨hc.1,hc.2,h1,h2⟩];simp only [h3];rfl,h4⟩
     ·exact h.elim
    ·exact h.elim
   |_=>exact w9 h
  |_=>exact w9 h
theorem nJ {st:St} {n:Nat} {as:List AC} {K:Prop} : ∀(ks:List (Nat×Nat)),zS st n as ks K->yk st n as ks/\K
 | [],h=>⟨trivial,h⟩
 |(k,j)::r,h=>by
  simp only [zS] at h
  split at h
  ·rename_i l off len ha
   split at h
   ·rename_i p hl
    split at h
    ·rename_i hc
     simp only [Af] at hc
     obtain ⟨h1,h2⟩:=nJ r h.2
     refine ⟨?_,h2⟩
     simp only [yk,ha,hl]
     exact ⟨⟨Jl hc.1,h.1,hc.2⟩,h1⟩
    ·exact h.elim
   ·exact h.elim
  ·exact h.elim
theorem jf {s:MSpec} {fn:Func} {x:Ins.den s.ins} {st:St} {cs:List AC} {P:CKs.den s.outs×IOs.den s.ins->Prop} (h:uQ T s fn x st cs P):ki T s fn x st cs P:=by
 obtain ⟨l,h1,h⟩:=Ce.1 h
 obtain ⟨⟨as,ml⟩,h2,h⟩:=Ce.1 h
 obtain ⟨r,ls,h3,h⟩:=fj _ _ _ h
 obtain ⟨o,h4,h⟩:=Ce.1 h
 split at h
 ·rename_i hc
  obtain ⟨h5,h6⟩:=nJ _ h
  unfold ki
  simp only [h1,h2,h3,h4]
  exact ⟨hc,h5,h6⟩
 ·exact h.elim
theorem r7 {s:MSpec} {fn:Func} {x:Ins.den s.ins} {st:St} {P:CKs.den s.outs×IOs.den s.ins->Prop} (h:SK T s fn x st P):XX T s fn x st P:=by
 unfold SK at h
 unfold XX
 cases hp:s.ptr with
 |none=>rw [hp] at h;exact jf h
 |some p=>
  rw [hp] at h
  simp only at h⊢
  split at h
  ·rename_i tid vs hl
   split at h
   ·rename_i hc
    simp only [Af] at hc
    obtain ⟨h1,h2⟩:=hc
    have h1:tid=p.1:=Jl h1
    have h2:=Jl h2
    subst h1
    obtain ⟨cs,h3,h4⟩:=Ce.1 h
    obtain ⟨h5,h6⟩:=cM vs s.ins h4
    exact ⟨vs,cs,hl,h2,h3,h5,jf h6⟩
   ·exact h.elim
  ·exact h.elim
theorem LZ {s:MSpec} {fn:Func} {x:Ins.den s.ins} {P:CKs.den s.outs×IOs.den s.ins->Prop} (h:fnMW T Γ s fn x P):Afu T Γ s fn x P:=by
 unfold fnMW at h
 split at h
 ·cases h
 rename_i hlen
 obtain ⟨c,h1,h2⟩:=Ce.1 h
 refine ⟨hlen,c,h1,(qv c _ _ (λt b h=>by cases h) h2).mono λe st ⟨w,h4,h5,h6⟩=>?_⟩
 subst h4
 cases e with
 |normal=>exact ⟨λid hh=>(by cases hh),r7 h6⟩
 |ret=>exact ⟨λid hh=>(by cases hh),r7 h6⟩
 |exit id=>cases h6
theorem By.ofW {P:Program} (hT:Dz P T) (Pg:Ki P Γ) (hm:P.follows .mixedOrders=true) {f:FuncId} {fn:Func} (hf:P.funcs[f]?=some fn) (hn:(fn.name== "runtime.NumGoroutine")=false)
  (hb:fn.body.isNone=false) (s:MSpec) (h: ∀x y,s.fn x=some y->fnMW T Γ s fn x (λz=>z=y)):By P f s:=
 ⟨bG hf hn hb,λw S π us x r o g vs h1 hg h2 h3 hS h4 h5=>wk hT Pg hm hf s w S π us x r o g vs h1 hg h2 h3 hS h4 (LZ (h x (r,o) h5))⟩
theorem Sound.ofW {P:Program} (hT:Dz P T) (Pg:Ki P Γ) (hm:P.follows .mixedOrders=true) {f:FuncId} {fn:Func} (hf:P.funcs[f]?=some fn) (hn:(fn.name== "runtime.NumGoroutine")=false)
  (hb:fn.body.isNone=false) (s:Spec) (h: ∀x y,s.fn x=some y->fnW T Γ s fn x (λz=>z=y)):Sound P f s:=
 Abk hT Pg hm hf hn hb s λx y hx=>TN (h x y hx)
end
end Go.Proofs.YtfolipnappekaaaGreat
