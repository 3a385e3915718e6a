/-
  Part 34 of the proof that the statement FnPatterns holds.
-/
import Derived.Test.YtkkdpknjohcekaaGreatCFPatterns32
namespace Go.Proofs.YtkkdpknjohcekaaGreat
open Go.RowKit
theorem Uq {B:List (Nat×Nat×Nat)} {H:List (Nat×OB)} : ∀ {l:List AV} {K:Prop},bu B H l K-> ∀c∈l,c.ld=true
 | [],_,_,c,hc=>by cases hc
 |d::l,K,h,c,hc=>by
  simp only [bu] at h
  cases d with
  |Mt l'=>exact h.elim
  | «at»a=>
   rcases Be.1 hc with rfl|hc
   ·rfl
   ·have h':bu B H l K:=by
     cases a with
     |own k o n=>exact h.2.2
     |_=>exact h
    exact Uq h' c hc
  |bw _ _ _=>
   rcases Be.1 hc with rfl|hc
   ·rfl
   ·exact Uq h c hc
  |agg cs=>
   rcases Be.1 hc with rfl|hc
   ·rfl
   ·have: ∀(cs:List AC) (Q:Prop),dQ B H cs Q->Q:=by
     intro cs
     induction cs with
     |nil=>exact λQ h=>h
     |cons a cs ih=>
      intro Q h
      have h2:dQ B H cs Q:=by
       cases a with
       |own k o n=>exact h.2.2
       |_=>exact h
      exact ih Q h2
    exact Uq (this cs _ h) c hc
theorem mg: ∀(f:List Bool) (l:List AV),(∀c∈l,c.ld=true)-> ∀c∈Ua f l,c.ld=true
 | [],l,h=>by simpa [Ua] using h
 |true::f,[],h=>by simp [Ua] at h⊢
 |false::f,[],h=>by simp [Ua] at h⊢
 |true::f,a::l,h=>by
  intro c hc
  simp only [Ua,Be] at hc
  rcases hc with rfl|hc
  ·rfl
  ·exact mg f l (λc hc=>h c (Aq _ hc)) c hc
 |false::f,a::l,h=>by
  intro c hc
  simp only [Ua,Be] at hc
  rcases hc with rfl|hc
  ·exact h c (by simp)
  ·exact mg f l (λc hc=>h c (Aq _ hc)) c hc
theorem UN (f:AC->AC) (H:List (Nat×OB)) (l:Nat):lenOf (H.map λp=>(p.1,p.2.map f)) l=lenOf H l:=by
 unfold lenOf
 rw [Oq]
 cases At H l with
 |none=>rfl
 |some b=>cases b<;>rfl
theorem KL (f g:AC->AC) (c:AV):(c.map f).map g=c.map λa=>g (f a):=by
 cases c<;>simp [AV.map]
theorem NA (f g:AC->AC) (c:OB):(c.map f).map g=c.map λa=>g (f a):=by
 cases c<;>simp [OB.map]
theorem GO (s:St) (f g:AC->AC):(s.Lb f).Lb g=s.Lb λa=>g (f a):=by
 simp [St.Lb,List.map_map,Function.comp_def,KL,NA]
theorem GD (f:AC->AC) (H:List (Nat×OB)) (l:Nat): ∀(B:List (Nat×Nat×Nat)),UL B (H.map λp=>(p.1,p.2.map f)) l=UL B H l
 | []=>UN f H l
 |(k,o,n)::r=>by simp only [UL];rw [GD f H l r]
theorem JV (B:List (Nat×Nat×Nat)) (s:St):(s.Lb Tc).whole B=s.whole B:=by
 unfold St.whole
 rw [GO]
 congr 1
 funext a
 cases a with
 |own l off len=>simp only [Tc,gi,St.Lb,GD]
 |_=>rfl
theorem JT {B:List (Nat×Nat×Nat)} {s t:St} (h:s.Lb Tc=t.Lb Tc):s.whole B=t.whole B:=by rw [<-JV B s,h,JV]
theorem pt (f:AC->AC): ∀(fx:List Bool) (a b:List AV),(Vm fx a b).map (·.map f)=Vm fx (a.map (·.map f)) (b.map (·.map f))
 | [],_,_=>by simp [Vm]
 |_::_,[],_=>by simp [Vm]
 |true::_,_::_,[]=>by simp [Vm]
 |false::_,_::_,[]=>by simp [Vm]
 |true::fx,x::a,y::b=>by simp only [Vm,Bu,pt f fx a b]
 |false::fx,x::a,y::b=>by simp only [Vm,Bu,pt f fx a b]
theorem u9 (f:AC->AC) (fx:List Bool) (a b:St):(St.wj fx a b).Lb f=St.wj fx (a.Lb f) (b.Lb f):=by
 simp only [St.wj,St.Lb,pt]
theorem gP: ∀(l:List AV) {R:Type} (v:qU l R),(Xa l v).1.length=l.length
 | [],_,_=>rfl
 |c::l,_,v=>by simp [Xa,gP l]
theorem y0 (p:Nat->Bool): ∀(i:Nat) (l0 l:List AV) (t:Nat),l.length=l0.length->(l0.getD t .undef).Yj=true->p (i+t)=true->(Vm (Kp p i l0) l0 l).getD t .undef=l0.getD t .undef
 |_,[],_,t,_,h,_=>by simp [AV.Yj] at h
 |i,a::r,[],_,h,_,_=>by simp at h
 |i,a::r,b::s,0,_,h1,h2=>by
  have:(a.Yj&&p i)=true:=by
   simp only [Ag]
   exact ⟨by simpa using h1,h2⟩
  simp only [Kp,this,Vm,Xr]
 |i,a::r,b::s,t+1,hl,h1,h2=>by
  have hr:=y0 p (i+1) r s t (by simpa using hl) (by simpa using h1) (by rw [show i+1+t=i+(t+1) by omega];exact h2)
  simp only [Kp]
  cases (a.Yj&&p i)<;>simpa only [Vm,Nm] using hr
theorem kL {B:List (Nat×Nat×Nat)} {H:List (Nat×OB)} {c:AC} {K:Prop} (h:yP B H c K):gi B H c=c/\K:=by
 cases c with
 |own l off len=>obtain ⟨h1,h2,h3⟩:=h;exact ⟨by rw [h1,h2];rfl,h3⟩
 |_=>exact ⟨rfl,h⟩
theorem bD {B:List (Nat×Nat×Nat)} {H:List (Nat×OB)} : ∀ {l:List AC} {K:Prop},dQ B H l K->l.map (gi B H)=l/\K
 | [],_,h=>⟨rfl,h⟩
 |c::l,_,h=>by
  obtain ⟨h1,h2⟩:=kL h
  obtain ⟨h3,h4⟩:=bD h2
  exact ⟨by rw [Bu,h1,h3],h4⟩
theorem vP {B:List (Nat×Nat×Nat)} {H:List (Nat×OB)} {c:AV} {K:Prop} (h:QS B H c K):c.map (gi B H)=c/\K:=by
 cases c with
 | «at»a=>obtain ⟨h1,h2⟩:=kL h;exact ⟨by rw [AV.map,h1],h2⟩
 |agg cs=>obtain ⟨h1,h2⟩:=bD h;exact ⟨by rw [AV.map,h1],h2⟩
 |bw _ _ _=>exact ⟨rfl,h⟩
 |Mt l=>exact h.elim
theorem gQ {B:List (Nat×Nat×Nat)} {H:List (Nat×OB)} : ∀ {l:List AV} {K:Prop},bu B H l K->l.map (·.map (gi B H))=l/\K
 | [],_,h=>⟨rfl,h⟩
 |c::l,_,h=>by
  obtain ⟨h1,h2⟩:=vP h
  obtain ⟨h3,h4⟩:=gQ h2
  exact ⟨by rw [Bu,h1,h3],h4⟩
theorem Nh {B:List (Nat×Nat×Nat)} {H:List (Nat×OB)} : ∀ {l:List (Nat×OB)} {K:Prop},jW B H l K->l.map (λp=>(p.1,p.2.map (gi B H)))=l/\K
 | [],_,h=>⟨rfl,h⟩
 |(k, .var t vs)::l,_,h=>by
  obtain ⟨h1,h2⟩:=bD h
  obtain ⟨h3,h4⟩:=Nh h2
  exact ⟨by rw [Bu,h3];simp only [OB.map,h1],h4⟩
 |(k, .arr a b c d e)::l,_,h=>by
  obtain ⟨h3,h4⟩:=Nh (l:=l) h
  exact ⟨by rw [Bu,h3];rfl,h4⟩
 |(k, .Hf a b c)::l,_,h=>by
  obtain ⟨h3,h4⟩:=Nh (l:=l) h
  exact ⟨by rw [Bu,h3];rfl,h4⟩
 |(k, .Bl a b c d e)::l,_,h=>by
  obtain ⟨h3,h4⟩:=Nh (l:=l) h
  exact ⟨by rw [Bu,h3];rfl,h4⟩
 |(k, .Vw a b)::l,_,h=>by
  obtain ⟨h3,h4⟩:=Nh (l:=l) h
  exact ⟨by rw [Bu,h3];rfl,h4⟩
theorem ll {B:List (Nat×Nat×Nat)} {s:St} {K:Prop} (h:BR B s K):s.whole B=s/\K:=by
 obtain ⟨h1,h2⟩:=gQ h
 obtain ⟨h3,h4⟩:=Nh h2
 exact ⟨by unfold St.whole St.Lb;rw [h1,h3],h4⟩
theorem iC (live:List Nat): ∀(i:Nat) (l:List AV) (t:Nat),i+t∉live->(Iq live i l).getD t .undef= .undef
 |_,[],_,_=>rfl
 |i,v::r,0,h=>by simp [Iq];intro hn;exact absurd hn h
 |i,v::r,t+1,h=>by
  simp only [Iq,Nm]
  exact iC live (i+1) r t (by rw [show i+1+t=i+(t+1) by omega];exact h)
theorem gz: ∀(l:List Nat) (st:St) (t:Nat),st.get t= .undef->(bf l st).get t= .undef
 | [],_,_,h=>h
 |a::r,st,t,h=>gz r _ t (by
  show (st.tmps.map (·.map (Cq a))).getD t .undef= .undef
  rw [Vg (Cq a) rfl,show st.tmps.getD t .undef= .undef from h]
  rfl)
theorem AX (l k:Nat) (st:St) (t:Nat) (h:st.get t= .undef):(st.rename l k).get t= .undef:=by
 unfold St.rename
 split
 ·split
  ·show (st.tmps.map (·.map (Vn l k))).getD t .undef= .undef
   rw [Vg (Vn l k) rfl,show st.tmps.getD t .undef= .undef from h]
   rfl
  ·exact h
 ·exact h
theorem eI: ∀(n i:Nat) (st:St) (t:Nat),st.get t= .undef->(Mr n i st).get t= .undef
 |0,_,_,_,h=>h
 |n+1,i,st,t,h=>by
  simp only [Mr]
  refine eI n (i+1) _ t ?_
  split
  ·split
   ·split
    ·exact h
    ·exact AX _ _ _ t h
   ·exact h
  ·exact h
theorem AR (st:St) (d:Nat) (v:AV) (t:Nat) (Iz:t≠d) (h:st.get t= .undef):(st.put (some d) v).get t= .undef:=by rw [bO _ _ Iz];exact h
theorem um (k:Nat) (st:St) (t:Nat) (h:st.get t= .undef):(c5 k st).get t= .undef:=by
 unfold c5
 split
 ·rename_i l off len hg
  split
  ·split
   ·refine AR _ _ _ _ (λe=>by subst e;rw [hg] at h;cases h) ?_
    show (st.tmps.map (·.map (Cq l))).getD t .undef= .undef
    rw [Vg (Cq l) rfl,show st.tmps.getD t .undef= .undef from h]
    rfl
   ·exact h
  ·exact h
 ·exact h
theorem mr (c:Nat) (st:St) (t:Nat) (h:st.get t= .undef):(Pz c st).get t= .undef:=by
 unfold Pz
 split
 ·split
  ·rename_i l off len hc
   split
   ·split
    ·split
     ·show (st.tmps.map (·.map (Cq l))).getD t .undef= .undef
      rw [Vg (Cq l) rfl,show st.tmps.getD t .undef= .undef from h]
      rfl
     ·exact h
    ·exact h
   ·exact h
  ·exact h
 ·exact h
theorem cX (live:List Nat): ∀(n i:Nat) (st:St) (t:Nat),st.get t= .undef->(Pn live n i st).get t= .undef
 |0,_,_,_,h=>h
 |n+1,i,st,t,h=>by
  simp only [Pn]
  refine cX live n (i+1) _ t ?_
  split
  ·exact mr _ _ _ h
  ·exact h
theorem gI (live:List Nat): ∀(n i:Nat) (st:St) (t:Nat),st.get t= .undef->(Ov live n i st).get t= .undef
 |0,_,st,t,h=>cX live 16 0 st t h
 |n+1,i,st,t,h=>by
  simp only [Ov]
  refine gI live n (i+1) _ t ?_
  split
  ·exact um _ _ _ h
  ·exact h
theorem KX {live:List Nat} {st:St} {t:Nat} (h:((st.clean live).get t).Yj=true):t∈live:=by
 refine Bk λhn=>?_
 have:(st.clean live).get t= .undef:=by
  have key: ∀s:St,s.get t= .undef->(if live.contains cY then Mr s.tmps.length 0 s else s).get t= .undef:=by
   intro s hs
   split
   ·exact eI _ _ s t hs
   ·exact hs
  unfold St.clean
  have Aam: ∀s:St,s.get t= .undef->(if live.any (λt=>Nat.ble Ue t) then s.It live else s).get t= .undef:=by
   intro s hs
   split<;>exact hs
  have Aan: ∀s:St,s.get t= .undef->(if live.any (λt=>Nat.ble Sa t&&Nat.blt t cY) then Ov live s.tmps.length 0 s else s).get t= .undef:=by
   intro s hs
   split
   ·exact gI _ _ _ s t hs
   ·exact hs
  refine Aam _ (key _ (Aan _ (gz _ _ t ?_)))
  exact iC live 0 st.tmps t (by simpa using hn)
 rw [this] at h
 cases h
theorem tC {c:AV} (h:c.Yj=true): ∃fr τ,∃x:τ.den,c= .at (.data fr τ x):=by
 unfold AV.Yj at h
 split at h
 ·exact ⟨_,_,_,rfl⟩
 ·cases h
theorem WU {live:Nat->List Nat} {c:Code} {t:Nat} (h:stays live c t=true):t∉writes c/\bT live c t=true:=by
 unfold stays at h
 simpa using h
section
variable {T:Tab} {Γ:Env} {live:Nat->List Nat}
theorem Of.keeps {c:Code} {st:St} {Q:Lp->St->Prop} (h:Of T Γ live c st Q):Of T Γ live c st (λe s=>Q e s/\Fw (λt=>t∉writes c/\bT live c t=true) st s):=by
 exact OM h st _ Cn.rfl'.on λt ht=>ht
def wsQ (Q:Lp->WS->Prop) (e:Lp) (s:St):Prop:= ∃w':WS,w'.st=s/\w'.OK/\Q e w'
theorem GL {c:Code} (ih: ∀(w:WS) (Q:Lp->WS->Prop),w.OK->dW T Γ live c w Q->Of T Γ live c w.st (wsQ Q)) {w:WS} {Q:Lp->WS->Prop} (h:dW T Γ live (.loop c) w Q):
  Of T Γ live (.loop c) w.st (wsQ Q):=by
 simp only [dW,TV,fo] at h
 obtain ⟨hw0,I,μ,h0,hs⟩:=ll h
 have At: ∀(t:Nat),((w.st.clean (live (Fe c))).get t).Yj=true->stays live c t=true-> ∀v,((St.wj (Kp (stays live c) 0 (w.st.clean (live (Fe c))).tmps) (w.st.clean (live (Fe c))) (jy ((w.st.clean (live (Fe c))).mask (Kp (stays live c) 0 (w.st.clean (live (Fe c))).tmps)) v)).whole (aj T.parts (w.st.clean (live (Fe c))).tmps)).get t=(w.st.clean (live (Fe c))).get t:=by
  intro t h1 h2 v
  have h3:=y0 (stays live c) 0 (w.st.clean (live (Fe c))).tmps (jy ((w.st.clean (live (Fe c))).mask (Kp (stays live c) 0 (w.st.clean (live (Fe c))).tmps)) v).tmps t
   ((gP _ _).trans (fD _ _)) h1 (by simpa using h2)
  obtain ⟨fr,τ,x,hx⟩:=tC h1
  refine (Pj _ _ rfl λ_ _ _=>rfl) t fr τ x ?_|>.trans hx.symm
  exact h3.trans hx
 have hmk: ∀(s1:St),(∀t,((w.st.clean (live (Fe c))).get t).Yj=true->stays live c t=true->s1.get t=(w.st.clean (live (Fe c))).get t)->s1.whole (aj T.parts (w.st.clean (live (Fe c))).tmps)=s1-> ∀v,jz ((w.st.clean (live (Fe c))).mask (Kp (stays live c) 0 (w.st.clean (live (Fe c))).tmps)) (s1.mask (Kp (stays live c) 0 (w.st.clean (live (Fe c))).tmps))=some v->
   s1=(St.wj (Kp (stays live c) 0 (w.st.clean (live (Fe c))).tmps) (w.st.clean (live (Fe c))) (jy ((w.st.clean (live (Fe c))).mask (Kp (stays live c) 0 (w.st.clean (live (Fe c))).tmps)) v)).whole (aj T.parts (w.st.clean (live (Fe c))).tmps):=by
  intro s1 hf hwh v hv
  have h1:=jA hv
  have h2:St.wj (Kp (stays live c) 0 (w.st.clean (live (Fe c))).tmps) (w.st.clean (live (Fe c))) (s1.mask (Kp (stays live c) 0 (w.st.clean (live (Fe c))).tmps))=s1:=by
   simp only [St.wj,St.mask]
   rw [mo (stays live c) 0 (w.st.clean (live (Fe c))).tmps s1.tmps λt h3 h4=>hf t h3 (by simpa using h4)]
  have h3:(St.wj (Kp (stays live c) 0 (w.st.clean (live (Fe c))).tmps) (w.st.clean (live (Fe c))) (jy ((w.st.clean (live (Fe c))).mask (Kp (stays live c) 0 (w.st.clean (live (Fe c))).tmps)) v)).whole (aj T.parts (w.st.clean (live (Fe c))).tmps)=s1.whole (aj T.parts (w.st.clean (live (Fe c))).tmps):=by
   refine JT ?_
   rw [u9,h1,<-u9,h2]
  rw [h3,hwh]
 refine VY (λv=>(St.wj (Kp (stays live c) 0 (w.st.clean (live (Fe c))).tmps) (w.st.clean (live (Fe c))) (jy ((w.st.clean (live (Fe c))).mask (Kp (stays live c) 0 (w.st.clean (live (Fe c))).tmps)) v)).whole (aj T.parts (w.st.clean (live (Fe c))).tmps)) I μ _ h0 (hmk _ (λ_ _ _=>rfl) hw0 _ (qQ _ (mg _ _ (Uq h)))) ?_
 intro a ha
 refine (Of.keeps (ih ⟨[],_⟩ _ (λt b h=>by cases h) (hs a ha))).mono ?_
 intro e s hQ
 obtain ⟨⟨w',h1,h2,h3⟩,hk⟩:=hQ
 subst h1
 cases e with
 |normal=>
  obtain ⟨h4,h5⟩:=ll h3
  obtain ⟨v',h6,h7,h8⟩:=Cc.1 h5
  refine ⟨v',hmk _ (λt hd ht=>?_) h4 _ h6,h7,h8⟩
  obtain ⟨fr,τ,x,hx⟩:=tC hd
  rw [hx]
  exact l6 (live (Fe c)) w'.st t fr τ x (KX hd) (hk t fr τ x (WU ht) (by rw [At t hd ht a];exact hx))
 |exit id=>exact ⟨w',rfl,h2,h3⟩
 |ret=>exact ⟨w',rfl,h2,h3⟩
theorem q9: ∀(c:Code) (w:WS) (Q:Lp->WS->Prop),w.OK->dW T Γ live c w Q->Of T Γ live c w.st (wsQ Q):=by
 intro c
 induction c with
 |skip=>intro w Q hw h;exact .skip ⟨w,rfl,hw,h⟩
 |label _=>intro w Q hw h;exact .label ⟨w,rfl,hw,h⟩
 |exit _=>intro w Q hw h;exact .exit ⟨w,rfl,hw,h⟩
 |ret=>intro w Q hw h;exact .ret ⟨w,rfl,hw,h⟩
 |region id ops draw=>
  intro w Q hw h
  have hw':WS.OK {w with st:=w.st.mU ops} := λt b ht=>by
   obtain ⟨fr,e⟩:=hw t b ht
   exact ⟨fr,l7 ops w.st t fr .bool b e⟩
  exact .region ((wF hw' h).mono λs ⟨w',h1,h2,h3⟩=>⟨w',h1,h2,Oa.1 h3⟩)
 |seq x y ihx ihy=>
  intro w Q hw h
  refine Abx ((ihx w _ hw h).mono λe s hQ=>?_)
  obtain ⟨w',h1,h2,h3⟩:=hQ
  subst h1
  cases e with
  |normal=>exact ihy w' Q h2 h3
  |exit id=>exact ⟨w',rfl,h2,h3⟩
  |ret=>exact ⟨w',rfl,h2,h3⟩
 |cond c x y ihx ihy=>
  intro w Q hw h
  obtain ⟨fr,b,w',h1,h2,h3,h4⟩:=xk hw h
  refine VX h1 (λhb=>?_) (λhb=>?_)
  ·subst hb;rw [<-h2];exact ihx w' Q h3 h4
  ·subst hb;rw [<-h2];exact ihy w' Q h3 h4
 |block id c ih=>
  intro w Q hw h
  refine OL ((ih w _ hw h).mono λe s hQ=>?_)
  obtain ⟨w',h1,h2,h3⟩:=hQ
  subst h1
  cases e with
  |normal=>exact ⟨w',rfl,h2,h3⟩
  |ret=>exact ⟨w',rfl,h2,h3⟩
  |exit UG=>
   simp only at h3
   simp only [xF]
   split at h3
   ·rename_i hi;rw [Ab hi];exact ⟨w',rfl,h2,h3⟩
   ·rename_i hi;rw [Ak hi];exact ⟨w',rfl,h2,h3⟩
 |loop c ih=>intro w Q hw h;exact GL ih h
 |_=>intro w Q hw h;exact absurd h (by simp [dW])
theorem sG {s:Spec} {fn:Func} {P:s.res.den->Prop} {st:St} (h:Ai3 T s fn P st): ∃fr y,ni T s fn st=some (fr,y)/\(fr||!s.fresh)=true/\P y:=by
 obtain ⟨p,h1,h2⟩:=Cc.1 h
 split at h2
 ·rename_i hf;exact ⟨p.1,p.2,h1,hf,h2⟩
 ·cases h2
theorem TU {s:Spec} {fn:Func} {x:s.arg.den} {P:s.res.den->Prop} (h:fnW T Γ s fn x P):YM T Γ s fn x P:=by
 unfold fnW at h
 obtain ⟨c,h1,h2⟩:=Cc.1 h
 refine ⟨c,h1,(q9 c _ _ (λt b h=>by cases h) h2).mono λe st ⟨w,h4,h5,h6⟩=>?_⟩
 subst h4
 cases e with
 |normal=>exact ⟨λid hh=>(by cases hh),sG h6⟩
 |ret=>exact ⟨λid hh=>(by cases hh),sG h6⟩
 |exit id=>cases h6
theorem cO {st:St} {K:Prop} : ∀(vs:List AC) (cs:List (Bool×CK)),j4 st K vs cs->j0 st vs cs/\K
 | [],cs,h=>⟨by simp [j0],by simpa [j4] using h⟩
 |a::vs,[],h=>⟨by cases a<;>simp [j0],by cases a<;>simpa [j4] using h⟩
 |a::vs,(false,c)::r,h=>by
  have h:j4 st K vs r:=by cases a<;>simpa only [j4] using h
  obtain ⟨h1,h2⟩:=cO vs r h
  exact ⟨by cases a<;>simpa only [j0] using h1,h2⟩
 |a::vs,(true,c)::r,h=>by
  cases a with
  |own l off len=>
   simp only [j4] at h
   split at h
   ·rename_i hl
    obtain ⟨h1,h2⟩:=cO vs r h.2
    refine ⟨?_,h2⟩
    simp only [j0,hl]
    exact ⟨h.1,h1⟩
   ·rename_i hl
    obtain ⟨h1,h2⟩:=cO vs r h.2
    refine ⟨?_,h2⟩
    simp only [j0,hl]
    exact ⟨h.1,h1⟩
   ·exact h.elim
  |_=>exact ⟨by simp [j0],by simpa [j4] using h⟩
theorem fH {st:St} : ∀(cs:List CK) (as:List AC) (K:CKs.den cs->List Nat->Prop),pq st cs as K-> ∃x ls,Vl st cs as=some (x,ls)/\K x ls
 | [],[],K,h=>⟨(),[],rfl,h⟩
 | [],_::_,_,h=>h.elim
 |c::r,[],K,h=>by cases c<;>exact h.elim
 |c::r,a::as,K,h=>by
  have vM:Ie (kI st c a) (λp=>pq st r as λy t=>K (p.1,y) (p.2++t))-> ∃x ls,Vl st (c::r) (a::as)=some (x,ls)/\K x ls:= λh=>by
   obtain ⟨p,h1,h2⟩:=Cc.1 h
   obtain ⟨y,t,h3,h4⟩:=fH r as _ h2
   exact ⟨_,_,by simp only [Vl,h1,h3],h4⟩
  cases c with
  |Bl e te kp=>
   cases a with
   |own l off len=>
    simp only [pq] at h
    split at h
    ·rename_i hl
     split at h
     ·rename_i hc
      obtain ⟨⟨h1,h2⟩,h⟩:=h
      obtain ⟨y,t,h3,h4⟩:=fH r as _ h
      exact ⟨_,_,by simp only [Vl,kI,hl];rw [Jg ⟨hc.1,hc.2,h1,h2⟩];simp only [h3];rfl,h4⟩
     ·exact h.elim
    ·exact h.elim
   |_=>exact vM h
  |_=>exact vM h
theorem nI {st:St} {n:Nat} {as:List AC} {K:Prop} : ∀(ks:List (Nat×Nat)),zJ st n as ks K->xL st n as ks/\K
 | [],h=>⟨trivial,h⟩
 |(k,j)::r,h=>by
  simp only [zJ] at h
  split at h
  ·rename_i l off len ha
   split at h
   ·rename_i p hl
    split at h
    ·rename_i hc
     simp only [Ag] at hc
     obtain ⟨h1,h2⟩:=nI r h.2
     refine ⟨?_,h2⟩
     simp only [xL,ha,hl]
     exact ⟨⟨Ju hc.1,h.1,hc.2⟩,h1⟩
    ·exact h.elim
   ·exact h.elim
  ·exact h.elim
theorem jn {s:MSpec} {fn:Func} {x:Ins.den s.ins} {st:St} {cs:List AC} {P:CKs.den s.outs×IOs.den s.ins->Prop} (h:uv T s fn x st cs P):km T s fn x st cs P:=by
 obtain ⟨l,h1,h⟩:=Cc.1 h
 obtain ⟨⟨as,ml⟩,h2,h⟩:=Cc.1 h
 obtain ⟨r,ls,h3,h⟩:=fH _ _ _ h
 obtain ⟨o,h4,h⟩:=Cc.1 h
 split at h
 ·rename_i hc
  obtain ⟨h5,h6⟩:=nI _ h
  unfold km
  simp only [h1,h2,h3,h4]
  exact ⟨hc,h5,h6⟩
 ·exact h.elim
theorem qN {s:MSpec} {fn:Func} {x:Ins.den s.ins} {st:St} {P:CKs.den s.outs×IOs.den s.ins->Prop} (h:SN T s fn x st P):YL T s fn x st P:=by
 unfold SN at h
 unfold YL
 cases hp:s.ptr with
 |none=>rw [hp] at h;exact jn h
 |some p=>
  rw [hp] at h
  simp only at h⊢
  split at h
  ·rename_i tid vs hl
   split at h
   ·rename_i hc
    simp only [Ag] at hc
    obtain ⟨h1,h2⟩:=hc
    have h1:tid=p.1:=Ju h1
    have h2:=Ju h2
    subst h1
    obtain ⟨cs,h3,h4⟩:=Cc.1 h
    obtain ⟨h5,h6⟩:=cO vs s.ins h4
    exact ⟨vs,cs,hl,h2,h3,h5,jn h6⟩
   ·exact h.elim
  ·exact h.elim
theorem LL {s:MSpec} {fn:Func} {x:Ins.den s.ins} {P:CKs.den s.outs×IOs.den s.ins->Prop} (h:fnMW T Γ s fn x P):Ag5 T Γ s fn x P:=by
 unfold fnMW at h
 split at h
 ·cases h
 rename_i hlen
 obtain ⟨c,h1,h2⟩:=Cc.1 h
 refine ⟨hlen,c,h1,(q9 c _ _ (λt b h=>by cases h) h2).mono λe st ⟨w,h4,h5,h6⟩=>?_⟩
 subst h4
 cases e with
 |normal=>exact ⟨λid hh=>(by cases hh),qN h6⟩
 |ret=>exact ⟨λid hh=>(by cases hh),qN h6⟩
 |exit id=>cases h6
theorem Cp.ofW {P:Program} (hT:Eb P T) (Ot:Kv P Γ) (hm:P.follows .mixedOrders=true) {f:FuncId} {fn:Func} (hf:P.funcs[f]?=some fn) (hn:(fn.name== "runtime.NumGoroutine")=false)
  (hb:fn.body.isNone=false) (s:MSpec) (h: ∀x y,s.fn x=some y->fnMW T Γ s fn x (λz=>z=y)):Cp P f s:=
 ⟨iz hf hn hb,λw S π us x r o g vs h1 hg h2 h3 hS h4 h5=>vU hT Ot hm hf s w S π us x r o g vs h1 hg h2 h3 hS h4 (LL (h x (r,o) h5))⟩
theorem Sound.ofW {P:Program} (hT:Eb P T) (Ot:Kv P Γ) (hm:P.follows .mixedOrders=true) {f:FuncId} {fn:Func} (hf:P.funcs[f]?=some fn) (hn:(fn.name== "runtime.NumGoroutine")=false)
  (hb:fn.body.isNone=false) (s:Spec) (h: ∀x y,s.fn x=some y->fnW T Γ s fn x (λz=>z=y)):Sound P f s:=
 Abz hT Ot hm hf hn hb s λx y hx=>TU (h x y hx)
end
end Go.Proofs.YtkkdpknjohcekaaGreat
