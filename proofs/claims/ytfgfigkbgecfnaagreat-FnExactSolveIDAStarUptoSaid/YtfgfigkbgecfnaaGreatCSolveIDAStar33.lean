/-
  Part 34 of the proof that the statement FnExactSolveIDAStar holds.
-/
import Derived.Test.YtfgfigkbgecfnaaGreatCSolveIDAStar32
namespace Go.Proofs.YtfgfigkbgecfnaaGreat
open Go.RowKit
theorem Vg {B:List (Nat×Nat×Nat)} {H:List (Nat×OB)} : ∀ {l:List AV} {K:Prop},cd B H l K-> ∀c∈l,c.mj=true
 | [],_,_,c,hc=>by cases hc
 |d::l,K,h,c,hc=>by
  simp only [cd] at h
  cases d with
  |Mn l'=>exact h.elim
  | «at»a=>
   rcases Be.1 hc with rfl|hc
   ·rfl
   ·have h':cd B H l K:=by
     cases a with
     |own k o n=>exact h.2.2
     |_=>exact h
    exact Vg h' c hc
  |cf _ _ _=>
   rcases Be.1 hc with rfl|hc
   ·rfl
   ·exact Vg h c hc
  |agg cs=>
   rcases Be.1 hc with rfl|hc
   ·rfl
   ·have: ∀(cs:List AC) (Q:Prop),eG B H cs Q->Q:=by
     intro cs
     induction cs with
     |nil=>exact λQ h=>h
     |cons a cs ih=>
      intro Q h
      have h2:eG B H cs Q:=by
       cases a with
       |own k o n=>exact h.2.2
       |_=>exact h
      exact ih Q h2
    exact Vg (this cs _ h) c hc
theorem nt: ∀(f:List Bool) (l:List AV),(∀c∈l,c.mj=true)-> ∀c∈Ur f l,c.mj=true
 | [],l,h=>by simpa [Ur] using h
 |true::f,[],h=>by simp [Ur] at h⊢
 |false::f,[],h=>by simp [Ur] at h⊢
 |true::f,a::l,h=>by
  intro c hc
  simp only [Ur,Be] at hc
  rcases hc with rfl|hc
  ·rfl
  ·exact nt f l (λc hc=>h c (Ar _ hc)) c hc
 |false::f,a::l,h=>by
  intro c hc
  simp only [Ur,Be] at hc
  rcases hc with rfl|hc
  ·exact h c (by simp)
  ·exact nt f l (λc hc=>h c (Ar _ hc)) c hc
theorem YH (f:AC->AC) (H:List (Nat×OB)) (l:Nat):lenOf (H.map λp=>(p.1,p.2.map f)) l=lenOf H l:=by
 unfold lenOf
 rw [Pg]
 cases Au H l with
 |none=>rfl
 |some b=>cases b<;>rfl
theorem ON (f g:AC->AC) (c:AV):(c.map f).map g=c.map λa=>g (f a):=by
 cases c<;>simp [AV.map]
theorem RG (f g:AC->AC) (c:OB):(c.map f).map g=c.map λa=>g (f a):=by
 cases c<;>simp [OB.map]
theorem JW (s:St) (f g:AC->AC):(s.Lb f).Lb g=s.Lb λa=>g (f a):=by
 simp [St.Lb,List.map_map,Function.comp_def,ON,RG]
theorem JJ (f:AC->AC) (H:List (Nat×OB)) (l:Nat): ∀(B:List (Nat×Nat×Nat)),YF B (H.map λp=>(p.1,p.2.map f)) l=YF B H l
 | []=>YH f H l
 |(k,o,n)::r=>by simp only [YF];rw [JJ f H l r]
theorem NV (B:List (Nat×Nat×Nat)) (s:St):(s.Lb Tu).whole B=s.whole B:=by
 unfold St.whole
 rw [JW]
 congr 1
 funext a
 cases a with
 |own l off len=>simp only [Tu,gY,St.Lb,JJ]
 |_=>rfl
theorem NU {B:List (Nat×Nat×Nat)} {s t:St} (h:s.Lb Tu=t.Lb Tu):s.whole B=t.whole B:=by rw [<-NV B s,h,NV]
theorem qK (f:AC->AC): ∀(fx:List Bool) (a b:List AV),(Wd fx a b).map (·.map f)=Wd fx (a.map (·.map f)) (b.map (·.map f))
 | [],_,_=>by simp [Wd]
 |_::_,[],_=>by simp [Wd]
 |true::_,_::_,[]=>by simp [Wd]
 |false::_,_::_,[]=>by simp [Wd]
 |true::fx,x::a,y::b=>by simp only [Wd,Ce,qK f fx a b]
 |false::fx,x::a,y::b=>by simp only [Wd,Ce,qK f fx a b]
theorem we (f:AC->AC) (fx:List Bool) (a b:St):(St.ye fx a b).Lb f=St.ye fx (a.Lb f) (b.Lb f):=by
 simp only [St.ye,St.Lb,qK]
theorem iI: ∀(l:List AV) {R:Type} (v:sJ l R),(Xs l v).1.length=l.length
 | [],_,_=>rfl
 |c::l,_,v=>by simp [Xs,iI l]
theorem zS (p:Nat->Bool): ∀(i:Nat) (l0 l:List AV) (t:Nat),l.length=l0.length->(l0.getD t .undef).Yz=true->p (i+t)=true->(Wd (Ko p i l0) l0 l).getD t .undef=l0.getD t .undef
 |_,[],_,t,_,h,_=>by simp [AV.Yz] at h
 |i,a::r,[],_,h,_,_=>by simp at h
 |i,a::r,b::s,0,_,h1,h2=>by
  have:(a.Yz&&p i)=true:=by
   simp only [Af]
   exact ⟨by simpa using h1,h2⟩
  simp only [Ko,this,Wd,Yj]
 |i,a::r,b::s,t+1,hl,h1,h2=>by
  have hr:=zS p (i+1) r s t (by simpa using hl) (by simpa using h1) (by rw [show i+1+t=i+(t+1) by omega];exact h2)
  simp only [Ko]
  cases (a.Yz&&p i)<;>simpa only [Wd,Nu] using hr
theorem lQ {B:List (Nat×Nat×Nat)} {H:List (Nat×OB)} {c:AC} {K:Prop} (h:BH B H c K):gY B H c=c/\K:=by
 cases c with
 |own l off len=>obtain ⟨h1,h2,h3⟩:=h;exact ⟨by rw [h1,h2];rfl,h3⟩
 |_=>exact ⟨rfl,h⟩
theorem cn {B:List (Nat×Nat×Nat)} {H:List (Nat×OB)} : ∀ {l:List AC} {K:Prop},eG B H l K->l.map (gY B H)=l/\K
 | [],_,h=>⟨rfl,h⟩
 |c::l,_,h=>by
  obtain ⟨h1,h2⟩:=lQ h
  obtain ⟨h3,h4⟩:=cn h2
  exact ⟨by rw [Ce,h1,h3],h4⟩
theorem xH {B:List (Nat×Nat×Nat)} {H:List (Nat×OB)} {c:AV} {K:Prop} (h:UN B H c K):c.map (gY B H)=c/\K:=by
 cases c with
 | «at»a=>obtain ⟨h1,h2⟩:=lQ h;exact ⟨by rw [AV.map,h1],h2⟩
 |agg cs=>obtain ⟨h1,h2⟩:=cn h;exact ⟨by rw [AV.map,h1],h2⟩
 |cf _ _ _=>exact ⟨rfl,h⟩
 |Mn l=>exact h.elim
theorem iJ {B:List (Nat×Nat×Nat)} {H:List (Nat×OB)} : ∀ {l:List AV} {K:Prop},cd B H l K->l.map (·.map (gY B H))=l/\K
 | [],_,h=>⟨rfl,h⟩
 |c::l,_,h=>by
  obtain ⟨h1,h2⟩:=xH h
  obtain ⟨h3,h4⟩:=iJ h2
  exact ⟨by rw [Ce,h1,h3],h4⟩
theorem No {B:List (Nat×Nat×Nat)} {H:List (Nat×OB)} : ∀ {l:List (Nat×OB)} {K:Prop},kZ B H l K->l.map (λp=>(p.1,p.2.map (gY B H)))=l/\K
 | [],_,h=>⟨rfl,h⟩
 |(k, .var t vs)::l,_,h=>by
  obtain ⟨h1,h2⟩:=cn h
  obtain ⟨h3,h4⟩:=No h2
  exact ⟨by rw [Ce,h3];simp only [OB.map,h1],h4⟩
 |(k, .arr a b c d e)::l,_,h=>by
  obtain ⟨h3,h4⟩:=No (l:=l) h
  exact ⟨by rw [Ce,h3];rfl,h4⟩
 |(k, .Gz a b c)::l,_,h=>by
  obtain ⟨h3,h4⟩:=No (l:=l) h
  exact ⟨by rw [Ce,h3];rfl,h4⟩
 |(k, .Bp a b c d e)::l,_,h=>by
  obtain ⟨h3,h4⟩:=No (l:=l) h
  exact ⟨by rw [Ce,h3];rfl,h4⟩
 |(k, .Wo a b)::l,_,h=>by
  obtain ⟨h3,h4⟩:=No (l:=l) h
  exact ⟨by rw [Ce,h3];rfl,h4⟩
theorem my {B:List (Nat×Nat×Nat)} {s:St} {K:Prop} (h:FA B s K):s.whole B=s/\K:=by
 obtain ⟨h1,h2⟩:=iJ h
 obtain ⟨h3,h4⟩:=No h2
 exact ⟨by unfold St.whole St.Lb;rw [h1,h3],h4⟩
theorem jf (live:List Nat): ∀(i:Nat) (l:List AV) (t:Nat),i+t∉live->(Iq live i l).getD t .undef= .undef
 |_,[],_,_=>rfl
 |i,v::r,0,h=>by simp [Iq];intro hn;exact absurd hn h
 |i,v::r,t+1,h=>by
  simp only [Iq,Nu]
  exact jf live (i+1) r t (by rw [show i+1+t=i+(t+1) by omega];exact h)
theorem im: ∀(l:List Nat) (st:St) (t:Nat),st.get t= .undef->(bT l st).get t= .undef
 | [],_,_,h=>h
 |a::r,st,t,h=>im r _ t (by
  show (st.tmps.map (·.map (Cs a))).getD t .undef= .undef
  rw [Vx (Cs a) rfl,show st.tmps.getD t .undef= .undef from h]
  rfl)
theorem gB (l k:Nat) (st:St) (t:Nat) (h:st.get t= .undef):(st.rename l k).get t= .undef:=by
 unfold St.rename
 split
 ·split
  ·show (st.tmps.map (·.map (We l k))).getD t .undef= .undef
   rw [Vx (We l k) rfl,show st.tmps.getD t .undef= .undef from h]
   rfl
  ·exact h
 ·exact h
theorem fo: ∀(n i:Nat) (st:St) (t:Nat),st.get t= .undef->(Mw n i st).get t= .undef
 |0,_,_,_,h=>h
 |n+1,i,st,t,h=>by
  simp only [Mw]
  refine fo n (i+1) _ t ?_
  split
  ·split
   ·split
    ·exact h
    ·exact gB _ _ _ t h
   ·exact h
  ·exact h
theorem Xk (i:Nat): ∀(vs:List AC) (c:Nat) (st:St) (t:Nat),st.get t= .undef->(Wf i c vs st).get t= .undef
 | [],_,_,_,h=>h
 |v::r,c,st,t,h=>by
  cases v with
  |own m o n=>exact Xk i r (c+1) _ t (gB _ _ _ t h)
  |_=>exact Xk i r (c+1) st t h
theorem fp: ∀(n i:Nat) (st:St) (t:Nat),st.get t= .undef->(renameVars n i st).get t= .undef
 |0,_,_,_,h=>h
 |n+1,i,st,t,h=>by
  simp only [renameVars]
  refine fp n (i+1) _ t ?_
  split
  ·split
   ·split
    ·exact h
    ·exact Xk _ _ _ _ t (gB _ _ _ t h)
   ·exact h
  ·exact h
theorem EC (st:St) (d:Nat) (v:AV) (t:Nat) (Ih:t≠d) (h:st.get t= .undef):(st.put (some d) v).get t= .undef:=by rw [cC _ _ Ih];exact h
theorem wy (k:Nat) (st:St) (t:Nat) (h:st.get t= .undef):(cL k st).get t= .undef:=by
 unfold cL
 split
 ·rename_i l off len hg
  split
  ·split
   ·refine EC _ _ _ _ (λe=>by subst e;rw [hg] at h;cases h) ?_
    show (st.tmps.map (·.map (Cs l))).getD t .undef= .undef
    rw [Vx (Cs l) rfl,show st.tmps.getD t .undef= .undef from h]
    rfl
   ·exact h
  ·exact h
 ·exact h
theorem nA (c:Nat) (st:St) (t:Nat) (h:st.get t= .undef):(Qn c st).get t= .undef:=by
 unfold Qn
 split
 ·split
  ·rename_i l off len hc
   split
   ·split
    ·split
     ·show (st.tmps.map (·.map (Cs l))).getD t .undef= .undef
      rw [Vx (Cs l) rfl,show st.tmps.getD t .undef= .undef from h]
      rfl
     ·exact h
    ·exact h
   ·exact h
  ·exact h
 ·exact h
theorem dH (live:List Nat): ∀(n i:Nat) (st:St) (t:Nat),st.get t= .undef->(Qa live n i st).get t= .undef
 |0,_,_,_,h=>h
 |n+1,i,st,t,h=>by
  simp only [Qa]
  refine dH live n (i+1) _ t ?_
  split
  ·exact nA _ _ _ h
  ·exact h
theorem iA (live:List Nat): ∀(n i:Nat) (st:St) (t:Nat),st.get t= .undef->(Pk live n i st).get t= .undef
 |0,_,st,t,h=>dH live 16 0 st t h
 |n+1,i,st,t,h=>by
  simp only [Pk]
  refine iA live n (i+1) _ t ?_
  split
  ·exact wy _ _ _ h
  ·exact h
theorem PB {live:List Nat} {st:St} {t:Nat} (h:((st.clean live).get t).Yz=true):t∈live:=by
 refine Bw λhn=>?_
 have:(st.clean live).get t= .undef:=by
  have key: ∀s:St,s.get t= .undef->(if live.contains dJ then Mw s.tmps.length 0 s else s).get t= .undef:=by
   intro s hs
   split
   ·exact fo _ _ s t hs
   ·exact hs
  have QQ: ∀s:St,s.get t= .undef->(if live.contains gW then renameVars s.tmps.length 0 s else s).get t= .undef:=by
   intro s hs
   split
   ·exact fp _ _ s t hs
   ·exact hs
  unfold St.clean
  have Adm: ∀s:St,s.get t= .undef->(if live.any (λt=>Nat.ble Uv t) then s.Iv live else s).get t= .undef:=by
   intro s hs
   split<;>exact hs
  have Adn: ∀s:St,s.get t= .undef->(if live.any (λt=>Nat.ble Sr t&&Nat.blt t dJ) then Pk live s.tmps.length 0 s else s).get t= .undef:=by
   intro s hs
   split
   ·exact iA _ _ _ s t hs
   ·exact hs
  refine Adm _ (QQ _ (key _ (Adn _ (im _ _ t ?_))))
  exact jf live 0 st.tmps t (by simpa using hn)
 rw [this] at h
 cases h
theorem vP {c:AV} (h:c.Yz=true): ∃fr τ,∃x:τ.den,c= .at (.data fr τ x):=by
 unfold AV.Yz at h
 split at h
 ·exact ⟨_,_,_,rfl⟩
 ·cases h
theorem Aa6 {live:Nat->List Nat} {c:Code} {t:Nat} (h:stays live c t=true):t∉writes c/\cG live c t=true:=by
 unfold stays at h
 simpa using h
section
variable {T:Tab} {Γ:Env} {live:Nat->List Nat}
theorem Ot.keeps {c:Code} {st:St} {Q:Ls->St->Prop} (h:Ot T Γ live c st Q):Ot T Γ live c st (λe s=>Q e s/\Fz (λt=>t∉writes c/\cG live c t=true) st s):=by
 exact SL h st _ Cj.rfl'.on λt ht=>ht
def wsQ (Q:Ls->WS->Prop) (e:Ls) (s:St):Prop:= ∃w':WS,w'.st=s/\w'.OK/\Q e w'
theorem JR {c:Code} (ih: ∀(w:WS) (Q:Ls->WS->Prop),w.OK->eK T Γ live c w Q->Ot T Γ live c w.st (wsQ Q)) {w:WS} {Q:Ls->WS->Prop} (h:eK T Γ live (.loop c) w Q):
  Ot T Γ live (.loop c) w.st (wsQ Q):=by
 simp only [eK,XL,fY] at h
 obtain ⟨hw0,I,μ,h0,hs⟩:=my h
 have Au: ∀(t:Nat),((w.st.clean (live (Fa c))).get t).Yz=true->stays live c t=true-> ∀v,((St.ye (Ko (stays live c) 0 (w.st.clean (live (Fa c))).tmps) (w.st.clean (live (Fa c))) (kz ((w.st.clean (live (Fa c))).mask (Ko (stays live c) 0 (w.st.clean (live (Fa c))).tmps)) v)).whole (aS T.parts (w.st.clean (live (Fa c))).tmps)).get t=(w.st.clean (live (Fa c))).get t:=by
  intro t h1 h2 v
  have h3:=zS (stays live c) 0 (w.st.clean (live (Fa c))).tmps (kz ((w.st.clean (live (Fa c))).mask (Ko (stays live c) 0 (w.st.clean (live (Fa c))).tmps)) v).tmps t
   ((iI _ _).trans (gq _ _)) h1 (by simpa using h2)
  obtain ⟨fr,τ,x,hx⟩:=vP h1
  refine (Pw _ _ rfl λ_ _ _=>rfl) t fr τ x ?_|>.trans hx.symm
  exact h3.trans hx
 have hmk: ∀(s1:St),(∀t,((w.st.clean (live (Fa c))).get t).Yz=true->stays live c t=true->s1.get t=(w.st.clean (live (Fa c))).get t)->s1.whole (aS T.parts (w.st.clean (live (Fa c))).tmps)=s1-> ∀v,kA ((w.st.clean (live (Fa c))).mask (Ko (stays live c) 0 (w.st.clean (live (Fa c))).tmps)) (s1.mask (Ko (stays live c) 0 (w.st.clean (live (Fa c))).tmps))=some v->
   s1=(St.ye (Ko (stays live c) 0 (w.st.clean (live (Fa c))).tmps) (w.st.clean (live (Fa c))) (kz ((w.st.clean (live (Fa c))).mask (Ko (stays live c) 0 (w.st.clean (live (Fa c))).tmps)) v)).whole (aS T.parts (w.st.clean (live (Fa c))).tmps):=by
  intro s1 hf hwh v hv
  have h1:=kB hv
  have h2:St.ye (Ko (stays live c) 0 (w.st.clean (live (Fa c))).tmps) (w.st.clean (live (Fa c))) (s1.mask (Ko (stays live c) 0 (w.st.clean (live (Fa c))).tmps))=s1:=by
   simp only [St.ye,St.mask]
   rw [ny (stays live c) 0 (w.st.clean (live (Fa c))).tmps s1.tmps λt h3 h4=>hf t h3 (by simpa using h4)]
  have h3:(St.ye (Ko (stays live c) 0 (w.st.clean (live (Fa c))).tmps) (w.st.clean (live (Fa c))) (kz ((w.st.clean (live (Fa c))).mask (Ko (stays live c) 0 (w.st.clean (live (Fa c))).tmps)) v)).whole (aS T.parts (w.st.clean (live (Fa c))).tmps)=s1.whole (aS T.parts (w.st.clean (live (Fa c))).tmps):=by
   refine NU ?_
   rw [we,h1,<-we,h2]
  rw [h3,hwh]
 refine ZQ (λv=>(St.ye (Ko (stays live c) 0 (w.st.clean (live (Fa c))).tmps) (w.st.clean (live (Fa c))) (kz ((w.st.clean (live (Fa c))).mask (Ko (stays live c) 0 (w.st.clean (live (Fa c))).tmps)) v)).whole (aS T.parts (w.st.clean (live (Fa c))).tmps)) I μ _ h0 (hmk _ (λ_ _ _=>rfl) hw0 _ (sD _ (nt _ _ (Vg h)))) ?_
 intro a ha
 refine (Ot.keeps (ih ⟨[],_⟩ _ (λt b h=>by cases h) (hs a ha))).mono ?_
 intro e s hQ
 obtain ⟨⟨w',h1,h2,h3⟩,hk⟩:=hQ
 subst h1
 cases e with
 |normal=>
  obtain ⟨h4,h5⟩:=my h3
  obtain ⟨v',h6,h7,h8⟩:=Cg.1 h5
  refine ⟨v',hmk _ (λt hd ht=>?_) h4 _ h6,h7,h8⟩
  obtain ⟨fr,τ,x,hx⟩:=vP hd
  rw [hx]
  exact me (live (Fa c)) w'.st t fr τ x (PB hd) (hk t fr τ x (Aa6 ht) (by rw [Au t hd ht a];exact hx))
 |exit id=>exact ⟨w',rfl,h2,h3⟩
 |ret=>exact ⟨w',rfl,h2,h3⟩
theorem rM: ∀(c:Code) (w:WS) (Q:Ls->WS->Prop),w.OK->eK T Γ live c w Q->Ot T Γ live c w.st (wsQ Q):=by
 intro c
 induction c with
 |skip=>intro w Q hw h;exact .skip ⟨w,rfl,hw,h⟩
 |label _=>intro w Q hw h;exact .label ⟨w,rfl,hw,h⟩
 |exit _=>intro w Q hw h;exact .exit ⟨w,rfl,hw,h⟩
 |ret=>intro w Q hw h;exact .ret ⟨w,rfl,hw,h⟩
 |region id ops draw=>
  intro w Q hw h
  have hw':WS.OK {w with st:=w.st.o6 ops} := λt b ht=>by
   obtain ⟨fr,e⟩:=hw t b ht
   exact ⟨fr,mf ops w.st t fr .bool b e⟩
  exact .region ((yu hw' h).mono λs ⟨w',h1,h2,h3⟩=>⟨w',h1,h2,Oi.1 h3⟩)
 |seq x y ihx ihy=>
  intro w Q hw h
  refine Aer ((ihx w _ hw h).mono λe s hQ=>?_)
  obtain ⟨w',h1,h2,h3⟩:=hQ
  subst h1
  cases e with
  |normal=>exact ihy w' Q h2 h3
  |exit id=>exact ⟨w',rfl,h2,h3⟩
  |ret=>exact ⟨w',rfl,h2,h3⟩
 |cond c x y ihx ihy=>
  intro w Q hw h
  obtain ⟨fr,b,w',h1,h2,h3,h4⟩:=zh hw h
  refine ZP h1 (λhb=>?_) (λhb=>?_)
  ·subst hb;rw [<-h2];exact ihx w' Q h3 h4
  ·subst hb;rw [<-h2];exact ihy w' Q h3 h4
 |block id c ih=>
  intro w Q hw h
  refine SK ((ih w _ hw h).mono λe s hQ=>?_)
  obtain ⟨w',h1,h2,h3⟩:=hQ
  subst h1
  cases e with
  |normal=>exact ⟨w',rfl,h2,h3⟩
  |ret=>exact ⟨w',rfl,h2,h3⟩
  |exit YA=>
   simp only at h3
   simp only [zC]
   split at h3
   ·rename_i hi;rw [Ab hi];exact ⟨w',rfl,h2,h3⟩
   ·rename_i hi;rw [Ag hi];exact ⟨w',rfl,h2,h3⟩
 |loop c ih=>intro w Q hw h;exact JR ih h
 |_=>intro w Q hw h;exact absurd h (by simp [eK])
theorem uP {s:Spec} {fn:Func} {P:s.res.den->Prop} {st:St} (h:Al6 T s fn P st): ∃fr y,om T s fn st=some (fr,y)/\(fr||!s.fresh)=true/\P y:=by
 obtain ⟨p,h1,h2⟩:=Cg.1 h
 split at h2
 ·rename_i hf;exact ⟨p.1,p.2,h1,hf,h2⟩
 ·cases h2
theorem XK {s:Spec} {fn:Func} {x:s.arg.den} {P:s.res.den->Prop} (h:fnW T Γ s fn x P):Abh T Γ s fn x P:=by
 unfold fnW at h
 obtain ⟨c,h1,h2⟩:=Cg.1 h
 refine ⟨c,h1,(rM c _ _ (λt b h=>by cases h) h2).mono λe st ⟨w,h4,h5,h6⟩=>?_⟩
 subst h4
 cases e with
 |normal=>exact ⟨λid hh=>(by cases hh),uP h6⟩
 |ret=>exact ⟨λid hh=>(by cases hh),uP h6⟩
 |exit id=>cases h6
theorem dC {st:St} {K:Prop} : ∀(vs:List AC) (cs:List (Bool×CK)),jM st K vs cs->jL st vs cs/\K
 | [],cs,h=>⟨by simp [jL],by simpa [jM] using h⟩
 |a::vs,[],h=>⟨by cases a<;>simp [jL],by cases a<;>simpa [jM] using h⟩
 |a::vs,(false,c)::r,h=>by
  have h:jM st K vs r:=by cases a<;>simpa only [jM] using h
  obtain ⟨h1,h2⟩:=dC vs r h
  exact ⟨by cases a<;>simpa only [jL] using h1,h2⟩
 |a::vs,(true,c)::r,h=>by
  cases a with
  |own l off len=>
   simp only [jM] at h
   split at h
   ·rename_i hl
    obtain ⟨h1,h2⟩:=dC vs r h.2
    refine ⟨?_,h2⟩
    simp only [jL,hl]
    exact ⟨h.1,h1⟩
   ·rename_i hl
    obtain ⟨h1,h2⟩:=dC vs r h.2
    refine ⟨?_,h2⟩
    simp only [jL,hl]
    exact ⟨h.1,h1⟩
   ·exact h.elim
  |_=>exact ⟨by simp [jL],by simpa [jM] using h⟩
theorem gx {st:St} : ∀(cs:List CK) (as:List AC) (K:CKs.den cs->List Nat->Prop),qJ st cs as K-> ∃x ls,Wc st cs as=some (x,ls)/\K x ls
 | [],[],K,h=>⟨(),[],rfl,h⟩
 | [],_::_,_,h=>h.elim
 |c::r,[],K,h=>by cases c<;>exact h.elim
 |c::r,a::as,K,h=>by
  have xE:Hy (lK st c a) (λp=>qJ st r as λy t=>K (p.1,y) (p.2++t))-> ∃x ls,Wc st (c::r) (a::as)=some (x,ls)/\K x ls:= λh=>by
   obtain ⟨p,h1,h2⟩:=Cg.1 h
   obtain ⟨y,t,h3,h4⟩:=gx r as _ h2
   exact ⟨_,_,by simp only [Wc,h1,h3],h4⟩
  cases c with
  |Bp e te kp=>
   cases a with
   |own l off len=>
    simp only [qJ] at h
    split at h
    ·rename_i hl
     split at h
     ·rename_i hc
      obtain ⟨⟨h1,h2⟩,h⟩:=h
      obtain ⟨y,t,h3,h4⟩:=gx r as _ h
      exact ⟨_,_,by simp only [Wc,lK,hl];rw [Jf ⟨hc.1,hc.2,h1,h2⟩];simp only [h3];rfl,h4⟩
     ·exact h.elim
    ·exact h.elim
   |_=>exact xE h
  |_=>exact xE h
theorem oO {st:St} {n:Nat} {as:List AC} {K:Prop} : ∀(ks:List (Nat×Nat)),CV st n as ks K->zH st n as ks/\K
 | [],h=>⟨trivial,h⟩
 |(k,j)::r,h=>by
  simp only [CV] at h
  split at h
  ·rename_i l off len ha
   split at h
   ·rename_i p hl
    split at h
    ·rename_i hc
     simp only [Af] at hc
     obtain ⟨h1,h2⟩:=oO r h.2
     refine ⟨?_,h2⟩
     simp only [zH,ha,hl]
     exact ⟨⟨Jr hc.1,h.1,hc.2⟩,h1⟩
    ·exact h.elim
   ·exact h.elim
  ·exact h.elim
theorem ki {s:MSpec} {fn:Func} {x:Ins.den s.ins} {st:St} {cs:List AC} {P:CKs.den s.outs×IOs.den s.ins->Prop} (h:wD T s fn x st cs P):lp T s fn x st cs P:=by
 obtain ⟨l,h1,h⟩:=Cg.1 h
 obtain ⟨⟨as,ml⟩,h2,h⟩:=Cg.1 h
 obtain ⟨r,ls,h3,h⟩:=gx _ _ _ h
 obtain ⟨o,h4,h⟩:=Cg.1 h
 split at h
 ·rename_i hc
  obtain ⟨h5,h6⟩:=oO _ h
  unfold lp
  simp only [h1,h2,h3,h4]
  exact ⟨hc,h5,h6⟩
 ·exact h.elim
theorem sv {s:MSpec} {fn:Func} {x:Ins.den s.ins} {st:St} {P:CKs.den s.outs×IOs.den s.ins->Prop} (h:WB T s fn x st P):Abg T s fn x st P:=by
 unfold WB at h
 unfold Abg
 cases hp:s.ptr with
 |none=>rw [hp] at h;exact ki h
 |some p=>
  rw [hp] at h
  simp only at h⊢
  split at h
  ·rename_i tid vs hl
   split at h
   ·rename_i hc
    simp only [Af] at hc
    obtain ⟨h1,h2⟩:=hc
    have h1:tid=p.1:=Jr h1
    have h2:=Jr h2
    subst h1
    obtain ⟨cs,h3,h4⟩:=Cg.1 h
    obtain ⟨h5,h6⟩:=dC vs s.ins h4
    exact ⟨vs,cs,hl,h2,h3,h5,ki h6⟩
   ·exact h.elim
  ·exact h.elim
theorem PQ {s:MSpec} {fn:Func} {x:Ins.den s.ins} {P:CKs.den s.outs×IOs.den s.ins->Prop} (h:fnMW T Γ s fn x P):Aj6 T Γ s fn x P:=by
 unfold fnMW at h
 split at h
 ·cases h
 rename_i hlen
 obtain ⟨c,h1,h2⟩:=Cg.1 h
 refine ⟨hlen,c,h1,(rM c _ _ (λt b h=>by cases h) h2).mono λe st ⟨w,h4,h5,h6⟩=>?_⟩
 subst h4
 cases e with
 |normal=>exact ⟨λid hh=>(by cases hh),sv h6⟩
 |ret=>exact ⟨λid hh=>(by cases hh),sv h6⟩
 |exit id=>cases h6
theorem Cb.ofW {P:Program} (hT:Ed P T) (Ph:Kk P Γ) (hm:P.follows .mixedOrders=true) {f:FuncId} {fn:Func} (hf:P.funcs[f]?=some fn) (hn:(fn.name== "runtime.NumGoroutine")=false)
  (hb:fn.body.isNone=false) (s:MSpec) (h: ∀x y,s.fn x=some y->fnMW T Γ s fn x (λz=>z=y)):Cb P f s:=
 ⟨cq hf hn hb,λw S π us x r o g vs h1 hg h2 h3 hS h4 h5=>xM hT Ph hm hf s w S π us x r o g vs h1 hg h2 h3 hS h4 (PQ (h x (r,o) h5))⟩
theorem Sound.ofW {P:Program} (hT:Ed P T) (Ph:Kk P Γ) (hm:P.follows .mixedOrders=true) {f:FuncId} {fn:Func} (hf:P.funcs[f]?=some fn) (hn:(fn.name== "runtime.NumGoroutine")=false)
  (hb:fn.body.isNone=false) (s:Spec) (h: ∀x y,s.fn x=some y->fnW T Γ s fn x (λz=>z=y)):Sound P f s:=
 Aet hT Ph hm hf hn hb s λx y hx=>XK (h x y hx)
end
end Go.Proofs.YtfgfigkbgecfnaaGreat
