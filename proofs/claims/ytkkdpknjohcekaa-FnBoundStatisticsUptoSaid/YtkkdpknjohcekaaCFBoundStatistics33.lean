/-
  Part 34 of the proof that the statement FnBoundStatistics holds.
-/
import Derived.Test.YtkkdpknjohcekaaCFBoundStatistics32
namespace Go.Proofs.Ytkkdpknjohcekaa
open Go.RowKit
theorem Uo {B:List (Nat×Nat×Nat)} {H:List (Nat×OB)} : ∀ {l:List AV} {K:Prop},bt B H l K-> ∀c∈l,c.lh=true
 | [],_,_,c,hc=>by cases hc
 |d::l,K,h,c,hc=>by
  simp only [bt] at h
  cases d with
  |Mw l'=>exact h.elim
  | «at»a=>
   rcases Bc.1 hc with rfl|hc
   ·rfl
   ·have h':bt B H l K:=by
     cases a with
     |own k o n=>exact h.2.2
     |_=>exact h
    exact Uo h' c hc
  |bu _ _ _=>
   rcases Bc.1 hc with rfl|hc
   ·rfl
   ·exact Uo h c hc
  |agg cs=>
   rcases Bc.1 hc with rfl|hc
   ·rfl
   ·have: ∀(cs:List AC) (Q:Prop),dJ B H cs Q->Q:=by
     intro cs
     induction cs with
     |nil=>exact λQ h=>h
     |cons a cs ih=>
      intro Q h
      have h2:dJ B H cs Q:=by
       cases a with
       |own k o n=>exact h.2.2
       |_=>exact h
      exact ih Q h2
    exact Uo (this cs _ h) c hc
theorem me: ∀(f:List Bool) (l:List AV),(∀c∈l,c.lh=true)-> ∀c∈Ub f l,c.lh=true
 | [],l,h=>by simpa [Ub] using h
 |true::f,[],h=>by simp [Ub] at h⊢
 |false::f,[],h=>by simp [Ub] at h⊢
 |true::f,a::l,h=>by
  intro c hc
  simp only [Ub,Bc] at hc
  rcases hc with rfl|hc
  ·rfl
  ·exact me f l (λc hc=>h c (Aq _ hc)) c hc
 |false::f,a::l,h=>by
  intro c hc
  simp only [Ub,Bc] at hc
  rcases hc with rfl|hc
  ·exact h c (by simp)
  ·exact me f l (λc hc=>h c (Aq _ hc)) c hc
theorem TD (f:AC->AC) (H:List (Nat×OB)) (l:Nat):lenOf (H.map λp=>(p.1,p.2.map f)) l=lenOf H l:=by
 unfold lenOf
 rw [Oz]
 cases At H l with
 |none=>rfl
 |some b=>cases b<;>rfl
theorem JN (f g:AC->AC) (c:AV):(c.map f).map g=c.map λa=>g (f a):=by
 cases c<;>simp [AV.map]
theorem MD (f g:AC->AC) (c:OB):(c.map f).map g=c.map λa=>g (f a):=by
 cases c<;>simp [OB.map]
theorem FK (s:St) (f g:AC->AC):(s.Lc f).Lc g=s.Lc λa=>g (f a):=by
 simp [St.Lc,List.map_map,Function.comp_def,JN,MD]
theorem EY (f:AC->AC) (H:List (Nat×OB)) (l:Nat): ∀(B:List (Nat×Nat×Nat)),TB B (H.map λp=>(p.1,p.2.map f)) l=TB B H l
 | []=>TD f H l
 |(k,o,n)::r=>by simp only [TB];rw [EY f H l r]
theorem IX (B:List (Nat×Nat×Nat)) (s:St):(s.Lc Tf).whole B=s.whole B:=by
 unfold St.whole
 rw [FK]
 congr 1
 funext a
 cases a with
 |own l off len=>simp only [Tf,fV,St.Lc,EY]
 |_=>rfl
theorem IV {B:List (Nat×Nat×Nat)} {s t:St} (h:s.Lc Tf=t.Lc Tf):s.whole B=t.whole B:=by rw [<-IX B s,h,IX]
theorem pq (f:AC->AC): ∀(fx:List Bool) (a b:List AV),(Vi fx a b).map (·.map f)=Vi fx (a.map (·.map f)) (b.map (·.map f))
 | [],_,_=>by simp [Vi]
 |_::_,[],_=>by simp [Vi]
 |true::_,_::_,[]=>by simp [Vi]
 |false::_,_::_,[]=>by simp [Vi]
 |true::fx,x::a,y::b=>by simp only [Vi,Bm,pq f fx a b]
 |false::fx,x::a,y::b=>by simp only [Vi,Bm,pq f fx a b]
theorem u7 (f:AC->AC) (fx:List Bool) (a b:St):(St.vY fx a b).Lc f=St.vY fx (a.Lc f) (b.Lc f):=by
 simp only [St.vY,St.Lc,pq]
theorem gH: ∀(l:List AV) {R:Type} (v:qV l R),(Xf l v).1.length=l.length
 | [],_,_=>rfl
 |c::l,_,v=>by simp [Xf,gH l]
theorem xI (p:Nat->Bool): ∀(i:Nat) (l0 l:List AV) (t:Nat),l.length=l0.length->(l0.getD t .undef).Yn=true->p (i+t)=true->(Vi (Kr p i l0) l0 l).getD t .undef=l0.getD t .undef
 |_,[],_,t,_,h,_=>by simp [AV.Yn] at h
 |i,a::r,[],_,h,_,_=>by simp at h
 |i,a::r,b::s,0,_,h1,h2=>by
  have:(a.Yn&&p i)=true:=by
   simp only [Af]
   exact ⟨by simpa using h1,h2⟩
  simp only [Kr,this,Vi,Xv]
 |i,a::r,b::s,t+1,hl,h1,h2=>by
  have hr:=xI p (i+1) r s t (by simpa using hl) (by simpa using h1) (by rw [show i+1+t=i+(t+1) by omega];exact h2)
  simp only [Kr]
  cases (a.Yn&&p i)<;>simpa only [Vi,Nr] using hr
theorem kM {B:List (Nat×Nat×Nat)} {H:List (Nat×OB)} {c:AC} {K:Prop} (h:yw B H c K):fV B H c=c/\K:=by
 cases c with
 |own l off len=>obtain ⟨h1,h2,h3⟩:=h;exact ⟨by rw [h1,h2];rfl,h3⟩
 |_=>exact ⟨rfl,h⟩
theorem bB {B:List (Nat×Nat×Nat)} {H:List (Nat×OB)} : ∀ {l:List AC} {K:Prop},dJ B H l K->l.map (fV B H)=l/\K
 | [],_,h=>⟨rfl,h⟩
 |c::l,_,h=>by
  obtain ⟨h1,h2⟩:=kM h
  obtain ⟨h3,h4⟩:=bB h2
  exact ⟨by rw [Bm,h1,h3],h4⟩
theorem vB {B:List (Nat×Nat×Nat)} {H:List (Nat×OB)} {c:AV} {K:Prop} (h:PD B H c K):c.map (fV B H)=c/\K:=by
 cases c with
 | «at»a=>obtain ⟨h1,h2⟩:=kM h;exact ⟨by rw [AV.map,h1],h2⟩
 |agg cs=>obtain ⟨h1,h2⟩:=bB h;exact ⟨by rw [AV.map,h1],h2⟩
 |bu _ _ _=>exact ⟨rfl,h⟩
 |Mw l=>exact h.elim
theorem gI {B:List (Nat×Nat×Nat)} {H:List (Nat×OB)} : ∀ {l:List AV} {K:Prop},bt B H l K->l.map (·.map (fV B H))=l/\K
 | [],_,h=>⟨rfl,h⟩
 |c::l,_,h=>by
  obtain ⟨h1,h2⟩:=vB h
  obtain ⟨h3,h4⟩:=gI h2
  exact ⟨by rw [Bm,h1,h3],h4⟩
theorem No {B:List (Nat×Nat×Nat)} {H:List (Nat×OB)} : ∀ {l:List (Nat×OB)} {K:Prop},jS B H l K->l.map (λp=>(p.1,p.2.map (fV B H)))=l/\K
 | [],_,h=>⟨rfl,h⟩
 |(k, .var t vs)::l,_,h=>by
  obtain ⟨h1,h2⟩:=bB h
  obtain ⟨h3,h4⟩:=No h2
  exact ⟨by rw [Bm,h3];simp only [OB.map,h1],h4⟩
 |(k, .arr a b c d e)::l,_,h=>by
  obtain ⟨h3,h4⟩:=No (l:=l) h
  exact ⟨by rw [Bm,h3];rfl,h4⟩
 |(k, .Gu a b c)::l,_,h=>by
  obtain ⟨h3,h4⟩:=No (l:=l) h
  exact ⟨by rw [Bm,h3];rfl,h4⟩
 |(k, .Bl a b c d e)::l,_,h=>by
  obtain ⟨h3,h4⟩:=No (l:=l) h
  exact ⟨by rw [Bm,h3];rfl,h4⟩
 |(k, .Vu a b)::l,_,h=>by
  obtain ⟨h3,h4⟩:=No (l:=l) h
  exact ⟨by rw [Bm,h3];rfl,h4⟩
theorem lr {B:List (Nat×Nat×Nat)} {s:St} {K:Prop} (h:AN B s K):s.whole B=s/\K:=by
 obtain ⟨h1,h2⟩:=gI h
 obtain ⟨h3,h4⟩:=No h2
 exact ⟨by unfold St.whole St.Lc;rw [h1,h3],h4⟩
theorem iu (live:List Nat): ∀(i:Nat) (l:List AV) (t:Nat),i+t∉live->(Im live i l).getD t .undef= .undef
 |_,[],_,_=>rfl
 |i,v::r,0,h=>by simp [Im];intro hn;exact absurd hn h
 |i,v::r,t+1,h=>by
  simp only [Im,Nr]
  exact iu live (i+1) r t (by rw [show i+1+t=i+(t+1) by omega];exact h)
theorem gi: ∀(l:List Nat) (st:St) (t:Nat),st.get t= .undef->(bf l st).get t= .undef
 | [],_,_,h=>h
 |a::r,st,t,h=>gi r _ t (by
  show (st.tmps.map (·.map (Cp a))).getD t .undef= .undef
  rw [Vd (Cp a) rfl,show st.tmps.getD t .undef= .undef from h]
  rfl)
theorem zT (l k:Nat) (st:St) (t:Nat) (h:st.get t= .undef):(st.rename l k).get t= .undef:=by
 unfold St.rename
 split
 ·split
  ·show (st.tmps.map (·.map (Vj l k))).getD t .undef= .undef
   rw [Vd (Vj l k) rfl,show st.tmps.getD t .undef= .undef from h]
   rfl
  ·exact h
 ·exact h
theorem ew: ∀(n i:Nat) (st:St) (t:Nat),st.get t= .undef->(Mt n i st).get t= .undef
 |0,_,_,_,h=>h
 |n+1,i,st,t,h=>by
  simp only [Mt]
  refine ew n (i+1) _ t ?_
  split
  ·split
   ·split
    ·exact h
    ·exact zT _ _ _ t h
   ·exact h
  ·exact h
theorem zO (st:St) (d:Nat) (v:AV) (t:Nat) (Iv:t≠d) (h:st.get t= .undef):(st.put (some d) v).get t= .undef:=by rw [bN _ _ Iv];exact h
theorem uh (k:Nat) (st:St) (t:Nat) (h:st.get t= .undef):(bY k st).get t= .undef:=by
 unfold bY
 split
 ·rename_i l off len hg
  split
  ·split
   ·refine zO _ _ _ _ (λe=>by subst e;rw [hg] at h;cases h) ?_
    show (st.tmps.map (·.map (Cp l))).getD t .undef= .undef
    rw [Vd (Cp l) rfl,show st.tmps.getD t .undef= .undef from h]
    rfl
   ·exact h
  ·exact h
 ·exact h
theorem mo (c:Nat) (st:St) (t:Nat) (h:st.get t= .undef):(Qd c st).get t= .undef:=by
 unfold Qd
 split
 ·split
  ·rename_i l off len hc
   split
   ·split
    ·split
     ·show (st.tmps.map (·.map (Cp l))).getD t .undef= .undef
      rw [Vd (Cp l) rfl,show st.tmps.getD t .undef= .undef from h]
      rfl
     ·exact h
    ·exact h
   ·exact h
  ·exact h
 ·exact h
theorem cR (live:List Nat): ∀(n i:Nat) (st:St) (t:Nat),st.get t= .undef->(Pu live n i st).get t= .undef
 |0,_,_,_,h=>h
 |n+1,i,st,t,h=>by
  simp only [Pu]
  refine cR live n (i+1) _ t ?_
  split
  ·exact mo _ _ _ h
  ·exact h
theorem gy (live:List Nat): ∀(n i:Nat) (st:St) (t:Nat),st.get t= .undef->(Pc live n i st).get t= .undef
 |0,_,st,t,h=>cR live 16 0 st t h
 |n+1,i,st,t,h=>by
  simp only [Pc]
  refine gy live n (i+1) _ t ?_
  split
  ·exact uh _ _ _ h
  ·exact h
theorem JY {live:List Nat} {st:St} {t:Nat} (h:((st.clean live).get t).Yn=true):t∈live:=by
 refine Bj λhn=>?_
 have:(st.clean live).get t= .undef:=by
  have key: ∀s:St,s.get t= .undef->(if live.contains cS then Mt s.tmps.length 0 s else s).get t= .undef:=by
   intro s hs
   split
   ·exact ew _ _ s t hs
   ·exact hs
  unfold St.clean
  have ZL: ∀s:St,s.get t= .undef->(if live.any (λt=>Nat.ble Pf t) then s.Iw live else s).get t= .undef:=by
   intro s hs
   split<;>exact hs
  have ZM: ∀s:St,s.get t= .undef->(if live.any (λt=>Nat.ble Si t&&Nat.blt t cS) then Pc live s.tmps.length 0 s else s).get t= .undef:=by
   intro s hs
   split
   ·exact gy _ _ _ s t hs
   ·exact hs
  refine ZL _ (key _ (ZM _ (gi _ _ t ?_)))
  exact iu live 0 st.tmps t (by simpa using hn)
 rw [this] at h
 cases h
theorem tH {c:AV} (h:c.Yn=true): ∃fr τ,∃x:τ.den,c= .at (.data fr τ x):=by
 unfold AV.Yn at h
 split at h
 ·exact ⟨_,_,_,rfl⟩
 ·cases h
theorem VE {live:Nat->List Nat} {c:Code} {t:Nat} (h:stays live c t=true):t∉writes c/\bS live c t=true:=by
 unfold stays at h
 simpa using h
section
variable {T:Tab} {Γ:Env} {live:Nat->List Nat}
theorem Ol.keeps {c:Code} {st:St} {Q:Lo->St->Prop} (h:Ol T Γ live c st Q):Ol T Γ live c st (λe s=>Q e s/\Fl (λt=>t∉writes c/\bS live c t=true) st s):=by
 exact NH h st _ Co.rfl'.on λt ht=>ht
def wsQ (Q:Lo->WS->Prop) (e:Lo) (s:St):Prop:= ∃w':WS,w'.st=s/\w'.OK/\Q e w'
theorem FF {c:Code} (ih: ∀(w:WS) (Q:Lo->WS->Prop),w.OK->dN T Γ live c w Q->Ol T Γ live c w.st (wsQ Q)) {w:WS} {Q:Lo->WS->Prop} (h:dN T Γ live (.loop c) w Q):
  Ol T Γ live (.loop c) w.st (wsQ Q):=by
 simp only [dN,SJ,fc] at h
 obtain ⟨hw0,I,μ,h0,hs⟩:=lr h
 have At: ∀(t:Nat),((w.st.clean (live (Ev c))).get t).Yn=true->stays live c t=true-> ∀v,((St.vY (Kr (stays live c) 0 (w.st.clean (live (Ev c))).tmps) (w.st.clean (live (Ev c))) (jv ((w.st.clean (live (Ev c))).mask (Kr (stays live c) 0 (w.st.clean (live (Ev c))).tmps)) v)).whole (ak T.parts (w.st.clean (live (Ev c))).tmps)).get t=(w.st.clean (live (Ev c))).get t:=by
  intro t h1 h2 v
  have h3:=xI (stays live c) 0 (w.st.clean (live (Ev c))).tmps (jv ((w.st.clean (live (Ev c))).mask (Kr (stays live c) 0 (w.st.clean (live (Ev c))).tmps)) v).tmps t
   ((gH _ _).trans (fp _ _)) h1 (by simpa using h2)
  obtain ⟨fr,τ,x,hx⟩:=tH h1
  refine (Pp _ _ rfl λ_ _ _=>rfl) t fr τ x ?_|>.trans hx.symm
  exact h3.trans hx
 have hmk: ∀(s1:St),(∀t,((w.st.clean (live (Ev c))).get t).Yn=true->stays live c t=true->s1.get t=(w.st.clean (live (Ev c))).get t)->s1.whole (ak T.parts (w.st.clean (live (Ev c))).tmps)=s1-> ∀v,jw ((w.st.clean (live (Ev c))).mask (Kr (stays live c) 0 (w.st.clean (live (Ev c))).tmps)) (s1.mask (Kr (stays live c) 0 (w.st.clean (live (Ev c))).tmps))=some v->
   s1=(St.vY (Kr (stays live c) 0 (w.st.clean (live (Ev c))).tmps) (w.st.clean (live (Ev c))) (jv ((w.st.clean (live (Ev c))).mask (Kr (stays live c) 0 (w.st.clean (live (Ev c))).tmps)) v)).whole (ak T.parts (w.st.clean (live (Ev c))).tmps):=by
  intro s1 hf hwh v hv
  have h1:=jx hv
  have h2:St.vY (Kr (stays live c) 0 (w.st.clean (live (Ev c))).tmps) (w.st.clean (live (Ev c))) (s1.mask (Kr (stays live c) 0 (w.st.clean (live (Ev c))).tmps))=s1:=by
   simp only [St.vY,St.mask]
   rw [mj (stays live c) 0 (w.st.clean (live (Ev c))).tmps s1.tmps λt h3 h4=>hf t h3 (by simpa using h4)]
  have h3:(St.vY (Kr (stays live c) 0 (w.st.clean (live (Ev c))).tmps) (w.st.clean (live (Ev c))) (jv ((w.st.clean (live (Ev c))).mask (Kr (stays live c) 0 (w.st.clean (live (Ev c))).tmps)) v)).whole (ak T.parts (w.st.clean (live (Ev c))).tmps)=s1.whole (ak T.parts (w.st.clean (live (Ev c))).tmps):=by
   refine IV ?_
   rw [u7,h1,<-u7,h2]
  rw [h3,hwh]
 refine UK (λv=>(St.vY (Kr (stays live c) 0 (w.st.clean (live (Ev c))).tmps) (w.st.clean (live (Ev c))) (jv ((w.st.clean (live (Ev c))).mask (Kr (stays live c) 0 (w.st.clean (live (Ev c))).tmps)) v)).whole (ak T.parts (w.st.clean (live (Ev c))).tmps)) I μ _ h0 (hmk _ (λ_ _ _=>rfl) hw0 _ (qR _ (me _ _ (Uo h)))) ?_
 intro a ha
 refine (Ol.keeps (ih ⟨[],_⟩ _ (λt b h=>by cases h) (hs a ha))).mono ?_
 intro e s hQ
 obtain ⟨⟨w',h1,h2,h3⟩,hk⟩:=hQ
 subst h1
 cases e with
 |normal=>
  obtain ⟨h4,h5⟩:=lr h3
  obtain ⟨v',h6,h7,h8⟩:=Ca.1 h5
  refine ⟨v',hmk _ (λt hd ht=>?_) h4 _ h6,h7,h8⟩
  obtain ⟨fr,τ,x,hx⟩:=tH hd
  rw [hx]
  exact l7 (live (Ev c)) w'.st t fr τ x (JY hd) (hk t fr τ x (VE ht) (by rw [At t hd ht a];exact hx))
 |exit id=>exact ⟨w',rfl,h2,h3⟩
 |ret=>exact ⟨w',rfl,h2,h3⟩
theorem q9: ∀(c:Code) (w:WS) (Q:Lo->WS->Prop),w.OK->dN T Γ live c w Q->Ol T Γ live c w.st (wsQ Q):=by
 intro c
 induction c with
 |skip=>intro w Q hw h;exact .skip ⟨w,rfl,hw,h⟩
 |label _=>intro w Q hw h;exact .label ⟨w,rfl,hw,h⟩
 |exit _=>intro w Q hw h;exact .exit ⟨w,rfl,hw,h⟩
 |ret=>intro w Q hw h;exact .ret ⟨w,rfl,hw,h⟩
 |region id ops draw=>
  intro w Q hw h
  have hw':WS.OK {w with st:=w.st.mR ops} := λt b ht=>by
   obtain ⟨fr,e⟩:=hw t b ht
   exact ⟨fr,l8 ops w.st t fr .bool b e⟩
  exact .region ((wi hw' h).mono λs ⟨w',h1,h2,h3⟩=>⟨w',h1,h2,Oh.1 h3⟩)
 |seq x y ihx ihy=>
  intro w Q hw h
  refine Aau ((ihx w _ hw h).mono λe s hQ=>?_)
  obtain ⟨w',h1,h2,h3⟩:=hQ
  subst h1
  cases e with
  |normal=>exact ihy w' Q h2 h3
  |exit id=>exact ⟨w',rfl,h2,h3⟩
  |ret=>exact ⟨w',rfl,h2,h3⟩
 |cond c x y ihx ihy=>
  intro w Q hw h
  obtain ⟨fr,b,w',h1,h2,h3,h4⟩:=wX hw h
  refine UJ h1 (λhb=>?_) (λhb=>?_)
  ·subst hb;rw [<-h2];exact ihx w' Q h3 h4
  ·subst hb;rw [<-h2];exact ihy w' Q h3 h4
 |block id c ih=>
  intro w Q hw h
  refine NG ((ih w _ hw h).mono λe s hQ=>?_)
  obtain ⟨w',h1,h2,h3⟩:=hQ
  subst h1
  cases e with
  |normal=>exact ⟨w',rfl,h2,h3⟩
  |ret=>exact ⟨w',rfl,h2,h3⟩
  |exit SW=>
   simp only at h3
   simp only [xm]
   split at h3
   ·rename_i hi;rw [Ac hi];exact ⟨w',rfl,h2,h3⟩
   ·rename_i hi;rw [Ak hi];exact ⟨w',rfl,h2,h3⟩
 |loop c ih=>intro w Q hw h;exact FF ih h
 |_=>intro w Q hw h;exact absurd h (by simp [dN])
theorem sL {s:Spec} {fn:Func} {P:s.res.den->Prop} {st:St} (h:Ah2 T s fn P st): ∃fr y,nf T s fn st=some (fr,y)/\(fr||!s.fresh)=true/\P y:=by
 obtain ⟨p,h1,h2⟩:=Ca.1 h
 split at h2
 ·rename_i hf;exact ⟨p.1,p.2,h1,hf,h2⟩
 ·cases h2
theorem SI {s:Spec} {fn:Func} {x:s.arg.den} {P:s.res.den->Prop} (h:fnW T Γ s fn x P):WR T Γ s fn x P:=by
 unfold fnW at h
 obtain ⟨c,h1,h2⟩:=Ca.1 h
 refine ⟨c,h1,(q9 c _ _ (λt b h=>by cases h) h2).mono λe st ⟨w,h4,h5,h6⟩=>?_⟩
 subst h4
 cases e with
 |normal=>exact ⟨λid hh=>(by cases hh),sL h6⟩
 |ret=>exact ⟨λid hh=>(by cases hh),sL h6⟩
 |exit id=>cases h6
theorem cJ {st:St} {K:Prop} : ∀(vs:List AC) (cs:List (Bool×CK)),iW st K vs cs->iV st vs cs/\K
 | [],cs,h=>⟨by simp [iV],by simpa [iW] using h⟩
 |a::vs,[],h=>⟨by cases a<;>simp [iV],by cases a<;>simpa [iW] using h⟩
 |a::vs,(false,c)::r,h=>by
  have h:iW st K vs r:=by cases a<;>simpa only [iW] using h
  obtain ⟨h1,h2⟩:=cJ vs r h
  exact ⟨by cases a<;>simpa only [iV] using h1,h2⟩
 |a::vs,(true,c)::r,h=>by
  cases a with
  |own l off len=>
   simp only [iW] at h
   split at h
   ·rename_i hl
    obtain ⟨h1,h2⟩:=cJ vs r h.2
    refine ⟨?_,h2⟩
    simp only [iV,hl]
    exact ⟨h.1,h1⟩
   ·rename_i hl
    obtain ⟨h1,h2⟩:=cJ vs r h.2
    refine ⟨?_,h2⟩
    simp only [iV,hl]
    exact ⟨h.1,h1⟩
   ·exact h.elim
  |_=>exact ⟨by simp [iV],by simpa [iW] using h⟩
theorem fw {st:St} : ∀(cs:List CK) (as:List AC) (K:CKs.den cs->List Nat->Prop),po st cs as K-> ∃x ls,Vh st cs as=some (x,ls)/\K x ls
 | [],[],K,h=>⟨(),[],rfl,h⟩
 | [],_::_,_,h=>h.elim
 |c::r,[],K,h=>by cases c<;>exact h.elim
 |c::r,a::as,K,h=>by
  have vz:Hz (kH st c a) (λp=>po st r as λy t=>K (p.1,y) (p.2++t))-> ∃x ls,Vh st (c::r) (a::as)=some (x,ls)/\K x ls:= λh=>by
   obtain ⟨p,h1,h2⟩:=Ca.1 h
   obtain ⟨y,t,h3,h4⟩:=fw r as _ h2
   exact ⟨_,_,by simp only [Vh,h1,h3],h4⟩
  cases c with
  |Bl e te kp=>
   cases a with
   |own l off len=>
    simp only [po] at h
    split at h
    ·rename_i hl
     split at h
     ·rename_i hc
      obtain ⟨⟨h1,h2⟩,h⟩:=h
      obtain ⟨y,t,h3,h4⟩:=fw r as _ h
      exact ⟨_,_,by simp only [Vh,kH,hl];rw [Jf ⟨hc.1,hc.2,h1,h2⟩];simp only [h3];rfl,h4⟩
     ·exact h.elim
    ·exact h.elim
   |_=>exact vz h
  |_=>exact vz h
theorem nG {st:St} {n:Nat} {as:List AC} {K:Prop} : ∀(ks:List (Nat×Nat)),zk st n as ks K->xr st n as ks/\K
 | [],h=>⟨trivial,h⟩
 |(k,j)::r,h=>by
  simp only [zk] at h
  split at h
  ·rename_i l off len ha
   split at h
   ·rename_i p hl
    split at h
    ·rename_i hc
     simp only [Af] at hc
     obtain ⟨h1,h2⟩:=nG r h.2
     refine ⟨?_,h2⟩
     simp only [xr,ha,hl]
     exact ⟨⟨Jt hc.1,h.1,hc.2⟩,h1⟩
    ·exact h.elim
   ·exact h.elim
  ·exact h.elim
theorem jl {s:MSpec} {fn:Func} {x:Ins.den s.ins} {st:St} {cs:List AC} {P:CKs.den s.outs×IOs.den s.ins->Prop} (h:uo T s fn x st cs P):kf T s fn x st cs P:=by
 obtain ⟨l,h1,h⟩:=Ca.1 h
 obtain ⟨⟨as,ml⟩,h2,h⟩:=Ca.1 h
 obtain ⟨r,ls,h3,h⟩:=fw _ _ _ h
 obtain ⟨o,h4,h⟩:=Ca.1 h
 split at h
 ·rename_i hc
  obtain ⟨h5,h6⟩:=nG _ h
  unfold kf
  simp only [h1,h2,h3,h4]
  exact ⟨hc,h5,h6⟩
 ·exact h.elim
theorem qN {s:MSpec} {fn:Func} {x:Ins.den s.ins} {st:St} {P:CKs.den s.outs×IOs.den s.ins->Prop} (h:RC T s fn x st P):WQ T s fn x st P:=by
 unfold RC at h
 unfold WQ
 cases hp:s.ptr with
 |none=>rw [hp] at h;exact jl h
 |some p=>
  rw [hp] at h
  simp only at h⊢
  split at h
  ·rename_i tid vs hl
   split at h
   ·rename_i hc
    simp only [Af] at hc
    obtain ⟨h1,h2⟩:=hc
    have h1:tid=p.1:=Jt h1
    have h2:=Jt h2
    subst h1
    obtain ⟨cs,h3,h4⟩:=Ca.1 h
    obtain ⟨h5,h6⟩:=cJ vs s.ins h4
    exact ⟨vs,cs,hl,h2,h3,h5,jl h6⟩
   ·exact h.elim
  ·exact h.elim
theorem KK {s:MSpec} {fn:Func} {x:Ins.den s.ins} {P:CKs.den s.outs×IOs.den s.ins->Prop} (h:fnMW T Γ s fn x P):Af4 T Γ s fn x P:=by
 unfold fnMW at h
 split at h
 ·cases h
 rename_i hlen
 obtain ⟨c,h1,h2⟩:=Ca.1 h
 refine ⟨hlen,c,h1,(q9 c _ _ (λt b h=>by cases h) h2).mono λe st ⟨w,h4,h5,h6⟩=>?_⟩
 subst h4
 cases e with
 |normal=>exact ⟨λid hh=>(by cases hh),qN h6⟩
 |ret=>exact ⟨λid hh=>(by cases hh),qN h6⟩
 |exit id=>cases h6
theorem Cn.ofW {P:Program} (hT:Dz P T) (Pb:Kx P Γ) (hm:P.follows .mixedOrders=true) {f:FuncId} {fn:Func} (hf:P.funcs[f]?=some fn) (hn:(fn.name== "runtime.NumGoroutine")=false)
  (hb:fn.body.isNone=false) (s:MSpec) (h: ∀x y,s.fn x=some y->fnMW T Γ s fn x (λz=>z=y)):Cn P f s:=
 ⟨im hf hn hb,λw S π us x r o g vs h1 hg h2 h3 hS h4 h5=>vG hT Pb hm hf s w S π us x r o g vs h1 hg h2 h3 hS h4 (KK (h x (r,o) h5))⟩
theorem Sound.ofW {P:Program} (hT:Dz P T) (Pb:Kx P Γ) (hm:P.follows .mixedOrders=true) {f:FuncId} {fn:Func} (hf:P.funcs[f]?=some fn) (hn:(fn.name== "runtime.NumGoroutine")=false)
  (hb:fn.body.isNone=false) (s:Spec) (h: ∀x y,s.fn x=some y->fnW T Γ s fn x (λz=>z=y)):Sound P f s:=
 Aaw hT Pb hm hf hn hb s λx y hx=>SI (h x y hx)
end
end Go.Proofs.Ytkkdpknjohcekaa
