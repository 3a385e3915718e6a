/-
  Part 34 of the proof that the statement FnExactLowerBounds holds.
-/
import Derived.Test.YtfolipnappekaaaGreatCLowerBounds32
namespace Go.Proofs.YtfolipnappekaaaGreat
open Go.RowKit
theorem Nt {B:List (Nat×Nat×Nat)} {H:List (Nat×OB)} : ∀ {l:List AV} {K:Prop},Vk B H l K-> ∀c∈l,c.fD=true
 | [],_,_,c,hc=>by cases hc
 |d::l,K,h,c,hc=>by
  simp only [Vk] at h
  cases d with
  |Ib l'=>exact h.elim
  | «at»a=>
   rcases List.mem_cons.1 hc with rfl|hc
   ·rfl
   ·have h':Vk B H l K:=by
     cases a with
     |own k o n=>exact h.2.2
     |_=>exact h
    exact Nt h' c hc
  |Vl _ _ _=>
   rcases List.mem_cons.1 hc with rfl|hc
   ·rfl
   ·exact Nt h c hc
  |agg cs=>
   rcases List.mem_cons.1 hc with rfl|hc
   ·rfl
   ·have: ∀(cs:List AC) (Q:Prop),Yy B H cs Q->Q:=by
     intro cs
     induction cs with
     |nil=>exact λQ h=>h
     |cons a cs ih=>
      intro Q h
      have h2:Yy B H cs Q:=by
       cases a with
       |own k o n=>exact h.2.2
       |_=>exact h
      exact ih Q h2
    exact Nt (this cs _ h) c hc
theorem gH: ∀(f:List Bool) (l:List AV),(∀c∈l,c.fD=true)-> ∀c∈On f l,c.fD=true
 | [],l,h=>by simpa [On] using h
 |true::f,[],h=>by simp [On] at h⊢
 |false::f,[],h=>by simp [On] at h⊢
 |true::f,a::l,h=>by
  intro c hc
  simp only [On,List.mem_cons] at hc
  rcases hc with rfl|hc
  ·rfl
  ·exact gH f l (λc hc=>h c (List.mem_cons_of_mem _ hc)) c hc
 |false::f,a::l,h=>by
  intro c hc
  simp only [On,List.mem_cons] at hc
  rcases hc with rfl|hc
  ·exact h c (by simp)
  ·exact gH f l (λc hc=>h c (List.mem_cons_of_mem _ hc)) c hc
theorem HZ (f:AC->AC) (H:List (Nat×OB)) (l:Nat):lenOf (H.map λp=>(p.1,p.2.map f)) l=lenOf H l:=by
 unfold lenOf
 rw [Jn]
 cases Ad H l with
 |none=>rfl
 |some b=>cases b<;>rfl
theorem zM (f g:AC->AC) (c:AV):(c.map f).map g=c.map λa=>g (f a):=by
 cases c<;>simp [AV.map]
theorem BV (f g:AC->AC) (c:OB):(c.map f).map g=c.map λa=>g (f a):=by
 cases c<;>simp [OB.map]
theorem xZ (s:St) (f g:AC->AC):(s.Gj f).Gj g=s.Gj λa=>g (f a):=by
 simp [St.Gj,List.map_map,Function.comp_def,zM,BV]
theorem xO (f:AC->AC) (H:List (Nat×OB)) (l:Nat): ∀(B:List (Nat×Nat×Nat)),HX B (H.map λp=>(p.1,p.2.map f)) l=HX B H l
 | []=>HZ f H l
 |(k,o,n)::r=>by simp only [HX];rw [xO f H l r]
theorem zx (B:List (Nat×Nat×Nat)) (s:St):(s.Gj Mt).whole B=s.whole B:=by
 unfold St.whole
 rw [xZ]
 congr 1
 funext a
 cases a with
 |own l off len=>simp only [Mt,bw,St.Gj,xO]
 |_=>rfl
theorem zw {B:List (Nat×Nat×Nat)} {s t:St} (h:s.Gj Mt=t.Gj Mt):s.whole B=t.whole B:=by rw [<-zx B s,h,zx]
theorem kz (f:AC->AC): ∀(fx:List Bool) (a b:List AV),(Ps fx a b).map (·.map f)=Ps fx (a.map (·.map f)) (b.map (·.map f))
 | [],_,_=>by simp [Ps]
 |_::_,[],_=>by simp [Ps]
 |true::_,_::_,[]=>by simp [Ps]
 |false::_,_::_,[]=>by simp [Ps]
 |true::fx,x::a,y::b=>by simp only [Ps,List.map_cons,kz f fx a b]
 |false::fx,x::a,y::b=>by simp only [Ps,List.map_cons,kz f fx a b]
theorem oM (f:AC->AC) (fx:List Bool) (a b:St):(St.qL fx a b).Gj f=St.qL fx (a.Gj f) (b.Gj f):=by
 simp only [St.qL,St.Gj,kz]
theorem oL (p:Nat->Bool): ∀(i:Nat) (l0 l1:List AV),(∀t,(l0.getD t .undef).Qw=true->p (i+t)=true->l1.getD t .undef=l0.getD t .undef)->
  Ps (Ht p i l0) l0 (On (Ht p i l0) l1)=l1
 |_,[],l1,_=>by simp [Ht,On,Ps]
 |i,a::r,[],_=>by
  simp only [Ht]
  cases (a.Qw&&p i)<;>simp [On,Ps]
 |i,a::r,b::s,h=>by
  have hr:=oL p (i+1) r s λt h1 h2=>by
   have:=h (t+1) (by simpa using h1) (by rw [show i+(t+1)=i+1+t by omega];exact h2)
   simpa using this
  simp only [Ht]
  cases hc:(a.Qw&&p i) with
  |false=>simp only [On,Ps];rw [hr]
  |true=>
   simp only [On,Ps]
   rw [hr]
   simp only [Bool.and_eq_true] at hc
   have:=h 0 (by simpa using hc.1) hc.2
   simp only [List.getD_cons_zero] at this
   rw [this]
theorem aR: ∀(f:List Bool) (l:List AV),(On f l).length=l.length
 | [],l=>by simp [On]
 |true::f,[]=>by simp [On]
 |false::f,[]=>by simp [On]
 |true::f,a::l=>by simp [On,aR f l]
 |false::f,a::l=>by simp [On,aR f l]
theorem bY: ∀(l:List AV) {R:Type} (v:lY l R),(Qa l v).1.length=l.length
 | [],_,_=>rfl
 |c::l,_,v=>by simp [Qa,bY l]
theorem sR (p:Nat->Bool): ∀(i:Nat) (l0 l:List AV) (t:Nat),l.length=l0.length->(l0.getD t .undef).Qw=true->p (i+t)=true->(Ps (Ht p i l0) l0 l).getD t .undef=l0.getD t .undef
 |_,[],_,t,_,h,_=>by simp [AV.Qw] at h
 |i,a::r,[],_,h,_,_=>by simp at h
 |i,a::r,b::s,0,_,h1,h2=>by
  have:(a.Qw&&p i)=true:=by
   simp only [Bool.and_eq_true]
   exact ⟨by simpa using h1,h2⟩
  simp only [Ht,this,Ps,List.getD_cons_zero]
 |i,a::r,b::s,t+1,hl,h1,h2=>by
  have hr:=sR p (i+1) r s t (by simpa using hl) (by simpa using h1) (by rw [show i+1+t=i+(t+1) by omega];exact h2)
  simp only [Ht]
  cases (a.Qw&&p i)<;>simpa only [Ps,List.getD_cons_succ] using hr
theorem eY {B:List (Nat×Nat×Nat)} {H:List (Nat×OB)} {c:AC} {K:Prop} (h:tE B H c K):bw B H c=c/\K:=by
 cases c with
 |own l off len=>obtain ⟨h1,h2,h3⟩:=h;exact ⟨by rw [h1,h2];rfl,h3⟩
 |_=>exact ⟨rfl,h⟩
theorem Vo {B:List (Nat×Nat×Nat)} {H:List (Nat×OB)} : ∀ {l:List AC} {K:Prop},Yy B H l K->l.map (bw B H)=l/\K
 | [],_,h=>⟨rfl,h⟩
 |c::l,_,h=>by
  obtain ⟨h1,h2⟩:=eY h
  obtain ⟨h3,h4⟩:=Vo h2
  exact ⟨by rw [List.map_cons,h1,h3],h4⟩
theorem qi {B:List (Nat×Nat×Nat)} {H:List (Nat×OB)} {c:AV} {K:Prop} (h:EY B H c K):c.map (bw B H)=c/\K:=by
 cases c with
 | «at»a=>obtain ⟨h1,h2⟩:=eY h;exact ⟨by rw [AV.map,h1],h2⟩
 |agg cs=>obtain ⟨h1,h2⟩:=Vo h;exact ⟨by rw [AV.map,h1],h2⟩
 |Vl _ _ _=>exact ⟨rfl,h⟩
 |Ib l=>exact h.elim
theorem bZ {B:List (Nat×Nat×Nat)} {H:List (Nat×OB)} : ∀ {l:List AV} {K:Prop},Vk B H l K->l.map (·.map (bw B H))=l/\K
 | [],_,h=>⟨rfl,h⟩
 |c::l,_,h=>by
  obtain ⟨h1,h2⟩:=qi h
  obtain ⟨h3,h4⟩:=bZ h2
  exact ⟨by rw [List.map_cons,h1,h3],h4⟩
theorem Ik {B:List (Nat×Nat×Nat)} {H:List (Nat×OB)} : ∀ {l:List (Nat×OB)} {K:Prop},eh B H l K->l.map (λp=>(p.1,p.2.map (bw B H)))=l/\K
 | [],_,h=>⟨rfl,h⟩
 |(k, .var t vs)::l,_,h=>by
  obtain ⟨h1,h2⟩:=Vo h
  obtain ⟨h3,h4⟩:=Ik h2
  exact ⟨by rw [List.map_cons,h3];simp only [OB.map,h1],h4⟩
 |(k, .arr a b c d e)::l,_,h=>by
  obtain ⟨h3,h4⟩:=Ik (l:=l) h
  exact ⟨by rw [List.map_cons,h3];rfl,h4⟩
 |(k, .Dc a b c)::l,_,h=>by
  obtain ⟨h3,h4⟩:=Ik (l:=l) h
  exact ⟨by rw [List.map_cons,h3];rfl,h4⟩
 |(k, .Aj a b c d e)::l,_,h=>by
  obtain ⟨h3,h4⟩:=Ik (l:=l) h
  exact ⟨by rw [List.map_cons,h3];rfl,h4⟩
 |(k, .Pb a b)::l,_,h=>by
  obtain ⟨h3,h4⟩:=Ik (l:=l) h
  exact ⟨by rw [List.map_cons,h3];rfl,h4⟩
theorem fI {B:List (Nat×Nat×Nat)} {s:St} {K:Prop} (h:vL B s K):s.whole B=s/\K:=by
 obtain ⟨h1,h2⟩:=bZ h
 obtain ⟨h3,h4⟩:=Ik h2
 exact ⟨by unfold St.whole St.Gj;rw [h1,h3],h4⟩
theorem cy (live:List Nat): ∀(i:Nat) (l:List AV) (t:Nat),i+t∉live->(Fw live i l).getD t .undef= .undef
 |_,[],_,_=>rfl
 |i,v::r,0,h=>by simp [Fw];intro hn;exact absurd hn h
 |i,v::r,t+1,h=>by
  simp only [Fw,List.getD_cons_succ]
  exact cy live (i+1) r t (by rw [show i+1+t=i+(t+1) by omega];exact h)
theorem bI: ∀(l:List Nat) (st:St) (t:Nat),st.get t= .undef->(Zj l st).get t= .undef
 | [],_,_,h=>h
 |a::r,st,t,h=>bI r _ t (by
  show (st.tmps.map (·.map (Bc a))).getD t .undef= .undef
  rw [Oj (Bc a) rfl,show st.tmps.getD t .undef= .undef from h]
  rfl)
theorem vh (l k:Nat) (st:St) (t:Nat) (h:st.get t= .undef):(st.rename l k).get t= .undef:=by
 unfold St.rename
 split
 ·split
  ·show (st.tmps.map (·.map (Oq l k))).getD t .undef= .undef
   rw [Oj (Oq l k) rfl,show st.tmps.getD t .undef= .undef from h]
   rfl
  ·exact h
 ·exact h
theorem Zy: ∀(n i:Nat) (st:St) (t:Nat),st.get t= .undef->(Hy n i st).get t= .undef
 |0,_,_,_,h=>h
 |n+1,i,st,t,h=>by
  simp only [Hy]
  refine Zy n (i+1) _ t ?_
  split
  ·split
   ·split
    ·exact h
    ·exact vh _ _ _ t h
   ·exact h
  ·exact h
theorem vd (st:St) (d:Nat) (v:AV) (t:Nat) (Fa:t≠d) (h:st.get t= .undef):(st.put (some d) v).get t= .undef:=by rw [Vy _ _ Fa];exact h
theorem oW (k:Nat) (st:St) (t:Nat) (h:st.get t= .undef):(Wj k st).get t= .undef:=by
 unfold Wj
 split
 ·rename_i l off len hg
  split
  ·split
   ·refine vd _ _ _ _ (λe=>by subst e;rw [hg] at h;cases h) ?_
    show (st.tmps.map (·.map (Bc l))).getD t .undef= .undef
    rw [Oj (Bc l) rfl,show st.tmps.getD t .undef= .undef from h]
    rfl
   ·exact h
  ·exact h
 ·exact h
theorem gL (c:Nat) (st:St) (t:Nat) (h:st.get t= .undef):(Km c st).get t= .undef:=by
 unfold Km
 split
 ·split
  ·rename_i l off len hc
   split
   ·split
    ·split
     ·show (st.tmps.map (·.map (Bc l))).getD t .undef= .undef
      rw [Oj (Bc l) rfl,show st.tmps.getD t .undef= .undef from h]
      rfl
     ·exact h
    ·exact h
   ·exact h
  ·exact h
 ·exact h
theorem Xt (live:List Nat): ∀(n i:Nat) (st:St) (t:Nat),st.get t= .undef->(Kb live n i st).get t= .undef
 |0,_,_,_,h=>h
 |n+1,i,st,t,h=>by
  simp only [Kb]
  refine Xt live n (i+1) _ t ?_
  split
  ·exact gL _ _ _ h
  ·exact h
theorem bP (live:List Nat): ∀(n i:Nat) (st:St) (t:Nat),st.get t= .undef->(Jp live n i st).get t= .undef
 |0,_,st,t,h=>Xt live 16 0 st t h
 |n+1,i,st,t,h=>by
  simp only [Jp]
  refine bP live n (i+1) _ t ?_
  split
  ·exact oW _ _ _ h
  ·exact h
theorem zZ {live:List Nat} {st:St} {t:Nat} (h:((st.clean live).get t).Qw=true):t∈live:=by
 refine Classical.byContradiction λhn=>?_
 have:(st.clean live).get t= .undef:=by
  have key: ∀s:St,s.get t= .undef->(if live.contains Xu then Hy s.tmps.length 0 s else s).get t= .undef:=by
   intro s hs
   split
   ·exact Zy _ _ s t hs
   ·exact hs
  unfold St.clean
  have NR: ∀s:St,s.get t= .undef->(if live.any (λt=>Nat.ble Tg t) then s.Ep live else s).get t= .undef:=by
   intro s hs
   split<;>exact hs
  have NS: ∀s:St,s.get t= .undef->(if live.any (λt=>Nat.ble Lw t&&Nat.blt t Xu) then Jp live s.tmps.length 0 s else s).get t= .undef:=by
   intro s hs
   split
   ·exact bP _ _ _ s t hs
   ·exact hs
  refine NR _ (key _ (NS _ (bI _ _ t ?_)))
  exact cy live 0 st.tmps t (by simpa using hn)
 rw [this] at h
 cases h
theorem ou {c:AV} (h:c.Qw=true): ∃fr τ,∃x:τ.den,c= .at (.data fr τ x):=by
 unfold AV.Qw at h
 split at h
 ·exact ⟨_,_,_,rfl⟩
 ·cases h
theorem JX {live:Nat->List Nat} {c:Code} {t:Nat} (h:stays live c t=true):t∉writes c/\Wc live c t=true:=by
 unfold stays at h
 simpa using h
section
variable {T:Tab} {Γ:Env} {live:Nat->List Nat}
theorem Jd.keeps {c:Code} {st:St} {Q:Gw->St->Prop} (h:Jd T Γ live c st Q):Jd T Γ live c st (λe s=>Q e s/\Ez (λt=>t∉writes c/\Wc live c t=true) st s):=by
 exact CZ h st _ Az.rfl'.on λt ht=>ht
def wsQ (Q:Gw->WS->Prop) (e:Gw) (s:St):Prop:= ∃w':WS,w'.st=s/\w'.OK/\Q e w'
theorem xW {c:Code} (ih: ∀(w:WS) (Q:Gw->WS->Prop),w.OK->Zc T Γ live c w Q->Jd T Γ live c w.st (wsQ Q)) {w:WS} {Q:Gw->WS->Prop} (h:Zc T Γ live (.loop c) w Q):
  Jd T Γ live (.loop c) w.st (wsQ Q):=by
 simp only [Zc,HF,gq] at h
 obtain ⟨ZF,I,μ,h0,hs⟩:=fI h
 have Ad: ∀(t:Nat),((w.st.clean (live (Ce c))).get t).Qw=true->stays live c t=true-> ∀v,((St.qL (Ht (stays live c) 0 (w.st.clean (live (Ce c))).tmps) (w.st.clean (live (Ce c))) (dI ((w.st.clean (live (Ce c))).mask (Ht (stays live c) 0 (w.st.clean (live (Ce c))).tmps)) v)).whole (Ti T.parts (w.st.clean (live (Ce c))).tmps)).get t=(w.st.clean (live (Ce c))).get t:=by
  intro t h1 h2 v
  have h3:=sR (stays live c) 0 (w.st.clean (live (Ce c))).tmps (dI ((w.st.clean (live (Ce c))).mask (Ht (stays live c) 0 (w.st.clean (live (Ce c))).tmps)) v).tmps t
   ((bY _ _).trans (aR _ _)) h1 (by simpa using h2)
  obtain ⟨fr,τ,x,hx⟩:=ou h1
  refine (Jx _ _ rfl λ_ _ _=>rfl) t fr τ x ?_|>.trans hx.symm
  exact h3.trans hx
 have VS: ∀(s1:St),(∀t,((w.st.clean (live (Ce c))).get t).Qw=true->stays live c t=true->s1.get t=(w.st.clean (live (Ce c))).get t)->s1.whole (Ti T.parts (w.st.clean (live (Ce c))).tmps)=s1-> ∀v,dJ ((w.st.clean (live (Ce c))).mask (Ht (stays live c) 0 (w.st.clean (live (Ce c))).tmps)) (s1.mask (Ht (stays live c) 0 (w.st.clean (live (Ce c))).tmps))=some v->
   s1=(St.qL (Ht (stays live c) 0 (w.st.clean (live (Ce c))).tmps) (w.st.clean (live (Ce c))) (dI ((w.st.clean (live (Ce c))).mask (Ht (stays live c) 0 (w.st.clean (live (Ce c))).tmps)) v)).whole (Ti T.parts (w.st.clean (live (Ce c))).tmps):=by
  intro s1 hf hwh v hv
  have h1:=dK hv
  have h2:St.qL (Ht (stays live c) 0 (w.st.clean (live (Ce c))).tmps) (w.st.clean (live (Ce c))) (s1.mask (Ht (stays live c) 0 (w.st.clean (live (Ce c))).tmps))=s1:=by
   simp only [St.qL,St.mask]
   rw [oL (stays live c) 0 (w.st.clean (live (Ce c))).tmps s1.tmps λt h3 h4=>hf t h3 (by simpa using h4)]
  have h3:(St.qL (Ht (stays live c) 0 (w.st.clean (live (Ce c))).tmps) (w.st.clean (live (Ce c))) (dI ((w.st.clean (live (Ce c))).mask (Ht (stays live c) 0 (w.st.clean (live (Ce c))).tmps)) v)).whole (Ti T.parts (w.st.clean (live (Ce c))).tmps)=s1.whole (Ti T.parts (w.st.clean (live (Ce c))).tmps):=by
   refine zw ?_
   rw [oM,h1,<-oM,h2]
  rw [h3,hwh]
 refine JH (λv=>(St.qL (Ht (stays live c) 0 (w.st.clean (live (Ce c))).tmps) (w.st.clean (live (Ce c))) (dI ((w.st.clean (live (Ce c))).mask (Ht (stays live c) 0 (w.st.clean (live (Ce c))).tmps)) v)).whole (Ti T.parts (w.st.clean (live (Ce c))).tmps)) I μ _ h0 (VS _ (λ_ _ _=>rfl) ZF _ (lS _ (gH _ _ (Nt h)))) ?_
 intro a ha
 refine (Jd.keeps (ih ⟨[],_⟩ _ (λt b h=>by cases h) (hs a ha))).mono ?_
 intro e s hQ
 obtain ⟨⟨w',h1,h2,h3⟩,hk⟩:=hQ
 subst h1
 cases e with
 |normal=>
  obtain ⟨h4,h5⟩:=fI h3
  obtain ⟨v',h6,h7,h8⟩:=At.1 h5
  refine ⟨v',VS _ (λt hd ht=>?_) h4 _ h6,h7,h8⟩
  obtain ⟨fr,τ,x,hx⟩:=ou hd
  rw [hx]
  exact fu (live (Ce c)) w'.st t fr τ x (zZ hd) (hk t fr τ x (JX ht) (by rw [Ad t hd ht a];exact hx))
 |exit id=>exact ⟨w',rfl,h2,h3⟩
 |ret=>exact ⟨w',rfl,h2,h3⟩
theorem lh: ∀(c:Code) (w:WS) (Q:Gw->WS->Prop),w.OK->Zc T Γ live c w Q->Jd T Γ live c w.st (wsQ Q):=by
 intro c
 induction c with
 |skip=>intro w Q hw h;exact .skip ⟨w,rfl,hw,h⟩
 |label _=>intro w Q hw h;exact .label ⟨w,rfl,hw,h⟩
 |exit _=>intro w Q hw h;exact .exit ⟨w,rfl,hw,h⟩
 |ret=>intro w Q hw h;exact .ret ⟨w,rfl,hw,h⟩
 |region id ops draw=>
  intro w Q hw h
  have hw':WS.OK {w with st:=w.st.ir ops} := λt b ht=>by
   obtain ⟨fr,e⟩:=hw t b ht
   exact ⟨fr,fv ops w.st t fr .bool b e⟩
  exact .region ((r6 hw' h).mono λs ⟨w',h1,h2,h3⟩=>⟨w',h1,h2,aL.1 h3⟩)
 |seq x y ihx ihy=>
  intro w Q hw h
  refine PF ((ihx w _ hw h).mono λe s hQ=>?_)
  obtain ⟨w',h1,h2,h3⟩:=hQ
  subst h1
  cases e with
  |normal=>exact ihy w' Q h2 h3
  |exit id=>exact ⟨w',rfl,h2,h3⟩
  |ret=>exact ⟨w',rfl,h2,h3⟩
 |cond c x y ihx ihy=>
  intro w Q hw h
  obtain ⟨fr,b,w',h1,h2,h3,h4⟩:=s9 hw h
  refine JG h1 (λhb=>?_) (λhb=>?_)
  ·subst hb;rw [<-h2];exact ihx w' Q h3 h4
  ·subst hb;rw [<-h2];exact ihy w' Q h3 h4
 |block id c ih=>
  intro w Q hw h
  refine CY ((ih w _ hw h).mono λe s hQ=>?_)
  obtain ⟨w',h1,h2,h3⟩:=hQ
  subst h1
  cases e with
  |normal=>exact ⟨w',rfl,h2,h3⟩
  |ret=>exact ⟨w',rfl,h2,h3⟩
  |exit HT=>
   simp only at h3
   simp only [sB]
   split at h3
   ·rename_i hi;rw [if_pos hi];exact ⟨w',rfl,h2,h3⟩
   ·rename_i hi;rw [if_neg hi];exact ⟨w',rfl,h2,h3⟩
 |loop c ih=>intro w Q hw h;exact xW ih h
 |_=>intro w Q hw h;exact absurd h (by simp [Zc])
theorem nM {s:Spec} {fn:Func} {P:s.res.den->Prop} {st:St} (h:XF T s fn P st): ∃fr y,iC T s fn st=some (fr,y)/\(fr||!s.fresh)=true/\P y:=by
 obtain ⟨p,h1,h2⟩:=At.1 h
 split at h2
 ·rename_i hf;exact ⟨p.1,p.2,h1,hf,h2⟩
 ·cases h2
theorem HE {s:Spec} {fn:Func} {x:s.arg.den} {P:s.res.den->Prop} (h:fnW T Γ s fn x P):LO T Γ s fn x P:=by
 unfold fnW at h
 obtain ⟨c,h1,h2⟩:=At.1 h
 refine ⟨c,h1,(lh c _ _ (λt b h=>by cases h) h2).mono λe st ⟨w,h4,h5,h6⟩=>?_⟩
 subst h4
 cases e with
 |normal=>exact ⟨λid hh=>(by cases hh),nM h6⟩
 |ret=>exact ⟨λid hh=>(by cases hh),nM h6⟩
 |exit id=>cases h6
theorem Xp {st:St} {K:Prop} : ∀(vs:List AC) (cs:List (Bool×CK)),da st K vs cs->cZ st vs cs/\K
 | [],cs,h=>⟨by simp [cZ],by simpa [da] using h⟩
 |a::vs,[],h=>⟨by cases a<;>simp [cZ],by cases a<;>simpa [da] using h⟩
 |a::vs,(false,c)::r,h=>by
  have h:da st K vs r:=by cases a<;>simpa only [da] using h
  obtain ⟨h1,h2⟩:=Xp vs r h
  exact ⟨by cases a<;>simpa only [cZ] using h1,h2⟩
 |a::vs,(true,c)::r,h=>by
  cases a with
  |own l off len=>
   simp only [da] at h
   split at h
   ·rename_i hl
    obtain ⟨h1,h2⟩:=Xp vs r h.2
    refine ⟨?_,h2⟩
    simp only [cZ,hl]
    exact ⟨h.1,h1⟩
   ·rename_i hl
    obtain ⟨h1,h2⟩:=Xp vs r h.2
    refine ⟨?_,h2⟩
    simp only [cZ,hl]
    exact ⟨h.1,h1⟩
   ·exact h.elim
  |_=>exact ⟨by simp [cZ],by simpa [da] using h⟩
theorem aV {st:St} : ∀(cs:List CK) (as:List AC) (K:CKs.den cs->List Nat->Prop),ky st cs as K-> ∃x ls,Oo st cs as=some (x,ls)/\K x ls
 | [],[],K,h=>⟨(),[],rfl,h⟩
 | [],_::_,_,h=>h.elim
 |c::r,[],K,h=>by cases c<;>exact h.elim
 |c::r,a::as,K,h=>by
  have qe:Ec (eT st c a) (λp=>ky st r as λy t=>K (p.1,y) (p.2++t))-> ∃x ls,Oo st (c::r) (a::as)=some (x,ls)/\K x ls:= λh=>by
   obtain ⟨p,h1,h2⟩:=At.1 h
   obtain ⟨y,t,h3,h4⟩:=aV r as _ h2
   exact ⟨_,_,by simp only [Oo,h1,h3],h4⟩
  cases c with
  |Aj e te kp=>
   cases a with
   |own l off len=>
    simp only [ky] at h
    split at h
    ·rename_i hl
     split at h
     ·rename_i hc
      obtain ⟨⟨h1,h2⟩,h⟩:=h
      obtain ⟨y,t,h3,h4⟩:=aV r as _ h
      exact ⟨_,_,by simp only [Oo,eT,hl];rw [dif_pos ⟨hc.1,hc.2,h1,h2⟩];simp only [h3];rfl,h4⟩
     ·exact h.elim
    ·exact h.elim
   |_=>exact qe h
  |_=>exact qe h
theorem iU {st:St} {n:Nat} {as:List AC} {K:Prop} : ∀(ks:List (Nat×Nat)),ux st n as ks K->sG st n as ks/\K
 | [],h=>⟨trivial,h⟩
 |(k,j)::r,h=>by
  simp only [ux] at h
  split at h
  ·rename_i l off len ha
   split at h
   ·rename_i p hl
    split at h
    ·rename_i hc
     simp only [Bool.and_eq_true] at hc
     obtain ⟨h1,h2⟩:=iU r h.2
     refine ⟨?_,h2⟩
     simp only [sG,ha,hl]
     exact ⟨⟨Nat.eq_of_beq_eq_true hc.1,h.1,hc.2⟩,h1⟩
    ·exact h.elim
   ·exact h.elim
  ·exact h.elim
theorem dA {s:MSpec} {fn:Func} {x:Ins.den s.ins} {st:St} {cs:List AC} {P:CKs.den s.outs×IOs.den s.ins->Prop} (h:p6 T s fn x st cs P):eB T s fn x st cs P:=by
 obtain ⟨l,h1,h⟩:=At.1 h
 obtain ⟨⟨as,ml⟩,h2,h⟩:=At.1 h
 obtain ⟨r,ls,h3,h⟩:=aV _ _ _ h
 obtain ⟨o,h4,h⟩:=At.1 h
 split at h
 ·rename_i hc
  obtain ⟨h5,h6⟩:=iU _ h
  unfold eB
  simp only [h1,h2,h3,h4]
  exact ⟨hc,h5,h6⟩
 ·exact h.elim
theorem lO {s:MSpec} {fn:Func} {x:Ins.den s.ins} {st:St} {P:CKs.den s.outs×IOs.den s.ins->Prop} (h:GG T s fn x st P):LN T s fn x st P:=by
 unfold GG at h
 unfold LN
 cases hp:s.ptr with
 |none=>rw [hp] at h;exact dA h
 |some p=>
  rw [hp] at h
  simp only at h⊢
  split at h
  ·rename_i tid vs hl
   split at h
   ·rename_i hc
    simp only [Bool.and_eq_true] at hc
    obtain ⟨h1,h2⟩:=hc
    have h1:tid=p.1:=Nat.eq_of_beq_eq_true h1
    have h2:=Nat.eq_of_beq_eq_true h2
    subst h1
    obtain ⟨cs,h3,h4⟩:=At.1 h
    obtain ⟨h5,h6⟩:=Xp vs s.ins h4
    exact ⟨vs,cs,hl,h2,h3,h5,dA h6⟩
   ·exact h.elim
  ·exact h.elim
theorem AJ {s:MSpec} {fn:Func} {x:Ins.den s.ins} {P:CKs.den s.outs×IOs.den s.ins->Prop} (h:fnMW T Γ s fn x P):UM T Γ s fn x P:=by
 unfold fnMW at h
 split at h
 ·cases h
 rename_i hlen
 obtain ⟨c,h1,h2⟩:=At.1 h
 refine ⟨hlen,c,h1,(lh c _ _ (λt b h=>by cases h) h2).mono λe st ⟨w,h4,h5,h6⟩=>?_⟩
 subst h4
 cases e with
 |normal=>exact ⟨λid hh=>(by cases hh),lO h6⟩
 |ret=>exact ⟨λid hh=>(by cases hh),lO h6⟩
 |exit id=>cases h6
theorem Au.ofW {P:Program} (hT:Ca P T) (Mq:Hi P Γ) (hm:P.follows .mixedOrders=true) {f:FuncId} {fn:Func} (hf:P.funcs[f]?=some fn) (hn:(fn.name== "runtime.NumGoroutine")=false)
  (hb:fn.body.isNone=false) (s:MSpec) (h: ∀x y,s.fn x=some y->fnMW T Γ s fn x (λz=>z=y)):Au P f s:=
 ⟨Vq hf hn hb,λw S π us x r o g vs h1 hg h2 h3 hS h4 h5=>qo hT Mq hm hf s w S π us x r o g vs h1 hg h2 h3 hS h4 (AJ (h x (r,o) h5))⟩
theorem Sound.ofW {P:Program} (hT:Ca P T) (Mq:Hi P Γ) (hm:P.follows .mixedOrders=true) {f:FuncId} {fn:Func} (hf:P.funcs[f]?=some fn) (hn:(fn.name== "runtime.NumGoroutine")=false)
  (hb:fn.body.isNone=false) (s:Spec) (h: ∀x y,s.fn x=some y->fnW T Γ s fn x (λz=>z=y)):Sound P f s:=
 PI hT Mq hm hf hn hb s λx y hx=>HE (h x y hx)
end
end Go.Proofs.YtfolipnappekaaaGreat
