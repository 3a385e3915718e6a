/-
  Part 34 of the proof that the statement FnExactProvesNoSolutionWithin holds.
-/
import Derived.Test.YtfolipnappekaaaGreatCProvesNoSolutionWithin32
namespace Go.Proofs.YtfolipnappekaaaGreat
open Go.RowKit
theorem Oy {B:List (Nat×Nat×Nat)} {H:List (Nat×OB)} : ∀ {l:List AV} {K:Prop},Wz B H l K-> ∀c∈l,c.gT=true
 | [],_,_,c,hc=>by cases hc
 |d::l,K,h,c,hc=>by
  simp only [Wz] at h
  cases d with
  |Ih l'=>exact h.elim
  | «at»a=>
   rcases List.mem_cons.1 hc with rfl|hc
   ·rfl
   ·have h':Wz B H l K:=by
     cases a with
     |own k o n=>exact h.2.2
     |_=>exact h
    exact Oy h' c hc
  |Xa _ _ _=>
   rcases List.mem_cons.1 hc with rfl|hc
   ·rfl
   ·exact Oy h c hc
  |agg cs=>
   rcases List.mem_cons.1 hc with rfl|hc
   ·rfl
   ·have: ∀(cs:List AC) (Q:Prop),an B H cs Q->Q:=by
     intro cs
     induction cs with
     |nil=>exact λQ h=>h
     |cons a cs ih=>
      intro Q h
      have h2:an B H cs Q:=by
       cases a with
       |own k o n=>exact h.2.2
       |_=>exact h
      exact ih Q h2
    exact Oy (this cs _ h) c hc
theorem iZ: ∀(f:List Bool) (l:List AV),(∀c∈l,c.gT=true)-> ∀c∈Py f l,c.gT=true
 | [],l,h=>by simpa [Py] using h
 |true::f,[],h=>by simp [Py] at h⊢
 |false::f,[],h=>by simp [Py] at h⊢
 |true::f,a::l,h=>by
  intro c hc
  simp only [Py,List.mem_cons] at hc
  rcases hc with rfl|hc
  ·rfl
  ·exact iZ f l (λc hc=>h c (List.mem_cons_of_mem _ hc)) c hc
 |false::f,a::l,h=>by
  intro c hc
  simp only [Py,List.mem_cons] at hc
  rcases hc with rfl|hc
  ·exact h c (by simp)
  ·exact iZ f l (λc hc=>h c (List.mem_cons_of_mem _ hc)) c hc
theorem MP (f:AC->AC) (H:List (Nat×OB)) (l:Nat):lenOf (H.map λp=>(p.1,p.2.map f)) l=lenOf H l:=by
 unfold lenOf
 rw [Kd]
 cases Ad H l with
 |none=>rfl
 |some b=>cases b<;>rfl
theorem DA (f g:AC->AC) (c:AV):(c.map f).map g=c.map λa=>g (f a):=by
 cases c<;>simp [AV.map]
theorem FL (f g:AC->AC) (c:OB):(c.map f).map g=c.map λa=>g (f a):=by
 cases c<;>simp [OB.map]
theorem zI (s:St) (f g:AC->AC):(s.Gl f).Gl g=s.Gl λa=>g (f a):=by
 simp [St.Gl,List.map_map,Function.comp_def,DA,FL]
theorem zx (f:AC->AC) (H:List (Nat×OB)) (l:Nat): ∀(B:List (Nat×Nat×Nat)),MN B (H.map λp=>(p.1,p.2.map f)) l=MN B H l
 | []=>MP f H l
 |(k,o,n)::r=>by simp only [MN];rw [zx f H l r]
theorem CM (B:List (Nat×Nat×Nat)) (s:St):(s.Gl Ns).whole B=s.whole B:=by
 unfold St.whole
 rw [zI]
 congr 1
 funext a
 cases a with
 |own l off len=>simp only [Ns,cp,St.Gl,zx]
 |_=>rfl
theorem CL {B:List (Nat×Nat×Nat)} {s t:St} (h:s.Gl Ns=t.Gl Ns):s.whole B=t.whole B:=by rw [<-CM B s,h,CM]
theorem lZ (f:AC->AC): ∀(fx:List Bool) (a b:List AV),(Rb fx a b).map (·.map f)=Rb fx (a.map (·.map f)) (b.map (·.map f))
 | [],_,_=>by simp [Rb]
 |_::_,[],_=>by simp [Rb]
 |true::_,_::_,[]=>by simp [Rb]
 |false::_,_::_,[]=>by simp [Rb]
 |true::fx,x::a,y::b=>by simp only [Rb,List.map_cons,lZ f fx a b]
 |false::fx,x::a,y::b=>by simp only [Rb,List.map_cons,lZ f fx a b]
theorem qC (f:AC->AC) (fx:List Bool) (a b:St):(St.sG fx a b).Gl f=St.sG fx (a.Gl f) (b.Gl f):=by
 simp only [St.sG,St.Gl,lZ]
theorem qB (p:Nat->Bool): ∀(i:Nat) (l0 l1:List AV),(∀t,(l0.getD t .undef).Su=true->p (i+t)=true->l1.getD t .undef=l0.getD t .undef)->
  Rb (Hw p i l0) l0 (Py (Hw p i l0) l1)=l1
 |_,[],l1,_=>by simp [Hw,Py,Rb]
 |i,a::r,[],_=>by
  simp only [Hw]
  cases (a.Su&&p i)<;>simp [Py,Rb]
 |i,a::r,b::s,h=>by
  have hr:=qB p (i+1) r s λt h1 h2=>by
   have:=h (t+1) (by simpa using h1) (by rw [show i+(t+1)=i+1+t by omega];exact h2)
   simpa using this
  simp only [Hw]
  cases hc:(a.Su&&p i) with
  |false=>simp only [Py,Rb];rw [hr]
  |true=>
   simp only [Py,Rb]
   rw [hr]
   simp only [Bool.and_eq_true] at hc
   have:=h 0 (by simpa using hc.1) hc.2
   simp only [List.getD_cons_zero] at this
   rw [this]
theorem bL: ∀(f:List Bool) (l:List AV),(Py f l).length=l.length
 | [],l=>by simp [Py]
 |true::f,[]=>by simp [Py]
 |false::f,[]=>by simp [Py]
 |true::f,a::l=>by simp [Py,bL f l]
 |false::f,a::l=>by simp [Py,bL f l]
theorem cR: ∀(l:List AV) {R:Type} (v:nP l R),(Rk l v).1.length=l.length
 | [],_,_=>rfl
 |c::l,_,v=>by simp [Rk,cR l]
theorem uK (p:Nat->Bool): ∀(i:Nat) (l0 l:List AV) (t:Nat),l.length=l0.length->(l0.getD t .undef).Su=true->p (i+t)=true->(Rb (Hw p i l0) l0 l).getD t .undef=l0.getD t .undef
 |_,[],_,t,_,h,_=>by simp [AV.Su] at h
 |i,a::r,[],_,h,_,_=>by simp at h
 |i,a::r,b::s,0,_,h1,h2=>by
  have:(a.Su&&p i)=true:=by
   simp only [Bool.and_eq_true]
   exact ⟨by simpa using h1,h2⟩
  simp only [Hw,this,Rb,List.getD_cons_zero]
 |i,a::r,b::s,t+1,hl,h1,h2=>by
  have hr:=uK p (i+1) r s t (by simpa using hl) (by simpa using h1) (by rw [show i+1+t=i+(t+1) by omega];exact h2)
  simp only [Hw]
  cases (a.Su&&p i)<;>simpa only [Rb,List.getD_cons_succ] using hr
theorem gu {B:List (Nat×Nat×Nat)} {H:List (Nat×OB)} {c:AC} {K:Prop} (h:vH B H c K):cp B H c=c/\K:=by
 cases c with
 |own l off len=>obtain ⟨h1,h2,h3⟩:=h;exact ⟨by rw [h1,h2];rfl,h3⟩
 |_=>exact ⟨rfl,h⟩
theorem Xe {B:List (Nat×Nat×Nat)} {H:List (Nat×OB)} : ∀ {l:List AC} {K:Prop},an B H l K->l.map (cp B H)=l/\K
 | [],_,h=>⟨rfl,h⟩
 |c::l,_,h=>by
  obtain ⟨h1,h2⟩:=gu h
  obtain ⟨h3,h4⟩:=Xe h2
  exact ⟨by rw [List.map_cons,h1,h3],h4⟩
theorem sf {B:List (Nat×Nat×Nat)} {H:List (Nat×OB)} {c:AV} {K:Prop} (h:IZ B H c K):c.map (cp B H)=c/\K:=by
 cases c with
 | «at»a=>obtain ⟨h1,h2⟩:=gu h;exact ⟨by rw [AV.map,h1],h2⟩
 |agg cs=>obtain ⟨h1,h2⟩:=Xe h;exact ⟨by rw [AV.map,h1],h2⟩
 |Xa _ _ _=>exact ⟨rfl,h⟩
 |Ih l=>exact h.elim
theorem cS {B:List (Nat×Nat×Nat)} {H:List (Nat×OB)} : ∀ {l:List AV} {K:Prop},Wz B H l K->l.map (·.map (cp B H))=l/\K
 | [],_,h=>⟨rfl,h⟩
 |c::l,_,h=>by
  obtain ⟨h1,h2⟩:=sf h
  obtain ⟨h3,h4⟩:=cS h2
  exact ⟨by rw [List.map_cons,h1,h3],h4⟩
theorem Iw {B:List (Nat×Nat×Nat)} {H:List (Nat×OB)} : ∀ {l:List (Nat×OB)} {K:Prop},fm B H l K->l.map (λp=>(p.1,p.2.map (cp B H)))=l/\K
 | [],_,h=>⟨rfl,h⟩
 |(k, .var t vs)::l,_,h=>by
  obtain ⟨h1,h2⟩:=Xe h
  obtain ⟨h3,h4⟩:=Iw h2
  exact ⟨by rw [List.map_cons,h3];simp only [OB.map,h1],h4⟩
 |(k, .arr a b c d e)::l,_,h=>by
  obtain ⟨h3,h4⟩:=Iw (l:=l) h
  exact ⟨by rw [List.map_cons,h3];rfl,h4⟩
 |(k, .Dg a b c)::l,_,h=>by
  obtain ⟨h3,h4⟩:=Iw (l:=l) h
  exact ⟨by rw [List.map_cons,h3];rfl,h4⟩
 |(k, .Al a b c d e)::l,_,h=>by
  obtain ⟨h3,h4⟩:=Iw (l:=l) h
  exact ⟨by rw [List.map_cons,h3];rfl,h4⟩
 |(k, .Qi a b)::l,_,h=>by
  obtain ⟨h3,h4⟩:=Iw (l:=l) h
  exact ⟨by rw [List.map_cons,h3];rfl,h4⟩
theorem gZ {B:List (Nat×Nat×Nat)} {s:St} {K:Prop} (h:xy B s K):s.whole B=s/\K:=by
 obtain ⟨h1,h2⟩:=cS h
 obtain ⟨h3,h4⟩:=Iw h2
 exact ⟨by unfold St.whole St.Gl;rw [h1,h3],h4⟩
theorem dp (live:List Nat): ∀(i:Nat) (l:List AV) (t:Nat),i+t∉live->(Gb live i l).getD t .undef= .undef
 |_,[],_,_=>rfl
 |i,v::r,0,h=>by simp [Gb];intro hn;exact absurd hn h
 |i,v::r,t+1,h=>by
  simp only [Gb,List.getD_cons_succ]
  exact dp live (i+1) r t (by rw [show i+1+t=i+(t+1) by omega];exact h)
theorem cC: ∀(l:List Nat) (st:St) (t:Nat),st.get t= .undef->(aE l st).get t= .undef
 | [],_,_,h=>h
 |a::r,st,t,h=>cC r _ t (by
  show (st.tmps.map (·.map (Bd a))).getD t .undef= .undef
  rw [Ps (Bd a) rfl,show st.tmps.getD t .undef= .undef from h]
  rfl)
theorem xd (l k:Nat) (st:St) (t:Nat) (h:st.get t= .undef):(st.rename l k).get t= .undef:=by
 unfold St.rename
 split
 ·split
  ·show (st.tmps.map (·.map (Qa l k))).getD t .undef= .undef
   rw [Ps (Qa l k) rfl,show st.tmps.getD t .undef= .undef from h]
   rfl
  ·exact h
 ·exact h
theorem aV: ∀(n i:Nat) (st:St) (t:Nat),st.get t= .undef->(Ib n i st).get t= .undef
 |0,_,_,_,h=>h
 |n+1,i,st,t,h=>by
  simp only [Ib]
  refine aV n (i+1) _ t ?_
  split
  ·split
   ·split
    ·exact h
    ·exact xd _ _ _ t h
   ·exact h
  ·exact h
theorem x8 (st:St) (d:Nat) (v:AV) (t:Nat) (Ek:t≠d) (h:st.get t= .undef):(st.put (some d) v).get t= .undef:=by rw [Xl _ _ Ek];exact h
theorem qM (k:Nat) (st:St) (t:Nat) (h:st.get t= .undef):(Xw k st).get t= .undef:=by
 unfold Xw
 split
 ·rename_i l off len hg
  split
  ·split
   ·refine x8 _ _ _ _ (λe=>by subst e;rw [hg] at h;cases h) ?_
    show (st.tmps.map (·.map (Bd l))).getD t .undef= .undef
    rw [Ps (Bd l) rfl,show st.tmps.getD t .undef= .undef from h]
    rfl
   ·exact h
  ·exact h
 ·exact h
theorem j6 (c:Nat) (st:St) (t:Nat) (h:st.get t= .undef):(Lc c st).get t= .undef:=by
 unfold Lc
 split
 ·split
  ·rename_i l off len hc
   split
   ·split
    ·split
     ·show (st.tmps.map (·.map (Bd l))).getD t .undef= .undef
      rw [Ps (Bd l) rfl,show st.tmps.getD t .undef= .undef from h]
      rfl
     ·exact h
    ·exact h
   ·exact h
  ·exact h
 ·exact h
theorem Zg (live:List Nat): ∀(n i:Nat) (st:St) (t:Nat),st.get t= .undef->(Kt live n i st).get t= .undef
 |0,_,_,_,h=>h
 |n+1,i,st,t,h=>by
  simp only [Kt]
  refine Zg live n (i+1) _ t ?_
  split
  ·exact j6 _ _ _ h
  ·exact h
theorem cK (live:List Nat): ∀(n i:Nat) (st:St) (t:Nat),st.get t= .undef->(Kf live n i st).get t= .undef
 |0,_,st,t,h=>Zg live 16 0 st t h
 |n+1,i,st,t,h=>by
  simp only [Kf]
  refine cK live n (i+1) _ t ?_
  split
  ·exact qM _ _ _ h
  ·exact h
theorem DP {live:List Nat} {st:St} {t:Nat} (h:((st.clean live).get t).Su=true):t∈live:=by
 refine Classical.byContradiction λhn=>?_
 have:(st.clean live).get t= .undef:=by
  have key: ∀s:St,s.get t= .undef->(if live.contains Zh then Ib s.tmps.length 0 s else s).get t= .undef:=by
   intro s hs
   split
   ·exact aV _ _ s t hs
   ·exact hs
  unfold St.clean
  have TB: ∀s:St,s.get t= .undef->(if live.any (λt=>Nat.ble Ol t) then s.En live else s).get t= .undef:=by
   intro s hs
   split<;>exact hs
  have TC: ∀s:St,s.get t= .undef->(if live.any (λt=>Nat.ble Mw t&&Nat.blt t Zh) then Kf live s.tmps.length 0 s else s).get t= .undef:=by
   intro s hs
   split
   ·exact cK _ _ _ s t hs
   ·exact hs
  refine TB _ (key _ (TC _ (cC _ _ t ?_)))
  exact dp live 0 st.tmps t (by simpa using hn)
 rw [this] at h
 cases h
theorem qc {c:AV} (h:c.Su=true): ∃fr τ,∃x:τ.den,c= .at (.data fr τ x):=by
 unfold AV.Su at h
 split at h
 ·exact ⟨_,_,_,rfl⟩
 ·cases h
theorem ON {live:Nat->List Nat} {c:Code} {t:Nat} (h:stays live c t=true):t∉writes c/\Xp live c t=true:=by
 unfold stays at h
 simpa using h
section
variable {T:Tab} {Γ:Env} {live:Nat->List Nat}
theorem Js.keeps {c:Code} {st:St} {Q:Ha->St->Prop} (h:Js T Γ live c st Q):Js T Γ live c st (λe s=>Q e s/\El (λt=>t∉writes c/\Xp live c t=true) st s):=by
 exact GS h st _ Az.rfl'.on λt ht=>ht
def wsQ (Q:Ha->WS->Prop) (e:Ha) (s:St):Prop:= ∃w':WS,w'.st=s/\w'.OK/\Q e w'
theorem zF {c:Code} (ih: ∀(w:WS) (Q:Ha->WS->Prop),w.OK->aw T Γ live c w Q->Js T Γ live c w.st (wsQ Q)) {w:WS} {Q:Ha->WS->Prop} (h:aw T Γ live (.loop c) w Q):
  Js T Γ live (.loop c) w.st (wsQ Q):=by
 simp only [aw,LU,iI] at h
 obtain ⟨hw0,I,μ,h0,hs⟩:=gZ h
 have Ad: ∀(t:Nat),((w.st.clean (live (Ci c))).get t).Su=true->stays live c t=true-> ∀v,((St.sG (Hw (stays live c) 0 (w.st.clean (live (Ci c))).tmps) (w.st.clean (live (Ci c))) (eH ((w.st.clean (live (Ci c))).mask (Hw (stays live c) 0 (w.st.clean (live (Ci c))).tmps)) v)).whole (Va T.parts (w.st.clean (live (Ci c))).tmps)).get t=(w.st.clean (live (Ci c))).get t:=by
  intro t h1 h2 v
  have h3:=uK (stays live c) 0 (w.st.clean (live (Ci c))).tmps (eH ((w.st.clean (live (Ci c))).mask (Hw (stays live c) 0 (w.st.clean (live (Ci c))).tmps)) v).tmps t
   ((cR _ _).trans (bL _ _)) h1 (by simpa using h2)
  obtain ⟨fr,τ,x,hx⟩:=qc h1
  refine (Ko _ _ rfl λ_ _ _=>rfl) t fr τ x ?_|>.trans hx.symm
  exact h3.trans hx
 have hmk: ∀(s1:St),(∀t,((w.st.clean (live (Ci c))).get t).Su=true->stays live c t=true->s1.get t=(w.st.clean (live (Ci c))).get t)->s1.whole (Va T.parts (w.st.clean (live (Ci c))).tmps)=s1-> ∀v,eI ((w.st.clean (live (Ci c))).mask (Hw (stays live c) 0 (w.st.clean (live (Ci c))).tmps)) (s1.mask (Hw (stays live c) 0 (w.st.clean (live (Ci c))).tmps))=some v->
   s1=(St.sG (Hw (stays live c) 0 (w.st.clean (live (Ci c))).tmps) (w.st.clean (live (Ci c))) (eH ((w.st.clean (live (Ci c))).mask (Hw (stays live c) 0 (w.st.clean (live (Ci c))).tmps)) v)).whole (Va T.parts (w.st.clean (live (Ci c))).tmps):=by
  intro s1 hf hwh v hv
  have h1:=eJ hv
  have h2:St.sG (Hw (stays live c) 0 (w.st.clean (live (Ci c))).tmps) (w.st.clean (live (Ci c))) (s1.mask (Hw (stays live c) 0 (w.st.clean (live (Ci c))).tmps))=s1:=by
   simp only [St.sG,St.mask]
   rw [qB (stays live c) 0 (w.st.clean (live (Ci c))).tmps s1.tmps λt h3 h4=>hf t h3 (by simpa using h4)]
  have h3:(St.sG (Hw (stays live c) 0 (w.st.clean (live (Ci c))).tmps) (w.st.clean (live (Ci c))) (eH ((w.st.clean (live (Ci c))).mask (Hw (stays live c) 0 (w.st.clean (live (Ci c))).tmps)) v)).whole (Va T.parts (w.st.clean (live (Ci c))).tmps)=s1.whole (Va T.parts (w.st.clean (live (Ci c))).tmps):=by
   refine CL ?_
   rw [qC,h1,<-qC,h2]
  rw [h3,hwh]
 refine NV (λv=>(St.sG (Hw (stays live c) 0 (w.st.clean (live (Ci c))).tmps) (w.st.clean (live (Ci c))) (eH ((w.st.clean (live (Ci c))).mask (Hw (stays live c) 0 (w.st.clean (live (Ci c))).tmps)) v)).whole (Va T.parts (w.st.clean (live (Ci c))).tmps)) I μ _ h0 (hmk _ (λ_ _ _=>rfl) hw0 _ (nJ _ (iZ _ _ (Oy h)))) ?_
 intro a ha
 refine (Js.keeps (ih ⟨[],_⟩ _ (λt b h=>by cases h) (hs a ha))).mono ?_
 intro e s hQ
 obtain ⟨⟨w',h1,h2,h3⟩,hk⟩:=hQ
 subst h1
 cases e with
 |normal=>
  obtain ⟨h4,h5⟩:=gZ h3
  obtain ⟨v',h6,h7,h8⟩:=As.1 h5
  refine ⟨v',hmk _ (λt hd ht=>?_) h4 _ h6,h7,h8⟩
  obtain ⟨fr,τ,x,hx⟩:=qc hd
  rw [hx]
  exact gP (live (Ci c)) w'.st t fr τ x (DP hd) (hk t fr τ x (ON ht) (by rw [Ad t hd ht a];exact hx))
 |exit id=>exact ⟨w',rfl,h2,h3⟩
 |ret=>exact ⟨w',rfl,h2,h3⟩
theorem mS: ∀(c:Code) (w:WS) (Q:Ha->WS->Prop),w.OK->aw T Γ live c w Q->Js T Γ live c w.st (wsQ Q):=by
 intro c
 induction c with
 |skip=>intro w Q hw h;exact .skip ⟨w,rfl,hw,h⟩
 |label _=>intro w Q hw h;exact .label ⟨w,rfl,hw,h⟩
 |exit _=>intro w Q hw h;exact .exit ⟨w,rfl,hw,h⟩
 |ret=>intro w Q hw h;exact .ret ⟨w,rfl,hw,h⟩
 |region id ops draw=>
  intro w Q hw h
  have hw':WS.OK {w with st:=w.st.jC ops} := λt b ht=>by
   obtain ⟨fr,e⟩:=hw t b ht
   exact ⟨fr,gQ ops w.st t fr .bool b e⟩
  exact .region ((sU hw' h).mono λs ⟨w',h1,h2,h3⟩=>⟨w',h1,h2,Sp.1 h3⟩)
 |seq x y ihx ihy=>
  intro w Q hw h
  refine UO ((ihx w _ hw h).mono λe s hQ=>?_)
  obtain ⟨w',h1,h2,h3⟩:=hQ
  subst h1
  cases e with
  |normal=>exact ihy w' Q h2 h3
  |exit id=>exact ⟨w',rfl,h2,h3⟩
  |ret=>exact ⟨w',rfl,h2,h3⟩
 |cond c x y ihx ihy=>
  intro w Q hw h
  obtain ⟨fr,b,w',h1,h2,h3,h4⟩:=tY hw h
  refine NU h1 (λhb=>?_) (λhb=>?_)
  ·subst hb;rw [<-h2];exact ihx w' Q h3 h4
  ·subst hb;rw [<-h2];exact ihy w' Q h3 h4
 |block id c ih=>
  intro w Q hw h
  refine GR ((ih w _ hw h).mono λe s hQ=>?_)
  obtain ⟨w',h1,h2,h3⟩:=hQ
  subst h1
  cases e with
  |normal=>exact ⟨w',rfl,h2,h3⟩
  |ret=>exact ⟨w',rfl,h2,h3⟩
  |exit MI=>
   simp only at h3
   simp only [uq]
   split at h3
   ·rename_i hi;rw [if_pos hi];exact ⟨w',rfl,h2,h3⟩
   ·rename_i hi;rw [if_neg hi];exact ⟨w',rfl,h2,h3⟩
 |loop c ih=>intro w Q hw h;exact zF ih h
 |_=>intro w Q hw h;exact absurd h (by simp [aw])
theorem py {s:Spec} {fn:Func} {P:s.res.den->Prop} {st:St} (h:Abq T s fn P st): ∃fr y,jM T s fn st=some (fr,y)/\(fr||!s.fresh)=true/\P y:=by
 obtain ⟨p,h1,h2⟩:=As.1 h
 split at h2
 ·rename_i hf;exact ⟨p.1,p.2,h1,hf,h2⟩
 ·cases h2
theorem LS {s:Spec} {fn:Func} {x:s.arg.den} {P:s.res.den->Prop} (h:fnW T Γ s fn x P):QD T Γ s fn x P:=by
 unfold fnW at h
 obtain ⟨c,h1,h2⟩:=As.1 h
 refine ⟨c,h1,(mS c _ _ (λt b h=>by cases h) h2).mono λe st ⟨w,h4,h5,h6⟩=>?_⟩
 subst h4
 cases e with
 |normal=>exact ⟨λid hh=>(by cases hh),py h6⟩
 |ret=>exact ⟨λid hh=>(by cases hh),py h6⟩
 |exit id=>cases h6
theorem Zd {st:St} {K:Prop} : ∀(vs:List AC) (cs:List (Bool×CK)),dV st K vs cs->dU st vs cs/\K
 | [],cs,h=>⟨by simp [dU],by simpa [dV] using h⟩
 |a::vs,[],h=>⟨by cases a<;>simp [dU],by cases a<;>simpa [dV] using h⟩
 |a::vs,(false,c)::r,h=>by
  have h:dV st K vs r:=by cases a<;>simpa only [dV] using h
  obtain ⟨h1,h2⟩:=Zd vs r h
  exact ⟨by cases a<;>simpa only [dU] using h1,h2⟩
 |a::vs,(true,c)::r,h=>by
  cases a with
  |own l off len=>
   simp only [dV] at h
   split at h
   ·rename_i hl
    obtain ⟨h1,h2⟩:=Zd vs r h.2
    refine ⟨?_,h2⟩
    simp only [dU,hl]
    exact ⟨h.1,h1⟩
   ·rename_i hl
    obtain ⟨h1,h2⟩:=Zd vs r h.2
    refine ⟨?_,h2⟩
    simp only [dU,hl]
    exact ⟨h.1,h1⟩
   ·exact h.elim
  |_=>exact ⟨by simp [dU],by simpa [dV] using h⟩
theorem bP {st:St} : ∀(cs:List CK) (as:List AC) (K:CKs.den cs->List Nat->Prop),lY st cs as K-> ∃x ls,Pz st cs as=some (x,ls)/\K x ls
 | [],[],K,h=>⟨(),[],rfl,h⟩
 | [],_::_,_,h=>h.elim
 |c::r,[],K,h=>by cases c<;>exact h.elim
 |c::r,a::as,K,h=>by
  have sa:Dz (gk st c a) (λp=>lY st r as λy t=>K (p.1,y) (p.2++t))-> ∃x ls,Pz st (c::r) (a::as)=some (x,ls)/\K x ls:= λh=>by
   obtain ⟨p,h1,h2⟩:=As.1 h
   obtain ⟨y,t,h3,h4⟩:=bP r as _ h2
   exact ⟨_,_,by simp only [Pz,h1,h3],h4⟩
  cases c with
  |Al e te kp=>
   cases a with
   |own l off len=>
    simp only [lY] at h
    split at h
    ·rename_i hl
     split at h
     ·rename_i hc
      obtain ⟨⟨h1,h2⟩,h⟩:=h
      obtain ⟨y,t,h3,h4⟩:=bP r as _ h
      exact ⟨_,_,by simp only [Pz,gk,hl];rw [dif_pos ⟨hc.1,hc.2,h1,h2⟩];simp only [h3];rfl,h4⟩
     ·exact h.elim
    ·exact h.elim
   |_=>exact sa h
  |_=>exact sa h
theorem kf {st:St} {n:Nat} {as:List AC} {K:Prop} : ∀(ks:List (Nat×Nat)),wC st n as ks K->ux st n as ks/\K
 | [],h=>⟨trivial,h⟩
 |(k,j)::r,h=>by
  simp only [wC] at h
  split at h
  ·rename_i l off len ha
   split at h
   ·rename_i p hl
    split at h
    ·rename_i hc
     simp only [Bool.and_eq_true] at hc
     obtain ⟨h1,h2⟩:=kf r h.2
     refine ⟨?_,h2⟩
     simp only [ux,ha,hl]
     exact ⟨⟨Nat.eq_of_beq_eq_true hc.1,h.1,hc.2⟩,h1⟩
    ·exact h.elim
   ·exact h.elim
  ·exact h.elim
theorem ew {s:MSpec} {fn:Func} {x:Ins.den s.ins} {st:St} {cs:List AC} {P:CKs.den s.outs×IOs.den s.ins->Prop} (h:qR T s fn x st cs P):fL T s fn x st cs P:=by
 obtain ⟨l,h1,h⟩:=As.1 h
 obtain ⟨⟨as,ml⟩,h2,h⟩:=As.1 h
 obtain ⟨r,ls,h3,h⟩:=bP _ _ _ h
 obtain ⟨o,h4,h⟩:=As.1 h
 split at h
 ·rename_i hc
  obtain ⟨h5,h6⟩:=kf _ h
  unfold fL
  simp only [h1,h2,h3,h4]
  exact ⟨hc,h5,h6⟩
 ·exact h.elim
theorem nE {s:MSpec} {fn:Func} {x:Ins.den s.ins} {st:St} {P:CKs.den s.outs×IOs.den s.ins->Prop} (h:KN T s fn x st P):QC T s fn x st P:=by
 unfold KN at h
 unfold QC
 cases hp:s.ptr with
 |none=>rw [hp] at h;exact ew h
 |some p=>
  rw [hp] at h
  simp only at h⊢
  split at h
  ·rename_i tid vs hl
   split at h
   ·rename_i hc
    simp only [Bool.and_eq_true] at hc
    obtain ⟨h1,h2⟩:=hc
    have h1:tid=p.1:=Nat.eq_of_beq_eq_true h1
    have h2:=Nat.eq_of_beq_eq_true h2
    subst h1
    obtain ⟨cs,h3,h4⟩:=As.1 h
    obtain ⟨h5,h6⟩:=Zd vs s.ins h4
    exact ⟨vs,cs,hl,h2,h3,h5,ew h6⟩
   ·exact h.elim
  ·exact h.elim
theorem EA {s:MSpec} {fn:Func} {x:Ins.den s.ins} {P:CKs.den s.outs×IOs.den s.ins->Prop} (h:fnMW T Γ s fn x P):ZS T Γ s fn x P:=by
 unfold fnMW at h
 split at h
 ·cases h
 rename_i hlen
 obtain ⟨c,h1,h2⟩:=As.1 h
 refine ⟨hlen,c,h1,(mS c _ _ (λt b h=>by cases h) h2).mono λe st ⟨w,h4,h5,h6⟩=>?_⟩
 subst h4
 cases e with
 |normal=>exact ⟨λid hh=>(by cases hh),nE h6⟩
 |ret=>exact ⟨λid hh=>(by cases hh),nE h6⟩
 |exit id=>cases h6
theorem Ay.ofW {P:Program} (hT:By P T) (Kn:Gq P Γ) (hm:P.follows .mixedOrders=true) {f:FuncId} {fn:Func} (hf:P.funcs[f]?=some fn) (hn:(fn.name== "runtime.NumGoroutine")=false)
  (hb:fn.body.isNone=false) (s:MSpec) (h: ∀x y,s.fn x=some y->fnMW T Γ s fn x (λz=>z=y)):Ay P f s:=
 ⟨dk hf hn hb,λw S π us x r o g vs h1 hg h2 h3 hS h4 h5=>sm hT Kn hm hf s w S π us x r o g vs h1 hg h2 h3 hS h4 (EA (h x (r,o) h5))⟩
theorem Sound.ofW {P:Program} (hT:By P T) (Kn:Gq P Γ) (hm:P.follows .mixedOrders=true) {f:FuncId} {fn:Func} (hf:P.funcs[f]?=some fn) (hn:(fn.name== "runtime.NumGoroutine")=false)
  (hb:fn.body.isNone=false) (s:Spec) (h: ∀x y,s.fn x=some y->fnW T Γ s fn x (λz=>z=y)):Sound P f s:=
 UQ hT Kn hm hf hn hb s λx y hx=>LS (h x y hx)
end
end Go.Proofs.YtfolipnappekaaaGreat
