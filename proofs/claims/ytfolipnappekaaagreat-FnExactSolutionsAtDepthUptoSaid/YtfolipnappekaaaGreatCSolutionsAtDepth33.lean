/-
  Part 34 of the proof that the statement FnExactSolutionsAtDepth holds.
-/
import Derived.Test.YtfolipnappekaaaGreatCSolutionsAtDepth32
namespace Go.Proofs.YtfolipnappekaaaGreat
open Go.RowKit
theorem Ox {B:List (Nat×Nat×Nat)} {H:List (Nat×OB)} : ∀ {l:List AV} {K:Prop},Wu B H l K-> ∀c∈l,c.gQ=true
 | [],_,_,c,hc=>by cases hc
 |d::l,K,h,c,hc=>by
  simp only [Wu] at h
  cases d with
  |Ih l'=>exact h.elim
  | «at»a=>
   rcases List.mem_cons.1 hc with rfl|hc
   ·rfl
   ·have h':Wu B H l K:=by
     cases a with
     |own k o n=>exact h.2.2
     |_=>exact h
    exact Ox h' c hc
  |Wv _ _ _=>
   rcases List.mem_cons.1 hc with rfl|hc
   ·rfl
   ·exact Ox h c hc
  |agg cs=>
   rcases List.mem_cons.1 hc with rfl|hc
   ·rfl
   ·have: ∀(cs:List AC) (Q:Prop),ah B H cs Q->Q:=by
     intro cs
     induction cs with
     |nil=>exact λQ h=>h
     |cons a cs ih=>
      intro Q h
      have h2:ah B H cs Q:=by
       cases a with
       |own k o n=>exact h.2.2
       |_=>exact h
      exact ih Q h2
    exact Ox (this cs _ h) c hc
theorem iR: ∀(f:List Bool) (l:List AV),(∀c∈l,c.gQ=true)-> ∀c∈Px f l,c.gQ=true
 | [],l,h=>by simpa [Px] using h
 |true::f,[],h=>by simp [Px] at h⊢
 |false::f,[],h=>by simp [Px] at h⊢
 |true::f,a::l,h=>by
  intro c hc
  simp only [Px,List.mem_cons] at hc
  rcases hc with rfl|hc
  ·rfl
  ·exact iR f l (λc hc=>h c (List.mem_cons_of_mem _ hc)) c hc
 |false::f,a::l,h=>by
  intro c hc
  simp only [Px,List.mem_cons] at hc
  rcases hc with rfl|hc
  ·exact h c (by simp)
  ·exact iR f l (λc hc=>h c (List.mem_cons_of_mem _ hc)) c hc
theorem MF (f:AC->AC) (H:List (Nat×OB)) (l:Nat):lenOf (H.map λp=>(p.1,p.2.map f)) l=lenOf H l:=by
 unfold lenOf
 rw [Kb]
 cases Ad H l with
 |none=>rfl
 |some b=>cases b<;>rfl
theorem CR (f g:AC->AC) (c:AV):(c.map f).map g=c.map λa=>g (f a):=by
 cases c<;>simp [AV.map]
theorem FC (f g:AC->AC) (c:OB):(c.map f).map g=c.map λa=>g (f a):=by
 cases c<;>simp [OB.map]
theorem zx (s:St) (f g:AC->AC):(s.Gl f).Gl g=s.Gl λa=>g (f a):=by
 simp [St.Gl,List.map_map,Function.comp_def,CR,FC]
theorem zl (f:AC->AC) (H:List (Nat×OB)) (l:Nat): ∀(B:List (Nat×Nat×Nat)),MD B (H.map λp=>(p.1,p.2.map f)) l=MD B H l
 | []=>MF f H l
 |(k,o,n)::r=>by simp only [MD];rw [zl f H l r]
theorem CC (B:List (Nat×Nat×Nat)) (s:St):(s.Gl Nq).whole B=s.whole B:=by
 unfold St.whole
 rw [zx]
 congr 1
 funext a
 cases a with
 |own l off len=>simp only [Nq,cg,St.Gl,zl]
 |_=>rfl
theorem CB {B:List (Nat×Nat×Nat)} {s t:St} (h:s.Gl Nq=t.Gl Nq):s.whole B=t.whole B:=by rw [<-CC B s,h,CC]
theorem lS (f:AC->AC): ∀(fx:List Bool) (a b:List AV),(Ra fx a b).map (·.map f)=Ra fx (a.map (·.map f)) (b.map (·.map f))
 | [],_,_=>by simp [Ra]
 |_::_,[],_=>by simp [Ra]
 |true::_,_::_,[]=>by simp [Ra]
 |false::_,_::_,[]=>by simp [Ra]
 |true::fx,x::a,y::b=>by simp only [Ra,List.map_cons,lS f fx a b]
 |false::fx,x::a,y::b=>by simp only [Ra,List.map_cons,lS f fx a b]
theorem qp (f:AC->AC) (fx:List Bool) (a b:St):(St.sx fx a b).Gl f=St.sx fx (a.Gl f) (b.Gl f):=by
 simp only [St.sx,St.Gl,lS]
theorem qo (p:Nat->Bool): ∀(i:Nat) (l0 l1:List AV),(∀t,(l0.getD t .undef).Sq=true->p (i+t)=true->l1.getD t .undef=l0.getD t .undef)->
  Ra (Hw p i l0) l0 (Px (Hw p i l0) l1)=l1
 |_,[],l1,_=>by simp [Hw,Px,Ra]
 |i,a::r,[],_=>by
  simp only [Hw]
  cases (a.Sq&&p i)<;>simp [Px,Ra]
 |i,a::r,b::s,h=>by
  have hr:=qo p (i+1) r s λt h1 h2=>by
   have:=h (t+1) (by simpa using h1) (by rw [show i+(t+1)=i+1+t by omega];exact h2)
   simpa using this
  simp only [Hw]
  cases hc:(a.Sq&&p i) with
  |false=>simp only [Px,Ra];rw [hr]
  |true=>
   simp only [Px,Ra]
   rw [hr]
   simp only [Bool.and_eq_true] at hc
   have:=h 0 (by simpa using hc.1) hc.2
   simp only [List.getD_cons_zero] at this
   rw [this]
theorem bI: ∀(f:List Bool) (l:List AV),(Px f l).length=l.length
 | [],l=>by simp [Px]
 |true::f,[]=>by simp [Px]
 |false::f,[]=>by simp [Px]
 |true::f,a::l=>by simp [Px,bI f l]
 |false::f,a::l=>by simp [Px,bI f l]
theorem cM: ∀(l:List AV) {R:Type} (v:nG l R),(Rj l v).1.length=l.length
 | [],_,_=>rfl
 |c::l,_,v=>by simp [Rj,cM l]
theorem uE (p:Nat->Bool): ∀(i:Nat) (l0 l:List AV) (t:Nat),l.length=l0.length->(l0.getD t .undef).Sq=true->p (i+t)=true->(Ra (Hw p i l0) l0 l).getD t .undef=l0.getD t .undef
 |_,[],_,t,_,h,_=>by simp [AV.Sq] at h
 |i,a::r,[],_,h,_,_=>by simp at h
 |i,a::r,b::s,0,_,h1,h2=>by
  have:(a.Sq&&p i)=true:=by
   simp only [Bool.and_eq_true]
   exact ⟨by simpa using h1,h2⟩
  simp only [Hw,this,Ra,List.getD_cons_zero]
 |i,a::r,b::s,t+1,hl,h1,h2=>by
  have hr:=uE p (i+1) r s t (by simpa using hl) (by simpa using h1) (by rw [show i+1+t=i+(t+1) by omega];exact h2)
  simp only [Hw]
  cases (a.Sq&&p i)<;>simpa only [Ra,List.getD_cons_succ] using hr
theorem gp {B:List (Nat×Nat×Nat)} {H:List (Nat×OB)} {c:AC} {K:Prop} (h:vA B H c K):cg B H c=c/\K:=by
 cases c with
 |own l off len=>obtain ⟨h1,h2,h3⟩:=h;exact ⟨by rw [h1,h2];rfl,h3⟩
 |_=>exact ⟨rfl,h⟩
theorem Wz {B:List (Nat×Nat×Nat)} {H:List (Nat×OB)} : ∀ {l:List AC} {K:Prop},ah B H l K->l.map (cg B H)=l/\K
 | [],_,h=>⟨rfl,h⟩
 |c::l,_,h=>by
  obtain ⟨h1,h2⟩:=gp h
  obtain ⟨h3,h4⟩:=Wz h2
  exact ⟨by rw [List.map_cons,h1,h3],h4⟩
theorem rX {B:List (Nat×Nat×Nat)} {H:List (Nat×OB)} {c:AV} {K:Prop} (h:IQ B H c K):c.map (cg B H)=c/\K:=by
 cases c with
 | «at»a=>obtain ⟨h1,h2⟩:=gp h;exact ⟨by rw [AV.map,h1],h2⟩
 |agg cs=>obtain ⟨h1,h2⟩:=Wz h;exact ⟨by rw [AV.map,h1],h2⟩
 |Wv _ _ _=>exact ⟨rfl,h⟩
 |Ih l=>exact h.elim
theorem cN {B:List (Nat×Nat×Nat)} {H:List (Nat×OB)} : ∀ {l:List AV} {K:Prop},Wu B H l K->l.map (·.map (cg B H))=l/\K
 | [],_,h=>⟨rfl,h⟩
 |c::l,_,h=>by
  obtain ⟨h1,h2⟩:=rX h
  obtain ⟨h3,h4⟩:=cN h2
  exact ⟨by rw [List.map_cons,h1,h3],h4⟩
theorem Iu {B:List (Nat×Nat×Nat)} {H:List (Nat×OB)} : ∀ {l:List (Nat×OB)} {K:Prop},fi B H l K->l.map (λp=>(p.1,p.2.map (cg B H)))=l/\K
 | [],_,h=>⟨rfl,h⟩
 |(k, .var t vs)::l,_,h=>by
  obtain ⟨h1,h2⟩:=Wz h
  obtain ⟨h3,h4⟩:=Iu h2
  exact ⟨by rw [List.map_cons,h3];simp only [OB.map,h1],h4⟩
 |(k, .arr a b c d e)::l,_,h=>by
  obtain ⟨h3,h4⟩:=Iu (l:=l) h
  exact ⟨by rw [List.map_cons,h3];rfl,h4⟩
 |(k, .Dg a b c)::l,_,h=>by
  obtain ⟨h3,h4⟩:=Iu (l:=l) h
  exact ⟨by rw [List.map_cons,h3];rfl,h4⟩
 |(k, .Al a b c d e)::l,_,h=>by
  obtain ⟨h3,h4⟩:=Iu (l:=l) h
  exact ⟨by rw [List.map_cons,h3];rfl,h4⟩
 |(k, .Qh a b)::l,_,h=>by
  obtain ⟨h3,h4⟩:=Iu (l:=l) h
  exact ⟨by rw [List.map_cons,h3];rfl,h4⟩
theorem gW {B:List (Nat×Nat×Nat)} {s:St} {K:Prop} (h:xm B s K):s.whole B=s/\K:=by
 obtain ⟨h1,h2⟩:=cN h
 obtain ⟨h3,h4⟩:=Iu h2
 exact ⟨by unfold St.whole St.Gl;rw [h1,h3],h4⟩
theorem dh (live:List Nat): ∀(i:Nat) (l:List AV) (t:Nat),i+t∉live->(Ga live i l).getD t .undef= .undef
 |_,[],_,_=>rfl
 |i,v::r,0,h=>by simp [Ga];intro hn;exact absurd hn h
 |i,v::r,t+1,h=>by
  simp only [Ga,List.getD_cons_succ]
  exact dh live (i+1) r t (by rw [show i+1+t=i+(t+1) by omega];exact h)
theorem cw: ∀(l:List Nat) (st:St) (t:Nat),st.get t= .undef->(aA l st).get t= .undef
 | [],_,_,h=>h
 |a::r,st,t,h=>cw r _ t (by
  show (st.tmps.map (·.map (Bd a))).getD t .undef= .undef
  rw [Pr (Bd a) rfl,show st.tmps.getD t .undef= .undef from h]
  rfl)
theorem x4 (l k:Nat) (st:St) (t:Nat) (h:st.get t= .undef):(st.rename l k).get t= .undef:=by
 unfold St.rename
 split
 ·split
  ·show (st.tmps.map (·.map (Pz l k))).getD t .undef= .undef
   rw [Pr (Pz l k) rfl,show st.tmps.getD t .undef= .undef from h]
   rfl
  ·exact h
 ·exact h
theorem aR: ∀(n i:Nat) (st:St) (t:Nat),st.get t= .undef->(Ib n i st).get t= .undef
 |0,_,_,_,h=>h
 |n+1,i,st,t,h=>by
  simp only [Ib]
  refine aR n (i+1) _ t ?_
  split
  ·split
   ·split
    ·exact h
    ·exact x4 _ _ _ t h
   ·exact h
  ·exact h
theorem wV (st:St) (d:Nat) (v:AV) (t:Nat) (Ek:t≠d) (h:st.get t= .undef):(st.put (some d) v).get t= .undef:=by rw [Xg _ _ Ek];exact h
theorem qD (k:Nat) (st:St) (t:Nat) (h:st.get t= .undef):(Xr k st).get t= .undef:=by
 unfold Xr
 split
 ·rename_i l off len hg
  split
  ·split
   ·refine wV _ _ _ _ (λe=>by subst e;rw [hg] at h;cases h) ?_
    show (st.tmps.map (·.map (Bd l))).getD t .undef= .undef
    rw [Pr (Bd l) rfl,show st.tmps.getD t .undef= .undef from h]
    rfl
   ·exact h
  ·exact h
 ·exact h
theorem iV (c:Nat) (st:St) (t:Nat) (h:st.get t= .undef):(La c st).get t= .undef:=by
 unfold La
 split
 ·split
  ·rename_i l off len hc
   split
   ·split
    ·split
     ·show (st.tmps.map (·.map (Bd l))).getD t .undef= .undef
      rw [Pr (Bd l) rfl,show st.tmps.getD t .undef= .undef from h]
      rfl
     ·exact h
    ·exact h
   ·exact h
  ·exact h
 ·exact h
theorem Zb (live:List Nat): ∀(n i:Nat) (st:St) (t:Nat),st.get t= .undef->(Kr live n i st).get t= .undef
 |0,_,_,_,h=>h
 |n+1,i,st,t,h=>by
  simp only [Kr]
  refine Zb live n (i+1) _ t ?_
  split
  ·exact iV _ _ _ h
  ·exact h
theorem cF (live:List Nat): ∀(n i:Nat) (st:St) (t:Nat),st.get t= .undef->(Kd live n i st).get t= .undef
 |0,_,st,t,h=>Zb live 16 0 st t h
 |n+1,i,st,t,h=>by
  simp only [Kd]
  refine cF live n (i+1) _ t ?_
  split
  ·exact qD _ _ _ h
  ·exact h
theorem DF {live:List Nat} {st:St} {t:Nat} (h:((st.clean live).get t).Sq=true):t∈live:=by
 refine Classical.byContradiction λhn=>?_
 have:(st.clean live).get t= .undef:=by
  have key: ∀s:St,s.get t= .undef->(if live.contains Zc then Ib s.tmps.length 0 s else s).get t= .undef:=by
   intro s hs
   split
   ·exact aR _ _ s t hs
   ·exact hs
  unfold St.clean
  have SO: ∀s:St,s.get t= .undef->(if live.any (λt=>Nat.ble Oj t) then s.En live else s).get t= .undef:=by
   intro s hs
   split<;>exact hs
  have SP: ∀s:St,s.get t= .undef->(if live.any (λt=>Nat.ble Mu t&&Nat.blt t Zc) then Kd live s.tmps.length 0 s else s).get t= .undef:=by
   intro s hs
   split
   ·exact cF _ _ _ s t hs
   ·exact hs
  refine SO _ (key _ (SP _ (cw _ _ t ?_)))
  exact dh live 0 st.tmps t (by simpa using hn)
 rw [this] at h
 cases h
theorem pX {c:AV} (h:c.Sq=true): ∃fr τ,∃x:τ.den,c= .at (.data fr τ x):=by
 unfold AV.Sq at h
 split at h
 ·exact ⟨_,_,_,rfl⟩
 ·cases h
theorem OC {live:Nat->List Nat} {c:Code} {t:Nat} (h:stays live c t=true):t∉writes c/\Xk live c t=true:=by
 unfold stays at h
 simpa using h
section
variable {T:Tab} {Γ:Env} {live:Nat->List Nat}
theorem Jq.keeps {c:Code} {st:St} {Q:Ha->St->Prop} (h:Jq T Γ live c st Q):Jq T Γ live c st (λe s=>Q e s/\El (λt=>t∉writes c/\Xk live c t=true) st s):=by
 exact GK h st _ Az.rfl'.on λt ht=>ht
def wsQ (Q:Ha->WS->Prop) (e:Ha) (s:St):Prop:= ∃w':WS,w'.st=s/\w'.OK/\Q e w'
theorem zu {c:Code} (ih: ∀(w:WS) (Q:Ha->WS->Prop),w.OK->ao T Γ live c w Q->Jq T Γ live c w.st (wsQ Q)) {w:WS} {Q:Ha->WS->Prop} (h:ao T Γ live (.loop c) w Q):
  Jq T Γ live (.loop c) w.st (wsQ Q):=by
 simp only [ao,LJ,iB] at h
 obtain ⟨hw0,I,μ,h0,hs⟩:=gW h
 have Ad: ∀(t:Nat),((w.st.clean (live (Ci c))).get t).Sq=true->stays live c t=true-> ∀v,((St.sx (Hw (stays live c) 0 (w.st.clean (live (Ci c))).tmps) (w.st.clean (live (Ci c))) (eC ((w.st.clean (live (Ci c))).mask (Hw (stays live c) 0 (w.st.clean (live (Ci c))).tmps)) v)).whole (Uw T.parts (w.st.clean (live (Ci c))).tmps)).get t=(w.st.clean (live (Ci c))).get t:=by
  intro t h1 h2 v
  have h3:=uE (stays live c) 0 (w.st.clean (live (Ci c))).tmps (eC ((w.st.clean (live (Ci c))).mask (Hw (stays live c) 0 (w.st.clean (live (Ci c))).tmps)) v).tmps t
   ((cM _ _).trans (bI _ _)) h1 (by simpa using h2)
  obtain ⟨fr,τ,x,hx⟩:=pX h1
  refine (Km _ _ rfl λ_ _ _=>rfl) t fr τ x ?_|>.trans hx.symm
  exact h3.trans hx
 have hmk: ∀(s1:St),(∀t,((w.st.clean (live (Ci c))).get t).Sq=true->stays live c t=true->s1.get t=(w.st.clean (live (Ci c))).get t)->s1.whole (Uw T.parts (w.st.clean (live (Ci c))).tmps)=s1-> ∀v,eD ((w.st.clean (live (Ci c))).mask (Hw (stays live c) 0 (w.st.clean (live (Ci c))).tmps)) (s1.mask (Hw (stays live c) 0 (w.st.clean (live (Ci c))).tmps))=some v->
   s1=(St.sx (Hw (stays live c) 0 (w.st.clean (live (Ci c))).tmps) (w.st.clean (live (Ci c))) (eC ((w.st.clean (live (Ci c))).mask (Hw (stays live c) 0 (w.st.clean (live (Ci c))).tmps)) v)).whole (Uw T.parts (w.st.clean (live (Ci c))).tmps):=by
  intro s1 hf hwh v hv
  have h1:=eE hv
  have h2:St.sx (Hw (stays live c) 0 (w.st.clean (live (Ci c))).tmps) (w.st.clean (live (Ci c))) (s1.mask (Hw (stays live c) 0 (w.st.clean (live (Ci c))).tmps))=s1:=by
   simp only [St.sx,St.mask]
   rw [qo (stays live c) 0 (w.st.clean (live (Ci c))).tmps s1.tmps λt h3 h4=>hf t h3 (by simpa using h4)]
  have h3:(St.sx (Hw (stays live c) 0 (w.st.clean (live (Ci c))).tmps) (w.st.clean (live (Ci c))) (eC ((w.st.clean (live (Ci c))).mask (Hw (stays live c) 0 (w.st.clean (live (Ci c))).tmps)) v)).whole (Uw T.parts (w.st.clean (live (Ci c))).tmps)=s1.whole (Uw T.parts (w.st.clean (live (Ci c))).tmps):=by
   refine CB ?_
   rw [qp,h1,<-qp,h2]
  rw [h3,hwh]
 refine NL (λv=>(St.sx (Hw (stays live c) 0 (w.st.clean (live (Ci c))).tmps) (w.st.clean (live (Ci c))) (eC ((w.st.clean (live (Ci c))).mask (Hw (stays live c) 0 (w.st.clean (live (Ci c))).tmps)) v)).whole (Uw T.parts (w.st.clean (live (Ci c))).tmps)) I μ _ h0 (hmk _ (λ_ _ _=>rfl) hw0 _ (nA _ (iR _ _ (Ox h)))) ?_
 intro a ha
 refine (Jq.keeps (ih ⟨[],_⟩ _ (λt b h=>by cases h) (hs a ha))).mono ?_
 intro e s hQ
 obtain ⟨⟨w',h1,h2,h3⟩,hk⟩:=hQ
 subst h1
 cases e with
 |normal=>
  obtain ⟨h4,h5⟩:=gW h3
  obtain ⟨v',h6,h7,h8⟩:=As.1 h5
  refine ⟨v',hmk _ (λt hd ht=>?_) h4 _ h6,h7,h8⟩
  obtain ⟨fr,τ,x,hx⟩:=pX hd
  rw [hx]
  exact gM (live (Ci c)) w'.st t fr τ x (DF hd) (hk t fr τ x (OC ht) (by rw [Ad t hd ht a];exact hx))
 |exit id=>exact ⟨w',rfl,h2,h3⟩
 |ret=>exact ⟨w',rfl,h2,h3⟩
theorem mJ: ∀(c:Code) (w:WS) (Q:Ha->WS->Prop),w.OK->ao T Γ live c w Q->Jq T Γ live c w.st (wsQ Q):=by
 intro c
 induction c with
 |skip=>intro w Q hw h;exact .skip ⟨w,rfl,hw,h⟩
 |label _=>intro w Q hw h;exact .label ⟨w,rfl,hw,h⟩
 |exit _=>intro w Q hw h;exact .exit ⟨w,rfl,hw,h⟩
 |ret=>intro w Q hw h;exact .ret ⟨w,rfl,hw,h⟩
 |region id ops draw=>
  intro w Q hw h
  have hw':WS.OK {w with st:=w.st.ju ops} := λt b ht=>by
   obtain ⟨fr,e⟩:=hw t b ht
   exact ⟨fr,gN ops w.st t fr .bool b e⟩
  exact .region ((sM hw' h).mono λs ⟨w',h1,h2,h3⟩=>⟨w',h1,h2,Sm.1 h3⟩)
 |seq x y ihx ihy=>
  intro w Q hw h
  refine UE ((ihx w _ hw h).mono λe s hQ=>?_)
  obtain ⟨w',h1,h2,h3⟩:=hQ
  subst h1
  cases e with
  |normal=>exact ihy w' Q h2 h3
  |exit id=>exact ⟨w',rfl,h2,h3⟩
  |ret=>exact ⟨w',rfl,h2,h3⟩
 |cond c x y ihx ihy=>
  intro w Q hw h
  obtain ⟨fr,b,w',h1,h2,h3,h4⟩:=tQ hw h
  refine NK h1 (λhb=>?_) (λhb=>?_)
  ·subst hb;rw [<-h2];exact ihx w' Q h3 h4
  ·subst hb;rw [<-h2];exact ihy w' Q h3 h4
 |block id c ih=>
  intro w Q hw h
  refine GJ ((ih w _ hw h).mono λe s hQ=>?_)
  obtain ⟨w',h1,h2,h3⟩:=hQ
  subst h1
  cases e with
  |normal=>exact ⟨w',rfl,h2,h3⟩
  |ret=>exact ⟨w',rfl,h2,h3⟩
  |exit LY=>
   simp only at h3
   simp only [uf]
   split at h3
   ·rename_i hi;rw [if_pos hi];exact ⟨w',rfl,h2,h3⟩
   ·rename_i hi;rw [if_neg hi];exact ⟨w',rfl,h2,h3⟩
 |loop c ih=>intro w Q hw h;exact zu ih h
 |_=>intro w Q hw h;exact absurd h (by simp [ao])
theorem pk {s:Spec} {fn:Func} {P:s.res.den->Prop} {st:St} (h:Abh T s fn P st): ∃fr y,jE T s fn st=some (fr,y)/\(fr||!s.fresh)=true/\P y:=by
 obtain ⟨p,h1,h2⟩:=As.1 h
 split at h2
 ·rename_i hf;exact ⟨p.1,p.2,h1,hf,h2⟩
 ·cases h2
theorem LI {s:Spec} {fn:Func} {x:s.arg.den} {P:s.res.den->Prop} (h:fnW T Γ s fn x P):PT T Γ s fn x P:=by
 unfold fnW at h
 obtain ⟨c,h1,h2⟩:=As.1 h
 refine ⟨c,h1,(mJ c _ _ (λt b h=>by cases h) h2).mono λe st ⟨w,h4,h5,h6⟩=>?_⟩
 subst h4
 cases e with
 |normal=>exact ⟨λid hh=>(by cases hh),pk h6⟩
 |ret=>exact ⟨λid hh=>(by cases hh),pk h6⟩
 |exit id=>cases h6
theorem Yy {st:St} {K:Prop} : ∀(vs:List AC) (cs:List (Bool×CK)),dQ st K vs cs->dP st vs cs/\K
 | [],cs,h=>⟨by simp [dP],by simpa [dQ] using h⟩
 |a::vs,[],h=>⟨by cases a<;>simp [dP],by cases a<;>simpa [dQ] using h⟩
 |a::vs,(false,c)::r,h=>by
  have h:dQ st K vs r:=by cases a<;>simpa only [dQ] using h
  obtain ⟨h1,h2⟩:=Yy vs r h
  exact ⟨by cases a<;>simpa only [dP] using h1,h2⟩
 |a::vs,(true,c)::r,h=>by
  cases a with
  |own l off len=>
   simp only [dQ] at h
   split at h
   ·rename_i hl
    obtain ⟨h1,h2⟩:=Yy vs r h.2
    refine ⟨?_,h2⟩
    simp only [dP,hl]
    exact ⟨h.1,h1⟩
   ·rename_i hl
    obtain ⟨h1,h2⟩:=Yy vs r h.2
    refine ⟨?_,h2⟩
    simp only [dP,hl]
    exact ⟨h.1,h1⟩
   ·exact h.elim
  |_=>exact ⟨by simp [dP],by simpa [dQ] using h⟩
theorem bM {st:St} : ∀(cs:List CK) (as:List AC) (K:CKs.den cs->List Nat->Prop),lR st cs as K-> ∃x ls,Py st cs as=some (x,ls)/\K x ls
 | [],[],K,h=>⟨(),[],rfl,h⟩
 | [],_::_,_,h=>h.elim
 |c::r,[],K,h=>by cases c<;>exact h.elim
 |c::r,a::as,K,h=>by
  have rU:Ea (gg st c a) (λp=>lR st r as λy t=>K (p.1,y) (p.2++t))-> ∃x ls,Py st (c::r) (a::as)=some (x,ls)/\K x ls:= λh=>by
   obtain ⟨p,h1,h2⟩:=As.1 h
   obtain ⟨y,t,h3,h4⟩:=bM r as _ h2
   exact ⟨_,_,by simp only [Py,h1,h3],h4⟩
  cases c with
  |Al e te kp=>
   cases a with
   |own l off len=>
    simp only [lR] at h
    split at h
    ·rename_i hl
     split at h
     ·rename_i hc
      obtain ⟨⟨h1,h2⟩,h⟩:=h
      obtain ⟨y,t,h3,h4⟩:=bM r as _ h
      exact ⟨_,_,by simp only [Py,gg,hl];rw [dif_pos ⟨hc.1,hc.2,h1,h2⟩];simp only [h3];rfl,h4⟩
     ·exact h.elim
    ·exact h.elim
   |_=>exact rU h
  |_=>exact rU h
theorem jX {st:St} {n:Nat} {as:List AC} {K:Prop} : ∀(ks:List (Nat×Nat)),wu st n as ks K->uk st n as ks/\K
 | [],h=>⟨trivial,h⟩
 |(k,j)::r,h=>by
  simp only [wu] at h
  split at h
  ·rename_i l off len ha
   split at h
   ·rename_i p hl
    split at h
    ·rename_i hc
     simp only [Bool.and_eq_true] at hc
     obtain ⟨h1,h2⟩:=jX r h.2
     refine ⟨?_,h2⟩
     simp only [uk,ha,hl]
     exact ⟨⟨Nat.eq_of_beq_eq_true hc.1,h.1,hc.2⟩,h1⟩
    ·exact h.elim
   ·exact h.elim
  ·exact h.elim
theorem ej {s:MSpec} {fn:Func} {x:Ins.den s.ins} {st:St} {cs:List AC} {P:CKs.den s.outs×IOs.den s.ins->Prop} (h:qI T s fn x st cs P):fI T s fn x st cs P:=by
 obtain ⟨l,h1,h⟩:=As.1 h
 obtain ⟨⟨as,ml⟩,h2,h⟩:=As.1 h
 obtain ⟨r,ls,h3,h⟩:=bM _ _ _ h
 obtain ⟨o,h4,h⟩:=As.1 h
 split at h
 ·rename_i hc
  obtain ⟨h5,h6⟩:=jX _ h
  unfold fI
  simp only [h1,h2,h3,h4]
  exact ⟨hc,h5,h6⟩
 ·exact h.elim
theorem nu {s:MSpec} {fn:Func} {x:Ins.den s.ins} {st:St} {P:CKs.den s.outs×IOs.den s.ins->Prop} (h:KE T s fn x st P):PS T s fn x st P:=by
 unfold KE at h
 unfold PS
 cases hp:s.ptr with
 |none=>rw [hp] at h;exact ej h
 |some p=>
  rw [hp] at h
  simp only at h⊢
  split at h
  ·rename_i tid vs hl
   split at h
   ·rename_i hc
    simp only [Bool.and_eq_true] at hc
    obtain ⟨h1,h2⟩:=hc
    have h1:tid=p.1:=Nat.eq_of_beq_eq_true h1
    have h2:=Nat.eq_of_beq_eq_true h2
    subst h1
    obtain ⟨cs,h3,h4⟩:=As.1 h
    obtain ⟨h5,h6⟩:=Yy vs s.ins h4
    exact ⟨vs,cs,hl,h2,h3,h5,ej h6⟩
   ·exact h.elim
  ·exact h.elim
theorem DQ {s:MSpec} {fn:Func} {x:Ins.den s.ins} {P:CKs.den s.outs×IOs.den s.ins->Prop} (h:fnMW T Γ s fn x P):ZJ T Γ s fn x P:=by
 unfold fnMW at h
 split at h
 ·cases h
 rename_i hlen
 obtain ⟨c,h1,h2⟩:=As.1 h
 refine ⟨hlen,c,h1,(mJ c _ _ (λt b h=>by cases h) h2).mono λe st ⟨w,h4,h5,h6⟩=>?_⟩
 subst h4
 cases e with
 |normal=>exact ⟨λid hh=>(by cases hh),nu h6⟩
 |ret=>exact ⟨λid hh=>(by cases hh),nu h6⟩
 |exit id=>cases h6
theorem Ay.ofW {P:Program} (hT:By P T) (Kl:Gq P Γ) (hm:P.follows .mixedOrders=true) {f:FuncId} {fn:Func} (hf:P.funcs[f]?=some fn) (hn:(fn.name== "runtime.NumGoroutine")=false)
  (hb:fn.body.isNone=false) (s:MSpec) (h: ∀x y,s.fn x=some y->fnMW T Γ s fn x (λz=>z=y)):Ay P f s:=
 ⟨df hf hn hb,λw S π us x r o g vs h1 hg h2 h3 hS h4 h5=>sa hT Kl hm hf s w S π us x r o g vs h1 hg h2 h3 hS h4 (DQ (h x (r,o) h5))⟩
theorem Sound.ofW {P:Program} (hT:By P T) (Kl:Gq P Γ) (hm:P.follows .mixedOrders=true) {f:FuncId} {fn:Func} (hf:P.funcs[f]?=some fn) (hn:(fn.name== "runtime.NumGoroutine")=false)
  (hb:fn.body.isNone=false) (s:Spec) (h: ∀x y,s.fn x=some y->fnW T Γ s fn x (λz=>z=y)):Sound P f s:=
 UG hT Kl hm hf hn hb s λx y hx=>LI (h x y hx)
end
end Go.Proofs.YtfolipnappekaaaGreat
