/-
  Part 34 of the proof that the statement FnIterativeDeepening holds.
-/
import Derived.Test.YtkkdpknjohcekaaGreatCFIterativeDeepening32
namespace Go.Proofs.YtkkdpknjohcekaaGreat
open Go.RowKit
theorem Uu {B:List (Nat×Nat×Nat)} {H:List (Nat×OB)} : ∀ {l:List AV} {K:Prop},bu B H l K-> ∀c∈l,c.l8=true
 | [],_,_,c,hc=>by cases hc
 |d::l,K,h,c,hc=>by
  simp only [bu] at h
  cases d with
  |Nd l'=>exact h.elim
  | «at»a=>
   rcases Bg.1 hc with rfl|hc
   ·rfl
   ·have h':bu B H l K:=by
     cases a with
     |own k o n=>exact h.2.2
     |_=>exact h
    exact Uu h' c hc
  |bw _ _ _=>
   rcases Bg.1 hc with rfl|hc
   ·rfl
   ·exact Uu h c hc
  |agg cs=>
   rcases Bg.1 hc with rfl|hc
   ·rfl
   ·have: ∀(cs:List AC) (Q:Prop),dL B H cs Q->Q:=by
     intro cs
     induction cs with
     |nil=>exact λQ h=>h
     |cons a cs ih=>
      intro Q h
      have h2:dL B H cs Q:=by
       cases a with
       |own k o n=>exact h.2.2
       |_=>exact h
      exact ih Q h2
    exact Uu (this cs _ h) c hc
theorem ma: ∀(f:List Bool) (l:List AV),(∀c∈l,c.l8=true)-> ∀c∈Uh f l,c.l8=true
 | [],l,h=>by simpa [Uh] using h
 |true::f,[],h=>by simp [Uh] at h⊢
 |false::f,[],h=>by simp [Uh] at h⊢
 |true::f,a::l,h=>by
  intro c hc
  simp only [Uh,Bg] at hc
  rcases hc with rfl|hc
  ·rfl
  ·exact ma f l (λc hc=>h c (Ao _ hc)) c hc
 |false::f,a::l,h=>by
  intro c hc
  simp only [Uh,Bg] at hc
  rcases hc with rfl|hc
  ·exact h c (by simp)
  ·exact ma f l (λc hc=>h c (Ao _ hc)) c hc
theorem SO (f:AC->AC) (H:List (Nat×OB)) (l:Nat):lenOf (H.map λp=>(p.1,p.2.map f)) l=lenOf H l:=by
 unfold lenOf
 rw [Ph]
 cases Av H l with
 |none=>rfl
 |some b=>cases b<;>rfl
theorem IL (f g:AC->AC) (c:AV):(c.map f).map g=c.map λa=>g (f a):=by
 cases c<;>simp [AV.map]
theorem KT (f g:AC->AC) (c:OB):(c.map f).map g=c.map λa=>g (f a):=by
 cases c<;>simp [OB.map]
theorem ES (s:St) (f g:AC->AC):(s.Ln f).Ln g=s.Ln λa=>g (f a):=by
 simp [St.Ln,List.map_map,Function.comp_def,IL,KT]
theorem EF (f:AC->AC) (H:List (Nat×OB)) (l:Nat): ∀(B:List (Nat×Nat×Nat)),SM B (H.map λp=>(p.1,p.2.map f)) l=SM B H l
 | []=>SO f H l
 |(k,o,n)::r=>by simp only [SM];rw [EF f H l r]
theorem HV (B:List (Nat×Nat×Nat)) (s:St):(s.Ln Tn).whole B=s.whole B:=by
 unfold St.whole
 rw [ES]
 congr 1
 funext a
 cases a with
 |own l off len=>simp only [Tn,gg,St.Ln,EF]
 |_=>rfl
theorem HU {B:List (Nat×Nat×Nat)} {s t:St} (h:s.Ln Tn=t.Ln Tn):s.whole B=t.whole B:=by rw [<-HV B s,h,HV]
theorem pq (f:AC->AC): ∀(fx:List Bool) (a b:List AV),(Vo fx a b).map (·.map f)=Vo fx (a.map (·.map f)) (b.map (·.map f))
 | [],_,_=>by simp [Vo]
 |_::_,[],_=>by simp [Vo]
 |true::_,_::_,[]=>by simp [Vo]
 |false::_,_::_,[]=>by simp [Vo]
 |true::fx,x::a,y::b=>by simp only [Vo,Cc,pq f fx a b]
 |false::fx,x::a,y::b=>by simp only [Vo,Cc,pq f fx a b]
theorem tY (f:AC->AC) (fx:List Bool) (a b:St):(St.vT fx a b).Ln f=St.vT fx (a.Ln f) (b.Ln f):=by
 simp only [St.vT,St.Ln,pq]
theorem gL: ∀(l:List AV) {R:Type} (v:qO l R),(Xb l v).1.length=l.length
 | [],_,_=>rfl
 |c::l,_,v=>by simp [Xb,gL l]
theorem xB (p:Nat->Bool): ∀(i:Nat) (l0 l:List AV) (t:Nat),l.length=l0.length->(l0.getD t .undef).Yi=true->p (i+t)=true->(Vo (La p i l0) l0 l).getD t .undef=l0.getD t .undef
 |_,[],_,t,_,h,_=>by simp [AV.Yi] at h
 |i,a::r,[],_,h,_,_=>by simp at h
 |i,a::r,b::s,0,_,h1,h2=>by
  have:(a.Yi&&p i)=true:=by
   simp only [Ag]
   exact ⟨by simpa using h1,h2⟩
  simp only [La,this,Vo,Xq]
 |i,a::r,b::s,t+1,hl,h1,h2=>by
  have hr:=xB p (i+1) r s t (by simpa using hl) (by simpa using h1) (by rw [show i+1+t=i+(t+1) by omega];exact h2)
  simp only [La]
  cases (a.Yi&&p i)<;>simpa only [Vo,Nv] using hr
theorem kD {B:List (Nat×Nat×Nat)} {H:List (Nat×OB)} {c:AC} {K:Prop} (h:yj B H c K):gg B H c=c/\K:=by
 cases c with
 |own l off len=>obtain ⟨h1,h2,h3⟩:=h;exact ⟨by rw [h1,h2];rfl,h3⟩
 |_=>exact ⟨rfl,h⟩
theorem bC {B:List (Nat×Nat×Nat)} {H:List (Nat×OB)} : ∀ {l:List AC} {K:Prop},dL B H l K->l.map (gg B H)=l/\K
 | [],_,h=>⟨rfl,h⟩
 |c::l,_,h=>by
  obtain ⟨h1,h2⟩:=kD h
  obtain ⟨h3,h4⟩:=bC h2
  exact ⟨by rw [Cc,h1,h3],h4⟩
theorem vA {B:List (Nat×Nat×Nat)} {H:List (Nat×OB)} {c:AV} {K:Prop} (h:OG B H c K):c.map (gg B H)=c/\K:=by
 cases c with
 | «at»a=>obtain ⟨h1,h2⟩:=kD h;exact ⟨by rw [AV.map,h1],h2⟩
 |agg cs=>obtain ⟨h1,h2⟩:=bC h;exact ⟨by rw [AV.map,h1],h2⟩
 |bw _ _ _=>exact ⟨rfl,h⟩
 |Nd l=>exact h.elim
theorem gM {B:List (Nat×Nat×Nat)} {H:List (Nat×OB)} : ∀ {l:List AV} {K:Prop},bu B H l K->l.map (·.map (gg B H))=l/\K
 | [],_,h=>⟨rfl,h⟩
 |c::l,_,h=>by
  obtain ⟨h1,h2⟩:=vA h
  obtain ⟨h3,h4⟩:=gM h2
  exact ⟨by rw [Cc,h1,h3],h4⟩
theorem Nt {B:List (Nat×Nat×Nat)} {H:List (Nat×OB)} : ∀ {l:List (Nat×OB)} {K:Prop},jR B H l K->l.map (λp=>(p.1,p.2.map (gg B H)))=l/\K
 | [],_,h=>⟨rfl,h⟩
 |(k, .var t vs)::l,_,h=>by
  obtain ⟨h1,h2⟩:=bC h
  obtain ⟨h3,h4⟩:=Nt h2
  exact ⟨by rw [Cc,h3];simp only [OB.map,h1],h4⟩
 |(k, .arr a b c d e)::l,_,h=>by
  obtain ⟨h3,h4⟩:=Nt (l:=l) h
  exact ⟨by rw [Cc,h3];rfl,h4⟩
 |(k, .Hf a b c)::l,_,h=>by
  obtain ⟨h3,h4⟩:=Nt (l:=l) h
  exact ⟨by rw [Cc,h3];rfl,h4⟩
 |(k, .Bn a b c d e)::l,_,h=>by
  obtain ⟨h3,h4⟩:=Nt (l:=l) h
  exact ⟨by rw [Cc,h3];rfl,h4⟩
 |(k, .Vx a b)::l,_,h=>by
  obtain ⟨h3,h4⟩:=Nt (l:=l) h
  exact ⟨by rw [Cc,h3];rfl,h4⟩
theorem lk {B:List (Nat×Nat×Nat)} {s:St} {K:Prop} (h:AE B s K):s.whole B=s/\K:=by
 obtain ⟨h1,h2⟩:=gM h
 obtain ⟨h3,h4⟩:=Nt h2
 exact ⟨by unfold St.whole St.Ln;rw [h1,h3],h4⟩
theorem iw (live:List Nat): ∀(i:Nat) (l:List AV) (t:Nat),i+t∉live->(Jb live i l).getD t .undef= .undef
 |_,[],_,_=>rfl
 |i,v::r,0,h=>by simp [Jb];intro hn;exact absurd hn h
 |i,v::r,t+1,h=>by
  simp only [Jb,Nv]
  exact iw live (i+1) r t (by rw [show i+1+t=i+(t+1) by omega];exact h)
theorem gw: ∀(l:List Nat) (st:St) (t:Nat),st.get t= .undef->(bj l st).get t= .undef
 | [],_,_,h=>h
 |a::r,st,t,h=>gw r _ t (by
  show (st.tmps.map (·.map (Ck a))).getD t .undef= .undef
  rw [Vi (Ck a) rfl,show st.tmps.getD t .undef= .undef from h]
  rfl)
theorem zJ (l k:Nat) (st:St) (t:Nat) (h:st.get t= .undef):(st.rename l k).get t= .undef:=by
 unfold St.rename
 split
 ·split
  ·show (st.tmps.map (·.map (Vp l k))).getD t .undef= .undef
   rw [Vi (Vp l k) rfl,show st.tmps.getD t .undef= .undef from h]
   rfl
  ·exact h
 ·exact h
theorem ez: ∀(n i:Nat) (st:St) (t:Nat),st.get t= .undef->(Nc n i st).get t= .undef
 |0,_,_,_,h=>h
 |n+1,i,st,t,h=>by
  simp only [Nc]
  refine ez n (i+1) _ t ?_
  split
  ·split
   ·split
    ·exact h
    ·exact zJ _ _ _ t h
   ·exact h
  ·exact h
theorem zE (st:St) (d:Nat) (v:AV) (t:Nat) (Jl:t≠d) (h:st.get t= .undef):(st.put (some d) v).get t= .undef:=by rw [bL _ _ Jl];exact h
theorem uf (k:Nat) (st:St) (t:Nat) (h:st.get t= .undef):(bY k st).get t= .undef:=by
 unfold bY
 split
 ·rename_i l off len hg
  split
  ·split
   ·refine zE _ _ _ _ (λe=>by subst e;rw [hg] at h;cases h) ?_
    show (st.tmps.map (·.map (Ck l))).getD t .undef= .undef
    rw [Vi (Ck l) rfl,show st.tmps.getD t .undef= .undef from h]
    rfl
   ·exact h
  ·exact h
 ·exact h
theorem mj (c:Nat) (st:St) (t:Nat) (h:st.get t= .undef):(Qj c st).get t= .undef:=by
 unfold Qj
 split
 ·split
  ·rename_i l off len hc
   split
   ·split
    ·split
     ·show (st.tmps.map (·.map (Ck l))).getD t .undef= .undef
      rw [Vi (Ck l) rfl,show st.tmps.getD t .undef= .undef from h]
      rfl
     ·exact h
    ·exact h
   ·exact h
  ·exact h
 ·exact h
theorem cS (live:List Nat): ∀(n i:Nat) (st:St) (t:Nat),st.get t= .undef->(Qd live n i st).get t= .undef
 |0,_,_,_,h=>h
 |n+1,i,st,t,h=>by
  simp only [Qd]
  refine cS live n (i+1) _ t ?_
  split
  ·exact mj _ _ _ h
  ·exact h
theorem gE (live:List Nat): ∀(n i:Nat) (st:St) (t:Nat),st.get t= .undef->(Po live n i st).get t= .undef
 |0,_,st,t,h=>cS live 16 0 st t h
 |n+1,i,st,t,h=>by
  simp only [Po]
  refine gE live n (i+1) _ t ?_
  split
  ·exact uf _ _ _ h
  ·exact h
theorem IZ {live:List Nat} {st:St} {t:Nat} (h:((st.clean live).get t).Yi=true):t∈live:=by
 refine Bu λhn=>?_
 have:(st.clean live).get t= .undef:=by
  have key: ∀s:St,s.get t= .undef->(if live.contains cT then Nc s.tmps.length 0 s else s).get t= .undef:=by
   intro s hs
   split
   ·exact ez _ _ s t hs
   ·exact hs
  unfold St.clean
  have ZI: ∀s:St,s.get t= .undef->(if live.any (λt=>Nat.ble Ps t) then s.Jr live else s).get t= .undef:=by
   intro s hs
   split<;>exact hs
  have ZJ: ∀s:St,s.get t= .undef->(if live.any (λt=>Nat.ble Sp t&&Nat.blt t cT) then Po live s.tmps.length 0 s else s).get t= .undef:=by
   intro s hs
   split
   ·exact gE _ _ _ s t hs
   ·exact hs
  refine ZI _ (key _ (ZJ _ (gw _ _ t ?_)))
  exact iw live 0 st.tmps t (by simpa using hn)
 rw [this] at h
 cases h
theorem tu {c:AV} (h:c.Yi=true): ∃fr τ,∃x:τ.den,c= .at (.data fr τ x):=by
 unfold AV.Yi at h
 split at h
 ·exact ⟨_,_,_,rfl⟩
 ·cases h
theorem US {live:Nat->List Nat} {c:Code} {t:Nat} (h:stays live c t=true):t∉writes c/\bQ live c t=true:=by
 unfold stays at h
 simpa using h
section
variable {T:Tab} {Γ:Env} {live:Nat->List Nat}
theorem Ow.keeps {c:Code} {st:St} {Q:Lz->St->Prop} (h:Ow T Γ live c st Q):Ow T Γ live c st (λe s=>Q e s/\Fv (λt=>t∉writes c/\bQ live c t=true) st s):=by
 exact MF h st _ Ci.rfl'.on λt ht=>ht
def wsQ (Q:Lz->WS->Prop) (e:Lz) (s:St):Prop:= ∃w':WS,w'.st=s/\w'.OK/\Q e w'
theorem EN {c:Code} (ih: ∀(w:WS) (Q:Lz->WS->Prop),w.OK->dP T Γ live c w Q->Ow T Γ live c w.st (wsQ Q)) {w:WS} {Q:Lz->WS->Prop} (h:dP T Γ live (.loop c) w Q):
  Ow T Γ live (.loop c) w.st (wsQ Q):=by
 simp only [dP,RX,fj] at h
 obtain ⟨hw0,I,μ,h0,hs⟩:=lk h
 have Av: ∀(t:Nat),((w.st.clean (live (Fb c))).get t).Yi=true->stays live c t=true-> ∀v,((St.vT (La (stays live c) 0 (w.st.clean (live (Fb c))).tmps) (w.st.clean (live (Fb c))) (ju ((w.st.clean (live (Fb c))).mask (La (stays live c) 0 (w.st.clean (live (Fb c))).tmps)) v)).whole (ak T.parts (w.st.clean (live (Fb c))).tmps)).get t=(w.st.clean (live (Fb c))).get t:=by
  intro t h1 h2 v
  have h3:=xB (stays live c) 0 (w.st.clean (live (Fb c))).tmps (ju ((w.st.clean (live (Fb c))).mask (La (stays live c) 0 (w.st.clean (live (Fb c))).tmps)) v).tmps t
   ((gL _ _).trans (fw _ _)) h1 (by simpa using h2)
  obtain ⟨fr,τ,x,hx⟩:=tu h1
  refine (Pz _ _ rfl λ_ _ _=>rfl) t fr τ x ?_|>.trans hx.symm
  exact h3.trans hx
 have hmk: ∀(s1:St),(∀t,((w.st.clean (live (Fb c))).get t).Yi=true->stays live c t=true->s1.get t=(w.st.clean (live (Fb c))).get t)->s1.whole (ak T.parts (w.st.clean (live (Fb c))).tmps)=s1-> ∀v,jv ((w.st.clean (live (Fb c))).mask (La (stays live c) 0 (w.st.clean (live (Fb c))).tmps)) (s1.mask (La (stays live c) 0 (w.st.clean (live (Fb c))).tmps))=some v->
   s1=(St.vT (La (stays live c) 0 (w.st.clean (live (Fb c))).tmps) (w.st.clean (live (Fb c))) (ju ((w.st.clean (live (Fb c))).mask (La (stays live c) 0 (w.st.clean (live (Fb c))).tmps)) v)).whole (ak T.parts (w.st.clean (live (Fb c))).tmps):=by
  intro s1 hf hwh v hv
  have h1:=jw hv
  have h2:St.vT (La (stays live c) 0 (w.st.clean (live (Fb c))).tmps) (w.st.clean (live (Fb c))) (s1.mask (La (stays live c) 0 (w.st.clean (live (Fb c))).tmps))=s1:=by
   simp only [St.vT,St.mask]
   rw [mf (stays live c) 0 (w.st.clean (live (Fb c))).tmps s1.tmps λt h3 h4=>hf t h3 (by simpa using h4)]
  have h3:(St.vT (La (stays live c) 0 (w.st.clean (live (Fb c))).tmps) (w.st.clean (live (Fb c))) (ju ((w.st.clean (live (Fb c))).mask (La (stays live c) 0 (w.st.clean (live (Fb c))).tmps)) v)).whole (ak T.parts (w.st.clean (live (Fb c))).tmps)=s1.whole (ak T.parts (w.st.clean (live (Fb c))).tmps):=by
   refine HU ?_
   rw [tY,h1,<-tY,h2]
  rw [h3,hwh]
 refine UB (λv=>(St.vT (La (stays live c) 0 (w.st.clean (live (Fb c))).tmps) (w.st.clean (live (Fb c))) (ju ((w.st.clean (live (Fb c))).mask (La (stays live c) 0 (w.st.clean (live (Fb c))).tmps)) v)).whole (ak T.parts (w.st.clean (live (Fb c))).tmps)) I μ _ h0 (hmk _ (λ_ _ _=>rfl) hw0 _ (qJ _ (ma _ _ (Uu h)))) ?_
 intro a ha
 refine (Ow.keeps (ih ⟨[],_⟩ _ (λt b h=>by cases h) (hs a ha))).mono ?_
 intro e s hQ
 obtain ⟨⟨w',h1,h2,h3⟩,hk⟩:=hQ
 subst h1
 cases e with
 |normal=>
  obtain ⟨h4,h5⟩:=lk h3
  obtain ⟨v',h6,h7,h8⟩:=Bx.1 h5
  refine ⟨v',hmk _ (λt hd ht=>?_) h4 _ h6,h7,h8⟩
  obtain ⟨fr,τ,x,hx⟩:=tu hd
  rw [hx]
  exact kY (live (Fb c)) w'.st t fr τ x (IZ hd) (hk t fr τ x (US ht) (by rw [Av t hd ht a];exact hx))
 |exit id=>exact ⟨w',rfl,h2,h3⟩
 |ret=>exact ⟨w',rfl,h2,h3⟩
theorem pX: ∀(c:Code) (w:WS) (Q:Lz->WS->Prop),w.OK->dP T Γ live c w Q->Ow T Γ live c w.st (wsQ Q):=by
 intro c
 induction c with
 |skip=>intro w Q hw h;exact .skip ⟨w,rfl,hw,h⟩
 |label _=>intro w Q hw h;exact .label ⟨w,rfl,hw,h⟩
 |exit _=>intro w Q hw h;exact .exit ⟨w,rfl,hw,h⟩
 |ret=>intro w Q hw h;exact .ret ⟨w,rfl,hw,h⟩
 |region id ops draw=>
  intro w Q hw h
  have hw':WS.OK {w with st:=w.st.mU ops} := λt b ht=>by
   obtain ⟨fr,e⟩:=hw t b ht
   exact ⟨fr,kZ ops w.st t fr .bool b e⟩
  exact .region ((wb hw' h).mono λs ⟨w',h1,h2,h3⟩=>⟨w',h1,h2,Ok.1 h3⟩)
 |seq x y ihx ihy=>
  intro w Q hw h
  refine Aao ((ihx w _ hw h).mono λe s hQ=>?_)
  obtain ⟨w',h1,h2,h3⟩:=hQ
  subst h1
  cases e with
  |normal=>exact ihy w' Q h2 h3
  |exit id=>exact ⟨w',rfl,h2,h3⟩
  |ret=>exact ⟨w',rfl,h2,h3⟩
 |cond c x y ihx ihy=>
  intro w Q hw h
  obtain ⟨fr,b,w',h1,h2,h3,h4⟩:=wX hw h
  refine UA h1 (λhb=>?_) (λhb=>?_)
  ·subst hb;rw [<-h2];exact ihx w' Q h3 h4
  ·subst hb;rw [<-h2];exact ihy w' Q h3 h4
 |block id c ih=>
  intro w Q hw h
  refine ME ((ih w _ hw h).mono λe s hQ=>?_)
  obtain ⟨w',h1,h2,h3⟩:=hQ
  subst h1
  cases e with
  |normal=>exact ⟨w',rfl,h2,h3⟩
  |ret=>exact ⟨w',rfl,h2,h3⟩
  |exit SJ=>
   simp only at h3
   simp only [xh]
   split at h3
   ·rename_i hi;rw [Ab hi];exact ⟨w',rfl,h2,h3⟩
   ·rename_i hi;rw [Ai hi];exact ⟨w',rfl,h2,h3⟩
 |loop c ih=>intro w Q hw h;exact EN ih h
 |_=>intro w Q hw h;exact absurd h (by simp [dP])
theorem sI {s:Spec} {fn:Func} {P:s.res.den->Prop} {st:St} (h:Agr T s fn P st): ∃fr y,nh T s fn st=some (fr,y)/\(fr||!s.fresh)=true/\P y:=by
 obtain ⟨p,h1,h2⟩:=Bx.1 h
 split at h2
 ·rename_i hf;exact ⟨p.1,p.2,h1,hf,h2⟩
 ·cases h2
theorem RW {s:Spec} {fn:Func} {x:s.arg.den} {P:s.res.den->Prop} (h:fnW T Γ s fn x P):WN T Γ s fn x P:=by
 unfold fnW at h
 obtain ⟨c,h1,h2⟩:=Bx.1 h
 refine ⟨c,h1,(pX c _ _ (λt b h=>by cases h) h2).mono λe st ⟨w,h4,h5,h6⟩=>?_⟩
 subst h4
 cases e with
 |normal=>exact ⟨λid hh=>(by cases hh),sI h6⟩
 |ret=>exact ⟨λid hh=>(by cases hh),sI h6⟩
 |exit id=>cases h6
theorem cN {st:St} {K:Prop} : ∀(vs:List AC) (cs:List (Bool×CK)),iY st K vs cs->iX st vs cs/\K
 | [],cs,h=>⟨by simp [iX],by simpa [iY] using h⟩
 |a::vs,[],h=>⟨by cases a<;>simp [iX],by cases a<;>simpa [iY] using h⟩
 |a::vs,(false,c)::r,h=>by
  have h:iY st K vs r:=by cases a<;>simpa only [iY] using h
  obtain ⟨h1,h2⟩:=cN vs r h
  exact ⟨by cases a<;>simpa only [iX] using h1,h2⟩
 |a::vs,(true,c)::r,h=>by
  cases a with
  |own l off len=>
   simp only [iY] at h
   split at h
   ·rename_i hl
    obtain ⟨h1,h2⟩:=cN vs r h.2
    refine ⟨?_,h2⟩
    simp only [iX,hl]
    exact ⟨h.1,h1⟩
   ·rename_i hl
    obtain ⟨h1,h2⟩:=cN vs r h.2
    refine ⟨?_,h2⟩
    simp only [iX,hl]
    exact ⟨h.1,h1⟩
   ·exact h.elim
  |_=>exact ⟨by simp [iX],by simpa [iY] using h⟩
theorem fD {st:St} : ∀(cs:List CK) (as:List AC) (K:CKs.den cs->List Nat->Prop),po st cs as K-> ∃x ls,Vn st cs as=some (x,ls)/\K x ls
 | [],[],K,h=>⟨(),[],rfl,h⟩
 | [],_::_,_,h=>h.elim
 |c::r,[],K,h=>by cases c<;>exact h.elim
 |c::r,a::as,K,h=>by
  have vz:Il (ky st c a) (λp=>po st r as λy t=>K (p.1,y) (p.2++t))-> ∃x ls,Vn st (c::r) (a::as)=some (x,ls)/\K x ls:= λh=>by
   obtain ⟨p,h1,h2⟩:=Bx.1 h
   obtain ⟨y,t,h3,h4⟩:=fD r as _ h2
   exact ⟨_,_,by simp only [Vn,h1,h3],h4⟩
  cases c with
  |Bn e te kp=>
   cases a with
   |own l off len=>
    simp only [po] at h
    split at h
    ·rename_i hl
     split at h
     ·rename_i hc
      obtain ⟨⟨h1,h2⟩,h⟩:=h
      obtain ⟨y,t,h3,h4⟩:=fD r as _ h
      exact ⟨_,_,by simp only [Vn,ky,hl];rw [Js ⟨hc.1,hc.2,h1,h2⟩];simp only [h3];rfl,h4⟩
     ·exact h.elim
    ·exact h.elim
   |_=>exact vz h
  |_=>exact vz h
theorem nF {st:St} {n:Nat} {as:List AC} {K:Prop} : ∀(ks:List (Nat×Nat)),za st n as ks K->xo st n as ks/\K
 | [],h=>⟨trivial,h⟩
 |(k,j)::r,h=>by
  simp only [za] at h
  split at h
  ·rename_i l off len ha
   split at h
   ·rename_i p hl
    split at h
    ·rename_i hc
     simp only [Ag] at hc
     obtain ⟨h1,h2⟩:=nF r h.2
     refine ⟨?_,h2⟩
     simp only [xo,ha,hl]
     exact ⟨⟨Kg hc.1,h.1,hc.2⟩,h1⟩
    ·exact h.elim
   ·exact h.elim
  ·exact h.elim
theorem ji {s:MSpec} {fn:Func} {x:Ins.den s.ins} {st:St} {cs:List AC} {P:CKs.den s.outs×IOs.den s.ins->Prop} (h:uk T s fn x st cs P):ke T s fn x st cs P:=by
 obtain ⟨l,h1,h⟩:=Bx.1 h
 obtain ⟨⟨as,ml⟩,h2,h⟩:=Bx.1 h
 obtain ⟨r,ls,h3,h⟩:=fD _ _ _ h
 obtain ⟨o,h4,h⟩:=Bx.1 h
 split at h
 ·rename_i hc
  obtain ⟨h5,h6⟩:=nF _ h
  unfold ke
  simp only [h1,h2,h3,h4]
  exact ⟨hc,h5,h6⟩
 ·exact h.elim
theorem qD {s:MSpec} {fn:Func} {x:Ins.den s.ins} {st:St} {P:CKs.den s.outs×IOs.den s.ins->Prop} (h:QG T s fn x st P):WM T s fn x st P:=by
 unfold QG at h
 unfold WM
 cases hp:s.ptr with
 |none=>rw [hp] at h;exact ji h
 |some p=>
  rw [hp] at h
  simp only at h⊢
  split at h
  ·rename_i tid vs hl
   split at h
   ·rename_i hc
    simp only [Ag] at hc
    obtain ⟨h1,h2⟩:=hc
    have h1:tid=p.1:=Kg h1
    have h2:=Kg h2
    subst h1
    obtain ⟨cs,h3,h4⟩:=Bx.1 h
    obtain ⟨h5,h6⟩:=cN vs s.ins h4
    exact ⟨vs,cs,hl,h2,h3,h5,ji h6⟩
   ·exact h.elim
  ·exact h.elim
theorem JK {s:MSpec} {fn:Func} {x:Ins.den s.ins} {P:CKs.den s.outs×IOs.den s.ins->Prop} (h:fnMW T Γ s fn x P):Aeu T Γ s fn x P:=by
 unfold fnMW at h
 split at h
 ·cases h
 rename_i hlen
 obtain ⟨c,h1,h2⟩:=Bx.1 h
 refine ⟨hlen,c,h1,(pX c _ _ (λt b h=>by cases h) h2).mono λe st ⟨w,h4,h5,h6⟩=>?_⟩
 subst h4
 cases e with
 |normal=>exact ⟨λid hh=>(by cases hh),qD h6⟩
 |ret=>exact ⟨λid hh=>(by cases hh),qD h6⟩
 |exit id=>cases h6
theorem Cl.ofW {P:Program} (hT:Eb P T) (Pk:Lj P Γ) (hm:P.follows .mixedOrders=true) {f:FuncId} {fn:Func} (hf:P.funcs[f]?=some fn) (hn:(fn.name== "runtime.NumGoroutine")=false)
  (hb:fn.body.isNone=false) (s:MSpec) (h: ∀x y,s.fn x=some y->fnMW T Γ s fn x (λz=>z=y)):Cl P f s:=
 ⟨ir hf hn hb,λw S π us x r o g vs h1 hg h2 h3 hS h4 h5=>vE hT Pk hm hf s w S π us x r o g vs h1 hg h2 h3 hS h4 (JK (h x (r,o) h5))⟩
theorem Sound.ofW {P:Program} (hT:Eb P T) (Pk:Lj P Γ) (hm:P.follows .mixedOrders=true) {f:FuncId} {fn:Func} (hf:P.funcs[f]?=some fn) (hn:(fn.name== "runtime.NumGoroutine")=false)
  (hb:fn.body.isNone=false) (s:Spec) (h: ∀x y,s.fn x=some y->fnW T Γ s fn x (λz=>z=y)):Sound P f s:=
 Aaq hT Pk hm hf hn hb s λx y hx=>RW (h x y hx)
end
end Go.Proofs.YtkkdpknjohcekaaGreat
