/-
  Part 34 of the proof that the statement FnMethods holds.
-/
import Derived.Test.YtkkdpknjohcekaaGreatCFMethods32
namespace Go.Proofs.YtkkdpknjohcekaaGreat
open Go.RowKit
theorem Vb {B:List (Nat×Nat×Nat)} {H:List (Nat×OB)} : ∀ {l:List AV} {K:Prop},bG B H l K-> ∀c∈l,c.lz=true
 | [],_,_,c,hc=>by cases hc
 |d::l,K,h,c,hc=>by
  simp only [bG] at h
  cases d with
  |Nr l'=>exact h.elim
  | «at»a=>
   rcases Bb.1 hc with rfl|hc
   ·rfl
   ·have h':bG B H l K:=by
     cases a with
     |own k o n=>exact h.2.2
     |_=>exact h
    exact Vb h' c hc
  |bH _ _ _=>
   rcases Bb.1 hc with rfl|hc
   ·rfl
   ·exact Vb h c hc
  |agg cs=>
   rcases Bb.1 hc with rfl|hc
   ·rfl
   ·have: ∀(cs:List AC) (Q:Prop),dX B H cs Q->Q:=by
     intro cs
     induction cs with
     |nil=>exact λQ h=>h
     |cons a cs ih=>
      intro Q h
      have h2:dX B H cs Q:=by
       cases a with
       |own k o n=>exact h.2.2
       |_=>exact h
      exact ih Q h2
    exact Vb (this cs _ h) c hc
theorem mA: ∀(f:List Bool) (l:List AV),(∀c∈l,c.lz=true)-> ∀c∈Uo f l,c.lz=true
 | [],l,h=>by simpa [Uo] using h
 |true::f,[],h=>by simp [Uo] at h⊢
 |false::f,[],h=>by simp [Uo] at h⊢
 |true::f,a::l,h=>by
  intro c hc
  simp only [Uo,Bb] at hc
  rcases hc with rfl|hc
  ·rfl
  ·exact mA f l (λc hc=>h c (Ap _ hc)) c hc
 |false::f,a::l,h=>by
  intro c hc
  simp only [Uo,Bb] at hc
  rcases hc with rfl|hc
  ·exact h c (by simp)
  ·exact mA f l (λc hc=>h c (Ap _ hc)) c hc
theorem UW (f:AC->AC) (H:List (Nat×OB)) (l:Nat):lenOf (H.map λp=>(p.1,p.2.map f)) l=lenOf H l:=by
 unfold lenOf
 rw [Pv]
 cases Av H l with
 |none=>rfl
 |some b=>cases b<;>rfl
theorem KV (f g:AC->AC) (c:AV):(c.map f).map g=c.map λa=>g (f a):=by
 cases c<;>simp [AV.map]
theorem NG (f g:AC->AC) (c:OB):(c.map f).map g=c.map λa=>g (f a):=by
 cases c<;>simp [OB.map]
theorem GW (s:St) (f g:AC->AC):(s.Lx f).Lx g=s.Lx λa=>g (f a):=by
 simp [St.Lx,List.map_map,Function.comp_def,KV,NG]
theorem GL (f:AC->AC) (H:List (Nat×OB)) (l:Nat): ∀(B:List (Nat×Nat×Nat)),UT B (H.map λp=>(p.1,p.2.map f)) l=UT B H l
 | []=>UW f H l
 |(k,o,n)::r=>by simp only [UT];rw [GL f H l r]
theorem KE (B:List (Nat×Nat×Nat)) (s:St):(s.Lx Tr).whole B=s.whole B:=by
 unfold St.whole
 rw [GW]
 congr 1
 funext a
 cases a with
 |own l off len=>simp only [Tr,gz,St.Lx,GL]
 |_=>rfl
theorem KC {B:List (Nat×Nat×Nat)} {s t:St} (h:s.Lx Tr=t.Lx Tr):s.whole B=t.whole B:=by rw [<-KE B s,h,KE]
theorem pX (f:AC->AC): ∀(fx:List Bool) (a b:List AV),(Wa fx a b).map (·.map f)=Wa fx (a.map (·.map f)) (b.map (·.map f))
 | [],_,_=>by simp [Wa]
 |_::_,[],_=>by simp [Wa]
 |true::_,_::_,[]=>by simp [Wa]
 |false::_,_::_,[]=>by simp [Wa]
 |true::fx,x::a,y::b=>by simp only [Wa,Bz,pX f fx a b]
 |false::fx,x::a,y::b=>by simp only [Wa,Bz,pX f fx a b]
theorem uy (f:AC->AC) (fx:List Bool) (a b:St):(St.wA fx a b).Lx f=St.wA fx (a.Lx f) (b.Lx f):=by
 simp only [St.wA,St.Lx,pX]
theorem ie: ∀(l:List AV) {R:Type} (v:rE l R),(Xn l v).1.length=l.length
 | [],_,_=>rfl
 |c::l,_,v=>by simp [Xn,ie l]
theorem ym (p:Nat->Bool): ∀(i:Nat) (l0 l:List AV) (t:Nat),l.length=l0.length->(l0.getD t .undef).Yu=true->p (i+t)=true->(Wa (Lj p i l0) l0 l).getD t .undef=l0.getD t .undef
 |_,[],_,t,_,h,_=>by simp [AV.Yu] at h
 |i,a::r,[],_,h,_,_=>by simp at h
 |i,a::r,b::s,0,_,h1,h2=>by
  have:(a.Yu&&p i)=true:=by
   simp only [Ah]
   exact ⟨by simpa using h1,h2⟩
  simp only [Lj,this,Wa,Yd]
 |i,a::r,b::s,t+1,hl,h1,h2=>by
  have hr:=ym p (i+1) r s t (by simpa using hl) (by simpa using h1) (by rw [show i+1+t=i+(t+1) by omega];exact h2)
  simp only [Lj]
  cases (a.Yu&&p i)<;>simpa only [Wa,Ok] using hr
theorem l4 {B:List (Nat×Nat×Nat)} {H:List (Nat×OB)} {c:AC} {K:Prop} (h:zc B H c K):gz B H c=c/\K:=by
 cases c with
 |own l off len=>obtain ⟨h1,h2,h3⟩:=h;exact ⟨by rw [h1,h2];rfl,h3⟩
 |_=>exact ⟨rfl,h⟩
theorem bO {B:List (Nat×Nat×Nat)} {H:List (Nat×OB)} : ∀ {l:List AC} {K:Prop},dX B H l K->l.map (gz B H)=l/\K
 | [],_,h=>⟨rfl,h⟩
 |c::l,_,h=>by
  obtain ⟨h1,h2⟩:=l4 h
  obtain ⟨h3,h4⟩:=bO h2
  exact ⟨by rw [Bz,h1,h3],h4⟩
theorem vY {B:List (Nat×Nat×Nat)} {H:List (Nat×OB)} {c:AV} {K:Prop} (h:QV B H c K):c.map (gz B H)=c/\K:=by
 cases c with
 | «at»a=>obtain ⟨h1,h2⟩:=l4 h;exact ⟨by rw [AV.map,h1],h2⟩
 |agg cs=>obtain ⟨h1,h2⟩:=bO h;exact ⟨by rw [AV.map,h1],h2⟩
 |bH _ _ _=>exact ⟨rfl,h⟩
 |Nr l=>exact h.elim
theorem ig {B:List (Nat×Nat×Nat)} {H:List (Nat×OB)} : ∀ {l:List AV} {K:Prop},bG B H l K->l.map (·.map (gz B H))=l/\K
 | [],_,h=>⟨rfl,h⟩
 |c::l,_,h=>by
  obtain ⟨h1,h2⟩:=vY h
  obtain ⟨h3,h4⟩:=ig h2
  exact ⟨by rw [Bz,h1,h3],h4⟩
theorem Oe {B:List (Nat×Nat×Nat)} {H:List (Nat×OB)} : ∀ {l:List (Nat×OB)} {K:Prop},ky B H l K->l.map (λp=>(p.1,p.2.map (gz B H)))=l/\K
 | [],_,h=>⟨rfl,h⟩
 |(k, .var t vs)::l,_,h=>by
  obtain ⟨h1,h2⟩:=bO h
  obtain ⟨h3,h4⟩:=Oe h2
  exact ⟨by rw [Bz,h3];simp only [OB.map,h1],h4⟩
 |(k, .arr a b c d e)::l,_,h=>by
  obtain ⟨h3,h4⟩:=Oe (l:=l) h
  exact ⟨by rw [Bz,h3];rfl,h4⟩
 |(k, .Hs a b c)::l,_,h=>by
  obtain ⟨h3,h4⟩:=Oe (l:=l) h
  exact ⟨by rw [Bz,h3];rfl,h4⟩
 |(k, .Bu a b c d e)::l,_,h=>by
  obtain ⟨h3,h4⟩:=Oe (l:=l) h
  exact ⟨by rw [Bz,h3];rfl,h4⟩
 |(k, .Wi a b)::l,_,h=>by
  obtain ⟨h3,h4⟩:=Oe (l:=l) h
  exact ⟨by rw [Bz,h3];rfl,h4⟩
theorem lG {B:List (Nat×Nat×Nat)} {s:St} {K:Prop} (h:CH B s K):s.whole B=s/\K:=by
 obtain ⟨h1,h2⟩:=ig h
 obtain ⟨h3,h4⟩:=Oe h2
 exact ⟨by unfold St.whole St.Lx;rw [h1,h3],h4⟩
theorem iR (live:List Nat): ∀(i:Nat) (l:List AV) (t:Nat),i+t∉live->(Jf live i l).getD t .undef= .undef
 |_,[],_,_=>rfl
 |i,v::r,0,h=>by simp [Jf];intro hn;exact absurd hn h
 |i,v::r,t+1,h=>by
  simp only [Jf,Ok]
  exact iR live (i+1) r t (by rw [show i+1+t=i+(t+1) by omega];exact h)
theorem gK: ∀(l:List Nat) (st:St) (t:Nat),st.get t= .undef->(bu l st).get t= .undef
 | [],_,_,h=>h
 |a::r,st,t,h=>gK r _ t (by
  show (st.tmps.map (·.map (Cs a))).getD t .undef= .undef
  rw [Vs (Cs a) rfl,show st.tmps.getD t .undef= .undef from h]
  rfl)
theorem BO (l k:Nat) (st:St) (t:Nat) (h:st.get t= .undef):(st.rename l k).get t= .undef:=by
 unfold St.rename
 split
 ·split
  ·show (st.tmps.map (·.map (Wb l k))).getD t .undef= .undef
   rw [Vs (Wb l k) rfl,show st.tmps.getD t .undef= .undef from h]
   rfl
  ·exact h
 ·exact h
theorem eM: ∀(n i:Nat) (st:St) (t:Nat),st.get t= .undef->(Nq n i st).get t= .undef
 |0,_,_,_,h=>h
 |n+1,i,st,t,h=>by
  simp only [Nq]
  refine eM n (i+1) _ t ?_
  split
  ·split
   ·split
    ·exact h
    ·exact BO _ _ _ t h
   ·exact h
  ·exact h
theorem BJ (st:St) (d:Nat) (v:AV) (t:Nat) (Jd:t≠d) (h:st.get t= .undef):(st.put (some d) v).get t= .undef:=by rw [c8 _ _ Jd];exact h
theorem uM (k:Nat) (st:St) (t:Nat) (h:st.get t= .undef):(cq k st).get t= .undef:=by
 unfold cq
 split
 ·rename_i l off len hg
  split
  ·split
   ·refine BJ _ _ _ _ (λe=>by subst e;rw [hg] at h;cases h) ?_
    show (st.tmps.map (·.map (Cs l))).getD t .undef= .undef
    rw [Vs (Cs l) rfl,show st.tmps.getD t .undef= .undef from h]
    rfl
   ·exact h
  ·exact h
 ·exact h
theorem mI (c:Nat) (st:St) (t:Nat) (h:st.get t= .undef):(Qp c st).get t= .undef:=by
 unfold Qp
 split
 ·split
  ·rename_i l off len hc
   split
   ·split
    ·split
     ·show (st.tmps.map (·.map (Cs l))).getD t .undef= .undef
      rw [Vs (Cs l) rfl,show st.tmps.getD t .undef= .undef from h]
      rfl
     ·exact h
    ·exact h
   ·exact h
  ·exact h
 ·exact h
theorem dh (live:List Nat): ∀(n i:Nat) (st:St) (t:Nat),st.get t= .undef->(Qg live n i st).get t= .undef
 |0,_,_,_,h=>h
 |n+1,i,st,t,h=>by
  simp only [Qg]
  refine dh live n (i+1) _ t ?_
  split
  ·exact mI _ _ _ h
  ·exact h
theorem gW (live:List Nat): ∀(n i:Nat) (st:St) (t:Nat),st.get t= .undef->(Px live n i st).get t= .undef
 |0,_,st,t,h=>dh live 16 0 st t h
 |n+1,i,st,t,h=>by
  simp only [Px]
  refine gW live n (i+1) _ t ?_
  split
  ·exact uM _ _ _ h
  ·exact h
theorem LJ {live:List Nat} {st:St} {t:Nat} (h:((st.clean live).get t).Yu=true):t∈live:=by
 refine Bp λhn=>?_
 have:(st.clean live).get t= .undef:=by
  have key: ∀s:St,s.get t= .undef->(if live.contains di then Nq s.tmps.length 0 s else s).get t= .undef:=by
   intro s hs
   split
   ·exact eM _ _ s t hs
   ·exact hs
  unfold St.clean
  have Aaz: ∀s:St,s.get t= .undef->(if live.any (λt=>Nat.ble Ur t) then s.Jv live else s).get t= .undef:=by
   intro s hs
   split<;>exact hs
  have Ab0: ∀s:St,s.get t= .undef->(if live.any (λt=>Nat.ble Np t&&Nat.blt t di) then Px live s.tmps.length 0 s else s).get t= .undef:=by
   intro s hs
   split
   ·exact gW _ _ _ s t hs
   ·exact hs
  refine Aaz _ (key _ (Ab0 _ (gK _ _ t ?_)))
  exact iR live 0 st.tmps t (by simpa using hn)
 rw [this] at h
 cases h
theorem tZ {c:AV} (h:c.Yu=true): ∃fr τ,∃x:τ.den,c= .at (.data fr τ x):=by
 unfold AV.Yu at h
 split at h
 ·exact ⟨_,_,_,rfl⟩
 ·cases h
theorem XD {live:Nat->List Nat} {c:Code} {t:Nat} (h:stays live c t=true):t∉writes c/\cf live c t=true:=by
 unfold stays at h
 simpa using h
section
variable {T:Tab} {Γ:Env} {live:Nat->List Nat}
theorem Pk.keeps {c:Code} {st:St} {Q:Mn->St->Prop} (h:Pk T Γ live c st Q):Pk T Γ live c st (λe s=>Q e s/\Gs (λt=>t∉writes c/\cf live c t=true) st s):=by
 exact ON h st _ Cp.rfl'.on λt ht=>ht
def wsQ (Q:Mn->WS->Prop) (e:Mn) (s:St):Prop:= ∃w':WS,w'.st=s/\w'.OK/\Q e w'
theorem GS {c:Code} (ih: ∀(w:WS) (Q:Mn->WS->Prop),w.OK->eb T Γ live c w Q->Pk T Γ live c w.st (wsQ Q)) {w:WS} {Q:Mn->WS->Prop} (h:eb T Γ live (.loop c) w Q):
  Pk T Γ live (.loop c) w.st (wsQ Q):=by
 simp only [eb,UG,fz] at h
 obtain ⟨hw0,I,μ,h0,hs⟩:=lG h
 have Av: ∀(t:Nat),((w.st.clean (live (Ga c))).get t).Yu=true->stays live c t=true-> ∀v,((St.wA (Lj (stays live c) 0 (w.st.clean (live (Ga c))).tmps) (w.st.clean (live (Ga c))) (jT ((w.st.clean (live (Ga c))).mask (Lj (stays live c) 0 (w.st.clean (live (Ga c))).tmps)) v)).whole (ay T.parts (w.st.clean (live (Ga c))).tmps)).get t=(w.st.clean (live (Ga c))).get t:=by
  intro t h1 h2 v
  have h3:=ym (stays live c) 0 (w.st.clean (live (Ga c))).tmps (jT ((w.st.clean (live (Ga c))).mask (Lj (stays live c) 0 (w.st.clean (live (Ga c))).tmps)) v).tmps t
   ((ie _ _).trans (fL _ _)) h1 (by simpa using h2)
  obtain ⟨fr,τ,x,hx⟩:=tZ h1
  refine (Qe _ _ rfl λ_ _ _=>rfl) t fr τ x ?_|>.trans hx.symm
  exact h3.trans hx
 have hmk: ∀(s1:St),(∀t,((w.st.clean (live (Ga c))).get t).Yu=true->stays live c t=true->s1.get t=(w.st.clean (live (Ga c))).get t)->s1.whole (ay T.parts (w.st.clean (live (Ga c))).tmps)=s1-> ∀v,jU ((w.st.clean (live (Ga c))).mask (Lj (stays live c) 0 (w.st.clean (live (Ga c))).tmps)) (s1.mask (Lj (stays live c) 0 (w.st.clean (live (Ga c))).tmps))=some v->
   s1=(St.wA (Lj (stays live c) 0 (w.st.clean (live (Ga c))).tmps) (w.st.clean (live (Ga c))) (jT ((w.st.clean (live (Ga c))).mask (Lj (stays live c) 0 (w.st.clean (live (Ga c))).tmps)) v)).whole (ay T.parts (w.st.clean (live (Ga c))).tmps):=by
  intro s1 hf hwh v hv
  have h1:=jV hv
  have h2:St.wA (Lj (stays live c) 0 (w.st.clean (live (Ga c))).tmps) (w.st.clean (live (Ga c))) (s1.mask (Lj (stays live c) 0 (w.st.clean (live (Ga c))).tmps))=s1:=by
   simp only [St.wA,St.mask]
   rw [mE (stays live c) 0 (w.st.clean (live (Ga c))).tmps s1.tmps λt h3 h4=>hf t h3 (by simpa using h4)]
  have h3:(St.wA (Lj (stays live c) 0 (w.st.clean (live (Ga c))).tmps) (w.st.clean (live (Ga c))) (jT ((w.st.clean (live (Ga c))).mask (Lj (stays live c) 0 (w.st.clean (live (Ga c))).tmps)) v)).whole (ay T.parts (w.st.clean (live (Ga c))).tmps)=s1.whole (ay T.parts (w.st.clean (live (Ga c))).tmps):=by
   refine KC ?_
   rw [uy,h1,<-uy,h2]
  rw [h3,hwh]
 refine WE (λv=>(St.wA (Lj (stays live c) 0 (w.st.clean (live (Ga c))).tmps) (w.st.clean (live (Ga c))) (jT ((w.st.clean (live (Ga c))).mask (Lj (stays live c) 0 (w.st.clean (live (Ga c))).tmps)) v)).whole (ay T.parts (w.st.clean (live (Ga c))).tmps)) I μ _ h0 (hmk _ (λ_ _ _=>rfl) hw0 _ (ry _ (mA _ _ (Vb h)))) ?_
 intro a ha
 refine (Pk.keeps (ih ⟨[],_⟩ _ (λt b h=>by cases h) (hs a ha))).mono ?_
 intro e s hQ
 obtain ⟨⟨w',h1,h2,h3⟩,hk⟩:=hQ
 subst h1
 cases e with
 |normal=>
  obtain ⟨h4,h5⟩:=lG h3
  obtain ⟨v',h6,h7,h8⟩:=Cd.1 h5
  refine ⟨v',hmk _ (λt hd ht=>?_) h4 _ h6,h7,h8⟩
  obtain ⟨fr,τ,x,hx⟩:=tZ hd
  rw [hx]
  exact lu (live (Ga c)) w'.st t fr τ x (LJ hd) (hk t fr τ x (XD ht) (by rw [Av t hd ht a];exact hx))
 |exit id=>exact ⟨w',rfl,h2,h3⟩
 |ret=>exact ⟨w',rfl,h2,h3⟩
theorem qE: ∀(c:Code) (w:WS) (Q:Mn->WS->Prop),w.OK->eb T Γ live c w Q->Pk T Γ live c w.st (wsQ Q):=by
 intro c
 induction c with
 |skip=>intro w Q hw h;exact .skip ⟨w,rfl,hw,h⟩
 |label _=>intro w Q hw h;exact .label ⟨w,rfl,hw,h⟩
 |exit _=>intro w Q hw h;exact .exit ⟨w,rfl,hw,h⟩
 |ret=>intro w Q hw h;exact .ret ⟨w,rfl,hw,h⟩
 |region id ops draw=>
  intro w Q hw h
  have jk:WS.OK {w with st:=w.st.nB ops} := λt b ht=>by
   obtain ⟨fr,e⟩:=hw t b ht
   exact ⟨fr,lv ops w.st t fr .bool b e⟩
  exact .region ((wN jk h).mono λs ⟨w',h1,h2,h3⟩=>⟨w',h1,h2,Pe.1 h3⟩)
 |seq x y ihx ihy=>
  intro w Q hw h
  refine Ace ((ihx w _ hw h).mono λe s hQ=>?_)
  obtain ⟨w',h1,h2,h3⟩:=hQ
  subst h1
  cases e with
  |normal=>exact ihy w' Q h2 h3
  |exit id=>exact ⟨w',rfl,h2,h3⟩
  |ret=>exact ⟨w',rfl,h2,h3⟩
 |cond c x y ihx ihy=>
  intro w Q hw h
  obtain ⟨fr,b,w',h1,h2,h3,h4⟩:=xu hw h
  refine WD h1 (λhb=>?_) (λhb=>?_)
  ·subst hb;rw [<-h2];exact ihx w' Q h3 h4
  ·subst hb;rw [<-h2];exact ihy w' Q h3 h4
 |block id c ih=>
  intro w Q hw h
  refine OM ((ih w _ hw h).mono λe s hQ=>?_)
  obtain ⟨w',h1,h2,h3⟩:=hQ
  subst h1
  cases e with
  |normal=>exact ⟨w',rfl,h2,h3⟩
  |ret=>exact ⟨w',rfl,h2,h3⟩
  |exit UP=>
   simp only at h3
   simp only [xR]
   split at h3
   ·rename_i hi;rw [Ab hi];exact ⟨w',rfl,h2,h3⟩
   ·rename_i hi;rw [Ai hi];exact ⟨w',rfl,h2,h3⟩
 |loop c ih=>intro w Q hw h;exact GS ih h
 |_=>intro w Q hw h;exact absurd h (by simp [eb])
theorem sZ {s:Spec} {fn:Func} {P:s.res.den->Prop} {st:St} (h:Aiz T s fn P st): ∃fr y,nM T s fn st=some (fr,y)/\(fr||!s.fresh)=true/\P y:=by
 obtain ⟨p,h1,h2⟩:=Cd.1 h
 split at h2
 ·rename_i hf;exact ⟨p.1,p.2,h1,hf,h2⟩
 ·cases h2
theorem UF {s:Spec} {fn:Func} {x:s.arg.den} {P:s.res.den->Prop} (h:fnW T Γ s fn x P):YX T Γ s fn x P:=by
 unfold fnW at h
 obtain ⟨c,h1,h2⟩:=Cd.1 h
 refine ⟨c,h1,(qE c _ _ (λt b h=>by cases h) h2).mono λe st ⟨w,h4,h5,h6⟩=>?_⟩
 subst h4
 cases e with
 |normal=>exact ⟨λid hh=>(by cases hh),sZ h6⟩
 |ret=>exact ⟨λid hh=>(by cases hh),sZ h6⟩
 |exit id=>cases h6
theorem da {st:St} {K:Prop} : ∀(vs:List AC) (cs:List (Bool×CK)),jq st K vs cs->jo st vs cs/\K
 | [],cs,h=>⟨by simp [jo],by simpa [jq] using h⟩
 |a::vs,[],h=>⟨by cases a<;>simp [jo],by cases a<;>simpa [jq] using h⟩
 |a::vs,(false,c)::r,h=>by
  have h:jq st K vs r:=by cases a<;>simpa only [jq] using h
  obtain ⟨h1,h2⟩:=da vs r h
  exact ⟨by cases a<;>simpa only [jo] using h1,h2⟩
 |a::vs,(true,c)::r,h=>by
  cases a with
  |own l off len=>
   simp only [jq] at h
   split at h
   ·rename_i hl
    obtain ⟨h1,h2⟩:=da vs r h.2
    refine ⟨?_,h2⟩
    simp only [jo,hl]
    exact ⟨h.1,h1⟩
   ·rename_i hl
    obtain ⟨h1,h2⟩:=da vs r h.2
    refine ⟨?_,h2⟩
    simp only [jo,hl]
    exact ⟨h.1,h1⟩
   ·exact h.elim
  |_=>exact ⟨by simp [jo],by simpa [jq] using h⟩
theorem fQ {st:St} : ∀(cs:List CK) (as:List AC) (K:CKs.den cs->List Nat->Prop),pW st cs as K-> ∃x ls,Vz st cs as=some (x,ls)/\K x ls
 | [],[],K,h=>⟨(),[],rfl,h⟩
 | [],_::_,_,h=>h.elim
 |c::r,[],K,h=>by cases c<;>exact h.elim
 |c::r,a::as,K,h=>by
  have vW:Iv (kX st c a) (λp=>pW st r as λy t=>K (p.1,y) (p.2++t))-> ∃x ls,Vz st (c::r) (a::as)=some (x,ls)/\K x ls:= λh=>by
   obtain ⟨p,h1,h2⟩:=Cd.1 h
   obtain ⟨y,t,h3,h4⟩:=fQ r as _ h2
   exact ⟨_,_,by simp only [Vz,h1,h3],h4⟩
  cases c with
  |Bu e te kp=>
   cases a with
   |own l off len=>
    simp only [pW] at h
    split at h
    ·rename_i hl
     split at h
     ·rename_i hc
      obtain ⟨⟨h1,h2⟩,h⟩:=h
      obtain ⟨y,t,h3,h4⟩:=fQ r as _ h
      exact ⟨_,_,by simp only [Vz,kX,hl];rw [Jw ⟨hc.1,hc.2,h1,h2⟩];simp only [h3];rfl,h4⟩
     ·exact h.elim
    ·exact h.elim
   |_=>exact vW h
  |_=>exact vW h
theorem o8 {st:St} {n:Nat} {as:List AC} {K:Prop} : ∀(ks:List (Nat×Nat)),zZ st n as ks K->xW st n as ks/\K
 | [],h=>⟨trivial,h⟩
 |(k,j)::r,h=>by
  simp only [zZ] at h
  split at h
  ·rename_i l off len ha
   split at h
   ·rename_i p hl
    split at h
    ·rename_i hc
     simp only [Ah] at hc
     obtain ⟨h1,h2⟩:=o8 r h.2
     refine ⟨?_,h2⟩
     simp only [xW,ha,hl]
     exact ⟨⟨Kp hc.1,h.1,hc.2⟩,h1⟩
    ·exact h.elim
   ·exact h.elim
  ·exact h.elim
theorem jI {s:MSpec} {fn:Func} {x:Ins.den s.ins} {st:St} {cs:List AC} {P:CKs.den s.outs×IOs.den s.ins->Prop} (h:uR T s fn x st cs P):kK T s fn x st cs P:=by
 obtain ⟨l,h1,h⟩:=Cd.1 h
 obtain ⟨⟨as,ml⟩,h2,h⟩:=Cd.1 h
 obtain ⟨r,ls,h3,h⟩:=fQ _ _ _ h
 obtain ⟨o,h4,h⟩:=Cd.1 h
 split at h
 ·rename_i hc
  obtain ⟨h5,h6⟩:=o8 _ h
  unfold kK
  simp only [h1,h2,h3,h4]
  exact ⟨hc,h5,h6⟩
 ·exact h.elim
theorem rm {s:MSpec} {fn:Func} {x:Ins.den s.ins} {st:St} {P:CKs.den s.outs×IOs.den s.ins->Prop} (h:TA T s fn x st P):YW T s fn x st P:=by
 unfold TA at h
 unfold YW
 cases hp:s.ptr with
 |none=>rw [hp] at h;exact jI h
 |some p=>
  rw [hp] at h
  simp only at h⊢
  split at h
  ·rename_i tid vs hl
   split at h
   ·rename_i hc
    simp only [Ah] at hc
    obtain ⟨h1,h2⟩:=hc
    have h1:tid=p.1:=Kp h1
    have h2:=Kp h2
    subst h1
    obtain ⟨cs,h3,h4⟩:=Cd.1 h
    obtain ⟨h5,h6⟩:=da vs s.ins h4
    exact ⟨vs,cs,hl,h2,h3,h5,jI h6⟩
   ·exact h.elim
  ·exact h.elim
theorem LU {s:MSpec} {fn:Func} {x:Ins.den s.ins} {P:CKs.den s.outs×IOs.den s.ins->Prop} (h:fnMW T Γ s fn x P):Ah4 T Γ s fn x P:=by
 unfold fnMW at h
 split at h
 ·cases h
 rename_i hlen
 obtain ⟨c,h1,h2⟩:=Cd.1 h
 refine ⟨hlen,c,h1,(qE c _ _ (λt b h=>by cases h) h2).mono λe st ⟨w,h4,h5,h6⟩=>?_⟩
 subst h4
 cases e with
 |normal=>exact ⟨λid hh=>(by cases hh),rm h6⟩
 |ret=>exact ⟨λid hh=>(by cases hh),rm h6⟩
 |exit id=>cases h6
theorem Eu.ofW {P:Program} (hT:Ep P T) (Pw:Lr P Γ) (hm:P.follows .mixedOrders=true) {f:FuncId} {fn:Func} (hf:P.funcs[f]?=some fn) (hn:(fn.name== "runtime.NumGoroutine")=false)
  (hb:fn.body.isNone=false) (s:MSpec) (h: ∀x y,s.fn x=some y->fnMW T Γ s fn x (λz=>z=y)):Eu P f s:=
 ⟨bQ hf hn hb,λw S π us x r o g vs h1 hg h2 h3 hS h4 h5=>w7 hT Pw hm hf s w S π us x r o g vs h1 hg h2 h3 hS h4 (LU (h x (r,o) h5))⟩
theorem Sound.ofW {P:Program} (hT:Ep P T) (Pw:Lr P Γ) (hm:P.follows .mixedOrders=true) {f:FuncId} {fn:Func} (hf:P.funcs[f]?=some fn) (hn:(fn.name== "runtime.NumGoroutine")=false)
  (hb:fn.body.isNone=false) (s:Spec) (h: ∀x y,s.fn x=some y->fnW T Γ s fn x (λz=>z=y)):Sound P f s:=
 Acg hT Pw hm hf hn hb s λx y hx=>UF (h x y hx)
end
end Go.Proofs.YtkkdpknjohcekaaGreat
