/-
  Part 34 of the proof that the statement FnSubgroups holds.
-/
import Derived.Test.YtkkdpknjohcekaaCFSubgroups32
namespace Go.Proofs.Ytkkdpknjohcekaa
open Go.RowKit
theorem Um {B:List (Nat×Nat×Nat)} {H:List (Nat×OB)} : ∀ {l:List AV} {K:Prop},bo B H l K-> ∀c∈l,c.lA=true
 | [],_,_,c,hc=>by cases hc
 |d::l,K,h,c,hc=>by
  simp only [bo] at h
  cases d with
  |Mn l'=>exact h.elim
  | «at»a=>
   rcases Bc.1 hc with rfl|hc
   ·rfl
   ·have h':bo B H l K:=by
     cases a with
     |own k o n=>exact h.2.2
     |_=>exact h
    exact Um h' c hc
  |bp _ _ _=>
   rcases Bc.1 hc with rfl|hc
   ·rfl
   ·exact Um h c hc
  |agg cs=>
   rcases Bc.1 hc with rfl|hc
   ·rfl
   ·have: ∀(cs:List AC) (Q:Prop),dU B H cs Q->Q:=by
     intro cs
     induction cs with
     |nil=>exact λQ h=>h
     |cons a cs ih=>
      intro Q h
      have h2:dU B H cs Q:=by
       cases a with
       |own k o n=>exact h.2.2
       |_=>exact h
      exact ih Q h2
    exact Um (this cs _ h) c hc
theorem mH: ∀(f:List Bool) (l:List AV),(∀c∈l,c.lA=true)-> ∀c∈Tt f l,c.lA=true
 | [],l,h=>by simpa [Tt] using h
 |true::f,[],h=>by simp [Tt] at h⊢
 |false::f,[],h=>by simp [Tt] at h⊢
 |true::f,a::l,h=>by
  intro c hc
  simp only [Tt,Bc] at hc
  rcases hc with rfl|hc
  ·rfl
  ·exact mH f l (λc hc=>h c (Ar _ hc)) c hc
 |false::f,a::l,h=>by
  intro c hc
  simp only [Tt,Bc] at hc
  rcases hc with rfl|hc
  ·exact h c (by simp)
  ·exact mH f l (λc hc=>h c (Ar _ hc)) c hc
theorem UG (f:AC->AC) (H:List (Nat×OB)) (l:Nat):lenOf (H.map λp=>(p.1,p.2.map f)) l=lenOf H l:=by
 unfold lenOf
 rw [Ol]
 cases Aw H l with
 |none=>rfl
 |some b=>cases b<;>rfl
theorem KK (f g:AC->AC) (c:AV):(c.map f).map g=c.map λa=>g (f a):=by
 cases c<;>simp [AV.map]
theorem MV (f g:AC->AC) (c:OB):(c.map f).map g=c.map λa=>g (f a):=by
 cases c<;>simp [OB.map]
theorem GS (s:St) (f g:AC->AC):(s.Kv f).Kv g=s.Kv λa=>g (f a):=by
 simp [St.Kv,List.map_map,Function.comp_def,KK,MV]
theorem GF (f:AC->AC) (H:List (Nat×OB)) (l:Nat): ∀(B:List (Nat×Nat×Nat)),UE B (H.map λp=>(p.1,p.2.map f)) l=UE B H l
 | []=>UG f H l
 |(k,o,n)::r=>by simp only [UE];rw [GF f H l r]
theorem JQ (B:List (Nat×Nat×Nat)) (s:St):(s.Kv Sx).whole B=s.whole B:=by
 unfold St.whole
 rw [GS]
 congr 1
 funext a
 cases a with
 |own l off len=>simp only [Sx,gw,St.Kv,GF]
 |_=>rfl
theorem JO {B:List (Nat×Nat×Nat)} {s t:St} (h:s.Kv Sx=t.Kv Sx):s.whole B=t.whole B:=by rw [<-JQ B s,h,JQ]
theorem pQ (f:AC->AC): ∀(fx:List Bool) (a b:List AV),(Vh fx a b).map (·.map f)=Vh fx (a.map (·.map f)) (b.map (·.map f))
 | [],_,_=>by simp [Vh]
 |_::_,[],_=>by simp [Vh]
 |true::_,_::_,[]=>by simp [Vh]
 |false::_,_::_,[]=>by simp [Vh]
 |true::fx,x::a,y::b=>by simp only [Vh,Ca,pQ f fx a b]
 |false::fx,x::a,y::b=>by simp only [Vh,Ca,pQ f fx a b]
theorem uj (f:AC->AC) (fx:List Bool) (a b:St):(St.wm fx a b).Kv f=St.wm fx (a.Kv f) (b.Kv f):=by
 simp only [St.wm,St.Kv,pQ]
theorem gX: ∀(l:List AV) {R:Type} (v:rC l R),(Wv l v).1.length=l.length
 | [],_,_=>rfl
 |c::l,_,v=>by simp [Wv,gX l]
theorem xW (p:Nat->Bool): ∀(i:Nat) (l0 l:List AV) (t:Nat),l.length=l0.length->(l0.getD t .undef).Xy=true->p (i+t)=true->(Vh (Kd p i l0) l0 l).getD t .undef=l0.getD t .undef
 |_,[],_,t,_,h,_=>by simp [AV.Xy] at h
 |i,a::r,[],_,h,_,_=>by simp at h
 |i,a::r,b::s,0,_,h1,h2=>by
  have:(a.Xy&&p i)=true:=by
   simp only [Ai]
   exact ⟨by simpa using h1,h2⟩
  simp only [Kd,this,Vh,Xh]
 |i,a::r,b::s,t+1,hl,h1,h2=>by
  have hr:=xW p (i+1) r s t (by simpa using hl) (by simpa using h1) (by rw [show i+1+t=i+(t+1) by omega];exact h2)
  simp only [Kd]
  cases (a.Xy&&p i)<;>simpa only [Vh,Nb] using hr
theorem kZ {B:List (Nat×Nat×Nat)} {H:List (Nat×OB)} {c:AC} {K:Prop} (h:yM B H c K):gw B H c=c/\K:=by
 cases c with
 |own l off len=>obtain ⟨h1,h2,h3⟩:=h;exact ⟨by rw [h1,h2];rfl,h3⟩
 |_=>exact ⟨rfl,h⟩
theorem bz {B:List (Nat×Nat×Nat)} {H:List (Nat×OB)} : ∀ {l:List AC} {K:Prop},dU B H l K->l.map (gw B H)=l/\K
 | [],_,h=>⟨rfl,h⟩
 |c::l,_,h=>by
  obtain ⟨h1,h2⟩:=kZ h
  obtain ⟨h3,h4⟩:=bz h2
  exact ⟨by rw [Ca,h1,h3],h4⟩
theorem vR {B:List (Nat×Nat×Nat)} {H:List (Nat×OB)} {c:AV} {K:Prop} (h:QE B H c K):c.map (gw B H)=c/\K:=by
 cases c with
 | «at»a=>obtain ⟨h1,h2⟩:=kZ h;exact ⟨by rw [AV.map,h1],h2⟩
 |agg cs=>obtain ⟨h1,h2⟩:=bz h;exact ⟨by rw [AV.map,h1],h2⟩
 |bp _ _ _=>exact ⟨rfl,h⟩
 |Mn l=>exact h.elim
theorem gY {B:List (Nat×Nat×Nat)} {H:List (Nat×OB)} : ∀ {l:List AV} {K:Prop},bo B H l K->l.map (·.map (gw B H))=l/\K
 | [],_,h=>⟨rfl,h⟩
 |c::l,_,h=>by
  obtain ⟨h1,h2⟩:=vR h
  obtain ⟨h3,h4⟩:=gY h2
  exact ⟨by rw [Ca,h1,h3],h4⟩
theorem Mx {B:List (Nat×Nat×Nat)} {H:List (Nat×OB)} : ∀ {l:List (Nat×OB)} {K:Prop},ku B H l K->l.map (λp=>(p.1,p.2.map (gw B H)))=l/\K
 | [],_,h=>⟨rfl,h⟩
 |(k, .var t vs)::l,_,h=>by
  obtain ⟨h1,h2⟩:=bz h
  obtain ⟨h3,h4⟩:=Mx h2
  exact ⟨by rw [Ca,h3];simp only [OB.map,h1],h4⟩
 |(k, .arr a b c d e)::l,_,h=>by
  obtain ⟨h3,h4⟩:=Mx (l:=l) h
  exact ⟨by rw [Ca,h3];rfl,h4⟩
 |(k, .Gx a b c)::l,_,h=>by
  obtain ⟨h3,h4⟩:=Mx (l:=l) h
  exact ⟨by rw [Ca,h3];rfl,h4⟩
 |(k, .Bo a b c d e)::l,_,h=>by
  obtain ⟨h3,h4⟩:=Mx (l:=l) h
  exact ⟨by rw [Ca,h3];rfl,h4⟩
 |(k, .Vq a b)::l,_,h=>by
  obtain ⟨h3,h4⟩:=Mx (l:=l) h
  exact ⟨by rw [Ca,h3];rfl,h4⟩
theorem lF {B:List (Nat×Nat×Nat)} {s:St} {K:Prop} (h:BP B s K):s.whole B=s/\K:=by
 obtain ⟨h1,h2⟩:=gY h
 obtain ⟨h3,h4⟩:=Mx h2
 exact ⟨by unfold St.whole St.Kv;rw [h1,h3],h4⟩
theorem iK (live:List Nat): ∀(i:Nat) (l:List AV) (t:Nat),i+t∉live->(Ia live i l).getD t .undef= .undef
 |_,[],_,_=>rfl
 |i,v::r,0,h=>by simp [Ia];intro hn;exact absurd hn h
 |i,v::r,t+1,h=>by
  simp only [Ia,Nb]
  exact iK live (i+1) r t (by rw [show i+1+t=i+(t+1) by omega];exact h)
theorem gH: ∀(l:List Nat) (st:St) (t:Nat),st.get t= .undef->(bg l st).get t= .undef
 | [],_,_,h=>h
 |a::r,st,t,h=>gH r _ t (by
  show (st.tmps.map (·.map (Cu a))).getD t .undef= .undef
  rw [Vc (Cu a) rfl,show st.tmps.getD t .undef= .undef from h]
  rfl)
theorem AQ (l k:Nat) (st:St) (t:Nat) (h:st.get t= .undef):(st.rename l k).get t= .undef:=by
 unfold St.rename
 split
 ·split
  ·show (st.tmps.map (·.map (Vi l k))).getD t .undef= .undef
   rw [Vc (Vi l k) rfl,show st.tmps.getD t .undef= .undef from h]
   rfl
  ·exact h
 ·exact h
theorem eI: ∀(n i:Nat) (st:St) (t:Nat),st.get t= .undef->(Ml n i st).get t= .undef
 |0,_,_,_,h=>h
 |n+1,i,st,t,h=>by
  simp only [Ml]
  refine eI n (i+1) _ t ?_
  split
  ·split
   ·split
    ·exact h
    ·exact AQ _ _ _ t h
   ·exact h
  ·exact h
theorem AL (st:St) (d:Nat) (v:AV) (t:Nat) (Ig:t≠d) (h:st.get t= .undef):(st.put (some d) v).get t= .undef:=by rw [bK _ _ Ig];exact h
theorem ux (k:Nat) (st:St) (t:Nat) (h:st.get t= .undef):(bX k st).get t= .undef:=by
 unfold bX
 split
 ·rename_i l off len hg
  split
  ·split
   ·refine AL _ _ _ _ (λe=>by subst e;rw [hg] at h;cases h) ?_
    show (st.tmps.map (·.map (Cu l))).getD t .undef= .undef
    rw [Vc (Cu l) rfl,show st.tmps.getD t .undef= .undef from h]
    rfl
   ·exact h
  ·exact h
 ·exact h
theorem mP (c:Nat) (st:St) (t:Nat) (h:st.get t= .undef):(Pp c st).get t= .undef:=by
 unfold Pp
 split
 ·split
  ·rename_i l off len hc
   split
   ·split
    ·split
     ·show (st.tmps.map (·.map (Cu l))).getD t .undef= .undef
      rw [Vc (Cu l) rfl,show st.tmps.getD t .undef= .undef from h]
      rfl
     ·exact h
    ·exact h
   ·exact h
  ·exact h
 ·exact h
theorem cW (live:List Nat): ∀(n i:Nat) (st:St) (t:Nat),st.get t= .undef->(Pe live n i st).get t= .undef
 |0,_,_,_,h=>h
 |n+1,i,st,t,h=>by
  simp only [Pe]
  refine cW live n (i+1) _ t ?_
  split
  ·exact mP _ _ _ h
  ·exact h
theorem gP (live:List Nat): ∀(n i:Nat) (st:St) (t:Nat),st.get t= .undef->(Oq live n i st).get t= .undef
 |0,_,st,t,h=>cW live 16 0 st t h
 |n+1,i,st,t,h=>by
  simp only [Oq]
  refine gP live n (i+1) _ t ?_
  split
  ·exact ux _ _ _ h
  ·exact h
theorem KW {live:List Nat} {st:St} {t:Nat} (h:((st.clean live).get t).Xy=true):t∈live:=by
 refine Bk λhn=>?_
 have:(st.clean live).get t= .undef:=by
  have key: ∀s:St,s.get t= .undef->(if live.contains cX then Ml s.tmps.length 0 s else s).get t= .undef:=by
   intro s hs
   split
   ·exact eI _ _ s t hs
   ·exact hs
  unfold St.clean
  have Aah: ∀s:St,s.get t= .undef->(if live.any (λt=>Nat.ble ak t) then s.Ii live else s).get t= .undef:=by
   intro s hs
   split<;>exact hs
  have Aai: ∀s:St,s.get t= .undef->(if live.any (λt=>Nat.ble Mk t&&Nat.blt t cX) then Oq live s.tmps.length 0 s else s).get t= .undef:=by
   intro s hs
   split
   ·exact gP _ _ _ s t hs
   ·exact hs
  refine Aah _ (key _ (Aai _ (gH _ _ t ?_)))
  exact iK live 0 st.tmps t (by simpa using hn)
 rw [this] at h
 cases h
theorem tQ {c:AV} (h:c.Xy=true): ∃fr τ,∃x:τ.den,c= .at (.data fr τ x):=by
 unfold AV.Xy at h
 split at h
 ·exact ⟨_,_,_,rfl⟩
 ·cases h
theorem WI {live:Nat->List Nat} {c:Code} {t:Nat} (h:stays live c t=true):t∉writes c/\bQ live c t=true:=by
 unfold stays at h
 simpa using h
section
variable {T:Tab} {Γ:Env} {live:Nat->List Nat}
theorem Nx.keeps {c:Code} {st:St} {Q:Lh->St->Prop} (h:Nx T Γ live c st Q):Nx T Γ live c st (λe s=>Q e s/\Fu (λt=>t∉writes c/\bQ live c t=true) st s):=by
 exact NZ h st _ Cq.rfl'.on λt ht=>ht
def wsQ (Q:Lh->WS->Prop) (e:Lh) (s:St):Prop:= ∃w':WS,w'.st=s/\w'.OK/\Q e w'
theorem GN {c:Code} (ih: ∀(w:WS) (Q:Lh->WS->Prop),w.OK->dX T Γ live c w Q->Nx T Γ live c w.st (wsQ Q)) {w:WS} {Q:Lh->WS->Prop} (h:dX T Γ live (.loop c) w Q):
  Nx T Γ live (.loop c) w.st (wsQ Q):=by
 simp only [dX,TQ,fu] at h
 obtain ⟨hw0,I,μ,h0,hs⟩:=lF h
 have Aw: ∀(t:Nat),((w.st.clean (live (Fg c))).get t).Xy=true->stays live c t=true-> ∀v,((St.wm (Kd (stays live c) 0 (w.st.clean (live (Fg c))).tmps) (w.st.clean (live (Fg c))) (jM ((w.st.clean (live (Fg c))).mask (Kd (stays live c) 0 (w.st.clean (live (Fg c))).tmps)) v)).whole (al T.parts (w.st.clean (live (Fg c))).tmps)).get t=(w.st.clean (live (Fg c))).get t:=by
  intro t h1 h2 v
  have h3:=xW (stays live c) 0 (w.st.clean (live (Fg c))).tmps (jM ((w.st.clean (live (Fg c))).mask (Kd (stays live c) 0 (w.st.clean (live (Fg c))).tmps)) v).tmps t
   ((gX _ _).trans (fG _ _)) h1 (by simpa using h2)
  obtain ⟨fr,τ,x,hx⟩:=tQ h1
  refine (Pc _ _ rfl λ_ _ _=>rfl) t fr τ x ?_|>.trans hx.symm
  exact h3.trans hx
 have hmk: ∀(s1:St),(∀t,((w.st.clean (live (Fg c))).get t).Xy=true->stays live c t=true->s1.get t=(w.st.clean (live (Fg c))).get t)->s1.whole (al T.parts (w.st.clean (live (Fg c))).tmps)=s1-> ∀v,jN ((w.st.clean (live (Fg c))).mask (Kd (stays live c) 0 (w.st.clean (live (Fg c))).tmps)) (s1.mask (Kd (stays live c) 0 (w.st.clean (live (Fg c))).tmps))=some v->
   s1=(St.wm (Kd (stays live c) 0 (w.st.clean (live (Fg c))).tmps) (w.st.clean (live (Fg c))) (jM ((w.st.clean (live (Fg c))).mask (Kd (stays live c) 0 (w.st.clean (live (Fg c))).tmps)) v)).whole (al T.parts (w.st.clean (live (Fg c))).tmps):=by
  intro s1 hf hwh v hv
  have h1:=jO hv
  have h2:St.wm (Kd (stays live c) 0 (w.st.clean (live (Fg c))).tmps) (w.st.clean (live (Fg c))) (s1.mask (Kd (stays live c) 0 (w.st.clean (live (Fg c))).tmps))=s1:=by
   simp only [St.wm,St.mask]
   rw [mN (stays live c) 0 (w.st.clean (live (Fg c))).tmps s1.tmps λt h3 h4=>hf t h3 (by simpa using h4)]
  have h3:(St.wm (Kd (stays live c) 0 (w.st.clean (live (Fg c))).tmps) (w.st.clean (live (Fg c))) (jM ((w.st.clean (live (Fg c))).mask (Kd (stays live c) 0 (w.st.clean (live (Fg c))).tmps)) v)).whole (al T.parts (w.st.clean (live (Fg c))).tmps)=s1.whole (al T.parts (w.st.clean (live (Fg c))).tmps):=by
   refine JO ?_
   rw [uj,h1,<-uj,h2]
  rw [h3,hwh]
 refine VS (λv=>(St.wm (Kd (stays live c) 0 (w.st.clean (live (Fg c))).tmps) (w.st.clean (live (Fg c))) (jM ((w.st.clean (live (Fg c))).mask (Kd (stays live c) 0 (w.st.clean (live (Fg c))).tmps)) v)).whole (al T.parts (w.st.clean (live (Fg c))).tmps)) I μ _ h0 (hmk _ (λ_ _ _=>rfl) hw0 _ (rv _ (mH _ _ (Um h)))) ?_
 intro a ha
 refine (Nx.keeps (ih ⟨[],_⟩ _ (λt b h=>by cases h) (hs a ha))).mono ?_
 intro e s hQ
 obtain ⟨⟨w',h1,h2,h3⟩,hk⟩:=hQ
 subst h1
 cases e with
 |normal=>
  obtain ⟨h4,h5⟩:=lF h3
  obtain ⟨v',h6,h7,h8⟩:=Cc.1 h5
  refine ⟨v',hmk _ (λt hd ht=>?_) h4 _ h6,h7,h8⟩
  obtain ⟨fr,τ,x,hx⟩:=tQ hd
  rw [hx]
  exact lv (live (Fg c)) w'.st t fr τ x (KW hd) (hk t fr τ x (WI ht) (by rw [Aw t hd ht a];exact hx))
 |exit id=>exact ⟨w',rfl,h2,h3⟩
 |ret=>exact ⟨w',rfl,h2,h3⟩
theorem qD: ∀(c:Code) (w:WS) (Q:Lh->WS->Prop),w.OK->dX T Γ live c w Q->Nx T Γ live c w.st (wsQ Q):=by
 intro c
 induction c with
 |skip=>intro w Q hw h;exact .skip ⟨w,rfl,hw,h⟩
 |label _=>intro w Q hw h;exact .label ⟨w,rfl,hw,h⟩
 |exit _=>intro w Q hw h;exact .exit ⟨w,rfl,hw,h⟩
 |ret=>intro w Q hw h;exact .ret ⟨w,rfl,hw,h⟩
 |region id ops draw=>
  intro w Q hw h
  have hw':WS.OK {w with st:=w.st.nA ops} := λt b ht=>by
   obtain ⟨fr,e⟩:=hw t b ht
   exact ⟨fr,lx ops w.st t fr .bool b e⟩
  exact .region ((wA hw' h).mono λs ⟨w',h1,h2,h3⟩=>⟨w',h1,h2,Nr.1 h3⟩)
 |seq x y ihx ihy=>
  intro w Q hw h
  refine Abw ((ihx w _ hw h).mono λe s hQ=>?_)
  obtain ⟨w',h1,h2,h3⟩:=hQ
  subst h1
  cases e with
  |normal=>exact ihy w' Q h2 h3
  |exit id=>exact ⟨w',rfl,h2,h3⟩
  |ret=>exact ⟨w',rfl,h2,h3⟩
 |cond c x y ihx ihy=>
  intro w Q hw h
  obtain ⟨fr,b,w',h1,h2,h3,h4⟩:=xa hw h
  refine VR h1 (λhb=>?_) (λhb=>?_)
  ·subst hb;rw [<-h2];exact ihx w' Q h3 h4
  ·subst hb;rw [<-h2];exact ihy w' Q h3 h4
 |block id c ih=>
  intro w Q hw h
  refine NY ((ih w _ hw h).mono λe s hQ=>?_)
  obtain ⟨w',h1,h2,h3⟩:=hQ
  subst h1
  cases e with
  |normal=>exact ⟨w',rfl,h2,h3⟩
  |ret=>exact ⟨w',rfl,h2,h3⟩
  |exit UA=>
   simp only at h3
   simp only [xA]
   split at h3
   ·rename_i hi;rw [Ab hi];exact ⟨w',rfl,h2,h3⟩
   ·rename_i hi;rw [Ak hi];exact ⟨w',rfl,h2,h3⟩
 |loop c ih=>intro w Q hw h;exact GN ih h
 |_=>intro w Q hw h;exact absurd h (by simp [dX])
theorem sY {s:Spec} {fn:Func} {P:s.res.den->Prop} {st:St} (h:Ais T s fn P st): ∃fr y,nL T s fn st=some (fr,y)/\(fr||!s.fresh)=true/\P y:=by
 obtain ⟨p,h1,h2⟩:=Cc.1 h
 split at h2
 ·rename_i hf;exact ⟨p.1,p.2,h1,hf,h2⟩
 ·cases h2
theorem TP {s:Spec} {fn:Func} {x:s.arg.den} {P:s.res.den->Prop} (h:fnW T Γ s fn x P):YA T Γ s fn x P:=by
 unfold fnW at h
 obtain ⟨c,h1,h2⟩:=Cc.1 h
 refine ⟨c,h1,(qD c _ _ (λt b h=>by cases h) h2).mono λe st ⟨w,h4,h5,h6⟩=>?_⟩
 subst h4
 cases e with
 |normal=>exact ⟨λid hh=>(by cases hh),sY h6⟩
 |ret=>exact ⟨λid hh=>(by cases hh),sY h6⟩
 |exit id=>cases h6
theorem cP {st:St} {K:Prop} : ∀(vs:List AC) (cs:List (Bool×CK)),jf st K vs cs->je st vs cs/\K
 | [],cs,h=>⟨by simp [je],by simpa [jf] using h⟩
 |a::vs,[],h=>⟨by cases a<;>simp [je],by cases a<;>simpa [jf] using h⟩
 |a::vs,(false,c)::r,h=>by
  have h:jf st K vs r:=by cases a<;>simpa only [jf] using h
  obtain ⟨h1,h2⟩:=cP vs r h
  exact ⟨by cases a<;>simpa only [je] using h1,h2⟩
 |a::vs,(true,c)::r,h=>by
  cases a with
  |own l off len=>
   simp only [jf] at h
   split at h
   ·rename_i hl
    obtain ⟨h1,h2⟩:=cP vs r h.2
    refine ⟨?_,h2⟩
    simp only [je,hl]
    exact ⟨h.1,h1⟩
   ·rename_i hl
    obtain ⟨h1,h2⟩:=cP vs r h.2
    refine ⟨?_,h2⟩
    simp only [je,hl]
    exact ⟨h.1,h1⟩
   ·exact h.elim
  |_=>exact ⟨by simp [je],by simpa [jf] using h⟩
theorem fL {st:St} : ∀(cs:List CK) (as:List AC) (K:CKs.den cs->List Nat->Prop),pP st cs as K-> ∃x ls,Vg st cs as=some (x,ls)/\K x ls
 | [],[],K,h=>⟨(),[],rfl,h⟩
 | [],_::_,_,h=>h.elim
 |c::r,[],K,h=>by cases c<;>exact h.elim
 |c::r,a::as,K,h=>by
  have vP:Hr (kV st c a) (λp=>pP st r as λy t=>K (p.1,y) (p.2++t))-> ∃x ls,Vg st (c::r) (a::as)=some (x,ls)/\K x ls:= λh=>by
   obtain ⟨p,h1,h2⟩:=Cc.1 h
   obtain ⟨y,t,h3,h4⟩:=fL r as _ h2
   exact ⟨_,_,by simp only [Vg,h1,h3],h4⟩
  cases c with
  |Bo e te kp=>
   cases a with
   |own l off len=>
    simp only [pP] at h
    split at h
    ·rename_i hl
     split at h
     ·rename_i hc
      obtain ⟨⟨h1,h2⟩,h⟩:=h
      obtain ⟨y,t,h3,h4⟩:=fL r as _ h
      exact ⟨_,_,by simp only [Vg,kV,hl];rw [Ip ⟨hc.1,hc.2,h1,h2⟩];simp only [h3];rfl,h4⟩
     ·exact h.elim
    ·exact h.elim
   |_=>exact vP h
  |_=>exact vP h
theorem o7 {st:St} {n:Nat} {as:List AC} {K:Prop} : ∀(ks:List (Nat×Nat)),zE st n as ks K->xF st n as ks/\K
 | [],h=>⟨trivial,h⟩
 |(k,j)::r,h=>by
  simp only [zE] at h
  split at h
  ·rename_i l off len ha
   split at h
   ·rename_i p hl
    split at h
    ·rename_i hc
     simp only [Ai] at hc
     obtain ⟨h1,h2⟩:=o7 r h.2
     refine ⟨?_,h2⟩
     simp only [xF,ha,hl]
     exact ⟨⟨Jf hc.1,h.1,hc.2⟩,h1⟩
    ·exact h.elim
   ·exact h.elim
  ·exact h.elim
theorem jD {s:MSpec} {fn:Func} {x:Ins.den s.ins} {st:St} {cs:List AC} {P:CKs.den s.outs×IOs.den s.ins->Prop} (h:uE T s fn x st cs P):kF T s fn x st cs P:=by
 obtain ⟨l,h1,h⟩:=Cc.1 h
 obtain ⟨⟨as,ml⟩,h2,h⟩:=Cc.1 h
 obtain ⟨r,ls,h3,h⟩:=fL _ _ _ h
 obtain ⟨o,h4,h⟩:=Cc.1 h
 split at h
 ·rename_i hc
  obtain ⟨h5,h6⟩:=o7 _ h
  unfold kF
  simp only [h1,h2,h3,h4]
  exact ⟨hc,h5,h6⟩
 ·exact h.elim
theorem rk {s:MSpec} {fn:Func} {x:Ins.den s.ins} {st:St} {P:CKs.den s.outs×IOs.den s.ins->Prop} (h:SJ T s fn x st P):XZ T s fn x st P:=by
 unfold SJ at h
 unfold XZ
 cases hp:s.ptr with
 |none=>rw [hp] at h;exact jD h
 |some p=>
  rw [hp] at h
  simp only at h⊢
  split at h
  ·rename_i tid vs hl
   split at h
   ·rename_i hc
    simp only [Ai] at hc
    obtain ⟨h1,h2⟩:=hc
    have h1:tid=p.1:=Jf h1
    have h2:=Jf h2
    subst h1
    obtain ⟨cs,h3,h4⟩:=Cc.1 h
    obtain ⟨h5,h6⟩:=cP vs s.ins h4
    exact ⟨vs,cs,hl,h2,h3,h5,jD h6⟩
   ·exact h.elim
  ·exact h.elim
theorem LK {s:MSpec} {fn:Func} {x:Ins.den s.ins} {P:CKs.den s.outs×IOs.den s.ins->Prop} (h:fnMW T Γ s fn x P):Agr T Γ s fn x P:=by
 unfold fnMW at h
 split at h
 ·cases h
 rename_i hlen
 obtain ⟨c,h1,h2⟩:=Cc.1 h
 refine ⟨hlen,c,h1,(qD c _ _ (λt b h=>by cases h) h2).mono λe st ⟨w,h4,h5,h6⟩=>?_⟩
 subst h4
 cases e with
 |normal=>exact ⟨λid hh=>(by cases hh),rk h6⟩
 |ret=>exact ⟨λid hh=>(by cases hh),rk h6⟩
 |exit id=>cases h6
theorem Ci.ofW {P:Program} (hT:Ef P T) (Om:Kq P Γ) (hm:P.follows .mixedOrders=true) {f:FuncId} {fn:Func} (hf:P.funcs[f]?=some fn) (hn:(fn.name== "runtime.NumGoroutine")=false)
  (hb:fn.body.isNone=false) (s:MSpec) (h: ∀x y,s.fn x=some y->fnMW T Γ s fn x (λz=>z=y)):Ci P f s:=
 ⟨iI hf hn hb,λw S π us x r o g vs h1 hg h2 h3 hS h4 h5=>vX hT Om hm hf s w S π us x r o g vs h1 hg h2 h3 hS h4 (LK (h x (r,o) h5))⟩
theorem Sound.ofW {P:Program} (hT:Ef P T) (Om:Kq P Γ) (hm:P.follows .mixedOrders=true) {f:FuncId} {fn:Func} (hf:P.funcs[f]?=some fn) (hn:(fn.name== "runtime.NumGoroutine")=false)
  (hb:fn.body.isNone=false) (s:Spec) (h: ∀x y,s.fn x=some y->fnW T Γ s fn x (λz=>z=y)):Sound P f s:=
 Aby hT Om hm hf hn hb s λx y hx=>TP (h x y hx)
end
end Go.Proofs.Ytkkdpknjohcekaa
