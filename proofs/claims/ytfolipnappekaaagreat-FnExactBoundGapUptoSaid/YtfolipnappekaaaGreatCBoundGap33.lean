/-
  Part 34 of the proof that the statement FnExactBoundGap holds.
-/
import Derived.Test.YtfolipnappekaaaGreatCBoundGap32
namespace Go.Proofs.YtfolipnappekaaaGreat
open Go.RowKit
theorem On {B:List (Nat×Nat×Nat)} {H:List (Nat×OB)} : ∀ {l:List AV} {K:Prop},Vt B H l K-> ∀c∈l,c.fU=true
 | [],_,_,c,hc=>by cases hc
 |d::l,K,h,c,hc=>by
  simp only [Vt] at h
  cases d with
  |Il l'=>exact h.elim
  | «at»a=>
   rcases List.mem_cons.1 hc with rfl|hc
   ·rfl
   ·have h':Vt B H l K:=by
     cases a with
     |own k o n=>exact h.2.2
     |_=>exact h
    exact On h' c hc
  |Vu _ _ _=>
   rcases List.mem_cons.1 hc with rfl|hc
   ·rfl
   ·exact On h c hc
  |agg cs=>
   rcases List.mem_cons.1 hc with rfl|hc
   ·rfl
   ·have: ∀(cs:List AC) (Q:Prop),Zk B H cs Q->Q:=by
     intro cs
     induction cs with
     |nil=>exact λQ h=>h
     |cons a cs ih=>
      intro Q h
      have h2:Zk B H cs Q:=by
       cases a with
       |own k o n=>exact h.2.2
       |_=>exact h
      exact ih Q h2
    exact On (this cs _ h) c hc
theorem gZ: ∀(f:List Bool) (l:List AV),(∀c∈l,c.fU=true)-> ∀c∈Po f l,c.fU=true
 | [],l,h=>by simpa [Po] using h
 |true::f,[],h=>by simp [Po] at h⊢
 |false::f,[],h=>by simp [Po] at h⊢
 |true::f,a::l,h=>by
  intro c hc
  simp only [Po,List.mem_cons] at hc
  rcases hc with rfl|hc
  ·rfl
  ·exact gZ f l (λc hc=>h c (List.mem_cons_of_mem _ hc)) c hc
 |false::f,a::l,h=>by
  intro c hc
  simp only [Po,List.mem_cons] at hc
  rcases hc with rfl|hc
  ·exact h c (by simp)
  ·exact gZ f l (λc hc=>h c (List.mem_cons_of_mem _ hc)) c hc
theorem JN (f:AC->AC) (H:List (Nat×OB)) (l:Nat):lenOf (H.map λp=>(p.1,p.2.map f)) l=lenOf H l:=by
 unfold lenOf
 rw [Jv]
 cases Ad H l with
 |none=>rfl
 |some b=>cases b<;>rfl
theorem AQ (f g:AC->AC) (c:AV):(c.map f).map g=c.map λa=>g (f a):=by
 cases c<;>simp [AV.map]
theorem DD (f g:AC->AC) (c:OB):(c.map f).map g=c.map λa=>g (f a):=by
 cases c<;>simp [OB.map]
theorem yK (s:St) (f g:AC->AC):(s.Gv f).Gv g=s.Gv λa=>g (f a):=by
 simp [St.Gv,List.map_map,Function.comp_def,AQ,DD]
theorem yz (f:AC->AC) (H:List (Nat×OB)) (l:Nat): ∀(B:List (Nat×Nat×Nat)),JL B (H.map λp=>(p.1,p.2.map f)) l=JL B H l
 | []=>JN f H l
 |(k,o,n)::r=>by simp only [JL];rw [yz f H l r]
theorem AD (B:List (Nat×Nat×Nat)) (s:St):(s.Gv Nm).whole B=s.whole B:=by
 unfold St.whole
 rw [yK]
 congr 1
 funext a
 cases a with
 |own l off len=>simp only [Nm,bM,St.Gv,yz]
 |_=>rfl
theorem AA {B:List (Nat×Nat×Nat)} {s t:St} (h:s.Gv Nm=t.Gv Nm):s.whole B=t.whole B:=by rw [<-AD B s,h,AD]
theorem kS (f:AC->AC): ∀(fx:List Bool) (a b:List AV),(Qs fx a b).map (·.map f)=Qs fx (a.map (·.map f)) (b.map (·.map f))
 | [],_,_=>by simp [Qs]
 |_::_,[],_=>by simp [Qs]
 |true::_,_::_,[]=>by simp [Qs]
 |false::_,_::_,[]=>by simp [Qs]
 |true::fx,x::a,y::b=>by simp only [Qs,List.map_cons,kS f fx a b]
 |false::fx,x::a,y::b=>by simp only [Qs,List.map_cons,kS f fx a b]
theorem pt (f:AC->AC) (fx:List Bool) (a b:St):(St.ru fx a b).Gv f=St.ru fx (a.Gv f) (b.Gv f):=by
 simp only [St.ru,St.Gv,kS]
theorem pq (p:Nat->Bool): ∀(i:Nat) (l0 l1:List AV),(∀t,(l0.getD t .undef).Sb=true->p (i+t)=true->l1.getD t .undef=l0.getD t .undef)->
  Qs (Ia p i l0) l0 (Po (Ia p i l0) l1)=l1
 |_,[],l1,_=>by simp [Ia,Po,Qs]
 |i,a::r,[],_=>by
  simp only [Ia]
  cases (a.Sb&&p i)<;>simp [Po,Qs]
 |i,a::r,b::s,h=>by
  have hr:=pq p (i+1) r s λt h1 h2=>by
   have:=h (t+1) (by simpa using h1) (by rw [show i+(t+1)=i+1+t by omega];exact h2)
   simpa using this
  simp only [Ia]
  cases hc:(a.Sb&&p i) with
  |false=>simp only [Po,Qs];rw [hr]
  |true=>
   simp only [Po,Qs]
   rw [hr]
   simp only [Bool.and_eq_true] at hc
   have:=h 0 (by simpa using hc.1) hc.2
   simp only [List.getD_cons_zero] at this
   rw [this]
theorem bj: ∀(f:List Bool) (l:List AV),(Po f l).length=l.length
 | [],l=>by simp [Po]
 |true::f,[]=>by simp [Po]
 |false::f,[]=>by simp [Po]
 |true::f,a::l=>by simp [Po,bj f l]
 |false::f,a::l=>by simp [Po,bj f l]
theorem cp: ∀(l:List AV) {R:Type} (v:mD l R),(Rc l v).1.length=l.length
 | [],_,_=>rfl
 |c::l,_,v=>by simp [Rc,cp l]
theorem tH (p:Nat->Bool): ∀(i:Nat) (l0 l:List AV) (t:Nat),l.length=l0.length->(l0.getD t .undef).Sb=true->p (i+t)=true->(Qs (Ia p i l0) l0 l).getD t .undef=l0.getD t .undef
 |_,[],_,t,_,h,_=>by simp [AV.Sb] at h
 |i,a::r,[],_,h,_,_=>by simp at h
 |i,a::r,b::s,0,_,h1,h2=>by
  have:(a.Sb&&p i)=true:=by
   simp only [Bool.and_eq_true]
   exact ⟨by simpa using h1,h2⟩
  simp only [Ia,this,Qs,List.getD_cons_zero]
 |i,a::r,b::s,t+1,hl,h1,h2=>by
  have hr:=tH p (i+1) r s t (by simpa using hl) (by simpa using h1) (by rw [show i+1+t=i+(t+1) by omega];exact h2)
  simp only [Ia]
  cases (a.Sb&&p i)<;>simpa only [Qs,List.getD_cons_succ] using hr
theorem fv {B:List (Nat×Nat×Nat)} {H:List (Nat×OB)} {c:AC} {K:Prop} (h:uj B H c K):bM B H c=c/\K:=by
 cases c with
 |own l off len=>obtain ⟨h1,h2,h3⟩:=h;exact ⟨by rw [h1,h2];rfl,h3⟩
 |_=>exact ⟨rfl,h⟩
theorem Wb {B:List (Nat×Nat×Nat)} {H:List (Nat×OB)} : ∀ {l:List AC} {K:Prop},Zk B H l K->l.map (bM B H)=l/\K
 | [],_,h=>⟨rfl,h⟩
 |c::l,_,h=>by
  obtain ⟨h1,h2⟩:=fv h
  obtain ⟨h3,h4⟩:=Wb h2
  exact ⟨by rw [List.map_cons,h1,h3],h4⟩
theorem qO {B:List (Nat×Nat×Nat)} {H:List (Nat×OB)} {c:AV} {K:Prop} (h:GG B H c K):c.map (bM B H)=c/\K:=by
 cases c with
 | «at»a=>obtain ⟨h1,h2⟩:=fv h;exact ⟨by rw [AV.map,h1],h2⟩
 |agg cs=>obtain ⟨h1,h2⟩:=Wb h;exact ⟨by rw [AV.map,h1],h2⟩
 |Vu _ _ _=>exact ⟨rfl,h⟩
 |Il l=>exact h.elim
theorem cq {B:List (Nat×Nat×Nat)} {H:List (Nat×OB)} : ∀ {l:List AV} {K:Prop},Vt B H l K->l.map (·.map (bM B H))=l/\K
 | [],_,h=>⟨rfl,h⟩
 |c::l,_,h=>by
  obtain ⟨h1,h2⟩:=qO h
  obtain ⟨h3,h4⟩:=cq h2
  exact ⟨by rw [List.map_cons,h1,h3],h4⟩
theorem Iw {B:List (Nat×Nat×Nat)} {H:List (Nat×OB)} : ∀ {l:List (Nat×OB)} {K:Prop},eF B H l K->l.map (λp=>(p.1,p.2.map (bM B H)))=l/\K
 | [],_,h=>⟨rfl,h⟩
 |(k, .var t vs)::l,_,h=>by
  obtain ⟨h1,h2⟩:=Wb h
  obtain ⟨h3,h4⟩:=Iw h2
  exact ⟨by rw [List.map_cons,h3];simp only [OB.map,h1],h4⟩
 |(k, .arr a b c d e)::l,_,h=>by
  obtain ⟨h3,h4⟩:=Iw (l:=l) h
  exact ⟨by rw [List.map_cons,h3];rfl,h4⟩
 |(k, .Dn a b c)::l,_,h=>by
  obtain ⟨h3,h4⟩:=Iw (l:=l) h
  exact ⟨by rw [List.map_cons,h3];rfl,h4⟩
 |(k, .Ak a b c d e)::l,_,h=>by
  obtain ⟨h3,h4⟩:=Iw (l:=l) h
  exact ⟨by rw [List.map_cons,h3];rfl,h4⟩
 |(k, .Qc a b)::l,_,h=>by
  obtain ⟨h3,h4⟩:=Iw (l:=l) h
  exact ⟨by rw [List.map_cons,h3];rfl,h4⟩
theorem ga {B:List (Nat×Nat×Nat)} {s:St} {K:Prop} (h:wv B s K):s.whole B=s/\K:=by
 obtain ⟨h1,h2⟩:=cq h
 obtain ⟨h3,h4⟩:=Iw h2
 exact ⟨by unfold St.whole St.Gv;rw [h1,h3],h4⟩
theorem cR (live:List Nat): ∀(i:Nat) (l:List AV) (t:Nat),i+t∉live->(Gk live i l).getD t .undef= .undef
 |_,[],_,_=>rfl
 |i,v::r,0,h=>by simp [Gk];intro hn;exact absurd hn h
 |i,v::r,t+1,h=>by
  simp only [Gk,List.getD_cons_succ]
  exact cR live (i+1) r t (by rw [show i+1+t=i+(t+1) by omega];exact h)
theorem bV: ∀(l:List Nat) (st:St) (t:Nat),st.get t= .undef->(Zx l st).get t= .undef
 | [],_,_,h=>h
 |a::r,st,t,h=>bV r _ t (by
  show (st.tmps.map (·.map (Ba a))).getD t .undef= .undef
  rw [Pj (Ba a) rfl,show st.tmps.getD t .undef= .undef from h]
  rfl)
theorem w5 (l k:Nat) (st:St) (t:Nat) (h:st.get t= .undef):(st.rename l k).get t= .undef:=by
 unfold St.rename
 split
 ·split
  ·show (st.tmps.map (·.map (Pq l k))).getD t .undef= .undef
   rw [Pj (Pq l k) rfl,show st.tmps.getD t .undef= .undef from h]
   rfl
  ·exact h
 ·exact h
theorem al: ∀(n i:Nat) (st:St) (t:Nat),st.get t= .undef->(Ii n i st).get t= .undef
 |0,_,_,_,h=>h
 |n+1,i,st,t,h=>by
  simp only [Ii]
  refine al n (i+1) _ t ?_
  split
  ·split
   ·split
    ·exact h
    ·exact w5 _ _ _ t h
   ·exact h
  ·exact h
theorem vW (st:St) (d:Nat) (v:AV) (t:Nat) (Ff:t≠d) (h:st.get t= .undef):(st.put (some d) v).get t= .undef:=by rw [Wl _ _ Ff];exact h
theorem pE (k:Nat) (st:St) (t:Nat) (h:st.get t= .undef):(Wy k st).get t= .undef:=by
 unfold Wy
 split
 ·rename_i l off len hg
  split
  ·split
   ·refine vW _ _ _ _ (λe=>by subst e;rw [hg] at h;cases h) ?_
    show (st.tmps.map (·.map (Ba l))).getD t .undef= .undef
    rw [Pj (Ba l) rfl,show st.tmps.getD t .undef= .undef from h]
    rfl
   ·exact h
  ·exact h
 ·exact h
theorem ia (c:Nat) (st:St) (t:Nat) (h:st.get t= .undef):(Ku c st).get t= .undef:=by
 unfold Ku
 split
 ·split
  ·rename_i l off len hc
   split
   ·split
    ·split
     ·show (st.tmps.map (·.map (Ba l))).getD t .undef= .undef
      rw [Pj (Ba l) rfl,show st.tmps.getD t .undef= .undef from h]
      rfl
     ·exact h
    ·exact h
   ·exact h
  ·exact h
 ·exact h
theorem Yf (live:List Nat): ∀(n i:Nat) (st:St) (t:Nat),st.get t= .undef->(Kl live n i st).get t= .undef
 |0,_,_,_,h=>h
 |n+1,i,st,t,h=>by
  simp only [Kl]
  refine Yf live n (i+1) _ t ?_
  split
  ·exact ia _ _ _ h
  ·exact h
theorem ca (live:List Nat): ∀(n i:Nat) (st:St) (t:Nat),st.get t= .undef->(Jy live n i st).get t= .undef
 |0,_,st,t,h=>Yf live 16 0 st t h
 |n+1,i,st,t,h=>by
  simp only [Jy]
  refine ca live n (i+1) _ t ?_
  split
  ·exact pE _ _ _ h
  ·exact h
theorem BE {live:List Nat} {st:St} {t:Nat} (h:((st.clean live).get t).Sb=true):t∈live:=by
 refine Classical.byContradiction λhn=>?_
 have:(st.clean live).get t= .undef:=by
  have key: ∀s:St,s.get t= .undef->(if live.contains Yg then Ii s.tmps.length 0 s else s).get t= .undef:=by
   intro s hs
   split
   ·exact al _ _ s t hs
   ·exact hs
  unfold St.clean
  have PZ: ∀s:St,s.get t= .undef->(if live.any (λt=>Nat.ble Tw t) then s.Ex live else s).get t= .undef:=by
   intro s hs
   split<;>exact hs
  have QA: ∀s:St,s.get t= .undef->(if live.any (λt=>Nat.ble Mj t&&Nat.blt t Yg) then Jy live s.tmps.length 0 s else s).get t= .undef:=by
   intro s hs
   split
   ·exact ca _ _ _ s t hs
   ·exact hs
  refine PZ _ (key _ (QA _ (bV _ _ t ?_)))
  exact cR live 0 st.tmps t (by simpa using hn)
 rw [this] at h
 cases h
theorem oT {c:AV} (h:c.Sb=true): ∃fr τ,∃x:τ.den,c= .at (.data fr τ x):=by
 unfold AV.Sb at h
 split at h
 ·exact ⟨_,_,_,rfl⟩
 ·cases h
theorem LS {live:Nat->List Nat} {c:Code} {t:Nat} (h:stays live c t=true):t∉writes c/\Wq live c t=true:=by
 unfold stays at h
 simpa using h
section
variable {T:Tab} {Γ:Env} {live:Nat->List Nat}
theorem Jk.keeps {c:Code} {st:St} {Q:Hf->St->Prop} (h:Jk T Γ live c st Q):Jk T Γ live c st (λe s=>Q e s/\Fl (λt=>t∉writes c/\Wq live c t=true) st s):=by
 exact EG h st _ Ay.rfl'.on λt ht=>ht
def wsQ (Q:Hf->WS->Prop) (e:Hf) (s:St):Prop:= ∃w':WS,w'.st=s/\w'.OK/\Q e w'
theorem yH {c:Code} (ih: ∀(w:WS) (Q:Hf->WS->Prop),w.OK->Zp T Γ live c w Q->Jk T Γ live c w.st (wsQ Q)) {w:WS} {Q:Hf->WS->Prop} (h:Zp T Γ live (.loop c) w Q):
  Jk T Γ live (.loop c) w.st (wsQ Q):=by
 simp only [Zp,IT,gM] at h
 obtain ⟨hw0,I,μ,h0,hs⟩:=ga h
 have Ad: ∀(t:Nat),((w.st.clean (live (Cm c))).get t).Sb=true->stays live c t=true-> ∀v,((St.ru (Ia (stays live c) 0 (w.st.clean (live (Cm c))).tmps) (w.st.clean (live (Cm c))) (e8 ((w.st.clean (live (Cm c))).mask (Ia (stays live c) 0 (w.st.clean (live (Cm c))).tmps)) v)).whole (Tx T.parts (w.st.clean (live (Cm c))).tmps)).get t=(w.st.clean (live (Cm c))).get t:=by
  intro t h1 h2 v
  have h3:=tH (stays live c) 0 (w.st.clean (live (Cm c))).tmps (e8 ((w.st.clean (live (Cm c))).mask (Ia (stays live c) 0 (w.st.clean (live (Cm c))).tmps)) v).tmps t
   ((cp _ _).trans (bj _ _)) h1 (by simpa using h2)
  obtain ⟨fr,τ,x,hx⟩:=oT h1
  refine (Kg _ _ rfl λ_ _ _=>rfl) t fr τ x ?_|>.trans hx.symm
  exact h3.trans hx
 have YC: ∀(s1:St),(∀t,((w.st.clean (live (Cm c))).get t).Sb=true->stays live c t=true->s1.get t=(w.st.clean (live (Cm c))).get t)->s1.whole (Tx T.parts (w.st.clean (live (Cm c))).tmps)=s1-> ∀v,eb ((w.st.clean (live (Cm c))).mask (Ia (stays live c) 0 (w.st.clean (live (Cm c))).tmps)) (s1.mask (Ia (stays live c) 0 (w.st.clean (live (Cm c))).tmps))=some v->
   s1=(St.ru (Ia (stays live c) 0 (w.st.clean (live (Cm c))).tmps) (w.st.clean (live (Cm c))) (e8 ((w.st.clean (live (Cm c))).mask (Ia (stays live c) 0 (w.st.clean (live (Cm c))).tmps)) v)).whole (Tx T.parts (w.st.clean (live (Cm c))).tmps):=by
  intro s1 hf hwh v hv
  have h1:=ec hv
  have h2:St.ru (Ia (stays live c) 0 (w.st.clean (live (Cm c))).tmps) (w.st.clean (live (Cm c))) (s1.mask (Ia (stays live c) 0 (w.st.clean (live (Cm c))).tmps))=s1:=by
   simp only [St.ru,St.mask]
   rw [pq (stays live c) 0 (w.st.clean (live (Cm c))).tmps s1.tmps λt h3 h4=>hf t h3 (by simpa using h4)]
  have h3:(St.ru (Ia (stays live c) 0 (w.st.clean (live (Cm c))).tmps) (w.st.clean (live (Cm c))) (e8 ((w.st.clean (live (Cm c))).mask (Ia (stays live c) 0 (w.st.clean (live (Cm c))).tmps)) v)).whole (Tx T.parts (w.st.clean (live (Cm c))).tmps)=s1.whole (Tx T.parts (w.st.clean (live (Cm c))).tmps):=by
   refine AA ?_
   rw [pt,h1,<-pt,h2]
  rw [h3,hwh]
 refine KX (λv=>(St.ru (Ia (stays live c) 0 (w.st.clean (live (Cm c))).tmps) (w.st.clean (live (Cm c))) (e8 ((w.st.clean (live (Cm c))).mask (Ia (stays live c) 0 (w.st.clean (live (Cm c))).tmps)) v)).whole (Tx T.parts (w.st.clean (live (Cm c))).tmps)) I μ _ h0 (YC _ (λ_ _ _=>rfl) hw0 _ (mw _ (gZ _ _ (On h)))) ?_
 intro a ha
 refine (Jk.keeps (ih ⟨[],_⟩ _ (λt b h=>by cases h) (hs a ha))).mono ?_
 intro e s hQ
 obtain ⟨⟨w',h1,h2,h3⟩,hk⟩:=hQ
 subst h1
 cases e with
 |normal=>
  obtain ⟨h4,h5⟩:=ga h3
  obtain ⟨v',h6,h7,h8⟩:=At.1 h5
  refine ⟨v',YC _ (λt hd ht=>?_) h4 _ h6,h7,h8⟩
  obtain ⟨fr,τ,x,hx⟩:=oT hd
  rw [hx]
  exact fO (live (Cm c)) w'.st t fr τ x (BE hd) (hk t fr τ x (LS ht) (by rw [Ad t hd ht a];exact hx))
 |exit id=>exact ⟨w',rfl,h2,h3⟩
 |ret=>exact ⟨w',rfl,h2,h3⟩
theorem lM: ∀(c:Code) (w:WS) (Q:Hf->WS->Prop),w.OK->Zp T Γ live c w Q->Jk T Γ live c w.st (wsQ Q):=by
 intro c
 induction c with
 |skip=>intro w Q hw h;exact .skip ⟨w,rfl,hw,h⟩
 |label _=>intro w Q hw h;exact .label ⟨w,rfl,hw,h⟩
 |exit _=>intro w Q hw h;exact .exit ⟨w,rfl,hw,h⟩
 |ret=>intro w Q hw h;exact .ret ⟨w,rfl,hw,h⟩
 |region id ops draw=>
  intro w Q hw h
  have hw':WS.OK {w with st:=w.st.iJ ops} := λt b ht=>by
   obtain ⟨fr,e⟩:=hw t b ht
   exact ⟨fr,fP ops w.st t fr .bool b e⟩
  exact .region ((rM hw' h).mono λs ⟨w',h1,h2,h3⟩=>⟨w',h1,h2,aX.1 h3⟩)
 |seq x y ihx ihy=>
  intro w Q hw h
  refine RS ((ihx w _ hw h).mono λe s hQ=>?_)
  obtain ⟨w',h1,h2,h3⟩:=hQ
  subst h1
  cases e with
  |normal=>exact ihy w' Q h2 h3
  |exit id=>exact ⟨w',rfl,h2,h3⟩
  |ret=>exact ⟨w',rfl,h2,h3⟩
 |cond c x y ihx ihy=>
  intro w Q hw h
  obtain ⟨fr,b,w',h1,h2,h3,h4⟩:=sH hw h
  refine KW h1 (λhb=>?_) (λhb=>?_)
  ·subst hb;rw [<-h2];exact ihx w' Q h3 h4
  ·subst hb;rw [<-h2];exact ihy w' Q h3 h4
 |block id c ih=>
  intro w Q hw h
  refine EF ((ih w _ hw h).mono λe s hQ=>?_)
  obtain ⟨w',h1,h2,h3⟩:=hQ
  subst h1
  cases e with
  |normal=>exact ⟨w',rfl,h2,h3⟩
  |ret=>exact ⟨w',rfl,h2,h3⟩
  |exit JH=>
   simp only at h3
   simp only [tf]
   split at h3
   ·rename_i hi;rw [if_pos hi];exact ⟨w',rfl,h2,h3⟩
   ·rename_i hi;rw [if_neg hi];exact ⟨w',rfl,h2,h3⟩
 |loop c ih=>intro w Q hw h;exact yH ih h
 |_=>intro w Q hw h;exact absurd h (by simp [Zp])
theorem o7 {s:Spec} {fn:Func} {P:s.res.den->Prop} {st:St} (h:ZM T s fn P st): ∃fr y,iS T s fn st=some (fr,y)/\(fr||!s.fresh)=true/\P y:=by
 obtain ⟨p,h1,h2⟩:=At.1 h
 split at h2
 ·rename_i hf;exact ⟨p.1,p.2,h1,hf,h2⟩
 ·cases h2
theorem IS {s:Spec} {fn:Func} {x:s.arg.den} {P:s.res.den->Prop} (h:fnW T Γ s fn x P):NH T Γ s fn x P:=by
 unfold fnW at h
 obtain ⟨c,h1,h2⟩:=At.1 h
 refine ⟨c,h1,(lM c _ _ (λt b h=>by cases h) h2).mono λe st ⟨w,h4,h5,h6⟩=>?_⟩
 subst h4
 cases e with
 |normal=>exact ⟨λid hh=>(by cases hh),o7 h6⟩
 |ret=>exact ⟨λid hh=>(by cases hh),o7 h6⟩
 |exit id=>cases h6
theorem Yc {st:St} {K:Prop} : ∀(vs:List AC) (cs:List (Bool×CK)),dw st K vs cs->dv st vs cs/\K
 | [],cs,h=>⟨by simp [dv],by simpa [dw] using h⟩
 |a::vs,[],h=>⟨by cases a<;>simp [dv],by cases a<;>simpa [dw] using h⟩
 |a::vs,(false,c)::r,h=>by
  have h:dw st K vs r:=by cases a<;>simpa only [dw] using h
  obtain ⟨h1,h2⟩:=Yc vs r h
  exact ⟨by cases a<;>simpa only [dv] using h1,h2⟩
 |a::vs,(true,c)::r,h=>by
  cases a with
  |own l off len=>
   simp only [dw] at h
   split at h
   ·rename_i hl
    obtain ⟨h1,h2⟩:=Yc vs r h.2
    refine ⟨?_,h2⟩
    simp only [dv,hl]
    exact ⟨h.1,h1⟩
   ·rename_i hl
    obtain ⟨h1,h2⟩:=Yc vs r h.2
    refine ⟨?_,h2⟩
    simp only [dv,hl]
    exact ⟨h.1,h1⟩
   ·exact h.elim
  |_=>exact ⟨by simp [dv],by simpa [dw] using h⟩
theorem bn {st:St} : ∀(cs:List CK) (as:List AC) (K:CKs.den cs->List Nat->Prop),kR st cs as K-> ∃x ls,Pp st cs as=some (x,ls)/\K x ls
 | [],[],K,h=>⟨(),[],rfl,h⟩
 | [],_::_,_,h=>h.elim
 |c::r,[],K,h=>by cases c<;>exact h.elim
 |c::r,a::as,K,h=>by
  have qM:Ei (fm st c a) (λp=>kR st r as λy t=>K (p.1,y) (p.2++t))-> ∃x ls,Pp st (c::r) (a::as)=some (x,ls)/\K x ls:= λh=>by
   obtain ⟨p,h1,h2⟩:=At.1 h
   obtain ⟨y,t,h3,h4⟩:=bn r as _ h2
   exact ⟨_,_,by simp only [Pp,h1,h3],h4⟩
  cases c with
  |Ak e te kp=>
   cases a with
   |own l off len=>
    simp only [kR] at h
    split at h
    ·rename_i hl
     split at h
     ·rename_i hc
      obtain ⟨⟨h1,h2⟩,h⟩:=h
      obtain ⟨y,t,h3,h4⟩:=bn r as _ h
      exact ⟨_,_,by simp only [Pp,fm,hl];rw [dif_pos ⟨hc.1,hc.2,h1,h2⟩];simp only [h3];rfl,h4⟩
     ·exact h.elim
    ·exact h.elim
   |_=>exact qM h
  |_=>exact qM h
theorem jf {st:St} {n:Nat} {as:List AC} {K:Prop} : ∀(ks:List (Nat×Nat)),vq st n as ks K->tp st n as ks/\K
 | [],h=>⟨trivial,h⟩
 |(k,j)::r,h=>by
  simp only [vq] at h
  split at h
  ·rename_i l off len ha
   split at h
   ·rename_i p hl
    split at h
    ·rename_i hc
     simp only [Bool.and_eq_true] at hc
     obtain ⟨h1,h2⟩:=jf r h.2
     refine ⟨?_,h2⟩
     simp only [tp,ha,hl]
     exact ⟨⟨Nat.eq_of_beq_eq_true hc.1,h.1,hc.2⟩,h1⟩
    ·exact h.elim
   ·exact h.elim
  ·exact h.elim
theorem dR {s:MSpec} {fn:Func} {x:Ins.den s.ins} {st:St} {cs:List AC} {P:CKs.den s.outs×IOs.den s.ins->Prop} (h:pI T s fn x st cs P):eS T s fn x st cs P:=by
 obtain ⟨l,h1,h⟩:=At.1 h
 obtain ⟨⟨as,ml⟩,h2,h⟩:=At.1 h
 obtain ⟨r,ls,h3,h⟩:=bn _ _ _ h
 obtain ⟨o,h4,h⟩:=At.1 h
 split at h
 ·rename_i hc
  obtain ⟨h5,h6⟩:=jf _ h
  unfold eS
  simp only [h1,h2,h3,h4]
  exact ⟨hc,h5,h6⟩
 ·exact h.elim
theorem mj {s:MSpec} {fn:Func} {x:Ins.den s.ins} {st:St} {P:CKs.den s.outs×IOs.den s.ins->Prop} (h:HP T s fn x st P):NG T s fn x st P:=by
 unfold HP at h
 unfold NG
 cases hp:s.ptr with
 |none=>rw [hp] at h;exact dR h
 |some p=>
  rw [hp] at h
  simp only at h⊢
  split at h
  ·rename_i tid vs hl
   split at h
   ·rename_i hc
    simp only [Bool.and_eq_true] at hc
    obtain ⟨h1,h2⟩:=hc
    have h1:tid=p.1:=Nat.eq_of_beq_eq_true h1
    have h2:=Nat.eq_of_beq_eq_true h2
    subst h1
    obtain ⟨cs,h3,h4⟩:=At.1 h
    obtain ⟨h5,h6⟩:=Yc vs s.ins h4
    exact ⟨vs,cs,hl,h2,h3,h5,dR h6⟩
   ·exact h.elim
  ·exact h.elim
theorem BO {s:MSpec} {fn:Func} {x:Ins.den s.ins} {P:CKs.den s.outs×IOs.den s.ins->Prop} (h:fnMW T Γ s fn x P):XB T Γ s fn x P:=by
 unfold fnMW at h
 split at h
 ·cases h
 rename_i hlen
 obtain ⟨c,h1,h2⟩:=At.1 h
 refine ⟨hlen,c,h1,(lM c _ _ (λt b h=>by cases h) h2).mono λe st ⟨w,h4,h5,h6⟩=>?_⟩
 subst h4
 cases e with
 |normal=>exact ⟨λid hh=>(by cases hh),mj h6⟩
 |ret=>exact ⟨λid hh=>(by cases hh),mj h6⟩
 |exit id=>cases h6
theorem Bj.ofW {P:Program} (hT:Ce P T) (Ni:Iu P Γ) (hm:P.follows .mixedOrders=true) {f:FuncId} {fn:Func} (hf:P.funcs[f]?=some fn) (hn:(fn.name== "runtime.NumGoroutine")=false)
  (hb:fn.body.isNone=false) (s:MSpec) (h: ∀x y,s.fn x=some y->fnMW T Γ s fn x (λz=>z=y)):Bj P f s:=
 ⟨cP hf hn hb,λw S π us x r o g vs h1 hg h2 h3 hS h4 h5=>qT hT Ni hm hf s w S π us x r o g vs h1 hg h2 h3 hS h4 (BO (h x (r,o) h5))⟩
theorem Sound.ofW {P:Program} (hT:Ce P T) (Ni:Iu P Γ) (hm:P.follows .mixedOrders=true) {f:FuncId} {fn:Func} (hf:P.funcs[f]?=some fn) (hn:(fn.name== "runtime.NumGoroutine")=false)
  (hb:fn.body.isNone=false) (s:Spec) (h: ∀x y,s.fn x=some y->fnW T Γ s fn x (λz=>z=y)):Sound P f s:=
 RU hT Ni hm hf hn hb s λx y hx=>IS (h x y hx)
end
end Go.Proofs.YtfolipnappekaaaGreat
