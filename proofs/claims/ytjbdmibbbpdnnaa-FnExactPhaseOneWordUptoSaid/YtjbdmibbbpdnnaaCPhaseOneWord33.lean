/-
  Part 34 of the proof that the statement FnExactPhaseOneWord holds.
-/
import Derived.Test.YtjbdmibbbpdnnaaCPhaseOneWord32
namespace Go.Proofs.Ytjbdmibbbpdnnaa
open Go.RowKit
theorem Nd {B:List (Nat×Nat×Nat)} {H:List (Nat×OB)} : ∀ {l:List AV} {K:Prop},Ui B H l K-> ∀c∈l,c.eC=true
 | [],_,_,c,hc=>by cases hc
 |d::l,K,h,c,hc=>by
  simp only [Ui] at h
  cases d with
  |Iw l'=>exact h.elim
  | «at»a=>
   rcases List.mem_cons.1 hc with rfl|hc
   ·rfl
   ·have h':Ui B H l K:=by
     cases a with
     |own k o n=>exact h.2.2
     |_=>exact h
    exact Nd h' c hc
  |Uj _ _ _=>
   rcases List.mem_cons.1 hc with rfl|hc
   ·rfl
   ·exact Nd h c hc
  |agg cs=>
   rcases List.mem_cons.1 hc with rfl|hc
   ·rfl
   ·have: ∀(cs:List AC) (Q:Prop),Xn B H cs Q->Q:=by
     intro cs
     induction cs with
     |nil=>exact λQ h=>h
     |cons a cs ih=>
      intro Q h
      have h2:Xn B H cs Q:=by
       cases a with
       |own k o n=>exact h.2.2
       |_=>exact h
      exact ih Q h2
    exact Nd (this cs _ h) c hc
theorem fL: ∀(f:List Bool) (l:List AV),(∀c∈l,c.eC=true)-> ∀c∈Nz f l,c.eC=true
 | [],l,h=>by simpa [Nz] using h
 |true::f,[],h=>by simp [Nz] at h⊢
 |false::f,[],h=>by simp [Nz] at h⊢
 |true::f,a::l,h=>by
  intro c hc
  simp only [Nz,List.mem_cons] at hc
  rcases hc with rfl|hc
  ·rfl
  ·exact fL f l (λc hc=>h c (List.mem_cons_of_mem _ hc)) c hc
 |false::f,a::l,h=>by
  intro c hc
  simp only [Nz,List.mem_cons] at hc
  rcases hc with rfl|hc
  ·exact h c (by simp)
  ·exact fL f l (λc hc=>h c (List.mem_cons_of_mem _ hc)) c hc
theorem DG (f:AC->AC) (H:List (Nat×OB)) (l:Nat):lenOf (H.map λp=>(p.1,p.2.map f)) l=lenOf H l:=by
 unfold lenOf
 rw [Jg]
 cases Ae H l with
 |none=>rfl
 |some b=>cases b<;>rfl
theorem xM (f g:AC->AC) (c:AV):(c.map f).map g=c.map λa=>g (f a):=by
 cases c<;>simp [AV.map]
theorem yR (f g:AC->AC) (c:OB):(c.map f).map g=c.map λa=>g (f a):=by
 cases c<;>simp [OB.map]
theorem wa (s:St) (f g:AC->AC):(s.Gh f).Gh g=s.Gh λa=>g (f a):=by
 simp [St.Gh,List.map_map,Function.comp_def,xM,yR]
theorem vU (f:AC->AC) (H:List (Nat×OB)) (l:Nat): ∀(B:List (Nat×Nat×Nat)),DE B (H.map λp=>(p.1,p.2.map f)) l=DE B H l
 | []=>DG f H l
 |(k,o,n)::r=>by simp only [DE];rw [vU f H l r]
theorem xx (B:List (Nat×Nat×Nat)) (s:St):(s.Gh Mg).whole B=s.whole B:=by
 unfold St.whole
 rw [wa]
 congr 1
 funext a
 cases a with
 |own l off len=>simp only [Mg,aJ,St.Gh,vU]
 |_=>rfl
theorem xu {B:List (Nat×Nat×Nat)} {s t:St} (h:s.Gh Mg=t.Gh Mg):s.whole B=t.whole B:=by rw [<-xx B s,h,xx]
theorem jw (f:AC->AC): ∀(fx:List Bool) (a b:List AV),(Pe fx a b).map (·.map f)=Pe fx (a.map (·.map f)) (b.map (·.map f))
 | [],_,_=>by simp [Pe]
 |_::_,[],_=>by simp [Pe]
 |true::_,_::_,[]=>by simp [Pe]
 |false::_,_::_,[]=>by simp [Pe]
 |true::fx,x::a,y::b=>by simp only [Pe,List.map_cons,jw f fx a b]
 |false::fx,x::a,y::b=>by simp only [Pe,List.map_cons,jw f fx a b]
theorem nu (f:AC->AC) (fx:List Bool) (a b:St):(St.pb fx a b).Gh f=St.pb fx (a.Gh f) (b.Gh f):=by
 simp only [St.pb,St.Gh,jw]
theorem nt (p:Nat->Bool): ∀(i:Nat) (l0 l1:List AV),(∀t,(l0.getD t .undef).Qq=true->p (i+t)=true->l1.getD t .undef=l0.getD t .undef)->
  Pe (Hl p i l0) l0 (Nz (Hl p i l0) l1)=l1
 |_,[],l1,_=>by simp [Hl,Nz,Pe]
 |i,a::r,[],_=>by
  simp only [Hl]
  cases (a.Qq&&p i)<;>simp [Nz,Pe]
 |i,a::r,b::s,h=>by
  have hr:=nt p (i+1) r s λt h1 h2=>by
   have:=h (t+1) (by simpa using h1) (by rw [show i+(t+1)=i+1+t by omega];exact h2)
   simpa using this
  simp only [Hl]
  cases hc:(a.Qq&&p i) with
  |false=>simp only [Nz,Pe];rw [hr]
  |true=>
   simp only [Nz,Pe]
   rw [hr]
   simp only [Bool.and_eq_true] at hc
   have:=h 0 (by simpa using hc.1) hc.2
   simp only [List.getD_cons_zero] at this
   rw [this]
theorem a8: ∀(f:List Bool) (l:List AV),(Nz f l).length=l.length
 | [],l=>by simp [Nz]
 |true::f,[]=>by simp [Nz]
 |false::f,[]=>by simp [Nz]
 |true::f,a::l=>by simp [Nz,a8 f l]
 |false::f,a::l=>by simp [Nz,a8 f l]
theorem bh: ∀(l:List AV) {R:Type} (v:kX l R),(Pq l v).1.length=l.length
 | [],_,_=>rfl
 |c::l,_,v=>by simp [Pq,bh l]
theorem qJ (p:Nat->Bool): ∀(i:Nat) (l0 l:List AV) (t:Nat),l.length=l0.length->(l0.getD t .undef).Qq=true->p (i+t)=true->(Pe (Hl p i l0) l0 l).getD t .undef=l0.getD t .undef
 |_,[],_,t,_,h,_=>by simp [AV.Qq] at h
 |i,a::r,[],_,h,_,_=>by simp at h
 |i,a::r,b::s,0,_,h1,h2=>by
  have:(a.Qq&&p i)=true:=by
   simp only [Bool.and_eq_true]
   exact ⟨by simpa using h1,h2⟩
  simp only [Hl,this,Pe,List.getD_cons_zero]
 |i,a::r,b::s,t+1,hl,h1,h2=>by
  have hr:=qJ p (i+1) r s t (by simpa using hl) (by simpa using h1) (by rw [show i+1+t=i+(t+1) by omega];exact h2)
  simp only [Hl]
  cases (a.Qq&&p i)<;>simpa only [Pe,List.getD_cons_succ] using hr
theorem dU {B:List (Nat×Nat×Nat)} {H:List (Nat×OB)} {c:AC} {K:Prop} (h:ry B H c K):aJ B H c=c/\K:=by
 cases c with
 |own l off len=>obtain ⟨h1,h2,h3⟩:=h;exact ⟨by rw [h1,h2];rfl,h3⟩
 |_=>exact ⟨rfl,h⟩
theorem Un {B:List (Nat×Nat×Nat)} {H:List (Nat×OB)} : ∀ {l:List AC} {K:Prop},Xn B H l K->l.map (aJ B H)=l/\K
 | [],_,h=>⟨rfl,h⟩
 |c::l,_,h=>by
  obtain ⟨h1,h2⟩:=dU h
  obtain ⟨h3,h4⟩:=Un h2
  exact ⟨by rw [List.map_cons,h1,h3],h4⟩
theorem oF {B:List (Nat×Nat×Nat)} {H:List (Nat×OB)} {c:AV} {K:Prop} (h:AA B H c K):c.map (aJ B H)=c/\K:=by
 cases c with
 | «at»a=>obtain ⟨h1,h2⟩:=dU h;exact ⟨by rw [AV.map,h1],h2⟩
 |agg cs=>obtain ⟨h1,h2⟩:=Un h;exact ⟨by rw [AV.map,h1],h2⟩
 |Uj _ _ _=>exact ⟨rfl,h⟩
 |Iw l=>exact h.elim
theorem bj {B:List (Nat×Nat×Nat)} {H:List (Nat×OB)} : ∀ {l:List AV} {K:Prop},Ui B H l K->l.map (·.map (aJ B H))=l/\K
 | [],_,h=>⟨rfl,h⟩
 |c::l,_,h=>by
  obtain ⟨h1,h2⟩:=oF h
  obtain ⟨h3,h4⟩:=bj h2
  exact ⟨by rw [List.map_cons,h1,h3],h4⟩
theorem Ia {B:List (Nat×Nat×Nat)} {H:List (Nat×OB)} : ∀ {l:List (Nat×OB)} {K:Prop},dx B H l K->l.map (λp=>(p.1,p.2.map (aJ B H)))=l/\K
 | [],_,h=>⟨rfl,h⟩
 |(k, .var t vs)::l,_,h=>by
  obtain ⟨h1,h2⟩:=Un h
  obtain ⟨h3,h4⟩:=Ia h2
  exact ⟨by rw [List.map_cons,h3];simp only [OB.map,h1],h4⟩
 |(k, .arr a b c d e)::l,_,h=>by
  obtain ⟨h3,h4⟩:=Ia (l:=l) h
  exact ⟨by rw [List.map_cons,h3];rfl,h4⟩
 |(k, .Dg a b c)::l,_,h=>by
  obtain ⟨h3,h4⟩:=Ia (l:=l) h
  exact ⟨by rw [List.map_cons,h3];rfl,h4⟩
 |(k, .Ak a b c d e)::l,_,h=>by
  obtain ⟨h3,h4⟩:=Ia (l:=l) h
  exact ⟨by rw [List.map_cons,h3];rfl,h4⟩
 |(k, .Oh a b)::l,_,h=>by
  obtain ⟨h3,h4⟩:=Ia (l:=l) h
  exact ⟨by rw [List.map_cons,h3];rfl,h4⟩
theorem eH {B:List (Nat×Nat×Nat)} {s:St} {K:Prop} (h:tC B s K):s.whole B=s/\K:=by
 obtain ⟨h1,h2⟩:=bj h
 obtain ⟨h3,h4⟩:=Ia h2
 exact ⟨by unfold St.whole St.Gh;rw [h1,h3],h4⟩
theorem bG (live:List Nat): ∀(i:Nat) (l:List AV) (t:Nat),i+t∉live->(Fy live i l).getD t .undef= .undef
 |_,[],_,_=>rfl
 |i,v::r,0,h=>by simp [Fy];intro hn;exact absurd hn h
 |i,v::r,t+1,h=>by
  simp only [Fy,List.getD_cons_succ]
  exact bG live (i+1) r t (by rw [show i+1+t=i+(t+1) by omega];exact h)
theorem aQ: ∀(l:List Nat) (st:St) (t:Nat),st.get t= .undef->(Xz l st).get t= .undef
 | [],_,_,h=>h
 |a::r,st,t,h=>aQ r _ t (by
  show (st.tmps.map (·.map (Ba a))).getD t .undef= .undef
  rw [Ry (Ba a) rfl,show st.tmps.getD t .undef= .undef from h]
  rfl)
theorem ta (l k:Nat) (st:St) (t:Nat) (h:st.get t= .undef):(st.rename l k).get t= .undef:=by
 unfold St.rename
 split
 ·split
  ·show (st.tmps.map (·.map (Ob l k))).getD t .undef= .undef
   rw [Ry (Ob l k) rfl,show st.tmps.getD t .undef= .undef from h]
   rfl
  ·exact h
 ·exact h
theorem Yq: ∀(n i:Nat) (st:St) (t:Nat),st.get t= .undef->(Hr n i st).get t= .undef
 |0,_,_,_,h=>h
 |n+1,i,st,t,h=>by
  simp only [Hr]
  refine Yq n (i+1) _ t ?_
  split
  ·split
   ·split
    ·exact h
    ·exact ta _ _ _ t h
   ·exact h
  ·exact h
theorem sW (st:St) (d:Nat) (v:AV) (t:Nat) (El:t≠d) (h:st.get t= .undef):(st.put (some d) v).get t= .undef:=by rw [Uv _ _ El];exact h
theorem nC (k:Nat) (st:St) (t:Nat) (h:st.get t= .undef):(Vg k st).get t= .undef:=by
 unfold Vg
 split
 ·rename_i l off len hg
  split
  ·split
   ·refine sW _ _ _ _ (λe=>by subst e;rw [hg] at h;cases h) ?_
    show (st.tmps.map (·.map (Ba l))).getD t .undef= .undef
    rw [Ry (Ba l) rfl,show st.tmps.getD t .undef= .undef from h]
    rfl
   ·exact h
  ·exact h
 ·exact h
theorem aY (live:List Nat): ∀(n i:Nat) (st:St) (t:Nat),st.get t= .undef->(Jk live n i st).get t= .undef
 |0,_,_,_,h=>h
 |n+1,i,st,t,h=>by
  simp only [Jk]
  refine aY live n (i+1) _ t ?_
  split
  ·exact nC _ _ _ h
  ·exact h
theorem xY {live:List Nat} {st:St} {t:Nat} (h:((st.clean live).get t).Qq=true):t∈live:=by
 refine Classical.byContradiction λhn=>?_
 have:(st.clean live).get t= .undef:=by
  have key: ∀s:St,s.get t= .undef->(if live.contains Wi then Hr s.tmps.length 0 s else s).get t= .undef:=by
   intro s hs
   split
   ·exact Yq _ _ s t hs
   ·exact hs
  unfold St.clean
  have JG: ∀s:St,s.get t= .undef->(if live.any (λt=>Nat.ble Sp t) then s.Ev live else s).get t= .undef:=by
   intro s hs
   split<;>exact hs
  have JH: ∀s:St,s.get t= .undef->(if live.any (λt=>Nat.ble Hq t&&Nat.blt t Wi) then Jk live s.tmps.length 0 s else s).get t= .undef:=by
   intro s hs
   split
   ·exact aY _ _ _ s t hs
   ·exact hs
  refine JG _ (key _ (JH _ (aQ _ _ t ?_)))
  exact bG live 0 st.tmps t (by simpa using hn)
 rw [this] at h
 cases h
theorem mS {c:AV} (h:c.Qq=true): ∃fr τ,∃x:τ.den,c= .at (.data fr τ x):=by
 unfold AV.Qq at h
 split at h
 ·exact ⟨_,_,_,rfl⟩
 ·cases h
theorem FJ {live:Nat->List Nat} {c:Code} {t:Nat} (h:stays live c t=true):t∉writes c/\Uz live c t=true:=by
 unfold stays at h
 simpa using h
section
variable {T:Tab} {Γ:Env} {live:Nat->List Nat}
theorem Iz.keeps {c:Code} {st:St} {Q:Gv->St->Prop} (h:Iz T Γ live c st Q):Iz T Γ live c st (λe s=>Q e s/\Fc (λt=>t∉writes c/\Uz live c t=true) st s):=by
 exact zl h st _ Bc.rfl'.on λt ht=>ht
def wsQ (Q:Gv->WS->Prop) (e:Gv) (s:St):Prop:= ∃w':WS,w'.st=s/\w'.OK/\Q e w'
theorem w7 {c:Code} (ih: ∀(w:WS) (Q:Gv->WS->Prop),w.OK->Xr T Γ live c w Q->Iz T Γ live c w.st (wsQ Q)) {w:WS} {Q:Gv->WS->Prop} (h:Xr T Γ live (.loop c) w Q):
  Iz T Γ live (.loop c) w.st (wsQ Q):=by
 simp only [Xr,CO,fp] at h
 obtain ⟨US,I,μ,h0,hs⟩:=eH h
 have Ae: ∀(t:Nat),((w.st.clean (live (Ce c))).get t).Qq=true->stays live c t=true-> ∀v,((St.pb (Hl (stays live c) 0 (w.st.clean (live (Ce c))).tmps) (w.st.clean (live (Ce c))) (cW ((w.st.clean (live (Ce c))).mask (Hl (stays live c) 0 (w.st.clean (live (Ce c))).tmps)) v)).whole (Sr T.parts (w.st.clean (live (Ce c))).tmps)).get t=(w.st.clean (live (Ce c))).get t:=by
  intro t h1 h2 v
  have h3:=qJ (stays live c) 0 (w.st.clean (live (Ce c))).tmps (cW ((w.st.clean (live (Ce c))).mask (Hl (stays live c) 0 (w.st.clean (live (Ce c))).tmps)) v).tmps t
   ((bh _ _).trans (a8 _ _)) h1 (by simpa using h2)
  obtain ⟨fr,τ,x,hx⟩:=mS h1
  refine (Jq _ _ rfl λ_ _ _=>rfl) t fr τ x ?_|>.trans hx.symm
  exact h3.trans hx
 have RQ: ∀(s1:St),(∀t,((w.st.clean (live (Ce c))).get t).Qq=true->stays live c t=true->s1.get t=(w.st.clean (live (Ce c))).get t)->s1.whole (Sr T.parts (w.st.clean (live (Ce c))).tmps)=s1-> ∀v,cX ((w.st.clean (live (Ce c))).mask (Hl (stays live c) 0 (w.st.clean (live (Ce c))).tmps)) (s1.mask (Hl (stays live c) 0 (w.st.clean (live (Ce c))).tmps))=some v->
   s1=(St.pb (Hl (stays live c) 0 (w.st.clean (live (Ce c))).tmps) (w.st.clean (live (Ce c))) (cW ((w.st.clean (live (Ce c))).mask (Hl (stays live c) 0 (w.st.clean (live (Ce c))).tmps)) v)).whole (Sr T.parts (w.st.clean (live (Ce c))).tmps):=by
  intro s1 hf hwh v hv
  have h1:=cY hv
  have h2:St.pb (Hl (stays live c) 0 (w.st.clean (live (Ce c))).tmps) (w.st.clean (live (Ce c))) (s1.mask (Hl (stays live c) 0 (w.st.clean (live (Ce c))).tmps))=s1:=by
   simp only [St.pb,St.mask]
   rw [nt (stays live c) 0 (w.st.clean (live (Ce c))).tmps s1.tmps λt h3 h4=>hf t h3 (by simpa using h4)]
  have h3:(St.pb (Hl (stays live c) 0 (w.st.clean (live (Ce c))).tmps) (w.st.clean (live (Ce c))) (cW ((w.st.clean (live (Ce c))).mask (Hl (stays live c) 0 (w.st.clean (live (Ce c))).tmps)) v)).whole (Sr T.parts (w.st.clean (live (Ce c))).tmps)=s1.whole (Sr T.parts (w.st.clean (live (Ce c))).tmps):=by
   refine xu ?_
   rw [nu,h1,<-nu,h2]
  rw [h3,hwh]
 refine ER (λv=>(St.pb (Hl (stays live c) 0 (w.st.clean (live (Ce c))).tmps) (w.st.clean (live (Ce c))) (cW ((w.st.clean (live (Ce c))).mask (Hl (stays live c) 0 (w.st.clean (live (Ce c))).tmps)) v)).whole (Sr T.parts (w.st.clean (live (Ce c))).tmps)) I μ _ h0 (RQ _ (λ_ _ _=>rfl) US _ (kT _ (fL _ _ (Nd h)))) ?_
 intro a ha
 refine (Iz.keeps (ih ⟨[],_⟩ _ (λt b h=>by cases h) (hs a ha))).mono ?_
 intro e s hQ
 obtain ⟨⟨w',h1,h2,h3⟩,hk⟩:=hQ
 subst h1
 cases e with
 |normal=>
  obtain ⟨h4,h5⟩:=eH h3
  obtain ⟨v',h6,h7,h8⟩:=As.1 h5
  refine ⟨v',RQ _ (λt hd ht=>?_) h4 _ h6,h7,h8⟩
  obtain ⟨fr,τ,x,hx⟩:=mS hd
  rw [hx]
  exact eu (live (Ce c)) w'.st t fr τ x (xY hd) (hk t fr τ x (FJ ht) (by rw [Ae t hd ht a];exact hx))
 |exit id=>exact ⟨w',rfl,h2,h3⟩
 |ret=>exact ⟨w',rfl,h2,h3⟩
theorem ki: ∀(c:Code) (w:WS) (Q:Gv->WS->Prop),w.OK->Xr T Γ live c w Q->Iz T Γ live c w.st (wsQ Q):=by
 intro c
 induction c with
 |skip=>intro w Q hw h;exact .skip ⟨w,rfl,hw,h⟩
 |label _=>intro w Q hw h;exact .label ⟨w,rfl,hw,h⟩
 |exit _=>intro w Q hw h;exact .exit ⟨w,rfl,hw,h⟩
 |ret=>intro w Q hw h;exact .ret ⟨w,rfl,hw,h⟩
 |region id ops draw=>
  intro w Q hw h
  exact .region ((pq hw h).mono λs ⟨w',h1,h2,h3⟩=>⟨w',h1,h2,Zw.1 h3⟩)
 |seq x y ihx ihy=>
  intro w Q hw h
  refine KT ((ihx w _ hw h).mono λe s hQ=>?_)
  obtain ⟨w',h1,h2,h3⟩:=hQ
  subst h1
  cases e with
  |normal=>exact ihy w' Q h2 h3
  |exit id=>exact ⟨w',rfl,h2,h3⟩
  |ret=>exact ⟨w',rfl,h2,h3⟩
 |cond c x y ihx ihy=>
  intro w Q hw h
  obtain ⟨fr,b,w',h1,h2,h3,h4⟩:=pW hw h
  refine EP h1 (λhb=>?_) (λhb=>?_)
  ·subst hb;rw [<-h2];exact ihx w' Q h3 h4
  ·subst hb;rw [<-h2];exact ihy w' Q h3 h4
 |block id c ih=>
  intro w Q hw h
  refine zk ((ih w _ hw h).mono λe s hQ=>?_)
  obtain ⟨w',h1,h2,h3⟩:=hQ
  subst h1
  cases e with
  |normal=>exact ⟨w',rfl,h2,h3⟩
  |ret=>exact ⟨w',rfl,h2,h3⟩
  |exit CZ=>
   simp only at h3
   simp only [ql]
   split at h3
   ·rename_i hi;rw [if_pos hi];exact ⟨w',rfl,h2,h3⟩
   ·rename_i hi;rw [if_neg hi];exact ⟨w',rfl,h2,h3⟩
 |loop c ih=>intro w Q hw h;exact w7 ih h
 |_=>intro w Q hw h;exact absurd h (by simp [Xr])
theorem mh {s:Spec} {fn:Func} {P:s.res.den->Prop} {st:St} (h:SW T s fn P st): ∃fr y,gJ T s fn st=some (fr,y)/\(fr||!s.fresh)=true/\P y:=by
 obtain ⟨p,h1,h2⟩:=As.1 h
 split at h2
 ·rename_i hf;exact ⟨p.1,p.2,h1,hf,h2⟩
 ·cases h2
theorem CN {s:Spec} {fn:Func} {x:s.arg.den} {P:s.res.den->Prop} (h:fnW T Γ s fn x P):GX T Γ s fn x P:=by
 unfold fnW at h
 obtain ⟨c,h1,h2⟩:=As.1 h
 refine ⟨c,h1,(ki c _ _ (λt b h=>by cases h) h2).mono λe st ⟨w,h4,h5,h6⟩=>?_⟩
 subst h4
 cases e with
 |normal=>exact ⟨λid hh=>(by cases hh),mh h6⟩
 |ret=>exact ⟨λid hh=>(by cases hh),mh h6⟩
 |exit id=>cases h6
theorem Wd {st:St} {K:Prop} : ∀(vs:List AC) (cs:List (Bool×CK)),cj st K vs cs->cg st vs cs/\K
 | [],cs,h=>⟨by simp [cg],by simpa [cj] using h⟩
 |a::vs,[],h=>⟨by cases a<;>simp [cg],by cases a<;>simpa [cj] using h⟩
 |a::vs,(false,c)::r,h=>by
  have h:cj st K vs r:=by cases a<;>simpa only [cj] using h
  obtain ⟨h1,h2⟩:=Wd vs r h
  exact ⟨by cases a<;>simpa only [cg] using h1,h2⟩
 |a::vs,(true,c)::r,h=>by
  cases a with
  |own l off len=>
   simp only [cj] at h
   split at h
   ·rename_i hl
    obtain ⟨h1,h2⟩:=Wd vs r h.2
    refine ⟨?_,h2⟩
    simp only [cg,hl]
    exact ⟨h.1,h1⟩
   ·rename_i hl
    obtain ⟨h1,h2⟩:=Wd vs r h.2
    refine ⟨?_,h2⟩
    simp only [cg,hl]
    exact ⟨h.1,h1⟩
   ·exact h.elim
  |_=>exact ⟨by simp [cg],by simpa [cj] using h⟩
theorem ae {st:St} : ∀(cs:List CK) (as:List AC) (K:CKs.den cs->List Nat->Prop),jv st cs as K-> ∃x ls,Oa st cs as=some (x,ls)/\K x ls
 | [],[],K,h=>⟨(),[],rfl,h⟩
 | [],_::_,_,h=>h.elim
 |c::r,[],K,h=>by cases c<;>exact h.elim
 |c::r,a::as,K,h=>by
  have oE:Dy (dS st c a) (λp=>jv st r as λy t=>K (p.1,y) (p.2++t))-> ∃x ls,Oa st (c::r) (a::as)=some (x,ls)/\K x ls:= λh=>by
   obtain ⟨p,h1,h2⟩:=As.1 h
   obtain ⟨y,t,h3,h4⟩:=ae r as _ h2
   exact ⟨_,_,by simp only [Oa,h1,h3],h4⟩
  cases c with
  |Ak e te kp=>
   cases a with
   |own l off len=>
    simp only [jv] at h
    split at h
    ·rename_i hl
     split at h
     ·rename_i hc
      obtain ⟨⟨h1,h2⟩,h⟩:=h
      obtain ⟨y,t,h3,h4⟩:=ae r as _ h
      exact ⟨_,_,by simp only [Oa,dS,hl];rw [dif_pos ⟨hc.1,hc.2,h1,h2⟩];simp only [h3];rfl,h4⟩
     ·exact h.elim
    ·exact h.elim
   |_=>exact oE h
  |_=>exact oE h
theorem gZ {st:St} {n:Nat} {as:List AC} {K:Prop} : ∀(ks:List (Nat×Nat)),ss st n as ks K->qt st n as ks/\K
 | [],h=>⟨trivial,h⟩
 |(k,j)::r,h=>by
  simp only [ss] at h
  split at h
  ·rename_i l off len ha
   split at h
   ·rename_i p hl
    split at h
    ·rename_i hc
     simp only [Bool.and_eq_true] at hc
     obtain ⟨h1,h2⟩:=gZ r h.2
     refine ⟨?_,h2⟩
     simp only [qt,ha,hl]
     exact ⟨⟨Nat.eq_of_beq_eq_true hc.1,h.1,hc.2⟩,h1⟩
    ·exact h.elim
   ·exact h.elim
  ·exact h.elim
theorem cK {s:MSpec} {fn:Func} {x:Ins.den s.ins} {st:St} {cs:List AC} {P:CKs.den s.outs×IOs.den s.ins->Prop} (h:nF T s fn x st cs P):dF T s fn x st cs P:=by
 obtain ⟨l,h1,h⟩:=As.1 h
 obtain ⟨⟨as,ml⟩,h2,h⟩:=As.1 h
 obtain ⟨r,ls,h3,h⟩:=ae _ _ _ h
 obtain ⟨o,h4,h⟩:=As.1 h
 split at h
 ·rename_i hc
  obtain ⟨h5,h6⟩:=gZ _ h
  unfold dF
  simp only [h1,h2,h3,h4]
  exact ⟨hc,h5,h6⟩
 ·exact h.elim
theorem kM {s:MSpec} {fn:Func} {x:Ins.den s.ins} {st:St} {P:CKs.den s.outs×IOs.den s.ins->Prop} (h:BN T s fn x st P):GW T s fn x st P:=by
 unfold BN at h
 unfold GW
 cases hp:s.ptr with
 |none=>rw [hp] at h;exact cK h
 |some p=>
  rw [hp] at h
  simp only at h⊢
  split at h
  ·rename_i tid vs hl
   split at h
   ·rename_i hc
    simp only [Bool.and_eq_true] at hc
    obtain ⟨h1,h2⟩:=hc
    have h1:tid=p.1:=Nat.eq_of_beq_eq_true h1
    have h2:=Nat.eq_of_beq_eq_true h2
    subst h1
    obtain ⟨cs,h3,h4⟩:=As.1 h
    obtain ⟨h5,h6⟩:=Wd vs s.ins h4
    exact ⟨vs,cs,hl,h2,h3,h5,cK h6⟩
   ·exact h.elim
  ·exact h.elim
theorem yi {s:MSpec} {fn:Func} {x:Ins.den s.ins} {P:CKs.den s.outs×IOs.den s.ins->Prop} (h:fnMW T Γ s fn x P):QK T Γ s fn x P:=by
 unfold fnMW at h
 split at h
 ·cases h
 rename_i hlen
 obtain ⟨c,h1,h2⟩:=As.1 h
 refine ⟨hlen,c,h1,(ki c _ _ (λt b h=>by cases h) h2).mono λe st ⟨w,h4,h5,h6⟩=>?_⟩
 subst h4
 cases e with
 |normal=>exact ⟨λid hh=>(by cases hh),kM h6⟩
 |ret=>exact ⟨λid hh=>(by cases hh),kM h6⟩
 |exit id=>cases h6
theorem Bz.ofW {P:Program} (hT:Ca P T) (Mb:Hb P Γ) (hm:P.follows .mixedOrders=true) {f:FuncId} {fn:Func} (hf:P.funcs[f]?=some fn) (hn:(fn.name== "runtime.NumGoroutine")=false)
  (hb:fn.body.isNone=false) (s:MSpec) (h: ∀x y,s.fn x=some y->fnMW T Γ s fn x (λz=>z=y)):Bz P f s:=
 ⟨bE hf hn hb,λw S π us x r o g vs h1 hg h2 h3 hS h4 h5=>oJ hT Mb hm hf s w S π us x r o g vs h1 hg h2 h3 hS h4 (yi (h x (r,o) h5))⟩
theorem Sound.ofW {P:Program} (hT:Ca P T) (Mb:Hb P Γ) (hm:P.follows .mixedOrders=true) {f:FuncId} {fn:Func} (hf:P.funcs[f]?=some fn) (hn:(fn.name== "runtime.NumGoroutine")=false)
  (hb:fn.body.isNone=false) (s:Spec) (h: ∀x y,s.fn x=some y->fnW T Γ s fn x (λz=>z=y)):Sound P f s:=
 KV hT Mb hm hf hn hb s λx y hx=>CN (h x y hx)
end
end Go.Proofs.Ytjbdmibbbpdnnaa
