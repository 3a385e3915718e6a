/-
  Part 34 of the proof that the statement FnExactSubgroupCosetCount holds.
-/
import Derived.Test.YtjbdmibbbpdnnaaCSubgroupCosetCount32
namespace Go.Proofs.Ytjbdmibbbpdnnaa
open Go.RowKit
theorem Lz {B:List (Nat×Nat×Nat)} {H:List (Nat×OB)} : ∀ {l:List AV} {K:Prop},Sh B H l K-> ∀c∈l,c.cM=true
 | [],_,_,c,hc=>by cases hc
 |d::l,K,h,c,hc=>by
  simp only [Sh] at h
  cases d with
  |Hv l'=>exact h.elim
  | «at»a=>
   rcases List.mem_cons.1 hc with rfl|hc
   ·rfl
   ·have h':Sh B H l K:=by
     cases a with
     |own k o n=>exact h.2.2
     |_=>exact h
    exact Lz h' c hc
  |Si _ _ _=>
   rcases List.mem_cons.1 hc with rfl|hc
   ·rfl
   ·exact Lz h c hc
  |agg cs=>
   rcases List.mem_cons.1 hc with rfl|hc
   ·rfl
   ·have: ∀(cs:List AC) (Q:Prop),Vj B H cs Q->Q:=by
     intro cs
     induction cs with
     |nil=>exact λQ h=>h
     |cons a cs ih=>
      intro Q h
      have h2:Vj B H cs Q:=by
       cases a with
       |own k o n=>exact h.2.2
       |_=>exact h
      exact ih Q h2
    exact Lz (this cs _ h) c hc
theorem dP: ∀(f:List Bool) (l:List AV),(∀c∈l,c.cM=true)-> ∀c∈Mq f l,c.cM=true
 | [],l,h=>by simpa [Mq] using h
 |true::f,[],h=>by simp [Mq] at h⊢
 |false::f,[],h=>by simp [Mq] at h⊢
 |true::f,a::l,h=>by
  intro c hc
  simp only [Mq,List.mem_cons] at hc
  rcases hc with rfl|hc
  ·rfl
  ·exact dP f l (λc hc=>h c (List.mem_cons_of_mem _ hc)) c hc
 |false::f,a::l,h=>by
  intro c hc
  simp only [Mq,List.mem_cons] at hc
  rcases hc with rfl|hc
  ·exact h c (by simp)
  ·exact dP f l (λc hc=>h c (List.mem_cons_of_mem _ hc)) c hc
theorem yh (f:AC->AC) (H:List (Nat×OB)) (l:Nat):lenOf (H.map λp=>(p.1,p.2.map f)) l=lenOf H l:=by
 unfold lenOf
 rw [Ij]
 cases Ad H l with
 |none=>rfl
 |some b=>cases b<;>rfl
theorem uj (f g:AC->AC) (c:AV):(c.map f).map g=c.map λa=>g (f a):=by
 cases c<;>simp [AV.map]
theorem vE (f g:AC->AC) (c:OB):(c.map f).map g=c.map λa=>g (f a):=by
 cases c<;>simp [OB.map]
theorem sA (s:St) (f g:AC->AC):(s.Fl f).Fl g=s.Fl λa=>g (f a):=by
 simp [St.Fl,List.map_map,Function.comp_def,uj,vE]
theorem so (f:AC->AC) (H:List (Nat×OB)) (l:Nat): ∀(B:List (Nat×Nat×Nat)),yf B (H.map λp=>(p.1,p.2.map f)) l=yf B H l
 | []=>yh f H l
 |(k,o,n)::r=>by simp only [yf];rw [so f H l r]
theorem u6 (B:List (Nat×Nat×Nat)) (s:St):(s.Fl Ld).whole B=s.whole B:=by
 unfold St.whole
 rw [sA]
 congr 1
 funext a
 cases a with
 |own l off len=>simp only [Ld,Yv,St.Fl,so]
 |_=>rfl
theorem tZ {B:List (Nat×Nat×Nat)} {s t:St} (h:s.Fl Ld=t.Fl Ld):s.whole B=t.whole B:=by rw [<-u6 B s,h,u6]
theorem gC (f:AC->AC): ∀(fx:List Bool) (a b:List AV),(No fx a b).map (·.map f)=No fx (a.map (·.map f)) (b.map (·.map f))
 | [],_,_=>by simp [No]
 |_::_,[],_=>by simp [No]
 |true::_,_::_,[]=>by simp [No]
 |false::_,_::_,[]=>by simp [No]
 |true::fx,x::a,y::b=>by simp only [No,List.map_cons,gC f fx a b]
 |false::fx,x::a,y::b=>by simp only [No,List.map_cons,gC f fx a b]
theorem kZ (f:AC->AC) (fx:List Bool) (a b:St):(St.mD fx a b).Fl f=St.mD fx (a.Fl f) (b.Fl f):=by
 simp only [St.mD,St.Fl,gC]
theorem kY (p:Nat->Bool): ∀(i:Nat) (l0 l1:List AV),(∀t,(l0.getD t .undef).Ow=true->p (i+t)=true->l1.getD t .undef=l0.getD t .undef)->
  No (Gl p i l0) l0 (Mq (Gl p i l0) l1)=l1
 |_,[],l1,_=>by simp [Gl,Mq,No]
 |i,a::r,[],_=>by
  simp only [Gl]
  cases (a.Ow&&p i)<;>simp [Mq,No]
 |i,a::r,b::s,h=>by
  have hr:=kY p (i+1) r s λt h1 h2=>by
   have:=h (t+1) (by simpa using h1) (by rw [show i+(t+1)=i+1+t by omega];exact h2)
   simpa using this
  simp only [Gl]
  cases hc:(a.Ow&&p i) with
  |false=>simp only [Mq,No];rw [hr]
  |true=>
   simp only [Mq,No]
   rw [hr]
   simp only [Bool.and_eq_true] at hc
   have:=h 0 (by simpa using hc.1) hc.2
   simp only [List.getD_cons_zero] at this
   rw [this]
theorem Xw: ∀(f:List Bool) (l:List AV),(Mq f l).length=l.length
 | [],l=>by simp [Mq]
 |true::f,[]=>by simp [Mq]
 |false::f,[]=>by simp [Mq]
 |true::f,a::l=>by simp [Mq,Xw f l]
 |false::f,a::l=>by simp [Mq,Xw f l]
theorem Zs: ∀(l:List AV) {R:Type} (v:iW l R),(Nw l v).1.length=l.length
 | [],_,_=>rfl
 |c::l,_,v=>by simp [Nw,Zs l]
theorem nZ (p:Nat->Bool): ∀(i:Nat) (l0 l:List AV) (t:Nat),l.length=l0.length->(l0.getD t .undef).Ow=true->p (i+t)=true->(No (Gl p i l0) l0 l).getD t .undef=l0.getD t .undef
 |_,[],_,t,_,h,_=>by simp [AV.Ow] at h
 |i,a::r,[],_,h,_,_=>by simp at h
 |i,a::r,b::s,0,_,h1,h2=>by
  have:(a.Ow&&p i)=true:=by
   simp only [Bool.and_eq_true]
   exact ⟨by simpa using h1,h2⟩
  simp only [Gl,this,No,List.getD_cons_zero]
 |i,a::r,b::s,t+1,hl,h1,h2=>by
  have hr:=nZ p (i+1) r s t (by simpa using hl) (by simpa using h1) (by rw [show i+1+t=i+(t+1) by omega];exact h2)
  simp only [Gl]
  cases (a.Ow&&p i)<;>simpa only [No,List.getD_cons_succ] using hr
theorem cn {B:List (Nat×Nat×Nat)} {H:List (Nat×OB)} {c:AC} {K:Prop} (h:oE B H c K):Yv B H c=c/\K:=by
 cases c with
 |own l off len=>obtain ⟨h1,h2,h3⟩:=h;exact ⟨by rw [h1,h2];rfl,h3⟩
 |_=>exact ⟨rfl,h⟩
theorem Sm {B:List (Nat×Nat×Nat)} {H:List (Nat×OB)} : ∀ {l:List AC} {K:Prop},Vj B H l K->l.map (Yv B H)=l/\K
 | [],_,h=>⟨rfl,h⟩
 |c::l,_,h=>by
  obtain ⟨h1,h2⟩:=cn h
  obtain ⟨h3,h4⟩:=Sm h2
  exact ⟨by rw [List.map_cons,h1,h3],h4⟩
theorem m5 {B:List (Nat×Nat×Nat)} {H:List (Nat×OB)} {c:AV} {K:Prop} (h:wO B H c K):c.map (Yv B H)=c/\K:=by
 cases c with
 | «at»a=>obtain ⟨h1,h2⟩:=cn h;exact ⟨by rw [AV.map,h1],h2⟩
 |agg cs=>obtain ⟨h1,h2⟩:=Sm h;exact ⟨by rw [AV.map,h1],h2⟩
 |Si _ _ _=>exact ⟨rfl,h⟩
 |Hv l=>exact h.elim
theorem Zt {B:List (Nat×Nat×Nat)} {H:List (Nat×OB)} : ∀ {l:List AV} {K:Prop},Sh B H l K->l.map (·.map (Yv B H))=l/\K
 | [],_,h=>⟨rfl,h⟩
 |c::l,_,h=>by
  obtain ⟨h1,h2⟩:=m5 h
  obtain ⟨h3,h4⟩:=Zt h2
  exact ⟨by rw [List.map_cons,h1,h3],h4⟩
theorem Hd {B:List (Nat×Nat×Nat)} {H:List (Nat×OB)} : ∀ {l:List (Nat×OB)} {K:Prop},bV B H l K->l.map (λp=>(p.1,p.2.map (Yv B H)))=l/\K
 | [],_,h=>⟨rfl,h⟩
 |(k, .var t vs)::l,_,h=>by
  obtain ⟨h1,h2⟩:=Sm h
  obtain ⟨h3,h4⟩:=Hd h2
  exact ⟨by rw [List.map_cons,h3];simp only [OB.map,h1],h4⟩
 |(k, .arr a b c d e)::l,_,h=>by
  obtain ⟨h3,h4⟩:=Hd (l:=l) h
  exact ⟨by rw [List.map_cons,h3];rfl,h4⟩
 |(k, .Cq a b c)::l,_,h=>by
  obtain ⟨h3,h4⟩:=Hd (l:=l) h
  exact ⟨by rw [List.map_cons,h3];rfl,h4⟩
 |(k, .Ah a b c d e)::l,_,h=>by
  obtain ⟨h3,h4⟩:=Hd (l:=l) h
  exact ⟨by rw [List.map_cons,h3];rfl,h4⟩
 |(k, .Mz a b)::l,_,h=>by
  obtain ⟨h3,h4⟩:=Hd (l:=l) h
  exact ⟨by rw [List.map_cons,h3];rfl,h4⟩
theorem cS {B:List (Nat×Nat×Nat)} {s:St} {K:Prop} (h:qi B s K):s.whole B=s/\K:=by
 obtain ⟨h1,h2⟩:=Zt h
 obtain ⟨h3,h4⟩:=Hd h2
 exact ⟨by unfold St.whole St.Fl;rw [h1,h3],h4⟩
theorem aj (live:List Nat): ∀(i:Nat) (l:List AV) (t:Nat),i+t∉live->(Ex live i l).getD t .undef= .undef
 |_,[],_,_=>rfl
 |i,v::r,0,h=>by simp [Ex];intro hn;exact absurd hn h
 |i,v::r,t+1,h=>by
  simp only [Ex,List.getD_cons_succ]
  exact aj live (i+1) r t (by rw [show i+1+t=i+(t+1) by omega];exact h)
theorem Zc: ∀(l:List Nat) (st:St) (t:Nat),st.get t= .undef->(Vv l st).get t= .undef
 | [],_,_,h=>h
 |a::r,st,t,h=>Zc r _ t (by
  show (st.tmps.map (·.map (As a))).getD t .undef= .undef
  rw [Qa (As a) rfl,show st.tmps.getD t .undef= .undef from h]
  rfl)
theorem pX (l k:Nat) (st:St) (t:Nat) (h:st.get t= .undef):(st.rename l k).get t= .undef:=by
 unfold St.rename
 split
 ·split
  ·show (st.tmps.map (·.map (Mt l k))).getD t .undef= .undef
   rw [Qa (Mt l k) rfl,show st.tmps.getD t .undef= .undef from h]
   rfl
  ·exact h
 ·exact h
theorem Wl: ∀(n i:Nat) (st:St) (t:Nat),st.get t= .undef->(Gs n i st).get t= .undef
 |0,_,_,_,h=>h
 |n+1,i,st,t,h=>by
  simp only [Gs]
  refine Wl n (i+1) _ t ?_
  split
  ·split
   ·split
    ·exact h
    ·exact pX _ _ _ t h
   ·exact h
  ·exact h
theorem pT (st:St) (d:Nat) (v:AV) (t:Nat) (Er:t≠d) (h:st.get t= .undef):(st.put (some d) v).get t= .undef:=by rw [Sx _ _ Er];exact h
theorem l9 (k:Nat) (st:St) (t:Nat) (h:st.get t= .undef):(Ti k st).get t= .undef:=by
 unfold Ti
 split
 ·rename_i l off len hg
  split
  ·split
   ·refine pT _ _ _ _ (λe=>by subst e;rw [hg] at h;cases h) ?_
    show (st.tmps.map (·.map (As l))).getD t .undef= .undef
    rw [Qa (As l) rfl,show st.tmps.getD t .undef= .undef from h]
    rfl
   ·exact h
  ·exact h
 ·exact h
theorem Zl (live:List Nat): ∀(n i:Nat) (st:St) (t:Nat),st.get t= .undef->(Il live n i st).get t= .undef
 |0,_,_,_,h=>h
 |n+1,i,st,t,h=>by
  simp only [Il]
  refine Zl live n (i+1) _ t ?_
  split
  ·exact l9 _ _ _ h
  ·exact h
theorem uz {live:List Nat} {st:St} {t:Nat} (h:((st.clean live).get t).Ow=true):t∈live:=by
 refine Classical.byContradiction λhn=>?_
 have:(st.clean live).get t= .undef:=by
  have key: ∀s:St,s.get t= .undef->(if live.contains Ug then Gs s.tmps.length 0 s else s).get t= .undef:=by
   intro s hs
   split
   ·exact Wl _ _ s t hs
   ·exact hs
  unfold St.clean
  have BA: ∀s:St,s.get t= .undef->(if live.any (λt=>Nat.ble Qn t) then s.Ef live else s).get t= .undef:=by
   intro s hs
   split<;>exact hs
  have BB: ∀s:St,s.get t= .undef->(if live.any (λt=>Nat.ble Kl t&&Nat.blt t Ug) then Il live s.tmps.length 0 s else s).get t= .undef:=by
   intro s hs
   split
   ·exact Zl _ _ _ s t hs
   ·exact hs
  refine BA _ (key _ (BB _ (Zc _ _ t ?_)))
  exact aj live 0 st.tmps t (by simpa using hn)
 rw [this] at h
 cases h
theorem kH {c:AV} (h:c.Ow=true): ∃fr τ,∃x:τ.den,c= .at (.data fr τ x):=by
 unfold AV.Ow at h
 split at h
 ·exact ⟨_,_,_,rfl⟩
 ·cases h
theorem yZ {live:Nat->List Nat} {c:Code} {t:Nat} (h:stays live c t=true):t∉writes c/\Ta live c t=true:=by
 unfold stays at h
 simpa using h
section
variable {T:Tab} {Γ:Env} {live:Nat->List Nat}
theorem Ia.keeps {c:Code} {st:St} {Q:Fy->St->Prop} (h:Ia T Γ live c st Q):Ia T Γ live c st (λe s=>Q e s/\El (λt=>t∉writes c/\Ta live c t=true) st s):=by
 exact w7 h st _ Av.rfl'.on λt ht=>ht
def YJ (Q:Fy->WS->Prop) (e:Fy) (s:St):Prop:= ∃w':WS,w'.st=s/\w'.OK/\Q e w'
theorem sx {c:Code} (ih: ∀(w:WS) (Q:Fy->WS->Prop),w.OK->Vn T Γ live c w Q->Ia T Γ live c w.st (YJ Q)) {w:WS} {Q:Fy->WS->Prop} (h:Vn T Γ live (.loop c) w Q):
  Ia T Γ live (.loop c) w.st (YJ Q):=by
 simp only [Vn,xP,dC] at h
 obtain ⟨KN,I,μ,h0,hs⟩:=cS h
 have Ad: ∀(t:Nat),((w.st.clean (live (Bv c))).get t).Ow=true->stays live c t=true-> ∀v,((St.mD (Gl (stays live c) 0 (w.st.clean (live (Bv c))).tmps) (w.st.clean (live (Bv c))) (bB ((w.st.clean (live (Bv c))).mask (Gl (stays live c) 0 (w.st.clean (live (Bv c))).tmps)) v)).whole (Qp T.parts (w.st.clean (live (Bv c))).tmps)).get t=(w.st.clean (live (Bv c))).get t:=by
  intro t h1 h2 v
  have h3:=nZ (stays live c) 0 (w.st.clean (live (Bv c))).tmps (bB ((w.st.clean (live (Bv c))).mask (Gl (stays live c) 0 (w.st.clean (live (Bv c))).tmps)) v).tmps t
   ((Zs _ _).trans (Xw _ _)) h1 (by simpa using h2)
  obtain ⟨fr,τ,x,hx⟩:=kH h1
  refine (Is _ _ rfl λ_ _ _=>rfl) t fr τ x ?_|>.trans hx.symm
  exact h3.trans hx
 have HO: ∀(s1:St),(∀t,((w.st.clean (live (Bv c))).get t).Ow=true->stays live c t=true->s1.get t=(w.st.clean (live (Bv c))).get t)->s1.whole (Qp T.parts (w.st.clean (live (Bv c))).tmps)=s1-> ∀v,bC ((w.st.clean (live (Bv c))).mask (Gl (stays live c) 0 (w.st.clean (live (Bv c))).tmps)) (s1.mask (Gl (stays live c) 0 (w.st.clean (live (Bv c))).tmps))=some v->
   s1=(St.mD (Gl (stays live c) 0 (w.st.clean (live (Bv c))).tmps) (w.st.clean (live (Bv c))) (bB ((w.st.clean (live (Bv c))).mask (Gl (stays live c) 0 (w.st.clean (live (Bv c))).tmps)) v)).whole (Qp T.parts (w.st.clean (live (Bv c))).tmps):=by
  intro s1 hf hwh v hv
  have h1:=bD hv
  have h2:St.mD (Gl (stays live c) 0 (w.st.clean (live (Bv c))).tmps) (w.st.clean (live (Bv c))) (s1.mask (Gl (stays live c) 0 (w.st.clean (live (Bv c))).tmps))=s1:=by
   simp only [St.mD,St.mask]
   rw [kY (stays live c) 0 (w.st.clean (live (Bv c))).tmps s1.tmps λt h3 h4=>hf t h3 (by simpa using h4)]
  have h3:(St.mD (Gl (stays live c) 0 (w.st.clean (live (Bv c))).tmps) (w.st.clean (live (Bv c))) (bB ((w.st.clean (live (Bv c))).mask (Gl (stays live c) 0 (w.st.clean (live (Bv c))).tmps)) v)).whole (Qp T.parts (w.st.clean (live (Bv c))).tmps)=s1.whole (Qp T.parts (w.st.clean (live (Bv c))).tmps):=by
   refine tZ ?_
   rw [kZ,h1,<-kZ,h2]
  rw [h3,hwh]
 refine yL (λv=>(St.mD (Gl (stays live c) 0 (w.st.clean (live (Bv c))).tmps) (w.st.clean (live (Bv c))) (bB ((w.st.clean (live (Bv c))).mask (Gl (stays live c) 0 (w.st.clean (live (Bv c))).tmps)) v)).whole (Qp T.parts (w.st.clean (live (Bv c))).tmps)) I μ _ h0 (HO _ (λ_ _ _=>rfl) KN _ (iS _ (dP _ _ (Lz h)))) ?_
 intro a ha
 refine (Ia.keeps (ih ⟨[],_⟩ _ (λt b h=>by cases h) (hs a ha))).mono ?_
 intro e s hQ
 obtain ⟨⟨w',h1,h2,h3⟩,hk⟩:=hQ
 subst h1
 cases e with
 |normal=>
  obtain ⟨h4,h5⟩:=cS h3
  obtain ⟨v',h6,h7,h8⟩:=An.1 h5
  refine ⟨v',HO _ (λt hd ht=>?_) h4 _ h6,h7,h8⟩
  obtain ⟨fr,τ,x,hx⟩:=kH hd
  rw [hx]
  exact cI (live (Bv c)) w'.st t fr τ x (uz hd) (hk t fr τ x (yZ ht) (by rw [Ad t hd ht a];exact hx))
 |exit id=>exact ⟨w',rfl,h2,h3⟩
 |ret=>exact ⟨w',rfl,h2,h3⟩
theorem il: ∀(c:Code) (w:WS) (Q:Fy->WS->Prop),w.OK->Vn T Γ live c w Q->Ia T Γ live c w.st (YJ Q):=by
 intro c
 induction c with
 |skip=>intro w Q hw h;exact .skip ⟨w,rfl,hw,h⟩
 |label _=>intro w Q hw h;exact .label ⟨w,rfl,hw,h⟩
 |exit _=>intro w Q hw h;exact .exit ⟨w,rfl,hw,h⟩
 |ret=>intro w Q hw h;exact .ret ⟨w,rfl,hw,h⟩
 |region id ops draw=>
  intro w Q hw h
  exact .region ((mK hw h).mono λs ⟨w',h1,h2,h3⟩=>⟨w',h1,h2,Xp.1 h3⟩)
 |seq x y XX XY=>
  intro w Q hw h
  refine CC ((XX w _ hw h).mono λe s hQ=>?_)
  obtain ⟨w',h1,h2,h3⟩:=hQ
  subst h1
  cases e with
  |normal=>exact XY w' Q h2 h3
  |exit id=>exact ⟨w',rfl,h2,h3⟩
  |ret=>exact ⟨w',rfl,h2,h3⟩
 |cond c x y XX XY=>
  intro w Q hw h
  obtain ⟨fr,b,w',h1,h2,h3,h4⟩:=nk hw h
  refine yK h1 (λhb=>?_) (λhb=>?_)
  ·subst hb;rw [<-h2];exact XX w' Q h3 h4
  ·subst hb;rw [<-h2];exact XY w' Q h3 h4
 |block id c ih=>
  intro w Q hw h
  refine w6 ((ih w _ hw h).mono λe s hQ=>?_)
  obtain ⟨w',h1,h2,h3⟩:=hQ
  subst h1
  cases e with
  |normal=>exact ⟨w',rfl,h2,h3⟩
  |ret=>exact ⟨w',rfl,h2,h3⟩
  |exit yb=>
   simp only at h3
   simp only [nJ]
   split at h3
   ·rename_i hi;rw [if_pos hi];exact ⟨w',rfl,h2,h3⟩
   ·rename_i hi;rw [if_neg hi];exact ⟨w',rfl,h2,h3⟩
 |loop c ih=>intro w Q hw h;exact sx ih h
 |_=>intro w Q hw h;exact absurd h (by simp [Vn])
theorem jY {s:Spec} {fn:Func} {P:s.res.den->Prop} {st:St} (h:IW T s fn P st): ∃fr y,eJ T s fn st=some (fr,y)/\(fr||!s.fresh)=true/\P y:=by
 obtain ⟨p,h1,h2⟩:=An.1 h
 split at h2
 ·rename_i hf;exact ⟨p.1,p.2,h1,hf,h2⟩
 ·cases h2
theorem xO {s:Spec} {fn:Func} {x:s.arg.den} {P:s.res.den->Prop} (h:fnW T Γ s fn x P):zD T Γ s fn x P:=by
 unfold fnW at h
 obtain ⟨c,h1,h2⟩:=An.1 h
 refine ⟨c,h1,(il c _ _ (λt b h=>by cases h) h2).mono λe st ⟨w,h4,h5,h6⟩=>?_⟩
 subst h4
 cases e with
 |normal=>exact ⟨λid hh=>(by cases hh),jY h6⟩
 |ret=>exact ⟨λid hh=>(by cases hh),jY h6⟩
 |exit id=>cases h6
theorem Ud {st:St} {K:Prop} : ∀(vs:List AC) (cs:List (Bool×CK)),aO st K vs cs->aN st vs cs/\K
 | [],cs,h=>⟨by simp [aN],by simpa [aO] using h⟩
 |a::vs,[],h=>⟨by cases a<;>simp [aN],by cases a<;>simpa [aO] using h⟩
 |a::vs,(false,c)::r,h=>by
  have h:aO st K vs r:=by cases a<;>simpa only [aO] using h
  obtain ⟨h1,h2⟩:=Ud vs r h
  exact ⟨by cases a<;>simpa only [aN] using h1,h2⟩
 |a::vs,(true,c)::r,h=>by
  cases a with
  |own l off len=>
   simp only [aO] at h
   split at h
   ·rename_i hl
    obtain ⟨h1,h2⟩:=Ud vs r h.2
    refine ⟨?_,h2⟩
    simp only [aN,hl]
    exact ⟨h.1,h1⟩
   ·rename_i hl
    obtain ⟨h1,h2⟩:=Ud vs r h.2
    refine ⟨?_,h2⟩
    simp only [aN,hl]
    exact ⟨h.1,h1⟩
   ·exact h.elim
  |_=>exact ⟨by simp [aN],by simpa [aO] using h⟩
theorem Ya {st:St} : ∀(cs:List CK) (as:List AC) (K:CKs.den cs->List Nat->Prop),gB st cs as K-> ∃x ls,Ms st cs as=some (x,ls)/\K x ls
 | [],[],K,h=>⟨(),[],rfl,h⟩
 | [],_::_,_,h=>h.elim
 |c::r,[],K,h=>by cases c<;>exact h.elim
 |c::r,a::as,K,h=>by
  have m4:Dh (cm st c a) (λp=>gB st r as λy t=>K (p.1,y) (p.2++t))-> ∃x ls,Ms st (c::r) (a::as)=some (x,ls)/\K x ls:= λh=>by
   obtain ⟨p,h1,h2⟩:=An.1 h
   obtain ⟨y,t,h3,h4⟩:=Ya r as _ h2
   exact ⟨_,_,by simp only [Ms,h1,h3],h4⟩
  cases c with
  |Ah e te kp=>
   cases a with
   |own l off len=>
    simp only [gB] at h
    split at h
    ·rename_i hl
     split at h
     ·rename_i hc
      obtain ⟨⟨h1,h2⟩,h⟩:=h
      obtain ⟨y,t,h3,h4⟩:=Ya r as _ h
      exact ⟨_,_,by simp only [Ms,cm,hl];rw [dif_pos ⟨hc.1,hc.2,h1,h2⟩];simp only [h3];rfl,h4⟩
     ·exact h.elim
    ·exact h.elim
   |_=>exact m4 h
  |_=>exact m4 h
theorem fa {st:St} {n:Nat} {as:List AC} {K:Prop} : ∀(ks:List (Nat×Nat)),pq st n as ks K->nN st n as ks/\K
 | [],h=>⟨trivial,h⟩
 |(k,j)::r,h=>by
  simp only [pq] at h
  split at h
  ·rename_i l off len ha
   split at h
   ·rename_i p hl
    split at h
    ·rename_i hc
     simp only [Bool.and_eq_true] at hc
     obtain ⟨h1,h2⟩:=fa r h.2
     refine ⟨?_,h2⟩
     simp only [nN,ha,hl]
     exact ⟨⟨Nat.eq_of_beq_eq_true hc.1,h.1,hc.2⟩,h1⟩
    ·exact h.elim
   ·exact h.elim
  ·exact h.elim
theorem bm {s:MSpec} {fn:Func} {x:Ins.den s.ins} {st:St} {cs:List AC} {P:CKs.den s.outs×IOs.den s.ins->Prop} (h:ld T s fn x st cs P):c8 T s fn x st cs P:=by
 obtain ⟨l,h1,h⟩:=An.1 h
 obtain ⟨⟨as,ml⟩,h2,h⟩:=An.1 h
 obtain ⟨r,ls,h3,h⟩:=Ya _ _ _ h
 obtain ⟨o,h4,h⟩:=An.1 h
 split at h
 ·rename_i hc
  obtain ⟨h5,h6⟩:=fa _ h
  unfold c8
  simp only [h1,h2,h3,h4]
  exact ⟨hc,h5,h6⟩
 ·exact h.elim
theorem iP {s:MSpec} {fn:Func} {x:Ins.den s.ins} {st:St} {P:CKs.den s.outs×IOs.den s.ins->Prop} (h:xq T s fn x st P):zC T s fn x st P:=by
 unfold xq at h
 unfold zC
 cases hp:s.ptr with
 |none=>rw [hp] at h;exact bm h
 |some p=>
  rw [hp] at h
  simp only at h⊢
  split at h
  ·rename_i tid vs hl
   split at h
   ·rename_i hc
    simp only [Bool.and_eq_true] at hc
    obtain ⟨h1,h2⟩:=hc
    have h1:tid=p.1:=Nat.eq_of_beq_eq_true h1
    have h2:=Nat.eq_of_beq_eq_true h2
    subst h1
    obtain ⟨cs,h3,h4⟩:=An.1 h
    obtain ⟨h5,h6⟩:=Ud vs s.ins h4
    exact ⟨vs,cs,hl,h2,h3,h5,bm h6⟩
   ·exact h.elim
  ·exact h.elim
theorem uK {s:MSpec} {fn:Func} {x:Ins.den s.ins} {P:CKs.den s.outs×IOs.den s.ins->Prop} (h:fnMW T Γ s fn x P):GJ T Γ s fn x P:=by
 unfold fnMW at h
 split at h
 ·cases h
 rename_i hlen
 obtain ⟨c,h1,h2⟩:=An.1 h
 refine ⟨hlen,c,h1,(il c _ _ (λt b h=>by cases h) h2).mono λe st ⟨w,h4,h5,h6⟩=>?_⟩
 subst h4
 cases e with
 |normal=>exact ⟨λid hh=>(by cases hh),iP h6⟩
 |ret=>exact ⟨λid hh=>(by cases hh),iP h6⟩
 |exit id=>cases h6
theorem Dq.TR {P:Program} (hT:Bt P T) (La:Gz P Γ) (hm:P.follows .mixedOrders=true) {f:FuncId} {fn:Func} (hf:P.funcs[f]?=some fn) (hn:(fn.name== "runtime.NumGoroutine")=false)
  (hb:fn.body.isNone=false) (s:MSpec) (h: ∀x y,s.fn x=some y->fnMW T Γ s fn x (λz=>z=y)):Dq P f s:=
 ⟨ah hf hn hb,λw S π us x r o g vs h1 hg h2 h3 hS h4 h5=>m9 hT La hm hf s w S π us x r o g vs h1 hg h2 h3 hS h4 (uK (h x (r,o) h5))⟩
theorem Sound.TR {P:Program} (hT:Bt P T) (La:Gz P Γ) (hm:P.follows .mixedOrders=true) {f:FuncId} {fn:Func} (hf:P.funcs[f]?=some fn) (hn:(fn.name== "runtime.NumGoroutine")=false)
  (hb:fn.body.isNone=false) (s:Spec) (h: ∀x y,s.fn x=some y->fnW T Γ s fn x (λz=>z=y)):Sound P f s:=
 CE hT La hm hf hn hb s λx y hx=>xO (h x y hx)
end
end Go.Proofs.Ytjbdmibbbpdnnaa
