/-
  Part 34 of the proof that the statement FnExactInSubgroup holds.
-/
import Derived.Test.YtjbdmibbbpdnnaaCInSubgroup32
namespace Go.Proofs.Ytjbdmibbbpdnnaa
open Go.RowKit
theorem Me {B:List (Nat×Nat×Nat)} {H:List (Nat×OB)} : ∀ {l:List AV} {K:Prop},Su B H l K-> ∀c∈l,c.cY=true
 | [],_,_,c,hc=>by cases hc
 |d::l,K,h,c,hc=>by
  simp only [Su] at h
  cases d with
  |Hz l'=>exact h.elim
  | «at»a=>
   rcases List.mem_cons.1 hc with rfl|hc
   ·rfl
   ·have h':Su B H l K:=by
     cases a with
     |own k o n=>exact h.2.2
     |_=>exact h
    exact Me h' c hc
  |Sv _ _ _=>
   rcases List.mem_cons.1 hc with rfl|hc
   ·rfl
   ·exact Me h c hc
  |agg cs=>
   rcases List.mem_cons.1 hc with rfl|hc
   ·rfl
   ·have: ∀(cs:List AC) (Q:Prop),Vr B H cs Q->Q:=by
     intro cs
     induction cs with
     |nil=>exact λQ h=>h
     |cons a cs ih=>
      intro Q h
      have h2:Vr B H cs Q:=by
       cases a with
       |own k o n=>exact h.2.2
       |_=>exact h
      exact ih Q h2
    exact Me (this cs _ h) c hc
theorem dZ: ∀(f:List Bool) (l:List AV),(∀c∈l,c.cY=true)-> ∀c∈Mu f l,c.cY=true
 | [],l,h=>by simpa [Mu] using h
 |true::f,[],h=>by simp [Mu] at h⊢
 |false::f,[],h=>by simp [Mu] at h⊢
 |true::f,a::l,h=>by
  intro c hc
  simp only [Mu,List.mem_cons] at hc
  rcases hc with rfl|hc
  ·rfl
  ·exact dZ f l (λc hc=>h c (List.mem_cons_of_mem _ hc)) c hc
 |false::f,a::l,h=>by
  intro c hc
  simp only [Mu,List.mem_cons] at hc
  rcases hc with rfl|hc
  ·exact h c (by simp)
  ·exact dZ f l (λc hc=>h c (List.mem_cons_of_mem _ hc)) c hc
theorem yH (f:AC->AC) (H:List (Nat×OB)) (l:Nat):lenOf (H.map λp=>(p.1,p.2.map f)) l=lenOf H l:=by
 unfold lenOf
 rw [Io]
 cases Ad H l with
 |none=>rfl
 |some b=>cases b<;>rfl
theorem uH (f g:AC->AC) (c:AV):(c.map f).map g=c.map λa=>g (f a):=by
 cases c<;>simp [AV.map]
theorem vU (f g:AC->AC) (c:OB):(c.map f).map g=c.map λa=>g (f a):=by
 cases c<;>simp [OB.map]
theorem sT (s:St) (f g:AC->AC):(s.Fp f).Fp g=s.Fp λa=>g (f a):=by
 simp [St.Fp,List.map_map,Function.comp_def,uH,vU]
theorem sK (f:AC->AC) (H:List (Nat×OB)) (l:Nat): ∀(B:List (Nat×Nat×Nat)),yF B (H.map λp=>(p.1,p.2.map f)) l=yF B H l
 | []=>yH f H l
 |(k,o,n)::r=>by simp only [yF];rw [sK f H l r]
theorem ur (B:List (Nat×Nat×Nat)) (s:St):(s.Fp Lg).whole B=s.whole B:=by
 unfold St.whole
 rw [sT]
 congr 1
 funext a
 cases a with
 |own l off len=>simp only [Lg,Zh,St.Fp,sK]
 |_=>rfl
theorem uo {B:List (Nat×Nat×Nat)} {s t:St} (h:s.Fp Lg=t.Fp Lg):s.whole B=t.whole B:=by rw [<-ur B s,h,ur]
theorem gO (f:AC->AC): ∀(fx:List Bool) (a b:List AV),(Nt fx a b).map (·.map f)=Nt fx (a.map (·.map f)) (b.map (·.map f))
 | [],_,_=>by simp [Nt]
 |_::_,[],_=>by simp [Nt]
 |true::_,_::_,[]=>by simp [Nt]
 |false::_,_::_,[]=>by simp [Nt]
 |true::fx,x::a,y::b=>by simp only [Nt,List.map_cons,gO f fx a b]
 |false::fx,x::a,y::b=>by simp only [Nt,List.map_cons,gO f fx a b]
theorem lk (f:AC->AC) (fx:List Bool) (a b:St):(St.mT fx a b).Fp f=St.mT fx (a.Fp f) (b.Fp f):=by
 simp only [St.mT,St.Fp,gO]
theorem lj (p:Nat->Bool): ∀(i:Nat) (l0 l1:List AV),(∀t,(l0.getD t .undef).Pe=true->p (i+t)=true->l1.getD t .undef=l0.getD t .undef)->
  Nt (Gs p i l0) l0 (Mu (Gs p i l0) l1)=l1
 |_,[],l1,_=>by simp [Gs,Mu,Nt]
 |i,a::r,[],_=>by
  simp only [Gs]
  cases (a.Pe&&p i)<;>simp [Mu,Nt]
 |i,a::r,b::s,h=>by
  have hr:=lj p (i+1) r s λt h1 h2=>by
   have:=h (t+1) (by simpa using h1) (by rw [show i+(t+1)=i+1+t by omega];exact h2)
   simpa using this
  simp only [Gs]
  cases hc:(a.Pe&&p i) with
  |false=>simp only [Mu,Nt];rw [hr]
  |true=>
   simp only [Mu,Nt]
   rw [hr]
   simp only [Bool.and_eq_true] at hc
   have:=h 0 (by simpa using hc.1) hc.2
   simp only [List.getD_cons_zero] at this
   rw [this]
theorem Yg: ∀(f:List Bool) (l:List AV),(Mu f l).length=l.length
 | [],l=>by simp [Mu]
 |true::f,[]=>by simp [Mu]
 |false::f,[]=>by simp [Mu]
 |true::f,a::l=>by simp [Mu,Yg f l]
 |false::f,a::l=>by simp [Mu,Yg f l]
theorem a9: ∀(l:List AV) {R:Type} (v:ja l R),(Oc l v).1.length=l.length
 | [],_,_=>rfl
 |c::l,_,v=>by simp [Oc,a9 l]
theorem ov (p:Nat->Bool): ∀(i:Nat) (l0 l:List AV) (t:Nat),l.length=l0.length->(l0.getD t .undef).Pe=true->p (i+t)=true->(Nt (Gs p i l0) l0 l).getD t .undef=l0.getD t .undef
 |_,[],_,t,_,h,_=>by simp [AV.Pe] at h
 |i,a::r,[],_,h,_,_=>by simp at h
 |i,a::r,b::s,0,_,h1,h2=>by
  have:(a.Pe&&p i)=true:=by
   simp only [Bool.and_eq_true]
   exact ⟨by simpa using h1,h2⟩
  simp only [Gs,this,Nt,List.getD_cons_zero]
 |i,a::r,b::s,t+1,hl,h1,h2=>by
  have hr:=ov p (i+1) r s t (by simpa using hl) (by simpa using h1) (by rw [show i+1+t=i+(t+1) by omega];exact h2)
  simp only [Gs]
  cases (a.Pe&&p i)<;>simpa only [Nt,List.getD_cons_succ] using hr
theorem cD {B:List (Nat×Nat×Nat)} {H:List (Nat×OB)} {c:AC} {K:Prop} (h:oZ B H c K):Zh B H c=c/\K:=by
 cases c with
 |own l off len=>obtain ⟨h1,h2,h3⟩:=h;exact ⟨by rw [h1,h2];rfl,h3⟩
 |_=>exact ⟨rfl,h⟩
theorem Ta {B:List (Nat×Nat×Nat)} {H:List (Nat×OB)} : ∀ {l:List AC} {K:Prop},Vr B H l K->l.map (Zh B H)=l/\K
 | [],_,h=>⟨rfl,h⟩
 |c::l,_,h=>by
  obtain ⟨h1,h2⟩:=cD h
  obtain ⟨h3,h4⟩:=Ta h2
  exact ⟨by rw [List.map_cons,h1,h3],h4⟩
theorem mq {B:List (Nat×Nat×Nat)} {H:List (Nat×OB)} {c:AV} {K:Prop} (h:xd B H c K):c.map (Zh B H)=c/\K:=by
 cases c with
 | «at»a=>obtain ⟨h1,h2⟩:=cD h;exact ⟨by rw [AV.map,h1],h2⟩
 |agg cs=>obtain ⟨h1,h2⟩:=Ta h;exact ⟨by rw [AV.map,h1],h2⟩
 |Sv _ _ _=>exact ⟨rfl,h⟩
 |Hz l=>exact h.elim
theorem aa {B:List (Nat×Nat×Nat)} {H:List (Nat×OB)} : ∀ {l:List AV} {K:Prop},Su B H l K->l.map (·.map (Zh B H))=l/\K
 | [],_,h=>⟨rfl,h⟩
 |c::l,_,h=>by
  obtain ⟨h1,h2⟩:=mq h
  obtain ⟨h3,h4⟩:=aa h2
  exact ⟨by rw [List.map_cons,h1,h3],h4⟩
theorem Hg {B:List (Nat×Nat×Nat)} {H:List (Nat×OB)} : ∀ {l:List (Nat×OB)} {K:Prop},cc B H l K->l.map (λp=>(p.1,p.2.map (Zh B H)))=l/\K
 | [],_,h=>⟨rfl,h⟩
 |(k, .var t vs)::l,_,h=>by
  obtain ⟨h1,h2⟩:=Ta h
  obtain ⟨h3,h4⟩:=Hg h2
  exact ⟨by rw [List.map_cons,h3];simp only [OB.map,h1],h4⟩
 |(k, .arr a b c d e)::l,_,h=>by
  obtain ⟨h3,h4⟩:=Hg (l:=l) h
  exact ⟨by rw [List.map_cons,h3];rfl,h4⟩
 |(k, .Cu a b c)::l,_,h=>by
  obtain ⟨h3,h4⟩:=Hg (l:=l) h
  exact ⟨by rw [List.map_cons,h3];rfl,h4⟩
 |(k, .Ai a b c d e)::l,_,h=>by
  obtain ⟨h3,h4⟩:=Hg (l:=l) h
  exact ⟨by rw [List.map_cons,h3];rfl,h4⟩
 |(k, .Nd a b)::l,_,h=>by
  obtain ⟨h3,h4⟩:=Hg (l:=l) h
  exact ⟨by rw [List.map_cons,h3];rfl,h4⟩
theorem de {B:List (Nat×Nat×Nat)} {s:St} {K:Prop} (h:qF B s K):s.whole B=s/\K:=by
 obtain ⟨h1,h2⟩:=aa h
 obtain ⟨h3,h4⟩:=Hg h2
 exact ⟨by unfold St.whole St.Fp;rw [h1,h3],h4⟩
theorem aA (live:List Nat): ∀(i:Nat) (l:List AV) (t:Nat),i+t∉live->(Fb live i l).getD t .undef= .undef
 |_,[],_,_=>rfl
 |i,v::r,0,h=>by simp [Fb];intro hn;exact absurd hn h
 |i,v::r,t+1,h=>by
  simp only [Fb,List.getD_cons_succ]
  exact aA live (i+1) r t (by rw [show i+1+t=i+(t+1) by omega];exact h)
theorem Zo: ∀(l:List Nat) (st:St) (t:Nat),st.get t= .undef->(Wd l st).get t= .undef
 | [],_,_,h=>h
 |a::r,st,t,h=>Zo r _ t (by
  show (st.tmps.map (·.map (As a))).getD t .undef= .undef
  rw [Ql (As a) rfl,show st.tmps.getD t .undef= .undef from h]
  rfl)
theorem qn (l k:Nat) (st:St) (t:Nat) (h:st.get t= .undef):(st.rename l k).get t= .undef:=by
 unfold St.rename
 split
 ·split
  ·show (st.tmps.map (·.map (Mx l k))).getD t .undef= .undef
   rw [Ql (Mx l k) rfl,show st.tmps.getD t .undef= .undef from h]
   rfl
  ·exact h
 ·exact h
theorem Wu: ∀(n i:Nat) (st:St) (t:Nat),st.get t= .undef->(Gx n i st).get t= .undef
 |0,_,_,_,h=>h
 |n+1,i,st,t,h=>by
  simp only [Gx]
  refine Wu n (i+1) _ t ?_
  split
  ·split
   ·split
    ·exact h
    ·exact qn _ _ _ t h
   ·exact h
  ·exact h
theorem qi (st:St) (d:Nat) (v:AV) (t:Nat) (Ev:t≠d) (h:st.get t= .undef):(st.put (some d) v).get t= .undef:=by rw [Ti _ _ Ev];exact h
theorem lx (k:Nat) (st:St) (t:Nat) (h:st.get t= .undef):(Tt k st).get t= .undef:=by
 unfold Tt
 split
 ·rename_i l off len hg
  split
  ·split
   ·refine qi _ _ _ _ (λe=>by subst e;rw [hg] at h;cases h) ?_
    show (st.tmps.map (·.map (As l))).getD t .undef= .undef
    rw [Ql (As l) rfl,show st.tmps.getD t .undef= .undef from h]
    rfl
   ·exact h
  ·exact h
 ·exact h
theorem Zx (live:List Nat): ∀(n i:Nat) (st:St) (t:Nat),st.get t= .undef->(Ip live n i st).get t= .undef
 |0,_,_,_,h=>h
 |n+1,i,st,t,h=>by
  simp only [Ip]
  refine Zx live n (i+1) _ t ?_
  split
  ·exact lx _ _ _ h
  ·exact h
theorem uS {live:List Nat} {st:St} {t:Nat} (h:((st.clean live).get t).Pe=true):t∈live:=by
 refine Classical.byContradiction λhn=>?_
 have:(st.clean live).get t= .undef:=by
  have key: ∀s:St,s.get t= .undef->(if live.contains Us then Gx s.tmps.length 0 s else s).get t= .undef:=by
   intro s hs
   split
   ·exact Wu _ _ s t hs
   ·exact hs
  unfold St.clean
  have CB: ∀s:St,s.get t= .undef->(if live.any (λt=>Nat.ble Qx t) then s.Ek live else s).get t= .undef:=by
   intro s hs
   split<;>exact hs
  have CC: ∀s:St,s.get t= .undef->(if live.any (λt=>Nat.ble Kn t&&Nat.blt t Us) then Ip live s.tmps.length 0 s else s).get t= .undef:=by
   intro s hs
   split
   ·exact Zx _ _ _ s t hs
   ·exact hs
  refine CB _ (key _ (CC _ (Zo _ _ t ?_)))
  exact aA live 0 st.tmps t (by simpa using hn)
 rw [this] at h
 cases h
theorem kU {c:AV} (h:c.Pe=true): ∃fr τ,∃x:τ.den,c= .at (.data fr τ x):=by
 unfold AV.Pe at h
 split at h
 ·exact ⟨_,_,_,rfl⟩
 ·cases h
theorem zt {live:Nat->List Nat} {c:Code} {t:Nat} (h:stays live c t=true):t∉writes c/\Tl live c t=true:=by
 unfold stays at h
 simpa using h
section
variable {T:Tab} {Γ:Env} {live:Nat->List Nat}
theorem Ig.keeps {c:Code} {st:St} {Q:Gc->St->Prop} (h:Ig T Γ live c st Q):Ig T Γ live c st (λe s=>Q e s/\Ep (λt=>t∉writes c/\Tl live c t=true) st s):=by
 exact wz h st _ Av.rfl'.on λt ht=>ht
def ZZ (Q:Gc->WS->Prop) (e:Gc) (s:St):Prop:= ∃w':WS,w'.st=s/\w'.OK/\Q e w'
theorem sR {c:Code} (ih: ∀(w:WS) (Q:Gc->WS->Prop),w.OK->Vv T Γ live c w Q->Ig T Γ live c w.st (ZZ Q)) {w:WS} {Q:Gc->WS->Prop} (h:Vv T Γ live (.loop c) w Q):
  Ig T Γ live (.loop c) w.st (ZZ Q):=by
 simp only [Vv,yl,dM] at h
 obtain ⟨MB,I,μ,h0,hs⟩:=de h
 have Ad: ∀(t:Nat),((w.st.clean (live (Bw c))).get t).Pe=true->stays live c t=true-> ∀v,((St.mT (Gs (stays live c) 0 (w.st.clean (live (Bw c))).tmps) (w.st.clean (live (Bw c))) (bK ((w.st.clean (live (Bw c))).mask (Gs (stays live c) 0 (w.st.clean (live (Bw c))).tmps)) v)).whole (Ra T.parts (w.st.clean (live (Bw c))).tmps)).get t=(w.st.clean (live (Bw c))).get t:=by
  intro t h1 h2 v
  have h3:=ov (stays live c) 0 (w.st.clean (live (Bw c))).tmps (bK ((w.st.clean (live (Bw c))).mask (Gs (stays live c) 0 (w.st.clean (live (Bw c))).tmps)) v).tmps t
   ((a9 _ _).trans (Yg _ _)) h1 (by simpa using h2)
  obtain ⟨fr,τ,x,hx⟩:=kU h1
  refine (Iv _ _ rfl λ_ _ _=>rfl) t fr τ x ?_|>.trans hx.symm
  exact h3.trans hx
 have JD: ∀(s1:St),(∀t,((w.st.clean (live (Bw c))).get t).Pe=true->stays live c t=true->s1.get t=(w.st.clean (live (Bw c))).get t)->s1.whole (Ra T.parts (w.st.clean (live (Bw c))).tmps)=s1-> ∀v,bL ((w.st.clean (live (Bw c))).mask (Gs (stays live c) 0 (w.st.clean (live (Bw c))).tmps)) (s1.mask (Gs (stays live c) 0 (w.st.clean (live (Bw c))).tmps))=some v->
   s1=(St.mT (Gs (stays live c) 0 (w.st.clean (live (Bw c))).tmps) (w.st.clean (live (Bw c))) (bK ((w.st.clean (live (Bw c))).mask (Gs (stays live c) 0 (w.st.clean (live (Bw c))).tmps)) v)).whole (Ra T.parts (w.st.clean (live (Bw c))).tmps):=by
  intro s1 hf hwh v hv
  have h1:=bM hv
  have h2:St.mT (Gs (stays live c) 0 (w.st.clean (live (Bw c))).tmps) (w.st.clean (live (Bw c))) (s1.mask (Gs (stays live c) 0 (w.st.clean (live (Bw c))).tmps))=s1:=by
   simp only [St.mT,St.mask]
   rw [lj (stays live c) 0 (w.st.clean (live (Bw c))).tmps s1.tmps λt h3 h4=>hf t h3 (by simpa using h4)]
  have h3:(St.mT (Gs (stays live c) 0 (w.st.clean (live (Bw c))).tmps) (w.st.clean (live (Bw c))) (bK ((w.st.clean (live (Bw c))).mask (Gs (stays live c) 0 (w.st.clean (live (Bw c))).tmps)) v)).whole (Ra T.parts (w.st.clean (live (Bw c))).tmps)=s1.whole (Ra T.parts (w.st.clean (live (Bw c))).tmps):=by
   refine uo ?_
   rw [lk,h1,<-lk,h2]
  rw [h3,hwh]
 refine ze (λv=>(St.mT (Gs (stays live c) 0 (w.st.clean (live (Bw c))).tmps) (w.st.clean (live (Bw c))) (bK ((w.st.clean (live (Bw c))).mask (Gs (stays live c) 0 (w.st.clean (live (Bw c))).tmps)) v)).whole (Ra T.parts (w.st.clean (live (Bw c))).tmps)) I μ _ h0 (JD _ (λ_ _ _=>rfl) MB _ (j5 _ (dZ _ _ (Me h)))) ?_
 intro a ha
 refine (Ig.keeps (ih ⟨[],_⟩ _ (λt b h=>by cases h) (hs a ha))).mono ?_
 intro e s hQ
 obtain ⟨⟨w',h1,h2,h3⟩,hk⟩:=hQ
 subst h1
 cases e with
 |normal=>
  obtain ⟨h4,h5⟩:=de h3
  obtain ⟨v',h6,h7,h8⟩:=An.1 h5
  refine ⟨v',JD _ (λt hd ht=>?_) h4 _ h6,h7,h8⟩
  obtain ⟨fr,τ,x,hx⟩:=kU hd
  rw [hx]
  exact cU (live (Bw c)) w'.st t fr τ x (uS hd) (hk t fr τ x (zt ht) (by rw [Ad t hd ht a];exact hx))
 |exit id=>exact ⟨w',rfl,h2,h3⟩
 |ret=>exact ⟨w',rfl,h2,h3⟩
theorem iB: ∀(c:Code) (w:WS) (Q:Gc->WS->Prop),w.OK->Vv T Γ live c w Q->Ig T Γ live c w.st (ZZ Q):=by
 intro c
 induction c with
 |skip=>intro w Q hw h;exact .skip ⟨w,rfl,hw,h⟩
 |label _=>intro w Q hw h;exact .label ⟨w,rfl,hw,h⟩
 |exit _=>intro w Q hw h;exact .exit ⟨w,rfl,hw,h⟩
 |ret=>intro w Q hw h;exact .ret ⟨w,rfl,hw,h⟩
 |region id ops draw=>
  intro w Q hw h
  exact .region ((nd hw h).mono λs ⟨w',h1,h2,h3⟩=>⟨w',h1,h2,Xy.1 h3⟩)
 |seq x y ZN ZO=>
  intro w Q hw h
  refine DI ((ZN w _ hw h).mono λe s hQ=>?_)
  obtain ⟨w',h1,h2,h3⟩:=hQ
  subst h1
  cases e with
  |normal=>exact ZO w' Q h2 h3
  |exit id=>exact ⟨w',rfl,h2,h3⟩
  |ret=>exact ⟨w',rfl,h2,h3⟩
 |cond c x y ZN ZO=>
  intro w Q hw h
  obtain ⟨fr,b,w',h1,h2,h3,h4⟩:=nJ hw h
  refine zd h1 (λhb=>?_) (λhb=>?_)
  ·subst hb;rw [<-h2];exact ZN w' Q h3 h4
  ·subst hb;rw [<-h2];exact ZO w' Q h3 h4
 |block id c ih=>
  intro w Q hw h
  refine wy ((ih w _ hw h).mono λe s hQ=>?_)
  obtain ⟨w',h1,h2,h3⟩:=hQ
  subst h1
  cases e with
  |normal=>exact ⟨w',rfl,h2,h3⟩
  |ret=>exact ⟨w',rfl,h2,h3⟩
  |exit yB=>
   simp only at h3
   simp only [o3]
   split at h3
   ·rename_i hi;rw [if_pos hi];exact ⟨w',rfl,h2,h3⟩
   ·rename_i hi;rw [if_neg hi];exact ⟨w',rfl,h2,h3⟩
 |loop c ih=>intro w Q hw h;exact sR ih h
 |_=>intro w Q hw h;exact absurd h (by simp [Vv])
theorem kq {s:Spec} {fn:Func} {P:s.res.den->Prop} {st:St} (h:KG T s fn P st): ∃fr y,eU T s fn st=some (fr,y)/\(fr||!s.fresh)=true/\P y:=by
 obtain ⟨p,h1,h2⟩:=An.1 h
 split at h2
 ·rename_i hf;exact ⟨p.1,p.2,h1,hf,h2⟩
 ·cases h2
theorem yk {s:Spec} {fn:Func} {x:s.arg.den} {P:s.res.den->Prop} (h:fnW T Γ s fn x P):AE T Γ s fn x P:=by
 unfold fnW at h
 obtain ⟨c,h1,h2⟩:=An.1 h
 refine ⟨c,h1,(iB c _ _ (λt b h=>by cases h) h2).mono λe st ⟨w,h4,h5,h6⟩=>?_⟩
 subst h4
 cases e with
 |normal=>exact ⟨λid hh=>(by cases hh),kq h6⟩
 |ret=>exact ⟨λid hh=>(by cases hh),kq h6⟩
 |exit id=>cases h6
theorem Up {st:St} {K:Prop} : ∀(vs:List AC) (cs:List (Bool×CK)),aZ st K vs cs->aY st vs cs/\K
 | [],cs,h=>⟨by simp [aY],by simpa [aZ] using h⟩
 |a::vs,[],h=>⟨by cases a<;>simp [aY],by cases a<;>simpa [aZ] using h⟩
 |a::vs,(false,c)::r,h=>by
  have h:aZ st K vs r:=by cases a<;>simpa only [aZ] using h
  obtain ⟨h1,h2⟩:=Up vs r h
  exact ⟨by cases a<;>simpa only [aY] using h1,h2⟩
 |a::vs,(true,c)::r,h=>by
  cases a with
  |own l off len=>
   simp only [aZ] at h
   split at h
   ·rename_i hl
    obtain ⟨h1,h2⟩:=Up vs r h.2
    refine ⟨?_,h2⟩
    simp only [aY,hl]
    exact ⟨h.1,h1⟩
   ·rename_i hl
    obtain ⟨h1,h2⟩:=Up vs r h.2
    refine ⟨?_,h2⟩
    simp only [aY,hl]
    exact ⟨h.1,h1⟩
   ·exact h.elim
  |_=>exact ⟨by simp [aY],by simpa [aZ] using h⟩
theorem Yk {st:St} : ∀(cs:List CK) (as:List AC) (K:CKs.den cs->List Nat->Prop),gN st cs as K-> ∃x ls,Mw st cs as=some (x,ls)/\K x ls
 | [],[],K,h=>⟨(),[],rfl,h⟩
 | [],_::_,_,h=>h.elim
 |c::r,[],K,h=>by cases c<;>exact h.elim
 |c::r,a::as,K,h=>by
  have mo:Dm (cC st c a) (λp=>gN st r as λy t=>K (p.1,y) (p.2++t))-> ∃x ls,Mw st (c::r) (a::as)=some (x,ls)/\K x ls:= λh=>by
   obtain ⟨p,h1,h2⟩:=An.1 h
   obtain ⟨y,t,h3,h4⟩:=Yk r as _ h2
   exact ⟨_,_,by simp only [Mw,h1,h3],h4⟩
  cases c with
  |Ai e te kp=>
   cases a with
   |own l off len=>
    simp only [gN] at h
    split at h
    ·rename_i hl
     split at h
     ·rename_i hc
      obtain ⟨⟨h1,h2⟩,h⟩:=h
      obtain ⟨y,t,h3,h4⟩:=Yk r as _ h
      exact ⟨_,_,by simp only [Mw,cC,hl];rw [dif_pos ⟨hc.1,hc.2,h1,h2⟩];simp only [h3];rfl,h4⟩
     ·exact h.elim
    ·exact h.elim
   |_=>exact mo h
  |_=>exact mo h
theorem fm {st:St} {n:Nat} {as:List AC} {K:Prop} : ∀(ks:List (Nat×Nat)),pO st n as ks K->o7 st n as ks/\K
 | [],h=>⟨trivial,h⟩
 |(k,j)::r,h=>by
  simp only [pO] at h
  split at h
  ·rename_i l off len ha
   split at h
   ·rename_i p hl
    split at h
    ·rename_i hc
     simp only [Bool.and_eq_true] at hc
     obtain ⟨h1,h2⟩:=fm r h.2
     refine ⟨?_,h2⟩
     simp only [o7,ha,hl]
     exact ⟨⟨Nat.eq_of_beq_eq_true hc.1,h.1,hc.2⟩,h1⟩
    ·exact h.elim
   ·exact h.elim
  ·exact h.elim
theorem bz {s:MSpec} {fn:Func} {x:Ins.den s.ins} {st:St} {cs:List AC} {P:CKs.den s.outs×IOs.den s.ins->Prop} (h:lz T s fn x st cs P):cp T s fn x st cs P:=by
 obtain ⟨l,h1,h⟩:=An.1 h
 obtain ⟨⟨as,ml⟩,h2,h⟩:=An.1 h
 obtain ⟨r,ls,h3,h⟩:=Yk _ _ _ h
 obtain ⟨o,h4,h⟩:=An.1 h
 split at h
 ·rename_i hc
  obtain ⟨h5,h6⟩:=fm _ h
  unfold cp
  simp only [h1,h2,h3,h4]
  exact ⟨hc,h5,h6⟩
 ·exact h.elim
theorem iY {s:MSpec} {fn:Func} {x:Ins.den s.ins} {st:St} {P:CKs.den s.outs×IOs.den s.ins->Prop} (h:xN T s fn x st P):AD T s fn x st P:=by
 unfold xN at h
 unfold AD
 cases hp:s.ptr with
 |none=>rw [hp] at h;exact bz h
 |some p=>
  rw [hp] at h
  simp only at h⊢
  split at h
  ·rename_i tid vs hl
   split at h
   ·rename_i hc
    simp only [Bool.and_eq_true] at hc
    obtain ⟨h1,h2⟩:=hc
    have h1:tid=p.1:=Nat.eq_of_beq_eq_true h1
    have h2:=Nat.eq_of_beq_eq_true h2
    subst h1
    obtain ⟨cs,h3,h4⟩:=An.1 h
    obtain ⟨h5,h6⟩:=Up vs s.ins h4
    exact ⟨vs,cs,hl,h2,h3,h5,bz h6⟩
   ·exact h.elim
  ·exact h.elim
theorem vd {s:MSpec} {fn:Func} {x:Ins.den s.ins} {P:CKs.den s.outs×IOs.den s.ins->Prop} (h:fnMW T Γ s fn x P):HY T Γ s fn x P:=by
 unfold fnMW at h
 split at h
 ·cases h
 rename_i hlen
 obtain ⟨c,h1,h2⟩:=An.1 h
 refine ⟨hlen,c,h1,(iB c _ _ (λt b h=>by cases h) h2).mono λe st ⟨w,h4,h5,h6⟩=>?_⟩
 subst h4
 cases e with
 |normal=>exact ⟨λid hh=>(by cases hh),iY h6⟩
 |ret=>exact ⟨λid hh=>(by cases hh),iY h6⟩
 |exit id=>cases h6
theorem Du.VL {P:Program} (hT:Bu P T) (Lb:Hc P Γ) (hm:P.follows .mixedOrders=true) {f:FuncId} {fn:Func} (hf:P.funcs[f]?=some fn) (hn:(fn.name== "runtime.NumGoroutine")=false)
  (hb:fn.body.isNone=false) (s:MSpec) (h: ∀x y,s.fn x=some y->fnMW T Γ s fn x (λz=>z=y)):Du P f s:=
 ⟨ay hf hn hb,λw S π us x r o g vs h1 hg h2 h3 hS h4 h5=>my hT Lb hm hf s w S π us x r o g vs h1 hg h2 h3 hS h4 (vd (h x (r,o) h5))⟩
theorem Sound.VL {P:Program} (hT:Bu P T) (Lb:Hc P Γ) (hm:P.follows .mixedOrders=true) {f:FuncId} {fn:Func} (hf:P.funcs[f]?=some fn) (hn:(fn.name== "runtime.NumGoroutine")=false)
  (hb:fn.body.isNone=false) (s:Spec) (h: ∀x y,s.fn x=some y->fnW T Γ s fn x (λz=>z=y)):Sound P f s:=
 DK hT Lb hm hf hn hb s λx y hx=>yk (h x y hx)
end
end Go.Proofs.Ytjbdmibbbpdnnaa
