/-
  Part 34 of the proof that the statement FnExactBestTableIndex holds.
-/
import Derived.Test.YtfolipnappekaaaGreatCBestTableIndex32
namespace Go.Proofs.YtfolipnappekaaaGreat
open Go.RowKit
theorem Nh {B:List (Nat×Nat×Nat)} {H:List (Nat×OB)} : ∀ {l:List AV} {K:Prop},Un B H l K-> ∀c∈l,c.eX=true
 | [],_,_,c,hc=>by cases hc
 |d::l,K,h,c,hc=>by
  simp only [Un] at h
  cases d with
  |Ht l'=>exact h.elim
  | «at»a=>
   rcases List.mem_cons.1 hc with rfl|hc
   ·rfl
   ·have h':Un B H l K:=by
     cases a with
     |own k o n=>exact h.2.2
     |_=>exact h
    exact Nh h' c hc
  |Uo _ _ _=>
   rcases List.mem_cons.1 hc with rfl|hc
   ·rfl
   ·exact Nh h c hc
  |agg cs=>
   rcases List.mem_cons.1 hc with rfl|hc
   ·rfl
   ·have: ∀(cs:List AC) (Q:Prop),Xz B H cs Q->Q:=by
     intro cs
     induction cs with
     |nil=>exact λQ h=>h
     |cons a cs ih=>
      intro Q h
      have h2:Xz B H cs Q:=by
       cases a with
       |own k o n=>exact h.2.2
       |_=>exact h
      exact ih Q h2
    exact Nh (this cs _ h) c hc
theorem ga: ∀(f:List Bool) (l:List AV),(∀c∈l,c.eX=true)-> ∀c∈Oa f l,c.eX=true
 | [],l,h=>by simpa [Oa] using h
 |true::f,[],h=>by simp [Oa] at h⊢
 |false::f,[],h=>by simp [Oa] at h⊢
 |true::f,a::l,h=>by
  intro c hc
  simp only [Oa,List.mem_cons] at hc
  rcases hc with rfl|hc
  ·rfl
  ·exact ga f l (λc hc=>h c (List.mem_cons_of_mem _ hc)) c hc
 |false::f,a::l,h=>by
  intro c hc
  simp only [Oa,List.mem_cons] at hc
  rcases hc with rfl|hc
  ·exact h c (by simp)
  ·exact ga f l (λc hc=>h c (List.mem_cons_of_mem _ hc)) c hc
theorem FU (f:AC->AC) (H:List (Nat×OB)) (l:Nat):lenOf (H.map λp=>(p.1,p.2.map f)) l=lenOf H l:=by
 unfold lenOf
 rw [Jf]
 cases Ad H l with
 |none=>rfl
 |some b=>cases b<;>rfl
theorem yR (f g:AC->AC) (c:AV):(c.map f).map g=c.map λa=>g (f a):=by
 cases c<;>simp [AV.map]
theorem zU (f g:AC->AC) (c:OB):(c.map f).map g=c.map λa=>g (f a):=by
 cases c<;>simp [OB.map]
theorem xa (s:St) (f g:AC->AC):(s.Gg f).Gg g=s.Gg λa=>g (f a):=by
 simp [St.Gg,List.map_map,Function.comp_def,yR,zU]
theorem wW (f:AC->AC) (H:List (Nat×OB)) (l:Nat): ∀(B:List (Nat×Nat×Nat)),FR B (H.map λp=>(p.1,p.2.map f)) l=FR B H l
 | []=>FU f H l
 |(k,o,n)::r=>by simp only [FR];rw [wW f H l r]
theorem yE (B:List (Nat×Nat×Nat)) (s:St):(s.Gg Mj).whole B=s.whole B:=by
 unfold St.whole
 rw [xa]
 congr 1
 funext a
 cases a with
 |own l off len=>simp only [Mj,aR,St.Gg,wW]
 |_=>rfl
theorem yD {B:List (Nat×Nat×Nat)} {s t:St} (h:s.Gg Mj=t.Gg Mj):s.whole B=t.whole B:=by rw [<-yE B s,h,yE]
theorem jR (f:AC->AC): ∀(fx:List Bool) (a b:List AV),(Pd fx a b).map (·.map f)=Pd fx (a.map (·.map f)) (b.map (·.map f))
 | [],_,_=>by simp [Pd]
 |_::_,[],_=>by simp [Pd]
 |true::_,_::_,[]=>by simp [Pd]
 |false::_,_::_,[]=>by simp [Pd]
 |true::fx,x::a,y::b=>by simp only [Pd,List.map_cons,jR f fx a b]
 |false::fx,x::a,y::b=>by simp only [Pd,List.map_cons,jR f fx a b]
theorem o0 (f:AC->AC) (fx:List Bool) (a b:St):(St.pX fx a b).Gg f=St.pX fx (a.Gg f) (b.Gg f):=by
 simp only [St.pX,St.Gg,jR]
theorem nZ (p:Nat->Bool): ∀(i:Nat) (l0 l1:List AV),(∀t,(l0.getD t .undef).Ql=true->p (i+t)=true->l1.getD t .undef=l0.getD t .undef)->
  Pd (Hk p i l0) l0 (Oa (Hk p i l0) l1)=l1
 |_,[],l1,_=>by simp [Hk,Oa,Pd]
 |i,a::r,[],_=>by
  simp only [Hk]
  cases (a.Ql&&p i)<;>simp [Oa,Pd]
 |i,a::r,b::s,h=>by
  have hr:=nZ p (i+1) r s λt h1 h2=>by
   have:=h (t+1) (by simpa using h1) (by rw [show i+(t+1)=i+1+t by omega];exact h2)
   simpa using this
  simp only [Hk]
  cases hc:(a.Ql&&p i) with
  |false=>simp only [Oa,Pd];rw [hr]
  |true=>
   simp only [Oa,Pd]
   rw [hr]
   simp only [Bool.and_eq_true] at hc
   have:=h 0 (by simpa using hc.1) hc.2
   simp only [List.getD_cons_zero] at this
   rw [this]
theorem al: ∀(f:List Bool) (l:List AV),(Oa f l).length=l.length
 | [],l=>by simp [Oa]
 |true::f,[]=>by simp [Oa]
 |false::f,[]=>by simp [Oa]
 |true::f,a::l=>by simp [Oa,al f l]
 |false::f,a::l=>by simp [Oa,al f l]
theorem bw: ∀(l:List AV) {R:Type} (v:lq l R),(Pn l v).1.length=l.length
 | [],_,_=>rfl
 |c::l,_,v=>by simp [Pn,bw l]
theorem rY (p:Nat->Bool): ∀(i:Nat) (l0 l:List AV) (t:Nat),l.length=l0.length->(l0.getD t .undef).Ql=true->p (i+t)=true->(Pd (Hk p i l0) l0 l).getD t .undef=l0.getD t .undef
 |_,[],_,t,_,h,_=>by simp [AV.Ql] at h
 |i,a::r,[],_,h,_,_=>by simp at h
 |i,a::r,b::s,0,_,h1,h2=>by
  have:(a.Ql&&p i)=true:=by
   simp only [Bool.and_eq_true]
   exact ⟨by simpa using h1,h2⟩
  simp only [Hk,this,Pd,List.getD_cons_zero]
 |i,a::r,b::s,t+1,hl,h1,h2=>by
  have hr:=rY p (i+1) r s t (by simpa using hl) (by simpa using h1) (by rw [show i+1+t=i+(t+1) by omega];exact h2)
  simp only [Hk]
  cases (a.Ql&&p i)<;>simpa only [Pd,List.getD_cons_succ] using hr
theorem eA {B:List (Nat×Nat×Nat)} {H:List (Nat×OB)} {c:AC} {K:Prop} (h:sE B H c K):aR B H c=c/\K:=by
 cases c with
 |own l off len=>obtain ⟨h1,h2,h3⟩:=h;exact ⟨by rw [h1,h2];rfl,h3⟩
 |_=>exact ⟨rfl,h⟩
theorem Us {B:List (Nat×Nat×Nat)} {H:List (Nat×OB)} : ∀ {l:List AC} {K:Prop},Xz B H l K->l.map (aR B H)=l/\K
 | [],_,h=>⟨rfl,h⟩
 |c::l,_,h=>by
  obtain ⟨h1,h2⟩:=eA h
  obtain ⟨h3,h4⟩:=Us h2
  exact ⟨by rw [List.map_cons,h1,h3],h4⟩
theorem pB {B:List (Nat×Nat×Nat)} {H:List (Nat×OB)} {c:AV} {K:Prop} (h:CW B H c K):c.map (aR B H)=c/\K:=by
 cases c with
 | «at»a=>obtain ⟨h1,h2⟩:=eA h;exact ⟨by rw [AV.map,h1],h2⟩
 |agg cs=>obtain ⟨h1,h2⟩:=Us h;exact ⟨by rw [AV.map,h1],h2⟩
 |Uo _ _ _=>exact ⟨rfl,h⟩
 |Ht l=>exact h.elim
theorem bx {B:List (Nat×Nat×Nat)} {H:List (Nat×OB)} : ∀ {l:List AV} {K:Prop},Un B H l K->l.map (·.map (aR B H))=l/\K
 | [],_,h=>⟨rfl,h⟩
 |c::l,_,h=>by
  obtain ⟨h1,h2⟩:=pB h
  obtain ⟨h3,h4⟩:=bx h2
  exact ⟨by rw [List.map_cons,h1,h3],h4⟩
theorem Ib {B:List (Nat×Nat×Nat)} {H:List (Nat×OB)} : ∀ {l:List (Nat×OB)} {K:Prop},dG B H l K->l.map (λp=>(p.1,p.2.map (aR B H)))=l/\K
 | [],_,h=>⟨rfl,h⟩
 |(k, .var t vs)::l,_,h=>by
  obtain ⟨h1,h2⟩:=Us h
  obtain ⟨h3,h4⟩:=Ib h2
  exact ⟨by rw [List.map_cons,h3];simp only [OB.map,h1],h4⟩
 |(k, .arr a b c d e)::l,_,h=>by
  obtain ⟨h3,h4⟩:=Ib (l:=l) h
  exact ⟨by rw [List.map_cons,h3];rfl,h4⟩
 |(k, .Cz a b c)::l,_,h=>by
  obtain ⟨h3,h4⟩:=Ib (l:=l) h
  exact ⟨by rw [List.map_cons,h3];rfl,h4⟩
 |(k, .Ai a b c d e)::l,_,h=>by
  obtain ⟨h3,h4⟩:=Ib (l:=l) h
  exact ⟨by rw [List.map_cons,h3];rfl,h4⟩
 |(k, .Ol a b)::l,_,h=>by
  obtain ⟨h3,h4⟩:=Ib (l:=l) h
  exact ⟨by rw [List.map_cons,h3];rfl,h4⟩
theorem fc {B:List (Nat×Nat×Nat)} {s:St} {K:Prop} (h:uD B s K):s.whole B=s/\K:=by
 obtain ⟨h1,h2⟩:=bx h
 obtain ⟨h3,h4⟩:=Ib h2
 exact ⟨by unfold St.whole St.Gg;rw [h1,h3],h4⟩
theorem bU (live:List Nat): ∀(i:Nat) (l:List AV) (t:Nat),i+t∉live->(Fu live i l).getD t .undef= .undef
 |_,[],_,_=>rfl
 |i,v::r,0,h=>by simp [Fu];intro hn;exact absurd hn h
 |i,v::r,t+1,h=>by
  simp only [Fu,List.getD_cons_succ]
  exact bU live (i+1) r t (by rw [show i+1+t=i+(t+1) by omega];exact h)
theorem bd: ∀(l:List Nat) (st:St) (t:Nat),st.get t= .undef->(Yl l st).get t= .undef
 | [],_,_,h=>h
 |a::r,st,t,h=>bd r _ t (by
  show (st.tmps.map (·.map (Ay a))).getD t .undef= .undef
  rw [Nx (Ay a) rfl,show st.tmps.getD t .undef= .undef from h]
  rfl)
theorem uh (l k:Nat) (st:St) (t:Nat) (h:st.get t= .undef):(st.rename l k).get t= .undef:=by
 unfold St.rename
 split
 ·split
  ·show (st.tmps.map (·.map (Oc l k))).getD t .undef= .undef
   rw [Nx (Oc l k) rfl,show st.tmps.getD t .undef= .undef from h]
   rfl
  ·exact h
 ·exact h
theorem Za: ∀(n i:Nat) (st:St) (t:Nat),st.get t= .undef->(Hq n i st).get t= .undef
 |0,_,_,_,h=>h
 |n+1,i,st,t,h=>by
  simp only [Hq]
  refine Za n (i+1) _ t ?_
  split
  ·split
   ·split
    ·exact h
    ·exact uh _ _ _ t h
   ·exact h
  ·exact h
theorem ud (st:St) (d:Nat) (v:AV) (t:Nat) (Ex:t≠d) (h:st.get t= .undef):(st.put (some d) v).get t= .undef:=by rw [Vb _ _ Ex];exact h
theorem oc (k:Nat) (st:St) (t:Nat) (h:st.get t= .undef):(Vm k st).get t= .undef:=by
 unfold Vm
 split
 ·rename_i l off len hg
  split
  ·split
   ·refine ud _ _ _ _ (λe=>by subst e;rw [hg] at h;cases h) ?_
    show (st.tmps.map (·.map (Ay l))).getD t .undef= .undef
    rw [Nx (Ay l) rfl,show st.tmps.getD t .undef= .undef from h]
    rfl
   ·exact h
  ·exact h
 ·exact h
theorem gi (c:Nat) (st:St) (t:Nat) (h:st.get t= .undef):(Kd c st).get t= .undef:=by
 unfold Kd
 split
 ·split
  ·rename_i l off len hc
   split
   ·split
    ·split
     ·show (st.tmps.map (·.map (Ay l))).getD t .undef= .undef
      rw [Nx (Ay l) rfl,show st.tmps.getD t .undef= .undef from h]
      rfl
     ·exact h
    ·exact h
   ·exact h
  ·exact h
 ·exact h
theorem Wv (live:List Nat): ∀(n i:Nat) (st:St) (t:Nat),st.get t= .undef->(Jt live n i st).get t= .undef
 |0,_,_,_,h=>h
 |n+1,i,st,t,h=>by
  simp only [Jt]
  refine Wv live n (i+1) _ t ?_
  split
  ·exact gi _ _ _ h
  ·exact h
theorem bm (live:List Nat): ∀(n i:Nat) (st:St) (t:Nat),st.get t= .undef->(Jh live n i st).get t= .undef
 |0,_,st,t,h=>Wv live 16 0 st t h
 |n+1,i,st,t,h=>by
  simp only [Jh]
  refine bm live n (i+1) _ t ?_
  split
  ·exact oc _ _ _ h
  ·exact h
theorem z9 {live:List Nat} {st:St} {t:Nat} (h:((st.clean live).get t).Ql=true):t∈live:=by
 refine Classical.byContradiction λhn=>?_
 have:(st.clean live).get t= .undef:=by
  have key: ∀s:St,s.get t= .undef->(if live.contains Ww then Hq s.tmps.length 0 s else s).get t= .undef:=by
   intro s hs
   split
   ·exact Za _ _ s t hs
   ·exact hs
  unfold St.clean
  have LJ: ∀s:St,s.get t= .undef->(if live.any (λt=>Nat.ble So t) then s.Ek live else s).get t= .undef:=by
   intro s hs
   split<;>exact hs
  have LK: ∀s:St,s.get t= .undef->(if live.any (λt=>Nat.ble Lo t&&Nat.blt t Ww) then Jh live s.tmps.length 0 s else s).get t= .undef:=by
   intro s hs
   split
   ·exact bm _ _ _ s t hs
   ·exact hs
  refine LJ _ (key _ (LK _ (bd _ _ t ?_)))
  exact bU live 0 st.tmps t (by simpa using hn)
 rw [this] at h
 cases h
theorem nH {c:AV} (h:c.Ql=true): ∃fr τ,∃x:τ.den,c= .at (.data fr τ x):=by
 unfold AV.Ql at h
 split at h
 ·exact ⟨_,_,_,rfl⟩
 ·cases h
theorem HP {live:Nat->List Nat} {c:Code} {t:Nat} (h:stays live c t=true):t∉writes c/\Vf live c t=true:=by
 unfold stays at h
 simpa using h
section
variable {T:Tab} {Γ:Env} {live:Nat->List Nat}
theorem Iv.keeps {c:Code} {st:St} {Q:Gr->St->Prop} (h:Iv T Γ live c st Q):Iv T Γ live c st (λe s=>Q e s/\Eu (λt=>t∉writes c/\Vf live c t=true) st s):=by
 exact AZ h st _ Aw.rfl'.on λt ht=>ht
def wsQ (Q:Gr->WS->Prop) (e:Gr) (s:St):Prop:= ∃w':WS,w'.st=s/\w'.OK/\Q e w'
theorem x8 {c:Code} (ih: ∀(w:WS) (Q:Gr->WS->Prop),w.OK->Ye T Γ live c w Q->Iv T Γ live c w.st (wsQ Q)) {w:WS} {Q:Gr->WS->Prop} (h:Ye T Γ live (.loop c) w Q):
  Iv T Γ live (.loop c) w.st (wsQ Q):=by
 simp only [Ye,FA,fM] at h
 obtain ⟨WR,I,μ,h0,hs⟩:=fc h
 have Ad: ∀(t:Nat),((w.st.clean (live (Cd c))).get t).Ql=true->stays live c t=true-> ∀v,((St.pX (Hk (stays live c) 0 (w.st.clean (live (Cd c))).tmps) (w.st.clean (live (Cd c))) (dc ((w.st.clean (live (Cd c))).mask (Hk (stays live c) 0 (w.st.clean (live (Cd c))).tmps)) v)).whole (Sp T.parts (w.st.clean (live (Cd c))).tmps)).get t=(w.st.clean (live (Cd c))).get t:=by
  intro t h1 h2 v
  have h3:=rY (stays live c) 0 (w.st.clean (live (Cd c))).tmps (dc ((w.st.clean (live (Cd c))).mask (Hk (stays live c) 0 (w.st.clean (live (Cd c))).tmps)) v).tmps t
   ((bw _ _).trans (al _ _)) h1 (by simpa using h2)
  obtain ⟨fr,τ,x,hx⟩:=nH h1
  refine (Jp _ _ rfl λ_ _ _=>rfl) t fr τ x ?_|>.trans hx.symm
  exact h3.trans hx
 have TG: ∀(s1:St),(∀t,((w.st.clean (live (Cd c))).get t).Ql=true->stays live c t=true->s1.get t=(w.st.clean (live (Cd c))).get t)->s1.whole (Sp T.parts (w.st.clean (live (Cd c))).tmps)=s1-> ∀v,dd ((w.st.clean (live (Cd c))).mask (Hk (stays live c) 0 (w.st.clean (live (Cd c))).tmps)) (s1.mask (Hk (stays live c) 0 (w.st.clean (live (Cd c))).tmps))=some v->
   s1=(St.pX (Hk (stays live c) 0 (w.st.clean (live (Cd c))).tmps) (w.st.clean (live (Cd c))) (dc ((w.st.clean (live (Cd c))).mask (Hk (stays live c) 0 (w.st.clean (live (Cd c))).tmps)) v)).whole (Sp T.parts (w.st.clean (live (Cd c))).tmps):=by
  intro s1 hf hwh v hv
  have h1:=de hv
  have h2:St.pX (Hk (stays live c) 0 (w.st.clean (live (Cd c))).tmps) (w.st.clean (live (Cd c))) (s1.mask (Hk (stays live c) 0 (w.st.clean (live (Cd c))).tmps))=s1:=by
   simp only [St.pX,St.mask]
   rw [nZ (stays live c) 0 (w.st.clean (live (Cd c))).tmps s1.tmps λt h3 h4=>hf t h3 (by simpa using h4)]
  have h3:(St.pX (Hk (stays live c) 0 (w.st.clean (live (Cd c))).tmps) (w.st.clean (live (Cd c))) (dc ((w.st.clean (live (Cd c))).mask (Hk (stays live c) 0 (w.st.clean (live (Cd c))).tmps)) v)).whole (Sp T.parts (w.st.clean (live (Cd c))).tmps)=s1.whole (Sp T.parts (w.st.clean (live (Cd c))).tmps):=by
   refine yD ?_
   rw [o0,h1,<-o0,h2]
  rw [h3,hwh]
 refine GZ (λv=>(St.pX (Hk (stays live c) 0 (w.st.clean (live (Cd c))).tmps) (w.st.clean (live (Cd c))) (dc ((w.st.clean (live (Cd c))).mask (Hk (stays live c) 0 (w.st.clean (live (Cd c))).tmps)) v)).whole (Sp T.parts (w.st.clean (live (Cd c))).tmps)) I μ _ h0 (TG _ (λ_ _ _=>rfl) WR _ (lh _ (ga _ _ (Nh h)))) ?_
 intro a ha
 refine (Iv.keeps (ih ⟨[],_⟩ _ (λt b h=>by cases h) (hs a ha))).mono ?_
 intro e s hQ
 obtain ⟨⟨w',h1,h2,h3⟩,hk⟩:=hQ
 subst h1
 cases e with
 |normal=>
  obtain ⟨h4,h5⟩:=fc h3
  obtain ⟨v',h6,h7,h8⟩:=As.1 h5
  refine ⟨v',TG _ (λt hd ht=>?_) h4 _ h6,h7,h8⟩
  obtain ⟨fr,τ,x,hx⟩:=nH hd
  rw [hx]
  exact eR (live (Cd c)) w'.st t fr τ x (z9 hd) (hk t fr τ x (HP ht) (by rw [Ad t hd ht a];exact hx))
 |exit id=>exact ⟨w',rfl,h2,h3⟩
 |ret=>exact ⟨w',rfl,h2,h3⟩
theorem kH: ∀(c:Code) (w:WS) (Q:Gr->WS->Prop),w.OK->Ye T Γ live c w Q->Iv T Γ live c w.st (wsQ Q):=by
 intro c
 induction c with
 |skip=>intro w Q hw h;exact .skip ⟨w,rfl,hw,h⟩
 |label _=>intro w Q hw h;exact .label ⟨w,rfl,hw,h⟩
 |exit _=>intro w Q hw h;exact .exit ⟨w,rfl,hw,h⟩
 |ret=>intro w Q hw h;exact .ret ⟨w,rfl,hw,h⟩
 |region id ops draw=>
  intro w Q hw h
  have hw':WS.OK {w with st:=w.st.gQ ops} := λt b ht=>by
   obtain ⟨fr,e⟩:=hw t b ht
   exact ⟨fr,eS ops w.st t fr .bool b e⟩
  exact .region ((qi hw' h).mono λs ⟨w',h1,h2,h3⟩=>⟨w',h1,h2,aa.1 h3⟩)
 |seq x y ihx ihy=>
  intro w Q hw h
  refine MW ((ihx w _ hw h).mono λe s hQ=>?_)
  obtain ⟨w',h1,h2,h3⟩:=hQ
  subst h1
  cases e with
  |normal=>exact ihy w' Q h2 h3
  |exit id=>exact ⟨w',rfl,h2,h3⟩
  |ret=>exact ⟨w',rfl,h2,h3⟩
 |cond c x y ihx ihy=>
  intro w Q hw h
  obtain ⟨fr,b,w',h1,h2,h3,h4⟩:=r6 hw h
  refine GY h1 (λhb=>?_) (λhb=>?_)
  ·subst hb;rw [<-h2];exact ihx w' Q h3 h4
  ·subst hb;rw [<-h2];exact ihy w' Q h3 h4
 |block id c ih=>
  intro w Q hw h
  refine AY ((ih w _ hw h).mono λe s hQ=>?_)
  obtain ⟨w',h1,h2,h3⟩:=hQ
  subst h1
  cases e with
  |normal=>exact ⟨w',rfl,h2,h3⟩
  |ret=>exact ⟨w',rfl,h2,h3⟩
  |exit FO=>
   simp only at h3
   simp only [rG]
   split at h3
   ·rename_i hi;rw [if_pos hi];exact ⟨w',rfl,h2,h3⟩
   ·rename_i hi;rw [if_neg hi];exact ⟨w',rfl,h2,h3⟩
 |loop c ih=>intro w Q hw h;exact x8 ih h
 |_=>intro w Q hw h;exact absurd h (by simp [Ye])
theorem mU {s:Spec} {fn:Func} {P:s.res.den->Prop} {st:St} (h:UQ T s fn P st): ∃fr y,gZ T s fn st=some (fr,y)/\(fr||!s.fresh)=true/\P y:=by
 obtain ⟨p,h1,h2⟩:=As.1 h
 split at h2
 ·rename_i hf;exact ⟨p.1,p.2,h1,hf,h2⟩
 ·cases h2
theorem EZ {s:Spec} {fn:Func} {x:s.arg.den} {P:s.res.den->Prop} (h:fnW T Γ s fn x P):JB T Γ s fn x P:=by
 unfold fnW at h
 obtain ⟨c,h1,h2⟩:=As.1 h
 refine ⟨c,h1,(kH c _ _ (λt b h=>by cases h) h2).mono λe st ⟨w,h4,h5,h6⟩=>?_⟩
 subst h4
 cases e with
 |normal=>exact ⟨λid hh=>(by cases hh),mU h6⟩
 |ret=>exact ⟨λid hh=>(by cases hh),mU h6⟩
 |exit id=>cases h6
theorem Wr {st:St} {K:Prop} : ∀(vs:List AC) (cs:List (Bool×CK)),cz st K vs cs->cy st vs cs/\K
 | [],cs,h=>⟨by simp [cy],by simpa [cz] using h⟩
 |a::vs,[],h=>⟨by cases a<;>simp [cy],by cases a<;>simpa [cz] using h⟩
 |a::vs,(false,c)::r,h=>by
  have h:cz st K vs r:=by cases a<;>simpa only [cz] using h
  obtain ⟨h1,h2⟩:=Wr vs r h
  exact ⟨by cases a<;>simpa only [cy] using h1,h2⟩
 |a::vs,(true,c)::r,h=>by
  cases a with
  |own l off len=>
   simp only [cz] at h
   split at h
   ·rename_i hl
    obtain ⟨h1,h2⟩:=Wr vs r h.2
    refine ⟨?_,h2⟩
    simp only [cy,hl]
    exact ⟨h.1,h1⟩
   ·rename_i hl
    obtain ⟨h1,h2⟩:=Wr vs r h.2
    refine ⟨?_,h2⟩
    simp only [cy,hl]
    exact ⟨h.1,h1⟩
   ·exact h.elim
  |_=>exact ⟨by simp [cy],by simpa [cz] using h⟩
theorem ar {st:St} : ∀(cs:List CK) (as:List AC) (K:CKs.den cs->List Nat->Prop),jQ st cs as K-> ∃x ls,Ob st cs as=some (x,ls)/\K x ls
 | [],[],K,h=>⟨(),[],rfl,h⟩
 | [],_::_,_,h=>h.elim
 |c::r,[],K,h=>by cases c<;>exact h.elim
 |c::r,a::as,K,h=>by
  have py:Dw (er st c a) (λp=>jQ st r as λy t=>K (p.1,y) (p.2++t))-> ∃x ls,Ob st (c::r) (a::as)=some (x,ls)/\K x ls:= λh=>by
   obtain ⟨p,h1,h2⟩:=As.1 h
   obtain ⟨y,t,h3,h4⟩:=ar r as _ h2
   exact ⟨_,_,by simp only [Ob,h1,h3],h4⟩
  cases c with
  |Ai e te kp=>
   cases a with
   |own l off len=>
    simp only [jQ] at h
    split at h
    ·rename_i hl
     split at h
     ·rename_i hc
      obtain ⟨⟨h1,h2⟩,h⟩:=h
      obtain ⟨y,t,h3,h4⟩:=ar r as _ h
      exact ⟨_,_,by simp only [Ob,er,hl];rw [dif_pos ⟨hc.1,hc.2,h1,h2⟩];simp only [h3];rfl,h4⟩
     ·exact h.elim
    ·exact h.elim
   |_=>exact py h
  |_=>exact py h
theorem iw {st:St} {n:Nat} {as:List AC} {K:Prop} : ∀(ks:List (Nat×Nat)),tF st n as ks K->rM st n as ks/\K
 | [],h=>⟨trivial,h⟩
 |(k,j)::r,h=>by
  simp only [tF] at h
  split at h
  ·rename_i l off len ha
   split at h
   ·rename_i p hl
    split at h
    ·rename_i hc
     simp only [Bool.and_eq_true] at hc
     obtain ⟨h1,h2⟩:=iw r h.2
     refine ⟨?_,h2⟩
     simp only [rM,ha,hl]
     exact ⟨⟨Nat.eq_of_beq_eq_true hc.1,h.1,hc.2⟩,h1⟩
    ·exact h.elim
   ·exact h.elim
  ·exact h.elim
theorem cU {s:MSpec} {fn:Func} {x:Ins.den s.ins} {st:St} {cs:List AC} {P:CKs.den s.outs×IOs.den s.ins->Prop} (h:oh T s fn x st cs P):dS T s fn x st cs P:=by
 obtain ⟨l,h1,h⟩:=As.1 h
 obtain ⟨⟨as,ml⟩,h2,h⟩:=As.1 h
 obtain ⟨r,ls,h3,h⟩:=ar _ _ _ h
 obtain ⟨o,h4,h⟩:=As.1 h
 split at h
 ·rename_i hc
  obtain ⟨h5,h6⟩:=iw _ h
  unfold dS
  simp only [h1,h2,h3,h4]
  exact ⟨hc,h5,h6⟩
 ·exact h.elim
theorem lb {s:MSpec} {fn:Func} {x:Ins.den s.ins} {st:St} {P:CKs.den s.outs×IOs.den s.ins->Prop} (h:EC T s fn x st P):JA T s fn x st P:=by
 unfold EC at h
 unfold JA
 cases hp:s.ptr with
 |none=>rw [hp] at h;exact cU h
 |some p=>
  rw [hp] at h
  simp only at h⊢
  split at h
  ·rename_i tid vs hl
   split at h
   ·rename_i hc
    simp only [Bool.and_eq_true] at hc
    obtain ⟨h1,h2⟩:=hc
    have h1:tid=p.1:=Nat.eq_of_beq_eq_true h1
    have h2:=Nat.eq_of_beq_eq_true h2
    subst h1
    obtain ⟨cs,h3,h4⟩:=As.1 h
    obtain ⟨h5,h6⟩:=Wr vs s.ins h4
    exact ⟨vs,cs,hl,h2,h3,h5,cU h6⟩
   ·exact h.elim
  ·exact h.elim
theorem zi {s:MSpec} {fn:Func} {x:Ins.den s.ins} {P:CKs.den s.outs×IOs.den s.ins->Prop} (h:fnMW T Γ s fn x P):RZ T Γ s fn x P:=by
 unfold fnMW at h
 split at h
 ·cases h
 rename_i hlen
 obtain ⟨c,h1,h2⟩:=As.1 h
 refine ⟨hlen,c,h1,(kH c _ _ (λt b h=>by cases h) h2).mono λe st ⟨w,h4,h5,h6⟩=>?_⟩
 subst h4
 cases e with
 |normal=>exact ⟨λid hh=>(by cases hh),lb h6⟩
 |ret=>exact ⟨λid hh=>(by cases hh),lb h6⟩
 |exit id=>cases h6
theorem Bf.ofW {P:Program} (hT:Bz P T) (Mg:Ia P Γ) (hm:P.follows .mixedOrders=true) {f:FuncId} {fn:Func} (hf:P.funcs[f]?=some fn) (hn:(fn.name== "runtime.NumGoroutine")=false)
  (hb:fn.body.isNone=false) (s:MSpec) (h: ∀x y,s.fn x=some y->fnMW T Γ s fn x (λz=>z=y)):Bf P f s:=
 ⟨bR hf hn hb,λw S π us x r o g vs h1 hg h2 h3 hS h4 h5=>pG hT Mg hm hf s w S π us x r o g vs h1 hg h2 h3 hS h4 (zi (h x (r,o) h5))⟩
theorem Sound.ofW {P:Program} (hT:Bz P T) (Mg:Ia P Γ) (hm:P.follows .mixedOrders=true) {f:FuncId} {fn:Func} (hf:P.funcs[f]?=some fn) (hn:(fn.name== "runtime.NumGoroutine")=false)
  (hb:fn.body.isNone=false) (s:Spec) (h: ∀x y,s.fn x=some y->fnW T Γ s fn x (λz=>z=y)):Sound P f s:=
 MY hT Mg hm hf hn hb s λx y hx=>EZ (h x y hx)
end
end Go.Proofs.YtfolipnappekaaaGreat
