/-
  Part 34 of the proof that the statement FnExactSolveTwoPhase holds.
-/
import Derived.Test.YtjbdmibbbpdnnaaCSolveTwoPhase32
namespace Go.Proofs.Ytjbdmibbbpdnnaa
open Go.RowKit
theorem Oi {B:List (Nat×Nat×Nat)} {H:List (Nat×OB)} : ∀ {l:List AV} {K:Prop},Vm B H l K-> ∀c∈l,c.fG=true
 | [],_,_,c,hc=>by cases hc
 |d::l,K,h,c,hc=>by
  simp only [Vm] at h
  cases d with
  |Jq l'=>exact h.elim
  | «at»a=>
   rcases List.mem_cons.1 hc with rfl|hc
   ·rfl
   ·have h':Vm B H l K:=by
     cases a with
     |own k o n=>exact h.2.2
     |_=>exact h
    exact Oi h' c hc
  |Vn _ _ _=>
   rcases List.mem_cons.1 hc with rfl|hc
   ·rfl
   ·exact Oi h c hc
  |agg cs=>
   rcases List.mem_cons.1 hc with rfl|hc
   ·rfl
   ·have: ∀(cs:List AC) (Q:Prop),Yz B H cs Q->Q:=by
     intro cs
     induction cs with
     |nil=>exact λQ h=>h
     |cons a cs ih=>
      intro Q h
      have h2:Yz B H cs Q:=by
       cases a with
       |own k o n=>exact h.2.2
       |_=>exact h
      exact ih Q h2
    exact Oi (this cs _ h) c hc
theorem gM: ∀(f:List Bool) (l:List AV),(∀c∈l,c.fG=true)-> ∀c∈Pe f l,c.fG=true
 | [],l,h=>by simpa [Pe] using h
 |true::f,[],h=>by simp [Pe] at h⊢
 |false::f,[],h=>by simp [Pe] at h⊢
 |true::f,a::l,h=>by
  intro c hc
  simp only [Pe,List.mem_cons] at hc
  rcases hc with rfl|hc
  ·rfl
  ·exact gM f l (λc hc=>h c (List.mem_cons_of_mem _ hc)) c hc
 |false::f,a::l,h=>by
  intro c hc
  simp only [Pe,List.mem_cons] at hc
  rcases hc with rfl|hc
  ·exact h c (by simp)
  ·exact gM f l (λc hc=>h c (List.mem_cons_of_mem _ hc)) c hc
theorem GY (f:AC->AC) (H:List (Nat×OB)) (l:Nat):lenOf (H.map λp=>(p.1,p.2.map f)) l=lenOf H l:=by
 unfold lenOf
 rw [Kb]
 cases Ag H l with
 |none=>rfl
 |some b=>cases b<;>rfl
theorem zf (f g:AC->AC) (c:AV):(c.map f).map g=c.map λa=>g (f a):=by
 cases c<;>simp [AV.map]
theorem AL (f g:AC->AC) (c:OB):(c.map f).map g=c.map λa=>g (f a):=by
 cases c<;>simp [OB.map]
theorem xr (s:St) (f g:AC->AC):(s.Gs f).Gs g=s.Gs λa=>g (f a):=by
 simp [St.Gs,List.map_map,Function.comp_def,zf,AL]
theorem xd (f:AC->AC) (H:List (Nat×OB)) (l:Nat): ∀(B:List (Nat×Nat×Nat)),GW B (H.map λp=>(p.1,p.2.map f)) l=GW B H l
 | []=>GY f H l
 |(k,o,n)::r=>by simp only [GW];rw [xd f H l r]
theorem yS (B:List (Nat×Nat×Nat)) (s:St):(s.Gs Nh).whole B=s.whole B:=by
 unfold St.whole
 rw [xr]
 congr 1
 funext a
 cases a with
 |own l off len=>simp only [Nh,bD,St.Gs,xd]
 |_=>rfl
theorem yQ {B:List (Nat×Nat×Nat)} {s t:St} (h:s.Gs Nh=t.Gs Nh):s.whole B=t.whole B:=by rw [<-yS B s,h,yS]
theorem kA (f:AC->AC): ∀(fx:List Bool) (a b:List AV),(Qi fx a b).map (·.map f)=Qi fx (a.map (·.map f)) (b.map (·.map f))
 | [],_,_=>by simp [Qi]
 |_::_,[],_=>by simp [Qi]
 |true::_,_::_,[]=>by simp [Qi]
 |false::_,_::_,[]=>by simp [Qi]
 |true::fx,x::a,y::b=>by simp only [Qi,List.map_cons,kA f fx a b]
 |false::fx,x::a,y::b=>by simp only [Qi,List.map_cons,kA f fx a b]
theorem oF (f:AC->AC) (fx:List Bool) (a b:St):(St.ql fx a b).Gs f=St.ql fx (a.Gs f) (b.Gs f):=by
 simp only [St.ql,St.Gs,kA]
theorem oE (p:Nat->Bool): ∀(i:Nat) (l0 l1:List AV),(∀t,(l0.getD t .undef).Rp=true->p (i+t)=true->l1.getD t .undef=l0.getD t .undef)->
  Qi (Ia p i l0) l0 (Pe (Ia p i l0) l1)=l1
 |_,[],l1,_=>by simp [Ia,Pe,Qi]
 |i,a::r,[],_=>by
  simp only [Ia]
  cases (a.Rp&&p i)<;>simp [Pe,Qi]
 |i,a::r,b::s,h=>by
  have hr:=oE p (i+1) r s λt h1 h2=>by
   have:=h (t+1) (by simpa using h1) (by rw [show i+(t+1)=i+1+t by omega];exact h2)
   simpa using this
  simp only [Ia]
  cases hc:(a.Rp&&p i) with
  |false=>simp only [Pe,Qi];rw [hr]
  |true=>
   simp only [Pe,Qi]
   rw [hr]
   simp only [Bool.and_eq_true] at hc
   have:=h 0 (by simpa using hc.1) hc.2
   simp only [List.getD_cons_zero] at this
   rw [this]
theorem aU: ∀(f:List Bool) (l:List AV),(Pe f l).length=l.length
 | [],l=>by simp [Pe]
 |true::f,[]=>by simp [Pe]
 |false::f,[]=>by simp [Pe]
 |true::f,a::l=>by simp [Pe,aU f l]
 |false::f,a::l=>by simp [Pe,aU f l]
theorem c7: ∀(l:List AV) {R:Type} (v:m5 l R),(Qr l v).1.length=l.length
 | [],_,_=>rfl
 |c::l,_,v=>by simp [Qr,c7 l]
theorem rZ (p:Nat->Bool): ∀(i:Nat) (l0 l:List AV) (t:Nat),l.length=l0.length->(l0.getD t .undef).Rp=true->p (i+t)=true->(Qi (Ia p i l0) l0 l).getD t .undef=l0.getD t .undef
 |_,[],_,t,_,h,_=>by simp [AV.Rp] at h
 |i,a::r,[],_,h,_,_=>by simp at h
 |i,a::r,b::s,0,_,h1,h2=>by
  have:(a.Rp&&p i)=true:=by
   simp only [Bool.and_eq_true]
   exact ⟨by simpa using h1,h2⟩
  simp only [Ia,this,Qi,List.getD_cons_zero]
 |i,a::r,b::s,t+1,hl,h1,h2=>by
  have hr:=rZ p (i+1) r s t (by simpa using hl) (by simpa using h1) (by rw [show i+1+t=i+(t+1) by omega];exact h2)
  simp only [Ia]
  cases (a.Rp&&p i)<;>simpa only [Qi,List.getD_cons_succ] using hr
theorem fa {B:List (Nat×Nat×Nat)} {H:List (Nat×OB)} {c:AC} {K:Prop} (h:sH B H c K):bD B H c=c/\K:=by
 cases c with
 |own l off len=>obtain ⟨h1,h2,h3⟩:=h;exact ⟨by rw [h1,h2];rfl,h3⟩
 |_=>exact ⟨rfl,h⟩
theorem Vr {B:List (Nat×Nat×Nat)} {H:List (Nat×OB)} : ∀ {l:List AC} {K:Prop},Yz B H l K->l.map (bD B H)=l/\K
 | [],_,h=>⟨rfl,h⟩
 |c::l,_,h=>by
  obtain ⟨h1,h2⟩:=fa h
  obtain ⟨h3,h4⟩:=Vr h2
  exact ⟨by rw [List.map_cons,h1,h3],h4⟩
theorem pQ {B:List (Nat×Nat×Nat)} {H:List (Nat×OB)} {c:AV} {K:Prop} (h:DF B H c K):c.map (bD B H)=c/\K:=by
 cases c with
 | «at»a=>obtain ⟨h1,h2⟩:=fa h;exact ⟨by rw [AV.map,h1],h2⟩
 |agg cs=>obtain ⟨h1,h2⟩:=Vr h;exact ⟨by rw [AV.map,h1],h2⟩
 |Vn _ _ _=>exact ⟨rfl,h⟩
 |Jq l=>exact h.elim
theorem c8 {B:List (Nat×Nat×Nat)} {H:List (Nat×OB)} : ∀ {l:List AV} {K:Prop},Vm B H l K->l.map (·.map (bD B H))=l/\K
 | [],_,h=>⟨rfl,h⟩
 |c::l,_,h=>by
  obtain ⟨h1,h2⟩:=pQ h
  obtain ⟨h3,h4⟩:=c8 h2
  exact ⟨by rw [List.map_cons,h1,h3],h4⟩
theorem Iu {B:List (Nat×Nat×Nat)} {H:List (Nat×OB)} : ∀ {l:List (Nat×OB)} {K:Prop},eC B H l K->l.map (λp=>(p.1,p.2.map (bD B H)))=l/\K
 | [],_,h=>⟨rfl,h⟩
 |(k, .var t vs)::l,_,h=>by
  obtain ⟨h1,h2⟩:=Vr h
  obtain ⟨h3,h4⟩:=Iu h2
  exact ⟨by rw [List.map_cons,h3];simp only [OB.map,h1],h4⟩
 |(k, .arr a b c d e)::l,_,h=>by
  obtain ⟨h3,h4⟩:=Iu (l:=l) h
  exact ⟨by rw [List.map_cons,h3];rfl,h4⟩
 |(k, .Dl a b c)::l,_,h=>by
  obtain ⟨h3,h4⟩:=Iu (l:=l) h
  exact ⟨by rw [List.map_cons,h3];rfl,h4⟩
 |(k, .Ao a b c d e)::l,_,h=>by
  obtain ⟨h3,h4⟩:=Iu (l:=l) h
  exact ⟨by rw [List.map_cons,h3];rfl,h4⟩
 |(k, .Pp a b)::l,_,h=>by
  obtain ⟨h3,h4⟩:=Iu (l:=l) h
  exact ⟨by rw [List.map_cons,h3];rfl,h4⟩
theorem fM {B:List (Nat×Nat×Nat)} {s:St} {K:Prop} (h:uR B s K):s.whole B=s/\K:=by
 obtain ⟨h1,h2⟩:=c8 h
 obtain ⟨h3,h4⟩:=Iu h2
 exact ⟨by unfold St.whole St.Gs;rw [h1,h3],h4⟩
theorem cC (live:List Nat): ∀(i:Nat) (l:List AV) (t:Nat),i+t∉live->(Gg live i l).getD t .undef= .undef
 |_,[],_,_=>rfl
 |i,v::r,0,h=>by simp [Gg];intro hn;exact absurd hn h
 |i,v::r,t+1,h=>by
  simp only [Gg,List.getD_cons_succ]
  exact cC live (i+1) r t (by rw [show i+1+t=i+(t+1) by omega];exact h)
theorem bK: ∀(l:List Nat) (st:St) (t:Nat),st.get t= .undef->(Zk l st).get t= .undef
 | [],_,_,h=>h
 |a::r,st,t,h=>bK r _ t (by
  show (st.tmps.map (·.map (Be a))).getD t .undef= .undef
  rw [Te (Be a) rfl,show st.tmps.getD t .undef= .undef from h]
  rfl)
theorem ux (l k:Nat) (st:St) (t:Nat) (h:st.get t= .undef):(st.rename l k).get t= .undef:=by
 unfold St.rename
 split
 ·split
  ·show (st.tmps.map (·.map (Pg l k))).getD t .undef= .undef
   rw [Te (Pg l k) rfl,show st.tmps.getD t .undef= .undef from h]
   rfl
  ·exact h
 ·exact h
theorem a6: ∀(n i:Nat) (st:St) (t:Nat),st.get t= .undef->(Ii n i st).get t= .undef
 |0,_,_,_,h=>h
 |n+1,i,st,t,h=>by
  simp only [Ii]
  refine a6 n (i+1) _ t ?_
  split
  ·split
   ·split
    ·exact h
    ·exact ux _ _ _ t h
   ·exact h
  ·exact h
theorem ur (st:St) (d:Nat) (v:AV) (t:Nat) (Et:t≠d) (h:st.get t= .undef):(st.put (some d) v).get t= .undef:=by rw [Wa _ _ Et];exact h
theorem oN (k:Nat) (st:St) (t:Nat) (h:st.get t= .undef):(Wn k st).get t= .undef:=by
 unfold Wn
 split
 ·rename_i l off len hg
  split
  ·split
   ·refine ur _ _ _ _ (λe=>by subst e;rw [hg] at h;cases h) ?_
    show (st.tmps.map (·.map (Be l))).getD t .undef= .undef
    rw [Te (Be l) rfl,show st.tmps.getD t .undef= .undef from h]
    rfl
   ·exact h
  ·exact h
 ·exact h
theorem bS (live:List Nat): ∀(n i:Nat) (st:St) (t:Nat),st.get t= .undef->(Kc live n i st).get t= .undef
 |0,_,_,_,h=>h
 |n+1,i,st,t,h=>by
  simp only [Kc]
  refine bS live n (i+1) _ t ?_
  split
  ·exact oN _ _ _ h
  ·exact h
theorem zt {live:List Nat} {st:St} {t:Nat} (h:((st.clean live).get t).Rp=true):t∈live:=by
 refine Classical.byContradiction λhn=>?_
 have:(st.clean live).get t= .undef:=by
  have key: ∀s:St,s.get t= .undef->(if live.contains Xt then Ii s.tmps.length 0 s else s).get t= .undef:=by
   intro s hs
   split
   ·exact a6 _ _ s t hs
   ·exact hs
  unfold St.clean
  have MV: ∀s:St,s.get t= .undef->(if live.any (λt=>Nat.ble Tt t) then s.Fe live else s).get t= .undef:=by
   intro s hs
   split<;>exact hs
  have MW: ∀s:St,s.get t= .undef->(if live.any (λt=>Nat.ble Ih t&&Nat.blt t Xt) then Kc live s.tmps.length 0 s else s).get t= .undef:=by
   intro s hs
   split
   ·exact bS _ _ _ s t hs
   ·exact hs
  refine MV _ (key _ (MW _ (bK _ _ t ?_)))
  exact cC live 0 st.tmps t (by simpa using hn)
 rw [this] at h
 cases h
theorem o8 {c:AV} (h:c.Rp=true): ∃fr τ,∃x:τ.den,c= .at (.data fr τ x):=by
 unfold AV.Rp at h
 split at h
 ·exact ⟨_,_,_,rfl⟩
 ·cases h
theorem IY {live:Nat->List Nat} {c:Code} {t:Nat} (h:stays live c t=true):t∉writes c/\We live c t=true:=by
 unfold stays at h
 simpa using h
section
variable {T:Tab} {Γ:Env} {live:Nat->List Nat}
theorem Jt.keeps {c:Code} {st:St} {Q:Hi->St->Prop} (h:Jt T Γ live c st Q):Jt T Γ live c st (λe s=>Q e s/\Fq (λt=>t∉writes c/\We live c t=true) st s):=by
 exact BM h st _ Bg.rfl'.on λt ht=>ht
def wsQ (Q:Hi->WS->Prop) (e:Hi) (s:St):Prop:= ∃w':WS,w'.st=s/\w'.OK/\Q e w'
theorem xm {c:Code} (ih: ∀(w:WS) (Q:Hi->WS->Prop),w.OK->Zd T Γ live c w Q->Jt T Γ live c w.st (wsQ Q)) {w:WS} {Q:Hi->WS->Prop} (h:Zd T Γ live (.loop c) w Q):
  Jt T Γ live (.loop c) w.st (wsQ Q):=by
 simp only [Zd,GD,gy] at h
 obtain ⟨YV,I,μ,h0,hs⟩:=fM h
 have Ag: ∀(t:Nat),((w.st.clean (live (Cl c))).get t).Rp=true->stays live c t=true-> ∀v,((St.ql (Ia (stays live c) 0 (w.st.clean (live (Cl c))).tmps) (w.st.clean (live (Cl c))) (dS ((w.st.clean (live (Cl c))).mask (Ia (stays live c) 0 (w.st.clean (live (Cl c))).tmps)) v)).whole (Tw T.parts (w.st.clean (live (Cl c))).tmps)).get t=(w.st.clean (live (Cl c))).get t:=by
  intro t h1 h2 v
  have h3:=rZ (stays live c) 0 (w.st.clean (live (Cl c))).tmps (dS ((w.st.clean (live (Cl c))).mask (Ia (stays live c) 0 (w.st.clean (live (Cl c))).tmps)) v).tmps t
   ((c7 _ _).trans (aU _ _)) h1 (by simpa using h2)
  obtain ⟨fr,τ,x,hx⟩:=o8 h1
  refine (Ki _ _ rfl λ_ _ _=>rfl) t fr τ x ?_|>.trans hx.symm
  exact h3.trans hx
 have VM: ∀(s1:St),(∀t,((w.st.clean (live (Cl c))).get t).Rp=true->stays live c t=true->s1.get t=(w.st.clean (live (Cl c))).get t)->s1.whole (Tw T.parts (w.st.clean (live (Cl c))).tmps)=s1-> ∀v,dT ((w.st.clean (live (Cl c))).mask (Ia (stays live c) 0 (w.st.clean (live (Cl c))).tmps)) (s1.mask (Ia (stays live c) 0 (w.st.clean (live (Cl c))).tmps))=some v->
   s1=(St.ql (Ia (stays live c) 0 (w.st.clean (live (Cl c))).tmps) (w.st.clean (live (Cl c))) (dS ((w.st.clean (live (Cl c))).mask (Ia (stays live c) 0 (w.st.clean (live (Cl c))).tmps)) v)).whole (Tw T.parts (w.st.clean (live (Cl c))).tmps):=by
  intro s1 hf hwh v hv
  have h1:=dU hv
  have h2:St.ql (Ia (stays live c) 0 (w.st.clean (live (Cl c))).tmps) (w.st.clean (live (Cl c))) (s1.mask (Ia (stays live c) 0 (w.st.clean (live (Cl c))).tmps))=s1:=by
   simp only [St.ql,St.mask]
   rw [oE (stays live c) 0 (w.st.clean (live (Cl c))).tmps s1.tmps λt h3 h4=>hf t h3 (by simpa using h4)]
  have h3:(St.ql (Ia (stays live c) 0 (w.st.clean (live (Cl c))).tmps) (w.st.clean (live (Cl c))) (dS ((w.st.clean (live (Cl c))).mask (Ia (stays live c) 0 (w.st.clean (live (Cl c))).tmps)) v)).whole (Tw T.parts (w.st.clean (live (Cl c))).tmps)=s1.whole (Tw T.parts (w.st.clean (live (Cl c))).tmps):=by
   refine yQ ?_
   rw [oF,h1,<-oF,h2]
  rw [h3,hwh]
 refine IH (λv=>(St.ql (Ia (stays live c) 0 (w.st.clean (live (Cl c))).tmps) (w.st.clean (live (Cl c))) (dS ((w.st.clean (live (Cl c))).mask (Ia (stays live c) 0 (w.st.clean (live (Cl c))).tmps)) v)).whole (Tw T.parts (w.st.clean (live (Cl c))).tmps)) I μ _ h0 (VM _ (λ_ _ _=>rfl) YV _ (lW _ (gM _ _ (Oi h)))) ?_
 intro a ha
 refine (Jt.keeps (ih ⟨[],_⟩ _ (λt b h=>by cases h) (hs a ha))).mono ?_
 intro e s hQ
 obtain ⟨⟨w',h1,h2,h3⟩,hk⟩:=hQ
 subst h1
 cases e with
 |normal=>
  obtain ⟨h4,h5⟩:=fM h3
  obtain ⟨v',h6,h7,h8⟩:=Aw.1 h5
  refine ⟨v',VM _ (λt hd ht=>?_) h4 _ h6,h7,h8⟩
  obtain ⟨fr,τ,x,hx⟩:=o8 hd
  rw [hx]
  exact fC (live (Cl c)) w'.st t fr τ x (zt hd) (hk t fr τ x (IY ht) (by rw [Ag t hd ht a];exact hx))
 |exit id=>exact ⟨w',rfl,h2,h3⟩
 |ret=>exact ⟨w',rfl,h2,h3⟩
theorem lj: ∀(c:Code) (w:WS) (Q:Hi->WS->Prop),w.OK->Zd T Γ live c w Q->Jt T Γ live c w.st (wsQ Q):=by
 intro c
 induction c with
 |skip=>intro w Q hw h;exact .skip ⟨w,rfl,hw,h⟩
 |label _=>intro w Q hw h;exact .label ⟨w,rfl,hw,h⟩
 |exit _=>intro w Q hw h;exact .exit ⟨w,rfl,hw,h⟩
 |ret=>intro w Q hw h;exact .ret ⟨w,rfl,hw,h⟩
 |region id ops draw=>
  intro w Q hw h
  exact .region ((qy hw h).mono λs ⟨w',h1,h2,h3⟩=>⟨w',h1,h2,aN.1 h3⟩)
 |seq x y ihx ihy=>
  intro w Q hw h
  refine OM ((ihx w _ hw h).mono λe s hQ=>?_)
  obtain ⟨w',h1,h2,h3⟩:=hQ
  subst h1
  cases e with
  |normal=>exact ihy w' Q h2 h3
  |exit id=>exact ⟨w',rfl,h2,h3⟩
  |ret=>exact ⟨w',rfl,h2,h3⟩
 |cond c x y ihx ihy=>
  intro w Q hw h
  obtain ⟨fr,b,w',h1,h2,h3,h4⟩:=r7 hw h
  refine IG h1 (λhb=>?_) (λhb=>?_)
  ·subst hb;rw [<-h2];exact ihx w' Q h3 h4
  ·subst hb;rw [<-h2];exact ihy w' Q h3 h4
 |block id c ih=>
  intro w Q hw h
  refine BL ((ih w _ hw h).mono λe s hQ=>?_)
  obtain ⟨w',h1,h2,h3⟩:=hQ
  subst h1
  cases e with
  |normal=>exact ⟨w',rfl,h2,h3⟩
  |ret=>exact ⟨w',rfl,h2,h3⟩
  |exit GQ=>
   simp only at h3
   simp only [rE]
   split at h3
   ·rename_i hi;rw [if_pos hi];exact ⟨w',rfl,h2,h3⟩
   ·rename_i hi;rw [if_neg hi];exact ⟨w',rfl,h2,h3⟩
 |loop c ih=>intro w Q hw h;exact xm ih h
 |_=>intro w Q hw h;exact absurd h (by simp [Zd])
theorem nD {s:Spec} {fn:Func} {P:s.res.den->Prop} {st:St} (h:WX T s fn P st): ∃fr y,iK T s fn st=some (fr,y)/\(fr||!s.fresh)=true/\P y:=by
 obtain ⟨p,h1,h2⟩:=Aw.1 h
 split at h2
 ·rename_i hf;exact ⟨p.1,p.2,h1,hf,h2⟩
 ·cases h2
theorem GC {s:Spec} {fn:Func} {x:s.arg.den} {P:s.res.den->Prop} (h:fnW T Γ s fn x P):KH T Γ s fn x P:=by
 unfold fnW at h
 obtain ⟨c,h1,h2⟩:=Aw.1 h
 refine ⟨c,h1,(lj c _ _ (λt b h=>by cases h) h2).mono λe st ⟨w,h4,h5,h6⟩=>?_⟩
 subst h4
 cases e with
 |normal=>exact ⟨λid hh=>(by cases hh),nD h6⟩
 |ret=>exact ⟨λid hh=>(by cases hh),nD h6⟩
 |exit id=>cases h6
theorem Xo {st:St} {K:Prop} : ∀(vs:List AC) (cs:List (Bool×CK)),df st K vs cs->de st vs cs/\K
 | [],cs,h=>⟨by simp [de],by simpa [df] using h⟩
 |a::vs,[],h=>⟨by cases a<;>simp [de],by cases a<;>simpa [df] using h⟩
 |a::vs,(false,c)::r,h=>by
  have h:df st K vs r:=by cases a<;>simpa only [df] using h
  obtain ⟨h1,h2⟩:=Xo vs r h
  exact ⟨by cases a<;>simpa only [de] using h1,h2⟩
 |a::vs,(true,c)::r,h=>by
  cases a with
  |own l off len=>
   simp only [df] at h
   split at h
   ·rename_i hl
    obtain ⟨h1,h2⟩:=Xo vs r h.2
    refine ⟨?_,h2⟩
    simp only [de,hl]
    exact ⟨h.1,h1⟩
   ·rename_i hl
    obtain ⟨h1,h2⟩:=Xo vs r h.2
    refine ⟨?_,h2⟩
    simp only [de,hl]
    exact ⟨h.1,h1⟩
   ·exact h.elim
  |_=>exact ⟨by simp [de],by simpa [df] using h⟩
theorem aY {st:St} : ∀(cs:List CK) (as:List AC) (K:CKs.den cs->List Nat->Prop),kz st cs as K-> ∃x ls,Pf st cs as=some (x,ls)/\K x ls
 | [],[],K,h=>⟨(),[],rfl,h⟩
 | [],_::_,_,h=>h.elim
 |c::r,[],K,h=>by cases c<;>exact h.elim
 |c::r,a::as,K,h=>by
  have pO:Ed (eY st c a) (λp=>kz st r as λy t=>K (p.1,y) (p.2++t))-> ∃x ls,Pf st (c::r) (a::as)=some (x,ls)/\K x ls:= λh=>by
   obtain ⟨p,h1,h2⟩:=Aw.1 h
   obtain ⟨y,t,h3,h4⟩:=aY r as _ h2
   exact ⟨_,_,by simp only [Pf,h1,h3],h4⟩
  cases c with
  |Ao e te kp=>
   cases a with
   |own l off len=>
    simp only [kz] at h
    split at h
    ·rename_i hl
     split at h
     ·rename_i hc
      obtain ⟨⟨h1,h2⟩,h⟩:=h
      obtain ⟨y,t,h3,h4⟩:=aY r as _ h
      exact ⟨_,_,by simp only [Pf,eY,hl];rw [dif_pos ⟨hc.1,hc.2,h1,h2⟩];simp only [h3];rfl,h4⟩
     ·exact h.elim
    ·exact h.elim
   |_=>exact pO h
  |_=>exact pO h
theorem j4 {st:St} {n:Nat} {as:List AC} {K:Prop} : ∀(ks:List (Nat×Nat)),tN st n as ks K->rI st n as ks/\K
 | [],h=>⟨trivial,h⟩
 |(k,j)::r,h=>by
  simp only [tN] at h
  split at h
  ·rename_i l off len ha
   split at h
   ·rename_i p hl
    split at h
    ·rename_i hc
     simp only [Bool.and_eq_true] at hc
     obtain ⟨h1,h2⟩:=j4 r h.2
     refine ⟨?_,h2⟩
     simp only [rI,ha,hl]
     exact ⟨⟨Nat.eq_of_beq_eq_true hc.1,h.1,hc.2⟩,h1⟩
    ·exact h.elim
   ·exact h.elim
  ·exact h.elim
theorem dG {s:MSpec} {fn:Func} {x:Ins.den s.ins} {st:St} {cs:List AC} {P:CKs.den s.outs×IOs.den s.ins->Prop} (h:oQ T s fn x st cs P):eL T s fn x st cs P:=by
 obtain ⟨l,h1,h⟩:=Aw.1 h
 obtain ⟨⟨as,ml⟩,h2,h⟩:=Aw.1 h
 obtain ⟨r,ls,h3,h⟩:=aY _ _ _ h
 obtain ⟨o,h4,h⟩:=Aw.1 h
 split at h
 ·rename_i hc
  obtain ⟨h5,h6⟩:=j4 _ h
  unfold eL
  simp only [h1,h2,h3,h4]
  exact ⟨hc,h5,h6⟩
 ·exact h.elim
theorem lO {s:MSpec} {fn:Func} {x:Ins.den s.ins} {st:St} {P:CKs.den s.outs×IOs.den s.ins->Prop} (h:FA T s fn x st P):KG T s fn x st P:=by
 unfold FA at h
 unfold KG
 cases hp:s.ptr with
 |none=>rw [hp] at h;exact dG h
 |some p=>
  rw [hp] at h
  simp only at h⊢
  split at h
  ·rename_i tid vs hl
   split at h
   ·rename_i hc
    simp only [Bool.and_eq_true] at hc
    obtain ⟨h1,h2⟩:=hc
    have h1:tid=p.1:=Nat.eq_of_beq_eq_true h1
    have h2:=Nat.eq_of_beq_eq_true h2
    subst h1
    obtain ⟨cs,h3,h4⟩:=Aw.1 h
    obtain ⟨h5,h6⟩:=Xo vs s.ins h4
    exact ⟨vs,cs,hl,h2,h3,h5,dG h6⟩
   ·exact h.elim
  ·exact h.elim
theorem zE {s:MSpec} {fn:Func} {x:Ins.den s.ins} {P:CKs.den s.outs×IOs.den s.ins->Prop} (h:fnMW T Γ s fn x P):UG T Γ s fn x P:=by
 unfold fnMW at h
 split at h
 ·cases h
 rename_i hlen
 obtain ⟨c,h1,h2⟩:=Aw.1 h
 refine ⟨hlen,c,h1,(lj c _ _ (λt b h=>by cases h) h2).mono λe st ⟨w,h4,h5,h6⟩=>?_⟩
 subst h4
 cases e with
 |normal=>exact ⟨λid hh=>(by cases hh),lO h6⟩
 |ret=>exact ⟨λid hh=>(by cases hh),lO h6⟩
 |exit id=>cases h6
theorem Bq.ofW {P:Program} (hT:Ch P T) (Nb:Hr P Γ) (hm:P.follows .mixedOrders=true) {f:FuncId} {fn:Func} (hf:P.funcs[f]?=some fn) (hn:(fn.name== "runtime.NumGoroutine")=false)
  (hb:fn.body.isNone=false) (s:MSpec) (h: ∀x y,s.fn x=some y->fnMW T Γ s fn x (λz=>z=y)):Bq P f s:=
 ⟨cA hf hn hb,λw S π us x r o g vs h1 hg h2 h3 hS h4 h5=>pU hT Nb hm hf s w S π us x r o g vs h1 hg h2 h3 hS h4 (zE (h x (r,o) h5))⟩
theorem Sound.ofW {P:Program} (hT:Ch P T) (Nb:Hr P Γ) (hm:P.follows .mixedOrders=true) {f:FuncId} {fn:Func} (hf:P.funcs[f]?=some fn) (hn:(fn.name== "runtime.NumGoroutine")=false)
  (hb:fn.body.isNone=false) (s:Spec) (h: ∀x y,s.fn x=some y->fnW T Γ s fn x (λz=>z=y)):Sound P f s:=
 OO hT Nb hm hf hn hb s λx y hx=>GC (h x y hx)
end
end Go.Proofs.Ytjbdmibbbpdnnaa
