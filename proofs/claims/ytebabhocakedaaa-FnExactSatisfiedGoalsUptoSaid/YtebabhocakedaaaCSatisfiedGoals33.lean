/-
  Part 34 of the proof that the statement FnExactSatisfiedGoals holds.
-/
import Derived.Test.YtebabhocakedaaaCSatisfiedGoals32
namespace Go.Proofs.Ytebabhocakedaaa
open Go.RowKit
theorem Ks {B:List (Nat×Nat×Nat)} {H:List (Nat×OB)} : ∀ {l:List AV} {K:Prop},Qe B H l K→ ∀c∈l,c.Aaz=true
 | [],_,_,c,hc=>by cases hc
 |d::l,K,h,c,hc=>by
  simp only [Qe] at h
  cases d with
  |tupc l'=>exact h.elim
  | «at»a=>
   rcases List.mem_cons.1 hc with rfl|hc
   ·rfl
   ·have h':Qe B H l K:=by
     cases a with
     |own k o n=>exact h.2.2
     |_=>exact h
    exact Ks h' c hc
  |tup _ _ _=>
   rcases List.mem_cons.1 hc with rfl|hc
   ·rfl
   ·exact Ks h c hc
  |agg cs=>
   rcases List.mem_cons.1 hc with rfl|hc
   ·rfl
   ·have: ∀(cs:List AC) (Q:Prop),Tc B H cs Q→Q:=by
     intro cs
     induction cs with
     |nil=>exact fun Q h=>h
     |cons a cs ih=>
      intro Q h
      have h2:Tc B H cs Q:=by
       cases a with
       |own k o n=>exact h.2.2
       |_=>exact h
      exact ih Q h2
    exact Ks (this cs _ h) c hc
theorem Ac5: ∀(f:List Bool) (l:List AV),(∀c∈l,c.Aaz=true)→ ∀c∈Le f l,c.Aaz=true
 | [],l,h=>by simpa [Le] using h
 |true::f,[],h=>by simp [Le] at h⊢
 |false::f,[],h=>by simp [Le] at h⊢
 |true::f,a::l,h=>by
  intro c hc
  simp only [Le,List.mem_cons] at hc
  rcases hc with rfl|hc
  ·rfl
  ·exact Ac5 f l (fun c hc=>h c (List.mem_cons_of_mem _ hc)) c hc
 |false::f,a::l,h=>by
  intro c hc
  simp only [Le,List.mem_cons] at hc
  rcases hc with rfl|hc
  ·exact h c (by simp)
  ·exact Ac5 f l (fun c hc=>h c (List.mem_cons_of_mem _ hc)) c hc
theorem Axv (f:AC→AC) (H:List (Nat×OB)) (l:Nat):lenOf (H.map fun p=>(p.1,p.2.map f)) l=lenOf H l:=by
 unfold lenOf
 rw [Hm]
 cases Ac H l with
 |none=>rfl
 |some b=>cases b<;>rfl
theorem Au6 (f g:AC→AC) (c:AV):(c.map f).map g=c.map fun a=>g (f a):=by
 cases c<;>simp [AV.map]
theorem Av7 (f g:AC→AC) (c:OB):(c.map f).map g=c.map fun a=>g (f a):=by
 cases c<;>simp [OB.map]
theorem As3 (s:St) (f g:AC→AC):(s.Ex f).Ex g=s.Ex fun a=>g (f a):=by
 simp [St.Ex,List.map_map,Function.comp_def,Au6,Av7]
theorem Arr (f:AC→AC) (H:List (Nat×OB)) (l:Nat): ∀(B:List (Nat×Nat×Nat)),Axt B (H.map fun p=>(p.1,p.2.map f)) l=Axt B H l
 | []=>Axv f H l
 |(k,o,n)::r=>by simp only [Axt];rw [Arr f H l r]
theorem Atx (B:List (Nat×Nat×Nat)) (s:St):(s.Ex Jy).whole B=s.whole B:=by
 unfold St.whole
 rw [As3]
 congr 1
 funext a
 cases a with
 |own l off len=>simp only [Jy,Wj,St.Ex,Arr]
 |_=>rfl
theorem Atv {B:List (Nat×Nat×Nat)} {s t:St} (h:s.Ex Jy=t.Ex Jy):s.whole B=t.whole B:=by rw [←Atx B s,h,Atx]
theorem Afc (f:AC→AC): ∀(fx:List Bool) (a b:List AV),(Lw fx a b).map (·.map f)=Lw fx (a.map (·.map f)) (b.map (·.map f))
 | [],_,_=>by simp [Lw]
 |_::_,[],_=>by simp [Lw]
 |true::_,_::_,[]=>by simp [Lw]
 |false::_,_::_,[]=>by simp [Lw]
 |true::fx,x::a,y::b=>by simp only [Lw,List.map_cons,Afc f fx a b]
 |false::fx,x::a,y::b=>by simp only [Lw,List.map_cons,Afc f fx a b]
theorem Aj7 (f:AC→AC) (fx:List Bool) (a b:St):(St.Al1 fx a b).Ex f=St.Al1 fx (a.Ex f) (b.Ex f):=by
 simp only [St.Al1,St.Ex,Afc]
theorem Aj6 (p:Nat→Bool): ∀(i:Nat) (l0 l1:List AV),(∀t,(l0.getD t .undef).Mq=true→p (i+t)=true→l1.getD t .undef=l0.getD t .undef)→
  Lw (Fz p i l0) l0 (Le (Fz p i l0) l1)=l1
 |_,[],l1,_=>by simp [Fz,Le,Lw]
 |i,a::r,[],_=>by
  simp only [Fz]
  cases (a.Mq&&p i)<;>simp [Le,Lw]
 |i,a::r,b::s,h=>by
  have hr:=Aj6 p (i+1) r s fun t h1 h2=>by
   have:=h (t+1) (by simpa using h1) (by rw [show i+(t+1)=i+1+t by omega];exact h2)
   simpa using this
  simp only [Fz]
  cases hc:(a.Mq&&p i) with
  |false=>simp only [Le,Lw];rw [hr]
  |true=>
   simp only [Le,Lw]
   rw [hr]
   simp only [Bool.and_eq_true] at hc
   have:=h 0 (by simpa using hc.1) hc.2
   simp only [List.getD_cons_zero] at this
   rw [this]
theorem Vj: ∀(f:List Bool) (l:List AV),(Le f l).length=l.length
 | [],l=>by simp [Le]
 |true::f,[]=>by simp [Le]
 |false::f,[]=>by simp [Le]
 |true::f,a::l=>by simp [Le,Vj f l]
 |false::f,a::l=>by simp [Le,Vj f l]
theorem Xc: ∀(l:List AV) {R:Type} (v:Agt l R),(Md l v).1.length=l.length
 | [],_,_=>rfl
 |c::l,_,v=>by simp [Md,Xc l]
theorem Amv (p:Nat→Bool): ∀(i:Nat) (l0 l:List AV) (t:Nat),l.length=l0.length→(l0.getD t .undef).Mq=true→p (i+t)=true→(Lw (Fz p i l0) l0 l).getD t .undef=l0.getD t .undef
 |_,[],_,t,_,h,_=>by simp [AV.Mq] at h
 |i,a::r,[],_,h,_,_=>by simp at h
 |i,a::r,b::s,0,_,h1,h2=>by
  have:(a.Mq&&p i)=true:=by
   simp only [Bool.and_eq_true]
   exact ⟨by simpa using h1,h2⟩
  simp only [Fz,this,Lw,List.getD_cons_zero]
 |i,a::r,b::s,t+1,hl,h1,h2=>by
  have hr:=Amv p (i+1) r s t (by simpa using hl) (by simpa using h1) (by rw [show i+1+t=i+(t+1) by omega];exact h2)
  simp only [Fz]
  cases (a.Mq&&p i)<;>simpa only [Lw,List.getD_cons_succ] using hr
theorem Aak {B:List (Nat×Nat×Nat)} {H:List (Nat×OB)} {c:AC} {K:Prop} (h:Anr B H c K):Wj B H c=c∧K:=by
 cases c with
 |own l off len=>obtain ⟨h1,h2,h3⟩:=h;exact ⟨by rw [h1,h2];rfl,h3⟩
 |_=>exact ⟨rfl,h⟩
theorem Qj {B:List (Nat×Nat×Nat)} {H:List (Nat×OB)} : ∀ {l:List AC} {K:Prop},Tc B H l K→l.map (Wj B H)=l∧K
 | [],_,h=>⟨rfl,h⟩
 |c::l,_,h=>by
  obtain ⟨h1,h2⟩:=Aak h
  obtain ⟨h3,h4⟩:=Qj h2
  exact ⟨by rw [List.map_cons,h1,h3],h4⟩
theorem Akm {B:List (Nat×Nat×Nat)} {H:List (Nat×OB)} {c:AV} {K:Prop} (h:Awn B H c K):c.map (Wj B H)=c∧K:=by
 cases c with
 | «at»a=>obtain ⟨h1,h2⟩:=Aak h;exact ⟨by rw [AV.map,h1],h2⟩
 |agg cs=>obtain ⟨h1,h2⟩:=Qj h;exact ⟨by rw [AV.map,h1],h2⟩
 |tup _ _ _=>exact ⟨rfl,h⟩
 |tupc l=>exact h.elim
theorem Xd {B:List (Nat×Nat×Nat)} {H:List (Nat×OB)} : ∀ {l:List AV} {K:Prop},Qe B H l K→l.map (·.map (Wj B H))=l∧K
 | [],_,h=>⟨rfl,h⟩
 |c::l,_,h=>by
  obtain ⟨h1,h2⟩:=Akm h
  obtain ⟨h3,h4⟩:=Xd h2
  exact ⟨by rw [List.map_cons,h1,h3],h4⟩
theorem Gk {B:List (Nat×Nat×Nat)} {H:List (Nat×OB)} : ∀ {l:List (Nat×OB)} {K:Prop},Aa3 B H l K→l.map (fun p=>(p.1,p.2.map (Wj B H)))=l∧K
 | [],_,h=>⟨rfl,h⟩
 |(k, .var t vs)::l,_,h=>by
  obtain ⟨h1,h2⟩:=Qj h
  obtain ⟨h3,h4⟩:=Gk h2
  exact ⟨by rw [List.map_cons,h3];simp only [OB.map,h1],h4⟩
 |(k, .arr a b c d e)::l,_,h=>by
  obtain ⟨h3,h4⟩:=Gk (l:=l) h
  exact ⟨by rw [List.map_cons,h3];rfl,h4⟩
 |(k, .xarr a b c)::l,_,h=>by
  obtain ⟨h3,h4⟩:=Gk (l:=l) h
  exact ⟨by rw [List.map_cons,h3];rfl,h4⟩
 |(k, .grid a b c d e)::l,_,h=>by
  obtain ⟨h3,h4⟩:=Gk (l:=l) h
  exact ⟨by rw [List.map_cons,h3];rfl,h4⟩
 |(k, .smp a b)::l,_,h=>by
  obtain ⟨h3,h4⟩:=Gk (l:=l) h
  exact ⟨by rw [List.map_cons,h3];rfl,h4⟩
theorem Ab5 {B:List (Nat×Nat×Nat)} {s:St} {K:Prop} (h:Apn B s K):s.whole B=s∧K:=by
 obtain ⟨h1,h2⟩:=Xd h
 obtain ⟨h3,h4⟩:=Gk h2
 exact ⟨by unfold St.whole St.Ex;rw [h1,h3],h4⟩
theorem Xr (live:List Nat): ∀(i:Nat) (l:List AV) (t:Nat),i+t∉live→(Ep live i l).getD t .undef= .undef
 |_,[],_,_=>rfl
 |i,v::r,0,h=>by simp [Ep];intro hn;exact absurd hn h
 |i,v::r,t+1,h=>by
  simp only [Ep,List.getD_cons_succ]
  exact Xr live (i+1) r t (by rw [show i+1+t=i+(t+1) by omega];exact h)
theorem Wq: ∀(l:List Nat) (st:St) (t:Nat),st.get t= .undef→(To l st).get t= .undef
 | [],_,_,h=>h
 |a::r,st,t,h=>Wq r _ t (by
  show (st.tmps.map (·.map (Av a))).getD t .undef= .undef
  rw [Nx (Av a) rfl,show st.tmps.getD t .undef= .undef from h]
  rfl)
theorem Apa (l k:Nat) (st:St) (t:Nat) (h:st.get t= .undef):(st.rename l k).get t= .undef:=by
 unfold St.rename
 split
 ·split
  ·show (st.tmps.map (·.map (Lh l k))).getD t .undef= .undef
   rw [Nx (Lh l k) rfl,show st.tmps.getD t .undef= .undef from h]
   rfl
  ·exact h
 ·exact h
theorem Ub: ∀(n i:Nat) (st:St) (t:Nat),st.get t= .undef→(Gc n i st).get t= .undef
 |0,_,_,_,h=>h
 |n+1,i,st,t,h=>by
  simp only [Gc]
  refine Ub n (i+1) _ t ?_
  split
  ·split
   ·split
    ·exact h
    ·exact Apa _ _ _ t h
   ·exact h
  ·exact h
theorem Ap6 (st:St) (d:Nat) (v:AV) (t:Nat) (hne:t≠d) (h:st.get t= .undef):(st.put (some d) v).get t= .undef:=by rw [Qq _ _ hne];exact h
theorem Ajj (k:Nat) (st:St) (t:Nat) (h:st.get t= .undef):(Ra k st).get t= .undef:=by
 unfold Ra
 split
 ·rename_i l off len hg
  split
  ·split
   ·refine Ap6 _ _ _ _ (fun e=>by subst e;rw [hg] at h;cases h) ?_
    show (st.tmps.map (·.map (Av l))).getD t .undef= .undef
    rw [Nx (Av l) rfl,show st.tmps.getD t .undef= .undef from h]
    rfl
   ·exact h
  ·exact h
 ·exact h
theorem Ww (live:List Nat): ∀(n i:Nat) (st:St) (t:Nat),st.get t= .undef→(Hq live n i st).get t= .undef
 |0,_,_,_,h=>h
 |n+1,i,st,t,h=>by
  simp only [Hq]
  refine Ww live n (i+1) _ t ?_
  split
  ·exact Ajj _ _ _ h
  ·exact h
theorem Aug {live:List Nat} {st:St} {t:Nat} (h:((st.clean live).get t).Mq=true):t∈live:=by
 refine Classical.byContradiction fun hn=>?_
 have:(st.clean live).get t= .undef:=by
  have key: ∀s:St,s.get t= .undef→(if live.contains Sd then Gc s.tmps.length 0 s else s).get t= .undef:=by
   intro s hs
   split
   ·exact Ub _ _ s t hs
   ·exact hs
  unfold St.clean
  have key0: ∀s:St,s.get t= .undef→(if live.any (fun t=>Nat.ble Oh t) then s.Dy live else s).get t= .undef:=by
   intro s hs
   split<;>exact hs
  have key1: ∀s:St,s.get t= .undef→(if live.any (fun t=>Nat.ble Ji t&&Nat.blt t Sd) then Hq live s.tmps.length 0 s else s).get t= .undef:=by
   intro s hs
   split
   ·exact Ww _ _ _ s t hs
   ·exact hs
  refine key0 _ (key _ (key1 _ (Wq _ _ t ?_)))
  exact Xr live 0 st.tmps t (by simpa using hn)
 rw [this] at h
 cases h
theorem Aio {c:AV} (h:c.Mq=true): ∃fr τ,∃x:τ.den,c= .at (.data fr τ x):=by
 unfold AV.Mq at h
 split at h
 ·exact ⟨_,_,_,rfl⟩
 ·cases h
theorem Az1 {live:Nat→List Nat} {c:Code} {t:Nat} (h:stays live c t=true):t∉writes c∧Qs live c t=true:=by
 unfold stays at h
 simpa using h
section
variable {T:Tab} {Γ:Env} {live:Nat→List Nat}
theorem Hf.keeps {c:Code} {st:St} {Q:Fk→St→Prop} (h:Hf T Γ live c st Q):Hf T Γ live c st (fun e s=>Q e s∧Ed (fun t=>t∉writes c∧Qs live c t=true) st s):=by
 exact Avv h st _ Ay.Hc.on fun t ht=>ht
def wsQ (Q:Fk→WS→Prop) (e:Fk) (s:St):Prop:= ∃w':WS,w'.st=s∧w'.OK∧Q e w'
theorem Ary {c:Code} (ih: ∀(w:WS) (Q:Fk→WS→Prop),w.OK→Tg T Γ live c w Q→Hf T Γ live c w.st (wsQ Q)) {w:WS} {Q:Fk→WS→Prop} (h:Tg T Γ live (.loop c) w Q):
  Hf T Γ live (.loop c) w.st (wsQ Q):=by
 simp only [Tg,Axo,Abw] at h
 obtain ⟨hw0,I,μ,h0,hs⟩:=Ab5 h
 have Ac: ∀(t:Nat),((w.st.clean (live (Bv c))).get t).Mq=true→stays live c t=true→ ∀v,((St.Al1 (Fz (stays live c) 0 (w.st.clean (live (Bv c))).tmps) (w.st.clean (live (Bv c))) (Zi ((w.st.clean (live (Bv c))).mask (Fz (stays live c) 0 (w.st.clean (live (Bv c))).tmps)) v)).whole (Oi T.parts (w.st.clean (live (Bv c))).tmps)).get t=(w.st.clean (live (Bv c))).get t:=by
  intro t h1 h2 v
  have h3:=Amv (stays live c) 0 (w.st.clean (live (Bv c))).tmps (Zi ((w.st.clean (live (Bv c))).mask (Fz (stays live c) 0 (w.st.clean (live (Bv c))).tmps)) v).tmps t
   ((Xc _ _).trans (Vj _ _)) h1 (by simpa using h2)
  obtain ⟨fr,τ,x,hx⟩:=Aio h1
  refine (Hw _ _ rfl fun _ _ _=>rfl) t fr τ x ?_|>.trans hx.symm
  exact h3.trans hx
 have hmk: ∀(s1:St),(∀t,((w.st.clean (live (Bv c))).get t).Mq=true→stays live c t=true→s1.get t=(w.st.clean (live (Bv c))).get t)→s1.whole (Oi T.parts (w.st.clean (live (Bv c))).tmps)=s1→ ∀v,Zj ((w.st.clean (live (Bv c))).mask (Fz (stays live c) 0 (w.st.clean (live (Bv c))).tmps)) (s1.mask (Fz (stays live c) 0 (w.st.clean (live (Bv c))).tmps))=some v→
   s1=(St.Al1 (Fz (stays live c) 0 (w.st.clean (live (Bv c))).tmps) (w.st.clean (live (Bv c))) (Zi ((w.st.clean (live (Bv c))).mask (Fz (stays live c) 0 (w.st.clean (live (Bv c))).tmps)) v)).whole (Oi T.parts (w.st.clean (live (Bv c))).tmps):=by
  intro s1 hf hwh v hv
  have h1:=Zk hv
  have h2:St.Al1 (Fz (stays live c) 0 (w.st.clean (live (Bv c))).tmps) (w.st.clean (live (Bv c))) (s1.mask (Fz (stays live c) 0 (w.st.clean (live (Bv c))).tmps))=s1:=by
   simp only [St.Al1,St.mask]
   rw [Aj6 (stays live c) 0 (w.st.clean (live (Bv c))).tmps s1.tmps fun t h3 h4=>hf t h3 (by simpa using h4)]
  have h3:(St.Al1 (Fz (stays live c) 0 (w.st.clean (live (Bv c))).tmps) (w.st.clean (live (Bv c))) (Zi ((w.st.clean (live (Bv c))).mask (Fz (stays live c) 0 (w.st.clean (live (Bv c))).tmps)) v)).whole (Oi T.parts (w.st.clean (live (Bv c))).tmps)=s1.whole (Oi T.parts (w.st.clean (live (Bv c))).tmps):=by
   refine Atv ?_
   rw [Aj7,h1,←Aj7,h2]
  rw [h3,hwh]
 refine Ayl (fun v=>(St.Al1 (Fz (stays live c) 0 (w.st.clean (live (Bv c))).tmps) (w.st.clean (live (Bv c))) (Zi ((w.st.clean (live (Bv c))).mask (Fz (stays live c) 0 (w.st.clean (live (Bv c))).tmps)) v)).whole (Oi T.parts (w.st.clean (live (Bv c))).tmps)) I μ _ h0 (hmk _ (fun _ _ _=>rfl) hw0 _ (Agq _ (Ac5 _ _ (Ks h)))) ?_
 intro a ha
 refine (Hf.keeps (ih ⟨[],_⟩ _ (fun t b h=>by cases h) (hs a ha))).mono ?_
 intro e s hQ
 obtain ⟨⟨w',h1,h2,h3⟩,hk⟩:=hQ
 subst h1
 cases e with
 |normal=>
  obtain ⟨h4,h5⟩:=Ab5 h3
  obtain ⟨v',h6,h7,h8⟩:=Al.1 h5
  refine ⟨v',hmk _ (fun t hd ht=>?_) h4 _ h6,h7,h8⟩
  obtain ⟨fr,τ,x,hx⟩:=Aio hd
  rw [hx]
  exact Aav (live (Bv c)) w'.st t fr τ x (Aug hd) (hk t fr τ x (Az1 ht) (by rw [Ac t hd ht a];exact hx))
 |exit id=>exact ⟨w',rfl,h2,h3⟩
 |ret=>exact ⟨w',rfl,h2,h3⟩
theorem Ag0: ∀(c:Code) (w:WS) (Q:Fk→WS→Prop),w.OK→Tg T Γ live c w Q→Hf T Γ live c w.st (wsQ Q):=by
 intro c
 induction c with
 |skip=>intro w Q hw h;exact .skip ⟨w,rfl,hw,h⟩
 |label _=>intro w Q hw h;exact .label ⟨w,rfl,hw,h⟩
 |exit _=>intro w Q hw h;exact .exit ⟨w,rfl,hw,h⟩
 |ret=>intro w Q hw h;exact .ret ⟨w,rfl,hw,h⟩
 |region id ops draw=>
  intro w Q hw h
  exact .region ((Ala hw h).mono fun s ⟨w',h1,h2,h3⟩=>⟨w',h1,h2,Vd.1 h3⟩)
 |seq x y ihx ihy=>
  intro w Q hw h
  refine Bb2 ((ihx w _ hw h).mono fun e s hQ=>?_)
  obtain ⟨w',h1,h2,h3⟩:=hQ
  subst h1
  cases e with
  |normal=>exact ihy w' Q h2 h3
  |exit id=>exact ⟨w',rfl,h2,h3⟩
  |ret=>exact ⟨w',rfl,h2,h3⟩
 |cond c x y ihx ihy=>
  intro w Q hw h
  obtain ⟨fr,b,w',h1,h2,h3,h4⟩:=Am0 hw h
  refine Ayk h1 (fun hb=>?_) (fun hb=>?_)
  ·subst hb;rw [←h2];exact ihx w' Q h3 h4
  ·subst hb;rw [←h2];exact ihy w' Q h3 h4
 |block id c ih=>
  intro w Q hw h
  refine Avu ((ih w _ hw h).mono fun e s hQ=>?_)
  obtain ⟨w',h1,h2,h3⟩:=hQ
  subst h1
  cases e with
  |normal=>exact ⟨w',rfl,h2,h3⟩
  |ret=>exact ⟨w',rfl,h2,h3⟩
  |exit id'=>
   simp only at h3
   simp only [Ame]
   split at h3
   ·rename_i hi;rw [if_pos hi];exact ⟨w',rfl,h2,h3⟩
   ·rename_i hi;rw [if_neg hi];exact ⟨w',rfl,h2,h3⟩
 |loop c ih=>intro w Q hw h;exact Ary ih h
 |_=>intro w Q hw h;exact absurd h (by simp [Tg])
theorem Ai6 {s:Spec} {fn:Func} {P:s.res.den→Prop} {st:St} (h:Bde T s fn P st): ∃fr y,Adb T s fn st=some (fr,y)∧(fr||!s.fresh)=true∧P y:=by
 obtain ⟨p,h1,h2⟩:=Al.1 h
 split at h2
 ·rename_i hf;exact ⟨p.1,p.2,h1,hf,h2⟩
 ·cases h2
theorem Axn {s:Spec} {fn:Func} {x:s.arg.den} {P:s.res.den→Prop} (h:fnW T Γ s fn x P):Azm T Γ s fn x P:=by
 unfold fnW at h
 obtain ⟨c,h1,h2⟩:=Al.1 h
 refine ⟨c,h1,(Ag0 c _ _ (fun t b h=>by cases h) h2).mono fun e st ⟨w,h4,h5,h6⟩=>?_⟩
 subst h4
 cases e with
 |normal=>exact ⟨fun id hh=>(by cases hh),Ai6 h6⟩
 |ret=>exact ⟨fun id hh=>(by cases hh),Ai6 h6⟩
 |exit id=>cases h6
theorem Ry {st:St} {K:Prop} : ∀(vs:List AC) (cs:List (Bool×CK)),Yl st K vs cs→Yk st vs cs∧K
 | [],cs,h=>⟨by simp [Yk],by simpa [Yl] using h⟩
 |a::vs,[],h=>⟨by cases a<;>simp [Yk],by cases a<;>simpa [Yl] using h⟩
 |a::vs,(false,c)::r,h=>by
  have h:Yl st K vs r:=by cases a<;>simpa only [Yl] using h
  obtain ⟨h1,h2⟩:=Ry vs r h
  exact ⟨by cases a<;>simpa only [Yk] using h1,h2⟩
 |a::vs,(true,c)::r,h=>by
  cases a with
  |own l off len=>
   simp only [Yl] at h
   split at h
   ·rename_i hl
    obtain ⟨h1,h2⟩:=Ry vs r h.2
    refine ⟨?_,h2⟩
    simp only [Yk,hl]
    exact ⟨h.1,h1⟩
   ·rename_i hl
    obtain ⟨h1,h2⟩:=Ry vs r h.2
    refine ⟨?_,h2⟩
    simp only [Yk,hl]
    exact ⟨h.1,h1⟩
   ·exact h.elim
  |_=>exact ⟨by simp [Yk],by simpa [Yl] using h⟩
theorem Vn {st:St} : ∀(cs:List CK) (as:List AC) (K:CKs.den cs→List Nat→Prop),Afb st cs as K→ ∃x ls,Lg st cs as=some (x,ls)∧K x ls
 | [],[],K,h=>⟨(),[],rfl,h⟩
 | [],_::_,_,h=>h.elim
 |c::r,[],K,h=>by cases c<;>exact h.elim
 |c::r,a::as,K,h=>by
  have old:Dc (Aaj st c a) (fun p=>Afb st r as fun y t=>K (p.1,y) (p.2++t))→ ∃x ls,Lg st (c::r) (a::as)=some (x,ls)∧K x ls:=fun h=>by
   obtain ⟨p,h1,h2⟩:=Al.1 h
   obtain ⟨y,t,h3,h4⟩:=Vn r as _ h2
   exact ⟨_,_,by simp only [Lg,h1,h3],h4⟩
  cases c with
  |grid e te kp=>
   cases a with
   |own l off len=>
    simp only [Afb] at h
    split at h
    ·rename_i hl
     split at h
     ·rename_i hc
      obtain ⟨⟨h1,h2⟩,h⟩:=h
      obtain ⟨y,t,h3,h4⟩:=Vn r as _ h
      exact ⟨_,_,by simp only [Lg,Aaj,hl];rw [dif_pos ⟨hc.1,hc.2,h1,h2⟩];simp only [h3];rfl,h4⟩
     ·exact h.elim
    ·exact h.elim
   |_=>exact old h
  |_=>exact old h
theorem Ado {st:St} {n:Nat} {as:List AC} {K:Prop} : ∀(ks:List (Nat×Nat)),Aoj st n as ks K→Ami st n as ks∧K
 | [],h=>⟨trivial,h⟩
 |(k,j)::r,h=>by
  simp only [Aoj] at h
  split at h
  ·rename_i l off len ha
   split at h
   ·rename_i p hl
    split at h
    ·rename_i hc
     simp only [Bool.and_eq_true] at hc
     obtain ⟨h1,h2⟩:=Ado r h.2
     refine ⟨?_,h2⟩
     simp only [Ami,ha,hl]
     exact ⟨⟨Nat.eq_of_beq_eq_true hc.1,h.1,hc.2⟩,h1⟩
    ·exact h.elim
   ·exact h.elim
  ·exact h.elim
theorem Za {s:Bn} {fn:Func} {x:Ins.den s.ins} {st:St} {cs:List AC} {P:CKs.den s.outs×IOs.den s.ins→Prop} (h:Ajl T s fn x st cs P):Aa9 T s fn x st cs P:=by
 obtain ⟨l,h1,h⟩:=Al.1 h
 obtain ⟨⟨as,ml⟩,h2,h⟩:=Al.1 h
 obtain ⟨r,ls,h3,h⟩:=Vn _ _ _ h
 obtain ⟨o,h4,h⟩:=Al.1 h
 split at h
 ·rename_i hc
  obtain ⟨h5,h6⟩:=Ado _ h
  unfold Aa9
  simp only [h1,h2,h3,h4]
  exact ⟨hc,h5,h6⟩
 ·exact h.elim
theorem Agm {s:Bn} {fn:Func} {x:Ins.den s.ins} {st:St} {P:CKs.den s.outs×IOs.den s.ins→Prop} (h:Ax6 T s fn x st P):Azl T s fn x st P:=by
 unfold Ax6 at h
 unfold Azl
 cases hp:s.ptr with
 |none=>rw [hp] at h;exact Za h
 |some p=>
  rw [hp] at h
  simp only at h⊢
  split at h
  ·rename_i tid vs hl
   split at h
   ·rename_i hc
    simp only [Bool.and_eq_true] at hc
    obtain ⟨h1,h2⟩:=hc
    have h1:tid=p.1:=Nat.eq_of_beq_eq_true h1
    have h2:=Nat.eq_of_beq_eq_true h2
    subst h1
    obtain ⟨cs,h3,h4⟩:=Al.1 h
    obtain ⟨h5,h6⟩:=Ry vs s.ins h4
    exact ⟨vs,cs,hl,h2,h3,h5,Za h6⟩
   ·exact h.elim
  ·exact h.elim
theorem Auo {s:Bn} {fn:Func} {x:Ins.den s.ins} {P:CKs.den s.outs×IOs.den s.ins→Prop} (h:Aeu T Γ s fn x P):Bd1 T Γ s fn x P:=by
 unfold Aeu at h
 split at h
 ·cases h
 rename_i hlen
 obtain ⟨c,h1,h2⟩:=Al.1 h
 refine ⟨hlen,c,h1,(Ag0 c _ _ (fun t b h=>by cases h) h2).mono fun e st ⟨w,h4,h5,h6⟩=>?_⟩
 subst h4
 cases e with
 |normal=>exact ⟨fun id hh=>(by cases hh),Agm h6⟩
 |ret=>exact ⟨fun id hh=>(by cases hh),Agm h6⟩
 |exit id=>cases h6
theorem Dw.ofW {P:Program} (hT:Bs P T) (hΓ:Gh P Γ) (hm:P.follows .mixedOrders=true) {f:FuncId} {fn:Func} (hf:P.funcs[f]?=some fn) (hn:(fn.name== "runtime.NumGoroutine")=false)
  (hb:fn.body.isNone=false) (s:Bn) (h: ∀x y,s.fn x=some y→Aeu T Γ s fn x (fun z=>z=y)):Dw P f s:=
 ⟨Xo hf hn hb,fun w S π us x r o g vs h1 hg h2 h3 hS h4 h5=>Akq hT hΓ hm hf s w S π us x r o g vs h1 hg h2 h3 hS h4 (Auo (h x (r,o) h5))⟩
theorem Sound.ofW {P:Program} (hT:Bs P T) (hΓ:Gh P Γ) (hm:P.follows .mixedOrders=true) {f:FuncId} {fn:Func} (hf:P.funcs[f]?=some fn) (hn:(fn.name== "runtime.NumGoroutine")=false)
  (hb:fn.body.isNone=false) (s:Spec) (h: ∀x y,s.fn x=some y→fnW T Γ s fn x (fun z=>z=y)):Sound P f s:=
 Bb4 hT hΓ hm hf hn hb s fun x y hx=>Axn (h x y hx)
end
end Go.Proofs.Ytebabhocakedaaa
