/-
  Part 34 of the proof that the statement FnExactStateClassCount holds.
-/
import Derived.Test.YtebabhocakedaaaCStateClassCount32
namespace Go.Proofs.Ytebabhocakedaaa
open Go.RowKit
theorem Lj {B:List (Nat×Nat×Nat)} {H:List (Nat×OB)} : ∀ {l:List AV} {K:Prop},Qs B H l K→ ∀c∈l,c.Abl=true
 | [],_,_,c,hc=>by cases hc
 |d::l,K,h,c,hc=>by
  simp only [Qs] at h
  cases d with
  |tupc l'=>exact h.elim
  | «at»a=>
   rcases List.mem_cons.1 hc with rfl|hc
   ·rfl
   ·have h':Qs B H l K:=by
     cases a with
     |own k o n=>exact h.2.2
     |_=>exact h
    exact Lj h' c hc
  |tup _ _ _=>
   rcases List.mem_cons.1 hc with rfl|hc
   ·rfl
   ·exact Lj h c hc
  |agg cs=>
   rcases List.mem_cons.1 hc with rfl|hc
   ·rfl
   ·have: ∀(cs:List AC) (Q:Prop),Ts B H cs Q→Q:=by
     intro cs
     induction cs with
     |nil=>exact fun Q h=>h
     |cons a cs ih=>
      intro Q h
      have h2:Ts B H cs Q:=by
       cases a with
       |own k o n=>exact h.2.2
       |_=>exact h
      exact ih Q h2
    exact Lj (this cs _ h) c hc
theorem Acw: ∀(f:List Bool) (l:List AV),(∀c∈l,c.Abl=true)→ ∀c∈Ma f l,c.Abl=true
 | [],l,h=>by simpa [Ma] using h
 |true::f,[],h=>by simp [Ma] at h⊢
 |false::f,[],h=>by simp [Ma] at h⊢
 |true::f,a::l,h=>by
  intro c hc
  simp only [Ma,List.mem_cons] at hc
  rcases hc with rfl|hc
  ·rfl
  ·exact Acw f l (fun c hc=>h c (List.mem_cons_of_mem _ hc)) c hc
 |false::f,a::l,h=>by
  intro c hc
  simp only [Ma,List.mem_cons] at hc
  rcases hc with rfl|hc
  ·exact h c (by simp)
  ·exact Acw f l (fun c hc=>h c (List.mem_cons_of_mem _ hc)) c hc
theorem Az1 (f:AC→AC) (H:List (Nat×OB)) (l:Nat):lenOf (H.map fun p=>(p.1,p.2.map f)) l=lenOf H l:=by
 unfold lenOf
 rw [Hu]
 cases Ac H l with
 |none=>rfl
 |some b=>cases b<;>rfl
theorem Av0 (f g:AC→AC) (c:AV):(c.map f).map g=c.map fun a=>g (f a):=by
 cases c<;>simp [AV.map]
theorem Aw1 (f g:AC→AC) (c:OB):(c.map f).map g=c.map fun a=>g (f a):=by
 cases c<;>simp [OB.map]
theorem Ass (s:St) (f g:AC→AC):(s.Ew f).Ew g=s.Ew fun a=>g (f a):=by
 simp [St.Ew,List.map_map,Function.comp_def,Av0,Aw1]
theorem Asi (f:AC→AC) (H:List (Nat×OB)) (l:Nat): ∀(B:List (Nat×Nat×Nat)),Ayz B (H.map fun p=>(p.1,p.2.map f)) l=Ayz B H l
 | []=>Az1 f H l
 |(k,o,n)::r=>by simp only [Ayz];rw [Asi f H l r]
theorem Aus (B:List (Nat×Nat×Nat)) (s:St):(s.Ew Ko).whole B=s.whole B:=by
 unfold St.whole
 rw [Ass]
 congr 1
 funext a
 cases a with
 |own l off len=>simp only [Ko,Wy,St.Ew,Asi]
 |_=>rfl
theorem Auq {B:List (Nat×Nat×Nat)} {s t:St} (h:s.Ew Ko=t.Ew Ko):s.whole B=t.whole B:=by rw [←Aus B s,h,Aus]
theorem Aft (f:AC→AC): ∀(fx:List Bool) (a b:List AV),(Ms fx a b).map (·.map f)=Ms fx (a.map (·.map f)) (b.map (·.map f))
 | [],_,_=>by simp [Ms]
 |_::_,[],_=>by simp [Ms]
 |true::_,_::_,[]=>by simp [Ms]
 |false::_,_::_,[]=>by simp [Ms]
 |true::fx,x::a,y::b=>by simp only [Ms,List.map_cons,Aft f fx a b]
 |false::fx,x::a,y::b=>by simp only [Ms,List.map_cons,Aft f fx a b]
theorem Ajx (f:AC→AC) (fx:List Bool) (a b:St):(St.Alf fx a b).Ew f=St.Alf fx (a.Ew f) (b.Ew f):=by
 simp only [St.Alf,St.Ew,Aft]
theorem Ajw (p:Nat→Bool): ∀(i:Nat) (l0 l1:List AV),(∀t,(l0.getD t .undef).Nl=true→p (i+t)=true→l1.getD t .undef=l0.getD t .undef)→
  Ms (Gc p i l0) l0 (Ma (Gc p i l0) l1)=l1
 |_,[],l1,_=>by simp [Gc,Ma,Ms]
 |i,a::r,[],_=>by
  simp only [Gc]
  cases (a.Nl&&p i)<;>simp [Ma,Ms]
 |i,a::r,b::s,h=>by
  have hr:=Ajw p (i+1) r s fun t h1 h2=>by
   have:=h (t+1) (by simpa using h1) (by rw [show i+(t+1)=i+1+t by omega];exact h2)
   simpa using this
  simp only [Gc]
  cases hc:(a.Nl&&p i) with
  |false=>simp only [Ma,Ms];rw [hr]
  |true=>
   simp only [Ma,Ms]
   rw [hr]
   simp only [Bool.and_eq_true] at hc
   have:=h 0 (by simpa using hc.1) hc.2
   simp only [List.getD_cons_zero] at this
   rw [this]
theorem Wa: ∀(f:List Bool) (l:List AV),(Ma f l).length=l.length
 | [],l=>by simp [Ma]
 |true::f,[]=>by simp [Ma]
 |false::f,[]=>by simp [Ma]
 |true::f,a::l=>by simp [Ma,Wa f l]
 |false::f,a::l=>by simp [Ma,Wa f l]
theorem Xt: ∀(l:List AV) {R:Type} (v:Ahf l R),(Mw l v).1.length=l.length
 | [],_,_=>rfl
 |c::l,_,v=>by simp [Mw,Xt l]
theorem An8 (p:Nat→Bool): ∀(i:Nat) (l0 l:List AV) (t:Nat),l.length=l0.length→(l0.getD t .undef).Nl=true→p (i+t)=true→(Ms (Gc p i l0) l0 l).getD t .undef=l0.getD t .undef
 |_,[],_,t,_,h,_=>by simp [AV.Nl] at h
 |i,a::r,[],_,h,_,_=>by simp at h
 |i,a::r,b::s,0,_,h1,h2=>by
  have:(a.Nl&&p i)=true:=by
   simp only [Bool.and_eq_true]
   exact ⟨by simpa using h1,h2⟩
  simp only [Gc,this,Ms,List.getD_cons_zero]
 |i,a::r,b::s,t+1,hl,h1,h2=>by
  have hr:=An8 p (i+1) r s t (by simpa using hl) (by simpa using h1) (by rw [show i+1+t=i+(t+1) by omega];exact h2)
  simp only [Gc]
  cases (a.Nl&&p i)<;>simpa only [Ms,List.getD_cons_succ] using hr
theorem Ab5 {B:List (Nat×Nat×Nat)} {H:List (Nat×OB)} {c:AC} {K:Prop} (h:Ao0 B H c K):Wy B H c=c∧K:=by
 cases c with
 |own l off len=>obtain ⟨h1,h2,h3⟩:=h;exact ⟨by rw [h1,h2];rfl,h3⟩
 |_=>exact ⟨rfl,h⟩
theorem Qw {B:List (Nat×Nat×Nat)} {H:List (Nat×OB)} : ∀ {l:List AC} {K:Prop},Ts B H l K→l.map (Wy B H)=l∧K
 | [],_,h=>⟨rfl,h⟩
 |c::l,_,h=>by
  obtain ⟨h1,h2⟩:=Ab5 h
  obtain ⟨h3,h4⟩:=Qw h2
  exact ⟨by rw [List.map_cons,h1,h3],h4⟩
theorem Akz {B:List (Nat×Nat×Nat)} {H:List (Nat×OB)} {c:AV} {K:Prop} (h:Axo B H c K):c.map (Wy B H)=c∧K:=by
 cases c with
 | «at»a=>obtain ⟨h1,h2⟩:=Ab5 h;exact ⟨by rw [AV.map,h1],h2⟩
 |agg cs=>obtain ⟨h1,h2⟩:=Qw h;exact ⟨by rw [AV.map,h1],h2⟩
 |tup _ _ _=>exact ⟨rfl,h⟩
 |tupc l=>exact h.elim
theorem Xu {B:List (Nat×Nat×Nat)} {H:List (Nat×OB)} : ∀ {l:List AV} {K:Prop},Qs B H l K→l.map (·.map (Wy B H))=l∧K
 | [],_,h=>⟨rfl,h⟩
 |c::l,_,h=>by
  obtain ⟨h1,h2⟩:=Akz h
  obtain ⟨h3,h4⟩:=Xu h2
  exact ⟨by rw [List.map_cons,h1,h3],h4⟩
theorem Gm {B:List (Nat×Nat×Nat)} {H:List (Nat×OB)} : ∀ {l:List (Nat×OB)} {K:Prop},Aap B H l K→l.map (fun p=>(p.1,p.2.map (Wy B H)))=l∧K
 | [],_,h=>⟨rfl,h⟩
 |(k, .var t vs)::l,_,h=>by
  obtain ⟨h1,h2⟩:=Qw h
  obtain ⟨h3,h4⟩:=Gm h2
  exact ⟨by rw [List.map_cons,h3];simp only [OB.map,h1],h4⟩
 |(k, .arr a b c d e)::l,_,h=>by
  obtain ⟨h3,h4⟩:=Gm (l:=l) h
  exact ⟨by rw [List.map_cons,h3];rfl,h4⟩
 |(k, .xarr a b c)::l,_,h=>by
  obtain ⟨h3,h4⟩:=Gm (l:=l) h
  exact ⟨by rw [List.map_cons,h3];rfl,h4⟩
 |(k, .grid a b c d e)::l,_,h=>by
  obtain ⟨h3,h4⟩:=Gm (l:=l) h
  exact ⟨by rw [List.map_cons,h3];rfl,h4⟩
 |(k, .smp a b)::l,_,h=>by
  obtain ⟨h3,h4⟩:=Gm (l:=l) h
  exact ⟨by rw [List.map_cons,h3];rfl,h4⟩
theorem Abr {B:List (Nat×Nat×Nat)} {s:St} {K:Prop} (h:Aq8 B s K):s.whole B=s∧K:=by
 obtain ⟨h1,h2⟩:=Xu h
 obtain ⟨h3,h4⟩:=Gm h2
 exact ⟨by unfold St.whole St.Ew;rw [h1,h3],h4⟩
theorem Yk (live:List Nat): ∀(i:Nat) (l:List AV) (t:Nat),i+t∉live→(Eh live i l).getD t .undef= .undef
 |_,[],_,_=>rfl
 |i,v::r,0,h=>by simp [Eh];intro hn;exact absurd hn h
 |i,v::r,t+1,h=>by
  simp only [Eh,List.getD_cons_succ]
  exact Yk live (i+1) r t (by rw [show i+1+t=i+(t+1) by omega];exact h)
theorem Xf: ∀(l:List Nat) (st:St) (t:Nat),st.get t= .undef→(Uf l st).get t= .undef
 | [],_,_,h=>h
 |a::r,st,t,h=>Xf r _ t (by
  show (st.tmps.map (·.map (Aw a))).getD t .undef= .undef
  rw [Oo (Aw a) rfl,show st.tmps.getD t .undef= .undef from h]
  rfl)
theorem Apn (l k:Nat) (st:St) (t:Nat) (h:st.get t= .undef):(st.rename l k).get t= .undef:=by
 unfold St.rename
 split
 ·split
  ·show (st.tmps.map (·.map (Mc l k))).getD t .undef= .undef
   rw [Oo (Mc l k) rfl,show st.tmps.getD t .undef= .undef from h]
   rfl
  ·exact h
 ·exact h
theorem Us: ∀(n i:Nat) (st:St) (t:Nat),st.get t= .undef→(Ge n i st).get t= .undef
 |0,_,_,_,h=>h
 |n+1,i,st,t,h=>by
  simp only [Ge]
  refine Us n (i+1) _ t ?_
  split
  ·split
   ·split
    ·exact h
    ·exact Apn _ _ _ t h
   ·exact h
  ·exact h
theorem Apj (st:St) (d:Nat) (v:AV) (t:Nat) (hne:t≠d) (h:st.get t= .undef):(st.put (some d) v).get t= .undef:=by rw [Re _ _ hne];exact h
theorem Ak5 (k:Nat) (st:St) (t:Nat) (h:st.get t= .undef):(Rq k st).get t= .undef:=by
 unfold Rq
 split
 ·rename_i l off len hg
  split
  ·split
   ·refine Apj _ _ _ _ (fun e=>by subst e;rw [hg] at h;cases h) ?_
    show (st.tmps.map (·.map (Aw l))).getD t .undef= .undef
    rw [Oo (Aw l) rfl,show st.tmps.getD t .undef= .undef from h]
    rfl
   ·exact h
  ·exact h
 ·exact h
theorem Xm (live:List Nat): ∀(n i:Nat) (st:St) (t:Nat),st.get t= .undef→(Hx live n i st).get t= .undef
 |0,_,_,_,h=>h
 |n+1,i,st,t,h=>by
  simp only [Hx]
  refine Xm live n (i+1) _ t ?_
  split
  ·exact Ak5 _ _ _ h
  ·exact h
theorem Ava {live:List Nat} {st:St} {t:Nat} (h:((st.clean live).get t).Nl=true):t∈live:=by
 refine Classical.byContradiction fun hn=>?_
 have:(st.clean live).get t= .undef:=by
  have key: ∀s:St,s.get t= .undef→(if live.contains So then Ge s.tmps.length 0 s else s).get t= .undef:=by
   intro s hs
   split
   ·exact Us _ _ s t hs
   ·exact hs
  unfold St.clean
  have key0: ∀s:St,s.get t= .undef→(if live.any (fun t=>Nat.ble Pc t) then s.Dt live else s).get t= .undef:=by
   intro s hs
   split<;>exact hs
  have key1: ∀s:St,s.get t= .undef→(if live.any (fun t=>Nat.ble Ka t&&Nat.blt t So) then Hx live s.tmps.length 0 s else s).get t= .undef:=by
   intro s hs
   split
   ·exact Xm _ _ _ s t hs
   ·exact hs
  refine key0 _ (key _ (key1 _ (Xf _ _ t ?_)))
  exact Yk live 0 st.tmps t (by simpa using hn)
 rw [this] at h
 cases h
theorem Ajb {c:AV} (h:c.Nl=true): ∃fr τ,∃x:τ.den,c= .at (.data fr τ x):=by
 unfold AV.Nl at h
 split at h
 ·exact ⟨_,_,_,rfl⟩
 ·cases h
theorem Bad {live:Nat→List Nat} {c:Code} {t:Nat} (h:stays live c t=true):t∉writes c∧Rg live c t=true:=by
 unfold stays at h
 simpa using h
section
variable {T:Tab} {Γ:Env} {live:Nat→List Nat}
theorem Hl.keeps {c:Code} {st:St} {Q:Fg→St→Prop} (h:Hl T Γ live c st Q):Hl T Γ live c st (fun e s=>Q e s∧Dz (fun t=>t∉writes c∧Rg live c t=true) st s):=by
 exact Awp h st _ Ay.Hg.on fun t ht=>ht
def wsQ (Q:Fg→WS→Prop) (e:Fg) (s:St):Prop:= ∃w':WS,w'.st=s∧w'.OK∧Q e w'
theorem Asq {c:Code} (ih: ∀(w:WS) (Q:Fg→WS→Prop),w.OK→Tw T Γ live c w Q→Hl T Γ live c w.st (wsQ Q)) {w:WS} {Q:Fg→WS→Prop} (h:Tw T Γ live (.loop c) w Q):
  Hl T Γ live (.loop c) w.st (wsQ Q):=by
 simp only [Tw,Ayt,Ack] at h
 obtain ⟨hw0,I,μ,h0,hs⟩:=Abr h
 have Ac: ∀(t:Nat),((w.st.clean (live (Bw c))).get t).Nl=true→stays live c t=true→ ∀v,((St.Alf (Gc (stays live c) 0 (w.st.clean (live (Bw c))).tmps) (w.st.clean (live (Bw c))) (Aa2 ((w.st.clean (live (Bw c))).mask (Gc (stays live c) 0 (w.st.clean (live (Bw c))).tmps)) v)).whole (Pe T.parts (w.st.clean (live (Bw c))).tmps)).get t=(w.st.clean (live (Bw c))).get t:=by
  intro t h1 h2 v
  have h3:=An8 (stays live c) 0 (w.st.clean (live (Bw c))).tmps (Aa2 ((w.st.clean (live (Bw c))).mask (Gc (stays live c) 0 (w.st.clean (live (Bw c))).tmps)) v).tmps t
   ((Xt _ _).trans (Wa _ _)) h1 (by simpa using h2)
  obtain ⟨fr,τ,x,hx⟩:=Ajb h1
  refine (Ig _ _ rfl fun _ _ _=>rfl) t fr τ x ?_|>.trans hx.symm
  exact h3.trans hx
 have hmk: ∀(s1:St),(∀t,((w.st.clean (live (Bw c))).get t).Nl=true→stays live c t=true→s1.get t=(w.st.clean (live (Bw c))).get t)→s1.whole (Pe T.parts (w.st.clean (live (Bw c))).tmps)=s1→ ∀v,Aa3 ((w.st.clean (live (Bw c))).mask (Gc (stays live c) 0 (w.st.clean (live (Bw c))).tmps)) (s1.mask (Gc (stays live c) 0 (w.st.clean (live (Bw c))).tmps))=some v→
   s1=(St.Alf (Gc (stays live c) 0 (w.st.clean (live (Bw c))).tmps) (w.st.clean (live (Bw c))) (Aa2 ((w.st.clean (live (Bw c))).mask (Gc (stays live c) 0 (w.st.clean (live (Bw c))).tmps)) v)).whole (Pe T.parts (w.st.clean (live (Bw c))).tmps):=by
  intro s1 hf hwh v hv
  have h1:=Aa4 hv
  have h2:St.Alf (Gc (stays live c) 0 (w.st.clean (live (Bw c))).tmps) (w.st.clean (live (Bw c))) (s1.mask (Gc (stays live c) 0 (w.st.clean (live (Bw c))).tmps))=s1:=by
   simp only [St.Alf,St.mask]
   rw [Ajw (stays live c) 0 (w.st.clean (live (Bw c))).tmps s1.tmps fun t h3 h4=>hf t h3 (by simpa using h4)]
  have h3:(St.Alf (Gc (stays live c) 0 (w.st.clean (live (Bw c))).tmps) (w.st.clean (live (Bw c))) (Aa2 ((w.st.clean (live (Bw c))).mask (Gc (stays live c) 0 (w.st.clean (live (Bw c))).tmps)) v)).whole (Pe T.parts (w.st.clean (live (Bw c))).tmps)=s1.whole (Pe T.parts (w.st.clean (live (Bw c))).tmps):=by
   refine Auq ?_
   rw [Ajx,h1,←Ajx,h2]
  rw [h3,hwh]
 refine Azx (fun v=>(St.Alf (Gc (stays live c) 0 (w.st.clean (live (Bw c))).tmps) (w.st.clean (live (Bw c))) (Aa2 ((w.st.clean (live (Bw c))).mask (Gc (stays live c) 0 (w.st.clean (live (Bw c))).tmps)) v)).whole (Pe T.parts (w.st.clean (live (Bw c))).tmps)) I μ _ h0 (hmk _ (fun _ _ _=>rfl) hw0 _ (Ahc _ (Acw _ _ (Lj h)))) ?_
 intro a ha
 refine (Hl.keeps (ih ⟨[],_⟩ _ (fun t b h=>by cases h) (hs a ha))).mono ?_
 intro e s hQ
 obtain ⟨⟨w',h1,h2,h3⟩,hk⟩:=hQ
 subst h1
 cases e with
 |normal=>
  obtain ⟨h4,h5⟩:=Abr h3
  obtain ⟨v',h6,h7,h8⟩:=Al.1 h5
  refine ⟨v',hmk _ (fun t hd ht=>?_) h4 _ h6,h7,h8⟩
  obtain ⟨fr,τ,x,hx⟩:=Ajb hd
  rw [hx]
  exact Abg (live (Bw c)) w'.st t fr τ x (Ava hd) (hk t fr τ x (Bad ht) (by rw [Ac t hd ht a];exact hx))
 |exit id=>exact ⟨w',rfl,h2,h3⟩
 |ret=>exact ⟨w',rfl,h2,h3⟩
theorem Agm: ∀(c:Code) (w:WS) (Q:Fg→WS→Prop),w.OK→Tw T Γ live c w Q→Hl T Γ live c w.st (wsQ Q):=by
 intro c
 induction c with
 |skip=>intro w Q hw h;exact .skip ⟨w,rfl,hw,h⟩
 |label _=>intro w Q hw h;exact .label ⟨w,rfl,hw,h⟩
 |exit _=>intro w Q hw h;exact .exit ⟨w,rfl,hw,h⟩
 |ret=>intro w Q hw h;exact .ret ⟨w,rfl,hw,h⟩
 |region id ops draw=>
  intro w Q hw h
  exact .region ((Alo hw h).mono fun s ⟨w',h1,h2,h3⟩=>⟨w',h1,h2,Vw.1 h3⟩)
 |seq x y ihx ihy=>
  intro w Q hw h
  refine Bcg ((ihx w _ hw h).mono fun e s hQ=>?_)
  obtain ⟨w',h1,h2,h3⟩:=hQ
  subst h1
  cases e with
  |normal=>exact ihy w' Q h2 h3
  |exit id=>exact ⟨w',rfl,h2,h3⟩
  |ret=>exact ⟨w',rfl,h2,h3⟩
 |cond c x y ihx ihy=>
  intro w Q hw h
  obtain ⟨fr,b,w',h1,h2,h3,h4⟩:=Amc hw h
  refine Azw h1 (fun hb=>?_) (fun hb=>?_)
  ·subst hb;rw [←h2];exact ihx w' Q h3 h4
  ·subst hb;rw [←h2];exact ihy w' Q h3 h4
 |block id c ih=>
  intro w Q hw h
  refine Awo ((ih w _ hw h).mono fun e s hQ=>?_)
  obtain ⟨w',h1,h2,h3⟩:=hQ
  subst h1
  cases e with
  |normal=>exact ⟨w',rfl,h2,h3⟩
  |ret=>exact ⟨w',rfl,h2,h3⟩
  |exit id'=>
   simp only at h3
   simp only [Amq]
   split at h3
   ·rename_i hi;rw [if_pos hi];exact ⟨w',rfl,h2,h3⟩
   ·rename_i hi;rw [if_neg hi];exact ⟨w',rfl,h2,h3⟩
 |loop c ih=>intro w Q hw h;exact Asq ih h
 |_=>intro w Q hw h;exact absurd h (by simp [Tw])
theorem Ais {s:Spec} {fn:Func} {P:s.res.den→Prop} {st:St} (h:Bel T s fn P st): ∃fr y,Adx T s fn st=some (fr,y)∧(fr||!s.fresh)=true∧P y:=by
 obtain ⟨p,h1,h2⟩:=Al.1 h
 split at h2
 ·rename_i hf;exact ⟨p.1,p.2,h1,hf,h2⟩
 ·cases h2
theorem Ays {s:Spec} {fn:Func} {x:s.arg.den} {P:s.res.den→Prop} (h:fnW T Γ s fn x P):Bb2 T Γ s fn x P:=by
 unfold fnW at h
 obtain ⟨c,h1,h2⟩:=Al.1 h
 refine ⟨c,h1,(Agm c _ _ (fun t b h=>by cases h) h2).mono fun e st ⟨w,h4,h5,h6⟩=>?_⟩
 subst h4
 cases e with
 |normal=>exact ⟨fun id hh=>(by cases hh),Ais h6⟩
 |ret=>exact ⟨fun id hh=>(by cases hh),Ais h6⟩
 |exit id=>cases h6
theorem Sk {st:St} {K:Prop} : ∀(vs:List AC) (cs:List (Bool×CK)),Zf st K vs cs→Ze st vs cs∧K
 | [],cs,h=>⟨by simp [Ze],by simpa [Zf] using h⟩
 |a::vs,[],h=>⟨by cases a<;>simp [Ze],by cases a<;>simpa [Zf] using h⟩
 |a::vs,(false,c)::r,h=>by
  have h:Zf st K vs r:=by cases a<;>simpa only [Zf] using h
  obtain ⟨h1,h2⟩:=Sk vs r h
  exact ⟨by cases a<;>simpa only [Ze] using h1,h2⟩
 |a::vs,(true,c)::r,h=>by
  cases a with
  |own l off len=>
   simp only [Zf] at h
   split at h
   ·rename_i hl
    obtain ⟨h1,h2⟩:=Sk vs r h.2
    refine ⟨?_,h2⟩
    simp only [Ze,hl]
    exact ⟨h.1,h1⟩
   ·rename_i hl
    obtain ⟨h1,h2⟩:=Sk vs r h.2
    refine ⟨?_,h2⟩
    simp only [Ze,hl]
    exact ⟨h.1,h1⟩
   ·exact h.elim
  |_=>exact ⟨by simp [Ze],by simpa [Zf] using h⟩
theorem We {st:St} : ∀(cs:List CK) (as:List AC) (K:CKs.den cs→List Nat→Prop),Afs st cs as K→ ∃x ls,Mb st cs as=some (x,ls)∧K x ls
 | [],[],K,h=>⟨(),[],rfl,h⟩
 | [],_::_,_,h=>h.elim
 |c::r,[],K,h=>by cases c<;>exact h.elim
 |c::r,a::as,K,h=>by
  have old:Da (Ab4 st c a) (fun p=>Afs st r as fun y t=>K (p.1,y) (p.2++t))→ ∃x ls,Mb st (c::r) (a::as)=some (x,ls)∧K x ls:=fun h=>by
   obtain ⟨p,h1,h2⟩:=Al.1 h
   obtain ⟨y,t,h3,h4⟩:=We r as _ h2
   exact ⟨_,_,by simp only [Mb,h1,h3],h4⟩
  cases c with
  |grid e te kp=>
   cases a with
   |own l off len=>
    simp only [Afs] at h
    split at h
    ·rename_i hl
     split at h
     ·rename_i hc
      obtain ⟨⟨h1,h2⟩,h⟩:=h
      obtain ⟨y,t,h3,h4⟩:=We r as _ h
      exact ⟨_,_,by simp only [Mb,Ab4,hl];rw [dif_pos ⟨hc.1,hc.2,h1,h2⟩];simp only [h3];rfl,h4⟩
     ·exact h.elim
    ·exact h.elim
   |_=>exact old h
  |_=>exact old h
theorem Ae9 {st:St} {n:Nat} {as:List AC} {K:Prop} : ∀(ks:List (Nat×Nat)),Aos st n as ks K→Amu st n as ks∧K
 | [],h=>⟨trivial,h⟩
 |(k,j)::r,h=>by
  simp only [Aos] at h
  split at h
  ·rename_i l off len ha
   split at h
   ·rename_i p hl
    split at h
    ·rename_i hc
     simp only [Bool.and_eq_true] at hc
     obtain ⟨h1,h2⟩:=Ae9 r h.2
     refine ⟨?_,h2⟩
     simp only [Amu,ha,hl]
     exact ⟨⟨Nat.eq_of_beq_eq_true hc.1,h.1,hc.2⟩,h1⟩
    ·exact h.elim
   ·exact h.elim
  ·exact h.elim
theorem Zt {s:Be} {fn:Func} {x:Ins.den s.ins} {st:St} {cs:List AC} {P:CKs.den s.outs×IOs.den s.ins→Prop} (h:Ak7 T s fn x st cs P):Aav T s fn x st cs P:=by
 obtain ⟨l,h1,h⟩:=Al.1 h
 obtain ⟨⟨as,ml⟩,h2,h⟩:=Al.1 h
 obtain ⟨r,ls,h3,h⟩:=We _ _ _ h
 obtain ⟨o,h4,h⟩:=Al.1 h
 split at h
 ·rename_i hc
  obtain ⟨h5,h6⟩:=Ae9 _ h
  unfold Aav
  simp only [h1,h2,h3,h4]
  exact ⟨hc,h5,h6⟩
 ·exact h.elim
theorem Ah7 {s:Be} {fn:Func} {x:Ins.den s.ins} {st:St} {P:CKs.den s.outs×IOs.den s.ins→Prop} (h:Ay7 T s fn x st P):Bb1 T s fn x st P:=by
 unfold Ay7 at h
 unfold Bb1
 cases hp:s.ptr with
 |none=>rw [hp] at h;exact Zt h
 |some p=>
  rw [hp] at h
  simp only at h⊢
  split at h
  ·rename_i tid vs hl
   split at h
   ·rename_i hc
    simp only [Bool.and_eq_true] at hc
    obtain ⟨h1,h2⟩:=hc
    have h1:tid=p.1:=Nat.eq_of_beq_eq_true h1
    have h2:=Nat.eq_of_beq_eq_true h2
    subst h1
    obtain ⟨cs,h3,h4⟩:=Al.1 h
    obtain ⟨h5,h6⟩:=Sk vs s.ins h4
    exact ⟨vs,cs,hl,h2,h3,h5,Zt h6⟩
   ·exact h.elim
  ·exact h.elim
theorem Avh {s:Be} {fn:Func} {x:Ins.den s.ins} {P:CKs.den s.outs×IOs.den s.ins→Prop} (h:Nj T Γ s fn x P):Be7 T Γ s fn x P:=by
 unfold Nj at h
 split at h
 ·cases h
 rename_i hlen
 obtain ⟨c,h1,h2⟩:=Al.1 h
 refine ⟨hlen,c,h1,(Agm c _ _ (fun t b h=>by cases h) h2).mono fun e st ⟨w,h4,h5,h6⟩=>?_⟩
 subst h4
 cases e with
 |normal=>exact ⟨fun id hh=>(by cases hh),Ah7 h6⟩
 |ret=>exact ⟨fun id hh=>(by cases hh),Ah7 h6⟩
 |exit id=>cases h6
theorem Bi.ofW {P:Program} (hT:Bs P T) (hΓ:Gj P Γ) (hm:P.follows .mixedOrders=true) {f:FuncId} {fn:Func} (hf:P.funcs[f]?=some fn) (hn:(fn.name== "runtime.NumGoroutine")=false)
  (hb:fn.body.isNone=false) (s:Be) (h: ∀x y,s.fn x=some y→Nj T Γ s fn x (fun z=>z=y)):Bi P f s:=
 ⟨Yh hf hn hb,fun w S π us x r o g vs h1 hg h2 h3 hS h4 h5=>Al3 hT hΓ hm hf s w S π us x r o g vs h1 hg h2 h3 hS h4 (Avh (h x (r,o) h5))⟩
theorem Sound.ofW {P:Program} (hT:Bs P T) (hΓ:Gj P Γ) (hm:P.follows .mixedOrders=true) {f:FuncId} {fn:Func} (hf:P.funcs[f]?=some fn) (hn:(fn.name== "runtime.NumGoroutine")=false)
  (hb:fn.body.isNone=false) (s:Spec) (h: ∀x y,s.fn x=some y→fnW T Γ s fn x (fun z=>z=y)):Sound P f s:=
 Bcj hT hΓ hm hf hn hb s fun x y hx=>Ays (h x y hx)
end
end Go.Proofs.Ytebabhocakedaaa
