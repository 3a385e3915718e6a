/-
  Part 34 of the proof that the statement FnExactSubsetPuzzle holds.
-/
import Derived.Test.YtebabhocakedaaaCSubsetPuzzle32
namespace Go.Proofs.Ytebabhocakedaaa
open Go.RowKit
theorem Lb {B:List (Nat×Nat×Nat)} {H:List (Nat×OB)} : ∀ {l:List AV} {K:Prop},Qj B H l K→ ∀c∈l,c.Abg=true
 | [],_,_,c,hc=>by cases hc
 |d::l,K,h,c,hc=>by
  simp only [Qj] at h
  cases d with
  |tupc l'=>exact h.elim
  | «at»a=>
   rcases List.mem_cons.1 hc with rfl|hc
   ·rfl
   ·have h':Qj B H l K:=by
     cases a with
     |own k o n=>exact h.2.2
     |_=>exact h
    exact Lb h' c hc
  |tup _ _ _=>
   rcases List.mem_cons.1 hc with rfl|hc
   ·rfl
   ·exact Lb h c hc
  |agg cs=>
   rcases List.mem_cons.1 hc with rfl|hc
   ·rfl
   ·have: ∀(cs:List AC) (Q:Prop),Tk B H cs Q→Q:=by
     intro cs
     induction cs with
     |nil=>exact fun Q h=>h
     |cons a cs ih=>
      intro Q h
      have h2:Tk B H cs Q:=by
       cases a with
       |own k o n=>exact h.2.2
       |_=>exact h
      exact ih Q h2
    exact Lb (this cs _ h) c hc
theorem Acn: ∀(f:List Bool) (l:List AV),(∀c∈l,c.Abg=true)→ ∀c∈Ls f l,c.Abg=true
 | [],l,h=>by simpa [Ls] using h
 |true::f,[],h=>by simp [Ls] at h⊢
 |false::f,[],h=>by simp [Ls] at h⊢
 |true::f,a::l,h=>by
  intro c hc
  simp only [Ls,List.mem_cons] at hc
  rcases hc with rfl|hc
  ·rfl
  ·exact Acn f l (fun c hc=>h c (List.mem_cons_of_mem _ hc)) c hc
 |false::f,a::l,h=>by
  intro c hc
  simp only [Ls,List.mem_cons] at hc
  rcases hc with rfl|hc
  ·exact h c (by simp)
  ·exact Acn f l (fun c hc=>h c (List.mem_cons_of_mem _ hc)) c hc
theorem Ayh (f:AC→AC) (H:List (Nat×OB)) (l:Nat):lenOf (H.map fun p=>(p.1,p.2.map f)) l=lenOf H l:=by
 unfold lenOf
 rw [Hj]
 cases Ac H l with
 |none=>rfl
 |some b=>cases b<;>rfl
theorem Auq (f g:AC→AC) (c:AV):(c.map f).map g=c.map fun a=>g (f a):=by
 cases c<;>simp [AV.map]
theorem Avr (f g:AC→AC) (c:OB):(c.map f).map g=c.map fun a=>g (f a):=by
 cases c<;>simp [OB.map]
theorem Asq (s:St) (f g:AC→AC):(s.Ev f).Ev g=s.Ev fun a=>g (f a):=by
 simp [St.Ev,List.map_map,Function.comp_def,Auq,Avr]
theorem Ase (f:AC→AC) (H:List (Nat×OB)) (l:Nat): ∀(B:List (Nat×Nat×Nat)),Ayf B (H.map fun p=>(p.1,p.2.map f)) l=Ayf B H l
 | []=>Ayh f H l
 |(k,o,n)::r=>by simp only [Ayf];rw [Ase f H l r]
theorem Aui (B:List (Nat×Nat×Nat)) (s:St):(s.Ev Ke).whole B=s.whole B:=by
 unfold St.whole
 rw [Asq]
 congr 1
 funext a
 cases a with
 |own l off len=>simp only [Ke,Ws,St.Ev,Ase]
 |_=>rfl
theorem Aug {B:List (Nat×Nat×Nat)} {s t:St} (h:s.Ev Ke=t.Ev Ke):s.whole B=t.whole B:=by rw [←Aui B s,h,Aui]
theorem Afm (f:AC→AC): ∀(fx:List Bool) (a b:List AV),(Mk fx a b).map (·.map f)=Mk fx (a.map (·.map f)) (b.map (·.map f))
 | [],_,_=>by simp [Mk]
 |_::_,[],_=>by simp [Mk]
 |true::_,_::_,[]=>by simp [Mk]
 |false::_,_::_,[]=>by simp [Mk]
 |true::fx,x::a,y::b=>by simp only [Mk,List.map_cons,Afm f fx a b]
 |false::fx,x::a,y::b=>by simp only [Mk,List.map_cons,Afm f fx a b]
theorem Aju (f:AC→AC) (fx:List Bool) (a b:St):(St.Ald fx a b).Ev f=St.Ald fx (a.Ev f) (b.Ev f):=by
 simp only [St.Ald,St.Ev,Afm]
theorem Ajt (p:Nat→Bool): ∀(i:Nat) (l0 l1:List AV),(∀t,(l0.getD t .undef).Nf=true→p (i+t)=true→l1.getD t .undef=l0.getD t .undef)→
  Mk (Fw p i l0) l0 (Ls (Fw p i l0) l1)=l1
 |_,[],l1,_=>by simp [Fw,Ls,Mk]
 |i,a::r,[],_=>by
  simp only [Fw]
  cases (a.Nf&&p i)<;>simp [Ls,Mk]
 |i,a::r,b::s,h=>by
  have hr:=Ajt p (i+1) r s fun t h1 h2=>by
   have:=h (t+1) (by simpa using h1) (by rw [show i+(t+1)=i+1+t by omega];exact h2)
   simpa using this
  simp only [Fw]
  cases hc:(a.Nf&&p i) with
  |false=>simp only [Ls,Mk];rw [hr]
  |true=>
   simp only [Ls,Mk]
   rw [hr]
   simp only [Bool.and_eq_true] at hc
   have:=h 0 (by simpa using hc.1) hc.2
   simp only [List.getD_cons_zero] at this
   rw [this]
theorem Vv: ∀(f:List Bool) (l:List AV),(Ls f l).length=l.length
 | [],l=>by simp [Ls]
 |true::f,[]=>by simp [Ls]
 |false::f,[]=>by simp [Ls]
 |true::f,a::l=>by simp [Ls,Vv f l]
 |false::f,a::l=>by simp [Ls,Vv f l]
theorem Xl: ∀(l:List AV) {R:Type} (v:Ahe l R),(Mr l v).1.length=l.length
 | [],_,_=>rfl
 |c::l,_,v=>by simp [Mr,Xl l]
theorem An5 (p:Nat→Bool): ∀(i:Nat) (l0 l:List AV) (t:Nat),l.length=l0.length→(l0.getD t .undef).Nf=true→p (i+t)=true→(Mk (Fw p i l0) l0 l).getD t .undef=l0.getD t .undef
 |_,[],_,t,_,h,_=>by simp [AV.Nf] at h
 |i,a::r,[],_,h,_,_=>by simp at h
 |i,a::r,b::s,0,_,h1,h2=>by
  have:(a.Nf&&p i)=true:=by
   simp only [Bool.and_eq_true]
   exact ⟨by simpa using h1,h2⟩
  simp only [Fw,this,Mk,List.getD_cons_zero]
 |i,a::r,b::s,t+1,hl,h1,h2=>by
  have hr:=An5 p (i+1) r s t (by simpa using hl) (by simpa using h1) (by rw [show i+1+t=i+(t+1) by omega];exact h2)
  simp only [Fw]
  cases (a.Nf&&p i)<;>simpa only [Mk,List.getD_cons_succ] using hr
theorem Ab1 {B:List (Nat×Nat×Nat)} {H:List (Nat×OB)} {c:AC} {K:Prop} (h:Anz B H c K):Ws B H c=c∧K:=by
 cases c with
 |own l off len=>obtain ⟨h1,h2,h3⟩:=h;exact ⟨by rw [h1,h2];rfl,h3⟩
 |_=>exact ⟨rfl,h⟩
theorem Qn {B:List (Nat×Nat×Nat)} {H:List (Nat×OB)} : ∀ {l:List AC} {K:Prop},Tk B H l K→l.map (Ws B H)=l∧K
 | [],_,h=>⟨rfl,h⟩
 |c::l,_,h=>by
  obtain ⟨h1,h2⟩:=Ab1 h
  obtain ⟨h3,h4⟩:=Qn h2
  exact ⟨by rw [List.map_cons,h1,h3],h4⟩
theorem Akx {B:List (Nat×Nat×Nat)} {H:List (Nat×OB)} {c:AV} {K:Prop} (h:Axc B H c K):c.map (Ws B H)=c∧K:=by
 cases c with
 | «at»a=>obtain ⟨h1,h2⟩:=Ab1 h;exact ⟨by rw [AV.map,h1],h2⟩
 |agg cs=>obtain ⟨h1,h2⟩:=Qn h;exact ⟨by rw [AV.map,h1],h2⟩
 |tup _ _ _=>exact ⟨rfl,h⟩
 |tupc l=>exact h.elim
theorem Xm {B:List (Nat×Nat×Nat)} {H:List (Nat×OB)} : ∀ {l:List AV} {K:Prop},Qj B H l K→l.map (·.map (Ws B H))=l∧K
 | [],_,h=>⟨rfl,h⟩
 |c::l,_,h=>by
  obtain ⟨h1,h2⟩:=Akx h
  obtain ⟨h3,h4⟩:=Xm h2
  exact ⟨by rw [List.map_cons,h1,h3],h4⟩
theorem Gh {B:List (Nat×Nat×Nat)} {H:List (Nat×OB)} : ∀ {l:List (Nat×OB)} {K:Prop},Aak B H l K→l.map (fun p=>(p.1,p.2.map (Ws B H)))=l∧K
 | [],_,h=>⟨rfl,h⟩
 |(k, .var t vs)::l,_,h=>by
  obtain ⟨h1,h2⟩:=Qn h
  obtain ⟨h3,h4⟩:=Gh h2
  exact ⟨by rw [List.map_cons,h3];simp only [OB.map,h1],h4⟩
 |(k, .arr a b c d e)::l,_,h=>by
  obtain ⟨h3,h4⟩:=Gh (l:=l) h
  exact ⟨by rw [List.map_cons,h3];rfl,h4⟩
 |(k, .xarr a b c)::l,_,h=>by
  obtain ⟨h3,h4⟩:=Gh (l:=l) h
  exact ⟨by rw [List.map_cons,h3];rfl,h4⟩
 |(k, .grid a b c d e)::l,_,h=>by
  obtain ⟨h3,h4⟩:=Gh (l:=l) h
  exact ⟨by rw [List.map_cons,h3];rfl,h4⟩
 |(k, .smp a b)::l,_,h=>by
  obtain ⟨h3,h4⟩:=Gh (l:=l) h
  exact ⟨by rw [List.map_cons,h3];rfl,h4⟩
theorem Abm {B:List (Nat×Nat×Nat)} {s:St} {K:Prop} (h:Aq6 B s K):s.whole B=s∧K:=by
 obtain ⟨h1,h2⟩:=Xm h
 obtain ⟨h3,h4⟩:=Gh h2
 exact ⟨by unfold St.whole St.Ev;rw [h1,h3],h4⟩
theorem Ya (live:List Nat): ∀(i:Nat) (l:List AV) (t:Nat),i+t∉live→(Ek live i l).getD t .undef= .undef
 |_,[],_,_=>rfl
 |i,v::r,0,h=>by simp [Ek];intro hn;exact absurd hn h
 |i,v::r,t+1,h=>by
  simp only [Ek,List.getD_cons_succ]
  exact Ya live (i+1) r t (by rw [show i+1+t=i+(t+1) by omega];exact h)
theorem Wz: ∀(l:List Nat) (st:St) (t:Nat),st.get t= .undef→(Tv l st).get t= .undef
 | [],_,_,h=>h
 |a::r,st,t,h=>Wz r _ t (by
  show (st.tmps.map (·.map (Au a))).getD t .undef= .undef
  rw [Oc (Au a) rfl,show st.tmps.getD t .undef= .undef from h]
  rfl)
theorem Apl (l k:Nat) (st:St) (t:Nat) (h:st.get t= .undef):(st.rename l k).get t= .undef:=by
 unfold St.rename
 split
 ·split
  ·show (st.tmps.map (·.map (Lw l k))).getD t .undef= .undef
   rw [Oc (Lw l k) rfl,show st.tmps.getD t .undef= .undef from h]
   rfl
  ·exact h
 ·exact h
theorem Uj: ∀(n i:Nat) (st:St) (t:Nat),st.get t= .undef→(Ga n i st).get t= .undef
 |0,_,_,_,h=>h
 |n+1,i,st,t,h=>by
  simp only [Ga]
  refine Uj n (i+1) _ t ?_
  split
  ·split
   ·split
    ·exact h
    ·exact Apl _ _ _ t h
   ·exact h
  ·exact h
theorem Aph (st:St) (d:Nat) (v:AV) (t:Nat) (hne:t≠d) (h:st.get t= .undef):(st.put (some d) v).get t= .undef:=by rw [Qv _ _ hne];exact h
theorem Ak0 (k:Nat) (st:St) (t:Nat) (h:st.get t= .undef):(Rg k st).get t= .undef:=by
 unfold Rg
 split
 ·rename_i l off len hg
  split
  ·split
   ·refine Aph _ _ _ _ (fun e=>by subst e;rw [hg] at h;cases h) ?_
    show (st.tmps.map (·.map (Au l))).getD t .undef= .undef
    rw [Oc (Au l) rfl,show st.tmps.getD t .undef= .undef from h]
    rfl
   ·exact h
  ·exact h
 ·exact h
theorem Xf (live:List Nat): ∀(n i:Nat) (st:St) (t:Nat),st.get t= .undef→(Hl live n i st).get t= .undef
 |0,_,_,_,h=>h
 |n+1,i,st,t,h=>by
  simp only [Hl]
  refine Xf live n (i+1) _ t ?_
  split
  ·exact Ak0 _ _ _ h
  ·exact h
theorem Av1 {live:List Nat} {st:St} {t:Nat} (h:((st.clean live).get t).Nf=true):t∈live:=by
 refine Classical.byContradiction fun hn=>?_
 have:(st.clean live).get t= .undef:=by
  have key: ∀s:St,s.get t= .undef→(if live.contains Si then Ga s.tmps.length 0 s else s).get t= .undef:=by
   intro s hs
   split
   ·exact Uj _ _ s t hs
   ·exact hs
  unfold St.clean
  have key0: ∀s:St,s.get t= .undef→(if live.any (fun t=>Nat.ble On t) then s.Dx live else s).get t= .undef:=by
   intro s hs
   split<;>exact hs
  have key1: ∀s:St,s.get t= .undef→(if live.any (fun t=>Nat.ble Jq t&&Nat.blt t Si) then Hl live s.tmps.length 0 s else s).get t= .undef:=by
   intro s hs
   split
   ·exact Xf _ _ _ s t hs
   ·exact hs
  refine key0 _ (key _ (key1 _ (Wz _ _ t ?_)))
  exact Ya live 0 st.tmps t (by simpa using hn)
 rw [this] at h
 cases h
theorem Aja {c:AV} (h:c.Nf=true): ∃fr τ,∃x:τ.den,c= .at (.data fr τ x):=by
 unfold AV.Nf at h
 split at h
 ·exact ⟨_,_,_,rfl⟩
 ·cases h
theorem Azl {live:Nat→List Nat} {c:Code} {t:Nat} (h:stays live c t=true):t∉writes c∧Qx live c t=true:=by
 unfold stays at h
 simpa using h
section
variable {T:Tab} {Γ:Env} {live:Nat→List Nat}
theorem Hb.keeps {c:Code} {st:St} {Q:Fe→St→Prop} (h:Hb T Γ live c st Q):Hb T Γ live c st (fun e s=>Q e s∧Ec (fun t=>t∉writes c∧Qx live c t=true) st s):=by
 exact Awf h st _ Aw.Gy.on fun t ht=>ht
def wsQ (Q:Fe→WS→Prop) (e:Fe) (s:St):Prop:= ∃w':WS,w'.st=s∧w'.OK∧Q e w'
theorem Asm {c:Code} (ih: ∀(w:WS) (Q:Fe→WS→Prop),w.OK→To T Γ live c w Q→Hb T Γ live c w.st (wsQ Q)) {w:WS} {Q:Fe→WS→Prop} (h:To T Γ live (.loop c) w Q):
  Hb T Γ live (.loop c) w.st (wsQ Q):=by
 simp only [To,Ayb,Ace] at h
 obtain ⟨hw0,I,μ,h0,hs⟩:=Abm h
 have Ac: ∀(t:Nat),((w.st.clean (live (Bw c))).get t).Nf=true→stays live c t=true→ ∀v,((St.Ald (Fw (stays live c) 0 (w.st.clean (live (Bw c))).tmps) (w.st.clean (live (Bw c))) (Zy ((w.st.clean (live (Bw c))).mask (Fw (stays live c) 0 (w.st.clean (live (Bw c))).tmps)) v)).whole (Oq T.parts (w.st.clean (live (Bw c))).tmps)).get t=(w.st.clean (live (Bw c))).get t:=by
  intro t h1 h2 v
  have h3:=An5 (stays live c) 0 (w.st.clean (live (Bw c))).tmps (Zy ((w.st.clean (live (Bw c))).mask (Fw (stays live c) 0 (w.st.clean (live (Bw c))).tmps)) v).tmps t
   ((Xl _ _).trans (Vv _ _)) h1 (by simpa using h2)
  obtain ⟨fr,τ,x,hx⟩:=Aja h1
  refine (Hs _ _ rfl fun _ _ _=>rfl) t fr τ x ?_|>.trans hx.symm
  exact h3.trans hx
 have hmk: ∀(s1:St),(∀t,((w.st.clean (live (Bw c))).get t).Nf=true→stays live c t=true→s1.get t=(w.st.clean (live (Bw c))).get t)→s1.whole (Oq T.parts (w.st.clean (live (Bw c))).tmps)=s1→ ∀v,Zz ((w.st.clean (live (Bw c))).mask (Fw (stays live c) 0 (w.st.clean (live (Bw c))).tmps)) (s1.mask (Fw (stays live c) 0 (w.st.clean (live (Bw c))).tmps))=some v→
   s1=(St.Ald (Fw (stays live c) 0 (w.st.clean (live (Bw c))).tmps) (w.st.clean (live (Bw c))) (Zy ((w.st.clean (live (Bw c))).mask (Fw (stays live c) 0 (w.st.clean (live (Bw c))).tmps)) v)).whole (Oq T.parts (w.st.clean (live (Bw c))).tmps):=by
  intro s1 hf hwh v hv
  have h1:=Aa0 hv
  have h2:St.Ald (Fw (stays live c) 0 (w.st.clean (live (Bw c))).tmps) (w.st.clean (live (Bw c))) (s1.mask (Fw (stays live c) 0 (w.st.clean (live (Bw c))).tmps))=s1:=by
   simp only [St.Ald,St.mask]
   rw [Ajt (stays live c) 0 (w.st.clean (live (Bw c))).tmps s1.tmps fun t h3 h4=>hf t h3 (by simpa using h4)]
  have h3:(St.Ald (Fw (stays live c) 0 (w.st.clean (live (Bw c))).tmps) (w.st.clean (live (Bw c))) (Zy ((w.st.clean (live (Bw c))).mask (Fw (stays live c) 0 (w.st.clean (live (Bw c))).tmps)) v)).whole (Oq T.parts (w.st.clean (live (Bw c))).tmps)=s1.whole (Oq T.parts (w.st.clean (live (Bw c))).tmps):=by
   refine Aug ?_
   rw [Aju,h1,←Aju,h2]
  rw [h3,hwh]
 refine Az9 (fun v=>(St.Ald (Fw (stays live c) 0 (w.st.clean (live (Bw c))).tmps) (w.st.clean (live (Bw c))) (Zy ((w.st.clean (live (Bw c))).mask (Fw (stays live c) 0 (w.st.clean (live (Bw c))).tmps)) v)).whole (Oq T.parts (w.st.clean (live (Bw c))).tmps)) I μ _ h0 (hmk _ (fun _ _ _=>rfl) hw0 _ (Ahb _ (Acn _ _ (Lb h)))) ?_
 intro a ha
 refine (Hb.keeps (ih ⟨[],_⟩ _ (fun t b h=>by cases h) (hs a ha))).mono ?_
 intro e s hQ
 obtain ⟨⟨w',h1,h2,h3⟩,hk⟩:=hQ
 subst h1
 cases e with
 |normal=>
  obtain ⟨h4,h5⟩:=Abm h3
  obtain ⟨v',h6,h7,h8⟩:=Ak.1 h5
  refine ⟨v',hmk _ (fun t hd ht=>?_) h4 _ h6,h7,h8⟩
  obtain ⟨fr,τ,x,hx⟩:=Aja hd
  rw [hx]
  exact Abc (live (Bw c)) w'.st t fr τ x (Av1 hd) (hk t fr τ x (Azl ht) (by rw [Ac t hd ht a];exact hx))
 |exit id=>exact ⟨w',rfl,h2,h3⟩
 |ret=>exact ⟨w',rfl,h2,h3⟩
theorem Agk: ∀(c:Code) (w:WS) (Q:Fe→WS→Prop),w.OK→To T Γ live c w Q→Hb T Γ live c w.st (wsQ Q):=by
 intro c
 induction c with
 |skip=>intro w Q hw h;exact .skip ⟨w,rfl,hw,h⟩
 |label _=>intro w Q hw h;exact .label ⟨w,rfl,hw,h⟩
 |exit _=>intro w Q hw h;exact .exit ⟨w,rfl,hw,h⟩
 |ret=>intro w Q hw h;exact .ret ⟨w,rfl,hw,h⟩
 |region id ops draw=>
  intro w Q hw h
  exact .region ((Alk hw h).mono fun s ⟨w',h1,h2,h3⟩=>⟨w',h1,h2,Vp.1 h3⟩)
 |seq x y ihx ihy=>
  intro w Q hw h
  refine Bbk ((ihx w _ hw h).mono fun e s hQ=>?_)
  obtain ⟨w',h1,h2,h3⟩:=hQ
  subst h1
  cases e with
  |normal=>exact ihy w' Q h2 h3
  |exit id=>exact ⟨w',rfl,h2,h3⟩
  |ret=>exact ⟨w',rfl,h2,h3⟩
 |cond c x y ihx ihy=>
  intro w Q hw h
  obtain ⟨fr,b,w',h1,h2,h3,h4⟩:=Amb hw h
  refine Az8 h1 (fun hb=>?_) (fun hb=>?_)
  ·subst hb;rw [←h2];exact ihx w' Q h3 h4
  ·subst hb;rw [←h2];exact ihy w' Q h3 h4
 |block id c ih=>
  intro w Q hw h
  refine Awe ((ih w _ hw h).mono fun e s hQ=>?_)
  obtain ⟨w',h1,h2,h3⟩:=hQ
  subst h1
  cases e with
  |normal=>exact ⟨w',rfl,h2,h3⟩
  |ret=>exact ⟨w',rfl,h2,h3⟩
  |exit id'=>
   simp only at h3
   simp only [Amp]
   split at h3
   ·rename_i hi;rw [if_pos hi];exact ⟨w',rfl,h2,h3⟩
   ·rename_i hi;rw [if_neg hi];exact ⟨w',rfl,h2,h3⟩
 |loop c ih=>intro w Q hw h;exact Asm ih h
 |_=>intro w Q hw h;exact absurd h (by simp [To])
theorem Ait {s:Spec} {fn:Func} {P:s.res.den→Prop} {st:St} (h:Bdv T s fn P st): ∃fr y,Adn T s fn st=some (fr,y)∧(fr||!s.fresh)=true∧P y:=by
 obtain ⟨p,h1,h2⟩:=Ak.1 h
 split at h2
 ·rename_i hf;exact ⟨p.1,p.2,h1,hf,h2⟩
 ·cases h2
theorem Aya {s:Spec} {fn:Func} {x:s.arg.den} {P:s.res.den→Prop} (h:fnW T Γ s fn x P):Ba5 T Γ s fn x P:=by
 unfold fnW at h
 obtain ⟨c,h1,h2⟩:=Ak.1 h
 refine ⟨c,h1,(Agk c _ _ (fun t b h=>by cases h) h2).mono fun e st ⟨w,h4,h5,h6⟩=>?_⟩
 subst h4
 cases e with
 |normal=>exact ⟨fun id hh=>(by cases hh),Ait h6⟩
 |ret=>exact ⟨fun id hh=>(by cases hh),Ait h6⟩
 |exit id=>cases h6
theorem Se {st:St} {K:Prop} : ∀(vs:List AC) (cs:List (Bool×CK)),Yv st K vs cs→Yu st vs cs∧K
 | [],cs,h=>⟨by simp [Yu],by simpa [Yv] using h⟩
 |a::vs,[],h=>⟨by cases a<;>simp [Yu],by cases a<;>simpa [Yv] using h⟩
 |a::vs,(false,c)::r,h=>by
  have h:Yv st K vs r:=by cases a<;>simpa only [Yv] using h
  obtain ⟨h1,h2⟩:=Se vs r h
  exact ⟨by cases a<;>simpa only [Yu] using h1,h2⟩
 |a::vs,(true,c)::r,h=>by
  cases a with
  |own l off len=>
   simp only [Yv] at h
   split at h
   ·rename_i hl
    obtain ⟨h1,h2⟩:=Se vs r h.2
    refine ⟨?_,h2⟩
    simp only [Yu,hl]
    exact ⟨h.1,h1⟩
   ·rename_i hl
    obtain ⟨h1,h2⟩:=Se vs r h.2
    refine ⟨?_,h2⟩
    simp only [Yu,hl]
    exact ⟨h.1,h1⟩
   ·exact h.elim
  |_=>exact ⟨by simp [Yu],by simpa [Yv] using h⟩
theorem Vz {st:St} : ∀(cs:List CK) (as:List AC) (K:CKs.den cs→List Nat→Prop),Afl st cs as K→ ∃x ls,Lu st cs as=some (x,ls)∧K x ls
 | [],[],K,h=>⟨(),[],rfl,h⟩
 | [],_::_,_,h=>h.elim
 |c::r,[],K,h=>by cases c<;>exact h.elim
 |c::r,a::as,K,h=>by
  have old:Dd (Ab0 st c a) (fun p=>Afl st r as fun y t=>K (p.1,y) (p.2++t))→ ∃x ls,Lu st (c::r) (a::as)=some (x,ls)∧K x ls:=fun h=>by
   obtain ⟨p,h1,h2⟩:=Ak.1 h
   obtain ⟨y,t,h3,h4⟩:=Vz r as _ h2
   exact ⟨_,_,by simp only [Lu,h1,h3],h4⟩
  cases c with
  |grid e te kp=>
   cases a with
   |own l off len=>
    simp only [Afl] at h
    split at h
    ·rename_i hl
     split at h
     ·rename_i hc
      obtain ⟨⟨h1,h2⟩,h⟩:=h
      obtain ⟨y,t,h3,h4⟩:=Vz r as _ h
      exact ⟨_,_,by simp only [Lu,Ab0,hl];rw [dif_pos ⟨hc.1,hc.2,h1,h2⟩];simp only [h3];rfl,h4⟩
     ·exact h.elim
    ·exact h.elim
   |_=>exact old h
  |_=>exact old h
theorem Adz {st:St} {n:Nat} {as:List AC} {K:Prop} : ∀(ks:List (Nat×Nat)),Aoq st n as ks K→Amt st n as ks∧K
 | [],h=>⟨trivial,h⟩
 |(k,j)::r,h=>by
  simp only [Aoq] at h
  split at h
  ·rename_i l off len ha
   split at h
   ·rename_i p hl
    split at h
    ·rename_i hc
     simp only [Bool.and_eq_true] at hc
     obtain ⟨h1,h2⟩:=Adz r h.2
     refine ⟨?_,h2⟩
     simp only [Amt,ha,hl]
     exact ⟨⟨Nat.eq_of_beq_eq_true hc.1,h.1,hc.2⟩,h1⟩
    ·exact h.elim
   ·exact h.elim
  ·exact h.elim
theorem Zn {s:Be} {fn:Func} {x:Ins.den s.ins} {st:St} {cs:List AC} {P:CKs.den s.outs×IOs.den s.ins→Prop} (h:Ak2 T s fn x st cs P):Aar T s fn x st cs P:=by
 obtain ⟨l,h1,h⟩:=Ak.1 h
 obtain ⟨⟨as,ml⟩,h2,h⟩:=Ak.1 h
 obtain ⟨r,ls,h3,h⟩:=Vz _ _ _ h
 obtain ⟨o,h4,h⟩:=Ak.1 h
 split at h
 ·rename_i hc
  obtain ⟨h5,h6⟩:=Adz _ h
  unfold Aar
  simp only [h1,h2,h3,h4]
  exact ⟨hc,h5,h6⟩
 ·exact h.elim
theorem Ah6 {s:Be} {fn:Func} {x:Ins.den s.ins} {st:St} {P:CKs.den s.outs×IOs.den s.ins→Prop} (h:Axt T s fn x st P):Ba4 T s fn x st P:=by
 unfold Axt at h
 unfold Ba4
 cases hp:s.ptr with
 |none=>rw [hp] at h;exact Zn h
 |some p=>
  rw [hp] at h
  simp only at h⊢
  split at h
  ·rename_i tid vs hl
   split at h
   ·rename_i hc
    simp only [Bool.and_eq_true] at hc
    obtain ⟨h1,h2⟩:=hc
    have h1:tid=p.1:=Nat.eq_of_beq_eq_true h1
    have h2:=Nat.eq_of_beq_eq_true h2
    subst h1
    obtain ⟨cs,h3,h4⟩:=Ak.1 h
    obtain ⟨h5,h6⟩:=Se vs s.ins h4
    exact ⟨vs,cs,hl,h2,h3,h5,Zn h6⟩
   ·exact h.elim
  ·exact h.elim
theorem Av9 {s:Be} {fn:Func} {x:Ins.den s.ins} {P:CKs.den s.outs×IOs.den s.ins→Prop} (h:Lf T Γ s fn x P):Bdh T Γ s fn x P:=by
 unfold Lf at h
 split at h
 ·cases h
 rename_i hlen
 obtain ⟨c,h1,h2⟩:=Ak.1 h
 refine ⟨hlen,c,h1,(Agk c _ _ (fun t b h=>by cases h) h2).mono fun e st ⟨w,h4,h5,h6⟩=>?_⟩
 subst h4
 cases e with
 |normal=>exact ⟨fun id hh=>(by cases hh),Ah6 h6⟩
 |ret=>exact ⟨fun id hh=>(by cases hh),Ah6 h6⟩
 |exit id=>cases h6
theorem Bp.ofW {P:Program} (hT:Bt P T) (hΓ:Fl P Γ) (hm:P.follows .mixedOrders=true) {f:FuncId} {fn:Func} (hf:P.funcs[f]?=some fn) (hn:(fn.name== "runtime.NumGoroutine")=false)
  (hb:fn.body.isNone=false) (s:Be) (h: ∀x y,s.fn x=some y→Lf T Γ s fn x (fun z=>z=y)):Bp P f s:=
 ⟨Xx hf hn hb,fun w S π us x r o g vs h1 hg h2 h3 hS h4 h5=>Al1 hT hΓ hm hf s w S π us x r o g vs h1 hg h2 h3 hS h4 (Av9 (h x (r,o) h5))⟩
theorem Sound.ofW {P:Program} (hT:Bt P T) (hΓ:Fl P Γ) (hm:P.follows .mixedOrders=true) {f:FuncId} {fn:Func} (hf:P.funcs[f]?=some fn) (hn:(fn.name== "runtime.NumGoroutine")=false)
  (hb:fn.body.isNone=false) (s:Spec) (h: ∀x y,s.fn x=some y→fnW T Γ s fn x (fun z=>z=y)):Sound P f s:=
 Bbm hT hΓ hm hf hn hb s fun x y hx=>Aya (h x y hx)
end
end Go.Proofs.Ytebabhocakedaaa
