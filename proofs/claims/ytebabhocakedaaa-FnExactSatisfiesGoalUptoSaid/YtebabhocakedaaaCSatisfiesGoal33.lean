/-
  Part 34 of the proof that the statement FnExactSatisfiesGoal holds.
-/
import Derived.Test.YtebabhocakedaaaCSatisfiesGoal32
namespace Go.Proofs.Ytebabhocakedaaa
open Go.RowKit
theorem Ko {B:List (Nat×Nat×Nat)} {H:List (Nat×OB)} : ∀ {l:List AV} {K:Prop},Py B H l K→ ∀c∈l,c.Aaq=true
 | [],_,_,c,hc=>by cases hc
 |d::l,K,h,c,hc=>by
  simp only [Py] at h
  cases d with
  |tupc l'=>exact h.elim
  | «at»a=>
   rcases List.mem_cons.1 hc with rfl|hc
   ·rfl
   ·have h':Py B H l K:=by
     cases a with
     |own k o n=>exact h.2.2
     |_=>exact h
    exact Ko h' c hc
  |tup _ _ _=>
   rcases List.mem_cons.1 hc with rfl|hc
   ·rfl
   ·exact Ko h c hc
  |agg cs=>
   rcases List.mem_cons.1 hc with rfl|hc
   ·rfl
   ·have: ∀(cs:List AC) (Q:Prop),Ss B H cs Q→Q:=by
     intro cs
     induction cs with
     |nil=>exact fun Q h=>h
     |cons a cs ih=>
      intro Q h
      have h2:Ss B H cs Q:=by
       cases a with
       |own k o n=>exact h.2.2
       |_=>exact h
      exact ih Q h2
    exact Ko (this cs _ h) c hc
theorem Abv: ∀(f:List Bool) (l:List AV),(∀c∈l,c.Aaq=true)→ ∀c∈La f l,c.Aaq=true
 | [],l,h=>by simpa [La] using h
 |true::f,[],h=>by simp [La] at h⊢
 |false::f,[],h=>by simp [La] at h⊢
 |true::f,a::l,h=>by
  intro c hc
  simp only [La,List.mem_cons] at hc
  rcases hc with rfl|hc
  ·rfl
  ·exact Abv f l (fun c hc=>h c (List.mem_cons_of_mem _ hc)) c hc
 |false::f,a::l,h=>by
  intro c hc
  simp only [La,List.mem_cons] at hc
  rcases hc with rfl|hc
  ·exact h c (by simp)
  ·exact Abv f l (fun c hc=>h c (List.mem_cons_of_mem _ hc)) c hc
theorem Ax6 (f:AC→AC) (H:List (Nat×OB)) (l:Nat):lenOf (H.map fun p=>(p.1,p.2.map f)) l=lenOf H l:=by
 unfold lenOf
 rw [Hi]
 cases Ac H l with
 |none=>rfl
 |some b=>cases b<;>rfl
theorem Atf (f g:AC→AC) (c:AV):(c.map f).map g=c.map fun a=>g (f a):=by
 cases c<;>simp [AV.map]
theorem Aug (f g:AC→AC) (c:OB):(c.map f).map g=c.map fun a=>g (f a):=by
 cases c<;>simp [OB.map]
theorem Are (s:St) (f g:AC→AC):(s.Es f).Es g=s.Es fun a=>g (f a):=by
 simp [St.Es,List.map_map,Function.comp_def,Atf,Aug]
theorem Ar4 (f:AC→AC) (H:List (Nat×OB)) (l:Nat): ∀(B:List (Nat×Nat×Nat)),Ax4 B (H.map fun p=>(p.1,p.2.map f)) l=Ax4 B H l
 | []=>Ax6 f H l
 |(k,o,n)::r=>by simp only [Ax4];rw [Ar4 f H l r]
theorem At7 (B:List (Nat×Nat×Nat)) (s:St):(s.Es Ju).whole B=s.whole B:=by
 unfold St.whole
 rw [Are]
 congr 1
 funext a
 cases a with
 |own l off len=>simp only [Ju,Vy,St.Es,Ar4]
 |_=>rfl
theorem At5 {B:List (Nat×Nat×Nat)} {s t:St} (h:s.Es Ju=t.Es Ju):s.whole B=t.whole B:=by rw [←At7 B s,h,At7]
theorem Aez (f:AC→AC): ∀(fx:List Bool) (a b:List AV),(Ls fx a b).map (·.map f)=Ls fx (a.map (·.map f)) (b.map (·.map f))
 | [],_,_=>by simp [Ls]
 |_::_,[],_=>by simp [Ls]
 |true::_,_::_,[]=>by simp [Ls]
 |false::_,_::_,[]=>by simp [Ls]
 |true::fx,x::a,y::b=>by simp only [Ls,List.map_cons,Aez f fx a b]
 |false::fx,x::a,y::b=>by simp only [Ls,List.map_cons,Aez f fx a b]
theorem Aiv (f:AC→AC) (fx:List Bool) (a b:St):(St.Akb fx a b).Es f=St.Akb fx (a.Es f) (b.Es f):=by
 simp only [St.Akb,St.Es,Aez]
theorem Aiu (p:Nat→Bool): ∀(i:Nat) (l0 l1:List AV),(∀t,(l0.getD t .undef).Mo=true→p (i+t)=true→l1.getD t .undef=l0.getD t .undef)→
  Ls (Fq p i l0) l0 (La (Fq p i l0) l1)=l1
 |_,[],l1,_=>by simp [Fq,La,Ls]
 |i,a::r,[],_=>by
  simp only [Fq]
  cases (a.Mo&&p i)<;>simp [La,Ls]
 |i,a::r,b::s,h=>by
  have hr:=Aiu p (i+1) r s fun t h1 h2=>by
   have:=h (t+1) (by simpa using h1) (by rw [show i+(t+1)=i+1+t by omega];exact h2)
   simpa using this
  simp only [Fq]
  cases hc:(a.Mo&&p i) with
  |false=>simp only [La,Ls];rw [hr]
  |true=>
   simp only [La,Ls]
   rw [hr]
   simp only [Bool.and_eq_true] at hc
   have:=h 0 (by simpa using hc.1) hc.2
   simp only [List.getD_cons_zero] at this
   rw [this]
theorem Uz: ∀(f:List Bool) (l:List AV),(La f l).length=l.length
 | [],l=>by simp [La]
 |true::f,[]=>by simp [La]
 |false::f,[]=>by simp [La]
 |true::f,a::l=>by simp [La,Uz f l]
 |false::f,a::l=>by simp [La,Uz f l]
theorem Wr: ∀(l:List AV) {R:Type} (v:Agi l R),(Mb l v).1.length=l.length
 | [],_,_=>rfl
 |c::l,_,v=>by simp [Mb,Wr l]
theorem Am9 (p:Nat→Bool): ∀(i:Nat) (l0 l:List AV) (t:Nat),l.length=l0.length→(l0.getD t .undef).Mo=true→p (i+t)=true→(Ls (Fq p i l0) l0 l).getD t .undef=l0.getD t .undef
 |_,[],_,t,_,h,_=>by simp [AV.Mo] at h
 |i,a::r,[],_,h,_,_=>by simp at h
 |i,a::r,b::s,0,_,h1,h2=>by
  have:(a.Mo&&p i)=true:=by
   simp only [Bool.and_eq_true]
   exact ⟨by simpa using h1,h2⟩
  simp only [Fq,this,Ls,List.getD_cons_zero]
 |i,a::r,b::s,t+1,hl,h1,h2=>by
  have hr:=Am9 p (i+1) r s t (by simpa using hl) (by simpa using h1) (by rw [show i+1+t=i+(t+1) by omega];exact h2)
  simp only [Fq]
  cases (a.Mo&&p i)<;>simpa only [Ls,List.getD_cons_succ] using hr
theorem Aaa {B:List (Nat×Nat×Nat)} {H:List (Nat×OB)} {c:AC} {K:Prop} (h:An2 B H c K):Vy B H c=c∧K:=by
 cases c with
 |own l off len=>obtain ⟨h1,h2,h3⟩:=h;exact ⟨by rw [h1,h2];rfl,h3⟩
 |_=>exact ⟨rfl,h⟩
theorem Qd {B:List (Nat×Nat×Nat)} {H:List (Nat×OB)} : ∀ {l:List AC} {K:Prop},Ss B H l K→l.map (Vy B H)=l∧K
 | [],_,h=>⟨rfl,h⟩
 |c::l,_,h=>by
  obtain ⟨h1,h2⟩:=Aaa h
  obtain ⟨h3,h4⟩:=Qd h2
  exact ⟨by rw [List.map_cons,h1,h3],h4⟩
theorem Ajw {B:List (Nat×Nat×Nat)} {H:List (Nat×OB)} {c:AV} {K:Prop} (h:Avz B H c K):c.map (Vy B H)=c∧K:=by
 cases c with
 | «at»a=>obtain ⟨h1,h2⟩:=Aaa h;exact ⟨by rw [AV.map,h1],h2⟩
 |agg cs=>obtain ⟨h1,h2⟩:=Qd h;exact ⟨by rw [AV.map,h1],h2⟩
 |tup _ _ _=>exact ⟨rfl,h⟩
 |tupc l=>exact h.elim
theorem Ws {B:List (Nat×Nat×Nat)} {H:List (Nat×OB)} : ∀ {l:List AV} {K:Prop},Py B H l K→l.map (·.map (Vy B H))=l∧K
 | [],_,h=>⟨rfl,h⟩
 |c::l,_,h=>by
  obtain ⟨h1,h2⟩:=Ajw h
  obtain ⟨h3,h4⟩:=Ws h2
  exact ⟨by rw [List.map_cons,h1,h3],h4⟩
theorem Ge {B:List (Nat×Nat×Nat)} {H:List (Nat×OB)} : ∀ {l:List (Nat×OB)} {K:Prop},Zu B H l K→l.map (fun p=>(p.1,p.2.map (Vy B H)))=l∧K
 | [],_,h=>⟨rfl,h⟩
 |(k, .var t vs)::l,_,h=>by
  obtain ⟨h1,h2⟩:=Qd h
  obtain ⟨h3,h4⟩:=Ge h2
  exact ⟨by rw [List.map_cons,h3];simp only [OB.map,h1],h4⟩
 |(k, .arr a b c d e)::l,_,h=>by
  obtain ⟨h3,h4⟩:=Ge (l:=l) h
  exact ⟨by rw [List.map_cons,h3];rfl,h4⟩
 |(k, .xarr a b c)::l,_,h=>by
  obtain ⟨h3,h4⟩:=Ge (l:=l) h
  exact ⟨by rw [List.map_cons,h3];rfl,h4⟩
 |(k, .grid a b c d e)::l,_,h=>by
  obtain ⟨h3,h4⟩:=Ge (l:=l) h
  exact ⟨by rw [List.map_cons,h3];rfl,h4⟩
 |(k, .smp a b)::l,_,h=>by
  obtain ⟨h3,h4⟩:=Ge (l:=l) h
  exact ⟨by rw [List.map_cons,h3];rfl,h4⟩
theorem Aaw {B:List (Nat×Nat×Nat)} {s:St} {K:Prop} (h:Ap0 B s K):s.whole B=s∧K:=by
 obtain ⟨h1,h2⟩:=Ws h
 obtain ⟨h3,h4⟩:=Ge h2
 exact ⟨by unfold St.whole St.Es;rw [h1,h3],h4⟩
theorem Xh (live:List Nat): ∀(i:Nat) (l:List AV) (t:Nat),i+t∉live→(Ej live i l).getD t .undef= .undef
 |_,[],_,_=>rfl
 |i,v::r,0,h=>by simp [Ej];intro hn;exact absurd hn h
 |i,v::r,t+1,h=>by
  simp only [Ej,List.getD_cons_succ]
  exact Xh live (i+1) r t (by rw [show i+1+t=i+(t+1) by omega];exact h)
theorem Wf: ∀(l:List Nat) (st:St) (t:Nat),st.get t= .undef→(Tf l st).get t= .undef
 | [],_,_,h=>h
 |a::r,st,t,h=>Wf r _ t (by
  show (st.tmps.map (·.map (Aq a))).getD t .undef= .undef
  rw [Nu (Aq a) rfl,show st.tmps.getD t .undef= .undef from h]
  rfl)
theorem Aon (l k:Nat) (st:St) (t:Nat) (h:st.get t= .undef):(st.rename l k).get t= .undef:=by
 unfold St.rename
 split
 ·split
  ·show (st.tmps.map (·.map (Ld l k))).getD t .undef= .undef
   rw [Nu (Ld l k) rfl,show st.tmps.getD t .undef= .undef from h]
   rfl
  ·exact h
 ·exact h
theorem Ts: ∀(n i:Nat) (st:St) (t:Nat),st.get t= .undef→(Fv n i st).get t= .undef
 |0,_,_,_,h=>h
 |n+1,i,st,t,h=>by
  simp only [Fv]
  refine Ts n (i+1) _ t ?_
  split
  ·split
   ·split
    ·exact h
    ·exact Aon _ _ _ t h
   ·exact h
  ·exact h
theorem Aoj (st:St) (d:Nat) (v:AV) (t:Nat) (hne:t≠d) (h:st.get t= .undef):(st.put (some d) v).get t= .undef:=by rw [Qk _ _ hne];exact h
theorem Aj3 (k:Nat) (st:St) (t:Nat) (h:st.get t= .undef):(Qu k st).get t= .undef:=by
 unfold Qu
 split
 ·rename_i l off len hg
  split
  ·split
   ·refine Aoj _ _ _ _ (fun e=>by subst e;rw [hg] at h;cases h) ?_
    show (st.tmps.map (·.map (Aq l))).getD t .undef= .undef
    rw [Nu (Aq l) rfl,show st.tmps.getD t .undef= .undef from h]
    rfl
   ·exact h
  ·exact h
 ·exact h
theorem Wl (live:List Nat): ∀(n i:Nat) (st:St) (t:Nat),st.get t= .undef→(Hl live n i st).get t= .undef
 |0,_,_,_,h=>h
 |n+1,i,st,t,h=>by
  simp only [Hl]
  refine Wl live n (i+1) _ t ?_
  split
  ·exact Aj3 _ _ _ h
  ·exact h
theorem Atp {live:List Nat} {st:St} {t:Nat} (h:((st.clean live).get t).Mo=true):t∈live:=by
 refine Classical.byContradiction fun hn=>?_
 have:(st.clean live).get t= .undef:=by
  have key: ∀s:St,s.get t= .undef→(if live.contains Rr then Fv s.tmps.length 0 s else s).get t= .undef:=by
   intro s hs
   split
   ·exact Ts _ _ s t hs
   ·exact hs
  unfold St.clean
  have key0: ∀s:St,s.get t= .undef→(if live.any (fun t=>Nat.ble Oe t) then s.Dt live else s).get t= .undef:=by
   intro s hs
   split<;>exact hs
  have key1: ∀s:St,s.get t= .undef→(if live.any (fun t=>Nat.ble Je t&&Nat.blt t Rr) then Hl live s.tmps.length 0 s else s).get t= .undef:=by
   intro s hs
   split
   ·exact Wl _ _ _ s t hs
   ·exact hs
  refine key0 _ (key _ (key1 _ (Wf _ _ t ?_)))
  exact Xh live 0 st.tmps t (by simpa using hn)
 rw [this] at h
 cases h
theorem Aic {c:AV} (h:c.Mo=true): ∃fr τ,∃x:τ.den,c= .at (.data fr τ x):=by
 unfold AV.Mo at h
 split at h
 ·exact ⟨_,_,_,rfl⟩
 ·cases h
theorem Aya {live:Nat→List Nat} {c:Code} {t:Nat} (h:stays live c t=true):t∉writes c∧Qm live c t=true:=by
 unfold stays at h
 simpa using h
section
variable {T:Tab} {Γ:Env} {live:Nat→List Nat}
theorem Ha.keeps {c:Code} {st:St} {Q:Fb→St→Prop} (h:Ha T Γ live c st Q):Ha T Γ live c st (fun e s=>Q e s∧Dz (fun t=>t∉writes c∧Qm live c t=true) st s):=by
 exact Av3 h st _ Au.Gx.on fun t ht=>ht
def wsQ (Q:Fb→WS→Prop) (e:Fb) (s:St):Prop:= ∃w':WS,w'.st=s∧w'.OK∧Q e w'
theorem Arb {c:Code} (ih: ∀(w:WS) (Q:Fb→WS→Prop),w.OK→Sx T Γ live c w Q→Ha T Γ live c w.st (wsQ Q)) {w:WS} {Q:Fb→WS→Prop} (h:Sx T Γ live (.loop c) w Q):
  Ha T Γ live (.loop c) w.st (wsQ Q):=by
 simp only [Sx,Ax0,Abn] at h
 obtain ⟨hw0,I,μ,h0,hs⟩:=Aaw h
 have Ac: ∀(t:Nat),((w.st.clean (live (Bq c))).get t).Mo=true→stays live c t=true→ ∀v,((St.Akb (Fq (stays live c) 0 (w.st.clean (live (Bq c))).tmps) (w.st.clean (live (Bq c))) (Yy ((w.st.clean (live (Bq c))).mask (Fq (stays live c) 0 (w.st.clean (live (Bq c))).tmps)) v)).whole (Of T.parts (w.st.clean (live (Bq c))).tmps)).get t=(w.st.clean (live (Bq c))).get t:=by
  intro t h1 h2 v
  have h3:=Am9 (stays live c) 0 (w.st.clean (live (Bq c))).tmps (Yy ((w.st.clean (live (Bq c))).mask (Fq (stays live c) 0 (w.st.clean (live (Bq c))).tmps)) v).tmps t
   ((Wr _ _).trans (Uz _ _)) h1 (by simpa using h2)
  obtain ⟨fr,τ,x,hx⟩:=Aic h1
  refine (Hs _ _ rfl fun _ _ _=>rfl) t fr τ x ?_|>.trans hx.symm
  exact h3.trans hx
 have hmk: ∀(s1:St),(∀t,((w.st.clean (live (Bq c))).get t).Mo=true→stays live c t=true→s1.get t=(w.st.clean (live (Bq c))).get t)→s1.whole (Of T.parts (w.st.clean (live (Bq c))).tmps)=s1→ ∀v,Yz ((w.st.clean (live (Bq c))).mask (Fq (stays live c) 0 (w.st.clean (live (Bq c))).tmps)) (s1.mask (Fq (stays live c) 0 (w.st.clean (live (Bq c))).tmps))=some v→
   s1=(St.Akb (Fq (stays live c) 0 (w.st.clean (live (Bq c))).tmps) (w.st.clean (live (Bq c))) (Yy ((w.st.clean (live (Bq c))).mask (Fq (stays live c) 0 (w.st.clean (live (Bq c))).tmps)) v)).whole (Of T.parts (w.st.clean (live (Bq c))).tmps):=by
  intro s1 hf hwh v hv
  have h1:=Za hv
  have h2:St.Akb (Fq (stays live c) 0 (w.st.clean (live (Bq c))).tmps) (w.st.clean (live (Bq c))) (s1.mask (Fq (stays live c) 0 (w.st.clean (live (Bq c))).tmps))=s1:=by
   simp only [St.Akb,St.mask]
   rw [Aiu (stays live c) 0 (w.st.clean (live (Bq c))).tmps s1.tmps fun t h3 h4=>hf t h3 (by simpa using h4)]
  have h3:(St.Akb (Fq (stays live c) 0 (w.st.clean (live (Bq c))).tmps) (w.st.clean (live (Bq c))) (Yy ((w.st.clean (live (Bq c))).mask (Fq (stays live c) 0 (w.st.clean (live (Bq c))).tmps)) v)).whole (Of T.parts (w.st.clean (live (Bq c))).tmps)=s1.whole (Of T.parts (w.st.clean (live (Bq c))).tmps):=by
   refine At5 ?_
   rw [Aiv,h1,←Aiv,h2]
  rw [h3,hwh]
 refine Axx (fun v=>(St.Akb (Fq (stays live c) 0 (w.st.clean (live (Bq c))).tmps) (w.st.clean (live (Bq c))) (Yy ((w.st.clean (live (Bq c))).mask (Fq (stays live c) 0 (w.st.clean (live (Bq c))).tmps)) v)).whole (Of T.parts (w.st.clean (live (Bq c))).tmps)) I μ _ h0 (hmk _ (fun _ _ _=>rfl) hw0 _ (Agf _ (Abv _ _ (Ko h)))) ?_
 intro a ha
 refine (Ha.keeps (ih ⟨[],_⟩ _ (fun t b h=>by cases h) (hs a ha))).mono ?_
 intro e s hQ
 obtain ⟨⟨w',h1,h2,h3⟩,hk⟩:=hQ
 subst h1
 cases e with
 |normal=>
  obtain ⟨h4,h5⟩:=Aaw h3
  obtain ⟨v',h6,h7,h8⟩:=Ak.1 h5
  refine ⟨v',hmk _ (fun t hd ht=>?_) h4 _ h6,h7,h8⟩
  obtain ⟨fr,τ,x,hx⟩:=Aic hd
  rw [hx]
  exact Aal (live (Bq c)) w'.st t fr τ x (Atp hd) (hk t fr τ x (Aya ht) (by rw [Ac t hd ht a];exact hx))
 |exit id=>exact ⟨w',rfl,h2,h3⟩
 |ret=>exact ⟨w',rfl,h2,h3⟩
theorem Afs: ∀(c:Code) (w:WS) (Q:Fb→WS→Prop),w.OK→Sx T Γ live c w Q→Ha T Γ live c w.st (wsQ Q):=by
 intro c
 induction c with
 |skip=>intro w Q hw h;exact .skip ⟨w,rfl,hw,h⟩
 |label _=>intro w Q hw h;exact .label ⟨w,rfl,hw,h⟩
 |exit _=>intro w Q hw h;exact .exit ⟨w,rfl,hw,h⟩
 |ret=>intro w Q hw h;exact .ret ⟨w,rfl,hw,h⟩
 |region id ops draw=>
  intro w Q hw h
  exact .region ((Akm hw h).mono fun s ⟨w',h1,h2,h3⟩=>⟨w',h1,h2,Ut.1 h3⟩)
 |seq x y ihx ihy=>
  intro w Q hw h
  refine Ba8 ((ihx w _ hw h).mono fun e s hQ=>?_)
  obtain ⟨w',h1,h2,h3⟩:=hQ
  subst h1
  cases e with
  |normal=>exact ihy w' Q h2 h3
  |exit id=>exact ⟨w',rfl,h2,h3⟩
  |ret=>exact ⟨w',rfl,h2,h3⟩
 |cond c x y ihx ihy=>
  intro w Q hw h
  obtain ⟨fr,b,w',h1,h2,h3,h4⟩:=Ald hw h
  refine Axw h1 (fun hb=>?_) (fun hb=>?_)
  ·subst hb;rw [←h2];exact ihx w' Q h3 h4
  ·subst hb;rw [←h2];exact ihy w' Q h3 h4
 |block id c ih=>
  intro w Q hw h
  refine Av2 ((ih w _ hw h).mono fun e s hQ=>?_)
  obtain ⟨w',h1,h2,h3⟩:=hQ
  subst h1
  cases e with
  |normal=>exact ⟨w',rfl,h2,h3⟩
  |ret=>exact ⟨w',rfl,h2,h3⟩
  |exit id'=>
   simp only at h3
   simp only [Alr]
   split at h3
   ·rename_i hi;rw [if_pos hi];exact ⟨w',rfl,h2,h3⟩
   ·rename_i hi;rw [if_neg hi];exact ⟨w',rfl,h2,h3⟩
 |loop c ih=>intro w Q hw h;exact Arb ih h
 |_=>intro w Q hw h;exact absurd h (by simp [Sx])
theorem Ahu {s:Spec} {fn:Func} {P:s.res.den→Prop} {st:St} (h:Bcf T s fn P st): ∃fr y,Acv T s fn st=some (fr,y)∧(fr||!s.fresh)=true∧P y:=by
 obtain ⟨p,h1,h2⟩:=Ak.1 h
 split at h2
 ·rename_i hf;exact ⟨p.1,p.2,h1,hf,h2⟩
 ·cases h2
theorem Awz {s:Spec} {fn:Func} {x:s.arg.den} {P:s.res.den→Prop} (h:fnW T Γ s fn x P):Ayu T Γ s fn x P:=by
 unfold fnW at h
 obtain ⟨c,h1,h2⟩:=Ak.1 h
 refine ⟨c,h1,(Afs c _ _ (fun t b h=>by cases h) h2).mono fun e st ⟨w,h4,h5,h6⟩=>?_⟩
 subst h4
 cases e with
 |normal=>exact ⟨fun id hh=>(by cases hh),Ahu h6⟩
 |ret=>exact ⟨fun id hh=>(by cases hh),Ahu h6⟩
 |exit id=>cases h6
theorem Ro {st:St} {K:Prop} : ∀(vs:List AC) (cs:List (Bool×CK)),Yb st K vs cs→Ya st vs cs∧K
 | [],cs,h=>⟨by simp [Ya],by simpa [Yb] using h⟩
 |a::vs,[],h=>⟨by cases a<;>simp [Ya],by cases a<;>simpa [Yb] using h⟩
 |a::vs,(false,c)::r,h=>by
  have h:Yb st K vs r:=by cases a<;>simpa only [Yb] using h
  obtain ⟨h1,h2⟩:=Ro vs r h
  exact ⟨by cases a<;>simpa only [Ya] using h1,h2⟩
 |a::vs,(true,c)::r,h=>by
  cases a with
  |own l off len=>
   simp only [Yb] at h
   split at h
   ·rename_i hl
    obtain ⟨h1,h2⟩:=Ro vs r h.2
    refine ⟨?_,h2⟩
    simp only [Ya,hl]
    exact ⟨h.1,h1⟩
   ·rename_i hl
    obtain ⟨h1,h2⟩:=Ro vs r h.2
    refine ⟨?_,h2⟩
    simp only [Ya,hl]
    exact ⟨h.1,h1⟩
   ·exact h.elim
  |_=>exact ⟨by simp [Ya],by simpa [Yb] using h⟩
theorem Vd {st:St} : ∀(cs:List CK) (as:List AC) (K:CKs.den cs→List Nat→Prop),Aey st cs as K→ ∃x ls,Lc st cs as=some (x,ls)∧K x ls
 | [],[],K,h=>⟨(),[],rfl,h⟩
 | [],_::_,_,h=>h.elim
 |c::r,[],K,h=>by cases c<;>exact h.elim
 |c::r,a::as,K,h=>by
  have old:Cy (Aa9 st c a) (fun p=>Aey st r as fun y t=>K (p.1,y) (p.2++t))→ ∃x ls,Lc st (c::r) (a::as)=some (x,ls)∧K x ls:=fun h=>by
   obtain ⟨p,h1,h2⟩:=Ak.1 h
   obtain ⟨y,t,h3,h4⟩:=Vd r as _ h2
   exact ⟨_,_,by simp only [Lc,h1,h3],h4⟩
  cases c with
  |grid e te kp=>
   cases a with
   |own l off len=>
    simp only [Aey] at h
    split at h
    ·rename_i hl
     split at h
     ·rename_i hc
      obtain ⟨⟨h1,h2⟩,h⟩:=h
      obtain ⟨y,t,h3,h4⟩:=Vd r as _ h
      exact ⟨_,_,by simp only [Lc,Aa9,hl];rw [dif_pos ⟨hc.1,hc.2,h1,h2⟩];simp only [h3];rfl,h4⟩
     ·exact h.elim
    ·exact h.elim
   |_=>exact old h
  |_=>exact old h
theorem Ad7 {st:St} {n:Nat} {as:List AC} {K:Prop} : ∀(ks:List (Nat×Nat)),Anu st n as ks K→Alw st n as ks∧K
 | [],h=>⟨trivial,h⟩
 |(k,j)::r,h=>by
  simp only [Anu] at h
  split at h
  ·rename_i l off len ha
   split at h
   ·rename_i p hl
    split at h
    ·rename_i hc
     simp only [Bool.and_eq_true] at hc
     obtain ⟨h1,h2⟩:=Ad7 r h.2
     refine ⟨?_,h2⟩
     simp only [Alw,ha,hl]
     exact ⟨⟨Nat.eq_of_beq_eq_true hc.1,h.1,hc.2⟩,h1⟩
    ·exact h.elim
   ·exact h.elim
  ·exact h.elim
theorem Yr {s:Bm} {fn:Func} {x:Ins.den s.ins} {st:St} {cs:List AC} {P:CKs.den s.outs×IOs.den s.ins→Prop} (h:Aj5 T s fn x st cs P):Aa0 T s fn x st cs P:=by
 obtain ⟨l,h1,h⟩:=Ak.1 h
 obtain ⟨⟨as,ml⟩,h2,h⟩:=Ak.1 h
 obtain ⟨r,ls,h3,h⟩:=Vd _ _ _ h
 obtain ⟨o,h4,h⟩:=Ak.1 h
 split at h
 ·rename_i hc
  obtain ⟨h5,h6⟩:=Ad7 _ h
  unfold Aa0
  simp only [h1,h2,h3,h4]
  exact ⟨hc,h5,h6⟩
 ·exact h.elim
theorem Agc {s:Bm} {fn:Func} {x:Ins.den s.ins} {st:St} {P:CKs.den s.outs×IOs.den s.ins→Prop} (h:Awh T s fn x st P):Ayt T s fn x st P:=by
 unfold Awh at h
 unfold Ayt
 cases hp:s.ptr with
 |none=>rw [hp] at h;exact Yr h
 |some p=>
  rw [hp] at h
  simp only at h⊢
  split at h
  ·rename_i tid vs hl
   split at h
   ·rename_i hc
    simp only [Bool.and_eq_true] at hc
    obtain ⟨h1,h2⟩:=hc
    have h1:tid=p.1:=Nat.eq_of_beq_eq_true h1
    have h2:=Nat.eq_of_beq_eq_true h2
    subst h1
    obtain ⟨cs,h3,h4⟩:=Ak.1 h
    obtain ⟨h5,h6⟩:=Ro vs s.ins h4
    exact ⟨vs,cs,hl,h2,h3,h5,Yr h6⟩
   ·exact h.elim
  ·exact h.elim
theorem Atx {s:Bm} {fn:Func} {x:Ins.den s.ins} {P:CKs.den s.outs×IOs.den s.ins→Prop} (h:Aei T Γ s fn x P):Bc2 T Γ s fn x P:=by
 unfold Aei at h
 split at h
 ·cases h
 rename_i hlen
 obtain ⟨c,h1,h2⟩:=Ak.1 h
 refine ⟨hlen,c,h1,(Afs c _ _ (fun t b h=>by cases h) h2).mono fun e st ⟨w,h4,h5,h6⟩=>?_⟩
 subst h4
 cases e with
 |normal=>exact ⟨fun id hh=>(by cases hh),Agc h6⟩
 |ret=>exact ⟨fun id hh=>(by cases hh),Agc h6⟩
 |exit id=>cases h6
theorem Dr.ofW {P:Program} (hT:Bo P T) (hΓ:Gb P Γ) (hm:P.follows .mixedOrders=true) {f:FuncId} {fn:Func} (hf:P.funcs[f]?=some fn) (hn:(fn.name== "runtime.NumGoroutine")=false)
  (hb:fn.body.isNone=false) (s:Bm) (h: ∀x y,s.fn x=some y→Aei T Γ s fn x (fun z=>z=y)):Dr P f s:=
 ⟨Xe hf hn hb,fun w S π us x r o g vs h1 hg h2 h3 hS h4 h5=>Ak0 hT hΓ hm hf s w S π us x r o g vs h1 hg h2 h3 hS h4 (Atx (h x (r,o) h5))⟩
theorem Sound.ofW {P:Program} (hT:Bo P T) (hΓ:Gb P Γ) (hm:P.follows .mixedOrders=true) {f:FuncId} {fn:Func} (hf:P.funcs[f]?=some fn) (hn:(fn.name== "runtime.NumGoroutine")=false)
  (hb:fn.body.isNone=false) (s:Spec) (h: ∀x y,s.fn x=some y→fnW T Γ s fn x (fun z=>z=y)):Sound P f s:=
 Baa hT hΓ hm hf hn hb s fun x y hx=>Awz (h x y hx)
end
end Go.Proofs.Ytebabhocakedaaa
