/-
  Part 34 of the proof that the statement FnExactPhaseTwoWord holds.
-/
import Derived.Test.YtebabhocakedaaaCPhaseTwoWord32
namespace Go.Proofs.Ytebabhocakedaaa
open Go.RowKit
theorem Lt {B:List (Nat×Nat×Nat)} {H:List (Nat×OB)} : ∀ {l:List AV} {K:Prop},Rv B H l K→ ∀c∈l,c.Acr=true
 | [],_,_,c,hc=>by cases hc
 |d::l,K,h,c,hc=>by
  simp only [Rv] at h
  cases d with
  |tupc l'=>exact h.elim
  | «at»a=>
   rcases List.mem_cons.1 hc with rfl|hc
   ·rfl
   ·have h':Rv B H l K:=by
     cases a with
     |own k o n=>exact h.2.2
     |_=>exact h
    exact Lt h' c hc
  |tup _ _ _=>
   rcases List.mem_cons.1 hc with rfl|hc
   ·rfl
   ·exact Lt h c hc
  |agg cs=>
   rcases List.mem_cons.1 hc with rfl|hc
   ·rfl
   ·have: ∀(cs:List AC) (Q:Prop),Uy B H cs Q→Q:=by
     intro cs
     induction cs with
     |nil=>exact fun Q h=>h
     |cons a cs ih=>
      intro Q h
      have h2:Uy B H cs Q:=by
       cases a with
       |own k o n=>exact h.2.2
       |_=>exact h
      exact ih Q h2
    exact Lt (this cs _ h) c hc
theorem Ae1: ∀(f:List Bool) (l:List AV),(∀c∈l,c.Acr=true)→ ∀c∈Mn f l,c.Acr=true
 | [],l,h=>by simpa [Mn] using h
 |true::f,[],h=>by simp [Mn] at h⊢
 |false::f,[],h=>by simp [Mn] at h⊢
 |true::f,a::l,h=>by
  intro c hc
  simp only [Mn,List.mem_cons] at hc
  rcases hc with rfl|hc
  ·rfl
  ·exact Ae1 f l (fun c hc=>h c (List.mem_cons_of_mem _ hc)) c hc
 |false::f,a::l,h=>by
  intro c hc
  simp only [Mn,List.mem_cons] at hc
  rcases hc with rfl|hc
  ·exact h c (by simp)
  ·exact Ae1 f l (fun c hc=>h c (List.mem_cons_of_mem _ hc)) c hc
theorem Bar (f:AC→AC) (H:List (Nat×OB)) (l:Nat):lenOf (H.map fun p=>(p.1,p.2.map f)) l=lenOf H l:=by
 unfold lenOf
 rw [Ig]
 cases Ad H l with
 |none=>rfl
 |some b=>cases b<;>rfl
theorem Awp (f g:AC→AC) (c:AV):(c.map f).map g=c.map fun a=>g (f a):=by
 cases c<;>simp [AV.map]
theorem Axs (f g:AC→AC) (c:OB):(c.map f).map g=c.map fun a=>g (f a):=by
 cases c<;>simp [OB.map]
theorem Auj (s:St) (f g:AC→AC):(s.Fo f).Fo g=s.Fo fun a=>g (f a):=by
 simp [St.Fo,List.map_map,Function.comp_def,Awp,Axs]
theorem Au8 (f:AC→AC) (H:List (Nat×OB)) (l:Nat): ∀(B:List (Nat×Nat×Nat)),Bap B (H.map fun p=>(p.1,p.2.map f)) l=Bap B H l
 | []=>Bar f H l
 |(k,o,n)::r=>by simp only [Bap];rw [Au8 f H l r]
theorem Awh (B:List (Nat×Nat×Nat)) (s:St):(s.Fo Kx).whole B=s.whole B:=by
 unfold St.whole
 rw [Auj]
 congr 1
 funext a
 cases a with
 |own l off len=>simp only [Kx,Yh,St.Fo,Au8]
 |_=>rfl
theorem Awf {B:List (Nat×Nat×Nat)} {s t:St} (h:s.Fo Kx=t.Fo Kx):s.whole B=t.whole B:=by rw [←Awh B s,h,Awh]
theorem Ah1 (f:AC→AC): ∀(fx:List Bool) (a b:List AV),(Nh fx a b).map (·.map f)=Nh fx (a.map (·.map f)) (b.map (·.map f))
 | [],_,_=>by simp [Nh]
 |_::_,[],_=>by simp [Nh]
 |true::_,_::_,[]=>by simp [Nh]
 |false::_,_::_,[]=>by simp [Nh]
 |true::fx,x::a,y::b=>by simp only [Nh,List.map_cons,Ah1 f fx a b]
 |false::fx,x::a,y::b=>by simp only [Nh,List.map_cons,Ah1 f fx a b]
theorem Ale (f:AC→AC) (fx:List Bool) (a b:St):(St.An2 fx a b).Fo f=St.An2 fx (a.Fo f) (b.Fo f):=by
 simp only [St.An2,St.Fo,Ah1]
theorem Ald (p:Nat→Bool): ∀(i:Nat) (l0 l1:List AV),(∀t,(l0.getD t .undef).Og=true→p (i+t)=true→l1.getD t .undef=l0.getD t .undef)→
  Nh (Gq p i l0) l0 (Mn (Gq p i l0) l1)=l1
 |_,[],l1,_=>by simp [Gq,Mn,Nh]
 |i,a::r,[],_=>by
  simp only [Gq]
  cases (a.Og&&p i)<;>simp [Mn,Nh]
 |i,a::r,b::s,h=>by
  have hr:=Ald p (i+1) r s fun t h1 h2=>by
   have:=h (t+1) (by simpa using h1) (by rw [show i+(t+1)=i+1+t by omega];exact h2)
   simpa using this
  simp only [Gq]
  cases hc:(a.Og&&p i) with
  |false=>simp only [Mn,Nh];rw [hr]
  |true=>
   simp only [Mn,Nh]
   rw [hr]
   simp only [Bool.and_eq_true] at hc
   have:=h 0 (by simpa using hc.1) hc.2
   simp only [List.getD_cons_zero] at this
   rw [this]
theorem Xf: ∀(f:List Bool) (l:List AV),(Mn f l).length=l.length
 | [],l=>by simp [Mn]
 |true::f,[]=>by simp [Mn]
 |false::f,[]=>by simp [Mn]
 |true::f,a::l=>by simp [Mn,Xf f l]
 |false::f,a::l=>by simp [Mn,Xf f l]
theorem Zb: ∀(l:List AV) {R:Type} (v:Air l R),(Nq l v).1.length=l.length
 | [],_,_=>rfl
 |c::l,_,v=>by simp [Nq,Zb l]
theorem Ap2 (p:Nat→Bool): ∀(i:Nat) (l0 l:List AV) (t:Nat),l.length=l0.length→(l0.getD t .undef).Og=true→p (i+t)=true→(Nh (Gq p i l0) l0 l).getD t .undef=l0.getD t .undef
 |_,[],_,t,_,h,_=>by simp [AV.Og] at h
 |i,a::r,[],_,h,_,_=>by simp at h
 |i,a::r,b::s,0,_,h1,h2=>by
  have:(a.Og&&p i)=true:=by
   simp only [Bool.and_eq_true]
   exact ⟨by simpa using h1,h2⟩
  simp only [Gq,this,Nh,List.getD_cons_zero]
 |i,a::r,b::s,t+1,hl,h1,h2=>by
  have hr:=Ap2 p (i+1) r s t (by simpa using hl) (by simpa using h1) (by rw [show i+1+t=i+(t+1) by omega];exact h2)
  simp only [Gq]
  cases (a.Og&&p i)<;>simpa only [Nh,List.getD_cons_succ] using hr
theorem Ac8 {B:List (Nat×Nat×Nat)} {H:List (Nat×OB)} {c:AC} {K:Prop} (h:Apx B H c K):Yh B H c=c∧K:=by
 cases c with
 |own l off len=>obtain ⟨h1,h2,h3⟩:=h;exact ⟨by rw [h1,h2];rfl,h3⟩
 |_=>exact ⟨rfl,h⟩
theorem Rz {B:List (Nat×Nat×Nat)} {H:List (Nat×OB)} : ∀ {l:List AC} {K:Prop},Uy B H l K→l.map (Yh B H)=l∧K
 | [],_,h=>⟨rfl,h⟩
 |c::l,_,h=>by
  obtain ⟨h1,h2⟩:=Ac8 h
  obtain ⟨h3,h4⟩:=Rz h2
  exact ⟨by rw [List.map_cons,h1,h3],h4⟩
theorem Amm {B:List (Nat×Nat×Nat)} {H:List (Nat×OB)} {c:AV} {K:Prop} (h:Azg B H c K):c.map (Yh B H)=c∧K:=by
 cases c with
 | «at»a=>obtain ⟨h1,h2⟩:=Ac8 h;exact ⟨by rw [AV.map,h1],h2⟩
 |agg cs=>obtain ⟨h1,h2⟩:=Rz h;exact ⟨by rw [AV.map,h1],h2⟩
 |tup _ _ _=>exact ⟨rfl,h⟩
 |tupc l=>exact h.elim
theorem Zc {B:List (Nat×Nat×Nat)} {H:List (Nat×OB)} : ∀ {l:List AV} {K:Prop},Rv B H l K→l.map (·.map (Yh B H))=l∧K
 | [],_,h=>⟨rfl,h⟩
 |c::l,_,h=>by
  obtain ⟨h1,h2⟩:=Amm h
  obtain ⟨h3,h4⟩:=Zc h2
  exact ⟨by rw [List.map_cons,h1,h3],h4⟩
theorem Ha {B:List (Nat×Nat×Nat)} {H:List (Nat×OB)} : ∀ {l:List (Nat×OB)} {K:Prop},Abr B H l K→l.map (fun p=>(p.1,p.2.map (Yh B H)))=l∧K
 | [],_,h=>⟨rfl,h⟩
 |(k, .var t vs)::l,_,h=>by
  obtain ⟨h1,h2⟩:=Rz h
  obtain ⟨h3,h4⟩:=Ha h2
  exact ⟨by rw [List.map_cons,h3];simp only [OB.map,h1],h4⟩
 |(k, .arr a b c d e)::l,_,h=>by
  obtain ⟨h3,h4⟩:=Ha (l:=l) h
  exact ⟨by rw [List.map_cons,h3];rfl,h4⟩
 |(k, .xarr a b c)::l,_,h=>by
  obtain ⟨h3,h4⟩:=Ha (l:=l) h
  exact ⟨by rw [List.map_cons,h3];rfl,h4⟩
 |(k, .grid a b c d e)::l,_,h=>by
  obtain ⟨h3,h4⟩:=Ha (l:=l) h
  exact ⟨by rw [List.map_cons,h3];rfl,h4⟩
 |(k, .smp a b)::l,_,h=>by
  obtain ⟨h3,h4⟩:=Ha (l:=l) h
  exact ⟨by rw [List.map_cons,h3];rfl,h4⟩
theorem Acx {B:List (Nat×Nat×Nat)} {s:St} {K:Prop} (h:As2 B s K):s.whole B=s∧K:=by
 obtain ⟨h1,h2⟩:=Zc h
 obtain ⟨h3,h4⟩:=Ha h2
 exact ⟨by unfold St.whole St.Fo;rw [h1,h3],h4⟩
theorem Zq (live:List Nat): ∀(i:Nat) (l:List AV) (t:Nat),i+t∉live→(Fb live i l).getD t .undef= .undef
 |_,[],_,_=>rfl
 |i,v::r,0,h=>by simp [Fb];intro hn;exact absurd hn h
 |i,v::r,t+1,h=>by
  simp only [Fb,List.getD_cons_succ]
  exact Zq live (i+1) r t (by rw [show i+1+t=i+(t+1) by omega];exact h)
theorem Yo: ∀(l:List Nat) (st:St) (t:Nat),st.get t= .undef→(Vj l st).get t= .undef
 | [],_,_,h=>h
 |a::r,st,t,h=>Yo r _ t (by
  show (st.tmps.map (·.map (Az a))).getD t .undef= .undef
  rw [Pp (Az a) rfl,show st.tmps.getD t .undef= .undef from h]
  rfl)
theorem Arl (l k:Nat) (st:St) (t:Nat) (h:st.get t= .undef):(st.rename l k).get t= .undef:=by
 unfold St.rename
 split
 ·split
  ·show (st.tmps.map (·.map (Mp l k))).getD t .undef= .undef
   rw [Pp (Mp l k) rfl,show st.tmps.getD t .undef= .undef from h]
   rfl
  ·exact h
 ·exact h
theorem Vv: ∀(n i:Nat) (st:St) (t:Nat),st.get t= .undef→(Gs n i st).get t= .undef
 |0,_,_,_,h=>h
 |n+1,i,st,t,h=>by
  simp only [Gs]
  refine Vv n (i+1) _ t ?_
  split
  ·split
   ·split
    ·exact h
    ·exact Arl _ _ _ t h
   ·exact h
  ·exact h
theorem Arh (st:St) (d:Nat) (v:AV) (t:Nat) (hne:t≠d) (h:st.get t= .undef):(st.put (some d) v).get t= .undef:=by rw [Sk _ _ hne];exact h
theorem All (k:Nat) (st:St) (t:Nat) (h:st.get t= .undef):(Sw k st).get t= .undef:=by
 unfold Sw
 split
 ·rename_i l off len hg
  split
  ·split
   ·refine Arh _ _ _ _ (fun e=>by subst e;rw [hg] at h;cases h) ?_
    show (st.tmps.map (·.map (Az l))).getD t .undef= .undef
    rw [Pp (Az l) rfl,show st.tmps.getD t .undef= .undef from h]
    rfl
   ·exact h
  ·exact h
 ·exact h
theorem Yu (live:List Nat): ∀(n i:Nat) (st:St) (t:Nat),st.get t= .undef→(Ij live n i st).get t= .undef
 |0,_,_,_,h=>h
 |n+1,i,st,t,h=>by
  simp only [Ij]
  refine Yu live n (i+1) _ t ?_
  split
  ·exact All _ _ _ h
  ·exact h
theorem Ax0 {live:List Nat} {st:St} {t:Nat} (h:((st.clean live).get t).Og=true):t∈live:=by
 refine Classical.byContradiction fun hn=>?_
 have:(st.clean live).get t= .undef:=by
  have key: ∀s:St,s.get t= .undef→(if live.contains Tv then Gs s.tmps.length 0 s else s).get t= .undef:=by
   intro s hs
   split
   ·exact Vv _ _ s t hs
   ·exact hs
  unfold St.clean
  have key0: ∀s:St,s.get t= .undef→(if live.any (fun t=>Nat.ble Qd t) then s.Ei live else s).get t= .undef:=by
   intro s hs
   split<;>exact hs
  have key1: ∀s:St,s.get t= .undef→(if live.any (fun t=>Nat.ble Kh t&&Nat.blt t Tv) then Ij live s.tmps.length 0 s else s).get t= .undef:=by
   intro s hs
   split
   ·exact Yu _ _ _ s t hs
   ·exact hs
  refine key0 _ (key _ (key1 _ (Yo _ _ t ?_)))
  exact Zq live 0 st.tmps t (by simpa using hn)
 rw [this] at h
 cases h
theorem Akv {c:AV} (h:c.Og=true): ∃fr τ,∃x:τ.den,c= .at (.data fr τ x):=by
 unfold AV.Og at h
 split at h
 ·exact ⟨_,_,_,rfl⟩
 ·cases h
theorem Bbz {live:Nat→List Nat} {c:Code} {t:Nat} (h:stays live c t=true):t∉writes c∧Sn live c t=true:=by
 unfold stays at h
 simpa using h
section
variable {T:Tab} {Γ:Env} {live:Nat→List Nat}
theorem Hx.keeps {c:Code} {st:St} {Q:Gc→St→Prop} (h:Hx T Γ live c st Q):Hx T Γ live c st (fun e s=>Q e s∧Ep (fun t=>t∉writes c∧Sn live c t=true) st s):=by
 exact Ayh h st _ Bb.Hv.on fun t ht=>ht
def wsQ (Q:Gc→WS→Prop) (e:Gc) (s:St):Prop:= ∃w':WS,w'.st=s∧w'.OK∧Q e w'
theorem Aug {c:Code} (ih: ∀(w:WS) (Q:Gc→WS→Prop),w.OK→Vc T Γ live c w Q→Hx T Γ live c w.st (wsQ Q)) {w:WS} {Q:Gc→WS→Prop} (h:Vc T Γ live (.loop c) w Q):
  Hx T Γ live (.loop c) w.st (wsQ Q):=by
 simp only [Vc,Bak,Ads] at h
 obtain ⟨hw0,I,μ,h0,hs⟩:=Acx h
 have Ad: ∀(t:Nat),((w.st.clean (live (Ce c))).get t).Og=true→stays live c t=true→ ∀v,((St.An2 (Gq (stays live c) 0 (w.st.clean (live (Ce c))).tmps) (w.st.clean (live (Ce c))) (Ab6 ((w.st.clean (live (Ce c))).mask (Gq (stays live c) 0 (w.st.clean (live (Ce c))).tmps)) v)).whole (Qe T.parts (w.st.clean (live (Ce c))).tmps)).get t=(w.st.clean (live (Ce c))).get t:=by
  intro t h1 h2 v
  have h3:=Ap2 (stays live c) 0 (w.st.clean (live (Ce c))).tmps (Ab6 ((w.st.clean (live (Ce c))).mask (Gq (stays live c) 0 (w.st.clean (live (Ce c))).tmps)) v).tmps t
   ((Zb _ _).trans (Xf _ _)) h1 (by simpa using h2)
  obtain ⟨fr,τ,x,hx⟩:=Akv h1
  refine (Ir _ _ rfl fun _ _ _=>rfl) t fr τ x ?_|>.trans hx.symm
  exact h3.trans hx
 have hmk: ∀(s1:St),(∀t,((w.st.clean (live (Ce c))).get t).Og=true→stays live c t=true→s1.get t=(w.st.clean (live (Ce c))).get t)→s1.whole (Qe T.parts (w.st.clean (live (Ce c))).tmps)=s1→ ∀v,Ab7 ((w.st.clean (live (Ce c))).mask (Gq (stays live c) 0 (w.st.clean (live (Ce c))).tmps)) (s1.mask (Gq (stays live c) 0 (w.st.clean (live (Ce c))).tmps))=some v→
   s1=(St.An2 (Gq (stays live c) 0 (w.st.clean (live (Ce c))).tmps) (w.st.clean (live (Ce c))) (Ab6 ((w.st.clean (live (Ce c))).mask (Gq (stays live c) 0 (w.st.clean (live (Ce c))).tmps)) v)).whole (Qe T.parts (w.st.clean (live (Ce c))).tmps):=by
  intro s1 hf hwh v hv
  have h1:=Ab8 hv
  have h2:St.An2 (Gq (stays live c) 0 (w.st.clean (live (Ce c))).tmps) (w.st.clean (live (Ce c))) (s1.mask (Gq (stays live c) 0 (w.st.clean (live (Ce c))).tmps))=s1:=by
   simp only [St.An2,St.mask]
   rw [Ald (stays live c) 0 (w.st.clean (live (Ce c))).tmps s1.tmps fun t h3 h4=>hf t h3 (by simpa using h4)]
  have h3:(St.An2 (Gq (stays live c) 0 (w.st.clean (live (Ce c))).tmps) (w.st.clean (live (Ce c))) (Ab6 ((w.st.clean (live (Ce c))).mask (Gq (stays live c) 0 (w.st.clean (live (Ce c))).tmps)) v)).whole (Qe T.parts (w.st.clean (live (Ce c))).tmps)=s1.whole (Qe T.parts (w.st.clean (live (Ce c))).tmps):=by
   refine Awf ?_
   rw [Ale,h1,←Ale,h2]
  rw [h3,hwh]
 refine Bbm (fun v=>(St.An2 (Gq (stays live c) 0 (w.st.clean (live (Ce c))).tmps) (w.st.clean (live (Ce c))) (Ab6 ((w.st.clean (live (Ce c))).mask (Gq (stays live c) 0 (w.st.clean (live (Ce c))).tmps)) v)).whole (Qe T.parts (w.st.clean (live (Ce c))).tmps)) I μ _ h0 (hmk _ (fun _ _ _=>rfl) hw0 _ (Aio _ (Ae1 _ _ (Lt h)))) ?_
 intro a ha
 refine (Hx.keeps (ih ⟨[],_⟩ _ (fun t b h=>by cases h) (hs a ha))).mono ?_
 intro e s hQ
 obtain ⟨⟨w',h1,h2,h3⟩,hk⟩:=hQ
 subst h1
 cases e with
 |normal=>
  obtain ⟨h4,h5⟩:=Acx h3
  obtain ⟨v',h6,h7,h8⟩:=Aq.1 h5
  refine ⟨v',hmk _ (fun t hd ht=>?_) h4 _ h6,h7,h8⟩
  obtain ⟨fr,τ,x,hx⟩:=Akv hd
  rw [hx]
  exact Acm (live (Ce c)) w'.st t fr τ x (Ax0 hd) (hk t fr τ x (Bbz ht) (by rw [Ad t hd ht a];exact hx))
 |exit id=>exact ⟨w',rfl,h2,h3⟩
 |ret=>exact ⟨w',rfl,h2,h3⟩
theorem Ahx: ∀(c:Code) (w:WS) (Q:Gc→WS→Prop),w.OK→Vc T Γ live c w Q→Hx T Γ live c w.st (wsQ Q):=by
 intro c
 induction c with
 |skip=>intro w Q hw h;exact .skip ⟨w,rfl,hw,h⟩
 |label _=>intro w Q hw h;exact .label ⟨w,rfl,hw,h⟩
 |exit _=>intro w Q hw h;exact .exit ⟨w,rfl,hw,h⟩
 |ret=>intro w Q hw h;exact .ret ⟨w,rfl,hw,h⟩
 |region id ops draw=>
  intro w Q hw h
  exact .region ((Ana hw h).mono fun s ⟨w',h1,h2,h3⟩=>⟨w',h1,h2,Xa.1 h3⟩)
 |seq x y ihx ihy=>
  intro w Q hw h
  refine Bed ((ihx w _ hw h).mono fun e s hQ=>?_)
  obtain ⟨w',h1,h2,h3⟩:=hQ
  subst h1
  cases e with
  |normal=>exact ihy w' Q h2 h3
  |exit id=>exact ⟨w',rfl,h2,h3⟩
  |ret=>exact ⟨w',rfl,h2,h3⟩
 |cond c x y ihx ihy=>
  intro w Q hw h
  obtain ⟨fr,b,w',h1,h2,h3,h4⟩:=Ao4 hw h
  refine Bbl h1 (fun hb=>?_) (fun hb=>?_)
  ·subst hb;rw [←h2];exact ihx w' Q h3 h4
  ·subst hb;rw [←h2];exact ihy w' Q h3 h4
 |block id c ih=>
  intro w Q hw h
  refine Ayg ((ih w _ hw h).mono fun e s hQ=>?_)
  obtain ⟨w',h1,h2,h3⟩:=hQ
  subst h1
  cases e with
  |normal=>exact ⟨w',rfl,h2,h3⟩
  |ret=>exact ⟨w',rfl,h2,h3⟩
  |exit id'=>
   simp only at h3
   simp only [Aoj]
   split at h3
   ·rename_i hi;rw [if_pos hi];exact ⟨w',rfl,h2,h3⟩
   ·rename_i hi;rw [if_neg hi];exact ⟨w',rfl,h2,h3⟩
 |loop c ih=>intro w Q hw h;exact Aug ih h
 |_=>intro w Q hw h;exact absurd h (by simp [Vc])
theorem Ake {s:Spec} {fn:Func} {P:s.res.den→Prop} {st:St} (h:Bgz T s fn P st): ∃fr y,Aey T s fn st=some (fr,y)∧(fr||!s.fresh)=true∧P y:=by
 obtain ⟨p,h1,h2⟩:=Aq.1 h
 split at h2
 ·rename_i hf;exact ⟨p.1,p.2,h1,hf,h2⟩
 ·cases h2
theorem Baj {s:Spec} {fn:Func} {x:s.arg.den} {P:s.res.den→Prop} (h:fnW T Γ s fn x P):Bco T Γ s fn x P:=by
 unfold fnW at h
 obtain ⟨c,h1,h2⟩:=Aq.1 h
 refine ⟨c,h1,(Ahx c _ _ (fun t b h=>by cases h) h2).mono fun e st ⟨w,h4,h5,h6⟩=>?_⟩
 subst h4
 cases e with
 |normal=>exact ⟨fun id hh=>(by cases hh),Ake h6⟩
 |ret=>exact ⟨fun id hh=>(by cases hh),Ake h6⟩
 |exit id=>cases h6
theorem Tq {st:St} {K:Prop} : ∀(vs:List AC) (cs:List (Bool×CK)),Aac st K vs cs→Aab st vs cs∧K
 | [],cs,h=>⟨by simp [Aab],by simpa [Aac] using h⟩
 |a::vs,[],h=>⟨by cases a<;>simp [Aab],by cases a<;>simpa [Aac] using h⟩
 |a::vs,(false,c)::r,h=>by
  have h:Aac st K vs r:=by cases a<;>simpa only [Aac] using h
  obtain ⟨h1,h2⟩:=Tq vs r h
  exact ⟨by cases a<;>simpa only [Aab] using h1,h2⟩
 |a::vs,(true,c)::r,h=>by
  cases a with
  |own l off len=>
   simp only [Aac] at h
   split at h
   ·rename_i hl
    obtain ⟨h1,h2⟩:=Tq vs r h.2
    refine ⟨?_,h2⟩
    simp only [Aab,hl]
    exact ⟨h.1,h1⟩
   ·rename_i hl
    obtain ⟨h1,h2⟩:=Tq vs r h.2
    refine ⟨?_,h2⟩
    simp only [Aab,hl]
    exact ⟨h.1,h1⟩
   ·exact h.elim
  |_=>exact ⟨by simp [Aab],by simpa [Aac] using h⟩
theorem Xj {st:St} : ∀(cs:List CK) (as:List AC) (K:CKs.den cs→List Nat→Prop),Ah0 st cs as K→ ∃x ls,Mo st cs as=some (x,ls)∧K x ls
 | [],[],K,h=>⟨(),[],rfl,h⟩
 | [],_::_,_,h=>h.elim
 |c::r,[],K,h=>by cases c<;>exact h.elim
 |c::r,a::as,K,h=>by
  have old:Dm (Ac7 st c a) (fun p=>Ah0 st r as fun y t=>K (p.1,y) (p.2++t))→ ∃x ls,Mo st (c::r) (a::as)=some (x,ls)∧K x ls:=fun h=>by
   obtain ⟨p,h1,h2⟩:=Aq.1 h
   obtain ⟨y,t,h3,h4⟩:=Xj r as _ h2
   exact ⟨_,_,by simp only [Mo,h1,h3],h4⟩
  cases c with
  |grid e te kp=>
   cases a with
   |own l off len=>
    simp only [Ah0] at h
    split at h
    ·rename_i hl
     split at h
     ·rename_i hc
      obtain ⟨⟨h1,h2⟩,h⟩:=h
      obtain ⟨y,t,h3,h4⟩:=Xj r as _ h
      exact ⟨_,_,by simp only [Mo,Ac7,hl];rw [dif_pos ⟨hc.1,hc.2,h1,h2⟩];simp only [h3];rfl,h4⟩
     ·exact h.elim
    ·exact h.elim
   |_=>exact old h
  |_=>exact old h
theorem Afb {st:St} {n:Nat} {as:List AC} {K:Prop} : ∀(ks:List (Nat×Nat)),Aqp st n as ks K→Aon st n as ks∧K
 | [],h=>⟨trivial,h⟩
 |(k,j)::r,h=>by
  simp only [Aqp] at h
  split at h
  ·rename_i l off len ha
   split at h
   ·rename_i p hl
    split at h
    ·rename_i hc
     simp only [Bool.and_eq_true] at hc
     obtain ⟨h1,h2⟩:=Afb r h.2
     refine ⟨?_,h2⟩
     simp only [Aon,ha,hl]
     exact ⟨⟨Nat.eq_of_beq_eq_true hc.1,h.1,hc.2⟩,h1⟩
    ·exact h.elim
   ·exact h.elim
  ·exact h.elim
theorem Aau {s:Bl} {fn:Func} {x:Ins.den s.ins} {st:St} {cs:List AC} {P:CKs.den s.outs×IOs.den s.ins→Prop} (h:Aln T s fn x st cs P):Aby T s fn x st cs P:=by
 obtain ⟨l,h1,h⟩:=Aq.1 h
 obtain ⟨⟨as,ml⟩,h2,h⟩:=Aq.1 h
 obtain ⟨r,ls,h3,h⟩:=Xj _ _ _ h
 obtain ⟨o,h4,h⟩:=Aq.1 h
 split at h
 ·rename_i hc
  obtain ⟨h5,h6⟩:=Afb _ h
  unfold Aby
  simp only [h1,h2,h3,h4]
  exact ⟨hc,h5,h6⟩
 ·exact h.elim
theorem Aij {s:Bl} {fn:Func} {x:Ins.den s.ins} {st:St} {P:CKs.den s.outs×IOs.den s.ins→Prop} (h:Azz T s fn x st P):Bcn T s fn x st P:=by
 unfold Azz at h
 unfold Bcn
 cases hp:s.ptr with
 |none=>rw [hp] at h;exact Aau h
 |some p=>
  rw [hp] at h
  simp only at h⊢
  split at h
  ·rename_i tid vs hl
   split at h
   ·rename_i hc
    simp only [Bool.and_eq_true] at hc
    obtain ⟨h1,h2⟩:=hc
    have h1:tid=p.1:=Nat.eq_of_beq_eq_true h1
    have h2:=Nat.eq_of_beq_eq_true h2
    subst h1
    obtain ⟨cs,h3,h4⟩:=Aq.1 h
    obtain ⟨h5,h6⟩:=Tq vs s.ins h4
    exact ⟨vs,cs,hl,h2,h3,h5,Aau h6⟩
   ·exact h.elim
  ·exact h.elim
theorem Ax8 {s:Bl} {fn:Func} {x:Ins.den s.ins} {P:CKs.den s.outs×IOs.den s.ins→Prop} (h:Hy T Γ s fn x P):Bgk T Γ s fn x P:=by
 unfold Hy at h
 split at h
 ·cases h
 rename_i hlen
 obtain ⟨c,h1,h2⟩:=Aq.1 h
 refine ⟨hlen,c,h1,(Ahx c _ _ (fun t b h=>by cases h) h2).mono fun e st ⟨w,h4,h5,h6⟩=>?_⟩
 subst h4
 cases e with
 |normal=>exact ⟨fun id hh=>(by cases hh),Aij h6⟩
 |ret=>exact ⟨fun id hh=>(by cases hh),Aij h6⟩
 |exit id=>cases h6
theorem Bn.ofW {P:Program} (hT:Ca P T) (hΓ:Gg P Γ) (hm:P.follows .mixedOrders=true) {f:FuncId} {fn:Func} (hf:P.funcs[f]?=some fn) (hn:(fn.name== "runtime.NumGoroutine")=false)
  (hb:fn.body.isNone=false) (s:Bl) (h: ∀x y,s.fn x=some y→Hy T Γ s fn x (fun z=>z=y)):Bn P f s:=
 ⟨Zn hf hn hb,fun w S π us x r o g vs h1 hg h2 h3 hS h4 h5=>Amq hT hΓ hm hf s w S π us x r o g vs h1 hg h2 h3 hS h4 (Ax8 (h x (r,o) h5))⟩
theorem Sound.ofW {P:Program} (hT:Ca P T) (hΓ:Gg P Γ) (hm:P.follows .mixedOrders=true) {f:FuncId} {fn:Func} (hf:P.funcs[f]?=some fn) (hn:(fn.name== "runtime.NumGoroutine")=false)
  (hb:fn.body.isNone=false) (s:Spec) (h: ∀x y,s.fn x=some y→fnW T Γ s fn x (fun z=>z=y)):Sound P f s:=
 Bef hT hΓ hm hf hn hb s fun x y hx=>Baj (h x y hx)
end
end Go.Proofs.Ytebabhocakedaaa
