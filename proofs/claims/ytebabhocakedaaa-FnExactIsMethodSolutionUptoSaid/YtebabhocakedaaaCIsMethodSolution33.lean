/-
  Part 34 of the proof that the statement FnExactIsMethodSolution holds.
-/
import Derived.Test.YtebabhocakedaaaCIsMethodSolution32
namespace Go.Proofs.Ytebabhocakedaaa
open Go.RowKit
theorem Lf {B:List (Nat×Nat×Nat)} {H:List (Nat×OB)} : ∀ {l:List AV} {K:Prop},Qr B H l K→ ∀c∈l,c.Abf=true
 | [],_,_,c,hc=>by cases hc
 |d::l,K,h,c,hc=>by
  simp only [Qr] at h
  cases d with
  |tupc l'=>exact h.elim
  | «at»a=>
   rcases List.mem_cons.1 hc with rfl|hc
   ·rfl
   ·have h':Qr B H l K:=by
     cases a with
     |own k o n=>exact h.2.2
     |_=>exact h
    exact Lf h' c hc
  |tup _ _ _=>
   rcases List.mem_cons.1 hc with rfl|hc
   ·rfl
   ·exact Lf h c hc
  |agg cs=>
   rcases List.mem_cons.1 hc with rfl|hc
   ·rfl
   ·have: ∀(cs:List AC) (Q:Prop),Tm B H cs Q→Q:=by
     intro cs
     induction cs with
     |nil=>exact fun Q h=>h
     |cons a cs ih=>
      intro Q h
      have h2:Tm B H cs Q:=by
       cases a with
       |own k o n=>exact h.2.2
       |_=>exact h
      exact ih Q h2
    exact Lf (this cs _ h) c hc
theorem Acm: ∀(f:List Bool) (l:List AV),(∀c∈l,c.Abf=true)→ ∀c∈Lr f l,c.Abf=true
 | [],l,h=>by simpa [Lr] using h
 |true::f,[],h=>by simp [Lr] at h⊢
 |false::f,[],h=>by simp [Lr] at h⊢
 |true::f,a::l,h=>by
  intro c hc
  simp only [Lr,List.mem_cons] at hc
  rcases hc with rfl|hc
  ·rfl
  ·exact Acm f l (fun c hc=>h c (List.mem_cons_of_mem _ hc)) c hc
 |false::f,a::l,h=>by
  intro c hc
  simp only [Lr,List.mem_cons] at hc
  rcases hc with rfl|hc
  ·exact h c (by simp)
  ·exact Acm f l (fun c hc=>h c (List.mem_cons_of_mem _ hc)) c hc
theorem Ayy (f:AC→AC) (H:List (Nat×OB)) (l:Nat):lenOf (H.map fun p=>(p.1,p.2.map f)) l=lenOf H l:=by
 unfold lenOf
 rw [Hw]
 cases Ac H l with
 |none=>rfl
 |some b=>cases b<;>rfl
theorem Av2 (f g:AC→AC) (c:AV):(c.map f).map g=c.map fun a=>g (f a):=by
 cases c<;>simp [AV.map]
theorem Aw3 (f g:AC→AC) (c:OB):(c.map f).map g=c.map fun a=>g (f a):=by
 cases c<;>simp [OB.map]
theorem Asy (s:St) (f g:AC→AC):(s.Fc f).Fc g=s.Fc fun a=>g (f a):=by
 simp [St.Fc,List.map_map,Function.comp_def,Av2,Aw3]
theorem Asn (f:AC→AC) (H:List (Nat×OB)) (l:Nat): ∀(B:List (Nat×Nat×Nat)),Ayw B (H.map fun p=>(p.1,p.2.map f)) l=Ayw B H l
 | []=>Ayy f H l
 |(k,o,n)::r=>by simp only [Ayw];rw [Asn f H l r]
theorem Aut (B:List (Nat×Nat×Nat)) (s:St):(s.Fc Kh).whole B=s.whole B:=by
 unfold St.whole
 rw [Asy]
 congr 1
 funext a
 cases a with
 |own l off len=>simp only [Kh,Wu,St.Fc,Asn]
 |_=>rfl
theorem Aur {B:List (Nat×Nat×Nat)} {s t:St} (h:s.Fc Kh=t.Fc Kh):s.whole B=t.whole B:=by rw [←Aut B s,h,Aut]
theorem Aft (f:AC→AC): ∀(fx:List Bool) (a b:List AV),(Mj fx a b).map (·.map f)=Mj fx (a.map (·.map f)) (b.map (·.map f))
 | [],_,_=>by simp [Mj]
 |_::_,[],_=>by simp [Mj]
 |true::_,_::_,[]=>by simp [Mj]
 |false::_,_::_,[]=>by simp [Mj]
 |true::fx,x::a,y::b=>by simp only [Mj,List.map_cons,Aft f fx a b]
 |false::fx,x::a,y::b=>by simp only [Mj,List.map_cons,Aft f fx a b]
theorem Ajr (f:AC→AC) (fx:List Bool) (a b:St):(St.Alh fx a b).Fc f=St.Alh fx (a.Fc f) (b.Fc f):=by
 simp only [St.Alh,St.Fc,Aft]
theorem Ajq (p:Nat→Bool): ∀(i:Nat) (l0 l1:List AV),(∀t,(l0.getD t .undef).Nf=true→p (i+t)=true→l1.getD t .undef=l0.getD t .undef)→
  Mj (Gd p i l0) l0 (Lr (Gd p i l0) l1)=l1
 |_,[],l1,_=>by simp [Gd,Lr,Mj]
 |i,a::r,[],_=>by
  simp only [Gd]
  cases (a.Nf&&p i)<;>simp [Lr,Mj]
 |i,a::r,b::s,h=>by
  have hr:=Ajq p (i+1) r s fun t h1 h2=>by
   have:=h (t+1) (by simpa using h1) (by rw [show i+(t+1)=i+1+t by omega];exact h2)
   simpa using this
  simp only [Gd]
  cases hc:(a.Nf&&p i) with
  |false=>simp only [Lr,Mj];rw [hr]
  |true=>
   simp only [Lr,Mj]
   rw [hr]
   simp only [Bool.and_eq_true] at hc
   have:=h 0 (by simpa using hc.1) hc.2
   simp only [List.getD_cons_zero] at this
   rw [this]
theorem Vu: ∀(f:List Bool) (l:List AV),(Lr f l).length=l.length
 | [],l=>by simp [Lr]
 |true::f,[]=>by simp [Lr]
 |false::f,[]=>by simp [Lr]
 |true::f,a::l=>by simp [Lr,Vu f l]
 |false::f,a::l=>by simp [Lr,Vu f l]
theorem Xm: ∀(l:List AV) {R:Type} (v:Ahc l R),(Mr l v).1.length=l.length
 | [],_,_=>rfl
 |c::l,_,v=>by simp [Mr,Xm l]
theorem Ani (p:Nat→Bool): ∀(i:Nat) (l0 l:List AV) (t:Nat),l.length=l0.length→(l0.getD t .undef).Nf=true→p (i+t)=true→(Mj (Gd p i l0) l0 l).getD t .undef=l0.getD t .undef
 |_,[],_,t,_,h,_=>by simp [AV.Nf] at h
 |i,a::r,[],_,h,_,_=>by simp at h
 |i,a::r,b::s,0,_,h1,h2=>by
  have:(a.Nf&&p i)=true:=by
   simp only [Bool.and_eq_true]
   exact ⟨by simpa using h1,h2⟩
  simp only [Gd,this,Mj,List.getD_cons_zero]
 |i,a::r,b::s,t+1,hl,h1,h2=>by
  have hr:=Ani p (i+1) r s t (by simpa using hl) (by simpa using h1) (by rw [show i+1+t=i+(t+1) by omega];exact h2)
  simp only [Gd]
  cases (a.Nf&&p i)<;>simpa only [Mj,List.getD_cons_succ] using hr
theorem Ab0 {B:List (Nat×Nat×Nat)} {H:List (Nat×OB)} {c:AC} {K:Prop} (h:Aoh B H c K):Wu B H c=c∧K:=by
 cases c with
 |own l off len=>obtain ⟨h1,h2,h3⟩:=h;exact ⟨by rw [h1,h2];rfl,h3⟩
 |_=>exact ⟨rfl,h⟩
theorem Qw {B:List (Nat×Nat×Nat)} {H:List (Nat×OB)} : ∀ {l:List AC} {K:Prop},Tm B H l K→l.map (Wu B H)=l∧K
 | [],_,h=>⟨rfl,h⟩
 |c::l,_,h=>by
  obtain ⟨h1,h2⟩:=Ab0 h
  obtain ⟨h3,h4⟩:=Qw h2
  exact ⟨by rw [List.map_cons,h1,h3],h4⟩
theorem Al2 {B:List (Nat×Nat×Nat)} {H:List (Nat×OB)} {c:AV} {K:Prop} (h:Axo B H c K):c.map (Wu B H)=c∧K:=by
 cases c with
 | «at»a=>obtain ⟨h1,h2⟩:=Ab0 h;exact ⟨by rw [AV.map,h1],h2⟩
 |agg cs=>obtain ⟨h1,h2⟩:=Qw h;exact ⟨by rw [AV.map,h1],h2⟩
 |tup _ _ _=>exact ⟨rfl,h⟩
 |tupc l=>exact h.elim
theorem Xn {B:List (Nat×Nat×Nat)} {H:List (Nat×OB)} : ∀ {l:List AV} {K:Prop},Qr B H l K→l.map (·.map (Wu B H))=l∧K
 | [],_,h=>⟨rfl,h⟩
 |c::l,_,h=>by
  obtain ⟨h1,h2⟩:=Al2 h
  obtain ⟨h3,h4⟩:=Xn h2
  exact ⟨by rw [List.map_cons,h1,h3],h4⟩
theorem Gq {B:List (Nat×Nat×Nat)} {H:List (Nat×OB)} : ∀ {l:List (Nat×OB)} {K:Prop},Aah B H l K→l.map (fun p=>(p.1,p.2.map (Wu B H)))=l∧K
 | [],_,h=>⟨rfl,h⟩
 |(k, .var t vs)::l,_,h=>by
  obtain ⟨h1,h2⟩:=Qw h
  obtain ⟨h3,h4⟩:=Gq h2
  exact ⟨by rw [List.map_cons,h3];simp only [OB.map,h1],h4⟩
 |(k, .arr a b c d e)::l,_,h=>by
  obtain ⟨h3,h4⟩:=Gq (l:=l) h
  exact ⟨by rw [List.map_cons,h3];rfl,h4⟩
 |(k, .xarr a b c)::l,_,h=>by
  obtain ⟨h3,h4⟩:=Gq (l:=l) h
  exact ⟨by rw [List.map_cons,h3];rfl,h4⟩
 |(k, .grid a b c d e)::l,_,h=>by
  obtain ⟨h3,h4⟩:=Gq (l:=l) h
  exact ⟨by rw [List.map_cons,h3];rfl,h4⟩
 |(k, .smp a b)::l,_,h=>by
  obtain ⟨h3,h4⟩:=Gq (l:=l) h
  exact ⟨by rw [List.map_cons,h3];rfl,h4⟩
theorem Abl {B:List (Nat×Nat×Nat)} {s:St} {K:Prop} (h:Aqh B s K):s.whole B=s∧K:=by
 obtain ⟨h1,h2⟩:=Xn h
 obtain ⟨h3,h4⟩:=Gq h2
 exact ⟨by unfold St.whole St.Fc;rw [h1,h3],h4⟩
theorem Yc (live:List Nat): ∀(i:Nat) (l:List AV) (t:Nat),i+t∉live→(Ev live i l).getD t .undef= .undef
 |_,[],_,_=>rfl
 |i,v::r,0,h=>by simp [Ev];intro hn;exact absurd hn h
 |i,v::r,t+1,h=>by
  simp only [Ev,List.getD_cons_succ]
  exact Yc live (i+1) r t (by rw [show i+1+t=i+(t+1) by omega];exact h)
theorem Xb: ∀(l:List Nat) (st:St) (t:Nat),st.get t= .undef→(Ua l st).get t= .undef
 | [],_,_,h=>h
 |a::r,st,t,h=>Xb r _ t (by
  show (st.tmps.map (·.map (Aw a))).getD t .undef= .undef
  rw [Ok (Aw a) rfl,show st.tmps.getD t .undef= .undef from h]
  rfl)
theorem Aq4 (l k:Nat) (st:St) (t:Nat) (h:st.get t= .undef):(st.rename l k).get t= .undef:=by
 unfold St.rename
 split
 ·split
  ·show (st.tmps.map (·.map (Lu l k))).getD t .undef= .undef
   rw [Ok (Lu l k) rfl,show st.tmps.getD t .undef= .undef from h]
   rfl
  ·exact h
 ·exact h
theorem Un: ∀(n i:Nat) (st:St) (t:Nat),st.get t= .undef→(Gf n i st).get t= .undef
 |0,_,_,_,h=>h
 |n+1,i,st,t,h=>by
  simp only [Gf]
  refine Un n (i+1) _ t ?_
  split
  ·split
   ·split
    ·exact h
    ·exact Aq4 _ _ _ t h
   ·exact h
  ·exact h
theorem Aq0 (st:St) (d:Nat) (v:AV) (t:Nat) (hne:t≠d) (h:st.get t= .undef):(st.put (some d) v).get t= .undef:=by rw [Rd _ _ hne];exact h
theorem Ak2 (k:Nat) (st:St) (t:Nat) (h:st.get t= .undef):(Rl k st).get t= .undef:=by
 unfold Rl
 split
 ·rename_i l off len hg
  split
  ·split
   ·refine Aq0 _ _ _ _ (fun e=>by subst e;rw [hg] at h;cases h) ?_
    show (st.tmps.map (·.map (Aw l))).getD t .undef= .undef
    rw [Ok (Aw l) rfl,show st.tmps.getD t .undef= .undef from h]
    rfl
   ·exact h
  ·exact h
 ·exact h
theorem Xh (live:List Nat): ∀(n i:Nat) (st:St) (t:Nat),st.get t= .undef→(Hx live n i st).get t= .undef
 |0,_,_,_,h=>h
 |n+1,i,st,t,h=>by
  simp only [Hx]
  refine Xh live n (i+1) _ t ?_
  split
  ·exact Ak2 _ _ _ h
  ·exact h
theorem Avc {live:List Nat} {st:St} {t:Nat} (h:((st.clean live).get t).Nf=true):t∈live:=by
 refine Classical.byContradiction fun hn=>?_
 have:(st.clean live).get t= .undef:=by
  have key: ∀s:St,s.get t= .undef→(if live.contains Sm then Gf s.tmps.length 0 s else s).get t= .undef:=by
   intro s hs
   split
   ·exact Un _ _ s t hs
   ·exact hs
  unfold St.clean
  have key0: ∀s:St,s.get t= .undef→(if live.any (fun t=>Nat.ble Oy t) then s.Eb live else s).get t= .undef:=by
   intro s hs
   split<;>exact hs
  have key1: ∀s:St,s.get t= .undef→(if live.any (fun t=>Nat.ble Js t&&Nat.blt t Sm) then Hx live s.tmps.length 0 s else s).get t= .undef:=by
   intro s hs
   split
   ·exact Xh _ _ _ s t hs
   ·exact hs
  refine key0 _ (key _ (key1 _ (Xb _ _ t ?_)))
  exact Yc live 0 st.tmps t (by simpa using hn)
 rw [this] at h
 cases h
theorem Aj8 {c:AV} (h:c.Nf=true): ∃fr τ,∃x:τ.den,c= .at (.data fr τ x):=by
 unfold AV.Nf at h
 split at h
 ·exact ⟨_,_,_,rfl⟩
 ·cases h
theorem Ba8 {live:Nat→List Nat} {c:Code} {t:Nat} (h:stays live c t=true):t∉writes c∧Rf live c t=true:=by
 unfold stays at h
 simpa using h
section
variable {T:Tab} {Γ:Env} {live:Nat→List Nat}
theorem Hq.keeps {c:Code} {st:St} {Q:Fp→St→Prop} (h:Hq T Γ live c st Q):Hq T Γ live c st (fun e s=>Q e s∧Eh (fun t=>t∉writes c∧Rf live c t=true) st s):=by
 exact Awu h st _ Ba.Hl.on fun t ht=>ht
def wsQ (Q:Fp→WS→Prop) (e:Fp) (s:St):Prop:= ∃w':WS,w'.st=s∧w'.OK∧Q e w'
theorem Asu {c:Code} (ih: ∀(w:WS) (Q:Fp→WS→Prop),w.OK→Tr T Γ live c w Q→Hq T Γ live c w.st (wsQ Q)) {w:WS} {Q:Fp→WS→Prop} (h:Tr T Γ live (.loop c) w Q):
  Hq T Γ live (.loop c) w.st (wsQ Q):=by
 simp only [Tr,Ays,Acd] at h
 obtain ⟨hw0,I,μ,h0,hs⟩:=Abl h
 have Ac: ∀(t:Nat),((w.st.clean (live (Bw c))).get t).Nf=true→stays live c t=true→ ∀v,((St.Alh (Gd (stays live c) 0 (w.st.clean (live (Bw c))).tmps) (w.st.clean (live (Bw c))) (Zw ((w.st.clean (live (Bw c))).mask (Gd (stays live c) 0 (w.st.clean (live (Bw c))).tmps)) v)).whole (Pb T.parts (w.st.clean (live (Bw c))).tmps)).get t=(w.st.clean (live (Bw c))).get t:=by
  intro t h1 h2 v
  have h3:=Ani (stays live c) 0 (w.st.clean (live (Bw c))).tmps (Zw ((w.st.clean (live (Bw c))).mask (Gd (stays live c) 0 (w.st.clean (live (Bw c))).tmps)) v).tmps t
   ((Xm _ _).trans (Vu _ _)) h1 (by simpa using h2)
  obtain ⟨fr,τ,x,hx⟩:=Aj8 h1
  refine (Ie _ _ rfl fun _ _ _=>rfl) t fr τ x ?_|>.trans hx.symm
  exact h3.trans hx
 have hmk: ∀(s1:St),(∀t,((w.st.clean (live (Bw c))).get t).Nf=true→stays live c t=true→s1.get t=(w.st.clean (live (Bw c))).get t)→s1.whole (Pb T.parts (w.st.clean (live (Bw c))).tmps)=s1→ ∀v,Zx ((w.st.clean (live (Bw c))).mask (Gd (stays live c) 0 (w.st.clean (live (Bw c))).tmps)) (s1.mask (Gd (stays live c) 0 (w.st.clean (live (Bw c))).tmps))=some v→
   s1=(St.Alh (Gd (stays live c) 0 (w.st.clean (live (Bw c))).tmps) (w.st.clean (live (Bw c))) (Zw ((w.st.clean (live (Bw c))).mask (Gd (stays live c) 0 (w.st.clean (live (Bw c))).tmps)) v)).whole (Pb T.parts (w.st.clean (live (Bw c))).tmps):=by
  intro s1 hf hwh v hv
  have h1:=Zy hv
  have h2:St.Alh (Gd (stays live c) 0 (w.st.clean (live (Bw c))).tmps) (w.st.clean (live (Bw c))) (s1.mask (Gd (stays live c) 0 (w.st.clean (live (Bw c))).tmps))=s1:=by
   simp only [St.Alh,St.mask]
   rw [Ajq (stays live c) 0 (w.st.clean (live (Bw c))).tmps s1.tmps fun t h3 h4=>hf t h3 (by simpa using h4)]
  have h3:(St.Alh (Gd (stays live c) 0 (w.st.clean (live (Bw c))).tmps) (w.st.clean (live (Bw c))) (Zw ((w.st.clean (live (Bw c))).mask (Gd (stays live c) 0 (w.st.clean (live (Bw c))).tmps)) v)).whole (Pb T.parts (w.st.clean (live (Bw c))).tmps)=s1.whole (Pb T.parts (w.st.clean (live (Bw c))).tmps):=by
   refine Aur ?_
   rw [Ajr,h1,←Ajr,h2]
  rw [h3,hwh]
 refine Azq (fun v=>(St.Alh (Gd (stays live c) 0 (w.st.clean (live (Bw c))).tmps) (w.st.clean (live (Bw c))) (Zw ((w.st.clean (live (Bw c))).mask (Gd (stays live c) 0 (w.st.clean (live (Bw c))).tmps)) v)).whole (Pb T.parts (w.st.clean (live (Bw c))).tmps)) I μ _ h0 (hmk _ (fun _ _ _=>rfl) hw0 _ (Ah9 _ (Acm _ _ (Lf h)))) ?_
 intro a ha
 refine (Hq.keeps (ih ⟨[],_⟩ _ (fun t b h=>by cases h) (hs a ha))).mono ?_
 intro e s hQ
 obtain ⟨⟨w',h1,h2,h3⟩,hk⟩:=hQ
 subst h1
 cases e with
 |normal=>
  obtain ⟨h4,h5⟩:=Abl h3
  obtain ⟨v',h6,h7,h8⟩:=An.1 h5
  refine ⟨v',hmk _ (fun t hd ht=>?_) h4 _ h6,h7,h8⟩
  obtain ⟨fr,τ,x,hx⟩:=Aj8 hd
  rw [hx]
  exact Abb (live (Bw c)) w'.st t fr τ x (Avc hd) (hk t fr τ x (Ba8 ht) (by rw [Ac t hd ht a];exact hx))
 |exit id=>exact ⟨w',rfl,h2,h3⟩
 |ret=>exact ⟨w',rfl,h2,h3⟩
theorem Agj: ∀(c:Code) (w:WS) (Q:Fp→WS→Prop),w.OK→Tr T Γ live c w Q→Hq T Γ live c w.st (wsQ Q):=by
 intro c
 induction c with
 |skip=>intro w Q hw h;exact .skip ⟨w,rfl,hw,h⟩
 |label _=>intro w Q hw h;exact .label ⟨w,rfl,hw,h⟩
 |exit _=>intro w Q hw h;exact .exit ⟨w,rfl,hw,h⟩
 |ret=>intro w Q hw h;exact .ret ⟨w,rfl,hw,h⟩
 |region id ops draw=>
  intro w Q hw h
  exact .region ((Alr hw h).mono fun s ⟨w',h1,h2,h3⟩=>⟨w',h1,h2,Vn.1 h3⟩)
 |seq x y ihx ihy=>
  intro w Q hw h
  refine Bca ((ihx w _ hw h).mono fun e s hQ=>?_)
  obtain ⟨w',h1,h2,h3⟩:=hQ
  subst h1
  cases e with
  |normal=>exact ihy w' Q h2 h3
  |exit id=>exact ⟨w',rfl,h2,h3⟩
  |ret=>exact ⟨w',rfl,h2,h3⟩
 |cond c x y ihx ihy=>
  intro w Q hw h
  obtain ⟨fr,b,w',h1,h2,h3,h4⟩:=Amk hw h
  refine Azp h1 (fun hb=>?_) (fun hb=>?_)
  ·subst hb;rw [←h2];exact ihx w' Q h3 h4
  ·subst hb;rw [←h2];exact ihy w' Q h3 h4
 |block id c ih=>
  intro w Q hw h
  refine Awt ((ih w _ hw h).mono fun e s hQ=>?_)
  obtain ⟨w',h1,h2,h3⟩:=hQ
  subst h1
  cases e with
  |normal=>exact ⟨w',rfl,h2,h3⟩
  |ret=>exact ⟨w',rfl,h2,h3⟩
  |exit id'=>
   simp only at h3
   simp only [Amz]
   split at h3
   ·rename_i hi;rw [if_pos hi];exact ⟨w',rfl,h2,h3⟩
   ·rename_i hi;rw [if_neg hi];exact ⟨w',rfl,h2,h3⟩
 |loop c ih=>intro w Q hw h;exact Asu ih h
 |_=>intro w Q hw h;exact absurd h (by simp [Tr])
theorem Aiq {s:Spec} {fn:Func} {P:s.res.den→Prop} {st:St} (h:Beq T s fn P st): ∃fr y,Adr T s fn st=some (fr,y)∧(fr||!s.fresh)=true∧P y:=by
 obtain ⟨p,h1,h2⟩:=An.1 h
 split at h2
 ·rename_i hf;exact ⟨p.1,p.2,h1,hf,h2⟩
 ·cases h2
theorem Ayr {s:Spec} {fn:Func} {x:s.arg.den} {P:s.res.den→Prop} (h:fnW T Γ s fn x P):Bau T Γ s fn x P:=by
 unfold fnW at h
 obtain ⟨c,h1,h2⟩:=An.1 h
 refine ⟨c,h1,(Agj c _ _ (fun t b h=>by cases h) h2).mono fun e st ⟨w,h4,h5,h6⟩=>?_⟩
 subst h4
 cases e with
 |normal=>exact ⟨fun id hh=>(by cases hh),Aiq h6⟩
 |ret=>exact ⟨fun id hh=>(by cases hh),Aiq h6⟩
 |exit id=>cases h6
theorem Sj {st:St} {K:Prop} : ∀(vs:List AC) (cs:List (Bool×CK)),Yw st K vs cs→Yv st vs cs∧K
 | [],cs,h=>⟨by simp [Yv],by simpa [Yw] using h⟩
 |a::vs,[],h=>⟨by cases a<;>simp [Yv],by cases a<;>simpa [Yw] using h⟩
 |a::vs,(false,c)::r,h=>by
  have h:Yw st K vs r:=by cases a<;>simpa only [Yw] using h
  obtain ⟨h1,h2⟩:=Sj vs r h
  exact ⟨by cases a<;>simpa only [Yv] using h1,h2⟩
 |a::vs,(true,c)::r,h=>by
  cases a with
  |own l off len=>
   simp only [Yw] at h
   split at h
   ·rename_i hl
    obtain ⟨h1,h2⟩:=Sj vs r h.2
    refine ⟨?_,h2⟩
    simp only [Yv,hl]
    exact ⟨h.1,h1⟩
   ·rename_i hl
    obtain ⟨h1,h2⟩:=Sj vs r h.2
    refine ⟨?_,h2⟩
    simp only [Yv,hl]
    exact ⟨h.1,h1⟩
   ·exact h.elim
  |_=>exact ⟨by simp [Yv],by simpa [Yw] using h⟩
theorem Vy {st:St} : ∀(cs:List CK) (as:List AC) (K:CKs.den cs→List Nat→Prop),Afs st cs as K→ ∃x ls,Lt st cs as=some (x,ls)∧K x ls
 | [],[],K,h=>⟨(),[],rfl,h⟩
 | [],_::_,_,h=>h.elim
 |c::r,[],K,h=>by cases c<;>exact h.elim
 |c::r,a::as,K,h=>by
  have old:Dg (Aaz st c a) (fun p=>Afs st r as fun y t=>K (p.1,y) (p.2++t))→ ∃x ls,Lt st (c::r) (a::as)=some (x,ls)∧K x ls:=fun h=>by
   obtain ⟨p,h1,h2⟩:=An.1 h
   obtain ⟨y,t,h3,h4⟩:=Vy r as _ h2
   exact ⟨_,_,by simp only [Lt,h1,h3],h4⟩
  cases c with
  |grid e te kp=>
   cases a with
   |own l off len=>
    simp only [Afs] at h
    split at h
    ·rename_i hl
     split at h
     ·rename_i hc
      obtain ⟨⟨h1,h2⟩,h⟩:=h
      obtain ⟨y,t,h3,h4⟩:=Vy r as _ h
      exact ⟨_,_,by simp only [Lt,Aaz,hl];rw [dif_pos ⟨hc.1,hc.2,h1,h2⟩];simp only [h3];rfl,h4⟩
     ·exact h.elim
    ·exact h.elim
   |_=>exact old h
  |_=>exact old h
theorem Ae3 {st:St} {n:Nat} {as:List AC} {K:Prop} : ∀(ks:List (Nat×Nat)),Ap8 st n as ks K→An3 st n as ks∧K
 | [],h=>⟨trivial,h⟩
 |(k,j)::r,h=>by
  simp only [Ap8] at h
  split at h
  ·rename_i l off len ha
   split at h
   ·rename_i p hl
    split at h
    ·rename_i hc
     simp only [Bool.and_eq_true] at hc
     obtain ⟨h1,h2⟩:=Ae3 r h.2
     refine ⟨?_,h2⟩
     simp only [An3,ha,hl]
     exact ⟨⟨Nat.eq_of_beq_eq_true hc.1,h.1,hc.2⟩,h1⟩
    ·exact h.elim
   ·exact h.elim
  ·exact h.elim
theorem Zl {s:Bp} {fn:Func} {x:Ins.den s.ins} {st:St} {cs:List AC} {P:CKs.den s.outs×IOs.den s.ins→Prop} (h:Ak4 T s fn x st cs P):Aan T s fn x st cs P:=by
 obtain ⟨l,h1,h⟩:=An.1 h
 obtain ⟨⟨as,ml⟩,h2,h⟩:=An.1 h
 obtain ⟨r,ls,h3,h⟩:=Vy _ _ _ h
 obtain ⟨o,h4,h⟩:=An.1 h
 split at h
 ·rename_i hc
  obtain ⟨h5,h6⟩:=Ae3 _ h
  unfold Aan
  simp only [h1,h2,h3,h4]
  exact ⟨hc,h5,h6⟩
 ·exact h.elim
theorem Ah6 {s:Bp} {fn:Func} {x:Ins.den s.ins} {st:St} {P:CKs.den s.outs×IOs.den s.ins→Prop} (h:Ay9 T s fn x st P):Bat T s fn x st P:=by
 unfold Ay9 at h
 unfold Bat
 cases hp:s.ptr with
 |none=>rw [hp] at h;exact Zl h
 |some p=>
  rw [hp] at h
  simp only at h⊢
  split at h
  ·rename_i tid vs hl
   split at h
   ·rename_i hc
    simp only [Bool.and_eq_true] at hc
    obtain ⟨h1,h2⟩:=hc
    have h1:tid=p.1:=Nat.eq_of_beq_eq_true h1
    have h2:=Nat.eq_of_beq_eq_true h2
    subst h1
    obtain ⟨cs,h3,h4⟩:=An.1 h
    obtain ⟨h5,h6⟩:=Sj vs s.ins h4
    exact ⟨vs,cs,hl,h2,h3,h5,Zl h6⟩
   ·exact h.elim
  ·exact h.elim
theorem Avk {s:Bp} {fn:Func} {x:Ins.den s.ins} {P:CKs.den s.outs×IOs.den s.ins→Prop} (h:Afa T Γ s fn x P):Bee T Γ s fn x P:=by
 unfold Afa at h
 split at h
 ·cases h
 rename_i hlen
 obtain ⟨c,h1,h2⟩:=An.1 h
 refine ⟨hlen,c,h1,(Agj c _ _ (fun t b h=>by cases h) h2).mono fun e st ⟨w,h4,h5,h6⟩=>?_⟩
 subst h4
 cases e with
 |normal=>exact ⟨fun id hh=>(by cases hh),Ah6 h6⟩
 |ret=>exact ⟨fun id hh=>(by cases hh),Ah6 h6⟩
 |exit id=>cases h6
theorem Dz.ofW {P:Program} (hT:Bt P T) (hΓ:Gl P Γ) (hm:P.follows .mixedOrders=true) {f:FuncId} {fn:Func} (hf:P.funcs[f]?=some fn) (hn:(fn.name== "runtime.NumGoroutine")=false)
  (hb:fn.body.isNone=false) (s:Bp) (h: ∀x y,s.fn x=some y→Afa T Γ s fn x (fun z=>z=y)):Dz P f s:=
 ⟨Xz hf hn hb,fun w S π us x r o g vs h1 hg h2 h3 hS h4 h5=>Al6 hT hΓ hm hf s w S π us x r o g vs h1 hg h2 h3 hS h4 (Avk (h x (r,o) h5))⟩
theorem Sound.ofW {P:Program} (hT:Bt P T) (hΓ:Gl P Γ) (hm:P.follows .mixedOrders=true) {f:FuncId} {fn:Func} (hf:P.funcs[f]?=some fn) (hn:(fn.name== "runtime.NumGoroutine")=false)
  (hb:fn.body.isNone=false) (s:Spec) (h: ∀x y,s.fn x=some y→fnW T Γ s fn x (fun z=>z=y)):Sound P f s:=
 Bcc hT hΓ hm hf hn hb s fun x y hx=>Ayr (h x y hx)
end
end Go.Proofs.Ytebabhocakedaaa
