/-
  Part 34 of the proof that the statement FnExactStatesWithPattern holds.
-/
import Derived.Test.YtebabhocakedaaaCStatesWithPattern32
namespace Go.Proofs.Ytebabhocakedaaa
open Go.RowKit
theorem Km {B:List (Nat×Nat×Nat)} {H:List (Nat×OB)} : ∀ {l:List AV} {K:Prop},Ps B H l K→ ∀c∈l,c.Aaq=true
 | [],_,_,c,hc=>by cases hc
 |d::l,K,h,c,hc=>by
  simp only [Ps] at h
  cases d with
  |tupc l'=>exact h.elim
  | «at»a=>
   rcases List.mem_cons.1 hc with rfl|hc
   ·rfl
   ·have h':Ps B H l K:=by
     cases a with
     |own k o n=>exact h.2.2
     |_=>exact h
    exact Km h' c hc
  |tup _ _ _=>
   rcases List.mem_cons.1 hc with rfl|hc
   ·rfl
   ·exact Km h c hc
  |agg cs=>
   rcases List.mem_cons.1 hc with rfl|hc
   ·rfl
   ·have: ∀(cs:List AC) (Q:Prop),Sv B H cs Q→Q:=by
     intro cs
     induction cs with
     |nil=>exact fun Q h=>h
     |cons a cs ih=>
      intro Q h
      have h2:Sv B H cs Q:=by
       cases a with
       |own k o n=>exact h.2.2
       |_=>exact h
      exact ih Q h2
    exact Km (this cs _ h) c hc
theorem Ac0: ∀(f:List Bool) (l:List AV),(∀c∈l,c.Aaq=true)→ ∀c∈Kz f l,c.Aaq=true
 | [],l,h=>by simpa [Kz] using h
 |true::f,[],h=>by simp [Kz] at h⊢
 |false::f,[],h=>by simp [Kz] at h⊢
 |true::f,a::l,h=>by
  intro c hc
  simp only [Kz,List.mem_cons] at hc
  rcases hc with rfl|hc
  ·rfl
  ·exact Ac0 f l (fun c hc=>h c (List.mem_cons_of_mem _ hc)) c hc
 |false::f,a::l,h=>by
  intro c hc
  simp only [Kz,List.mem_cons] at hc
  rcases hc with rfl|hc
  ·exact h c (by simp)
  ·exact Ac0 f l (fun c hc=>h c (List.mem_cons_of_mem _ hc)) c hc
theorem Axa (f:AC→AC) (H:List (Nat×OB)) (l:Nat):lenOf (H.map fun p=>(p.1,p.2.map f)) l=lenOf H l:=by
 unfold lenOf
 rw [He]
 cases Ac H l with
 |none=>rfl
 |some b=>cases b<;>rfl
theorem Atn (f g:AC→AC) (c:AV):(c.map f).map g=c.map fun a=>g (f a):=by
 cases c<;>simp [AV.map]
theorem Aun (f g:AC→AC) (c:OB):(c.map f).map g=c.map fun a=>g (f a):=by
 cases c<;>simp [OB.map]
theorem Arj (s:St) (f g:AC→AC):(s.Es f).Es g=s.Es fun a=>g (f a):=by
 simp [St.Es,List.map_map,Function.comp_def,Atn,Aun]
theorem Ar9 (f:AC→AC) (H:List (Nat×OB)) (l:Nat): ∀(B:List (Nat×Nat×Nat)),Ax8 B (H.map fun p=>(p.1,p.2.map f)) l=Ax8 B H l
 | []=>Axa f H l
 |(k,o,n)::r=>by simp only [Ax8];rw [Ar9 f H l r]
theorem Atf (B:List (Nat×Nat×Nat)) (s:St):(s.Es Jr).whole B=s.whole B:=by
 unfold St.whole
 rw [Arj]
 congr 1
 funext a
 cases a with
 |own l off len=>simp only [Jr,Wb,St.Es,Ar9]
 |_=>rfl
theorem Atd {B:List (Nat×Nat×Nat)} {s t:St} (h:s.Es Jr=t.Es Jr):s.whole B=t.whole B:=by rw [←Atf B s,h,Atf]
theorem Af3 (f:AC→AC): ∀(fx:List Bool) (a b:List AV),(Lr fx a b).map (·.map f)=Lr fx (a.map (·.map f)) (b.map (·.map f))
 | [],_,_=>by simp [Lr]
 |_::_,[],_=>by simp [Lr]
 |true::_,_::_,[]=>by simp [Lr]
 |false::_,_::_,[]=>by simp [Lr]
 |true::fx,x::a,y::b=>by simp only [Lr,List.map_cons,Af3 f fx a b]
 |false::fx,x::a,y::b=>by simp only [Lr,List.map_cons,Af3 f fx a b]
theorem Aj1 (f:AC→AC) (fx:List Bool) (a b:St):(St.Akk fx a b).Es f=St.Akk fx (a.Es f) (b.Es f):=by
 simp only [St.Akk,St.Es,Af3]
theorem Aj0 (p:Nat→Bool): ∀(i:Nat) (l0 l1:List AV),(∀t,(l0.getD t .undef).Ml=true→p (i+t)=true→l1.getD t .undef=l0.getD t .undef)→
  Lr (Fp p i l0) l0 (Kz (Fp p i l0) l1)=l1
 |_,[],l1,_=>by simp [Fp,Kz,Lr]
 |i,a::r,[],_=>by
  simp only [Fp]
  cases (a.Ml&&p i)<;>simp [Kz,Lr]
 |i,a::r,b::s,h=>by
  have hr:=Aj0 p (i+1) r s fun t h1 h2=>by
   have:=h (t+1) (by simpa using h1) (by rw [show i+(t+1)=i+1+t by omega];exact h2)
   simpa using this
  simp only [Fp]
  cases hc:(a.Ml&&p i) with
  |false=>simp only [Kz,Lr];rw [hr]
  |true=>
   simp only [Kz,Lr]
   rw [hr]
   simp only [Bool.and_eq_true] at hc
   have:=h 0 (by simpa using hc.1) hc.2
   simp only [List.getD_cons_zero] at this
   rw [this]
theorem Ve: ∀(f:List Bool) (l:List AV),(Kz f l).length=l.length
 | [],l=>by simp [Kz]
 |true::f,[]=>by simp [Kz]
 |false::f,[]=>by simp [Kz]
 |true::f,a::l=>by simp [Kz,Ve f l]
 |false::f,a::l=>by simp [Kz,Ve f l]
theorem Wv: ∀(l:List AV) {R:Type} (v:Agm l R),(Lz l v).1.length=l.length
 | [],_,_=>rfl
 |c::l,_,v=>by simp [Lz,Wv l]
theorem Amh (p:Nat→Bool): ∀(i:Nat) (l0 l:List AV) (t:Nat),l.length=l0.length→(l0.getD t .undef).Ml=true→p (i+t)=true→(Lr (Fp p i l0) l0 l).getD t .undef=l0.getD t .undef
 |_,[],_,t,_,h,_=>by simp [AV.Ml] at h
 |i,a::r,[],_,h,_,_=>by simp at h
 |i,a::r,b::s,0,_,h1,h2=>by
  have:(a.Ml&&p i)=true:=by
   simp only [Bool.and_eq_true]
   exact ⟨by simpa using h1,h2⟩
  simp only [Fp,this,Lr,List.getD_cons_zero]
 |i,a::r,b::s,t+1,hl,h1,h2=>by
  have hr:=Amh p (i+1) r s t (by simpa using hl) (by simpa using h1) (by rw [show i+1+t=i+(t+1) by omega];exact h2)
  simp only [Fp]
  cases (a.Ml&&p i)<;>simpa only [Lr,List.getD_cons_succ] using hr
theorem Aac {B:List (Nat×Nat×Nat)} {H:List (Nat×OB)} {c:AC} {K:Prop} (h:An8 B H c K):Wb B H c=c∧K:=by
 cases c with
 |own l off len=>obtain ⟨h1,h2,h3⟩:=h;exact ⟨by rw [h1,h2];rfl,h3⟩
 |_=>exact ⟨rfl,h⟩
theorem Px {B:List (Nat×Nat×Nat)} {H:List (Nat×OB)} : ∀ {l:List AC} {K:Prop},Sv B H l K→l.map (Wb B H)=l∧K
 | [],_,h=>⟨rfl,h⟩
 |c::l,_,h=>by
  obtain ⟨h1,h2⟩:=Aac h
  obtain ⟨h3,h4⟩:=Px h2
  exact ⟨by rw [List.map_cons,h1,h3],h4⟩
theorem Ak5 {B:List (Nat×Nat×Nat)} {H:List (Nat×OB)} {c:AV} {K:Prop} (h:Aw5 B H c K):c.map (Wb B H)=c∧K:=by
 cases c with
 | «at»a=>obtain ⟨h1,h2⟩:=Aac h;exact ⟨by rw [AV.map,h1],h2⟩
 |agg cs=>obtain ⟨h1,h2⟩:=Px h;exact ⟨by rw [AV.map,h1],h2⟩
 |tup _ _ _=>exact ⟨rfl,h⟩
 |tupc l=>exact h.elim
theorem Ww {B:List (Nat×Nat×Nat)} {H:List (Nat×OB)} : ∀ {l:List AV} {K:Prop},Ps B H l K→l.map (·.map (Wb B H))=l∧K
 | [],_,h=>⟨rfl,h⟩
 |c::l,_,h=>by
  obtain ⟨h1,h2⟩:=Ak5 h
  obtain ⟨h3,h4⟩:=Ww h2
  exact ⟨by rw [List.map_cons,h1,h3],h4⟩
theorem Ge {B:List (Nat×Nat×Nat)} {H:List (Nat×OB)} : ∀ {l:List (Nat×OB)} {K:Prop},Zv B H l K→l.map (fun p=>(p.1,p.2.map (Wb B H)))=l∧K
 | [],_,h=>⟨rfl,h⟩
 |(k, .var t vs)::l,_,h=>by
  obtain ⟨h1,h2⟩:=Px h
  obtain ⟨h3,h4⟩:=Ge h2
  exact ⟨by rw [List.map_cons,h3];simp only [OB.map,h1],h4⟩
 |(k, .arr a b c d e)::l,_,h=>by
  obtain ⟨h3,h4⟩:=Ge (l:=l) h
  exact ⟨by rw [List.map_cons,h3];rfl,h4⟩
 |(k, .xarr a b c)::l,_,h=>by
  obtain ⟨h3,h4⟩:=Ge (l:=l) h
  exact ⟨by rw [List.map_cons,h3];rfl,h4⟩
 |(k, .grid a b c d e)::l,_,h=>by
  obtain ⟨h3,h4⟩:=Ge (l:=l) h
  exact ⟨by rw [List.map_cons,h3];rfl,h4⟩
 |(k, .smp a b)::l,_,h=>by
  obtain ⟨h3,h4⟩:=Ge (l:=l) h
  exact ⟨by rw [List.map_cons,h3];rfl,h4⟩
theorem Aax {B:List (Nat×Nat×Nat)} {s:St} {K:Prop} (h:Ap8 B s K):s.whole B=s∧K:=by
 obtain ⟨h1,h2⟩:=Ww h
 obtain ⟨h3,h4⟩:=Ge h2
 exact ⟨by unfold St.whole St.Es;rw [h1,h3],h4⟩
theorem Xk (live:List Nat): ∀(i:Nat) (l:List AV) (t:Nat),i+t∉live→(Ej live i l).getD t .undef= .undef
 |_,[],_,_=>rfl
 |i,v::r,0,h=>by simp [Ej];intro hn;exact absurd hn h
 |i,v::r,t+1,h=>by
  simp only [Ej,List.getD_cons_succ]
  exact Xk live (i+1) r t (by rw [show i+1+t=i+(t+1) by omega];exact h)
theorem Wi: ∀(l:List Nat) (st:St) (t:Nat),st.get t= .undef→(Th l st).get t= .undef
 | [],_,_,h=>h
 |a::r,st,t,h=>Wi r _ t (by
  show (st.tmps.map (·.map (At a))).getD t .undef= .undef
  rw [No (At a) rfl,show st.tmps.getD t .undef= .undef from h]
  rfl)
theorem Aou (l k:Nat) (st:St) (t:Nat) (h:st.get t= .undef):(st.rename l k).get t= .undef:=by
 unfold St.rename
 split
 ·split
  ·show (st.tmps.map (·.map (Lc l k))).getD t .undef= .undef
   rw [No (Lc l k) rfl,show st.tmps.getD t .undef= .undef from h]
   rfl
  ·exact h
 ·exact h
theorem Tv: ∀(n i:Nat) (st:St) (t:Nat),st.get t= .undef→(Fu n i st).get t= .undef
 |0,_,_,_,h=>h
 |n+1,i,st,t,h=>by
  simp only [Fu]
  refine Tv n (i+1) _ t ?_
  split
  ·split
   ·split
    ·exact h
    ·exact Aou _ _ _ t h
   ·exact h
  ·exact h
theorem Aoq (st:St) (d:Nat) (v:AV) (t:Nat) (hne:t≠d) (h:st.get t= .undef):(st.put (some d) v).get t= .undef:=by rw [Qf _ _ hne];exact h
theorem Aj9 (k:Nat) (st:St) (t:Nat) (h:st.get t= .undef):(Qq k st).get t= .undef:=by
 unfold Qq
 split
 ·rename_i l off len hg
  split
  ·split
   ·refine Aoq _ _ _ _ (fun e=>by subst e;rw [hg] at h;cases h) ?_
    show (st.tmps.map (·.map (At l))).getD t .undef= .undef
    rw [No (At l) rfl,show st.tmps.getD t .undef= .undef from h]
    rfl
   ·exact h
  ·exact h
 ·exact h
theorem Wo (live:List Nat): ∀(n i:Nat) (st:St) (t:Nat),st.get t= .undef→(Hi live n i st).get t= .undef
 |0,_,_,_,h=>h
 |n+1,i,st,t,h=>by
  simp only [Hi]
  refine Wo live n (i+1) _ t ?_
  split
  ·exact Aj9 _ _ _ h
  ·exact h
theorem Atx {live:List Nat} {st:St} {t:Nat} (h:((st.clean live).get t).Ml=true):t∈live:=by
 refine Classical.byContradiction fun hn=>?_
 have:(st.clean live).get t= .undef:=by
  have key: ∀s:St,s.get t= .undef→(if live.contains Rp then Fu s.tmps.length 0 s else s).get t= .undef:=by
   intro s hs
   split
   ·exact Tv _ _ s t hs
   ·exact hs
  unfold St.clean
  have key0: ∀s:St,s.get t= .undef→(if live.any (fun t=>Nat.ble Nz t) then s.Dv live else s).get t= .undef:=by
   intro s hs
   split<;>exact hs
  have key1: ∀s:St,s.get t= .undef→(if live.any (fun t=>Nat.ble Jc t&&Nat.blt t Rp) then Hi live s.tmps.length 0 s else s).get t= .undef:=by
   intro s hs
   split
   ·exact Wo _ _ _ s t hs
   ·exact hs
  refine key0 _ (key _ (key1 _ (Wi _ _ t ?_)))
  exact Xk live 0 st.tmps t (by simpa using hn)
 rw [this] at h
 cases h
theorem Aii {c:AV} (h:c.Ml=true): ∃fr τ,∃x:τ.den,c= .at (.data fr τ x):=by
 unfold AV.Ml at h
 split at h
 ·exact ⟨_,_,_,rfl⟩
 ·cases h
theorem Ayc {live:Nat→List Nat} {c:Code} {t:Nat} (h:stays live c t=true):t∉writes c∧Qh live c t=true:=by
 unfold stays at h
 simpa using h
section
variable {T:Tab} {Γ:Env} {live:Nat→List Nat}
theorem Gx.keeps {c:Code} {st:St} {Q:Ez→St→Prop} (h:Gx T Γ live c st Q):Gx T Γ live c st (fun e s=>Q e s∧Ea (fun t=>t∉writes c∧Qh live c t=true) st s):=by
 exact Avb h st _ Av.Gu.on fun t ht=>ht
def wsQ (Q:Ez→WS→Prop) (e:Ez) (s:St):Prop:= ∃w':WS,w'.st=s∧w'.OK∧Q e w'
theorem Arh {c:Code} (ih: ∀(w:WS) (Q:Ez→WS→Prop),w.OK→Sz T Γ live c w Q→Gx T Γ live c w.st (wsQ Q)) {w:WS} {Q:Ez→WS→Prop} (h:Sz T Γ live (.loop c) w Q):
  Gx T Γ live (.loop c) w.st (wsQ Q):=by
 simp only [Sz,Ax4,Abq] at h
 obtain ⟨hw0,I,μ,h0,hs⟩:=Aax h
 have Ac: ∀(t:Nat),((w.st.clean (live (Bt c))).get t).Ml=true→stays live c t=true→ ∀v,((St.Akk (Fp (stays live c) 0 (w.st.clean (live (Bt c))).tmps) (w.st.clean (live (Bt c))) (Za ((w.st.clean (live (Bt c))).mask (Fp (stays live c) 0 (w.st.clean (live (Bt c))).tmps)) v)).whole (Oa T.parts (w.st.clean (live (Bt c))).tmps)).get t=(w.st.clean (live (Bt c))).get t:=by
  intro t h1 h2 v
  have h3:=Amh (stays live c) 0 (w.st.clean (live (Bt c))).tmps (Za ((w.st.clean (live (Bt c))).mask (Fp (stays live c) 0 (w.st.clean (live (Bt c))).tmps)) v).tmps t
   ((Wv _ _).trans (Ve _ _)) h1 (by simpa using h2)
  obtain ⟨fr,τ,x,hx⟩:=Aii h1
  refine (Hp _ _ rfl fun _ _ _=>rfl) t fr τ x ?_|>.trans hx.symm
  exact h3.trans hx
 have hmk: ∀(s1:St),(∀t,((w.st.clean (live (Bt c))).get t).Ml=true→stays live c t=true→s1.get t=(w.st.clean (live (Bt c))).get t)→s1.whole (Oa T.parts (w.st.clean (live (Bt c))).tmps)=s1→ ∀v,Zb ((w.st.clean (live (Bt c))).mask (Fp (stays live c) 0 (w.st.clean (live (Bt c))).tmps)) (s1.mask (Fp (stays live c) 0 (w.st.clean (live (Bt c))).tmps))=some v→
   s1=(St.Akk (Fp (stays live c) 0 (w.st.clean (live (Bt c))).tmps) (w.st.clean (live (Bt c))) (Za ((w.st.clean (live (Bt c))).mask (Fp (stays live c) 0 (w.st.clean (live (Bt c))).tmps)) v)).whole (Oa T.parts (w.st.clean (live (Bt c))).tmps):=by
  intro s1 hf hwh v hv
  have h1:=Zc hv
  have h2:St.Akk (Fp (stays live c) 0 (w.st.clean (live (Bt c))).tmps) (w.st.clean (live (Bt c))) (s1.mask (Fp (stays live c) 0 (w.st.clean (live (Bt c))).tmps))=s1:=by
   simp only [St.Akk,St.mask]
   rw [Aj0 (stays live c) 0 (w.st.clean (live (Bt c))).tmps s1.tmps fun t h3 h4=>hf t h3 (by simpa using h4)]
  have h3:(St.Akk (Fp (stays live c) 0 (w.st.clean (live (Bt c))).tmps) (w.st.clean (live (Bt c))) (Za ((w.st.clean (live (Bt c))).mask (Fp (stays live c) 0 (w.st.clean (live (Bt c))).tmps)) v)).whole (Oa T.parts (w.st.clean (live (Bt c))).tmps)=s1.whole (Oa T.parts (w.st.clean (live (Bt c))).tmps):=by
   refine Atd ?_
   rw [Aj1,h1,←Aj1,h2]
  rw [h3,hwh]
 refine Ay1 (fun v=>(St.Akk (Fp (stays live c) 0 (w.st.clean (live (Bt c))).tmps) (w.st.clean (live (Bt c))) (Za ((w.st.clean (live (Bt c))).mask (Fp (stays live c) 0 (w.st.clean (live (Bt c))).tmps)) v)).whole (Oa T.parts (w.st.clean (live (Bt c))).tmps)) I μ _ h0 (hmk _ (fun _ _ _=>rfl) hw0 _ (Agj _ (Ac0 _ _ (Km h)))) ?_
 intro a ha
 refine (Gx.keeps (ih ⟨[],_⟩ _ (fun t b h=>by cases h) (hs a ha))).mono ?_
 intro e s hQ
 obtain ⟨⟨w',h1,h2,h3⟩,hk⟩:=hQ
 subst h1
 cases e with
 |normal=>
  obtain ⟨h4,h5⟩:=Aax h3
  obtain ⟨v',h6,h7,h8⟩:=Ak.1 h5
  refine ⟨v',hmk _ (fun t hd ht=>?_) h4 _ h6,h7,h8⟩
  obtain ⟨fr,τ,x,hx⟩:=Aii hd
  rw [hx]
  exact Aan (live (Bt c)) w'.st t fr τ x (Atx hd) (hk t fr τ x (Ayc ht) (by rw [Ac t hd ht a];exact hx))
 |exit id=>exact ⟨w',rfl,h2,h3⟩
 |ret=>exact ⟨w',rfl,h2,h3⟩
theorem Afu: ∀(c:Code) (w:WS) (Q:Ez→WS→Prop),w.OK→Sz T Γ live c w Q→Gx T Γ live c w.st (wsQ Q):=by
 intro c
 induction c with
 |skip=>intro w Q hw h;exact .skip ⟨w,rfl,hw,h⟩
 |label _=>intro w Q hw h;exact .label ⟨w,rfl,hw,h⟩
 |exit _=>intro w Q hw h;exact .exit ⟨w,rfl,hw,h⟩
 |ret=>intro w Q hw h;exact .ret ⟨w,rfl,hw,h⟩
 |region id ops draw=>
  intro w Q hw h
  exact .region ((Akw hw h).mono fun s ⟨w',h1,h2,h3⟩=>⟨w',h1,h2,Uz.1 h3⟩)
 |seq x y ihx ihy=>
  intro w Q hw h
  refine Ba8 ((ihx w _ hw h).mono fun e s hQ=>?_)
  obtain ⟨w',h1,h2,h3⟩:=hQ
  subst h1
  cases e with
  |normal=>exact ihy w' Q h2 h3
  |exit id=>exact ⟨w',rfl,h2,h3⟩
  |ret=>exact ⟨w',rfl,h2,h3⟩
 |cond c x y ihx ihy=>
  intro w Q hw h
  obtain ⟨fr,b,w',h1,h2,h3,h4⟩:=All hw h
  refine Ay0 h1 (fun hb=>?_) (fun hb=>?_)
  ·subst hb;rw [←h2];exact ihx w' Q h3 h4
  ·subst hb;rw [←h2];exact ihy w' Q h3 h4
 |block id c ih=>
  intro w Q hw h
  refine Ava ((ih w _ hw h).mono fun e s hQ=>?_)
  obtain ⟨w',h1,h2,h3⟩:=hQ
  subst h1
  cases e with
  |normal=>exact ⟨w',rfl,h2,h3⟩
  |ret=>exact ⟨w',rfl,h2,h3⟩
  |exit id'=>
   simp only at h3
   simp only [Am0]
   split at h3
   ·rename_i hi;rw [if_pos hi];exact ⟨w',rfl,h2,h3⟩
   ·rename_i hi;rw [if_neg hi];exact ⟨w',rfl,h2,h3⟩
 |loop c ih=>intro w Q hw h;exact Arh ih h
 |_=>intro w Q hw h;exact absurd h (by simp [Sz])
theorem Ahz {s:Spec} {fn:Func} {P:s.res.den→Prop} {st:St} (h:Bcb T s fn P st): ∃fr y,Ad2 T s fn st=some (fr,y)∧(fr||!s.fresh)=true∧P y:=by
 obtain ⟨p,h1,h2⟩:=Ak.1 h
 split at h2
 ·rename_i hf;exact ⟨p.1,p.2,h1,hf,h2⟩
 ·cases h2
theorem Ax3 {s:Spec} {fn:Func} {x:s.arg.den} {P:s.res.den→Prop} (h:fnW T Γ s fn x P):Ayx T Γ s fn x P:=by
 unfold fnW at h
 obtain ⟨c,h1,h2⟩:=Ak.1 h
 refine ⟨c,h1,(Afu c _ _ (fun t b h=>by cases h) h2).mono fun e st ⟨w,h4,h5,h6⟩=>?_⟩
 subst h4
 cases e with
 |normal=>exact ⟨fun id hh=>(by cases hh),Ahz h6⟩
 |ret=>exact ⟨fun id hh=>(by cases hh),Ahz h6⟩
 |exit id=>cases h6
theorem Rk {st:St} {K:Prop} : ∀(vs:List AC) (cs:List (Bool×CK)),Ye st K vs cs→Yd st vs cs∧K
 | [],cs,h=>⟨by simp [Yd],by simpa [Ye] using h⟩
 |a::vs,[],h=>⟨by cases a<;>simp [Yd],by cases a<;>simpa [Ye] using h⟩
 |a::vs,(false,c)::r,h=>by
  have h:Ye st K vs r:=by cases a<;>simpa only [Ye] using h
  obtain ⟨h1,h2⟩:=Rk vs r h
  exact ⟨by cases a<;>simpa only [Yd] using h1,h2⟩
 |a::vs,(true,c)::r,h=>by
  cases a with
  |own l off len=>
   simp only [Ye] at h
   split at h
   ·rename_i hl
    obtain ⟨h1,h2⟩:=Rk vs r h.2
    refine ⟨?_,h2⟩
    simp only [Yd,hl]
    exact ⟨h.1,h1⟩
   ·rename_i hl
    obtain ⟨h1,h2⟩:=Rk vs r h.2
    refine ⟨?_,h2⟩
    simp only [Yd,hl]
    exact ⟨h.1,h1⟩
   ·exact h.elim
  |_=>exact ⟨by simp [Yd],by simpa [Ye] using h⟩
theorem Vi {st:St} : ∀(cs:List CK) (as:List AC) (K:CKs.den cs→List Nat→Prop),Af2 st cs as K→ ∃x ls,Lb st cs as=some (x,ls)∧K x ls
 | [],[],K,h=>⟨(),[],rfl,h⟩
 | [],_::_,_,h=>h.elim
 |c::r,[],K,h=>by cases c<;>exact h.elim
 |c::r,a::as,K,h=>by
  have old:Da (Aab st c a) (fun p=>Af2 st r as fun y t=>K (p.1,y) (p.2++t))→ ∃x ls,Lb st (c::r) (a::as)=some (x,ls)∧K x ls:=fun h=>by
   obtain ⟨p,h1,h2⟩:=Ak.1 h
   obtain ⟨y,t,h3,h4⟩:=Vi r as _ h2
   exact ⟨_,_,by simp only [Lb,h1,h3],h4⟩
  cases c with
  |grid e te kp=>
   cases a with
   |own l off len=>
    simp only [Af2] at h
    split at h
    ·rename_i hl
     split at h
     ·rename_i hc
      obtain ⟨⟨h1,h2⟩,h⟩:=h
      obtain ⟨y,t,h3,h4⟩:=Vi r as _ h
      exact ⟨_,_,by simp only [Lb,Aab,hl];rw [dif_pos ⟨hc.1,hc.2,h1,h2⟩];simp only [h3];rfl,h4⟩
     ·exact h.elim
    ·exact h.elim
   |_=>exact old h
  |_=>exact old h
theorem Adf {st:St} {n:Nat} {as:List AC} {K:Prop} : ∀(ks:List (Nat×Nat)),Ao3 st n as ks K→Am5 st n as ks∧K
 | [],h=>⟨trivial,h⟩
 |(k,j)::r,h=>by
  simp only [Ao3] at h
  split at h
  ·rename_i l off len ha
   split at h
   ·rename_i p hl
    split at h
    ·rename_i hc
     simp only [Bool.and_eq_true] at hc
     obtain ⟨h1,h2⟩:=Adf r h.2
     refine ⟨?_,h2⟩
     simp only [Am5,ha,hl]
     exact ⟨⟨Nat.eq_of_beq_eq_true hc.1,h.1,hc.2⟩,h1⟩
    ·exact h.elim
   ·exact h.elim
  ·exact h.elim
theorem Yt {s:Bn} {fn:Func} {x:Ins.den s.ins} {st:St} {cs:List AC} {P:CKs.den s.outs×IOs.den s.ins→Prop} (h:Ajb T s fn x st cs P):Aa1 T s fn x st cs P:=by
 obtain ⟨l,h1,h⟩:=Ak.1 h
 obtain ⟨⟨as,ml⟩,h2,h⟩:=Ak.1 h
 obtain ⟨r,ls,h3,h⟩:=Vi _ _ _ h
 obtain ⟨o,h4,h⟩:=Ak.1 h
 split at h
 ·rename_i hc
  obtain ⟨h5,h6⟩:=Adf _ h
  unfold Aa1
  simp only [h1,h2,h3,h4]
  exact ⟨hc,h5,h6⟩
 ·exact h.elim
theorem Agg {s:Bn} {fn:Func} {x:Ins.den s.ins} {st:St} {P:CKs.den s.outs×IOs.den s.ins→Prop} (h:Awm T s fn x st P):Ayw T s fn x st P:=by
 unfold Awm at h
 unfold Ayw
 cases hp:s.ptr with
 |none=>rw [hp] at h;exact Yt h
 |some p=>
  rw [hp] at h
  simp only at h⊢
  split at h
  ·rename_i tid vs hl
   split at h
   ·rename_i hc
    simp only [Bool.and_eq_true] at hc
    obtain ⟨h1,h2⟩:=hc
    have h1:tid=p.1:=Nat.eq_of_beq_eq_true h1
    have h2:=Nat.eq_of_beq_eq_true h2
    subst h1
    obtain ⟨cs,h3,h4⟩:=Ak.1 h
    obtain ⟨h5,h6⟩:=Rk vs s.ins h4
    exact ⟨vs,cs,hl,h2,h3,h5,Yt h6⟩
   ·exact h.elim
  ·exact h.elim
theorem Au4 {s:Bn} {fn:Func} {x:Ins.den s.ins} {P:CKs.den s.outs×IOs.den s.ins→Prop} (h:Aen T Γ s fn x P):Bbz T Γ s fn x P:=by
 unfold Aen at h
 split at h
 ·cases h
 rename_i hlen
 obtain ⟨c,h1,h2⟩:=Ak.1 h
 refine ⟨hlen,c,h1,(Afu c _ _ (fun t b h=>by cases h) h2).mono fun e st ⟨w,h4,h5,h6⟩=>?_⟩
 subst h4
 cases e with
 |normal=>exact ⟨fun id hh=>(by cases hh),Agg h6⟩
 |ret=>exact ⟨fun id hh=>(by cases hh),Agg h6⟩
 |exit id=>cases h6
theorem Dt.ofW {P:Program} (hT:Bp P T) (hΓ:Gb P Γ) (hm:P.follows .mixedOrders=true) {f:FuncId} {fn:Func} (hf:P.funcs[f]?=some fn) (hn:(fn.name== "runtime.NumGoroutine")=false)
  (hb:fn.body.isNone=false) (s:Bn) (h: ∀x y,s.fn x=some y→Aen T Γ s fn x (fun z=>z=y)):Dt P f s:=
 ⟨Xh hf hn hb,fun w S π us x r o g vs h1 hg h2 h3 hS h4 h5=>Ak9 hT hΓ hm hf s w S π us x r o g vs h1 hg h2 h3 hS h4 (Au4 (h x (r,o) h5))⟩
theorem Sound.ofW {P:Program} (hT:Bp P T) (hΓ:Gb P Γ) (hm:P.follows .mixedOrders=true) {f:FuncId} {fn:Func} (hf:P.funcs[f]?=some fn) (hn:(fn.name== "runtime.NumGoroutine")=false)
  (hb:fn.body.isNone=false) (s:Spec) (h: ∀x y,s.fn x=some y→fnW T Γ s fn x (fun z=>z=y)):Sound P f s:=
 Baa hT hΓ hm hf hn hb s fun x y hx=>Ax3 (h x y hx)
end
end Go.Proofs.Ytebabhocakedaaa
