/-
  Part 34 of the proof that the statement FnExactSolveByMethod holds.
-/
import Derived.Test.YtjbdmibbbpdnnaaCSolveByMethod32
namespace Go.Proofs.Ytjbdmibbbpdnnaa
open Go.RowKit
theorem No {B:List (Nat×Nat×Nat)} {H:List (Nat×OB)} : ∀ {l:List AV} {K:Prop},Ur B H l K-> ∀c∈l,c.fe=true
 | [],_,_,c,hc=>by cases hc
 |d::l,K,h,c,hc=>by
  simp only [Ur] at h
  cases d with
  |Jg l'=>exact h.elim
  | «at»a=>
   rcases List.mem_cons.1 hc with rfl|hc
   ·rfl
   ·have h':Ur B H l K:=by
     cases a with
     |own k o n=>exact h.2.2
     |_=>exact h
    exact No h' c hc
  |Us _ _ _=>
   rcases List.mem_cons.1 hc with rfl|hc
   ·rfl
   ·exact No h c hc
  |agg cs=>
   rcases List.mem_cons.1 hc with rfl|hc
   ·rfl
   ·have: ∀(cs:List AC) (Q:Prop),Yi B H cs Q->Q:=by
     intro cs
     induction cs with
     |nil=>exact λQ h=>h
     |cons a cs ih=>
      intro Q h
      have h2:Yi B H cs Q:=by
       cases a with
       |own k o n=>exact h.2.2
       |_=>exact h
      exact ih Q h2
    exact No (this cs _ h) c hc
theorem gp: ∀(f:List Bool) (l:List AV),(∀c∈l,c.fe=true)-> ∀c∈Oh f l,c.fe=true
 | [],l,h=>by simpa [Oh] using h
 |true::f,[],h=>by simp [Oh] at h⊢
 |false::f,[],h=>by simp [Oh] at h⊢
 |true::f,a::l,h=>by
  intro c hc
  simp only [Oh,List.mem_cons] at hc
  rcases hc with rfl|hc
  ·rfl
  ·exact gp f l (λc hc=>h c (List.mem_cons_of_mem _ hc)) c hc
 |false::f,a::l,h=>by
  intro c hc
  simp only [Oh,List.mem_cons] at hc
  rcases hc with rfl|hc
  ·exact h c (by simp)
  ·exact gp f l (λc hc=>h c (List.mem_cons_of_mem _ hc)) c hc
theorem FD (f:AC->AC) (H:List (Nat×OB)) (l:Nat):lenOf (H.map λp=>(p.1,p.2.map f)) l=lenOf H l:=by
 unfold lenOf
 rw [Js]
 cases Ae H l with
 |none=>rfl
 |some b=>cases b<;>rfl
theorem yz (f g:AC->AC) (c:AV):(c.map f).map g=c.map λa=>g (f a):=by
 cases c<;>simp [AV.map]
theorem zA (f g:AC->AC) (c:OB):(c.map f).map g=c.map λa=>g (f a):=by
 cases c<;>simp [OB.map]
theorem wQ (s:St) (f g:AC->AC):(s.Gm f).Gm g=s.Gm λa=>g (f a):=by
 simp [St.Gm,List.map_map,Function.comp_def,yz,zA]
theorem wF (f:AC->AC) (H:List (Nat×OB)) (l:Nat): ∀(B:List (Nat×Nat×Nat)),FB B (H.map λp=>(p.1,p.2.map f)) l=FB B H l
 | []=>FD f H l
 |(k,o,n)::r=>by simp only [FB];rw [wF f H l r]
theorem yh (B:List (Nat×Nat×Nat)) (s:St):(s.Gm Mp).whole B=s.whole B:=by
 unfold St.whole
 rw [wQ]
 congr 1
 funext a
 cases a with
 |own l off len=>simp only [Mp,bg,St.Gm,wF]
 |_=>rfl
theorem yf {B:List (Nat×Nat×Nat)} {s t:St} (h:s.Gm Mp=t.Gm Mp):s.whole B=t.whole B:=by rw [<-yh B s,h,yh]
theorem jV (f:AC->AC): ∀(fx:List Bool) (a b:List AV),(Pp fx a b).map (·.map f)=Pp fx (a.map (·.map f)) (b.map (·.map f))
 | [],_,_=>by simp [Pp]
 |_::_,[],_=>by simp [Pp]
 |true::_,_::_,[]=>by simp [Pp]
 |false::_,_::_,[]=>by simp [Pp]
 |true::fx,x::a,y::b=>by simp only [Pp,List.map_cons,jV f fx a b]
 |false::fx,x::a,y::b=>by simp only [Pp,List.map_cons,jV f fx a b]
theorem nR (f:AC->AC) (fx:List Bool) (a b:St):(St.pP fx a b).Gm f=St.pP fx (a.Gm f) (b.Gm f):=by
 simp only [St.pP,St.Gm,jV]
theorem nQ (p:Nat->Bool): ∀(i:Nat) (l0 l1:List AV),(∀t,(l0.getD t .undef).Qt=true->p (i+t)=true->l1.getD t .undef=l0.getD t .undef)->
  Pp (Hp p i l0) l0 (Oh (Hp p i l0) l1)=l1
 |_,[],l1,_=>by simp [Hp,Oh,Pp]
 |i,a::r,[],_=>by
  simp only [Hp]
  cases (a.Qt&&p i)<;>simp [Oh,Pp]
 |i,a::r,b::s,h=>by
  have hr:=nQ p (i+1) r s λt h1 h2=>by
   have:=h (t+1) (by simpa using h1) (by rw [show i+(t+1)=i+1+t by omega];exact h2)
   simpa using this
  simp only [Hp]
  cases hc:(a.Qt&&p i) with
  |false=>simp only [Oh,Pp];rw [hr]
  |true=>
   simp only [Oh,Pp]
   rw [hr]
   simp only [Bool.and_eq_true] at hc
   have:=h 0 (by simpa using hc.1) hc.2
   simp only [List.getD_cons_zero] at this
   rw [this]
theorem aA: ∀(f:List Bool) (l:List AV),(Oh f l).length=l.length
 | [],l=>by simp [Oh]
 |true::f,[]=>by simp [Oh]
 |false::f,[]=>by simp [Oh]
 |true::f,a::l=>by simp [Oh,aA f l]
 |false::f,a::l=>by simp [Oh,aA f l]
theorem bM: ∀(l:List AV) {R:Type} (v:ly l R),(Px l v).1.length=l.length
 | [],_,_=>rfl
 |c::l,_,v=>by simp [Px,bM l]
theorem ry (p:Nat->Bool): ∀(i:Nat) (l0 l:List AV) (t:Nat),l.length=l0.length->(l0.getD t .undef).Qt=true->p (i+t)=true->(Pp (Hp p i l0) l0 l).getD t .undef=l0.getD t .undef
 |_,[],_,t,_,h,_=>by simp [AV.Qt] at h
 |i,a::r,[],_,h,_,_=>by simp at h
 |i,a::r,b::s,0,_,h1,h2=>by
  have:(a.Qt&&p i)=true:=by
   simp only [Bool.and_eq_true]
   exact ⟨by simpa using h1,h2⟩
  simp only [Hp,this,Pp,List.getD_cons_zero]
 |i,a::r,b::s,t+1,hl,h1,h2=>by
  have hr:=ry p (i+1) r s t (by simpa using hl) (by simpa using h1) (by rw [show i+1+t=i+(t+1) by omega];exact h2)
  simp only [Hp]
  cases (a.Qt&&p i)<;>simpa only [Pp,List.getD_cons_succ] using hr
theorem eJ {B:List (Nat×Nat×Nat)} {H:List (Nat×OB)} {c:AC} {K:Prop} (h:sl B H c K):bg B H c=c/\K:=by
 cases c with
 |own l off len=>obtain ⟨h1,h2,h3⟩:=h;exact ⟨by rw [h1,h2];rfl,h3⟩
 |_=>exact ⟨rfl,h⟩
theorem Uw {B:List (Nat×Nat×Nat)} {H:List (Nat×OB)} : ∀ {l:List AC} {K:Prop},Yi B H l K->l.map (bg B H)=l/\K
 | [],_,h=>⟨rfl,h⟩
 |c::l,_,h=>by
  obtain ⟨h1,h2⟩:=eJ h
  obtain ⟨h3,h4⟩:=Uw h2
  exact ⟨by rw [List.map_cons,h1,h3],h4⟩
theorem pf {B:List (Nat×Nat×Nat)} {H:List (Nat×OB)} {c:AV} {K:Prop} (h:BO B H c K):c.map (bg B H)=c/\K:=by
 cases c with
 | «at»a=>obtain ⟨h1,h2⟩:=eJ h;exact ⟨by rw [AV.map,h1],h2⟩
 |agg cs=>obtain ⟨h1,h2⟩:=Uw h;exact ⟨by rw [AV.map,h1],h2⟩
 |Us _ _ _=>exact ⟨rfl,h⟩
 |Jg l=>exact h.elim
theorem bN {B:List (Nat×Nat×Nat)} {H:List (Nat×OB)} : ∀ {l:List AV} {K:Prop},Ur B H l K->l.map (·.map (bg B H))=l/\K
 | [],_,h=>⟨rfl,h⟩
 |c::l,_,h=>by
  obtain ⟨h1,h2⟩:=pf h
  obtain ⟨h3,h4⟩:=bN h2
  exact ⟨by rw [List.map_cons,h1,h3],h4⟩
theorem Ie {B:List (Nat×Nat×Nat)} {H:List (Nat×OB)} : ∀ {l:List (Nat×OB)} {K:Prop},dY B H l K->l.map (λp=>(p.1,p.2.map (bg B H)))=l/\K
 | [],_,h=>⟨rfl,h⟩
 |(k, .var t vs)::l,_,h=>by
  obtain ⟨h1,h2⟩:=Uw h
  obtain ⟨h3,h4⟩:=Ie h2
  exact ⟨by rw [List.map_cons,h3];simp only [OB.map,h1],h4⟩
 |(k, .arr a b c d e)::l,_,h=>by
  obtain ⟨h3,h4⟩:=Ie (l:=l) h
  exact ⟨by rw [List.map_cons,h3];rfl,h4⟩
 |(k, .Dk a b c)::l,_,h=>by
  obtain ⟨h3,h4⟩:=Ie (l:=l) h
  exact ⟨by rw [List.map_cons,h3];rfl,h4⟩
 |(k, .Am a b c d e)::l,_,h=>by
  obtain ⟨h3,h4⟩:=Ie (l:=l) h
  exact ⟨by rw [List.map_cons,h3];rfl,h4⟩
 |(k, .Ov a b)::l,_,h=>by
  obtain ⟨h3,h4⟩:=Ie (l:=l) h
  exact ⟨by rw [List.map_cons,h3];rfl,h4⟩
theorem fj {B:List (Nat×Nat×Nat)} {s:St} {K:Prop} (h:uq B s K):s.whole B=s/\K:=by
 obtain ⟨h1,h2⟩:=bN h
 obtain ⟨h3,h4⟩:=Ie h2
 exact ⟨by unfold St.whole St.Gm;rw [h1,h3],h4⟩
theorem cf (live:List Nat): ∀(i:Nat) (l:List AV) (t:Nat),i+t∉live->(Ge live i l).getD t .undef= .undef
 |_,[],_,_=>rfl
 |i,v::r,0,h=>by simp [Ge];intro hn;exact absurd hn h
 |i,v::r,t+1,h=>by
  simp only [Ge,List.getD_cons_succ]
  exact cf live (i+1) r t (by rw [show i+1+t=i+(t+1) by omega];exact h)
theorem bp: ∀(l:List Nat) (st:St) (t:Nat),st.get t= .undef->(Yt l st).get t= .undef
 | [],_,_,h=>h
 |a::r,st,t,h=>bp r _ t (by
  show (st.tmps.map (·.map (Ba a))).getD t .undef= .undef
  rw [Sd (Ba a) rfl,show st.tmps.getD t .undef= .undef from h]
  rfl)
theorem u6 (l k:Nat) (st:St) (t:Nat) (h:st.get t= .undef):(st.rename l k).get t= .undef:=by
 unfold St.rename
 split
 ·split
  ·show (st.tmps.map (·.map (Oj l k))).getD t .undef= .undef
   rw [Sd (Oj l k) rfl,show st.tmps.getD t .undef= .undef from h]
   rfl
  ·exact h
 ·exact h
theorem Zk: ∀(n i:Nat) (st:St) (t:Nat),st.get t= .undef->(Hu n i st).get t= .undef
 |0,_,_,_,h=>h
 |n+1,i,st,t,h=>by
  simp only [Hu]
  refine Zk n (i+1) _ t ?_
  split
  ·split
   ·split
    ·exact h
    ·exact u6 _ _ _ t h
   ·exact h
  ·exact h
theorem tX (st:St) (d:Nat) (v:AV) (t:Nat) (Ep:t≠d) (h:st.get t= .undef):(st.put (some d) v).get t= .undef:=by rw [Vg _ _ Ep];exact h
theorem o3 (k:Nat) (st:St) (t:Nat) (h:st.get t= .undef):(Vs k st).get t= .undef:=by
 unfold Vs
 split
 ·rename_i l off len hg
  split
  ·split
   ·refine tX _ _ _ _ (λe=>by subst e;rw [hg] at h;cases h) ?_
    show (st.tmps.map (·.map (Ba l))).getD t .undef= .undef
    rw [Sd (Ba l) rfl,show st.tmps.getD t .undef= .undef from h]
    rfl
   ·exact h
  ·exact h
 ·exact h
theorem bB (live:List Nat): ∀(n i:Nat) (st:St) (t:Nat),st.get t= .undef->(Ju live n i st).get t= .undef
 |0,_,_,_,h=>h
 |n+1,i,st,t,h=>by
  simp only [Ju]
  refine bB live n (i+1) _ t ?_
  split
  ·exact o3 _ _ _ h
  ·exact h
theorem yL {live:List Nat} {st:St} {t:Nat} (h:((st.clean live).get t).Qt=true):t∈live:=by
 refine Classical.byContradiction λhn=>?_
 have:(st.clean live).get t= .undef:=by
  have key: ∀s:St,s.get t= .undef->(if live.contains Xb then Hu s.tmps.length 0 s else s).get t= .undef:=by
   intro s hs
   split
   ·exact Zk _ _ s t hs
   ·exact hs
  unfold St.clean
  have LI: ∀s:St,s.get t= .undef->(if live.any (λt=>Nat.ble Sr t) then s.Fa live else s).get t= .undef:=by
   intro s hs
   split<;>exact hs
  have LJ: ∀s:St,s.get t= .undef->(if live.any (λt=>Nat.ble Ht t&&Nat.blt t Xb) then Ju live s.tmps.length 0 s else s).get t= .undef:=by
   intro s hs
   split
   ·exact bB _ _ _ s t hs
   ·exact hs
  refine LI _ (key _ (LJ _ (bp _ _ t ?_)))
  exact cf live 0 st.tmps t (by simpa using hn)
 rw [this] at h
 cases h
theorem nw {c:AV} (h:c.Qt=true): ∃fr τ,∃x:τ.den,c= .at (.data fr τ x):=by
 unfold AV.Qt at h
 split at h
 ·exact ⟨_,_,_,rfl⟩
 ·cases h
theorem HK {live:Nat->List Nat} {c:Code} {t:Nat} (h:stays live c t=true):t∉writes c/\Vl live c t=true:=by
 unfold stays at h
 simpa using h
section
variable {T:Tab} {Γ:Env} {live:Nat->List Nat}
theorem Jj.keeps {c:Code} {st:St} {Q:Gy->St->Prop} (h:Jj T Γ live c st Q):Jj T Γ live c st (λe s=>Q e s/\Fk (λt=>t∉writes c/\Vl live c t=true) st s):=by
 exact AB h st _ Bc.rfl'.on λt ht=>ht
def wsQ (Q:Gy->WS->Prop) (e:Gy) (s:St):Prop:= ∃w':WS,w'.st=s/\w'.OK/\Q e w'
theorem wM {c:Code} (ih: ∀(w:WS) (Q:Gy->WS->Prop),w.OK->Ym T Γ live c w Q->Jj T Γ live c w.st (wsQ Q)) {w:WS} {Q:Gy->WS->Prop} (h:Ym T Γ live (.loop c) w Q):
  Jj T Γ live (.loop c) w.st (wsQ Q):=by
 simp only [Ym,EJ,fW] at h
 obtain ⟨XH,I,μ,h0,hs⟩:=fj h
 have Ae: ∀(t:Nat),((w.st.clean (live (Cl c))).get t).Qt=true->stays live c t=true-> ∀v,((St.pP (Hp (stays live c) 0 (w.st.clean (live (Cl c))).tmps) (w.st.clean (live (Cl c))) (dA ((w.st.clean (live (Cl c))).mask (Hp (stays live c) 0 (w.st.clean (live (Cl c))).tmps)) v)).whole (Sv T.parts (w.st.clean (live (Cl c))).tmps)).get t=(w.st.clean (live (Cl c))).get t:=by
  intro t h1 h2 v
  have h3:=ry (stays live c) 0 (w.st.clean (live (Cl c))).tmps (dA ((w.st.clean (live (Cl c))).mask (Hp (stays live c) 0 (w.st.clean (live (Cl c))).tmps)) v).tmps t
   ((bM _ _).trans (aA _ _)) h1 (by simpa using h2)
  obtain ⟨fr,τ,x,hx⟩:=nw h1
  refine (Ka _ _ rfl λ_ _ _=>rfl) t fr τ x ?_|>.trans hx.symm
  exact h3.trans hx
 have UI: ∀(s1:St),(∀t,((w.st.clean (live (Cl c))).get t).Qt=true->stays live c t=true->s1.get t=(w.st.clean (live (Cl c))).get t)->s1.whole (Sv T.parts (w.st.clean (live (Cl c))).tmps)=s1-> ∀v,dB ((w.st.clean (live (Cl c))).mask (Hp (stays live c) 0 (w.st.clean (live (Cl c))).tmps)) (s1.mask (Hp (stays live c) 0 (w.st.clean (live (Cl c))).tmps))=some v->
   s1=(St.pP (Hp (stays live c) 0 (w.st.clean (live (Cl c))).tmps) (w.st.clean (live (Cl c))) (dA ((w.st.clean (live (Cl c))).mask (Hp (stays live c) 0 (w.st.clean (live (Cl c))).tmps)) v)).whole (Sv T.parts (w.st.clean (live (Cl c))).tmps):=by
  intro s1 hf hwh v hv
  have h1:=dC hv
  have h2:St.pP (Hp (stays live c) 0 (w.st.clean (live (Cl c))).tmps) (w.st.clean (live (Cl c))) (s1.mask (Hp (stays live c) 0 (w.st.clean (live (Cl c))).tmps))=s1:=by
   simp only [St.pP,St.mask]
   rw [nQ (stays live c) 0 (w.st.clean (live (Cl c))).tmps s1.tmps λt h3 h4=>hf t h3 (by simpa using h4)]
  have h3:(St.pP (Hp (stays live c) 0 (w.st.clean (live (Cl c))).tmps) (w.st.clean (live (Cl c))) (dA ((w.st.clean (live (Cl c))).mask (Hp (stays live c) 0 (w.st.clean (live (Cl c))).tmps)) v)).whole (Sv T.parts (w.st.clean (live (Cl c))).tmps)=s1.whole (Sv T.parts (w.st.clean (live (Cl c))).tmps):=by
   refine yf ?_
   rw [nR,h1,<-nR,h2]
  rw [h3,hwh]
 refine GN (λv=>(St.pP (Hp (stays live c) 0 (w.st.clean (live (Cl c))).tmps) (w.st.clean (live (Cl c))) (dA ((w.st.clean (live (Cl c))).mask (Hp (stays live c) 0 (w.st.clean (live (Cl c))).tmps)) v)).whole (Sv T.parts (w.st.clean (live (Cl c))).tmps)) I μ _ h0 (UI _ (λ_ _ _=>rfl) XH _ (lu _ (gp _ _ (No h)))) ?_
 intro a ha
 refine (Jj.keeps (ih ⟨[],_⟩ _ (λt b h=>by cases h) (hs a ha))).mono ?_
 intro e s hQ
 obtain ⟨⟨w',h1,h2,h3⟩,hk⟩:=hQ
 subst h1
 cases e with
 |normal=>
  obtain ⟨h4,h5⟩:=fj h3
  obtain ⟨v',h6,h7,h8⟩:=At.1 h5
  refine ⟨v',UI _ (λt hd ht=>?_) h4 _ h6,h7,h8⟩
  obtain ⟨fr,τ,x,hx⟩:=nw hd
  rw [hx]
  exact fa (live (Cl c)) w'.st t fr τ x (yL hd) (hk t fr τ x (HK ht) (by rw [Ae t hd ht a];exact hx))
 |exit id=>exact ⟨w',rfl,h2,h3⟩
 |ret=>exact ⟨w',rfl,h2,h3⟩
theorem kK: ∀(c:Code) (w:WS) (Q:Gy->WS->Prop),w.OK->Ym T Γ live c w Q->Jj T Γ live c w.st (wsQ Q):=by
 intro c
 induction c with
 |skip=>intro w Q hw h;exact .skip ⟨w,rfl,hw,h⟩
 |label _=>intro w Q hw h;exact .label ⟨w,rfl,hw,h⟩
 |exit _=>intro w Q hw h;exact .exit ⟨w,rfl,hw,h⟩
 |ret=>intro w Q hw h;exact .ret ⟨w,rfl,hw,h⟩
 |region id ops draw=>
  intro w Q hw h
  exact .region ((pX hw h).mono λs ⟨w',h1,h2,h3⟩=>⟨w',h1,h2,an.1 h3⟩)
 |seq x y ihx ihy=>
  intro w Q hw h
  refine MW ((ihx w _ hw h).mono λe s hQ=>?_)
  obtain ⟨w',h1,h2,h3⟩:=hQ
  subst h1
  cases e with
  |normal=>exact ihy w' Q h2 h3
  |exit id=>exact ⟨w',rfl,h2,h3⟩
  |ret=>exact ⟨w',rfl,h2,h3⟩
 |cond c x y ihx ihy=>
  intro w Q hw h
  obtain ⟨fr,b,w',h1,h2,h3,h4⟩:=qD hw h
  refine GM h1 (λhb=>?_) (λhb=>?_)
  ·subst hb;rw [<-h2];exact ihx w' Q h3 h4
  ·subst hb;rw [<-h2];exact ihy w' Q h3 h4
 |block id c ih=>
  intro w Q hw h
  refine AA ((ih w _ hw h).mono λe s hQ=>?_)
  obtain ⟨w',h1,h2,h3⟩:=hQ
  subst h1
  cases e with
  |normal=>exact ⟨w',rfl,h2,h3⟩
  |ret=>exact ⟨w',rfl,h2,h3⟩
  |exit EV=>
   simp only at h3
   simp only [qX]
   split at h3
   ·rename_i hi;rw [if_pos hi];exact ⟨w',rfl,h2,h3⟩
   ·rename_i hi;rw [if_neg hi];exact ⟨w',rfl,h2,h3⟩
 |loop c ih=>intro w Q hw h;exact wM ih h
 |_=>intro w Q hw h;exact absurd h (by simp [Ym])
theorem mL {s:Spec} {fn:Func} {P:s.res.den->Prop} {st:St} (h:VJ T s fn P st): ∃fr y,ie T s fn st=some (fr,y)/\(fr||!s.fresh)=true/\P y:=by
 obtain ⟨p,h1,h2⟩:=At.1 h
 split at h2
 ·rename_i hf;exact ⟨p.1,p.2,h1,hf,h2⟩
 ·cases h2
theorem EI {s:Spec} {fn:Func} {x:s.arg.den} {P:s.res.den->Prop} (h:fnW T Γ s fn x P):JA T Γ s fn x P:=by
 unfold fnW at h
 obtain ⟨c,h1,h2⟩:=At.1 h
 refine ⟨c,h1,(kK c _ _ (λt b h=>by cases h) h2).mono λe st ⟨w,h4,h5,h6⟩=>?_⟩
 subst h4
 cases e with
 |normal=>exact ⟨λid hh=>(by cases hh),mL h6⟩
 |ret=>exact ⟨λid hh=>(by cases hh),mL h6⟩
 |exit id=>cases h6
theorem Wu {st:St} {K:Prop} : ∀(vs:List AC) (cs:List (Bool×CK)),cO st K vs cs->cN st vs cs/\K
 | [],cs,h=>⟨by simp [cN],by simpa [cO] using h⟩
 |a::vs,[],h=>⟨by cases a<;>simp [cN],by cases a<;>simpa [cO] using h⟩
 |a::vs,(false,c)::r,h=>by
  have h:cO st K vs r:=by cases a<;>simpa only [cO] using h
  obtain ⟨h1,h2⟩:=Wu vs r h
  exact ⟨by cases a<;>simpa only [cN] using h1,h2⟩
 |a::vs,(true,c)::r,h=>by
  cases a with
  |own l off len=>
   simp only [cO] at h
   split at h
   ·rename_i hl
    obtain ⟨h1,h2⟩:=Wu vs r h.2
    refine ⟨?_,h2⟩
    simp only [cN,hl]
    exact ⟨h.1,h1⟩
   ·rename_i hl
    obtain ⟨h1,h2⟩:=Wu vs r h.2
    refine ⟨?_,h2⟩
    simp only [cN,hl]
    exact ⟨h.1,h1⟩
   ·exact h.elim
  |_=>exact ⟨by simp [cN],by simpa [cO] using h⟩
theorem aF {st:St} : ∀(cs:List CK) (as:List AC) (K:CKs.den cs->List Nat->Prop),jU st cs as K-> ∃x ls,Oi st cs as=some (x,ls)/\K x ls
 | [],[],K,h=>⟨(),[],rfl,h⟩
 | [],_::_,_,h=>h.elim
 |c::r,[],K,h=>by cases c<;>exact h.elim
 |c::r,a::as,K,h=>by
  have pe:Ed (eH st c a) (λp=>jU st r as λy t=>K (p.1,y) (p.2++t))-> ∃x ls,Oi st (c::r) (a::as)=some (x,ls)/\K x ls:= λh=>by
   obtain ⟨p,h1,h2⟩:=At.1 h
   obtain ⟨y,t,h3,h4⟩:=aF r as _ h2
   exact ⟨_,_,by simp only [Oi,h1,h3],h4⟩
  cases c with
  |Am e te kp=>
   cases a with
   |own l off len=>
    simp only [jU] at h
    split at h
    ·rename_i hl
     split at h
     ·rename_i hc
      obtain ⟨⟨h1,h2⟩,h⟩:=h
      obtain ⟨y,t,h3,h4⟩:=aF r as _ h
      exact ⟨_,_,by simp only [Oi,eH,hl];rw [dif_pos ⟨hc.1,hc.2,h1,h2⟩];simp only [h3];rfl,h4⟩
     ·exact h.elim
    ·exact h.elim
   |_=>exact pe h
  |_=>exact pe h
theorem iC {st:St} {n:Nat} {as:List AC} {K:Prop} : ∀(ks:List (Nat×Nat)),tj st n as ks K->r7 st n as ks/\K
 | [],h=>⟨trivial,h⟩
 |(k,j)::r,h=>by
  simp only [tj] at h
  split at h
  ·rename_i l off len ha
   split at h
   ·rename_i p hl
    split at h
    ·rename_i hc
     simp only [Bool.and_eq_true] at hc
     obtain ⟨h1,h2⟩:=iC r h.2
     refine ⟨?_,h2⟩
     simp only [r7,ha,hl]
     exact ⟨⟨Nat.eq_of_beq_eq_true hc.1,h.1,hc.2⟩,h1⟩
    ·exact h.elim
   ·exact h.elim
  ·exact h.elim
theorem dp {s:MSpec} {fn:Func} {x:Ins.den s.ins} {st:St} {cs:List AC} {P:CKs.den s.outs×IOs.den s.ins->Prop} (h:o6 T s fn x st cs P):ei T s fn x st cs P:=by
 obtain ⟨l,h1,h⟩:=At.1 h
 obtain ⟨⟨as,ml⟩,h2,h⟩:=At.1 h
 obtain ⟨r,ls,h3,h⟩:=aF _ _ _ h
 obtain ⟨o,h4,h⟩:=At.1 h
 split at h
 ·rename_i hc
  obtain ⟨h5,h6⟩:=iC _ h
  unfold ei
  simp only [h1,h2,h3,h4]
  exact ⟨hc,h5,h6⟩
 ·exact h.elim
theorem lg {s:MSpec} {fn:Func} {x:Ins.den s.ins} {st:St} {P:CKs.den s.outs×IOs.den s.ins->Prop} (h:DE T s fn x st P):IZ T s fn x st P:=by
 unfold DE at h
 unfold IZ
 cases hp:s.ptr with
 |none=>rw [hp] at h;exact dp h
 |some p=>
  rw [hp] at h
  simp only at h⊢
  split at h
  ·rename_i tid vs hl
   split at h
   ·rename_i hc
    simp only [Bool.and_eq_true] at hc
    obtain ⟨h1,h2⟩:=hc
    have h1:tid=p.1:=Nat.eq_of_beq_eq_true h1
    have h2:=Nat.eq_of_beq_eq_true h2
    subst h1
    obtain ⟨cs,h3,h4⟩:=At.1 h
    obtain ⟨h5,h6⟩:=Wu vs s.ins h4
    exact ⟨vs,cs,hl,h2,h3,h5,dp h6⟩
   ·exact h.elim
  ·exact h.elim
theorem yW {s:MSpec} {fn:Func} {x:Ins.den s.ins} {P:CKs.den s.outs×IOs.den s.ins->Prop} (h:fnMW T Γ s fn x P):TB T Γ s fn x P:=by
 unfold fnMW at h
 split at h
 ·cases h
 rename_i hlen
 obtain ⟨c,h1,h2⟩:=At.1 h
 refine ⟨hlen,c,h1,(kK c _ _ (λt b h=>by cases h) h2).mono λe st ⟨w,h4,h5,h6⟩=>?_⟩
 subst h4
 cases e with
 |normal=>exact ⟨λid hh=>(by cases hh),lg h6⟩
 |ret=>exact ⟨λid hh=>(by cases hh),lg h6⟩
 |exit id=>cases h6
theorem Ck.ofW {P:Program} (hT:Cf P T) (Mk:Hf P Γ) (hm:P.follows .mixedOrders=true) {f:FuncId} {fn:Func} (hf:P.funcs[f]?=some fn) (hn:(fn.name== "runtime.NumGoroutine")=false)
  (hb:fn.body.isNone=false) (s:MSpec) (h: ∀x y,s.fn x=some y->fnMW T Γ s fn x (λz=>z=y)):Ck P f s:=
 ⟨cc hf hn hb,λw S π us x r o g vs h1 hg h2 h3 hS h4 h5=>po hT Mk hm hf s w S π us x r o g vs h1 hg h2 h3 hS h4 (yW (h x (r,o) h5))⟩
theorem Sound.ofW {P:Program} (hT:Cf P T) (Mk:Hf P Γ) (hm:P.follows .mixedOrders=true) {f:FuncId} {fn:Func} (hf:P.funcs[f]?=some fn) (hn:(fn.name== "runtime.NumGoroutine")=false)
  (hb:fn.body.isNone=false) (s:Spec) (h: ∀x y,s.fn x=some y->fnW T Γ s fn x (λz=>z=y)):Sound P f s:=
 MY hT Mk hm hf hn hb s λx y hx=>EI (h x y hx)
end
end Go.Proofs.Ytjbdmibbbpdnnaa
