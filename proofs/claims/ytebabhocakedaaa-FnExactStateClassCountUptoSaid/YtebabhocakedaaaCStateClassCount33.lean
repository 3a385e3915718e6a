/-
  Part 34 of the proof that the statement FnExactStateClassCount holds.
-/
import Derived.Test.YtebabhocakedaaaCStateClassCount32
namespace Go.Proofs.Ytebabhocakedaaa
open Go.RowKit
theorem Lg {B:List(Nat×Nat×Nat)} {H:List(Nat×OB)} : ∀ {l:List AV} {K:Prop},Qk B H l K→ ∀c∈l,c.acm=true
 | [],_,_,c,hc=>by cases hc
 |d::l,K,h,c,hc=>by
  simp only [Qk]at h
  cases d with
  |tupc l'=>exact h.elim
  | «at»a=>
   rcases List.mem_cons.1 hc with rfl|hc
   ·rfl
   ·have h':Qk B H l K:=by
     cases a with
     |own k o n=>exact h.2.2
     |_=>exact h
    exact Lg h' c hc
  |tup _ _ _=>
   rcases List.mem_cons.1 hc with rfl|hc
   ·rfl
   ·exact Lg h c hc
  |agg cs=>
   rcases List.mem_cons.1 hc with rfl|hc
   ·rfl
   ·have: ∀(cs:List AC)(Q:Prop),Ut B H cs Q→Q:=by
     intro cs
     induction cs with
     |nil=>exact fun Q h=>h
     |cons a cs ih=>
      intro Q h
      have h2:Ut B H cs Q:=by
       cases a with
       |own k o n=>exact h.2.2
       |_=>exact h
      exact ih Q h2
    exact Lg(this cs _ h)c hc
theorem aev: ∀(f:List Bool)(l:List AV),(∀c∈l,c.acm=true)→ ∀c∈Lu f l,c.acm=true
 | [],l,h=>by simpa [Lu]using h
 |true::f,[],h=>by simp [Lu]at h⊢
 |false::f,[],h=>by simp [Lu]at h⊢
 |true::f,a::l,h=>by
  intro c hc
  simp only [Lu,List.mem_cons]at hc
  rcases hc with rfl|hc
  ·rfl
  ·exact aev f l(fun c hc=>h c(List.mem_cons_of_mem _ hc))c hc
 |false::f,a::l,h=>by
  intro c hc
  simp only [Lu,List.mem_cons]at hc
  rcases hc with rfl|hc
  ·exact h c(by simp)
  ·exact aev f l(fun c hc=>h c(List.mem_cons_of_mem _ hc))c hc
theorem bkw(f:AC→AC)(H:List(Nat×OB))(l:Nat):lenOf(H.map fun p=>(p.1,p.2.map f))l=lenOf H l:=by
 unfold lenOf
 rw [Hs]
 cases Ac H l with
 |none=>rfl
 |some b=>cases b<;>rfl
theorem bee(f g:AC→AC)(c:AV):(c.map f).map g=c.map fun a=>g(f a):=by
 cases c<;>simp [AV.map]
theorem bez(f g:AC→AC)(c:OB):(c.map f).map g=c.map fun a=>g(f a):=by
 cases c<;>simp [OB.map]
theorem bdf(s:St)(f g:AC→AC):(s.Ev f).Ev g=s.Ev fun a=>g(f a):=by
 simp [St.Ev,List.map_map,Function.comp_def,bee,bez]
theorem ayo(f:AC→AC)(H:List(Nat×OB))(l:Nat): ∀(B:List(Nat×Nat×Nat)),bkq B(H.map fun p=>(p.1,p.2.map f))l=bkq B H l
 | []=>bkw f H l
 |(k,o,n)::r=>by simp only [bkq];rw [ayo f H l r]
theorem ayv(B:List(Nat×Nat×Nat))(s:St):(s.Ev Km).whole B=s.whole B:=by
 unfold St.whole
 rw [bdf]
 congr 1
 funext a
 cases a with
 |own l off len=>simp only [Km,Vh,St.Ev,ayo]
 |_=>rfl
theorem baw {B:List(Nat×Nat×Nat)} {s t:St} (h:s.Ev Km=t.Ev Km):s.whole B=t.whole B:=by rw [←ayv B s,h,ayv]
theorem ahz(f:AC→AC): ∀(fx:List Bool)(a b:List AV),(Mk fx a b).map(·.map f)=Mk fx(a.map(·.map f))(b.map(·.map f))
 | [],_,_=>by simp [Mk]
 |_::_,[],_=>by simp [Mk]
 |true::_,_::_,[]=>by simp [Mk]
 |false::_,_::_,[]=>by simp [Mk]
 |true::fx,x::a,y::b=>by simp only [Mk,List.map_cons,ahz f fx a b]
 |false::fx,x::a,y::b=>by simp only [Mk,List.map_cons,ahz f fx a b]
theorem aoc(f:AC→AC)(fx:List Bool)(a b:St):(St.apy fx a b).Ev f=St.apy fx(a.Ev f)(b.Ev f):=by
 simp only [St.apy,St.Ev,ahz]
theorem aou(p:Nat→Bool): ∀(i:Nat)(l0 l1:List AV),(∀t,(l0.getD t .undef).Nd=true→p(i+t)=true→l1.getD t .undef=l0.getD t .undef)→
  Mk(Gb p i l0)l0(Lu(Gb p i l0)l1)=l1
 |_,[],l1,_=>by simp [Gb,Lu,Mk]
 |i,a::r,[],_=>by
  simp only [Gb]
  cases(a.Nd&&p i)<;>simp [Lu,Mk]
 |i,a::r,b::s,h=>by
  have hr:=aou p(i+1)r s fun t h1 h2=>by
   have:=h(t+1)(by simpa using h1)(by rw [show i+(t+1)=i+1+t by omega];exact h2)
   simpa using this
  simp only [Gb]
  cases hc:(a.Nd&&p i)with
  |false=>simp only [Lu,Mk];rw [hr]
  |true=>
   simp only [Lu,Mk]
   rw [hr]
   simp only [Bool.and_eq_true]at hc
   have:=h 0(by simpa using hc.1)hc.2
   simp only [List.getD_cons_zero]at this
   rw [this]
theorem Vd: ∀(f:List Bool)(l:List AV),(Lu f l).length=l.length
 | [],l=>by simp [Lu]
 |true::f,[]=>by simp [Lu]
 |false::f,[]=>by simp [Lu]
 |true::f,a::l=>by simp [Lu,Vd f l]
 |false::f,a::l=>by simp [Lu,Vd f l]
theorem Xj: ∀(l:List AV) {R:Type} (v:aji l R),(Mw l v).1.length=l.length
 | [],_,_=>rfl
 |c::l,_,v=>by simp [Mw,Xj l]
theorem asw(p:Nat→Bool): ∀(i:Nat)(l0 l:List AV)(t:Nat),l.length=l0.length→(l0.getD t .undef).Nd=true→p(i+t)=true→(Mk(Gb p i l0)l0 l).getD t .undef=l0.getD t .undef
 |_,[],_,t,_,h,_=>by simp [AV.Nd]at h
 |i,a::r,[],_,h,_,_=>by simp at h
 |i,a::r,b::s,0,_,h1,h2=>by
  have:(a.Nd&&p i)=true:=by
   simp only [Bool.and_eq_true]
   exact⟨by simpa using h1,h2⟩
  simp only [Gb,this,Mk,List.getD_cons_zero]
 |i,a::r,b::s,t+1,hl,h1,h2=>by
  have hr:=asw p(i+1)r s t(by simpa using hl)(by simpa using h1)(by rw [show i+1+t=i+(t+1)by omega];exact h2)
  simp only [Gb]
  cases(a.Nd&&p i)<;>simpa only [Mk,List.getD_cons_succ]using hr
theorem aco {B:List(Nat×Nat×Nat)} {H:List(Nat×OB)} {c:AC} {K:Prop} (h:ava B H c K):Vh B H c=c∧K:=by
 cases c with
 |own l off len=>obtain⟨h1,h2,h3⟩:=h;exact⟨by rw [h1,h2];rfl,h3⟩
 |_=>exact⟨rfl,h⟩
theorem Rk {B:List(Nat×Nat×Nat)} {H:List(Nat×OB)} : ∀ {l:List AC} {K:Prop},Ut B H l K→l.map(Vh B H)=l∧K
 | [],_,h=>⟨rfl,h⟩
 |c::l,_,h=>by
  obtain⟨h1,h2⟩:=aco h
  obtain⟨h3,h4⟩:=Rk h2
  exact⟨by rw [List.map_cons,h1,h3],h4⟩
theorem aqj {B:List(Nat×Nat×Nat)} {H:List(Nat×OB)} {c:AV} {K:Prop} (h:bhn B H c K):c.map(Vh B H)=c∧K:=by
 cases c with
 | «at»a=>obtain⟨h1,h2⟩:=aco h;exact⟨by rw [AV.map,h1],h2⟩
 |agg cs=>obtain⟨h1,h2⟩:=Rk h;exact⟨by rw [AV.map,h1],h2⟩
 |tup _ _ _=>exact⟨rfl,h⟩
 |tupc l=>exact h.elim
theorem Xl {B:List(Nat×Nat×Nat)} {H:List(Nat×OB)} : ∀ {l:List AV} {K:Prop},Qk B H l K→l.map(·.map(Vh B H))=l∧K
 | [],_,h=>⟨rfl,h⟩
 |c::l,_,h=>by
  obtain⟨h1,h2⟩:=aqj h
  obtain⟨h3,h4⟩:=Xl h2
  exact⟨by rw [List.map_cons,h1,h3],h4⟩
theorem Gm {B:List(Nat×Nat×Nat)} {H:List(Nat×OB)} : ∀ {l:List(Nat×OB)} {K:Prop},abi B H l K→l.map(fun p=>(p.1,p.2.map(Vh B H)))=l∧K
 | [],_,h=>⟨rfl,h⟩
 |(k, .var t vs)::l,_,h=>by
  obtain⟨h1,h2⟩:=Rk h
  obtain⟨h3,h4⟩:=Gm h2
  exact⟨by rw [List.map_cons,h3];simp only [OB.map,h1],h4⟩
 |(k, .arr a b c d e)::l,_,h=>by
  obtain⟨h3,h4⟩:=Gm(l:=l)h
  exact⟨by rw [List.map_cons,h3];rfl,h4⟩
 |(k, .xarr a b c)::l,_,h=>by
  obtain⟨h3,h4⟩:=Gm(l:=l)h
  exact⟨by rw [List.map_cons,h3];rfl,h4⟩
 |(k, .grid a b c d e)::l,_,h=>by
  obtain⟨h3,h4⟩:=Gm(l:=l)h
  exact⟨by rw [List.map_cons,h3];rfl,h4⟩
 |(k, .smp a b)::l,_,h=>by
  obtain⟨h3,h4⟩:=Gm(l:=l)h
  exact⟨by rw [List.map_cons,h3];rfl,h4⟩
theorem abu {B:List(Nat×Nat×Nat)} {s:St} {K:Prop} (h:avx B s K):s.whole B=s∧K:=by
 obtain⟨h1,h2⟩:=Xl h
 obtain⟨h3,h4⟩:=Gm h2
 exact⟨by unfold St.whole St.Ev;rw [h1,h3],h4⟩
theorem aaf(live:List Nat): ∀(i:Nat)(l:List AV)(t:Nat),i+t∉live→(Eh live i l).getD t .undef= .undef
 |_,[],_,_=>rfl
 |i,v::r,0,h=>by simp [Eh];intro hn;exact absurd hn h
 |i,v::r,t+1,h=>by
  simp only [Eh,List.getD_cons_succ]
  exact aaf live(i+1)r t(by rw [show i+1+t=i+(t+1)by omega];exact h)
theorem Xq: ∀(l:List Nat)(st:St)(t:Nat),st.get t= .undef→(Uu l st).get t= .undef
 | [],_,_,h=>h
 |a::r,st,t,h=>Xq r _ t(by
  show(st.tmps.map(·.map(Aw a))).getD t .undef= .undef
  rw [Ov(Aw a)rfl,show st.tmps.getD t .undef= .undef from h]
  rfl)
theorem aud(l k:Nat)(st:St)(t:Nat)(h:st.get t= .undef):(st.rename l k).get t= .undef:=by
 unfold St.rename
 split
 ·split
  ·show(st.tmps.map(·.map(Md l k))).getD t .undef= .undef
   rw [Ov(Md l k)rfl,show st.tmps.getD t .undef= .undef from h]
   rfl
  ·exact h
 ·exact h
theorem Ul: ∀(n i:Nat)(st:St)(t:Nat),st.get t= .undef→(Ga n i st).get t= .undef
 |0,_,_,_,h=>h
 |n+1,i,st,t,h=>by
  simp only [Ga]
  refine Ul n(i+1)_ t ?_
  split
  ·split
   ·split
    ·exact h
    ·exact aud _ _ _ t h
   ·exact h
  ·exact h
theorem awy(st:St)(d:Nat)(v:AV)(t:Nat)(hne:t≠d)(h:st.get t= .undef):(st.put(some d)v).get t= .undef:=by rw [Qv _ _ hne];exact h
theorem apr(k:Nat)(st:St)(t:Nat)(h:st.get t= .undef):(Rw k st).get t= .undef:=by
 unfold Rw
 split
 ·rename_i l off len hg
  split
  ·split
   ·refine awy _ _ _ _(fun e=>by subst e;rw [hg]at h;cases h)?_
    show(st.tmps.map(·.map(Aw l))).getD t .undef= .undef
    rw [Ov(Aw l)rfl,show st.tmps.getD t .undef= .undef from h]
    rfl
   ·exact h
  ·exact h
 ·exact h
theorem Xg(live:List Nat): ∀(n i:Nat)(st:St)(t:Nat),st.get t= .undef→(Hx live n i st).get t= .undef
 |0,_,_,_,h=>h
 |n+1,i,st,t,h=>by
  simp only [Hx]
  refine Xg live n(i+1)_ t ?_
  split
  ·exact apr _ _ _ h
  ·exact h
theorem bdo {live:List Nat} {st:St} {t:Nat} (h:((st.clean live).get t).Nd=true):t∈live:=by
 refine Classical.byContradiction fun hn=>?_
 have:(st.clean live).get t= .undef:=by
  have key: ∀s:St,s.get t= .undef→(if live.contains Si then Ga s.tmps.length 0 s else s).get t= .undef:=by
   intro s hs
   split
   ·exact Ul _ _ s t hs
   ·exact hs
  unfold St.clean
  have key0: ∀s:St,s.get t= .undef→(if live.any(fun t=>Nat.ble Oq t)then s.Dt live else s).get t= .undef:=by
   intro s hs
   split<;>exact hs
  have key1: ∀s:St,s.get t= .undef→(if live.any(fun t=>Nat.ble Jy t&&Nat.blt t Si)then Hx live s.tmps.length 0 s else s).get t= .undef:=by
   intro s hs
   split
   ·exact Xg _ _ _ s t hs
   ·exact hs
  refine key0 _(key _(key1 _(Xq _ _ t ?_)))
  exact aaf live 0 st.tmps t(by simpa using hn)
 rw [this]at h
 cases h
theorem aol {c:AV} (h:c.Nd=true): ∃fr τ,∃x:τ.den,c= .at(.data fr τ x):=by
 unfold AV.Nd at h
 split at h
 ·exact⟨_,_,_,rfl⟩
 ·cases h
theorem bis {live:Nat→List Nat} {c:Code} {t:Nat} (h:stays live c t=true):t∉writes c∧Rd live c t=true:=by
 unfold stays at h
 simpa using h
section
variable {T:Tab} {Γ:Env} {live:Nat→List Nat}
theorem Hl.keeps {c:Code} {st:St} {Q:Fg→St→Prop} (h:Hl T Γ live c st Q):Hl T Γ live c st(fun e s=>Q e s∧Dz(fun t=>t∉writes c∧Rd live c t=true)st s):=by
 exact bge h st _ Ay.Hc.on fun t ht=>ht
def wsQ(Q:Fg→WS→Prop)(e:Fg)(s:St):Prop:= ∃w':WS,w'.st=s∧w'.OK∧Q e w'
theorem azv {c:Code} (ih: ∀(w:WS)(Q:Fg→WS→Prop),w.OK→Uz T Γ live c w Q→Hl T Γ live c w.st(wsQ Q)) {w:WS} {Q:Fg→WS→Prop} (h:Uz T Γ live(.loop c)w Q):
  Hl T Γ live(.loop c)w.st(wsQ Q):=by
 simp only [Uz,bkt,adz]at h
 obtain⟨hw0,I,μ,h0,hs⟩:=abu h
 have Ac: ∀(t:Nat),((w.st.clean(live(Bw c))).get t).Nd=true→stays live c t=true→ ∀v,((St.apy(Gb(stays live c)0(w.st.clean(live(Bw c))).tmps)(w.st.clean(live(Bw c)))(Yh((w.st.clean(live(Bw c))).mask(Gb(stays live c)0(w.st.clean(live(Bw c))).tmps))v)).whole(Pg T.parts(w.st.clean(live(Bw c))).tmps)).get t=(w.st.clean(live(Bw c))).get t:=by
  intro t h1 h2 v
  have h3:=asw(stays live c)0(w.st.clean(live(Bw c))).tmps(Yh((w.st.clean(live(Bw c))).mask(Gb(stays live c)0(w.st.clean(live(Bw c))).tmps))v).tmps t
   ((Xj _ _).trans(Vd _ _))h1(by simpa using h2)
  obtain⟨fr,τ,x,hx⟩:=aol h1
  refine(Ie _ _ rfl fun _ _ _=>rfl)t fr τ x ?_|>.trans hx.symm
  exact h3.trans hx
 have hmk: ∀(s1:St),(∀t,((w.st.clean(live(Bw c))).get t).Nd=true→stays live c t=true→s1.get t=(w.st.clean(live(Bw c))).get t)→s1.whole(Pg T.parts(w.st.clean(live(Bw c))).tmps)=s1→ ∀v,Zo((w.st.clean(live(Bw c))).mask(Gb(stays live c)0(w.st.clean(live(Bw c))).tmps))(s1.mask(Gb(stays live c)0(w.st.clean(live(Bw c))).tmps))=some v→
   s1=(St.apy(Gb(stays live c)0(w.st.clean(live(Bw c))).tmps)(w.st.clean(live(Bw c)))(Yh((w.st.clean(live(Bw c))).mask(Gb(stays live c)0(w.st.clean(live(Bw c))).tmps))v)).whole(Pg T.parts(w.st.clean(live(Bw c))).tmps):=by
  intro s1 hf hwh v hv
  have h1:=Yk hv
  have h2:St.apy(Gb(stays live c)0(w.st.clean(live(Bw c))).tmps)(w.st.clean(live(Bw c)))(s1.mask(Gb(stays live c)0(w.st.clean(live(Bw c))).tmps))=s1:=by
   simp only [St.apy,St.mask]
   rw [aou(stays live c)0(w.st.clean(live(Bw c))).tmps s1.tmps fun t h3 h4=>hf t h3(by simpa using h4)]
  have h3:(St.apy(Gb(stays live c)0(w.st.clean(live(Bw c))).tmps)(w.st.clean(live(Bw c)))(Yh((w.st.clean(live(Bw c))).mask(Gb(stays live c)0(w.st.clean(live(Bw c))).tmps))v)).whole(Pg T.parts(w.st.clean(live(Bw c))).tmps)=s1.whole(Pg T.parts(w.st.clean(live(Bw c))).tmps):=by
   refine baw ?_
   rw [aoc,h1,←aoc,h2]
  rw [h3,hwh]
 refine bjv(fun v=>(St.apy(Gb(stays live c)0(w.st.clean(live(Bw c))).tmps)(w.st.clean(live(Bw c)))(Yh((w.st.clean(live(Bw c))).mask(Gb(stays live c)0(w.st.clean(live(Bw c))).tmps))v)).whole(Pg T.parts(w.st.clean(live(Bw c))).tmps))I μ _ h0(hmk _(fun _ _ _=>rfl)hw0 _(ajz _(aev _ _(Lg h))))?_
 intro a ha
 refine(Hl.keeps(ih⟨[],_⟩_(fun t b h=>by cases h)(hs a ha))).mono ?_
 intro e s hQ
 obtain⟨⟨w',h1,h2,h3⟩,hk⟩:=hQ
 subst h1
 cases e with
 |normal=>
  obtain⟨h4,h5⟩:=abu h3
  obtain⟨v',h6,h7,h8⟩:=Al.1 h5
  refine⟨v',hmk _(fun t hd ht=>?_)h4 _ h6,h7,h8⟩
  obtain⟨fr,τ,x,hx⟩:=aol hd
  rw [hx]
  exact aby(live(Bw c))w'.st t fr τ x(bdo hd)(hk t fr τ x(bis ht)(by rw [Ac t hd ht a];exact hx))
 |exit id=>exact⟨w',rfl,h2,h3⟩
 |ret=>exact⟨w',rfl,h2,h3⟩
theorem ajg: ∀(c:Code)(w:WS)(Q:Fg→WS→Prop),w.OK→Uz T Γ live c w Q→Hl T Γ live c w.st(wsQ Q):=by
 intro c
 induction c with
 |skip=>intro w Q hw h;exact .skip⟨w,rfl,hw,h⟩
 |label _=>intro w Q hw h;exact .label⟨w,rfl,hw,h⟩
 |exit _=>intro w Q hw h;exact .exit⟨w,rfl,hw,h⟩
 |ret=>intro w Q hw h;exact .ret⟨w,rfl,hw,h⟩
 |region id ops draw=>
  intro w Q hw h
  exact .region((aqg hw h).mono fun s⟨w',h1,h2,h3⟩=>⟨w',h1,h2,Vo.1 h3⟩)
 |seq x y ihx ihy=>
  intro w Q hw h
  refine bmi((ihx w _ hw h).mono fun e s hQ=>?_)
  obtain⟨w',h1,h2,h3⟩:=hQ
  subst h1
  cases e with
  |normal=>exact ihy w' Q h2 h3
  |exit id=>exact⟨w',rfl,h2,h3⟩
  |ret=>exact⟨w',rfl,h2,h3⟩
 |cond c x y ihx ihy=>
  intro w Q hw h
  obtain⟨fr,b,w',h1,h2,h3,h4⟩:=atd hw h
  refine biq h1(fun hb=>?_)(fun hb=>?_)
  ·subst hb;rw [←h2];exact ihx w' Q h3 h4
  ·subst hb;rw [←h2];exact ihy w' Q h3 h4
 |block id c ih=>
  intro w Q hw h
  refine bgm((ih w _ hw h).mono fun e s hQ=>?_)
  obtain⟨w',h1,h2,h3⟩:=hQ
  subst h1
  cases e with
  |normal=>exact⟨w',rfl,h2,h3⟩
  |ret=>exact⟨w',rfl,h2,h3⟩
  |exit id'=>
   simp only at h3
   simp only [ate]
   split at h3
   ·rename_i hi;rw [if_pos hi];exact⟨w',rfl,h2,h3⟩
   ·rename_i hi;rw [if_neg hi];exact⟨w',rfl,h2,h3⟩
 |loop c ih=>intro w Q hw h;exact azv ih h
 |_=>intro w Q hw h;exact absurd h(by simp [Uz])
theorem ama {s:Spec} {fn:Func} {P:s.res.den→Prop} {st:St} (h:bsl T s fn P st): ∃fr y,ago T s fn st=some(fr,y)∧(fr||!s.fresh)=true∧P y:=by
 obtain⟨p,h1,h2⟩:=Al.1 h
 split at h2
 ·rename_i hf;exact⟨p.1,p.2,h1,hf,h2⟩
 ·cases h2
theorem bjx {s:Spec} {fn:Func} {x:s.arg.den} {P:s.res.den→Prop} (h:fnW T Γ s fn x P):bnm T Γ s fn x P:=by
 unfold fnW at h
 obtain⟨c,h1,h2⟩:=Al.1 h
 refine⟨c,h1,(ajg c _ _(fun t b h=>by cases h)h2).mono fun e st⟨w,h4,h5,h6⟩=>?_⟩
 subst h4
 cases e with
 |normal=>exact⟨fun id hh=>(by cases hh),ama h6⟩
 |ret=>exact⟨fun id hh=>(by cases hh),ama h6⟩
 |exit id=>cases h6
theorem Sb {st:St} {K:Prop} : ∀(vs:List AC)(cs:List(Bool×CK)),Ye st K vs cs→Zx st vs cs∧K
 | [],cs,h=>⟨by simp [Zx],by simpa [Ye]using h⟩
 |a::vs,[],h=>⟨by cases a<;>simp [Zx],by cases a<;>simpa [Ye]using h⟩
 |a::vs,(false,c)::r,h=>by
  have h:Ye st K vs r:=by cases a<;>simpa only [Ye]using h
  obtain⟨h1,h2⟩:=Sb vs r h
  exact⟨by cases a<;>simpa only [Zx]using h1,h2⟩
 |a::vs,(true,c)::r,h=>by
  cases a with
  |own l off len=>
   simp only [Ye]at h
   split at h
   ·rename_i hl
    obtain⟨h1,h2⟩:=Sb vs r h.2
    refine⟨?_,h2⟩
    simp only [Zx,hl]
    exact⟨h.1,h1⟩
   ·rename_i hl
    obtain⟨h1,h2⟩:=Sb vs r h.2
    refine⟨?_,h2⟩
    simp only [Zx,hl]
    exact⟨h.1,h1⟩
   ·exact h.elim
  |_=>exact⟨by simp [Zx],by simpa [Ye]using h⟩
theorem Vq {st:St} : ∀(cs:List CK)(as:List AC)(K:CKs.den cs→List Nat→Prop),aiw st cs as K→ ∃x ls,Me st cs as=some(x,ls)∧K x ls
 | [],[],K,h=>⟨(),[],rfl,h⟩
 | [],_::_,_,h=>h.elim
 |c::r,[],K,h=>by cases c<;>exact h.elim
 |c::r,a::as,K,h=>by
  have old:Da(abn st c a)(fun p=>aiw st r as fun y t=>K(p.1,y)(p.2++t))→ ∃x ls,Me st(c::r)(a::as)=some(x,ls)∧K x ls:=fun h=>by
   obtain⟨p,h1,h2⟩:=Al.1 h
   obtain⟨y,t,h3,h4⟩:=Vq r as _ h2
   exact⟨_,_,by simp only [Me,h1,h3],h4⟩
  cases c with
  |grid e te kp=>
   cases a with
   |own l off len=>
    simp only [aiw]at h
    split at h
    ·rename_i hl
     split at h
     ·rename_i hc
      obtain⟨⟨h1,h2⟩,h⟩:=h
      obtain⟨y,t,h3,h4⟩:=Vq r as _ h
      exact⟨_,_,by simp only [Me,abn,hl];rw [dif_pos⟨hc.1,hc.2,h1,h2⟩];simp only [h3];rfl,h4⟩
     ·exact h.elim
    ·exact h.elim
   |_=>exact old h
  |_=>exact old h
theorem agq {st:St} {n:Nat} {as:List AC} {K:Prop} : ∀(ks:List(Nat×Nat)),auk st n as ks K→ati st n as ks∧K
 | [],h=>⟨trivial,h⟩
 |(k,j)::r,h=>by
  simp only [auk]at h
  split at h
  ·rename_i l off len ha
   split at h
   ·rename_i p hl
    split at h
    ·rename_i hc
     simp only [Bool.and_eq_true]at hc
     obtain⟨h1,h2⟩:=agq r h.2
     refine⟨?_,h2⟩
     simp only [ati,ha,hl]
     exact⟨⟨Nat.eq_of_beq_eq_true hc.1,h.1,hc.2⟩,h1⟩
    ·exact h.elim
   ·exact h.elim
  ·exact h.elim
theorem Yw {s:Bg} {fn:Func} {x:Ins.den s.ins} {st:St} {cs:List AC} {P:CKs.den s.outs×IOs.den s.ins→Prop} (h:apl T s fn x st cs P):abh T s fn x st cs P:=by
 obtain⟨l,h1,h⟩:=Al.1 h
 obtain⟨⟨as,ml⟩,h2,h⟩:=Al.1 h
 obtain⟨r,ls,h3,h⟩:=Vq _ _ _ h
 obtain⟨o,h4,h⟩:=Al.1 h
 split at h
 ·rename_i hc
  obtain⟨h5,h6⟩:=agq _ h
  unfold abh
  simp only [h1,h2,h3,h4]
  exact⟨hc,h5,h6⟩
 ·exact h.elim
theorem akf {s:Bg} {fn:Func} {x:Ins.den s.ins} {st:St} {P:CKs.den s.outs×IOs.den s.ins→Prop} (h:bhx T s fn x st P):bnt T s fn x st P:=by
 unfold bhx at h
 unfold bnt
 cases hp:s.ptr with
 |none=>rw [hp]at h;exact Yw h
 |some p=>
  rw [hp]at h
  simp only at h⊢
  split at h
  ·rename_i tid vs hl
   split at h
   ·rename_i hc
    simp only [Bool.and_eq_true]at hc
    obtain⟨h1,h2⟩:=hc
    have h1:tid=p.1:=Nat.eq_of_beq_eq_true h1
    have h2:=Nat.eq_of_beq_eq_true h2
    subst h1
    obtain⟨cs,h3,h4⟩:=Al.1 h
    obtain⟨h5,h6⟩:=Sb vs s.ins h4
    exact⟨vs,cs,hl,h2,h3,h5,Yw h6⟩
   ·exact h.elim
  ·exact h.elim
theorem bgw {s:Bg} {fn:Func} {x:Ins.den s.ins} {P:CKs.den s.outs×IOs.den s.ins→Prop} (h:Nk T Γ s fn x P):bqx T Γ s fn x P:=by
 unfold Nk at h
 split at h
 ·cases h
 rename_i hlen
 obtain⟨c,h1,h2⟩:=Al.1 h
 refine⟨hlen,c,h1,(ajg c _ _(fun t b h=>by cases h)h2).mono fun e st⟨w,h4,h5,h6⟩=>?_⟩
 subst h4
 cases e with
 |normal=>exact⟨fun id hh=>(by cases hh),akf h6⟩
 |ret=>exact⟨fun id hh=>(by cases hh),akf h6⟩
 |exit id=>cases h6
theorem Bj.ofW {P:Program} (hT:Bs P T)(hΓ:Gj P Γ)(hm:P.follows .mixedOrders=true) {f:FuncId} {fn:Func} (hf:P.funcs[f]?=some fn)(hn:(fn.name== "runtime.NumGoroutine")=false)
  (hb:fn.body.isNone=false)(s:Bg)(h: ∀x y,s.fn x=some y→Nk T Γ s fn x(fun z=>z=y)):Bj P f s:=
 ⟨Zn hf hn hb,fun w S π us x r o g vs h1 hg h2 h3 hS h4 h5=>aqn hT hΓ hm hf s w S π us x r o g vs h1 hg h2 h3 hS h4(bgw(h x(r,o)h5))⟩
theorem Sound.ofW {P:Program} (hT:Bs P T)(hΓ:Gj P Γ)(hm:P.follows .mixedOrders=true) {f:FuncId} {fn:Func} (hf:P.funcs[f]?=some fn)(hn:(fn.name== "runtime.NumGoroutine")=false)
  (hb:fn.body.isNone=false)(s:Spec)(h: ∀x y,s.fn x=some y→fnW T Γ s fn x(fun z=>z=y)):Sound P f s:=
 bmg hT hΓ hm hf hn hb s fun x y hx=>bjx(h x y hx)
end
end Go.Proofs.Ytebabhocakedaaa
