/-
  Part 34 of the proof that the statement FnNoShorterSolution holds.
-/
import Derived.Test.YtkkdpknjohcekaaGreatCFNoShorterSolution32
namespace Go.Proofs.YtkkdpknjohcekaaGreat
open Go.RowKit
theorem Uv {B:List (Nat×Nat×Nat)} {H:List (Nat×OB)} : ∀ {l:List AV} {K:Prop},bE B H l K-> ∀c∈l,c.lE=true
 | [],_,_,c,hc=>by cases hc
 |d::l,K,h,c,hc=>by
  simp only [bE] at h
  cases d with
  |Ng l'=>exact h.elim
  | «at»a=>
   rcases Bg.1 hc with rfl|hc
   ·rfl
   ·have h':bE B H l K:=by
     cases a with
     |own k o n=>exact h.2.2
     |_=>exact h
    exact Uv h' c hc
  |bF _ _ _=>
   rcases Bg.1 hc with rfl|hc
   ·rfl
   ·exact Uv h c hc
  |agg cs=>
   rcases Bg.1 hc with rfl|hc
   ·rfl
   ·have: ∀(cs:List AC) (Q:Prop),dY B H cs Q->Q:=by
     intro cs
     induction cs with
     |nil=>exact λQ h=>h
     |cons a cs ih=>
      intro Q h
      have h2:dY B H cs Q:=by
       cases a with
       |own k o n=>exact h.2.2
       |_=>exact h
      exact ih Q h2
    exact Uv (this cs _ h) c hc
theorem mD: ∀(f:List Bool) (l:List AV),(∀c∈l,c.lE=true)-> ∀c∈Uf f l,c.lE=true
 | [],l,h=>by simpa [Uf] using h
 |true::f,[],h=>by simp [Uf] at h⊢
 |false::f,[],h=>by simp [Uf] at h⊢
 |true::f,a::l,h=>by
  intro c hc
  simp only [Uf,Bg] at hc
  rcases hc with rfl|hc
  ·rfl
  ·exact mD f l (λc hc=>h c (Ao _ hc)) c hc
 |false::f,a::l,h=>by
  intro c hc
  simp only [Uf,Bg] at hc
  rcases hc with rfl|hc
  ·exact h c (by simp)
  ·exact mD f l (λc hc=>h c (Ao _ hc)) c hc
theorem TD (f:AC->AC) (H:List (Nat×OB)) (l:Nat):lenOf (H.map λp=>(p.1,p.2.map f)) l=lenOf H l:=by
 unfold lenOf
 rw [Pl]
 cases Aw H l with
 |none=>rfl
 |some b=>cases b<;>rfl
theorem JH (f g:AC->AC) (c:AV):(c.map f).map g=c.map λa=>g (f a):=by
 cases c<;>simp [AV.map]
theorem LP (f g:AC->AC) (c:OB):(c.map f).map g=c.map λa=>g (f a):=by
 cases c<;>simp [OB.map]
theorem FJ (s:St) (f g:AC->AC):(s.Lp f).Lp g=s.Lp λa=>g (f a):=by
 simp [St.Lp,List.map_map,Function.comp_def,JH,LP]
theorem EZ (f:AC->AC) (H:List (Nat×OB)) (l:Nat): ∀(B:List (Nat×Nat×Nat)),TB B (H.map λp=>(p.1,p.2.map f)) l=TB B H l
 | []=>TD f H l
 |(k,o,n)::r=>by simp only [TB];rw [EZ f H l r]
theorem IQ (B:List (Nat×Nat×Nat)) (s:St):(s.Lp Tj).whole B=s.whole B:=by
 unfold St.whole
 rw [FJ]
 congr 1
 funext a
 cases a with
 |own l off len=>simp only [Tj,gG,St.Lp,EZ]
 |_=>rfl
theorem IP {B:List (Nat×Nat×Nat)} {s t:St} (h:s.Lp Tj=t.Lp Tj):s.whole B=t.whole B:=by rw [<-IQ B s,h,IQ]
theorem py (f:AC->AC): ∀(fx:List Bool) (a b:List AV),(Vn fx a b).map (·.map f)=Vn fx (a.map (·.map f)) (b.map (·.map f))
 | [],_,_=>by simp [Vn]
 |_::_,[],_=>by simp [Vn]
 |true::_,_::_,[]=>by simp [Vn]
 |false::_,_::_,[]=>by simp [Vn]
 |true::fx,x::a,y::b=>by simp only [Vn,Ca,py f fx a b]
 |false::fx,x::a,y::b=>by simp only [Vn,Ca,py f fx a b]
theorem uc (f:AC->AC) (fx:List Bool) (a b:St):(St.w7 fx a b).Lp f=St.w7 fx (a.Lp f) (b.Lp f):=by
 simp only [St.w7,St.Lp,py]
theorem ie: ∀(l:List AV) {R:Type} (v:qT l R),(Xd l v).1.length=l.length
 | [],_,_=>rfl
 |c::l,_,v=>by simp [Xd,ie l]
theorem xR (p:Nat->Bool): ∀(i:Nat) (l0 l:List AV) (t:Nat),l.length=l0.length->(l0.getD t .undef).Ym=true->p (i+t)=true->(Vn (Lb p i l0) l0 l).getD t .undef=l0.getD t .undef
 |_,[],_,t,_,h,_=>by simp [AV.Ym] at h
 |i,a::r,[],_,h,_,_=>by simp at h
 |i,a::r,b::s,0,_,h1,h2=>by
  have:(a.Ym&&p i)=true:=by
   simp only [Af]
   exact ⟨by simpa using h1,h2⟩
  simp only [Lb,this,Vn,Xt]
 |i,a::r,b::s,t+1,hl,h1,h2=>by
  have hr:=xR p (i+1) r s t (by simpa using hl) (by simpa using h1) (by rw [show i+1+t=i+(t+1) by omega];exact h2)
  simp only [Lb]
  cases (a.Ym&&p i)<;>simpa only [Vn,Nz] using hr
theorem kZ {B:List (Nat×Nat×Nat)} {H:List (Nat×OB)} {c:AC} {K:Prop} (h:yC B H c K):gG B H c=c/\K:=by
 cases c with
 |own l off len=>obtain ⟨h1,h2,h3⟩:=h;exact ⟨by rw [h1,h2];rfl,h3⟩
 |_=>exact ⟨rfl,h⟩
theorem bK {B:List (Nat×Nat×Nat)} {H:List (Nat×OB)} : ∀ {l:List AC} {K:Prop},dY B H l K->l.map (gG B H)=l/\K
 | [],_,h=>⟨rfl,h⟩
 |c::l,_,h=>by
  obtain ⟨h1,h2⟩:=kZ h
  obtain ⟨h3,h4⟩:=bK h2
  exact ⟨by rw [Ca,h1,h3],h4⟩
theorem vC {B:List (Nat×Nat×Nat)} {H:List (Nat×OB)} {c:AV} {K:Prop} (h:OW B H c K):c.map (gG B H)=c/\K:=by
 cases c with
 | «at»a=>obtain ⟨h1,h2⟩:=kZ h;exact ⟨by rw [AV.map,h1],h2⟩
 |agg cs=>obtain ⟨h1,h2⟩:=bK h;exact ⟨by rw [AV.map,h1],h2⟩
 |bF _ _ _=>exact ⟨rfl,h⟩
 |Ng l=>exact h.elim
theorem ig {B:List (Nat×Nat×Nat)} {H:List (Nat×OB)} : ∀ {l:List AV} {K:Prop},bE B H l K->l.map (·.map (gG B H))=l/\K
 | [],_,h=>⟨rfl,h⟩
 |c::l,_,h=>by
  obtain ⟨h1,h2⟩:=vC h
  obtain ⟨h3,h4⟩:=ig h2
  exact ⟨by rw [Ca,h1,h3],h4⟩
theorem Nw {B:List (Nat×Nat×Nat)} {H:List (Nat×OB)} : ∀ {l:List (Nat×OB)} {K:Prop},ky B H l K->l.map (λp=>(p.1,p.2.map (gG B H)))=l/\K
 | [],_,h=>⟨rfl,h⟩
 |(k, .var t vs)::l,_,h=>by
  obtain ⟨h1,h2⟩:=bK h
  obtain ⟨h3,h4⟩:=Nw h2
  exact ⟨by rw [Ca,h3];simp only [OB.map,h1],h4⟩
 |(k, .arr a b c d e)::l,_,h=>by
  obtain ⟨h3,h4⟩:=Nw (l:=l) h
  exact ⟨by rw [Ca,h3];rfl,h4⟩
 |(k, .He a b c)::l,_,h=>by
  obtain ⟨h3,h4⟩:=Nw (l:=l) h
  exact ⟨by rw [Ca,h3];rfl,h4⟩
 |(k, .Bo a b c d e)::l,_,h=>by
  obtain ⟨h3,h4⟩:=Nw (l:=l) h
  exact ⟨by rw [Ca,h3];rfl,h4⟩
 |(k, .Vy a b)::l,_,h=>by
  obtain ⟨h3,h4⟩:=Nw (l:=l) h
  exact ⟨by rw [Ca,h3];rfl,h4⟩
theorem lK {B:List (Nat×Nat×Nat)} {s:St} {K:Prop} (h:AU B s K):s.whole B=s/\K:=by
 obtain ⟨h1,h2⟩:=ig h
 obtain ⟨h3,h4⟩:=Nw h2
 exact ⟨by unfold St.whole St.Lp;rw [h1,h3],h4⟩
theorem iU (live:List Nat): ∀(i:Nat) (l:List AV) (t:Nat),i+t∉live->(Ja live i l).getD t .undef= .undef
 |_,[],_,_=>rfl
 |i,v::r,0,h=>by simp [Ja];intro hn;exact absurd hn h
 |i,v::r,t+1,h=>by
  simp only [Ja,Nz]
  exact iU live (i+1) r t (by rw [show i+1+t=i+(t+1) by omega];exact h)
theorem gQ: ∀(l:List Nat) (st:St) (t:Nat),st.get t= .undef->(bo l st).get t= .undef
 | [],_,_,h=>h
 |a::r,st,t,h=>gQ r _ t (by
  show (st.tmps.map (·.map (Ck a))).getD t .undef= .undef
  rw [Vh (Ck a) rfl,show st.tmps.getD t .undef= .undef from h]
  rfl)
theorem zW (l k:Nat) (st:St) (t:Nat) (h:st.get t= .undef):(st.rename l k).get t= .undef:=by
 unfold St.rename
 split
 ·split
  ·show (st.tmps.map (·.map (Vo l k))).getD t .undef= .undef
   rw [Vh (Vo l k) rfl,show st.tmps.getD t .undef= .undef from h]
   rfl
  ·exact h
 ·exact h
theorem eN: ∀(n i:Nat) (st:St) (t:Nat),st.get t= .undef->(Nd n i st).get t= .undef
 |0,_,_,_,h=>h
 |n+1,i,st,t,h=>by
  simp only [Nd]
  refine eN n (i+1) _ t ?_
  split
  ·split
   ·split
    ·exact h
    ·exact zW _ _ _ t h
   ·exact h
  ·exact h
theorem zR (st:St) (d:Nat) (v:AV) (t:Nat) (Jr:t≠d) (h:st.get t= .undef):(st.put (some d) v).get t= .undef:=by rw [bV _ _ Jr];exact h
theorem uo (k:Nat) (st:St) (t:Nat) (h:st.get t= .undef):(cf k st).get t= .undef:=by
 unfold cf
 split
 ·rename_i l off len hg
  split
  ·split
   ·refine zR _ _ _ _ (λe=>by subst e;rw [hg] at h;cases h) ?_
    show (st.tmps.map (·.map (Ck l))).getD t .undef= .undef
    rw [Vh (Ck l) rfl,show st.tmps.getD t .undef= .undef from h]
    rfl
   ·exact h
  ·exact h
 ·exact h
theorem mL (c:Nat) (st:St) (t:Nat) (h:st.get t= .undef):(Qo c st).get t= .undef:=by
 unfold Qo
 split
 ·split
  ·rename_i l off len hc
   split
   ·split
    ·split
     ·show (st.tmps.map (·.map (Ck l))).getD t .undef= .undef
      rw [Vh (Ck l) rfl,show st.tmps.getD t .undef= .undef from h]
      rfl
     ·exact h
    ·exact h
   ·exact h
  ·exact h
 ·exact h
theorem cY (live:List Nat): ∀(n i:Nat) (st:St) (t:Nat),st.get t= .undef->(Qf live n i st).get t= .undef
 |0,_,_,_,h=>h
 |n+1,i,st,t,h=>by
  simp only [Qf]
  refine cY live n (i+1) _ t ?_
  split
  ·exact mL _ _ _ h
  ·exact h
theorem gZ (live:List Nat): ∀(n i:Nat) (st:St) (t:Nat),st.get t= .undef->(Pr live n i st).get t= .undef
 |0,_,st,t,h=>cY live 16 0 st t h
 |n+1,i,st,t,h=>by
  simp only [Pr]
  refine gZ live n (i+1) _ t ?_
  split
  ·exact uo _ _ _ h
  ·exact h
theorem JS {live:List Nat} {st:St} {t:Nat} (h:((st.clean live).get t).Ym=true):t∈live:=by
 refine Bx λhn=>?_
 have:(st.clean live).get t= .undef:=by
  have key: ∀s:St,s.get t= .undef->(if live.contains cZ then Nd s.tmps.length 0 s else s).get t= .undef:=by
   intro s hs
   split
   ·exact eN _ _ s t hs
   ·exact hs
  unfold St.clean
  have ZN: ∀s:St,s.get t= .undef->(if live.any (λt=>Nat.ble Pv t) then s.Jp live else s).get t= .undef:=by
   intro s hs
   split<;>exact hs
  have ZO: ∀s:St,s.get t= .undef->(if live.any (λt=>Nat.ble Sq t&&Nat.blt t cZ) then Pr live s.tmps.length 0 s else s).get t= .undef:=by
   intro s hs
   split
   ·exact gZ _ _ _ s t hs
   ·exact hs
  refine ZN _ (key _ (ZO _ (gQ _ _ t ?_)))
  exact iU live 0 st.tmps t (by simpa using hn)
 rw [this] at h
 cases h
theorem tH {c:AV} (h:c.Ym=true): ∃fr τ,∃x:τ.den,c= .at (.data fr τ x):=by
 unfold AV.Ym at h
 split at h
 ·exact ⟨_,_,_,rfl⟩
 ·cases h
theorem VF {live:Nat->List Nat} {c:Code} {t:Nat} (h:stays live c t=true):t∉writes c/\c6 live c t=true:=by
 unfold stays at h
 simpa using h
section
variable {T:Tab} {Γ:Env} {live:Nat->List Nat}
theorem Oy.keeps {c:Code} {st:St} {Q:Mb->St->Prop} (h:Oy T Γ live c st Q):Oy T Γ live c st (λe s=>Q e s/\Ft (λt=>t∉writes c/\c6 live c t=true) st s):=by
 exact MX h st _ Cj.rfl'.on λt ht=>ht
def wsQ (Q:Mb->WS->Prop) (e:Mb) (s:St):Prop:= ∃w':WS,w'.st=s/\w'.OK/\Q e w'
theorem FG {c:Code} (ih: ∀(w:WS) (Q:Mb->WS->Prop),w.OK->ed T Γ live c w Q->Oy T Γ live c w.st (wsQ Q)) {w:WS} {Q:Mb->WS->Prop} (h:ed T Γ live (.loop c) w Q):
  Oy T Γ live (.loop c) w.st (wsQ Q):=by
 simp only [ed,SJ,fK] at h
 obtain ⟨hw0,I,μ,h0,hs⟩:=lK h
 have Aw: ∀(t:Nat),((w.st.clean (live (Ez c))).get t).Ym=true->stays live c t=true-> ∀v,((St.w7 (Lb (stays live c) 0 (w.st.clean (live (Ez c))).tmps) (w.st.clean (live (Ez c))) (jU ((w.st.clean (live (Ez c))).mask (Lb (stays live c) 0 (w.st.clean (live (Ez c))).tmps)) v)).whole (ar T.parts (w.st.clean (live (Ez c))).tmps)).get t=(w.st.clean (live (Ez c))).get t:=by
  intro t h1 h2 v
  have h3:=xR (stays live c) 0 (w.st.clean (live (Ez c))).tmps (jU ((w.st.clean (live (Ez c))).mask (Lb (stays live c) 0 (w.st.clean (live (Ez c))).tmps)) v).tmps t
   ((ie _ _).trans (fS _ _)) h1 (by simpa using h2)
  obtain ⟨fr,τ,x,hx⟩:=tH h1
  refine (Qb _ _ rfl λ_ _ _=>rfl) t fr τ x ?_|>.trans hx.symm
  exact h3.trans hx
 have hmk: ∀(s1:St),(∀t,((w.st.clean (live (Ez c))).get t).Ym=true->stays live c t=true->s1.get t=(w.st.clean (live (Ez c))).get t)->s1.whole (ar T.parts (w.st.clean (live (Ez c))).tmps)=s1-> ∀v,jV ((w.st.clean (live (Ez c))).mask (Lb (stays live c) 0 (w.st.clean (live (Ez c))).tmps)) (s1.mask (Lb (stays live c) 0 (w.st.clean (live (Ez c))).tmps))=some v->
   s1=(St.w7 (Lb (stays live c) 0 (w.st.clean (live (Ez c))).tmps) (w.st.clean (live (Ez c))) (jU ((w.st.clean (live (Ez c))).mask (Lb (stays live c) 0 (w.st.clean (live (Ez c))).tmps)) v)).whole (ar T.parts (w.st.clean (live (Ez c))).tmps):=by
  intro s1 hf hwh v hv
  have h1:=jW hv
  have h2:St.w7 (Lb (stays live c) 0 (w.st.clean (live (Ez c))).tmps) (w.st.clean (live (Ez c))) (s1.mask (Lb (stays live c) 0 (w.st.clean (live (Ez c))).tmps))=s1:=by
   simp only [St.w7,St.mask]
   rw [mH (stays live c) 0 (w.st.clean (live (Ez c))).tmps s1.tmps λt h3 h4=>hf t h3 (by simpa using h4)]
  have h3:(St.w7 (Lb (stays live c) 0 (w.st.clean (live (Ez c))).tmps) (w.st.clean (live (Ez c))) (jU ((w.st.clean (live (Ez c))).mask (Lb (stays live c) 0 (w.st.clean (live (Ez c))).tmps)) v)).whole (ar T.parts (w.st.clean (live (Ez c))).tmps)=s1.whole (ar T.parts (w.st.clean (live (Ez c))).tmps):=by
   refine IP ?_
   rw [uc,h1,<-uc,h2]
  rw [h3,hwh]
 refine UN (λv=>(St.w7 (Lb (stays live c) 0 (w.st.clean (live (Ez c))).tmps) (w.st.clean (live (Ez c))) (jU ((w.st.clean (live (Ez c))).mask (Lb (stays live c) 0 (w.st.clean (live (Ez c))).tmps)) v)).whole (ar T.parts (w.st.clean (live (Ez c))).tmps)) I μ _ h0 (hmk _ (λ_ _ _=>rfl) hw0 _ (qP _ (mD _ _ (Uv h)))) ?_
 intro a ha
 refine (Oy.keeps (ih ⟨[],_⟩ _ (λt b h=>by cases h) (hs a ha))).mono ?_
 intro e s hQ
 obtain ⟨⟨w',h1,h2,h3⟩,hk⟩:=hQ
 subst h1
 cases e with
 |normal=>
  obtain ⟨h4,h5⟩:=lK h3
  obtain ⟨v',h6,h7,h8⟩:=By.1 h5
  refine ⟨v',hmk _ (λt hd ht=>?_) h4 _ h6,h7,h8⟩
  obtain ⟨fr,τ,x,hx⟩:=tH hd
  rw [hx]
  exact ly (live (Ez c)) w'.st t fr τ x (JS hd) (hk t fr τ x (VF ht) (by rw [Aw t hd ht a];exact hx))
 |exit id=>exact ⟨w',rfl,h2,h3⟩
 |ret=>exact ⟨w',rfl,h2,h3⟩
theorem qc: ∀(c:Code) (w:WS) (Q:Mb->WS->Prop),w.OK->ed T Γ live c w Q->Oy T Γ live c w.st (wsQ Q):=by
 intro c
 induction c with
 |skip=>intro w Q hw h;exact .skip ⟨w,rfl,hw,h⟩
 |label _=>intro w Q hw h;exact .label ⟨w,rfl,hw,h⟩
 |exit _=>intro w Q hw h;exact .exit ⟨w,rfl,hw,h⟩
 |ret=>intro w Q hw h;exact .ret ⟨w,rfl,hw,h⟩
 |region id ops draw=>
  intro w Q hw h
  have hw':WS.OK {w with st:=w.st.nq ops} := λt b ht=>by
   obtain ⟨fr,e⟩:=hw t b ht
   exact ⟨fr,lz ops w.st t fr .bool b e⟩
  exact .region ((wq hw' h).mono λs ⟨w',h1,h2,h3⟩=>⟨w',h1,h2,Oo.1 h3⟩)
 |seq x y ihx ihy=>
  intro w Q hw h
  refine Aaw ((ihx w _ hw h).mono λe s hQ=>?_)
  obtain ⟨w',h1,h2,h3⟩:=hQ
  subst h1
  cases e with
  |normal=>exact ihy w' Q h2 h3
  |exit id=>exact ⟨w',rfl,h2,h3⟩
  |ret=>exact ⟨w',rfl,h2,h3⟩
 |cond c x y ihx ihy=>
  intro w Q hw h
  obtain ⟨fr,b,w',h1,h2,h3,h4⟩:=xb hw h
  refine UM h1 (λhb=>?_) (λhb=>?_)
  ·subst hb;rw [<-h2];exact ihx w' Q h3 h4
  ·subst hb;rw [<-h2];exact ihy w' Q h3 h4
 |block id c ih=>
  intro w Q hw h
  refine MW ((ih w _ hw h).mono λe s hQ=>?_)
  obtain ⟨w',h1,h2,h3⟩:=hQ
  subst h1
  cases e with
  |normal=>exact ⟨w',rfl,h2,h3⟩
  |ret=>exact ⟨w',rfl,h2,h3⟩
  |exit SX=>
   simp only at h3
   simp only [xB]
   split at h3
   ·rename_i hi;rw [Ab hi];exact ⟨w',rfl,h2,h3⟩
   ·rename_i hi;rw [Ai hi];exact ⟨w',rfl,h2,h3⟩
 |loop c ih=>intro w Q hw h;exact FG ih h
 |_=>intro w Q hw h;exact absurd h (by simp [ed])
theorem sR {s:Spec} {fn:Func} {P:s.res.den->Prop} {st:St} (h:Ah9 T s fn P st): ∃fr y,nE T s fn st=some (fr,y)/\(fr||!s.fresh)=true/\P y:=by
 obtain ⟨p,h1,h2⟩:=By.1 h
 split at h2
 ·rename_i hf;exact ⟨p.1,p.2,h1,hf,h2⟩
 ·cases h2
theorem SI {s:Spec} {fn:Func} {x:s.arg.den} {P:s.res.den->Prop} (h:fnW T Γ s fn x P):WZ T Γ s fn x P:=by
 unfold fnW at h
 obtain ⟨c,h1,h2⟩:=By.1 h
 refine ⟨c,h1,(qc c _ _ (λt b h=>by cases h) h2).mono λe st ⟨w,h4,h5,h6⟩=>?_⟩
 subst h4
 cases e with
 |normal=>exact ⟨λid hh=>(by cases hh),sR h6⟩
 |ret=>exact ⟨λid hh=>(by cases hh),sR h6⟩
 |exit id=>cases h6
theorem cT {st:St} {K:Prop} : ∀(vs:List AC) (cs:List (Bool×CK)),js st K vs cs->jr st vs cs/\K
 | [],cs,h=>⟨by simp [jr],by simpa [js] using h⟩
 |a::vs,[],h=>⟨by cases a<;>simp [jr],by cases a<;>simpa [js] using h⟩
 |a::vs,(false,c)::r,h=>by
  have h:js st K vs r:=by cases a<;>simpa only [js] using h
  obtain ⟨h1,h2⟩:=cT vs r h
  exact ⟨by cases a<;>simpa only [jr] using h1,h2⟩
 |a::vs,(true,c)::r,h=>by
  cases a with
  |own l off len=>
   simp only [js] at h
   split at h
   ·rename_i hl
    obtain ⟨h1,h2⟩:=cT vs r h.2
    refine ⟨?_,h2⟩
    simp only [jr,hl]
    exact ⟨h.1,h1⟩
   ·rename_i hl
    obtain ⟨h1,h2⟩:=cT vs r h.2
    refine ⟨?_,h2⟩
    simp only [jr,hl]
    exact ⟨h.1,h1⟩
   ·exact h.elim
  |_=>exact ⟨by simp [jr],by simpa [js] using h⟩
theorem fW {st:St} : ∀(cs:List CK) (as:List AC) (K:CKs.den cs->List Nat->Prop),px st cs as K-> ∃x ls,Vm st cs as=some (x,ls)/\K x ls
 | [],[],K,h=>⟨(),[],rfl,h⟩
 | [],_::_,_,h=>h.elim
 |c::r,[],K,h=>by cases c<;>exact h.elim
 |c::r,a::as,K,h=>by
  have vB:Ik (kV st c a) (λp=>px st r as λy t=>K (p.1,y) (p.2++t))-> ∃x ls,Vm st (c::r) (a::as)=some (x,ls)/\K x ls:= λh=>by
   obtain ⟨p,h1,h2⟩:=By.1 h
   obtain ⟨y,t,h3,h4⟩:=fW r as _ h2
   exact ⟨_,_,by simp only [Vm,h1,h3],h4⟩
  cases c with
  |Bo e te kp=>
   cases a with
   |own l off len=>
    simp only [px] at h
    split at h
    ·rename_i hl
     split at h
     ·rename_i hc
      obtain ⟨⟨h1,h2⟩,h⟩:=h
      obtain ⟨y,t,h3,h4⟩:=fW r as _ h
      exact ⟨_,_,by simp only [Vm,kV,hl];rw [Jq ⟨hc.1,hc.2,h1,h2⟩];simp only [h3];rfl,h4⟩
     ·exact h.elim
    ·exact h.elim
   |_=>exact vB h
  |_=>exact vB h
theorem nV {st:St} {n:Nat} {as:List AC} {K:Prop} : ∀(ks:List (Nat×Nat)),zk st n as ks K->xG st n as ks/\K
 | [],h=>⟨trivial,h⟩
 |(k,j)::r,h=>by
  simp only [zk] at h
  split at h
  ·rename_i l off len ha
   split at h
   ·rename_i p hl
    split at h
    ·rename_i hc
     simp only [Af] at hc
     obtain ⟨h1,h2⟩:=nV r h.2
     refine ⟨?_,h2⟩
     simp only [xG,ha,hl]
     exact ⟨⟨Kg hc.1,h.1,hc.2⟩,h1⟩
    ·exact h.elim
   ·exact h.elim
  ·exact h.elim
theorem jK {s:MSpec} {fn:Func} {x:Ins.den s.ins} {st:St} {cs:List AC} {P:CKs.den s.outs×IOs.den s.ins->Prop} (h:uw T s fn x st cs P):kJ T s fn x st cs P:=by
 obtain ⟨l,h1,h⟩:=By.1 h
 obtain ⟨⟨as,ml⟩,h2,h⟩:=By.1 h
 obtain ⟨r,ls,h3,h⟩:=fW _ _ _ h
 obtain ⟨o,h4,h⟩:=By.1 h
 split at h
 ·rename_i hc
  obtain ⟨h5,h6⟩:=nV _ h
  unfold kJ
  simp only [h1,h2,h3,h4]
  exact ⟨hc,h5,h6⟩
 ·exact h.elim
theorem qK {s:MSpec} {fn:Func} {x:Ins.den s.ins} {st:St} {P:CKs.den s.outs×IOs.den s.ins->Prop} (h:QV T s fn x st P):WY T s fn x st P:=by
 unfold QV at h
 unfold WY
 cases hp:s.ptr with
 |none=>rw [hp] at h;exact jK h
 |some p=>
  rw [hp] at h
  simp only at h⊢
  split at h
  ·rename_i tid vs hl
   split at h
   ·rename_i hc
    simp only [Af] at hc
    obtain ⟨h1,h2⟩:=hc
    have h1:tid=p.1:=Kg h1
    have h2:=Kg h2
    subst h1
    obtain ⟨cs,h3,h4⟩:=By.1 h
    obtain ⟨h5,h6⟩:=cT vs s.ins h4
    exact ⟨vs,cs,hl,h2,h3,h5,jK h6⟩
   ·exact h.elim
  ·exact h.elim
theorem KC {s:MSpec} {fn:Func} {x:Ins.den s.ins} {P:CKs.den s.outs×IOs.den s.ins->Prop} (h:fnMW T Γ s fn x P):Af7 T Γ s fn x P:=by
 unfold fnMW at h
 split at h
 ·cases h
 rename_i hlen
 obtain ⟨c,h1,h2⟩:=By.1 h
 refine ⟨hlen,c,h1,(qc c _ _ (λt b h=>by cases h) h2).mono λe st ⟨w,h4,h5,h6⟩=>?_⟩
 subst h4
 cases e with
 |normal=>exact ⟨λid hh=>(by cases hh),qK h6⟩
 |ret=>exact ⟨λid hh=>(by cases hh),qK h6⟩
 |exit id=>cases h6
theorem Cp.ofW {P:Program} (hT:Ed P T) (Po:Ll P Γ) (hm:P.follows .mixedOrders=true) {f:FuncId} {fn:Func} (hf:P.funcs[f]?=some fn) (hn:(fn.name== "runtime.NumGoroutine")=false)
  (hb:fn.body.isNone=false) (s:MSpec) (h: ∀x y,s.fn x=some y->fnMW T Γ s fn x (λz=>z=y)):Cp P f s:=
 ⟨iR hf hn hb,λw S π us x r o g vs h1 hg h2 h3 hS h4 h5=>vH hT Po hm hf s w S π us x r o g vs h1 hg h2 h3 hS h4 (KC (h x (r,o) h5))⟩
theorem Sound.ofW {P:Program} (hT:Ed P T) (Po:Ll P Γ) (hm:P.follows .mixedOrders=true) {f:FuncId} {fn:Func} (hf:P.funcs[f]?=some fn) (hn:(fn.name== "runtime.NumGoroutine")=false)
  (hb:fn.body.isNone=false) (s:Spec) (h: ∀x y,s.fn x=some y->fnW T Γ s fn x (λz=>z=y)):Sound P f s:=
 Aay hT Po hm hf hn hb s λx y hx=>SI (h x y hx)
end
end Go.Proofs.YtkkdpknjohcekaaGreat
