/-
  Part 34 of the proof that the statement FnExactSolveTwoPhaseWithin holds.
-/
import Derived.Test.YtfgfigkbgecfnaaCSolveTwoPhaseWithin32
namespace Go.Proofs.Ytfgfigkbgecfnaa
open Go.RowKit
theorem Vi {B:List (Nat×Nat×Nat)} {H:List (Nat×OB)} : ∀ {l:List AV} {K:Prop},bK B H l K-> ∀c∈l,c.lQ=true
 | [],_,_,c,hc=>by cases hc
 |d::l,K,h,c,hc=>by
  simp only [bK] at h
  cases d with
  |Nh l'=>exact h.elim
  | «at»a=>
   rcases Bd.1 hc with rfl|hc
   ·rfl
   ·have h':bK B H l K:=by
     cases a with
     |own k o n=>exact h.2.2
     |_=>exact h
    exact Vi h' c hc
  |bL _ _ _=>
   rcases Bd.1 hc with rfl|hc
   ·rfl
   ·exact Vi h c hc
  |agg cs=>
   rcases Bd.1 hc with rfl|hc
   ·rfl
   ·have: ∀(cs:List AC) (Q:Prop),ez B H cs Q->Q:=by
     intro cs
     induction cs with
     |nil=>exact λQ h=>h
     |cons a cs ih=>
      intro Q h
      have h2:ez B H cs Q:=by
       cases a with
       |own k o n=>exact h.2.2
       |_=>exact h
      exact ih Q h2
    exact Vi (this cs _ h) c hc
theorem mR: ∀(f:List Bool) (l:List AV),(∀c∈l,c.lQ=true)-> ∀c∈Ut f l,c.lQ=true
 | [],l,h=>by simpa [Ut] using h
 |true::f,[],h=>by simp [Ut] at h⊢
 |false::f,[],h=>by simp [Ut] at h⊢
 |true::f,a::l,h=>by
  intro c hc;simp only [Ut,Bd] at hc;rcases hc with rfl|hc
  ·rfl
  ·exact mR f l (λc hc=>h c (At _ hc)) c hc
 |false::f,a::l,h=>by
  intro c hc;simp only [Ut,Bd] at hc;rcases hc with rfl|hc
  ·exact h c (by simp)
  ·exact mR f l (λc hc=>h c (At _ hc)) c hc
theorem VI (f:AC->AC) (H:List (Nat×OB)) (l:Nat):lenOf (H.map λp=>(p.1,p.2.map f)) l=lenOf H l:=by
 unfold lenOf;rw [Pl]
 cases Ay H l with
 |none=>rfl
 |some b=>cases b<;>rfl
theorem LS (f g:AC->AC) (c:AV):(c.map f).map g=c.map λa=>g (f a):=by
 cases c<;>simp [AV.map]
theorem OH (f g:AC->AC) (c:OB):(c.map f).map g=c.map λa=>g (f a):=by
 cases c<;>simp [OB.map]
theorem HK (s:St) (f g:AC->AC):(s.Lo f).Lo g=s.Lo λa=>g (f a):=by
 simp [St.Lo,List.map_map,Function.comp_def,LS,OH]
theorem GV (f:AC->AC) (H:List (Nat×OB)) (l:Nat): ∀(B:List (Nat×Nat×Nat)),VG B (H.map λp=>(p.1,p.2.map f)) l=VG B H l
 | []=>VI f H l
 |(k,o,n)::r=>by simp only [VG];rw [GV f H l r]
theorem KV (B:List (Nat×Nat×Nat)) (s:St):(s.Lo Tt).whole B=s.whole B:=by
 unfold St.whole;rw [HK]
 congr 1
 funext a
 cases a with
 |own l off len=>simp only [Tt,gT,St.Lo,GV]
 |_=>rfl
theorem KT {B:List (Nat×Nat×Nat)} {s t:St} (h:s.Lo Tt=t.Lo Tt):s.whole B=t.whole B:=by rw [<-KV B s,h,KV]
theorem pZ (f:AC->AC): ∀(fx:List Bool) (a b:List AV),(Wd fx a b).map (·.map f)=Wd fx (a.map (·.map f)) (b.map (·.map f))
 | [],_,_=>by simp [Wd]
 |_::_,[],_=>by simp [Wd]
 |true::_,_::_,[]=>by simp [Wd]
 |false::_,_::_,[]=>by simp [Wd]
 |true::fx,x::a,y::b=>by simp only [Wd,Cb,pZ f fx a b]
 |false::fx,x::a,y::b=>by simp only [Wd,Cb,pZ f fx a b]
theorem uL (f:AC->AC) (fx:List Bool) (a b:St):(St.wV fx a b).Lo f=St.wV fx (a.Lo f) (b.Lo f):=by
 simp only [St.wV,St.Lo,pZ]
theorem iy: ∀(l:List AV) {R:Type} (v:rS l R),(Xo l v).1.length=l.length
 | [],_,_=>rfl
 |c::l,_,v=>by simp [Xo,iy l]
theorem yy (p:Nat->Bool): ∀(i:Nat) (l0 l:List AV) (t:Nat),l.length=l0.length->(l0.getD t .undef).Yv=true->p (i+t)=true->(Wd (Lb p i l0) l0 l).getD t .undef=l0.getD t .undef
 |_,[],_,t,_,h,_=>by simp [AV.Yv] at h
 |i,a::r,[],_,h,_,_=>by simp at h
 |i,a::r,b::s,0,_,h1,h2=>by
  have:(a.Yv&&p i)=true:=by
   simp only [Ak];exact ⟨by simpa using h1,h2⟩
  simp only [Lb,this,Wd,Yg]
 |i,a::r,b::s,t+1,hl,h1,h2=>by
  have hr:=yy p (i+1) r s t (by simpa using hl) (by simpa using h1) (by rw [show i+1+t=i+(t+1) by omega];exact h2);simp only [Lb]
  cases (a.Yv&&p i)<;>simpa only [Wd,Nz] using hr
theorem lk {B:List (Nat×Nat×Nat)} {H:List (Nat×OB)} {c:AC} {K:Prop} (h:zg B H c K):gT B H c=c/\K:=by
 cases c with
 |own l off len=>obtain ⟨h1,h2,h3⟩:=h;exact ⟨by rw [h1,h2];rfl,h3⟩
 |_=>exact ⟨rfl,h⟩
theorem bR {B:List (Nat×Nat×Nat)} {H:List (Nat×OB)} : ∀ {l:List AC} {K:Prop},ez B H l K->l.map (gT B H)=l/\K
 | [],_,h=>⟨rfl,h⟩
 |c::l,_,h=>by
  obtain ⟨h1,h2⟩:=lk h;obtain ⟨h3,h4⟩:=bR h2;exact ⟨by rw [Cb,h1,h3],h4⟩
theorem wy {B:List (Nat×Nat×Nat)} {H:List (Nat×OB)} {c:AV} {K:Prop} (h:RH B H c K):c.map (gT B H)=c/\K:=by
 cases c with
 | «at»a=>obtain ⟨h1,h2⟩:=lk h;exact ⟨by rw [AV.map,h1],h2⟩
 |agg cs=>obtain ⟨h1,h2⟩:=bR h;exact ⟨by rw [AV.map,h1],h2⟩
 |bL _ _ _=>exact ⟨rfl,h⟩
 |Nh l=>exact h.elim
theorem iz {B:List (Nat×Nat×Nat)} {H:List (Nat×OB)} : ∀ {l:List AV} {K:Prop},bK B H l K->l.map (·.map (gT B H))=l/\K
 | [],_,h=>⟨rfl,h⟩
 |c::l,_,h=>by
  obtain ⟨h1,h2⟩:=wy h;obtain ⟨h3,h4⟩:=iz h2;exact ⟨by rw [Cb,h1,h3],h4⟩
theorem Nx {B:List (Nat×Nat×Nat)} {H:List (Nat×OB)} : ∀ {l:List (Nat×OB)} {K:Prop},kG B H l K->l.map (λp=>(p.1,p.2.map (gT B H)))=l/\K
 | [],_,h=>⟨rfl,h⟩
 |(k, .var t vs)::l,_,h=>by
  obtain ⟨h1,h2⟩:=bR h;obtain ⟨h3,h4⟩:=Nx h2;exact ⟨by rw [Cb,h3];simp only [OB.map,h1],h4⟩
 |(k, .arr a b c d e)::l,_,h=>by
  obtain ⟨h3,h4⟩:=Nx (l:=l) h;exact ⟨by rw [Cb,h3];rfl,h4⟩
 |(k, .Hl a b c)::l,_,h=>by
  obtain ⟨h3,h4⟩:=Nx (l:=l) h;exact ⟨by rw [Cb,h3];rfl,h4⟩
 |(k, .Ca a b c d e)::l,_,h=>by
  obtain ⟨h3,h4⟩:=Nx (l:=l) h;exact ⟨by rw [Cb,h3];rfl,h4⟩
 |(k, .Wl a b)::l,_,h=>by
  obtain ⟨h3,h4⟩:=Nx (l:=l) h;exact ⟨by rw [Cb,h3];rfl,h4⟩
theorem lV {B:List (Nat×Nat×Nat)} {s:St} {K:Prop} (h:CL B s K):s.whole B=s/\K:=by
 obtain ⟨h1,h2⟩:=iz h;obtain ⟨h3,h4⟩:=Nx h2;exact ⟨by unfold St.whole St.Lo;rw [h1,h3],h4⟩
theorem iZ (live:List Nat): ∀(i:Nat) (l:List AV) (t:Nat),i+t∉live->(Iq live i l).getD t .undef= .undef
 |_,[],_,_=>rfl
 |i,v::r,0,h=>by simp [Iq];intro hn;exact absurd hn h
 |i,v::r,t+1,h=>by
  simp only [Iq,Nz];exact iZ live (i+1) r t (by rw [show i+1+t=i+(t+1) by omega];exact h)
theorem ia: ∀(l:List Nat) (st:St) (t:Nat),st.get t= .undef->(bC l st).get t= .undef
 | [],_,_,h=>h
 |a::r,st,t,h=>ia r _ t (by
  show (st.tmps.map (·.map (Cy a))).getD t .undef= .undef;rw [Vx (Cy a) rfl,show st.tmps.getD t .undef= .undef from h]
  rfl)
theorem BQ (l k:Nat) (st:St) (t:Nat) (h:st.get t= .undef):(st.rename l k).get t= .undef:=by
 unfold St.rename;split
 ·split
  ·show (st.tmps.map (·.map (We l k))).getD t .undef= .undef;rw [Vx (We l k) rfl,show st.tmps.getD t .undef= .undef from h];rfl
  ·exact h
 ·exact h
theorem fc: ∀(n i:Nat) (st:St) (t:Nat),st.get t= .undef->(Ng n i st).get t= .undef
 |0,_,_,_,h=>h
 |n+1,i,st,t,h=>by
  simp only [Ng];refine fc n (i+1) _ t ?_;split
  ·split
   ·split
    ·exact h
    ·exact BQ _ _ _ t h
   ·exact h
  ·exact h
theorem BL (st:St) (d:Nat) (v:AV) (t:Nat) (Ii:t≠d) (h:st.get t= .undef):(st.put (some d) v).get t= .undef:=by rw [c9 _ _ Ii];exact h
theorem uU (k:Nat) (st:St) (t:Nat) (h:st.get t= .undef):(cz k st).get t= .undef:=by
 unfold cz;split
 ·rename_i l off len hg;split
  ·split
   ·refine BL _ _ _ _ (λe=>by subst e;rw [hg] at h;cases h) ?_;show (st.tmps.map (·.map (Cy l))).getD t .undef= .undef;rw [Vx (Cy l) rfl,show st.tmps.getD t .undef= .undef from h];rfl
   ·exact h
  ·exact h
 ·exact h
theorem mZ (c:Nat) (st:St) (t:Nat) (h:st.get t= .undef):(Qi c st).get t= .undef:=by
 unfold Qi;split
 ·split
  ·rename_i l off len hc;split
   ·split
    ·split
     ·show (st.tmps.map (·.map (Cy l))).getD t .undef= .undef;rw [Vx (Cy l) rfl,show st.tmps.getD t .undef= .undef from h];rfl
     ·exact h
    ·exact h
   ·exact h
  ·exact h
 ·exact h
theorem dx (live:List Nat): ∀(n i:Nat) (st:St) (t:Nat),st.get t= .undef->(Py live n i st).get t= .undef
 |0,_,_,_,h=>h
 |n+1,i,st,t,h=>by
  simp only [Py];refine dx live n (i+1) _ t ?_;split
  ·exact mZ _ _ _ h
  ·exact h
theorem il (live:List Nat): ∀(n i:Nat) (st:St) (t:Nat),st.get t= .undef->(Po live n i st).get t= .undef
 |0,_,st,t,h=>dx live 16 0 st t h
 |n+1,i,st,t,h=>by
  simp only [Po];refine il live n (i+1) _ t ?_;split
  ·exact uU _ _ _ h
  ·exact h
theorem MG {live:List Nat} {st:St} {t:Nat} (h:((st.clean live).get t).Yv=true):t∈live:=by
 refine Bz λhn=>?_
 have:(st.clean live).get t= .undef:=by
  have key: ∀s:St,s.get t= .undef->(if live.contains dy then Ng s.tmps.length 0 s else s).get t= .undef:=by
   intro s hs;split
   ·exact fc _ _ s t hs
   ·exact hs
  unfold St.clean
  have Abe: ∀s:St,s.get t= .undef->(if live.any (λt=>Nat.ble Ux t) then s.Jg live else s).get t= .undef:=by
   intro s hs
   split<;>exact hs
  have Abf: ∀s:St,s.get t= .undef->(if live.any (λt=>Nat.ble Nf t&&Nat.blt t dy) then Po live s.tmps.length 0 s else s).get t= .undef:=by
   intro s hs;split
   ·exact il _ _ _ s t hs
   ·exact hs
  refine Abe _ (key _ (Abf _ (ia _ _ t ?_)));exact iZ live 0 st.tmps t (by simpa using hn)
 rw [this] at h;cases h
theorem uj {c:AV} (h:c.Yv=true): ∃fr τ,∃x:τ.den,c= .at (.data fr τ x):=by
 unfold AV.Yv at h;split at h
 ·exact ⟨_,_,_,rfl⟩
 ·cases h
theorem XH {live:Nat->List Nat} {c:Code} {t:Nat} (h:stays live c t=true):t∉writes c/\cj live c t=true:=by
 unfold stays at h;simpa using h
section
variable {T:Tab} {Γ:Env} {live:Nat->List Nat}
theorem Ox.keeps {c:Code} {st:St} {Q:Md->St->Prop} (h:Ox T Γ live c st Q):Ox T Γ live c st (λe s=>Q e s/\Gg (λt=>t∉writes c/\cj live c t=true) st s):=by
 exact PM h st _ Cu.rfl'.on λt ht=>ht
def wsQ (Q:Md->WS->Prop) (e:Md) (s:St):Prop:= ∃w':WS,w'.st=s/\w'.OK/\Q e w'
theorem HE {c:Code} (ih: ∀(w:WS) (Q:Md->WS->Prop),w.OK->eC T Γ live c w Q->Ox T Γ live c w.st (wsQ Q)) {w:WS} {Q:Md->WS->Prop} (h:eC T Γ live (.loop c) w Q):
  Ox T Γ live (.loop c) w.st (wsQ Q):=by
 simp only [eC,UO,fT] at h;obtain ⟨hw0,I,μ,h0,hs⟩:=lV h
 have Ay: ∀(t:Nat),((w.st.clean (live (Fm c))).get t).Yv=true->stays live c t=true-> ∀v,((St.wV (Lb (stays live c) 0 (w.st.clean (live (Fm c))).tmps) (w.st.clean (live (Fm c))) (ka ((w.st.clean (live (Fm c))).mask (Lb (stays live c) 0 (w.st.clean (live (Fm c))).tmps)) v)).whole (aG T.parts (w.st.clean (live (Fm c))).tmps)).get t=(w.st.clean (live (Fm c))).get t:=by
  intro t h1 h2 v
  have h3:=yy (stays live c) 0 (w.st.clean (live (Fm c))).tmps (ka ((w.st.clean (live (Fm c))).mask (Lb (stays live c) 0 (w.st.clean (live (Fm c))).tmps)) v).tmps t
   ((iy _ _).trans (gh _ _)) h1 (by simpa using h2)
  obtain ⟨fr,τ,x,hx⟩:=uj h1
  refine (Pw _ _ rfl λ_ _ _=>rfl) t fr τ x ?_|>.trans hx.symm
  exact h3.trans hx
 have hmk: ∀(s1:St),(∀t,((w.st.clean (live (Fm c))).get t).Yv=true->stays live c t=true->s1.get t=(w.st.clean (live (Fm c))).get t)->s1.whole (aG T.parts (w.st.clean (live (Fm c))).tmps)=s1-> ∀v,kb ((w.st.clean (live (Fm c))).mask (Lb (stays live c) 0 (w.st.clean (live (Fm c))).tmps)) (s1.mask (Lb (stays live c) 0 (w.st.clean (live (Fm c))).tmps))=some v->
   s1=(St.wV (Lb (stays live c) 0 (w.st.clean (live (Fm c))).tmps) (w.st.clean (live (Fm c))) (ka ((w.st.clean (live (Fm c))).mask (Lb (stays live c) 0 (w.st.clean (live (Fm c))).tmps)) v)).whole (aG T.parts (w.st.clean (live (Fm c))).tmps):=by
  intro s1 hf hwh v hv;have h1:=kc hv
  have h2:St.wV (Lb (stays live c) 0 (w.st.clean (live (Fm c))).tmps) (w.st.clean (live (Fm c))) (s1.mask (Lb (stays live c) 0 (w.st.clean (live (Fm c))).tmps))=s1:=by
   simp only [St.wV,St.mask];rw [mV (stays live c) 0 (w.st.clean (live (Fm c))).tmps s1.tmps λt h3 h4=>hf t h3 (by simpa using h4)]
  have h3:(St.wV (Lb (stays live c) 0 (w.st.clean (live (Fm c))).tmps) (w.st.clean (live (Fm c))) (ka ((w.st.clean (live (Fm c))).mask (Lb (stays live c) 0 (w.st.clean (live (Fm c))).tmps)) v)).whole (aG T.parts (w.st.clean (live (Fm c))).tmps)=s1.whole (aG T.parts (w.st.clean (live (Fm c))).tmps):=by
   refine KT ?_;rw [uL,h1,<-uL,h2]
  rw [h3,hwh]
 refine WT (λv=>(St.wV (Lb (stays live c) 0 (w.st.clean (live (Fm c))).tmps) (w.st.clean (live (Fm c))) (ka ((w.st.clean (live (Fm c))).mask (Lb (stays live c) 0 (w.st.clean (live (Fm c))).tmps)) v)).whole (aG T.parts (w.st.clean (live (Fm c))).tmps)) I μ _ h0 (hmk _ (λ_ _ _=>rfl) hw0 _ (rM _ (mR _ _ (Vi h)))) ?_;intro a ha;refine (Ox.keeps (ih ⟨[],_⟩ _ (λt b h=>by cases h) (hs a ha))).mono ?_;intro e s hQ;obtain ⟨⟨w',h1,h2,h3⟩,hk⟩:=hQ;subst h1
 cases e with
 |normal=>
  obtain ⟨h4,h5⟩:=lV h3;obtain ⟨v',h6,h7,h8⟩:=Ch.1 h5;refine ⟨v',hmk _ (λt hd ht=>?_) h4 _ h6,h7,h8⟩;obtain ⟨fr,τ,x,hx⟩:=uj hd;rw [hx];exact lM (live (Fm c)) w'.st t fr τ x (MG hd) (hk t fr τ x (XH ht) (by rw [Ay t hd ht a];exact hx))
 |exit id=>exact ⟨w',rfl,h2,h3⟩
 |ret=>exact ⟨w',rfl,h2,h3⟩
theorem qL: ∀(c:Code) (w:WS) (Q:Md->WS->Prop),w.OK->eC T Γ live c w Q->Ox T Γ live c w.st (wsQ Q):=by
 intro c
 induction c with
 |skip=>intro w Q hw h;exact .skip ⟨w,rfl,hw,h⟩
 |label _=>intro w Q hw h;exact .label ⟨w,rfl,hw,h⟩
 |exit _=>intro w Q hw h;exact .exit ⟨w,rfl,hw,h⟩
 |ret=>intro w Q hw h;exact .ret ⟨w,rfl,hw,h⟩
 |region id ops draw=>
  intro w Q hw h
  have hw':WS.OK {w with st:=w.st.nL ops} := λt b ht=>by
   obtain ⟨fr,e⟩:=hw t b ht;exact ⟨fr,lN ops w.st t fr .bool b e⟩
  exact .region ((x7 hw' h).mono λs ⟨w',h1,h2,h3⟩=>⟨w',h1,h2,Ot.1 h3⟩)
 |seq x y ihx ihy=>
  intro w Q hw h;refine Acp ((ihx w _ hw h).mono λe s hQ=>?_);obtain ⟨w',h1,h2,h3⟩:=hQ;subst h1
  cases e with
  |normal=>exact ihy w' Q h2 h3
  |exit id=>exact ⟨w',rfl,h2,h3⟩
  |ret=>exact ⟨w',rfl,h2,h3⟩
 |cond c x y ihx ihy=>
  intro w Q hw h;obtain ⟨fr,b,w',h1,h2,h3,h4⟩:=xJ hw h;refine WR h1 (λhb=>?_) (λhb=>?_)
  ·subst hb;rw [<-h2];exact ihx w' Q h3 h4
  ·subst hb;rw [<-h2];exact ihy w' Q h3 h4
 |block id c ih=>
  intro w Q hw h;refine PK ((ih w _ hw h).mono λe s hQ=>?_);obtain ⟨w',h1,h2,h3⟩:=hQ;subst h1
  cases e with
  |normal=>exact ⟨w',rfl,h2,h3⟩
  |ret=>exact ⟨w',rfl,h2,h3⟩
  |exit VA=>
   simp only at h3;simp only [yb];split at h3
   ·rename_i hi;rw [Ac hi];exact ⟨w',rfl,h2,h3⟩
   ·rename_i hi;rw [Ai hi];exact ⟨w',rfl,h2,h3⟩
 |loop c ih=>intro w Q hw h;exact HE ih h
 |_=>intro w Q hw h;exact absurd h (by simp [eC])
theorem tC {s:Spec} {fn:Func} {P:s.res.den->Prop} {st:St} (h:Ajp T s fn P st): ∃fr y,nV T s fn st=some (fr,y)/\(fr||!s.fresh)=true/\P y:=by
 obtain ⟨p,h1,h2⟩:=Ch.1 h;split at h2
 ·rename_i hf;exact ⟨p.1,p.2,h1,hf,h2⟩
 ·cases h2
theorem UN {s:Spec} {fn:Func} {x:s.arg.den} {P:s.res.den->Prop} (h:fnW T Γ s fn x P):ZG T Γ s fn x P:=by
 unfold fnW at h;obtain ⟨c,h1,h2⟩:=Ch.1 h;refine ⟨c,h1,(qL c _ _ (λt b h=>by cases h) h2).mono λe st ⟨w,h4,h5,h6⟩=>?_⟩;subst h4
 cases e with
 |normal=>exact ⟨λid hh=>(by cases hh),tC h6⟩
 |ret=>exact ⟨λid hh=>(by cases hh),tC h6⟩
 |exit id=>cases h6
theorem dp {st:St} {K:Prop} : ∀(vs:List AC) (cs:List (Bool×CK)),jy st K vs cs->jx st vs cs/\K
 | [],cs,h=>⟨by simp [jx],by simpa [jy] using h⟩
 |a::vs,[],h=>⟨by cases a<;>simp [jx],by cases a<;>simpa [jy] using h⟩
 |a::vs,(false,c)::r,h=>by
  have h:jy st K vs r:=by cases a<;>simpa only [jy] using h
  obtain ⟨h1,h2⟩:=dp vs r h
  exact ⟨by cases a<;>simpa only [jx] using h1,h2⟩
 |a::vs,(true,c)::r,h=>by
  cases a with
  |own l off len=>
   simp only [jy] at h;split at h
   ·rename_i hl;obtain ⟨h1,h2⟩:=dp vs r h.2;refine ⟨?_,h2⟩;simp only [jx,hl];exact ⟨h.1,h1⟩
   ·rename_i hl;obtain ⟨h1,h2⟩:=dp vs r h.2;refine ⟨?_,h2⟩;simp only [jx,hl];exact ⟨h.1,h1⟩
   ·exact h.elim
  |_=>exact ⟨by simp [jx],by simpa [jy] using h⟩
theorem gm {st:St} : ∀(cs:List CK) (as:List AC) (K:CKs.den cs->List Nat->Prop),pY st cs as K-> ∃x ls,Wc st cs as=some (x,ls)/\K x ls
 | [],[],K,h=>⟨(),[],rfl,h⟩
 | [],_::_,_,h=>h.elim
 |c::r,[],K,h=>by cases c<;>exact h.elim
 |c::r,a::as,K,h=>by
  have wu:Ig (lf st c a) (λp=>pY st r as λy t=>K (p.1,y) (p.2++t))-> ∃x ls,Wc st (c::r) (a::as)=some (x,ls)/\K x ls:= λh=>by
   obtain ⟨p,h1,h2⟩:=Ch.1 h;obtain ⟨y,t,h3,h4⟩:=gm r as _ h2;exact ⟨_,_,by simp only [Wc,h1,h3],h4⟩
  cases c with
  |Ca e te kp=>
   cases a with
   |own l off len=>
    simp only [pY] at h;split at h
    ·rename_i hl;split at h
     ·rename_i hc;obtain ⟨⟨h1,h2⟩,h⟩:=h;obtain ⟨y,t,h3,h4⟩:=gm r as _ h;exact ⟨_,_,by simp only [Wc,lf,hl];rw [Jj ⟨hc.1,hc.2,h1,h2⟩];simp only [h3];rfl,h4⟩
     ·exact h.elim
    ·exact h.elim
   |_=>exact wu h
  |_=>exact wu h
theorem oe {st:St} {n:Nat} {as:List AC} {K:Prop} : ∀(ks:List (Nat×Nat)),AE st n as ks K->yf st n as ks/\K
 | [],h=>⟨trivial,h⟩
 |(k,j)::r,h=>by
  simp only [AE] at h;split at h
  ·rename_i l off len ha;split at h
   ·rename_i p hl;split at h
    ·rename_i hc;simp only [Ak] at hc;obtain ⟨h1,h2⟩:=oe r h.2;refine ⟨?_,h2⟩;simp only [yf,ha,hl];exact ⟨⟨Kd hc.1,h.1,hc.2⟩,h1⟩
    ·exact h.elim
   ·exact h.elim
  ·exact h.elim
theorem jN {s:MSpec} {fn:Func} {x:Ins.den s.ins} {st:St} {cs:List AC} {P:CKs.den s.outs×IOs.den s.ins->Prop} (h:uZ T s fn x st cs P):kR T s fn x st cs P:=by
 obtain ⟨l,h1,h⟩:=Ch.1 h;obtain ⟨⟨as,ml⟩,h2,h⟩:=Ch.1 h;obtain ⟨r,ls,h3,h⟩:=gm _ _ _ h;obtain ⟨o,h4,h⟩:=Ch.1 h;split at h
 ·rename_i hc;obtain ⟨h5,h6⟩:=oe _ h;unfold kR;simp only [h1,h2,h3,h4];exact ⟨hc,h5,h6⟩
 ·exact h.elim
theorem rD {s:MSpec} {fn:Func} {x:Ins.den s.ins} {st:St} {P:CKs.den s.outs×IOs.den s.ins->Prop} (h:TH T s fn x st P):ZF T s fn x st P:=by
 unfold TH at h;unfold ZF
 cases hp:s.ptr with
 |none=>rw [hp] at h;exact jN h
 |some p=>
  rw [hp] at h;simp only at h⊢;split at h
  ·rename_i tid vs hl;split at h
   ·rename_i hc;simp only [Ak] at hc;obtain ⟨h1,h2⟩:=hc;have h1:tid=p.1:=Kd h1;have h2:=Kd h2;subst h1;obtain ⟨cs,h3,h4⟩:=Ch.1 h;obtain ⟨h5,h6⟩:=dp vs s.ins h4;exact ⟨vs,cs,hl,h2,h3,h5,jN h6⟩
   ·exact h.elim
  ·exact h.elim
theorem MT {s:MSpec} {fn:Func} {x:Ins.den s.ins} {P:CKs.den s.outs×IOs.den s.ins->Prop} (h:fnMW T Γ s fn x P):Ahj T Γ s fn x P:=by
 unfold fnMW at h;split at h
 ·cases h
 rename_i hlen;obtain ⟨c,h1,h2⟩:=Ch.1 h;refine ⟨hlen,c,h1,(qL c _ _ (λt b h=>by cases h) h2).mono λe st ⟨w,h4,h5,h6⟩=>?_⟩;subst h4
 cases e with
 |normal=>exact ⟨λid hh=>(by cases hh),rD h6⟩
 |ret=>exact ⟨λid hh=>(by cases hh),rD h6⟩
 |exit id=>cases h6
theorem Ds.ofW {P:Program} (hT:Ec P T) (Pn:Ky P Γ) (hm:P.follows .mixedOrders=true) {f:FuncId} {fn:Func} (hf:P.funcs[f]?=some fn) (hn:(fn.name== "runtime.NumGoroutine")=false)
  (hb:fn.body.isNone=false) (s:MSpec) (h: ∀x y,s.fn x=some y->fnMW T Γ s fn x (λz=>z=y)):Ds P f s:=
 ⟨iX hf hn hb,λw S π us x r o g vs h1 hg h2 h3 hS h4 h5=>wC hT Pn hm hf s w S π us x r o g vs h1 hg h2 h3 hS h4 (MT (h x (r,o) h5))⟩
theorem Sound.ofW {P:Program} (hT:Ec P T) (Pn:Ky P Γ) (hm:P.follows .mixedOrders=true) {f:FuncId} {fn:Func} (hf:P.funcs[f]?=some fn) (hn:(fn.name== "runtime.NumGoroutine")=false)
  (hb:fn.body.isNone=false) (s:Spec) (h: ∀x y,s.fn x=some y->fnW T Γ s fn x (λz=>z=y)):Sound P f s:=
 Acr hT Pn hm hf hn hb s λx y hx=>UN (h x y hx)
end
end Go.Proofs.Ytfgfigkbgecfnaa
