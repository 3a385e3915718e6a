/-
  Part 34 of the proof that the statement FnCommutatorMacros holds.
-/
import Derived.Test.YtfgfigkbgecfnaaCFCommutatorMacros32
namespace Go.Proofs.Ytfgfigkbgecfnaa
open Go.RowKit
theorem Qb {B:List (Nat×Nat×Nat)} {H:List (Nat×OB)} : ∀ {l:List AV} {K:Prop},Wg B H l K-> ∀c∈l,c.fh=true
 | [],_,_,c,hc=>by cases hc
 |d::l,K,h,c,hc=>by
  simp only [Wg] at h
  cases d with
  |Jy l'=>exact h.elim
  | «at»a=>
   rcases Ay.1 hc with rfl|hc
   ·rfl
   ·have h':Wg B H l K:=by
     cases a with
     |own k o n=>exact h.2.2
     |_=>exact h
    exact Qb h' c hc
  |Wh _ _ _=>
   rcases Ay.1 hc with rfl|hc
   ·rfl
   ·exact Qb h c hc
  |agg cs=>
   rcases Ay.1 hc with rfl|hc
   ·rfl
   ·have: ∀(cs:List AC) (Q:Prop),Zs B H cs Q->Q:=by
     intro cs
     induction cs with
     |nil=>exact λQ h=>h
     |cons a cs ih=>
      intro Q h
      have h2:Zs B H cs Q:=by
       cases a with
       |own k o n=>exact h.2.2
       |_=>exact h
      exact ih Q h2
    exact Qb (this cs _ h) c hc
theorem gi: ∀(f:List Bool) (l:List AV),(∀c∈l,c.fh=true)-> ∀c∈Pq f l,c.fh=true
 | [],l,h=>by simpa [Pq] using h
 |true::f,[],h=>by simp [Pq] at h⊢
 |false::f,[],h=>by simp [Pq] at h⊢
 |true::f,a::l,h=>by
  intro c hc
  simp only [Pq,Ay] at hc
  rcases hc with rfl|hc
  ·rfl
  ·exact gi f l (λc hc=>h c (Aq _ hc)) c hc
 |false::f,a::l,h=>by
  intro c hc
  simp only [Pq,Ay] at hc
  rcases hc with rfl|hc
  ·exact h c (by simp)
  ·exact gi f l (λc hc=>h c (Aq _ hc)) c hc
theorem yJ (f:AC->AC) (H:List (Nat×OB)) (l:Nat):lenOf (H.map λp=>(p.1,p.2.map f)) l=lenOf H l:=by
 unfold lenOf
 rw [Lr]
 cases Ap H l with
 |none=>rfl
 |some b=>cases b<;>rfl
theorem v8 (f g:AC->AC) (c:AV):(c.map f).map g=c.map λa=>g (f a):=by
 cases c<;>simp [AV.map]
theorem wb (f g:AC->AC) (c:OB):(c.map f).map g=c.map λa=>g (f a):=by
 cases c<;>simp [OB.map]
theorem tQ (s:St) (f g:AC->AC):(s.Ih f).Ih g=s.Ih λa=>g (f a):=by
 simp [St.Ih,List.map_map,Function.comp_def,v8,wb]
theorem tE (f:AC->AC) (H:List (Nat×OB)) (l:Nat): ∀(B:List (Nat×Nat×Nat)),yH B (H.map λp=>(p.1,p.2.map f)) l=yH B H l
 | []=>yJ f H l
 |(k,o,n)::r=>by simp only [yH];rw [tE f H l r]
theorem uR (B:List (Nat×Nat×Nat)) (s:St):(s.Ih Oz).whole B=s.whole B:=by
 unfold St.whole
 rw [tQ]
 congr 1
 funext a
 cases a with
 |own l off len=>simp only [Oz,bM,St.Ih,tE]
 |_=>rfl
theorem uQ {B:List (Nat×Nat×Nat)} {s t:St} (h:s.Ih Oz=t.Ih Oz):s.whole B=t.whole B:=by rw [<-uR B s,h,uR]
theorem jm (f:AC->AC): ∀(fx:List Bool) (a b:List AV),(Qr fx a b).map (·.map f)=Qr fx (a.map (·.map f)) (b.map (·.map f))
 | [],_,_=>by simp [Qr]
 |_::_,[],_=>by simp [Qr]
 |true::_,_::_,[]=>by simp [Qr]
 |false::_,_::_,[]=>by simp [Qr]
 |true::fx,x::a,y::b=>by simp only [Qr,Bl,jm f fx a b]
 |false::fx,x::a,y::b=>by simp only [Qr,Bl,jm f fx a b]
theorem mL (f:AC->AC) (fx:List Bool) (a b:St):(St.o3 fx a b).Ih f=St.o3 fx (a.Ih f) (b.Ih f):=by
 simp only [St.o3,St.Ih,jm]
theorem cm: ∀(l:List AV) {R:Type} (v:kD l R),(Rx l v).1.length=l.length
 | [],_,_=>rfl
 |c::l,_,v=>by simp [Rx,cm l]
theorem pz (p:Nat->Bool): ∀(i:Nat) (l0 l:List AV) (t:Nat),l.length=l0.length->(l0.getD t .undef).Sx=true->p (i+t)=true->(Qr (Hu p i l0) l0 l).getD t .undef=l0.getD t .undef
 |_,[],_,t,_,h,_=>by simp [AV.Sx] at h
 |i,a::r,[],_,h,_,_=>by simp at h
 |i,a::r,b::s,0,_,h1,h2=>by
  have:(a.Sx&&p i)=true:=by
   simp only [Ag]
   exact ⟨by simpa using h1,h2⟩
  simp only [Hu,this,Qr,bO]
 |i,a::r,b::s,t+1,hl,h1,h2=>by
  have hr:=pz p (i+1) r s t (by simpa using hl) (by simpa using h1) (by rw [show i+1+t=i+(t+1) by omega];exact h2)
  simp only [Hu]
  cases (a.Sx&&p i)<;>simpa only [Qr,Kn] using hr
theorem eK {B:List (Nat×Nat×Nat)} {H:List (Nat×OB)} {c:AC} {K:Prop} (h:q8 B H c K):bM B H c=c/\K:=by
 cases c with
 |own l off len=>obtain ⟨h1,h2,h3⟩:=h;exact ⟨by rw [h1,h2];rfl,h3⟩
 |_=>exact ⟨rfl,h⟩
theorem Wn {B:List (Nat×Nat×Nat)} {H:List (Nat×OB)} : ∀ {l:List AC} {K:Prop},Zs B H l K->l.map (bM B H)=l/\K
 | [],_,h=>⟨rfl,h⟩
 |c::l,_,h=>by
  obtain ⟨h1,h2⟩:=eK h
  obtain ⟨h3,h4⟩:=Wn h2
  exact ⟨by rw [Bl,h1,h3],h4⟩
theorem nI {B:List (Nat×Nat×Nat)} {H:List (Nat×OB)} {c:AV} {K:Prop} (h:xk B H c K):c.map (bM B H)=c/\K:=by
 cases c with
 | «at»a=>obtain ⟨h1,h2⟩:=eK h;exact ⟨by rw [AV.map,h1],h2⟩
 |agg cs=>obtain ⟨h1,h2⟩:=Wn h;exact ⟨by rw [AV.map,h1],h2⟩
 |Wh _ _ _=>exact ⟨rfl,h⟩
 |Jy l=>exact h.elim
theorem cn {B:List (Nat×Nat×Nat)} {H:List (Nat×OB)} : ∀ {l:List AV} {K:Prop},Wg B H l K->l.map (·.map (bM B H))=l/\K
 | [],_,h=>⟨rfl,h⟩
 |c::l,_,h=>by
  obtain ⟨h1,h2⟩:=nI h
  obtain ⟨h3,h4⟩:=cn h2
  exact ⟨by rw [Bl,h1,h3],h4⟩
theorem Kk {B:List (Nat×Nat×Nat)} {H:List (Nat×OB)} : ∀ {l:List (Nat×OB)} {K:Prop},ej B H l K->l.map (λp=>(p.1,p.2.map (bM B H)))=l/\K
 | [],_,h=>⟨rfl,h⟩
 |(k, .var t vs)::l,_,h=>by
  obtain ⟨h1,h2⟩:=Wn h
  obtain ⟨h3,h4⟩:=Kk h2
  exact ⟨by rw [Bl,h3];simp only [OB.map,h1],h4⟩
 |(k, .arr a b c d e)::l,_,h=>by
  obtain ⟨h3,h4⟩:=Kk (l:=l) h
  exact ⟨by rw [Bl,h3];rfl,h4⟩
 |(k, .Ev a b c)::l,_,h=>by
  obtain ⟨h3,h4⟩:=Kk (l:=l) h
  exact ⟨by rw [Bl,h3];rfl,h4⟩
 |(k, .Bc a b c d e)::l,_,h=>by
  obtain ⟨h3,h4⟩:=Kk (l:=l) h
  exact ⟨by rw [Bl,h3];rfl,h4⟩
 |(k, .Qy a b)::l,_,h=>by
  obtain ⟨h3,h4⟩:=Kk (l:=l) h
  exact ⟨by rw [Bl,h3];rfl,h4⟩
theorem fm {B:List (Nat×Nat×Nat)} {s:St} {K:Prop} (h:rT B s K):s.whole B=s/\K:=by
 obtain ⟨h1,h2⟩:=cn h
 obtain ⟨h3,h4⟩:=Kk h2
 exact ⟨by unfold St.whole St.Ih;rw [h1,h3],h4⟩
theorem cQ (live:List Nat): ∀(i:Nat) (l:List AV) (t:Nat),i+t∉live->(Fy live i l).getD t .undef= .undef
 |_,[],_,_=>rfl
 |i,v::r,0,h=>by simp [Fy];intro hn;exact absurd hn h
 |i,v::r,t+1,h=>by
  simp only [Fy,Kn]
  exact cQ live (i+1) r t (by rw [show i+1+t=i+(t+1) by omega];exact h)
theorem bY: ∀(l:List Nat) (st:St) (t:Nat),st.get t= .undef->(Vz l st).get t= .undef
 | [],_,_,h=>h
 |a::r,st,t,h=>bY r _ t (by
  show (st.tmps.map (·.map (Bs a))).getD t .undef= .undef
  rw [Qn (Bs a) rfl,show st.tmps.getD t .undef= .undef from h]
  rfl)
theorem rD (l k:Nat) (st:St) (t:Nat) (h:st.get t= .undef):(st.rename l k).get t= .undef:=by
 unfold St.rename
 split
 ·split
  ·show (st.tmps.map (·.map (Qs l k))).getD t .undef= .undef
   rw [Qn (Qs l k) rfl,show st.tmps.getD t .undef= .undef from h]
   rfl
  ·exact h
 ·exact h
theorem aA: ∀(n i:Nat) (st:St) (t:Nat),st.get t= .undef->(Jw n i st).get t= .undef
 |0,_,_,_,h=>h
 |n+1,i,st,t,h=>by
  simp only [Jw]
  refine aA n (i+1) _ t ?_
  split
  ·split
   ·split
    ·exact h
    ·exact rD _ _ _ t h
   ·exact h
  ·exact h
theorem ru (st:St) (d:Nat) (v:AV) (t:Nat) (Hs:t≠d) (h:st.get t= .undef):(st.put (some d) v).get t= .undef:=by rw [Wx _ _ Hs];exact h
theorem mQ (k:Nat) (st:St) (t:Nat) (h:st.get t= .undef):(Xf k st).get t= .undef:=by
 unfold Xf
 split
 ·rename_i l off len hg
  split
  ·split
   ·refine ru _ _ _ _ (λe=>by subst e;rw [hg] at h;cases h) ?_
    show (st.tmps.map (·.map (Bs l))).getD t .undef= .undef
    rw [Qn (Bs l) rfl,show st.tmps.getD t .undef= .undef from h]
    rfl
   ·exact h
  ·exact h
 ·exact h
theorem gp (c:Nat) (st:St) (t:Nat) (h:st.get t= .undef):(Mm c st).get t= .undef:=by
 unfold Mm
 split
 ·split
  ·rename_i l off len hc
   split
   ·split
    ·split
     ·show (st.tmps.map (·.map (Bs l))).getD t .undef= .undef
      rw [Qn (Bs l) rfl,show st.tmps.getD t .undef= .undef from h]
      rfl
     ·exact h
    ·exact h
   ·exact h
  ·exact h
 ·exact h
theorem Yr (live:List Nat): ∀(n i:Nat) (st:St) (t:Nat),st.get t= .undef->(Mg live n i st).get t= .undef
 |0,_,_,_,h=>h
 |n+1,i,st,t,h=>by
  simp only [Mg]
  refine Yr live n (i+1) _ t ?_
  split
  ·exact gp _ _ _ h
  ·exact h
theorem ca (live:List Nat): ∀(n i:Nat) (st:St) (t:Nat),st.get t= .undef->(Lx live n i st).get t= .undef
 |0,_,st,t,h=>Yr live 16 0 st t h
 |n+1,i,st,t,h=>by
  simp only [Lx]
  refine ca live n (i+1) _ t ?_
  split
  ·exact mQ _ _ _ h
  ·exact h
theorem vq {live:List Nat} {st:St} {t:Nat} (h:((st.clean live).get t).Sx=true):t∈live:=by
 refine Cd λhn=>?_
 have:(st.clean live).get t= .undef:=by
  have key: ∀s:St,s.get t= .undef->(if live.contains Ys then Jw s.tmps.length 0 s else s).get t= .undef:=by
   intro s hs
   split
   ·exact aA _ _ s t hs
   ·exact hs
  unfold St.clean
  have CI: ∀s:St,s.get t= .undef->(if live.any (λt=>Nat.ble Ur t) then s.Gj live else s).get t= .undef:=by
   intro s hs
   split<;>exact hs
  have CJ: ∀s:St,s.get t= .undef->(if live.any (λt=>Nat.ble Xg t&&Nat.blt t Ys) then Lx live s.tmps.length 0 s else s).get t= .undef:=by
   intro s hs
   split
   ·exact ca _ _ _ s t hs
   ·exact hs
  refine CI _ (key _ (CJ _ (bY _ _ t ?_)))
  exact cQ live 0 st.tmps t (by simpa using hn)
 rw [this] at h
 cases h
theorem mj {c:AV} (h:c.Sx=true): ∃fr τ,∃x:τ.den,c= .at (.data fr τ x):=by
 unfold AV.Sx at h
 split at h
 ·exact ⟨_,_,_,rfl⟩
 ·cases h
theorem zv {live:Nat->List Nat} {c:Code} {t:Nat} (h:stays live c t=true):t∉writes c/\Xb live c t=true:=by
 unfold stays at h
 simpa using h
section
variable {T:Tab} {Γ:Env} {live:Nat->List Nat}
theorem Lh.keeps {c:Code} {st:St} {Q:Iu->St->Prop} (h:Lh T Γ live c st Q):Lh T Γ live c st (λe s=>Q e s/\Dy (λt=>t∉writes c/\Xb live c t=true) st s):=by
 exact wG h st _ Holds.rfl'.on λt ht=>ht
def YG (Q:Iu->WS->Prop) (e:Iu) (s:St):Prop:= ∃w':WS,w'.st=s/\w'.OK/\Q e w'
theorem tN {c:Code} (ih: ∀(w:WS) (Q:Iu->WS->Prop),w.OK->Zw T Γ live c w Q->Lh T Γ live c w.st (YG Q)) {w:WS} {Q:Iu->WS->Prop} (h:Zw T Γ live (.loop c) w Q):
  Lh T Γ live (.loop c) w.st (YG Q):=by
 simp only [Zw,yt,ba] at h
 obtain ⟨LP,I,μ,h0,hs⟩:=fm h
 have Ap: ∀(t:Nat),((w.st.clean (live (Dm c))).get t).Sx=true->stays live c t=true-> ∀v,((St.o3 (Hu (stays live c) 0 (w.st.clean (live (Dm c))).tmps) (w.st.clean (live (Dm c))) (dQ ((w.st.clean (live (Dm c))).mask (Hu (stays live c) 0 (w.st.clean (live (Dm c))).tmps)) v)).whole (Us T.parts (w.st.clean (live (Dm c))).tmps)).get t=(w.st.clean (live (Dm c))).get t:=by
  intro t h1 h2 v
  have h3:=pz (stays live c) 0 (w.st.clean (live (Dm c))).tmps (dQ ((w.st.clean (live (Dm c))).mask (Hu (stays live c) 0 (w.st.clean (live (Dm c))).tmps)) v).tmps t
   ((cm _ _).trans (bl _ _)) h1 (by simpa using h2)
  obtain ⟨fr,τ,x,hx⟩:=mj h1
  refine (Me _ _ rfl λ_ _ _=>rfl) t fr τ x ?_|>.trans hx.symm
  exact h3.trans hx
 have IW: ∀(s1:St),(∀t,((w.st.clean (live (Dm c))).get t).Sx=true->stays live c t=true->s1.get t=(w.st.clean (live (Dm c))).get t)->s1.whole (Us T.parts (w.st.clean (live (Dm c))).tmps)=s1-> ∀v,dS ((w.st.clean (live (Dm c))).mask (Hu (stays live c) 0 (w.st.clean (live (Dm c))).tmps)) (s1.mask (Hu (stays live c) 0 (w.st.clean (live (Dm c))).tmps))=some v->
   s1=(St.o3 (Hu (stays live c) 0 (w.st.clean (live (Dm c))).tmps) (w.st.clean (live (Dm c))) (dQ ((w.st.clean (live (Dm c))).mask (Hu (stays live c) 0 (w.st.clean (live (Dm c))).tmps)) v)).whole (Us T.parts (w.st.clean (live (Dm c))).tmps):=by
  intro s1 hf hwh v hv
  have h1:=dT hv
  have h2:St.o3 (Hu (stays live c) 0 (w.st.clean (live (Dm c))).tmps) (w.st.clean (live (Dm c))) (s1.mask (Hu (stays live c) 0 (w.st.clean (live (Dm c))).tmps))=s1:=by
   simp only [St.o3,St.mask]
   rw [gm (stays live c) 0 (w.st.clean (live (Dm c))).tmps s1.tmps λt h3 h4=>hf t h3 (by simpa using h4)]
  have h3:(St.o3 (Hu (stays live c) 0 (w.st.clean (live (Dm c))).tmps) (w.st.clean (live (Dm c))) (dQ ((w.st.clean (live (Dm c))).mask (Hu (stays live c) 0 (w.st.clean (live (Dm c))).tmps)) v)).whole (Us T.parts (w.st.clean (live (Dm c))).tmps)=s1.whole (Us T.parts (w.st.clean (live (Dm c))).tmps):=by
   refine uQ ?_
   rw [mL,h1,<-mL,h2]
  rw [h3,hwh]
 refine zl (λv=>(St.o3 (Hu (stays live c) 0 (w.st.clean (live (Dm c))).tmps) (w.st.clean (live (Dm c))) (dQ ((w.st.clean (live (Dm c))).mask (Hu (stays live c) 0 (w.st.clean (live (Dm c))).tmps)) v)).whole (Us T.parts (w.st.clean (live (Dm c))).tmps)) I μ _ h0 (IW _ (λ_ _ _=>rfl) LP _ (kA _ (gi _ _ (Qb h)))) ?_
 intro a ha
 refine (Lh.keeps (ih ⟨[],_⟩ _ (λt b h=>by cases h) (hs a ha))).mono ?_
 intro e s hQ
 obtain ⟨⟨w',h1,h2,h3⟩,hk⟩:=hQ
 subst h1
 cases e with
 |normal=>
  obtain ⟨h4,h5⟩:=fm h3
  obtain ⟨v',h6,h7,h8⟩:=Bh.1 h5
  refine ⟨v',IW _ (λt hd ht=>?_) h4 _ h6,h7,h8⟩
  obtain ⟨fr,τ,x,hx⟩:=mj hd
  rw [hx]
  exact fc (live (Dm c)) w'.st t fr τ x (vq hd) (hk t fr τ x (zv ht) (by rw [Ap t hd ht a];exact hx))
 |exit id=>exact ⟨w',rfl,h2,h3⟩
 |ret=>exact ⟨w',rfl,h2,h3⟩
theorem jP: ∀(c:Code) (w:WS) (Q:Iu->WS->Prop),w.OK->Zw T Γ live c w Q->Lh T Γ live c w.st (YG Q):=by
 intro c
 induction c with
 |skip=>intro w Q hw h;exact .skip ⟨w,rfl,hw,h⟩
 |label _=>intro w Q hw h;exact .label ⟨w,rfl,hw,h⟩
 |exit _=>intro w Q hw h;exact .exit ⟨w,rfl,hw,h⟩
 |ret=>intro w Q hw h;exact .ret ⟨w,rfl,hw,h⟩
 |region id ops draw=>
  intro w Q hw h
  have hw':WS.OK {w with st:=w.st.gK ops} := λt b ht=>by
   obtain ⟨fr,e⟩:=hw t b ht
   exact ⟨fr,fe ops w.st t fr .bool b e⟩
  exact .region ((oa hw' h).mono λs ⟨w',h1,h2,h3⟩=>⟨w',h1,h2,Ld.1 h3⟩)
 |seq x y XT XU=>
  intro w Q hw h
  refine DT ((XT w _ hw h).mono λe s hQ=>?_)
  obtain ⟨w',h1,h2,h3⟩:=hQ
  subst h1
  cases e with
  |normal=>exact XU w' Q h2 h3
  |exit id=>exact ⟨w',rfl,h2,h3⟩
  |ret=>exact ⟨w',rfl,h2,h3⟩
 |cond c x y XT XU=>
  intro w Q hw h
  obtain ⟨fr,b,w',h1,h2,h3,h4⟩:=oQ hw h
  refine zk h1 (λhb=>?_) (λhb=>?_)
  ·subst hb;rw [<-h2];exact XT w' Q h3 h4
  ·subst hb;rw [<-h2];exact XU w' Q h3 h4
 |block id c ih=>
  intro w Q hw h
  refine wF ((ih w _ hw h).mono λe s hQ=>?_)
  obtain ⟨w',h1,h2,h3⟩:=hQ
  subst h1
  cases e with
  |normal=>exact ⟨w',rfl,h2,h3⟩
  |ret=>exact ⟨w',rfl,h2,h3⟩
  |exit yE=>
   simp only at h3
   simp only [pb]
   split at h3
   ·rename_i hi;rw [Af hi];exact ⟨w',rfl,h2,h3⟩
   ·rename_i hi;rw [Aj hi];exact ⟨w',rfl,h2,h3⟩
 |loop c ih=>intro w Q hw h;exact tN ih h
 |_=>intro w Q hw h;exact absurd h (by simp [Zw])
theorem lT {s:Spec} {fn:Func} {P:s.res.den->Prop} {st:St} (h:KB T s fn P st): ∃fr y,gV T s fn st=some (fr,y)/\(fr||!s.fresh)=true/\P y:=by
 obtain ⟨p,h1,h2⟩:=Bh.1 h
 split at h2
 ·rename_i hf;exact ⟨p.1,p.2,h1,hf,h2⟩
 ·cases h2
theorem yr {s:Spec} {fn:Func} {x:s.arg.den} {P:s.res.den->Prop} (h:fnW T Γ s fn x P):AG T Γ s fn x P:=by
 unfold fnW at h
 obtain ⟨c,h1,h2⟩:=Bh.1 h
 refine ⟨c,h1,(jP c _ _ (λt b h=>by cases h) h2).mono λe st ⟨w,h4,h5,h6⟩=>?_⟩
 subst h4
 cases e with
 |normal=>exact ⟨λid hh=>(by cases hh),lT h6⟩
 |ret=>exact ⟨λid hh=>(by cases hh),lT h6⟩
 |exit id=>cases h6
theorem Yl {st:St} {K:Prop} : ∀(vs:List AC) (cs:List (Bool×CK)),du st K vs cs->dt st vs cs/\K
 | [],cs,h=>⟨by simp [dt],by simpa [du] using h⟩
 |a::vs,[],h=>⟨by cases a<;>simp [dt],by cases a<;>simpa [du] using h⟩
 |a::vs,(false,c)::r,h=>by
  have h:du st K vs r:=by cases a<;>simpa only [du] using h
  obtain ⟨h1,h2⟩:=Yl vs r h
  exact ⟨by cases a<;>simpa only [dt] using h1,h2⟩
 |a::vs,(true,c)::r,h=>by
  cases a with
  |own l off len=>
   simp only [du] at h
   split at h
   ·rename_i hl
    obtain ⟨h1,h2⟩:=Yl vs r h.2
    refine ⟨?_,h2⟩
    simp only [dt,hl]
    exact ⟨h.1,h1⟩
   ·rename_i hl
    obtain ⟨h1,h2⟩:=Yl vs r h.2
    refine ⟨?_,h2⟩
    simp only [dt,hl]
    exact ⟨h.1,h1⟩
   ·exact h.elim
  |_=>exact ⟨by simp [dt],by simpa [du] using h⟩
theorem bo {st:St} : ∀(cs:List CK) (as:List AC) (K:CKs.den cs->List Nat->Prop),jl st cs as K-> ∃x ls,Qq st cs as=some (x,ls)/\K x ls
 | [],[],K,h=>⟨(),[],rfl,h⟩
 | [],_::_,_,h=>h.elim
 |c::r,[],K,h=>by cases c<;>exact h.elim
 |c::r,a::as,K,h=>by
  have o0:Fk (eI st c a) (λp=>jl st r as λy t=>K (p.1,y) (p.2++t))-> ∃x ls,Qq st (c::r) (a::as)=some (x,ls)/\K x ls:= λh=>by
   obtain ⟨p,h1,h2⟩:=Bh.1 h
   obtain ⟨y,t,h3,h4⟩:=bo r as _ h2
   exact ⟨_,_,by simp only [Qq,h1,h3],h4⟩
  cases c with
  |Bc e te kp=>
   cases a with
   |own l off len=>
    simp only [jl] at h
    split at h
    ·rename_i hl
     split at h
     ·rename_i hc
      obtain ⟨⟨h1,h2⟩,h⟩:=h
      obtain ⟨y,t,h3,h4⟩:=bo r as _ h
      exact ⟨_,_,by simp only [Qq,eI,hl];rw [Gh ⟨hc.1,hc.2,h1,h2⟩];simp only [h3];rfl,h4⟩
     ·exact h.elim
    ·exact h.elim
   |_=>exact o0 h
  |_=>exact o0 h
theorem iq {st:St} {n:Nat} {as:List AC} {K:Prop} : ∀(ks:List (Nat×Nat)),qM st n as ks K->ph st n as ks/\K
 | [],h=>⟨trivial,h⟩
 |(k,j)::r,h=>by
  simp only [qM] at h
  split at h
  ·rename_i l off len ha
   split at h
   ·rename_i p hl
    split at h
    ·rename_i hc
     simp only [Ag] at hc
     obtain ⟨h1,h2⟩:=iq r h.2
     refine ⟨?_,h2⟩
     simp only [ph,ha,hl]
     exact ⟨⟨Gy hc.1,h.1,hc.2⟩,h1⟩
    ·exact h.elim
   ·exact h.elim
  ·exact h.elim
theorem dM {s:MSpec} {fn:Func} {x:Ins.den s.ins} {st:St} {cs:List AC} {P:CKs.den s.outs×IOs.den s.ins->Prop} (h:mV T s fn x st cs P):eA T s fn x st cs P:=by
 obtain ⟨l,h1,h⟩:=Bh.1 h
 obtain ⟨⟨as,ml⟩,h2,h⟩:=Bh.1 h
 obtain ⟨r,ls,h3,h⟩:=bo _ _ _ h
 obtain ⟨o,h4,h⟩:=Bh.1 h
 split at h
 ·rename_i hc
  obtain ⟨h5,h6⟩:=iq _ h
  unfold eA
  simp only [h1,h2,h3,h4]
  exact ⟨hc,h5,h6⟩
 ·exact h.elim
theorem kx {s:MSpec} {fn:Func} {x:Ins.den s.ins} {st:St} {P:CKs.den s.outs×IOs.den s.ins->Prop} (h:xV T s fn x st P):AF T s fn x st P:=by
 unfold xV at h
 unfold AF
 cases hp:s.ptr with
 |none=>rw [hp] at h;exact dM h
 |some p=>
  rw [hp] at h
  simp only at h⊢
  split at h
  ·rename_i tid vs hl
   split at h
   ·rename_i hc
    simp only [Ag] at hc
    obtain ⟨h1,h2⟩:=hc
    have h1:tid=p.1:=Gy h1
    have h2:=Gy h2
    subst h1
    obtain ⟨cs,h3,h4⟩:=Bh.1 h
    obtain ⟨h5,h6⟩:=Yl vs s.ins h4
    exact ⟨vs,cs,hl,h2,h3,h5,dM h6⟩
   ·exact h.elim
  ·exact h.elim
theorem vJ {s:MSpec} {fn:Func} {x:Ins.den s.ins} {P:CKs.den s.outs×IOs.den s.ins->Prop} (h:fnMW T Γ s fn x P):HP T Γ s fn x P:=by
 unfold fnMW at h
 split at h
 ·cases h
 rename_i hlen
 obtain ⟨c,h1,h2⟩:=Bh.1 h
 refine ⟨hlen,c,h1,(jP c _ _ (λt b h=>by cases h) h2).mono λe st ⟨w,h4,h5,h6⟩=>?_⟩
 subst h4
 cases e with
 |normal=>exact ⟨λid hh=>(by cases hh),kx h6⟩
 |ret=>exact ⟨λid hh=>(by cases hh),kx h6⟩
 |exit id=>cases h6
theorem Jd.TX {P:Program} (hT:De P T) (Ls:Ib P Γ) (hm:P.follows .mixedOrders=true) {f:FuncId} {fn:Func} (hf:P.funcs[f]?=some fn) (hn:(fn.name== "runtime.NumGoroutine")=false)
  (hb:fn.body.isNone=false) (s:MSpec) (h: ∀x y,s.fn x=some y->fnMW T Γ s fn x (λz=>z=y)):Jd P f s:=
 ⟨Wp hf hn hb,λw S π us x r o g vs h1 hg h2 h3 hS h4 h5=>nM hT Ls hm hf s w S π us x r o g vs h1 hg h2 h3 hS h4 (vJ (h x (r,o) h5))⟩
theorem Sound.TX {P:Program} (hT:De P T) (Ls:Ib P Γ) (hm:P.follows .mixedOrders=true) {f:FuncId} {fn:Func} (hf:P.funcs[f]?=some fn) (hn:(fn.name== "runtime.NumGoroutine")=false)
  (hb:fn.body.isNone=false) (s:Spec) (h: ∀x y,s.fn x=some y->fnW T Γ s fn x (λz=>z=y)):Sound P f s:=
 DX hT Ls hm hf hn hb s λx y hx=>yr (h x y hx)
end
end Go.Proofs.Ytfgfigkbgecfnaa
