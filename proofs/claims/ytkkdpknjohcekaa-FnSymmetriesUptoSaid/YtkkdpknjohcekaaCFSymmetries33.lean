/-
  Part 34 of the proof that the statement FnSymmetries holds.
-/
import Derived.Test.YtkkdpknjohcekaaCFSymmetries32
namespace Go.Proofs.Ytkkdpknjohcekaa
open Go.RowKit
theorem Tk {B:List (Nat×Nat×Nat)} {H:List (Nat×OB)} : ∀ {l:List AV} {K:Prop},a9 B H l K-> ∀c∈l,c.iY=true
 | [],_,_,c,hc=>by cases hc
 |d::l,K,h,c,hc=>by
  simp only [a9] at h
  cases d with
  |Mh l'=>exact h.elim
  | «at»a=>
   rcases Ba.1 hc with rfl|hc
   ·rfl
   ·have h':a9 B H l K:=by
     cases a with
     |own k o n=>exact h.2.2
     |_=>exact h
    exact Tk h' c hc
  |aa _ _ _=>
   rcases Ba.1 hc with rfl|hc
   ·rfl
   ·exact Tk h c hc
  |agg cs=>
   rcases Ba.1 hc with rfl|hc
   ·rfl
   ·have: ∀(cs:List AC) (Q:Prop),c5 B H cs Q->Q:=by
     intro cs
     induction cs with
     |nil=>exact λQ h=>h
     |cons a cs ih=>
      intro Q h
      have h2:c5 B H cs Q:=by
       cases a with
       |own k o n=>exact h.2.2
       |_=>exact h
      exact ih Q h2
    exact Tk (this cs _ h) c hc
theorem jQ: ∀(f:List Bool) (l:List AV),(∀c∈l,c.iY=true)-> ∀c∈Sv f l,c.iY=true
 | [],l,h=>by simpa [Sv] using h
 |true::f,[],h=>by simp [Sv] at h⊢
 |false::f,[],h=>by simp [Sv] at h⊢
 |true::f,a::l,h=>by
  intro c hc
  simp only [Sv,Ba] at hc
  rcases hc with rfl|hc
  ·rfl
  ·exact jQ f l (λc hc=>h c (Am _ hc)) c hc
 |false::f,a::l,h=>by
  intro c hc
  simp only [Sv,Ba] at hc
  rcases hc with rfl|hc
  ·exact h c (by simp)
  ·exact jQ f l (λc hc=>h c (Am _ hc)) c hc
theorem JH (f:AC->AC) (H:List (Nat×OB)) (l:Nat):lenOf (H.map λp=>(p.1,p.2.map f)) l=lenOf H l:=by
 unfold lenOf
 rw [Oe]
 cases As H l with
 |none=>rfl
 |some b=>cases b<;>rfl
theorem BH (f g:AC->AC) (c:AV):(c.map f).map g=c.map λa=>g (f a):=by
 cases c<;>simp [AV.map]
theorem DH (f g:AC->AC) (c:OB):(c.map f).map g=c.map λa=>g (f a):=by
 cases c<;>simp [OB.map]
theorem z6 (s:St) (f g:AC->AC):(s.Kr f).Kr g=s.Kr λa=>g (f a):=by
 simp [St.Kr,List.map_map,Function.comp_def,BH,DH]
theorem yO (f:AC->AC) (H:List (Nat×OB)) (l:Nat): ∀(B:List (Nat×Nat×Nat)),JF B (H.map λp=>(p.1,p.2.map f)) l=JF B H l
 | []=>JH f H l
 |(k,o,n)::r=>by simp only [JF];rw [yO f H l r]
theorem AU (B:List (Nat×Nat×Nat)) (s:St):(s.Kr Ry).whole B=s.whole B:=by
 unfold St.whole
 rw [z6]
 congr 1
 funext a
 cases a with
 |own l off len=>simp only [Ry,ee,St.Kr,yO]
 |_=>rfl
theorem AT {B:List (Nat×Nat×Nat)} {s t:St} (h:s.Kr Ry=t.Kr Ry):s.whole B=t.whole B:=by rw [<-AU B s,h,AU]
theorem mM (f:AC->AC): ∀(fx:List Bool) (a b:List AV),(Ud fx a b).map (·.map f)=Ud fx (a.map (·.map f)) (b.map (·.map f))
 | [],_,_=>by simp [Ud]
 |_::_,[],_=>by simp [Ud]
 |true::_,_::_,[]=>by simp [Ud]
 |false::_,_::_,[]=>by simp [Ud]
 |true::fx,x::a,y::b=>by simp only [Ud,Bw,mM f fx a b]
 |false::fx,x::a,y::b=>by simp only [Ud,Bw,mM f fx a b]
theorem qz (f:AC->AC) (fx:List Bool) (a b:St):(St.sj fx a b).Kr f=St.sj fx (a.Kr f) (b.Kr f):=by
 simp only [St.sj,St.Kr,mM]
theorem eM: ∀(l:List AV) {R:Type} (v:o7 l R),(Vq l v).1.length=l.length
 | [],_,_=>rfl
 |c::l,_,v=>by simp [Vq,eM l]
theorem u9 (p:Nat->Bool): ∀(i:Nat) (l0 l:List AV) (t:Nat),l.length=l0.length->(l0.getD t .undef).Ws=true->p (i+t)=true->(Ud (Jy p i l0) l0 l).getD t .undef=l0.getD t .undef
 |_,[],_,t,_,h,_=>by simp [AV.Ws] at h
 |i,a::r,[],_,h,_,_=>by simp at h
 |i,a::r,b::s,0,_,h1,h2=>by
  have:(a.Ws&&p i)=true:=by
   simp only [Ag]
   exact ⟨by simpa using h1,h2⟩
  simp only [Jy,this,Ud,eg]
 |i,a::r,b::s,t+1,hl,h1,h2=>by
  have hr:=u9 p (i+1) r s t (by simpa using hl) (by simpa using h1) (by rw [show i+1+t=i+(t+1) by omega];exact h2)
  simp only [Jy]
  cases (a.Ws&&p i)<;>simpa only [Ud,Mv] using hr
theorem iD {B:List (Nat×Nat×Nat)} {H:List (Nat×OB)} {c:AC} {K:Prop} (h:uS B H c K):ee B H c=c/\K:=by
 cases c with
 |own l off len=>obtain ⟨h1,h2,h3⟩:=h;exact ⟨by rw [h1,h2];rfl,h3⟩
 |_=>exact ⟨rfl,h⟩
theorem ah {B:List (Nat×Nat×Nat)} {H:List (Nat×OB)} : ∀ {l:List AC} {K:Prop},c5 B H l K->l.map (ee B H)=l/\K
 | [],_,h=>⟨rfl,h⟩
 |c::l,_,h=>by
  obtain ⟨h1,h2⟩:=iD h
  obtain ⟨h3,h4⟩:=ah h2
  exact ⟨by rw [Bw,h1,h3],h4⟩
theorem rO {B:List (Nat×Nat×Nat)} {H:List (Nat×OB)} {c:AV} {K:Prop} (h:FZ B H c K):c.map (ee B H)=c/\K:=by
 cases c with
 | «at»a=>obtain ⟨h1,h2⟩:=iD h;exact ⟨by rw [AV.map,h1],h2⟩
 |agg cs=>obtain ⟨h1,h2⟩:=ah h;exact ⟨by rw [AV.map,h1],h2⟩
 |aa _ _ _=>exact ⟨rfl,h⟩
 |Mh l=>exact h.elim
theorem eN {B:List (Nat×Nat×Nat)} {H:List (Nat×OB)} : ∀ {l:List AV} {K:Prop},a9 B H l K->l.map (·.map (ee B H))=l/\K
 | [],_,h=>⟨rfl,h⟩
 |c::l,_,h=>by
  obtain ⟨h1,h2⟩:=rO h
  obtain ⟨h3,h4⟩:=eN h2
  exact ⟨by rw [Bw,h1,h3],h4⟩
theorem Mt {B:List (Nat×Nat×Nat)} {H:List (Nat×OB)} : ∀ {l:List (Nat×OB)} {K:Prop},gV B H l K->l.map (λp=>(p.1,p.2.map (ee B H)))=l/\K
 | [],_,h=>⟨rfl,h⟩
 |(k, .var t vs)::l,_,h=>by
  obtain ⟨h1,h2⟩:=ah h
  obtain ⟨h3,h4⟩:=Mt h2
  exact ⟨by rw [Bw,h3];simp only [OB.map,h1],h4⟩
 |(k, .arr a b c d e)::l,_,h=>by
  obtain ⟨h3,h4⟩:=Mt (l:=l) h
  exact ⟨by rw [Bw,h3];rfl,h4⟩
 |(k, .Gg a b c)::l,_,h=>by
  obtain ⟨h3,h4⟩:=Mt (l:=l) h
  exact ⟨by rw [Bw,h3];rfl,h4⟩
 |(k, .Bj a b c d e)::l,_,h=>by
  obtain ⟨h3,h4⟩:=Mt (l:=l) h
  exact ⟨by rw [Bw,h3];rfl,h4⟩
 |(k, .Ul a b)::l,_,h=>by
  obtain ⟨h3,h4⟩:=Mt (l:=l) h
  exact ⟨by rw [Bw,h3];rfl,h4⟩
theorem j7 {B:List (Nat×Nat×Nat)} {s:St} {K:Prop} (h:x4 B s K):s.whole B=s/\K:=by
 obtain ⟨h1,h2⟩:=eN h
 obtain ⟨h3,h4⟩:=Mt h2
 exact ⟨by unfold St.whole St.Kr;rw [h1,h3],h4⟩
theorem fv (live:List Nat): ∀(i:Nat) (l:List AV) (t:Nat),i+t∉live->(Hs live i l).getD t .undef= .undef
 |_,[],_,_=>rfl
 |i,v::r,0,h=>by simp [Hs];intro hn;exact absurd hn h
 |i,v::r,t+1,h=>by
  simp only [Hs,Mv]
  exact fv live (i+1) r t (by rw [show i+1+t=i+(t+1) by omega];exact h)
theorem ew: ∀(l:List Nat) (st:St) (t:Nat),st.get t= .undef->(Zw l st).get t= .undef
 | [],_,_,h=>h
 |a::r,st,t,h=>ew r _ t (by
  show (st.tmps.map (·.map (Cg a))).getD t .undef= .undef
  rw [Tz (Cg a) rfl,show st.tmps.getD t .undef= .undef from h]
  rfl)
theorem wI (l k:Nat) (st:St) (t:Nat) (h:st.get t= .undef):(st.rename l k).get t= .undef:=by
 unfold St.rename
 split
 ·split
  ·show (st.tmps.map (·.map (Ue l k))).getD t .undef= .undef
   rw [Tz (Ue l k) rfl,show st.tmps.getD t .undef= .undef from h]
   rfl
  ·exact h
 ·exact h
theorem cG: ∀(n i:Nat) (st:St) (t:Nat),st.get t= .undef->(Mf n i st).get t= .undef
 |0,_,_,_,h=>h
 |n+1,i,st,t,h=>by
  simp only [Mf]
  refine cG n (i+1) _ t ?_
  split
  ·split
   ·split
    ·exact h
    ·exact wI _ _ _ t h
   ·exact h
  ·exact h
theorem wD (st:St) (d:Nat) (v:AV) (t:Nat) (Is:t≠d) (h:st.get t= .undef):(st.put (some d) v).get t= .undef:=by rw [aw _ _ Is];exact h
theorem qG (k:Nat) (st:St) (t:Nat) (h:st.get t= .undef):(aJ k st).get t= .undef:=by
 unfold aJ
 split
 ·rename_i l off len hg
  split
  ·split
   ·refine wD _ _ _ _ (λe=>by subst e;rw [hg] at h;cases h) ?_
    show (st.tmps.map (·.map (Cg l))).getD t .undef= .undef
    rw [Tz (Cg l) rfl,show st.tmps.getD t .undef= .undef from h]
    rfl
   ·exact h
  ·exact h
 ·exact h
theorem jY (c:Nat) (st:St) (t:Nat) (h:st.get t= .undef):(Pg c st).get t= .undef:=by
 unfold Pg
 split
 ·split
  ·rename_i l off len hc
   split
   ·split
    ·split
     ·show (st.tmps.map (·.map (Cg l))).getD t .undef= .undef
      rw [Tz (Cg l) rfl,show st.tmps.getD t .undef= .undef from h]
      rfl
     ·exact h
    ·exact h
   ·exact h
  ·exact h
 ·exact h
theorem bu (live:List Nat): ∀(n i:Nat) (st:St) (t:Nat),st.get t= .undef->(Pa live n i st).get t= .undef
 |0,_,_,_,h=>h
 |n+1,i,st,t,h=>by
  simp only [Pa]
  refine bu live n (i+1) _ t ?_
  split
  ·exact jY _ _ _ h
  ·exact h
theorem eE (live:List Nat): ∀(n i:Nat) (st:St) (t:Nat),st.get t= .undef->(Oj live n i st).get t= .undef
 |0,_,st,t,h=>bu live 16 0 st t h
 |n+1,i,st,t,h=>by
  simp only [Oj]
  refine eE live n (i+1) _ t ?_
  split
  ·exact qG _ _ _ h
  ·exact h
theorem BQ {live:List Nat} {st:St} {t:Nat} (h:((st.clean live).get t).Ws=true):t∈live:=by
 refine Cd λhn=>?_
 have:(st.clean live).get t= .undef:=by
  have key: ∀s:St,s.get t= .undef->(if live.contains bw then Mf s.tmps.length 0 s else s).get t= .undef:=by
   intro s hs
   split
   ·exact cG _ _ s t hs
   ·exact hs
  unfold St.clean
  have PN: ∀s:St,s.get t= .undef->(if live.any (λt=>Nat.ble Ta t) then s.Ig live else s).get t= .undef:=by
   intro s hs
   split<;>exact hs
  have PQ: ∀s:St,s.get t= .undef->(if live.any (λt=>Nat.ble aK t&&Nat.blt t bw) then Oj live s.tmps.length 0 s else s).get t= .undef:=by
   intro s hs
   split
   ·exact eE _ _ _ s t hs
   ·exact hs
  refine PN _ (key _ (PQ _ (ew _ _ t ?_)))
  exact fv live 0 st.tmps t (by simpa using hn)
 rw [this] at h
 cases h
theorem q8 {c:AV} (h:c.Ws=true): ∃fr τ,∃x:τ.den,c= .at (.data fr τ x):=by
 unfold AV.Ws at h
 split at h
 ·exact ⟨_,_,_,rfl⟩
 ·cases h
theorem LG {live:Nat->List Nat} {c:Code} {t:Nat} (h:stays live c t=true):t∉writes c/\aB live c t=true:=by
 unfold stays at h
 simpa using h
section
variable {T:Tab} {Γ:Env} {live:Nat->List Nat}
theorem Ns.keeps {c:Code} {st:St} {Q:Ld->St->Prop} (h:Ns T Γ live c st Q):Ns T Γ live c st (λe s=>Q e s/\Ex (λt=>t∉writes c/\aB live c t=true) st s):=by
 exact EJ h st _ Cb.rfl'.on λt ht=>ht
def wsQ (Q:Ld->WS->Prop) (e:Ld) (s:St):Prop:= ∃w':WS,w'.st=s/\w'.OK/\Q e w'
theorem yY {c:Code} (ih: ∀(w:WS) (Q:Ld->WS->Prop),w.OK->c8 T Γ live c w Q->Ns T Γ live c w.st (wsQ Q)) {w:WS} {Q:Ld->WS->Prop} (h:c8 T Γ live (.loop c) w Q):
  Ns T Γ live (.loop c) w.st (wsQ Q):=by
 simp only [c8,IN,dk] at h
 obtain ⟨hw0,I,μ,h0,hs⟩:=j7 h
 have As: ∀(t:Nat),((w.st.clean (live (En c))).get t).Ws=true->stays live c t=true-> ∀v,((St.sj (Jy (stays live c) 0 (w.st.clean (live (En c))).tmps) (w.st.clean (live (En c))) (gD ((w.st.clean (live (En c))).mask (Jy (stays live c) 0 (w.st.clean (live (En c))).tmps)) v)).whole (Ym T.parts (w.st.clean (live (En c))).tmps)).get t=(w.st.clean (live (En c))).get t:=by
  intro t h1 h2 v
  have h3:=u9 (stays live c) 0 (w.st.clean (live (En c))).tmps (gD ((w.st.clean (live (En c))).mask (Jy (stays live c) 0 (w.st.clean (live (En c))).tmps)) v).tmps t
   ((eM _ _).trans (dx _ _)) h1 (by simpa using h2)
  obtain ⟨fr,τ,x,hx⟩:=q8 h1
  refine (Ox _ _ rfl λ_ _ _=>rfl) t fr τ x ?_|>.trans hx.symm
  exact h3.trans hx
 have XG: ∀(s1:St),(∀t,((w.st.clean (live (En c))).get t).Ws=true->stays live c t=true->s1.get t=(w.st.clean (live (En c))).get t)->s1.whole (Ym T.parts (w.st.clean (live (En c))).tmps)=s1-> ∀v,gE ((w.st.clean (live (En c))).mask (Jy (stays live c) 0 (w.st.clean (live (En c))).tmps)) (s1.mask (Jy (stays live c) 0 (w.st.clean (live (En c))).tmps))=some v->
   s1=(St.sj (Jy (stays live c) 0 (w.st.clean (live (En c))).tmps) (w.st.clean (live (En c))) (gD ((w.st.clean (live (En c))).mask (Jy (stays live c) 0 (w.st.clean (live (En c))).tmps)) v)).whole (Ym T.parts (w.st.clean (live (En c))).tmps):=by
  intro s1 hf hwh v hv
  have h1:=gF hv
  have h2:St.sj (Jy (stays live c) 0 (w.st.clean (live (En c))).tmps) (w.st.clean (live (En c))) (s1.mask (Jy (stays live c) 0 (w.st.clean (live (En c))).tmps))=s1:=by
   simp only [St.sj,St.mask]
   rw [jU (stays live c) 0 (w.st.clean (live (En c))).tmps s1.tmps λt h3 h4=>hf t h3 (by simpa using h4)]
  have h3:(St.sj (Jy (stays live c) 0 (w.st.clean (live (En c))).tmps) (w.st.clean (live (En c))) (gD ((w.st.clean (live (En c))).mask (Jy (stays live c) 0 (w.st.clean (live (En c))).tmps)) v)).whole (Ym T.parts (w.st.clean (live (En c))).tmps)=s1.whole (Ym T.parts (w.st.clean (live (En c))).tmps):=by
   refine AT ?_
   rw [qz,h1,<-qz,h2]
  rw [h3,hwh]
 refine KN (λv=>(St.sj (Jy (stays live c) 0 (w.st.clean (live (En c))).tmps) (w.st.clean (live (En c))) (gD ((w.st.clean (live (En c))).mask (Jy (stays live c) 0 (w.st.clean (live (En c))).tmps)) v)).whole (Ym T.parts (w.st.clean (live (En c))).tmps)) I μ _ h0 (XG _ (λ_ _ _=>rfl) hw0 _ (o3 _ (jQ _ _ (Tk h)))) ?_
 intro a ha
 refine (Ns.keeps (ih ⟨[],_⟩ _ (λt b h=>by cases h) (hs a ha))).mono ?_
 intro e s hQ
 obtain ⟨⟨w',h1,h2,h3⟩,hk⟩:=hQ
 subst h1
 cases e with
 |normal=>
  obtain ⟨h4,h5⟩:=j7 h3
  obtain ⟨v',h6,h7,h8⟩:=Bp.1 h5
  refine ⟨v',XG _ (λt hd ht=>?_) h4 _ h6,h7,h8⟩
  obtain ⟨fr,τ,x,hx⟩:=q8 hd
  rw [hx]
  exact iT (live (En c)) w'.st t fr τ x (BQ hd) (hk t fr τ x (LG ht) (by rw [As t hd ht a];exact hx))
 |exit id=>exact ⟨w',rfl,h2,h3⟩
 |ret=>exact ⟨w',rfl,h2,h3⟩
theorem nA: ∀(c:Code) (w:WS) (Q:Ld->WS->Prop),w.OK->c8 T Γ live c w Q->Ns T Γ live c w.st (wsQ Q):=by
 intro c
 induction c with
 |skip=>intro w Q hw h;exact .skip ⟨w,rfl,hw,h⟩
 |label _=>intro w Q hw h;exact .label ⟨w,rfl,hw,h⟩
 |exit _=>intro w Q hw h;exact .exit ⟨w,rfl,hw,h⟩
 |ret=>intro w Q hw h;exact .ret ⟨w,rfl,hw,h⟩
 |region id ops draw=>
  intro w Q hw h
  have hw':WS.OK {w with st:=w.st.kG ops} := λt b ht=>by
   obtain ⟨fr,e⟩:=hw t b ht
   exact ⟨fr,iU ops w.st t fr .bool b e⟩
  exact .region ((sv hw' h).mono λs ⟨w',h1,h2,h3⟩=>⟨w',h1,h2,Nm.1 h3⟩)
 |seq x y ihx ihy=>
  intro w Q hw h
  refine RF ((ihx w _ hw h).mono λe s hQ=>?_)
  obtain ⟨w',h1,h2,h3⟩:=hQ
  subst h1
  cases e with
  |normal=>exact ihy w' Q h2 h3
  |exit id=>exact ⟨w',rfl,h2,h3⟩
  |ret=>exact ⟨w',rfl,h2,h3⟩
 |cond c x y ihx ihy=>
  intro w Q hw h
  obtain ⟨fr,b,w',h1,h2,h3,h4⟩:=tf hw h
  refine KL h1 (λhb=>?_) (λhb=>?_)
  ·subst hb;rw [<-h2];exact ihx w' Q h3 h4
  ·subst hb;rw [<-h2];exact ihy w' Q h3 h4
 |block id c ih=>
  intro w Q hw h
  refine EI ((ih w _ hw h).mono λe s hQ=>?_)
  obtain ⟨w',h1,h2,h3⟩:=hQ
  subst h1
  cases e with
  |normal=>exact ⟨w',rfl,h2,h3⟩
  |ret=>exact ⟨w',rfl,h2,h3⟩
  |exit JB=>
   simp only at h3
   simp only [tN]
   split at h3
   ·rename_i hi;rw [Ab hi];exact ⟨w',rfl,h2,h3⟩
   ·rename_i hi;rw [Ai hi];exact ⟨w',rfl,h2,h3⟩
 |loop c ih=>intro w Q hw h;exact yY ih h
 |_=>intro w Q hw h;exact absurd h (by simp [c8])
theorem pF {s:Spec} {fn:Func} {P:s.res.den->Prop} {st:St} (h:YL T s fn P st): ∃fr y,kR T s fn st=some (fr,y)/\(fr||!s.fresh)=true/\P y:=by
 obtain ⟨p,h1,h2⟩:=Bp.1 h
 split at h2
 ·rename_i hf;exact ⟨p.1,p.2,h1,hf,h2⟩
 ·cases h2
theorem IM {s:Spec} {fn:Func} {x:s.arg.den} {P:s.res.den->Prop} (h:fnW T Γ s fn x P):MV T Γ s fn x P:=by
 unfold fnW at h
 obtain ⟨c,h1,h2⟩:=Bp.1 h
 refine ⟨c,h1,(nA c _ _ (λt b h=>by cases h) h2).mono λe st ⟨w,h4,h5,h6⟩=>?_⟩
 subst h4
 cases e with
 |normal=>exact ⟨λid hh=>(by cases hh),pF h6⟩
 |ret=>exact ⟨λid hh=>(by cases hh),pF h6⟩
 |exit id=>cases h6
theorem bo {st:St} {K:Prop} : ∀(vs:List AC) (cs:List (Bool×CK)),ga st K vs cs->fZ st vs cs/\K
 | [],cs,h=>⟨by simp [fZ],by simpa [ga] using h⟩
 |a::vs,[],h=>⟨by cases a<;>simp [fZ],by cases a<;>simpa [ga] using h⟩
 |a::vs,(false,c)::r,h=>by
  have h:ga st K vs r:=by cases a<;>simpa only [ga] using h
  obtain ⟨h1,h2⟩:=bo vs r h
  exact ⟨by cases a<;>simpa only [fZ] using h1,h2⟩
 |a::vs,(true,c)::r,h=>by
  cases a with
  |own l off len=>
   simp only [ga] at h
   split at h
   ·rename_i hl
    obtain ⟨h1,h2⟩:=bo vs r h.2
    refine ⟨?_,h2⟩
    simp only [fZ,hl]
    exact ⟨h.1,h1⟩
   ·rename_i hl
    obtain ⟨h1,h2⟩:=bo vs r h.2
    refine ⟨?_,h2⟩
    simp only [fZ,hl]
    exact ⟨h.1,h1⟩
   ·exact h.elim
  |_=>exact ⟨by simp [fZ],by simpa [ga] using h⟩
theorem dA {st:St} : ∀(cs:List CK) (as:List AC) (K:CKs.den cs->List Nat->Prop),mL st cs as K-> ∃x ls,Uc st cs as=some (x,ls)/\K x ls
 | [],[],K,h=>⟨(),[],rfl,h⟩
 | [],_::_,_,h=>h.elim
 |c::r,[],K,h=>by cases c<;>exact h.elim
 |c::r,a::as,K,h=>by
  have sf:He (iy st c a) (λp=>mL st r as λy t=>K (p.1,y) (p.2++t))-> ∃x ls,Uc st (c::r) (a::as)=some (x,ls)/\K x ls:= λh=>by
   obtain ⟨p,h1,h2⟩:=Bp.1 h
   obtain ⟨y,t,h3,h4⟩:=dA r as _ h2
   exact ⟨_,_,by simp only [Uc,h1,h3],h4⟩
  cases c with
  |Bj e te kp=>
   cases a with
   |own l off len=>
    simp only [mL] at h
    split at h
    ·rename_i hl
     split at h
     ·rename_i hc
      obtain ⟨⟨h1,h2⟩,h⟩:=h
      obtain ⟨y,t,h3,h4⟩:=dA r as _ h
      exact ⟨_,_,by simp only [Uc,iy,hl];rw [Ih ⟨hc.1,hc.2,h1,h2⟩];simp only [h3];rfl,h4⟩
     ·exact h.elim
    ·exact h.elim
   |_=>exact sf h
  |_=>exact sf h
theorem lj {st:St} {n:Nat} {as:List AC} {K:Prop} : ∀(ks:List (Nat×Nat)),vT st n as ks K->tT st n as ks/\K
 | [],h=>⟨trivial,h⟩
 |(k,j)::r,h=>by
  simp only [vT] at h
  split at h
  ·rename_i l off len ha
   split at h
   ·rename_i p hl
    split at h
    ·rename_i hc
     simp only [Ag] at hc
     obtain ⟨h1,h2⟩:=lj r h.2
     refine ⟨?_,h2⟩
     simp only [tT,ha,hl]
     exact ⟨⟨Ja hc.1,h.1,hc.2⟩,h1⟩
    ·exact h.elim
   ·exact h.elim
  ·exact h.elim
theorem gy {s:MSpec} {fn:Func} {x:Ins.den s.ins} {st:St} {cs:List AC} {P:CKs.den s.outs×IOs.den s.ins->Prop} (h:qL T s fn x st cs P):ic T s fn x st cs P:=by
 obtain ⟨l,h1,h⟩:=Bp.1 h
 obtain ⟨⟨as,ml⟩,h2,h⟩:=Bp.1 h
 obtain ⟨r,ls,h3,h⟩:=dA _ _ _ h
 obtain ⟨o,h4,h⟩:=Bp.1 h
 split at h
 ·rename_i hc
  obtain ⟨h5,h6⟩:=lj _ h
  unfold ic
  simp only [h1,h2,h3,h4]
  exact ⟨hc,h5,h6⟩
 ·exact h.elim
theorem nX {s:MSpec} {fn:Func} {x:Ins.den s.ins} {st:St} {P:CKs.den s.outs×IOs.den s.ins->Prop} (h:HN T s fn x st P):MU T s fn x st P:=by
 unfold HN at h
 unfold MU
 cases hp:s.ptr with
 |none=>rw [hp] at h;exact gy h
 |some p=>
  rw [hp] at h
  simp only at h⊢
  split at h
  ·rename_i tid vs hl
   split at h
   ·rename_i hc
    simp only [Ag] at hc
    obtain ⟨h1,h2⟩:=hc
    have h1:tid=p.1:=Ja h1
    have h2:=Ja h2
    subst h1
    obtain ⟨cs,h3,h4⟩:=Bp.1 h
    obtain ⟨h5,h6⟩:=bo vs s.ins h4
    exact ⟨vs,cs,hl,h2,h3,h5,gy h6⟩
   ·exact h.elim
  ·exact h.elim
theorem CB {s:MSpec} {fn:Func} {x:Ins.den s.ins} {P:CKs.den s.outs×IOs.den s.ins->Prop} (h:fnMW T Γ s fn x P):WA T Γ s fn x P:=by
 unfold fnMW at h
 split at h
 ·cases h
 rename_i hlen
 obtain ⟨c,h1,h2⟩:=Bp.1 h
 refine ⟨hlen,c,h1,(nA c _ _ (λt b h=>by cases h) h2).mono λe st ⟨w,h4,h5,h6⟩=>?_⟩
 subst h4
 cases e with
 |normal=>exact ⟨λid hh=>(by cases hh),nX h6⟩
 |ret=>exact ⟨λid hh=>(by cases hh),nX h6⟩
 |exit id=>cases h6
theorem Dx.ofW {P:Program} (hT:Du P T) (Of:Ju P Γ) (hm:P.follows .mixedOrders=true) {f:FuncId} {fn:Func} (hf:P.funcs[f]?=some fn) (hn:(fn.name== "runtime.NumGoroutine")=false)
  (hb:fn.body.isNone=false) (s:MSpec) (h: ∀x y,s.fn x=some y->fnMW T Γ s fn x (λz=>z=y)):Dx P f s:=
 ⟨fq hf hn hb,λw S π us x r o g vs h1 hg h2 h3 hS h4 h5=>rS hT Of hm hf s w S π us x r o g vs h1 hg h2 h3 hS h4 (CB (h x (r,o) h5))⟩
theorem Sound.ofW {P:Program} (hT:Du P T) (Of:Ju P Γ) (hm:P.follows .mixedOrders=true) {f:FuncId} {fn:Func} (hf:P.funcs[f]?=some fn) (hn:(fn.name== "runtime.NumGoroutine")=false)
  (hb:fn.body.isNone=false) (s:Spec) (h: ∀x y,s.fn x=some y->fnW T Γ s fn x (λz=>z=y)):Sound P f s:=
 RI hT Of hm hf hn hb s λx y hx=>IM (h x y hx)
end
end Go.Proofs.Ytkkdpknjohcekaa
