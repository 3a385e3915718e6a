/-
  Part 34 of the proof that the statement FnLowerBounds holds.
-/
import Derived.Test.YtkkdpknjohcekaaGreatCFLowerBounds32
namespace Go.Proofs.YtkkdpknjohcekaaGreat
open Go.RowKit
theorem Vi {B:List (Nat×Nat×Nat)} {H:List (Nat×OB)} : ∀ {l:List AV} {K:Prop},bE B H l K-> ∀c∈l,c.lh=true
 | [],_,_,c,hc=>by cases hc
 |d::l,K,h,c,hc=>by
  simp only [bE] at h
  cases d with
  |Ng l'=>exact h.elim
  | «at»a=>
   rcases Bd.1 hc with rfl|hc
   ·rfl
   ·have h':bE B H l K:=by
     cases a with
     |own k o n=>exact h.2.2
     |_=>exact h
    exact Vi h' c hc
  |bF _ _ _=>
   rcases Bd.1 hc with rfl|hc
   ·rfl
   ·exact Vi h c hc
  |agg cs=>
   rcases Bd.1 hc with rfl|hc
   ·rfl
   ·have: ∀(cs:List AC) (Q:Prop),dS B H cs Q->Q:=by
     intro cs
     induction cs with
     |nil=>exact λQ h=>h
     |cons a cs ih=>
      intro Q h
      have h2:dS B H cs Q:=by
       cases a with
       |own k o n=>exact h.2.2
       |_=>exact h
      exact ih Q h2
    exact Vi (this cs _ h) c hc
theorem mh: ∀(f:List Bool) (l:List AV),(∀c∈l,c.lh=true)-> ∀c∈Uw f l,c.lh=true
 | [],l,h=>by simpa [Uw] using h
 |true::f,[],h=>by simp [Uw] at h⊢
 |false::f,[],h=>by simp [Uw] at h⊢
 |true::f,a::l,h=>by
  intro c hc
  simp only [Uw,Bd] at hc
  rcases hc with rfl|hc
  ·rfl
  ·exact mh f l (λc hc=>h c (An _ hc)) c hc
 |false::f,a::l,h=>by
  intro c hc
  simp only [Uw,Bd] at hc
  rcases hc with rfl|hc
  ·exact h c (by simp)
  ·exact mh f l (λc hc=>h c (An _ hc)) c hc
theorem SB (f:AC->AC) (H:List (Nat×OB)) (l:Nat):lenOf (H.map λp=>(p.1,p.2.map f)) l=lenOf H l:=by
 unfold lenOf
 rw [Ps]
 cases At H l with
 |none=>rfl
 |some b=>cases b<;>rfl
theorem IM (f g:AC->AC) (c:AV):(c.map f).map g=c.map λa=>g (f a):=by
 cases c<;>simp [AV.map]
theorem KW (f g:AC->AC) (c:OB):(c.map f).map g=c.map λa=>g (f a):=by
 cases c<;>simp [OB.map]
theorem EL (s:St) (f g:AC->AC):(s.Ln f).Ln g=s.Ln λa=>g (f a):=by
 simp [St.Ln,List.map_map,Function.comp_def,IM,KW]
theorem EA (f:AC->AC) (H:List (Nat×OB)) (l:Nat): ∀(B:List (Nat×Nat×Nat)),RZ B (H.map λp=>(p.1,p.2.map f)) l=RZ B H l
 | []=>SB f H l
 |(k,o,n)::r=>by simp only [RZ];rw [EA f H l r]
theorem HX (B:List (Nat×Nat×Nat)) (s:St):(s.Ln Ud).whole B=s.whole B:=by
 unfold St.whole
 rw [EL]
 congr 1
 funext a
 cases a with
 |own l off len=>simp only [Ud,gm,St.Ln,EA]
 |_=>rfl
theorem HV {B:List (Nat×Nat×Nat)} {s t:St} (h:s.Ln Ud=t.Ln Ud):s.whole B=t.whole B:=by rw [<-HX B s,h,HX]
theorem pq (f:AC->AC): ∀(fx:List Bool) (a b:List AV),(Vz fx a b).map (·.map f)=Vz fx (a.map (·.map f)) (b.map (·.map f))
 | [],_,_=>by simp [Vz]
 |_::_,[],_=>by simp [Vz]
 |true::_,_::_,[]=>by simp [Vz]
 |false::_,_::_,[]=>by simp [Vz]
 |true::fx,x::a,y::b=>by simp only [Vz,Bz,pq f fx a b]
 |false::fx,x::a,y::b=>by simp only [Vz,Bz,pq f fx a b]
theorem tQ (f:AC->AC) (fx:List Bool) (a b:St):(St.vO fx a b).Ln f=St.vO fx (a.Ln f) (b.Ln f):=by
 simp only [St.vO,St.Ln,pq]
theorem gR: ∀(l:List AV) {R:Type} (v:qN l R),(Xr l v).1.length=l.length
 | [],_,_=>rfl
 |c::l,_,v=>by simp [Xr,gR l]
theorem xB (p:Nat->Bool): ∀(i:Nat) (l0 l:List AV) (t:Nat),l.length=l0.length->(l0.getD t .undef).Yz=true->p (i+t)=true->(Vz (Lb p i l0) l0 l).getD t .undef=l0.getD t .undef
 |_,[],_,t,_,h,_=>by simp [AV.Yz] at h
 |i,a::r,[],_,h,_,_=>by simp at h
 |i,a::r,b::s,0,_,h1,h2=>by
  have:(a.Yz&&p i)=true:=by
   simp only [Af]
   exact ⟨by simpa using h1,h2⟩
  simp only [Lb,this,Vz,Yg]
 |i,a::r,b::s,t+1,hl,h1,h2=>by
  have hr:=xB p (i+1) r s t (by simpa using hl) (by simpa using h1) (by rw [show i+1+t=i+(t+1) by omega];exact h2)
  simp only [Lb]
  cases (a.Yz&&p i)<;>simpa only [Vz,Nz] using hr
theorem kK {B:List (Nat×Nat×Nat)} {H:List (Nat×OB)} {c:AC} {K:Prop} (h:ym B H c K):gm B H c=c/\K:=by
 cases c with
 |own l off len=>obtain ⟨h1,h2,h3⟩:=h;exact ⟨by rw [h1,h2];rfl,h3⟩
 |_=>exact ⟨rfl,h⟩
theorem bM {B:List (Nat×Nat×Nat)} {H:List (Nat×OB)} : ∀ {l:List AC} {K:Prop},dS B H l K->l.map (gm B H)=l/\K
 | [],_,h=>⟨rfl,h⟩
 |c::l,_,h=>by
  obtain ⟨h1,h2⟩:=kK h
  obtain ⟨h3,h4⟩:=bM h2
  exact ⟨by rw [Bz,h1,h3],h4⟩
theorem vn {B:List (Nat×Nat×Nat)} {H:List (Nat×OB)} {c:AV} {K:Prop} (h:OF B H c K):c.map (gm B H)=c/\K:=by
 cases c with
 | «at»a=>obtain ⟨h1,h2⟩:=kK h;exact ⟨by rw [AV.map,h1],h2⟩
 |agg cs=>obtain ⟨h1,h2⟩:=bM h;exact ⟨by rw [AV.map,h1],h2⟩
 |bF _ _ _=>exact ⟨rfl,h⟩
 |Ng l=>exact h.elim
theorem gS {B:List (Nat×Nat×Nat)} {H:List (Nat×OB)} : ∀ {l:List AV} {K:Prop},bE B H l K->l.map (·.map (gm B H))=l/\K
 | [],_,h=>⟨rfl,h⟩
 |c::l,_,h=>by
  obtain ⟨h1,h2⟩:=vn h
  obtain ⟨h3,h4⟩:=gS h2
  exact ⟨by rw [Bz,h1,h3],h4⟩
theorem Nw {B:List (Nat×Nat×Nat)} {H:List (Nat×OB)} : ∀ {l:List (Nat×OB)} {K:Prop},jT B H l K->l.map (λp=>(p.1,p.2.map (gm B H)))=l/\K
 | [],_,h=>⟨rfl,h⟩
 |(k, .var t vs)::l,_,h=>by
  obtain ⟨h1,h2⟩:=bM h
  obtain ⟨h3,h4⟩:=Nw h2
  exact ⟨by rw [Bz,h3];simp only [OB.map,h1],h4⟩
 |(k, .arr a b c d e)::l,_,h=>by
  obtain ⟨h3,h4⟩:=Nw (l:=l) h
  exact ⟨by rw [Bz,h3];rfl,h4⟩
 |(k, .Hi a b c)::l,_,h=>by
  obtain ⟨h3,h4⟩:=Nw (l:=l) h
  exact ⟨by rw [Bz,h3];rfl,h4⟩
 |(k, .Bp a b c d e)::l,_,h=>by
  obtain ⟨h3,h4⟩:=Nw (l:=l) h
  exact ⟨by rw [Bz,h3];rfl,h4⟩
 |(k, .Wm a b)::l,_,h=>by
  obtain ⟨h3,h4⟩:=Nw (l:=l) h
  exact ⟨by rw [Bz,h3];rfl,h4⟩
theorem lu {B:List (Nat×Nat×Nat)} {s:St} {K:Prop} (h:AD B s K):s.whole B=s/\K:=by
 obtain ⟨h1,h2⟩:=gS h
 obtain ⟨h3,h4⟩:=Nw h2
 exact ⟨by unfold St.whole St.Ln;rw [h1,h3],h4⟩
theorem iA (live:List Nat): ∀(i:Nat) (l:List AV) (t:Nat),i+t∉live->(Iz live i l).getD t .undef= .undef
 |_,[],_,_=>rfl
 |i,v::r,0,h=>by simp [Iz];intro hn;exact absurd hn h
 |i,v::r,t+1,h=>by
  simp only [Iz,Nz]
  exact iA live (i+1) r t (by rw [show i+1+t=i+(t+1) by omega];exact h)
theorem gy: ∀(l:List Nat) (st:St) (t:Nat),st.get t= .undef->(bq l st).get t= .undef
 | [],_,_,h=>h
 |a::r,st,t,h=>gy r _ t (by
  show (st.tmps.map (·.map (Cl a))).getD t .undef= .undef
  rw [Vt (Cl a) rfl,show st.tmps.getD t .undef= .undef from h]
  rfl)
theorem zK (l k:Nat) (st:St) (t:Nat) (h:st.get t= .undef):(st.rename l k).get t= .undef:=by
 unfold St.rename
 split
 ·split
  ·show (st.tmps.map (·.map (Wa l k))).getD t .undef= .undef
   rw [Vt (Wa l k) rfl,show st.tmps.getD t .undef= .undef from h]
   rfl
  ·exact h
 ·exact h
theorem eH: ∀(n i:Nat) (st:St) (t:Nat),st.get t= .undef->(Nf n i st).get t= .undef
 |0,_,_,_,h=>h
 |n+1,i,st,t,h=>by
  simp only [Nf]
  refine eH n (i+1) _ t ?_
  split
  ·split
   ·split
    ·exact h
    ·exact zK _ _ _ t h
   ·exact h
  ·exact h
theorem zF (st:St) (d:Nat) (v:AV) (t:Nat) (Jd:t≠d) (h:st.get t= .undef):(st.put (some d) v).get t= .undef:=by rw [bY _ _ Jd];exact h
theorem u6 (k:Nat) (st:St) (t:Nat) (h:st.get t= .undef):(cg k st).get t= .undef:=by
 unfold cg
 split
 ·rename_i l off len hg
  split
  ·split
   ·refine zF _ _ _ _ (λe=>by subst e;rw [hg] at h;cases h) ?_
    show (st.tmps.map (·.map (Cl l))).getD t .undef= .undef
    rw [Vt (Cl l) rfl,show st.tmps.getD t .undef= .undef from h]
    rfl
   ·exact h
  ·exact h
 ·exact h
theorem mw (c:Nat) (st:St) (t:Nat) (h:st.get t= .undef):(Qv c st).get t= .undef:=by
 unfold Qv
 split
 ·split
  ·rename_i l off len hc
   split
   ·split
    ·split
     ·show (st.tmps.map (·.map (Cl l))).getD t .undef= .undef
      rw [Vt (Cl l) rfl,show st.tmps.getD t .undef= .undef from h]
      rfl
     ·exact h
    ·exact h
   ·exact h
  ·exact h
 ·exact h
theorem da (live:List Nat): ∀(n i:Nat) (st:St) (t:Nat),st.get t= .undef->(Qo live n i st).get t= .undef
 |0,_,_,_,h=>h
 |n+1,i,st,t,h=>by
  simp only [Qo]
  refine da live n (i+1) _ t ?_
  split
  ·exact mw _ _ _ h
  ·exact h
theorem gG (live:List Nat): ∀(n i:Nat) (st:St) (t:Nat),st.get t= .undef->(Pw live n i st).get t= .undef
 |0,_,st,t,h=>da live 16 0 st t h
 |n+1,i,st,t,h=>by
  simp only [Pw]
  refine gG live n (i+1) _ t ?_
  split
  ·exact u6 _ _ _ h
  ·exact h
theorem JA {live:List Nat} {st:St} {t:Nat} (h:((st.clean live).get t).Yz=true):t∈live:=by
 refine Bo λhn=>?_
 have:(st.clean live).get t= .undef:=by
  have key: ∀s:St,s.get t= .undef->(if live.contains db then Nf s.tmps.length 0 s else s).get t= .undef:=by
   intro s hs
   split
   ·exact eH _ _ s t hs
   ·exact hs
  unfold St.clean
  have YJ: ∀s:St,s.get t= .undef->(if live.any (λt=>Nat.ble Qa t) then s.Jn live else s).get t= .undef:=by
   intro s hs
   split<;>exact hs
  have YK: ∀s:St,s.get t= .undef->(if live.any (λt=>Nat.ble Td t&&Nat.blt t db) then Pw live s.tmps.length 0 s else s).get t= .undef:=by
   intro s hs
   split
   ·exact gG _ _ _ s t hs
   ·exact hs
  refine YJ _ (key _ (YK _ (gy _ _ t ?_)))
  exact iA live 0 st.tmps t (by simpa using hn)
 rw [this] at h
 cases h
theorem tn {c:AV} (h:c.Yz=true): ∃fr τ,∃x:τ.den,c= .at (.data fr τ x):=by
 unfold AV.Yz at h
 split at h
 ·exact ⟨_,_,_,rfl⟩
 ·cases h
theorem UG {live:Nat->List Nat} {c:Code} {t:Nat} (h:stays live c t=true):t∉writes c/\c8 live c t=true:=by
 unfold stays at h
 simpa using h
section
variable {T:Tab} {Γ:Env} {live:Nat->List Nat}
theorem Pc.keeps {c:Code} {st:St} {Q:Ma->St->Prop} (h:Pc T Γ live c st Q):Pc T Γ live c st (λe s=>Q e s/\Ga (λt=>t∉writes c/\c8 live c t=true) st s):=by
 exact MH h st _ Ck.rfl'.on λt ht=>ht
def wsQ (Q:Ma->WS->Prop) (e:Ma) (s:St):Prop:= ∃w':WS,w'.st=s/\w'.OK/\Q e w'
theorem EH {c:Code} (ih: ∀(w:WS) (Q:Ma->WS->Prop),w.OK->dW T Γ live c w Q->Pc T Γ live c w.st (wsQ Q)) {w:WS} {Q:Ma->WS->Prop} (h:dW T Γ live (.loop c) w Q):
  Pc T Γ live (.loop c) w.st (wsQ Q):=by
 simp only [dW,RM,fp] at h
 obtain ⟨hw0,I,μ,h0,hs⟩:=lu h
 have At: ∀(t:Nat),((w.st.clean (live (Fc c))).get t).Yz=true->stays live c t=true-> ∀v,((St.vO (Lb (stays live c) 0 (w.st.clean (live (Fc c))).tmps) (w.st.clean (live (Fc c))) (jy ((w.st.clean (live (Fc c))).mask (Lb (stays live c) 0 (w.st.clean (live (Fc c))).tmps)) v)).whole (ay T.parts (w.st.clean (live (Fc c))).tmps)).get t=(w.st.clean (live (Fc c))).get t:=by
  intro t h1 h2 v
  have h3:=xB (stays live c) 0 (w.st.clean (live (Fc c))).tmps (jy ((w.st.clean (live (Fc c))).mask (Lb (stays live c) 0 (w.st.clean (live (Fc c))).tmps)) v).tmps t
   ((gR _ _).trans (fE _ _)) h1 (by simpa using h2)
  obtain ⟨fr,τ,x,hx⟩:=tn h1
  refine (Qj _ _ rfl λ_ _ _=>rfl) t fr τ x ?_|>.trans hx.symm
  exact h3.trans hx
 have hmk: ∀(s1:St),(∀t,((w.st.clean (live (Fc c))).get t).Yz=true->stays live c t=true->s1.get t=(w.st.clean (live (Fc c))).get t)->s1.whole (ay T.parts (w.st.clean (live (Fc c))).tmps)=s1-> ∀v,jz ((w.st.clean (live (Fc c))).mask (Lb (stays live c) 0 (w.st.clean (live (Fc c))).tmps)) (s1.mask (Lb (stays live c) 0 (w.st.clean (live (Fc c))).tmps))=some v->
   s1=(St.vO (Lb (stays live c) 0 (w.st.clean (live (Fc c))).tmps) (w.st.clean (live (Fc c))) (jy ((w.st.clean (live (Fc c))).mask (Lb (stays live c) 0 (w.st.clean (live (Fc c))).tmps)) v)).whole (ay T.parts (w.st.clean (live (Fc c))).tmps):=by
  intro s1 hf hwh v hv
  have h1:=jA hv
  have h2:St.vO (Lb (stays live c) 0 (w.st.clean (live (Fc c))).tmps) (w.st.clean (live (Fc c))) (s1.mask (Lb (stays live c) 0 (w.st.clean (live (Fc c))).tmps))=s1:=by
   simp only [St.vO,St.mask]
   rw [mo (stays live c) 0 (w.st.clean (live (Fc c))).tmps s1.tmps λt h3 h4=>hf t h3 (by simpa using h4)]
  have h3:(St.vO (Lb (stays live c) 0 (w.st.clean (live (Fc c))).tmps) (w.st.clean (live (Fc c))) (jy ((w.st.clean (live (Fc c))).mask (Lb (stays live c) 0 (w.st.clean (live (Fc c))).tmps)) v)).whole (ay T.parts (w.st.clean (live (Fc c))).tmps)=s1.whole (ay T.parts (w.st.clean (live (Fc c))).tmps):=by
   refine HV ?_
   rw [tQ,h1,<-tQ,h2]
  rw [h3,hwh]
 refine TQ (λv=>(St.vO (Lb (stays live c) 0 (w.st.clean (live (Fc c))).tmps) (w.st.clean (live (Fc c))) (jy ((w.st.clean (live (Fc c))).mask (Lb (stays live c) 0 (w.st.clean (live (Fc c))).tmps)) v)).whole (ay T.parts (w.st.clean (live (Fc c))).tmps)) I μ _ h0 (hmk _ (λ_ _ _=>rfl) hw0 _ (qI _ (mh _ _ (Vi h)))) ?_
 intro a ha
 refine (Pc.keeps (ih ⟨[],_⟩ _ (λt b h=>by cases h) (hs a ha))).mono ?_
 intro e s hQ
 obtain ⟨⟨w',h1,h2,h3⟩,hk⟩:=hQ
 subst h1
 cases e with
 |normal=>
  obtain ⟨h4,h5⟩:=lu h3
  obtain ⟨v',h6,h7,h8⟩:=Bx.1 h5
  refine ⟨v',hmk _ (λt hd ht=>?_) h4 _ h6,h7,h8⟩
  obtain ⟨fr,τ,x,hx⟩:=tn hd
  rw [hx]
  exact l6 (live (Fc c)) w'.st t fr τ x (JA hd) (hk t fr τ x (UG ht) (by rw [At t hd ht a];exact hx))
 |exit id=>exact ⟨w',rfl,h2,h3⟩
 |ret=>exact ⟨w',rfl,h2,h3⟩
theorem pZ: ∀(c:Code) (w:WS) (Q:Ma->WS->Prop),w.OK->dW T Γ live c w Q->Pc T Γ live c w.st (wsQ Q):=by
 intro c
 induction c with
 |skip=>intro w Q hw h;exact .skip ⟨w,rfl,hw,h⟩
 |label _=>intro w Q hw h;exact .label ⟨w,rfl,hw,h⟩
 |exit _=>intro w Q hw h;exact .exit ⟨w,rfl,hw,h⟩
 |ret=>intro w Q hw h;exact .ret ⟨w,rfl,hw,h⟩
 |region id ops draw=>
  intro w Q hw h
  have hw':WS.OK {w with st:=w.st.mX ops} := λt b ht=>by
   obtain ⟨fr,e⟩:=hw t b ht
   exact ⟨fr,l7 ops w.st t fr .bool b e⟩
  exact .region ((w6 hw' h).mono λs ⟨w',h1,h2,h3⟩=>⟨w',h1,h2,Ou.1 h3⟩)
 |seq x y ihx ihy=>
  intro w Q hw h
  refine Aa2 ((ihx w _ hw h).mono λe s hQ=>?_)
  obtain ⟨w',h1,h2,h3⟩:=hQ
  subst h1
  cases e with
  |normal=>exact ihy w' Q h2 h3
  |exit id=>exact ⟨w',rfl,h2,h3⟩
  |ret=>exact ⟨w',rfl,h2,h3⟩
 |cond c x y ihx ihy=>
  intro w Q hw h
  obtain ⟨fr,b,w',h1,h2,h3,h4⟩:=wV hw h
  refine TP h1 (λhb=>?_) (λhb=>?_)
  ·subst hb;rw [<-h2];exact ihx w' Q h3 h4
  ·subst hb;rw [<-h2];exact ihy w' Q h3 h4
 |block id c ih=>
  intro w Q hw h
  refine MG ((ih w _ hw h).mono λe s hQ=>?_)
  obtain ⟨w',h1,h2,h3⟩:=hQ
  subst h1
  cases e with
  |normal=>exact ⟨w',rfl,h2,h3⟩
  |ret=>exact ⟨w',rfl,h2,h3⟩
  |exit RW=>
   simp only at h3
   simp only [xe]
   split at h3
   ·rename_i hi;rw [Ab hi];exact ⟨w',rfl,h2,h3⟩
   ·rename_i hi;rw [Aj hi];exact ⟨w',rfl,h2,h3⟩
 |loop c ih=>intro w Q hw h;exact EH ih h
 |_=>intro w Q hw h;exact absurd h (by simp [dW])
theorem sD {s:Spec} {fn:Func} {P:s.res.den->Prop} {st:St} (h:Ag6 T s fn P st): ∃fr y,nm T s fn st=some (fr,y)/\(fr||!s.fresh)=true/\P y:=by
 obtain ⟨p,h1,h2⟩:=Bx.1 h
 split at h2
 ·rename_i hf;exact ⟨p.1,p.2,h1,hf,h2⟩
 ·cases h2
theorem RL {s:Spec} {fn:Func} {x:s.arg.den} {P:s.res.den->Prop} (h:fnW T Γ s fn x P):VU T Γ s fn x P:=by
 unfold fnW at h
 obtain ⟨c,h1,h2⟩:=Bx.1 h
 refine ⟨c,h1,(pZ c _ _ (λt b h=>by cases h) h2).mono λe st ⟨w,h4,h5,h6⟩=>?_⟩
 subst h4
 cases e with
 |normal=>exact ⟨λid hh=>(by cases hh),sD h6⟩
 |ret=>exact ⟨λid hh=>(by cases hh),sD h6⟩
 |exit id=>cases h6
theorem cU {st:St} {K:Prop} : ∀(vs:List AC) (cs:List (Bool×CK)),j5 st K vs cs->j4 st vs cs/\K
 | [],cs,h=>⟨by simp [j4],by simpa [j5] using h⟩
 |a::vs,[],h=>⟨by cases a<;>simp [j4],by cases a<;>simpa [j5] using h⟩
 |a::vs,(false,c)::r,h=>by
  have h:j5 st K vs r:=by cases a<;>simpa only [j5] using h
  obtain ⟨h1,h2⟩:=cU vs r h
  exact ⟨by cases a<;>simpa only [j4] using h1,h2⟩
 |a::vs,(true,c)::r,h=>by
  cases a with
  |own l off len=>
   simp only [j5] at h
   split at h
   ·rename_i hl
    obtain ⟨h1,h2⟩:=cU vs r h.2
    refine ⟨?_,h2⟩
    simp only [j4,hl]
    exact ⟨h.1,h1⟩
   ·rename_i hl
    obtain ⟨h1,h2⟩:=cU vs r h.2
    refine ⟨?_,h2⟩
    simp only [j4,hl]
    exact ⟨h.1,h1⟩
   ·exact h.elim
  |_=>exact ⟨by simp [j4],by simpa [j5] using h⟩
theorem fI {st:St} : ∀(cs:List CK) (as:List AC) (K:CKs.den cs->List Nat->Prop),po st cs as K-> ∃x ls,Vy st cs as=some (x,ls)/\K x ls
 | [],[],K,h=>⟨(),[],rfl,h⟩
 | [],_::_,_,h=>h.elim
 |c::r,[],K,h=>by cases c<;>exact h.elim
 |c::r,a::as,K,h=>by
  have vh:Io (kG st c a) (λp=>po st r as λy t=>K (p.1,y) (p.2++t))-> ∃x ls,Vy st (c::r) (a::as)=some (x,ls)/\K x ls:= λh=>by
   obtain ⟨p,h1,h2⟩:=Bx.1 h
   obtain ⟨y,t,h3,h4⟩:=fI r as _ h2
   exact ⟨_,_,by simp only [Vy,h1,h3],h4⟩
  cases c with
  |Bp e te kp=>
   cases a with
   |own l off len=>
    simp only [po] at h
    split at h
    ·rename_i hl
     split at h
     ·rename_i hc
      obtain ⟨⟨h1,h2⟩,h⟩:=h
      obtain ⟨y,t,h3,h4⟩:=fI r as _ h
      exact ⟨_,_,by simp only [Vy,kG,hl];rw [Jo ⟨hc.1,hc.2,h1,h2⟩];simp only [h3];rfl,h4⟩
     ·exact h.elim
    ·exact h.elim
   |_=>exact vh h
  |_=>exact vh h
theorem nL {st:St} {n:Nat} {as:List AC} {K:Prop} : ∀(ks:List (Nat×Nat)),z7 st n as ks K->xk st n as ks/\K
 | [],h=>⟨trivial,h⟩
 |(k,j)::r,h=>by
  simp only [z7] at h
  split at h
  ·rename_i l off len ha
   split at h
   ·rename_i p hl
    split at h
    ·rename_i hc
     simp only [Af] at hc
     obtain ⟨h1,h2⟩:=nL r h.2
     refine ⟨?_,h2⟩
     simp only [xk,ha,hl]
     exact ⟨⟨Kg hc.1,h.1,hc.2⟩,h1⟩
    ·exact h.elim
   ·exact h.elim
  ·exact h.elim
theorem jq {s:MSpec} {fn:Func} {x:Ins.den s.ins} {st:St} {cs:List AC} {P:CKs.den s.outs×IOs.den s.ins->Prop} (h:uc T s fn x st cs P):kl T s fn x st cs P:=by
 obtain ⟨l,h1,h⟩:=Bx.1 h
 obtain ⟨⟨as,ml⟩,h2,h⟩:=Bx.1 h
 obtain ⟨r,ls,h3,h⟩:=fI _ _ _ h
 obtain ⟨o,h4,h⟩:=Bx.1 h
 split at h
 ·rename_i hc
  obtain ⟨h5,h6⟩:=nL _ h
  unfold kl
  simp only [h1,h2,h3,h4]
  exact ⟨hc,h5,h6⟩
 ·exact h.elim
theorem qD {s:MSpec} {fn:Func} {x:Ins.den s.ins} {st:St} {P:CKs.den s.outs×IOs.den s.ins->Prop} (h:QE T s fn x st P):VT T s fn x st P:=by
 unfold QE at h
 unfold VT
 cases hp:s.ptr with
 |none=>rw [hp] at h;exact jq h
 |some p=>
  rw [hp] at h
  simp only at h⊢
  split at h
  ·rename_i tid vs hl
   split at h
   ·rename_i hc
    simp only [Af] at hc
    obtain ⟨h1,h2⟩:=hc
    have h1:tid=p.1:=Kg h1
    have h2:=Kg h2
    subst h1
    obtain ⟨cs,h3,h4⟩:=Bx.1 h
    obtain ⟨h5,h6⟩:=cU vs s.ins h4
    exact ⟨vs,cs,hl,h2,h3,h5,jq h6⟩
   ·exact h.elim
  ·exact h.elim
theorem JL {s:MSpec} {fn:Func} {x:Ins.den s.ins} {P:CKs.den s.outs×IOs.den s.ins->Prop} (h:fnMW T Γ s fn x P):Ae9 T Γ s fn x P:=by
 unfold fnMW at h
 split at h
 ·cases h
 rename_i hlen
 obtain ⟨c,h1,h2⟩:=Bx.1 h
 refine ⟨hlen,c,h1,(pZ c _ _ (λt b h=>by cases h) h2).mono λe st ⟨w,h4,h5,h6⟩=>?_⟩
 subst h4
 cases e with
 |normal=>exact ⟨λid hh=>(by cases hh),qD h6⟩
 |ret=>exact ⟨λid hh=>(by cases hh),qD h6⟩
 |exit id=>cases h6
theorem Dc.ofW {P:Program} (hT:Eg P T) (Pu:Lj P Γ) (hm:P.follows .mixedOrders=true) {f:FuncId} {fn:Func} (hf:P.funcs[f]?=some fn) (hn:(fn.name== "runtime.NumGoroutine")=false)
  (hb:fn.body.isNone=false) (s:MSpec) (h: ∀x y,s.fn x=some y->fnMW T Γ s fn x (λz=>z=y)):Dc P f s:=
 ⟨iy hf hn hb,λw S π us x r o g vs h1 hg h2 h3 hS h4 h5=>vu hT Pu hm hf s w S π us x r o g vs h1 hg h2 h3 hS h4 (JL (h x (r,o) h5))⟩
theorem Sound.ofW {P:Program} (hT:Eg P T) (Pu:Lj P Γ) (hm:P.follows .mixedOrders=true) {f:FuncId} {fn:Func} (hf:P.funcs[f]?=some fn) (hn:(fn.name== "runtime.NumGoroutine")=false)
  (hb:fn.body.isNone=false) (s:Spec) (h: ∀x y,s.fn x=some y->fnW T Γ s fn x (λz=>z=y)):Sound P f s:=
 Aa4 hT Pu hm hf hn hb s λx y hx=>RL (h x y hx)
end
end Go.Proofs.YtkkdpknjohcekaaGreat
