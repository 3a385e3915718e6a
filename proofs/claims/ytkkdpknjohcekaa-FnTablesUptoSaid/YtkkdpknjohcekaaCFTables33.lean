/-
  Part 34 of the proof that the statement FnTables holds.
-/
import Derived.Test.YtkkdpknjohcekaaCFTables32
namespace Go.Proofs.Ytkkdpknjohcekaa
open Go.RowKit
theorem Sw {B:List (Nat×Nat×Nat)} {H:List (Nat×OB)} : ∀ {l:List AV} {K:Prop},Zv B H l K-> ∀c∈l,c.jf=true
 | [],_,_,c,hc=>by cases hc
 |d::l,K,h,c,hc=>by
  simp only [Zv] at h
  cases d with
  |Mb l'=>exact h.elim
  | «at»a=>
   rcases Bb.1 hc with rfl|hc
   ·rfl
   ·have h':Zv B H l K:=by
     cases a with
     |own k o n=>exact h.2.2
     |_=>exact h
    exact Sw h' c hc
  |Zw _ _ _=>
   rcases Bb.1 hc with rfl|hc
   ·rfl
   ·exact Sw h c hc
  |agg cs=>
   rcases Bb.1 hc with rfl|hc
   ·rfl
   ·have: ∀(cs:List AC) (Q:Prop),c6 B H cs Q->Q:=by
     intro cs
     induction cs with
     |nil=>exact λQ h=>h
     |cons a cs ih=>
      intro Q h
      have h2:c6 B H cs Q:=by
       cases a with
       |own k o n=>exact h.2.2
       |_=>exact h
      exact ih Q h2
    exact Sw (this cs _ h) c hc
theorem ke: ∀(f:List Bool) (l:List AV),(∀c∈l,c.jf=true)-> ∀c∈Sh f l,c.jf=true
 | [],l,h=>by simpa [Sh] using h
 |true::f,[],h=>by simp [Sh] at h⊢
 |false::f,[],h=>by simp [Sh] at h⊢
 |true::f,a::l,h=>by
  intro c hc
  simp only [Sh,Bb] at hc
  rcases hc with rfl|hc
  ·rfl
  ·exact ke f l (λc hc=>h c (An _ hc)) c hc
 |false::f,a::l,h=>by
  intro c hc
  simp only [Sh,Bb] at hc
  rcases hc with rfl|hc
  ·exact h c (by simp)
  ·exact ke f l (λc hc=>h c (An _ hc)) c hc
theorem KI (f:AC->AC) (H:List (Nat×OB)) (l:Nat):lenOf (H.map λp=>(p.1,p.2.map f)) l=lenOf H l:=by
 unfold lenOf
 rw [Nr]
 cases Aq H l with
 |none=>rfl
 |some b=>cases b<;>rfl
theorem BV (f g:AC->AC) (c:AV):(c.map f).map g=c.map λa=>g (f a):=by
 cases c<;>simp [AV.map]
theorem DV (f g:AC->AC) (c:OB):(c.map f).map g=c.map λa=>g (f a):=by
 cases c<;>simp [OB.map]
theorem zl (s:St) (f g:AC->AC):(s.Kh f).Kh g=s.Kh λa=>g (f a):=by
 simp [St.Kh,List.map_map,Function.comp_def,BV,DV]
theorem zb (f:AC->AC) (H:List (Nat×OB)) (l:Nat): ∀(B:List (Nat×Nat×Nat)),KG B (H.map λp=>(p.1,p.2.map f)) l=KG B H l
 | []=>KI f H l
 |(k,o,n)::r=>by simp only [KG];rw [zb f H l r]
theorem BJ (B:List (Nat×Nat×Nat)) (s:St):(s.Kh Ro).whole B=s.whole B:=by
 unfold St.whole
 rw [zl]
 congr 1
 funext a
 cases a with
 |own l off len=>simp only [Ro,dX,St.Kh,zb]
 |_=>rfl
theorem BI {B:List (Nat×Nat×Nat)} {s t:St} (h:s.Kh Ro=t.Kh Ro):s.whole B=t.whole B:=by rw [<-BJ B s,h,BJ]
theorem mJ (f:AC->AC): ∀(fx:List Bool) (a b:List AV),(Tp fx a b).map (·.map f)=Tp fx (a.map (·.map f)) (b.map (·.map f))
 | [],_,_=>by simp [Tp]
 |_::_,[],_=>by simp [Tp]
 |true::_,_::_,[]=>by simp [Tp]
 |false::_,_::_,[]=>by simp [Tp]
 |true::fx,x::a,y::b=>by simp only [Tp,Bh,mJ f fx a b]
 |false::fx,x::a,y::b=>by simp only [Tp,Bh,mJ f fx a b]
theorem qZ (f:AC->AC) (fx:List Bool) (a b:St):(St.sM fx a b).Kh f=St.sM fx (a.Kh f) (b.Kh f):=by
 simp only [St.sM,St.Kh,mJ]
theorem eM: ∀(l:List AV) {R:Type} (v:o9 l R),(Vg l v).1.length=l.length
 | [],_,_=>rfl
 |c::l,_,v=>by simp [Vg,eM l]
theorem uC (p:Nat->Bool): ∀(i:Nat) (l0 l:List AV) (t:Nat),l.length=l0.length->(l0.getD t .undef).Wh=true->p (i+t)=true->(Tp (Ju p i l0) l0 l).getD t .undef=l0.getD t .undef
 |_,[],_,t,_,h,_=>by simp [AV.Wh] at h
 |i,a::r,[],_,h,_,_=>by simp at h
 |i,a::r,b::s,0,_,h1,h2=>by
  have:(a.Wh&&p i)=true:=by
   simp only [Ag]
   exact ⟨by simpa using h1,h2⟩
  simp only [Ju,this,Tp,eb]
 |i,a::r,b::s,t+1,hl,h1,h2=>by
  have hr:=uC p (i+1) r s t (by simpa using hl) (by simpa using h1) (by rw [show i+1+t=i+(t+1) by omega];exact h2)
  simp only [Ju]
  cases (a.Wh&&p i)<;>simpa only [Tp,Mp] using hr
theorem iQ {B:List (Nat×Nat×Nat)} {H:List (Nat×OB)} {c:AC} {K:Prop} (h:vz B H c K):dX B H c=c/\K:=by
 cases c with
 |own l off len=>obtain ⟨h1,h2,h3⟩:=h;exact ⟨by rw [h1,h2];rfl,h3⟩
 |_=>exact ⟨rfl,h⟩
theorem a6 {B:List (Nat×Nat×Nat)} {H:List (Nat×OB)} : ∀ {l:List AC} {K:Prop},c6 B H l K->l.map (dX B H)=l/\K
 | [],_,h=>⟨rfl,h⟩
 |c::l,_,h=>by
  obtain ⟨h1,h2⟩:=iQ h
  obtain ⟨h3,h4⟩:=a6 h2
  exact ⟨by rw [Bh,h1,h3],h4⟩
theorem sn {B:List (Nat×Nat×Nat)} {H:List (Nat×OB)} {c:AV} {K:Prop} (h:GW B H c K):c.map (dX B H)=c/\K:=by
 cases c with
 | «at»a=>obtain ⟨h1,h2⟩:=iQ h;exact ⟨by rw [AV.map,h1],h2⟩
 |agg cs=>obtain ⟨h1,h2⟩:=a6 h;exact ⟨by rw [AV.map,h1],h2⟩
 |Zw _ _ _=>exact ⟨rfl,h⟩
 |Mb l=>exact h.elim
theorem eN {B:List (Nat×Nat×Nat)} {H:List (Nat×OB)} : ∀ {l:List AV} {K:Prop},Zv B H l K->l.map (·.map (dX B H))=l/\K
 | [],_,h=>⟨rfl,h⟩
 |c::l,_,h=>by
  obtain ⟨h1,h2⟩:=sn h
  obtain ⟨h3,h4⟩:=eN h2
  exact ⟨by rw [Bh,h1,h3],h4⟩
theorem Mm {B:List (Nat×Nat×Nat)} {H:List (Nat×OB)} : ∀ {l:List (Nat×OB)} {K:Prop},ij B H l K->l.map (λp=>(p.1,p.2.map (dX B H)))=l/\K
 | [],_,h=>⟨rfl,h⟩
 |(k, .var t vs)::l,_,h=>by
  obtain ⟨h1,h2⟩:=a6 h
  obtain ⟨h3,h4⟩:=Mm h2
  exact ⟨by rw [Bh,h3];simp only [OB.map,h1],h4⟩
 |(k, .arr a b c d e)::l,_,h=>by
  obtain ⟨h3,h4⟩:=Mm (l:=l) h
  exact ⟨by rw [Bh,h3];rfl,h4⟩
 |(k, .Gl a b c)::l,_,h=>by
  obtain ⟨h3,h4⟩:=Mm (l:=l) h
  exact ⟨by rw [Bh,h3];rfl,h4⟩
 |(k, .Bm a b c d e)::l,_,h=>by
  obtain ⟨h3,h4⟩:=Mm (l:=l) h
  exact ⟨by rw [Bh,h3];rfl,h4⟩
 |(k, .Ub a b)::l,_,h=>by
  obtain ⟨h3,h4⟩:=Mm (l:=l) h
  exact ⟨by rw [Bh,h3];rfl,h4⟩
theorem jo {B:List (Nat×Nat×Nat)} {s:St} {K:Prop} (h:xr B s K):s.whole B=s/\K:=by
 obtain ⟨h1,h2⟩:=eN h
 obtain ⟨h3,h4⟩:=Mm h2
 exact ⟨by unfold St.whole St.Kh;rw [h1,h3],h4⟩
theorem fw (live:List Nat): ∀(i:Nat) (l:List AV) (t:Nat),i+t∉live->(Hr live i l).getD t .undef= .undef
 |_,[],_,_=>rfl
 |i,v::r,0,h=>by simp [Hr];intro hn;exact absurd hn h
 |i,v::r,t+1,h=>by
  simp only [Hr,Mp]
  exact fw live (i+1) r t (by rw [show i+1+t=i+(t+1) by omega];exact h)
theorem en: ∀(l:List Nat) (st:St) (t:Nat),st.get t= .undef->(Zl l st).get t= .undef
 | [],_,_,h=>h
 |a::r,st,t,h=>en r _ t (by
  show (st.tmps.map (·.map (Cb a))).getD t .undef= .undef
  rw [Tj (Cb a) rfl,show st.tmps.getD t .undef= .undef from h]
  rfl)
theorem x9 (l k:Nat) (st:St) (t:Nat) (h:st.get t= .undef):(st.rename l k).get t= .undef:=by
 unfold St.rename
 split
 ·split
  ·show (st.tmps.map (·.map (Tq l k))).getD t .undef= .undef
   rw [Tj (Tq l k) rfl,show st.tmps.getD t .undef= .undef from h]
   rfl
  ·exact h
 ·exact h
theorem cE: ∀(n i:Nat) (st:St) (t:Nat),st.get t= .undef->(Lx n i st).get t= .undef
 |0,_,_,_,h=>h
 |n+1,i,st,t,h=>by
  simp only [Lx]
  refine cE n (i+1) _ t ?_
  split
  ·split
   ·split
    ·exact h
    ·exact x9 _ _ _ t h
   ·exact h
  ·exact h
theorem x4 (st:St) (d:Nat) (v:AV) (t:Nat) (Jg:t≠d) (h:st.get t= .undef):(st.put (some d) v).get t= .undef:=by rw [ai _ _ Jg];exact h
theorem ri (k:Nat) (st:St) (t:Nat) (h:st.get t= .undef):(az k st).get t= .undef:=by
 unfold az
 split
 ·rename_i l off len hg
  split
  ·split
   ·refine x4 _ _ _ _ (λe=>by subst e;rw [hg] at h;cases h) ?_
    show (st.tmps.map (·.map (Cb l))).getD t .undef= .undef
    rw [Tj (Cb l) rfl,show st.tmps.getD t .undef= .undef from h]
    rfl
   ·exact h
  ·exact h
 ·exact h
theorem kq (c:Nat) (st:St) (t:Nat) (h:st.get t= .undef):(Oy c st).get t= .undef:=by
 unfold Oy
 split
 ·split
  ·rename_i l off len hc
   split
   ·split
    ·split
     ·show (st.tmps.map (·.map (Cb l))).getD t .undef= .undef
      rw [Tj (Cb l) rfl,show st.tmps.getD t .undef= .undef from h]
      rfl
     ·exact h
    ·exact h
   ·exact h
  ·exact h
 ·exact h
theorem bn (live:List Nat): ∀(n i:Nat) (st:St) (t:Nat),st.get t= .undef->(On live n i st).get t= .undef
 |0,_,_,_,h=>h
 |n+1,i,st,t,h=>by
  simp only [On]
  refine bn live n (i+1) _ t ?_
  split
  ·exact kq _ _ _ h
  ·exact h
theorem eC (live:List Nat): ∀(n i:Nat) (st:St) (t:Nat),st.get t= .undef->(Nx live n i st).get t= .undef
 |0,_,st,t,h=>bn live 16 0 st t h
 |n+1,i,st,t,h=>by
  simp only [Nx]
  refine eC live n (i+1) _ t ?_
  split
  ·exact ri _ _ _ h
  ·exact h
theorem CD {live:List Nat} {st:St} {t:Nat} (h:((st.clean live).get t).Wh=true):t∈live:=by
 refine Cs λhn=>?_
 have:(st.clean live).get t= .undef:=by
  have key: ∀s:St,s.get t= .undef->(if live.contains bo then Lx s.tmps.length 0 s else s).get t= .undef:=by
   intro s hs
   split
   ·exact cE _ _ s t hs
   ·exact hs
  unfold St.clean
  have QL: ∀s:St,s.get t= .undef->(if live.any (λt=>Nat.ble Sm t) then s.Io live else s).get t= .undef:=by
   intro s hs
   split<;>exact hs
  have QM: ∀s:St,s.get t= .undef->(if live.any (λt=>Nat.ble aA t&&Nat.blt t bo) then Nx live s.tmps.length 0 s else s).get t= .undef:=by
   intro s hs
   split
   ·exact eC _ _ _ s t hs
   ·exact hs
  refine QL _ (key _ (QM _ (en _ _ t ?_)))
  exact fw live 0 st.tmps t (by simpa using hn)
 rw [this] at h
 cases h
theorem qA {c:AV} (h:c.Wh=true): ∃fr τ,∃x:τ.den,c= .at (.data fr τ x):=by
 unfold AV.Wh at h
 split at h
 ·exact ⟨_,_,_,rfl⟩
 ·cases h
theorem MJ {live:Nat->List Nat} {c:Code} {t:Nat} (h:stays live c t=true):t∉writes c/\an live c t=true:=by
 unfold stays at h
 simpa using h
section
variable {T:Tab} {Γ:Env} {live:Nat->List Nat}
theorem Ni.keeps {c:Code} {st:St} {Q:Kx->St->Prop} (h:Ni T Γ live c st Q):Ni T Γ live c st (λe s=>Q e s/\Fb (λt=>t∉writes c/\an live c t=true) st s):=by
 exact FA h st _ By.rfl'.on λt ht=>ht
def wsQ (Q:Kx->WS->Prop) (e:Kx) (s:St):Prop:= ∃w':WS,w'.st=s/\w'.OK/\Q e w'
theorem zi {c:Code} (ih: ∀(w:WS) (Q:Kx->WS->Prop),w.OK->c9 T Γ live c w Q->Ni T Γ live c w.st (wsQ Q)) {w:WS} {Q:Kx->WS->Prop} (h:c9 T Γ live (.loop c) w Q):
  Ni T Γ live (.loop c) w.st (wsQ Q):=by
 simp only [c9,JO,de] at h
 obtain ⟨hw0,I,μ,h0,hs⟩:=jo h
 have Aq: ∀(t:Nat),((w.st.clean (live (Eo c))).get t).Wh=true->stays live c t=true-> ∀v,((St.sM (Ju (stays live c) 0 (w.st.clean (live (Eo c))).tmps) (w.st.clean (live (Eo c))) (gR ((w.st.clean (live (Eo c))).mask (Ju (stays live c) 0 (w.st.clean (live (Eo c))).tmps)) v)).whole (Yd T.parts (w.st.clean (live (Eo c))).tmps)).get t=(w.st.clean (live (Eo c))).get t:=by
  intro t h1 h2 v
  have h3:=uC (stays live c) 0 (w.st.clean (live (Eo c))).tmps (gR ((w.st.clean (live (Eo c))).mask (Ju (stays live c) 0 (w.st.clean (live (Eo c))).tmps)) v).tmps t
   ((eM _ _).trans (dt _ _)) h1 (by simpa using h2)
  obtain ⟨fr,τ,x,hx⟩:=qA h1
  refine (Ok _ _ rfl λ_ _ _=>rfl) t fr τ x ?_|>.trans hx.symm
  exact h3.trans hx
 have XY: ∀(s1:St),(∀t,((w.st.clean (live (Eo c))).get t).Wh=true->stays live c t=true->s1.get t=(w.st.clean (live (Eo c))).get t)->s1.whole (Yd T.parts (w.st.clean (live (Eo c))).tmps)=s1-> ∀v,gS ((w.st.clean (live (Eo c))).mask (Ju (stays live c) 0 (w.st.clean (live (Eo c))).tmps)) (s1.mask (Ju (stays live c) 0 (w.st.clean (live (Eo c))).tmps))=some v->
   s1=(St.sM (Ju (stays live c) 0 (w.st.clean (live (Eo c))).tmps) (w.st.clean (live (Eo c))) (gR ((w.st.clean (live (Eo c))).mask (Ju (stays live c) 0 (w.st.clean (live (Eo c))).tmps)) v)).whole (Yd T.parts (w.st.clean (live (Eo c))).tmps):=by
  intro s1 hf hwh v hv
  have h1:=gT hv
  have h2:St.sM (Ju (stays live c) 0 (w.st.clean (live (Eo c))).tmps) (w.st.clean (live (Eo c))) (s1.mask (Ju (stays live c) 0 (w.st.clean (live (Eo c))).tmps))=s1:=by
   simp only [St.sM,St.mask]
   rw [ki (stays live c) 0 (w.st.clean (live (Eo c))).tmps s1.tmps λt h3 h4=>hf t h3 (by simpa using h4)]
  have h3:(St.sM (Ju (stays live c) 0 (w.st.clean (live (Eo c))).tmps) (w.st.clean (live (Eo c))) (gR ((w.st.clean (live (Eo c))).mask (Ju (stays live c) 0 (w.st.clean (live (Eo c))).tmps)) v)).whole (Yd T.parts (w.st.clean (live (Eo c))).tmps)=s1.whole (Yd T.parts (w.st.clean (live (Eo c))).tmps):=by
   refine BI ?_
   rw [qZ,h1,<-qZ,h2]
  rw [h3,hwh]
 refine LS (λv=>(St.sM (Ju (stays live c) 0 (w.st.clean (live (Eo c))).tmps) (w.st.clean (live (Eo c))) (gR ((w.st.clean (live (Eo c))).mask (Ju (stays live c) 0 (w.st.clean (live (Eo c))).tmps)) v)).whole (Yd T.parts (w.st.clean (live (Eo c))).tmps)) I μ _ h0 (XY _ (λ_ _ _=>rfl) hw0 _ (o5 _ (ke _ _ (Sw h)))) ?_
 intro a ha
 refine (Ni.keeps (ih ⟨[],_⟩ _ (λt b h=>by cases h) (hs a ha))).mono ?_
 intro e s hQ
 obtain ⟨⟨w',h1,h2,h3⟩,hk⟩:=hQ
 subst h1
 cases e with
 |normal=>
  obtain ⟨h4,h5⟩:=jo h3
  obtain ⟨v',h6,h7,h8⟩:=Bq.1 h5
  refine ⟨v',XY _ (λt hd ht=>?_) h4 _ h6,h7,h8⟩
  obtain ⟨fr,τ,x,hx⟩:=qA hd
  rw [hx]
  exact ja (live (Eo c)) w'.st t fr τ x (CD hd) (hk t fr τ x (MJ ht) (by rw [Aq t hd ht a];exact hx))
 |exit id=>exact ⟨w',rfl,h2,h3⟩
 |ret=>exact ⟨w',rfl,h2,h3⟩
theorem nA: ∀(c:Code) (w:WS) (Q:Kx->WS->Prop),w.OK->c9 T Γ live c w Q->Ni T Γ live c w.st (wsQ Q):=by
 intro c
 induction c with
 |skip=>intro w Q hw h;exact .skip ⟨w,rfl,hw,h⟩
 |label _=>intro w Q hw h;exact .label ⟨w,rfl,hw,h⟩
 |exit _=>intro w Q hw h;exact .exit ⟨w,rfl,hw,h⟩
 |ret=>intro w Q hw h;exact .ret ⟨w,rfl,hw,h⟩
 |region id ops draw=>
  intro w Q hw h
  have hw':WS.OK {w with st:=w.st.kQ ops} := λt b ht=>by
   obtain ⟨fr,e⟩:=hw t b ht
   exact ⟨fr,jb ops w.st t fr .bool b e⟩
  exact .region ((sX hw' h).mono λs ⟨w',h1,h2,h3⟩=>⟨w',h1,h2,Nd.1 h3⟩)
 |seq x y ihx ihy=>
  intro w Q hw h
  refine SF ((ihx w _ hw h).mono λe s hQ=>?_)
  obtain ⟨w',h1,h2,h3⟩:=hQ
  subst h1
  cases e with
  |normal=>exact ihy w' Q h2 h3
  |exit id=>exact ⟨w',rfl,h2,h3⟩
  |ret=>exact ⟨w',rfl,h2,h3⟩
 |cond c x y ihx ihy=>
  intro w Q hw h
  obtain ⟨fr,b,w',h1,h2,h3,h4⟩:=tS hw h
  refine LR h1 (λhb=>?_) (λhb=>?_)
  ·subst hb;rw [<-h2];exact ihx w' Q h3 h4
  ·subst hb;rw [<-h2];exact ihy w' Q h3 h4
 |block id c ih=>
  intro w Q hw h
  refine EZ ((ih w _ hw h).mono λe s hQ=>?_)
  obtain ⟨w',h1,h2,h3⟩:=hQ
  subst h1
  cases e with
  |normal=>exact ⟨w',rfl,h2,h3⟩
  |ret=>exact ⟨w',rfl,h2,h3⟩
  |exit KC=>
   simp only at h3
   simp only [ue]
   split at h3
   ·rename_i hi;rw [Ab hi];exact ⟨w',rfl,h2,h3⟩
   ·rename_i hi;rw [Al hi];exact ⟨w',rfl,h2,h3⟩
 |loop c ih=>intro w Q hw h;exact zi ih h
 |_=>intro w Q hw h;exact absurd h (by simp [c9])
theorem pZ {s:Spec} {fn:Func} {P:s.res.den->Prop} {st:St} (h:ZG T s fn P st): ∃fr y,l5 T s fn st=some (fr,y)/\(fr||!s.fresh)=true/\P y:=by
 obtain ⟨p,h1,h2⟩:=Bq.1 h
 split at h2
 ·rename_i hf;exact ⟨p.1,p.2,h1,hf,h2⟩
 ·cases h2
theorem JN {s:Spec} {fn:Func} {x:s.arg.den} {P:s.res.den->Prop} (h:fnW T Γ s fn x P):NX T Γ s fn x P:=by
 unfold fnW at h
 obtain ⟨c,h1,h2⟩:=Bq.1 h
 refine ⟨c,h1,(nA c _ _ (λt b h=>by cases h) h2).mono λe st ⟨w,h4,h5,h6⟩=>?_⟩
 subst h4
 cases e with
 |normal=>exact ⟨λid hh=>(by cases hh),pZ h6⟩
 |ret=>exact ⟨λid hh=>(by cases hh),pZ h6⟩
 |exit id=>cases h6
theorem bf {st:St} {K:Prop} : ∀(vs:List AC) (cs:List (Bool×CK)),gh st K vs cs->gg st vs cs/\K
 | [],cs,h=>⟨by simp [gg],by simpa [gh] using h⟩
 |a::vs,[],h=>⟨by cases a<;>simp [gg],by cases a<;>simpa [gh] using h⟩
 |a::vs,(false,c)::r,h=>by
  have h:gh st K vs r:=by cases a<;>simpa only [gh] using h
  obtain ⟨h1,h2⟩:=bf vs r h
  exact ⟨by cases a<;>simpa only [gg] using h1,h2⟩
 |a::vs,(true,c)::r,h=>by
  cases a with
  |own l off len=>
   simp only [gh] at h
   split at h
   ·rename_i hl
    obtain ⟨h1,h2⟩:=bf vs r h.2
    refine ⟨?_,h2⟩
    simp only [gg,hl]
    exact ⟨h.1,h1⟩
   ·rename_i hl
    obtain ⟨h1,h2⟩:=bf vs r h.2
    refine ⟨?_,h2⟩
    simp only [gg,hl]
    exact ⟨h.1,h1⟩
   ·exact h.elim
  |_=>exact ⟨by simp [gg],by simpa [gh] using h⟩
theorem dw {st:St} : ∀(cs:List CK) (as:List AC) (K:CKs.den cs->List Nat->Prop),mI st cs as K-> ∃x ls,To st cs as=some (x,ls)/\K x ls
 | [],[],K,h=>⟨(),[],rfl,h⟩
 | [],_::_,_,h=>h.elim
 |c::r,[],K,h=>by cases c<;>exact h.elim
 |c::r,a::as,K,h=>by
  have sK:Hc (iL st c a) (λp=>mI st r as λy t=>K (p.1,y) (p.2++t))-> ∃x ls,To st (c::r) (a::as)=some (x,ls)/\K x ls:= λh=>by
   obtain ⟨p,h1,h2⟩:=Bq.1 h
   obtain ⟨y,t,h3,h4⟩:=dw r as _ h2
   exact ⟨_,_,by simp only [To,h1,h3],h4⟩
  cases c with
  |Bm e te kp=>
   cases a with
   |own l off len=>
    simp only [mI] at h
    split at h
    ·rename_i hl
     split at h
     ·rename_i hc
      obtain ⟨⟨h1,h2⟩,h⟩:=h
      obtain ⟨y,t,h3,h4⟩:=dw r as _ h
      exact ⟨_,_,by simp only [To,iL,hl];rw [Ik ⟨hc.1,hc.2,h1,h2⟩];simp only [h3];rfl,h4⟩
     ·exact h.elim
    ·exact h.elim
   |_=>exact sK h
  |_=>exact sK h
theorem lu {st:St} {n:Nat} {as:List AC} {K:Prop} : ∀(ks:List (Nat×Nat)),wu st n as ks K->uk st n as ks/\K
 | [],h=>⟨trivial,h⟩
 |(k,j)::r,h=>by
  simp only [wu] at h
  split at h
  ·rename_i l off len ha
   split at h
   ·rename_i p hl
    split at h
    ·rename_i hc
     simp only [Ag] at hc
     obtain ⟨h1,h2⟩:=lu r h.2
     refine ⟨?_,h2⟩
     simp only [uk,ha,hl]
     exact ⟨⟨Jc hc.1,h.1,hc.2⟩,h1⟩
    ·exact h.elim
   ·exact h.elim
  ·exact h.elim
theorem gJ {s:MSpec} {fn:Func} {x:Ins.den s.ins} {st:St} {cs:List AC} {P:CKs.den s.outs×IOs.den s.ins->Prop} (h:rq T s fn x st cs P):iB T s fn x st cs P:=by
 obtain ⟨l,h1,h⟩:=Bq.1 h
 obtain ⟨⟨as,ml⟩,h2,h⟩:=Bq.1 h
 obtain ⟨r,ls,h3,h⟩:=dw _ _ _ h
 obtain ⟨o,h4,h⟩:=Bq.1 h
 split at h
 ·rename_i hc
  obtain ⟨h5,h6⟩:=lu _ h
  unfold iB
  simp only [h1,h2,h3,h4]
  exact ⟨hc,h5,h6⟩
 ·exact h.elim
theorem o0 {s:MSpec} {fn:Func} {x:Ins.den s.ins} {st:St} {P:CKs.den s.outs×IOs.den s.ins->Prop} (h:IJ T s fn x st P):NW T s fn x st P:=by
 unfold IJ at h
 unfold NW
 cases hp:s.ptr with
 |none=>rw [hp] at h;exact gJ h
 |some p=>
  rw [hp] at h
  simp only at h⊢
  split at h
  ·rename_i tid vs hl
   split at h
   ·rename_i hc
    simp only [Ag] at hc
    obtain ⟨h1,h2⟩:=hc
    have h1:tid=p.1:=Jc h1
    have h2:=Jc h2
    subst h1
    obtain ⟨cs,h3,h4⟩:=Bq.1 h
    obtain ⟨h5,h6⟩:=bf vs s.ins h4
    exact ⟨vs,cs,hl,h2,h3,h5,gJ h6⟩
   ·exact h.elim
  ·exact h.elim
theorem CP {s:MSpec} {fn:Func} {x:Ins.den s.ins} {P:CKs.den s.outs×IOs.den s.ins->Prop} (h:fnMW T Γ s fn x P):WY T Γ s fn x P:=by
 unfold fnMW at h
 split at h
 ·cases h
 rename_i hlen
 obtain ⟨c,h1,h2⟩:=Bq.1 h
 refine ⟨hlen,c,h1,(nA c _ _ (λt b h=>by cases h) h2).mono λe st ⟨w,h4,h5,h6⟩=>?_⟩
 subst h4
 cases e with
 |normal=>exact ⟨λid hh=>(by cases hh),o0 h6⟩
 |ret=>exact ⟨λid hh=>(by cases hh),o0 h6⟩
 |exit id=>cases h6
theorem Dx.ofW {P:Program} (hT:Ed P T) (Nt:Kd P Γ) (hm:P.follows .mixedOrders=true) {f:FuncId} {fn:Func} (hf:P.funcs[f]?=some fn) (hn:(fn.name== "runtime.NumGoroutine")=false)
  (hb:fn.body.isNone=false) (s:MSpec) (h: ∀x y,s.fn x=some y->fnMW T Γ s fn x (λz=>z=y)):Dx P f s:=
 ⟨fu hf hn hb,λw S π us x r o g vs h1 hg h2 h3 hS h4 h5=>ss hT Nt hm hf s w S π us x r o g vs h1 hg h2 h3 hS h4 (CP (h x (r,o) h5))⟩
theorem Sound.ofW {P:Program} (hT:Ed P T) (Nt:Kd P Γ) (hm:P.follows .mixedOrders=true) {f:FuncId} {fn:Func} (hf:P.funcs[f]?=some fn) (hn:(fn.name== "runtime.NumGoroutine")=false)
  (hb:fn.body.isNone=false) (s:Spec) (h: ∀x y,s.fn x=some y->fnW T Γ s fn x (λz=>z=y)):Sound P f s:=
 SH hT Nt hm hf hn hb s λx y hx=>JN (h x y hx)
end
end Go.Proofs.Ytkkdpknjohcekaa
