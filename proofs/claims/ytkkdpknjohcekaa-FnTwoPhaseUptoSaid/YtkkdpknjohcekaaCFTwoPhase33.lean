/-
  Part 34 of the proof that the statement FnTwoPhase holds.
-/
import Derived.Test.YtkkdpknjohcekaaCFTwoPhase32
namespace Go.Proofs.Ytkkdpknjohcekaa
open Go.RowKit
theorem Uy {B:List (Nat×Nat×Nat)} {H:List (Nat×OB)} : ∀ {l:List AV} {K:Prop},bA B H l K-> ∀c∈l,c.lz=true
 | [],_,_,c,hc=>by cases hc
 |d::l,K,h,c,hc=>by
  simp only [bA] at h
  cases d with
  |Nd l'=>exact h.elim
  | «at»a=>
   rcases Bb.1 hc with rfl|hc
   ·rfl
   ·have h':bA B H l K:=by
     cases a with
     |own k o n=>exact h.2.2
     |_=>exact h
    exact Uy h' c hc
  |bB _ _ _=>
   rcases Bb.1 hc with rfl|hc
   ·rfl
   ·exact Uy h c hc
  |agg cs=>
   rcases Bb.1 hc with rfl|hc
   ·rfl
   ·have: ∀(cs:List AC) (Q:Prop),dT B H cs Q->Q:=by
     intro cs
     induction cs with
     |nil=>exact λQ h=>h
     |cons a cs ih=>
      intro Q h
      have h2:dT B H cs Q:=by
       cases a with
       |own k o n=>exact h.2.2
       |_=>exact h
      exact ih Q h2
    exact Uy (this cs _ h) c hc
theorem mz: ∀(f:List Bool) (l:List AV),(∀c∈l,c.lz=true)-> ∀c∈Uf f l,c.lz=true
 | [],l,h=>by simpa [Uf] using h
 |true::f,[],h=>by simp [Uf] at h⊢
 |false::f,[],h=>by simp [Uf] at h⊢
 |true::f,a::l,h=>by
  intro c hc
  simp only [Uf,Bb] at hc
  rcases hc with rfl|hc
  ·rfl
  ·exact mz f l (λc hc=>h c (As _ hc)) c hc
 |false::f,a::l,h=>by
  intro c hc
  simp only [Uf,Bb] at hc
  rcases hc with rfl|hc
  ·exact h c (by simp)
  ·exact mz f l (λc hc=>h c (As _ hc)) c hc
theorem UD (f:AC->AC) (H:List (Nat×OB)) (l:Nat):lenOf (H.map λp=>(p.1,p.2.map f)) l=lenOf H l:=by
 unfold lenOf
 rw [Pk]
 cases Ay H l with
 |none=>rfl
 |some b=>cases b<;>rfl
theorem KH (f g:AC->AC) (c:AV):(c.map f).map g=c.map λa=>g (f a):=by
 cases c<;>simp [AV.map]
theorem MV (f g:AC->AC) (c:OB):(c.map f).map g=c.map λa=>g (f a):=by
 cases c<;>simp [OB.map]
theorem GJ (s:St) (f g:AC->AC):(s.Ln f).Ln g=s.Ln λa=>g (f a):=by
 simp [St.Ln,List.map_map,Function.comp_def,KH,MV]
theorem FU (f:AC->AC) (H:List (Nat×OB)) (l:Nat): ∀(B:List (Nat×Nat×Nat)),UB B (H.map λp=>(p.1,p.2.map f)) l=UB B H l
 | []=>UD f H l
 |(k,o,n)::r=>by simp only [UB];rw [FU f H l r]
theorem JN (B:List (Nat×Nat×Nat)) (s:St):(s.Ln Tk).whole B=s.whole B:=by
 unfold St.whole
 rw [GJ]
 congr 1
 funext a
 cases a with
 |own l off len=>simp only [Tk,gw,St.Ln,FU]
 |_=>rfl
theorem JL {B:List (Nat×Nat×Nat)} {s t:St} (h:s.Ln Tk=t.Ln Tk):s.whole B=t.whole B:=by rw [<-JN B s,h,JN]
theorem pE (f:AC->AC): ∀(fx:List Bool) (a b:List AV),(Vs fx a b).map (·.map f)=Vs fx (a.map (·.map f)) (b.map (·.map f))
 | [],_,_=>by simp [Vs]
 |_::_,[],_=>by simp [Vs]
 |true::_,_::_,[]=>by simp [Vs]
 |false::_,_::_,[]=>by simp [Vs]
 |true::fx,x::a,y::b=>by simp only [Vs,Ca,pE f fx a b]
 |false::fx,x::a,y::b=>by simp only [Vs,Ca,pE f fx a b]
theorem ug (f:AC->AC) (fx:List Bool) (a b:St):(St.wg fx a b).Ln f=St.wg fx (a.Ln f) (b.Ln f):=by
 simp only [St.wg,St.Ln,pE]
theorem gX: ∀(l:List AV) {R:Type} (v:re l R),(Xg l v).1.length=l.length
 | [],_,_=>rfl
 |c::l,_,v=>by simp [Xg,gX l]
theorem xV (p:Nat->Bool): ∀(i:Nat) (l0 l:List AV) (t:Nat),l.length=l0.length->(l0.getD t .undef).Ym=true->p (i+t)=true->(Vs (Kv p i l0) l0 l).getD t .undef=l0.getD t .undef
 |_,[],_,t,_,h,_=>by simp [AV.Ym] at h
 |i,a::r,[],_,h,_,_=>by simp at h
 |i,a::r,b::s,0,_,h1,h2=>by
  have:(a.Ym&&p i)=true:=by
   simp only [Aj]
   exact ⟨by simpa using h1,h2⟩
  simp only [Kv,this,Vs,Xx]
 |i,a::r,b::s,t+1,hl,h1,h2=>by
  have hr:=xV p (i+1) r s t (by simpa using hl) (by simpa using h1) (by rw [show i+1+t=i+(t+1) by omega];exact h2)
  simp only [Kv]
  cases (a.Ym&&p i)<;>simpa only [Vs,Nv] using hr
theorem kW {B:List (Nat×Nat×Nat)} {H:List (Nat×OB)} {c:AC} {K:Prop} (h:yK B H c K):gw B H c=c/\K:=by
 cases c with
 |own l off len=>obtain ⟨h1,h2,h3⟩:=h;exact ⟨by rw [h1,h2];rfl,h3⟩
 |_=>exact ⟨rfl,h⟩
theorem bI {B:List (Nat×Nat×Nat)} {H:List (Nat×OB)} : ∀ {l:List AC} {K:Prop},dT B H l K->l.map (gw B H)=l/\K
 | [],_,h=>⟨rfl,h⟩
 |c::l,_,h=>by
  obtain ⟨h1,h2⟩:=kW h
  obtain ⟨h3,h4⟩:=bI h2
  exact ⟨by rw [Ca,h1,h3],h4⟩
theorem vL {B:List (Nat×Nat×Nat)} {H:List (Nat×OB)} {c:AV} {K:Prop} (h:QB B H c K):c.map (gw B H)=c/\K:=by
 cases c with
 | «at»a=>obtain ⟨h1,h2⟩:=kW h;exact ⟨by rw [AV.map,h1],h2⟩
 |agg cs=>obtain ⟨h1,h2⟩:=bI h;exact ⟨by rw [AV.map,h1],h2⟩
 |bB _ _ _=>exact ⟨rfl,h⟩
 |Nd l=>exact h.elim
theorem gY {B:List (Nat×Nat×Nat)} {H:List (Nat×OB)} : ∀ {l:List AV} {K:Prop},bA B H l K->l.map (·.map (gw B H))=l/\K
 | [],_,h=>⟨rfl,h⟩
 |c::l,_,h=>by
  obtain ⟨h1,h2⟩:=vL h
  obtain ⟨h3,h4⟩:=gY h2
  exact ⟨by rw [Ca,h1,h3],h4⟩
theorem Nt {B:List (Nat×Nat×Nat)} {H:List (Nat×OB)} : ∀ {l:List (Nat×OB)} {K:Prop},ki B H l K->l.map (λp=>(p.1,p.2.map (gw B H)))=l/\K
 | [],_,h=>⟨rfl,h⟩
 |(k, .var t vs)::l,_,h=>by
  obtain ⟨h1,h2⟩:=bI h
  obtain ⟨h3,h4⟩:=Nt h2
  exact ⟨by rw [Ca,h3];simp only [OB.map,h1],h4⟩
 |(k, .arr a b c d e)::l,_,h=>by
  obtain ⟨h3,h4⟩:=Nt (l:=l) h
  exact ⟨by rw [Ca,h3];rfl,h4⟩
 |(k, .Hc a b c)::l,_,h=>by
  obtain ⟨h3,h4⟩:=Nt (l:=l) h
  exact ⟨by rw [Ca,h3];rfl,h4⟩
 |(k, .Bu a b c d e)::l,_,h=>by
  obtain ⟨h3,h4⟩:=Nt (l:=l) h
  exact ⟨by rw [Ca,h3];rfl,h4⟩
 |(k, .Wb a b)::l,_,h=>by
  obtain ⟨h3,h4⟩:=Nt (l:=l) h
  exact ⟨by rw [Ca,h3];rfl,h4⟩
theorem lF {B:List (Nat×Nat×Nat)} {s:St} {K:Prop} (h:BL B s K):s.whole B=s/\K:=by
 obtain ⟨h1,h2⟩:=gY h
 obtain ⟨h3,h4⟩:=Nt h2
 exact ⟨by unfold St.whole St.Ln;rw [h1,h3],h4⟩
theorem iF (live:List Nat): ∀(i:Nat) (l:List AV) (t:Nat),i+t∉live->(It live i l).getD t .undef= .undef
 |_,[],_,_=>rfl
 |i,v::r,0,h=>by simp [It];intro hn;exact absurd hn h
 |i,v::r,t+1,h=>by
  simp only [It,Nv]
  exact iF live (i+1) r t (by rw [show i+1+t=i+(t+1) by omega];exact h)
theorem gH: ∀(l:List Nat) (st:St) (t:Nat),st.get t= .undef->(bp l st).get t= .undef
 | [],_,_,h=>h
 |a::r,st,t,h=>gH r _ t (by
  show (st.tmps.map (·.map (Cv a))).getD t .undef= .undef
  rw [Vm (Cv a) rfl,show st.tmps.getD t .undef= .undef from h]
  rfl)
theorem AP (l k:Nat) (st:St) (t:Nat) (h:st.get t= .undef):(st.rename l k).get t= .undef:=by
 unfold St.rename
 split
 ·split
  ·show (st.tmps.map (·.map (Vt l k))).getD t .undef= .undef
   rw [Vm (Vt l k) rfl,show st.tmps.getD t .undef= .undef from h]
   rfl
  ·exact h
 ·exact h
theorem eG: ∀(n i:Nat) (st:St) (t:Nat),st.get t= .undef->(Na n i st).get t= .undef
 |0,_,_,_,h=>h
 |n+1,i,st,t,h=>by
  simp only [Na]
  refine eG n (i+1) _ t ?_
  split
  ·split
   ·split
    ·exact h
    ·exact AP _ _ _ t h
   ·exact h
  ·exact h
theorem AK (st:St) (d:Nat) (v:AV) (t:Nat) (Ip:t≠d) (h:st.get t= .undef):(st.put (some d) v).get t= .undef:=by rw [bS _ _ Ip];exact h
theorem ur (k:Nat) (st:St) (t:Nat) (h:st.get t= .undef):(cd k st).get t= .undef:=by
 unfold cd
 split
 ·rename_i l off len hg
  split
  ·split
   ·refine AK _ _ _ _ (λe=>by subst e;rw [hg] at h;cases h) ?_
    show (st.tmps.map (·.map (Cv l))).getD t .undef= .undef
    rw [Vm (Cv l) rfl,show st.tmps.getD t .undef= .undef from h]
    rfl
   ·exact h
  ·exact h
 ·exact h
theorem mH (c:Nat) (st:St) (t:Nat) (h:st.get t= .undef):(Qc c st).get t= .undef:=by
 unfold Qc
 split
 ·split
  ·rename_i l off len hc
   split
   ·split
    ·split
     ·show (st.tmps.map (·.map (Cv l))).getD t .undef= .undef
      rw [Vm (Cv l) rfl,show st.tmps.getD t .undef= .undef from h]
      rfl
     ·exact h
    ·exact h
   ·exact h
  ·exact h
 ·exact h
theorem cY (live:List Nat): ∀(n i:Nat) (st:St) (t:Nat),st.get t= .undef->(Pw live n i st).get t= .undef
 |0,_,_,_,h=>h
 |n+1,i,st,t,h=>by
  simp only [Pw]
  refine cY live n (i+1) _ t ?_
  split
  ·exact mH _ _ _ h
  ·exact h
theorem gO (live:List Nat): ∀(n i:Nat) (st:St) (t:Nat),st.get t= .undef->(Pn live n i st).get t= .undef
 |0,_,st,t,h=>cY live 16 0 st t h
 |n+1,i,st,t,h=>by
  simp only [Pn]
  refine gO live n (i+1) _ t ?_
  split
  ·exact ur _ _ _ h
  ·exact h
theorem KU {live:List Nat} {st:St} {t:Nat} (h:((st.clean live).get t).Ym=true):t∈live:=by
 refine Bs λhn=>?_
 have:(st.clean live).get t= .undef:=by
  have key: ∀s:St,s.get t= .undef->(if live.contains cZ then Na s.tmps.length 0 s else s).get t= .undef:=by
   intro s hs
   split
   ·exact eG _ _ s t hs
   ·exact hs
  unfold St.clean
  have Aai: ∀s:St,s.get t= .undef->(if live.any (λt=>Nat.ble Um t) then s.Jh live else s).get t= .undef:=by
   intro s hs
   split<;>exact hs
  have Aaj: ∀s:St,s.get t= .undef->(if live.any (λt=>Nat.ble Mz t&&Nat.blt t cZ) then Pn live s.tmps.length 0 s else s).get t= .undef:=by
   intro s hs
   split
   ·exact gO _ _ _ s t hs
   ·exact hs
  refine Aai _ (key _ (Aaj _ (gH _ _ t ?_)))
  exact iF live 0 st.tmps t (by simpa using hn)
 rw [this] at h
 cases h
theorem tH {c:AV} (h:c.Ym=true): ∃fr τ,∃x:τ.den,c= .at (.data fr τ x):=by
 unfold AV.Ym at h
 split at h
 ·exact ⟨_,_,_,rfl⟩
 ·cases h
theorem WB {live:Nat->List Nat} {c:Code} {t:Nat} (h:stays live c t=true):t∉writes c/\bZ live c t=true:=by
 unfold stays at h
 simpa using h
section
variable {T:Tab} {Γ:Env} {live:Nat->List Nat}
theorem Oy.keeps {c:Code} {st:St} {Q:Md->St->Prop} (h:Oy T Γ live c st Q):Oy T Γ live c st (λe s=>Q e s/\Gd (λt=>t∉writes c/\bZ live c t=true) st s):=by
 exact OA h st _ Cr.rfl'.on λt ht=>ht
def wsQ (Q:Md->WS->Prop) (e:Md) (s:St):Prop:= ∃w':WS,w'.st=s/\w'.OK/\Q e w'
theorem GC {c:Code} (ih: ∀(w:WS) (Q:Md->WS->Prop),w.OK->dX T Γ live c w Q->Oy T Γ live c w.st (wsQ Q)) {w:WS} {Q:Md->WS->Prop} (h:dX T Γ live (.loop c) w Q):
  Oy T Γ live (.loop c) w.st (wsQ Q):=by
 simp only [dX,TM,fu] at h
 obtain ⟨hw0,I,μ,h0,hs⟩:=lF h
 have Ay: ∀(t:Nat),((w.st.clean (live (Fo c))).get t).Ym=true->stays live c t=true-> ∀v,((St.wg (Kv (stays live c) 0 (w.st.clean (live (Fo c))).tmps) (w.st.clean (live (Fo c))) (jI ((w.st.clean (live (Fo c))).mask (Kv (stays live c) 0 (w.st.clean (live (Fo c))).tmps)) v)).whole (an T.parts (w.st.clean (live (Fo c))).tmps)).get t=(w.st.clean (live (Fo c))).get t:=by
  intro t h1 h2 v
  have h3:=xV (stays live c) 0 (w.st.clean (live (Fo c))).tmps (jI ((w.st.clean (live (Fo c))).mask (Kv (stays live c) 0 (w.st.clean (live (Fo c))).tmps)) v).tmps t
   ((gX _ _).trans (fH _ _)) h1 (by simpa using h2)
  obtain ⟨fr,τ,x,hx⟩:=tH h1
  refine (Pu _ _ rfl λ_ _ _=>rfl) t fr τ x ?_|>.trans hx.symm
  exact h3.trans hx
 have hmk: ∀(s1:St),(∀t,((w.st.clean (live (Fo c))).get t).Ym=true->stays live c t=true->s1.get t=(w.st.clean (live (Fo c))).get t)->s1.whole (an T.parts (w.st.clean (live (Fo c))).tmps)=s1-> ∀v,jJ ((w.st.clean (live (Fo c))).mask (Kv (stays live c) 0 (w.st.clean (live (Fo c))).tmps)) (s1.mask (Kv (stays live c) 0 (w.st.clean (live (Fo c))).tmps))=some v->
   s1=(St.wg (Kv (stays live c) 0 (w.st.clean (live (Fo c))).tmps) (w.st.clean (live (Fo c))) (jI ((w.st.clean (live (Fo c))).mask (Kv (stays live c) 0 (w.st.clean (live (Fo c))).tmps)) v)).whole (an T.parts (w.st.clean (live (Fo c))).tmps):=by
  intro s1 hf hwh v hv
  have h1:=jK hv
  have h2:St.wg (Kv (stays live c) 0 (w.st.clean (live (Fo c))).tmps) (w.st.clean (live (Fo c))) (s1.mask (Kv (stays live c) 0 (w.st.clean (live (Fo c))).tmps))=s1:=by
   simp only [St.wg,St.mask]
   rw [mE (stays live c) 0 (w.st.clean (live (Fo c))).tmps s1.tmps λt h3 h4=>hf t h3 (by simpa using h4)]
  have h3:(St.wg (Kv (stays live c) 0 (w.st.clean (live (Fo c))).tmps) (w.st.clean (live (Fo c))) (jI ((w.st.clean (live (Fo c))).mask (Kv (stays live c) 0 (w.st.clean (live (Fo c))).tmps)) v)).whole (an T.parts (w.st.clean (live (Fo c))).tmps)=s1.whole (an T.parts (w.st.clean (live (Fo c))).tmps):=by
   refine JL ?_
   rw [ug,h1,<-ug,h2]
  rw [h3,hwh]
 refine VM (λv=>(St.wg (Kv (stays live c) 0 (w.st.clean (live (Fo c))).tmps) (w.st.clean (live (Fo c))) (jI ((w.st.clean (live (Fo c))).mask (Kv (stays live c) 0 (w.st.clean (live (Fo c))).tmps)) v)).whole (an T.parts (w.st.clean (live (Fo c))).tmps)) I μ _ h0 (hmk _ (λ_ _ _=>rfl) hw0 _ (r6 _ (mz _ _ (Uy h)))) ?_
 intro a ha
 refine (Oy.keeps (ih ⟨[],_⟩ _ (λt b h=>by cases h) (hs a ha))).mono ?_
 intro e s hQ
 obtain ⟨⟨w',h1,h2,h3⟩,hk⟩:=hQ
 subst h1
 cases e with
 |normal=>
  obtain ⟨h4,h5⟩:=lF h3
  obtain ⟨v',h6,h7,h8⟩:=Ch.1 h5
  refine ⟨v',hmk _ (λt hd ht=>?_) h4 _ h6,h7,h8⟩
  obtain ⟨fr,τ,x,hx⟩:=tH hd
  rw [hx]
  exact lu (live (Fo c)) w'.st t fr τ x (KU hd) (hk t fr τ x (WB ht) (by rw [Ay t hd ht a];exact hx))
 |exit id=>exact ⟨w',rfl,h2,h3⟩
 |ret=>exact ⟨w',rfl,h2,h3⟩
theorem qi: ∀(c:Code) (w:WS) (Q:Md->WS->Prop),w.OK->dX T Γ live c w Q->Oy T Γ live c w.st (wsQ Q):=by
 intro c
 induction c with
 |skip=>intro w Q hw h;exact .skip ⟨w,rfl,hw,h⟩
 |label _=>intro w Q hw h;exact .label ⟨w,rfl,hw,h⟩
 |exit _=>intro w Q hw h;exact .exit ⟨w,rfl,hw,h⟩
 |ret=>intro w Q hw h;exact .ret ⟨w,rfl,hw,h⟩
 |region id ops draw=>
  intro w Q hw h
  have hw':WS.OK {w with st:=w.st.nv ops} := λt b ht=>by
   obtain ⟨fr,e⟩:=hw t b ht
   exact ⟨fr,lv ops w.st t fr .bool b e⟩
  exact .region ((wx hw' h).mono λs ⟨w',h1,h2,h3⟩=>⟨w',h1,h2,Oq.1 h3⟩)
 |seq x y ihx ihy=>
  intro w Q hw h
  refine Abv ((ihx w _ hw h).mono λe s hQ=>?_)
  obtain ⟨w',h1,h2,h3⟩:=hQ
  subst h1
  cases e with
  |normal=>exact ihy w' Q h2 h3
  |exit id=>exact ⟨w',rfl,h2,h3⟩
  |ret=>exact ⟨w',rfl,h2,h3⟩
 |cond c x y ihx ihy=>
  intro w Q hw h
  obtain ⟨fr,b,w',h1,h2,h3,h4⟩:=x9 hw h
  refine VL h1 (λhb=>?_) (λhb=>?_)
  ·subst hb;rw [<-h2];exact ihx w' Q h3 h4
  ·subst hb;rw [<-h2];exact ihy w' Q h3 h4
 |block id c ih=>
  intro w Q hw h
  refine NZ ((ih w _ hw h).mono λe s hQ=>?_)
  obtain ⟨w',h1,h2,h3⟩:=hQ
  subst h1
  cases e with
  |normal=>exact ⟨w',rfl,h2,h3⟩
  |ret=>exact ⟨w',rfl,h2,h3⟩
  |exit TX=>
   simp only at h3
   simp only [xz]
   split at h3
   ·rename_i hi;rw [Ab hi];exact ⟨w',rfl,h2,h3⟩
   ·rename_i hi;rw [Ai hi];exact ⟨w',rfl,h2,h3⟩
 |loop c ih=>intro w Q hw h;exact GC ih h
 |_=>intro w Q hw h;exact absurd h (by simp [dX])
theorem sS {s:Spec} {fn:Func} {P:s.res.den->Prop} {st:St} (h:Aid T s fn P st): ∃fr y,nI T s fn st=some (fr,y)/\(fr||!s.fresh)=true/\P y:=by
 obtain ⟨p,h1,h2⟩:=Ch.1 h
 split at h2
 ·rename_i hf;exact ⟨p.1,p.2,h1,hf,h2⟩
 ·cases h2
theorem TL {s:Spec} {fn:Func} {x:s.arg.den} {P:s.res.den->Prop} (h:fnW T Γ s fn x P):XZ T Γ s fn x P:=by
 unfold fnW at h
 obtain ⟨c,h1,h2⟩:=Ch.1 h
 refine ⟨c,h1,(qi c _ _ (λt b h=>by cases h) h2).mono λe st ⟨w,h4,h5,h6⟩=>?_⟩
 subst h4
 cases e with
 |normal=>exact ⟨λid hh=>(by cases hh),sS h6⟩
 |ret=>exact ⟨λid hh=>(by cases hh),sS h6⟩
 |exit id=>cases h6
theorem cP {st:St} {K:Prop} : ∀(vs:List AC) (cs:List (Bool×CK)),ja st K vs cs->j9 st vs cs/\K
 | [],cs,h=>⟨by simp [j9],by simpa [ja] using h⟩
 |a::vs,[],h=>⟨by cases a<;>simp [j9],by cases a<;>simpa [ja] using h⟩
 |a::vs,(false,c)::r,h=>by
  have h:ja st K vs r:=by cases a<;>simpa only [ja] using h
  obtain ⟨h1,h2⟩:=cP vs r h
  exact ⟨by cases a<;>simpa only [j9] using h1,h2⟩
 |a::vs,(true,c)::r,h=>by
  cases a with
  |own l off len=>
   simp only [ja] at h
   split at h
   ·rename_i hl
    obtain ⟨h1,h2⟩:=cP vs r h.2
    refine ⟨?_,h2⟩
    simp only [j9,hl]
    exact ⟨h.1,h1⟩
   ·rename_i hl
    obtain ⟨h1,h2⟩:=cP vs r h.2
    refine ⟨?_,h2⟩
    simp only [j9,hl]
    exact ⟨h.1,h1⟩
   ·exact h.elim
  |_=>exact ⟨by simp [j9],by simpa [ja] using h⟩
theorem fL {st:St} : ∀(cs:List CK) (as:List AC) (K:CKs.den cs->List Nat->Prop),pD st cs as K-> ∃x ls,Vr st cs as=some (x,ls)/\K x ls
 | [],[],K,h=>⟨(),[],rfl,h⟩
 | [],_::_,_,h=>h.elim
 |c::r,[],K,h=>by cases c<;>exact h.elim
 |c::r,a::as,K,h=>by
  have vK:Ic (kT st c a) (λp=>pD st r as λy t=>K (p.1,y) (p.2++t))-> ∃x ls,Vr st (c::r) (a::as)=some (x,ls)/\K x ls:= λh=>by
   obtain ⟨p,h1,h2⟩:=Ch.1 h
   obtain ⟨y,t,h3,h4⟩:=fL r as _ h2
   exact ⟨_,_,by simp only [Vr,h1,h3],h4⟩
  cases c with
  |Bu e te kp=>
   cases a with
   |own l off len=>
    simp only [pD] at h
    split at h
    ·rename_i hl
     split at h
     ·rename_i hc
      obtain ⟨⟨h1,h2⟩,h⟩:=h
      obtain ⟨y,t,h3,h4⟩:=fL r as _ h
      exact ⟨_,_,by simp only [Vr,kT,hl];rw [Jk ⟨hc.1,hc.2,h1,h2⟩];simp only [h3];rfl,h4⟩
     ·exact h.elim
    ·exact h.elim
   |_=>exact vK h
  |_=>exact vK h
theorem nZ {st:St} {n:Nat} {as:List AC} {K:Prop} : ∀(ks:List (Nat×Nat)),zD st n as ks K->xF st n as ks/\K
 | [],h=>⟨trivial,h⟩
 |(k,j)::r,h=>by
  simp only [zD] at h
  split at h
  ·rename_i l off len ha
   split at h
   ·rename_i p hl
    split at h
    ·rename_i hc
     simp only [Aj] at hc
     obtain ⟨h1,h2⟩:=nZ r h.2
     refine ⟨?_,h2⟩
     simp only [xF,ha,hl]
     exact ⟨⟨Kb hc.1,h.1,hc.2⟩,h1⟩
    ·exact h.elim
   ·exact h.elim
  ·exact h.elim
theorem ju {s:MSpec} {fn:Func} {x:Ins.den s.ins} {st:St} {cs:List AC} {P:CKs.den s.outs×IOs.den s.ins->Prop} (h:uy T s fn x st cs P):kC T s fn x st cs P:=by
 obtain ⟨l,h1,h⟩:=Ch.1 h
 obtain ⟨⟨as,ml⟩,h2,h⟩:=Ch.1 h
 obtain ⟨r,ls,h3,h⟩:=fL _ _ _ h
 obtain ⟨o,h4,h⟩:=Ch.1 h
 split at h
 ·rename_i hc
  obtain ⟨h5,h6⟩:=nZ _ h
  unfold kC
  simp only [h1,h2,h3,h4]
  exact ⟨hc,h5,h6⟩
 ·exact h.elim
theorem qS {s:MSpec} {fn:Func} {x:Ins.den s.ins} {st:St} {P:CKs.den s.outs×IOs.den s.ins->Prop} (h:SB T s fn x st P):XY T s fn x st P:=by
 unfold SB at h
 unfold XY
 cases hp:s.ptr with
 |none=>rw [hp] at h;exact ju h
 |some p=>
  rw [hp] at h
  simp only at h⊢
  split at h
  ·rename_i tid vs hl
   split at h
   ·rename_i hc
    simp only [Aj] at hc
    obtain ⟨h1,h2⟩:=hc
    have h1:tid=p.1:=Kb h1
    have h2:=Kb h2
    subst h1
    obtain ⟨cs,h3,h4⟩:=Ch.1 h
    obtain ⟨h5,h6⟩:=cP vs s.ins h4
    exact ⟨vs,cs,hl,h2,h3,h5,ju h6⟩
   ·exact h.elim
  ·exact h.elim
theorem LJ {s:MSpec} {fn:Func} {x:Ins.den s.ins} {P:CKs.den s.outs×IOs.den s.ins->Prop} (h:fnMW T Γ s fn x P):Agc T Γ s fn x P:=by
 unfold fnMW at h
 split at h
 ·cases h
 rename_i hlen
 obtain ⟨c,h1,h2⟩:=Ch.1 h
 refine ⟨hlen,c,h1,(qi c _ _ (λt b h=>by cases h) h2).mono λe st ⟨w,h4,h5,h6⟩=>?_⟩
 subst h4
 cases e with
 |normal=>exact ⟨λid hh=>(by cases hh),qS h6⟩
 |ret=>exact ⟨λid hh=>(by cases hh),qS h6⟩
 |exit id=>cases h6
theorem Dx.ofW {P:Program} (hT:Eh P T) (Pl:Li P Γ) (hm:P.follows .mixedOrders=true) {f:FuncId} {fn:Func} (hf:P.funcs[f]?=some fn) (hn:(fn.name== "runtime.NumGoroutine")=false)
  (hb:fn.body.isNone=false) (s:MSpec) (h: ∀x y,s.fn x=some y->fnMW T Γ s fn x (λz=>z=y)):Dx P f s:=
 ⟨iD hf hn hb,λw S π us x r o g vs h1 hg h2 h3 hS h4 h5=>vQ hT Pl hm hf s w S π us x r o g vs h1 hg h2 h3 hS h4 (LJ (h x (r,o) h5))⟩
theorem Sound.ofW {P:Program} (hT:Eh P T) (Pl:Li P Γ) (hm:P.follows .mixedOrders=true) {f:FuncId} {fn:Func} (hf:P.funcs[f]?=some fn) (hn:(fn.name== "runtime.NumGoroutine")=false)
  (hb:fn.body.isNone=false) (s:Spec) (h: ∀x y,s.fn x=some y->fnW T Γ s fn x (λz=>z=y)):Sound P f s:=
 Abx hT Pl hm hf hn hb s λx y hx=>TL (h x y hx)
end
end Go.Proofs.Ytkkdpknjohcekaa
