/-
  Part 34 of the proof that the statement FnStateClasses holds.
-/
import Derived.Test.YtkkdpknjohcekaaCFStateClasses32
namespace Go.Proofs.Ytkkdpknjohcekaa
open Go.RowKit
theorem Tl {B:List (Nat×Nat×Nat)} {H:List (Nat×OB)} : ∀ {l:List AV} {K:Prop},aw B H l K-> ∀c∈l,c.jF=true
 | [],_,_,c,hc=>by cases hc
 |d::l,K,h,c,hc=>by
  simp only [aw] at h
  cases d with
  |Mh l'=>exact h.elim
  | «at»a=>
   rcases Ay.1 hc with rfl|hc
   ·rfl
   ·have h':aw B H l K:=by
     cases a with
     |own k o n=>exact h.2.2
     |_=>exact h
    exact Tl h' c hc
  |ay _ _ _=>
   rcases Ay.1 hc with rfl|hc
   ·rfl
   ·exact Tl h c hc
  |agg cs=>
   rcases Ay.1 hc with rfl|hc
   ·rfl
   ·have: ∀(cs:List AC) (Q:Prop),cC B H cs Q->Q:=by
     intro cs
     induction cs with
     |nil=>exact λQ h=>h
     |cons a cs ih=>
      intro Q h
      have h2:cC B H cs Q:=by
       cases a with
       |own k o n=>exact h.2.2
       |_=>exact h
      exact ih Q h2
    exact Tl (this cs _ h) c hc
theorem kI: ∀(f:List Bool) (l:List AV),(∀c∈l,c.jF=true)-> ∀c∈Ta f l,c.jF=true
 | [],l,h=>by simpa [Ta] using h
 |true::f,[],h=>by simp [Ta] at h⊢
 |false::f,[],h=>by simp [Ta] at h⊢
 |true::f,a::l,h=>by
  intro c hc
  simp only [Ta,Ay] at hc
  rcases hc with rfl|hc
  ·rfl
  ·exact kI f l (λc hc=>h c (An _ hc)) c hc
 |false::f,a::l,h=>by
  intro c hc
  simp only [Ta,Ay] at hc
  rcases hc with rfl|hc
  ·exact h c (by simp)
  ·exact kI f l (λc hc=>h c (An _ hc)) c hc
theorem NR (f:AC->AC) (H:List (Nat×OB)) (l:Nat):lenOf (H.map λp=>(p.1,p.2.map f)) l=lenOf H l:=by
 unfold lenOf
 rw [Og]
 cases At H l with
 |none=>rfl
 |some b=>cases b<;>rfl
theorem EV (f g:AC->AC) (c:AV):(c.map f).map g=c.map λa=>g (f a):=by
 cases c<;>simp [AV.map]
theorem HI (f g:AC->AC) (c:OB):(c.map f).map g=c.map λa=>g (f a):=by
 cases c<;>simp [OB.map]
theorem BC (s:St) (f g:AC->AC):(s.Km f).Km g=s.Km λa=>g (f a):=by
 simp [St.Km,List.map_map,Function.comp_def,EV,HI]
theorem AQ (f:AC->AC) (H:List (Nat×OB)) (l:Nat): ∀(B:List (Nat×Nat×Nat)),NP B (H.map λp=>(p.1,p.2.map f)) l=NP B H l
 | []=>NR f H l
 |(k,o,n)::r=>by simp only [NP];rw [AQ f H l r]
theorem EJ (B:List (Nat×Nat×Nat)) (s:St):(s.Km Sh).whole B=s.whole B:=by
 unfold St.whole
 rw [BC]
 congr 1
 funext a
 cases a with
 |own l off len=>simp only [Sh,eK,St.Km,AQ]
 |_=>rfl
theorem EH {B:List (Nat×Nat×Nat)} {s t:St} (h:s.Km Sh=t.Km Sh):s.whole B=t.whole B:=by rw [<-EJ B s,h,EJ]
theorem nz (f:AC->AC): ∀(fx:List Bool) (a b:List AV),(Uf fx a b).map (·.map f)=Uf fx (a.map (·.map f)) (b.map (·.map f))
 | [],_,_=>by simp [Uf]
 |_::_,[],_=>by simp [Uf]
 |true::_,_::_,[]=>by simp [Uf]
 |false::_,_::_,[]=>by simp [Uf]
 |true::fx,x::a,y::b=>by simp only [Uf,Bk,nz f fx a b]
 |false::fx,x::a,y::b=>by simp only [Uf,Bk,nz f fx a b]
theorem rQ (f:AC->AC) (fx:List Bool) (a b:St):(St.tH fx a b).Km f=St.tH fx (a.Km f) (b.Km f):=by
 simp only [St.tH,St.Km,nz]
theorem fp: ∀(l:List AV) {R:Type} (v:oU l R),(Vr l v).1.length=l.length
 | [],_,_=>rfl
 |c::l,_,v=>by simp [Vr,fp l]
theorem vE (p:Nat->Bool): ∀(i:Nat) (l0 l:List AV) (t:Nat),l.length=l0.length->(l0.getD t .undef).Xb=true->p (i+t)=true->(Uf (Js p i l0) l0 l).getD t .undef=l0.getD t .undef
 |_,[],_,t,_,h,_=>by simp [AV.Xb] at h
 |i,a::r,[],_,h,_,_=>by simp at h
 |i,a::r,b::s,0,_,h1,h2=>by
  have:(a.Xb&&p i)=true:=by
   simp only [Ag]
   exact ⟨by simpa using h1,h2⟩
  simp only [Js,this,Uf,Wg]
 |i,a::r,b::s,t+1,hl,h1,h2=>by
  have hr:=vE p (i+1) r s t (by simpa using hl) (by simpa using h1) (by rw [show i+1+t=i+(t+1) by omega];exact h2)
  simp only [Js]
  cases (a.Xb&&p i)<;>simpa only [Uf,My] using hr
theorem jf {B:List (Nat×Nat×Nat)} {H:List (Nat×OB)} {c:AC} {K:Prop} (h:wu B H c K):eK B H c=c/\K:=by
 cases c with
 |own l off len=>obtain ⟨h1,h2,h3⟩:=h;exact ⟨by rw [h1,h2];rfl,h3⟩
 |_=>exact ⟨rfl,h⟩
theorem aE {B:List (Nat×Nat×Nat)} {H:List (Nat×OB)} : ∀ {l:List AC} {K:Prop},cC B H l K->l.map (eK B H)=l/\K
 | [],_,h=>⟨rfl,h⟩
 |c::l,_,h=>by
  obtain ⟨h1,h2⟩:=jf h
  obtain ⟨h3,h4⟩:=aE h2
  exact ⟨by rw [Bk,h1,h3],h4⟩
theorem tb {B:List (Nat×Nat×Nat)} {H:List (Nat×OB)} {c:AV} {K:Prop} (h:KA B H c K):c.map (eK B H)=c/\K:=by
 cases c with
 | «at»a=>obtain ⟨h1,h2⟩:=jf h;exact ⟨by rw [AV.map,h1],h2⟩
 |agg cs=>obtain ⟨h1,h2⟩:=aE h;exact ⟨by rw [AV.map,h1],h2⟩
 |ay _ _ _=>exact ⟨rfl,h⟩
 |Mh l=>exact h.elim
theorem fq {B:List (Nat×Nat×Nat)} {H:List (Nat×OB)} : ∀ {l:List AV} {K:Prop},aw B H l K->l.map (·.map (eK B H))=l/\K
 | [],_,h=>⟨rfl,h⟩
 |c::l,_,h=>by
  obtain ⟨h1,h2⟩:=tb h
  obtain ⟨h3,h4⟩:=fq h2
  exact ⟨by rw [Bk,h1,h3],h4⟩
theorem Mv {B:List (Nat×Nat×Nat)} {H:List (Nat×OB)} : ∀ {l:List (Nat×OB)} {K:Prop},iI B H l K->l.map (λp=>(p.1,p.2.map (eK B H)))=l/\K
 | [],_,h=>⟨rfl,h⟩
 |(k, .var t vs)::l,_,h=>by
  obtain ⟨h1,h2⟩:=aE h
  obtain ⟨h3,h4⟩:=Mv h2
  exact ⟨by rw [Bk,h3];simp only [OB.map,h1],h4⟩
 |(k, .arr a b c d e)::l,_,h=>by
  obtain ⟨h3,h4⟩:=Mv (l:=l) h
  exact ⟨by rw [Bk,h3];rfl,h4⟩
 |(k, .Gg a b c)::l,_,h=>by
  obtain ⟨h3,h4⟩:=Mv (l:=l) h
  exact ⟨by rw [Bk,h3];rfl,h4⟩
 |(k, .Bo a b c d e)::l,_,h=>by
  obtain ⟨h3,h4⟩:=Mv (l:=l) h
  exact ⟨by rw [Bk,h3];rfl,h4⟩
 |(k, .Ur a b)::l,_,h=>by
  obtain ⟨h3,h4⟩:=Mv (l:=l) h
  exact ⟨by rw [Bk,h3];rfl,h4⟩
theorem jK {B:List (Nat×Nat×Nat)} {s:St} {K:Prop} (h:yo B s K):s.whole B=s/\K:=by
 obtain ⟨h1,h2⟩:=fq h
 obtain ⟨h3,h4⟩:=Mv h2
 exact ⟨by unfold St.whole St.Km;rw [h1,h3],h4⟩
theorem fY (live:List Nat): ∀(i:Nat) (l:List AV) (t:Nat),i+t∉live->(Hp live i l).getD t .undef= .undef
 |_,[],_,_=>rfl
 |i,v::r,0,h=>by simp [Hp];intro hn;exact absurd hn h
 |i,v::r,t+1,h=>by
  simp only [Hp,My]
  exact fY live (i+1) r t (by rw [show i+1+t=i+(t+1) by omega];exact h)
theorem eS: ∀(l:List Nat) (st:St) (t:Nat),st.get t= .undef->(ak l st).get t= .undef
 | [],_,_,h=>h
 |a::r,st,t,h=>eS r _ t (by
  show (st.tmps.map (·.map (Cl a))).getD t .undef= .undef
  rw [Ub (Cl a) rfl,show st.tmps.getD t .undef= .undef from h]
  rfl)
theorem xS (l k:Nat) (st:St) (t:Nat) (h:st.get t= .undef):(st.rename l k).get t= .undef:=by
 unfold St.rename
 split
 ·split
  ·show (st.tmps.map (·.map (Ug l k))).getD t .undef= .undef
   rw [Ub (Ug l k) rfl,show st.tmps.getD t .undef= .undef from h]
   rfl
  ·exact h
 ·exact h
theorem dc: ∀(n i:Nat) (st:St) (t:Nat),st.get t= .undef->(Mf n i st).get t= .undef
 |0,_,_,_,h=>h
 |n+1,i,st,t,h=>by
  simp only [Mf]
  refine dc n (i+1) _ t ?_
  split
  ·split
   ·split
    ·exact h
    ·exact xS _ _ _ t h
   ·exact h
  ·exact h
theorem xM (st:St) (d:Nat) (v:AV) (t:Nat) (Hq:t≠d) (h:st.get t= .undef):(st.put (some d) v).get t= .undef:=by rw [aO _ _ Hq];exact h
theorem rW (k:Nat) (st:St) (t:Nat) (h:st.get t= .undef):(aZ k st).get t= .undef:=by
 unfold aZ
 split
 ·rename_i l off len hg
  split
  ·split
   ·refine xM _ _ _ _ (λe=>by subst e;rw [hg] at h;cases h) ?_
    show (st.tmps.map (·.map (Cl l))).getD t .undef= .undef
    rw [Ub (Cl l) rfl,show st.tmps.getD t .undef= .undef from h]
    rfl
   ·exact h
  ·exact h
 ·exact h
theorem kQ (c:Nat) (st:St) (t:Nat) (h:st.get t= .undef):(Pk c st).get t= .undef:=by
 unfold Pk
 split
 ·split
  ·rename_i l off len hc
   split
   ·split
    ·split
     ·show (st.tmps.map (·.map (Cl l))).getD t .undef= .undef
      rw [Ub (Cl l) rfl,show st.tmps.getD t .undef= .undef from h]
      rfl
     ·exact h
    ·exact h
   ·exact h
  ·exact h
 ·exact h
theorem bO (live:List Nat): ∀(n i:Nat) (st:St) (t:Nat),st.get t= .undef->(Pc live n i st).get t= .undef
 |0,_,_,_,h=>h
 |n+1,i,st,t,h=>by
  simp only [Pc]
  refine bO live n (i+1) _ t ?_
  split
  ·exact kQ _ _ _ h
  ·exact h
theorem fe (live:List Nat): ∀(n i:Nat) (st:St) (t:Nat),st.get t= .undef->(Ol live n i st).get t= .undef
 |0,_,st,t,h=>bO live 16 0 st t h
 |n+1,i,st,t,h=>by
  simp only [Ol]
  refine fe live n (i+1) _ t ?_
  split
  ·exact rW _ _ _ h
  ·exact h
theorem FH {live:List Nat} {st:St} {t:Nat} (h:((st.clean live).get t).Xb=true):t∈live:=by
 refine Bf λhn=>?_
 have:(st.clean live).get t= .undef:=by
  have key: ∀s:St,s.get t= .undef->(if live.contains bP then Mf s.tmps.length 0 s else s).get t= .undef:=by
   intro s hs
   split
   ·exact dc _ _ s t hs
   ·exact hs
  unfold St.clean
  have TW: ∀s:St,s.get t= .undef->(if live.any (λt=>Nat.ble Td t) then s.Ij live else s).get t= .undef:=by
   intro s hs
   split<;>exact hs
  have TX: ∀s:St,s.get t= .undef->(if live.any (λt=>Nat.ble Ri t&&Nat.blt t bP) then Ol live s.tmps.length 0 s else s).get t= .undef:=by
   intro s hs
   split
   ·exact fe _ _ _ s t hs
   ·exact hs
  refine TW _ (key _ (TX _ (eS _ _ t ?_)))
  exact fY live 0 st.tmps t (by simpa using hn)
 rw [this] at h
 cases h
theorem re {c:AV} (h:c.Xb=true): ∃fr τ,∃x:τ.den,c= .at (.data fr τ x):=by
 unfold AV.Xb at h
 split at h
 ·exact ⟨_,_,_,rfl⟩
 ·cases h
theorem PR {live:Nat->List Nat} {c:Code} {t:Nat} (h:stays live c t=true):t∉writes c/\aS live c t=true:=by
 unfold stays at h
 simpa using h
section
variable {T:Tab} {Γ:Env} {live:Nat->List Nat}
theorem Ny.keeps {c:Code} {st:St} {Q:Lc->St->Prop} (h:Ny T Γ live c st Q):Ny T Γ live c st (λe s=>Q e s/\Fe (λt=>t∉writes c/\aS live c t=true) st s):=by
 exact IL h st _ Ch.rfl'.on λt ht=>ht
def wsQ (Q:Lc->WS->Prop) (e:Lc) (s:St):Prop:= ∃w':WS,w'.st=s/\w'.OK/\Q e w'
theorem AZ {c:Code} (ih: ∀(w:WS) (Q:Lc->WS->Prop),w.OK->cF T Γ live c w Q->Ny T Γ live c w.st (wsQ Q)) {w:WS} {Q:Lc->WS->Prop} (h:cF T Γ live (.loop c) w Q):
  Ny T Γ live (.loop c) w.st (wsQ Q):=by
 simp only [cF,MX,dN] at h
 obtain ⟨hw0,I,μ,h0,hs⟩:=jK h
 have At: ∀(t:Nat),((w.st.clean (live (Es c))).get t).Xb=true->stays live c t=true-> ∀v,((St.tH (Js (stays live c) 0 (w.st.clean (live (Es c))).tmps) (w.st.clean (live (Es c))) (ij ((w.st.clean (live (Es c))).mask (Js (stays live c) 0 (w.st.clean (live (Es c))).tmps)) v)).whole (Yy T.parts (w.st.clean (live (Es c))).tmps)).get t=(w.st.clean (live (Es c))).get t:=by
  intro t h1 h2 v
  have h3:=vE (stays live c) 0 (w.st.clean (live (Es c))).tmps (ij ((w.st.clean (live (Es c))).mask (Js (stays live c) 0 (w.st.clean (live (Es c))).tmps)) v).tmps t
   ((fp _ _).trans (dX _ _)) h1 (by simpa using h2)
  obtain ⟨fr,τ,x,hx⟩:=re h1
  refine (Oz _ _ rfl λ_ _ _=>rfl) t fr τ x ?_|>.trans hx.symm
  exact h3.trans hx
 have hmk: ∀(s1:St),(∀t,((w.st.clean (live (Es c))).get t).Xb=true->stays live c t=true->s1.get t=(w.st.clean (live (Es c))).get t)->s1.whole (Yy T.parts (w.st.clean (live (Es c))).tmps)=s1-> ∀v,ik ((w.st.clean (live (Es c))).mask (Js (stays live c) 0 (w.st.clean (live (Es c))).tmps)) (s1.mask (Js (stays live c) 0 (w.st.clean (live (Es c))).tmps))=some v->
   s1=(St.tH (Js (stays live c) 0 (w.st.clean (live (Es c))).tmps) (w.st.clean (live (Es c))) (ij ((w.st.clean (live (Es c))).mask (Js (stays live c) 0 (w.st.clean (live (Es c))).tmps)) v)).whole (Yy T.parts (w.st.clean (live (Es c))).tmps):=by
  intro s1 hf hwh v hv
  have h1:=il hv
  have h2:St.tH (Js (stays live c) 0 (w.st.clean (live (Es c))).tmps) (w.st.clean (live (Es c))) (s1.mask (Js (stays live c) 0 (w.st.clean (live (Es c))).tmps))=s1:=by
   simp only [St.tH,St.mask]
   rw [kM (stays live c) 0 (w.st.clean (live (Es c))).tmps s1.tmps λt h3 h4=>hf t h3 (by simpa using h4)]
  have h3:(St.tH (Js (stays live c) 0 (w.st.clean (live (Es c))).tmps) (w.st.clean (live (Es c))) (ij ((w.st.clean (live (Es c))).mask (Js (stays live c) 0 (w.st.clean (live (Es c))).tmps)) v)).whole (Yy T.parts (w.st.clean (live (Es c))).tmps)=s1.whole (Yy T.parts (w.st.clean (live (Es c))).tmps):=by
   refine EH ?_
   rw [rQ,h1,<-rQ,h2]
  rw [h3,hwh]
 refine OZ (λv=>(St.tH (Js (stays live c) 0 (w.st.clean (live (Es c))).tmps) (w.st.clean (live (Es c))) (ij ((w.st.clean (live (Es c))).mask (Js (stays live c) 0 (w.st.clean (live (Es c))).tmps)) v)).whole (Yy T.parts (w.st.clean (live (Es c))).tmps)) I μ _ h0 (hmk _ (λ_ _ _=>rfl) hw0 _ (oQ _ (kI _ _ (Tl h)))) ?_
 intro a ha
 refine (Ny.keeps (ih ⟨[],_⟩ _ (λt b h=>by cases h) (hs a ha))).mono ?_
 intro e s hQ
 obtain ⟨⟨w',h1,h2,h3⟩,hk⟩:=hQ
 subst h1
 cases e with
 |normal=>
  obtain ⟨h4,h5⟩:=jK h3
  obtain ⟨v',h6,h7,h8⟩:=Bu.1 h5
  refine ⟨v',hmk _ (λt hd ht=>?_) h4 _ h6,h7,h8⟩
  obtain ⟨fr,τ,x,hx⟩:=re hd
  rw [hx]
  exact jA (live (Es c)) w'.st t fr τ x (FH hd) (hk t fr τ x (PR ht) (by rw [At t hd ht a];exact hx))
 |exit id=>exact ⟨w',rfl,h2,h3⟩
 |ret=>exact ⟨w',rfl,h2,h3⟩
theorem o5: ∀(c:Code) (w:WS) (Q:Lc->WS->Prop),w.OK->cF T Γ live c w Q->Ny T Γ live c w.st (wsQ Q):=by
 intro c
 induction c with
 |skip=>intro w Q hw h;exact .skip ⟨w,rfl,hw,h⟩
 |label _=>intro w Q hw h;exact .label ⟨w,rfl,hw,h⟩
 |exit _=>intro w Q hw h;exact .exit ⟨w,rfl,hw,h⟩
 |ret=>intro w Q hw h;exact .ret ⟨w,rfl,hw,h⟩
 |region id ops draw=>
  intro w Q hw h
  have hw':WS.OK {w with st:=w.st.lp ops} := λt b ht=>by
   obtain ⟨fr,e⟩:=hw t b ht
   exact ⟨fr,jB ops w.st t fr .bool b e⟩
  exact .region ((tT hw' h).mono λs ⟨w',h1,h2,h3⟩=>⟨w',h1,h2,Ns.1 h3⟩)
 |seq x y ihx ihy=>
  intro w Q hw h
  refine VL ((ihx w _ hw h).mono λe s hQ=>?_)
  obtain ⟨w',h1,h2,h3⟩:=hQ
  subst h1
  cases e with
  |normal=>exact ihy w' Q h2 h3
  |exit id=>exact ⟨w',rfl,h2,h3⟩
  |ret=>exact ⟨w',rfl,h2,h3⟩
 |cond c x y ihx ihy=>
  intro w Q hw h
  obtain ⟨fr,b,w',h1,h2,h3,h4⟩:=uy hw h
  refine OY h1 (λhb=>?_) (λhb=>?_)
  ·subst hb;rw [<-h2];exact ihx w' Q h3 h4
  ·subst hb;rw [<-h2];exact ihy w' Q h3 h4
 |block id c ih=>
  intro w Q hw h
  refine IK ((ih w _ hw h).mono λe s hQ=>?_)
  obtain ⟨w',h1,h2,h3⟩:=hQ
  subst h1
  cases e with
  |normal=>exact ⟨w',rfl,h2,h3⟩
  |ret=>exact ⟨w',rfl,h2,h3⟩
  |exit NK=>
   simp only at h3
   simp only [uV]
   split at h3
   ·rename_i hi;rw [Ac hi];exact ⟨w',rfl,h2,h3⟩
   ·rename_i hi;rw [Ai hi];exact ⟨w',rfl,h2,h3⟩
 |loop c ih=>intro w Q hw h;exact AZ ih h
 |_=>intro w Q hw h;exact absurd h (by simp [cF])
theorem qy {s:Spec} {fn:Func} {P:s.res.den->Prop} {st:St} (h:Ac9 T s fn P st): ∃fr y,lD T s fn st=some (fr,y)/\(fr||!s.fresh)=true/\P y:=by
 obtain ⟨p,h1,h2⟩:=Bu.1 h
 split at h2
 ·rename_i hf;exact ⟨p.1,p.2,h1,hf,h2⟩
 ·cases h2
theorem MW {s:Spec} {fn:Func} {x:s.arg.den} {P:s.res.den->Prop} (h:fnW T Γ s fn x P):RG T Γ s fn x P:=by
 unfold fnW at h
 obtain ⟨c,h1,h2⟩:=Bu.1 h
 refine ⟨c,h1,(o5 c _ _ (λt b h=>by cases h) h2).mono λe st ⟨w,h4,h5,h6⟩=>?_⟩
 subst h4
 cases e with
 |normal=>exact ⟨λid hh=>(by cases hh),qy h6⟩
 |ret=>exact ⟨λid hh=>(by cases hh),qy h6⟩
 |exit id=>cases h6
theorem bH {st:St} {K:Prop} : ∀(vs:List AC) (cs:List (Bool×CK)),gJ st K vs cs->gI st vs cs/\K
 | [],cs,h=>⟨by simp [gI],by simpa [gJ] using h⟩
 |a::vs,[],h=>⟨by cases a<;>simp [gI],by cases a<;>simpa [gJ] using h⟩
 |a::vs,(false,c)::r,h=>by
  have h:gJ st K vs r:=by cases a<;>simpa only [gJ] using h
  obtain ⟨h1,h2⟩:=bH vs r h
  exact ⟨by cases a<;>simpa only [gI] using h1,h2⟩
 |a::vs,(true,c)::r,h=>by
  cases a with
  |own l off len=>
   simp only [gJ] at h
   split at h
   ·rename_i hl
    obtain ⟨h1,h2⟩:=bH vs r h.2
    refine ⟨?_,h2⟩
    simp only [gI,hl]
    exact ⟨h.1,h1⟩
   ·rename_i hl
    obtain ⟨h1,h2⟩:=bH vs r h.2
    refine ⟨?_,h2⟩
    simp only [gI,hl]
    exact ⟨h.1,h1⟩
   ·exact h.elim
  |_=>exact ⟨by simp [gI],by simpa [gJ] using h⟩
theorem ec {st:St} : ∀(cs:List CK) (as:List AC) (K:CKs.den cs->List Nat->Prop),ny st cs as K-> ∃x ls,Ue st cs as=some (x,ls)/\K x ls
 | [],[],K,h=>⟨(),[],rfl,h⟩
 | [],_::_,_,h=>h.elim
 |c::r,[],K,h=>by cases c<;>exact h.elim
 |c::r,a::as,K,h=>by
  have sZ:Ha (jd st c a) (λp=>ny st r as λy t=>K (p.1,y) (p.2++t))-> ∃x ls,Ue st (c::r) (a::as)=some (x,ls)/\K x ls:= λh=>by
   obtain ⟨p,h1,h2⟩:=Bu.1 h
   obtain ⟨y,t,h3,h4⟩:=ec r as _ h2
   exact ⟨_,_,by simp only [Ue,h1,h3],h4⟩
  cases c with
  |Bo e te kp=>
   cases a with
   |own l off len=>
    simp only [ny] at h
    split at h
    ·rename_i hl
     split at h
     ·rename_i hc
      obtain ⟨⟨h1,h2⟩,h⟩:=h
      obtain ⟨y,t,h3,h4⟩:=ec r as _ h
      exact ⟨_,_,by simp only [Ue,jd,hl];rw [Im ⟨hc.1,hc.2,h1,h2⟩];simp only [h3];rfl,h4⟩
     ·exact h.elim
    ·exact h.elim
   |_=>exact sZ h
  |_=>exact sZ h
theorem m6 {st:St} {n:Nat} {as:List AC} {K:Prop} : ∀(ks:List (Nat×Nat)),xe st n as ks K->ve st n as ks/\K
 | [],h=>⟨trivial,h⟩
 |(k,j)::r,h=>by
  simp only [xe] at h
  split at h
  ·rename_i l off len ha
   split at h
   ·rename_i p hl
    split at h
    ·rename_i hc
     simp only [Ag] at hc
     obtain ⟨h1,h2⟩:=m6 r h.2
     refine ⟨?_,h2⟩
     simp only [ve,ha,hl]
     exact ⟨⟨Ja hc.1,h.1,hc.2⟩,h1⟩
    ·exact h.elim
   ·exact h.elim
  ·exact h.elim
theorem hJ {s:MSpec} {fn:Func} {x:Ins.den s.ins} {st:St} {cs:List AC} {P:CKs.den s.outs×IOs.den s.ins->Prop} (h:s6 T s fn x st cs P):iQ T s fn x st cs P:=by
 obtain ⟨l,h1,h⟩:=Bu.1 h
 obtain ⟨⟨as,ml⟩,h2,h⟩:=Bu.1 h
 obtain ⟨r,ls,h3,h⟩:=ec _ _ _ h
 obtain ⟨o,h4,h⟩:=Bu.1 h
 split at h
 ·rename_i hc
  obtain ⟨h5,h6⟩:=m6 _ h
  unfold iQ
  simp only [h1,h2,h3,h4]
  exact ⟨hc,h5,h6⟩
 ·exact h.elim
theorem oL {s:MSpec} {fn:Func} {x:Ins.den s.ins} {st:St} {P:CKs.den s.outs×IOs.den s.ins->Prop} (h:LS T s fn x st P):RF T s fn x st P:=by
 unfold LS at h
 unfold RF
 cases hp:s.ptr with
 |none=>rw [hp] at h;exact hJ h
 |some p=>
  rw [hp] at h
  simp only at h⊢
  split at h
  ·rename_i tid vs hl
   split at h
   ·rename_i hc
    simp only [Ag] at hc
    obtain ⟨h1,h2⟩:=hc
    have h1:tid=p.1:=Ja h1
    have h2:=Ja h2
    subst h1
    obtain ⟨cs,h3,h4⟩:=Bu.1 h
    obtain ⟨h5,h6⟩:=bH vs s.ins h4
    exact ⟨vs,cs,hl,h2,h3,h5,hJ h6⟩
   ·exact h.elim
  ·exact h.elim
theorem FT {s:MSpec} {fn:Func} {x:Ins.den s.ins} {P:CKs.den s.outs×IOs.den s.ins->Prop} (h:fnMW T Γ s fn x P):Aad T Γ s fn x P:=by
 unfold fnMW at h
 split at h
 ·cases h
 rename_i hlen
 obtain ⟨c,h1,h2⟩:=Bu.1 h
 refine ⟨hlen,c,h1,(o5 c _ _ (λt b h=>by cases h) h2).mono λe st ⟨w,h4,h5,h6⟩=>?_⟩
 subst h4
 cases e with
 |normal=>exact ⟨λid hh=>(by cases hh),oL h6⟩
 |ret=>exact ⟨λid hh=>(by cases hh),oL h6⟩
 |exit id=>cases h6
theorem Da.ofW {P:Program} (hT:Dn P T) (Oh:Ki P Γ) (hm:P.follows .mixedOrders=true) {f:FuncId} {fn:Func} (hf:P.funcs[f]?=some fn) (hn:(fn.name== "runtime.NumGoroutine")=false)
  (hb:fn.body.isNone=false) (s:MSpec) (h: ∀x y,s.fn x=some y->fnMW T Γ s fn x (λz=>z=y)):Da P f s:=
 ⟨fW hf hn hb,λw S π us x r o g vs h1 hg h2 h3 hS h4 h5=>tj hT Oh hm hf s w S π us x r o g vs h1 hg h2 h3 hS h4 (FT (h x (r,o) h5))⟩
theorem Sound.ofW {P:Program} (hT:Dn P T) (Oh:Ki P Γ) (hm:P.follows .mixedOrders=true) {f:FuncId} {fn:Func} (hf:P.funcs[f]?=some fn) (hn:(fn.name== "runtime.NumGoroutine")=false)
  (hb:fn.body.isNone=false) (s:Spec) (h: ∀x y,s.fn x=some y->fnW T Γ s fn x (λz=>z=y)):Sound P f s:=
 VO hT Oh hm hf hn hb s λx y hx=>MW (h x y hx)
end
end Go.Proofs.Ytkkdpknjohcekaa
