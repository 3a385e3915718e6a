/-
  Part 17 of the proof that the statement FnExactSearchDepth holds.
-/
import Derived.Test.YtfolipnappekaaaGreatCSearchDepth15
namespace Go.Proofs.YtfolipnappekaaaGreat
open Go.RowKit
section
variable {P:Program} {T:Tab} {X:Ctx} {w w':World} {π π':Pi} {H H':List (Nat×OB)}
theorem bl (k:Nat): ¬Dr true k<Bn:=by unfold Dr Bn;simp
theorem fw {k:Nat} (h:k<100000):Dr false k<Bn:=by unfold Dr Bn;simp;omega
def mK (X:Ctx) (D:Nat->Prop) (w':World) (π:Pi) (H Hn:List (Nat×OB)) (l:Nat):Prop:=
 ∃b0 b',Au H l=some b0/\Au Hn l=some b'/\(∀f,OB.map f b0=b0)/\(∀f,OB.map f b'=b')/\b0.fa b'/\ ∀π' H',(∀b,Ud π' b\/X.Sc b->D b)->Cj X w' π' H' (π l) b'
theorem Ac6 {io:Bool} {k:Nat} {τ:Ty} {a:AC} {t:Nat×Loc} (h:t∈Qg io k (.Eu τ) a):t.1=Dr false k:=by
 cases a<;>simp [Qg,views] at h<;>first|(obtain ⟨_,⟨_,_⟩,rfl⟩:=h;rfl)|(rw [h])
theorem WM {io:Bool} {k:Nat} {e:Ty} {te:TypeId} {a:AC} {t:Nat×Loc} (h:t∈Qg io k (.part e te) a):t.1=Dr io k:=by cases a<;>simp [Qg] at h<;>rw [h]
theorem Ac7 {io:Bool} {k:Nat} {e:Ty} {te:TypeId} {a:AC} {t:Nat×Loc} (h:t∈Qg io k (.row e te) a):t.1=Dr io k:=by cases a<;>simp [Qg] at h<;>rw [h]
theorem WN {io:Bool} {k:Nat} {e:Ty} {te:TypeId} {a:AC} {t:Nat×Loc} (h:t∈Qg io k (.Hi e te) a):t.1=Dr io k:=by cases a<;>simp [Qg] at h<;>rw [h]
theorem eQ {D:Nat->Prop} {π':Pi} {fr:Bool} {e:Ty} {es:List Value} {y:e.den} (hD: ∀b,Ud π' b\/X.Sc b->D b) (h:Cells w' D e es y):Cells w' (Da X.w0.heap.size X.Sc π' (fr&&e.flat)) e es y:=by
 cases hf:e.flat with
 |true=>exact Cells.flat e es y hf h
 |false=>exact Cells.Ez (Ao _) (λ_ _ _=>rfl) (λb _ hb=>by
   rcases hb with hb|hb|⟨hb,_⟩
   ·exact hD b (.inl hb)
   ·exact hD b (.inr hb)
   ·simp at hb) e es y h
theorem WQ {D P:Nat->Prop} {g o:Nat} {cur:Array Value} {tr:Bool} {e:Ty} {xs:List e.den}
  (h: ∀(i:Nat) (x:e.den),xs[i]?=some x-> ∃es:List Value,es.length=e.size/\(∀j u,es[j]?=some u->cur[(o+i)*e.size+j]?=some u)/\Cells w' D e es x) (ht:(tr&&e.flat)=true):Xm w' P g o cur e xs:=by
 simp only [Af] at ht
 exact nm ht.2 h
theorem VM {D:Nat->Prop} (h:Mv X w π H) {k:Nat} {c:CK} {ys:c.den} {a:AC} {u:Value} {r:Option Real} {x:c.den} {cur st1:St} (hs:w.heap.size<=w'.heap.size)
  (hU: ∀l i j q b,a= .sub l i j->π l=some q->q.Ct b->b<w.heap.size->(∀r',r=some r'-> ¬r'.Ct b)->w'.heap[b]?=w.heap[b]?)
  {V:List Nat} (ht:eF w (Om X π V) r u c x/\Tt w π H true a u r c x) (hr:fU w' D r c ys) (he:ct cur c ys a=some st1) (gK: ∀t∈Qg true k c a,Au cur.heap t.2.Wz=Au H t.2.Wz):
  st1.tmps=cur.tmps/\(∀m,(∀t∈Qg true k c a,m≠t.2.Wz)->Au st1.heap m=Au cur.heap m)/\ ∀t∈Qg true k c a,mK X D w' π H st1.heap t.2.Wz:=by
 obtain ⟨hc,ht⟩:=ht
 cases c with
 |Eu τ=>cases a<;>simp [ct] at he;subst he;exact ⟨rfl,λ_ _=>rfl,λt ht=>by simp [Qg] at ht⟩
 |row e te=>
  simp only [Tt] at ht
  cases a<;>simp only [] at ht<;>first|(exact ht.elim)|skip
  ·simp only [ct,Aa] at he;subst he
   exact ⟨rfl,λ_ _=>rfl,λt ht=>by simp [Qg] at ht⟩
  ·rename_i l off len
   obtain ⟨rfl,rfl,rfl,fr,tr,hl⟩:=ht
   have Pw:Au cur.heap l=some (.arr fr tr e te x):=(gK _ (Ae.2 rfl)).trans hl
   simp only [ct,St.at,Pw] at he
   split at he
   ·rename_i Jn
    obtain ⟨_,h1,_⟩:=Jn
    simp only [Aa] at he;subst he
    refine ⟨rfl,λm hm=>Dx _ _ _ _ (hm _ (Ae.2 rfl)),λt Vu=>?_⟩
    have Vu:=Ae.1 Vu
    subst Vu
    refine ⟨_,_,hl,El _ _ _ _ Pw,λ_=>rfl,λ_=>rfl,⟨rfl,h1.symm⟩,λπ' H' hD=>?_⟩
    have hb:=(h.heap l).Qi hl
    change Cj X w' π' H' (π l) _
    simp only [Cj,Jw] at hb⊢
    cases hp:π l with
    |none=>rw [hp] at hr;exact hr
    |some q=>
     rw [hp] at hr hb
     obtain ⟨k1,cu,ti,k2,k3,k4,k5,k6⟩:=hr
     exact ⟨⟨k1.1,k1.2,λhh=>hb.1.2.2 (by simp only [Af] at hh;exact hh.1)⟩,cu,ti,k2,k3,k4,k5,λi y hy=>by
      obtain ⟨es,g1,g2,g3⟩:=k6 i y hy
      exact ⟨es,g1,g2,eQ hD g3⟩,λht=>WQ k6 ht⟩
   ·cases he
  ·rename_i l i j
   obtain ⟨⟨_,hf⟩,tid,xs,hl,hx,q,hq,Wd,hre⟩:=ht
   have Pw:Au cur.heap l=some (.Gt (.slice e) tid xs):=(gK _ (Ae.2 rfl)).trans hl
   simp only [ct,St.at,Pw,hx] at he
   rw [Iy trivial] at he
   ·split at he
    ·rename_i h1
     simp only [Aa] at he;subst he
     refine ⟨rfl,λm hm=>Dx _ _ _ _ (hm _ (Ae.2 rfl)),λt Vu=>?_⟩
     have Vu:=Ae.1 Vu
     subst Vu
     refine ⟨_,_,hl,El _ _ _ _ Pw,λ_=>rfl,λ_=>rfl,⟨rfl,by simp⟩,λπ' H' _=>?_⟩
     show Nu w' (π l) (.slice e) tid _
     rw [hq]
     refine hre w' ys hs (λb It hb hn=>hU l i j q b rfl hq hb It hn) ?_
     have hv:=hc.1
     rw [<-show List.length ys=List.length x from h1] at hv
     exact Sy.PV hr hf hv
    ·cases he
 |Hi e te=>
  simp only [Tt] at ht
  cases a<;>simp only [] at ht<;>first|(exact ht.elim)|skip
  ·simp only [ct,Aa] at he;subst he
   exact ⟨rfl,λ_ _=>rfl,λt ht=>by simp [Qg] at ht⟩
  ·rename_i l off len
   obtain ⟨rfl,rfl,rfl,hl⟩:=ht
   have Pw:Au cur.heap l=some (.Gt e te x):=(gK _ (Ae.2 rfl)).trans hl
   simp only [ct,St.at,Pw] at he
   split at he
   ·rename_i Jn
    obtain ⟨_,h1,_⟩:=Jn
    simp only [Aa] at he;subst he
    refine ⟨rfl,λm hm=>Dx _ _ _ _ (hm _ (Ae.2 rfl)),λt Vu=>?_⟩
    have Vu:=Ae.1 Vu
    subst Vu
    refine ⟨_,_,hl,El _ _ _ _ Pw,λ_=>rfl,λ_=>rfl,⟨rfl,h1.symm⟩,λπ' H' _=>?_⟩
    show Nu w' (π l) e te _
    cases hp:π l with
    |none=>rw [hp] at hr;exact hr
    |some q=>rw [hp] at hr;exact hr
   ·cases he
  ·rename_i l i j
   obtain ⟨_,tid,xs,hl,hx,q,hq,Wd,hre⟩:=ht
   have Pw:Au cur.heap l=some (.Gt (.slice e) tid xs):=(gK _ (Ae.2 rfl)).trans hl
   simp only [ct,St.at,Pw,hx] at he
   rw [Iy trivial] at he
   ·split at he
    ·rename_i h1
     simp only [Aa] at he;subst he
     refine ⟨rfl,λm hm=>Dx _ _ _ _ (hm _ (Ae.2 rfl)),λt Vu=>?_⟩
     have Vu:=Ae.1 Vu
     subst Vu
     refine ⟨_,_,hl,El _ _ _ _ Pw,λ_=>rfl,λ_=>rfl,⟨rfl,by simp⟩,λπ' H' _=>?_⟩
     show Nu w' (π l) (.slice e) tid _
     rw [hq]
     refine hre w' ys hs (λb It hb hn=>hU l i j q b rfl hq hb It hn) ?_
     have hv:=hc.1
     rw [<-show List.length ys=List.length x from h1] at hv
     exact Nu.PV (te:=te) hr hv
    ·cases he
 |part e te=>cases a<;>simp [ct] at he<;>first|(simp only [Tt] at ht;exact ht.2.elim)
 |Bm e te kp=>exact absurd ht.1 (by simp)
theorem VN {D:Nat->Prop} (h:Mv X w π H) {k:Nat} {e:Ty} {te:TypeId} {ys:List e.den} {a:AC} {u:Value} {r:Option Real} {x:(CK.part e te).den} {cur st1:St}
  {V:List Nat} (ht:eF w (Om X π V) r u (.part e te) x/\Tt w π H true a u r (.part e te) x) (hr:fU w' D r (.row e te) ys) (he:OH cur e ys a=some st1) (gK: ∀t∈Qg true k (.part e te) a,Au cur.heap t.2.Wz=Au H t.2.Wz):
  st1.tmps=cur.tmps/\(∀m,(∀t∈Qg true k (.part e te) a,m≠t.2.Wz)->Au st1.heap m=Au cur.heap m)/\ ∀t∈Qg true k (.part e te) a,mK X D w' π H st1.heap t.2.Wz:=by
 obtain ⟨hc,hf,ht⟩:=ht
 cases a<;>simp only [] at ht<;>first|(exact ht.elim)|skip
 rename_i l off len
 obtain ⟨rfl,_,fr,tr,hl⟩:=ht
 have Pw:Au cur.heap l=some (.arr fr tr e te x.1):=(gK _ (Ae.2 rfl)).trans hl
 simp only [OH,St.at,Pw] at he
 split at he
 ·rename_i Jn
  obtain ⟨_,h1⟩:=Jn
  simp only [Aa] at he;subst he
  refine ⟨rfl,λm hm=>Dx _ _ _ _ (hm _ (Ae.2 rfl)),λt Vu=>?_⟩
  have Vu:=Ae.1 Vu
  subst Vu
  refine ⟨_,_,hl,El _ _ _ _ Pw,λ_=>rfl,λ_=>rfl,⟨rfl,h1.symm⟩,λπ' H' _=>?_⟩
  have hb:=(h.heap l).Qi hl
  change Cj X w' π' H' (π l) _
  simp only [Cj,Jw] at hb⊢
  cases hp:π l with
  |none=>rw [hp] at hr;exact hr
  |some q=>
   rw [hp] at hr hb
   obtain ⟨k1,cu,ti,k2,k3,k4,k5,k6⟩:=hr
   exact ⟨⟨k1.1,k1.2,hb.1.2.2⟩,cu,ti,k2,k3,k4,k5,λi y hy=>by
    obtain ⟨es,g1,g2,g3⟩:=k6 i y hy
    exact ⟨es,g1,g2,Cells.flat e es y hf g3⟩,λ_=>nm hf k6⟩
 ·cases he
def ss (X:Ctx) (D:Nat->Prop) (w':World) (π:Pi) (H:List (Nat×OB)) (tk:List (Nat×Loc)) (cur st1:St):Prop:=
 st1.tmps=cur.tmps/\(∀m,(∀t∈tk,m≠t.2.Wz)->Au st1.heap m=Au cur.heap m)/\(∀t∈tk,t.1<Bn->Au st1.heap t.2.Wz=Au cur.heap t.2.Wz)/\(∀t∈tk,¬t.1<Bn->mK X D w' π H st1.heap t.2.Wz)
theorem uJ {D:Nat->Prop} (h:Mv X w π H) {V:List Nat} {πc:Pi} {tks:List (Nat×Loc)} (hs:w.heap.size<=w'.heap.size)
  (hU: ∀t∈tks,∀q b,π t.2.Wz=some q->q.Ct b->b<w.heap.size->(∀r',πc t.1=some r'-> ¬r'.Ct b)->w'.heap[b]?=w.heap[b]?):
  ∀(cs:List (Bool×CK)) (k:Nat) (x:Ins.den cs) (as:List AC) (us:List Value) (o:IOs.den cs) (cur st1:St),k+cs.length<100000->(∀t∈Lj k cs as,t∈tks)->((Lj k cs as).map λt=>t.2.Wz).Nodup->
   rD X w π V H πc k cs x as us->Ll w' D πc k cs o->Ia cs o as cur=some st1->(∀t∈Lj k cs as,Au cur.heap t.2.Wz=Au H t.2.Wz)->
   ss X D w' π H (Lj k cs as) cur st1
 | [],k,x,as,us,o,cur,st1,_,_,_,_,_,he,_=>by
  simp only [Ia,Aa] at he;subst he
  have e0:Lj k [] as= []:=by cases as<;>rfl
  exact ⟨rfl,λ_ _=>rfl,by rw [e0];simp,by rw [e0];simp⟩
 |p::r,k,x,[],us,o,cur,st1,_,_,_,ht,_,_,_=>ht.elim
 |p::r,k,x,a::as,[],o,cur,st1,_,_,_,ht,_,_,_=>ht.elim
 |(io,c)::r,k,x,a::as,u::us,o,cur,st1,hk,Px,RP,ht,ho,he,gK=>by
  simp only [Az] at hk
  simp only [Lj] at Px RP gK⊢
  rw [Kb] at RP
  obtain ⟨n1,n2,n3⟩:=Cy.1 RP
  have apart: ∀t∈Qg io k c a,∀t'∈Lj (k+1) r as,t'.2.Wz≠t.2.Wz:= λt h1 t' h2 e=>n3 _ (Bj.2 ⟨t,h1,rfl⟩) _ (Bj.2 ⟨t',h2,rfl⟩) e.symm
  have rest: ∀(ak:St) (o':IOs.den r),Ll w' D πc (k+1) r o'->Ia r o' as ak=some st1->ak.tmps=cur.tmps->(∀m,(∀t∈Qg io k c a,m≠t.2.Wz)->Au ak.heap m=Au cur.heap m)->
    (∀t∈Qg io k c a,t.1<Bn->Au ak.heap t.2.Wz=Au cur.heap t.2.Wz)->(∀t∈Qg io k c a,¬t.1<Bn->mK X D w' π H ak.heap t.2.Wz)->
    ss X D w' π H (Qg io k c a++Lj (k+1) r as) cur st1:=by
   intro ak o' h1 h2 h3 h4 h5 h6
   obtain ⟨g1,g2,g3,g4⟩:=uJ h hs hU r (k+1) x.2 as us o' ak st1 (by omega) (λt ht=>Px t (Bt _ ht)) n2 ht.2 h1 h2 (λt Vu=>by
    rw [h4 _ λt0 ht0=>apart t0 ht0 t Vu];exact gK t (Bt _ Vu))
   have hd: ∀t∈Qg io k c a,Au st1.heap t.2.Wz=Au ak.heap t.2.Wz:= λt Vu=>g2 _ λt' yd=>(apart t Vu t' yd).symm
   refine ⟨g1.trans h3,λm hm=>?_,λt Vu It=>?_,λt Vu It=>?_⟩
   ·rw [g2 m λt ht=>hm t (Bt _ ht),h4 m λt ht=>hm t (Bc _ ht)]
   ·rcases Bb.1 Vu with Vu|Vu
    ·rw [hd t Vu,h5 t Vu It]
    ·rw [g3 t Vu It,h4 _ λt0 ht0=>apart t0 ht0 t Vu]
   ·rcases Bb.1 Vu with Vu|Vu
    ·obtain ⟨b0,b',q1,q2,q3⟩:=h6 t Vu It
     exact ⟨b0,b',q1,(hd t Vu).trans q2,q3⟩
    ·exact g4 t Vu It
  have same: ∀o',Ll w' D πc (k+1) r o'->Ia r o' as cur=some st1->(∀t∈Qg io k c a,t.1<Bn)->ss X D w' π H (Qg io k c a++Lj (k+1) r as) cur st1:= λo' h1 h2 h3=>rest cur o' h1 h2 rfl (λ_ _=>rfl) (λ_ _ _=>rfl) (λt h4 h5=>absurd (h3 t h4) h5)
  cases io with
  |false=>
   have h3: ∀t∈Qg false k c a,t.1<Bn:= λt h4=>by rcases JG h4 with ⟨h5,_⟩|⟨h5,_⟩<;>(rw [h5];exact fw (by omega))
   cases c with
   |Eu τ=>exact same o ho (by simpa only [Ia] using he) h3
   |row e te=>exact same o ho (by simpa only [Ia] using he) h3
   |Hi e te=>exact same o ho (by simpa only [Ia] using he) h3
   |part e te=>exact same o ho (by simpa only [Ia] using he) h3
   |Bm e te kp=>exact same o ho (by simpa only [Ia] using he) h3
  |true=>
   have row: ∀(ys:c.den) (o':IOs.den r),(∀t∈Qg true k c a,t.1=Dr true k)->fU w' D (πc (Dr true k)) c ys->Ll w' D πc (k+1) r o'->(∃ak,ct cur c ys a=some ak/\Ia r o' as ak=some st1)->ss X D w' π H (Qg true k c a++Lj (k+1) r as) cur st1:=by
    intro ys o' h0 h1 h2 h3
    obtain ⟨ak,hp,h3⟩:=h3
    ·obtain ⟨q1,q2,q3⟩:=VM (k:=k) h hs (λl i j q b ea hq hb It hn=>by
      cases c with
      |Eu τ=>exact absurd (ht.1.2:πc _=none) (by subst ea;simp [ct] at hp)
      |row e te=>subst ea;exact hU (Dr true k, .sub l i j) (Px _ (Bc _ (Ae.2 rfl))) q b hq hb It hn
      |Hi e te=>subst ea;exact hU (Dr true k, .sub l i j) (Px _ (Bc _ (Ae.2 rfl))) q b hq hb It hn
      |Bm e te kp=>exact absurd ht.1.2.1 (by simp)
      |part e te=>exact absurd ht.1.2.2 (by subst ea;exact λh=>h)) ht.1 h1 hp (λt Vu=>gK t (Bc _ Vu))
     exact rest ak o' h2 h3 q1 q2 (λt h4 h5=>absurd h5 (by rw [h0 t h4];exact bl k)) (λt h4 _=>q3 t h4)
   cases c with
   |Eu τ=>exact same o ho (by simpa only [Ia] using he) (λt h4=>by rw [Ac6 h4];exact fw (by omega))
   |Bm e te kp=>exact absurd ht.1.2.1 (by simp)
   |row e te=>
    simp only [Ia] at he
    split at he
    ·rename_i ak hp;exact row o.1 o.2 (λt ht=>Ac7 ht) ho.1 ho.2 ⟨ak,hp,he⟩
    ·cases he
   |Hi e te=>
    simp only [Ia] at he
    split at he
    ·rename_i ak hp;exact row o.1 o.2 (λt ht=>WN ht) ho.1 ho.2 ⟨ak,hp,he⟩
    ·cases he
   |part e te=>
    simp only [Ia] at he
    split at he
    ·rename_i ak hp
     obtain ⟨q1,q2,q3⟩:=VN (k:=k) h ht.1 ho.1 hp (λt Vu=>gK t (Bc _ Vu))
     exact rest ak o.2 ho.2 he q1 q2 (λt h4 h5=>absurd h5 (by rw [WM h4];exact bl k)) (λt h4 _=>q3 t h4)
    ·cases he
theorem NJ {fr:Bool} {c:CK} {x:c.den} {u:Value} {r:Option Real} {D:Nat->Prop} (h:eF w' D r u c x):
  (wG fr c x=none/\r=none)\/ ∃b',wG fr c x=some b'/\ ∀(X:Ctx) π' H',(fr=true-> ∀q,r=some q->X.w0.heap.size<=q.g)->(∀b,Ud π' b\/X.Sc b->D b)->Cj X w' π' H' r b':=by
 cases c with
 |Eu τ=>exact .inl ⟨rfl,h.1⟩
 |row e te=>
  refine .inr ⟨_,rfl,λX π' H' FK hD=>?_⟩
  obtain ⟨_,h⟩:=h
  simp only [fU] at h
  simp only [Cj,Jw]
  cases r with
  |none=>exact h
  |some q=>
   obtain ⟨k1,cu,ti,k2,k3,k4,k5,k6⟩:=h
   exact ⟨⟨k1.1,k1.2,λh1=>FK (by simp only [Af] at h1;exact h1.1) q rfl⟩,cu,ti,k2,k3,k4,k5,λi y hy=>by
    obtain ⟨es,g1,g2,g3⟩:=k6 i y hy
    exact ⟨es,g1,g2,eQ hD g3⟩,λh=>by cases h⟩
 |Hi e te=>exact .inr ⟨_,rfl,λX π' H' _ _=>h.2⟩
 |Bm e te kp=>exact .inr ⟨_,rfl,λX π' H' _ hD=>⟨aA.Ip h.2 λb hb=>hD b (hb.imp id λh=>h.elim id λh=>by cases h.1),trivial⟩⟩
 |part e te=>
  refine .inr ⟨_,rfl,λX π' H' FK hD=>?_⟩
  obtain ⟨_,hf,h⟩:=h
  simp only [Cj,Jw]
  cases r with
  |none=>exact h
  |some q=>
   obtain ⟨k1,cu,ti,k2,k3,k4,k5,k6⟩:=h
   exact ⟨⟨k1.1,k1.2,λh1=>FK (by simp only [Af] at h1;exact h1.1) q rfl⟩,cu,ti,k2,k3,k4,k5,λi y hy=>by
    obtain ⟨es,g1,g2,g3⟩:=k6 i y hy
    exact ⟨es,g1,g2,eQ hD g3⟩,λh=>by cases h⟩
theorem qZ {D:Nat->Prop} {key:Nat->Nat} (ZI: ∀i j,key i=key j->i=j) {fr:Bool} {ρ:Pi} : ∀(cs:List CK) (k:Nat) (x:CKs.den cs) (us:List Value) (H:List (Nat×OB)),Jb w' D ρ k cs x us->
  (∀j,k<=j->j<k+cs.length->Au H (key j)=none)->
  (∀l,(∀j,k<=j->j<k+cs.length->l≠key j)->Au (Yd fr key k cs x H) l=Au H l)/\
  (∀j,k<=j->j<k+cs.length->(Au (Yd fr key k cs x H) (key j)=none/\ρ (Jp j)=none)\/
   ∃b',Au (Yd fr key k cs x H) (key j)=some b'/\ ∀(X:Ctx) π' H',(fr=true-> ∀q,ρ (Jp j)=some q->X.w0.heap.size<=q.g)->(∀b,Ud π' b\/X.Sc b->D b)->Cj X w' π' H' (ρ (Jp j)) b')/\
  (∀π',(∀b,Ud π' b\/X.Sc b->D b)->(∀j,k<=j->j<k+cs.length->π' (key j)=ρ (Jp j))->Mw X w' π' (Yd fr key k cs x H) (bX key k cs x) us)
 | [],k,x,[],H,_,_=>⟨λ_ _=>rfl,λj h1 h2=>by simp at h2;omega,λ_ _ _=>trivial⟩
 | [],_,_,_::_,_,h,_=>h.elim
 |_::_,_,_,[],_,h,_=>h.elim
 |c::r,k,x,u::us,H,h,hn=>by
  simp only [Az] at hn⊢
  simp only [Yd,bX]
  have zD:=hn k (Ao _) (by omega)
  have hH1: ∀l,l≠key k->Au (FW H (key k) (wG fr c x.1)) l=Au H l:=by
   intro l hl
   cases wG fr c x.1 with
   |some b=>exact Pf _ _ _ _ hl
   |none=>rfl
  have Amb:Au (FW H (key k) (wG fr c x.1)) (key k)=wG fr c x.1:=by
   cases wG fr c x.1 with
   |some b=>exact Qj _ _ _ zD
   |none=>exact zD
  generalize (FW H (key k) (wG fr c x.1))=H1 at hH1 Amb⊢
  obtain ⟨g1,g2,g3⟩:=qZ ZI (fr:=fr) r (k+1) x.2 us H1 h.2 (λj h1 h2=>by
   rw [hH1 _ λe=>by have:=ZI _ _ e;omega];exact hn j (by omega) (by omega))
  have hkk:Au (Yd fr key (k+1) r x.2 H1) (key k)=wG fr c x.1:=by
   rw [g1 _ λj h1 h2 e=>by have:=ZI _ _ e;omega];exact Amb
  refine ⟨λl hl=>?_,λj h1 h2=>?_,λπ' hd hπ=>⟨?_,?_⟩⟩
  ·rw [g1 l λj h1 h2=>hl j (by omega) (by omega)]
   exact hH1 l (hl k (Ao _) (by omega))
  ·rcases Nat.eq_or_lt_of_le h1 with e|h1
   ·subst e
    rw [hkk]
    exact NJ h.1
   ·exact g2 j h1 (by omega)
  ·have h1:=h.1
   have hpk:=hπ k (Ao _) (by omega)
   cases c with
   |Eu τ=>
    obtain ⟨ir,c1,c2⟩:=h1.2
    exact ⟨ir,by have:=eQ (fr:=true) hd c1;simpa using this,c2⟩
   |row e te=>exact ⟨_,e.size,List.length x.1,hkk,rfl,by simp,by rw [hpk];exact h1.1⟩
   |Hi e te=>exact ⟨_,e.size,List.length x.1,hkk,rfl,by simp,by rw [hpk];exact h1.1⟩
   |Bm e te kp=>exact ⟨_,1,List.length x.1,hkk,rfl,by simp,by rw [hpk];exact h1.1⟩
   |part e te=>trivial
  ·exact g3 π' hd λj h1 h2=>hπ j (by omega) (by omega)
theorem MX {ks:List Nat} {n:Nat} (h:zT ks n=true):ks.length=n/\ks.Nodup/\ ∀l∈ks,l<Bn:=by
 unfold zT at h
 simp only [Af] at h
 refine ⟨Jl h.1,Yc h.2.1,λl hl=>?_⟩
 have:=Bd.1 h.2.2 l hl
 simpa using this
theorem Rf {ks:List Nat} {j:Nat} (h:j<ks.length):Ea ks j=ks[j]:=by
 unfold Ea
 rw [Ac h]
theorem EH {ks:List Nat} (hn:ks.Nodup) (hl: ∀l∈ks,l<Bn): ∀i j,Ea ks i=Ea ks j->i=j:=by
 intro i j h
 by_cases hi:i<ks.length
 ·by_cases hj:j<ks.length
  ·rw [Rf hi,Rf hj] at h
   rcases Nat.lt_trichotomy i j with It|he|It
   ·exact absurd h (Ew.1 hn i j hi hj It)
   ·exact he
   ·exact absurd h.symm (Ew.1 hn j i hj hi It)
  ·have h1:=hl _ (Aj hi)
   rw [Rf hi] at h
   unfold Ea at h
   rw [Fw (by omega)] at h
   simp only at h
   omega
 ·by_cases hj:j<ks.length
  ·have h1:=hl _ (Aj hj)
   rw [Rf hj] at h
   unfold Ea at h
   rw [Fw (by omega)] at h
   simp only at h
   omega
  ·unfold Ea at h
   rw [Fw (by omega),Fw (by omega)] at h
   simp only at h
   omega
theorem No: ∀(H:List (Nat×OB)) (dead:List Nat) (l:Nat),Au (Xq H dead) l=if l∈dead then none else Au H l
 | [],dead,l=>by simp [Xq,Au]
 |(k,b)::r,dead,l=>by
  simp only [Xq]
  have ih:=No r dead l
  by_cases hk:k∈dead
  ·rw [Ab (by simpa using hk),ih]
   split
   ·rfl
   ·rename_i hl
    simp only [Au]
    rw [Ag (λ(e:k=l)=>hl (e▸hk))]
  ·rw [Ag (by simpa using hk)]
   simp only [Au]
   split
   ·rename_i e;subst e;rw [Ag hk]
   ·exact ih
theorem mem_keys {ks:List Nat} {l:Nat} :l∈ks↔ ∃k,k<ks.length/\l=Ea ks k:=
 ⟨λh=>by obtain ⟨k,hk,e⟩:=Rd h;exact ⟨k,hk,by rw [Rf hk,e]⟩,λ⟨k,hk,e⟩=>by rw [e,Rf hk];exact Aj hk⟩
theorem ec {tks:List (Nat×Loc)} {l:Nat} :l∈mZ tks↔ ∃t∈tks,(t.1<Bn/\t.2.reads=false)/\t.2.Wz=l:=by
 unfold mZ
 simp only [Bj,Cm,Af,Nd,Ef]
 exact ⟨λ⟨t,⟨h1,h2⟩,h3⟩=>⟨t,h1,h2,h3⟩,λ⟨t,h1,h2,h3⟩=>⟨t,⟨h1,h2⟩,h3⟩⟩
theorem zU {tks:List (Nat×Loc)} (h:(tks.map λt=>t.2.Wz).Nodup) {t t':Nat×Loc} (ht:t∈tks) (yd:t'∈tks) (he:t.2.Wz=t'.2.Wz):t=t':=by
 induction tks with
 |nil=>cases ht
 |cons a r ih=>
  simp only [Ca] at h
  obtain ⟨h1,h2⟩:=Cb.1 h
  rcases Be.1 ht with rfl|ht<;>rcases Be.1 yd with rfl|yd
  ·rfl
  ·exact (h1 (Bj.2 ⟨t',yd,he.symm⟩)).elim
  ·exact (h1 (he▸Bj.2 ⟨t,‹t∈r›,rfl⟩)).elim
  ·exact ih h2 ht yd
theorem Jb.full {D:Nat->Prop} {ρ:Pi} : ∀(cs:List CK) (k:Nat) (x:CKs.den cs) (us:List Value),Jb w D ρ k cs x us->Jb w D (λl=>(ρ l).map full) k cs x us
 | [],_,_,[],h=>h
 | [],_,_,_::_,h=>h.elim
 |_::_,_,_,[],h=>h.elim
 |c::r,k,x,u::us,h=>⟨by
   have h1:=h.1
   show eF w D ((ρ (Jp k)).map _) u c x.1
   cases c with
   |Eu τ=>rw [h1.1];exact ⟨rfl,h1.2⟩
   |row e te=>cases hp:ρ (Jp k)<;>(rw [hp] at h1;exact h1)
   |Hi e te=>cases hp:ρ (Jp k)<;>(rw [hp] at h1;exact h1)
   |Bm e te kp=>cases hp:ρ (Jp k)<;>(rw [hp] at h1;exact h1)
   |part e te=>cases hp:ρ (Jp k)<;>(rw [hp] at h1;exact h1),Jb.full r (k+1) x.2 us h.2⟩
theorem Jb.Ag0 {D:Nat->Prop} {ρ:Pi} : ∀(cs:List CK) (k0:Nat) (x:CKs.den cs) (us:List Value),Jb w D ρ k0 cs x us-> ∀j,k0<=j->j<k0+cs.length-> ∀q,ρ (Jp j)=some q->q.Ct q.g
 | [],k0,_,_,_,j,h1,h2,_,_=>by simp at h2;omega
 |_::_,_,_,[],h,_,_,_,_,_=>h.elim
 |c::r,k0,x,u::us,ho,j,h1,h2,q,hq=>by
  rcases Nat.eq_or_lt_of_le h1 with e|h1
  ·subst e
   have:=ho.1
   cases c with
   |Eu τ=>rw [hq] at this;cases this.1
   |row e te=>rw [hq] at this;exact this.2.1.1
   |Hi e te=>rw [hq] at this;exact this.2.1
   |part e te=>rw [hq] at this;exact this.2.2.1.1
   |Bm e te kp=>rw [hq] at this;exact this.2.1
  ·exact Jb.Ag0 r (k0+1) x.2 us ho.2 j h1 (by simp at h2;omega) q hq
theorem Sy.any {D D':Nat->Prop} {r:Option Real} {e:Ty} {xs:List e.den} (hf:e.flat=true) (h:Sy w D r e xs):Sy w D' r e xs:=by
 cases r with
 |none=>exact h
 |some r=>
  obtain ⟨k1,cu,ti,k2,k3,k4,k5,k6⟩:=h
  exact ⟨k1,cu,ti,k2,k3,k4,k5,λi y hy=>by
   obtain ⟨es,g1,g2,g3⟩:=k6 i y hy
   exact ⟨es,g1,g2,Cells.flat e es y hf g3⟩⟩
theorem Jb.any {D D':Nat->Prop} {ρ:Pi} : ∀(cs:List CK) (k:Nat) (x:CKs.den cs) (us:List Value),cs.all (·.flat)=true->Jb w D ρ k cs x us->Jb w D' ρ k cs x us
 | [],_,_,[],_,h=>h
 | [],_,_,_::_,_,h=>h.elim
 |_::_,_,_,[],_,h=>h.elim
 |c::r,k,x,u::us,hf,h=>by
  simp only [Hx,Af] at hf
  refine ⟨?_,Jb.any r (k+1) x.2 us hf.2 h.2⟩
  have h1:=h.1
  cases c with
  |Eu τ=>exact ⟨h1.1,Cs.flat hf.1 h1.2⟩
  |row e te=>exact ⟨h1.1,Sy.any hf.1 h1.2⟩
  |Hi e te=>exact h1
  |part e te=>exact ⟨h1.1,h1.2.1,Sy.any hf.1 h1.2.2⟩
  |Bm e te kp=>exact absurd hf.1 (by simp [CK.flat])
theorem Ll.any {D D':Nat->Prop} {π:Pi} : ∀(cs:List (Bool×CK)) (k:Nat) (x:IOs.den cs),(cs.all λp=>!p.1||p.2.flat)=true->Ll w D π k cs x->Ll w D' π k cs x
 | [],_,_,_,h=>h
 |(false,_)::r,k,x,hf,h=>Ll.any r (k+1) x (by simp only [Hx,Af] at hf;exact hf.2) h
 |(true, .Eu _)::r,k,x,hf,h=>Ll.any r (k+1) x (by simp only [Hx,Af] at hf;exact hf.2) h
 |(true, .Bm _ _ _)::r,k,x,hf,h=>Ll.any r (k+1) x (by simp only [Hx,Af] at hf;exact hf.2) h
 |(true, .row e te)::r,k,x,hf,h=>by
  simp only [Hx,Af,Bool.not_true,Se] at hf
  exact ⟨Sy.any hf.1 h.1,Ll.any r (k+1) x.2 hf.2 h.2⟩
 |(true, .Hi e te)::r,k,x,hf,h=>by
  simp only [Hx,Af,Bool.not_true,Se] at hf
  exact ⟨h.1,Ll.any r (k+1) x.2 hf.2 h.2⟩
 |(true, .part e te)::r,k,x,hf,h=>by
  simp only [Hx,Af,Bool.not_true,Se] at hf
  exact ⟨Sy.any hf.1 h.1,Ll.any r (k+1) x.2 hf.2 h.2⟩
theorem um {tks:List (Nat×Loc)} {l:Nat} :l∈CT tks↔ ∃t∈tks,t.2.reads=true/\t.2.Wz=l:=by
 unfold CT
 simp only [Bj,Cm]
 exact ⟨λ⟨t,⟨h1,h2⟩,h3⟩=>⟨t,h1,h2,h3⟩,λ⟨t,h1,h2,h3⟩=>⟨t,⟨h1,h2⟩,h3⟩⟩
theorem Bl.o1 {st:St} {a:Act} (h:Bl X π st a w) {f:AC->AC} (hu:f .undef= .undef) {gv:Nat->Prop} (TR: ∀b,gv b->Ud π b) (hb:Gw w.heap.size gv w w')
  (Zr: ∀b,b<w.heap.size->Ud π' b->Ud π b)
  (Px: ∀l r b,π' l=some r->r.Ct b->r.cl b) (Aj3: ∀l r b,π' l=some r->r.cl b->(X.w0.heap.size<=b\/X.gv b)/\b<w'.heap.size)
  (Ash: ∀l l' r r' b,π' l=some r->π' l'=some r'->r.cl b->r'.cl b->l=l')
  (al: ∀l,Bn<=l->Au H' l≠none->bC (X.gT l) (π' l))
  (hac:(∀fr τ cs x,Cells w (Da X.w0.heap.size X.Sc π fr) τ cs x->Cells w' (Da X.w0.heap.size X.Sc π' fr) τ cs x)-> ∀c v,Hp X w π st.heap c v->Hp X w' π' H' (f c) v)
  (Adu:Move X w w' π π' st.heap H' f-> ∀l b,Au H' l=some b->Cj X w' π' H' (π' l) b)
  (RQ: ∀l,Au H' l=none->π' l=none):
  Bl X π' {tmps:=st.tmps.map (·.map f),heap:=H'} a w':=by
 have hc: ∀fr τ cs x,Cells w (Da X.w0.heap.size X.Sc π fr) τ cs x->Cells w' (Da X.w0.heap.size X.Sc π' fr) τ cs x:= λfr τ cs x hh=>
  Cells.Ez hb.size (λk hk hn=>hb.block k hk λhg=>hn (.inl (TR k hg))) (λk It hA=>hA.imp (Zr k It) id) τ cs x hh
 have m:Move X w w' π π' st.heap H' f:=⟨hac hc,hc⟩
 refine ⟨⟨⟨hb.os.trans h.1.below.os,hb.tape.trans h.1.below.tape,hb.output.trans h.1.below.output,Ix h.1.below.size hb.size,λk hk hn=>?_⟩,h.1.sc,Px,Aj3,Ash,al,λl=>?_⟩,m.ON hu h.2⟩
 ·refine (hb.block k (Dn hk h.1.below.size) λhg=>?_).trans (h.1.below.block k hk hn)
  rcases (h.1.own (TR k hg)).2 with h1|h1
  ·omega
  ·exact hn h1
 ·cases hh:Au H' l with
  |none=>exact Gd.Ug (RQ l hh) hh
  |some b=>exact Gd.Lg (Adu m l b hh) hh
def fV:Option Real->Option Real->Prop
 |none,none=>True
 |some r,some r'=>r.g=r'.g/\r.o=r'.o/\r.cap=r'.cap
 |_,_=>False
theorem fV.rfl' (r:Option Real):fV r r:=by cases r<;>simp [fV]
theorem fV.some {r:Real} {r':Option Real} (h:fV (some r) r'): ∃q,r'=some q/\r.g=q.g/\r.o=q.o/\r.cap=q.cap:=by
 cases r' with
 |none=>exact h.elim
 |some q=>exact ⟨q,rfl,h⟩
theorem fV.own {r r':Option Real} (h:fV r r') {sz off len:Nat} {v:Value} (hv:Hw r sz off len v):Hw r' sz off len v:=by
 cases r<;>cases r'<;>first|exact h.elim|skip
 ·exact hv
 ·obtain ⟨h1,h2,h3⟩:=h
  obtain ⟨ad,g1,g2,g3⟩:=hv
  exact ⟨ad,by rw [<-h3];exact g1,by rw [<-h3];exact g2,by rw [<-h1,<-h2,<-h3];exact g3⟩
structure OB.Tg (b b':OB):Prop where
 row: ∀sz n,b.row=some (sz,n)-> ∃n',b'.row=some (sz,n')/\n<=n'
 gi: ∀p,b.gi=some p->b'.gi=some p
 wq: ∀p,b.wq=some p->b'.wq=some p
 var: ∀tid vs,b= .var tid vs-> ∃Ux vs',b'= .var Ux vs'
 Vs: ∀v m,b= .Vs v m-> ∃m',b'= .Vs v m'
theorem OB.Tg.map (f:AC->AC) (b:OB):b.Tg (b.map f) where
 row:= λsz n h=>⟨n,by cases b<;>exact h,Ao _⟩
 gi:= λp h=>by cases b<;>exact h
 wq:= λp h=>by cases b<;>exact h
 var:= λtid vs h=>by subst h;exact ⟨_,_,rfl⟩
 Vs:= λv m h=>by subst h;exact ⟨_,rfl⟩
theorem OB.Tg.rfl' (b:OB):b.Tg b where
 row:= λ_sz n h=>⟨n,h,Ao _⟩
 gi:= λ_p h=>h
 wq:= λ_p h=>h
 var:= λ_tid _vs h=>⟨_,_,h⟩
 Vs:= λ_v _m h=>⟨_,h⟩
theorem OB.Tg.trans {a b c:OB} (h:a.Tg b) (k:b.Tg c):a.Tg c where
 row:= λsz n hr=>by
  obtain ⟨n1,h1,h2⟩:=h.row sz n hr
  obtain ⟨n2,h3,h4⟩:=k.row sz n1 h1
  exact ⟨n2,h3,by omega⟩
 gi:= λp hp=>k.gi p (h.gi p hp)
 wq:= λp hp=>k.wq p (h.wq p hp)
 var:= λtid vs hv=>by obtain ⟨t',v',h1⟩:=h.var tid vs hv;exact k.var t' v' h1
 Vs:= λv m hm=>by obtain ⟨m',h1⟩:=h.Vs v m hm;exact k.Vs v m' h1
theorem o0 {f:AC->AC} {D Pt:Nat->Prop} (hf: ∀c,f c= .undef\/(f c=c/\(∀k∈c.refs,¬D k)/\ ∀k i j,c= .sub k i j\/c= .Jv k i j-> ¬Pt k)) (hp: ∀k,¬D k->fV (π k) (π' k))
  (hH: ∀k b,¬D k->Au H k=some b-> ∃b',Au H' k=some b'/\b.Tg b')
  (hg: ∀k r b,¬D k-> ¬Pt k->Au H k=some b->b.gi≠none->π k=some r->w'.heap[r.g]?=w.heap[r.g]?)
  (hc: ∀fr τ cs x,Cells w (Da X.w0.heap.size X.Sc π fr) τ cs x->Cells w' (Da X.w0.heap.size X.Sc π' fr) τ cs x): ∀c v,Hp X w π H c v->Hp X w' π' H' (f c) v:=by
 intro c v h
 rcases hf c with e|⟨e,hr,hs⟩
 ·rw [e];trivial
 rw [e]
 cases c with
 |data fr τ x=>obtain ⟨cs,h1,h2⟩:=h;exact ⟨cs,hc _ _ _ _ h1,h2⟩
 |own k off len=>
  obtain ⟨b,sz,n,h1,h0,h2,h3⟩:=h
  have hk:=hr k (by simp [AC.refs])
  obtain ⟨b',g1,g2⟩:=hH k b hk h1
  obtain ⟨n',g3,g4⟩:=g2.row sz n h0
  exact ⟨b',sz,n',g1,g3,by omega,(hp k hk).own h3⟩
 |Hm k i=>
  obtain ⟨r,tid,vs,h1,h2,h3⟩:=h
  have hk:=hr k (by simp [AC.refs])
  obtain ⟨b',g1,g2⟩:=hH k _ hk h1
  obtain ⟨Ux,vs',rfl⟩:=g2.var tid vs rfl
  obtain ⟨q,q1,q2,_⟩:=(h2▸hp k hk).some
  exact ⟨q,Ux,vs',g1,q1,by rw [<-q2];exact h3⟩
 |Jy k i=>
  obtain ⟨r,b,sz,n,h1,h0,h2,h3,h4⟩:=h
  have hk:=hr k (by simp [AC.refs])
  obtain ⟨b',g1,g2⟩:=hH k b hk h1
  obtain ⟨n',g3,g4⟩:=g2.row sz n h0
  obtain ⟨q,q1,q2,q3,_⟩:=(h3▸hp k hk).some
  exact ⟨q,b',sz,n',g1,g3,by omega,q1,by rw [<-q2,<-q3];exact h4⟩
 |sub k i c=>
  obtain ⟨r,b,sz,n,h1,h0,h2,h3,h4,h5⟩:=h
  have hk:=hr k (by simp [AC.refs])
  obtain ⟨b',g1,g2⟩:=hH k b hk h1
  obtain ⟨q,q1,q2,q3,_⟩:=(h2▸hp k hk).some
  exact ⟨q,b',sz,n,g1,g2.gi _ h0,q1,h3,h4,by rw [<-q2,<-q3,World.cell?_of_block (hg k r b hk (hs k i c (.inl rfl)) h1 (by rw [h0];simp) h2)];exact h5⟩
 |Jv k i c=>
  obtain ⟨r,b,n,sz,g,o,len,cap,h1,h0,h2,h3,h4,h5,h6⟩:=h
  have hk:=hr k (by simp [AC.refs])
  obtain ⟨b',g1,g2⟩:=hH k b hk h1
  obtain ⟨q,q1,q2,q3,_⟩:=(h2▸hp k hk).some
  exact ⟨q,b',n,sz,g,o,len,cap,g1,g2.wq _ h0,q1,h3,h4,by rw [<-q2,<-q3,World.cell?_of_block (hg k r b hk (hs k i c (.inr rfl)) h1 (by cases b<;>first|(cases h0;done)|simp [OB.gi]) h2)];exact h5,h6⟩
 |clo g Ec=>
  obtain ⟨us,h1,h2,h3⟩:=h
  refine ⟨us,h1,h2,λj p hpj=>?_⟩
  obtain ⟨r,tid,vs,h4,h5,h6⟩:=h3 j p hpj
  have hk:=hr p.1 (by simp only [AC.refs,Bj];exact ⟨p,Bq hpj,rfl⟩)
  obtain ⟨b',g1,g2⟩:=hH p.1 _ hk h4
  obtain ⟨Ux,vs',rfl⟩:=g2.var tid vs rfl
  obtain ⟨q,q1,q2,_⟩:=(h5▸hp p.1 hk).some
  exact ⟨q,Ux,vs',g1,q1,by rw [<-q2];exact h6⟩
 |Kg k=>
  obtain ⟨r,vt,m,h1,h2,h3⟩:=h
  have hk:=hr k (by simp [AC.refs])
  obtain ⟨b',g1,g2⟩:=hH k _ hk h1
  obtain ⟨m',rfl⟩:=g2.Vs vt m rfl
  obtain ⟨q,q1,q2,_⟩:=(h2▸hp k hk).some
  exact ⟨q,vt,m',g1,q1,by rw [<-q2];exact h3⟩
 |_=>exact h
theorem Vc (H0:List (Nat×OB)) (ls:List Nat) (n:Nat): ∀(H:List (Nat×OB)) (l:Nat),Au (dp H0 ls n H) l=(Au H l).map λb=>if ls.contains l then b.IG (bS n (Ajo (Au H0 l))) else b
 | [],_=>rfl
 |(k,b)::r,l=>by
  simp only [dp,Au]
  split
  ·rename_i e;subst e;rfl
  ·exact Vc H0 ls n r l
theorem OB.BJ (b:OB) (kp:Option (Nat×Nat)):b.Tg (b.IG kp):=by
 cases b with
 |Bm e te rows out kp0=>exact ⟨λsz n h=>⟨n,h,Ao _⟩,λp h=>h,λp h=>h,(λ_ _ h=>by cases h),(λ_ _ h=>by cases h)⟩
 |_=>exact OB.Tg.rfl' _
theorem fK (ls:List Nat): ∀(l m:List AV) (t:Nat),l.length=m.length->(∃k i c,l.getD t .undef= .at (.sub k i c)/\ls.contains k=true/\(Li ls l m).getD t .undef= .at (.sub k i c))\/(Li ls l m).getD t .undef=m.getD t .undef
 | [],m,t,_=>by cases m<;>exact .inr rfl
 |_::_,[],t,h=>by simp at h
 |a::l,v::m,t,h=>by
  have ih:= λt=>fK ls l m t (by simpa using h)
  have tail: ∀u,Li ls (a::l) (v::m)=u::Li ls l m->(t=0->(∃k i c,(a::l).getD t .undef= .at (.sub k i c)/\ls.contains k=true/\u= .at (.sub k i c))\/u=v)->
    (∃k i c,(a::l).getD t .undef= .at (.sub k i c)/\ls.contains k=true/\(Li ls (a::l) (v::m)).getD t .undef= .at (.sub k i c))\/(Li ls (a::l) (v::m)).getD t .undef=(v::m).getD t .undef:=by
   intro u e h0
   rw [e]
   rcases t with _|t
   ·rcases h0 rfl with ⟨k,i,c,h1,h2,h3⟩|h3
    ·exact .inl ⟨k,i,c,h1,h2,by simpa using h3⟩
    ·exact .inr (by simpa using h3)
   ·simpa only [Nk] using ih t
  cases a with
  | «at»c=>
   cases c with
   |sub k i c=>
    refine tail _ rfl λht=>?_
    subst ht
    by_cases hc:ls.contains k=true
    ·exact .inl ⟨k,i,c,rfl,hc,by rw [Ab hc]⟩
    ·exact .inr (by rw [Ag hc])
   |_=>exact tail _ rfl λ_=> .inr rfl
  |_=>exact tail _ rfl λ_=> .inr rfl
theorem vK {H:List (Nat×OB)} {ls:List Nat} {n:Nat} : ∀ {l:List AV} {t k i c:Nat},dy H ls n l=true->l.getD t .undef= .at (.sub k i c)->ls.contains k=true->i<n/\i<sx H k
 | [],t,k,i,c,_,h,_=>by simp at h
 |a::l,0,k,i,c,ho,h,hc=>by
  simp only [Xl] at h
  subst h
  simp only [dy,hc,Bool.not_true,Se,Af,Nd] at ho
  exact ho.1
 |a::l,t+1,k,i,c,ho,h,hc=>by
  refine vK (l:=l) (t:=t) (c:=c) ?_ (by simpa only [Nk] using h) hc
  cases a with
  | «at»d=>cases d with
   |sub _ _ _=>simp only [dy,Af] at ho;exact ho.2
   |_=>exact ho
  |_=>exact ho
theorem MU {ck st:St} {a:Act} (h0:Bl X π ck a w) (h:Bl X π' st a w') {ls:List Nat} {n:Nat} (hk: ∀l∈ls,xG w w' (π l) (π' l) n) (tS: ∀l∈ls,nF ck.heap l=true)
  (iM:dy st.heap ls n ck.tmps=true):Bl X π' (m8 ck st ls n) a w'/\ ∀c v,Bu X w' π' st.heap c v->Bu X w' π' (m8 ck st ls n).heap c v:=by
 by_cases qG:ls= []
 ·subst qG;exact ⟨h,λ_ _ h=>h⟩
 have Tq:m8 ck st ls n= {tmps:=Li ls ck.tmps st.tmps,heap:=dp ck.heap ls n st.heap} :=by
  cases ls with
  |nil=>exact absurd rfl qG
  |cons _ _=>rfl
 rw [Tq]
 have XN: ∀l∈ls,∃e te rows out kp,Au ck.heap l=some (.Bm e te rows out kp):= λl hl=>by
  have:=tS l hl
  unfold nF at this
  split at this
  ·exact ⟨_,_,_,_,_,by assumption⟩
  ·cases this
 have srv: ∀k b,Au st.heap k=some b-> ∃b',Au (dp ck.heap ls n st.heap) k=some b'/\b.Tg b':= λk b hb=>by
  rw [Vc,hb]
  refine ⟨_,rfl,?_⟩
  dsimp only
  split
  ·exact OB.BJ b _
  ·exact OB.Tg.rfl' b
 have hac:(∀fr τ cs x,Cells w' (Da X.w0.heap.size X.Sc π' fr) τ cs x->Cells w' (Da X.w0.heap.size X.Sc π' fr) τ cs x)-> ∀c v,Hp X w' π' st.heap c v->Hp X w' π' (dp ck.heap ls n st.heap) c v:= λhc=>
  o0 (f:= λc=>c) (D:= λ_=>False) (Pt:= λ_=>False) (λc=> .inr ⟨rfl,λ_ _ h=>h,λ_ _ _ _ h=>h⟩) (λk _=>fV.rfl' _) (λk b _ hb=>srv k b hb) (λ_ _ _ _ _ _ _ _=>rfl) hc
 have h1:Bl X π' {tmps:=st.tmps.map (·.map λc=>c),heap:=dp ck.heap ls n st.heap} a w':=by
  refine h.o1 rfl (gv:= λ_=>False) (λ_ hf=>hf.elim) (Gw.refl _ _ _) (λ_ _ ho=>ho) h.1.sub h.1.place h.1.inj (λl hl Ik=>h.1.gT l hl λh2=>Ik (by rw [Vc,h2];rfl)) hac (λm l b hb=>?_) (λl hl=>?_)
  ·rw [Vc] at hb
   cases h2:Au st.heap l with
   |none=>rw [h2] at hb;cases hb
   |some b0=>
    rw [h2] at hb
    simp only [Am,Aa] at hb
    have hbk:=(h.1.heap l).Qi h2
    have KK:=hbk.move m (Ao _) (λr0 c h0 h1=>h.1.sub _ r0 c h0 h1) λ_ _ _ _ _=>rfl
    rw [show OB.map (λc=>c) b0=b0 from OB.GS b0] at KK
    split at hb
    ·rename_i hc
     have hl:l∈ls:=by simpa using hc
     cases b0 with
     |Bm e te rows out kp=>
      simp only [OB.IG] at hb
      subst hb
      refine ⟨KK.1,?_⟩
      obtain ⟨e0,te0,Ahf,Au2,kp0,hg⟩:=XN l hl
      have zD:=((h0.1.heap l).Qi hg).2
      rw [hg]
      simp only [Ajo]
      have wx:=hk l hl
      cases kp0 with
      |none=>trivial
      |some p=>
       obtain ⟨l0,n0⟩:=p
       simp only [KeptAt,bS] at zD⊢
       cases zH:X.gT l0 with
       |none=>
        cases hp:π l with
        |none=>
         rw [hp] at wx
         cases nB:π' l with
         |none=>trivial
         |some q=>rw [nB] at wx;exact wx.elim
        |some q=>rw [zH,hp] at zD;exact zD.elim
       |some r0=>
        cases hp:π l with
        |none=>rw [zH,hp] at zD;exact zD.elim
        |some q=>
         rw [zH,hp] at zD
         rw [hp] at wx
         cases nB:π' l with
         |none=>rw [nB] at wx;exact wx.elim
         |some q'=>
          rw [nB] at wx
          obtain ⟨k1,k2,k3,k4⟩:=wx
          obtain ⟨g1,g2,g3,g4⟩:=zD
          refine ⟨k1.trans g1,k2.trans g2,k3.trans g3,λj hj hc=>?_⟩
          have e1:=g4 j (by omega) hc
          have e2:=k4 j (by omega) (by omega)
          rw [g1,g2] at e2
          rw [<-e1,e2]
     |_=>simp only [OB.IG] at hb;subst hb;exact KK
    ·subst hb;exact KK
  ·rw [Vc] at hl
   cases h2:Au st.heap l with
   |none=>exact (h.1.heap l).emp h2
   |some b=>rw [h2] at hl;cases hl
 have RK: ∀c v,Bu X w' π' st.heap c v->Bu X w' π' (dp ck.heap ls n st.heap) c v:= λc v hv=>by
  have m:Move X w' w' π' π' st.heap (dp ck.heap ls n st.heap) (λc=>c):=⟨hac λ_ _ _ _ h=>h,λ_ _ _ _ h=>h⟩
  have:=m.av hv
  rwa [AC.map_id] at this
 refine ⟨⟨h1.1,⟨?_,h.2.defers,λt=>?_⟩⟩,RK⟩
 ·have: ∀(l m:List AV),(Li ls l m).length=m.length:=by
   intro l
   induction l with
   |nil=>intro m;cases m<;>rfl
   |cons a l ih=>
    intro m
    cases m with
    |nil=>cases a with
     | «at»c=>cases c<;>rfl
     |_=>rfl
    |cons v m=>cases a with
     | «at»c=>cases c<;>simp only [Li,Az,ih m]
     |_=>simp only [Li,Az,ih m]
  show a.tmps.size=(Li ls ck.tmps st.tmps).length
  rw [this];exact h.2.size
 ·show Bu X w' π' _ ((Li ls ck.tmps st.tmps).getD t .undef) _
  rcases fK ls ck.tmps st.tmps t (by rw [<-h0.2.size,<-h.2.size]) with ⟨k,i,c,g1,g2,g3⟩|g
  ·rw [g3]
   have Sa:k∈ls:=by simpa using g2
   obtain ⟨i1,i2⟩:=vK iM g1 g2
   have hv:=h0.2.tmps t
   rw [show ck.get t=_ from g1] at hv
   obtain ⟨r,b,sz,n',e1,e2,e3,e4,⟨e5,e6⟩,e7⟩:=hv
   obtain ⟨e0,te0,Ahf,Au2,kp0,hg⟩:=XN k Sa
   rw [hg] at e1;cases e1
   simp only [OB.gi,Aa,Ad] at e2
   obtain ⟨rfl,rfl⟩:=e2
   have wx:=hk k Sa
   rw [e3] at wx
   cases nB:π' k with
   |none=>rw [nB] at wx;exact wx.elim
   |some q'=>
    rw [nB] at wx
    obtain ⟨k1,k2,k3,k4⟩:=wx
    have tR:Ahf.length<=r.cap:=by
     have:=((h0.1.heap k).Qi hg).1
     rw [e3] at this
     obtain ⟨_,_,_,_,_,_,h5,_⟩:=this
     exact h5
    unfold sx at i2
    split at i2
    ·rename_i e9 te9 Aox Azn kp9 hg9
     refine ⟨q',_,1,Aox.length,by rw [Vc,hg9];rfl,?_,nB,i2,⟨e5,e6⟩,?_⟩
     ·dsimp only
      split<;>rfl
     ·have l4:c=0:=by omega
      subst l4
      rw [k1,k2]
      rw [Fq,Ex] at e7⊢
      rw [k4 i i1 (by omega)];exact e7
    ·omega
  ·rw [g]
   exact RK _ _ (h.2.tmps t)
theorem pW {ins:List (Bool×CK)} {as:List AC} {pl:List Nat} {st:St} :(rV ins as pl st).tmps=st.tmps:=by
 unfold rV
 split
 ·rfl
 ·split<;>rfl
theorem OU {ins:List (Bool×CK)} {as:List AC} {pl:List Nat} {st:St} {m:Nat} (hm:m∉pl):Au (rV ins as pl st).heap m=Au st.heap m:=by
 unfold rV
 split
 ·rfl
 ·rename_i l r
  split
  ·exact Dx _ _ _ _ λe=>hm (e▸Iw)
  ·rfl
theorem VT {ins:List (Bool×CK)} {as:List AC} {l:Nat} {st:St} {tid:TypeId} {vs:List AC} (hl:Au st.heap l=some (.var tid vs)):Au (rV ins as [l] st).heap l=some (.var tid (gy ins vs as)):=by
 simp only [rV,St.at,hl]
 exact El _ _ _ _ hl
theorem yG {α:Type} (ins:List (Bool×CK)) (as:List α):gy ins [] as= []:=by
 rcases ins with _|⟨⟨_|_,c⟩,r⟩<;>rfl
theorem pM {α:Type} : ∀(ins:List (Bool×CK)) (vs as:List α),(gy ins vs as).length=vs.length
 | [],vs,as=>by rw [gy];all_goals simp
 |p::r,[],as=>by rw [yG]
 |(true,c)::r,v::vs,as=>by simp only [gy,Az,pM r vs as]
 |(false,c)::r,v::vs,[]=>by rw [gy];all_goals simp
 |(false,c)::r,v::vs,a::as=>by simp only [gy,Az,pM r vs as]
theorem VK {st:St} {a:Act} (h:Bl X π st a w) {s:MSpec} {mQ:List AV} {vs:List Value} (hlen:mQ.length=vs.length) (RK: ∀(i:Nat) c v,mQ[i]?=some c->vs[i]?=some v->Bu X w π st.heap c v)
  {pl:List Nat} {cells:List AC} {rest:List AV} (he:SJ st s mQ=some (pl,cells,rest)):
  ∃(g:Nat) (cus yZ:List Value),rest.length=yZ.length/\(∀(i:Nat) c v,rest[i]?=some c->yZ[i]?=some v->Bu X w π st.heap c v)/\Mw X w π st.heap cells cus/\
   ((s.ptr=none/\pl= []/\cells= []/\cus= []/\vs=yZ)\/
    ∃p l q,s.ptr=some p/\pl= [l]/\π l=some q/\q.Ct q.g/\g=q.g/\Au st.heap l=some (.var p.1 cells)/\cells.length=p.2/\vs= .pointer (some ⟨g,0,none⟩)::yZ/\w.heap[g]?=some (.cells cus.toArray p.1 (0,0))/\Gi X w π st.heap cells cus):=by
 unfold SJ at he
 split at he
 ·rename_i hp
  simp only [Aa,Ad] at he
  obtain ⟨rfl,rfl,rfl⟩:=he
  exact ⟨0,[],vs,hlen,RK,trivial, .inl ⟨hp,rfl,rfl,rfl,rfl⟩⟩
 ·rename_i p hp
  split at he
  ·rename_i l i Aw7
   split at he
   ·rename_i tid cs hl
    split at he
    ·rename_i hc
     obtain ⟨rfl,hc,rfl⟩:=hc
     simp only [Aa,Ad] at he
     obtain ⟨rfl,rfl,rfl⟩:=he
     unfold St.at at hl
     cases vs with
     |nil=>simp at hlen
     |cons v vs=>
      obtain ⟨r,Ux,vs',h1,h2,rfl⟩:=RK 0 _ v rfl rfl
      rw [hl] at h1;cases h1
      obtain ⟨r',h3,h4,cur,h5,h6⟩:=(h.1.heap l).Qi hl
      rw [h2] at h3;cases h3
      exact ⟨r.g,cur.toList,vs,by simpa using hlen,λi c v h7 h8=>RK (i+1) c v (by simpa using h7) (by simpa using h8),Mw.of h6, .inr ⟨p,l,r,hp,rfl,h2,h4,rfl,hl,hc,rfl,by simpa using h5,h6⟩⟩
    ·cases he
   ·cases he
  ·cases he
theorem kh {V:List Nat} {πc:Pi} {dead part:List Nat} (hπ: ∀l,l∉dead->π' l=π l) (Kp: ∀l b sz n,l∉dead->Au H l=some b->b.row=some (sz,n)-> ∃b',Au H' l=some b'/\b'.row=some (sz,n)):
  ∀(ins:List (Bool×CK)) (k:Nat) (cells oM:List AC) (x:Ins.den ins) (us:List Value) (o:IOs.den ins) (cur st1:St) (news:List AC) (Sb cs:List Value),rD X w π V H πc k ins x (cells++oM) us->We ins cells=true->
   Ia ins o (cells++oM) cur=some st1->Ej πc k ins o cells.length cs Sb->Mw X w' π' H' news Sb->Mw X w' π' H' (gy ins (cells.map (Cq dead part)) news) cs
 |ins,k,[],oM,x,us,o,cur,st1,news,Sb,cs,_,_,_,hb,_=>by
  have hb:cs= []:=by rcases ins with _|⟨⟨_|_,c⟩,r⟩<;>(try cases c)<;>simpa [Ej] using hb
  rw [hb,List.map_nil,yG]
  trivial
 | [],k,a::cells,oM,x,us,o,cur,st1,news,Sb,cs,_,hk,_,_,_=>by simp [We] at hk
 |(true, .Eu τ)::r,k,a::cells,oM,x,us,o,cur,st1,news,Sb,cs,_,hk,_,_,_=>by simp [We] at hk
 |(true, .part e te)::r,k,a::cells,oM,x,us,o,cur,st1,news,Sb,cs,_,hk,_,_,_=>by simp [We] at hk
 |(true, .Bm e te _)::r,k,a::cells,oM,x,us,o,cur,st1,news,Sb,cs,_,hk,_,_,_=>by simp [We] at hk
 |(true, .row e te)::r,k,a::cells,oM,x,us,o,cur,st1,news,Sb,cs,ht,hk,hp,hb,hn=>by
  cases a<;>simp only [We,Dh] at hk
  rename_i l off len
  cases us with
  |nil=>exact ht.elim
  |cons u0 us=>
  cases cs with
  |nil=>exact hb.elim
  |cons u cs=>
  obtain ⟨⟨_,h1⟩,h2⟩:=ht
  simp only [Tt] at h1
  obtain ⟨h3,rfl,rfl,fr,tr,h4⟩:=h1
  obtain ⟨h5,h6⟩:=hb
  simp only [Ma,Ia] at hp
  split at hp
  rotate_left
  ·cases hp
  rename_i ak hpc
  have TS:List.length o.1=List.length x.1:=by
   simp only [ct] at hpc
   repeat' split at hpc
   all_goals first|(cases hpc;done)|(rename_i hc;exact hc.2.1)
  refine ⟨?_,kh hπ Kp r (k+1) cells oM x.2 us o.2 ak st1 news Sb cs h2 hk hp h6 hn⟩
  by_cases hd:l∈dead
  ·have:Cq dead part (.own l 0 (List.length x.1))= .undef:=by
    unfold Cq
    rw [Ab (by simp [AC.refs,hd])]
   rw [this];trivial
  ·rw [cH (by simpa [AC.refs] using hd) (by intro l i j e;rcases e with e|e<;>cases e)]
   obtain ⟨b',g1,g2⟩:=Kp l _ e.size (List.length x.1) hd h4 rfl
   refine ⟨b',e.size,List.length x.1,g1,g2,by omega,?_⟩
   rw [hπ l hd]
   rw [h3,TS] at h5
   cases hp:π l<;>(rw [hp] at h5;exact h5)
 |(true, .Hi e te)::r,k,a::cells,oM,x,us,o,cur,st1,news,Sb,cs,ht,hk,hp,hb,hn=>by
  cases a<;>simp only [We,Dh] at hk
  rename_i l off len
  cases us with
  |nil=>exact ht.elim
  |cons u0 us=>
  cases cs with
  |nil=>exact hb.elim
  |cons u cs=>
  obtain ⟨⟨_,h1⟩,h2⟩:=ht
  simp only [Tt] at h1
  obtain ⟨h3,rfl,rfl,h4⟩:=h1
  obtain ⟨h5,h6⟩:=hb
  simp only [Ma,Ia] at hp
  split at hp
  rotate_left
  ·cases hp
  rename_i ak hpc
  have TS:List.length o.1=List.length x.1:=by
   simp only [ct] at hpc
   repeat' split at hpc
   all_goals first|(cases hpc;done)|(rename_i hc;exact hc.2.1)
  refine ⟨?_,kh hπ Kp r (k+1) cells oM x.2 us o.2 ak st1 news Sb cs h2 hk hp h6 hn⟩
  by_cases hd:l∈dead
  ·have:Cq dead part (.own l 0 (List.length x.1))= .undef:=by
    unfold Cq
    rw [Ab (by simp [AC.refs,hd])]
   rw [this];trivial
  ·rw [cH (by simpa [AC.refs] using hd) (by intro l i j e;rcases e with e|e<;>cases e)]
   obtain ⟨b',g1,g2⟩:=Kp l _ e.size (List.length x.1) hd h4 rfl
   refine ⟨b',e.size,List.length x.1,g1,g2,by omega,?_⟩
   rw [hπ l hd]
   rw [h3,TS] at h5
   cases hp:π l<;>(rw [hp] at h5;exact h5)
 |(false,c)::r,k,a::cells,oM,x,[],o,cur,st1,news,Sb,cs,ht,hk,hp,hb,hn=>ht.elim
 |(false,c)::r,k,a::cells,oM,x,u0::us,o,cur,st1,news,Sb,[],ht,hk,hp,hb,hn=>by cases c<;>exact hb.elim
 |(false,c)::r,k,a::cells,oM,x,u0::us,o,cur,st1,news,[],u::cs,ht,hk,hp,hb,hn=>by cases c<;>exact hb.elim
 |(false,c)::r,k,a::cells,oM,x,u0::us,o,cur,st1,[],u'::Sb,u::cs,ht,hk,hp,hb,hn=>hn.elim
 |(false,c)::r,k,a::cells,oM,x,u0::us,o,cur,st1,na::news,u'::Sb,u::cs,ht,hk,hp,hb,hn=>by
  have hb2:u=u'/\Ej πc (k+1) r o cells.length cs Sb:=by cases c<;>exact hb
  obtain ⟨rfl,hb3⟩:=hb2
  have hp:Ia r o (cells++oM) cur=some st1:=by cases c<;>simpa only [Ma,Ia] using hp
  have hk:We r cells=true:=by cases c<;>simpa only [We] using hk
  exact ⟨hn.1,kh hπ Kp r (k+1) cells oM x.2 us o cur st1 news Sb cs ht.2 hk hp hb3 hn.2⟩
theorem JI {V:List Nat} {πc:Pi} : ∀(cs:List (Bool×CK)) (k0:Nat) (x:Ins.den cs) (as:List AC) (us:List Value),k0+cs.length<100000->rD X w π V H πc k0 cs x as us-> ∀k l,(Dr false k,Loc.row l)∈Lj k0 cs as->πc (Dr false k)=(π l).map full
 | [],_,_,[],_,_,_,_,_,h=>by cases h
 | [],_,_,_::_,_,_,_,_,_,h=>by cases h
 |_::_,_,_,[],_,_,_,_,_,h=>by cases h
 |_::_,_,_,_::_,[],_,h,_,_,_=>h.elim
 |(io,c)::r,k0,x,a::as,u::us,hk,h,k,l,ht=>by
  simp only [Az] at hk
  simp only [Lj] at ht
  rcases Bb.1 ht with ht|ht
  ·obtain ⟨⟨_,h1⟩,_⟩:=h
   cases c with
   |Eu τ=>cases a<;>simp [Qg,views] at ht
   |row e te=>
    cases a<;>simp [Qg] at ht
    obtain ⟨e1,rfl⟩:=ht
    simp only [Tt] at h1
    rw [e1];exact h1.1
   |Hi e te=>
    cases a<;>simp [Qg] at ht
    obtain ⟨e1,rfl⟩:=ht
    simp only [Tt] at h1
    rw [e1];exact h1.1
   |part e te=>
    cases a<;>simp [Qg] at ht
    obtain ⟨e1,rfl⟩:=ht
    simp only [Tt] at h1
    rw [e1];exact h1.2.1
   |Bm e te kp=>
    cases a<;>simp [Qg] at ht
    obtain ⟨e1,rfl⟩:=ht
    simp only [Tt] at h1
    rw [e1];exact h1.2.1
  ·exact JI r (k0+1) x.2 as us (by omega) h.2 k l ht
theorem rE {st:St} {a:Act} (h:Bl X π st a w) {f:FuncId} {s:MSpec} (hs:By P f s) (dst:Option Nat) (mQ:List AV) (vs:List Value) (hlen:mQ.length=vs.length)
  (RK: ∀(i:Nat) c v,mQ[i]?=some c->vs[i]?=some v->Bu X w π st.heap c v) (av:AV) (st':St) (he:Xt st dst s mQ=some (av,st')):
  Calls P f vs.toArray w λe w'=> ∃v,e= .returned v/\ ∃π',Bl X π' st' a w'/\Bu X w' π' st'.heap av v:=by
 unfold Xt at he
 split at he
 ·cases he
 rename_i pl cells rest At1
 split at he
 ·cases he
 rename_i oM oQ
 split at he
 ·cases he
 rename_i x tks htk
 split at he
 rotate_left
 ·cases he
 rename_i Jn
 simp only [Af,Nd] at Jn
 obtain ⟨⟨⟨⟨RP,tX⟩,hon⟩,iL⟩,Amy,TW⟩:=Jn
 have TW: ∀l∈pl,l∉(tks.map λt=>t.2.Wz)/\l∉Si s tks (dst.getD 0):= λl hl=>by
  have:=Bd.1 TW l hl
  simp only [Ef,<-Ii,Jk] at this
  exact ⟨λhm=>this (Bc _ hm),λhm=>this (Bt _ hm)⟩
 split at he
 ·cases he
 rename_i r o ZE
 split at he
 ·cases he
 rename_i st1 ZQ
 obtain ⟨g,cus,yZ,ZL,Arw,At4,cq⟩:=VK h hlen RK At1
 obtain ⟨xm,rfl,KP,At3⟩:=a9 s.Je rest yZ oM ZL Arw oQ
 have hrc:=At4.append At3
 have Qx:oR s w g (cus++xm) vs:=by
  unfold oR
  rcases cq with ⟨h1,_,_,h2,h3⟩|⟨p,l,q,h1,_,_,_,_,_,h2,h3,h4,h5⟩
  ·rw [h1];subst h2;exact ⟨h3,KP⟩
  ·rw [h1]
   have hl:cus.length=p.2:=h5.1.trans h2
   simp only
   rw [List.drop_append_of_le_length (by omega),List.take_append_of_le_length (by omega),aC (by omega),List.drop_of_length_le (by omega)]
   refine ⟨h3,KP,by simp;omega,h4,λu hu=>?_⟩
   obtain ⟨i,hi,rfl⟩:=Cl.1 hu
   obtain ⟨u',h6,h7,_⟩:=h5.2 i (cells[i]'(by have:=h5.1;omega)) (Ac _)
   rw [Ac hi] at h6
   rw [Ba h6];exact h7
 have TX: ∀l∈pl,∃p q,s.ptr=some p/\pl= [l]/\π l=some q/\q.Ct q.g/\g=q.g/\Au st.heap l=some (.var p.1 cells)/\cells.length=p.2:= λl hl=>by
  rcases cq with ⟨_,h1,_⟩|⟨p,l',q,h1,h2,h3,h4,h5,h6,h7,_⟩
  ·rw [h1] at hl;cases hl
  ·rw [h2] at hl
   have:=Ae.1 hl
   subst this
   exact ⟨p,q,h1,h2,h3,h4,h5,h6,h7⟩
 have TR: ∀b,s.gv g b-> ∃l∈pl,∃q,π l=some q/\q.Ct b/\b=q.g:= λb ⟨h1,h2⟩=>by
  rcases cq with ⟨h3,_⟩|⟨p,l',q,_,h4,h5,h6,h7,_⟩
  ·rw [h3] at h1;cases h1
  ·exact ⟨l',by rw [h4];exact Ae.2 rfl,q,h5,by rw [h2,h7];exact h6,h2.trans h7⟩
 obtain ⟨as,has⟩: ∃as,as=cells++oM:=⟨_,rfl⟩
 obtain ⟨us,ZW⟩: ∃us,us=cus++xm:=⟨_,rfl⟩
 rw [<-has] at hrc htk ZQ
 rw [<-ZW] at hrc Qx
 let V:=(tks.filter λt=>t.2.reads).map λt=>t.2.Wz
 have hV: ∀t∈tks,t.2.reads=true->t.2.Wz∈V:= λt ht hr=>Bj.2 ⟨t,Cm.2 ⟨ht,hr⟩,rfl⟩
 have hV': ∀l∈V,∃t∈tks,t.2.reads=true/\t.2.Wz=l:= λl hl=>by
  obtain ⟨t,h1,h2⟩:=Bj.1 hl
  exact ⟨t,(Cm.1 h1).1,(Cm.1 h1).2,h2⟩
 clear_value V
 obtain ⟨etk,πc,hT,ZA,Asf,Wd⟩:=vS h.1 (V:=V) s.ins 0 as us x tks (by omega) hrc htk hV
 have ME:=Yc RP
 rw [etk] at ME
 have Zr: ∀b,Ud πc b-> ∃t∈Lj 0 s.ins as,t.2.reads=false/\ ∃q,π t.2.Wz=some q/\q.Ct b/\ ∀l i j,t.2= .sub l i j->b≠q.g:= λb ⟨c,q,h1,h2⟩=>by
  obtain ⟨t,t1,_,t3⟩:=Wd c q b h1 h2
  exact ⟨t,t1,t3⟩
 have MH: ∀b,Ud πc b->Ud π b:= λb hb=>let ⟨t,_,_,q,h1,h2,_⟩:=Zr b hb;⟨_,q,h1,h2⟩
 have jW:eI πc (λb=>b<w.heap.size):=⟨λl q b h1 h2=>(h.1.own (MH b ⟨l,q,h1,h2⟩)).1,λl l' q q' b h1 h2 h3 h4=>by
  obtain ⟨t,t1,t2,_,p,t3,t4,_⟩:=Wd l q b h1 h3
  obtain ⟨t',t1',t2',_,p',t3',t4',_⟩:=Wd l' q' b h2 h4
  have:=zU ME t1 t1' (h.1.apart t3 t3' t4 t4')
  rw [<-t2,<-t2',this]⟩
 have Ame: ∀k l,(Dr false k,Loc.row l)∈Lj 0 s.ins as->πc (Dr false k)=(π l).map full:= λk l ht=>
  JI s.ins 0 x as us (by omega) hT k l ht
 have Ao2: ∀b,Ud πc b->Om X π V b:= λb hb=> .inl ⟨MH b hb,λl hl r' hr hf=>by
  obtain ⟨t,t1,t0,q,t3,t4,_⟩:=Zr b hb
  obtain ⟨t',t1',t2',rfl⟩:=hV' l hl
  rw [etk] at t1'
  have:=zU ME t1 t1' (h.1.apart t3 hr t4 hf)
  subst this
  rw [t0] at t2';cases t2'⟩
 let S:Nat->Prop:= λb=> ¬Ud πc b/\Om X π V b
 have hS: ∀b,S b->b<w.heap.size/\ ¬Ud πc b:= λb hb=>⟨by
  rcases hb.2 with h1|h1
  ·exact (h.1.own h1.1).1
  ·exact Dn (h.1.sc b h1).1 h.1.below.size,hb.1⟩
 have Ae7: ∀l∈pl,∀t∈Lj 0 s.ins as,t.2.Wz≠l:= λl hl t ht e=>(TW l hl).1 (Bj.2 ⟨t,etk▸ht,e⟩)
 have hSg:s.ptr.isSome=true->S g:= λhps=>by
  obtain ⟨l,hl,q,h1,h2,h3⟩:=TR g ⟨hps,rfl⟩
  have hno: ¬Ud πc g:= λhb=>by
   obtain ⟨t,t1,_,q',t3,t4,_⟩:=Zr g hb
   exact Ae7 l hl t t1 (h.1.apart t3 h1 t4 h2)
  refine ⟨hno, .inl ⟨⟨l,q,h1,h2⟩,λl' Km r' eE hf=>?_⟩⟩
  obtain ⟨t',t1',_,rfl⟩:=hV' l' Km
  rw [etk] at t1'
  exact Ae7 l hl t' t1' (h.1.apart eE h1 hf h2)
 refine (hs.calls w S πc us x r o g vs Qx hSg (eH.Ip (λb hb=>hb.elim (Ao2 b) λh=>h.2) s.ins 0 x us (hT.Aoa s.ins 0 x as us)) jW hS Asf ZE).mono ?_
 rintro e w' ⟨v,Sb,DI,rfl,eV,qC,Adt,zC,An8,ZO,Ajj,yb⟩
 obtain ⟨ρ,Aed,MG,ZN,Agf⟩: ∃ρ:Pi,(∀l,ρ l=(DI l).map full)/\Jb w' (gH S πc DI) ρ 0 s.outs r Sb/\eI ρ (λb=>b<w'.heap.size/\(w.heap.size<=b\/ ∃l q,l<Bn/\πc l=some q/\q.Ct b))/\ ∀l q,ρ l=some q->q.cl=q.Ct:=by
  have un: ∀l q,(DI l).map full=some q-> ∃q0,DI l=some q0/\q=full q0:= λl q hq=>by
   cases hp:DI l with
   |none=>rw [hp] at hq;cases hq
   |some q0=>rw [hp] at hq;exact ⟨q0,rfl,(Ba hq).symm⟩
  refine ⟨λl=>(DI l).map full,λ_=>rfl,Jb.full s.outs 0 r Sb An8,⟨λl q b h1 h2=>?_,λl l' q q' b h1 h2 h3 h4=>?_⟩,λl q h1=>?_⟩
  ·obtain ⟨q0,h5,rfl⟩:=un l q h1
   exact ZO.aL l q0 b h5 h2
  ·obtain ⟨q0,h5,rfl⟩:=un l q h1
   obtain ⟨q0',h6,rfl⟩:=un l' q' h2
   exact ZO.inj l l' q0 q0' b h5 h6 h3 h4
  ·obtain ⟨q0,_,rfl⟩:=un l q h1
   rfl
 refine ⟨v,rfl,?_⟩
 split at he
 ·cases he
 rename_i av0 gM
 split at he
 rotate_left
 ·cases he
 rename_i Px
 simp only [Aa,Ad] at he
 obtain ⟨rfl,rfl⟩:=he
 let D1:Nat->Prop:=if s.flat then λ_=>True else gH S πc DI
 have Asi:Ll w' D1 πc 0 s.ins o:=by
  show Ll w' (if s.flat then λ_=>True else gH S πc DI) πc 0 s.ins o
  split
  ·rename_i hf
   unfold MSpec.flat at hf
   simp only [Af] at hf
   exact Ll.any s.ins 0 o hf.2 zC
  ·exact zC
 have An9:Jb w' D1 ρ 0 s.outs r Sb:=by
  show Jb w' (if s.flat then λ_=>True else gH S πc DI) ρ 0 s.outs r Sb
  split
  ·rename_i hf
   unfold MSpec.flat at hf
   simp only [Af] at hf
   exact Jb.any s.outs 0 r Sb hf.1 MG
  ·exact MG
 obtain ⟨q1,q2,q3,q4⟩:=uJ (D:=D1) (X:=X) (π:=π) (H:=st.heap) h.1 Adt.size (tks:=Lj 0 s.ins as) (πc:=πc) (λt ht q b hq hb It hn=>Adt.block b It λMF=>by
   rcases MF with ⟨c,r',h1,h2⟩|hg
   rotate_left
   ·obtain ⟨l,hl,q',h1,h2,_⟩:=TR b hg
    exact Ae7 l hl t ht (h.1.apart hq h1 hb h2)
   obtain ⟨t',t1,t2,_,p,t3,t4,_⟩:=Wd c r' b h1 h2
   have:=zU ME ht t1 (h.1.apart hq t3 hb t4)
   subst this
   exact hn r' (t2▸h1) h2) s.ins 0 x as us o st st1 (by omega) (λ_ h=>h) ME hT Asi ZQ (λ_ _=>rfl)
 have Aj8: ∀t∈Lj 0 s.ins as,t.2.reads=true->t.1<Bn:=by
  have: ∀(cs:List (Bool×CK)) (k:Nat) (as:List AC),k+cs.length<100000-> ∀t∈Lj k cs as,t.2.reads=true->t.1<Bn:=by
   intro cs
   induction cs with
   |nil=>intro k as _ t ht;cases as<;>cases ht
   |cons p r ih=>
    intro k as hk t ht hr
    simp only [Az] at hk
    cases as with
    |nil=>cases ht
    |cons a as=>
     simp only [Lj] at ht
     rcases Bb.1 ht with ht|ht
     ·rcases JG ht with ⟨_,h1⟩|⟨h1,_⟩
      ·rw [hr] at h1;cases h1
      ·rw [h1];exact fw (by omega)
     ·exact ih (k+1) as (by omega) t ht hr
  exact this s.ins 0 as (by omega)
 let d:=dst.getD 0
 let ks:=Si s tks d
 let dead:=mZ tks++ks++(if s.flat then [] else CT tks)
 let part:=whole tks
 have At6:s.outs.length+(mn s d).length=s.Tx:=by unfold MSpec.Tx mn;cases s.rp<;>rfl
 obtain ⟨Ait,Aso,Agp⟩:ks.length=s.Tx/\ks.Nodup/\ ∀l∈ks,l<Bn:=by
  have:=MX tX
  rw [At6] at this
  exact this
 have hno:s.outs.length<=s.Tx:=by unfold MSpec.Tx;omega
 have hvk: ∀tid,s.rp=some tid->Ea ks s.outs.length=Tm d/\s.Tx=s.outs.length+1:= λtid Xz=>by
  have h1:s.Tx=s.outs.length+1:=by unfold MSpec.Tx;rw [Xz]
  refine ⟨?_,h1⟩
  have h2:ks=mT s tks d++ [Tm d]:=by show mT s tks d++mn s d=_;unfold mn;rw [Xz]
  have h3:(mT s tks d).length=s.outs.length:=by rw [h2] at Ait;simp at Ait;omega
  rw [Rf (by rw [Ait];omega)]
  simp only [h2]
  rw [List.getElem_append_right (by omega)]
  simp [h3]
 have ZJ:=EH Aso Agp
 have Asm: ∀j,j<s.Tx->Ea ks j<Bn:= λj hj=>Agp _ (mem_keys.2 ⟨j,by omega,rfl⟩)
 let π':Pi:= λl=>match (List.range s.Tx).find? λj=>decide (Ea ks j=l) with
  |some j=>ρ (Jp j)
  |none=>if l∈dead then none else π l
 have wv: ∀j,j<s.Tx->π' (Ea ks j)=ρ (Jp j):= λj hj=>by
  show (match (List.range s.Tx).find? λi=>decide (Ea ks i=Ea ks j) with|some i=>ρ (Jp i)|none=>_)=_
  cases hf:(List.range s.Tx).find? λi=>decide (Ea ks i=Ea ks j) with
  |none=>
   have:=List.find?_eq_none.1 hf j (Gg.2 hj)
   simp at this
  |some i=>
   have:=List.find?_some hf
   rw [ZJ i j (Gs this)]
 have tW: ∀j,j<s.Tx->Ea ks j∈dead:= λj hj=>Bc _ (Bt _ (mem_keys.2 ⟨j,by omega,rfl⟩))
 have zE: ∀l,(¬ ∃j,j<s.Tx/\l=Ea ks j)->π' l=if l∈dead then none else π l:= λl hl=>by
  show (match (List.range s.Tx).find? λi=>decide (Ea ks i=l) with|some i=>ρ (Jp i)|none=>_)=_
  cases hf:(List.range s.Tx).find? λi=>decide (Ea ks i=l) with
  |none=>rfl
  |some i=>
   have h1:=List.find?_some hf
   exact absurd ⟨i,Gg.1 (List.mem_of_find?_eq_some hf),(Gs h1).symm⟩ hl
 have Aa2: ∀l,l∉dead->π' l=π l:= λl hl=>by
  rw [zE l (λ⟨j,h1,h2⟩=>hl (h2▸tW j h1)),Ag hl]
 have hD1: ∀b,Ud π' b\/X.Sc b->D1 b:=by
  intro b hb
  show (if s.flat then λ_=>True else gH S πc DI) b
  split
  ·trivial
  rename_i hnf
  rcases hb with ⟨l,q,hl,hf⟩|hb
  ·by_cases hk: ∃j,j<s.Tx/\l=Ea ks j
   ·obtain ⟨j,hj,rfl⟩:=hk
    rw [wv j hj,Aed] at hl
    cases hp:DI (Jp j) with
    |none=>rw [hp] at hl;cases hl
    |some q0=>rw [hp] at hl;simp only [Am,Aa] at hl;subst hl;exact .inr (.inr ⟨Jp j,q0,hp,hf⟩)
   ·have e0:π' l=if l∈dead then none else π l:=zE l hk
    rw [e0] at hl
    split at hl
    ·cases hl
    ·rename_i Ae3
     by_cases ho:Ud πc b
     ·obtain ⟨c,q',hc,hcb⟩:=ho
      obtain ⟨t,t1,t2,t0,p,t3,t4,_⟩:=Wd c q' b hc hcb
      have zF:=h.1.apart hl t3 hf t4
      refine .inr (.inl ⟨c,q',Cc λhn=>?_,hc,hcb⟩)
      exact Ae3 (Bc _ (Bc _ (ec.2 ⟨t,etk▸t1,⟨by rw [t2];omega,t0⟩,zF.symm⟩)))
     ·refine .inl ⟨ho, .inl ⟨⟨l,q,hl,hf⟩,λl0 hl0 r0 hr0 hf0=>?_⟩⟩
      have:=h.1.apart hl hr0 hf hf0
      subst this
      exact Ae3 (Bt _ (by rw [Ag hnf];exact um.2 (hV' l hl0)))
  ·refine .inl ⟨λho=>?_, .inr hb⟩
   have h1:=h.1.sc b hb
   rcases (h.1.own (MH b ho)).2 with h2|h2
   ·omega
   ·exact h1.2 h2
 have hpd: ∀l∈pl,l∉dead:= λl hl hd=>by
  rcases Bb.1 hd with hd|hd
  ·rcases Bb.1 hd with hd|hd
   ·obtain ⟨t,ht,_,e⟩:=ec.1 hd
    exact (TW l hl).1 (Bj.2 ⟨t,ht,e⟩)
   ·exact (TW l hl).2 hd
  ·split at hd
   ·cases hd
   ·obtain ⟨t,ht,_,e⟩:=um.1 hd
    exact (TW l hl).1 (Bj.2 ⟨t,ht,e⟩)
 have Ais: ∀j,j<s.Tx->Ea ks j∉pl:= λj hj hp=>hpd _ hp (tW j hj)
 let bv:Option OB:=s.rp.map λtid=> .var tid ((bX (Ea ks) 0 s.outs r).drop s.Zv)
 let H1:=(rV s.ins (bX (Ea ks) 0 s.outs r) pl (st1.cG dead part)).heap
 have hH1: ∀l,l∉pl->Au H1 l=if l∈dead then none else (Au st1.heap l).map (OB.map (Cq dead part)):= λl hl=>by
  show Au (rV _ _ _ _).heap l=_
  rw [OU hl]
  show Au (Xq (st1.heap.map λp=>(p.1,p.2.map (Cq dead part))) dead) l=_
  rw [No,Ou]
 let H2:=FW H1 (Tm d) bv
 have hvd: ∀tid,s.rp=some tid->Tm d∈dead/\Tm d∉pl:= λtid Xz=>by
  obtain ⟨e1,e2⟩:=hvk tid Xz
  rw [<-e1]
  exact ⟨tW _ (by omega),Ais _ (by omega)⟩
 have Amc: ∀l,(∀tid,s.rp=some tid->l≠Tm d)->Au H2 l=Au H1 l:= λl hl=>by
  show Au (FW H1 (Tm d) (s.rp.map _)) l=_
  cases KO:s.rp with
  |none=>rfl
  |some tid=>exact Pf _ _ _ _ (hl tid KO)
 have Arh: ∀tid,s.rp=some tid->Au H2 (Tm d)=some (.var tid ((bX (Ea ks) 0 s.outs r).drop s.Zv)):= λtid Xz=>by
  show Au (FW H1 (Tm d) (s.rp.map _)) (Tm d)=_
  rw [Xz]
  exact Qj _ _ _ (by rw [hH1 _ (hvd tid Xz).2,Ab (hvd tid Xz).1])
 have hkv: ∀j,j<s.outs.length-> ∀tid,s.rp=some tid->Ea ks j≠Tm d:= λj hj tid Xz e=>by
  have:=ZJ j s.outs.length (e.trans (hvk tid Xz).1.symm)
  omega
 have hH2: ∀l,l∉pl->(∀tid,s.rp=some tid->l≠Tm d)->Au H2 l=if l∈dead then none else (Au st1.heap l).map (OB.map (Cq dead part)):= λl hl hv=>by
  rw [Amc l hv,hH1 l hl]
 let H':=Yd (RD st (mZ tks)) (Ea ks) 0 s.outs r H2
 obtain ⟨n1,n2,n3⟩:=qZ (D:=D1) (X:=X) (key:=Ea ks) ZJ (fr:=RD st (mZ tks)) (ρ:=ρ) s.outs 0 r Sb H2 An9 (λj _ hj=>by
  rw [hH2 _ (Ais j (by omega)) (hkv j (by omega)),Ab (tW j (by omega))])
 have pj: ∀l,l∉dead->l∉pl->Au H' l=(Au st1.heap l).map (OB.map (Cq dead part)):= λl hl tY=>by
  show Au (Yd _ _ _ _ _ _) l=_
  rw [n1 l λj _ hj e=>hl (e▸tW j (by omega)),hH2 l tY (λtid Xz e=>hl (e▸(hvd tid Xz).1)),Ag hl]
 have Ado: ∀l,l∈dead->(∀j,j<s.Tx->l≠Ea ks j)->Au H' l=none:= λl hl hj=>by
  show Au (Yd _ _ _ _ _ _) l=_
  rw [n1 l λj _ h2=>hj j (by omega),hH2 l (λhp=>hpd l hp hl) (λtid Xz e=>hj s.outs.length (by have:=(hvk tid Xz).2;omega) (e.trans (hvk tid Xz).1.symm)),Ab hl]
 have newAt: ∀l b',Au H' l=some b'->(l∈dead\/Au st.heap l=none)-> ∃j,j<s.Tx/\l=Ea ks j:=by
  intro l b' hb hd
  refine Cc λhn=>?_
  have sA: ∀j,j<s.Tx->l≠Ea ks j:= λj hj e=>hn ⟨j,hj,e⟩
  rcases Classical.em (l∈dead) with YZ|YZ
  ·rw [Ado l YZ sA] at hb;cases hb
  ·rcases hd with hd|hd
   ·exact YZ hd
   ·rw [pj l YZ (λhp=>by obtain ⟨_,_,_,_,_,_,_,h1,_⟩:=TX l hp;rw [hd] at h1;cases h1)] at hb
    have:Au st1.heap l=none:=by
     by_cases hi: ∃t∈Lj 0 s.ins as,t.2.Wz=l
     ·obtain ⟨t,ht,e⟩:=hi
      by_cases It:t.1<Bn
      ·rw [<-e,q3 t ht It,e];exact hd
      ·obtain ⟨b0,_,h1,_⟩:=q4 t ht It
       rw [e,hd] at h1;cases h1
     ·rw [q2 l λt ht e=>hi ⟨t,ht,e.symm⟩];exact hd
    rw [this] at hb;cases hb
 have Aii: ∀k,RD st (mZ tks)=true-> ∀q,ρ (Jp k)=some q->q.Ct q.g->X.w0.heap.size<=q.g:=by
  intro k FK q hq hg
  rcases (ZN.aL _ q _ hq hg).2 with h1|⟨c,p,h1,h2,h3⟩
  ·exact Ix h.1.below.size h1
  ·obtain ⟨t,t1,t2,t0,p',t3,t4,_⟩:=Wd c p _ h2 h3
   have hm:t.2.Wz∈mZ tks:=ec.2 ⟨t,etk▸t1,⟨by rw [t2];exact h1,t0⟩,rfl⟩
   have:=Bd.1 FK _ hm
   split at this
   ·rename_i fr tr e te xs hl
    unfold St.at at hl
    have hb:=(h.1.heap t.2.Wz).Qi hl
    simp only [Cj,Jw,t3] at hb
    rw [hb.1.2.1 _ t4]
    exact hb.1.2.2 this
   ·cases this
 have Aig: ∀k q,ρ (Jp k)=some q->k<s.outs.length->q.Ct q.g:=by
  intro k q hq hk
  exact Jb.Ag0 s.outs 0 r Sb MG k (Iq _) ((Bv _).symm▸hk) q hq
 have hinv: ∀l,l∉dead->(∃t∈Lj 0 s.ins as,t.2.reads=false/\t.2.Wz=l)->mK X D1 w' π st.heap st1.heap l:=by
  rintro l hd ⟨t,ht,h0,rfl⟩
  by_cases It:t.1<Bn
  ·exact absurd (Bc _ (Bc _ (ec.2 ⟨t,etk▸ht,⟨It,h0⟩,rfl⟩))) hd
  ·exact q4 t ht It
 have zG: ∀l,(¬ ∃t∈Lj 0 s.ins as,t.2.reads=false/\t.2.Wz=l)->Au st1.heap l=Au st.heap l:= λl hn=>by
  by_cases hi: ∃t∈Lj 0 s.ins as,t.2.Wz=l
  ·obtain ⟨t,ht,rfl⟩:=hi
   have hr:t.2.reads=true:=by
    cases h0:t.2.reads with
    |true=>rfl
    |false=>exact absurd ⟨t,ht,h0,rfl⟩ hn
   exact q3 t ht (Aj8 t ht hr)
  ·exact q2 l λt ht e=>hi ⟨t,ht,e.symm⟩
 have Ag8: ∀l∈pl,∀p,s.ptr=some p->Au H' l=some (.var p.1 (gy s.ins (cells.map (Cq dead part)) (bX (Ea ks) 0 s.outs r))):= λl hl p hp=>by
  obtain ⟨p',q,h1,h2,_,_,_,h3,_⟩:=TX l hl
  rw [hp] at h1;cases h1
  show Au (Yd _ _ _ _ _ _) l=_
  rw [n1 l λj _ hj e=>Ais j (by omega) (e▸hl),Amc l (λtid Xz e=>(hvd tid Xz).2 (e▸hl))]
  show Au (rV _ _ _ _).heap l=_
  rw [h2]
  refine VT ?_
  show Au (Xq (st1.heap.map λp=>(p.1,p.2.map (Cq dead part))) dead) l=_
  rw [No,Ou,Ag (hpd l hl),zG l (λ⟨t,ht,_,e⟩=>Ae7 l hl t ht e),h3]
  rfl
 have Agr: ∀j,j<s.Tx->s.outs.length<=j-> ∃tid,s.rp=some tid/\j=s.outs.length:= λj h1 h2=>by
  cases KO:s.rp with
  |none=>unfold MSpec.Tx at h1;rw [KO] at h1;simp at h1;omega
  |some tid=>exact ⟨tid,rfl,by have:=(hvk tid KO).2;omega⟩
 have hHv: ∀tid,s.rp=some tid->Au H' (Tm d)=some (.var tid ((bX (Ea ks) 0 s.outs r).drop s.Zv)):= λtid Xz=>by
  show Au (Yd _ _ _ _ _ _) _=_
  rw [n1 _ λj _ hj e=>hkv j (by omega) tid Xz e.symm,Arh tid Xz]
 suffices An0:Bl X π' (lM st st1 d s pl tks r) a w'/\Bu X w' π' (lM st st1 d s pl tks r).heap av0 v by
  obtain ⟨m1,m2⟩:=An0
  have qG: ∀(kj:List (Nat×Nat)) (l:Nat),l∈bR st.heap ks tks kj->nF st.heap l=true/\ ∃k j t,(k,j)∈kj/\t∈tks/\t=(Dr false k,Loc.row l)/\ks[j]?=some l:=by
   intro kj
   induction kj with
   |nil=>intro l hl;cases hl
   |cons p kj ih=>
    intro l hl
    obtain ⟨k,j⟩:=p
    have up:l∈bR st.heap ks tks kj->nF st.heap l=true/\ ∃k' j' t,(k',j')∈(k,j)::kj/\t∈tks/\t=(Dr false k',Loc.row l)/\ks[j']?=some l:= λhl=>by
     obtain ⟨h1,k',j',t,h2,h3⟩:=ih l hl
     exact ⟨h1,k',j',t,As _ h2,h3⟩
    simp only [bR] at hl
    split at hl
    ·rename_i x0 l1 l2 h1 h2
     split at hl
     ·rename_i hc
      simp only [Af] at hc
      rcases Be.1 hl with rfl|hl
      ·have:=List.find?_some h1
       have e1:=Jl this
       have e2:=Jl hc.1
       dsimp only at e1
       exact ⟨hc.2,k,j,_,Iw,List.mem_of_find?_eq_some h1,by rw [e1],by rw [h2,e2]⟩
      ·exact up hl
     ·exact up hl
    ·exact up hl
  obtain ⟨r1,r2⟩:=MU h m1 (ls:=bR st.heap ks tks s.keeps) (n:=s.Ez x) (λl hl=>by
   obtain ⟨_,k,j,t,h1,h2,h3,h4⟩:=qG s.keeps l hl
   have hj:j<ks.length:=(An.1 h4).1
   have XP:Ea ks j=l:=by
    rw [Rf hj]
    rw [Ac hj] at h4
    exact Ba h4
   have wx:=yb (k,j) h1
   rw [show π' l=ρ (Jp j) by rw [<-XP];exact wv j (by omega),Aed]
   have hc:πc (Dr false k)=(π l).map full:=Ame k l (by rw [<-h3,<-etk];exact h2)
   dsimp only at wx
   rw [hc] at wx
   cases hp:π l<;>cases hq:DI (Jp j)<;>(rw [hp,hq] at wx;exact wx)) (λl hl=>(qG s.keeps l hl).1) Px
  exact ⟨π',r1,r2 av0 v m2⟩
 refine ⟨?_,?_⟩
 ·have hx:=Bl.Ai0 (π':=π') (H':=H') (dead:=dead) (part:=part) (inv:= λl=>(∃t∈Lj 0 s.ins as,t.2.reads=false/\t.2.Wz=l)\/l∈pl) (gv:= λb=>Ud πc b\/s.gv g b) h (λb hb=>by
    rcases hb with hb|hb
    ·obtain ⟨t,h1,h0,q,h2,h3,_⟩:=Zr b hb
     exact ⟨_,q, .inl ⟨t,h1,h0,rfl⟩,h2,h3⟩
    ·obtain ⟨l,hl,q,h1,h2,_⟩:=TR b hb
     exact ⟨l,q, .inr hl,h1,h2⟩) Adt (λl b0 hd h0=>⟨Aa2 l hd,?_⟩) (λl b' hb hd=>?_) (λl hl=>?_) (λm q hd hp hm hxa=>?_)
  ·have:({tmps:=(rV s.ins (bX (Ea ks) 0 s.outs r) pl (st1.cG dead part)).tmps,heap:=H'} :St)= {tmps:=st.tmps.map (·.map (Cq dead part)),heap:=H'} :=by
    rw [pW]
    show ({tmps:=st1.tmps.map (·.map (Cq dead part)),heap:=H'} :St)=_
    rw [q1]
   show Bl X π' ({tmps:=(rV s.ins (bX (Ea ks) 0 s.outs r) pl (st1.cG dead part)).tmps,heap:=H'} :St) a w'
   rw [this]
   exact hx
  ·by_cases XO:l∈pl
   ·obtain ⟨p,q,h1,h2,h3,h4,h5,h6,h7⟩:=TX l XO
    rw [h0] at h6;cases h6
    have iJ:=Ag8 l XO p h1
    refine .inr ⟨_,iJ,⟨rfl,by rw [pM]⟩,λm=>?_⟩
    unfold gU at qC
    rw [h1] at qC
    obtain ⟨cs,k1,k2,k3⟩:=qC
    rw [<-h7] at k3
    refine ⟨q,h3,h4,cs.toArray,by rw [<-h5];exact k1,?_⟩
    refine Mw.to (kh (H:=st.heap) Aa2 (λl1 b1 sz n hd1 zB UB=>?_) s.ins 0 cells oM x us o st st1 (bX (Ea ks) 0 s.outs r) Sb cs (has▸hT) Amy (has▸ZQ) k3 (n3 π' hD1 (λj _ hj=>wv j (by omega)))) (by simpa using k2)
    have hnp:l1∉pl:= λhp=>by
     obtain ⟨_,_,_,_,_,_,_,h8,_⟩:=TX l1 hp
     rw [zB] at h8;cases h8;cases UB
    by_cases hi: ∃t∈Lj 0 s.ins as,t.2.reads=false/\t.2.Wz=l1
    ·obtain ⟨b1,b',e1,e2,e3,e4,e5,e6⟩:=hinv l1 hd1 hi
     rw [zB] at e1;cases e1
     exact ⟨b',by rw [pj l1 hd1 hnp,e2];simp [e4],by rw [e5.row];exact UB⟩
    ·exact ⟨_,by rw [pj l1 hd1 hnp,zG l1 hi,zB];rfl,by rw [OB.BF];exact UB⟩
   by_cases hi: ∃t∈Lj 0 s.ins as,t.2.reads=false/\t.2.Wz=l
   ·obtain ⟨b1,b',e1,e2,e3,e4,e5,e6⟩:=hinv l hd hi
    rw [h0] at e1;cases e1
    exact .inr ⟨b',by rw [pj l hd XO,e2];simp [e4],by rw [e3];exact e5,λ_=>e6 π' H' hD1⟩
   ·exact .inl ⟨λhh=>hh.elim hi XO,by rw [pj l hd XO,zG l hi,h0];rfl⟩
  ·obtain ⟨j,hj,rfl⟩:=newAt l b' hb hd
   refine ⟨Asm j hj,?_,λq b hq=>?_⟩
   ·rw [wv j hj]
    rcases Nat.lt_or_ge j s.outs.length with hjo|hjo
    ·rcases n2 j (Iq _) (by omega) with ⟨e1,_⟩|⟨b2,e1,e2⟩
     ·rw [show Au H' (Ea ks j)=none from e1] at hb;cases hb
     ·rw [show Au H' (Ea ks j)=some b2 from e1] at hb;cases hb
      exact e2 X π' H' (λhf q hq=>Aii j hf q hq (Aig j q hq hjo)) hD1
    ·obtain ⟨tid,Xz,hj0⟩:=Agr j hj hjo
     subst hj0
     rw [(hvk tid Xz).1,hHv tid Xz] at hb;cases hb
     unfold qh at eV
     rw [Xz] at eV
     obtain ⟨q,y1,y2,y3,y4,_⟩:=eV
     rw [Aed,y1]
     exact ⟨full q,rfl,y2,_,y3,Mw.to (Mw.take s.Zv (n3 π' hD1 (λj _ hj=>wv j (by omega)))).2 (by simpa using y4)⟩
   ·rw [wv j hj] at hq
    have Pw:=Agf _ q hq
    refine ⟨λhf=>by rw [Pw];exact hf,λhf=>?_⟩
    rw [Pw] at hf
    obtain ⟨h1,h2⟩:=ZN.aL _ q b hq hf
    refine ⟨h1,h2.imp id ?_,λl2 r2 hd2 RS hf2=>?_⟩
    ·rintro ⟨c,p,h3,h4,h5⟩
     obtain ⟨t,t1,t2,t0,p',t3,t4,_⟩:=Wd c p b h4 h5
     exact ⟨t.2.Wz,p',Bc _ (Bc _ (ec.2 ⟨t,etk▸t1,⟨by rw [t2];exact h3,t0⟩,rfl⟩)),t3,t4⟩
    ·by_cases hk: ∃j,j<s.Tx/\l2=Ea ks j
     ·obtain ⟨j2,hj2,rfl⟩:=hk
      rw [wv j2 hj2] at RS
      rw [Agf _ r2 RS] at hf2
      have:=ZN.inj _ _ r2 q b RS hq hf2 hf
      unfold Jp at this
      have:j2=j:=by omega
      rw [this]
     ·have e0:π' l2=if l2∈dead then none else π l2:=zE l2 hk
      rw [e0] at RS
      split at RS
      ·cases RS
      ·rename_i Ae3
       rcases hd2 with hd2|hd2
       ·exact absurd hd2 Ae3
       ·rw [(h.1.heap l2).emp hd2] at RS;cases RS
  ·by_cases hk: ∃j,j<s.Tx/\l=Ea ks j
   ·obtain ⟨j,hj,rfl⟩:=hk
    rw [wv j hj]
    rcases Nat.lt_or_ge j s.outs.length with hjo|hjo
    ·rcases n2 j (Iq _) (by omega) with ⟨_,e1⟩|⟨b2,e1,_⟩
     ·exact e1
     ·rw [show Au H' (Ea ks j)=some b2 from e1] at hl;cases hl
    ·obtain ⟨tid,Xz,hj0⟩:=Agr j hj hjo
     subst hj0
     rw [(hvk tid Xz).1,hHv tid Xz] at hl;cases hl
   ·have e0:π' l=if l∈dead then none else π l:=zE l hk
    rw [e0]
    split
    ·rfl
    ·rename_i hd
     by_cases XO:l∈pl
     ·obtain ⟨p,_,h1,_⟩:=TX l XO
      rw [Ag8 l XO p h1] at hl;cases hl
     rw [pj l hd XO] at hl
     by_cases hi: ∃t∈Lj 0 s.ins as,t.2.reads=false/\t.2.Wz=l
     ·obtain ⟨_,b',_,e2,_⟩:=hinv l hd hi
      rw [e2] at hl;cases hl
     ·rw [zG l hi] at hl
      cases h0:Au st.heap l with
      |none=>exact (h.1.heap l).emp h0
      |some b=>rw [h0] at hl;cases hl
  ·refine Adt.block _ (h.1.lt hm).1 λMF=>?_
   rcases MF with ho|hg
   rotate_left
   ·obtain ⟨l,hl,q',h1,h2,_⟩:=TR _ hg
    have zF:=h.1.apart hm h1 (h.1.Ct hm) h2
    obtain ⟨_,_,_,_,_,_,_,h3,_⟩:=TX l hl
    obtain ⟨b,hxa,hxb⟩:=hxa
    rw [zF,h3] at hxa;cases hxa
    exact hxb rfl
   obtain ⟨t,t1,t0,p,t3,t4,t5⟩:=Zr _ ho
   have zF:=h.1.apart hm t3 (h.1.Ct hm) t4
   have hpq:p=q:=by rw [<-zF,hm] at t3;exact (Ba t3).symm
   cases ht2:t.2 with
   |row l=>
    refine hp ?_
    show m∈whole tks
    unfold whole
    exact Hj.2 ⟨t,etk▸t1,by rw [ht2,zF,ht2];simp [Loc.Wz]⟩
   |sub l i j=>exact t5 l i j ht2 (by rw [hpq])
   |view l=>rw [ht2] at t0;cases t0
 ·have At5:=n3 π' hD1 (λj _ hj=>wv j (by omega))
  cases KO:s.rp with
  |some tid=>
   unfold qh at eV
   rw [KO] at eV
   obtain ⟨q,y1,y2,y3,y4,rfl⟩:=eV
   unfold Af1 at gM
   rw [KO] at gM
   simp only [Aa] at gM;subst gM
   refine ⟨full q,tid,_,hHv tid KO,?_,rfl⟩
   rw [<-(hvk tid KO).1,wv _ (by have:=(hvk tid KO).2;omega),Aed,y1]
   rfl
  |none=>
  unfold qh at eV
  rw [KO] at eV
  obtain ⟨eV,Atd⟩:=eV
  unfold Af1 at gM
  rw [KO] at gM
  simp only at gM
  obtain ⟨g1,g2,g3,g4⟩:=dS s.Hz _ (Sb.drop s.Zv) Atd (Mw.take s.Zv At5).2
  unfold Aow at gM
  unfold Abe at eV
  split at gM
  ·rename_i hm
   rw [Ab hm] at eV
   simp only [Aa] at gM;subst gM
   subst eV
   exact ⟨_,rfl,g3.symm,g4⟩
  ·rename_i hm
   rw [Ag hm] at eV
   split at gM
   ·rename_i av1 hga
    simp only [Aa] at gM;subst gM
    rcases eV with eV|eV
    ·exact g2 0 _ v (by rw [hga];rfl) (by rw [eV];rfl)
    ·rw [hga,eV] at g1;cases g1
   ·simp only [Aa] at gM;subst gM;trivial
   ·cases gM
end
end Go.Proofs.YtfolipnappekaaaGreat
