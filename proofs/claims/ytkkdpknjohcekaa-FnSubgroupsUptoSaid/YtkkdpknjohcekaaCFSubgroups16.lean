/-
  Part 17 of the proof that the statement FnSubgroups holds.
-/
import Derived.Test.YtkkdpknjohcekaaCFSubgroups15
namespace Go.Proofs.Ytkkdpknjohcekaa
open Go.RowKit
section
variable {P:Program} {T:Tab} {X:Ctx} {w w':World} {π π':Pi} {H H':List (Nat×OB)}
theorem bj (k:Nat): ¬Ed true k<Bp:=by unfold Ed Bp;simp
theorem fS {k:Nat} (h:k<100000):Ed false k<Bp:=by unfold Ed Bp;simp;omega
def nj (X:Ctx) (D:Nat->Prop) (w':World) (π:Pi) (H Hn:List (Nat×OB)) (l:Nat):Prop:=
 ∃b0 b',Aw H l=some b0/\Aw Hn l=some b'/\(∀f,OB.map f b0=b0)/\(∀f,OB.map f b'=b')/\b0.fE b'/\ ∀π' H',(∀b,Vu π' b\/X.Sc b->D b)->Cn X w' π' H' (π l) b'
theorem Acq {io:Bool} {k:Nat} {τ:Ty} {a:AC} {t:Nat×Loc} (h:t∈Qd io k (.Fe τ) a):t.1=Ed false k:=by
 cases a<;>simp [Qd,views] at h<;>first|(obtain ⟨_,⟨_,_⟩,rfl⟩:=h;rfl)|(rw [h])
theorem WM {io:Bool} {k:Nat} {e:Ty} {te:TypeId} {a:AC} {t:Nat×Loc} (h:t∈Qd io k (.part e te) a):t.1=Ed io k:=by cases a<;>simp [Qd] at h<;>rw [h]
theorem Acr {io:Bool} {k:Nat} {e:Ty} {te:TypeId} {a:AC} {t:Nat×Loc} (h:t∈Qd io k (.row e te) a):t.1=Ed io k:=by cases a<;>simp [Qd] at h<;>rw [h]
theorem WN {io:Bool} {k:Nat} {e:Ty} {te:TypeId} {a:AC} {t:Nat×Loc} (h:t∈Qd io k (.Ho e te) a):t.1=Ed io k:=by cases a<;>simp [Qd] at h<;>rw [h]
theorem fi {D:Nat->Prop} {π':Pi} {fr:Bool} {e:Ty} {es:List Value} {y:e.den} (hD: ∀b,Vu π' b\/X.Sc b->D b) (h:Cells w' D e es y):Cells w' (De X.w0.heap.size X.Sc π' (fr&&e.flat)) e es y:=by
 cases hf:e.flat with
 |true=>exact Cells.flat e es y hf h
 |false=>exact Cells.Fm (Aq _) (λ_ _ _=>rfl) (λb _ hb=>by
   rcases hb with hb|hb|⟨hb,_⟩
   ·exact hD b (.inl hb)
   ·exact hD b (.inr hb)
   ·simp at hb) e es y h
theorem WO {D P:Nat->Prop} {g o:Nat} {cur:Array Value} {tr:Bool} {e:Ty} {xs:List e.den}
  (h: ∀(i:Nat) (x:e.den),xs[i]?=some x-> ∃es:List Value,es.length=e.size/\(∀j u,es[j]?=some u->cur[(o+i)*e.size+j]?=some u)/\Cells w' D e es x) (ht:(tr&&e.flat)=true):Xi w' P g o cur e xs:=by
 simp only [Ai] at ht
 exact nO ht.2 h
theorem VN {D:Nat->Prop} (h:Mr X w π H) {k:Nat} {c:CK} {ys:c.den} {a:AC} {u:Value} {r:Option Real} {x:c.den} {cur st1:St} (hs:w.heap.size<=w'.heap.size)
  (hU: ∀l i j q b,a= .sub l i j->π l=some q->q.Cz b->b<w.heap.size->(∀r',r=some r'-> ¬r'.Cz b)->w'.heap[b]?=w.heap[b]?)
  {V:List Nat} (ht:eX w (Of X π V) r u c x/\To w π H true a u r c x) (hr:gz w' D r c ys) (he:cw cur c ys a=some st1) (ia: ∀t∈Qd true k c a,Aw cur.heap t.2.Xb=Aw H t.2.Xb):
  st1.tmps=cur.tmps/\(∀m,(∀t∈Qd true k c a,m≠t.2.Xb)->Aw st1.heap m=Aw cur.heap m)/\ ∀t∈Qd true k c a,nj X D w' π H st1.heap t.2.Xb:=by
 obtain ⟨hc,ht⟩:=ht
 cases c with
 |Fe τ=>cases a<;>simp [cw] at he;subst he;exact ⟨rfl,λ_ _=>rfl,λt ht=>by simp [Qd] at ht⟩
 |row e te=>
  simp only [To] at ht
  cases a<;>simp only [] at ht<;>first|(exact ht.elim)|skip
  ·simp only [cw,Aa] at he;subst he
   exact ⟨rfl,λ_ _=>rfl,λt ht=>by simp [Qd] at ht⟩
  ·rename_i l off len
   obtain ⟨rfl,rfl,rfl,fr,tr,hl⟩:=ht
   have Qf:Aw cur.heap l=some (.arr fr tr e te x):=(ia _ (Ae.2 rfl)).trans hl
   simp only [cw,St.at,Qf] at he
   split at he
   ·rename_i Jk
    obtain ⟨_,h1,_⟩:=Jk
    simp only [Aa] at he;subst he
    refine ⟨rfl,λm hm=>Eg _ _ _ _ (hm _ (Ae.2 rfl)),λt Vv=>?_⟩
    have Vv:=Ae.1 Vv
    subst Vv
    refine ⟨_,_,hl,Fb _ _ _ _ Qf,λ_=>rfl,λ_=>rfl,⟨rfl,h1.symm⟩,λπ' H' hD=>?_⟩
    have hb:=(h.heap l).Rc hl
    change Cn X w' π' H' (π l) _
    simp only [Cn,Jt] at hb⊢
    cases hp:π l with
    |none=>rw [hp] at hr;exact hr
    |some q=>
     rw [hp] at hr hb
     obtain ⟨k1,cu,ti,k2,k3,k4,k5,k6⟩:=hr
     exact ⟨⟨k1.1,k1.2,λhh=>hb.1.2.2 (by simp only [Ai] at hh;exact hh.1)⟩,cu,ti,k2,k3,k4,k5,λi y hy=>by
      obtain ⟨es,g1,g2,g3⟩:=k6 i y hy
      exact ⟨es,g1,g2,fi hD g3⟩,λht=>WO k6 ht⟩
   ·cases he
  ·rename_i l i j
   obtain ⟨⟨_,hf⟩,tid,xs,hl,hx,q,hq,Wg,hre⟩:=ht
   have Qf:Aw cur.heap l=some (.Gx (.slice e) tid xs):=(ia _ (Ae.2 rfl)).trans hl
   simp only [cw,St.at,Qf,hx] at he
   rw [Ip trivial] at he
   ·split at he
    ·rename_i h1
     simp only [Aa] at he;subst he
     refine ⟨rfl,λm hm=>Eg _ _ _ _ (hm _ (Ae.2 rfl)),λt Vv=>?_⟩
     have Vv:=Ae.1 Vv
     subst Vv
     refine ⟨_,_,hl,Fb _ _ _ _ Qf,λ_=>rfl,λ_=>rfl,⟨rfl,by simp⟩,λπ' H' _=>?_⟩
     show No w' (π l) (.slice e) tid _
     rw [hq]
     refine hre w' ys hs (λb Jc hb hn=>hU l i j q b rfl hq hb Jc hn) ?_
     have hv:=hc.1
     rw [<-show List.length ys=List.length x from h1] at hv
     exact Sv.PA hr hf hv
    ·cases he
 |Ho e te=>
  simp only [To] at ht
  cases a<;>simp only [] at ht<;>first|(exact ht.elim)|skip
  ·simp only [cw,Aa] at he;subst he
   exact ⟨rfl,λ_ _=>rfl,λt ht=>by simp [Qd] at ht⟩
  ·rename_i l off len
   obtain ⟨rfl,rfl,rfl,hl⟩:=ht
   have Qf:Aw cur.heap l=some (.Gx e te x):=(ia _ (Ae.2 rfl)).trans hl
   simp only [cw,St.at,Qf] at he
   split at he
   ·rename_i Jk
    obtain ⟨_,h1,_⟩:=Jk
    simp only [Aa] at he;subst he
    refine ⟨rfl,λm hm=>Eg _ _ _ _ (hm _ (Ae.2 rfl)),λt Vv=>?_⟩
    have Vv:=Ae.1 Vv
    subst Vv
    refine ⟨_,_,hl,Fb _ _ _ _ Qf,λ_=>rfl,λ_=>rfl,⟨rfl,h1.symm⟩,λπ' H' _=>?_⟩
    show No w' (π l) e te _
    cases hp:π l with
    |none=>rw [hp] at hr;exact hr
    |some q=>rw [hp] at hr;exact hr
   ·cases he
  ·rename_i l i j
   obtain ⟨_,tid,xs,hl,hx,q,hq,Wg,hre⟩:=ht
   have Qf:Aw cur.heap l=some (.Gx (.slice e) tid xs):=(ia _ (Ae.2 rfl)).trans hl
   simp only [cw,St.at,Qf,hx] at he
   rw [Ip trivial] at he
   ·split at he
    ·rename_i h1
     simp only [Aa] at he;subst he
     refine ⟨rfl,λm hm=>Eg _ _ _ _ (hm _ (Ae.2 rfl)),λt Vv=>?_⟩
     have Vv:=Ae.1 Vv
     subst Vv
     refine ⟨_,_,hl,Fb _ _ _ _ Qf,λ_=>rfl,λ_=>rfl,⟨rfl,by simp⟩,λπ' H' _=>?_⟩
     show No w' (π l) (.slice e) tid _
     rw [hq]
     refine hre w' ys hs (λb Jc hb hn=>hU l i j q b rfl hq hb Jc hn) ?_
     have hv:=hc.1
     rw [<-show List.length ys=List.length x from h1] at hv
     exact No.PA (te:=te) hr hv
    ·cases he
 |part e te=>cases a<;>simp [cw] at he<;>first|(simp only [To] at ht;exact ht.2.elim)
 |Bo e te kp=>exact absurd ht.1 (by simp)
theorem VO {D:Nat->Prop} (h:Mr X w π H) {k:Nat} {e:Ty} {te:TypeId} {ys:List e.den} {a:AC} {u:Value} {r:Option Real} {x:(CK.part e te).den} {cur st1:St}
  {V:List Nat} (ht:eX w (Of X π V) r u (.part e te) x/\To w π H true a u r (.part e te) x) (hr:gz w' D r (.row e te) ys) (he:NR cur e ys a=some st1) (ia: ∀t∈Qd true k (.part e te) a,Aw cur.heap t.2.Xb=Aw H t.2.Xb):
  st1.tmps=cur.tmps/\(∀m,(∀t∈Qd true k (.part e te) a,m≠t.2.Xb)->Aw st1.heap m=Aw cur.heap m)/\ ∀t∈Qd true k (.part e te) a,nj X D w' π H st1.heap t.2.Xb:=by
 obtain ⟨hc,hf,ht⟩:=ht
 cases a<;>simp only [] at ht<;>first|(exact ht.elim)|skip
 rename_i l off len
 obtain ⟨rfl,_,fr,tr,hl⟩:=ht
 have Qf:Aw cur.heap l=some (.arr fr tr e te x.1):=(ia _ (Ae.2 rfl)).trans hl
 simp only [NR,St.at,Qf] at he
 split at he
 ·rename_i Jk
  obtain ⟨_,h1⟩:=Jk
  simp only [Aa] at he;subst he
  refine ⟨rfl,λm hm=>Eg _ _ _ _ (hm _ (Ae.2 rfl)),λt Vv=>?_⟩
  have Vv:=Ae.1 Vv
  subst Vv
  refine ⟨_,_,hl,Fb _ _ _ _ Qf,λ_=>rfl,λ_=>rfl,⟨rfl,h1.symm⟩,λπ' H' _=>?_⟩
  have hb:=(h.heap l).Rc hl
  change Cn X w' π' H' (π l) _
  simp only [Cn,Jt] at hb⊢
  cases hp:π l with
  |none=>rw [hp] at hr;exact hr
  |some q=>
   rw [hp] at hr hb
   obtain ⟨k1,cu,ti,k2,k3,k4,k5,k6⟩:=hr
   exact ⟨⟨k1.1,k1.2,hb.1.2.2⟩,cu,ti,k2,k3,k4,k5,λi y hy=>by
    obtain ⟨es,g1,g2,g3⟩:=k6 i y hy
    exact ⟨es,g1,g2,Cells.flat e es y hf g3⟩,λ_=>nO hf k6⟩
 ·cases he
def si (X:Ctx) (D:Nat->Prop) (w':World) (π:Pi) (H:List (Nat×OB)) (tk:List (Nat×Loc)) (cur st1:St):Prop:=
 st1.tmps=cur.tmps/\(∀m,(∀t∈tk,m≠t.2.Xb)->Aw st1.heap m=Aw cur.heap m)/\(∀t∈tk,t.1<Bp->Aw st1.heap t.2.Xb=Aw cur.heap t.2.Xb)/\(∀t∈tk,¬t.1<Bp->nj X D w' π H st1.heap t.2.Xb)
theorem uv {D:Nat->Prop} (h:Mr X w π H) {V:List Nat} {πc:Pi} {tks:List (Nat×Loc)} (hs:w.heap.size<=w'.heap.size)
  (hU: ∀t∈tks,∀q b,π t.2.Xb=some q->q.Cz b->b<w.heap.size->(∀r',πc t.1=some r'-> ¬r'.Cz b)->w'.heap[b]?=w.heap[b]?):
  ∀(cs:List (Bool×CK)) (k:Nat) (x:Ins.den cs) (as:List AC) (us:List Value) (o:IOs.den cs) (cur st1:St),k+cs.length<100000->(∀t∈Lm k cs as,t∈tks)->((Lm k cs as).map λt=>t.2.Xb).Nodup->
   rJ X w π V H πc k cs x as us->Ly w' D πc k cs o->Hv cs o as cur=some st1->(∀t∈Lm k cs as,Aw cur.heap t.2.Xb=Aw H t.2.Xb)->
   si X D w' π H (Lm k cs as) cur st1
 | [],k,x,as,us,o,cur,st1,_,_,_,_,_,he,_=>by
  simp only [Hv,Aa] at he;subst he
  have e0:Lm k [] as= []:=by cases as<;>rfl
  exact ⟨rfl,λ_ _=>rfl,by rw [e0];simp,by rw [e0];simp⟩
 |p::r,k,x,[],us,o,cur,st1,_,_,_,ht,_,_,_=>ht.elim
 |p::r,k,x,a::as,[],o,cur,st1,_,_,_,ht,_,_,_=>ht.elim
 |(io,c)::r,k,x,a::as,u::us,o,cur,st1,hk,Jl,rS,ht,ho,he,ia=>by
  simp only [Av] at hk
  simp only [Lm] at Jl rS ia⊢
  rw [It] at rS
  obtain ⟨n1,n2,n3⟩:=Eb.1 rS
  have apart: ∀t∈Qd io k c a,∀t'∈Lm (k+1) r as,t'.2.Xb≠t.2.Xb:= λt h1 t' h2 e=>n3 _ (Ba.2 ⟨t,h1,rfl⟩) _ (Ba.2 ⟨t',h2,rfl⟩) e.symm
  have rest: ∀(ao:St) (o':IOs.den r),Ly w' D πc (k+1) r o'->Hv r o' as ao=some st1->ao.tmps=cur.tmps->(∀m,(∀t∈Qd io k c a,m≠t.2.Xb)->Aw ao.heap m=Aw cur.heap m)->
    (∀t∈Qd io k c a,t.1<Bp->Aw ao.heap t.2.Xb=Aw cur.heap t.2.Xb)->(∀t∈Qd io k c a,¬t.1<Bp->nj X D w' π H ao.heap t.2.Xb)->
    si X D w' π H (Qd io k c a++Lm (k+1) r as) cur st1:=by
   intro ao o' h1 h2 h3 h4 h5 h6
   obtain ⟨g1,g2,g3,g4⟩:=uv h hs hU r (k+1) x.2 as us o' ao st1 (by omega) (λt ht=>Jl t (Cm _ ht)) n2 ht.2 h1 h2 (λt Vv=>by
    rw [h4 _ λt0 ht0=>apart t0 ht0 t Vv];exact ia t (Cm _ Vv))
   have hd: ∀t∈Qd io k c a,Aw st1.heap t.2.Xb=Aw ao.heap t.2.Xb:= λt Vv=>g2 _ λt' kT=>(apart t Vv t' kT).symm
   refine ⟨g1.trans h3,λm hm=>?_,λt Vv Jc=>?_,λt Vv Jc=>?_⟩
   ·rw [g2 m λt ht=>hm t (Cm _ ht),h4 m λt ht=>hm t (Bi _ ht)]
   ·rcases Az.1 Vv with Vv|Vv
    ·rw [hd t Vv,h5 t Vv Jc]
    ·rw [g3 t Vv Jc,h4 _ λt0 ht0=>apart t0 ht0 t Vv]
   ·rcases Az.1 Vv with Vv|Vv
    ·obtain ⟨b0,b',q1,q2,q3⟩:=h6 t Vv Jc
     exact ⟨b0,b',q1,(hd t Vv).trans q2,q3⟩
    ·exact g4 t Vv Jc
  have same: ∀o',Ly w' D πc (k+1) r o'->Hv r o' as cur=some st1->(∀t∈Qd io k c a,t.1<Bp)->si X D w' π H (Qd io k c a++Lm (k+1) r as) cur st1:= λo' h1 h2 h3=>rest cur o' h1 h2 rfl (λ_ _=>rfl) (λ_ _ _=>rfl) (λt h4 h5=>absurd (h3 t h4) h5)
  cases io with
  |false=>
   have h3: ∀t∈Qd false k c a,t.1<Bp:= λt h4=>by rcases JB h4 with ⟨h5,_⟩|⟨h5,_⟩<;>(rw [h5];exact fS (by omega))
   cases c with
   |Fe τ=>exact same o ho (by simpa only [Hv] using he) h3
   |row e te=>exact same o ho (by simpa only [Hv] using he) h3
   |Ho e te=>exact same o ho (by simpa only [Hv] using he) h3
   |part e te=>exact same o ho (by simpa only [Hv] using he) h3
   |Bo e te kp=>exact same o ho (by simpa only [Hv] using he) h3
  |true=>
   have row: ∀(ys:c.den) (o':IOs.den r),(∀t∈Qd true k c a,t.1=Ed true k)->gz w' D (πc (Ed true k)) c ys->Ly w' D πc (k+1) r o'->(∃ao,cw cur c ys a=some ao/\Hv r o' as ao=some st1)->si X D w' π H (Qd true k c a++Lm (k+1) r as) cur st1:=by
    intro ys o' h0 h1 h2 h3
    obtain ⟨ao,hp,h3⟩:=h3
    ·obtain ⟨q1,q2,q3⟩:=VN (k:=k) h hs (λl i j q b ea hq hb Jc hn=>by
      cases c with
      |Fe τ=>exact absurd (ht.1.2:πc _=none) (by subst ea;simp [cw] at hp)
      |row e te=>subst ea;exact hU (Ed true k, .sub l i j) (Jl _ (Bi _ (Ae.2 rfl))) q b hq hb Jc hn
      |Ho e te=>subst ea;exact hU (Ed true k, .sub l i j) (Jl _ (Bi _ (Ae.2 rfl))) q b hq hb Jc hn
      |Bo e te kp=>exact absurd ht.1.2.1 (by simp)
      |part e te=>exact absurd ht.1.2.2 (by subst ea;exact λh=>h)) ht.1 h1 hp (λt Vv=>ia t (Bi _ Vv))
     exact rest ao o' h2 h3 q1 q2 (λt h4 h5=>absurd h5 (by rw [h0 t h4];exact bj k)) (λt h4 _=>q3 t h4)
   cases c with
   |Fe τ=>exact same o ho (by simpa only [Hv] using he) (λt h4=>by rw [Acq h4];exact fS (by omega))
   |Bo e te kp=>exact absurd ht.1.2.1 (by simp)
   |row e te=>
    simp only [Hv] at he
    split at he
    ·rename_i ao hp;exact row o.1 o.2 (λt ht=>Acr ht) ho.1 ho.2 ⟨ao,hp,he⟩
    ·cases he
   |Ho e te=>
    simp only [Hv] at he
    split at he
    ·rename_i ao hp;exact row o.1 o.2 (λt ht=>WN ht) ho.1 ho.2 ⟨ao,hp,he⟩
    ·cases he
   |part e te=>
    simp only [Hv] at he
    split at he
    ·rename_i ao hp
     obtain ⟨q1,q2,q3⟩:=VO (k:=k) h ht.1 ho.1 hp (λt Vv=>ia t (Bi _ Vv))
     exact rest ao o.2 ho.2 he q1 q2 (λt h4 h5=>absurd h5 (by rw [WM h4];exact bj k)) (λt h4 _=>q3 t h4)
    ·cases he
theorem MR {fr:Bool} {c:CK} {x:c.den} {u:Value} {r:Option Real} {D:Nat->Prop} (h:eX w' D r u c x):
  (wi fr c x=none/\r=none)\/ ∃b',wi fr c x=some b'/\ ∀(X:Ctx) π' H',(fr=true-> ∀q,r=some q->X.w0.heap.size<=q.g)->(∀b,Vu π' b\/X.Sc b->D b)->Cn X w' π' H' r b':=by
 cases c with
 |Fe τ=>exact .inl ⟨rfl,h.1⟩
 |row e te=>
  refine .inr ⟨_,rfl,λX π' H' FJ hD=>?_⟩
  obtain ⟨_,h⟩:=h
  simp only [gz] at h
  simp only [Cn,Jt]
  cases r with
  |none=>exact h
  |some q=>
   obtain ⟨k1,cu,ti,k2,k3,k4,k5,k6⟩:=h
   exact ⟨⟨k1.1,k1.2,λh1=>FJ (by simp only [Ai] at h1;exact h1.1) q rfl⟩,cu,ti,k2,k3,k4,k5,λi y hy=>by
    obtain ⟨es,g1,g2,g3⟩:=k6 i y hy
    exact ⟨es,g1,g2,fi hD g3⟩,λh=>by cases h⟩
 |Ho e te=>exact .inr ⟨_,rfl,λX π' H' _ _=>h.2⟩
 |Bo e te kp=>exact .inr ⟨_,rfl,λX π' H' _ hD=>⟨aC.Ii h.2 λb hb=>hD b (hb.imp id λh=>h.elim id λh=>by cases h.1),trivial⟩⟩
 |part e te=>
  refine .inr ⟨_,rfl,λX π' H' FJ hD=>?_⟩
  obtain ⟨_,hf,h⟩:=h
  simp only [Cn,Jt]
  cases r with
  |none=>exact h
  |some q=>
   obtain ⟨k1,cu,ti,k2,k3,k4,k5,k6⟩:=h
   exact ⟨⟨k1.1,k1.2,λh1=>FJ (by simp only [Ai] at h1;exact h1.1) q rfl⟩,cu,ti,k2,k3,k4,k5,λi y hy=>by
    obtain ⟨es,g1,g2,g3⟩:=k6 i y hy
    exact ⟨es,g1,g2,fi hD g3⟩,λh=>by cases h⟩
theorem rh {D:Nat->Prop} {key:Nat->Nat} (LS: ∀i j,key i=key j->i=j) {fr:Bool} {ρ:Pi} : ∀(cs:List CK) (k:Nat) (x:CKs.den cs) (us:List Value) (H:List (Nat×OB)),Iv w' D ρ k cs x us->
  (∀j,k<=j->j<k+cs.length->Aw H (key j)=none)->
  (∀l,(∀j,k<=j->j<k+cs.length->l≠key j)->Aw (Yb fr key k cs x H) l=Aw H l)/\
  (∀j,k<=j->j<k+cs.length->(Aw (Yb fr key k cs x H) (key j)=none/\ρ (Jw j)=none)\/
   ∃b',Aw (Yb fr key k cs x H) (key j)=some b'/\ ∀(X:Ctx) π' H',(fr=true-> ∀q,ρ (Jw j)=some q->X.w0.heap.size<=q.g)->(∀b,Vu π' b\/X.Sc b->D b)->Cn X w' π' H' (ρ (Jw j)) b')/\
  (∀π',(∀b,Vu π' b\/X.Sc b->D b)->(∀j,k<=j->j<k+cs.length->π' (key j)=ρ (Jw j))->Ms X w' π' (Yb fr key k cs x H) (bV key k cs x) us)
 | [],k,x,[],H,_,_=>⟨λ_ _=>rfl,λj h1 h2=>by simp at h2;omega,λ_ _ _=>trivial⟩
 | [],_,_,_::_,_,h,_=>h.elim
 |_::_,_,_,[],_,h,_=>h.elim
 |c::r,k,x,u::us,H,h,hn=>by
  simp only [Av] at hn⊢
  simp only [Yb,bV]
  have vM:=hn k (Aq _) (by omega)
  have hH1: ∀l,l≠key k->Aw (FW H (key k) (wi fr c x.1)) l=Aw H l:=by
   intro l hl
   cases wi fr c x.1 with
   |some b=>exact Pb _ _ _ _ hl
   |none=>rfl
  have An0:Aw (FW H (key k) (wi fr c x.1)) (key k)=wi fr c x.1:=by
   cases wi fr c x.1 with
   |some b=>exact Qg _ _ _ vM
   |none=>exact vM
  generalize (FW H (key k) (wi fr c x.1))=H1 at hH1 An0⊢
  obtain ⟨g1,g2,g3⟩:=rh LS (fr:=fr) r (k+1) x.2 us H1 h.2 (λj h1 h2=>by
   rw [hH1 _ λe=>by have:=LS _ _ e;omega];exact hn j (by omega) (by omega))
  have hkk:Aw (Yb fr key (k+1) r x.2 H1) (key k)=wi fr c x.1:=by
   rw [g1 _ λj h1 h2 e=>by have:=LS _ _ e;omega];exact An0
  refine ⟨λl hl=>?_,λj h1 h2=>?_,λπ' hd hπ=>⟨?_,?_⟩⟩
  ·rw [g1 l λj h1 h2=>hl j (by omega) (by omega)]
   exact hH1 l (hl k (Aq _) (by omega))
  ·rcases Nat.eq_or_lt_of_le h1 with e|h1
   ·subst e
    rw [hkk]
    exact MR h.1
   ·exact g2 j h1 (by omega)
  ·have h1:=h.1
   have hpk:=hπ k (Aq _) (by omega)
   cases c with
   |Fe τ=>
    obtain ⟨iP,c1,c2⟩:=h1.2
    exact ⟨iP,by have:=fi (fr:=true) hd c1;simpa using this,c2⟩
   |row e te=>exact ⟨_,e.size,List.length x.1,hkk,rfl,by simp,by rw [hpk];exact h1.1⟩
   |Ho e te=>exact ⟨_,e.size,List.length x.1,hkk,rfl,by simp,by rw [hpk];exact h1.1⟩
   |Bo e te kp=>exact ⟨_,1,List.length x.1,hkk,rfl,by simp,by rw [hpk];exact h1.1⟩
   |part e te=>trivial
  ·exact g3 π' hd λj h1 h2=>hπ j (by omega) (by omega)
theorem MI {ks:List Nat} {n:Nat} (h:zF ks n=true):ks.length=n/\ks.Nodup/\ ∀l∈ks,l<Bp:=by
 unfold zF at h
 simp only [Ai] at h
 refine ⟨Jf h.1,Ya h.2.1,λl hl=>?_⟩
 have:=Bf.1 h.2.2 l hl
 simpa using this
theorem Rd {ks:List Nat} {j:Nat} (h:j<ks.length):Ei ks j=ks[j]:=by
 unfold Ei
 rw [Ad h]
theorem ED {ks:List Nat} (hn:ks.Nodup) (hl: ∀l∈ks,l<Bp): ∀i j,Ei ks i=Ei ks j->i=j:=by
 intro i j h
 by_cases hi:i<ks.length
 ·by_cases hj:j<ks.length
  ·rw [Rd hi,Rd hj] at h
   rcases Nat.lt_trichotomy i j with Jc|he|Jc
   ·exact absurd h (Fk.1 hn i j hi hj Jc)
   ·exact he
   ·exact absurd h.symm (Fk.1 hn j i hj hi Jc)
  ·have h1:=hl _ (An hi)
   rw [Rd hi] at h
   unfold Ei at h
   rw [Ee (by omega)] at h
   simp only at h
   omega
 ·by_cases hj:j<ks.length
  ·have h1:=hl _ (An hj)
   rw [Rd hj] at h
   unfold Ei at h
   rw [Ee (by omega)] at h
   simp only at h
   omega
  ·unfold Ei at h
   rw [Ee (by omega),Ee (by omega)] at h
   simp only at h
   omega
theorem Ng: ∀(H:List (Nat×OB)) (dead:List Nat) (l:Nat),Aw (Xo H dead) l=if l∈dead then none else Aw H l
 | [],dead,l=>by simp [Xo,Aw]
 |(k,b)::r,dead,l=>by
  simp only [Xo]
  have ih:=Ng r dead l
  by_cases hk:k∈dead
  ·rw [Ab (by simpa using hk),ih]
   split
   ·rfl
   ·rename_i hl
    simp only [Aw]
    rw [Ak (λ(e:k=l)=>hl (e▸hk))]
  ·rw [Ak (by simpa using hk)]
   simp only [Aw]
   split
   ·rename_i e;subst e;rw [Ak hk]
   ·exact ih
theorem mem_keys {ks:List Nat} {l:Nat} :l∈ks↔ ∃k,k<ks.length/\l=Ei ks k:=
 ⟨λh=>by obtain ⟨k,hk,e⟩:=Nc h;exact ⟨k,hk,by rw [Rd hk,e]⟩,λ⟨k,hk,e⟩=>by rw [e,Rd hk];exact An hk⟩
theorem eE {tks:List (Nat×Loc)} {l:Nat} :l∈nB tks↔ ∃t∈tks,(t.1<Bp/\t.2.reads=false)/\t.2.Xb=l:=by
 unfold nB
 simp only [Ba,Bm,Ai,Mw,Ew]
 exact ⟨λ⟨t,⟨h1,h2⟩,h3⟩=>⟨t,h1,h2,h3⟩,λ⟨t,h1,h2,h3⟩=>⟨t,⟨h1,h2⟩,h3⟩⟩
theorem zG {tks:List (Nat×Loc)} (h:(tks.map λt=>t.2.Xb).Nodup) {t t':Nat×Loc} (ht:t∈tks) (kT:t'∈tks) (he:t.2.Xb=t'.2.Xb):t=t':=by
 induction tks with
 |nil=>cases ht
 |cons a r ih=>
  simp only [Ca] at h
  obtain ⟨h1,h2⟩:=Cg.1 h
  rcases Bc.1 ht with rfl|ht<;>rcases Bc.1 kT with rfl|kT
  ·rfl
  ·exact (h1 (Ba.2 ⟨t',kT,he.symm⟩)).elim
  ·exact (h1 (he▸Ba.2 ⟨t,‹t∈r›,rfl⟩)).elim
  ·exact ih h2 ht kT
theorem Iv.full {D:Nat->Prop} {ρ:Pi} : ∀(cs:List CK) (k:Nat) (x:CKs.den cs) (us:List Value),Iv w D ρ k cs x us->Iv w D (λl=>(ρ l).map full) k cs x us
 | [],_,_,[],h=>h
 | [],_,_,_::_,h=>h.elim
 |_::_,_,_,[],h=>h.elim
 |c::r,k,x,u::us,h=>⟨by
   have h1:=h.1
   show eX w D ((ρ (Jw k)).map _) u c x.1
   cases c with
   |Fe τ=>rw [h1.1];exact ⟨rfl,h1.2⟩
   |row e te=>cases hp:ρ (Jw k)<;>(rw [hp] at h1;exact h1)
   |Ho e te=>cases hp:ρ (Jw k)<;>(rw [hp] at h1;exact h1)
   |Bo e te kp=>cases hp:ρ (Jw k)<;>(rw [hp] at h1;exact h1)
   |part e te=>cases hp:ρ (Jw k)<;>(rw [hp] at h1;exact h1),Iv.full r (k+1) x.2 us h.2⟩
theorem Iv.Agy {D:Nat->Prop} {ρ:Pi} : ∀(cs:List CK) (k0:Nat) (x:CKs.den cs) (us:List Value),Iv w D ρ k0 cs x us-> ∀j,k0<=j->j<k0+cs.length-> ∀q,ρ (Jw j)=some q->q.Cz q.g
 | [],k0,_,_,_,j,h1,h2,_,_=>by simp at h2;omega
 |_::_,_,_,[],h,_,_,_,_,_=>h.elim
 |c::r,k0,x,u::us,ho,j,h1,h2,q,hq=>by
  rcases Nat.eq_or_lt_of_le h1 with e|h1
  ·subst e
   have:=ho.1
   cases c with
   |Fe τ=>rw [hq] at this;cases this.1
   |row e te=>rw [hq] at this;exact this.2.1.1
   |Ho e te=>rw [hq] at this;exact this.2.1
   |part e te=>rw [hq] at this;exact this.2.2.1.1
   |Bo e te kp=>rw [hq] at this;exact this.2.1
  ·exact Iv.Agy r (k0+1) x.2 us ho.2 j h1 (by simp at h2;omega) q hq
theorem Sv.any {D D':Nat->Prop} {r:Option Real} {e:Ty} {xs:List e.den} (hf:e.flat=true) (h:Sv w D r e xs):Sv w D' r e xs:=by
 cases r with
 |none=>exact h
 |some r=>
  obtain ⟨k1,cu,ti,k2,k3,k4,k5,k6⟩:=h
  exact ⟨k1,cu,ti,k2,k3,k4,k5,λi y hy=>by
   obtain ⟨es,g1,g2,g3⟩:=k6 i y hy
   exact ⟨es,g1,g2,Cells.flat e es y hf g3⟩⟩
theorem Iv.any {D D':Nat->Prop} {ρ:Pi} : ∀(cs:List CK) (k:Nat) (x:CKs.den cs) (us:List Value),cs.all (·.flat)=true->Iv w D ρ k cs x us->Iv w D' ρ k cs x us
 | [],_,_,[],_,h=>h
 | [],_,_,_::_,_,h=>h.elim
 |_::_,_,_,[],_,h=>h.elim
 |c::r,k,x,u::us,hf,h=>by
  simp only [Jb,Ai] at hf
  refine ⟨?_,Iv.any r (k+1) x.2 us hf.2 h.2⟩
  have h1:=h.1
  cases c with
  |Fe τ=>exact ⟨h1.1,Da.flat hf.1 h1.2⟩
  |row e te=>exact ⟨h1.1,Sv.any hf.1 h1.2⟩
  |Ho e te=>exact h1
  |part e te=>exact ⟨h1.1,h1.2.1,Sv.any hf.1 h1.2.2⟩
  |Bo e te kp=>exact absurd hf.1 (by simp [CK.flat])
theorem Ly.any {D D':Nat->Prop} {π:Pi} : ∀(cs:List (Bool×CK)) (k:Nat) (x:IOs.den cs),(cs.all λp=>!p.1||p.2.flat)=true->Ly w D π k cs x->Ly w D' π k cs x
 | [],_,_,_,h=>h
 |(false,_)::r,k,x,hf,h=>Ly.any r (k+1) x (by simp only [Jb,Ai] at hf;exact hf.2) h
 |(true, .Fe _)::r,k,x,hf,h=>Ly.any r (k+1) x (by simp only [Jb,Ai] at hf;exact hf.2) h
 |(true, .Bo _ _ _)::r,k,x,hf,h=>Ly.any r (k+1) x (by simp only [Jb,Ai] at hf;exact hf.2) h
 |(true, .row e te)::r,k,x,hf,h=>by
  simp only [Jb,Ai,Bool.not_true,br] at hf
  exact ⟨Sv.any hf.1 h.1,Ly.any r (k+1) x.2 hf.2 h.2⟩
 |(true, .Ho e te)::r,k,x,hf,h=>by
  simp only [Jb,Ai,Bool.not_true,br] at hf
  exact ⟨h.1,Ly.any r (k+1) x.2 hf.2 h.2⟩
 |(true, .part e te)::r,k,x,hf,h=>by
  simp only [Jb,Ai,Bool.not_true,br] at hf
  exact ⟨Sv.any hf.1 h.1,Ly.any r (k+1) x.2 hf.2 h.2⟩
theorem ua {tks:List (Nat×Loc)} {l:Nat} :l∈CO tks↔ ∃t∈tks,t.2.reads=true/\t.2.Xb=l:=by
 unfold CO
 simp only [Ba,Bm]
 exact ⟨λ⟨t,⟨h1,h2⟩,h3⟩=>⟨t,h1,h2,h3⟩,λ⟨t,h1,h2,h3⟩=>⟨t,⟨h1,h2⟩,h3⟩⟩
theorem Bl.oD {st:St} {a:Act} (h:Bl X π st a w) {f:AC->AC} (hu:f .undef= .undef) {gv:Nat->Prop} (TU: ∀b,gv b->Vu π b) (hb:Kp w.heap.size gv w w')
  (ez: ∀b,b<w.heap.size->Vu π' b->Vu π b)
  (Jl: ∀l r b,π' l=some r->r.Cz b->r.cl b) (Ajq: ∀l r b,π' l=some r->r.cl b->(X.w0.heap.size<=b\/X.gv b)/\b<w'.heap.size)
  (Atm: ∀l l' r r' b,π' l=some r->π' l'=some r'->r.cl b->r'.cl b->l=l')
  (Zu: ∀l,Bp<=l->Aw H' l≠none->bw (X.iu l) (π' l))
  (hac:(∀fr τ cs x,Cells w (De X.w0.heap.size X.Sc π fr) τ cs x->Cells w' (De X.w0.heap.size X.Sc π' fr) τ cs x)-> ∀c v,Hj X w π st.heap c v->Hj X w' π' H' (f c) v)
  (LM:Move X w w' π π' st.heap H' f-> ∀l b,Aw H' l=some b->Cn X w' π' H' (π' l) b)
  (RG: ∀l,Aw H' l=none->π' l=none):
  Bl X π' {tmps:=st.tmps.map (·.map f),heap:=H'} a w':=by
 have hc: ∀fr τ cs x,Cells w (De X.w0.heap.size X.Sc π fr) τ cs x->Cells w' (De X.w0.heap.size X.Sc π' fr) τ cs x:= λfr τ cs x hh=>
  Cells.Fm hb.size (λk hk hn=>hb.block k hk λhg=>hn (.inl (TU k hg))) (λk Jc hA=>hA.imp (ez k Jc) id) τ cs x hh
 have m:Move X w w' π π' st.heap H' f:=⟨hac hc,hc⟩
 refine ⟨⟨⟨hb.os.trans h.1.below.os,hb.tape.trans h.1.below.tape,hb.output.trans h.1.below.output,Hq h.1.below.size hb.size,λk hk hn=>?_⟩,h.1.sc,Jl,Ajq,Atm,Zu,λl=>?_⟩,m.NU hu h.2⟩
 ·refine (hb.block k (El hk h.1.below.size) λhg=>?_).trans (h.1.below.block k hk hn)
  rcases (h.1.own (TU k hg)).2 with h1|h1
  ·omega
  ·exact hn h1
 ·cases hh:Aw H' l with
  |none=>exact Gg.Uk (RG l hh) hh
  |some b=>exact Gg.Lk (LM m l b hh) hh
def gA:Option Real->Option Real->Prop
 |none,none=>True
 |some r,some r'=>r.g=r'.g/\r.o=r'.o/\r.cap=r'.cap
 |_,_=>False
theorem gA.rfl' (r:Option Real):gA r r:=by cases r<;>simp [gA]
theorem gA.some {r:Real} {r':Option Real} (h:gA (some r) r'): ∃q,r'=some q/\r.g=q.g/\r.o=q.o/\r.cap=q.cap:=by
 cases r' with
 |none=>exact h.elim
 |some q=>exact ⟨q,rfl,h⟩
theorem gA.own {r r':Option Real} (h:gA r r') {sz off len:Nat} {v:Value} (hv:Hs r sz off len v):Hs r' sz off len v:=by
 cases r<;>cases r'<;>first|exact h.elim|skip
 ·exact hv
 ·obtain ⟨h1,h2,h3⟩:=h
  obtain ⟨ad,g1,g2,g3⟩:=hv
  exact ⟨ad,by rw [<-h3];exact g1,by rw [<-h3];exact g2,by rw [<-h1,<-h2,<-h3];exact g3⟩
structure OB.Td (b b':OB):Prop where
 row: ∀sz n,b.row=some (sz,n)-> ∃n',b'.row=some (sz,n')/\n<=n'
 gK: ∀p,b.gK=some p->b'.gK=some p
 vZ: ∀p,b.vZ=some p->b'.vZ=some p
 var: ∀tid vs,b= .var tid vs-> ∃Ux vs',b'= .var Ux vs'
 Vq: ∀v m,b= .Vq v m-> ∃m',b'= .Vq v m'
theorem OB.Td.map (f:AC->AC) (b:OB):b.Td (b.map f) where
 row:= λsz n h=>⟨n,by cases b<;>exact h,Aq _⟩
 gK:= λp h=>by cases b<;>exact h
 vZ:= λp h=>by cases b<;>exact h
 var:= λtid vs h=>by subst h;exact ⟨_,_,rfl⟩
 Vq:= λv m h=>by subst h;exact ⟨_,rfl⟩
theorem OB.Td.rfl' (b:OB):b.Td b where
 row:= λ_sz n h=>⟨n,h,Aq _⟩
 gK:= λ_p h=>h
 vZ:= λ_p h=>h
 var:= λ_tid _vs h=>⟨_,_,h⟩
 Vq:= λ_v _m h=>⟨_,h⟩
theorem OB.Td.trans {a b c:OB} (h:a.Td b) (k:b.Td c):a.Td c where
 row:= λsz n hr=>by
  obtain ⟨n1,h1,h2⟩:=h.row sz n hr
  obtain ⟨n2,h3,h4⟩:=k.row sz n1 h1
  exact ⟨n2,h3,by omega⟩
 gK:= λp hp=>k.gK p (h.gK p hp)
 vZ:= λp hp=>k.vZ p (h.vZ p hp)
 var:= λtid vs hv=>by obtain ⟨t',v',h1⟩:=h.var tid vs hv;exact k.var t' v' h1
 Vq:= λv m hm=>by obtain ⟨m',h1⟩:=h.Vq v m hm;exact k.Vq v m' h1
theorem oC {f:AC->AC} {D Pt:Nat->Prop} (hf: ∀c,f c= .undef\/(f c=c/\(∀k∈c.refs,¬D k)/\ ∀k i j,c= .sub k i j\/c= .Js k i j-> ¬Pt k)) (hp: ∀k,¬D k->gA (π k) (π' k))
  (hH: ∀k b,¬D k->Aw H k=some b-> ∃b',Aw H' k=some b'/\b.Td b')
  (hg: ∀k r b,¬D k-> ¬Pt k->Aw H k=some b->b.gK≠none->π k=some r->w'.heap[r.g]?=w.heap[r.g]?)
  (hc: ∀fr τ cs x,Cells w (De X.w0.heap.size X.Sc π fr) τ cs x->Cells w' (De X.w0.heap.size X.Sc π' fr) τ cs x): ∀c v,Hj X w π H c v->Hj X w' π' H' (f c) v:=by
 intro c v h
 rcases hf c with e|⟨e,hr,hs⟩
 ·rw [e];trivial
 rw [e]
 cases c with
 |data fr τ x=>obtain ⟨cs,h1,h2⟩:=h;exact ⟨cs,hc _ _ _ _ h1,h2⟩
 |own k off len=>
  obtain ⟨b,sz,n,h1,h0,h2,h3⟩:=h
  have hk:=hr k (by simp [AC.refs])
  obtain ⟨b',g1,g2⟩:=hH k b hk h1
  obtain ⟨n',g3,g4⟩:=g2.row sz n h0
  exact ⟨b',sz,n',g1,g3,by omega,(hp k hk).own h3⟩
 |He k i=>
  obtain ⟨r,tid,vs,h1,h2,h3⟩:=h
  have hk:=hr k (by simp [AC.refs])
  obtain ⟨b',g1,g2⟩:=hH k _ hk h1
  obtain ⟨Ux,vs',rfl⟩:=g2.var tid vs rfl
  obtain ⟨q,q1,q2,_⟩:=(h2▸hp k hk).some
  exact ⟨q,Ux,vs',g1,q1,by rw [<-q2];exact h3⟩
 |Jv k i=>
  obtain ⟨r,b,sz,n,h1,h0,h2,h3,h4⟩:=h
  have hk:=hr k (by simp [AC.refs])
  obtain ⟨b',g1,g2⟩:=hH k b hk h1
  obtain ⟨n',g3,g4⟩:=g2.row sz n h0
  obtain ⟨q,q1,q2,q3,_⟩:=(h3▸hp k hk).some
  exact ⟨q,b',sz,n',g1,g3,by omega,q1,by rw [<-q2,<-q3];exact h4⟩
 |sub k i c=>
  obtain ⟨r,b,sz,n,h1,h0,h2,h3,h4,h5⟩:=h
  have hk:=hr k (by simp [AC.refs])
  obtain ⟨b',g1,g2⟩:=hH k b hk h1
  obtain ⟨q,q1,q2,q3,_⟩:=(h2▸hp k hk).some
  exact ⟨q,b',sz,n,g1,g2.gK _ h0,q1,h3,h4,by rw [<-q2,<-q3,World.cell?_of_block (hg k r b hk (hs k i c (.inl rfl)) h1 (by rw [h0];simp) h2)];exact h5⟩
 |Js k i c=>
  obtain ⟨r,b,n,sz,g,o,len,cap,h1,h0,h2,h3,h4,h5,h6⟩:=h
  have hk:=hr k (by simp [AC.refs])
  obtain ⟨b',g1,g2⟩:=hH k b hk h1
  obtain ⟨q,q1,q2,q3,_⟩:=(h2▸hp k hk).some
  exact ⟨q,b',n,sz,g,o,len,cap,g1,g2.vZ _ h0,q1,h3,h4,by rw [<-q2,<-q3,World.cell?_of_block (hg k r b hk (hs k i c (.inr rfl)) h1 (by cases b<;>first|(cases h0;done)|simp [OB.gK]) h2)];exact h5,h6⟩
 |clo g Ek=>
  obtain ⟨us,h1,h2,h3⟩:=h
  refine ⟨us,h1,h2,λj p hpj=>?_⟩
  obtain ⟨r,tid,vs,h4,h5,h6⟩:=h3 j p hpj
  have hk:=hr p.1 (by simp only [AC.refs,Ba];exact ⟨p,Cp hpj,rfl⟩)
  obtain ⟨b',g1,g2⟩:=hH p.1 _ hk h4
  obtain ⟨Ux,vs',rfl⟩:=g2.var tid vs rfl
  obtain ⟨q,q1,q2,_⟩:=(h5▸hp p.1 hk).some
  exact ⟨q,Ux,vs',g1,q1,by rw [<-q2];exact h6⟩
 |Kh k=>
  obtain ⟨r,vt,m,h1,h2,h3⟩:=h
  have hk:=hr k (by simp [AC.refs])
  obtain ⟨b',g1,g2⟩:=hH k _ hk h1
  obtain ⟨m',rfl⟩:=g2.Vq vt m rfl
  obtain ⟨q,q1,q2,_⟩:=(h2▸hp k hk).some
  exact ⟨q,vt,m',g1,q1,by rw [<-q2];exact h3⟩
 |_=>exact h
theorem Vd (H0:List (Nat×OB)) (ls:List Nat) (n:Nat): ∀(H:List (Nat×OB)) (l:Nat),Aw (dw H0 ls n H) l=(Aw H l).map λb=>if ls.contains l then b.II (bS n (Akd (Aw H0 l))) else b
 | [],_=>rfl
 |(k,b)::r,l=>by
  simp only [dw,Aw]
  split
  ·rename_i e;subst e;rfl
  ·exact Vd H0 ls n r l
theorem OB.AY (b:OB) (kp:Option (Nat×Nat)):b.Td (b.II kp):=by
 cases b with
 |Bo e te rows out kp0=>exact ⟨λsz n h=>⟨n,h,Aq _⟩,λp h=>h,λp h=>h,(λ_ _ h=>by cases h),(λ_ _ h=>by cases h)⟩
 |_=>exact OB.Td.rfl' _
theorem gh (ls:List Nat): ∀(l m:List AV) (t:Nat),l.length=m.length->(∃k i c,l.getD t .undef= .at (.sub k i c)/\ls.contains k=true/\(Ll ls l m).getD t .undef= .at (.sub k i c))\/(Ll ls l m).getD t .undef=m.getD t .undef
 | [],m,t,_=>by cases m<;>exact .inr rfl
 |_::_,[],t,h=>by simp at h
 |a::l,v::m,t,h=>by
  have ih:= λt=>gh ls l m t (by simpa using h)
  have tail: ∀u,Ll ls (a::l) (v::m)=u::Ll ls l m->(t=0->(∃k i c,(a::l).getD t .undef= .at (.sub k i c)/\ls.contains k=true/\u= .at (.sub k i c))\/u=v)->
    (∃k i c,(a::l).getD t .undef= .at (.sub k i c)/\ls.contains k=true/\(Ll ls (a::l) (v::m)).getD t .undef= .at (.sub k i c))\/(Ll ls (a::l) (v::m)).getD t .undef=(v::m).getD t .undef:=by
   intro u e h0
   rw [e]
   rcases t with _|t
   ·rcases h0 rfl with ⟨k,i,c,h1,h2,h3⟩|h3
    ·exact .inl ⟨k,i,c,h1,h2,by simpa using h3⟩
    ·exact .inr (by simpa using h3)
   ·simpa only [Nb] using ih t
  cases a with
  | «at»c=>
   cases c with
   |sub k i c=>
    refine tail _ rfl λht=>?_
    subst ht
    by_cases hc:ls.contains k=true
    ·exact .inl ⟨k,i,c,rfl,hc,by rw [Ab hc]⟩
    ·exact .inr (by rw [Ak hc])
   |_=>exact tail _ rfl λ_=> .inr rfl
  |_=>exact tail _ rfl λ_=> .inr rfl
theorem vn {H:List (Nat×OB)} {ls:List Nat} {n:Nat} : ∀ {l:List AV} {t k i c:Nat},dF H ls n l=true->l.getD t .undef= .at (.sub k i c)->ls.contains k=true->i<n/\i<sn H k
 | [],t,k,i,c,_,h,_=>by simp at h
 |a::l,0,k,i,c,ho,h,hc=>by
  simp only [Xh] at h
  subst h
  simp only [dF,hc,Bool.not_true,br,Ai,Mw] at ho
  exact ho.1
 |a::l,t+1,k,i,c,ho,h,hc=>by
  refine vn (l:=l) (t:=t) (c:=c) ?_ (by simpa only [Nb] using h) hc
  cases a with
  | «at»d=>cases d with
   |sub _ _ _=>simp only [dF,Ai] at ho;exact ho.2
   |_=>exact ho
  |_=>exact ho
theorem MF {cp st:St} {a:Act} (h0:Bl X π cp a w) (h:Bl X π' st a w') {ls:List Nat} {n:Nat} (hk: ∀l∈ls,DG w w' (π l) (π' l) n) (tA: ∀l∈ls,o0 cp.heap l=true)
  (nh:dF st.heap ls n cp.tmps=true):Bl X π' (mB cp st ls n) a w'/\ ∀c v,Bq X w' π' st.heap c v->Bq X w' π' (mB cp st ls n).heap c v:=by
 by_cases xx:ls= []
 ·subst xx;exact ⟨h,λ_ _ h=>h⟩
 have Rj:mB cp st ls n= {tmps:=Ll ls cp.tmps st.tmps,heap:=dw cp.heap ls n st.heap} :=by
  cases ls with
  |nil=>exact absurd rfl xx
  |cons _ _=>rfl
 rw [Rj]
 have hg0: ∀l∈ls,∃e te rows out kp,Aw cp.heap l=some (.Bo e te rows out kp):= λl hl=>by
  have:=tA l hl
  unfold o0 at this
  split at this
  ·exact ⟨_,_,_,_,_,by assumption⟩
  ·cases this
 have srv: ∀k b,Aw st.heap k=some b-> ∃b',Aw (dw cp.heap ls n st.heap) k=some b'/\b.Td b':= λk b hb=>by
  rw [Vd,hb]
  refine ⟨_,rfl,?_⟩
  dsimp only
  split
  ·exact OB.AY b _
  ·exact OB.Td.rfl' b
 have hac:(∀fr τ cs x,Cells w' (De X.w0.heap.size X.Sc π' fr) τ cs x->Cells w' (De X.w0.heap.size X.Sc π' fr) τ cs x)-> ∀c v,Hj X w' π' st.heap c v->Hj X w' π' (dw cp.heap ls n st.heap) c v:= λhc=>
  oC (f:= λc=>c) (D:= λ_=>False) (Pt:= λ_=>False) (λc=> .inr ⟨rfl,λ_ _ h=>h,λ_ _ _ _ h=>h⟩) (λk _=>gA.rfl' _) (λk b _ hb=>srv k b hb) (λ_ _ _ _ _ _ _ _=>rfl) hc
 have h1:Bl X π' {tmps:=st.tmps.map (·.map λc=>c),heap:=dw cp.heap ls n st.heap} a w':=by
  refine h.oD rfl (gv:= λ_=>False) (λ_ hf=>hf.elim) (Kp.refl _ _ _) (λ_ _ ho=>ho) h.1.sub h.1.place h.1.inj (λl hl Ig=>h.1.iu l hl λh2=>Ig (by rw [Vd,h2];rfl)) hac (λm l b hb=>?_) (λl hl=>?_)
  ·rw [Vd] at hb
   cases h2:Aw st.heap l with
   |none=>rw [h2] at hb;cases hb
   |some b0=>
    rw [h2] at hb
    simp only [Am,Aa] at hb
    have hbk:=(h.1.heap l).Rc h2
    have JW:=hbk.move m (Aq _) (λr0 c h0 h1=>h.1.sub _ r0 c h0 h1) λ_ _ _ _ _=>rfl
    rw [show OB.map (λc=>c) b0=b0 from OB.GV b0] at JW
    split at hb
    ·rename_i hc
     have hl:l∈ls:=by simpa using hc
     cases b0 with
     |Bo e te rows out kp=>
      simp only [OB.II] at hb
      subst hb
      refine ⟨JW.1,?_⟩
      obtain ⟨e0,te0,Aia,Av8,kp0,hg⟩:=hg0 l hl
      have vM:=((h0.1.heap l).Rc hg).2
      rw [hg]
      simp only [Akd]
      have w6:=hk l hl
      cases kp0 with
      |none=>trivial
      |some p=>
       obtain ⟨l0,n0⟩:=p
       simp only [KeptAt,bS] at vM⊢
       cases zq:X.iu l0 with
       |none=>
        cases hp:π l with
        |none=>
         rw [hp] at w6
         cases nW:π' l with
         |none=>trivial
         |some q=>rw [nW] at w6;exact w6.elim
        |some q=>rw [zq,hp] at vM;exact vM.elim
       |some r0=>
        cases hp:π l with
        |none=>rw [zq,hp] at vM;exact vM.elim
        |some q=>
         rw [zq,hp] at vM
         rw [hp] at w6
         cases nW:π' l with
         |none=>rw [nW] at w6;exact w6.elim
         |some q'=>
          rw [nW] at w6
          obtain ⟨k1,k2,k3,k4⟩:=w6
          obtain ⟨g1,g2,g3,g4⟩:=vM
          refine ⟨k1.trans g1,k2.trans g2,k3.trans g3,λj hj hc=>?_⟩
          have e1:=g4 j (by omega) hc
          have e2:=k4 j (by omega) (by omega)
          rw [g1,g2] at e2
          rw [<-e1,e2]
     |_=>simp only [OB.II] at hb;subst hb;exact JW
    ·subst hb;exact JW
  ·rw [Vd] at hl
   cases h2:Aw st.heap l with
   |none=>exact (h.1.heap l).emp h2
   |some b=>rw [h2] at hl;cases hl
 have QX: ∀c v,Bq X w' π' st.heap c v->Bq X w' π' (dw cp.heap ls n st.heap) c v:= λc v hv=>by
  have m:Move X w' w' π' π' st.heap (dw cp.heap ls n st.heap) (λc=>c):=⟨hac λ_ _ _ _ h=>h,λ_ _ _ _ h=>h⟩
  have:=m.av hv
  rwa [AC.map_id] at this
 refine ⟨⟨h1.1,⟨?_,h.2.defers,λt=>?_⟩⟩,QX⟩
 ·have: ∀(l m:List AV),(Ll ls l m).length=m.length:=by
   intro l
   induction l with
   |nil=>intro m;cases m<;>rfl
   |cons a l ih=>
    intro m
    cases m with
    |nil=>cases a with
     | «at»c=>cases c<;>rfl
     |_=>rfl
    |cons v m=>cases a with
     | «at»c=>cases c<;>simp only [Ll,Av,ih m]
     |_=>simp only [Ll,Av,ih m]
  show a.tmps.size=(Ll ls cp.tmps st.tmps).length
  rw [this];exact h.2.size
 ·show Bq X w' π' _ ((Ll ls cp.tmps st.tmps).getD t .undef) _
  rcases gh ls cp.tmps st.tmps t (by rw [<-h0.2.size,<-h.2.size]) with ⟨k,i,c,g1,g2,g3⟩|g
  ·rw [g3]
   have My:k∈ls:=by simpa using g2
   obtain ⟨i1,i2⟩:=vn nh g1 g2
   have hv:=h0.2.tmps t
   rw [show cp.get t=_ from g1] at hv
   obtain ⟨r,b,sz,n',e1,e2,e3,e4,⟨e5,e6⟩,e7⟩:=hv
   obtain ⟨e0,te0,Aia,Av8,kp0,hg⟩:=hg0 k My
   rw [hg] at e1;cases e1
   simp only [OB.gK,Aa,Ah] at e2
   obtain ⟨rfl,rfl⟩:=e2
   have w6:=hk k My
   rw [e3] at w6
   cases nW:π' k with
   |none=>rw [nW] at w6;exact w6.elim
   |some q'=>
    rw [nW] at w6
    obtain ⟨k1,k2,k3,k4⟩:=w6
    have tz:Aia.length<=r.cap:=by
     have:=((h0.1.heap k).Rc hg).1
     rw [e3] at this
     obtain ⟨_,_,_,_,_,_,h5,_⟩:=this
     exact h5
    unfold sn at i2
    split at i2
    ·rename_i e9 te9 Aq3 Bal kp9 hg9
     refine ⟨q',_,1,Aq3.length,by rw [Vd,hg9];rfl,?_,nW,i2,⟨e5,e6⟩,?_⟩
     ·dsimp only
      split<;>rfl
     ·have kq:c=0:=by omega
      subst kq
      rw [k1,k2]
      rw [Fo,Dv] at e7⊢
      rw [k4 i i1 (by omega)];exact e7
    ·omega
  ·rw [g]
   exact QX _ _ (h.2.tmps t)
theorem qc {ins:List (Bool×CK)} {as:List AC} {pl:List Nat} {st:St} :(rX ins as pl st).tmps=st.tmps:=by
 unfold rX
 split
 ·rfl
 ·split<;>rfl
theorem OD {ins:List (Bool×CK)} {as:List AC} {pl:List Nat} {st:St} {m:Nat} (hm:m∉pl):Aw (rX ins as pl st).heap m=Aw st.heap m:=by
 unfold rX
 split
 ·rfl
 ·rename_i l r
  split
  ·exact Eg _ _ _ _ λe=>hm (e▸Lr)
  ·rfl
theorem VV {ins:List (Bool×CK)} {as:List AC} {l:Nat} {st:St} {tid:TypeId} {vs:List AC} (hl:Aw st.heap l=some (.var tid vs)):Aw (rX ins as [l] st).heap l=some (.var tid (gR ins vs as)):=by
 simp only [rX,St.at,hl]
 exact Fb _ _ _ _ hl
theorem yf {α:Type} (ins:List (Bool×CK)) (as:List α):gR ins [] as= []:=by
 rcases ins with _|⟨⟨_|_,c⟩,r⟩<;>rfl
theorem pX {α:Type} : ∀(ins:List (Bool×CK)) (vs as:List α),(gR ins vs as).length=vs.length
 | [],vs,as=>by rw [gR];all_goals simp
 |p::r,[],as=>by rw [yf]
 |(true,c)::r,v::vs,as=>by simp only [gR,Av,pX r vs as]
 |(false,c)::r,v::vs,[]=>by rw [gR];all_goals simp
 |(false,c)::r,v::vs,a::as=>by simp only [gR,Av,pX r vs as]
theorem VL {st:St} {a:Act} (h:Bl X π st a w) {s:MSpec} {nu:List AV} {vs:List Value} (hlen:nu.length=vs.length) (QX: ∀(i:Nat) c v,nu[i]?=some c->vs[i]?=some v->Bq X w π st.heap c v)
  {pl:List Nat} {cells:List AC} {rest:List AV} (he:SI st s nu=some (pl,cells,rest)):
  ∃(g:Nat) (cus yF:List Value),rest.length=yF.length/\(∀(i:Nat) c v,rest[i]?=some c->yF[i]?=some v->Bq X w π st.heap c v)/\Ms X w π st.heap cells cus/\
   ((s.ptr=none/\pl= []/\cells= []/\cus= []/\vs=yF)\/
    ∃p l q,s.ptr=some p/\pl= [l]/\π l=some q/\q.Cz q.g/\g=q.g/\Aw st.heap l=some (.var p.1 cells)/\cells.length=p.2/\vs= .pointer (some ⟨g,0,none⟩)::yF/\w.heap[g]?=some (.cells cus.toArray p.1 (0,0))/\Fw X w π st.heap cells cus):=by
 unfold SI at he
 split at he
 ·rename_i hp
  simp only [Aa,Ah] at he
  obtain ⟨rfl,rfl,rfl⟩:=he
  exact ⟨0,[],vs,hlen,QX,trivial, .inl ⟨hp,rfl,rfl,rfl,rfl⟩⟩
 ·rename_i p hp
  split at he
  ·rename_i l i Axa
   split at he
   ·rename_i tid cs hl
    split at he
    ·rename_i hc
     obtain ⟨rfl,hc,rfl⟩:=hc
     simp only [Aa,Ah] at he
     obtain ⟨rfl,rfl,rfl⟩:=he
     unfold St.at at hl
     cases vs with
     |nil=>simp at hlen
     |cons v vs=>
      obtain ⟨r,Ux,vs',h1,h2,rfl⟩:=QX 0 _ v rfl rfl
      rw [hl] at h1;cases h1
      obtain ⟨r',h3,h4,cur,h5,h6⟩:=(h.1.heap l).Rc hl
      rw [h2] at h3;cases h3
      exact ⟨r.g,cur.toList,vs,by simpa using hlen,λi c v h7 h8=>QX (i+1) c v (by simpa using h7) (by simpa using h8),Ms.of h6, .inr ⟨p,l,r,hp,rfl,h2,h4,rfl,hl,hc,rfl,by simpa using h5,h6⟩⟩
    ·cases he
   ·cases he
  ·cases he
theorem kE {V:List Nat} {πc:Pi} {dead part:List Nat} (hπ: ∀l,l∉dead->π' l=π l) (Ka: ∀l b sz n,l∉dead->Aw H l=some b->b.row=some (sz,n)-> ∃b',Aw H' l=some b'/\b'.row=some (sz,n)):
  ∀(ins:List (Bool×CK)) (k:Nat) (cells oV:List AC) (x:Ins.den ins) (us:List Value) (o:IOs.den ins) (cur st1:St) (news:List AC) (Xa cs:List Value),rJ X w π V H πc k ins x (cells++oV) us->Wh ins cells=true->
   Hv ins o (cells++oV) cur=some st1->Ey πc k ins o cells.length cs Xa->Ms X w' π' H' news Xa->Ms X w' π' H' (gR ins (cells.map (Cv dead part)) news) cs
 |ins,k,[],oV,x,us,o,cur,st1,news,Xa,cs,_,_,_,hb,_=>by
  have hb:cs= []:=by rcases ins with _|⟨⟨_|_,c⟩,r⟩<;>(try cases c)<;>simpa [Ey] using hb
  rw [hb,List.map_nil,yf]
  trivial
 | [],k,a::cells,oV,x,us,o,cur,st1,news,Xa,cs,_,hk,_,_,_=>by simp [Wh] at hk
 |(true, .Fe τ)::r,k,a::cells,oV,x,us,o,cur,st1,news,Xa,cs,_,hk,_,_,_=>by simp [Wh] at hk
 |(true, .part e te)::r,k,a::cells,oV,x,us,o,cur,st1,news,Xa,cs,_,hk,_,_,_=>by simp [Wh] at hk
 |(true, .Bo e te _)::r,k,a::cells,oV,x,us,o,cur,st1,news,Xa,cs,_,hk,_,_,_=>by simp [Wh] at hk
 |(true, .row e te)::r,k,a::cells,oV,x,us,o,cur,st1,news,Xa,cs,ht,hk,hp,hb,hn=>by
  cases a<;>simp only [Wh,Df] at hk
  rename_i l off len
  cases us with
  |nil=>exact ht.elim
  |cons u0 us=>
  cases cs with
  |nil=>exact hb.elim
  |cons u cs=>
  obtain ⟨⟨_,h1⟩,h2⟩:=ht
  simp only [To] at h1
  obtain ⟨h3,rfl,rfl,fr,tr,h4⟩:=h1
  obtain ⟨h5,h6⟩:=hb
  simp only [Mb,Hv] at hp
  split at hp
  rotate_left
  ·cases hp
  rename_i ao hpc
  have hlo:List.length o.1=List.length x.1:=by
   simp only [cw] at hpc
   repeat' split at hpc
   all_goals first|(cases hpc;done)|(rename_i hc;exact hc.2.1)
  refine ⟨?_,kE hπ Ka r (k+1) cells oV x.2 us o.2 ao st1 news Xa cs h2 hk hp h6 hn⟩
  by_cases hd:l∈dead
  ·have:Cv dead part (.own l 0 (List.length x.1))= .undef:=by
    unfold Cv
    rw [Ab (by simp [AC.refs,hd])]
   rw [this];trivial
  ·rw [cK (by simpa [AC.refs] using hd) (by intro l i j e;rcases e with e|e<;>cases e)]
   obtain ⟨b',g1,g2⟩:=Ka l _ e.size (List.length x.1) hd h4 rfl
   refine ⟨b',e.size,List.length x.1,g1,g2,by omega,?_⟩
   rw [hπ l hd]
   rw [h3,hlo] at h5
   cases hp:π l<;>(rw [hp] at h5;exact h5)
 |(true, .Ho e te)::r,k,a::cells,oV,x,us,o,cur,st1,news,Xa,cs,ht,hk,hp,hb,hn=>by
  cases a<;>simp only [Wh,Df] at hk
  rename_i l off len
  cases us with
  |nil=>exact ht.elim
  |cons u0 us=>
  cases cs with
  |nil=>exact hb.elim
  |cons u cs=>
  obtain ⟨⟨_,h1⟩,h2⟩:=ht
  simp only [To] at h1
  obtain ⟨h3,rfl,rfl,h4⟩:=h1
  obtain ⟨h5,h6⟩:=hb
  simp only [Mb,Hv] at hp
  split at hp
  rotate_left
  ·cases hp
  rename_i ao hpc
  have hlo:List.length o.1=List.length x.1:=by
   simp only [cw] at hpc
   repeat' split at hpc
   all_goals first|(cases hpc;done)|(rename_i hc;exact hc.2.1)
  refine ⟨?_,kE hπ Ka r (k+1) cells oV x.2 us o.2 ao st1 news Xa cs h2 hk hp h6 hn⟩
  by_cases hd:l∈dead
  ·have:Cv dead part (.own l 0 (List.length x.1))= .undef:=by
    unfold Cv
    rw [Ab (by simp [AC.refs,hd])]
   rw [this];trivial
  ·rw [cK (by simpa [AC.refs] using hd) (by intro l i j e;rcases e with e|e<;>cases e)]
   obtain ⟨b',g1,g2⟩:=Ka l _ e.size (List.length x.1) hd h4 rfl
   refine ⟨b',e.size,List.length x.1,g1,g2,by omega,?_⟩
   rw [hπ l hd]
   rw [h3,hlo] at h5
   cases hp:π l<;>(rw [hp] at h5;exact h5)
 |(false,c)::r,k,a::cells,oV,x,[],o,cur,st1,news,Xa,cs,ht,hk,hp,hb,hn=>ht.elim
 |(false,c)::r,k,a::cells,oV,x,u0::us,o,cur,st1,news,Xa,[],ht,hk,hp,hb,hn=>by cases c<;>exact hb.elim
 |(false,c)::r,k,a::cells,oV,x,u0::us,o,cur,st1,news,[],u::cs,ht,hk,hp,hb,hn=>by cases c<;>exact hb.elim
 |(false,c)::r,k,a::cells,oV,x,u0::us,o,cur,st1,[],u'::Xa,u::cs,ht,hk,hp,hb,hn=>hn.elim
 |(false,c)::r,k,a::cells,oV,x,u0::us,o,cur,st1,na::news,u'::Xa,u::cs,ht,hk,hp,hb,hn=>by
  have hb2:u=u'/\Ey πc (k+1) r o cells.length cs Xa:=by cases c<;>exact hb
  obtain ⟨rfl,hb3⟩:=hb2
  have hp:Hv r o (cells++oV) cur=some st1:=by cases c<;>simpa only [Mb,Hv] using hp
  have hk:Wh r cells=true:=by cases c<;>simpa only [Wh] using hk
  exact ⟨hn.1,kE hπ Ka r (k+1) cells oV x.2 us o cur st1 news Xa cs ht.2 hk hp hb3 hn.2⟩
theorem JC {V:List Nat} {πc:Pi} : ∀(cs:List (Bool×CK)) (k0:Nat) (x:Ins.den cs) (as:List AC) (us:List Value),k0+cs.length<100000->rJ X w π V H πc k0 cs x as us-> ∀k l,(Ed false k,Loc.row l)∈Lm k0 cs as->πc (Ed false k)=(π l).map full
 | [],_,_,[],_,_,_,_,_,h=>by cases h
 | [],_,_,_::_,_,_,_,_,_,h=>by cases h
 |_::_,_,_,[],_,_,_,_,_,h=>by cases h
 |_::_,_,_,_::_,[],_,h,_,_,_=>h.elim
 |(io,c)::r,k0,x,a::as,u::us,hk,h,k,l,ht=>by
  simp only [Av] at hk
  simp only [Lm] at ht
  rcases Az.1 ht with ht|ht
  ·obtain ⟨⟨_,h1⟩,_⟩:=h
   cases c with
   |Fe τ=>cases a<;>simp [Qd,views] at ht
   |row e te=>
    cases a<;>simp [Qd] at ht
    obtain ⟨e1,rfl⟩:=ht
    simp only [To] at h1
    rw [e1];exact h1.1
   |Ho e te=>
    cases a<;>simp [Qd] at ht
    obtain ⟨e1,rfl⟩:=ht
    simp only [To] at h1
    rw [e1];exact h1.1
   |part e te=>
    cases a<;>simp [Qd] at ht
    obtain ⟨e1,rfl⟩:=ht
    simp only [To] at h1
    rw [e1];exact h1.2.1
   |Bo e te kp=>
    cases a<;>simp [Qd] at ht
    obtain ⟨e1,rfl⟩:=ht
    simp only [To] at h1
    rw [e1];exact h1.2.1
  ·exact JC r (k0+1) x.2 as us (by omega) h.2 k l ht
theorem rM {st:St} {a:Act} (h:Bl X π st a w) {f:FuncId} {s:MSpec} (hs:Ci P f s) (dst:Option Nat) (nu:List AV) (vs:List Value) (hlen:nu.length=vs.length)
  (QX: ∀(i:Nat) c v,nu[i]?=some c->vs[i]?=some v->Bq X w π st.heap c v) (av:AV) (st':St) (he:Xr st dst s nu=some (av,st')):
  Calls P f vs.toArray w λe w'=> ∃v,e= .returned v/\ ∃π',Bl X π' st' a w'/\Bq X w' π' st'.heap av v:=by
 unfold Xr at he
 split at he
 ·cases he
 rename_i pl cells rest Auc
 split at he
 ·cases he
 rename_i oV p6
 split at he
 ·cases he
 rename_i x tks htk
 split at he
 rotate_left
 ·cases he
 rename_i Jk
 simp only [Ai,Mw] at Jk
 obtain ⟨⟨⟨⟨rS,tF⟩,hon⟩,Rw⟩,Anw,TW⟩:=Jk
 have TW: ∀l∈pl,l∉(tks.map λt=>t.2.Xb)/\l∉Rz s tks (dst.getD 0):= λl hl=>by
  have:=Bf.1 TW l hl
  simp only [Ew,<-Fa,Je] at this
  exact ⟨λhm=>this (Bi _ hm),λhm=>this (Cm _ hm)⟩
 split at he
 ·cases he
 rename_i r o hfn
 split at he
 ·cases he
 rename_i st1 ZY
 obtain ⟨g,cus,yF,ZU,At2,Auf,cv⟩:=VL h hlen QX Auc
 obtain ⟨wT,rfl,hsh,Aue⟩:=aj s.Hw rest yF oV ZU At2 p6
 have hrc:=Auf.append Aue
 have Qt:p7 s w g (cus++wT) vs:=by
  unfold p7
  rcases cv with ⟨h1,_,_,h2,h3⟩|⟨p,l,q,h1,_,_,_,_,_,h2,h3,h4,h5⟩
  ·rw [h1];subst h2;exact ⟨h3,hsh⟩
  ·rw [h1]
   have hl:cus.length=p.2:=h5.1.trans h2
   simp only
   rw [List.drop_append_of_le_length (by omega),List.take_append_of_le_length (by omega),List.take_of_length_le (by omega),List.drop_of_length_le (by omega)]
   refine ⟨h3,hsh,by simp;omega,h4,λu hu=>?_⟩
   obtain ⟨i,hi,rfl⟩:=Bj.1 hu
   obtain ⟨u',h6,h7,_⟩:=h5.2 i (cells[i]'(by have:=h5.1;omega)) (Ad _)
   rw [Ad hi] at h6
   rw [Bd h6];exact h7
 have TX: ∀l∈pl,∃p q,s.ptr=some p/\pl= [l]/\π l=some q/\q.Cz q.g/\g=q.g/\Aw st.heap l=some (.var p.1 cells)/\cells.length=p.2:= λl hl=>by
  rcases cv with ⟨_,h1,_⟩|⟨p,l',q,h1,h2,h3,h4,h5,h6,h7,_⟩
  ·rw [h1] at hl;cases hl
  ·rw [h2] at hl
   have:=Ae.1 hl
   subst this
   exact ⟨p,q,h1,h2,h3,h4,h5,h6,h7⟩
 have TU: ∀b,s.gv g b-> ∃l∈pl,∃q,π l=some q/\q.Cz b/\b=q.g:= λb ⟨h1,h2⟩=>by
  rcases cv with ⟨h3,_⟩|⟨p,l',q,_,h4,h5,h6,h7,_⟩
  ·rw [h3] at h1;cases h1
  ·exact ⟨l',by rw [h4];exact Ae.2 rfl,q,h5,by rw [h2,h7];exact h6,h2.trans h7⟩
 obtain ⟨as,has⟩: ∃as,as=cells++oV:=⟨_,rfl⟩
 obtain ⟨us,hus⟩: ∃us,us=cus++wT:=⟨_,rfl⟩
 rw [<-has] at hrc htk ZY
 rw [<-hus] at hrc Qt
 let V:=(tks.filter λt=>t.2.reads).map λt=>t.2.Xb
 have hV: ∀t∈tks,t.2.reads=true->t.2.Xb∈V:= λt ht hr=>Ba.2 ⟨t,Bm.2 ⟨ht,hr⟩,rfl⟩
 have hV': ∀l∈V,∃t∈tks,t.2.reads=true/\t.2.Xb=l:= λl hl=>by
  obtain ⟨t,h1,h2⟩:=Ba.1 hl
  exact ⟨t,(Bm.1 h1).1,(Bm.1 h1).2,h2⟩
 clear_value V
 obtain ⟨etk,πc,hT,ZM,Atk,Wg⟩:=vA h.1 (V:=V) s.ins 0 as us x tks (by omega) hrc htk hV
 have LU:=Ya rS
 rw [etk] at LU
 have ez: ∀b,Vu πc b-> ∃t∈Lm 0 s.ins as,t.2.reads=false/\ ∃q,π t.2.Xb=some q/\q.Cz b/\ ∀l i j,t.2= .sub l i j->b≠q.g:= λb ⟨c,q,h1,h2⟩=>by
  obtain ⟨t,t1,_,t3⟩:=Wg c q b h1 h2
  exact ⟨t,t1,t3⟩
 have LW: ∀b,Vu πc b->Vu π b:= λb hb=>let ⟨t,_,_,q,h1,h2,_⟩:=ez b hb;⟨_,q,h1,h2⟩
 have lq:iB πc (λb=>b<w.heap.size):=⟨λl q b h1 h2=>(h.1.own (LW b ⟨l,q,h1,h2⟩)).1,λl l' q q' b h1 h2 h3 h4=>by
  obtain ⟨t,t1,t2,_,p,t3,t4,_⟩:=Wg l q b h1 h3
  obtain ⟨t',t1',t2',_,p',t3',t4',_⟩:=Wg l' q' b h2 h4
  have:=zG LU t1 t1' (h.1.apart t3 t3' t4 t4')
  rw [<-t2,<-t2',this]⟩
 have An4: ∀k l,(Ed false k,Loc.row l)∈Lm 0 s.ins as->πc (Ed false k)=(π l).map full:= λk l ht=>
  JC s.ins 0 x as us (by omega) hT k l ht
 have Ap3: ∀b,Vu πc b->Of X π V b:= λb hb=> .inl ⟨LW b hb,λl hl r' hr hf=>by
  obtain ⟨t,t1,t0,q,t3,t4,_⟩:=ez b hb
  obtain ⟨t',t1',t2',rfl⟩:=hV' l hl
  rw [etk] at t1'
  have:=zG LU t1 t1' (h.1.apart t3 hr t4 hf)
  subst this
  rw [t0] at t2';cases t2'⟩
 let S:Nat->Prop:= λb=> ¬Vu πc b/\Of X π V b
 have hS: ∀b,S b->b<w.heap.size/\ ¬Vu πc b:= λb hb=>⟨by
  rcases hb.2 with h1|h1
  ·exact (h.1.own h1.1).1
  ·exact El (h.1.sc b h1).1 h.1.below.size,hb.1⟩
 have Af1: ∀l∈pl,∀t∈Lm 0 s.ins as,t.2.Xb≠l:= λl hl t ht e=>(TW l hl).1 (Ba.2 ⟨t,etk▸ht,e⟩)
 have hSg:s.ptr.isSome=true->S g:= λhps=>by
  obtain ⟨l,hl,q,h1,h2,h3⟩:=TU g ⟨hps,rfl⟩
  have hno: ¬Vu πc g:= λhb=>by
   obtain ⟨t,t1,_,q',t3,t4,_⟩:=ez g hb
   exact Af1 l hl t t1 (h.1.apart t3 h1 t4 h2)
  refine ⟨hno, .inl ⟨⟨l,q,h1,h2⟩,λl' Jg r' dQ hf=>?_⟩⟩
  obtain ⟨t',t1',_,rfl⟩:=hV' l' Jg
  rw [etk] at t1'
  exact Af1 l hl t' t1' (h.1.apart dQ h1 hf h2)
 refine (hs.calls w S πc us x r o g vs Qt hSg (eY.Ii (λb hb=>hb.elim (Ap3 b) λh=>h.2) s.ins 0 x us (hT.Apc s.ins 0 x as us)) lq hS Atk hfn).mono ?_
 rintro e w' ⟨v,Xa,DE,rfl,fy,qL,Aeo,zj,Aoc,ZX,Ak6,xw⟩
 obtain ⟨ρ,Af9,zp,ZW,Aha⟩: ∃ρ:Pi,(∀l,ρ l=(DE l).map full)/\Iv w' (kO S πc DE) ρ 0 s.outs r Xa/\iB ρ (λb=>b<w'.heap.size/\(w.heap.size<=b\/ ∃l q,l<Bp/\πc l=some q/\q.Cz b))/\ ∀l q,ρ l=some q->q.cl=q.Cz:=by
  have un: ∀l q,(DE l).map full=some q-> ∃q0,DE l=some q0/\q=full q0:= λl q hq=>by
   cases hp:DE l with
   |none=>rw [hp] at hq;cases hq
   |some q0=>rw [hp] at hq;exact ⟨q0,rfl,(Bd hq).symm⟩
  refine ⟨λl=>(DE l).map full,λ_=>rfl,Iv.full s.outs 0 r Xa Aoc,⟨λl q b h1 h2=>?_,λl l' q q' b h1 h2 h3 h4=>?_⟩,λl q h1=>?_⟩
  ·obtain ⟨q0,h5,rfl⟩:=un l q h1
   exact ZX.Ss l q0 b h5 h2
  ·obtain ⟨q0,h5,rfl⟩:=un l q h1
   obtain ⟨q0',h6,rfl⟩:=un l' q' h2
   exact ZX.inj l l' q0 q0' b h5 h6 h3 h4
  ·obtain ⟨q0,_,rfl⟩:=un l q h1
   rfl
 refine ⟨v,rfl,?_⟩
 split at he
 ·cases he
 rename_i av0 ib
 split at he
 rotate_left
 ·cases he
 rename_i Jl
 simp only [Aa,Ah] at he
 obtain ⟨rfl,rfl⟩:=he
 let D1:Nat->Prop:=if s.flat then λ_=>True else kO S πc DE
 have Atn:Ly w' D1 πc 0 s.ins o:=by
  show Ly w' (if s.flat then λ_=>True else kO S πc DE) πc 0 s.ins o
  split
  ·rename_i hf
   unfold MSpec.flat at hf
   simp only [Ai] at hf
   exact Ly.any s.ins 0 o hf.2 zj
  ·exact zj
 have Aod:Iv w' D1 ρ 0 s.outs r Xa:=by
  show Iv w' (if s.flat then λ_=>True else kO S πc DE) ρ 0 s.outs r Xa
  split
  ·rename_i hf
   unfold MSpec.flat at hf
   simp only [Ai] at hf
   exact Iv.any s.outs 0 r Xa hf.1 zp
  ·exact zp
 obtain ⟨q1,q2,q3,q4⟩:=uv (D:=D1) (X:=X) (π:=π) (H:=st.heap) h.1 Aeo.size (tks:=Lm 0 s.ins as) (πc:=πc) (λt ht q b hq hb Jc hn=>Aeo.block b Jc λLV=>by
   rcases LV with ⟨c,r',h1,h2⟩|hg
   rotate_left
   ·obtain ⟨l,hl,q',h1,h2,_⟩:=TU b hg
    exact Af1 l hl t ht (h.1.apart hq h1 hb h2)
   obtain ⟨t',t1,t2,_,p,t3,t4,_⟩:=Wg c r' b h1 h2
   have:=zG LU ht t1 (h.1.apart hq t3 hb t4)
   subst this
   exact hn r' (t2▸h1) h2) s.ins 0 x as us o st st1 (by omega) (λ_ h=>h) LU hT Atn ZY (λ_ _=>rfl)
 have Ajt: ∀t∈Lm 0 s.ins as,t.2.reads=true->t.1<Bp:=by
  have: ∀(cs:List (Bool×CK)) (k:Nat) (as:List AC),k+cs.length<100000-> ∀t∈Lm k cs as,t.2.reads=true->t.1<Bp:=by
   intro cs
   induction cs with
   |nil=>intro k as _ t ht;cases as<;>cases ht
   |cons p r ih=>
    intro k as hk t ht hr
    simp only [Av] at hk
    cases as with
    |nil=>cases ht
    |cons a as=>
     simp only [Lm] at ht
     rcases Az.1 ht with ht|ht
     ·rcases JB ht with ⟨_,h1⟩|⟨h1,_⟩
      ·rw [hr] at h1;cases h1
      ·rw [h1];exact fS (by omega)
     ·exact ih (k+1) as (by omega) t ht hr
  exact this s.ins 0 as (by omega)
 let d:=dst.getD 0
 let ks:=Rz s tks d
 let dead:=nB tks++ks++(if s.flat then [] else CO tks)
 let part:=whole tks
 have Auh:s.outs.length+(mQ s d).length=s.Ut:=by unfold MSpec.Ut mQ;cases s.rp<;>rfl
 obtain ⟨Aji,Atz,Ahj⟩:ks.length=s.Ut/\ks.Nodup/\ ∀l∈ks,l<Bp:=by
  have:=MI tF
  rw [Auh] at this
  exact this
 have hno:s.outs.length<=s.Ut:=by unfold MSpec.Ut;omega
 have hvk: ∀tid,s.rp=some tid->Ei ks s.outs.length=Ti d/\s.Ut=s.outs.length+1:= λtid Xw=>by
  have h1:s.Ut=s.outs.length+1:=by unfold MSpec.Ut;rw [Xw]
  refine ⟨?_,h1⟩
  have h2:ks=ny s tks d++ [Ti d]:=by show ny s tks d++mQ s d=_;unfold mQ;rw [Xw]
  have h3:(ny s tks d).length=s.outs.length:=by rw [h2] at Aji;simp at Aji;omega
  rw [Rd (by rw [Aji];omega)]
  simp only [h2]
  rw [List.getElem_append_right (by omega)]
  simp [h3]
 have ZT:=ED Atz Ahj
 have Atx: ∀j,j<s.Ut->Ei ks j<Bp:= λj hj=>Ahj _ (mem_keys.2 ⟨j,by omega,rfl⟩)
 let π':Pi:= λl=>match (List.range s.Ut).find? λj=>decide (Ei ks j=l) with
  |some j=>ρ (Jw j)
  |none=>if l∈dead then none else π l
 have w5: ∀j,j<s.Ut->π' (Ei ks j)=ρ (Jw j):= λj hj=>by
  show (match (List.range s.Ut).find? λi=>decide (Ei ks i=Ei ks j) with|some i=>ρ (Jw i)|none=>_)=_
  cases hf:(List.range s.Ut).find? λi=>decide (Ei ks i=Ei ks j) with
  |none=>
   have:=List.find?_eq_none.1 hf j (Es.2 hj)
   simp at this
  |some i=>
   have:=List.find?_some hf
   rw [ZT i j (Gw this)]
 have tE: ∀j,j<s.Ut->Ei ks j∈dead:= λj hj=>Bi _ (Cm _ (mem_keys.2 ⟨j,by omega,rfl⟩))
 have zk: ∀l,(¬ ∃j,j<s.Ut/\l=Ei ks j)->π' l=if l∈dead then none else π l:= λl hl=>by
  show (match (List.range s.Ut).find? λi=>decide (Ei ks i=l) with|some i=>ρ (Jw i)|none=>_)=_
  cases hf:(List.range s.Ut).find? λi=>decide (Ei ks i=l) with
  |none=>rfl
  |some i=>
   have h1:=List.find?_some hf
   exact absurd ⟨i,Es.1 (List.mem_of_find?_eq_some hf),(Gw h1).symm⟩ hl
 have Aa8: ∀l,l∉dead->π' l=π l:= λl hl=>by
  rw [zk l (λ⟨j,h1,h2⟩=>hl (h2▸tE j h1)),Ak hl]
 have hD1: ∀b,Vu π' b\/X.Sc b->D1 b:=by
  intro b hb
  show (if s.flat then λ_=>True else kO S πc DE) b
  split
  ·trivial
  rename_i hnf
  rcases hb with ⟨l,q,hl,hf⟩|hb
  ·by_cases hk: ∃j,j<s.Ut/\l=Ei ks j
   ·obtain ⟨j,hj,rfl⟩:=hk
    rw [w5 j hj,Af9] at hl
    cases hp:DE (Jw j) with
    |none=>rw [hp] at hl;cases hl
    |some q0=>rw [hp] at hl;simp only [Am,Aa] at hl;subst hl;exact .inr (.inr ⟨Jw j,q0,hp,hf⟩)
   ·have e0:π' l=if l∈dead then none else π l:=zk l hk
    rw [e0] at hl
    split at hl
    ·cases hl
    ·rename_i Aex
     by_cases ho:Vu πc b
     ·obtain ⟨c,q',hc,hcb⟩:=ho
      obtain ⟨t,t1,t2,t0,p,t3,t4,_⟩:=Wg c q' b hc hcb
      have zl:=h.1.apart hl t3 hf t4
      refine .inr (.inl ⟨c,q',Bk λhn=>?_,hc,hcb⟩)
      exact Aex (Bi _ (Bi _ (eE.2 ⟨t,etk▸t1,⟨by rw [t2];omega,t0⟩,zl.symm⟩)))
     ·refine .inl ⟨ho, .inl ⟨⟨l,q,hl,hf⟩,λl0 hl0 r0 hr0 hf0=>?_⟩⟩
      have:=h.1.apart hl hr0 hf hf0
      subst this
      exact Aex (Cm _ (by rw [Ak hnf];exact ua.2 (hV' l hl0)))
  ·refine .inl ⟨λho=>?_, .inr hb⟩
   have h1:=h.1.sc b hb
   rcases (h.1.own (LW b ho)).2 with h2|h2
   ·omega
   ·exact h1.2 h2
 have hpd: ∀l∈pl,l∉dead:= λl hl hd=>by
  rcases Az.1 hd with hd|hd
  ·rcases Az.1 hd with hd|hd
   ·obtain ⟨t,ht,_,e⟩:=eE.1 hd
    exact (TW l hl).1 (Ba.2 ⟨t,ht,e⟩)
   ·exact (TW l hl).2 hd
  ·split at hd
   ·cases hd
   ·obtain ⟨t,ht,_,e⟩:=ua.1 hd
    exact (TW l hl).1 (Ba.2 ⟨t,ht,e⟩)
 have Ajh: ∀j,j<s.Ut->Ei ks j∉pl:= λj hj hp=>hpd _ hp (tE j hj)
 let bv:Option OB:=s.rp.map λtid=> .var tid ((bV (Ei ks) 0 s.outs r).drop s.aJ)
 let H1:=(rX s.ins (bV (Ei ks) 0 s.outs r) pl (st1.cJ dead part)).heap
 have hH1: ∀l,l∉pl->Aw H1 l=if l∈dead then none else (Aw st1.heap l).map (OB.map (Cv dead part)):= λl hl=>by
  show Aw (rX _ _ _ _).heap l=_
  rw [OD hl]
  show Aw (Xo (st1.heap.map λp=>(p.1,p.2.map (Cv dead part))) dead) l=_
  rw [Ng,Ol]
 let H2:=FW H1 (Ti d) bv
 have hvd: ∀tid,s.rp=some tid->Ti d∈dead/\Ti d∉pl:= λtid Xw=>by
  obtain ⟨e1,e2⟩:=hvk tid Xw
  rw [<-e1]
  exact ⟨tE _ (by omega),Ajh _ (by omega)⟩
 have An1: ∀l,(∀tid,s.rp=some tid->l≠Ti d)->Aw H2 l=Aw H1 l:= λl hl=>by
  show Aw (FW H1 (Ti d) (s.rp.map _)) l=_
  cases KB:s.rp with
  |none=>rfl
  |some tid=>exact Pb _ _ _ _ (hl tid KB)
 have Asp: ∀tid,s.rp=some tid->Aw H2 (Ti d)=some (.var tid ((bV (Ei ks) 0 s.outs r).drop s.aJ)):= λtid Xw=>by
  show Aw (FW H1 (Ti d) (s.rp.map _)) (Ti d)=_
  rw [Xw]
  exact Qg _ _ _ (by rw [hH1 _ (hvd tid Xw).2,Ab (hvd tid Xw).1])
 have hkv: ∀j,j<s.outs.length-> ∀tid,s.rp=some tid->Ei ks j≠Ti d:= λj hj tid Xw e=>by
  have:=ZT j s.outs.length (e.trans (hvk tid Xw).1.symm)
  omega
 have hH2: ∀l,l∉pl->(∀tid,s.rp=some tid->l≠Ti d)->Aw H2 l=if l∈dead then none else (Aw st1.heap l).map (OB.map (Cv dead part)):= λl hl hv=>by
  rw [An1 l hv,hH1 l hl]
 let H':=Yb (QQ st (nB tks)) (Ei ks) 0 s.outs r H2
 obtain ⟨n1,n2,n3⟩:=rh (D:=D1) (X:=X) (key:=Ei ks) ZT (fr:=QQ st (nB tks)) (ρ:=ρ) s.outs 0 r Xa H2 Aod (λj _ hj=>by
  rw [hH2 _ (Ajh j (by omega)) (hkv j (by omega)),Ab (tE j (by omega))])
 have py: ∀l,l∉dead->l∉pl->Aw H' l=(Aw st1.heap l).map (OB.map (Cv dead part)):= λl hl rR=>by
  show Aw (Yb _ _ _ _ _ _) l=_
  rw [n1 l λj _ hj e=>hl (e▸tE j (by omega)),hH2 l rR (λtid Xw e=>hl (e▸(hvd tid Xw).1)),Ak hl]
 have Aei: ∀l,l∈dead->(∀j,j<s.Ut->l≠Ei ks j)->Aw H' l=none:= λl hl hj=>by
  show Aw (Yb _ _ _ _ _ _) l=_
  rw [n1 l λj _ h2=>hj j (by omega),hH2 l (λhp=>hpd l hp hl) (λtid Xw e=>hj s.outs.length (by have:=(hvk tid Xw).2;omega) (e.trans (hvk tid Xw).1.symm)),Ab hl]
 have newAt: ∀l b',Aw H' l=some b'->(l∈dead\/Aw st.heap l=none)-> ∃j,j<s.Ut/\l=Ei ks j:=by
  intro l b' hb hd
  refine Bk λhn=>?_
  have oZ: ∀j,j<s.Ut->l≠Ei ks j:= λj hj e=>hn ⟨j,hj,e⟩
  rcases Classical.em (l∈dead) with JX|JX
  ·rw [Aei l JX oZ] at hb;cases hb
  ·rcases hd with hd|hd
   ·exact JX hd
   ·rw [py l JX (λhp=>by obtain ⟨_,_,_,_,_,_,_,h1,_⟩:=TX l hp;rw [hd] at h1;cases h1)] at hb
    have:Aw st1.heap l=none:=by
     by_cases hi: ∃t∈Lm 0 s.ins as,t.2.Xb=l
     ·obtain ⟨t,ht,e⟩:=hi
      by_cases Jc:t.1<Bp
      ·rw [<-e,q3 t ht Jc,e];exact hd
      ·obtain ⟨b0,_,h1,_⟩:=q4 t ht Jc
       rw [e,hd] at h1;cases h1
     ·rw [q2 l λt ht e=>hi ⟨t,ht,e.symm⟩];exact hd
    rw [this] at hb;cases hb
 have Aja: ∀k,QQ st (nB tks)=true-> ∀q,ρ (Jw k)=some q->q.Cz q.g->X.w0.heap.size<=q.g:=by
  intro k FJ q hq hg
  rcases (ZW.Ss _ q _ hq hg).2 with h1|⟨c,p,h1,h2,h3⟩
  ·exact Hq h.1.below.size h1
  ·obtain ⟨t,t1,t2,t0,p',t3,t4,_⟩:=Wg c p _ h2 h3
   have hm:t.2.Xb∈nB tks:=eE.2 ⟨t,etk▸t1,⟨by rw [t2];exact h1,t0⟩,rfl⟩
   have:=Bf.1 FJ _ hm
   split at this
   ·rename_i fr tr e te xs hl
    unfold St.at at hl
    have hb:=(h.1.heap t.2.Xb).Rc hl
    simp only [Cn,Jt,t3] at hb
    rw [hb.1.2.1 _ t4]
    exact hb.1.2.2 this
   ·cases this
 have Aj8: ∀k q,ρ (Jw k)=some q->k<s.outs.length->q.Cz q.g:=by
  intro k q hq hk
  exact Iv.Agy s.outs 0 r Xa zp k (Jx _) ((Bn _).symm▸hk) q hq
 have hinv: ∀l,l∉dead->(∃t∈Lm 0 s.ins as,t.2.reads=false/\t.2.Xb=l)->nj X D1 w' π st.heap st1.heap l:=by
  rintro l hd ⟨t,ht,h0,rfl⟩
  by_cases Jc:t.1<Bp
  ·exact absurd (Bi _ (Bi _ (eE.2 ⟨t,etk▸ht,⟨Jc,h0⟩,rfl⟩))) hd
  ·exact q4 t ht Jc
 have zo: ∀l,(¬ ∃t∈Lm 0 s.ins as,t.2.reads=false/\t.2.Xb=l)->Aw st1.heap l=Aw st.heap l:= λl hn=>by
  by_cases hi: ∃t∈Lm 0 s.ins as,t.2.Xb=l
  ·obtain ⟨t,ht,rfl⟩:=hi
   have hr:t.2.reads=true:=by
    cases h0:t.2.reads with
    |true=>rfl
    |false=>exact absurd ⟨t,ht,h0,rfl⟩ hn
   exact q3 t ht (Ajt t ht hr)
  ·exact q2 l λt ht e=>hi ⟨t,ht,e.symm⟩
 have Ah3: ∀l∈pl,∀p,s.ptr=some p->Aw H' l=some (.var p.1 (gR s.ins (cells.map (Cv dead part)) (bV (Ei ks) 0 s.outs r))):= λl hl p hp=>by
  obtain ⟨p',q,h1,h2,_,_,_,h3,_⟩:=TX l hl
  rw [hp] at h1;cases h1
  show Aw (Yb _ _ _ _ _ _) l=_
  rw [n1 l λj _ hj e=>Ajh j (by omega) (e▸hl),An1 l (λtid Xw e=>(hvd tid Xw).2 (e▸hl))]
  show Aw (rX _ _ _ _).heap l=_
  rw [h2]
  refine VV ?_
  show Aw (Xo (st1.heap.map λp=>(p.1,p.2.map (Cv dead part))) dead) l=_
  rw [Ng,Ol,Ak (hpd l hl),zo l (λ⟨t,ht,_,e⟩=>Af1 l hl t ht e),h3]
  rfl
 have Ahm: ∀j,j<s.Ut->s.outs.length<=j-> ∃tid,s.rp=some tid/\j=s.outs.length:= λj h1 h2=>by
  cases KB:s.rp with
  |none=>unfold MSpec.Ut at h1;rw [KB] at h1;simp at h1;omega
  |some tid=>exact ⟨tid,rfl,by have:=(hvk tid KB).2;omega⟩
 have hHv: ∀tid,s.rp=some tid->Aw H' (Ti d)=some (.var tid ((bV (Ei ks) 0 s.outs r).drop s.aJ)):= λtid Xw=>by
  show Aw (Yb _ _ _ _ _ _) _=_
  rw [n1 _ λj _ hj e=>hkv j (by omega) tid Xw e.symm,Asp tid Xw]
 suffices Ao1:Bl X π' (m6 st st1 d s pl tks r) a w'/\Bq X w' π' (m6 st st1 d s pl tks r).heap av0 v by
  obtain ⟨m1,m2⟩:=Ao1
  have xx: ∀(kj:List (Nat×Nat)) (l:Nat),l∈bR st.heap ks tks kj->o0 st.heap l=true/\ ∃k j t,(k,j)∈kj/\t∈tks/\t=(Ed false k,Loc.row l)/\ks[j]?=some l:=by
   intro kj
   induction kj with
   |nil=>intro l hl;cases hl
   |cons p kj ih=>
    intro l hl
    obtain ⟨k,j⟩:=p
    have up:l∈bR st.heap ks tks kj->o0 st.heap l=true/\ ∃k' j' t,(k',j')∈(k,j)::kj/\t∈tks/\t=(Ed false k',Loc.row l)/\ks[j']?=some l:= λhl=>by
     obtain ⟨h1,k',j',t,h2,h3⟩:=ih l hl
     exact ⟨h1,k',j',t,Ar _ h2,h3⟩
    simp only [bR] at hl
    split at hl
    ·rename_i x0 l1 l2 h1 h2
     split at hl
     ·rename_i hc
      simp only [Ai] at hc
      rcases Bc.1 hl with rfl|hl
      ·have:=List.find?_some h1
       have e1:=Jf this
       have e2:=Jf hc.1
       dsimp only at e1
       exact ⟨hc.2,k,j,_,Lr,List.mem_of_find?_eq_some h1,by rw [e1],by rw [h2,e2]⟩
      ·exact up hl
     ·exact up hl
    ·exact up hl
  obtain ⟨r1,r2⟩:=MF h m1 (ls:=bR st.heap ks tks s.keeps) (n:=s.Fm x) (λl hl=>by
   obtain ⟨_,k,j,t,h1,h2,h3,h4⟩:=xx s.keeps l hl
   have hj:j<ks.length:=(Ao.1 h4).1
   have XR:Ei ks j=l:=by
    rw [Rd hj]
    rw [Ad hj] at h4
    exact Bd h4
   have w6:=xw (k,j) h1
   rw [show π' l=ρ (Jw j) by rw [<-XR];exact w5 j (by omega),Af9]
   have hc:πc (Ed false k)=(π l).map full:=An4 k l (by rw [<-h3,<-etk];exact h2)
   dsimp only at w6
   rw [hc] at w6
   cases hp:π l<;>cases hq:DE (Jw j)<;>(rw [hp,hq] at w6;exact w6)) (λl hl=>(xx s.keeps l hl).1) Jl
  exact ⟨π',r1,r2 av0 v m2⟩
 refine ⟨?_,?_⟩
 ·have hx:=Bl.Aiv (π':=π') (H':=H') (dead:=dead) (part:=part) (inv:= λl=>(∃t∈Lm 0 s.ins as,t.2.reads=false/\t.2.Xb=l)\/l∈pl) (gv:= λb=>Vu πc b\/s.gv g b) h (λb hb=>by
    rcases hb with hb|hb
    ·obtain ⟨t,h1,h0,q,h2,h3,_⟩:=ez b hb
     exact ⟨_,q, .inl ⟨t,h1,h0,rfl⟩,h2,h3⟩
    ·obtain ⟨l,hl,q,h1,h2,_⟩:=TU b hb
     exact ⟨l,q, .inr hl,h1,h2⟩) Aeo (λl b0 hd h0=>⟨Aa8 l hd,?_⟩) (λl b' hb hd=>?_) (λl hl=>?_) (λm q hd hp hm hxa=>?_)
  ·have:({tmps:=(rX s.ins (bV (Ei ks) 0 s.outs r) pl (st1.cJ dead part)).tmps,heap:=H'} :St)= {tmps:=st.tmps.map (·.map (Cv dead part)),heap:=H'} :=by
    rw [qc]
    show ({tmps:=st1.tmps.map (·.map (Cv dead part)),heap:=H'} :St)=_
    rw [q1]
   show Bl X π' ({tmps:=(rX s.ins (bV (Ei ks) 0 s.outs r) pl (st1.cJ dead part)).tmps,heap:=H'} :St) a w'
   rw [this]
   exact hx
  ·by_cases XO:l∈pl
   ·obtain ⟨p,q,h1,h2,h3,h4,h5,h6,h7⟩:=TX l XO
    rw [h0] at h6;cases h6
    have vL:=Ah3 l XO p h1
    refine .inr ⟨_,vL,⟨rfl,by rw [pX]⟩,λm=>?_⟩
    unfold lW at qL
    rw [h1] at qL
    obtain ⟨cs,k1,k2,k3⟩:=qL
    rw [<-h7] at k3
    refine ⟨q,h3,h4,cs.toArray,by rw [<-h5];exact k1,?_⟩
    refine Ms.to (kE (H:=st.heap) Aa8 (λl1 b1 sz n hd1 hb1 hr1=>?_) s.ins 0 cells oV x us o st st1 (bV (Ei ks) 0 s.outs r) Xa cs (has▸hT) Anw (has▸ZY) k3 (n3 π' hD1 (λj _ hj=>w5 j (by omega)))) (by simpa using k2)
    have hnp:l1∉pl:= λhp=>by
     obtain ⟨_,_,_,_,_,_,_,h8,_⟩:=TX l1 hp
     rw [hb1] at h8;cases h8;cases hr1
    by_cases hi: ∃t∈Lm 0 s.ins as,t.2.reads=false/\t.2.Xb=l1
    ·obtain ⟨b1,b',e1,e2,e3,e4,e5,e6⟩:=hinv l1 hd1 hi
     rw [hb1] at e1;cases e1
     exact ⟨b',by rw [py l1 hd1 hnp,e2];simp [e4],by rw [e5.row];exact hr1⟩
    ·exact ⟨_,by rw [py l1 hd1 hnp,zo l1 hi,hb1];rfl,by rw [OB.AS];exact hr1⟩
   by_cases hi: ∃t∈Lm 0 s.ins as,t.2.reads=false/\t.2.Xb=l
   ·obtain ⟨b1,b',e1,e2,e3,e4,e5,e6⟩:=hinv l hd hi
    rw [h0] at e1;cases e1
    exact .inr ⟨b',by rw [py l hd XO,e2];simp [e4],by rw [e3];exact e5,λ_=>e6 π' H' hD1⟩
   ·exact .inl ⟨λhh=>hh.elim hi XO,by rw [py l hd XO,zo l hi,h0];rfl⟩
  ·obtain ⟨j,hj,rfl⟩:=newAt l b' hb hd
   refine ⟨Atx j hj,?_,λq b hq=>?_⟩
   ·rw [w5 j hj]
    rcases Nat.lt_or_ge j s.outs.length with hjo|hjo
    ·rcases n2 j (Jx _) (by omega) with ⟨e1,_⟩|⟨b2,e1,e2⟩
     ·rw [show Aw H' (Ei ks j)=none from e1] at hb;cases hb
     ·rw [show Aw H' (Ei ks j)=some b2 from e1] at hb;cases hb
      exact e2 X π' H' (λhf q hq=>Aja j hf q hq (Aj8 j q hq hjo)) hD1
    ·obtain ⟨tid,Xw,hj0⟩:=Ahm j hj hjo
     subst hj0
     rw [(hvk tid Xw).1,hHv tid Xw] at hb;cases hb
     unfold sC at fy
     rw [Xw] at fy
     obtain ⟨q,y1,y2,y3,y4,_⟩:=fy
     rw [Af9,y1]
     exact ⟨full q,rfl,y2,_,y3,Ms.to (Ms.take s.aJ (n3 π' hD1 (λj _ hj=>w5 j (by omega)))).2 (by simpa using y4)⟩
   ·rw [w5 j hj] at hq
    have Qf:=Aha _ q hq
    refine ⟨λhf=>by rw [Qf];exact hf,λhf=>?_⟩
    rw [Qf] at hf
    obtain ⟨h1,h2⟩:=ZW.Ss _ q b hq hf
    refine ⟨h1,h2.imp id ?_,λl2 r2 hd2 RI hf2=>?_⟩
    ·rintro ⟨c,p,h3,h4,h5⟩
     obtain ⟨t,t1,t2,t0,p',t3,t4,_⟩:=Wg c p b h4 h5
     exact ⟨t.2.Xb,p',Bi _ (Bi _ (eE.2 ⟨t,etk▸t1,⟨by rw [t2];exact h3,t0⟩,rfl⟩)),t3,t4⟩
    ·by_cases hk: ∃j,j<s.Ut/\l2=Ei ks j
     ·obtain ⟨j2,hj2,rfl⟩:=hk
      rw [w5 j2 hj2] at RI
      rw [Aha _ r2 RI] at hf2
      have:=ZW.inj _ _ r2 q b RI hq hf2 hf
      unfold Jw at this
      have:j2=j:=by omega
      rw [this]
     ·have e0:π' l2=if l2∈dead then none else π l2:=zk l2 hk
      rw [e0] at RI
      split at RI
      ·cases RI
      ·rename_i Aex
       rcases hd2 with hd2|hd2
       ·exact absurd hd2 Aex
       ·rw [(h.1.heap l2).emp hd2] at RI;cases RI
  ·by_cases hk: ∃j,j<s.Ut/\l=Ei ks j
   ·obtain ⟨j,hj,rfl⟩:=hk
    rw [w5 j hj]
    rcases Nat.lt_or_ge j s.outs.length with hjo|hjo
    ·rcases n2 j (Jx _) (by omega) with ⟨_,e1⟩|⟨b2,e1,_⟩
     ·exact e1
     ·rw [show Aw H' (Ei ks j)=some b2 from e1] at hl;cases hl
    ·obtain ⟨tid,Xw,hj0⟩:=Ahm j hj hjo
     subst hj0
     rw [(hvk tid Xw).1,hHv tid Xw] at hl;cases hl
   ·have e0:π' l=if l∈dead then none else π l:=zk l hk
    rw [e0]
    split
    ·rfl
    ·rename_i hd
     by_cases XO:l∈pl
     ·obtain ⟨p,_,h1,_⟩:=TX l XO
      rw [Ah3 l XO p h1] at hl;cases hl
     rw [py l hd XO] at hl
     by_cases hi: ∃t∈Lm 0 s.ins as,t.2.reads=false/\t.2.Xb=l
     ·obtain ⟨_,b',_,e2,_⟩:=hinv l hd hi
      rw [e2] at hl;cases hl
     ·rw [zo l hi] at hl
      cases h0:Aw st.heap l with
      |none=>exact (h.1.heap l).emp h0
      |some b=>rw [h0] at hl;cases hl
  ·refine Aeo.block _ (h.1.lt hm).1 λLV=>?_
   rcases LV with ho|hg
   rotate_left
   ·obtain ⟨l,hl,q',h1,h2,_⟩:=TU _ hg
    have zl:=h.1.apart hm h1 (h.1.Cz hm) h2
    obtain ⟨_,_,_,_,_,_,_,h3,_⟩:=TX l hl
    obtain ⟨b,hxa,hxb⟩:=hxa
    rw [zl,h3] at hxa;cases hxa
    exact hxb rfl
   obtain ⟨t,t1,t0,p,t3,t4,t5⟩:=ez _ ho
   have zl:=h.1.apart hm t3 (h.1.Cz hm) t4
   have hpq:p=q:=by rw [<-zl,hm] at t3;exact (Bd t3).symm
   cases ht2:t.2 with
   |row l=>
    refine hp ?_
    show m∈whole tks
    unfold whole
    exact Fz.2 ⟨t,etk▸t1,by rw [ht2,zl,ht2];simp [Loc.Xb]⟩
   |sub l i j=>exact t5 l i j ht2 (by rw [hpq])
   |view l=>rw [ht2] at t0;cases t0
 ·have Aug:=n3 π' hD1 (λj _ hj=>w5 j (by omega))
  cases KB:s.rp with
  |some tid=>
   unfold sC at fy
   rw [KB] at fy
   obtain ⟨q,y1,y2,y3,y4,rfl⟩:=fy
   unfold Afx at ib
   rw [KB] at ib
   simp only [Aa] at ib;subst ib
   refine ⟨full q,tid,_,hHv tid KB,?_,rfl⟩
   rw [<-(hvk tid KB).1,w5 _ (by have:=(hvk tid KB).2;omega),Af9,y1]
   rfl
  |none=>
  unfold sC at fy
  rw [KB] at fy
  obtain ⟨fy,Aul⟩:=fy
  unfold Afx at ib
  rw [KB] at ib
  simp only at ib
  obtain ⟨g1,g2,g3,g4⟩:=er s.Gz _ (Xa.drop s.aJ) Aul (Ms.take s.aJ Aug).2
  unfold Aq2 at ib
  unfold Abs at fy
  split at ib
  ·rename_i hm
   rw [Ab hm] at fy
   simp only [Aa] at ib;subst ib
   subst fy
   exact ⟨_,rfl,g3.symm,g4⟩
  ·rename_i hm
   rw [Ak hm] at fy
   split at ib
   ·rename_i av1 hga
    simp only [Aa] at ib;subst ib
    rcases fy with fy|fy
    ·exact g2 0 _ v (by rw [hga];rfl) (by rw [fy];rfl)
    ·rw [hga,fy] at g1;cases g1
   ·simp only [Aa] at ib;subst ib;trivial
   ·cases ib
end
end Go.Proofs.Ytkkdpknjohcekaa
