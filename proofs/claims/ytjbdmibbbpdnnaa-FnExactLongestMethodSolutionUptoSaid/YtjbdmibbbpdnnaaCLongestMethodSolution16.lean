/-
  Part 17 of the proof that the statement FnExactLongestMethodSolution holds.
-/
import Derived.Test.YtjbdmibbbpdnnaaCLongestMethodSolution15
namespace Go.Proofs.Ytjbdmibbbpdnnaa
open Go.RowKit
section
variable {P:Program} {T:Tab} {X:Ctx} {w w':World} {π π':Pi} {H H':List (Nat×OB)}
theorem Tn (k:Nat): ¬Bt true k<Aj:=by unfold Bt Aj;simp
theorem ag {k:Nat} (h:k<100000):Bt false k<Aj:=by unfold Bt Aj;simp;omega
def gh (X:Ctx) (D:Nat->Prop) (w':World) (π:Pi) (H Hn:List (Nat×OB)) (l:Nat):Prop:=
 ∃b0 b',Ae H l=some b0/\Ae Hn l=some b'/\(∀f,OB.map f b0=b0)/\(∀f,OB.map f b'=b')/\b0.Zt b'/\ ∀π' H',(∀b,Oi π' b\/X.Sc b->D b)->Au X w' π' H' (π l) b'
theorem LC {io:Bool} {k:Nat} {τ:Ty} {a:AC} {t:Nat×Loc} (h:t∈Kl io k (.Hf τ) a):t.1=Bt false k:=by
 cases a<;>simp [Kl,views] at h<;>first|(obtain ⟨_,⟨_,_⟩,rfl⟩:=h;rfl)|(rw [h])
theorem FC {io:Bool} {k:Nat} {e:Ty} {te:TypeId} {a:AC} {t:Nat×Loc} (h:t∈Kl io k (.part e te) a):t.1=Bt io k:=by cases a<;>simp [Kl] at h<;>rw [h]
theorem LD {io:Bool} {k:Nat} {e:Ty} {te:TypeId} {a:AC} {t:Nat×Loc} (h:t∈Kl io k (.row e te) a):t.1=Bt io k:=by cases a<;>simp [Kl] at h<;>rw [h]
theorem FD {io:Bool} {k:Nat} {e:Ty} {te:TypeId} {a:AC} {t:Nat×Loc} (h:t∈Kl io k (.Dv e te) a):t.1=Bt io k:=by cases a<;>simp [Kl] at h<;>rw [h]
theorem Zg {D:Nat->Prop} {π':Pi} {fr:Bool} {e:Ty} {es:List Value} {y:e.den} (hD: ∀b,Oi π' b\/X.Sc b->D b) (h:Cells w' D e es y):Cells w' (Bd X.w0.heap.size X.Sc π' (fr&&e.flat)) e es y:=by
 cases hf:e.flat with
 |true=>exact Cells.flat e es y hf h
 |false=>exact Cells.Ct (Nat.le_refl _) (λ_ _ _=>rfl) (λb _ hb=>by
   rcases hb with hb|hb|⟨hb,_⟩
   ·exact hD b (.inl hb)
   ·exact hD b (.inr hb)
   ·simp at hb) e es y h
theorem FE {D P:Nat->Prop} {g o:Nat} {cur:Array Value} {tr:Bool} {e:Ty} {xs:List e.den}
  (h: ∀(i:Nat) (x:e.den),xs[i]?=some x-> ∃es:List Value,es.length=e.size/\(∀j u,es[j]?=some u->cur[(o+i)*e.size+j]?=some u)/\Cells w' D e es x) (ht:(tr&&e.flat)=true):Pq w' P g o cur e xs:=by
 simp only [Bool.and_eq_true] at ht
 exact gF ht.2 h
theorem DU {D:Nat->Prop} (h:Hx X w π H) {k:Nat} {c:CK} {ys:c.den} {a:AC} {u:Value} {r:Option Real} {x:c.den} {cur st1:St} (hs:w.heap.size<=w'.heap.size)
  (hU: ∀l i j q b,a= .sub l i j->π l=some q->q.Ay b->b<w.heap.size->(∀r',r=some r'-> ¬r'.Ay b)->w'.heap[b]?=w.heap[b]?)
  {V:List Nat} (ht:Yw w (Jg X π V) r u c x/\Mp w π H true a u r c x) (hr:aF w' D r c ys) (he:Vl cur c ys a=some st1) (bl: ∀t∈Kl true k c a,Ae cur.heap t.2.Pn=Ae H t.2.Pn):
  st1.tmps=cur.tmps/\(∀m,(∀t∈Kl true k c a,m≠t.2.Pn)->Ae st1.heap m=Ae cur.heap m)/\ ∀t∈Kl true k c a,gh X D w' π H st1.heap t.2.Pn:=by
 obtain ⟨hc,ht⟩:=ht
 cases c with
 |Hf τ=>cases a<;>simp [Vl] at he;subst he;exact ⟨rfl,λ_ _=>rfl,λt ht=>by simp [Kl] at ht⟩
 |row e te=>
  simp only [Mp] at ht
  cases a<;>simp only [] at ht<;>first|(exact ht.elim)|skip
  ·simp only [Vl,Option.some.injEq] at he;subst he
   exact ⟨rfl,λ_ _=>rfl,λt ht=>by simp [Kl] at ht⟩
  ·rename_i l off len
   obtain ⟨rfl,rfl,rfl,fr,tr,hl⟩:=ht
   have Ns:Ae cur.heap l=some (.arr fr tr e te x):=(bl _ (List.mem_singleton.2 rfl)).trans hl
   simp only [Vl,St.at,Ns] at he
   split at he
   ·rename_i Ff
    obtain ⟨_,h1,_⟩:=Ff
    simp only [Option.some.injEq] at he;subst he
    refine ⟨rfl,λm hm=>Cn _ _ _ _ (hm _ (List.mem_singleton.2 rfl)),λt Ok=>?_⟩
    have Ok:=List.mem_singleton.1 Ok
    subst Ok
    refine ⟨_,_,hl,Cq _ _ _ _ Ns,λ_=>rfl,λ_=>rfl,⟨rfl,h1.symm⟩,λπ' H' hD=>?_⟩
    have hb:=(h.heap l).Mc hl
    change Au X w' π' H' (π l) _
    simp only [Au,Fk] at hb⊢
    cases hp:π l with
    |none=>rw [hp] at hr;exact hr
    |some q=>
     rw [hp] at hr hb
     obtain ⟨k1,cu,ti,k2,k3,k4,k5,k6⟩:=hr
     exact ⟨⟨k1.1,k1.2,λhh=>hb.1.2.2 (by simp only [Bool.and_eq_true] at hh;exact hh.1)⟩,cu,ti,k2,k3,k4,k5,λi y hy=>by
      obtain ⟨es,g1,g2,g3⟩:=k6 i y hy
      exact ⟨es,g1,g2,Zg hD g3⟩,λht=>FE k6 ht⟩
   ·cases he
  ·rename_i l i j
   obtain ⟨⟨_,hf⟩,tid,xs,hl,hx,q,hq,Ou,hre⟩:=ht
   have Ns:Ae cur.heap l=some (.Dh (.slice e) tid xs):=(bl _ (List.mem_singleton.2 rfl)).trans hl
   simp only [Vl,St.at,Ns,hx] at he
   rw [dif_pos trivial] at he
   ·split at he
    ·rename_i h1
     simp only [Option.some.injEq] at he;subst he
     refine ⟨rfl,λm hm=>Cn _ _ _ _ (hm _ (List.mem_singleton.2 rfl)),λt Ok=>?_⟩
     have Ok:=List.mem_singleton.1 Ok
     subst Ok
     refine ⟨_,_,hl,Cq _ _ _ _ Ns,λ_=>rfl,λ_=>rfl,⟨rfl,by simp⟩,λπ' H' _=>?_⟩
     show Is w' (π l) (.slice e) tid _
     rw [hq]
     refine hre w' ys hs (λb Ho hb hn=>hU l i j q b rfl hq hb Ho hn) ?_
     have hv:=hc.1
     rw [<-show List.length ys=List.length x from h1] at hv
     exact Me.zj hr hf hv
    ·cases he
 |Dv e te=>
  simp only [Mp] at ht
  cases a<;>simp only [] at ht<;>first|(exact ht.elim)|skip
  ·simp only [Vl,Option.some.injEq] at he;subst he
   exact ⟨rfl,λ_ _=>rfl,λt ht=>by simp [Kl] at ht⟩
  ·rename_i l off len
   obtain ⟨rfl,rfl,rfl,hl⟩:=ht
   have Ns:Ae cur.heap l=some (.Dh e te x):=(bl _ (List.mem_singleton.2 rfl)).trans hl
   simp only [Vl,St.at,Ns] at he
   split at he
   ·rename_i Ff
    obtain ⟨_,h1,_⟩:=Ff
    simp only [Option.some.injEq] at he;subst he
    refine ⟨rfl,λm hm=>Cn _ _ _ _ (hm _ (List.mem_singleton.2 rfl)),λt Ok=>?_⟩
    have Ok:=List.mem_singleton.1 Ok
    subst Ok
    refine ⟨_,_,hl,Cq _ _ _ _ Ns,λ_=>rfl,λ_=>rfl,⟨rfl,h1.symm⟩,λπ' H' _=>?_⟩
    show Is w' (π l) e te _
    cases hp:π l with
    |none=>rw [hp] at hr;exact hr
    |some q=>rw [hp] at hr;exact hr
   ·cases he
  ·rename_i l i j
   obtain ⟨_,tid,xs,hl,hx,q,hq,Ou,hre⟩:=ht
   have Ns:Ae cur.heap l=some (.Dh (.slice e) tid xs):=(bl _ (List.mem_singleton.2 rfl)).trans hl
   simp only [Vl,St.at,Ns,hx] at he
   rw [dif_pos trivial] at he
   ·split at he
    ·rename_i h1
     simp only [Option.some.injEq] at he;subst he
     refine ⟨rfl,λm hm=>Cn _ _ _ _ (hm _ (List.mem_singleton.2 rfl)),λt Ok=>?_⟩
     have Ok:=List.mem_singleton.1 Ok
     subst Ok
     refine ⟨_,_,hl,Cq _ _ _ _ Ns,λ_=>rfl,λ_=>rfl,⟨rfl,by simp⟩,λπ' H' _=>?_⟩
     show Is w' (π l) (.slice e) tid _
     rw [hq]
     refine hre w' ys hs (λb Ho hb hn=>hU l i j q b rfl hq hb Ho hn) ?_
     have hv:=hc.1
     rw [<-show List.length ys=List.length x from h1] at hv
     exact Is.zj (te:=te) hr hv
    ·cases he
 |part e te=>cases a<;>simp [Vl] at he<;>first|(simp only [Mp] at ht;exact ht.2.elim)
 |Al e te kp=>exact absurd ht.1 (by simp)
theorem DV {D:Nat->Prop} (h:Hx X w π H) {k:Nat} {e:Ty} {te:TypeId} {ys:List e.den} {a:AC} {u:Value} {r:Option Real} {x:(CK.part e te).den} {cur st1:St}
  {V:List Nat} (ht:Yw w (Jg X π V) r u (.part e te) x/\Mp w π H true a u r (.part e te) x) (hr:aF w' D r (.row e te) ys) (he:yM cur e ys a=some st1) (bl: ∀t∈Kl true k (.part e te) a,Ae cur.heap t.2.Pn=Ae H t.2.Pn):
  st1.tmps=cur.tmps/\(∀m,(∀t∈Kl true k (.part e te) a,m≠t.2.Pn)->Ae st1.heap m=Ae cur.heap m)/\ ∀t∈Kl true k (.part e te) a,gh X D w' π H st1.heap t.2.Pn:=by
 obtain ⟨hc,hf,ht⟩:=ht
 cases a<;>simp only [] at ht<;>first|(exact ht.elim)|skip
 rename_i l off len
 obtain ⟨rfl,_,fr,tr,hl⟩:=ht
 have Ns:Ae cur.heap l=some (.arr fr tr e te x.1):=(bl _ (List.mem_singleton.2 rfl)).trans hl
 simp only [yM,St.at,Ns] at he
 split at he
 ·rename_i Ff
  obtain ⟨_,h1⟩:=Ff
  simp only [Option.some.injEq] at he;subst he
  refine ⟨rfl,λm hm=>Cn _ _ _ _ (hm _ (List.mem_singleton.2 rfl)),λt Ok=>?_⟩
  have Ok:=List.mem_singleton.1 Ok
  subst Ok
  refine ⟨_,_,hl,Cq _ _ _ _ Ns,λ_=>rfl,λ_=>rfl,⟨rfl,h1.symm⟩,λπ' H' _=>?_⟩
  have hb:=(h.heap l).Mc hl
  change Au X w' π' H' (π l) _
  simp only [Au,Fk] at hb⊢
  cases hp:π l with
  |none=>rw [hp] at hr;exact hr
  |some q=>
   rw [hp] at hr hb
   obtain ⟨k1,cu,ti,k2,k3,k4,k5,k6⟩:=hr
   exact ⟨⟨k1.1,k1.2,hb.1.2.2⟩,cu,ti,k2,k3,k4,k5,λi y hy=>by
    obtain ⟨es,g1,g2,g3⟩:=k6 i y hy
    exact ⟨es,g1,g2,Cells.flat e es y hf g3⟩,λ_=>gF hf k6⟩
 ·cases he
def ld (X:Ctx) (D:Nat->Prop) (w':World) (π:Pi) (H:List (Nat×OB)) (tk:List (Nat×Loc)) (cur st1:St):Prop:=
 st1.tmps=cur.tmps/\(∀m,(∀t∈tk,m≠t.2.Pn)->Ae st1.heap m=Ae cur.heap m)/\(∀t∈tk,t.1<Aj->Ae st1.heap t.2.Pn=Ae cur.heap t.2.Pn)/\(∀t∈tk,¬t.1<Aj->gh X D w' π H st1.heap t.2.Pn)
theorem nc {D:Nat->Prop} (h:Hx X w π H) {V:List Nat} {πc:Pi} {tks:List (Nat×Loc)} (hs:w.heap.size<=w'.heap.size)
  (hU: ∀t∈tks,∀q b,π t.2.Pn=some q->q.Ay b->b<w.heap.size->(∀r',πc t.1=some r'-> ¬r'.Ay b)->w'.heap[b]?=w.heap[b]?):
  ∀(cs:List (Bool×CK)) (k:Nat) (x:Ins.den cs) (as:List AC) (us:List Value) (o:IOs.den cs) (cur st1:St),k+cs.length<100000->(∀t∈Gy k cs as,t∈tks)->((Gy k cs as).map λt=>t.2.Pn).Nodup->
   kO X w π V H πc k cs x as us->He w' D πc k cs o->Ee cs o as cur=some st1->(∀t∈Gy k cs as,Ae cur.heap t.2.Pn=Ae H t.2.Pn)->
   ld X D w' π H (Gy k cs as) cur st1
 | [],k,x,as,us,o,cur,st1,_,_,_,_,_,he,_=>by
  simp only [Ee,Option.some.injEq] at he;subst he
  have e0:Gy k [] as= []:=by cases as<;>rfl
  exact ⟨rfl,λ_ _=>rfl,by rw [e0];simp,by rw [e0];simp⟩
 |p::r,k,x,[],us,o,cur,st1,_,_,_,ht,_,_,_=>ht.elim
 |p::r,k,x,a::as,[],o,cur,st1,_,_,_,ht,_,_,_=>ht.elim
 |(io,c)::r,k,x,a::as,u::us,o,cur,st1,hk,Qd,oJ,ht,ho,he,bl=>by
  simp only [List.length_cons] at hk
  simp only [Gy] at Qd oJ bl⊢
  rw [List.map_append] at oJ
  obtain ⟨n1,n2,n3⟩:=List.nodup_append.1 oJ
  have apart: ∀t∈Kl io k c a,∀t'∈Gy (k+1) r as,t'.2.Pn≠t.2.Pn:= λt h1 t' h2 e=>n3 _ (List.mem_map.2 ⟨t,h1,rfl⟩) _ (List.mem_map.2 ⟨t',h2,rfl⟩) e.symm
  have rest: ∀(Sw:St) (o':IOs.den r),He w' D πc (k+1) r o'->Ee r o' as Sw=some st1->Sw.tmps=cur.tmps->(∀m,(∀t∈Kl io k c a,m≠t.2.Pn)->Ae Sw.heap m=Ae cur.heap m)->
    (∀t∈Kl io k c a,t.1<Aj->Ae Sw.heap t.2.Pn=Ae cur.heap t.2.Pn)->(∀t∈Kl io k c a,¬t.1<Aj->gh X D w' π H Sw.heap t.2.Pn)->
    ld X D w' π H (Kl io k c a++Gy (k+1) r as) cur st1:=by
   intro Sw o' h1 h2 h3 h4 h5 h6
   obtain ⟨g1,g2,g3,g4⟩:=nc h hs hU r (k+1) x.2 as us o' Sw st1 (by omega) (λt ht=>Qd t (List.mem_append_right _ ht)) n2 ht.2 h1 h2 (λt Ok=>by
    rw [h4 _ λt0 OC=>apart t0 OC t Ok];exact bl t (List.mem_append_right _ Ok))
   have hd: ∀t∈Kl io k c a,Ae st1.heap t.2.Pn=Ae Sw.heap t.2.Pn:= λt Ok=>g2 _ λt' lu=>(apart t Ok t' lu).symm
   refine ⟨g1.trans h3,λm hm=>?_,λt Ok Ho=>?_,λt Ok Ho=>?_⟩
   ·rw [g2 m λt ht=>hm t (List.mem_append_right _ ht),h4 m λt ht=>hm t (List.mem_append_left _ ht)]
   ·rcases List.mem_append.1 Ok with Ok|Ok
    ·rw [hd t Ok,h5 t Ok Ho]
    ·rw [g3 t Ok Ho,h4 _ λt0 OC=>apart t0 OC t Ok]
   ·rcases List.mem_append.1 Ok with Ok|Ok
    ·obtain ⟨b0,b',q1,q2,q3⟩:=h6 t Ok Ho
     exact ⟨b0,b',q1,(hd t Ok).trans q2,q3⟩
    ·exact g4 t Ok Ho
  have same: ∀o',He w' D πc (k+1) r o'->Ee r o' as cur=some st1->(∀t∈Kl io k c a,t.1<Aj)->ld X D w' π H (Kl io k c a++Gy (k+1) r as) cur st1:= λo' h1 h2 h3=>rest cur o' h1 h2 rfl (λ_ _=>rfl) (λ_ _ _=>rfl) (λt h4 h5=>absurd (h3 t h4) h5)
  cases io with
  |false=>
   have h3: ∀t∈Kl false k c a,t.1<Aj:= λt h4=>by rcases wR h4 with ⟨h5,_⟩|⟨h5,_⟩<;>(rw [h5];exact ag (by omega))
   cases c with
   |Hf τ=>exact same o ho (by simpa only [Ee] using he) h3
   |row e te=>exact same o ho (by simpa only [Ee] using he) h3
   |Dv e te=>exact same o ho (by simpa only [Ee] using he) h3
   |part e te=>exact same o ho (by simpa only [Ee] using he) h3
   |Al e te kp=>exact same o ho (by simpa only [Ee] using he) h3
  |true=>
   have row: ∀(ys:c.den) (o':IOs.den r),(∀t∈Kl true k c a,t.1=Bt true k)->aF w' D (πc (Bt true k)) c ys->He w' D πc (k+1) r o'->(∃Sw,Vl cur c ys a=some Sw/\Ee r o' as Sw=some st1)->ld X D w' π H (Kl true k c a++Gy (k+1) r as) cur st1:=by
    intro ys o' h0 h1 h2 h3
    obtain ⟨Sw,hp,h3⟩:=h3
    ·obtain ⟨q1,q2,q3⟩:=DU (k:=k) h hs (λl i j q b ea hq hb Ho hn=>by
      cases c with
      |Hf τ=>exact absurd (ht.1.2:πc _=none) (by subst ea;simp [Vl] at hp)
      |row e te=>subst ea;exact hU (Bt true k, .sub l i j) (Qd _ (List.mem_append_left _ (List.mem_singleton.2 rfl))) q b hq hb Ho hn
      |Dv e te=>subst ea;exact hU (Bt true k, .sub l i j) (Qd _ (List.mem_append_left _ (List.mem_singleton.2 rfl))) q b hq hb Ho hn
      |Al e te kp=>exact absurd ht.1.2.1 (by simp)
      |part e te=>exact absurd ht.1.2.2 (by subst ea;exact λh=>h)) ht.1 h1 hp (λt Ok=>bl t (List.mem_append_left _ Ok))
     exact rest Sw o' h2 h3 q1 q2 (λt h4 h5=>absurd h5 (by rw [h0 t h4];exact Tn k)) (λt h4 _=>q3 t h4)
   cases c with
   |Hf τ=>exact same o ho (by simpa only [Ee] using he) (λt h4=>by rw [LC h4];exact ag (by omega))
   |Al e te kp=>exact absurd ht.1.2.1 (by simp)
   |row e te=>
    simp only [Ee] at he
    split at he
    ·rename_i Sw hp;exact row o.1 o.2 (λt ht=>LD ht) ho.1 ho.2 ⟨Sw,hp,he⟩
    ·cases he
   |Dv e te=>
    simp only [Ee] at he
    split at he
    ·rename_i Sw hp;exact row o.1 o.2 (λt ht=>FD ht) ho.1 ho.2 ⟨Sw,hp,he⟩
    ·cases he
   |part e te=>
    simp only [Ee] at he
    split at he
    ·rename_i Sw hp
     obtain ⟨q1,q2,q3⟩:=DV (k:=k) h ht.1 ho.1 hp (λt Ok=>bl t (List.mem_append_left _ Ok))
     exact rest Sw o.2 ho.2 he q1 q2 (λt h4 h5=>absurd h5 (by rw [FC h4];exact Tn k)) (λt h4 _=>q3 t h4)
    ·cases he
theorem yq {fr:Bool} {c:CK} {x:c.den} {u:Value} {r:Option Real} {D:Nat->Prop} (h:Yw w' D r u c x):
  (oQ fr c x=none/\r=none)\/ ∃b',oQ fr c x=some b'/\ ∀(X:Ctx) π' H',(fr=true-> ∀q,r=some q->X.w0.heap.size<=q.g)->(∀b,Oi π' b\/X.Sc b->D b)->Au X w' π' H' r b':=by
 cases c with
 |Hf τ=>exact .inl ⟨rfl,h.1⟩
 |row e te=>
  refine .inr ⟨_,rfl,λX π' H' uY hD=>?_⟩
  obtain ⟨_,h⟩:=h
  simp only [aF] at h
  simp only [Au,Fk]
  cases r with
  |none=>exact h
  |some q=>
   obtain ⟨k1,cu,ti,k2,k3,k4,k5,k6⟩:=h
   exact ⟨⟨k1.1,k1.2,λh1=>uY (by simp only [Bool.and_eq_true] at h1;exact h1.1) q rfl⟩,cu,ti,k2,k3,k4,k5,λi y hy=>by
    obtain ⟨es,g1,g2,g3⟩:=k6 i y hy
    exact ⟨es,g1,g2,Zg hD g3⟩,λh=>by cases h⟩
 |Dv e te=>exact .inr ⟨_,rfl,λX π' H' _ _=>h.2⟩
 |Al e te kp=>exact .inr ⟨_,rfl,λX π' H' _ hD=>⟨Sj.Ev h.2 λb hb=>hD b (hb.imp id λh=>h.elim id λh=>by cases h.1),trivial⟩⟩
 |part e te=>
  refine .inr ⟨_,rfl,λX π' H' uY hD=>?_⟩
  obtain ⟨_,hf,h⟩:=h
  simp only [Au,Fk]
  cases r with
  |none=>exact h
  |some q=>
   obtain ⟨k1,cu,ti,k2,k3,k4,k5,k6⟩:=h
   exact ⟨⟨k1.1,k1.2,λh1=>uY (by simp only [Bool.and_eq_true] at h1;exact h1.1) q rfl⟩,cu,ti,k2,k3,k4,k5,λi y hy=>by
    obtain ⟨es,g1,g2,g3⟩:=k6 i y hy
    exact ⟨es,g1,g2,Zg hD g3⟩,λh=>by cases h⟩
theorem ky {D:Nat->Prop} {key:Nat->Nat} (xS: ∀i j,key i=key j->i=j) {fr:Bool} {ρ:Pi} : ∀(cs:List CK) (k:Nat) (x:CKs.den cs) (us:List Value) (H:List (Nat×OB)),Ew w' D ρ k cs x us->
  (∀j,k<=j->j<k+cs.length->Ae H (key j)=none)->
  (∀l,(∀j,k<=j->j<k+cs.length->l≠key j)->Ae (Qk fr key k cs x H) l=Ae H l)/\
  (∀j,k<=j->j<k+cs.length->(Ae (Qk fr key k cs x H) (key j)=none/\ρ (Fq j)=none)\/
   ∃b',Ae (Qk fr key k cs x H) (key j)=some b'/\ ∀(X:Ctx) π' H',(fr=true-> ∀q,ρ (Fq j)=some q->X.w0.heap.size<=q.g)->(∀b,Oi π' b\/X.Sc b->D b)->Au X w' π' H' (ρ (Fq j)) b')/\
  (∀π',(∀b,Oi π' b\/X.Sc b->D b)->(∀j,k<=j->j<k+cs.length->π' (key j)=ρ (Fq j))->Ia X w' π' (Qk fr key k cs x H) (Uv key k cs x) us)
 | [],k,x,[],H,_,_=>⟨λ_ _=>rfl,λj h1 h2=>by simp at h2;omega,λ_ _ _=>trivial⟩
 | [],_,_,_::_,_,h,_=>h.elim
 |_::_,_,_,[],_,h,_=>h.elim
 |c::r,k,x,u::us,H,h,hn=>by
  simp only [List.length_cons] at hn⊢
  simp only [Qk,Uv]
  have oh:=hn k (Nat.le_refl _) (by omega)
  have WQ: ∀l,l≠key k->Ae (vg H (key k) (oQ fr c x.1)) l=Ae H l:=by
   intro l hl
   cases oQ fr c x.1 with
   |some b=>exact Jr _ _ _ _ hl
   |none=>rfl
  have YD:Ae (vg H (key k) (oQ fr c x.1)) (key k)=oQ fr c x.1:=by
   cases oQ fr c x.1 with
   |some b=>exact Kn _ _ _ oh
   |none=>exact oh
  generalize (vg H (key k) (oQ fr c x.1))=H1 at WQ YD⊢
  obtain ⟨g1,g2,g3⟩:=ky xS (fr:=fr) r (k+1) x.2 us H1 h.2 (λj h1 h2=>by
   rw [WQ _ λe=>by have:=xS _ _ e;omega];exact hn j (by omega) (by omega))
  have MD:Ae (Qk fr key (k+1) r x.2 H1) (key k)=oQ fr c x.1:=by
   rw [g1 _ λj h1 h2 e=>by have:=xS _ _ e;omega];exact YD
  refine ⟨λl hl=>?_,λj h1 h2=>?_,λπ' hd RU=>⟨?_,?_⟩⟩
  ·rw [g1 l λj h1 h2=>hl j (by omega) (by omega)]
   exact WQ l (hl k (Nat.le_refl _) (by omega))
  ·rcases Nat.eq_or_lt_of_le h1 with e|h1
   ·subst e
    rw [MD]
    exact yq h.1
   ·exact g2 j h1 (by omega)
  ·have h1:=h.1
   have XE:=RU k (Nat.le_refl _) (by omega)
   cases c with
   |Hf τ=>
    obtain ⟨bN,c1,c2⟩:=h1.2
    exact ⟨bN,by have:=Zg (fr:=true) hd c1;simpa using this,c2⟩
   |row e te=>exact ⟨_,e.size,List.length x.1,MD,rfl,by simp,by rw [XE];exact h1.1⟩
   |Dv e te=>exact ⟨_,e.size,List.length x.1,MD,rfl,by simp,by rw [XE];exact h1.1⟩
   |Al e te kp=>exact ⟨_,1,List.length x.1,MD,rfl,by simp,by rw [XE];exact h1.1⟩
   |part e te=>trivial
  ·exact g3 π' hd λj h1 h2=>RU j (by omega) (by omega)
theorem yh {ks:List Nat} {n:Nat} (h:s8 ks n=true):ks.length=n/\ks.Nodup/\ ∀l∈ks,l<Aj:=by
 unfold s8 at h
 simp only [Bool.and_eq_true] at h
 refine ⟨Nat.eq_of_beq_eq_true h.1,Qj h.2.1,λl hl=>?_⟩
 have:=List.all_eq_true.1 h.2.2 l hl
 simpa using this
theorem Lc {ks:List Nat} {j:Nat} (h:j<ks.length):Bv ks j=ks[j]:=by
 unfold Bv
 rw [List.getElem?_eq_getElem h]
theorem uq {ks:List Nat} (hn:ks.Nodup) (hl: ∀l∈ks,l<Aj): ∀i j,Bv ks i=Bv ks j->i=j:=by
 intro i j h
 by_cases hi:i<ks.length
 ·by_cases hj:j<ks.length
  ·rw [Lc hi,Lc hj] at h
   rcases Nat.lt_trichotomy i j with Ho|he|Ho
   ·exact absurd h (List.pairwise_iff_getElem.1 hn i j hi hj Ho)
   ·exact he
   ·exact absurd h.symm (List.pairwise_iff_getElem.1 hn j i hj hi Ho)
  ·have h1:=hl _ (List.getElem_mem hi)
   rw [Lc hi] at h
   unfold Bv at h
   rw [List.getElem?_eq_none (by omega)] at h
   simp only at h
   omega
 ·by_cases hj:j<ks.length
  ·have h1:=hl _ (List.getElem_mem hj)
   rw [Lc hj] at h
   unfold Bv at h
   rw [List.getElem?_eq_none (by omega)] at h
   simp only at h
   omega
  ·unfold Bv at h
   rw [List.getElem?_eq_none (by omega),List.getElem?_eq_none (by omega)] at h
   simp only at h
   omega
theorem Ij: ∀(H:List (Nat×OB)) (dead:List Nat) (l:Nat),Ae (Pu H dead) l=if l∈dead then none else Ae H l
 | [],dead,l=>by simp [Pu,Ae]
 |(k,b)::r,dead,l=>by
  simp only [Pu]
  have ih:=Ij r dead l
  by_cases hk:k∈dead
  ·rw [if_pos (by simpa using hk),ih]
   split
   ·rfl
   ·rename_i hl
    simp only [Ae]
    rw [if_neg (λ(e:k=l)=>hl (e▸hk))]
  ·rw [if_neg (by simpa using hk)]
   simp only [Ae]
   split
   ·rename_i e;subst e;rw [if_neg hk]
   ·exact ih
theorem mem_keys {ks:List Nat} {l:Nat} :l∈ks↔ ∃k,k<ks.length/\l=Bv ks k:=
 ⟨λh=>by obtain ⟨k,hk,e⟩:=List.getElem_of_mem h;exact ⟨k,hk,by rw [Lc hk,e]⟩,λ⟨k,hk,e⟩=>by rw [e,Lc hk];exact List.getElem_mem hk⟩
theorem Yf {tks:List (Nat×Loc)} {l:Nat} :l∈gw tks↔ ∃t∈tks,(t.1<Aj/\t.2.reads=false)/\t.2.Pn=l:=by
 unfold gw
 simp only [List.mem_map,List.mem_filter,Bool.and_eq_true,Nat.blt_eq,Bool.not_eq_true']
 exact ⟨λ⟨t,⟨h1,h2⟩,h3⟩=>⟨t,h1,h2,h3⟩,λ⟨t,h1,h2,h3⟩=>⟨t,⟨h1,h2⟩,h3⟩⟩
theorem s9 {tks:List (Nat×Loc)} (h:(tks.map λt=>t.2.Pn).Nodup) {t t':Nat×Loc} (ht:t∈tks) (lu:t'∈tks) (he:t.2.Pn=t'.2.Pn):t=t':=by
 induction tks with
 |nil=>cases ht
 |cons a r ih=>
  simp only [List.map_cons] at h
  obtain ⟨h1,h2⟩:=List.nodup_cons.1 h
  rcases List.mem_cons.1 ht with rfl|ht<;>rcases List.mem_cons.1 lu with rfl|lu
  ·rfl
  ·exact (h1 (List.mem_map.2 ⟨t',lu,he.symm⟩)).elim
  ·exact (h1 (he▸List.mem_map.2 ⟨t,‹t∈r›,rfl⟩)).elim
  ·exact ih h2 ht lu
theorem Ew.full {D:Nat->Prop} {ρ:Pi} : ∀(cs:List CK) (k:Nat) (x:CKs.den cs) (us:List Value),Ew w D ρ k cs x us->Ew w D (λl=>(ρ l).map full) k cs x us
 | [],_,_,[],h=>h
 | [],_,_,_::_,h=>h.elim
 |_::_,_,_,[],h=>h.elim
 |c::r,k,x,u::us,h=>⟨by
   have h1:=h.1
   show Yw w D ((ρ (Fq k)).map _) u c x.1
   cases c with
   |Hf τ=>rw [h1.1];exact ⟨rfl,h1.2⟩
   |row e te=>cases hp:ρ (Fq k)<;>(rw [hp] at h1;exact h1)
   |Dv e te=>cases hp:ρ (Fq k)<;>(rw [hp] at h1;exact h1)
   |Al e te kp=>cases hp:ρ (Fq k)<;>(rw [hp] at h1;exact h1)
   |part e te=>cases hp:ρ (Fq k)<;>(rw [hp] at h1;exact h1),Ew.full r (k+1) x.2 us h.2⟩
theorem Ew.QJ {D:Nat->Prop} {ρ:Pi} : ∀(cs:List CK) (k0:Nat) (x:CKs.den cs) (us:List Value),Ew w D ρ k0 cs x us-> ∀j,k0<=j->j<k0+cs.length-> ∀q,ρ (Fq j)=some q->q.Ay q.g
 | [],k0,_,_,_,j,h1,h2,_,_=>by simp at h2;omega
 |_::_,_,_,[],h,_,_,_,_,_=>h.elim
 |c::r,k0,x,u::us,ho,j,h1,h2,q,hq=>by
  rcases Nat.eq_or_lt_of_le h1 with e|h1
  ·subst e
   have:=ho.1
   cases c with
   |Hf τ=>rw [hq] at this;cases this.1
   |row e te=>rw [hq] at this;exact this.2.1.1
   |Dv e te=>rw [hq] at this;exact this.2.1
   |part e te=>rw [hq] at this;exact this.2.2.1.1
   |Al e te kp=>rw [hq] at this;exact this.2.1
  ·exact Ew.QJ r (k0+1) x.2 us ho.2 j h1 (by simp at h2;omega) q hq
theorem Me.any {D D':Nat->Prop} {r:Option Real} {e:Ty} {xs:List e.den} (hf:e.flat=true) (h:Me w D r e xs):Me w D' r e xs:=by
 cases r with
 |none=>exact h
 |some r=>
  obtain ⟨k1,cu,ti,k2,k3,k4,k5,k6⟩:=h
  exact ⟨k1,cu,ti,k2,k3,k4,k5,λi y hy=>by
   obtain ⟨es,g1,g2,g3⟩:=k6 i y hy
   exact ⟨es,g1,g2,Cells.flat e es y hf g3⟩⟩
theorem Ew.any {D D':Nat->Prop} {ρ:Pi} : ∀(cs:List CK) (k:Nat) (x:CKs.den cs) (us:List Value),cs.all (·.flat)=true->Ew w D ρ k cs x us->Ew w D' ρ k cs x us
 | [],_,_,[],_,h=>h
 | [],_,_,_::_,_,h=>h.elim
 |_::_,_,_,[],_,h=>h.elim
 |c::r,k,x,u::us,hf,h=>by
  simp only [List.all_cons,Bool.and_eq_true] at hf
  refine ⟨?_,Ew.any r (k+1) x.2 us hf.2 h.2⟩
  have h1:=h.1
  cases c with
  |Hf τ=>exact ⟨h1.1,Bc.flat hf.1 h1.2⟩
  |row e te=>exact ⟨h1.1,Me.any hf.1 h1.2⟩
  |Dv e te=>exact h1
  |part e te=>exact ⟨h1.1,h1.2.1,Me.any hf.1 h1.2.2⟩
  |Al e te kp=>exact absurd hf.1 (by simp [CK.flat])
theorem He.any {D D':Nat->Prop} {π:Pi} : ∀(cs:List (Bool×CK)) (k:Nat) (x:IOs.den cs),(cs.all λp=>!p.1||p.2.flat)=true->He w D π k cs x->He w D' π k cs x
 | [],_,_,_,h=>h
 |(false,_)::r,k,x,hf,h=>He.any r (k+1) x (by simp only [List.all_cons,Bool.and_eq_true] at hf;exact hf.2) h
 |(true, .Hf _)::r,k,x,hf,h=>He.any r (k+1) x (by simp only [List.all_cons,Bool.and_eq_true] at hf;exact hf.2) h
 |(true, .Al _ _ _)::r,k,x,hf,h=>He.any r (k+1) x (by simp only [List.all_cons,Bool.and_eq_true] at hf;exact hf.2) h
 |(true, .row e te)::r,k,x,hf,h=>by
  simp only [List.all_cons,Bool.and_eq_true,Bool.not_true,Bool.false_or] at hf
  exact ⟨Me.any hf.1 h.1,He.any r (k+1) x.2 hf.2 h.2⟩
 |(true, .Dv e te)::r,k,x,hf,h=>by
  simp only [List.all_cons,Bool.and_eq_true,Bool.not_true,Bool.false_or] at hf
  exact ⟨h.1,He.any r (k+1) x.2 hf.2 h.2⟩
 |(true, .part e te)::r,k,x,hf,h=>by
  simp only [List.all_cons,Bool.and_eq_true,Bool.not_true,Bool.false_or] at hf
  exact ⟨Me.any hf.1 h.1,He.any r (k+1) x.2 hf.2 h.2⟩
theorem mK {tks:List (Nat×Loc)} {l:Nat} :l∈tD tks↔ ∃t∈tks,t.2.reads=true/\t.2.Pn=l:=by
 unfold tD
 simp only [List.mem_map,List.mem_filter]
 exact ⟨λ⟨t,⟨h1,h2⟩,h3⟩=>⟨t,h1,h2,h3⟩,λ⟨t,h1,h2,h3⟩=>⟨t,⟨h1,h2⟩,h3⟩⟩
theorem Ai.ig {st:St} {a:Act} (h:Ai X π st a w) {f:AC->AC} (hu:f .undef= .undef) {gv:Nat->Prop} (BX: ∀b,gv b->Oi π b) (hb:Ge w.heap.size gv w w')
  (Xz: ∀b,b<w.heap.size->Oi π' b->Oi π b)
  (Qd: ∀l r b,π' l=some r->r.Ay b->r.cl b) (TZ: ∀l r b,π' l=some r->r.cl b->(X.w0.heap.size<=b\/X.gv b)/\b<w'.heap.size)
  (Aet: ∀l l' r r' b,π' l=some r->π' l'=some r'->r.cl b->r'.cl b->l=l')
  (Ya: ∀l,Aj<=l->Ae H' l≠none->Tw (X.cw l) (π' l))
  (hac:(∀fr τ cs x,Cells w (Bd X.w0.heap.size X.Sc π fr) τ cs x->Cells w' (Bd X.w0.heap.size X.Sc π' fr) τ cs x)-> ∀c v,Dy X w π st.heap c v->Dy X w' π' H' (f c) v)
  (NJ:Move X w w' π π' st.heap H' f-> ∀l b,Ae H' l=some b->Au X w' π' H' (π' l) b)
  (AF: ∀l,Ae H' l=none->π' l=none):
  Ai X π' {tmps:=st.tmps.map (·.map f),heap:=H'} a w':=by
 have hc: ∀fr τ cs x,Cells w (Bd X.w0.heap.size X.Sc π fr) τ cs x->Cells w' (Bd X.w0.heap.size X.Sc π' fr) τ cs x:= λfr τ cs x hh=>
  Cells.Ct hb.size (λk hk hn=>hb.block k hk λhg=>hn (.inl (BX k hg))) (λk Ho hA=>hA.imp (Xz k Ho) id) τ cs x hh
 have m:Move X w w' π π' st.heap H' f:=⟨hac hc,hc⟩
 refine ⟨⟨⟨hb.os.trans h.1.below.os,hb.tape.trans h.1.below.tape,hb.output.trans h.1.below.output,Nat.le_trans h.1.below.size hb.size,λk hk hn=>?_⟩,h.1.sc,Qd,TZ,Aet,Ya,λl=>?_⟩,m.yQ hu h.2⟩
 ·refine (hb.block k (Nat.lt_of_lt_of_le hk h.1.below.size) λhg=>?_).trans (h.1.below.block k hk hn)
  rcases (h.1.own (BX k hg)).2 with h1|h1
  ·omega
  ·exact hn h1
 ·cases hh:Ae H' l with
  |none=>exact Di.Ox (AF l hh) hh
  |some b=>exact Di.Io (NJ m l b hh) hh
def aG:Option Real->Option Real->Prop
 |none,none=>True
 |some r,some r'=>r.g=r'.g/\r.o=r'.o/\r.cap=r'.cap
 |_,_=>False
theorem aG.rfl' (r:Option Real):aG r r:=by cases r<;>simp [aG]
theorem aG.some {r:Real} {r':Option Real} (h:aG (some r) r'): ∃q,r'=some q/\r.g=q.g/\r.o=q.o/\r.cap=q.cap:=by
 cases r' with
 |none=>exact h.elim
 |some q=>exact ⟨q,rfl,h⟩
theorem aG.own {r r':Option Real} (h:aG r r') {sz off len:Nat} {v:Value} (hv:Dw r sz off len v):Dw r' sz off len v:=by
 cases r<;>cases r'<;>first|exact h.elim|skip
 ·exact hv
 ·obtain ⟨h1,h2,h3⟩:=h
  obtain ⟨ad,g1,g2,g3⟩:=hv
  exact ⟨ad,by rw [<-h3];exact g1,by rw [<-h3];exact g2,by rw [<-h1,<-h2,<-h3];exact g3⟩
structure OB.Mk (b b':OB):Prop where
 row: ∀sz n,b.row=some (sz,n)-> ∃n',b'.row=some (sz,n')/\n<=n'
 aM: ∀p,b.aM=some p->b'.aM=some p
 oB: ∀p,b.oB=some p->b'.oB=some p
 var: ∀tid vs,b= .var tid vs-> ∃Nn tT,b'= .var Nn tT
 Oh: ∀v m,b= .Oh v m-> ∃m',b'= .Oh v m'
theorem OB.Mk.map (f:AC->AC) (b:OB):b.Mk (b.map f) where
 row:= λsz n h=>⟨n,by cases b<;>exact h,Nat.le_refl _⟩
 aM:= λp h=>by cases b<;>exact h
 oB:= λp h=>by cases b<;>exact h
 var:= λtid vs h=>by subst h;exact ⟨_,_,rfl⟩
 Oh:= λv m h=>by subst h;exact ⟨_,rfl⟩
theorem OB.Mk.rfl' (b:OB):b.Mk b where
 row:= λ_sz n h=>⟨n,h,Nat.le_refl _⟩
 aM:= λ_p h=>h
 oB:= λ_p h=>h
 var:= λ_tid _vs h=>⟨_,_,h⟩
 Oh:= λ_v _m h=>⟨_,h⟩
theorem OB.Mk.trans {a b c:OB} (h:a.Mk b) (k:b.Mk c):a.Mk c where
 row:= λsz n hr=>by
  obtain ⟨n1,h1,h2⟩:=h.row sz n hr
  obtain ⟨n2,h3,h4⟩:=k.row sz n1 h1
  exact ⟨n2,h3,by omega⟩
 aM:= λp hp=>k.aM p (h.aM p hp)
 oB:= λp hp=>k.oB p (h.oB p hp)
 var:= λtid vs hv=>by obtain ⟨t',v',h1⟩:=h.var tid vs hv;exact k.var t' v' h1
 Oh:= λv m hm=>by obtain ⟨m',h1⟩:=h.Oh v m hm;exact k.Oh v m' h1
theorem ie {f:AC->AC} {D Pt:Nat->Prop} (hf: ∀c,f c= .undef\/(f c=c/\(∀k∈c.refs,¬D k)/\ ∀k i j,c= .sub k i j\/c= .Fv k i j-> ¬Pt k)) (hp: ∀k,¬D k->aG (π k) (π' k))
  (hH: ∀k b,¬D k->Ae H k=some b-> ∃b',Ae H' k=some b'/\b.Mk b')
  (hg: ∀k r b,¬D k-> ¬Pt k->Ae H k=some b->b.aM≠none->π k=some r->w'.heap[r.g]?=w.heap[r.g]?)
  (hc: ∀fr τ cs x,Cells w (Bd X.w0.heap.size X.Sc π fr) τ cs x->Cells w' (Bd X.w0.heap.size X.Sc π' fr) τ cs x): ∀c v,Dy X w π H c v->Dy X w' π' H' (f c) v:=by
 intro c v h
 rcases hf c with e|⟨e,hr,hs⟩
 ·rw [e];trivial
 rw [e]
 cases c with
 |data fr τ x=>obtain ⟨cs,h1,h2⟩:=h;exact ⟨cs,hc _ _ _ _ h1,h2⟩
 |own k off len=>
  obtain ⟨b,sz,n,h1,h0,h2,h3⟩:=h
  have hk:=hr k (by simp [AC.refs])
  obtain ⟨b',g1,g2⟩:=hH k b hk h1
  obtain ⟨n',g3,g4⟩:=g2.row sz n h0
  exact ⟨b',sz,n',g1,g3,by omega,(hp k hk).own h3⟩
 |Dx k i=>
  obtain ⟨r,tid,vs,h1,h2,h3⟩:=h
  have hk:=hr k (by simp [AC.refs])
  obtain ⟨b',g1,g2⟩:=hH k _ hk h1
  obtain ⟨Nn,tT,rfl⟩:=g2.var tid vs rfl
  obtain ⟨q,q1,q2,_⟩:=(h2▸hp k hk).some
  exact ⟨q,Nn,tT,g1,q1,by rw [<-q2];exact h3⟩
 |Fy k i=>
  obtain ⟨r,b,sz,n,h1,h0,h2,h3,h4⟩:=h
  have hk:=hr k (by simp [AC.refs])
  obtain ⟨b',g1,g2⟩:=hH k b hk h1
  obtain ⟨n',g3,g4⟩:=g2.row sz n h0
  obtain ⟨q,q1,q2,q3,_⟩:=(h3▸hp k hk).some
  exact ⟨q,b',sz,n',g1,g3,by omega,q1,by rw [<-q2,<-q3];exact h4⟩
 |sub k i c=>
  obtain ⟨r,b,sz,n,h1,h0,h2,h3,h4,h5⟩:=h
  have hk:=hr k (by simp [AC.refs])
  obtain ⟨b',g1,g2⟩:=hH k b hk h1
  obtain ⟨q,q1,q2,q3,_⟩:=(h2▸hp k hk).some
  exact ⟨q,b',sz,n,g1,g2.aM _ h0,q1,h3,h4,by rw [<-q2,<-q3,World.cell?_of_block (hg k r b hk (hs k i c (.inl rfl)) h1 (by rw [h0];simp) h2)];exact h5⟩
 |Fv k i c=>
  obtain ⟨r,b,n,sz,g,o,len,cap,h1,h0,h2,h3,h4,h5,h6⟩:=h
  have hk:=hr k (by simp [AC.refs])
  obtain ⟨b',g1,g2⟩:=hH k b hk h1
  obtain ⟨q,q1,q2,q3,_⟩:=(h2▸hp k hk).some
  exact ⟨q,b',n,sz,g,o,len,cap,g1,g2.oB _ h0,q1,h3,h4,by rw [<-q2,<-q3,World.cell?_of_block (hg k r b hk (hs k i c (.inr rfl)) h1 (by cases b<;>first|(cases h0;done)|simp [OB.aM]) h2)];exact h5,h6⟩
 |clo g Bx=>
  obtain ⟨us,h1,h2,h3⟩:=h
  refine ⟨us,h1,h2,λj p ZK=>?_⟩
  obtain ⟨r,tid,vs,h4,h5,h6⟩:=h3 j p ZK
  have hk:=hr p.1 (by simp only [AC.refs,List.mem_map];exact ⟨p,List.mem_of_getElem? ZK,rfl⟩)
  obtain ⟨b',g1,g2⟩:=hH p.1 _ hk h4
  obtain ⟨Nn,tT,rfl⟩:=g2.var tid vs rfl
  obtain ⟨q,q1,q2,_⟩:=(h5▸hp p.1 hk).some
  exact ⟨q,Nn,tT,g1,q1,by rw [<-q2];exact h6⟩
 |Gi k=>
  obtain ⟨r,vt,m,h1,h2,h3⟩:=h
  have hk:=hr k (by simp [AC.refs])
  obtain ⟨b',g1,g2⟩:=hH k _ hk h1
  obtain ⟨m',rfl⟩:=g2.Oh vt m rfl
  obtain ⟨q,q1,q2,_⟩:=(h2▸hp k hk).some
  exact ⟨q,vt,m',g1,q1,by rw [<-q2];exact h3⟩
 |_=>exact h
theorem Nt (H0:List (Nat×OB)) (ls:List Nat) (n:Nat): ∀(H:List (Nat×OB)) (l:Nat),Ae (Wu H0 ls n H) l=(Ae H l).map λb=>if ls.contains l then b.wz (Ur n (UR (Ae H0 l))) else b
 | [],_=>rfl
 |(k,b)::r,l=>by
  simp only [Wu,Ae]
  split
  ·rename_i e;subst e;rfl
  ·exact Nt H0 ls n r l
theorem OB.sM (b:OB) (kp:Option (Nat×Nat)):b.Mk (b.wz kp):=by
 cases b with
 |Al e te rows out kp0=>exact ⟨λsz n h=>⟨n,h,Nat.le_refl _⟩,λp h=>h,λp h=>h,(λ_ _ h=>by cases h),(λ_ _ h=>by cases h)⟩
 |_=>exact OB.Mk.rfl' _
theorem aw (ls:List Nat): ∀(l m:List AV) (t:Nat),l.length=m.length->(∃k i c,l.getD t .undef= .at (.sub k i c)/\ls.contains k=true/\(Gx ls l m).getD t .undef= .at (.sub k i c))\/(Gx ls l m).getD t .undef=m.getD t .undef
 | [],m,t,_=>by cases m<;>exact .inr rfl
 |_::_,[],t,h=>by simp at h
 |a::l,v::m,t,h=>by
  have ih:= λt=>aw ls l m t (by simpa using h)
  have tail: ∀u,Gx ls (a::l) (v::m)=u::Gx ls l m->(t=0->(∃k i c,(a::l).getD t .undef= .at (.sub k i c)/\ls.contains k=true/\u= .at (.sub k i c))\/u=v)->
    (∃k i c,(a::l).getD t .undef= .at (.sub k i c)/\ls.contains k=true/\(Gx ls (a::l) (v::m)).getD t .undef= .at (.sub k i c))\/(Gx ls (a::l) (v::m)).getD t .undef=(v::m).getD t .undef:=by
   intro u e h0
   rw [e]
   rcases t with _|t
   ·rcases h0 rfl with ⟨k,i,c,h1,h2,h3⟩|h3
    ·exact .inl ⟨k,i,c,h1,h2,by simpa using h3⟩
    ·exact .inr (by simpa using h3)
   ·simpa only [List.getD_cons_succ] using ih t
  cases a with
  | «at»c=>
   cases c with
   |sub k i c=>
    refine tail _ rfl λht=>?_
    subst ht
    by_cases hc:ls.contains k=true
    ·exact .inl ⟨k,i,c,rfl,hc,by rw [if_pos hc]⟩
    ·exact .inr (by rw [if_neg hc])
   |_=>exact tail _ rfl λ_=> .inr rfl
  |_=>exact tail _ rfl λ_=> .inr rfl
theorem nT {H:List (Nat×OB)} {ls:List Nat} {n:Nat} : ∀ {l:List AV} {t k i c:Nat},Xd H ls n l=true->l.getD t .undef= .at (.sub k i c)->ls.contains k=true->i<n/\i<ll H k
 | [],t,k,i,c,_,h,_=>by simp at h
 |a::l,0,k,i,c,ho,h,hc=>by
  simp only [List.getD_cons_zero] at h
  subst h
  simp only [Xd,hc,Bool.not_true,Bool.false_or,Bool.and_eq_true,Nat.blt_eq] at ho
  exact ho.1
 |a::l,t+1,k,i,c,ho,h,hc=>by
  refine nT (l:=l) (t:=t) (c:=c) ?_ (by simpa only [List.getD_cons_succ] using h) hc
  cases a with
  | «at»d=>cases d with
   |sub _ _ _=>simp only [Xd,Bool.and_eq_true] at ho;exact ho.2
   |_=>exact ho
  |_=>exact ho
theorem ye {aY st:St} {a:Act} (h0:Ai X π aY a w) (h:Ai X π' st a w') {ls:List Nat} {n:Nat} (hk: ∀l∈ls,tY w w' (π l) (π' l) n) (mh: ∀l∈ls,gP aY.heap l=true)
  (Xy:Xd st.heap ls n aY.tmps=true):Ai X π' (fw aY st ls n) a w'/\ ∀c v,Ao X w' π' st.heap c v->Ao X w' π' (fw aY st ls n).heap c v:=by
 by_cases ka:ls= []
 ·subst ka;exact ⟨h,λ_ _ h=>h⟩
 have Og:fw aY st ls n= {tmps:=Gx ls aY.tmps st.tmps,heap:=Wu aY.heap ls n st.heap} :=by
  cases ls with
  |nil=>exact absurd rfl ka
  |cons _ _=>rfl
 rw [Og]
 have hg0: ∀l∈ls,∃e te rows out kp,Ae aY.heap l=some (.Al e te rows out kp):= λl hl=>by
  have:=mh l hl
  unfold gP at this
  split at this
  ·exact ⟨_,_,_,_,_,by assumption⟩
  ·cases this
 have srv: ∀k b,Ae st.heap k=some b-> ∃b',Ae (Wu aY.heap ls n st.heap) k=some b'/\b.Mk b':= λk b hb=>by
  rw [Nt,hb]
  refine ⟨_,rfl,?_⟩
  dsimp only
  split
  ·exact OB.sM b _
  ·exact OB.Mk.rfl' b
 have hac:(∀fr τ cs x,Cells w' (Bd X.w0.heap.size X.Sc π' fr) τ cs x->Cells w' (Bd X.w0.heap.size X.Sc π' fr) τ cs x)-> ∀c v,Dy X w' π' st.heap c v->Dy X w' π' (Wu aY.heap ls n st.heap) c v:= λhc=>
  ie (f:= λc=>c) (D:= λ_=>False) (Pt:= λ_=>False) (λc=> .inr ⟨rfl,λ_ _ h=>h,λ_ _ _ _ h=>h⟩) (λk _=>aG.rfl' _) (λk b _ hb=>srv k b hb) (λ_ _ _ _ _ _ _ _=>rfl) hc
 have h1:Ai X π' {tmps:=st.tmps.map (·.map λc=>c),heap:=Wu aY.heap ls n st.heap} a w':=by
  refine h.ig rfl (gv:= λ_=>False) (λ_ hf=>hf.elim) (Ge.refl _ _ _) (λ_ _ ho=>ho) h.1.sub h.1.place h.1.inj (λl hl Er=>h.1.cw l hl λh2=>Er (by rw [Nt,h2];rfl)) hac (λm l b hb=>?_) (λl hl=>?_)
  ·rw [Nt] at hb
   cases h2:Ae st.heap l with
   |none=>rw [h2] at hb;cases hb
   |some b0=>
    rw [h2] at hb
    simp only [Option.map_some,Option.some.injEq] at hb
    have hbk:=(h.1.heap l).Mc h2
    have xd:=hbk.move m (Nat.le_refl _) (λr0 c h0 h1=>h.1.sub _ r0 c h0 h1) λ_ _ _ _ _=>rfl
    rw [show OB.map (λc=>c) b0=b0 from OB.vM b0] at xd
    split at hb
    ·rename_i hc
     have hl:l∈ls:=by simpa using hc
     cases b0 with
     |Al e te rows out kp=>
      simp only [OB.wz] at hb
      subst hb
      refine ⟨xd.1,?_⟩
      obtain ⟨e0,te0,SB,Agd,kp0,hg⟩:=hg0 l hl
      have oh:=((h0.1.heap l).Mc hg).2
      rw [hg]
      simp only [UR]
      have oH:=hk l hl
      cases kp0 with
      |none=>trivial
      |some p=>
       obtain ⟨l0,n0⟩:=p
       simp only [KeptAt,Ur] at oh⊢
       cases rQ:X.cw l0 with
       |none=>
        cases hp:π l with
        |none=>
         rw [hp] at oH
         cases AH:π' l with
         |none=>trivial
         |some q=>rw [AH] at oH;exact oH.elim
        |some q=>rw [rQ,hp] at oh;exact oh.elim
       |some r0=>
        cases hp:π l with
        |none=>rw [rQ,hp] at oh;exact oh.elim
        |some q=>
         rw [rQ,hp] at oh
         rw [hp] at oH
         cases AH:π' l with
         |none=>rw [AH] at oH;exact oH.elim
         |some q'=>
          rw [AH] at oH
          obtain ⟨k1,k2,k3,k4⟩:=oH
          obtain ⟨g1,g2,g3,g4⟩:=oh
          refine ⟨k1.trans g1,k2.trans g2,k3.trans g3,λj hj hc=>?_⟩
          have e1:=g4 j (by omega) hc
          have e2:=k4 j (by omega) (by omega)
          rw [g1,g2] at e2
          rw [<-e1,e2]
     |_=>simp only [OB.wz] at hb;subst hb;exact xd
    ·subst hb;exact xd
  ·rw [Nt] at hl
   cases h2:Ae st.heap l with
   |none=>exact (h.1.heap l).emp h2
   |some b=>rw [h2] at hl;cases hl
 have HN: ∀c v,Ao X w' π' st.heap c v->Ao X w' π' (Wu aY.heap ls n st.heap) c v:= λc v hv=>by
  have m:Move X w' w' π' π' st.heap (Wu aY.heap ls n st.heap) (λc=>c):=⟨hac λ_ _ _ _ h=>h,λ_ _ _ _ h=>h⟩
  have:=m.av hv
  rwa [AC.map_id] at this
 refine ⟨⟨h1.1,⟨?_,h.2.defers,λt=>?_⟩⟩,HN⟩
 ·have: ∀(l m:List AV),(Gx ls l m).length=m.length:=by
   intro l
   induction l with
   |nil=>intro m;cases m<;>rfl
   |cons a l ih=>
    intro m
    cases m with
    |nil=>cases a with
     | «at»c=>cases c<;>rfl
     |_=>rfl
    |cons v m=>cases a with
     | «at»c=>cases c<;>simp only [Gx,List.length_cons,ih m]
     |_=>simp only [Gx,List.length_cons,ih m]
  show a.tmps.size=(Gx ls aY.tmps st.tmps).length
  rw [this];exact h.2.size
 ·show Ao X w' π' _ ((Gx ls aY.tmps st.tmps).getD t .undef) _
  rcases aw ls aY.tmps st.tmps t (by rw [<-h0.2.size,<-h.2.size]) with ⟨k,i,c,g1,g2,g3⟩|g
  ·rw [g3]
   have Iv:k∈ls:=by simpa using g2
   obtain ⟨i1,i2⟩:=nT Xy g1 g2
   have hv:=h0.2.tmps t
   rw [show aY.get t=_ from g1] at hv
   obtain ⟨r,b,sz,n',e1,e2,e3,e4,⟨e5,e6⟩,e7⟩:=hv
   obtain ⟨e0,te0,SB,Agd,kp0,hg⟩:=hg0 k Iv
   rw [hg] at e1;cases e1
   simp only [OB.aM,Option.some.injEq,Prod.mk.injEq] at e2
   obtain ⟨rfl,rfl⟩:=e2
   have oH:=hk k Iv
   rw [e3] at oH
   cases AH:π' k with
   |none=>rw [AH] at oH;exact oH.elim
   |some q'=>
    rw [AH] at oH
    obtain ⟨k1,k2,k3,k4⟩:=oH
    have mg:SB.length<=r.cap:=by
     have:=((h0.1.heap k).Mc hg).1
     rw [e3] at this
     obtain ⟨_,_,_,_,_,_,h5,_⟩:=this
     exact h5
    unfold ll at i2
    split at i2
    ·rename_i e9 te9 Ab7 Ald kp9 hg9
     refine ⟨q',_,1,Ab7.length,by rw [Nt,hg9];rfl,?_,AH,i2,⟨e5,e6⟩,?_⟩
     ·dsimp only
      split<;>rfl
     ·have fm:c=0:=by omega
      subst fm
      rw [k1,k2]
      rw [Nat.mul_one,Nat.add_zero] at e7⊢
      rw [k4 i i1 (by omega)];exact e7
    ·omega
  ·rw [g]
   exact HN _ _ (h.2.tmps t)
theorem jx {ins:List (Bool×CK)} {as:List AC} {pl:List Nat} {st:St} :(kZ ins as pl st).tmps=st.tmps:=by
 unfold kZ
 split
 ·rfl
 ·split<;>rfl
theorem yX {ins:List (Bool×CK)} {as:List AC} {pl:List Nat} {st:St} {m:Nat} (hm:m∉pl):Ae (kZ ins as pl st).heap m=Ae st.heap m:=by
 unfold kZ
 split
 ·rfl
 ·rename_i l r
  split
  ·exact Cn _ _ _ _ λe=>hm (e▸List.mem_cons_self)
  ·rfl
theorem EC {ins:List (Bool×CK)} {as:List AC} {l:Nat} {st:St} {tid:TypeId} {vs:List AC} (hl:Ae st.heap l=some (.var tid vs)):Ae (kZ ins as [l] st).heap l=some (.var tid (aT ins vs as)):=by
 simp only [kZ,St.at,hl]
 exact Cq _ _ _ _ hl
theorem qz {α:Type} (ins:List (Bool×CK)) (as:List α):aT ins [] as= []:=by
 rcases ins with _|⟨⟨_|_,c⟩,r⟩<;>rfl
theorem js {α:Type} : ∀(ins:List (Bool×CK)) (vs as:List α),(aT ins vs as).length=vs.length
 | [],vs,as=>by rw [aT];all_goals simp
 |p::r,[],as=>by rw [qz]
 |(true,c)::r,v::vs,as=>by simp only [aT,List.length_cons,js r vs as]
 |(false,c)::r,v::vs,[]=>by rw [aT];all_goals simp
 |(false,c)::r,v::vs,a::as=>by simp only [aT,List.length_cons,js r vs as]
theorem DS {st:St} {a:Act} (h:Ai X π st a w) {s:MSpec} {jN:List AV} {vs:List Value} (hlen:jN.length=vs.length) (HN: ∀(i:Nat) c v,jN[i]?=some c->vs[i]?=some v->Ao X w π st.heap c v)
  {pl:List Nat} {cells:List AC} {rest:List AV} (he:AU st s jN=some (pl,cells,rest)):
  ∃(g:Nat) (QH qT:List Value),rest.length=qT.length/\(∀(i:Nat) c v,rest[i]?=some c->qT[i]?=some v->Ao X w π st.heap c v)/\Ia X w π st.heap cells QH/\
   ((s.ptr=none/\pl= []/\cells= []/\QH= []/\vs=qT)\/
    ∃p l q,s.ptr=some p/\pl= [l]/\π l=some q/\q.Ay q.g/\g=q.g/\Ae st.heap l=some (.var p.1 cells)/\cells.length=p.2/\vs= .pointer (some ⟨g,0,none⟩)::qT/\w.heap[g]?=some (.cells QH.toArray p.1 (0,0))/\Cx X w π st.heap cells QH):=by
 unfold AU at he
 split at he
 ·rename_i hp
  simp only [Option.some.injEq,Prod.mk.injEq] at he
  obtain ⟨rfl,rfl,rfl⟩:=he
  exact ⟨0,[],vs,hlen,HN,trivial, .inl ⟨hp,rfl,rfl,rfl,rfl⟩⟩
 ·rename_i p hp
  split at he
  ·rename_i l i Ai6
   split at he
   ·rename_i tid cs hl
    split at he
    ·rename_i hc
     obtain ⟨rfl,hc,rfl⟩:=hc
     simp only [Option.some.injEq,Prod.mk.injEq] at he
     obtain ⟨rfl,rfl,rfl⟩:=he
     unfold St.at at hl
     cases vs with
     |nil=>simp at hlen
     |cons v vs=>
      obtain ⟨r,Nn,tT,h1,h2,rfl⟩:=HN 0 _ v rfl rfl
      rw [hl] at h1;cases h1
      obtain ⟨r',h3,h4,cur,h5,h6⟩:=(h.1.heap l).Mc hl
      rw [h2] at h3;cases h3
      exact ⟨r.g,cur.toList,vs,by simpa using hlen,λi c v h7 h8=>HN (i+1) c v (by simpa using h7) (by simpa using h8),Ia.of h6, .inr ⟨p,l,r,hp,rfl,h2,h4,rfl,hl,hc,rfl,by simpa using h5,h6⟩⟩
    ·cases he
   ·cases he
  ·cases he
theorem dy {V:List Nat} {πc:Pi} {dead part:List Nat} (RU: ∀l,l∉dead->π' l=π l) (Qc: ∀l b sz n,l∉dead->Ae H l=some b->b.row=some (sz,n)-> ∃b',Ae H' l=some b'/\b'.row=some (sz,n)):
  ∀(ins:List (Bool×CK)) (k:Nat) (cells iE:List AC) (x:Ins.den ins) (us:List Value) (o:IOs.den ins) (cur st1:St) (news:List AC) (Sa cs:List Value),kO X w π V H πc k ins x (cells++iE) us->Ov ins cells=true->
   Ee ins o (cells++iE) cur=some st1->Ce πc k ins o cells.length cs Sa->Ia X w' π' H' news Sa->Ia X w' π' H' (aT ins (cells.map (Av dead part)) news) cs
 |ins,k,[],iE,x,us,o,cur,st1,news,Sa,cs,_,_,_,hb,_=>by
  have hb:cs= []:=by rcases ins with _|⟨⟨_|_,c⟩,r⟩<;>(try cases c)<;>simpa [Ce] using hb
  rw [hb,List.map_nil,qz]
  trivial
 | [],k,a::cells,iE,x,us,o,cur,st1,news,Sa,cs,_,hk,_,_,_=>by simp [Ov] at hk
 |(true, .Hf τ)::r,k,a::cells,iE,x,us,o,cur,st1,news,Sa,cs,_,hk,_,_,_=>by simp [Ov] at hk
 |(true, .part e te)::r,k,a::cells,iE,x,us,o,cur,st1,news,Sa,cs,_,hk,_,_,_=>by simp [Ov] at hk
 |(true, .Al e te _)::r,k,a::cells,iE,x,us,o,cur,st1,news,Sa,cs,_,hk,_,_,_=>by simp [Ov] at hk
 |(true, .row e te)::r,k,a::cells,iE,x,us,o,cur,st1,news,Sa,cs,ht,hk,hp,hb,hn=>by
  cases a<;>simp only [Ov,Bool.false_eq_true] at hk
  rename_i l off len
  cases us with
  |nil=>exact ht.elim
  |cons u0 us=>
  cases cs with
  |nil=>exact hb.elim
  |cons u cs=>
  obtain ⟨⟨_,h1⟩,h2⟩:=ht
  simp only [Mp] at h1
  obtain ⟨h3,rfl,rfl,fr,tr,h4⟩:=h1
  obtain ⟨h5,h6⟩:=hb
  simp only [List.cons_append,Ee] at hp
  split at hp
  rotate_left
  ·cases hp
  rename_i Sw TY
  have HX:List.length o.1=List.length x.1:=by
   simp only [Vl] at TY
   repeat' split at TY
   all_goals first|(cases TY;done)|(rename_i hc;exact hc.2.1)
  refine ⟨?_,dy RU Qc r (k+1) cells iE x.2 us o.2 Sw st1 news Sa cs h2 hk hp h6 hn⟩
  by_cases hd:l∈dead
  ·have:Av dead part (.own l 0 (List.length x.1))= .undef:=by
    unfold Av
    rw [if_pos (by simp [AC.refs,hd])]
   rw [this];trivial
  ·rw [Vt (by simpa [AC.refs] using hd) (by intro l i j e;rcases e with e|e<;>cases e)]
   obtain ⟨b',g1,g2⟩:=Qc l _ e.size (List.length x.1) hd h4 rfl
   refine ⟨b',e.size,List.length x.1,g1,g2,by omega,?_⟩
   rw [RU l hd]
   rw [h3,HX] at h5
   cases hp:π l<;>(rw [hp] at h5;exact h5)
 |(true, .Dv e te)::r,k,a::cells,iE,x,us,o,cur,st1,news,Sa,cs,ht,hk,hp,hb,hn=>by
  cases a<;>simp only [Ov,Bool.false_eq_true] at hk
  rename_i l off len
  cases us with
  |nil=>exact ht.elim
  |cons u0 us=>
  cases cs with
  |nil=>exact hb.elim
  |cons u cs=>
  obtain ⟨⟨_,h1⟩,h2⟩:=ht
  simp only [Mp] at h1
  obtain ⟨h3,rfl,rfl,h4⟩:=h1
  obtain ⟨h5,h6⟩:=hb
  simp only [List.cons_append,Ee] at hp
  split at hp
  rotate_left
  ·cases hp
  rename_i Sw TY
  have HX:List.length o.1=List.length x.1:=by
   simp only [Vl] at TY
   repeat' split at TY
   all_goals first|(cases TY;done)|(rename_i hc;exact hc.2.1)
  refine ⟨?_,dy RU Qc r (k+1) cells iE x.2 us o.2 Sw st1 news Sa cs h2 hk hp h6 hn⟩
  by_cases hd:l∈dead
  ·have:Av dead part (.own l 0 (List.length x.1))= .undef:=by
    unfold Av
    rw [if_pos (by simp [AC.refs,hd])]
   rw [this];trivial
  ·rw [Vt (by simpa [AC.refs] using hd) (by intro l i j e;rcases e with e|e<;>cases e)]
   obtain ⟨b',g1,g2⟩:=Qc l _ e.size (List.length x.1) hd h4 rfl
   refine ⟨b',e.size,List.length x.1,g1,g2,by omega,?_⟩
   rw [RU l hd]
   rw [h3,HX] at h5
   cases hp:π l<;>(rw [hp] at h5;exact h5)
 |(false,c)::r,k,a::cells,iE,x,[],o,cur,st1,news,Sa,cs,ht,hk,hp,hb,hn=>ht.elim
 |(false,c)::r,k,a::cells,iE,x,u0::us,o,cur,st1,news,Sa,[],ht,hk,hp,hb,hn=>by cases c<;>exact hb.elim
 |(false,c)::r,k,a::cells,iE,x,u0::us,o,cur,st1,news,[],u::cs,ht,hk,hp,hb,hn=>by cases c<;>exact hb.elim
 |(false,c)::r,k,a::cells,iE,x,u0::us,o,cur,st1,[],u'::Sa,u::cs,ht,hk,hp,hb,hn=>hn.elim
 |(false,c)::r,k,a::cells,iE,x,u0::us,o,cur,st1,na::news,u'::Sa,u::cs,ht,hk,hp,hb,hn=>by
  have hb2:u=u'/\Ce πc (k+1) r o cells.length cs Sa:=by cases c<;>exact hb
  obtain ⟨rfl,hb3⟩:=hb2
  have hp:Ee r o (cells++iE) cur=some st1:=by cases c<;>simpa only [List.cons_append,Ee] using hp
  have hk:Ov r cells=true:=by cases c<;>simpa only [Ov] using hk
  exact ⟨hn.1,dy RU Qc r (k+1) cells iE x.2 us o cur st1 news Sa cs ht.2 hk hp hb3 hn.2⟩
theorem wS {V:List Nat} {πc:Pi} : ∀(cs:List (Bool×CK)) (k0:Nat) (x:Ins.den cs) (as:List AC) (us:List Value),k0+cs.length<100000->kO X w π V H πc k0 cs x as us-> ∀k l,(Bt false k,Loc.row l)∈Gy k0 cs as->πc (Bt false k)=(π l).map full
 | [],_,_,[],_,_,_,_,_,h=>by cases h
 | [],_,_,_::_,_,_,_,_,_,h=>by cases h
 |_::_,_,_,[],_,_,_,_,_,h=>by cases h
 |_::_,_,_,_::_,[],_,h,_,_,_=>h.elim
 |(io,c)::r,k0,x,a::as,u::us,hk,h,k,l,ht=>by
  simp only [List.length_cons] at hk
  simp only [Gy] at ht
  rcases List.mem_append.1 ht with ht|ht
  ·obtain ⟨⟨_,h1⟩,_⟩:=h
   cases c with
   |Hf τ=>cases a<;>simp [Kl,views] at ht
   |row e te=>
    cases a<;>simp [Kl] at ht
    obtain ⟨e1,rfl⟩:=ht
    simp only [Mp] at h1
    rw [e1];exact h1.1
   |Dv e te=>
    cases a<;>simp [Kl] at ht
    obtain ⟨e1,rfl⟩:=ht
    simp only [Mp] at h1
    rw [e1];exact h1.1
   |part e te=>
    cases a<;>simp [Kl] at ht
    obtain ⟨e1,rfl⟩:=ht
    simp only [Mp] at h1
    rw [e1];exact h1.2.1
   |Al e te kp=>
    cases a<;>simp [Kl] at ht
    obtain ⟨e1,rfl⟩:=ht
    simp only [Mp] at h1
    rw [e1];exact h1.2.1
  ·exact wS r (k0+1) x.2 as us (by omega) h.2 k l ht
theorem kP {st:St} {a:Act} (h:Ai X π st a w) {f:FuncId} {s:MSpec} (hs:Ea P f s) (dst:Option Nat) (jN:List AV) (vs:List Value) (hlen:jN.length=vs.length)
  (HN: ∀(i:Nat) c v,jN[i]?=some c->vs[i]?=some v->Ao X w π st.heap c v) (av:AV) (st':St) (he:Px st dst s jN=some (av,st')):
  Calls P f vs.toArray w λe w'=> ∃v,e= .returned v/\ ∃π',Ai X π' st' a w'/\Ao X w' π' st'.heap av v:=by
 unfold Px at he
 split at he
 ·cases he
 rename_i pl cells rest Afi
 split at he
 ·cases he
 rename_i iE GF
 split at he
 ·cases he
 rename_i x tks htk
 split at he
 rotate_left
 ·cases he
 rename_i Ff
 simp only [Bool.and_eq_true,Nat.blt_eq] at Ff
 obtain ⟨⟨⟨⟨oJ,mo⟩,ZH⟩,Oj⟩,YW,CD⟩:=Ff
 have CD: ∀l∈pl,l∉(tks.map λt=>t.2.Pn)/\l∉Ls s tks (dst.getD 0):= λl hl=>by
  have:=List.all_eq_true.1 CD l hl
  simp only [Bool.not_eq_true',<-Bool.not_eq_true,List.contains_iff_mem] at this
  exact ⟨λhm=>this (List.mem_append_left _ hm),λhm=>this (List.mem_append_right _ hm)⟩
 split at he
 ·cases he
 rename_i r o WV
 split at he
 ·cases he
 rename_i st1 UB
 obtain ⟨g,QH,qT,YY,Ae7,Afl,XH⟩:=DS h hlen HN Afi
 obtain ⟨px,rfl,GD,Afk⟩:=Wj s.Hb rest qT iE YY Ae7 GF
 have UD:=Afl.append Afk
 have Kx:iG s w g (QH++px) vs:=by
  unfold iG
  rcases XH with ⟨h1,_,_,h2,h3⟩|⟨p,l,q,h1,_,_,_,_,_,h2,h3,h4,h5⟩
  ·rw [h1];subst h2;exact ⟨h3,GD⟩
  ·rw [h1]
   have hl:QH.length=p.2:=h5.1.trans h2
   simp only
   rw [List.drop_append_of_le_length (by omega),List.take_append_of_le_length (by omega),List.take_of_length_le (by omega),List.drop_of_length_le (by omega)]
   refine ⟨h3,GD,by simp;omega,h4,λu hu=>?_⟩
   obtain ⟨i,hi,rfl⟩:=List.mem_iff_getElem.1 hu
   obtain ⟨u',h6,h7,_⟩:=h5.2 i (cells[i]'(by have:=h5.1;omega)) (List.getElem?_eq_getElem _)
   rw [List.getElem?_eq_getElem hi] at h6
   rw [Option.some.inj h6];exact h7
 have CE: ∀l∈pl,∃p q,s.ptr=some p/\pl= [l]/\π l=some q/\q.Ay q.g/\g=q.g/\Ae st.heap l=some (.var p.1 cells)/\cells.length=p.2:= λl hl=>by
  rcases XH with ⟨_,h1,_⟩|⟨p,l',q,h1,h2,h3,h4,h5,h6,h7,_⟩
  ·rw [h1] at hl;cases hl
  ·rw [h2] at hl
   have:=List.mem_singleton.1 hl
   subst this
   exact ⟨p,q,h1,h2,h3,h4,h5,h6,h7⟩
 have BX: ∀b,s.gv g b-> ∃l∈pl,∃q,π l=some q/\q.Ay b/\b=q.g:= λb ⟨h1,h2⟩=>by
  rcases XH with ⟨h3,_⟩|⟨p,l',q,_,h4,h5,h6,h7,_⟩
  ·rw [h3] at h1;cases h1
  ·exact ⟨l',by rw [h4];exact List.mem_singleton.2 rfl,q,h5,by rw [h2,h7];exact h6,h2.trans h7⟩
 obtain ⟨as,has⟩: ∃as,as=cells++iE:=⟨_,rfl⟩
 obtain ⟨us,IH⟩: ∃us,us=QH++px:=⟨_,rfl⟩
 rw [<-has] at UD htk UB
 rw [<-IH] at UD Kx
 let V:=(tks.filter λt=>t.2.reads).map λt=>t.2.Pn
 have hV: ∀t∈tks,t.2.reads=true->t.2.Pn∈V:= λt ht hr=>List.mem_map.2 ⟨t,List.mem_filter.2 ⟨ht,hr⟩,rfl⟩
 have hV': ∀l∈V,∃t∈tks,t.2.reads=true/\t.2.Pn=l:= λl hl=>by
  obtain ⟨t,h1,h2⟩:=List.mem_map.1 hl
  exact ⟨t,(List.mem_filter.1 h1).1,(List.mem_filter.1 h1).2,h2⟩
 clear_value V
 obtain ⟨LX,πc,hT,HQ,Aer,Ou⟩:=o0 h.1 (V:=V) s.ins 0 as us x tks (by omega) UD htk hV
 have xU:=Qj oJ
 rw [LX] at xU
 have Xz: ∀b,Oi πc b-> ∃t∈Gy 0 s.ins as,t.2.reads=false/\ ∃q,π t.2.Pn=some q/\q.Ay b/\ ∀l i j,t.2= .sub l i j->b≠q.g:= λb ⟨c,q,h1,h2⟩=>by
  obtain ⟨t,t1,_,t3⟩:=Ou c q b h1 h2
  exact ⟨t,t1,t3⟩
 have xW: ∀b,Oi πc b->Oi π b:= λb hb=>let ⟨t,_,_,q,h1,h2,_⟩:=Xz b hb;⟨_,q,h1,h2⟩
 have dr:bx πc (λb=>b<w.heap.size):=⟨λl q b h1 h2=>(h.1.own (xW b ⟨l,q,h1,h2⟩)).1,λl l' q q' b h1 h2 h3 h4=>by
  obtain ⟨t,t1,t2,_,p,t3,t4,_⟩:=Ou l q b h1 h3
  obtain ⟨t',VR,t2',_,p',t3',t4',_⟩:=Ou l' q' b h2 h4
  have:=s9 xU t1 VR (h.1.apart t3 t3' t4 t4')
  rw [<-t2,<-t2',this]⟩
 have YI: ∀k l,(Bt false k,Loc.row l)∈Gy 0 s.ins as->πc (Bt false k)=(π l).map full:= λk l ht=>
  wS s.ins 0 x as us (by omega) hT k l ht
 have Aa4: ∀b,Oi πc b->Jg X π V b:= λb hb=> .inl ⟨xW b hb,λl hl r' hr hf=>by
  obtain ⟨t,t1,t0,q,t3,t4,_⟩:=Xz b hb
  obtain ⟨t',VR,t2',rfl⟩:=hV' l hl
  rw [LX] at VR
  have:=s9 xU t1 VR (h.1.apart t3 hr t4 hf)
  subst this
  rw [t0] at t2';cases t2'⟩
 let S:Nat->Prop:= λb=> ¬Oi πc b/\Jg X π V b
 have hS: ∀b,S b->b<w.heap.size/\ ¬Oi πc b:= λb hb=>⟨by
  rcases hb.2 with h1|h1
  ·exact (h.1.own h1.1).1
  ·exact Nat.lt_of_lt_of_le (h.1.sc b h1).1 h.1.below.size,hb.1⟩
 have NW: ∀l∈pl,∀t∈Gy 0 s.ins as,t.2.Pn≠l:= λl hl t ht e=>(CD l hl).1 (List.mem_map.2 ⟨t,LX▸ht,e⟩)
 have hSg:s.ptr.isSome=true->S g:= λXG=>by
  obtain ⟨l,hl,q,h1,h2,h3⟩:=BX g ⟨XG,rfl⟩
  have XB: ¬Oi πc g:= λhb=>by
   obtain ⟨t,t1,_,q',t3,t4,_⟩:=Xz g hb
   exact NW l hl t t1 (h.1.apart t3 h1 t4 h2)
  refine ⟨XB, .inl ⟨⟨l,q,h1,h2⟩,λl' Hc r' fq hf=>?_⟩⟩
  obtain ⟨t',VR,_,rfl⟩:=hV' l' Hc
  rw [LX] at VR
  exact NW l hl t' VR (h.1.apart fq h1 hf h2)
 refine (hs.calls w S πc us x r o g vs Kx hSg (Yy.Ev (λb hb=>hb.elim (Aa4 b) λh=>h.2) s.ins 0 x us (hT.Aad s.ins 0 x as us)) dr hS Aer WV).mono ?_
 rintro e w' ⟨v,Sa,tV,rfl,Zp,pR,NI,rI,ZI,HZ,UN,pW⟩
 obtain ⟨ρ,OJ,rP,HY,QW⟩: ∃ρ:Pi,(∀l,ρ l=(tV l).map full)/\Ew w' (dK S πc tV) ρ 0 s.outs r Sa/\bx ρ (λb=>b<w'.heap.size/\(w.heap.size<=b\/ ∃l q,l<Aj/\πc l=some q/\q.Ay b))/\ ∀l q,ρ l=some q->q.cl=q.Ay:=by
  have un: ∀l q,(tV l).map full=some q-> ∃q0,tV l=some q0/\q=full q0:= λl q hq=>by
   cases hp:tV l with
   |none=>rw [hp] at hq;cases hq
   |some q0=>rw [hp] at hq;exact ⟨q0,rfl,(Option.some.inj hq).symm⟩
  refine ⟨λl=>(tV l).map full,λ_=>rfl,Ew.full s.outs 0 r Sa ZI,⟨λl q b h1 h2=>?_,λl l' q q' b h1 h2 h3 h4=>?_⟩,λl q h1=>?_⟩
  ·obtain ⟨q0,h5,rfl⟩:=un l q h1
   exact HZ.Qu l q0 b h5 h2
  ·obtain ⟨q0,h5,rfl⟩:=un l q h1
   obtain ⟨VN,h6,rfl⟩:=un l' q' h2
   exact HZ.inj l l' q0 VN b h5 h6 h3 h4
  ·obtain ⟨q0,_,rfl⟩:=un l q h1
   rfl
 refine ⟨v,rfl,?_⟩
 split at he
 ·cases he
 rename_i av0 c9
 split at he
 rotate_left
 ·cases he
 rename_i Qd
 simp only [Option.some.injEq,Prod.mk.injEq] at he
 obtain ⟨rfl,rfl⟩:=he
 let D1:Nat->Prop:=if s.flat then λ_=>True else dK S πc tV
 have Aeu:He w' D1 πc 0 s.ins o:=by
  show He w' (if s.flat then λ_=>True else dK S πc tV) πc 0 s.ins o
  split
  ·rename_i hf
   unfold MSpec.flat at hf
   simp only [Bool.and_eq_true] at hf
   exact He.any s.ins 0 o hf.2 rI
  ·exact rI
 have ZJ:Ew w' D1 ρ 0 s.outs r Sa:=by
  show Ew w' (if s.flat then λ_=>True else dK S πc tV) ρ 0 s.outs r Sa
  split
  ·rename_i hf
   unfold MSpec.flat at hf
   simp only [Bool.and_eq_true] at hf
   exact Ew.any s.outs 0 r Sa hf.1 rP
  ·exact rP
 obtain ⟨q1,q2,q3,q4⟩:=nc (D:=D1) (X:=X) (π:=π) (H:=st.heap) h.1 NI.size (tks:=Gy 0 s.ins as) (πc:=πc) (λt ht q b hq hb Ho hn=>NI.block b Ho λxV=>by
   rcases xV with ⟨c,r',h1,h2⟩|hg
   rotate_left
   ·obtain ⟨l,hl,q',h1,h2,_⟩:=BX b hg
    exact NW l hl t ht (h.1.apart hq h1 hb h2)
   obtain ⟨t',t1,t2,_,p,t3,t4,_⟩:=Ou c r' b h1 h2
   have:=s9 xU ht t1 (h.1.apart hq t3 hb t4)
   subst this
   exact hn r' (t2▸h1) h2) s.ins 0 x as us o st st1 (by omega) (λ_ h=>h) xU hT Aeu UB (λ_ _=>rfl)
 have UE: ∀t∈Gy 0 s.ins as,t.2.reads=true->t.1<Aj:=by
  have: ∀(cs:List (Bool×CK)) (k:Nat) (as:List AC),k+cs.length<100000-> ∀t∈Gy k cs as,t.2.reads=true->t.1<Aj:=by
   intro cs
   induction cs with
   |nil=>intro k as _ t ht;cases as<;>cases ht
   |cons p r ih=>
    intro k as hk t ht hr
    simp only [List.length_cons] at hk
    cases as with
    |nil=>cases ht
    |cons a as=>
     simp only [Gy] at ht
     rcases List.mem_append.1 ht with ht|ht
     ·rcases wR ht with ⟨_,h1⟩|⟨h1,_⟩
      ·rw [hr] at h1;cases h1
      ·rw [h1];exact ag (by omega)
     ·exact ih (k+1) as (by omega) t ht hr
  exact this s.ins 0 as (by omega)
 let d:=dst.getD 0
 let ks:=Ls s tks d
 let dead:=gw tks++ks++(if s.flat then [] else tD tks)
 let part:=whole tks
 have Afo:s.outs.length+(fK s d).length=s.Ni:=by unfold MSpec.Ni fK;cases s.rp<;>rfl
 obtain ⟨TR,Af3,RF⟩:ks.length=s.Ni/\ks.Nodup/\ ∀l∈ks,l<Aj:=by
  have:=yh mo
  rw [Afo] at this
  exact this
 have XB:s.outs.length<=s.Ni:=by unfold MSpec.Ni;omega
 have OD: ∀tid,s.rp=some tid->Bv ks s.outs.length=Mo d/\s.Ni=s.outs.length+1:= λtid Qe=>by
  have h1:s.Ni=s.outs.length+1:=by unfold MSpec.Ni;rw [Qe]
  refine ⟨?_,h1⟩
  have h2:ks=gp s tks d++ [Mo d]:=by show gp s tks d++fK s d=_;unfold fK;rw [Qe]
  have h3:(gp s tks d).length=s.outs.length:=by rw [h2] at TR;simp at TR;omega
  rw [Lc (by rw [TR];omega)]
  simp only [h2]
  rw [List.getElem_append_right (by omega)]
  simp [h3]
 have HW:=uq Af3 RF
 have Af1: ∀j,j<s.Ni->Bv ks j<Aj:= λj hj=>RF _ (mem_keys.2 ⟨j,by omega,rfl⟩)
 let π':Pi:= λl=>match (List.range s.Ni).find? λj=>decide (Bv ks j=l) with
  |some j=>ρ (Fq j)
  |none=>if l∈dead then none else π l
 have oG: ∀j,j<s.Ni->π' (Bv ks j)=ρ (Fq j):= λj hj=>by
  show (match (List.range s.Ni).find? λi=>decide (Bv ks i=Bv ks j) with|some i=>ρ (Fq i)|none=>_)=_
  cases hf:(List.range s.Ni).find? λi=>decide (Bv ks i=Bv ks j) with
  |none=>
   have:=List.find?_eq_none.1 hf j (List.mem_range.2 hj)
   simp at this
  |some i=>
   have:=List.find?_some hf
   rw [HW i j (of_decide_eq_true this)]
 have mn: ∀j,j<s.Ni->Bv ks j∈dead:= λj hj=>List.mem_append_left _ (List.mem_append_right _ (mem_keys.2 ⟨j,by omega,rfl⟩))
 have rJ: ∀l,(¬ ∃j,j<s.Ni/\l=Bv ks j)->π' l=if l∈dead then none else π l:= λl hl=>by
  show (match (List.range s.Ni).find? λi=>decide (Bv ks i=l) with|some i=>ρ (Fq i)|none=>_)=_
  cases hf:(List.range s.Ni).find? λi=>decide (Bv ks i=l) with
  |none=>rfl
  |some i=>
   have h1:=List.find?_some hf
   exact absurd ⟨i,List.mem_range.1 (List.mem_of_find?_eq_some hf),(of_decide_eq_true h1).symm⟩ hl
 have IK: ∀l,l∉dead->π' l=π l:= λl hl=>by
  rw [rJ l (λ⟨j,h1,h2⟩=>hl (h2▸mn j h1)),if_neg hl]
 have YA: ∀b,Oi π' b\/X.Sc b->D1 b:=by
  intro b hb
  show (if s.flat then λ_=>True else dK S πc tV) b
  split
  ·trivial
  rename_i hnf
  rcases hb with ⟨l,q,hl,hf⟩|hb
  ·by_cases hk: ∃j,j<s.Ni/\l=Bv ks j
   ·obtain ⟨j,hj,rfl⟩:=hk
    rw [oG j hj,OJ] at hl
    cases hp:tV (Fq j) with
    |none=>rw [hp] at hl;cases hl
    |some q0=>rw [hp] at hl;simp only [Option.map_some,Option.some.injEq] at hl;subst hl;exact .inr (.inr ⟨Fq j,q0,hp,hf⟩)
   ·have e0:π' l=if l∈dead then none else π l:=rJ l hk
    rw [e0] at hl
    split at hl
    ·cases hl
    ·rename_i NT
     by_cases ho:Oi πc b
     ·obtain ⟨c,q',hc,hcb⟩:=ho
      obtain ⟨t,t1,t2,t0,p,t3,t4,_⟩:=Ou c q' b hc hcb
      have rK:=h.1.apart hl t3 hf t4
      refine .inr (.inl ⟨c,q',Classical.byContradiction λhn=>?_,hc,hcb⟩)
      exact NT (List.mem_append_left _ (List.mem_append_left _ (Yf.2 ⟨t,LX▸t1,⟨by rw [t2];omega,t0⟩,rK.symm⟩)))
     ·refine .inl ⟨ho, .inl ⟨⟨l,q,hl,hf⟩,λl0 TT r0 UC hf0=>?_⟩⟩
      have:=h.1.apart hl UC hf hf0
      subst this
      exact NT (List.mem_append_right _ (by rw [if_neg hnf];exact mK.2 (hV' l TT)))
  ·refine .inl ⟨λho=>?_, .inr hb⟩
   have h1:=h.1.sc b hb
   rcases (h.1.own (xW b ho)).2 with h2|h2
   ·omega
   ·exact h1.2 h2
 have hpd: ∀l∈pl,l∉dead:= λl hl hd=>by
  rcases List.mem_append.1 hd with hd|hd
  ·rcases List.mem_append.1 hd with hd|hd
   ·obtain ⟨t,ht,_,e⟩:=Yf.1 hd
    exact (CD l hl).1 (List.mem_map.2 ⟨t,ht,e⟩)
   ·exact (CD l hl).2 hd
  ·split at hd
   ·cases hd
   ·obtain ⟨t,ht,_,e⟩:=mK.1 hd
    exact (CD l hl).1 (List.mem_map.2 ⟨t,ht,e⟩)
 have TQ: ∀j,j<s.Ni->Bv ks j∉pl:= λj hj hp=>hpd _ hp (mn j hj)
 let bv:Option OB:=s.rp.map λtid=> .var tid ((Uv (Bv ks) 0 s.outs r).drop s.So)
 let H1:=(kZ s.ins (Uv (Bv ks) 0 s.outs r) pl (st1.Vs dead part)).heap
 have WQ: ∀l,l∉pl->Ae H1 l=if l∈dead then none else (Ae st1.heap l).map (OB.map (Av dead part)):= λl hl=>by
  show Ae (kZ _ _ _ _).heap l=_
  rw [yX hl]
  show Ae (Pu (st1.heap.map λp=>(p.1,p.2.map (Av dead part))) dead) l=_
  rw [Ij,Jj]
 let H2:=vg H1 (Mo d) bv
 have hvd: ∀tid,s.rp=some tid->Mo d∈dead/\Mo d∉pl:= λtid Qe=>by
  obtain ⟨e1,e2⟩:=OD tid Qe
  rw [<-e1]
  exact ⟨mn _ (by omega),TQ _ (by omega)⟩
 have YE: ∀l,(∀tid,s.rp=some tid->l≠Mo d)->Ae H2 l=Ae H1 l:= λl hl=>by
  show Ae (vg H1 (Mo d) (s.rp.map _)) l=_
  cases xe:s.rp with
  |none=>rfl
  |some tid=>exact Jr _ _ _ _ (hl tid xe)
 have Adt: ∀tid,s.rp=some tid->Ae H2 (Mo d)=some (.var tid ((Uv (Bv ks) 0 s.outs r).drop s.So)):= λtid Qe=>by
  show Ae (vg H1 (Mo d) (s.rp.map _)) (Mo d)=_
  rw [Qe]
  exact Kn _ _ _ (by rw [WQ _ (hvd tid Qe).2,if_pos (hvd tid Qe).1])
 have hkv: ∀j,j<s.outs.length-> ∀tid,s.rp=some tid->Bv ks j≠Mo d:= λj hj tid Qe e=>by
  have:=HW j s.outs.length (e.trans (OD tid Qe).1.symm)
  omega
 have hH2: ∀l,l∉pl->(∀tid,s.rp=some tid->l≠Mo d)->Ae H2 l=if l∈dead then none else (Ae st1.heap l).map (OB.map (Av dead part)):= λl hl hv=>by
  rw [YE l hv,WQ l hl]
 let H':=Qk (zR st (gw tks)) (Bv ks) 0 s.outs r H2
 obtain ⟨n1,n2,n3⟩:=ky (D:=D1) (X:=X) (key:=Bv ks) HW (fr:=zR st (gw tks)) (ρ:=ρ) s.outs 0 r Sa H2 ZJ (λj _ hj=>by
  rw [hH2 _ (TQ j (by omega)) (hkv j (by omega)),if_pos (mn j (by omega))])
 have iY: ∀l,l∉dead->l∉pl->Ae H' l=(Ae st1.heap l).map (OB.map (Av dead part)):= λl hl oI=>by
  show Ae (Qk _ _ _ _ _ _) l=_
  rw [n1 l λj _ hj e=>hl (e▸mn j (by omega)),hH2 l oI (λtid Qe e=>hl (e▸(hvd tid Qe).1)),if_neg hl]
 have NG: ∀l,l∈dead->(∀j,j<s.Ni->l≠Bv ks j)->Ae H' l=none:= λl hl hj=>by
  show Ae (Qk _ _ _ _ _ _) l=_
  rw [n1 l λj _ h2=>hj j (by omega),hH2 l (λhp=>hpd l hp hl) (λtid Qe e=>hj s.outs.length (by have:=(OD tid Qe).2;omega) (e.trans (OD tid Qe).1.symm)),if_pos hl]
 have newAt: ∀l b',Ae H' l=some b'->(l∈dead\/Ae st.heap l=none)-> ∃j,j<s.Ni/\l=Bv ks j:=by
  intro l b' hb hd
  refine Classical.byContradiction λhn=>?_
  have lq: ∀j,j<s.Ni->l≠Bv ks j:= λj hj e=>hn ⟨j,hj,e⟩
  rcases Classical.em (l∈dead) with YM|YM
  ·rw [NG l YM lq] at hb;cases hb
  ·rcases hd with hd|hd
   ·exact YM hd
   ·rw [iY l YM (λhp=>by obtain ⟨_,_,_,_,_,_,_,h1,_⟩:=CE l hp;rw [hd] at h1;cases h1)] at hb
    have:Ae st1.heap l=none:=by
     by_cases hi: ∃t∈Gy 0 s.ins as,t.2.Pn=l
     ·obtain ⟨t,ht,e⟩:=hi
      by_cases Ho:t.1<Aj
      ·rw [<-e,q3 t ht Ho,e];exact hd
      ·obtain ⟨b0,_,h1,_⟩:=q4 t ht Ho
       rw [e,hd] at h1;cases h1
     ·rw [q2 l λt ht e=>hi ⟨t,ht,e.symm⟩];exact hd
    rw [this] at hb;cases hb
 have TH: ∀k,zR st (gw tks)=true-> ∀q,ρ (Fq k)=some q->q.Ay q.g->X.w0.heap.size<=q.g:=by
  intro k uY q hq hg
  rcases (HY.Qu _ q _ hq hg).2 with h1|⟨c,p,h1,h2,h3⟩
  ·exact Nat.le_trans h.1.below.size h1
  ·obtain ⟨t,t1,t2,t0,p',t3,t4,_⟩:=Ou c p _ h2 h3
   have hm:t.2.Pn∈gw tks:=Yf.2 ⟨t,LX▸t1,⟨by rw [t2];exact h1,t0⟩,rfl⟩
   have:=List.all_eq_true.1 uY _ hm
   split at this
   ·rename_i fr tr e te xs hl
    unfold St.at at hl
    have hb:=(h.1.heap t.2.Pn).Mc hl
    simp only [Au,Fk,t3] at hb
    rw [hb.1.2.1 _ t4]
    exact hb.1.2.2 this
   ·cases this
 have TF: ∀k q,ρ (Fq k)=some q->k<s.outs.length->q.Ay q.g:=by
  intro k q hq hk
  exact Ew.QJ s.outs 0 r Sa rP k (Nat.zero_le _) ((Nat.zero_add _).symm▸hk) q hq
 have hinv: ∀l,l∉dead->(∃t∈Gy 0 s.ins as,t.2.reads=false/\t.2.Pn=l)->gh X D1 w' π st.heap st1.heap l:=by
  rintro l hd ⟨t,ht,h0,rfl⟩
  by_cases Ho:t.1<Aj
  ·exact absurd (List.mem_append_left _ (List.mem_append_left _ (Yf.2 ⟨t,LX▸ht,⟨Ho,h0⟩,rfl⟩))) hd
  ·exact q4 t ht Ho
 have rO: ∀l,(¬ ∃t∈Gy 0 s.ins as,t.2.reads=false/\t.2.Pn=l)->Ae st1.heap l=Ae st.heap l:= λl hn=>by
  by_cases hi: ∃t∈Gy 0 s.ins as,t.2.Pn=l
  ·obtain ⟨t,ht,rfl⟩:=hi
   have hr:t.2.reads=true:=by
    cases h0:t.2.reads with
    |true=>rfl
    |false=>exact absurd ⟨t,ht,h0,rfl⟩ hn
   exact q3 t ht (UE t ht hr)
  ·exact q2 l λt ht e=>hi ⟨t,ht,e.symm⟩
 have QR: ∀l∈pl,∀p,s.ptr=some p->Ae H' l=some (.var p.1 (aT s.ins (cells.map (Av dead part)) (Uv (Bv ks) 0 s.outs r))):= λl hl p hp=>by
  obtain ⟨p',q,h1,h2,_,_,_,h3,_⟩:=CE l hl
  rw [hp] at h1;cases h1
  show Ae (Qk _ _ _ _ _ _) l=_
  rw [n1 l λj _ hj e=>TQ j (by omega) (e▸hl),YE l (λtid Qe e=>(hvd tid Qe).2 (e▸hl))]
  show Ae (kZ _ _ _ _).heap l=_
  rw [h2]
  refine EC ?_
  show Ae (Pu (st1.heap.map λp=>(p.1,p.2.map (Av dead part))) dead) l=_
  rw [Ij,Jj,if_neg (hpd l hl),rO l (λ⟨t,ht,_,e⟩=>NW l hl t ht e),h3]
  rfl
 have RH: ∀j,j<s.Ni->s.outs.length<=j-> ∃tid,s.rp=some tid/\j=s.outs.length:= λj h1 h2=>by
  cases xe:s.rp with
  |none=>unfold MSpec.Ni at h1;rw [xe] at h1;simp at h1;omega
  |some tid=>exact ⟨tid,rfl,by have:=(OD tid xe).2;omega⟩
 have hHv: ∀tid,s.rp=some tid->Ae H' (Mo d)=some (.var tid ((Uv (Bv ks) 0 s.outs r).drop s.So)):= λtid Qe=>by
  show Ae (Qk _ _ _ _ _ _) _=_
  rw [n1 _ λj _ hj e=>hkv j (by omega) tid Qe e.symm,Adt tid Qe]
 suffices ZB:Ai X π' (eV st st1 d s pl tks r) a w'/\Ao X w' π' (eV st st1 d s pl tks r).heap av0 v by
  obtain ⟨m1,m2⟩:=ZB
  have ka: ∀(kj:List (Nat×Nat)) (l:Nat),l∈Uq st.heap ks tks kj->gP st.heap l=true/\ ∃k j t,(k,j)∈kj/\t∈tks/\t=(Bt false k,Loc.row l)/\ks[j]?=some l:=by
   intro kj
   induction kj with
   |nil=>intro l hl;cases hl
   |cons p kj ih=>
    intro l hl
    obtain ⟨k,j⟩:=p
    have up:l∈Uq st.heap ks tks kj->gP st.heap l=true/\ ∃k' j' t,(k',j')∈(k,j)::kj/\t∈tks/\t=(Bt false k',Loc.row l)/\ks[j']?=some l:= λhl=>by
     obtain ⟨h1,k',j',t,h2,h3⟩:=ih l hl
     exact ⟨h1,k',j',t,List.mem_cons_of_mem _ h2,h3⟩
    simp only [Uq] at hl
    split at hl
    ·rename_i x0 l1 l2 h1 h2
     split at hl
     ·rename_i hc
      simp only [Bool.and_eq_true] at hc
      rcases List.mem_cons.1 hl with rfl|hl
      ·have:=List.find?_some h1
       have e1:=Nat.eq_of_beq_eq_true this
       have e2:=Nat.eq_of_beq_eq_true hc.1
       dsimp only at e1
       exact ⟨hc.2,k,j,_,List.mem_cons_self,List.mem_of_find?_eq_some h1,by rw [e1],by rw [h2,e2]⟩
      ·exact up hl
     ·exact up hl
    ·exact up hl
  obtain ⟨r1,r2⟩:=ye h m1 (ls:=Uq st.heap ks tks s.keeps) (n:=s.Ct x) (λl hl=>by
   obtain ⟨_,k,j,t,h1,h2,h3,h4⟩:=ka s.keeps l hl
   have hj:j<ks.length:=(List.getElem?_eq_some_iff.1 h4).1
   have oF:Bv ks j=l:=by
    rw [Lc hj]
    rw [List.getElem?_eq_getElem hj] at h4
    exact Option.some.inj h4
   have oH:=pW (k,j) h1
   rw [show π' l=ρ (Fq j) by rw [<-oF];exact oG j (by omega),OJ]
   have hc:πc (Bt false k)=(π l).map full:=YI k l (by rw [<-h3,<-LX];exact h2)
   dsimp only at oH
   rw [hc] at oH
   cases hp:π l<;>cases hq:tV (Fq j)<;>(rw [hp,hq] at oH;exact oH)) (λl hl=>(ka s.keeps l hl).1) Qd
  exact ⟨π',r1,r2 av0 v m2⟩
 refine ⟨?_,?_⟩
 ·have hx:=Ai.SP (π':=π') (H':=H') (dead:=dead) (part:=part) (inv:= λl=>(∃t∈Gy 0 s.ins as,t.2.reads=false/\t.2.Pn=l)\/l∈pl) (gv:= λb=>Oi πc b\/s.gv g b) h (λb hb=>by
    rcases hb with hb|hb
    ·obtain ⟨t,h1,h0,q,h2,h3,_⟩:=Xz b hb
     exact ⟨_,q, .inl ⟨t,h1,h0,rfl⟩,h2,h3⟩
    ·obtain ⟨l,hl,q,h1,h2,_⟩:=BX b hb
     exact ⟨l,q, .inr hl,h1,h2⟩) NI (λl b0 hd h0=>⟨IK l hd,?_⟩) (λl b' hb hd=>?_) (λl hl=>?_) (λm q hd hp hm hxa=>?_)
  ·have:({tmps:=(kZ s.ins (Uv (Bv ks) 0 s.outs r) pl (st1.Vs dead part)).tmps,heap:=H'} :St)= {tmps:=st.tmps.map (·.map (Av dead part)),heap:=H'} :=by
    rw [jx]
    show ({tmps:=st1.tmps.map (·.map (Av dead part)),heap:=H'} :St)=_
    rw [q1]
   show Ai X π' ({tmps:=(kZ s.ins (Uv (Bv ks) 0 s.outs r) pl (st1.Vs dead part)).tmps,heap:=H'} :St) a w'
   rw [this]
   exact hx
  ·by_cases NP:l∈pl
   ·obtain ⟨p,q,h1,h2,h3,h4,h5,h6,h7⟩:=CE l NP
    rw [h0] at h6;cases h6
    have og:=QR l NP p h1
    refine .inr ⟨_,og,⟨rfl,by rw [js]⟩,λm=>?_⟩
    unfold eQ at pR
    rw [h1] at pR
    obtain ⟨cs,k1,k2,k3⟩:=pR
    rw [<-h7] at k3
    refine ⟨q,h3,h4,cs.toArray,by rw [<-h5];exact k1,?_⟩
    refine Ia.to (dy (H:=st.heap) IK (λl1 b1 sz n hd1 HO NY=>?_) s.ins 0 cells iE x us o st st1 (Uv (Bv ks) 0 s.outs r) Sa cs (has▸hT) YW (has▸UB) k3 (n3 π' YA (λj _ hj=>oG j (by omega)))) (by simpa using k2)
    have hnp:l1∉pl:= λhp=>by
     obtain ⟨_,_,_,_,_,_,_,h8,_⟩:=CE l1 hp
     rw [HO] at h8;cases h8;cases NY
    by_cases hi: ∃t∈Gy 0 s.ins as,t.2.reads=false/\t.2.Pn=l1
    ·obtain ⟨b1,b',e1,e2,e3,e4,e5,e6⟩:=hinv l1 hd1 hi
     rw [HO] at e1;cases e1
     exact ⟨b',by rw [iY l1 hd1 hnp,e2];simp [e4],by rw [e5.row];exact NY⟩
    ·exact ⟨_,by rw [iY l1 hd1 hnp,rO l1 hi,HO];rfl,by rw [OB.sJ];exact NY⟩
   by_cases hi: ∃t∈Gy 0 s.ins as,t.2.reads=false/\t.2.Pn=l
   ·obtain ⟨b1,b',e1,e2,e3,e4,e5,e6⟩:=hinv l hd hi
    rw [h0] at e1;cases e1
    exact .inr ⟨b',by rw [iY l hd NP,e2];simp [e4],by rw [e3];exact e5,λ_=>e6 π' H' YA⟩
   ·exact .inl ⟨λhh=>hh.elim hi NP,by rw [iY l hd NP,rO l hi,h0];rfl⟩
  ·obtain ⟨j,hj,rfl⟩:=newAt l b' hb hd
   refine ⟨Af1 j hj,?_,λq b hq=>?_⟩
   ·rw [oG j hj]
    rcases Nat.lt_or_ge j s.outs.length with WX|WX
    ·rcases n2 j (Nat.zero_le _) (by omega) with ⟨e1,_⟩|⟨b2,e1,e2⟩
     ·rw [show Ae H' (Bv ks j)=none from e1] at hb;cases hb
     ·rw [show Ae H' (Bv ks j)=some b2 from e1] at hb;cases hb
      exact e2 X π' H' (λhf q hq=>TH j hf q hq (TF j q hq WX)) YA
    ·obtain ⟨tid,Qe,hj0⟩:=RH j hj WX
     subst hj0
     rw [(OD tid Qe).1,hHv tid Qe] at hb;cases hb
     unfold lG at Zp
     rw [Qe] at Zp
     obtain ⟨q,y1,y2,y3,y4,_⟩:=Zp
     rw [OJ,y1]
     exact ⟨full q,rfl,y2,_,y3,Ia.to (Ia.take s.So (n3 π' YA (λj _ hj=>oG j (by omega)))).2 (by simpa using y4)⟩
   ·rw [oG j hj] at hq
    have Ns:=QW _ q hq
    refine ⟨λhf=>by rw [Ns];exact hf,λhf=>?_⟩
    rw [Ns] at hf
    obtain ⟨h1,h2⟩:=HY.Qu _ q b hq hf
    refine ⟨h1,h2.imp id ?_,λl2 r2 YO CB TD=>?_⟩
    ·rintro ⟨c,p,h3,h4,h5⟩
     obtain ⟨t,t1,t2,t0,p',t3,t4,_⟩:=Ou c p b h4 h5
     exact ⟨t.2.Pn,p',List.mem_append_left _ (List.mem_append_left _ (Yf.2 ⟨t,LX▸t1,⟨by rw [t2];exact h3,t0⟩,rfl⟩)),t3,t4⟩
    ·by_cases hk: ∃j,j<s.Ni/\l2=Bv ks j
     ·obtain ⟨j2,hj2,rfl⟩:=hk
      rw [oG j2 hj2] at CB
      rw [QW _ r2 CB] at TD
      have:=HY.inj _ _ r2 q b CB hq TD hf
      unfold Fq at this
      have:j2=j:=by omega
      rw [this]
     ·have e0:π' l2=if l2∈dead then none else π l2:=rJ l2 hk
      rw [e0] at CB
      split at CB
      ·cases CB
      ·rename_i NT
       rcases YO with YO|YO
       ·exact absurd YO NT
       ·rw [(h.1.heap l2).emp YO] at CB;cases CB
  ·by_cases hk: ∃j,j<s.Ni/\l=Bv ks j
   ·obtain ⟨j,hj,rfl⟩:=hk
    rw [oG j hj]
    rcases Nat.lt_or_ge j s.outs.length with WX|WX
    ·rcases n2 j (Nat.zero_le _) (by omega) with ⟨_,e1⟩|⟨b2,e1,_⟩
     ·exact e1
     ·rw [show Ae H' (Bv ks j)=some b2 from e1] at hl;cases hl
    ·obtain ⟨tid,Qe,hj0⟩:=RH j hj WX
     subst hj0
     rw [(OD tid Qe).1,hHv tid Qe] at hl;cases hl
   ·have e0:π' l=if l∈dead then none else π l:=rJ l hk
    rw [e0]
    split
    ·rfl
    ·rename_i hd
     by_cases NP:l∈pl
     ·obtain ⟨p,_,h1,_⟩:=CE l NP
      rw [QR l NP p h1] at hl;cases hl
     rw [iY l hd NP] at hl
     by_cases hi: ∃t∈Gy 0 s.ins as,t.2.reads=false/\t.2.Pn=l
     ·obtain ⟨_,b',_,e2,_⟩:=hinv l hd hi
      rw [e2] at hl;cases hl
     ·rw [rO l hi] at hl
      cases h0:Ae st.heap l with
      |none=>exact (h.1.heap l).emp h0
      |some b=>rw [h0] at hl;cases hl
  ·refine NI.block _ (h.1.lt hm).1 λxV=>?_
   rcases xV with ho|hg
   rotate_left
   ·obtain ⟨l,hl,q',h1,h2,_⟩:=BX _ hg
    have rK:=h.1.apart hm h1 (h.1.Ay hm) h2
    obtain ⟨_,_,_,_,_,_,_,h3,_⟩:=CE l hl
    obtain ⟨b,hxa,hxb⟩:=hxa
    rw [rK,h3] at hxa;cases hxa
    exact hxb rfl
   obtain ⟨t,t1,t0,p,t3,t4,t5⟩:=Xz _ ho
   have rK:=h.1.apart hm t3 (h.1.Ay hm) t4
   have XF:p=q:=by rw [<-rK,hm] at t3;exact (Option.some.inj t3).symm
   cases RR:t.2 with
   |row l=>
    refine hp ?_
    show m∈whole tks
    unfold whole
    exact List.mem_flatMap.2 ⟨t,LX▸t1,by rw [RR,rK,RR];simp [Loc.Pn]⟩
   |sub l i j=>exact t5 l i j RR (by rw [XF])
   |view l=>rw [RR] at t0;cases t0
 ·have Afn:=n3 π' YA (λj _ hj=>oG j (by omega))
  cases xe:s.rp with
  |some tid=>
   unfold lG at Zp
   rw [xe] at Zp
   obtain ⟨q,y1,y2,y3,y4,rfl⟩:=Zp
   unfold PB at c9
   rw [xe] at c9
   simp only [Option.some.injEq] at c9;subst c9
   refine ⟨full q,tid,_,hHv tid xe,?_,rfl⟩
   rw [<-(OD tid xe).1,oG _ (by have:=(OD tid xe).2;omega),OJ,y1]
   rfl
  |none=>
  unfold lG at Zp
  rw [xe] at Zp
  obtain ⟨Zp,Afu⟩:=Zp
  unfold PB at c9
  rw [xe] at c9
  simp only at c9
  obtain ⟨g1,g2,g3,g4⟩:=Xv s.Gd _ (Sa.drop s.So) Afu (Ia.take s.So Afn).2
  unfold Ab6 at c9
  unfold KF at Zp
  split at c9
  ·rename_i hm
   rw [if_pos hm] at Zp
   simp only [Option.some.injEq] at c9;subst c9
   subst Zp
   exact ⟨_,rfl,g3.symm,g4⟩
  ·rename_i hm
   rw [if_neg hm] at Zp
   split at c9
   ·rename_i av1 hga
    simp only [Option.some.injEq] at c9;subst c9
    rcases Zp with Zp|Zp
    ·exact g2 0 _ v (by rw [hga];rfl) (by rw [Zp];rfl)
    ·rw [hga,Zp] at g1;cases g1
   ·simp only [Option.some.injEq] at c9;subst c9;trivial
   ·cases c9
end
end Go.Proofs.Ytjbdmibbbpdnnaa
