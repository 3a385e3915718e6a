/-
  Part 17 of the proof that the statement FnExactStageWord holds.
-/
import Derived.Test.YtjbdmibbbpdnnaaCStageWord15
namespace Go.Proofs.Ytjbdmibbbpdnnaa
open Go.RowKit
section
variable {P:Program} {T:Tab} {X:Ctx} {w w':World} {π π':Pi} {H H':List (Nat×OB)}
theorem Tr (k:Nat): ¬Bo true k<Aj:=by unfold Bo Aj;simp
theorem ak {k:Nat} (h:k<100000):Bo false k<Aj:=by unfold Bo Aj;simp;omega
def fR (X:Ctx) (D:Nat->Prop) (w':World) (π:Pi) (H Hn:List (Nat×OB)) (l:Nat):Prop:=
 ∃b0 b',Ae H l=some b0/\Ae Hn l=some b'/\(∀f,OB.map f b0=b0)/\(∀f,OB.map f b'=b')/\b0.Zw b'/\ ∀π' H',(∀b,Oi π' b\/X.Sc b->D b)->At X w' π' H' (π l) b'
theorem KW {io:Bool} {k:Nat} {τ:Ty} {a:AC} {t:Nat×Loc} (h:t∈Kh io k (.Fc τ) a):t.1=Bo false k:=by
 cases a<;>simp [Kh,views] at h<;>first|(obtain ⟨_,⟨_,_⟩,rfl⟩:=h;rfl)|(rw [h])
theorem EW {io:Bool} {k:Nat} {e:Ty} {te:TypeId} {a:AC} {t:Nat×Loc} (h:t∈Kh io k (.part e te) a):t.1=Bo io k:=by cases a<;>simp [Kh] at h<;>rw [h]
theorem KX {io:Bool} {k:Nat} {e:Ty} {te:TypeId} {a:AC} {t:Nat×Loc} (h:t∈Kh io k (.row e te) a):t.1=Bo io k:=by cases a<;>simp [Kh] at h<;>rw [h]
theorem EY {io:Bool} {k:Nat} {e:Ty} {te:TypeId} {a:AC} {t:Nat×Loc} (h:t∈Kh io k (.Du e te) a):t.1=Bo io k:=by cases a<;>simp [Kh] at h<;>rw [h]
theorem Zj {D:Nat->Prop} {π':Pi} {fr:Bool} {e:Ty} {es:List Value} {y:e.den} (hD: ∀b,Oi π' b\/X.Sc b->D b) (h:Cells w' D e es y):Cells w' (Bc X.w0.heap.size X.Sc π' (fr&&e.flat)) e es y:=by
 cases hf:e.flat with
 |true=>exact Cells.flat e es y hf h
 |false=>exact Cells.Cs (Nat.le_refl _) (λ_ _ _=>rfl) (λb _ hb=>by
   rcases hb with hb|hb|⟨hb,_⟩
   ·exact hD b (.inl hb)
   ·exact hD b (.inr hb)
   ·simp at hb) e es y h
theorem EZ {D P:Nat->Prop} {g o:Nat} {cur:Array Value} {tr:Bool} {e:Ty} {xs:List e.den}
  (h: ∀(i:Nat) (x:e.den),xs[i]?=some x-> ∃es:List Value,es.length=e.size/\(∀j u,es[j]?=some u->cur[(o+i)*e.size+j]?=some u)/\Cells w' D e es x) (ht:(tr&&e.flat)=true):Pv w' P g o cur e xs:=by
 simp only [Bool.and_eq_true] at ht
 exact gq ht.2 h
theorem DU {D:Nat->Prop} (h:Ht X w π H) {k:Nat} {c:CK} {ys:c.den} {a:AC} {u:Value} {r:Option Real} {x:c.den} {cur st1:St} (hs:w.heap.size<=w'.heap.size)
  (hU: ∀l i j q b,a= .sub l i j->π l=some q->q.Ax b->b<w.heap.size->(∀r',r=some r'-> ¬r'.Ax b)->w'.heap[b]?=w.heap[b]?)
  {V:List Nat} (ht:Za w (Jc X π V) r u c x/\Mr w π H true a u r c x) (hr:aI w' D r c ys) (he:Vm cur c ys a=some st1) (bl: ∀t∈Kh true k c a,Ae cur.heap t.2.Pq=Ae H t.2.Pq):
  st1.tmps=cur.tmps/\(∀m,(∀t∈Kh true k c a,m≠t.2.Pq)->Ae st1.heap m=Ae cur.heap m)/\ ∀t∈Kh true k c a,fR X D w' π H st1.heap t.2.Pq:=by
 obtain ⟨hc,ht⟩:=ht
 cases c with
 |Fc τ=>cases a<;>simp [Vm] at he;subst he;exact ⟨rfl,λ_ _=>rfl,λt ht=>by simp [Kh] at ht⟩
 |row e te=>
  simp only [Mr] at ht
  cases a<;>simp only [] at ht<;>first|(exact ht.elim)|skip
  ·simp only [Vm,Option.some.injEq] at he;subst he
   exact ⟨rfl,λ_ _=>rfl,λt ht=>by simp [Kh] at ht⟩
  ·rename_i l off len
   obtain ⟨rfl,rfl,rfl,fr,tr,hl⟩:=ht
   have Nt:Ae cur.heap l=some (.arr fr tr e te x):=(bl _ (List.mem_singleton.2 rfl)).trans hl
   simp only [Vm,St.at,Nt] at he
   split at he
   ·rename_i Fa
    obtain ⟨_,h1,_⟩:=Fa
    simp only [Option.some.injEq] at he;subst he
    refine ⟨rfl,λm hm=>Cj _ _ _ _ (hm _ (List.mem_singleton.2 rfl)),λt Oj=>?_⟩
    have Oj:=List.mem_singleton.1 Oj
    subst Oj
    refine ⟨_,_,hl,Cq _ _ _ _ Nt,λ_=>rfl,λ_=>rfl,⟨rfl,h1.symm⟩,λπ' H' hD=>?_⟩
    have hb:=(h.heap l).Ma hl
    change At X w' π' H' (π l) _
    simp only [At,Fe] at hb⊢
    cases hp:π l with
    |none=>rw [hp] at hr;exact hr
    |some q=>
     rw [hp] at hr hb
     obtain ⟨k1,cu,ti,k2,k3,k4,k5,k6⟩:=hr
     exact ⟨⟨k1.1,k1.2,λhh=>hb.1.2.2 (by simp only [Bool.and_eq_true] at hh;exact hh.1)⟩,cu,ti,k2,k3,k4,k5,λi y hy=>by
      obtain ⟨es,g1,g2,g3⟩:=k6 i y hy
      exact ⟨es,g1,g2,Zj hD g3⟩,λht=>EZ k6 ht⟩
   ·cases he
  ·rename_i l i j
   obtain ⟨⟨_,hf⟩,tid,xs,hl,hx,q,hq,Ot,hre⟩:=ht
   have Nt:Ae cur.heap l=some (.Df (.slice e) tid xs):=(bl _ (List.mem_singleton.2 rfl)).trans hl
   simp only [Vm,St.at,Nt,hx] at he
   rw [dif_pos trivial] at he
   ·split at he
    ·rename_i h1
     simp only [Option.some.injEq] at he;subst he
     refine ⟨rfl,λm hm=>Cj _ _ _ _ (hm _ (List.mem_singleton.2 rfl)),λt Oj=>?_⟩
     have Oj:=List.mem_singleton.1 Oj
     subst Oj
     refine ⟨_,_,hl,Cq _ _ _ _ Nt,λ_=>rfl,λ_=>rfl,⟨rfl,by simp⟩,λπ' H' _=>?_⟩
     show Im w' (π l) (.slice e) tid _
     rw [hq]
     refine hre w' ys hs (λb Hl hb hn=>hU l i j q b rfl hq hb Hl hn) ?_
     have hv:=hc.1
     rw [<-show List.length ys=List.length x from h1] at hv
     exact Md.zj hr hf hv
    ·cases he
 |Du e te=>
  simp only [Mr] at ht
  cases a<;>simp only [] at ht<;>first|(exact ht.elim)|skip
  ·simp only [Vm,Option.some.injEq] at he;subst he
   exact ⟨rfl,λ_ _=>rfl,λt ht=>by simp [Kh] at ht⟩
  ·rename_i l off len
   obtain ⟨rfl,rfl,rfl,hl⟩:=ht
   have Nt:Ae cur.heap l=some (.Df e te x):=(bl _ (List.mem_singleton.2 rfl)).trans hl
   simp only [Vm,St.at,Nt] at he
   split at he
   ·rename_i Fa
    obtain ⟨_,h1,_⟩:=Fa
    simp only [Option.some.injEq] at he;subst he
    refine ⟨rfl,λm hm=>Cj _ _ _ _ (hm _ (List.mem_singleton.2 rfl)),λt Oj=>?_⟩
    have Oj:=List.mem_singleton.1 Oj
    subst Oj
    refine ⟨_,_,hl,Cq _ _ _ _ Nt,λ_=>rfl,λ_=>rfl,⟨rfl,h1.symm⟩,λπ' H' _=>?_⟩
    show Im w' (π l) e te _
    cases hp:π l with
    |none=>rw [hp] at hr;exact hr
    |some q=>rw [hp] at hr;exact hr
   ·cases he
  ·rename_i l i j
   obtain ⟨_,tid,xs,hl,hx,q,hq,Ot,hre⟩:=ht
   have Nt:Ae cur.heap l=some (.Df (.slice e) tid xs):=(bl _ (List.mem_singleton.2 rfl)).trans hl
   simp only [Vm,St.at,Nt,hx] at he
   rw [dif_pos trivial] at he
   ·split at he
    ·rename_i h1
     simp only [Option.some.injEq] at he;subst he
     refine ⟨rfl,λm hm=>Cj _ _ _ _ (hm _ (List.mem_singleton.2 rfl)),λt Oj=>?_⟩
     have Oj:=List.mem_singleton.1 Oj
     subst Oj
     refine ⟨_,_,hl,Cq _ _ _ _ Nt,λ_=>rfl,λ_=>rfl,⟨rfl,by simp⟩,λπ' H' _=>?_⟩
     show Im w' (π l) (.slice e) tid _
     rw [hq]
     refine hre w' ys hs (λb Hl hb hn=>hU l i j q b rfl hq hb Hl hn) ?_
     have hv:=hc.1
     rw [<-show List.length ys=List.length x from h1] at hv
     exact Im.zj (te:=te) hr hv
    ·cases he
 |part e te=>cases a<;>simp [Vm] at he<;>first|(simp only [Mr] at ht;exact ht.2.elim)
 |Ak e te kp=>exact absurd ht.1 (by simp)
theorem DV {D:Nat->Prop} (h:Ht X w π H) {k:Nat} {e:Ty} {te:TypeId} {ys:List e.den} {a:AC} {u:Value} {r:Option Real} {x:(CK.part e te).den} {cur st1:St}
  {V:List Nat} (ht:Za w (Jc X π V) r u (.part e te) x/\Mr w π H true a u r (.part e te) x) (hr:aI w' D r (.row e te) ys) (he:yJ cur e ys a=some st1) (bl: ∀t∈Kh true k (.part e te) a,Ae cur.heap t.2.Pq=Ae H t.2.Pq):
  st1.tmps=cur.tmps/\(∀m,(∀t∈Kh true k (.part e te) a,m≠t.2.Pq)->Ae st1.heap m=Ae cur.heap m)/\ ∀t∈Kh true k (.part e te) a,fR X D w' π H st1.heap t.2.Pq:=by
 obtain ⟨hc,hf,ht⟩:=ht
 cases a<;>simp only [] at ht<;>first|(exact ht.elim)|skip
 rename_i l off len
 obtain ⟨rfl,_,fr,tr,hl⟩:=ht
 have Nt:Ae cur.heap l=some (.arr fr tr e te x.1):=(bl _ (List.mem_singleton.2 rfl)).trans hl
 simp only [yJ,St.at,Nt] at he
 split at he
 ·rename_i Fa
  obtain ⟨_,h1⟩:=Fa
  simp only [Option.some.injEq] at he;subst he
  refine ⟨rfl,λm hm=>Cj _ _ _ _ (hm _ (List.mem_singleton.2 rfl)),λt Oj=>?_⟩
  have Oj:=List.mem_singleton.1 Oj
  subst Oj
  refine ⟨_,_,hl,Cq _ _ _ _ Nt,λ_=>rfl,λ_=>rfl,⟨rfl,h1.symm⟩,λπ' H' _=>?_⟩
  have hb:=(h.heap l).Ma hl
  change At X w' π' H' (π l) _
  simp only [At,Fe] at hb⊢
  cases hp:π l with
  |none=>rw [hp] at hr;exact hr
  |some q=>
   rw [hp] at hr hb
   obtain ⟨k1,cu,ti,k2,k3,k4,k5,k6⟩:=hr
   exact ⟨⟨k1.1,k1.2,hb.1.2.2⟩,cu,ti,k2,k3,k4,k5,λi y hy=>by
    obtain ⟨es,g1,g2,g3⟩:=k6 i y hy
    exact ⟨es,g1,g2,Cells.flat e es y hf g3⟩,λ_=>gq hf k6⟩
 ·cases he
def lh (X:Ctx) (D:Nat->Prop) (w':World) (π:Pi) (H:List (Nat×OB)) (tk:List (Nat×Loc)) (cur st1:St):Prop:=
 st1.tmps=cur.tmps/\(∀m,(∀t∈tk,m≠t.2.Pq)->Ae st1.heap m=Ae cur.heap m)/\(∀t∈tk,t.1<Aj->Ae st1.heap t.2.Pq=Ae cur.heap t.2.Pq)/\(∀t∈tk,¬t.1<Aj->fR X D w' π H st1.heap t.2.Pq)
theorem ng {D:Nat->Prop} (h:Ht X w π H) {V:List Nat} {πc:Pi} {tks:List (Nat×Loc)} (hs:w.heap.size<=w'.heap.size)
  (hU: ∀t∈tks,∀q b,π t.2.Pq=some q->q.Ax b->b<w.heap.size->(∀r',πc t.1=some r'-> ¬r'.Ax b)->w'.heap[b]?=w.heap[b]?):
  ∀(cs:List (Bool×CK)) (k:Nat) (x:Ins.den cs) (as:List AC) (us:List Value) (o:IOs.den cs) (cur st1:St),k+cs.length<100000->(∀t∈Gv k cs as,t∈tks)->((Gv k cs as).map λt=>t.2.Pq).Nodup->
   kO X w π V H πc k cs x as us->Hc w' D πc k cs o->Ec cs o as cur=some st1->(∀t∈Gv k cs as,Ae cur.heap t.2.Pq=Ae H t.2.Pq)->
   lh X D w' π H (Gv k cs as) cur st1
 | [],k,x,as,us,o,cur,st1,_,_,_,_,_,he,_=>by
  simp only [Ec,Option.some.injEq] at he;subst he
  have e0:Gv k [] as= []:=by cases as<;>rfl
  exact ⟨rfl,λ_ _=>rfl,by rw [e0];simp,by rw [e0];simp⟩
 |p::r,k,x,[],us,o,cur,st1,_,_,_,ht,_,_,_=>ht.elim
 |p::r,k,x,a::as,[],o,cur,st1,_,_,_,ht,_,_,_=>ht.elim
 |(io,c)::r,k,x,a::as,u::us,o,cur,st1,hk,Qi,ow,ht,ho,he,bl=>by
  simp only [List.length_cons] at hk
  simp only [Gv] at Qi ow bl⊢
  rw [List.map_append] at ow
  obtain ⟨n1,n2,n3⟩:=List.nodup_append.1 ow
  have apart: ∀t∈Kh io k c a,∀t'∈Gv (k+1) r as,t'.2.Pq≠t.2.Pq:= λt h1 t' h2 e=>n3 _ (List.mem_map.2 ⟨t,h1,rfl⟩) _ (List.mem_map.2 ⟨t',h2,rfl⟩) e.symm
  have rest: ∀(Td:St) (o':IOs.den r),Hc w' D πc (k+1) r o'->Ec r o' as Td=some st1->Td.tmps=cur.tmps->(∀m,(∀t∈Kh io k c a,m≠t.2.Pq)->Ae Td.heap m=Ae cur.heap m)->
    (∀t∈Kh io k c a,t.1<Aj->Ae Td.heap t.2.Pq=Ae cur.heap t.2.Pq)->(∀t∈Kh io k c a,¬t.1<Aj->fR X D w' π H Td.heap t.2.Pq)->
    lh X D w' π H (Kh io k c a++Gv (k+1) r as) cur st1:=by
   intro Td o' h1 h2 h3 h4 h5 h6
   obtain ⟨g1,g2,g3,g4⟩:=ng h hs hU r (k+1) x.2 as us o' Td st1 (by omega) (λt ht=>Qi t (List.mem_append_right _ ht)) n2 ht.2 h1 h2 (λt Oj=>by
    rw [h4 _ λt0 NU=>apart t0 NU t Oj];exact bl t (List.mem_append_right _ Oj))
   have hd: ∀t∈Kh io k c a,Ae st1.heap t.2.Pq=Ae Td.heap t.2.Pq:= λt Oj=>g2 _ λt' lx=>(apart t Oj t' lx).symm
   refine ⟨g1.trans h3,λm hm=>?_,λt Oj Hl=>?_,λt Oj Hl=>?_⟩
   ·rw [g2 m λt ht=>hm t (List.mem_append_right _ ht),h4 m λt ht=>hm t (List.mem_append_left _ ht)]
   ·rcases List.mem_append.1 Oj with Oj|Oj
    ·rw [hd t Oj,h5 t Oj Hl]
    ·rw [g3 t Oj Hl,h4 _ λt0 NU=>apart t0 NU t Oj]
   ·rcases List.mem_append.1 Oj with Oj|Oj
    ·obtain ⟨b0,b',q1,q2,q3⟩:=h6 t Oj Hl
     exact ⟨b0,b',q1,(hd t Oj).trans q2,q3⟩
    ·exact g4 t Oj Hl
  have same: ∀o',Hc w' D πc (k+1) r o'->Ec r o' as cur=some st1->(∀t∈Kh io k c a,t.1<Aj)->lh X D w' π H (Kh io k c a++Gv (k+1) r as) cur st1:= λo' h1 h2 h3=>rest cur o' h1 h2 rfl (λ_ _=>rfl) (λ_ _ _=>rfl) (λt h4 h5=>absurd (h3 t h4) h5)
  cases io with
  |false=>
   have h3: ∀t∈Kh false k c a,t.1<Aj:= λt h4=>by rcases wO h4 with ⟨h5,_⟩|⟨h5,_⟩<;>(rw [h5];exact ak (by omega))
   cases c with
   |Fc τ=>exact same o ho (by simpa only [Ec] using he) h3
   |row e te=>exact same o ho (by simpa only [Ec] using he) h3
   |Du e te=>exact same o ho (by simpa only [Ec] using he) h3
   |part e te=>exact same o ho (by simpa only [Ec] using he) h3
   |Ak e te kp=>exact same o ho (by simpa only [Ec] using he) h3
  |true=>
   have row: ∀(ys:c.den) (o':IOs.den r),(∀t∈Kh true k c a,t.1=Bo true k)->aI w' D (πc (Bo true k)) c ys->Hc w' D πc (k+1) r o'->(∃Td,Vm cur c ys a=some Td/\Ec r o' as Td=some st1)->lh X D w' π H (Kh true k c a++Gv (k+1) r as) cur st1:=by
    intro ys o' h0 h1 h2 h3
    obtain ⟨Td,hp,h3⟩:=h3
    ·obtain ⟨q1,q2,q3⟩:=DU (k:=k) h hs (λl i j q b ea hq hb Hl hn=>by
      cases c with
      |Fc τ=>exact absurd (ht.1.2:πc _=none) (by subst ea;simp [Vm] at hp)
      |row e te=>subst ea;exact hU (Bo true k, .sub l i j) (Qi _ (List.mem_append_left _ (List.mem_singleton.2 rfl))) q b hq hb Hl hn
      |Du e te=>subst ea;exact hU (Bo true k, .sub l i j) (Qi _ (List.mem_append_left _ (List.mem_singleton.2 rfl))) q b hq hb Hl hn
      |Ak e te kp=>exact absurd ht.1.2.1 (by simp)
      |part e te=>exact absurd ht.1.2.2 (by subst ea;exact λh=>h)) ht.1 h1 hp (λt Oj=>bl t (List.mem_append_left _ Oj))
     exact rest Td o' h2 h3 q1 q2 (λt h4 h5=>absurd h5 (by rw [h0 t h4];exact Tr k)) (λt h4 _=>q3 t h4)
   cases c with
   |Fc τ=>exact same o ho (by simpa only [Ec] using he) (λt h4=>by rw [KW h4];exact ak (by omega))
   |Ak e te kp=>exact absurd ht.1.2.1 (by simp)
   |row e te=>
    simp only [Ec] at he
    split at he
    ·rename_i Td hp;exact row o.1 o.2 (λt ht=>KX ht) ho.1 ho.2 ⟨Td,hp,he⟩
    ·cases he
   |Du e te=>
    simp only [Ec] at he
    split at he
    ·rename_i Td hp;exact row o.1 o.2 (λt ht=>EY ht) ho.1 ho.2 ⟨Td,hp,he⟩
    ·cases he
   |part e te=>
    simp only [Ec] at he
    split at he
    ·rename_i Td hp
     obtain ⟨q1,q2,q3⟩:=DV (k:=k) h ht.1 ho.1 hp (λt Oj=>bl t (List.mem_append_left _ Oj))
     exact rest Td o.2 ho.2 he q1 q2 (λt h4 h5=>absurd h5 (by rw [EW h4];exact Tr k)) (λt h4 _=>q3 t h4)
    ·cases he
theorem yp {fr:Bool} {c:CK} {x:c.den} {u:Value} {r:Option Real} {D:Nat->Prop} (h:Za w' D r u c x):
  (oG fr c x=none/\r=none)\/ ∃b',oG fr c x=some b'/\ ∀(X:Ctx) π' H',(fr=true-> ∀q,r=some q->X.w0.heap.size<=q.g)->(∀b,Oi π' b\/X.Sc b->D b)->At X w' π' H' r b':=by
 cases c with
 |Fc τ=>exact .inl ⟨rfl,h.1⟩
 |row e te=>
  refine .inr ⟨_,rfl,λX π' H' uW hD=>?_⟩
  obtain ⟨_,h⟩:=h
  simp only [aI] at h
  simp only [At,Fe]
  cases r with
  |none=>exact h
  |some q=>
   obtain ⟨k1,cu,ti,k2,k3,k4,k5,k6⟩:=h
   exact ⟨⟨k1.1,k1.2,λh1=>uW (by simp only [Bool.and_eq_true] at h1;exact h1.1) q rfl⟩,cu,ti,k2,k3,k4,k5,λi y hy=>by
    obtain ⟨es,g1,g2,g3⟩:=k6 i y hy
    exact ⟨es,g1,g2,Zj hD g3⟩,λh=>by cases h⟩
 |Du e te=>exact .inr ⟨_,rfl,λX π' H' _ _=>h.2⟩
 |Ak e te kp=>exact .inr ⟨_,rfl,λX π' H' _ hD=>⟨Sq.Es h.2 λb hb=>hD b (hb.imp id λh=>h.elim id λh=>by cases h.1),trivial⟩⟩
 |part e te=>
  refine .inr ⟨_,rfl,λX π' H' uW hD=>?_⟩
  obtain ⟨_,hf,h⟩:=h
  simp only [At,Fe]
  cases r with
  |none=>exact h
  |some q=>
   obtain ⟨k1,cu,ti,k2,k3,k4,k5,k6⟩:=h
   exact ⟨⟨k1.1,k1.2,λh1=>uW (by simp only [Bool.and_eq_true] at h1;exact h1.1) q rfl⟩,cu,ti,k2,k3,k4,k5,λi y hy=>by
    obtain ⟨es,g1,g2,g3⟩:=k6 i y hy
    exact ⟨es,g1,g2,Zj hD g3⟩,λh=>by cases h⟩
theorem ky {D:Nat->Prop} {key:Nat->Nat} (xQ: ∀i j,key i=key j->i=j) {fr:Bool} {ρ:Pi} : ∀(cs:List CK) (k:Nat) (x:CKs.den cs) (us:List Value) (H:List (Nat×OB)),Et w' D ρ k cs x us->
  (∀j,k<=j->j<k+cs.length->Ae H (key j)=none)->
  (∀l,(∀j,k<=j->j<k+cs.length->l≠key j)->Ae (Qp fr key k cs x H) l=Ae H l)/\
  (∀j,k<=j->j<k+cs.length->(Ae (Qp fr key k cs x H) (key j)=none/\ρ (Fh j)=none)\/
   ∃b',Ae (Qp fr key k cs x H) (key j)=some b'/\ ∀(X:Ctx) π' H',(fr=true-> ∀q,ρ (Fh j)=some q->X.w0.heap.size<=q.g)->(∀b,Oi π' b\/X.Sc b->D b)->At X w' π' H' (ρ (Fh j)) b')/\
  (∀π',(∀b,Oi π' b\/X.Sc b->D b)->(∀j,k<=j->j<k+cs.length->π' (key j)=ρ (Fh j))->Hv X w' π' (Qp fr key k cs x H) (Uz key k cs x) us)
 | [],k,x,[],H,_,_=>⟨λ_ _=>rfl,λj h1 h2=>by simp at h2;omega,λ_ _ _=>trivial⟩
 | [],_,_,_::_,_,h,_=>h.elim
 |_::_,_,_,[],_,h,_=>h.elim
 |c::r,k,x,u::us,H,h,hn=>by
  simp only [List.length_cons] at hn⊢
  simp only [Qp,Uz]
  have oo:=hn k (Nat.le_refl _) (by omega)
  have WI: ∀l,l≠key k->Ae (vf H (key k) (oG fr c x.1)) l=Ae H l:=by
   intro l hl
   cases oG fr c x.1 with
   |some b=>exact Jo _ _ _ _ hl
   |none=>rfl
  have XY:Ae (vf H (key k) (oG fr c x.1)) (key k)=oG fr c x.1:=by
   cases oG fr c x.1 with
   |some b=>exact Kj _ _ _ oo
   |none=>exact oo
  generalize (vf H (key k) (oG fr c x.1))=H1 at WI XY⊢
  obtain ⟨g1,g2,g3⟩:=ky xQ (fr:=fr) r (k+1) x.2 us H1 h.2 (λj h1 h2=>by
   rw [WI _ λe=>by have:=xQ _ _ e;omega];exact hn j (by omega) (by omega))
  have LY:Ae (Qp fr key (k+1) r x.2 H1) (key k)=oG fr c x.1:=by
   rw [g1 _ λj h1 h2 e=>by have:=xQ _ _ e;omega];exact XY
  refine ⟨λl hl=>?_,λj h1 h2=>?_,λπ' hd RR=>⟨?_,?_⟩⟩
  ·rw [g1 l λj h1 h2=>hl j (by omega) (by omega)]
   exact WI l (hl k (Nat.le_refl _) (by omega))
  ·rcases Nat.eq_or_lt_of_le h1 with e|h1
   ·subst e
    rw [LY]
    exact yp h.1
   ·exact g2 j h1 (by omega)
  ·have h1:=h.1
   have WZ:=RR k (Nat.le_refl _) (by omega)
   cases c with
   |Fc τ=>
    obtain ⟨bL,c1,c2⟩:=h1.2
    exact ⟨bL,by have:=Zj (fr:=true) hd c1;simpa using this,c2⟩
   |row e te=>exact ⟨_,e.size,List.length x.1,LY,rfl,by simp,by rw [WZ];exact h1.1⟩
   |Du e te=>exact ⟨_,e.size,List.length x.1,LY,rfl,by simp,by rw [WZ];exact h1.1⟩
   |Ak e te kp=>exact ⟨_,1,List.length x.1,LY,rfl,by simp,by rw [WZ];exact h1.1⟩
   |part e te=>trivial
  ·exact g3 π' hd λj h1 h2=>RR j (by omega) (by omega)
theorem yg {ks:List Nat} {n:Nat} (h:s6 ks n=true):ks.length=n/\ks.Nodup/\ ∀l∈ks,l<Aj:=by
 unfold s6 at h
 simp only [Bool.and_eq_true] at h
 refine ⟨Nat.eq_of_beq_eq_true h.1,Qo h.2.1,λl hl=>?_⟩
 have:=List.all_eq_true.1 h.2.2 l hl
 simpa using this
theorem Lb {ks:List Nat} {j:Nat} (h:j<ks.length):Bp ks j=ks[j]:=by
 unfold Bp
 rw [List.getElem?_eq_getElem h]
theorem um {ks:List Nat} (hn:ks.Nodup) (hl: ∀l∈ks,l<Aj): ∀i j,Bp ks i=Bp ks j->i=j:=by
 intro i j h
 by_cases hi:i<ks.length
 ·by_cases hj:j<ks.length
  ·rw [Lb hi,Lb hj] at h
   rcases Nat.lt_trichotomy i j with Hl|he|Hl
   ·exact absurd h (List.pairwise_iff_getElem.1 hn i j hi hj Hl)
   ·exact he
   ·exact absurd h.symm (List.pairwise_iff_getElem.1 hn j i hj hi Hl)
  ·have h1:=hl _ (List.getElem_mem hi)
   rw [Lb hi] at h
   unfold Bp at h
   rw [List.getElem?_eq_none (by omega)] at h
   simp only at h
   omega
 ·by_cases hj:j<ks.length
  ·have h1:=hl _ (List.getElem_mem hj)
   rw [Lb hj] at h
   unfold Bp at h
   rw [List.getElem?_eq_none (by omega)] at h
   simp only at h
   omega
  ·unfold Bp at h
   rw [List.getElem?_eq_none (by omega),List.getElem?_eq_none (by omega)] at h
   simp only at h
   omega
theorem Ic: ∀(H:List (Nat×OB)) (dead:List Nat) (l:Nat),Ae (Py H dead) l=if l∈dead then none else Ae H l
 | [],dead,l=>by simp [Py,Ae]
 |(k,b)::r,dead,l=>by
  simp only [Py]
  have ih:=Ic r dead l
  by_cases hk:k∈dead
  ·rw [if_pos (by simpa using hk),ih]
   split
   ·rfl
   ·rename_i hl
    simp only [Ae]
    rw [if_neg (λ(e:k=l)=>hl (e▸hk))]
  ·rw [if_neg (by simpa using hk)]
   simp only [Ae]
   split
   ·rename_i e;subst e;rw [if_neg hk]
   ·exact ih
theorem mem_keys {ks:List Nat} {l:Nat} :l∈ks↔ ∃k,k<ks.length/\l=Bp ks k:=
 ⟨λh=>by obtain ⟨k,hk,e⟩:=List.getElem_of_mem h;exact ⟨k,hk,by rw [Lb hk,e]⟩,λ⟨k,hk,e⟩=>by rw [e,Lb hk];exact List.getElem_mem hk⟩
theorem Yk {tks:List (Nat×Loc)} {l:Nat} :l∈gf tks↔ ∃t∈tks,(t.1<Aj/\t.2.reads=false)/\t.2.Pq=l:=by
 unfold gf
 simp only [List.mem_map,List.mem_filter,Bool.and_eq_true,Nat.blt_eq,Bool.not_eq_true']
 exact ⟨λ⟨t,⟨h1,h2⟩,h3⟩=>⟨t,h1,h2,h3⟩,λ⟨t,h1,h2,h3⟩=>⟨t,⟨h1,h2⟩,h3⟩⟩
theorem s7 {tks:List (Nat×Loc)} (h:(tks.map λt=>t.2.Pq).Nodup) {t t':Nat×Loc} (ht:t∈tks) (lx:t'∈tks) (he:t.2.Pq=t'.2.Pq):t=t':=by
 induction tks with
 |nil=>cases ht
 |cons a r ih=>
  simp only [List.map_cons] at h
  obtain ⟨h1,h2⟩:=List.nodup_cons.1 h
  rcases List.mem_cons.1 ht with rfl|ht<;>rcases List.mem_cons.1 lx with rfl|lx
  ·rfl
  ·exact (h1 (List.mem_map.2 ⟨t',lx,he.symm⟩)).elim
  ·exact (h1 (he▸List.mem_map.2 ⟨t,‹t∈r›,rfl⟩)).elim
  ·exact ih h2 ht lx
theorem Et.full {D:Nat->Prop} {ρ:Pi} : ∀(cs:List CK) (k:Nat) (x:CKs.den cs) (us:List Value),Et w D ρ k cs x us->Et w D (λl=>(ρ l).map full) k cs x us
 | [],_,_,[],h=>h
 | [],_,_,_::_,h=>h.elim
 |_::_,_,_,[],h=>h.elim
 |c::r,k,x,u::us,h=>⟨by
   have h1:=h.1
   show Za w D ((ρ (Fh k)).map _) u c x.1
   cases c with
   |Fc τ=>rw [h1.1];exact ⟨rfl,h1.2⟩
   |row e te=>cases hp:ρ (Fh k)<;>(rw [hp] at h1;exact h1)
   |Du e te=>cases hp:ρ (Fh k)<;>(rw [hp] at h1;exact h1)
   |Ak e te kp=>cases hp:ρ (Fh k)<;>(rw [hp] at h1;exact h1)
   |part e te=>cases hp:ρ (Fh k)<;>(rw [hp] at h1;exact h1),Et.full r (k+1) x.2 us h.2⟩
theorem Et.QF {D:Nat->Prop} {ρ:Pi} : ∀(cs:List CK) (k0:Nat) (x:CKs.den cs) (us:List Value),Et w D ρ k0 cs x us-> ∀j,k0<=j->j<k0+cs.length-> ∀q,ρ (Fh j)=some q->q.Ax q.g
 | [],k0,_,_,_,j,h1,h2,_,_=>by simp at h2;omega
 |_::_,_,_,[],h,_,_,_,_,_=>h.elim
 |c::r,k0,x,u::us,ho,j,h1,h2,q,hq=>by
  rcases Nat.eq_or_lt_of_le h1 with e|h1
  ·subst e
   have:=ho.1
   cases c with
   |Fc τ=>rw [hq] at this;cases this.1
   |row e te=>rw [hq] at this;exact this.2.1.1
   |Du e te=>rw [hq] at this;exact this.2.1
   |part e te=>rw [hq] at this;exact this.2.2.1.1
   |Ak e te kp=>rw [hq] at this;exact this.2.1
  ·exact Et.QF r (k0+1) x.2 us ho.2 j h1 (by simp at h2;omega) q hq
theorem Md.any {D D':Nat->Prop} {r:Option Real} {e:Ty} {xs:List e.den} (hf:e.flat=true) (h:Md w D r e xs):Md w D' r e xs:=by
 cases r with
 |none=>exact h
 |some r=>
  obtain ⟨k1,cu,ti,k2,k3,k4,k5,k6⟩:=h
  exact ⟨k1,cu,ti,k2,k3,k4,k5,λi y hy=>by
   obtain ⟨es,g1,g2,g3⟩:=k6 i y hy
   exact ⟨es,g1,g2,Cells.flat e es y hf g3⟩⟩
theorem Et.any {D D':Nat->Prop} {ρ:Pi} : ∀(cs:List CK) (k:Nat) (x:CKs.den cs) (us:List Value),cs.all (·.flat)=true->Et w D ρ k cs x us->Et w D' ρ k cs x us
 | [],_,_,[],_,h=>h
 | [],_,_,_::_,_,h=>h.elim
 |_::_,_,_,[],_,h=>h.elim
 |c::r,k,x,u::us,hf,h=>by
  simp only [List.all_cons,Bool.and_eq_true] at hf
  refine ⟨?_,Et.any r (k+1) x.2 us hf.2 h.2⟩
  have h1:=h.1
  cases c with
  |Fc τ=>exact ⟨h1.1,Bb.flat hf.1 h1.2⟩
  |row e te=>exact ⟨h1.1,Md.any hf.1 h1.2⟩
  |Du e te=>exact h1
  |part e te=>exact ⟨h1.1,h1.2.1,Md.any hf.1 h1.2.2⟩
  |Ak e te kp=>exact absurd hf.1 (by simp [CK.flat])
theorem Hc.any {D D':Nat->Prop} {π:Pi} : ∀(cs:List (Bool×CK)) (k:Nat) (x:IOs.den cs),(cs.all λp=>!p.1||p.2.flat)=true->Hc w D π k cs x->Hc w D' π k cs x
 | [],_,_,_,h=>h
 |(false,_)::r,k,x,hf,h=>Hc.any r (k+1) x (by simp only [List.all_cons,Bool.and_eq_true] at hf;exact hf.2) h
 |(true, .Fc _)::r,k,x,hf,h=>Hc.any r (k+1) x (by simp only [List.all_cons,Bool.and_eq_true] at hf;exact hf.2) h
 |(true, .Ak _ _ _)::r,k,x,hf,h=>Hc.any r (k+1) x (by simp only [List.all_cons,Bool.and_eq_true] at hf;exact hf.2) h
 |(true, .row e te)::r,k,x,hf,h=>by
  simp only [List.all_cons,Bool.and_eq_true,Bool.not_true,Bool.false_or] at hf
  exact ⟨Md.any hf.1 h.1,Hc.any r (k+1) x.2 hf.2 h.2⟩
 |(true, .Du e te)::r,k,x,hf,h=>by
  simp only [List.all_cons,Bool.and_eq_true,Bool.not_true,Bool.false_or] at hf
  exact ⟨h.1,Hc.any r (k+1) x.2 hf.2 h.2⟩
 |(true, .part e te)::r,k,x,hf,h=>by
  simp only [List.all_cons,Bool.and_eq_true,Bool.not_true,Bool.false_or] at hf
  exact ⟨Md.any hf.1 h.1,Hc.any r (k+1) x.2 hf.2 h.2⟩
theorem mO {tks:List (Nat×Loc)} {l:Nat} :l∈tD tks↔ ∃t∈tks,t.2.reads=true/\t.2.Pq=l:=by
 unfold tD
 simp only [List.mem_map,List.mem_filter]
 exact ⟨λ⟨t,⟨h1,h2⟩,h3⟩=>⟨t,h1,h2,h3⟩,λ⟨t,h1,h2,h3⟩=>⟨t,⟨h1,h2⟩,h3⟩⟩
theorem Ai.gX {st:St} {a:Act} (h:Ai X π st a w) {f:AC->AC} (hu:f .undef= .undef) {gv:Nat->Prop} (BW: ∀b,gv b->Oi π b) (hb:Gb w.heap.size gv w w')
  (Yd: ∀b,b<w.heap.size->Oi π' b->Oi π b)
  (Qi: ∀l r b,π' l=some r->r.Ax b->r.cl b) (TT: ∀l r b,π' l=some r->r.cl b->(X.w0.heap.size<=b\/X.gv b)/\b<w'.heap.size)
  (Aen: ∀l l' r r' b,π' l=some r->π' l'=some r'->r.cl b->r'.cl b->l=l')
  (Ye: ∀l,Aj<=l->Ae H' l≠none->Ue (X.cw l) (π' l))
  (hac:(∀fr τ cs x,Cells w (Bc X.w0.heap.size X.Sc π fr) τ cs x->Cells w' (Bc X.w0.heap.size X.Sc π' fr) τ cs x)-> ∀c v,Dx X w π st.heap c v->Dx X w' π' H' (f c) v)
  (NC:Move X w w' π π' st.heap H' f-> ∀l b,Ae H' l=some b->At X w' π' H' (π' l) b)
  (AB: ∀l,Ae H' l=none->π' l=none):
  Ai X π' {tmps:=st.tmps.map (·.map f),heap:=H'} a w':=by
 have hc: ∀fr τ cs x,Cells w (Bc X.w0.heap.size X.Sc π fr) τ cs x->Cells w' (Bc X.w0.heap.size X.Sc π' fr) τ cs x:= λfr τ cs x hh=>
  Cells.Cs hb.size (λk hk hn=>hb.block k hk λhg=>hn (.inl (BW k hg))) (λk Hl hA=>hA.imp (Yd k Hl) id) τ cs x hh
 have m:Move X w w' π π' st.heap H' f:=⟨hac hc,hc⟩
 refine ⟨⟨⟨hb.os.trans h.1.below.os,hb.tape.trans h.1.below.tape,hb.output.trans h.1.below.output,Nat.le_trans h.1.below.size hb.size,λk hk hn=>?_⟩,h.1.sc,Qi,TT,Aen,Ye,λl=>?_⟩,m.yN hu h.2⟩
 ·refine (hb.block k (Nat.lt_of_lt_of_le hk h.1.below.size) λhg=>?_).trans (h.1.below.block k hk hn)
  rcases (h.1.own (BW k hg)).2 with h1|h1
  ·omega
  ·exact hn h1
 ·cases hh:Ae H' l with
  |none=>exact Dg.Ox (AB l hh) hh
  |some b=>exact Dg.Ii (NC m l b hh) hh
def aJ:Option Real->Option Real->Prop
 |none,none=>True
 |some r,some r'=>r.g=r'.g/\r.o=r'.o/\r.cap=r'.cap
 |_,_=>False
theorem aJ.rfl' (r:Option Real):aJ r r:=by cases r<;>simp [aJ]
theorem aJ.some {r:Real} {r':Option Real} (h:aJ (some r) r'): ∃q,r'=some q/\r.g=q.g/\r.o=q.o/\r.cap=q.cap:=by
 cases r' with
 |none=>exact h.elim
 |some q=>exact ⟨q,rfl,h⟩
theorem aJ.own {r r':Option Real} (h:aJ r r') {sz off len:Nat} {v:Value} (hv:Dv r sz off len v):Dv r' sz off len v:=by
 cases r<;>cases r'<;>first|exact h.elim|skip
 ·exact hv
 ·obtain ⟨h1,h2,h3⟩:=h
  obtain ⟨ad,g1,g2,g3⟩:=hv
  exact ⟨ad,by rw [<-h3];exact g1,by rw [<-h3];exact g2,by rw [<-h1,<-h2,<-h3];exact g3⟩
structure OB.Mm (b b':OB):Prop where
 row: ∀sz n,b.row=some (sz,n)-> ∃n',b'.row=some (sz,n')/\n<=n'
 aP: ∀p,b.aP=some p->b'.aP=some p
 oe: ∀p,b.oe=some p->b'.oe=some p
 var: ∀tid vs,b= .var tid vs-> ∃No tV,b'= .var No tV
 Oh: ∀v m,b= .Oh v m-> ∃m',b'= .Oh v m'
theorem OB.Mm.map (f:AC->AC) (b:OB):b.Mm (b.map f) where
 row:= λsz n h=>⟨n,by cases b<;>exact h,Nat.le_refl _⟩
 aP:= λp h=>by cases b<;>exact h
 oe:= λp h=>by cases b<;>exact h
 var:= λtid vs h=>by subst h;exact ⟨_,_,rfl⟩
 Oh:= λv m h=>by subst h;exact ⟨_,rfl⟩
theorem OB.Mm.rfl' (b:OB):b.Mm b where
 row:= λ_sz n h=>⟨n,h,Nat.le_refl _⟩
 aP:= λ_p h=>h
 oe:= λ_p h=>h
 var:= λ_tid _vs h=>⟨_,_,h⟩
 Oh:= λ_v _m h=>⟨_,h⟩
theorem OB.Mm.trans {a b c:OB} (h:a.Mm b) (k:b.Mm c):a.Mm c where
 row:= λsz n hr=>by
  obtain ⟨n1,h1,h2⟩:=h.row sz n hr
  obtain ⟨n2,h3,h4⟩:=k.row sz n1 h1
  exact ⟨n2,h3,by omega⟩
 aP:= λp hp=>k.aP p (h.aP p hp)
 oe:= λp hp=>k.oe p (h.oe p hp)
 var:= λtid vs hv=>by obtain ⟨t',v',h1⟩:=h.var tid vs hv;exact k.var t' v' h1
 Oh:= λv m hm=>by obtain ⟨m',h1⟩:=h.Oh v m hm;exact k.Oh v m' h1
theorem gW {f:AC->AC} {D Pt:Nat->Prop} (hf: ∀c,f c= .undef\/(f c=c/\(∀k∈c.refs,¬D k)/\ ∀k i j,c= .sub k i j\/c= .Fo k i j-> ¬Pt k)) (hp: ∀k,¬D k->aJ (π k) (π' k))
  (hH: ∀k b,¬D k->Ae H k=some b-> ∃b',Ae H' k=some b'/\b.Mm b')
  (hg: ∀k r b,¬D k-> ¬Pt k->Ae H k=some b->b.aP≠none->π k=some r->w'.heap[r.g]?=w.heap[r.g]?)
  (hc: ∀fr τ cs x,Cells w (Bc X.w0.heap.size X.Sc π fr) τ cs x->Cells w' (Bc X.w0.heap.size X.Sc π' fr) τ cs x): ∀c v,Dx X w π H c v->Dx X w' π' H' (f c) v:=by
 intro c v h
 rcases hf c with e|⟨e,hr,hs⟩
 ·rw [e];trivial
 rw [e]
 cases c with
 |data fr τ x=>obtain ⟨cs,h1,h2⟩:=h;exact ⟨cs,hc _ _ _ _ h1,h2⟩
 |own k off len=>
  obtain ⟨b,sz,n,h1,h0,h2,h3⟩:=h
  have hk:=hr k (by simp [AC.refs])
  obtain ⟨b',g1,g2⟩:=hH k b hk h1
  obtain ⟨n',g3,g4⟩:=g2.row sz n h0
  exact ⟨b',sz,n',g1,g3,by omega,(hp k hk).own h3⟩
 |Dw k i=>
  obtain ⟨r,tid,vs,h1,h2,h3⟩:=h
  have hk:=hr k (by simp [AC.refs])
  obtain ⟨b',g1,g2⟩:=hH k _ hk h1
  obtain ⟨No,tV,rfl⟩:=g2.var tid vs rfl
  obtain ⟨q,q1,q2,_⟩:=(h2▸hp k hk).some
  exact ⟨q,No,tV,g1,q1,by rw [<-q2];exact h3⟩
 |Fq k i=>
  obtain ⟨r,b,sz,n,h1,h0,h2,h3,h4⟩:=h
  have hk:=hr k (by simp [AC.refs])
  obtain ⟨b',g1,g2⟩:=hH k b hk h1
  obtain ⟨n',g3,g4⟩:=g2.row sz n h0
  obtain ⟨q,q1,q2,q3,_⟩:=(h3▸hp k hk).some
  exact ⟨q,b',sz,n',g1,g3,by omega,q1,by rw [<-q2,<-q3];exact h4⟩
 |sub k i c=>
  obtain ⟨r,b,sz,n,h1,h0,h2,h3,h4,h5⟩:=h
  have hk:=hr k (by simp [AC.refs])
  obtain ⟨b',g1,g2⟩:=hH k b hk h1
  obtain ⟨q,q1,q2,q3,_⟩:=(h2▸hp k hk).some
  exact ⟨q,b',sz,n,g1,g2.aP _ h0,q1,h3,h4,by rw [<-q2,<-q3,World.cell?_of_block (hg k r b hk (hs k i c (.inl rfl)) h1 (by rw [h0];simp) h2)];exact h5⟩
 |Fo k i c=>
  obtain ⟨r,b,n,sz,g,o,len,cap,h1,h0,h2,h3,h4,h5,h6⟩:=h
  have hk:=hr k (by simp [AC.refs])
  obtain ⟨b',g1,g2⟩:=hH k b hk h1
  obtain ⟨q,q1,q2,q3,_⟩:=(h2▸hp k hk).some
  exact ⟨q,b',n,sz,g,o,len,cap,g1,g2.oe _ h0,q1,h3,h4,by rw [<-q2,<-q3,World.cell?_of_block (hg k r b hk (hs k i c (.inr rfl)) h1 (by cases b<;>first|(cases h0;done)|simp [OB.aP]) h2)];exact h5,h6⟩
 |clo g Bs=>
  obtain ⟨us,h1,h2,h3⟩:=h
  refine ⟨us,h1,h2,λj p ZG=>?_⟩
  obtain ⟨r,tid,vs,h4,h5,h6⟩:=h3 j p ZG
  have hk:=hr p.1 (by simp only [AC.refs,List.mem_map];exact ⟨p,List.mem_of_getElem? ZG,rfl⟩)
  obtain ⟨b',g1,g2⟩:=hH p.1 _ hk h4
  obtain ⟨No,tV,rfl⟩:=g2.var tid vs rfl
  obtain ⟨q,q1,q2,_⟩:=(h5▸hp p.1 hk).some
  exact ⟨q,No,tV,g1,q1,by rw [<-q2];exact h6⟩
 |Gf k=>
  obtain ⟨r,vt,m,h1,h2,h3⟩:=h
  have hk:=hr k (by simp [AC.refs])
  obtain ⟨b',g1,g2⟩:=hH k _ hk h1
  obtain ⟨m',rfl⟩:=g2.Oh vt m rfl
  obtain ⟨q,q1,q2,_⟩:=(h2▸hp k hk).some
  exact ⟨q,vt,m',g1,q1,by rw [<-q2];exact h3⟩
 |_=>exact h
theorem Nu (H0:List (Nat×OB)) (ls:List Nat) (n:Nat): ∀(H:List (Nat×OB)) (l:Nat),Ae (Wv H0 ls n H) l=(Ae H l).map λb=>if ls.contains l then b.wy (Uw n (UK (Ae H0 l))) else b
 | [],_=>rfl
 |(k,b)::r,l=>by
  simp only [Wv,Ae]
  split
  ·rename_i e;subst e;rfl
  ·exact Nu H0 ls n r l
theorem OB.sO (b:OB) (kp:Option (Nat×Nat)):b.Mm (b.wy kp):=by
 cases b with
 |Ak e te rows out kp0=>exact ⟨λsz n h=>⟨n,h,Nat.le_refl _⟩,λp h=>h,λp h=>h,(λ_ _ h=>by cases h),(λ_ _ h=>by cases h)⟩
 |_=>exact OB.Mm.rfl' _
theorem aB (ls:List Nat): ∀(l m:List AV) (t:Nat),l.length=m.length->(∃k i c,l.getD t .undef= .at (.sub k i c)/\ls.contains k=true/\(Gu ls l m).getD t .undef= .at (.sub k i c))\/(Gu ls l m).getD t .undef=m.getD t .undef
 | [],m,t,_=>by cases m<;>exact .inr rfl
 |_::_,[],t,h=>by simp at h
 |a::l,v::m,t,h=>by
  have ih:= λt=>aB ls l m t (by simpa using h)
  have tail: ∀u,Gu ls (a::l) (v::m)=u::Gu ls l m->(t=0->(∃k i c,(a::l).getD t .undef= .at (.sub k i c)/\ls.contains k=true/\u= .at (.sub k i c))\/u=v)->
    (∃k i c,(a::l).getD t .undef= .at (.sub k i c)/\ls.contains k=true/\(Gu ls (a::l) (v::m)).getD t .undef= .at (.sub k i c))\/(Gu ls (a::l) (v::m)).getD t .undef=(v::m).getD t .undef:=by
   intro u e h0
   rw [e]
   rcases t with _|t
   ·rcases h0 rfl with ⟨k,i,c,h1,h2,h3⟩|h3
    ·exact .inl ⟨k,i,c,h1,h2,by simpa using h3⟩
    ·exact .inr (by simpa using h3)
   ·simpa only [List.getD_cons_succ] using ih t
  cases a with
  | «at»c=>
   cases c with
   |sub k i c=>
    refine tail _ rfl λht=>?_
    subst ht
    by_cases hc:ls.contains k=true
    ·exact .inl ⟨k,i,c,rfl,hc,by rw [if_pos hc]⟩
    ·exact .inr (by rw [if_neg hc])
   |_=>exact tail _ rfl λ_=> .inr rfl
  |_=>exact tail _ rfl λ_=> .inr rfl
theorem nN {H:List (Nat×OB)} {ls:List Nat} {n:Nat} : ∀ {l:List AV} {t k i c:Nat},Xh H ls n l=true->l.getD t .undef= .at (.sub k i c)->ls.contains k=true->i<n/\i<lq H k
 | [],t,k,i,c,_,h,_=>by simp at h
 |a::l,0,k,i,c,ho,h,hc=>by
  simp only [List.getD_cons_zero] at h
  subst h
  simp only [Xh,hc,Bool.not_true,Bool.false_or,Bool.and_eq_true,Nat.blt_eq] at ho
  exact ho.1
 |a::l,t+1,k,i,c,ho,h,hc=>by
  refine nN (l:=l) (t:=t) (c:=c) ?_ (by simpa only [List.getD_cons_succ] using h) hc
  cases a with
  | «at»d=>cases d with
   |sub _ _ _=>simp only [Xh,Bool.and_eq_true] at ho;exact ho.2
   |_=>exact ho
  |_=>exact ho
theorem yd {bd st:St} {a:Act} (h0:Ai X π bd a w) (h:Ai X π' st a w') {ls:List Nat} {n:Nat} (hk: ∀l∈ls,tY w w' (π l) (π' l) n) (mq: ∀l∈ls,gD bd.heap l=true)
  (Yc:Xh st.heap ls n bd.tmps=true):Ai X π' (fq bd st ls n) a w'/\ ∀c v,Am X w' π' st.heap c v->Am X w' π' (fq bd st ls n).heap c v:=by
 by_cases kb:ls= []
 ·subst kb;exact ⟨h,λ_ _ h=>h⟩
 have Pp:fq bd st ls n= {tmps:=Gu ls bd.tmps st.tmps,heap:=Wv bd.heap ls n st.heap} :=by
  cases ls with
  |nil=>exact absurd rfl kb
  |cons _ _=>rfl
 rw [Pp]
 have NH: ∀l∈ls,∃e te rows out kp,Ae bd.heap l=some (.Ak e te rows out kp):= λl hl=>by
  have:=mq l hl
  unfold gD at this
  split at this
  ·exact ⟨_,_,_,_,_,by assumption⟩
  ·cases this
 have srv: ∀k b,Ae st.heap k=some b-> ∃b',Ae (Wv bd.heap ls n st.heap) k=some b'/\b.Mm b':= λk b hb=>by
  rw [Nu,hb]
  refine ⟨_,rfl,?_⟩
  dsimp only
  split
  ·exact OB.sO b _
  ·exact OB.Mm.rfl' b
 have hac:(∀fr τ cs x,Cells w' (Bc X.w0.heap.size X.Sc π' fr) τ cs x->Cells w' (Bc X.w0.heap.size X.Sc π' fr) τ cs x)-> ∀c v,Dx X w' π' st.heap c v->Dx X w' π' (Wv bd.heap ls n st.heap) c v:= λhc=>
  gW (f:= λc=>c) (D:= λ_=>False) (Pt:= λ_=>False) (λc=> .inr ⟨rfl,λ_ _ h=>h,λ_ _ _ _ h=>h⟩) (λk _=>aJ.rfl' _) (λk b _ hb=>srv k b hb) (λ_ _ _ _ _ _ _ _=>rfl) hc
 have h1:Ai X π' {tmps:=st.tmps.map (·.map λc=>c),heap:=Wv bd.heap ls n st.heap} a w':=by
  refine h.gX rfl (gv:= λ_=>False) (λ_ hf=>hf.elim) (Gb.refl _ _ _) (λ_ _ ho=>ho) h.1.sub h.1.place h.1.inj (λl hl Ek=>h.1.cw l hl λh2=>Ek (by rw [Nu,h2];rfl)) hac (λm l b hb=>?_) (λl hl=>?_)
  ·rw [Nu] at hb
   cases h2:Ae st.heap l with
   |none=>rw [h2] at hb;cases hb
   |some b0=>
    rw [h2] at hb
    simp only [Option.map_some,Option.some.injEq] at hb
    have hbk:=(h.1.heap l).Ma h2
    have xe:=hbk.move m (Nat.le_refl _) (λr0 c h0 h1=>h.1.sub _ r0 c h0 h1) λ_ _ _ _ _=>rfl
    rw [show OB.map (λc=>c) b0=b0 from OB.vJ b0] at xe
    split at hb
    ·rename_i hc
     have hl:l∈ls:=by simpa using hc
     cases b0 with
     |Ak e te rows out kp=>
      simp only [OB.wy] at hb
      subst hb
      refine ⟨xe.1,?_⟩
      obtain ⟨e0,te0,RY,Ag7,kp0,hg⟩:=NH l hl
      have oo:=((h0.1.heap l).Ma hg).2
      rw [hg]
      simp only [UK]
      have ou:=hk l hl
      cases kp0 with
      |none=>trivial
      |some p=>
       obtain ⟨l0,n0⟩:=p
       simp only [KeptAt,Uw] at oo⊢
       cases rP:X.cw l0 with
       |none=>
        cases hp:π l with
        |none=>
         rw [hp] at ou
         cases AE:π' l with
         |none=>trivial
         |some q=>rw [AE] at ou;exact ou.elim
        |some q=>rw [rP,hp] at oo;exact oo.elim
       |some r0=>
        cases hp:π l with
        |none=>rw [rP,hp] at oo;exact oo.elim
        |some q=>
         rw [rP,hp] at oo
         rw [hp] at ou
         cases AE:π' l with
         |none=>rw [AE] at ou;exact ou.elim
         |some q'=>
          rw [AE] at ou
          obtain ⟨k1,k2,k3,k4⟩:=ou
          obtain ⟨g1,g2,g3,g4⟩:=oo
          refine ⟨k1.trans g1,k2.trans g2,k3.trans g3,λj hj hc=>?_⟩
          have e1:=g4 j (by omega) hc
          have e2:=k4 j (by omega) (by omega)
          rw [g1,g2] at e2
          rw [<-e1,e2]
     |_=>simp only [OB.wy] at hb;subst hb;exact xe
    ·subst hb;exact xe
  ·rw [Nu] at hl
   cases h2:Ae st.heap l with
   |none=>exact (h.1.heap l).emp h2
   |some b=>rw [h2] at hl;cases hl
 have HK: ∀c v,Am X w' π' st.heap c v->Am X w' π' (Wv bd.heap ls n st.heap) c v:= λc v hv=>by
  have m:Move X w' w' π' π' st.heap (Wv bd.heap ls n st.heap) (λc=>c):=⟨hac λ_ _ _ _ h=>h,λ_ _ _ _ h=>h⟩
  have:=m.av hv
  rwa [AC.map_id] at this
 refine ⟨⟨h1.1,⟨?_,h.2.defers,λt=>?_⟩⟩,HK⟩
 ·have: ∀(l m:List AV),(Gu ls l m).length=m.length:=by
   intro l
   induction l with
   |nil=>intro m;cases m<;>rfl
   |cons a l ih=>
    intro m
    cases m with
    |nil=>cases a with
     | «at»c=>cases c<;>rfl
     |_=>rfl
    |cons v m=>cases a with
     | «at»c=>cases c<;>simp only [Gu,List.length_cons,ih m]
     |_=>simp only [Gu,List.length_cons,ih m]
  show a.tmps.size=(Gu ls bd.tmps st.tmps).length
  rw [this];exact h.2.size
 ·show Am X w' π' _ ((Gu ls bd.tmps st.tmps).getD t .undef) _
  rcases aB ls bd.tmps st.tmps t (by rw [<-h0.2.size,<-h.2.size]) with ⟨k,i,c,g1,g2,g3⟩|g
  ·rw [g3]
   have Ix:k∈ls:=by simpa using g2
   obtain ⟨i1,i2⟩:=nN Yc g1 g2
   have hv:=h0.2.tmps t
   rw [show bd.get t=_ from g1] at hv
   obtain ⟨r,b,sz,n',e1,e2,e3,e4,⟨e5,e6⟩,e7⟩:=hv
   obtain ⟨e0,te0,RY,Ag7,kp0,hg⟩:=NH k Ix
   rw [hg] at e1;cases e1
   simp only [OB.aP,Option.some.injEq,Prod.mk.injEq] at e2
   obtain ⟨rfl,rfl⟩:=e2
   have ou:=hk k Ix
   rw [e3] at ou
   cases AE:π' k with
   |none=>rw [AE] at ou;exact ou.elim
   |some q'=>
    rw [AE] at ou
    obtain ⟨k1,k2,k3,k4⟩:=ou
    have mo:RY.length<=r.cap:=by
     have:=((h0.1.heap k).Ma hg).1
     rw [e3] at this
     obtain ⟨_,_,_,_,_,_,h5,_⟩:=this
     exact h5
    unfold lq at i2
    split at i2
    ·rename_i e9 te9 Ab1 Al7 kp9 hg9
     refine ⟨q',_,1,Ab1.length,by rw [Nu,hg9];rfl,?_,AE,i2,⟨e5,e6⟩,?_⟩
     ·dsimp only
      split<;>rfl
     ·have fh:c=0:=by omega
      subst fh
      rw [k1,k2]
      rw [Nat.mul_one,Nat.add_zero] at e7⊢
      rw [k4 i i1 (by omega)];exact e7
    ·omega
  ·rw [g]
   exact HK _ _ (h.2.tmps t)
theorem jA {ins:List (Bool×CK)} {as:List AC} {pl:List Nat} {st:St} :(l4 ins as pl st).tmps=st.tmps:=by
 unfold l4
 split
 ·rfl
 ·split<;>rfl
theorem yU {ins:List (Bool×CK)} {as:List AC} {pl:List Nat} {st:St} {m:Nat} (hm:m∉pl):Ae (l4 ins as pl st).heap m=Ae st.heap m:=by
 unfold l4
 split
 ·rfl
 ·rename_i l r
  split
  ·exact Cj _ _ _ _ λe=>hm (e▸List.mem_cons_self)
  ·rfl
theorem EC {ins:List (Bool×CK)} {as:List AC} {l:Nat} {st:St} {tid:TypeId} {vs:List AC} (hl:Ae st.heap l=some (.var tid vs)):Ae (l4 ins as [l] st).heap l=some (.var tid (aX ins vs as)):=by
 simp only [l4,St.at,hl]
 exact Cq _ _ _ _ hl
theorem qv {α:Type} (ins:List (Bool×CK)) (as:List α):aX ins [] as= []:=by
 rcases ins with _|⟨⟨_|_,c⟩,r⟩<;>rfl
theorem jr {α:Type} : ∀(ins:List (Bool×CK)) (vs as:List α),(aX ins vs as).length=vs.length
 | [],vs,as=>by rw [aX];all_goals simp
 |p::r,[],as=>by rw [qv]
 |(true,c)::r,v::vs,as=>by simp only [aX,List.length_cons,jr r vs as]
 |(false,c)::r,v::vs,[]=>by rw [aX];all_goals simp
 |(false,c)::r,v::vs,a::as=>by simp only [aX,List.length_cons,jr r vs as]
theorem DS {st:St} {a:Act} (h:Ai X π st a w) {s:MSpec} {jP:List AV} {vs:List Value} (hlen:jP.length=vs.length) (HK: ∀(i:Nat) c v,jP[i]?=some c->vs[i]?=some v->Am X w π st.heap c v)
  {pl:List Nat} {cells:List AC} {rest:List AV} (he:AR st s jP=some (pl,cells,rest)):
  ∃(g:Nat) (QC qP:List Value),rest.length=qP.length/\(∀(i:Nat) c v,rest[i]?=some c->qP[i]?=some v->Am X w π st.heap c v)/\Hv X w π st.heap cells QC/\
   ((s.ptr=none/\pl= []/\cells= []/\QC= []/\vs=qP)\/
    ∃p l q,s.ptr=some p/\pl= [l]/\π l=some q/\q.Ax q.g/\g=q.g/\Ae st.heap l=some (.var p.1 cells)/\cells.length=p.2/\vs= .pointer (some ⟨g,0,none⟩)::qP/\w.heap[g]?=some (.cells QC.toArray p.1 (0,0))/\Cw X w π st.heap cells QC):=by
 unfold AR at he
 split at he
 ·rename_i hp
  simp only [Option.some.injEq,Prod.mk.injEq] at he
  obtain ⟨rfl,rfl,rfl⟩:=he
  exact ⟨0,[],vs,hlen,HK,trivial, .inl ⟨hp,rfl,rfl,rfl,rfl⟩⟩
 ·rename_i p hp
  split at he
  ·rename_i l i Ai2
   split at he
   ·rename_i tid cs hl
    split at he
    ·rename_i hc
     obtain ⟨rfl,hc,rfl⟩:=hc
     simp only [Option.some.injEq,Prod.mk.injEq] at he
     obtain ⟨rfl,rfl,rfl⟩:=he
     unfold St.at at hl
     cases vs with
     |nil=>simp at hlen
     |cons v vs=>
      obtain ⟨r,No,tV,h1,h2,rfl⟩:=HK 0 _ v rfl rfl
      rw [hl] at h1;cases h1
      obtain ⟨r',h3,h4,cur,h5,h6⟩:=(h.1.heap l).Ma hl
      rw [h2] at h3;cases h3
      exact ⟨r.g,cur.toList,vs,by simpa using hlen,λi c v h7 h8=>HK (i+1) c v (by simpa using h7) (by simpa using h8),Hv.of h6, .inr ⟨p,l,r,hp,rfl,h2,h4,rfl,hl,hc,rfl,by simpa using h5,h6⟩⟩
    ·cases he
   ·cases he
  ·cases he
theorem dy {V:List Nat} {πc:Pi} {dead part:List Nat} (RR: ∀l,l∉dead->π' l=π l) (Qh: ∀l b sz n,l∉dead->Ae H l=some b->b.row=some (sz,n)-> ∃b',Ae H' l=some b'/\b'.row=some (sz,n)):
  ∀(ins:List (Bool×CK)) (k:Nat) (cells iz:List AC) (x:Ins.den ins) (us:List Value) (o:IOs.den ins) (cur st1:St) (news:List AC) (Sj cs:List Value),kO X w π V H πc k ins x (cells++iz) us->Ou ins cells=true->
   Ec ins o (cells++iz) cur=some st1->Cb πc k ins o cells.length cs Sj->Hv X w' π' H' news Sj->Hv X w' π' H' (aX ins (cells.map (Au dead part)) news) cs
 |ins,k,[],iz,x,us,o,cur,st1,news,Sj,cs,_,_,_,hb,_=>by
  have hb:cs= []:=by rcases ins with _|⟨⟨_|_,c⟩,r⟩<;>(try cases c)<;>simpa [Cb] using hb
  rw [hb,List.map_nil,qv]
  trivial
 | [],k,a::cells,iz,x,us,o,cur,st1,news,Sj,cs,_,hk,_,_,_=>by simp [Ou] at hk
 |(true, .Fc τ)::r,k,a::cells,iz,x,us,o,cur,st1,news,Sj,cs,_,hk,_,_,_=>by simp [Ou] at hk
 |(true, .part e te)::r,k,a::cells,iz,x,us,o,cur,st1,news,Sj,cs,_,hk,_,_,_=>by simp [Ou] at hk
 |(true, .Ak e te _)::r,k,a::cells,iz,x,us,o,cur,st1,news,Sj,cs,_,hk,_,_,_=>by simp [Ou] at hk
 |(true, .row e te)::r,k,a::cells,iz,x,us,o,cur,st1,news,Sj,cs,ht,hk,hp,hb,hn=>by
  cases a<;>simp only [Ou,Bool.false_eq_true] at hk
  rename_i l off len
  cases us with
  |nil=>exact ht.elim
  |cons u0 us=>
  cases cs with
  |nil=>exact hb.elim
  |cons u cs=>
  obtain ⟨⟨_,h1⟩,h2⟩:=ht
  simp only [Mr] at h1
  obtain ⟨h3,rfl,rfl,fr,tr,h4⟩:=h1
  obtain ⟨h5,h6⟩:=hb
  simp only [List.cons_append,Ec] at hp
  split at hp
  rotate_left
  ·cases hp
  rename_i Td TS
  have HU:List.length o.1=List.length x.1:=by
   simp only [Vm] at TS
   repeat' split at TS
   all_goals first|(cases TS;done)|(rename_i hc;exact hc.2.1)
  refine ⟨?_,dy RR Qh r (k+1) cells iz x.2 us o.2 Td st1 news Sj cs h2 hk hp h6 hn⟩
  by_cases hd:l∈dead
  ·have:Au dead part (.own l 0 (List.length x.1))= .undef:=by
    unfold Au
    rw [if_pos (by simp [AC.refs,hd])]
   rw [this];trivial
  ·rw [Vv (by simpa [AC.refs] using hd) (by intro l i j e;rcases e with e|e<;>cases e)]
   obtain ⟨b',g1,g2⟩:=Qh l _ e.size (List.length x.1) hd h4 rfl
   refine ⟨b',e.size,List.length x.1,g1,g2,by omega,?_⟩
   rw [RR l hd]
   rw [h3,HU] at h5
   cases hp:π l<;>(rw [hp] at h5;exact h5)
 |(true, .Du e te)::r,k,a::cells,iz,x,us,o,cur,st1,news,Sj,cs,ht,hk,hp,hb,hn=>by
  cases a<;>simp only [Ou,Bool.false_eq_true] at hk
  rename_i l off len
  cases us with
  |nil=>exact ht.elim
  |cons u0 us=>
  cases cs with
  |nil=>exact hb.elim
  |cons u cs=>
  obtain ⟨⟨_,h1⟩,h2⟩:=ht
  simp only [Mr] at h1
  obtain ⟨h3,rfl,rfl,h4⟩:=h1
  obtain ⟨h5,h6⟩:=hb
  simp only [List.cons_append,Ec] at hp
  split at hp
  rotate_left
  ·cases hp
  rename_i Td TS
  have HU:List.length o.1=List.length x.1:=by
   simp only [Vm] at TS
   repeat' split at TS
   all_goals first|(cases TS;done)|(rename_i hc;exact hc.2.1)
  refine ⟨?_,dy RR Qh r (k+1) cells iz x.2 us o.2 Td st1 news Sj cs h2 hk hp h6 hn⟩
  by_cases hd:l∈dead
  ·have:Au dead part (.own l 0 (List.length x.1))= .undef:=by
    unfold Au
    rw [if_pos (by simp [AC.refs,hd])]
   rw [this];trivial
  ·rw [Vv (by simpa [AC.refs] using hd) (by intro l i j e;rcases e with e|e<;>cases e)]
   obtain ⟨b',g1,g2⟩:=Qh l _ e.size (List.length x.1) hd h4 rfl
   refine ⟨b',e.size,List.length x.1,g1,g2,by omega,?_⟩
   rw [RR l hd]
   rw [h3,HU] at h5
   cases hp:π l<;>(rw [hp] at h5;exact h5)
 |(false,c)::r,k,a::cells,iz,x,[],o,cur,st1,news,Sj,cs,ht,hk,hp,hb,hn=>ht.elim
 |(false,c)::r,k,a::cells,iz,x,u0::us,o,cur,st1,news,Sj,[],ht,hk,hp,hb,hn=>by cases c<;>exact hb.elim
 |(false,c)::r,k,a::cells,iz,x,u0::us,o,cur,st1,news,[],u::cs,ht,hk,hp,hb,hn=>by cases c<;>exact hb.elim
 |(false,c)::r,k,a::cells,iz,x,u0::us,o,cur,st1,[],u'::Sj,u::cs,ht,hk,hp,hb,hn=>hn.elim
 |(false,c)::r,k,a::cells,iz,x,u0::us,o,cur,st1,na::news,u'::Sj,u::cs,ht,hk,hp,hb,hn=>by
  have YG:u=u'/\Cb πc (k+1) r o cells.length cs Sj:=by cases c<;>exact hb
  obtain ⟨rfl,hb3⟩:=YG
  have hp:Ec r o (cells++iz) cur=some st1:=by cases c<;>simpa only [List.cons_append,Ec] using hp
  have hk:Ou r cells=true:=by cases c<;>simpa only [Ou] using hk
  exact ⟨hn.1,dy RR Qh r (k+1) cells iz x.2 us o cur st1 news Sj cs ht.2 hk hp hb3 hn.2⟩
theorem wP {V:List Nat} {πc:Pi} : ∀(cs:List (Bool×CK)) (k0:Nat) (x:Ins.den cs) (as:List AC) (us:List Value),k0+cs.length<100000->kO X w π V H πc k0 cs x as us-> ∀k l,(Bo false k,Loc.row l)∈Gv k0 cs as->πc (Bo false k)=(π l).map full
 | [],_,_,[],_,_,_,_,_,h=>by cases h
 | [],_,_,_::_,_,_,_,_,_,h=>by cases h
 |_::_,_,_,[],_,_,_,_,_,h=>by cases h
 |_::_,_,_,_::_,[],_,h,_,_,_=>h.elim
 |(io,c)::r,k0,x,a::as,u::us,hk,h,k,l,ht=>by
  simp only [List.length_cons] at hk
  simp only [Gv] at ht
  rcases List.mem_append.1 ht with ht|ht
  ·obtain ⟨⟨_,h1⟩,_⟩:=h
   cases c with
   |Fc τ=>cases a<;>simp [Kh,views] at ht
   |row e te=>
    cases a<;>simp [Kh] at ht
    obtain ⟨e1,rfl⟩:=ht
    simp only [Mr] at h1
    rw [e1];exact h1.1
   |Du e te=>
    cases a<;>simp [Kh] at ht
    obtain ⟨e1,rfl⟩:=ht
    simp only [Mr] at h1
    rw [e1];exact h1.1
   |part e te=>
    cases a<;>simp [Kh] at ht
    obtain ⟨e1,rfl⟩:=ht
    simp only [Mr] at h1
    rw [e1];exact h1.2.1
   |Ak e te kp=>
    cases a<;>simp [Kh] at ht
    obtain ⟨e1,rfl⟩:=ht
    simp only [Mr] at h1
    rw [e1];exact h1.2.1
  ·exact wP r (k0+1) x.2 as us (by omega) h.2 k l ht
theorem kP {st:St} {a:Act} (h:Ai X π st a w) {f:FuncId} {s:MSpec} (hs:Cd P f s) (dst:Option Nat) (jP:List AV) (vs:List Value) (hlen:jP.length=vs.length)
  (HK: ∀(i:Nat) c v,jP[i]?=some c->vs[i]?=some v->Am X w π st.heap c v) (av:AV) (st':St) (he:Qb st dst s jP=some (av,st')):
  Calls P f vs.toArray w λe w'=> ∃v,e= .returned v/\ ∃π',Ai X π' st' a w'/\Am X w' π' st'.heap av v:=by
 unfold Qb at he
 split at he
 ·cases he
 rename_i pl cells rest Afd
 split at he
 ·cases he
 rename_i iz GB
 split at he
 ·cases he
 rename_i x tks htk
 split at he
 rotate_left
 ·cases he
 rename_i Fa
 simp only [Bool.and_eq_true,Nat.blt_eq] at Fa
 obtain ⟨⟨⟨⟨ow,my⟩,ZD⟩,Qg⟩,YU,CB⟩:=Fa
 have CB: ∀l∈pl,l∉(tks.map λt=>t.2.Pq)/\l∉Lo s tks (dst.getD 0):= λl hl=>by
  have:=List.all_eq_true.1 CB l hl
  simp only [Bool.not_eq_true',<-Bool.not_eq_true,List.contains_iff_mem] at this
  exact ⟨λhm=>this (List.mem_append_left _ hm),λhm=>this (List.mem_append_right _ hm)⟩
 split at he
 ·cases he
 rename_i r o WM
 split at he
 ·cases he
 rename_i st1 TV
 obtain ⟨g,QC,qP,YV,Ae1,Afg,XC⟩:=DS h hlen HK Afd
 obtain ⟨ph,rfl,FZ,Aff⟩:=Wl s.Gy rest qP iz YV Ae1 GB
 have TX:=Afg.append Aff
 have Kw:iC s w g (QC++ph) vs:=by
  unfold iC
  rcases XC with ⟨h1,_,_,h2,h3⟩|⟨p,l,q,h1,_,_,_,_,_,h2,h3,h4,h5⟩
  ·rw [h1];subst h2;exact ⟨h3,FZ⟩
  ·rw [h1]
   have hl:QC.length=p.2:=h5.1.trans h2
   simp only
   rw [List.drop_append_of_le_length (by omega),List.take_append_of_le_length (by omega),List.take_of_length_le (by omega),List.drop_of_length_le (by omega)]
   refine ⟨h3,FZ,by simp;omega,h4,λu hu=>?_⟩
   obtain ⟨i,hi,rfl⟩:=List.mem_iff_getElem.1 hu
   obtain ⟨u',h6,h7,_⟩:=h5.2 i (cells[i]'(by have:=h5.1;omega)) (List.getElem?_eq_getElem _)
   rw [List.getElem?_eq_getElem hi] at h6
   rw [Option.some.inj h6];exact h7
 have CC: ∀l∈pl,∃p q,s.ptr=some p/\pl= [l]/\π l=some q/\q.Ax q.g/\g=q.g/\Ae st.heap l=some (.var p.1 cells)/\cells.length=p.2:= λl hl=>by
  rcases XC with ⟨_,h1,_⟩|⟨p,l',q,h1,h2,h3,h4,h5,h6,h7,_⟩
  ·rw [h1] at hl;cases hl
  ·rw [h2] at hl
   have:=List.mem_singleton.1 hl
   subst this
   exact ⟨p,q,h1,h2,h3,h4,h5,h6,h7⟩
 have BW: ∀b,s.gv g b-> ∃l∈pl,∃q,π l=some q/\q.Ax b/\b=q.g:= λb ⟨h1,h2⟩=>by
  rcases XC with ⟨h3,_⟩|⟨p,l',q,_,h4,h5,h6,h7,_⟩
  ·rw [h3] at h1;cases h1
  ·exact ⟨l',by rw [h4];exact List.mem_singleton.2 rfl,q,h5,by rw [h2,h7];exact h6,h2.trans h7⟩
 obtain ⟨as,has⟩: ∃as,as=cells++iz:=⟨_,rfl⟩
 obtain ⟨us,IB⟩: ∃us,us=QC++ph:=⟨_,rfl⟩
 rw [<-has] at TX htk TV
 rw [<-IB] at TX Kw
 let V:=(tks.filter λt=>t.2.reads).map λt=>t.2.Pq
 have hV: ∀t∈tks,t.2.reads=true->t.2.Pq∈V:= λt ht hr=>List.mem_map.2 ⟨t,List.mem_filter.2 ⟨ht,hr⟩,rfl⟩
 have hV': ∀l∈V,∃t∈tks,t.2.reads=true/\t.2.Pq=l:= λl hl=>by
  obtain ⟨t,h1,h2⟩:=List.mem_map.1 hl
  exact ⟨t,(List.mem_filter.1 h1).1,(List.mem_filter.1 h1).2,h2⟩
 clear_value V
 obtain ⟨LS,πc,hT,HN,Ael,Ot⟩:=nS h.1 (V:=V) s.ins 0 as us x tks (by omega) TX htk hV
 have xT:=Qo ow
 rw [LS] at xT
 have Yd: ∀b,Oi πc b-> ∃t∈Gv 0 s.ins as,t.2.reads=false/\ ∃q,π t.2.Pq=some q/\q.Ax b/\ ∀l i j,t.2= .sub l i j->b≠q.g:= λb ⟨c,q,h1,h2⟩=>by
  obtain ⟨t,t1,_,t3⟩:=Ot c q b h1 h2
  exact ⟨t,t1,t3⟩
 have xV: ∀b,Oi πc b->Oi π b:= λb hb=>let ⟨t,_,_,q,h1,h2,_⟩:=Yd b hb;⟨_,q,h1,h2⟩
 have dr:bu πc (λb=>b<w.heap.size):=⟨λl q b h1 h2=>(h.1.own (xV b ⟨l,q,h1,h2⟩)).1,λl l' q q' b h1 h2 h3 h4=>by
  obtain ⟨t,t1,t2,_,p,t3,t4,_⟩:=Ot l q b h1 h3
  obtain ⟨t',VJ,t2',_,p',t3',t4',_⟩:=Ot l' q' b h2 h4
  have:=s7 xT t1 VJ (h.1.apart t3 t3' t4 t4')
  rw [<-t2,<-t2',this]⟩
 have YD: ∀k l,(Bo false k,Loc.row l)∈Gv 0 s.ins as->πc (Bo false k)=(π l).map full:= λk l ht=>
  wP s.ins 0 x as us (by omega) hT k l ht
 have Aa1: ∀b,Oi πc b->Jc X π V b:= λb hb=> .inl ⟨xV b hb,λl hl r' hr hf=>by
  obtain ⟨t,t1,t0,q,t3,t4,_⟩:=Yd b hb
  obtain ⟨t',VJ,t2',rfl⟩:=hV' l hl
  rw [LS] at VJ
  have:=s7 xT t1 VJ (h.1.apart t3 hr t4 hf)
  subst this
  rw [t0] at t2';cases t2'⟩
 let S:Nat->Prop:= λb=> ¬Oi πc b/\Jc X π V b
 have hS: ∀b,S b->b<w.heap.size/\ ¬Oi πc b:= λb hb=>⟨by
  rcases hb.2 with h1|h1
  ·exact (h.1.own h1.1).1
  ·exact Nat.lt_of_lt_of_le (h.1.sc b h1).1 h.1.below.size,hb.1⟩
 have NQ: ∀l∈pl,∀t∈Gv 0 s.ins as,t.2.Pq≠l:= λl hl t ht e=>(CB l hl).1 (List.mem_map.2 ⟨t,LS▸ht,e⟩)
 have hSg:s.ptr.isSome=true->S g:= λXB=>by
  obtain ⟨l,hl,q,h1,h2,h3⟩:=BW g ⟨XB,rfl⟩
  have WW: ¬Oi πc g:= λhb=>by
   obtain ⟨t,t1,_,q',t3,t4,_⟩:=Yd g hb
   exact NQ l hl t t1 (h.1.apart t3 h1 t4 h2)
  refine ⟨WW, .inl ⟨⟨l,q,h1,h2⟩,λl' Ha r' fm hf=>?_⟩⟩
  obtain ⟨t',VJ,_,rfl⟩:=hV' l' Ha
  rw [LS] at VJ
  exact NQ l hl t' VJ (h.1.apart fm h1 hf h2)
 refine (hs.calls w S πc us x r o g vs Kw hSg (Zb.Es (λb hb=>hb.elim (Aa1 b) λh=>h.2) s.ins 0 x us (hT.Aab s.ins 0 x as us)) dr hS Ael WM).mono ?_
 rintro e w' ⟨v,Sj,tW,rfl,Zs,pM,NB,rH,ZE,HW,UG,pR⟩
 obtain ⟨ρ,NZ,rO,HV,QT⟩: ∃ρ:Pi,(∀l,ρ l=(tW l).map full)/\Et w' (dG S πc tW) ρ 0 s.outs r Sj/\bu ρ (λb=>b<w'.heap.size/\(w.heap.size<=b\/ ∃l q,l<Aj/\πc l=some q/\q.Ax b))/\ ∀l q,ρ l=some q->q.cl=q.Ax:=by
  have un: ∀l q,(tW l).map full=some q-> ∃q0,tW l=some q0/\q=full q0:= λl q hq=>by
   cases hp:tW l with
   |none=>rw [hp] at hq;cases hq
   |some q0=>rw [hp] at hq;exact ⟨q0,rfl,(Option.some.inj hq).symm⟩
  refine ⟨λl=>(tW l).map full,λ_=>rfl,Et.full s.outs 0 r Sj ZE,⟨λl q b h1 h2=>?_,λl l' q q' b h1 h2 h3 h4=>?_⟩,λl q h1=>?_⟩
  ·obtain ⟨q0,h5,rfl⟩:=un l q h1
   exact HW.Si l q0 b h5 h2
  ·obtain ⟨q0,h5,rfl⟩:=un l q h1
   obtain ⟨VF,h6,rfl⟩:=un l' q' h2
   exact HW.inj l l' q0 VF b h5 h6 h3 h4
  ·obtain ⟨q0,_,rfl⟩:=un l q h1
   rfl
 refine ⟨v,rfl,?_⟩
 split at he
 ·cases he
 rename_i av0 c6
 split at he
 rotate_left
 ·cases he
 rename_i Qi
 simp only [Option.some.injEq,Prod.mk.injEq] at he
 obtain ⟨rfl,rfl⟩:=he
 let D1:Nat->Prop:=if s.flat then λ_=>True else dG S πc tW
 have Aeo:Hc w' D1 πc 0 s.ins o:=by
  show Hc w' (if s.flat then λ_=>True else dG S πc tW) πc 0 s.ins o
  split
  ·rename_i hf
   unfold MSpec.flat at hf
   simp only [Bool.and_eq_true] at hf
   exact Hc.any s.ins 0 o hf.2 rH
  ·exact rH
 have ZF:Et w' D1 ρ 0 s.outs r Sj:=by
  show Et w' (if s.flat then λ_=>True else dG S πc tW) ρ 0 s.outs r Sj
  split
  ·rename_i hf
   unfold MSpec.flat at hf
   simp only [Bool.and_eq_true] at hf
   exact Et.any s.outs 0 r Sj hf.1 rO
  ·exact rO
 obtain ⟨q1,q2,q3,q4⟩:=ng (D:=D1) (X:=X) (π:=π) (H:=st.heap) h.1 NB.size (tks:=Gv 0 s.ins as) (πc:=πc) (λt ht q b hq hb Hl hn=>NB.block b Hl λxU=>by
   rcases xU with ⟨c,r',h1,h2⟩|hg
   rotate_left
   ·obtain ⟨l,hl,q',h1,h2,_⟩:=BW b hg
    exact NQ l hl t ht (h.1.apart hq h1 hb h2)
   obtain ⟨t',t1,t2,_,p,t3,t4,_⟩:=Ot c r' b h1 h2
   have:=s7 xT ht t1 (h.1.apart hq t3 hb t4)
   subst this
   exact hn r' (t2▸h1) h2) s.ins 0 x as us o st st1 (by omega) (λ_ h=>h) xT hT Aeo TV (λ_ _=>rfl)
 have TY: ∀t∈Gv 0 s.ins as,t.2.reads=true->t.1<Aj:=by
  have: ∀(cs:List (Bool×CK)) (k:Nat) (as:List AC),k+cs.length<100000-> ∀t∈Gv k cs as,t.2.reads=true->t.1<Aj:=by
   intro cs
   induction cs with
   |nil=>intro k as _ t ht;cases as<;>cases ht
   |cons p r ih=>
    intro k as hk t ht hr
    simp only [List.length_cons] at hk
    cases as with
    |nil=>cases ht
    |cons a as=>
     simp only [Gv] at ht
     rcases List.mem_append.1 ht with ht|ht
     ·rcases wO ht with ⟨_,h1⟩|⟨h1,_⟩
      ·rw [hr] at h1;cases h1
      ·rw [h1];exact ak (by omega)
     ·exact ih (k+1) as (by omega) t ht hr
  exact this s.ins 0 as (by omega)
 let d:=dst.getD 0
 let ks:=Lo s tks d
 let dead:=gf tks++ks++(if s.flat then [] else tD tks)
 let part:=whole tks
 have Afj:s.outs.length+(fF s d).length=s.Nj:=by unfold MSpec.Nj fF;cases s.rp<;>rfl
 obtain ⟨TL,Aew,RC⟩:ks.length=s.Nj/\ks.Nodup/\ ∀l∈ks,l<Aj:=by
  have:=yg my
  rw [Afj] at this
  exact this
 have WW:s.outs.length<=s.Nj:=by unfold MSpec.Nj;omega
 have NV: ∀tid,s.rp=some tid->Bp ks s.outs.length=Mq d/\s.Nj=s.outs.length+1:= λtid Qj=>by
  have h1:s.Nj=s.outs.length+1:=by unfold MSpec.Nj;rw [Qj]
  refine ⟨?_,h1⟩
  have h2:ks=fX s tks d++ [Mq d]:=by show fX s tks d++fF s d=_;unfold fF;rw [Qj]
  have h3:(fX s tks d).length=s.outs.length:=by rw [h2] at TL;simp at TL;omega
  rw [Lb (by rw [TL];omega)]
  simp only [h2]
  rw [List.getElem_append_right (by omega)]
  simp [h3]
 have HT:=um Aew RC
 have Aeu: ∀j,j<s.Nj->Bp ks j<Aj:= λj hj=>RC _ (mem_keys.2 ⟨j,by omega,rfl⟩)
 let π':Pi:= λl=>match (List.range s.Nj).find? λj=>decide (Bp ks j=l) with
  |some j=>ρ (Fh j)
  |none=>if l∈dead then none else π l
 have oq: ∀j,j<s.Nj->π' (Bp ks j)=ρ (Fh j):= λj hj=>by
  show (match (List.range s.Nj).find? λi=>decide (Bp ks i=Bp ks j) with|some i=>ρ (Fh i)|none=>_)=_
  cases hf:(List.range s.Nj).find? λi=>decide (Bp ks i=Bp ks j) with
  |none=>
   have:=List.find?_eq_none.1 hf j (List.mem_range.2 hj)
   simp at this
  |some i=>
   have:=List.find?_some hf
   rw [HT i j (of_decide_eq_true this)]
 have mw: ∀j,j<s.Nj->Bp ks j∈dead:= λj hj=>List.mem_append_left _ (List.mem_append_right _ (mem_keys.2 ⟨j,by omega,rfl⟩))
 have rJ: ∀l,(¬ ∃j,j<s.Nj/\l=Bp ks j)->π' l=if l∈dead then none else π l:= λl hl=>by
  show (match (List.range s.Nj).find? λi=>decide (Bp ks i=l) with|some i=>ρ (Fh i)|none=>_)=_
  cases hf:(List.range s.Nj).find? λi=>decide (Bp ks i=l) with
  |none=>rfl
  |some i=>
   have h1:=List.find?_some hf
   exact absurd ⟨i,List.mem_range.1 (List.mem_of_find?_eq_some hf),(of_decide_eq_true h1).symm⟩ hl
 have IE: ∀l,l∉dead->π' l=π l:= λl hl=>by
  rw [rJ l (λ⟨j,h1,h2⟩=>hl (h2▸mw j h1)),if_neg hl]
 have XV: ∀b,Oi π' b\/X.Sc b->D1 b:=by
  intro b hb
  show (if s.flat then λ_=>True else dG S πc tW) b
  split
  ·trivial
  rename_i hnf
  rcases hb with ⟨l,q,hl,hf⟩|hb
  ·by_cases hk: ∃j,j<s.Nj/\l=Bp ks j
   ·obtain ⟨j,hj,rfl⟩:=hk
    rw [oq j hj,NZ] at hl
    cases hp:tW (Fh j) with
    |none=>rw [hp] at hl;cases hl
    |some q0=>rw [hp] at hl;simp only [Option.map_some,Option.some.injEq] at hl;subst hl;exact .inr (.inr ⟨Fh j,q0,hp,hf⟩)
   ·have e0:π' l=if l∈dead then none else π l:=rJ l hk
    rw [e0] at hl
    split at hl
    ·cases hl
    ·rename_i NN
     by_cases ho:Oi πc b
     ·obtain ⟨c,q',hc,hcb⟩:=ho
      obtain ⟨t,t1,t2,t0,p,t3,t4,_⟩:=Ot c q' b hc hcb
      have rK:=h.1.apart hl t3 hf t4
      refine .inr (.inl ⟨c,q',Classical.byContradiction λhn=>?_,hc,hcb⟩)
      exact NN (List.mem_append_left _ (List.mem_append_left _ (Yk.2 ⟨t,LS▸t1,⟨by rw [t2];omega,t0⟩,rK.symm⟩)))
     ·refine .inl ⟨ho, .inl ⟨⟨l,q,hl,hf⟩,λl0 TN r0 TW hf0=>?_⟩⟩
      have:=h.1.apart hl TW hf hf0
      subst this
      exact NN (List.mem_append_right _ (by rw [if_neg hnf];exact mO.2 (hV' l TN)))
  ·refine .inl ⟨λho=>?_, .inr hb⟩
   have h1:=h.1.sc b hb
   rcases (h.1.own (xV b ho)).2 with h2|h2
   ·omega
   ·exact h1.2 h2
 have hpd: ∀l∈pl,l∉dead:= λl hl hd=>by
  rcases List.mem_append.1 hd with hd|hd
  ·rcases List.mem_append.1 hd with hd|hd
   ·obtain ⟨t,ht,_,e⟩:=Yk.1 hd
    exact (CB l hl).1 (List.mem_map.2 ⟨t,ht,e⟩)
   ·exact (CB l hl).2 hd
  ·split at hd
   ·cases hd
   ·obtain ⟨t,ht,_,e⟩:=mO.1 hd
    exact (CB l hl).1 (List.mem_map.2 ⟨t,ht,e⟩)
 have TK: ∀j,j<s.Nj->Bp ks j∉pl:= λj hj hp=>hpd _ hp (mw j hj)
 let bv:Option OB:=s.rp.map λtid=> .var tid ((Uz (Bp ks) 0 s.outs r).drop s.Sv)
 let H1:=(l4 s.ins (Uz (Bp ks) 0 s.outs r) pl (st1.Vu dead part)).heap
 have WI: ∀l,l∉pl->Ae H1 l=if l∈dead then none else (Ae st1.heap l).map (OB.map (Au dead part)):= λl hl=>by
  show Ae (l4 _ _ _ _).heap l=_
  rw [yU hl]
  show Ae (Py (st1.heap.map λp=>(p.1,p.2.map (Au dead part))) dead) l=_
  rw [Ic,Jg]
 let H2:=vf H1 (Mq d) bv
 have hvd: ∀tid,s.rp=some tid->Mq d∈dead/\Mq d∉pl:= λtid Qj=>by
  obtain ⟨e1,e2⟩:=NV tid Qj
  rw [<-e1]
  exact ⟨mw _ (by omega),TK _ (by omega)⟩
 have XZ: ∀l,(∀tid,s.rp=some tid->l≠Mq d)->Ae H2 l=Ae H1 l:= λl hl=>by
  show Ae (vf H1 (Mq d) (s.rp.map _)) l=_
  cases xf:s.rp with
  |none=>rfl
  |some tid=>exact Jo _ _ _ _ (hl tid xf)
 have Ado: ∀tid,s.rp=some tid->Ae H2 (Mq d)=some (.var tid ((Uz (Bp ks) 0 s.outs r).drop s.Sv)):= λtid Qj=>by
  show Ae (vf H1 (Mq d) (s.rp.map _)) (Mq d)=_
  rw [Qj]
  exact Kj _ _ _ (by rw [WI _ (hvd tid Qj).2,if_pos (hvd tid Qj).1])
 have hkv: ∀j,j<s.outs.length-> ∀tid,s.rp=some tid->Bp ks j≠Mq d:= λj hj tid Qj e=>by
  have:=HT j s.outs.length (e.trans (NV tid Qj).1.symm)
  omega
 have hH2: ∀l,l∉pl->(∀tid,s.rp=some tid->l≠Mq d)->Ae H2 l=if l∈dead then none else (Ae st1.heap l).map (OB.map (Au dead part)):= λl hl hv=>by
  rw [XZ l hv,WI l hl]
 let H':=Qp (zO st (gf tks)) (Bp ks) 0 s.outs r H2
 obtain ⟨n1,n2,n3⟩:=ky (D:=D1) (X:=X) (key:=Bp ks) HT (fr:=zO st (gf tks)) (ρ:=ρ) s.outs 0 r Sj H2 ZF (λj _ hj=>by
  rw [hH2 _ (TK j (by omega)) (hkv j (by omega)),if_pos (mw j (by omega))])
 have iW: ∀l,l∉dead->l∉pl->Ae H' l=(Ae st1.heap l).map (OB.map (Au dead part)):= λl hl ov=>by
  show Ae (Qp _ _ _ _ _ _) l=_
  rw [n1 l λj _ hj e=>hl (e▸mw j (by omega)),hH2 l ov (λtid Qj e=>hl (e▸(hvd tid Qj).1)),if_neg hl]
 have MZ: ∀l,l∈dead->(∀j,j<s.Nj->l≠Bp ks j)->Ae H' l=none:= λl hl hj=>by
  show Ae (Qp _ _ _ _ _ _) l=_
  rw [n1 l λj _ h2=>hj j (by omega),hH2 l (λhp=>hpd l hp hl) (λtid Qj e=>hj s.outs.length (by have:=(NV tid Qj).2;omega) (e.trans (NV tid Qj).1.symm)),if_pos hl]
 have newAt: ∀l b',Ae H' l=some b'->(l∈dead\/Ae st.heap l=none)-> ∃j,j<s.Nj/\l=Bp ks j:=by
  intro l b' hb hd
  refine Classical.byContradiction λhn=>?_
  have lu: ∀j,j<s.Nj->l≠Bp ks j:= λj hj e=>hn ⟨j,hj,e⟩
  rcases Classical.em (l∈dead) with YJ|YJ
  ·rw [MZ l YJ lu] at hb;cases hb
  ·rcases hd with hd|hd
   ·exact YJ hd
   ·rw [iW l YJ (λhp=>by obtain ⟨_,_,_,_,_,_,_,h1,_⟩:=CC l hp;rw [hd] at h1;cases h1)] at hb
    have:Ae st1.heap l=none:=by
     by_cases hi: ∃t∈Gv 0 s.ins as,t.2.Pq=l
     ·obtain ⟨t,ht,e⟩:=hi
      by_cases Hl:t.1<Aj
      ·rw [<-e,q3 t ht Hl,e];exact hd
      ·obtain ⟨b0,_,h1,_⟩:=q4 t ht Hl
       rw [e,hd] at h1;cases h1
     ·rw [q2 l λt ht e=>hi ⟨t,ht,e.symm⟩];exact hd
    rw [this] at hb;cases hb
 have TC: ∀k,zO st (gf tks)=true-> ∀q,ρ (Fh k)=some q->q.Ax q.g->X.w0.heap.size<=q.g:=by
  intro k uW q hq hg
  rcases (HV.Si _ q _ hq hg).2 with h1|⟨c,p,h1,h2,h3⟩
  ·exact Nat.le_trans h.1.below.size h1
  ·obtain ⟨t,t1,t2,t0,p',t3,t4,_⟩:=Ot c p _ h2 h3
   have hm:t.2.Pq∈gf tks:=Yk.2 ⟨t,LS▸t1,⟨by rw [t2];exact h1,t0⟩,rfl⟩
   have:=List.all_eq_true.1 uW _ hm
   split at this
   ·rename_i fr tr e te xs hl
    unfold St.at at hl
    have hb:=(h.1.heap t.2.Pq).Ma hl
    simp only [At,Fe,t3] at hb
    rw [hb.1.2.1 _ t4]
    exact hb.1.2.2 this
   ·cases this
 have TA: ∀k q,ρ (Fh k)=some q->k<s.outs.length->q.Ax q.g:=by
  intro k q hq hk
  exact Et.QF s.outs 0 r Sj rO k (Nat.zero_le _) ((Nat.zero_add _).symm▸hk) q hq
 have hinv: ∀l,l∉dead->(∃t∈Gv 0 s.ins as,t.2.reads=false/\t.2.Pq=l)->fR X D1 w' π st.heap st1.heap l:=by
  rintro l hd ⟨t,ht,h0,rfl⟩
  by_cases Hl:t.1<Aj
  ·exact absurd (List.mem_append_left _ (List.mem_append_left _ (Yk.2 ⟨t,LS▸ht,⟨Hl,h0⟩,rfl⟩))) hd
  ·exact q4 t ht Hl
 have rM: ∀l,(¬ ∃t∈Gv 0 s.ins as,t.2.reads=false/\t.2.Pq=l)->Ae st1.heap l=Ae st.heap l:= λl hn=>by
  by_cases hi: ∃t∈Gv 0 s.ins as,t.2.Pq=l
  ·obtain ⟨t,ht,rfl⟩:=hi
   have hr:t.2.reads=true:=by
    cases h0:t.2.reads with
    |true=>rfl
    |false=>exact absurd ⟨t,ht,h0,rfl⟩ hn
   exact q3 t ht (TY t ht hr)
  ·exact q2 l λt ht e=>hi ⟨t,ht,e.symm⟩
 have QO: ∀l∈pl,∀p,s.ptr=some p->Ae H' l=some (.var p.1 (aX s.ins (cells.map (Au dead part)) (Uz (Bp ks) 0 s.outs r))):= λl hl p hp=>by
  obtain ⟨p',q,h1,h2,_,_,_,h3,_⟩:=CC l hl
  rw [hp] at h1;cases h1
  show Ae (Qp _ _ _ _ _ _) l=_
  rw [n1 l λj _ hj e=>TK j (by omega) (e▸hl),XZ l (λtid Qj e=>(hvd tid Qj).2 (e▸hl))]
  show Ae (l4 _ _ _ _).heap l=_
  rw [h2]
  refine EC ?_
  show Ae (Py (st1.heap.map λp=>(p.1,p.2.map (Au dead part))) dead) l=_
  rw [Ic,Jg,if_neg (hpd l hl),rM l (λ⟨t,ht,_,e⟩=>NQ l hl t ht e),h3]
  rfl
 have RE: ∀j,j<s.Nj->s.outs.length<=j-> ∃tid,s.rp=some tid/\j=s.outs.length:= λj h1 h2=>by
  cases xf:s.rp with
  |none=>unfold MSpec.Nj at h1;rw [xf] at h1;simp at h1;omega
  |some tid=>exact ⟨tid,rfl,by have:=(NV tid xf).2;omega⟩
 have hHv: ∀tid,s.rp=some tid->Ae H' (Mq d)=some (.var tid ((Uz (Bp ks) 0 s.outs r).drop s.Sv)):= λtid Qj=>by
  show Ae (Qp _ _ _ _ _ _) _=_
  rw [n1 _ λj _ hj e=>hkv j (by omega) tid Qj e.symm,Ado tid Qj]
 suffices YX:Ai X π' (eR st st1 d s pl tks r) a w'/\Am X w' π' (eR st st1 d s pl tks r).heap av0 v by
  obtain ⟨m1,m2⟩:=YX
  have kb: ∀(kj:List (Nat×Nat)) (l:Nat),l∈Uv st.heap ks tks kj->gD st.heap l=true/\ ∃k j t,(k,j)∈kj/\t∈tks/\t=(Bo false k,Loc.row l)/\ks[j]?=some l:=by
   intro kj
   induction kj with
   |nil=>intro l hl;cases hl
   |cons p kj ih=>
    intro l hl
    obtain ⟨k,j⟩:=p
    have up:l∈Uv st.heap ks tks kj->gD st.heap l=true/\ ∃k' j' t,(k',j')∈(k,j)::kj/\t∈tks/\t=(Bo false k',Loc.row l)/\ks[j']?=some l:= λhl=>by
     obtain ⟨h1,k',j',t,h2,h3⟩:=ih l hl
     exact ⟨h1,k',j',t,List.mem_cons_of_mem _ h2,h3⟩
    simp only [Uv] at hl
    split at hl
    ·rename_i x0 l1 l2 h1 h2
     split at hl
     ·rename_i hc
      simp only [Bool.and_eq_true] at hc
      rcases List.mem_cons.1 hl with rfl|hl
      ·have:=List.find?_some h1
       have e1:=Nat.eq_of_beq_eq_true this
       have e2:=Nat.eq_of_beq_eq_true hc.1
       dsimp only at e1
       exact ⟨hc.2,k,j,_,List.mem_cons_self,List.mem_of_find?_eq_some h1,by rw [e1],by rw [h2,e2]⟩
      ·exact up hl
     ·exact up hl
    ·exact up hl
  obtain ⟨r1,r2⟩:=yd h m1 (ls:=Uv st.heap ks tks s.keeps) (n:=s.Cs x) (λl hl=>by
   obtain ⟨_,k,j,t,h1,h2,h3,h4⟩:=kb s.keeps l hl
   have hj:j<ks.length:=(List.getElem?_eq_some_iff.1 h4).1
   have FX:Bp ks j=l:=by
    rw [Lb hj]
    rw [List.getElem?_eq_getElem hj] at h4
    exact Option.some.inj h4
   have ou:=pR (k,j) h1
   rw [show π' l=ρ (Fh j) by rw [<-FX];exact oq j (by omega),NZ]
   have hc:πc (Bo false k)=(π l).map full:=YD k l (by rw [<-h3,<-LS];exact h2)
   dsimp only at ou
   rw [hc] at ou
   cases hp:π l<;>cases hq:tW (Fh j)<;>(rw [hp,hq] at ou;exact ou)) (λl hl=>(kb s.keeps l hl).1) Qi
  exact ⟨π',r1,r2 av0 v m2⟩
 refine ⟨?_,?_⟩
 ·have hx:=Ai.SK (π':=π') (H':=H') (dead:=dead) (part:=part) (inv:= λl=>(∃t∈Gv 0 s.ins as,t.2.reads=false/\t.2.Pq=l)\/l∈pl) (gv:= λb=>Oi πc b\/s.gv g b) h (λb hb=>by
    rcases hb with hb|hb
    ·obtain ⟨t,h1,h0,q,h2,h3,_⟩:=Yd b hb
     exact ⟨_,q, .inl ⟨t,h1,h0,rfl⟩,h2,h3⟩
    ·obtain ⟨l,hl,q,h1,h2,_⟩:=BW b hb
     exact ⟨l,q, .inr hl,h1,h2⟩) NB (λl b0 hd h0=>⟨IE l hd,?_⟩) (λl b' hb hd=>?_) (λl hl=>?_) (λm q hd hp hm hxa=>?_)
  ·have:({tmps:=(l4 s.ins (Uz (Bp ks) 0 s.outs r) pl (st1.Vu dead part)).tmps,heap:=H'} :St)= {tmps:=st.tmps.map (·.map (Au dead part)),heap:=H'} :=by
    rw [jA]
    show ({tmps:=st1.tmps.map (·.map (Au dead part)),heap:=H'} :St)=_
    rw [q1]
   show Ai X π' ({tmps:=(l4 s.ins (Uz (Bp ks) 0 s.outs r) pl (st1.Vu dead part)).tmps,heap:=H'} :St) a w'
   rw [this]
   exact hx
  ·by_cases NK:l∈pl
   ·obtain ⟨p,q,h1,h2,h3,h4,h5,h6,h7⟩:=CC l NK
    rw [h0] at h6;cases h6
    have o4:=QO l NK p h1
    refine .inr ⟨_,o4,⟨rfl,by rw [jr]⟩,λm=>?_⟩
    unfold eM at pM
    rw [h1] at pM
    obtain ⟨cs,k1,k2,k3⟩:=pM
    rw [<-h7] at k3
    refine ⟨q,h3,h4,cs.toArray,by rw [<-h5];exact k1,?_⟩
    refine Hv.to (dy (H:=st.heap) IE (λl1 b1 sz n hd1 HL NS=>?_) s.ins 0 cells iz x us o st st1 (Uz (Bp ks) 0 s.outs r) Sj cs (has▸hT) YU (has▸TV) k3 (n3 π' XV (λj _ hj=>oq j (by omega)))) (by simpa using k2)
    have hnp:l1∉pl:= λhp=>by
     obtain ⟨_,_,_,_,_,_,_,h8,_⟩:=CC l1 hp
     rw [HL] at h8;cases h8;cases NS
    by_cases hi: ∃t∈Gv 0 s.ins as,t.2.reads=false/\t.2.Pq=l1
    ·obtain ⟨b1,b',e1,e2,e3,e4,e5,e6⟩:=hinv l1 hd1 hi
     rw [HL] at e1;cases e1
     exact ⟨b',by rw [iW l1 hd1 hnp,e2];simp [e4],by rw [e5.row];exact NS⟩
    ·exact ⟨_,by rw [iW l1 hd1 hnp,rM l1 hi,HL];rfl,by rw [OB.sL];exact NS⟩
   by_cases hi: ∃t∈Gv 0 s.ins as,t.2.reads=false/\t.2.Pq=l
   ·obtain ⟨b1,b',e1,e2,e3,e4,e5,e6⟩:=hinv l hd hi
    rw [h0] at e1;cases e1
    exact .inr ⟨b',by rw [iW l hd NK,e2];simp [e4],by rw [e3];exact e5,λ_=>e6 π' H' XV⟩
   ·exact .inl ⟨λhh=>hh.elim hi NK,by rw [iW l hd NK,rM l hi,h0];rfl⟩
  ·obtain ⟨j,hj,rfl⟩:=newAt l b' hb hd
   refine ⟨Aeu j hj,?_,λq b hq=>?_⟩
   ·rw [oq j hj]
    rcases Nat.lt_or_ge j s.outs.length with WQ|WQ
    ·rcases n2 j (Nat.zero_le _) (by omega) with ⟨e1,_⟩|⟨b2,e1,e2⟩
     ·rw [show Ae H' (Bp ks j)=none from e1] at hb;cases hb
     ·rw [show Ae H' (Bp ks j)=some b2 from e1] at hb;cases hb
      exact e2 X π' H' (λhf q hq=>TC j hf q hq (TA j q hq WQ)) XV
    ·obtain ⟨tid,Qj,hj0⟩:=RE j hj WQ
     subst hj0
     rw [(NV tid Qj).1,hHv tid Qj] at hb;cases hb
     unfold lK at Zs
     rw [Qj] at Zs
     obtain ⟨q,y1,y2,y3,y4,_⟩:=Zs
     rw [NZ,y1]
     exact ⟨full q,rfl,y2,_,y3,Hv.to (Hv.take s.Sv (n3 π' XV (λj _ hj=>oq j (by omega)))).2 (by simpa using y4)⟩
   ·rw [oq j hj] at hq
    have Nt:=QT _ q hq
    refine ⟨λhf=>by rw [Nt];exact hf,λhf=>?_⟩
    rw [Nt] at hf
    obtain ⟨h1,h2⟩:=HV.Si _ q b hq hf
    refine ⟨h1,h2.imp id ?_,λl2 r2 YL BZ SY=>?_⟩
    ·rintro ⟨c,p,h3,h4,h5⟩
     obtain ⟨t,t1,t2,t0,p',t3,t4,_⟩:=Ot c p b h4 h5
     exact ⟨t.2.Pq,p',List.mem_append_left _ (List.mem_append_left _ (Yk.2 ⟨t,LS▸t1,⟨by rw [t2];exact h3,t0⟩,rfl⟩)),t3,t4⟩
    ·by_cases hk: ∃j,j<s.Nj/\l2=Bp ks j
     ·obtain ⟨j2,hj2,rfl⟩:=hk
      rw [oq j2 hj2] at BZ
      rw [QT _ r2 BZ] at SY
      have:=HV.inj _ _ r2 q b BZ hq SY hf
      unfold Fh at this
      have:j2=j:=by omega
      rw [this]
     ·have e0:π' l2=if l2∈dead then none else π l2:=rJ l2 hk
      rw [e0] at BZ
      split at BZ
      ·cases BZ
      ·rename_i NN
       rcases YL with YL|YL
       ·exact absurd YL NN
       ·rw [(h.1.heap l2).emp YL] at BZ;cases BZ
  ·by_cases hk: ∃j,j<s.Nj/\l=Bp ks j
   ·obtain ⟨j,hj,rfl⟩:=hk
    rw [oq j hj]
    rcases Nat.lt_or_ge j s.outs.length with WQ|WQ
    ·rcases n2 j (Nat.zero_le _) (by omega) with ⟨_,e1⟩|⟨b2,e1,_⟩
     ·exact e1
     ·rw [show Ae H' (Bp ks j)=some b2 from e1] at hl;cases hl
    ·obtain ⟨tid,Qj,hj0⟩:=RE j hj WQ
     subst hj0
     rw [(NV tid Qj).1,hHv tid Qj] at hl;cases hl
   ·have e0:π' l=if l∈dead then none else π l:=rJ l hk
    rw [e0]
    split
    ·rfl
    ·rename_i hd
     by_cases NK:l∈pl
     ·obtain ⟨p,_,h1,_⟩:=CC l NK
      rw [QO l NK p h1] at hl;cases hl
     rw [iW l hd NK] at hl
     by_cases hi: ∃t∈Gv 0 s.ins as,t.2.reads=false/\t.2.Pq=l
     ·obtain ⟨_,b',_,e2,_⟩:=hinv l hd hi
      rw [e2] at hl;cases hl
     ·rw [rM l hi] at hl
      cases h0:Ae st.heap l with
      |none=>exact (h.1.heap l).emp h0
      |some b=>rw [h0] at hl;cases hl
  ·refine NB.block _ (h.1.lt hm).1 λxU=>?_
   rcases xU with ho|hg
   rotate_left
   ·obtain ⟨l,hl,q',h1,h2,_⟩:=BW _ hg
    have rK:=h.1.apart hm h1 (h.1.Ax hm) h2
    obtain ⟨_,_,_,_,_,_,_,h3,_⟩:=CC l hl
    obtain ⟨b,hxa,hxb⟩:=hxa
    rw [rK,h3] at hxa;cases hxa
    exact hxb rfl
   obtain ⟨t,t1,t0,p,t3,t4,t5⟩:=Yd _ ho
   have rK:=h.1.apart hm t3 (h.1.Ax hm) t4
   have XA:p=q:=by rw [<-rK,hm] at t3;exact (Option.some.inj t3).symm
   cases RO:t.2 with
   |row l=>
    refine hp ?_
    show m∈whole tks
    unfold whole
    exact List.mem_flatMap.2 ⟨t,LS▸t1,by rw [RO,rK,RO];simp [Loc.Pq]⟩
   |sub l i j=>exact t5 l i j RO (by rw [XA])
   |view l=>rw [RO] at t0;cases t0
 ·have Afi:=n3 π' XV (λj _ hj=>oq j (by omega))
  cases xf:s.rp with
  |some tid=>
   unfold lK at Zs
   rw [xf] at Zs
   obtain ⟨q,y1,y2,y3,y4,rfl⟩:=Zs
   unfold OU at c6
   rw [xf] at c6
   simp only [Option.some.injEq] at c6;subst c6
   refine ⟨full q,tid,_,hHv tid xf,?_,rfl⟩
   rw [<-(NV tid xf).1,oq _ (by have:=(NV tid xf).2;omega),NZ,y1]
   rfl
  |none=>
  unfold lK at Zs
  rw [xf] at Zs
  obtain ⟨Zs,Afo⟩:=Zs
  unfold OU at c6
  rw [xf] at c6
  simp only at c6
  obtain ⟨g1,g2,g3,g4⟩:=Xz s.Fz _ (Sj.drop s.Sv) Afo (Hv.take s.Sv Afi).2
  unfold Ab0 at c6
  unfold JY at Zs
  split at c6
  ·rename_i hm
   rw [if_pos hm] at Zs
   simp only [Option.some.injEq] at c6;subst c6
   subst Zs
   exact ⟨_,rfl,g3.symm,g4⟩
  ·rename_i hm
   rw [if_neg hm] at Zs
   split at c6
   ·rename_i av1 hga
    simp only [Option.some.injEq] at c6;subst c6
    rcases Zs with Zs|Zs
    ·exact g2 0 _ v (by rw [hga];rfl) (by rw [Zs];rfl)
    ·rw [hga,Zs] at g1;cases g1
   ·simp only [Option.some.injEq] at c6;subst c6;trivial
   ·cases c6
end
end Go.Proofs.Ytjbdmibbbpdnnaa
