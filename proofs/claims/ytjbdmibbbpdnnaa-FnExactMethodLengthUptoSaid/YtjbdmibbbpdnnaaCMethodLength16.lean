/-
  Part 17 of the proof that the statement FnExactMethodLength holds.
-/
import Derived.Test.YtjbdmibbbpdnnaaCMethodLength15
namespace Go.Proofs.Ytjbdmibbbpdnnaa
open Go.RowKit
section
variable {P:Program} {T:Tab} {X:Ctx} {w w':World} {π π':Pi} {H H':List (Nat×OB)}
theorem Tz (k:Nat): ¬Bq true k<Ai:=by unfold Bq Ai;simp
theorem aF {k:Nat} (h:k<100000):Bq false k<Ai:=by unfold Bq Ai;simp;omega
def gD (X:Ctx) (D:Nat->Prop) (w':World) (π:Pi) (H Hn:List (Nat×OB)) (l:Nat):Prop:=
 ∃b0 b',Ae H l=some b0/\Ae Hn l=some b'/\(∀f,OB.map f b0=b0)/\(∀f,OB.map f b'=b')/\b0.ai b'/\ ∀π' H',(∀b,Nn π' b\/X.Sc b->D b)->Au X w' π' H' (π l) b'
theorem NA {io:Bool} {k:Nat} {τ:Ty} {a:AC} {t:Nat×Loc} (h:t∈Kp io k (.Gt τ) a):t.1=Bq false k:=by
 cases a<;>simp [Kp,views] at h<;>first|(obtain ⟨_,⟨_,_⟩,rfl⟩:=h;rfl)|(rw [h])
theorem GX {io:Bool} {k:Nat} {e:Ty} {te:TypeId} {a:AC} {t:Nat×Loc} (h:t∈Kp io k (.part e te) a):t.1=Bq io k:=by cases a<;>simp [Kp] at h<;>rw [h]
theorem NB {io:Bool} {k:Nat} {e:Ty} {te:TypeId} {a:AC} {t:Nat×Loc} (h:t∈Kp io k (.row e te) a):t.1=Bq io k:=by cases a<;>simp [Kp] at h<;>rw [h]
theorem GY {io:Bool} {k:Nat} {e:Ty} {te:TypeId} {a:AC} {t:Nat×Loc} (h:t∈Kp io k (.Dx e te) a):t.1=Bq io k:=by cases a<;>simp [Kp] at h<;>rw [h]
theorem Zv {D:Nat->Prop} {π':Pi} {fr:Bool} {e:Ty} {es:List Value} {y:e.den} (hD: ∀b,Nn π' b\/X.Sc b->D b) (h:Cells w' D e es y):Cells w' (Be X.w0.heap.size X.Sc π' (fr&&e.flat)) e es y:=by
 cases hf:e.flat with
 |true=>exact Cells.flat e es y hf h
 |false=>exact Cells.Cr (Nat.le_refl _) (λ_ _ _=>rfl) (λb _ hb=>by
   rcases hb with hb|hb|⟨hb,_⟩
   ·exact hD b (.inl hb)
   ·exact hD b (.inr hb)
   ·simp at hb) e es y h
theorem GZ {D P:Nat->Prop} {g o:Nat} {cur:Array Value} {tr:Bool} {e:Ty} {xs:List e.den}
  (h: ∀(i:Nat) (x:e.den),xs[i]?=some x-> ∃es:List Value,es.length=e.size/\(∀j u,es[j]?=some u->cur[(o+i)*e.size+j]?=some u)/\Cells w' D e es x) (ht:(tr&&e.flat)=true):Qb w' P g o cur e xs:=by
 simp only [Bool.and_eq_true] at ht
 exact gX ht.2 h
theorem FR {D:Nat->Prop} (h:Hw X w π H) {k:Nat} {c:CK} {ys:c.den} {a:AC} {u:Value} {r:Option Real} {x:c.den} {cur st1:St} (hs:w.heap.size<=w'.heap.size)
  (hU: ∀l i j q b,a= .sub l i j->π l=some q->q.Ax b->b<w.heap.size->(∀r',r=some r'-> ¬r'.Ax b)->w'.heap[b]?=w.heap[b]?)
  {V:List Nat} (ht:Zl w (Jn X π V) r u c x/\Mw w π H true a u r c x) (hr:aY w' D r c ys) (he:Vy cur c ys a=some st1) (bH: ∀t∈Kp true k c a,Ae cur.heap t.2.Pu=Ae H t.2.Pu):
  st1.tmps=cur.tmps/\(∀m,(∀t∈Kp true k c a,m≠t.2.Pu)->Ae st1.heap m=Ae cur.heap m)/\ ∀t∈Kp true k c a,gD X D w' π H st1.heap t.2.Pu:=by
 obtain ⟨hc,ht⟩:=ht
 cases c with
 |Gt τ=>cases a<;>simp [Vy] at he;subst he;exact ⟨rfl,λ_ _=>rfl,λt ht=>by simp [Kp] at ht⟩
 |row e te=>
  simp only [Mw] at ht
  cases a<;>simp only [] at ht<;>first|(exact ht.elim)|skip
  ·simp only [Vy,Option.some.injEq] at he;subst he
   exact ⟨rfl,λ_ _=>rfl,λt ht=>by simp [Kp] at ht⟩
  ·rename_i l off len
   obtain ⟨rfl,rfl,rfl,fr,tr,hl⟩:=ht
   have Na:Ae cur.heap l=some (.arr fr tr e te x):=(bH _ (List.mem_singleton.2 rfl)).trans hl
   simp only [Vy,St.at,Na] at he
   split at he
   ·rename_i Fq
    obtain ⟨_,h1,_⟩:=Fq
    simp only [Option.some.injEq] at he;subst he
    refine ⟨rfl,λm hm=>Cm _ _ _ _ (hm _ (List.mem_singleton.2 rfl)),λt Oo=>?_⟩
    have Oo:=List.mem_singleton.1 Oo
    subst Oo
    refine ⟨_,_,hl,Cq _ _ _ _ Na,λ_=>rfl,λ_=>rfl,⟨rfl,h1.symm⟩,λπ' H' hD=>?_⟩
    have hb:=(h.heap l).Mh hl
    change Au X w' π' H' (π l) _
    simp only [Au,Fv] at hb⊢
    cases hp:π l with
    |none=>rw [hp] at hr;exact hr
    |some q=>
     rw [hp] at hr hb
     obtain ⟨k1,cu,ti,k2,k3,k4,k5,k6⟩:=hr
     exact ⟨⟨k1.1,k1.2,λhh=>hb.1.2.2 (by simp only [Bool.and_eq_true] at hh;exact hh.1)⟩,cu,ti,k2,k3,k4,k5,λi y hy=>by
      obtain ⟨es,g1,g2,g3⟩:=k6 i y hy
      exact ⟨es,g1,g2,Zv hD g3⟩,λht=>GZ k6 ht⟩
   ·cases he
  ·rename_i l i j
   obtain ⟨⟨_,hf⟩,tid,xs,hl,hx,q,hq,Pb,hre⟩:=ht
   have Na:Ae cur.heap l=some (.Dj (.slice e) tid xs):=(bH _ (List.mem_singleton.2 rfl)).trans hl
   simp only [Vy,St.at,Na,hx] at he
   rw [dif_pos trivial] at he
   ·split at he
    ·rename_i h1
     simp only [Option.some.injEq] at he;subst he
     refine ⟨rfl,λm hm=>Cm _ _ _ _ (hm _ (List.mem_singleton.2 rfl)),λt Oo=>?_⟩
     have Oo:=List.mem_singleton.1 Oo
     subst Oo
     refine ⟨_,_,hl,Cq _ _ _ _ Na,λ_=>rfl,λ_=>rfl,⟨rfl,by simp⟩,λπ' H' _=>?_⟩
     show Ix w' (π l) (.slice e) tid _
     rw [hq]
     refine hre w' ys hs (λb Hq hb hn=>hU l i j q b rfl hq hb Hq hn) ?_
     have hv:=hc.1
     rw [<-show List.length ys=List.length x from h1] at hv
     exact Lh.zY hr hf hv
    ·cases he
 |Dx e te=>
  simp only [Mw] at ht
  cases a<;>simp only [] at ht<;>first|(exact ht.elim)|skip
  ·simp only [Vy,Option.some.injEq] at he;subst he
   exact ⟨rfl,λ_ _=>rfl,λt ht=>by simp [Kp] at ht⟩
  ·rename_i l off len
   obtain ⟨rfl,rfl,rfl,hl⟩:=ht
   have Na:Ae cur.heap l=some (.Dj e te x):=(bH _ (List.mem_singleton.2 rfl)).trans hl
   simp only [Vy,St.at,Na] at he
   split at he
   ·rename_i Fq
    obtain ⟨_,h1,_⟩:=Fq
    simp only [Option.some.injEq] at he;subst he
    refine ⟨rfl,λm hm=>Cm _ _ _ _ (hm _ (List.mem_singleton.2 rfl)),λt Oo=>?_⟩
    have Oo:=List.mem_singleton.1 Oo
    subst Oo
    refine ⟨_,_,hl,Cq _ _ _ _ Na,λ_=>rfl,λ_=>rfl,⟨rfl,h1.symm⟩,λπ' H' _=>?_⟩
    show Ix w' (π l) e te _
    cases hp:π l with
    |none=>rw [hp] at hr;exact hr
    |some q=>rw [hp] at hr;exact hr
   ·cases he
  ·rename_i l i j
   obtain ⟨_,tid,xs,hl,hx,q,hq,Pb,hre⟩:=ht
   have Na:Ae cur.heap l=some (.Dj (.slice e) tid xs):=(bH _ (List.mem_singleton.2 rfl)).trans hl
   simp only [Vy,St.at,Na,hx] at he
   rw [dif_pos trivial] at he
   ·split at he
    ·rename_i h1
     simp only [Option.some.injEq] at he;subst he
     refine ⟨rfl,λm hm=>Cm _ _ _ _ (hm _ (List.mem_singleton.2 rfl)),λt Oo=>?_⟩
     have Oo:=List.mem_singleton.1 Oo
     subst Oo
     refine ⟨_,_,hl,Cq _ _ _ _ Na,λ_=>rfl,λ_=>rfl,⟨rfl,by simp⟩,λπ' H' _=>?_⟩
     show Ix w' (π l) (.slice e) tid _
     rw [hq]
     refine hre w' ys hs (λb Hq hb hn=>hU l i j q b rfl hq hb Hq hn) ?_
     have hv:=hc.1
     rw [<-show List.length ys=List.length x from h1] at hv
     exact Ix.zY (te:=te) hr hv
    ·cases he
 |part e te=>cases a<;>simp [Vy] at he<;>first|(simp only [Mw] at ht;exact ht.2.elim)
 |Ak e te kp=>exact absurd ht.1 (by simp)
theorem FT {D:Nat->Prop} (h:Hw X w π H) {k:Nat} {e:Ty} {te:TypeId} {ys:List e.den} {a:AC} {u:Value} {r:Option Real} {x:(CK.part e te).den} {cur st1:St}
  {V:List Nat} (ht:Zl w (Jn X π V) r u (.part e te) x/\Mw w π H true a u r (.part e te) x) (hr:aY w' D r (.row e te) ys) (he:zw cur e ys a=some st1) (bH: ∀t∈Kp true k (.part e te) a,Ae cur.heap t.2.Pu=Ae H t.2.Pu):
  st1.tmps=cur.tmps/\(∀m,(∀t∈Kp true k (.part e te) a,m≠t.2.Pu)->Ae st1.heap m=Ae cur.heap m)/\ ∀t∈Kp true k (.part e te) a,gD X D w' π H st1.heap t.2.Pu:=by
 obtain ⟨hc,hf,ht⟩:=ht
 cases a<;>simp only [] at ht<;>first|(exact ht.elim)|skip
 rename_i l off len
 obtain ⟨rfl,_,fr,tr,hl⟩:=ht
 have Na:Ae cur.heap l=some (.arr fr tr e te x.1):=(bH _ (List.mem_singleton.2 rfl)).trans hl
 simp only [zw,St.at,Na] at he
 split at he
 ·rename_i Fq
  obtain ⟨_,h1⟩:=Fq
  simp only [Option.some.injEq] at he;subst he
  refine ⟨rfl,λm hm=>Cm _ _ _ _ (hm _ (List.mem_singleton.2 rfl)),λt Oo=>?_⟩
  have Oo:=List.mem_singleton.1 Oo
  subst Oo
  refine ⟨_,_,hl,Cq _ _ _ _ Na,λ_=>rfl,λ_=>rfl,⟨rfl,h1.symm⟩,λπ' H' _=>?_⟩
  have hb:=(h.heap l).Mh hl
  change Au X w' π' H' (π l) _
  simp only [Au,Fv] at hb⊢
  cases hp:π l with
  |none=>rw [hp] at hr;exact hr
  |some q=>
   rw [hp] at hr hb
   obtain ⟨k1,cu,ti,k2,k3,k4,k5,k6⟩:=hr
   exact ⟨⟨k1.1,k1.2,hb.1.2.2⟩,cu,ti,k2,k3,k4,k5,λi y hy=>by
    obtain ⟨es,g1,g2,g3⟩:=k6 i y hy
    exact ⟨es,g1,g2,Cells.flat e es y hf g3⟩,λ_=>gX hf k6⟩
 ·cases he
def lK (X:Ctx) (D:Nat->Prop) (w':World) (π:Pi) (H:List (Nat×OB)) (tk:List (Nat×Loc)) (cur st1:St):Prop:=
 st1.tmps=cur.tmps/\(∀m,(∀t∈tk,m≠t.2.Pu)->Ae st1.heap m=Ae cur.heap m)/\(∀t∈tk,t.1<Ai->Ae st1.heap t.2.Pu=Ae cur.heap t.2.Pu)/\(∀t∈tk,¬t.1<Ai->gD X D w' π H st1.heap t.2.Pu)
theorem nO {D:Nat->Prop} (h:Hw X w π H) {V:List Nat} {πc:Pi} {tks:List (Nat×Loc)} (hs:w.heap.size<=w'.heap.size)
  (hU: ∀t∈tks,∀q b,π t.2.Pu=some q->q.Ax b->b<w.heap.size->(∀r',πc t.1=some r'-> ¬r'.Ax b)->w'.heap[b]?=w.heap[b]?):
  ∀(cs:List (Bool×CK)) (k:Nat) (x:Ins.den cs) (as:List AC) (us:List Value) (o:IOs.den cs) (cur st1:St),k+cs.length<100000->(∀t∈Hd k cs as,t∈tks)->((Hd k cs as).map λt=>t.2.Pu).Nodup->
   lp X w π V H πc k cs x as us->Ha w' D πc k cs o->Ee cs o as cur=some st1->(∀t∈Hd k cs as,Ae cur.heap t.2.Pu=Ae H t.2.Pu)->
   lK X D w' π H (Hd k cs as) cur st1
 | [],k,x,as,us,o,cur,st1,_,_,_,_,_,he,_=>by
  simp only [Ee,Option.some.injEq] at he;subst he
  have e0:Hd k [] as= []:=by cases as<;>rfl
  exact ⟨rfl,λ_ _=>rfl,by rw [e0];simp,by rw [e0];simp⟩
 |p::r,k,x,[],us,o,cur,st1,_,_,_,ht,_,_,_=>ht.elim
 |p::r,k,x,a::as,[],o,cur,st1,_,_,_,ht,_,_,_=>ht.elim
 |(io,c)::r,k,x,a::as,u::us,o,cur,st1,hk,Qm,pj,ht,ho,he,bH=>by
  simp only [List.length_cons] at hk
  simp only [Hd] at Qm pj bH⊢
  rw [List.map_append] at pj
  obtain ⟨n1,n2,n3⟩:=List.nodup_append.1 pj
  have apart: ∀t∈Kp io k c a,∀t'∈Hd (k+1) r as,t'.2.Pu≠t.2.Pu:= λt h1 t' h2 e=>n3 _ (List.mem_map.2 ⟨t,h1,rfl⟩) _ (List.mem_map.2 ⟨t',h2,rfl⟩) e.symm
  have rest: ∀(Tj:St) (o':IOs.den r),Ha w' D πc (k+1) r o'->Ee r o' as Tj=some st1->Tj.tmps=cur.tmps->(∀m,(∀t∈Kp io k c a,m≠t.2.Pu)->Ae Tj.heap m=Ae cur.heap m)->
    (∀t∈Kp io k c a,t.1<Ai->Ae Tj.heap t.2.Pu=Ae cur.heap t.2.Pu)->(∀t∈Kp io k c a,¬t.1<Ai->gD X D w' π H Tj.heap t.2.Pu)->
    lK X D w' π H (Kp io k c a++Hd (k+1) r as) cur st1:=by
   intro Tj o' h1 h2 h3 h4 h5 h6
   obtain ⟨g1,g2,g3,g4⟩:=nO h hs hU r (k+1) x.2 as us o' Tj st1 (by omega) (λt ht=>Qm t (List.mem_append_right _ ht)) n2 ht.2 h1 h2 (λt Oo=>by
    rw [h4 _ λt0 QH=>apart t0 QH t Oo];exact bH t (List.mem_append_right _ Oo))
   have hd: ∀t∈Kp io k c a,Ae st1.heap t.2.Pu=Ae Tj.heap t.2.Pu:= λt Oo=>g2 _ λt' lV=>(apart t Oo t' lV).symm
   refine ⟨g1.trans h3,λm hm=>?_,λt Oo Hq=>?_,λt Oo Hq=>?_⟩
   ·rw [g2 m λt ht=>hm t (List.mem_append_right _ ht),h4 m λt ht=>hm t (List.mem_append_left _ ht)]
   ·rcases List.mem_append.1 Oo with Oo|Oo
    ·rw [hd t Oo,h5 t Oo Hq]
    ·rw [g3 t Oo Hq,h4 _ λt0 QH=>apart t0 QH t Oo]
   ·rcases List.mem_append.1 Oo with Oo|Oo
    ·obtain ⟨b0,b',q1,q2,q3⟩:=h6 t Oo Hq
     exact ⟨b0,b',q1,(hd t Oo).trans q2,q3⟩
    ·exact g4 t Oo Hq
  have same: ∀o',Ha w' D πc (k+1) r o'->Ee r o' as cur=some st1->(∀t∈Kp io k c a,t.1<Ai)->lK X D w' π H (Kp io k c a++Hd (k+1) r as) cur st1:= λo' h1 h2 h3=>rest cur o' h1 h2 rfl (λ_ _=>rfl) (λ_ _ _=>rfl) (λt h4 h5=>absurd (h3 t h4) h5)
  cases io with
  |false=>
   have h3: ∀t∈Kp false k c a,t.1<Ai:= λt h4=>by rcases xy h4 with ⟨h5,_⟩|⟨h5,_⟩<;>(rw [h5];exact aF (by omega))
   cases c with
   |Gt τ=>exact same o ho (by simpa only [Ee] using he) h3
   |row e te=>exact same o ho (by simpa only [Ee] using he) h3
   |Dx e te=>exact same o ho (by simpa only [Ee] using he) h3
   |part e te=>exact same o ho (by simpa only [Ee] using he) h3
   |Ak e te kp=>exact same o ho (by simpa only [Ee] using he) h3
  |true=>
   have row: ∀(ys:c.den) (o':IOs.den r),(∀t∈Kp true k c a,t.1=Bq true k)->aY w' D (πc (Bq true k)) c ys->Ha w' D πc (k+1) r o'->(∃Tj,Vy cur c ys a=some Tj/\Ee r o' as Tj=some st1)->lK X D w' π H (Kp true k c a++Hd (k+1) r as) cur st1:=by
    intro ys o' h0 h1 h2 h3
    obtain ⟨Tj,hp,h3⟩:=h3
    ·obtain ⟨q1,q2,q3⟩:=FR (k:=k) h hs (λl i j q b ea hq hb Hq hn=>by
      cases c with
      |Gt τ=>exact absurd (ht.1.2:πc _=none) (by subst ea;simp [Vy] at hp)
      |row e te=>subst ea;exact hU (Bq true k, .sub l i j) (Qm _ (List.mem_append_left _ (List.mem_singleton.2 rfl))) q b hq hb Hq hn
      |Dx e te=>subst ea;exact hU (Bq true k, .sub l i j) (Qm _ (List.mem_append_left _ (List.mem_singleton.2 rfl))) q b hq hb Hq hn
      |Ak e te kp=>exact absurd ht.1.2.1 (by simp)
      |part e te=>exact absurd ht.1.2.2 (by subst ea;exact λh=>h)) ht.1 h1 hp (λt Oo=>bH t (List.mem_append_left _ Oo))
     exact rest Tj o' h2 h3 q1 q2 (λt h4 h5=>absurd h5 (by rw [h0 t h4];exact Tz k)) (λt h4 _=>q3 t h4)
   cases c with
   |Gt τ=>exact same o ho (by simpa only [Ee] using he) (λt h4=>by rw [NA h4];exact aF (by omega))
   |Ak e te kp=>exact absurd ht.1.2.1 (by simp)
   |row e te=>
    simp only [Ee] at he
    split at he
    ·rename_i Tj hp;exact row o.1 o.2 (λt ht=>NB ht) ho.1 ho.2 ⟨Tj,hp,he⟩
    ·cases he
   |Dx e te=>
    simp only [Ee] at he
    split at he
    ·rename_i Tj hp;exact row o.1 o.2 (λt ht=>GY ht) ho.1 ho.2 ⟨Tj,hp,he⟩
    ·cases he
   |part e te=>
    simp only [Ee] at he
    split at he
    ·rename_i Tj hp
     obtain ⟨q1,q2,q3⟩:=FT (k:=k) h ht.1 ho.1 hp (λt Oo=>bH t (List.mem_append_left _ Oo))
     exact rest Tj o.2 ho.2 he q1 q2 (λt h4 h5=>absurd h5 (by rw [GX h4];exact Tz k)) (λt h4 _=>q3 t h4)
    ·cases he
theorem za {fr:Bool} {c:CK} {x:c.den} {u:Value} {r:Option Real} {D:Nat->Prop} (h:Zl w' D r u c x):
  (px fr c x=none/\r=none)\/ ∃b',px fr c x=some b'/\ ∀(X:Ctx) π' H',(fr=true-> ∀q,r=some q->X.w0.heap.size<=q.g)->(∀b,Nn π' b\/X.Sc b->D b)->Au X w' π' H' r b':=by
 cases c with
 |Gt τ=>exact .inl ⟨rfl,h.1⟩
 |row e te=>
  refine .inr ⟨_,rfl,λX π' H' vX hD=>?_⟩
  obtain ⟨_,h⟩:=h
  simp only [aY] at h
  simp only [Au,Fv]
  cases r with
  |none=>exact h
  |some q=>
   obtain ⟨k1,cu,ti,k2,k3,k4,k5,k6⟩:=h
   exact ⟨⟨k1.1,k1.2,λh1=>vX (by simp only [Bool.and_eq_true] at h1;exact h1.1) q rfl⟩,cu,ti,k2,k3,k4,k5,λi y hy=>by
    obtain ⟨es,g1,g2,g3⟩:=k6 i y hy
    exact ⟨es,g1,g2,Zv hD g3⟩,λh=>by cases h⟩
 |Dx e te=>exact .inr ⟨_,rfl,λX π' H' _ _=>h.2⟩
 |Ak e te kp=>exact .inr ⟨_,rfl,λX π' H' _ hD=>⟨Sx.Fb h.2 λb hb=>hD b (hb.imp id λh=>h.elim id λh=>by cases h.1),trivial⟩⟩
 |part e te=>
  refine .inr ⟨_,rfl,λX π' H' vX hD=>?_⟩
  obtain ⟨_,hf,h⟩:=h
  simp only [Au,Fv]
  cases r with
  |none=>exact h
  |some q=>
   obtain ⟨k1,cu,ti,k2,k3,k4,k5,k6⟩:=h
   exact ⟨⟨k1.1,k1.2,λh1=>vX (by simp only [Bool.and_eq_true] at h1;exact h1.1) q rfl⟩,cu,ti,k2,k3,k4,k5,λi y hy=>by
    obtain ⟨es,g1,g2,g3⟩:=k6 i y hy
    exact ⟨es,g1,g2,Zv hD g3⟩,λh=>by cases h⟩
theorem l4 {D:Nat->Prop} {key:Nat->Nat} (yH: ∀i j,key i=key j->i=j) {fr:Bool} {ρ:Pi} : ∀(cs:List CK) (k:Nat) (x:CKs.den cs) (us:List Value) (H:List (Nat×OB)),Ep w' D ρ k cs x us->
  (∀j,k<=j->j<k+cs.length->Ae H (key j)=none)->
  (∀l,(∀j,k<=j->j<k+cs.length->l≠key j)->Ae (Qs fr key k cs x H) l=Ae H l)/\
  (∀j,k<=j->j<k+cs.length->(Ae (Qs fr key k cs x H) (key j)=none/\ρ (Ei j)=none)\/
   ∃b',Ae (Qs fr key k cs x H) (key j)=some b'/\ ∀(X:Ctx) π' H',(fr=true-> ∀q,ρ (Ei j)=some q->X.w0.heap.size<=q.g)->(∀b,Nn π' b\/X.Sc b->D b)->Au X w' π' H' (ρ (Ei j)) b')/\
  (∀π',(∀b,Nn π' b\/X.Sc b->D b)->(∀j,k<=j->j<k+cs.length->π' (key j)=ρ (Ei j))->Hx X w' π' (Qs fr key k cs x H) (Vj key k cs x) us)
 | [],k,x,[],H,_,_=>⟨λ_ _=>rfl,λj h1 h2=>by simp at h2;omega,λ_ _ _=>trivial⟩
 | [],_,_,_::_,_,h,_=>h.elim
 |_::_,_,_,[],_,h,_=>h.elim
 |c::r,k,x,u::us,H,h,hn=>by
  simp only [List.length_cons] at hn⊢
  simp only [Qs,Vj]
  have pd:=hn k (Nat.le_refl _) (by omega)
  have YU: ∀l,l≠key k->Ae (w8 H (key k) (px fr c x.1)) l=Ae H l:=by
   intro l hl
   cases px fr c x.1 with
   |some b=>exact Jy _ _ _ _ hl
   |none=>rfl
  have Aa2:Ae (w8 H (key k) (px fr c x.1)) (key k)=px fr c x.1:=by
   cases px fr c x.1 with
   |some b=>exact Kr _ _ _ pd
   |none=>exact pd
  generalize (w8 H (key k) (px fr c x.1))=H1 at YU Aa2⊢
  obtain ⟨g1,g2,g3⟩:=l4 yH (fr:=fr) r (k+1) x.2 us H1 h.2 (λj h1 h2=>by
   rw [YU _ λe=>by have:=yH _ _ e;omega];exact hn j (by omega) (by omega))
  have OE:Ae (Qs fr key (k+1) r x.2 H1) (key k)=px fr c x.1:=by
   rw [g1 _ λj h1 h2 e=>by have:=yH _ _ e;omega];exact Aa2
  refine ⟨λl hl=>?_,λj h1 h2=>?_,λπ' hd TZ=>⟨?_,?_⟩⟩
  ·rw [g1 l λj h1 h2=>hl j (by omega) (by omega)]
   exact YU l (hl k (Nat.le_refl _) (by omega))
  ·rcases Nat.eq_or_lt_of_le h1 with e|h1
   ·subst e
    rw [OE]
    exact za h.1
   ·exact g2 j h1 (by omega)
  ·have h1:=h.1
   have ZF:=TZ k (Nat.le_refl _) (by omega)
   cases c with
   |Gt τ=>
    obtain ⟨cc,c1,c2⟩:=h1.2
    exact ⟨cc,by have:=Zv (fr:=true) hd c1;simpa using this,c2⟩
   |row e te=>exact ⟨_,e.size,List.length x.1,OE,rfl,by simp,by rw [ZF];exact h1.1⟩
   |Dx e te=>exact ⟨_,e.size,List.length x.1,OE,rfl,by simp,by rw [ZF];exact h1.1⟩
   |Ak e te kp=>exact ⟨_,1,List.length x.1,OE,rfl,by simp,by rw [ZF];exact h1.1⟩
   |part e te=>trivial
  ·exact g3 π' hd λj h1 h2=>TZ j (by omega) (by omega)
theorem yX {ks:List Nat} {n:Nat} (h:sU ks n=true):ks.length=n/\ks.Nodup/\ ∀l∈ks,l<Ai:=by
 unfold sU at h
 simp only [Bool.and_eq_true] at h
 refine ⟨Nat.eq_of_beq_eq_true h.1,Qr h.2.1,λl hl=>?_⟩
 have:=List.all_eq_true.1 h.2.2 l hl
 simpa using this
theorem Li {ks:List Nat} {j:Nat} (h:j<ks.length):Bv ks j=ks[j]:=by
 unfold Bv
 rw [List.getElem?_eq_getElem h]
theorem vo {ks:List Nat} (hn:ks.Nodup) (hl: ∀l∈ks,l<Ai): ∀i j,Bv ks i=Bv ks j->i=j:=by
 intro i j h
 by_cases hi:i<ks.length
 ·by_cases hj:j<ks.length
  ·rw [Li hi,Li hj] at h
   rcases Nat.lt_trichotomy i j with Hq|he|Hq
   ·exact absurd h (List.pairwise_iff_getElem.1 hn i j hi hj Hq)
   ·exact he
   ·exact absurd h.symm (List.pairwise_iff_getElem.1 hn j i hj hi Hq)
  ·have h1:=hl _ (List.getElem_mem hi)
   rw [Li hi] at h
   unfold Bv at h
   rw [List.getElem?_eq_none (by omega)] at h
   simp only at h
   omega
 ·by_cases hj:j<ks.length
  ·have h1:=hl _ (List.getElem_mem hj)
   rw [Li hj] at h
   unfold Bv at h
   rw [List.getElem?_eq_none (by omega)] at h
   simp only at h
   omega
  ·unfold Bv at h
   rw [List.getElem?_eq_none (by omega),List.getElem?_eq_none (by omega)] at h
   simp only at h
   omega
theorem Im: ∀(H:List (Nat×OB)) (dead:List Nat) (l:Nat),Ae (Qe H dead) l=if l∈dead then none else Ae H l
 | [],dead,l=>by simp [Qe,Ae]
 |(k,b)::r,dead,l=>by
  simp only [Qe]
  have ih:=Im r dead l
  by_cases hk:k∈dead
  ·rw [if_pos (by simpa using hk),ih]
   split
   ·rfl
   ·rename_i hl
    simp only [Ae]
    rw [if_neg (λ(e:k=l)=>hl (e▸hk))]
  ·rw [if_neg (by simpa using hk)]
   simp only [Ae]
   split
   ·rename_i e;subst e;rw [if_neg hk]
   ·exact ih
theorem mem_keys {ks:List Nat} {l:Nat} :l∈ks↔ ∃k,k<ks.length/\l=Bv ks k:=
 ⟨λh=>by obtain ⟨k,hk,e⟩:=List.getElem_of_mem h;exact ⟨k,hk,by rw [Li hk,e]⟩,λ⟨k,hk,e⟩=>by rw [e,Li hk];exact List.getElem_mem hk⟩
theorem Yu {tks:List (Nat×Loc)} {l:Nat} :l∈gO tks↔ ∃t∈tks,(t.1<Ai/\t.2.reads=false)/\t.2.Pu=l:=by
 unfold gO
 simp only [List.mem_map,List.mem_filter,Bool.and_eq_true,Nat.blt_eq,Bool.not_eq_true']
 exact ⟨λ⟨t,⟨h1,h2⟩,h3⟩=>⟨t,h1,h2,h3⟩,λ⟨t,h1,h2,h3⟩=>⟨t,⟨h1,h2⟩,h3⟩⟩
theorem sV {tks:List (Nat×Loc)} (h:(tks.map λt=>t.2.Pu).Nodup) {t t':Nat×Loc} (ht:t∈tks) (lV:t'∈tks) (he:t.2.Pu=t'.2.Pu):t=t':=by
 induction tks with
 |nil=>cases ht
 |cons a r ih=>
  simp only [List.map_cons] at h
  obtain ⟨h1,h2⟩:=List.nodup_cons.1 h
  rcases List.mem_cons.1 ht with rfl|ht<;>rcases List.mem_cons.1 lV with rfl|lV
  ·rfl
  ·exact (h1 (List.mem_map.2 ⟨t',lV,he.symm⟩)).elim
  ·exact (h1 (he▸List.mem_map.2 ⟨t,‹t∈r›,rfl⟩)).elim
  ·exact ih h2 ht lV
theorem Ep.full {D:Nat->Prop} {ρ:Pi} : ∀(cs:List CK) (k:Nat) (x:CKs.den cs) (us:List Value),Ep w D ρ k cs x us->Ep w D (λl=>(ρ l).map full) k cs x us
 | [],_,_,[],h=>h
 | [],_,_,_::_,h=>h.elim
 |_::_,_,_,[],h=>h.elim
 |c::r,k,x,u::us,h=>⟨by
   have h1:=h.1
   show Zl w D ((ρ (Ei k)).map _) u c x.1
   cases c with
   |Gt τ=>rw [h1.1];exact ⟨rfl,h1.2⟩
   |row e te=>cases hp:ρ (Ei k)<;>(rw [hp] at h1;exact h1)
   |Dx e te=>cases hp:ρ (Ei k)<;>(rw [hp] at h1;exact h1)
   |Ak e te kp=>cases hp:ρ (Ei k)<;>(rw [hp] at h1;exact h1)
   |part e te=>cases hp:ρ (Ei k)<;>(rw [hp] at h1;exact h1),Ep.full r (k+1) x.2 us h.2⟩
theorem Ep.SO {D:Nat->Prop} {ρ:Pi} : ∀(cs:List CK) (k0:Nat) (x:CKs.den cs) (us:List Value),Ep w D ρ k0 cs x us-> ∀j,k0<=j->j<k0+cs.length-> ∀q,ρ (Ei j)=some q->q.Ax q.g
 | [],k0,_,_,_,j,h1,h2,_,_=>by simp at h2;omega
 |_::_,_,_,[],h,_,_,_,_,_=>h.elim
 |c::r,k0,x,u::us,ho,j,h1,h2,q,hq=>by
  rcases Nat.eq_or_lt_of_le h1 with e|h1
  ·subst e
   have:=ho.1
   cases c with
   |Gt τ=>rw [hq] at this;cases this.1
   |row e te=>rw [hq] at this;exact this.2.1.1
   |Dx e te=>rw [hq] at this;exact this.2.1
   |part e te=>rw [hq] at this;exact this.2.2.1.1
   |Ak e te kp=>rw [hq] at this;exact this.2.1
  ·exact Ep.SO r (k0+1) x.2 us ho.2 j h1 (by simp at h2;omega) q hq
theorem Lh.any {D D':Nat->Prop} {r:Option Real} {e:Ty} {xs:List e.den} (hf:e.flat=true) (h:Lh w D r e xs):Lh w D' r e xs:=by
 cases r with
 |none=>exact h
 |some r=>
  obtain ⟨k1,cu,ti,k2,k3,k4,k5,k6⟩:=h
  exact ⟨k1,cu,ti,k2,k3,k4,k5,λi y hy=>by
   obtain ⟨es,g1,g2,g3⟩:=k6 i y hy
   exact ⟨es,g1,g2,Cells.flat e es y hf g3⟩⟩
theorem Ep.any {D D':Nat->Prop} {ρ:Pi} : ∀(cs:List CK) (k:Nat) (x:CKs.den cs) (us:List Value),cs.all (·.flat)=true->Ep w D ρ k cs x us->Ep w D' ρ k cs x us
 | [],_,_,[],_,h=>h
 | [],_,_,_::_,_,h=>h.elim
 |_::_,_,_,[],_,h=>h.elim
 |c::r,k,x,u::us,hf,h=>by
  simp only [List.all_cons,Bool.and_eq_true] at hf
  refine ⟨?_,Ep.any r (k+1) x.2 us hf.2 h.2⟩
  have h1:=h.1
  cases c with
  |Gt τ=>exact ⟨h1.1,Bd.flat hf.1 h1.2⟩
  |row e te=>exact ⟨h1.1,Lh.any hf.1 h1.2⟩
  |Dx e te=>exact h1
  |part e te=>exact ⟨h1.1,h1.2.1,Lh.any hf.1 h1.2.2⟩
  |Ak e te kp=>exact absurd hf.1 (by simp [CK.flat])
theorem Ha.any {D D':Nat->Prop} {π:Pi} : ∀(cs:List (Bool×CK)) (k:Nat) (x:IOs.den cs),(cs.all λp=>!p.1||p.2.flat)=true->Ha w D π k cs x->Ha w D' π k cs x
 | [],_,_,_,h=>h
 |(false,_)::r,k,x,hf,h=>Ha.any r (k+1) x (by simp only [List.all_cons,Bool.and_eq_true] at hf;exact hf.2) h
 |(true, .Gt _)::r,k,x,hf,h=>Ha.any r (k+1) x (by simp only [List.all_cons,Bool.and_eq_true] at hf;exact hf.2) h
 |(true, .Ak _ _ _)::r,k,x,hf,h=>Ha.any r (k+1) x (by simp only [List.all_cons,Bool.and_eq_true] at hf;exact hf.2) h
 |(true, .row e te)::r,k,x,hf,h=>by
  simp only [List.all_cons,Bool.and_eq_true,Bool.not_true,Bool.false_or] at hf
  exact ⟨Lh.any hf.1 h.1,Ha.any r (k+1) x.2 hf.2 h.2⟩
 |(true, .Dx e te)::r,k,x,hf,h=>by
  simp only [List.all_cons,Bool.and_eq_true,Bool.not_true,Bool.false_or] at hf
  exact ⟨h.1,Ha.any r (k+1) x.2 hf.2 h.2⟩
 |(true, .part e te)::r,k,x,hf,h=>by
  simp only [List.all_cons,Bool.and_eq_true,Bool.not_true,Bool.false_or] at hf
  exact ⟨Lh.any hf.1 h.1,Ha.any r (k+1) x.2 hf.2 h.2⟩
theorem nw {tks:List (Nat×Loc)} {l:Nat} :l∈uy tks↔ ∃t∈tks,t.2.reads=true/\t.2.Pu=l:=by
 unfold uy
 simp only [List.mem_map,List.mem_filter]
 exact ⟨λ⟨t,⟨h1,h2⟩,h3⟩=>⟨t,h1,h2,h3⟩,λ⟨t,h1,h2,h3⟩=>⟨t,⟨h1,h2⟩,h3⟩⟩
theorem Aj.iI {st:St} {a:Act} (h:Aj X π st a w) {f:AC->AC} (hu:f .undef= .undef) {gv:Nat->Prop} (DT: ∀b,gv b->Nn π b) (hb:Ez w.heap.size gv w w')
  (Yo: ∀b,b<w.heap.size->Nn π' b->Nn π b)
  (Qm: ∀l r b,π' l=some r->r.Ax b->r.cl b) (WC: ∀l r b,π' l=some r->r.cl b->(X.w0.heap.size<=b\/X.gv b)/\b<w'.heap.size)
  (Ag9: ∀l l' r r' b,π' l=some r->π' l'=some r'->r.cl b->r'.cl b->l=l')
  (Yp: ∀l,Ai<=l->Ae H' l≠none->Um (X.cR l) (π' l))
  (hac:(∀fr τ cs x,Cells w (Be X.w0.heap.size X.Sc π fr) τ cs x->Cells w' (Be X.w0.heap.size X.Sc π' fr) τ cs x)-> ∀c v,Ea X w π st.heap c v->Ea X w' π' H' (f c) v)
  (PN:Move X w w' π π' st.heap H' f-> ∀l b,Ae H' l=some b->Au X w' π' H' (π' l) b)
  (BU: ∀l,Ae H' l=none->π' l=none):
  Aj X π' {tmps:=st.tmps.map (·.map f),heap:=H'} a w':=by
 have hc: ∀fr τ cs x,Cells w (Be X.w0.heap.size X.Sc π fr) τ cs x->Cells w' (Be X.w0.heap.size X.Sc π' fr) τ cs x:= λfr τ cs x hh=>
  Cells.Cr hb.size (λk hk hn=>hb.block k hk λhg=>hn (.inl (DT k hg))) (λk Hq hA=>hA.imp (Yo k Hq) id) τ cs x hh
 have m:Move X w w' π π' st.heap H' f:=⟨hac hc,hc⟩
 refine ⟨⟨⟨hb.os.trans h.1.below.os,hb.tape.trans h.1.below.tape,hb.output.trans h.1.below.output,Nat.le_trans h.1.below.size hb.size,λk hk hn=>?_⟩,h.1.sc,Qm,WC,Ag9,Yp,λl=>?_⟩,m.zA hu h.2⟩
 ·refine (hb.block k (Nat.lt_of_lt_of_le hk h.1.below.size) λhg=>?_).trans (h.1.below.block k hk hn)
  rcases (h.1.own (DT k hg)).2 with h1|h1
  ·omega
  ·exact hn h1
 ·cases hh:Ae H' l with
  |none=>exact Dk.Pf (BU l hh) hh
  |some b=>exact Dk.It (PN m l b hh) hh
def aZ:Option Real->Option Real->Prop
 |none,none=>True
 |some r,some r'=>r.g=r'.g/\r.o=r'.o/\r.cap=r'.cap
 |_,_=>False
theorem aZ.rfl' (r:Option Real):aZ r r:=by cases r<;>simp [aZ]
theorem aZ.some {r:Real} {r':Option Real} (h:aZ (some r) r'): ∃q,r'=some q/\r.g=q.g/\r.o=q.o/\r.cap=q.cap:=by
 cases r' with
 |none=>exact h.elim
 |some q=>exact ⟨q,rfl,h⟩
theorem aZ.own {r r':Option Real} (h:aZ r r') {sz off len:Nat} {v:Value} (hv:Dq r sz off len v):Dq r' sz off len v:=by
 cases r<;>cases r'<;>first|exact h.elim|skip
 ·exact hv
 ·obtain ⟨h1,h2,h3⟩:=h
  obtain ⟨ad,g1,g2,g3⟩:=hv
  exact ⟨ad,by rw [<-h3];exact g1,by rw [<-h3];exact g2,by rw [<-h1,<-h2,<-h3];exact g3⟩
structure OB.Mr (b b':OB):Prop where
 row: ∀sz n,b.row=some (sz,n)-> ∃n',b'.row=some (sz,n')/\n<=n'
 bh: ∀p,b.bh=some p->b'.bh=some p
 p9: ∀p,b.p9=some p->b'.p9=some p
 var: ∀tid vs,b= .var tid vs-> ∃Nw uO,b'= .var Nw uO
 On: ∀v m,b= .On v m-> ∃m',b'= .On v m'
theorem OB.Mr.map (f:AC->AC) (b:OB):b.Mr (b.map f) where
 row:= λsz n h=>⟨n,by cases b<;>exact h,Nat.le_refl _⟩
 bh:= λp h=>by cases b<;>exact h
 p9:= λp h=>by cases b<;>exact h
 var:= λtid vs h=>by subst h;exact ⟨_,_,rfl⟩
 On:= λv m h=>by subst h;exact ⟨_,rfl⟩
theorem OB.Mr.rfl' (b:OB):b.Mr b where
 row:= λ_sz n h=>⟨n,h,Nat.le_refl _⟩
 bh:= λ_p h=>h
 p9:= λ_p h=>h
 var:= λ_tid _vs h=>⟨_,_,h⟩
 On:= λ_v _m h=>⟨_,h⟩
theorem OB.Mr.trans {a b c:OB} (h:a.Mr b) (k:b.Mr c):a.Mr c where
 row:= λsz n hr=>by
  obtain ⟨n1,h1,h2⟩:=h.row sz n hr
  obtain ⟨n2,h3,h4⟩:=k.row sz n1 h1
  exact ⟨n2,h3,by omega⟩
 bh:= λp hp=>k.bh p (h.bh p hp)
 p9:= λp hp=>k.p9 p (h.p9 p hp)
 var:= λtid vs hv=>by obtain ⟨t',v',h1⟩:=h.var tid vs hv;exact k.var t' v' h1
 On:= λv m hm=>by obtain ⟨m',h1⟩:=h.On v m hm;exact k.On v m' h1
theorem iH {f:AC->AC} {D Pt:Nat->Prop} (hf: ∀c,f c= .undef\/(f c=c/\(∀k∈c.refs,¬D k)/\ ∀k i j,c= .sub k i j\/c= .Ga k i j-> ¬Pt k)) (hp: ∀k,¬D k->aZ (π k) (π' k))
  (hH: ∀k b,¬D k->Ae H k=some b-> ∃b',Ae H' k=some b'/\b.Mr b')
  (hg: ∀k r b,¬D k-> ¬Pt k->Ae H k=some b->b.bh≠none->π k=some r->w'.heap[r.g]?=w.heap[r.g]?)
  (hc: ∀fr τ cs x,Cells w (Be X.w0.heap.size X.Sc π fr) τ cs x->Cells w' (Be X.w0.heap.size X.Sc π' fr) τ cs x): ∀c v,Ea X w π H c v->Ea X w' π' H' (f c) v:=by
 intro c v h
 rcases hf c with e|⟨e,hr,hs⟩
 ·rw [e];trivial
 rw [e]
 cases c with
 |data fr τ x=>obtain ⟨cs,h1,h2⟩:=h;exact ⟨cs,hc _ _ _ _ h1,h2⟩
 |own k off len=>
  obtain ⟨b,sz,n,h1,h0,h2,h3⟩:=h
  have hk:=hr k (by simp [AC.refs])
  obtain ⟨b',g1,g2⟩:=hH k b hk h1
  obtain ⟨n',g3,g4⟩:=g2.row sz n h0
  exact ⟨b',sz,n',g1,g3,by omega,(hp k hk).own h3⟩
 |Dz k i=>
  obtain ⟨r,tid,vs,h1,h2,h3⟩:=h
  have hk:=hr k (by simp [AC.refs])
  obtain ⟨b',g1,g2⟩:=hH k _ hk h1
  obtain ⟨Nw,uO,rfl⟩:=g2.var tid vs rfl
  obtain ⟨q,q1,q2,_⟩:=(h2▸hp k hk).some
  exact ⟨q,Nw,uO,g1,q1,by rw [<-q2];exact h3⟩
 |Gc k i=>
  obtain ⟨r,b,sz,n,h1,h0,h2,h3,h4⟩:=h
  have hk:=hr k (by simp [AC.refs])
  obtain ⟨b',g1,g2⟩:=hH k b hk h1
  obtain ⟨n',g3,g4⟩:=g2.row sz n h0
  obtain ⟨q,q1,q2,q3,_⟩:=(h3▸hp k hk).some
  exact ⟨q,b',sz,n',g1,g3,by omega,q1,by rw [<-q2,<-q3];exact h4⟩
 |sub k i c=>
  obtain ⟨r,b,sz,n,h1,h0,h2,h3,h4,h5⟩:=h
  have hk:=hr k (by simp [AC.refs])
  obtain ⟨b',g1,g2⟩:=hH k b hk h1
  obtain ⟨q,q1,q2,q3,_⟩:=(h2▸hp k hk).some
  exact ⟨q,b',sz,n,g1,g2.bh _ h0,q1,h3,h4,by rw [<-q2,<-q3,World.cell?_of_block (hg k r b hk (hs k i c (.inl rfl)) h1 (by rw [h0];simp) h2)];exact h5⟩
 |Ga k i c=>
  obtain ⟨r,b,n,sz,g,o,len,cap,h1,h0,h2,h3,h4,h5,h6⟩:=h
  have hk:=hr k (by simp [AC.refs])
  obtain ⟨b',g1,g2⟩:=hH k b hk h1
  obtain ⟨q,q1,q2,q3,_⟩:=(h2▸hp k hk).some
  exact ⟨q,b',n,sz,g,o,len,cap,g1,g2.p9 _ h0,q1,h3,h4,by rw [<-q2,<-q3,World.cell?_of_block (hg k r b hk (hs k i c (.inr rfl)) h1 (by cases b<;>first|(cases h0;done)|simp [OB.bh]) h2)];exact h5,h6⟩
 |clo g Bx=>
  obtain ⟨us,h1,h2,h3⟩:=h
  refine ⟨us,h1,h2,λj p hpj=>?_⟩
  obtain ⟨r,tid,vs,h4,h5,h6⟩:=h3 j p hpj
  have hk:=hr p.1 (by simp only [AC.refs,List.mem_map];exact ⟨p,List.mem_of_getElem? hpj,rfl⟩)
  obtain ⟨b',g1,g2⟩:=hH p.1 _ hk h4
  obtain ⟨Nw,uO,rfl⟩:=g2.var tid vs rfl
  obtain ⟨q,q1,q2,_⟩:=(h5▸hp p.1 hk).some
  exact ⟨q,Nw,uO,g1,q1,by rw [<-q2];exact h6⟩
 |Gi k=>
  obtain ⟨r,vt,m,h1,h2,h3⟩:=h
  have hk:=hr k (by simp [AC.refs])
  obtain ⟨b',g1,g2⟩:=hH k _ hk h1
  obtain ⟨m',rfl⟩:=g2.On vt m rfl
  obtain ⟨q,q1,q2,_⟩:=(h2▸hp k hk).some
  exact ⟨q,vt,m',g1,q1,by rw [<-q2];exact h3⟩
 |_=>exact h
theorem Ob (H0:List (Nat×OB)) (ls:List Nat) (n:Nat): ∀(H:List (Nat×OB)) (l:Nat),Ae (Xj H0 ls n H) l=(Ae H l).map λb=>if ls.contains l then b.xe (Vg n (WV (Ae H0 l))) else b
 | [],_=>rfl
 |(k,b)::r,l=>by
  simp only [Xj,Ae]
  split
  ·rename_i e;subst e;rfl
  ·exact Ob H0 ls n r l
theorem OB.tQ (b:OB) (kp:Option (Nat×Nat)):b.Mr (b.xe kp):=by
 cases b with
 |Ak e te rows out kp0=>exact ⟨λsz n h=>⟨n,h,Nat.le_refl _⟩,λp h=>h,λp h=>h,(λ_ _ h=>by cases h),(λ_ _ h=>by cases h)⟩
 |_=>exact OB.Mr.rfl' _
theorem aR (ls:List Nat): ∀(l m:List AV) (t:Nat),l.length=m.length->(∃k i c,l.getD t .undef= .at (.sub k i c)/\ls.contains k=true/\(Hc ls l m).getD t .undef= .at (.sub k i c))\/(Hc ls l m).getD t .undef=m.getD t .undef
 | [],m,t,_=>by cases m<;>exact .inr rfl
 |_::_,[],t,h=>by simp at h
 |a::l,v::m,t,h=>by
  have ih:= λt=>aR ls l m t (by simpa using h)
  have tail: ∀u,Hc ls (a::l) (v::m)=u::Hc ls l m->(t=0->(∃k i c,(a::l).getD t .undef= .at (.sub k i c)/\ls.contains k=true/\u= .at (.sub k i c))\/u=v)->
    (∃k i c,(a::l).getD t .undef= .at (.sub k i c)/\ls.contains k=true/\(Hc ls (a::l) (v::m)).getD t .undef= .at (.sub k i c))\/(Hc ls (a::l) (v::m)).getD t .undef=(v::m).getD t .undef:=by
   intro u e h0
   rw [e]
   rcases t with _|t
   ·rcases h0 rfl with ⟨k,i,c,h1,h2,h3⟩|h3
    ·exact .inl ⟨k,i,c,h1,h2,by simpa using h3⟩
    ·exact .inr (by simpa using h3)
   ·simpa only [List.getD_cons_succ] using ih t
  cases a with
  | «at»c=>
   cases c with
   |sub k i c=>
    refine tail _ rfl λht=>?_
    subst ht
    by_cases hc:ls.contains k=true
    ·exact .inl ⟨k,i,c,rfl,hc,by rw [if_pos hc]⟩
    ·exact .inr (by rw [if_neg hc])
   |_=>exact tail _ rfl λ_=> .inr rfl
  |_=>exact tail _ rfl λ_=> .inr rfl
theorem oB {H:List (Nat×OB)} {ls:List Nat} {n:Nat} : ∀ {l:List AV} {t k i c:Nat},Xs H ls n l=true->l.getD t .undef= .at (.sub k i c)->ls.contains k=true->i<n/\i<lQ H k
 | [],t,k,i,c,_,h,_=>by simp at h
 |a::l,0,k,i,c,ho,h,hc=>by
  simp only [List.getD_cons_zero] at h
  subst h
  simp only [Xs,hc,Bool.not_true,Bool.false_or,Bool.and_eq_true,Nat.blt_eq] at ho
  exact ho.1
 |a::l,t+1,k,i,c,ho,h,hc=>by
  refine oB (l:=l) (t:=t) (c:=c) ?_ (by simpa only [List.getD_cons_succ] using h) hc
  cases a with
  | «at»d=>cases d with
   |sub _ _ _=>simp only [Xs,Bool.and_eq_true] at ho;exact ho.2
   |_=>exact ho
  |_=>exact ho
theorem yU {bx st:St} {a:Act} (h0:Aj X π bx a w) (h:Aj X π' st a w') {ls:List Nat} {n:Nat} (hk: ∀l∈ls,m9 w w' (π l) (π' l) n) (mU: ∀l∈ls,ij bx.heap l=true)
  (Yn:Xs st.heap ls n bx.tmps=true):Aj X π' (fQ bx st ls n) a w'/\ ∀c v,Ao X w' π' st.heap c v->Ao X w' π' (fQ bx st ls n).heap c v:=by
 by_cases kL:ls= []
 ·subst kL;exact ⟨h,λ_ _ h=>h⟩
 have Pc:fQ bx st ls n= {tmps:=Hc ls bx.tmps st.tmps,heap:=Xj bx.heap ls n st.heap} :=by
  cases ls with
  |nil=>exact absurd rfl kL
  |cons _ _=>rfl
 rw [Pc]
 have hg0: ∀l∈ls,∃e te rows out kp,Ae bx.heap l=some (.Ak e te rows out kp):= λl hl=>by
  have:=mU l hl
  unfold ij at this
  split at this
  ·exact ⟨_,_,_,_,_,by assumption⟩
  ·cases this
 have srv: ∀k b,Ae st.heap k=some b-> ∃b',Ae (Xj bx.heap ls n st.heap) k=some b'/\b.Mr b':= λk b hb=>by
  rw [Ob,hb]
  refine ⟨_,rfl,?_⟩
  dsimp only
  split
  ·exact OB.tQ b _
  ·exact OB.Mr.rfl' b
 have hac:(∀fr τ cs x,Cells w' (Be X.w0.heap.size X.Sc π' fr) τ cs x->Cells w' (Be X.w0.heap.size X.Sc π' fr) τ cs x)-> ∀c v,Ea X w' π' st.heap c v->Ea X w' π' (Xj bx.heap ls n st.heap) c v:= λhc=>
  iH (f:= λc=>c) (D:= λ_=>False) (Pt:= λ_=>False) (λc=> .inr ⟨rfl,λ_ _ h=>h,λ_ _ _ _ h=>h⟩) (λk _=>aZ.rfl' _) (λk b _ hb=>srv k b hb) (λ_ _ _ _ _ _ _ _=>rfl) hc
 have h1:Aj X π' {tmps:=st.tmps.map (·.map λc=>c),heap:=Xj bx.heap ls n st.heap} a w':=by
  refine h.iI rfl (gv:= λ_=>False) (λ_ hf=>hf.elim) (Ez.refl _ _ _) (λ_ _ ho=>ho) h.1.sub h.1.place h.1.inj (λl hl Ex=>h.1.cR l hl λh2=>Ex (by rw [Ob,h2];rfl)) hac (λm l b hb=>?_) (λl hl=>?_)
  ·rw [Ob] at hb
   cases h2:Ae st.heap l with
   |none=>rw [h2] at hb;cases hb
   |some b0=>
    rw [h2] at hb
    simp only [Option.map_some,Option.some.injEq] at hb
    have hbk:=(h.1.heap l).Mh h2
    have xQ:=hbk.move m (Nat.le_refl _) (λr0 c h0 h1=>h.1.sub _ r0 c h0 h1) λ_ _ _ _ _=>rfl
    rw [show OB.map (λc=>c) b0=b0 from OB.wC b0] at xQ
    split at hb
    ·rename_i hc
     have hl:l∈ls:=by simpa using hc
     cases b0 with
     |Ak e te rows out kp=>
      simp only [OB.xe] at hb
      subst hb
      refine ⟨xQ.1,?_⟩
      obtain ⟨e0,te0,UG,Ahr,kp0,hg⟩:=hg0 l hl
      have pd:=((h0.1.heap l).Mh hg).2
      rw [hg]
      simp only [WV]
      have pf:=hk l hl
      cases kp0 with
      |none=>trivial
      |some p=>
       obtain ⟨l0,n0⟩:=p
       simp only [KeptAt,Vg] at pd⊢
       cases sH:X.cR l0 with
       |none=>
        cases hp:π l with
        |none=>
         rw [hp] at pf
         cases BW:π' l with
         |none=>trivial
         |some q=>rw [BW] at pf;exact pf.elim
        |some q=>rw [sH,hp] at pd;exact pd.elim
       |some r0=>
        cases hp:π l with
        |none=>rw [sH,hp] at pd;exact pd.elim
        |some q=>
         rw [sH,hp] at pd
         rw [hp] at pf
         cases BW:π' l with
         |none=>rw [BW] at pf;exact pf.elim
         |some q'=>
          rw [BW] at pf
          obtain ⟨k1,k2,k3,k4⟩:=pf
          obtain ⟨g1,g2,g3,g4⟩:=pd
          refine ⟨k1.trans g1,k2.trans g2,k3.trans g3,λj hj hc=>?_⟩
          have e1:=g4 j (by omega) hc
          have e2:=k4 j (by omega) (by omega)
          rw [g1,g2] at e2
          rw [<-e1,e2]
     |_=>simp only [OB.xe] at hb;subst hb;exact xQ
    ·subst hb;exact xQ
  ·rw [Ob] at hl
   cases h2:Ae st.heap l with
   |none=>exact (h.1.heap l).emp h2
   |some b=>rw [h2] at hl;cases hl
 have JI: ∀c v,Ao X w' π' st.heap c v->Ao X w' π' (Xj bx.heap ls n st.heap) c v:= λc v hv=>by
  have m:Move X w' w' π' π' st.heap (Xj bx.heap ls n st.heap) (λc=>c):=⟨hac λ_ _ _ _ h=>h,λ_ _ _ _ h=>h⟩
  have:=m.av hv
  rwa [AC.map_id] at this
 refine ⟨⟨h1.1,⟨?_,h.2.defers,λt=>?_⟩⟩,JI⟩
 ·have: ∀(l m:List AV),(Hc ls l m).length=m.length:=by
   intro l
   induction l with
   |nil=>intro m;cases m<;>rfl
   |cons a l ih=>
    intro m
    cases m with
    |nil=>cases a with
     | «at»c=>cases c<;>rfl
     |_=>rfl
    |cons v m=>cases a with
     | «at»c=>cases c<;>simp only [Hc,List.length_cons,ih m]
     |_=>simp only [Hc,List.length_cons,ih m]
  show a.tmps.size=(Hc ls bx.tmps st.tmps).length
  rw [this];exact h.2.size
 ·show Ao X w' π' _ ((Hc ls bx.tmps st.tmps).getD t .undef) _
  rcases aR ls bx.tmps st.tmps t (by rw [<-h0.2.size,<-h.2.size]) with ⟨k,i,c,g1,g2,g3⟩|g
  ·rw [g3]
   have Ja:k∈ls:=by simpa using g2
   obtain ⟨i1,i2⟩:=oB Yn g1 g2
   have hv:=h0.2.tmps t
   rw [show bx.get t=_ from g1] at hv
   obtain ⟨r,b,sz,n',e1,e2,e3,e4,⟨e5,e6⟩,e7⟩:=hv
   obtain ⟨e0,te0,UG,Ahr,kp0,hg⟩:=hg0 k Ja
   rw [hg] at e1;cases e1
   simp only [OB.bh,Option.some.injEq,Prod.mk.injEq] at e2
   obtain ⟨rfl,rfl⟩:=e2
   have pf:=hk k Ja
   rw [e3] at pf
   cases BW:π' k with
   |none=>rw [BW] at pf;exact pf.elim
   |some q'=>
    rw [BW] at pf
    obtain ⟨k1,k2,k3,k4⟩:=pf
    have mS:UG.length<=r.cap:=by
     have:=((h0.1.heap k).Mh hg).1
     rw [e3] at this
     obtain ⟨_,_,_,_,_,_,h5,_⟩:=this
     exact h5
    unfold lQ at i2
    split at i2
    ·rename_i e9 te9 Acn An0 kp9 hg9
     refine ⟨q',_,1,Acn.length,by rw [Ob,hg9];rfl,?_,BW,i2,⟨e5,e6⟩,?_⟩
     ·dsimp only
      split<;>rfl
     ·have fK:c=0:=by omega
      subst fK
      rw [k1,k2]
      rw [Nat.mul_one,Nat.add_zero] at e7⊢
      rw [k4 i i1 (by omega)];exact e7
    ·omega
  ·rw [g]
   exact JI _ _ (h.2.tmps t)
theorem jY {ins:List (Bool×CK)} {as:List AC} {pl:List Nat} {st:St} :(lD ins as pl st).tmps=st.tmps:=by
 unfold lD
 split
 ·rfl
 ·split<;>rfl
theorem zH {ins:List (Bool×CK)} {as:List AC} {pl:List Nat} {st:St} {m:Nat} (hm:m∉pl):Ae (lD ins as pl st).heap m=Ae st.heap m:=by
 unfold lD
 split
 ·rfl
 ·rename_i l r
  split
  ·exact Cm _ _ _ _ λe=>hm (e▸List.mem_cons_self)
  ·rfl
theorem FZ {ins:List (Bool×CK)} {as:List AC} {l:Nat} {st:St} {tid:TypeId} {vs:List AC} (hl:Ae st.heap l=some (.var tid vs)):Ae (lD ins as [l] st).heap l=some (.var tid (bq ins vs as)):=by
 simp only [lD,St.at,hl]
 exact Cq _ _ _ _ hl
theorem rn {α:Type} (ins:List (Bool×CK)) (as:List α):bq ins [] as= []:=by
 rcases ins with _|⟨⟨_|_,c⟩,r⟩<;>rfl
theorem jR {α:Type} : ∀(ins:List (Bool×CK)) (vs as:List α),(bq ins vs as).length=vs.length
 | [],vs,as=>by rw [bq];all_goals simp
 |p::r,[],as=>by rw [rn]
 |(true,c)::r,v::vs,as=>by simp only [bq,List.length_cons,jR r vs as]
 |(false,c)::r,v::vs,[]=>by rw [bq];all_goals simp
 |(false,c)::r,v::vs,a::as=>by simp only [bq,List.length_cons,jR r vs as]
theorem FP {st:St} {a:Act} (h:Aj X π st a w) {s:MSpec} {gH:List AV} {vs:List Value} (hlen:gH.length=vs.length) (JI: ∀(i:Nat) c v,gH[i]?=some c->vs[i]?=some v->Ao X w π st.heap c v)
  {pl:List Nat} {cells:List AC} {rest:List AV} (he:CJ st s gH=some (pl,cells,rest)):
  ∃(g:Nat) (SL rT:List Value),rest.length=rT.length/\(∀(i:Nat) c v,rest[i]?=some c->rT[i]?=some v->Ao X w π st.heap c v)/\Hx X w π st.heap cells SL/\
   ((s.ptr=none/\pl= []/\cells= []/\SL= []/\vs=rT)\/
    ∃p l q,s.ptr=some p/\pl= [l]/\π l=some q/\q.Ax q.g/\g=q.g/\Ae st.heap l=some (.var p.1 cells)/\cells.length=p.2/\vs= .pointer (some ⟨g,0,none⟩)::rT/\w.heap[g]?=some (.cells SL.toArray p.1 (0,0))/\Cy X w π st.heap cells SL):=by
 unfold CJ at he
 split at he
 ·rename_i hp
  simp only [Option.some.injEq,Prod.mk.injEq] at he
  obtain ⟨rfl,rfl,rfl⟩:=he
  exact ⟨0,[],vs,hlen,JI,trivial, .inl ⟨hp,rfl,rfl,rfl,rfl⟩⟩
 ·rename_i p hp
  split at he
  ·rename_i l i Ajm
   split at he
   ·rename_i tid cs hl
    split at he
    ·rename_i hc
     obtain ⟨rfl,hc,rfl⟩:=hc
     simp only [Option.some.injEq,Prod.mk.injEq] at he
     obtain ⟨rfl,rfl,rfl⟩:=he
     unfold St.at at hl
     cases vs with
     |nil=>simp at hlen
     |cons v vs=>
      obtain ⟨r,Nw,uO,h1,h2,rfl⟩:=JI 0 _ v rfl rfl
      rw [hl] at h1;cases h1
      obtain ⟨r',h3,h4,cur,h5,h6⟩:=(h.1.heap l).Mh hl
      rw [h2] at h3;cases h3
      exact ⟨r.g,cur.toList,vs,by simpa using hlen,λi c v h7 h8=>JI (i+1) c v (by simpa using h7) (by simpa using h8),Hx.of h6, .inr ⟨p,l,r,hp,rfl,h2,h4,rfl,hl,hc,rfl,by simpa using h5,h6⟩⟩
    ·cases he
   ·cases he
  ·cases he
theorem dV {V:List Nat} {πc:Pi} {dead part:List Nat} (TZ: ∀l,l∉dead->π' l=π l) (Ql: ∀l b sz n,l∉dead->Ae H l=some b->b.row=some (sz,n)-> ∃b',Ae H' l=some b'/\b'.row=some (sz,n)):
  ∀(ins:List (Bool×CK)) (k:Nat) (cells j6:List AC) (x:Ins.den ins) (us:List Value) (o:IOs.den ins) (cur st1:St) (news:List AC) (Oq cs:List Value),lp X w π V H πc k ins x (cells++j6) us->Pd ins cells=true->
   Ee ins o (cells++j6) cur=some st1->Ce πc k ins o cells.length cs Oq->Hx X w' π' H' news Oq->Hx X w' π' H' (bq ins (cells.map (Aw dead part)) news) cs
 |ins,k,[],j6,x,us,o,cur,st1,news,Oq,cs,_,_,_,hb,_=>by
  have hb:cs= []:=by rcases ins with _|⟨⟨_|_,c⟩,r⟩<;>(try cases c)<;>simpa [Ce] using hb
  rw [hb,List.map_nil,rn]
  trivial
 | [],k,a::cells,j6,x,us,o,cur,st1,news,Oq,cs,_,hk,_,_,_=>by simp [Pd] at hk
 |(true, .Gt τ)::r,k,a::cells,j6,x,us,o,cur,st1,news,Oq,cs,_,hk,_,_,_=>by simp [Pd] at hk
 |(true, .part e te)::r,k,a::cells,j6,x,us,o,cur,st1,news,Oq,cs,_,hk,_,_,_=>by simp [Pd] at hk
 |(true, .Ak e te _)::r,k,a::cells,j6,x,us,o,cur,st1,news,Oq,cs,_,hk,_,_,_=>by simp [Pd] at hk
 |(true, .row e te)::r,k,a::cells,j6,x,us,o,cur,st1,news,Oq,cs,ht,hk,hp,hb,hn=>by
  cases a<;>simp only [Pd,Bool.false_eq_true] at hk
  rename_i l off len
  cases us with
  |nil=>exact ht.elim
  |cons u0 us=>
  cases cs with
  |nil=>exact hb.elim
  |cons u cs=>
  obtain ⟨⟨_,h1⟩,h2⟩:=ht
  simp only [Mw] at h1
  obtain ⟨h3,rfl,rfl,fr,tr,h4⟩:=h1
  obtain ⟨h5,h6⟩:=hb
  simp only [List.cons_append,Ee] at hp
  split at hp
  rotate_left
  ·cases hp
  rename_i Tj WB
  have JT:List.length o.1=List.length x.1:=by
   simp only [Vy] at WB
   repeat' split at WB
   all_goals first|(cases WB;done)|(rename_i hc;exact hc.2.1)
  refine ⟨?_,dV TZ Ql r (k+1) cells j6 x.2 us o.2 Tj st1 news Oq cs h2 hk hp h6 hn⟩
  by_cases hd:l∈dead
  ·have:Aw dead part (.own l 0 (List.length x.1))= .undef:=by
    unfold Aw
    rw [if_pos (by simp [AC.refs,hd])]
   rw [this];trivial
  ·rw [Wg (by simpa [AC.refs] using hd) (by intro l i j e;rcases e with e|e<;>cases e)]
   obtain ⟨b',g1,g2⟩:=Ql l _ e.size (List.length x.1) hd h4 rfl
   refine ⟨b',e.size,List.length x.1,g1,g2,by omega,?_⟩
   rw [TZ l hd]
   rw [h3,JT] at h5
   cases hp:π l<;>(rw [hp] at h5;exact h5)
 |(true, .Dx e te)::r,k,a::cells,j6,x,us,o,cur,st1,news,Oq,cs,ht,hk,hp,hb,hn=>by
  cases a<;>simp only [Pd,Bool.false_eq_true] at hk
  rename_i l off len
  cases us with
  |nil=>exact ht.elim
  |cons u0 us=>
  cases cs with
  |nil=>exact hb.elim
  |cons u cs=>
  obtain ⟨⟨_,h1⟩,h2⟩:=ht
  simp only [Mw] at h1
  obtain ⟨h3,rfl,rfl,h4⟩:=h1
  obtain ⟨h5,h6⟩:=hb
  simp only [List.cons_append,Ee] at hp
  split at hp
  rotate_left
  ·cases hp
  rename_i Tj WB
  have JT:List.length o.1=List.length x.1:=by
   simp only [Vy] at WB
   repeat' split at WB
   all_goals first|(cases WB;done)|(rename_i hc;exact hc.2.1)
  refine ⟨?_,dV TZ Ql r (k+1) cells j6 x.2 us o.2 Tj st1 news Oq cs h2 hk hp h6 hn⟩
  by_cases hd:l∈dead
  ·have:Aw dead part (.own l 0 (List.length x.1))= .undef:=by
    unfold Aw
    rw [if_pos (by simp [AC.refs,hd])]
   rw [this];trivial
  ·rw [Wg (by simpa [AC.refs] using hd) (by intro l i j e;rcases e with e|e<;>cases e)]
   obtain ⟨b',g1,g2⟩:=Ql l _ e.size (List.length x.1) hd h4 rfl
   refine ⟨b',e.size,List.length x.1,g1,g2,by omega,?_⟩
   rw [TZ l hd]
   rw [h3,JT] at h5
   cases hp:π l<;>(rw [hp] at h5;exact h5)
 |(false,c)::r,k,a::cells,j6,x,[],o,cur,st1,news,Oq,cs,ht,hk,hp,hb,hn=>ht.elim
 |(false,c)::r,k,a::cells,j6,x,u0::us,o,cur,st1,news,Oq,[],ht,hk,hp,hb,hn=>by cases c<;>exact hb.elim
 |(false,c)::r,k,a::cells,j6,x,u0::us,o,cur,st1,news,[],u::cs,ht,hk,hp,hb,hn=>by cases c<;>exact hb.elim
 |(false,c)::r,k,a::cells,j6,x,u0::us,o,cur,st1,[],u'::Oq,u::cs,ht,hk,hp,hb,hn=>hn.elim
 |(false,c)::r,k,a::cells,j6,x,u0::us,o,cur,st1,na::news,u'::Oq,u::cs,ht,hk,hp,hb,hn=>by
  have hb2:u=u'/\Ce πc (k+1) r o cells.length cs Oq:=by cases c<;>exact hb
  obtain ⟨rfl,hb3⟩:=hb2
  have hp:Ee r o (cells++j6) cur=some st1:=by cases c<;>simpa only [List.cons_append,Ee] using hp
  have hk:Pd r cells=true:=by cases c<;>simpa only [Pd] using hk
  exact ⟨hn.1,dV TZ Ql r (k+1) cells j6 x.2 us o cur st1 news Oq cs ht.2 hk hp hb3 hn.2⟩
theorem xz {V:List Nat} {πc:Pi} : ∀(cs:List (Bool×CK)) (k0:Nat) (x:Ins.den cs) (as:List AC) (us:List Value),k0+cs.length<100000->lp X w π V H πc k0 cs x as us-> ∀k l,(Bq false k,Loc.row l)∈Hd k0 cs as->πc (Bq false k)=(π l).map full
 | [],_,_,[],_,_,_,_,_,h=>by cases h
 | [],_,_,_::_,_,_,_,_,_,h=>by cases h
 |_::_,_,_,[],_,_,_,_,_,h=>by cases h
 |_::_,_,_,_::_,[],_,h,_,_,_=>h.elim
 |(io,c)::r,k0,x,a::as,u::us,hk,h,k,l,ht=>by
  simp only [List.length_cons] at hk
  simp only [Hd] at ht
  rcases List.mem_append.1 ht with ht|ht
  ·obtain ⟨⟨_,h1⟩,_⟩:=h
   cases c with
   |Gt τ=>cases a<;>simp [Kp,views] at ht
   |row e te=>
    cases a<;>simp [Kp] at ht
    obtain ⟨e1,rfl⟩:=ht
    simp only [Mw] at h1
    rw [e1];exact h1.1
   |Dx e te=>
    cases a<;>simp [Kp] at ht
    obtain ⟨e1,rfl⟩:=ht
    simp only [Mw] at h1
    rw [e1];exact h1.1
   |part e te=>
    cases a<;>simp [Kp] at ht
    obtain ⟨e1,rfl⟩:=ht
    simp only [Mw] at h1
    rw [e1];exact h1.2.1
   |Ak e te kp=>
    cases a<;>simp [Kp] at ht
    obtain ⟨e1,rfl⟩:=ht
    simp only [Mw] at h1
    rw [e1];exact h1.2.1
  ·exact xz r (k0+1) x.2 as us (by omega) h.2 k l ht
theorem lq {st:St} {a:Act} (h:Aj X π st a w) {f:FuncId} {s:MSpec} (hs:Dp P f s) (dst:Option Nat) (gH:List AV) (vs:List Value) (hlen:gH.length=vs.length)
  (JI: ∀(i:Nat) c v,gH[i]?=some c->vs[i]?=some v->Ao X w π st.heap c v) (av:AV) (st':St) (he:Qh st dst s gH=some (av,st')):
  Calls P f vs.toArray w λe w'=> ∃v,e= .returned v/\ ∃π',Aj X π' st' a w'/\Ao X w' π' st'.heap av v:=by
 unfold Qh at he
 split at he
 ·cases he
 rename_i pl cells rest Agx
 split at he
 ·cases he
 rename_i j6 IC
 split at he
 ·cases he
 rename_i x tks htk
 split at he
 rotate_left
 ·cases he
 rename_i Fq
 simp only [Bool.and_eq_true,Nat.blt_eq] at Fq
 obtain ⟨⟨⟨⟨pj,mY⟩,hon⟩,Nq⟩,Aap,EA⟩:=Fq
 have EA: ∀l∈pl,l∉(tks.map λt=>t.2.Pu)/\l∉Lw s tks (dst.getD 0):= λl hl=>by
  have:=List.all_eq_true.1 EA l hl
  simp only [Bool.not_eq_true',<-Bool.not_eq_true,List.contains_iff_mem] at this
  exact ⟨λhm=>this (List.mem_append_left _ hm),λhm=>this (List.mem_append_right _ hm)⟩
 split at he
 ·cases he
 rename_i r o JO
 split at he
 ·cases he
 rename_i st1 WE
 obtain ⟨g,SL,rT,Aaq,Afn,Ah0,ZI⟩:=FP h hlen JI Agx
 obtain ⟨q9,rfl,IB,Agz⟩:=So s.Hf rest rT j6 Aaq Afn IC
 have WG:=Ah0.append Agz
 have Lb:j8 s w g (SL++q9) vs:=by
  unfold j8
  rcases ZI with ⟨h1,_,_,h2,h3⟩|⟨p,l,q,h1,_,_,_,_,_,h2,h3,h4,h5⟩
  ·rw [h1];subst h2;exact ⟨h3,IB⟩
  ·rw [h1]
   have hl:SL.length=p.2:=h5.1.trans h2
   simp only
   rw [List.drop_append_of_le_length (by omega),List.take_append_of_le_length (by omega),List.take_of_length_le (by omega),List.drop_of_length_le (by omega)]
   refine ⟨h3,IB,by simp;omega,h4,λu hu=>?_⟩
   obtain ⟨i,hi,rfl⟩:=List.mem_iff_getElem.1 hu
   obtain ⟨u',h6,h7,_⟩:=h5.2 i (cells[i]'(by have:=h5.1;omega)) (List.getElem?_eq_getElem _)
   rw [List.getElem?_eq_getElem hi] at h6
   rw [Option.some.inj h6];exact h7
 have EB: ∀l∈pl,∃p q,s.ptr=some p/\pl= [l]/\π l=some q/\q.Ax q.g/\g=q.g/\Ae st.heap l=some (.var p.1 cells)/\cells.length=p.2:= λl hl=>by
  rcases ZI with ⟨_,h1,_⟩|⟨p,l',q,h1,h2,h3,h4,h5,h6,h7,_⟩
  ·rw [h1] at hl;cases hl
  ·rw [h2] at hl
   have:=List.mem_singleton.1 hl
   subst this
   exact ⟨p,q,h1,h2,h3,h4,h5,h6,h7⟩
 have DT: ∀b,s.gv g b-> ∃l∈pl,∃q,π l=some q/\q.Ax b/\b=q.g:= λb ⟨h1,h2⟩=>by
  rcases ZI with ⟨h3,_⟩|⟨p,l',q,_,h4,h5,h6,h7,_⟩
  ·rw [h3] at h1;cases h1
  ·exact ⟨l',by rw [h4];exact List.mem_singleton.2 rfl,q,h5,by rw [h2,h7];exact h6,h2.trans h7⟩
 obtain ⟨as,has⟩: ∃as,as=cells++j6:=⟨_,rfl⟩
 obtain ⟨us,KA⟩: ∃us,us=SL++q9:=⟨_,rfl⟩
 rw [<-has] at WG htk WE
 rw [<-KA] at WG Lb
 let V:=(tks.filter λt=>t.2.reads).map λt=>t.2.Pu
 have hV: ∀t∈tks,t.2.reads=true->t.2.Pu∈V:= λt ht hr=>List.mem_map.2 ⟨t,List.mem_filter.2 ⟨ht,hr⟩,rfl⟩
 have hV': ∀l∈V,∃t∈tks,t.2.reads=true/\t.2.Pu=l:= λl hl=>by
  obtain ⟨t,h1,h2⟩:=List.mem_map.1 hl
  exact ⟨t,(List.mem_filter.1 h1).1,(List.mem_filter.1 h1).2,h2⟩
 clear_value V
 obtain ⟨NX,πc,hT,JL,Ag7,Pb⟩:=oJ h.1 (V:=V) s.ins 0 as us x tks (by omega) WG htk hV
 have yJ:=Qr pj
 rw [NX] at yJ
 have Yo: ∀b,Nn πc b-> ∃t∈Hd 0 s.ins as,t.2.reads=false/\ ∃q,π t.2.Pu=some q/\q.Ax b/\ ∀l i j,t.2= .sub l i j->b≠q.g:= λb ⟨c,q,h1,h2⟩=>by
  obtain ⟨t,t1,_,t3⟩:=Pb c q b h1 h2
  exact ⟨t,t1,t3⟩
 have yL: ∀b,Nn πc b->Nn π b:= λb hb=>let ⟨t,_,_,q,h1,h2,_⟩:=Yo b hb;⟨_,q,h1,h2⟩
 have bN:Xd πc (λb=>b<w.heap.size):=⟨λl q b h1 h2=>(h.1.own (yL b ⟨l,q,h1,h2⟩)).1,λl l' q q' b h1 h2 h3 h4=>by
  obtain ⟨t,t1,t2,_,p,t3,t4,_⟩:=Pb l q b h1 h3
  obtain ⟨t',XW,t2',_,p',t3',t4',_⟩:=Pb l' q' b h2 h4
  have:=sV yJ t1 XW (h.1.apart t3 t3' t4 t4')
  rw [<-t2,<-t2',this]⟩
 have Aa6: ∀k l,(Bq false k,Loc.row l)∈Hd 0 s.ins as->πc (Bq false k)=(π l).map full:= λk l ht=>
  xz s.ins 0 x as us (by omega) hT k l ht
 have Abm: ∀b,Nn πc b->Jn X π V b:= λb hb=> .inl ⟨yL b hb,λl hl r' hr hf=>by
  obtain ⟨t,t1,t0,q,t3,t4,_⟩:=Yo b hb
  obtain ⟨t',XW,t2',rfl⟩:=hV' l hl
  rw [NX] at XW
  have:=sV yJ t1 XW (h.1.apart t3 hr t4 hf)
  subst this
  rw [t0] at t2';cases t2'⟩
 let S:Nat->Prop:= λb=> ¬Nn πc b/\Jn X π V b
 have hS: ∀b,S b->b<w.heap.size/\ ¬Nn πc b:= λb hb=>⟨by
  rcases hb.2 with h1|h1
  ·exact (h.1.own h1.1).1
  ·exact Nat.lt_of_lt_of_le (h.1.sc b h1).1 h.1.below.size,hb.1⟩
 have QD: ∀l∈pl,∀t∈Hd 0 s.ins as,t.2.Pu≠l:= λl hl t ht e=>(EA l hl).1 (List.mem_map.2 ⟨t,NX▸ht,e⟩)
 have hSg:s.ptr.isSome=true->S g:= λZH=>by
  obtain ⟨l,hl,q,h1,h2,h3⟩:=DT g ⟨ZH,rfl⟩
  have VZ: ¬Nn πc g:= λhb=>by
   obtain ⟨t,t1,_,q',t3,t4,_⟩:=Yo g hb
   exact QD l hl t t1 (h.1.apart t3 h1 t4 h2)
  refine ⟨VZ, .inl ⟨⟨l,q,h1,h2⟩,λl' Gk r' fN hf=>?_⟩⟩
  obtain ⟨t',XW,_,rfl⟩:=hV' l' Gk
  rw [NX] at XW
  exact QD l hl t' XW (h.1.apart fN h1 hf h2)
 refine (hs.calls w S πc us x r o g vs Lb hSg (Zn.Fb (λb hb=>hb.elim (Abm b) λh=>h.2) s.ins 0 x us (hT.Abv s.ins 0 x as us)) bN hS Ag7 JO).mono ?_
 rintro e w' ⟨v,Oq,j5,rfl,aa,qC,PM,sB,Ab0,JV,WQ,qH⟩
 obtain ⟨ρ,QN,sG,JU,TD⟩: ∃ρ:Pi,(∀l,ρ l=(j5 l).map full)/\Ep w' (Xb S πc j5) ρ 0 s.outs r Oq/\Xd ρ (λb=>b<w'.heap.size/\(w.heap.size<=b\/ ∃l q,l<Ai/\πc l=some q/\q.Ax b))/\ ∀l q,ρ l=some q->q.cl=q.Ax:=by
  have un: ∀l q,(j5 l).map full=some q-> ∃q0,j5 l=some q0/\q=full q0:= λl q hq=>by
   cases hp:j5 l with
   |none=>rw [hp] at hq;cases hq
   |some q0=>rw [hp] at hq;exact ⟨q0,rfl,(Option.some.inj hq).symm⟩
  refine ⟨λl=>(j5 l).map full,λ_=>rfl,Ep.full s.outs 0 r Oq Ab0,⟨λl q b h1 h2=>?_,λl l' q q' b h1 h2 h3 h4=>?_⟩,λl q h1=>?_⟩
  ·obtain ⟨q0,h5,rfl⟩:=un l q h1
   exact JV.Rx l q0 b h5 h2
  ·obtain ⟨q0,h5,rfl⟩:=un l q h1
   obtain ⟨XS,h6,rfl⟩:=un l' q' h2
   exact JV.inj l l' q0 XS b h5 h6 h3 h4
  ·obtain ⟨q0,_,rfl⟩:=un l q h1
   rfl
 refine ⟨v,rfl,?_⟩
 split at he
 ·cases he
 rename_i av0 cz
 split at he
 rotate_left
 ·cases he
 rename_i Qm
 simp only [Option.some.injEq,Prod.mk.injEq] at he
 obtain ⟨rfl,rfl⟩:=he
 let D1:Nat->Prop:=if s.flat then λ_=>True else Xb S πc j5
 have Aga:Ha w' D1 πc 0 s.ins o:=by
  show Ha w' (if s.flat then λ_=>True else Xb S πc j5) πc 0 s.ins o
  split
  ·rename_i hf
   unfold MSpec.flat at hf
   simp only [Bool.and_eq_true] at hf
   exact Ha.any s.ins 0 o hf.2 sB
  ·exact sB
 have Ab1:Ep w' D1 ρ 0 s.outs r Oq:=by
  show Ep w' (if s.flat then λ_=>True else Xb S πc j5) ρ 0 s.outs r Oq
  split
  ·rename_i hf
   unfold MSpec.flat at hf
   simp only [Bool.and_eq_true] at hf
   exact Ep.any s.outs 0 r Oq hf.1 sG
  ·exact sG
 obtain ⟨q1,q2,q3,q4⟩:=nO (D:=D1) (X:=X) (π:=π) (H:=st.heap) h.1 PM.size (tks:=Hd 0 s.ins as) (πc:=πc) (λt ht q b hq hb Hq hn=>PM.block b Hq λyK=>by
   rcases yK with ⟨c,r',h1,h2⟩|hg
   rotate_left
   ·obtain ⟨l,hl,q',h1,h2,_⟩:=DT b hg
    exact QD l hl t ht (h.1.apart hq h1 hb h2)
   obtain ⟨t',t1,t2,_,p,t3,t4,_⟩:=Pb c r' b h1 h2
   have:=sV yJ ht t1 (h.1.apart hq t3 hb t4)
   subst this
   exact hn r' (t2▸h1) h2) s.ins 0 x as us o st st1 (by omega) (λ_ h=>h) yJ hT Aga WE (λ_ _=>rfl)
 have WH: ∀t∈Hd 0 s.ins as,t.2.reads=true->t.1<Ai:=by
  have: ∀(cs:List (Bool×CK)) (k:Nat) (as:List AC),k+cs.length<100000-> ∀t∈Hd k cs as,t.2.reads=true->t.1<Ai:=by
   intro cs
   induction cs with
   |nil=>intro k as _ t ht;cases as<;>cases ht
   |cons p r ih=>
    intro k as hk t ht hr
    simp only [List.length_cons] at hk
    cases as with
    |nil=>cases ht
    |cons a as=>
     simp only [Hd] at ht
     rcases List.mem_append.1 ht with ht|ht
     ·rcases xy ht with ⟨_,h1⟩|⟨h1,_⟩
      ·rw [hr] at h1;cases h1
      ·rw [h1];exact aF (by omega)
     ·exact ih (k+1) as (by omega) t ht hr
  exact this s.ins 0 as (by omega)
 let d:=dst.getD 0
 let ks:=Lw s tks d
 let dead:=gO tks++ks++(if s.flat then [] else uy tks)
 let part:=whole tks
 have Ah3:s.outs.length+(ga s d).length=s.Mp:=by unfold MSpec.Mp ga;cases s.rp<;>rfl
 obtain ⟨VT,Agi,TK⟩:ks.length=s.Mp/\ks.Nodup/\ ∀l∈ks,l<Ai:=by
  have:=yX mY
  rw [Ah3] at this
  exact this
 have VZ:s.outs.length<=s.Mp:=by unfold MSpec.Mp;omega
 have QI: ∀tid,s.rp=some tid->Bv ks s.outs.length=Mv d/\s.Mp=s.outs.length+1:= λtid Qn=>by
  have h1:s.Mp=s.outs.length+1:=by unfold MSpec.Mp;rw [Qn]
  refine ⟨?_,h1⟩
  have h2:ks=gK s tks d++ [Mv d]:=by show gK s tks d++ga s d=_;unfold ga;rw [Qn]
  have h3:(gK s tks d).length=s.outs.length:=by rw [h2] at VT;simp at VT;omega
  rw [Li (by rw [VT];omega)]
  simp only [h2]
  rw [List.getElem_append_right (by omega)]
  simp [h3]
 have JS:=vo Agi TK
 have Agg: ∀j,j<s.Mp->Bv ks j<Ai:= λj hj=>TK _ (mem_keys.2 ⟨j,by omega,rfl⟩)
 let π':Pi:= λl=>match (List.range s.Mp).find? λj=>decide (Bv ks j=l) with
  |some j=>ρ (Ei j)
  |none=>if l∈dead then none else π l
 have pe: ∀j,j<s.Mp->π' (Bv ks j)=ρ (Ei j):= λj hj=>by
  show (match (List.range s.Mp).find? λi=>decide (Bv ks i=Bv ks j) with|some i=>ρ (Ei i)|none=>_)=_
  cases hf:(List.range s.Mp).find? λi=>decide (Bv ks i=Bv ks j) with
  |none=>
   have:=List.find?_eq_none.1 hf j (List.mem_range.2 hj)
   simp at this
  |some i=>
   have:=List.find?_some hf
   rw [JS i j (of_decide_eq_true this)]
 have mX: ∀j,j<s.Mp->Bv ks j∈dead:= λj hj=>List.mem_append_left _ (List.mem_append_right _ (mem_keys.2 ⟨j,by omega,rfl⟩))
 have sC: ∀l,(¬ ∃j,j<s.Mp/\l=Bv ks j)->π' l=if l∈dead then none else π l:= λl hl=>by
  show (match (List.range s.Mp).find? λi=>decide (Bv ks i=l) with|some i=>ρ (Ei i)|none=>_)=_
  cases hf:(List.range s.Mp).find? λi=>decide (Bv ks i=l) with
  |none=>rfl
  |some i=>
   have h1:=List.find?_some hf
   exact absurd ⟨i,List.mem_range.1 (List.mem_of_find?_eq_some hf),(of_decide_eq_true h1).symm⟩ hl
 have KF: ∀l,l∉dead->π' l=π l:= λl hl=>by
  rw [sC l (λ⟨j,h1,h2⟩=>hl (h2▸mX j h1)),if_neg hl]
 have ZZ: ∀b,Nn π' b\/X.Sc b->D1 b:=by
  intro b hb
  show (if s.flat then λ_=>True else Xb S πc j5) b
  split
  ·trivial
  rename_i hnf
  rcases hb with ⟨l,q,hl,hf⟩|hb
  ·by_cases hk: ∃j,j<s.Mp/\l=Bv ks j
   ·obtain ⟨j,hj,rfl⟩:=hk
    rw [pe j hj,QN] at hl
    cases hp:j5 (Ei j) with
    |none=>rw [hp] at hl;cases hl
    |some q0=>rw [hp] at hl;simp only [Option.map_some,Option.some.injEq] at hl;subst hl;exact .inr (.inr ⟨Ei j,q0,hp,hf⟩)
   ·have e0:π' l=if l∈dead then none else π l:=sC l hk
    rw [e0] at hl
    split at hl
    ·cases hl
    ·rename_i QA
     by_cases ho:Nn πc b
     ·obtain ⟨c,q',hc,hcb⟩:=ho
      obtain ⟨t,t1,t2,t0,p,t3,t4,_⟩:=Pb c q' b hc hcb
      have sD:=h.1.apart hl t3 hf t4
      refine .inr (.inl ⟨c,q',Classical.byContradiction λhn=>?_,hc,hcb⟩)
      exact QA (List.mem_append_left _ (List.mem_append_left _ (Yu.2 ⟨t,NX▸t1,⟨by rw [t2];omega,t0⟩,sD.symm⟩)))
     ·refine .inl ⟨ho, .inl ⟨⟨l,q,hl,hf⟩,λl0 VV r0 OJ hf0=>?_⟩⟩
      have:=h.1.apart hl OJ hf hf0
      subst this
      exact QA (List.mem_append_right _ (by rw [if_neg hnf];exact nw.2 (hV' l VV)))
  ·refine .inl ⟨λho=>?_, .inr hb⟩
   have h1:=h.1.sc b hb
   rcases (h.1.own (yL b ho)).2 with h2|h2
   ·omega
   ·exact h1.2 h2
 have hpd: ∀l∈pl,l∉dead:= λl hl hd=>by
  rcases List.mem_append.1 hd with hd|hd
  ·rcases List.mem_append.1 hd with hd|hd
   ·obtain ⟨t,ht,_,e⟩:=Yu.1 hd
    exact (EA l hl).1 (List.mem_map.2 ⟨t,ht,e⟩)
   ·exact (EA l hl).2 hd
  ·split at hd
   ·cases hd
   ·obtain ⟨t,ht,_,e⟩:=nw.1 hd
    exact (EA l hl).1 (List.mem_map.2 ⟨t,ht,e⟩)
 have VS: ∀j,j<s.Mp->Bv ks j∉pl:= λj hj hp=>hpd _ hp (mX j hj)
 let bv:Option OB:=s.rp.map λtid=> .var tid ((Vj (Bv ks) 0 s.outs r).drop s.Qa)
 let H1:=(lD s.ins (Vj (Bv ks) 0 s.outs r) pl (st1.Wf dead part)).heap
 have YU: ∀l,l∉pl->Ae H1 l=if l∈dead then none else (Ae st1.heap l).map (OB.map (Aw dead part)):= λl hl=>by
  show Ae (lD _ _ _ _).heap l=_
  rw [zH hl]
  show Ae (Qe (st1.heap.map λp=>(p.1,p.2.map (Aw dead part))) dead) l=_
  rw [Im,Jr]
 let H2:=w8 H1 (Mv d) bv
 have hvd: ∀tid,s.rp=some tid->Mv d∈dead/\Mv d∉pl:= λtid Qn=>by
  obtain ⟨e1,e2⟩:=QI tid Qn
  rw [<-e1]
  exact ⟨mX _ (by omega),VS _ (by omega)⟩
 have Aa3: ∀l,(∀tid,s.rp=some tid->l≠Mv d)->Ae H2 l=Ae H1 l:= λl hl=>by
  show Ae (w8 H1 (Mv d) (s.rp.map _)) l=_
  cases xR:s.rp with
  |none=>rfl
  |some tid=>exact Jy _ _ _ _ (hl tid xR)
 have Af9: ∀tid,s.rp=some tid->Ae H2 (Mv d)=some (.var tid ((Vj (Bv ks) 0 s.outs r).drop s.Qa)):= λtid Qn=>by
  show Ae (w8 H1 (Mv d) (s.rp.map _)) (Mv d)=_
  rw [Qn]
  exact Kr _ _ _ (by rw [YU _ (hvd tid Qn).2,if_pos (hvd tid Qn).1])
 have hkv: ∀j,j<s.outs.length-> ∀tid,s.rp=some tid->Bv ks j≠Mv d:= λj hj tid Qn e=>by
  have:=JS j s.outs.length (e.trans (QI tid Qn).1.symm)
  omega
 have hH2: ∀l,l∉pl->(∀tid,s.rp=some tid->l≠Mv d)->Ae H2 l=if l∈dead then none else (Ae st1.heap l).map (OB.map (Aw dead part)):= λl hl hv=>by
  rw [Aa3 l hv,YU l hl]
 let H':=Qs (BH st (gO tks)) (Bv ks) 0 s.outs r H2
 obtain ⟨n1,n2,n3⟩:=l4 (D:=D1) (X:=X) (key:=Bv ks) JS (fr:=BH st (gO tks)) (ρ:=ρ) s.outs 0 r Oq H2 Ab1 (λj _ hj=>by
  rw [hH2 _ (VS j (by omega)) (hkv j (by omega)),if_pos (mX j (by omega))])
 have js: ∀l,l∉dead->l∉pl->Ae H' l=(Ae st1.heap l).map (OB.map (Aw dead part)):= λl hl ph=>by
  show Ae (Qs _ _ _ _ _ _) l=_
  rw [n1 l λj _ hj e=>hl (e▸mX j (by omega)),hH2 l ph (λtid Qn e=>hl (e▸(hvd tid Qn).1)),if_neg hl]
 have PJ: ∀l,l∈dead->(∀j,j<s.Mp->l≠Bv ks j)->Ae H' l=none:= λl hl hj=>by
  show Ae (Qs _ _ _ _ _ _) l=_
  rw [n1 l λj _ h2=>hj j (by omega),hH2 l (λhp=>hpd l hp hl) (λtid Qn e=>hj s.outs.length (by have:=(QI tid Qn).2;omega) (e.trans (QI tid Qn).1.symm)),if_pos hl]
 have newAt: ∀l b',Ae H' l=some b'->(l∈dead\/Ae st.heap l=none)-> ∃j,j<s.Mp/\l=Bv ks j:=by
  intro l b' hb hd
  refine Classical.byContradiction λhn=>?_
  have lS: ∀j,j<s.Mp->l≠Bv ks j:= λj hj e=>hn ⟨j,hj,e⟩
  rcases Classical.em (l∈dead) with hd'|hd'
  ·rw [PJ l hd' lS] at hb;cases hb
  ·rcases hd with hd|hd
   ·exact hd' hd
   ·rw [js l hd' (λhp=>by obtain ⟨_,_,_,_,_,_,_,h1,_⟩:=EB l hp;rw [hd] at h1;cases h1)] at hb
    have:Ae st1.heap l=none:=by
     by_cases hi: ∃t∈Hd 0 s.ins as,t.2.Pu=l
     ·obtain ⟨t,ht,e⟩:=hi
      by_cases Hq:t.1<Ai
      ·rw [<-e,q3 t ht Hq,e];exact hd
      ·obtain ⟨b0,_,h1,_⟩:=q4 t ht Hq
       rw [e,hd] at h1;cases h1
     ·rw [q2 l λt ht e=>hi ⟨t,ht,e.symm⟩];exact hd
    rw [this] at hb;cases hb
 have VK: ∀k,BH st (gO tks)=true-> ∀q,ρ (Ei k)=some q->q.Ax q.g->X.w0.heap.size<=q.g:=by
  intro k vX q hq hg
  rcases (JU.Rx _ q _ hq hg).2 with h1|⟨c,p,h1,h2,h3⟩
  ·exact Nat.le_trans h.1.below.size h1
  ·obtain ⟨t,t1,t2,t0,p',t3,t4,_⟩:=Pb c p _ h2 h3
   have hm:t.2.Pu∈gO tks:=Yu.2 ⟨t,NX▸t1,⟨by rw [t2];exact h1,t0⟩,rfl⟩
   have:=List.all_eq_true.1 vX _ hm
   split at this
   ·rename_i fr tr e te xs hl
    unfold St.at at hl
    have hb:=(h.1.heap t.2.Pu).Mh hl
    simp only [Au,Fv,t3] at hb
    rw [hb.1.2.1 _ t4]
    exact hb.1.2.2 this
   ·cases this
 have VI: ∀k q,ρ (Ei k)=some q->k<s.outs.length->q.Ax q.g:=by
  intro k q hq hk
  exact Ep.SO s.outs 0 r Oq sG k (Nat.zero_le _) ((Nat.zero_add _).symm▸hk) q hq
 have hinv: ∀l,l∉dead->(∃t∈Hd 0 s.ins as,t.2.reads=false/\t.2.Pu=l)->gD X D1 w' π st.heap st1.heap l:=by
  rintro l hd ⟨t,ht,h0,rfl⟩
  by_cases Hq:t.1<Ai
  ·exact absurd (List.mem_append_left _ (List.mem_append_left _ (Yu.2 ⟨t,NX▸ht,⟨Hq,h0⟩,rfl⟩))) hd
  ·exact q4 t ht Hq
 have sF: ∀l,(¬ ∃t∈Hd 0 s.ins as,t.2.reads=false/\t.2.Pu=l)->Ae st1.heap l=Ae st.heap l:= λl hn=>by
  by_cases hi: ∃t∈Hd 0 s.ins as,t.2.Pu=l
  ·obtain ⟨t,ht,rfl⟩:=hi
   have hr:t.2.reads=true:=by
    cases h0:t.2.reads with
    |true=>rfl
    |false=>exact absurd ⟨t,ht,h0,rfl⟩ hn
   exact q3 t ht (WH t ht hr)
  ·exact q2 l λt ht e=>hi ⟨t,ht,e.symm⟩
 have SY: ∀l∈pl,∀p,s.ptr=some p->Ae H' l=some (.var p.1 (bq s.ins (cells.map (Aw dead part)) (Vj (Bv ks) 0 s.outs r))):= λl hl p hp=>by
  obtain ⟨p',q,h1,h2,_,_,_,h3,_⟩:=EB l hl
  rw [hp] at h1;cases h1
  show Ae (Qs _ _ _ _ _ _) l=_
  rw [n1 l λj _ hj e=>VS j (by omega) (e▸hl),Aa3 l (λtid Qn e=>(hvd tid Qn).2 (e▸hl))]
  show Ae (lD _ _ _ _).heap l=_
  rw [h2]
  refine FZ ?_
  show Ae (Qe (st1.heap.map λp=>(p.1,p.2.map (Aw dead part))) dead) l=_
  rw [Im,Jr,if_neg (hpd l hl),sF l (λ⟨t,ht,_,e⟩=>QD l hl t ht e),h3]
  rfl
 have TM: ∀j,j<s.Mp->s.outs.length<=j-> ∃tid,s.rp=some tid/\j=s.outs.length:= λj h1 h2=>by
  cases xR:s.rp with
  |none=>unfold MSpec.Mp at h1;rw [xR] at h1;simp at h1;omega
  |some tid=>exact ⟨tid,rfl,by have:=(QI tid xR).2;omega⟩
 have hHv: ∀tid,s.rp=some tid->Ae H' (Mv d)=some (.var tid ((Vj (Bv ks) 0 s.outs r).drop s.Qa)):= λtid Qn=>by
  show Ae (Qs _ _ _ _ _ _) _=_
  rw [n1 _ λj _ hj e=>hkv j (by omega) tid Qn e.symm,Af9 tid Qn]
 suffices Aas:Aj X π' (fp st st1 d s pl tks r) a w'/\Ao X w' π' (fp st st1 d s pl tks r).heap av0 v by
  obtain ⟨m1,m2⟩:=Aas
  have kL: ∀(kj:List (Nat×Nat)) (l:Nat),l∈Vf st.heap ks tks kj->ij st.heap l=true/\ ∃k j t,(k,j)∈kj/\t∈tks/\t=(Bq false k,Loc.row l)/\ks[j]?=some l:=by
   intro kj
   induction kj with
   |nil=>intro l hl;cases hl
   |cons p kj ih=>
    intro l hl
    obtain ⟨k,j⟩:=p
    have up:l∈Vf st.heap ks tks kj->ij st.heap l=true/\ ∃k' j' t,(k',j')∈(k,j)::kj/\t∈tks/\t=(Bq false k',Loc.row l)/\ks[j']?=some l:= λhl=>by
     obtain ⟨h1,k',j',t,h2,h3⟩:=ih l hl
     exact ⟨h1,k',j',t,List.mem_cons_of_mem _ h2,h3⟩
    simp only [Vf] at hl
    split at hl
    ·rename_i x0 l1 l2 h1 h2
     split at hl
     ·rename_i hc
      simp only [Bool.and_eq_true] at hc
      rcases List.mem_cons.1 hl with rfl|hl
      ·have:=List.find?_some h1
       have e1:=Nat.eq_of_beq_eq_true this
       have e2:=Nat.eq_of_beq_eq_true hc.1
       dsimp only at e1
       exact ⟨hc.2,k,j,_,List.mem_cons_self,List.mem_of_find?_eq_some h1,by rw [e1],by rw [h2,e2]⟩
      ·exact up hl
     ·exact up hl
    ·exact up hl
  obtain ⟨r1,r2⟩:=yU h m1 (ls:=Vf st.heap ks tks s.keeps) (n:=s.Cr x) (λl hl=>by
   obtain ⟨_,k,j,t,h1,h2,h3,h4⟩:=kL s.keeps l hl
   have hj:j<ks.length:=(List.getElem?_eq_some_iff.1 h4).1
   have HZ:Bv ks j=l:=by
    rw [Li hj]
    rw [List.getElem?_eq_getElem hj] at h4
    exact Option.some.inj h4
   have pf:=qH (k,j) h1
   rw [show π' l=ρ (Ei j) by rw [<-HZ];exact pe j (by omega),QN]
   have hc:πc (Bq false k)=(π l).map full:=Aa6 k l (by rw [<-h3,<-NX];exact h2)
   dsimp only at pf
   rw [hc] at pf
   cases hp:π l<;>cases hq:j5 (Ei j)<;>(rw [hp,hq] at pf;exact pf)) (λl hl=>(kL s.keeps l hl).1) Qm
  exact ⟨π',r1,r2 av0 v m2⟩
 refine ⟨?_,?_⟩
 ·have hx:=Aj.UT (π':=π') (H':=H') (dead:=dead) (part:=part) (inv:= λl=>(∃t∈Hd 0 s.ins as,t.2.reads=false/\t.2.Pu=l)\/l∈pl) (gv:= λb=>Nn πc b\/s.gv g b) h (λb hb=>by
    rcases hb with hb|hb
    ·obtain ⟨t,h1,h0,q,h2,h3,_⟩:=Yo b hb
     exact ⟨_,q, .inl ⟨t,h1,h0,rfl⟩,h2,h3⟩
    ·obtain ⟨l,hl,q,h1,h2,_⟩:=DT b hb
     exact ⟨l,q, .inr hl,h1,h2⟩) PM (λl b0 hd h0=>⟨KF l hd,?_⟩) (λl b' hb hd=>?_) (λl hl=>?_) (λm q hd hp hm hxa=>?_)
  ·have:({tmps:=(lD s.ins (Vj (Bv ks) 0 s.outs r) pl (st1.Wf dead part)).tmps,heap:=H'} :St)= {tmps:=st.tmps.map (·.map (Aw dead part)),heap:=H'} :=by
    rw [jY]
    show ({tmps:=st1.tmps.map (·.map (Aw dead part)),heap:=H'} :St)=_
    rw [q1]
   show Aj X π' ({tmps:=(lD s.ins (Vj (Bv ks) 0 s.outs r) pl (st1.Wf dead part)).tmps,heap:=H'} :St) a w'
   rw [this]
   exact hx
  ·by_cases PW:l∈pl
   ·obtain ⟨p,q,h1,h2,h3,h4,h5,h6,h7⟩:=EB l PW
    rw [h0] at h6;cases h6
    have oV:=SY l PW p h1
    refine .inr ⟨_,oV,⟨rfl,by rw [jR]⟩,λm=>?_⟩
    unfold Zk at qC
    rw [h1] at qC
    obtain ⟨cs,k1,k2,k3⟩:=qC
    rw [<-h7] at k3
    refine ⟨q,h3,h4,cs.toArray,by rw [<-h5];exact k1,?_⟩
    refine Hx.to (dV (H:=st.heap) KF (λl1 b1 sz n hd1 JJ QF=>?_) s.ins 0 cells j6 x us o st st1 (Vj (Bv ks) 0 s.outs r) Oq cs (has▸hT) Aap (has▸WE) k3 (n3 π' ZZ (λj _ hj=>pe j (by omega)))) (by simpa using k2)
    have hnp:l1∉pl:= λhp=>by
     obtain ⟨_,_,_,_,_,_,_,h8,_⟩:=EB l1 hp
     rw [JJ] at h8;cases h8;cases QF
    by_cases hi: ∃t∈Hd 0 s.ins as,t.2.reads=false/\t.2.Pu=l1
    ·obtain ⟨b1,b',e1,e2,e3,e4,e5,e6⟩:=hinv l1 hd1 hi
     rw [JJ] at e1;cases e1
     exact ⟨b',by rw [js l1 hd1 hnp,e2];simp [e4],by rw [e5.row];exact QF⟩
    ·exact ⟨_,by rw [js l1 hd1 hnp,sF l1 hi,JJ];rfl,by rw [OB.tM];exact QF⟩
   by_cases hi: ∃t∈Hd 0 s.ins as,t.2.reads=false/\t.2.Pu=l
   ·obtain ⟨b1,b',e1,e2,e3,e4,e5,e6⟩:=hinv l hd hi
    rw [h0] at e1;cases e1
    exact .inr ⟨b',by rw [js l hd PW,e2];simp [e4],by rw [e3];exact e5,λ_=>e6 π' H' ZZ⟩
   ·exact .inl ⟨λhh=>hh.elim hi PW,by rw [js l hd PW,sF l hi,h0];rfl⟩
  ·obtain ⟨j,hj,rfl⟩:=newAt l b' hb hd
   refine ⟨Agg j hj,?_,λq b hq=>?_⟩
   ·rw [pe j hj]
    rcases Nat.lt_or_ge j s.outs.length with YZ|YZ
    ·rcases n2 j (Nat.zero_le _) (by omega) with ⟨e1,_⟩|⟨b2,e1,e2⟩
     ·rw [show Ae H' (Bv ks j)=none from e1] at hb;cases hb
     ·rw [show Ae H' (Bv ks j)=some b2 from e1] at hb;cases hb
      exact e2 X π' H' (λhf q hq=>VK j hf q hq (VI j q hq YZ)) ZZ
    ·obtain ⟨tid,Qn,hj0⟩:=TM j hj YZ
     subst hj0
     rw [(QI tid Qn).1,hHv tid Qn] at hb;cases hb
     unfold gC at aa
     rw [Qn] at aa
     obtain ⟨q,y1,y2,y3,y4,_⟩:=aa
     rw [QN,y1]
     exact ⟨full q,rfl,y2,_,y3,Hx.to (Hx.take s.Qa (n3 π' ZZ (λj _ hj=>pe j (by omega)))).2 (by simpa using y4)⟩
   ·rw [pe j hj] at hq
    have Na:=TD _ q hq
    refine ⟨λhf=>by rw [Na];exact hf,λhf=>?_⟩
    rw [Na] at hf
    obtain ⟨h1,h2⟩:=JU.Rx _ q b hq hf
    refine ⟨h1,h2.imp id ?_,λl2 r2 hd2 DY VG=>?_⟩
    ·rintro ⟨c,p,h3,h4,h5⟩
     obtain ⟨t,t1,t2,t0,p',t3,t4,_⟩:=Pb c p b h4 h5
     exact ⟨t.2.Pu,p',List.mem_append_left _ (List.mem_append_left _ (Yu.2 ⟨t,NX▸t1,⟨by rw [t2];exact h3,t0⟩,rfl⟩)),t3,t4⟩
    ·by_cases hk: ∃j,j<s.Mp/\l2=Bv ks j
     ·obtain ⟨j2,hj2,rfl⟩:=hk
      rw [pe j2 hj2] at DY
      rw [TD _ r2 DY] at VG
      have:=JU.inj _ _ r2 q b DY hq VG hf
      unfold Ei at this
      have:j2=j:=by omega
      rw [this]
     ·have e0:π' l2=if l2∈dead then none else π l2:=sC l2 hk
      rw [e0] at DY
      split at DY
      ·cases DY
      ·rename_i QA
       rcases hd2 with hd2|hd2
       ·exact absurd hd2 QA
       ·rw [(h.1.heap l2).emp hd2] at DY;cases DY
  ·by_cases hk: ∃j,j<s.Mp/\l=Bv ks j
   ·obtain ⟨j,hj,rfl⟩:=hk
    rw [pe j hj]
    rcases Nat.lt_or_ge j s.outs.length with YZ|YZ
    ·rcases n2 j (Nat.zero_le _) (by omega) with ⟨_,e1⟩|⟨b2,e1,_⟩
     ·exact e1
     ·rw [show Ae H' (Bv ks j)=some b2 from e1] at hl;cases hl
    ·obtain ⟨tid,Qn,hj0⟩:=TM j hj YZ
     subst hj0
     rw [(QI tid Qn).1,hHv tid Qn] at hl;cases hl
   ·have e0:π' l=if l∈dead then none else π l:=sC l hk
    rw [e0]
    split
    ·rfl
    ·rename_i hd
     by_cases PW:l∈pl
     ·obtain ⟨p,_,h1,_⟩:=EB l PW
      rw [SY l PW p h1] at hl;cases hl
     rw [js l hd PW] at hl
     by_cases hi: ∃t∈Hd 0 s.ins as,t.2.reads=false/\t.2.Pu=l
     ·obtain ⟨_,b',_,e2,_⟩:=hinv l hd hi
      rw [e2] at hl;cases hl
     ·rw [sF l hi] at hl
      cases h0:Ae st.heap l with
      |none=>exact (h.1.heap l).emp h0
      |some b=>rw [h0] at hl;cases hl
  ·refine PM.block _ (h.1.lt hm).1 λyK=>?_
   rcases yK with ho|hg
   rotate_left
   ·obtain ⟨l,hl,q',h1,h2,_⟩:=DT _ hg
    have sD:=h.1.apart hm h1 (h.1.Ax hm) h2
    obtain ⟨_,_,_,_,_,_,_,h3,_⟩:=EB l hl
    obtain ⟨b,hxa,hxb⟩:=hxa
    rw [sD,h3] at hxa;cases hxa
    exact hxb rfl
   obtain ⟨t,t1,t0,p,t3,t4,t5⟩:=Yo _ ho
   have sD:=h.1.apart hm t3 (h.1.Ax hm) t4
   have ZG:p=q:=by rw [<-sD,hm] at t3;exact (Option.some.inj t3).symm
   cases TW:t.2 with
   |row l=>
    refine hp ?_
    show m∈whole tks
    unfold whole
    exact List.mem_flatMap.2 ⟨t,NX▸t1,by rw [TW,sD,TW];simp [Loc.Pu]⟩
   |sub l i j=>exact t5 l i j TW (by rw [ZG])
   |view l=>rw [TW] at t0;cases t0
 ·have Ah2:=n3 π' ZZ (λj _ hj=>pe j (by omega))
  cases xR:s.rp with
  |some tid=>
   unfold gC at aa
   rw [xR] at aa
   obtain ⟨q,y1,y2,y3,y4,rfl⟩:=aa
   unfold RH at cz
   rw [xR] at cz
   simp only [Option.some.injEq] at cz;subst cz
   refine ⟨full q,tid,_,hHv tid xR,?_,rfl⟩
   rw [<-(QI tid xR).1,pe _ (by have:=(QI tid xR).2;omega),QN,y1]
   rfl
  |none=>
  unfold gC at aa
  rw [xR] at aa
  obtain ⟨aa,Ah9⟩:=aa
  unfold RH at cz
  rw [xR] at cz
  simp only at cz
  obtain ⟨g1,g2,g3,g4⟩:=Yk s.Gj _ (Oq.drop s.Qa) Ah9 (Hx.take s.Qa Ah2).2
  unfold Acm at cz
  unfold MG at aa
  split at cz
  ·rename_i hm
   rw [if_pos hm] at aa
   simp only [Option.some.injEq] at cz;subst cz
   subst aa
   exact ⟨_,rfl,g3.symm,g4⟩
  ·rename_i hm
   rw [if_neg hm] at aa
   split at cz
   ·rename_i av1 hga
    simp only [Option.some.injEq] at cz;subst cz
    rcases aa with aa|aa
    ·exact g2 0 _ v (by rw [hga];rfl) (by rw [aa];rfl)
    ·rw [hga,aa] at g1;cases g1
   ·simp only [Option.some.injEq] at cz;subst cz;trivial
   ·cases cz
end
end Go.Proofs.Ytjbdmibbbpdnnaa
