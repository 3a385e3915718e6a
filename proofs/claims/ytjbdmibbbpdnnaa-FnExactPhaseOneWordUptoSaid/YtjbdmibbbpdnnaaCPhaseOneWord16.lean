/-
  Part 17 of the proof that the statement FnExactPhaseOneWord holds.
-/
import Derived.Test.YtjbdmibbbpdnnaaCPhaseOneWord15
namespace Go.Proofs.Ytjbdmibbbpdnnaa
open Go.RowKit
section
variable {P:Program} {T:Tab} {X:Ctx} {w w':World} {π π':Pi} {H H':List (Nat×OB)}
theorem Ua (k:Nat): ¬Bq true k<Aj:=by unfold Bq Aj;simp
theorem an {k:Nat} (h:k<100000):Bq false k<Aj:=by unfold Bq Aj;simp;omega
def gl (X:Ctx) (D:Nat->Prop) (w':World) (π:Pi) (H Hn:List (Nat×OB)) (l:Nat):Prop:=
 ∃b0 b',Ae H l=some b0/\Ae Hn l=some b'/\(∀f,OB.map f b0=b0)/\(∀f,OB.map f b'=b')/\b0.a6 b'/\ ∀π' H',(∀b,Oi π' b\/X.Sc b->D b)->Au X w' π' H' (π l) b'
theorem LQ {io:Bool} {k:Nat} {τ:Ty} {a:AC} {t:Nat×Loc} (h:t∈Kk io k (.Ew τ) a):t.1=Bq false k:=by
 cases a<;>simp [Kk,views] at h<;>first|(obtain ⟨_,⟨_,_⟩,rfl⟩:=h;rfl)|(rw [h])
theorem FN {io:Bool} {k:Nat} {e:Ty} {te:TypeId} {a:AC} {t:Nat×Loc} (h:t∈Kk io k (.part e te) a):t.1=Bq io k:=by cases a<;>simp [Kk] at h<;>rw [h]
theorem LR {io:Bool} {k:Nat} {e:Ty} {te:TypeId} {a:AC} {t:Nat×Loc} (h:t∈Kk io k (.row e te) a):t.1=Bq io k:=by cases a<;>simp [Kk] at h<;>rw [h]
theorem FO {io:Bool} {k:Nat} {e:Ty} {te:TypeId} {a:AC} {t:Nat×Loc} (h:t∈Kk io k (.Dt e te) a):t.1=Bq io k:=by cases a<;>simp [Kk] at h<;>rw [h]
theorem Zo {D:Nat->Prop} {π':Pi} {fr:Bool} {e:Ty} {es:List Value} {y:e.den} (hD: ∀b,Oi π' b\/X.Sc b->D b) (h:Cells w' D e es y):Cells w' (Be X.w0.heap.size X.Sc π' (fr&&e.flat)) e es y:=by
 cases hf:e.flat with
 |true=>exact Cells.flat e es y hf h
 |false=>exact Cells.Cr (Nat.le_refl _) (λ_ _ _=>rfl) (λb _ hb=>by
   rcases hb with hb|hb|⟨hb,_⟩
   ·exact hD b (.inl hb)
   ·exact hD b (.inr hb)
   ·simp at hb) e es y h
theorem FP {D P:Nat->Prop} {g o:Nat} {cur:Array Value} {tr:Bool} {e:Ty} {xs:List e.den}
  (h: ∀(i:Nat) (x:e.den),xs[i]?=some x-> ∃es:List Value,es.length=e.size/\(∀j u,es[j]?=some u->cur[(o+i)*e.size+j]?=some u)/\Cells w' D e es x) (ht:(tr&&e.flat)=true):Qc w' P g o cur e xs:=by
 simp only [Bool.and_eq_true] at ht
 exact gL ht.2 h
theorem EM {D:Nat->Prop} (h:Hw X w π H) {k:Nat} {c:CK} {ys:c.den} {a:AC} {u:Value} {r:Option Real} {x:c.den} {cur st1:St} (hs:w.heap.size<=w'.heap.size)
  (hU: ∀l i j q b,a= .sub l i j->π l=some q->q.Ay b->b<w.heap.size->(∀r',r=some r'-> ¬r'.Ay b)->w'.heap[b]?=w.heap[b]?)
  {V:List Nat} (ht:Ze w (Jd X π V) r u c x/\Mr w π H true a u r c x) (hr:aL w' D r c ys) (he:Vr cur c ys a=some st1) (bm: ∀t∈Kk true k c a,Ae cur.heap t.2.Px=Ae H t.2.Px):
  st1.tmps=cur.tmps/\(∀m,(∀t∈Kk true k c a,m≠t.2.Px)->Ae st1.heap m=Ae cur.heap m)/\ ∀t∈Kk true k c a,gl X D w' π H st1.heap t.2.Px:=by
 obtain ⟨hc,ht⟩:=ht
 cases c with
 |Ew τ=>cases a<;>simp [Vr] at he;subst he;exact ⟨rfl,λ_ _=>rfl,λt ht=>by simp [Kk] at ht⟩
 |row e te=>
  simp only [Mr] at ht
  cases a<;>simp only [] at ht<;>first|(exact ht.elim)|skip
  ·simp only [Vr,Option.some.injEq] at he;subst he
   exact ⟨rfl,λ_ _=>rfl,λt ht=>by simp [Kk] at ht⟩
  ·rename_i l off len
   obtain ⟨rfl,rfl,rfl,fr,tr,hl⟩:=ht
   have Oq:Ae cur.heap l=some (.arr fr tr e te x):=(bm _ (List.mem_singleton.2 rfl)).trans hl
   simp only [Vr,St.at,Oq] at he
   split at he
   ·rename_i Ff
    obtain ⟨_,h1,_⟩:=Ff
    simp only [Option.some.injEq] at he;subst he
    refine ⟨rfl,λm hm=>Ci _ _ _ _ (hm _ (List.mem_singleton.2 rfl)),λt Oj=>?_⟩
    have Oj:=List.mem_singleton.1 Oj
    subst Oj
    refine ⟨_,_,hl,Cn _ _ _ _ Oq,λ_=>rfl,λ_=>rfl,⟨rfl,h1.symm⟩,λπ' H' hD=>?_⟩
    have hb:=(h.heap l).Ma hl
    change Au X w' π' H' (π l) _
    simp only [Au,Fl] at hb⊢
    cases hp:π l with
    |none=>rw [hp] at hr;exact hr
    |some q=>
     rw [hp] at hr hb
     obtain ⟨k1,cu,ti,k2,k3,k4,k5,k6⟩:=hr
     exact ⟨⟨k1.1,k1.2,λhh=>hb.1.2.2 (by simp only [Bool.and_eq_true] at hh;exact hh.1)⟩,cu,ti,k2,k3,k4,k5,λi y hy=>by
      obtain ⟨es,g1,g2,g3⟩:=k6 i y hy
      exact ⟨es,g1,g2,Zo hD g3⟩,λht=>FP k6 ht⟩
   ·cases he
  ·rename_i l i j
   obtain ⟨⟨_,hf⟩,tid,xs,hl,hx,q,hq,Ov,hre⟩:=ht
   have Oq:Ae cur.heap l=some (.Dg (.slice e) tid xs):=(bm _ (List.mem_singleton.2 rfl)).trans hl
   simp only [Vr,St.at,Oq,hx] at he
   rw [dif_pos trivial] at he
   ·split at he
    ·rename_i h1
     simp only [Option.some.injEq] at he;subst he
     refine ⟨rfl,λm hm=>Ci _ _ _ _ (hm _ (List.mem_singleton.2 rfl)),λt Oj=>?_⟩
     have Oj:=List.mem_singleton.1 Oj
     subst Oj
     refine ⟨_,_,hl,Cn _ _ _ _ Oq,λ_=>rfl,λ_=>rfl,⟨rfl,by simp⟩,λπ' H' _=>?_⟩
     show Iq w' (π l) (.slice e) tid _
     rw [hq]
     refine hre w' ys hs (λb Ho hb hn=>hU l i j q b rfl hq hb Ho hn) ?_
     have hv:=hc.1
     rw [<-show List.length ys=List.length x from h1] at hv
     exact Md.zJ hr hf hv
    ·cases he
 |Dt e te=>
  simp only [Mr] at ht
  cases a<;>simp only [] at ht<;>first|(exact ht.elim)|skip
  ·simp only [Vr,Option.some.injEq] at he;subst he
   exact ⟨rfl,λ_ _=>rfl,λt ht=>by simp [Kk] at ht⟩
  ·rename_i l off len
   obtain ⟨rfl,rfl,rfl,hl⟩:=ht
   have Oq:Ae cur.heap l=some (.Dg e te x):=(bm _ (List.mem_singleton.2 rfl)).trans hl
   simp only [Vr,St.at,Oq] at he
   split at he
   ·rename_i Ff
    obtain ⟨_,h1,_⟩:=Ff
    simp only [Option.some.injEq] at he;subst he
    refine ⟨rfl,λm hm=>Ci _ _ _ _ (hm _ (List.mem_singleton.2 rfl)),λt Oj=>?_⟩
    have Oj:=List.mem_singleton.1 Oj
    subst Oj
    refine ⟨_,_,hl,Cn _ _ _ _ Oq,λ_=>rfl,λ_=>rfl,⟨rfl,h1.symm⟩,λπ' H' _=>?_⟩
    show Iq w' (π l) e te _
    cases hp:π l with
    |none=>rw [hp] at hr;exact hr
    |some q=>rw [hp] at hr;exact hr
   ·cases he
  ·rename_i l i j
   obtain ⟨_,tid,xs,hl,hx,q,hq,Ov,hre⟩:=ht
   have Oq:Ae cur.heap l=some (.Dg (.slice e) tid xs):=(bm _ (List.mem_singleton.2 rfl)).trans hl
   simp only [Vr,St.at,Oq,hx] at he
   rw [dif_pos trivial] at he
   ·split at he
    ·rename_i h1
     simp only [Option.some.injEq] at he;subst he
     refine ⟨rfl,λm hm=>Ci _ _ _ _ (hm _ (List.mem_singleton.2 rfl)),λt Oj=>?_⟩
     have Oj:=List.mem_singleton.1 Oj
     subst Oj
     refine ⟨_,_,hl,Cn _ _ _ _ Oq,λ_=>rfl,λ_=>rfl,⟨rfl,by simp⟩,λπ' H' _=>?_⟩
     show Iq w' (π l) (.slice e) tid _
     rw [hq]
     refine hre w' ys hs (λb Ho hb hn=>hU l i j q b rfl hq hb Ho hn) ?_
     have hv:=hc.1
     rw [<-show List.length ys=List.length x from h1] at hv
     exact Iq.zJ (te:=te) hr hv
    ·cases he
 |part e te=>cases a<;>simp [Vr] at he<;>first|(simp only [Mr] at ht;exact ht.2.elim)
 |Ak e te kp=>exact absurd ht.1 (by simp)
theorem EN {D:Nat->Prop} (h:Hw X w π H) {k:Nat} {e:Ty} {te:TypeId} {ys:List e.den} {a:AC} {u:Value} {r:Option Real} {x:(CK.part e te).den} {cur st1:St}
  {V:List Nat} (ht:Ze w (Jd X π V) r u (.part e te) x/\Mr w π H true a u r (.part e te) x) (hr:aL w' D r (.row e te) ys) (he:zb cur e ys a=some st1) (bm: ∀t∈Kk true k (.part e te) a,Ae cur.heap t.2.Px=Ae H t.2.Px):
  st1.tmps=cur.tmps/\(∀m,(∀t∈Kk true k (.part e te) a,m≠t.2.Px)->Ae st1.heap m=Ae cur.heap m)/\ ∀t∈Kk true k (.part e te) a,gl X D w' π H st1.heap t.2.Px:=by
 obtain ⟨hc,hf,ht⟩:=ht
 cases a<;>simp only [] at ht<;>first|(exact ht.elim)|skip
 rename_i l off len
 obtain ⟨rfl,_,fr,tr,hl⟩:=ht
 have Oq:Ae cur.heap l=some (.arr fr tr e te x.1):=(bm _ (List.mem_singleton.2 rfl)).trans hl
 simp only [zb,St.at,Oq] at he
 split at he
 ·rename_i Ff
  obtain ⟨_,h1⟩:=Ff
  simp only [Option.some.injEq] at he;subst he
  refine ⟨rfl,λm hm=>Ci _ _ _ _ (hm _ (List.mem_singleton.2 rfl)),λt Oj=>?_⟩
  have Oj:=List.mem_singleton.1 Oj
  subst Oj
  refine ⟨_,_,hl,Cn _ _ _ _ Oq,λ_=>rfl,λ_=>rfl,⟨rfl,h1.symm⟩,λπ' H' _=>?_⟩
  have hb:=(h.heap l).Ma hl
  change Au X w' π' H' (π l) _
  simp only [Au,Fl] at hb⊢
  cases hp:π l with
  |none=>rw [hp] at hr;exact hr
  |some q=>
   rw [hp] at hr hb
   obtain ⟨k1,cu,ti,k2,k3,k4,k5,k6⟩:=hr
   exact ⟨⟨k1.1,k1.2,hb.1.2.2⟩,cu,ti,k2,k3,k4,k5,λi y hy=>by
    obtain ⟨es,g1,g2,g3⟩:=k6 i y hy
    exact ⟨es,g1,g2,Cells.flat e es y hf g3⟩,λ_=>gL hf k6⟩
 ·cases he
def ly (X:Ctx) (D:Nat->Prop) (w':World) (π:Pi) (H:List (Nat×OB)) (tk:List (Nat×Loc)) (cur st1:St):Prop:=
 st1.tmps=cur.tmps/\(∀m,(∀t∈tk,m≠t.2.Px)->Ae st1.heap m=Ae cur.heap m)/\(∀t∈tk,t.1<Aj->Ae st1.heap t.2.Px=Ae cur.heap t.2.Px)/\(∀t∈tk,¬t.1<Aj->gl X D w' π H st1.heap t.2.Px)
theorem nA {D:Nat->Prop} (h:Hw X w π H) {V:List Nat} {πc:Pi} {tks:List (Nat×Loc)} (hs:w.heap.size<=w'.heap.size)
  (hU: ∀t∈tks,∀q b,π t.2.Px=some q->q.Ay b->b<w.heap.size->(∀r',πc t.1=some r'-> ¬r'.Ay b)->w'.heap[b]?=w.heap[b]?):
  ∀(cs:List (Bool×CK)) (k:Nat) (x:Ins.den cs) (as:List AC) (us:List Value) (o:IOs.den cs) (cur st1:St),k+cs.length<100000->(∀t∈Gx k cs as,t∈tks)->((Gx k cs as).map λt=>t.2.Px).Nodup->
   l6 X w π V H πc k cs x as us->Hd w' D πc k cs o->Eb cs o as cur=some st1->(∀t∈Gx k cs as,Ae cur.heap t.2.Px=Ae H t.2.Px)->
   ly X D w' π H (Gx k cs as) cur st1
 | [],k,x,as,us,o,cur,st1,_,_,_,_,_,he,_=>by
  simp only [Eb,Option.some.injEq] at he;subst he
  have e0:Gx k [] as= []:=by cases as<;>rfl
  exact ⟨rfl,λ_ _=>rfl,by rw [e0];simp,by rw [e0];simp⟩
 |p::r,k,x,[],us,o,cur,st1,_,_,_,ht,_,_,_=>ht.elim
 |p::r,k,x,a::as,[],o,cur,st1,_,_,_,ht,_,_,_=>ht.elim
 |(io,c)::r,k,x,a::as,u::us,o,cur,st1,hk,Nj,oT,ht,ho,he,bm=>by
  simp only [List.length_cons] at hk
  simp only [Gx] at Nj oT bm⊢
  rw [List.map_append] at oT
  obtain ⟨n1,n2,n3⟩:=List.nodup_append.1 oT
  have apart: ∀t∈Kk io k c a,∀t'∈Gx (k+1) r as,t'.2.Px≠t.2.Px:= λt h1 t' h2 e=>n3 _ (List.mem_map.2 ⟨t,h1,rfl⟩) _ (List.mem_map.2 ⟨t',h2,rfl⟩) e.symm
  have rest: ∀(Tl:St) (o':IOs.den r),Hd w' D πc (k+1) r o'->Eb r o' as Tl=some st1->Tl.tmps=cur.tmps->(∀m,(∀t∈Kk io k c a,m≠t.2.Px)->Ae Tl.heap m=Ae cur.heap m)->
    (∀t∈Kk io k c a,t.1<Aj->Ae Tl.heap t.2.Px=Ae cur.heap t.2.Px)->(∀t∈Kk io k c a,¬t.1<Aj->gl X D w' π H Tl.heap t.2.Px)->
    ly X D w' π H (Kk io k c a++Gx (k+1) r as) cur st1:=by
   intro Tl o' h1 h2 h3 h4 h5 h6
   obtain ⟨g1,g2,g3,g4⟩:=nA h hs hU r (k+1) x.2 as us o' Tl st1 (by omega) (λt ht=>Nj t (List.mem_append_right _ ht)) n2 ht.2 h1 h2 (λt Oj=>by
    rw [h4 _ λt0 OO=>apart t0 OO t Oj];exact bm t (List.mem_append_right _ Oj))
   have hd: ∀t∈Kk io k c a,Ae st1.heap t.2.Px=Ae Tl.heap t.2.Px:= λt Oj=>g2 _ λt' lJ=>(apart t Oj t' lJ).symm
   refine ⟨g1.trans h3,λm hm=>?_,λt Oj Ho=>?_,λt Oj Ho=>?_⟩
   ·rw [g2 m λt ht=>hm t (List.mem_append_right _ ht),h4 m λt ht=>hm t (List.mem_append_left _ ht)]
   ·rcases List.mem_append.1 Oj with Oj|Oj
    ·rw [hd t Oj,h5 t Oj Ho]
    ·rw [g3 t Oj Ho,h4 _ λt0 OO=>apart t0 OO t Oj]
   ·rcases List.mem_append.1 Oj with Oj|Oj
    ·obtain ⟨b0,b',q1,q2,q3⟩:=h6 t Oj Ho
     exact ⟨b0,b',q1,(hd t Oj).trans q2,q3⟩
    ·exact g4 t Oj Ho
  have same: ∀o',Hd w' D πc (k+1) r o'->Eb r o' as cur=some st1->(∀t∈Kk io k c a,t.1<Aj)->ly X D w' π H (Kk io k c a++Gx (k+1) r as) cur st1:= λo' h1 h2 h3=>rest cur o' h1 h2 rfl (λ_ _=>rfl) (λ_ _ _=>rfl) (λt h4 h5=>absurd (h3 t h4) h5)
  cases io with
  |false=>
   have h3: ∀t∈Kk false k c a,t.1<Aj:= λt h4=>by rcases xd h4 with ⟨h5,_⟩|⟨h5,_⟩<;>(rw [h5];exact an (by omega))
   cases c with
   |Ew τ=>exact same o ho (by simpa only [Eb] using he) h3
   |row e te=>exact same o ho (by simpa only [Eb] using he) h3
   |Dt e te=>exact same o ho (by simpa only [Eb] using he) h3
   |part e te=>exact same o ho (by simpa only [Eb] using he) h3
   |Ak e te kp=>exact same o ho (by simpa only [Eb] using he) h3
  |true=>
   have row: ∀(ys:c.den) (o':IOs.den r),(∀t∈Kk true k c a,t.1=Bq true k)->aL w' D (πc (Bq true k)) c ys->Hd w' D πc (k+1) r o'->(∃Tl,Vr cur c ys a=some Tl/\Eb r o' as Tl=some st1)->ly X D w' π H (Kk true k c a++Gx (k+1) r as) cur st1:=by
    intro ys o' h0 h1 h2 h3
    obtain ⟨Tl,hp,h3⟩:=h3
    ·obtain ⟨q1,q2,q3⟩:=EM (k:=k) h hs (λl i j q b ea hq hb Ho hn=>by
      cases c with
      |Ew τ=>exact absurd (ht.1.2:πc _=none) (by subst ea;simp [Vr] at hp)
      |row e te=>subst ea;exact hU (Bq true k, .sub l i j) (Nj _ (List.mem_append_left _ (List.mem_singleton.2 rfl))) q b hq hb Ho hn
      |Dt e te=>subst ea;exact hU (Bq true k, .sub l i j) (Nj _ (List.mem_append_left _ (List.mem_singleton.2 rfl))) q b hq hb Ho hn
      |Ak e te kp=>exact absurd ht.1.2.1 (by simp)
      |part e te=>exact absurd ht.1.2.2 (by subst ea;exact λh=>h)) ht.1 h1 hp (λt Oj=>bm t (List.mem_append_left _ Oj))
     exact rest Tl o' h2 h3 q1 q2 (λt h4 h5=>absurd h5 (by rw [h0 t h4];exact Ua k)) (λt h4 _=>q3 t h4)
   cases c with
   |Ew τ=>exact same o ho (by simpa only [Eb] using he) (λt h4=>by rw [LQ h4];exact an (by omega))
   |Ak e te kp=>exact absurd ht.1.2.1 (by simp)
   |row e te=>
    simp only [Eb] at he
    split at he
    ·rename_i Tl hp;exact row o.1 o.2 (λt ht=>LR ht) ho.1 ho.2 ⟨Tl,hp,he⟩
    ·cases he
   |Dt e te=>
    simp only [Eb] at he
    split at he
    ·rename_i Tl hp;exact row o.1 o.2 (λt ht=>FO ht) ho.1 ho.2 ⟨Tl,hp,he⟩
    ·cases he
   |part e te=>
    simp only [Eb] at he
    split at he
    ·rename_i Tl hp
     obtain ⟨q1,q2,q3⟩:=EN (k:=k) h ht.1 ho.1 hp (λt Oj=>bm t (List.mem_append_left _ Oj))
     exact rest Tl o.2 ho.2 he q1 q2 (λt h4 h5=>absurd h5 (by rw [FN h4];exact Ua k)) (λt h4 _=>q3 t h4)
    ·cases he
theorem yO {fr:Bool} {c:CK} {x:c.den} {u:Value} {r:Option Real} {D:Nat->Prop} (h:Ze w' D r u c x):
  (p8 fr c x=none/\r=none)\/ ∃b',p8 fr c x=some b'/\ ∀(X:Ctx) π' H',(fr=true-> ∀q,r=some q->X.w0.heap.size<=q.g)->(∀b,Oi π' b\/X.Sc b->D b)->Au X w' π' H' r b':=by
 cases c with
 |Ew τ=>exact .inl ⟨rfl,h.1⟩
 |row e te=>
  refine .inr ⟨_,rfl,λX π' H' vG hD=>?_⟩
  obtain ⟨_,h⟩:=h
  simp only [aL] at h
  simp only [Au,Fl]
  cases r with
  |none=>exact h
  |some q=>
   obtain ⟨k1,cu,ti,k2,k3,k4,k5,k6⟩:=h
   exact ⟨⟨k1.1,k1.2,λh1=>vG (by simp only [Bool.and_eq_true] at h1;exact h1.1) q rfl⟩,cu,ti,k2,k3,k4,k5,λi y hy=>by
    obtain ⟨es,g1,g2,g3⟩:=k6 i y hy
    exact ⟨es,g1,g2,Zo hD g3⟩,λh=>by cases h⟩
 |Dt e te=>exact .inr ⟨_,rfl,λX π' H' _ _=>h.2⟩
 |Ak e te kp=>exact .inr ⟨_,rfl,λX π' H' _ hD=>⟨Sz.Ev h.2 λb hb=>hD b (hb.imp id λh=>h.elim id λh=>by cases h.1),trivial⟩⟩
 |part e te=>
  refine .inr ⟨_,rfl,λX π' H' vG hD=>?_⟩
  obtain ⟨_,hf,h⟩:=h
  simp only [Au,Fl]
  cases r with
  |none=>exact h
  |some q=>
   obtain ⟨k1,cu,ti,k2,k3,k4,k5,k6⟩:=h
   exact ⟨⟨k1.1,k1.2,λh1=>vG (by simp only [Bool.and_eq_true] at h1;exact h1.1) q rfl⟩,cu,ti,k2,k3,k4,k5,λi y hy=>by
    obtain ⟨es,g1,g2,g3⟩:=k6 i y hy
    exact ⟨es,g1,g2,Zo hD g3⟩,λh=>by cases h⟩
theorem kL {D:Nat->Prop} {key:Nat->Nat} (yp: ∀i j,key i=key j->i=j) {fr:Bool} {ρ:Pi} : ∀(cs:List CK) (k:Nat) (x:CKs.den cs) (us:List Value) (H:List (Nat×OB)),Ex w' D ρ k cs x us->
  (∀j,k<=j->j<k+cs.length->Ae H (key j)=none)->
  (∀l,(∀j,k<=j->j<k+cs.length->l≠key j)->Ae (Qu fr key k cs x H) l=Ae H l)/\
  (∀j,k<=j->j<k+cs.length->(Ae (Qu fr key k cs x H) (key j)=none/\ρ (Fp j)=none)\/
   ∃b',Ae (Qu fr key k cs x H) (key j)=some b'/\ ∀(X:Ctx) π' H',(fr=true-> ∀q,ρ (Fp j)=some q->X.w0.heap.size<=q.g)->(∀b,Oi π' b\/X.Sc b->D b)->Au X w' π' H' (ρ (Fp j)) b')/\
  (∀π',(∀b,Oi π' b\/X.Sc b->D b)->(∀j,k<=j->j<k+cs.length->π' (key j)=ρ (Fp j))->Hy X w' π' (Qu fr key k cs x H) (Ve key k cs x) us)
 | [],k,x,[],H,_,_=>⟨λ_ _=>rfl,λj h1 h2=>by simp at h2;omega,λ_ _ _=>trivial⟩
 | [],_,_,_::_,_,h,_=>h.elim
 |_::_,_,_,[],_,h,_=>h.elim
 |c::r,k,x,u::us,H,h,hn=>by
  simp only [List.length_cons] at hn⊢
  simp only [Qu,Ve]
  have oP:=hn k (Nat.le_refl _) (by omega)
  have XE: ∀l,l≠key k->Ae (vN H (key k) (p8 fr c x.1)) l=Ae H l:=by
   intro l hl
   cases p8 fr c x.1 with
   |some b=>exact Jp _ _ _ _ hl
   |none=>rfl
  have YV:Ae (vN H (key k) (p8 fr c x.1)) (key k)=p8 fr c x.1:=by
   cases p8 fr c x.1 with
   |some b=>exact Km _ _ _ oP
   |none=>exact oP
  generalize (vN H (key k) (p8 fr c x.1))=H1 at XE YV⊢
  obtain ⟨g1,g2,g3⟩:=kL yp (fr:=fr) r (k+1) x.2 us H1 h.2 (λj h1 h2=>by
   rw [XE _ λe=>by have:=yp _ _ e;omega];exact hn j (by omega) (by omega))
  have MP:Ae (Qu fr key (k+1) r x.2 H1) (key k)=p8 fr c x.1:=by
   rw [g1 _ λj h1 h2 e=>by have:=yp _ _ e;omega];exact YV
  refine ⟨λl hl=>?_,λj h1 h2=>?_,λπ' hd SD=>⟨?_,?_⟩⟩
  ·rw [g1 l λj h1 h2=>hl j (by omega) (by omega)]
   exact XE l (hl k (Nat.le_refl _) (by omega))
  ·rcases Nat.eq_or_lt_of_le h1 with e|h1
   ·subst e
    rw [MP]
    exact yO h.1
   ·exact g2 j h1 (by omega)
  ·have h1:=h.1
   have XT:=SD k (Nat.le_refl _) (by omega)
   cases c with
   |Ew τ=>
    obtain ⟨bP,c1,c2⟩:=h1.2
    exact ⟨bP,by have:=Zo (fr:=true) hd c1;simpa using this,c2⟩
   |row e te=>exact ⟨_,e.size,List.length x.1,MP,rfl,by simp,by rw [XT];exact h1.1⟩
   |Dt e te=>exact ⟨_,e.size,List.length x.1,MP,rfl,by simp,by rw [XT];exact h1.1⟩
   |Ak e te kp=>exact ⟨_,1,List.length x.1,MP,rfl,by simp,by rw [XT];exact h1.1⟩
   |part e te=>trivial
  ·exact g3 π' hd λj h1 h2=>SD j (by omega) (by omega)
theorem yG {ks:List Nat} {n:Nat} (h:su ks n=true):ks.length=n/\ks.Nodup/\ ∀l∈ks,l<Aj:=by
 unfold su at h
 simp only [Bool.and_eq_true] at h
 refine ⟨Nat.eq_of_beq_eq_true h.1,Qt h.2.1,λl hl=>?_⟩
 have:=List.all_eq_true.1 h.2.2 l hl
 simpa using this
theorem Le {ks:List Nat} {j:Nat} (h:j<ks.length):Bu ks j=ks[j]:=by
 unfold Bu
 rw [List.getElem?_eq_getElem h]
theorem uR {ks:List Nat} (hn:ks.Nodup) (hl: ∀l∈ks,l<Aj): ∀i j,Bu ks i=Bu ks j->i=j:=by
 intro i j h
 by_cases hi:i<ks.length
 ·by_cases hj:j<ks.length
  ·rw [Le hi,Le hj] at h
   rcases Nat.lt_trichotomy i j with Ho|he|Ho
   ·exact absurd h (List.pairwise_iff_getElem.1 hn i j hi hj Ho)
   ·exact he
   ·exact absurd h.symm (List.pairwise_iff_getElem.1 hn j i hj hi Ho)
  ·have h1:=hl _ (List.getElem_mem hi)
   rw [Le hi] at h
   unfold Bu at h
   rw [List.getElem?_eq_none (by omega)] at h
   simp only at h
   omega
 ·by_cases hj:j<ks.length
  ·have h1:=hl _ (List.getElem_mem hj)
   rw [Le hj] at h
   unfold Bu at h
   rw [List.getElem?_eq_none (by omega)] at h
   simp only at h
   omega
  ·unfold Bu at h
   rw [List.getElem?_eq_none (by omega),List.getElem?_eq_none (by omega)] at h
   simp only at h
   omega
theorem Ii: ∀(H:List (Nat×OB)) (dead:List Nat) (l:Nat),Ae (Qf H dead) l=if l∈dead then none else Ae H l
 | [],dead,l=>by simp [Qf,Ae]
 |(k,b)::r,dead,l=>by
  simp only [Qf]
  have ih:=Ii r dead l
  by_cases hk:k∈dead
  ·rw [if_pos (by simpa using hk),ih]
   split
   ·rfl
   ·rename_i hl
    simp only [Ae]
    rw [if_neg (λ(e:k=l)=>hl (e▸hk))]
  ·rw [if_neg (by simpa using hk)]
   simp only [Ae]
   split
   ·rename_i e;subst e;rw [if_neg hk]
   ·exact ih
theorem mem_keys {ks:List Nat} {l:Nat} :l∈ks↔ ∃k,k<ks.length/\l=Bu ks k:=
 ⟨λh=>by obtain ⟨k,hk,e⟩:=List.getElem_of_mem h;exact ⟨k,hk,by rw [Le hk,e]⟩,λ⟨k,hk,e⟩=>by rw [e,Le hk];exact List.getElem_mem hk⟩
theorem Yo {tks:List (Nat×Loc)} {l:Nat} :l∈gB tks↔ ∃t∈tks,(t.1<Aj/\t.2.reads=false)/\t.2.Px=l:=by
 unfold gB
 simp only [List.mem_map,List.mem_filter,Bool.and_eq_true,Nat.blt_eq,Bool.not_eq_true']
 exact ⟨λ⟨t,⟨h1,h2⟩,h3⟩=>⟨t,h1,h2,h3⟩,λ⟨t,h1,h2,h3⟩=>⟨t,⟨h1,h2⟩,h3⟩⟩
theorem sv {tks:List (Nat×Loc)} (h:(tks.map λt=>t.2.Px).Nodup) {t t':Nat×Loc} (ht:t∈tks) (lJ:t'∈tks) (he:t.2.Px=t'.2.Px):t=t':=by
 induction tks with
 |nil=>cases ht
 |cons a r ih=>
  simp only [List.map_cons] at h
  obtain ⟨h1,h2⟩:=List.nodup_cons.1 h
  rcases List.mem_cons.1 ht with rfl|ht<;>rcases List.mem_cons.1 lJ with rfl|lJ
  ·rfl
  ·exact (h1 (List.mem_map.2 ⟨t',lJ,he.symm⟩)).elim
  ·exact (h1 (he▸List.mem_map.2 ⟨t,‹t∈r›,rfl⟩)).elim
  ·exact ih h2 ht lJ
theorem Ex.full {D:Nat->Prop} {ρ:Pi} : ∀(cs:List CK) (k:Nat) (x:CKs.den cs) (us:List Value),Ex w D ρ k cs x us->Ex w D (λl=>(ρ l).map full) k cs x us
 | [],_,_,[],h=>h
 | [],_,_,_::_,h=>h.elim
 |_::_,_,_,[],h=>h.elim
 |c::r,k,x,u::us,h=>⟨by
   have h1:=h.1
   show Ze w D ((ρ (Fp k)).map _) u c x.1
   cases c with
   |Ew τ=>rw [h1.1];exact ⟨rfl,h1.2⟩
   |row e te=>cases hp:ρ (Fp k)<;>(rw [hp] at h1;exact h1)
   |Dt e te=>cases hp:ρ (Fp k)<;>(rw [hp] at h1;exact h1)
   |Ak e te kp=>cases hp:ρ (Fp k)<;>(rw [hp] at h1;exact h1)
   |part e te=>cases hp:ρ (Fp k)<;>(rw [hp] at h1;exact h1),Ex.full r (k+1) x.2 us h.2⟩
theorem Ex.QQ {D:Nat->Prop} {ρ:Pi} : ∀(cs:List CK) (k0:Nat) (x:CKs.den cs) (us:List Value),Ex w D ρ k0 cs x us-> ∀j,k0<=j->j<k0+cs.length-> ∀q,ρ (Fp j)=some q->q.Ay q.g
 | [],k0,_,_,_,j,h1,h2,_,_=>by simp at h2;omega
 |_::_,_,_,[],h,_,_,_,_,_=>h.elim
 |c::r,k0,x,u::us,ho,j,h1,h2,q,hq=>by
  rcases Nat.eq_or_lt_of_le h1 with e|h1
  ·subst e
   have:=ho.1
   cases c with
   |Ew τ=>rw [hq] at this;cases this.1
   |row e te=>rw [hq] at this;exact this.2.1.1
   |Dt e te=>rw [hq] at this;exact this.2.1
   |part e te=>rw [hq] at this;exact this.2.2.1.1
   |Ak e te kp=>rw [hq] at this;exact this.2.1
  ·exact Ex.QQ r (k0+1) x.2 us ho.2 j h1 (by simp at h2;omega) q hq
theorem Md.any {D D':Nat->Prop} {r:Option Real} {e:Ty} {xs:List e.den} (hf:e.flat=true) (h:Md w D r e xs):Md w D' r e xs:=by
 cases r with
 |none=>exact h
 |some r=>
  obtain ⟨k1,cu,ti,k2,k3,k4,k5,k6⟩:=h
  exact ⟨k1,cu,ti,k2,k3,k4,k5,λi y hy=>by
   obtain ⟨es,g1,g2,g3⟩:=k6 i y hy
   exact ⟨es,g1,g2,Cells.flat e es y hf g3⟩⟩
theorem Ex.any {D D':Nat->Prop} {ρ:Pi} : ∀(cs:List CK) (k:Nat) (x:CKs.den cs) (us:List Value),cs.all (·.flat)=true->Ex w D ρ k cs x us->Ex w D' ρ k cs x us
 | [],_,_,[],_,h=>h
 | [],_,_,_::_,_,h=>h.elim
 |_::_,_,_,[],_,h=>h.elim
 |c::r,k,x,u::us,hf,h=>by
  simp only [List.all_cons,Bool.and_eq_true] at hf
  refine ⟨?_,Ex.any r (k+1) x.2 us hf.2 h.2⟩
  have h1:=h.1
  cases c with
  |Ew τ=>exact ⟨h1.1,Bd.flat hf.1 h1.2⟩
  |row e te=>exact ⟨h1.1,Md.any hf.1 h1.2⟩
  |Dt e te=>exact h1
  |part e te=>exact ⟨h1.1,h1.2.1,Md.any hf.1 h1.2.2⟩
  |Ak e te kp=>exact absurd hf.1 (by simp [CK.flat])
theorem Hd.any {D D':Nat->Prop} {π:Pi} : ∀(cs:List (Bool×CK)) (k:Nat) (x:IOs.den cs),(cs.all λp=>!p.1||p.2.flat)=true->Hd w D π k cs x->Hd w D' π k cs x
 | [],_,_,_,h=>h
 |(false,_)::r,k,x,hf,h=>Hd.any r (k+1) x (by simp only [List.all_cons,Bool.and_eq_true] at hf;exact hf.2) h
 |(true, .Ew _)::r,k,x,hf,h=>Hd.any r (k+1) x (by simp only [List.all_cons,Bool.and_eq_true] at hf;exact hf.2) h
 |(true, .Ak _ _ _)::r,k,x,hf,h=>Hd.any r (k+1) x (by simp only [List.all_cons,Bool.and_eq_true] at hf;exact hf.2) h
 |(true, .row e te)::r,k,x,hf,h=>by
  simp only [List.all_cons,Bool.and_eq_true,Bool.not_true,Bool.false_or] at hf
  exact ⟨Md.any hf.1 h.1,Hd.any r (k+1) x.2 hf.2 h.2⟩
 |(true, .Dt e te)::r,k,x,hf,h=>by
  simp only [List.all_cons,Bool.and_eq_true,Bool.not_true,Bool.false_or] at hf
  exact ⟨h.1,Hd.any r (k+1) x.2 hf.2 h.2⟩
 |(true, .part e te)::r,k,x,hf,h=>by
  simp only [List.all_cons,Bool.and_eq_true,Bool.not_true,Bool.false_or] at hf
  exact ⟨Md.any hf.1 h.1,Hd.any r (k+1) x.2 hf.2 h.2⟩
theorem ng {tks:List (Nat×Loc)} {l:Nat} :l∈u5 tks↔ ∃t∈tks,t.2.reads=true/\t.2.Px=l:=by
 unfold u5
 simp only [List.mem_map,List.mem_filter]
 exact ⟨λ⟨t,⟨h1,h2⟩,h3⟩=>⟨t,h1,h2,h3⟩,λ⟨t,h1,h2,h3⟩=>⟨t,⟨h1,h2⟩,h3⟩⟩
theorem Ai.iu {st:St} {a:Act} (h:Ai X π st a w) {f:AC->AC} (hu:f .undef= .undef) {gv:Nat->Prop} (CS: ∀b,gv b->Oi π b) (hb:Gf w.heap.size gv w w')
  (Yf: ∀b,b<w.heap.size->Oi π' b->Oi π b)
  (Nj: ∀l r b,π' l=some r->r.Ay b->r.cl b) (UI: ∀l r b,π' l=some r->r.cl b->(X.w0.heap.size<=b\/X.gv b)/\b<w'.heap.size)
  (Af3: ∀l l' r r' b,π' l=some r->π' l'=some r'->r.cl b->r'.cl b->l=l')
  (Yg: ∀l,Aj<=l->Ae H' l≠none->Ul (X.cz l) (π' l))
  (hac:(∀fr τ cs x,Cells w (Be X.w0.heap.size X.Sc π fr) τ cs x->Cells w' (Be X.w0.heap.size X.Sc π' fr) τ cs x)-> ∀c v,Dx X w π st.heap c v->Dx X w' π' H' (f c) v)
  (NV:Move X w w' π π' st.heap H' f-> ∀l b,Ae H' l=some b->Au X w' π' H' (π' l) b)
  (AZ: ∀l,Ae H' l=none->π' l=none):
  Ai X π' {tmps:=st.tmps.map (·.map f),heap:=H'} a w':=by
 have hc: ∀fr τ cs x,Cells w (Be X.w0.heap.size X.Sc π fr) τ cs x->Cells w' (Be X.w0.heap.size X.Sc π' fr) τ cs x:= λfr τ cs x hh=>
  Cells.Cr hb.size (λk hk hn=>hb.block k hk λhg=>hn (.inl (CS k hg))) (λk Ho hA=>hA.imp (Yf k Ho) id) τ cs x hh
 have m:Move X w w' π π' st.heap H' f:=⟨hac hc,hc⟩
 refine ⟨⟨⟨hb.os.trans h.1.below.os,hb.tape.trans h.1.below.tape,hb.output.trans h.1.below.output,Nat.le_trans h.1.below.size hb.size,λk hk hn=>?_⟩,h.1.sc,Nj,UI,Af3,Yg,λl=>?_⟩,m.zf hu h.2⟩
 ·refine (hb.block k (Nat.lt_of_lt_of_le hk h.1.below.size) λhg=>?_).trans (h.1.below.block k hk hn)
  rcases (h.1.own (CS k hg)).2 with h1|h1
  ·omega
  ·exact hn h1
 ·cases hh:Ae H' l with
  |none=>exact Dh.Pc (AZ l hh) hh
  |some b=>exact Dh.Io (NV m l b hh) hh
def aM:Option Real->Option Real->Prop
 |none,none=>True
 |some r,some r'=>r.g=r'.g/\r.o=r'.o/\r.cap=r'.cap
 |_,_=>False
theorem aM.rfl' (r:Option Real):aM r r:=by cases r<;>simp [aM]
theorem aM.some {r:Real} {r':Option Real} (h:aM (some r) r'): ∃q,r'=some q/\r.g=q.g/\r.o=q.o/\r.cap=q.cap:=by
 cases r' with
 |none=>exact h.elim
 |some q=>exact ⟨q,rfl,h⟩
theorem aM.own {r r':Option Real} (h:aM r r') {sz off len:Nat} {v:Value} (hv:Dv r sz off len v):Dv r' sz off len v:=by
 cases r<;>cases r'<;>first|exact h.elim|skip
 ·exact hv
 ·obtain ⟨h1,h2,h3⟩:=h
  obtain ⟨ad,g1,g2,g3⟩:=hv
  exact ⟨ad,by rw [<-h3];exact g1,by rw [<-h3];exact g2,by rw [<-h1,<-h2,<-h3];exact g3⟩
structure OB.Mm (b b':OB):Prop where
 row: ∀sz n,b.row=some (sz,n)-> ∃n',b'.row=some (sz,n')/\n<=n'
 aS: ∀p,b.aS=some p->b'.aS=some p
 oL: ∀p,b.oL=some p->b'.oL=some p
 var: ∀tid vs,b= .var tid vs-> ∃Nr ur,b'= .var Nr ur
 Oh: ∀v m,b= .Oh v m-> ∃m',b'= .Oh v m'
theorem OB.Mm.map (f:AC->AC) (b:OB):b.Mm (b.map f) where
 row:= λsz n h=>⟨n,by cases b<;>exact h,Nat.le_refl _⟩
 aS:= λp h=>by cases b<;>exact h
 oL:= λp h=>by cases b<;>exact h
 var:= λtid vs h=>by subst h;exact ⟨_,_,rfl⟩
 Oh:= λv m h=>by subst h;exact ⟨_,rfl⟩
theorem OB.Mm.rfl' (b:OB):b.Mm b where
 row:= λ_sz n h=>⟨n,h,Nat.le_refl _⟩
 aS:= λ_p h=>h
 oL:= λ_p h=>h
 var:= λ_tid _vs h=>⟨_,_,h⟩
 Oh:= λ_v _m h=>⟨_,h⟩
theorem OB.Mm.trans {a b c:OB} (h:a.Mm b) (k:b.Mm c):a.Mm c where
 row:= λsz n hr=>by
  obtain ⟨n1,h1,h2⟩:=h.row sz n hr
  obtain ⟨n2,h3,h4⟩:=k.row sz n1 h1
  exact ⟨n2,h3,by omega⟩
 aS:= λp hp=>k.aS p (h.aS p hp)
 oL:= λp hp=>k.oL p (h.oL p hp)
 var:= λtid vs hv=>by obtain ⟨t',v',h1⟩:=h.var tid vs hv;exact k.var t' v' h1
 Oh:= λv m hm=>by obtain ⟨m',h1⟩:=h.Oh v m hm;exact k.Oh v m' h1
theorem ir {f:AC->AC} {D Pt:Nat->Prop} (hf: ∀c,f c= .undef\/(f c=c/\(∀k∈c.refs,¬D k)/\ ∀k i j,c= .sub k i j\/c= .Fw k i j-> ¬Pt k)) (hp: ∀k,¬D k->aM (π k) (π' k))
  (hH: ∀k b,¬D k->Ae H k=some b-> ∃b',Ae H' k=some b'/\b.Mm b')
  (hg: ∀k r b,¬D k-> ¬Pt k->Ae H k=some b->b.aS≠none->π k=some r->w'.heap[r.g]?=w.heap[r.g]?)
  (hc: ∀fr τ cs x,Cells w (Be X.w0.heap.size X.Sc π fr) τ cs x->Cells w' (Be X.w0.heap.size X.Sc π' fr) τ cs x): ∀c v,Dx X w π H c v->Dx X w' π' H' (f c) v:=by
 intro c v h
 rcases hf c with e|⟨e,hr,hs⟩
 ·rw [e];trivial
 rw [e]
 cases c with
 |data fr τ x=>obtain ⟨cs,h1,h2⟩:=h;exact ⟨cs,hc _ _ _ _ h1,h2⟩
 |own k off len=>
  obtain ⟨b,sz,n,h1,h0,h2,h3⟩:=h
  have hk:=hr k (by simp [AC.refs])
  obtain ⟨b',g1,g2⟩:=hH k b hk h1
  obtain ⟨n',g3,g4⟩:=g2.row sz n h0
  exact ⟨b',sz,n',g1,g3,by omega,(hp k hk).own h3⟩
 |Dw k i=>
  obtain ⟨r,tid,vs,h1,h2,h3⟩:=h
  have hk:=hr k (by simp [AC.refs])
  obtain ⟨b',g1,g2⟩:=hH k _ hk h1
  obtain ⟨Nr,ur,rfl⟩:=g2.var tid vs rfl
  obtain ⟨q,q1,q2,_⟩:=(h2▸hp k hk).some
  exact ⟨q,Nr,ur,g1,q1,by rw [<-q2];exact h3⟩
 |Fz k i=>
  obtain ⟨r,b,sz,n,h1,h0,h2,h3,h4⟩:=h
  have hk:=hr k (by simp [AC.refs])
  obtain ⟨b',g1,g2⟩:=hH k b hk h1
  obtain ⟨n',g3,g4⟩:=g2.row sz n h0
  obtain ⟨q,q1,q2,q3,_⟩:=(h3▸hp k hk).some
  exact ⟨q,b',sz,n',g1,g3,by omega,q1,by rw [<-q2,<-q3];exact h4⟩
 |sub k i c=>
  obtain ⟨r,b,sz,n,h1,h0,h2,h3,h4,h5⟩:=h
  have hk:=hr k (by simp [AC.refs])
  obtain ⟨b',g1,g2⟩:=hH k b hk h1
  obtain ⟨q,q1,q2,q3,_⟩:=(h2▸hp k hk).some
  exact ⟨q,b',sz,n,g1,g2.aS _ h0,q1,h3,h4,by rw [<-q2,<-q3,World.cell?_of_block (hg k r b hk (hs k i c (.inl rfl)) h1 (by rw [h0];simp) h2)];exact h5⟩
 |Fw k i c=>
  obtain ⟨r,b,n,sz,g,o,len,cap,h1,h0,h2,h3,h4,h5,h6⟩:=h
  have hk:=hr k (by simp [AC.refs])
  obtain ⟨b',g1,g2⟩:=hH k b hk h1
  obtain ⟨q,q1,q2,q3,_⟩:=(h2▸hp k hk).some
  exact ⟨q,b',n,sz,g,o,len,cap,g1,g2.oL _ h0,q1,h3,h4,by rw [<-q2,<-q3,World.cell?_of_block (hg k r b hk (hs k i c (.inr rfl)) h1 (by cases b<;>first|(cases h0;done)|simp [OB.aS]) h2)];exact h5,h6⟩
 |clo g Bv=>
  obtain ⟨us,h1,h2,h3⟩:=h
  refine ⟨us,h1,h2,λj p hpj=>?_⟩
  obtain ⟨r,tid,vs,h4,h5,h6⟩:=h3 j p hpj
  have hk:=hr p.1 (by simp only [AC.refs,List.mem_map];exact ⟨p,List.mem_of_getElem? hpj,rfl⟩)
  obtain ⟨b',g1,g2⟩:=hH p.1 _ hk h4
  obtain ⟨Nr,ur,rfl⟩:=g2.var tid vs rfl
  obtain ⟨q,q1,q2,_⟩:=(h5▸hp p.1 hk).some
  exact ⟨q,Nr,ur,g1,q1,by rw [<-q2];exact h6⟩
 |Gi k=>
  obtain ⟨r,vt,m,h1,h2,h3⟩:=h
  have hk:=hr k (by simp [AC.refs])
  obtain ⟨b',g1,g2⟩:=hH k _ hk h1
  obtain ⟨m',rfl⟩:=g2.Oh vt m rfl
  obtain ⟨q,q1,q2,_⟩:=(h2▸hp k hk).some
  exact ⟨q,vt,m',g1,q1,by rw [<-q2];exact h3⟩
 |_=>exact h
theorem Nw (H0:List (Nat×OB)) (ls:List Nat) (n:Nat): ∀(H:List (Nat×OB)) (l:Nat),Ae (Wy H0 ls n H) l=(Ae H l).map λb=>if ls.contains l then b.wR (Vb n (UY (Ae H0 l))) else b
 | [],_=>rfl
 |(k,b)::r,l=>by
  simp only [Wy,Ae]
  split
  ·rename_i e;subst e;rfl
  ·exact Nw H0 ls n r l
theorem OB.tg (b:OB) (kp:Option (Nat×Nat)):b.Mm (b.wR kp):=by
 cases b with
 |Ak e te rows out kp0=>exact ⟨λsz n h=>⟨n,h,Nat.le_refl _⟩,λp h=>h,λp h=>h,(λ_ _ h=>by cases h),(λ_ _ h=>by cases h)⟩
 |_=>exact OB.Mm.rfl' _
theorem aE (ls:List Nat): ∀(l m:List AV) (t:Nat),l.length=m.length->(∃k i c,l.getD t .undef= .at (.sub k i c)/\ls.contains k=true/\(Gw ls l m).getD t .undef= .at (.sub k i c))\/(Gw ls l m).getD t .undef=m.getD t .undef
 | [],m,t,_=>by cases m<;>exact .inr rfl
 |_::_,[],t,h=>by simp at h
 |a::l,v::m,t,h=>by
  have ih:= λt=>aE ls l m t (by simpa using h)
  have tail: ∀u,Gw ls (a::l) (v::m)=u::Gw ls l m->(t=0->(∃k i c,(a::l).getD t .undef= .at (.sub k i c)/\ls.contains k=true/\u= .at (.sub k i c))\/u=v)->
    (∃k i c,(a::l).getD t .undef= .at (.sub k i c)/\ls.contains k=true/\(Gw ls (a::l) (v::m)).getD t .undef= .at (.sub k i c))\/(Gw ls (a::l) (v::m)).getD t .undef=(v::m).getD t .undef:=by
   intro u e h0
   rw [e]
   rcases t with _|t
   ·rcases h0 rfl with ⟨k,i,c,h1,h2,h3⟩|h3
    ·exact .inl ⟨k,i,c,h1,h2,by simpa using h3⟩
    ·exact .inr (by simpa using h3)
   ·simpa only [List.getD_cons_succ] using ih t
  cases a with
  | «at»c=>
   cases c with
   |sub k i c=>
    refine tail _ rfl λht=>?_
    subst ht
    by_cases hc:ls.contains k=true
    ·exact .inl ⟨k,i,c,rfl,hc,by rw [if_pos hc]⟩
    ·exact .inr (by rw [if_neg hc])
   |_=>exact tail _ rfl λ_=> .inr rfl
  |_=>exact tail _ rfl λ_=> .inr rfl
theorem o9 {H:List (Nat×OB)} {ls:List Nat} {n:Nat} : ∀ {l:List AV} {t k i c:Nat},Xi H ls n l=true->l.getD t .undef= .at (.sub k i c)->ls.contains k=true->i<n/\i<lF H k
 | [],t,k,i,c,_,h,_=>by simp at h
 |a::l,0,k,i,c,ho,h,hc=>by
  simp only [List.getD_cons_zero] at h
  subst h
  simp only [Xi,hc,Bool.not_true,Bool.false_or,Bool.and_eq_true,Nat.blt_eq] at ho
  exact ho.1
 |a::l,t+1,k,i,c,ho,h,hc=>by
  refine o9 (l:=l) (t:=t) (c:=c) ?_ (by simpa only [List.getD_cons_succ] using h) hc
  cases a with
  | «at»d=>cases d with
   |sub _ _ _=>simp only [Xi,Bool.and_eq_true] at ho;exact ho.2
   |_=>exact ho
  |_=>exact ho
theorem yD {bf st:St} {a:Act} (h0:Ai X π bf a w) (h:Ai X π' st a w') {ls:List Nat} {n:Nat} (hk: ∀l∈ls,ux w w' (π l) (π' l) n) (mG: ∀l∈ls,gV bf.heap l=true)
  (iR:Xi st.heap ls n bf.tmps=true):Ai X π' (fG bf st ls n) a w'/\ ∀c v,Am X w' π' st.heap c v->Am X w' π' (fG bf st ls n).heap c v:=by
 by_cases ej:ls= []
 ·subst ej;exact ⟨h,λ_ _ h=>h⟩
 have Qn:fG bf st ls n= {tmps:=Gw ls bf.tmps st.tmps,heap:=Wy bf.heap ls n st.heap} :=by
  cases ls with
  |nil=>exact absurd rfl ej
  |cons _ _=>rfl
 rw [Qn]
 have NY: ∀l∈ls,∃e te rows out kp,Ae bf.heap l=some (.Ak e te rows out kp):= λl hl=>by
  have:=mG l hl
  unfold gV at this
  split at this
  ·exact ⟨_,_,_,_,_,by assumption⟩
  ·cases this
 have srv: ∀k b,Ae st.heap k=some b-> ∃b',Ae (Wy bf.heap ls n st.heap) k=some b'/\b.Mm b':= λk b hb=>by
  rw [Nw,hb]
  refine ⟨_,rfl,?_⟩
  dsimp only
  split
  ·exact OB.tg b _
  ·exact OB.Mm.rfl' b
 have hac:(∀fr τ cs x,Cells w' (Be X.w0.heap.size X.Sc π' fr) τ cs x->Cells w' (Be X.w0.heap.size X.Sc π' fr) τ cs x)-> ∀c v,Dx X w' π' st.heap c v->Dx X w' π' (Wy bf.heap ls n st.heap) c v:= λhc=>
  ir (f:= λc=>c) (D:= λ_=>False) (Pt:= λ_=>False) (λc=> .inr ⟨rfl,λ_ _ h=>h,λ_ _ _ _ h=>h⟩) (λk _=>aM.rfl' _) (λk b _ hb=>srv k b hb) (λ_ _ _ _ _ _ _ _=>rfl) hc
 have h1:Ai X π' {tmps:=st.tmps.map (·.map λc=>c),heap:=Wy bf.heap ls n st.heap} a w':=by
  refine h.iu rfl (gv:= λ_=>False) (λ_ hf=>hf.elim) (Gf.refl _ _ _) (λ_ _ ho=>ho) h.1.sub h.1.place h.1.inj (λl hl El=>h.1.cz l hl λh2=>El (by rw [Nw,h2];rfl)) hac (λm l b hb=>?_) (λl hl=>?_)
  ·rw [Nw] at hb
   cases h2:Ae st.heap l with
   |none=>rw [h2] at hb;cases hb
   |some b0=>
    rw [h2] at hb
    simp only [Option.map_some,Option.some.injEq] at hb
    have hbk:=(h.1.heap l).Ma h2
    have xC:=hbk.move m (Nat.le_refl _) (λr0 c h0 h1=>h.1.sub _ r0 c h0 h1) λ_ _ _ _ _=>rfl
    rw [show OB.map (λc=>c) b0=b0 from OB.wc b0] at xC
    split at hb
    ·rename_i hc
     have hl:l∈ls:=by simpa using hc
     cases b0 with
     |Ak e te rows out kp=>
      simp only [OB.wR] at hb
      subst hb
      refine ⟨xC.1,?_⟩
      obtain ⟨e0,te0,SK,Agr,kp0,hg⟩:=NY l hl
      have oP:=((h0.1.heap l).Ma hg).2
      rw [hg]
      simp only [UY]
      have oR:=hk l hl
      cases kp0 with
      |none=>trivial
      |some p=>
       obtain ⟨l0,n0⟩:=p
       simp only [KeptAt,Vb] at oP⊢
       cases sf:X.cz l0 with
       |none=>
        cases hp:π l with
        |none=>
         rw [hp] at oR
         cases BB:π' l with
         |none=>trivial
         |some q=>rw [BB] at oR;exact oR.elim
        |some q=>rw [sf,hp] at oP;exact oP.elim
       |some r0=>
        cases hp:π l with
        |none=>rw [sf,hp] at oP;exact oP.elim
        |some q=>
         rw [sf,hp] at oP
         rw [hp] at oR
         cases BB:π' l with
         |none=>rw [BB] at oR;exact oR.elim
         |some q'=>
          rw [BB] at oR
          obtain ⟨k1,k2,k3,k4⟩:=oR
          obtain ⟨g1,g2,g3,g4⟩:=oP
          refine ⟨k1.trans g1,k2.trans g2,k3.trans g3,λj hj hc=>?_⟩
          have e1:=g4 j (by omega) hc
          have e2:=k4 j (by omega) (by omega)
          rw [g1,g2] at e2
          rw [<-e1,e2]
     |_=>simp only [OB.wR] at hb;subst hb;exact xC
    ·subst hb;exact xC
  ·rw [Nw] at hl
   cases h2:Ae st.heap l with
   |none=>exact (h.1.heap l).emp h2
   |some b=>rw [h2] at hl;cases hl
 have HY: ∀c v,Am X w' π' st.heap c v->Am X w' π' (Wy bf.heap ls n st.heap) c v:= λc v hv=>by
  have m:Move X w' w' π' π' st.heap (Wy bf.heap ls n st.heap) (λc=>c):=⟨hac λ_ _ _ _ h=>h,λ_ _ _ _ h=>h⟩
  have:=m.av hv
  rwa [AC.map_id] at this
 refine ⟨⟨h1.1,⟨?_,h.2.defers,λt=>?_⟩⟩,HY⟩
 ·have: ∀(l m:List AV),(Gw ls l m).length=m.length:=by
   intro l
   induction l with
   |nil=>intro m;cases m<;>rfl
   |cons a l ih=>
    intro m
    cases m with
    |nil=>cases a with
     | «at»c=>cases c<;>rfl
     |_=>rfl
    |cons v m=>cases a with
     | «at»c=>cases c<;>simp only [Gw,List.length_cons,ih m]
     |_=>simp only [Gw,List.length_cons,ih m]
  show a.tmps.size=(Gw ls bf.tmps st.tmps).length
  rw [this];exact h.2.size
 ·show Am X w' π' _ ((Gw ls bf.tmps st.tmps).getD t .undef) _
  rcases aE ls bf.tmps st.tmps t (by rw [<-h0.2.size,<-h.2.size]) with ⟨k,i,c,g1,g2,g3⟩|g
  ·rw [g3]
   have Ht:k∈ls:=by simpa using g2
   obtain ⟨i1,i2⟩:=o9 iR g1 g2
   have hv:=h0.2.tmps t
   rw [show bf.get t=_ from g1] at hv
   obtain ⟨r,b,sz,n',e1,e2,e3,e4,⟨e5,e6⟩,e7⟩:=hv
   obtain ⟨e0,te0,SK,Agr,kp0,hg⟩:=NY k Ht
   rw [hg] at e1;cases e1
   simp only [OB.aS,Option.some.injEq,Prod.mk.injEq] at e2
   obtain ⟨rfl,rfl⟩:=e2
   have oR:=hk k Ht
   rw [e3] at oR
   cases BB:π' k with
   |none=>rw [BB] at oR;exact oR.elim
   |some q'=>
    rw [BB] at oR
    obtain ⟨k1,k2,k3,k4⟩:=oR
    have mF:SK.length<=r.cap:=by
     have:=((h0.1.heap k).Ma hg).1
     rw [e3] at this
     obtain ⟨_,_,_,_,_,_,h5,_⟩:=this
     exact h5
    unfold lF at i2
    split at i2
    ·rename_i e9 te9 Abm Am5 kp9 hg9
     refine ⟨q',_,1,Abm.length,by rw [Nw,hg9];rfl,?_,BB,i2,⟨e5,e6⟩,?_⟩
     ·dsimp only
      split<;>rfl
     ·have fv:c=0:=by omega
      subst fv
      rw [k1,k2]
      rw [Nat.mul_one,Nat.add_zero] at e7⊢
      rw [k4 i i1 (by omega)];exact e7
    ·omega
  ·rw [g]
   exact HY _ _ (h.2.tmps t)
theorem jL {ins:List (Bool×CK)} {as:List AC} {pl:List Nat} {st:St} :(lk ins as pl st).tmps=st.tmps:=by
 unfold lk
 split
 ·rfl
 ·split<;>rfl
theorem zm {ins:List (Bool×CK)} {as:List AC} {pl:List Nat} {st:St} {m:Nat} (hm:m∉pl):Ae (lk ins as pl st).heap m=Ae st.heap m:=by
 unfold lk
 split
 ·rfl
 ·rename_i l r
  split
  ·exact Ci _ _ _ _ λe=>hm (e▸List.mem_cons_self)
  ·rfl
theorem EU {ins:List (Bool×CK)} {as:List AC} {l:Nat} {st:St} {tid:TypeId} {vs:List AC} (hl:Ae st.heap l=some (.var tid vs)):Ae (lk ins as [l] st).heap l=some (.var tid (aZ ins vs as)):=by
 simp only [lk,St.at,hl]
 exact Cn _ _ _ _ hl
theorem qQ {α:Type} (ins:List (Bool×CK)) (as:List α):aZ ins [] as= []:=by
 rcases ins with _|⟨⟨_|_,c⟩,r⟩<;>rfl
theorem jD {α:Type} : ∀(ins:List (Bool×CK)) (vs as:List α),(aZ ins vs as).length=vs.length
 | [],vs,as=>by rw [aZ];all_goals simp
 |p::r,[],as=>by rw [qQ]
 |(true,c)::r,v::vs,as=>by simp only [aZ,List.length_cons,jD r vs as]
 |(false,c)::r,v::vs,[]=>by rw [aZ];all_goals simp
 |(false,c)::r,v::vs,a::as=>by simp only [aZ,List.length_cons,jD r vs as]
theorem EK {st:St} {a:Act} (h:Ai X π st a w) {s:MSpec} {ke:List AV} {vs:List Value} (hlen:ke.length=vs.length) (HY: ∀(i:Nat) c v,ke[i]?=some c->vs[i]?=some v->Am X w π st.heap c v)
  {pl:List Nat} {cells:List AC} {rest:List AV} (he:BM st s ke=some (pl,cells,rest)):
  ∃(g:Nat) (QO rj:List Value),rest.length=rj.length/\(∀(i:Nat) c v,rest[i]?=some c->rj[i]?=some v->Am X w π st.heap c v)/\Hy X w π st.heap cells QO/\
   ((s.ptr=none/\pl= []/\cells= []/\QO= []/\vs=rj)\/
    ∃p l q,s.ptr=some p/\pl= [l]/\π l=some q/\q.Ay q.g/\g=q.g/\Ae st.heap l=some (.var p.1 cells)/\cells.length=p.2/\vs= .pointer (some ⟨g,0,none⟩)::rj/\w.heap[g]?=some (.cells QO.toArray p.1 (0,0))/\Cw X w π st.heap cells QO):=by
 unfold BM at he
 split at he
 ·rename_i hp
  simp only [Option.some.injEq,Prod.mk.injEq] at he
  obtain ⟨rfl,rfl,rfl⟩:=he
  exact ⟨0,[],vs,hlen,HY,trivial, .inl ⟨hp,rfl,rfl,rfl,rfl⟩⟩
 ·rename_i p hp
  split at he
  ·rename_i l i Aip
   split at he
   ·rename_i tid cs hl
    split at he
    ·rename_i hc
     obtain ⟨rfl,hc,rfl⟩:=hc
     simp only [Option.some.injEq,Prod.mk.injEq] at he
     obtain ⟨rfl,rfl,rfl⟩:=he
     unfold St.at at hl
     cases vs with
     |nil=>simp at hlen
     |cons v vs=>
      obtain ⟨r,Nr,ur,h1,h2,rfl⟩:=HY 0 _ v rfl rfl
      rw [hl] at h1;cases h1
      obtain ⟨r',h3,h4,cur,h5,h6⟩:=(h.1.heap l).Ma hl
      rw [h2] at h3;cases h3
      exact ⟨r.g,cur.toList,vs,by simpa using hlen,λi c v h7 h8=>HY (i+1) c v (by simpa using h7) (by simpa using h8),Hy.of h6, .inr ⟨p,l,r,hp,rfl,h2,h4,rfl,hl,hc,rfl,by simpa using h5,h6⟩⟩
    ·cases he
   ·cases he
  ·cases he
theorem dE {V:List Nat} {πc:Pi} {dead part:List Nat} (SD: ∀l,l∉dead->π' l=π l) (Qm: ∀l b sz n,l∉dead->Ae H l=some b->b.row=some (sz,n)-> ∃b',Ae H' l=some b'/\b'.row=some (sz,n)):
  ∀(ins:List (Bool×CK)) (k:Nat) (cells iO:List AC) (x:Ins.den ins) (us:List Value) (o:IOs.den ins) (cur st1:St) (news:List AC) (Sq cs:List Value),l6 X w π V H πc k ins x (cells++iO) us->Ow ins cells=true->
   Eb ins o (cells++iO) cur=some st1->Cc πc k ins o cells.length cs Sq->Hy X w' π' H' news Sq->Hy X w' π' H' (aZ ins (cells.map (Aw dead part)) news) cs
 |ins,k,[],iO,x,us,o,cur,st1,news,Sq,cs,_,_,_,hb,_=>by
  have hb:cs= []:=by rcases ins with _|⟨⟨_|_,c⟩,r⟩<;>(try cases c)<;>simpa [Cc] using hb
  rw [hb,List.map_nil,qQ]
  trivial
 | [],k,a::cells,iO,x,us,o,cur,st1,news,Sq,cs,_,hk,_,_,_=>by simp [Ow] at hk
 |(true, .Ew τ)::r,k,a::cells,iO,x,us,o,cur,st1,news,Sq,cs,_,hk,_,_,_=>by simp [Ow] at hk
 |(true, .part e te)::r,k,a::cells,iO,x,us,o,cur,st1,news,Sq,cs,_,hk,_,_,_=>by simp [Ow] at hk
 |(true, .Ak e te _)::r,k,a::cells,iO,x,us,o,cur,st1,news,Sq,cs,_,hk,_,_,_=>by simp [Ow] at hk
 |(true, .row e te)::r,k,a::cells,iO,x,us,o,cur,st1,news,Sq,cs,ht,hk,hp,hb,hn=>by
  cases a<;>simp only [Ow,Bool.false_eq_true] at hk
  rename_i l off len
  cases us with
  |nil=>exact ht.elim
  |cons u0 us=>
  cases cs with
  |nil=>exact hb.elim
  |cons u cs=>
  obtain ⟨⟨_,h1⟩,h2⟩:=ht
  simp only [Mr] at h1
  obtain ⟨h3,rfl,rfl,fr,tr,h4⟩:=h1
  obtain ⟨h5,h6⟩:=hb
  simp only [List.cons_append,Eb] at hp
  split at hp
  rotate_left
  ·cases hp
  rename_i Tl UH
  have II:List.length o.1=List.length x.1:=by
   simp only [Vr] at UH
   repeat' split at UH
   all_goals first|(cases UH;done)|(rename_i hc;exact hc.2.1)
  refine ⟨?_,dE SD Qm r (k+1) cells iO x.2 us o.2 Tl st1 news Sq cs h2 hk hp h6 hn⟩
  by_cases hd:l∈dead
  ·have:Aw dead part (.own l 0 (List.length x.1))= .undef:=by
    unfold Aw
    rw [if_pos (by simp [AC.refs,hd])]
   rw [this];trivial
  ·rw [Wa (by simpa [AC.refs] using hd) (by intro l i j e;rcases e with e|e<;>cases e)]
   obtain ⟨b',g1,g2⟩:=Qm l _ e.size (List.length x.1) hd h4 rfl
   refine ⟨b',e.size,List.length x.1,g1,g2,by omega,?_⟩
   rw [SD l hd]
   rw [h3,II] at h5
   cases hp:π l<;>(rw [hp] at h5;exact h5)
 |(true, .Dt e te)::r,k,a::cells,iO,x,us,o,cur,st1,news,Sq,cs,ht,hk,hp,hb,hn=>by
  cases a<;>simp only [Ow,Bool.false_eq_true] at hk
  rename_i l off len
  cases us with
  |nil=>exact ht.elim
  |cons u0 us=>
  cases cs with
  |nil=>exact hb.elim
  |cons u cs=>
  obtain ⟨⟨_,h1⟩,h2⟩:=ht
  simp only [Mr] at h1
  obtain ⟨h3,rfl,rfl,h4⟩:=h1
  obtain ⟨h5,h6⟩:=hb
  simp only [List.cons_append,Eb] at hp
  split at hp
  rotate_left
  ·cases hp
  rename_i Tl UH
  have II:List.length o.1=List.length x.1:=by
   simp only [Vr] at UH
   repeat' split at UH
   all_goals first|(cases UH;done)|(rename_i hc;exact hc.2.1)
  refine ⟨?_,dE SD Qm r (k+1) cells iO x.2 us o.2 Tl st1 news Sq cs h2 hk hp h6 hn⟩
  by_cases hd:l∈dead
  ·have:Aw dead part (.own l 0 (List.length x.1))= .undef:=by
    unfold Aw
    rw [if_pos (by simp [AC.refs,hd])]
   rw [this];trivial
  ·rw [Wa (by simpa [AC.refs] using hd) (by intro l i j e;rcases e with e|e<;>cases e)]
   obtain ⟨b',g1,g2⟩:=Qm l _ e.size (List.length x.1) hd h4 rfl
   refine ⟨b',e.size,List.length x.1,g1,g2,by omega,?_⟩
   rw [SD l hd]
   rw [h3,II] at h5
   cases hp:π l<;>(rw [hp] at h5;exact h5)
 |(false,c)::r,k,a::cells,iO,x,[],o,cur,st1,news,Sq,cs,ht,hk,hp,hb,hn=>ht.elim
 |(false,c)::r,k,a::cells,iO,x,u0::us,o,cur,st1,news,Sq,[],ht,hk,hp,hb,hn=>by cases c<;>exact hb.elim
 |(false,c)::r,k,a::cells,iO,x,u0::us,o,cur,st1,news,[],u::cs,ht,hk,hp,hb,hn=>by cases c<;>exact hb.elim
 |(false,c)::r,k,a::cells,iO,x,u0::us,o,cur,st1,[],u'::Sq,u::cs,ht,hk,hp,hb,hn=>hn.elim
 |(false,c)::r,k,a::cells,iO,x,u0::us,o,cur,st1,na::news,u'::Sq,u::cs,ht,hk,hp,hb,hn=>by
  have ZF:u=u'/\Cc πc (k+1) r o cells.length cs Sq:=by cases c<;>exact hb
  obtain ⟨rfl,hb3⟩:=ZF
  have hp:Eb r o (cells++iO) cur=some st1:=by cases c<;>simpa only [List.cons_append,Eb] using hp
  have hk:Ow r cells=true:=by cases c<;>simpa only [Ow] using hk
  exact ⟨hn.1,dE SD Qm r (k+1) cells iO x.2 us o cur st1 news Sq cs ht.2 hk hp hb3 hn.2⟩
theorem xe {V:List Nat} {πc:Pi} : ∀(cs:List (Bool×CK)) (k0:Nat) (x:Ins.den cs) (as:List AC) (us:List Value),k0+cs.length<100000->l6 X w π V H πc k0 cs x as us-> ∀k l,(Bq false k,Loc.row l)∈Gx k0 cs as->πc (Bq false k)=(π l).map full
 | [],_,_,[],_,_,_,_,_,h=>by cases h
 | [],_,_,_::_,_,_,_,_,_,h=>by cases h
 |_::_,_,_,[],_,_,_,_,_,h=>by cases h
 |_::_,_,_,_::_,[],_,h,_,_,_=>h.elim
 |(io,c)::r,k0,x,a::as,u::us,hk,h,k,l,ht=>by
  simp only [List.length_cons] at hk
  simp only [Gx] at ht
  rcases List.mem_append.1 ht with ht|ht
  ·obtain ⟨⟨_,h1⟩,_⟩:=h
   cases c with
   |Ew τ=>cases a<;>simp [Kk,views] at ht
   |row e te=>
    cases a<;>simp [Kk] at ht
    obtain ⟨e1,rfl⟩:=ht
    simp only [Mr] at h1
    rw [e1];exact h1.1
   |Dt e te=>
    cases a<;>simp [Kk] at ht
    obtain ⟨e1,rfl⟩:=ht
    simp only [Mr] at h1
    rw [e1];exact h1.1
   |part e te=>
    cases a<;>simp [Kk] at ht
    obtain ⟨e1,rfl⟩:=ht
    simp only [Mr] at h1
    rw [e1];exact h1.2.1
   |Ak e te kp=>
    cases a<;>simp [Kk] at ht
    obtain ⟨e1,rfl⟩:=ht
    simp only [Mr] at h1
    rw [e1];exact h1.2.1
  ·exact xe r (k0+1) x.2 as us (by omega) h.2 k l ht
theorem l8 {st:St} {a:Act} (h:Ai X π st a w) {f:FuncId} {s:MSpec} (hs:Bz P f s) (dst:Option Nat) (ke:List AV) (vs:List Value) (hlen:ke.length=vs.length)
  (HY: ∀(i:Nat) c v,ke[i]?=some c->vs[i]?=some v->Am X w π st.heap c v) (av:AV) (st':St) (he:Qi st dst s ke=some (av,st')):
  Calls P f vs.toArray w λe w'=> ∃v,e= .returned v/\ ∃π',Ai X π' st' a w'/\Am X w' π' st'.heap av v:=by
 unfold Qi at he
 split at he
 ·cases he
 rename_i pl cells rest Afw
 split at he
 ·cases he
 rename_i iO GP
 split at he
 ·cases he
 rename_i x tks htk
 split at he
 rotate_left
 ·cases he
 rename_i Ff
 simp only [Bool.and_eq_true,Nat.blt_eq] at Ff
 obtain ⟨⟨⟨⟨oT,mL⟩,UF⟩,Ke⟩,ZT,CW⟩:=Ff
 have CW: ∀l∈pl,l∉(tks.map λt=>t.2.Px)/\l∉Lq s tks (dst.getD 0):= λl hl=>by
  have:=List.all_eq_true.1 CW l hl
  simp only [Bool.not_eq_true',<-Bool.not_eq_true,List.contains_iff_mem] at this
  exact ⟨λhm=>this (List.mem_append_left _ hm),λhm=>this (List.mem_append_right _ hm)⟩
 split at he
 ·cases he
 rename_i r o XJ
 split at he
 ·cases he
 rename_i st1 UK
 obtain ⟨g,QO,rj,ZU,Aeh,Afz,XW⟩:=EK h hlen HY Afw
 obtain ⟨pM,rfl,GN,Afy⟩:=Wn s.Ha rest rj iO ZU Aeh GP
 have UM:=Afz.append Afy
 have Kz:iT s w g (QO++pM) vs:=by
  unfold iT
  rcases XW with ⟨h1,_,_,h2,h3⟩|⟨p,l,q,h1,_,_,_,_,_,h2,h3,h4,h5⟩
  ·rw [h1];subst h2;exact ⟨h3,GN⟩
  ·rw [h1]
   have hl:QO.length=p.2:=h5.1.trans h2
   simp only
   rw [List.drop_append_of_le_length (by omega),List.take_append_of_le_length (by omega),List.take_of_length_le (by omega),List.drop_of_length_le (by omega)]
   refine ⟨h3,GN,by simp;omega,h4,λu hu=>?_⟩
   obtain ⟨i,hi,rfl⟩:=List.mem_iff_getElem.1 hu
   obtain ⟨u',h6,h7,_⟩:=h5.2 i (cells[i]'(by have:=h5.1;omega)) (List.getElem?_eq_getElem _)
   rw [List.getElem?_eq_getElem hi] at h6
   rw [Option.some.inj h6];exact h7
 have CX: ∀l∈pl,∃p q,s.ptr=some p/\pl= [l]/\π l=some q/\q.Ay q.g/\g=q.g/\Ae st.heap l=some (.var p.1 cells)/\cells.length=p.2:= λl hl=>by
  rcases XW with ⟨_,h1,_⟩|⟨p,l',q,h1,h2,h3,h4,h5,h6,h7,_⟩
  ·rw [h1] at hl;cases hl
  ·rw [h2] at hl
   have:=List.mem_singleton.1 hl
   subst this
   exact ⟨p,q,h1,h2,h3,h4,h5,h6,h7⟩
 have CS: ∀b,s.gv g b-> ∃l∈pl,∃q,π l=some q/\q.Ay b/\b=q.g:= λb ⟨h1,h2⟩=>by
  rcases XW with ⟨h3,_⟩|⟨p,l',q,_,h4,h5,h6,h7,_⟩
  ·rw [h3] at h1;cases h1
  ·exact ⟨l',by rw [h4];exact List.mem_singleton.2 rfl,q,h5,by rw [h2,h7];exact h6,h2.trans h7⟩
 obtain ⟨as,has⟩: ∃as,as=cells++iO:=⟨_,rfl⟩
 obtain ⟨us,IS⟩: ∃us,us=QO++pM:=⟨_,rfl⟩
 rw [<-has] at UM htk UK
 rw [<-IS] at UM Kz
 let V:=(tks.filter λt=>t.2.reads).map λt=>t.2.Px
 have hV: ∀t∈tks,t.2.reads=true->t.2.Px∈V:= λt ht hr=>List.mem_map.2 ⟨t,List.mem_filter.2 ⟨ht,hr⟩,rfl⟩
 have hV': ∀l∈V,∃t∈tks,t.2.reads=true/\t.2.Px=l:= λl hl=>by
  obtain ⟨t,h1,h2⟩:=List.mem_map.1 hl
  exact ⟨t,(List.mem_filter.1 h1).1,(List.mem_filter.1 h1).2,h2⟩
 clear_value V
 obtain ⟨MK,πc,hT,IB,Af1,Ov⟩:=oh h.1 (V:=V) s.ins 0 as us x tks (by omega) UM htk hV
 have yq:=Qt oT
 rw [MK] at yq
 have Yf: ∀b,Oi πc b-> ∃t∈Gx 0 s.ins as,t.2.reads=false/\ ∃q,π t.2.Px=some q/\q.Ay b/\ ∀l i j,t.2= .sub l i j->b≠q.g:= λb ⟨c,q,h1,h2⟩=>by
  obtain ⟨t,t1,_,t3⟩:=Ov c q b h1 h2
  exact ⟨t,t1,t3⟩
 have yt: ∀b,Oi πc b->Oi π b:= λb hb=>let ⟨t,_,_,q,h1,h2,_⟩:=Yf b hb;⟨_,q,h1,h2⟩
 have ca:bz πc (λb=>b<w.heap.size):=⟨λl q b h1 h2=>(h.1.own (yt b ⟨l,q,h1,h2⟩)).1,λl l' q q' b h1 h2 h3 h4=>by
  obtain ⟨t,t1,t2,_,p,t3,t4,_⟩:=Ov l q b h1 h3
  obtain ⟨t',WB,t2',_,p',t3',t4',_⟩:=Ov l' q' b h2 h4
  have:=sv yq t1 WB (h.1.apart t3 t3' t4 t4')
  rw [<-t2,<-t2',this]⟩
 have ZB: ∀k l,(Bq false k,Loc.row l)∈Gx 0 s.ins as->πc (Bq false k)=(π l).map full:= λk l ht=>
  xe s.ins 0 x as us (by omega) hT k l ht
 have Aao: ∀b,Oi πc b->Jd X π V b:= λb hb=> .inl ⟨yt b hb,λl hl r' hr hf=>by
  obtain ⟨t,t1,t0,q,t3,t4,_⟩:=Yf b hb
  obtain ⟨t',WB,t2',rfl⟩:=hV' l hl
  rw [MK] at WB
  have:=sv yq t1 WB (h.1.apart t3 hr t4 hf)
  subst this
  rw [t0] at t2';cases t2'⟩
 let S:Nat->Prop:= λb=> ¬Oi πc b/\Jd X π V b
 have hS: ∀b,S b->b<w.heap.size/\ ¬Oi πc b:= λb hb=>⟨by
  rcases hb.2 with h1|h1
  ·exact (h.1.own h1.1).1
  ·exact Nat.lt_of_lt_of_le (h.1.sc b h1).1 h.1.below.size,hb.1⟩
 have OJ: ∀l∈pl,∀t∈Gx 0 s.ins as,t.2.Px≠l:= λl hl t ht e=>(CW l hl).1 (List.mem_map.2 ⟨t,MK▸ht,e⟩)
 have hSg:s.ptr.isSome=true->S g:= λXV=>by
  obtain ⟨l,hl,q,h1,h2,h3⟩:=CS g ⟨XV,rfl⟩
  have XR: ¬Oi πc g:= λhb=>by
   obtain ⟨t,t1,_,q',t3,t4,_⟩:=Yf g hb
   exact OJ l hl t t1 (h.1.apart t3 h1 t4 h2)
  refine ⟨XR, .inl ⟨⟨l,q,h1,h2⟩,λl' Hg r' fD hf=>?_⟩⟩
  obtain ⟨t',WB,_,rfl⟩:=hV' l' Hg
  rw [MK] at WB
  exact OJ l hl t' WB (h.1.apart fD h1 hf h2)
 refine (hs.calls w S πc us x r o g vs Kz hSg (Zf.Ev (λb hb=>hb.elim (Aao b) λh=>h.2) s.ins 0 x us (hT.Aay s.ins 0 x as us)) ca hS Af1 XJ).mono ?_
 rintro e w' ⟨v,Sq,uu,rfl,Zx,qe,NU,s6,Aa3,IK,UW,qj⟩
 obtain ⟨ρ,OR,mN,IJ,RE⟩: ∃ρ:Pi,(∀l,ρ l=(uu l).map full)/\Ex w' (dO S πc uu) ρ 0 s.outs r Sq/\bz ρ (λb=>b<w'.heap.size/\(w.heap.size<=b\/ ∃l q,l<Aj/\πc l=some q/\q.Ay b))/\ ∀l q,ρ l=some q->q.cl=q.Ay:=by
  have un: ∀l q,(uu l).map full=some q-> ∃q0,uu l=some q0/\q=full q0:= λl q hq=>by
   cases hp:uu l with
   |none=>rw [hp] at hq;cases hq
   |some q0=>rw [hp] at hq;exact ⟨q0,rfl,(Option.some.inj hq).symm⟩
  refine ⟨λl=>(uu l).map full,λ_=>rfl,Ex.full s.outs 0 r Sq Aa3,⟨λl q b h1 h2=>?_,λl l' q q' b h1 h2 h3 h4=>?_⟩,λl q h1=>?_⟩
  ·obtain ⟨q0,h5,rfl⟩:=un l q h1
   exact IK.Nh l q0 b h5 h2
  ·obtain ⟨q0,h5,rfl⟩:=un l q h1
   obtain ⟨VX,h6,rfl⟩:=un l' q' h2
   exact IK.inj l l' q0 VX b h5 h6 h3 h4
  ·obtain ⟨q0,_,rfl⟩:=un l q h1
   rfl
 refine ⟨v,rfl,?_⟩
 split at he
 ·cases he
 rename_i av0 cb
 split at he
 rotate_left
 ·cases he
 rename_i Nj
 simp only [Option.some.injEq,Prod.mk.injEq] at he
 obtain ⟨rfl,rfl⟩:=he
 let D1:Nat->Prop:=if s.flat then λ_=>True else dO S πc uu
 have Af4:Hd w' D1 πc 0 s.ins o:=by
  show Hd w' (if s.flat then λ_=>True else dO S πc uu) πc 0 s.ins o
  split
  ·rename_i hf
   unfold MSpec.flat at hf
   simp only [Bool.and_eq_true] at hf
   exact Hd.any s.ins 0 o hf.2 s6
  ·exact s6
 have Aa4:Ex w' D1 ρ 0 s.outs r Sq:=by
  show Ex w' (if s.flat then λ_=>True else dO S πc uu) ρ 0 s.outs r Sq
  split
  ·rename_i hf
   unfold MSpec.flat at hf
   simp only [Bool.and_eq_true] at hf
   exact Ex.any s.outs 0 r Sq hf.1 mN
  ·exact mN
 obtain ⟨q1,q2,q3,q4⟩:=nA (D:=D1) (X:=X) (π:=π) (H:=st.heap) h.1 NU.size (tks:=Gx 0 s.ins as) (πc:=πc) (λt ht q b hq hb Ho hn=>NU.block b Ho λyr=>by
   rcases yr with ⟨c,r',h1,h2⟩|hg
   rotate_left
   ·obtain ⟨l,hl,q',h1,h2,_⟩:=CS b hg
    exact OJ l hl t ht (h.1.apart hq h1 hb h2)
   obtain ⟨t',t1,t2,_,p,t3,t4,_⟩:=Ov c r' b h1 h2
   have:=sv yq ht t1 (h.1.apart hq t3 hb t4)
   subst this
   exact hn r' (t2▸h1) h2) s.ins 0 x as us o st st1 (by omega) (λ_ h=>h) yq hT Af4 UK (λ_ _=>rfl)
 have UN: ∀t∈Gx 0 s.ins as,t.2.reads=true->t.1<Aj:=by
  have: ∀(cs:List (Bool×CK)) (k:Nat) (as:List AC),k+cs.length<100000-> ∀t∈Gx k cs as,t.2.reads=true->t.1<Aj:=by
   intro cs
   induction cs with
   |nil=>intro k as _ t ht;cases as<;>cases ht
   |cons p r ih=>
    intro k as hk t ht hr
    simp only [List.length_cons] at hk
    cases as with
    |nil=>cases ht
    |cons a as=>
     simp only [Gx] at ht
     rcases List.mem_append.1 ht with ht|ht
     ·rcases xd ht with ⟨_,h1⟩|⟨h1,_⟩
      ·rw [hr] at h1;cases h1
      ·rw [h1];exact an (by omega)
     ·exact ih (k+1) as (by omega) t ht hr
  exact this s.ins 0 as (by omega)
 let d:=dst.getD 0
 let ks:=Lq s tks d
 let dead:=gB tks++ks++(if s.flat then [] else u5 tks)
 let part:=whole tks
 have Ag2:s.outs.length+(fS s d).length=s.Nn:=by unfold MSpec.Nn fS;cases s.rp<;>rfl
 obtain ⟨TX,Afg,RL⟩:ks.length=s.Nn/\ks.Nodup/\ ∀l∈ks,l<Aj:=by
  have:=yG mL
  rw [Ag2] at this
  exact this
 have XR:s.outs.length<=s.Nn:=by unfold MSpec.Nn;omega
 have OP: ∀tid,s.rp=some tid->Bu ks s.outs.length=Mq d/\s.Nn=s.outs.length+1:= λtid Qo=>by
  have h1:s.Nn=s.outs.length+1:=by unfold MSpec.Nn;rw [Qo]
  refine ⟨?_,h1⟩
  have h2:ks=gu s tks d++ [Mq d]:=by show gu s tks d++fS s d=_;unfold fS;rw [Qo]
  have h3:(gu s tks d).length=s.outs.length:=by rw [h2] at TX;simp at TX;omega
  rw [Le (by rw [TX];omega)]
  simp only [h2]
  rw [List.getElem_append_right (by omega)]
  simp [h3]
 have IH:=uR Afg RL
 have Afe: ∀j,j<s.Nn->Bu ks j<Aj:= λj hj=>RL _ (mem_keys.2 ⟨j,by omega,rfl⟩)
 let π':Pi:= λl=>match (List.range s.Nn).find? λj=>decide (Bu ks j=l) with
  |some j=>ρ (Fp j)
  |none=>if l∈dead then none else π l
 have oQ: ∀j,j<s.Nn->π' (Bu ks j)=ρ (Fp j):= λj hj=>by
  show (match (List.range s.Nn).find? λi=>decide (Bu ks i=Bu ks j) with|some i=>ρ (Fp i)|none=>_)=_
  cases hf:(List.range s.Nn).find? λi=>decide (Bu ks i=Bu ks j) with
  |none=>
   have:=List.find?_eq_none.1 hf j (List.mem_range.2 hj)
   simp at this
  |some i=>
   have:=List.find?_some hf
   rw [IH i j (of_decide_eq_true this)]
 have mI: ∀j,j<s.Nn->Bu ks j∈dead:= λj hj=>List.mem_append_left _ (List.mem_append_right _ (mem_keys.2 ⟨j,by omega,rfl⟩))
 have s8: ∀l,(¬ ∃j,j<s.Nn/\l=Bu ks j)->π' l=if l∈dead then none else π l:= λl hl=>by
  show (match (List.range s.Nn).find? λi=>decide (Bu ks i=l) with|some i=>ρ (Fp i)|none=>_)=_
  cases hf:(List.range s.Nn).find? λi=>decide (Bu ks i=l) with
  |none=>rfl
  |some i=>
   have h1:=List.find?_some hf
   exact absurd ⟨i,List.mem_range.1 (List.mem_of_find?_eq_some hf),(of_decide_eq_true h1).symm⟩ hl
 have IV: ∀l,l∉dead->π' l=π l:= λl hl=>by
  rw [s8 l (λ⟨j,h1,h2⟩=>hl (h2▸mI j h1)),if_neg hl]
 have YS: ∀b,Oi π' b\/X.Sc b->D1 b:=by
  intro b hb
  show (if s.flat then λ_=>True else dO S πc uu) b
  split
  ·trivial
  rename_i hnf
  rcases hb with ⟨l,q,hl,hf⟩|hb
  ·by_cases hk: ∃j,j<s.Nn/\l=Bu ks j
   ·obtain ⟨j,hj,rfl⟩:=hk
    rw [oQ j hj,OR] at hl
    cases hp:uu (Fp j) with
    |none=>rw [hp] at hl;cases hl
    |some q0=>rw [hp] at hl;simp only [Option.map_some,Option.some.injEq] at hl;subst hl;exact .inr (.inr ⟨Fp j,q0,hp,hf⟩)
   ·have e0:π' l=if l∈dead then none else π l:=s8 l hk
    rw [e0] at hl
    split at hl
    ·cases hl
    ·rename_i OG
     by_cases ho:Oi πc b
     ·obtain ⟨c,q',hc,hcb⟩:=ho
      obtain ⟨t,t1,t2,t0,p,t3,t4,_⟩:=Ov c q' b hc hcb
      have s9:=h.1.apart hl t3 hf t4
      refine .inr (.inl ⟨c,q',Classical.byContradiction λhn=>?_,hc,hcb⟩)
      exact OG (List.mem_append_left _ (List.mem_append_left _ (Yo.2 ⟨t,MK▸t1,⟨by rw [t2];omega,t0⟩,s9.symm⟩)))
     ·refine .inl ⟨ho, .inl ⟨⟨l,q,hl,hf⟩,λl0 TZ r0 UL hf0=>?_⟩⟩
      have:=h.1.apart hl UL hf hf0
      subst this
      exact OG (List.mem_append_right _ (by rw [if_neg hnf];exact ng.2 (hV' l TZ)))
  ·refine .inl ⟨λho=>?_, .inr hb⟩
   have h1:=h.1.sc b hb
   rcases (h.1.own (yt b ho)).2 with h2|h2
   ·omega
   ·exact h1.2 h2
 have hpd: ∀l∈pl,l∉dead:= λl hl hd=>by
  rcases List.mem_append.1 hd with hd|hd
  ·rcases List.mem_append.1 hd with hd|hd
   ·obtain ⟨t,ht,_,e⟩:=Yo.1 hd
    exact (CW l hl).1 (List.mem_map.2 ⟨t,ht,e⟩)
   ·exact (CW l hl).2 hd
  ·split at hd
   ·cases hd
   ·obtain ⟨t,ht,_,e⟩:=ng.1 hd
    exact (CW l hl).1 (List.mem_map.2 ⟨t,ht,e⟩)
 have TW: ∀j,j<s.Nn->Bu ks j∉pl:= λj hj hp=>hpd _ hp (mI j hj)
 let bv:Option OB:=s.rp.map λtid=> .var tid ((Ve (Bu ks) 0 s.outs r).drop s.Td)
 let H1:=(lk s.ins (Ve (Bu ks) 0 s.outs r) pl (st1.Vz dead part)).heap
 have XE: ∀l,l∉pl->Ae H1 l=if l∈dead then none else (Ae st1.heap l).map (OB.map (Aw dead part)):= λl hl=>by
  show Ae (lk _ _ _ _).heap l=_
  rw [zm hl]
  show Ae (Qf (st1.heap.map λp=>(p.1,p.2.map (Aw dead part))) dead) l=_
  rw [Ii,Jg]
 let H2:=vN H1 (Mq d) bv
 have hvd: ∀tid,s.rp=some tid->Mq d∈dead/\Mq d∉pl:= λtid Qo=>by
  obtain ⟨e1,e2⟩:=OP tid Qo
  rw [<-e1]
  exact ⟨mI _ (by omega),TW _ (by omega)⟩
 have YW: ∀l,(∀tid,s.rp=some tid->l≠Mq d)->Ae H2 l=Ae H1 l:= λl hl=>by
  show Ae (vN H1 (Mq d) (s.rp.map _)) l=_
  cases xD:s.rp with
  |none=>rfl
  |some tid=>exact Jp _ _ _ _ (hl tid xD)
 have Ae4: ∀tid,s.rp=some tid->Ae H2 (Mq d)=some (.var tid ((Ve (Bu ks) 0 s.outs r).drop s.Td)):= λtid Qo=>by
  show Ae (vN H1 (Mq d) (s.rp.map _)) (Mq d)=_
  rw [Qo]
  exact Km _ _ _ (by rw [XE _ (hvd tid Qo).2,if_pos (hvd tid Qo).1])
 have hkv: ∀j,j<s.outs.length-> ∀tid,s.rp=some tid->Bu ks j≠Mq d:= λj hj tid Qo e=>by
  have:=IH j s.outs.length (e.trans (OP tid Qo).1.symm)
  omega
 have hH2: ∀l,l∉pl->(∀tid,s.rp=some tid->l≠Mq d)->Ae H2 l=if l∈dead then none else (Ae st1.heap l).map (OB.map (Aw dead part)):= λl hl hv=>by
  rw [YW l hv,XE l hl]
 let H':=Qu (AL st (gB tks)) (Bu ks) 0 s.outs r H2
 obtain ⟨n1,n2,n3⟩:=kL (D:=D1) (X:=X) (key:=Bu ks) IH (fr:=AL st (gB tks)) (ρ:=ρ) s.outs 0 r Sq H2 Aa4 (λj _ hj=>by
  rw [hH2 _ (TW j (by omega)) (hkv j (by omega)),if_pos (mI j (by omega))])
 have je: ∀l,l∉dead->l∉pl->Ae H' l=(Ae st1.heap l).map (OB.map (Aw dead part)):= λl hl oS=>by
  show Ae (Qu _ _ _ _ _ _) l=_
  rw [n1 l λj _ hj e=>hl (e▸mI j (by omega)),hH2 l oS (λtid Qo e=>hl (e▸(hvd tid Qo).1)),if_neg hl]
 have NR: ∀l,l∈dead->(∀j,j<s.Nn->l≠Bu ks j)->Ae H' l=none:= λl hl hj=>by
  show Ae (Qu _ _ _ _ _ _) l=_
  rw [n1 l λj _ h2=>hj j (by omega),hH2 l (λhp=>hpd l hp hl) (λtid Qo e=>hj s.outs.length (by have:=(OP tid Qo).2;omega) (e.trans (OP tid Qo).1.symm)),if_pos hl]
 have newAt: ∀l b',Ae H' l=some b'->(l∈dead\/Ae st.heap l=none)-> ∃j,j<s.Nn/\l=Bu ks j:=by
  intro l b' hb hd
  refine Classical.byContradiction λhn=>?_
  have iQ: ∀j,j<s.Nn->l≠Bu ks j:= λj hj e=>hn ⟨j,hj,e⟩
  rcases Classical.em (l∈dead) with ZI|ZI
  ·rw [NR l ZI iQ] at hb;cases hb
  ·rcases hd with hd|hd
   ·exact ZI hd
   ·rw [je l ZI (λhp=>by obtain ⟨_,_,_,_,_,_,_,h1,_⟩:=CX l hp;rw [hd] at h1;cases h1)] at hb
    have:Ae st1.heap l=none:=by
     by_cases hi: ∃t∈Gx 0 s.ins as,t.2.Px=l
     ·obtain ⟨t,ht,e⟩:=hi
      by_cases Ho:t.1<Aj
      ·rw [<-e,q3 t ht Ho,e];exact hd
      ·obtain ⟨b0,_,h1,_⟩:=q4 t ht Ho
       rw [e,hd] at h1;cases h1
     ·rw [q2 l λt ht e=>hi ⟨t,ht,e.symm⟩];exact hd
    rw [this] at hb;cases hb
 have TO: ∀k,AL st (gB tks)=true-> ∀q,ρ (Fp k)=some q->q.Ay q.g->X.w0.heap.size<=q.g:=by
  intro k vG q hq hg
  rcases (IJ.Nh _ q _ hq hg).2 with h1|⟨c,p,h1,h2,h3⟩
  ·exact Nat.le_trans h.1.below.size h1
  ·obtain ⟨t,t1,t2,t0,p',t3,t4,_⟩:=Ov c p _ h2 h3
   have hm:t.2.Px∈gB tks:=Yo.2 ⟨t,MK▸t1,⟨by rw [t2];exact h1,t0⟩,rfl⟩
   have:=List.all_eq_true.1 vG _ hm
   split at this
   ·rename_i fr tr e te xs hl
    unfold St.at at hl
    have hb:=(h.1.heap t.2.Px).Ma hl
    simp only [Au,Fl,t3] at hb
    rw [hb.1.2.1 _ t4]
    exact hb.1.2.2 this
   ·cases this
 have TM: ∀k q,ρ (Fp k)=some q->k<s.outs.length->q.Ay q.g:=by
  intro k q hq hk
  exact Ex.QQ s.outs 0 r Sq mN k (Nat.zero_le _) ((Nat.zero_add _).symm▸hk) q hq
 have hinv: ∀l,l∉dead->(∃t∈Gx 0 s.ins as,t.2.reads=false/\t.2.Px=l)->gl X D1 w' π st.heap st1.heap l:=by
  rintro l hd ⟨t,ht,h0,rfl⟩
  by_cases Ho:t.1<Aj
  ·exact absurd (List.mem_append_left _ (List.mem_append_left _ (Yo.2 ⟨t,MK▸ht,⟨Ho,h0⟩,rfl⟩))) hd
  ·exact q4 t ht Ho
 have sd: ∀l,(¬ ∃t∈Gx 0 s.ins as,t.2.reads=false/\t.2.Px=l)->Ae st1.heap l=Ae st.heap l:= λl hn=>by
  by_cases hi: ∃t∈Gx 0 s.ins as,t.2.Px=l
  ·obtain ⟨t,ht,rfl⟩:=hi
   have hr:t.2.reads=true:=by
    cases h0:t.2.reads with
    |true=>rfl
    |false=>exact absurd ⟨t,ht,h0,rfl⟩ hn
   exact q3 t ht (UN t ht hr)
  ·exact q2 l λt ht e=>hi ⟨t,ht,e.symm⟩
 have QX: ∀l∈pl,∀p,s.ptr=some p->Ae H' l=some (.var p.1 (aZ s.ins (cells.map (Aw dead part)) (Ve (Bu ks) 0 s.outs r))):= λl hl p hp=>by
  obtain ⟨p',q,h1,h2,_,_,_,h3,_⟩:=CX l hl
  rw [hp] at h1;cases h1
  show Ae (Qu _ _ _ _ _ _) l=_
  rw [n1 l λj _ hj e=>TW j (by omega) (e▸hl),YW l (λtid Qo e=>(hvd tid Qo).2 (e▸hl))]
  show Ae (lk _ _ _ _).heap l=_
  rw [h2]
  refine EU ?_
  show Ae (Qf (st1.heap.map λp=>(p.1,p.2.map (Aw dead part))) dead) l=_
  rw [Ii,Jg,if_neg (hpd l hl),sd l (λ⟨t,ht,_,e⟩=>OJ l hl t ht e),h3]
  rfl
 have RN: ∀j,j<s.Nn->s.outs.length<=j-> ∃tid,s.rp=some tid/\j=s.outs.length:= λj h1 h2=>by
  cases xD:s.rp with
  |none=>unfold MSpec.Nn at h1;rw [xD] at h1;simp at h1;omega
  |some tid=>exact ⟨tid,rfl,by have:=(OP tid xD).2;omega⟩
 have hHv: ∀tid,s.rp=some tid->Ae H' (Mq d)=some (.var tid ((Ve (Bu ks) 0 s.outs r).drop s.Td)):= λtid Qo=>by
  show Ae (Qu _ _ _ _ _ _) _=_
  rw [n1 _ λj _ hj e=>hkv j (by omega) tid Qo e.symm,Ae4 tid Qo]
 suffices ZW:Ai X π' (fc st st1 d s pl tks r) a w'/\Am X w' π' (fc st st1 d s pl tks r).heap av0 v by
  obtain ⟨m1,m2⟩:=ZW
  have ej: ∀(kj:List (Nat×Nat)) (l:Nat),l∈Va st.heap ks tks kj->gV st.heap l=true/\ ∃k j t,(k,j)∈kj/\t∈tks/\t=(Bq false k,Loc.row l)/\ks[j]?=some l:=by
   intro kj
   induction kj with
   |nil=>intro l hl;cases hl
   |cons p kj ih=>
    intro l hl
    obtain ⟨k,j⟩:=p
    have up:l∈Va st.heap ks tks kj->gV st.heap l=true/\ ∃k' j' t,(k',j')∈(k,j)::kj/\t∈tks/\t=(Bq false k',Loc.row l)/\ks[j']?=some l:= λhl=>by
     obtain ⟨h1,k',j',t,h2,h3⟩:=ih l hl
     exact ⟨h1,k',j',t,List.mem_cons_of_mem _ h2,h3⟩
    simp only [Va] at hl
    split at hl
    ·rename_i x0 l1 l2 h1 h2
     split at hl
     ·rename_i hc
      simp only [Bool.and_eq_true] at hc
      rcases List.mem_cons.1 hl with rfl|hl
      ·have:=List.find?_some h1
       have e1:=Nat.eq_of_beq_eq_true this
       have e2:=Nat.eq_of_beq_eq_true hc.1
       dsimp only at e1
       exact ⟨hc.2,k,j,_,List.mem_cons_self,List.mem_of_find?_eq_some h1,by rw [e1],by rw [h2,e2]⟩
      ·exact up hl
     ·exact up hl
    ·exact up hl
  obtain ⟨r1,r2⟩:=yD h m1 (ls:=Va st.heap ks tks s.keeps) (n:=s.Cr x) (λl hl=>by
   obtain ⟨_,k,j,t,h1,h2,h3,h4⟩:=ej s.keeps l hl
   have hj:j<ks.length:=(List.getElem?_eq_some_iff.1 h4).1
   have mJ:Bu ks j=l:=by
    rw [Le hj]
    rw [List.getElem?_eq_getElem hj] at h4
    exact Option.some.inj h4
   have oR:=qj (k,j) h1
   rw [show π' l=ρ (Fp j) by rw [<-mJ];exact oQ j (by omega),OR]
   have hc:πc (Bq false k)=(π l).map full:=ZB k l (by rw [<-h3,<-MK];exact h2)
   dsimp only at oR
   rw [hc] at oR
   cases hp:π l<;>cases hq:uu (Fp j)<;>(rw [hp,hq] at oR;exact oR)) (λl hl=>(ej s.keeps l hl).1) Nj
  exact ⟨π',r1,r2 av0 v m2⟩
 refine ⟨?_,?_⟩
 ·have hx:=Ai.SZ (π':=π') (H':=H') (dead:=dead) (part:=part) (inv:= λl=>(∃t∈Gx 0 s.ins as,t.2.reads=false/\t.2.Px=l)\/l∈pl) (gv:= λb=>Oi πc b\/s.gv g b) h (λb hb=>by
    rcases hb with hb|hb
    ·obtain ⟨t,h1,h0,q,h2,h3,_⟩:=Yf b hb
     exact ⟨_,q, .inl ⟨t,h1,h0,rfl⟩,h2,h3⟩
    ·obtain ⟨l,hl,q,h1,h2,_⟩:=CS b hb
     exact ⟨l,q, .inr hl,h1,h2⟩) NU (λl b0 hd h0=>⟨IV l hd,?_⟩) (λl b' hb hd=>?_) (λl hl=>?_) (λm q hd hp hm hxa=>?_)
  ·have:({tmps:=(lk s.ins (Ve (Bu ks) 0 s.outs r) pl (st1.Vz dead part)).tmps,heap:=H'} :St)= {tmps:=st.tmps.map (·.map (Aw dead part)),heap:=H'} :=by
    rw [jL]
    show ({tmps:=st1.tmps.map (·.map (Aw dead part)),heap:=H'} :St)=_
    rw [q1]
   show Ai X π' ({tmps:=(lk s.ins (Ve (Bu ks) 0 s.outs r) pl (st1.Vz dead part)).tmps,heap:=H'} :St) a w'
   rw [this]
   exact hx
  ·by_cases OC:l∈pl
   ·obtain ⟨p,q,h1,h2,h3,h4,h5,h6,h7⟩:=CX l OC
    rw [h0] at h6;cases h6
    have oC:=QX l OC p h1
    refine .inr ⟨_,oC,⟨rfl,by rw [jD]⟩,λm=>?_⟩
    unfold eY at qe
    rw [h1] at qe
    obtain ⟨cs,k1,k2,k3⟩:=qe
    rw [<-h7] at k3
    refine ⟨q,h3,h4,cs.toArray,by rw [<-h5];exact k1,?_⟩
    refine Hy.to (dE (H:=st.heap) IV (λl1 b1 sz n hd1 HZ OM=>?_) s.ins 0 cells iO x us o st st1 (Ve (Bu ks) 0 s.outs r) Sq cs (has▸hT) ZT (has▸UK) k3 (n3 π' YS (λj _ hj=>oQ j (by omega)))) (by simpa using k2)
    have hnp:l1∉pl:= λhp=>by
     obtain ⟨_,_,_,_,_,_,_,h8,_⟩:=CX l1 hp
     rw [HZ] at h8;cases h8;cases OM
    by_cases hi: ∃t∈Gx 0 s.ins as,t.2.reads=false/\t.2.Px=l1
    ·obtain ⟨b1,b',e1,e2,e3,e4,e5,e6⟩:=hinv l1 hd1 hi
     rw [HZ] at e1;cases e1
     exact ⟨b',by rw [je l1 hd1 hnp,e2];simp [e4],by rw [e5.row];exact OM⟩
    ·exact ⟨_,by rw [je l1 hd1 hnp,sd l1 hi,HZ];rfl,by rw [OB.tb];exact OM⟩
   by_cases hi: ∃t∈Gx 0 s.ins as,t.2.reads=false/\t.2.Px=l
   ·obtain ⟨b1,b',e1,e2,e3,e4,e5,e6⟩:=hinv l hd hi
    rw [h0] at e1;cases e1
    exact .inr ⟨b',by rw [je l hd OC,e2];simp [e4],by rw [e3];exact e5,λ_=>e6 π' H' YS⟩
   ·exact .inl ⟨λhh=>hh.elim hi OC,by rw [je l hd OC,sd l hi,h0];rfl⟩
  ·obtain ⟨j,hj,rfl⟩:=newAt l b' hb hd
   refine ⟨Afe j hj,?_,λq b hq=>?_⟩
   ·rw [oQ j hj]
    rcases Nat.lt_or_ge j s.outs.length with XL|XL
    ·rcases n2 j (Nat.zero_le _) (by omega) with ⟨e1,_⟩|⟨b2,e1,e2⟩
     ·rw [show Ae H' (Bu ks j)=none from e1] at hb;cases hb
     ·rw [show Ae H' (Bu ks j)=some b2 from e1] at hb;cases hb
      exact e2 X π' H' (λhf q hq=>TO j hf q hq (TM j q hq XL)) YS
    ·obtain ⟨tid,Qo,hj0⟩:=RN j hj XL
     subst hj0
     rw [(OP tid Qo).1,hHv tid Qo] at hb;cases hb
     unfold lW at Zx
     rw [Qo] at Zx
     obtain ⟨q,y1,y2,y3,y4,_⟩:=Zx
     rw [OR,y1]
     exact ⟨full q,rfl,y2,_,y3,Hy.to (Hy.take s.Td (n3 π' YS (λj _ hj=>oQ j (by omega)))).2 (by simpa using y4)⟩
   ·rw [oQ j hj] at hq
    have Oq:=RE _ q hq
    refine ⟨λhf=>by rw [Oq];exact hf,λhf=>?_⟩
    rw [Oq] at hf
    obtain ⟨h1,h2⟩:=IJ.Nh _ q b hq hf
    refine ⟨h1,h2.imp id ?_,λl2 r2 ZJ CU TK=>?_⟩
    ·rintro ⟨c,p,h3,h4,h5⟩
     obtain ⟨t,t1,t2,t0,p',t3,t4,_⟩:=Ov c p b h4 h5
     exact ⟨t.2.Px,p',List.mem_append_left _ (List.mem_append_left _ (Yo.2 ⟨t,MK▸t1,⟨by rw [t2];exact h3,t0⟩,rfl⟩)),t3,t4⟩
    ·by_cases hk: ∃j,j<s.Nn/\l2=Bu ks j
     ·obtain ⟨j2,hj2,rfl⟩:=hk
      rw [oQ j2 hj2] at CU
      rw [RE _ r2 CU] at TK
      have:=IJ.inj _ _ r2 q b CU hq TK hf
      unfold Fp at this
      have:j2=j:=by omega
      rw [this]
     ·have e0:π' l2=if l2∈dead then none else π l2:=s8 l2 hk
      rw [e0] at CU
      split at CU
      ·cases CU
      ·rename_i OG
       rcases ZJ with ZJ|ZJ
       ·exact absurd ZJ OG
       ·rw [(h.1.heap l2).emp ZJ] at CU;cases CU
  ·by_cases hk: ∃j,j<s.Nn/\l=Bu ks j
   ·obtain ⟨j,hj,rfl⟩:=hk
    rw [oQ j hj]
    rcases Nat.lt_or_ge j s.outs.length with XL|XL
    ·rcases n2 j (Nat.zero_le _) (by omega) with ⟨_,e1⟩|⟨b2,e1,_⟩
     ·exact e1
     ·rw [show Ae H' (Bu ks j)=some b2 from e1] at hl;cases hl
    ·obtain ⟨tid,Qo,hj0⟩:=RN j hj XL
     subst hj0
     rw [(OP tid Qo).1,hHv tid Qo] at hl;cases hl
   ·have e0:π' l=if l∈dead then none else π l:=s8 l hk
    rw [e0]
    split
    ·rfl
    ·rename_i hd
     by_cases OC:l∈pl
     ·obtain ⟨p,_,h1,_⟩:=CX l OC
      rw [QX l OC p h1] at hl;cases hl
     rw [je l hd OC] at hl
     by_cases hi: ∃t∈Gx 0 s.ins as,t.2.reads=false/\t.2.Px=l
     ·obtain ⟨_,b',_,e2,_⟩:=hinv l hd hi
      rw [e2] at hl;cases hl
     ·rw [sd l hi] at hl
      cases h0:Ae st.heap l with
      |none=>exact (h.1.heap l).emp h0
      |some b=>rw [h0] at hl;cases hl
  ·refine NU.block _ (h.1.lt hm).1 λyr=>?_
   rcases yr with ho|hg
   rotate_left
   ·obtain ⟨l,hl,q',h1,h2,_⟩:=CS _ hg
    have s9:=h.1.apart hm h1 (h.1.Ay hm) h2
    obtain ⟨_,_,_,_,_,_,_,h3,_⟩:=CX l hl
    obtain ⟨b,hxa,hxb⟩:=hxa
    rw [s9,h3] at hxa;cases hxa
    exact hxb rfl
   obtain ⟨t,t1,t0,p,t3,t4,t5⟩:=Yf _ ho
   have s9:=h.1.apart hm t3 (h.1.Ay hm) t4
   have XU:p=q:=by rw [<-s9,hm] at t3;exact (Option.some.inj t3).symm
   cases RY:t.2 with
   |row l=>
    refine hp ?_
    show m∈whole tks
    unfold whole
    exact List.mem_flatMap.2 ⟨t,MK▸t1,by rw [RY,s9,RY];simp [Loc.Px]⟩
   |sub l i j=>exact t5 l i j RY (by rw [XU])
   |view l=>rw [RY] at t0;cases t0
 ·have Ag1:=n3 π' YS (λj _ hj=>oQ j (by omega))
  cases xD:s.rp with
  |some tid=>
   unfold lW at Zx
   rw [xD] at Zx
   obtain ⟨q,y1,y2,y3,y4,rfl⟩:=Zx
   unfold PJ at cb
   rw [xD] at cb
   simp only [Option.some.injEq] at cb;subst cb
   refine ⟨full q,tid,_,hHv tid xD,?_,rfl⟩
   rw [<-(OP tid xD).1,oQ _ (by have:=(OP tid xD).2;omega),OR,y1]
   rfl
  |none=>
  unfold lW at Zx
  rw [xD] at Zx
  obtain ⟨Zx,Ag7⟩:=Zx
  unfold PJ at cb
  rw [xD] at cb
  simp only at cb
  obtain ⟨g1,g2,g3,g4⟩:=Yc s.Gd _ (Sq.drop s.Td) Ag7 (Hy.take s.Td Ag1).2
  unfold Abl at cb
  unfold KQ at Zx
  split at cb
  ·rename_i hm
   rw [if_pos hm] at Zx
   simp only [Option.some.injEq] at cb;subst cb
   subst Zx
   exact ⟨_,rfl,g3.symm,g4⟩
  ·rename_i hm
   rw [if_neg hm] at Zx
   split at cb
   ·rename_i av1 hga
    simp only [Option.some.injEq] at cb;subst cb
    rcases Zx with Zx|Zx
    ·exact g2 0 _ v (by rw [hga];rfl) (by rw [Zx];rfl)
    ·rw [hga,Zx] at g1;cases g1
   ·simp only [Option.some.injEq] at cb;subst cb;trivial
   ·cases cb
end
end Go.Proofs.Ytjbdmibbbpdnnaa
