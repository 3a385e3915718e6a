/-
  Part 17 of the proof that the statement FnExactExactStateCount holds.
-/
import Derived.Test.YtjbdmibbbpdnnaaCExactStateCount15
namespace Go.Proofs.Ytjbdmibbbpdnnaa
open Go.RowKit
section
variable {P:Program} {T:Tab} {X:Ctx} {w w':World} {π π':Pi} {H H':List (Nat×OB)}
theorem Tt (k:Nat): ¬Bu true k<Aj:=by unfold Bu Aj;simp
theorem a5 {k:Nat} (h:k<100000):Bu false k<Aj:=by unfold Bu Aj;simp;omega
def fG (X:Ctx) (D:Nat->Prop) (w':World) (π:Pi) (H Hn:List (Nat×OB)) (l:Nat):Prop:=
 ∃b0 b',Ad H l=some b0/\Ad Hn l=some b'/\(∀f,OB.map f b0=b0)/\(∀f,OB.map f b'=b')/\b0.Zn b'/\ ∀π' H',(∀b,Oi π' b\/X.Sc b->D b)->At X w' π' H' (π l) b'
theorem KC {io:Bool} {k:Nat} {τ:Ty} {a:AC} {t:Nat×Loc} (h:t∈Kh io k (.Fm τ) a):t.1=Bu false k:=by
 cases a<;>simp [Kh,views] at h<;>first|(obtain ⟨_,⟨_,_⟩,rfl⟩:=h;rfl)|(rw [h])
theorem EN {io:Bool} {k:Nat} {e:Ty} {te:TypeId} {a:AC} {t:Nat×Loc} (h:t∈Kh io k (.part e te) a):t.1=Bu io k:=by cases a<;>simp [Kh] at h<;>rw [h]
theorem KD {io:Bool} {k:Nat} {e:Ty} {te:TypeId} {a:AC} {t:Nat×Loc} (h:t∈Kh io k (.row e te) a):t.1=Bu io k:=by cases a<;>simp [Kh] at h<;>rw [h]
theorem EO {io:Bool} {k:Nat} {e:Ty} {te:TypeId} {a:AC} {t:Nat×Loc} (h:t∈Kh io k (.Ds e te) a):t.1=Bu io k:=by cases a<;>simp [Kh] at h<;>rw [h]
theorem Za {D:Nat->Prop} {π':Pi} {fr:Bool} {e:Ty} {es:List Value} {y:e.den} (hD: ∀b,Oi π' b\/X.Sc b->D b) (h:Cells w' D e es y):Cells w' (Be X.w0.heap.size X.Sc π' (fr&&e.flat)) e es y:=by
 cases hf:e.flat with
 |true=>exact Cells.flat e es y hf h
 |false=>exact Cells.Cs (Nat.le_refl _) (λ_ _ _=>rfl) (λb _ hb=>by
   rcases hb with hb|hb|⟨hb,_⟩
   ·exact hD b (.inl hb)
   ·exact hD b (.inr hb)
   ·simp at hb) e es y h
theorem ER {D P:Nat->Prop} {g o:Nat} {cur:Array Value} {tr:Bool} {e:Ty} {xs:List e.den}
  (h: ∀(i:Nat) (x:e.den),xs[i]?=some x-> ∃es:List Value,es.length=e.size/\(∀j u,es[j]?=some u->cur[(o+i)*e.size+j]?=some u)/\Cells w' D e es x) (ht:(tr&&e.flat)=true):Pv w' P g o cur e xs:=by
 simp only [Bool.and_eq_true] at ht
 exact ga ht.2 h
theorem DP {D:Nat->Prop} (h:Hr X w π H) {k:Nat} {c:CK} {ys:c.den} {a:AC} {u:Value} {r:Option Real} {x:c.den} {cur st1:St} (hs:w.heap.size<=w'.heap.size)
  (hU: ∀l i j q b,a= .sub l i j->π l=some q->q.Ay b->b<w.heap.size->(∀r',r=some r'-> ¬r'.Ay b)->w'.heap[b]?=w.heap[b]?)
  {V:List Nat} (ht:Yr w (Ja X π V) r u c x/\Mq w π H true a u r c x) (hr:ar w' D r c ys) (he:Vl cur c ys a=some st1) (aV: ∀t∈Kh true k c a,Ad cur.heap t.2.Pq=Ad H t.2.Pq):
  st1.tmps=cur.tmps/\(∀m,(∀t∈Kh true k c a,m≠t.2.Pq)->Ad st1.heap m=Ad cur.heap m)/\ ∀t∈Kh true k c a,fG X D w' π H st1.heap t.2.Pq:=by
 obtain ⟨hc,ht⟩:=ht
 cases c with
 |Fm τ=>cases a<;>simp [Vl] at he;subst he;exact ⟨rfl,λ_ _=>rfl,λt ht=>by simp [Kh] at ht⟩
 |row e te=>
  simp only [Mq] at ht
  cases a<;>simp only [] at ht<;>first|(exact ht.elim)|skip
  ·simp only [Vl,Option.some.injEq] at he;subst he
   exact ⟨rfl,λ_ _=>rfl,λt ht=>by simp [Kh] at ht⟩
  ·rename_i l off len
   obtain ⟨rfl,rfl,rfl,fr,tr,hl⟩:=ht
   have Lt:Ad cur.heap l=some (.arr fr tr e te x):=(aV _ (List.mem_singleton.2 rfl)).trans hl
   simp only [Vl,St.at,Lt] at he
   split at he
   ·rename_i Fg
    obtain ⟨_,h1,_⟩:=Fg
    simp only [Option.some.injEq] at he;subst he
    refine ⟨rfl,λm hm=>Cg _ _ _ _ (hm _ (List.mem_singleton.2 rfl)),λt Oj=>?_⟩
    have Oj:=List.mem_singleton.1 Oj
    subst Oj
    refine ⟨_,_,hl,Cq _ _ _ _ Lt,λ_=>rfl,λ_=>rfl,⟨rfl,h1.symm⟩,λπ' H' hD=>?_⟩
    have hb:=(h.heap l).Ma hl
    change At X w' π' H' (π l) _
    simp only [At,Fo] at hb⊢
    cases hp:π l with
    |none=>rw [hp] at hr;exact hr
    |some q=>
     rw [hp] at hr hb
     obtain ⟨k1,cu,ti,k2,k3,k4,k5,k6⟩:=hr
     exact ⟨⟨k1.1,k1.2,λhh=>hb.1.2.2 (by simp only [Bool.and_eq_true] at hh;exact hh.1)⟩,cu,ti,k2,k3,k4,k5,λi y hy=>by
      obtain ⟨es,g1,g2,g3⟩:=k6 i y hy
      exact ⟨es,g1,g2,Za hD g3⟩,λht=>ER k6 ht⟩
   ·cases he
  ·rename_i l i j
   obtain ⟨⟨_,hf⟩,tid,xs,hl,hx,q,hq,Ot,hre⟩:=ht
   have Lt:Ad cur.heap l=some (.Dc (.slice e) tid xs):=(aV _ (List.mem_singleton.2 rfl)).trans hl
   simp only [Vl,St.at,Lt,hx] at he
   rw [dif_pos trivial] at he
   ·split at he
    ·rename_i h1
     simp only [Option.some.injEq] at he;subst he
     refine ⟨rfl,λm hm=>Cg _ _ _ _ (hm _ (List.mem_singleton.2 rfl)),λt Oj=>?_⟩
     have Oj:=List.mem_singleton.1 Oj
     subst Oj
     refine ⟨_,_,hl,Cq _ _ _ _ Lt,λ_=>rfl,λ_=>rfl,⟨rfl,by simp⟩,λπ' H' _=>?_⟩
     show Ij w' (π l) (.slice e) tid _
     rw [hq]
     refine hre w' ys hs (λb Gu hb hn=>hU l i j q b rfl hq hb Gu hn) ?_
     have hv:=hc.1
     rw [<-show List.length ys=List.length x from h1] at hv
     exact Mc.zm hr hf hv
    ·cases he
 |Ds e te=>
  simp only [Mq] at ht
  cases a<;>simp only [] at ht<;>first|(exact ht.elim)|skip
  ·simp only [Vl,Option.some.injEq] at he;subst he
   exact ⟨rfl,λ_ _=>rfl,λt ht=>by simp [Kh] at ht⟩
  ·rename_i l off len
   obtain ⟨rfl,rfl,rfl,hl⟩:=ht
   have Lt:Ad cur.heap l=some (.Dc e te x):=(aV _ (List.mem_singleton.2 rfl)).trans hl
   simp only [Vl,St.at,Lt] at he
   split at he
   ·rename_i Fg
    obtain ⟨_,h1,_⟩:=Fg
    simp only [Option.some.injEq] at he;subst he
    refine ⟨rfl,λm hm=>Cg _ _ _ _ (hm _ (List.mem_singleton.2 rfl)),λt Oj=>?_⟩
    have Oj:=List.mem_singleton.1 Oj
    subst Oj
    refine ⟨_,_,hl,Cq _ _ _ _ Lt,λ_=>rfl,λ_=>rfl,⟨rfl,h1.symm⟩,λπ' H' _=>?_⟩
    show Ij w' (π l) e te _
    cases hp:π l with
    |none=>rw [hp] at hr;exact hr
    |some q=>rw [hp] at hr;exact hr
   ·cases he
  ·rename_i l i j
   obtain ⟨_,tid,xs,hl,hx,q,hq,Ot,hre⟩:=ht
   have Lt:Ad cur.heap l=some (.Dc (.slice e) tid xs):=(aV _ (List.mem_singleton.2 rfl)).trans hl
   simp only [Vl,St.at,Lt,hx] at he
   rw [dif_pos trivial] at he
   ·split at he
    ·rename_i h1
     simp only [Option.some.injEq] at he;subst he
     refine ⟨rfl,λm hm=>Cg _ _ _ _ (hm _ (List.mem_singleton.2 rfl)),λt Oj=>?_⟩
     have Oj:=List.mem_singleton.1 Oj
     subst Oj
     refine ⟨_,_,hl,Cq _ _ _ _ Lt,λ_=>rfl,λ_=>rfl,⟨rfl,by simp⟩,λπ' H' _=>?_⟩
     show Ij w' (π l) (.slice e) tid _
     rw [hq]
     refine hre w' ys hs (λb Gu hb hn=>hU l i j q b rfl hq hb Gu hn) ?_
     have hv:=hc.1
     rw [<-show List.length ys=List.length x from h1] at hv
     exact Ij.zm (te:=te) hr hv
    ·cases he
 |part e te=>cases a<;>simp [Vl] at he<;>first|(simp only [Mq] at ht;exact ht.2.elim)
 |Ak e te kp=>exact absurd ht.1 (by simp)
theorem DQ {D:Nat->Prop} (h:Hr X w π H) {k:Nat} {e:Ty} {te:TypeId} {ys:List e.den} {a:AC} {u:Value} {r:Option Real} {x:(CK.part e te).den} {cur st1:St}
  {V:List Nat} (ht:Yr w (Ja X π V) r u (.part e te) x/\Mq w π H true a u r (.part e te) x) (hr:ar w' D r (.row e te) ys) (he:yO cur e ys a=some st1) (aV: ∀t∈Kh true k (.part e te) a,Ad cur.heap t.2.Pq=Ad H t.2.Pq):
  st1.tmps=cur.tmps/\(∀m,(∀t∈Kh true k (.part e te) a,m≠t.2.Pq)->Ad st1.heap m=Ad cur.heap m)/\ ∀t∈Kh true k (.part e te) a,fG X D w' π H st1.heap t.2.Pq:=by
 obtain ⟨hc,hf,ht⟩:=ht
 cases a<;>simp only [] at ht<;>first|(exact ht.elim)|skip
 rename_i l off len
 obtain ⟨rfl,_,fr,tr,hl⟩:=ht
 have Lt:Ad cur.heap l=some (.arr fr tr e te x.1):=(aV _ (List.mem_singleton.2 rfl)).trans hl
 simp only [yO,St.at,Lt] at he
 split at he
 ·rename_i Fg
  obtain ⟨_,h1⟩:=Fg
  simp only [Option.some.injEq] at he;subst he
  refine ⟨rfl,λm hm=>Cg _ _ _ _ (hm _ (List.mem_singleton.2 rfl)),λt Oj=>?_⟩
  have Oj:=List.mem_singleton.1 Oj
  subst Oj
  refine ⟨_,_,hl,Cq _ _ _ _ Lt,λ_=>rfl,λ_=>rfl,⟨rfl,h1.symm⟩,λπ' H' _=>?_⟩
  have hb:=(h.heap l).Ma hl
  change At X w' π' H' (π l) _
  simp only [At,Fo] at hb⊢
  cases hp:π l with
  |none=>rw [hp] at hr;exact hr
  |some q=>
   rw [hp] at hr hb
   obtain ⟨k1,cu,ti,k2,k3,k4,k5,k6⟩:=hr
   exact ⟨⟨k1.1,k1.2,hb.1.2.2⟩,cu,ti,k2,k3,k4,k5,λi y hy=>by
    obtain ⟨es,g1,g2,g3⟩:=k6 i y hy
    exact ⟨es,g1,g2,Cells.flat e es y hf g3⟩,λ_=>ga hf k6⟩
 ·cases he
def l8 (X:Ctx) (D:Nat->Prop) (w':World) (π:Pi) (H:List (Nat×OB)) (tk:List (Nat×Loc)) (cur st1:St):Prop:=
 st1.tmps=cur.tmps/\(∀m,(∀t∈tk,m≠t.2.Pq)->Ad st1.heap m=Ad cur.heap m)/\(∀t∈tk,t.1<Aj->Ad st1.heap t.2.Pq=Ad cur.heap t.2.Pq)/\(∀t∈tk,¬t.1<Aj->fG X D w' π H st1.heap t.2.Pq)
theorem ng {D:Nat->Prop} (h:Hr X w π H) {V:List Nat} {πc:Pi} {tks:List (Nat×Loc)} (hs:w.heap.size<=w'.heap.size)
  (hU: ∀t∈tks,∀q b,π t.2.Pq=some q->q.Ay b->b<w.heap.size->(∀r',πc t.1=some r'-> ¬r'.Ay b)->w'.heap[b]?=w.heap[b]?):
  ∀(cs:List (Bool×CK)) (k:Nat) (x:Ins.den cs) (as:List AC) (us:List Value) (o:IOs.den cs) (cur st1:St),k+cs.length<100000->(∀t∈Gs k cs as,t∈tks)->((Gs k cs as).map λt=>t.2.Pq).Nodup->
   ky X w π V H πc k cs x as us->Ha w' D πc k cs o->Ed cs o as cur=some st1->(∀t∈Gs k cs as,Ad cur.heap t.2.Pq=Ad H t.2.Pq)->
   l8 X D w' π H (Gs k cs as) cur st1
 | [],k,x,as,us,o,cur,st1,_,_,_,_,_,he,_=>by
  simp only [Ed,Option.some.injEq] at he;subst he
  have e0:Gs k [] as= []:=by cases as<;>rfl
  exact ⟨rfl,λ_ _=>rfl,by rw [e0];simp,by rw [e0];simp⟩
 |p::r,k,x,[],us,o,cur,st1,_,_,_,ht,_,_,_=>ht.elim
 |p::r,k,x,a::as,[],o,cur,st1,_,_,_,ht,_,_,_=>ht.elim
 |(io,c)::r,k,x,a::as,u::us,o,cur,st1,hk,Qh,FO,ht,ho,he,aV=>by
  simp only [List.length_cons] at hk
  simp only [Gs] at Qh FO aV⊢
  rw [List.map_append] at FO
  obtain ⟨n1,n2,n3⟩:=List.nodup_append.1 FO
  have apart: ∀t∈Kh io k c a,∀t'∈Gs (k+1) r as,t'.2.Pq≠t.2.Pq:= λt h1 t' h2 e=>n3 _ (List.mem_map.2 ⟨t,h1,rfl⟩) _ (List.mem_map.2 ⟨t',h2,rfl⟩) e.symm
  have rest: ∀(Td:St) (o':IOs.den r),Ha w' D πc (k+1) r o'->Ed r o' as Td=some st1->Td.tmps=cur.tmps->(∀m,(∀t∈Kh io k c a,m≠t.2.Pq)->Ad Td.heap m=Ad cur.heap m)->
    (∀t∈Kh io k c a,t.1<Aj->Ad Td.heap t.2.Pq=Ad cur.heap t.2.Pq)->(∀t∈Kh io k c a,¬t.1<Aj->fG X D w' π H Td.heap t.2.Pq)->
    l8 X D w' π H (Kh io k c a++Gs (k+1) r as) cur st1:=by
   intro Td o' h1 h2 h3 h4 h5 h6
   obtain ⟨g1,g2,g3,g4⟩:=ng h hs hU r (k+1) x.2 as us o' Td st1 (by omega) (λt ht=>Qh t (List.mem_append_right _ ht)) n2 ht.2 h1 h2 (λt Oj=>by
    rw [h4 _ λt0 XU=>apart t0 XU t Oj];exact aV t (List.mem_append_right _ Oj))
   have hd: ∀t∈Kh io k c a,Ad st1.heap t.2.Pq=Ad Td.heap t.2.Pq:= λt Oj=>g2 _ λt' CD=>(apart t Oj t' CD).symm
   refine ⟨g1.trans h3,λm hm=>?_,λt Oj Gu=>?_,λt Oj Gu=>?_⟩
   ·rw [g2 m λt ht=>hm t (List.mem_append_right _ ht),h4 m λt ht=>hm t (List.mem_append_left _ ht)]
   ·rcases List.mem_append.1 Oj with Oj|Oj
    ·rw [hd t Oj,h5 t Oj Gu]
    ·rw [g3 t Oj Gu,h4 _ λt0 XU=>apart t0 XU t Oj]
   ·rcases List.mem_append.1 Oj with Oj|Oj
    ·obtain ⟨b0,b',q1,q2,q3⟩:=h6 t Oj Gu
     exact ⟨b0,b',q1,(hd t Oj).trans q2,q3⟩
    ·exact g4 t Oj Gu
  have same: ∀o',Ha w' D πc (k+1) r o'->Ed r o' as cur=some st1->(∀t∈Kh io k c a,t.1<Aj)->l8 X D w' π H (Kh io k c a++Gs (k+1) r as) cur st1:= λo' h1 h2 h3=>rest cur o' h1 h2 rfl (λ_ _=>rfl) (λ_ _ _=>rfl) (λt h4 h5=>absurd (h3 t h4) h5)
  cases io with
  |false=>
   have h3: ∀t∈Kh false k c a,t.1<Aj:= λt h4=>by rcases wN h4 with ⟨h5,_⟩|⟨h5,_⟩<;>(rw [h5];exact a5 (by omega))
   cases c with
   |Fm τ=>exact same o ho (by simpa only [Ed] using he) h3
   |row e te=>exact same o ho (by simpa only [Ed] using he) h3
   |Ds e te=>exact same o ho (by simpa only [Ed] using he) h3
   |part e te=>exact same o ho (by simpa only [Ed] using he) h3
   |Ak e te kp=>exact same o ho (by simpa only [Ed] using he) h3
  |true=>
   have row: ∀(ys:c.den) (o':IOs.den r),(∀t∈Kh true k c a,t.1=Bu true k)->ar w' D (πc (Bu true k)) c ys->Ha w' D πc (k+1) r o'->(∃Td,Vl cur c ys a=some Td/\Ed r o' as Td=some st1)->l8 X D w' π H (Kh true k c a++Gs (k+1) r as) cur st1:=by
    intro ys o' h0 h1 h2 h3
    obtain ⟨Td,hp,h3⟩:=h3
    ·obtain ⟨q1,q2,q3⟩:=DP (k:=k) h hs (λl i j q b ea hq hb Gu hn=>by
      cases c with
      |Fm τ=>exact absurd (ht.1.2:πc _=none) (by subst ea;simp [Vl] at hp)
      |row e te=>subst ea;exact hU (Bu true k, .sub l i j) (Qh _ (List.mem_append_left _ (List.mem_singleton.2 rfl))) q b hq hb Gu hn
      |Ds e te=>subst ea;exact hU (Bu true k, .sub l i j) (Qh _ (List.mem_append_left _ (List.mem_singleton.2 rfl))) q b hq hb Gu hn
      |Ak e te kp=>exact absurd ht.1.2.1 (by simp)
      |part e te=>exact absurd ht.1.2.2 (by subst ea;exact λh=>h)) ht.1 h1 hp (λt Oj=>aV t (List.mem_append_left _ Oj))
     exact rest Td o' h2 h3 q1 q2 (λt h4 h5=>absurd h5 (by rw [h0 t h4];exact Tt k)) (λt h4 _=>q3 t h4)
   cases c with
   |Fm τ=>exact same o ho (by simpa only [Ed] using he) (λt h4=>by rw [KC h4];exact a5 (by omega))
   |Ak e te kp=>exact absurd ht.1.2.1 (by simp)
   |row e te=>
    simp only [Ed] at he
    split at he
    ·rename_i Td hp;exact row o.1 o.2 (λt ht=>KD ht) ho.1 ho.2 ⟨Td,hp,he⟩
    ·cases he
   |Ds e te=>
    simp only [Ed] at he
    split at he
    ·rename_i Td hp;exact row o.1 o.2 (λt ht=>EO ht) ho.1 ho.2 ⟨Td,hp,he⟩
    ·cases he
   |part e te=>
    simp only [Ed] at he
    split at he
    ·rename_i Td hp
     obtain ⟨q1,q2,q3⟩:=DQ (k:=k) h ht.1 ho.1 hp (λt Oj=>aV t (List.mem_append_left _ Oj))
     exact rest Td o.2 ho.2 he q1 q2 (λt h4 h5=>absurd h5 (by rw [EN h4];exact Tt k)) (λt h4 _=>q3 t h4)
    ·cases he
theorem yr {fr:Bool} {c:CK} {x:c.den} {u:Value} {r:Option Real} {D:Nat->Prop} (h:Yr w' D r u c x):
  (oQ fr c x=none/\r=none)\/ ∃b',oQ fr c x=some b'/\ ∀(X:Ctx) π' H',(fr=true-> ∀q,r=some q->X.w0.heap.size<=q.g)->(∀b,Oi π' b\/X.Sc b->D b)->At X w' π' H' r b':=by
 cases c with
 |Fm τ=>exact .inl ⟨rfl,h.1⟩
 |row e te=>
  refine .inr ⟨_,rfl,λX π' H' uU hD=>?_⟩
  obtain ⟨_,h⟩:=h
  simp only [ar] at h
  simp only [At,Fo]
  cases r with
  |none=>exact h
  |some q=>
   obtain ⟨k1,cu,ti,k2,k3,k4,k5,k6⟩:=h
   exact ⟨⟨k1.1,k1.2,λh1=>uU (by simp only [Bool.and_eq_true] at h1;exact h1.1) q rfl⟩,cu,ti,k2,k3,k4,k5,λi y hy=>by
    obtain ⟨es,g1,g2,g3⟩:=k6 i y hy
    exact ⟨es,g1,g2,Za hD g3⟩,λh=>by cases h⟩
 |Ds e te=>exact .inr ⟨_,rfl,λX π' H' _ _=>h.2⟩
 |Ak e te kp=>exact .inr ⟨_,rfl,λX π' H' _ hD=>⟨Sq.Eu h.2 λb hb=>hD b (hb.imp id λh=>h.elim id λh=>by cases h.1),trivial⟩⟩
 |part e te=>
  refine .inr ⟨_,rfl,λX π' H' uU hD=>?_⟩
  obtain ⟨_,hf,h⟩:=h
  simp only [At,Fo]
  cases r with
  |none=>exact h
  |some q=>
   obtain ⟨k1,cu,ti,k2,k3,k4,k5,k6⟩:=h
   exact ⟨⟨k1.1,k1.2,λh1=>uU (by simp only [Bool.and_eq_true] at h1;exact h1.1) q rfl⟩,cu,ti,k2,k3,k4,k5,λi y hy=>by
    obtain ⟨es,g1,g2,g3⟩:=k6 i y hy
    exact ⟨es,g1,g2,Za hD g3⟩,λh=>by cases h⟩
theorem jX {D:Nat->Prop} {key:Nat->Nat} (xO: ∀i j,key i=key j->i=j) {fr:Bool} {ρ:Pi} : ∀(cs:List CK) (k:Nat) (x:CKs.den cs) (us:List Value) (H:List (Nat×OB)),Ev w' D ρ k cs x us->
  (∀j,k<=j->j<k+cs.length->Ad H (key j)=none)->
  (∀l,(∀j,k<=j->j<k+cs.length->l≠key j)->Ad (Qn fr key k cs x H) l=Ad H l)/\
  (∀j,k<=j->j<k+cs.length->(Ad (Qn fr key k cs x H) (key j)=none/\ρ (Fq j)=none)\/
   ∃b',Ad (Qn fr key k cs x H) (key j)=some b'/\ ∀(X:Ctx) π' H',(fr=true-> ∀q,ρ (Fq j)=some q->X.w0.heap.size<=q.g)->(∀b,Oi π' b\/X.Sc b->D b)->At X w' π' H' (ρ (Fq j)) b')/\
  (∀π',(∀b,Oi π' b\/X.Sc b->D b)->(∀j,k<=j->j<k+cs.length->π' (key j)=ρ (Fq j))->Hu X w' π' (Qn fr key k cs x H) (Va key k cs x) us)
 | [],k,x,[],H,_,_=>⟨λ_ _=>rfl,λj h1 h2=>by simp at h2;omega,λ_ _ _=>trivial⟩
 | [],_,_,_::_,_,h,_=>h.elim
 |_::_,_,_,[],_,h,_=>h.elim
 |c::r,k,x,u::us,H,h,hn=>by
  simp only [List.length_cons] at hn⊢
  simp only [Qn,Va]
  have oH:=hn k (Nat.le_refl _) (by omega)
  have UL: ∀l,l≠key k->Ad (ve H (key k) (oQ fr c x.1)) l=Ad H l:=by
   intro l hl
   cases oQ fr c x.1 with
   |some b=>exact Jl _ _ _ _ hl
   |none=>rfl
  have VT:Ad (ve H (key k) (oQ fr c x.1)) (key k)=oQ fr c x.1:=by
   cases oQ fr c x.1 with
   |some b=>exact Kj _ _ _ oH
   |none=>exact oH
  generalize (ve H (key k) (oQ fr c x.1))=H1 at UL VT⊢
  obtain ⟨g1,g2,g3⟩:=jX xO (fr:=fr) r (k+1) x.2 us H1 h.2 (λj h1 h2=>by
   rw [UL _ λe=>by have:=xO _ _ e;omega];exact hn j (by omega) (by omega))
  have KX:Ad (Qn fr key (k+1) r x.2 H1) (key k)=oQ fr c x.1:=by
   rw [g1 _ λj h1 h2 e=>by have:=xO _ _ e;omega];exact VT
  refine ⟨λl hl=>?_,λj h1 h2=>?_,λπ' hd PW=>⟨?_,?_⟩⟩
  ·rw [g1 l λj h1 h2=>hl j (by omega) (by omega)]
   exact UL l (hl k (Nat.le_refl _) (by omega))
  ·rcases Nat.eq_or_lt_of_le h1 with e|h1
   ·subst e
    rw [KX]
    exact yr h.1
   ·exact g2 j h1 (by omega)
  ·have h1:=h.1
   have UX:=PW k (Nat.le_refl _) (by omega)
   cases c with
   |Fm τ=>
    obtain ⟨bB,c1,c2⟩:=h1.2
    exact ⟨bB,by have:=Za (fr:=true) hd c1;simpa using this,c2⟩
   |row e te=>exact ⟨_,e.size,List.length x.1,KX,rfl,by simp,by rw [UX];exact h1.1⟩
   |Ds e te=>exact ⟨_,e.size,List.length x.1,KX,rfl,by simp,by rw [UX];exact h1.1⟩
   |Ak e te kp=>exact ⟨_,1,List.length x.1,KX,rfl,by simp,by rw [UX];exact h1.1⟩
   |part e te=>trivial
  ·exact g3 π' hd λj h1 h2=>PW j (by omega) (by omega)
theorem yf {ks:List Nat} {n:Nat} (h:se ks n=true):ks.length=n/\ks.Nodup/\ ∀l∈ks,l<Aj:=by
 unfold se at h
 simp only [Bool.and_eq_true] at h
 refine ⟨Nat.eq_of_beq_eq_true h.1,Qm h.2.1,λl hl=>?_⟩
 have:=List.all_eq_true.1 h.2.2 l hl
 simpa using this
theorem La {ks:List Nat} {j:Nat} (h:j<ks.length):Bv ks j=ks[j]:=by
 unfold Bv
 rw [List.getElem?_eq_getElem h]
theorem uq {ks:List Nat} (hn:ks.Nodup) (hl: ∀l∈ks,l<Aj): ∀i j,Bv ks i=Bv ks j->i=j:=by
 intro i j h
 by_cases hi:i<ks.length
 ·by_cases hj:j<ks.length
  ·rw [La hi,La hj] at h
   rcases Nat.lt_trichotomy i j with Gu|he|Gu
   ·exact absurd h (List.pairwise_iff_getElem.1 hn i j hi hj Gu)
   ·exact he
   ·exact absurd h.symm (List.pairwise_iff_getElem.1 hn j i hj hi Gu)
  ·have h1:=hl _ (List.getElem_mem hi)
   rw [La hi] at h
   unfold Bv at h
   rw [List.getElem?_eq_none (by omega)] at h
   simp only at h
   omega
 ·by_cases hj:j<ks.length
  ·have h1:=hl _ (List.getElem_mem hj)
   rw [La hj] at h
   unfold Bv at h
   rw [List.getElem?_eq_none (by omega)] at h
   simp only at h
   omega
  ·unfold Bv at h
   rw [List.getElem?_eq_none (by omega),List.getElem?_eq_none (by omega)] at h
   simp only at h
   omega
theorem Ib: ∀(H:List (Nat×OB)) (dead:List Nat) (l:Nat),Ad (Py H dead) l=if l∈dead then none else Ad H l
 | [],dead,l=>by simp [Py,Ad]
 |(k,b)::r,dead,l=>by
  simp only [Py]
  have ih:=Ib r dead l
  by_cases hk:k∈dead
  ·rw [if_pos (by simpa using hk),ih]
   split
   ·rfl
   ·rename_i hl
    simp only [Ad]
    rw [if_neg (λ(e:k=l)=>hl (e▸hk))]
  ·rw [if_neg (by simpa using hk)]
   simp only [Ad]
   split
   ·rename_i e;subst e;rw [if_neg hk]
   ·exact ih
theorem mem_keys {ks:List Nat} {l:Nat} :l∈ks↔ ∃k,k<ks.length/\l=Bv ks k:=
 ⟨λh=>by obtain ⟨k,hk,e⟩:=List.getElem_of_mem h;exact ⟨k,hk,by rw [La hk,e]⟩,λ⟨k,hk,e⟩=>by rw [e,La hk];exact List.getElem_mem hk⟩
theorem Yc {tks:List (Nat×Loc)} {l:Nat} :l∈fR tks↔ ∃t∈tks,(t.1<Aj/\t.2.reads=false)/\t.2.Pq=l:=by
 unfold fR
 simp only [List.mem_map,List.mem_filter,Bool.and_eq_true,Nat.blt_eq,Bool.not_eq_true']
 exact ⟨λ⟨t,⟨h1,h2⟩,h3⟩=>⟨t,h1,h2,h3⟩,λ⟨t,h1,h2,h3⟩=>⟨t,⟨h1,h2⟩,h3⟩⟩
theorem sf {tks:List (Nat×Loc)} (h:(tks.map λt=>t.2.Pq).Nodup) {t t':Nat×Loc} (ht:t∈tks) (CD:t'∈tks) (he:t.2.Pq=t'.2.Pq):t=t':=by
 induction tks with
 |nil=>cases ht
 |cons a r ih=>
  simp only [List.map_cons] at h
  obtain ⟨h1,h2⟩:=List.nodup_cons.1 h
  rcases List.mem_cons.1 ht with rfl|ht<;>rcases List.mem_cons.1 CD with rfl|CD
  ·rfl
  ·exact (h1 (List.mem_map.2 ⟨t',CD,he.symm⟩)).elim
  ·exact (h1 (he▸List.mem_map.2 ⟨t,‹t∈r›,rfl⟩)).elim
  ·exact ih h2 ht CD
theorem Ev.full {D:Nat->Prop} {ρ:Pi} : ∀(cs:List CK) (k:Nat) (x:CKs.den cs) (us:List Value),Ev w D ρ k cs x us->Ev w D (λl=>(ρ l).map full) k cs x us
 | [],_,_,[],h=>h
 | [],_,_,_::_,h=>h.elim
 |_::_,_,_,[],h=>h.elim
 |c::r,k,x,u::us,h=>⟨by
   have h1:=h.1
   show Yr w D ((ρ (Fq k)).map _) u c x.1
   cases c with
   |Fm τ=>rw [h1.1];exact ⟨rfl,h1.2⟩
   |row e te=>cases hp:ρ (Fq k)<;>(rw [hp] at h1;exact h1)
   |Ds e te=>cases hp:ρ (Fq k)<;>(rw [hp] at h1;exact h1)
   |Ak e te kp=>cases hp:ρ (Fq k)<;>(rw [hp] at h1;exact h1)
   |part e te=>cases hp:ρ (Fq k)<;>(rw [hp] at h1;exact h1),Ev.full r (k+1) x.2 us h.2⟩
theorem Ev.OH {D:Nat->Prop} {ρ:Pi} : ∀(cs:List CK) (k0:Nat) (x:CKs.den cs) (us:List Value),Ev w D ρ k0 cs x us-> ∀j,k0<=j->j<k0+cs.length-> ∀q,ρ (Fq j)=some q->q.Ay q.g
 | [],k0,_,_,_,j,h1,h2,_,_=>by simp at h2;omega
 |_::_,_,_,[],h,_,_,_,_,_=>h.elim
 |c::r,k0,x,u::us,ho,j,h1,h2,q,hq=>by
  rcases Nat.eq_or_lt_of_le h1 with e|h1
  ·subst e
   have:=ho.1
   cases c with
   |Fm τ=>rw [hq] at this;cases this.1
   |row e te=>rw [hq] at this;exact this.2.1.1
   |Ds e te=>rw [hq] at this;exact this.2.1
   |part e te=>rw [hq] at this;exact this.2.2.1.1
   |Ak e te kp=>rw [hq] at this;exact this.2.1
  ·exact Ev.OH r (k0+1) x.2 us ho.2 j h1 (by simp at h2;omega) q hq
theorem Mc.any {D D':Nat->Prop} {r:Option Real} {e:Ty} {xs:List e.den} (hf:e.flat=true) (h:Mc w D r e xs):Mc w D' r e xs:=by
 cases r with
 |none=>exact h
 |some r=>
  obtain ⟨k1,cu,ti,k2,k3,k4,k5,k6⟩:=h
  exact ⟨k1,cu,ti,k2,k3,k4,k5,λi y hy=>by
   obtain ⟨es,g1,g2,g3⟩:=k6 i y hy
   exact ⟨es,g1,g2,Cells.flat e es y hf g3⟩⟩
theorem Ev.any {D D':Nat->Prop} {ρ:Pi} : ∀(cs:List CK) (k:Nat) (x:CKs.den cs) (us:List Value),cs.all (·.flat)=true->Ev w D ρ k cs x us->Ev w D' ρ k cs x us
 | [],_,_,[],_,h=>h
 | [],_,_,_::_,_,h=>h.elim
 |_::_,_,_,[],_,h=>h.elim
 |c::r,k,x,u::us,hf,h=>by
  simp only [List.all_cons,Bool.and_eq_true] at hf
  refine ⟨?_,Ev.any r (k+1) x.2 us hf.2 h.2⟩
  have h1:=h.1
  cases c with
  |Fm τ=>exact ⟨h1.1,Bd.flat hf.1 h1.2⟩
  |row e te=>exact ⟨h1.1,Mc.any hf.1 h1.2⟩
  |Ds e te=>exact h1
  |part e te=>exact ⟨h1.1,h1.2.1,Mc.any hf.1 h1.2.2⟩
  |Ak e te kp=>exact absurd hf.1 (by simp [CK.flat])
theorem Ha.any {D D':Nat->Prop} {π:Pi} : ∀(cs:List (Bool×CK)) (k:Nat) (x:IOs.den cs),(cs.all λp=>!p.1||p.2.flat)=true->Ha w D π k cs x->Ha w D' π k cs x
 | [],_,_,_,h=>h
 |(false,_)::r,k,x,hf,h=>Ha.any r (k+1) x (by simp only [List.all_cons,Bool.and_eq_true] at hf;exact hf.2) h
 |(true, .Fm _)::r,k,x,hf,h=>Ha.any r (k+1) x (by simp only [List.all_cons,Bool.and_eq_true] at hf;exact hf.2) h
 |(true, .Ak _ _ _)::r,k,x,hf,h=>Ha.any r (k+1) x (by simp only [List.all_cons,Bool.and_eq_true] at hf;exact hf.2) h
 |(true, .row e te)::r,k,x,hf,h=>by
  simp only [List.all_cons,Bool.and_eq_true,Bool.not_true,Bool.false_or] at hf
  exact ⟨Mc.any hf.1 h.1,Ha.any r (k+1) x.2 hf.2 h.2⟩
 |(true, .Ds e te)::r,k,x,hf,h=>by
  simp only [List.all_cons,Bool.and_eq_true,Bool.not_true,Bool.false_or] at hf
  exact ⟨h.1,Ha.any r (k+1) x.2 hf.2 h.2⟩
 |(true, .part e te)::r,k,x,hf,h=>by
  simp only [List.all_cons,Bool.and_eq_true,Bool.not_true,Bool.false_or] at hf
  exact ⟨Mc.any hf.1 h.1,Ha.any r (k+1) x.2 hf.2 h.2⟩
theorem mN {tks:List (Nat×Loc)} {l:Nat} :l∈tC tks↔ ∃t∈tks,t.2.reads=true/\t.2.Pq=l:=by
 unfold tC
 simp only [List.mem_map,List.mem_filter]
 exact ⟨λ⟨t,⟨h1,h2⟩,h3⟩=>⟨t,h1,h2,h3⟩,λ⟨t,h1,h2,h3⟩=>⟨t,⟨h1,h2⟩,h3⟩⟩
theorem Ah.gN {st:St} {a:Act} (h:Ah X π st a w) {f:AC->AC} (hu:f .undef= .undef) {gv:Nat->Prop} (BV: ∀b,gv b->Oi π b) (hb:Gc w.heap.size gv w w')
  (Xw: ∀b,b<w.heap.size->Oi π' b->Oi π b)
  (Qh: ∀l r b,π' l=some r->r.Ay b->r.cl b) (RW: ∀l r b,π' l=some r->r.cl b->(X.w0.heap.size<=b\/X.gv b)/\b<w'.heap.size)
  (Acw: ∀l l' r r' b,π' l=some r->π' l'=some r'->r.cl b->r'.cl b->l=l')
  (Xx: ∀l,Aj<=l->Ad H' l≠none->Ug (X.ca l) (π' l))
  (hac:(∀fr τ cs x,Cells w (Be X.w0.heap.size X.Sc π fr) τ cs x->Cells w' (Be X.w0.heap.size X.Sc π' fr) τ cs x)-> ∀c v,Dy X w π st.heap c v->Dy X w' π' H' (f c) v)
  (LY:Move X w w' π π' st.heap H' f-> ∀l b,Ad H' l=some b->At X w' π' H' (π' l) b)
  (AG: ∀l,Ad H' l=none->π' l=none):
  Ah X π' {tmps:=st.tmps.map (·.map f),heap:=H'} a w':=by
 have hc: ∀fr τ cs x,Cells w (Be X.w0.heap.size X.Sc π fr) τ cs x->Cells w' (Be X.w0.heap.size X.Sc π' fr) τ cs x:= λfr τ cs x hh=>
  Cells.Cs hb.size (λk hk hn=>hb.block k hk λhg=>hn (.inl (BV k hg))) (λk Gu hA=>hA.imp (Xw k Gu) id) τ cs x hh
 have m:Move X w w' π π' st.heap H' f:=⟨hac hc,hc⟩
 refine ⟨⟨⟨hb.os.trans h.1.below.os,hb.tape.trans h.1.below.tape,hb.output.trans h.1.below.output,Nat.le_trans h.1.below.size hb.size,λk hk hn=>?_⟩,h.1.sc,Qh,RW,Acw,Xx,λl=>?_⟩,m.yS hu h.2⟩
 ·refine (hb.block k (Nat.lt_of_lt_of_le hk h.1.below.size) λhg=>?_).trans (h.1.below.block k hk hn)
  rcases (h.1.own (BV k hg)).2 with h1|h1
  ·omega
  ·exact hn h1
 ·cases hh:Ad H' l with
  |none=>exact De.Oz (AG l hh) hh
  |some b=>exact De.Ih (LY m l b hh) hh
def au:Option Real->Option Real->Prop
 |none,none=>True
 |some r,some r'=>r.g=r'.g/\r.o=r'.o/\r.cap=r'.cap
 |_,_=>False
theorem au.rfl' (r:Option Real):au r r:=by cases r<;>simp [au]
theorem au.some {r:Real} {r':Option Real} (h:au (some r) r'): ∃q,r'=some q/\r.g=q.g/\r.o=q.o/\r.cap=q.cap:=by
 cases r' with
 |none=>exact h.elim
 |some q=>exact ⟨q,rfl,h⟩
theorem au.own {r r':Option Real} (h:au r r') {sz off len:Nat} {v:Value} (hv:Dw r sz off len v):Dw r' sz off len v:=by
 cases r<;>cases r'<;>first|exact h.elim|skip
 ·exact hv
 ·obtain ⟨h1,h2,h3⟩:=h
  obtain ⟨ad,g1,g2,g3⟩:=hv
  exact ⟨ad,by rw [<-h3];exact g1,by rw [<-h3];exact g2,by rw [<-h1,<-h2,<-h3];exact g3⟩
structure OB.Mk (b b':OB):Prop where
 row: ∀sz n,b.row=some (sz,n)-> ∃n',b'.row=some (sz,n')/\n<=n'
 aC: ∀p,b.aC=some p->b'.aC=some p
 oE: ∀p,b.oE=some p->b'.oE=some p
 var: ∀tid vs,b= .var tid vs-> ∃Np tW,b'= .var Np tW
 Oh: ∀v m,b= .Oh v m-> ∃m',b'= .Oh v m'
theorem OB.Mk.map (f:AC->AC) (b:OB):b.Mk (b.map f) where
 row:= λsz n h=>⟨n,by cases b<;>exact h,Nat.le_refl _⟩
 aC:= λp h=>by cases b<;>exact h
 oE:= λp h=>by cases b<;>exact h
 var:= λtid vs h=>by subst h;exact ⟨_,_,rfl⟩
 Oh:= λv m h=>by subst h;exact ⟨_,rfl⟩
theorem OB.Mk.rfl' (b:OB):b.Mk b where
 row:= λ_sz n h=>⟨n,h,Nat.le_refl _⟩
 aC:= λ_p h=>h
 oE:= λ_p h=>h
 var:= λ_tid _vs h=>⟨_,_,h⟩
 Oh:= λ_v _m h=>⟨_,h⟩
theorem OB.Mk.trans {a b c:OB} (h:a.Mk b) (k:b.Mk c):a.Mk c where
 row:= λsz n hr=>by
  obtain ⟨n1,h1,h2⟩:=h.row sz n hr
  obtain ⟨n2,h3,h4⟩:=k.row sz n1 h1
  exact ⟨n2,h3,by omega⟩
 aC:= λp hp=>k.aC p (h.aC p hp)
 oE:= λp hp=>k.oE p (h.oE p hp)
 var:= λtid vs hv=>by obtain ⟨t',v',h1⟩:=h.var tid vs hv;exact k.var t' v' h1
 Oh:= λv m hm=>by obtain ⟨m',h1⟩:=h.Oh v m hm;exact k.Oh v m' h1
theorem gM {f:AC->AC} {D Pt:Nat->Prop} (hf: ∀c,f c= .undef\/(f c=c/\(∀k∈c.refs,¬D k)/\ ∀k i j,c= .sub k i j\/c= .Fv k i j-> ¬Pt k)) (hp: ∀k,¬D k->au (π k) (π' k))
  (hH: ∀k b,¬D k->Ad H k=some b-> ∃b',Ad H' k=some b'/\b.Mk b')
  (hg: ∀k r b,¬D k-> ¬Pt k->Ad H k=some b->b.aC≠none->π k=some r->w'.heap[r.g]?=w.heap[r.g]?)
  (hc: ∀fr τ cs x,Cells w (Be X.w0.heap.size X.Sc π fr) τ cs x->Cells w' (Be X.w0.heap.size X.Sc π' fr) τ cs x): ∀c v,Dy X w π H c v->Dy X w' π' H' (f c) v:=by
 intro c v h
 rcases hf c with e|⟨e,hr,hs⟩
 ·rw [e];trivial
 rw [e]
 cases c with
 |data fr τ x=>obtain ⟨cs,h1,h2⟩:=h;exact ⟨cs,hc _ _ _ _ h1,h2⟩
 |own k off len=>
  obtain ⟨b,sz,n,h1,h0,h2,h3⟩:=h
  have hk:=hr k (by simp [AC.refs])
  obtain ⟨b',g1,g2⟩:=hH k b hk h1
  obtain ⟨n',g3,g4⟩:=g2.row sz n h0
  exact ⟨b',sz,n',g1,g3,by omega,(hp k hk).own h3⟩
 |Dx k i=>
  obtain ⟨r,tid,vs,h1,h2,h3⟩:=h
  have hk:=hr k (by simp [AC.refs])
  obtain ⟨b',g1,g2⟩:=hH k _ hk h1
  obtain ⟨Np,tW,rfl⟩:=g2.var tid vs rfl
  obtain ⟨q,q1,q2,_⟩:=(h2▸hp k hk).some
  exact ⟨q,Np,tW,g1,q1,by rw [<-q2];exact h3⟩
 |Fy k i=>
  obtain ⟨r,b,sz,n,h1,h0,h2,h3,h4⟩:=h
  have hk:=hr k (by simp [AC.refs])
  obtain ⟨b',g1,g2⟩:=hH k b hk h1
  obtain ⟨n',g3,g4⟩:=g2.row sz n h0
  obtain ⟨q,q1,q2,q3,_⟩:=(h3▸hp k hk).some
  exact ⟨q,b',sz,n',g1,g3,by omega,q1,by rw [<-q2,<-q3];exact h4⟩
 |sub k i c=>
  obtain ⟨r,b,sz,n,h1,h0,h2,h3,h4,h5⟩:=h
  have hk:=hr k (by simp [AC.refs])
  obtain ⟨b',g1,g2⟩:=hH k b hk h1
  obtain ⟨q,q1,q2,q3,_⟩:=(h2▸hp k hk).some
  exact ⟨q,b',sz,n,g1,g2.aC _ h0,q1,h3,h4,by rw [<-q2,<-q3,World.cell?_of_block (hg k r b hk (hs k i c (.inl rfl)) h1 (by rw [h0];simp) h2)];exact h5⟩
 |Fv k i c=>
  obtain ⟨r,b,n,sz,g,o,len,cap,h1,h0,h2,h3,h4,h5,h6⟩:=h
  have hk:=hr k (by simp [AC.refs])
  obtain ⟨b',g1,g2⟩:=hH k b hk h1
  obtain ⟨q,q1,q2,q3,_⟩:=(h2▸hp k hk).some
  exact ⟨q,b',n,sz,g,o,len,cap,g1,g2.oE _ h0,q1,h3,h4,by rw [<-q2,<-q3,World.cell?_of_block (hg k r b hk (hs k i c (.inr rfl)) h1 (by cases b<;>first|(cases h0;done)|simp [OB.aC]) h2)];exact h5,h6⟩
 |clo g Bw=>
  obtain ⟨us,h1,h2,h3⟩:=h
  refine ⟨us,h1,h2,λj p XD=>?_⟩
  obtain ⟨r,tid,vs,h4,h5,h6⟩:=h3 j p XD
  have hk:=hr p.1 (by simp only [AC.refs,List.mem_map];exact ⟨p,List.mem_of_getElem? XD,rfl⟩)
  obtain ⟨b',g1,g2⟩:=hH p.1 _ hk h4
  obtain ⟨Np,tW,rfl⟩:=g2.var tid vs rfl
  obtain ⟨q,q1,q2,_⟩:=(h5▸hp p.1 hk).some
  exact ⟨q,Np,tW,g1,q1,by rw [<-q2];exact h6⟩
 |Gf k=>
  obtain ⟨r,vt,m,h1,h2,h3⟩:=h
  have hk:=hr k (by simp [AC.refs])
  obtain ⟨b',g1,g2⟩:=hH k _ hk h1
  obtain ⟨m',rfl⟩:=g2.Oh vt m rfl
  obtain ⟨q,q1,q2,_⟩:=(h2▸hp k hk).some
  exact ⟨q,vt,m',g1,q1,by rw [<-q2];exact h3⟩
 |_=>exact h
theorem Nt (H0:List (Nat×OB)) (ls:List Nat) (n:Nat): ∀(H:List (Nat×OB)) (l:Nat),Ad (Ws H0 ls n H) l=(Ad H l).map λb=>if ls.contains l then b.wz (Uw n (SN (Ad H0 l))) else b
 | [],_=>rfl
 |(k,b)::r,l=>by
  simp only [Ws,Ad]
  split
  ·rename_i e;subst e;rfl
  ·exact Nt H0 ls n r l
theorem OB.sQ (b:OB) (kp:Option (Nat×Nat)):b.Mk (b.wz kp):=by
 cases b with
 |Ak e te rows out kp0=>exact ⟨λsz n h=>⟨n,h,Nat.le_refl _⟩,λp h=>h,λp h=>h,(λ_ _ h=>by cases h),(λ_ _ h=>by cases h)⟩
 |_=>exact OB.Mk.rfl' _
theorem ai (ls:List Nat): ∀(l m:List AV) (t:Nat),l.length=m.length->(∃k i c,l.getD t .undef= .at (.sub k i c)/\ls.contains k=true/\(Gr ls l m).getD t .undef= .at (.sub k i c))\/(Gr ls l m).getD t .undef=m.getD t .undef
 | [],m,t,_=>by cases m<;>exact .inr rfl
 |_::_,[],t,h=>by simp at h
 |a::l,v::m,t,h=>by
  have ih:= λt=>ai ls l m t (by simpa using h)
  have tail: ∀u,Gr ls (a::l) (v::m)=u::Gr ls l m->(t=0->(∃k i c,(a::l).getD t .undef= .at (.sub k i c)/\ls.contains k=true/\u= .at (.sub k i c))\/u=v)->
    (∃k i c,(a::l).getD t .undef= .at (.sub k i c)/\ls.contains k=true/\(Gr ls (a::l) (v::m)).getD t .undef= .at (.sub k i c))\/(Gr ls (a::l) (v::m)).getD t .undef=(v::m).getD t .undef:=by
   intro u e h0
   rw [e]
   rcases t with _|t
   ·rcases h0 rfl with ⟨k,i,c,h1,h2,h3⟩|h3
    ·exact .inl ⟨k,i,c,h1,h2,by simpa using h3⟩
    ·exact .inr (by simpa using h3)
   ·simpa only [List.getD_cons_succ] using ih t
  cases a with
  | «at»c=>
   cases c with
   |sub k i c=>
    refine tail _ rfl λht=>?_
    subst ht
    by_cases hc:ls.contains k=true
    ·exact .inl ⟨k,i,c,rfl,hc,by rw [if_pos hc]⟩
    ·exact .inr (by rw [if_neg hc])
   |_=>exact tail _ rfl λ_=> .inr rfl
  |_=>exact tail _ rfl λ_=> .inr rfl
theorem nV {H:List (Nat×OB)} {ls:List Nat} {n:Nat} : ∀ {l:List AV} {t k i c:Nat},Xa H ls n l=true->l.getD t .undef= .at (.sub k i c)->ls.contains k=true->i<n/\i<lg H k
 | [],t,k,i,c,_,h,_=>by simp at h
 |a::l,0,k,i,c,ho,h,hc=>by
  simp only [List.getD_cons_zero] at h
  subst h
  simp only [Xa,hc,Bool.not_true,Bool.false_or,Bool.and_eq_true,Nat.blt_eq] at ho
  exact ho.1
 |a::l,t+1,k,i,c,ho,h,hc=>by
  refine nV (l:=l) (t:=t) (c:=c) ?_ (by simpa only [List.getD_cons_succ] using h) hc
  cases a with
  | «at»d=>cases d with
   |sub _ _ _=>simp only [Xa,Bool.and_eq_true] at ho;exact ho.2
   |_=>exact ho
  |_=>exact ho
theorem yc {aN st:St} {a:Act} (h0:Ah X π aN a w) (h:Ah X π' st a w') {ls:List Nat} {n:Nat} (hk: ∀l∈ls,tZ w w' (π l) (π' l) n) (mi: ∀l∈ls,gw aN.heap l=true)
  (bO:Xa st.heap ls n aN.tmps=true):Ah X π' (fa aN st ls n) a w'/\ ∀c v,Am X w' π' st.heap c v->Am X w' π' (fa aN st ls n).heap c v:=by
 by_cases kI:ls= []
 ·subst kI;exact ⟨h,λ_ _ h=>h⟩
 have Sf:fa aN st ls n= {tmps:=Gr ls aN.tmps st.tmps,heap:=Ws aN.heap ls n st.heap} :=by
  cases ls with
  |nil=>exact absurd rfl kI
  |cons _ _=>rfl
 rw [Sf]
 have hg0: ∀l∈ls,∃e te rows out kp,Ad aN.heap l=some (.Ak e te rows out kp):= λl hl=>by
  have:=mi l hl
  unfold gw at this
  split at this
  ·exact ⟨_,_,_,_,_,by assumption⟩
  ·cases this
 have srv: ∀k b,Ad st.heap k=some b-> ∃b',Ad (Ws aN.heap ls n st.heap) k=some b'/\b.Mk b':= λk b hb=>by
  rw [Nt,hb]
  refine ⟨_,rfl,?_⟩
  dsimp only
  split
  ·exact OB.sQ b _
  ·exact OB.Mk.rfl' b
 have hac:(∀fr τ cs x,Cells w' (Be X.w0.heap.size X.Sc π' fr) τ cs x->Cells w' (Be X.w0.heap.size X.Sc π' fr) τ cs x)-> ∀c v,Dy X w' π' st.heap c v->Dy X w' π' (Ws aN.heap ls n st.heap) c v:= λhc=>
  gM (f:= λc=>c) (D:= λ_=>False) (Pt:= λ_=>False) (λc=> .inr ⟨rfl,λ_ _ h=>h,λ_ _ _ _ h=>h⟩) (λk _=>au.rfl' _) (λk b _ hb=>srv k b hb) (λ_ _ _ _ _ _ _ _=>rfl) hc
 have h1:Ah X π' {tmps:=st.tmps.map (·.map λc=>c),heap:=Ws aN.heap ls n st.heap} a w':=by
  refine h.gN rfl (gv:= λ_=>False) (λ_ hf=>hf.elim) (Gc.refl _ _ _) (λ_ _ ho=>ho) h.1.sub h.1.place h.1.inj (λl hl Fe=>h.1.ca l hl λh2=>Fe (by rw [Nt,h2];rfl)) hac (λm l b hb=>?_) (λl hl=>?_)
  ·rw [Nt] at hb
   cases h2:Ad st.heap l with
   |none=>rw [h2] at hb;cases hb
   |some b0=>
    rw [h2] at hb
    simp only [Option.map_some,Option.some.injEq] at hb
    have hbk:=(h.1.heap l).Ma h2
    have xd:=hbk.move m (Nat.le_refl _) (λr0 c h0 h1=>h.1.sub _ r0 c h0 h1) λ_ _ _ _ _=>rfl
    rw [show OB.map (λc=>c) b0=b0 from OB.vJ b0] at xd
    split at hb
    ·rename_i hc
     have hl:l∈ls:=by simpa using hc
     cases b0 with
     |Ak e te rows out kp=>
      simp only [OB.wz] at hb
      subst hb
      refine ⟨xd.1,?_⟩
      obtain ⟨e0,te0,QC,Aeb,kp0,hg⟩:=hg0 l hl
      have oH:=((h0.1.heap l).Ma hg).2
      rw [hg]
      simp only [SN]
      have oJ:=hk l hl
      cases kp0 with
      |none=>trivial
      |some p=>
       obtain ⟨l0,n0⟩:=p
       simp only [KeptAt,Uw] at oH⊢
       cases rW:X.ca l0 with
       |none=>
        cases hp:π l with
        |none=>
         rw [hp] at oJ
         cases AI:π' l with
         |none=>trivial
         |some q=>rw [AI] at oJ;exact oJ.elim
        |some q=>rw [rW,hp] at oH;exact oH.elim
       |some r0=>
        cases hp:π l with
        |none=>rw [rW,hp] at oH;exact oH.elim
        |some q=>
         rw [rW,hp] at oH
         rw [hp] at oJ
         cases AI:π' l with
         |none=>rw [AI] at oJ;exact oJ.elim
         |some q'=>
          rw [AI] at oJ
          obtain ⟨k1,k2,k3,k4⟩:=oJ
          obtain ⟨g1,g2,g3,g4⟩:=oH
          refine ⟨k1.trans g1,k2.trans g2,k3.trans g3,λj hj hc=>?_⟩
          have e1:=g4 j (by omega) hc
          have e2:=k4 j (by omega) (by omega)
          rw [g1,g2] at e2
          rw [<-e1,e2]
     |_=>simp only [OB.wz] at hb;subst hb;exact xd
    ·subst hb;exact xd
  ·rw [Nt] at hl
   cases h2:Ad st.heap l with
   |none=>exact (h.1.heap l).emp h2
   |some b=>rw [h2] at hl;cases hl
 have GP: ∀c v,Am X w' π' st.heap c v->Am X w' π' (Ws aN.heap ls n st.heap) c v:= λc v hv=>by
  have m:Move X w' w' π' π' st.heap (Ws aN.heap ls n st.heap) (λc=>c):=⟨hac λ_ _ _ _ h=>h,λ_ _ _ _ h=>h⟩
  have:=m.av hv
  rwa [AC.map_id] at this
 refine ⟨⟨h1.1,⟨?_,h.2.defers,λt=>?_⟩⟩,GP⟩
 ·have: ∀(l m:List AV),(Gr ls l m).length=m.length:=by
   intro l
   induction l with
   |nil=>intro m;cases m<;>rfl
   |cons a l ih=>
    intro m
    cases m with
    |nil=>cases a with
     | «at»c=>cases c<;>rfl
     |_=>rfl
    |cons v m=>cases a with
     | «at»c=>cases c<;>simp only [Gr,List.length_cons,ih m]
     |_=>simp only [Gr,List.length_cons,ih m]
  show a.tmps.size=(Gr ls aN.tmps st.tmps).length
  rw [this];exact h.2.size
 ·show Am X w' π' _ ((Gr ls aN.tmps st.tmps).getD t .undef) _
  rcases ai ls aN.tmps st.tmps t (by rw [<-h0.2.size,<-h.2.size]) with ⟨k,i,c,g1,g2,g3⟩|g
  ·rw [g3]
   have Mh:k∈ls:=by simpa using g2
   obtain ⟨i1,i2⟩:=nV bO g1 g2
   have hv:=h0.2.tmps t
   rw [show aN.get t=_ from g1] at hv
   obtain ⟨r,b,sz,n',e1,e2,e3,e4,⟨e5,e6⟩,e7⟩:=hv
   obtain ⟨e0,te0,QC,Aeb,kp0,hg⟩:=hg0 k Mh
   rw [hg] at e1;cases e1
   simp only [OB.aC,Option.some.injEq,Prod.mk.injEq] at e2
   obtain ⟨rfl,rfl⟩:=e2
   have oJ:=hk k Mh
   rw [e3] at oJ
   cases AI:π' k with
   |none=>rw [AI] at oJ;exact oJ.elim
   |some q'=>
    rw [AI] at oJ
    obtain ⟨k1,k2,k3,k4⟩:=oJ
    have mh:QC.length<=r.cap:=by
     have:=((h0.1.heap k).Ma hg).1
     rw [e3] at this
     obtain ⟨_,_,_,_,_,_,h5,_⟩:=this
     exact h5
    unfold lg at i2
    split at i2
    ·rename_i e9 te9 ZD Aiv kp9 hg9
     refine ⟨q',_,1,ZD.length,by rw [Nt,hg9];rfl,?_,AI,i2,⟨e5,e6⟩,?_⟩
     ·dsimp only
      split<;>rfl
     ·have eU:c=0:=by omega
      subst eU
      rw [k1,k2]
      rw [Nat.mul_one,Nat.add_zero] at e7⊢
      rw [k4 i i1 (by omega)];exact e7
    ·omega
  ·rw [g]
   exact GP _ _ (h.2.tmps t)
theorem jd {ins:List (Bool×CK)} {as:List AC} {pl:List Nat} {st:St} :(kO ins as pl st).tmps=st.tmps:=by
 unfold kO
 split
 ·rfl
 ·split<;>rfl
theorem yZ {ins:List (Bool×CK)} {as:List AC} {pl:List Nat} {st:St} {m:Nat} (hm:m∉pl):Ad (kO ins as pl st).heap m=Ad st.heap m:=by
 unfold kO
 split
 ·rfl
 ·rename_i l r
  split
  ·exact Cg _ _ _ _ λe=>hm (e▸List.mem_cons_self)
  ·rfl
theorem DW {ins:List (Bool×CK)} {as:List AC} {l:Nat} {st:St} {tid:TypeId} {vs:List AC} (hl:Ad st.heap l=some (.var tid vs)):Ad (kO ins as [l] st).heap l=some (.var tid (aJ ins vs as)):=by
 simp only [kO,St.at,hl]
 exact Cq _ _ _ _ hl
theorem qF {α:Type} (ins:List (Bool×CK)) (as:List α):aJ ins [] as= []:=by
 rcases ins with _|⟨⟨_|_,c⟩,r⟩<;>rfl
theorem j7 {α:Type} : ∀(ins:List (Bool×CK)) (vs as:List α),(aJ ins vs as).length=vs.length
 | [],vs,as=>by rw [aJ];all_goals simp
 |p::r,[],as=>by rw [qF]
 |(true,c)::r,v::vs,as=>by simp only [aJ,List.length_cons,j7 r vs as]
 |(false,c)::r,v::vs,[]=>by rw [aJ];all_goals simp
 |(false,c)::r,v::vs,a::as=>by simp only [aJ,List.length_cons,j7 r vs as]
theorem DN {st:St} {a:Act} (h:Ah X π st a w) {s:MSpec} {jv:List AV} {vs:List Value} (hlen:jv.length=vs.length) (GP: ∀(i:Nat) c v,jv[i]?=some c->vs[i]?=some v->Am X w π st.heap c v)
  {pl:List Nat} {cells:List AC} {rest:List AV} (he:AS st s jv=some (pl,cells,rest)):
  ∃(g:Nat) (OG qZ:List Value),rest.length=qZ.length/\(∀(i:Nat) c v,rest[i]?=some c->qZ[i]?=some v->Am X w π st.heap c v)/\Hu X w π st.heap cells OG/\
   ((s.ptr=none/\pl= []/\cells= []/\OG= []/\vs=qZ)\/
    ∃p l q,s.ptr=some p/\pl= [l]/\π l=some q/\q.Ay q.g/\g=q.g/\Ad st.heap l=some (.var p.1 cells)/\cells.length=p.2/\vs= .pointer (some ⟨g,0,none⟩)::qZ/\w.heap[g]?=some (.cells OG.toArray p.1 (0,0))/\Cv X w π st.heap cells OG):=by
 unfold AS at he
 split at he
 ·rename_i hp
  simp only [Option.some.injEq,Prod.mk.injEq] at he
  obtain ⟨rfl,rfl,rfl⟩:=he
  exact ⟨0,[],vs,hlen,GP,trivial, .inl ⟨hp,rfl,rfl,rfl,rfl⟩⟩
 ·rename_i p hp
  split at he
  ·rename_i l i Afy
   split at he
   ·rename_i tid cs hl
    split at he
    ·rename_i hc
     obtain ⟨rfl,hc,rfl⟩:=hc
     simp only [Option.some.injEq,Prod.mk.injEq] at he
     obtain ⟨rfl,rfl,rfl⟩:=he
     unfold St.at at hl
     cases vs with
     |nil=>simp at hlen
     |cons v vs=>
      obtain ⟨r,Np,tW,h1,h2,rfl⟩:=GP 0 _ v rfl rfl
      rw [hl] at h1;cases h1
      obtain ⟨r',h3,h4,cur,h5,h6⟩:=(h.1.heap l).Ma hl
      rw [h2] at h3;cases h3
      exact ⟨r.g,cur.toList,vs,by simpa using hlen,λi c v h7 h8=>GP (i+1) c v (by simpa using h7) (by simpa using h8),Hu.of h6, .inr ⟨p,l,r,hp,rfl,h2,h4,rfl,hl,hc,rfl,by simpa using h5,h6⟩⟩
    ·cases he
   ·cases he
  ·cases he
theorem dh {V:List Nat} {πc:Pi} {dead part:List Nat} (PW: ∀l,l∉dead->π' l=π l) (Tj: ∀l b sz n,l∉dead->Ad H l=some b->b.row=some (sz,n)-> ∃b',Ad H' l=some b'/\b'.row=some (sz,n)):
  ∀(ins:List (Bool×CK)) (k:Nat) (cells ik:List AC) (x:Ins.den ins) (us:List Value) (o:IOs.den ins) (cur st1:St) (news:List AC) (Sh cs:List Value),ky X w π V H πc k ins x (cells++ik) us->Ou ins cells=true->
   Ed ins o (cells++ik) cur=some st1->Ca πc k ins o cells.length cs Sh->Hu X w' π' H' news Sh->Hu X w' π' H' (aJ ins (cells.map (Aw dead part)) news) cs
 |ins,k,[],ik,x,us,o,cur,st1,news,Sh,cs,_,_,_,hb,_=>by
  have hb:cs= []:=by rcases ins with _|⟨⟨_|_,c⟩,r⟩<;>(try cases c)<;>simpa [Ca] using hb
  rw [hb,List.map_nil,qF]
  trivial
 | [],k,a::cells,ik,x,us,o,cur,st1,news,Sh,cs,_,hk,_,_,_=>by simp [Ou] at hk
 |(true, .Fm τ)::r,k,a::cells,ik,x,us,o,cur,st1,news,Sh,cs,_,hk,_,_,_=>by simp [Ou] at hk
 |(true, .part e te)::r,k,a::cells,ik,x,us,o,cur,st1,news,Sh,cs,_,hk,_,_,_=>by simp [Ou] at hk
 |(true, .Ak e te _)::r,k,a::cells,ik,x,us,o,cur,st1,news,Sh,cs,_,hk,_,_,_=>by simp [Ou] at hk
 |(true, .row e te)::r,k,a::cells,ik,x,us,o,cur,st1,news,Sh,cs,ht,hk,hp,hb,hn=>by
  cases a<;>simp only [Ou,Bool.false_eq_true] at hk
  rename_i l off len
  cases us with
  |nil=>exact ht.elim
  |cons u0 us=>
  cases cs with
  |nil=>exact hb.elim
  |cons u cs=>
  obtain ⟨⟨_,h1⟩,h2⟩:=ht
  simp only [Mq] at h1
  obtain ⟨h3,rfl,rfl,fr,tr,h4⟩:=h1
  obtain ⟨h5,h6⟩:=hb
  simp only [List.cons_append,Ed] at hp
  split at hp
  rotate_left
  ·cases hp
  rename_i Td RV
  have BW:List.length o.1=List.length x.1:=by
   simp only [Vl] at RV
   repeat' split at RV
   all_goals first|(cases RV;done)|(rename_i hc;exact hc.2.1)
  refine ⟨?_,dh PW Tj r (k+1) cells ik x.2 us o.2 Td st1 news Sh cs h2 hk hp h6 hn⟩
  by_cases hd:l∈dead
  ·have:Aw dead part (.own l 0 (List.length x.1))= .undef:=by
    unfold Aw
    rw [if_pos (by simp [AC.refs,hd])]
   rw [this];trivial
  ·rw [Vs (by simpa [AC.refs] using hd) (by intro l i j e;rcases e with e|e<;>cases e)]
   obtain ⟨b',g1,g2⟩:=Tj l _ e.size (List.length x.1) hd h4 rfl
   refine ⟨b',e.size,List.length x.1,g1,g2,by omega,?_⟩
   rw [PW l hd]
   rw [h3,BW] at h5
   cases hp:π l<;>(rw [hp] at h5;exact h5)
 |(true, .Ds e te)::r,k,a::cells,ik,x,us,o,cur,st1,news,Sh,cs,ht,hk,hp,hb,hn=>by
  cases a<;>simp only [Ou,Bool.false_eq_true] at hk
  rename_i l off len
  cases us with
  |nil=>exact ht.elim
  |cons u0 us=>
  cases cs with
  |nil=>exact hb.elim
  |cons u cs=>
  obtain ⟨⟨_,h1⟩,h2⟩:=ht
  simp only [Mq] at h1
  obtain ⟨h3,rfl,rfl,h4⟩:=h1
  obtain ⟨h5,h6⟩:=hb
  simp only [List.cons_append,Ed] at hp
  split at hp
  rotate_left
  ·cases hp
  rename_i Td RV
  have BW:List.length o.1=List.length x.1:=by
   simp only [Vl] at RV
   repeat' split at RV
   all_goals first|(cases RV;done)|(rename_i hc;exact hc.2.1)
  refine ⟨?_,dh PW Tj r (k+1) cells ik x.2 us o.2 Td st1 news Sh cs h2 hk hp h6 hn⟩
  by_cases hd:l∈dead
  ·have:Aw dead part (.own l 0 (List.length x.1))= .undef:=by
    unfold Aw
    rw [if_pos (by simp [AC.refs,hd])]
   rw [this];trivial
  ·rw [Vs (by simpa [AC.refs] using hd) (by intro l i j e;rcases e with e|e<;>cases e)]
   obtain ⟨b',g1,g2⟩:=Tj l _ e.size (List.length x.1) hd h4 rfl
   refine ⟨b',e.size,List.length x.1,g1,g2,by omega,?_⟩
   rw [PW l hd]
   rw [h3,BW] at h5
   cases hp:π l<;>(rw [hp] at h5;exact h5)
 |(false,c)::r,k,a::cells,ik,x,[],o,cur,st1,news,Sh,cs,ht,hk,hp,hb,hn=>ht.elim
 |(false,c)::r,k,a::cells,ik,x,u0::us,o,cur,st1,news,Sh,[],ht,hk,hp,hb,hn=>by cases c<;>exact hb.elim
 |(false,c)::r,k,a::cells,ik,x,u0::us,o,cur,st1,news,[],u::cs,ht,hk,hp,hb,hn=>by cases c<;>exact hb.elim
 |(false,c)::r,k,a::cells,ik,x,u0::us,o,cur,st1,[],u'::Sh,u::cs,ht,hk,hp,hb,hn=>hn.elim
 |(false,c)::r,k,a::cells,ik,x,u0::us,o,cur,st1,na::news,u'::Sh,u::cs,ht,hk,hp,hb,hn=>by
  have hb2:u=u'/\Ca πc (k+1) r o cells.length cs Sh:=by cases c<;>exact hb
  obtain ⟨rfl,hb3⟩:=hb2
  have hp:Ed r o (cells++ik) cur=some st1:=by cases c<;>simpa only [List.cons_append,Ed] using hp
  have hk:Ou r cells=true:=by cases c<;>simpa only [Ou] using hk
  exact ⟨hn.1,dh PW Tj r (k+1) cells ik x.2 us o cur st1 news Sh cs ht.2 hk hp hb3 hn.2⟩
theorem wP {V:List Nat} {πc:Pi} : ∀(cs:List (Bool×CK)) (k0:Nat) (x:Ins.den cs) (as:List AC) (us:List Value),k0+cs.length<100000->ky X w π V H πc k0 cs x as us-> ∀k l,(Bu false k,Loc.row l)∈Gs k0 cs as->πc (Bu false k)=(π l).map full
 | [],_,_,[],_,_,_,_,_,h=>by cases h
 | [],_,_,_::_,_,_,_,_,_,h=>by cases h
 |_::_,_,_,[],_,_,_,_,_,h=>by cases h
 |_::_,_,_,_::_,[],_,h,_,_,_=>h.elim
 |(io,c)::r,k0,x,a::as,u::us,hk,h,k,l,ht=>by
  simp only [List.length_cons] at hk
  simp only [Gs] at ht
  rcases List.mem_append.1 ht with ht|ht
  ·obtain ⟨⟨_,h1⟩,_⟩:=h
   cases c with
   |Fm τ=>cases a<;>simp [Kh,views] at ht
   |row e te=>
    cases a<;>simp [Kh] at ht
    obtain ⟨e1,rfl⟩:=ht
    simp only [Mq] at h1
    rw [e1];exact h1.1
   |Ds e te=>
    cases a<;>simp [Kh] at ht
    obtain ⟨e1,rfl⟩:=ht
    simp only [Mq] at h1
    rw [e1];exact h1.1
   |part e te=>
    cases a<;>simp [Kh] at ht
    obtain ⟨e1,rfl⟩:=ht
    simp only [Mq] at h1
    rw [e1];exact h1.2.1
   |Ak e te kp=>
    cases a<;>simp [Kh] at ht
    obtain ⟨e1,rfl⟩:=ht
    simp only [Mq] at h1
    rw [e1];exact h1.2.1
  ·exact wP r (k0+1) x.2 as us (by omega) h.2 k l ht
theorem kA {st:St} {a:Act} (h:Ah X π st a w) {f:FuncId} {s:MSpec} (hs:Co P f s) (dst:Option Nat) (jv:List AV) (vs:List Value) (hlen:jv.length=vs.length)
  (GP: ∀(i:Nat) c v,jv[i]?=some c->vs[i]?=some v->Am X w π st.heap c v) (av:AV) (st':St) (he:Qb st dst s jv=some (av,st')):
  Calls P f vs.toArray w λe w'=> ∃v,e= .returned v/\ ∃π',Ah X π' st' a w'/\Am X w' π' st'.heap av v:=by
 unfold Qb at he
 split at he
 ·cases he
 rename_i pl cells rest Adj
 split at he
 ·cases he
 rename_i ik FP
 split at he
 ·cases he
 rename_i x tks htk
 split at he
 rotate_left
 ·cases he
 rename_i Fg
 simp only [Bool.and_eq_true,Nat.blt_eq] at Fg
 obtain ⟨⟨⟨⟨FO,mq⟩,XA⟩,Ti⟩,WO,CA⟩:=Fg
 have CA: ∀l∈pl,l∉(tks.map λt=>t.2.Pq)/\l∉Lr s tks (dst.getD 0):= λl hl=>by
  have:=List.all_eq_true.1 CA l hl
  simp only [Bool.not_eq_true',<-Bool.not_eq_true,List.contains_iff_mem] at this
  exact ⟨λhm=>this (List.mem_append_left _ hm),λhm=>this (List.mem_append_right _ hm)⟩
 split at he
 ·cases he
 rename_i r o UO
 split at he
 ·cases he
 rename_i st1 RY
 obtain ⟨g,OG,qZ,WQ,Ac9,Adm,VA⟩:=DN h hlen GP Adj
 obtain ⟨pB,rfl,xf,Adl⟩:=Wi s.Gv rest qZ ik WQ Ac9 FP
 have SA:=Adm.append Adl
 have Kv:im s w g (OG++pB) vs:=by
  unfold im
  rcases VA with ⟨h1,_,_,h2,h3⟩|⟨p,l,q,h1,_,_,_,_,_,h2,h3,h4,h5⟩
  ·rw [h1];subst h2;exact ⟨h3,xf⟩
  ·rw [h1]
   have hl:OG.length=p.2:=h5.1.trans h2
   simp only
   rw [List.drop_append_of_le_length (by omega),List.take_append_of_le_length (by omega),List.take_of_length_le (by omega),List.drop_of_length_le (by omega)]
   refine ⟨h3,xf,by simp;omega,h4,λu hu=>?_⟩
   obtain ⟨i,hi,rfl⟩:=List.mem_iff_getElem.1 hu
   obtain ⟨u',h6,h7,_⟩:=h5.2 i (cells[i]'(by have:=h5.1;omega)) (List.getElem?_eq_getElem _)
   rw [List.getElem?_eq_getElem hi] at h6
   rw [Option.some.inj h6];exact h7
 have CB: ∀l∈pl,∃p q,s.ptr=some p/\pl= [l]/\π l=some q/\q.Ay q.g/\g=q.g/\Ad st.heap l=some (.var p.1 cells)/\cells.length=p.2:= λl hl=>by
  rcases VA with ⟨_,h1,_⟩|⟨p,l',q,h1,h2,h3,h4,h5,h6,h7,_⟩
  ·rw [h1] at hl;cases hl
  ·rw [h2] at hl
   have:=List.mem_singleton.1 hl
   subst this
   exact ⟨p,q,h1,h2,h3,h4,h5,h6,h7⟩
 have BV: ∀b,s.gv g b-> ∃l∈pl,∃q,π l=some q/\q.Ay b/\b=q.g:= λb ⟨h1,h2⟩=>by
  rcases VA with ⟨h3,_⟩|⟨p,l',q,_,h4,h5,h6,h7,_⟩
  ·rw [h3] at h1;cases h1
  ·exact ⟨l',by rw [h4];exact List.mem_singleton.2 rfl,q,h5,by rw [h2,h7];exact h6,h2.trans h7⟩
 obtain ⟨as,has⟩: ∃as,as=cells++ik:=⟨_,rfl⟩
 obtain ⟨us,HM⟩: ∃us,us=OG++pB:=⟨_,rfl⟩
 rw [<-has] at SA htk RY
 rw [<-HM] at SA Kv
 let V:=(tks.filter λt=>t.2.reads).map λt=>t.2.Pq
 have hV: ∀t∈tks,t.2.reads=true->t.2.Pq∈V:= λt ht hr=>List.mem_map.2 ⟨t,List.mem_filter.2 ⟨ht,hr⟩,rfl⟩
 have hV': ∀l∈V,∃t∈tks,t.2.reads=true/\t.2.Pq=l:= λl hl=>by
  obtain ⟨t,h1,h2⟩:=List.mem_map.1 hl
  exact ⟨t,(List.mem_filter.1 h1).1,(List.mem_filter.1 h1).2,h2⟩
 clear_value V
 obtain ⟨KT,πc,hT,GU,Acu,Ot⟩:=o3 h.1 (V:=V) s.ins 0 as us x tks (by omega) SA htk hV
 have xP:=Qm FO
 rw [KT] at xP
 have Xw: ∀b,Oi πc b-> ∃t∈Gs 0 s.ins as,t.2.reads=false/\ ∃q,π t.2.Pq=some q/\q.Ay b/\ ∀l i j,t.2= .sub l i j->b≠q.g:= λb ⟨c,q,h1,h2⟩=>by
  obtain ⟨t,t1,_,t3⟩:=Ot c q b h1 h2
  exact ⟨t,t1,t3⟩
 have xS: ∀b,Oi πc b->Oi π b:= λb hb=>let ⟨t,_,_,q,h1,h2,_⟩:=Xw b hb;⟨_,q,h1,h2⟩
 have da:bh πc (λb=>b<w.heap.size):=⟨λl q b h1 h2=>(h.1.own (xS b ⟨l,q,h1,h2⟩)).1,λl l' q q' b h1 h2 h3 h4=>by
  obtain ⟨t,t1,t2,_,p,t3,t4,_⟩:=Ot l q b h1 h3
  obtain ⟨t',TP,t2',_,p',t3',t4',_⟩:=Ot l' q' b h2 h4
  have:=sf xP t1 TP (h.1.apart t3 t3' t4 t4')
  rw [<-t2,<-t2',this]⟩
 have VY: ∀k l,(Bu false k,Loc.row l)∈Gs 0 s.ins as->πc (Bu false k)=(π l).map full:= λk l ht=>
  wP s.ins 0 x as us (by omega) hT k l ht
 have XY: ∀b,Oi πc b->Ja X π V b:= λb hb=> .inl ⟨xS b hb,λl hl r' hr hf=>by
  obtain ⟨t,t1,t0,q,t3,t4,_⟩:=Xw b hb
  obtain ⟨t',TP,t2',rfl⟩:=hV' l hl
  rw [KT] at TP
  have:=sf xP t1 TP (h.1.apart t3 hr t4 hf)
  subst this
  rw [t0] at t2';cases t2'⟩
 let S:Nat->Prop:= λb=> ¬Oi πc b/\Ja X π V b
 have hS: ∀b,S b->b<w.heap.size/\ ¬Oi πc b:= λb hb=>⟨by
  rcases hb.2 with h1|h1
  ·exact (h.1.own h1.1).1
  ·exact Nat.lt_of_lt_of_le (h.1.sc b h1).1 h.1.below.size,hb.1⟩
 have MJ: ∀l∈pl,∀t∈Gs 0 s.ins as,t.2.Pq≠l:= λl hl t ht e=>(CA l hl).1 (List.mem_map.2 ⟨t,KT▸ht,e⟩)
 have hSg:s.ptr.isSome=true->S g:= λUZ=>by
  obtain ⟨l,hl,q,h1,h2,h3⟩:=BV g ⟨UZ,rfl⟩
  have UU: ¬Oi πc g:= λhb=>by
   obtain ⟨t,t1,_,q',t3,t4,_⟩:=Xw g hb
   exact MJ l hl t t1 (h.1.apart t3 h1 t4 h2)
  refine ⟨UU, .inl ⟨⟨l,q,h1,h2⟩,λl' Gt r' eX hf=>?_⟩⟩
  obtain ⟨t',TP,_,rfl⟩:=hV' l' Gt
  rw [KT] at TP
  exact MJ l hl t' TP (h.1.apart eX h1 hf h2)
 refine (hs.calls w S πc us x r o g vs Kv hSg (Ys.Eu (λb hb=>hb.elim (XY b) λh=>h.2) s.ins 0 x us (hT.YH s.ins 0 x as us)) da hS Acu UO).mono ?_
 rintro e w' ⟨v,Sh,tX,rfl,Zj,pZ,LX,rR,XB,HG,SL,qa⟩
 obtain ⟨ρ,MQ,xR,HF,OT⟩: ∃ρ:Pi,(∀l,ρ l=(tX l).map full)/\Ev w' (dv S πc tX) ρ 0 s.outs r Sh/\bh ρ (λb=>b<w'.heap.size/\(w.heap.size<=b\/ ∃l q,l<Aj/\πc l=some q/\q.Ay b))/\ ∀l q,ρ l=some q->q.cl=q.Ay:=by
  have un: ∀l q,(tX l).map full=some q-> ∃q0,tX l=some q0/\q=full q0:= λl q hq=>by
   cases hp:tX l with
   |none=>rw [hp] at hq;cases hq
   |some q0=>rw [hp] at hq;exact ⟨q0,rfl,(Option.some.inj hq).symm⟩
  refine ⟨λl=>(tX l).map full,λ_=>rfl,Ev.full s.outs 0 r Sh XB,⟨λl q b h1 h2=>?_,λl l' q q' b h1 h2 h3 h4=>?_⟩,λl q h1=>?_⟩
  ·obtain ⟨q0,h5,rfl⟩:=un l q h1
   exact HG.Tr l q0 b h5 h2
  ·obtain ⟨q0,h5,rfl⟩:=un l q h1
   obtain ⟨TL,h6,rfl⟩:=un l' q' h2
   exact HG.inj l l' q0 TL b h5 h6 h3 h4
  ·obtain ⟨q0,_,rfl⟩:=un l q h1
   rfl
 refine ⟨v,rfl,?_⟩
 split at he
 ·cases he
 rename_i av0 bP
 split at he
 rotate_left
 ·cases he
 rename_i Qh
 simp only [Option.some.injEq,Prod.mk.injEq] at he
 obtain ⟨rfl,rfl⟩:=he
 let D1:Nat->Prop:=if s.flat then λ_=>True else dv S πc tX
 have Acx:Ha w' D1 πc 0 s.ins o:=by
  show Ha w' (if s.flat then λ_=>True else dv S πc tX) πc 0 s.ins o
  split
  ·rename_i hf
   unfold MSpec.flat at hf
   simp only [Bool.and_eq_true] at hf
   exact Ha.any s.ins 0 o hf.2 rR
  ·exact rR
 have XC:Ev w' D1 ρ 0 s.outs r Sh:=by
  show Ev w' (if s.flat then λ_=>True else dv S πc tX) ρ 0 s.outs r Sh
  split
  ·rename_i hf
   unfold MSpec.flat at hf
   simp only [Bool.and_eq_true] at hf
   exact Ev.any s.outs 0 r Sh hf.1 xR
  ·exact xR
 obtain ⟨q1,q2,q3,q4⟩:=ng (D:=D1) (X:=X) (π:=π) (H:=st.heap) h.1 LX.size (tks:=Gs 0 s.ins as) (πc:=πc) (λt ht q b hq hb Gu hn=>LX.block b Gu λxQ=>by
   rcases xQ with ⟨c,r',h1,h2⟩|hg
   rotate_left
   ·obtain ⟨l,hl,q',h1,h2,_⟩:=BV b hg
    exact MJ l hl t ht (h.1.apart hq h1 hb h2)
   obtain ⟨t',t1,t2,_,p,t3,t4,_⟩:=Ot c r' b h1 h2
   have:=sf xP ht t1 (h.1.apart hq t3 hb t4)
   subst this
   exact hn r' (t2▸h1) h2) s.ins 0 x as us o st st1 (by omega) (λ_ h=>h) xP hT Acx RY (λ_ _=>rfl)
 have SB: ∀t∈Gs 0 s.ins as,t.2.reads=true->t.1<Aj:=by
  have: ∀(cs:List (Bool×CK)) (k:Nat) (as:List AC),k+cs.length<100000-> ∀t∈Gs k cs as,t.2.reads=true->t.1<Aj:=by
   intro cs
   induction cs with
   |nil=>intro k as _ t ht;cases as<;>cases ht
   |cons p r ih=>
    intro k as hk t ht hr
    simp only [List.length_cons] at hk
    cases as with
    |nil=>cases ht
    |cons a as=>
     simp only [Gs] at ht
     rcases List.mem_append.1 ht with ht|ht
     ·rcases wN ht with ⟨_,h1⟩|⟨h1,_⟩
      ·rw [hr] at h1;cases h1
      ·rw [h1];exact a5 (by omega)
     ·exact ih (k+1) as (by omega) t ht hr
  exact this s.ins 0 as (by omega)
 let d:=dst.getD 0
 let ks:=Lr s tks d
 let dead:=fR tks++ks++(if s.flat then [] else tC tks)
 let part:=whole tks
 have Adp:s.outs.length+(fk s d).length=s.Nj:=by unfold MSpec.Nj fk;cases s.rp<;>rfl
 obtain ⟨RP,Ad3,PD⟩:ks.length=s.Nj/\ks.Nodup/\ ∀l∈ks,l<Aj:=by
  have:=yf mq
  rw [Adp] at this
  exact this
 have UU:s.outs.length<=s.Nj:=by unfold MSpec.Nj;omega
 have MO: ∀tid,s.rp=some tid->Bv ks s.outs.length=Mo d/\s.Nj=s.outs.length+1:= λtid Qi=>by
  have h1:s.Nj=s.outs.length+1:=by unfold MSpec.Nj;rw [Qi]
  refine ⟨?_,h1⟩
  have h2:ks=fN s tks d++ [Mo d]:=by show fN s tks d++fk s d=_;unfold fk;rw [Qi]
  have h3:(fN s tks d).length=s.outs.length:=by rw [h2] at RP;simp at RP;omega
  rw [La (by rw [RP];omega)]
  simp only [h2]
  rw [List.getElem_append_right (by omega)]
  simp [h3]
 have HD:=uq Ad3 PD
 have Ad1: ∀j,j<s.Nj->Bv ks j<Aj:= λj hj=>PD _ (mem_keys.2 ⟨j,by omega,rfl⟩)
 let π':Pi:= λl=>match (List.range s.Nj).find? λj=>decide (Bv ks j=l) with
  |some j=>ρ (Fq j)
  |none=>if l∈dead then none else π l
 have oI: ∀j,j<s.Nj->π' (Bv ks j)=ρ (Fq j):= λj hj=>by
  show (match (List.range s.Nj).find? λi=>decide (Bv ks i=Bv ks j) with|some i=>ρ (Fq i)|none=>_)=_
  cases hf:(List.range s.Nj).find? λi=>decide (Bv ks i=Bv ks j) with
  |none=>
   have:=List.find?_eq_none.1 hf j (List.mem_range.2 hj)
   simp at this
  |some i=>
   have:=List.find?_some hf
   rw [HD i j (of_decide_eq_true this)]
 have mo: ∀j,j<s.Nj->Bv ks j∈dead:= λj hj=>List.mem_append_left _ (List.mem_append_right _ (mem_keys.2 ⟨j,by omega,rfl⟩))
 have rS: ∀l,(¬ ∃j,j<s.Nj/\l=Bv ks j)->π' l=if l∈dead then none else π l:= λl hl=>by
  show (match (List.range s.Nj).find? λi=>decide (Bv ks i=l) with|some i=>ρ (Fq i)|none=>_)=_
  cases hf:(List.range s.Nj).find? λi=>decide (Bv ks i=l) with
  |none=>rfl
  |some i=>
   have h1:=List.find?_some hf
   exact absurd ⟨i,List.mem_range.1 (List.mem_of_find?_eq_some hf),(of_decide_eq_true h1).symm⟩ hl
 have HR: ∀l,l∉dead->π' l=π l:= λl hl=>by
  rw [rS l (λ⟨j,h1,h2⟩=>hl (h2▸mo j h1)),if_neg hl]
 have VP: ∀b,Oi π' b\/X.Sc b->D1 b:=by
  intro b hb
  show (if s.flat then λ_=>True else dv S πc tX) b
  split
  ·trivial
  rename_i hnf
  rcases hb with ⟨l,q,hl,hf⟩|hb
  ·by_cases hk: ∃j,j<s.Nj/\l=Bv ks j
   ·obtain ⟨j,hj,rfl⟩:=hk
    rw [oI j hj,MQ] at hl
    cases hp:tX (Fq j) with
    |none=>rw [hp] at hl;cases hl
    |some q0=>rw [hp] at hl;simp only [Option.map_some,Option.some.injEq] at hl;subst hl;exact .inr (.inr ⟨Fq j,q0,hp,hf⟩)
   ·have e0:π' l=if l∈dead then none else π l:=rS l hk
    rw [e0] at hl
    split at hl
    ·cases hl
    ·rename_i MG
     by_cases ho:Oi πc b
     ·obtain ⟨c,q',hc,hcb⟩:=ho
      obtain ⟨t,t1,t2,t0,p,t3,t4,_⟩:=Ot c q' b hc hcb
      have rT:=h.1.apart hl t3 hf t4
      refine .inr (.inl ⟨c,q',Classical.byContradiction λhn=>?_,hc,hcb⟩)
      exact MG (List.mem_append_left _ (List.mem_append_left _ (Yc.2 ⟨t,KT▸t1,⟨by rw [t2];omega,t0⟩,rT.symm⟩)))
     ·refine .inl ⟨ho, .inl ⟨⟨l,q,hl,hf⟩,λl0 RR r0 RZ hf0=>?_⟩⟩
      have:=h.1.apart hl RZ hf hf0
      subst this
      exact MG (List.mem_append_right _ (by rw [if_neg hnf];exact mN.2 (hV' l RR)))
  ·refine .inl ⟨λho=>?_, .inr hb⟩
   have h1:=h.1.sc b hb
   rcases (h.1.own (xS b ho)).2 with h2|h2
   ·omega
   ·exact h1.2 h2
 have hpd: ∀l∈pl,l∉dead:= λl hl hd=>by
  rcases List.mem_append.1 hd with hd|hd
  ·rcases List.mem_append.1 hd with hd|hd
   ·obtain ⟨t,ht,_,e⟩:=Yc.1 hd
    exact (CA l hl).1 (List.mem_map.2 ⟨t,ht,e⟩)
   ·exact (CA l hl).2 hd
  ·split at hd
   ·cases hd
   ·obtain ⟨t,ht,_,e⟩:=mN.1 hd
    exact (CA l hl).1 (List.mem_map.2 ⟨t,ht,e⟩)
 have RO: ∀j,j<s.Nj->Bv ks j∉pl:= λj hj hp=>hpd _ hp (mo j hj)
 let bv:Option OB:=s.rp.map λtid=> .var tid ((Va (Bv ks) 0 s.outs r).drop s.Sw)
 let H1:=(kO s.ins (Va (Bv ks) 0 s.outs r) pl (st1.Vr dead part)).heap
 have UL: ∀l,l∉pl->Ad H1 l=if l∈dead then none else (Ad st1.heap l).map (OB.map (Aw dead part)):= λl hl=>by
  show Ad (kO _ _ _ _).heap l=_
  rw [yZ hl]
  show Ad (Py (st1.heap.map λp=>(p.1,p.2.map (Aw dead part))) dead) l=_
  rw [Ib,Je]
 let H2:=ve H1 (Mo d) bv
 have hvd: ∀tid,s.rp=some tid->Mo d∈dead/\Mo d∉pl:= λtid Qi=>by
  obtain ⟨e1,e2⟩:=MO tid Qi
  rw [<-e1]
  exact ⟨mo _ (by omega),RO _ (by omega)⟩
 have VU: ∀l,(∀tid,s.rp=some tid->l≠Mo d)->Ad H2 l=Ad H1 l:= λl hl=>by
  show Ad (ve H1 (Mo d) (s.rp.map _)) l=_
  cases xe:s.rp with
  |none=>rfl
  |some tid=>exact Jl _ _ _ _ (hl tid xe)
 have Abu: ∀tid,s.rp=some tid->Ad H2 (Mo d)=some (.var tid ((Va (Bv ks) 0 s.outs r).drop s.Sw)):= λtid Qi=>by
  show Ad (ve H1 (Mo d) (s.rp.map _)) (Mo d)=_
  rw [Qi]
  exact Kj _ _ _ (by rw [UL _ (hvd tid Qi).2,if_pos (hvd tid Qi).1])
 have hkv: ∀j,j<s.outs.length-> ∀tid,s.rp=some tid->Bv ks j≠Mo d:= λj hj tid Qi e=>by
  have:=HD j s.outs.length (e.trans (MO tid Qi).1.symm)
  omega
 have hH2: ∀l,l∉pl->(∀tid,s.rp=some tid->l≠Mo d)->Ad H2 l=if l∈dead then none else (Ad st1.heap l).map (OB.map (Aw dead part)):= λl hl hv=>by
  rw [VU l hv,UL l hl]
 let H':=Qn (zT st (fR tks)) (Bv ks) 0 s.outs r H2
 obtain ⟨n1,n2,n3⟩:=jX (D:=D1) (X:=X) (key:=Bv ks) HD (fr:=zT st (fR tks)) (ρ:=ρ) s.outs 0 r Sh H2 XC (λj _ hj=>by
  rw [hH2 _ (RO j (by omega)) (hkv j (by omega)),if_pos (mo j (by omega))])
 have iJ: ∀l,l∉dead->l∉pl->Ad H' l=(Ad st1.heap l).map (OB.map (Aw dead part)):= λl hl oK=>by
  show Ad (Qn _ _ _ _ _ _) l=_
  rw [n1 l λj _ hj e=>hl (e▸mo j (by omega)),hH2 l oK (λtid Qi e=>hl (e▸(hvd tid Qi).1)),if_neg hl]
 have LU: ∀l,l∈dead->(∀j,j<s.Nj->l≠Bv ks j)->Ad H' l=none:= λl hl hj=>by
  show Ad (Qn _ _ _ _ _ _) l=_
  rw [n1 l λj _ h2=>hj j (by omega),hH2 l (λhp=>hpd l hp hl) (λtid Qi e=>hj s.outs.length (by have:=(MO tid Qi).2;omega) (e.trans (MO tid Qi).1.symm)),if_pos hl]
 have newAt: ∀l b',Ad H' l=some b'->(l∈dead\/Ad st.heap l=none)-> ∃j,j<s.Nj/\l=Bv ks j:=by
  intro l b' hb hd
  refine Classical.byContradiction λhn=>?_
  have lj: ∀j,j<s.Nj->l≠Bv ks j:= λj hj e=>hn ⟨j,hj,e⟩
  rcases Classical.em (l∈dead) with WD|WD
  ·rw [LU l WD lj] at hb;cases hb
  ·rcases hd with hd|hd
   ·exact WD hd
   ·rw [iJ l WD (λhp=>by obtain ⟨_,_,_,_,_,_,_,h1,_⟩:=CB l hp;rw [hd] at h1;cases h1)] at hb
    have:Ad st1.heap l=none:=by
     by_cases hi: ∃t∈Gs 0 s.ins as,t.2.Pq=l
     ·obtain ⟨t,ht,e⟩:=hi
      by_cases Gu:t.1<Aj
      ·rw [<-e,q3 t ht Gu,e];exact hd
      ·obtain ⟨b0,_,h1,_⟩:=q4 t ht Gu
       rw [e,hd] at h1;cases h1
     ·rw [q2 l λt ht e=>hi ⟨t,ht,e.symm⟩];exact hd
    rw [this] at hb;cases hb
 have RH: ∀k,zT st (fR tks)=true-> ∀q,ρ (Fq k)=some q->q.Ay q.g->X.w0.heap.size<=q.g:=by
  intro k uU q hq hg
  rcases (HF.Tr _ q _ hq hg).2 with h1|⟨c,p,h1,h2,h3⟩
  ·exact Nat.le_trans h.1.below.size h1
  ·obtain ⟨t,t1,t2,t0,p',t3,t4,_⟩:=Ot c p _ h2 h3
   have hm:t.2.Pq∈fR tks:=Yc.2 ⟨t,KT▸t1,⟨by rw [t2];exact h1,t0⟩,rfl⟩
   have:=List.all_eq_true.1 uU _ hm
   split at this
   ·rename_i fr tr e te xs hl
    unfold St.at at hl
    have hb:=(h.1.heap t.2.Pq).Ma hl
    simp only [At,Fo,t3] at hb
    rw [hb.1.2.1 _ t4]
    exact hb.1.2.2 this
   ·cases this
 have RF: ∀k q,ρ (Fq k)=some q->k<s.outs.length->q.Ay q.g:=by
  intro k q hq hk
  exact Ev.OH s.outs 0 r Sh xR k (Nat.zero_le _) ((Nat.zero_add _).symm▸hk) q hq
 have hinv: ∀l,l∉dead->(∃t∈Gs 0 s.ins as,t.2.reads=false/\t.2.Pq=l)->fG X D1 w' π st.heap st1.heap l:=by
  rintro l hd ⟨t,ht,h0,rfl⟩
  by_cases Gu:t.1<Aj
  ·exact absurd (List.mem_append_left _ (List.mem_append_left _ (Yc.2 ⟨t,KT▸ht,⟨Gu,h0⟩,rfl⟩))) hd
  ·exact q4 t ht Gu
 have rV: ∀l,(¬ ∃t∈Gs 0 s.ins as,t.2.reads=false/\t.2.Pq=l)->Ad st1.heap l=Ad st.heap l:= λl hn=>by
  by_cases hi: ∃t∈Gs 0 s.ins as,t.2.Pq=l
  ·obtain ⟨t,ht,rfl⟩:=hi
   have hr:t.2.reads=true:=by
    cases h0:t.2.reads with
    |true=>rfl
    |false=>exact absurd ⟨t,ht,h0,rfl⟩ hn
   exact q3 t ht (SB t ht hr)
  ·exact q2 l λt ht e=>hi ⟨t,ht,e.symm⟩
 have OO: ∀l∈pl,∀p,s.ptr=some p->Ad H' l=some (.var p.1 (aJ s.ins (cells.map (Aw dead part)) (Va (Bv ks) 0 s.outs r))):= λl hl p hp=>by
  obtain ⟨p',q,h1,h2,_,_,_,h3,_⟩:=CB l hl
  rw [hp] at h1;cases h1
  show Ad (Qn _ _ _ _ _ _) l=_
  rw [n1 l λj _ hj e=>RO j (by omega) (e▸hl),VU l (λtid Qi e=>(hvd tid Qi).2 (e▸hl))]
  show Ad (kO _ _ _ _).heap l=_
  rw [h2]
  refine DW ?_
  show Ad (Py (st1.heap.map λp=>(p.1,p.2.map (Aw dead part))) dead) l=_
  rw [Ib,Je,if_neg (hpd l hl),rV l (λ⟨t,ht,_,e⟩=>MJ l hl t ht e),h3]
  rfl
 have PF: ∀j,j<s.Nj->s.outs.length<=j-> ∃tid,s.rp=some tid/\j=s.outs.length:= λj h1 h2=>by
  cases xe:s.rp with
  |none=>unfold MSpec.Nj at h1;rw [xe] at h1;simp at h1;omega
  |some tid=>exact ⟨tid,rfl,by have:=(MO tid xe).2;omega⟩
 have hHv: ∀tid,s.rp=some tid->Ad H' (Mo d)=some (.var tid ((Va (Bv ks) 0 s.outs r).drop s.Sw)):= λtid Qi=>by
  show Ad (Qn _ _ _ _ _ _) _=_
  rw [n1 _ λj _ hj e=>hkv j (by omega) tid Qi e.symm,Abu tid Qi]
 suffices WU:Ah X π' (eF st st1 d s pl tks r) a w'/\Am X w' π' (eF st st1 d s pl tks r).heap av0 v by
  obtain ⟨m1,m2⟩:=WU
  have kI: ∀(kj:List (Nat×Nat)) (l:Nat),l∈Uv st.heap ks tks kj->gw st.heap l=true/\ ∃k j t,(k,j)∈kj/\t∈tks/\t=(Bu false k,Loc.row l)/\ks[j]?=some l:=by
   intro kj
   induction kj with
   |nil=>intro l hl;cases hl
   |cons p kj ih=>
    intro l hl
    obtain ⟨k,j⟩:=p
    have up:l∈Uv st.heap ks tks kj->gw st.heap l=true/\ ∃k' j' t,(k',j')∈(k,j)::kj/\t∈tks/\t=(Bu false k',Loc.row l)/\ks[j']?=some l:= λhl=>by
     obtain ⟨h1,k',j',t,h2,h3⟩:=ih l hl
     exact ⟨h1,k',j',t,List.mem_cons_of_mem _ h2,h3⟩
    simp only [Uv] at hl
    split at hl
    ·rename_i x0 l1 l2 h1 h2
     split at hl
     ·rename_i hc
      simp only [Bool.and_eq_true] at hc
      rcases List.mem_cons.1 hl with rfl|hl
      ·have:=List.find?_some h1
       have e1:=Nat.eq_of_beq_eq_true this
       have e2:=Nat.eq_of_beq_eq_true hc.1
       dsimp only at e1
       exact ⟨hc.2,k,j,_,List.mem_cons_self,List.mem_of_find?_eq_some h1,by rw [e1],by rw [h2,e2]⟩
      ·exact up hl
     ·exact up hl
    ·exact up hl
  obtain ⟨r1,r2⟩:=yc h m1 (ls:=Uv st.heap ks tks s.keeps) (n:=s.Cs x) (λl hl=>by
   obtain ⟨_,k,j,t,h1,h2,h3,h4⟩:=kI s.keeps l hl
   have hj:j<ks.length:=(List.getElem?_eq_some_iff.1 h4).1
   have FN:Bv ks j=l:=by
    rw [La hj]
    rw [List.getElem?_eq_getElem hj] at h4
    exact Option.some.inj h4
   have oJ:=qa (k,j) h1
   rw [show π' l=ρ (Fq j) by rw [<-FN];exact oI j (by omega),MQ]
   have hc:πc (Bu false k)=(π l).map full:=VY k l (by rw [<-h3,<-KT];exact h2)
   dsimp only at oJ
   rw [hc] at oJ
   cases hp:π l<;>cases hq:tX (Fq j)<;>(rw [hp,hq] at oJ;exact oJ)) (λl hl=>(kI s.keeps l hl).1) Qh
  exact ⟨π',r1,r2 av0 v m2⟩
 refine ⟨?_,?_⟩
 ·have hx:=Ah.QS (π':=π') (H':=H') (dead:=dead) (part:=part) (inv:= λl=>(∃t∈Gs 0 s.ins as,t.2.reads=false/\t.2.Pq=l)\/l∈pl) (gv:= λb=>Oi πc b\/s.gv g b) h (λb hb=>by
    rcases hb with hb|hb
    ·obtain ⟨t,h1,h0,q,h2,h3,_⟩:=Xw b hb
     exact ⟨_,q, .inl ⟨t,h1,h0,rfl⟩,h2,h3⟩
    ·obtain ⟨l,hl,q,h1,h2,_⟩:=BV b hb
     exact ⟨l,q, .inr hl,h1,h2⟩) LX (λl b0 hd h0=>⟨HR l hd,?_⟩) (λl b' hb hd=>?_) (λl hl=>?_) (λm q hd hp hm hxa=>?_)
  ·have:({tmps:=(kO s.ins (Va (Bv ks) 0 s.outs r) pl (st1.Vr dead part)).tmps,heap:=H'} :St)= {tmps:=st.tmps.map (·.map (Aw dead part)),heap:=H'} :=by
    rw [jd]
    show ({tmps:=st1.tmps.map (·.map (Aw dead part)),heap:=H'} :St)=_
    rw [q1]
   show Ah X π' ({tmps:=(kO s.ins (Va (Bv ks) 0 s.outs r) pl (st1.Vr dead part)).tmps,heap:=H'} :St) a w'
   rw [this]
   exact hx
  ·by_cases MD:l∈pl
   ·obtain ⟨p,q,h1,h2,h3,h4,h5,h6,h7⟩:=CB l MD
    rw [h0] at h6;cases h6
    have oh:=OO l MD p h1
    refine .inr ⟨_,oh,⟨rfl,by rw [j7]⟩,λm=>?_⟩
    unfold eB at pZ
    rw [h1] at pZ
    obtain ⟨cs,k1,k2,k3⟩:=pZ
    rw [<-h7] at k3
    refine ⟨q,h3,h4,cs.toArray,by rw [<-h5];exact k1,?_⟩
    refine Hu.to (dh (H:=st.heap) HR (λl1 b1 sz n hd1 GQ ML=>?_) s.ins 0 cells ik x us o st st1 (Va (Bv ks) 0 s.outs r) Sh cs (has▸hT) WO (has▸RY) k3 (n3 π' VP (λj _ hj=>oI j (by omega)))) (by simpa using k2)
    have hnp:l1∉pl:= λhp=>by
     obtain ⟨_,_,_,_,_,_,_,h8,_⟩:=CB l1 hp
     rw [GQ] at h8;cases h8;cases ML
    by_cases hi: ∃t∈Gs 0 s.ins as,t.2.reads=false/\t.2.Pq=l1
    ·obtain ⟨b1,b',e1,e2,e3,e4,e5,e6⟩:=hinv l1 hd1 hi
     rw [GQ] at e1;cases e1
     exact ⟨b',by rw [iJ l1 hd1 hnp,e2];simp [e4],by rw [e5.row];exact ML⟩
    ·exact ⟨_,by rw [iJ l1 hd1 hnp,rV l1 hi,GQ];rfl,by rw [OB.sN];exact ML⟩
   by_cases hi: ∃t∈Gs 0 s.ins as,t.2.reads=false/\t.2.Pq=l
   ·obtain ⟨b1,b',e1,e2,e3,e4,e5,e6⟩:=hinv l hd hi
    rw [h0] at e1;cases e1
    exact .inr ⟨b',by rw [iJ l hd MD,e2];simp [e4],by rw [e3];exact e5,λ_=>e6 π' H' VP⟩
   ·exact .inl ⟨λhh=>hh.elim hi MD,by rw [iJ l hd MD,rV l hi,h0];rfl⟩
  ·obtain ⟨j,hj,rfl⟩:=newAt l b' hb hd
   refine ⟨Ad1 j hj,?_,λq b hq=>?_⟩
   ·rw [oI j hj]
    rcases Nat.lt_or_ge j s.outs.length with UQ|UQ
    ·rcases n2 j (Nat.zero_le _) (by omega) with ⟨e1,_⟩|⟨b2,e1,e2⟩
     ·rw [show Ad H' (Bv ks j)=none from e1] at hb;cases hb
     ·rw [show Ad H' (Bv ks j)=some b2 from e1] at hb;cases hb
      exact e2 X π' H' (λhf q hq=>RH j hf q hq (RF j q hq UQ)) VP
    ·obtain ⟨tid,Qi,hj0⟩:=PF j hj UQ
     subst hj0
     rw [(MO tid Qi).1,hHv tid Qi] at hb;cases hb
     unfold lE at Zj
     rw [Qi] at Zj
     obtain ⟨q,y1,y2,y3,y4,_⟩:=Zj
     rw [MQ,y1]
     exact ⟨full q,rfl,y2,_,y3,Hu.to (Hu.take s.Sw (n3 π' VP (λj _ hj=>oI j (by omega)))).2 (by simpa using y4)⟩
   ·rw [oI j hj] at hq
    have Lt:=OT _ q hq
    refine ⟨λhf=>by rw [Lt];exact hf,λhf=>?_⟩
    rw [Lt] at hf
    obtain ⟨h1,h2⟩:=HF.Tr _ q b hq hf
    refine ⟨h1,h2.imp id ?_,λl2 r2 WE BY RD=>?_⟩
    ·rintro ⟨c,p,h3,h4,h5⟩
     obtain ⟨t,t1,t2,t0,p',t3,t4,_⟩:=Ot c p b h4 h5
     exact ⟨t.2.Pq,p',List.mem_append_left _ (List.mem_append_left _ (Yc.2 ⟨t,KT▸t1,⟨by rw [t2];exact h3,t0⟩,rfl⟩)),t3,t4⟩
    ·by_cases hk: ∃j,j<s.Nj/\l2=Bv ks j
     ·obtain ⟨j2,hj2,rfl⟩:=hk
      rw [oI j2 hj2] at BY
      rw [OT _ r2 BY] at RD
      have:=HF.inj _ _ r2 q b BY hq RD hf
      unfold Fq at this
      have:j2=j:=by omega
      rw [this]
     ·have e0:π' l2=if l2∈dead then none else π l2:=rS l2 hk
      rw [e0] at BY
      split at BY
      ·cases BY
      ·rename_i MG
       rcases WE with WE|WE
       ·exact absurd WE MG
       ·rw [(h.1.heap l2).emp WE] at BY;cases BY
  ·by_cases hk: ∃j,j<s.Nj/\l=Bv ks j
   ·obtain ⟨j,hj,rfl⟩:=hk
    rw [oI j hj]
    rcases Nat.lt_or_ge j s.outs.length with UQ|UQ
    ·rcases n2 j (Nat.zero_le _) (by omega) with ⟨_,e1⟩|⟨b2,e1,_⟩
     ·exact e1
     ·rw [show Ad H' (Bv ks j)=some b2 from e1] at hl;cases hl
    ·obtain ⟨tid,Qi,hj0⟩:=PF j hj UQ
     subst hj0
     rw [(MO tid Qi).1,hHv tid Qi] at hl;cases hl
   ·have e0:π' l=if l∈dead then none else π l:=rS l hk
    rw [e0]
    split
    ·rfl
    ·rename_i hd
     by_cases MD:l∈pl
     ·obtain ⟨p,_,h1,_⟩:=CB l MD
      rw [OO l MD p h1] at hl;cases hl
     rw [iJ l hd MD] at hl
     by_cases hi: ∃t∈Gs 0 s.ins as,t.2.reads=false/\t.2.Pq=l
     ·obtain ⟨_,b',_,e2,_⟩:=hinv l hd hi
      rw [e2] at hl;cases hl
     ·rw [rV l hi] at hl
      cases h0:Ad st.heap l with
      |none=>exact (h.1.heap l).emp h0
      |some b=>rw [h0] at hl;cases hl
  ·refine LX.block _ (h.1.lt hm).1 λxQ=>?_
   rcases xQ with ho|hg
   rotate_left
   ·obtain ⟨l,hl,q',h1,h2,_⟩:=BV _ hg
    have rT:=h.1.apart hm h1 (h.1.Ay hm) h2
    obtain ⟨_,_,_,_,_,_,_,h3,_⟩:=CB l hl
    obtain ⟨b,hxa,hxb⟩:=hxa
    rw [rT,h3] at hxa;cases hxa
    exact hxb rfl
   obtain ⟨t,t1,t0,p,t3,t4,t5⟩:=Xw _ ho
   have rT:=h.1.apart hm t3 (h.1.Ay hm) t4
   have UY:p=q:=by rw [<-rT,hm] at t3;exact (Option.some.inj t3).symm
   cases PT:t.2 with
   |row l=>
    refine hp ?_
    show m∈whole tks
    unfold whole
    exact List.mem_flatMap.2 ⟨t,KT▸t1,by rw [PT,rT,PT];simp [Loc.Pq]⟩
   |sub l i j=>exact t5 l i j PT (by rw [UY])
   |view l=>rw [PT] at t0;cases t0
 ·have Ado:=n3 π' VP (λj _ hj=>oI j (by omega))
  cases xe:s.rp with
  |some tid=>
   unfold lE at Zj
   rw [xe] at Zj
   obtain ⟨q,y1,y2,y3,y4,rfl⟩:=Zj
   unfold NG at bP
   rw [xe] at bP
   simp only [Option.some.injEq] at bP;subst bP
   refine ⟨full q,tid,_,hHv tid xe,?_,rfl⟩
   rw [<-(MO tid xe).1,oI _ (by have:=(MO tid xe).2;omega),MQ,y1]
   rfl
  |none=>
  unfold lE at Zj
  rw [xe] at Zj
  obtain ⟨Zj,Adu⟩:=Zj
  unfold NG at bP
  rw [xe] at bP
  simp only at bP
  obtain ⟨g1,g2,g3,g4⟩:=Xt s.Gb _ (Sh.drop s.Sw) Adu (Hu.take s.Sw Ado).2
  unfold ZC at bP
  unfold JI at Zj
  split at bP
  ·rename_i hm
   rw [if_pos hm] at Zj
   simp only [Option.some.injEq] at bP;subst bP
   subst Zj
   exact ⟨_,rfl,g3.symm,g4⟩
  ·rename_i hm
   rw [if_neg hm] at Zj
   split at bP
   ·rename_i av1 hga
    simp only [Option.some.injEq] at bP;subst bP
    rcases Zj with Zj|Zj
    ·exact g2 0 _ v (by rw [hga];rfl) (by rw [Zj];rfl)
    ·rw [hga,Zj] at g1;cases g1
   ·simp only [Option.some.injEq] at bP;subst bP;trivial
   ·cases bP
end
end Go.Proofs.Ytjbdmibbbpdnnaa
