/-
  Part 17 of the proof that the statement FnExactLowerBoundWithInverse holds.
-/
import Derived.Test.YtfolipnappekaaaGreatCLowerBoundWithInverse15
namespace Go.Proofs.YtfolipnappekaaaGreat
open Go.RowKit
section
variable {P:Program} {T:Tab} {X:Ctx} {w w':World} {π π':Pi} {H H':List (Nat×OB)}
theorem Uc (k:Nat): ¬Bq true k<Ak:=by unfold Bq Ak;simp
theorem aF {k:Nat} (h:k<100000):Bq false k<Ak:=by unfold Bq Ak;simp;omega
def gF (X:Ctx) (D:Nat->Prop) (w':World) (π:Pi) (H Hn:List (Nat×OB)) (l:Nat):Prop:=
 ∃b0 b',Ad H l=some b0/\Ad Hn l=some b'/\(∀f,OB.map f b0=b0)/\(∀f,OB.map f b'=b')/\b0.al b'/\ ∀π' H',(∀b,Ol π' b\/X.Sc b->D b)->Au X w' π' H' (π l) b'
theorem NX {io:Bool} {k:Nat} {τ:Ty} {a:AC} {t:Nat×Loc} (h:t∈Kl io k (.Ee τ) a):t.1=Bq false k:=by
 cases a<;>simp [Kl,views] at h<;>first|(obtain ⟨_,⟨_,_⟩,rfl⟩:=h;rfl)|(rw [h])
theorem HU {io:Bool} {k:Nat} {e:Ty} {te:TypeId} {a:AC} {t:Nat×Loc} (h:t∈Kl io k (.part e te) a):t.1=Bq io k:=by cases a<;>simp [Kl] at h<;>rw [h]
theorem NY {io:Bool} {k:Nat} {e:Ty} {te:TypeId} {a:AC} {t:Nat×Loc} (h:t∈Kl io k (.row e te) a):t.1=Bq io k:=by cases a<;>simp [Kl] at h<;>rw [h]
theorem HV {io:Bool} {k:Nat} {e:Ty} {te:TypeId} {a:AC} {t:Nat×Loc} (h:t∈Kl io k (.Dq e te) a):t.1=Bq io k:=by cases a<;>simp [Kl] at h<;>rw [h]
theorem a5 {D:Nat->Prop} {π':Pi} {fr:Bool} {e:Ty} {es:List Value} {y:e.den} (hD: ∀b,Ol π' b\/X.Sc b->D b) (h:Cells w' D e es y):Cells w' (Bd X.w0.heap.size X.Sc π' (fr&&e.flat)) e es y:=by
 cases hf:e.flat with
 |true=>exact Cells.flat e es y hf h
 |false=>exact Cells.Cj (Nat.le_refl _) (λ_ _ _=>rfl) (λb _ hb=>by
   rcases hb with hb|hb|⟨hb,_⟩
   ·exact hD b (.inl hb)
   ·exact hD b (.inr hb)
   ·simp at hb) e es y h
theorem HX {D P:Nat->Prop} {g o:Nat} {cur:Array Value} {tr:Bool} {e:Ty} {xs:List e.den}
  (h: ∀(i:Nat) (x:e.den),xs[i]?=some x-> ∃es:List Value,es.length=e.size/\(∀j u,es[j]?=some u->cur[(o+i)*e.size+j]?=some u)/\Cells w' D e es x) (ht:(tr&&e.flat)=true):Pw w' P g o cur e xs:=by
 simp only [Bool.and_eq_true] at ht
 exact gZ ht.2 h
theorem GV {D:Nat->Prop} (h:Hz X w π H) {k:Nat} {c:CK} {ys:c.den} {a:AC} {u:Value} {r:Option Real} {x:c.den} {cur st1:St} (hs:w.heap.size<=w'.heap.size)
  (hU: ∀l i j q b,a= .sub l i j->π l=some q->q.Ba b->b<w.heap.size->(∀r',r=some r'-> ¬r'.Ba b)->w'.heap[b]?=w.heap[b]?)
  {V:List Nat} (ht:Zq w (Jc X π V) r u c x/\Mv w π H true a u r c x) (hr:aY w' D r c ys) (he:Wc cur c ys a=some st1) (bG: ∀t∈Kl true k c a,Ad cur.heap t.2.Pp=Ad H t.2.Pp):
  st1.tmps=cur.tmps/\(∀m,(∀t∈Kl true k c a,m≠t.2.Pp)->Ad st1.heap m=Ad cur.heap m)/\ ∀t∈Kl true k c a,gF X D w' π H st1.heap t.2.Pp:=by
 obtain ⟨hc,ht⟩:=ht
 cases c with
 |Ee τ=>cases a<;>simp [Wc] at he;subst he;exact ⟨rfl,λ_ _=>rfl,λt ht=>by simp [Kl] at ht⟩
 |row e te=>
  simp only [Mv] at ht
  cases a<;>simp only [] at ht<;>first|(exact ht.elim)|skip
  ·simp only [Wc,Option.some.injEq] at he;subst he
   exact ⟨rfl,λ_ _=>rfl,λt ht=>by simp [Kl] at ht⟩
  ·rename_i l off len
   obtain ⟨rfl,rfl,rfl,fr,tr,hl⟩:=ht
   have Ly:Ad cur.heap l=some (.arr fr tr e te x):=(bG _ (List.mem_singleton.2 rfl)).trans hl
   simp only [Wc,St.at,Ly] at he
   split at he
   ·rename_i Ez
    obtain ⟨_,h1,_⟩:=Ez
    simp only [Option.some.injEq] at he;subst he
    refine ⟨rfl,λm hm=>Bs _ _ _ _ (hm _ (List.mem_singleton.2 rfl)),λt Om=>?_⟩
    have Om:=List.mem_singleton.1 Om
    subst Om
    refine ⟨_,_,hl,Cc _ _ _ _ Ly,λ_=>rfl,λ_=>rfl,⟨rfl,h1.symm⟩,λπ' H' hD=>?_⟩
    have hb:=(h.heap l).Ld hl
    change Au X w' π' H' (π l) _
    simp only [Au,Fm] at hb⊢
    cases hp:π l with
    |none=>rw [hp] at hr;exact hr
    |some q=>
     rw [hp] at hr hb
     obtain ⟨k1,cu,ti,k2,k3,k4,k5,k6⟩:=hr
     exact ⟨⟨k1.1,k1.2,λhh=>hb.1.2.2 (by simp only [Bool.and_eq_true] at hh;exact hh.1)⟩,cu,ti,k2,k3,k4,k5,λi y hy=>by
      obtain ⟨es,g1,g2,g3⟩:=k6 i y hy
      exact ⟨es,g1,g2,a5 hD g3⟩,λht=>HX k6 ht⟩
   ·cases he
  ·rename_i l i j
   obtain ⟨⟨_,hf⟩,tid,xs,hl,hx,q,hq,Oy,hre⟩:=ht
   have Ly:Ad cur.heap l=some (.Da (.slice e) tid xs):=(bG _ (List.mem_singleton.2 rfl)).trans hl
   simp only [Wc,St.at,Ly,hx] at he
   rw [dif_pos trivial] at he
   ·split at he
    ·rename_i h1
     simp only [Option.some.injEq] at he;subst he
     refine ⟨rfl,λm hm=>Bs _ _ _ _ (hm _ (List.mem_singleton.2 rfl)),λt Om=>?_⟩
     have Om:=List.mem_singleton.1 Om
     subst Om
     refine ⟨_,_,hl,Cc _ _ _ _ Ly,λ_=>rfl,λ_=>rfl,⟨rfl,by simp⟩,λπ' H' _=>?_⟩
     show Ip w' (π l) (.slice e) tid _
     rw [hq]
     refine hre w' ys hs (λb Fh hb hn=>hU l i j q b rfl hq hb Fh hn) ?_
     have hv:=hc.1
     rw [<-show List.length ys=List.length x from h1] at hv
     exact Mh.BR hr hf hv
    ·cases he
 |Dq e te=>
  simp only [Mv] at ht
  cases a<;>simp only [] at ht<;>first|(exact ht.elim)|skip
  ·simp only [Wc,Option.some.injEq] at he;subst he
   exact ⟨rfl,λ_ _=>rfl,λt ht=>by simp [Kl] at ht⟩
  ·rename_i l off len
   obtain ⟨rfl,rfl,rfl,hl⟩:=ht
   have Ly:Ad cur.heap l=some (.Da e te x):=(bG _ (List.mem_singleton.2 rfl)).trans hl
   simp only [Wc,St.at,Ly] at he
   split at he
   ·rename_i Ez
    obtain ⟨_,h1,_⟩:=Ez
    simp only [Option.some.injEq] at he;subst he
    refine ⟨rfl,λm hm=>Bs _ _ _ _ (hm _ (List.mem_singleton.2 rfl)),λt Om=>?_⟩
    have Om:=List.mem_singleton.1 Om
    subst Om
    refine ⟨_,_,hl,Cc _ _ _ _ Ly,λ_=>rfl,λ_=>rfl,⟨rfl,h1.symm⟩,λπ' H' _=>?_⟩
    show Ip w' (π l) e te _
    cases hp:π l with
    |none=>rw [hp] at hr;exact hr
    |some q=>rw [hp] at hr;exact hr
   ·cases he
  ·rename_i l i j
   obtain ⟨_,tid,xs,hl,hx,q,hq,Oy,hre⟩:=ht
   have Ly:Ad cur.heap l=some (.Da (.slice e) tid xs):=(bG _ (List.mem_singleton.2 rfl)).trans hl
   simp only [Wc,St.at,Ly,hx] at he
   rw [dif_pos trivial] at he
   ·split at he
    ·rename_i h1
     simp only [Option.some.injEq] at he;subst he
     refine ⟨rfl,λm hm=>Bs _ _ _ _ (hm _ (List.mem_singleton.2 rfl)),λt Om=>?_⟩
     have Om:=List.mem_singleton.1 Om
     subst Om
     refine ⟨_,_,hl,Cc _ _ _ _ Ly,λ_=>rfl,λ_=>rfl,⟨rfl,by simp⟩,λπ' H' _=>?_⟩
     show Ip w' (π l) (.slice e) tid _
     rw [hq]
     refine hre w' ys hs (λb Fh hb hn=>hU l i j q b rfl hq hb Fh hn) ?_
     have hv:=hc.1
     rw [<-show List.length ys=List.length x from h1] at hv
     exact Ip.BR (te:=te) hr hv
    ·cases he
 |part e te=>cases a<;>simp [Wc] at he<;>first|(simp only [Mv] at ht;exact ht.2.elim)
 |Ah e te kp=>exact absurd ht.1 (by simp)
theorem GW {D:Nat->Prop} (h:Hz X w π H) {k:Nat} {e:Ty} {te:TypeId} {ys:List e.den} {a:AC} {u:Value} {r:Option Real} {x:(CK.part e te).den} {cur st1:St}
  {V:List Nat} (ht:Zq w (Jc X π V) r u (.part e te) x/\Mv w π H true a u r (.part e te) x) (hr:aY w' D r (.row e te) ys) (he:AM cur e ys a=some st1) (bG: ∀t∈Kl true k (.part e te) a,Ad cur.heap t.2.Pp=Ad H t.2.Pp):
  st1.tmps=cur.tmps/\(∀m,(∀t∈Kl true k (.part e te) a,m≠t.2.Pp)->Ad st1.heap m=Ad cur.heap m)/\ ∀t∈Kl true k (.part e te) a,gF X D w' π H st1.heap t.2.Pp:=by
 obtain ⟨hc,hf,ht⟩:=ht
 cases a<;>simp only [] at ht<;>first|(exact ht.elim)|skip
 rename_i l off len
 obtain ⟨rfl,_,fr,tr,hl⟩:=ht
 have Ly:Ad cur.heap l=some (.arr fr tr e te x.1):=(bG _ (List.mem_singleton.2 rfl)).trans hl
 simp only [AM,St.at,Ly] at he
 split at he
 ·rename_i Ez
  obtain ⟨_,h1⟩:=Ez
  simp only [Option.some.injEq] at he;subst he
  refine ⟨rfl,λm hm=>Bs _ _ _ _ (hm _ (List.mem_singleton.2 rfl)),λt Om=>?_⟩
  have Om:=List.mem_singleton.1 Om
  subst Om
  refine ⟨_,_,hl,Cc _ _ _ _ Ly,λ_=>rfl,λ_=>rfl,⟨rfl,h1.symm⟩,λπ' H' _=>?_⟩
  have hb:=(h.heap l).Ld hl
  change Au X w' π' H' (π l) _
  simp only [Au,Fm] at hb⊢
  cases hp:π l with
  |none=>rw [hp] at hr;exact hr
  |some q=>
   rw [hp] at hr hb
   obtain ⟨k1,cu,ti,k2,k3,k4,k5,k6⟩:=hr
   exact ⟨⟨k1.1,k1.2,hb.1.2.2⟩,cu,ti,k2,k3,k4,k5,λi y hy=>by
    obtain ⟨es,g1,g2,g3⟩:=k6 i y hy
    exact ⟨es,g1,g2,Cells.flat e es y hf g3⟩,λ_=>gZ hf k6⟩
 ·cases he
def m4 (X:Ctx) (D:Nat->Prop) (w':World) (π:Pi) (H:List (Nat×OB)) (tk:List (Nat×Loc)) (cur st1:St):Prop:=
 st1.tmps=cur.tmps/\(∀m,(∀t∈tk,m≠t.2.Pp)->Ad st1.heap m=Ad cur.heap m)/\(∀t∈tk,t.1<Ak->Ad st1.heap t.2.Pp=Ad cur.heap t.2.Pp)/\(∀t∈tk,¬t.1<Ak->gF X D w' π H st1.heap t.2.Pp)
theorem o3 {D:Nat->Prop} (h:Hz X w π H) {V:List Nat} {πc:Pi} {tks:List (Nat×Loc)} (hs:w.heap.size<=w'.heap.size)
  (hU: ∀t∈tks,∀q b,π t.2.Pp=some q->q.Ba b->b<w.heap.size->(∀r',πc t.1=some r'-> ¬r'.Ba b)->w'.heap[b]?=w.heap[b]?):
  ∀(cs:List (Bool×CK)) (k:Nat) (x:Ins.den cs) (as:List AC) (us:List Value) (o:IOs.den cs) (cur st1:St),k+cs.length<100000->(∀t∈Gw k cs as,t∈tks)->((Gw k cs as).map λt=>t.2.Pp).Nodup->
   lu X w π V H πc k cs x as us->He w' D πc k cs o->Ea cs o as cur=some st1->(∀t∈Gw k cs as,Ad cur.heap t.2.Pp=Ad H t.2.Pp)->
   m4 X D w' π H (Gw k cs as) cur st1
 | [],k,x,as,us,o,cur,st1,_,_,_,_,_,he,_=>by
  simp only [Ea,Option.some.injEq] at he;subst he
  have e0:Gw k [] as= []:=by cases as<;>rfl
  exact ⟨rfl,λ_ _=>rfl,by rw [e0];simp,by rw [e0];simp⟩
 |p::r,k,x,[],us,o,cur,st1,_,_,_,ht,_,_,_=>ht.elim
 |p::r,k,x,a::as,[],o,cur,st1,_,_,_,ht,_,_,_=>ht.elim
 |(io,c)::r,k,x,a::as,u::us,o,cur,st1,hk,Ka,PA,ht,ho,he,bG=>by
  simp only [List.length_cons] at hk
  simp only [Gw] at Ka PA bG⊢
  rw [List.map_append] at PA
  obtain ⟨n1,n2,n3⟩:=List.nodup_append.1 PA
  have apart: ∀t∈Kl io k c a,∀t'∈Gw (k+1) r as,t'.2.Pp≠t.2.Pp:= λt h1 t' h2 e=>n3 _ (List.mem_map.2 ⟨t,h1,rfl⟩) _ (List.mem_map.2 ⟨t',h2,rfl⟩) e.symm
  have rest: ∀(Sq:St) (o':IOs.den r),He w' D πc (k+1) r o'->Ea r o' as Sq=some st1->Sq.tmps=cur.tmps->(∀m,(∀t∈Kl io k c a,m≠t.2.Pp)->Ad Sq.heap m=Ad cur.heap m)->
    (∀t∈Kl io k c a,t.1<Ak->Ad Sq.heap t.2.Pp=Ad cur.heap t.2.Pp)->(∀t∈Kl io k c a,¬t.1<Ak->gF X D w' π H Sq.heap t.2.Pp)->
    m4 X D w' π H (Kl io k c a++Gw (k+1) r as) cur st1:=by
   intro Sq o' h1 h2 h3 h4 h5 h6
   obtain ⟨g1,g2,g3,g4⟩:=o3 h hs hU r (k+1) x.2 as us o' Sq st1 (by omega) (λt ht=>Ka t (List.mem_append_right _ ht)) n2 ht.2 h1 h2 (λt Om=>by
    rw [h4 _ λt0 ht0=>apart t0 ht0 t Om];exact bG t (List.mem_append_right _ Om))
   have hd: ∀t∈Kl io k c a,Ad st1.heap t.2.Pp=Ad Sq.heap t.2.Pp:= λt Om=>g2 _ λt' rC=>(apart t Om t' rC).symm
   refine ⟨g1.trans h3,λm hm=>?_,λt Om Fh=>?_,λt Om Fh=>?_⟩
   ·rw [g2 m λt ht=>hm t (List.mem_append_right _ ht),h4 m λt ht=>hm t (List.mem_append_left _ ht)]
   ·rcases List.mem_append.1 Om with Om|Om
    ·rw [hd t Om,h5 t Om Fh]
    ·rw [g3 t Om Fh,h4 _ λt0 ht0=>apart t0 ht0 t Om]
   ·rcases List.mem_append.1 Om with Om|Om
    ·obtain ⟨b0,b',q1,q2,q3⟩:=h6 t Om Fh
     exact ⟨b0,b',q1,(hd t Om).trans q2,q3⟩
    ·exact g4 t Om Fh
  have same: ∀o',He w' D πc (k+1) r o'->Ea r o' as cur=some st1->(∀t∈Kl io k c a,t.1<Ak)->m4 X D w' π H (Kl io k c a++Gw (k+1) r as) cur st1:= λo' h1 h2 h3=>rest cur o' h1 h2 rfl (λ_ _=>rfl) (λ_ _ _=>rfl) (λt h4 h5=>absurd (h3 t h4) h5)
  cases io with
  |false=>
   have h3: ∀t∈Kl false k c a,t.1<Ak:= λt h4=>by rcases yc h4 with ⟨h5,_⟩|⟨h5,_⟩<;>(rw [h5];exact aF (by omega))
   cases c with
   |Ee τ=>exact same o ho (by simpa only [Ea] using he) h3
   |row e te=>exact same o ho (by simpa only [Ea] using he) h3
   |Dq e te=>exact same o ho (by simpa only [Ea] using he) h3
   |part e te=>exact same o ho (by simpa only [Ea] using he) h3
   |Ah e te kp=>exact same o ho (by simpa only [Ea] using he) h3
  |true=>
   have row: ∀(ys:c.den) (o':IOs.den r),(∀t∈Kl true k c a,t.1=Bq true k)->aY w' D (πc (Bq true k)) c ys->He w' D πc (k+1) r o'->(∃Sq,Wc cur c ys a=some Sq/\Ea r o' as Sq=some st1)->m4 X D w' π H (Kl true k c a++Gw (k+1) r as) cur st1:=by
    intro ys o' h0 h1 h2 h3
    obtain ⟨Sq,hp,h3⟩:=h3
    ·obtain ⟨q1,q2,q3⟩:=GV (k:=k) h hs (λl i j q b ea hq hb Fh hn=>by
      cases c with
      |Ee τ=>exact absurd (ht.1.2:πc _=none) (by subst ea;simp [Wc] at hp)
      |row e te=>subst ea;exact hU (Bq true k, .sub l i j) (Ka _ (List.mem_append_left _ (List.mem_singleton.2 rfl))) q b hq hb Fh hn
      |Dq e te=>subst ea;exact hU (Bq true k, .sub l i j) (Ka _ (List.mem_append_left _ (List.mem_singleton.2 rfl))) q b hq hb Fh hn
      |Ah e te kp=>exact absurd ht.1.2.1 (by simp)
      |part e te=>exact absurd ht.1.2.2 (by subst ea;exact λh=>h)) ht.1 h1 hp (λt Om=>bG t (List.mem_append_left _ Om))
     exact rest Sq o' h2 h3 q1 q2 (λt h4 h5=>absurd h5 (by rw [h0 t h4];exact Uc k)) (λt h4 _=>q3 t h4)
   cases c with
   |Ee τ=>exact same o ho (by simpa only [Ea] using he) (λt h4=>by rw [NX h4];exact aF (by omega))
   |Ah e te kp=>exact absurd ht.1.2.1 (by simp)
   |row e te=>
    simp only [Ea] at he
    split at he
    ·rename_i Sq hp;exact row o.1 o.2 (λt ht=>NY ht) ho.1 ho.2 ⟨Sq,hp,he⟩
    ·cases he
   |Dq e te=>
    simp only [Ea] at he
    split at he
    ·rename_i Sq hp;exact row o.1 o.2 (λt ht=>HV ht) ho.1 ho.2 ⟨Sq,hp,he⟩
    ·cases he
   |part e te=>
    simp only [Ea] at he
    split at he
    ·rename_i Sq hp
     obtain ⟨q1,q2,q3⟩:=GW (k:=k) h ht.1 ho.1 hp (λt Om=>bG t (List.mem_append_left _ Om))
     exact rest Sq o.2 ho.2 he q1 q2 (λt h4 h5=>absurd h5 (by rw [HU h4];exact Uc k)) (λt h4 _=>q3 t h4)
    ·cases he
theorem zN {fr:Bool} {c:CK} {x:c.den} {u:Value} {r:Option Real} {D:Nat->Prop} (h:Zq w' D r u c x):
  (pR fr c x=none/\r=none)\/ ∃b',pR fr c x=some b'/\ ∀(X:Ctx) π' H',(fr=true-> ∀q,r=some q->X.w0.heap.size<=q.g)->(∀b,Ol π' b\/X.Sc b->D b)->Au X w' π' H' r b':=by
 cases c with
 |Ee τ=>exact .inl ⟨rfl,h.1⟩
 |row e te=>
  refine .inr ⟨_,rfl,λX π' H' zh hD=>?_⟩
  obtain ⟨_,h⟩:=h
  simp only [aY] at h
  simp only [Au,Fm]
  cases r with
  |none=>exact h
  |some q=>
   obtain ⟨k1,cu,ti,k2,k3,k4,k5,k6⟩:=h
   exact ⟨⟨k1.1,k1.2,λh1=>zh (by simp only [Bool.and_eq_true] at h1;exact h1.1) q rfl⟩,cu,ti,k2,k3,k4,k5,λi y hy=>by
    obtain ⟨es,g1,g2,g3⟩:=k6 i y hy
    exact ⟨es,g1,g2,a5 hD g3⟩,λh=>by cases h⟩
 |Dq e te=>exact .inr ⟨_,rfl,λX π' H' _ _=>h.2⟩
 |Ah e te kp=>exact .inr ⟨_,rfl,λX π' H' _ hD=>⟨Ta.El h.2 λb hb=>hD b (hb.imp id λh=>h.elim id λh=>by cases h.1),trivial⟩⟩
 |part e te=>
  refine .inr ⟨_,rfl,λX π' H' zh hD=>?_⟩
  obtain ⟨_,hf,h⟩:=h
  simp only [Au,Fm]
  cases r with
  |none=>exact h
  |some q=>
   obtain ⟨k1,cu,ti,k2,k3,k4,k5,k6⟩:=h
   exact ⟨⟨k1.1,k1.2,λh1=>zh (by simp only [Bool.and_eq_true] at h1;exact h1.1) q rfl⟩,cu,ti,k2,k3,k4,k5,λi y hy=>by
    obtain ⟨es,g1,g2,g3⟩:=k6 i y hy
    exact ⟨es,g1,g2,a5 hD g3⟩,λh=>by cases h⟩
theorem l7 {D:Nat->Prop} {key:Nat->Nat} (KJ: ∀i j,key i=key j->i=j) {fr:Bool} {ρ:Pi} : ∀(cs:List CK) (k:Nat) (x:CKs.den cs) (us:List Value) (H:List (Nat×OB)),Ep w' D ρ k cs x us->
  (∀j,k<=j->j<k+cs.length->Ad H (key j)=none)->
  (∀l,(∀j,k<=j->j<k+cs.length->l≠key j)->Ad (Qo fr key k cs x H) l=Ad H l)/\
  (∀j,k<=j->j<k+cs.length->(Ad (Qo fr key k cs x H) (key j)=none/\ρ (Fq j)=none)\/
   ∃b',Ad (Qo fr key k cs x H) (key j)=some b'/\ ∀(X:Ctx) π' H',(fr=true-> ∀q,ρ (Fq j)=some q->X.w0.heap.size<=q.g)->(∀b,Ol π' b\/X.Sc b->D b)->Au X w' π' H' (ρ (Fq j)) b')/\
  (∀π',(∀b,Ol π' b\/X.Sc b->D b)->(∀j,k<=j->j<k+cs.length->π' (key j)=ρ (Fq j))->Ia X w' π' (Qo fr key k cs x H) (Vm key k cs x) us)
 | [],k,x,[],H,_,_=>⟨λ_ _=>rfl,λj h1 h2=>by simp at h2;omega,λ_ _ _=>trivial⟩
 | [],_,_,_::_,_,h,_=>h.elim
 |_::_,_,_,[],_,h,_=>h.elim
 |c::r,k,x,u::us,H,h,hn=>by
  simp only [List.length_cons] at hn⊢
  simp only [Qo,Vm]
  have th:=hn k (Nat.le_refl _) (by omega)
  have ZD: ∀l,l≠key k->Ad (wQ H (key k) (pR fr c x.1)) l=Ad H l:=by
   intro l hl
   cases pR fr c x.1 with
   |some b=>exact Jq _ _ _ _ hl
   |none=>rfl
  have Aa3:Ad (wQ H (key k) (pR fr c x.1)) (key k)=pR fr c x.1:=by
   cases pR fr c x.1 with
   |some b=>exact Kn _ _ _ th
   |none=>exact th
  generalize (wQ H (key k) (pR fr c x.1))=H1 at ZD Aa3⊢
  obtain ⟨g1,g2,g3⟩:=l7 KJ (fr:=fr) r (k+1) x.2 us H1 h.2 (λj h1 h2=>by
   rw [ZD _ λe=>by have:=KJ _ _ e;omega];exact hn j (by omega) (by omega))
  have OU:Ad (Qo fr key (k+1) r x.2 H1) (key k)=pR fr c x.1:=by
   rw [g1 _ λj h1 h2 e=>by have:=KJ _ _ e;omega];exact Aa3
  refine ⟨λl hl=>?_,λj h1 h2=>?_,λπ' hd TQ=>⟨?_,?_⟩⟩
  ·rw [g1 l λj h1 h2=>hl j (by omega) (by omega)]
   exact ZD l (hl k (Nat.le_refl _) (by omega))
  ·rcases Nat.eq_or_lt_of_le h1 with e|h1
   ·subst e
    rw [OU]
    exact zN h.1
   ·exact g2 j h1 (by omega)
  ·have h1:=h.1
   have ZO:=TQ k (Nat.le_refl _) (by omega)
   cases c with
   |Ee τ=>
    obtain ⟨cb,c1,c2⟩:=h1.2
    exact ⟨cb,by have:=a5 (fr:=true) hd c1;simpa using this,c2⟩
   |row e te=>exact ⟨_,e.size,List.length x.1,OU,rfl,by simp,by rw [ZO];exact h1.1⟩
   |Dq e te=>exact ⟨_,e.size,List.length x.1,OU,rfl,by simp,by rw [ZO];exact h1.1⟩
   |Ah e te kp=>exact ⟨_,1,List.length x.1,OU,rfl,by simp,by rw [ZO];exact h1.1⟩
   |part e te=>trivial
  ·exact g3 π' hd λj h1 h2=>TQ j (by omega) (by omega)
theorem zC {ks:List Nat} {n:Nat} (h:tF ks n=true):ks.length=n/\ks.Nodup/\ ∀l∈ks,l<Ak:=by
 unfold tF at h
 simp only [Bool.and_eq_true] at h
 refine ⟨Nat.eq_of_beq_eq_true h.1,Qn h.2.1,λl hl=>?_⟩
 have:=List.all_eq_true.1 h.2.2 l hl
 simpa using this
theorem Le {ks:List Nat} {j:Nat} (h:j<ks.length):Bu ks j=ks[j]:=by
 unfold Bu
 rw [List.getElem?_eq_getElem h]
theorem vY {ks:List Nat} (hn:ks.Nodup) (hl: ∀l∈ks,l<Ak): ∀i j,Bu ks i=Bu ks j->i=j:=by
 intro i j h
 by_cases hi:i<ks.length
 ·by_cases hj:j<ks.length
  ·rw [Le hi,Le hj] at h
   rcases Nat.lt_trichotomy i j with Fh|he|Fh
   ·exact absurd h (List.pairwise_iff_getElem.1 hn i j hi hj Fh)
   ·exact he
   ·exact absurd h.symm (List.pairwise_iff_getElem.1 hn j i hj hi Fh)
  ·have h1:=hl _ (List.getElem_mem hi)
   rw [Le hi] at h
   unfold Bu at h
   rw [List.getElem?_eq_none (by omega)] at h
   simp only at h
   omega
 ·by_cases hj:j<ks.length
  ·have h1:=hl _ (List.getElem_mem hj)
   rw [Le hj] at h
   unfold Bu at h
   rw [List.getElem?_eq_none (by omega)] at h
   simp only at h
   omega
  ·unfold Bu at h
   rw [List.getElem?_eq_none (by omega),List.getElem?_eq_none (by omega)] at h
   simp only at h
   omega
theorem Ik: ∀(H:List (Nat×OB)) (dead:List Nat) (l:Nat),Ad (Qa H dead) l=if l∈dead then none else Ad H l
 | [],dead,l=>by simp [Qa,Ad]
 |(k,b)::r,dead,l=>by
  simp only [Qa]
  have ih:=Ik r dead l
  by_cases hk:k∈dead
  ·rw [if_pos (by simpa using hk),ih]
   split
   ·rfl
   ·rename_i hl
    simp only [Ad]
    rw [if_neg (λ(e:k=l)=>hl (e▸hk))]
  ·rw [if_neg (by simpa using hk)]
   simp only [Ad]
   split
   ·rename_i e;subst e;rw [if_neg hk]
   ·exact ih
theorem mem_keys {ks:List Nat} {l:Nat} :l∈ks↔ ∃k,k<ks.length/\l=Bu ks k:=
 ⟨λh=>by obtain ⟨k,hk,e⟩:=List.getElem_of_mem h;exact ⟨k,hk,by rw [Le hk,e]⟩,λ⟨k,hk,e⟩=>by rw [e,Le hk];exact List.getElem_mem hk⟩
theorem Yz {tks:List (Nat×Loc)} {l:Nat} :l∈gQ tks↔ ∃t∈tks,(t.1<Ak/\t.2.reads=false)/\t.2.Pp=l:=by
 unfold gQ
 simp only [List.mem_map,List.mem_filter,Bool.and_eq_true,Nat.blt_eq,Bool.not_eq_true']
 exact ⟨λ⟨t,⟨h1,h2⟩,h3⟩=>⟨t,h1,h2,h3⟩,λ⟨t,h1,h2,h3⟩=>⟨t,⟨h1,h2⟩,h3⟩⟩
theorem tG {tks:List (Nat×Loc)} (h:(tks.map λt=>t.2.Pp).Nodup) {t t':Nat×Loc} (ht:t∈tks) (rC:t'∈tks) (he:t.2.Pp=t'.2.Pp):t=t':=by
 induction tks with
 |nil=>cases ht
 |cons a r ih=>
  simp only [List.map_cons] at h
  obtain ⟨h1,h2⟩:=List.nodup_cons.1 h
  rcases List.mem_cons.1 ht with rfl|ht<;>rcases List.mem_cons.1 rC with rfl|rC
  ·rfl
  ·exact (h1 (List.mem_map.2 ⟨t',rC,he.symm⟩)).elim
  ·exact (h1 (he▸List.mem_map.2 ⟨t,‹t∈r›,rfl⟩)).elim
  ·exact ih h2 ht rC
theorem Ep.full {D:Nat->Prop} {ρ:Pi} : ∀(cs:List CK) (k:Nat) (x:CKs.den cs) (us:List Value),Ep w D ρ k cs x us->Ep w D (λl=>(ρ l).map full) k cs x us
 | [],_,_,[],h=>h
 | [],_,_,_::_,h=>h.elim
 |_::_,_,_,[],h=>h.elim
 |c::r,k,x,u::us,h=>⟨by
   have h1:=h.1
   show Zq w D ((ρ (Fq k)).map _) u c x.1
   cases c with
   |Ee τ=>rw [h1.1];exact ⟨rfl,h1.2⟩
   |row e te=>cases hp:ρ (Fq k)<;>(rw [hp] at h1;exact h1)
   |Dq e te=>cases hp:ρ (Fq k)<;>(rw [hp] at h1;exact h1)
   |Ah e te kp=>cases hp:ρ (Fq k)<;>(rw [hp] at h1;exact h1)
   |part e te=>cases hp:ρ (Fq k)<;>(rw [hp] at h1;exact h1),Ep.full r (k+1) x.2 us h.2⟩
theorem Ep.SD {D:Nat->Prop} {ρ:Pi} : ∀(cs:List CK) (k0:Nat) (x:CKs.den cs) (us:List Value),Ep w D ρ k0 cs x us-> ∀j,k0<=j->j<k0+cs.length-> ∀q,ρ (Fq j)=some q->q.Ba q.g
 | [],k0,_,_,_,j,h1,h2,_,_=>by simp at h2;omega
 |_::_,_,_,[],h,_,_,_,_,_=>h.elim
 |c::r,k0,x,u::us,ho,j,h1,h2,q,hq=>by
  rcases Nat.eq_or_lt_of_le h1 with e|h1
  ·subst e
   have:=ho.1
   cases c with
   |Ee τ=>rw [hq] at this;cases this.1
   |row e te=>rw [hq] at this;exact this.2.1.1
   |Dq e te=>rw [hq] at this;exact this.2.1
   |part e te=>rw [hq] at this;exact this.2.2.1.1
   |Ah e te kp=>rw [hq] at this;exact this.2.1
  ·exact Ep.SD r (k0+1) x.2 us ho.2 j h1 (by simp at h2;omega) q hq
theorem Mh.any {D D':Nat->Prop} {r:Option Real} {e:Ty} {xs:List e.den} (hf:e.flat=true) (h:Mh w D r e xs):Mh w D' r e xs:=by
 cases r with
 |none=>exact h
 |some r=>
  obtain ⟨k1,cu,ti,k2,k3,k4,k5,k6⟩:=h
  exact ⟨k1,cu,ti,k2,k3,k4,k5,λi y hy=>by
   obtain ⟨es,g1,g2,g3⟩:=k6 i y hy
   exact ⟨es,g1,g2,Cells.flat e es y hf g3⟩⟩
theorem Ep.any {D D':Nat->Prop} {ρ:Pi} : ∀(cs:List CK) (k:Nat) (x:CKs.den cs) (us:List Value),cs.all (·.flat)=true->Ep w D ρ k cs x us->Ep w D' ρ k cs x us
 | [],_,_,[],_,h=>h
 | [],_,_,_::_,_,h=>h.elim
 |_::_,_,_,[],_,h=>h.elim
 |c::r,k,x,u::us,hf,h=>by
  simp only [List.all_cons,Bool.and_eq_true] at hf
  refine ⟨?_,Ep.any r (k+1) x.2 us hf.2 h.2⟩
  have h1:=h.1
  cases c with
  |Ee τ=>exact ⟨h1.1,Bb.flat hf.1 h1.2⟩
  |row e te=>exact ⟨h1.1,Mh.any hf.1 h1.2⟩
  |Dq e te=>exact h1
  |part e te=>exact ⟨h1.1,h1.2.1,Mh.any hf.1 h1.2.2⟩
  |Ah e te kp=>exact absurd hf.1 (by simp [CK.flat])
theorem He.any {D D':Nat->Prop} {π:Pi} : ∀(cs:List (Bool×CK)) (k:Nat) (x:IOs.den cs),(cs.all λp=>!p.1||p.2.flat)=true->He w D π k cs x->He w D' π k cs x
 | [],_,_,_,h=>h
 |(false,_)::r,k,x,hf,h=>He.any r (k+1) x (by simp only [List.all_cons,Bool.and_eq_true] at hf;exact hf.2) h
 |(true, .Ee _)::r,k,x,hf,h=>He.any r (k+1) x (by simp only [List.all_cons,Bool.and_eq_true] at hf;exact hf.2) h
 |(true, .Ah _ _ _)::r,k,x,hf,h=>He.any r (k+1) x (by simp only [List.all_cons,Bool.and_eq_true] at hf;exact hf.2) h
 |(true, .row e te)::r,k,x,hf,h=>by
  simp only [List.all_cons,Bool.and_eq_true,Bool.not_true,Bool.false_or] at hf
  exact ⟨Mh.any hf.1 h.1,He.any r (k+1) x.2 hf.2 h.2⟩
 |(true, .Dq e te)::r,k,x,hf,h=>by
  simp only [List.all_cons,Bool.and_eq_true,Bool.not_true,Bool.false_or] at hf
  exact ⟨h.1,He.any r (k+1) x.2 hf.2 h.2⟩
 |(true, .part e te)::r,k,x,hf,h=>by
  simp only [List.all_cons,Bool.and_eq_true,Bool.not_true,Bool.false_or] at hf
  exact ⟨Mh.any hf.1 h.1,He.any r (k+1) x.2 hf.2 h.2⟩
theorem nL {tks:List (Nat×Loc)} {l:Nat} :l∈uV tks↔ ∃t∈tks,t.2.reads=true/\t.2.Pp=l:=by
 unfold uV
 simp only [List.mem_map,List.mem_filter]
 exact ⟨λ⟨t,⟨h1,h2⟩,h3⟩=>⟨t,h1,h2,h3⟩,λ⟨t,h1,h2,h3⟩=>⟨t,⟨h1,h2⟩,h3⟩⟩
theorem Aj.iH {st:St} {a:Act} (h:Aj X π st a w) {f:AC->AC} (hu:f .undef= .undef) {gv:Nat->Prop} (FB: ∀b,gv b->Ol π b) (hb:Gc w.heap.size gv w w')
  (Yt: ∀b,b<w.heap.size->Ol π' b->Ol π b)
  (Ka: ∀l r b,π' l=some r->r.Ba b->r.cl b) (WB: ∀l r b,π' l=some r->r.cl b->(X.w0.heap.size<=b\/X.gv b)/\b<w'.heap.size)
  (Afv: ∀l l' r r' b,π' l=some r->π' l'=some r'->r.cl b->r'.cl b->l=l')
  (Sr: ∀l,Ak<=l->Ad H' l≠none->Ur (X.bM l) (π' l))
  (hac:(∀fr τ cs x,Cells w (Bd X.w0.heap.size X.Sc π fr) τ cs x->Cells w' (Bd X.w0.heap.size X.Sc π' fr) τ cs x)-> ∀c v,Dr X w π st.heap c v->Dr X w' π' H' (f c) v)
  (PY:Move X w w' π π' st.heap H' f-> ∀l b,Ad H' l=some b->Au X w' π' H' (π' l) b)
  (DN: ∀l,Ad H' l=none->π' l=none):
  Aj X π' {tmps:=st.tmps.map (·.map f),heap:=H'} a w':=by
 have hc: ∀fr τ cs x,Cells w (Bd X.w0.heap.size X.Sc π fr) τ cs x->Cells w' (Bd X.w0.heap.size X.Sc π' fr) τ cs x:= λfr τ cs x hh=>
  Cells.Cj hb.size (λk hk hn=>hb.block k hk λhg=>hn (.inl (FB k hg))) (λk Fh hA=>hA.imp (Yt k Fh) id) τ cs x hh
 have m:Move X w w' π π' st.heap H' f:=⟨hac hc,hc⟩
 refine ⟨⟨⟨hb.os.trans h.1.below.os,hb.tape.trans h.1.below.tape,hb.output.trans h.1.below.output,Nat.le_trans h.1.below.size hb.size,λk hk hn=>?_⟩,h.1.sc,Ka,WB,Afv,Sr,λl=>?_⟩,m.AQ hu h.2⟩
 ·refine (hb.block k (Nat.lt_of_lt_of_le hk h.1.below.size) λhg=>?_).trans (h.1.below.block k hk hn)
  rcases (h.1.own (FB k hg)).2 with h1|h1
  ·omega
  ·exact hn h1
 ·cases hh:Ad H' l with
  |none=>exact Cr.Nd (DN l hh) hh
  |some b=>exact Cr.Gu (PY m l b hh) hh
def aZ:Option Real->Option Real->Prop
 |none,none=>True
 |some r,some r'=>r.g=r'.g/\r.o=r'.o/\r.cap=r'.cap
 |_,_=>False
theorem aZ.rfl' (r:Option Real):aZ r r:=by cases r<;>simp [aZ]
theorem aZ.some {r:Real} {r':Option Real} (h:aZ (some r) r'): ∃q,r'=some q/\r.g=q.g/\r.o=q.o/\r.cap=q.cap:=by
 cases r' with
 |none=>exact h.elim
 |some q=>exact ⟨q,rfl,h⟩
theorem aZ.own {r r':Option Real} (h:aZ r r') {sz off len:Nat} {v:Value} (hv:Dw r sz off len v):Dw r' sz off len v:=by
 cases r<;>cases r'<;>first|exact h.elim|skip
 ·exact hv
 ·obtain ⟨h1,h2,h3⟩:=h
  obtain ⟨ad,g1,g2,g3⟩:=hv
  exact ⟨ad,by rw [<-h3];exact g1,by rw [<-h3];exact g2,by rw [<-h1,<-h2,<-h3];exact g3⟩
structure OB.Mo (b b':OB):Prop where
 row: ∀sz n,b.row=some (sz,n)-> ∃n',b'.row=some (sz,n')/\n<=n'
 bk: ∀p,b.bk=some p->b'.bk=some p
 pF: ∀p,b.pF=some p->b'.pF=some p
 var: ∀tid vs,b= .var tid vs-> ∃Ns vs',b'= .var Ns vs'
 Ok: ∀v m,b= .Ok v m-> ∃m',b'= .Ok v m'
theorem OB.Mo.map (f:AC->AC) (b:OB):b.Mo (b.map f) where
 row:= λsz n h=>⟨n,by cases b<;>exact h,Nat.le_refl _⟩
 bk:= λp h=>by cases b<;>exact h
 pF:= λp h=>by cases b<;>exact h
 var:= λtid vs h=>by subst h;exact ⟨_,_,rfl⟩
 Ok:= λv m h=>by subst h;exact ⟨_,rfl⟩
theorem OB.Mo.rfl' (b:OB):b.Mo b where
 row:= λ_sz n h=>⟨n,h,Nat.le_refl _⟩
 bk:= λ_p h=>h
 pF:= λ_p h=>h
 var:= λ_tid _vs h=>⟨_,_,h⟩
 Ok:= λ_v _m h=>⟨_,h⟩
theorem OB.Mo.trans {a b c:OB} (h:a.Mo b) (k:b.Mo c):a.Mo c where
 row:= λsz n hr=>by
  obtain ⟨n1,h1,h2⟩:=h.row sz n hr
  obtain ⟨n2,h3,h4⟩:=k.row sz n1 h1
  exact ⟨n2,h3,by omega⟩
 bk:= λp hp=>k.bk p (h.bk p hp)
 pF:= λp hp=>k.pF p (h.pF p hp)
 var:= λtid vs hv=>by obtain ⟨t',v',h1⟩:=h.var tid vs hv;exact k.var t' v' h1
 Ok:= λv m hm=>by obtain ⟨m',h1⟩:=h.Ok v m hm;exact k.Ok v m' h1
theorem iG {f:AC->AC} {D Pt:Nat->Prop} (hf: ∀c,f c= .undef\/(f c=c/\(∀k∈c.refs,¬D k)/\ ∀k i j,c= .sub k i j\/c= .Fl k i j-> ¬Pt k)) (hp: ∀k,¬D k->aZ (π k) (π' k))
  (hH: ∀k b,¬D k->Ad H k=some b-> ∃b',Ad H' k=some b'/\b.Mo b')
  (hg: ∀k r b,¬D k-> ¬Pt k->Ad H k=some b->b.bk≠none->π k=some r->w'.heap[r.g]?=w.heap[r.g]?)
  (hc: ∀fr τ cs x,Cells w (Bd X.w0.heap.size X.Sc π fr) τ cs x->Cells w' (Bd X.w0.heap.size X.Sc π' fr) τ cs x): ∀c v,Dr X w π H c v->Dr X w' π' H' (f c) v:=by
 intro c v h
 rcases hf c with e|⟨e,hr,hs⟩
 ·rw [e];trivial
 rw [e]
 cases c with
 |data fr τ x=>obtain ⟨cs,h1,h2⟩:=h;exact ⟨cs,hc _ _ _ _ h1,h2⟩
 |own k off len=>
  obtain ⟨b,sz,n,h1,h0,h2,h3⟩:=h
  have hk:=hr k (by simp [AC.refs])
  obtain ⟨b',g1,g2⟩:=hH k b hk h1
  obtain ⟨n',g3,g4⟩:=g2.row sz n h0
  exact ⟨b',sz,n',g1,g3,by omega,(hp k hk).own h3⟩
 |Dp k i=>
  obtain ⟨r,tid,vs,h1,h2,h3⟩:=h
  have hk:=hr k (by simp [AC.refs])
  obtain ⟨b',g1,g2⟩:=hH k _ hk h1
  obtain ⟨Ns,vs',rfl⟩:=g2.var tid vs rfl
  obtain ⟨q,q1,q2,_⟩:=(h2▸hp k hk).some
  exact ⟨q,Ns,vs',g1,q1,by rw [<-q2];exact h3⟩
 |Fp k i=>
  obtain ⟨r,b,sz,n,h1,h0,h2,h3,h4⟩:=h
  have hk:=hr k (by simp [AC.refs])
  obtain ⟨b',g1,g2⟩:=hH k b hk h1
  obtain ⟨n',g3,g4⟩:=g2.row sz n h0
  obtain ⟨q,q1,q2,q3,_⟩:=(h3▸hp k hk).some
  exact ⟨q,b',sz,n',g1,g3,by omega,q1,by rw [<-q2,<-q3];exact h4⟩
 |sub k i c=>
  obtain ⟨r,b,sz,n,h1,h0,h2,h3,h4,h5⟩:=h
  have hk:=hr k (by simp [AC.refs])
  obtain ⟨b',g1,g2⟩:=hH k b hk h1
  obtain ⟨q,q1,q2,q3,_⟩:=(h2▸hp k hk).some
  exact ⟨q,b',sz,n,g1,g2.bk _ h0,q1,h3,h4,by rw [<-q2,<-q3,World.cell?_of_block (hg k r b hk (hs k i c (.inl rfl)) h1 (by rw [h0];simp) h2)];exact h5⟩
 |Fl k i c=>
  obtain ⟨r,b,n,sz,g,o,len,cap,h1,h0,h2,h3,h4,h5,h6⟩:=h
  have hk:=hr k (by simp [AC.refs])
  obtain ⟨b',g1,g2⟩:=hH k b hk h1
  obtain ⟨q,q1,q2,q3,_⟩:=(h2▸hp k hk).some
  exact ⟨q,b',n,sz,g,o,len,cap,g1,g2.pF _ h0,q1,h3,h4,by rw [<-q2,<-q3,World.cell?_of_block (hg k r b hk (hs k i c (.inr rfl)) h1 (by cases b<;>first|(cases h0;done)|simp [OB.bk]) h2)];exact h5,h6⟩
 |clo g Bv=>
  obtain ⟨us,h1,h2,h3⟩:=h
  refine ⟨us,h1,h2,λj p hpj=>?_⟩
  obtain ⟨r,tid,vs,h4,h5,h6⟩:=h3 j p hpj
  have hk:=hr p.1 (by simp only [AC.refs,List.mem_map];exact ⟨p,List.mem_of_getElem? hpj,rfl⟩)
  obtain ⟨b',g1,g2⟩:=hH p.1 _ hk h4
  obtain ⟨Ns,vs',rfl⟩:=g2.var tid vs rfl
  obtain ⟨q,q1,q2,_⟩:=(h5▸hp p.1 hk).some
  exact ⟨q,Ns,vs',g1,q1,by rw [<-q2];exact h6⟩
 |Fw k=>
  obtain ⟨r,vt,m,h1,h2,h3⟩:=h
  have hk:=hr k (by simp [AC.refs])
  obtain ⟨b',g1,g2⟩:=hH k _ hk h1
  obtain ⟨m',rfl⟩:=g2.Ok vt m rfl
  obtain ⟨q,q1,q2,_⟩:=(h2▸hp k hk).some
  exact ⟨q,vt,m',g1,q1,by rw [<-q2];exact h3⟩
 |_=>exact h
theorem Nx (H0:List (Nat×OB)) (ls:List Nat) (n:Nat): ∀(H:List (Nat×OB)) (l:Nat),Ad (Xs H0 ls n H) l=(Ad H l).map λb=>if ls.contains l then b.xO (Vi n (XB (Ad H0 l))) else b
 | [],_=>rfl
 |(k,b)::r,l=>by
  simp only [Xs,Ad]
  split
  ·rename_i e;subst e;rfl
  ·exact Nx H0 ls n r l
theorem OB.uo (b:OB) (kp:Option (Nat×Nat)):b.Mo (b.xO kp):=by
 cases b with
 |Ah e te rows out kp0=>exact ⟨λsz n h=>⟨n,h,Nat.le_refl _⟩,λp h=>h,λp h=>h,(λ_ _ h=>by cases h),(λ_ _ h=>by cases h)⟩
 |_=>exact OB.Mo.rfl' _
theorem aQ (ls:List Nat): ∀(l m:List AV) (t:Nat),l.length=m.length->(∃k i c,l.getD t .undef= .at (.sub k i c)/\ls.contains k=true/\(Gv ls l m).getD t .undef= .at (.sub k i c))\/(Gv ls l m).getD t .undef=m.getD t .undef
 | [],m,t,_=>by cases m<;>exact .inr rfl
 |_::_,[],t,h=>by simp at h
 |a::l,v::m,t,h=>by
  have ih:= λt=>aQ ls l m t (by simpa using h)
  have tail: ∀u,Gv ls (a::l) (v::m)=u::Gv ls l m->(t=0->(∃k i c,(a::l).getD t .undef= .at (.sub k i c)/\ls.contains k=true/\u= .at (.sub k i c))\/u=v)->
    (∃k i c,(a::l).getD t .undef= .at (.sub k i c)/\ls.contains k=true/\(Gv ls (a::l) (v::m)).getD t .undef= .at (.sub k i c))\/(Gv ls (a::l) (v::m)).getD t .undef=(v::m).getD t .undef:=by
   intro u e h0
   rw [e]
   rcases t with _|t
   ·rcases h0 rfl with ⟨k,i,c,h1,h2,h3⟩|h3
    ·exact .inl ⟨k,i,c,h1,h2,by simpa using h3⟩
    ·exact .inr (by simpa using h3)
   ·simpa only [List.getD_cons_succ] using ih t
  cases a with
  | «at»c=>
   cases c with
   |sub k i c=>
    refine tail _ rfl λht=>?_
    subst ht
    by_cases hc:ls.contains k=true
    ·exact .inl ⟨k,i,c,rfl,hc,by rw [if_pos hc]⟩
    ·exact .inr (by rw [if_neg hc])
   |_=>exact tail _ rfl λ_=> .inr rfl
  |_=>exact tail _ rfl λ_=> .inr rfl
theorem oV {H:List (Nat×OB)} {ls:List Nat} {n:Nat} : ∀ {l:List AV} {t k i c:Nat},Xy H ls n l=true->l.getD t .undef= .at (.sub k i c)->ls.contains k=true->i<n/\i<m8 H k
 | [],t,k,i,c,_,h,_=>by simp at h
 |a::l,0,k,i,c,ho,h,hc=>by
  simp only [List.getD_cons_zero] at h
  subst h
  simp only [Xy,hc,Bool.not_true,Bool.false_or,Bool.and_eq_true,Nat.blt_eq] at ho
  exact ho.1
 |a::l,t+1,k,i,c,ho,h,hc=>by
  refine oV (l:=l) (t:=t) (c:=c) ?_ (by simpa only [List.getD_cons_succ] using h) hc
  cases a with
  | «at»d=>cases d with
   |sub _ _ _=>simp only [Xy,Bool.and_eq_true] at ho;exact ho.2
   |_=>exact ho
  |_=>exact ho
theorem zz {bx st:St} {a:Act} (h0:Aj X π bx a w) (h:Aj X π' st a w') {ls:List Nat} {n:Nat} (hk: ∀l∈ls,vD w w' (π l) (π' l) n) (ng: ∀l∈ls,ir bx.heap l=true)
  (ei:Xy st.heap ls n bx.tmps=true):Aj X π' (fR bx st ls n) a w'/\ ∀c v,Am X w' π' st.heap c v->Am X w' π' (fR bx st ls n).heap c v:=by
 by_cases vr:ls= []
 ·subst vr;exact ⟨h,λ_ _ h=>h⟩
 have Td:fR bx st ls n= {tmps:=Gv ls bx.tmps st.tmps,heap:=Xs bx.heap ls n st.heap} :=by
  cases ls with
  |nil=>exact absurd rfl vr
  |cons _ _=>rfl
 rw [Td]
 have hg0: ∀l∈ls,∃e te rows out kp,Ad bx.heap l=some (.Ah e te rows out kp):= λl hl=>by
  have:=ng l hl
  unfold ir at this
  split at this
  ·exact ⟨_,_,_,_,_,by assumption⟩
  ·cases this
 have srv: ∀k b,Ad st.heap k=some b-> ∃b',Ad (Xs bx.heap ls n st.heap) k=some b'/\b.Mo b':= λk b hb=>by
  rw [Nx,hb]
  refine ⟨_,rfl,?_⟩
  dsimp only
  split
  ·exact OB.uo b _
  ·exact OB.Mo.rfl' b
 have hac:(∀fr τ cs x,Cells w' (Bd X.w0.heap.size X.Sc π' fr) τ cs x->Cells w' (Bd X.w0.heap.size X.Sc π' fr) τ cs x)-> ∀c v,Dr X w' π' st.heap c v->Dr X w' π' (Xs bx.heap ls n st.heap) c v:= λhc=>
  iG (f:= λc=>c) (D:= λ_=>False) (Pt:= λ_=>False) (λc=> .inr ⟨rfl,λ_ _ h=>h,λ_ _ _ _ h=>h⟩) (λk _=>aZ.rfl' _) (λk b _ hb=>srv k b hb) (λ_ _ _ _ _ _ _ _=>rfl) hc
 have h1:Aj X π' {tmps:=st.tmps.map (·.map λc=>c),heap:=Xs bx.heap ls n st.heap} a w':=by
  refine h.iH rfl (gv:= λ_=>False) (λ_ hf=>hf.elim) (Gc.refl _ _ _) (λ_ _ ho=>ho) h.1.sub h.1.place h.1.inj (λl hl Ey=>h.1.bM l hl λh2=>Ey (by rw [Nx,h2];rfl)) hac (λm l b hb=>?_) (λl hl=>?_)
  ·rw [Nx] at hb
   cases h2:Ad st.heap l with
   |none=>rw [h2] at hb;cases hb
   |some b0=>
    rw [h2] at hb
    simp only [Option.map_some,Option.some.injEq] at hb
    have hbk:=(h.1.heap l).Ld h2
    have yD:=hbk.move m (Nat.le_refl _) (λr0 c h0 h1=>h.1.sub _ r0 c h0 h1) λ_ _ _ _ _=>rfl
    rw [show OB.map (λc=>c) b0=b0 from OB.xd b0] at yD
    split at hb
    ·rename_i hc
     have hl:l∈ls:=by simpa using hc
     cases b0 with
     |Ah e te rows out kp=>
      simp only [OB.xO] at hb
      subst hb
      refine ⟨yD.1,?_⟩
      obtain ⟨e0,te0,TZ,Ah9,kp0,hg⟩:=hg0 l hl
      have th:=((h0.1.heap l).Ld hg).2
      rw [hg]
      simp only [XB]
      have pJ:=hk l hl
      cases kp0 with
      |none=>trivial
      |some p=>
       obtain ⟨l0,n0⟩:=p
       simp only [KeptAt,Vi] at th⊢
       cases tp:X.bM l0 with
       |none=>
        cases hp:π l with
        |none=>
         rw [hp] at pJ
         cases ij:π' l with
         |none=>trivial
         |some q=>rw [ij] at pJ;exact pJ.elim
        |some q=>rw [tp,hp] at th;exact th.elim
       |some r0=>
        cases hp:π l with
        |none=>rw [tp,hp] at th;exact th.elim
        |some q=>
         rw [tp,hp] at th
         rw [hp] at pJ
         cases ij:π' l with
         |none=>rw [ij] at pJ;exact pJ.elim
         |some q'=>
          rw [ij] at pJ
          obtain ⟨k1,k2,k3,k4⟩:=pJ
          obtain ⟨g1,g2,g3,g4⟩:=th
          refine ⟨k1.trans g1,k2.trans g2,k3.trans g3,λj hj hc=>?_⟩
          have e1:=g4 j (by omega) hc
          have e2:=k4 j (by omega) (by omega)
          rw [g1,g2] at e2
          rw [<-e1,e2]
     |_=>simp only [OB.xO] at hb;subst hb;exact yD
    ·subst hb;exact yD
  ·rw [Nx] at hl
   cases h2:Ad st.heap l with
   |none=>exact (h.1.heap l).emp h2
   |some b=>rw [h2] at hl;cases hl
 have DH: ∀c v,Am X w' π' st.heap c v->Am X w' π' (Xs bx.heap ls n st.heap) c v:= λc v hv=>by
  have m:Move X w' w' π' π' st.heap (Xs bx.heap ls n st.heap) (λc=>c):=⟨hac λ_ _ _ _ h=>h,λ_ _ _ _ h=>h⟩
  have:=m.av hv
  rwa [AC.map_id] at this
 refine ⟨⟨h1.1,⟨?_,h.2.defers,λt=>?_⟩⟩,DH⟩
 ·have: ∀(l m:List AV),(Gv ls l m).length=m.length:=by
   intro l
   induction l with
   |nil=>intro m;cases m<;>rfl
   |cons a l ih=>
    intro m
    cases m with
    |nil=>cases a with
     | «at»c=>cases c<;>rfl
     |_=>rfl
    |cons v m=>cases a with
     | «at»c=>cases c<;>simp only [Gv,List.length_cons,ih m]
     |_=>simp only [Gv,List.length_cons,ih m]
  show a.tmps.size=(Gv ls bx.tmps st.tmps).length
  rw [this];exact h.2.size
 ·show Am X w' π' _ ((Gv ls bx.tmps st.tmps).getD t .undef) _
  rcases aQ ls bx.tmps st.tmps t (by rw [<-h0.2.size,<-h.2.size]) with ⟨k,i,c,g1,g2,g3⟩|g
  ·rw [g3]
   have Ls:k∈ls:=by simpa using g2
   obtain ⟨i1,i2⟩:=oV ei g1 g2
   have hv:=h0.2.tmps t
   rw [show bx.get t=_ from g1] at hv
   obtain ⟨r,b,sz,n',e1,e2,e3,e4,⟨e5,e6⟩,e7⟩:=hv
   obtain ⟨e0,te0,TZ,Ah9,kp0,hg⟩:=hg0 k Ls
   rw [hg] at e1;cases e1
   simp only [OB.bk,Option.some.injEq,Prod.mk.injEq] at e2
   obtain ⟨rfl,rfl⟩:=e2
   have pJ:=hk k Ls
   rw [e3] at pJ
   cases ij:π' k with
   |none=>rw [ij] at pJ;exact pJ.elim
   |some q'=>
    rw [ij] at pJ
    obtain ⟨k1,k2,k3,k4⟩:=pJ
    have nf:TZ.length<=r.cap:=by
     have:=((h0.1.heap k).Ld hg).1
     rw [e3] at this
     obtain ⟨_,_,_,_,_,_,h5,_⟩:=this
     exact h5
    unfold m8 at i2
    split at i2
    ·rename_i e9 te9 Ace Am2 kp9 hg9
     refine ⟨q',_,1,Ace.length,by rw [Nx,hg9];rfl,?_,ij,i2,⟨e5,e6⟩,?_⟩
     ·dsimp only
      split<;>rfl
     ·have eI:c=0:=by omega
      subst eI
      rw [k1,k2]
      rw [Nat.mul_one,Nat.add_zero] at e7⊢
      rw [k4 i i1 (by omega)];exact e7
    ·omega
  ·rw [g]
   exact DH _ _ (h.2.tmps t)
theorem kc {ins:List (Bool×CK)} {as:List AC} {pl:List Nat} {st:St} :(lI ins as pl st).tmps=st.tmps:=by
 unfold lI
 split
 ·rfl
 ·split<;>rfl
theorem AX {ins:List (Bool×CK)} {as:List AC} {pl:List Nat} {st:St} {m:Nat} (hm:m∉pl):Ad (lI ins as pl st).heap m=Ad st.heap m:=by
 unfold lI
 split
 ·rfl
 ·rename_i l r
  split
  ·exact Bs _ _ _ _ λe=>hm (e▸List.mem_cons_self)
  ·rfl
theorem HE {ins:List (Bool×CK)} {as:List AC} {l:Nat} {st:St} {tid:TypeId} {vs:List AC} (hl:Ad st.heap l=some (.var tid vs)):Ad (lI ins as [l] st).heap l=some (.var tid (bt ins vs as)):=by
 simp only [lI,St.at,hl]
 exact Cc _ _ _ _ hl
theorem sd {α:Type} (ins:List (Bool×CK)) (as:List α):bt ins [] as= []:=by
 rcases ins with _|⟨⟨_|_,c⟩,r⟩<;>rfl
theorem jU {α:Type} : ∀(ins:List (Bool×CK)) (vs as:List α),(bt ins vs as).length=vs.length
 | [],vs,as=>by rw [bt];all_goals simp
 |p::r,[],as=>by rw [sd]
 |(true,c)::r,v::vs,as=>by simp only [bt,List.length_cons,jU r vs as]
 |(false,c)::r,v::vs,[]=>by rw [bt];all_goals simp
 |(false,c)::r,v::vs,a::as=>by simp only [bt,List.length_cons,jU r vs as]
theorem GS {st:St} {a:Act} (h:Aj X π st a w) {s:MSpec} {gJ:List AV} {vs:List Value} (hlen:gJ.length=vs.length) (DH: ∀(i:Nat) c v,gJ[i]?=some c->vs[i]?=some v->Am X w π st.heap c v)
  {pl:List Nat} {cells:List AC} {rest:List AV} (he:DZ st s gJ=some (pl,cells,rest)):
  ∃(g:Nat) (SC sx:List Value),rest.length=sx.length/\(∀(i:Nat) c v,rest[i]?=some c->sx[i]?=some v->Am X w π st.heap c v)/\Ia X w π st.heap cells SC/\
   ((s.ptr=none/\pl= []/\cells= []/\SC= []/\vs=sx)\/
    ∃p l q,s.ptr=some p/\pl= [l]/\π l=some q/\q.Ba q.g/\g=q.g/\Ad st.heap l=some (.var p.1 cells)/\cells.length=p.2/\vs= .pointer (some ⟨g,0,none⟩)::sx/\w.heap[g]?=some (.cells SC.toArray p.1 (0,0))/\Cu X w π st.heap cells SC):=by
 unfold DZ at he
 split at he
 ·rename_i hp
  simp only [Option.some.injEq,Prod.mk.injEq] at he
  obtain ⟨rfl,rfl,rfl⟩:=he
  exact ⟨0,[],vs,hlen,DH,trivial, .inl ⟨hp,rfl,rfl,rfl,rfl⟩⟩
 ·rename_i p hp
  split at he
  ·rename_i l i Aj3
   split at he
   ·rename_i tid cs hl
    split at he
    ·rename_i hc
     obtain ⟨rfl,hc,rfl⟩:=hc
     simp only [Option.some.injEq,Prod.mk.injEq] at he
     obtain ⟨rfl,rfl,rfl⟩:=he
     unfold St.at at hl
     cases vs with
     |nil=>simp at hlen
     |cons v vs=>
      obtain ⟨r,Ns,vs',h1,h2,rfl⟩:=DH 0 _ v rfl rfl
      rw [hl] at h1;cases h1
      obtain ⟨r',h3,h4,cur,h5,h6⟩:=(h.1.heap l).Ld hl
      rw [h2] at h3;cases h3
      exact ⟨r.g,cur.toList,vs,by simpa using hlen,λi c v h7 h8=>DH (i+1) c v (by simpa using h7) (by simpa using h8),Ia.of h6, .inr ⟨p,l,r,hp,rfl,h2,h4,rfl,hl,hc,rfl,by simpa using h5,h6⟩⟩
    ·cases he
   ·cases he
  ·cases he
theorem dR {V:List Nat} {πc:Pi} {dead part:List Nat} (TQ: ∀l,l∉dead->π' l=π l) (Gf: ∀l b sz n,l∉dead->Ad H l=some b->b.row=some (sz,n)-> ∃b',Ad H' l=some b'/\b'.row=some (sz,n)):
  ∀(ins:List (Bool×CK)) (k:Nat) (cells ja:List AC) (x:Ins.den ins) (us:List Value) (o:IOs.den ins) (cur st1:St) (news:List AC) (Po cs:List Value),lu X w π V H πc k ins x (cells++ja) us->Oz ins cells=true->
   Ea ins o (cells++ja) cur=some st1->Cb πc k ins o cells.length cs Po->Ia X w' π' H' news Po->Ia X w' π' H' (bt ins (cells.map (Ax dead part)) news) cs
 |ins,k,[],ja,x,us,o,cur,st1,news,Po,cs,_,_,_,hb,_=>by
  have hb:cs= []:=by rcases ins with _|⟨⟨_|_,c⟩,r⟩<;>(try cases c)<;>simpa [Cb] using hb
  rw [hb,List.map_nil,sd]
  trivial
 | [],k,a::cells,ja,x,us,o,cur,st1,news,Po,cs,_,hk,_,_,_=>by simp [Oz] at hk
 |(true, .Ee τ)::r,k,a::cells,ja,x,us,o,cur,st1,news,Po,cs,_,hk,_,_,_=>by simp [Oz] at hk
 |(true, .part e te)::r,k,a::cells,ja,x,us,o,cur,st1,news,Po,cs,_,hk,_,_,_=>by simp [Oz] at hk
 |(true, .Ah e te _)::r,k,a::cells,ja,x,us,o,cur,st1,news,Po,cs,_,hk,_,_,_=>by simp [Oz] at hk
 |(true, .row e te)::r,k,a::cells,ja,x,us,o,cur,st1,news,Po,cs,ht,hk,hp,hb,hn=>by
  cases a<;>simp only [Oz,Bool.false_eq_true] at hk
  rename_i l off len
  cases us with
  |nil=>exact ht.elim
  |cons u0 us=>
  cases cs with
  |nil=>exact hb.elim
  |cons u cs=>
  obtain ⟨⟨_,h1⟩,h2⟩:=ht
  simp only [Mv] at h1
  obtain ⟨h3,rfl,rfl,fr,tr,h4⟩:=h1
  obtain ⟨h5,h6⟩:=hb
  simp only [List.cons_append,Ea] at hp
  split at hp
  rotate_left
  ·cases hp
  rename_i Sq WA
  have FC:List.length o.1=List.length x.1:=by
   simp only [Wc] at WA
   repeat' split at WA
   all_goals first|(cases WA;done)|(rename_i hc;exact hc.2.1)
  refine ⟨?_,dR TQ Gf r (k+1) cells ja x.2 us o.2 Sq st1 news Po cs h2 hk hp h6 hn⟩
  by_cases hd:l∈dead
  ·have:Ax dead part (.own l 0 (List.length x.1))= .undef:=by
    unfold Ax
    rw [if_pos (by simp [AC.refs,hd])]
   rw [this];trivial
  ·rw [Wn (by simpa [AC.refs] using hd) (by intro l i j e;rcases e with e|e<;>cases e)]
   obtain ⟨b',g1,g2⟩:=Gf l _ e.size (List.length x.1) hd h4 rfl
   refine ⟨b',e.size,List.length x.1,g1,g2,by omega,?_⟩
   rw [TQ l hd]
   rw [h3,FC] at h5
   cases hp:π l<;>(rw [hp] at h5;exact h5)
 |(true, .Dq e te)::r,k,a::cells,ja,x,us,o,cur,st1,news,Po,cs,ht,hk,hp,hb,hn=>by
  cases a<;>simp only [Oz,Bool.false_eq_true] at hk
  rename_i l off len
  cases us with
  |nil=>exact ht.elim
  |cons u0 us=>
  cases cs with
  |nil=>exact hb.elim
  |cons u cs=>
  obtain ⟨⟨_,h1⟩,h2⟩:=ht
  simp only [Mv] at h1
  obtain ⟨h3,rfl,rfl,h4⟩:=h1
  obtain ⟨h5,h6⟩:=hb
  simp only [List.cons_append,Ea] at hp
  split at hp
  rotate_left
  ·cases hp
  rename_i Sq WA
  have FC:List.length o.1=List.length x.1:=by
   simp only [Wc] at WA
   repeat' split at WA
   all_goals first|(cases WA;done)|(rename_i hc;exact hc.2.1)
  refine ⟨?_,dR TQ Gf r (k+1) cells ja x.2 us o.2 Sq st1 news Po cs h2 hk hp h6 hn⟩
  by_cases hd:l∈dead
  ·have:Ax dead part (.own l 0 (List.length x.1))= .undef:=by
    unfold Ax
    rw [if_pos (by simp [AC.refs,hd])]
   rw [this];trivial
  ·rw [Wn (by simpa [AC.refs] using hd) (by intro l i j e;rcases e with e|e<;>cases e)]
   obtain ⟨b',g1,g2⟩:=Gf l _ e.size (List.length x.1) hd h4 rfl
   refine ⟨b',e.size,List.length x.1,g1,g2,by omega,?_⟩
   rw [TQ l hd]
   rw [h3,FC] at h5
   cases hp:π l<;>(rw [hp] at h5;exact h5)
 |(false,c)::r,k,a::cells,ja,x,[],o,cur,st1,news,Po,cs,ht,hk,hp,hb,hn=>ht.elim
 |(false,c)::r,k,a::cells,ja,x,u0::us,o,cur,st1,news,Po,[],ht,hk,hp,hb,hn=>by cases c<;>exact hb.elim
 |(false,c)::r,k,a::cells,ja,x,u0::us,o,cur,st1,news,[],u::cs,ht,hk,hp,hb,hn=>by cases c<;>exact hb.elim
 |(false,c)::r,k,a::cells,ja,x,u0::us,o,cur,st1,[],u'::Po,u::cs,ht,hk,hp,hb,hn=>hn.elim
 |(false,c)::r,k,a::cells,ja,x,u0::us,o,cur,st1,na::news,u'::Po,u::cs,ht,hk,hp,hb,hn=>by
  have hb2:u=u'/\Cb πc (k+1) r o cells.length cs Po:=by cases c<;>exact hb
  obtain ⟨rfl,hb3⟩:=hb2
  have hp:Ea r o (cells++ja) cur=some st1:=by cases c<;>simpa only [List.cons_append,Ea] using hp
  have hk:Oz r cells=true:=by cases c<;>simpa only [Oz] using hk
  exact ⟨hn.1,dR TQ Gf r (k+1) cells ja x.2 us o cur st1 news Po cs ht.2 hk hp hb3 hn.2⟩
theorem ye {V:List Nat} {πc:Pi} : ∀(cs:List (Bool×CK)) (k0:Nat) (x:Ins.den cs) (as:List AC) (us:List Value),k0+cs.length<100000->lu X w π V H πc k0 cs x as us-> ∀k l,(Bq false k,Loc.row l)∈Gw k0 cs as->πc (Bq false k)=(π l).map full
 | [],_,_,[],_,_,_,_,_,h=>by cases h
 | [],_,_,_::_,_,_,_,_,_,h=>by cases h
 |_::_,_,_,[],_,_,_,_,_,h=>by cases h
 |_::_,_,_,_::_,[],_,h,_,_,_=>h.elim
 |(io,c)::r,k0,x,a::as,u::us,hk,h,k,l,ht=>by
  simp only [List.length_cons] at hk
  simp only [Gw] at ht
  rcases List.mem_append.1 ht with ht|ht
  ·obtain ⟨⟨_,h1⟩,_⟩:=h
   cases c with
   |Ee τ=>cases a<;>simp [Kl,views] at ht
   |row e te=>
    cases a<;>simp [Kl] at ht
    obtain ⟨e1,rfl⟩:=ht
    simp only [Mv] at h1
    rw [e1];exact h1.1
   |Dq e te=>
    cases a<;>simp [Kl] at ht
    obtain ⟨e1,rfl⟩:=ht
    simp only [Mv] at h1
    rw [e1];exact h1.1
   |part e te=>
    cases a<;>simp [Kl] at ht
    obtain ⟨e1,rfl⟩:=ht
    simp only [Mv] at h1
    rw [e1];exact h1.2.1
   |Ah e te kp=>
    cases a<;>simp [Kl] at ht
    obtain ⟨e1,rfl⟩:=ht
    simp only [Mv] at h1
    rw [e1];exact h1.2.1
  ·exact ye r (k0+1) x.2 as us (by omega) h.2 k l ht
theorem lv {st:St} {a:Act} (h:Aj X π st a w) {f:FuncId} {s:MSpec} (hs:Bf P f s) (dst:Option Nat) (gJ:List AV) (vs:List Value) (hlen:gJ.length=vs.length)
  (DH: ∀(i:Nat) c v,gJ[i]?=some c->vs[i]?=some v->Am X w π st.heap c v) (av:AV) (st':St) (he:Qd st dst s gJ=some (av,st')):
  Calls P f vs.toArray w λe w'=> ∃v,e= .returned v/\ ∃π',Aj X π' st' a w'/\Am X w' π' st'.heap av v:=by
 unfold Qd at he
 split at he
 ·cases he
 rename_i pl cells rest Agf
 split at he
 ·cases he
 rename_i ja IW
 split at he
 ·cases he
 rename_i x tks htk
 split at he
 rotate_left
 ·cases he
 rename_i Ez
 simp only [Bool.and_eq_true,Nat.blt_eq] at Ez
 obtain ⟨⟨⟨⟨PA,nm⟩,hon⟩,cv⟩,Aap,FG⟩:=Ez
 have FG: ∀l∈pl,l∉(tks.map λt=>t.2.Pp)/\l∉Lu s tks (dst.getD 0):= λl hl=>by
  have:=List.all_eq_true.1 FG l hl
  simp only [Bool.not_eq_true',<-Bool.not_eq_true,List.contains_iff_mem] at this
  exact ⟨λhm=>this (List.mem_append_left _ hm),λhm=>this (List.mem_append_right _ hm)⟩
 split at he
 ·cases he
 rename_i r o ZH
 split at he
 ·cases he
 rename_i st1 WD
 obtain ⟨g,SC,sx,Aaq,Afb,Agi,Wb⟩:=GS h hlen DH Agf
 obtain ⟨qE,rfl,yH,Agh⟩:=Sl s.Fc rest sx ja Aaq Afb IW
 have WH:=Agi.append Agh
 have Kw:je s w g (SC++qE) vs:=by
  unfold je
  rcases Wb with ⟨h1,_,_,h2,h3⟩|⟨p,l,q,h1,_,_,_,_,_,h2,h3,h4,h5⟩
  ·rw [h1];subst h2;exact ⟨h3,yH⟩
  ·rw [h1]
   have hl:SC.length=p.2:=h5.1.trans h2
   simp only
   rw [List.drop_append_of_le_length (by omega),List.take_append_of_le_length (by omega),List.take_of_length_le (by omega),List.drop_of_length_le (by omega)]
   refine ⟨h3,yH,by simp;omega,h4,λu hu=>?_⟩
   obtain ⟨i,hi,rfl⟩:=List.mem_iff_getElem.1 hu
   obtain ⟨u',h6,h7,_⟩:=h5.2 i (cells[i]'(by have:=h5.1;omega)) (List.getElem?_eq_getElem _)
   rw [List.getElem?_eq_getElem hi] at h6
   rw [Option.some.inj h6];exact h7
 have FH: ∀l∈pl,∃p q,s.ptr=some p/\pl= [l]/\π l=some q/\q.Ba q.g/\g=q.g/\Ad st.heap l=some (.var p.1 cells)/\cells.length=p.2:= λl hl=>by
  rcases Wb with ⟨_,h1,_⟩|⟨p,l',q,h1,h2,h3,h4,h5,h6,h7,_⟩
  ·rw [h1] at hl;cases hl
  ·rw [h2] at hl
   have:=List.mem_singleton.1 hl
   subst this
   exact ⟨p,q,h1,h2,h3,h4,h5,h6,h7⟩
 have FB: ∀b,s.gv g b-> ∃l∈pl,∃q,π l=some q/\q.Ba b/\b=q.g:= λb ⟨h1,h2⟩=>by
  rcases Wb with ⟨h3,_⟩|⟨p,l',q,_,h4,h5,h6,h7,_⟩
  ·rw [h3] at h1;cases h1
  ·exact ⟨l',by rw [h4];exact List.mem_singleton.2 rfl,q,h5,by rw [h2,h7];exact h6,h2.trans h7⟩
 obtain ⟨as,has⟩: ∃as,as=cells++ja:=⟨_,rfl⟩
 obtain ⟨us,KU⟩: ∃us,us=SC++qE:=⟨_,rfl⟩
 rw [<-has] at WH htk WD
 rw [<-KU] at WH Kw
 let V:=(tks.filter λt=>t.2.reads).map λt=>t.2.Pp
 have hV: ∀t∈tks,t.2.reads=true->t.2.Pp∈V:= λt ht hr=>List.mem_map.2 ⟨t,List.mem_filter.2 ⟨ht,hr⟩,rfl⟩
 have hV': ∀l∈V,∃t∈tks,t.2.reads=true/\t.2.Pp=l:= λl hl=>by
  obtain ⟨t,h1,h2⟩:=List.mem_map.1 hl
  exact ⟨t,(List.mem_filter.1 h1).1,(List.mem_filter.1 h1).2,h2⟩
 clear_value V
 obtain ⟨OQ,πc,hT,KC,Aft,Oy⟩:=p6 h.1 (V:=V) s.ins 0 as us x tks (by omega) WH htk hV
 have zk:=Qn PA
 rw [OQ] at zk
 have Yt: ∀b,Ol πc b-> ∃t∈Gw 0 s.ins as,t.2.reads=false/\ ∃q,π t.2.Pp=some q/\q.Ba b/\ ∀l i j,t.2= .sub l i j->b≠q.g:= λb ⟨c,q,h1,h2⟩=>by
  obtain ⟨t,t1,_,t3⟩:=Oy c q b h1 h2
  exact ⟨t,t1,t3⟩
 have zn: ∀b,Ol πc b->Ol π b:= λb hb=>let ⟨t,_,_,q,h1,h2,_⟩:=Yt b hb;⟨_,q,h1,h2⟩
 have dK:bQ πc (λb=>b<w.heap.size):=⟨λl q b h1 h2=>(h.1.own (zn b ⟨l,q,h1,h2⟩)).1,λl l' q q' b h1 h2 h3 h4=>by
  obtain ⟨t,t1,t2,_,p,t3,t4,_⟩:=Oy l q b h1 h3
  obtain ⟨t',YD,t2',_,p',t3',t4',_⟩:=Oy l' q' b h2 h4
  have:=tG zk t1 YD (h.1.apart t3 t3' t4 t4')
  rw [<-t2,<-t2',this]⟩
 have Aa6: ∀k l,(Bq false k,Loc.row l)∈Gw 0 s.ins as->πc (Bq false k)=(π l).map full:= λk l ht=>
  ye s.ins 0 x as us (by omega) hT k l ht
 have Abl: ∀b,Ol πc b->Jc X π V b:= λb hb=> .inl ⟨zn b hb,λl hl r' hr hf=>by
  obtain ⟨t,t1,t0,q,t3,t4,_⟩:=Yt b hb
  obtain ⟨t',YD,t2',rfl⟩:=hV' l hl
  rw [OQ] at YD
  have:=tG zk t1 YD (h.1.apart t3 hr t4 hf)
  subst this
  rw [t0] at t2';cases t2'⟩
 let S:Nat->Prop:= λb=> ¬Ol πc b/\Jc X π V b
 have hS: ∀b,S b->b<w.heap.size/\ ¬Ol πc b:= λb hb=>⟨by
  rcases hb.2 with h1|h1
  ·exact (h.1.own h1.1).1
  ·exact Nat.lt_of_lt_of_le (h.1.sc b h1).1 h.1.below.size,hb.1⟩
 have QJ: ∀l∈pl,∀t∈Gw 0 s.ins as,t.2.Pp≠l:= λl hl t ht e=>(FG l hl).1 (List.mem_map.2 ⟨t,OQ▸ht,e⟩)
 have hSg:s.ptr.isSome=true->S g:= λZQ=>by
  obtain ⟨l,hl,q,h1,h2,h3⟩:=FB g ⟨ZQ,rfl⟩
  have TG: ¬Ol πc g:= λhb=>by
   obtain ⟨t,t1,_,q',t3,t4,_⟩:=Yt g hb
   exact QJ l hl t t1 (h.1.apart t3 h1 t4 h2)
  refine ⟨TG, .inl ⟨⟨l,q,h1,h2⟩,λl' Gm r' Zp hf=>?_⟩⟩
  obtain ⟨t',YD,_,rfl⟩:=hV' l' Gm
  rw [OQ] at YD
  exact QJ l hl t' YD (h.1.apart Zp h1 hf h2)
 refine (hs.calls w S πc us x r o g vs Kw hSg (Zr.El (λb hb=>hb.elim (Abl b) λh=>h.2) s.ins 0 x us (hT.Abs s.ins 0 x as us)) dK hS Aft ZH).mono ?_
 rintro e w' ⟨v,Po,vB,rfl,ah,rk,PX,td,Aay,KO,WW,rz⟩
 obtain ⟨ρ,QP,zm,KN,SQ⟩: ∃ρ:Pi,(∀l,ρ l=(vB l).map full)/\Ep w' (ed S πc vB) ρ 0 s.outs r Po/\bQ ρ (λb=>b<w'.heap.size/\(w.heap.size<=b\/ ∃l q,l<Ak/\πc l=some q/\q.Ba b))/\ ∀l q,ρ l=some q->q.cl=q.Ba:=by
  have un: ∀l q,(vB l).map full=some q-> ∃q0,vB l=some q0/\q=full q0:= λl q hq=>by
   cases hp:vB l with
   |none=>rw [hp] at hq;cases hq
   |some q0=>rw [hp] at hq;exact ⟨q0,rfl,(Option.some.inj hq).symm⟩
  refine ⟨λl=>(vB l).map full,λ_=>rfl,Ep.full s.outs 0 r Po Aay,⟨λl q b h1 h2=>?_,λl l' q q' b h1 h2 h3 h4=>?_⟩,λl q h1=>?_⟩
  ·obtain ⟨q0,h5,rfl⟩:=un l q h1
   exact KO.Tj l q0 b h5 h2
  ·obtain ⟨q0,h5,rfl⟩:=un l q h1
   obtain ⟨XZ,h6,rfl⟩:=un l' q' h2
   exact KO.inj l l' q0 XZ b h5 h6 h3 h4
  ·obtain ⟨q0,_,rfl⟩:=un l q h1
   rfl
 refine ⟨v,rfl,?_⟩
 split at he
 ·cases he
 rename_i av0 cw
 split at he
 rotate_left
 ·cases he
 rename_i Ka
 simp only [Option.some.injEq,Prod.mk.injEq] at he
 obtain ⟨rfl,rfl⟩:=he
 let D1:Nat->Prop:=if s.flat then λ_=>True else ed S πc vB
 have Afw:He w' D1 πc 0 s.ins o:=by
  show He w' (if s.flat then λ_=>True else ed S πc vB) πc 0 s.ins o
  split
  ·rename_i hf
   unfold MSpec.flat at hf
   simp only [Bool.and_eq_true] at hf
   exact He.any s.ins 0 o hf.2 td
  ·exact td
 have Aaz:Ep w' D1 ρ 0 s.outs r Po:=by
  show Ep w' (if s.flat then λ_=>True else ed S πc vB) ρ 0 s.outs r Po
  split
  ·rename_i hf
   unfold MSpec.flat at hf
   simp only [Bool.and_eq_true] at hf
   exact Ep.any s.outs 0 r Po hf.1 zm
  ·exact zm
 obtain ⟨q1,q2,q3,q4⟩:=o3 (D:=D1) (X:=X) (π:=π) (H:=st.heap) h.1 PX.size (tks:=Gw 0 s.ins as) (πc:=πc) (λt ht q b hq hb Fh hn=>PX.block b Fh λzl=>by
   rcases zl with ⟨c,r',h1,h2⟩|hg
   rotate_left
   ·obtain ⟨l,hl,q',h1,h2,_⟩:=FB b hg
    exact QJ l hl t ht (h.1.apart hq h1 hb h2)
   obtain ⟨t',t1,t2,_,p,t3,t4,_⟩:=Oy c r' b h1 h2
   have:=tG zk ht t1 (h.1.apart hq t3 hb t4)
   subst this
   exact hn r' (t2▸h1) h2) s.ins 0 x as us o st st1 (by omega) (λ_ h=>h) zk hT Afw WD (λ_ _=>rfl)
 have WI: ∀t∈Gw 0 s.ins as,t.2.reads=true->t.1<Ak:=by
  have: ∀(cs:List (Bool×CK)) (k:Nat) (as:List AC),k+cs.length<100000-> ∀t∈Gw k cs as,t.2.reads=true->t.1<Ak:=by
   intro cs
   induction cs with
   |nil=>intro k as _ t ht;cases as<;>cases ht
   |cons p r ih=>
    intro k as hk t ht hr
    simp only [List.length_cons] at hk
    cases as with
    |nil=>cases ht
    |cons a as=>
     simp only [Gw] at ht
     rcases List.mem_append.1 ht with ht|ht
     ·rcases yc ht with ⟨_,h1⟩|⟨h1,_⟩
      ·rw [hr] at h1;cases h1
      ·rw [h1];exact aF (by omega)
     ·exact ih (k+1) as (by omega) t ht hr
  exact this s.ins 0 as (by omega)
 let d:=dst.getD 0
 let ks:=Lu s tks d
 let dead:=gQ tks++ks++(if s.flat then [] else uV tks)
 let part:=whole tks
 have Agl:s.outs.length+(gf s d).length=s.Nm:=by unfold MSpec.Nm gf;cases s.rp<;>rfl
 obtain ⟨VT,Ag2,TB⟩:ks.length=s.Nm/\ks.Nodup/\ ∀l∈ks,l<Ak:=by
  have:=zC nm
  rw [Agl] at this
  exact this
 have TG:s.outs.length<=s.Nm:=by unfold MSpec.Nm;omega
 have QM: ∀tid,s.rp=some tid->Bu ks s.outs.length=Mt d/\s.Nm=s.outs.length+1:= λtid Qi=>by
  have h1:s.Nm=s.outs.length+1:=by unfold MSpec.Nm;rw [Qi]
  refine ⟨?_,h1⟩
  have h2:ks=gM s tks d++ [Mt d]:=by show gM s tks d++gf s d=_;unfold gf;rw [Qi]
  have h3:(gM s tks d).length=s.outs.length:=by rw [h2] at VT;simp at VT;omega
  rw [Le (by rw [VT];omega)]
  simp only [h2]
  rw [List.getElem_append_right (by omega)]
  simp [h3]
 have KK:=vY Ag2 TB
 have Ag0: ∀j,j<s.Nm->Bu ks j<Ak:= λj hj=>TB _ (mem_keys.2 ⟨j,by omega,rfl⟩)
 let π':Pi:= λl=>match (List.range s.Nm).find? λj=>decide (Bu ks j=l) with
  |some j=>ρ (Fq j)
  |none=>if l∈dead then none else π l
 have pI: ∀j,j<s.Nm->π' (Bu ks j)=ρ (Fq j):= λj hj=>by
  show (match (List.range s.Nm).find? λi=>decide (Bu ks i=Bu ks j) with|some i=>ρ (Fq i)|none=>_)=_
  cases hf:(List.range s.Nm).find? λi=>decide (Bu ks i=Bu ks j) with
  |none=>
   have:=List.find?_eq_none.1 hf j (List.mem_range.2 hj)
   simp at this
  |some i=>
   have:=List.find?_some hf
   rw [KK i j (of_decide_eq_true this)]
 have nk: ∀j,j<s.Nm->Bu ks j∈dead:= λj hj=>List.mem_append_left _ (List.mem_append_right _ (mem_keys.2 ⟨j,by omega,rfl⟩))
 have tj: ∀l,(¬ ∃j,j<s.Nm/\l=Bu ks j)->π' l=if l∈dead then none else π l:= λl hl=>by
  show (match (List.range s.Nm).find? λi=>decide (Bu ks i=l) with|some i=>ρ (Fq i)|none=>_)=_
  cases hf:(List.range s.Nm).find? λi=>decide (Bu ks i=l) with
  |none=>rfl
  |some i=>
   have h1:=List.find?_some hf
   exact absurd ⟨i,List.mem_range.1 (List.mem_of_find?_eq_some hf),(of_decide_eq_true h1).symm⟩ hl
 have KY: ∀l,l∉dead->π' l=π l:= λl hl=>by
  rw [tj l (λ⟨j,h1,h2⟩=>hl (h2▸nk j h1)),if_neg hl]
 have hD1: ∀b,Ol π' b\/X.Sc b->D1 b:=by
  intro b hb
  show (if s.flat then λ_=>True else ed S πc vB) b
  split
  ·trivial
  rename_i hnf
  rcases hb with ⟨l,q,hl,hf⟩|hb
  ·by_cases hk: ∃j,j<s.Nm/\l=Bu ks j
   ·obtain ⟨j,hj,rfl⟩:=hk
    rw [pI j hj,QP] at hl
    cases hp:vB (Fq j) with
    |none=>rw [hp] at hl;cases hl
    |some q0=>rw [hp] at hl;simp only [Option.map_some,Option.some.injEq] at hl;subst hl;exact .inr (.inr ⟨Fq j,q0,hp,hf⟩)
   ·have e0:π' l=if l∈dead then none else π l:=tj l hk
    rw [e0] at hl
    split at hl
    ·cases hl
    ·rename_i QG
     by_cases ho:Ol πc b
     ·obtain ⟨c,q',hc,hcb⟩:=ho
      obtain ⟨t,t1,t2,t0,p,t3,t4,_⟩:=Oy c q' b hc hcb
      have tm:=h.1.apart hl t3 hf t4
      refine .inr (.inl ⟨c,q',Classical.byContradiction λhn=>?_,hc,hcb⟩)
      exact QG (List.mem_append_left _ (List.mem_append_left _ (Yz.2 ⟨t,OQ▸t1,⟨by rw [t2];omega,t0⟩,tm.symm⟩)))
     ·refine .inl ⟨ho, .inl ⟨⟨l,q,hl,hf⟩,λl0 VU r0 WG hf0=>?_⟩⟩
      have:=h.1.apart hl WG hf hf0
      subst this
      exact QG (List.mem_append_right _ (by rw [if_neg hnf];exact nL.2 (hV' l VU)))
  ·refine .inl ⟨λho=>?_, .inr hb⟩
   have h1:=h.1.sc b hb
   rcases (h.1.own (zn b ho)).2 with h2|h2
   ·omega
   ·exact h1.2 h2
 have hpd: ∀l∈pl,l∉dead:= λl hl hd=>by
  rcases List.mem_append.1 hd with hd|hd
  ·rcases List.mem_append.1 hd with hd|hd
   ·obtain ⟨t,ht,_,e⟩:=Yz.1 hd
    exact (FG l hl).1 (List.mem_map.2 ⟨t,ht,e⟩)
   ·exact (FG l hl).2 hd
  ·split at hd
   ·cases hd
   ·obtain ⟨t,ht,_,e⟩:=nL.1 hd
    exact (FG l hl).1 (List.mem_map.2 ⟨t,ht,e⟩)
 have VS: ∀j,j<s.Nm->Bu ks j∉pl:= λj hj hp=>hpd _ hp (nk j hj)
 let bv:Option OB:=s.rp.map λtid=> .var tid ((Vm (Bu ks) 0 s.outs r).drop s.Tf)
 let H1:=(lI s.ins (Vm (Bu ks) 0 s.outs r) pl (st1.Wm dead part)).heap
 have ZD: ∀l,l∉pl->Ad H1 l=if l∈dead then none else (Ad st1.heap l).map (OB.map (Ax dead part)):= λl hl=>by
  show Ad (lI _ _ _ _).heap l=_
  rw [AX hl]
  show Ad (Qa (st1.heap.map λp=>(p.1,p.2.map (Ax dead part))) dead) l=_
  rw [Ik,Jh]
 let H2:=wQ H1 (Mt d) bv
 have hvd: ∀tid,s.rp=some tid->Mt d∈dead/\Mt d∉pl:= λtid Qi=>by
  obtain ⟨e1,e2⟩:=QM tid Qi
  rw [<-e1]
  exact ⟨nk _ (by omega),VS _ (by omega)⟩
 have Aa4: ∀l,(∀tid,s.rp=some tid->l≠Mt d)->Ad H2 l=Ad H1 l:= λl hl=>by
  show Ad (wQ H1 (Mt d) (s.rp.map _)) l=_
  cases yG:s.rp with
  |none=>rfl
  |some tid=>exact Jq _ _ _ _ (hl tid yG)
 have Aew: ∀tid,s.rp=some tid->Ad H2 (Mt d)=some (.var tid ((Vm (Bu ks) 0 s.outs r).drop s.Tf)):= λtid Qi=>by
  show Ad (wQ H1 (Mt d) (s.rp.map _)) (Mt d)=_
  rw [Qi]
  exact Kn _ _ _ (by rw [ZD _ (hvd tid Qi).2,if_pos (hvd tid Qi).1])
 have hkv: ∀j,j<s.outs.length-> ∀tid,s.rp=some tid->Bu ks j≠Mt d:= λj hj tid Qi e=>by
  have:=KK j s.outs.length (e.trans (QM tid Qi).1.symm)
  omega
 have hH2: ∀l,l∉pl->(∀tid,s.rp=some tid->l≠Mt d)->Ad H2 l=if l∈dead then none else (Ad st1.heap l).map (OB.map (Ax dead part)):= λl hl hv=>by
  rw [Aa4 l hv,ZD l hl]
 let H':=Qo (DA st (gQ tks)) (Bu ks) 0 s.outs r H2
 obtain ⟨n1,n2,n3⟩:=l7 (D:=D1) (X:=X) (key:=Bu ks) KK (fr:=DA st (gQ tks)) (ρ:=ρ) s.outs 0 r Po H2 Aaz (λj _ hj=>by
  rw [hH2 _ (VS j (by omega)) (hkv j (by omega)),if_pos (nk j (by omega))])
 have jz: ∀l,l∉dead->l∉pl->Ad H' l=(Ad st1.heap l).map (OB.map (Ax dead part)):= λl hl np=>by
  show Ad (Qo _ _ _ _ _ _) l=_
  rw [n1 l λj _ hj e=>hl (e▸nk j (by omega)),hH2 l np (λtid Qi e=>hl (e▸(hvd tid Qi).1)),if_neg hl]
 have PU: ∀l,l∈dead->(∀j,j<s.Nm->l≠Bu ks j)->Ad H' l=none:= λl hl hj=>by
  show Ad (Qo _ _ _ _ _ _) l=_
  rw [n1 l λj _ h2=>hj j (by omega),hH2 l (λhp=>hpd l hp hl) (λtid Qi e=>hj s.outs.length (by have:=(QM tid Qi).2;omega) (e.trans (QM tid Qi).1.symm)),if_pos hl]
 have newAt: ∀l b',Ad H' l=some b'->(l∈dead\/Ad st.heap l=none)-> ∃j,j<s.Nm/\l=Bu ks j:=by
  intro l b' hb hd
  refine Classical.byContradiction λhn=>?_
  have ma: ∀j,j<s.Nm->l≠Bu ks j:= λj hj e=>hn ⟨j,hj,e⟩
  rcases Classical.em (l∈dead) with hd'|hd'
  ·rw [PU l hd' ma] at hb;cases hb
  ·rcases hd with hd|hd
   ·exact hd' hd
   ·rw [jz l hd' (λhp=>by obtain ⟨_,_,_,_,_,_,_,h1,_⟩:=FH l hp;rw [hd] at h1;cases h1)] at hb
    have:Ad st1.heap l=none:=by
     by_cases hi: ∃t∈Gw 0 s.ins as,t.2.Pp=l
     ·obtain ⟨t,ht,e⟩:=hi
      by_cases Fh:t.1<Ak
      ·rw [<-e,q3 t ht Fh,e];exact hd
      ·obtain ⟨b0,_,h1,_⟩:=q4 t ht Fh
       rw [e,hd] at h1;cases h1
     ·rw [q2 l λt ht e=>hi ⟨t,ht,e.symm⟩];exact hd
    rw [this] at hb;cases hb
 have VL: ∀k,DA st (gQ tks)=true-> ∀q,ρ (Fq k)=some q->q.Ba q.g->X.w0.heap.size<=q.g:=by
  intro k zh q hq hg
  rcases (KN.Tj _ q _ hq hg).2 with h1|⟨c,p,h1,h2,h3⟩
  ·exact Nat.le_trans h.1.below.size h1
  ·obtain ⟨t,t1,t2,t0,p',t3,t4,_⟩:=Oy c p _ h2 h3
   have hm:t.2.Pp∈gQ tks:=Yz.2 ⟨t,OQ▸t1,⟨by rw [t2];exact h1,t0⟩,rfl⟩
   have:=List.all_eq_true.1 zh _ hm
   split at this
   ·rename_i fr tr e te xs hl
    unfold St.at at hl
    have hb:=(h.1.heap t.2.Pp).Ld hl
    simp only [Au,Fm,t3] at hb
    rw [hb.1.2.1 _ t4]
    exact hb.1.2.2 this
   ·cases this
 have VJ: ∀k q,ρ (Fq k)=some q->k<s.outs.length->q.Ba q.g:=by
  intro k q hq hk
  exact Ep.SD s.outs 0 r Po zm k (Nat.zero_le _) ((Nat.zero_add _).symm▸hk) q hq
 have hinv: ∀l,l∉dead->(∃t∈Gw 0 s.ins as,t.2.reads=false/\t.2.Pp=l)->gF X D1 w' π st.heap st1.heap l:=by
  rintro l hd ⟨t,ht,h0,rfl⟩
  by_cases Fh:t.1<Ak
  ·exact absurd (List.mem_append_left _ (List.mem_append_left _ (Yz.2 ⟨t,OQ▸ht,⟨Fh,h0⟩,rfl⟩))) hd
  ·exact q4 t ht Fh
 have tn: ∀l,(¬ ∃t∈Gw 0 s.ins as,t.2.reads=false/\t.2.Pp=l)->Ad st1.heap l=Ad st.heap l:= λl hn=>by
  by_cases hi: ∃t∈Gw 0 s.ins as,t.2.Pp=l
  ·obtain ⟨t,ht,rfl⟩:=hi
   have hr:t.2.reads=true:=by
    cases h0:t.2.reads with
    |true=>rfl
    |false=>exact absurd ⟨t,ht,h0,rfl⟩ hn
   exact q3 t ht (WI t ht hr)
  ·exact q2 l λt ht e=>hi ⟨t,ht,e.symm⟩
 have SK: ∀l∈pl,∀p,s.ptr=some p->Ad H' l=some (.var p.1 (bt s.ins (cells.map (Ax dead part)) (Vm (Bu ks) 0 s.outs r))):= λl hl p hp=>by
  obtain ⟨p',q,h1,h2,_,_,_,h3,_⟩:=FH l hl
  rw [hp] at h1;cases h1
  show Ad (Qo _ _ _ _ _ _) l=_
  rw [n1 l λj _ hj e=>VS j (by omega) (e▸hl),Aa4 l (λtid Qi e=>(hvd tid Qi).2 (e▸hl))]
  show Ad (lI _ _ _ _).heap l=_
  rw [h2]
  refine HE ?_
  show Ad (Qa (st1.heap.map λp=>(p.1,p.2.map (Ax dead part))) dead) l=_
  rw [Ik,Jh,if_neg (hpd l hl),tn l (λ⟨t,ht,_,e⟩=>QJ l hl t ht e),h3]
  rfl
 have TD: ∀j,j<s.Nm->s.outs.length<=j-> ∃tid,s.rp=some tid/\j=s.outs.length:= λj h1 h2=>by
  cases yG:s.rp with
  |none=>unfold MSpec.Nm at h1;rw [yG] at h1;simp at h1;omega
  |some tid=>exact ⟨tid,rfl,by have:=(QM tid yG).2;omega⟩
 have hHv: ∀tid,s.rp=some tid->Ad H' (Mt d)=some (.var tid ((Vm (Bu ks) 0 s.outs r).drop s.Tf)):= λtid Qi=>by
  show Ad (Qo _ _ _ _ _ _) _=_
  rw [n1 _ λj _ hj e=>hkv j (by omega) tid Qi e.symm,Aew tid Qi]
 suffices Aar:Aj X π' (fw st st1 d s pl tks r) a w'/\Am X w' π' (fw st st1 d s pl tks r).heap av0 v by
  obtain ⟨m1,m2⟩:=Aar
  have vr: ∀(kj:List (Nat×Nat)) (l:Nat),l∈Vh st.heap ks tks kj->ir st.heap l=true/\ ∃k j t,(k,j)∈kj/\t∈tks/\t=(Bq false k,Loc.row l)/\ks[j]?=some l:=by
   intro kj
   induction kj with
   |nil=>intro l hl;cases hl
   |cons p kj ih=>
    intro l hl
    obtain ⟨k,j⟩:=p
    have up:l∈Vh st.heap ks tks kj->ir st.heap l=true/\ ∃k' j' t,(k',j')∈(k,j)::kj/\t∈tks/\t=(Bq false k',Loc.row l)/\ks[j']?=some l:= λhl=>by
     obtain ⟨h1,k',j',t,h2,h3⟩:=ih l hl
     exact ⟨h1,k',j',t,List.mem_cons_of_mem _ h2,h3⟩
    simp only [Vh] at hl
    split at hl
    ·rename_i x0 l1 l2 h1 h2
     split at hl
     ·rename_i hc
      simp only [Bool.and_eq_true] at hc
      rcases List.mem_cons.1 hl with rfl|hl
      ·have:=List.find?_some h1
       have e1:=Nat.eq_of_beq_eq_true this
       have e2:=Nat.eq_of_beq_eq_true hc.1
       dsimp only at e1
       exact ⟨hc.2,k,j,_,List.mem_cons_self,List.mem_of_find?_eq_some h1,by rw [e1],by rw [h2,e2]⟩
      ·exact up hl
     ·exact up hl
    ·exact up hl
  obtain ⟨r1,r2⟩:=zz h m1 (ls:=Vh st.heap ks tks s.keeps) (n:=s.Cj x) (λl hl=>by
   obtain ⟨_,k,j,t,h1,h2,h3,h4⟩:=vr s.keeps l hl
   have hj:j<ks.length:=(List.getElem?_eq_some_iff.1 h4).1
   have IV:Bu ks j=l:=by
    rw [Le hj]
    rw [List.getElem?_eq_getElem hj] at h4
    exact Option.some.inj h4
   have pJ:=rz (k,j) h1
   rw [show π' l=ρ (Fq j) by rw [<-IV];exact pI j (by omega),QP]
   have hc:πc (Bq false k)=(π l).map full:=Aa6 k l (by rw [<-h3,<-OQ];exact h2)
   dsimp only at pJ
   rw [hc] at pJ
   cases hp:π l<;>cases hq:vB (Fq j)<;>(rw [hp,hq] at pJ;exact pJ)) (λl hl=>(vr s.keeps l hl).1) Ka
  exact ⟨π',r1,r2 av0 v m2⟩
 refine ⟨?_,?_⟩
 ·have hx:=Aj.US (π':=π') (H':=H') (dead:=dead) (part:=part) (inv:= λl=>(∃t∈Gw 0 s.ins as,t.2.reads=false/\t.2.Pp=l)\/l∈pl) (gv:= λb=>Ol πc b\/s.gv g b) h (λb hb=>by
    rcases hb with hb|hb
    ·obtain ⟨t,h1,h0,q,h2,h3,_⟩:=Yt b hb
     exact ⟨_,q, .inl ⟨t,h1,h0,rfl⟩,h2,h3⟩
    ·obtain ⟨l,hl,q,h1,h2,_⟩:=FB b hb
     exact ⟨l,q, .inr hl,h1,h2⟩) PX (λl b0 hd h0=>⟨KY l hd,?_⟩) (λl b' hb hd=>?_) (λl hl=>?_) (λm q hd hp hm hxa=>?_)
  ·have:({tmps:=(lI s.ins (Vm (Bu ks) 0 s.outs r) pl (st1.Wm dead part)).tmps,heap:=H'} :St)= {tmps:=st.tmps.map (·.map (Ax dead part)),heap:=H'} :=by
    rw [kc]
    show ({tmps:=st1.tmps.map (·.map (Ax dead part)),heap:=H'} :St)=_
    rw [q1]
   show Aj X π' ({tmps:=(lI s.ins (Vm (Bu ks) 0 s.outs r) pl (st1.Wm dead part)).tmps,heap:=H'} :St) a w'
   rw [this]
   exact hx
  ·by_cases QD:l∈pl
   ·obtain ⟨p,q,h1,h2,h3,h4,h5,h6,h7⟩:=FH l QD
    rw [h0] at h6;cases h6
    have pn:=SK l QD p h1
    refine .inr ⟨_,pn,⟨rfl,by rw [jU]⟩,λm=>?_⟩
    unfold fp at rk
    rw [h1] at rk
    obtain ⟨cs,k1,k2,k3⟩:=rk
    rw [<-h7] at k3
    refine ⟨q,h3,h4,cs.toArray,by rw [<-h5];exact k1,?_⟩
    refine Ia.to (dR (H:=st.heap) KY (λl1 b1 sz n hd1 JZ QK=>?_) s.ins 0 cells ja x us o st st1 (Vm (Bu ks) 0 s.outs r) Po cs (has▸hT) Aap (has▸WD) k3 (n3 π' hD1 (λj _ hj=>pI j (by omega)))) (by simpa using k2)
    have hnp:l1∉pl:= λhp=>by
     obtain ⟨_,_,_,_,_,_,_,h8,_⟩:=FH l1 hp
     rw [JZ] at h8;cases h8;cases QK
    by_cases hi: ∃t∈Gw 0 s.ins as,t.2.reads=false/\t.2.Pp=l1
    ·obtain ⟨b1,b',e1,e2,e3,e4,e5,e6⟩:=hinv l1 hd1 hi
     rw [JZ] at e1;cases e1
     exact ⟨b',by rw [jz l1 hd1 hnp,e2];simp [e4],by rw [e5.row];exact QK⟩
    ·exact ⟨_,by rw [jz l1 hd1 hnp,tn l1 hi,JZ];rfl,by rw [OB.ui];exact QK⟩
   by_cases hi: ∃t∈Gw 0 s.ins as,t.2.reads=false/\t.2.Pp=l
   ·obtain ⟨b1,b',e1,e2,e3,e4,e5,e6⟩:=hinv l hd hi
    rw [h0] at e1;cases e1
    exact .inr ⟨b',by rw [jz l hd QD,e2];simp [e4],by rw [e3];exact e5,λ_=>e6 π' H' hD1⟩
   ·exact .inl ⟨λhh=>hh.elim hi QD,by rw [jz l hd QD,tn l hi,h0];rfl⟩
  ·obtain ⟨j,hj,rfl⟩:=newAt l b' hb hd
   refine ⟨Ag0 j hj,?_,λq b hq=>?_⟩
   ·rw [pI j hj]
    rcases Nat.lt_or_ge j s.outs.length with ZJ|ZJ
    ·rcases n2 j (Nat.zero_le _) (by omega) with ⟨e1,_⟩|⟨b2,e1,e2⟩
     ·rw [show Ad H' (Bu ks j)=none from e1] at hb;cases hb
     ·rw [show Ad H' (Bu ks j)=some b2 from e1] at hb;cases hb
      exact e2 X π' H' (λhf q hq=>VL j hf q hq (VJ j q hq ZJ)) hD1
    ·obtain ⟨tid,Qi,hj0⟩:=TD j hj ZJ
     subst hj0
     rw [(QM tid Qi).1,hHv tid Qi] at hb;cases hb
     unfold mr at ah
     rw [Qi] at ah
     obtain ⟨q,y1,y2,y3,y4,_⟩:=ah
     rw [QP,y1]
     exact ⟨full q,rfl,y2,_,y3,Ia.to (Ia.take s.Tf (n3 π' hD1 (λj _ hj=>pI j (by omega)))).2 (by simpa using y4)⟩
   ·rw [pI j hj] at hq
    have Ly:=SQ _ q hq
    refine ⟨λhf=>by rw [Ly];exact hf,λhf=>?_⟩
    rw [Ly] at hf
    obtain ⟨h1,h2⟩:=KN.Tj _ q b hq hf
    refine ⟨h1,h2.imp id ?_,λl2 r2 hd2 FE VH=>?_⟩
    ·rintro ⟨c,p,h3,h4,h5⟩
     obtain ⟨t,t1,t2,t0,p',t3,t4,_⟩:=Oy c p b h4 h5
     exact ⟨t.2.Pp,p',List.mem_append_left _ (List.mem_append_left _ (Yz.2 ⟨t,OQ▸t1,⟨by rw [t2];exact h3,t0⟩,rfl⟩)),t3,t4⟩
    ·by_cases hk: ∃j,j<s.Nm/\l2=Bu ks j
     ·obtain ⟨j2,hj2,rfl⟩:=hk
      rw [pI j2 hj2] at FE
      rw [SQ _ r2 FE] at VH
      have:=KN.inj _ _ r2 q b FE hq VH hf
      unfold Fq at this
      have:j2=j:=by omega
      rw [this]
     ·have e0:π' l2=if l2∈dead then none else π l2:=tj l2 hk
      rw [e0] at FE
      split at FE
      ·cases FE
      ·rename_i QG
       rcases hd2 with hd2|hd2
       ·exact absurd hd2 QG
       ·rw [(h.1.heap l2).emp hd2] at FE;cases FE
  ·by_cases hk: ∃j,j<s.Nm/\l=Bu ks j
   ·obtain ⟨j,hj,rfl⟩:=hk
    rw [pI j hj]
    rcases Nat.lt_or_ge j s.outs.length with ZJ|ZJ
    ·rcases n2 j (Nat.zero_le _) (by omega) with ⟨_,e1⟩|⟨b2,e1,_⟩
     ·exact e1
     ·rw [show Ad H' (Bu ks j)=some b2 from e1] at hl;cases hl
    ·obtain ⟨tid,Qi,hj0⟩:=TD j hj ZJ
     subst hj0
     rw [(QM tid Qi).1,hHv tid Qi] at hl;cases hl
   ·have e0:π' l=if l∈dead then none else π l:=tj l hk
    rw [e0]
    split
    ·rfl
    ·rename_i hd
     by_cases QD:l∈pl
     ·obtain ⟨p,_,h1,_⟩:=FH l QD
      rw [SK l QD p h1] at hl;cases hl
     rw [jz l hd QD] at hl
     by_cases hi: ∃t∈Gw 0 s.ins as,t.2.reads=false/\t.2.Pp=l
     ·obtain ⟨_,b',_,e2,_⟩:=hinv l hd hi
      rw [e2] at hl;cases hl
     ·rw [tn l hi] at hl
      cases h0:Ad st.heap l with
      |none=>exact (h.1.heap l).emp h0
      |some b=>rw [h0] at hl;cases hl
  ·refine PX.block _ (h.1.lt hm).1 λzl=>?_
   rcases zl with ho|hg
   rotate_left
   ·obtain ⟨l,hl,q',h1,h2,_⟩:=FB _ hg
    have tm:=h.1.apart hm h1 (h.1.Ba hm) h2
    obtain ⟨_,_,_,_,_,_,_,h3,_⟩:=FH l hl
    obtain ⟨b,hxa,hxb⟩:=hxa
    rw [tm,h3] at hxa;cases hxa
    exact hxb rfl
   obtain ⟨t,t1,t0,p,t3,t4,t5⟩:=Yt _ ho
   have tm:=h.1.apart hm t3 (h.1.Ba hm) t4
   have ZP:p=q:=by rw [<-tm,hm] at t3;exact (Option.some.inj t3).symm
   cases TO:t.2 with
   |row l=>
    refine hp ?_
    show m∈whole tks
    unfold whole
    exact List.mem_flatMap.2 ⟨t,OQ▸t1,by rw [TO,tm,TO];simp [Loc.Pp]⟩
   |sub l i j=>exact t5 l i j TO (by rw [ZP])
   |view l=>rw [TO] at t0;cases t0
 ·have Agk:=n3 π' hD1 (λj _ hj=>pI j (by omega))
  cases yG:s.rp with
  |some tid=>
   unfold mr at ah
   rw [yG] at ah
   obtain ⟨q,y1,y2,y3,y4,rfl⟩:=ah
   unfold RE at cw
   rw [yG] at cw
   simp only [Option.some.injEq] at cw;subst cw
   refine ⟨full q,tid,_,hHv tid yG,?_,rfl⟩
   rw [<-(QM tid yG).1,pI _ (by have:=(QM tid yG).2;omega),QP,y1]
   rfl
  |none=>
  unfold mr at ah
  rw [yG] at ah
  obtain ⟨ah,Agq⟩:=ah
  unfold RE at cw
  rw [yG] at cw
  simp only at cw
  obtain ⟨g1,g2,g3,g4⟩:=Yq s.Ef _ (Po.drop s.Tf) Agq (Ia.take s.Tf Agk).2
  unfold Acd at cw
  unfold MU at ah
  split at cw
  ·rename_i hm
   rw [if_pos hm] at ah
   simp only [Option.some.injEq] at cw;subst cw
   subst ah
   exact ⟨_,rfl,g3.symm,g4⟩
  ·rename_i hm
   rw [if_neg hm] at ah
   split at cw
   ·rename_i av1 hga
    simp only [Option.some.injEq] at cw;subst cw
    rcases ah with ah|ah
    ·exact g2 0 _ v (by rw [hga];rfl) (by rw [ah];rfl)
    ·rw [hga,ah] at g1;cases g1
   ·simp only [Option.some.injEq] at cw;subst cw;trivial
   ·cases cw
end
end Go.Proofs.YtfolipnappekaaaGreat
