/-
  Part 17 of the proof that the statement FnExactProvesNoSolutionWithin holds.
-/
import Derived.Test.YtfolipnappekaaaGreatCProvesNoSolutionWithin15
namespace Go.Proofs.YtfolipnappekaaaGreat
open Go.RowKit
section
variable {P:Program} {T:Tab} {X:Ctx} {w w':World} {π π':Pi} {H H':List (Nat×OB)}
theorem Wp (k:Nat): ¬Bu true k<Am:=by unfold Bu Am;simp
theorem bY {k:Nat} (h:k<100000):Bu false k<Am:=by unfold Bu Am;simp;omega
def jq (X:Ctx) (D:Nat->Prop) (w':World) (π:Pi) (H Hn:List (Nat×OB)) (l:Nat):Prop:=
 ∃b0 b',Ad H l=some b0/\Ad Hn l=some b'/\(∀f,OB.map f b0=b0)/\(∀f,OB.map f b'=b')/\b0.bH b'/\ ∀π' H',(∀b,Qj π' b\/X.Sc b->D b)->Av X w' π' H' (π l) b'
theorem VP {io:Bool} {k:Nat} {τ:Ty} {a:AC} {t:Nat×Loc} (h:t∈Lk io k (.Dm τ) a):t.1=Bu false k:=by
 cases a<;>simp [Lk,views] at h<;>first|(obtain ⟨_,⟨_,_⟩,rfl⟩:=h;rfl)|(rw [h])
theorem OR {io:Bool} {k:Nat} {e:Ty} {te:TypeId} {a:AC} {t:Nat×Loc} (h:t∈Lk io k (.part e te) a):t.1=Bu io k:=by cases a<;>simp [Lk] at h<;>rw [h]
theorem VQ {io:Bool} {k:Nat} {e:Ty} {te:TypeId} {a:AC} {t:Nat×Loc} (h:t∈Lk io k (.row e te) a):t.1=Bu io k:=by cases a<;>simp [Lk] at h<;>rw [h]
theorem OS {io:Bool} {k:Nat} {e:Ty} {te:TypeId} {a:AC} {t:Nat×Loc} (h:t∈Lk io k (.Du e te) a):t.1=Bu io k:=by cases a<;>simp [Lk] at h<;>rw [h]
theorem bw {D:Nat->Prop} {π':Pi} {fr:Bool} {e:Ty} {es:List Value} {y:e.den} (hD: ∀b,Qj π' b\/X.Sc b->D b) (h:Cells w' D e es y):Cells w' (Bj X.w0.heap.size X.Sc π' (fr&&e.flat)) e es y:=by
 cases hf:e.flat with
 |true=>exact Cells.flat e es y hf h
 |false=>exact Cells.Cn (Nat.le_refl _) (λ_ _ _=>rfl) (λb _ hb=>by
   rcases hb with hb|hb|⟨hb,_⟩
   ·exact hD b (.inl hb)
   ·exact hD b (.inr hb)
   ·simp at hb) e es y h
theorem OU {D P:Nat->Prop} {g o:Nat} {cur:Array Value} {tr:Bool} {e:Ty} {xs:List e.den}
  (h: ∀(i:Nat) (x:e.den),xs[i]?=some x-> ∃es:List Value,es.length=e.size/\(∀j u,es[j]?=some u->cur[(o+i)*e.size+j]?=some u)/\Cells w' D e es x) (ht:(tr&&e.flat)=true):Sa w' P g o cur e xs:=by
 simp only [Bool.and_eq_true] at ht
 exact jN ht.2 h
theorem NR {D:Nat->Prop} (h:Im X w π H) {k:Nat} {c:CK} {ys:c.den} {a:AC} {u:Value} {r:Option Real} {x:c.den} {cur st1:St} (hs:w.heap.size<=w'.heap.size)
  (hU: ∀l i j q b,a= .sub l i j->π l=some q->q.Bg b->b<w.heap.size->(∀r',r=some r'-> ¬r'.Bg b)->w'.heap[b]?=w.heap[b]?)
  {V:List Nat} (ht:bl w (Jy X π V) r u c x/\Of w π H true a u r c x) (hr:cr w' D r c ys) (he:Ym cur c ys a=some st1) (cW: ∀t∈Lk true k c a,Ad cur.heap t.2.Ro=Ad H t.2.Ro):
  st1.tmps=cur.tmps/\(∀m,(∀t∈Lk true k c a,m≠t.2.Ro)->Ad st1.heap m=Ad cur.heap m)/\ ∀t∈Lk true k c a,jq X D w' π H st1.heap t.2.Ro:=by
 obtain ⟨hc,ht⟩:=ht
 cases c with
 |Dm τ=>cases a<;>simp [Ym] at he;subst he;exact ⟨rfl,λ_ _=>rfl,λt ht=>by simp [Lk] at ht⟩
 |row e te=>
  simp only [Of] at ht
  cases a<;>simp only [] at ht<;>first|(exact ht.elim)|skip
  ·simp only [Ym,Option.some.injEq] at he;subst he
   exact ⟨rfl,λ_ _=>rfl,λt ht=>by simp [Lk] at ht⟩
  ·rename_i l off len
   obtain ⟨rfl,rfl,rfl,fr,tr,hl⟩:=ht
   have Ky:Ad cur.heap l=some (.arr fr tr e te x):=(cW _ (List.mem_singleton.2 rfl)).trans hl
   simp only [Ym,St.at,Ky] at he
   split at he
   ·rename_i Fk
    obtain ⟨_,h1,_⟩:=Fk
    simp only [Option.some.injEq] at he;subst he
    refine ⟨rfl,λm hm=>Bv _ _ _ _ (hm _ (List.mem_singleton.2 rfl)),λt Qk=>?_⟩
    have Qk:=List.mem_singleton.1 Qk
    subst Qk
    refine ⟨_,_,hl,Cf _ _ _ _ Ky,λ_=>rfl,λ_=>rfl,⟨rfl,h1.symm⟩,λπ' H' hD=>?_⟩
    have hb:=(h.heap l).Md hl
    change Av X w' π' H' (π l) _
    simp only [Av,Fv] at hb⊢
    cases hp:π l with
    |none=>rw [hp] at hr;exact hr
    |some q=>
     rw [hp] at hr hb
     obtain ⟨k1,cu,ti,k2,k3,k4,k5,k6⟩:=hr
     exact ⟨⟨k1.1,k1.2,λhh=>hb.1.2.2 (by simp only [Bool.and_eq_true] at hh;exact hh.1)⟩,cu,ti,k2,k3,k4,k5,λi y hy=>by
      obtain ⟨es,g1,g2,g3⟩:=k6 i y hy
      exact ⟨es,g1,g2,bw hD g3⟩,λht=>OU k6 ht⟩
   ·cases he
  ·rename_i l i j
   obtain ⟨⟨_,hf⟩,tid,xs,hl,hx,q,hq,Qv,hre⟩:=ht
   have Ky:Ad cur.heap l=some (.Dg (.slice e) tid xs):=(cW _ (List.mem_singleton.2 rfl)).trans hl
   simp only [Ym,St.at,Ky,hx] at he
   rw [dif_pos trivial] at he
   ·split at he
    ·rename_i h1
     simp only [Option.some.injEq] at he;subst he
     refine ⟨rfl,λm hm=>Bv _ _ _ _ (hm _ (List.mem_singleton.2 rfl)),λt Qk=>?_⟩
     have Qk:=List.mem_singleton.1 Qk
     subst Qk
     refine ⟨_,_,hl,Cf _ _ _ _ Ky,λ_=>rfl,λ_=>rfl,⟨rfl,by simp⟩,λπ' H' _=>?_⟩
     show Ji w' (π l) (.slice e) tid _
     rw [hq]
     refine hre w' ys hs (λb Ey hb hn=>hU l i j q b rfl hq hb Ey hn) ?_
     have hv:=hc.1
     rw [<-show List.length ys=List.length x from h1] at hv
     exact Nq.HU hr hf hv
    ·cases he
 |Du e te=>
  simp only [Of] at ht
  cases a<;>simp only [] at ht<;>first|(exact ht.elim)|skip
  ·simp only [Ym,Option.some.injEq] at he;subst he
   exact ⟨rfl,λ_ _=>rfl,λt ht=>by simp [Lk] at ht⟩
  ·rename_i l off len
   obtain ⟨rfl,rfl,rfl,hl⟩:=ht
   have Ky:Ad cur.heap l=some (.Dg e te x):=(cW _ (List.mem_singleton.2 rfl)).trans hl
   simp only [Ym,St.at,Ky] at he
   split at he
   ·rename_i Fk
    obtain ⟨_,h1,_⟩:=Fk
    simp only [Option.some.injEq] at he;subst he
    refine ⟨rfl,λm hm=>Bv _ _ _ _ (hm _ (List.mem_singleton.2 rfl)),λt Qk=>?_⟩
    have Qk:=List.mem_singleton.1 Qk
    subst Qk
    refine ⟨_,_,hl,Cf _ _ _ _ Ky,λ_=>rfl,λ_=>rfl,⟨rfl,h1.symm⟩,λπ' H' _=>?_⟩
    show Ji w' (π l) e te _
    cases hp:π l with
    |none=>rw [hp] at hr;exact hr
    |some q=>rw [hp] at hr;exact hr
   ·cases he
  ·rename_i l i j
   obtain ⟨_,tid,xs,hl,hx,q,hq,Qv,hre⟩:=ht
   have Ky:Ad cur.heap l=some (.Dg (.slice e) tid xs):=(cW _ (List.mem_singleton.2 rfl)).trans hl
   simp only [Ym,St.at,Ky,hx] at he
   rw [dif_pos trivial] at he
   ·split at he
    ·rename_i h1
     simp only [Option.some.injEq] at he;subst he
     refine ⟨rfl,λm hm=>Bv _ _ _ _ (hm _ (List.mem_singleton.2 rfl)),λt Qk=>?_⟩
     have Qk:=List.mem_singleton.1 Qk
     subst Qk
     refine ⟨_,_,hl,Cf _ _ _ _ Ky,λ_=>rfl,λ_=>rfl,⟨rfl,by simp⟩,λπ' H' _=>?_⟩
     show Ji w' (π l) (.slice e) tid _
     rw [hq]
     refine hre w' ys hs (λb Ey hb hn=>hU l i j q b rfl hq hb Ey hn) ?_
     have hv:=hc.1
     rw [<-show List.length ys=List.length x from h1] at hv
     exact Ji.HU (te:=te) hr hv
    ·cases he
 |part e te=>cases a<;>simp [Ym] at he<;>first|(simp only [Of] at ht;exact ht.2.elim)
 |Al e te kp=>exact absurd ht.1 (by simp)
theorem NS {D:Nat->Prop} (h:Im X w π H) {k:Nat} {e:Ty} {te:TypeId} {ys:List e.den} {a:AC} {u:Value} {r:Option Real} {x:(CK.part e te).den} {cur st1:St}
  {V:List Nat} (ht:bl w (Jy X π V) r u (.part e te) x/\Of w π H true a u r (.part e te) x) (hr:cr w' D r (.row e te) ys) (he:GH cur e ys a=some st1) (cW: ∀t∈Lk true k (.part e te) a,Ad cur.heap t.2.Ro=Ad H t.2.Ro):
  st1.tmps=cur.tmps/\(∀m,(∀t∈Lk true k (.part e te) a,m≠t.2.Ro)->Ad st1.heap m=Ad cur.heap m)/\ ∀t∈Lk true k (.part e te) a,jq X D w' π H st1.heap t.2.Ro:=by
 obtain ⟨hc,hf,ht⟩:=ht
 cases a<;>simp only [] at ht<;>first|(exact ht.elim)|skip
 rename_i l off len
 obtain ⟨rfl,_,fr,tr,hl⟩:=ht
 have Ky:Ad cur.heap l=some (.arr fr tr e te x.1):=(cW _ (List.mem_singleton.2 rfl)).trans hl
 simp only [GH,St.at,Ky] at he
 split at he
 ·rename_i Fk
  obtain ⟨_,h1⟩:=Fk
  simp only [Option.some.injEq] at he;subst he
  refine ⟨rfl,λm hm=>Bv _ _ _ _ (hm _ (List.mem_singleton.2 rfl)),λt Qk=>?_⟩
  have Qk:=List.mem_singleton.1 Qk
  subst Qk
  refine ⟨_,_,hl,Cf _ _ _ _ Ky,λ_=>rfl,λ_=>rfl,⟨rfl,h1.symm⟩,λπ' H' _=>?_⟩
  have hb:=(h.heap l).Md hl
  change Av X w' π' H' (π l) _
  simp only [Av,Fv] at hb⊢
  cases hp:π l with
  |none=>rw [hp] at hr;exact hr
  |some q=>
   rw [hp] at hr hb
   obtain ⟨k1,cu,ti,k2,k3,k4,k5,k6⟩:=hr
   exact ⟨⟨k1.1,k1.2,hb.1.2.2⟩,cu,ti,k2,k3,k4,k5,λi y hy=>by
    obtain ⟨es,g1,g2,g3⟩:=k6 i y hy
    exact ⟨es,g1,g2,Cells.flat e es y hf g3⟩,λ_=>jN hf k6⟩
 ·cases he
def oF (X:Ctx) (D:Nat->Prop) (w':World) (π:Pi) (H:List (Nat×OB)) (tk:List (Nat×Loc)) (cur st1:St):Prop:=
 st1.tmps=cur.tmps/\(∀m,(∀t∈tk,m≠t.2.Ro)->Ad st1.heap m=Ad cur.heap m)/\(∀t∈tk,t.1<Am->Ad st1.heap t.2.Ro=Ad cur.heap t.2.Ro)/\(∀t∈tk,¬t.1<Am->jq X D w' π H st1.heap t.2.Ro)
theorem qK {D:Nat->Prop} (h:Im X w π H) {V:List Nat} {πc:Pi} {tks:List (Nat×Loc)} (hs:w.heap.size<=w'.heap.size)
  (hU: ∀t∈tks,∀q b,π t.2.Ro=some q->q.Bg b->b<w.heap.size->(∀r',πc t.1=some r'-> ¬r'.Bg b)->w'.heap[b]?=w.heap[b]?):
  ∀(cs:List (Bool×CK)) (k:Nat) (x:Ins.den cs) (as:List AC) (us:List Value) (o:IOs.den cs) (cur st1:St),k+cs.length<100000->(∀t∈Hf k cs as,t∈tks)->((Hf k cs as).map λt=>t.2.Ro).Nodup->
   nU X w π V H πc k cs x as us->Hm w' D πc k cs o->Ef cs o as cur=some st1->(∀t∈Hf k cs as,Ad cur.heap t.2.Ro=Ad H t.2.Ro)->
   oF X D w' π H (Hf k cs as) cur st1
 | [],k,x,as,us,o,cur,st1,_,_,_,_,_,he,_=>by
  simp only [Ef,Option.some.injEq] at he;subst he
  have e0:Hf k [] as= []:=by cases as<;>rfl
  exact ⟨rfl,λ_ _=>rfl,by rw [e0];simp,by rw [e0];simp⟩
 |p::r,k,x,[],us,o,cur,st1,_,_,_,ht,_,_,_=>ht.elim
 |p::r,k,x,a::as,[],o,cur,st1,_,_,_,ht,_,_,_=>ht.elim
 |(io,c)::r,k,x,a::as,u::us,o,cur,st1,hk,Kz,JS,ht,ho,he,cW=>by
  simp only [List.length_cons] at hk
  simp only [Hf] at Kz JS cW⊢
  rw [List.map_append] at JS
  obtain ⟨n1,n2,n3⟩:=List.nodup_append.1 JS
  have apart: ∀t∈Lk io k c a,∀t'∈Hf (k+1) r as,t'.2.Ro≠t.2.Ro:= λt h1 t' h2 e=>n3 _ (List.mem_map.2 ⟨t,h1,rfl⟩) _ (List.mem_map.2 ⟨t',h2,rfl⟩) e.symm
  have rest: ∀(Vc:St) (o':IOs.den r),Hm w' D πc (k+1) r o'->Ef r o' as Vc=some st1->Vc.tmps=cur.tmps->(∀m,(∀t∈Lk io k c a,m≠t.2.Ro)->Ad Vc.heap m=Ad cur.heap m)->
    (∀t∈Lk io k c a,t.1<Am->Ad Vc.heap t.2.Ro=Ad cur.heap t.2.Ro)->(∀t∈Lk io k c a,¬t.1<Am->jq X D w' π H Vc.heap t.2.Ro)->
    oF X D w' π H (Lk io k c a++Hf (k+1) r as) cur st1:=by
   intro Vc o' h1 h2 h3 h4 h5 h6
   obtain ⟨g1,g2,g3,g4⟩:=qK h hs hU r (k+1) x.2 as us o' Vc st1 (by omega) (λt ht=>Kz t (List.mem_append_right _ ht)) n2 ht.2 h1 h2 (λt Qk=>by
    rw [h4 _ λt0 ht0=>apart t0 ht0 t Qk];exact cW t (List.mem_append_right _ Qk))
   have hd: ∀t∈Lk io k c a,Ad st1.heap t.2.Ro=Ad Vc.heap t.2.Ro:= λt Qk=>g2 _ λt' um=>(apart t Qk t' um).symm
   refine ⟨g1.trans h3,λm hm=>?_,λt Qk Ey=>?_,λt Qk Ey=>?_⟩
   ·rw [g2 m λt ht=>hm t (List.mem_append_right _ ht),h4 m λt ht=>hm t (List.mem_append_left _ ht)]
   ·rcases List.mem_append.1 Qk with Qk|Qk
    ·rw [hd t Qk,h5 t Qk Ey]
    ·rw [g3 t Qk Ey,h4 _ λt0 ht0=>apart t0 ht0 t Qk]
   ·rcases List.mem_append.1 Qk with Qk|Qk
    ·obtain ⟨b0,b',q1,q2,q3⟩:=h6 t Qk Ey
     exact ⟨b0,b',q1,(hd t Qk).trans q2,q3⟩
    ·exact g4 t Qk Ey
  have same: ∀o',Hm w' D πc (k+1) r o'->Ef r o' as cur=some st1->(∀t∈Lk io k c a,t.1<Am)->oF X D w' π H (Lk io k c a++Hf (k+1) r as) cur st1:= λo' h1 h2 h3=>rest cur o' h1 h2 rfl (λ_ _=>rfl) (λ_ _ _=>rfl) (λt h4 h5=>absurd (h3 t h4) h5)
  cases io with
  |false=>
   have h3: ∀t∈Lk false k c a,t.1<Am:= λt h4=>by rcases BN h4 with ⟨h5,_⟩|⟨h5,_⟩<;>(rw [h5];exact bY (by omega))
   cases c with
   |Dm τ=>exact same o ho (by simpa only [Ef] using he) h3
   |row e te=>exact same o ho (by simpa only [Ef] using he) h3
   |Du e te=>exact same o ho (by simpa only [Ef] using he) h3
   |part e te=>exact same o ho (by simpa only [Ef] using he) h3
   |Al e te kp=>exact same o ho (by simpa only [Ef] using he) h3
  |true=>
   have row: ∀(ys:c.den) (o':IOs.den r),(∀t∈Lk true k c a,t.1=Bu true k)->cr w' D (πc (Bu true k)) c ys->Hm w' D πc (k+1) r o'->(∃Vc,Ym cur c ys a=some Vc/\Ef r o' as Vc=some st1)->oF X D w' π H (Lk true k c a++Hf (k+1) r as) cur st1:=by
    intro ys o' h0 h1 h2 h3
    obtain ⟨Vc,hp,h3⟩:=h3
    ·obtain ⟨q1,q2,q3⟩:=NR (k:=k) h hs (λl i j q b ea hq hb Ey hn=>by
      cases c with
      |Dm τ=>exact absurd (ht.1.2:πc _=none) (by subst ea;simp [Ym] at hp)
      |row e te=>subst ea;exact hU (Bu true k, .sub l i j) (Kz _ (List.mem_append_left _ (List.mem_singleton.2 rfl))) q b hq hb Ey hn
      |Du e te=>subst ea;exact hU (Bu true k, .sub l i j) (Kz _ (List.mem_append_left _ (List.mem_singleton.2 rfl))) q b hq hb Ey hn
      |Al e te kp=>exact absurd ht.1.2.1 (by simp)
      |part e te=>exact absurd ht.1.2.2 (by subst ea;exact λh=>h)) ht.1 h1 hp (λt Qk=>cW t (List.mem_append_left _ Qk))
     exact rest Vc o' h2 h3 q1 q2 (λt h4 h5=>absurd h5 (by rw [h0 t h4];exact Wp k)) (λt h4 _=>q3 t h4)
   cases c with
   |Dm τ=>exact same o ho (by simpa only [Ef] using he) (λt h4=>by rw [VP h4];exact bY (by omega))
   |Al e te kp=>exact absurd ht.1.2.1 (by simp)
   |row e te=>
    simp only [Ef] at he
    split at he
    ·rename_i Vc hp;exact row o.1 o.2 (λt ht=>VQ ht) ho.1 ho.2 ⟨Vc,hp,he⟩
    ·cases he
   |Du e te=>
    simp only [Ef] at he
    split at he
    ·rename_i Vc hp;exact row o.1 o.2 (λt ht=>OS ht) ho.1 ho.2 ⟨Vc,hp,he⟩
    ·cases he
   |part e te=>
    simp only [Ef] at he
    split at he
    ·rename_i Vc hp
     obtain ⟨q1,q2,q3⟩:=NS (k:=k) h ht.1 ho.1 hp (λt Qk=>cW t (List.mem_append_left _ Qk))
     exact rest Vc o.2 ho.2 he q1 q2 (λt h4 h5=>absurd h5 (by rw [OR h4];exact Wp k)) (λt h4 _=>q3 t h4)
    ·cases he
theorem FI {fr:Bool} {c:CK} {x:c.den} {u:Value} {r:Option Real} {D:Nat->Prop} (h:bl w' D r u c x):
  (sD fr c x=none/\r=none)\/ ∃b',sD fr c x=some b'/\ ∀(X:Ctx) π' H',(fr=true-> ∀q,r=some q->X.w0.heap.size<=q.g)->(∀b,Qj π' b\/X.Sc b->D b)->Av X w' π' H' r b':=by
 cases c with
 |Dm τ=>exact .inl ⟨rfl,h.1⟩
 |row e te=>
  refine .inr ⟨_,rfl,λX π' H' zd hD=>?_⟩
  obtain ⟨_,h⟩:=h
  simp only [cr] at h
  simp only [Av,Fv]
  cases r with
  |none=>exact h
  |some q=>
   obtain ⟨k1,cu,ti,k2,k3,k4,k5,k6⟩:=h
   exact ⟨⟨k1.1,k1.2,λh1=>zd (by simp only [Bool.and_eq_true] at h1;exact h1.1) q rfl⟩,cu,ti,k2,k3,k4,k5,λi y hy=>by
    obtain ⟨es,g1,g2,g3⟩:=k6 i y hy
    exact ⟨es,g1,g2,bw hD g3⟩,λh=>by cases h⟩
 |Du e te=>exact .inr ⟨_,rfl,λX π' H' _ _=>h.2⟩
 |Al e te kp=>exact .inr ⟨_,rfl,λX π' H' _ hD=>⟨Vm.En h.2 λb hb=>hD b (hb.imp id λh=>h.elim id λh=>by cases h.1),trivial⟩⟩
 |part e te=>
  refine .inr ⟨_,rfl,λX π' H' zd hD=>?_⟩
  obtain ⟨_,hf,h⟩:=h
  simp only [Av,Fv]
  cases r with
  |none=>exact h
  |some q=>
   obtain ⟨k1,cu,ti,k2,k3,k4,k5,k6⟩:=h
   exact ⟨⟨k1.1,k1.2,λh1=>zd (by simp only [Bool.and_eq_true] at h1;exact h1.1) q rfl⟩,cu,ti,k2,k3,k4,k5,λi y hy=>by
    obtain ⟨es,g1,g2,g3⟩:=k6 i y hy
    exact ⟨es,g1,g2,bw hD g3⟩,λh=>by cases h⟩
theorem nC {D:Nat->Prop} {key:Nat->Nat} (RR: ∀i j,key i=key j->i=j) {fr:Bool} {ρ:Pi} : ∀(cs:List CK) (k:Nat) (x:CKs.den cs) (us:List Value) (H:List (Nat×OB)),Ez w' D ρ k cs x us->
  (∀j,k<=j->j<k+cs.length->Ad H (key j)=none)->
  (∀l,(∀j,k<=j->j<k+cs.length->l≠key j)->Ad (Sx fr key k cs x H) l=Ad H l)/\
  (∀j,k<=j->j<k+cs.length->(Ad (Sx fr key k cs x H) (key j)=none/\ρ (Fz j)=none)\/
   ∃b',Ad (Sx fr key k cs x H) (key j)=some b'/\ ∀(X:Ctx) π' H',(fr=true-> ∀q,ρ (Fz j)=some q->X.w0.heap.size<=q.g)->(∀b,Qj π' b\/X.Sc b->D b)->Av X w' π' H' (ρ (Fz j)) b')/\
  (∀π',(∀b,Qj π' b\/X.Sc b->D b)->(∀j,k<=j->j<k+cs.length->π' (key j)=ρ (Fz j))->Io X w' π' (Sx fr key k cs x H) (Xv key k cs x) us)
 | [],k,x,[],H,_,_=>⟨λ_ _=>rfl,λj h1 h2=>by simp at h2;omega,λ_ _ _=>trivial⟩
 | [],_,_,_::_,_,h,_=>h.elim
 |_::_,_,_,[],_,h,_=>h.elim
 |c::r,k,x,u::us,H,h,hn=>by
  simp only [List.length_cons] at hn⊢
  simp only [Sx,Xv]
  have we:=hn k (Nat.le_refl _) (by omega)
  have hH1: ∀l,l≠key k->Ad (zp H (key k) (sD fr c x.1)) l=Ad H l:=by
   intro l hl
   cases sD fr c x.1 with
   |some b=>exact Km _ _ _ _ hl
   |none=>rfl
  have Ag3:Ad (zp H (key k) (sD fr c x.1)) (key k)=sD fr c x.1:=by
   cases sD fr c x.1 with
   |some b=>exact Lm _ _ _ we
   |none=>exact we
  generalize (zp H (key k) (sD fr c x.1))=H1 at hH1 Ag3⊢
  obtain ⟨g1,g2,g3⟩:=nC RR (fr:=fr) r (k+1) x.2 us H1 h.2 (λj h1 h2=>by
   rw [hH1 _ λe=>by have:=RR _ _ e;omega];exact hn j (by omega) (by omega))
  have WO:Ad (Sx fr key (k+1) r x.2 H1) (key k)=sD fr c x.1:=by
   rw [g1 _ λj h1 h2 e=>by have:=RR _ _ e;omega];exact Ag3
  refine ⟨λl hl=>?_,λj h1 h2=>?_,λπ' hd hπ=>⟨?_,?_⟩⟩
  ·rw [g1 l λj h1 h2=>hl j (by omega) (by omega)]
   exact hH1 l (hl k (Nat.le_refl _) (by omega))
  ·rcases Nat.eq_or_lt_of_le h1 with e|h1
   ·subst e
    rw [WO]
    exact FI h.1
   ·exact g2 j h1 (by omega)
  ·have h1:=h.1
   have hpk:=hπ k (Nat.le_refl _) (by omega)
   cases c with
   |Dm τ=>
    obtain ⟨dx,c1,c2⟩:=h1.2
    exact ⟨dx,by have:=bw (fr:=true) hd c1;simpa using this,c2⟩
   |row e te=>exact ⟨_,e.size,List.length x.1,WO,rfl,by simp,by rw [hpk];exact h1.1⟩
   |Du e te=>exact ⟨_,e.size,List.length x.1,WO,rfl,by simp,by rw [hpk];exact h1.1⟩
   |Al e te kp=>exact ⟨_,1,List.length x.1,WO,rfl,by simp,by rw [hpk];exact h1.1⟩
   |part e te=>trivial
  ·exact g3 π' hd λj h1 h2=>hπ j (by omega) (by omega)
theorem EX {ks:List Nat} {n:Nat} (h:wD ks n=true):ks.length=n/\ks.Nodup/\ ∀l∈ks,l<Am:=by
 unfold wD at h
 simp only [Bool.and_eq_true] at h
 refine ⟨Nat.eq_of_beq_eq_true h.1,Sw h.2.1,λl hl=>?_⟩
 have:=List.all_eq_true.1 h.2.2 l hl
 simpa using this
theorem Mi {ks:List Nat} {j:Nat} (h:j<ks.length):Bz ks j=ks[j]:=by
 unfold Bz
 rw [List.getElem?_eq_getElem h]
theorem yG {ks:List Nat} (hn:ks.Nodup) (hl: ∀l∈ks,l<Am): ∀i j,Bz ks i=Bz ks j->i=j:=by
 intro i j h
 by_cases hi:i<ks.length
 ·by_cases hj:j<ks.length
  ·rw [Mi hi,Mi hj] at h
   rcases Nat.lt_trichotomy i j with Ey|he|Ey
   ·exact absurd h (List.pairwise_iff_getElem.1 hn i j hi hj Ey)
   ·exact he
   ·exact absurd h.symm (List.pairwise_iff_getElem.1 hn j i hj hi Ey)
  ·have h1:=hl _ (List.getElem_mem hi)
   rw [Mi hi] at h
   unfold Bz at h
   rw [List.getElem?_eq_none (by omega)] at h
   simp only at h
   omega
 ·by_cases hj:j<ks.length
  ·have h1:=hl _ (List.getElem_mem hj)
   rw [Mi hj] at h
   unfold Bz at h
   rw [List.getElem?_eq_none (by omega)] at h
   simp only at h
   omega
  ·unfold Bz at h
   rw [List.getElem?_eq_none (by omega),List.getElem?_eq_none (by omega)] at h
   simp only at h
   omega
theorem Jc: ∀(H:List (Nat×OB)) (dead:List Nat) (l:Nat),Ad (Si H dead) l=if l∈dead then none else Ad H l
 | [],dead,l=>by simp [Si,Ad]
 |(k,b)::r,dead,l=>by
  simp only [Si]
  have ih:=Jc r dead l
  by_cases hk:k∈dead
  ·rw [if_pos (by simpa using hk),ih]
   split
   ·rfl
   ·rename_i hl
    simp only [Ad]
    rw [if_neg (λ(e:k=l)=>hl (e▸hk))]
  ·rw [if_neg (by simpa using hk)]
   simp only [Ad]
   split
   ·rename_i e;subst e;rw [if_neg hk]
   ·exact ih
theorem mem_keys {ks:List Nat} {l:Nat} :l∈ks↔ ∃k,k<ks.length/\l=Bz ks k:=
 ⟨λh=>by obtain ⟨k,hk,e⟩:=List.getElem_of_mem h;exact ⟨k,hk,by rw [Mi hk,e]⟩,λ⟨k,hk,e⟩=>by rw [e,Mi hk];exact List.getElem_mem hk⟩
theorem aQ {tks:List (Nat×Loc)} {l:Nat} :l∈jD tks↔ ∃t∈tks,(t.1<Am/\t.2.reads=false)/\t.2.Ro=l:=by
 unfold jD
 simp only [List.mem_map,List.mem_filter,Bool.and_eq_true,Nat.blt_eq,Bool.not_eq_true']
 exact ⟨λ⟨t,⟨h1,h2⟩,h3⟩=>⟨t,h1,h2,h3⟩,λ⟨t,h1,h2,h3⟩=>⟨t,⟨h1,h2⟩,h3⟩⟩
theorem wE {tks:List (Nat×Loc)} (h:(tks.map λt=>t.2.Ro).Nodup) {t t':Nat×Loc} (ht:t∈tks) (um:t'∈tks) (he:t.2.Ro=t'.2.Ro):t=t':=by
 induction tks with
 |nil=>cases ht
 |cons a r ih=>
  simp only [List.map_cons] at h
  obtain ⟨h1,h2⟩:=List.nodup_cons.1 h
  rcases List.mem_cons.1 ht with rfl|ht<;>rcases List.mem_cons.1 um with rfl|um
  ·rfl
  ·exact (h1 (List.mem_map.2 ⟨t',um,he.symm⟩)).elim
  ·exact (h1 (he▸List.mem_map.2 ⟨t,‹t∈r›,rfl⟩)).elim
  ·exact ih h2 ht um
theorem Ez.full {D:Nat->Prop} {ρ:Pi} : ∀(cs:List CK) (k:Nat) (x:CKs.den cs) (us:List Value),Ez w D ρ k cs x us->Ez w D (λl=>(ρ l).map full) k cs x us
 | [],_,_,[],h=>h
 | [],_,_,_::_,h=>h.elim
 |_::_,_,_,[],h=>h.elim
 |c::r,k,x,u::us,h=>⟨by
   have h1:=h.1
   show bl w D ((ρ (Fz k)).map _) u c x.1
   cases c with
   |Dm τ=>rw [h1.1];exact ⟨rfl,h1.2⟩
   |row e te=>cases hp:ρ (Fz k)<;>(rw [hp] at h1;exact h1)
   |Du e te=>cases hp:ρ (Fz k)<;>(rw [hp] at h1;exact h1)
   |Al e te kp=>cases hp:ρ (Fz k)<;>(rw [hp] at h1;exact h1)
   |part e te=>cases hp:ρ (Fz k)<;>(rw [hp] at h1;exact h1),Ez.full r (k+1) x.2 us h.2⟩
theorem Ez.ZY {D:Nat->Prop} {ρ:Pi} : ∀(cs:List CK) (k0:Nat) (x:CKs.den cs) (us:List Value),Ez w D ρ k0 cs x us-> ∀j,k0<=j->j<k0+cs.length-> ∀q,ρ (Fz j)=some q->q.Bg q.g
 | [],k0,_,_,_,j,h1,h2,_,_=>by simp at h2;omega
 |_::_,_,_,[],h,_,_,_,_,_=>h.elim
 |c::r,k0,x,u::us,ho,j,h1,h2,q,hq=>by
  rcases Nat.eq_or_lt_of_le h1 with e|h1
  ·subst e
   have:=ho.1
   cases c with
   |Dm τ=>rw [hq] at this;cases this.1
   |row e te=>rw [hq] at this;exact this.2.1.1
   |Du e te=>rw [hq] at this;exact this.2.1
   |part e te=>rw [hq] at this;exact this.2.2.1.1
   |Al e te kp=>rw [hq] at this;exact this.2.1
  ·exact Ez.ZY r (k0+1) x.2 us ho.2 j h1 (by simp at h2;omega) q hq
theorem Nq.any {D D':Nat->Prop} {r:Option Real} {e:Ty} {xs:List e.den} (hf:e.flat=true) (h:Nq w D r e xs):Nq w D' r e xs:=by
 cases r with
 |none=>exact h
 |some r=>
  obtain ⟨k1,cu,ti,k2,k3,k4,k5,k6⟩:=h
  exact ⟨k1,cu,ti,k2,k3,k4,k5,λi y hy=>by
   obtain ⟨es,g1,g2,g3⟩:=k6 i y hy
   exact ⟨es,g1,g2,Cells.flat e es y hf g3⟩⟩
theorem Ez.any {D D':Nat->Prop} {ρ:Pi} : ∀(cs:List CK) (k:Nat) (x:CKs.den cs) (us:List Value),cs.all (·.flat)=true->Ez w D ρ k cs x us->Ez w D' ρ k cs x us
 | [],_,_,[],_,h=>h
 | [],_,_,_::_,_,h=>h.elim
 |_::_,_,_,[],_,h=>h.elim
 |c::r,k,x,u::us,hf,h=>by
  simp only [List.all_cons,Bool.and_eq_true] at hf
  refine ⟨?_,Ez.any r (k+1) x.2 us hf.2 h.2⟩
  have h1:=h.1
  cases c with
  |Dm τ=>exact ⟨h1.1,Bc.flat hf.1 h1.2⟩
  |row e te=>exact ⟨h1.1,Nq.any hf.1 h1.2⟩
  |Du e te=>exact h1
  |part e te=>exact ⟨h1.1,h1.2.1,Nq.any hf.1 h1.2.2⟩
  |Al e te kp=>exact absurd hf.1 (by simp [CK.flat])
theorem Hm.any {D D':Nat->Prop} {π:Pi} : ∀(cs:List (Bool×CK)) (k:Nat) (x:IOs.den cs),(cs.all λp=>!p.1||p.2.flat)=true->Hm w D π k cs x->Hm w D' π k cs x
 | [],_,_,_,h=>h
 |(false,_)::r,k,x,hf,h=>Hm.any r (k+1) x (by simp only [List.all_cons,Bool.and_eq_true] at hf;exact hf.2) h
 |(true, .Dm _)::r,k,x,hf,h=>Hm.any r (k+1) x (by simp only [List.all_cons,Bool.and_eq_true] at hf;exact hf.2) h
 |(true, .Al _ _ _)::r,k,x,hf,h=>Hm.any r (k+1) x (by simp only [List.all_cons,Bool.and_eq_true] at hf;exact hf.2) h
 |(true, .row e te)::r,k,x,hf,h=>by
  simp only [List.all_cons,Bool.and_eq_true,Bool.not_true,Bool.false_or] at hf
  exact ⟨Nq.any hf.1 h.1,Hm.any r (k+1) x.2 hf.2 h.2⟩
 |(true, .Du e te)::r,k,x,hf,h=>by
  simp only [List.all_cons,Bool.and_eq_true,Bool.not_true,Bool.false_or] at hf
  exact ⟨h.1,Hm.any r (k+1) x.2 hf.2 h.2⟩
 |(true, .part e te)::r,k,x,hf,h=>by
  simp only [List.all_cons,Bool.and_eq_true,Bool.not_true,Bool.false_or] at hf
  exact ⟨Nq.any hf.1 h.1,Hm.any r (k+1) x.2 hf.2 h.2⟩
theorem qp {tks:List (Nat×Loc)} {l:Nat} :l∈xP tks↔ ∃t∈tks,t.2.reads=true/\t.2.Ro=l:=by
 unfold xP
 simp only [List.mem_map,List.mem_filter]
 exact ⟨λ⟨t,⟨h1,h2⟩,h3⟩=>⟨t,h1,h2,h3⟩,λ⟨t,h1,h2,h3⟩=>⟨t,⟨h1,h2⟩,h3⟩⟩
theorem Ak.kC {st:St} {a:Act} (h:Ak X π st a w) {f:AC->AC} (hu:f .undef= .undef) {gv:Nat->Prop} (LX: ∀b,gv b->Qj π b) (hb:Gg w.heap.size gv w w')
  (aK: ∀b,b<w.heap.size->Qj π' b->Qj π b)
  (Kz: ∀l r b,π' l=some r->r.Bg b->r.cl b) (Acx: ∀l r b,π' l=some r->r.cl b->(X.w0.heap.size<=b\/X.gv b)/\b<w'.heap.size)
  (Am8: ∀l l' r r' b,π' l=some r->π' l'=some r'->r.cl b->r'.cl b->l=l')
  (Vd: ∀l,Am<=l->Ad H' l≠none->Xc (X.db l) (π' l))
  (hac:(∀fr τ cs x,Cells w (Bj X.w0.heap.size X.Sc π fr) τ cs x->Cells w' (Bj X.w0.heap.size X.Sc π' fr) τ cs x)-> ∀c v,Dv X w π st.heap c v->Dv X w' π' H' (f c) v)
  (XP:Move X w w' π π' st.heap H' f-> ∀l b,Ad H' l=some b->Av X w' π' H' (π' l) b)
  (JT: ∀l,Ad H' l=none->π' l=none):
  Ak X π' {tmps:=st.tmps.map (·.map f),heap:=H'} a w':=by
 have hc: ∀fr τ cs x,Cells w (Bj X.w0.heap.size X.Sc π fr) τ cs x->Cells w' (Bj X.w0.heap.size X.Sc π' fr) τ cs x:= λfr τ cs x hh=>
  Cells.Cn hb.size (λk hk hn=>hb.block k hk λhg=>hn (.inl (LX k hg))) (λk Ey hA=>hA.imp (aK k Ey) id) τ cs x hh
 have m:Move X w w' π π' st.heap H' f:=⟨hac hc,hc⟩
 refine ⟨⟨⟨hb.os.trans h.1.below.os,hb.tape.trans h.1.below.tape,hb.output.trans h.1.below.output,Nat.le_trans h.1.below.size hb.size,λk hk hn=>?_⟩,h.1.sc,Kz,Acx,Am8,Vd,λl=>?_⟩,m.GM hu h.2⟩
 ·refine (hb.block k (Nat.lt_of_lt_of_le hk h.1.below.size) λhg=>?_).trans (h.1.below.block k hk hn)
  rcases (h.1.own (LX k hg)).2 with h1|h1
  ·omega
  ·exact hn h1
 ·cases hh:Ad H' l with
  |none=>exact Cx.Ou (JT l hh) hh
  |some b=>exact Cx.Hc (XP m l b hh) hh
def ct:Option Real->Option Real->Prop
 |none,none=>True
 |some r,some r'=>r.g=r'.g/\r.o=r'.o/\r.cap=r'.cap
 |_,_=>False
theorem ct.rfl' (r:Option Real):ct r r:=by cases r<;>simp [ct]
theorem ct.some {r:Real} {r':Option Real} (h:ct (some r) r'): ∃q,r'=some q/\r.g=q.g/\r.o=q.o/\r.cap=q.cap:=by
 cases r' with
 |none=>exact h.elim
 |some q=>exact ⟨q,rfl,h⟩
theorem ct.own {r r':Option Real} (h:ct r r') {sz off len:Nat} {v:Value} (hv:Ec r sz off len v):Ec r' sz off len v:=by
 cases r<;>cases r'<;>first|exact h.elim|skip
 ·exact hv
 ·obtain ⟨h1,h2,h3⟩:=h
  obtain ⟨ad,g1,g2,g3⟩:=hv
  exact ⟨ad,by rw [<-h3];exact g1,by rw [<-h3];exact g2,by rw [<-h1,<-h2,<-h3];exact g3⟩
structure OB.Ny (b b':OB):Prop where
 row: ∀sz n,b.row=some (sz,n)-> ∃n',b'.row=some (sz,n')/\n<=n'
 cE: ∀p,b.cE=some p->b'.cE=some p
 sq: ∀p,b.sq=some p->b'.sq=some p
 var: ∀tid vs,b= .var tid vs-> ∃Po vs',b'= .var Po vs'
 Qi: ∀v m,b= .Qi v m-> ∃m',b'= .Qi v m'
theorem OB.Ny.map (f:AC->AC) (b:OB):b.Ny (b.map f) where
 row:= λsz n h=>⟨n,by cases b<;>exact h,Nat.le_refl _⟩
 cE:= λp h=>by cases b<;>exact h
 sq:= λp h=>by cases b<;>exact h
 var:= λtid vs h=>by subst h;exact ⟨_,_,rfl⟩
 Qi:= λv m h=>by subst h;exact ⟨_,rfl⟩
theorem OB.Ny.rfl' (b:OB):b.Ny b where
 row:= λ_sz n h=>⟨n,h,Nat.le_refl _⟩
 cE:= λ_p h=>h
 sq:= λ_p h=>h
 var:= λ_tid _vs h=>⟨_,_,h⟩
 Qi:= λ_v _m h=>⟨_,h⟩
theorem OB.Ny.trans {a b c:OB} (h:a.Ny b) (k:b.Ny c):a.Ny c where
 row:= λsz n hr=>by
  obtain ⟨n1,h1,h2⟩:=h.row sz n hr
  obtain ⟨n2,h3,h4⟩:=k.row sz n1 h1
  exact ⟨n2,h3,by omega⟩
 cE:= λp hp=>k.cE p (h.cE p hp)
 sq:= λp hp=>k.sq p (h.sq p hp)
 var:= λtid vs hv=>by obtain ⟨t',v',h1⟩:=h.var tid vs hv;exact k.var t' v' h1
 Qi:= λv m hm=>by obtain ⟨m',h1⟩:=h.Qi v m hm;exact k.Qi v m' h1
theorem kB {f:AC->AC} {D Pt:Nat->Prop} (hf: ∀c,f c= .undef\/(f c=c/\(∀k∈c.refs,¬D k)/\ ∀k i j,c= .sub k i j\/c= .Fu k i j-> ¬Pt k)) (hp: ∀k,¬D k->ct (π k) (π' k))
  (hH: ∀k b,¬D k->Ad H k=some b-> ∃b',Ad H' k=some b'/\b.Ny b')
  (hg: ∀k r b,¬D k-> ¬Pt k->Ad H k=some b->b.cE≠none->π k=some r->w'.heap[r.g]?=w.heap[r.g]?)
  (hc: ∀fr τ cs x,Cells w (Bj X.w0.heap.size X.Sc π fr) τ cs x->Cells w' (Bj X.w0.heap.size X.Sc π' fr) τ cs x): ∀c v,Dv X w π H c v->Dv X w' π' H' (f c) v:=by
 intro c v h
 rcases hf c with e|⟨e,hr,hs⟩
 ·rw [e];trivial
 rw [e]
 cases c with
 |data fr τ x=>obtain ⟨cs,h1,h2⟩:=h;exact ⟨cs,hc _ _ _ _ h1,h2⟩
 |own k off len=>
  obtain ⟨b,sz,n,h1,h0,h2,h3⟩:=h
  have hk:=hr k (by simp [AC.refs])
  obtain ⟨b',g1,g2⟩:=hH k b hk h1
  obtain ⟨n',g3,g4⟩:=g2.row sz n h0
  exact ⟨b',sz,n',g1,g3,by omega,(hp k hk).own h3⟩
 |Dt k i=>
  obtain ⟨r,tid,vs,h1,h2,h3⟩:=h
  have hk:=hr k (by simp [AC.refs])
  obtain ⟨b',g1,g2⟩:=hH k _ hk h1
  obtain ⟨Po,vs',rfl⟩:=g2.var tid vs rfl
  obtain ⟨q,q1,q2,_⟩:=(h2▸hp k hk).some
  exact ⟨q,Po,vs',g1,q1,by rw [<-q2];exact h3⟩
 |Fy k i=>
  obtain ⟨r,b,sz,n,h1,h0,h2,h3,h4⟩:=h
  have hk:=hr k (by simp [AC.refs])
  obtain ⟨b',g1,g2⟩:=hH k b hk h1
  obtain ⟨n',g3,g4⟩:=g2.row sz n h0
  obtain ⟨q,q1,q2,q3,_⟩:=(h3▸hp k hk).some
  exact ⟨q,b',sz,n',g1,g3,by omega,q1,by rw [<-q2,<-q3];exact h4⟩
 |sub k i c=>
  obtain ⟨r,b,sz,n,h1,h0,h2,h3,h4,h5⟩:=h
  have hk:=hr k (by simp [AC.refs])
  obtain ⟨b',g1,g2⟩:=hH k b hk h1
  obtain ⟨q,q1,q2,q3,_⟩:=(h2▸hp k hk).some
  exact ⟨q,b',sz,n,g1,g2.cE _ h0,q1,h3,h4,by rw [<-q2,<-q3,World.cell?_of_block (hg k r b hk (hs k i c (.inl rfl)) h1 (by rw [h0];simp) h2)];exact h5⟩
 |Fu k i c=>
  obtain ⟨r,b,n,sz,g,o,len,cap,h1,h0,h2,h3,h4,h5,h6⟩:=h
  have hk:=hr k (by simp [AC.refs])
  obtain ⟨b',g1,g2⟩:=hH k b hk h1
  obtain ⟨q,q1,q2,q3,_⟩:=(h2▸hp k hk).some
  exact ⟨q,b',n,sz,g,o,len,cap,g1,g2.sq _ h0,q1,h3,h4,by rw [<-q2,<-q3,World.cell?_of_block (hg k r b hk (hs k i c (.inr rfl)) h1 (by cases b<;>first|(cases h0;done)|simp [OB.cE]) h2)];exact h5,h6⟩
 |clo g Ca=>
  obtain ⟨us,h1,h2,h3⟩:=h
  refine ⟨us,h1,h2,λj p hpj=>?_⟩
  obtain ⟨r,tid,vs,h4,h5,h6⟩:=h3 j p hpj
  have hk:=hr p.1 (by simp only [AC.refs,List.mem_map];exact ⟨p,List.mem_of_getElem? hpj,rfl⟩)
  obtain ⟨b',g1,g2⟩:=hH p.1 _ hk h4
  obtain ⟨Po,vs',rfl⟩:=g2.var tid vs rfl
  obtain ⟨q,q1,q2,_⟩:=(h5▸hp p.1 hk).some
  exact ⟨q,Po,vs',g1,q1,by rw [<-q2];exact h6⟩
 |Gd k=>
  obtain ⟨r,vt,m,h1,h2,h3⟩:=h
  have hk:=hr k (by simp [AC.refs])
  obtain ⟨b',g1,g2⟩:=hH k _ hk h1
  obtain ⟨m',rfl⟩:=g2.Qi vt m rfl
  obtain ⟨q,q1,q2,_⟩:=(h2▸hp k hk).some
  exact ⟨q,vt,m',g1,q1,by rw [<-q2];exact h3⟩
 |_=>exact h
theorem Pu (H0:List (Nat×OB)) (ls:List Nat) (n:Nat): ∀(H:List (Nat×OB)) (l:Nat),Ad (a7 H0 ls n H) l=(Ad H l).map λb=>if ls.contains l then b.AW (Xr n (Adj (Ad H0 l))) else b
 | [],_=>rfl
 |(k,b)::r,l=>by
  simp only [a7,Ad]
  split
  ·rename_i e;subst e;rfl
  ·exact Pu H0 ls n r l
theorem OB.xj (b:OB) (kp:Option (Nat×Nat)):b.Ny (b.AW kp):=by
 cases b with
 |Al e te rows out kp0=>exact ⟨λsz n h=>⟨n,h,Nat.le_refl _⟩,λp h=>h,λp h=>h,(λ_ _ h=>by cases h),(λ_ _ h=>by cases h)⟩
 |_=>exact OB.Ny.rfl' _
theorem cd (ls:List Nat): ∀(l m:List AV) (t:Nat),l.length=m.length->(∃k i c,l.getD t .undef= .at (.sub k i c)/\ls.contains k=true/\(He ls l m).getD t .undef= .at (.sub k i c))\/(He ls l m).getD t .undef=m.getD t .undef
 | [],m,t,_=>by cases m<;>exact .inr rfl
 |_::_,[],t,h=>by simp at h
 |a::l,v::m,t,h=>by
  have ih:= λt=>cd ls l m t (by simpa using h)
  have tail: ∀u,He ls (a::l) (v::m)=u::He ls l m->(t=0->(∃k i c,(a::l).getD t .undef= .at (.sub k i c)/\ls.contains k=true/\u= .at (.sub k i c))\/u=v)->
    (∃k i c,(a::l).getD t .undef= .at (.sub k i c)/\ls.contains k=true/\(He ls (a::l) (v::m)).getD t .undef= .at (.sub k i c))\/(He ls (a::l) (v::m)).getD t .undef=(v::m).getD t .undef:=by
   intro u e h0
   rw [e]
   rcases t with _|t
   ·rcases h0 rfl with ⟨k,i,c,h1,h2,h3⟩|h3
    ·exact .inl ⟨k,i,c,h1,h2,by simpa using h3⟩
    ·exact .inr (by simpa using h3)
   ·simpa only [List.getD_cons_succ] using ih t
  cases a with
  | «at»c=>
   cases c with
   |sub k i c=>
    refine tail _ rfl λht=>?_
    subst ht
    by_cases hc:ls.contains k=true
    ·exact .inl ⟨k,i,c,rfl,hc,by rw [if_pos hc]⟩
    ·exact .inr (by rw [if_neg hc])
   |_=>exact tail _ rfl λ_=> .inr rfl
  |_=>exact tail _ rfl λ_=> .inr rfl
theorem rH {H:List (Nat×OB)} {ls:List Nat} {n:Nat} : ∀ {l:List AV} {t k i c:Nat},ak H ls n l=true->l.getD t .undef= .at (.sub k i c)->ls.contains k=true->i<n/\i<oJ H k
 | [],t,k,i,c,_,h,_=>by simp at h
 |a::l,0,k,i,c,ho,h,hc=>by
  simp only [List.getD_cons_zero] at h
  subst h
  simp only [ak,hc,Bool.not_true,Bool.false_or,Bool.and_eq_true,Nat.blt_eq] at ho
  exact ho.1
 |a::l,t+1,k,i,c,ho,h,hc=>by
  refine rH (l:=l) (t:=t) (c:=c) ?_ (by simpa only [List.getD_cons_succ] using h) hc
  cases a with
  | «at»d=>cases d with
   |sub _ _ _=>simp only [ak,Bool.and_eq_true] at ho;exact ho.2
   |_=>exact ho
  |_=>exact ho
theorem EU {Yj st:St} {a:Act} (h0:Ak X π Yj a w) (h:Ak X π' st a w') {ls:List Nat} {n:Nat} (hk: ∀l∈ls,yh w w' (π l) (π' l) n) (pS: ∀l∈ls,kb Yj.heap l=true)
  (dP:ak st.heap ls n Yj.tmps=true):Ak X π' (iS Yj st ls n) a w'/\ ∀c v,Ao X w' π' st.heap c v->Ao X w' π' (iS Yj st ls n).heap c v:=by
 by_cases nf:ls= []
 ·subst nf;exact ⟨h,λ_ _ h=>h⟩
 have Oq:iS Yj st ls n= {tmps:=He ls Yj.tmps st.tmps,heap:=a7 Yj.heap ls n st.heap} :=by
  cases ls with
  |nil=>exact absurd rfl nf
  |cons _ _=>rfl
 rw [Oq]
 have hg0: ∀l∈ls,∃e te rows out kp,Ad Yj.heap l=some (.Al e te rows out kp):= λl hl=>by
  have:=pS l hl
  unfold kb at this
  split at this
  ·exact ⟨_,_,_,_,_,by assumption⟩
  ·cases this
 have srv: ∀k b,Ad st.heap k=some b-> ∃b',Ad (a7 Yj.heap ls n st.heap) k=some b'/\b.Ny b':= λk b hb=>by
  rw [Pu,hb]
  refine ⟨_,rfl,?_⟩
  dsimp only
  split
  ·exact OB.xj b _
  ·exact OB.Ny.rfl' b
 have hac:(∀fr τ cs x,Cells w' (Bj X.w0.heap.size X.Sc π' fr) τ cs x->Cells w' (Bj X.w0.heap.size X.Sc π' fr) τ cs x)-> ∀c v,Dv X w' π' st.heap c v->Dv X w' π' (a7 Yj.heap ls n st.heap) c v:= λhc=>
  kB (f:= λc=>c) (D:= λ_=>False) (Pt:= λ_=>False) (λc=> .inr ⟨rfl,λ_ _ h=>h,λ_ _ _ _ h=>h⟩) (λk _=>ct.rfl' _) (λk b _ hb=>srv k b hb) (λ_ _ _ _ _ _ _ _=>rfl) hc
 have h1:Ak X π' {tmps:=st.tmps.map (·.map λc=>c),heap:=a7 Yj.heap ls n st.heap} a w':=by
  refine h.kC rfl (gv:= λ_=>False) (λ_ hf=>hf.elim) (Gg.refl _ _ _) (λ_ _ ho=>ho) h.1.sub h.1.place h.1.inj (λl hl Ek=>h.1.db l hl λh2=>Ek (by rw [Pu,h2];rfl)) hac (λm l b hb=>?_) (λl hl=>?_)
  ·rw [Pu] at hb
   cases h2:Ad st.heap l with
   |none=>rw [h2] at hb;cases hb
   |some b0=>
    rw [h2] at hb
    simp only [Option.map_some,Option.some.injEq] at hb
    have hbk:=(h.1.heap l).Md h2
    have CP:=hbk.move m (Nat.le_refl _) (λr0 c h0 h1=>h.1.sub _ r0 c h0 h1) λ_ _ _ _ _=>rfl
    rw [show OB.map (λc=>c) b0=b0 from OB.zK b0] at CP
    split at hb
    ·rename_i hc
     have hl:l∈ls:=by simpa using hc
     cases b0 with
     |Al e te rows out kp=>
      simp only [OB.AW] at hb
      subst hb
      refine ⟨CP.1,?_⟩
      obtain ⟨e0,te0,Abb,Anr,kp0,hg⟩:=hg0 l hl
      have we:=((h0.1.heap l).Md hg).2
      rw [hg]
      simp only [Adj]
      have su:=hk l hl
      cases kp0 with
      |none=>trivial
      |some p=>
       obtain ⟨l0,n0⟩:=p
       simp only [KeptAt,Xr] at we⊢
       cases wk:X.db l0 with
       |none=>
        cases hp:π l with
        |none=>
         rw [hp] at su
         cases jX:π' l with
         |none=>trivial
         |some q=>rw [jX] at su;exact su.elim
        |some q=>rw [wk,hp] at we;exact we.elim
       |some r0=>
        cases hp:π l with
        |none=>rw [wk,hp] at we;exact we.elim
        |some q=>
         rw [wk,hp] at we
         rw [hp] at su
         cases jX:π' l with
         |none=>rw [jX] at su;exact su.elim
         |some q'=>
          rw [jX] at su
          obtain ⟨k1,k2,k3,k4⟩:=su
          obtain ⟨g1,g2,g3,g4⟩:=we
          refine ⟨k1.trans g1,k2.trans g2,k3.trans g3,λj hj hc=>?_⟩
          have e1:=g4 j (by omega) hc
          have e2:=k4 j (by omega) (by omega)
          rw [g1,g2] at e2
          rw [<-e1,e2]
     |_=>simp only [OB.AW] at hb;subst hb;exact CP
    ·subst hb;exact CP
  ·rw [Pu] at hl
   cases h2:Ad st.heap l with
   |none=>exact (h.1.heap l).emp h2
   |some b=>rw [h2] at hl;cases hl
 have JN: ∀c v,Ao X w' π' st.heap c v->Ao X w' π' (a7 Yj.heap ls n st.heap) c v:= λc v hv=>by
  have m:Move X w' w' π' π' st.heap (a7 Yj.heap ls n st.heap) (λc=>c):=⟨hac λ_ _ _ _ h=>h,λ_ _ _ _ h=>h⟩
  have:=m.av hv
  rwa [AC.map_id] at this
 refine ⟨⟨h1.1,⟨?_,h.2.defers,λt=>?_⟩⟩,JN⟩
 ·have: ∀(l m:List AV),(He ls l m).length=m.length:=by
   intro l
   induction l with
   |nil=>intro m;cases m<;>rfl
   |cons a l ih=>
    intro m
    cases m with
    |nil=>cases a with
     | «at»c=>cases c<;>rfl
     |_=>rfl
    |cons v m=>cases a with
     | «at»c=>cases c<;>simp only [He,List.length_cons,ih m]
     |_=>simp only [He,List.length_cons,ih m]
  show a.tmps.size=(He ls Yj.tmps st.tmps).length
  rw [this];exact h.2.size
 ·show Ao X w' π' _ ((He ls Yj.tmps st.tmps).getD t .undef) _
  rcases cd ls Yj.tmps st.tmps t (by rw [<-h0.2.size,<-h.2.size]) with ⟨k,i,c,g1,g2,g3⟩|g
  ·rw [g3]
   have Na:k∈ls:=by simpa using g2
   obtain ⟨i1,i2⟩:=rH dP g1 g2
   have hv:=h0.2.tmps t
   rw [show Yj.get t=_ from g1] at hv
   obtain ⟨r,b,sz,n',e1,e2,e3,e4,⟨e5,e6⟩,e7⟩:=hv
   obtain ⟨e0,te0,Abb,Anr,kp0,hg⟩:=hg0 k Na
   rw [hg] at e1;cases e1
   simp only [OB.cE,Option.some.injEq,Prod.mk.injEq] at e2
   obtain ⟨rfl,rfl⟩:=e2
   have su:=hk k Na
   rw [e3] at su
   cases jX:π' k with
   |none=>rw [jX] at su;exact su.elim
   |some q'=>
    rw [jX] at su
    obtain ⟨k1,k2,k3,k4⟩:=su
    have pR:Abb.length<=r.cap:=by
     have:=((h0.1.heap k).Md hg).1
     rw [e3] at this
     obtain ⟨_,_,_,_,_,_,h5,_⟩:=this
     exact h5
    unfold oJ at i2
    split at i2
    ·rename_i e9 te9 Aip Asx kp9 hg9
     refine ⟨q',_,1,Aip.length,by rw [Pu,hg9];rfl,?_,jX,i2,⟨e5,e6⟩,?_⟩
     ·dsimp only
      split<;>rfl
     ·have gI:c=0:=by omega
      subst gI
      rw [k1,k2]
      rw [Nat.mul_one,Nat.add_zero] at e7⊢
      rw [k4 i i1 (by omega)];exact e7
    ·omega
  ·rw [g]
   exact JN _ _ (h.2.tmps t)
theorem mo {ins:List (Bool×CK)} {as:List AC} {pl:List Nat} {st:St} :(o9 ins as pl st).tmps=st.tmps:=by
 unfold o9
 split
 ·rfl
 ·split<;>rfl
theorem GU {ins:List (Bool×CK)} {as:List AC} {pl:List Nat} {st:St} {m:Nat} (hm:m∉pl):Ad (o9 ins as pl st).heap m=Ad st.heap m:=by
 unfold o9
 split
 ·rfl
 ·rename_i l r
  split
  ·exact Bv _ _ _ _ λe=>hm (e▸List.mem_cons_self)
  ·rfl
theorem NY {ins:List (Bool×CK)} {as:List AC} {l:Nat} {st:St} {tid:TypeId} {vs:List AC} (hl:Ad st.heap l=some (.var tid vs)):Ad (o9 ins as [l] st).heap l=some (.var tid (cM ins vs as)):=by
 simp only [o9,St.at,hl]
 exact Cf _ _ _ _ hl
theorem uS {α:Type} (ins:List (Bool×CK)) (as:List α):cM ins [] as= []:=by
 rcases ins with _|⟨⟨_|_,c⟩,r⟩<;>rfl
theorem ma {α:Type} : ∀(ins:List (Bool×CK)) (vs as:List α),(cM ins vs as).length=vs.length
 | [],vs,as=>by rw [cM];all_goals simp
 |p::r,[],as=>by rw [uS]
 |(true,c)::r,v::vs,as=>by simp only [cM,List.length_cons,ma r vs as]
 |(false,c)::r,v::vs,[]=>by rw [cM];all_goals simp
 |(false,c)::r,v::vs,a::as=>by simp only [cM,List.length_cons,ma r vs as]
theorem NP {st:St} {a:Act} (h:Ak X π st a w) {s:MSpec} {jv:List AV} {vs:List Value} (hlen:jv.length=vs.length) (JN: ∀(i:Nat) c v,jv[i]?=some c->vs[i]?=some v->Ao X w π st.heap c v)
  {pl:List Nat} {cells:List AC} {rest:List AV} (he:KL st s jv=some (pl,cells,rest)):
  ∃(g:Nat) (ZW vz:List Value),rest.length=vz.length/\(∀(i:Nat) c v,rest[i]?=some c->vz[i]?=some v->Ao X w π st.heap c v)/\Io X w π st.heap cells ZW/\
   ((s.ptr=none/\pl= []/\cells= []/\ZW= []/\vs=vz)\/
    ∃p l q,s.ptr=some p/\pl= [l]/\π l=some q/\q.Bg q.g/\g=q.g/\Ad st.heap l=some (.var p.1 cells)/\cells.length=p.2/\vs= .pointer (some ⟨g,0,none⟩)::vz/\w.heap[g]?=some (.cells ZW.toArray p.1 (0,0))/\Da X w π st.heap cells ZW):=by
 unfold KL at he
 split at he
 ·rename_i hp
  simp only [Option.some.injEq,Prod.mk.injEq] at he
  obtain ⟨rfl,rfl,rfl⟩:=he
  exact ⟨0,[],vs,hlen,JN,trivial, .inl ⟨hp,rfl,rfl,rfl,rfl⟩⟩
 ·rename_i p hp
  split at he
  ·rename_i l i Apr
   split at he
   ·rename_i tid cs hl
    split at he
    ·rename_i hc
     obtain ⟨rfl,hc,rfl⟩:=hc
     simp only [Option.some.injEq,Prod.mk.injEq] at he
     obtain ⟨rfl,rfl,rfl⟩:=he
     unfold St.at at hl
     cases vs with
     |nil=>simp at hlen
     |cons v vs=>
      obtain ⟨r,Po,vs',h1,h2,rfl⟩:=JN 0 _ v rfl rfl
      rw [hl] at h1;cases h1
      obtain ⟨r',h3,h4,cur,h5,h6⟩:=(h.1.heap l).Md hl
      rw [h2] at h3;cases h3
      exact ⟨r.g,cur.toList,vs,by simpa using hlen,λi c v h7 h8=>JN (i+1) c v (by simpa using h7) (by simpa using h8),Io.of h6, .inr ⟨p,l,r,hp,rfl,h2,h4,rfl,hl,hc,rfl,by simpa using h5,h6⟩⟩
    ·cases he
   ·cases he
  ·cases he
theorem fK {V:List Nat} {πc:Pi} {dead part:List Nat} (hπ: ∀l,l∉dead->π' l=π l) (Gj: ∀l b sz n,l∉dead->Ad H l=some b->b.row=some (sz,n)-> ∃b',Ad H' l=some b'/\b'.row=some (sz,n)):
  ∀(ins:List (Bool×CK)) (k:Nat) (cells ld:List AC) (x:Ins.den ins) (us:List Value) (o:IOs.den ins) (cur st1:St) (news:List AC) (Rn cs:List Value),nU X w π V H πc k ins x (cells++ld) us->Qw ins cells=true->
   Ef ins o (cells++ld) cur=some st1->Ce πc k ins o cells.length cs Rn->Io X w' π' H' news Rn->Io X w' π' H' (cM ins (cells.map (Ba dead part)) news) cs
 |ins,k,[],ld,x,us,o,cur,st1,news,Rn,cs,_,_,_,hb,_=>by
  have hb:cs= []:=by rcases ins with _|⟨⟨_|_,c⟩,r⟩<;>(try cases c)<;>simpa [Ce] using hb
  rw [hb,List.map_nil,uS]
  trivial
 | [],k,a::cells,ld,x,us,o,cur,st1,news,Rn,cs,_,hk,_,_,_=>by simp [Qw] at hk
 |(true, .Dm τ)::r,k,a::cells,ld,x,us,o,cur,st1,news,Rn,cs,_,hk,_,_,_=>by simp [Qw] at hk
 |(true, .part e te)::r,k,a::cells,ld,x,us,o,cur,st1,news,Rn,cs,_,hk,_,_,_=>by simp [Qw] at hk
 |(true, .Al e te _)::r,k,a::cells,ld,x,us,o,cur,st1,news,Rn,cs,_,hk,_,_,_=>by simp [Qw] at hk
 |(true, .row e te)::r,k,a::cells,ld,x,us,o,cur,st1,news,Rn,cs,ht,hk,hp,hb,hn=>by
  cases a<;>simp only [Qw,Bool.false_eq_true] at hk
  rename_i l off len
  cases us with
  |nil=>exact ht.elim
  |cons u0 us=>
  cases cs with
  |nil=>exact hb.elim
  |cons u cs=>
  obtain ⟨⟨_,h1⟩,h2⟩:=ht
  simp only [Of] at h1
  obtain ⟨h3,rfl,rfl,fr,tr,h4⟩:=h1
  obtain ⟨h5,h6⟩:=hb
  simp only [List.cons_append,Ef] at hp
  split at hp
  rotate_left
  ·cases hp
  rename_i Vc hpc
  have LY:List.length o.1=List.length x.1:=by
   simp only [Ym] at hpc
   repeat' split at hpc
   all_goals first|(cases hpc;done)|(rename_i hc;exact hc.2.1)
  refine ⟨?_,fK hπ Gj r (k+1) cells ld x.2 us o.2 Vc st1 news Rn cs h2 hk hp h6 hn⟩
  by_cases hd:l∈dead
  ·have:Ba dead part (.own l 0 (List.length x.1))= .undef:=by
    unfold Ba
    rw [if_pos (by simp [AC.refs,hd])]
   rw [this];trivial
  ·rw [Yy (by simpa [AC.refs] using hd) (by intro l i j e;rcases e with e|e<;>cases e)]
   obtain ⟨b',g1,g2⟩:=Gj l _ e.size (List.length x.1) hd h4 rfl
   refine ⟨b',e.size,List.length x.1,g1,g2,by omega,?_⟩
   rw [hπ l hd]
   rw [h3,LY] at h5
   cases hp:π l<;>(rw [hp] at h5;exact h5)
 |(true, .Du e te)::r,k,a::cells,ld,x,us,o,cur,st1,news,Rn,cs,ht,hk,hp,hb,hn=>by
  cases a<;>simp only [Qw,Bool.false_eq_true] at hk
  rename_i l off len
  cases us with
  |nil=>exact ht.elim
  |cons u0 us=>
  cases cs with
  |nil=>exact hb.elim
  |cons u cs=>
  obtain ⟨⟨_,h1⟩,h2⟩:=ht
  simp only [Of] at h1
  obtain ⟨h3,rfl,rfl,h4⟩:=h1
  obtain ⟨h5,h6⟩:=hb
  simp only [List.cons_append,Ef] at hp
  split at hp
  rotate_left
  ·cases hp
  rename_i Vc hpc
  have LY:List.length o.1=List.length x.1:=by
   simp only [Ym] at hpc
   repeat' split at hpc
   all_goals first|(cases hpc;done)|(rename_i hc;exact hc.2.1)
  refine ⟨?_,fK hπ Gj r (k+1) cells ld x.2 us o.2 Vc st1 news Rn cs h2 hk hp h6 hn⟩
  by_cases hd:l∈dead
  ·have:Ba dead part (.own l 0 (List.length x.1))= .undef:=by
    unfold Ba
    rw [if_pos (by simp [AC.refs,hd])]
   rw [this];trivial
  ·rw [Yy (by simpa [AC.refs] using hd) (by intro l i j e;rcases e with e|e<;>cases e)]
   obtain ⟨b',g1,g2⟩:=Gj l _ e.size (List.length x.1) hd h4 rfl
   refine ⟨b',e.size,List.length x.1,g1,g2,by omega,?_⟩
   rw [hπ l hd]
   rw [h3,LY] at h5
   cases hp:π l<;>(rw [hp] at h5;exact h5)
 |(false,c)::r,k,a::cells,ld,x,[],o,cur,st1,news,Rn,cs,ht,hk,hp,hb,hn=>ht.elim
 |(false,c)::r,k,a::cells,ld,x,u0::us,o,cur,st1,news,Rn,[],ht,hk,hp,hb,hn=>by cases c<;>exact hb.elim
 |(false,c)::r,k,a::cells,ld,x,u0::us,o,cur,st1,news,[],u::cs,ht,hk,hp,hb,hn=>by cases c<;>exact hb.elim
 |(false,c)::r,k,a::cells,ld,x,u0::us,o,cur,st1,[],u'::Rn,u::cs,ht,hk,hp,hb,hn=>hn.elim
 |(false,c)::r,k,a::cells,ld,x,u0::us,o,cur,st1,na::news,u'::Rn,u::cs,ht,hk,hp,hb,hn=>by
  have hb2:u=u'/\Ce πc (k+1) r o cells.length cs Rn:=by cases c<;>exact hb
  obtain ⟨rfl,hb3⟩:=hb2
  have hp:Ef r o (cells++ld) cur=some st1:=by cases c<;>simpa only [List.cons_append,Ef] using hp
  have hk:Qw r cells=true:=by cases c<;>simpa only [Qw] using hk
  exact ⟨hn.1,fK hπ Gj r (k+1) cells ld x.2 us o cur st1 news Rn cs ht.2 hk hp hb3 hn.2⟩
theorem BP {V:List Nat} {πc:Pi} : ∀(cs:List (Bool×CK)) (k0:Nat) (x:Ins.den cs) (as:List AC) (us:List Value),k0+cs.length<100000->nU X w π V H πc k0 cs x as us-> ∀k l,(Bu false k,Loc.row l)∈Hf k0 cs as->πc (Bu false k)=(π l).map full
 | [],_,_,[],_,_,_,_,_,h=>by cases h
 | [],_,_,_::_,_,_,_,_,_,h=>by cases h
 |_::_,_,_,[],_,_,_,_,_,h=>by cases h
 |_::_,_,_,_::_,[],_,h,_,_,_=>h.elim
 |(io,c)::r,k0,x,a::as,u::us,hk,h,k,l,ht=>by
  simp only [List.length_cons] at hk
  simp only [Hf] at ht
  rcases List.mem_append.1 ht with ht|ht
  ·obtain ⟨⟨_,h1⟩,_⟩:=h
   cases c with
   |Dm τ=>cases a<;>simp [Lk,views] at ht
   |row e te=>
    cases a<;>simp [Lk] at ht
    obtain ⟨e1,rfl⟩:=ht
    simp only [Of] at h1
    rw [e1];exact h1.1
   |Du e te=>
    cases a<;>simp [Lk] at ht
    obtain ⟨e1,rfl⟩:=ht
    simp only [Of] at h1
    rw [e1];exact h1.1
   |part e te=>
    cases a<;>simp [Lk] at ht
    obtain ⟨e1,rfl⟩:=ht
    simp only [Of] at h1
    rw [e1];exact h1.2.1
   |Al e te kp=>
    cases a<;>simp [Lk] at ht
    obtain ⟨e1,rfl⟩:=ht
    simp only [Of] at h1
    rw [e1];exact h1.2.1
  ·exact BP r (k0+1) x.2 as us (by omega) h.2 k l ht
theorem nV {st:St} {a:Act} (h:Ak X π st a w) {f:FuncId} {s:MSpec} (hs:Ay P f s) (dst:Option Nat) (jv:List AV) (vs:List Value) (hlen:jv.length=vs.length)
  (JN: ∀(i:Nat) c v,jv[i]?=some c->vs[i]?=some v->Ao X w π st.heap c v) (av:AV) (st':St) (he:Sl st dst s jv=some (av,st')):
  Calls P f vs.toArray w λe w'=> ∃v,e= .returned v/\ ∃π',Ak X π' st' a w'/\Ao X w' π' st'.heap av v:=by
 unfold Sl at he
 split at he
 ·cases he
 rename_i pl cells rest Ams
 split at he
 ·cases he
 rename_i ld lj
 split at he
 ·cases he
 rename_i x tks htk
 split at he
 rotate_left
 ·cases he
 rename_i Fk
 simp only [Bool.and_eq_true,Nat.blt_eq] at Fk
 obtain ⟨⟨⟨⟨JS,pX⟩,hon⟩,dO⟩,Ags,MB⟩:=Fk
 have MB: ∀l∈pl,l∉(tks.map λt=>t.2.Ro)/\l∉Nd s tks (dst.getD 0):= λl hl=>by
  have:=List.all_eq_true.1 MB l hl
  simp only [Bool.not_eq_true',<-Bool.not_eq_true,List.contains_iff_mem] at this
  exact ⟨λhm=>this (List.mem_append_left _ hm),λhm=>this (List.mem_append_right _ hm)⟩
 split at he
 ·cases he
 rename_i r o hfn
 split at he
 ·cases he
 rename_i st1 RZ
 obtain ⟨g,ZW,vz,RU,Aln,Amv,Yl⟩:=NP h hlen JN Ams
 obtain ⟨tA,rfl,CT,Amu⟩:=Uw s.Eh rest vz ld RU Aln lj
 have hrc:=Amv.append Amu
 have Ma:lk s w g (ZW++tA) vs:=by
  unfold lk
  rcases Yl with ⟨h1,_,_,h2,h3⟩|⟨p,l,q,h1,_,_,_,_,_,h2,h3,h4,h5⟩
  ·rw [h1];subst h2;exact ⟨h3,CT⟩
  ·rw [h1]
   have hl:ZW.length=p.2:=h5.1.trans h2
   simp only
   rw [List.drop_append_of_le_length (by omega),List.take_append_of_le_length (by omega),List.take_of_length_le (by omega),List.drop_of_length_le (by omega)]
   refine ⟨h3,CT,by simp;omega,h4,λu hu=>?_⟩
   obtain ⟨i,hi,rfl⟩:=List.mem_iff_getElem.1 hu
   obtain ⟨u',h6,h7,_⟩:=h5.2 i (cells[i]'(by have:=h5.1;omega)) (List.getElem?_eq_getElem _)
   rw [List.getElem?_eq_getElem hi] at h6
   rw [Option.some.inj h6];exact h7
 have MC: ∀l∈pl,∃p q,s.ptr=some p/\pl= [l]/\π l=some q/\q.Bg q.g/\g=q.g/\Ad st.heap l=some (.var p.1 cells)/\cells.length=p.2:= λl hl=>by
  rcases Yl with ⟨_,h1,_⟩|⟨p,l',q,h1,h2,h3,h4,h5,h6,h7,_⟩
  ·rw [h1] at hl;cases hl
  ·rw [h2] at hl
   have:=List.mem_singleton.1 hl
   subst this
   exact ⟨p,q,h1,h2,h3,h4,h5,h6,h7⟩
 have LX: ∀b,s.gv g b-> ∃l∈pl,∃q,π l=some q/\q.Bg b/\b=q.g:= λb ⟨h1,h2⟩=>by
  rcases Yl with ⟨h3,_⟩|⟨p,l',q,_,h4,h5,h6,h7,_⟩
  ·rw [h3] at h1;cases h1
  ·exact ⟨l',by rw [h4];exact List.mem_singleton.2 rfl,q,h5,by rw [h2,h7];exact h6,h2.trans h7⟩
 obtain ⟨as,has⟩: ∃as,as=cells++ld:=⟨_,rfl⟩
 obtain ⟨us,SG⟩: ∃us,us=ZW++tA:=⟨_,rfl⟩
 rw [<-has] at hrc htk RZ
 rw [<-SG] at hrc Ma
 let V:=(tks.filter λt=>t.2.reads).map λt=>t.2.Ro
 have hV: ∀t∈tks,t.2.reads=true->t.2.Ro∈V:= λt ht hr=>List.mem_map.2 ⟨t,List.mem_filter.2 ⟨ht,hr⟩,rfl⟩
 have hV': ∀l∈V,∃t∈tks,t.2.reads=true/\t.2.Ro=l:= λl hl=>by
  obtain ⟨t,h1,h2⟩:=List.mem_map.1 hl
  exact ⟨t,(List.mem_filter.1 h1).1,(List.mem_filter.1 h1).2,h2⟩
 clear_value V
 obtain ⟨WI,πc,hT,RK,Am6,Qv⟩:=rO h.1 (V:=V) s.ins 0 as us x tks (by omega) hrc htk hV
 have EE:=Sw JS
 rw [WI] at EE
 have aK: ∀b,Qj πc b-> ∃t∈Hf 0 s.ins as,t.2.reads=false/\ ∃q,π t.2.Ro=some q/\q.Bg b/\ ∀l i j,t.2= .sub l i j->b≠q.g:= λb ⟨c,q,h1,h2⟩=>by
  obtain ⟨t,t1,_,t3⟩:=Qv c q b h1 h2
  exact ⟨t,t1,t3⟩
 have EH: ∀b,Qj πc b->Qj π b:= λb hb=>let ⟨t,_,_,q,h1,h2,_⟩:=aK b hb;⟨_,q,h1,h2⟩
 have fu:df πc (λb=>b<w.heap.size):=⟨λl q b h1 h2=>(h.1.own (EH b ⟨l,q,h1,h2⟩)).1,λl l' q q' b h1 h2 h3 h4=>by
  obtain ⟨t,t1,t2,_,p,t3,t4,_⟩:=Qv l q b h1 h3
  obtain ⟨t',t1',t2',_,p',t3',t4',_⟩:=Qv l' q' b h2 h4
  have:=wE EE t1 t1' (h.1.apart t3 t3' t4 t4')
  rw [<-t2,<-t2',this]⟩
 have Ag6: ∀k l,(Bu false k,Loc.row l)∈Hf 0 s.ins as->πc (Bu false k)=(π l).map full:= λk l ht=>
  BP s.ins 0 x as us (by omega) hT k l ht
 have Ahs: ∀b,Qj πc b->Jy X π V b:= λb hb=> .inl ⟨EH b hb,λl hl r' hr hf=>by
  obtain ⟨t,t1,t0,q,t3,t4,_⟩:=aK b hb
  obtain ⟨t',t1',t2',rfl⟩:=hV' l hl
  rw [WI] at t1'
  have:=wE EE t1 t1' (h.1.apart t3 hr t4 hf)
  subst this
  rw [t0] at t2';cases t2'⟩
 let S:Nat->Prop:= λb=> ¬Qj πc b/\Jy X π V b
 have hS: ∀b,S b->b<w.heap.size/\ ¬Qj πc b:= λb hb=>⟨by
  rcases hb.2 with h1|h1
  ·exact (h.1.own h1.1).1
  ·exact Nat.lt_of_lt_of_le (h.1.sc b h1).1 h.1.below.size,hb.1⟩
 have YA: ∀l∈pl,∀t∈Hf 0 s.ins as,t.2.Ro≠l:= λl hl t ht e=>(MB l hl).1 (List.mem_map.2 ⟨t,WI▸ht,e⟩)
 have hSg:s.ptr.isSome=true->S g:= λhps=>by
  obtain ⟨l,hl,q,h1,h2,h3⟩:=LX g ⟨hps,rfl⟩
  have hno: ¬Qj πc g:= λhb=>by
   obtain ⟨t,t1,_,q',t3,t4,_⟩:=aK g hb
   exact YA l hl t t1 (h.1.apart t3 h1 t4 h2)
  refine ⟨hno, .inl ⟨⟨l,q,h1,h2⟩,λl' Gt r' bk hf=>?_⟩⟩
  obtain ⟨t',t1',_,rfl⟩:=hV' l' Gt
  rw [WI] at t1'
  exact YA l hl t' t1' (h.1.apart bk h1 hf h2)
 refine (hs.calls w S πc us x r o g vs Ma hSg (bm.En (λb hb=>hb.elim (Ahs b) λh=>h.2) s.ins 0 x us (hT.Ai0 s.ins 0 x as us)) fu hS Am6 hfn).mono ?_
 rintro e w' ⟨v,Rn,yf,rfl,bC,mZ,XO,wb,Ah2,RX,Ade,uj⟩
 obtain ⟨ρ,YF,EG,RW,Aac⟩: ∃ρ:Pi,(∀l,ρ l=(yf l).map full)/\Ez w' (fY S πc yf) ρ 0 s.outs r Rn/\df ρ (λb=>b<w'.heap.size/\(w.heap.size<=b\/ ∃l q,l<Am/\πc l=some q/\q.Bg b))/\ ∀l q,ρ l=some q->q.cl=q.Bg:=by
  have un: ∀l q,(yf l).map full=some q-> ∃q0,yf l=some q0/\q=full q0:= λl q hq=>by
   cases hp:yf l with
   |none=>rw [hp] at hq;cases hq
   |some q0=>rw [hp] at hq;exact ⟨q0,rfl,(Option.some.inj hq).symm⟩
  refine ⟨λl=>(yf l).map full,λ_=>rfl,Ez.full s.outs 0 r Rn Ah2,⟨λl q b h1 h2=>?_,λl l' q q' b h1 h2 h3 h4=>?_⟩,λl q h1=>?_⟩
  ·obtain ⟨q0,h5,rfl⟩:=un l q h1
   exact RX.Vu l q0 b h5 h2
  ·obtain ⟨q0,h5,rfl⟩:=un l q h1
   obtain ⟨q0',h6,rfl⟩:=un l' q' h2
   exact RX.inj l l' q0 q0' b h5 h6 h3 h4
  ·obtain ⟨q0,_,rfl⟩:=un l q h1
   rfl
 refine ⟨v,rfl,?_⟩
 split at he
 ·cases he
 rename_i av0 cX
 split at he
 rotate_left
 ·cases he
 rename_i Kz
 simp only [Option.some.injEq,Prod.mk.injEq] at he
 obtain ⟨rfl,rfl⟩:=he
 let D1:Nat->Prop:=if s.flat then λ_=>True else fY S πc yf
 have Am9:Hm w' D1 πc 0 s.ins o:=by
  show Hm w' (if s.flat then λ_=>True else fY S πc yf) πc 0 s.ins o
  split
  ·rename_i hf
   unfold MSpec.flat at hf
   simp only [Bool.and_eq_true] at hf
   exact Hm.any s.ins 0 o hf.2 wb
  ·exact wb
 have Ah3:Ez w' D1 ρ 0 s.outs r Rn:=by
  show Ez w' (if s.flat then λ_=>True else fY S πc yf) ρ 0 s.outs r Rn
  split
  ·rename_i hf
   unfold MSpec.flat at hf
   simp only [Bool.and_eq_true] at hf
   exact Ez.any s.outs 0 r Rn hf.1 EG
  ·exact EG
 obtain ⟨q1,q2,q3,q4⟩:=qK (D:=D1) (X:=X) (π:=π) (H:=st.heap) h.1 XO.size (tks:=Hf 0 s.ins as) (πc:=πc) (λt ht q b hq hb Ey hn=>XO.block b Ey λEF=>by
   rcases EF with ⟨c,r',h1,h2⟩|hg
   rotate_left
   ·obtain ⟨l,hl,q',h1,h2,_⟩:=LX b hg
    exact YA l hl t ht (h.1.apart hq h1 hb h2)
   obtain ⟨t',t1,t2,_,p,t3,t4,_⟩:=Qv c r' b h1 h2
   have:=wE EE ht t1 (h.1.apart hq t3 hb t4)
   subst this
   exact hn r' (t2▸h1) h2) s.ins 0 x as us o st st1 (by omega) (λ_ h=>h) EE hT Am9 RZ (λ_ _=>rfl)
 have Ad2: ∀t∈Hf 0 s.ins as,t.2.reads=true->t.1<Am:=by
  have: ∀(cs:List (Bool×CK)) (k:Nat) (as:List AC),k+cs.length<100000-> ∀t∈Hf k cs as,t.2.reads=true->t.1<Am:=by
   intro cs
   induction cs with
   |nil=>intro k as _ t ht;cases as<;>cases ht
   |cons p r ih=>
    intro k as hk t ht hr
    simp only [List.length_cons] at hk
    cases as with
    |nil=>cases ht
    |cons a as=>
     simp only [Hf] at ht
     rcases List.mem_append.1 ht with ht|ht
     ·rcases BN ht with ⟨_,h1⟩|⟨h1,_⟩
      ·rw [hr] at h1;cases h1
      ·rw [h1];exact bY (by omega)
     ·exact ih (k+1) as (by omega) t ht hr
  exact this s.ins 0 as (by omega)
 let d:=dst.getD 0
 let ks:=Nd s tks d
 let dead:=jD tks++ks++(if s.flat then [] else xP tks)
 let part:=whole tks
 have Amx:s.outs.length+(j7 s d).length=s.Ph:=by unfold MSpec.Ph j7;cases s.rp<;>rfl
 obtain ⟨Acn,Ame,Aam⟩:ks.length=s.Ph/\ks.Nodup/\ ∀l∈ks,l<Am:=by
  have:=EX pX
  rw [Amx] at this
  exact this
 have hno:s.outs.length<=s.Ph:=by unfold MSpec.Ph;omega
 have YD: ∀tid,s.rp=some tid->Bz ks s.outs.length=Od d/\s.Ph=s.outs.length+1:= λtid Sr=>by
  have h1:s.Ph=s.outs.length+1:=by unfold MSpec.Ph;rw [Sr]
  refine ⟨?_,h1⟩
  have h2:ks=jy s tks d++ [Od d]:=by show jy s tks d++j7 s d=_;unfold j7;rw [Sr]
  have h3:(jy s tks d).length=s.outs.length:=by rw [h2] at Acn;simp at Acn;omega
  rw [Mi (by rw [Acn];omega)]
  simp only [h2]
  rw [List.getElem_append_right (by omega)]
  simp [h3]
 have RS:=yG Ame Aam
 have Amc: ∀j,j<s.Ph->Bz ks j<Am:= λj hj=>Aam _ (mem_keys.2 ⟨j,by omega,rfl⟩)
 let π':Pi:= λl=>match (List.range s.Ph).find? λj=>decide (Bz ks j=l) with
  |some j=>ρ (Fz j)
  |none=>if l∈dead then none else π l
 have ss: ∀j,j<s.Ph->π' (Bz ks j)=ρ (Fz j):= λj hj=>by
  show (match (List.range s.Ph).find? λi=>decide (Bz ks i=Bz ks j) with|some i=>ρ (Fz i)|none=>_)=_
  cases hf:(List.range s.Ph).find? λi=>decide (Bz ks i=Bz ks j) with
  |none=>
   have:=List.find?_eq_none.1 hf j (List.mem_range.2 hj)
   simp at this
  |some i=>
   have:=List.find?_some hf
   rw [RS i j (of_decide_eq_true this)]
 have pW: ∀j,j<s.Ph->Bz ks j∈dead:= λj hj=>List.mem_append_left _ (List.mem_append_right _ (mem_keys.2 ⟨j,by omega,rfl⟩))
 have wg: ∀l,(¬ ∃j,j<s.Ph/\l=Bz ks j)->π' l=if l∈dead then none else π l:= λl hl=>by
  show (match (List.range s.Ph).find? λi=>decide (Bz ks i=l) with|some i=>ρ (Fz i)|none=>_)=_
  cases hf:(List.range s.Ph).find? λi=>decide (Bz ks i=l) with
  |none=>rfl
  |some i=>
   have h1:=List.find?_some hf
   exact absurd ⟨i,List.mem_range.1 (List.mem_of_find?_eq_some hf),(of_decide_eq_true h1).symm⟩ hl
 have SM: ∀l,l∉dead->π' l=π l:= λl hl=>by
  rw [wg l (λ⟨j,h1,h2⟩=>hl (h2▸pW j h1)),if_neg hl]
 have hD1: ∀b,Qj π' b\/X.Sc b->D1 b:=by
  intro b hb
  show (if s.flat then λ_=>True else fY S πc yf) b
  split
  ·trivial
  rename_i hnf
  rcases hb with ⟨l,q,hl,hf⟩|hb
  ·by_cases hk: ∃j,j<s.Ph/\l=Bz ks j
   ·obtain ⟨j,hj,rfl⟩:=hk
    rw [ss j hj,YF] at hl
    cases hp:yf (Fz j) with
    |none=>rw [hp] at hl;cases hl
    |some q0=>rw [hp] at hl;simp only [Option.map_some,Option.some.injEq] at hl;subst hl;exact .inr (.inr ⟨Fz j,q0,hp,hf⟩)
   ·have e0:π' l=if l∈dead then none else π l:=wg l hk
    rw [e0] at hl
    split at hl
    ·cases hl
    ·rename_i XX
     by_cases ho:Qj πc b
     ·obtain ⟨c,q',hc,hcb⟩:=ho
      obtain ⟨t,t1,t2,t0,p,t3,t4,_⟩:=Qv c q' b hc hcb
      have wi:=h.1.apart hl t3 hf t4
      refine .inr (.inl ⟨c,q',Classical.byContradiction λhn=>?_,hc,hcb⟩)
      exact XX (List.mem_append_left _ (List.mem_append_left _ (aQ.2 ⟨t,WI▸t1,⟨by rw [t2];omega,t0⟩,wi.symm⟩)))
     ·refine .inl ⟨ho, .inl ⟨⟨l,q,hl,hf⟩,λl0 hl0 r0 hr0 hf0=>?_⟩⟩
      have:=h.1.apart hl hr0 hf hf0
      subst this
      exact XX (List.mem_append_right _ (by rw [if_neg hnf];exact qp.2 (hV' l hl0)))
  ·refine .inl ⟨λho=>?_, .inr hb⟩
   have h1:=h.1.sc b hb
   rcases (h.1.own (EH b ho)).2 with h2|h2
   ·omega
   ·exact h1.2 h2
 have hpd: ∀l∈pl,l∉dead:= λl hl hd=>by
  rcases List.mem_append.1 hd with hd|hd
  ·rcases List.mem_append.1 hd with hd|hd
   ·obtain ⟨t,ht,_,e⟩:=aQ.1 hd
    exact (MB l hl).1 (List.mem_map.2 ⟨t,ht,e⟩)
   ·exact (MB l hl).2 hd
  ·split at hd
   ·cases hd
   ·obtain ⟨t,ht,_,e⟩:=qp.1 hd
    exact (MB l hl).1 (List.mem_map.2 ⟨t,ht,e⟩)
 have Acm: ∀j,j<s.Ph->Bz ks j∉pl:= λj hj hp=>hpd _ hp (pW j hj)
 let bv:Option OB:=s.rp.map λtid=> .var tid ((Xv (Bz ks) 0 s.outs r).drop s.Vr)
 let H1:=(o9 s.ins (Xv (Bz ks) 0 s.outs r) pl (st1.Yx dead part)).heap
 have hH1: ∀l,l∉pl->Ad H1 l=if l∈dead then none else (Ad st1.heap l).map (OB.map (Ba dead part)):= λl hl=>by
  show Ad (o9 _ _ _ _).heap l=_
  rw [GU hl]
  show Ad (Si (st1.heap.map λp=>(p.1,p.2.map (Ba dead part))) dead) l=_
  rw [Jc,Kd]
 let H2:=zp H1 (Od d) bv
 have hvd: ∀tid,s.rp=some tid->Od d∈dead/\Od d∉pl:= λtid Sr=>by
  obtain ⟨e1,e2⟩:=YD tid Sr
  rw [<-e1]
  exact ⟨pW _ (by omega),Acm _ (by omega)⟩
 have Ag4: ∀l,(∀tid,s.rp=some tid->l≠Od d)->Ad H2 l=Ad H1 l:= λl hl=>by
  show Ad (zp H1 (Od d) (s.rp.map _)) l=_
  cases CS:s.rp with
  |none=>rfl
  |some tid=>exact Km _ _ _ _ (hl tid CS)
 have Al8: ∀tid,s.rp=some tid->Ad H2 (Od d)=some (.var tid ((Xv (Bz ks) 0 s.outs r).drop s.Vr)):= λtid Sr=>by
  show Ad (zp H1 (Od d) (s.rp.map _)) (Od d)=_
  rw [Sr]
  exact Lm _ _ _ (by rw [hH1 _ (hvd tid Sr).2,if_pos (hvd tid Sr).1])
 have hkv: ∀j,j<s.outs.length-> ∀tid,s.rp=some tid->Bz ks j≠Od d:= λj hj tid Sr e=>by
  have:=RS j s.outs.length (e.trans (YD tid Sr).1.symm)
  omega
 have hH2: ∀l,l∉pl->(∀tid,s.rp=some tid->l≠Od d)->Ad H2 l=if l∈dead then none else (Ad st1.heap l).map (OB.map (Ba dead part)):= λl hl hv=>by
  rw [Ag4 l hv,hH1 l hl]
 let H':=Sx (JG st (jD tks)) (Bz ks) 0 s.outs r H2
 obtain ⟨n1,n2,n3⟩:=nC (D:=D1) (X:=X) (key:=Bz ks) RS (fr:=JG st (jD tks)) (ρ:=ρ) s.outs 0 r Rn H2 Ah3 (λj _ hj=>by
  rw [hH2 _ (Acm j (by omega)) (hkv j (by omega)),if_pos (pW j (by omega))])
 have lK: ∀l,l∉dead->l∉pl->Ad H' l=(Ad st1.heap l).map (OB.map (Ba dead part)):= λl hl pY=>by
  show Ad (Sx _ _ _ _ _ _) l=_
  rw [n1 l λj _ hj e=>hl (e▸pW j (by omega)),hH2 l pY (λtid Sr e=>hl (e▸(hvd tid Sr).1)),if_neg hl]
 have XK: ∀l,l∈dead->(∀j,j<s.Ph->l≠Bz ks j)->Ad H' l=none:= λl hl hj=>by
  show Ad (Sx _ _ _ _ _ _) l=_
  rw [n1 l λj _ h2=>hj j (by omega),hH2 l (λhp=>hpd l hp hl) (λtid Sr e=>hj s.outs.length (by have:=(YD tid Sr).2;omega) (e.trans (YD tid Sr).1.symm)),if_pos hl]
 have newAt: ∀l b',Ad H' l=some b'->(l∈dead\/Ad st.heap l=none)-> ∃j,j<s.Ph/\l=Bz ks j:=by
  intro l b' hb hd
  refine Classical.byContradiction λhn=>?_
  have oL: ∀j,j<s.Ph->l≠Bz ks j:= λj hj e=>hn ⟨j,hj,e⟩
  rcases Classical.em (l∈dead) with RJ|RJ
  ·rw [XK l RJ oL] at hb;cases hb
  ·rcases hd with hd|hd
   ·exact RJ hd
   ·rw [lK l RJ (λhp=>by obtain ⟨_,_,_,_,_,_,_,h1,_⟩:=MC l hp;rw [hd] at h1;cases h1)] at hb
    have:Ad st1.heap l=none:=by
     by_cases hi: ∃t∈Hf 0 s.ins as,t.2.Ro=l
     ·obtain ⟨t,ht,e⟩:=hi
      by_cases Ey:t.1<Am
      ·rw [<-e,q3 t ht Ey,e];exact hd
      ·obtain ⟨b0,_,h1,_⟩:=q4 t ht Ey
       rw [e,hd] at h1;cases h1
     ·rw [q2 l λt ht e=>hi ⟨t,ht,e.symm⟩];exact hd
    rw [this] at hb;cases hb
 have Acb: ∀k,JG st (jD tks)=true-> ∀q,ρ (Fz k)=some q->q.Bg q.g->X.w0.heap.size<=q.g:=by
  intro k zd q hq hg
  rcases (RW.Vu _ q _ hq hg).2 with h1|⟨c,p,h1,h2,h3⟩
  ·exact Nat.le_trans h.1.below.size h1
  ·obtain ⟨t,t1,t2,t0,p',t3,t4,_⟩:=Qv c p _ h2 h3
   have hm:t.2.Ro∈jD tks:=aQ.2 ⟨t,WI▸t1,⟨by rw [t2];exact h1,t0⟩,rfl⟩
   have:=List.all_eq_true.1 zd _ hm
   split at this
   ·rename_i fr tr e te xs hl
    unfold St.at at hl
    have hb:=(h.1.heap t.2.Ro).Md hl
    simp only [Av,Fv,t3] at hb
    rw [hb.1.2.1 _ t4]
    exact hb.1.2.2 this
   ·cases this
 have Ac9: ∀k q,ρ (Fz k)=some q->k<s.outs.length->q.Bg q.g:=by
  intro k q hq hk
  exact Ez.ZY s.outs 0 r Rn EG k (Nat.zero_le _) ((Nat.zero_add _).symm▸hk) q hq
 have hinv: ∀l,l∉dead->(∃t∈Hf 0 s.ins as,t.2.reads=false/\t.2.Ro=l)->jq X D1 w' π st.heap st1.heap l:=by
  rintro l hd ⟨t,ht,h0,rfl⟩
  by_cases Ey:t.1<Am
  ·exact absurd (List.mem_append_left _ (List.mem_append_left _ (aQ.2 ⟨t,WI▸ht,⟨Ey,h0⟩,rfl⟩))) hd
  ·exact q4 t ht Ey
 have wj: ∀l,(¬ ∃t∈Hf 0 s.ins as,t.2.reads=false/\t.2.Ro=l)->Ad st1.heap l=Ad st.heap l:= λl hn=>by
  by_cases hi: ∃t∈Hf 0 s.ins as,t.2.Ro=l
  ·obtain ⟨t,ht,rfl⟩:=hi
   have hr:t.2.reads=true:=by
    cases h0:t.2.reads with
    |true=>rfl
    |false=>exact absurd ⟨t,ht,h0,rfl⟩ hn
   exact q3 t ht (Ad2 t ht hr)
  ·exact q2 l λt ht e=>hi ⟨t,ht,e.symm⟩
 have Aa5: ∀l∈pl,∀p,s.ptr=some p->Ad H' l=some (.var p.1 (cM s.ins (cells.map (Ba dead part)) (Xv (Bz ks) 0 s.outs r))):= λl hl p hp=>by
  obtain ⟨p',q,h1,h2,_,_,_,h3,_⟩:=MC l hl
  rw [hp] at h1;cases h1
  show Ad (Sx _ _ _ _ _ _) l=_
  rw [n1 l λj _ hj e=>Acm j (by omega) (e▸hl),Ag4 l (λtid Sr e=>(hvd tid Sr).2 (e▸hl))]
  show Ad (o9 _ _ _ _).heap l=_
  rw [h2]
  refine NY ?_
  show Ad (Si (st1.heap.map λp=>(p.1,p.2.map (Ba dead part))) dead) l=_
  rw [Jc,Kd,if_neg (hpd l hl),wj l (λ⟨t,ht,_,e⟩=>YA l hl t ht e),h3]
  rfl
 have Aao: ∀j,j<s.Ph->s.outs.length<=j-> ∃tid,s.rp=some tid/\j=s.outs.length:= λj h1 h2=>by
  cases CS:s.rp with
  |none=>unfold MSpec.Ph at h1;rw [CS] at h1;simp at h1;omega
  |some tid=>exact ⟨tid,rfl,by have:=(YD tid CS).2;omega⟩
 have hHv: ∀tid,s.rp=some tid->Ad H' (Od d)=some (.var tid ((Xv (Bz ks) 0 s.outs r).drop s.Vr)):= λtid Sr=>by
  show Ad (Sx _ _ _ _ _ _) _=_
  rw [n1 _ λj _ hj e=>hkv j (by omega) tid Sr e.symm,Al8 tid Sr]
 suffices Agu:Ak X π' (iz st st1 d s pl tks r) a w'/\Ao X w' π' (iz st st1 d s pl tks r).heap av0 v by
  obtain ⟨m1,m2⟩:=Agu
  have nf: ∀(kj:List (Nat×Nat)) (l:Nat),l∈Xq st.heap ks tks kj->kb st.heap l=true/\ ∃k j t,(k,j)∈kj/\t∈tks/\t=(Bu false k,Loc.row l)/\ks[j]?=some l:=by
   intro kj
   induction kj with
   |nil=>intro l hl;cases hl
   |cons p kj ih=>
    intro l hl
    obtain ⟨k,j⟩:=p
    have up:l∈Xq st.heap ks tks kj->kb st.heap l=true/\ ∃k' j' t,(k',j')∈(k,j)::kj/\t∈tks/\t=(Bu false k',Loc.row l)/\ks[j']?=some l:= λhl=>by
     obtain ⟨h1,k',j',t,h2,h3⟩:=ih l hl
     exact ⟨h1,k',j',t,List.mem_cons_of_mem _ h2,h3⟩
    simp only [Xq] at hl
    split at hl
    ·rename_i x0 l1 l2 h1 h2
     split at hl
     ·rename_i hc
      simp only [Bool.and_eq_true] at hc
      rcases List.mem_cons.1 hl with rfl|hl
      ·have:=List.find?_some h1
       have e1:=Nat.eq_of_beq_eq_true this
       have e2:=Nat.eq_of_beq_eq_true hc.1
       dsimp only at e1
       exact ⟨hc.2,k,j,_,List.mem_cons_self,List.mem_of_find?_eq_some h1,by rw [e1],by rw [h2,e2]⟩
      ·exact up hl
     ·exact up hl
    ·exact up hl
  obtain ⟨r1,r2⟩:=EU h m1 (ls:=Xq st.heap ks tks s.keeps) (n:=s.Cn x) (λl hl=>by
   obtain ⟨_,k,j,t,h1,h2,h3,h4⟩:=nf s.keeps l hl
   have hj:j<ks.length:=(List.getElem?_eq_some_iff.1 h4).1
   have PV:Bz ks j=l:=by
    rw [Mi hj]
    rw [List.getElem?_eq_getElem hj] at h4
    exact Option.some.inj h4
   have su:=uj (k,j) h1
   rw [show π' l=ρ (Fz j) by rw [<-PV];exact ss j (by omega),YF]
   have hc:πc (Bu false k)=(π l).map full:=Ag6 k l (by rw [<-h3,<-WI];exact h2)
   dsimp only at su
   rw [hc] at su
   cases hp:π l<;>cases hq:yf (Fz j)<;>(rw [hp,hq] at su;exact su)) (λl hl=>(nf s.keeps l hl).1) Kz
  exact ⟨π',r1,r2 av0 v m2⟩
 refine ⟨?_,?_⟩
 ·have hx:=Ak.Abt (π':=π') (H':=H') (dead:=dead) (part:=part) (inv:= λl=>(∃t∈Hf 0 s.ins as,t.2.reads=false/\t.2.Ro=l)\/l∈pl) (gv:= λb=>Qj πc b\/s.gv g b) h (λb hb=>by
    rcases hb with hb|hb
    ·obtain ⟨t,h1,h0,q,h2,h3,_⟩:=aK b hb
     exact ⟨_,q, .inl ⟨t,h1,h0,rfl⟩,h2,h3⟩
    ·obtain ⟨l,hl,q,h1,h2,_⟩:=LX b hb
     exact ⟨l,q, .inr hl,h1,h2⟩) XO (λl b0 hd h0=>⟨SM l hd,?_⟩) (λl b' hb hd=>?_) (λl hl=>?_) (λm q hd hp hm hxa=>?_)
  ·have:({tmps:=(o9 s.ins (Xv (Bz ks) 0 s.outs r) pl (st1.Yx dead part)).tmps,heap:=H'} :St)= {tmps:=st.tmps.map (·.map (Ba dead part)),heap:=H'} :=by
    rw [mo]
    show ({tmps:=st1.tmps.map (·.map (Ba dead part)),heap:=H'} :St)=_
    rw [q1]
   show Ak X π' ({tmps:=(o9 s.ins (Xv (Bz ks) 0 s.outs r) pl (st1.Yx dead part)).tmps,heap:=H'} :St) a w'
   rw [this]
   exact hx
  ·by_cases PU:l∈pl
   ·obtain ⟨p,q,h1,h2,h3,h4,h5,h6,h7⟩:=MC l PU
    rw [h0] at h6;cases h6
    have rZ:=Aa5 l PU p h1
    refine .inr ⟨_,rZ,⟨rfl,by rw [ma]⟩,λm=>?_⟩
    unfold iv at mZ
    rw [h1] at mZ
    obtain ⟨cs,k1,k2,k3⟩:=mZ
    rw [<-h7] at k3
    refine ⟨q,h3,h4,cs.toArray,by rw [<-h5];exact k1,?_⟩
    refine Io.to (fK (H:=st.heap) SM (λl1 b1 sz n hd1 RG MG=>?_) s.ins 0 cells ld x us o st st1 (Xv (Bz ks) 0 s.outs r) Rn cs (has▸hT) Ags (has▸RZ) k3 (n3 π' hD1 (λj _ hj=>ss j (by omega)))) (by simpa using k2)
    have hnp:l1∉pl:= λhp=>by
     obtain ⟨_,_,_,_,_,_,_,h8,_⟩:=MC l1 hp
     rw [RG] at h8;cases h8;cases MG
    by_cases hi: ∃t∈Hf 0 s.ins as,t.2.reads=false/\t.2.Ro=l1
    ·obtain ⟨b1,b',e1,e2,e3,e4,e5,e6⟩:=hinv l1 hd1 hi
     rw [RG] at e1;cases e1
     exact ⟨b',by rw [lK l1 hd1 hnp,e2];simp [e4],by rw [e5.row];exact MG⟩
    ·exact ⟨_,by rw [lK l1 hd1 hnp,wj l1 hi,RG];rfl,by rw [OB.xe];exact MG⟩
   by_cases hi: ∃t∈Hf 0 s.ins as,t.2.reads=false/\t.2.Ro=l
   ·obtain ⟨b1,b',e1,e2,e3,e4,e5,e6⟩:=hinv l hd hi
    rw [h0] at e1;cases e1
    exact .inr ⟨b',by rw [lK l hd PU,e2];simp [e4],by rw [e3];exact e5,λ_=>e6 π' H' hD1⟩
   ·exact .inl ⟨λhh=>hh.elim hi PU,by rw [lK l hd PU,wj l hi,h0];rfl⟩
  ·obtain ⟨j,hj,rfl⟩:=newAt l b' hb hd
   refine ⟨Amc j hj,?_,λq b hq=>?_⟩
   ·rw [ss j hj]
    rcases Nat.lt_or_ge j s.outs.length with hjo|hjo
    ·rcases n2 j (Nat.zero_le _) (by omega) with ⟨e1,_⟩|⟨b2,e1,e2⟩
     ·rw [show Ad H' (Bz ks j)=none from e1] at hb;cases hb
     ·rw [show Ad H' (Bz ks j)=some b2 from e1] at hb;cases hb
      exact e2 X π' H' (λhf q hq=>Acb j hf q hq (Ac9 j q hq hjo)) hD1
    ·obtain ⟨tid,Sr,hj0⟩:=Aao j hj hjo
     subst hj0
     rw [(YD tid Sr).1,hHv tid Sr] at hb;cases hb
     unfold p7 at bC
     rw [Sr] at bC
     obtain ⟨q,y1,y2,y3,y4,_⟩:=bC
     rw [YF,y1]
     exact ⟨full q,rfl,y2,_,y3,Io.to (Io.take s.Vr (n3 π' hD1 (λj _ hj=>ss j (by omega)))).2 (by simpa using y4)⟩
   ·rw [ss j hj] at hq
    have Ky:=Aac _ q hq
    refine ⟨λhf=>by rw [Ky];exact hf,λhf=>?_⟩
    rw [Ky] at hf
    obtain ⟨h1,h2⟩:=RW.Vu _ q b hq hf
    refine ⟨h1,h2.imp id ?_,λl2 r2 hd2 JV hf2=>?_⟩
    ·rintro ⟨c,p,h3,h4,h5⟩
     obtain ⟨t,t1,t2,t0,p',t3,t4,_⟩:=Qv c p b h4 h5
     exact ⟨t.2.Ro,p',List.mem_append_left _ (List.mem_append_left _ (aQ.2 ⟨t,WI▸t1,⟨by rw [t2];exact h3,t0⟩,rfl⟩)),t3,t4⟩
    ·by_cases hk: ∃j,j<s.Ph/\l2=Bz ks j
     ·obtain ⟨j2,hj2,rfl⟩:=hk
      rw [ss j2 hj2] at JV
      rw [Aac _ r2 JV] at hf2
      have:=RW.inj _ _ r2 q b JV hq hf2 hf
      unfold Fz at this
      have:j2=j:=by omega
      rw [this]
     ·have e0:π' l2=if l2∈dead then none else π l2:=wg l2 hk
      rw [e0] at JV
      split at JV
      ·cases JV
      ·rename_i XX
       rcases hd2 with hd2|hd2
       ·exact absurd hd2 XX
       ·rw [(h.1.heap l2).emp hd2] at JV;cases JV
  ·by_cases hk: ∃j,j<s.Ph/\l=Bz ks j
   ·obtain ⟨j,hj,rfl⟩:=hk
    rw [ss j hj]
    rcases Nat.lt_or_ge j s.outs.length with hjo|hjo
    ·rcases n2 j (Nat.zero_le _) (by omega) with ⟨_,e1⟩|⟨b2,e1,_⟩
     ·exact e1
     ·rw [show Ad H' (Bz ks j)=some b2 from e1] at hl;cases hl
    ·obtain ⟨tid,Sr,hj0⟩:=Aao j hj hjo
     subst hj0
     rw [(YD tid Sr).1,hHv tid Sr] at hl;cases hl
   ·have e0:π' l=if l∈dead then none else π l:=wg l hk
    rw [e0]
    split
    ·rfl
    ·rename_i hd
     by_cases PU:l∈pl
     ·obtain ⟨p,_,h1,_⟩:=MC l PU
      rw [Aa5 l PU p h1] at hl;cases hl
     rw [lK l hd PU] at hl
     by_cases hi: ∃t∈Hf 0 s.ins as,t.2.reads=false/\t.2.Ro=l
     ·obtain ⟨_,b',_,e2,_⟩:=hinv l hd hi
      rw [e2] at hl;cases hl
     ·rw [wj l hi] at hl
      cases h0:Ad st.heap l with
      |none=>exact (h.1.heap l).emp h0
      |some b=>rw [h0] at hl;cases hl
  ·refine XO.block _ (h.1.lt hm).1 λEF=>?_
   rcases EF with ho|hg
   rotate_left
   ·obtain ⟨l,hl,q',h1,h2,_⟩:=LX _ hg
    have wi:=h.1.apart hm h1 (h.1.Bg hm) h2
    obtain ⟨_,_,_,_,_,_,_,h3,_⟩:=MC l hl
    obtain ⟨b,hxa,hxb⟩:=hxa
    rw [wi,h3] at hxa;cases hxa
    exact hxb rfl
   obtain ⟨t,t1,t0,p,t3,t4,t5⟩:=aK _ ho
   have wi:=h.1.apart hm t3 (h.1.Bg hm) t4
   have hpq:p=q:=by rw [<-wi,hm] at t3;exact (Option.some.inj t3).symm
   cases ht2:t.2 with
   |row l=>
    refine hp ?_
    show m∈whole tks
    unfold whole
    exact List.mem_flatMap.2 ⟨t,WI▸t1,by rw [ht2,wi,ht2];simp [Loc.Ro]⟩
   |sub l i j=>exact t5 l i j ht2 (by rw [hpq])
   |view l=>rw [ht2] at t0;cases t0
 ·have Amw:=n3 π' hD1 (λj _ hj=>ss j (by omega))
  cases CS:s.rp with
  |some tid=>
   unfold p7 at bC
   rw [CS] at bC
   obtain ⟨q,y1,y2,y3,y4,rfl⟩:=bC
   unfold YX at cX
   rw [CS] at cX
   simp only [Option.some.injEq] at cX;subst cX
   refine ⟨full q,tid,_,hHv tid CS,?_,rfl⟩
   rw [<-(YD tid CS).1,ss _ (by have:=(YD tid CS).2;omega),YF,y1]
   rfl
  |none=>
  unfold p7 at bC
  rw [CS] at bC
  obtain ⟨bC,An3⟩:=bC
  unfold YX at cX
  rw [CS] at cX
  simp only at cX
  obtain ⟨g1,g2,g3,g4⟩:=aH s.Di _ (Rn.drop s.Vr) An3 (Io.take s.Vr Amw).2
  unfold Aio at cX
  unfold UK at bC
  split at cX
  ·rename_i hm
   rw [if_pos hm] at bC
   simp only [Option.some.injEq] at cX;subst cX
   subst bC
   exact ⟨_,rfl,g3.symm,g4⟩
  ·rename_i hm
   rw [if_neg hm] at bC
   split at cX
   ·rename_i av1 hga
    simp only [Option.some.injEq] at cX;subst cX
    rcases bC with bC|bC
    ·exact g2 0 _ v (by rw [hga];rfl) (by rw [bC];rfl)
    ·rw [hga,bC] at g1;cases g1
   ·simp only [Option.some.injEq] at cX;subst cX;trivial
   ·cases cX
end
end Go.Proofs.YtfolipnappekaaaGreat
