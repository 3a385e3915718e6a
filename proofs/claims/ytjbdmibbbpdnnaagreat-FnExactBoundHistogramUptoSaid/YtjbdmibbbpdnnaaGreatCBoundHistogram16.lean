/-
  Part 17 of the proof that the statement FnExactBoundHistogram holds.
-/
import Derived.Test.YtjbdmibbbpdnnaaGreatCBoundHistogram15
namespace Go.Proofs.YtjbdmibbbpdnnaaGreat
open Go.RowKit
section
variable {P:Program} {T:Tab} {X:Ctx} {w w':World} {π π':Pi} {H H':List (Nat×OB)}
theorem Ug (k:Nat): ¬Bl true k<Ai:=by unfold Bl Ai;simp
theorem aF {k:Nat} (h:k<100000):Bl false k<Ai:=by unfold Bl Ai;simp;omega
def gh (X:Ctx) (D:Nat->Prop) (w':World) (π:Pi) (H Hn:List (Nat×OB)) (l:Nat):Prop:=
 ∃b0 b',Ad H l=some b0/\Ad Hn l=some b'/\(∀f,OB.map f b0=b0)/\(∀f,OB.map f b'=b')/\b0.al b'/\ ∀π' H',(∀b,Na π' b\/X.Sc b->D b)->Av X w' π' H' (π l) b'
theorem MF {io:Bool} {k:Nat} {τ:Ty} {a:AC} {t:Nat×Loc} (h:t∈Kk io k (.Ee τ) a):t.1=Bl false k:=by
 cases a<;>simp [Kk,views] at h<;>first|(obtain ⟨_,⟨_,_⟩,rfl⟩:=h;rfl)|(rw [h])
theorem GQ {io:Bool} {k:Nat} {e:Ty} {te:TypeId} {a:AC} {t:Nat×Loc} (h:t∈Kk io k (.part e te) a):t.1=Bl io k:=by cases a<;>simp [Kk] at h<;>rw [h]
theorem MG {io:Bool} {k:Nat} {e:Ty} {te:TypeId} {a:AC} {t:Nat×Loc} (h:t∈Kk io k (.row e te) a):t.1=Bl io k:=by cases a<;>simp [Kk] at h<;>rw [h]
theorem GR {io:Bool} {k:Nat} {e:Ty} {te:TypeId} {a:AC} {t:Nat×Loc} (h:t∈Kk io k (.Dq e te) a):t.1=Bl io k:=by cases a<;>simp [Kk] at h<;>rw [h]
theorem a5 {D:Nat->Prop} {π':Pi} {fr:Bool} {e:Ty} {es:List Value} {y:e.den} (hD: ∀b,Na π' b\/X.Sc b->D b) (h:Cells w' D e es y):Cells w' (Be X.w0.heap.size X.Sc π' (fr&&e.flat)) e es y:=by
 cases hf:e.flat with
 |true=>exact Cells.flat e es y hf h
 |false=>exact Cells.Cr (Nat.le_refl _) (λ_ _ _=>rfl) (λb _ hb=>by
   rcases hb with hb|hb|⟨hb,_⟩
   ·exact hD b (.inl hb)
   ·exact hD b (.inr hb)
   ·simp at hb) e es y h
theorem GU {D P:Nat->Prop} {g o:Nat} {cur:Array Value} {tr:Bool} {e:Ty} {xs:List e.den}
  (h: ∀(i:Nat) (x:e.den),xs[i]?=some x-> ∃es:List Value,es.length=e.size/\(∀j u,es[j]?=some u->cur[(o+i)*e.size+j]?=some u)/\Cells w' D e es x) (ht:(tr&&e.flat)=true):Qe w' P g o cur e xs:=by
 simp only [Bool.and_eq_true] at ht
 exact gI ht.2 h
theorem FP {D:Nat->Prop} (h:Hw X w π H) {k:Nat} {c:CK} {ys:c.den} {a:AC} {u:Value} {r:Option Real} {x:c.den} {cur st1:St} (hs:w.heap.size<=w'.heap.size)
  (hU: ∀l i j q b,a= .sub l i j->π l=some q->q.Ay b->b<w.heap.size->(∀r',r=some r'-> ¬r'.Ay b)->w'.heap[b]?=w.heap[b]?)
  {V:List Nat} (ht:Zq w (Jf X π V) r u c x/\Ms w π H true a u r c x) (hr:aZ w' D r c ys) (he:Wc cur c ys a=some st1) (bF: ∀t∈Kk true k c a,Ad cur.heap t.2.Pz=Ad H t.2.Pz):
  st1.tmps=cur.tmps/\(∀m,(∀t∈Kk true k c a,m≠t.2.Pz)->Ad st1.heap m=Ad cur.heap m)/\ ∀t∈Kk true k c a,gh X D w' π H st1.heap t.2.Pz:=by
 obtain ⟨hc,ht⟩:=ht
 cases c with
 |Ee τ=>cases a<;>simp [Wc] at he;subst he;exact ⟨rfl,λ_ _=>rfl,λt ht=>by simp [Kk] at ht⟩
 |row e te=>
  simp only [Ms] at ht
  cases a<;>simp only [] at ht<;>first|(exact ht.elim)|skip
  ·simp only [Wc,Option.some.injEq] at he;subst he
   exact ⟨rfl,λ_ _=>rfl,λt ht=>by simp [Kk] at ht⟩
  ·rename_i l off len
   obtain ⟨rfl,rfl,rfl,fr,tr,hl⟩:=ht
   have Ly:Ad cur.heap l=some (.arr fr tr e te x):=(bF _ (List.mem_singleton.2 rfl)).trans hl
   simp only [Wc,St.at,Ly] at he
   split at he
   ·rename_i Fm
    obtain ⟨_,h1,_⟩:=Fm
    simp only [Option.some.injEq] at he;subst he
    refine ⟨rfl,λm hm=>Cj _ _ _ _ (hm _ (List.mem_singleton.2 rfl)),λt Oq=>?_⟩
    have Oq:=List.mem_singleton.1 Oq
    subst Oq
    refine ⟨_,_,hl,Cq _ _ _ _ Ly,λ_=>rfl,λ_=>rfl,⟨rfl,h1.symm⟩,λπ' H' hD=>?_⟩
    have hb:=(h.heap l).blk hl
    change Av X w' π' H' (π l) _
    simp only [Av,Fu] at hb⊢
    cases hp:π l with
    |none=>rw [hp] at hr;exact hr
    |some q=>
     rw [hp] at hr hb
     obtain ⟨k1,cu,ti,k2,k3,k4,k5,k6⟩:=hr
     exact ⟨⟨k1.1,k1.2,λhh=>hb.1.2.2 (by simp only [Bool.and_eq_true] at hh;exact hh.1)⟩,cu,ti,k2,k3,k4,k5,λi y hy=>by
      obtain ⟨es,g1,g2,g3⟩:=k6 i y hy
      exact ⟨es,g1,g2,a5 hD g3⟩,λht=>GU k6 ht⟩
   ·cases he
  ·rename_i l i j
   obtain ⟨⟨_,hf⟩,tid,xs,hl,hx,q,hq,Pb,hre⟩:=ht
   have Ly:Ad cur.heap l=some (.Dc (.slice e) tid xs):=(bF _ (List.mem_singleton.2 rfl)).trans hl
   simp only [Wc,St.at,Ly,hx] at he
   rw [dif_pos trivial] at he
   ·split at he
    ·rename_i h1
     simp only [Option.some.injEq] at he;subst he
     refine ⟨rfl,λm hm=>Cj _ _ _ _ (hm _ (List.mem_singleton.2 rfl)),λt Oq=>?_⟩
     have Oq:=List.mem_singleton.1 Oq
     subst Oq
     refine ⟨_,_,hl,Cq _ _ _ _ Ly,λ_=>rfl,λ_=>rfl,⟨rfl,by simp⟩,λπ' H' _=>?_⟩
     show Io w' (π l) (.slice e) tid _
     rw [hq]
     refine hre w' ys hs (λb Gt hb hn=>hU l i j q b rfl hq hb Gt hn) ?_
     have hv:=hc.1
     rw [<-show List.length ys=List.length x from h1] at hv
     exact Me.AN hr hf hv
    ·cases he
 |Dq e te=>
  simp only [Ms] at ht
  cases a<;>simp only [] at ht<;>first|(exact ht.elim)|skip
  ·simp only [Wc,Option.some.injEq] at he;subst he
   exact ⟨rfl,λ_ _=>rfl,λt ht=>by simp [Kk] at ht⟩
  ·rename_i l off len
   obtain ⟨rfl,rfl,rfl,hl⟩:=ht
   have Ly:Ad cur.heap l=some (.Dc e te x):=(bF _ (List.mem_singleton.2 rfl)).trans hl
   simp only [Wc,St.at,Ly] at he
   split at he
   ·rename_i Fm
    obtain ⟨_,h1,_⟩:=Fm
    simp only [Option.some.injEq] at he;subst he
    refine ⟨rfl,λm hm=>Cj _ _ _ _ (hm _ (List.mem_singleton.2 rfl)),λt Oq=>?_⟩
    have Oq:=List.mem_singleton.1 Oq
    subst Oq
    refine ⟨_,_,hl,Cq _ _ _ _ Ly,λ_=>rfl,λ_=>rfl,⟨rfl,h1.symm⟩,λπ' H' _=>?_⟩
    show Io w' (π l) e te _
    cases hp:π l with
    |none=>rw [hp] at hr;exact hr
    |some q=>rw [hp] at hr;exact hr
   ·cases he
  ·rename_i l i j
   obtain ⟨_,tid,xs,hl,hx,q,hq,Pb,hre⟩:=ht
   have Ly:Ad cur.heap l=some (.Dc (.slice e) tid xs):=(bF _ (List.mem_singleton.2 rfl)).trans hl
   simp only [Wc,St.at,Ly,hx] at he
   rw [dif_pos trivial] at he
   ·split at he
    ·rename_i h1
     simp only [Option.some.injEq] at he;subst he
     refine ⟨rfl,λm hm=>Cj _ _ _ _ (hm _ (List.mem_singleton.2 rfl)),λt Oq=>?_⟩
     have Oq:=List.mem_singleton.1 Oq
     subst Oq
     refine ⟨_,_,hl,Cq _ _ _ _ Ly,λ_=>rfl,λ_=>rfl,⟨rfl,by simp⟩,λπ' H' _=>?_⟩
     show Io w' (π l) (.slice e) tid _
     rw [hq]
     refine hre w' ys hs (λb Gt hb hn=>hU l i j q b rfl hq hb Gt hn) ?_
     have hv:=hc.1
     rw [<-show List.length ys=List.length x from h1] at hv
     exact Io.AN (te:=te) hr hv
    ·cases he
 |part e te=>cases a<;>simp [Wc] at he<;>first|(simp only [Ms] at ht;exact ht.2.elim)
 |Al e te kp=>exact absurd ht.1 (by simp)
theorem FQ {D:Nat->Prop} (h:Hw X w π H) {k:Nat} {e:Ty} {te:TypeId} {ys:List e.den} {a:AC} {u:Value} {r:Option Real} {x:(CK.part e te).den} {cur st1:St}
  {V:List Nat} (ht:Zq w (Jf X π V) r u (.part e te) x/\Ms w π H true a u r (.part e te) x) (hr:aZ w' D r (.row e te) ys) (he:zJ cur e ys a=some st1) (bF: ∀t∈Kk true k (.part e te) a,Ad cur.heap t.2.Pz=Ad H t.2.Pz):
  st1.tmps=cur.tmps/\(∀m,(∀t∈Kk true k (.part e te) a,m≠t.2.Pz)->Ad st1.heap m=Ad cur.heap m)/\ ∀t∈Kk true k (.part e te) a,gh X D w' π H st1.heap t.2.Pz:=by
 obtain ⟨hc,hf,ht⟩:=ht
 cases a<;>simp only [] at ht<;>first|(exact ht.elim)|skip
 rename_i l off len
 obtain ⟨rfl,_,fr,tr,hl⟩:=ht
 have Ly:Ad cur.heap l=some (.arr fr tr e te x.1):=(bF _ (List.mem_singleton.2 rfl)).trans hl
 simp only [zJ,St.at,Ly] at he
 split at he
 ·rename_i Fm
  obtain ⟨_,h1⟩:=Fm
  simp only [Option.some.injEq] at he;subst he
  refine ⟨rfl,λm hm=>Cj _ _ _ _ (hm _ (List.mem_singleton.2 rfl)),λt Oq=>?_⟩
  have Oq:=List.mem_singleton.1 Oq
  subst Oq
  refine ⟨_,_,hl,Cq _ _ _ _ Ly,λ_=>rfl,λ_=>rfl,⟨rfl,h1.symm⟩,λπ' H' _=>?_⟩
  have hb:=(h.heap l).blk hl
  change Av X w' π' H' (π l) _
  simp only [Av,Fu] at hb⊢
  cases hp:π l with
  |none=>rw [hp] at hr;exact hr
  |some q=>
   rw [hp] at hr hb
   obtain ⟨k1,cu,ti,k2,k3,k4,k5,k6⟩:=hr
   exact ⟨⟨k1.1,k1.2,hb.1.2.2⟩,cu,ti,k2,k3,k4,k5,λi y hy=>by
    obtain ⟨es,g1,g2,g3⟩:=k6 i y hy
    exact ⟨es,g1,g2,Cells.flat e es y hf g3⟩,λ_=>gI hf k6⟩
 ·cases he
def lP (X:Ctx) (D:Nat->Prop) (w':World) (π:Pi) (H:List (Nat×OB)) (tk:List (Nat×Loc)) (cur st1:St):Prop:=
 st1.tmps=cur.tmps/\(∀m,(∀t∈tk,m≠t.2.Pz)->Ad st1.heap m=Ad cur.heap m)/\(∀t∈tk,t.1<Ai->Ad st1.heap t.2.Pz=Ad cur.heap t.2.Pz)/\(∀t∈tk,¬t.1<Ai->gh X D w' π H st1.heap t.2.Pz)
theorem nP {D:Nat->Prop} (h:Hw X w π H) {V:List Nat} {πc:Pi} {tks:List (Nat×Loc)} (hs:w.heap.size<=w'.heap.size)
  (hU: ∀t∈tks,∀q b,π t.2.Pz=some q->q.Ay b->b<w.heap.size->(∀r',πc t.1=some r'-> ¬r'.Ay b)->w'.heap[b]?=w.heap[b]?):
  ∀(cs:List (Bool×CK)) (k:Nat) (x:Ins.den cs) (as:List AC) (us:List Value) (o:IOs.den cs) (cur st1:St),k+cs.length<100000->(∀t∈Gz k cs as,t∈tks)->((Gz k cs as).map λt=>t.2.Pz).Nodup->
   l6 X w π V H πc k cs x as us->Ha w' D πc k cs o->Eh cs o as cur=some st1->(∀t∈Gz k cs as,Ad cur.heap t.2.Pz=Ad H t.2.Pz)->
   lP X D w' π H (Gz k cs as) cur st1
 | [],k,x,as,us,o,cur,st1,_,_,_,_,_,he,_=>by
  simp only [Eh,Option.some.injEq] at he;subst he
  have e0:Gz k [] as= []:=by cases as<;>rfl
  exact ⟨rfl,λ_ _=>rfl,by rw [e0];simp,by rw [e0];simp⟩
 |p::r,k,x,[],us,o,cur,st1,_,_,_,ht,_,_,_=>ht.elim
 |p::r,k,x,a::as,[],o,cur,st1,_,_,_,ht,_,_,_=>ht.elim
 |(io,c)::r,k,x,a::as,u::us,o,cur,st1,hk,Qq,HT,ht,ho,he,bF=>by
  simp only [List.length_cons] at hk
  simp only [Gz] at Qq HT bF⊢
  rw [List.map_append] at HT
  obtain ⟨n1,n2,n3⟩:=List.nodup_append.1 HT
  have apart: ∀t∈Kk io k c a,∀t'∈Gz (k+1) r as,t'.2.Pz≠t.2.Pz:= λt h1 t' h2 e=>n3 _ (List.mem_map.2 ⟨t,h1,rfl⟩) _ (List.mem_map.2 ⟨t',h2,rfl⟩) e.symm
  have rest: ∀(Tn:St) (o':IOs.den r),Ha w' D πc (k+1) r o'->Eh r o' as Tn=some st1->Tn.tmps=cur.tmps->(∀m,(∀t∈Kk io k c a,m≠t.2.Pz)->Ad Tn.heap m=Ad cur.heap m)->
    (∀t∈Kk io k c a,t.1<Ai->Ad Tn.heap t.2.Pz=Ad cur.heap t.2.Pz)->(∀t∈Kk io k c a,¬t.1<Ai->gh X D w' π H Tn.heap t.2.Pz)->
    lP X D w' π H (Kk io k c a++Gz (k+1) r as) cur st1:=by
   intro Tn o' h1 h2 h3 h4 h5 h6
   obtain ⟨g1,g2,g3,g4⟩:=nP h hs hU r (k+1) x.2 as us o' Tn st1 (by omega) (λt ht=>Qq t (List.mem_append_right _ ht)) n2 ht.2 h1 h2 (λt Oq=>by
    rw [h4 _ λt0 ht0=>apart t0 ht0 t Oq];exact bF t (List.mem_append_right _ Oq))
   have hd: ∀t∈Kk io k c a,Ad st1.heap t.2.Pz=Ad Tn.heap t.2.Pz:= λt Oq=>g2 _ λt' EC=>(apart t Oq t' EC).symm
   refine ⟨g1.trans h3,λm hm=>?_,λt Oq Gt=>?_,λt Oq Gt=>?_⟩
   ·rw [g2 m λt ht=>hm t (List.mem_append_right _ ht),h4 m λt ht=>hm t (List.mem_append_left _ ht)]
   ·rcases List.mem_append.1 Oq with Oq|Oq
    ·rw [hd t Oq,h5 t Oq Gt]
    ·rw [g3 t Oq Gt,h4 _ λt0 ht0=>apart t0 ht0 t Oq]
   ·rcases List.mem_append.1 Oq with Oq|Oq
    ·obtain ⟨b0,b',q1,q2,q3⟩:=h6 t Oq Gt
     exact ⟨b0,b',q1,(hd t Oq).trans q2,q3⟩
    ·exact g4 t Oq Gt
  have same: ∀o',Ha w' D πc (k+1) r o'->Eh r o' as cur=some st1->(∀t∈Kk io k c a,t.1<Ai)->lP X D w' π H (Kk io k c a++Gz (k+1) r as) cur st1:= λo' h1 h2 h3=>rest cur o' h1 h2 rfl (λ_ _=>rfl) (λ_ _ _=>rfl) (λt h4 h5=>absurd (h3 t h4) h5)
  cases io with
  |false=>
   have h3: ∀t∈Kk false k c a,t.1<Ai:= λt h4=>by rcases xF h4 with ⟨h5,_⟩|⟨h5,_⟩<;>(rw [h5];exact aF (by omega))
   cases c with
   |Ee τ=>exact same o ho (by simpa only [Eh] using he) h3
   |row e te=>exact same o ho (by simpa only [Eh] using he) h3
   |Dq e te=>exact same o ho (by simpa only [Eh] using he) h3
   |part e te=>exact same o ho (by simpa only [Eh] using he) h3
   |Al e te kp=>exact same o ho (by simpa only [Eh] using he) h3
  |true=>
   have row: ∀(ys:c.den) (o':IOs.den r),(∀t∈Kk true k c a,t.1=Bl true k)->aZ w' D (πc (Bl true k)) c ys->Ha w' D πc (k+1) r o'->(∃Tn,Wc cur c ys a=some Tn/\Eh r o' as Tn=some st1)->lP X D w' π H (Kk true k c a++Gz (k+1) r as) cur st1:=by
    intro ys o' h0 h1 h2 h3
    obtain ⟨Tn,hp,h3⟩:=h3
    ·obtain ⟨q1,q2,q3⟩:=FP (k:=k) h hs (λl i j q b ea hq hb Gt hn=>by
      cases c with
      |Ee τ=>exact absurd (ht.1.2:πc _=none) (by subst ea;simp [Wc] at hp)
      |row e te=>subst ea;exact hU (Bl true k, .sub l i j) (Qq _ (List.mem_append_left _ (List.mem_singleton.2 rfl))) q b hq hb Gt hn
      |Dq e te=>subst ea;exact hU (Bl true k, .sub l i j) (Qq _ (List.mem_append_left _ (List.mem_singleton.2 rfl))) q b hq hb Gt hn
      |Al e te kp=>exact absurd ht.1.2.1 (by simp)
      |part e te=>exact absurd ht.1.2.2 (by subst ea;exact λh=>h)) ht.1 h1 hp (λt Oq=>bF t (List.mem_append_left _ Oq))
     exact rest Tn o' h2 h3 q1 q2 (λt h4 h5=>absurd h5 (by rw [h0 t h4];exact Ug k)) (λt h4 _=>q3 t h4)
   cases c with
   |Ee τ=>exact same o ho (by simpa only [Eh] using he) (λt h4=>by rw [MF h4];exact aF (by omega))
   |Al e te kp=>exact absurd ht.1.2.1 (by simp)
   |row e te=>
    simp only [Eh] at he
    split at he
    ·rename_i Tn hp;exact row o.1 o.2 (λt ht=>MG ht) ho.1 ho.2 ⟨Tn,hp,he⟩
    ·cases he
   |Dq e te=>
    simp only [Eh] at he
    split at he
    ·rename_i Tn hp;exact row o.1 o.2 (λt ht=>GR ht) ho.1 ho.2 ⟨Tn,hp,he⟩
    ·cases he
   |part e te=>
    simp only [Eh] at he
    split at he
    ·rename_i Tn hp
     obtain ⟨q1,q2,q3⟩:=FQ (k:=k) h ht.1 ho.1 hp (λt Oq=>bF t (List.mem_append_left _ Oq))
     exact rest Tn o.2 ho.2 he q1 q2 (λt h4 h5=>absurd h5 (by rw [GQ h4];exact Ug k)) (λt h4 _=>q3 t h4)
    ·cases he
theorem zm {fr:Bool} {c:CK} {x:c.den} {u:Value} {r:Option Real} {D:Nat->Prop} (h:Zq w' D r u c x):
  (pA fr c x=none/\r=none)\/ ∃b',pA fr c x=some b'/\ ∀(X:Ctx) π' H',(fr=true-> ∀q,r=some q->X.w0.heap.size<=q.g)->(∀b,Na π' b\/X.Sc b->D b)->Av X w' π' H' r b':=by
 cases c with
 |Ee τ=>exact .inl ⟨rfl,h.1⟩
 |row e te=>
  refine .inr ⟨_,rfl,λX π' H' vW hD=>?_⟩
  obtain ⟨_,h⟩:=h
  simp only [aZ] at h
  simp only [Av,Fu]
  cases r with
  |none=>exact h
  |some q=>
   obtain ⟨k1,cu,ti,k2,k3,k4,k5,k6⟩:=h
   exact ⟨⟨k1.1,k1.2,λh1=>vW (by simp only [Bool.and_eq_true] at h1;exact h1.1) q rfl⟩,cu,ti,k2,k3,k4,k5,λi y hy=>by
    obtain ⟨es,g1,g2,g3⟩:=k6 i y hy
    exact ⟨es,g1,g2,a5 hD g3⟩,λh=>by cases h⟩
 |Dq e te=>exact .inr ⟨_,rfl,λX π' H' _ _=>h.2⟩
 |Al e te kp=>exact .inr ⟨_,rfl,λX π' H' _ hD=>⟨Tc.Ez h.2 λb hb=>hD b (hb.imp id λh=>h.elim id λh=>by cases h.1),trivial⟩⟩
 |part e te=>
  refine .inr ⟨_,rfl,λX π' H' vW hD=>?_⟩
  obtain ⟨_,hf,h⟩:=h
  simp only [Av,Fu]
  cases r with
  |none=>exact h
  |some q=>
   obtain ⟨k1,cu,ti,k2,k3,k4,k5,k6⟩:=h
   exact ⟨⟨k1.1,k1.2,λh1=>vW (by simp only [Bool.and_eq_true] at h1;exact h1.1) q rfl⟩,cu,ti,k2,k3,k4,k5,λi y hy=>by
    obtain ⟨es,g1,g2,g3⟩:=k6 i y hy
    exact ⟨es,g1,g2,a5 hD g3⟩,λh=>by cases h⟩
theorem kM {D:Nat->Prop} {key:Nat->Nat} (yP: ∀i j,key i=key j->i=j) {fr:Bool} {ρ:Pi} : ∀(cs:List CK) (k:Nat) (x:CKs.den cs) (us:List Value) (H:List (Nat×OB)),Ew w' D ρ k cs x us->
  (∀j,k<=j->j<k+cs.length->Ad H (key j)=none)->
  (∀l,(∀j,k<=j->j<k+cs.length->l≠key j)->Ad (Qw fr key k cs x H) l=Ad H l)/\
  (∀j,k<=j->j<k+cs.length->(Ad (Qw fr key k cs x H) (key j)=none/\ρ (Fo j)=none)\/
   ∃b',Ad (Qw fr key k cs x H) (key j)=some b'/\ ∀(X:Ctx) π' H',(fr=true-> ∀q,ρ (Fo j)=some q->X.w0.heap.size<=q.g)->(∀b,Na π' b\/X.Sc b->D b)->Av X w' π' H' (ρ (Fo j)) b')/\
  (∀π',(∀b,Na π' b\/X.Sc b->D b)->(∀j,k<=j->j<k+cs.length->π' (key j)=ρ (Fo j))->Hx X w' π' (Qw fr key k cs x H) (Vp key k cs x) us)
 | [],k,x,[],H,_,_=>⟨λ_ _=>rfl,λj h1 h2=>by simp at h2;omega,λ_ _ _=>trivial⟩
 | [],_,_,_::_,_,h,_=>h.elim
 |_::_,_,_,[],_,h,_=>h.elim
 |c::r,k,x,u::us,H,h,hn=>by
  simp only [List.length_cons] at hn⊢
  simp only [Qw,Vp]
  have pj:=hn k (Nat.le_refl _) (by omega)
  have XI: ∀l,l≠key k->Ad (wa H (key k) (pA fr c x.1)) l=Ad H l:=by
   intro l hl
   cases pA fr c x.1 with
   |some b=>exact Jq _ _ _ _ hl
   |none=>rfl
  have YQ:Ad (wa H (key k) (pA fr c x.1)) (key k)=pA fr c x.1:=by
   cases pA fr c x.1 with
   |some b=>exact Km _ _ _ pj
   |none=>exact pj
  generalize (wa H (key k) (pA fr c x.1))=H1 at XI YQ⊢
  obtain ⟨g1,g2,g3⟩:=kM yP (fr:=fr) r (k+1) x.2 us H1 h.2 (λj h1 h2=>by
   rw [XI _ λe=>by have:=yP _ _ e;omega];exact hn j (by omega) (by omega))
  have NB:Ad (Qw fr key (k+1) r x.2 H1) (key k)=pA fr c x.1:=by
   rw [g1 _ λj h1 h2 e=>by have:=yP _ _ e;omega];exact YQ
  refine ⟨λl hl=>?_,λj h1 h2=>?_,λπ' hd SL=>⟨?_,?_⟩⟩
  ·rw [g1 l λj h1 h2=>hl j (by omega) (by omega)]
   exact XI l (hl k (Nat.le_refl _) (by omega))
  ·rcases Nat.eq_or_lt_of_le h1 with e|h1
   ·subst e
    rw [NB]
    exact zm h.1
   ·exact g2 j h1 (by omega)
  ·have h1:=h.1
   have XT:=SL k (Nat.le_refl _) (by omega)
   cases c with
   |Ee τ=>
    obtain ⟨c9,c1,c2⟩:=h1.2
    exact ⟨c9,by have:=a5 (fr:=true) hd c1;simpa using this,c2⟩
   |row e te=>exact ⟨_,e.size,List.length x.1,NB,rfl,by simp,by rw [XT];exact h1.1⟩
   |Dq e te=>exact ⟨_,e.size,List.length x.1,NB,rfl,by simp,by rw [XT];exact h1.1⟩
   |Al e te kp=>exact ⟨_,1,List.length x.1,NB,rfl,by simp,by rw [XT];exact h1.1⟩
   |part e te=>trivial
  ·exact g3 π' hd λj h1 h2=>SL j (by omega) (by omega)
theorem zc {ks:List Nat} {n:Nat} (h:sS ks n=true):ks.length=n/\ks.Nodup/\ ∀l∈ks,l<Ai:=by
 unfold sS at h
 simp only [Bool.and_eq_true] at h
 refine ⟨Nat.eq_of_beq_eq_true h.1,Qv h.2.1,λl hl=>?_⟩
 have:=List.all_eq_true.1 h.2.2 l hl
 simpa using this
theorem Ld {ks:List Nat} {j:Nat} (h:j<ks.length):Bv ks j=ks[j]:=by
 unfold Bv
 rw [List.getElem?_eq_getElem h]
theorem vo {ks:List Nat} (hn:ks.Nodup) (hl: ∀l∈ks,l<Ai): ∀i j,Bv ks i=Bv ks j->i=j:=by
 intro i j h
 by_cases hi:i<ks.length
 ·by_cases hj:j<ks.length
  ·rw [Ld hi,Ld hj] at h
   rcases Nat.lt_trichotomy i j with Gt|he|Gt
   ·exact absurd h (List.pairwise_iff_getElem.1 hn i j hi hj Gt)
   ·exact he
   ·exact absurd h.symm (List.pairwise_iff_getElem.1 hn j i hj hi Gt)
  ·have h1:=hl _ (List.getElem_mem hi)
   rw [Ld hi] at h
   unfold Bv at h
   rw [List.getElem?_eq_none (by omega)] at h
   simp only at h
   omega
 ·by_cases hj:j<ks.length
  ·have h1:=hl _ (List.getElem_mem hj)
   rw [Ld hj] at h
   unfold Bv at h
   rw [List.getElem?_eq_none (by omega)] at h
   simp only at h
   omega
  ·unfold Bv at h
   rw [List.getElem?_eq_none (by omega),List.getElem?_eq_none (by omega)] at h
   simp only at h
   omega
theorem Ih: ∀(H:List (Nat×OB)) (dead:List Nat) (l:Nat),Ad (Qh H dead) l=if l∈dead then none else Ad H l
 | [],dead,l=>by simp [Qh,Ad]
 |(k,b)::r,dead,l=>by
  simp only [Qh]
  have ih:=Ih r dead l
  by_cases hk:k∈dead
  ·rw [if_pos (by simpa using hk),ih]
   split
   ·rfl
   ·rename_i hl
    simp only [Ad]
    rw [if_neg (λ(e:k=l)=>hl (e▸hk))]
  ·rw [if_neg (by simpa using hk)]
   simp only [Ad]
   split
   ·rename_i e;subst e;rw [if_neg hk]
   ·exact ih
theorem mem_keys {ks:List Nat} {l:Nat} :l∈ks↔ ∃k,k<ks.length/\l=Bv ks k:=
 ⟨λh=>by obtain ⟨k,hk,e⟩:=List.getElem_of_mem h;exact ⟨k,hk,by rw [Ld hk,e]⟩,λ⟨k,hk,e⟩=>by rw [e,Ld hk];exact List.getElem_mem hk⟩
theorem Yz {tks:List (Nat×Loc)} {l:Nat} :l∈gz tks↔ ∃t∈tks,(t.1<Ai/\t.2.reads=false)/\t.2.Pz=l:=by
 unfold gz
 simp only [List.mem_map,List.mem_filter,Bool.and_eq_true,Nat.blt_eq,Bool.not_eq_true']
 exact ⟨λ⟨t,⟨h1,h2⟩,h3⟩=>⟨t,h1,h2,h3⟩,λ⟨t,h1,h2,h3⟩=>⟨t,⟨h1,h2⟩,h3⟩⟩
theorem sT {tks:List (Nat×Loc)} (h:(tks.map λt=>t.2.Pz).Nodup) {t t':Nat×Loc} (ht:t∈tks) (EC:t'∈tks) (he:t.2.Pz=t'.2.Pz):t=t':=by
 induction tks with
 |nil=>cases ht
 |cons a r ih=>
  simp only [List.map_cons] at h
  obtain ⟨h1,h2⟩:=List.nodup_cons.1 h
  rcases List.mem_cons.1 ht with rfl|ht<;>rcases List.mem_cons.1 EC with rfl|EC
  ·rfl
  ·exact (h1 (List.mem_map.2 ⟨t',EC,he.symm⟩)).elim
  ·exact (h1 (he▸List.mem_map.2 ⟨t,‹t∈r›,rfl⟩)).elim
  ·exact ih h2 ht EC
theorem Ew.full {D:Nat->Prop} {ρ:Pi} : ∀(cs:List CK) (k:Nat) (x:CKs.den cs) (us:List Value),Ew w D ρ k cs x us->Ew w D (λl=>(ρ l).map full) k cs x us
 | [],_,_,[],h=>h
 | [],_,_,_::_,h=>h.elim
 |_::_,_,_,[],h=>h.elim
 |c::r,k,x,u::us,h=>⟨by
   have h1:=h.1
   show Zq w D ((ρ (Fo k)).map _) u c x.1
   cases c with
   |Ee τ=>rw [h1.1];exact ⟨rfl,h1.2⟩
   |row e te=>cases hp:ρ (Fo k)<;>(rw [hp] at h1;exact h1)
   |Dq e te=>cases hp:ρ (Fo k)<;>(rw [hp] at h1;exact h1)
   |Al e te kp=>cases hp:ρ (Fo k)<;>(rw [hp] at h1;exact h1)
   |part e te=>cases hp:ρ (Fo k)<;>(rw [hp] at h1;exact h1),Ew.full r (k+1) x.2 us h.2⟩
theorem Ew.QX {D:Nat->Prop} {ρ:Pi} : ∀(cs:List CK) (k0:Nat) (x:CKs.den cs) (us:List Value),Ew w D ρ k0 cs x us-> ∀j,k0<=j->j<k0+cs.length-> ∀q,ρ (Fo j)=some q->q.Ay q.g
 | [],k0,_,_,_,j,h1,h2,_,_=>by simp at h2;omega
 |_::_,_,_,[],h,_,_,_,_,_=>h.elim
 |c::r,k0,x,u::us,ho,j,h1,h2,q,hq=>by
  rcases Nat.eq_or_lt_of_le h1 with e|h1
  ·subst e
   have:=ho.1
   cases c with
   |Ee τ=>rw [hq] at this;cases this.1
   |row e te=>rw [hq] at this;exact this.2.1.1
   |Dq e te=>rw [hq] at this;exact this.2.1
   |part e te=>rw [hq] at this;exact this.2.2.1.1
   |Al e te kp=>rw [hq] at this;exact this.2.1
  ·exact Ew.QX r (k0+1) x.2 us ho.2 j h1 (by simp at h2;omega) q hq
theorem Me.any {D D':Nat->Prop} {r:Option Real} {e:Ty} {xs:List e.den} (hf:e.flat=true) (h:Me w D r e xs):Me w D' r e xs:=by
 cases r with
 |none=>exact h
 |some r=>
  obtain ⟨k1,cu,ti,k2,k3,k4,k5,k6⟩:=h
  exact ⟨k1,cu,ti,k2,k3,k4,k5,λi y hy=>by
   obtain ⟨es,g1,g2,g3⟩:=k6 i y hy
   exact ⟨es,g1,g2,Cells.flat e es y hf g3⟩⟩
theorem Ew.any {D D':Nat->Prop} {ρ:Pi} : ∀(cs:List CK) (k:Nat) (x:CKs.den cs) (us:List Value),cs.all (·.flat)=true->Ew w D ρ k cs x us->Ew w D' ρ k cs x us
 | [],_,_,[],_,h=>h
 | [],_,_,_::_,_,h=>h.elim
 |_::_,_,_,[],_,h=>h.elim
 |c::r,k,x,u::us,hf,h=>by
  simp only [List.all_cons,Bool.and_eq_true] at hf
  refine ⟨?_,Ew.any r (k+1) x.2 us hf.2 h.2⟩
  have h1:=h.1
  cases c with
  |Ee τ=>exact ⟨h1.1,Bd.flat hf.1 h1.2⟩
  |row e te=>exact ⟨h1.1,Me.any hf.1 h1.2⟩
  |Dq e te=>exact h1
  |part e te=>exact ⟨h1.1,h1.2.1,Me.any hf.1 h1.2.2⟩
  |Al e te kp=>exact absurd hf.1 (by simp [CK.flat])
theorem Ha.any {D D':Nat->Prop} {π:Pi} : ∀(cs:List (Bool×CK)) (k:Nat) (x:IOs.den cs),(cs.all λp=>!p.1||p.2.flat)=true->Ha w D π k cs x->Ha w D' π k cs x
 | [],_,_,_,h=>h
 |(false,_)::r,k,x,hf,h=>Ha.any r (k+1) x (by simp only [List.all_cons,Bool.and_eq_true] at hf;exact hf.2) h
 |(true, .Ee _)::r,k,x,hf,h=>Ha.any r (k+1) x (by simp only [List.all_cons,Bool.and_eq_true] at hf;exact hf.2) h
 |(true, .Al _ _ _)::r,k,x,hf,h=>Ha.any r (k+1) x (by simp only [List.all_cons,Bool.and_eq_true] at hf;exact hf.2) h
 |(true, .row e te)::r,k,x,hf,h=>by
  simp only [List.all_cons,Bool.and_eq_true,Bool.not_true,Bool.false_or] at hf
  exact ⟨Me.any hf.1 h.1,Ha.any r (k+1) x.2 hf.2 h.2⟩
 |(true, .Dq e te)::r,k,x,hf,h=>by
  simp only [List.all_cons,Bool.and_eq_true,Bool.not_true,Bool.false_or] at hf
  exact ⟨h.1,Ha.any r (k+1) x.2 hf.2 h.2⟩
 |(true, .part e te)::r,k,x,hf,h=>by
  simp only [List.all_cons,Bool.and_eq_true,Bool.not_true,Bool.false_or] at hf
  exact ⟨Me.any hf.1 h.1,Ha.any r (k+1) x.2 hf.2 h.2⟩
theorem nz {tks:List (Nat×Loc)} {l:Nat} :l∈uq tks↔ ∃t∈tks,t.2.reads=true/\t.2.Pz=l:=by
 unfold uq
 simp only [List.mem_map,List.mem_filter]
 exact ⟨λ⟨t,⟨h1,h2⟩,h3⟩=>⟨t,h1,h2,h3⟩,λ⟨t,h1,h2,h3⟩=>⟨t,⟨h1,h2⟩,h3⟩⟩
theorem Aj.iw {st:St} {a:Act} (h:Aj X π st a w) {f:AC->AC} (hu:f .undef= .undef) {gv:Nat->Prop} (DV: ∀b,gv b->Na π b) (hb:Df w.heap.size gv w w')
  (Sb: ∀b,b<w.heap.size->Na π' b->Na π b)
  (Qq: ∀l r b,π' l=some r->r.Ay b->r.cl b) (UP: ∀l r b,π' l=some r->r.cl b->(X.w0.heap.size<=b\/X.gv b)/\b<w'.heap.size)
  (Aev: ∀l l' r r' b,π' l=some r->π' l'=some r'->r.cl b->r'.cl b->l=l')
  (Yt: ∀l,Ai<=l->Ad H' l≠none->Us (X.cO l) (π' l))
  (hac:(∀fr τ cs x,Cells w (Be X.w0.heap.size X.Sc π fr) τ cs x->Cells w' (Be X.w0.heap.size X.Sc π' fr) τ cs x)-> ∀c v,Ea X w π st.heap c v->Ea X w' π' H' (f c) v)
  (OA:Move X w w' π π' st.heap H' f-> ∀l b,Ad H' l=some b->Av X w' π' H' (π' l) b)
  (CF: ∀l,Ad H' l=none->π' l=none):
  Aj X π' {tmps:=st.tmps.map (·.map f),heap:=H'} a w':=by
 have hc: ∀fr τ cs x,Cells w (Be X.w0.heap.size X.Sc π fr) τ cs x->Cells w' (Be X.w0.heap.size X.Sc π' fr) τ cs x:= λfr τ cs x hh=>
  Cells.Cr hb.size (λk hk hn=>hb.block k hk λhg=>hn (.inl (DV k hg))) (λk Gt hA=>hA.imp (Sb k Gt) id) τ cs x hh
 have m:Move X w w' π π' st.heap H' f:=⟨hac hc,hc⟩
 refine ⟨⟨⟨hb.os.trans h.1.below.os,hb.tape.trans h.1.below.tape,hb.output.trans h.1.below.output,Nat.le_trans h.1.below.size hb.size,λk hk hn=>?_⟩,h.1.sc,Qq,UP,Aev,Yt,λl=>?_⟩,m.zN hu h.2⟩
 ·refine (hb.block k (Nat.lt_of_lt_of_le hk h.1.below.size) λhg=>?_).trans (h.1.below.block k hk hn)
  rcases (h.1.own (DV k hg)).2 with h1|h1
  ·omega
  ·exact hn h1
 ·cases hh:Ad H' l with
  |none=>exact Dg.Ph (CF l hh) hh
  |some b=>exact Dg.Il (OA m l b hh) hh
def ba:Option Real->Option Real->Prop
 |none,none=>True
 |some r,some r'=>r.g=r'.g/\r.o=r'.o/\r.cap=r'.cap
 |_,_=>False
theorem ba.rfl' (r:Option Real):ba r r:=by cases r<;>simp [ba]
theorem ba.some {r:Real} {r':Option Real} (h:ba (some r) r'): ∃q,r'=some q/\r.g=q.g/\r.o=q.o/\r.cap=q.cap:=by
 cases r' with
 |none=>exact h.elim
 |some q=>exact ⟨q,rfl,h⟩
theorem ba.own {r r':Option Real} (h:ba r r') {sz off len:Nat} {v:Value} (hv:Dz r sz off len v):Dz r' sz off len v:=by
 cases r<;>cases r'<;>first|exact h.elim|skip
 ·exact hv
 ·obtain ⟨h1,h2,h3⟩:=h
  obtain ⟨ad,g1,g2,g3⟩:=hv
  exact ⟨ad,by rw [<-h3];exact g1,by rw [<-h3];exact g2,by rw [<-h1,<-h2,<-h3];exact g3⟩
structure OB.Ml (b b':OB):Prop where
 row: ∀sz n,b.row=some (sz,n)-> ∃n',b'.row=some (sz,n')/\n<=n'
 bj: ∀p,b.bj=some p->b'.bj=some p
 pe: ∀p,b.pe=some p->b'.pe=some p
 var: ∀tid vs,b= .var tid vs-> ∃Nv uM,b'= .var Nv uM
 Oo: ∀v m,b= .Oo v m-> ∃m',b'= .Oo v m'
theorem OB.Ml.map (f:AC->AC) (b:OB):b.Ml (b.map f) where
 row:= λsz n h=>⟨n,by cases b<;>exact h,Nat.le_refl _⟩
 bj:= λp h=>by cases b<;>exact h
 pe:= λp h=>by cases b<;>exact h
 var:= λtid vs h=>by subst h;exact ⟨_,_,rfl⟩
 Oo:= λv m h=>by subst h;exact ⟨_,rfl⟩
theorem OB.Ml.rfl' (b:OB):b.Ml b where
 row:= λ_sz n h=>⟨n,h,Nat.le_refl _⟩
 bj:= λ_p h=>h
 pe:= λ_p h=>h
 var:= λ_tid _vs h=>⟨_,_,h⟩
 Oo:= λ_v _m h=>⟨_,h⟩
theorem OB.Ml.trans {a b c:OB} (h:a.Ml b) (k:b.Ml c):a.Ml c where
 row:= λsz n hr=>by
  obtain ⟨n1,h1,h2⟩:=h.row sz n hr
  obtain ⟨n2,h3,h4⟩:=k.row sz n1 h1
  exact ⟨n2,h3,by omega⟩
 bj:= λp hp=>k.bj p (h.bj p hp)
 pe:= λp hp=>k.pe p (h.pe p hp)
 var:= λtid vs hv=>by obtain ⟨t',v',h1⟩:=h.var tid vs hv;exact k.var t' v' h1
 Oo:= λv m hm=>by obtain ⟨m',h1⟩:=h.Oo v m hm;exact k.Oo v m' h1
theorem iv {f:AC->AC} {D Pt:Nat->Prop} (hf: ∀c,f c= .undef\/(f c=c/\(∀k∈c.refs,¬D k)/\ ∀k i j,c= .sub k i j\/c= .Fw k i j-> ¬Pt k)) (hp: ∀k,¬D k->ba (π k) (π' k))
  (hH: ∀k b,¬D k->Ad H k=some b-> ∃b',Ad H' k=some b'/\b.Ml b')
  (hg: ∀k r b,¬D k-> ¬Pt k->Ad H k=some b->b.bj≠none->π k=some r->w'.heap[r.g]?=w.heap[r.g]?)
  (hc: ∀fr τ cs x,Cells w (Be X.w0.heap.size X.Sc π fr) τ cs x->Cells w' (Be X.w0.heap.size X.Sc π' fr) τ cs x): ∀c v,Ea X w π H c v->Ea X w' π' H' (f c) v:=by
 intro c v h
 rcases hf c with e|⟨e,hr,hs⟩
 ·rw [e];trivial
 rw [e]
 cases c with
 |data fr τ x=>obtain ⟨cs,h1,h2⟩:=h;exact ⟨cs,hc _ _ _ _ h1,h2⟩
 |own k off len=>
  obtain ⟨b,sz,n,h1,h0,h2,h3⟩:=h
  have hk:=hr k (by simp [AC.refs])
  obtain ⟨b',g1,g2⟩:=hH k b hk h1
  obtain ⟨n',g3,g4⟩:=g2.row sz n h0
  exact ⟨b',sz,n',g1,g3,by omega,(hp k hk).own h3⟩
 |Dy k i=>
  obtain ⟨r,tid,vs,h1,h2,h3⟩:=h
  have hk:=hr k (by simp [AC.refs])
  obtain ⟨b',g1,g2⟩:=hH k _ hk h1
  obtain ⟨Nv,uM,rfl⟩:=g2.var tid vs rfl
  obtain ⟨q,q1,q2,_⟩:=(h2▸hp k hk).some
  exact ⟨q,Nv,uM,g1,q1,by rw [<-q2];exact h3⟩
 |Fz k i=>
  obtain ⟨r,b,sz,n,h1,h0,h2,h3,h4⟩:=h
  have hk:=hr k (by simp [AC.refs])
  obtain ⟨b',g1,g2⟩:=hH k b hk h1
  obtain ⟨n',g3,g4⟩:=g2.row sz n h0
  obtain ⟨q,q1,q2,q3,_⟩:=(h3▸hp k hk).some
  exact ⟨q,b',sz,n',g1,g3,by omega,q1,by rw [<-q2,<-q3];exact h4⟩
 |sub k i c=>
  obtain ⟨r,b,sz,n,h1,h0,h2,h3,h4,h5⟩:=h
  have hk:=hr k (by simp [AC.refs])
  obtain ⟨b',g1,g2⟩:=hH k b hk h1
  obtain ⟨q,q1,q2,q3,_⟩:=(h2▸hp k hk).some
  exact ⟨q,b',sz,n,g1,g2.bj _ h0,q1,h3,h4,by rw [<-q2,<-q3,World.cell?_of_block (hg k r b hk (hs k i c (.inl rfl)) h1 (by rw [h0];simp) h2)];exact h5⟩
 |Fw k i c=>
  obtain ⟨r,b,n,sz,g,o,len,cap,h1,h0,h2,h3,h4,h5,h6⟩:=h
  have hk:=hr k (by simp [AC.refs])
  obtain ⟨b',g1,g2⟩:=hH k b hk h1
  obtain ⟨q,q1,q2,q3,_⟩:=(h2▸hp k hk).some
  exact ⟨q,b',n,sz,g,o,len,cap,g1,g2.pe _ h0,q1,h3,h4,by rw [<-q2,<-q3,World.cell?_of_block (hg k r b hk (hs k i c (.inr rfl)) h1 (by cases b<;>first|(cases h0;done)|simp [OB.bj]) h2)];exact h5,h6⟩
 |clo g Bw=>
  obtain ⟨us,h1,h2,h3⟩:=h
  refine ⟨us,h1,h2,λj p ZY=>?_⟩
  obtain ⟨r,tid,vs,h4,h5,h6⟩:=h3 j p ZY
  have hk:=hr p.1 (by simp only [AC.refs,List.mem_map];exact ⟨p,List.mem_of_getElem? ZY,rfl⟩)
  obtain ⟨b',g1,g2⟩:=hH p.1 _ hk h4
  obtain ⟨Nv,uM,rfl⟩:=g2.var tid vs rfl
  obtain ⟨q,q1,q2,_⟩:=(h5▸hp p.1 hk).some
  exact ⟨q,Nv,uM,g1,q1,by rw [<-q2];exact h6⟩
 |Ge k=>
  obtain ⟨r,vt,m,h1,h2,h3⟩:=h
  have hk:=hr k (by simp [AC.refs])
  obtain ⟨b',g1,g2⟩:=hH k _ hk h1
  obtain ⟨m',rfl⟩:=g2.Oo vt m rfl
  obtain ⟨q,q1,q2,_⟩:=(h2▸hp k hk).some
  exact ⟨q,vt,m',g1,q1,by rw [<-q2];exact h3⟩
 |_=>exact h
theorem Nz (H0:List (Nat×OB)) (ls:List Nat) (n:Nat): ∀(H:List (Nat×OB)) (l:Nat),Ad (Xo H0 ls n H) l=(Ad H l).map λb=>if ls.contains l then b.xj (Vj n (VG (Ad H0 l))) else b
 | [],_=>rfl
 |(k,b)::r,l=>by
  simp only [Xo,Ad]
  split
  ·rename_i e;subst e;rfl
  ·exact Nz H0 ls n r l
theorem OB.tP (b:OB) (kp:Option (Nat×Nat)):b.Ml (b.xj kp):=by
 cases b with
 |Al e te rows out kp0=>exact ⟨λsz n h=>⟨n,h,Nat.le_refl _⟩,λp h=>h,λp h=>h,(λ_ _ h=>by cases h),(λ_ _ h=>by cases h)⟩
 |_=>exact OB.Ml.rfl' _
theorem aR (ls:List Nat): ∀(l m:List AV) (t:Nat),l.length=m.length->(∃k i c,l.getD t .undef= .at (.sub k i c)/\ls.contains k=true/\(Gy ls l m).getD t .undef= .at (.sub k i c))\/(Gy ls l m).getD t .undef=m.getD t .undef
 | [],m,t,_=>by cases m<;>exact .inr rfl
 |_::_,[],t,h=>by simp at h
 |a::l,v::m,t,h=>by
  have ih:= λt=>aR ls l m t (by simpa using h)
  have tail: ∀u,Gy ls (a::l) (v::m)=u::Gy ls l m->(t=0->(∃k i c,(a::l).getD t .undef= .at (.sub k i c)/\ls.contains k=true/\u= .at (.sub k i c))\/u=v)->
    (∃k i c,(a::l).getD t .undef= .at (.sub k i c)/\ls.contains k=true/\(Gy ls (a::l) (v::m)).getD t .undef= .at (.sub k i c))\/(Gy ls (a::l) (v::m)).getD t .undef=(v::m).getD t .undef:=by
   intro u e h0
   rw [e]
   rcases t with _|t
   ·rcases h0 rfl with ⟨k,i,c,h1,h2,h3⟩|h3
    ·exact .inl ⟨k,i,c,h1,h2,by simpa using h3⟩
    ·exact .inr (by simpa using h3)
   ·simpa only [List.getD_cons_succ] using ih t
  cases a with
  | «at»c=>
   cases c with
   |sub k i c=>
    refine tail _ rfl λht=>?_
    subst ht
    by_cases hc:ls.contains k=true
    ·exact .inl ⟨k,i,c,rfl,hc,by rw [if_pos hc]⟩
    ·exact .inr (by rw [if_neg hc])
   |_=>exact tail _ rfl λ_=> .inr rfl
  |_=>exact tail _ rfl λ_=> .inr rfl
theorem oD {H:List (Nat×OB)} {ls:List Nat} {n:Nat} : ∀ {l:List AV} {t k i c:Nat},Xy H ls n l=true->l.getD t .undef= .at (.sub k i c)->ls.contains k=true->i<n/\i<lU H k
 | [],t,k,i,c,_,h,_=>by simp at h
 |a::l,0,k,i,c,ho,h,hc=>by
  simp only [List.getD_cons_zero] at h
  subst h
  simp only [Xy,hc,Bool.not_true,Bool.false_or,Bool.and_eq_true,Nat.blt_eq] at ho
  exact ho.1
 |a::l,t+1,k,i,c,ho,h,hc=>by
  refine oD (l:=l) (t:=t) (c:=c) ?_ (by simpa only [List.getD_cons_succ] using h) hc
  cases a with
  | «at»d=>cases d with
   |sub _ _ _=>simp only [Xy,Bool.and_eq_true] at ho;exact ho.2
   |_=>exact ho
  |_=>exact ho
theorem z9 {bw st:St} {a:Act} (h0:Aj X π bw a w) (h:Aj X π' st a w') {ls:List Nat} {n:Nat} (hk: ∀l∈ls,qn w w' (π l) (π' l) n) (mV: ∀l∈ls,gX bw.heap l=true)
  (ct:Xy st.heap ls n bw.tmps=true):Aj X π' (fK bw st ls n) a w'/\ ∀c v,Ap X w' π' st.heap c v->Ap X w' π' (fK bw st ls n).heap c v:=by
 by_cases ll:ls= []
 ·subst ll;exact ⟨h,λ_ _ h=>h⟩
 have Ss:fK bw st ls n= {tmps:=Gy ls bw.tmps st.tmps,heap:=Xo bw.heap ls n st.heap} :=by
  cases ls with
  |nil=>exact absurd rfl ll
  |cons _ _=>rfl
 rw [Ss]
 have OF: ∀l∈ls,∃e te rows out kp,Ad bw.heap l=some (.Al e te rows out kp):= λl hl=>by
  have:=mV l hl
  unfold gX at this
  split at this
  ·exact ⟨_,_,_,_,_,by assumption⟩
  ·cases this
 have srv: ∀k b,Ad st.heap k=some b-> ∃b',Ad (Xo bw.heap ls n st.heap) k=some b'/\b.Ml b':= λk b hb=>by
  rw [Nz,hb]
  refine ⟨_,rfl,?_⟩
  dsimp only
  split
  ·exact OB.tP b _
  ·exact OB.Ml.rfl' b
 have hac:(∀fr τ cs x,Cells w' (Be X.w0.heap.size X.Sc π' fr) τ cs x->Cells w' (Be X.w0.heap.size X.Sc π' fr) τ cs x)-> ∀c v,Ea X w' π' st.heap c v->Ea X w' π' (Xo bw.heap ls n st.heap) c v:= λhc=>
  iv (f:= λc=>c) (D:= λ_=>False) (Pt:= λ_=>False) (λc=> .inr ⟨rfl,λ_ _ h=>h,λ_ _ _ _ h=>h⟩) (λk _=>ba.rfl' _) (λk b _ hb=>srv k b hb) (λ_ _ _ _ _ _ _ _=>rfl) hc
 have h1:Aj X π' {tmps:=st.tmps.map (·.map λc=>c),heap:=Xo bw.heap ls n st.heap} a w':=by
  refine h.iw rfl (gv:= λ_=>False) (λ_ hf=>hf.elim) (Df.refl _ _ _) (λ_ _ ho=>ho) h.1.sub h.1.place h.1.inj (λl hl Fc=>h.1.cO l hl λh2=>Fc (by rw [Nz,h2];rfl)) hac (λm l b hb=>?_) (λl hl=>?_)
  ·rw [Nz] at hb
   cases h2:Ad st.heap l with
   |none=>rw [h2] at hb;cases hb
   |some b0=>
    rw [h2] at hb
    simp only [Option.map_some,Option.some.injEq] at hb
    have hbk:=(h.1.heap l).blk h2
    have yd:=hbk.move m (Nat.le_refl _) (λr0 c h0 h1=>h.1.sub _ r0 c h0 h1) λ_ _ _ _ _=>rfl
    rw [show OB.map (λc=>c) b0=b0 from OB.wE b0] at yd
    split at hb
    ·rename_i hc
     have hl:l∈ls:=by simpa using hc
     cases b0 with
     |Al e te rows out kp=>
      simp only [OB.xj] at hb
      subst hb
      refine ⟨yd.1,?_⟩
      obtain ⟨e0,te0,SR,Age,kp0,hg⟩:=OF l hl
      have pj:=((h0.1.heap l).blk hg).2
      rw [hg]
      simp only [VG]
      have po:=hk l hl
      cases kp0 with
      |none=>trivial
      |some p=>
       obtain ⟨l0,n0⟩:=p
       simp only [KeptAt,Vj] at pj⊢
       cases sH:X.cO l0 with
       |none=>
        cases hp:π l with
        |none=>
         rw [hp] at po
         cases CH:π' l with
         |none=>trivial
         |some q=>rw [CH] at po;exact po.elim
        |some q=>rw [sH,hp] at pj;exact pj.elim
       |some r0=>
        cases hp:π l with
        |none=>rw [sH,hp] at pj;exact pj.elim
        |some q=>
         rw [sH,hp] at pj
         rw [hp] at po
         cases CH:π' l with
         |none=>rw [CH] at po;exact po.elim
         |some q'=>
          rw [CH] at po
          obtain ⟨k1,k2,k3,k4⟩:=po
          obtain ⟨g1,g2,g3,g4⟩:=pj
          refine ⟨k1.trans g1,k2.trans g2,k3.trans g3,λj hj hc=>?_⟩
          have e1:=g4 j (by omega) hc
          have e2:=k4 j (by omega) (by omega)
          rw [g1,g2] at e2
          rw [<-e1,e2]
     |_=>simp only [OB.xj] at hb;subst hb;exact yd
    ·subst hb;exact yd
  ·rw [Nz] at hl
   cases h2:Ad st.heap l with
   |none=>exact (h.1.heap l).emp h2
   |some b=>rw [h2] at hl;cases hl
 have IW: ∀c v,Ap X w' π' st.heap c v->Ap X w' π' (Xo bw.heap ls n st.heap) c v:= λc v hv=>by
  have m:Move X w' w' π' π' st.heap (Xo bw.heap ls n st.heap) (λc=>c):=⟨hac λ_ _ _ _ h=>h,λ_ _ _ _ h=>h⟩
  have:=m.av hv
  rwa [AC.map_id] at this
 refine ⟨⟨h1.1,⟨?_,h.2.defers,λt=>?_⟩⟩,IW⟩
 ·have: ∀(l m:List AV),(Gy ls l m).length=m.length:=by
   intro l
   induction l with
   |nil=>intro m;cases m<;>rfl
   |cons a l ih=>
    intro m
    cases m with
    |nil=>cases a with
     | «at»c=>cases c<;>rfl
     |_=>rfl
    |cons v m=>cases a with
     | «at»c=>cases c<;>simp only [Gy,List.length_cons,ih m]
     |_=>simp only [Gy,List.length_cons,ih m]
  show a.tmps.size=(Gy ls bw.tmps st.tmps).length
  rw [this];exact h.2.size
 ·show Ap X w' π' _ ((Gy ls bw.tmps st.tmps).getD t .undef) _
  rcases aR ls bw.tmps st.tmps t (by rw [<-h0.2.size,<-h.2.size]) with ⟨k,i,c,g1,g2,g3⟩|g
  ·rw [g3]
   have Mj:k∈ls:=by simpa using g2
   obtain ⟨i1,i2⟩:=oD ct g1 g2
   have hv:=h0.2.tmps t
   rw [show bw.get t=_ from g1] at hv
   obtain ⟨r,b,sz,n',e1,e2,e3,e4,⟨e5,e6⟩,e7⟩:=hv
   obtain ⟨e0,te0,SR,Age,kp0,hg⟩:=OF k Mj
   rw [hg] at e1;cases e1
   simp only [OB.bj,Option.some.injEq,Prod.mk.injEq] at e2
   obtain ⟨rfl,rfl⟩:=e2
   have po:=hk k Mj
   rw [e3] at po
   cases CH:π' k with
   |none=>rw [CH] at po;exact po.elim
   |some q'=>
    rw [CH] at po
    obtain ⟨k1,k2,k3,k4⟩:=po
    have mU:SR.length<=r.cap:=by
     have:=((h0.1.heap k).blk hg).1
     rw [e3] at this
     obtain ⟨_,_,_,_,_,_,h5,_⟩:=this
     exact h5
    unfold lU at i2
    split at i2
    ·rename_i e9 te9 Abf Al8 kp9 hg9
     refine ⟨q',_,1,Abf.length,by rw [Nz,hg9];rfl,?_,CH,i2,⟨e5,e6⟩,?_⟩
     ·dsimp only
      split<;>rfl
     ·have fE:c=0:=by omega
      subst fE
      rw [k1,k2]
      rw [Nat.mul_one,Nat.add_zero] at e7⊢
      rw [k4 i i1 (by omega)];exact e7
    ·omega
  ·rw [g]
   exact IW _ _ (h.2.tmps t)
theorem jJ {ins:List (Bool×CK)} {as:List AC} {pl:List Nat} {st:St} :(ly ins as pl st).tmps=st.tmps:=by
 unfold ly
 split
 ·rfl
 ·split<;>rfl
theorem zU {ins:List (Bool×CK)} {as:List AC} {pl:List Nat} {st:St} {m:Nat} (hm:m∉pl):Ad (ly ins as pl st).heap m=Ad st.heap m:=by
 unfold ly
 split
 ·rfl
 ·rename_i l r
  split
  ·exact Cj _ _ _ _ λe=>hm (e▸List.mem_cons_self)
  ·rfl
theorem FX {ins:List (Bool×CK)} {as:List AC} {l:Nat} {st:St} {tid:TypeId} {vs:List AC} (hl:Ad st.heap l=some (.var tid vs)):Ad (ly ins as [l] st).heap l=some (.var tid (bq ins vs as)):=by
 simp only [ly,St.at,hl]
 exact Cq _ _ _ _ hl
theorem rq {α:Type} (ins:List (Bool×CK)) (as:List α):bq ins [] as= []:=by
 rcases ins with _|⟨⟨_|_,c⟩,r⟩<;>rfl
theorem jE {α:Type} : ∀(ins:List (Bool×CK)) (vs as:List α),(bq ins vs as).length=vs.length
 | [],vs,as=>by rw [bq];all_goals simp
 |p::r,[],as=>by rw [rq]
 |(true,c)::r,v::vs,as=>by simp only [bq,List.length_cons,jE r vs as]
 |(false,c)::r,v::vs,[]=>by rw [bq];all_goals simp
 |(false,c)::r,v::vs,a::as=>by simp only [bq,List.length_cons,jE r vs as]
theorem FN {st:St} {a:Act} (h:Aj X π st a w) {s:MSpec} {gm:List AV} {vs:List Value} (hlen:gm.length=vs.length) (IW: ∀(i:Nat) c v,gm[i]?=some c->vs[i]?=some v->Ap X w π st.heap c v)
  {pl:List Nat} {cells:List AC} {rest:List AV} (he:CS st s gm=some (pl,cells,rest)):
  ∃(g:Nat) (QW rW:List Value),rest.length=rW.length/\(∀(i:Nat) c v,rest[i]?=some c->rW[i]?=some v->Ap X w π st.heap c v)/\Hx X w π st.heap cells QW/\
   ((s.ptr=none/\pl= []/\cells= []/\QW= []/\vs=rW)\/
    ∃p l q,s.ptr=some p/\pl= [l]/\π l=some q/\q.Ay q.g/\g=q.g/\Ad st.heap l=some (.var p.1 cells)/\cells.length=p.2/\vs= .pointer (some ⟨g,0,none⟩)::rW/\w.heap[g]?=some (.cells QW.toArray p.1 (0,0))/\Cw X w π st.heap cells QW):=by
 unfold CS at he
 split at he
 ·rename_i hp
  simp only [Option.some.injEq,Prod.mk.injEq] at he
  obtain ⟨rfl,rfl,rfl⟩:=he
  exact ⟨0,[],vs,hlen,IW,trivial, .inl ⟨hp,rfl,rfl,rfl,rfl⟩⟩
 ·rename_i p hp
  split at he
  ·rename_i l i Ai6
   split at he
   ·rename_i tid cs hl
    split at he
    ·rename_i hc
     obtain ⟨rfl,hc,rfl⟩:=hc
     simp only [Option.some.injEq,Prod.mk.injEq] at he
     obtain ⟨rfl,rfl,rfl⟩:=he
     unfold St.at at hl
     cases vs with
     |nil=>simp at hlen
     |cons v vs=>
      obtain ⟨r,Nv,uM,h1,h2,rfl⟩:=IW 0 _ v rfl rfl
      rw [hl] at h1;cases h1
      obtain ⟨r',h3,h4,cur,h5,h6⟩:=(h.1.heap l).blk hl
      rw [h2] at h3;cases h3
      exact ⟨r.g,cur.toList,vs,by simpa using hlen,λi c v h7 h8=>IW (i+1) c v (by simpa using h7) (by simpa using h8),Hx.of h6, .inr ⟨p,l,r,hp,rfl,h2,h4,rfl,hl,hc,rfl,by simpa using h5,h6⟩⟩
    ·cases he
   ·cases he
  ·cases he
theorem dQ {V:List Nat} {πc:Pi} {dead part:List Nat} (SL: ∀l,l∉dead->π' l=π l) (Tt: ∀l b sz n,l∉dead->Ad H l=some b->b.row=some (sz,n)-> ∃b',Ad H' l=some b'/\b'.row=some (sz,n)):
  ∀(ins:List (Bool×CK)) (k:Nat) (cells iU:List AC) (x:Ins.den ins) (us:List Value) (o:IOs.den ins) (cur st1:St) (news:List AC) (Nh cs:List Value),l6 X w π V H πc k ins x (cells++iU) us->Pc ins cells=true->
   Eh ins o (cells++iU) cur=some st1->Cc πc k ins o cells.length cs Nh->Hx X w' π' H' news Nh->Hx X w' π' H' (bq ins (cells.map (Ax dead part)) news) cs
 |ins,k,[],iU,x,us,o,cur,st1,news,Nh,cs,_,_,_,hb,_=>by
  have hb:cs= []:=by rcases ins with _|⟨⟨_|_,c⟩,r⟩<;>(try cases c)<;>simpa [Cc] using hb
  rw [hb,List.map_nil,rq]
  trivial
 | [],k,a::cells,iU,x,us,o,cur,st1,news,Nh,cs,_,hk,_,_,_=>by simp [Pc] at hk
 |(true, .Ee τ)::r,k,a::cells,iU,x,us,o,cur,st1,news,Nh,cs,_,hk,_,_,_=>by simp [Pc] at hk
 |(true, .part e te)::r,k,a::cells,iU,x,us,o,cur,st1,news,Nh,cs,_,hk,_,_,_=>by simp [Pc] at hk
 |(true, .Al e te _)::r,k,a::cells,iU,x,us,o,cur,st1,news,Nh,cs,_,hk,_,_,_=>by simp [Pc] at hk
 |(true, .row e te)::r,k,a::cells,iU,x,us,o,cur,st1,news,Nh,cs,ht,hk,hp,hb,hn=>by
  cases a<;>simp only [Pc,Bool.false_eq_true] at hk
  rename_i l off len
  cases us with
  |nil=>exact ht.elim
  |cons u0 us=>
  cases cs with
  |nil=>exact hb.elim
  |cons u cs=>
  obtain ⟨⟨_,h1⟩,h2⟩:=ht
  simp only [Ms] at h1
  obtain ⟨h3,rfl,rfl,fr,tr,h4⟩:=h1
  obtain ⟨h5,h6⟩:=hb
  simp only [List.cons_append,Eh] at hp
  split at hp
  rotate_left
  ·cases hp
  rename_i Tn UO
  have DW:List.length o.1=List.length x.1:=by
   simp only [Wc] at UO
   repeat' split at UO
   all_goals first|(cases UO;done)|(rename_i hc;exact hc.2.1)
  refine ⟨?_,dQ SL Tt r (k+1) cells iU x.2 us o.2 Tn st1 news Nh cs h2 hk hp h6 hn⟩
  by_cases hd:l∈dead
  ·have:Ax dead part (.own l 0 (List.length x.1))= .undef:=by
    unfold Ax
    rw [if_pos (by simp [AC.refs,hd])]
   rw [this];trivial
  ·rw [Wl (by simpa [AC.refs] using hd) (by intro l i j e;rcases e with e|e<;>cases e)]
   obtain ⟨b',g1,g2⟩:=Tt l _ e.size (List.length x.1) hd h4 rfl
   refine ⟨b',e.size,List.length x.1,g1,g2,by omega,?_⟩
   rw [SL l hd]
   rw [h3,DW] at h5
   cases hp:π l<;>(rw [hp] at h5;exact h5)
 |(true, .Dq e te)::r,k,a::cells,iU,x,us,o,cur,st1,news,Nh,cs,ht,hk,hp,hb,hn=>by
  cases a<;>simp only [Pc,Bool.false_eq_true] at hk
  rename_i l off len
  cases us with
  |nil=>exact ht.elim
  |cons u0 us=>
  cases cs with
  |nil=>exact hb.elim
  |cons u cs=>
  obtain ⟨⟨_,h1⟩,h2⟩:=ht
  simp only [Ms] at h1
  obtain ⟨h3,rfl,rfl,h4⟩:=h1
  obtain ⟨h5,h6⟩:=hb
  simp only [List.cons_append,Eh] at hp
  split at hp
  rotate_left
  ·cases hp
  rename_i Tn UO
  have DW:List.length o.1=List.length x.1:=by
   simp only [Wc] at UO
   repeat' split at UO
   all_goals first|(cases UO;done)|(rename_i hc;exact hc.2.1)
  refine ⟨?_,dQ SL Tt r (k+1) cells iU x.2 us o.2 Tn st1 news Nh cs h2 hk hp h6 hn⟩
  by_cases hd:l∈dead
  ·have:Ax dead part (.own l 0 (List.length x.1))= .undef:=by
    unfold Ax
    rw [if_pos (by simp [AC.refs,hd])]
   rw [this];trivial
  ·rw [Wl (by simpa [AC.refs] using hd) (by intro l i j e;rcases e with e|e<;>cases e)]
   obtain ⟨b',g1,g2⟩:=Tt l _ e.size (List.length x.1) hd h4 rfl
   refine ⟨b',e.size,List.length x.1,g1,g2,by omega,?_⟩
   rw [SL l hd]
   rw [h3,DW] at h5
   cases hp:π l<;>(rw [hp] at h5;exact h5)
 |(false,c)::r,k,a::cells,iU,x,[],o,cur,st1,news,Nh,cs,ht,hk,hp,hb,hn=>ht.elim
 |(false,c)::r,k,a::cells,iU,x,u0::us,o,cur,st1,news,Nh,[],ht,hk,hp,hb,hn=>by cases c<;>exact hb.elim
 |(false,c)::r,k,a::cells,iU,x,u0::us,o,cur,st1,news,[],u::cs,ht,hk,hp,hb,hn=>by cases c<;>exact hb.elim
 |(false,c)::r,k,a::cells,iU,x,u0::us,o,cur,st1,[],u'::Nh,u::cs,ht,hk,hp,hb,hn=>hn.elim
 |(false,c)::r,k,a::cells,iU,x,u0::us,o,cur,st1,na::news,u'::Nh,u::cs,ht,hk,hp,hb,hn=>by
  have RI:u=u'/\Cc πc (k+1) r o cells.length cs Nh:=by cases c<;>exact hb
  obtain ⟨rfl,TM⟩:=RI
  have hp:Eh r o (cells++iU) cur=some st1:=by cases c<;>simpa only [List.cons_append,Eh] using hp
  have hk:Pc r cells=true:=by cases c<;>simpa only [Pc] using hk
  exact ⟨hn.1,dQ SL Tt r (k+1) cells iU x.2 us o cur st1 news Nh cs ht.2 hk hp TM hn.2⟩
theorem xH {V:List Nat} {πc:Pi} : ∀(cs:List (Bool×CK)) (k0:Nat) (x:Ins.den cs) (as:List AC) (us:List Value),k0+cs.length<100000->l6 X w π V H πc k0 cs x as us-> ∀k l,(Bl false k,Loc.row l)∈Gz k0 cs as->πc (Bl false k)=(π l).map full
 | [],_,_,[],_,_,_,_,_,h=>by cases h
 | [],_,_,_::_,_,_,_,_,_,h=>by cases h
 |_::_,_,_,[],_,_,_,_,_,h=>by cases h
 |_::_,_,_,_::_,[],_,h,_,_,_=>h.elim
 |(io,c)::r,k0,x,a::as,u::us,hk,h,k,l,ht=>by
  simp only [List.length_cons] at hk
  simp only [Gz] at ht
  rcases List.mem_append.1 ht with ht|ht
  ·obtain ⟨⟨_,h1⟩,_⟩:=h
   cases c with
   |Ee τ=>cases a<;>simp [Kk,views] at ht
   |row e te=>
    cases a<;>simp [Kk] at ht
    obtain ⟨e1,rfl⟩:=ht
    simp only [Ms] at h1
    rw [e1];exact h1.1
   |Dq e te=>
    cases a<;>simp [Kk] at ht
    obtain ⟨e1,rfl⟩:=ht
    simp only [Ms] at h1
    rw [e1];exact h1.1
   |part e te=>
    cases a<;>simp [Kk] at ht
    obtain ⟨e1,rfl⟩:=ht
    simp only [Ms] at h1
    rw [e1];exact h1.2.1
   |Al e te kp=>
    cases a<;>simp [Kk] at ht
    obtain ⟨e1,rfl⟩:=ht
    simp only [Ms] at h1
    rw [e1];exact h1.2.1
  ·exact xH r (k0+1) x.2 as us (by omega) h.2 k l ht
theorem l8 {st:St} {a:Act} (h:Aj X π st a w) {f:FuncId} {s:MSpec} (hs:Bh P f s) (dst:Option Nat) (gm:List AV) (vs:List Value) (hlen:gm.length=vs.length)
  (IW: ∀(i:Nat) c v,gm[i]?=some c->vs[i]?=some v->Ap X w π st.heap c v) (av:AV) (st':St) (he:Qk st dst s gm=some (av,st')):
  Calls P f vs.toArray w λe w'=> ∃v,e= .returned v/\ ∃π',Aj X π' st' a w'/\Ap X w' π' st'.heap av v:=by
 unfold Qk at he
 split at he
 ·cases he
 rename_i pl cells rest Afj
 split at he
 ·cases he
 rename_i iU HV
 split at he
 ·cases he
 rename_i x tks htk
 split at he
 rotate_left
 ·cases he
 rename_i Fm
 simp only [Bool.and_eq_true,Nat.blt_eq] at Fm
 obtain ⟨⟨⟨⟨HT,mZ⟩,ZV⟩,Ts⟩,ZL,DZ⟩:=Fm
 have DZ: ∀l∈pl,l∉(tks.map λt=>t.2.Pz)/\l∉Lu s tks (dst.getD 0):= λl hl=>by
  have:=List.all_eq_true.1 DZ l hl
  simp only [Bool.not_eq_true',<-Bool.not_eq_true,List.contains_iff_mem] at this
  exact ⟨λhm=>this (List.mem_append_left _ hm),λhm=>this (List.mem_append_right _ hm)⟩
 split at he
 ·cases he
 rename_i r o JB
 split at he
 ·cases he
 rename_i st1 UR
 obtain ⟨g,QW,rW,ZM,Aea,Afm,XW⟩:=FN h hlen IW Afj
 obtain ⟨qc,rfl,yf,Afl⟩:=So s.Hb rest rW iU ZM Aea HV
 have UT:=Afm.append Afl
 have Ky:iY s w g (QW++qc) vs:=by
  unfold iY
  rcases XW with ⟨h1,_,_,h2,h3⟩|⟨p,l,q,h1,_,_,_,_,_,h2,h3,h4,h5⟩
  ·rw [h1];subst h2;exact ⟨h3,yf⟩
  ·rw [h1]
   have hl:QW.length=p.2:=h5.1.trans h2
   simp only
   rw [List.drop_append_of_le_length (by omega),List.take_append_of_le_length (by omega),List.take_of_length_le (by omega),List.drop_of_length_le (by omega)]
   refine ⟨h3,yf,by simp;omega,h4,λu hu=>?_⟩
   obtain ⟨i,hi,rfl⟩:=List.mem_iff_getElem.1 hu
   obtain ⟨u',h6,h7,_⟩:=h5.2 i (cells[i]'(by have:=h5.1;omega)) (List.getElem?_eq_getElem _)
   rw [List.getElem?_eq_getElem hi] at h6
   rw [Option.some.inj h6];exact h7
 have EA: ∀l∈pl,∃p q,s.ptr=some p/\pl= [l]/\π l=some q/\q.Ay q.g/\g=q.g/\Ad st.heap l=some (.var p.1 cells)/\cells.length=p.2:= λl hl=>by
  rcases XW with ⟨_,h1,_⟩|⟨p,l',q,h1,h2,h3,h4,h5,h6,h7,_⟩
  ·rw [h1] at hl;cases hl
  ·rw [h2] at hl
   have:=List.mem_singleton.1 hl
   subst this
   exact ⟨p,q,h1,h2,h3,h4,h5,h6,h7⟩
 have DV: ∀b,s.gv g b-> ∃l∈pl,∃q,π l=some q/\q.Ay b/\b=q.g:= λb ⟨h1,h2⟩=>by
  rcases XW with ⟨h3,_⟩|⟨p,l',q,_,h4,h5,h6,h7,_⟩
  ·rw [h3] at h1;cases h1
  ·exact ⟨l',by rw [h4];exact List.mem_singleton.2 rfl,q,h5,by rw [h2,h7];exact h6,h2.trans h7⟩
 obtain ⟨as,has⟩: ∃as,as=cells++iU:=⟨_,rfl⟩
 obtain ⟨us,JN⟩: ∃us,us=QW++qc:=⟨_,rfl⟩
 rw [<-has] at UT htk UR
 rw [<-JN] at UT Ky
 let V:=(tks.filter λt=>t.2.reads).map λt=>t.2.Pz
 have hV: ∀t∈tks,t.2.reads=true->t.2.Pz∈V:= λt ht hr=>List.mem_map.2 ⟨t,List.mem_filter.2 ⟨ht,hr⟩,rfl⟩
 have hV': ∀l∈V,∃t∈tks,t.2.reads=true/\t.2.Pz=l:= λl hl=>by
  obtain ⟨t,h1,h2⟩:=List.mem_map.1 hl
  exact ⟨t,(List.mem_filter.1 h1).1,(List.mem_filter.1 h1).2,h2⟩
 clear_value V
 obtain ⟨MW,πc,hT,IY,Aet,Pb⟩:=oK h.1 (V:=V) s.ins 0 as us x tks (by omega) UT htk hV
 have yQ:=Qv HT
 rw [MW] at yQ
 have Sb: ∀b,Na πc b-> ∃t∈Gz 0 s.ins as,t.2.reads=false/\ ∃q,π t.2.Pz=some q/\q.Ay b/\ ∀l i j,t.2= .sub l i j->b≠q.g:= λb ⟨c,q,h1,h2⟩=>by
  obtain ⟨t,t1,_,t3⟩:=Pb c q b h1 h2
  exact ⟨t,t1,t3⟩
 have yT: ∀b,Na πc b->Na π b:= λb hb=>let ⟨t,_,_,q,h1,h2,_⟩:=Sb b hb;⟨_,q,h1,h2⟩
 have dK:Zs πc (λb=>b<w.heap.size):=⟨λl q b h1 h2=>(h.1.own (yT b ⟨l,q,h1,h2⟩)).1,λl l' q q' b h1 h2 h3 h4=>by
  obtain ⟨t,t1,t2,_,p,t3,t4,_⟩:=Pb l q b h1 h3
  obtain ⟨t',QA,XZ,_,p',t3',t4',_⟩:=Pb l' q' b h2 h4
  have:=sT yQ t1 QA (h.1.apart t3 t3' t4 t4')
  rw [<-t2,<-XZ,this]⟩
 have YV: ∀k l,(Bl false k,Loc.row l)∈Gz 0 s.ins as->πc (Bl false k)=(π l).map full:= λk l ht=>
  xH s.ins 0 x as us (by omega) hT k l ht
 have Aaj: ∀b,Na πc b->Jf X π V b:= λb hb=> .inl ⟨yT b hb,λl hl r' hr hf=>by
  obtain ⟨t,t1,t0,q,t3,t4,_⟩:=Sb b hb
  obtain ⟨t',QA,XZ,rfl⟩:=hV' l hl
  rw [MW] at QA
  have:=sT yQ t1 QA (h.1.apart t3 hr t4 hf)
  subst this
  rw [t0] at XZ;cases XZ⟩
 let S:Nat->Prop:= λb=> ¬Na πc b/\Jf X π V b
 have hS: ∀b,S b->b<w.heap.size/\ ¬Na πc b:= λb hb=>⟨by
  rcases hb.2 with h1|h1
  ·exact (h.1.own h1.1).1
  ·exact Nat.lt_of_lt_of_le (h.1.sc b h1).1 h.1.below.size,hb.1⟩
 have OP: ∀l∈pl,∀t∈Gz 0 s.ins as,t.2.Pz≠l:= λl hl t ht e=>(DZ l hl).1 (List.mem_map.2 ⟨t,MW▸ht,e⟩)
 have hSg:s.ptr.isSome=true->S g:= λXV=>by
  obtain ⟨l,hl,q,h1,h2,h3⟩:=DV g ⟨XV,rfl⟩
  have UM: ¬Na πc g:= λhb=>by
   obtain ⟨t,t1,_,q',t3,t4,_⟩:=Sb g hb
   exact OP l hl t t1 (h.1.apart t3 h1 t4 h2)
  refine ⟨UM, .inl ⟨⟨l,q,h1,h2⟩,λl' Gq r' fH hf=>?_⟩⟩
  obtain ⟨t',QA,_,rfl⟩:=hV' l' Gq
  rw [MW] at QA
  exact OP l hl t' QA (h.1.apart fH h1 hf h2)
 refine (hs.calls w S πc us x r o g vs Ky hSg (Zr.Ez (λb hb=>hb.elim (Aaj b) λh=>h.2) s.ins 0 x us (hT.Aas s.ins 0 x as us)) dK hS Aet JB).mono ?_
 rintro e w' ⟨v,Nh,uO,rfl,ah,qF,NZ,sC,ZW,JJ,VE,qK⟩
 obtain ⟨ρ,OW,yS,JI,RL⟩: ∃ρ:Pi,(∀l,ρ l=(uO l).map full)/\Ew w' (bD S πc uO) ρ 0 s.outs r Nh/\Zs ρ (λb=>b<w'.heap.size/\(w.heap.size<=b\/ ∃l q,l<Ai/\πc l=some q/\q.Ay b))/\ ∀l q,ρ l=some q->q.cl=q.Ay:=by
  have un: ∀l q,(uO l).map full=some q-> ∃q0,uO l=some q0/\q=full q0:= λl q hq=>by
   cases hp:uO l with
   |none=>rw [hp] at hq;cases hq
   |some q0=>rw [hp] at hq;exact ⟨q0,rfl,(Option.some.inj hq).symm⟩
  refine ⟨λl=>(uO l).map full,λ_=>rfl,Ew.full s.outs 0 r Nh ZW,⟨λl q b h1 h2=>?_,λl l' q q' b h1 h2 h3 h4=>?_⟩,λl q h1=>?_⟩
  ·obtain ⟨q0,h5,rfl⟩:=un l q h1
   exact JJ.Ue l q0 b h5 h2
  ·obtain ⟨q0,h5,rfl⟩:=un l q h1
   obtain ⟨WG,h6,rfl⟩:=un l' q' h2
   exact JJ.inj l l' q0 WG b h5 h6 h3 h4
  ·obtain ⟨q0,_,rfl⟩:=un l q h1
   rfl
 refine ⟨v,rfl,?_⟩
 split at he
 ·cases he
 rename_i av0 cv
 split at he
 rotate_left
 ·cases he
 rename_i Qq
 simp only [Option.some.injEq,Prod.mk.injEq] at he
 obtain ⟨rfl,rfl⟩:=he
 let D1:Nat->Prop:=if s.flat then λ_=>True else bD S πc uO
 have Aew:Ha w' D1 πc 0 s.ins o:=by
  show Ha w' (if s.flat then λ_=>True else bD S πc uO) πc 0 s.ins o
  split
  ·rename_i hf
   unfold MSpec.flat at hf
   simp only [Bool.and_eq_true] at hf
   exact Ha.any s.ins 0 o hf.2 sC
  ·exact sC
 have ZX:Ew w' D1 ρ 0 s.outs r Nh:=by
  show Ew w' (if s.flat then λ_=>True else bD S πc uO) ρ 0 s.outs r Nh
  split
  ·rename_i hf
   unfold MSpec.flat at hf
   simp only [Bool.and_eq_true] at hf
   exact Ew.any s.outs 0 r Nh hf.1 yS
  ·exact yS
 obtain ⟨q1,q2,q3,q4⟩:=nP (D:=D1) (X:=X) (π:=π) (H:=st.heap) h.1 NZ.size (tks:=Gz 0 s.ins as) (πc:=πc) (λt ht q b hq hb Gt hn=>NZ.block b Gt λyR=>by
   rcases yR with ⟨c,r',h1,h2⟩|hg
   rotate_left
   ·obtain ⟨l,hl,q',h1,h2,_⟩:=DV b hg
    exact OP l hl t ht (h.1.apart hq h1 hb h2)
   obtain ⟨t',t1,t2,_,p,t3,t4,_⟩:=Pb c r' b h1 h2
   have:=sT yQ ht t1 (h.1.apart hq t3 hb t4)
   subst this
   exact hn r' (t2▸h1) h2) s.ins 0 x as us o st st1 (by omega) (λ_ h=>h) yQ hT Aew UR (λ_ _=>rfl)
 have UU: ∀t∈Gz 0 s.ins as,t.2.reads=true->t.1<Ai:=by
  have: ∀(cs:List (Bool×CK)) (k:Nat) (as:List AC),k+cs.length<100000-> ∀t∈Gz k cs as,t.2.reads=true->t.1<Ai:=by
   intro cs
   induction cs with
   |nil=>intro k as _ t ht;cases as<;>cases ht
   |cons p r ih=>
    intro k as hk t ht hr
    simp only [List.length_cons] at hk
    cases as with
    |nil=>cases ht
    |cons a as=>
     simp only [Gz] at ht
     rcases List.mem_append.1 ht with ht|ht
     ·rcases xF ht with ⟨_,h1⟩|⟨h1,_⟩
      ·rw [hr] at h1;cases h1
      ·rw [h1];exact aF (by omega)
     ·exact ih (k+1) as (by omega) t ht hr
  exact this s.ins 0 as (by omega)
 let d:=dst.getD 0
 let ks:=Lu s tks d
 let dead:=gz tks++ks++(if s.flat then [] else uq tks)
 let part:=whole tks
 have Afp:s.outs.length+(fT s d).length=s.Mx:=by unfold MSpec.Mx fT;cases s.rp<;>rfl
 obtain ⟨UF,Af2,RV⟩:ks.length=s.Mx/\ks.Nodup/\ ∀l∈ks,l<Ai:=by
  have:=zc mZ
  rw [Afp] at this
  exact this
 have UM:s.outs.length<=s.Mx:=by unfold MSpec.Mx;omega
 have OT: ∀tid,s.rp=some tid->Bv ks s.outs.length=Mq d/\s.Mx=s.outs.length+1:= λtid Qr=>by
  have h1:s.Mx=s.outs.length+1:=by unfold MSpec.Mx;rw [Qr]
  refine ⟨?_,h1⟩
  have h2:ks=gr s tks d++ [Mq d]:=by show gr s tks d++fT s d=_;unfold fT;rw [Qr]
  have h3:(gr s tks d).length=s.outs.length:=by rw [h2] at UF;simp at UF;omega
  rw [Ld (by rw [UF];omega)]
  simp only [h2]
  rw [List.getElem_append_right (by omega)]
  simp [h3]
 have JH:=vo Af2 RV
 have Af0: ∀j,j<s.Mx->Bv ks j<Ai:= λj hj=>RV _ (mem_keys.2 ⟨j,by omega,rfl⟩)
 let π':Pi:= λl=>match (List.range s.Mx).find? λj=>decide (Bv ks j=l) with
  |some j=>ρ (Fo j)
  |none=>if l∈dead then none else π l
 have pk: ∀j,j<s.Mx->π' (Bv ks j)=ρ (Fo j):= λj hj=>by
  show (match (List.range s.Mx).find? λi=>decide (Bv ks i=Bv ks j) with|some i=>ρ (Fo i)|none=>_)=_
  cases hf:(List.range s.Mx).find? λi=>decide (Bv ks i=Bv ks j) with
  |none=>
   have:=List.find?_eq_none.1 hf j (List.mem_range.2 hj)
   simp at this
  |some i=>
   have:=List.find?_some hf
   rw [JH i j (of_decide_eq_true this)]
 have mY: ∀j,j<s.Mx->Bv ks j∈dead:= λj hj=>List.mem_append_left _ (List.mem_append_right _ (mem_keys.2 ⟨j,by omega,rfl⟩))
 have sD: ∀l,(¬ ∃j,j<s.Mx/\l=Bv ks j)->π' l=if l∈dead then none else π l:= λl hl=>by
  show (match (List.range s.Mx).find? λi=>decide (Bv ks i=l) with|some i=>ρ (Fo i)|none=>_)=_
  cases hf:(List.range s.Mx).find? λi=>decide (Bv ks i=l) with
  |none=>rfl
  |some i=>
   have h1:=List.find?_some hf
   exact absurd ⟨i,List.mem_range.1 (List.mem_of_find?_eq_some hf),(of_decide_eq_true h1).symm⟩ hl
 have JT: ∀l,l∉dead->π' l=π l:= λl hl=>by
  rw [sD l (λ⟨j,h1,h2⟩=>hl (h2▸mY j h1)),if_neg hl]
 have YN: ∀b,Na π' b\/X.Sc b->D1 b:=by
  intro b hb
  show (if s.flat then λ_=>True else bD S πc uO) b
  split
  ·trivial
  rename_i hnf
  rcases hb with ⟨l,q,hl,hf⟩|hb
  ·by_cases hk: ∃j,j<s.Mx/\l=Bv ks j
   ·obtain ⟨j,hj,rfl⟩:=hk
    rw [pk j hj,OW] at hl
    cases hp:uO (Fo j) with
    |none=>rw [hp] at hl;cases hl
    |some q0=>rw [hp] at hl;simp only [Option.map_some,Option.some.injEq] at hl;subst hl;exact .inr (.inr ⟨Fo j,q0,hp,hf⟩)
   ·have e0:π' l=if l∈dead then none else π l:=sD l hk
    rw [e0] at hl
    split at hl
    ·cases hl
    ·rename_i OM
     by_cases ho:Na πc b
     ·obtain ⟨c,q',hc,hcb⟩:=ho
      obtain ⟨t,t1,t2,t0,p,t3,t4,_⟩:=Pb c q' b hc hcb
      have sE:=h.1.apart hl t3 hf t4
      refine .inr (.inl ⟨c,q',Classical.byContradiction λhn=>?_,hc,hcb⟩)
      exact OM (List.mem_append_left _ (List.mem_append_left _ (Yz.2 ⟨t,MW▸t1,⟨by rw [t2];omega,t0⟩,sE.symm⟩)))
     ·refine .inl ⟨ho, .inl ⟨⟨l,q,hl,hf⟩,λl0 UH r0 US hf0=>?_⟩⟩
      have:=h.1.apart hl US hf hf0
      subst this
      exact OM (List.mem_append_right _ (by rw [if_neg hnf];exact nz.2 (hV' l UH)))
  ·refine .inl ⟨λho=>?_, .inr hb⟩
   have h1:=h.1.sc b hb
   rcases (h.1.own (yT b ho)).2 with h2|h2
   ·omega
   ·exact h1.2 h2
 have hpd: ∀l∈pl,l∉dead:= λl hl hd=>by
  rcases List.mem_append.1 hd with hd|hd
  ·rcases List.mem_append.1 hd with hd|hd
   ·obtain ⟨t,ht,_,e⟩:=Yz.1 hd
    exact (DZ l hl).1 (List.mem_map.2 ⟨t,ht,e⟩)
   ·exact (DZ l hl).2 hd
  ·split at hd
   ·cases hd
   ·obtain ⟨t,ht,_,e⟩:=nz.1 hd
    exact (DZ l hl).1 (List.mem_map.2 ⟨t,ht,e⟩)
 have UE: ∀j,j<s.Mx->Bv ks j∉pl:= λj hj hp=>hpd _ hp (mY j hj)
 let bv:Option OB:=s.rp.map λtid=> .var tid ((Vp (Bv ks) 0 s.outs r).drop s.Si)
 let H1:=(ly s.ins (Vp (Bv ks) 0 s.outs r) pl (st1.Wk dead part)).heap
 have XI: ∀l,l∉pl->Ad H1 l=if l∈dead then none else (Ad st1.heap l).map (OB.map (Ax dead part)):= λl hl=>by
  show Ad (ly _ _ _ _).heap l=_
  rw [zU hl]
  show Ad (Qh (st1.heap.map λp=>(p.1,p.2.map (Ax dead part))) dead) l=_
  rw [Ih,Jj]
 let H2:=wa H1 (Mq d) bv
 have hvd: ∀tid,s.rp=some tid->Mq d∈dead/\Mq d∉pl:= λtid Qr=>by
  obtain ⟨e1,e2⟩:=OT tid Qr
  rw [<-e1]
  exact ⟨mY _ (by omega),UE _ (by omega)⟩
 have YR: ∀l,(∀tid,s.rp=some tid->l≠Mq d)->Ad H2 l=Ad H1 l:= λl hl=>by
  show Ad (wa H1 (Mq d) (s.rp.map _)) l=_
  cases ye:s.rp with
  |none=>rfl
  |some tid=>exact Jq _ _ _ _ (hl tid ye)
 have Adw: ∀tid,s.rp=some tid->Ad H2 (Mq d)=some (.var tid ((Vp (Bv ks) 0 s.outs r).drop s.Si)):= λtid Qr=>by
  show Ad (wa H1 (Mq d) (s.rp.map _)) (Mq d)=_
  rw [Qr]
  exact Km _ _ _ (by rw [XI _ (hvd tid Qr).2,if_pos (hvd tid Qr).1])
 have hkv: ∀j,j<s.outs.length-> ∀tid,s.rp=some tid->Bv ks j≠Mq d:= λj hj tid Qr e=>by
  have:=JH j s.outs.length (e.trans (OT tid Qr).1.symm)
  omega
 have hH2: ∀l,l∉pl->(∀tid,s.rp=some tid->l≠Mq d)->Ad H2 l=if l∈dead then none else (Ad st1.heap l).map (OB.map (Ax dead part)):= λl hl hv=>by
  rw [YR l hv,XI l hl]
 let H':=Qw (BT st (gz tks)) (Bv ks) 0 s.outs r H2
 obtain ⟨n1,n2,n3⟩:=kM (D:=D1) (X:=X) (key:=Bv ks) JH (fr:=BT st (gz tks)) (ρ:=ρ) s.outs 0 r Nh H2 ZX (λj _ hj=>by
  rw [hH2 _ (UE j (by omega)) (hkv j (by omega)),if_pos (mY j (by omega))])
 have ji: ∀l,l∉dead->l∉pl->Ad H' l=(Ad st1.heap l).map (OB.map (Ax dead part)):= λl hl pq=>by
  show Ad (Qw _ _ _ _ _ _) l=_
  rw [n1 l λj _ hj e=>hl (e▸mY j (by omega)),hH2 l pq (λtid Qr e=>hl (e▸(hvd tid Qr).1)),if_neg hl]
 have NW: ∀l,l∈dead->(∀j,j<s.Mx->l≠Bv ks j)->Ad H' l=none:= λl hl hj=>by
  show Ad (Qw _ _ _ _ _ _) l=_
  rw [n1 l λj _ h2=>hj j (by omega),hH2 l (λhp=>hpd l hp hl) (λtid Qr e=>hj s.outs.length (by have:=(OT tid Qr).2;omega) (e.trans (OT tid Qr).1.symm)),if_pos hl]
 have newAt: ∀l b',Ad H' l=some b'->(l∈dead\/Ad st.heap l=none)-> ∃j,j<s.Mx/\l=Bv ks j:=by
  intro l b' hb hd
  refine Classical.byContradiction λhn=>?_
  have lX: ∀j,j<s.Mx->l≠Bv ks j:= λj hj e=>hn ⟨j,hj,e⟩
  rcases Classical.em (l∈dead) with ZB|ZB
  ·rw [NW l ZB lX] at hb;cases hb
  ·rcases hd with hd|hd
   ·exact ZB hd
   ·rw [ji l ZB (λhp=>by obtain ⟨_,_,_,_,_,_,_,h1,_⟩:=EA l hp;rw [hd] at h1;cases h1)] at hb
    have:Ad st1.heap l=none:=by
     by_cases hi: ∃t∈Gz 0 s.ins as,t.2.Pz=l
     ·obtain ⟨t,ht,e⟩:=hi
      by_cases Gt:t.1<Ai
      ·rw [<-e,q3 t ht Gt,e];exact hd
      ·obtain ⟨b0,_,h1,_⟩:=q4 t ht Gt
       rw [e,hd] at h1;cases h1
     ·rw [q2 l λt ht e=>hi ⟨t,ht,e.symm⟩];exact hd
    rw [this] at hb;cases hb
 have TX: ∀k,BT st (gz tks)=true-> ∀q,ρ (Fo k)=some q->q.Ay q.g->X.w0.heap.size<=q.g:=by
  intro k vW q hq hg
  rcases (JI.Ue _ q _ hq hg).2 with h1|⟨c,p,h1,h2,h3⟩
  ·exact Nat.le_trans h.1.below.size h1
  ·obtain ⟨t,t1,t2,t0,p',t3,t4,_⟩:=Pb c p _ h2 h3
   have hm:t.2.Pz∈gz tks:=Yz.2 ⟨t,MW▸t1,⟨by rw [t2];exact h1,t0⟩,rfl⟩
   have:=List.all_eq_true.1 vW _ hm
   split at this
   ·rename_i fr tr e te xs hl
    unfold St.at at hl
    have hb:=(h.1.heap t.2.Pz).blk hl
    simp only [Av,Fu,t3] at hb
    rw [hb.1.2.1 _ t4]
    exact hb.1.2.2 this
   ·cases this
 have TV: ∀k q,ρ (Fo k)=some q->k<s.outs.length->q.Ay q.g:=by
  intro k q hq hk
  exact Ew.QX s.outs 0 r Nh yS k (Nat.zero_le _) ((Nat.zero_add _).symm▸hk) q hq
 have hinv: ∀l,l∉dead->(∃t∈Gz 0 s.ins as,t.2.reads=false/\t.2.Pz=l)->gh X D1 w' π st.heap st1.heap l:=by
  rintro l hd ⟨t,ht,h0,rfl⟩
  by_cases Gt:t.1<Ai
  ·exact absurd (List.mem_append_left _ (List.mem_append_left _ (Yz.2 ⟨t,MW▸ht,⟨Gt,h0⟩,rfl⟩))) hd
  ·exact q4 t ht Gt
 have sG: ∀l,(¬ ∃t∈Gz 0 s.ins as,t.2.reads=false/\t.2.Pz=l)->Ad st1.heap l=Ad st.heap l:= λl hn=>by
  by_cases hi: ∃t∈Gz 0 s.ins as,t.2.Pz=l
  ·obtain ⟨t,ht,rfl⟩:=hi
   have hr:t.2.reads=true:=by
    cases h0:t.2.reads with
    |true=>rfl
    |false=>exact absurd ⟨t,ht,h0,rfl⟩ hn
   exact q3 t ht (UU t ht hr)
  ·exact q2 l λt ht e=>hi ⟨t,ht,e.symm⟩
 have RF: ∀l∈pl,∀p,s.ptr=some p->Ad H' l=some (.var p.1 (bq s.ins (cells.map (Ax dead part)) (Vp (Bv ks) 0 s.outs r))):= λl hl p hp=>by
  obtain ⟨p',q,h1,h2,_,_,_,h3,_⟩:=EA l hl
  rw [hp] at h1;cases h1
  show Ad (Qw _ _ _ _ _ _) l=_
  rw [n1 l λj _ hj e=>UE j (by omega) (e▸hl),YR l (λtid Qr e=>(hvd tid Qr).2 (e▸hl))]
  show Ad (ly _ _ _ _).heap l=_
  rw [h2]
  refine FX ?_
  show Ad (Qh (st1.heap.map λp=>(p.1,p.2.map (Ax dead part))) dead) l=_
  rw [Ih,Jj,if_neg (hpd l hl),sG l (λ⟨t,ht,_,e⟩=>OP l hl t ht e),h3]
  rfl
 have RX: ∀j,j<s.Mx->s.outs.length<=j-> ∃tid,s.rp=some tid/\j=s.outs.length:= λj h1 h2=>by
  cases ye:s.rp with
  |none=>unfold MSpec.Mx at h1;rw [ye] at h1;simp at h1;omega
  |some tid=>exact ⟨tid,rfl,by have:=(OT tid ye).2;omega⟩
 have hHv: ∀tid,s.rp=some tid->Ad H' (Mq d)=some (.var tid ((Vp (Bv ks) 0 s.outs r).drop s.Si)):= λtid Qr=>by
  show Ad (Qw _ _ _ _ _ _) _=_
  rw [n1 _ λj _ hj e=>hkv j (by omega) tid Qr e.symm,Adw tid Qr]
 suffices ZP:Aj X π' (fh st st1 d s pl tks r) a w'/\Ap X w' π' (fh st st1 d s pl tks r).heap av0 v by
  obtain ⟨m1,m2⟩:=ZP
  have ll: ∀(kj:List (Nat×Nat)) (l:Nat),l∈Vi st.heap ks tks kj->gX st.heap l=true/\ ∃k j t,(k,j)∈kj/\t∈tks/\t=(Bl false k,Loc.row l)/\ks[j]?=some l:=by
   intro kj
   induction kj with
   |nil=>intro l hl;cases hl
   |cons p kj ih=>
    intro l hl
    obtain ⟨k,j⟩:=p
    have up:l∈Vi st.heap ks tks kj->gX st.heap l=true/\ ∃k' j' t,(k',j')∈(k,j)::kj/\t∈tks/\t=(Bl false k',Loc.row l)/\ks[j']?=some l:= λhl=>by
     obtain ⟨h1,k',j',t,h2,h3⟩:=ih l hl
     exact ⟨h1,k',j',t,List.mem_cons_of_mem _ h2,h3⟩
    simp only [Vi] at hl
    split at hl
    ·rename_i x0 l1 l2 h1 h2
     split at hl
     ·rename_i hc
      simp only [Bool.and_eq_true] at hc
      rcases List.mem_cons.1 hl with rfl|hl
      ·have:=List.find?_some h1
       have e1:=Nat.eq_of_beq_eq_true this
       have e2:=Nat.eq_of_beq_eq_true hc.1
       dsimp only at e1
       exact ⟨hc.2,k,j,_,List.mem_cons_self,List.mem_of_find?_eq_some h1,by rw [e1],by rw [h2,e2]⟩
      ·exact up hl
     ·exact up hl
    ·exact up hl
  obtain ⟨r1,r2⟩:=z9 h m1 (ls:=Vi st.heap ks tks s.keeps) (n:=s.Cr x) (λl hl=>by
   obtain ⟨_,k,j,t,h1,h2,h3,h4⟩:=ll s.keeps l hl
   have hj:j<ks.length:=(List.getElem?_eq_some_iff.1 h4).1
   have HR:Bv ks j=l:=by
    rw [Ld hj]
    rw [List.getElem?_eq_getElem hj] at h4
    exact Option.some.inj h4
   have po:=qK (k,j) h1
   rw [show π' l=ρ (Fo j) by rw [<-HR];exact pk j (by omega),OW]
   have hc:πc (Bl false k)=(π l).map full:=YV k l (by rw [<-h3,<-MW];exact h2)
   dsimp only at po
   rw [hc] at po
   cases hp:π l<;>cases hq:uO (Fo j)<;>(rw [hp,hq] at po;exact po)) (λl hl=>(ll s.keeps l hl).1) Qq
  exact ⟨π',r1,r2 av0 v m2⟩
 refine ⟨?_,?_⟩
 ·have hx:=Aj.TH (π':=π') (H':=H') (dead:=dead) (part:=part) (inv:= λl=>(∃t∈Gz 0 s.ins as,t.2.reads=false/\t.2.Pz=l)\/l∈pl) (gv:= λb=>Na πc b\/s.gv g b) h (λb hb=>by
    rcases hb with hb|hb
    ·obtain ⟨t,h1,h0,q,h2,h3,_⟩:=Sb b hb
     exact ⟨_,q, .inl ⟨t,h1,h0,rfl⟩,h2,h3⟩
    ·obtain ⟨l,hl,q,h1,h2,_⟩:=DV b hb
     exact ⟨l,q, .inr hl,h1,h2⟩) NZ (λl b0 hd h0=>⟨JT l hd,?_⟩) (λl b' hb hd=>?_) (λl hl=>?_) (λm q hd hp hm hxa=>?_)
  ·have:({tmps:=(ly s.ins (Vp (Bv ks) 0 s.outs r) pl (st1.Wk dead part)).tmps,heap:=H'} :St)= {tmps:=st.tmps.map (·.map (Ax dead part)),heap:=H'} :=by
    rw [jJ]
    show ({tmps:=st1.tmps.map (·.map (Ax dead part)),heap:=H'} :St)=_
    rw [q1]
   show Aj X π' ({tmps:=(ly s.ins (Vp (Bv ks) 0 s.outs r) pl (st1.Wk dead part)).tmps,heap:=H'} :St) a w'
   rw [this]
   exact hx
  ·by_cases OI:l∈pl
   ·obtain ⟨p,q,h1,h2,h3,h4,h5,h6,h7⟩:=EA l OI
    rw [h0] at h6;cases h6
    have cr:=RF l OI p h1
    refine .inr ⟨_,cr,⟨rfl,by rw [jE]⟩,λm=>?_⟩
    unfold bL at qF
    rw [h1] at qF
    obtain ⟨cs,k1,k2,k3⟩:=qF
    rw [<-h7] at k3
    refine ⟨q,h3,h4,cs.toArray,by rw [<-h5];exact k1,?_⟩
    refine Hx.to (dQ (H:=st.heap) JT (λl1 b1 sz n hd1 sB OR=>?_) s.ins 0 cells iU x us o st st1 (Vp (Bv ks) 0 s.outs r) Nh cs (has▸hT) ZL (has▸UR) k3 (n3 π' YN (λj _ hj=>pk j (by omega)))) (by simpa using k2)
    have hnp:l1∉pl:= λhp=>by
     obtain ⟨_,_,_,_,_,_,_,h8,_⟩:=EA l1 hp
     rw [sB] at h8;cases h8;cases OR
    by_cases hi: ∃t∈Gz 0 s.ins as,t.2.reads=false/\t.2.Pz=l1
    ·obtain ⟨b1,b',e1,e2,e3,e4,e5,e6⟩:=hinv l1 hd1 hi
     rw [sB] at e1;cases e1
     exact ⟨b',by rw [ji l1 hd1 hnp,e2];simp [e4],by rw [e5.row];exact OR⟩
    ·exact ⟨_,by rw [ji l1 hd1 hnp,sG l1 hi,sB];rfl,by rw [OB.tK];exact OR⟩
   by_cases hi: ∃t∈Gz 0 s.ins as,t.2.reads=false/\t.2.Pz=l
   ·obtain ⟨b1,b',e1,e2,e3,e4,e5,e6⟩:=hinv l hd hi
    rw [h0] at e1;cases e1
    exact .inr ⟨b',by rw [ji l hd OI,e2];simp [e4],by rw [e3];exact e5,λ_=>e6 π' H' YN⟩
   ·exact .inl ⟨λhh=>hh.elim hi OI,by rw [ji l hd OI,sG l hi,h0];rfl⟩
  ·obtain ⟨j,hj,rfl⟩:=newAt l b' hb hd
   refine ⟨Af0 j hj,?_,λq b hq=>?_⟩
   ·rw [pk j hj]
    rcases Nat.lt_or_ge j s.outs.length with XN|XN
    ·rcases n2 j (Nat.zero_le _) (by omega) with ⟨e1,_⟩|⟨b2,e1,e2⟩
     ·rw [show Ad H' (Bv ks j)=none from e1] at hb;cases hb
     ·rw [show Ad H' (Bv ks j)=some b2 from e1] at hb;cases hb
      exact e2 X π' H' (λhf q hq=>TX j hf q hq (TV j q hq XN)) YN
    ·obtain ⟨tid,Qr,hj0⟩:=RX j hj XN
     subst hj0
     rw [(OT tid Qr).1,hHv tid Qr] at hb;cases hb
     unfold jX at ah
     rw [Qr] at ah
     obtain ⟨q,y1,y2,y3,y4,_⟩:=ah
     rw [OW,y1]
     exact ⟨full q,rfl,y2,_,y3,Hx.to (Hx.take s.Si (n3 π' YN (λj _ hj=>pk j (by omega)))).2 (by simpa using y4)⟩
   ·rw [pk j hj] at hq
    have Ly:=RL _ q hq
    refine ⟨λhf=>by rw [Ly];exact hf,λhf=>?_⟩
    rw [Ly] at hf
    obtain ⟨h1,h2⟩:=JI.Ue _ q b hq hf
    refine ⟨h1,h2.imp id ?_,λl2 r2 ZC DX TS=>?_⟩
    ·rintro ⟨c,p,h3,h4,h5⟩
     obtain ⟨t,t1,t2,t0,p',t3,t4,_⟩:=Pb c p b h4 h5
     exact ⟨t.2.Pz,p',List.mem_append_left _ (List.mem_append_left _ (Yz.2 ⟨t,MW▸t1,⟨by rw [t2];exact h3,t0⟩,rfl⟩)),t3,t4⟩
    ·by_cases hk: ∃j,j<s.Mx/\l2=Bv ks j
     ·obtain ⟨j2,hj2,rfl⟩:=hk
      rw [pk j2 hj2] at DX
      rw [RL _ r2 DX] at TS
      have:=JI.inj _ _ r2 q b DX hq TS hf
      unfold Fo at this
      have:j2=j:=by omega
      rw [this]
     ·have e0:π' l2=if l2∈dead then none else π l2:=sD l2 hk
      rw [e0] at DX
      split at DX
      ·cases DX
      ·rename_i OM
       rcases ZC with ZC|ZC
       ·exact absurd ZC OM
       ·rw [(h.1.heap l2).emp ZC] at DX;cases DX
  ·by_cases hk: ∃j,j<s.Mx/\l=Bv ks j
   ·obtain ⟨j,hj,rfl⟩:=hk
    rw [pk j hj]
    rcases Nat.lt_or_ge j s.outs.length with XN|XN
    ·rcases n2 j (Nat.zero_le _) (by omega) with ⟨_,e1⟩|⟨b2,e1,_⟩
     ·exact e1
     ·rw [show Ad H' (Bv ks j)=some b2 from e1] at hl;cases hl
    ·obtain ⟨tid,Qr,hj0⟩:=RX j hj XN
     subst hj0
     rw [(OT tid Qr).1,hHv tid Qr] at hl;cases hl
   ·have e0:π' l=if l∈dead then none else π l:=sD l hk
    rw [e0]
    split
    ·rfl
    ·rename_i hd
     by_cases OI:l∈pl
     ·obtain ⟨p,_,h1,_⟩:=EA l OI
      rw [RF l OI p h1] at hl;cases hl
     rw [ji l hd OI] at hl
     by_cases hi: ∃t∈Gz 0 s.ins as,t.2.reads=false/\t.2.Pz=l
     ·obtain ⟨_,b',_,e2,_⟩:=hinv l hd hi
      rw [e2] at hl;cases hl
     ·rw [sG l hi] at hl
      cases h0:Ad st.heap l with
      |none=>exact (h.1.heap l).emp h0
      |some b=>rw [h0] at hl;cases hl
  ·refine NZ.block _ (h.1.lt hm).1 λyR=>?_
   rcases yR with ho|hg
   rotate_left
   ·obtain ⟨l,hl,q',h1,h2,_⟩:=DV _ hg
    have sE:=h.1.apart hm h1 (h.1.Ay hm) h2
    obtain ⟨_,_,_,_,_,_,_,h3,_⟩:=EA l hl
    obtain ⟨b,hxa,hxb⟩:=hxa
    rw [sE,h3] at hxa;cases hxa
    exact hxb rfl
   obtain ⟨t,t1,t0,p,t3,t4,t5⟩:=Sb _ ho
   have sE:=h.1.apart hm t3 (h.1.Ay hm) t4
   have XU:p=q:=by rw [<-sE,hm] at t3;exact (Option.some.inj t3).symm
   cases SH:t.2 with
   |row l=>
    refine hp ?_
    show m∈whole tks
    unfold whole
    exact List.mem_flatMap.2 ⟨t,MW▸t1,by rw [SH,sE,SH];simp [Loc.Pz]⟩
   |sub l i j=>exact t5 l i j SH (by rw [XU])
   |view l=>rw [SH] at t0;cases t0
 ·have Afo:=n3 π' YN (λj _ hj=>pk j (by omega))
  cases ye:s.rp with
  |some tid=>
   unfold jX at ah
   rw [ye] at ah
   obtain ⟨q,y1,y2,y3,y4,rfl⟩:=ah
   unfold PT at cv
   rw [ye] at cv
   simp only [Option.some.injEq] at cv;subst cv
   refine ⟨full q,tid,_,hHv tid ye,?_,rfl⟩
   rw [<-(OT tid ye).1,pk _ (by have:=(OT tid ye).2;omega),OW,y1]
   rfl
  |none=>
  unfold jX at ah
  rw [ye] at ah
  obtain ⟨ah,Afv⟩:=ah
  unfold PT at cv
  rw [ye] at cv
  simp only at cv
  obtain ⟨g1,g2,g3,g4⟩:=Yq s.Gf _ (Nh.drop s.Si) Afv (Hx.take s.Si Afo).2
  unfold Abe at cv
  unfold LM at ah
  split at cv
  ·rename_i hm
   rw [if_pos hm] at ah
   simp only [Option.some.injEq] at cv;subst cv
   subst ah
   exact ⟨_,rfl,g3.symm,g4⟩
  ·rename_i hm
   rw [if_neg hm] at ah
   split at cv
   ·rename_i av1 hga
    simp only [Option.some.injEq] at cv;subst cv
    rcases ah with ah|ah
    ·exact g2 0 _ v (by rw [hga];rfl) (by rw [ah];rfl)
    ·rw [hga,ah] at g1;cases g1
   ·simp only [Option.some.injEq] at cv;subst cv;trivial
   ·cases cv
end
end Go.Proofs.YtjbdmibbbpdnnaaGreat
