/-
  Part 17 of the proof that the statement FnExactSolveTwoPhase holds.
-/
import Derived.Test.YtjbdmibbbpdnnaaCSolveTwoPhase15
namespace Go.Proofs.Ytjbdmibbbpdnnaa
open Go.RowKit
section
variable {P:Program} {T:Tab} {X:Ctx} {w w':World} {π π':Pi} {H H':List (Nat×OB)}
theorem Vf (k:Nat): ¬Cb true k<Am:=by unfold Cb Am;simp
theorem bh {k:Nat} (h:k<100000):Cb false k<Am:=by unfold Cb Am;simp;omega
def ik (X:Ctx) (D:Nat->Prop) (w':World) (π:Pi) (H Hn:List (Nat×OB)) (l:Nat):Prop:=
 ∃b0 b',Ag H l=some b0/\Ag Hn l=some b'/\(∀f,OB.map f b0=b0)/\(∀f,OB.map f b'=b')/\b0.aS b'/\ ∀π' H',(∀b,Pq π' b\/X.Sc b->D b)->Ay X w' π' H' (π l) b'
theorem PH {io:Bool} {k:Nat} {τ:Ty} {a:AC} {t:Nat×Loc} (h:t∈La io k (.Dy τ) a):t.1=Cb false k:=by
 cases a<;>simp [La,views] at h<;>first|(obtain ⟨_,⟨_,_⟩,rfl⟩:=h;rfl)|(rw [h])
theorem JC {io:Bool} {k:Nat} {e:Ty} {te:TypeId} {a:AC} {t:Nat×Loc} (h:t∈La io k (.part e te) a):t.1=Cb io k:=by cases a<;>simp [La] at h<;>rw [h]
theorem PI {io:Bool} {k:Nat} {e:Ty} {te:TypeId} {a:AC} {t:Nat×Loc} (h:t∈La io k (.row e te) a):t.1=Cb io k:=by cases a<;>simp [La] at h<;>rw [h]
theorem JD {io:Bool} {k:Nat} {e:Ty} {te:TypeId} {a:AC} {t:Nat×Loc} (h:t∈La io k (.Dx e te) a):t.1=Cb io k:=by cases a<;>simp [La] at h<;>rw [h]
theorem aF {D:Nat->Prop} {π':Pi} {fr:Bool} {e:Ty} {es:List Value} {y:e.den} (hD: ∀b,Pq π' b\/X.Sc b->D b) (h:Cells w' D e es y):Cells w' (Bi X.w0.heap.size X.Sc π' (fr&&e.flat)) e es y:=by
 cases hf:e.flat with
 |true=>exact Cells.flat e es y hf h
 |false=>exact Cells.Cz (Nat.le_refl _) (λ_ _ _=>rfl) (λb _ hb=>by
   rcases hb with hb|hb|⟨hb,_⟩
   ·exact hD b (.inl hb)
   ·exact hD b (.inr hb)
   ·simp at hb) e es y h
theorem JE {D P:Nat->Prop} {g o:Nat} {cur:Array Value} {tr:Bool} {e:Ty} {xs:List e.den}
  (h: ∀(i:Nat) (x:e.den),xs[i]?=some x-> ∃es:List Value,es.length=e.size/\(∀j u,es[j]?=some u->cur[(o+i)*e.size+j]?=some u)/\Cells w' D e es x) (ht:(tr&&e.flat)=true):Rc w' P g o cur e xs:=by
 simp only [Bool.and_eq_true] at ht
 exact iM ht.2 h
theorem ID {D:Nat->Prop} (h:Il X w π H) {k:Nat} {c:CK} {ys:c.den} {a:AC} {u:Value} {r:Option Real} {x:c.den} {cur st1:St} (hs:w.heap.size<=w'.heap.size)
  (hU: ∀l i j q b,a= .sub l i j->π l=some q->q.Bc b->b<w.heap.size->(∀r',r=some r'-> ¬r'.Bc b)->w'.heap[b]?=w.heap[b]?)
  {V:List Nat} (ht:ar w (Jy X π V) r u c x/\Nt w π H true a u r c x) (hr:bF w' D r c ys) (he:Xa cur c ys a=some st1) (cc: ∀t∈La true k c a,Ag cur.heap t.2.Qx=Ag H t.2.Qx):
  st1.tmps=cur.tmps/\(∀m,(∀t∈La true k c a,m≠t.2.Qx)->Ag st1.heap m=Ag cur.heap m)/\ ∀t∈La true k c a,ik X D w' π H st1.heap t.2.Qx:=by
 obtain ⟨hc,ht⟩:=ht
 cases c with
 |Dy τ=>cases a<;>simp [Xa] at he;subst he;exact ⟨rfl,λ_ _=>rfl,λt ht=>by simp [La] at ht⟩
 |row e te=>
  simp only [Nt] at ht
  cases a<;>simp only [] at ht<;>first|(exact ht.elim)|skip
  ·simp only [Xa,Option.some.injEq] at he;subst he
   exact ⟨rfl,λ_ _=>rfl,λt ht=>by simp [La] at ht⟩
  ·rename_i l off len
   obtain ⟨rfl,rfl,rfl,fr,tr,hl⟩:=ht
   have Ob:Ag cur.heap l=some (.arr fr tr e te x):=(cc _ (List.mem_singleton.2 rfl)).trans hl
   simp only [Xa,St.at,Ob] at he
   split at he
   ·rename_i Fv
    obtain ⟨_,h1,_⟩:=Fv
    simp only [Option.some.injEq] at he;subst he
    refine ⟨rfl,λm hm=>Cr _ _ _ _ (hm _ (List.mem_singleton.2 rfl)),λt Ps=>?_⟩
    have Ps:=List.mem_singleton.1 Ps
    subst Ps
    refine ⟨_,_,hl,Cw _ _ _ _ Ob,λ_=>rfl,λ_=>rfl,⟨rfl,h1.symm⟩,λπ' H' hD=>?_⟩
    have hb:=(h.heap l).Na hl
    change Ay X w' π' H' (π l) _
    simp only [Ay,Fz] at hb⊢
    cases hp:π l with
    |none=>rw [hp] at hr;exact hr
    |some q=>
     rw [hp] at hr hb
     obtain ⟨k1,cu,ti,k2,k3,k4,k5,k6⟩:=hr
     exact ⟨⟨k1.1,k1.2,λhh=>hb.1.2.2 (by simp only [Bool.and_eq_true] at hh;exact hh.1)⟩,cu,ti,k2,k3,k4,k5,λi y hy=>by
      obtain ⟨es,g1,g2,g3⟩:=k6 i y hy
      exact ⟨es,g1,g2,aF hD g3⟩,λht=>JE k6 ht⟩
   ·cases he
  ·rename_i l i j
   obtain ⟨⟨_,hf⟩,tid,xs,hl,hx,q,hq,Qc,hre⟩:=ht
   have Ob:Ag cur.heap l=some (.Dl (.slice e) tid xs):=(cc _ (List.mem_singleton.2 rfl)).trans hl
   simp only [Xa,St.at,Ob,hx] at he
   rw [dif_pos trivial] at he
   ·split at he
    ·rename_i h1
     simp only [Option.some.injEq] at he;subst he
     refine ⟨rfl,λm hm=>Cr _ _ _ _ (hm _ (List.mem_singleton.2 rfl)),λt Ps=>?_⟩
     have Ps:=List.mem_singleton.1 Ps
     subst Ps
     refine ⟨_,_,hl,Cw _ _ _ _ Ob,λ_=>rfl,λ_=>rfl,⟨rfl,by simp⟩,λπ' H' _=>?_⟩
     show Jj w' (π l) (.slice e) tid _
     rw [hq]
     refine hre w' ys hs (λb Hm hb hn=>hU l i j q b rfl hq hb Hm hn) ?_
     have hv:=hc.1
     rw [<-show List.length ys=List.length x from h1] at hv
     exact Nd.CN hr hf hv
    ·cases he
 |Dx e te=>
  simp only [Nt] at ht
  cases a<;>simp only [] at ht<;>first|(exact ht.elim)|skip
  ·simp only [Xa,Option.some.injEq] at he;subst he
   exact ⟨rfl,λ_ _=>rfl,λt ht=>by simp [La] at ht⟩
  ·rename_i l off len
   obtain ⟨rfl,rfl,rfl,hl⟩:=ht
   have Ob:Ag cur.heap l=some (.Dl e te x):=(cc _ (List.mem_singleton.2 rfl)).trans hl
   simp only [Xa,St.at,Ob] at he
   split at he
   ·rename_i Fv
    obtain ⟨_,h1,_⟩:=Fv
    simp only [Option.some.injEq] at he;subst he
    refine ⟨rfl,λm hm=>Cr _ _ _ _ (hm _ (List.mem_singleton.2 rfl)),λt Ps=>?_⟩
    have Ps:=List.mem_singleton.1 Ps
    subst Ps
    refine ⟨_,_,hl,Cw _ _ _ _ Ob,λ_=>rfl,λ_=>rfl,⟨rfl,h1.symm⟩,λπ' H' _=>?_⟩
    show Jj w' (π l) e te _
    cases hp:π l with
    |none=>rw [hp] at hr;exact hr
    |some q=>rw [hp] at hr;exact hr
   ·cases he
  ·rename_i l i j
   obtain ⟨_,tid,xs,hl,hx,q,hq,Qc,hre⟩:=ht
   have Ob:Ag cur.heap l=some (.Dl (.slice e) tid xs):=(cc _ (List.mem_singleton.2 rfl)).trans hl
   simp only [Xa,St.at,Ob,hx] at he
   rw [dif_pos trivial] at he
   ·split at he
    ·rename_i h1
     simp only [Option.some.injEq] at he;subst he
     refine ⟨rfl,λm hm=>Cr _ _ _ _ (hm _ (List.mem_singleton.2 rfl)),λt Ps=>?_⟩
     have Ps:=List.mem_singleton.1 Ps
     subst Ps
     refine ⟨_,_,hl,Cw _ _ _ _ Ob,λ_=>rfl,λ_=>rfl,⟨rfl,by simp⟩,λπ' H' _=>?_⟩
     show Jj w' (π l) (.slice e) tid _
     rw [hq]
     refine hre w' ys hs (λb Hm hb hn=>hU l i j q b rfl hq hb Hm hn) ?_
     have hv:=hc.1
     rw [<-show List.length ys=List.length x from h1] at hv
     exact Jj.CN (te:=te) hr hv
    ·cases he
 |part e te=>cases a<;>simp [Xa] at he<;>first|(simp only [Nt] at ht;exact ht.2.elim)
 |Ao e te kp=>exact absurd ht.1 (by simp)
theorem IE {D:Nat->Prop} (h:Il X w π H) {k:Nat} {e:Ty} {te:TypeId} {ys:List e.den} {a:AC} {u:Value} {r:Option Real} {x:(CK.part e te).den} {cur st1:St}
  {V:List Nat} (ht:ar w (Jy X π V) r u (.part e te) x/\Nt w π H true a u r (.part e te) x) (hr:bF w' D r (.row e te) ys) (he:BC cur e ys a=some st1) (cc: ∀t∈La true k (.part e te) a,Ag cur.heap t.2.Qx=Ag H t.2.Qx):
  st1.tmps=cur.tmps/\(∀m,(∀t∈La true k (.part e te) a,m≠t.2.Qx)->Ag st1.heap m=Ag cur.heap m)/\ ∀t∈La true k (.part e te) a,ik X D w' π H st1.heap t.2.Qx:=by
 obtain ⟨hc,hf,ht⟩:=ht
 cases a<;>simp only [] at ht<;>first|(exact ht.elim)|skip
 rename_i l off len
 obtain ⟨rfl,_,fr,tr,hl⟩:=ht
 have Ob:Ag cur.heap l=some (.arr fr tr e te x.1):=(cc _ (List.mem_singleton.2 rfl)).trans hl
 simp only [BC,St.at,Ob] at he
 split at he
 ·rename_i Fv
  obtain ⟨_,h1⟩:=Fv
  simp only [Option.some.injEq] at he;subst he
  refine ⟨rfl,λm hm=>Cr _ _ _ _ (hm _ (List.mem_singleton.2 rfl)),λt Ps=>?_⟩
  have Ps:=List.mem_singleton.1 Ps
  subst Ps
  refine ⟨_,_,hl,Cw _ _ _ _ Ob,λ_=>rfl,λ_=>rfl,⟨rfl,h1.symm⟩,λπ' H' _=>?_⟩
  have hb:=(h.heap l).Na hl
  change Ay X w' π' H' (π l) _
  simp only [Ay,Fz] at hb⊢
  cases hp:π l with
  |none=>rw [hp] at hr;exact hr
  |some q=>
   rw [hp] at hr hb
   obtain ⟨k1,cu,ti,k2,k3,k4,k5,k6⟩:=hr
   exact ⟨⟨k1.1,k1.2,hb.1.2.2⟩,cu,ti,k2,k3,k4,k5,λi y hy=>by
    obtain ⟨es,g1,g2,g3⟩:=k6 i y hy
    exact ⟨es,g1,g2,Cells.flat e es y hf g3⟩,λ_=>iM hf k6⟩
 ·cases he
def mG (X:Ctx) (D:Nat->Prop) (w':World) (π:Pi) (H:List (Nat×OB)) (tk:List (Nat×Loc)) (cur st1:St):Prop:=
 st1.tmps=cur.tmps/\(∀m,(∀t∈tk,m≠t.2.Qx)->Ag st1.heap m=Ag cur.heap m)/\(∀t∈tk,t.1<Am->Ag st1.heap t.2.Qx=Ag cur.heap t.2.Qx)/\(∀t∈tk,¬t.1<Am->ik X D w' π H st1.heap t.2.Qx)
theorem oL {D:Nat->Prop} (h:Il X w π H) {V:List Nat} {πc:Pi} {tks:List (Nat×Loc)} (hs:w.heap.size<=w'.heap.size)
  (hU: ∀t∈tks,∀q b,π t.2.Qx=some q->q.Bc b->b<w.heap.size->(∀r',πc t.1=some r'-> ¬r'.Bc b)->w'.heap[b]?=w.heap[b]?):
  ∀(cs:List (Bool×CK)) (k:Nat) (x:Ins.den cs) (as:List AC) (us:List Value) (o:IOs.den cs) (cur st1:St),k+cs.length<100000->(∀t∈Hk k cs as,t∈tks)->((Hk k cs as).map λt=>t.2.Qx).Nodup->
   mb X w π V H πc k cs x as us->Ht w' D πc k cs o->Eg cs o as cur=some st1->(∀t∈Hk k cs as,Ag cur.heap t.2.Qx=Ag H t.2.Qx)->
   mG X D w' π H (Hk k cs as) cur st1
 | [],k,x,as,us,o,cur,st1,_,_,_,_,_,he,_=>by
  simp only [Eg,Option.some.injEq] at he;subst he
  have e0:Hk k [] as= []:=by cases as<;>rfl
  exact ⟨rfl,λ_ _=>rfl,by rw [e0];simp,by rw [e0];simp⟩
 |p::r,k,x,[],us,o,cur,st1,_,_,_,ht,_,_,_=>ht.elim
 |p::r,k,x,a::as,[],o,cur,st1,_,_,_,ht,_,_,_=>ht.elim
 |(io,c)::r,k,x,a::as,u::us,o,cur,st1,hk,Lu,q9,ht,ho,he,cc=>by
  simp only [List.length_cons] at hk
  simp only [Hk] at Lu q9 cc⊢
  rw [List.map_append] at q9
  obtain ⟨n1,n2,n3⟩:=List.nodup_append.1 q9
  have apart: ∀t∈La io k c a,∀t'∈Hk (k+1) r as,t'.2.Qx≠t.2.Qx:= λt h1 t' h2 e=>n3 _ (List.mem_map.2 ⟨t,h1,rfl⟩) _ (List.mem_map.2 ⟨t',h2,rfl⟩) e.symm
  have rest: ∀(Up:St) (o':IOs.den r),Ht w' D πc (k+1) r o'->Eg r o' as Up=some st1->Up.tmps=cur.tmps->(∀m,(∀t∈La io k c a,m≠t.2.Qx)->Ag Up.heap m=Ag cur.heap m)->
    (∀t∈La io k c a,t.1<Am->Ag Up.heap t.2.Qx=Ag cur.heap t.2.Qx)->(∀t∈La io k c a,¬t.1<Am->ik X D w' π H Up.heap t.2.Qx)->
    mG X D w' π H (La io k c a++Hk (k+1) r as) cur st1:=by
   intro Up o' h1 h2 h3 h4 h5 h6
   obtain ⟨g1,g2,g3,g4⟩:=oL h hs hU r (k+1) x.2 as us o' Up st1 (by omega) (λt ht=>Lu t (List.mem_append_right _ ht)) n2 ht.2 h1 h2 (λt Ps=>by
    rw [h4 _ λt0 MG=>apart t0 MG t Ps];exact cc t (List.mem_append_right _ Ps))
   have hd: ∀t∈La io k c a,Ag st1.heap t.2.Qx=Ag Up.heap t.2.Qx:= λt Ps=>g2 _ λt' mP=>(apart t Ps t' mP).symm
   refine ⟨g1.trans h3,λm hm=>?_,λt Ps Hm=>?_,λt Ps Hm=>?_⟩
   ·rw [g2 m λt ht=>hm t (List.mem_append_right _ ht),h4 m λt ht=>hm t (List.mem_append_left _ ht)]
   ·rcases List.mem_append.1 Ps with Ps|Ps
    ·rw [hd t Ps,h5 t Ps Hm]
    ·rw [g3 t Ps Hm,h4 _ λt0 MG=>apart t0 MG t Ps]
   ·rcases List.mem_append.1 Ps with Ps|Ps
    ·obtain ⟨b0,b',q1,q2,q3⟩:=h6 t Ps Hm
     exact ⟨b0,b',q1,(hd t Ps).trans q2,q3⟩
    ·exact g4 t Ps Hm
  have same: ∀o',Ht w' D πc (k+1) r o'->Eg r o' as cur=some st1->(∀t∈La io k c a,t.1<Am)->mG X D w' π H (La io k c a++Hk (k+1) r as) cur st1:= λo' h1 h2 h3=>rest cur o' h1 h2 rfl (λ_ _=>rfl) (λ_ _ _=>rfl) (λt h4 h5=>absurd (h3 t h4) h5)
  cases io with
  |false=>
   have h3: ∀t∈La false k c a,t.1<Am:= λt h4=>by rcases yz h4 with ⟨h5,_⟩|⟨h5,_⟩<;>(rw [h5];exact bh (by omega))
   cases c with
   |Dy τ=>exact same o ho (by simpa only [Eg] using he) h3
   |row e te=>exact same o ho (by simpa only [Eg] using he) h3
   |Dx e te=>exact same o ho (by simpa only [Eg] using he) h3
   |part e te=>exact same o ho (by simpa only [Eg] using he) h3
   |Ao e te kp=>exact same o ho (by simpa only [Eg] using he) h3
  |true=>
   have row: ∀(ys:c.den) (o':IOs.den r),(∀t∈La true k c a,t.1=Cb true k)->bF w' D (πc (Cb true k)) c ys->Ht w' D πc (k+1) r o'->(∃Up,Xa cur c ys a=some Up/\Eg r o' as Up=some st1)->mG X D w' π H (La true k c a++Hk (k+1) r as) cur st1:=by
    intro ys o' h0 h1 h2 h3
    obtain ⟨Up,hp,h3⟩:=h3
    ·obtain ⟨q1,q2,q3⟩:=ID (k:=k) h hs (λl i j q b ea hq hb Hm hn=>by
      cases c with
      |Dy τ=>exact absurd (ht.1.2:πc _=none) (by subst ea;simp [Xa] at hp)
      |row e te=>subst ea;exact hU (Cb true k, .sub l i j) (Lu _ (List.mem_append_left _ (List.mem_singleton.2 rfl))) q b hq hb Hm hn
      |Dx e te=>subst ea;exact hU (Cb true k, .sub l i j) (Lu _ (List.mem_append_left _ (List.mem_singleton.2 rfl))) q b hq hb Hm hn
      |Ao e te kp=>exact absurd ht.1.2.1 (by simp)
      |part e te=>exact absurd ht.1.2.2 (by subst ea;exact λh=>h)) ht.1 h1 hp (λt Ps=>cc t (List.mem_append_left _ Ps))
     exact rest Up o' h2 h3 q1 q2 (λt h4 h5=>absurd h5 (by rw [h0 t h4];exact Vf k)) (λt h4 _=>q3 t h4)
   cases c with
   |Dy τ=>exact same o ho (by simpa only [Eg] using he) (λt h4=>by rw [PH h4];exact bh (by omega))
   |Ao e te kp=>exact absurd ht.1.2.1 (by simp)
   |row e te=>
    simp only [Eg] at he
    split at he
    ·rename_i Up hp;exact row o.1 o.2 (λt ht=>PI ht) ho.1 ho.2 ⟨Up,hp,he⟩
    ·cases he
   |Dx e te=>
    simp only [Eg] at he
    split at he
    ·rename_i Up hp;exact row o.1 o.2 (λt ht=>JD ht) ho.1 ho.2 ⟨Up,hp,he⟩
    ·cases he
   |part e te=>
    simp only [Eg] at he
    split at he
    ·rename_i Up hp
     obtain ⟨q1,q2,q3⟩:=IE (k:=k) h ht.1 ho.1 hp (λt Ps=>cc t (List.mem_append_left _ Ps))
     exact rest Up o.2 ho.2 he q1 q2 (λt h4 h5=>absurd h5 (by rw [JC h4];exact Vf k)) (λt h4 _=>q3 t h4)
    ·cases he
theorem AI {fr:Bool} {c:CK} {x:c.den} {u:Value} {r:Option Real} {D:Nat->Prop} (h:ar w' D r u c x):
  (qi fr c x=none/\r=none)\/ ∃b',qi fr c x=some b'/\ ∀(X:Ctx) π' H',(fr=true-> ∀q,r=some q->X.w0.heap.size<=q.g)->(∀b,Pq π' b\/X.Sc b->D b)->Ay X w' π' H' r b':=by
 cases c with
 |Dy τ=>exact .inl ⟨rfl,h.1⟩
 |row e te=>
  refine .inr ⟨_,rfl,λX π' H' wV hD=>?_⟩
  obtain ⟨_,h⟩:=h
  simp only [bF] at h
  simp only [Ay,Fz]
  cases r with
  |none=>exact h
  |some q=>
   obtain ⟨k1,cu,ti,k2,k3,k4,k5,k6⟩:=h
   exact ⟨⟨k1.1,k1.2,λh1=>wV (by simp only [Bool.and_eq_true] at h1;exact h1.1) q rfl⟩,cu,ti,k2,k3,k4,k5,λi y hy=>by
    obtain ⟨es,g1,g2,g3⟩:=k6 i y hy
    exact ⟨es,g1,g2,aF hD g3⟩,λh=>by cases h⟩
 |Dx e te=>exact .inr ⟨_,rfl,λX π' H' _ _=>h.2⟩
 |Ao e te kp=>exact .inr ⟨_,rfl,λX π' H' _ hD=>⟨Ue.Fe h.2 λb hb=>hD b (hb.imp id λh=>h.elim id λh=>by cases h.1),trivial⟩⟩
 |part e te=>
  refine .inr ⟨_,rfl,λX π' H' wV hD=>?_⟩
  obtain ⟨_,hf,h⟩:=h
  simp only [Ay,Fz]
  cases r with
  |none=>exact h
  |some q=>
   obtain ⟨k1,cu,ti,k2,k3,k4,k5,k6⟩:=h
   exact ⟨⟨k1.1,k1.2,λh1=>wV (by simp only [Bool.and_eq_true] at h1;exact h1.1) q rfl⟩,cu,ti,k2,k3,k4,k5,λi y hy=>by
    obtain ⟨es,g1,g2,g3⟩:=k6 i y hy
    exact ⟨es,g1,g2,aF hD g3⟩,λh=>by cases h⟩
theorem lN {D:Nat->Prop} {key:Nat->Nat} (zK: ∀i j,key i=key j->i=j) {fr:Bool} {ρ:Pi} : ∀(cs:List CK) (k:Nat) (x:CKs.den cs) (us:List Value) (H:List (Nat×OB)),Ff w' D ρ k cs x us->
  (∀j,k<=j->j<k+cs.length->Ag H (key j)=none)->
  (∀l,(∀j,k<=j->j<k+cs.length->l≠key j)->Ag (Ru fr key k cs x H) l=Ag H l)/\
  (∀j,k<=j->j<k+cs.length->(Ag (Ru fr key k cs x H) (key j)=none/\ρ (Gc j)=none)\/
   ∃b',Ag (Ru fr key k cs x H) (key j)=some b'/\ ∀(X:Ctx) π' H',(fr=true-> ∀q,ρ (Gc j)=some q->X.w0.heap.size<=q.g)->(∀b,Pq π' b\/X.Sc b->D b)->Ay X w' π' H' (ρ (Gc j)) b')/\
  (∀π',(∀b,Pq π' b\/X.Sc b->D b)->(∀j,k<=j->j<k+cs.length->π' (key j)=ρ (Gc j))->Iq X w' π' (Ru fr key k cs x H) (Wl key k cs x) us)
 | [],k,x,[],H,_,_=>⟨λ_ _=>rfl,λj h1 h2=>by simp at h2;omega,λ_ _ _=>trivial⟩
 | [],_,_,_::_,_,h,_=>h.elim
 |_::_,_,_,[],_,h,_=>h.elim
 |c::r,k,x,u::us,H,h,hn=>by
  simp only [List.length_cons] at hn⊢
  simp only [Ru,Wl]
  have pZ:=hn k (Nat.le_refl _) (by omega)
  have hH1: ∀l,l≠key k->Ag (x6 H (key k) (qi fr c x.1)) l=Ag H l:=by
   intro l hl
   cases qi fr c x.1 with
   |some b=>exact Kh _ _ _ _ hl
   |none=>rfl
  have Ac3:Ag (x6 H (key k) (qi fr c x.1)) (key k)=qi fr c x.1:=by
   cases qi fr c x.1 with
   |some b=>exact Lc _ _ _ pZ
   |none=>exact pZ
  generalize (x6 H (key k) (qi fr c x.1))=H1 at hH1 Ac3⊢
  obtain ⟨g1,g2,g3⟩:=lN zK (fr:=fr) r (k+1) x.2 us H1 h.2 (λj h1 h2=>by
   rw [hH1 _ λe=>by have:=zK _ _ e;omega];exact hn j (by omega) (by omega))
  have QL:Ag (Ru fr key (k+1) r x.2 H1) (key k)=qi fr c x.1:=by
   rw [g1 _ λj h1 h2 e=>by have:=zK _ _ e;omega];exact Ac3
  refine ⟨λl hl=>?_,λj h1 h2=>?_,λπ' hd WA=>⟨?_,?_⟩⟩
  ·rw [g1 l λj h1 h2=>hl j (by omega) (by omega)]
   exact hH1 l (hl k (Nat.le_refl _) (by omega))
  ·rcases Nat.eq_or_lt_of_le h1 with e|h1
   ·subst e
    rw [QL]
    exact AI h.1
   ·exact g2 j h1 (by omega)
  ·have h1:=h.1
   have hpk:=WA k (Nat.le_refl _) (by omega)
   cases c with
   |Dy τ=>
    obtain ⟨cK,c1,c2⟩:=h1.2
    exact ⟨cK,by have:=aF (fr:=true) hd c1;simpa using this,c2⟩
   |row e te=>exact ⟨_,e.size,List.length x.1,QL,rfl,by simp,by rw [hpk];exact h1.1⟩
   |Dx e te=>exact ⟨_,e.size,List.length x.1,QL,rfl,by simp,by rw [hpk];exact h1.1⟩
   |Ao e te kp=>exact ⟨_,1,List.length x.1,QL,rfl,by simp,by rw [hpk];exact h1.1⟩
   |part e te=>trivial
  ·exact g3 π' hd λj h1 h2=>WA j (by omega) (by omega)
theorem zZ {ks:List Nat} {n:Nat} (h:tP ks n=true):ks.length=n/\ks.Nodup/\ ∀l∈ks,l<Am:=by
 unfold tP at h
 simp only [Bool.and_eq_true] at h
 refine ⟨Nat.eq_of_beq_eq_true h.1,Rt h.2.1,λl hl=>?_⟩
 have:=List.all_eq_true.1 h.2.2 l hl
 simpa using this
theorem Ly {ks:List Nat} {j:Nat} (h:j<ks.length):Cc ks j=ks[j]:=by
 unfold Cc
 rw [List.getElem?_eq_getElem h]
theorem wm {ks:List Nat} (hn:ks.Nodup) (hl: ∀l∈ks,l<Am): ∀i j,Cc ks i=Cc ks j->i=j:=by
 intro i j h
 by_cases hi:i<ks.length
 ·by_cases hj:j<ks.length
  ·rw [Ly hi,Ly hj] at h
   rcases Nat.lt_trichotomy i j with Hm|he|Hm
   ·exact absurd h (List.pairwise_iff_getElem.1 hn i j hi hj Hm)
   ·exact he
   ·exact absurd h.symm (List.pairwise_iff_getElem.1 hn j i hj hi Hm)
  ·have h1:=hl _ (List.getElem_mem hi)
   rw [Ly hi] at h
   unfold Cc at h
   rw [List.getElem?_eq_none (by omega)] at h
   simp only at h
   omega
 ·by_cases hj:j<ks.length
  ·have h1:=hl _ (List.getElem_mem hj)
   rw [Ly hj] at h
   unfold Cc at h
   rw [List.getElem?_eq_none (by omega)] at h
   simp only at h
   omega
  ·unfold Cc at h
   rw [List.getElem?_eq_none (by omega),List.getElem?_eq_none (by omega)] at h
   simp only at h
   omega
theorem Ja: ∀(H:List (Nat×OB)) (dead:List Nat) (l:Nat),Ag (Rf H dead) l=if l∈dead then none else Ag H l
 | [],dead,l=>by simp [Rf,Ag]
 |(k,b)::r,dead,l=>by
  simp only [Rf]
  have ih:=Ja r dead l
  by_cases hk:k∈dead
  ·rw [if_pos (by simpa using hk),ih]
   split
   ·rfl
   ·rename_i hl
    simp only [Ag]
    rw [if_neg (λ(e:k=l)=>hl (e▸hk))]
  ·rw [if_neg (by simpa using hk)]
   simp only [Ag]
   split
   ·rename_i e;subst e;rw [if_neg hk]
   ·exact ih
theorem mem_keys {ks:List Nat} {l:Nat} :l∈ks↔ ∃k,k<ks.length/\l=Cc ks k:=
 ⟨λh=>by obtain ⟨k,hk,e⟩:=List.getElem_of_mem h;exact ⟨k,hk,by rw [Ly hk,e]⟩,λ⟨k,hk,e⟩=>by rw [e,Ly hk];exact List.getElem_mem hk⟩
theorem Zz {tks:List (Nat×Loc)} {l:Nat} :l∈iC tks↔ ∃t∈tks,(t.1<Am/\t.2.reads=false)/\t.2.Qx=l:=by
 unfold iC
 simp only [List.mem_map,List.mem_filter,Bool.and_eq_true,Nat.blt_eq,Bool.not_eq_true']
 exact ⟨λ⟨t,⟨h1,h2⟩,h3⟩=>⟨t,h1,h2,h3⟩,λ⟨t,h1,h2,h3⟩=>⟨t,⟨h1,h2⟩,h3⟩⟩
theorem tQ {tks:List (Nat×Loc)} (h:(tks.map λt=>t.2.Qx).Nodup) {t t':Nat×Loc} (ht:t∈tks) (mP:t'∈tks) (he:t.2.Qx=t'.2.Qx):t=t':=by
 induction tks with
 |nil=>cases ht
 |cons a r ih=>
  simp only [List.map_cons] at h
  obtain ⟨h1,h2⟩:=List.nodup_cons.1 h
  rcases List.mem_cons.1 ht with rfl|ht<;>rcases List.mem_cons.1 mP with rfl|mP
  ·rfl
  ·exact (h1 (List.mem_map.2 ⟨t',mP,he.symm⟩)).elim
  ·exact (h1 (he▸List.mem_map.2 ⟨t,‹t∈r›,rfl⟩)).elim
  ·exact ih h2 ht mP
theorem Ff.full {D:Nat->Prop} {ρ:Pi} : ∀(cs:List CK) (k:Nat) (x:CKs.den cs) (us:List Value),Ff w D ρ k cs x us->Ff w D (λl=>(ρ l).map full) k cs x us
 | [],_,_,[],h=>h
 | [],_,_,_::_,h=>h.elim
 |_::_,_,_,[],h=>h.elim
 |c::r,k,x,u::us,h=>⟨by
   have h1:=h.1
   show ar w D ((ρ (Gc k)).map _) u c x.1
   cases c with
   |Dy τ=>rw [h1.1];exact ⟨rfl,h1.2⟩
   |row e te=>cases hp:ρ (Gc k)<;>(rw [hp] at h1;exact h1)
   |Dx e te=>cases hp:ρ (Gc k)<;>(rw [hp] at h1;exact h1)
   |Ao e te kp=>cases hp:ρ (Gc k)<;>(rw [hp] at h1;exact h1)
   |part e te=>cases hp:ρ (Gc k)<;>(rw [hp] at h1;exact h1),Ff.full r (k+1) x.2 us h.2⟩
theorem Ff.UM {D:Nat->Prop} {ρ:Pi} : ∀(cs:List CK) (k0:Nat) (x:CKs.den cs) (us:List Value),Ff w D ρ k0 cs x us-> ∀j,k0<=j->j<k0+cs.length-> ∀q,ρ (Gc j)=some q->q.Bc q.g
 | [],k0,_,_,_,j,h1,h2,_,_=>by simp at h2;omega
 |_::_,_,_,[],h,_,_,_,_,_=>h.elim
 |c::r,k0,x,u::us,ho,j,h1,h2,q,hq=>by
  rcases Nat.eq_or_lt_of_le h1 with e|h1
  ·subst e
   have:=ho.1
   cases c with
   |Dy τ=>rw [hq] at this;cases this.1
   |row e te=>rw [hq] at this;exact this.2.1.1
   |Dx e te=>rw [hq] at this;exact this.2.1
   |part e te=>rw [hq] at this;exact this.2.2.1.1
   |Ao e te kp=>rw [hq] at this;exact this.2.1
  ·exact Ff.UM r (k0+1) x.2 us ho.2 j h1 (by simp at h2;omega) q hq
theorem Nd.any {D D':Nat->Prop} {r:Option Real} {e:Ty} {xs:List e.den} (hf:e.flat=true) (h:Nd w D r e xs):Nd w D' r e xs:=by
 cases r with
 |none=>exact h
 |some r=>
  obtain ⟨k1,cu,ti,k2,k3,k4,k5,k6⟩:=h
  exact ⟨k1,cu,ti,k2,k3,k4,k5,λi y hy=>by
   obtain ⟨es,g1,g2,g3⟩:=k6 i y hy
   exact ⟨es,g1,g2,Cells.flat e es y hf g3⟩⟩
theorem Ff.any {D D':Nat->Prop} {ρ:Pi} : ∀(cs:List CK) (k:Nat) (x:CKs.den cs) (us:List Value),cs.all (·.flat)=true->Ff w D ρ k cs x us->Ff w D' ρ k cs x us
 | [],_,_,[],_,h=>h
 | [],_,_,_::_,_,h=>h.elim
 |_::_,_,_,[],_,h=>h.elim
 |c::r,k,x,u::us,hf,h=>by
  simp only [List.all_cons,Bool.and_eq_true] at hf
  refine ⟨?_,Ff.any r (k+1) x.2 us hf.2 h.2⟩
  have h1:=h.1
  cases c with
  |Dy τ=>exact ⟨h1.1,Bh.flat hf.1 h1.2⟩
  |row e te=>exact ⟨h1.1,Nd.any hf.1 h1.2⟩
  |Dx e te=>exact h1
  |part e te=>exact ⟨h1.1,h1.2.1,Nd.any hf.1 h1.2.2⟩
  |Ao e te kp=>exact absurd hf.1 (by simp [CK.flat])
theorem Ht.any {D D':Nat->Prop} {π:Pi} : ∀(cs:List (Bool×CK)) (k:Nat) (x:IOs.den cs),(cs.all λp=>!p.1||p.2.flat)=true->Ht w D π k cs x->Ht w D' π k cs x
 | [],_,_,_,h=>h
 |(false,_)::r,k,x,hf,h=>Ht.any r (k+1) x (by simp only [List.all_cons,Bool.and_eq_true] at hf;exact hf.2) h
 |(true, .Dy _)::r,k,x,hf,h=>Ht.any r (k+1) x (by simp only [List.all_cons,Bool.and_eq_true] at hf;exact hf.2) h
 |(true, .Ao _ _ _)::r,k,x,hf,h=>Ht.any r (k+1) x (by simp only [List.all_cons,Bool.and_eq_true] at hf;exact hf.2) h
 |(true, .row e te)::r,k,x,hf,h=>by
  simp only [List.all_cons,Bool.and_eq_true,Bool.not_true,Bool.false_or] at hf
  exact ⟨Nd.any hf.1 h.1,Ht.any r (k+1) x.2 hf.2 h.2⟩
 |(true, .Dx e te)::r,k,x,hf,h=>by
  simp only [List.all_cons,Bool.and_eq_true,Bool.not_true,Bool.false_or] at hf
  exact ⟨h.1,Ht.any r (k+1) x.2 hf.2 h.2⟩
 |(true, .part e te)::r,k,x,hf,h=>by
  simp only [List.all_cons,Bool.and_eq_true,Bool.not_true,Bool.false_or] at hf
  exact ⟨Nd.any hf.1 h.1,Ht.any r (k+1) x.2 hf.2 h.2⟩
theorem ou {tks:List (Nat×Loc)} {l:Nat} :l∈vA tks↔ ∃t∈tks,t.2.reads=true/\t.2.Qx=l:=by
 unfold vA
 simp only [List.mem_map,List.mem_filter]
 exact ⟨λ⟨t,⟨h1,h2⟩,h3⟩=>⟨t,h1,h2,h3⟩,λ⟨t,h1,h2,h3⟩=>⟨t,⟨h1,h2⟩,h3⟩⟩
theorem Al.jl {st:St} {a:Act} (h:Al X π st a w) {f:AC->AC} (hu:f .undef= .undef) {gv:Nat->Prop} (GI: ∀b,gv b->Pq π b) (hb:Gq w.heap.size gv w w')
  (Zr: ∀b,b<w.heap.size->Pq π' b->Pq π b)
  (Lu: ∀l r b,π' l=some r->r.Bc b->r.cl b) (YK: ∀l r b,π' l=some r->r.cl b->(X.w0.heap.size<=b\/X.gv b)/\b<w'.heap.size)
  (Ai1: ∀l l' r r' b,π' l=some r->π' l'=some r'->r.cl b->r'.cl b->l=l')
  (Zs: ∀l,Am<=l->Ag H' l≠none->Vp (X.dv l) (π' l))
  (hac:(∀fr τ cs x,Cells w (Bi X.w0.heap.size X.Sc π fr) τ cs x->Cells w' (Bi X.w0.heap.size X.Sc π' fr) τ cs x)-> ∀c v,Ec X w π st.heap c v->Ec X w' π' H' (f c) v)
  (RS:Move X w w' π π' st.heap H' f-> ∀l b,Ag H' l=some b->Ay X w' π' H' (π' l) b)
  (EH: ∀l,Ag H' l=none->π' l=none):
  Al X π' {tmps:=st.tmps.map (·.map f),heap:=H'} a w':=by
 have hc: ∀fr τ cs x,Cells w (Bi X.w0.heap.size X.Sc π fr) τ cs x->Cells w' (Bi X.w0.heap.size X.Sc π' fr) τ cs x:= λfr τ cs x hh=>
  Cells.Cz hb.size (λk hk hn=>hb.block k hk λhg=>hn (.inl (GI k hg))) (λk Hm hA=>hA.imp (Zr k Hm) id) τ cs x hh
 have m:Move X w w' π π' st.heap H' f:=⟨hac hc,hc⟩
 refine ⟨⟨⟨hb.os.trans h.1.below.os,hb.tape.trans h.1.below.tape,hb.output.trans h.1.below.output,Nat.le_trans h.1.below.size hb.size,λk hk hn=>?_⟩,h.1.sc,Lu,YK,Ai1,Zs,λl=>?_⟩,m.BG hu h.2⟩
 ·refine (hb.block k (Nat.lt_of_lt_of_le hk h.1.below.size) λhg=>?_).trans (h.1.below.block k hk hn)
  rcases (h.1.own (GI k hg)).2 with h1|h1
  ·omega
  ·exact hn h1
 ·cases hh:Ag H' l with
  |none=>exact Dm.Qg (EH l hh) hh
  |some b=>exact Dm.Jg (RS m l b hh) hh
def bG:Option Real->Option Real->Prop
 |none,none=>True
 |some r,some r'=>r.g=r'.g/\r.o=r'.o/\r.cap=r'.cap
 |_,_=>False
theorem bG.rfl' (r:Option Real):bG r r:=by cases r<;>simp [bG]
theorem bG.some {r:Real} {r':Option Real} (h:bG (some r) r'): ∃q,r'=some q/\r.g=q.g/\r.o=q.o/\r.cap=q.cap:=by
 cases r' with
 |none=>exact h.elim
 |some q=>exact ⟨q,rfl,h⟩
theorem bG.own {r r':Option Real} (h:bG r r') {sz off len:Nat} {v:Value} (hv:Ea r sz off len v):Ea r' sz off len v:=by
 cases r<;>cases r'<;>first|exact h.elim|skip
 ·exact hv
 ·obtain ⟨h1,h2,h3⟩:=h
  obtain ⟨ad,g1,g2,g3⟩:=hv
  exact ⟨ad,by rw [<-h3];exact g1,by rw [<-h3];exact g2,by rw [<-h1,<-h2,<-h3];exact g3⟩
structure OB.Nn (b b':OB):Prop where
 row: ∀sz n,b.row=some (sz,n)-> ∃n',b'.row=some (sz,n')/\n<=n'
 bM: ∀p,b.bM=some p->b'.bM=some p
 pW: ∀p,b.pW=some p->b'.pW=some p
 var: ∀tid vs,b= .var tid vs-> ∃Ov vR,b'= .var Ov vR
 Pp: ∀v m,b= .Pp v m-> ∃m',b'= .Pp v m'
theorem OB.Nn.map (f:AC->AC) (b:OB):b.Nn (b.map f) where
 row:= λsz n h=>⟨n,by cases b<;>exact h,Nat.le_refl _⟩
 bM:= λp h=>by cases b<;>exact h
 pW:= λp h=>by cases b<;>exact h
 var:= λtid vs h=>by subst h;exact ⟨_,_,rfl⟩
 Pp:= λv m h=>by subst h;exact ⟨_,rfl⟩
theorem OB.Nn.rfl' (b:OB):b.Nn b where
 row:= λ_sz n h=>⟨n,h,Nat.le_refl _⟩
 bM:= λ_p h=>h
 pW:= λ_p h=>h
 var:= λ_tid _vs h=>⟨_,_,h⟩
 Pp:= λ_v _m h=>⟨_,h⟩
theorem OB.Nn.trans {a b c:OB} (h:a.Nn b) (k:b.Nn c):a.Nn c where
 row:= λsz n hr=>by
  obtain ⟨n1,h1,h2⟩:=h.row sz n hr
  obtain ⟨n2,h3,h4⟩:=k.row sz n1 h1
  exact ⟨n2,h3,by omega⟩
 bM:= λp hp=>k.bM p (h.bM p hp)
 pW:= λp hp=>k.pW p (h.pW p hp)
 var:= λtid vs hv=>by obtain ⟨t',v',h1⟩:=h.var tid vs hv;exact k.var t' v' h1
 Pp:= λv m hm=>by obtain ⟨m',h1⟩:=h.Pp v m hm;exact k.Pp v m' h1
theorem jk {f:AC->AC} {D Pt:Nat->Prop} (hf: ∀c,f c= .undef\/(f c=c/\(∀k∈c.refs,¬D k)/\ ∀k i j,c= .sub k i j\/c= .Gf k i j-> ¬Pt k)) (hp: ∀k,¬D k->bG (π k) (π' k))
  (hH: ∀k b,¬D k->Ag H k=some b-> ∃b',Ag H' k=some b'/\b.Nn b')
  (hg: ∀k r b,¬D k-> ¬Pt k->Ag H k=some b->b.bM≠none->π k=some r->w'.heap[r.g]?=w.heap[r.g]?)
  (hc: ∀fr τ cs x,Cells w (Bi X.w0.heap.size X.Sc π fr) τ cs x->Cells w' (Bi X.w0.heap.size X.Sc π' fr) τ cs x): ∀c v,Ec X w π H c v->Ec X w' π' H' (f c) v:=by
 intro c v h
 rcases hf c with e|⟨e,hr,hs⟩
 ·rw [e];trivial
 rw [e]
 cases c with
 |data fr τ x=>obtain ⟨cs,h1,h2⟩:=h;exact ⟨cs,hc _ _ _ _ h1,h2⟩
 |own k off len=>
  obtain ⟨b,sz,n,h1,h0,h2,h3⟩:=h
  have hk:=hr k (by simp [AC.refs])
  obtain ⟨b',g1,g2⟩:=hH k b hk h1
  obtain ⟨n',g3,g4⟩:=g2.row sz n h0
  exact ⟨b',sz,n',g1,g3,by omega,(hp k hk).own h3⟩
 |Eb k i=>
  obtain ⟨r,tid,vs,h1,h2,h3⟩:=h
  have hk:=hr k (by simp [AC.refs])
  obtain ⟨b',g1,g2⟩:=hH k _ hk h1
  obtain ⟨Ov,vR,rfl⟩:=g2.var tid vs rfl
  obtain ⟨q,q1,q2,_⟩:=(h2▸hp k hk).some
  exact ⟨q,Ov,vR,g1,q1,by rw [<-q2];exact h3⟩
 |Gh k i=>
  obtain ⟨r,b,sz,n,h1,h0,h2,h3,h4⟩:=h
  have hk:=hr k (by simp [AC.refs])
  obtain ⟨b',g1,g2⟩:=hH k b hk h1
  obtain ⟨n',g3,g4⟩:=g2.row sz n h0
  obtain ⟨q,q1,q2,q3,_⟩:=(h3▸hp k hk).some
  exact ⟨q,b',sz,n',g1,g3,by omega,q1,by rw [<-q2,<-q3];exact h4⟩
 |sub k i c=>
  obtain ⟨r,b,sz,n,h1,h0,h2,h3,h4,h5⟩:=h
  have hk:=hr k (by simp [AC.refs])
  obtain ⟨b',g1,g2⟩:=hH k b hk h1
  obtain ⟨q,q1,q2,q3,_⟩:=(h2▸hp k hk).some
  exact ⟨q,b',sz,n,g1,g2.bM _ h0,q1,h3,h4,by rw [<-q2,<-q3,World.cell?_of_block (hg k r b hk (hs k i c (.inl rfl)) h1 (by rw [h0];simp) h2)];exact h5⟩
 |Gf k i c=>
  obtain ⟨r,b,n,sz,g,o,len,cap,h1,h0,h2,h3,h4,h5,h6⟩:=h
  have hk:=hr k (by simp [AC.refs])
  obtain ⟨b',g1,g2⟩:=hH k b hk h1
  obtain ⟨q,q1,q2,q3,_⟩:=(h2▸hp k hk).some
  exact ⟨q,b',n,sz,g,o,len,cap,g1,g2.pW _ h0,q1,h3,h4,by rw [<-q2,<-q3,World.cell?_of_block (hg k r b hk (hs k i c (.inr rfl)) h1 (by cases b<;>first|(cases h0;done)|simp [OB.bM]) h2)];exact h5,h6⟩
 |clo g Cd=>
  obtain ⟨us,h1,h2,h3⟩:=h
  refine ⟨us,h1,h2,λj p hpj=>?_⟩
  obtain ⟨r,tid,vs,h4,h5,h6⟩:=h3 j p hpj
  have hk:=hr p.1 (by simp only [AC.refs,List.mem_map];exact ⟨p,List.mem_of_getElem? hpj,rfl⟩)
  obtain ⟨b',g1,g2⟩:=hH p.1 _ hk h4
  obtain ⟨Ov,vR,rfl⟩:=g2.var tid vs rfl
  obtain ⟨q,q1,q2,_⟩:=(h5▸hp p.1 hk).some
  exact ⟨q,Ov,vR,g1,q1,by rw [<-q2];exact h6⟩
 |Gt k=>
  obtain ⟨r,vt,m,h1,h2,h3⟩:=h
  have hk:=hr k (by simp [AC.refs])
  obtain ⟨b',g1,g2⟩:=hH k _ hk h1
  obtain ⟨m',rfl⟩:=g2.Pp vt m rfl
  obtain ⟨q,q1,q2,_⟩:=(h2▸hp k hk).some
  exact ⟨q,vt,m',g1,q1,by rw [<-q2];exact h3⟩
 |_=>exact h
theorem Pc (H0:List (Nat×OB)) (ls:List Nat) (n:Nat): ∀(H:List (Nat×OB)) (l:Nat),Ag (Yl H0 ls n H) l=(Ag H l).map λb=>if ls.contains l then b.ye (Wg n (ZB (Ag H0 l))) else b
 | [],_=>rfl
 |(k,b)::r,l=>by
  simp only [Yl,Ag]
  split
  ·rename_i e;subst e;rfl
  ·exact Pc H0 ls n r l
theorem OB.uD (b:OB) (kp:Option (Nat×Nat)):b.Nn (b.ye kp):=by
 cases b with
 |Ao e te rows out kp0=>exact ⟨λsz n h=>⟨n,h,Nat.le_refl _⟩,λp h=>h,λp h=>h,(λ_ _ h=>by cases h),(λ_ _ h=>by cases h)⟩
 |_=>exact OB.Nn.rfl' _
theorem bu (ls:List Nat): ∀(l m:List AV) (t:Nat),l.length=m.length->(∃k i c,l.getD t .undef= .at (.sub k i c)/\ls.contains k=true/\(Hj ls l m).getD t .undef= .at (.sub k i c))\/(Hj ls l m).getD t .undef=m.getD t .undef
 | [],m,t,_=>by cases m<;>exact .inr rfl
 |_::_,[],t,h=>by simp at h
 |a::l,v::m,t,h=>by
  have ih:= λt=>bu ls l m t (by simpa using h)
  have tail: ∀u,Hj ls (a::l) (v::m)=u::Hj ls l m->(t=0->(∃k i c,(a::l).getD t .undef= .at (.sub k i c)/\ls.contains k=true/\u= .at (.sub k i c))\/u=v)->
    (∃k i c,(a::l).getD t .undef= .at (.sub k i c)/\ls.contains k=true/\(Hj ls (a::l) (v::m)).getD t .undef= .at (.sub k i c))\/(Hj ls (a::l) (v::m)).getD t .undef=(v::m).getD t .undef:=by
   intro u e h0
   rw [e]
   rcases t with _|t
   ·rcases h0 rfl with ⟨k,i,c,h1,h2,h3⟩|h3
    ·exact .inl ⟨k,i,c,h1,h2,by simpa using h3⟩
    ·exact .inr (by simpa using h3)
   ·simpa only [List.getD_cons_succ] using ih t
  cases a with
  | «at»c=>
   cases c with
   |sub k i c=>
    refine tail _ rfl λht=>?_
    subst ht
    by_cases hc:ls.contains k=true
    ·exact .inl ⟨k,i,c,rfl,hc,by rw [if_pos hc]⟩
    ·exact .inr (by rw [if_neg hc])
   |_=>exact tail _ rfl λ_=> .inr rfl
  |_=>exact tail _ rfl λ_=> .inr rfl
theorem pv {H:List (Nat×OB)} {ls:List Nat} {n:Nat} : ∀ {l:List AV} {t k i c:Nat},Yw H ls n l=true->l.getD t .undef= .at (.sub k i c)->ls.contains k=true->i<n/\i<mM H k
 | [],t,k,i,c,_,h,_=>by simp at h
 |a::l,0,k,i,c,ho,h,hc=>by
  simp only [List.getD_cons_zero] at h
  subst h
  simp only [Yw,hc,Bool.not_true,Bool.false_or,Bool.and_eq_true,Nat.blt_eq] at ho
  exact ho.1
 |a::l,t+1,k,i,c,ho,h,hc=>by
  refine pv (l:=l) (t:=t) (c:=c) ?_ (by simpa only [List.getD_cons_succ] using h) hc
  cases a with
  | «at»d=>cases d with
   |sub _ _ _=>simp only [Yw,Bool.and_eq_true] at ho;exact ho.2
   |_=>exact ho
  |_=>exact ho
theorem zW {bY st:St} {a:Act} (h0:Al X π bY a w) (h:Al X π' st a w') {ls:List Nat} {n:Nat} (hk: ∀l∈ls,vU w w' (π l) (π' l) n) (nU: ∀l∈ls,iX bY.heap l=true)
  (bL:Yw st.heap ls n bY.tmps=true):Al X π' (gI bY st ls n) a w'/\ ∀c v,Ar X w' π' st.heap c v->Ar X w' π' (gI bY st ls n).heap c v:=by
 by_cases Yj:ls= []
 ·subst Yj;exact ⟨h,λ_ _ h=>h⟩
 have Qv:gI bY st ls n= {tmps:=Hj ls bY.tmps st.tmps,heap:=Yl bY.heap ls n st.heap} :=by
  cases ls with
  |nil=>exact absurd rfl Yj
  |cons _ _=>rfl
 rw [Qv]
 have RW: ∀l∈ls,∃e te rows out kp,Ag bY.heap l=some (.Ao e te rows out kp):= λl hl=>by
  have:=nU l hl
  unfold iX at this
  split at this
  ·exact ⟨_,_,_,_,_,by assumption⟩
  ·cases this
 have srv: ∀k b,Ag st.heap k=some b-> ∃b',Ag (Yl bY.heap ls n st.heap) k=some b'/\b.Nn b':= λk b hb=>by
  rw [Pc,hb]
  refine ⟨_,rfl,?_⟩
  dsimp only
  split
  ·exact OB.uD b _
  ·exact OB.Nn.rfl' b
 have hac:(∀fr τ cs x,Cells w' (Bi X.w0.heap.size X.Sc π' fr) τ cs x->Cells w' (Bi X.w0.heap.size X.Sc π' fr) τ cs x)-> ∀c v,Ec X w' π' st.heap c v->Ec X w' π' (Yl bY.heap ls n st.heap) c v:= λhc=>
  jk (f:= λc=>c) (D:= λ_=>False) (Pt:= λ_=>False) (λc=> .inr ⟨rfl,λ_ _ h=>h,λ_ _ _ _ h=>h⟩) (λk _=>bG.rfl' _) (λk b _ hb=>srv k b hb) (λ_ _ _ _ _ _ _ _=>rfl) hc
 have h1:Al X π' {tmps:=st.tmps.map (·.map λc=>c),heap:=Yl bY.heap ls n st.heap} a w':=by
  refine h.jl rfl (gv:= λ_=>False) (λ_ hf=>hf.elim) (Gq.refl _ _ _) (λ_ _ ho=>ho) h.1.sub h.1.place h.1.inj (λl hl Et=>h.1.dv l hl λh2=>Et (by rw [Pc,h2];rfl)) hac (λm l b hb=>?_) (λl hl=>?_)
  ·rw [Pc] at hb
   cases h2:Ag st.heap l with
   |none=>rw [h2] at hb;cases hb
   |some b0=>
    rw [h2] at hb
    simp only [Option.map_some,Option.some.injEq] at hb
    have hbk:=(h.1.heap l).Na h2
    have yW:=hbk.move m (Nat.le_refl _) (λr0 c h0 h1=>h.1.sub _ r0 c h0 h1) λ_ _ _ _ _=>rfl
    rw [show OB.map (λc=>c) b0=b0 from OB.xu b0] at yW
    split at hb
    ·rename_i hc
     have hl:l∈ls:=by simpa using hc
     cases b0 with
     |Ao e te rows out kp=>
      simp only [OB.ye] at hb
      subst hb
      refine ⟨yW.1,?_⟩
      obtain ⟨e0,te0,WL,Aju,kp0,hg⟩:=RW l hl
      have pZ:=((h0.1.heap l).Na hg).2
      rw [hg]
      simp only [ZB]
      have q7:=hk l hl
      cases kp0 with
      |none=>trivial
      |some p=>
       obtain ⟨l0,n0⟩:=p
       simp only [KeptAt,Wg] at pZ⊢
       cases tB:X.dv l0 with
       |none=>
        cases hp:π l with
        |none=>
         rw [hp] at q7
         cases EJ:π' l with
         |none=>trivial
         |some q=>rw [EJ] at q7;exact q7.elim
        |some q=>rw [tB,hp] at pZ;exact pZ.elim
       |some r0=>
        cases hp:π l with
        |none=>rw [tB,hp] at pZ;exact pZ.elim
        |some q=>
         rw [tB,hp] at pZ
         rw [hp] at q7
         cases EJ:π' l with
         |none=>rw [EJ] at q7;exact q7.elim
         |some q'=>
          rw [EJ] at q7
          obtain ⟨k1,k2,k3,k4⟩:=q7
          obtain ⟨g1,g2,g3,g4⟩:=pZ
          refine ⟨k1.trans g1,k2.trans g2,k3.trans g3,λj hj hc=>?_⟩
          have e1:=g4 j (by omega) hc
          have e2:=k4 j (by omega) (by omega)
          rw [g1,g2] at e2
          rw [<-e1,e2]
     |_=>simp only [OB.ye] at hb;subst hb;exact yW
    ·subst hb;exact yW
  ·rw [Pc] at hl
   cases h2:Ag st.heap l with
   |none=>exact (h.1.heap l).emp h2
   |some b=>rw [h2] at hl;cases hl
 have LK: ∀c v,Ar X w' π' st.heap c v->Ar X w' π' (Yl bY.heap ls n st.heap) c v:= λc v hv=>by
  have m:Move X w' w' π' π' st.heap (Yl bY.heap ls n st.heap) (λc=>c):=⟨hac λ_ _ _ _ h=>h,λ_ _ _ _ h=>h⟩
  have:=m.av hv
  rwa [AC.map_id] at this
 refine ⟨⟨h1.1,⟨?_,h.2.defers,λt=>?_⟩⟩,LK⟩
 ·have: ∀(l m:List AV),(Hj ls l m).length=m.length:=by
   intro l
   induction l with
   |nil=>intro m;cases m<;>rfl
   |cons a l ih=>
    intro m
    cases m with
    |nil=>cases a with
     | «at»c=>cases c<;>rfl
     |_=>rfl
    |cons v m=>cases a with
     | «at»c=>cases c<;>simp only [Hj,List.length_cons,ih m]
     |_=>simp only [Hj,List.length_cons,ih m]
  show a.tmps.size=(Hj ls bY.tmps st.tmps).length
  rw [this];exact h.2.size
 ·show Ar X w' π' _ ((Hj ls bY.tmps st.tmps).getD t .undef) _
  rcases bu ls bY.tmps st.tmps t (by rw [<-h0.2.size,<-h.2.size]) with ⟨k,i,c,g1,g2,g3⟩|g
  ·rw [g3]
   have Hx:k∈ls:=by simpa using g2
   obtain ⟨i1,i2⟩:=pv bL g1 g2
   have hv:=h0.2.tmps t
   rw [show bY.get t=_ from g1] at hv
   obtain ⟨r,b,sz,n',e1,e2,e3,e4,⟨e5,e6⟩,e7⟩:=hv
   obtain ⟨e0,te0,WL,Aju,kp0,hg⟩:=RW k Hx
   rw [hg] at e1;cases e1
   simp only [OB.bM,Option.some.injEq,Prod.mk.injEq] at e2
   obtain ⟨rfl,rfl⟩:=e2
   have q7:=hk k Hx
   rw [e3] at q7
   cases EJ:π' k with
   |none=>rw [EJ] at q7;exact q7.elim
   |some q'=>
    rw [EJ] at q7
    obtain ⟨k1,k2,k3,k4⟩:=q7
    have nT:WL.length<=r.cap:=by
     have:=((h0.1.heap k).Na hg).1
     rw [e3] at this
     obtain ⟨_,_,_,_,_,_,h5,_⟩:=this
     exact h5
    unfold mM at i2
    split at i2
    ·rename_i e9 te9 Aem Apb kp9 hg9
     refine ⟨q',_,1,Aem.length,by rw [Pc,hg9];rfl,?_,EJ,i2,⟨e5,e6⟩,?_⟩
     ·dsimp only
      split<;>rfl
     ·have gB:c=0:=by omega
      subst gB
      rw [k1,k2]
      rw [Nat.mul_one,Nat.add_zero] at e7⊢
      rw [k4 i i1 (by omega)];exact e7
    ·omega
  ·rw [g]
   exact LK _ _ (h.2.tmps t)
theorem kP {ins:List (Bool×CK)} {as:List AC} {pl:List Nat} {st:St} :(mq ins as pl st).tmps=st.tmps:=by
 unfold mq
 split
 ·rfl
 ·split<;>rfl
theorem BN {ins:List (Bool×CK)} {as:List AC} {pl:List Nat} {st:St} {m:Nat} (hm:m∉pl):Ag (mq ins as pl st).heap m=Ag st.heap m:=by
 unfold mq
 split
 ·rfl
 ·rename_i l r
  split
  ·exact Cr _ _ _ _ λe=>hm (e▸List.mem_cons_self)
  ·rfl
theorem IK {ins:List (Bool×CK)} {as:List AC} {l:Nat} {st:St} {tid:TypeId} {vs:List AC} (hl:Ag st.heap l=some (.var tid vs)):Ag (mq ins as [l] st).heap l=some (.var tid (bT ins vs as)):=by
 simp only [mq,St.at,hl]
 exact Cw _ _ _ _ hl
theorem sd {α:Type} (ins:List (Bool×CK)) (as:List α):bT ins [] as= []:=by
 rcases ins with _|⟨⟨_|_,c⟩,r⟩<;>rfl
theorem kH {α:Type} : ∀(ins:List (Bool×CK)) (vs as:List α),(bT ins vs as).length=vs.length
 | [],vs,as=>by rw [bT];all_goals simp
 |p::r,[],as=>by rw [sd]
 |(true,c)::r,v::vs,as=>by simp only [bT,List.length_cons,kH r vs as]
 |(false,c)::r,v::vs,[]=>by rw [bT];all_goals simp
 |(false,c)::r,v::vs,a::as=>by simp only [bT,List.length_cons,kH r vs as]
theorem IB {st:St} {a:Act} (h:Al X π st a w) {s:MSpec} {lf:List AV} {vs:List Value} (hlen:lf.length=vs.length) (LK: ∀(i:Nat) c v,lf[i]?=some c->vs[i]?=some v->Ar X w π st.heap c v)
  {pl:List Nat} {cells:List AC} {rest:List AV} (he:EZ st s lf=some (pl,cells,rest)):
  ∃(g:Nat) (UK sB:List Value),rest.length=sB.length/\(∀(i:Nat) c v,rest[i]?=some c->sB[i]?=some v->Ar X w π st.heap c v)/\Iq X w π st.heap cells UK/\
   ((s.ptr=none/\pl= []/\cells= []/\UK= []/\vs=sB)\/
    ∃p l q,s.ptr=some p/\pl= [l]/\π l=some q/\q.Bc q.g/\g=q.g/\Ag st.heap l=some (.var p.1 cells)/\cells.length=p.2/\vs= .pointer (some ⟨g,0,none⟩)::sB/\w.heap[g]?=some (.cells UK.toArray p.1 (0,0))/\Dd X w π st.heap cells UK):=by
 unfold EZ at he
 split at he
 ·rename_i hp
  simp only [Option.some.injEq,Prod.mk.injEq] at he
  obtain ⟨rfl,rfl,rfl⟩:=he
  exact ⟨0,[],vs,hlen,LK,trivial, .inl ⟨hp,rfl,rfl,rfl,rfl⟩⟩
 ·rename_i p hp
  split at he
  ·rename_i l i Alx
   split at he
   ·rename_i tid cs hl
    split at he
    ·rename_i hc
     obtain ⟨rfl,hc,rfl⟩:=hc
     simp only [Option.some.injEq,Prod.mk.injEq] at he
     obtain ⟨rfl,rfl,rfl⟩:=he
     unfold St.at at hl
     cases vs with
     |nil=>simp at hlen
     |cons v vs=>
      obtain ⟨r,Ov,vR,h1,h2,rfl⟩:=LK 0 _ v rfl rfl
      rw [hl] at h1;cases h1
      obtain ⟨r',h3,h4,cur,h5,h6⟩:=(h.1.heap l).Na hl
      rw [h2] at h3;cases h3
      exact ⟨r.g,cur.toList,vs,by simpa using hlen,λi c v h7 h8=>LK (i+1) c v (by simpa using h7) (by simpa using h8),Iq.of h6, .inr ⟨p,l,r,hp,rfl,h2,h4,rfl,hl,hc,rfl,by simpa using h5,h6⟩⟩
    ·cases he
   ·cases he
  ·cases he
theorem eK {V:List Nat} {πc:Pi} {dead part:List Nat} (WA: ∀l,l∉dead->π' l=π l) (Rn: ∀l b sz n,l∉dead->Ag H l=some b->b.row=some (sz,n)-> ∃b',Ag H' l=some b'/\b'.row=some (sz,n)):
  ∀(ins:List (Bool×CK)) (k:Nat) (cells jF:List AC) (x:Ins.den ins) (us:List Value) (o:IOs.den ins) (cur st1:St) (news:List AC) (Tu cs:List Value),mb X w π V H πc k ins x (cells++jF) us->Qd ins cells=true->
   Eg ins o (cells++jF) cur=some st1->Ci πc k ins o cells.length cs Tu->Iq X w' π' H' news Tu->Iq X w' π' H' (bT ins (cells.map (Az dead part)) news) cs
 |ins,k,[],jF,x,us,o,cur,st1,news,Tu,cs,_,_,_,hb,_=>by
  have hb:cs= []:=by rcases ins with _|⟨⟨_|_,c⟩,r⟩<;>(try cases c)<;>simpa [Ci] using hb
  rw [hb,List.map_nil,sd]
  trivial
 | [],k,a::cells,jF,x,us,o,cur,st1,news,Tu,cs,_,hk,_,_,_=>by simp [Qd] at hk
 |(true, .Dy τ)::r,k,a::cells,jF,x,us,o,cur,st1,news,Tu,cs,_,hk,_,_,_=>by simp [Qd] at hk
 |(true, .part e te)::r,k,a::cells,jF,x,us,o,cur,st1,news,Tu,cs,_,hk,_,_,_=>by simp [Qd] at hk
 |(true, .Ao e te _)::r,k,a::cells,jF,x,us,o,cur,st1,news,Tu,cs,_,hk,_,_,_=>by simp [Qd] at hk
 |(true, .row e te)::r,k,a::cells,jF,x,us,o,cur,st1,news,Tu,cs,ht,hk,hp,hb,hn=>by
  cases a<;>simp only [Qd,Bool.false_eq_true] at hk
  rename_i l off len
  cases us with
  |nil=>exact ht.elim
  |cons u0 us=>
  cases cs with
  |nil=>exact hb.elim
  |cons u cs=>
  obtain ⟨⟨_,h1⟩,h2⟩:=ht
  simp only [Nt] at h1
  obtain ⟨h3,rfl,rfl,fr,tr,h4⟩:=h1
  obtain ⟨h5,h6⟩:=hb
  simp only [List.cons_append,Eg] at hp
  split at hp
  rotate_left
  ·cases hp
  rename_i Up YJ
  have LV:List.length o.1=List.length x.1:=by
   simp only [Xa] at YJ
   repeat' split at YJ
   all_goals first|(cases YJ;done)|(rename_i hc;exact hc.2.1)
  refine ⟨?_,eK WA Rn r (k+1) cells jF x.2 us o.2 Up st1 news Tu cs h2 hk hp h6 hn⟩
  by_cases hd:l∈dead
  ·have:Az dead part (.own l 0 (List.length x.1))= .undef:=by
    unfold Az
    rw [if_pos (by simp [AC.refs,hd])]
   rw [this];trivial
  ·rw [Xl (by simpa [AC.refs] using hd) (by intro l i j e;rcases e with e|e<;>cases e)]
   obtain ⟨b',g1,g2⟩:=Rn l _ e.size (List.length x.1) hd h4 rfl
   refine ⟨b',e.size,List.length x.1,g1,g2,by omega,?_⟩
   rw [WA l hd]
   rw [h3,LV] at h5
   cases hp:π l<;>(rw [hp] at h5;exact h5)
 |(true, .Dx e te)::r,k,a::cells,jF,x,us,o,cur,st1,news,Tu,cs,ht,hk,hp,hb,hn=>by
  cases a<;>simp only [Qd,Bool.false_eq_true] at hk
  rename_i l off len
  cases us with
  |nil=>exact ht.elim
  |cons u0 us=>
  cases cs with
  |nil=>exact hb.elim
  |cons u cs=>
  obtain ⟨⟨_,h1⟩,h2⟩:=ht
  simp only [Nt] at h1
  obtain ⟨h3,rfl,rfl,h4⟩:=h1
  obtain ⟨h5,h6⟩:=hb
  simp only [List.cons_append,Eg] at hp
  split at hp
  rotate_left
  ·cases hp
  rename_i Up YJ
  have LV:List.length o.1=List.length x.1:=by
   simp only [Xa] at YJ
   repeat' split at YJ
   all_goals first|(cases YJ;done)|(rename_i hc;exact hc.2.1)
  refine ⟨?_,eK WA Rn r (k+1) cells jF x.2 us o.2 Up st1 news Tu cs h2 hk hp h6 hn⟩
  by_cases hd:l∈dead
  ·have:Az dead part (.own l 0 (List.length x.1))= .undef:=by
    unfold Az
    rw [if_pos (by simp [AC.refs,hd])]
   rw [this];trivial
  ·rw [Xl (by simpa [AC.refs] using hd) (by intro l i j e;rcases e with e|e<;>cases e)]
   obtain ⟨b',g1,g2⟩:=Rn l _ e.size (List.length x.1) hd h4 rfl
   refine ⟨b',e.size,List.length x.1,g1,g2,by omega,?_⟩
   rw [WA l hd]
   rw [h3,LV] at h5
   cases hp:π l<;>(rw [hp] at h5;exact h5)
 |(false,c)::r,k,a::cells,jF,x,[],o,cur,st1,news,Tu,cs,ht,hk,hp,hb,hn=>ht.elim
 |(false,c)::r,k,a::cells,jF,x,u0::us,o,cur,st1,news,Tu,[],ht,hk,hp,hb,hn=>by cases c<;>exact hb.elim
 |(false,c)::r,k,a::cells,jF,x,u0::us,o,cur,st1,news,[],u::cs,ht,hk,hp,hb,hn=>by cases c<;>exact hb.elim
 |(false,c)::r,k,a::cells,jF,x,u0::us,o,cur,st1,[],u'::Tu,u::cs,ht,hk,hp,hb,hn=>hn.elim
 |(false,c)::r,k,a::cells,jF,x,u0::us,o,cur,st1,na::news,u'::Tu,u::cs,ht,hk,hp,hb,hn=>by
  have hb2:u=u'/\Ci πc (k+1) r o cells.length cs Tu:=by cases c<;>exact hb
  obtain ⟨rfl,hb3⟩:=hb2
  have hp:Eg r o (cells++jF) cur=some st1:=by cases c<;>simpa only [List.cons_append,Eg] using hp
  have hk:Qd r cells=true:=by cases c<;>simpa only [Qd] using hk
  exact ⟨hn.1,eK WA Rn r (k+1) cells jF x.2 us o cur st1 news Tu cs ht.2 hk hp hb3 hn.2⟩
theorem yA {V:List Nat} {πc:Pi} : ∀(cs:List (Bool×CK)) (k0:Nat) (x:Ins.den cs) (as:List AC) (us:List Value),k0+cs.length<100000->mb X w π V H πc k0 cs x as us-> ∀k l,(Cb false k,Loc.row l)∈Hk k0 cs as->πc (Cb false k)=(π l).map full
 | [],_,_,[],_,_,_,_,_,h=>by cases h
 | [],_,_,_::_,_,_,_,_,_,h=>by cases h
 |_::_,_,_,[],_,_,_,_,_,h=>by cases h
 |_::_,_,_,_::_,[],_,h,_,_,_=>h.elim
 |(io,c)::r,k0,x,a::as,u::us,hk,h,k,l,ht=>by
  simp only [List.length_cons] at hk
  simp only [Hk] at ht
  rcases List.mem_append.1 ht with ht|ht
  ·obtain ⟨⟨_,h1⟩,_⟩:=h
   cases c with
   |Dy τ=>cases a<;>simp [La,views] at ht
   |row e te=>
    cases a<;>simp [La] at ht
    obtain ⟨e1,rfl⟩:=ht
    simp only [Nt] at h1
    rw [e1];exact h1.1
   |Dx e te=>
    cases a<;>simp [La] at ht
    obtain ⟨e1,rfl⟩:=ht
    simp only [Nt] at h1
    rw [e1];exact h1.1
   |part e te=>
    cases a<;>simp [La] at ht
    obtain ⟨e1,rfl⟩:=ht
    simp only [Nt] at h1
    rw [e1];exact h1.2.1
   |Ao e te kp=>
    cases a<;>simp [La] at ht
    obtain ⟨e1,rfl⟩:=ht
    simp only [Nt] at h1
    rw [e1];exact h1.2.1
  ·exact yA r (k0+1) x.2 as us (by omega) h.2 k l ht
theorem me {st:St} {a:Act} (h:Al X π st a w) {f:FuncId} {s:MSpec} (hs:Bq P f s) (dst:Option Nat) (lf:List AV) (vs:List Value) (hlen:lf.length=vs.length)
  (LK: ∀(i:Nat) c v,lf[i]?=some c->vs[i]?=some v->Ar X w π st.heap c v) (av:AV) (st':St) (he:Ri st dst s lf=some (av,st')):
  Calls P f vs.toArray w λe w'=> ∃v,e= .returned v/\ ∃π',Al X π' st' a w'/\Ar X w' π' st'.heap av v:=by
 unfold Ri at he
 split at he
 ·cases he
 rename_i pl cells rest Aiu
 split at he
 ·cases he
 rename_i jF KC
 split at he
 ·cases he
 rename_i x tks htk
 split at he
 rotate_left
 ·cases he
 rename_i Fv
 simp only [Bool.and_eq_true,Nat.blt_eq] at Fv
 obtain ⟨⟨⟨⟨q9,nY⟩,YH⟩,Iv⟩,Acw,GM⟩:=Fv
 have GM: ∀l∈pl,l∉(tks.map λt=>t.2.Qx)/\l∉Mo s tks (dst.getD 0):= λl hl=>by
  have:=List.all_eq_true.1 GM l hl
  simp only [Bool.not_eq_true',<-Bool.not_eq_true,List.contains_iff_mem] at this
  exact ⟨λhm=>this (List.mem_append_left _ hm),λhm=>this (List.mem_append_right _ hm)⟩
 split at he
 ·cases he
 rename_i r o hfn
 split at he
 ·cases he
 rename_i st1 YM
 obtain ⟨g,UK,sB,Acx,Ahf,Aix,hpt⟩:=IB h hlen LK Aiu
 obtain ⟨qQ,rfl,EM,Aiw⟩:=Xz s.Hq rest sB jF Acx Ahf KC
 have YO:=Aix.append Aiw
 have Lq:jJ s w g (UK++qQ) vs:=by
  unfold jJ
  rcases hpt with ⟨h1,_,_,h2,h3⟩|⟨p,l,q,h1,_,_,_,_,_,h2,h3,h4,h5⟩
  ·rw [h1];subst h2;exact ⟨h3,EM⟩
  ·rw [h1]
   have hl:UK.length=p.2:=h5.1.trans h2
   simp only
   rw [List.drop_append_of_le_length (by omega),List.take_append_of_le_length (by omega),List.take_of_length_le (by omega),List.drop_of_length_le (by omega)]
   refine ⟨h3,EM,by simp;omega,h4,λu hu=>?_⟩
   obtain ⟨i,hi,rfl⟩:=List.mem_iff_getElem.1 hu
   obtain ⟨u',h6,h7,_⟩:=h5.2 i (cells[i]'(by have:=h5.1;omega)) (List.getElem?_eq_getElem _)
   rw [List.getElem?_eq_getElem hi] at h6
   rw [Option.some.inj h6];exact h7
 have GN: ∀l∈pl,∃p q,s.ptr=some p/\pl= [l]/\π l=some q/\q.Bc q.g/\g=q.g/\Ag st.heap l=some (.var p.1 cells)/\cells.length=p.2:= λl hl=>by
  rcases hpt with ⟨_,h1,_⟩|⟨p,l',q,h1,h2,h3,h4,h5,h6,h7,_⟩
  ·rw [h1] at hl;cases hl
  ·rw [h2] at hl
   have:=List.mem_singleton.1 hl
   subst this
   exact ⟨p,q,h1,h2,h3,h4,h5,h6,h7⟩
 have GI: ∀b,s.gv g b-> ∃l∈pl,∃q,π l=some q/\q.Bc b/\b=q.g:= λb ⟨h1,h2⟩=>by
  rcases hpt with ⟨h3,_⟩|⟨p,l',q,_,h4,h5,h6,h7,_⟩
  ·rw [h3] at h1;cases h1
  ·exact ⟨l',by rw [h4];exact List.mem_singleton.2 rfl,q,h5,by rw [h2,h7];exact h6,h2.trans h7⟩
 obtain ⟨as,has⟩: ∃as,as=cells++jF:=⟨_,rfl⟩
 obtain ⟨us,MH⟩: ∃us,us=UK++qQ:=⟨_,rfl⟩
 rw [<-has] at YO htk YM
 rw [<-MH] at YO Lq
 let V:=(tks.filter λt=>t.2.reads).map λt=>t.2.Qx
 have hV: ∀t∈tks,t.2.reads=true->t.2.Qx∈V:= λt ht hr=>List.mem_map.2 ⟨t,List.mem_filter.2 ⟨ht,hr⟩,rfl⟩
 have hV': ∀l∈V,∃t∈tks,t.2.reads=true/\t.2.Qx=l:= λl hl=>by
  obtain ⟨t,h1,h2⟩:=List.mem_map.1 hl
  exact ⟨t,(List.mem_filter.1 h1).1,(List.mem_filter.1 h1).2,h2⟩
 clear_value V
 obtain ⟨QG,πc,hT,LN,Ahz,Qc⟩:=pB h.1 (V:=V) s.ins 0 as us x tks (by omega) YO htk hV
 have zL:=Rt q9
 rw [QG] at zL
 have Zr: ∀b,Pq πc b-> ∃t∈Hk 0 s.ins as,t.2.reads=false/\ ∃q,π t.2.Qx=some q/\q.Bc b/\ ∀l i j,t.2= .sub l i j->b≠q.g:= λb ⟨c,q,h1,h2⟩=>by
  obtain ⟨t,t1,_,t3⟩:=Qc c q b h1 h2
  exact ⟨t,t1,t3⟩
 have zN: ∀b,Pq πc b->Pq π b:= λb hb=>let ⟨t,_,_,q,h1,h2,_⟩:=Zr b hb;⟨_,q,h1,h2⟩
 have cZ:ct πc (λb=>b<w.heap.size):=⟨λl q b h1 h2=>(h.1.own (zN b ⟨l,q,h1,h2⟩)).1,λl l' q q' b h1 h2 h3 h4=>by
  obtain ⟨t,t1,t2,_,p,t3,t4,_⟩:=Qc l q b h1 h3
  obtain ⟨t',t1',t2',_,p',t3',t4',_⟩:=Qc l' q' b h2 h4
  have:=tQ zL t1 t1' (h.1.apart t3 t3' t4 t4')
  rw [<-t2,<-t2',this]⟩
 have Aca: ∀k l,(Cb false k,Loc.row l)∈Hk 0 s.ins as->πc (Cb false k)=(π l).map full:= λk l ht=>
  yA s.ins 0 x as us (by omega) hT k l ht
 have Adt: ∀b,Pq πc b->Jy X π V b:= λb hb=> .inl ⟨zN b hb,λl hl r' hr hf=>by
  obtain ⟨t,t1,t0,q,t3,t4,_⟩:=Zr b hb
  obtain ⟨t',t1',t2',rfl⟩:=hV' l hl
  rw [QG] at t1'
  have:=tQ zL t1 t1' (h.1.apart t3 hr t4 hf)
  subst this
  rw [t0] at t2';cases t2'⟩
 let S:Nat->Prop:= λb=> ¬Pq πc b/\Jy X π V b
 have hS: ∀b,S b->b<w.heap.size/\ ¬Pq πc b:= λb hb=>⟨by
  rcases hb.2 with h1|h1
  ·exact (h.1.own h1.1).1
  ·exact Nat.lt_of_lt_of_le (h.1.sc b h1).1 h.1.below.size,hb.1⟩
 have SH: ∀l∈pl,∀t∈Hk 0 s.ins as,t.2.Qx≠l:= λl hl t ht e=>(GM l hl).1 (List.mem_map.2 ⟨t,QG▸ht,e⟩)
 have hSg:s.ptr.isSome=true->S g:= λhps=>by
  obtain ⟨l,hl,q,h1,h2,h3⟩:=GI g ⟨hps,rfl⟩
  have hno: ¬Pq πc g:= λhb=>by
   obtain ⟨t,t1,_,q',t3,t4,_⟩:=Zr g hb
   exact SH l hl t t1 (h.1.apart t3 h1 t4 h2)
  refine ⟨hno, .inl ⟨⟨l,q,h1,h2⟩,λl' Hl r' gE hf=>?_⟩⟩
  obtain ⟨t',t1',_,rfl⟩:=hV' l' Hl
  rw [QG] at t1'
  exact SH l hl t' t1' (h.1.apart gE h1 hf h2)
 refine (hs.calls w S πc us x r o g vs Lq hSg (au.Fe (λb hb=>hb.elim (Adt b) λh=>h.2) s.ins 0 x us (hT.Ae2 s.ins 0 x as us)) cZ hS Ahz hfn).mono ?_
 rintro e w' ⟨v,Tu,vS,rfl,aO,ru,RR,tt,Ad6,MA,YY,rD⟩
 obtain ⟨ρ,SO,o3,LZ,UZ⟩: ∃ρ:Pi,(∀l,ρ l=(vS l).map full)/\Ff w' (eS S πc vS) ρ 0 s.outs r Tu/\ct ρ (λb=>b<w'.heap.size/\(w.heap.size<=b\/ ∃l q,l<Am/\πc l=some q/\q.Bc b))/\ ∀l q,ρ l=some q->q.cl=q.Bc:=by
  have un: ∀l q,(vS l).map full=some q-> ∃q0,vS l=some q0/\q=full q0:= λl q hq=>by
   cases hp:vS l with
   |none=>rw [hp] at hq;cases hq
   |some q0=>rw [hp] at hq;exact ⟨q0,rfl,(Option.some.inj hq).symm⟩
  refine ⟨λl=>(vS l).map full,λ_=>rfl,Ff.full s.outs 0 r Tu Ad6,⟨λl q b h1 h2=>?_,λl l' q q' b h1 h2 h3 h4=>?_⟩,λl q h1=>?_⟩
  ·obtain ⟨q0,h5,rfl⟩:=un l q h1
   exact MA.Nv l q0 b h5 h2
  ·obtain ⟨q0,h5,rfl⟩:=un l q h1
   obtain ⟨q0',h6,rfl⟩:=un l' q' h2
   exact MA.inj l l' q0 q0' b h5 h6 h3 h4
  ·obtain ⟨q0,_,rfl⟩:=un l q h1
   rfl
 refine ⟨v,rfl,?_⟩
 split at he
 ·cases he
 rename_i av0 da
 split at he
 rotate_left
 ·cases he
 rename_i Lu
 simp only [Option.some.injEq,Prod.mk.injEq] at he
 obtain ⟨rfl,rfl⟩:=he
 let D1:Nat->Prop:=if s.flat then λ_=>True else eS S πc vS
 have Ai2:Ht w' D1 πc 0 s.ins o:=by
  show Ht w' (if s.flat then λ_=>True else eS S πc vS) πc 0 s.ins o
  split
  ·rename_i hf
   unfold MSpec.flat at hf
   simp only [Bool.and_eq_true] at hf
   exact Ht.any s.ins 0 o hf.2 tt
  ·exact tt
 have Ad7:Ff w' D1 ρ 0 s.outs r Tu:=by
  show Ff w' (if s.flat then λ_=>True else eS S πc vS) ρ 0 s.outs r Tu
  split
  ·rename_i hf
   unfold MSpec.flat at hf
   simp only [Bool.and_eq_true] at hf
   exact Ff.any s.outs 0 r Tu hf.1 o3
  ·exact o3
 obtain ⟨q1,q2,q3,q4⟩:=oL (D:=D1) (X:=X) (π:=π) (H:=st.heap) h.1 RR.size (tks:=Hk 0 s.ins as) (πc:=πc) (λt ht q b hq hb Hm hn=>RR.block b Hm λzM=>by
   rcases zM with ⟨c,r',h1,h2⟩|hg
   rotate_left
   ·obtain ⟨l,hl,q',h1,h2,_⟩:=GI b hg
    exact SH l hl t ht (h.1.apart hq h1 hb h2)
   obtain ⟨t',t1,t2,_,p,t3,t4,_⟩:=Qc c r' b h1 h2
   have:=tQ zL ht t1 (h.1.apart hq t3 hb t4)
   subst this
   exact hn r' (t2▸h1) h2) s.ins 0 x as us o st st1 (by omega) (λ_ h=>h) zL hT Ai2 YM (λ_ _=>rfl)
 have YP: ∀t∈Hk 0 s.ins as,t.2.reads=true->t.1<Am:=by
  have: ∀(cs:List (Bool×CK)) (k:Nat) (as:List AC),k+cs.length<100000-> ∀t∈Hk k cs as,t.2.reads=true->t.1<Am:=by
   intro cs
   induction cs with
   |nil=>intro k as _ t ht;cases as<;>cases ht
   |cons p r ih=>
    intro k as hk t ht hr
    simp only [List.length_cons] at hk
    cases as with
    |nil=>cases ht
    |cons a as=>
     simp only [Hk] at ht
     rcases List.mem_append.1 ht with ht|ht
     ·rcases yz ht with ⟨_,h1⟩|⟨h1,_⟩
      ·rw [hr] at h1;cases h1
      ·rw [h1];exact bh (by omega)
     ·exact ih (k+1) as (by omega) t ht hr
  exact this s.ins 0 as (by omega)
 let d:=dst.getD 0
 let ks:=Mo s tks d
 let dead:=iC tks++ks++(if s.flat then [] else vA tks)
 let part:=whole tks
 have Aj0:s.outs.length+(gR s d).length=s.Oo:=by unfold MSpec.Oo gR;cases s.rp<;>rfl
 obtain ⟨XY,Aie,VI⟩:ks.length=s.Oo/\ks.Nodup/\ ∀l∈ks,l<Am:=by
  have:=zZ nY
  rw [Aj0] at this
  exact this
 have hno:s.outs.length<=s.Oo:=by unfold MSpec.Oo;omega
 have SL: ∀tid,s.rp=some tid->Cc ks s.outs.length=Ns d/\s.Oo=s.outs.length+1:= λtid Ro=>by
  have h1:s.Oo=s.outs.length+1:=by unfold MSpec.Oo;rw [Ro]
  refine ⟨?_,h1⟩
  have h2:ks=iv s tks d++ [Ns d]:=by show iv s tks d++gR s d=_;unfold gR;rw [Ro]
  have h3:(iv s tks d).length=s.outs.length:=by rw [h2] at XY;simp at XY;omega
  rw [Ly (by rw [XY];omega)]
  simp only [h2]
  rw [List.getElem_append_right (by omega)]
  simp [h3]
 have LU:=wm Aie VI
 have Aic: ∀j,j<s.Oo->Cc ks j<Am:= λj hj=>VI _ (mem_keys.2 ⟨j,by omega,rfl⟩)
 let π':Pi:= λl=>match (List.range s.Oo).find? λj=>decide (Cc ks j=l) with
  |some j=>ρ (Gc j)
  |none=>if l∈dead then none else π l
 have q6: ∀j,j<s.Oo->π' (Cc ks j)=ρ (Gc j):= λj hj=>by
  show (match (List.range s.Oo).find? λi=>decide (Cc ks i=Cc ks j) with|some i=>ρ (Gc i)|none=>_)=_
  cases hf:(List.range s.Oo).find? λi=>decide (Cc ks i=Cc ks j) with
  |none=>
   have:=List.find?_eq_none.1 hf j (List.mem_range.2 hj)
   simp at this
  |some i=>
   have:=List.find?_some hf
   rw [LU i j (of_decide_eq_true this)]
 have nW: ∀j,j<s.Oo->Cc ks j∈dead:= λj hj=>List.mem_append_left _ (List.mem_append_right _ (mem_keys.2 ⟨j,by omega,rfl⟩))
 have tv: ∀l,(¬ ∃j,j<s.Oo/\l=Cc ks j)->π' l=if l∈dead then none else π l:= λl hl=>by
  show (match (List.range s.Oo).find? λi=>decide (Cc ks i=l) with|some i=>ρ (Gc i)|none=>_)=_
  cases hf:(List.range s.Oo).find? λi=>decide (Cc ks i=l) with
  |none=>rfl
  |some i=>
   have h1:=List.find?_some hf
   exact absurd ⟨i,List.mem_range.1 (List.mem_of_find?_eq_some hf),(of_decide_eq_true h1).symm⟩ hl
 have MK: ∀l,l∉dead->π' l=π l:= λl hl=>by
  rw [tv l (λ⟨j,h1,h2⟩=>hl (h2▸nW j h1)),if_neg hl]
 have hD1: ∀b,Pq π' b\/X.Sc b->D1 b:=by
  intro b hb
  show (if s.flat then λ_=>True else eS S πc vS) b
  split
  ·trivial
  rename_i hnf
  rcases hb with ⟨l,q,hl,hf⟩|hb
  ·by_cases hk: ∃j,j<s.Oo/\l=Cc ks j
   ·obtain ⟨j,hj,rfl⟩:=hk
    rw [q6 j hj,SO] at hl
    cases hp:vS (Gc j) with
    |none=>rw [hp] at hl;cases hl
    |some q0=>rw [hp] at hl;simp only [Option.map_some,Option.some.injEq] at hl;subst hl;exact .inr (.inr ⟨Gc j,q0,hp,hf⟩)
   ·have e0:π' l=if l∈dead then none else π l:=tv l hk
    rw [e0] at hl
    split at hl
    ·cases hl
    ·rename_i SE
     by_cases ho:Pq πc b
     ·obtain ⟨c,q',hc,hcb⟩:=ho
      obtain ⟨t,t1,t2,t0,p,t3,t4,_⟩:=Qc c q' b hc hcb
      have tw:=h.1.apart hl t3 hf t4
      refine .inr (.inl ⟨c,q',Classical.byContradiction λhn=>?_,hc,hcb⟩)
      exact SE (List.mem_append_left _ (List.mem_append_left _ (Zz.2 ⟨t,QG▸t1,⟨by rw [t2];omega,t0⟩,tw.symm⟩)))
     ·refine .inl ⟨ho, .inl ⟨⟨l,q,hl,hf⟩,λl0 YA r0 YN hf0=>?_⟩⟩
      have:=h.1.apart hl YN hf hf0
      subst this
      exact SE (List.mem_append_right _ (by rw [if_neg hnf];exact ou.2 (hV' l YA)))
  ·refine .inl ⟨λho=>?_, .inr hb⟩
   have h1:=h.1.sc b hb
   rcases (h.1.own (zN b ho)).2 with h2|h2
   ·omega
   ·exact h1.2 h2
 have hpd: ∀l∈pl,l∉dead:= λl hl hd=>by
  rcases List.mem_append.1 hd with hd|hd
  ·rcases List.mem_append.1 hd with hd|hd
   ·obtain ⟨t,ht,_,e⟩:=Zz.1 hd
    exact (GM l hl).1 (List.mem_map.2 ⟨t,ht,e⟩)
   ·exact (GM l hl).2 hd
  ·split at hd
   ·cases hd
   ·obtain ⟨t,ht,_,e⟩:=ou.1 hd
    exact (GM l hl).1 (List.mem_map.2 ⟨t,ht,e⟩)
 have XX: ∀j,j<s.Oo->Cc ks j∉pl:= λj hj hp=>hpd _ hp (nW j hj)
 let bv:Option OB:=s.rp.map λtid=> .var tid ((Wl (Cc ks) 0 s.outs r).drop s.Ui)
 let H1:=(mq s.ins (Wl (Cc ks) 0 s.outs r) pl (st1.Xk dead part)).heap
 have hH1: ∀l,l∉pl->Ag H1 l=if l∈dead then none else (Ag st1.heap l).map (OB.map (Az dead part)):= λl hl=>by
  show Ag (mq _ _ _ _).heap l=_
  rw [BN hl]
  show Ag (Rf (st1.heap.map λp=>(p.1,p.2.map (Az dead part))) dead) l=_
  rw [Ja,Kb]
 let H2:=x6 H1 (Ns d) bv
 have hvd: ∀tid,s.rp=some tid->Ns d∈dead/\Ns d∉pl:= λtid Ro=>by
  obtain ⟨e1,e2⟩:=SL tid Ro
  rw [<-e1]
  exact ⟨nW _ (by omega),XX _ (by omega)⟩
 have Ac4: ∀l,(∀tid,s.rp=some tid->l≠Ns d)->Ag H2 l=Ag H1 l:= λl hl=>by
  show Ag (x6 H1 (Ns d) (s.rp.map _)) l=_
  cases yY:s.rp with
  |none=>rfl
  |some tid=>exact Kh _ _ _ _ (hl tid yY)
 have Ah1: ∀tid,s.rp=some tid->Ag H2 (Ns d)=some (.var tid ((Wl (Cc ks) 0 s.outs r).drop s.Ui)):= λtid Ro=>by
  show Ag (x6 H1 (Ns d) (s.rp.map _)) (Ns d)=_
  rw [Ro]
  exact Lc _ _ _ (by rw [hH1 _ (hvd tid Ro).2,if_pos (hvd tid Ro).1])
 have hkv: ∀j,j<s.outs.length-> ∀tid,s.rp=some tid->Cc ks j≠Ns d:= λj hj tid Ro e=>by
  have:=LU j s.outs.length (e.trans (SL tid Ro).1.symm)
  omega
 have hH2: ∀l,l∉pl->(∀tid,s.rp=some tid->l≠Ns d)->Ag H2 l=if l∈dead then none else (Ag st1.heap l).map (OB.map (Az dead part)):= λl hl hv=>by
  rw [Ac4 l hv,hH1 l hl]
 let H':=Ru (DT st (iC tks)) (Cc ks) 0 s.outs r H2
 obtain ⟨n1,n2,n3⟩:=lN (D:=D1) (X:=X) (key:=Cc ks) LU (fr:=DT st (iC tks)) (ρ:=ρ) s.outs 0 r Tu H2 Ad7 (λj _ hj=>by
  rw [hH2 _ (XX j (by omega)) (hkv j (by omega)),if_pos (nW j (by omega))])
 have kd: ∀l,l∉dead->l∉pl->Ag H' l=(Ag st1.heap l).map (OB.map (Az dead part)):= λl hl q8=>by
  show Ag (Ru _ _ _ _ _ _) l=_
  rw [n1 l λj _ hj e=>hl (e▸nW j (by omega)),hH2 l q8 (λtid Ro e=>hl (e▸(hvd tid Ro).1)),if_neg hl]
 have RO: ∀l,l∈dead->(∀j,j<s.Oo->l≠Cc ks j)->Ag H' l=none:= λl hl hj=>by
  show Ag (Ru _ _ _ _ _ _) l=_
  rw [n1 l λj _ h2=>hj j (by omega),hH2 l (λhp=>hpd l hp hl) (λtid Ro e=>hj s.outs.length (by have:=(SL tid Ro).2;omega) (e.trans (SL tid Ro).1.symm)),if_pos hl]
 have newAt: ∀l b',Ag H' l=some b'->(l∈dead\/Ag st.heap l=none)-> ∃j,j<s.Oo/\l=Cc ks j:=by
  intro l b' hb hd
  refine Classical.byContradiction λhn=>?_
  have jI: ∀j,j<s.Oo->l≠Cc ks j:= λj hj e=>hn ⟨j,hj,e⟩
  rcases Classical.em (l∈dead) with hd'|hd'
  ·rw [RO l hd' jI] at hb;cases hb
  ·rcases hd with hd|hd
   ·exact hd' hd
   ·rw [kd l hd' (λhp=>by obtain ⟨_,_,_,_,_,_,_,h1,_⟩:=GN l hp;rw [hd] at h1;cases h1)] at hb
    have:Ag st1.heap l=none:=by
     by_cases hi: ∃t∈Hk 0 s.ins as,t.2.Qx=l
     ·obtain ⟨t,ht,e⟩:=hi
      by_cases Hm:t.1<Am
      ·rw [<-e,q3 t ht Hm,e];exact hd
      ·obtain ⟨b0,_,h1,_⟩:=q4 t ht Hm
       rw [e,hd] at h1;cases h1
     ·rw [q2 l λt ht e=>hi ⟨t,ht,e.symm⟩];exact hd
    rw [this] at hb;cases hb
 have XO: ∀k,DT st (iC tks)=true-> ∀q,ρ (Gc k)=some q->q.Bc q.g->X.w0.heap.size<=q.g:=by
  intro k wV q hq hg
  rcases (LZ.Nv _ q _ hq hg).2 with h1|⟨c,p,h1,h2,h3⟩
  ·exact Nat.le_trans h.1.below.size h1
  ·obtain ⟨t,t1,t2,t0,p',t3,t4,_⟩:=Qc c p _ h2 h3
   have hm:t.2.Qx∈iC tks:=Zz.2 ⟨t,QG▸t1,⟨by rw [t2];exact h1,t0⟩,rfl⟩
   have:=List.all_eq_true.1 wV _ hm
   split at this
   ·rename_i fr tr e te xs hl
    unfold St.at at hl
    have hb:=(h.1.heap t.2.Qx).Na hl
    simp only [Ay,Fz,t3] at hb
    rw [hb.1.2.1 _ t4]
    exact hb.1.2.2 this
   ·cases this
 have XM: ∀k q,ρ (Gc k)=some q->k<s.outs.length->q.Bc q.g:=by
  intro k q hq hk
  exact Ff.UM s.outs 0 r Tu o3 k (Nat.zero_le _) ((Nat.zero_add _).symm▸hk) q hq
 have hinv: ∀l,l∉dead->(∃t∈Hk 0 s.ins as,t.2.reads=false/\t.2.Qx=l)->ik X D1 w' π st.heap st1.heap l:=by
  rintro l hd ⟨t,ht,h0,rfl⟩
  by_cases Hm:t.1<Am
  ·exact absurd (List.mem_append_left _ (List.mem_append_left _ (Zz.2 ⟨t,QG▸ht,⟨Hm,h0⟩,rfl⟩))) hd
  ·exact q4 t ht Hm
 have tz: ∀l,(¬ ∃t∈Hk 0 s.ins as,t.2.reads=false/\t.2.Qx=l)->Ag st1.heap l=Ag st.heap l:= λl hn=>by
  by_cases hi: ∃t∈Hk 0 s.ins as,t.2.Qx=l
  ·obtain ⟨t,ht,rfl⟩:=hi
   have hr:t.2.reads=true:=by
    cases h0:t.2.reads with
    |true=>rfl
    |false=>exact absurd ⟨t,ht,h0,rfl⟩ hn
   exact q3 t ht (YP t ht hr)
  ·exact q2 l λt ht e=>hi ⟨t,ht,e.symm⟩
 have UT: ∀l∈pl,∀p,s.ptr=some p->Ag H' l=some (.var p.1 (bT s.ins (cells.map (Az dead part)) (Wl (Cc ks) 0 s.outs r))):= λl hl p hp=>by
  obtain ⟨p',q,h1,h2,_,_,_,h3,_⟩:=GN l hl
  rw [hp] at h1;cases h1
  show Ag (Ru _ _ _ _ _ _) l=_
  rw [n1 l λj _ hj e=>XX j (by omega) (e▸hl),Ac4 l (λtid Ro e=>(hvd tid Ro).2 (e▸hl))]
  show Ag (mq _ _ _ _).heap l=_
  rw [h2]
  refine IK ?_
  show Ag (Rf (st1.heap.map λp=>(p.1,p.2.map (Az dead part))) dead) l=_
  rw [Ja,Kb,if_neg (hpd l hl),tz l (λ⟨t,ht,_,e⟩=>SH l hl t ht e),h3]
  rfl
 have VK: ∀j,j<s.Oo->s.outs.length<=j-> ∃tid,s.rp=some tid/\j=s.outs.length:= λj h1 h2=>by
  cases yY:s.rp with
  |none=>unfold MSpec.Oo at h1;rw [yY] at h1;simp at h1;omega
  |some tid=>exact ⟨tid,rfl,by have:=(SL tid yY).2;omega⟩
 have hHv: ∀tid,s.rp=some tid->Ag H' (Ns d)=some (.var tid ((Wl (Cc ks) 0 s.outs r).drop s.Ui)):= λtid Ro=>by
  show Ag (Ru _ _ _ _ _ _) _=_
  rw [n1 _ λj _ hj e=>hkv j (by omega) tid Ro e.symm,Ah1 tid Ro]
 suffices Acy:Al X π' (gh st st1 d s pl tks r) a w'/\Ar X w' π' (gh st st1 d s pl tks r).heap av0 v by
  obtain ⟨m1,m2⟩:=Acy
  have Yj: ∀(kj:List (Nat×Nat)) (l:Nat),l∈Wf st.heap ks tks kj->iX st.heap l=true/\ ∃k j t,(k,j)∈kj/\t∈tks/\t=(Cb false k,Loc.row l)/\ks[j]?=some l:=by
   intro kj
   induction kj with
   |nil=>intro l hl;cases hl
   |cons p kj ih=>
    intro l hl
    obtain ⟨k,j⟩:=p
    have up:l∈Wf st.heap ks tks kj->iX st.heap l=true/\ ∃k' j' t,(k',j')∈(k,j)::kj/\t∈tks/\t=(Cb false k',Loc.row l)/\ks[j']?=some l:= λhl=>by
     obtain ⟨h1,k',j',t,h2,h3⟩:=ih l hl
     exact ⟨h1,k',j',t,List.mem_cons_of_mem _ h2,h3⟩
    simp only [Wf] at hl
    split at hl
    ·rename_i x0 l1 l2 h1 h2
     split at hl
     ·rename_i hc
      simp only [Bool.and_eq_true] at hc
      rcases List.mem_cons.1 hl with rfl|hl
      ·have:=List.find?_some h1
       have e1:=Nat.eq_of_beq_eq_true this
       have e2:=Nat.eq_of_beq_eq_true hc.1
       dsimp only at e1
       exact ⟨hc.2,k,j,_,List.mem_cons_self,List.mem_of_find?_eq_some h1,by rw [e1],by rw [h2,e2]⟩
      ·exact up hl
     ·exact up hl
    ·exact up hl
  obtain ⟨r1,r2⟩:=zW h m1 (ls:=Wf st.heap ks tks s.keeps) (n:=s.Cz x) (λl hl=>by
   obtain ⟨_,k,j,t,h1,h2,h3,h4⟩:=Yj s.keeps l hl
   have hj:j<ks.length:=(List.getElem?_eq_some_iff.1 h4).1
   have nX:Cc ks j=l:=by
    rw [Ly hj]
    rw [List.getElem?_eq_getElem hj] at h4
    exact Option.some.inj h4
   have q7:=rD (k,j) h1
   rw [show π' l=ρ (Gc j) by rw [<-nX];exact q6 j (by omega),SO]
   have hc:πc (Cb false k)=(π l).map full:=Aca k l (by rw [<-h3,<-QG];exact h2)
   dsimp only at q7
   rw [hc] at q7
   cases hp:π l<;>cases hq:vS (Gc j)<;>(rw [hp,hq] at q7;exact q7)) (λl hl=>(Yj s.keeps l hl).1) Lu
  exact ⟨π',r1,r2 av0 v m2⟩
 refine ⟨?_,?_⟩
 ·have hx:=Al.XA (π':=π') (H':=H') (dead:=dead) (part:=part) (inv:= λl=>(∃t∈Hk 0 s.ins as,t.2.reads=false/\t.2.Qx=l)\/l∈pl) (gv:= λb=>Pq πc b\/s.gv g b) h (λb hb=>by
    rcases hb with hb|hb
    ·obtain ⟨t,h1,h0,q,h2,h3,_⟩:=Zr b hb
     exact ⟨_,q, .inl ⟨t,h1,h0,rfl⟩,h2,h3⟩
    ·obtain ⟨l,hl,q,h1,h2,_⟩:=GI b hb
     exact ⟨l,q, .inr hl,h1,h2⟩) RR (λl b0 hd h0=>⟨MK l hd,?_⟩) (λl b' hb hd=>?_) (λl hl=>?_) (λm q hd hp hm hxa=>?_)
  ·have:({tmps:=(mq s.ins (Wl (Cc ks) 0 s.outs r) pl (st1.Xk dead part)).tmps,heap:=H'} :St)= {tmps:=st.tmps.map (·.map (Az dead part)),heap:=H'} :=by
    rw [kP]
    show ({tmps:=st1.tmps.map (·.map (Az dead part)),heap:=H'} :St)=_
    rw [q1]
   show Al X π' ({tmps:=(mq s.ins (Wl (Cc ks) 0 s.outs r) pl (st1.Xk dead part)).tmps,heap:=H'} :St) a w'
   rw [this]
   exact hx
  ·by_cases RZ:l∈pl
   ·obtain ⟨p,q,h1,h2,h3,h4,h5,h6,h7⟩:=GN l RZ
    rw [h0] at h6;cases h6
    have pM:=UT l RZ p h1
    refine .inr ⟨_,pM,⟨rfl,by rw [kH]⟩,λm=>?_⟩
    unfold ga at ru
    rw [h1] at ru
    obtain ⟨cs,k1,k2,k3⟩:=ru
    rw [<-h7] at k3
    refine ⟨q,h3,h4,cs.toArray,by rw [<-h5];exact k1,?_⟩
    refine Iq.to (eK (H:=st.heap) MK (λl1 b1 sz n hd1 LL SJ=>?_) s.ins 0 cells jF x us o st st1 (Wl (Cc ks) 0 s.outs r) Tu cs (has▸hT) Acw (has▸YM) k3 (n3 π' hD1 (λj _ hj=>q6 j (by omega)))) (by simpa using k2)
    have hnp:l1∉pl:= λhp=>by
     obtain ⟨_,_,_,_,_,_,_,h8,_⟩:=GN l1 hp
     rw [LL] at h8;cases h8;cases SJ
    by_cases hi: ∃t∈Hk 0 s.ins as,t.2.reads=false/\t.2.Qx=l1
    ·obtain ⟨b1,b',e1,e2,e3,e4,e5,e6⟩:=hinv l1 hd1 hi
     rw [LL] at e1;cases e1
     exact ⟨b',by rw [kd l1 hd1 hnp,e2];simp [e4],by rw [e5.row];exact SJ⟩
    ·exact ⟨_,by rw [kd l1 hd1 hnp,tz l1 hi,LL];rfl,by rw [OB.uy];exact SJ⟩
   by_cases hi: ∃t∈Hk 0 s.ins as,t.2.reads=false/\t.2.Qx=l
   ·obtain ⟨b1,b',e1,e2,e3,e4,e5,e6⟩:=hinv l hd hi
    rw [h0] at e1;cases e1
    exact .inr ⟨b',by rw [kd l hd RZ,e2];simp [e4],by rw [e3];exact e5,λ_=>e6 π' H' hD1⟩
   ·exact .inl ⟨λhh=>hh.elim hi RZ,by rw [kd l hd RZ,tz l hi,h0];rfl⟩
  ·obtain ⟨j,hj,rfl⟩:=newAt l b' hb hd
   refine ⟨Aic j hj,?_,λq b hq=>?_⟩
   ·rw [q6 j hj]
    rcases Nat.lt_or_ge j s.outs.length with hjo|hjo
    ·rcases n2 j (Nat.zero_le _) (by omega) with ⟨e1,_⟩|⟨b2,e1,e2⟩
     ·rw [show Ag H' (Cc ks j)=none from e1] at hb;cases hb
     ·rw [show Ag H' (Cc ks j)=some b2 from e1] at hb;cases hb
      exact e2 X π' H' (λhf q hq=>XO j hf q hq (XM j q hq hjo)) hD1
    ·obtain ⟨tid,Ro,hj0⟩:=VK j hj hjo
     subst hj0
     rw [(SL tid Ro).1,hHv tid Ro] at hb;cases hb
     unfold ng at aO
     rw [Ro] at aO
     obtain ⟨q,y1,y2,y3,y4,_⟩:=aO
     rw [SO,y1]
     exact ⟨full q,rfl,y2,_,y3,Iq.to (Iq.take s.Ui (n3 π' hD1 (λj _ hj=>q6 j (by omega)))).2 (by simpa using y4)⟩
   ·rw [q6 j hj] at hq
    have Ob:=UZ _ q hq
    refine ⟨λhf=>by rw [Ob];exact hf,λhf=>?_⟩
    rw [Ob] at hf
    obtain ⟨h1,h2⟩:=LZ.Nv _ q b hq hf
    refine ⟨h1,h2.imp id ?_,λl2 r2 hd2 GK XK=>?_⟩
    ·rintro ⟨c,p,h3,h4,h5⟩
     obtain ⟨t,t1,t2,t0,p',t3,t4,_⟩:=Qc c p b h4 h5
     exact ⟨t.2.Qx,p',List.mem_append_left _ (List.mem_append_left _ (Zz.2 ⟨t,QG▸t1,⟨by rw [t2];exact h3,t0⟩,rfl⟩)),t3,t4⟩
    ·by_cases hk: ∃j,j<s.Oo/\l2=Cc ks j
     ·obtain ⟨j2,hj2,rfl⟩:=hk
      rw [q6 j2 hj2] at GK
      rw [UZ _ r2 GK] at XK
      have:=LZ.inj _ _ r2 q b GK hq XK hf
      unfold Gc at this
      have:j2=j:=by omega
      rw [this]
     ·have e0:π' l2=if l2∈dead then none else π l2:=tv l2 hk
      rw [e0] at GK
      split at GK
      ·cases GK
      ·rename_i SE
       rcases hd2 with hd2|hd2
       ·exact absurd hd2 SE
       ·rw [(h.1.heap l2).emp hd2] at GK;cases GK
  ·by_cases hk: ∃j,j<s.Oo/\l=Cc ks j
   ·obtain ⟨j,hj,rfl⟩:=hk
    rw [q6 j hj]
    rcases Nat.lt_or_ge j s.outs.length with hjo|hjo
    ·rcases n2 j (Nat.zero_le _) (by omega) with ⟨_,e1⟩|⟨b2,e1,_⟩
     ·exact e1
     ·rw [show Ag H' (Cc ks j)=some b2 from e1] at hl;cases hl
    ·obtain ⟨tid,Ro,hj0⟩:=VK j hj hjo
     subst hj0
     rw [(SL tid Ro).1,hHv tid Ro] at hl;cases hl
   ·have e0:π' l=if l∈dead then none else π l:=tv l hk
    rw [e0]
    split
    ·rfl
    ·rename_i hd
     by_cases RZ:l∈pl
     ·obtain ⟨p,_,h1,_⟩:=GN l RZ
      rw [UT l RZ p h1] at hl;cases hl
     rw [kd l hd RZ] at hl
     by_cases hi: ∃t∈Hk 0 s.ins as,t.2.reads=false/\t.2.Qx=l
     ·obtain ⟨_,b',_,e2,_⟩:=hinv l hd hi
      rw [e2] at hl;cases hl
     ·rw [tz l hi] at hl
      cases h0:Ag st.heap l with
      |none=>exact (h.1.heap l).emp h0
      |some b=>rw [h0] at hl;cases hl
  ·refine RR.block _ (h.1.lt hm).1 λzM=>?_
   rcases zM with ho|hg
   rotate_left
   ·obtain ⟨l,hl,q',h1,h2,_⟩:=GI _ hg
    have tw:=h.1.apart hm h1 (h.1.Bc hm) h2
    obtain ⟨_,_,_,_,_,_,_,h3,_⟩:=GN l hl
    obtain ⟨b,hxa,hxb⟩:=hxa
    rw [tw,h3] at hxa;cases hxa
    exact hxb rfl
   obtain ⟨t,t1,t0,p,t3,t4,t5⟩:=Zr _ ho
   have tw:=h.1.apart hm t3 (h.1.Bc hm) t4
   have hpq:p=q:=by rw [<-tw,hm] at t3;exact (Option.some.inj t3).symm
   cases VW:t.2 with
   |row l=>
    refine hp ?_
    show m∈whole tks
    unfold whole
    exact List.mem_flatMap.2 ⟨t,QG▸t1,by rw [VW,tw,VW];simp [Loc.Qx]⟩
   |sub l i j=>exact t5 l i j VW (by rw [hpq])
   |view l=>rw [VW] at t0;cases t0
 ·have Aiz:=n3 π' hD1 (λj _ hj=>q6 j (by omega))
  cases yY:s.rp with
  |some tid=>
   unfold ng at aO
   rw [yY] at aO
   obtain ⟨q,y1,y2,y3,y4,rfl⟩:=aO
   unfold TI at da
   rw [yY] at da
   simp only [Option.some.injEq] at da;subst da
   refine ⟨full q,tid,_,hHv tid yY,?_,rfl⟩
   rw [<-(SL tid yY).1,q6 _ (by have:=(SL tid yY).2;omega),SO,y1]
   rfl
  |none=>
  unfold ng at aO
  rw [yY] at aO
  obtain ⟨aO,Aj5⟩:=aO
  unfold TI at da
  rw [yY] at da
  simp only at da
  obtain ⟨g1,g2,g3,g4⟩:=Zn s.Gm _ (Tu.drop s.Ui) Aj5 (Iq.take s.Ui Aiz).2
  unfold Ael at da
  unfold OI at aO
  split at da
  ·rename_i hm
   rw [if_pos hm] at aO
   simp only [Option.some.injEq] at da;subst da
   subst aO
   exact ⟨_,rfl,g3.symm,g4⟩
  ·rename_i hm
   rw [if_neg hm] at aO
   split at da
   ·rename_i av1 hga
    simp only [Option.some.injEq] at da;subst da
    rcases aO with aO|aO
    ·exact g2 0 _ v (by rw [hga];rfl) (by rw [aO];rfl)
    ·rw [hga,aO] at g1;cases g1
   ·simp only [Option.some.injEq] at da;subst da;trivial
   ·cases da
end
end Go.Proofs.Ytjbdmibbbpdnnaa
