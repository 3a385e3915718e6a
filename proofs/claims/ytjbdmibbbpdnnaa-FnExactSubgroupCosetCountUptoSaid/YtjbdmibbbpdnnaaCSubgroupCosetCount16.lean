/-
  Part 17 of the proof that the statement FnExactSubgroupCosetCount holds.
-/
import Derived.Test.YtjbdmibbbpdnnaaCSubgroupCosetCount15
namespace Go.Proofs.Ytjbdmibbbpdnnaa
open Go.RowKit
section
variable {P:Program} {T:Tab} {X:Ctx} {w w':World} {π π':Pi} {H H':List (Nat×OB)}
theorem Sa (k:Nat): ¬Bk true k<Ag:=by unfold Bk Ag;simp
theorem Yh {k:Nat} (h:k<100000):Bk false k<Ag:=by unfold Bk Ag;simp;omega
def eh (X:Ctx) (D:Nat->Prop) (w':World) (π:Pi) (H Hn:List (Nat×OB)) (l:Nat):Prop:=
 ∃b0 b',Ad H l=some b0/\Ad Hn l=some b'/\(∀f,OB.map f b0=b0)/\(∀f,OB.map f b'=b')/\b0.Xu b'/\ ∀π' H',(∀b,Na π' b\/X.Sc b->D b)->Ao X w' π' H' (π l) b'
theorem CS {io:Bool} {k:Nat} {τ:Ty} {a:AC} {t:Nat×Loc} (h:t∈Jm io k (.Gd τ) a):t.1=Bk false k:=by
 cases a<;>simp [Jm,views] at h<;>first|(obtain ⟨_,⟨_,_⟩,rfl⟩:=h;rfl)|(rw [h])
theorem z7 {io:Bool} {k:Nat} {e:Ty} {te:TypeId} {a:AC} {t:Nat×Loc} (h:t∈Jm io k (.part e te) a):t.1=Bk io k:=by cases a<;>simp [Jm] at h<;>rw [h]
theorem CT {io:Bool} {k:Nat} {e:Ty} {te:TypeId} {a:AC} {t:Nat×Loc} (h:t∈Jm io k (.row e te) a):t.1=Bk io k:=by cases a<;>simp [Jm] at h<;>rw [h]
theorem z8 {io:Bool} {k:Nat} {e:Ty} {te:TypeId} {a:AC} {t:Nat×Loc} (h:t∈Jm io k (.Dc e te) a):t.1=Bk io k:=by cases a<;>simp [Jm] at h<;>rw [h]
theorem Xh {D:Nat->Prop} {π':Pi} {fr:Bool} {e:Ty} {es:List Value} {y:e.den} (hD: ∀b,Na π' b\/X.Sc b->D b) (h:Cells w' D e es y):Cells w' (Ax X.w0.heap.size X.Sc π' (fr&&e.flat)) e es y:=by
 cases hf:e.flat with
 |true=>exact Cells.flat e es y hf h
 |false=>exact Cells.Ch (Nat.le_refl _) (λ_ _ _=>rfl) (λb _ hb=>by
   rcases hb with hb|hb|⟨hb,_⟩
   ·exact hD b (.inl hb)
   ·exact hD b (.inr hb)
   ·simp at hb) e es y h
theorem z9 {D P:Nat->Prop} {g o:Nat} {cur:Array Value} {tr:Bool} {e:Ty} {xs:List e.den}
  (h: ∀(i:Nat) (x:e.den),xs[i]?=some x-> ∃es:List Value,es.length=e.size/\(∀j u,es[j]?=some u->cur[(o+i)*e.size+j]?=some u)/\Cells w' D e es x) (ht:(tr&&e.flat)=true):Oe w' P g o cur e xs:=by
 simp only [Bool.and_eq_true] at ht
 exact eK ht.2 h
theorem yH {D:Nat->Prop} (h:Gy X w π H) {k:Nat} {c:CK} {ys:c.den} {a:AC} {u:Value} {r:Option Real} {x:c.den} {cur st1:St} (hs:w.heap.size<=w'.heap.size)
  (hU: ∀l i j q b,a= .sub l i j->π l=some q->q.Ar b->b<w.heap.size->(∀r',r=some r'-> ¬r'.Ar b)->w'.heap[b]?=w.heap[b]?)
  {V:List Nat} (ht:Wy w (Ig X π V) r u c x/\Lm w π H true a u r c x) (hr:Yx w' D r c ys) (he:Tr cur c ys a=some st1) (Zw: ∀t∈Jm true k c a,Ad cur.heap t.2.Oa=Ad H t.2.Oa):
  st1.tmps=cur.tmps/\(∀m,(∀t∈Jm true k c a,m≠t.2.Oa)->Ad st1.heap m=Ad cur.heap m)/\ ∀t∈Jm true k c a,eh X D w' π H st1.heap t.2.Oa:=by
 obtain ⟨hc,ht⟩:=ht
 cases c with
 |Gd τ=>cases a<;>simp [Tr] at he;subst he;exact ⟨rfl,λ_ _=>rfl,λt ht=>by simp [Jm] at ht⟩
 |row e te=>
  simp only [Lm] at ht
  cases a<;>simp only [] at ht<;>first|(exact ht.elim)|skip
  ·simp only [Tr,Option.some.injEq] at he;subst he
   exact ⟨rfl,λ_ _=>rfl,λt ht=>by simp [Jm] at ht⟩
  ·rename_i l off len
   obtain ⟨rfl,rfl,rfl,fr,tr,hl⟩:=ht
   have Nz:Ad cur.heap l=some (.arr fr tr e te x):=(Zw _ (List.mem_singleton.2 rfl)).trans hl
   simp only [Tr,St.at,Nz] at he
   split at he
   ·rename_i Eo
    obtain ⟨_,h1,_⟩:=Eo
    simp only [Option.some.injEq] at he;subst he
    refine ⟨rfl,λm hm=>Cb _ _ _ _ (hm _ (List.mem_singleton.2 rfl)),λt Nb=>?_⟩
    have Nb:=List.mem_singleton.1 Nb
    subst Nb
    refine ⟨_,_,hl,Cf _ _ _ _ Nz,λ_=>rfl,λ_=>rfl,⟨rfl,h1.symm⟩,λπ' H' hD=>?_⟩
    have hb:=(h.heap l).Kz hl
    change Ao X w' π' H' (π l) _
    simp only [Ao,Es] at hb⊢
    cases hp:π l with
    |none=>rw [hp] at hr;exact hr
    |some q=>
     rw [hp] at hr hb
     obtain ⟨k1,cu,ti,k2,k3,k4,k5,k6⟩:=hr
     exact ⟨⟨k1.1,k1.2,λhh=>hb.1.2.2 (by simp only [Bool.and_eq_true] at hh;exact hh.1)⟩,cu,ti,k2,k3,k4,k5,λi y hy=>by
      obtain ⟨es,g1,g2,g3⟩:=k6 i y hy
      exact ⟨es,g1,g2,Xh hD g3⟩,λht=>z9 k6 ht⟩
   ·cases he
  ·rename_i l i j
   obtain ⟨⟨_,hf⟩,tid,xs,hl,hx,q,hq,Ni,XD⟩:=ht
   have Nz:Ad cur.heap l=some (.Cq (.slice e) tid xs):=(Zw _ (List.mem_singleton.2 rfl)).trans hl
   simp only [Tr,St.at,Nz,hx] at he
   rw [dif_pos trivial] at he
   ·split at he
    ·rename_i h1
     simp only [Option.some.injEq] at he;subst he
     refine ⟨rfl,λm hm=>Cb _ _ _ _ (hm _ (List.mem_singleton.2 rfl)),λt Nb=>?_⟩
     have Nb:=List.mem_singleton.1 Nb
     subst Nb
     refine ⟨_,_,hl,Cf _ _ _ _ Nz,λ_=>rfl,λ_=>rfl,⟨rfl,by simp⟩,λπ' H' _=>?_⟩
     show Ho w' (π l) (.slice e) tid _
     rw [hq]
     refine XD w' ys hs (λb Gp hb hn=>hU l i j q b rfl hq hb Gp hn) ?_
     have hv:=hc.1
     rw [<-show List.length ys=List.length x from h1] at hv
     exact Lb.wx hr hf hv
    ·cases he
 |Dc e te=>
  simp only [Lm] at ht
  cases a<;>simp only [] at ht<;>first|(exact ht.elim)|skip
  ·simp only [Tr,Option.some.injEq] at he;subst he
   exact ⟨rfl,λ_ _=>rfl,λt ht=>by simp [Jm] at ht⟩
  ·rename_i l off len
   obtain ⟨rfl,rfl,rfl,hl⟩:=ht
   have Nz:Ad cur.heap l=some (.Cq e te x):=(Zw _ (List.mem_singleton.2 rfl)).trans hl
   simp only [Tr,St.at,Nz] at he
   split at he
   ·rename_i Eo
    obtain ⟨_,h1,_⟩:=Eo
    simp only [Option.some.injEq] at he;subst he
    refine ⟨rfl,λm hm=>Cb _ _ _ _ (hm _ (List.mem_singleton.2 rfl)),λt Nb=>?_⟩
    have Nb:=List.mem_singleton.1 Nb
    subst Nb
    refine ⟨_,_,hl,Cf _ _ _ _ Nz,λ_=>rfl,λ_=>rfl,⟨rfl,h1.symm⟩,λπ' H' _=>?_⟩
    show Ho w' (π l) e te _
    cases hp:π l with
    |none=>rw [hp] at hr;exact hr
    |some q=>rw [hp] at hr;exact hr
   ·cases he
  ·rename_i l i j
   obtain ⟨_,tid,xs,hl,hx,q,hq,Ni,XD⟩:=ht
   have Nz:Ad cur.heap l=some (.Cq (.slice e) tid xs):=(Zw _ (List.mem_singleton.2 rfl)).trans hl
   simp only [Tr,St.at,Nz,hx] at he
   rw [dif_pos trivial] at he
   ·split at he
    ·rename_i h1
     simp only [Option.some.injEq] at he;subst he
     refine ⟨rfl,λm hm=>Cb _ _ _ _ (hm _ (List.mem_singleton.2 rfl)),λt Nb=>?_⟩
     have Nb:=List.mem_singleton.1 Nb
     subst Nb
     refine ⟨_,_,hl,Cf _ _ _ _ Nz,λ_=>rfl,λ_=>rfl,⟨rfl,by simp⟩,λπ' H' _=>?_⟩
     show Ho w' (π l) (.slice e) tid _
     rw [hq]
     refine XD w' ys hs (λb Gp hb hn=>hU l i j q b rfl hq hb Gp hn) ?_
     have hv:=hc.1
     rw [<-show List.length ys=List.length x from h1] at hv
     exact Ho.wx (te:=te) hr hv
    ·cases he
 |part e te=>cases a<;>simp [Tr] at he<;>first|(simp only [Lm] at ht;exact ht.2.elim)
 |Ah e te kp=>exact absurd ht.1 (by simp)
theorem yI {D:Nat->Prop} (h:Gy X w π H) {k:Nat} {e:Ty} {te:TypeId} {ys:List e.den} {a:AC} {u:Value} {r:Option Real} {x:(CK.part e te).den} {cur st1:St}
  {V:List Nat} (ht:Wy w (Ig X π V) r u (.part e te) x/\Lm w π H true a u r (.part e te) x) (hr:Yx w' D r (.row e te) ys) (he:vS cur e ys a=some st1) (Zw: ∀t∈Jm true k (.part e te) a,Ad cur.heap t.2.Oa=Ad H t.2.Oa):
  st1.tmps=cur.tmps/\(∀m,(∀t∈Jm true k (.part e te) a,m≠t.2.Oa)->Ad st1.heap m=Ad cur.heap m)/\ ∀t∈Jm true k (.part e te) a,eh X D w' π H st1.heap t.2.Oa:=by
 obtain ⟨hc,hf,ht⟩:=ht
 cases a<;>simp only [] at ht<;>first|(exact ht.elim)|skip
 rename_i l off len
 obtain ⟨rfl,_,fr,tr,hl⟩:=ht
 have Nz:Ad cur.heap l=some (.arr fr tr e te x.1):=(Zw _ (List.mem_singleton.2 rfl)).trans hl
 simp only [vS,St.at,Nz] at he
 split at he
 ·rename_i Eo
  obtain ⟨_,h1⟩:=Eo
  simp only [Option.some.injEq] at he;subst he
  refine ⟨rfl,λm hm=>Cb _ _ _ _ (hm _ (List.mem_singleton.2 rfl)),λt Nb=>?_⟩
  have Nb:=List.mem_singleton.1 Nb
  subst Nb
  refine ⟨_,_,hl,Cf _ _ _ _ Nz,λ_=>rfl,λ_=>rfl,⟨rfl,h1.symm⟩,λπ' H' _=>?_⟩
  have hb:=(h.heap l).Kz hl
  change Ao X w' π' H' (π l) _
  simp only [Ao,Es] at hb⊢
  cases hp:π l with
  |none=>rw [hp] at hr;exact hr
  |some q=>
   rw [hp] at hr hb
   obtain ⟨k1,cu,ti,k2,k3,k4,k5,k6⟩:=hr
   exact ⟨⟨k1.1,k1.2,hb.1.2.2⟩,cu,ti,k2,k3,k4,k5,λi y hy=>by
    obtain ⟨es,g1,g2,g3⟩:=k6 i y hy
    exact ⟨es,g1,g2,Cells.flat e es y hf g3⟩,λ_=>eK hf k6⟩
 ·cases he
def jo (X:Ctx) (D:Nat->Prop) (w':World) (π:Pi) (H:List (Nat×OB)) (tk:List (Nat×Loc)) (cur st1:St):Prop:=
 st1.tmps=cur.tmps/\(∀m,(∀t∈tk,m≠t.2.Oa)->Ad st1.heap m=Ad cur.heap m)/\(∀t∈tk,t.1<Ag->Ad st1.heap t.2.Oa=Ad cur.heap t.2.Oa)/\(∀t∈tk,¬t.1<Ag->eh X D w' π H st1.heap t.2.Oa)
theorem l7 {D:Nat->Prop} (h:Gy X w π H) {V:List Nat} {πc:Pi} {tks:List (Nat×Loc)} (hs:w.heap.size<=w'.heap.size)
  (hU: ∀t∈tks,∀q b,π t.2.Oa=some q->q.Ar b->b<w.heap.size->(∀r',πc t.1=some r'-> ¬r'.Ar b)->w'.heap[b]?=w.heap[b]?):
  ∀(cs:List (Bool×CK)) (k:Nat) (x:Ins.den cs) (as:List AC) (us:List Value) (o:IOs.den cs) (cur st1:St),k+cs.length<100000->(∀t∈Gb k cs as,t∈tks)->((Gb k cs as).map λt=>t.2.Oa).Nodup->
   j4 X w π V H πc k cs x as us->Gf w' D πc k cs o->Dl cs o as cur=some st1->(∀t∈Gb k cs as,Ad cur.heap t.2.Oa=Ad H t.2.Oa)->
   jo X D w' π H (Gb k cs as) cur st1
 | [],k,x,as,us,o,cur,st1,_,_,_,_,_,he,_=>by
  simp only [Dl,Option.some.injEq] at he;subst he
  have e0:Gb k [] as= []:=by cases as<;>rfl
  exact ⟨rfl,λ_ _=>rfl,by rw [e0];simp,by rw [e0];simp⟩
 |p::r,k,x,[],us,o,cur,st1,_,_,_,ht,_,_,_=>ht.elim
 |p::r,k,x,a::as,[],o,cur,st1,_,_,_,ht,_,_,_=>ht.elim
 |(io,c)::r,k,x,a::as,u::us,o,cur,st1,hk,Me,zt,ht,ho,he,Zw=>by
  simp only [List.length_cons] at hk
  simp only [Gb] at Me zt Zw⊢
  rw [List.map_append] at zt
  obtain ⟨n1,n2,n3⟩:=List.nodup_append.1 zt
  have apart: ∀t∈Jm io k c a,∀t'∈Gb (k+1) r as,t'.2.Oa≠t.2.Oa:= λt h1 t' h2 e=>n3 _ (List.mem_map.2 ⟨t,h1,rfl⟩) _ (List.mem_map.2 ⟨t',h2,rfl⟩) e.symm
  have rest: ∀(Rj:St) (o':IOs.den r),Gf w' D πc (k+1) r o'->Dl r o' as Rj=some st1->Rj.tmps=cur.tmps->(∀m,(∀t∈Jm io k c a,m≠t.2.Oa)->Ad Rj.heap m=Ad cur.heap m)->
    (∀t∈Jm io k c a,t.1<Ag->Ad Rj.heap t.2.Oa=Ad cur.heap t.2.Oa)->(∀t∈Jm io k c a,¬t.1<Ag->eh X D w' π H Rj.heap t.2.Oa)->
    jo X D w' π H (Jm io k c a++Gb (k+1) r as) cur st1:=by
   intro Rj o' h1 h2 h3 h4 h5 h6
   obtain ⟨g1,g2,g3,g4⟩:=l7 h hs hU r (k+1) x.2 as us o' Rj st1 (by omega) (λt ht=>Me t (List.mem_append_right _ ht)) n2 ht.2 h1 h2 (λt Nb=>by
    rw [h4 _ λt0 PZ=>apart t0 PZ t Nb];exact Zw t (List.mem_append_right _ Nb))
   have hd: ∀t∈Jm io k c a,Ad st1.heap t.2.Oa=Ad Rj.heap t.2.Oa:= λt Nb=>g2 _ λt' ya=>(apart t Nb t' ya).symm
   refine ⟨g1.trans h3,λm hm=>?_,λt Nb Gp=>?_,λt Nb Gp=>?_⟩
   ·rw [g2 m λt ht=>hm t (List.mem_append_right _ ht),h4 m λt ht=>hm t (List.mem_append_left _ ht)]
   ·rcases List.mem_append.1 Nb with Nb|Nb
    ·rw [hd t Nb,h5 t Nb Gp]
    ·rw [g3 t Nb Gp,h4 _ λt0 PZ=>apart t0 PZ t Nb]
   ·rcases List.mem_append.1 Nb with Nb|Nb
    ·obtain ⟨b0,b',q1,q2,q3⟩:=h6 t Nb Gp
     exact ⟨b0,b',q1,(hd t Nb).trans q2,q3⟩
    ·exact g4 t Nb Gp
  have same: ∀o',Gf w' D πc (k+1) r o'->Dl r o' as cur=some st1->(∀t∈Jm io k c a,t.1<Ag)->jo X D w' π H (Jm io k c a++Gb (k+1) r as) cur st1:= λo' h1 h2 h3=>rest cur o' h1 h2 rfl (λ_ _=>rfl) (λ_ _ _=>rfl) (λt h4 h5=>absurd (h3 t h4) h5)
  cases io with
  |false=>
   have h3: ∀t∈Jm false k c a,t.1<Ag:= λt h4=>by rcases tJ h4 with ⟨h5,_⟩|⟨h5,_⟩<;>(rw [h5];exact Yh (by omega))
   cases c with
   |Gd τ=>exact same o ho (by simpa only [Dl] using he) h3
   |row e te=>exact same o ho (by simpa only [Dl] using he) h3
   |Dc e te=>exact same o ho (by simpa only [Dl] using he) h3
   |part e te=>exact same o ho (by simpa only [Dl] using he) h3
   |Ah e te kp=>exact same o ho (by simpa only [Dl] using he) h3
  |true=>
   have row: ∀(ys:c.den) (o':IOs.den r),(∀t∈Jm true k c a,t.1=Bk true k)->Yx w' D (πc (Bk true k)) c ys->Gf w' D πc (k+1) r o'->(∃Rj,Tr cur c ys a=some Rj/\Dl r o' as Rj=some st1)->jo X D w' π H (Jm true k c a++Gb (k+1) r as) cur st1:=by
    intro ys o' h0 h1 h2 h3
    obtain ⟨Rj,hp,h3⟩:=h3
    ·obtain ⟨q1,q2,q3⟩:=yH (k:=k) h hs (λl i j q b ea hq hb Gp hn=>by
      cases c with
      |Gd τ=>exact absurd (ht.1.2:πc _=none) (by subst ea;simp [Tr] at hp)
      |row e te=>subst ea;exact hU (Bk true k, .sub l i j) (Me _ (List.mem_append_left _ (List.mem_singleton.2 rfl))) q b hq hb Gp hn
      |Dc e te=>subst ea;exact hU (Bk true k, .sub l i j) (Me _ (List.mem_append_left _ (List.mem_singleton.2 rfl))) q b hq hb Gp hn
      |Ah e te kp=>exact absurd ht.1.2.1 (by simp)
      |part e te=>exact absurd ht.1.2.2 (by subst ea;exact λh=>h)) ht.1 h1 hp (λt Nb=>Zw t (List.mem_append_left _ Nb))
     exact rest Rj o' h2 h3 q1 q2 (λt h4 h5=>absurd h5 (by rw [h0 t h4];exact Sa k)) (λt h4 _=>q3 t h4)
   cases c with
   |Gd τ=>exact same o ho (by simpa only [Dl] using he) (λt h4=>by rw [CS h4];exact Yh (by omega))
   |Ah e te kp=>exact absurd ht.1.2.1 (by simp)
   |row e te=>
    simp only [Dl] at he
    split at he
    ·rename_i Rj hp;exact row o.1 o.2 (λt ht=>CT ht) ho.1 ho.2 ⟨Rj,hp,he⟩
    ·cases he
   |Dc e te=>
    simp only [Dl] at he
    split at he
    ·rename_i Rj hp;exact row o.1 o.2 (λt ht=>z8 ht) ho.1 ho.2 ⟨Rj,hp,he⟩
    ·cases he
   |part e te=>
    simp only [Dl] at he
    split at he
    ·rename_i Rj hp
     obtain ⟨q1,q2,q3⟩:=yI (k:=k) h ht.1 ho.1 hp (λt Nb=>Zw t (List.mem_append_left _ Nb))
     exact rest Rj o.2 ho.2 he q1 q2 (λt h4 h5=>absurd h5 (by rw [z7 h4];exact Sa k)) (λt h4 _=>q3 t h4)
    ·cases he
theorem vC {fr:Bool} {c:CK} {x:c.den} {u:Value} {r:Option Real} {D:Nat->Prop} (h:Wy w' D r u c x):
  (mA fr c x=none/\r=none)\/ ∃b',mA fr c x=some b'/\ ∀(X:Ctx) π' H',(fr=true-> ∀q,r=some q->X.w0.heap.size<=q.g)->(∀b,Na π' b\/X.Sc b->D b)->Ao X w' π' H' r b':=by
 cases c with
 |Gd τ=>exact .inl ⟨rfl,h.1⟩
 |row e te=>
  refine .inr ⟨_,rfl,λX π' H' s5 hD=>?_⟩
  obtain ⟨_,h⟩:=h
  simp only [Yx] at h
  simp only [Ao,Es]
  cases r with
  |none=>exact h
  |some q=>
   obtain ⟨k1,cu,ti,k2,k3,k4,k5,k6⟩:=h
   exact ⟨⟨k1.1,k1.2,λh1=>s5 (by simp only [Bool.and_eq_true] at h1;exact h1.1) q rfl⟩,cu,ti,k2,k3,k4,k5,λi y hy=>by
    obtain ⟨es,g1,g2,g3⟩:=k6 i y hy
    exact ⟨es,g1,g2,Xh hD g3⟩,λh=>by cases h⟩
 |Dc e te=>exact .inr ⟨_,rfl,λX π' H' _ _=>h.2⟩
 |Ah e te kp=>exact .inr ⟨_,rfl,λX π' H' _ hD=>⟨Qx.Ef h.2 λb hb=>hD b (hb.imp id λh=>h.elim id λh=>by cases h.1),trivial⟩⟩
 |part e te=>
  refine .inr ⟨_,rfl,λX π' H' s5 hD=>?_⟩
  obtain ⟨_,hf,h⟩:=h
  simp only [Ao,Es]
  cases r with
  |none=>exact h
  |some q=>
   obtain ⟨k1,cu,ti,k2,k3,k4,k5,k6⟩:=h
   exact ⟨⟨k1.1,k1.2,λh1=>s5 (by simp only [Bool.and_eq_true] at h1;exact h1.1) q rfl⟩,cu,ti,k2,k3,k4,k5,λi y hy=>by
    obtain ⟨es,g1,g2,g3⟩:=k6 i y hy
    exact ⟨es,g1,g2,Xh hD g3⟩,λh=>by cases h⟩
theorem iO {D:Nat->Prop} {key:Nat->Nat} (uP: ∀i j,key i=key j->i=j) {fr:Bool} {ρ:Pi} : ∀(cs:List CK) (k:Nat) (x:CKs.den cs) (us:List Value) (H:List (Nat×OB)),Eg w' D ρ k cs x us->
  (∀j,k<=j->j<k+cs.length->Ad H (key j)=none)->
  (∀l,(∀j,k<=j->j<k+cs.length->l≠key j)->Ad (Oz fr key k cs x H) l=Ad H l)/\
  (∀j,k<=j->j<k+cs.length->(Ad (Oz fr key k cs x H) (key j)=none/\ρ (Eu j)=none)\/
   ∃b',Ad (Oz fr key k cs x H) (key j)=some b'/\ ∀(X:Ctx) π' H',(fr=true-> ∀q,ρ (Eu j)=some q->X.w0.heap.size<=q.g)->(∀b,Na π' b\/X.Sc b->D b)->Ao X w' π' H' (ρ (Eu j)) b')/\
  (∀π',(∀b,Na π' b\/X.Sc b->D b)->(∀j,k<=j->j<k+cs.length->π' (key j)=ρ (Eu j))->Hb X w' π' (Oz fr key k cs x H) (Th key k cs x) us)
 | [],k,x,[],H,_,_=>⟨λ_ _=>rfl,λj h1 h2=>by simp at h2;omega,λ_ _ _=>trivial⟩
 | [],_,_,_::_,_,h,_=>h.elim
 |_::_,_,_,[],_,h,_=>h.elim
 |c::r,k,x,u::us,H,h,hn=>by
  simp only [List.length_cons] at hn⊢
  simp only [Oz,Th]
  have mh:=hn k (Nat.le_refl _) (by omega)
  have MM: ∀l,l≠key k->Ad (sf H (key k) (mA fr c x.1)) l=Ad H l:=by
   intro l hl
   cases mA fr c x.1 with
   |some b=>exact Ir _ _ _ _ hl
   |none=>rfl
  have NU:Ad (sf H (key k) (mA fr c x.1)) (key k)=mA fr c x.1:=by
   cases mA fr c x.1 with
   |some b=>exact Jo _ _ _ mh
   |none=>exact mh
  generalize (sf H (key k) (mA fr c x.1))=H1 at MM NU⊢
  obtain ⟨g1,g2,g3⟩:=iO uP (fr:=fr) r (k+1) x.2 us H1 h.2 (λj h1 h2=>by
   rw [MM _ λe=>by have:=uP _ _ e;omega];exact hn j (by omega) (by omega))
  have DJ:Ad (Oz fr key (k+1) r x.2 H1) (key k)=mA fr c x.1:=by
   rw [g1 _ λj h1 h2 e=>by have:=uP _ _ e;omega];exact NU
  refine ⟨λl hl=>?_,λj h1 h2=>?_,λπ' hd IA=>⟨?_,?_⟩⟩
  ·rw [g1 l λj h1 h2=>hl j (by omega) (by omega)]
   exact MM l (hl k (Nat.le_refl _) (by omega))
  ·rcases Nat.eq_or_lt_of_le h1 with e|h1
   ·subst e
    rw [DJ]
    exact vC h.1
   ·exact g2 j h1 (by omega)
  ·have h1:=h.1
   have MX:=IA k (Nat.le_refl _) (by omega)
   cases c with
   |Gd τ=>
    obtain ⟨au,c1,c2⟩:=h1.2
    exact ⟨au,by have:=Xh (fr:=true) hd c1;simpa using this,c2⟩
   |row e te=>exact ⟨_,e.size,List.length x.1,DJ,rfl,by simp,by rw [MX];exact h1.1⟩
   |Dc e te=>exact ⟨_,e.size,List.length x.1,DJ,rfl,by simp,by rw [MX];exact h1.1⟩
   |Ah e te kp=>exact ⟨_,1,List.length x.1,DJ,rfl,by simp,by rw [MX];exact h1.1⟩
   |part e te=>trivial
  ·exact g3 π' hd λj h1 h2=>IA j (by omega) (by omega)
theorem vn {ks:List Nat} {n:Nat} (h:pt ks n=true):ks.length=n/\ks.Nodup/\ ∀l∈ks,l<Ag:=by
 unfold pt at h
 simp only [Bool.and_eq_true] at h
 refine ⟨Nat.eq_of_beq_eq_true h.1,Oy h.2.1,λl hl=>?_⟩
 have:=List.all_eq_true.1 h.2.2 l hl
 simpa using this
theorem Ke {ks:List Nat} {j:Nat} (h:j<ks.length):Bl ks j=ks[j]:=by
 unfold Bl
 rw [List.getElem?_eq_getElem h]
theorem ru {ks:List Nat} (hn:ks.Nodup) (hl: ∀l∈ks,l<Ag): ∀i j,Bl ks i=Bl ks j->i=j:=by
 intro i j h
 by_cases hi:i<ks.length
 ·by_cases hj:j<ks.length
  ·rw [Ke hi,Ke hj] at h
   rcases Nat.lt_trichotomy i j with Gp|he|Gp
   ·exact absurd h (List.pairwise_iff_getElem.1 hn i j hi hj Gp)
   ·exact he
   ·exact absurd h.symm (List.pairwise_iff_getElem.1 hn j i hj hi Gp)
  ·have h1:=hl _ (List.getElem_mem hi)
   rw [Ke hi] at h
   unfold Bl at h
   rw [List.getElem?_eq_none (by omega)] at h
   simp only at h
   omega
 ·by_cases hj:j<ks.length
  ·have h1:=hl _ (List.getElem_mem hj)
   rw [Ke hj] at h
   unfold Bl at h
   rw [List.getElem?_eq_none (by omega)] at h
   simp only at h
   omega
  ·unfold Bl at h
   rw [List.getElem?_eq_none (by omega),List.getElem?_eq_none (by omega)] at h
   simp only at h
   omega
theorem Hi: ∀(H:List (Nat×OB)) (dead:List Nat) (l:Nat),Ad (Oi H dead) l=if l∈dead then none else Ad H l
 | [],dead,l=>by simp [Oi,Ad]
 |(k,b)::r,dead,l=>by
  simp only [Oi]
  have ih:=Hi r dead l
  by_cases hk:k∈dead
  ·rw [if_pos (by simpa using hk),ih]
   split
   ·rfl
   ·rename_i hl
    simp only [Ad]
    rw [if_neg (λ(e:k=l)=>hl (e▸hk))]
  ·rw [if_neg (by simpa using hk)]
   simp only [Ad]
   split
   ·rename_i e;subst e;rw [if_neg hk]
   ·exact ih
theorem mem_keys {ks:List Nat} {l:Nat} :l∈ks↔ ∃k,k<ks.length/\l=Bl ks k:=
 ⟨λh=>by obtain ⟨k,hk,e⟩:=List.getElem_of_mem h;exact ⟨k,hk,by rw [Ke hk,e]⟩,λ⟨k,hk,e⟩=>by rw [e,Ke hk];exact List.getElem_mem hk⟩
theorem Wj {tks:List (Nat×Loc)} {l:Nat} :l∈eB tks↔ ∃t∈tks,(t.1<Ag/\t.2.reads=false)/\t.2.Oa=l:=by
 unfold eB
 simp only [List.mem_map,List.mem_filter,Bool.and_eq_true,Nat.blt_eq,Bool.not_eq_true']
 exact ⟨λ⟨t,⟨h1,h2⟩,h3⟩=>⟨t,h1,h2,h3⟩,λ⟨t,h1,h2,h3⟩=>⟨t,⟨h1,h2⟩,h3⟩⟩
theorem pv {tks:List (Nat×Loc)} (h:(tks.map λt=>t.2.Oa).Nodup) {t t':Nat×Loc} (ht:t∈tks) (ya:t'∈tks) (he:t.2.Oa=t'.2.Oa):t=t':=by
 induction tks with
 |nil=>cases ht
 |cons a r ih=>
  simp only [List.map_cons] at h
  obtain ⟨h1,h2⟩:=List.nodup_cons.1 h
  rcases List.mem_cons.1 ht with rfl|ht<;>rcases List.mem_cons.1 ya with rfl|ya
  ·rfl
  ·exact (h1 (List.mem_map.2 ⟨t',ya,he.symm⟩)).elim
  ·exact (h1 (he▸List.mem_map.2 ⟨t,‹t∈r›,rfl⟩)).elim
  ·exact ih h2 ht ya
theorem Eg.full {D:Nat->Prop} {ρ:Pi} : ∀(cs:List CK) (k:Nat) (x:CKs.den cs) (us:List Value),Eg w D ρ k cs x us->Eg w D (λl=>(ρ l).map full) k cs x us
 | [],_,_,[],h=>h
 | [],_,_,_::_,h=>h.elim
 |_::_,_,_,[],h=>h.elim
 |c::r,k,x,u::us,h=>⟨by
   have h1:=h.1
   show Wy w D ((ρ (Eu k)).map _) u c x.1
   cases c with
   |Gd τ=>rw [h1.1];exact ⟨rfl,h1.2⟩
   |row e te=>cases hp:ρ (Eu k)<;>(rw [hp] at h1;exact h1)
   |Dc e te=>cases hp:ρ (Eu k)<;>(rw [hp] at h1;exact h1)
   |Ah e te kp=>cases hp:ρ (Eu k)<;>(rw [hp] at h1;exact h1)
   |part e te=>cases hp:ρ (Eu k)<;>(rw [hp] at h1;exact h1),Eg.full r (k+1) x.2 us h.2⟩
theorem Eg.GO {D:Nat->Prop} {ρ:Pi} : ∀(cs:List CK) (k0:Nat) (x:CKs.den cs) (us:List Value),Eg w D ρ k0 cs x us-> ∀j,k0<=j->j<k0+cs.length-> ∀q,ρ (Eu j)=some q->q.Ar q.g
 | [],k0,_,_,_,j,h1,h2,_,_=>by simp at h2;omega
 |_::_,_,_,[],h,_,_,_,_,_=>h.elim
 |c::r,k0,x,u::us,ho,j,h1,h2,q,hq=>by
  rcases Nat.eq_or_lt_of_le h1 with e|h1
  ·subst e
   have:=ho.1
   cases c with
   |Gd τ=>rw [hq] at this;cases this.1
   |row e te=>rw [hq] at this;exact this.2.1.1
   |Dc e te=>rw [hq] at this;exact this.2.1
   |part e te=>rw [hq] at this;exact this.2.2.1.1
   |Ah e te kp=>rw [hq] at this;exact this.2.1
  ·exact Eg.GO r (k0+1) x.2 us ho.2 j h1 (by simp at h2;omega) q hq
theorem Lb.any {D D':Nat->Prop} {r:Option Real} {e:Ty} {xs:List e.den} (hf:e.flat=true) (h:Lb w D r e xs):Lb w D' r e xs:=by
 cases r with
 |none=>exact h
 |some r=>
  obtain ⟨k1,cu,ti,k2,k3,k4,k5,k6⟩:=h
  exact ⟨k1,cu,ti,k2,k3,k4,k5,λi y hy=>by
   obtain ⟨es,g1,g2,g3⟩:=k6 i y hy
   exact ⟨es,g1,g2,Cells.flat e es y hf g3⟩⟩
theorem Eg.any {D D':Nat->Prop} {ρ:Pi} : ∀(cs:List CK) (k:Nat) (x:CKs.den cs) (us:List Value),cs.all (·.flat)=true->Eg w D ρ k cs x us->Eg w D' ρ k cs x us
 | [],_,_,[],_,h=>h
 | [],_,_,_::_,_,h=>h.elim
 |_::_,_,_,[],_,h=>h.elim
 |c::r,k,x,u::us,hf,h=>by
  simp only [List.all_cons,Bool.and_eq_true] at hf
  refine ⟨?_,Eg.any r (k+1) x.2 us hf.2 h.2⟩
  have h1:=h.1
  cases c with
  |Gd τ=>exact ⟨h1.1,Aw.flat hf.1 h1.2⟩
  |row e te=>exact ⟨h1.1,Lb.any hf.1 h1.2⟩
  |Dc e te=>exact h1
  |part e te=>exact ⟨h1.1,h1.2.1,Lb.any hf.1 h1.2.2⟩
  |Ah e te kp=>exact absurd hf.1 (by simp [CK.flat])
theorem Gf.any {D D':Nat->Prop} {π:Pi} : ∀(cs:List (Bool×CK)) (k:Nat) (x:IOs.den cs),(cs.all λp=>!p.1||p.2.flat)=true->Gf w D π k cs x->Gf w D' π k cs x
 | [],_,_,_,h=>h
 |(false,_)::r,k,x,hf,h=>Gf.any r (k+1) x (by simp only [List.all_cons,Bool.and_eq_true] at hf;exact hf.2) h
 |(true, .Gd _)::r,k,x,hf,h=>Gf.any r (k+1) x (by simp only [List.all_cons,Bool.and_eq_true] at hf;exact hf.2) h
 |(true, .Ah _ _ _)::r,k,x,hf,h=>Gf.any r (k+1) x (by simp only [List.all_cons,Bool.and_eq_true] at hf;exact hf.2) h
 |(true, .row e te)::r,k,x,hf,h=>by
  simp only [List.all_cons,Bool.and_eq_true,Bool.not_true,Bool.false_or] at hf
  exact ⟨Lb.any hf.1 h.1,Gf.any r (k+1) x.2 hf.2 h.2⟩
 |(true, .Dc e te)::r,k,x,hf,h=>by
  simp only [List.all_cons,Bool.and_eq_true,Bool.not_true,Bool.false_or] at hf
  exact ⟨h.1,Gf.any r (k+1) x.2 hf.2 h.2⟩
 |(true, .part e te)::r,k,x,hf,h=>by
  simp only [List.all_cons,Bool.and_eq_true,Bool.not_true,Bool.false_or] at hf
  exact ⟨Lb.any hf.1 h.1,Gf.any r (k+1) x.2 hf.2 h.2⟩
theorem kR {tks:List (Nat×Loc)} {l:Nat} :l∈qF tks↔ ∃t∈tks,t.2.reads=true/\t.2.Oa=l:=by
 unfold qF
 simp only [List.mem_map,List.mem_filter]
 exact ⟨λ⟨t,⟨h1,h2⟩,h3⟩=>⟨t,h1,h2,h3⟩,λ⟨t,h1,h2,h3⟩=>⟨t,⟨h1,h2⟩,h3⟩⟩
theorem Ae.fq {st:St} {a:Act} (h:Ae X π st a w) {f:AC->AC} (hu:f .undef= .undef) {gv:Nat->Prop} (xS: ∀b,gv b->Na π b) (hb:Fh w.heap.size gv w w')
  (Wb: ∀b,b<w.heap.size->Na π' b->Na π b)
  (Me: ∀l r b,π' l=some r->r.Ar b->r.cl b) (KD: ∀l r b,π' l=some r->r.cl b->(X.w0.heap.size<=b\/X.gv b)/\b<w'.heap.size)
  (VY: ∀l l' r r' b,π' l=some r->π' l'=some r'->r.cl b->r'.cl b->l=l')
  (Wc: ∀l,Ag<=l->Ad H' l≠none->Sk (X.aX l) (π' l))
  (SL:(∀fr τ cs x,Cells w (Ax X.w0.heap.size X.Sc π fr) τ cs x->Cells w' (Ax X.w0.heap.size X.Sc π' fr) τ cs x)-> ∀c v,Dg X w π st.heap c v->Dg X w' π' H' (f c) v)
  (EF:Move X w w' π π' st.heap H' f-> ∀l b,Ad H' l=some b->Ao X w' π' H' (π' l) b)
  (xc: ∀l,Ad H' l=none->π' l=none):
  Ae X π' {tmps:=st.tmps.map (·.map f),heap:=H'} a w':=by
 have hc: ∀fr τ cs x,Cells w (Ax X.w0.heap.size X.Sc π fr) τ cs x->Cells w' (Ax X.w0.heap.size X.Sc π' fr) τ cs x:= λfr τ cs x hh=>
  Cells.Ch hb.size (λk hk hn=>hb.block k hk λhg=>hn (.inl (xS k hg))) (λk Gp hA=>hA.imp (Wb k Gp) id) τ cs x hh
 have m:Move X w w' π π' st.heap H' f:=⟨SL hc,hc⟩
 refine ⟨⟨⟨hb.os.trans h.1.below.os,hb.tape.trans h.1.below.tape,hb.output.trans h.1.below.output,Nat.le_trans h.1.below.size hb.size,λk hk hn=>?_⟩,h.1.sc,Me,KD,VY,Wc,λl=>?_⟩,m.vW hu h.2⟩
 ·refine (hb.block k (Nat.lt_of_lt_of_le hk h.1.below.size) λhg=>?_).trans (h.1.below.block k hk hn)
  rcases (h.1.own (xS k hg)).2 with h1|h1
  ·omega
  ·exact hn h1
 ·cases hh:Ad H' l with
  |none=>exact Cr.Nm (xc l hh) hh
  |some b=>exact Cr.Hl (EF m l b hh) hh
def Yy:Option Real->Option Real->Prop
 |none,none=>True
 |some r,some r'=>r.g=r'.g/\r.o=r'.o/\r.cap=r'.cap
 |_,_=>False
theorem Yy.rfl' (r:Option Real):Yy r r:=by cases r<;>simp [Yy]
theorem Yy.some {r:Real} {r':Option Real} (h:Yy (some r) r'): ∃q,r'=some q/\r.g=q.g/\r.o=q.o/\r.cap=q.cap:=by
 cases r' with
 |none=>exact h.elim
 |some q=>exact ⟨q,rfl,h⟩
theorem Yy.own {r r':Option Real} (h:Yy r r') {sz off len:Nat} {v:Value} (hv:Dd r sz off len v):Dd r' sz off len v:=by
 cases r<;>cases r'<;>first|exact h.elim|skip
 ·exact hv
 ·obtain ⟨h1,h2,h3⟩:=h
  obtain ⟨ad,g1,g2,g3⟩:=hv
  exact ⟨ad,by rw [<-h3];exact g1,by rw [<-h3];exact g2,by rw [<-h1,<-h2,<-h3];exact g3⟩
structure OB.Lh (b b':OB):Prop where
 row: ∀sz n,b.row=some (sz,n)-> ∃n',b'.row=some (sz,n')/\n<=n'
 Zf: ∀p,b.Zf=some p->b'.Zf=some p
 mc: ∀p,b.mc=some p->b'.mc=some p
 var: ∀tid vs,b= .var tid vs-> ∃Mk qT,b'= .var Mk qT
 Mz: ∀v m,b= .Mz v m-> ∃m',b'= .Mz v m'
theorem OB.Lh.map (f:AC->AC) (b:OB):b.Lh (b.map f) where
 row:= λsz n h=>⟨n,by cases b<;>exact h,Nat.le_refl _⟩
 Zf:= λp h=>by cases b<;>exact h
 mc:= λp h=>by cases b<;>exact h
 var:= λtid vs h=>by subst h;exact ⟨_,_,rfl⟩
 Mz:= λv m h=>by subst h;exact ⟨_,rfl⟩
theorem OB.Lh.rfl' (b:OB):b.Lh b where
 row:= λ_sz n h=>⟨n,h,Nat.le_refl _⟩
 Zf:= λ_p h=>h
 mc:= λ_p h=>h
 var:= λ_tid _vs h=>⟨_,_,h⟩
 Mz:= λ_v _m h=>⟨_,h⟩
theorem OB.Lh.trans {a b c:OB} (h:a.Lh b) (k:b.Lh c):a.Lh c where
 row:= λsz n hr=>by
  obtain ⟨n1,h1,h2⟩:=h.row sz n hr
  obtain ⟨n2,h3,h4⟩:=k.row sz n1 h1
  exact ⟨n2,h3,by omega⟩
 Zf:= λp hp=>k.Zf p (h.Zf p hp)
 mc:= λp hp=>k.mc p (h.mc p hp)
 var:= λtid vs hv=>by obtain ⟨t',v',h1⟩:=h.var tid vs hv;exact k.var t' v' h1
 Mz:= λv m hm=>by obtain ⟨m',h1⟩:=h.Mz v m hm;exact k.Mz v m' h1
theorem fp {f:AC->AC} {D Pt:Nat->Prop} (hf: ∀c,f c= .undef\/(f c=c/\(∀k∈c.refs,¬D k)/\ ∀k i j,c= .sub k i j\/c= .Ew k i j-> ¬Pt k)) (hp: ∀k,¬D k->Yy (π k) (π' k))
  (hH: ∀k b,¬D k->Ad H k=some b-> ∃b',Ad H' k=some b'/\b.Lh b')
  (hg: ∀k r b,¬D k-> ¬Pt k->Ad H k=some b->b.Zf≠none->π k=some r->w'.heap[r.g]?=w.heap[r.g]?)
  (hc: ∀fr τ cs x,Cells w (Ax X.w0.heap.size X.Sc π fr) τ cs x->Cells w' (Ax X.w0.heap.size X.Sc π' fr) τ cs x): ∀c v,Dg X w π H c v->Dg X w' π' H' (f c) v:=by
 intro c v h
 rcases hf c with e|⟨e,hr,hs⟩
 ·rw [e];trivial
 rw [e]
 cases c with
 |data fr τ x=>obtain ⟨cs,h1,h2⟩:=h;exact ⟨cs,hc _ _ _ _ h1,h2⟩
 |own k off len=>
  obtain ⟨b,sz,n,h1,h0,h2,h3⟩:=h
  have hk:=hr k (by simp [AC.refs])
  obtain ⟨b',g1,g2⟩:=hH k b hk h1
  obtain ⟨n',g3,g4⟩:=g2.row sz n h0
  exact ⟨b',sz,n',g1,g3,by omega,(hp k hk).own h3⟩
 |Df k i=>
  obtain ⟨r,tid,vs,h1,h2,h3⟩:=h
  have hk:=hr k (by simp [AC.refs])
  obtain ⟨b',g1,g2⟩:=hH k _ hk h1
  obtain ⟨Mk,qT,rfl⟩:=g2.var tid vs rfl
  obtain ⟨q,q1,q2,_⟩:=(h2▸hp k hk).some
  exact ⟨q,Mk,qT,g1,q1,by rw [<-q2];exact h3⟩
 |Ey k i=>
  obtain ⟨r,b,sz,n,h1,h0,h2,h3,h4⟩:=h
  have hk:=hr k (by simp [AC.refs])
  obtain ⟨b',g1,g2⟩:=hH k b hk h1
  obtain ⟨n',g3,g4⟩:=g2.row sz n h0
  obtain ⟨q,q1,q2,q3,_⟩:=(h3▸hp k hk).some
  exact ⟨q,b',sz,n',g1,g3,by omega,q1,by rw [<-q2,<-q3];exact h4⟩
 |sub k i c=>
  obtain ⟨r,b,sz,n,h1,h0,h2,h3,h4,h5⟩:=h
  have hk:=hr k (by simp [AC.refs])
  obtain ⟨b',g1,g2⟩:=hH k b hk h1
  obtain ⟨q,q1,q2,q3,_⟩:=(h2▸hp k hk).some
  exact ⟨q,b',sz,n,g1,g2.Zf _ h0,q1,h3,h4,by rw [<-q2,<-q3,World.cell?_of_block (hg k r b hk (hs k i c (.inl rfl)) h1 (by rw [h0];simp) h2)];exact h5⟩
 |Ew k i c=>
  obtain ⟨r,b,n,sz,g,o,len,cap,h1,h0,h2,h3,h4,h5,h6⟩:=h
  have hk:=hr k (by simp [AC.refs])
  obtain ⟨b',g1,g2⟩:=hH k b hk h1
  obtain ⟨q,q1,q2,q3,_⟩:=(h2▸hp k hk).some
  exact ⟨q,b',n,sz,g,o,len,cap,g1,g2.mc _ h0,q1,h3,h4,by rw [<-q2,<-q3,World.cell?_of_block (hg k r b hk (hs k i c (.inr rfl)) h1 (by cases b<;>first|(cases h0;done)|simp [OB.Zf]) h2)];exact h5,h6⟩
 |clo g Bn=>
  obtain ⟨us,h1,h2,h3⟩:=h
  refine ⟨us,h1,h2,λj p PF=>?_⟩
  obtain ⟨r,tid,vs,h4,h5,h6⟩:=h3 j p PF
  have hk:=hr p.1 (by simp only [AC.refs,List.mem_map];exact ⟨p,List.mem_of_getElem? PF,rfl⟩)
  obtain ⟨b',g1,g2⟩:=hH p.1 _ hk h4
  obtain ⟨Mk,qT,rfl⟩:=g2.var tid vs rfl
  obtain ⟨q,q1,q2,_⟩:=(h5▸hp p.1 hk).some
  exact ⟨q,Mk,qT,g1,q1,by rw [<-q2];exact h6⟩
 |Fm k=>
  obtain ⟨r,vt,m,h1,h2,h3⟩:=h
  have hk:=hr k (by simp [AC.refs])
  obtain ⟨b',g1,g2⟩:=hH k _ hk h1
  obtain ⟨m',rfl⟩:=g2.Mz vt m rfl
  obtain ⟨q,q1,q2,_⟩:=(h2▸hp k hk).some
  exact ⟨q,vt,m',g1,q1,by rw [<-q2];exact h3⟩
 |_=>exact h
theorem Mn (H0:List (Nat×OB)) (ls:List Nat) (n:Nat): ∀(H:List (Nat×OB)) (l:Nat),Ad (Ux H0 ls n H) l=(Ad H l).map λb=>if ls.contains l then b.tp (Te n (KU (Ad H0 l))) else b
 | [],_=>rfl
 |(k,b)::r,l=>by
  simp only [Ux,Ad]
  split
  ·rename_i e;subst e;rfl
  ·exact Mn H0 ls n r l
theorem OB.q9 (b:OB) (kp:Option (Nat×Nat)):b.Lh (b.tp kp):=by
 cases b with
 |Ah e te rows out YA=>exact ⟨λsz n h=>⟨n,h,Nat.le_refl _⟩,λp h=>h,λp h=>h,(λ_ _ h=>by cases h),(λ_ _ h=>by cases h)⟩
 |_=>exact OB.Lh.rfl' _
theorem Yp (ls:List Nat): ∀(l m:List AV) (t:Nat),l.length=m.length->(∃k i c,l.getD t .undef= .at (.sub k i c)/\ls.contains k=true/\(Ga ls l m).getD t .undef= .at (.sub k i c))\/(Ga ls l m).getD t .undef=m.getD t .undef
 | [],m,t,_=>by cases m<;>exact .inr rfl
 |_::_,[],t,h=>by simp at h
 |a::l,v::m,t,h=>by
  have ih:= λt=>Yp ls l m t (by simpa using h)
  have tail: ∀u,Ga ls (a::l) (v::m)=u::Ga ls l m->(t=0->(∃k i c,(a::l).getD t .undef= .at (.sub k i c)/\ls.contains k=true/\u= .at (.sub k i c))\/u=v)->
    (∃k i c,(a::l).getD t .undef= .at (.sub k i c)/\ls.contains k=true/\(Ga ls (a::l) (v::m)).getD t .undef= .at (.sub k i c))\/(Ga ls (a::l) (v::m)).getD t .undef=(v::m).getD t .undef:=by
   intro u e h0
   rw [e]
   rcases t with _|t
   ·rcases h0 rfl with ⟨k,i,c,h1,h2,h3⟩|h3
    ·exact .inl ⟨k,i,c,h1,h2,by simpa using h3⟩
    ·exact .inr (by simpa using h3)
   ·simpa only [List.getD_cons_succ] using ih t
  cases a with
  | «at»c=>
   cases c with
   |sub k i c=>
    refine tail _ rfl λht=>?_
    subst ht
    by_cases hc:ls.contains k=true
    ·exact .inl ⟨k,i,c,rfl,hc,by rw [if_pos hc]⟩
    ·exact .inr (by rw [if_neg hc])
   |_=>exact tail _ rfl λ_=> .inr rfl
  |_=>exact tail _ rfl λ_=> .inr rfl
theorem lI {H:List (Nat×OB)} {ls:List Nat} {n:Nat} : ∀ {l:List AV} {t k i c:Nat},Vh H ls n l=true->l.getD t .undef= .at (.sub k i c)->ls.contains k=true->i<n/\i<jv H k
 | [],t,k,i,c,_,h,_=>by simp at h
 |a::l,0,k,i,c,ho,h,hc=>by
  simp only [List.getD_cons_zero] at h
  subst h
  simp only [Vh,hc,Bool.not_true,Bool.false_or,Bool.and_eq_true,Nat.blt_eq] at ho
  exact ho.1
 |a::l,t+1,k,i,c,ho,h,hc=>by
  refine lI (l:=l) (t:=t) (c:=c) ?_ (by simpa only [List.getD_cons_succ] using h) hc
  cases a with
  | «at»d=>cases d with
   |sub _ _ _=>simp only [Vh,Bool.and_eq_true] at ho;exact ho.2
   |_=>exact ho
  |_=>exact ho
theorem vf {Zq st:St} {a:Act} (h0:Ae X π Zq a w) (h:Ae X π' st a w') {ls:List Nat} {n:Nat} (hk: ∀l∈ls,qX w w' (π l) (π' l) n) (ky: ∀l∈ls,eW Zq.heap l=true)
  (jb:Vh st.heap ls n Zq.tmps=true):Ae X π' (dM Zq st ls n) a w'/\ ∀c v,Ak X w' π' st.heap c v->Ak X w' π' (dM Zq st ls n).heap c v:=by
 by_cases nH:ls= []
 ·subst nH;exact ⟨h,λ_ _ h=>h⟩
 have Ra:dM Zq st ls n= {tmps:=Ga ls Zq.tmps st.tmps,heap:=Ux Zq.heap ls n st.heap} :=by
  cases ls with
  |nil=>exact absurd rfl nH
  |cons _ _=>rfl
 rw [Ra]
 have ZK: ∀l∈ls,∃e te rows out kp,Ad Zq.heap l=some (.Ah e te rows out kp):= λl hl=>by
  have:=ky l hl
  unfold eW at this
  split at this
  ·exact ⟨_,_,_,_,_,by assumption⟩
  ·cases this
 have srv: ∀k b,Ad st.heap k=some b-> ∃b',Ad (Ux Zq.heap ls n st.heap) k=some b'/\b.Lh b':= λk b hb=>by
  rw [Mn,hb]
  refine ⟨_,rfl,?_⟩
  dsimp only
  split
  ·exact OB.q9 b _
  ·exact OB.Lh.rfl' b
 have SL:(∀fr τ cs x,Cells w' (Ax X.w0.heap.size X.Sc π' fr) τ cs x->Cells w' (Ax X.w0.heap.size X.Sc π' fr) τ cs x)-> ∀c v,Dg X w' π' st.heap c v->Dg X w' π' (Ux Zq.heap ls n st.heap) c v:= λhc=>
  fp (f:= λc=>c) (D:= λ_=>False) (Pt:= λ_=>False) (λc=> .inr ⟨rfl,λ_ _ h=>h,λ_ _ _ _ h=>h⟩) (λk _=>Yy.rfl' _) (λk b _ hb=>srv k b hb) (λ_ _ _ _ _ _ _ _=>rfl) hc
 have h1:Ae X π' {tmps:=st.tmps.map (·.map λc=>c),heap:=Ux Zq.heap ls n st.heap} a w':=by
  refine h.fq rfl (gv:= λ_=>False) (λ_ hf=>hf.elim) (Fh.refl _ _ _) (λ_ _ ho=>ho) h.1.sub h.1.place h.1.inj (λl hl Er=>h.1.aX l hl λh2=>Er (by rw [Mn,h2];rfl)) SL (λm l b hb=>?_) (λl hl=>?_)
  ·rw [Mn] at hb
   cases h2:Ad st.heap l with
   |none=>rw [h2] at hb;cases hb
   |some b0=>
    rw [h2] at hb
    simp only [Option.map_some,Option.some.injEq] at hb
    have hbk:=(h.1.heap l).Kz h2
    have u9:=hbk.move m (Nat.le_refl _) (λr0 c h0 h1=>h.1.sub _ r0 c h0 h1) λ_ _ _ _ _=>rfl
    rw [show OB.map (λc=>c) b0=b0 from OB.sC b0] at u9
    split at hb
    ·rename_i hc
     have hl:l∈ls:=by simpa using hc
     cases b0 with
     |Ah e te rows out kp=>
      simp only [OB.tp] at hb
      subst hb
      refine ⟨u9.1,?_⟩
      obtain ⟨e0,YH,IG,YB,YA,hg⟩:=ZK l hl
      have mh:=((h0.1.heap l).Kz hg).2
      rw [hg]
      simp only [KU]
      have mn:=hk l hl
      cases YA with
      |none=>trivial
      |some p=>
       obtain ⟨l0,n0⟩:=p
       simp only [KeptAt,Te] at mh⊢
       cases pa:X.aX l0 with
       |none=>
        cases hp:π l with
        |none=>
         rw [hp] at mn
         cases xe:π' l with
         |none=>trivial
         |some q=>rw [xe] at mn;exact mn.elim
        |some q=>rw [pa,hp] at mh;exact mh.elim
       |some r0=>
        cases hp:π l with
        |none=>rw [pa,hp] at mh;exact mh.elim
        |some q=>
         rw [pa,hp] at mh
         rw [hp] at mn
         cases xe:π' l with
         |none=>rw [xe] at mn;exact mn.elim
         |some q'=>
          rw [xe] at mn
          obtain ⟨k1,k2,k3,k4⟩:=mn
          obtain ⟨g1,g2,g3,g4⟩:=mh
          refine ⟨k1.trans g1,k2.trans g2,k3.trans g3,λj hj hc=>?_⟩
          have e1:=g4 j (by omega) hc
          have e2:=k4 j (by omega) (by omega)
          rw [g1,g2] at e2
          rw [<-e1,e2]
     |_=>simp only [OB.tp] at hb;subst hb;exact u9
    ·subst hb;exact u9
  ·rw [Mn] at hl
   cases h2:Ad st.heap l with
   |none=>exact (h.1.heap l).emp h2
   |some b=>rw [h2] at hl;cases hl
 have zS: ∀c v,Ak X w' π' st.heap c v->Ak X w' π' (Ux Zq.heap ls n st.heap) c v:= λc v hv=>by
  have m:Move X w' w' π' π' st.heap (Ux Zq.heap ls n st.heap) (λc=>c):=⟨SL λ_ _ _ _ h=>h,λ_ _ _ _ h=>h⟩
  have:=m.av hv
  rwa [AC.map_id] at this
 refine ⟨⟨h1.1,⟨?_,h.2.defers,λt=>?_⟩⟩,zS⟩
 ·have: ∀(l m:List AV),(Ga ls l m).length=m.length:=by
   intro l
   induction l with
   |nil=>intro m;cases m<;>rfl
   |cons a l ih=>
    intro m
    cases m with
    |nil=>cases a with
     | «at»c=>cases c<;>rfl
     |_=>rfl
    |cons v m=>cases a with
     | «at»c=>cases c<;>simp only [Ga,List.length_cons,ih m]
     |_=>simp only [Ga,List.length_cons,ih m]
  show a.tmps.size=(Ga ls Zq.tmps st.tmps).length
  rw [this];exact h.2.size
 ·show Ak X w' π' _ ((Ga ls Zq.tmps st.tmps).getD t .undef) _
  rcases Yp ls Zq.tmps st.tmps t (by rw [<-h0.2.size,<-h.2.size]) with ⟨k,i,c,g1,g2,g3⟩|g
  ·rw [g3]
   have Lq:k∈ls:=by simpa using g2
   obtain ⟨i1,i2⟩:=lI jb g1 g2
   have hv:=h0.2.tmps t
   rw [show Zq.get t=_ from g1] at hv
   obtain ⟨r,b,sz,n',e1,e2,e3,e4,⟨e5,e6⟩,e7⟩:=hv
   obtain ⟨e0,YH,IG,YB,YA,hg⟩:=ZK k Lq
   rw [hg] at e1;cases e1
   simp only [OB.Zf,Option.some.injEq,Prod.mk.injEq] at e2
   obtain ⟨rfl,rfl⟩:=e2
   have mn:=hk k Lq
   rw [e3] at mn
   cases xe:π' k with
   |none=>rw [xe] at mn;exact mn.elim
   |some q'=>
    rw [xe] at mn
    obtain ⟨k1,k2,k3,k4⟩:=mn
    have kx:IG.length<=r.cap:=by
     have:=((h0.1.heap k).Kz hg).1
     rw [e3] at this
     obtain ⟨_,_,_,_,_,_,h5,_⟩:=this
     exact h5
    unfold jv at i2
    split at i2
    ·rename_i e9 te9 RI Ad8 kp9 hg9
     refine ⟨q',_,1,RI.length,by rw [Mn,hg9];rfl,?_,xe,i2,⟨e5,e6⟩,?_⟩
     ·dsimp only
      split<;>rfl
     ·have dF:c=0:=by omega
      subst dF
      rw [k1,k2]
      rw [Nat.mul_one,Nat.add_zero] at e7⊢
      rw [k4 i i1 (by omega)];exact e7
    ·omega
  ·rw [g]
   exact zS _ _ (h.2.tmps t)
theorem gQ {ins:List (Bool×CK)} {as:List AC} {pl:List Nat} {st:St} :(je ins as pl st).tmps=st.tmps:=by
 unfold je
 split
 ·rfl
 ·split<;>rfl
theorem w8 {ins:List (Bool×CK)} {as:List AC} {pl:List Nat} {st:St} {m:Nat} (hm:m∉pl):Ad (je ins as pl st).heap m=Ad st.heap m:=by
 unfold je
 split
 ·rfl
 ·rename_i l r
  split
  ·exact Cb _ _ _ _ λe=>hm (e▸List.mem_cons_self)
  ·rfl
theorem yO {ins:List (Bool×CK)} {as:List AC} {l:Nat} {st:St} {tid:TypeId} {vs:List AC} (hl:Ad st.heap l=some (.var tid vs)):Ad (je ins as [l] st).heap l=some (.var tid (Zm ins vs as)):=by
 simp only [je,St.at,hl]
 exact Cf _ _ _ _ hl
theorem o7 {α:Type} (ins:List (Bool×CK)) (as:List α):Zm ins [] as= []:=by
 rcases ins with _|⟨⟨_|_,c⟩,r⟩<;>rfl
theorem gJ {α:Type} : ∀(ins:List (Bool×CK)) (vs as:List α),(Zm ins vs as).length=vs.length
 | [],vs,as=>by rw [Zm];all_goals simp
 |p::r,[],as=>by rw [o7]
 |(true,c)::r,v::vs,as=>by simp only [Zm,List.length_cons,gJ r vs as]
 |(false,c)::r,v::vs,[]=>by rw [Zm];all_goals simp
 |(false,c)::r,v::vs,a::as=>by simp only [Zm,List.length_cons,gJ r vs as]
theorem yF {st:St} {a:Act} (h:Ae X π st a w) {s:MSpec} {ig:List AV} {vs:List Value} (hlen:ig.length=vs.length) (zS: ∀(i:Nat) c v,ig[i]?=some c->vs[i]?=some v->Ak X w π st.heap c v)
  {pl:List Nat} {cells:List AC} {rest:List AV} (he:xp st s ig=some (pl,cells,rest)):
  ∃(g:Nat) (GN ow:List Value),rest.length=ow.length/\(∀(i:Nat) c v,rest[i]?=some c->ow[i]?=some v->Ak X w π st.heap c v)/\Hb X w π st.heap cells GN/\
   ((s.ptr=none/\pl= []/\cells= []/\GN= []/\vs=ow)\/
    ∃p l q,s.ptr=some p/\pl= [l]/\π l=some q/\q.Ar q.g/\g=q.g/\Ad st.heap l=some (.var p.1 cells)/\cells.length=p.2/\vs= .pointer (some ⟨g,0,none⟩)::ow/\w.heap[g]?=some (.cells GN.toArray p.1 (0,0))/\Cj X w π st.heap cells GN):=by
 unfold xp at he
 split at he
 ·rename_i hp
  simp only [Option.some.injEq,Prod.mk.injEq] at he
  obtain ⟨rfl,rfl,rfl⟩:=he
  exact ⟨0,[],vs,hlen,zS,trivial, .inl ⟨hp,rfl,rfl,rfl,rfl⟩⟩
 ·rename_i p hp
  split at he
  ·rename_i l i Aa7
   split at he
   ·rename_i tid cs hl
    split at he
    ·rename_i hc
     obtain ⟨rfl,hc,rfl⟩:=hc
     simp only [Option.some.injEq,Prod.mk.injEq] at he
     obtain ⟨rfl,rfl,rfl⟩:=he
     unfold St.at at hl
     cases vs with
     |nil=>simp at hlen
     |cons v vs=>
      obtain ⟨r,Mk,qT,h1,h2,rfl⟩:=zS 0 _ v rfl rfl
      rw [hl] at h1;cases h1
      obtain ⟨r',h3,h4,cur,h5,h6⟩:=(h.1.heap l).Kz hl
      rw [h2] at h3;cases h3
      exact ⟨r.g,cur.toList,vs,by simpa using hlen,λi c v h7 h8=>zS (i+1) c v (by simpa using h7) (by simpa using h8),Hb.of h6, .inr ⟨p,l,r,hp,rfl,h2,h4,rfl,hl,hc,rfl,by simpa using h5,h6⟩⟩
    ·cases he
   ·cases he
  ·cases he
theorem c7 {V:List Nat} {πc:Pi} {dead part:List Nat} (IA: ∀l,l∉dead->π' l=π l) (Rp: ∀l b sz n,l∉dead->Ad H l=some b->b.row=some (sz,n)-> ∃b',Ad H' l=some b'/\b'.row=some (sz,n)):
  ∀(ins:List (Bool×CK)) (k:Nat) (cells fN:List AC) (x:Ins.den ins) (us:List Value) (o:IOs.den ins) (cur st1:St) (news:List AC) (Qo cs:List Value),j4 X w π V H πc k ins x (cells++fN) us->Nj ins cells=true->
   Dl ins o (cells++fN) cur=some st1->Bs πc k ins o cells.length cs Qo->Hb X w' π' H' news Qo->Hb X w' π' H' (Zm ins (cells.map (Ap dead part)) news) cs
 |ins,k,[],fN,x,us,o,cur,st1,news,Qo,cs,_,_,_,hb,_=>by
  have hb:cs= []:=by rcases ins with _|⟨⟨_|_,c⟩,r⟩<;>(try cases c)<;>simpa [Bs] using hb
  rw [hb,List.map_nil,o7]
  trivial
 | [],k,a::cells,fN,x,us,o,cur,st1,news,Qo,cs,_,hk,_,_,_=>by simp [Nj] at hk
 |(true, .Gd τ)::r,k,a::cells,fN,x,us,o,cur,st1,news,Qo,cs,_,hk,_,_,_=>by simp [Nj] at hk
 |(true, .part e te)::r,k,a::cells,fN,x,us,o,cur,st1,news,Qo,cs,_,hk,_,_,_=>by simp [Nj] at hk
 |(true, .Ah e te _)::r,k,a::cells,fN,x,us,o,cur,st1,news,Qo,cs,_,hk,_,_,_=>by simp [Nj] at hk
 |(true, .row e te)::r,k,a::cells,fN,x,us,o,cur,st1,news,Qo,cs,ht,hk,hp,hb,hn=>by
  cases a<;>simp only [Nj,Bool.false_eq_true] at hk
  rename_i l off len
  cases us with
  |nil=>exact ht.elim
  |cons u0 us=>
  cases cs with
  |nil=>exact hb.elim
  |cons u cs=>
  obtain ⟨⟨_,h1⟩,h2⟩:=ht
  simp only [Lm] at h1
  obtain ⟨h3,rfl,rfl,fr,tr,h4⟩:=h1
  obtain ⟨h5,h6⟩:=hb
  simp only [List.cons_append,Dl] at hp
  split at hp
  rotate_left
  ·cases hp
  rename_i Rj KC
  have AD:List.length o.1=List.length x.1:=by
   simp only [Tr] at KC
   repeat' split at KC
   all_goals first|(cases KC;done)|(rename_i hc;exact hc.2.1)
  refine ⟨?_,c7 IA Rp r (k+1) cells fN x.2 us o.2 Rj st1 news Qo cs h2 hk hp h6 hn⟩
  by_cases hd:l∈dead
  ·have:Ap dead part (.own l 0 (List.length x.1))= .undef:=by
    unfold Ap
    rw [if_pos (by simp [AC.refs,hd])]
   rw [this];trivial
  ·rw [Ua (by simpa [AC.refs] using hd) (by intro l i j e;rcases e with e|e<;>cases e)]
   obtain ⟨b',g1,g2⟩:=Rp l _ e.size (List.length x.1) hd h4 rfl
   refine ⟨b',e.size,List.length x.1,g1,g2,by omega,?_⟩
   rw [IA l hd]
   rw [h3,AD] at h5
   cases hp:π l<;>(rw [hp] at h5;exact h5)
 |(true, .Dc e te)::r,k,a::cells,fN,x,us,o,cur,st1,news,Qo,cs,ht,hk,hp,hb,hn=>by
  cases a<;>simp only [Nj,Bool.false_eq_true] at hk
  rename_i l off len
  cases us with
  |nil=>exact ht.elim
  |cons u0 us=>
  cases cs with
  |nil=>exact hb.elim
  |cons u cs=>
  obtain ⟨⟨_,h1⟩,h2⟩:=ht
  simp only [Lm] at h1
  obtain ⟨h3,rfl,rfl,h4⟩:=h1
  obtain ⟨h5,h6⟩:=hb
  simp only [List.cons_append,Dl] at hp
  split at hp
  rotate_left
  ·cases hp
  rename_i Rj KC
  have AD:List.length o.1=List.length x.1:=by
   simp only [Tr] at KC
   repeat' split at KC
   all_goals first|(cases KC;done)|(rename_i hc;exact hc.2.1)
  refine ⟨?_,c7 IA Rp r (k+1) cells fN x.2 us o.2 Rj st1 news Qo cs h2 hk hp h6 hn⟩
  by_cases hd:l∈dead
  ·have:Ap dead part (.own l 0 (List.length x.1))= .undef:=by
    unfold Ap
    rw [if_pos (by simp [AC.refs,hd])]
   rw [this];trivial
  ·rw [Ua (by simpa [AC.refs] using hd) (by intro l i j e;rcases e with e|e<;>cases e)]
   obtain ⟨b',g1,g2⟩:=Rp l _ e.size (List.length x.1) hd h4 rfl
   refine ⟨b',e.size,List.length x.1,g1,g2,by omega,?_⟩
   rw [IA l hd]
   rw [h3,AD] at h5
   cases hp:π l<;>(rw [hp] at h5;exact h5)
 |(false,c)::r,k,a::cells,fN,x,[],o,cur,st1,news,Qo,cs,ht,hk,hp,hb,hn=>ht.elim
 |(false,c)::r,k,a::cells,fN,x,u0::us,o,cur,st1,news,Qo,[],ht,hk,hp,hb,hn=>by cases c<;>exact hb.elim
 |(false,c)::r,k,a::cells,fN,x,u0::us,o,cur,st1,news,[],u::cs,ht,hk,hp,hb,hn=>by cases c<;>exact hb.elim
 |(false,c)::r,k,a::cells,fN,x,u0::us,o,cur,st1,[],u'::Qo,u::cs,ht,hk,hp,hb,hn=>hn.elim
 |(false,c)::r,k,a::cells,fN,x,u0::us,o,cur,st1,na::news,u'::Qo,u::cs,ht,hk,hp,hb,hn=>by
  have VD:u=u'/\Bs πc (k+1) r o cells.length cs Qo:=by cases c<;>exact hb
  obtain ⟨rfl,SM⟩:=VD
  have hp:Dl r o (cells++fN) cur=some st1:=by cases c<;>simpa only [List.cons_append,Dl] using hp
  have hk:Nj r cells=true:=by cases c<;>simpa only [Nj] using hk
  exact ⟨hn.1,c7 IA Rp r (k+1) cells fN x.2 us o cur st1 news Qo cs ht.2 hk hp SM hn.2⟩
theorem tK {V:List Nat} {πc:Pi} : ∀(cs:List (Bool×CK)) (k0:Nat) (x:Ins.den cs) (as:List AC) (us:List Value),k0+cs.length<100000->j4 X w π V H πc k0 cs x as us-> ∀k l,(Bk false k,Loc.row l)∈Gb k0 cs as->πc (Bk false k)=(π l).map full
 | [],_,_,[],_,_,_,_,_,h=>by cases h
 | [],_,_,_::_,_,_,_,_,_,h=>by cases h
 |_::_,_,_,[],_,_,_,_,_,h=>by cases h
 |_::_,_,_,_::_,[],_,h,_,_,_=>h.elim
 |(io,c)::r,k0,x,a::as,u::us,hk,h,k,l,ht=>by
  simp only [List.length_cons] at hk
  simp only [Gb] at ht
  rcases List.mem_append.1 ht with ht|ht
  ·obtain ⟨⟨_,h1⟩,_⟩:=h
   cases c with
   |Gd τ=>cases a<;>simp [Jm,views] at ht
   |row e te=>
    cases a<;>simp [Jm] at ht
    obtain ⟨e1,rfl⟩:=ht
    simp only [Lm] at h1
    rw [e1];exact h1.1
   |Dc e te=>
    cases a<;>simp [Jm] at ht
    obtain ⟨e1,rfl⟩:=ht
    simp only [Lm] at h1
    rw [e1];exact h1.1
   |part e te=>
    cases a<;>simp [Jm] at ht
    obtain ⟨e1,rfl⟩:=ht
    simp only [Lm] at h1
    rw [e1];exact h1.2.1
   |Ah e te kp=>
    cases a<;>simp [Jm] at ht
    obtain ⟨e1,rfl⟩:=ht
    simp only [Lm] at h1
    rw [e1];exact h1.2.1
  ·exact tK r (k0+1) x.2 as us (by omega) h.2 k l ht
theorem j6 {st:St} {a:Act} (h:Ae X π st a w) {f:FuncId} {s:MSpec} (hs:Dq P f s) (dst:Option Nat) (ig:List AV) (vs:List Value) (hlen:ig.length=vs.length)
  (zS: ∀(i:Nat) c v,ig[i]?=some c->vs[i]?=some v->Ak X w π st.heap c v) (av:AV) (st':St) (he:Ol st dst s ig=some (av,st')):
  Calls P f vs.toArray w λe w'=> ∃v,e= .returned v/\ ∃π',Ae X π' st' a w'/\Ak X w' π' st'.heap av v:=by
 unfold Ol at he
 split at he
 ·cases he
 rename_i pl cells rest WZ
 split at he
 ·cases he
 rename_i fN zw
 split at he
 ·cases he
 rename_i x tks ZX
 split at he
 rotate_left
 ·cases he
 rename_i Eo
 simp only [Bool.and_eq_true,Nat.blt_eq] at Eo
 obtain ⟨⟨⟨⟨zt,kB⟩,PC⟩,a5⟩,OS,xY⟩:=Eo
 have xY: ∀l∈pl,l∉(tks.map λt=>t.2.Oa)/\l∉Kq s tks (dst.getD 0):= λl hl=>by
  have:=List.all_eq_true.1 xY l hl
  simp only [Bool.not_eq_true',<-Bool.not_eq_true,List.contains_iff_mem] at this
  exact ⟨λhm=>this (List.mem_append_left _ hm),λhm=>this (List.mem_append_right _ hm)⟩
 split at he
 ·cases he
 rename_i r o MQ
 split at he
 ·cases he
 rename_i st1 KF
 obtain ⟨g,GN,ow,OT,VC,XC,NA⟩:=yF h hlen zS WZ
 obtain ⟨mY,rfl,zv,XB⟩:=Un s.Gc rest ow fN OT VC zw
 have KH:=XC.append XB
 have Jz:fP s w g (GN++mY) vs:=by
  unfold fP
  rcases NA with ⟨h1,_,_,h2,h3⟩|⟨p,l,q,h1,_,_,_,_,_,h2,h3,h4,h5⟩
  ·rw [h1];subst h2;exact ⟨h3,zv⟩
  ·rw [h1]
   have hl:GN.length=p.2:=h5.1.trans h2
   simp only
   rw [List.drop_append_of_le_length (by omega),List.take_append_of_le_length (by omega),List.take_of_length_le (by omega),List.drop_of_length_le (by omega)]
   refine ⟨h3,zv,by simp;omega,h4,λu hu=>?_⟩
   obtain ⟨i,hi,rfl⟩:=List.mem_iff_getElem.1 hu
   obtain ⟨u',h6,h7,_⟩:=h5.2 i (cells[i]'(by have:=h5.1;omega)) (List.getElem?_eq_getElem _)
   rw [List.getElem?_eq_getElem hi] at h6
   rw [Option.some.inj h6];exact h7
 have xZ: ∀l∈pl,∃p q,s.ptr=some p/\pl= [l]/\π l=some q/\q.Ar q.g/\g=q.g/\Ad st.heap l=some (.var p.1 cells)/\cells.length=p.2:= λl hl=>by
  rcases NA with ⟨_,h1,_⟩|⟨p,l',q,h1,h2,h3,h4,h5,h6,h7,_⟩
  ·rw [h1] at hl;cases hl
  ·rw [h2] at hl
   have:=List.mem_singleton.1 hl
   subst this
   exact ⟨p,q,h1,h2,h3,h4,h5,h6,h7⟩
 have xS: ∀b,s.gv g b-> ∃l∈pl,∃q,π l=some q/\q.Ar b/\b=q.g:= λb ⟨h1,h2⟩=>by
  rcases NA with ⟨h3,_⟩|⟨p,l',q,_,h4,h5,h6,h7,_⟩
  ·rw [h3] at h1;cases h1
  ·exact ⟨l',by rw [h4];exact List.mem_singleton.2 rfl,q,h5,by rw [h2,h7];exact h6,h2.trans h7⟩
 obtain ⟨as,has⟩: ∃as,as=cells++fN:=⟨_,rfl⟩
 obtain ⟨us,AL⟩: ∃us,us=GN++mY:=⟨_,rfl⟩
 rw [<-has] at KH ZX KF
 rw [<-AL] at KH Jz
 let V:=(tks.filter λt=>t.2.reads).map λt=>t.2.Oa
 have hV: ∀t∈tks,t.2.reads=true->t.2.Oa∈V:= λt ht hr=>List.mem_map.2 ⟨t,List.mem_filter.2 ⟨ht,hr⟩,rfl⟩
 have UX: ∀l∈V,∃t∈tks,t.2.reads=true/\t.2.Oa=l:= λl hl=>by
  obtain ⟨t,h1,h2⟩:=List.mem_map.1 hl
  exact ⟨t,(List.mem_filter.1 h1).1,(List.mem_filter.1 h1).2,h2⟩
 clear_value V
 obtain ⟨DG,πc,hT,zV,VW,Ni⟩:=lO h.1 (V:=V) s.ins 0 as us x tks (by omega) KH ZX hV
 have uQ:=Oy zt
 rw [DG] at uQ
 have Wb: ∀b,Na πc b-> ∃t∈Gb 0 s.ins as,t.2.reads=false/\ ∃q,π t.2.Oa=some q/\q.Ar b/\ ∀l i j,t.2= .sub l i j->b≠q.g:= λb ⟨c,q,h1,h2⟩=>by
  obtain ⟨t,t1,_,t3⟩:=Ni c q b h1 h2
  exact ⟨t,t1,t3⟩
 have uT: ∀b,Na πc b->Na π b:= λb hb=>let ⟨t,_,_,q,h1,h2,_⟩:=Wb b hb;⟨_,q,h1,h2⟩
 have cE:a9 πc (λb=>b<w.heap.size):=⟨λl q b h1 h2=>(h.1.own (uT b ⟨l,q,h1,h2⟩)).1,λl l' q q' b h1 h2 h3 h4=>by
  obtain ⟨t,t1,t2,_,p,t3,t4,_⟩:=Ni l q b h1 h3
  obtain ⟨t',LV,TU,_,p',t3',t4',_⟩:=Ni l' q' b h2 h4
  have:=pv uQ t1 LV (h.1.apart t3 t3' t4 t4')
  rw [<-t2,<-TU,this]⟩
 have NZ: ∀k l,(Bk false k,Loc.row l)∈Gb 0 s.ins as->πc (Bk false k)=(π l).map full:= λk l ht=>
  tK s.ins 0 x as us (by omega) hT k l ht
 have QD: ∀b,Na πc b->Ig X π V b:= λb hb=> .inl ⟨uT b hb,λl hl r' hr hf=>by
  obtain ⟨t,t1,t0,q,t3,t4,_⟩:=Wb b hb
  obtain ⟨t',LV,TU,rfl⟩:=UX l hl
  rw [DG] at LV
  have:=pv uQ t1 LV (h.1.apart t3 hr t4 hf)
  subst this
  rw [t0] at TU;cases TU⟩
 let S:Nat->Prop:= λb=> ¬Na πc b/\Ig X π V b
 have hS: ∀b,S b->b<w.heap.size/\ ¬Na πc b:= λb hb=>⟨by
  rcases hb.2 with h1|h1
  ·exact (h.1.own h1.1).1
  ·exact Nat.lt_of_lt_of_le (h.1.sc b h1).1 h.1.below.size,hb.1⟩
 have EU: ∀l∈pl,∀t∈Gb 0 s.ins as,t.2.Oa≠l:= λl hl t ht e=>(xY l hl).1 (List.mem_map.2 ⟨t,DG▸ht,e⟩)
 have US:s.ptr.isSome=true->S g:= λMZ=>by
  obtain ⟨l,hl,q,h1,h2,h3⟩:=xS g ⟨MZ,rfl⟩
  have MV: ¬Na πc g:= λhb=>by
   obtain ⟨t,t1,_,q',t3,t4,_⟩:=Wb g hb
   exact EU l hl t t1 (h.1.apart t3 h1 t4 h2)
  refine ⟨MV, .inl ⟨⟨l,q,h1,h2⟩,λl' Hy r' dJ hf=>?_⟩⟩
  obtain ⟨t',LV,_,rfl⟩:=UX l' Hy
  rw [DG] at LV
  exact EU l hl t' LV (h.1.apart dJ h1 hf h2)
 refine (hs.calls w S πc us x r o g vs Jz US (Wz.Ef (λb hb=>hb.elim (QD b) λh=>h.2) s.ins 0 x us (hT.QN s.ins 0 x as us)) cE hS VW MQ).mono ?_
 rintro e w' ⟨v,Qo,qU,rfl,Xq,nB,EE,p6,PD,AF,KS,nG⟩
 obtain ⟨ρ,FB,uS,AE,HC⟩: ∃ρ:Pi,(∀l,ρ l=(qU l).map full)/\Eg w' (cf S πc qU) ρ 0 s.outs r Qo/\a9 ρ (λb=>b<w'.heap.size/\(w.heap.size<=b\/ ∃l q,l<Ag/\πc l=some q/\q.Ar b))/\ ∀l q,ρ l=some q->q.cl=q.Ar:=by
  have un: ∀l q,(qU l).map full=some q-> ∃q0,qU l=some q0/\q=full q0:= λl q hq=>by
   cases hp:qU l with
   |none=>rw [hp] at hq;cases hq
   |some q0=>rw [hp] at hq;exact ⟨q0,rfl,(Option.some.inj hq).symm⟩
  refine ⟨λl=>(qU l).map full,λ_=>rfl,Eg.full s.outs 0 r Qo PD,⟨λl q b h1 h2=>?_,λl l' q q' b h1 h2 h3 h4=>?_⟩,λl q h1=>?_⟩
  ·obtain ⟨q0,h5,rfl⟩:=un l q h1
   exact AF.Of l q0 b h5 h2
  ·obtain ⟨q0,h5,rfl⟩:=un l q h1
   obtain ⟨LO,h6,rfl⟩:=un l' q' h2
   exact AF.inj l l' q0 LO b h5 h6 h3 h4
  ·obtain ⟨q0,_,rfl⟩:=un l q h1
   rfl
 refine ⟨v,rfl,?_⟩
 split at he
 ·cases he
 rename_i YO aJ
 split at he
 rotate_left
 ·cases he
 rename_i Me
 simp only [Option.some.injEq,Prod.mk.injEq] at he
 obtain ⟨rfl,rfl⟩:=he
 let D1:Nat->Prop:=if s.flat then λ_=>True else cf S πc qU
 have VZ:Gf w' D1 πc 0 s.ins o:=by
  show Gf w' (if s.flat then λ_=>True else cf S πc qU) πc 0 s.ins o
  split
  ·rename_i hf
   unfold MSpec.flat at hf
   simp only [Bool.and_eq_true] at hf
   exact Gf.any s.ins 0 o hf.2 p6
  ·exact p6
 have PE:Eg w' D1 ρ 0 s.outs r Qo:=by
  show Eg w' (if s.flat then λ_=>True else cf S πc qU) ρ 0 s.outs r Qo
  split
  ·rename_i hf
   unfold MSpec.flat at hf
   simp only [Bool.and_eq_true] at hf
   exact Eg.any s.outs 0 r Qo hf.1 uS
  ·exact uS
 obtain ⟨q1,q2,q3,q4⟩:=l7 (D:=D1) (X:=X) (π:=π) (H:=st.heap) h.1 EE.size (tks:=Gb 0 s.ins as) (πc:=πc) (λt ht q b hq hb Gp hn=>EE.block b Gp λuR=>by
   rcases uR with ⟨c,r',h1,h2⟩|hg
   rotate_left
   ·obtain ⟨l,hl,q',h1,h2,_⟩:=xS b hg
    exact EU l hl t ht (h.1.apart hq h1 hb h2)
   obtain ⟨t',t1,t2,_,p,t3,t4,_⟩:=Ni c r' b h1 h2
   have:=pv uQ ht t1 (h.1.apart hq t3 hb t4)
   subst this
   exact hn r' (t2▸h1) h2) s.ins 0 x as us o st st1 (by omega) (λ_ h=>h) uQ hT VZ KF (λ_ _=>rfl)
 have KI: ∀t∈Gb 0 s.ins as,t.2.reads=true->t.1<Ag:=by
  have: ∀(cs:List (Bool×CK)) (k:Nat) (as:List AC),k+cs.length<100000-> ∀t∈Gb k cs as,t.2.reads=true->t.1<Ag:=by
   intro cs
   induction cs with
   |nil=>intro k as _ t ht;cases as<;>cases ht
   |cons p r ih=>
    intro k as hk t ht hr
    simp only [List.length_cons] at hk
    cases as with
    |nil=>cases ht
    |cons a as=>
     simp only [Gb] at ht
     rcases List.mem_append.1 ht with ht|ht
     ·rcases tJ ht with ⟨_,h1⟩|⟨h1,_⟩
      ·rw [hr] at h1;cases h1
      ·rw [h1];exact Yh (by omega)
     ·exact ih (k+1) as (by omega) t ht hr
  exact this s.ins 0 as (by omega)
 let d:=dst.getD 0
 let ks:=Kq s tks d
 let dead:=eB tks++ks++(if s.flat then [] else qF tks)
 let part:=whole tks
 have XF:s.outs.length+(dU s d).length=s.Mg:=by unfold MSpec.Mg dU;cases s.rp<;>rfl
 obtain ⟨JW,WJ,HK⟩:ks.length=s.Mg/\ks.Nodup/\ ∀l∈ks,l<Ag:=by
  have:=vn kB
  rw [XF] at this
  exact this
 have MV:s.outs.length<=s.Mg:=by unfold MSpec.Mg;omega
 have EZ: ∀tid,s.rp=some tid->Bl ks s.outs.length=Ll d/\s.Mg=s.outs.length+1:= λtid Ou=>by
  have h1:s.Mg=s.outs.length+1:=by unfold MSpec.Mg;rw [Ou]
  refine ⟨?_,h1⟩
  have h2:ks=ew s tks d++ [Ll d]:=by show ew s tks d++dU s d=_;unfold dU;rw [Ou]
  have h3:(ew s tks d).length=s.outs.length:=by rw [h2] at JW;simp at JW;omega
  rw [Ke (by rw [JW];omega)]
  simp only [h2]
  rw [List.getElem_append_right (by omega)]
  simp [h3]
 have AB:=ru WJ HK
 have WH: ∀j,j<s.Mg->Bl ks j<Ag:= λj hj=>HK _ (mem_keys.2 ⟨j,by omega,rfl⟩)
 let π':Pi:= λl=>match (List.range s.Mg).find? λj=>decide (Bl ks j=l) with
  |some j=>ρ (Eu j)
  |none=>if l∈dead then none else π l
 have mj: ∀j,j<s.Mg->π' (Bl ks j)=ρ (Eu j):= λj hj=>by
  show (match (List.range s.Mg).find? λi=>decide (Bl ks i=Bl ks j) with|some i=>ρ (Eu i)|none=>_)=_
  cases hf:(List.range s.Mg).find? λi=>decide (Bl ks i=Bl ks j) with
  |none=>
   have:=List.find?_eq_none.1 hf j (List.mem_range.2 hj)
   simp at this
  |some i=>
   have:=List.find?_some hf
   rw [AB i j (of_decide_eq_true this)]
 have kA: ∀j,j<s.Mg->Bl ks j∈dead:= λj hj=>List.mem_append_left _ (List.mem_append_right _ (mem_keys.2 ⟨j,by omega,rfl⟩))
 have p7: ∀l,(¬ ∃j,j<s.Mg/\l=Bl ks j)->π' l=if l∈dead then none else π l:= λl hl=>by
  show (match (List.range s.Mg).find? λi=>decide (Bl ks i=l) with|some i=>ρ (Eu i)|none=>_)=_
  cases hf:(List.range s.Mg).find? λi=>decide (Bl ks i=l) with
  |none=>rfl
  |some i=>
   have h1:=List.find?_some hf
   exact absurd ⟨i,List.mem_range.1 (List.mem_of_find?_eq_some hf),(of_decide_eq_true h1).symm⟩ hl
 have AO: ∀l,l∉dead->π' l=π l:= λl hl=>by
  rw [p7 l (λ⟨j,h1,h2⟩=>hl (h2▸kA j h1)),if_neg hl]
 have NR: ∀b,Na π' b\/X.Sc b->D1 b:=by
  intro b hb
  show (if s.flat then λ_=>True else cf S πc qU) b
  split
  ·trivial
  rename_i hnf
  rcases hb with ⟨l,q,hl,hf⟩|hb
  ·by_cases hk: ∃j,j<s.Mg/\l=Bl ks j
   ·obtain ⟨j,hj,rfl⟩:=hk
    rw [mj j hj,FB] at hl
    cases hp:qU (Eu j) with
    |none=>rw [hp] at hl;cases hl
    |some q0=>rw [hp] at hl;simp only [Option.map_some,Option.some.injEq] at hl;subst hl;exact .inr (.inr ⟨Eu j,q0,hp,hf⟩)
   ·have e0:π' l=if l∈dead then none else π l:=p7 l hk
    rw [e0] at hl
    split at hl
    ·cases hl
    ·rename_i ER
     by_cases ho:Na πc b
     ·obtain ⟨c,q',hc,ZF⟩:=ho
      obtain ⟨t,t1,t2,t0,p,t3,t4,_⟩:=Ni c q' b hc ZF
      have p8:=h.1.apart hl t3 hf t4
      refine .inr (.inl ⟨c,q',Classical.byContradiction λhn=>?_,hc,ZF⟩)
      exact ER (List.mem_append_left _ (List.mem_append_left _ (Wj.2 ⟨t,DG▸t1,⟨by rw [t2];omega,t0⟩,p8.symm⟩)))
     ·refine .inl ⟨ho, .inl ⟨⟨l,q,hl,hf⟩,λl0 JY r0 KG SP=>?_⟩⟩
      have:=h.1.apart hl KG hf SP
      subst this
      exact ER (List.mem_append_right _ (by rw [if_neg hnf];exact kR.2 (UX l JY)))
  ·refine .inl ⟨λho=>?_, .inr hb⟩
   have h1:=h.1.sc b hb
   rcases (h.1.own (uT b ho)).2 with h2|h2
   ·omega
   ·exact h1.2 h2
 have WY: ∀l∈pl,l∉dead:= λl hl hd=>by
  rcases List.mem_append.1 hd with hd|hd
  ·rcases List.mem_append.1 hd with hd|hd
   ·obtain ⟨t,ht,_,e⟩:=Wj.1 hd
    exact (xY l hl).1 (List.mem_map.2 ⟨t,ht,e⟩)
   ·exact (xY l hl).2 hd
  ·split at hd
   ·cases hd
   ·obtain ⟨t,ht,_,e⟩:=kR.1 hd
    exact (xY l hl).1 (List.mem_map.2 ⟨t,ht,e⟩)
 have JV: ∀j,j<s.Mg->Bl ks j∉pl:= λj hj hp=>WY _ hp (kA j hj)
 let bv:Option OB:=s.rp.map λtid=> .var tid ((Th (Bl ks) 0 s.outs r).drop s.Rc)
 let H1:=(je s.ins (Th (Bl ks) 0 s.outs r) pl (st1.Tz dead part)).heap
 have MM: ∀l,l∉pl->Ad H1 l=if l∈dead then none else (Ad st1.heap l).map (OB.map (Ap dead part)):= λl hl=>by
  show Ad (je _ _ _ _).heap l=_
  rw [w8 hl]
  show Ad (Oi (st1.heap.map λp=>(p.1,p.2.map (Ap dead part))) dead) l=_
  rw [Hi,Ij]
 let H2:=sf H1 (Ll d) bv
 have TF: ∀tid,s.rp=some tid->Ll d∈dead/\Ll d∉pl:= λtid Ou=>by
  obtain ⟨e1,e2⟩:=EZ tid Ou
  rw [<-e1]
  exact ⟨kA _ (by omega),JV _ (by omega)⟩
 have NV: ∀l,(∀tid,s.rp=some tid->l≠Ll d)->Ad H2 l=Ad H1 l:= λl hl=>by
  show Ad (sf H1 (Ll d) (s.rp.map _)) l=_
  cases ua:s.rp with
  |none=>rfl
  |some tid=>exact Ir _ _ _ _ (hl tid ua)
 have UO: ∀tid,s.rp=some tid->Ad H2 (Ll d)=some (.var tid ((Th (Bl ks) 0 s.outs r).drop s.Rc)):= λtid Ou=>by
  show Ad (sf H1 (Ll d) (s.rp.map _)) (Ll d)=_
  rw [Ou]
  exact Jo _ _ _ (by rw [MM _ (TF tid Ou).2,if_pos (TF tid Ou).1])
 have ZN: ∀j,j<s.outs.length-> ∀tid,s.rp=some tid->Bl ks j≠Ll d:= λj hj tid Ou e=>by
  have:=AB j s.outs.length (e.trans (EZ tid Ou).1.symm)
  omega
 have UN: ∀l,l∉pl->(∀tid,s.rp=some tid->l≠Ll d)->Ad H2 l=if l∈dead then none else (Ad st1.heap l).map (OB.map (Ap dead part)):= λl hl hv=>by
  rw [NV l hv,MM l hl]
 let H':=Oz (wW st (eB tks)) (Bl ks) 0 s.outs r H2
 obtain ⟨n1,n2,n3⟩:=iO (D:=D1) (X:=X) (key:=Bl ks) AB (fr:=wW st (eB tks)) (ρ:=ρ) s.outs 0 r Qo H2 PE (λj _ hj=>by
  rw [UN _ (JV j (by omega)) (ZN j (by omega)),if_pos (kA j (by omega))])
 have gh: ∀l,l∉dead->l∉pl->Ad H' l=(Ad st1.heap l).map (OB.map (Ap dead part)):= λl hl mo=>by
  show Ad (Oz _ _ _ _ _ _) l=_
  rw [n1 l λj _ hj e=>hl (e▸kA j (by omega)),UN l mo (λtid Ou e=>hl (e▸(TF tid Ou).1)),if_neg hl]
 have EC: ∀l,l∈dead->(∀j,j<s.Mg->l≠Bl ks j)->Ad H' l=none:= λl hl hj=>by
  show Ad (Oz _ _ _ _ _ _) l=_
  rw [n1 l λj _ h2=>hj j (by omega),UN l (λhp=>WY l hp hl) (λtid Ou e=>hj s.outs.length (by have:=(EZ tid Ou).2;omega) (e.trans (EZ tid Ou).1.symm)),if_pos hl]
 have newAt: ∀l b',Ad H' l=some b'->(l∈dead\/Ad st.heap l=none)-> ∃j,j<s.Mg/\l=Bl ks j:=by
  intro l b' hb hd
  refine Classical.byContradiction λhn=>?_
  have jx: ∀j,j<s.Mg->l≠Bl ks j:= λj hj e=>hn ⟨j,hj,e⟩
  rcases Classical.em (l∈dead) with OG|OG
  ·rw [EC l OG jx] at hb;cases hb
  ·rcases hd with hd|hd
   ·exact OG hd
   ·rw [gh l OG (λhp=>by obtain ⟨_,_,_,_,_,_,_,h1,_⟩:=xZ l hp;rw [hd] at h1;cases h1)] at hb
    have:Ad st1.heap l=none:=by
     by_cases hi: ∃t∈Gb 0 s.ins as,t.2.Oa=l
     ·obtain ⟨t,ht,e⟩:=hi
      by_cases Gp:t.1<Ag
      ·rw [<-e,q3 t ht Gp,e];exact hd
      ·obtain ⟨b0,_,h1,_⟩:=q4 t ht Gp
       rw [e,hd] at h1;cases h1
     ·rw [q2 l λt ht e=>hi ⟨t,ht,e.symm⟩];exact hd
    rw [this] at hb;cases hb
 have JN: ∀k,wW st (eB tks)=true-> ∀q,ρ (Eu k)=some q->q.Ar q.g->X.w0.heap.size<=q.g:=by
  intro k s5 q hq hg
  rcases (AE.Of _ q _ hq hg).2 with h1|⟨c,p,h1,h2,h3⟩
  ·exact Nat.le_trans h.1.below.size h1
  ·obtain ⟨t,t1,t2,t0,p',t3,t4,_⟩:=Ni c p _ h2 h3
   have hm:t.2.Oa∈eB tks:=Wj.2 ⟨t,DG▸t1,⟨by rw [t2];exact h1,t0⟩,rfl⟩
   have:=List.all_eq_true.1 s5 _ hm
   split at this
   ·rename_i fr tr e te xs hl
    unfold St.at at hl
    have hb:=(h.1.heap t.2.Oa).Kz hl
    simp only [Ao,Es,t3] at hb
    rw [hb.1.2.1 _ t4]
    exact hb.1.2.2 this
   ·cases this
 have JL: ∀k q,ρ (Eu k)=some q->k<s.outs.length->q.Ar q.g:=by
  intro k q hq hk
  exact Eg.GO s.outs 0 r Qo uS k (Nat.zero_le _) ((Nat.zero_add _).symm▸hk) q hq
 have hinv: ∀l,l∉dead->(∃t∈Gb 0 s.ins as,t.2.reads=false/\t.2.Oa=l)->eh X D1 w' π st.heap st1.heap l:=by
  rintro l hd ⟨t,ht,h0,rfl⟩
  by_cases Gp:t.1<Ag
  ·exact absurd (List.mem_append_left _ (List.mem_append_left _ (Wj.2 ⟨t,DG▸ht,⟨Gp,h0⟩,rfl⟩))) hd
  ·exact q4 t ht Gp
 have p9: ∀l,(¬ ∃t∈Gb 0 s.ins as,t.2.reads=false/\t.2.Oa=l)->Ad st1.heap l=Ad st.heap l:= λl hn=>by
  by_cases hi: ∃t∈Gb 0 s.ins as,t.2.Oa=l
  ·obtain ⟨t,ht,rfl⟩:=hi
   have hr:t.2.reads=true:=by
    cases h0:t.2.reads with
    |true=>rfl
    |false=>exact absurd ⟨t,ht,h0,rfl⟩ hn
   exact q3 t ht (KI t ht hr)
  ·exact q2 l λt ht e=>hi ⟨t,ht,e.symm⟩
 have GW: ∀l∈pl,∀p,s.ptr=some p->Ad H' l=some (.var p.1 (Zm s.ins (cells.map (Ap dead part)) (Th (Bl ks) 0 s.outs r))):= λl hl p hp=>by
  obtain ⟨p',q,h1,h2,_,_,_,h3,_⟩:=xZ l hl
  rw [hp] at h1;cases h1
  show Ad (Oz _ _ _ _ _ _) l=_
  rw [n1 l λj _ hj e=>JV j (by omega) (e▸hl),NV l (λtid Ou e=>(TF tid Ou).2 (e▸hl))]
  show Ad (je _ _ _ _).heap l=_
  rw [h2]
  refine yO ?_
  show Ad (Oi (st1.heap.map λp=>(p.1,p.2.map (Ap dead part))) dead) l=_
  rw [Hi,Ij,if_neg (WY l hl),p9 l (λ⟨t,ht,_,e⟩=>EU l hl t ht e),h3]
  rfl
 have HM: ∀j,j<s.Mg->s.outs.length<=j-> ∃tid,s.rp=some tid/\j=s.outs.length:= λj h1 h2=>by
  cases ua:s.rp with
  |none=>unfold MSpec.Mg at h1;rw [ua] at h1;simp at h1;omega
  |some tid=>exact ⟨tid,rfl,by have:=(EZ tid ua).2;omega⟩
 have UQ: ∀tid,s.rp=some tid->Ad H' (Ll d)=some (.var tid ((Th (Bl ks) 0 s.outs r).drop s.Rc)):= λtid Ou=>by
  show Ad (Oz _ _ _ _ _ _) _=_
  rw [n1 _ λj _ hj e=>ZN j (by omega) tid Ou e.symm,UO tid Ou]
 suffices OV:Ae X π' (dr st st1 d s pl tks r) a w'/\Ak X w' π' (dr st st1 d s pl tks r).heap YO v by
  obtain ⟨m1,m2⟩:=OV
  have nH: ∀(kj:List (Nat×Nat)) (l:Nat),l∈Tb st.heap ks tks kj->eW st.heap l=true/\ ∃k j t,(k,j)∈kj/\t∈tks/\t=(Bk false k,Loc.row l)/\ks[j]?=some l:=by
   intro kj
   induction kj with
   |nil=>intro l hl;cases hl
   |cons p kj ih=>
    intro l hl
    obtain ⟨k,j⟩:=p
    have up:l∈Tb st.heap ks tks kj->eW st.heap l=true/\ ∃k' j' t,(k',j')∈(k,j)::kj/\t∈tks/\t=(Bk false k',Loc.row l)/\ks[j']?=some l:= λhl=>by
     obtain ⟨h1,k',j',t,h2,h3⟩:=ih l hl
     exact ⟨h1,k',j',t,List.mem_cons_of_mem _ h2,h3⟩
    simp only [Tb] at hl
    split at hl
    ·rename_i x0 l1 l2 h1 h2
     split at hl
     ·rename_i hc
      simp only [Bool.and_eq_true] at hc
      rcases List.mem_cons.1 hl with rfl|hl
      ·have:=List.find?_some h1
       have e1:=Nat.eq_of_beq_eq_true this
       have e2:=Nat.eq_of_beq_eq_true hc.1
       dsimp only at e1
       exact ⟨hc.2,k,j,_,List.mem_cons_self,List.mem_of_find?_eq_some h1,by rw [e1],by rw [h2,e2]⟩
      ·exact up hl
     ·exact up hl
    ·exact up hl
  obtain ⟨r1,r2⟩:=vf h m1 (ls:=Tb st.heap ks tks s.keeps) (n:=s.Ch x) (λl hl=>by
   obtain ⟨_,k,j,t,h1,h2,h3,h4⟩:=nH s.keeps l hl
   have hj:j<ks.length:=(List.getElem?_eq_some_iff.1 h4).1
   have zr:Bl ks j=l:=by
    rw [Ke hj]
    rw [List.getElem?_eq_getElem hj] at h4
    exact Option.some.inj h4
   have mn:=nG (k,j) h1
   rw [show π' l=ρ (Eu j) by rw [<-zr];exact mj j (by omega),FB]
   have hc:πc (Bk false k)=(π l).map full:=NZ k l (by rw [<-h3,<-DG];exact h2)
   dsimp only at mn
   rw [hc] at mn
   cases hp:π l<;>cases hq:qU (Eu j)<;>(rw [hp,hq] at mn;exact mn)) (λl hl=>(nH s.keeps l hl).1) Me
  exact ⟨π',r1,r2 YO v m2⟩
 refine ⟨?_,?_⟩
 ·have hx:=Ae.IZ (π':=π') (H':=H') (dead:=dead) (part:=part) (inv:= λl=>(∃t∈Gb 0 s.ins as,t.2.reads=false/\t.2.Oa=l)\/l∈pl) (gv:= λb=>Na πc b\/s.gv g b) h (λb hb=>by
    rcases hb with hb|hb
    ·obtain ⟨t,h1,h0,q,h2,h3,_⟩:=Wb b hb
     exact ⟨_,q, .inl ⟨t,h1,h0,rfl⟩,h2,h3⟩
    ·obtain ⟨l,hl,q,h1,h2,_⟩:=xS b hb
     exact ⟨l,q, .inr hl,h1,h2⟩) EE (λl b0 hd h0=>⟨AO l hd,?_⟩) (λl b' hb hd=>?_) (λl hl=>?_) (λm q hd hp hm TI=>?_)
  ·have:({tmps:=(je s.ins (Th (Bl ks) 0 s.outs r) pl (st1.Tz dead part)).tmps,heap:=H'} :St)= {tmps:=st.tmps.map (·.map (Ap dead part)),heap:=H'} :=by
    rw [gQ]
    show ({tmps:=st1.tmps.map (·.map (Ap dead part)),heap:=H'} :St)=_
    rw [q1]
   show Ae X π' ({tmps:=(je s.ins (Th (Bl ks) 0 s.outs r) pl (st1.Tz dead part)).tmps,heap:=H'} :St) a w'
   rw [this]
   exact hx
  ·by_cases EL:l∈pl
   ·obtain ⟨p,q,h1,h2,h3,h4,h5,h6,h7⟩:=xZ l EL
    rw [h0] at h6;cases h6
    have lY:=GW l EL p h1
    refine .inr ⟨_,lY,⟨rfl,by rw [gJ]⟩,λm=>?_⟩
    unfold dk at nB
    rw [h1] at nB
    obtain ⟨cs,k1,k2,k3⟩:=nB
    rw [<-h7] at k3
    refine ⟨q,h3,h4,cs.toArray,by rw [<-h5];exact k1,?_⟩
    refine Hb.to (c7 (H:=st.heap) AO (λl1 b1 sz n VM zT EW=>?_) s.ins 0 cells fN x us o st st1 (Th (Bl ks) 0 s.outs r) Qo cs (has▸hT) OS (has▸KF) k3 (n3 π' NR (λj _ hj=>mj j (by omega)))) (by simpa using k2)
    have ZQ:l1∉pl:= λhp=>by
     obtain ⟨_,_,_,_,_,_,_,h8,_⟩:=xZ l1 hp
     rw [zT] at h8;cases h8;cases EW
    by_cases hi: ∃t∈Gb 0 s.ins as,t.2.reads=false/\t.2.Oa=l1
    ·obtain ⟨b1,b',e1,e2,e3,e4,e5,e6⟩:=hinv l1 VM hi
     rw [zT] at e1;cases e1
     exact ⟨b',by rw [gh l1 VM ZQ,e2];simp [e4],by rw [e5.row];exact EW⟩
    ·exact ⟨_,by rw [gh l1 VM ZQ,p9 l1 hi,zT];rfl,by rw [OB.q6];exact EW⟩
   by_cases hi: ∃t∈Gb 0 s.ins as,t.2.reads=false/\t.2.Oa=l
   ·obtain ⟨b1,b',e1,e2,e3,e4,e5,e6⟩:=hinv l hd hi
    rw [h0] at e1;cases e1
    exact .inr ⟨b',by rw [gh l hd EL,e2];simp [e4],by rw [e3];exact e5,λ_=>e6 π' H' NR⟩
   ·exact .inl ⟨λhh=>hh.elim hi EL,by rw [gh l hd EL,p9 l hi,h0];rfl⟩
  ·obtain ⟨j,hj,rfl⟩:=newAt l b' hb hd
   refine ⟨WH j hj,?_,λq b hq=>?_⟩
   ·rw [mj j hj]
    rcases Nat.lt_or_ge j s.outs.length with MS|MS
    ·rcases n2 j (Nat.zero_le _) (by omega) with ⟨e1,_⟩|⟨b2,e1,e2⟩
     ·rw [show Ad H' (Bl ks j)=none from e1] at hb;cases hb
     ·rw [show Ad H' (Bl ks j)=some b2 from e1] at hb;cases hb
      exact e2 X π' H' (λhf q hq=>JN j hf q hq (JL j q hq MS)) NR
    ·obtain ⟨tid,Ou,WB⟩:=HM j hj MS
     subst WB
     rw [(EZ tid Ou).1,UQ tid Ou] at hb;cases hb
     unfold jH at Xq
     rw [Ou] at Xq
     obtain ⟨q,y1,y2,y3,y4,_⟩:=Xq
     rw [FB,y1]
     exact ⟨full q,rfl,y2,_,y3,Hb.to (Hb.take s.Rc (n3 π' NR (λj _ hj=>mj j (by omega)))).2 (by simpa using y4)⟩
   ·rw [mj j hj] at hq
    have Nz:=HC _ q hq
    refine ⟨λhf=>by rw [Nz];exact hf,λhf=>?_⟩
    rw [Nz] at hf
    obtain ⟨h1,h2⟩:=AE.Of _ q b hq hf
    refine ⟨h1,h2.imp id ?_,λl2 r2 OH xW JJ=>?_⟩
    ·rintro ⟨c,p,h3,h4,h5⟩
     obtain ⟨t,t1,t2,t0,p',t3,t4,_⟩:=Ni c p b h4 h5
     exact ⟨t.2.Oa,p',List.mem_append_left _ (List.mem_append_left _ (Wj.2 ⟨t,DG▸t1,⟨by rw [t2];exact h3,t0⟩,rfl⟩)),t3,t4⟩
    ·by_cases hk: ∃j,j<s.Mg/\l2=Bl ks j
     ·obtain ⟨j2,SY,rfl⟩:=hk
      rw [mj j2 SY] at xW
      rw [HC _ r2 xW] at JJ
      have:=AE.inj _ _ r2 q b xW hq JJ hf
      unfold Eu at this
      have:j2=j:=by omega
      rw [this]
     ·have e0:π' l2=if l2∈dead then none else π l2:=p7 l2 hk
      rw [e0] at xW
      split at xW
      ·cases xW
      ·rename_i ER
       rcases OH with OH|OH
       ·exact absurd OH ER
       ·rw [(h.1.heap l2).emp OH] at xW;cases xW
  ·by_cases hk: ∃j,j<s.Mg/\l=Bl ks j
   ·obtain ⟨j,hj,rfl⟩:=hk
    rw [mj j hj]
    rcases Nat.lt_or_ge j s.outs.length with MS|MS
    ·rcases n2 j (Nat.zero_le _) (by omega) with ⟨_,e1⟩|⟨b2,e1,_⟩
     ·exact e1
     ·rw [show Ad H' (Bl ks j)=some b2 from e1] at hl;cases hl
    ·obtain ⟨tid,Ou,WB⟩:=HM j hj MS
     subst WB
     rw [(EZ tid Ou).1,UQ tid Ou] at hl;cases hl
   ·have e0:π' l=if l∈dead then none else π l:=p7 l hk
    rw [e0]
    split
    ·rfl
    ·rename_i hd
     by_cases EL:l∈pl
     ·obtain ⟨p,_,h1,_⟩:=xZ l EL
      rw [GW l EL p h1] at hl;cases hl
     rw [gh l hd EL] at hl
     by_cases hi: ∃t∈Gb 0 s.ins as,t.2.reads=false/\t.2.Oa=l
     ·obtain ⟨_,b',_,e2,_⟩:=hinv l hd hi
      rw [e2] at hl;cases hl
     ·rw [p9 l hi] at hl
      cases h0:Ad st.heap l with
      |none=>exact (h.1.heap l).emp h0
      |some b=>rw [h0] at hl;cases hl
  ·refine EE.block _ (h.1.lt hm).1 λuR=>?_
   rcases uR with ho|hg
   rotate_left
   ·obtain ⟨l,hl,q',h1,h2,_⟩:=xS _ hg
    have p8:=h.1.apart hm h1 (h.1.Ar hm) h2
    obtain ⟨_,_,_,_,_,_,_,h3,_⟩:=xZ l hl
    obtain ⟨b,TI,hxb⟩:=TI
    rw [p8,h3] at TI;cases TI
    exact hxb rfl
   obtain ⟨t,t1,t0,p,t3,t4,t5⟩:=Wb _ ho
   have p8:=h.1.apart hm t3 (h.1.Ar hm) t4
   have MY:p=q:=by rw [<-p8,hm] at t3;exact (Option.some.inj t3).symm
   cases HX:t.2 with
   |row l=>
    refine hp ?_
    show m∈whole tks
    unfold whole
    exact List.mem_flatMap.2 ⟨t,DG▸t1,by rw [HX,p8,HX];simp [Loc.Oa]⟩
   |sub l i j=>exact t5 l i j HX (by rw [MY])
   |view l=>rw [HX] at t0;cases t0
 ·have XE:=n3 π' NR (λj _ hj=>mj j (by omega))
  cases ua:s.rp with
  |some tid=>
   unfold jH at Xq
   rw [ua] at Xq
   obtain ⟨q,y1,y2,y3,y4,rfl⟩:=Xq
   unfold FN at aJ
   rw [ua] at aJ
   simp only [Option.some.injEq] at aJ;subst aJ
   refine ⟨full q,tid,_,UQ tid ua,?_,rfl⟩
   rw [<-(EZ tid ua).1,mj _ (by have:=(EZ tid ua).2;omega),FB,y1]
   rfl
  |none=>
  unfold jH at Xq
  rw [ua] at Xq
  obtain ⟨Xq,XK⟩:=Xq
  unfold FN at aJ
  rw [ua] at aJ
  simp only at aJ
  obtain ⟨g1,g2,g3,g4⟩:=Vy s.Fg _ (Qo.drop s.Rc) XK (Hb.take s.Rc XE).2
  unfold RH at aJ
  unfold BZ at Xq
  split at aJ
  ·rename_i hm
   rw [if_pos hm] at Xq
   simp only [Option.some.injEq] at aJ;subst aJ
   subst Xq
   exact ⟨_,rfl,g3.symm,g4⟩
  ·rename_i hm
   rw [if_neg hm] at Xq
   split at aJ
   ·rename_i av1 SU
    simp only [Option.some.injEq] at aJ;subst aJ
    rcases Xq with Xq|Xq
    ·exact g2 0 _ v (by rw [SU];rfl) (by rw [Xq];rfl)
    ·rw [SU,Xq] at g1;cases g1
   ·simp only [Option.some.injEq] at aJ;subst aJ;trivial
   ·cases aJ
end
end Go.Proofs.Ytjbdmibbbpdnnaa
