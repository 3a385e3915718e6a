/-
  Part 17 of the proof that the statement FnExactInSubgroup holds.
-/
import Derived.Test.YtjbdmibbbpdnnaaCInSubgroup15
namespace Go.Proofs.Ytjbdmibbbpdnnaa
open Go.RowKit
section
variable {P:Program} {T:Tab} {X:Ctx} {w w':World} {π π':Pi} {H H':List (Nat×OB)}
theorem Sm (k:Nat): ¬Bm true k<Ah:=by unfold Bm Ah;simp
theorem Yr {k:Nat} (h:k<100000):Bm false k<Ah:=by unfold Bm Ah;simp;omega
def eA (X:Ctx) (D:Nat->Prop) (w':World) (π:Pi) (H Hn:List (Nat×OB)) (l:Nat):Prop:=
 ∃b0 b',Ad H l=some b0/\Ad Hn l=some b'/\(∀f,OB.map f b0=b0)/\(∀f,OB.map f b'=b')/\b0.Ye b'/\ ∀π' H',(∀b,Nf π' b\/X.Sc b->D b)->Ao X w' π' H' (π l) b'
theorem EB {io:Bool} {k:Nat} {τ:Ty} {a:AC} {t:Nat×Loc} (h:t∈Jn io k (.Gh τ) a):t.1=Bm false k:=by
 cases a<;>simp [Jn,views] at h<;>first|(obtain ⟨_,⟨_,_⟩,rfl⟩:=h;rfl)|(rw [h])
theorem zw {io:Bool} {k:Nat} {e:Ty} {te:TypeId} {a:AC} {t:Nat×Loc} (h:t∈Jn io k (.part e te) a):t.1=Bm io k:=by cases a<;>simp [Jn] at h<;>rw [h]
theorem EC {io:Bool} {k:Nat} {e:Ty} {te:TypeId} {a:AC} {t:Nat×Loc} (h:t∈Jn io k (.row e te) a):t.1=Bm io k:=by cases a<;>simp [Jn] at h<;>rw [h]
theorem zx {io:Bool} {k:Nat} {e:Ty} {te:TypeId} {a:AC} {t:Nat×Loc} (h:t∈Jn io k (.Dh e te) a):t.1=Bm io k:=by cases a<;>simp [Jn] at h<;>rw [h]
theorem Xq {D:Nat->Prop} {π':Pi} {fr:Bool} {e:Ty} {es:List Value} {y:e.den} (hD: ∀b,Nf π' b\/X.Sc b->D b) (h:Cells w' D e es y):Cells w' (Ay X.w0.heap.size X.Sc π' (fr&&e.flat)) e es y:=by
 cases hf:e.flat with
 |true=>exact Cells.flat e es y hf h
 |false=>exact Cells.Cj (Nat.le_refl _) (λ_ _ _=>rfl) (λb _ hb=>by
   rcases hb with hb|hb|⟨hb,_⟩
   ·exact hD b (.inl hb)
   ·exact hD b (.inr hb)
   ·simp at hb) e es y h
theorem zy {D P:Nat->Prop} {g o:Nat} {cur:Array Value} {tr:Bool} {e:Ty} {xs:List e.den}
  (h: ∀(i:Nat) (x:e.den),xs[i]?=some x-> ∃es:List Value,es.length=e.size/\(∀j u,es[j]?=some u->cur[(o+i)*e.size+j]?=some u)/\Cells w' D e es x) (ht:(tr&&e.flat)=true):Ol w' P g o cur e xs:=by
 simp only [Bool.and_eq_true] at ht
 exact eV ht.2 h
theorem za {D:Nat->Prop} (h:Hb X w π H) {k:Nat} {c:CK} {ys:c.den} {a:AC} {u:Value} {r:Option Real} {x:c.den} {cur st1:St} (hs:w.heap.size<=w'.heap.size)
  (hU: ∀l i j q b,a= .sub l i j->π l=some q->q.Ar b->b<w.heap.size->(∀r',r=some r'-> ¬r'.Ar b)->w'.heap[b]?=w.heap[b]?)
  {V:List Nat} (ht:Xh w (Ik X π V) r u c x/\Lq w π H true a u r c x) (hr:Zj w' D r c ys) (he:Ue cur c ys a=some st1) (ag: ∀t∈Jn true k c a,Ad cur.heap t.2.Og=Ad H t.2.Og):
  st1.tmps=cur.tmps/\(∀m,(∀t∈Jn true k c a,m≠t.2.Og)->Ad st1.heap m=Ad cur.heap m)/\ ∀t∈Jn true k c a,eA X D w' π H st1.heap t.2.Og:=by
 obtain ⟨hc,ht⟩:=ht
 cases c with
 |Gh τ=>cases a<;>simp [Ue] at he;subst he;exact ⟨rfl,λ_ _=>rfl,λt ht=>by simp [Jn] at ht⟩
 |row e te=>
  simp only [Lq] at ht
  cases a<;>simp only [] at ht<;>first|(exact ht.elim)|skip
  ·simp only [Ue,Option.some.injEq] at he;subst he
   exact ⟨rfl,λ_ _=>rfl,λt ht=>by simp [Jn] at ht⟩
  ·rename_i l off len
   obtain ⟨rfl,rfl,rfl,fr,tr,hl⟩:=ht
   have Of:Ad cur.heap l=some (.arr fr tr e te x):=(ag _ (List.mem_singleton.2 rfl)).trans hl
   simp only [Ue,St.at,Of] at he
   split at he
   ·rename_i Et
    obtain ⟨_,h1,_⟩:=Et
    simp only [Option.some.injEq] at he;subst he
    refine ⟨rfl,λm hm=>Cc _ _ _ _ (hm _ (List.mem_singleton.2 rfl)),λt Ng=>?_⟩
    have Ng:=List.mem_singleton.1 Ng
    subst Ng
    refine ⟨_,_,hl,Ch _ _ _ _ Of,λ_=>rfl,λ_=>rfl,⟨rfl,h1.symm⟩,λπ' H' hD=>?_⟩
    have hb:=(h.heap l).La hl
    change Ao X w' π' H' (π l) _
    simp only [Ao,Ew] at hb⊢
    cases hp:π l with
    |none=>rw [hp] at hr;exact hr
    |some q=>
     rw [hp] at hr hb
     obtain ⟨k1,cu,ti,k2,k3,k4,k5,k6⟩:=hr
     exact ⟨⟨k1.1,k1.2,λhh=>hb.1.2.2 (by simp only [Bool.and_eq_true] at hh;exact hh.1)⟩,cu,ti,k2,k3,k4,k5,λi y hy=>by
      obtain ⟨es,g1,g2,g3⟩:=k6 i y hy
      exact ⟨es,g1,g2,Xq hD g3⟩,λht=>zy k6 ht⟩
   ·cases he
  ·rename_i l i j
   obtain ⟨⟨_,hf⟩,tid,xs,hl,hx,q,hq,Nm,YU⟩:=ht
   have Of:Ad cur.heap l=some (.Cu (.slice e) tid xs):=(ag _ (List.mem_singleton.2 rfl)).trans hl
   simp only [Ue,St.at,Of,hx] at he
   rw [dif_pos trivial] at he
   ·split at he
    ·rename_i h1
     simp only [Option.some.injEq] at he;subst he
     refine ⟨rfl,λm hm=>Cc _ _ _ _ (hm _ (List.mem_singleton.2 rfl)),λt Ng=>?_⟩
     have Ng:=List.mem_singleton.1 Ng
     subst Ng
     refine ⟨_,_,hl,Ch _ _ _ _ Of,λ_=>rfl,λ_=>rfl,⟨rfl,by simp⟩,λπ' H' _=>?_⟩
     show Hs w' (π l) (.slice e) tid _
     rw [hq]
     refine YU w' ys hs (λb Gu hb hn=>hU l i j q b rfl hq hb Gu hn) ?_
     have hv:=hc.1
     rw [<-show List.length ys=List.length x from h1] at hv
     exact Ld.wQ hr hf hv
    ·cases he
 |Dh e te=>
  simp only [Lq] at ht
  cases a<;>simp only [] at ht<;>first|(exact ht.elim)|skip
  ·simp only [Ue,Option.some.injEq] at he;subst he
   exact ⟨rfl,λ_ _=>rfl,λt ht=>by simp [Jn] at ht⟩
  ·rename_i l off len
   obtain ⟨rfl,rfl,rfl,hl⟩:=ht
   have Of:Ad cur.heap l=some (.Cu e te x):=(ag _ (List.mem_singleton.2 rfl)).trans hl
   simp only [Ue,St.at,Of] at he
   split at he
   ·rename_i Et
    obtain ⟨_,h1,_⟩:=Et
    simp only [Option.some.injEq] at he;subst he
    refine ⟨rfl,λm hm=>Cc _ _ _ _ (hm _ (List.mem_singleton.2 rfl)),λt Ng=>?_⟩
    have Ng:=List.mem_singleton.1 Ng
    subst Ng
    refine ⟨_,_,hl,Ch _ _ _ _ Of,λ_=>rfl,λ_=>rfl,⟨rfl,h1.symm⟩,λπ' H' _=>?_⟩
    show Hs w' (π l) e te _
    cases hp:π l with
    |none=>rw [hp] at hr;exact hr
    |some q=>rw [hp] at hr;exact hr
   ·cases he
  ·rename_i l i j
   obtain ⟨_,tid,xs,hl,hx,q,hq,Nm,YU⟩:=ht
   have Of:Ad cur.heap l=some (.Cu (.slice e) tid xs):=(ag _ (List.mem_singleton.2 rfl)).trans hl
   simp only [Ue,St.at,Of,hx] at he
   rw [dif_pos trivial] at he
   ·split at he
    ·rename_i h1
     simp only [Option.some.injEq] at he;subst he
     refine ⟨rfl,λm hm=>Cc _ _ _ _ (hm _ (List.mem_singleton.2 rfl)),λt Ng=>?_⟩
     have Ng:=List.mem_singleton.1 Ng
     subst Ng
     refine ⟨_,_,hl,Ch _ _ _ _ Of,λ_=>rfl,λ_=>rfl,⟨rfl,by simp⟩,λπ' H' _=>?_⟩
     show Hs w' (π l) (.slice e) tid _
     rw [hq]
     refine YU w' ys hs (λb Gu hb hn=>hU l i j q b rfl hq hb Gu hn) ?_
     have hv:=hc.1
     rw [<-show List.length ys=List.length x from h1] at hv
     exact Hs.wQ (te:=te) hr hv
    ·cases he
 |part e te=>cases a<;>simp [Ue] at he<;>first|(simp only [Lq] at ht;exact ht.2.elim)
 |Ai e te kp=>exact absurd ht.1 (by simp)
theorem zb {D:Nat->Prop} (h:Hb X w π H) {k:Nat} {e:Ty} {te:TypeId} {ys:List e.den} {a:AC} {u:Value} {r:Option Real} {x:(CK.part e te).den} {cur st1:St}
  {V:List Nat} (ht:Xh w (Ik X π V) r u (.part e te) x/\Lq w π H true a u r (.part e te) x) (hr:Zj w' D r (.row e te) ys) (he:wi cur e ys a=some st1) (ag: ∀t∈Jn true k (.part e te) a,Ad cur.heap t.2.Og=Ad H t.2.Og):
  st1.tmps=cur.tmps/\(∀m,(∀t∈Jn true k (.part e te) a,m≠t.2.Og)->Ad st1.heap m=Ad cur.heap m)/\ ∀t∈Jn true k (.part e te) a,eA X D w' π H st1.heap t.2.Og:=by
 obtain ⟨hc,hf,ht⟩:=ht
 cases a<;>simp only [] at ht<;>first|(exact ht.elim)|skip
 rename_i l off len
 obtain ⟨rfl,_,fr,tr,hl⟩:=ht
 have Of:Ad cur.heap l=some (.arr fr tr e te x.1):=(ag _ (List.mem_singleton.2 rfl)).trans hl
 simp only [wi,St.at,Of] at he
 split at he
 ·rename_i Et
  obtain ⟨_,h1⟩:=Et
  simp only [Option.some.injEq] at he;subst he
  refine ⟨rfl,λm hm=>Cc _ _ _ _ (hm _ (List.mem_singleton.2 rfl)),λt Ng=>?_⟩
  have Ng:=List.mem_singleton.1 Ng
  subst Ng
  refine ⟨_,_,hl,Ch _ _ _ _ Of,λ_=>rfl,λ_=>rfl,⟨rfl,h1.symm⟩,λπ' H' _=>?_⟩
  have hb:=(h.heap l).La hl
  change Ao X w' π' H' (π l) _
  simp only [Ao,Ew] at hb⊢
  cases hp:π l with
  |none=>rw [hp] at hr;exact hr
  |some q=>
   rw [hp] at hr hb
   obtain ⟨k1,cu,ti,k2,k3,k4,k5,k6⟩:=hr
   exact ⟨⟨k1.1,k1.2,hb.1.2.2⟩,cu,ti,k2,k3,k4,k5,λi y hy=>by
    obtain ⟨es,g1,g2,g3⟩:=k6 i y hy
    exact ⟨es,g1,g2,Cells.flat e es y hf g3⟩,λ_=>eV hf k6⟩
 ·cases he
def jE (X:Ctx) (D:Nat->Prop) (w':World) (π:Pi) (H:List (Nat×OB)) (tk:List (Nat×Loc)) (cur st1:St):Prop:=
 st1.tmps=cur.tmps/\(∀m,(∀t∈tk,m≠t.2.Og)->Ad st1.heap m=Ad cur.heap m)/\(∀t∈tk,t.1<Ah->Ad st1.heap t.2.Og=Ad cur.heap t.2.Og)/\(∀t∈tk,¬t.1<Ah->eA X D w' π H st1.heap t.2.Og)
theorem lu {D:Nat->Prop} (h:Hb X w π H) {V:List Nat} {πc:Pi} {tks:List (Nat×Loc)} (hs:w.heap.size<=w'.heap.size)
  (hU: ∀t∈tks,∀q b,π t.2.Og=some q->q.Ar b->b<w.heap.size->(∀r',πc t.1=some r'-> ¬r'.Ar b)->w'.heap[b]?=w.heap[b]?):
  ∀(cs:List (Bool×CK)) (k:Nat) (x:Ins.den cs) (as:List AC) (us:List Value) (o:IOs.den cs) (cur st1:St),k+cs.length<100000->(∀t∈Gf k cs as,t∈tks)->((Gf k cs as).map λt=>t.2.Og).Nodup->
   ji X w π V H πc k cs x as us->Gk w' D πc k cs o->Dr cs o as cur=some st1->(∀t∈Gf k cs as,Ad cur.heap t.2.Og=Ad H t.2.Og)->
   jE X D w' π H (Gf k cs as) cur st1
 | [],k,x,as,us,o,cur,st1,_,_,_,_,_,he,_=>by
  simp only [Dr,Option.some.injEq] at he;subst he
  have e0:Gf k [] as= []:=by cases as<;>rfl
  exact ⟨rfl,λ_ _=>rfl,by rw [e0];simp,by rw [e0];simp⟩
 |p::r,k,x,[],us,o,cur,st1,_,_,_,ht,_,_,_=>ht.elim
 |p::r,k,x,a::as,[],o,cur,st1,_,_,_,ht,_,_,_=>ht.elim
 |(io,c)::r,k,x,a::as,u::us,o,cur,st1,hk,Mj,zS,ht,ho,he,ag=>by
  simp only [List.length_cons] at hk
  simp only [Gf] at Mj zS ag⊢
  rw [List.map_append] at zS
  obtain ⟨n1,n2,n3⟩:=List.nodup_append.1 zS
  have apart: ∀t∈Jn io k c a,∀t'∈Gf (k+1) r as,t'.2.Og≠t.2.Og:= λt h1 t' h2 e=>n3 _ (List.mem_map.2 ⟨t,h1,rfl⟩) _ (List.mem_map.2 ⟨t',h2,rfl⟩) e.symm
  have rest: ∀(Rv:St) (o':IOs.den r),Gk w' D πc (k+1) r o'->Dr r o' as Rv=some st1->Rv.tmps=cur.tmps->(∀m,(∀t∈Jn io k c a,m≠t.2.Og)->Ad Rv.heap m=Ad cur.heap m)->
    (∀t∈Jn io k c a,t.1<Ah->Ad Rv.heap t.2.Og=Ad cur.heap t.2.Og)->(∀t∈Jn io k c a,¬t.1<Ah->eA X D w' π H Rv.heap t.2.Og)->
    jE X D w' π H (Jn io k c a++Gf (k+1) r as) cur st1:=by
   intro Rv o' h1 h2 h3 h4 h5 h6
   obtain ⟨g1,g2,g3,g4⟩:=lu h hs hU r (k+1) x.2 as us o' Rv st1 (by omega) (λt ht=>Mj t (List.mem_append_right _ ht)) n2 ht.2 h1 h2 (λt Ng=>by
    rw [h4 _ λt0 RR=>apart t0 RR t Ng];exact ag t (List.mem_append_right _ Ng))
   have hd: ∀t∈Jn io k c a,Ad st1.heap t.2.Og=Ad Rv.heap t.2.Og:= λt Ng=>g2 _ λt' yA=>(apart t Ng t' yA).symm
   refine ⟨g1.trans h3,λm hm=>?_,λt Ng Gu=>?_,λt Ng Gu=>?_⟩
   ·rw [g2 m λt ht=>hm t (List.mem_append_right _ ht),h4 m λt ht=>hm t (List.mem_append_left _ ht)]
   ·rcases List.mem_append.1 Ng with Ng|Ng
    ·rw [hd t Ng,h5 t Ng Gu]
    ·rw [g3 t Ng Gu,h4 _ λt0 RR=>apart t0 RR t Ng]
   ·rcases List.mem_append.1 Ng with Ng|Ng
    ·obtain ⟨b0,b',q1,q2,q3⟩:=h6 t Ng Gu
     exact ⟨b0,b',q1,(hd t Ng).trans q2,q3⟩
    ·exact g4 t Ng Gu
  have same: ∀o',Gk w' D πc (k+1) r o'->Dr r o' as cur=some st1->(∀t∈Jn io k c a,t.1<Ah)->jE X D w' π H (Jn io k c a++Gf (k+1) r as) cur st1:= λo' h1 h2 h3=>rest cur o' h1 h2 rfl (λ_ _=>rfl) (λ_ _ _=>rfl) (λt h4 h5=>absurd (h3 t h4) h5)
  cases io with
  |false=>
   have h3: ∀t∈Jn false k c a,t.1<Ah:= λt h4=>by rcases u9 h4 with ⟨h5,_⟩|⟨h5,_⟩<;>(rw [h5];exact Yr (by omega))
   cases c with
   |Gh τ=>exact same o ho (by simpa only [Dr] using he) h3
   |row e te=>exact same o ho (by simpa only [Dr] using he) h3
   |Dh e te=>exact same o ho (by simpa only [Dr] using he) h3
   |part e te=>exact same o ho (by simpa only [Dr] using he) h3
   |Ai e te kp=>exact same o ho (by simpa only [Dr] using he) h3
  |true=>
   have row: ∀(ys:c.den) (o':IOs.den r),(∀t∈Jn true k c a,t.1=Bm true k)->Zj w' D (πc (Bm true k)) c ys->Gk w' D πc (k+1) r o'->(∃Rv,Ue cur c ys a=some Rv/\Dr r o' as Rv=some st1)->jE X D w' π H (Jn true k c a++Gf (k+1) r as) cur st1:=by
    intro ys o' h0 h1 h2 h3
    obtain ⟨Rv,hp,h3⟩:=h3
    ·obtain ⟨q1,q2,q3⟩:=za (k:=k) h hs (λl i j q b ea hq hb Gu hn=>by
      cases c with
      |Gh τ=>exact absurd (ht.1.2:πc _=none) (by subst ea;simp [Ue] at hp)
      |row e te=>subst ea;exact hU (Bm true k, .sub l i j) (Mj _ (List.mem_append_left _ (List.mem_singleton.2 rfl))) q b hq hb Gu hn
      |Dh e te=>subst ea;exact hU (Bm true k, .sub l i j) (Mj _ (List.mem_append_left _ (List.mem_singleton.2 rfl))) q b hq hb Gu hn
      |Ai e te kp=>exact absurd ht.1.2.1 (by simp)
      |part e te=>exact absurd ht.1.2.2 (by subst ea;exact λh=>h)) ht.1 h1 hp (λt Ng=>ag t (List.mem_append_left _ Ng))
     exact rest Rv o' h2 h3 q1 q2 (λt h4 h5=>absurd h5 (by rw [h0 t h4];exact Sm k)) (λt h4 _=>q3 t h4)
   cases c with
   |Gh τ=>exact same o ho (by simpa only [Dr] using he) (λt h4=>by rw [EB h4];exact Yr (by omega))
   |Ai e te kp=>exact absurd ht.1.2.1 (by simp)
   |row e te=>
    simp only [Dr] at he
    split at he
    ·rename_i Rv hp;exact row o.1 o.2 (λt ht=>EC ht) ho.1 ho.2 ⟨Rv,hp,he⟩
    ·cases he
   |Dh e te=>
    simp only [Dr] at he
    split at he
    ·rename_i Rv hp;exact row o.1 o.2 (λt ht=>zx ht) ho.1 ho.2 ⟨Rv,hp,he⟩
    ·cases he
   |part e te=>
    simp only [Dr] at he
    split at he
    ·rename_i Rv hp
     obtain ⟨q1,q2,q3⟩:=zb (k:=k) h ht.1 ho.1 hp (λt Ng=>ag t (List.mem_append_left _ Ng))
     exact rest Rv o.2 ho.2 he q1 q2 (λt h4 h5=>absurd h5 (by rw [zw h4];exact Sm k)) (λt h4 _=>q3 t h4)
    ·cases he
theorem vS {fr:Bool} {c:CK} {x:c.den} {u:Value} {r:Option Real} {D:Nat->Prop} (h:Xh w' D r u c x):
  (mQ fr c x=none/\r=none)\/ ∃b',mQ fr c x=some b'/\ ∀(X:Ctx) π' H',(fr=true-> ∀q,r=some q->X.w0.heap.size<=q.g)->(∀b,Nf π' b\/X.Sc b->D b)->Ao X w' π' H' r b':=by
 cases c with
 |Gh τ=>exact .inl ⟨rfl,h.1⟩
 |row e te=>
  refine .inr ⟨_,rfl,λX π' H' ss hD=>?_⟩
  obtain ⟨_,h⟩:=h
  simp only [Zj] at h
  simp only [Ao,Ew]
  cases r with
  |none=>exact h
  |some q=>
   obtain ⟨k1,cu,ti,k2,k3,k4,k5,k6⟩:=h
   exact ⟨⟨k1.1,k1.2,λh1=>ss (by simp only [Bool.and_eq_true] at h1;exact h1.1) q rfl⟩,cu,ti,k2,k3,k4,k5,λi y hy=>by
    obtain ⟨es,g1,g2,g3⟩:=k6 i y hy
    exact ⟨es,g1,g2,Xq hD g3⟩,λh=>by cases h⟩
 |Dh e te=>exact .inr ⟨_,rfl,λX π' H' _ _=>h.2⟩
 |Ai e te kp=>exact .inr ⟨_,rfl,λX π' H' _ hD=>⟨Rh.Ek h.2 λb hb=>hD b (hb.imp id λh=>h.elim id λh=>by cases h.1),trivial⟩⟩
 |part e te=>
  refine .inr ⟨_,rfl,λX π' H' ss hD=>?_⟩
  obtain ⟨_,hf,h⟩:=h
  simp only [Ao,Ew]
  cases r with
  |none=>exact h
  |some q=>
   obtain ⟨k1,cu,ti,k2,k3,k4,k5,k6⟩:=h
   exact ⟨⟨k1.1,k1.2,λh1=>ss (by simp only [Bool.and_eq_true] at h1;exact h1.1) q rfl⟩,cu,ti,k2,k3,k4,k5,λi y hy=>by
    obtain ⟨es,g1,g2,g3⟩:=k6 i y hy
    exact ⟨es,g1,g2,Xq hD g3⟩,λh=>by cases h⟩
theorem iX {D:Nat->Prop} {key:Nat->Nat} (vn: ∀i j,key i=key j->i=j) {fr:Bool} {ρ:Pi} : ∀(cs:List CK) (k:Nat) (x:CKs.den cs) (us:List Value) (H:List (Nat×OB)),El w' D ρ k cs x us->
  (∀j,k<=j->j<k+cs.length->Ad H (key j)=none)->
  (∀l,(∀j,k<=j->j<k+cs.length->l≠key j)->Ad (Ph fr key k cs x H) l=Ad H l)/\
  (∀j,k<=j->j<k+cs.length->(Ad (Ph fr key k cs x H) (key j)=none/\ρ (Ey j)=none)\/
   ∃b',Ad (Ph fr key k cs x H) (key j)=some b'/\ ∀(X:Ctx) π' H',(fr=true-> ∀q,ρ (Ey j)=some q->X.w0.heap.size<=q.g)->(∀b,Nf π' b\/X.Sc b->D b)->Ao X w' π' H' (ρ (Ey j)) b')/\
  (∀π',(∀b,Nf π' b\/X.Sc b->D b)->(∀j,k<=j->j<k+cs.length->π' (key j)=ρ (Ey j))->He X w' π' (Ph fr key k cs x H) (Ts key k cs x) us)
 | [],k,x,[],H,_,_=>⟨λ_ _=>rfl,λj h1 h2=>by simp at h2;omega,λ_ _ _=>trivial⟩
 | [],_,_,_::_,_,h,_=>h.elim
 |_::_,_,_,[],_,h,_=>h.elim
 |c::r,k,x,u::us,H,h,hn=>by
  simp only [List.length_cons] at hn⊢
  simp only [Ph,Ts]
  have mF:=hn k (Nat.le_refl _) (by omega)
  have OC: ∀l,l≠key k->Ad (sD H (key k) (mQ fr c x.1)) l=Ad H l:=by
   intro l hl
   cases mQ fr c x.1 with
   |some b=>exact Iu _ _ _ _ hl
   |none=>rfl
  have PN:Ad (sD H (key k) (mQ fr c x.1)) (key k)=mQ fr c x.1:=by
   cases mQ fr c x.1 with
   |some b=>exact Jp _ _ _ mF
   |none=>exact mF
  generalize (sD H (key k) (mQ fr c x.1))=H1 at OC PN⊢
  obtain ⟨g1,g2,g3⟩:=iX vn (fr:=fr) r (k+1) x.2 us H1 h.2 (λj h1 h2=>by
   rw [OC _ λe=>by have:=vn _ _ e;omega];exact hn j (by omega) (by omega))
  have EU:Ad (Ph fr key (k+1) r x.2 H1) (key k)=mQ fr c x.1:=by
   rw [g1 _ λj h1 h2 e=>by have:=vn _ _ e;omega];exact PN
  refine ⟨λl hl=>?_,λj h1 h2=>?_,λπ' hd JN=>⟨?_,?_⟩⟩
  ·rw [g1 l λj h1 h2=>hl j (by omega) (by omega)]
   exact OC l (hl k (Nat.le_refl _) (by omega))
  ·rcases Nat.eq_or_lt_of_le h1 with e|h1
   ·subst e
    rw [EU]
    exact vS h.1
   ·exact g2 j h1 (by omega)
  ·have h1:=h.1
   have OO:=JN k (Nat.le_refl _) (by omega)
   cases c with
   |Gh τ=>
    obtain ⟨aH,c1,c2⟩:=h1.2
    exact ⟨aH,by have:=Xq (fr:=true) hd c1;simpa using this,c2⟩
   |row e te=>exact ⟨_,e.size,List.length x.1,EU,rfl,by simp,by rw [OO];exact h1.1⟩
   |Dh e te=>exact ⟨_,e.size,List.length x.1,EU,rfl,by simp,by rw [OO];exact h1.1⟩
   |Ai e te kp=>exact ⟨_,1,List.length x.1,EU,rfl,by simp,by rw [OO];exact h1.1⟩
   |part e te=>trivial
  ·exact g3 π' hd λj h1 h2=>JN j (by omega) (by omega)
theorem vK {ks:List Nat} {n:Nat} (h:pP ks n=true):ks.length=n/\ks.Nodup/\ ∀l∈ks,l<Ah:=by
 unfold pP at h
 simp only [Bool.and_eq_true] at h
 refine ⟨Nat.eq_of_beq_eq_true h.1,Pg h.2.1,λl hl=>?_⟩
 have:=List.all_eq_true.1 h.2.2 l hl
 simpa using this
theorem Kf {ks:List Nat} {j:Nat} (h:j<ks.length):Bn ks j=ks[j]:=by
 unfold Bn
 rw [List.getElem?_eq_getElem h]
theorem rS {ks:List Nat} (hn:ks.Nodup) (hl: ∀l∈ks,l<Ah): ∀i j,Bn ks i=Bn ks j->i=j:=by
 intro i j h
 by_cases hi:i<ks.length
 ·by_cases hj:j<ks.length
  ·rw [Kf hi,Kf hj] at h
   rcases Nat.lt_trichotomy i j with Gu|he|Gu
   ·exact absurd h (List.pairwise_iff_getElem.1 hn i j hi hj Gu)
   ·exact he
   ·exact absurd h.symm (List.pairwise_iff_getElem.1 hn j i hj hi Gu)
  ·have h1:=hl _ (List.getElem_mem hi)
   rw [Kf hi] at h
   unfold Bn at h
   rw [List.getElem?_eq_none (by omega)] at h
   simp only at h
   omega
 ·by_cases hj:j<ks.length
  ·have h1:=hl _ (List.getElem_mem hj)
   rw [Kf hj] at h
   unfold Bn at h
   rw [List.getElem?_eq_none (by omega)] at h
   simp only at h
   omega
  ·unfold Bn at h
   rw [List.getElem?_eq_none (by omega),List.getElem?_eq_none (by omega)] at h
   simp only at h
   omega
theorem Hm: ∀(H:List (Nat×OB)) (dead:List Nat) (l:Nat),Ad (Oq H dead) l=if l∈dead then none else Ad H l
 | [],dead,l=>by simp [Oq,Ad]
 |(k,b)::r,dead,l=>by
  simp only [Oq]
  have ih:=Hm r dead l
  by_cases hk:k∈dead
  ·rw [if_pos (by simpa using hk),ih]
   split
   ·rfl
   ·rename_i hl
    simp only [Ad]
    rw [if_neg (λ(e:k=l)=>hl (e▸hk))]
  ·rw [if_neg (by simpa using hk)]
   simp only [Ad]
   split
   ·rename_i e;subst e;rw [if_neg hk]
   ·exact ih
theorem mem_keys {ks:List Nat} {l:Nat} :l∈ks↔ ∃k,k<ks.length/\l=Bn ks k:=
 ⟨λh=>by obtain ⟨k,hk,e⟩:=List.getElem_of_mem h;exact ⟨k,hk,by rw [Kf hk,e]⟩,λ⟨k,hk,e⟩=>by rw [e,Kf hk];exact List.getElem_mem hk⟩
theorem Ws {tks:List (Nat×Loc)} {l:Nat} :l∈eM tks↔ ∃t∈tks,(t.1<Ah/\t.2.reads=false)/\t.2.Og=l:=by
 unfold eM
 simp only [List.mem_map,List.mem_filter,Bool.and_eq_true,Nat.blt_eq,Bool.not_eq_true']
 exact ⟨λ⟨t,⟨h1,h2⟩,h3⟩=>⟨t,h1,h2,h3⟩,λ⟨t,h1,h2,h3⟩=>⟨t,⟨h1,h2⟩,h3⟩⟩
theorem pQ {tks:List (Nat×Loc)} (h:(tks.map λt=>t.2.Og).Nodup) {t t':Nat×Loc} (ht:t∈tks) (yA:t'∈tks) (he:t.2.Og=t'.2.Og):t=t':=by
 induction tks with
 |nil=>cases ht
 |cons a r ih=>
  simp only [List.map_cons] at h
  obtain ⟨h1,h2⟩:=List.nodup_cons.1 h
  rcases List.mem_cons.1 ht with rfl|ht<;>rcases List.mem_cons.1 yA with rfl|yA
  ·rfl
  ·exact (h1 (List.mem_map.2 ⟨t',yA,he.symm⟩)).elim
  ·exact (h1 (he▸List.mem_map.2 ⟨t,‹t∈r›,rfl⟩)).elim
  ·exact ih h2 ht yA
theorem El.full {D:Nat->Prop} {ρ:Pi} : ∀(cs:List CK) (k:Nat) (x:CKs.den cs) (us:List Value),El w D ρ k cs x us->El w D (λl=>(ρ l).map full) k cs x us
 | [],_,_,[],h=>h
 | [],_,_,_::_,h=>h.elim
 |_::_,_,_,[],h=>h.elim
 |c::r,k,x,u::us,h=>⟨by
   have h1:=h.1
   show Xh w D ((ρ (Ey k)).map _) u c x.1
   cases c with
   |Gh τ=>rw [h1.1];exact ⟨rfl,h1.2⟩
   |row e te=>cases hp:ρ (Ey k)<;>(rw [hp] at h1;exact h1)
   |Dh e te=>cases hp:ρ (Ey k)<;>(rw [hp] at h1;exact h1)
   |Ai e te kp=>cases hp:ρ (Ey k)<;>(rw [hp] at h1;exact h1)
   |part e te=>cases hp:ρ (Ey k)<;>(rw [hp] at h1;exact h1),El.full r (k+1) x.2 us h.2⟩
theorem El.ID {D:Nat->Prop} {ρ:Pi} : ∀(cs:List CK) (k0:Nat) (x:CKs.den cs) (us:List Value),El w D ρ k0 cs x us-> ∀j,k0<=j->j<k0+cs.length-> ∀q,ρ (Ey j)=some q->q.Ar q.g
 | [],k0,_,_,_,j,h1,h2,_,_=>by simp at h2;omega
 |_::_,_,_,[],h,_,_,_,_,_=>h.elim
 |c::r,k0,x,u::us,ho,j,h1,h2,q,hq=>by
  rcases Nat.eq_or_lt_of_le h1 with e|h1
  ·subst e
   have:=ho.1
   cases c with
   |Gh τ=>rw [hq] at this;cases this.1
   |row e te=>rw [hq] at this;exact this.2.1.1
   |Dh e te=>rw [hq] at this;exact this.2.1
   |part e te=>rw [hq] at this;exact this.2.2.1.1
   |Ai e te kp=>rw [hq] at this;exact this.2.1
  ·exact El.ID r (k0+1) x.2 us ho.2 j h1 (by simp at h2;omega) q hq
theorem Ld.any {D D':Nat->Prop} {r:Option Real} {e:Ty} {xs:List e.den} (hf:e.flat=true) (h:Ld w D r e xs):Ld w D' r e xs:=by
 cases r with
 |none=>exact h
 |some r=>
  obtain ⟨k1,cu,ti,k2,k3,k4,k5,k6⟩:=h
  exact ⟨k1,cu,ti,k2,k3,k4,k5,λi y hy=>by
   obtain ⟨es,g1,g2,g3⟩:=k6 i y hy
   exact ⟨es,g1,g2,Cells.flat e es y hf g3⟩⟩
theorem El.any {D D':Nat->Prop} {ρ:Pi} : ∀(cs:List CK) (k:Nat) (x:CKs.den cs) (us:List Value),cs.all (·.flat)=true->El w D ρ k cs x us->El w D' ρ k cs x us
 | [],_,_,[],_,h=>h
 | [],_,_,_::_,_,h=>h.elim
 |_::_,_,_,[],_,h=>h.elim
 |c::r,k,x,u::us,hf,h=>by
  simp only [List.all_cons,Bool.and_eq_true] at hf
  refine ⟨?_,El.any r (k+1) x.2 us hf.2 h.2⟩
  have h1:=h.1
  cases c with
  |Gh τ=>exact ⟨h1.1,Aw.flat hf.1 h1.2⟩
  |row e te=>exact ⟨h1.1,Ld.any hf.1 h1.2⟩
  |Dh e te=>exact h1
  |part e te=>exact ⟨h1.1,h1.2.1,Ld.any hf.1 h1.2.2⟩
  |Ai e te kp=>exact absurd hf.1 (by simp [CK.flat])
theorem Gk.any {D D':Nat->Prop} {π:Pi} : ∀(cs:List (Bool×CK)) (k:Nat) (x:IOs.den cs),(cs.all λp=>!p.1||p.2.flat)=true->Gk w D π k cs x->Gk w D' π k cs x
 | [],_,_,_,h=>h
 |(false,_)::r,k,x,hf,h=>Gk.any r (k+1) x (by simp only [List.all_cons,Bool.and_eq_true] at hf;exact hf.2) h
 |(true, .Gh _)::r,k,x,hf,h=>Gk.any r (k+1) x (by simp only [List.all_cons,Bool.and_eq_true] at hf;exact hf.2) h
 |(true, .Ai _ _ _)::r,k,x,hf,h=>Gk.any r (k+1) x (by simp only [List.all_cons,Bool.and_eq_true] at hf;exact hf.2) h
 |(true, .row e te)::r,k,x,hf,h=>by
  simp only [List.all_cons,Bool.and_eq_true,Bool.not_true,Bool.false_or] at hf
  exact ⟨Ld.any hf.1 h.1,Gk.any r (k+1) x.2 hf.2 h.2⟩
 |(true, .Dh e te)::r,k,x,hf,h=>by
  simp only [List.all_cons,Bool.and_eq_true,Bool.not_true,Bool.false_or] at hf
  exact ⟨h.1,Gk.any r (k+1) x.2 hf.2 h.2⟩
 |(true, .part e te)::r,k,x,hf,h=>by
  simp only [List.all_cons,Bool.and_eq_true,Bool.not_true,Bool.false_or] at hf
  exact ⟨Ld.any hf.1 h.1,Gk.any r (k+1) x.2 hf.2 h.2⟩
theorem l8 {tks:List (Nat×Loc)} {l:Nat} :l∈qY tks↔ ∃t∈tks,t.2.reads=true/\t.2.Og=l:=by
 unfold qY
 simp only [List.mem_map,List.mem_filter]
 exact ⟨λ⟨t,⟨h1,h2⟩,h3⟩=>⟨t,h1,h2,h3⟩,λ⟨t,h1,h2,h3⟩=>⟨t,⟨h1,h2⟩,h3⟩⟩
theorem Af.fG {st:St} {a:Act} (h:Af X π st a w) {f:AC->AC} (hu:f .undef= .undef) {gv:Nat->Prop} (yp: ∀b,gv b->Nf π b) (hb:Fl w.heap.size gv w w')
  (Wj: ∀b,b<w.heap.size->Nf π' b->Nf π b)
  (Mj: ∀l r b,π' l=some r->r.Ar b->r.cl b) (LR: ∀l r b,π' l=some r->r.cl b->(X.w0.heap.size<=b\/X.gv b)/\b<w'.heap.size)
  (XS: ∀l l' r r' b,π' l=some r->π' l'=some r'->r.cl b->r'.cl b->l=l')
  (Wk: ∀l,Ah<=l->Ad H' l≠none->Sy (X.bk l) (π' l))
  (UH:(∀fr τ cs x,Cells w (Ay X.w0.heap.size X.Sc π fr) τ cs x->Cells w' (Ay X.w0.heap.size X.Sc π' fr) τ cs x)-> ∀c v,Dk X w π st.heap c v->Dk X w' π' H' (f c) v)
  (FT:Move X w w' π π' st.heap H' f-> ∀l b,Ad H' l=some b->Ao X w' π' H' (π' l) b)
  (xA: ∀l,Ad H' l=none->π' l=none):
  Af X π' {tmps:=st.tmps.map (·.map f),heap:=H'} a w':=by
 have hc: ∀fr τ cs x,Cells w (Ay X.w0.heap.size X.Sc π fr) τ cs x->Cells w' (Ay X.w0.heap.size X.Sc π' fr) τ cs x:= λfr τ cs x hh=>
  Cells.Cj hb.size (λk hk hn=>hb.block k hk λhg=>hn (.inl (yp k hg))) (λk Gu hA=>hA.imp (Wj k Gu) id) τ cs x hh
 have m:Move X w w' π π' st.heap H' f:=⟨UH hc,hc⟩
 refine ⟨⟨⟨hb.os.trans h.1.below.os,hb.tape.trans h.1.below.tape,hb.output.trans h.1.below.output,Nat.le_trans h.1.below.size hb.size,λk hk hn=>?_⟩,h.1.sc,Mj,LR,XS,Wk,λl=>?_⟩,m.wo hu h.2⟩
 ·refine (hb.block k (Nat.lt_of_lt_of_le hk h.1.below.size) λhg=>?_).trans (h.1.below.block k hk hn)
  rcases (h.1.own (yp k hg)).2 with h1|h1
  ·omega
  ·exact hn h1
 ·cases hh:Ad H' l with
  |none=>exact Cv.Nr (xA l hh) hh
  |some b=>exact Cv.Hq (FT m l b hh) hh
def Zk:Option Real->Option Real->Prop
 |none,none=>True
 |some r,some r'=>r.g=r'.g/\r.o=r'.o/\r.cap=r'.cap
 |_,_=>False
theorem Zk.rfl' (r:Option Real):Zk r r:=by cases r<;>simp [Zk]
theorem Zk.some {r:Real} {r':Option Real} (h:Zk (some r) r'): ∃q,r'=some q/\r.g=q.g/\r.o=q.o/\r.cap=q.cap:=by
 cases r' with
 |none=>exact h.elim
 |some q=>exact ⟨q,rfl,h⟩
theorem Zk.own {r r':Option Real} (h:Zk r r') {sz off len:Nat} {v:Value} (hv:Di r sz off len v):Di r' sz off len v:=by
 cases r<;>cases r'<;>first|exact h.elim|skip
 ·exact hv
 ·obtain ⟨h1,h2,h3⟩:=h
  obtain ⟨ad,g1,g2,g3⟩:=hv
  exact ⟨ad,by rw [<-h3];exact g1,by rw [<-h3];exact g2,by rw [<-h1,<-h2,<-h3];exact g3⟩
structure OB.Ll (b b':OB):Prop where
 row: ∀sz n,b.row=some (sz,n)-> ∃n',b'.row=some (sz,n')/\n<=n'
 Zq: ∀p,b.Zq=some p->b'.Zq=some p
 mB: ∀p,b.mB=some p->b'.mB=some p
 var: ∀tid vs,b= .var tid vs-> ∃Mp rq,b'= .var Mp rq
 Nd: ∀v m,b= .Nd v m-> ∃m',b'= .Nd v m'
theorem OB.Ll.map (f:AC->AC) (b:OB):b.Ll (b.map f) where
 row:= λsz n h=>⟨n,by cases b<;>exact h,Nat.le_refl _⟩
 Zq:= λp h=>by cases b<;>exact h
 mB:= λp h=>by cases b<;>exact h
 var:= λtid vs h=>by subst h;exact ⟨_,_,rfl⟩
 Nd:= λv m h=>by subst h;exact ⟨_,rfl⟩
theorem OB.Ll.rfl' (b:OB):b.Ll b where
 row:= λ_sz n h=>⟨n,h,Nat.le_refl _⟩
 Zq:= λ_p h=>h
 mB:= λ_p h=>h
 var:= λ_tid _vs h=>⟨_,_,h⟩
 Nd:= λ_v _m h=>⟨_,h⟩
theorem OB.Ll.trans {a b c:OB} (h:a.Ll b) (k:b.Ll c):a.Ll c where
 row:= λsz n hr=>by
  obtain ⟨n1,h1,h2⟩:=h.row sz n hr
  obtain ⟨n2,h3,h4⟩:=k.row sz n1 h1
  exact ⟨n2,h3,by omega⟩
 Zq:= λp hp=>k.Zq p (h.Zq p hp)
 mB:= λp hp=>k.mB p (h.mB p hp)
 var:= λtid vs hv=>by obtain ⟨t',v',h1⟩:=h.var tid vs hv;exact k.var t' v' h1
 Nd:= λv m hm=>by obtain ⟨m',h1⟩:=h.Nd v m hm;exact k.Nd v m' h1
theorem fF {f:AC->AC} {D Pt:Nat->Prop} (hf: ∀c,f c= .undef\/(f c=c/\(∀k∈c.refs,¬D k)/\ ∀k i j,c= .sub k i j\/c= .Fa k i j-> ¬Pt k)) (hp: ∀k,¬D k->Zk (π k) (π' k))
  (hH: ∀k b,¬D k->Ad H k=some b-> ∃b',Ad H' k=some b'/\b.Ll b')
  (hg: ∀k r b,¬D k-> ¬Pt k->Ad H k=some b->b.Zq≠none->π k=some r->w'.heap[r.g]?=w.heap[r.g]?)
  (hc: ∀fr τ cs x,Cells w (Ay X.w0.heap.size X.Sc π fr) τ cs x->Cells w' (Ay X.w0.heap.size X.Sc π' fr) τ cs x): ∀c v,Dk X w π H c v->Dk X w' π' H' (f c) v:=by
 intro c v h
 rcases hf c with e|⟨e,hr,hs⟩
 ·rw [e];trivial
 rw [e]
 cases c with
 |data fr τ x=>obtain ⟨cs,h1,h2⟩:=h;exact ⟨cs,hc _ _ _ _ h1,h2⟩
 |own k off len=>
  obtain ⟨b,sz,n,h1,h0,h2,h3⟩:=h
  have hk:=hr k (by simp [AC.refs])
  obtain ⟨b',g1,g2⟩:=hH k b hk h1
  obtain ⟨n',g3,g4⟩:=g2.row sz n h0
  exact ⟨b',sz,n',g1,g3,by omega,(hp k hk).own h3⟩
 |Dj k i=>
  obtain ⟨r,tid,vs,h1,h2,h3⟩:=h
  have hk:=hr k (by simp [AC.refs])
  obtain ⟨b',g1,g2⟩:=hH k _ hk h1
  obtain ⟨Mp,rq,rfl⟩:=g2.var tid vs rfl
  obtain ⟨q,q1,q2,_⟩:=(h2▸hp k hk).some
  exact ⟨q,Mp,rq,g1,q1,by rw [<-q2];exact h3⟩
 |Fc k i=>
  obtain ⟨r,b,sz,n,h1,h0,h2,h3,h4⟩:=h
  have hk:=hr k (by simp [AC.refs])
  obtain ⟨b',g1,g2⟩:=hH k b hk h1
  obtain ⟨n',g3,g4⟩:=g2.row sz n h0
  obtain ⟨q,q1,q2,q3,_⟩:=(h3▸hp k hk).some
  exact ⟨q,b',sz,n',g1,g3,by omega,q1,by rw [<-q2,<-q3];exact h4⟩
 |sub k i c=>
  obtain ⟨r,b,sz,n,h1,h0,h2,h3,h4,h5⟩:=h
  have hk:=hr k (by simp [AC.refs])
  obtain ⟨b',g1,g2⟩:=hH k b hk h1
  obtain ⟨q,q1,q2,q3,_⟩:=(h2▸hp k hk).some
  exact ⟨q,b',sz,n,g1,g2.Zq _ h0,q1,h3,h4,by rw [<-q2,<-q3,World.cell?_of_block (hg k r b hk (hs k i c (.inl rfl)) h1 (by rw [h0];simp) h2)];exact h5⟩
 |Fa k i c=>
  obtain ⟨r,b,n,sz,g,o,len,cap,h1,h0,h2,h3,h4,h5,h6⟩:=h
  have hk:=hr k (by simp [AC.refs])
  obtain ⟨b',g1,g2⟩:=hH k b hk h1
  obtain ⟨q,q1,q2,q3,_⟩:=(h2▸hp k hk).some
  exact ⟨q,b',n,sz,g,o,len,cap,g1,g2.mB _ h0,q1,h3,h4,by rw [<-q2,<-q3,World.cell?_of_block (hg k r b hk (hs k i c (.inr rfl)) h1 (by cases b<;>first|(cases h0;done)|simp [OB.Zq]) h2)];exact h5,h6⟩
 |clo g Bp=>
  obtain ⟨us,h1,h2,h3⟩:=h
  refine ⟨us,h1,h2,λj p QZ=>?_⟩
  obtain ⟨r,tid,vs,h4,h5,h6⟩:=h3 j p QZ
  have hk:=hr p.1 (by simp only [AC.refs,List.mem_map];exact ⟨p,List.mem_of_getElem? QZ,rfl⟩)
  obtain ⟨b',g1,g2⟩:=hH p.1 _ hk h4
  obtain ⟨Mp,rq,rfl⟩:=g2.var tid vs rfl
  obtain ⟨q,q1,q2,_⟩:=(h5▸hp p.1 hk).some
  exact ⟨q,Mp,rq,g1,q1,by rw [<-q2];exact h6⟩
 |Fq k=>
  obtain ⟨r,vt,m,h1,h2,h3⟩:=h
  have hk:=hr k (by simp [AC.refs])
  obtain ⟨b',g1,g2⟩:=hH k _ hk h1
  obtain ⟨m',rfl⟩:=g2.Nd vt m rfl
  obtain ⟨q,q1,q2,_⟩:=(h2▸hp k hk).some
  exact ⟨q,vt,m',g1,q1,by rw [<-q2];exact h3⟩
 |_=>exact h
theorem Ms (H0:List (Nat×OB)) (ls:List Nat) (n:Nat): ∀(H:List (Nat×OB)) (l:Nat),Ad (Vh H0 ls n H) l=(Ad H l).map λb=>if ls.contains l then b.tP (Tp n (MI (Ad H0 l))) else b
 | [],_=>rfl
 |(k,b)::r,l=>by
  simp only [Vh,Ad]
  split
  ·rename_i e;subst e;rfl
  ·exact Ms H0 ls n r l
theorem OB.qw (b:OB) (kp:Option (Nat×Nat)):b.Ll (b.tP kp):=by
 cases b with
 |Ai e te rows out ZQ=>exact ⟨λsz n h=>⟨n,h,Nat.le_refl _⟩,λp h=>h,λp h=>h,(λ_ _ h=>by cases h),(λ_ _ h=>by cases h)⟩
 |_=>exact OB.Ll.rfl' _
theorem Zc (ls:List Nat): ∀(l m:List AV) (t:Nat),l.length=m.length->(∃k i c,l.getD t .undef= .at (.sub k i c)/\ls.contains k=true/\(Ge ls l m).getD t .undef= .at (.sub k i c))\/(Ge ls l m).getD t .undef=m.getD t .undef
 | [],m,t,_=>by cases m<;>exact .inr rfl
 |_::_,[],t,h=>by simp at h
 |a::l,v::m,t,h=>by
  have ih:= λt=>Zc ls l m t (by simpa using h)
  have tail: ∀u,Ge ls (a::l) (v::m)=u::Ge ls l m->(t=0->(∃k i c,(a::l).getD t .undef= .at (.sub k i c)/\ls.contains k=true/\u= .at (.sub k i c))\/u=v)->
    (∃k i c,(a::l).getD t .undef= .at (.sub k i c)/\ls.contains k=true/\(Ge ls (a::l) (v::m)).getD t .undef= .at (.sub k i c))\/(Ge ls (a::l) (v::m)).getD t .undef=(v::m).getD t .undef:=by
   intro u e h0
   rw [e]
   rcases t with _|t
   ·rcases h0 rfl with ⟨k,i,c,h1,h2,h3⟩|h3
    ·exact .inl ⟨k,i,c,h1,h2,by simpa using h3⟩
    ·exact .inr (by simpa using h3)
   ·simpa only [List.getD_cons_succ] using ih t
  cases a with
  | «at»c=>
   cases c with
   |sub k i c=>
    refine tail _ rfl λht=>?_
    subst ht
    by_cases hc:ls.contains k=true
    ·exact .inl ⟨k,i,c,rfl,hc,by rw [if_pos hc]⟩
    ·exact .inr (by rw [if_neg hc])
   |_=>exact tail _ rfl λ_=> .inr rfl
  |_=>exact tail _ rfl λ_=> .inr rfl
theorem lY {H:List (Nat×OB)} {ls:List Nat} {n:Nat} : ∀ {l:List AV} {t k i c:Nat},Vp H ls n l=true->l.getD t .undef= .at (.sub k i c)->ls.contains k=true->i<n/\i<jK H k
 | [],t,k,i,c,_,h,_=>by simp at h
 |a::l,0,k,i,c,ho,h,hc=>by
  simp only [List.getD_cons_zero] at h
  subst h
  simp only [Vp,hc,Bool.not_true,Bool.false_or,Bool.and_eq_true,Nat.blt_eq] at ho
  exact ho.1
 |a::l,t+1,k,i,c,ho,h,hc=>by
  refine lY (l:=l) (t:=t) (c:=c) ?_ (by simpa only [List.getD_cons_succ] using h) hc
  cases a with
  | «at»d=>cases d with
   |sub _ _ _=>simp only [Vp,Bool.and_eq_true] at ho;exact ho.2
   |_=>exact ho
  |_=>exact ho
theorem vH {a7 st:St} {a:Act} (h0:Af X π a7 a w) (h:Af X π' st a w') {ls:List Nat} {n:Nat} (hk: ∀l∈ls,ry w w' (π l) (π' l) n) (kL: ∀l∈ls,fh a7.heap l=true)
  (jq:Vp st.heap ls n a7.tmps=true):Af X π' (dW a7 st ls n) a w'/\ ∀c v,Ak X w' π' st.heap c v->Ak X w' π' (dW a7 st ls n).heap c v:=by
 by_cases o0:ls= []
 ·subst o0;exact ⟨h,λ_ _ h=>h⟩
 have Qy:dW a7 st ls n= {tmps:=Ge ls a7.tmps st.tmps,heap:=Vh a7.heap ls n st.heap} :=by
  cases ls with
  |nil=>exact absurd rfl o0
  |cons _ _=>rfl
 rw [Qy]
 have hg0: ∀l∈ls,∃e te rows out kp,Ad a7.heap l=some (.Ai e te rows out kp):= λl hl=>by
  have:=kL l hl
  unfold fh at this
  split at this
  ·exact ⟨_,_,_,_,_,by assumption⟩
  ·cases this
 have srv: ∀k b,Ad st.heap k=some b-> ∃b',Ad (Vh a7.heap ls n st.heap) k=some b'/\b.Ll b':= λk b hb=>by
  rw [Ms,hb]
  refine ⟨_,rfl,?_⟩
  dsimp only
  split
  ·exact OB.qw b _
  ·exact OB.Ll.rfl' b
 have UH:(∀fr τ cs x,Cells w' (Ay X.w0.heap.size X.Sc π' fr) τ cs x->Cells w' (Ay X.w0.heap.size X.Sc π' fr) τ cs x)-> ∀c v,Dk X w' π' st.heap c v->Dk X w' π' (Vh a7.heap ls n st.heap) c v:= λhc=>
  fF (f:= λc=>c) (D:= λ_=>False) (Pt:= λ_=>False) (λc=> .inr ⟨rfl,λ_ _ h=>h,λ_ _ _ _ h=>h⟩) (λk _=>Zk.rfl' _) (λk b _ hb=>srv k b hb) (λ_ _ _ _ _ _ _ _=>rfl) hc
 have h1:Af X π' {tmps:=st.tmps.map (·.map λc=>c),heap:=Vh a7.heap ls n st.heap} a w':=by
  refine h.fG rfl (gv:= λ_=>False) (λ_ hf=>hf.elim) (Fl.refl _ _ _) (λ_ _ ho=>ho) h.1.sub h.1.place h.1.inj (λl hl Ev=>h.1.bk l hl λh2=>Ev (by rw [Ms,h2];rfl)) UH (λm l b hb=>?_) (λl hl=>?_)
  ·rw [Ms] at hb
   cases h2:Ad st.heap l with
   |none=>rw [h2] at hb;cases hb
   |some b0=>
    rw [h2] at hb
    simp only [Option.map_some,Option.some.injEq] at hb
    have hbk:=(h.1.heap l).La h2
    have uv:=hbk.move m (Nat.le_refl _) (λr0 c h0 h1=>h.1.sub _ r0 c h0 h1) λ_ _ _ _ _=>rfl
    rw [show OB.map (λc=>c) b0=b0 from OB.sV b0] at uv
    split at hb
    ·rename_i hc
     have hl:l∈ls:=by simpa using hc
     cases b0 with
     |Ai e te rows out kp=>
      simp only [OB.tP] at hb
      subst hb
      refine ⟨uv.1,?_⟩
      obtain ⟨e0,ZX,JT,ZR,ZQ,hg⟩:=hg0 l hl
      have mF:=((h0.1.heap l).La hg).2
      rw [hg]
      simp only [MI]
      have mI:=hk l hl
      cases ZQ with
      |none=>trivial
      |some p=>
       obtain ⟨l0,n0⟩:=p
       simp only [KeptAt,Tp] at mF⊢
       cases pE:X.bk l0 with
       |none=>
        cases hp:π l with
        |none=>
         rw [hp] at mI
         cases xC:π' l with
         |none=>trivial
         |some q=>rw [xC] at mI;exact mI.elim
        |some q=>rw [pE,hp] at mF;exact mF.elim
       |some r0=>
        cases hp:π l with
        |none=>rw [pE,hp] at mF;exact mF.elim
        |some q=>
         rw [pE,hp] at mF
         rw [hp] at mI
         cases xC:π' l with
         |none=>rw [xC] at mI;exact mI.elim
         |some q'=>
          rw [xC] at mI
          obtain ⟨k1,k2,k3,k4⟩:=mI
          obtain ⟨g1,g2,g3,g4⟩:=mF
          refine ⟨k1.trans g1,k2.trans g2,k3.trans g3,λj hj hc=>?_⟩
          have e1:=g4 j (by omega) hc
          have e2:=k4 j (by omega) (by omega)
          rw [g1,g2] at e2
          rw [<-e1,e2]
     |_=>simp only [OB.tP] at hb;subst hb;exact uv
    ·subst hb;exact uv
  ·rw [Ms] at hl
   cases h2:Ad st.heap l with
   |none=>exact (h.1.heap l).emp h2
   |some b=>rw [h2] at hl;cases hl
 have AW: ∀c v,Ak X w' π' st.heap c v->Ak X w' π' (Vh a7.heap ls n st.heap) c v:= λc v hv=>by
  have m:Move X w' w' π' π' st.heap (Vh a7.heap ls n st.heap) (λc=>c):=⟨UH λ_ _ _ _ h=>h,λ_ _ _ _ h=>h⟩
  have:=m.av hv
  rwa [AC.map_id] at this
 refine ⟨⟨h1.1,⟨?_,h.2.defers,λt=>?_⟩⟩,AW⟩
 ·have: ∀(l m:List AV),(Ge ls l m).length=m.length:=by
   intro l
   induction l with
   |nil=>intro m;cases m<;>rfl
   |cons a l ih=>
    intro m
    cases m with
    |nil=>cases a with
     | «at»c=>cases c<;>rfl
     |_=>rfl
    |cons v m=>cases a with
     | «at»c=>cases c<;>simp only [Ge,List.length_cons,ih m]
     |_=>simp only [Ge,List.length_cons,ih m]
  show a.tmps.size=(Ge ls a7.tmps st.tmps).length
  rw [this];exact h.2.size
 ·show Ak X w' π' _ ((Ge ls a7.tmps st.tmps).getD t .undef) _
  rcases Zc ls a7.tmps st.tmps t (by rw [<-h0.2.size,<-h.2.size]) with ⟨k,i,c,g1,g2,g3⟩|g
  ·rw [g3]
   have Lt:k∈ls:=by simpa using g2
   obtain ⟨i1,i2⟩:=lY jq g1 g2
   have hv:=h0.2.tmps t
   rw [show a7.get t=_ from g1] at hv
   obtain ⟨r,b,sz,n',e1,e2,e3,e4,⟨e5,e6⟩,e7⟩:=hv
   obtain ⟨e0,ZX,JT,ZR,ZQ,hg⟩:=hg0 k Lt
   rw [hg] at e1;cases e1
   simp only [OB.Zq,Option.some.injEq,Prod.mk.injEq] at e2
   obtain ⟨rfl,rfl⟩:=e2
   have mI:=hk k Lt
   rw [e3] at mI
   cases xC:π' k with
   |none=>rw [xC] at mI;exact mI.elim
   |some q'=>
    rw [xC] at mI
    obtain ⟨k1,k2,k3,k4⟩:=mI
    have kK:JT.length<=r.cap:=by
     have:=((h0.1.heap k).La hg).1
     rw [e3] at this
     obtain ⟨_,_,_,_,_,_,h5,_⟩:=this
     exact h5
    unfold jK at i2
    split at i2
    ·rename_i e9 te9 TD Aei kp9 hg9
     refine ⟨q',_,1,TD.length,by rw [Ms,hg9];rfl,?_,xC,i2,⟨e5,e6⟩,?_⟩
     ·dsimp only
      split<;>rfl
     ·have dP:c=0:=by omega
      subst dP
      rw [k1,k2]
      rw [Nat.mul_one,Nat.add_zero] at e7⊢
      rw [k4 i i1 (by omega)];exact e7
    ·omega
  ·rw [g]
   exact AW _ _ (h.2.tmps t)
theorem ib {ins:List (Bool×CK)} {as:List AC} {pl:List Nat} {st:St} :(jt ins as pl st).tmps=st.tmps:=by
 unfold jt
 split
 ·rfl
 ·split<;>rfl
theorem wA {ins:List (Bool×CK)} {as:List AC} {pl:List Nat} {st:St} {m:Nat} (hm:m∉pl):Ad (jt ins as pl st).heap m=Ad st.heap m:=by
 unfold jt
 split
 ·rfl
 ·rename_i l r
  split
  ·exact Cc _ _ _ _ λe=>hm (e▸List.mem_cons_self)
  ·rfl
theorem zh {ins:List (Bool×CK)} {as:List AC} {l:Nat} {st:St} {tid:TypeId} {vs:List AC} (hl:Ad st.heap l=some (.var tid vs)):Ad (jt ins as [l] st).heap l=some (.var tid (Zy ins vs as)):=by
 simp only [jt,St.at,hl]
 exact Ch _ _ _ _ hl
theorem oE {α:Type} (ins:List (Bool×CK)) (as:List α):Zy ins [] as= []:=by
 rcases ins with _|⟨⟨_|_,c⟩,r⟩<;>rfl
theorem gW {α:Type} : ∀(ins:List (Bool×CK)) (vs as:List α),(Zy ins vs as).length=vs.length
 | [],vs,as=>by rw [Zy];all_goals simp
 |p::r,[],as=>by rw [oE]
 |(true,c)::r,v::vs,as=>by simp only [Zy,List.length_cons,gW r vs as]
 |(false,c)::r,v::vs,[]=>by rw [Zy];all_goals simp
 |(false,c)::r,v::vs,a::as=>by simp only [Zy,List.length_cons,gW r vs as]
theorem z8 {st:St} {a:Act} (h:Af X π st a w) {s:MSpec} {iy:List AV} {vs:List Value} (hlen:iy.length=vs.length) (AW: ∀(i:Nat) c v,iy[i]?=some c->vs[i]?=some v->Ak X w π st.heap c v)
  {pl:List Nat} {cells:List AC} {rest:List AV} (he:xM st s iy=some (pl,cells,rest)):
  ∃(g:Nat) (IC oT:List Value),rest.length=oT.length/\(∀(i:Nat) c v,rest[i]?=some c->oT[i]?=some v->Ak X w π st.heap c v)/\He X w π st.heap cells IC/\
   ((s.ptr=none/\pl= []/\cells= []/\IC= []/\vs=oT)\/
    ∃p l q,s.ptr=some p/\pl= [l]/\π l=some q/\q.Ar q.g/\g=q.g/\Ad st.heap l=some (.var p.1 cells)/\cells.length=p.2/\vs= .pointer (some ⟨g,0,none⟩)::oT/\w.heap[g]?=some (.cells IC.toArray p.1 (0,0))/\Cl X w π st.heap cells IC):=by
 unfold xM at he
 split at he
 ·rename_i hp
  simp only [Option.some.injEq,Prod.mk.injEq] at he
  obtain ⟨rfl,rfl,rfl⟩:=he
  exact ⟨0,[],vs,hlen,AW,trivial, .inl ⟨hp,rfl,rfl,rfl,rfl⟩⟩
 ·rename_i p hp
  split at he
  ·rename_i l i Abd
   split at he
   ·rename_i tid cs hl
    split at he
    ·rename_i hc
     obtain ⟨rfl,hc,rfl⟩:=hc
     simp only [Option.some.injEq,Prod.mk.injEq] at he
     obtain ⟨rfl,rfl,rfl⟩:=he
     unfold St.at at hl
     cases vs with
     |nil=>simp at hlen
     |cons v vs=>
      obtain ⟨r,Mp,rq,h1,h2,rfl⟩:=AW 0 _ v rfl rfl
      rw [hl] at h1;cases h1
      obtain ⟨r',h3,h4,cur,h5,h6⟩:=(h.1.heap l).La hl
      rw [h2] at h3;cases h3
      exact ⟨r.g,cur.toList,vs,by simpa using hlen,λi c v h7 h8=>AW (i+1) c v (by simpa using h7) (by simpa using h8),He.of h6, .inr ⟨p,l,r,hp,rfl,h2,h4,rfl,hl,hc,rfl,by simpa using h5,h6⟩⟩
    ·cases he
   ·cases he
  ·cases he
theorem cn {V:List Nat} {πc:Pi} {dead part:List Nat} (JN: ∀l,l∉dead->π' l=π l) (Sa: ∀l b sz n,l∉dead->Ad H l=some b->b.row=some (sz,n)-> ∃b',Ad H' l=some b'/\b'.row=some (sz,n)):
  ∀(ins:List (Bool×CK)) (k:Nat) (cells fY:List AC) (x:Ins.den ins) (us:List Value) (o:IOs.den ins) (cur st1:St) (news:List AC) (Qz cs:List Value),ji X w π V H πc k ins x (cells++fY) us->Nn ins cells=true->
   Dr ins o (cells++fY) cur=some st1->Bt πc k ins o cells.length cs Qz->He X w' π' H' news Qz->He X w' π' H' (Zy ins (cells.map (Ap dead part)) news) cs
 |ins,k,[],fY,x,us,o,cur,st1,news,Qz,cs,_,_,_,hb,_=>by
  have hb:cs= []:=by rcases ins with _|⟨⟨_|_,c⟩,r⟩<;>(try cases c)<;>simpa [Bt] using hb
  rw [hb,List.map_nil,oE]
  trivial
 | [],k,a::cells,fY,x,us,o,cur,st1,news,Qz,cs,_,hk,_,_,_=>by simp [Nn] at hk
 |(true, .Gh τ)::r,k,a::cells,fY,x,us,o,cur,st1,news,Qz,cs,_,hk,_,_,_=>by simp [Nn] at hk
 |(true, .part e te)::r,k,a::cells,fY,x,us,o,cur,st1,news,Qz,cs,_,hk,_,_,_=>by simp [Nn] at hk
 |(true, .Ai e te _)::r,k,a::cells,fY,x,us,o,cur,st1,news,Qz,cs,_,hk,_,_,_=>by simp [Nn] at hk
 |(true, .row e te)::r,k,a::cells,fY,x,us,o,cur,st1,news,Qz,cs,ht,hk,hp,hb,hn=>by
  cases a<;>simp only [Nn,Bool.false_eq_true] at hk
  rename_i l off len
  cases us with
  |nil=>exact ht.elim
  |cons u0 us=>
  cases cs with
  |nil=>exact hb.elim
  |cons u cs=>
  obtain ⟨⟨_,h1⟩,h2⟩:=ht
  simp only [Lq] at h1
  obtain ⟨h3,rfl,rfl,fr,tr,h4⟩:=h1
  obtain ⟨h5,h6⟩:=hb
  simp only [List.cons_append,Dr] at hp
  split at hp
  rotate_left
  ·cases hp
  rename_i Rv LQ
  have BG:List.length o.1=List.length x.1:=by
   simp only [Ue] at LQ
   repeat' split at LQ
   all_goals first|(cases LQ;done)|(rename_i hc;exact hc.2.1)
  refine ⟨?_,cn JN Sa r (k+1) cells fY x.2 us o.2 Rv st1 news Qz cs h2 hk hp h6 hn⟩
  by_cases hd:l∈dead
  ·have:Ap dead part (.own l 0 (List.length x.1))= .undef:=by
    unfold Ap
    rw [if_pos (by simp [AC.refs,hd])]
   rw [this];trivial
  ·rw [Um (by simpa [AC.refs] using hd) (by intro l i j e;rcases e with e|e<;>cases e)]
   obtain ⟨b',g1,g2⟩:=Sa l _ e.size (List.length x.1) hd h4 rfl
   refine ⟨b',e.size,List.length x.1,g1,g2,by omega,?_⟩
   rw [JN l hd]
   rw [h3,BG] at h5
   cases hp:π l<;>(rw [hp] at h5;exact h5)
 |(true, .Dh e te)::r,k,a::cells,fY,x,us,o,cur,st1,news,Qz,cs,ht,hk,hp,hb,hn=>by
  cases a<;>simp only [Nn,Bool.false_eq_true] at hk
  rename_i l off len
  cases us with
  |nil=>exact ht.elim
  |cons u0 us=>
  cases cs with
  |nil=>exact hb.elim
  |cons u cs=>
  obtain ⟨⟨_,h1⟩,h2⟩:=ht
  simp only [Lq] at h1
  obtain ⟨h3,rfl,rfl,h4⟩:=h1
  obtain ⟨h5,h6⟩:=hb
  simp only [List.cons_append,Dr] at hp
  split at hp
  rotate_left
  ·cases hp
  rename_i Rv LQ
  have BG:List.length o.1=List.length x.1:=by
   simp only [Ue] at LQ
   repeat' split at LQ
   all_goals first|(cases LQ;done)|(rename_i hc;exact hc.2.1)
  refine ⟨?_,cn JN Sa r (k+1) cells fY x.2 us o.2 Rv st1 news Qz cs h2 hk hp h6 hn⟩
  by_cases hd:l∈dead
  ·have:Ap dead part (.own l 0 (List.length x.1))= .undef:=by
    unfold Ap
    rw [if_pos (by simp [AC.refs,hd])]
   rw [this];trivial
  ·rw [Um (by simpa [AC.refs] using hd) (by intro l i j e;rcases e with e|e<;>cases e)]
   obtain ⟨b',g1,g2⟩:=Sa l _ e.size (List.length x.1) hd h4 rfl
   refine ⟨b',e.size,List.length x.1,g1,g2,by omega,?_⟩
   rw [JN l hd]
   rw [h3,BG] at h5
   cases hp:π l<;>(rw [hp] at h5;exact h5)
 |(false,c)::r,k,a::cells,fY,x,[],o,cur,st1,news,Qz,cs,ht,hk,hp,hb,hn=>ht.elim
 |(false,c)::r,k,a::cells,fY,x,u0::us,o,cur,st1,news,Qz,[],ht,hk,hp,hb,hn=>by cases c<;>exact hb.elim
 |(false,c)::r,k,a::cells,fY,x,u0::us,o,cur,st1,news,[],u::cs,ht,hk,hp,hb,hn=>by cases c<;>exact hb.elim
 |(false,c)::r,k,a::cells,fY,x,u0::us,o,cur,st1,[],u'::Qz,u::cs,ht,hk,hp,hb,hn=>hn.elim
 |(false,c)::r,k,a::cells,fY,x,u0::us,o,cur,st1,na::news,u'::Qz,u::cs,ht,hk,hp,hb,hn=>by
  have PY:u=u'/\Bt πc (k+1) r o cells.length cs Qz:=by cases c<;>exact hb
  obtain ⟨rfl,UI⟩:=PY
  have hp:Dr r o (cells++fY) cur=some st1:=by cases c<;>simpa only [List.cons_append,Dr] using hp
  have hk:Nn r cells=true:=by cases c<;>simpa only [Nn] using hk
  exact ⟨hn.1,cn JN Sa r (k+1) cells fY x.2 us o cur st1 news Qz cs ht.2 hk hp UI hn.2⟩
theorem ua {V:List Nat} {πc:Pi} : ∀(cs:List (Bool×CK)) (k0:Nat) (x:Ins.den cs) (as:List AC) (us:List Value),k0+cs.length<100000->ji X w π V H πc k0 cs x as us-> ∀k l,(Bm false k,Loc.row l)∈Gf k0 cs as->πc (Bm false k)=(π l).map full
 | [],_,_,[],_,_,_,_,_,h=>by cases h
 | [],_,_,_::_,_,_,_,_,_,h=>by cases h
 |_::_,_,_,[],_,_,_,_,_,h=>by cases h
 |_::_,_,_,_::_,[],_,h,_,_,_=>h.elim
 |(io,c)::r,k0,x,a::as,u::us,hk,h,k,l,ht=>by
  simp only [List.length_cons] at hk
  simp only [Gf] at ht
  rcases List.mem_append.1 ht with ht|ht
  ·obtain ⟨⟨_,h1⟩,_⟩:=h
   cases c with
   |Gh τ=>cases a<;>simp [Jn,views] at ht
   |row e te=>
    cases a<;>simp [Jn] at ht
    obtain ⟨e1,rfl⟩:=ht
    simp only [Lq] at h1
    rw [e1];exact h1.1
   |Dh e te=>
    cases a<;>simp [Jn] at ht
    obtain ⟨e1,rfl⟩:=ht
    simp only [Lq] at h1
    rw [e1];exact h1.1
   |part e te=>
    cases a<;>simp [Jn] at ht
    obtain ⟨e1,rfl⟩:=ht
    simp only [Lq] at h1
    rw [e1];exact h1.2.1
   |Ai e te kp=>
    cases a<;>simp [Jn] at ht
    obtain ⟨e1,rfl⟩:=ht
    simp only [Lq] at h1
    rw [e1];exact h1.2.1
  ·exact ua r (k0+1) x.2 as us (by omega) h.2 k l ht
theorem jk {st:St} {a:Act} (h:Af X π st a w) {f:FuncId} {s:MSpec} (hs:Du P f s) (dst:Option Nat) (iy:List AV) (vs:List Value) (hlen:iy.length=vs.length)
  (AW: ∀(i:Nat) c v,iy[i]?=some c->vs[i]?=some v->Ak X w π st.heap c v) (av:AV) (st':St) (he:Ov st dst s iy=some (av,st')):
  Calls P f vs.toArray w λe w'=> ∃v,e= .returned v/\ ∃π',Af X π' st' a w'/\Ak X w' π' st'.heap av v:=by
 unfold Ov at he
 split at he
 ·cases he
 rename_i pl cells rest YQ
 split at he
 ·cases he
 rename_i fY zV
 split at he
 ·cases he
 rename_i x tks htk
 split at he
 rotate_left
 ·cases he
 rename_i Et
 simp only [Bool.and_eq_true,Nat.blt_eq] at Et
 obtain ⟨⟨⟨⟨zS,kO⟩,QW⟩,Ud⟩,QM,yx⟩:=Et
 have yx: ∀l∈pl,l∉(tks.map λt=>t.2.Og)/\l∉Ks s tks (dst.getD 0):= λl hl=>by
  have:=List.all_eq_true.1 yx l hl
  simp only [Bool.not_eq_true',<-Bool.not_eq_true,List.contains_iff_mem] at this
  exact ⟨λhm=>this (List.mem_append_left _ hm),λhm=>this (List.mem_append_right _ hm)⟩
 split at he
 ·cases he
 rename_i r o OG
 split at he
 ·cases he
 rename_i st1 LU
 obtain ⟨g,IC,oT,QN,WW,YT,OR⟩:=z8 h hlen AW YQ
 obtain ⟨nz,rfl,zU,YS⟩:=Uy s.Gg rest oT fY QN WW zV
 have LW:=YT.append YS
 have Ka:gb s w g (IC++nz) vs:=by
  unfold gb
  rcases OR with ⟨h1,_,_,h2,h3⟩|⟨p,l,q,h1,_,_,_,_,_,h2,h3,h4,h5⟩
  ·rw [h1];subst h2;exact ⟨h3,zU⟩
  ·rw [h1]
   have hl:IC.length=p.2:=h5.1.trans h2
   simp only
   rw [List.drop_append_of_le_length (by omega),List.take_append_of_le_length (by omega),List.take_of_length_le (by omega),List.drop_of_length_le (by omega)]
   refine ⟨h3,zU,by simp;omega,h4,λu hu=>?_⟩
   obtain ⟨i,hi,rfl⟩:=List.mem_iff_getElem.1 hu
   obtain ⟨u',h6,h7,_⟩:=h5.2 i (cells[i]'(by have:=h5.1;omega)) (List.getElem?_eq_getElem _)
   rw [List.getElem?_eq_getElem hi] at h6
   rw [Option.some.inj h6];exact h7
 have yy: ∀l∈pl,∃p q,s.ptr=some p/\pl= [l]/\π l=some q/\q.Ar q.g/\g=q.g/\Ad st.heap l=some (.var p.1 cells)/\cells.length=p.2:= λl hl=>by
  rcases OR with ⟨_,h1,_⟩|⟨p,l',q,h1,h2,h3,h4,h5,h6,h7,_⟩
  ·rw [h1] at hl;cases hl
  ·rw [h2] at hl
   have:=List.mem_singleton.1 hl
   subst this
   exact ⟨p,q,h1,h2,h3,h4,h5,h6,h7⟩
 have yp: ∀b,s.gv g b-> ∃l∈pl,∃q,π l=some q/\q.Ar b/\b=q.g:= λb ⟨h1,h2⟩=>by
  rcases OR with ⟨h3,_⟩|⟨p,l',q,_,h4,h5,h6,h7,_⟩
  ·rw [h3] at h1;cases h1
  ·exact ⟨l',by rw [h4];exact List.mem_singleton.2 rfl,q,h5,by rw [h2,h7];exact h6,h2.trans h7⟩
 obtain ⟨as,has⟩: ∃as,as=cells++fY:=⟨_,rfl⟩
 obtain ⟨us,BO⟩: ∃us,us=IC++nz:=⟨_,rfl⟩
 rw [<-has] at LW htk LU
 rw [<-BO] at LW Ka
 let V:=(tks.filter λt=>t.2.reads).map λt=>t.2.Og
 have hV: ∀t∈tks,t.2.reads=true->t.2.Og∈V:= λt ht hr=>List.mem_map.2 ⟨t,List.mem_filter.2 ⟨ht,hr⟩,rfl⟩
 have WQ: ∀l∈V,∃t∈tks,t.2.reads=true/\t.2.Og=l:= λl hl=>by
  obtain ⟨t,h1,h2⟩:=List.mem_map.1 hl
  exact ⟨t,(List.mem_filter.1 h1).1,(List.mem_filter.1 h1).2,h2⟩
 clear_value V
 obtain ⟨ER,πc,hT,AZ,XQ,Nm⟩:=m7 h.1 (V:=V) s.ins 0 as us x tks (by omega) LW htk hV
 have vo:=Pg zS
 rw [ER] at vo
 have Wj: ∀b,Nf πc b-> ∃t∈Gf 0 s.ins as,t.2.reads=false/\ ∃q,π t.2.Og=some q/\q.Ar b/\ ∀l i j,t.2= .sub l i j->b≠q.g:= λb ⟨c,q,h1,h2⟩=>by
  obtain ⟨t,t1,_,t3⟩:=Nm c q b h1 h2
  exact ⟨t,t1,t3⟩
 have vu: ∀b,Nf πc b->Nf π b:= λb hb=>let ⟨t,_,_,q,h1,h2,_⟩:=Wj b hb;⟨_,q,h1,h2⟩
 have cQ:ao πc (λb=>b<w.heap.size):=⟨λl q b h1 h2=>(h.1.own (vu b ⟨l,q,h1,h2⟩)).1,λl l' q q' b h1 h2 h3 h4=>by
  obtain ⟨t,t1,t2,_,p,t3,t4,_⟩:=Nm l q b h1 h3
  obtain ⟨t',NH,VO,_,p',t3',t4',_⟩:=Nm l' q' b h2 h4
  have:=pQ vo t1 NH (h.1.apart t3 t3' t4 t4')
  rw [<-t2,<-VO,this]⟩
 have PU: ∀k l,(Bm false k,Loc.row l)∈Gf 0 s.ins as->πc (Bm false k)=(π l).map full:= λk l ht=>
  ua s.ins 0 x as us (by omega) hT k l ht
 have RV: ∀b,Nf πc b->Ik X π V b:= λb hb=> .inl ⟨vu b hb,λl hl r' hr hf=>by
  obtain ⟨t,t1,t0,q,t3,t4,_⟩:=Wj b hb
  obtain ⟨t',NH,VO,rfl⟩:=WQ l hl
  rw [ER] at NH
  have:=pQ vo t1 NH (h.1.apart t3 hr t4 hf)
  subst this
  rw [t0] at VO;cases VO⟩
 let S:Nat->Prop:= λb=> ¬Nf πc b/\Ik X π V b
 have hS: ∀b,S b->b<w.heap.size/\ ¬Nf πc b:= λb hb=>⟨by
  rcases hb.2 with h1|h1
  ·exact (h.1.own h1.1).1
  ·exact Nat.lt_of_lt_of_le (h.1.sc b h1).1 h.1.below.size,hb.1⟩
 have GI: ∀l∈pl,∀t∈Gf 0 s.ins as,t.2.Og≠l:= λl hl t ht e=>(yx l hl).1 (List.mem_map.2 ⟨t,ER▸ht,e⟩)
 have WL:s.ptr.isSome=true->S g:= λOQ=>by
  obtain ⟨l,hl,q,h1,h2,h3⟩:=yp g ⟨OQ,rfl⟩
  have OM: ¬Nf πc g:= λhb=>by
   obtain ⟨t,t1,_,q',t3,t4,_⟩:=Wj g hb
   exact GI l hl t t1 (h.1.apart t3 h1 t4 h2)
  refine ⟨OM, .inl ⟨⟨l,q,h1,h2⟩,λl' Ic r' dT hf=>?_⟩⟩
  obtain ⟨t',NH,_,rfl⟩:=WQ l' Ic
  rw [ER] at NH
  exact GI l hl t' NH (h.1.apart dT h1 hf h2)
 refine (hs.calls w S πc us x r o g vs Ka WL (Xi.Ek (λb hb=>hb.elim (RV b) λh=>h.2) s.ins 0 x us (hT.SG s.ins 0 x as us)) cQ hS XQ OG).mono ?_
 rintro e w' ⟨v,Qz,ru,rfl,Ya,nU,FR,pA,QX,BI,MG,nZ⟩
 obtain ⟨ρ,GO,vr,BH,IQ⟩: ∃ρ:Pi,(∀l,ρ l=(ru l).map full)/\El w' (cy S πc ru) ρ 0 s.outs r Qz/\ao ρ (λb=>b<w'.heap.size/\(w.heap.size<=b\/ ∃l q,l<Ah/\πc l=some q/\q.Ar b))/\ ∀l q,ρ l=some q->q.cl=q.Ar:=by
  have un: ∀l q,(ru l).map full=some q-> ∃q0,ru l=some q0/\q=full q0:= λl q hq=>by
   cases hp:ru l with
   |none=>rw [hp] at hq;cases hq
   |some q0=>rw [hp] at hq;exact ⟨q0,rfl,(Option.some.inj hq).symm⟩
  refine ⟨λl=>(ru l).map full,λ_=>rfl,El.full s.outs 0 r Qz QX,⟨λl q b h1 h2=>?_,λl l' q q' b h1 h2 h3 h4=>?_⟩,λl q h1=>?_⟩
  ·obtain ⟨q0,h5,rfl⟩:=un l q h1
   exact BI.Om l q0 b h5 h2
  ·obtain ⟨q0,h5,rfl⟩:=un l q h1
   obtain ⟨NC,h6,rfl⟩:=un l' q' h2
   exact BI.inj l l' q0 NC b h5 h6 h3 h4
  ·obtain ⟨q0,_,rfl⟩:=un l q h1
   rfl
 refine ⟨v,rfl,?_⟩
 split at he
 ·cases he
 rename_i av0 aU
 split at he
 rotate_left
 ·cases he
 rename_i Mj
 simp only [Option.some.injEq,Prod.mk.injEq] at he
 obtain ⟨rfl,rfl⟩:=he
 let D1:Nat->Prop:=if s.flat then λ_=>True else cy S πc ru
 have XT:Gk w' D1 πc 0 s.ins o:=by
  show Gk w' (if s.flat then λ_=>True else cy S πc ru) πc 0 s.ins o
  split
  ·rename_i hf
   unfold MSpec.flat at hf
   simp only [Bool.and_eq_true] at hf
   exact Gk.any s.ins 0 o hf.2 pA
  ·exact pA
 have QY:El w' D1 ρ 0 s.outs r Qz:=by
  show El w' (if s.flat then λ_=>True else cy S πc ru) ρ 0 s.outs r Qz
  split
  ·rename_i hf
   unfold MSpec.flat at hf
   simp only [Bool.and_eq_true] at hf
   exact El.any s.outs 0 r Qz hf.1 vr
  ·exact vr
 obtain ⟨q1,q2,q3,q4⟩:=lu (D:=D1) (X:=X) (π:=π) (H:=st.heap) h.1 FR.size (tks:=Gf 0 s.ins as) (πc:=πc) (λt ht q b hq hb Gu hn=>FR.block b Gu λvq=>by
   rcases vq with ⟨c,r',h1,h2⟩|hg
   rotate_left
   ·obtain ⟨l,hl,q',h1,h2,_⟩:=yp b hg
    exact GI l hl t ht (h.1.apart hq h1 hb h2)
   obtain ⟨t',t1,t2,_,p,t3,t4,_⟩:=Nm c r' b h1 h2
   have:=pQ vo ht t1 (h.1.apart hq t3 hb t4)
   subst this
   exact hn r' (t2▸h1) h2) s.ins 0 x as us o st st1 (by omega) (λ_ h=>h) vo hT XT LU (λ_ _=>rfl)
 have LX: ∀t∈Gf 0 s.ins as,t.2.reads=true->t.1<Ah:=by
  have: ∀(cs:List (Bool×CK)) (k:Nat) (as:List AC),k+cs.length<100000-> ∀t∈Gf k cs as,t.2.reads=true->t.1<Ah:=by
   intro cs
   induction cs with
   |nil=>intro k as _ t ht;cases as<;>cases ht
   |cons p r ih=>
    intro k as hk t ht hr
    simp only [List.length_cons] at hk
    cases as with
    |nil=>cases ht
    |cons a as=>
     simp only [Gf] at ht
     rcases List.mem_append.1 ht with ht|ht
     ·rcases u9 ht with ⟨_,h1⟩|⟨h1,_⟩
      ·rw [hr] at h1;cases h1
      ·rw [h1];exact Yr (by omega)
     ·exact ih (k+1) as (by omega) t ht hr
  exact this s.ins 0 as (by omega)
 let d:=dst.getD 0
 let ks:=Ks s tks d
 let dead:=eM tks++ks++(if s.flat then [] else qY tks)
 let part:=whole tks
 have YW:s.outs.length+(ee s d).length=s.Ml:=by unfold MSpec.Ml ee;cases s.rp<;>rfl
 obtain ⟨LK,YC,IZ⟩:ks.length=s.Ml/\ks.Nodup/\ ∀l∈ks,l<Ah:=by
  have:=vK kO
  rw [YW] at this
  exact this
 have OM:s.outs.length<=s.Ml:=by unfold MSpec.Ml;omega
 have GM: ∀tid,s.rp=some tid->Bn ks s.outs.length=Lp d/\s.Ml=s.outs.length+1:= λtid Pc=>by
  have h1:s.Ml=s.outs.length+1:=by unfold MSpec.Ml;rw [Pc]
  refine ⟨?_,h1⟩
  have h2:ks=eH s tks d++ [Lp d]:=by show eH s tks d++ee s d=_;unfold ee;rw [Pc]
  have h3:(eH s tks d).length=s.outs.length:=by rw [h2] at LK;simp at LK;omega
  rw [Kf (by rw [LK];omega)]
  simp only [h2]
  rw [List.getElem_append_right (by omega)]
  simp [h3]
 have BF:=rS YC IZ
 have YA: ∀j,j<s.Ml->Bn ks j<Ah:= λj hj=>IZ _ (mem_keys.2 ⟨j,by omega,rfl⟩)
 let π':Pi:= λl=>match (List.range s.Ml).find? λj=>decide (Bn ks j=l) with
  |some j=>ρ (Ey j)
  |none=>if l∈dead then none else π l
 have mH: ∀j,j<s.Ml->π' (Bn ks j)=ρ (Ey j):= λj hj=>by
  show (match (List.range s.Ml).find? λi=>decide (Bn ks i=Bn ks j) with|some i=>ρ (Ey i)|none=>_)=_
  cases hf:(List.range s.Ml).find? λi=>decide (Bn ks i=Bn ks j) with
  |none=>
   have:=List.find?_eq_none.1 hf j (List.mem_range.2 hj)
   simp at this
  |some i=>
   have:=List.find?_some hf
   rw [BF i j (of_decide_eq_true this)]
 have kN: ∀j,j<s.Ml->Bn ks j∈dead:= λj hj=>List.mem_append_left _ (List.mem_append_right _ (mem_keys.2 ⟨j,by omega,rfl⟩))
 have pB: ∀l,(¬ ∃j,j<s.Ml/\l=Bn ks j)->π' l=if l∈dead then none else π l:= λl hl=>by
  show (match (List.range s.Ml).find? λi=>decide (Bn ks i=l) with|some i=>ρ (Ey i)|none=>_)=_
  cases hf:(List.range s.Ml).find? λi=>decide (Bn ks i=l) with
  |none=>rfl
  |some i=>
   have h1:=List.find?_some hf
   exact absurd ⟨i,List.mem_range.1 (List.mem_of_find?_eq_some hf),(of_decide_eq_true h1).symm⟩ hl
 have BR: ∀l,l∉dead->π' l=π l:= λl hl=>by
  rw [pB l (λ⟨j,h1,h2⟩=>hl (h2▸kN j h1)),if_neg hl]
 have PJ: ∀b,Nf π' b\/X.Sc b->D1 b:=by
  intro b hb
  show (if s.flat then λ_=>True else cy S πc ru) b
  split
  ·trivial
  rename_i hnf
  rcases hb with ⟨l,q,hl,hf⟩|hb
  ·by_cases hk: ∃j,j<s.Ml/\l=Bn ks j
   ·obtain ⟨j,hj,rfl⟩:=hk
    rw [mH j hj,GO] at hl
    cases hp:ru (Ey j) with
    |none=>rw [hp] at hl;cases hl
    |some q0=>rw [hp] at hl;simp only [Option.map_some,Option.some.injEq] at hl;subst hl;exact .inr (.inr ⟨Ey j,q0,hp,hf⟩)
   ·have e0:π' l=if l∈dead then none else π l:=pB l hk
    rw [e0] at hl
    split at hl
    ·cases hl
    ·rename_i GF
     by_cases ho:Nf πc b
     ·obtain ⟨c,q',hc,hcb⟩:=ho
      obtain ⟨t,t1,t2,t0,p,t3,t4,_⟩:=Nm c q' b hc hcb
      have pC:=h.1.apart hl t3 hf t4
      refine .inr (.inl ⟨c,q',Classical.byContradiction λhn=>?_,hc,hcb⟩)
      exact GF (List.mem_append_left _ (List.mem_append_left _ (Ws.2 ⟨t,ER▸t1,⟨by rw [t2];omega,t0⟩,pC.symm⟩)))
     ·refine .inl ⟨ho, .inl ⟨⟨l,q,hl,hf⟩,λl0 LM r0 LV UL=>?_⟩⟩
      have:=h.1.apart hl LV hf UL
      subst this
      exact GF (List.mem_append_right _ (by rw [if_neg hnf];exact l8.2 (WQ l LM)))
  ·refine .inl ⟨λho=>?_, .inr hb⟩
   have h1:=h.1.sc b hb
   rcases (h.1.own (vu b ho)).2 with h2|h2
   ·omega
   ·exact h1.2 h2
 have YP: ∀l∈pl,l∉dead:= λl hl hd=>by
  rcases List.mem_append.1 hd with hd|hd
  ·rcases List.mem_append.1 hd with hd|hd
   ·obtain ⟨t,ht,_,e⟩:=Ws.1 hd
    exact (yx l hl).1 (List.mem_map.2 ⟨t,ht,e⟩)
   ·exact (yx l hl).2 hd
  ·split at hd
   ·cases hd
   ·obtain ⟨t,ht,_,e⟩:=l8.1 hd
    exact (yx l hl).1 (List.mem_map.2 ⟨t,ht,e⟩)
 have LJ: ∀j,j<s.Ml->Bn ks j∉pl:= λj hj hp=>YP _ hp (kN j hj)
 let bv:Option OB:=s.rp.map λtid=> .var tid ((Ts (Bn ks) 0 s.outs r).drop s.Rl)
 let H1:=(jt s.ins (Ts (Bn ks) 0 s.outs r) pl (st1.Ul dead part)).heap
 have OC: ∀l,l∉pl->Ad H1 l=if l∈dead then none else (Ad st1.heap l).map (OB.map (Ap dead part)):= λl hl=>by
  show Ad (jt _ _ _ _).heap l=_
  rw [wA hl]
  show Ad (Oq (st1.heap.map λp=>(p.1,p.2.map (Ap dead part))) dead) l=_
  rw [Hm,Io]
 let H2:=sD H1 (Lp d) bv
 have VA: ∀tid,s.rp=some tid->Lp d∈dead/\Lp d∉pl:= λtid Pc=>by
  obtain ⟨e1,e2⟩:=GM tid Pc
  rw [<-e1]
  exact ⟨kN _ (by omega),LJ _ (by omega)⟩
 have PQ: ∀l,(∀tid,s.rp=some tid->l≠Lp d)->Ad H2 l=Ad H1 l:= λl hl=>by
  show Ad (sD H1 (Lp d) (s.rp.map _)) l=_
  cases uw:s.rp with
  |none=>rfl
  |some tid=>exact Iu _ _ _ _ (hl tid uw)
 have WH: ∀tid,s.rp=some tid->Ad H2 (Lp d)=some (.var tid ((Ts (Bn ks) 0 s.outs r).drop s.Rl)):= λtid Pc=>by
  show Ad (sD H1 (Lp d) (s.rp.map _)) (Lp d)=_
  rw [Pc]
  exact Jp _ _ _ (by rw [OC _ (VA tid Pc).2,if_pos (VA tid Pc).1])
 have hkv: ∀j,j<s.outs.length-> ∀tid,s.rp=some tid->Bn ks j≠Lp d:= λj hj tid Pc e=>by
  have:=BF j s.outs.length (e.trans (GM tid Pc).1.symm)
  omega
 have WG: ∀l,l∉pl->(∀tid,s.rp=some tid->l≠Lp d)->Ad H2 l=if l∈dead then none else (Ad st1.heap l).map (OB.map (Ap dead part)):= λl hl hv=>by
  rw [PQ l hv,OC l hl]
 let H':=Ph (xl st (eM tks)) (Bn ks) 0 s.outs r H2
 obtain ⟨n1,n2,n3⟩:=iX (D:=D1) (X:=X) (key:=Bn ks) BF (fr:=xl st (eM tks)) (ρ:=ρ) s.outs 0 r Qz H2 QY (λj _ hj=>by
  rw [WG _ (LJ j (by omega)) (hkv j (by omega)),if_pos (kN j (by omega))])
 have gy: ∀l,l∉dead->l∉pl->Ad H' l=(Ad st1.heap l).map (OB.map (Ap dead part)):= λl hl mJ=>by
  show Ad (Ph _ _ _ _ _ _) l=_
  rw [n1 l λj _ hj e=>hl (e▸kN j (by omega)),WG l mJ (λtid Pc e=>hl (e▸(VA tid Pc).1)),if_neg hl]
 have FP: ∀l,l∈dead->(∀j,j<s.Ml->l≠Bn ks j)->Ad H' l=none:= λl hl hj=>by
  show Ad (Ph _ _ _ _ _ _) l=_
  rw [n1 l λj _ h2=>hj j (by omega),WG l (λhp=>YP l hp hl) (λtid Pc e=>hj s.outs.length (by have:=(GM tid Pc).2;omega) (e.trans (GM tid Pc).1.symm)),if_pos hl]
 have newAt: ∀l b',Ad H' l=some b'->(l∈dead\/Ad st.heap l=none)-> ∃j,j<s.Ml/\l=Bn ks j:=by
  intro l b' hb hd
  refine Classical.byContradiction λhn=>?_
  have jM: ∀j,j<s.Ml->l≠Bn ks j:= λj hj e=>hn ⟨j,hj,e⟩
  rcases Classical.em (l∈dead) with QB|QB
  ·rw [FP l QB jM] at hb;cases hb
  ·rcases hd with hd|hd
   ·exact QB hd
   ·rw [gy l QB (λhp=>by obtain ⟨_,_,_,_,_,_,_,h1,_⟩:=yy l hp;rw [hd] at h1;cases h1)] at hb
    have:Ad st1.heap l=none:=by
     by_cases hi: ∃t∈Gf 0 s.ins as,t.2.Og=l
     ·obtain ⟨t,ht,e⟩:=hi
      by_cases Gu:t.1<Ah
      ·rw [<-e,q3 t ht Gu,e];exact hd
      ·obtain ⟨b0,_,h1,_⟩:=q4 t ht Gu
       rw [e,hd] at h1;cases h1
     ·rw [q2 l λt ht e=>hi ⟨t,ht,e.symm⟩];exact hd
    rw [this] at hb;cases hb
 have KY: ∀k,xl st (eM tks)=true-> ∀q,ρ (Ey k)=some q->q.Ar q.g->X.w0.heap.size<=q.g:=by
  intro k ss q hq hg
  rcases (BH.Om _ q _ hq hg).2 with h1|⟨c,p,h1,h2,h3⟩
  ·exact Nat.le_trans h.1.below.size h1
  ·obtain ⟨t,t1,t2,t0,p',t3,t4,_⟩:=Nm c p _ h2 h3
   have hm:t.2.Og∈eM tks:=Ws.2 ⟨t,ER▸t1,⟨by rw [t2];exact h1,t0⟩,rfl⟩
   have:=List.all_eq_true.1 ss _ hm
   split at this
   ·rename_i fr tr e te xs hl
    unfold St.at at hl
    have hb:=(h.1.heap t.2.Og).La hl
    simp only [Ao,Ew,t3] at hb
    rw [hb.1.2.1 _ t4]
    exact hb.1.2.2 this
   ·cases this
 have KW: ∀k q,ρ (Ey k)=some q->k<s.outs.length->q.Ar q.g:=by
  intro k q hq hk
  exact El.ID s.outs 0 r Qz vr k (Nat.zero_le _) ((Nat.zero_add _).symm▸hk) q hq
 have hinv: ∀l,l∉dead->(∃t∈Gf 0 s.ins as,t.2.reads=false/\t.2.Og=l)->eA X D1 w' π st.heap st1.heap l:=by
  rintro l hd ⟨t,ht,h0,rfl⟩
  by_cases Gu:t.1<Ah
  ·exact absurd (List.mem_append_left _ (List.mem_append_left _ (Ws.2 ⟨t,ER▸ht,⟨Gu,h0⟩,rfl⟩))) hd
  ·exact q4 t ht Gu
 have pD: ∀l,(¬ ∃t∈Gf 0 s.ins as,t.2.reads=false/\t.2.Og=l)->Ad st1.heap l=Ad st.heap l:= λl hn=>by
  by_cases hi: ∃t∈Gf 0 s.ins as,t.2.Og=l
  ·obtain ⟨t,ht,rfl⟩:=hi
   have hr:t.2.reads=true:=by
    cases h0:t.2.reads with
    |true=>rfl
    |false=>exact absurd ⟨t,ht,h0,rfl⟩ hn
   exact q3 t ht (LX t ht hr)
  ·exact q2 l λt ht e=>hi ⟨t,ht,e.symm⟩
 have IK: ∀l∈pl,∀p,s.ptr=some p->Ad H' l=some (.var p.1 (Zy s.ins (cells.map (Ap dead part)) (Ts (Bn ks) 0 s.outs r))):= λl hl p hp=>by
  obtain ⟨p',q,h1,h2,_,_,_,h3,_⟩:=yy l hl
  rw [hp] at h1;cases h1
  show Ad (Ph _ _ _ _ _ _) l=_
  rw [n1 l λj _ hj e=>LJ j (by omega) (e▸hl),PQ l (λtid Pc e=>(VA tid Pc).2 (e▸hl))]
  show Ad (jt _ _ _ _).heap l=_
  rw [h2]
  refine zh ?_
  show Ad (Oq (st1.heap.map λp=>(p.1,p.2.map (Ap dead part))) dead) l=_
  rw [Hm,Io,if_neg (YP l hl),pD l (λ⟨t,ht,_,e⟩=>GI l hl t ht e),h3]
  rfl
 have JB: ∀j,j<s.Ml->s.outs.length<=j-> ∃tid,s.rp=some tid/\j=s.outs.length:= λj h1 h2=>by
  cases uw:s.rp with
  |none=>unfold MSpec.Ml at h1;rw [uw] at h1;simp at h1;omega
  |some tid=>exact ⟨tid,rfl,by have:=(GM tid uw).2;omega⟩
 have WJ: ∀tid,s.rp=some tid->Ad H' (Lp d)=some (.var tid ((Ts (Bn ks) 0 s.outs r).drop s.Rl)):= λtid Pc=>by
  show Ad (Ph _ _ _ _ _ _) _=_
  rw [n1 _ λj _ hj e=>hkv j (by omega) tid Pc e.symm,WH tid Pc]
 suffices QP:Af X π' (dB st st1 d s pl tks r) a w'/\Ak X w' π' (dB st st1 d s pl tks r).heap av0 v by
  obtain ⟨m1,m2⟩:=QP
  have o0: ∀(kj:List (Nat×Nat)) (l:Nat),l∈Tm st.heap ks tks kj->fh st.heap l=true/\ ∃k j t,(k,j)∈kj/\t∈tks/\t=(Bm false k,Loc.row l)/\ks[j]?=some l:=by
   intro kj
   induction kj with
   |nil=>intro l hl;cases hl
   |cons p kj ih=>
    intro l hl
    obtain ⟨k,j⟩:=p
    have up:l∈Tm st.heap ks tks kj->fh st.heap l=true/\ ∃k' j' t,(k',j')∈(k,j)::kj/\t∈tks/\t=(Bm false k',Loc.row l)/\ks[j']?=some l:= λhl=>by
     obtain ⟨h1,k',j',t,h2,h3⟩:=ih l hl
     exact ⟨h1,k',j',t,List.mem_cons_of_mem _ h2,h3⟩
    simp only [Tm] at hl
    split at hl
    ·rename_i x0 l1 l2 h1 h2
     split at hl
     ·rename_i hc
      simp only [Bool.and_eq_true] at hc
      rcases List.mem_cons.1 hl with rfl|hl
      ·have:=List.find?_some h1
       have e1:=Nat.eq_of_beq_eq_true this
       have e2:=Nat.eq_of_beq_eq_true hc.1
       dsimp only at e1
       exact ⟨hc.2,k,j,_,List.mem_cons_self,List.mem_of_find?_eq_some h1,by rw [e1],by rw [h2,e2]⟩
      ·exact up hl
     ·exact up hl
    ·exact up hl
  obtain ⟨r1,r2⟩:=vH h m1 (ls:=Tm st.heap ks tks s.keeps) (n:=s.Cj x) (λl hl=>by
   obtain ⟨_,k,j,t,h1,h2,h3,h4⟩:=o0 s.keeps l hl
   have hj:j<ks.length:=(List.getElem?_eq_some_iff.1 h4).1
   have zR:Bn ks j=l:=by
    rw [Kf hj]
    rw [List.getElem?_eq_getElem hj] at h4
    exact Option.some.inj h4
   have mI:=nZ (k,j) h1
   rw [show π' l=ρ (Ey j) by rw [<-zR];exact mH j (by omega),GO]
   have hc:πc (Bm false k)=(π l).map full:=PU k l (by rw [<-h3,<-ER];exact h2)
   dsimp only at mI
   rw [hc] at mI
   cases hp:π l<;>cases hq:ru (Ey j)<;>(rw [hp,hq] at mI;exact mI)) (λl hl=>(o0 s.keeps l hl).1) Mj
  exact ⟨π',r1,r2 av0 v m2⟩
 refine ⟨?_,?_⟩
 ·have hx:=Af.KJ (π':=π') (H':=H') (dead:=dead) (part:=part) (inv:= λl=>(∃t∈Gf 0 s.ins as,t.2.reads=false/\t.2.Og=l)\/l∈pl) (gv:= λb=>Nf πc b\/s.gv g b) h (λb hb=>by
    rcases hb with hb|hb
    ·obtain ⟨t,h1,h0,q,h2,h3,_⟩:=Wj b hb
     exact ⟨_,q, .inl ⟨t,h1,h0,rfl⟩,h2,h3⟩
    ·obtain ⟨l,hl,q,h1,h2,_⟩:=yp b hb
     exact ⟨l,q, .inr hl,h1,h2⟩) FR (λl b0 hd h0=>⟨BR l hd,?_⟩) (λl b' hb hd=>?_) (λl hl=>?_) (λm q hd hp hm VC=>?_)
  ·have:({tmps:=(jt s.ins (Ts (Bn ks) 0 s.outs r) pl (st1.Ul dead part)).tmps,heap:=H'} :St)= {tmps:=st.tmps.map (·.map (Ap dead part)),heap:=H'} :=by
    rw [ib]
    show ({tmps:=st1.tmps.map (·.map (Ap dead part)),heap:=H'} :St)=_
    rw [q1]
   show Af X π' ({tmps:=(jt s.ins (Ts (Bn ks) 0 s.outs r) pl (st1.Ul dead part)).tmps,heap:=H'} :St) a w'
   rw [this]
   exact hx
  ·by_cases FZ:l∈pl
   ·obtain ⟨p,q,h1,h2,h3,h4,h5,h6,h7⟩:=yy l FZ
    rw [h0] at h6;cases h6
    have mj:=IK l FZ p h1
    refine .inr ⟨_,mj,⟨rfl,by rw [gW]⟩,λm=>?_⟩
    unfold dx at nU
    rw [h1] at nU
    obtain ⟨cs,k1,k2,k3⟩:=nU
    rw [<-h7] at k3
    refine ⟨q,h3,h4,cs.toArray,by rw [<-h5];exact k1,?_⟩
    refine He.to (cn (H:=st.heap) BR (λl1 b1 sz n XF AX GK=>?_) s.ins 0 cells fY x us o st st1 (Ts (Bn ks) 0 s.outs r) Qz cs (has▸hT) QM (has▸LU) k3 (n3 π' PJ (λj _ hj=>mH j (by omega)))) (by simpa using k2)
    have hnp:l1∉pl:= λhp=>by
     obtain ⟨_,_,_,_,_,_,_,h8,_⟩:=yy l1 hp
     rw [AX] at h8;cases h8;cases GK
    by_cases hi: ∃t∈Gf 0 s.ins as,t.2.reads=false/\t.2.Og=l1
    ·obtain ⟨b1,b',e1,e2,e3,e4,e5,e6⟩:=hinv l1 XF hi
     rw [AX] at e1;cases e1
     exact ⟨b',by rw [gy l1 XF hnp,e2];simp [e4],by rw [e5.row];exact GK⟩
    ·exact ⟨_,by rw [gy l1 XF hnp,pD l1 hi,AX];rfl,by rw [OB.qp];exact GK⟩
   by_cases hi: ∃t∈Gf 0 s.ins as,t.2.reads=false/\t.2.Og=l
   ·obtain ⟨b1,b',e1,e2,e3,e4,e5,e6⟩:=hinv l hd hi
    rw [h0] at e1;cases e1
    exact .inr ⟨b',by rw [gy l hd FZ,e2];simp [e4],by rw [e3];exact e5,λ_=>e6 π' H' PJ⟩
   ·exact .inl ⟨λhh=>hh.elim hi FZ,by rw [gy l hd FZ,pD l hi,h0];rfl⟩
  ·obtain ⟨j,hj,rfl⟩:=newAt l b' hb hd
   refine ⟨YA j hj,?_,λq b hq=>?_⟩
   ·rw [mH j hj]
    rcases Nat.lt_or_ge j s.outs.length with OI|OI
    ·rcases n2 j (Nat.zero_le _) (by omega) with ⟨e1,_⟩|⟨b2,e1,e2⟩
     ·rw [show Ad H' (Bn ks j)=none from e1] at hb;cases hb
     ·rw [show Ad H' (Bn ks j)=some b2 from e1] at hb;cases hb
      exact e2 X π' H' (λhf q hq=>KY j hf q hq (KW j q hq OI)) PJ
    ·obtain ⟨tid,Pc,XV⟩:=JB j hj OI
     subst XV
     rw [(GM tid Pc).1,WJ tid Pc] at hb;cases hb
     unfold jW at Ya
     rw [Pc] at Ya
     obtain ⟨q,y1,y2,y3,y4,_⟩:=Ya
     rw [GO,y1]
     exact ⟨full q,rfl,y2,_,y3,He.to (He.take s.Rl (n3 π' PJ (λj _ hj=>mH j (by omega)))).2 (by simpa using y4)⟩
   ·rw [mH j hj] at hq
    have Of:=IQ _ q hq
    refine ⟨λhf=>by rw [Of];exact hf,λhf=>?_⟩
    rw [Of] at hf
    obtain ⟨h1,h2⟩:=BH.Om _ q b hq hf
    refine ⟨h1,h2.imp id ?_,λl2 r2 QC yu KU=>?_⟩
    ·rintro ⟨c,p,h3,h4,h5⟩
     obtain ⟨t,t1,t2,t0,p',t3,t4,_⟩:=Nm c p b h4 h5
     exact ⟨t.2.Og,p',List.mem_append_left _ (List.mem_append_left _ (Ws.2 ⟨t,ER▸t1,⟨by rw [t2];exact h3,t0⟩,rfl⟩)),t3,t4⟩
    ·by_cases hk: ∃j,j<s.Ml/\l2=Bn ks j
     ·obtain ⟨j2,US,rfl⟩:=hk
      rw [mH j2 US] at yu
      rw [IQ _ r2 yu] at KU
      have:=BH.inj _ _ r2 q b yu hq KU hf
      unfold Ey at this
      have:j2=j:=by omega
      rw [this]
     ·have e0:π' l2=if l2∈dead then none else π l2:=pB l2 hk
      rw [e0] at yu
      split at yu
      ·cases yu
      ·rename_i GF
       rcases QC with QC|QC
       ·exact absurd QC GF
       ·rw [(h.1.heap l2).emp QC] at yu;cases yu
  ·by_cases hk: ∃j,j<s.Ml/\l=Bn ks j
   ·obtain ⟨j,hj,rfl⟩:=hk
    rw [mH j hj]
    rcases Nat.lt_or_ge j s.outs.length with OI|OI
    ·rcases n2 j (Nat.zero_le _) (by omega) with ⟨_,e1⟩|⟨b2,e1,_⟩
     ·exact e1
     ·rw [show Ad H' (Bn ks j)=some b2 from e1] at hl;cases hl
    ·obtain ⟨tid,Pc,XV⟩:=JB j hj OI
     subst XV
     rw [(GM tid Pc).1,WJ tid Pc] at hl;cases hl
   ·have e0:π' l=if l∈dead then none else π l:=pB l hk
    rw [e0]
    split
    ·rfl
    ·rename_i hd
     by_cases FZ:l∈pl
     ·obtain ⟨p,_,h1,_⟩:=yy l FZ
      rw [IK l FZ p h1] at hl;cases hl
     rw [gy l hd FZ] at hl
     by_cases hi: ∃t∈Gf 0 s.ins as,t.2.reads=false/\t.2.Og=l
     ·obtain ⟨_,b',_,e2,_⟩:=hinv l hd hi
      rw [e2] at hl;cases hl
     ·rw [pD l hi] at hl
      cases h0:Ad st.heap l with
      |none=>exact (h.1.heap l).emp h0
      |some b=>rw [h0] at hl;cases hl
  ·refine FR.block _ (h.1.lt hm).1 λvq=>?_
   rcases vq with ho|hg
   rotate_left
   ·obtain ⟨l,hl,q',h1,h2,_⟩:=yp _ hg
    have pC:=h.1.apart hm h1 (h.1.Ar hm) h2
    obtain ⟨_,_,_,_,_,_,_,h3,_⟩:=yy l hl
    obtain ⟨b,VC,hxb⟩:=VC
    rw [pC,h3] at VC;cases VC
    exact hxb rfl
   obtain ⟨t,t1,t0,p,t3,t4,t5⟩:=Wj _ ho
   have pC:=h.1.apart hm t3 (h.1.Ar hm) t4
   have OP:p=q:=by rw [<-pC,hm] at t3;exact (Option.some.inj t3).symm
   cases JK:t.2 with
   |row l=>
    refine hp ?_
    show m∈whole tks
    unfold whole
    exact List.mem_flatMap.2 ⟨t,ER▸t1,by rw [JK,pC,JK];simp [Loc.Og]⟩
   |sub l i j=>exact t5 l i j JK (by rw [OP])
   |view l=>rw [JK] at t0;cases t0
 ·have YV:=n3 π' PJ (λj _ hj=>mH j (by omega))
  cases uw:s.rp with
  |some tid=>
   unfold jW at Ya
   rw [uw] at Ya
   obtain ⟨q,y1,y2,y3,y4,rfl⟩:=Ya
   unfold HD at aU
   rw [uw] at aU
   simp only [Option.some.injEq] at aU;subst aU
   refine ⟨full q,tid,_,WJ tid uw,?_,rfl⟩
   rw [<-(GM tid uw).1,mH _ (by have:=(GM tid uw).2;omega),GO,y1]
   rfl
  |none=>
  unfold jW at Ya
  rw [uw] at Ya
  obtain ⟨Ya,ZB⟩:=Ya
  unfold HD at aU
  rw [uw] at aU
  simp only at aU
  obtain ⟨g1,g2,g3,g4⟩:=Wg s.Fk _ (Qz.drop s.Rl) ZB (He.take s.Rl YV).2
  unfold TC at aU
  unfold DF at Ya
  split at aU
  ·rename_i hm
   rw [if_pos hm] at Ya
   simp only [Option.some.injEq] at aU;subst aU
   subst Ya
   exact ⟨_,rfl,g3.symm,g4⟩
  ·rename_i hm
   rw [if_neg hm] at Ya
   split at aU
   ·rename_i av1 UO
    simp only [Option.some.injEq] at aU;subst aU
    rcases Ya with Ya|Ya
    ·exact g2 0 _ v (by rw [UO];rfl) (by rw [Ya];rfl)
    ·rw [UO,Ya] at g1;cases g1
   ·simp only [Option.some.injEq] at aU;subst aU;trivial
   ·cases aU
end
end Go.Proofs.Ytjbdmibbbpdnnaa
