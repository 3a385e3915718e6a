/-
  Part 17 of the proof that the statement FnExactLowerBound holds.
-/
import Derived.Test.YtfolipnappekaaaGreatCLowerBound15
namespace Go.Proofs.YtfolipnappekaaaGreat
open Go.RowKit
section
variable {P:Program} {T:Tab} {X:Ctx} {w w':World} {π π':Pi} {H H':List (Nat×OB)}
theorem Ua (k:Nat): ¬Bq true k<Ak:=by unfold Bq Ak;simp
theorem aA {k:Nat} (h:k<100000):Bq false k<Ak:=by unfold Bq Ak;simp;omega
def gC (X:Ctx) (D:Nat->Prop) (w':World) (π:Pi) (H Hn:List (Nat×OB)) (l:Nat):Prop:=
 ∃b0 b',Ad H l=some b0/\Ad Hn l=some b'/\(∀f,OB.map f b0=b0)/\(∀f,OB.map f b'=b')/\b0.ab b'/\ ∀π' H',(∀b,Ok π' b\/X.Sc b->D b)->Au X w' π' H' (π l) b'
theorem NS {io:Bool} {k:Nat} {τ:Ty} {a:AC} {t:Nat×Loc} (h:t∈Kk io k (.Ee τ) a):t.1=Bq false k:=by
 cases a<;>simp [Kk,views] at h<;>first|(obtain ⟨_,⟨_,_⟩,rfl⟩:=h;rfl)|(rw [h])
theorem HO {io:Bool} {k:Nat} {e:Ty} {te:TypeId} {a:AC} {t:Nat×Loc} (h:t∈Kk io k (.part e te) a):t.1=Bq io k:=by cases a<;>simp [Kk] at h<;>rw [h]
theorem NT {io:Bool} {k:Nat} {e:Ty} {te:TypeId} {a:AC} {t:Nat×Loc} (h:t∈Kk io k (.row e te) a):t.1=Bq io k:=by cases a<;>simp [Kk] at h<;>rw [h]
theorem HP {io:Bool} {k:Nat} {e:Ty} {te:TypeId} {a:AC} {t:Nat×Loc} (h:t∈Kk io k (.Dp e te) a):t.1=Bq io k:=by cases a<;>simp [Kk] at h<;>rw [h]
theorem Zu {D:Nat->Prop} {π':Pi} {fr:Bool} {e:Ty} {es:List Value} {y:e.den} (hD: ∀b,Ok π' b\/X.Sc b->D b) (h:Cells w' D e es y):Cells w' (Bd X.w0.heap.size X.Sc π' (fr&&e.flat)) e es y:=by
 cases hf:e.flat with
 |true=>exact Cells.flat e es y hf h
 |false=>exact Cells.Ci (Nat.le_refl _) (λ_ _ _=>rfl) (λb _ hb=>by
   rcases hb with hb|hb|⟨hb,_⟩
   ·exact hD b (.inl hb)
   ·exact hD b (.inr hb)
   ·simp at hb) e es y h
theorem HR {D P:Nat->Prop} {g o:Nat} {cur:Array Value} {tr:Bool} {e:Ty} {xs:List e.den}
  (h: ∀(i:Nat) (x:e.den),xs[i]?=some x-> ∃es:List Value,es.length=e.size/\(∀j u,es[j]?=some u->cur[(o+i)*e.size+j]?=some u)/\Cells w' D e es x) (ht:(tr&&e.flat)=true):Pv w' P g o cur e xs:=by
 simp only [Bool.and_eq_true] at ht
 exact gW ht.2 h
theorem GP {D:Nat->Prop} (h:Hx X w π H) {k:Nat} {c:CK} {ys:c.den} {a:AC} {u:Value} {r:Option Real} {x:c.den} {cur st1:St} (hs:w.heap.size<=w'.heap.size)
  (hU: ∀l i j q b,a= .sub l i j->π l=some q->q.Ba b->b<w.heap.size->(∀r',r=some r'-> ¬r'.Ba b)->w'.heap[b]?=w.heap[b]?)
  {V:List Nat} (ht:Zk w (Ja X π V) r u c x/\Mu w π H true a u r c x) (hr:aR w' D r c ys) (he:Vy cur c ys a=some st1) (bz: ∀t∈Kk true k c a,Ad cur.heap t.2.Po=Ad H t.2.Po):
  st1.tmps=cur.tmps/\(∀m,(∀t∈Kk true k c a,m≠t.2.Po)->Ad st1.heap m=Ad cur.heap m)/\ ∀t∈Kk true k c a,gC X D w' π H st1.heap t.2.Po:=by
 obtain ⟨hc,ht⟩:=ht
 cases c with
 |Ee τ=>cases a<;>simp [Vy] at he;subst he;exact ⟨rfl,λ_ _=>rfl,λt ht=>by simp [Kk] at ht⟩
 |row e te=>
  simp only [Mu] at ht
  cases a<;>simp only [] at ht<;>first|(exact ht.elim)|skip
  ·simp only [Vy,Option.some.injEq] at he;subst he
   exact ⟨rfl,λ_ _=>rfl,λt ht=>by simp [Kk] at ht⟩
  ·rename_i l off len
   obtain ⟨rfl,rfl,rfl,fr,tr,hl⟩:=ht
   have Lx:Ad cur.heap l=some (.arr fr tr e te x):=(bz _ (List.mem_singleton.2 rfl)).trans hl
   simp only [Vy,St.at,Lx] at he
   split at he
   ·rename_i Ey
    obtain ⟨_,h1,_⟩:=Ey
    simp only [Option.some.injEq] at he;subst he
    refine ⟨rfl,λm hm=>Bs _ _ _ _ (hm _ (List.mem_singleton.2 rfl)),λt Ol=>?_⟩
    have Ol:=List.mem_singleton.1 Ol
    subst Ol
    refine ⟨_,_,hl,Cb _ _ _ _ Lx,λ_=>rfl,λ_=>rfl,⟨rfl,h1.symm⟩,λπ' H' hD=>?_⟩
    have hb:=(h.heap l).Lc hl
    change Au X w' π' H' (π l) _
    simp only [Au,Fl] at hb⊢
    cases hp:π l with
    |none=>rw [hp] at hr;exact hr
    |some q=>
     rw [hp] at hr hb
     obtain ⟨k1,cu,ti,k2,k3,k4,k5,k6⟩:=hr
     exact ⟨⟨k1.1,k1.2,λhh=>hb.1.2.2 (by simp only [Bool.and_eq_true] at hh;exact hh.1)⟩,cu,ti,k2,k3,k4,k5,λi y hy=>by
      obtain ⟨es,g1,g2,g3⟩:=k6 i y hy
      exact ⟨es,g1,g2,Zu hD g3⟩,λht=>HR k6 ht⟩
   ·cases he
  ·rename_i l i j
   obtain ⟨⟨_,hf⟩,tid,xs,hl,hx,q,hq,Ox,hre⟩:=ht
   have Lx:Ad cur.heap l=some (.Cz (.slice e) tid xs):=(bz _ (List.mem_singleton.2 rfl)).trans hl
   simp only [Vy,St.at,Lx,hx] at he
   rw [dif_pos trivial] at he
   ·split at he
    ·rename_i h1
     simp only [Option.some.injEq] at he;subst he
     refine ⟨rfl,λm hm=>Bs _ _ _ _ (hm _ (List.mem_singleton.2 rfl)),λt Ol=>?_⟩
     have Ol:=List.mem_singleton.1 Ol
     subst Ol
     refine ⟨_,_,hl,Cb _ _ _ _ Lx,λ_=>rfl,λ_=>rfl,⟨rfl,by simp⟩,λπ' H' _=>?_⟩
     show Im w' (π l) (.slice e) tid _
     rw [hq]
     refine hre w' ys hs (λb Fg hb hn=>hU l i j q b rfl hq hb Fg hn) ?_
     have hv:=hc.1
     rw [<-show List.length ys=List.length x from h1] at hv
     exact Mg.BN hr hf hv
    ·cases he
 |Dp e te=>
  simp only [Mu] at ht
  cases a<;>simp only [] at ht<;>first|(exact ht.elim)|skip
  ·simp only [Vy,Option.some.injEq] at he;subst he
   exact ⟨rfl,λ_ _=>rfl,λt ht=>by simp [Kk] at ht⟩
  ·rename_i l off len
   obtain ⟨rfl,rfl,rfl,hl⟩:=ht
   have Lx:Ad cur.heap l=some (.Cz e te x):=(bz _ (List.mem_singleton.2 rfl)).trans hl
   simp only [Vy,St.at,Lx] at he
   split at he
   ·rename_i Ey
    obtain ⟨_,h1,_⟩:=Ey
    simp only [Option.some.injEq] at he;subst he
    refine ⟨rfl,λm hm=>Bs _ _ _ _ (hm _ (List.mem_singleton.2 rfl)),λt Ol=>?_⟩
    have Ol:=List.mem_singleton.1 Ol
    subst Ol
    refine ⟨_,_,hl,Cb _ _ _ _ Lx,λ_=>rfl,λ_=>rfl,⟨rfl,h1.symm⟩,λπ' H' _=>?_⟩
    show Im w' (π l) e te _
    cases hp:π l with
    |none=>rw [hp] at hr;exact hr
    |some q=>rw [hp] at hr;exact hr
   ·cases he
  ·rename_i l i j
   obtain ⟨_,tid,xs,hl,hx,q,hq,Ox,hre⟩:=ht
   have Lx:Ad cur.heap l=some (.Cz (.slice e) tid xs):=(bz _ (List.mem_singleton.2 rfl)).trans hl
   simp only [Vy,St.at,Lx,hx] at he
   rw [dif_pos trivial] at he
   ·split at he
    ·rename_i h1
     simp only [Option.some.injEq] at he;subst he
     refine ⟨rfl,λm hm=>Bs _ _ _ _ (hm _ (List.mem_singleton.2 rfl)),λt Ol=>?_⟩
     have Ol:=List.mem_singleton.1 Ol
     subst Ol
     refine ⟨_,_,hl,Cb _ _ _ _ Lx,λ_=>rfl,λ_=>rfl,⟨rfl,by simp⟩,λπ' H' _=>?_⟩
     show Im w' (π l) (.slice e) tid _
     rw [hq]
     refine hre w' ys hs (λb Fg hb hn=>hU l i j q b rfl hq hb Fg hn) ?_
     have hv:=hc.1
     rw [<-show List.length ys=List.length x from h1] at hv
     exact Im.BN (te:=te) hr hv
    ·cases he
 |part e te=>cases a<;>simp [Vy] at he<;>first|(simp only [Mu] at ht;exact ht.2.elim)
 |Ah e te kp=>exact absurd ht.1 (by simp)
theorem GQ {D:Nat->Prop} (h:Hx X w π H) {k:Nat} {e:Ty} {te:TypeId} {ys:List e.den} {a:AC} {u:Value} {r:Option Real} {x:(CK.part e te).den} {cur st1:St}
  {V:List Nat} (ht:Zk w (Ja X π V) r u (.part e te) x/\Mu w π H true a u r (.part e te) x) (hr:aR w' D r (.row e te) ys) (he:AI cur e ys a=some st1) (bz: ∀t∈Kk true k (.part e te) a,Ad cur.heap t.2.Po=Ad H t.2.Po):
  st1.tmps=cur.tmps/\(∀m,(∀t∈Kk true k (.part e te) a,m≠t.2.Po)->Ad st1.heap m=Ad cur.heap m)/\ ∀t∈Kk true k (.part e te) a,gC X D w' π H st1.heap t.2.Po:=by
 obtain ⟨hc,hf,ht⟩:=ht
 cases a<;>simp only [] at ht<;>first|(exact ht.elim)|skip
 rename_i l off len
 obtain ⟨rfl,_,fr,tr,hl⟩:=ht
 have Lx:Ad cur.heap l=some (.arr fr tr e te x.1):=(bz _ (List.mem_singleton.2 rfl)).trans hl
 simp only [AI,St.at,Lx] at he
 split at he
 ·rename_i Ey
  obtain ⟨_,h1⟩:=Ey
  simp only [Option.some.injEq] at he;subst he
  refine ⟨rfl,λm hm=>Bs _ _ _ _ (hm _ (List.mem_singleton.2 rfl)),λt Ol=>?_⟩
  have Ol:=List.mem_singleton.1 Ol
  subst Ol
  refine ⟨_,_,hl,Cb _ _ _ _ Lx,λ_=>rfl,λ_=>rfl,⟨rfl,h1.symm⟩,λπ' H' _=>?_⟩
  have hb:=(h.heap l).Lc hl
  change Au X w' π' H' (π l) _
  simp only [Au,Fl] at hb⊢
  cases hp:π l with
  |none=>rw [hp] at hr;exact hr
  |some q=>
   rw [hp] at hr hb
   obtain ⟨k1,cu,ti,k2,k3,k4,k5,k6⟩:=hr
   exact ⟨⟨k1.1,k1.2,hb.1.2.2⟩,cu,ti,k2,k3,k4,k5,λi y hy=>by
    obtain ⟨es,g1,g2,g3⟩:=k6 i y hy
    exact ⟨es,g1,g2,Cells.flat e es y hf g3⟩,λ_=>gW hf k6⟩
 ·cases he
def lW (X:Ctx) (D:Nat->Prop) (w':World) (π:Pi) (H:List (Nat×OB)) (tk:List (Nat×Loc)) (cur st1:St):Prop:=
 st1.tmps=cur.tmps/\(∀m,(∀t∈tk,m≠t.2.Po)->Ad st1.heap m=Ad cur.heap m)/\(∀t∈tk,t.1<Ak->Ad st1.heap t.2.Po=Ad cur.heap t.2.Po)/\(∀t∈tk,¬t.1<Ak->gC X D w' π H st1.heap t.2.Po)
theorem o1 {D:Nat->Prop} (h:Hx X w π H) {V:List Nat} {πc:Pi} {tks:List (Nat×Loc)} (hs:w.heap.size<=w'.heap.size)
  (hU: ∀t∈tks,∀q b,π t.2.Po=some q->q.Ba b->b<w.heap.size->(∀r',πc t.1=some r'-> ¬r'.Ba b)->w'.heap[b]?=w.heap[b]?):
  ∀(cs:List (Bool×CK)) (k:Nat) (x:Ins.den cs) (as:List AC) (us:List Value) (o:IOs.den cs) (cur st1:St),k+cs.length<100000->(∀t∈Gu k cs as,t∈tks)->((Gu k cs as).map λt=>t.2.Po).Nodup->
   ll X w π V H πc k cs x as us->Hb w' D πc k cs o->Dz cs o as cur=some st1->(∀t∈Gu k cs as,Ad cur.heap t.2.Po=Ad H t.2.Po)->
   lW X D w' π H (Gu k cs as) cur st1
 | [],k,x,as,us,o,cur,st1,_,_,_,_,_,he,_=>by
  simp only [Dz,Option.some.injEq] at he;subst he
  have e0:Gu k [] as= []:=by cases as<;>rfl
  exact ⟨rfl,λ_ _=>rfl,by rw [e0];simp,by rw [e0];simp⟩
 |p::r,k,x,[],us,o,cur,st1,_,_,_,ht,_,_,_=>ht.elim
 |p::r,k,x,a::as,[],o,cur,st1,_,_,_,ht,_,_,_=>ht.elim
 |(io,c)::r,k,x,a::as,u::us,o,cur,st1,hk,Jy,OV,ht,ho,he,bz=>by
  simp only [List.length_cons] at hk
  simp only [Gu] at Jy OV bz⊢
  rw [List.map_append] at OV
  obtain ⟨n1,n2,n3⟩:=List.nodup_append.1 OV
  have apart: ∀t∈Kk io k c a,∀t'∈Gu (k+1) r as,t'.2.Po≠t.2.Po:= λt h1 t' h2 e=>n3 _ (List.mem_map.2 ⟨t,h1,rfl⟩) _ (List.mem_map.2 ⟨t',h2,rfl⟩) e.symm
  have rest: ∀(So:St) (o':IOs.den r),Hb w' D πc (k+1) r o'->Dz r o' as So=some st1->So.tmps=cur.tmps->(∀m,(∀t∈Kk io k c a,m≠t.2.Po)->Ad So.heap m=Ad cur.heap m)->
    (∀t∈Kk io k c a,t.1<Ak->Ad So.heap t.2.Po=Ad cur.heap t.2.Po)->(∀t∈Kk io k c a,¬t.1<Ak->gC X D w' π H So.heap t.2.Po)->
    lW X D w' π H (Kk io k c a++Gu (k+1) r as) cur st1:=by
   intro So o' h1 h2 h3 h4 h5 h6
   obtain ⟨g1,g2,g3,g4⟩:=o1 h hs hU r (k+1) x.2 as us o' So st1 (by omega) (λt ht=>Jy t (List.mem_append_right _ ht)) n2 ht.2 h1 h2 (λt Ol=>by
    rw [h4 _ λt0 ht0=>apart t0 ht0 t Ol];exact bz t (List.mem_append_right _ Ol))
   have hd: ∀t∈Kk io k c a,Ad st1.heap t.2.Po=Ad So.heap t.2.Po:= λt Ol=>g2 _ λt' rv=>(apart t Ol t' rv).symm
   refine ⟨g1.trans h3,λm hm=>?_,λt Ol Fg=>?_,λt Ol Fg=>?_⟩
   ·rw [g2 m λt ht=>hm t (List.mem_append_right _ ht),h4 m λt ht=>hm t (List.mem_append_left _ ht)]
   ·rcases List.mem_append.1 Ol with Ol|Ol
    ·rw [hd t Ol,h5 t Ol Fg]
    ·rw [g3 t Ol Fg,h4 _ λt0 ht0=>apart t0 ht0 t Ol]
   ·rcases List.mem_append.1 Ol with Ol|Ol
    ·obtain ⟨b0,b',q1,q2,q3⟩:=h6 t Ol Fg
     exact ⟨b0,b',q1,(hd t Ol).trans q2,q3⟩
    ·exact g4 t Ol Fg
  have same: ∀o',Hb w' D πc (k+1) r o'->Dz r o' as cur=some st1->(∀t∈Kk io k c a,t.1<Ak)->lW X D w' π H (Kk io k c a++Gu (k+1) r as) cur st1:= λo' h1 h2 h3=>rest cur o' h1 h2 rfl (λ_ _=>rfl) (λ_ _ _=>rfl) (λt h4 h5=>absurd (h3 t h4) h5)
  cases io with
  |false=>
   have h3: ∀t∈Kk false k c a,t.1<Ak:= λt h4=>by rcases xZ h4 with ⟨h5,_⟩|⟨h5,_⟩<;>(rw [h5];exact aA (by omega))
   cases c with
   |Ee τ=>exact same o ho (by simpa only [Dz] using he) h3
   |row e te=>exact same o ho (by simpa only [Dz] using he) h3
   |Dp e te=>exact same o ho (by simpa only [Dz] using he) h3
   |part e te=>exact same o ho (by simpa only [Dz] using he) h3
   |Ah e te kp=>exact same o ho (by simpa only [Dz] using he) h3
  |true=>
   have row: ∀(ys:c.den) (o':IOs.den r),(∀t∈Kk true k c a,t.1=Bq true k)->aR w' D (πc (Bq true k)) c ys->Hb w' D πc (k+1) r o'->(∃So,Vy cur c ys a=some So/\Dz r o' as So=some st1)->lW X D w' π H (Kk true k c a++Gu (k+1) r as) cur st1:=by
    intro ys o' h0 h1 h2 h3
    obtain ⟨So,hp,h3⟩:=h3
    ·obtain ⟨q1,q2,q3⟩:=GP (k:=k) h hs (λl i j q b ea hq hb Fg hn=>by
      cases c with
      |Ee τ=>exact absurd (ht.1.2:πc _=none) (by subst ea;simp [Vy] at hp)
      |row e te=>subst ea;exact hU (Bq true k, .sub l i j) (Jy _ (List.mem_append_left _ (List.mem_singleton.2 rfl))) q b hq hb Fg hn
      |Dp e te=>subst ea;exact hU (Bq true k, .sub l i j) (Jy _ (List.mem_append_left _ (List.mem_singleton.2 rfl))) q b hq hb Fg hn
      |Ah e te kp=>exact absurd ht.1.2.1 (by simp)
      |part e te=>exact absurd ht.1.2.2 (by subst ea;exact λh=>h)) ht.1 h1 hp (λt Ol=>bz t (List.mem_append_left _ Ol))
     exact rest So o' h2 h3 q1 q2 (λt h4 h5=>absurd h5 (by rw [h0 t h4];exact Ua k)) (λt h4 _=>q3 t h4)
   cases c with
   |Ee τ=>exact same o ho (by simpa only [Dz] using he) (λt h4=>by rw [NS h4];exact aA (by omega))
   |Ah e te kp=>exact absurd ht.1.2.1 (by simp)
   |row e te=>
    simp only [Dz] at he
    split at he
    ·rename_i So hp;exact row o.1 o.2 (λt ht=>NT ht) ho.1 ho.2 ⟨So,hp,he⟩
    ·cases he
   |Dp e te=>
    simp only [Dz] at he
    split at he
    ·rename_i So hp;exact row o.1 o.2 (λt ht=>HP ht) ho.1 ho.2 ⟨So,hp,he⟩
    ·cases he
   |part e te=>
    simp only [Dz] at he
    split at he
    ·rename_i So hp
     obtain ⟨q1,q2,q3⟩:=GQ (k:=k) h ht.1 ho.1 hp (λt Ol=>bz t (List.mem_append_left _ Ol))
     exact rest So o.2 ho.2 he q1 q2 (λt h4 h5=>absurd h5 (by rw [HO h4];exact Ua k)) (λt h4 _=>q3 t h4)
    ·cases he
theorem zJ {fr:Bool} {c:CK} {x:c.den} {u:Value} {r:Option Real} {D:Nat->Prop} (h:Zk w' D r u c x):
  (pO fr c x=none/\r=none)\/ ∃b',pO fr c x=some b'/\ ∀(X:Ctx) π' H',(fr=true-> ∀q,r=some q->X.w0.heap.size<=q.g)->(∀b,Ok π' b\/X.Sc b->D b)->Au X w' π' H' r b':=by
 cases c with
 |Ee τ=>exact .inl ⟨rfl,h.1⟩
 |row e te=>
  refine .inr ⟨_,rfl,λX π' H' zd hD=>?_⟩
  obtain ⟨_,h⟩:=h
  simp only [aR] at h
  simp only [Au,Fl]
  cases r with
  |none=>exact h
  |some q=>
   obtain ⟨k1,cu,ti,k2,k3,k4,k5,k6⟩:=h
   exact ⟨⟨k1.1,k1.2,λh1=>zd (by simp only [Bool.and_eq_true] at h1;exact h1.1) q rfl⟩,cu,ti,k2,k3,k4,k5,λi y hy=>by
    obtain ⟨es,g1,g2,g3⟩:=k6 i y hy
    exact ⟨es,g1,g2,Zu hD g3⟩,λh=>by cases h⟩
 |Dp e te=>exact .inr ⟨_,rfl,λX π' H' _ _=>h.2⟩
 |Ah e te kp=>exact .inr ⟨_,rfl,λX π' H' _ hD=>⟨Sz.Ek h.2 λb hb=>hD b (hb.imp id λh=>h.elim id λh=>by cases h.1),trivial⟩⟩
 |part e te=>
  refine .inr ⟨_,rfl,λX π' H' zd hD=>?_⟩
  obtain ⟨_,hf,h⟩:=h
  simp only [Au,Fl]
  cases r with
  |none=>exact h
  |some q=>
   obtain ⟨k1,cu,ti,k2,k3,k4,k5,k6⟩:=h
   exact ⟨⟨k1.1,k1.2,λh1=>zd (by simp only [Bool.and_eq_true] at h1;exact h1.1) q rfl⟩,cu,ti,k2,k3,k4,k5,λi y hy=>by
    obtain ⟨es,g1,g2,g3⟩:=k6 i y hy
    exact ⟨es,g1,g2,Zu hD g3⟩,λh=>by cases h⟩
theorem kZ {D:Nat->Prop} {key:Nat->Nat} (KC: ∀i j,key i=key j->i=j) {fr:Bool} {ρ:Pi} : ∀(cs:List CK) (k:Nat) (x:CKs.den cs) (us:List Value) (H:List (Nat×OB)),Eo w' D ρ k cs x us->
  (∀j,k<=j->j<k+cs.length->Ad H (key j)=none)->
  (∀l,(∀j,k<=j->j<k+cs.length->l≠key j)->Ad (Qn fr key k cs x H) l=Ad H l)/\
  (∀j,k<=j->j<k+cs.length->(Ad (Qn fr key k cs x H) (key j)=none/\ρ (Fp j)=none)\/
   ∃b',Ad (Qn fr key k cs x H) (key j)=some b'/\ ∀(X:Ctx) π' H',(fr=true-> ∀q,ρ (Fp j)=some q->X.w0.heap.size<=q.g)->(∀b,Ok π' b\/X.Sc b->D b)->Au X w' π' H' (ρ (Fp j)) b')/\
  (∀π',(∀b,Ok π' b\/X.Sc b->D b)->(∀j,k<=j->j<k+cs.length->π' (key j)=ρ (Fp j))->Hy X w' π' (Qn fr key k cs x H) (Vj key k cs x) us)
 | [],k,x,[],H,_,_=>⟨λ_ _=>rfl,λj h1 h2=>by simp at h2;omega,λ_ _ _=>trivial⟩
 | [],_,_,_::_,_,h,_=>h.elim
 |_::_,_,_,[],_,h,_=>h.elim
 |c::r,k,x,u::us,H,h,hn=>by
  simp only [List.length_cons] at hn⊢
  simp only [Qn,Vj]
  have ta:=hn k (Nat.le_refl _) (by omega)
  have YX: ∀l,l≠key k->Ad (wL H (key k) (pO fr c x.1)) l=Ad H l:=by
   intro l hl
   cases pO fr c x.1 with
   |some b=>exact Jo _ _ _ _ hl
   |none=>rfl
  have ZX:Ad (wL H (key k) (pO fr c x.1)) (key k)=pO fr c x.1:=by
   cases pO fr c x.1 with
   |some b=>exact Km _ _ _ ta
   |none=>exact ta
  generalize (wL H (key k) (pO fr c x.1))=H1 at YX ZX⊢
  obtain ⟨g1,g2,g3⟩:=kZ KC (fr:=fr) r (k+1) x.2 us H1 h.2 (λj h1 h2=>by
   rw [YX _ λe=>by have:=KC _ _ e;omega];exact hn j (by omega) (by omega))
  have OP:Ad (Qn fr key (k+1) r x.2 H1) (key k)=pO fr c x.1:=by
   rw [g1 _ λj h1 h2 e=>by have:=KC _ _ e;omega];exact ZX
  refine ⟨λl hl=>?_,λj h1 h2=>?_,λπ' hd TL=>⟨?_,?_⟩⟩
  ·rw [g1 l λj h1 h2=>hl j (by omega) (by omega)]
   exact YX l (hl k (Nat.le_refl _) (by omega))
  ·rcases Nat.eq_or_lt_of_le h1 with e|h1
   ·subst e
    rw [OP]
    exact zJ h.1
   ·exact g2 j h1 (by omega)
  ·have h1:=h.1
   have ZI:=TL k (Nat.le_refl _) (by omega)
   cases c with
   |Ee τ=>
    obtain ⟨bZ,c1,c2⟩:=h1.2
    exact ⟨bZ,by have:=Zu (fr:=true) hd c1;simpa using this,c2⟩
   |row e te=>exact ⟨_,e.size,List.length x.1,OP,rfl,by simp,by rw [ZI];exact h1.1⟩
   |Dp e te=>exact ⟨_,e.size,List.length x.1,OP,rfl,by simp,by rw [ZI];exact h1.1⟩
   |Ah e te kp=>exact ⟨_,1,List.length x.1,OP,rfl,by simp,by rw [ZI];exact h1.1⟩
   |part e te=>trivial
  ·exact g3 π' hd λj h1 h2=>TL j (by omega) (by omega)
theorem zy {ks:List Nat} {n:Nat} (h:tB ks n=true):ks.length=n/\ks.Nodup/\ ∀l∈ks,l<Ak:=by
 unfold tB at h
 simp only [Bool.and_eq_true] at h
 refine ⟨Nat.eq_of_beq_eq_true h.1,Qm h.2.1,λl hl=>?_⟩
 have:=List.all_eq_true.1 h.2.2 l hl
 simpa using this
theorem Ld {ks:List Nat} {j:Nat} (h:j<ks.length):Bt ks j=ks[j]:=by
 unfold Bt
 rw [List.getElem?_eq_getElem h]
theorem vT {ks:List Nat} (hn:ks.Nodup) (hl: ∀l∈ks,l<Ak): ∀i j,Bt ks i=Bt ks j->i=j:=by
 intro i j h
 by_cases hi:i<ks.length
 ·by_cases hj:j<ks.length
  ·rw [Ld hi,Ld hj] at h
   rcases Nat.lt_trichotomy i j with Fg|he|Fg
   ·exact absurd h (List.pairwise_iff_getElem.1 hn i j hi hj Fg)
   ·exact he
   ·exact absurd h.symm (List.pairwise_iff_getElem.1 hn j i hj hi Fg)
  ·have h1:=hl _ (List.getElem_mem hi)
   rw [Ld hi] at h
   unfold Bt at h
   rw [List.getElem?_eq_none (by omega)] at h
   simp only at h
   omega
 ·by_cases hj:j<ks.length
  ·have h1:=hl _ (List.getElem_mem hj)
   rw [Ld hj] at h
   unfold Bt at h
   rw [List.getElem?_eq_none (by omega)] at h
   simp only at h
   omega
  ·unfold Bt at h
   rw [List.getElem?_eq_none (by omega),List.getElem?_eq_none (by omega)] at h
   simp only at h
   omega
theorem Ii: ∀(H:List (Nat×OB)) (dead:List Nat) (l:Nat),Ad (Pz H dead) l=if l∈dead then none else Ad H l
 | [],dead,l=>by simp [Pz,Ad]
 |(k,b)::r,dead,l=>by
  simp only [Pz]
  have ih:=Ii r dead l
  by_cases hk:k∈dead
  ·rw [if_pos (by simpa using hk),ih]
   split
   ·rfl
   ·rename_i hl
    simp only [Ad]
    rw [if_neg (λ(e:k=l)=>hl (e▸hk))]
  ·rw [if_neg (by simpa using hk)]
   simp only [Ad]
   split
   ·rename_i e;subst e;rw [if_neg hk]
   ·exact ih
theorem mem_keys {ks:List Nat} {l:Nat} :l∈ks↔ ∃k,k<ks.length/\l=Bt ks k:=
 ⟨λh=>by obtain ⟨k,hk,e⟩:=List.getElem_of_mem h;exact ⟨k,hk,by rw [Ld hk,e]⟩,λ⟨k,hk,e⟩=>by rw [e,Ld hk];exact List.getElem_mem hk⟩
theorem Yu {tks:List (Nat×Loc)} {l:Nat} :l∈gN tks↔ ∃t∈tks,(t.1<Ak/\t.2.reads=false)/\t.2.Po=l:=by
 unfold gN
 simp only [List.mem_map,List.mem_filter,Bool.and_eq_true,Nat.blt_eq,Bool.not_eq_true']
 exact ⟨λ⟨t,⟨h1,h2⟩,h3⟩=>⟨t,h1,h2,h3⟩,λ⟨t,h1,h2,h3⟩=>⟨t,⟨h1,h2⟩,h3⟩⟩
theorem tC {tks:List (Nat×Loc)} (h:(tks.map λt=>t.2.Po).Nodup) {t t':Nat×Loc} (ht:t∈tks) (rv:t'∈tks) (he:t.2.Po=t'.2.Po):t=t':=by
 induction tks with
 |nil=>cases ht
 |cons a r ih=>
  simp only [List.map_cons] at h
  obtain ⟨h1,h2⟩:=List.nodup_cons.1 h
  rcases List.mem_cons.1 ht with rfl|ht<;>rcases List.mem_cons.1 rv with rfl|rv
  ·rfl
  ·exact (h1 (List.mem_map.2 ⟨t',rv,he.symm⟩)).elim
  ·exact (h1 (he▸List.mem_map.2 ⟨t,‹t∈r›,rfl⟩)).elim
  ·exact ih h2 ht rv
theorem Eo.full {D:Nat->Prop} {ρ:Pi} : ∀(cs:List CK) (k:Nat) (x:CKs.den cs) (us:List Value),Eo w D ρ k cs x us->Eo w D (λl=>(ρ l).map full) k cs x us
 | [],_,_,[],h=>h
 | [],_,_,_::_,h=>h.elim
 |_::_,_,_,[],h=>h.elim
 |c::r,k,x,u::us,h=>⟨by
   have h1:=h.1
   show Zk w D ((ρ (Fp k)).map _) u c x.1
   cases c with
   |Ee τ=>rw [h1.1];exact ⟨rfl,h1.2⟩
   |row e te=>cases hp:ρ (Fp k)<;>(rw [hp] at h1;exact h1)
   |Dp e te=>cases hp:ρ (Fp k)<;>(rw [hp] at h1;exact h1)
   |Ah e te kp=>cases hp:ρ (Fp k)<;>(rw [hp] at h1;exact h1)
   |part e te=>cases hp:ρ (Fp k)<;>(rw [hp] at h1;exact h1),Eo.full r (k+1) x.2 us h.2⟩
theorem Eo.RY {D:Nat->Prop} {ρ:Pi} : ∀(cs:List CK) (k0:Nat) (x:CKs.den cs) (us:List Value),Eo w D ρ k0 cs x us-> ∀j,k0<=j->j<k0+cs.length-> ∀q,ρ (Fp j)=some q->q.Ba q.g
 | [],k0,_,_,_,j,h1,h2,_,_=>by simp at h2;omega
 |_::_,_,_,[],h,_,_,_,_,_=>h.elim
 |c::r,k0,x,u::us,ho,j,h1,h2,q,hq=>by
  rcases Nat.eq_or_lt_of_le h1 with e|h1
  ·subst e
   have:=ho.1
   cases c with
   |Ee τ=>rw [hq] at this;cases this.1
   |row e te=>rw [hq] at this;exact this.2.1.1
   |Dp e te=>rw [hq] at this;exact this.2.1
   |part e te=>rw [hq] at this;exact this.2.2.1.1
   |Ah e te kp=>rw [hq] at this;exact this.2.1
  ·exact Eo.RY r (k0+1) x.2 us ho.2 j h1 (by simp at h2;omega) q hq
theorem Mg.any {D D':Nat->Prop} {r:Option Real} {e:Ty} {xs:List e.den} (hf:e.flat=true) (h:Mg w D r e xs):Mg w D' r e xs:=by
 cases r with
 |none=>exact h
 |some r=>
  obtain ⟨k1,cu,ti,k2,k3,k4,k5,k6⟩:=h
  exact ⟨k1,cu,ti,k2,k3,k4,k5,λi y hy=>by
   obtain ⟨es,g1,g2,g3⟩:=k6 i y hy
   exact ⟨es,g1,g2,Cells.flat e es y hf g3⟩⟩
theorem Eo.any {D D':Nat->Prop} {ρ:Pi} : ∀(cs:List CK) (k:Nat) (x:CKs.den cs) (us:List Value),cs.all (·.flat)=true->Eo w D ρ k cs x us->Eo w D' ρ k cs x us
 | [],_,_,[],_,h=>h
 | [],_,_,_::_,_,h=>h.elim
 |_::_,_,_,[],_,h=>h.elim
 |c::r,k,x,u::us,hf,h=>by
  simp only [List.all_cons,Bool.and_eq_true] at hf
  refine ⟨?_,Eo.any r (k+1) x.2 us hf.2 h.2⟩
  have h1:=h.1
  cases c with
  |Ee τ=>exact ⟨h1.1,Bb.flat hf.1 h1.2⟩
  |row e te=>exact ⟨h1.1,Mg.any hf.1 h1.2⟩
  |Dp e te=>exact h1
  |part e te=>exact ⟨h1.1,h1.2.1,Mg.any hf.1 h1.2.2⟩
  |Ah e te kp=>exact absurd hf.1 (by simp [CK.flat])
theorem Hb.any {D D':Nat->Prop} {π:Pi} : ∀(cs:List (Bool×CK)) (k:Nat) (x:IOs.den cs),(cs.all λp=>!p.1||p.2.flat)=true->Hb w D π k cs x->Hb w D' π k cs x
 | [],_,_,_,h=>h
 |(false,_)::r,k,x,hf,h=>Hb.any r (k+1) x (by simp only [List.all_cons,Bool.and_eq_true] at hf;exact hf.2) h
 |(true, .Ee _)::r,k,x,hf,h=>Hb.any r (k+1) x (by simp only [List.all_cons,Bool.and_eq_true] at hf;exact hf.2) h
 |(true, .Ah _ _ _)::r,k,x,hf,h=>Hb.any r (k+1) x (by simp only [List.all_cons,Bool.and_eq_true] at hf;exact hf.2) h
 |(true, .row e te)::r,k,x,hf,h=>by
  simp only [List.all_cons,Bool.and_eq_true,Bool.not_true,Bool.false_or] at hf
  exact ⟨Mg.any hf.1 h.1,Hb.any r (k+1) x.2 hf.2 h.2⟩
 |(true, .Dp e te)::r,k,x,hf,h=>by
  simp only [List.all_cons,Bool.and_eq_true,Bool.not_true,Bool.false_or] at hf
  exact ⟨h.1,Hb.any r (k+1) x.2 hf.2 h.2⟩
 |(true, .part e te)::r,k,x,hf,h=>by
  simp only [List.all_cons,Bool.and_eq_true,Bool.not_true,Bool.false_or] at hf
  exact ⟨Mg.any hf.1 h.1,Hb.any r (k+1) x.2 hf.2 h.2⟩
theorem nK {tks:List (Nat×Loc)} {l:Nat} :l∈uQ tks↔ ∃t∈tks,t.2.reads=true/\t.2.Po=l:=by
 unfold uQ
 simp only [List.mem_map,List.mem_filter]
 exact ⟨λ⟨t,⟨h1,h2⟩,h3⟩=>⟨t,h1,h2,h3⟩,λ⟨t,h1,h2,h3⟩=>⟨t,⟨h1,h2⟩,h3⟩⟩
theorem Aj.iC {st:St} {a:Act} (h:Aj X π st a w) {f:AC->AC} (hu:f .undef= .undef) {gv:Nat->Prop} (EX: ∀b,gv b->Ok π b) (hb:Ga w.heap.size gv w w')
  (Yo: ∀b,b<w.heap.size->Ok π' b->Ok π b)
  (Jy: ∀l r b,π' l=some r->r.Ba b->r.cl b) (VW: ∀l r b,π' l=some r->r.cl b->(X.w0.heap.size<=b\/X.gv b)/\b<w'.heap.size)
  (Afp: ∀l l' r r' b,π' l=some r->π' l'=some r'->r.cl b->r'.cl b->l=l')
  (Sp: ∀l,Ak<=l->Ad H' l≠none->Uo (X.bF l) (π' l))
  (hac:(∀fr τ cs x,Cells w (Bd X.w0.heap.size X.Sc π fr) τ cs x->Cells w' (Bd X.w0.heap.size X.Sc π' fr) τ cs x)-> ∀c v,Dq X w π st.heap c v->Dq X w' π' H' (f c) v)
  (PT:Move X w w' π π' st.heap H' f-> ∀l b,Ad H' l=some b->Au X w' π' H' (π' l) b)
  (DI: ∀l,Ad H' l=none->π' l=none):
  Aj X π' {tmps:=st.tmps.map (·.map f),heap:=H'} a w':=by
 have hc: ∀fr τ cs x,Cells w (Bd X.w0.heap.size X.Sc π fr) τ cs x->Cells w' (Bd X.w0.heap.size X.Sc π' fr) τ cs x:= λfr τ cs x hh=>
  Cells.Ci hb.size (λk hk hn=>hb.block k hk λhg=>hn (.inl (EX k hg))) (λk Fg hA=>hA.imp (Yo k Fg) id) τ cs x hh
 have m:Move X w w' π π' st.heap H' f:=⟨hac hc,hc⟩
 refine ⟨⟨⟨hb.os.trans h.1.below.os,hb.tape.trans h.1.below.tape,hb.output.trans h.1.below.output,Nat.le_trans h.1.below.size hb.size,λk hk hn=>?_⟩,h.1.sc,Jy,VW,Afp,Sp,λl=>?_⟩,m.AM hu h.2⟩
 ·refine (hb.block k (Nat.lt_of_lt_of_le hk h.1.below.size) λhg=>?_).trans (h.1.below.block k hk hn)
  rcases (h.1.own (EX k hg)).2 with h1|h1
  ·omega
  ·exact hn h1
 ·cases hh:Ad H' l with
  |none=>exact Cr.Nc (DI l hh) hh
  |some b=>exact Cr.Gs (PT m l b hh) hh
def aS:Option Real->Option Real->Prop
 |none,none=>True
 |some r,some r'=>r.g=r'.g/\r.o=r'.o/\r.cap=r'.cap
 |_,_=>False
theorem aS.rfl' (r:Option Real):aS r r:=by cases r<;>simp [aS]
theorem aS.some {r:Real} {r':Option Real} (h:aS (some r) r'): ∃q,r'=some q/\r.g=q.g/\r.o=q.o/\r.cap=q.cap:=by
 cases r' with
 |none=>exact h.elim
 |some q=>exact ⟨q,rfl,h⟩
theorem aS.own {r r':Option Real} (h:aS r r') {sz off len:Nat} {v:Value} (hv:Dv r sz off len v):Dv r' sz off len v:=by
 cases r<;>cases r'<;>first|exact h.elim|skip
 ·exact hv
 ·obtain ⟨h1,h2,h3⟩:=h
  obtain ⟨ad,g1,g2,g3⟩:=hv
  exact ⟨ad,by rw [<-h3];exact g1,by rw [<-h3];exact g2,by rw [<-h1,<-h2,<-h3];exact g3⟩
structure OB.Mn (b b':OB):Prop where
 row: ∀sz n,b.row=some (sz,n)-> ∃n',b'.row=some (sz,n')/\n<=n'
 ba: ∀p,b.ba=some p->b'.ba=some p
 pC: ∀p,b.pC=some p->b'.pC=some p
 var: ∀tid vs,b= .var tid vs-> ∃Nr vs',b'= .var Nr vs'
 Oj: ∀v m,b= .Oj v m-> ∃m',b'= .Oj v m'
theorem OB.Mn.map (f:AC->AC) (b:OB):b.Mn (b.map f) where
 row:= λsz n h=>⟨n,by cases b<;>exact h,Nat.le_refl _⟩
 ba:= λp h=>by cases b<;>exact h
 pC:= λp h=>by cases b<;>exact h
 var:= λtid vs h=>by subst h;exact ⟨_,_,rfl⟩
 Oj:= λv m h=>by subst h;exact ⟨_,rfl⟩
theorem OB.Mn.rfl' (b:OB):b.Mn b where
 row:= λ_sz n h=>⟨n,h,Nat.le_refl _⟩
 ba:= λ_p h=>h
 pC:= λ_p h=>h
 var:= λ_tid _vs h=>⟨_,_,h⟩
 Oj:= λ_v _m h=>⟨_,h⟩
theorem OB.Mn.trans {a b c:OB} (h:a.Mn b) (k:b.Mn c):a.Mn c where
 row:= λsz n hr=>by
  obtain ⟨n1,h1,h2⟩:=h.row sz n hr
  obtain ⟨n2,h3,h4⟩:=k.row sz n1 h1
  exact ⟨n2,h3,by omega⟩
 ba:= λp hp=>k.ba p (h.ba p hp)
 pC:= λp hp=>k.pC p (h.pC p hp)
 var:= λtid vs hv=>by obtain ⟨t',v',h1⟩:=h.var tid vs hv;exact k.var t' v' h1
 Oj:= λv m hm=>by obtain ⟨m',h1⟩:=h.Oj v m hm;exact k.Oj v m' h1
theorem iB {f:AC->AC} {D Pt:Nat->Prop} (hf: ∀c,f c= .undef\/(f c=c/\(∀k∈c.refs,¬D k)/\ ∀k i j,c= .sub k i j\/c= .Fk k i j-> ¬Pt k)) (hp: ∀k,¬D k->aS (π k) (π' k))
  (hH: ∀k b,¬D k->Ad H k=some b-> ∃b',Ad H' k=some b'/\b.Mn b')
  (hg: ∀k r b,¬D k-> ¬Pt k->Ad H k=some b->b.ba≠none->π k=some r->w'.heap[r.g]?=w.heap[r.g]?)
  (hc: ∀fr τ cs x,Cells w (Bd X.w0.heap.size X.Sc π fr) τ cs x->Cells w' (Bd X.w0.heap.size X.Sc π' fr) τ cs x): ∀c v,Dq X w π H c v->Dq X w' π' H' (f c) v:=by
 intro c v h
 rcases hf c with e|⟨e,hr,hs⟩
 ·rw [e];trivial
 rw [e]
 cases c with
 |data fr τ x=>obtain ⟨cs,h1,h2⟩:=h;exact ⟨cs,hc _ _ _ _ h1,h2⟩
 |own k off len=>
  obtain ⟨b,sz,n,h1,h0,h2,h3⟩:=h
  have hk:=hr k (by simp [AC.refs])
  obtain ⟨b',g1,g2⟩:=hH k b hk h1
  obtain ⟨n',g3,g4⟩:=g2.row sz n h0
  exact ⟨b',sz,n',g1,g3,by omega,(hp k hk).own h3⟩
 |Dn k i=>
  obtain ⟨r,tid,vs,h1,h2,h3⟩:=h
  have hk:=hr k (by simp [AC.refs])
  obtain ⟨b',g1,g2⟩:=hH k _ hk h1
  obtain ⟨Nr,vs',rfl⟩:=g2.var tid vs rfl
  obtain ⟨q,q1,q2,_⟩:=(h2▸hp k hk).some
  exact ⟨q,Nr,vs',g1,q1,by rw [<-q2];exact h3⟩
 |Fo k i=>
  obtain ⟨r,b,sz,n,h1,h0,h2,h3,h4⟩:=h
  have hk:=hr k (by simp [AC.refs])
  obtain ⟨b',g1,g2⟩:=hH k b hk h1
  obtain ⟨n',g3,g4⟩:=g2.row sz n h0
  obtain ⟨q,q1,q2,q3,_⟩:=(h3▸hp k hk).some
  exact ⟨q,b',sz,n',g1,g3,by omega,q1,by rw [<-q2,<-q3];exact h4⟩
 |sub k i c=>
  obtain ⟨r,b,sz,n,h1,h0,h2,h3,h4,h5⟩:=h
  have hk:=hr k (by simp [AC.refs])
  obtain ⟨b',g1,g2⟩:=hH k b hk h1
  obtain ⟨q,q1,q2,q3,_⟩:=(h2▸hp k hk).some
  exact ⟨q,b',sz,n,g1,g2.ba _ h0,q1,h3,h4,by rw [<-q2,<-q3,World.cell?_of_block (hg k r b hk (hs k i c (.inl rfl)) h1 (by rw [h0];simp) h2)];exact h5⟩
 |Fk k i c=>
  obtain ⟨r,b,n,sz,g,o,len,cap,h1,h0,h2,h3,h4,h5,h6⟩:=h
  have hk:=hr k (by simp [AC.refs])
  obtain ⟨b',g1,g2⟩:=hH k b hk h1
  obtain ⟨q,q1,q2,q3,_⟩:=(h2▸hp k hk).some
  exact ⟨q,b',n,sz,g,o,len,cap,g1,g2.pC _ h0,q1,h3,h4,by rw [<-q2,<-q3,World.cell?_of_block (hg k r b hk (hs k i c (.inr rfl)) h1 (by cases b<;>first|(cases h0;done)|simp [OB.ba]) h2)];exact h5,h6⟩
 |clo g Bu=>
  obtain ⟨us,h1,h2,h3⟩:=h
  refine ⟨us,h1,h2,λj p hpj=>?_⟩
  obtain ⟨r,tid,vs,h4,h5,h6⟩:=h3 j p hpj
  have hk:=hr p.1 (by simp only [AC.refs,List.mem_map];exact ⟨p,List.mem_of_getElem? hpj,rfl⟩)
  obtain ⟨b',g1,g2⟩:=hH p.1 _ hk h4
  obtain ⟨Nr,vs',rfl⟩:=g2.var tid vs rfl
  obtain ⟨q,q1,q2,_⟩:=(h5▸hp p.1 hk).some
  exact ⟨q,Nr,vs',g1,q1,by rw [<-q2];exact h6⟩
 |Fw k=>
  obtain ⟨r,vt,m,h1,h2,h3⟩:=h
  have hk:=hr k (by simp [AC.refs])
  obtain ⟨b',g1,g2⟩:=hH k _ hk h1
  obtain ⟨m',rfl⟩:=g2.Oj vt m rfl
  obtain ⟨q,q1,q2,_⟩:=(h2▸hp k hk).some
  exact ⟨q,vt,m',g1,q1,by rw [<-q2];exact h3⟩
 |_=>exact h
theorem Nw (H0:List (Nat×OB)) (ls:List Nat) (n:Nat): ∀(H:List (Nat×OB)) (l:Nat),Ad (Xo H0 ls n H) l=(Ad H l).map λb=>if ls.contains l then b.xK (Vf n (WW (Ad H0 l))) else b
 | [],_=>rfl
 |(k,b)::r,l=>by
  simp only [Xo,Ad]
  split
  ·rename_i e;subst e;rfl
  ·exact Nw H0 ls n r l
theorem OB.uh (b:OB) (kp:Option (Nat×Nat)):b.Mn (b.xK kp):=by
 cases b with
 |Ah e te rows out kp0=>exact ⟨λsz n h=>⟨n,h,Nat.le_refl _⟩,λp h=>h,λp h=>h,(λ_ _ h=>by cases h),(λ_ _ h=>by cases h)⟩
 |_=>exact OB.Mn.rfl' _
theorem aJ (ls:List Nat): ∀(l m:List AV) (t:Nat),l.length=m.length->(∃k i c,l.getD t .undef= .at (.sub k i c)/\ls.contains k=true/\(Gt ls l m).getD t .undef= .at (.sub k i c))\/(Gt ls l m).getD t .undef=m.getD t .undef
 | [],m,t,_=>by cases m<;>exact .inr rfl
 |_::_,[],t,h=>by simp at h
 |a::l,v::m,t,h=>by
  have ih:= λt=>aJ ls l m t (by simpa using h)
  have tail: ∀u,Gt ls (a::l) (v::m)=u::Gt ls l m->(t=0->(∃k i c,(a::l).getD t .undef= .at (.sub k i c)/\ls.contains k=true/\u= .at (.sub k i c))\/u=v)->
    (∃k i c,(a::l).getD t .undef= .at (.sub k i c)/\ls.contains k=true/\(Gt ls (a::l) (v::m)).getD t .undef= .at (.sub k i c))\/(Gt ls (a::l) (v::m)).getD t .undef=(v::m).getD t .undef:=by
   intro u e h0
   rw [e]
   rcases t with _|t
   ·rcases h0 rfl with ⟨k,i,c,h1,h2,h3⟩|h3
    ·exact .inl ⟨k,i,c,h1,h2,by simpa using h3⟩
    ·exact .inr (by simpa using h3)
   ·simpa only [List.getD_cons_succ] using ih t
  cases a with
  | «at»c=>
   cases c with
   |sub k i c=>
    refine tail _ rfl λht=>?_
    subst ht
    by_cases hc:ls.contains k=true
    ·exact .inl ⟨k,i,c,rfl,hc,by rw [if_pos hc]⟩
    ·exact .inr (by rw [if_neg hc])
   |_=>exact tail _ rfl λ_=> .inr rfl
  |_=>exact tail _ rfl λ_=> .inr rfl
theorem oS {H:List (Nat×OB)} {ls:List Nat} {n:Nat} : ∀ {l:List AV} {t k i c:Nat},Xu H ls n l=true->l.getD t .undef= .at (.sub k i c)->ls.contains k=true->i<n/\i<m4 H k
 | [],t,k,i,c,_,h,_=>by simp at h
 |a::l,0,k,i,c,ho,h,hc=>by
  simp only [List.getD_cons_zero] at h
  subst h
  simp only [Xu,hc,Bool.not_true,Bool.false_or,Bool.and_eq_true,Nat.blt_eq] at ho
  exact ho.1
 |a::l,t+1,k,i,c,ho,h,hc=>by
  refine oS (l:=l) (t:=t) (c:=c) ?_ (by simpa only [List.getD_cons_succ] using h) hc
  cases a with
  | «at»d=>cases d with
   |sub _ _ _=>simp only [Xu,Bool.and_eq_true] at ho;exact ho.2
   |_=>exact ho
  |_=>exact ho
theorem zv {bo st:St} {a:Act} (h0:Aj X π bo a w) (h:Aj X π' st a w') {ls:List Nat} {n:Nat} (hk: ∀l∈ls,vu w w' (π l) (π' l) n) (nf: ∀l∈ls,ij bo.heap l=true)
  (ee:Xu st.heap ls n bo.tmps=true):Aj X π' (fO bo st ls n) a w'/\ ∀c v,Am X w' π' st.heap c v->Am X w' π' (fO bo st ls n).heap c v:=by
 by_cases vg:ls= []
 ·subst vg;exact ⟨h,λ_ _ h=>h⟩
 have Tc:fO bo st ls n= {tmps:=Gt ls bo.tmps st.tmps,heap:=Xo bo.heap ls n st.heap} :=by
  cases ls with
  |nil=>exact absurd rfl vg
  |cons _ _=>rfl
 rw [Tc]
 have hg0: ∀l∈ls,∃e te rows out kp,Ad bo.heap l=some (.Ah e te rows out kp):= λl hl=>by
  have:=nf l hl
  unfold ij at this
  split at this
  ·exact ⟨_,_,_,_,_,by assumption⟩
  ·cases this
 have srv: ∀k b,Ad st.heap k=some b-> ∃b',Ad (Xo bo.heap ls n st.heap) k=some b'/\b.Mn b':= λk b hb=>by
  rw [Nw,hb]
  refine ⟨_,rfl,?_⟩
  dsimp only
  split
  ·exact OB.uh b _
  ·exact OB.Mn.rfl' b
 have hac:(∀fr τ cs x,Cells w' (Bd X.w0.heap.size X.Sc π' fr) τ cs x->Cells w' (Bd X.w0.heap.size X.Sc π' fr) τ cs x)-> ∀c v,Dq X w' π' st.heap c v->Dq X w' π' (Xo bo.heap ls n st.heap) c v:= λhc=>
  iB (f:= λc=>c) (D:= λ_=>False) (Pt:= λ_=>False) (λc=> .inr ⟨rfl,λ_ _ h=>h,λ_ _ _ _ h=>h⟩) (λk _=>aS.rfl' _) (λk b _ hb=>srv k b hb) (λ_ _ _ _ _ _ _ _=>rfl) hc
 have h1:Aj X π' {tmps:=st.tmps.map (·.map λc=>c),heap:=Xo bo.heap ls n st.heap} a w':=by
  refine h.iC rfl (gv:= λ_=>False) (λ_ hf=>hf.elim) (Ga.refl _ _ _) (λ_ _ ho=>ho) h.1.sub h.1.place h.1.inj (λl hl Ex=>h.1.bF l hl λh2=>Ex (by rw [Nw,h2];rfl)) hac (λm l b hb=>?_) (λl hl=>?_)
  ·rw [Nw] at hb
   cases h2:Ad st.heap l with
   |none=>rw [h2] at hb;cases hb
   |some b0=>
    rw [h2] at hb
    simp only [Option.map_some,Option.some.injEq] at hb
    have hbk:=(h.1.heap l).Lc h2
    have yz:=hbk.move m (Nat.le_refl _) (λr0 c h0 h1=>h.1.sub _ r0 c h0 h1) λ_ _ _ _ _=>rfl
    rw [show OB.map (λc=>c) b0=b0 from OB.x9 b0] at yz
    split at hb
    ·rename_i hc
     have hl:l∈ls:=by simpa using hc
     cases b0 with
     |Ah e te rows out kp=>
      simp only [OB.xK] at hb
      subst hb
      refine ⟨yz.1,?_⟩
      obtain ⟨e0,te0,TU,Ah3,kp0,hg⟩:=hg0 l hl
      have ta:=((h0.1.heap l).Lc hg).2
      rw [hg]
      simp only [WW]
      have pG:=hk l hl
      cases kp0 with
      |none=>trivial
      |some p=>
       obtain ⟨l0,n0⟩:=p
       simp only [KeptAt,Vf] at ta⊢
       cases th:X.bF l0 with
       |none=>
        cases hp:π l with
        |none=>
         rw [hp] at pG
         cases ib:π' l with
         |none=>trivial
         |some q=>rw [ib] at pG;exact pG.elim
        |some q=>rw [th,hp] at ta;exact ta.elim
       |some r0=>
        cases hp:π l with
        |none=>rw [th,hp] at ta;exact ta.elim
        |some q=>
         rw [th,hp] at ta
         rw [hp] at pG
         cases ib:π' l with
         |none=>rw [ib] at pG;exact pG.elim
         |some q'=>
          rw [ib] at pG
          obtain ⟨k1,k2,k3,k4⟩:=pG
          obtain ⟨g1,g2,g3,g4⟩:=ta
          refine ⟨k1.trans g1,k2.trans g2,k3.trans g3,λj hj hc=>?_⟩
          have e1:=g4 j (by omega) hc
          have e2:=k4 j (by omega) (by omega)
          rw [g1,g2] at e2
          rw [<-e1,e2]
     |_=>simp only [OB.xK] at hb;subst hb;exact yz
    ·subst hb;exact yz
  ·rw [Nw] at hl
   cases h2:Ad st.heap l with
   |none=>exact (h.1.heap l).emp h2
   |some b=>rw [h2] at hl;cases hl
 have DD: ∀c v,Am X w' π' st.heap c v->Am X w' π' (Xo bo.heap ls n st.heap) c v:= λc v hv=>by
  have m:Move X w' w' π' π' st.heap (Xo bo.heap ls n st.heap) (λc=>c):=⟨hac λ_ _ _ _ h=>h,λ_ _ _ _ h=>h⟩
  have:=m.av hv
  rwa [AC.map_id] at this
 refine ⟨⟨h1.1,⟨?_,h.2.defers,λt=>?_⟩⟩,DD⟩
 ·have: ∀(l m:List AV),(Gt ls l m).length=m.length:=by
   intro l
   induction l with
   |nil=>intro m;cases m<;>rfl
   |cons a l ih=>
    intro m
    cases m with
    |nil=>cases a with
     | «at»c=>cases c<;>rfl
     |_=>rfl
    |cons v m=>cases a with
     | «at»c=>cases c<;>simp only [Gt,List.length_cons,ih m]
     |_=>simp only [Gt,List.length_cons,ih m]
  show a.tmps.size=(Gt ls bo.tmps st.tmps).length
  rw [this];exact h.2.size
 ·show Am X w' π' _ ((Gt ls bo.tmps st.tmps).getD t .undef) _
  rcases aJ ls bo.tmps st.tmps t (by rw [<-h0.2.size,<-h.2.size]) with ⟨k,i,c,g1,g2,g3⟩|g
  ·rw [g3]
   have Lr:k∈ls:=by simpa using g2
   obtain ⟨i1,i2⟩:=oS ee g1 g2
   have hv:=h0.2.tmps t
   rw [show bo.get t=_ from g1] at hv
   obtain ⟨r,b,sz,n',e1,e2,e3,e4,⟨e5,e6⟩,e7⟩:=hv
   obtain ⟨e0,te0,TU,Ah3,kp0,hg⟩:=hg0 k Lr
   rw [hg] at e1;cases e1
   simp only [OB.ba,Option.some.injEq,Prod.mk.injEq] at e2
   obtain ⟨rfl,rfl⟩:=e2
   have pG:=hk k Lr
   rw [e3] at pG
   cases ib:π' k with
   |none=>rw [ib] at pG;exact pG.elim
   |some q'=>
    rw [ib] at pG
    obtain ⟨k1,k2,k3,k4⟩:=pG
    have nd:TU.length<=r.cap:=by
     have:=((h0.1.heap k).Lc hg).1
     rw [e3] at this
     obtain ⟨_,_,_,_,_,_,h5,_⟩:=this
     exact h5
    unfold m4 at i2
    split at i2
    ·rename_i e9 te9 Ac7 Alw kp9 hg9
     refine ⟨q',_,1,Ac7.length,by rw [Nw,hg9];rfl,?_,ib,i2,⟨e5,e6⟩,?_⟩
     ·dsimp only
      split<;>rfl
     ·have eE:c=0:=by omega
      subst eE
      rw [k1,k2]
      rw [Nat.mul_one,Nat.add_zero] at e7⊢
      rw [k4 i i1 (by omega)];exact e7
    ·omega
  ·rw [g]
   exact DD _ _ (h.2.tmps t)
theorem k8 {ins:List (Bool×CK)} {as:List AC} {pl:List Nat} {st:St} :(lE ins as pl st).tmps=st.tmps:=by
 unfold lE
 split
 ·rfl
 ·split<;>rfl
theorem AS {ins:List (Bool×CK)} {as:List AC} {pl:List Nat} {st:St} {m:Nat} (hm:m∉pl):Ad (lE ins as pl st).heap m=Ad st.heap m:=by
 unfold lE
 split
 ·rfl
 ·rename_i l r
  split
  ·exact Bs _ _ _ _ λe=>hm (e▸List.mem_cons_self)
  ·rfl
theorem GX {ins:List (Bool×CK)} {as:List AC} {l:Nat} {st:St} {tid:TypeId} {vs:List AC} (hl:Ad st.heap l=some (.var tid vs)):Ad (lE ins as [l] st).heap l=some (.var tid (bl ins vs as)):=by
 simp only [lE,St.at,hl]
 exact Cb _ _ _ _ hl
theorem rZ {α:Type} (ins:List (Bool×CK)) (as:List α):bl ins [] as= []:=by
 rcases ins with _|⟨⟨_|_,c⟩,r⟩<;>rfl
theorem jR {α:Type} : ∀(ins:List (Bool×CK)) (vs as:List α),(bl ins vs as).length=vs.length
 | [],vs,as=>by rw [bl];all_goals simp
 |p::r,[],as=>by rw [rZ]
 |(true,c)::r,v::vs,as=>by simp only [bl,List.length_cons,jR r vs as]
 |(false,c)::r,v::vs,[]=>by rw [bl];all_goals simp
 |(false,c)::r,v::vs,a::as=>by simp only [bl,List.length_cons,jR r vs as]
theorem GN {st:St} {a:Act} (h:Aj X π st a w) {s:MSpec} {gG:List AV} {vs:List Value} (hlen:gG.length=vs.length) (DD: ∀(i:Nat) c v,gG[i]?=some c->vs[i]?=some v->Am X w π st.heap c v)
  {pl:List Nat} {cells:List AC} {rest:List AV} (he:DV st s gG=some (pl,cells,rest)):
  ∃(g:Nat) (RX ss:List Value),rest.length=ss.length/\(∀(i:Nat) c v,rest[i]?=some c->ss[i]?=some v->Am X w π st.heap c v)/\Hy X w π st.heap cells RX/\
   ((s.ptr=none/\pl= []/\cells= []/\RX= []/\vs=ss)\/
    ∃p l q,s.ptr=some p/\pl= [l]/\π l=some q/\q.Ba q.g/\g=q.g/\Ad st.heap l=some (.var p.1 cells)/\cells.length=p.2/\vs= .pointer (some ⟨g,0,none⟩)::ss/\w.heap[g]?=some (.cells RX.toArray p.1 (0,0))/\Cu X w π st.heap cells RX):=by
 unfold DV at he
 split at he
 ·rename_i hp
  simp only [Option.some.injEq,Prod.mk.injEq] at he
  obtain ⟨rfl,rfl,rfl⟩:=he
  exact ⟨0,[],vs,hlen,DD,trivial, .inl ⟨hp,rfl,rfl,rfl,rfl⟩⟩
 ·rename_i p hp
  split at he
  ·rename_i l i Aix
   split at he
   ·rename_i tid cs hl
    split at he
    ·rename_i hc
     obtain ⟨rfl,hc,rfl⟩:=hc
     simp only [Option.some.injEq,Prod.mk.injEq] at he
     obtain ⟨rfl,rfl,rfl⟩:=he
     unfold St.at at hl
     cases vs with
     |nil=>simp at hlen
     |cons v vs=>
      obtain ⟨r,Nr,vs',h1,h2,rfl⟩:=DD 0 _ v rfl rfl
      rw [hl] at h1;cases h1
      obtain ⟨r',h3,h4,cur,h5,h6⟩:=(h.1.heap l).Lc hl
      rw [h2] at h3;cases h3
      exact ⟨r.g,cur.toList,vs,by simpa using hlen,λi c v h7 h8=>DD (i+1) c v (by simpa using h7) (by simpa using h8),Hy.of h6, .inr ⟨p,l,r,hp,rfl,h2,h4,rfl,hl,hc,rfl,by simpa using h5,h6⟩⟩
    ·cases he
   ·cases he
  ·cases he
theorem dL {V:List Nat} {πc:Pi} {dead part:List Nat} (TL: ∀l,l∉dead->π' l=π l) (Gd: ∀l b sz n,l∉dead->Ad H l=some b->b.row=some (sz,n)-> ∃b',Ad H' l=some b'/\b'.row=some (sz,n)):
  ∀(ins:List (Bool×CK)) (k:Nat) (cells j6:List AC) (x:Ins.den ins) (us:List Value) (o:IOs.den ins) (cur st1:St) (news:List AC) (Pn cs:List Value),ll X w π V H πc k ins x (cells++j6) us->Oy ins cells=true->
   Dz ins o (cells++j6) cur=some st1->Ca πc k ins o cells.length cs Pn->Hy X w' π' H' news Pn->Hy X w' π' H' (bl ins (cells.map (Ax dead part)) news) cs
 |ins,k,[],j6,x,us,o,cur,st1,news,Pn,cs,_,_,_,hb,_=>by
  have hb:cs= []:=by rcases ins with _|⟨⟨_|_,c⟩,r⟩<;>(try cases c)<;>simpa [Ca] using hb
  rw [hb,List.map_nil,rZ]
  trivial
 | [],k,a::cells,j6,x,us,o,cur,st1,news,Pn,cs,_,hk,_,_,_=>by simp [Oy] at hk
 |(true, .Ee τ)::r,k,a::cells,j6,x,us,o,cur,st1,news,Pn,cs,_,hk,_,_,_=>by simp [Oy] at hk
 |(true, .part e te)::r,k,a::cells,j6,x,us,o,cur,st1,news,Pn,cs,_,hk,_,_,_=>by simp [Oy] at hk
 |(true, .Ah e te _)::r,k,a::cells,j6,x,us,o,cur,st1,news,Pn,cs,_,hk,_,_,_=>by simp [Oy] at hk
 |(true, .row e te)::r,k,a::cells,j6,x,us,o,cur,st1,news,Pn,cs,ht,hk,hp,hb,hn=>by
  cases a<;>simp only [Oy,Bool.false_eq_true] at hk
  rename_i l off len
  cases us with
  |nil=>exact ht.elim
  |cons u0 us=>
  cases cs with
  |nil=>exact hb.elim
  |cons u cs=>
  obtain ⟨⟨_,h1⟩,h2⟩:=ht
  simp only [Mu] at h1
  obtain ⟨h3,rfl,rfl,fr,tr,h4⟩:=h1
  obtain ⟨h5,h6⟩:=hb
  simp only [List.cons_append,Dz] at hp
  split at hp
  rotate_left
  ·cases hp
  rename_i So VV
  have EY:List.length o.1=List.length x.1:=by
   simp only [Vy] at VV
   repeat' split at VV
   all_goals first|(cases VV;done)|(rename_i hc;exact hc.2.1)
  refine ⟨?_,dL TL Gd r (k+1) cells j6 x.2 us o.2 So st1 news Pn cs h2 hk hp h6 hn⟩
  by_cases hd:l∈dead
  ·have:Ax dead part (.own l 0 (List.length x.1))= .undef:=by
    unfold Ax
    rw [if_pos (by simp [AC.refs,hd])]
   rw [this];trivial
  ·rw [Wj (by simpa [AC.refs] using hd) (by intro l i j e;rcases e with e|e<;>cases e)]
   obtain ⟨b',g1,g2⟩:=Gd l _ e.size (List.length x.1) hd h4 rfl
   refine ⟨b',e.size,List.length x.1,g1,g2,by omega,?_⟩
   rw [TL l hd]
   rw [h3,EY] at h5
   cases hp:π l<;>(rw [hp] at h5;exact h5)
 |(true, .Dp e te)::r,k,a::cells,j6,x,us,o,cur,st1,news,Pn,cs,ht,hk,hp,hb,hn=>by
  cases a<;>simp only [Oy,Bool.false_eq_true] at hk
  rename_i l off len
  cases us with
  |nil=>exact ht.elim
  |cons u0 us=>
  cases cs with
  |nil=>exact hb.elim
  |cons u cs=>
  obtain ⟨⟨_,h1⟩,h2⟩:=ht
  simp only [Mu] at h1
  obtain ⟨h3,rfl,rfl,h4⟩:=h1
  obtain ⟨h5,h6⟩:=hb
  simp only [List.cons_append,Dz] at hp
  split at hp
  rotate_left
  ·cases hp
  rename_i So VV
  have EY:List.length o.1=List.length x.1:=by
   simp only [Vy] at VV
   repeat' split at VV
   all_goals first|(cases VV;done)|(rename_i hc;exact hc.2.1)
  refine ⟨?_,dL TL Gd r (k+1) cells j6 x.2 us o.2 So st1 news Pn cs h2 hk hp h6 hn⟩
  by_cases hd:l∈dead
  ·have:Ax dead part (.own l 0 (List.length x.1))= .undef:=by
    unfold Ax
    rw [if_pos (by simp [AC.refs,hd])]
   rw [this];trivial
  ·rw [Wj (by simpa [AC.refs] using hd) (by intro l i j e;rcases e with e|e<;>cases e)]
   obtain ⟨b',g1,g2⟩:=Gd l _ e.size (List.length x.1) hd h4 rfl
   refine ⟨b',e.size,List.length x.1,g1,g2,by omega,?_⟩
   rw [TL l hd]
   rw [h3,EY] at h5
   cases hp:π l<;>(rw [hp] at h5;exact h5)
 |(false,c)::r,k,a::cells,j6,x,[],o,cur,st1,news,Pn,cs,ht,hk,hp,hb,hn=>ht.elim
 |(false,c)::r,k,a::cells,j6,x,u0::us,o,cur,st1,news,Pn,[],ht,hk,hp,hb,hn=>by cases c<;>exact hb.elim
 |(false,c)::r,k,a::cells,j6,x,u0::us,o,cur,st1,news,[],u::cs,ht,hk,hp,hb,hn=>by cases c<;>exact hb.elim
 |(false,c)::r,k,a::cells,j6,x,u0::us,o,cur,st1,[],u'::Pn,u::cs,ht,hk,hp,hb,hn=>hn.elim
 |(false,c)::r,k,a::cells,j6,x,u0::us,o,cur,st1,na::news,u'::Pn,u::cs,ht,hk,hp,hb,hn=>by
  have hb2:u=u'/\Ca πc (k+1) r o cells.length cs Pn:=by cases c<;>exact hb
  obtain ⟨rfl,hb3⟩:=hb2
  have hp:Dz r o (cells++j6) cur=some st1:=by cases c<;>simpa only [List.cons_append,Dz] using hp
  have hk:Oy r cells=true:=by cases c<;>simpa only [Oy] using hk
  exact ⟨hn.1,dL TL Gd r (k+1) cells j6 x.2 us o cur st1 news Pn cs ht.2 hk hp hb3 hn.2⟩
theorem ya {V:List Nat} {πc:Pi} : ∀(cs:List (Bool×CK)) (k0:Nat) (x:Ins.den cs) (as:List AC) (us:List Value),k0+cs.length<100000->ll X w π V H πc k0 cs x as us-> ∀k l,(Bq false k,Loc.row l)∈Gu k0 cs as->πc (Bq false k)=(π l).map full
 | [],_,_,[],_,_,_,_,_,h=>by cases h
 | [],_,_,_::_,_,_,_,_,_,h=>by cases h
 |_::_,_,_,[],_,_,_,_,_,h=>by cases h
 |_::_,_,_,_::_,[],_,h,_,_,_=>h.elim
 |(io,c)::r,k0,x,a::as,u::us,hk,h,k,l,ht=>by
  simp only [List.length_cons] at hk
  simp only [Gu] at ht
  rcases List.mem_append.1 ht with ht|ht
  ·obtain ⟨⟨_,h1⟩,_⟩:=h
   cases c with
   |Ee τ=>cases a<;>simp [Kk,views] at ht
   |row e te=>
    cases a<;>simp [Kk] at ht
    obtain ⟨e1,rfl⟩:=ht
    simp only [Mu] at h1
    rw [e1];exact h1.1
   |Dp e te=>
    cases a<;>simp [Kk] at ht
    obtain ⟨e1,rfl⟩:=ht
    simp only [Mu] at h1
    rw [e1];exact h1.1
   |part e te=>
    cases a<;>simp [Kk] at ht
    obtain ⟨e1,rfl⟩:=ht
    simp only [Mu] at h1
    rw [e1];exact h1.2.1
   |Ah e te kp=>
    cases a<;>simp [Kk] at ht
    obtain ⟨e1,rfl⟩:=ht
    simp only [Mu] at h1
    rw [e1];exact h1.2.1
  ·exact ya r (k0+1) x.2 as us (by omega) h.2 k l ht
theorem lp {st:St} {a:Act} (h:Aj X π st a w) {f:FuncId} {s:MSpec} (hs:Bf P f s) (dst:Option Nat) (gG:List AV) (vs:List Value) (hlen:gG.length=vs.length)
  (DD: ∀(i:Nat) c v,gG[i]?=some c->vs[i]?=some v->Am X w π st.heap c v) (av:AV) (st':St) (he:Qc st dst s gG=some (av,st')):
  Calls P f vs.toArray w λe w'=> ∃v,e= .returned v/\ ∃π',Aj X π' st' a w'/\Am X w' π' st'.heap av v:=by
 unfold Qc at he
 split at he
 ·cases he
 rename_i pl cells rest Ag9
 split at he
 ·cases he
 rename_i j6 IP
 split at he
 ·cases he
 rename_i x tks htk
 split at he
 rotate_left
 ·cases he
 rename_i Ey
 simp only [Bool.and_eq_true,Nat.blt_eq] at Ey
 obtain ⟨⟨⟨⟨OV,nk⟩,hon⟩,ck⟩,Aaj,FC⟩:=Ey
 have FC: ∀l∈pl,l∉(tks.map λt=>t.2.Po)/\l∉Lt s tks (dst.getD 0):= λl hl=>by
  have:=List.all_eq_true.1 FC l hl
  simp only [Bool.not_eq_true',<-Bool.not_eq_true,List.contains_iff_mem] at this
  exact ⟨λhm=>this (List.mem_append_left _ hm),λhm=>this (List.mem_append_right _ hm)⟩
 split at he
 ·cases he
 rename_i r o ZB
 split at he
 ·cases he
 rename_i st1 VY
 obtain ⟨g,RX,ss,Aak,Af5,Agc,Vx⟩:=GN h hlen DD Ag9
 obtain ⟨qB,rfl,yD,Agb⟩:=Sj s.Fb rest ss j6 Aak Af5 IP
 have WB:=Agc.append Agb
 have Kw:ja s w g (RX++qB) vs:=by
  unfold ja
  rcases Vx with ⟨h1,_,_,h2,h3⟩|⟨p,l,q,h1,_,_,_,_,_,h2,h3,h4,h5⟩
  ·rw [h1];subst h2;exact ⟨h3,yD⟩
  ·rw [h1]
   have hl:RX.length=p.2:=h5.1.trans h2
   simp only
   rw [List.drop_append_of_le_length (by omega),List.take_append_of_le_length (by omega),List.take_of_length_le (by omega),List.drop_of_length_le (by omega)]
   refine ⟨h3,yD,by simp;omega,h4,λu hu=>?_⟩
   obtain ⟨i,hi,rfl⟩:=List.mem_iff_getElem.1 hu
   obtain ⟨u',h6,h7,_⟩:=h5.2 i (cells[i]'(by have:=h5.1;omega)) (List.getElem?_eq_getElem _)
   rw [List.getElem?_eq_getElem hi] at h6
   rw [Option.some.inj h6];exact h7
 have FD: ∀l∈pl,∃p q,s.ptr=some p/\pl= [l]/\π l=some q/\q.Ba q.g/\g=q.g/\Ad st.heap l=some (.var p.1 cells)/\cells.length=p.2:= λl hl=>by
  rcases Vx with ⟨_,h1,_⟩|⟨p,l',q,h1,h2,h3,h4,h5,h6,h7,_⟩
  ·rw [h1] at hl;cases hl
  ·rw [h2] at hl
   have:=List.mem_singleton.1 hl
   subst this
   exact ⟨p,q,h1,h2,h3,h4,h5,h6,h7⟩
 have EX: ∀b,s.gv g b-> ∃l∈pl,∃q,π l=some q/\q.Ba b/\b=q.g:= λb ⟨h1,h2⟩=>by
  rcases Vx with ⟨h3,_⟩|⟨p,l',q,_,h4,h5,h6,h7,_⟩
  ·rw [h3] at h1;cases h1
  ·exact ⟨l',by rw [h4];exact List.mem_singleton.2 rfl,q,h5,by rw [h2,h7];exact h6,h2.trans h7⟩
 obtain ⟨as,has⟩: ∃as,as=cells++j6:=⟨_,rfl⟩
 obtain ⟨us,KN⟩: ∃us,us=RX++qB:=⟨_,rfl⟩
 rw [<-has] at WB htk VY
 rw [<-KN] at WB Kw
 let V:=(tks.filter λt=>t.2.reads).map λt=>t.2.Po
 have hV: ∀t∈tks,t.2.reads=true->t.2.Po∈V:= λt ht hr=>List.mem_map.2 ⟨t,List.mem_filter.2 ⟨ht,hr⟩,rfl⟩
 have hV': ∀l∈V,∃t∈tks,t.2.reads=true/\t.2.Po=l:= λl hl=>by
  obtain ⟨t,h1,h2⟩:=List.mem_map.1 hl
  exact ⟨t,(List.mem_filter.1 h1).1,(List.mem_filter.1 h1).2,h2⟩
 clear_value V
 obtain ⟨OL,πc,hT,JV,Afn,Ox⟩:=oX h.1 (V:=V) s.ins 0 as us x tks (by omega) WB htk hV
 have zg:=Qm OV
 rw [OL] at zg
 have Yo: ∀b,Ok πc b-> ∃t∈Gu 0 s.ins as,t.2.reads=false/\ ∃q,π t.2.Po=some q/\q.Ba b/\ ∀l i j,t.2= .sub l i j->b≠q.g:= λb ⟨c,q,h1,h2⟩=>by
  obtain ⟨t,t1,_,t3⟩:=Ox c q b h1 h2
  exact ⟨t,t1,t3⟩
 have zj: ∀b,Ok πc b->Ok π b:= λb hb=>let ⟨t,_,_,q,h1,h2,_⟩:=Yo b hb;⟨_,q,h1,h2⟩
 have dE:bJ πc (λb=>b<w.heap.size):=⟨λl q b h1 h2=>(h.1.own (zj b ⟨l,q,h1,h2⟩)).1,λl l' q q' b h1 h2 h3 h4=>by
  obtain ⟨t,t1,t2,_,p,t3,t4,_⟩:=Ox l q b h1 h3
  obtain ⟨t',XX,t2',_,p',t3',t4',_⟩:=Ox l' q' b h2 h4
  have:=tC zg t1 XX (h.1.apart t3 t3' t4 t4')
  rw [<-t2,<-t2',this]⟩
 have Aa0: ∀k l,(Bq false k,Loc.row l)∈Gu 0 s.ins as->πc (Bq false k)=(π l).map full:= λk l ht=>
  ya s.ins 0 x as us (by omega) hT k l ht
 have Abf: ∀b,Ok πc b->Ja X π V b:= λb hb=> .inl ⟨zj b hb,λl hl r' hr hf=>by
  obtain ⟨t,t1,t0,q,t3,t4,_⟩:=Yo b hb
  obtain ⟨t',XX,t2',rfl⟩:=hV' l hl
  rw [OL] at XX
  have:=tC zg t1 XX (h.1.apart t3 hr t4 hf)
  subst this
  rw [t0] at t2';cases t2'⟩
 let S:Nat->Prop:= λb=> ¬Ok πc b/\Ja X π V b
 have hS: ∀b,S b->b<w.heap.size/\ ¬Ok πc b:= λb hb=>⟨by
  rcases hb.2 with h1|h1
  ·exact (h.1.own h1.1).1
  ·exact Nat.lt_of_lt_of_le (h.1.sc b h1).1 h.1.below.size,hb.1⟩
 have QE: ∀l∈pl,∀t∈Gu 0 s.ins as,t.2.Po≠l:= λl hl t ht e=>(FC l hl).1 (List.mem_map.2 ⟨t,OL▸ht,e⟩)
 have hSg:s.ptr.isSome=true->S g:= λZK=>by
  obtain ⟨l,hl,q,h1,h2,h3⟩:=EX g ⟨ZK,rfl⟩
  have TB: ¬Ok πc g:= λhb=>by
   obtain ⟨t,t1,_,q',t3,t4,_⟩:=Yo g hb
   exact QE l hl t t1 (h.1.apart t3 h1 t4 h2)
  refine ⟨TB, .inl ⟨⟨l,q,h1,h2⟩,λl' Gk r' Zj hf=>?_⟩⟩
  obtain ⟨t',XX,_,rfl⟩:=hV' l' Gk
  rw [OL] at XX
  exact QE l hl t' XX (h.1.apart Zj h1 hf h2)
 refine (hs.calls w S πc us x r o g vs Kw hSg (Zl.Ek (λb hb=>hb.elim (Abf b) λh=>h.2) s.ins 0 x us (hT.Abm s.ins 0 x as us)) dE hS Afn ZB).mono ?_
 rintro e w' ⟨v,Pn,vq,rfl,a8,rh,PS,sY,Aas,KG,WQ,ru⟩
 obtain ⟨ρ,QK,zi,KF,SL⟩: ∃ρ:Pi,(∀l,ρ l=(vq l).map full)/\Eo w' (dZ S πc vq) ρ 0 s.outs r Pn/\bJ ρ (λb=>b<w'.heap.size/\(w.heap.size<=b\/ ∃l q,l<Ak/\πc l=some q/\q.Ba b))/\ ∀l q,ρ l=some q->q.cl=q.Ba:=by
  have un: ∀l q,(vq l).map full=some q-> ∃q0,vq l=some q0/\q=full q0:= λl q hq=>by
   cases hp:vq l with
   |none=>rw [hp] at hq;cases hq
   |some q0=>rw [hp] at hq;exact ⟨q0,rfl,(Option.some.inj hq).symm⟩
  refine ⟨λl=>(vq l).map full,λ_=>rfl,Eo.full s.outs 0 r Pn Aas,⟨λl q b h1 h2=>?_,λl l' q q' b h1 h2 h3 h4=>?_⟩,λl q h1=>?_⟩
  ·obtain ⟨q0,h5,rfl⟩:=un l q h1
   exact KG.Ti l q0 b h5 h2
  ·obtain ⟨q0,h5,rfl⟩:=un l q h1
   obtain ⟨XT,h6,rfl⟩:=un l' q' h2
   exact KG.inj l l' q0 XT b h5 h6 h3 h4
  ·obtain ⟨q0,_,rfl⟩:=un l q h1
   rfl
 refine ⟨v,rfl,?_⟩
 split at he
 ·cases he
 rename_i av0 cm
 split at he
 rotate_left
 ·cases he
 rename_i Jy
 simp only [Option.some.injEq,Prod.mk.injEq] at he
 obtain ⟨rfl,rfl⟩:=he
 let D1:Nat->Prop:=if s.flat then λ_=>True else dZ S πc vq
 have Afq:Hb w' D1 πc 0 s.ins o:=by
  show Hb w' (if s.flat then λ_=>True else dZ S πc vq) πc 0 s.ins o
  split
  ·rename_i hf
   unfold MSpec.flat at hf
   simp only [Bool.and_eq_true] at hf
   exact Hb.any s.ins 0 o hf.2 sY
  ·exact sY
 have Aat:Eo w' D1 ρ 0 s.outs r Pn:=by
  show Eo w' (if s.flat then λ_=>True else dZ S πc vq) ρ 0 s.outs r Pn
  split
  ·rename_i hf
   unfold MSpec.flat at hf
   simp only [Bool.and_eq_true] at hf
   exact Eo.any s.outs 0 r Pn hf.1 zi
  ·exact zi
 obtain ⟨q1,q2,q3,q4⟩:=o1 (D:=D1) (X:=X) (π:=π) (H:=st.heap) h.1 PS.size (tks:=Gu 0 s.ins as) (πc:=πc) (λt ht q b hq hb Fg hn=>PS.block b Fg λzh=>by
   rcases zh with ⟨c,r',h1,h2⟩|hg
   rotate_left
   ·obtain ⟨l,hl,q',h1,h2,_⟩:=EX b hg
    exact QE l hl t ht (h.1.apart hq h1 hb h2)
   obtain ⟨t',t1,t2,_,p,t3,t4,_⟩:=Ox c r' b h1 h2
   have:=tC zg ht t1 (h.1.apart hq t3 hb t4)
   subst this
   exact hn r' (t2▸h1) h2) s.ins 0 x as us o st st1 (by omega) (λ_ h=>h) zg hT Afq VY (λ_ _=>rfl)
 have WC: ∀t∈Gu 0 s.ins as,t.2.reads=true->t.1<Ak:=by
  have: ∀(cs:List (Bool×CK)) (k:Nat) (as:List AC),k+cs.length<100000-> ∀t∈Gu k cs as,t.2.reads=true->t.1<Ak:=by
   intro cs
   induction cs with
   |nil=>intro k as _ t ht;cases as<;>cases ht
   |cons p r ih=>
    intro k as hk t ht hr
    simp only [List.length_cons] at hk
    cases as with
    |nil=>cases ht
    |cons a as=>
     simp only [Gu] at ht
     rcases List.mem_append.1 ht with ht|ht
     ·rcases xZ ht with ⟨_,h1⟩|⟨h1,_⟩
      ·rw [hr] at h1;cases h1
      ·rw [h1];exact aA (by omega)
     ·exact ih (k+1) as (by omega) t ht hr
  exact this s.ins 0 as (by omega)
 let d:=dst.getD 0
 let ks:=Lt s tks d
 let dead:=gN tks++ks++(if s.flat then [] else uQ tks)
 let part:=whole tks
 have Agf:s.outs.length+(fY s d).length=s.Nl:=by unfold MSpec.Nl fY;cases s.rp<;>rfl
 obtain ⟨VO,Afw,SW⟩:ks.length=s.Nl/\ks.Nodup/\ ∀l∈ks,l<Ak:=by
  have:=zy nk
  rw [Agf] at this
  exact this
 have TB:s.outs.length<=s.Nl:=by unfold MSpec.Nl;omega
 have QH: ∀tid,s.rp=some tid->Bt ks s.outs.length=Ms d/\s.Nl=s.outs.length+1:= λtid Qh=>by
  have h1:s.Nl=s.outs.length+1:=by unfold MSpec.Nl;rw [Qh]
  refine ⟨?_,h1⟩
  have h2:ks=gJ s tks d++ [Ms d]:=by show gJ s tks d++fY s d=_;unfold fY;rw [Qh]
  have h3:(gJ s tks d).length=s.outs.length:=by rw [h2] at VO;simp at VO;omega
  rw [Ld (by rw [VO];omega)]
  simp only [h2]
  rw [List.getElem_append_right (by omega)]
  simp [h3]
 have KD:=vT Afw SW
 have Afu: ∀j,j<s.Nl->Bt ks j<Ak:= λj hj=>SW _ (mem_keys.2 ⟨j,by omega,rfl⟩)
 let π':Pi:= λl=>match (List.range s.Nl).find? λj=>decide (Bt ks j=l) with
  |some j=>ρ (Fp j)
  |none=>if l∈dead then none else π l
 have pF: ∀j,j<s.Nl->π' (Bt ks j)=ρ (Fp j):= λj hj=>by
  show (match (List.range s.Nl).find? λi=>decide (Bt ks i=Bt ks j) with|some i=>ρ (Fp i)|none=>_)=_
  cases hf:(List.range s.Nl).find? λi=>decide (Bt ks i=Bt ks j) with
  |none=>
   have:=List.find?_eq_none.1 hf j (List.mem_range.2 hj)
   simp at this
  |some i=>
   have:=List.find?_some hf
   rw [KD i j (of_decide_eq_true this)]
 have nj: ∀j,j<s.Nl->Bt ks j∈dead:= λj hj=>List.mem_append_left _ (List.mem_append_right _ (mem_keys.2 ⟨j,by omega,rfl⟩))
 have tb: ∀l,(¬ ∃j,j<s.Nl/\l=Bt ks j)->π' l=if l∈dead then none else π l:= λl hl=>by
  show (match (List.range s.Nl).find? λi=>decide (Bt ks i=l) with|some i=>ρ (Fp i)|none=>_)=_
  cases hf:(List.range s.Nl).find? λi=>decide (Bt ks i=l) with
  |none=>rfl
  |some i=>
   have h1:=List.find?_some hf
   exact absurd ⟨i,List.mem_range.1 (List.mem_of_find?_eq_some hf),(of_decide_eq_true h1).symm⟩ hl
 have KR: ∀l,l∉dead->π' l=π l:= λl hl=>by
  rw [tb l (λ⟨j,h1,h2⟩=>hl (h2▸nj j h1)),if_neg hl]
 have ZU: ∀b,Ok π' b\/X.Sc b->D1 b:=by
  intro b hb
  show (if s.flat then λ_=>True else dZ S πc vq) b
  split
  ·trivial
  rename_i hnf
  rcases hb with ⟨l,q,hl,hf⟩|hb
  ·by_cases hk: ∃j,j<s.Nl/\l=Bt ks j
   ·obtain ⟨j,hj,rfl⟩:=hk
    rw [pF j hj,QK] at hl
    cases hp:vq (Fp j) with
    |none=>rw [hp] at hl;cases hl
    |some q0=>rw [hp] at hl;simp only [Option.map_some,Option.some.injEq] at hl;subst hl;exact .inr (.inr ⟨Fp j,q0,hp,hf⟩)
   ·have e0:π' l=if l∈dead then none else π l:=tb l hk
    rw [e0] at hl
    split at hl
    ·cases hl
    ·rename_i QB
     by_cases ho:Ok πc b
     ·obtain ⟨c,q',hc,hcb⟩:=ho
      obtain ⟨t,t1,t2,t0,p,t3,t4,_⟩:=Ox c q' b hc hcb
      have td:=h.1.apart hl t3 hf t4
      refine .inr (.inl ⟨c,q',Classical.byContradiction λhn=>?_,hc,hcb⟩)
      exact QB (List.mem_append_left _ (List.mem_append_left _ (Yu.2 ⟨t,OL▸t1,⟨by rw [t2];omega,t0⟩,td.symm⟩)))
     ·refine .inl ⟨ho, .inl ⟨⟨l,q,hl,hf⟩,λl0 VP r0 WA hf0=>?_⟩⟩
      have:=h.1.apart hl WA hf hf0
      subst this
      exact QB (List.mem_append_right _ (by rw [if_neg hnf];exact nK.2 (hV' l VP)))
  ·refine .inl ⟨λho=>?_, .inr hb⟩
   have h1:=h.1.sc b hb
   rcases (h.1.own (zj b ho)).2 with h2|h2
   ·omega
   ·exact h1.2 h2
 have hpd: ∀l∈pl,l∉dead:= λl hl hd=>by
  rcases List.mem_append.1 hd with hd|hd
  ·rcases List.mem_append.1 hd with hd|hd
   ·obtain ⟨t,ht,_,e⟩:=Yu.1 hd
    exact (FC l hl).1 (List.mem_map.2 ⟨t,ht,e⟩)
   ·exact (FC l hl).2 hd
  ·split at hd
   ·cases hd
   ·obtain ⟨t,ht,_,e⟩:=nK.1 hd
    exact (FC l hl).1 (List.mem_map.2 ⟨t,ht,e⟩)
 have VN: ∀j,j<s.Nl->Bt ks j∉pl:= λj hj hp=>hpd _ hp (nj j hj)
 let bv:Option OB:=s.rp.map λtid=> .var tid ((Vj (Bt ks) 0 s.outs r).drop s.Te)
 let H1:=(lE s.ins (Vj (Bt ks) 0 s.outs r) pl (st1.Wi dead part)).heap
 have YX: ∀l,l∉pl->Ad H1 l=if l∈dead then none else (Ad st1.heap l).map (OB.map (Ax dead part)):= λl hl=>by
  show Ad (lE _ _ _ _).heap l=_
  rw [AS hl]
  show Ad (Pz (st1.heap.map λp=>(p.1,p.2.map (Ax dead part))) dead) l=_
  rw [Ii,Jf]
 let H2:=wL H1 (Ms d) bv
 have hvd: ∀tid,s.rp=some tid->Ms d∈dead/\Ms d∉pl:= λtid Qh=>by
  obtain ⟨e1,e2⟩:=QH tid Qh
  rw [<-e1]
  exact ⟨nj _ (by omega),VN _ (by omega)⟩
 have ZY: ∀l,(∀tid,s.rp=some tid->l≠Ms d)->Ad H2 l=Ad H1 l:= λl hl=>by
  show Ad (wL H1 (Ms d) (s.rp.map _)) l=_
  cases yC:s.rp with
  |none=>rfl
  |some tid=>exact Jo _ _ _ _ (hl tid yC)
 have Aeq: ∀tid,s.rp=some tid->Ad H2 (Ms d)=some (.var tid ((Vj (Bt ks) 0 s.outs r).drop s.Te)):= λtid Qh=>by
  show Ad (wL H1 (Ms d) (s.rp.map _)) (Ms d)=_
  rw [Qh]
  exact Km _ _ _ (by rw [YX _ (hvd tid Qh).2,if_pos (hvd tid Qh).1])
 have hkv: ∀j,j<s.outs.length-> ∀tid,s.rp=some tid->Bt ks j≠Ms d:= λj hj tid Qh e=>by
  have:=KD j s.outs.length (e.trans (QH tid Qh).1.symm)
  omega
 have hH2: ∀l,l∉pl->(∀tid,s.rp=some tid->l≠Ms d)->Ad H2 l=if l∈dead then none else (Ad st1.heap l).map (OB.map (Ax dead part)):= λl hl hv=>by
  rw [ZY l hv,YX l hl]
 let H':=Qn (CW st (gN tks)) (Bt ks) 0 s.outs r H2
 obtain ⟨n1,n2,n3⟩:=kZ (D:=D1) (X:=X) (key:=Bt ks) KD (fr:=CW st (gN tks)) (ρ:=ρ) s.outs 0 r Pn H2 Aat (λj _ hj=>by
  rw [hH2 _ (VN j (by omega)) (hkv j (by omega)),if_pos (nj j (by omega))])
 have jv: ∀l,l∉dead->l∉pl->Ad H' l=(Ad st1.heap l).map (OB.map (Ax dead part)):= λl hl nm=>by
  show Ad (Qn _ _ _ _ _ _) l=_
  rw [n1 l λj _ hj e=>hl (e▸nj j (by omega)),hH2 l nm (λtid Qh e=>hl (e▸(hvd tid Qh).1)),if_neg hl]
 have PN: ∀l,l∈dead->(∀j,j<s.Nl->l≠Bt ks j)->Ad H' l=none:= λl hl hj=>by
  show Ad (Qn _ _ _ _ _ _) l=_
  rw [n1 l λj _ h2=>hj j (by omega),hH2 l (λhp=>hpd l hp hl) (λtid Qh e=>hj s.outs.length (by have:=(QH tid Qh).2;omega) (e.trans (QH tid Qh).1.symm)),if_pos hl]
 have newAt: ∀l b',Ad H' l=some b'->(l∈dead\/Ad st.heap l=none)-> ∃j,j<s.Nl/\l=Bt ks j:=by
  intro l b' hb hd
  refine Classical.byContradiction λhn=>?_
  have m7: ∀j,j<s.Nl->l≠Bt ks j:= λj hj e=>hn ⟨j,hj,e⟩
  rcases Classical.em (l∈dead) with hd'|hd'
  ·rw [PN l hd' m7] at hb;cases hb
  ·rcases hd with hd|hd
   ·exact hd' hd
   ·rw [jv l hd' (λhp=>by obtain ⟨_,_,_,_,_,_,_,h1,_⟩:=FD l hp;rw [hd] at h1;cases h1)] at hb
    have:Ad st1.heap l=none:=by
     by_cases hi: ∃t∈Gu 0 s.ins as,t.2.Po=l
     ·obtain ⟨t,ht,e⟩:=hi
      by_cases Fg:t.1<Ak
      ·rw [<-e,q3 t ht Fg,e];exact hd
      ·obtain ⟨b0,_,h1,_⟩:=q4 t ht Fg
       rw [e,hd] at h1;cases h1
     ·rw [q2 l λt ht e=>hi ⟨t,ht,e.symm⟩];exact hd
    rw [this] at hb;cases hb
 have VG: ∀k,CW st (gN tks)=true-> ∀q,ρ (Fp k)=some q->q.Ba q.g->X.w0.heap.size<=q.g:=by
  intro k zd q hq hg
  rcases (KF.Ti _ q _ hq hg).2 with h1|⟨c,p,h1,h2,h3⟩
  ·exact Nat.le_trans h.1.below.size h1
  ·obtain ⟨t,t1,t2,t0,p',t3,t4,_⟩:=Ox c p _ h2 h3
   have hm:t.2.Po∈gN tks:=Yu.2 ⟨t,OL▸t1,⟨by rw [t2];exact h1,t0⟩,rfl⟩
   have:=List.all_eq_true.1 zd _ hm
   split at this
   ·rename_i fr tr e te xs hl
    unfold St.at at hl
    have hb:=(h.1.heap t.2.Po).Lc hl
    simp only [Au,Fl,t3] at hb
    rw [hb.1.2.1 _ t4]
    exact hb.1.2.2 this
   ·cases this
 have VE: ∀k q,ρ (Fp k)=some q->k<s.outs.length->q.Ba q.g:=by
  intro k q hq hk
  exact Eo.RY s.outs 0 r Pn zi k (Nat.zero_le _) ((Nat.zero_add _).symm▸hk) q hq
 have hinv: ∀l,l∉dead->(∃t∈Gu 0 s.ins as,t.2.reads=false/\t.2.Po=l)->gC X D1 w' π st.heap st1.heap l:=by
  rintro l hd ⟨t,ht,h0,rfl⟩
  by_cases Fg:t.1<Ak
  ·exact absurd (List.mem_append_left _ (List.mem_append_left _ (Yu.2 ⟨t,OL▸ht,⟨Fg,h0⟩,rfl⟩))) hd
  ·exact q4 t ht Fg
 have tf: ∀l,(¬ ∃t∈Gu 0 s.ins as,t.2.reads=false/\t.2.Po=l)->Ad st1.heap l=Ad st.heap l:= λl hn=>by
  by_cases hi: ∃t∈Gu 0 s.ins as,t.2.Po=l
  ·obtain ⟨t,ht,rfl⟩:=hi
   have hr:t.2.reads=true:=by
    cases h0:t.2.reads with
    |true=>rfl
    |false=>exact absurd ⟨t,ht,h0,rfl⟩ hn
   exact q3 t ht (WC t ht hr)
  ·exact q2 l λt ht e=>hi ⟨t,ht,e.symm⟩
 have SF: ∀l∈pl,∀p,s.ptr=some p->Ad H' l=some (.var p.1 (bl s.ins (cells.map (Ax dead part)) (Vj (Bt ks) 0 s.outs r))):= λl hl p hp=>by
  obtain ⟨p',q,h1,h2,_,_,_,h3,_⟩:=FD l hl
  rw [hp] at h1;cases h1
  show Ad (Qn _ _ _ _ _ _) l=_
  rw [n1 l λj _ hj e=>VN j (by omega) (e▸hl),ZY l (λtid Qh e=>(hvd tid Qh).2 (e▸hl))]
  show Ad (lE _ _ _ _).heap l=_
  rw [h2]
  refine GX ?_
  show Ad (Pz (st1.heap.map λp=>(p.1,p.2.map (Ax dead part))) dead) l=_
  rw [Ii,Jf,if_neg (hpd l hl),tf l (λ⟨t,ht,_,e⟩=>QE l hl t ht e),h3]
  rfl
 have SY: ∀j,j<s.Nl->s.outs.length<=j-> ∃tid,s.rp=some tid/\j=s.outs.length:= λj h1 h2=>by
  cases yC:s.rp with
  |none=>unfold MSpec.Nl at h1;rw [yC] at h1;simp at h1;omega
  |some tid=>exact ⟨tid,rfl,by have:=(QH tid yC).2;omega⟩
 have hHv: ∀tid,s.rp=some tid->Ad H' (Ms d)=some (.var tid ((Vj (Bt ks) 0 s.outs r).drop s.Te)):= λtid Qh=>by
  show Ad (Qn _ _ _ _ _ _) _=_
  rw [n1 _ λj _ hj e=>hkv j (by omega) tid Qh e.symm,Aeq tid Qh]
 suffices Aal:Aj X π' (fq st st1 d s pl tks r) a w'/\Am X w' π' (fq st st1 d s pl tks r).heap av0 v by
  obtain ⟨m1,m2⟩:=Aal
  have vg: ∀(kj:List (Nat×Nat)) (l:Nat),l∈Ve st.heap ks tks kj->ij st.heap l=true/\ ∃k j t,(k,j)∈kj/\t∈tks/\t=(Bq false k,Loc.row l)/\ks[j]?=some l:=by
   intro kj
   induction kj with
   |nil=>intro l hl;cases hl
   |cons p kj ih=>
    intro l hl
    obtain ⟨k,j⟩:=p
    have up:l∈Ve st.heap ks tks kj->ij st.heap l=true/\ ∃k' j' t,(k',j')∈(k,j)::kj/\t∈tks/\t=(Bq false k',Loc.row l)/\ks[j']?=some l:= λhl=>by
     obtain ⟨h1,k',j',t,h2,h3⟩:=ih l hl
     exact ⟨h1,k',j',t,List.mem_cons_of_mem _ h2,h3⟩
    simp only [Ve] at hl
    split at hl
    ·rename_i x0 l1 l2 h1 h2
     split at hl
     ·rename_i hc
      simp only [Bool.and_eq_true] at hc
      rcases List.mem_cons.1 hl with rfl|hl
      ·have:=List.find?_some h1
       have e1:=Nat.eq_of_beq_eq_true this
       have e2:=Nat.eq_of_beq_eq_true hc.1
       dsimp only at e1
       exact ⟨hc.2,k,j,_,List.mem_cons_self,List.mem_of_find?_eq_some h1,by rw [e1],by rw [h2,e2]⟩
      ·exact up hl
     ·exact up hl
    ·exact up hl
  obtain ⟨r1,r2⟩:=zv h m1 (ls:=Ve st.heap ks tks s.keeps) (n:=s.Ci x) (λl hl=>by
   obtain ⟨_,k,j,t,h1,h2,h3,h4⟩:=vg s.keeps l hl
   have hj:j<ks.length:=(List.getElem?_eq_some_iff.1 h4).1
   have IN:Bt ks j=l:=by
    rw [Ld hj]
    rw [List.getElem?_eq_getElem hj] at h4
    exact Option.some.inj h4
   have pG:=ru (k,j) h1
   rw [show π' l=ρ (Fp j) by rw [<-IN];exact pF j (by omega),QK]
   have hc:πc (Bq false k)=(π l).map full:=Aa0 k l (by rw [<-h3,<-OL];exact h2)
   dsimp only at pG
   rw [hc] at pG
   cases hp:π l<;>cases hq:vq (Fp j)<;>(rw [hp,hq] at pG;exact pG)) (λl hl=>(vg s.keeps l hl).1) Jy
  exact ⟨π',r1,r2 av0 v m2⟩
 refine ⟨?_,?_⟩
 ·have hx:=Aj.UN (π':=π') (H':=H') (dead:=dead) (part:=part) (inv:= λl=>(∃t∈Gu 0 s.ins as,t.2.reads=false/\t.2.Po=l)\/l∈pl) (gv:= λb=>Ok πc b\/s.gv g b) h (λb hb=>by
    rcases hb with hb|hb
    ·obtain ⟨t,h1,h0,q,h2,h3,_⟩:=Yo b hb
     exact ⟨_,q, .inl ⟨t,h1,h0,rfl⟩,h2,h3⟩
    ·obtain ⟨l,hl,q,h1,h2,_⟩:=EX b hb
     exact ⟨l,q, .inr hl,h1,h2⟩) PS (λl b0 hd h0=>⟨KR l hd,?_⟩) (λl b' hb hd=>?_) (λl hl=>?_) (λm q hd hp hm hxa=>?_)
  ·have:({tmps:=(lE s.ins (Vj (Bt ks) 0 s.outs r) pl (st1.Wi dead part)).tmps,heap:=H'} :St)= {tmps:=st.tmps.map (·.map (Ax dead part)),heap:=H'} :=by
    rw [k8]
    show ({tmps:=st1.tmps.map (·.map (Ax dead part)),heap:=H'} :St)=_
    rw [q1]
   show Aj X π' ({tmps:=(lE s.ins (Vj (Bt ks) 0 s.outs r) pl (st1.Wi dead part)).tmps,heap:=H'} :St) a w'
   rw [this]
   exact hx
  ·by_cases PY:l∈pl
   ·obtain ⟨p,q,h1,h2,h3,h4,h5,h6,h7⟩:=FD l PY
    rw [h0] at h6;cases h6
    have ph:=SF l PY p h1
    refine .inr ⟨_,ph,⟨rfl,by rw [jR]⟩,λm=>?_⟩
    unfold fj at rh
    rw [h1] at rh
    obtain ⟨cs,k1,k2,k3⟩:=rh
    rw [<-h7] at k3
    refine ⟨q,h3,h4,cs.toArray,by rw [<-h5];exact k1,?_⟩
    refine Hy.to (dL (H:=st.heap) KR (λl1 b1 sz n hd1 JS QF=>?_) s.ins 0 cells j6 x us o st st1 (Vj (Bt ks) 0 s.outs r) Pn cs (has▸hT) Aaj (has▸VY) k3 (n3 π' ZU (λj _ hj=>pF j (by omega)))) (by simpa using k2)
    have hnp:l1∉pl:= λhp=>by
     obtain ⟨_,_,_,_,_,_,_,h8,_⟩:=FD l1 hp
     rw [JS] at h8;cases h8;cases QF
    by_cases hi: ∃t∈Gu 0 s.ins as,t.2.reads=false/\t.2.Po=l1
    ·obtain ⟨b1,b',e1,e2,e3,e4,e5,e6⟩:=hinv l1 hd1 hi
     rw [JS] at e1;cases e1
     exact ⟨b',by rw [jv l1 hd1 hnp,e2];simp [e4],by rw [e5.row];exact QF⟩
    ·exact ⟨_,by rw [jv l1 hd1 hnp,tf l1 hi,JS];rfl,by rw [OB.ud];exact QF⟩
   by_cases hi: ∃t∈Gu 0 s.ins as,t.2.reads=false/\t.2.Po=l
   ·obtain ⟨b1,b',e1,e2,e3,e4,e5,e6⟩:=hinv l hd hi
    rw [h0] at e1;cases e1
    exact .inr ⟨b',by rw [jv l hd PY,e2];simp [e4],by rw [e3];exact e5,λ_=>e6 π' H' ZU⟩
   ·exact .inl ⟨λhh=>hh.elim hi PY,by rw [jv l hd PY,tf l hi,h0];rfl⟩
  ·obtain ⟨j,hj,rfl⟩:=newAt l b' hb hd
   refine ⟨Afu j hj,?_,λq b hq=>?_⟩
   ·rw [pF j hj]
    rcases Nat.lt_or_ge j s.outs.length with ZD|ZD
    ·rcases n2 j (Nat.zero_le _) (by omega) with ⟨e1,_⟩|⟨b2,e1,e2⟩
     ·rw [show Ad H' (Bt ks j)=none from e1] at hb;cases hb
     ·rw [show Ad H' (Bt ks j)=some b2 from e1] at hb;cases hb
      exact e2 X π' H' (λhf q hq=>VG j hf q hq (VE j q hq ZD)) ZU
    ·obtain ⟨tid,Qh,hj0⟩:=SY j hj ZD
     subst hj0
     rw [(QH tid Qh).1,hHv tid Qh] at hb;cases hb
     unfold mo at a8
     rw [Qh] at a8
     obtain ⟨q,y1,y2,y3,y4,_⟩:=a8
     rw [QK,y1]
     exact ⟨full q,rfl,y2,_,y3,Hy.to (Hy.take s.Te (n3 π' ZU (λj _ hj=>pF j (by omega)))).2 (by simpa using y4)⟩
   ·rw [pF j hj] at hq
    have Lx:=SL _ q hq
    refine ⟨λhf=>by rw [Lx];exact hf,λhf=>?_⟩
    rw [Lx] at hf
    obtain ⟨h1,h2⟩:=KF.Ti _ q b hq hf
    refine ⟨h1,h2.imp id ?_,λl2 r2 hd2 FA VC=>?_⟩
    ·rintro ⟨c,p,h3,h4,h5⟩
     obtain ⟨t,t1,t2,t0,p',t3,t4,_⟩:=Ox c p b h4 h5
     exact ⟨t.2.Po,p',List.mem_append_left _ (List.mem_append_left _ (Yu.2 ⟨t,OL▸t1,⟨by rw [t2];exact h3,t0⟩,rfl⟩)),t3,t4⟩
    ·by_cases hk: ∃j,j<s.Nl/\l2=Bt ks j
     ·obtain ⟨j2,hj2,rfl⟩:=hk
      rw [pF j2 hj2] at FA
      rw [SL _ r2 FA] at VC
      have:=KF.inj _ _ r2 q b FA hq VC hf
      unfold Fp at this
      have:j2=j:=by omega
      rw [this]
     ·have e0:π' l2=if l2∈dead then none else π l2:=tb l2 hk
      rw [e0] at FA
      split at FA
      ·cases FA
      ·rename_i QB
       rcases hd2 with hd2|hd2
       ·exact absurd hd2 QB
       ·rw [(h.1.heap l2).emp hd2] at FA;cases FA
  ·by_cases hk: ∃j,j<s.Nl/\l=Bt ks j
   ·obtain ⟨j,hj,rfl⟩:=hk
    rw [pF j hj]
    rcases Nat.lt_or_ge j s.outs.length with ZD|ZD
    ·rcases n2 j (Nat.zero_le _) (by omega) with ⟨_,e1⟩|⟨b2,e1,_⟩
     ·exact e1
     ·rw [show Ad H' (Bt ks j)=some b2 from e1] at hl;cases hl
    ·obtain ⟨tid,Qh,hj0⟩:=SY j hj ZD
     subst hj0
     rw [(QH tid Qh).1,hHv tid Qh] at hl;cases hl
   ·have e0:π' l=if l∈dead then none else π l:=tb l hk
    rw [e0]
    split
    ·rfl
    ·rename_i hd
     by_cases PY:l∈pl
     ·obtain ⟨p,_,h1,_⟩:=FD l PY
      rw [SF l PY p h1] at hl;cases hl
     rw [jv l hd PY] at hl
     by_cases hi: ∃t∈Gu 0 s.ins as,t.2.reads=false/\t.2.Po=l
     ·obtain ⟨_,b',_,e2,_⟩:=hinv l hd hi
      rw [e2] at hl;cases hl
     ·rw [tf l hi] at hl
      cases h0:Ad st.heap l with
      |none=>exact (h.1.heap l).emp h0
      |some b=>rw [h0] at hl;cases hl
  ·refine PS.block _ (h.1.lt hm).1 λzh=>?_
   rcases zh with ho|hg
   rotate_left
   ·obtain ⟨l,hl,q',h1,h2,_⟩:=EX _ hg
    have td:=h.1.apart hm h1 (h.1.Ba hm) h2
    obtain ⟨_,_,_,_,_,_,_,h3,_⟩:=FD l hl
    obtain ⟨b,hxa,hxb⟩:=hxa
    rw [td,h3] at hxa;cases hxa
    exact hxb rfl
   obtain ⟨t,t1,t0,p,t3,t4,t5⟩:=Yo _ ho
   have td:=h.1.apart hm t3 (h.1.Ba hm) t4
   have ZJ:p=q:=by rw [<-td,hm] at t3;exact (Option.some.inj t3).symm
   cases TJ:t.2 with
   |row l=>
    refine hp ?_
    show m∈whole tks
    unfold whole
    exact List.mem_flatMap.2 ⟨t,OL▸t1,by rw [TJ,td,TJ];simp [Loc.Po]⟩
   |sub l i j=>exact t5 l i j TJ (by rw [ZJ])
   |view l=>rw [TJ] at t0;cases t0
 ·have Age:=n3 π' ZU (λj _ hj=>pF j (by omega))
  cases yC:s.rp with
  |some tid=>
   unfold mo at a8
   rw [yC] at a8
   obtain ⟨q,y1,y2,y3,y4,rfl⟩:=a8
   unfold QX at cm
   rw [yC] at cm
   simp only [Option.some.injEq] at cm;subst cm
   refine ⟨full q,tid,_,hHv tid yC,?_,rfl⟩
   rw [<-(QH tid yC).1,pF _ (by have:=(QH tid yC).2;omega),QK,y1]
   rfl
  |none=>
  unfold mo at a8
  rw [yC] at a8
  obtain ⟨a8,Agk⟩:=a8
  unfold QX at cm
  rw [yC] at cm
  simp only at cm
  obtain ⟨g1,g2,g3,g4⟩:=Yl s.Ef _ (Pn.drop s.Te) Agk (Hy.take s.Te Age).2
  unfold Ac6 at cm
  unfold MP at a8
  split at cm
  ·rename_i hm
   rw [if_pos hm] at a8
   simp only [Option.some.injEq] at cm;subst cm
   subst a8
   exact ⟨_,rfl,g3.symm,g4⟩
  ·rename_i hm
   rw [if_neg hm] at a8
   split at cm
   ·rename_i av1 hga
    simp only [Option.some.injEq] at cm;subst cm
    rcases a8 with a8|a8
    ·exact g2 0 _ v (by rw [hga];rfl) (by rw [a8];rfl)
    ·rw [hga,a8] at g1;cases g1
   ·simp only [Option.some.injEq] at cm;subst cm;trivial
   ·cases cm
end
end Go.Proofs.YtfolipnappekaaaGreat
