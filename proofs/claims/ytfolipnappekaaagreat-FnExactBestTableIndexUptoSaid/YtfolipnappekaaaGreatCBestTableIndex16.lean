/-
  Part 17 of the proof that the statement FnExactBestTableIndex holds.
-/
import Derived.Test.YtfolipnappekaaaGreatCBestTableIndex15
namespace Go.Proofs.YtfolipnappekaaaGreat
open Go.RowKit
section
variable {P:Program} {T:Tab} {X:Ctx} {w w':World} {π π':Pi} {H H':List (Nat×OB)}
theorem Uc (k:Nat): ¬Bq true k<Ak:=by unfold Bq Ak;simp
theorem aD {k:Nat} (h:k<100000):Bq false k<Ak:=by unfold Bq Ak;simp;omega
def gH (X:Ctx) (D:Nat->Prop) (w':World) (π:Pi) (H Hn:List (Nat×OB)) (l:Nat):Prop:=
 ∃b0 b',Ad H l=some b0/\Ad Hn l=some b'/\(∀f,OB.map f b0=b0)/\(∀f,OB.map f b'=b')/\b0.aj b'/\ ∀π' H',(∀b,Om π' b\/X.Sc b->D b)->Au X w' π' H' (π l) b'
theorem NV {io:Bool} {k:Nat} {τ:Ty} {a:AC} {t:Nat×Loc} (h:t∈Kk io k (.Ee τ) a):t.1=Bq false k:=by
 cases a<;>simp [Kk,views] at h<;>first|(obtain ⟨_,⟨_,_⟩,rfl⟩:=h;rfl)|(rw [h])
theorem HS {io:Bool} {k:Nat} {e:Ty} {te:TypeId} {a:AC} {t:Nat×Loc} (h:t∈Kk io k (.part e te) a):t.1=Bq io k:=by cases a<;>simp [Kk] at h<;>rw [h]
theorem NW {io:Bool} {k:Nat} {e:Ty} {te:TypeId} {a:AC} {t:Nat×Loc} (h:t∈Kk io k (.row e te) a):t.1=Bq io k:=by cases a<;>simp [Kk] at h<;>rw [h]
theorem HT {io:Bool} {k:Nat} {e:Ty} {te:TypeId} {a:AC} {t:Nat×Loc} (h:t∈Kk io k (.Dp e te) a):t.1=Bq io k:=by cases a<;>simp [Kk] at h<;>rw [h]
theorem Zw {D:Nat->Prop} {π':Pi} {fr:Bool} {e:Ty} {es:List Value} {y:e.den} (hD: ∀b,Om π' b\/X.Sc b->D b) (h:Cells w' D e es y):Cells w' (Bd X.w0.heap.size X.Sc π' (fr&&e.flat)) e es y:=by
 cases hf:e.flat with
 |true=>exact Cells.flat e es y hf h
 |false=>exact Cells.Ci (Nat.le_refl _) (λ_ _ _=>rfl) (λb _ hb=>by
   rcases hb with hb|hb|⟨hb,_⟩
   ·exact hD b (.inl hb)
   ·exact hD b (.inr hb)
   ·simp at hb) e es y h
theorem HV {D P:Nat->Prop} {g o:Nat} {cur:Array Value} {tr:Bool} {e:Ty} {xs:List e.den}
  (h: ∀(i:Nat) (x:e.den),xs[i]?=some x-> ∃es:List Value,es.length=e.size/\(∀j u,es[j]?=some u->cur[(o+i)*e.size+j]?=some u)/\Cells w' D e es x) (ht:(tr&&e.flat)=true):Px w' P g o cur e xs:=by
 simp only [Bool.and_eq_true] at ht
 exact hI ht.2 h
theorem GV {D:Nat->Prop} (h:Hx X w π H) {k:Nat} {c:CK} {ys:c.den} {a:AC} {u:Value} {r:Option Real} {x:c.den} {cur st1:St} (hs:w.heap.size<=w'.heap.size)
  (hU: ∀l i j q b,a= .sub l i j->π l=some q->q.Ba b->b<w.heap.size->(∀r',r=some r'-> ¬r'.Ba b)->w'.heap[b]?=w.heap[b]?)
  {V:List Nat} (ht:Zm w (Ja X π V) r u c x/\Mv w π H true a u r c x) (hr:aU w' D r c ys) (he:Wa cur c ys a=some st1) (bC: ∀t∈Kk true k c a,Ad cur.heap t.2.Pq=Ad H t.2.Pq):
  st1.tmps=cur.tmps/\(∀m,(∀t∈Kk true k c a,m≠t.2.Pq)->Ad st1.heap m=Ad cur.heap m)/\ ∀t∈Kk true k c a,gH X D w' π H st1.heap t.2.Pq:=by
 obtain ⟨hc,ht⟩:=ht
 cases c with
 |Ee τ=>cases a<;>simp [Wa] at he;subst he;exact ⟨rfl,λ_ _=>rfl,λt ht=>by simp [Kk] at ht⟩
 |row e te=>
  simp only [Mv] at ht
  cases a<;>simp only [] at ht<;>first|(exact ht.elim)|skip
  ·simp only [Wa,Option.some.injEq] at he;subst he
   exact ⟨rfl,λ_ _=>rfl,λt ht=>by simp [Kk] at ht⟩
  ·rename_i l off len
   obtain ⟨rfl,rfl,rfl,fr,tr,hl⟩:=ht
   have Ly:Ad cur.heap l=some (.arr fr tr e te x):=(bC _ (List.mem_singleton.2 rfl)).trans hl
   simp only [Wa,St.at,Ly] at he
   split at he
   ·rename_i Ey
    obtain ⟨_,h1,_⟩:=Ey
    simp only [Option.some.injEq] at he;subst he
    refine ⟨rfl,λm hm=>Bs _ _ _ _ (hm _ (List.mem_singleton.2 rfl)),λt On=>?_⟩
    have On:=List.mem_singleton.1 On
    subst On
    refine ⟨_,_,hl,Cb _ _ _ _ Ly,λ_=>rfl,λ_=>rfl,⟨rfl,h1.symm⟩,λπ' H' hD=>?_⟩
    have hb:=(h.heap l).Lc hl
    change Au X w' π' H' (π l) _
    simp only [Au,Fl] at hb⊢
    cases hp:π l with
    |none=>rw [hp] at hr;exact hr
    |some q=>
     rw [hp] at hr hb
     obtain ⟨k1,cu,ti,k2,k3,k4,k5,k6⟩:=hr
     exact ⟨⟨k1.1,k1.2,λhh=>hb.1.2.2 (by simp only [Bool.and_eq_true] at hh;exact hh.1)⟩,cu,ti,k2,k3,k4,k5,λi y hy=>by
      obtain ⟨es,g1,g2,g3⟩:=k6 i y hy
      exact ⟨es,g1,g2,Zw hD g3⟩,λht=>HV k6 ht⟩
   ·cases he
  ·rename_i l i j
   obtain ⟨⟨_,hf⟩,tid,xs,hl,hx,q,hq,Oz,hre⟩:=ht
   have Ly:Ad cur.heap l=some (.Cz (.slice e) tid xs):=(bC _ (List.mem_singleton.2 rfl)).trans hl
   simp only [Wa,St.at,Ly,hx] at he
   rw [dif_pos trivial] at he
   ·split at he
    ·rename_i h1
     simp only [Option.some.injEq] at he;subst he
     refine ⟨rfl,λm hm=>Bs _ _ _ _ (hm _ (List.mem_singleton.2 rfl)),λt On=>?_⟩
     have On:=List.mem_singleton.1 On
     subst On
     refine ⟨_,_,hl,Cb _ _ _ _ Ly,λ_=>rfl,λ_=>rfl,⟨rfl,by simp⟩,λπ' H' _=>?_⟩
     show Im w' (π l) (.slice e) tid _
     rw [hq]
     refine hre w' ys hs (λb Fg hb hn=>hU l i j q b rfl hq hb Fg hn) ?_
     have hv:=hc.1
     rw [<-show List.length ys=List.length x from h1] at hv
     exact Mh.BU hr hf hv
    ·cases he
 |Dp e te=>
  simp only [Mv] at ht
  cases a<;>simp only [] at ht<;>first|(exact ht.elim)|skip
  ·simp only [Wa,Option.some.injEq] at he;subst he
   exact ⟨rfl,λ_ _=>rfl,λt ht=>by simp [Kk] at ht⟩
  ·rename_i l off len
   obtain ⟨rfl,rfl,rfl,hl⟩:=ht
   have Ly:Ad cur.heap l=some (.Cz e te x):=(bC _ (List.mem_singleton.2 rfl)).trans hl
   simp only [Wa,St.at,Ly] at he
   split at he
   ·rename_i Ey
    obtain ⟨_,h1,_⟩:=Ey
    simp only [Option.some.injEq] at he;subst he
    refine ⟨rfl,λm hm=>Bs _ _ _ _ (hm _ (List.mem_singleton.2 rfl)),λt On=>?_⟩
    have On:=List.mem_singleton.1 On
    subst On
    refine ⟨_,_,hl,Cb _ _ _ _ Ly,λ_=>rfl,λ_=>rfl,⟨rfl,h1.symm⟩,λπ' H' _=>?_⟩
    show Im w' (π l) e te _
    cases hp:π l with
    |none=>rw [hp] at hr;exact hr
    |some q=>rw [hp] at hr;exact hr
   ·cases he
  ·rename_i l i j
   obtain ⟨_,tid,xs,hl,hx,q,hq,Oz,hre⟩:=ht
   have Ly:Ad cur.heap l=some (.Cz (.slice e) tid xs):=(bC _ (List.mem_singleton.2 rfl)).trans hl
   simp only [Wa,St.at,Ly,hx] at he
   rw [dif_pos trivial] at he
   ·split at he
    ·rename_i h1
     simp only [Option.some.injEq] at he;subst he
     refine ⟨rfl,λm hm=>Bs _ _ _ _ (hm _ (List.mem_singleton.2 rfl)),λt On=>?_⟩
     have On:=List.mem_singleton.1 On
     subst On
     refine ⟨_,_,hl,Cb _ _ _ _ Ly,λ_=>rfl,λ_=>rfl,⟨rfl,by simp⟩,λπ' H' _=>?_⟩
     show Im w' (π l) (.slice e) tid _
     rw [hq]
     refine hre w' ys hs (λb Fg hb hn=>hU l i j q b rfl hq hb Fg hn) ?_
     have hv:=hc.1
     rw [<-show List.length ys=List.length x from h1] at hv
     exact Im.BU (te:=te) hr hv
    ·cases he
 |part e te=>cases a<;>simp [Wa] at he<;>first|(simp only [Mv] at ht;exact ht.2.elim)
 |Ai e te kp=>exact absurd ht.1 (by simp)
theorem GW {D:Nat->Prop} (h:Hx X w π H) {k:Nat} {e:Ty} {te:TypeId} {ys:List e.den} {a:AC} {u:Value} {r:Option Real} {x:(CK.part e te).den} {cur st1:St}
  {V:List Nat} (ht:Zm w (Ja X π V) r u (.part e te) x/\Mv w π H true a u r (.part e te) x) (hr:aU w' D r (.row e te) ys) (he:AP cur e ys a=some st1) (bC: ∀t∈Kk true k (.part e te) a,Ad cur.heap t.2.Pq=Ad H t.2.Pq):
  st1.tmps=cur.tmps/\(∀m,(∀t∈Kk true k (.part e te) a,m≠t.2.Pq)->Ad st1.heap m=Ad cur.heap m)/\ ∀t∈Kk true k (.part e te) a,gH X D w' π H st1.heap t.2.Pq:=by
 obtain ⟨hc,hf,ht⟩:=ht
 cases a<;>simp only [] at ht<;>first|(exact ht.elim)|skip
 rename_i l off len
 obtain ⟨rfl,_,fr,tr,hl⟩:=ht
 have Ly:Ad cur.heap l=some (.arr fr tr e te x.1):=(bC _ (List.mem_singleton.2 rfl)).trans hl
 simp only [AP,St.at,Ly] at he
 split at he
 ·rename_i Ey
  obtain ⟨_,h1⟩:=Ey
  simp only [Option.some.injEq] at he;subst he
  refine ⟨rfl,λm hm=>Bs _ _ _ _ (hm _ (List.mem_singleton.2 rfl)),λt On=>?_⟩
  have On:=List.mem_singleton.1 On
  subst On
  refine ⟨_,_,hl,Cb _ _ _ _ Ly,λ_=>rfl,λ_=>rfl,⟨rfl,h1.symm⟩,λπ' H' _=>?_⟩
  have hb:=(h.heap l).Lc hl
  change Au X w' π' H' (π l) _
  simp only [Au,Fl] at hb⊢
  cases hp:π l with
  |none=>rw [hp] at hr;exact hr
  |some q=>
   rw [hp] at hr hb
   obtain ⟨k1,cu,ti,k2,k3,k4,k5,k6⟩:=hr
   exact ⟨⟨k1.1,k1.2,hb.1.2.2⟩,cu,ti,k2,k3,k4,k5,λi y hy=>by
    obtain ⟨es,g1,g2,g3⟩:=k6 i y hy
    exact ⟨es,g1,g2,Cells.flat e es y hf g3⟩,λ_=>hI hf k6⟩
 ·cases he
def m8 (X:Ctx) (D:Nat->Prop) (w':World) (π:Pi) (H:List (Nat×OB)) (tk:List (Nat×Loc)) (cur st1:St):Prop:=
 st1.tmps=cur.tmps/\(∀m,(∀t∈tk,m≠t.2.Pq)->Ad st1.heap m=Ad cur.heap m)/\(∀t∈tk,t.1<Ak->Ad st1.heap t.2.Pq=Ad cur.heap t.2.Pq)/\(∀t∈tk,¬t.1<Ak->gH X D w' π H st1.heap t.2.Pq)
theorem o9 {D:Nat->Prop} (h:Hx X w π H) {V:List Nat} {πc:Pi} {tks:List (Nat×Loc)} (hs:w.heap.size<=w'.heap.size)
  (hU: ∀t∈tks,∀q b,π t.2.Pq=some q->q.Ba b->b<w.heap.size->(∀r',πc t.1=some r'-> ¬r'.Ba b)->w'.heap[b]?=w.heap[b]?):
  ∀(cs:List (Bool×CK)) (k:Nat) (x:Ins.den cs) (as:List AC) (us:List Value) (o:IOs.den cs) (cur st1:St),k+cs.length<100000->(∀t∈Gu k cs as,t∈tks)->((Gu k cs as).map λt=>t.2.Pq).Nodup->
   lx X w π V H πc k cs x as us->Hb w' D πc k cs o->Dz cs o as cur=some st1->(∀t∈Gu k cs as,Ad cur.heap t.2.Pq=Ad H t.2.Pq)->
   m8 X D w' π H (Gu k cs as) cur st1
 | [],k,x,as,us,o,cur,st1,_,_,_,_,_,he,_=>by
  simp only [Dz,Option.some.injEq] at he;subst he
  have e0:Gu k [] as= []:=by cases as<;>rfl
  exact ⟨rfl,λ_ _=>rfl,by rw [e0];simp,by rw [e0];simp⟩
 |p::r,k,x,[],us,o,cur,st1,_,_,_,ht,_,_,_=>ht.elim
 |p::r,k,x,a::as,[],o,cur,st1,_,_,_,ht,_,_,_=>ht.elim
 |(io,c)::r,k,x,a::as,u::us,o,cur,st1,hk,Jy,OY,ht,ho,he,bC=>by
  simp only [List.length_cons] at hk
  simp only [Gu] at Jy OY bC⊢
  rw [List.map_append] at OY
  obtain ⟨n1,n2,n3⟩:=List.nodup_append.1 OY
  have apart: ∀t∈Kk io k c a,∀t'∈Gu (k+1) r as,t'.2.Pq≠t.2.Pq:= λt h1 t' h2 e=>n3 _ (List.mem_map.2 ⟨t,h1,rfl⟩) _ (List.mem_map.2 ⟨t',h2,rfl⟩) e.symm
  have rest: ∀(Sr:St) (o':IOs.den r),Hb w' D πc (k+1) r o'->Dz r o' as Sr=some st1->Sr.tmps=cur.tmps->(∀m,(∀t∈Kk io k c a,m≠t.2.Pq)->Ad Sr.heap m=Ad cur.heap m)->
    (∀t∈Kk io k c a,t.1<Ak->Ad Sr.heap t.2.Pq=Ad cur.heap t.2.Pq)->(∀t∈Kk io k c a,¬t.1<Ak->gH X D w' π H Sr.heap t.2.Pq)->
    m8 X D w' π H (Kk io k c a++Gu (k+1) r as) cur st1:=by
   intro Sr o' h1 h2 h3 h4 h5 h6
   obtain ⟨g1,g2,g3,g4⟩:=o9 h hs hU r (k+1) x.2 as us o' Sr st1 (by omega) (λt ht=>Jy t (List.mem_append_right _ ht)) n2 ht.2 h1 h2 (λt On=>by
    rw [h4 _ λt0 ht0=>apart t0 ht0 t On];exact bC t (List.mem_append_right _ On))
   have hd: ∀t∈Kk io k c a,Ad st1.heap t.2.Pq=Ad Sr.heap t.2.Pq:= λt On=>g2 _ λt' rE=>(apart t On t' rE).symm
   refine ⟨g1.trans h3,λm hm=>?_,λt On Fg=>?_,λt On Fg=>?_⟩
   ·rw [g2 m λt ht=>hm t (List.mem_append_right _ ht),h4 m λt ht=>hm t (List.mem_append_left _ ht)]
   ·rcases List.mem_append.1 On with On|On
    ·rw [hd t On,h5 t On Fg]
    ·rw [g3 t On Fg,h4 _ λt0 ht0=>apart t0 ht0 t On]
   ·rcases List.mem_append.1 On with On|On
    ·obtain ⟨b0,b',q1,q2,q3⟩:=h6 t On Fg
     exact ⟨b0,b',q1,(hd t On).trans q2,q3⟩
    ·exact g4 t On Fg
  have same: ∀o',Hb w' D πc (k+1) r o'->Dz r o' as cur=some st1->(∀t∈Kk io k c a,t.1<Ak)->m8 X D w' π H (Kk io k c a++Gu (k+1) r as) cur st1:= λo' h1 h2 h3=>rest cur o' h1 h2 rfl (λ_ _=>rfl) (λ_ _ _=>rfl) (λt h4 h5=>absurd (h3 t h4) h5)
  cases io with
  |false=>
   have h3: ∀t∈Kk false k c a,t.1<Ak:= λt h4=>by rcases ye h4 with ⟨h5,_⟩|⟨h5,_⟩<;>(rw [h5];exact aD (by omega))
   cases c with
   |Ee τ=>exact same o ho (by simpa only [Dz] using he) h3
   |row e te=>exact same o ho (by simpa only [Dz] using he) h3
   |Dp e te=>exact same o ho (by simpa only [Dz] using he) h3
   |part e te=>exact same o ho (by simpa only [Dz] using he) h3
   |Ai e te kp=>exact same o ho (by simpa only [Dz] using he) h3
  |true=>
   have row: ∀(ys:c.den) (o':IOs.den r),(∀t∈Kk true k c a,t.1=Bq true k)->aU w' D (πc (Bq true k)) c ys->Hb w' D πc (k+1) r o'->(∃Sr,Wa cur c ys a=some Sr/\Dz r o' as Sr=some st1)->m8 X D w' π H (Kk true k c a++Gu (k+1) r as) cur st1:=by
    intro ys o' h0 h1 h2 h3
    obtain ⟨Sr,hp,h3⟩:=h3
    ·obtain ⟨q1,q2,q3⟩:=GV (k:=k) h hs (λl i j q b ea hq hb Fg hn=>by
      cases c with
      |Ee τ=>exact absurd (ht.1.2:πc _=none) (by subst ea;simp [Wa] at hp)
      |row e te=>subst ea;exact hU (Bq true k, .sub l i j) (Jy _ (List.mem_append_left _ (List.mem_singleton.2 rfl))) q b hq hb Fg hn
      |Dp e te=>subst ea;exact hU (Bq true k, .sub l i j) (Jy _ (List.mem_append_left _ (List.mem_singleton.2 rfl))) q b hq hb Fg hn
      |Ai e te kp=>exact absurd ht.1.2.1 (by simp)
      |part e te=>exact absurd ht.1.2.2 (by subst ea;exact λh=>h)) ht.1 h1 hp (λt On=>bC t (List.mem_append_left _ On))
     exact rest Sr o' h2 h3 q1 q2 (λt h4 h5=>absurd h5 (by rw [h0 t h4];exact Uc k)) (λt h4 _=>q3 t h4)
   cases c with
   |Ee τ=>exact same o ho (by simpa only [Dz] using he) (λt h4=>by rw [NV h4];exact aD (by omega))
   |Ai e te kp=>exact absurd ht.1.2.1 (by simp)
   |row e te=>
    simp only [Dz] at he
    split at he
    ·rename_i Sr hp;exact row o.1 o.2 (λt ht=>NW ht) ho.1 ho.2 ⟨Sr,hp,he⟩
    ·cases he
   |Dp e te=>
    simp only [Dz] at he
    split at he
    ·rename_i Sr hp;exact row o.1 o.2 (λt ht=>HT ht) ho.1 ho.2 ⟨Sr,hp,he⟩
    ·cases he
   |part e te=>
    simp only [Dz] at he
    split at he
    ·rename_i Sr hp
     obtain ⟨q1,q2,q3⟩:=GW (k:=k) h ht.1 ho.1 hp (λt On=>bC t (List.mem_append_left _ On))
     exact rest Sr o.2 ho.2 he q1 q2 (λt h4 h5=>absurd h5 (by rw [HS h4];exact Uc k)) (λt h4 _=>q3 t h4)
    ·cases he
theorem zR {fr:Bool} {c:CK} {x:c.den} {u:Value} {r:Option Real} {D:Nat->Prop} (h:Zm w' D r u c x):
  (pU fr c x=none/\r=none)\/ ∃b',pU fr c x=some b'/\ ∀(X:Ctx) π' H',(fr=true-> ∀q,r=some q->X.w0.heap.size<=q.g)->(∀b,Om π' b\/X.Sc b->D b)->Au X w' π' H' r b':=by
 cases c with
 |Ee τ=>exact .inl ⟨rfl,h.1⟩
 |row e te=>
  refine .inr ⟨_,rfl,λX π' H' zl hD=>?_⟩
  obtain ⟨_,h⟩:=h
  simp only [aU] at h
  simp only [Au,Fl]
  cases r with
  |none=>exact h
  |some q=>
   obtain ⟨k1,cu,ti,k2,k3,k4,k5,k6⟩:=h
   exact ⟨⟨k1.1,k1.2,λh1=>zl (by simp only [Bool.and_eq_true] at h1;exact h1.1) q rfl⟩,cu,ti,k2,k3,k4,k5,λi y hy=>by
    obtain ⟨es,g1,g2,g3⟩:=k6 i y hy
    exact ⟨es,g1,g2,Zw hD g3⟩,λh=>by cases h⟩
 |Dp e te=>exact .inr ⟨_,rfl,λX π' H' _ _=>h.2⟩
 |Ai e te kp=>exact .inr ⟨_,rfl,λX π' H' _ hD=>⟨Tb.Ek h.2 λb hb=>hD b (hb.imp id λh=>h.elim id λh=>by cases h.1),trivial⟩⟩
 |part e te=>
  refine .inr ⟨_,rfl,λX π' H' zl hD=>?_⟩
  obtain ⟨_,hf,h⟩:=h
  simp only [Au,Fl]
  cases r with
  |none=>exact h
  |some q=>
   obtain ⟨k1,cu,ti,k2,k3,k4,k5,k6⟩:=h
   exact ⟨⟨k1.1,k1.2,λh1=>zl (by simp only [Bool.and_eq_true] at h1;exact h1.1) q rfl⟩,cu,ti,k2,k3,k4,k5,λi y hy=>by
    obtain ⟨es,g1,g2,g3⟩:=k6 i y hy
    exact ⟨es,g1,g2,Zw hD g3⟩,λh=>by cases h⟩
theorem l9 {D:Nat->Prop} {key:Nat->Nat} (KF: ∀i j,key i=key j->i=j) {fr:Bool} {ρ:Pi} : ∀(cs:List CK) (k:Nat) (x:CKs.den cs) (us:List Value) (H:List (Nat×OB)),Eo w' D ρ k cs x us->
  (∀j,k<=j->j<k+cs.length->Ad H (key j)=none)->
  (∀l,(∀j,k<=j->j<k+cs.length->l≠key j)->Ad (Qp fr key k cs x H) l=Ad H l)/\
  (∀j,k<=j->j<k+cs.length->(Ad (Qp fr key k cs x H) (key j)=none/\ρ (Fp j)=none)\/
   ∃b',Ad (Qp fr key k cs x H) (key j)=some b'/\ ∀(X:Ctx) π' H',(fr=true-> ∀q,ρ (Fp j)=some q->X.w0.heap.size<=q.g)->(∀b,Om π' b\/X.Sc b->D b)->Au X w' π' H' (ρ (Fp j)) b')/\
  (∀π',(∀b,Om π' b\/X.Sc b->D b)->(∀j,k<=j->j<k+cs.length->π' (key j)=ρ (Fp j))->Hy X w' π' (Qp fr key k cs x H) (Vl key k cs x) us)
 | [],k,x,[],H,_,_=>⟨λ_ _=>rfl,λj h1 h2=>by simp at h2;omega,λ_ _ _=>trivial⟩
 | [],_,_,_::_,_,h,_=>h.elim
 |_::_,_,_,[],_,h,_=>h.elim
 |c::r,k,x,u::us,H,h,hn=>by
  simp only [List.length_cons] at hn⊢
  simp only [Qp,Vl]
  have tj:=hn k (Nat.le_refl _) (by omega)
  have ZC: ∀l,l≠key k->Ad (wP H (key k) (pU fr c x.1)) l=Ad H l:=by
   intro l hl
   cases pU fr c x.1 with
   |some b=>exact Jo _ _ _ _ hl
   |none=>rfl
  have Aa2:Ad (wP H (key k) (pU fr c x.1)) (key k)=pU fr c x.1:=by
   cases pU fr c x.1 with
   |some b=>exact Km _ _ _ tj
   |none=>exact tj
  generalize (wP H (key k) (pU fr c x.1))=H1 at ZC Aa2⊢
  obtain ⟨g1,g2,g3⟩:=l9 KF (fr:=fr) r (k+1) x.2 us H1 h.2 (λj h1 h2=>by
   rw [ZC _ λe=>by have:=KF _ _ e;omega];exact hn j (by omega) (by omega))
  have OS:Ad (Qp fr key (k+1) r x.2 H1) (key k)=pU fr c x.1:=by
   rw [g1 _ λj h1 h2 e=>by have:=KF _ _ e;omega];exact Aa2
  refine ⟨λl hl=>?_,λj h1 h2=>?_,λπ' hd TR=>⟨?_,?_⟩⟩
  ·rw [g1 l λj h1 h2=>hl j (by omega) (by omega)]
   exact ZC l (hl k (Nat.le_refl _) (by omega))
  ·rcases Nat.eq_or_lt_of_le h1 with e|h1
   ·subst e
    rw [OS]
    exact zR h.1
   ·exact g2 j h1 (by omega)
  ·have h1:=h.1
   have ZN:=TR k (Nat.le_refl _) (by omega)
   cases c with
   |Ee τ=>
    obtain ⟨c7,c1,c2⟩:=h1.2
    exact ⟨c7,by have:=Zw (fr:=true) hd c1;simpa using this,c2⟩
   |row e te=>exact ⟨_,e.size,List.length x.1,OS,rfl,by simp,by rw [ZN];exact h1.1⟩
   |Dp e te=>exact ⟨_,e.size,List.length x.1,OS,rfl,by simp,by rw [ZN];exact h1.1⟩
   |Ai e te kp=>exact ⟨_,1,List.length x.1,OS,rfl,by simp,by rw [ZN];exact h1.1⟩
   |part e te=>trivial
  ·exact g3 π' hd λj h1 h2=>TR j (by omega) (by omega)
theorem zG {ks:List Nat} {n:Nat} (h:tG ks n=true):ks.length=n/\ks.Nodup/\ ∀l∈ks,l<Ak:=by
 unfold tG at h
 simp only [Bool.and_eq_true] at h
 refine ⟨Nat.eq_of_beq_eq_true h.1,Qo h.2.1,λl hl=>?_⟩
 have:=List.all_eq_true.1 h.2.2 l hl
 simpa using this
theorem Ld {ks:List Nat} {j:Nat} (h:j<ks.length):Bt ks j=ks[j]:=by
 unfold Bt
 rw [List.getElem?_eq_getElem h]
theorem vX {ks:List Nat} (hn:ks.Nodup) (hl: ∀l∈ks,l<Ak): ∀i j,Bt ks i=Bt ks j->i=j:=by
 intro i j h
 by_cases hi:i<ks.length
 ·by_cases hj:j<ks.length
  ·rw [Ld hi,Ld hj] at h
   rcases Nat.lt_trichotomy i j with Fg|he|Fg
   ·exact absurd h (List.pairwise_iff_getElem.1 hn i j hi hj Fg)
   ·exact he
   ·exact absurd h.symm (List.pairwise_iff_getElem.1 hn j i hj hi Fg)
  ·have h1:=hl _ (List.getElem_mem hi)
   rw [Ld hi] at h
   unfold Bt at h
   rw [List.getElem?_eq_none (by omega)] at h
   simp only at h
   omega
 ·by_cases hj:j<ks.length
  ·have h1:=hl _ (List.getElem_mem hj)
   rw [Ld hj] at h
   unfold Bt at h
   rw [List.getElem?_eq_none (by omega)] at h
   simp only at h
   omega
  ·unfold Bt at h
   rw [List.getElem?_eq_none (by omega),List.getElem?_eq_none (by omega)] at h
   simp only at h
   omega
theorem Ii: ∀(H:List (Nat×OB)) (dead:List Nat) (l:Nat),Ad (Qb H dead) l=if l∈dead then none else Ad H l
 | [],dead,l=>by simp [Qb,Ad]
 |(k,b)::r,dead,l=>by
  simp only [Qb]
  have ih:=Ii r dead l
  by_cases hk:k∈dead
  ·rw [if_pos (by simpa using hk),ih]
   split
   ·rfl
   ·rename_i hl
    simp only [Ad]
    rw [if_neg (λ(e:k=l)=>hl (e▸hk))]
  ·rw [if_neg (by simpa using hk)]
   simp only [Ad]
   split
   ·rename_i e;subst e;rw [if_neg hk]
   ·exact ih
theorem mem_keys {ks:List Nat} {l:Nat} :l∈ks↔ ∃k,k<ks.length/\l=Bt ks k:=
 ⟨λh=>by obtain ⟨k,hk,e⟩:=List.getElem_of_mem h;exact ⟨k,hk,by rw [Ld hk,e]⟩,λ⟨k,hk,e⟩=>by rw [e,Ld hk];exact List.getElem_mem hk⟩
theorem Yx {tks:List (Nat×Loc)} {l:Nat} :l∈gR tks↔ ∃t∈tks,(t.1<Ak/\t.2.reads=false)/\t.2.Pq=l:=by
 unfold gR
 simp only [List.mem_map,List.mem_filter,Bool.and_eq_true,Nat.blt_eq,Bool.not_eq_true']
 exact ⟨λ⟨t,⟨h1,h2⟩,h3⟩=>⟨t,h1,h2,h3⟩,λ⟨t,h1,h2,h3⟩=>⟨t,⟨h1,h2⟩,h3⟩⟩
theorem tH {tks:List (Nat×Loc)} (h:(tks.map λt=>t.2.Pq).Nodup) {t t':Nat×Loc} (ht:t∈tks) (rE:t'∈tks) (he:t.2.Pq=t'.2.Pq):t=t':=by
 induction tks with
 |nil=>cases ht
 |cons a r ih=>
  simp only [List.map_cons] at h
  obtain ⟨h1,h2⟩:=List.nodup_cons.1 h
  rcases List.mem_cons.1 ht with rfl|ht<;>rcases List.mem_cons.1 rE with rfl|rE
  ·rfl
  ·exact (h1 (List.mem_map.2 ⟨t',rE,he.symm⟩)).elim
  ·exact (h1 (he▸List.mem_map.2 ⟨t,‹t∈r›,rfl⟩)).elim
  ·exact ih h2 ht rE
theorem Eo.full {D:Nat->Prop} {ρ:Pi} : ∀(cs:List CK) (k:Nat) (x:CKs.den cs) (us:List Value),Eo w D ρ k cs x us->Eo w D (λl=>(ρ l).map full) k cs x us
 | [],_,_,[],h=>h
 | [],_,_,_::_,h=>h.elim
 |_::_,_,_,[],h=>h.elim
 |c::r,k,x,u::us,h=>⟨by
   have h1:=h.1
   show Zm w D ((ρ (Fp k)).map _) u c x.1
   cases c with
   |Ee τ=>rw [h1.1];exact ⟨rfl,h1.2⟩
   |row e te=>cases hp:ρ (Fp k)<;>(rw [hp] at h1;exact h1)
   |Dp e te=>cases hp:ρ (Fp k)<;>(rw [hp] at h1;exact h1)
   |Ai e te kp=>cases hp:ρ (Fp k)<;>(rw [hp] at h1;exact h1)
   |part e te=>cases hp:ρ (Fp k)<;>(rw [hp] at h1;exact h1),Eo.full r (k+1) x.2 us h.2⟩
theorem Eo.SE {D:Nat->Prop} {ρ:Pi} : ∀(cs:List CK) (k0:Nat) (x:CKs.den cs) (us:List Value),Eo w D ρ k0 cs x us-> ∀j,k0<=j->j<k0+cs.length-> ∀q,ρ (Fp j)=some q->q.Ba q.g
 | [],k0,_,_,_,j,h1,h2,_,_=>by simp at h2;omega
 |_::_,_,_,[],h,_,_,_,_,_=>h.elim
 |c::r,k0,x,u::us,ho,j,h1,h2,q,hq=>by
  rcases Nat.eq_or_lt_of_le h1 with e|h1
  ·subst e
   have:=ho.1
   cases c with
   |Ee τ=>rw [hq] at this;cases this.1
   |row e te=>rw [hq] at this;exact this.2.1.1
   |Dp e te=>rw [hq] at this;exact this.2.1
   |part e te=>rw [hq] at this;exact this.2.2.1.1
   |Ai e te kp=>rw [hq] at this;exact this.2.1
  ·exact Eo.SE r (k0+1) x.2 us ho.2 j h1 (by simp at h2;omega) q hq
theorem Mh.any {D D':Nat->Prop} {r:Option Real} {e:Ty} {xs:List e.den} (hf:e.flat=true) (h:Mh w D r e xs):Mh w D' r e xs:=by
 cases r with
 |none=>exact h
 |some r=>
  obtain ⟨k1,cu,ti,k2,k3,k4,k5,k6⟩:=h
  exact ⟨k1,cu,ti,k2,k3,k4,k5,λi y hy=>by
   obtain ⟨es,g1,g2,g3⟩:=k6 i y hy
   exact ⟨es,g1,g2,Cells.flat e es y hf g3⟩⟩
theorem Eo.any {D D':Nat->Prop} {ρ:Pi} : ∀(cs:List CK) (k:Nat) (x:CKs.den cs) (us:List Value),cs.all (·.flat)=true->Eo w D ρ k cs x us->Eo w D' ρ k cs x us
 | [],_,_,[],_,h=>h
 | [],_,_,_::_,_,h=>h.elim
 |_::_,_,_,[],_,h=>h.elim
 |c::r,k,x,u::us,hf,h=>by
  simp only [List.all_cons,Bool.and_eq_true] at hf
  refine ⟨?_,Eo.any r (k+1) x.2 us hf.2 h.2⟩
  have h1:=h.1
  cases c with
  |Ee τ=>exact ⟨h1.1,Bb.flat hf.1 h1.2⟩
  |row e te=>exact ⟨h1.1,Mh.any hf.1 h1.2⟩
  |Dp e te=>exact h1
  |part e te=>exact ⟨h1.1,h1.2.1,Mh.any hf.1 h1.2.2⟩
  |Ai e te kp=>exact absurd hf.1 (by simp [CK.flat])
theorem Hb.any {D D':Nat->Prop} {π:Pi} : ∀(cs:List (Bool×CK)) (k:Nat) (x:IOs.den cs),(cs.all λp=>!p.1||p.2.flat)=true->Hb w D π k cs x->Hb w D' π k cs x
 | [],_,_,_,h=>h
 |(false,_)::r,k,x,hf,h=>Hb.any r (k+1) x (by simp only [List.all_cons,Bool.and_eq_true] at hf;exact hf.2) h
 |(true, .Ee _)::r,k,x,hf,h=>Hb.any r (k+1) x (by simp only [List.all_cons,Bool.and_eq_true] at hf;exact hf.2) h
 |(true, .Ai _ _ _)::r,k,x,hf,h=>Hb.any r (k+1) x (by simp only [List.all_cons,Bool.and_eq_true] at hf;exact hf.2) h
 |(true, .row e te)::r,k,x,hf,h=>by
  simp only [List.all_cons,Bool.and_eq_true,Bool.not_true,Bool.false_or] at hf
  exact ⟨Mh.any hf.1 h.1,Hb.any r (k+1) x.2 hf.2 h.2⟩
 |(true, .Dp e te)::r,k,x,hf,h=>by
  simp only [List.all_cons,Bool.and_eq_true,Bool.not_true,Bool.false_or] at hf
  exact ⟨h.1,Hb.any r (k+1) x.2 hf.2 h.2⟩
 |(true, .part e te)::r,k,x,hf,h=>by
  simp only [List.all_cons,Bool.and_eq_true,Bool.not_true,Bool.false_or] at hf
  exact ⟨Mh.any hf.1 h.1,Hb.any r (k+1) x.2 hf.2 h.2⟩
theorem nR {tks:List (Nat×Loc)} {l:Nat} :l∈uU tks↔ ∃t∈tks,t.2.reads=true/\t.2.Pq=l:=by
 unfold uU
 simp only [List.mem_map,List.mem_filter]
 exact ⟨λ⟨t,⟨h1,h2⟩,h3⟩=>⟨t,h1,h2,h3⟩,λ⟨t,h1,h2,h3⟩=>⟨t,⟨h1,h2⟩,h3⟩⟩
theorem Aj.iH {st:St} {a:Act} (h:Aj X π st a w) {f:AC->AC} (hu:f .undef= .undef) {gv:Nat->Prop} (FD: ∀b,gv b->Om π b) (hb:Gb w.heap.size gv w w')
  (Yr: ∀b,b<w.heap.size->Om π' b->Om π b)
  (Jy: ∀l r b,π' l=some r->r.Ba b->r.cl b) (WC: ∀l r b,π' l=some r->r.cl b->(X.w0.heap.size<=b\/X.gv b)/\b<w'.heap.size)
  (Afu: ∀l l' r r' b,π' l=some r->π' l'=some r'->r.cl b->r'.cl b->l=l')
  (Ss: ∀l,Ak<=l->Ad H' l≠none->Uq (X.bI l) (π' l))
  (hac:(∀fr τ cs x,Cells w (Bd X.w0.heap.size X.Sc π fr) τ cs x->Cells w' (Bd X.w0.heap.size X.Sc π' fr) τ cs x)-> ∀c v,Dq X w π st.heap c v->Dq X w' π' H' (f c) v)
  (PX:Move X w w' π π' st.heap H' f-> ∀l b,Ad H' l=some b->Au X w' π' H' (π' l) b)
  (DP: ∀l,Ad H' l=none->π' l=none):
  Aj X π' {tmps:=st.tmps.map (·.map f),heap:=H'} a w':=by
 have hc: ∀fr τ cs x,Cells w (Bd X.w0.heap.size X.Sc π fr) τ cs x->Cells w' (Bd X.w0.heap.size X.Sc π' fr) τ cs x:= λfr τ cs x hh=>
  Cells.Ci hb.size (λk hk hn=>hb.block k hk λhg=>hn (.inl (FD k hg))) (λk Fg hA=>hA.imp (Yr k Fg) id) τ cs x hh
 have m:Move X w w' π π' st.heap H' f:=⟨hac hc,hc⟩
 refine ⟨⟨⟨hb.os.trans h.1.below.os,hb.tape.trans h.1.below.tape,hb.output.trans h.1.below.output,Nat.le_trans h.1.below.size hb.size,λk hk hn=>?_⟩,h.1.sc,Jy,WC,Afu,Ss,λl=>?_⟩,m.AT hu h.2⟩
 ·refine (hb.block k (Nat.lt_of_lt_of_le hk h.1.below.size) λhg=>?_).trans (h.1.below.block k hk hn)
  rcases (h.1.own (FD k hg)).2 with h1|h1
  ·omega
  ·exact hn h1
 ·cases hh:Ad H' l with
  |none=>exact Cr.Nd (DP l hh) hh
  |some b=>exact Cr.Gs (PX m l b hh) hh
def aV:Option Real->Option Real->Prop
 |none,none=>True
 |some r,some r'=>r.g=r'.g/\r.o=r'.o/\r.cap=r'.cap
 |_,_=>False
theorem aV.rfl' (r:Option Real):aV r r:=by cases r<;>simp [aV]
theorem aV.some {r:Real} {r':Option Real} (h:aV (some r) r'): ∃q,r'=some q/\r.g=q.g/\r.o=q.o/\r.cap=q.cap:=by
 cases r' with
 |none=>exact h.elim
 |some q=>exact ⟨q,rfl,h⟩
theorem aV.own {r r':Option Real} (h:aV r r') {sz off len:Nat} {v:Value} (hv:Dv r sz off len v):Dv r' sz off len v:=by
 cases r<;>cases r'<;>first|exact h.elim|skip
 ·exact hv
 ·obtain ⟨h1,h2,h3⟩:=h
  obtain ⟨ad,g1,g2,g3⟩:=hv
  exact ⟨ad,by rw [<-h3];exact g1,by rw [<-h3];exact g2,by rw [<-h1,<-h2,<-h3];exact g3⟩
structure OB.Mo (b b':OB):Prop where
 row: ∀sz n,b.row=some (sz,n)-> ∃n',b'.row=some (sz,n')/\n<=n'
 bf: ∀p,b.bf=some p->b'.bf=some p
 pI: ∀p,b.pI=some p->b'.pI=some p
 var: ∀tid vs,b= .var tid vs-> ∃Nt vs',b'= .var Nt vs'
 Ol: ∀v m,b= .Ol v m-> ∃m',b'= .Ol v m'
theorem OB.Mo.map (f:AC->AC) (b:OB):b.Mo (b.map f) where
 row:= λsz n h=>⟨n,by cases b<;>exact h,Nat.le_refl _⟩
 bf:= λp h=>by cases b<;>exact h
 pI:= λp h=>by cases b<;>exact h
 var:= λtid vs h=>by subst h;exact ⟨_,_,rfl⟩
 Ol:= λv m h=>by subst h;exact ⟨_,rfl⟩
theorem OB.Mo.rfl' (b:OB):b.Mo b where
 row:= λ_sz n h=>⟨n,h,Nat.le_refl _⟩
 bf:= λ_p h=>h
 pI:= λ_p h=>h
 var:= λ_tid _vs h=>⟨_,_,h⟩
 Ol:= λ_v _m h=>⟨_,h⟩
theorem OB.Mo.trans {a b c:OB} (h:a.Mo b) (k:b.Mo c):a.Mo c where
 row:= λsz n hr=>by
  obtain ⟨n1,h1,h2⟩:=h.row sz n hr
  obtain ⟨n2,h3,h4⟩:=k.row sz n1 h1
  exact ⟨n2,h3,by omega⟩
 bf:= λp hp=>k.bf p (h.bf p hp)
 pI:= λp hp=>k.pI p (h.pI p hp)
 var:= λtid vs hv=>by obtain ⟨t',v',h1⟩:=h.var tid vs hv;exact k.var t' v' h1
 Ol:= λv m hm=>by obtain ⟨m',h1⟩:=h.Ol v m hm;exact k.Ol v m' h1
theorem iG {f:AC->AC} {D Pt:Nat->Prop} (hf: ∀c,f c= .undef\/(f c=c/\(∀k∈c.refs,¬D k)/\ ∀k i j,c= .sub k i j\/c= .Fk k i j-> ¬Pt k)) (hp: ∀k,¬D k->aV (π k) (π' k))
  (hH: ∀k b,¬D k->Ad H k=some b-> ∃b',Ad H' k=some b'/\b.Mo b')
  (hg: ∀k r b,¬D k-> ¬Pt k->Ad H k=some b->b.bf≠none->π k=some r->w'.heap[r.g]?=w.heap[r.g]?)
  (hc: ∀fr τ cs x,Cells w (Bd X.w0.heap.size X.Sc π fr) τ cs x->Cells w' (Bd X.w0.heap.size X.Sc π' fr) τ cs x): ∀c v,Dq X w π H c v->Dq X w' π' H' (f c) v:=by
 intro c v h
 rcases hf c with e|⟨e,hr,hs⟩
 ·rw [e];trivial
 rw [e]
 cases c with
 |data fr τ x=>obtain ⟨cs,h1,h2⟩:=h;exact ⟨cs,hc _ _ _ _ h1,h2⟩
 |own k off len=>
  obtain ⟨b,sz,n,h1,h0,h2,h3⟩:=h
  have hk:=hr k (by simp [AC.refs])
  obtain ⟨b',g1,g2⟩:=hH k b hk h1
  obtain ⟨n',g3,g4⟩:=g2.row sz n h0
  exact ⟨b',sz,n',g1,g3,by omega,(hp k hk).own h3⟩
 |Dn k i=>
  obtain ⟨r,tid,vs,h1,h2,h3⟩:=h
  have hk:=hr k (by simp [AC.refs])
  obtain ⟨b',g1,g2⟩:=hH k _ hk h1
  obtain ⟨Nt,vs',rfl⟩:=g2.var tid vs rfl
  obtain ⟨q,q1,q2,_⟩:=(h2▸hp k hk).some
  exact ⟨q,Nt,vs',g1,q1,by rw [<-q2];exact h3⟩
 |Fo k i=>
  obtain ⟨r,b,sz,n,h1,h0,h2,h3,h4⟩:=h
  have hk:=hr k (by simp [AC.refs])
  obtain ⟨b',g1,g2⟩:=hH k b hk h1
  obtain ⟨n',g3,g4⟩:=g2.row sz n h0
  obtain ⟨q,q1,q2,q3,_⟩:=(h3▸hp k hk).some
  exact ⟨q,b',sz,n',g1,g3,by omega,q1,by rw [<-q2,<-q3];exact h4⟩
 |sub k i c=>
  obtain ⟨r,b,sz,n,h1,h0,h2,h3,h4,h5⟩:=h
  have hk:=hr k (by simp [AC.refs])
  obtain ⟨b',g1,g2⟩:=hH k b hk h1
  obtain ⟨q,q1,q2,q3,_⟩:=(h2▸hp k hk).some
  exact ⟨q,b',sz,n,g1,g2.bf _ h0,q1,h3,h4,by rw [<-q2,<-q3,World.cell?_of_block (hg k r b hk (hs k i c (.inl rfl)) h1 (by rw [h0];simp) h2)];exact h5⟩
 |Fk k i c=>
  obtain ⟨r,b,n,sz,g,o,len,cap,h1,h0,h2,h3,h4,h5,h6⟩:=h
  have hk:=hr k (by simp [AC.refs])
  obtain ⟨b',g1,g2⟩:=hH k b hk h1
  obtain ⟨q,q1,q2,q3,_⟩:=(h2▸hp k hk).some
  exact ⟨q,b',n,sz,g,o,len,cap,g1,g2.pI _ h0,q1,h3,h4,by rw [<-q2,<-q3,World.cell?_of_block (hg k r b hk (hs k i c (.inr rfl)) h1 (by cases b<;>first|(cases h0;done)|simp [OB.bf]) h2)];exact h5,h6⟩
 |clo g Bu=>
  obtain ⟨us,h1,h2,h3⟩:=h
  refine ⟨us,h1,h2,λj p hpj=>?_⟩
  obtain ⟨r,tid,vs,h4,h5,h6⟩:=h3 j p hpj
  have hk:=hr p.1 (by simp only [AC.refs,List.mem_map];exact ⟨p,List.mem_of_getElem? hpj,rfl⟩)
  obtain ⟨b',g1,g2⟩:=hH p.1 _ hk h4
  obtain ⟨Nt,vs',rfl⟩:=g2.var tid vs rfl
  obtain ⟨q,q1,q2,_⟩:=(h5▸hp p.1 hk).some
  exact ⟨q,Nt,vs',g1,q1,by rw [<-q2];exact h6⟩
 |Fw k=>
  obtain ⟨r,vt,m,h1,h2,h3⟩:=h
  have hk:=hr k (by simp [AC.refs])
  obtain ⟨b',g1,g2⟩:=hH k _ hk h1
  obtain ⟨m',rfl⟩:=g2.Ol vt m rfl
  obtain ⟨q,q1,q2,_⟩:=(h2▸hp k hk).some
  exact ⟨q,vt,m',g1,q1,by rw [<-q2];exact h3⟩
 |_=>exact h
theorem Ny (H0:List (Nat×OB)) (ls:List Nat) (n:Nat): ∀(H:List (Nat×OB)) (l:Nat),Ad (Xq H0 ls n H) l=(Ad H l).map λb=>if ls.contains l then b.xP (Vh n (XB (Ad H0 l))) else b
 | [],_=>rfl
 |(k,b)::r,l=>by
  simp only [Xq,Ad]
  split
  ·rename_i e;subst e;rfl
  ·exact Ny H0 ls n r l
theorem OB.uo (b:OB) (kp:Option (Nat×Nat)):b.Mo (b.xP kp):=by
 cases b with
 |Ai e te rows out kp0=>exact ⟨λsz n h=>⟨n,h,Nat.le_refl _⟩,λp h=>h,λp h=>h,(λ_ _ h=>by cases h),(λ_ _ h=>by cases h)⟩
 |_=>exact OB.Mo.rfl' _
theorem aM (ls:List Nat): ∀(l m:List AV) (t:Nat),l.length=m.length->(∃k i c,l.getD t .undef= .at (.sub k i c)/\ls.contains k=true/\(Gt ls l m).getD t .undef= .at (.sub k i c))\/(Gt ls l m).getD t .undef=m.getD t .undef
 | [],m,t,_=>by cases m<;>exact .inr rfl
 |_::_,[],t,h=>by simp at h
 |a::l,v::m,t,h=>by
  have ih:= λt=>aM ls l m t (by simpa using h)
  have tail: ∀u,Gt ls (a::l) (v::m)=u::Gt ls l m->(t=0->(∃k i c,(a::l).getD t .undef= .at (.sub k i c)/\ls.contains k=true/\u= .at (.sub k i c))\/u=v)->
    (∃k i c,(a::l).getD t .undef= .at (.sub k i c)/\ls.contains k=true/\(Gt ls (a::l) (v::m)).getD t .undef= .at (.sub k i c))\/(Gt ls (a::l) (v::m)).getD t .undef=(v::m).getD t .undef:=by
   intro u e h0
   rw [e]
   rcases t with _|t
   ·rcases h0 rfl with ⟨k,i,c,h1,h2,h3⟩|h3
    ·exact .inl ⟨k,i,c,h1,h2,by simpa using h3⟩
    ·exact .inr (by simpa using h3)
   ·simpa only [List.getD_cons_succ] using ih t
  cases a with
  | «at»c=>
   cases c with
   |sub k i c=>
    refine tail _ rfl λht=>?_
    subst ht
    by_cases hc:ls.contains k=true
    ·exact .inl ⟨k,i,c,rfl,hc,by rw [if_pos hc]⟩
    ·exact .inr (by rw [if_neg hc])
   |_=>exact tail _ rfl λ_=> .inr rfl
  |_=>exact tail _ rfl λ_=> .inr rfl
theorem oY {H:List (Nat×OB)} {ls:List Nat} {n:Nat} : ∀ {l:List AV} {t k i c:Nat},Xw H ls n l=true->l.getD t .undef= .at (.sub k i c)->ls.contains k=true->i<n/\i<mc H k
 | [],t,k,i,c,_,h,_=>by simp at h
 |a::l,0,k,i,c,ho,h,hc=>by
  simp only [List.getD_cons_zero] at h
  subst h
  simp only [Xw,hc,Bool.not_true,Bool.false_or,Bool.and_eq_true,Nat.blt_eq] at ho
  exact ho.1
 |a::l,t+1,k,i,c,ho,h,hc=>by
  refine oY (l:=l) (t:=t) (c:=c) ?_ (by simpa only [List.getD_cons_succ] using h) hc
  cases a with
  | «at»d=>cases d with
   |sub _ _ _=>simp only [Xw,Bool.and_eq_true] at ho;exact ho.2
   |_=>exact ho
  |_=>exact ho
theorem zD {br st:St} {a:Act} (h0:Aj X π br a w) (h:Aj X π' st a w') {ls:List Nat} {n:Nat} (hk: ∀l∈ls,vC w w' (π l) (π' l) n) (nq: ∀l∈ls,iq br.heap l=true)
  (eo:Xw st.heap ls n br.tmps=true):Aj X π' (fV br st ls n) a w'/\ ∀c v,Am X w' π' st.heap c v->Am X w' π' (fV br st ls n).heap c v:=by
 by_cases vq:ls= []
 ·subst vq;exact ⟨h,λ_ _ h=>h⟩
 have Te:fV br st ls n= {tmps:=Gt ls br.tmps st.tmps,heap:=Xq br.heap ls n st.heap} :=by
  cases ls with
  |nil=>exact absurd rfl vq
  |cons _ _=>rfl
 rw [Te]
 have hg0: ∀l∈ls,∃e te rows out kp,Ad br.heap l=some (.Ai e te rows out kp):= λl hl=>by
  have:=nq l hl
  unfold iq at this
  split at this
  ·exact ⟨_,_,_,_,_,by assumption⟩
  ·cases this
 have srv: ∀k b,Ad st.heap k=some b-> ∃b',Ad (Xq br.heap ls n st.heap) k=some b'/\b.Mo b':= λk b hb=>by
  rw [Ny,hb]
  refine ⟨_,rfl,?_⟩
  dsimp only
  split
  ·exact OB.uo b _
  ·exact OB.Mo.rfl' b
 have hac:(∀fr τ cs x,Cells w' (Bd X.w0.heap.size X.Sc π' fr) τ cs x->Cells w' (Bd X.w0.heap.size X.Sc π' fr) τ cs x)-> ∀c v,Dq X w' π' st.heap c v->Dq X w' π' (Xq br.heap ls n st.heap) c v:= λhc=>
  iG (f:= λc=>c) (D:= λ_=>False) (Pt:= λ_=>False) (λc=> .inr ⟨rfl,λ_ _ h=>h,λ_ _ _ _ h=>h⟩) (λk _=>aV.rfl' _) (λk b _ hb=>srv k b hb) (λ_ _ _ _ _ _ _ _=>rfl) hc
 have h1:Aj X π' {tmps:=st.tmps.map (·.map λc=>c),heap:=Xq br.heap ls n st.heap} a w':=by
  refine h.iH rfl (gv:= λ_=>False) (λ_ hf=>hf.elim) (Gb.refl _ _ _) (λ_ _ ho=>ho) h.1.sub h.1.place h.1.inj (λl hl Ex=>h.1.bI l hl λh2=>Ex (by rw [Ny,h2];rfl)) hac (λm l b hb=>?_) (λl hl=>?_)
  ·rw [Ny] at hb
   cases h2:Ad st.heap l with
   |none=>rw [h2] at hb;cases hb
   |some b0=>
    rw [h2] at hb
    simp only [Option.map_some,Option.some.injEq] at hb
    have hbk:=(h.1.heap l).Lc h2
    have yH:=hbk.move m (Nat.le_refl _) (λr0 c h0 h1=>h.1.sub _ r0 c h0 h1) λ_ _ _ _ _=>rfl
    rw [show OB.map (λc=>c) b0=b0 from OB.xc b0] at yH
    split at hb
    ·rename_i hc
     have hl:l∈ls:=by simpa using hc
     cases b0 with
     |Ai e te rows out kp=>
      simp only [OB.xP] at hb
      subst hb
      refine ⟨yH.1,?_⟩
      obtain ⟨e0,te0,UA,Ah8,kp0,hg⟩:=hg0 l hl
      have tj:=((h0.1.heap l).Lc hg).2
      rw [hg]
      simp only [XB]
      have pM:=hk l hl
      cases kp0 with
      |none=>trivial
      |some p=>
       obtain ⟨l0,n0⟩:=p
       simp only [KeptAt,Vh] at tj⊢
       cases tq:X.bI l0 with
       |none=>
        cases hp:π l with
        |none=>
         rw [hp] at pM
         cases ij:π' l with
         |none=>trivial
         |some q=>rw [ij] at pM;exact pM.elim
        |some q=>rw [tq,hp] at tj;exact tj.elim
       |some r0=>
        cases hp:π l with
        |none=>rw [tq,hp] at tj;exact tj.elim
        |some q=>
         rw [tq,hp] at tj
         rw [hp] at pM
         cases ij:π' l with
         |none=>rw [ij] at pM;exact pM.elim
         |some q'=>
          rw [ij] at pM
          obtain ⟨k1,k2,k3,k4⟩:=pM
          obtain ⟨g1,g2,g3,g4⟩:=tj
          refine ⟨k1.trans g1,k2.trans g2,k3.trans g3,λj hj hc=>?_⟩
          have e1:=g4 j (by omega) hc
          have e2:=k4 j (by omega) (by omega)
          rw [g1,g2] at e2
          rw [<-e1,e2]
     |_=>simp only [OB.xP] at hb;subst hb;exact yH
    ·subst hb;exact yH
  ·rw [Ny] at hl
   cases h2:Ad st.heap l with
   |none=>exact (h.1.heap l).emp h2
   |some b=>rw [h2] at hl;cases hl
 have DJ: ∀c v,Am X w' π' st.heap c v->Am X w' π' (Xq br.heap ls n st.heap) c v:= λc v hv=>by
  have m:Move X w' w' π' π' st.heap (Xq br.heap ls n st.heap) (λc=>c):=⟨hac λ_ _ _ _ h=>h,λ_ _ _ _ h=>h⟩
  have:=m.av hv
  rwa [AC.map_id] at this
 refine ⟨⟨h1.1,⟨?_,h.2.defers,λt=>?_⟩⟩,DJ⟩
 ·have: ∀(l m:List AV),(Gt ls l m).length=m.length:=by
   intro l
   induction l with
   |nil=>intro m;cases m<;>rfl
   |cons a l ih=>
    intro m
    cases m with
    |nil=>cases a with
     | «at»c=>cases c<;>rfl
     |_=>rfl
    |cons v m=>cases a with
     | «at»c=>cases c<;>simp only [Gt,List.length_cons,ih m]
     |_=>simp only [Gt,List.length_cons,ih m]
  show a.tmps.size=(Gt ls br.tmps st.tmps).length
  rw [this];exact h.2.size
 ·show Am X w' π' _ ((Gt ls br.tmps st.tmps).getD t .undef) _
  rcases aM ls br.tmps st.tmps t (by rw [<-h0.2.size,<-h.2.size]) with ⟨k,i,c,g1,g2,g3⟩|g
  ·rw [g3]
   have Ls:k∈ls:=by simpa using g2
   obtain ⟨i1,i2⟩:=oY eo g1 g2
   have hv:=h0.2.tmps t
   rw [show br.get t=_ from g1] at hv
   obtain ⟨r,b,sz,n',e1,e2,e3,e4,⟨e5,e6⟩,e7⟩:=hv
   obtain ⟨e0,te0,UA,Ah8,kp0,hg⟩:=hg0 k Ls
   rw [hg] at e1;cases e1
   simp only [OB.bf,Option.some.injEq,Prod.mk.injEq] at e2
   obtain ⟨rfl,rfl⟩:=e2
   have pM:=hk k Ls
   rw [e3] at pM
   cases ij:π' k with
   |none=>rw [ij] at pM;exact pM.elim
   |some q'=>
    rw [ij] at pM
    obtain ⟨k1,k2,k3,k4⟩:=pM
    have np:UA.length<=r.cap:=by
     have:=((h0.1.heap k).Lc hg).1
     rw [e3] at this
     obtain ⟨_,_,_,_,_,_,h5,_⟩:=this
     exact h5
    unfold mc at i2
    split at i2
    ·rename_i e9 te9 Acd Am1 kp9 hg9
     refine ⟨q',_,1,Acd.length,by rw [Ny,hg9];rfl,?_,ij,i2,⟨e5,e6⟩,?_⟩
     ·dsimp only
      split<;>rfl
     ·have eL:c=0:=by omega
      subst eL
      rw [k1,k2]
      rw [Nat.mul_one,Nat.add_zero] at e7⊢
      rw [k4 i i1 (by omega)];exact e7
    ·omega
  ·rw [g]
   exact DJ _ _ (h.2.tmps t)
theorem kf {ins:List (Bool×CK)} {as:List AC} {pl:List Nat} {st:St} :(lK ins as pl st).tmps=st.tmps:=by
 unfold lK
 split
 ·rfl
 ·split<;>rfl
theorem BA {ins:List (Bool×CK)} {as:List AC} {pl:List Nat} {st:St} {m:Nat} (hm:m∉pl):Ad (lK ins as pl st).heap m=Ad st.heap m:=by
 unfold lK
 split
 ·rfl
 ·rename_i l r
  split
  ·exact Bs _ _ _ _ λe=>hm (e▸List.mem_cons_self)
  ·rfl
theorem HD {ins:List (Bool×CK)} {as:List AC} {l:Nat} {st:St} {tid:TypeId} {vs:List AC} (hl:Ad st.heap l=some (.var tid vs)):Ad (lK ins as [l] st).heap l=some (.var tid (bo ins vs as)):=by
 simp only [lK,St.at,hl]
 exact Cb _ _ _ _ hl
theorem se {α:Type} (ins:List (Bool×CK)) (as:List α):bo ins [] as= []:=by
 rcases ins with _|⟨⟨_|_,c⟩,r⟩<;>rfl
theorem jX {α:Type} : ∀(ins:List (Bool×CK)) (vs as:List α),(bo ins vs as).length=vs.length
 | [],vs,as=>by rw [bo];all_goals simp
 |p::r,[],as=>by rw [se]
 |(true,c)::r,v::vs,as=>by simp only [bo,List.length_cons,jX r vs as]
 |(false,c)::r,v::vs,[]=>by rw [bo];all_goals simp
 |(false,c)::r,v::vs,a::as=>by simp only [bo,List.length_cons,jX r vs as]
theorem GS {st:St} {a:Act} (h:Aj X π st a w) {s:MSpec} {gL:List AV} {vs:List Value} (hlen:gL.length=vs.length) (DJ: ∀(i:Nat) c v,gL[i]?=some c->vs[i]?=some v->Am X w π st.heap c v)
  {pl:List Nat} {cells:List AC} {rest:List AV} (he:EB st s gL=some (pl,cells,rest)):
  ∃(g:Nat) (SD sy:List Value),rest.length=sy.length/\(∀(i:Nat) c v,rest[i]?=some c->sy[i]?=some v->Am X w π st.heap c v)/\Hy X w π st.heap cells SD/\
   ((s.ptr=none/\pl= []/\cells= []/\SD= []/\vs=sy)\/
    ∃p l q,s.ptr=some p/\pl= [l]/\π l=some q/\q.Ba q.g/\g=q.g/\Ad st.heap l=some (.var p.1 cells)/\cells.length=p.2/\vs= .pointer (some ⟨g,0,none⟩)::sy/\w.heap[g]?=some (.cells SD.toArray p.1 (0,0))/\Cu X w π st.heap cells SD):=by
 unfold EB at he
 split at he
 ·rename_i hp
  simp only [Option.some.injEq,Prod.mk.injEq] at he
  obtain ⟨rfl,rfl,rfl⟩:=he
  exact ⟨0,[],vs,hlen,DJ,trivial, .inl ⟨hp,rfl,rfl,rfl,rfl⟩⟩
 ·rename_i p hp
  split at he
  ·rename_i l i Aj2
   split at he
   ·rename_i tid cs hl
    split at he
    ·rename_i hc
     obtain ⟨rfl,hc,rfl⟩:=hc
     simp only [Option.some.injEq,Prod.mk.injEq] at he
     obtain ⟨rfl,rfl,rfl⟩:=he
     unfold St.at at hl
     cases vs with
     |nil=>simp at hlen
     |cons v vs=>
      obtain ⟨r,Nt,vs',h1,h2,rfl⟩:=DJ 0 _ v rfl rfl
      rw [hl] at h1;cases h1
      obtain ⟨r',h3,h4,cur,h5,h6⟩:=(h.1.heap l).Lc hl
      rw [h2] at h3;cases h3
      exact ⟨r.g,cur.toList,vs,by simpa using hlen,λi c v h7 h8=>DJ (i+1) c v (by simpa using h7) (by simpa using h8),Hy.of h6, .inr ⟨p,l,r,hp,rfl,h2,h4,rfl,hl,hc,rfl,by simpa using h5,h6⟩⟩
    ·cases he
   ·cases he
  ·cases he
theorem dR {V:List Nat} {πc:Pi} {dead part:List Nat} (TR: ∀l,l∉dead->π' l=π l) (Ge: ∀l b sz n,l∉dead->Ad H l=some b->b.row=some (sz,n)-> ∃b',Ad H' l=some b'/\b'.row=some (sz,n)):
  ∀(ins:List (Bool×CK)) (k:Nat) (cells jd:List AC) (x:Ins.den ins) (us:List Value) (o:IOs.den ins) (cur st1:St) (news:List AC) (Pp cs:List Value),lx X w π V H πc k ins x (cells++jd) us->Pa ins cells=true->
   Dz ins o (cells++jd) cur=some st1->Ca πc k ins o cells.length cs Pp->Hy X w' π' H' news Pp->Hy X w' π' H' (bo ins (cells.map (Ax dead part)) news) cs
 |ins,k,[],jd,x,us,o,cur,st1,news,Pp,cs,_,_,_,hb,_=>by
  have hb:cs= []:=by rcases ins with _|⟨⟨_|_,c⟩,r⟩<;>(try cases c)<;>simpa [Ca] using hb
  rw [hb,List.map_nil,se]
  trivial
 | [],k,a::cells,jd,x,us,o,cur,st1,news,Pp,cs,_,hk,_,_,_=>by simp [Pa] at hk
 |(true, .Ee τ)::r,k,a::cells,jd,x,us,o,cur,st1,news,Pp,cs,_,hk,_,_,_=>by simp [Pa] at hk
 |(true, .part e te)::r,k,a::cells,jd,x,us,o,cur,st1,news,Pp,cs,_,hk,_,_,_=>by simp [Pa] at hk
 |(true, .Ai e te _)::r,k,a::cells,jd,x,us,o,cur,st1,news,Pp,cs,_,hk,_,_,_=>by simp [Pa] at hk
 |(true, .row e te)::r,k,a::cells,jd,x,us,o,cur,st1,news,Pp,cs,ht,hk,hp,hb,hn=>by
  cases a<;>simp only [Pa,Bool.false_eq_true] at hk
  rename_i l off len
  cases us with
  |nil=>exact ht.elim
  |cons u0 us=>
  cases cs with
  |nil=>exact hb.elim
  |cons u cs=>
  obtain ⟨⟨_,h1⟩,h2⟩:=ht
  simp only [Mv] at h1
  obtain ⟨h3,rfl,rfl,fr,tr,h4⟩:=h1
  obtain ⟨h5,h6⟩:=hb
  simp only [List.cons_append,Dz] at hp
  split at hp
  rotate_left
  ·cases hp
  rename_i Sr WB
  have FE:List.length o.1=List.length x.1:=by
   simp only [Wa] at WB
   repeat' split at WB
   all_goals first|(cases WB;done)|(rename_i hc;exact hc.2.1)
  refine ⟨?_,dR TR Ge r (k+1) cells jd x.2 us o.2 Sr st1 news Pp cs h2 hk hp h6 hn⟩
  by_cases hd:l∈dead
  ·have:Ax dead part (.own l 0 (List.length x.1))= .undef:=by
    unfold Ax
    rw [if_pos (by simp [AC.refs,hd])]
   rw [this];trivial
  ·rw [Wl (by simpa [AC.refs] using hd) (by intro l i j e;rcases e with e|e<;>cases e)]
   obtain ⟨b',g1,g2⟩:=Ge l _ e.size (List.length x.1) hd h4 rfl
   refine ⟨b',e.size,List.length x.1,g1,g2,by omega,?_⟩
   rw [TR l hd]
   rw [h3,FE] at h5
   cases hp:π l<;>(rw [hp] at h5;exact h5)
 |(true, .Dp e te)::r,k,a::cells,jd,x,us,o,cur,st1,news,Pp,cs,ht,hk,hp,hb,hn=>by
  cases a<;>simp only [Pa,Bool.false_eq_true] at hk
  rename_i l off len
  cases us with
  |nil=>exact ht.elim
  |cons u0 us=>
  cases cs with
  |nil=>exact hb.elim
  |cons u cs=>
  obtain ⟨⟨_,h1⟩,h2⟩:=ht
  simp only [Mv] at h1
  obtain ⟨h3,rfl,rfl,h4⟩:=h1
  obtain ⟨h5,h6⟩:=hb
  simp only [List.cons_append,Dz] at hp
  split at hp
  rotate_left
  ·cases hp
  rename_i Sr WB
  have FE:List.length o.1=List.length x.1:=by
   simp only [Wa] at WB
   repeat' split at WB
   all_goals first|(cases WB;done)|(rename_i hc;exact hc.2.1)
  refine ⟨?_,dR TR Ge r (k+1) cells jd x.2 us o.2 Sr st1 news Pp cs h2 hk hp h6 hn⟩
  by_cases hd:l∈dead
  ·have:Ax dead part (.own l 0 (List.length x.1))= .undef:=by
    unfold Ax
    rw [if_pos (by simp [AC.refs,hd])]
   rw [this];trivial
  ·rw [Wl (by simpa [AC.refs] using hd) (by intro l i j e;rcases e with e|e<;>cases e)]
   obtain ⟨b',g1,g2⟩:=Ge l _ e.size (List.length x.1) hd h4 rfl
   refine ⟨b',e.size,List.length x.1,g1,g2,by omega,?_⟩
   rw [TR l hd]
   rw [h3,FE] at h5
   cases hp:π l<;>(rw [hp] at h5;exact h5)
 |(false,c)::r,k,a::cells,jd,x,[],o,cur,st1,news,Pp,cs,ht,hk,hp,hb,hn=>ht.elim
 |(false,c)::r,k,a::cells,jd,x,u0::us,o,cur,st1,news,Pp,[],ht,hk,hp,hb,hn=>by cases c<;>exact hb.elim
 |(false,c)::r,k,a::cells,jd,x,u0::us,o,cur,st1,news,[],u::cs,ht,hk,hp,hb,hn=>by cases c<;>exact hb.elim
 |(false,c)::r,k,a::cells,jd,x,u0::us,o,cur,st1,[],u'::Pp,u::cs,ht,hk,hp,hb,hn=>hn.elim
 |(false,c)::r,k,a::cells,jd,x,u0::us,o,cur,st1,na::news,u'::Pp,u::cs,ht,hk,hp,hb,hn=>by
  have hb2:u=u'/\Ca πc (k+1) r o cells.length cs Pp:=by cases c<;>exact hb
  obtain ⟨rfl,hb3⟩:=hb2
  have hp:Dz r o (cells++jd) cur=some st1:=by cases c<;>simpa only [List.cons_append,Dz] using hp
  have hk:Pa r cells=true:=by cases c<;>simpa only [Pa] using hk
  exact ⟨hn.1,dR TR Ge r (k+1) cells jd x.2 us o cur st1 news Pp cs ht.2 hk hp hb3 hn.2⟩
theorem yg {V:List Nat} {πc:Pi} : ∀(cs:List (Bool×CK)) (k0:Nat) (x:Ins.den cs) (as:List AC) (us:List Value),k0+cs.length<100000->lx X w π V H πc k0 cs x as us-> ∀k l,(Bq false k,Loc.row l)∈Gu k0 cs as->πc (Bq false k)=(π l).map full
 | [],_,_,[],_,_,_,_,_,h=>by cases h
 | [],_,_,_::_,_,_,_,_,_,h=>by cases h
 |_::_,_,_,[],_,_,_,_,_,h=>by cases h
 |_::_,_,_,_::_,[],_,h,_,_,_=>h.elim
 |(io,c)::r,k0,x,a::as,u::us,hk,h,k,l,ht=>by
  simp only [List.length_cons] at hk
  simp only [Gu] at ht
  rcases List.mem_append.1 ht with ht|ht
  ·obtain ⟨⟨_,h1⟩,_⟩:=h
   cases c with
   |Ee τ=>cases a<;>simp [Kk,views] at ht
   |row e te=>
    cases a<;>simp [Kk] at ht
    obtain ⟨e1,rfl⟩:=ht
    simp only [Mv] at h1
    rw [e1];exact h1.1
   |Dp e te=>
    cases a<;>simp [Kk] at ht
    obtain ⟨e1,rfl⟩:=ht
    simp only [Mv] at h1
    rw [e1];exact h1.1
   |part e te=>
    cases a<;>simp [Kk] at ht
    obtain ⟨e1,rfl⟩:=ht
    simp only [Mv] at h1
    rw [e1];exact h1.2.1
   |Ai e te kp=>
    cases a<;>simp [Kk] at ht
    obtain ⟨e1,rfl⟩:=ht
    simp only [Mv] at h1
    rw [e1];exact h1.2.1
  ·exact yg r (k0+1) x.2 as us (by omega) h.2 k l ht
theorem ly {st:St} {a:Act} (h:Aj X π st a w) {f:FuncId} {s:MSpec} (hs:Bf P f s) (dst:Option Nat) (gL:List AV) (vs:List Value) (hlen:gL.length=vs.length)
  (DJ: ∀(i:Nat) c v,gL[i]?=some c->vs[i]?=some v->Am X w π st.heap c v) (av:AV) (st':St) (he:Qe st dst s gL=some (av,st')):
  Calls P f vs.toArray w λe w'=> ∃v,e= .returned v/\ ∃π',Aj X π' st' a w'/\Am X w' π' st'.heap av v:=by
 unfold Qe at he
 split at he
 ·cases he
 rename_i pl cells rest Age
 split at he
 ·cases he
 rename_i jd IT
 split at he
 ·cases he
 rename_i x tks htk
 split at he
 rotate_left
 ·cases he
 rename_i Ey
 simp only [Bool.and_eq_true,Nat.blt_eq] at Ey
 obtain ⟨⟨⟨⟨OY,ny⟩,hon⟩,cp⟩,Aao,FI⟩:=Ey
 have FI: ∀l∈pl,l∉(tks.map λt=>t.2.Pq)/\l∉Lu s tks (dst.getD 0):= λl hl=>by
  have:=List.all_eq_true.1 FI l hl
  simp only [Bool.not_eq_true',<-Bool.not_eq_true,List.contains_iff_mem] at this
  exact ⟨λhm=>this (List.mem_append_left _ hm),λhm=>this (List.mem_append_right _ hm)⟩
 split at he
 ·cases he
 rename_i r o ZG
 split at he
 ·cases he
 rename_i st1 WE
 obtain ⟨g,SD,sy,Aap,Afa,Agh,Vz⟩:=GS h hlen DJ Age
 obtain ⟨qG,rfl,yL,Agg⟩:=Sm s.Fb rest sy jd Aap Afa IT
 have WI:=Agh.append Agg
 have Kw:jh s w g (SD++qG) vs:=by
  unfold jh
  rcases Vz with ⟨h1,_,_,h2,h3⟩|⟨p,l,q,h1,_,_,_,_,_,h2,h3,h4,h5⟩
  ·rw [h1];subst h2;exact ⟨h3,yL⟩
  ·rw [h1]
   have hl:SD.length=p.2:=h5.1.trans h2
   simp only
   rw [List.drop_append_of_le_length (by omega),List.take_append_of_le_length (by omega),List.take_of_length_le (by omega),List.drop_of_length_le (by omega)]
   refine ⟨h3,yL,by simp;omega,h4,λu hu=>?_⟩
   obtain ⟨i,hi,rfl⟩:=List.mem_iff_getElem.1 hu
   obtain ⟨u',h6,h7,_⟩:=h5.2 i (cells[i]'(by have:=h5.1;omega)) (List.getElem?_eq_getElem _)
   rw [List.getElem?_eq_getElem hi] at h6
   rw [Option.some.inj h6];exact h7
 have FJ: ∀l∈pl,∃p q,s.ptr=some p/\pl= [l]/\π l=some q/\q.Ba q.g/\g=q.g/\Ad st.heap l=some (.var p.1 cells)/\cells.length=p.2:= λl hl=>by
  rcases Vz with ⟨_,h1,_⟩|⟨p,l',q,h1,h2,h3,h4,h5,h6,h7,_⟩
  ·rw [h1] at hl;cases hl
  ·rw [h2] at hl
   have:=List.mem_singleton.1 hl
   subst this
   exact ⟨p,q,h1,h2,h3,h4,h5,h6,h7⟩
 have FD: ∀b,s.gv g b-> ∃l∈pl,∃q,π l=some q/\q.Ba b/\b=q.g:= λb ⟨h1,h2⟩=>by
  rcases Vz with ⟨h3,_⟩|⟨p,l',q,_,h4,h5,h6,h7,_⟩
  ·rw [h3] at h1;cases h1
  ·exact ⟨l',by rw [h4];exact List.mem_singleton.2 rfl,q,h5,by rw [h2,h7];exact h6,h2.trans h7⟩
 obtain ⟨as,has⟩: ∃as,as=cells++jd:=⟨_,rfl⟩
 obtain ⟨us,KQ⟩: ∃us,us=SD++qG:=⟨_,rfl⟩
 rw [<-has] at WI htk WE
 rw [<-KQ] at WI Kw
 let V:=(tks.filter λt=>t.2.reads).map λt=>t.2.Pq
 have hV: ∀t∈tks,t.2.reads=true->t.2.Pq∈V:= λt ht hr=>List.mem_map.2 ⟨t,List.mem_filter.2 ⟨ht,hr⟩,rfl⟩
 have hV': ∀l∈V,∃t∈tks,t.2.reads=true/\t.2.Pq=l:= λl hl=>by
  obtain ⟨t,h1,h2⟩:=List.mem_map.1 hl
  exact ⟨t,(List.mem_filter.1 h1).1,(List.mem_filter.1 h1).2,h2⟩
 clear_value V
 obtain ⟨OO,πc,hT,JY,Afs,Oz⟩:=p9 h.1 (V:=V) s.ins 0 as us x tks (by omega) WI htk hV
 have zo:=Qo OY
 rw [OO] at zo
 have Yr: ∀b,Om πc b-> ∃t∈Gu 0 s.ins as,t.2.reads=false/\ ∃q,π t.2.Pq=some q/\q.Ba b/\ ∀l i j,t.2= .sub l i j->b≠q.g:= λb ⟨c,q,h1,h2⟩=>by
  obtain ⟨t,t1,_,t3⟩:=Oz c q b h1 h2
  exact ⟨t,t1,t3⟩
 have zr: ∀b,Om πc b->Om π b:= λb hb=>let ⟨t,_,_,q,h1,h2,_⟩:=Yr b hb;⟨_,q,h1,h2⟩
 have dK:bM πc (λb=>b<w.heap.size):=⟨λl q b h1 h2=>(h.1.own (zr b ⟨l,q,h1,h2⟩)).1,λl l' q q' b h1 h2 h3 h4=>by
  obtain ⟨t,t1,t2,_,p,t3,t4,_⟩:=Oz l q b h1 h3
  obtain ⟨t',YC,t2',_,p',t3',t4',_⟩:=Oz l' q' b h2 h4
  have:=tH zo t1 YC (h.1.apart t3 t3' t4 t4')
  rw [<-t2,<-t2',this]⟩
 have Aa5: ∀k l,(Bq false k,Loc.row l)∈Gu 0 s.ins as->πc (Bq false k)=(π l).map full:= λk l ht=>
  yg s.ins 0 x as us (by omega) hT k l ht
 have Abk: ∀b,Om πc b->Ja X π V b:= λb hb=> .inl ⟨zr b hb,λl hl r' hr hf=>by
  obtain ⟨t,t1,t0,q,t3,t4,_⟩:=Yr b hb
  obtain ⟨t',YC,t2',rfl⟩:=hV' l hl
  rw [OO] at YC
  have:=tH zo t1 YC (h.1.apart t3 hr t4 hf)
  subst this
  rw [t0] at t2';cases t2'⟩
 let S:Nat->Prop:= λb=> ¬Om πc b/\Ja X π V b
 have hS: ∀b,S b->b<w.heap.size/\ ¬Om πc b:= λb hb=>⟨by
  rcases hb.2 with h1|h1
  ·exact (h.1.own h1.1).1
  ·exact Nat.lt_of_lt_of_le (h.1.sc b h1).1 h.1.below.size,hb.1⟩
 have QI: ∀l∈pl,∀t∈Gu 0 s.ins as,t.2.Pq≠l:= λl hl t ht e=>(FI l hl).1 (List.mem_map.2 ⟨t,OO▸ht,e⟩)
 have hSg:s.ptr.isSome=true->S g:= λZP=>by
  obtain ⟨l,hl,q,h1,h2,h3⟩:=FD g ⟨ZP,rfl⟩
  have TH: ¬Om πc g:= λhb=>by
   obtain ⟨t,t1,_,q',t3,t4,_⟩:=Yr g hb
   exact QI l hl t t1 (h.1.apart t3 h1 t4 h2)
  refine ⟨TH, .inl ⟨⟨l,q,h1,h2⟩,λl' Fz r' Zl hf=>?_⟩⟩
  obtain ⟨t',YC,_,rfl⟩:=hV' l' Fz
  rw [OO] at YC
  exact QI l hl t' YC (h.1.apart Zl h1 hf h2)
 refine (hs.calls w S πc us x r o g vs Kw hSg (Zn.Ek (λb hb=>hb.elim (Abk b) λh=>h.2) s.ins 0 x us (hT.Abr s.ins 0 x as us)) dK hS Afs ZG).mono ?_
 rintro e w' ⟨v,Pp,vA,rfl,ab,rn,PW,tf,Aax,KJ,WW,rD⟩
 obtain ⟨ρ,QO,zq,KI,SR⟩: ∃ρ:Pi,(∀l,ρ l=(vA l).map full)/\Eo w' (eg S πc vA) ρ 0 s.outs r Pp/\bM ρ (λb=>b<w'.heap.size/\(w.heap.size<=b\/ ∃l q,l<Ak/\πc l=some q/\q.Ba b))/\ ∀l q,ρ l=some q->q.cl=q.Ba:=by
  have un: ∀l q,(vA l).map full=some q-> ∃q0,vA l=some q0/\q=full q0:= λl q hq=>by
   cases hp:vA l with
   |none=>rw [hp] at hq;cases hq
   |some q0=>rw [hp] at hq;exact ⟨q0,rfl,(Option.some.inj hq).symm⟩
  refine ⟨λl=>(vA l).map full,λ_=>rfl,Eo.full s.outs 0 r Pp Aax,⟨λl q b h1 h2=>?_,λl l' q q' b h1 h2 h3 h4=>?_⟩,λl q h1=>?_⟩
  ·obtain ⟨q0,h5,rfl⟩:=un l q h1
   exact KJ.Tk l q0 b h5 h2
  ·obtain ⟨q0,h5,rfl⟩:=un l q h1
   obtain ⟨XY,h6,rfl⟩:=un l' q' h2
   exact KJ.inj l l' q0 XY b h5 h6 h3 h4
  ·obtain ⟨q0,_,rfl⟩:=un l q h1
   rfl
 refine ⟨v,rfl,?_⟩
 split at he
 ·cases he
 rename_i av0 cq
 split at he
 rotate_left
 ·cases he
 rename_i Jy
 simp only [Option.some.injEq,Prod.mk.injEq] at he
 obtain ⟨rfl,rfl⟩:=he
 let D1:Nat->Prop:=if s.flat then λ_=>True else eg S πc vA
 have Afv:Hb w' D1 πc 0 s.ins o:=by
  show Hb w' (if s.flat then λ_=>True else eg S πc vA) πc 0 s.ins o
  split
  ·rename_i hf
   unfold MSpec.flat at hf
   simp only [Bool.and_eq_true] at hf
   exact Hb.any s.ins 0 o hf.2 tf
  ·exact tf
 have Aay:Eo w' D1 ρ 0 s.outs r Pp:=by
  show Eo w' (if s.flat then λ_=>True else eg S πc vA) ρ 0 s.outs r Pp
  split
  ·rename_i hf
   unfold MSpec.flat at hf
   simp only [Bool.and_eq_true] at hf
   exact Eo.any s.outs 0 r Pp hf.1 zq
  ·exact zq
 obtain ⟨q1,q2,q3,q4⟩:=o9 (D:=D1) (X:=X) (π:=π) (H:=st.heap) h.1 PW.size (tks:=Gu 0 s.ins as) (πc:=πc) (λt ht q b hq hb Fg hn=>PW.block b Fg λzp=>by
   rcases zp with ⟨c,r',h1,h2⟩|hg
   rotate_left
   ·obtain ⟨l,hl,q',h1,h2,_⟩:=FD b hg
    exact QI l hl t ht (h.1.apart hq h1 hb h2)
   obtain ⟨t',t1,t2,_,p,t3,t4,_⟩:=Oz c r' b h1 h2
   have:=tH zo ht t1 (h.1.apart hq t3 hb t4)
   subst this
   exact hn r' (t2▸h1) h2) s.ins 0 x as us o st st1 (by omega) (λ_ h=>h) zo hT Afv WE (λ_ _=>rfl)
 have WJ: ∀t∈Gu 0 s.ins as,t.2.reads=true->t.1<Ak:=by
  have: ∀(cs:List (Bool×CK)) (k:Nat) (as:List AC),k+cs.length<100000-> ∀t∈Gu k cs as,t.2.reads=true->t.1<Ak:=by
   intro cs
   induction cs with
   |nil=>intro k as _ t ht;cases as<;>cases ht
   |cons p r ih=>
    intro k as hk t ht hr
    simp only [List.length_cons] at hk
    cases as with
    |nil=>cases ht
    |cons a as=>
     simp only [Gu] at ht
     rcases List.mem_append.1 ht with ht|ht
     ·rcases ye ht with ⟨_,h1⟩|⟨h1,_⟩
      ·rw [hr] at h1;cases h1
      ·rw [h1];exact aD (by omega)
     ·exact ih (k+1) as (by omega) t ht hr
  exact this s.ins 0 as (by omega)
 let d:=dst.getD 0
 let ks:=Lu s tks d
 let dead:=gR tks++ks++(if s.flat then [] else uU tks)
 let part:=whole tks
 have Agk:s.outs.length+(gk s d).length=s.Nn:=by unfold MSpec.Nn gk;cases s.rp<;>rfl
 obtain ⟨VU,Ag1,TC⟩:ks.length=s.Nn/\ks.Nodup/\ ∀l∈ks,l<Ak:=by
  have:=zG ny
  rw [Agk] at this
  exact this
 have TH:s.outs.length<=s.Nn:=by unfold MSpec.Nn;omega
 have QL: ∀tid,s.rp=some tid->Bt ks s.outs.length=Mt d/\s.Nn=s.outs.length+1:= λtid Qj=>by
  have h1:s.Nn=s.outs.length+1:=by unfold MSpec.Nn;rw [Qj]
  refine ⟨?_,h1⟩
  have h2:ks=gN s tks d++ [Mt d]:=by show gN s tks d++gk s d=_;unfold gk;rw [Qj]
  have h3:(gN s tks d).length=s.outs.length:=by rw [h2] at VU;simp at VU;omega
  rw [Ld (by rw [VU];omega)]
  simp only [h2]
  rw [List.getElem_append_right (by omega)]
  simp [h3]
 have KG:=vX Ag1 TC
 have Afz: ∀j,j<s.Nn->Bt ks j<Ak:= λj hj=>TC _ (mem_keys.2 ⟨j,by omega,rfl⟩)
 let π':Pi:= λl=>match (List.range s.Nn).find? λj=>decide (Bt ks j=l) with
  |some j=>ρ (Fp j)
  |none=>if l∈dead then none else π l
 have pL: ∀j,j<s.Nn->π' (Bt ks j)=ρ (Fp j):= λj hj=>by
  show (match (List.range s.Nn).find? λi=>decide (Bt ks i=Bt ks j) with|some i=>ρ (Fp i)|none=>_)=_
  cases hf:(List.range s.Nn).find? λi=>decide (Bt ks i=Bt ks j) with
  |none=>
   have:=List.find?_eq_none.1 hf j (List.mem_range.2 hj)
   simp at this
  |some i=>
   have:=List.find?_some hf
   rw [KG i j (of_decide_eq_true this)]
 have nw: ∀j,j<s.Nn->Bt ks j∈dead:= λj hj=>List.mem_append_left _ (List.mem_append_right _ (mem_keys.2 ⟨j,by omega,rfl⟩))
 have tm: ∀l,(¬ ∃j,j<s.Nn/\l=Bt ks j)->π' l=if l∈dead then none else π l:= λl hl=>by
  show (match (List.range s.Nn).find? λi=>decide (Bt ks i=l) with|some i=>ρ (Fp i)|none=>_)=_
  cases hf:(List.range s.Nn).find? λi=>decide (Bt ks i=l) with
  |none=>rfl
  |some i=>
   have h1:=List.find?_some hf
   exact absurd ⟨i,List.mem_range.1 (List.mem_of_find?_eq_some hf),(of_decide_eq_true h1).symm⟩ hl
 have KU: ∀l,l∉dead->π' l=π l:= λl hl=>by
  rw [tm l (λ⟨j,h1,h2⟩=>hl (h2▸nw j h1)),if_neg hl]
 have ZZ: ∀b,Om π' b\/X.Sc b->D1 b:=by
  intro b hb
  show (if s.flat then λ_=>True else eg S πc vA) b
  split
  ·trivial
  rename_i hnf
  rcases hb with ⟨l,q,hl,hf⟩|hb
  ·by_cases hk: ∃j,j<s.Nn/\l=Bt ks j
   ·obtain ⟨j,hj,rfl⟩:=hk
    rw [pL j hj,QO] at hl
    cases hp:vA (Fp j) with
    |none=>rw [hp] at hl;cases hl
    |some q0=>rw [hp] at hl;simp only [Option.map_some,Option.some.injEq] at hl;subst hl;exact .inr (.inr ⟨Fp j,q0,hp,hf⟩)
   ·have e0:π' l=if l∈dead then none else π l:=tm l hk
    rw [e0] at hl
    split at hl
    ·cases hl
    ·rename_i QF
     by_cases ho:Om πc b
     ·obtain ⟨c,q',hc,hcb⟩:=ho
      obtain ⟨t,t1,t2,t0,p,t3,t4,_⟩:=Oz c q' b hc hcb
      have tn:=h.1.apart hl t3 hf t4
      refine .inr (.inl ⟨c,q',Classical.byContradiction λhn=>?_,hc,hcb⟩)
      exact QF (List.mem_append_left _ (List.mem_append_left _ (Yx.2 ⟨t,OO▸t1,⟨by rw [t2];omega,t0⟩,tn.symm⟩)))
     ·refine .inl ⟨ho, .inl ⟨⟨l,q,hl,hf⟩,λl0 VV r0 WH hf0=>?_⟩⟩
      have:=h.1.apart hl WH hf hf0
      subst this
      exact QF (List.mem_append_right _ (by rw [if_neg hnf];exact nR.2 (hV' l VV)))
  ·refine .inl ⟨λho=>?_, .inr hb⟩
   have h1:=h.1.sc b hb
   rcases (h.1.own (zr b ho)).2 with h2|h2
   ·omega
   ·exact h1.2 h2
 have hpd: ∀l∈pl,l∉dead:= λl hl hd=>by
  rcases List.mem_append.1 hd with hd|hd
  ·rcases List.mem_append.1 hd with hd|hd
   ·obtain ⟨t,ht,_,e⟩:=Yx.1 hd
    exact (FI l hl).1 (List.mem_map.2 ⟨t,ht,e⟩)
   ·exact (FI l hl).2 hd
  ·split at hd
   ·cases hd
   ·obtain ⟨t,ht,_,e⟩:=nR.1 hd
    exact (FI l hl).1 (List.mem_map.2 ⟨t,ht,e⟩)
 have VT: ∀j,j<s.Nn->Bt ks j∉pl:= λj hj hp=>hpd _ hp (nw j hj)
 let bv:Option OB:=s.rp.map λtid=> .var tid ((Vl (Bt ks) 0 s.outs r).drop s.Tg)
 let H1:=(lK s.ins (Vl (Bt ks) 0 s.outs r) pl (st1.Wk dead part)).heap
 have ZC: ∀l,l∉pl->Ad H1 l=if l∈dead then none else (Ad st1.heap l).map (OB.map (Ax dead part)):= λl hl=>by
  show Ad (lK _ _ _ _).heap l=_
  rw [BA hl]
  show Ad (Qb (st1.heap.map λp=>(p.1,p.2.map (Ax dead part))) dead) l=_
  rw [Ii,Jf]
 let H2:=wP H1 (Mt d) bv
 have hvd: ∀tid,s.rp=some tid->Mt d∈dead/\Mt d∉pl:= λtid Qj=>by
  obtain ⟨e1,e2⟩:=QL tid Qj
  rw [<-e1]
  exact ⟨nw _ (by omega),VT _ (by omega)⟩
 have Aa3: ∀l,(∀tid,s.rp=some tid->l≠Mt d)->Ad H2 l=Ad H1 l:= λl hl=>by
  show Ad (wP H1 (Mt d) (s.rp.map _)) l=_
  cases yK:s.rp with
  |none=>rfl
  |some tid=>exact Jo _ _ _ _ (hl tid yK)
 have Aev: ∀tid,s.rp=some tid->Ad H2 (Mt d)=some (.var tid ((Vl (Bt ks) 0 s.outs r).drop s.Tg)):= λtid Qj=>by
  show Ad (wP H1 (Mt d) (s.rp.map _)) (Mt d)=_
  rw [Qj]
  exact Km _ _ _ (by rw [ZC _ (hvd tid Qj).2,if_pos (hvd tid Qj).1])
 have hkv: ∀j,j<s.outs.length-> ∀tid,s.rp=some tid->Bt ks j≠Mt d:= λj hj tid Qj e=>by
  have:=KG j s.outs.length (e.trans (QL tid Qj).1.symm)
  omega
 have hH2: ∀l,l∉pl->(∀tid,s.rp=some tid->l≠Mt d)->Ad H2 l=if l∈dead then none else (Ad st1.heap l).map (OB.map (Ax dead part)):= λl hl hv=>by
  rw [Aa3 l hv,ZC l hl]
 let H':=Qp (DC st (gR tks)) (Bt ks) 0 s.outs r H2
 obtain ⟨n1,n2,n3⟩:=l9 (D:=D1) (X:=X) (key:=Bt ks) KG (fr:=DC st (gR tks)) (ρ:=ρ) s.outs 0 r Pp H2 Aay (λj _ hj=>by
  rw [hH2 _ (VT j (by omega)) (hkv j (by omega)),if_pos (nw j (by omega))])
 have jC: ∀l,l∉dead->l∉pl->Ad H' l=(Ad st1.heap l).map (OB.map (Ax dead part)):= λl hl nz=>by
  show Ad (Qp _ _ _ _ _ _) l=_
  rw [n1 l λj _ hj e=>hl (e▸nw j (by omega)),hH2 l nz (λtid Qj e=>hl (e▸(hvd tid Qj).1)),if_neg hl]
 have PT: ∀l,l∈dead->(∀j,j<s.Nn->l≠Bt ks j)->Ad H' l=none:= λl hl hj=>by
  show Ad (Qp _ _ _ _ _ _) l=_
  rw [n1 l λj _ h2=>hj j (by omega),hH2 l (λhp=>hpd l hp hl) (λtid Qj e=>hj s.outs.length (by have:=(QL tid Qj).2;omega) (e.trans (QL tid Qj).1.symm)),if_pos hl]
 have newAt: ∀l b',Ad H' l=some b'->(l∈dead\/Ad st.heap l=none)-> ∃j,j<s.Nn/\l=Bt ks j:=by
  intro l b' hb hd
  refine Classical.byContradiction λhn=>?_
  have mg: ∀j,j<s.Nn->l≠Bt ks j:= λj hj e=>hn ⟨j,hj,e⟩
  rcases Classical.em (l∈dead) with hd'|hd'
  ·rw [PT l hd' mg] at hb;cases hb
  ·rcases hd with hd|hd
   ·exact hd' hd
   ·rw [jC l hd' (λhp=>by obtain ⟨_,_,_,_,_,_,_,h1,_⟩:=FJ l hp;rw [hd] at h1;cases h1)] at hb
    have:Ad st1.heap l=none:=by
     by_cases hi: ∃t∈Gu 0 s.ins as,t.2.Pq=l
     ·obtain ⟨t,ht,e⟩:=hi
      by_cases Fg:t.1<Ak
      ·rw [<-e,q3 t ht Fg,e];exact hd
      ·obtain ⟨b0,_,h1,_⟩:=q4 t ht Fg
       rw [e,hd] at h1;cases h1
     ·rw [q2 l λt ht e=>hi ⟨t,ht,e.symm⟩];exact hd
    rw [this] at hb;cases hb
 have VM: ∀k,DC st (gR tks)=true-> ∀q,ρ (Fp k)=some q->q.Ba q.g->X.w0.heap.size<=q.g:=by
  intro k zl q hq hg
  rcases (KI.Tk _ q _ hq hg).2 with h1|⟨c,p,h1,h2,h3⟩
  ·exact Nat.le_trans h.1.below.size h1
  ·obtain ⟨t,t1,t2,t0,p',t3,t4,_⟩:=Oz c p _ h2 h3
   have hm:t.2.Pq∈gR tks:=Yx.2 ⟨t,OO▸t1,⟨by rw [t2];exact h1,t0⟩,rfl⟩
   have:=List.all_eq_true.1 zl _ hm
   split at this
   ·rename_i fr tr e te xs hl
    unfold St.at at hl
    have hb:=(h.1.heap t.2.Pq).Lc hl
    simp only [Au,Fl,t3] at hb
    rw [hb.1.2.1 _ t4]
    exact hb.1.2.2 this
   ·cases this
 have VK: ∀k q,ρ (Fp k)=some q->k<s.outs.length->q.Ba q.g:=by
  intro k q hq hk
  exact Eo.SE s.outs 0 r Pp zq k (Nat.zero_le _) ((Nat.zero_add _).symm▸hk) q hq
 have hinv: ∀l,l∉dead->(∃t∈Gu 0 s.ins as,t.2.reads=false/\t.2.Pq=l)->gH X D1 w' π st.heap st1.heap l:=by
  rintro l hd ⟨t,ht,h0,rfl⟩
  by_cases Fg:t.1<Ak
  ·exact absurd (List.mem_append_left _ (List.mem_append_left _ (Yx.2 ⟨t,OO▸ht,⟨Fg,h0⟩,rfl⟩))) hd
  ·exact q4 t ht Fg
 have tp: ∀l,(¬ ∃t∈Gu 0 s.ins as,t.2.reads=false/\t.2.Pq=l)->Ad st1.heap l=Ad st.heap l:= λl hn=>by
  by_cases hi: ∃t∈Gu 0 s.ins as,t.2.Pq=l
  ·obtain ⟨t,ht,rfl⟩:=hi
   have hr:t.2.reads=true:=by
    cases h0:t.2.reads with
    |true=>rfl
    |false=>exact absurd ⟨t,ht,h0,rfl⟩ hn
   exact q3 t ht (WJ t ht hr)
  ·exact q2 l λt ht e=>hi ⟨t,ht,e.symm⟩
 have SL: ∀l∈pl,∀p,s.ptr=some p->Ad H' l=some (.var p.1 (bo s.ins (cells.map (Ax dead part)) (Vl (Bt ks) 0 s.outs r))):= λl hl p hp=>by
  obtain ⟨p',q,h1,h2,_,_,_,h3,_⟩:=FJ l hl
  rw [hp] at h1;cases h1
  show Ad (Qp _ _ _ _ _ _) l=_
  rw [n1 l λj _ hj e=>VT j (by omega) (e▸hl),Aa3 l (λtid Qj e=>(hvd tid Qj).2 (e▸hl))]
  show Ad (lK _ _ _ _).heap l=_
  rw [h2]
  refine HD ?_
  show Ad (Qb (st1.heap.map λp=>(p.1,p.2.map (Ax dead part))) dead) l=_
  rw [Ii,Jf,if_neg (hpd l hl),tp l (λ⟨t,ht,_,e⟩=>QI l hl t ht e),h3]
  rfl
 have TE: ∀j,j<s.Nn->s.outs.length<=j-> ∃tid,s.rp=some tid/\j=s.outs.length:= λj h1 h2=>by
  cases yK:s.rp with
  |none=>unfold MSpec.Nn at h1;rw [yK] at h1;simp at h1;omega
  |some tid=>exact ⟨tid,rfl,by have:=(QL tid yK).2;omega⟩
 have hHv: ∀tid,s.rp=some tid->Ad H' (Mt d)=some (.var tid ((Vl (Bt ks) 0 s.outs r).drop s.Tg)):= λtid Qj=>by
  show Ad (Qp _ _ _ _ _ _) _=_
  rw [n1 _ λj _ hj e=>hkv j (by omega) tid Qj e.symm,Aev tid Qj]
 suffices Aaq:Aj X π' (fE st st1 d s pl tks r) a w'/\Am X w' π' (fE st st1 d s pl tks r).heap av0 v by
  obtain ⟨m1,m2⟩:=Aaq
  have vq: ∀(kj:List (Nat×Nat)) (l:Nat),l∈Vg st.heap ks tks kj->iq st.heap l=true/\ ∃k j t,(k,j)∈kj/\t∈tks/\t=(Bq false k,Loc.row l)/\ks[j]?=some l:=by
   intro kj
   induction kj with
   |nil=>intro l hl;cases hl
   |cons p kj ih=>
    intro l hl
    obtain ⟨k,j⟩:=p
    have up:l∈Vg st.heap ks tks kj->iq st.heap l=true/\ ∃k' j' t,(k',j')∈(k,j)::kj/\t∈tks/\t=(Bq false k',Loc.row l)/\ks[j']?=some l:= λhl=>by
     obtain ⟨h1,k',j',t,h2,h3⟩:=ih l hl
     exact ⟨h1,k',j',t,List.mem_cons_of_mem _ h2,h3⟩
    simp only [Vg] at hl
    split at hl
    ·rename_i x0 l1 l2 h1 h2
     split at hl
     ·rename_i hc
      simp only [Bool.and_eq_true] at hc
      rcases List.mem_cons.1 hl with rfl|hl
      ·have:=List.find?_some h1
       have e1:=Nat.eq_of_beq_eq_true this
       have e2:=Nat.eq_of_beq_eq_true hc.1
       dsimp only at e1
       exact ⟨hc.2,k,j,_,List.mem_cons_self,List.mem_of_find?_eq_some h1,by rw [e1],by rw [h2,e2]⟩
      ·exact up hl
     ·exact up hl
    ·exact up hl
  obtain ⟨r1,r2⟩:=zD h m1 (ls:=Vg st.heap ks tks s.keeps) (n:=s.Ci x) (λl hl=>by
   obtain ⟨_,k,j,t,h1,h2,h3,h4⟩:=vq s.keeps l hl
   have hj:j<ks.length:=(List.getElem?_eq_some_iff.1 h4).1
   have IS:Bt ks j=l:=by
    rw [Ld hj]
    rw [List.getElem?_eq_getElem hj] at h4
    exact Option.some.inj h4
   have pM:=rD (k,j) h1
   rw [show π' l=ρ (Fp j) by rw [<-IS];exact pL j (by omega),QO]
   have hc:πc (Bq false k)=(π l).map full:=Aa5 k l (by rw [<-h3,<-OO];exact h2)
   dsimp only at pM
   rw [hc] at pM
   cases hp:π l<;>cases hq:vA (Fp j)<;>(rw [hp,hq] at pM;exact pM)) (λl hl=>(vq s.keeps l hl).1) Jy
  exact ⟨π',r1,r2 av0 v m2⟩
 refine ⟨?_,?_⟩
 ·have hx:=Aj.UT (π':=π') (H':=H') (dead:=dead) (part:=part) (inv:= λl=>(∃t∈Gu 0 s.ins as,t.2.reads=false/\t.2.Pq=l)\/l∈pl) (gv:= λb=>Om πc b\/s.gv g b) h (λb hb=>by
    rcases hb with hb|hb
    ·obtain ⟨t,h1,h0,q,h2,h3,_⟩:=Yr b hb
     exact ⟨_,q, .inl ⟨t,h1,h0,rfl⟩,h2,h3⟩
    ·obtain ⟨l,hl,q,h1,h2,_⟩:=FD b hb
     exact ⟨l,q, .inr hl,h1,h2⟩) PW (λl b0 hd h0=>⟨KU l hd,?_⟩) (λl b' hb hd=>?_) (λl hl=>?_) (λm q hd hp hm hxa=>?_)
  ·have:({tmps:=(lK s.ins (Vl (Bt ks) 0 s.outs r) pl (st1.Wk dead part)).tmps,heap:=H'} :St)= {tmps:=st.tmps.map (·.map (Ax dead part)),heap:=H'} :=by
    rw [kf]
    show ({tmps:=st1.tmps.map (·.map (Ax dead part)),heap:=H'} :St)=_
    rw [q1]
   show Aj X π' ({tmps:=(lK s.ins (Vl (Bt ks) 0 s.outs r) pl (st1.Wk dead part)).tmps,heap:=H'} :St) a w'
   rw [this]
   exact hx
  ·by_cases QC:l∈pl
   ·obtain ⟨p,q,h1,h2,h3,h4,h5,h6,h7⟩:=FJ l QC
    rw [h0] at h6;cases h6
    have pt:=SL l QC p h1
    refine .inr ⟨_,pt,⟨rfl,by rw [jX]⟩,λm=>?_⟩
    unfold fw at rn
    rw [h1] at rn
    obtain ⟨cs,k1,k2,k3⟩:=rn
    rw [<-h7] at k3
    refine ⟨q,h3,h4,cs.toArray,by rw [<-h5];exact k1,?_⟩
    refine Hy.to (dR (H:=st.heap) KU (λl1 b1 sz n hd1 JV QJ=>?_) s.ins 0 cells jd x us o st st1 (Vl (Bt ks) 0 s.outs r) Pp cs (has▸hT) Aao (has▸WE) k3 (n3 π' ZZ (λj _ hj=>pL j (by omega)))) (by simpa using k2)
    have hnp:l1∉pl:= λhp=>by
     obtain ⟨_,_,_,_,_,_,_,h8,_⟩:=FJ l1 hp
     rw [JV] at h8;cases h8;cases QJ
    by_cases hi: ∃t∈Gu 0 s.ins as,t.2.reads=false/\t.2.Pq=l1
    ·obtain ⟨b1,b',e1,e2,e3,e4,e5,e6⟩:=hinv l1 hd1 hi
     rw [JV] at e1;cases e1
     exact ⟨b',by rw [jC l1 hd1 hnp,e2];simp [e4],by rw [e5.row];exact QJ⟩
    ·exact ⟨_,by rw [jC l1 hd1 hnp,tp l1 hi,JV];rfl,by rw [OB.ui];exact QJ⟩
   by_cases hi: ∃t∈Gu 0 s.ins as,t.2.reads=false/\t.2.Pq=l
   ·obtain ⟨b1,b',e1,e2,e3,e4,e5,e6⟩:=hinv l hd hi
    rw [h0] at e1;cases e1
    exact .inr ⟨b',by rw [jC l hd QC,e2];simp [e4],by rw [e3];exact e5,λ_=>e6 π' H' ZZ⟩
   ·exact .inl ⟨λhh=>hh.elim hi QC,by rw [jC l hd QC,tp l hi,h0];rfl⟩
  ·obtain ⟨j,hj,rfl⟩:=newAt l b' hb hd
   refine ⟨Afz j hj,?_,λq b hq=>?_⟩
   ·rw [pL j hj]
    rcases Nat.lt_or_ge j s.outs.length with ZI|ZI
    ·rcases n2 j (Nat.zero_le _) (by omega) with ⟨e1,_⟩|⟨b2,e1,e2⟩
     ·rw [show Ad H' (Bt ks j)=none from e1] at hb;cases hb
     ·rw [show Ad H' (Bt ks j)=some b2 from e1] at hb;cases hb
      exact e2 X π' H' (λhf q hq=>VM j hf q hq (VK j q hq ZI)) ZZ
    ·obtain ⟨tid,Qj,hj0⟩:=TE j hj ZI
     subst hj0
     rw [(QL tid Qj).1,hHv tid Qj] at hb;cases hb
     unfold mC at ab
     rw [Qj] at ab
     obtain ⟨q,y1,y2,y3,y4,_⟩:=ab
     rw [QO,y1]
     exact ⟨full q,rfl,y2,_,y3,Hy.to (Hy.take s.Tg (n3 π' ZZ (λj _ hj=>pL j (by omega)))).2 (by simpa using y4)⟩
   ·rw [pL j hj] at hq
    have Ly:=SR _ q hq
    refine ⟨λhf=>by rw [Ly];exact hf,λhf=>?_⟩
    rw [Ly] at hf
    obtain ⟨h1,h2⟩:=KI.Tk _ q b hq hf
    refine ⟨h1,h2.imp id ?_,λl2 r2 hd2 FG VI=>?_⟩
    ·rintro ⟨c,p,h3,h4,h5⟩
     obtain ⟨t,t1,t2,t0,p',t3,t4,_⟩:=Oz c p b h4 h5
     exact ⟨t.2.Pq,p',List.mem_append_left _ (List.mem_append_left _ (Yx.2 ⟨t,OO▸t1,⟨by rw [t2];exact h3,t0⟩,rfl⟩)),t3,t4⟩
    ·by_cases hk: ∃j,j<s.Nn/\l2=Bt ks j
     ·obtain ⟨j2,hj2,rfl⟩:=hk
      rw [pL j2 hj2] at FG
      rw [SR _ r2 FG] at VI
      have:=KI.inj _ _ r2 q b FG hq VI hf
      unfold Fp at this
      have:j2=j:=by omega
      rw [this]
     ·have e0:π' l2=if l2∈dead then none else π l2:=tm l2 hk
      rw [e0] at FG
      split at FG
      ·cases FG
      ·rename_i QF
       rcases hd2 with hd2|hd2
       ·exact absurd hd2 QF
       ·rw [(h.1.heap l2).emp hd2] at FG;cases FG
  ·by_cases hk: ∃j,j<s.Nn/\l=Bt ks j
   ·obtain ⟨j,hj,rfl⟩:=hk
    rw [pL j hj]
    rcases Nat.lt_or_ge j s.outs.length with ZI|ZI
    ·rcases n2 j (Nat.zero_le _) (by omega) with ⟨_,e1⟩|⟨b2,e1,_⟩
     ·exact e1
     ·rw [show Ad H' (Bt ks j)=some b2 from e1] at hl;cases hl
    ·obtain ⟨tid,Qj,hj0⟩:=TE j hj ZI
     subst hj0
     rw [(QL tid Qj).1,hHv tid Qj] at hl;cases hl
   ·have e0:π' l=if l∈dead then none else π l:=tm l hk
    rw [e0]
    split
    ·rfl
    ·rename_i hd
     by_cases QC:l∈pl
     ·obtain ⟨p,_,h1,_⟩:=FJ l QC
      rw [SL l QC p h1] at hl;cases hl
     rw [jC l hd QC] at hl
     by_cases hi: ∃t∈Gu 0 s.ins as,t.2.reads=false/\t.2.Pq=l
     ·obtain ⟨_,b',_,e2,_⟩:=hinv l hd hi
      rw [e2] at hl;cases hl
     ·rw [tp l hi] at hl
      cases h0:Ad st.heap l with
      |none=>exact (h.1.heap l).emp h0
      |some b=>rw [h0] at hl;cases hl
  ·refine PW.block _ (h.1.lt hm).1 λzp=>?_
   rcases zp with ho|hg
   rotate_left
   ·obtain ⟨l,hl,q',h1,h2,_⟩:=FD _ hg
    have tn:=h.1.apart hm h1 (h.1.Ba hm) h2
    obtain ⟨_,_,_,_,_,_,_,h3,_⟩:=FJ l hl
    obtain ⟨b,hxa,hxb⟩:=hxa
    rw [tn,h3] at hxa;cases hxa
    exact hxb rfl
   obtain ⟨t,t1,t0,p,t3,t4,t5⟩:=Yr _ ho
   have tn:=h.1.apart hm t3 (h.1.Ba hm) t4
   have ZO:p=q:=by rw [<-tn,hm] at t3;exact (Option.some.inj t3).symm
   cases TP:t.2 with
   |row l=>
    refine hp ?_
    show m∈whole tks
    unfold whole
    exact List.mem_flatMap.2 ⟨t,OO▸t1,by rw [TP,tn,TP];simp [Loc.Pq]⟩
   |sub l i j=>exact t5 l i j TP (by rw [ZO])
   |view l=>rw [TP] at t0;cases t0
 ·have Agj:=n3 π' ZZ (λj _ hj=>pL j (by omega))
  cases yK:s.rp with
  |some tid=>
   unfold mC at ab
   rw [yK] at ab
   obtain ⟨q,y1,y2,y3,y4,rfl⟩:=ab
   unfold RE at cq
   rw [yK] at cq
   simp only [Option.some.injEq] at cq;subst cq
   refine ⟨full q,tid,_,hHv tid yK,?_,rfl⟩
   rw [<-(QL tid yK).1,pL _ (by have:=(QL tid yK).2;omega),QO,y1]
   rfl
  |none=>
  unfold mC at ab
  rw [yK] at ab
  obtain ⟨ab,Agp⟩:=ab
  unfold RE at cq
  rw [yK] at cq
  simp only at cq
  obtain ⟨g1,g2,g3,g4⟩:=Yo s.Ef _ (Pp.drop s.Tg) Agp (Hy.take s.Tg Agj).2
  unfold Acb at cq
  unfold MS at ab
  split at cq
  ·rename_i hm
   rw [if_pos hm] at ab
   simp only [Option.some.injEq] at cq;subst cq
   subst ab
   exact ⟨_,rfl,g3.symm,g4⟩
  ·rename_i hm
   rw [if_neg hm] at ab
   split at cq
   ·rename_i av1 hga
    simp only [Option.some.injEq] at cq;subst cq
    rcases ab with ab|ab
    ·exact g2 0 _ v (by rw [hga];rfl) (by rw [ab];rfl)
    ·rw [hga,ab] at g1;cases g1
   ·simp only [Option.some.injEq] at cq;subst cq;trivial
   ·cases cq
end
end Go.Proofs.YtfolipnappekaaaGreat
