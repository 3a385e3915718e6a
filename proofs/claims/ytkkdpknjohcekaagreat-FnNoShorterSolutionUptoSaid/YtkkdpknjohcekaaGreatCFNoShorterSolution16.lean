/-
  Part 17 of the proof that the statement FnNoShorterSolution holds.
-/
import Derived.Test.YtkkdpknjohcekaaGreatCFNoShorterSolution15
namespace Go.Proofs.YtkkdpknjohcekaaGreat
open Go.RowKit
section
variable {P:Program} {T:Tab} {X:Ctx} {w w':World} {π π':Pi} {H H':List (Nat×OB)}
theorem bt (k:Nat): ¬Dx true k<Bl:=by unfold Dx Bl;simp
theorem gi {k:Nat} (h:k<100000):Dx false k<Bl:=by unfold Dx Bl;simp;omega
def mY (X:Ctx) (D:Nat->Prop) (w':World) (π:Pi) (H Hn:List (Nat×OB)) (l:Nat):Prop:=
 ∃b0 b',Aw H l=some b0/\Aw Hn l=some b'/\(∀f,OB.map f b0=b0)/\(∀f,OB.map f b'=b')/\b0.fP b'/\ ∀π' H',(∀b,Wa π' b\/X.Sc b->D b)->Ch X w' π' H' (π l) b'
theorem Abl {io:Bool} {k:Nat} {τ:Ty} {a:AC} {t:Nat×Loc} (h:t∈Rc io k (.Ec τ) a):t.1=Dx false k:=by
 cases a<;>simp [Rc,views] at h<;>first|(obtain ⟨_,⟨_,_⟩,rfl⟩:=h;rfl)|(rw [h])
theorem VJ {io:Bool} {k:Nat} {e:Ty} {te:TypeId} {a:AC} {t:Nat×Loc} (h:t∈Rc io k (.part e te) a):t.1=Dx io k:=by cases a<;>simp [Rc] at h<;>rw [h]
theorem Abm {io:Bool} {k:Nat} {e:Ty} {te:TypeId} {a:AC} {t:Nat×Loc} (h:t∈Rc io k (.row e te) a):t.1=Dx io k:=by cases a<;>simp [Rc] at h<;>rw [h]
theorem VK {io:Bool} {k:Nat} {e:Ty} {te:TypeId} {a:AC} {t:Nat×Loc} (h:t∈Rc io k (.Ij e te) a):t.1=Dx io k:=by cases a<;>simp [Rc] at h<;>rw [h]
theorem fy {D:Nat->Prop} {π':Pi} {fr:Bool} {e:Ty} {es:List Value} {y:e.den} (hD: ∀b,Wa π' b\/X.Sc b->D b) (h:Cells w' D e es y):Cells w' (Cy X.w0.heap.size X.Sc π' (fr&&e.flat)) e es y:=by
 cases hf:e.flat with
 |true=>exact Cells.flat e es y hf h
 |false=>exact Cells.Fp (Ap _) (λ_ _ _=>rfl) (λb _ hb=>by
   rcases hb with hb|hb|⟨hb,_⟩
   ·exact hD b (.inl hb)
   ·exact hD b (.inr hb)
   ·simp at hb) e es y h
theorem VM {D P:Nat->Prop} {g o:Nat} {cur:Array Value} {tr:Bool} {e:Ty} {xs:List e.den}
  (h: ∀(i:Nat) (x:e.den),xs[i]?=some x-> ∃es:List Value,es.length=e.size/\(∀j u,es[j]?=some u->cur[(o+i)*e.size+j]?=some u)/\Cells w' D e es x) (ht:(tr&&e.flat)=true):Xv w' P g o cur e xs:=by
 simp only [Af] at ht
 exact nG ht.2 h
theorem UJ {D:Nat->Prop} (h:Nm X w π H) {k:Nat} {c:CK} {ys:c.den} {a:AC} {u:Value} {r:Option Real} {x:c.den} {cur st1:St} (hs:w.heap.size<=w'.heap.size)
  (hU: ∀l i j q b,a= .sub l i j->π l=some q->q.Cr b->b<w.heap.size->(∀r',r=some r'-> ¬r'.Cr b)->w'.heap[b]?=w.heap[b]?)
  {V:List Nat} (ht:fh w (Pd X π V) r u c x/\Tz w π H true a u r c x) (hr:gJ w' D r c ys) (he:cE cur c ys a=some st1) (iq: ∀t∈Rc true k c a,Aw cur.heap t.2.Xj=Aw H t.2.Xj):
  st1.tmps=cur.tmps/\(∀m,(∀t∈Rc true k c a,m≠t.2.Xj)->Aw st1.heap m=Aw cur.heap m)/\ ∀t∈Rc true k c a,mY X D w' π H st1.heap t.2.Xj:=by
 obtain ⟨hc,ht⟩:=ht
 cases c with
 |Ec τ=>cases a<;>simp [cE] at he;subst he;exact ⟨rfl,λ_ _=>rfl,λt ht=>by simp [Rc] at ht⟩
 |row e te=>
  simp only [Tz] at ht
  cases a<;>simp only [] at ht<;>first|(exact ht.elim)|skip
  ·simp only [cE,Aa] at he;subst he
   exact ⟨rfl,λ_ _=>rfl,λt ht=>by simp [Rc] at ht⟩
  ·rename_i l off len
   obtain ⟨rfl,rfl,rfl,fr,tr,hl⟩:=ht
   have Qj:Aw cur.heap l=some (.arr fr tr e te x):=(iq _ (Ad.2 rfl)).trans hl
   simp only [cE,St.at,Qj] at he
   split at he
   ·rename_i Ki
    obtain ⟨_,h1,_⟩:=Ki
    simp only [Aa] at he;subst he
    refine ⟨rfl,λm hm=>Dy _ _ _ _ (hm _ (Ad.2 rfl)),λt Vj=>?_⟩
    have Vj:=Ad.1 Vj
    subst Vj
    refine ⟨_,_,hl,Ev _ _ _ _ Qj,λ_=>rfl,λ_=>rfl,⟨rfl,h1.symm⟩,λπ' H' hD=>?_⟩
    have hb:=(h.heap l).Rz hl
    change Ch X w' π' H' (π l) _
    simp only [Ch,Kr] at hb⊢
    cases hp:π l with
    |none=>rw [hp] at hr;exact hr
    |some q=>
     rw [hp] at hr hb
     obtain ⟨k1,cu,ti,k2,k3,k4,k5,k6⟩:=hr
     exact ⟨⟨k1.1,k1.2,λhh=>hb.1.2.2 (by simp only [Af] at hh;exact hh.1)⟩,cu,ti,k2,k3,k4,k5,λi y hy=>by
      obtain ⟨es,g1,g2,g3⟩:=k6 i y hy
      exact ⟨es,g1,g2,fy hD g3⟩,λht=>VM k6 ht⟩
   ·cases he
  ·rename_i l i j
   obtain ⟨⟨_,hf⟩,tid,xs,hl,hx,q,hq,Wm,hre⟩:=ht
   have Qj:Aw cur.heap l=some (.He (.slice e) tid xs):=(iq _ (Ad.2 rfl)).trans hl
   simp only [cE,St.at,Qj,hx] at he
   rw [Jq trivial] at he
   ·split at he
    ·rename_i h1
     simp only [Aa] at he;subst he
     refine ⟨rfl,λm hm=>Dy _ _ _ _ (hm _ (Ad.2 rfl)),λt Vj=>?_⟩
     have Vj:=Ad.1 Vj
     subst Vj
     refine ⟨_,_,hl,Ev _ _ _ _ Qj,λ_=>rfl,λ_=>rfl,⟨rfl,by simp⟩,λπ' H' _=>?_⟩
     show Ol w' (π l) (.slice e) tid _
     rw [hq]
     refine hre w' ys hs (λb Li hb hn=>hU l i j q b rfl hq hb Li hn) ?_
     have hv:=hc.1
     rw [<-show List.length ys=List.length x from h1] at hv
     exact Th.NV hr hf hv
    ·cases he
 |Ij e te=>
  simp only [Tz] at ht
  cases a<;>simp only [] at ht<;>first|(exact ht.elim)|skip
  ·simp only [cE,Aa] at he;subst he
   exact ⟨rfl,λ_ _=>rfl,λt ht=>by simp [Rc] at ht⟩
  ·rename_i l off len
   obtain ⟨rfl,rfl,rfl,hl⟩:=ht
   have Qj:Aw cur.heap l=some (.He e te x):=(iq _ (Ad.2 rfl)).trans hl
   simp only [cE,St.at,Qj] at he
   split at he
   ·rename_i Ki
    obtain ⟨_,h1,_⟩:=Ki
    simp only [Aa] at he;subst he
    refine ⟨rfl,λm hm=>Dy _ _ _ _ (hm _ (Ad.2 rfl)),λt Vj=>?_⟩
    have Vj:=Ad.1 Vj
    subst Vj
    refine ⟨_,_,hl,Ev _ _ _ _ Qj,λ_=>rfl,λ_=>rfl,⟨rfl,h1.symm⟩,λπ' H' _=>?_⟩
    show Ol w' (π l) e te _
    cases hp:π l with
    |none=>rw [hp] at hr;exact hr
    |some q=>rw [hp] at hr;exact hr
   ·cases he
  ·rename_i l i j
   obtain ⟨_,tid,xs,hl,hx,q,hq,Wm,hre⟩:=ht
   have Qj:Aw cur.heap l=some (.He (.slice e) tid xs):=(iq _ (Ad.2 rfl)).trans hl
   simp only [cE,St.at,Qj,hx] at he
   rw [Jq trivial] at he
   ·split at he
    ·rename_i h1
     simp only [Aa] at he;subst he
     refine ⟨rfl,λm hm=>Dy _ _ _ _ (hm _ (Ad.2 rfl)),λt Vj=>?_⟩
     have Vj:=Ad.1 Vj
     subst Vj
     refine ⟨_,_,hl,Ev _ _ _ _ Qj,λ_=>rfl,λ_=>rfl,⟨rfl,by simp⟩,λπ' H' _=>?_⟩
     show Ol w' (π l) (.slice e) tid _
     rw [hq]
     refine hre w' ys hs (λb Li hb hn=>hU l i j q b rfl hq hb Li hn) ?_
     have hv:=hc.1
     rw [<-show List.length ys=List.length x from h1] at hv
     exact Ol.NV (te:=te) hr hv
    ·cases he
 |part e te=>cases a<;>simp [cE] at he<;>first|(simp only [Tz] at ht;exact ht.2.elim)
 |Bo e te kp=>exact absurd ht.1 (by simp)
theorem UK {D:Nat->Prop} (h:Nm X w π H) {k:Nat} {e:Ty} {te:TypeId} {ys:List e.den} {a:AC} {u:Value} {r:Option Real} {x:(CK.part e te).den} {cur st1:St}
  {V:List Nat} (ht:fh w (Pd X π V) r u (.part e te) x/\Tz w π H true a u r (.part e te) x) (hr:gJ w' D r (.row e te) ys) (he:MN cur e ys a=some st1) (iq: ∀t∈Rc true k (.part e te) a,Aw cur.heap t.2.Xj=Aw H t.2.Xj):
  st1.tmps=cur.tmps/\(∀m,(∀t∈Rc true k (.part e te) a,m≠t.2.Xj)->Aw st1.heap m=Aw cur.heap m)/\ ∀t∈Rc true k (.part e te) a,mY X D w' π H st1.heap t.2.Xj:=by
 obtain ⟨hc,hf,ht⟩:=ht
 cases a<;>simp only [] at ht<;>first|(exact ht.elim)|skip
 rename_i l off len
 obtain ⟨rfl,_,fr,tr,hl⟩:=ht
 have Qj:Aw cur.heap l=some (.arr fr tr e te x.1):=(iq _ (Ad.2 rfl)).trans hl
 simp only [MN,St.at,Qj] at he
 split at he
 ·rename_i Ki
  obtain ⟨_,h1⟩:=Ki
  simp only [Aa] at he;subst he
  refine ⟨rfl,λm hm=>Dy _ _ _ _ (hm _ (Ad.2 rfl)),λt Vj=>?_⟩
  have Vj:=Ad.1 Vj
  subst Vj
  refine ⟨_,_,hl,Ev _ _ _ _ Qj,λ_=>rfl,λ_=>rfl,⟨rfl,h1.symm⟩,λπ' H' _=>?_⟩
  have hb:=(h.heap l).Rz hl
  change Ch X w' π' H' (π l) _
  simp only [Ch,Kr] at hb⊢
  cases hp:π l with
  |none=>rw [hp] at hr;exact hr
  |some q=>
   rw [hp] at hr hb
   obtain ⟨k1,cu,ti,k2,k3,k4,k5,k6⟩:=hr
   exact ⟨⟨k1.1,k1.2,hb.1.2.2⟩,cu,ti,k2,k3,k4,k5,λi y hy=>by
    obtain ⟨es,g1,g2,g3⟩:=k6 i y hy
    exact ⟨es,g1,g2,Cells.flat e es y hf g3⟩,λ_=>nG hf k6⟩
 ·cases he
def rV (X:Ctx) (D:Nat->Prop) (w':World) (π:Pi) (H:List (Nat×OB)) (tk:List (Nat×Loc)) (cur st1:St):Prop:=
 st1.tmps=cur.tmps/\(∀m,(∀t∈tk,m≠t.2.Xj)->Aw st1.heap m=Aw cur.heap m)/\(∀t∈tk,t.1<Bl->Aw st1.heap t.2.Xj=Aw cur.heap t.2.Xj)/\(∀t∈tk,¬t.1<Bl->mY X D w' π H st1.heap t.2.Xj)
theorem uj {D:Nat->Prop} (h:Nm X w π H) {V:List Nat} {πc:Pi} {tks:List (Nat×Loc)} (hs:w.heap.size<=w'.heap.size)
  (hU: ∀t∈tks,∀q b,π t.2.Xj=some q->q.Cr b->b<w.heap.size->(∀r',πc t.1=some r'-> ¬r'.Cr b)->w'.heap[b]?=w.heap[b]?):
  ∀(cs:List (Bool×CK)) (k:Nat) (x:Ins.den cs) (as:List AC) (us:List Value) (o:IOs.den cs) (cur st1:St),k+cs.length<100000->(∀t∈Mh k cs as,t∈tks)->((Mh k cs as).map λt=>t.2.Xj).Nodup->
   r6 X w π V H πc k cs x as us->Mt w' D πc k cs o->It cs o as cur=some st1->(∀t∈Mh k cs as,Aw cur.heap t.2.Xj=Aw H t.2.Xj)->
   rV X D w' π H (Mh k cs as) cur st1
 | [],k,x,as,us,o,cur,st1,_,_,_,_,_,he,_=>by
  simp only [It,Aa] at he;subst he
  have e0:Mh k [] as= []:=by cases as<;>rfl
  exact ⟨rfl,λ_ _=>rfl,by rw [e0];simp,by rw [e0];simp⟩
 |p::r,k,x,[],us,o,cur,st1,_,_,_,ht,_,_,_=>ht.elim
 |p::r,k,x,a::as,[],o,cur,st1,_,_,_,ht,_,_,_=>ht.elim
 |(io,c)::r,k,x,a::as,u::us,o,cur,st1,hk,Yj,s9,ht,ho,he,iq=>by
  simp only [Ay] at hk
  simp only [Mh] at Yj s9 iq⊢
  rw [Mk] at s9
  obtain ⟨n1,n2,n3⟩:=Du.1 s9
  have apart: ∀t∈Rc io k c a,∀t'∈Mh (k+1) r as,t'.2.Xj≠t.2.Xj:= λt h1 t' h2 e=>n3 _ (Bi.2 ⟨t,h1,rfl⟩) _ (Bi.2 ⟨t',h2,rfl⟩) e.symm
  have rest: ∀(aw:St) (o':IOs.den r),Mt w' D πc (k+1) r o'->It r o' as aw=some st1->aw.tmps=cur.tmps->(∀m,(∀t∈Rc io k c a,m≠t.2.Xj)->Aw aw.heap m=Aw cur.heap m)->
    (∀t∈Rc io k c a,t.1<Bl->Aw aw.heap t.2.Xj=Aw cur.heap t.2.Xj)->(∀t∈Rc io k c a,¬t.1<Bl->mY X D w' π H aw.heap t.2.Xj)->
    rV X D w' π H (Rc io k c a++Mh (k+1) r as) cur st1:=by
   intro aw o' h1 h2 h3 h4 h5 h6
   obtain ⟨g1,g2,g3,g4⟩:=uj h hs hU r (k+1) x.2 as us o' aw st1 (by omega) (λt ht=>Yj t (Cg _ ht)) n2 ht.2 h1 h2 (λt Vj=>by
    rw [h4 _ λt0 ht0=>apart t0 ht0 t Vj];exact iq t (Cg _ Vj))
   have hd: ∀t∈Rc io k c a,Aw st1.heap t.2.Xj=Aw aw.heap t.2.Xj:= λt Vj=>g2 _ λt' KQ=>(apart t Vj t' KQ).symm
   refine ⟨g1.trans h3,λm hm=>?_,λt Vj Li=>?_,λt Vj Li=>?_⟩
   ·rw [g2 m λt ht=>hm t (Cg _ ht),h4 m λt ht=>hm t (Bk _ ht)]
   ·rcases Bb.1 Vj with Vj|Vj
    ·rw [hd t Vj,h5 t Vj Li]
    ·rw [g3 t Vj Li,h4 _ λt0 ht0=>apart t0 ht0 t Vj]
   ·rcases Bb.1 Vj with Vj|Vj
    ·obtain ⟨b0,b',q1,q2,q3⟩:=h6 t Vj Li
     exact ⟨b0,b',q1,(hd t Vj).trans q2,q3⟩
    ·exact g4 t Vj Li
  have same: ∀o',Mt w' D πc (k+1) r o'->It r o' as cur=some st1->(∀t∈Rc io k c a,t.1<Bl)->rV X D w' π H (Rc io k c a++Mh (k+1) r as) cur st1:= λo' h1 h2 h3=>rest cur o' h1 h2 rfl (λ_ _=>rfl) (λ_ _ _=>rfl) (λt h4 h5=>absurd (h3 t h4) h5)
  cases io with
  |false=>
   have h3: ∀t∈Rc false k c a,t.1<Bl:= λt h4=>by rcases HS h4 with ⟨h5,_⟩|⟨h5,_⟩<;>(rw [h5];exact gi (by omega))
   cases c with
   |Ec τ=>exact same o ho (by simpa only [It] using he) h3
   |row e te=>exact same o ho (by simpa only [It] using he) h3
   |Ij e te=>exact same o ho (by simpa only [It] using he) h3
   |part e te=>exact same o ho (by simpa only [It] using he) h3
   |Bo e te kp=>exact same o ho (by simpa only [It] using he) h3
  |true=>
   have row: ∀(ys:c.den) (o':IOs.den r),(∀t∈Rc true k c a,t.1=Dx true k)->gJ w' D (πc (Dx true k)) c ys->Mt w' D πc (k+1) r o'->(∃aw,cE cur c ys a=some aw/\It r o' as aw=some st1)->rV X D w' π H (Rc true k c a++Mh (k+1) r as) cur st1:=by
    intro ys o' h0 h1 h2 h3
    obtain ⟨aw,hp,h3⟩:=h3
    ·obtain ⟨q1,q2,q3⟩:=UJ (k:=k) h hs (λl i j q b ea hq hb Li hn=>by
      cases c with
      |Ec τ=>exact absurd (ht.1.2:πc _=none) (by subst ea;simp [cE] at hp)
      |row e te=>subst ea;exact hU (Dx true k, .sub l i j) (Yj _ (Bk _ (Ad.2 rfl))) q b hq hb Li hn
      |Ij e te=>subst ea;exact hU (Dx true k, .sub l i j) (Yj _ (Bk _ (Ad.2 rfl))) q b hq hb Li hn
      |Bo e te kp=>exact absurd ht.1.2.1 (by simp)
      |part e te=>exact absurd ht.1.2.2 (by subst ea;exact λh=>h)) ht.1 h1 hp (λt Vj=>iq t (Bk _ Vj))
     exact rest aw o' h2 h3 q1 q2 (λt h4 h5=>absurd h5 (by rw [h0 t h4];exact bt k)) (λt h4 _=>q3 t h4)
   cases c with
   |Ec τ=>exact same o ho (by simpa only [It] using he) (λt h4=>by rw [Abl h4];exact gi (by omega))
   |Bo e te kp=>exact absurd ht.1.2.1 (by simp)
   |row e te=>
    simp only [It] at he
    split at he
    ·rename_i aw hp;exact row o.1 o.2 (λt ht=>Abm ht) ho.1 ho.2 ⟨aw,hp,he⟩
    ·cases he
   |Ij e te=>
    simp only [It] at he
    split at he
    ·rename_i aw hp;exact row o.1 o.2 (λt ht=>VK ht) ho.1 ho.2 ⟨aw,hp,he⟩
    ·cases he
   |part e te=>
    simp only [It] at he
    split at he
    ·rename_i aw hp
     obtain ⟨q1,q2,q3⟩:=UK (k:=k) h ht.1 ho.1 hp (λt Vj=>iq t (Bk _ Vj))
     exact rest aw o.2 ho.2 he q1 q2 (λt h4 h5=>absurd h5 (by rw [VJ h4];exact bt k)) (λt h4 _=>q3 t h4)
    ·cases he
theorem LN {fr:Bool} {c:CK} {x:c.den} {u:Value} {r:Option Real} {D:Nat->Prop} (h:fh w' D r u c x):
  (vZ fr c x=none/\r=none)\/ ∃b',vZ fr c x=some b'/\ ∀(X:Ctx) π' H',(fr=true-> ∀q,r=some q->X.w0.heap.size<=q.g)->(∀b,Wa π' b\/X.Sc b->D b)->Ch X w' π' H' r b':=by
 cases c with
 |Ec τ=>exact .inl ⟨rfl,h.1⟩
 |row e te=>
  refine .inr ⟨_,rfl,λX π' H' z0 hD=>?_⟩
  obtain ⟨_,h⟩:=h
  simp only [gJ] at h
  simp only [Ch,Kr]
  cases r with
  |none=>exact h
  |some q=>
   obtain ⟨k1,cu,ti,k2,k3,k4,k5,k6⟩:=h
   exact ⟨⟨k1.1,k1.2,λh1=>z0 (by simp only [Af] at h1;exact h1.1) q rfl⟩,cu,ti,k2,k3,k4,k5,λi y hy=>by
    obtain ⟨es,g1,g2,g3⟩:=k6 i y hy
    exact ⟨es,g1,g2,fy hD g3⟩,λh=>by cases h⟩
 |Ij e te=>exact .inr ⟨_,rfl,λX π' H' _ _=>h.2⟩
 |Bo e te kp=>exact .inr ⟨_,rfl,λX π' H' _ hD=>⟨aE.Jp h.2 λb hb=>hD b (hb.imp id λh=>h.elim id λh=>by cases h.1),trivial⟩⟩
 |part e te=>
  refine .inr ⟨_,rfl,λX π' H' z0 hD=>?_⟩
  obtain ⟨_,hf,h⟩:=h
  simp only [Ch,Kr]
  cases r with
  |none=>exact h
  |some q=>
   obtain ⟨k1,cu,ti,k2,k3,k4,k5,k6⟩:=h
   exact ⟨⟨k1.1,k1.2,λh1=>z0 (by simp only [Af] at h1;exact h1.1) q rfl⟩,cu,ti,k2,k3,k4,k5,λi y hy=>by
    obtain ⟨es,g1,g2,g3⟩:=k6 i y hy
    exact ⟨es,g1,g2,fy hD g3⟩,λh=>by cases h⟩
theorem qH {D:Nat->Prop} {key:Nat->Nat} (YJ: ∀i j,key i=key j->i=j) {fr:Bool} {ρ:Pi} : ∀(cs:List CK) (k:Nat) (x:CKs.den cs) (us:List Value) (H:List (Nat×OB)),Jx w' D ρ k cs x us->
  (∀j,k<=j->j<k+cs.length->Aw H (key j)=none)->
  (∀l,(∀j,k<=j->j<k+cs.length->l≠key j)->Aw (Yp fr key k cs x H) l=Aw H l)/\
  (∀j,k<=j->j<k+cs.length->(Aw (Yp fr key k cs x H) (key j)=none/\ρ (Kx j)=none)\/
   ∃b',Aw (Yp fr key k cs x H) (key j)=some b'/\ ∀(X:Ctx) π' H',(fr=true-> ∀q,ρ (Kx j)=some q->X.w0.heap.size<=q.g)->(∀b,Wa π' b\/X.Sc b->D b)->Ch X w' π' H' (ρ (Kx j)) b')/\
  (∀π',(∀b,Wa π' b\/X.Sc b->D b)->(∀j,k<=j->j<k+cs.length->π' (key j)=ρ (Kx j))->Nn X w' π' (Yp fr key k cs x H) (cd key k cs x) us)
 | [],k,x,[],H,_,_=>⟨λ_ _=>rfl,λj h1 h2=>by simp at h2;omega,λ_ _ _=>trivial⟩
 | [],_,_,_::_,_,h,_=>h.elim
 |_::_,_,_,[],_,h,_=>h.elim
 |c::r,k,x,u::us,H,h,hn=>by
  simp only [Ay] at hn⊢
  simp only [Yp,cd]
  have xy:=hn k (Ap _) (by omega)
  have hH1: ∀l,l≠key k->Aw (ES H (key k) (vZ fr c x.1)) l=Aw H l:=by
   intro l hl
   cases vZ fr c x.1 with
   |some b=>exact Pz _ _ _ _ hl
   |none=>rfl
  have Al4:Aw (ES H (key k) (vZ fr c x.1)) (key k)=vZ fr c x.1:=by
   cases vZ fr c x.1 with
   |some b=>exact Re _ _ _ xy
   |none=>exact xy
  generalize (ES H (key k) (vZ fr c x.1))=H1 at hH1 Al4⊢
  obtain ⟨g1,g2,g3⟩:=qH YJ (fr:=fr) r (k+1) x.2 us H1 h.2 (λj h1 h2=>by
   rw [hH1 _ λe=>by have:=YJ _ _ e;omega];exact hn j (by omega) (by omega))
  have hkk:Aw (Yp fr key (k+1) r x.2 H1) (key k)=vZ fr c x.1:=by
   rw [g1 _ λj h1 h2 e=>by have:=YJ _ _ e;omega];exact Al4
  refine ⟨λl hl=>?_,λj h1 h2=>?_,λπ' hd hπ=>⟨?_,?_⟩⟩
  ·rw [g1 l λj h1 h2=>hl j (by omega) (by omega)]
   exact hH1 l (hl k (Ap _) (by omega))
  ·rcases Nat.eq_or_lt_of_le h1 with e|h1
   ·subst e
    rw [hkk]
    exact LN h.1
   ·exact g2 j h1 (by omega)
  ·have h1:=h.1
   have hpk:=hπ k (Ap _) (by omega)
   cases c with
   |Ec τ=>
    obtain ⟨j0,c1,c2⟩:=h1.2
    exact ⟨j0,by have:=fy (fr:=true) hd c1;simpa using this,c2⟩
   |row e te=>exact ⟨_,e.size,List.length x.1,hkk,rfl,by simp,by rw [hpk];exact h1.1⟩
   |Ij e te=>exact ⟨_,e.size,List.length x.1,hkk,rfl,by simp,by rw [hpk];exact h1.1⟩
   |Bo e te kp=>exact ⟨_,1,List.length x.1,hkk,rfl,by simp,by rw [hpk];exact h1.1⟩
   |part e te=>trivial
  ·exact g3 π' hd λj h1 h2=>hπ j (by omega) (by omega)
theorem LC {ks:List Nat} {n:Nat} (h:zl ks n=true):ks.length=n/\ks.Nodup/\ ∀l∈ks,l<Bl:=by
 unfold zl at h
 simp only [Af] at h
 refine ⟨Kg h.1,Yo h.2.1,λl hl=>?_⟩
 have:=Az.1 h.2.2 l hl
 simpa using this
theorem Sa {ks:List Nat} {j:Nat} (h:j<ks.length):Eb ks j=ks[j]:=by
 unfold Eb
 rw [Ac h]
theorem DF {ks:List Nat} (hn:ks.Nodup) (hl: ∀l∈ks,l<Bl): ∀i j,Eb ks i=Eb ks j->i=j:=by
 intro i j h
 by_cases hi:i<ks.length
 ·by_cases hj:j<ks.length
  ·rw [Sa hi,Sa hj] at h
   rcases Nat.lt_trichotomy i j with Li|he|Li
   ·exact absurd h (Ek.1 hn i j hi hj Li)
   ·exact he
   ·exact absurd h.symm (Ek.1 hn j i hj hi Li)
  ·have h1:=hl _ (Ak hi)
   rw [Sa hi] at h
   unfold Eb at h
   rw [Dm (by omega)] at h
   simp only at h
   omega
 ·by_cases hj:j<ks.length
  ·have h1:=hl _ (Ak hj)
   rw [Sa hj] at h
   unfold Eb at h
   rw [Dm (by omega)] at h
   simp only at h
   omega
  ·unfold Eb at h
   rw [Dm (by omega),Dm (by omega)] at h
   simp only at h
   omega
theorem Od: ∀(H:List (Nat×OB)) (dead:List Nat) (l:Nat),Aw (Ya H dead) l=if l∈dead then none else Aw H l
 | [],dead,l=>by simp [Ya,Aw]
 |(k,b)::r,dead,l=>by
  simp only [Ya]
  have ih:=Od r dead l
  by_cases hk:k∈dead
  ·rw [Ab (by simpa using hk),ih]
   split
   ·rfl
   ·rename_i hl
    simp only [Aw]
    rw [Ai (λ(e:k=l)=>hl (e▸hk))]
  ·rw [Ai (by simpa using hk)]
   simp only [Aw]
   split
   ·rename_i e;subst e;rw [Ai hk]
   ·exact ih
theorem mem_keys {ks:List Nat} {l:Nat} :l∈ks↔ ∃k,k<ks.length/\l=Eb ks k:=
 ⟨λh=>by obtain ⟨k,hk,e⟩:=Oa h;exact ⟨k,hk,by rw [Sa hk,e]⟩,λ⟨k,hk,e⟩=>by rw [e,Sa hk];exact Ak hk⟩
theorem eI {tks:List (Nat×Loc)} {l:Nat} :l∈nt tks↔ ∃t∈tks,(t.1<Bl/\t.2.reads=false)/\t.2.Xj=l:=by
 unfold nt
 simp only [Bi,Bw,Af,Nv,Es]
 exact ⟨λ⟨t,⟨h1,h2⟩,h3⟩=>⟨t,h1,h2,h3⟩,λ⟨t,h1,h2,h3⟩=>⟨t,⟨h1,h2⟩,h3⟩⟩
theorem zm {tks:List (Nat×Loc)} (h:(tks.map λt=>t.2.Xj).Nodup) {t t':Nat×Loc} (ht:t∈tks) (KQ:t'∈tks) (he:t.2.Xj=t'.2.Xj):t=t':=by
 induction tks with
 |nil=>cases ht
 |cons a r ih=>
  simp only [Ca] at h
  obtain ⟨h1,h2⟩:=Cd.1 h
  rcases Bg.1 ht with rfl|ht<;>rcases Bg.1 KQ with rfl|KQ
  ·rfl
  ·exact (h1 (Bi.2 ⟨t',KQ,he.symm⟩)).elim
  ·exact (h1 (he▸Bi.2 ⟨t,‹t∈r›,rfl⟩)).elim
  ·exact ih h2 ht KQ
theorem Jx.full {D:Nat->Prop} {ρ:Pi} : ∀(cs:List CK) (k:Nat) (x:CKs.den cs) (us:List Value),Jx w D ρ k cs x us->Jx w D (λl=>(ρ l).map full) k cs x us
 | [],_,_,[],h=>h
 | [],_,_,_::_,h=>h.elim
 |_::_,_,_,[],h=>h.elim
 |c::r,k,x,u::us,h=>⟨by
   have h1:=h.1
   show fh w D ((ρ (Kx k)).map _) u c x.1
   cases c with
   |Ec τ=>rw [h1.1];exact ⟨rfl,h1.2⟩
   |row e te=>cases hp:ρ (Kx k)<;>(rw [hp] at h1;exact h1)
   |Ij e te=>cases hp:ρ (Kx k)<;>(rw [hp] at h1;exact h1)
   |Bo e te kp=>cases hp:ρ (Kx k)<;>(rw [hp] at h1;exact h1)
   |part e te=>cases hp:ρ (Kx k)<;>(rw [hp] at h1;exact h1),Jx.full r (k+1) x.2 us h.2⟩
theorem Jx.Afd {D:Nat->Prop} {ρ:Pi} : ∀(cs:List CK) (k0:Nat) (x:CKs.den cs) (us:List Value),Jx w D ρ k0 cs x us-> ∀j,k0<=j->j<k0+cs.length-> ∀q,ρ (Kx j)=some q->q.Cr q.g
 | [],k0,_,_,_,j,h1,h2,_,_=>by simp at h2;omega
 |_::_,_,_,[],h,_,_,_,_,_=>h.elim
 |c::r,k0,x,u::us,ho,j,h1,h2,q,hq=>by
  rcases Nat.eq_or_lt_of_le h1 with e|h1
  ·subst e
   have:=ho.1
   cases c with
   |Ec τ=>rw [hq] at this;cases this.1
   |row e te=>rw [hq] at this;exact this.2.1.1
   |Ij e te=>rw [hq] at this;exact this.2.1
   |part e te=>rw [hq] at this;exact this.2.2.1.1
   |Bo e te kp=>rw [hq] at this;exact this.2.1
  ·exact Jx.Afd r (k0+1) x.2 us ho.2 j h1 (by simp at h2;omega) q hq
theorem Th.any {D D':Nat->Prop} {r:Option Real} {e:Ty} {xs:List e.den} (hf:e.flat=true) (h:Th w D r e xs):Th w D' r e xs:=by
 cases r with
 |none=>exact h
 |some r=>
  obtain ⟨k1,cu,ti,k2,k3,k4,k5,k6⟩:=h
  exact ⟨k1,cu,ti,k2,k3,k4,k5,λi y hy=>by
   obtain ⟨es,g1,g2,g3⟩:=k6 i y hy
   exact ⟨es,g1,g2,Cells.flat e es y hf g3⟩⟩
theorem Jx.any {D D':Nat->Prop} {ρ:Pi} : ∀(cs:List CK) (k:Nat) (x:CKs.den cs) (us:List Value),cs.all (·.flat)=true->Jx w D ρ k cs x us->Jx w D' ρ k cs x us
 | [],_,_,[],_,h=>h
 | [],_,_,_::_,_,h=>h.elim
 |_::_,_,_,[],_,h=>h.elim
 |c::r,k,x,u::us,hf,h=>by
  simp only [Jf,Af] at hf
  refine ⟨?_,Jx.any r (k+1) x.2 us hf.2 h.2⟩
  have h1:=h.1
  cases c with
  |Ec τ=>exact ⟨h1.1,Cu.flat hf.1 h1.2⟩
  |row e te=>exact ⟨h1.1,Th.any hf.1 h1.2⟩
  |Ij e te=>exact h1
  |part e te=>exact ⟨h1.1,h1.2.1,Th.any hf.1 h1.2.2⟩
  |Bo e te kp=>exact absurd hf.1 (by simp [CK.flat])
theorem Mt.any {D D':Nat->Prop} {π:Pi} : ∀(cs:List (Bool×CK)) (k:Nat) (x:IOs.den cs),(cs.all λp=>!p.1||p.2.flat)=true->Mt w D π k cs x->Mt w D' π k cs x
 | [],_,_,_,h=>h
 |(false,_)::r,k,x,hf,h=>Mt.any r (k+1) x (by simp only [Jf,Af] at hf;exact hf.2) h
 |(true, .Ec _)::r,k,x,hf,h=>Mt.any r (k+1) x (by simp only [Jf,Af] at hf;exact hf.2) h
 |(true, .Bo _ _ _)::r,k,x,hf,h=>Mt.any r (k+1) x (by simp only [Jf,Af] at hf;exact hf.2) h
 |(true, .row e te)::r,k,x,hf,h=>by
  simp only [Jf,Af,Bool.not_true,Xh] at hf
  exact ⟨Th.any hf.1 h.1,Mt.any r (k+1) x.2 hf.2 h.2⟩
 |(true, .Ij e te)::r,k,x,hf,h=>by
  simp only [Jf,Af,Bool.not_true,Xh] at hf
  exact ⟨h.1,Mt.any r (k+1) x.2 hf.2 h.2⟩
 |(true, .part e te)::r,k,x,hf,h=>by
  simp only [Jf,Af,Bool.not_true,Xh] at hf
  exact ⟨Th.any hf.1 h.1,Mt.any r (k+1) x.2 hf.2 h.2⟩
theorem tW {tks:List (Nat×Loc)} {l:Nat} :l∈BP tks↔ ∃t∈tks,t.2.reads=true/\t.2.Xj=l:=by
 unfold BP
 simp only [Bi,Bw]
 exact ⟨λ⟨t,⟨h1,h2⟩,h3⟩=>⟨t,h1,h2,h3⟩,λ⟨t,h1,h2,h3⟩=>⟨t,⟨h1,h2⟩,h3⟩⟩
theorem Bh.oc {st:St} {a:Act} (h:Bh X π st a w) {f:AC->AC} (hu:f .undef= .undef) {gv:Nat->Prop} (SM: ∀b,gv b->Wa π b) (hb:Lk w.heap.size gv w w')
  (eB: ∀b,b<w.heap.size->Wa π' b->Wa π b)
  (Yj: ∀l r b,π' l=some r->r.Cr b->r.cl b) (Aic: ∀l r b,π' l=some r->r.cl b->(X.w0.heap.size<=b\/X.gv b)/\b<w'.heap.size)
  (Arz: ∀l l' r r' b,π' l=some r->π' l'=some r'->r.cl b->r'.cl b->l=l')
  (dy: ∀l,Bl<=l->Aw H' l≠none->bI (X.iB l) (π' l))
  (hac:(∀fr τ cs x,Cells w (Cy X.w0.heap.size X.Sc π fr) τ cs x->Cells w' (Cy X.w0.heap.size X.Sc π' fr) τ cs x)-> ∀c v,Ib X w π st.heap c v->Ib X w' π' H' (f c) v)
  (KF:Move X w w' π π' st.heap H' f-> ∀l b,Aw H' l=some b->Ch X w' π' H' (π' l) b)
  (QA: ∀l,Aw H' l=none->π' l=none):
  Bh X π' {tmps:=st.tmps.map (·.map f),heap:=H'} a w':=by
 have hc: ∀fr τ cs x,Cells w (Cy X.w0.heap.size X.Sc π fr) τ cs x->Cells w' (Cy X.w0.heap.size X.Sc π' fr) τ cs x:= λfr τ cs x hh=>
  Cells.Fp hb.size (λk hk hn=>hb.block k hk λhg=>hn (.inl (SM k hg))) (λk Li hA=>hA.imp (eB k Li) id) τ cs x hh
 have m:Move X w w' π π' st.heap H' f:=⟨hac hc,hc⟩
 refine ⟨⟨⟨hb.os.trans h.1.below.os,hb.tape.trans h.1.below.tape,hb.output.trans h.1.below.output,Ml h.1.below.size hb.size,λk hk hn=>?_⟩,h.1.sc,Yj,Aic,Arz,dy,λl=>?_⟩,m.MR hu h.2⟩
 ·refine (hb.block k (Eh hk h.1.below.size) λhg=>?_).trans (h.1.below.block k hk hn)
  rcases (h.1.own (SM k hg)).2 with h1|h1
  ·omega
  ·exact hn h1
 ·cases hh:Aw H' l with
  |none=>exact Gh.Uq (QA l hh) hh
  |some b=>exact Gh.Mf (KF m l b hh) hh
def gK:Option Real->Option Real->Prop
 |none,none=>True
 |some r,some r'=>r.g=r'.g/\r.o=r'.o/\r.cap=r'.cap
 |_,_=>False
theorem gK.rfl' (r:Option Real):gK r r:=by cases r<;>simp [gK]
theorem gK.some {r:Real} {r':Option Real} (h:gK (some r) r'): ∃q,r'=some q/\r.g=q.g/\r.o=q.o/\r.cap=q.cap:=by
 cases r' with
 |none=>exact h.elim
 |some q=>exact ⟨q,rfl,h⟩
theorem gK.own {r r':Option Real} (h:gK r r') {sz off len:Nat} {v:Value} (hv:Im r sz off len v):Im r' sz off len v:=by
 cases r<;>cases r'<;>first|exact h.elim|skip
 ·exact hv
 ·obtain ⟨h1,h2,h3⟩:=h
  obtain ⟨ad,g1,g2,g3⟩:=hv
  exact ⟨ad,by rw [<-h3];exact g1,by rw [<-h3];exact g2,by rw [<-h1,<-h2,<-h3];exact g3⟩
structure OB.To (b b':OB):Prop where
 row: ∀sz n,b.row=some (sz,n)-> ∃n',b'.row=some (sz,n')/\n<=n'
 gT: ∀p,b.gT=some p->b'.gT=some p
 vJ: ∀p,b.vJ=some p->b'.vJ=some p
 var: ∀tid vs,b= .var tid vs-> ∃Vd vs',b'= .var Vd vs'
 Vy: ∀v m,b= .Vy v m-> ∃m',b'= .Vy v m'
theorem OB.To.map (f:AC->AC) (b:OB):b.To (b.map f) where
 row:= λsz n h=>⟨n,by cases b<;>exact h,Ap _⟩
 gT:= λp h=>by cases b<;>exact h
 vJ:= λp h=>by cases b<;>exact h
 var:= λtid vs h=>by subst h;exact ⟨_,_,rfl⟩
 Vy:= λv m h=>by subst h;exact ⟨_,rfl⟩
theorem OB.To.rfl' (b:OB):b.To b where
 row:= λ_sz n h=>⟨n,h,Ap _⟩
 gT:= λ_p h=>h
 vJ:= λ_p h=>h
 var:= λ_tid _vs h=>⟨_,_,h⟩
 Vy:= λ_v _m h=>⟨_,h⟩
theorem OB.To.trans {a b c:OB} (h:a.To b) (k:b.To c):a.To c where
 row:= λsz n hr=>by
  obtain ⟨n1,h1,h2⟩:=h.row sz n hr
  obtain ⟨n2,h3,h4⟩:=k.row sz n1 h1
  exact ⟨n2,h3,by omega⟩
 gT:= λp hp=>k.gT p (h.gT p hp)
 vJ:= λp hp=>k.vJ p (h.vJ p hp)
 var:= λtid vs hv=>by obtain ⟨t',v',h1⟩:=h.var tid vs hv;exact k.var t' v' h1
 Vy:= λv m hm=>by obtain ⟨m',h1⟩:=h.Vy v m hm;exact k.Vy v m' h1
theorem oa {f:AC->AC} {D Pt:Nat->Prop} (hf: ∀c,f c= .undef\/(f c=c/\(∀k∈c.refs,¬D k)/\ ∀k i j,c= .sub k i j\/c= .Kq k i j-> ¬Pt k)) (hp: ∀k,¬D k->gK (π k) (π' k))
  (hH: ∀k b,¬D k->Aw H k=some b-> ∃b',Aw H' k=some b'/\b.To b')
  (hg: ∀k r b,¬D k-> ¬Pt k->Aw H k=some b->b.gT≠none->π k=some r->w'.heap[r.g]?=w.heap[r.g]?)
  (hc: ∀fr τ cs x,Cells w (Cy X.w0.heap.size X.Sc π fr) τ cs x->Cells w' (Cy X.w0.heap.size X.Sc π' fr) τ cs x): ∀c v,Ib X w π H c v->Ib X w' π' H' (f c) v:=by
 intro c v h
 rcases hf c with e|⟨e,hr,hs⟩
 ·rw [e];trivial
 rw [e]
 cases c with
 |data fr τ x=>obtain ⟨cs,h1,h2⟩:=h;exact ⟨cs,hc _ _ _ _ h1,h2⟩
 |own k off len=>
  obtain ⟨b,sz,n,h1,h0,h2,h3⟩:=h
  have hk:=hr k (by simp [AC.refs])
  obtain ⟨b',g1,g2⟩:=hH k b hk h1
  obtain ⟨n',g3,g4⟩:=g2.row sz n h0
  exact ⟨b',sz,n',g1,g3,by omega,(hp k hk).own h3⟩
 |Hu k i=>
  obtain ⟨r,tid,vs,h1,h2,h3⟩:=h
  have hk:=hr k (by simp [AC.refs])
  obtain ⟨b',g1,g2⟩:=hH k _ hk h1
  obtain ⟨Vd,vs',rfl⟩:=g2.var tid vs rfl
  obtain ⟨q,q1,q2,_⟩:=(h2▸hp k hk).some
  exact ⟨q,Vd,vs',g1,q1,by rw [<-q2];exact h3⟩
 |Kw k i=>
  obtain ⟨r,b,sz,n,h1,h0,h2,h3,h4⟩:=h
  have hk:=hr k (by simp [AC.refs])
  obtain ⟨b',g1,g2⟩:=hH k b hk h1
  obtain ⟨n',g3,g4⟩:=g2.row sz n h0
  obtain ⟨q,q1,q2,q3,_⟩:=(h3▸hp k hk).some
  exact ⟨q,b',sz,n',g1,g3,by omega,q1,by rw [<-q2,<-q3];exact h4⟩
 |sub k i c=>
  obtain ⟨r,b,sz,n,h1,h0,h2,h3,h4,h5⟩:=h
  have hk:=hr k (by simp [AC.refs])
  obtain ⟨b',g1,g2⟩:=hH k b hk h1
  obtain ⟨q,q1,q2,q3,_⟩:=(h2▸hp k hk).some
  exact ⟨q,b',sz,n,g1,g2.gT _ h0,q1,h3,h4,by rw [<-q2,<-q3,World.cell?_of_block (hg k r b hk (hs k i c (.inl rfl)) h1 (by rw [h0];simp) h2)];exact h5⟩
 |Kq k i c=>
  obtain ⟨r,b,n,sz,g,o,len,cap,h1,h0,h2,h3,h4,h5,h6⟩:=h
  have hk:=hr k (by simp [AC.refs])
  obtain ⟨b',g1,g2⟩:=hH k b hk h1
  obtain ⟨q,q1,q2,q3,_⟩:=(h2▸hp k hk).some
  exact ⟨q,b',n,sz,g,o,len,cap,g1,g2.vJ _ h0,q1,h3,h4,by rw [<-q2,<-q3,World.cell?_of_block (hg k r b hk (hs k i c (.inr rfl)) h1 (by cases b<;>first|(cases h0;done)|simp [OB.gT]) h2)];exact h5,h6⟩
 |clo g Ee=>
  obtain ⟨us,h1,h2,h3⟩:=h
  refine ⟨us,h1,h2,λj p hpj=>?_⟩
  obtain ⟨r,tid,vs,h4,h5,h6⟩:=h3 j p hpj
  have hk:=hr p.1 (by simp only [AC.refs,Bi];exact ⟨p,Cb hpj,rfl⟩)
  obtain ⟨b',g1,g2⟩:=hH p.1 _ hk h4
  obtain ⟨Vd,vs',rfl⟩:=g2.var tid vs rfl
  obtain ⟨q,q1,q2,_⟩:=(h5▸hp p.1 hk).some
  exact ⟨q,Vd,vs',g1,q1,by rw [<-q2];exact h6⟩
 |Lc k=>
  obtain ⟨r,vt,m,h1,h2,h3⟩:=h
  have hk:=hr k (by simp [AC.refs])
  obtain ⟨b',g1,g2⟩:=hH k _ hk h1
  obtain ⟨m',rfl⟩:=g2.Vy vt m rfl
  obtain ⟨q,q1,q2,_⟩:=(h2▸hp k hk).some
  exact ⟨q,vt,m',g1,q1,by rw [<-q2];exact h3⟩
 |_=>exact h
theorem Vi (H0:List (Nat×OB)) (ls:List Nat) (n:Nat): ∀(H:List (Nat×OB)) (l:Nat),Aw (dA H0 ls n H) l=(Aw H l).map λb=>if ls.contains l then b.HG (c8 n (Ais (Aw H0 l))) else b
 | [],_=>rfl
 |(k,b)::r,l=>by
  simp only [dA,Aw]
  split
  ·rename_i e;subst e;rfl
  ·exact Vi H0 ls n r l
theorem OB.AB (b:OB) (kp:Option (Nat×Nat)):b.To (b.HG kp):=by
 cases b with
 |Bo e te rows out kp0=>exact ⟨λsz n h=>⟨n,h,Ap _⟩,λp h=>h,λp h=>h,(λ_ _ h=>by cases h),(λ_ _ h=>by cases h)⟩
 |_=>exact OB.To.rfl' _
theorem gA (ls:List Nat): ∀(l m:List AV) (t:Nat),l.length=m.length->(∃k i c,l.getD t .undef= .at (.sub k i c)/\ls.contains k=true/\(Mg ls l m).getD t .undef= .at (.sub k i c))\/(Mg ls l m).getD t .undef=m.getD t .undef
 | [],m,t,_=>by cases m<;>exact .inr rfl
 |_::_,[],t,h=>by simp at h
 |a::l,v::m,t,h=>by
  have ih:= λt=>gA ls l m t (by simpa using h)
  have tail: ∀u,Mg ls (a::l) (v::m)=u::Mg ls l m->(t=0->(∃k i c,(a::l).getD t .undef= .at (.sub k i c)/\ls.contains k=true/\u= .at (.sub k i c))\/u=v)->
    (∃k i c,(a::l).getD t .undef= .at (.sub k i c)/\ls.contains k=true/\(Mg ls (a::l) (v::m)).getD t .undef= .at (.sub k i c))\/(Mg ls (a::l) (v::m)).getD t .undef=(v::m).getD t .undef:=by
   intro u e h0
   rw [e]
   rcases t with _|t
   ·rcases h0 rfl with ⟨k,i,c,h1,h2,h3⟩|h3
    ·exact .inl ⟨k,i,c,h1,h2,by simpa using h3⟩
    ·exact .inr (by simpa using h3)
   ·simpa only [Nz] using ih t
  cases a with
  | «at»c=>
   cases c with
   |sub k i c=>
    refine tail _ rfl λht=>?_
    subst ht
    by_cases hc:ls.contains k=true
    ·exact .inl ⟨k,i,c,rfl,hc,by rw [Ab hc]⟩
    ·exact .inr (by rw [Ai hc])
   |_=>exact tail _ rfl λ_=> .inr rfl
  |_=>exact tail _ rfl λ_=> .inr rfl
theorem uW {H:List (Nat×OB)} {ls:List Nat} {n:Nat} : ∀ {l:List AV} {t k i c:Nat},dP H ls n l=true->l.getD t .undef= .at (.sub k i c)->ls.contains k=true->i<n/\i<s5 H k
 | [],t,k,i,c,_,h,_=>by simp at h
 |a::l,0,k,i,c,ho,h,hc=>by
  simp only [Xt] at h
  subst h
  simp only [dP,hc,Bool.not_true,Xh,Af,Nv] at ho
  exact ho.1
 |a::l,t+1,k,i,c,ho,h,hc=>by
  refine uW (l:=l) (t:=t) (c:=c) ?_ (by simpa only [Nz] using h) hc
  cases a with
  | «at»d=>cases d with
   |sub _ _ _=>simp only [dP,Af] at ho;exact ho.2
   |_=>exact ho
  |_=>exact ho
theorem KX {cA st:St} {a:Act} (h0:Bh X π cA a w) (h:Bh X π' st a w') {ls:List Nat} {n:Nat} (hk: ∀l∈ls,CG w w' (π l) (π' l) n) (tq: ∀l∈ls,nR cA.heap l=true)
  (dX:dP st.heap ls n cA.tmps=true):Bh X π' (mz cA st ls n) a w'/\ ∀c v,Bm X w' π' st.heap c v->Bm X w' π' (mz cA st ls n).heap c v:=by
 by_cases vQ:ls= []
 ·subst vQ;exact ⟨h,λ_ _ h=>h⟩
 have Pn:mz cA st ls n= {tmps:=Mg ls cA.tmps st.tmps,heap:=dA cA.heap ls n st.heap} :=by
  cases ls with
  |nil=>exact absurd rfl vQ
  |cons _ _=>rfl
 rw [Pn]
 have hg0: ∀l∈ls,∃e te rows out kp,Aw cA.heap l=some (.Bo e te rows out kp):= λl hl=>by
  have:=tq l hl
  unfold nR at this
  split at this
  ·exact ⟨_,_,_,_,_,by assumption⟩
  ·cases this
 have srv: ∀k b,Aw st.heap k=some b-> ∃b',Aw (dA cA.heap ls n st.heap) k=some b'/\b.To b':= λk b hb=>by
  rw [Vi,hb]
  refine ⟨_,rfl,?_⟩
  dsimp only
  split
  ·exact OB.AB b _
  ·exact OB.To.rfl' b
 have hac:(∀fr τ cs x,Cells w' (Cy X.w0.heap.size X.Sc π' fr) τ cs x->Cells w' (Cy X.w0.heap.size X.Sc π' fr) τ cs x)-> ∀c v,Ib X w' π' st.heap c v->Ib X w' π' (dA cA.heap ls n st.heap) c v:= λhc=>
  oa (f:= λc=>c) (D:= λ_=>False) (Pt:= λ_=>False) (λc=> .inr ⟨rfl,λ_ _ h=>h,λ_ _ _ _ h=>h⟩) (λk _=>gK.rfl' _) (λk b _ hb=>srv k b hb) (λ_ _ _ _ _ _ _ _=>rfl) hc
 have h1:Bh X π' {tmps:=st.tmps.map (·.map λc=>c),heap:=dA cA.heap ls n st.heap} a w':=by
  refine h.oc rfl (gv:= λ_=>False) (λ_ hf=>hf.elim) (Lk.refl _ _ _) (λ_ _ ho=>ho) h.1.sub h.1.place h.1.inj (λl hl Jr=>h.1.iB l hl λh2=>Jr (by rw [Vi,h2];rfl)) hac (λm l b hb=>?_) (λl hl=>?_)
  ·rw [Vi] at hb
   cases h2:Aw st.heap l with
   |none=>rw [h2] at hb;cases hb
   |some b0=>
    rw [h2] at hb
    simp only [Al,Aa] at hb
    have hbk:=(h.1.heap l).Rz h2
    have xp:=hbk.move m (Ap _) (λr0 c h0 h1=>h.1.sub _ r0 c h0 h1) λ_ _ _ _ _=>rfl
    rw [show OB.map (λc=>c) b0=b0 from OB.FL b0] at xp
    split at hb
    ·rename_i hc
     have hl:l∈ls:=by simpa using hc
     cases b0 with
     |Bo e te rows out kp=>
      simp only [OB.HG] at hb
      subst hb
      refine ⟨xp.1,?_⟩
      obtain ⟨e0,te0,Agr,Ato,kp0,hg⟩:=hg0 l hl
      have xy:=((h0.1.heap l).Rz hg).2
      rw [hg]
      simp only [Ais]
      have vP:=hk l hl
      cases kp0 with
      |none=>trivial
      |some p=>
       obtain ⟨l0,n0⟩:=p
       simp only [KeptAt,c8] at xy⊢
       cases vT:X.iB l0 with
       |none=>
        cases hp:π l with
        |none=>
         rw [hp] at vP
         cases QC:π' l with
         |none=>trivial
         |some q=>rw [QC] at vP;exact vP.elim
        |some q=>rw [vT,hp] at xy;exact xy.elim
       |some r0=>
        cases hp:π l with
        |none=>rw [vT,hp] at xy;exact xy.elim
        |some q=>
         rw [vT,hp] at xy
         rw [hp] at vP
         cases QC:π' l with
         |none=>rw [QC] at vP;exact vP.elim
         |some q'=>
          rw [QC] at vP
          obtain ⟨k1,k2,k3,k4⟩:=vP
          obtain ⟨g1,g2,g3,g4⟩:=xy
          refine ⟨k1.trans g1,k2.trans g2,k3.trans g3,λj hj hc=>?_⟩
          have e1:=g4 j (by omega) hc
          have e2:=k4 j (by omega) (by omega)
          rw [g1,g2] at e2
          rw [<-e1,e2]
     |_=>simp only [OB.HG] at hb;subst hb;exact xp
    ·subst hb;exact xp
  ·rw [Vi] at hl
   cases h2:Aw st.heap l with
   |none=>exact (h.1.heap l).emp h2
   |some b=>rw [h2] at hl;cases hl
 have XY: ∀c v,Bm X w' π' st.heap c v->Bm X w' π' (dA cA.heap ls n st.heap) c v:= λc v hv=>by
  have m:Move X w' w' π' π' st.heap (dA cA.heap ls n st.heap) (λc=>c):=⟨hac λ_ _ _ _ h=>h,λ_ _ _ _ h=>h⟩
  have:=m.av hv
  rwa [AC.map_id] at this
 refine ⟨⟨h1.1,⟨?_,h.2.defers,λt=>?_⟩⟩,XY⟩
 ·have: ∀(l m:List AV),(Mg ls l m).length=m.length:=by
   intro l
   induction l with
   |nil=>intro m;cases m<;>rfl
   |cons a l ih=>
    intro m
    cases m with
    |nil=>cases a with
     | «at»c=>cases c<;>rfl
     |_=>rfl
    |cons v m=>cases a with
     | «at»c=>cases c<;>simp only [Mg,Ay,ih m]
     |_=>simp only [Mg,Ay,ih m]
  show a.tmps.size=(Mg ls cA.tmps st.tmps).length
  rw [this];exact h.2.size
 ·show Bm X w' π' _ ((Mg ls cA.tmps st.tmps).getD t .undef) _
  rcases gA ls cA.tmps st.tmps t (by rw [<-h0.2.size,<-h.2.size]) with ⟨k,i,c,g1,g2,g3⟩|g
  ·rw [g3]
   have Tb:k∈ls:=by simpa using g2
   obtain ⟨i1,i2⟩:=uW dX g1 g2
   have hv:=h0.2.tmps t
   rw [show cA.get t=_ from g1] at hv
   obtain ⟨r,b,sz,n',e1,e2,e3,e4,⟨e5,e6⟩,e7⟩:=hv
   obtain ⟨e0,te0,Agr,Ato,kp0,hg⟩:=hg0 k Tb
   rw [hg] at e1;cases e1
   simp only [OB.gT,Aa,Ae] at e2
   obtain ⟨rfl,rfl⟩:=e2
   have vP:=hk k Tb
   rw [e3] at vP
   cases QC:π' k with
   |none=>rw [QC] at vP;exact vP.elim
   |some q'=>
    rw [QC] at vP
    obtain ⟨k1,k2,k3,k4⟩:=vP
    have tp:Agr.length<=r.cap:=by
     have:=((h0.1.heap k).Rz hg).1
     rw [e3] at this
     obtain ⟨_,_,_,_,_,_,h5,_⟩:=this
     exact h5
    unfold s5 at i2
    split at i2
    ·rename_i e9 te9 Aob Ayp kp9 hg9
     refine ⟨q',_,1,Aob.length,by rw [Vi,hg9];rfl,?_,QC,i2,⟨e5,e6⟩,?_⟩
     ·dsimp only
      split<;>rfl
     ·have kQ:c=0:=by omega
      subst kQ
      rw [k1,k2]
      rw [Fg,En] at e7⊢
      rw [k4 i i1 (by omega)];exact e7
    ·omega
  ·rw [g]
   exact XY _ _ (h.2.tmps t)
theorem pM {ins:List (Bool×CK)} {as:List AC} {pl:List Nat} {st:St} :(rD ins as pl st).tmps=st.tmps:=by
 unfold rD
 split
 ·rfl
 ·split<;>rfl
theorem NA {ins:List (Bool×CK)} {as:List AC} {pl:List Nat} {st:St} {m:Nat} (hm:m∉pl):Aw (rD ins as pl st).heap m=Aw st.heap m:=by
 unfold rD
 split
 ·rfl
 ·rename_i l r
  split
  ·exact Dy _ _ _ _ λe=>hm (e▸Fk)
  ·rfl
theorem UQ {ins:List (Bool×CK)} {as:List AC} {l:Nat} {st:St} {tid:TypeId} {vs:List AC} (hl:Aw st.heap l=some (.var tid vs)):Aw (rD ins as [l] st).heap l=some (.var tid (hJ ins vs as)):=by
 simp only [rD,St.at,hl]
 exact Ev _ _ _ _ hl
theorem xZ {α:Type} (ins:List (Bool×CK)) (as:List α):hJ ins [] as= []:=by
 rcases ins with _|⟨⟨_|_,c⟩,r⟩<;>rfl
theorem pF {α:Type} : ∀(ins:List (Bool×CK)) (vs as:List α),(hJ ins vs as).length=vs.length
 | [],vs,as=>by rw [hJ];all_goals simp
 |p::r,[],as=>by rw [xZ]
 |(true,c)::r,v::vs,as=>by simp only [hJ,Ay,pF r vs as]
 |(false,c)::r,v::vs,[]=>by rw [hJ];all_goals simp
 |(false,c)::r,v::vs,a::as=>by simp only [hJ,Ay,pF r vs as]
theorem UH {st:St} {a:Act} (h:Bh X π st a w) {s:MSpec} {ng:List AV} {vs:List Value} (hlen:ng.length=vs.length) (XY: ∀(i:Nat) c v,ng[i]?=some c->vs[i]?=some v->Bm X w π st.heap c v)
  {pl:List Nat} {cells:List AC} {rest:List AV} (he:QU st s ng=some (pl,cells,rest)):
  ∃(g:Nat) (cus yt:List Value),rest.length=yt.length/\(∀(i:Nat) c v,rest[i]?=some c->yt[i]?=some v->Bm X w π st.heap c v)/\Nn X w π st.heap cells cus/\
   ((s.ptr=none/\pl= []/\cells= []/\cus= []/\vs=yt)\/
    ∃p l q,s.ptr=some p/\pl= [l]/\π l=some q/\q.Cr q.g/\g=q.g/\Aw st.heap l=some (.var p.1 cells)/\cells.length=p.2/\vs= .pointer (some ⟨g,0,none⟩)::yt/\w.heap[g]?=some (.cells cus.toArray p.1 (0,0))/\Gd X w π st.heap cells cus):=by
 unfold QU at he
 split at he
 ·rename_i hp
  simp only [Aa,Ae] at he
  obtain ⟨rfl,rfl,rfl⟩:=he
  exact ⟨0,[],vs,hlen,XY,trivial, .inl ⟨hp,rfl,rfl,rfl,rfl⟩⟩
 ·rename_i p hp
  split at he
  ·rename_i l i Avn
   split at he
   ·rename_i tid cs hl
    split at he
    ·rename_i hc
     obtain ⟨rfl,hc,rfl⟩:=hc
     simp only [Aa,Ae] at he
     obtain ⟨rfl,rfl,rfl⟩:=he
     unfold St.at at hl
     cases vs with
     |nil=>simp at hlen
     |cons v vs=>
      obtain ⟨r,Vd,vs',h1,h2,rfl⟩:=XY 0 _ v rfl rfl
      rw [hl] at h1;cases h1
      obtain ⟨r',h3,h4,cur,h5,h6⟩:=(h.1.heap l).Rz hl
      rw [h2] at h3;cases h3
      exact ⟨r.g,cur.toList,vs,by simpa using hlen,λi c v h7 h8=>XY (i+1) c v (by simpa using h7) (by simpa using h8),Nn.of h6, .inr ⟨p,l,r,hp,rfl,h2,h4,rfl,hl,hc,rfl,by simpa using h5,h6⟩⟩
    ·cases he
   ·cases he
  ·cases he
theorem kI {V:List Nat} {πc:Pi} {dead part:List Nat} (hπ: ∀l,l∉dead->π' l=π l) (aZ: ∀l b sz n,l∉dead->Aw H l=some b->b.row=some (sz,n)-> ∃b',Aw H' l=some b'/\b'.row=some (sz,n)):
  ∀(ins:List (Bool×CK)) (k:Nat) (cells oO:List AC) (x:Ins.den ins) (us:List Value) (o:IOs.den ins) (cur st1:St) (news:List AC) (Xi cs:List Value),r6 X w π V H πc k ins x (cells++oO) us->Wn ins cells=true->
   It ins o (cells++oO) cur=some st1->Et πc k ins o cells.length cs Xi->Nn X w' π' H' news Xi->Nn X w' π' H' (hJ ins (cells.map (Cl dead part)) news) cs
 |ins,k,[],oO,x,us,o,cur,st1,news,Xi,cs,_,_,_,hb,_=>by
  have hb:cs= []:=by rcases ins with _|⟨⟨_|_,c⟩,r⟩<;>(try cases c)<;>simpa [Et] using hb
  rw [hb,List.map_nil,xZ]
  trivial
 | [],k,a::cells,oO,x,us,o,cur,st1,news,Xi,cs,_,hk,_,_,_=>by simp [Wn] at hk
 |(true, .Ec τ)::r,k,a::cells,oO,x,us,o,cur,st1,news,Xi,cs,_,hk,_,_,_=>by simp [Wn] at hk
 |(true, .part e te)::r,k,a::cells,oO,x,us,o,cur,st1,news,Xi,cs,_,hk,_,_,_=>by simp [Wn] at hk
 |(true, .Bo e te _)::r,k,a::cells,oO,x,us,o,cur,st1,news,Xi,cs,_,hk,_,_,_=>by simp [Wn] at hk
 |(true, .row e te)::r,k,a::cells,oO,x,us,o,cur,st1,news,Xi,cs,ht,hk,hp,hb,hn=>by
  cases a<;>simp only [Wn,Cz] at hk
  rename_i l off len
  cases us with
  |nil=>exact ht.elim
  |cons u0 us=>
  cases cs with
  |nil=>exact hb.elim
  |cons u cs=>
  obtain ⟨⟨_,h1⟩,h2⟩:=ht
  simp only [Tz] at h1
  obtain ⟨h3,rfl,rfl,fr,tr,h4⟩:=h1
  obtain ⟨h5,h6⟩:=hb
  simp only [Tf,It] at hp
  split at hp
  rotate_left
  ·cases hp
  rename_i aw hpc
  have EK:List.length o.1=List.length x.1:=by
   simp only [cE] at hpc
   repeat' split at hpc
   all_goals first|(cases hpc;done)|(rename_i hc;exact hc.2.1)
  refine ⟨?_,kI hπ aZ r (k+1) cells oO x.2 us o.2 aw st1 news Xi cs h2 hk hp h6 hn⟩
  by_cases hd:l∈dead
  ·have:Cl dead part (.own l 0 (List.length x.1))= .undef:=by
    unfold Cl
    rw [Ab (by simp [AC.refs,hd])]
   rw [this];trivial
  ·rw [cP (by simpa [AC.refs] using hd) (by intro l i j e;rcases e with e|e<;>cases e)]
   obtain ⟨b',g1,g2⟩:=aZ l _ e.size (List.length x.1) hd h4 rfl
   refine ⟨b',e.size,List.length x.1,g1,g2,by omega,?_⟩
   rw [hπ l hd]
   rw [h3,EK] at h5
   cases hp:π l<;>(rw [hp] at h5;exact h5)
 |(true, .Ij e te)::r,k,a::cells,oO,x,us,o,cur,st1,news,Xi,cs,ht,hk,hp,hb,hn=>by
  cases a<;>simp only [Wn,Cz] at hk
  rename_i l off len
  cases us with
  |nil=>exact ht.elim
  |cons u0 us=>
  cases cs with
  |nil=>exact hb.elim
  |cons u cs=>
  obtain ⟨⟨_,h1⟩,h2⟩:=ht
  simp only [Tz] at h1
  obtain ⟨h3,rfl,rfl,h4⟩:=h1
  obtain ⟨h5,h6⟩:=hb
  simp only [Tf,It] at hp
  split at hp
  rotate_left
  ·cases hp
  rename_i aw hpc
  have EK:List.length o.1=List.length x.1:=by
   simp only [cE] at hpc
   repeat' split at hpc
   all_goals first|(cases hpc;done)|(rename_i hc;exact hc.2.1)
  refine ⟨?_,kI hπ aZ r (k+1) cells oO x.2 us o.2 aw st1 news Xi cs h2 hk hp h6 hn⟩
  by_cases hd:l∈dead
  ·have:Cl dead part (.own l 0 (List.length x.1))= .undef:=by
    unfold Cl
    rw [Ab (by simp [AC.refs,hd])]
   rw [this];trivial
  ·rw [cP (by simpa [AC.refs] using hd) (by intro l i j e;rcases e with e|e<;>cases e)]
   obtain ⟨b',g1,g2⟩:=aZ l _ e.size (List.length x.1) hd h4 rfl
   refine ⟨b',e.size,List.length x.1,g1,g2,by omega,?_⟩
   rw [hπ l hd]
   rw [h3,EK] at h5
   cases hp:π l<;>(rw [hp] at h5;exact h5)
 |(false,c)::r,k,a::cells,oO,x,[],o,cur,st1,news,Xi,cs,ht,hk,hp,hb,hn=>ht.elim
 |(false,c)::r,k,a::cells,oO,x,u0::us,o,cur,st1,news,Xi,[],ht,hk,hp,hb,hn=>by cases c<;>exact hb.elim
 |(false,c)::r,k,a::cells,oO,x,u0::us,o,cur,st1,news,[],u::cs,ht,hk,hp,hb,hn=>by cases c<;>exact hb.elim
 |(false,c)::r,k,a::cells,oO,x,u0::us,o,cur,st1,[],u'::Xi,u::cs,ht,hk,hp,hb,hn=>hn.elim
 |(false,c)::r,k,a::cells,oO,x,u0::us,o,cur,st1,na::news,u'::Xi,u::cs,ht,hk,hp,hb,hn=>by
  have hb2:u=u'/\Et πc (k+1) r o cells.length cs Xi:=by cases c<;>exact hb
  obtain ⟨rfl,hb3⟩:=hb2
  have hp:It r o (cells++oO) cur=some st1:=by cases c<;>simpa only [Tf,It] using hp
  have hk:Wn r cells=true:=by cases c<;>simpa only [Wn] using hk
  exact ⟨hn.1,kI hπ aZ r (k+1) cells oO x.2 us o cur st1 news Xi cs ht.2 hk hp hb3 hn.2⟩
theorem HU {V:List Nat} {πc:Pi} : ∀(cs:List (Bool×CK)) (k0:Nat) (x:Ins.den cs) (as:List AC) (us:List Value),k0+cs.length<100000->r6 X w π V H πc k0 cs x as us-> ∀k l,(Dx false k,Loc.row l)∈Mh k0 cs as->πc (Dx false k)=(π l).map full
 | [],_,_,[],_,_,_,_,_,h=>by cases h
 | [],_,_,_::_,_,_,_,_,_,h=>by cases h
 |_::_,_,_,[],_,_,_,_,_,h=>by cases h
 |_::_,_,_,_::_,[],_,h,_,_,_=>h.elim
 |(io,c)::r,k0,x,a::as,u::us,hk,h,k,l,ht=>by
  simp only [Ay] at hk
  simp only [Mh] at ht
  rcases Bb.1 ht with ht|ht
  ·obtain ⟨⟨_,h1⟩,_⟩:=h
   cases c with
   |Ec τ=>cases a<;>simp [Rc,views] at ht
   |row e te=>
    cases a<;>simp [Rc] at ht
    obtain ⟨e1,rfl⟩:=ht
    simp only [Tz] at h1
    rw [e1];exact h1.1
   |Ij e te=>
    cases a<;>simp [Rc] at ht
    obtain ⟨e1,rfl⟩:=ht
    simp only [Tz] at h1
    rw [e1];exact h1.1
   |part e te=>
    cases a<;>simp [Rc] at ht
    obtain ⟨e1,rfl⟩:=ht
    simp only [Tz] at h1
    rw [e1];exact h1.2.1
   |Bo e te kp=>
    cases a<;>simp [Rc] at ht
    obtain ⟨e1,rfl⟩:=ht
    simp only [Tz] at h1
    rw [e1];exact h1.2.1
  ·exact HU r (k0+1) x.2 as us (by omega) h.2 k l ht
theorem r9 {st:St} {a:Act} (h:Bh X π st a w) {f:FuncId} {s:MSpec} (hs:Cp P f s) (dst:Option Nat) (ng:List AV) (vs:List Value) (hlen:ng.length=vs.length)
  (XY: ∀(i:Nat) c v,ng[i]?=some c->vs[i]?=some v->Bm X w π st.heap c v) (av:AV) (st':St) (he:Yd st dst s ng=some (av,st')):
  Calls P f vs.toArray w λe w'=> ∃v,e= .returned v/\ ∃π',Bh X π' st' a w'/\Bm X w' π' st'.heap av v:=by
 unfold Yd at he
 split at he
 ·cases he
 rename_i pl cells rest Asl
 split at he
 ·cases he
 rename_i oO oP
 split at he
 ·cases he
 rename_i x tks htk
 split at he
 rotate_left
 ·cases he
 rename_i Ki
 simp only [Af,Nv] at Ki
 obtain ⟨⟨⟨⟨s9,tw⟩,hon⟩,iu⟩,Am0,SP⟩:=Ki
 have SP: ∀l∈pl,l∉(tks.map λt=>t.2.Xj)/\l∉Sy s tks (dst.getD 0):= λl hl=>by
  have:=Az.1 SP l hl
  simp only [Es,<-Hy,Ke] at this
  exact ⟨λhm=>this (Bk _ hm),λhm=>this (Cg _ hm)⟩
 split at he
 ·cases he
 rename_i r o hfn
 split at he
 ·cases he
 rename_i st1 YQ
 obtain ⟨g,cus,yt,YL,Are,Aso,hpt⟩:=UH h hlen XY Asl
 obtain ⟨wM,rfl,IY,Asn⟩:=an s.Jb rest yt oO YL Are oP
 have hrc:=Aso.append Asn
 have Rr:oQ s w g (cus++wM) vs:=by
  unfold oQ
  rcases hpt with ⟨h1,_,_,h2,h3⟩|⟨p,l,q,h1,_,_,_,_,_,h2,h3,h4,h5⟩
  ·rw [h1];subst h2;exact ⟨h3,IY⟩
  ·rw [h1]
   have hl:cus.length=p.2:=h5.1.trans h2
   simp only
   rw [List.drop_append_of_le_length (by omega),List.take_append_of_le_length (by omega),List.take_of_length_le (by omega),List.drop_of_length_le (by omega)]
   refine ⟨h3,IY,by simp;omega,h4,λu hu=>?_⟩
   obtain ⟨i,hi,rfl⟩:=Bf.1 hu
   obtain ⟨u',h6,h7,_⟩:=h5.2 i (cells[i]'(by have:=h5.1;omega)) (Ac _)
   rw [Ac hi] at h6
   rw [Bc h6];exact h7
 have SQ: ∀l∈pl,∃p q,s.ptr=some p/\pl= [l]/\π l=some q/\q.Cr q.g/\g=q.g/\Aw st.heap l=some (.var p.1 cells)/\cells.length=p.2:= λl hl=>by
  rcases hpt with ⟨_,h1,_⟩|⟨p,l',q,h1,h2,h3,h4,h5,h6,h7,_⟩
  ·rw [h1] at hl;cases hl
  ·rw [h2] at hl
   have:=Ad.1 hl
   subst this
   exact ⟨p,q,h1,h2,h3,h4,h5,h6,h7⟩
 have SM: ∀b,s.gv g b-> ∃l∈pl,∃q,π l=some q/\q.Cr b/\b=q.g:= λb ⟨h1,h2⟩=>by
  rcases hpt with ⟨h3,_⟩|⟨p,l',q,_,h4,h5,h6,h7,_⟩
  ·rw [h3] at h1;cases h1
  ·exact ⟨l',by rw [h4];exact Ad.2 rfl,q,h5,by rw [h2,h7];exact h6,h2.trans h7⟩
 obtain ⟨as,has⟩: ∃as,as=cells++oO:=⟨_,rfl⟩
 obtain ⟨us,YX⟩: ∃us,us=cus++wM:=⟨_,rfl⟩
 rw [<-has] at hrc htk YQ
 rw [<-YX] at hrc Rr
 let V:=(tks.filter λt=>t.2.reads).map λt=>t.2.Xj
 have hV: ∀t∈tks,t.2.reads=true->t.2.Xj∈V:= λt ht hr=>Bi.2 ⟨t,Bw.2 ⟨ht,hr⟩,rfl⟩
 have hV': ∀l∈V,∃t∈tks,t.2.reads=true/\t.2.Xj=l:= λl hl=>by
  obtain ⟨t,h1,h2⟩:=Bi.1 hl
  exact ⟨t,(Bw.1 h1).1,(Bw.1 h1).2,h2⟩
 clear_value V
 obtain ⟨etk,πc,hT,YB,Arx,Wm⟩:=ve h.1 (V:=V) s.ins 0 as us x tks (by omega) hrc htk hV
 have KI:=Yo s9
 rw [etk] at KI
 have eB: ∀b,Wa πc b-> ∃t∈Mh 0 s.ins as,t.2.reads=false/\ ∃q,π t.2.Xj=some q/\q.Cr b/\ ∀l i j,t.2= .sub l i j->b≠q.g:= λb ⟨c,q,h1,h2⟩=>by
  obtain ⟨t,t1,_,t3⟩:=Wm c q b h1 h2
  exact ⟨t,t1,t3⟩
 have KK: ∀b,Wa πc b->Wa π b:= λb hb=>let ⟨t,_,_,q,h1,h2,_⟩:=eB b hb;⟨_,q,h1,h2⟩
 have kT:iI πc (λb=>b<w.heap.size):=⟨λl q b h1 h2=>(h.1.own (KK b ⟨l,q,h1,h2⟩)).1,λl l' q q' b h1 h2 h3 h4=>by
  obtain ⟨t,t1,t2,_,p,t3,t4,_⟩:=Wm l q b h1 h3
  obtain ⟨t',t1',t2',_,p',t3',t4',_⟩:=Wm l' q' b h2 h4
  have:=zm KI t1 t1' (h.1.apart t3 t3' t4 t4')
  rw [<-t2,<-t2',this]⟩
 have Al9: ∀k l,(Dx false k,Loc.row l)∈Mh 0 s.ins as->πc (Dx false k)=(π l).map full:= λk l ht=>
  HU s.ins 0 x as us (by omega) hT k l ht
 have An5: ∀b,Wa πc b->Pd X π V b:= λb hb=> .inl ⟨KK b hb,λl hl r' hr hf=>by
  obtain ⟨t,t1,t0,q,t3,t4,_⟩:=eB b hb
  obtain ⟨t',t1',t2',rfl⟩:=hV' l hl
  rw [etk] at t1'
  have:=zm KI t1 t1' (h.1.apart t3 hr t4 hf)
  subst this
  rw [t0] at t2';cases t2'⟩
 let S:Nat->Prop:= λb=> ¬Wa πc b/\Pd X π V b
 have hS: ∀b,S b->b<w.heap.size/\ ¬Wa πc b:= λb hb=>⟨by
  rcases hb.2 with h1|h1
  ·exact (h.1.own h1.1).1
  ·exact Eh (h.1.sc b h1).1 h.1.below.size,hb.1⟩
 have Ady: ∀l∈pl,∀t∈Mh 0 s.ins as,t.2.Xj≠l:= λl hl t ht e=>(SP l hl).1 (Bi.2 ⟨t,etk▸ht,e⟩)
 have hSg:s.ptr.isSome=true->S g:= λhps=>by
  obtain ⟨l,hl,q,h1,h2,h3⟩:=SM g ⟨hps,rfl⟩
  have hno: ¬Wa πc g:= λhb=>by
   obtain ⟨t,t1,_,q',t3,t4,_⟩:=eB g hb
   exact Ady l hl t t1 (h.1.apart t3 h1 t4 h2)
  refine ⟨hno, .inl ⟨⟨l,q,h1,h2⟩,λl' Mc r' kU hf=>?_⟩⟩
  obtain ⟨t',t1',_,rfl⟩:=hV' l' Mc
  rw [etk] at t1'
  exact Ady l hl t' t1' (h.1.apart kU h1 hf h2)
 refine (hs.calls w S πc us x r o g vs Rr hSg (fj.Jp (λb hb=>hb.elim (An5 b) λh=>h.2) s.ins 0 x us (hT.Ane s.ins 0 x as us)) kT hS Arx hfn).mono ?_
 rintro e w' ⟨v,Xi,CE,rfl,fL,qk,Adm,z6,Amg,YP,Ain,xz⟩
 obtain ⟨ρ,Ae4,vS,YO,Afw⟩: ∃ρ:Pi,(∀l,ρ l=(CE l).map full)/\Jx w' (kO S πc CE) ρ 0 s.outs r Xi/\iI ρ (λb=>b<w'.heap.size/\(w.heap.size<=b\/ ∃l q,l<Bl/\πc l=some q/\q.Cr b))/\ ∀l q,ρ l=some q->q.cl=q.Cr:=by
  have un: ∀l q,(CE l).map full=some q-> ∃q0,CE l=some q0/\q=full q0:= λl q hq=>by
   cases hp:CE l with
   |none=>rw [hp] at hq;cases hq
   |some q0=>rw [hp] at hq;exact ⟨q0,rfl,(Bc hq).symm⟩
  refine ⟨λl=>(CE l).map full,λ_=>rfl,Jx.full s.outs 0 r Xi Amg,⟨λl q b h1 h2=>?_,λl l' q q' b h1 h2 h3 h4=>?_⟩,λl q h1=>?_⟩
  ·obtain ⟨q0,h5,rfl⟩:=un l q h1
   exact YP.aq l q0 b h5 h2
  ·obtain ⟨q0,h5,rfl⟩:=un l q h1
   obtain ⟨q0',h6,rfl⟩:=un l' q' h2
   exact YP.inj l l' q0 q0' b h5 h6 h3 h4
  ·obtain ⟨q0,_,rfl⟩:=un l q h1
   rfl
 refine ⟨v,rfl,?_⟩
 split at he
 ·cases he
 rename_i av0 iv
 split at he
 rotate_left
 ·cases he
 rename_i Yj
 simp only [Aa,Ae] at he
 obtain ⟨rfl,rfl⟩:=he
 let D1:Nat->Prop:=if s.flat then λ_=>True else kO S πc CE
 have As0:Mt w' D1 πc 0 s.ins o:=by
  show Mt w' (if s.flat then λ_=>True else kO S πc CE) πc 0 s.ins o
  split
  ·rename_i hf
   unfold MSpec.flat at hf
   simp only [Af] at hf
   exact Mt.any s.ins 0 o hf.2 z6
  ·exact z6
 have Amh:Jx w' D1 ρ 0 s.outs r Xi:=by
  show Jx w' (if s.flat then λ_=>True else kO S πc CE) ρ 0 s.outs r Xi
  split
  ·rename_i hf
   unfold MSpec.flat at hf
   simp only [Af] at hf
   exact Jx.any s.outs 0 r Xi hf.1 vS
  ·exact vS
 obtain ⟨q1,q2,q3,q4⟩:=uj (D:=D1) (X:=X) (π:=π) (H:=st.heap) h.1 Adm.size (tks:=Mh 0 s.ins as) (πc:=πc) (λt ht q b hq hb Li hn=>Adm.block b Li λKJ=>by
   rcases KJ with ⟨c,r',h1,h2⟩|hg
   rotate_left
   ·obtain ⟨l,hl,q',h1,h2,_⟩:=SM b hg
    exact Ady l hl t ht (h.1.apart hq h1 hb h2)
   obtain ⟨t',t1,t2,_,p,t3,t4,_⟩:=Wm c r' b h1 h2
   have:=zm KI ht t1 (h.1.apart hq t3 hb t4)
   subst this
   exact hn r' (t2▸h1) h2) s.ins 0 x as us o st st1 (by omega) (λ_ h=>h) KI hT As0 YQ (λ_ _=>rfl)
 have Aif: ∀t∈Mh 0 s.ins as,t.2.reads=true->t.1<Bl:=by
  have: ∀(cs:List (Bool×CK)) (k:Nat) (as:List AC),k+cs.length<100000-> ∀t∈Mh k cs as,t.2.reads=true->t.1<Bl:=by
   intro cs
   induction cs with
   |nil=>intro k as _ t ht;cases as<;>cases ht
   |cons p r ih=>
    intro k as hk t ht hr
    simp only [Ay] at hk
    cases as with
    |nil=>cases ht
    |cons a as=>
     simp only [Mh] at ht
     rcases Bb.1 ht with ht|ht
     ·rcases HS ht with ⟨_,h1⟩|⟨h1,_⟩
      ·rw [hr] at h1;cases h1
      ·rw [h1];exact gi (by omega)
     ·exact ih (k+1) as (by omega) t ht hr
  exact this s.ins 0 as (by omega)
 let d:=dst.getD 0
 let ks:=Sy s tks d
 let dead:=nt tks++ks++(if s.flat then [] else BP tks)
 let part:=whole tks
 have Asr:s.outs.length+(mM s d).length=s.Va:=by unfold MSpec.Va mM;cases s.rp<;>rfl
 obtain ⟨Ai3,As7,Ag3⟩:ks.length=s.Va/\ks.Nodup/\ ∀l∈ks,l<Bl:=by
  have:=LC tw
  rw [Asr] at this
  exact this
 have hno:s.outs.length<=s.Va:=by unfold MSpec.Va;omega
 have hvk: ∀tid,s.rp=some tid->Eb ks s.outs.length=Tt d/\s.Va=s.outs.length+1:= λtid Yk=>by
  have h1:s.Va=s.outs.length+1:=by unfold MSpec.Va;rw [Yk]
  refine ⟨?_,h1⟩
  have h2:ks=nk s tks d++ [Tt d]:=by show nk s tks d++mM s d=_;unfold mM;rw [Yk]
  have h3:(nk s tks d).length=s.outs.length:=by rw [h2] at Ai3;simp at Ai3;omega
  rw [Sa (by rw [Ai3];omega)]
  simp only [h2]
  rw [List.getElem_append_right (by omega)]
  simp [h3]
 have YK:=DF As7 Ag3
 have As5: ∀j,j<s.Va->Eb ks j<Bl:= λj hj=>Ag3 _ (mem_keys.2 ⟨j,by omega,rfl⟩)
 let π':Pi:= λl=>match (List.range s.Va).find? λj=>decide (Eb ks j=l) with
  |some j=>ρ (Kx j)
  |none=>if l∈dead then none else π l
 have vO: ∀j,j<s.Va->π' (Eb ks j)=ρ (Kx j):= λj hj=>by
  show (match (List.range s.Va).find? λi=>decide (Eb ks i=Eb ks j) with|some i=>ρ (Kx i)|none=>_)=_
  cases hf:(List.range s.Va).find? λi=>decide (Eb ks i=Eb ks j) with
  |none=>
   have:=List.find?_eq_none.1 hf j (Dl.2 hj)
   simp at this
  |some i=>
   have:=List.find?_some hf
   rw [YK i j (Jg this)]
 have tv: ∀j,j<s.Va->Eb ks j∈dead:= λj hj=>Bk _ (Cg _ (mem_keys.2 ⟨j,by omega,rfl⟩))
 have z7: ∀l,(¬ ∃j,j<s.Va/\l=Eb ks j)->π' l=if l∈dead then none else π l:= λl hl=>by
  show (match (List.range s.Va).find? λi=>decide (Eb ks i=l) with|some i=>ρ (Kx i)|none=>_)=_
  cases hf:(List.range s.Va).find? λi=>decide (Eb ks i=l) with
  |none=>rfl
  |some i=>
   have h1:=List.find?_some hf
   exact absurd ⟨i,Dl.1 (List.mem_of_find?_eq_some hf),(Jg h1).symm⟩ hl
 have ZB: ∀l,l∉dead->π' l=π l:= λl hl=>by
  rw [z7 l (λ⟨j,h1,h2⟩=>hl (h2▸tv j h1)),Ai hl]
 have hD1: ∀b,Wa π' b\/X.Sc b->D1 b:=by
  intro b hb
  show (if s.flat then λ_=>True else kO S πc CE) b
  split
  ·trivial
  rename_i hnf
  rcases hb with ⟨l,q,hl,hf⟩|hb
  ·by_cases hk: ∃j,j<s.Va/\l=Eb ks j
   ·obtain ⟨j,hj,rfl⟩:=hk
    rw [vO j hj,Ae4] at hl
    cases hp:CE (Kx j) with
    |none=>rw [hp] at hl;cases hl
    |some q0=>rw [hp] at hl;simp only [Al,Aa] at hl;subst hl;exact .inr (.inr ⟨Kx j,q0,hp,hf⟩)
   ·have e0:π' l=if l∈dead then none else π l:=z7 l hk
    rw [e0] at hl
    split at hl
    ·cases hl
    ·rename_i Adv
     by_cases ho:Wa πc b
     ·obtain ⟨c,q',hc,hcb⟩:=ho
      obtain ⟨t,t1,t2,t0,p,t3,t4,_⟩:=Wm c q' b hc hcb
      have z8:=h.1.apart hl t3 hf t4
      refine .inr (.inl ⟨c,q',Bx λhn=>?_,hc,hcb⟩)
      exact Adv (Bk _ (Bk _ (eI.2 ⟨t,etk▸t1,⟨by rw [t2];omega,t0⟩,z8.symm⟩)))
     ·refine .inl ⟨ho, .inl ⟨⟨l,q,hl,hf⟩,λl0 hl0 r0 hr0 hf0=>?_⟩⟩
      have:=h.1.apart hl hr0 hf hf0
      subst this
      exact Adv (Cg _ (by rw [Ai hnf];exact tW.2 (hV' l hl0)))
  ·refine .inl ⟨λho=>?_, .inr hb⟩
   have h1:=h.1.sc b hb
   rcases (h.1.own (KK b ho)).2 with h2|h2
   ·omega
   ·exact h1.2 h2
 have hpd: ∀l∈pl,l∉dead:= λl hl hd=>by
  rcases Bb.1 hd with hd|hd
  ·rcases Bb.1 hd with hd|hd
   ·obtain ⟨t,ht,_,e⟩:=eI.1 hd
    exact (SP l hl).1 (Bi.2 ⟨t,ht,e⟩)
   ·exact (SP l hl).2 hd
  ·split at hd
   ·cases hd
   ·obtain ⟨t,ht,_,e⟩:=tW.1 hd
    exact (SP l hl).1 (Bi.2 ⟨t,ht,e⟩)
 have Ai2: ∀j,j<s.Va->Eb ks j∉pl:= λj hj hp=>hpd _ hp (tv j hj)
 let bv:Option OB:=s.rp.map λtid=> .var tid ((cd (Eb ks) 0 s.outs r).drop s.aM)
 let H1:=(rD s.ins (cd (Eb ks) 0 s.outs r) pl (st1.cO dead part)).heap
 have hH1: ∀l,l∉pl->Aw H1 l=if l∈dead then none else (Aw st1.heap l).map (OB.map (Cl dead part)):= λl hl=>by
  show Aw (rD _ _ _ _).heap l=_
  rw [NA hl]
  show Aw (Ya (st1.heap.map λp=>(p.1,p.2.map (Cl dead part))) dead) l=_
  rw [Od,Pl]
 let H2:=ES H1 (Tt d) bv
 have hvd: ∀tid,s.rp=some tid->Tt d∈dead/\Tt d∉pl:= λtid Yk=>by
  obtain ⟨e1,e2⟩:=hvk tid Yk
  rw [<-e1]
  exact ⟨tv _ (by omega),Ai2 _ (by omega)⟩
 have Al5: ∀l,(∀tid,s.rp=some tid->l≠Tt d)->Aw H2 l=Aw H1 l:= λl hl=>by
  show Aw (ES H1 (Tt d) (s.rp.map _)) l=_
  cases IX:s.rp with
  |none=>rfl
  |some tid=>exact Pz _ _ _ _ (hl tid IX)
 have Aqz: ∀tid,s.rp=some tid->Aw H2 (Tt d)=some (.var tid ((cd (Eb ks) 0 s.outs r).drop s.aM)):= λtid Yk=>by
  show Aw (ES H1 (Tt d) (s.rp.map _)) (Tt d)=_
  rw [Yk]
  exact Re _ _ _ (by rw [hH1 _ (hvd tid Yk).2,Ab (hvd tid Yk).1])
 have hkv: ∀j,j<s.outs.length-> ∀tid,s.rp=some tid->Eb ks j≠Tt d:= λj hj tid Yk e=>by
  have:=YK j s.outs.length (e.trans (hvk tid Yk).1.symm)
  omega
 have hH2: ∀l,l∉pl->(∀tid,s.rp=some tid->l≠Tt d)->Aw H2 l=if l∈dead then none else (Aw st1.heap l).map (OB.map (Cl dead part)):= λl hl hv=>by
  rw [Al5 l hv,hH1 l hl]
 let H':=Yp (PH st (nt tks)) (Eb ks) 0 s.outs r H2
 obtain ⟨n1,n2,n3⟩:=qH (D:=D1) (X:=X) (key:=Eb ks) YK (fr:=PH st (nt tks)) (ρ:=ρ) s.outs 0 r Xi H2 Amh (λj _ hj=>by
  rw [hH2 _ (Ai2 j (by omega)) (hkv j (by omega)),Ab (tv j (by omega))])
 have pd: ∀l,l∉dead->l∉pl->Aw H' l=(Aw st1.heap l).map (OB.map (Cl dead part)):= λl hl rk=>by
  show Aw (Yp _ _ _ _ _ _) l=_
  rw [n1 l λj _ hj e=>hl (e▸tv j (by omega)),hH2 l rk (λtid Yk e=>hl (e▸(hvd tid Yk).1)),Ai hl]
 have Adk: ∀l,l∈dead->(∀j,j<s.Va->l≠Eb ks j)->Aw H' l=none:= λl hl hj=>by
  show Aw (Yp _ _ _ _ _ _) l=_
  rw [n1 l λj _ h2=>hj j (by omega),hH2 l (λhp=>hpd l hp hl) (λtid Yk e=>hj s.outs.length (by have:=(hvk tid Yk).2;omega) (e.trans (hvk tid Yk).1.symm)),Ab hl]
 have newAt: ∀l b',Aw H' l=some b'->(l∈dead\/Aw st.heap l=none)-> ∃j,j<s.Va/\l=Eb ks j:=by
  intro l b' hb hd
  refine Bx λhn=>?_
  have s8: ∀j,j<s.Va->l≠Eb ks j:= λj hj e=>hn ⟨j,hj,e⟩
  rcases Classical.em (l∈dead) with xr|xr
  ·rw [Adk l xr s8] at hb;cases hb
  ·rcases hd with hd|hd
   ·exact xr hd
   ·rw [pd l xr (λhp=>by obtain ⟨_,_,_,_,_,_,_,h1,_⟩:=SQ l hp;rw [hd] at h1;cases h1)] at hb
    have:Aw st1.heap l=none:=by
     by_cases hi: ∃t∈Mh 0 s.ins as,t.2.Xj=l
     ·obtain ⟨t,ht,e⟩:=hi
      by_cases Li:t.1<Bl
      ·rw [<-e,q3 t ht Li,e];exact hd
      ·obtain ⟨b0,_,h1,_⟩:=q4 t ht Li
       rw [e,hd] at h1;cases h1
     ·rw [q2 l λt ht e=>hi ⟨t,ht,e.symm⟩];exact hd
    rw [this] at hb;cases hb
 have Ahs: ∀k,PH st (nt tks)=true-> ∀q,ρ (Kx k)=some q->q.Cr q.g->X.w0.heap.size<=q.g:=by
  intro k z0 q hq hg
  rcases (YO.aq _ q _ hq hg).2 with h1|⟨c,p,h1,h2,h3⟩
  ·exact Ml h.1.below.size h1
  ·obtain ⟨t,t1,t2,t0,p',t3,t4,_⟩:=Wm c p _ h2 h3
   have hm:t.2.Xj∈nt tks:=eI.2 ⟨t,etk▸t1,⟨by rw [t2];exact h1,t0⟩,rfl⟩
   have:=Az.1 z0 _ hm
   split at this
   ·rename_i fr tr e te xs hl
    unfold St.at at hl
    have hb:=(h.1.heap t.2.Xj).Rz hl
    simp only [Ch,Kr,t3] at hb
    rw [hb.1.2.1 _ t4]
    exact hb.1.2.2 this
   ·cases this
 have Ahq: ∀k q,ρ (Kx k)=some q->k<s.outs.length->q.Cr q.g:=by
  intro k q hq hk
  exact Jx.Afd s.outs 0 r Xi vS k (Kd _) ((Ce _).symm▸hk) q hq
 have hinv: ∀l,l∉dead->(∃t∈Mh 0 s.ins as,t.2.reads=false/\t.2.Xj=l)->mY X D1 w' π st.heap st1.heap l:=by
  rintro l hd ⟨t,ht,h0,rfl⟩
  by_cases Li:t.1<Bl
  ·exact absurd (Bk _ (Bk _ (eI.2 ⟨t,etk▸ht,⟨Li,h0⟩,rfl⟩))) hd
  ·exact q4 t ht Li
 have z9: ∀l,(¬ ∃t∈Mh 0 s.ins as,t.2.reads=false/\t.2.Xj=l)->Aw st1.heap l=Aw st.heap l:= λl hn=>by
  by_cases hi: ∃t∈Mh 0 s.ins as,t.2.Xj=l
  ·obtain ⟨t,ht,rfl⟩:=hi
   have hr:t.2.reads=true:=by
    cases h0:t.2.reads with
    |true=>rfl
    |false=>exact absurd ⟨t,ht,h0,rfl⟩ hn
   exact q3 t ht (Aif t ht hr)
  ·exact q2 l λt ht e=>hi ⟨t,ht,e.symm⟩
 have Afm: ∀l∈pl,∀p,s.ptr=some p->Aw H' l=some (.var p.1 (hJ s.ins (cells.map (Cl dead part)) (cd (Eb ks) 0 s.outs r))):= λl hl p hp=>by
  obtain ⟨p',q,h1,h2,_,_,_,h3,_⟩:=SQ l hl
  rw [hp] at h1;cases h1
  show Aw (Yp _ _ _ _ _ _) l=_
  rw [n1 l λj _ hj e=>Ai2 j (by omega) (e▸hl),Al5 l (λtid Yk e=>(hvd tid Yk).2 (e▸hl))]
  show Aw (rD _ _ _ _).heap l=_
  rw [h2]
  refine UQ ?_
  show Aw (Ya (st1.heap.map λp=>(p.1,p.2.map (Cl dead part))) dead) l=_
  rw [Od,Pl,Ai (hpd l hl),z9 l (λ⟨t,ht,_,e⟩=>Ady l hl t ht e),h3]
  rfl
 have Ag5: ∀j,j<s.Va->s.outs.length<=j-> ∃tid,s.rp=some tid/\j=s.outs.length:= λj h1 h2=>by
  cases IX:s.rp with
  |none=>unfold MSpec.Va at h1;rw [IX] at h1;simp at h1;omega
  |some tid=>exact ⟨tid,rfl,by have:=(hvk tid IX).2;omega⟩
 have hHv: ∀tid,s.rp=some tid->Aw H' (Tt d)=some (.var tid ((cd (Eb ks) 0 s.outs r).drop s.aM)):= λtid Yk=>by
  show Aw (Yp _ _ _ _ _ _) _=_
  rw [n1 _ λj _ hj e=>hkv j (by omega) tid Yk e.symm,Aqz tid Yk]
 suffices Am4:Bh X π' (m7 st st1 d s pl tks r) a w'/\Bm X w' π' (m7 st st1 d s pl tks r).heap av0 v by
  obtain ⟨m1,m2⟩:=Am4
  have vQ: ∀(kj:List (Nat×Nat)) (l:Nat),l∈c7 st.heap ks tks kj->nR st.heap l=true/\ ∃k j t,(k,j)∈kj/\t∈tks/\t=(Dx false k,Loc.row l)/\ks[j]?=some l:=by
   intro kj
   induction kj with
   |nil=>intro l hl;cases hl
   |cons p kj ih=>
    intro l hl
    obtain ⟨k,j⟩:=p
    have up:l∈c7 st.heap ks tks kj->nR st.heap l=true/\ ∃k' j' t,(k',j')∈(k,j)::kj/\t∈tks/\t=(Dx false k',Loc.row l)/\ks[j']?=some l:= λhl=>by
     obtain ⟨h1,k',j',t,h2,h3⟩:=ih l hl
     exact ⟨h1,k',j',t,Ao _ h2,h3⟩
    simp only [c7] at hl
    split at hl
    ·rename_i x0 l1 l2 h1 h2
     split at hl
     ·rename_i hc
      simp only [Af] at hc
      rcases Bg.1 hl with rfl|hl
      ·have:=List.find?_some h1
       have e1:=Kg this
       have e2:=Kg hc.1
       dsimp only at e1
       exact ⟨hc.2,k,j,_,Fk,List.mem_of_find?_eq_some h1,by rw [e1],by rw [h2,e2]⟩
      ·exact up hl
     ·exact up hl
    ·exact up hl
  obtain ⟨r1,r2⟩:=KX h m1 (ls:=c7 st.heap ks tks s.keeps) (n:=s.Fp x) (λl hl=>by
   obtain ⟨_,k,j,t,h1,h2,h3,h4⟩:=vQ s.keeps l hl
   have hj:j<ks.length:=(Am.1 h4).1
   have WN:Eb ks j=l:=by
    rw [Sa hj]
    rw [Ac hj] at h4
    exact Bc h4
   have vP:=xz (k,j) h1
   rw [show π' l=ρ (Kx j) by rw [<-WN];exact vO j (by omega),Ae4]
   have hc:πc (Dx false k)=(π l).map full:=Al9 k l (by rw [<-h3,<-etk];exact h2)
   dsimp only at vP
   rw [hc] at vP
   cases hp:π l<;>cases hq:CE (Kx j)<;>(rw [hp,hq] at vP;exact vP)) (λl hl=>(vQ s.keeps l hl).1) Yj
  exact ⟨π',r1,r2 av0 v m2⟩
 refine ⟨?_,?_⟩
 ·have hx:=Bh.Ahc (π':=π') (H':=H') (dead:=dead) (part:=part) (inv:= λl=>(∃t∈Mh 0 s.ins as,t.2.reads=false/\t.2.Xj=l)\/l∈pl) (gv:= λb=>Wa πc b\/s.gv g b) h (λb hb=>by
    rcases hb with hb|hb
    ·obtain ⟨t,h1,h0,q,h2,h3,_⟩:=eB b hb
     exact ⟨_,q, .inl ⟨t,h1,h0,rfl⟩,h2,h3⟩
    ·obtain ⟨l,hl,q,h1,h2,_⟩:=SM b hb
     exact ⟨l,q, .inr hl,h1,h2⟩) Adm (λl b0 hd h0=>⟨ZB l hd,?_⟩) (λl b' hb hd=>?_) (λl hl=>?_) (λm q hd hp hm hxa=>?_)
  ·have:({tmps:=(rD s.ins (cd (Eb ks) 0 s.outs r) pl (st1.cO dead part)).tmps,heap:=H'} :St)= {tmps:=st.tmps.map (·.map (Cl dead part)),heap:=H'} :=by
    rw [pM]
    show ({tmps:=st1.tmps.map (·.map (Cl dead part)),heap:=H'} :St)=_
    rw [q1]
   show Bh X π' ({tmps:=(rD s.ins (cd (Eb ks) 0 s.outs r) pl (st1.cO dead part)).tmps,heap:=H'} :St) a w'
   rw [this]
   exact hx
  ·by_cases WM:l∈pl
   ·obtain ⟨p,q,h1,h2,h3,h4,h5,h6,h7⟩:=SQ l WM
    rw [h0] at h6;cases h6
    have vz:=Afm l WM p h1
    refine .inr ⟨_,vz,⟨rfl,by rw [pF]⟩,λm=>?_⟩
    unfold lZ at qk
    rw [h1] at qk
    obtain ⟨cs,k1,k2,k3⟩:=qk
    rw [<-h7] at k3
    refine ⟨q,h3,h4,cs.toArray,by rw [<-h5];exact k1,?_⟩
    refine Nn.to (kI (H:=st.heap) ZB (λl1 b1 sz n hd1 WJ SV=>?_) s.ins 0 cells oO x us o st st1 (cd (Eb ks) 0 s.outs r) Xi cs (has▸hT) Am0 (has▸YQ) k3 (n3 π' hD1 (λj _ hj=>vO j (by omega)))) (by simpa using k2)
    have hnp:l1∉pl:= λhp=>by
     obtain ⟨_,_,_,_,_,_,_,h8,_⟩:=SQ l1 hp
     rw [WJ] at h8;cases h8;cases SV
    by_cases hi: ∃t∈Mh 0 s.ins as,t.2.reads=false/\t.2.Xj=l1
    ·obtain ⟨b1,b',e1,e2,e3,e4,e5,e6⟩:=hinv l1 hd1 hi
     rw [WJ] at e1;cases e1
     exact ⟨b',by rw [pd l1 hd1 hnp,e2];simp [e4],by rw [e5.row];exact SV⟩
    ·exact ⟨_,by rw [pd l1 hd1 hnp,z9 l1 hi,WJ];rfl,by rw [OB.zY];exact SV⟩
   by_cases hi: ∃t∈Mh 0 s.ins as,t.2.reads=false/\t.2.Xj=l
   ·obtain ⟨b1,b',e1,e2,e3,e4,e5,e6⟩:=hinv l hd hi
    rw [h0] at e1;cases e1
    exact .inr ⟨b',by rw [pd l hd WM,e2];simp [e4],by rw [e3];exact e5,λ_=>e6 π' H' hD1⟩
   ·exact .inl ⟨λhh=>hh.elim hi WM,by rw [pd l hd WM,z9 l hi,h0];rfl⟩
  ·obtain ⟨j,hj,rfl⟩:=newAt l b' hb hd
   refine ⟨As5 j hj,?_,λq b hq=>?_⟩
   ·rw [vO j hj]
    rcases Nat.lt_or_ge j s.outs.length with hjo|hjo
    ·rcases n2 j (Kd _) (by omega) with ⟨e1,_⟩|⟨b2,e1,e2⟩
     ·rw [show Aw H' (Eb ks j)=none from e1] at hb;cases hb
     ·rw [show Aw H' (Eb ks j)=some b2 from e1] at hb;cases hb
      exact e2 X π' H' (λhf q hq=>Ahs j hf q hq (Ahq j q hq hjo)) hD1
    ·obtain ⟨tid,Yk,hj0⟩:=Ag5 j hj hjo
     subst hj0
     rw [(hvk tid Yk).1,hHv tid Yk] at hb;cases hb
     unfold sw at fL
     rw [Yk] at fL
     obtain ⟨q,y1,y2,y3,y4,_⟩:=fL
     rw [Ae4,y1]
     exact ⟨full q,rfl,y2,_,y3,Nn.to (Nn.take s.aM (n3 π' hD1 (λj _ hj=>vO j (by omega)))).2 (by simpa using y4)⟩
   ·rw [vO j hj] at hq
    have Qj:=Afw _ q hq
    refine ⟨λhf=>by rw [Qj];exact hf,λhf=>?_⟩
    rw [Qj] at hf
    obtain ⟨h1,h2⟩:=YO.aq _ q b hq hf
    refine ⟨h1,h2.imp id ?_,λl2 r2 WK QD hf2=>?_⟩
    ·rintro ⟨c,p,h3,h4,h5⟩
     obtain ⟨t,t1,t2,t0,p',t3,t4,_⟩:=Wm c p b h4 h5
     exact ⟨t.2.Xj,p',Bk _ (Bk _ (eI.2 ⟨t,etk▸t1,⟨by rw [t2];exact h3,t0⟩,rfl⟩)),t3,t4⟩
    ·by_cases hk: ∃j,j<s.Va/\l2=Eb ks j
     ·obtain ⟨j2,hj2,rfl⟩:=hk
      rw [vO j2 hj2] at QD
      rw [Afw _ r2 QD] at hf2
      have:=YO.inj _ _ r2 q b QD hq hf2 hf
      unfold Kx at this
      have:j2=j:=by omega
      rw [this]
     ·have e0:π' l2=if l2∈dead then none else π l2:=z7 l2 hk
      rw [e0] at QD
      split at QD
      ·cases QD
      ·rename_i Adv
       rcases WK with WK|WK
       ·exact absurd WK Adv
       ·rw [(h.1.heap l2).emp WK] at QD;cases QD
  ·by_cases hk: ∃j,j<s.Va/\l=Eb ks j
   ·obtain ⟨j,hj,rfl⟩:=hk
    rw [vO j hj]
    rcases Nat.lt_or_ge j s.outs.length with hjo|hjo
    ·rcases n2 j (Kd _) (by omega) with ⟨_,e1⟩|⟨b2,e1,_⟩
     ·exact e1
     ·rw [show Aw H' (Eb ks j)=some b2 from e1] at hl;cases hl
    ·obtain ⟨tid,Yk,hj0⟩:=Ag5 j hj hjo
     subst hj0
     rw [(hvk tid Yk).1,hHv tid Yk] at hl;cases hl
   ·have e0:π' l=if l∈dead then none else π l:=z7 l hk
    rw [e0]
    split
    ·rfl
    ·rename_i hd
     by_cases WM:l∈pl
     ·obtain ⟨p,_,h1,_⟩:=SQ l WM
      rw [Afm l WM p h1] at hl;cases hl
     rw [pd l hd WM] at hl
     by_cases hi: ∃t∈Mh 0 s.ins as,t.2.reads=false/\t.2.Xj=l
     ·obtain ⟨_,b',_,e2,_⟩:=hinv l hd hi
      rw [e2] at hl;cases hl
     ·rw [z9 l hi] at hl
      cases h0:Aw st.heap l with
      |none=>exact (h.1.heap l).emp h0
      |some b=>rw [h0] at hl;cases hl
  ·refine Adm.block _ (h.1.lt hm).1 λKJ=>?_
   rcases KJ with ho|hg
   rotate_left
   ·obtain ⟨l,hl,q',h1,h2,_⟩:=SM _ hg
    have z8:=h.1.apart hm h1 (h.1.Cr hm) h2
    obtain ⟨_,_,_,_,_,_,_,h3,_⟩:=SQ l hl
    obtain ⟨b,hxa,hxb⟩:=hxa
    rw [z8,h3] at hxa;cases hxa
    exact hxb rfl
   obtain ⟨t,t1,t0,p,t3,t4,t5⟩:=eB _ ho
   have z8:=h.1.apart hm t3 (h.1.Cr hm) t4
   have hpq:p=q:=by rw [<-z8,hm] at t3;exact (Bc t3).symm
   cases WO:t.2 with
   |row l=>
    refine hp ?_
    show m∈whole tks
    unfold whole
    exact Hz.2 ⟨t,etk▸t1,by rw [WO,z8,WO];simp [Loc.Xj]⟩
   |sub l i j=>exact t5 l i j WO (by rw [hpq])
   |view l=>rw [WO] at t0;cases t0
 ·have Asp:=n3 π' hD1 (λj _ hj=>vO j (by omega))
  cases IX:s.rp with
  |some tid=>
   unfold sw at fL
   rw [IX] at fL
   obtain ⟨q,y1,y2,y3,y4,rfl⟩:=fL
   unfold Aem at iv
   rw [IX] at iv
   simp only [Aa] at iv;subst iv
   refine ⟨full q,tid,_,hHv tid IX,?_,rfl⟩
   rw [<-(hvk tid IX).1,vO _ (by have:=(hvk tid IX).2;omega),Ae4,y1]
   rfl
  |none=>
  unfold sw at fL
  rw [IX] at fL
  obtain ⟨fL,Asv⟩:=fL
  unfold Aem at iv
  rw [IX] at iv
  simp only at iv
  obtain ⟨g1,g2,g3,g4⟩:=ey s.Hp _ (Xi.drop s.aM) Asv (Nn.take s.aM Asp).2
  unfold Aoa at iv
  unfold Aat at fL
  split at iv
  ·rename_i hm
   rw [Ab hm] at fL
   simp only [Aa] at iv;subst iv
   subst fL
   exact ⟨_,rfl,g3.symm,g4⟩
  ·rename_i hm
   rw [Ai hm] at fL
   split at iv
   ·rename_i av1 hga
    simp only [Aa] at iv;subst iv
    rcases fL with fL|fL
    ·exact g2 0 _ v (by rw [hga];rfl) (by rw [fL];rfl)
    ·rw [hga,fL] at g1;cases g1
   ·simp only [Aa] at iv;subst iv;trivial
   ·cases iv
end
end Go.Proofs.YtkkdpknjohcekaaGreat
