/-
  Part 17 of the proof that the statement FnTables holds.
-/
import Derived.Test.YtkkdpknjohcekaaCFTables15
namespace Go.Proofs.Ytkkdpknjohcekaa
open Go.RowKit
section
variable {P:Program} {T:Tab} {X:Ctx} {w w':World} {π π':Pi} {H H':List (Nat×OB)}
theorem Zo (k:Nat): ¬Ds true k<Bf:=by unfold Ds Bf;simp
theorem dG {k:Nat} (h:k<100000):Ds false k<Bf:=by unfold Ds Bf;simp;omega
def kF (X:Ctx) (D:Nat->Prop) (w':World) (π:Pi) (H Hn:List (Nat×OB)) (l:Nat):Prop:=
 ∃b0 b',Aq H l=some b0/\Aq Hn l=some b'/\(∀f,OB.map f b0=b0)/\(∀f,OB.map f b'=b')/\b0.dp b'/\ ∀π' H',(∀b,Ue π' b\/X.Sc b->D b)->Bw X w' π' H' (π l) b'
theorem SV {io:Bool} {k:Nat} {τ:Ty} {a:AC} {t:Nat×Loc} (h:t∈Pl io k (.Fp τ) a):t.1=Ds false k:=by
 cases a<;>simp [Pl,views] at h<;>first|(obtain ⟨_,⟨_,_⟩,rfl⟩:=h;rfl)|(rw [h])
theorem MN {io:Bool} {k:Nat} {e:Ty} {te:TypeId} {a:AC} {t:Nat×Loc} (h:t∈Pl io k (.part e te) a):t.1=Ds io k:=by cases a<;>simp [Pl] at h<;>rw [h]
theorem SW {io:Bool} {k:Nat} {e:Ty} {te:TypeId} {a:AC} {t:Nat×Loc} (h:t∈Pl io k (.row e te) a):t.1=Ds io k:=by cases a<;>simp [Pl] at h<;>rw [h]
theorem MO {io:Bool} {k:Nat} {e:Ty} {te:TypeId} {a:AC} {t:Nat×Loc} (h:t∈Pl io k (.Hb e te) a):t.1=Ds io k:=by cases a<;>simp [Pl] at h<;>rw [h]
theorem cY {D:Nat->Prop} {π':Pi} {fr:Bool} {e:Ty} {es:List Value} {y:e.den} (hD: ∀b,Ue π' b\/X.Sc b->D b) (h:Cells w' D e es y):Cells w' (Cp X.w0.heap.size X.Sc π' (fr&&e.flat)) e es y:=by
 cases hf:e.flat with
 |true=>exact Cells.flat e es y hf h
 |false=>exact Cells.Gg (Ar _) (λ_ _ _=>rfl) (λb _ hb=>by
   rcases hb with hb|hb|⟨hb,_⟩
   ·exact hD b (.inl hb)
   ·exact hD b (.inr hb)
   ·simp at hb) e es y h
theorem MQ {D P:Nat->Prop} {g o:Nat} {cur:Array Value} {tr:Bool} {e:Ty} {xs:List e.den}
  (h: ∀(i:Nat) (x:e.den),xs[i]?=some x-> ∃es:List Value,es.length=e.size/\(∀j u,es[j]?=some u->cur[(o+i)*e.size+j]?=some u)/\Cells w' D e es x) (ht:(tr&&e.flat)=true):Vs w' P g o cur e xs:=by
 simp only [Ag] at ht
 exact l7 ht.2 h
theorem LO {D:Nat->Prop} (h:Mh X w π H) {k:Nat} {c:CK} {ys:c.den} {a:AC} {u:Value} {r:Option Real} {x:c.den} {cur st1:St} (hs:w.heap.size<=w'.heap.size)
  (hU: ∀l i j q b,a= .sub l i j->π l=some q->q.Ci b->b<w.heap.size->(∀r',r=some r'-> ¬r'.Ci b)->w'.heap[b]?=w.heap[b]?)
  {V:List Nat} (ht:cP w (Nn X π V) r u c x/\Sb w π H true a u r c x) (hr:ee w' D r c ys) (he:aP cur c ys a=some st1) (eQ: ∀t∈Pl true k c a,Aq cur.heap t.2.Vm=Aq H t.2.Vm):
  st1.tmps=cur.tmps/\(∀m,(∀t∈Pl true k c a,m≠t.2.Vm)->Aq st1.heap m=Aq cur.heap m)/\ ∀t∈Pl true k c a,kF X D w' π H st1.heap t.2.Vm:=by
 obtain ⟨hc,ht⟩:=ht
 cases c with
 |Fp τ=>cases a<;>simp [aP] at he;subst he;exact ⟨rfl,λ_ _=>rfl,λt ht=>by simp [Pl] at ht⟩
 |row e te=>
  simp only [Sb] at ht
  cases a<;>simp only [] at ht<;>first|(exact ht.elim)|skip
  ·simp only [aP,Aa] at he;subst he
   exact ⟨rfl,λ_ _=>rfl,λt ht=>by simp [Pl] at ht⟩
  ·rename_i l off len
   obtain ⟨rfl,rfl,rfl,fr,tr,hl⟩:=ht
   have Qh:Aq cur.heap l=some (.arr fr tr e te x):=(eQ _ (Ad.2 rfl)).trans hl
   simp only [aP,St.at,Qh] at he
   split at he
   ·rename_i Jd
    obtain ⟨_,h1,_⟩:=Jd
    simp only [Aa] at he;subst he
    refine ⟨rfl,λm hm=>Dt _ _ _ _ (hm _ (Ad.2 rfl)),λt Uf=>?_⟩
    have Uf:=Ad.1 Uf
    subst Uf
    refine ⟨_,_,hl,El _ _ _ _ Qh,λ_=>rfl,λ_=>rfl,⟨rfl,h1.symm⟩,λπ' H' hD=>?_⟩
    have hb:=(h.heap l).Qi hl
    change Bw X w' π' H' (π l) _
    simp only [Bw,Jj] at hb⊢
    cases hp:π l with
    |none=>rw [hp] at hr;exact hr
    |some q=>
     rw [hp] at hr hb
     obtain ⟨k1,cu,ti,k2,k3,k4,k5,k6⟩:=hr
     exact ⟨⟨k1.1,k1.2,λhh=>hb.1.2.2 (by simp only [Ag] at hh;exact hh.1)⟩,cu,ti,k2,k3,k4,k5,λi y hy=>by
      obtain ⟨es,g1,g2,g3⟩:=k6 i y hy
      exact ⟨es,g1,g2,cY hD g3⟩,λht=>MQ k6 ht⟩
   ·cases he
  ·rename_i l i j
   obtain ⟨⟨_,hf⟩,tid,xs,hl,hx,q,hq,Uq,hre⟩:=ht
   have Qh:Aq cur.heap l=some (.Gl (.slice e) tid xs):=(eQ _ (Ad.2 rfl)).trans hl
   simp only [aP,St.at,Qh,hx] at he
   rw [Ik trivial] at he
   ·split at he
    ·rename_i h1
     simp only [Aa] at he;subst he
     refine ⟨rfl,λm hm=>Dt _ _ _ _ (hm _ (Ad.2 rfl)),λt Uf=>?_⟩
     have Uf:=Ad.1 Uf
     subst Uf
     refine ⟨_,_,hl,El _ _ _ _ Qh,λ_=>rfl,λ_=>rfl,⟨rfl,by simp⟩,λπ' H' _=>?_⟩
     show Na w' (π l) (.slice e) tid _
     rw [hq]
     refine hre w' ys hs (λb Js hb hn=>hU l i j q b rfl hq hb Js hn) ?_
     have hv:=hc.1
     rw [<-show List.length ys=List.length x from h1] at hv
     exact Rl.FR hr hf hv
    ·cases he
 |Hb e te=>
  simp only [Sb] at ht
  cases a<;>simp only [] at ht<;>first|(exact ht.elim)|skip
  ·simp only [aP,Aa] at he;subst he
   exact ⟨rfl,λ_ _=>rfl,λt ht=>by simp [Pl] at ht⟩
  ·rename_i l off len
   obtain ⟨rfl,rfl,rfl,hl⟩:=ht
   have Qh:Aq cur.heap l=some (.Gl e te x):=(eQ _ (Ad.2 rfl)).trans hl
   simp only [aP,St.at,Qh] at he
   split at he
   ·rename_i Jd
    obtain ⟨_,h1,_⟩:=Jd
    simp only [Aa] at he;subst he
    refine ⟨rfl,λm hm=>Dt _ _ _ _ (hm _ (Ad.2 rfl)),λt Uf=>?_⟩
    have Uf:=Ad.1 Uf
    subst Uf
    refine ⟨_,_,hl,El _ _ _ _ Qh,λ_=>rfl,λ_=>rfl,⟨rfl,h1.symm⟩,λπ' H' _=>?_⟩
    show Na w' (π l) e te _
    cases hp:π l with
    |none=>rw [hp] at hr;exact hr
    |some q=>rw [hp] at hr;exact hr
   ·cases he
  ·rename_i l i j
   obtain ⟨_,tid,xs,hl,hx,q,hq,Uq,hre⟩:=ht
   have Qh:Aq cur.heap l=some (.Gl (.slice e) tid xs):=(eQ _ (Ad.2 rfl)).trans hl
   simp only [aP,St.at,Qh,hx] at he
   rw [Ik trivial] at he
   ·split at he
    ·rename_i h1
     simp only [Aa] at he;subst he
     refine ⟨rfl,λm hm=>Dt _ _ _ _ (hm _ (Ad.2 rfl)),λt Uf=>?_⟩
     have Uf:=Ad.1 Uf
     subst Uf
     refine ⟨_,_,hl,El _ _ _ _ Qh,λ_=>rfl,λ_=>rfl,⟨rfl,by simp⟩,λπ' H' _=>?_⟩
     show Na w' (π l) (.slice e) tid _
     rw [hq]
     refine hre w' ys hs (λb Js hb hn=>hU l i j q b rfl hq hb Js hn) ?_
     have hv:=hc.1
     rw [<-show List.length ys=List.length x from h1] at hv
     exact Na.FR (te:=te) hr hv
    ·cases he
 |part e te=>cases a<;>simp [aP] at he<;>first|(simp only [Sb] at ht;exact ht.2.elim)
 |Bm e te kp=>exact absurd ht.1 (by simp)
theorem LP {D:Nat->Prop} (h:Mh X w π H) {k:Nat} {e:Ty} {te:TypeId} {ys:List e.den} {a:AC} {u:Value} {r:Option Real} {x:(CK.part e te).den} {cur st1:St}
  {V:List Nat} (ht:cP w (Nn X π V) r u (.part e te) x/\Sb w π H true a u r (.part e te) x) (hr:ee w' D r (.row e te) ys) (he:EP cur e ys a=some st1) (eQ: ∀t∈Pl true k (.part e te) a,Aq cur.heap t.2.Vm=Aq H t.2.Vm):
  st1.tmps=cur.tmps/\(∀m,(∀t∈Pl true k (.part e te) a,m≠t.2.Vm)->Aq st1.heap m=Aq cur.heap m)/\ ∀t∈Pl true k (.part e te) a,kF X D w' π H st1.heap t.2.Vm:=by
 obtain ⟨hc,hf,ht⟩:=ht
 cases a<;>simp only [] at ht<;>first|(exact ht.elim)|skip
 rename_i l off len
 obtain ⟨rfl,_,fr,tr,hl⟩:=ht
 have Qh:Aq cur.heap l=some (.arr fr tr e te x.1):=(eQ _ (Ad.2 rfl)).trans hl
 simp only [EP,St.at,Qh] at he
 split at he
 ·rename_i Jd
  obtain ⟨_,h1⟩:=Jd
  simp only [Aa] at he;subst he
  refine ⟨rfl,λm hm=>Dt _ _ _ _ (hm _ (Ad.2 rfl)),λt Uf=>?_⟩
  have Uf:=Ad.1 Uf
  subst Uf
  refine ⟨_,_,hl,El _ _ _ _ Qh,λ_=>rfl,λ_=>rfl,⟨rfl,h1.symm⟩,λπ' H' _=>?_⟩
  have hb:=(h.heap l).Qi hl
  change Bw X w' π' H' (π l) _
  simp only [Bw,Jj] at hb⊢
  cases hp:π l with
  |none=>rw [hp] at hr;exact hr
  |some q=>
   rw [hp] at hr hb
   obtain ⟨k1,cu,ti,k2,k3,k4,k5,k6⟩:=hr
   exact ⟨⟨k1.1,k1.2,hb.1.2.2⟩,cu,ti,k2,k3,k4,k5,λi y hy=>by
    obtain ⟨es,g1,g2,g3⟩:=k6 i y hy
    exact ⟨es,g1,g2,Cells.flat e es y hf g3⟩,λ_=>l7 hf k6⟩
 ·cases he
def oV (X:Ctx) (D:Nat->Prop) (w':World) (π:Pi) (H:List (Nat×OB)) (tk:List (Nat×Loc)) (cur st1:St):Prop:=
 st1.tmps=cur.tmps/\(∀m,(∀t∈tk,m≠t.2.Vm)->Aq st1.heap m=Aq cur.heap m)/\(∀t∈tk,t.1<Bf->Aq st1.heap t.2.Vm=Aq cur.heap t.2.Vm)/\(∀t∈tk,¬t.1<Bf->kF X D w' π H st1.heap t.2.Vm)
theorem re {D:Nat->Prop} (h:Mh X w π H) {V:List Nat} {πc:Pi} {tks:List (Nat×Loc)} (hs:w.heap.size<=w'.heap.size)
  (hU: ∀t∈tks,∀q b,π t.2.Vm=some q->q.Ci b->b<w.heap.size->(∀r',πc t.1=some r'-> ¬r'.Ci b)->w'.heap[b]?=w.heap[b]?):
  ∀(cs:List (Bool×CK)) (k:Nat) (x:Ins.den cs) (as:List AC) (us:List Value) (o:IOs.den cs) (cur st1:St),k+cs.length<100000->(∀t∈Lc k cs as,t∈tks)->((Lc k cs as).map λt=>t.2.Vm).Nodup->
   oh X w π V H πc k cs x as us->Lk w' D πc k cs o->Hk cs o as cur=some st1->(∀t∈Lc k cs as,Aq cur.heap t.2.Vm=Aq H t.2.Vm)->
   oV X D w' π H (Lc k cs as) cur st1
 | [],k,x,as,us,o,cur,st1,_,_,_,_,_,he,_=>by
  simp only [Hk,Aa] at he;subst he
  have e0:Lc k [] as= []:=by cases as<;>rfl
  exact ⟨rfl,λ_ _=>rfl,by rw [e0];simp,by rw [e0];simp⟩
 |p::r,k,x,[],us,o,cur,st1,_,_,_,ht,_,_,_=>ht.elim
 |p::r,k,x,a::as,[],o,cur,st1,_,_,_,ht,_,_,_=>ht.elim
 |(io,c)::r,k,x,a::as,u::us,o,cur,st1,hk,fX,sl,ht,ho,he,eQ=>by
  simp only [Bg] at hk
  simp only [Lc] at fX sl eQ⊢
  rw [Tw] at sl
  obtain ⟨n1,n2,n3⟩:=Dg.1 sl
  have apart: ∀t∈Pl io k c a,∀t'∈Lc (k+1) r as,t'.2.Vm≠t.2.Vm:= λt h1 t' h2 e=>n3 _ (Bo.2 ⟨t,h1,rfl⟩) _ (Bo.2 ⟨t',h2,rfl⟩) e.symm
  have rest: ∀(Ye:St) (o':IOs.den r),Lk w' D πc (k+1) r o'->Hk r o' as Ye=some st1->Ye.tmps=cur.tmps->(∀m,(∀t∈Pl io k c a,m≠t.2.Vm)->Aq Ye.heap m=Aq cur.heap m)->
    (∀t∈Pl io k c a,t.1<Bf->Aq Ye.heap t.2.Vm=Aq cur.heap t.2.Vm)->(∀t∈Pl io k c a,¬t.1<Bf->kF X D w' π H Ye.heap t.2.Vm)->
    oV X D w' π H (Pl io k c a++Lc (k+1) r as) cur st1:=by
   intro Ye o' h1 h2 h3 h4 h5 h6
   obtain ⟨g1,g2,g3,g4⟩:=re h hs hU r (k+1) x.2 as us o' Ye st1 (by omega) (λt ht=>fX t (Bu _ ht)) n2 ht.2 h1 h2 (λt Uf=>by
    rw [h4 _ λt0 ht0=>apart t0 ht0 t Uf];exact eQ t (Bu _ Uf))
   have hd: ∀t∈Pl io k c a,Aq st1.heap t.2.Vm=Aq Ye.heap t.2.Vm:= λt Uf=>g2 _ λt' YH=>(apart t Uf t' YH).symm
   refine ⟨g1.trans h3,λm hm=>?_,λt Uf Js=>?_,λt Uf Js=>?_⟩
   ·rw [g2 m λt ht=>hm t (Bu _ ht),h4 m λt ht=>hm t (Bk _ ht)]
   ·rcases Aw.1 Uf with Uf|Uf
    ·rw [hd t Uf,h5 t Uf Js]
    ·rw [g3 t Uf Js,h4 _ λt0 ht0=>apart t0 ht0 t Uf]
   ·rcases Aw.1 Uf with Uf|Uf
    ·obtain ⟨b0,b',q1,q2,q3⟩:=h6 t Uf Js
     exact ⟨b0,b',q1,(hd t Uf).trans q2,q3⟩
    ·exact g4 t Uf Js
  have same: ∀o',Lk w' D πc (k+1) r o'->Hk r o' as cur=some st1->(∀t∈Pl io k c a,t.1<Bf)->oV X D w' π H (Pl io k c a++Lc (k+1) r as) cur st1:= λo' h1 h2 h3=>rest cur o' h1 h2 rfl (λ_ _=>rfl) (λ_ _ _=>rfl) (λt h4 h5=>absurd (h3 t h4) h5)
  cases io with
  |false=>
   have h3: ∀t∈Pl false k c a,t.1<Bf:= λt h4=>by rcases AO h4 with ⟨h5,_⟩|⟨h5,_⟩<;>(rw [h5];exact dG (by omega))
   cases c with
   |Fp τ=>exact same o ho (by simpa only [Hk] using he) h3
   |row e te=>exact same o ho (by simpa only [Hk] using he) h3
   |Hb e te=>exact same o ho (by simpa only [Hk] using he) h3
   |part e te=>exact same o ho (by simpa only [Hk] using he) h3
   |Bm e te kp=>exact same o ho (by simpa only [Hk] using he) h3
  |true=>
   have row: ∀(ys:c.den) (o':IOs.den r),(∀t∈Pl true k c a,t.1=Ds true k)->ee w' D (πc (Ds true k)) c ys->Lk w' D πc (k+1) r o'->(∃Ye,aP cur c ys a=some Ye/\Hk r o' as Ye=some st1)->oV X D w' π H (Pl true k c a++Lc (k+1) r as) cur st1:=by
    intro ys o' h0 h1 h2 h3
    obtain ⟨Ye,hp,h3⟩:=h3
    ·obtain ⟨q1,q2,q3⟩:=LO (k:=k) h hs (λl i j q b ea hq hb Js hn=>by
      cases c with
      |Fp τ=>exact absurd (ht.1.2:πc _=none) (by subst ea;simp [aP] at hp)
      |row e te=>subst ea;exact hU (Ds true k, .sub l i j) (fX _ (Bk _ (Ad.2 rfl))) q b hq hb Js hn
      |Hb e te=>subst ea;exact hU (Ds true k, .sub l i j) (fX _ (Bk _ (Ad.2 rfl))) q b hq hb Js hn
      |Bm e te kp=>exact absurd ht.1.2.1 (by simp)
      |part e te=>exact absurd ht.1.2.2 (by subst ea;exact λh=>h)) ht.1 h1 hp (λt Uf=>eQ t (Bk _ Uf))
     exact rest Ye o' h2 h3 q1 q2 (λt h4 h5=>absurd h5 (by rw [h0 t h4];exact Zo k)) (λt h4 _=>q3 t h4)
   cases c with
   |Fp τ=>exact same o ho (by simpa only [Hk] using he) (λt h4=>by rw [SV h4];exact dG (by omega))
   |Bm e te kp=>exact absurd ht.1.2.1 (by simp)
   |row e te=>
    simp only [Hk] at he
    split at he
    ·rename_i Ye hp;exact row o.1 o.2 (λt ht=>SW ht) ho.1 ho.2 ⟨Ye,hp,he⟩
    ·cases he
   |Hb e te=>
    simp only [Hk] at he
    split at he
    ·rename_i Ye hp;exact row o.1 o.2 (λt ht=>MO ht) ho.1 ho.2 ⟨Ye,hp,he⟩
    ·cases he
   |part e te=>
    simp only [Hk] at he
    split at he
    ·rename_i Ye hp
     obtain ⟨q1,q2,q3⟩:=LP (k:=k) h ht.1 ho.1 hp (λt Uf=>eQ t (Bk _ Uf))
     exact rest Ye o.2 ho.2 he q1 q2 (λt h4 h5=>absurd h5 (by rw [MN h4];exact Zo k)) (λt h4 _=>q3 t h4)
    ·cases he
theorem DT {fr:Bool} {c:CK} {x:c.den} {u:Value} {r:Option Real} {D:Nat->Prop} (h:cP w' D r u c x):
  (sI fr c x=none/\r=none)\/ ∃b',sI fr c x=some b'/\ ∀(X:Ctx) π' H',(fr=true-> ∀q,r=some q->X.w0.heap.size<=q.g)->(∀b,Ue π' b\/X.Sc b->D b)->Bw X w' π' H' r b':=by
 cases c with
 |Fp τ=>exact .inl ⟨rfl,h.1⟩
 |row e te=>
  refine .inr ⟨_,rfl,λX π' H' yS hD=>?_⟩
  obtain ⟨_,h⟩:=h
  simp only [ee] at h
  simp only [Bw,Jj]
  cases r with
  |none=>exact h
  |some q=>
   obtain ⟨k1,cu,ti,k2,k3,k4,k5,k6⟩:=h
   exact ⟨⟨k1.1,k1.2,λh1=>yS (by simp only [Ag] at h1;exact h1.1) q rfl⟩,cu,ti,k2,k3,k4,k5,λi y hy=>by
    obtain ⟨es,g1,g2,g3⟩:=k6 i y hy
    exact ⟨es,g1,g2,cY hD g3⟩,λh=>by cases h⟩
 |Hb e te=>exact .inr ⟨_,rfl,λX π' H' _ _=>h.2⟩
 |Bm e te kp=>exact .inr ⟨_,rfl,λX π' H' _ hD=>⟨Ym.Io h.2 λb hb=>hD b (hb.imp id λh=>h.elim id λh=>by cases h.1),trivial⟩⟩
 |part e te=>
  refine .inr ⟨_,rfl,λX π' H' yS hD=>?_⟩
  obtain ⟨_,hf,h⟩:=h
  simp only [Bw,Jj]
  cases r with
  |none=>exact h
  |some q=>
   obtain ⟨k1,cu,ti,k2,k3,k4,k5,k6⟩:=h
   exact ⟨⟨k1.1,k1.2,λh1=>yS (by simp only [Ag] at h1;exact h1.1) q rfl⟩,cu,ti,k2,k3,k4,k5,λi y hy=>by
    obtain ⟨es,g1,g2,g3⟩:=k6 i y hy
    exact ⟨es,g1,g2,cY hD g3⟩,λh=>by cases h⟩
theorem nX {D:Nat->Prop} {key:Nat->Nat} (lj: ∀i j,key i=key j->i=j) {fr:Bool} {ρ:Pi} : ∀(cs:List CK) (k:Nat) (x:CKs.den cs) (us:List Value) (H:List (Nat×OB)),Ir w' D ρ k cs x us->
  (∀j,k<=j->j<k+cs.length->Aq H (key j)=none)->
  (∀l,(∀j,k<=j->j<k+cs.length->l≠key j)->Aq (Wk fr key k cs x H) l=Aq H l)/\
  (∀j,k<=j->j<k+cs.length->(Aq (Wk fr key k cs x H) (key j)=none/\ρ (Jm j)=none)\/
   ∃b',Aq (Wk fr key k cs x H) (key j)=some b'/\ ∀(X:Ctx) π' H',(fr=true-> ∀q,ρ (Jm j)=some q->X.w0.heap.size<=q.g)->(∀b,Ue π' b\/X.Sc b->D b)->Bw X w' π' H' (ρ (Jm j)) b')/\
  (∀π',(∀b,Ue π' b\/X.Sc b->D b)->(∀j,k<=j->j<k+cs.length->π' (key j)=ρ (Jm j))->Mi X w' π' (Wk fr key k cs x H) (aw key k cs x) us)
 | [],k,x,[],H,_,_=>⟨λ_ _=>rfl,λj h1 h2=>by simp at h2;omega,λ_ _ _=>trivial⟩
 | [],_,_,_::_,_,h,_=>h.elim
 |_::_,_,_,[],_,h,_=>h.elim
 |c::r,k,x,u::us,H,h,hn=>by
  simp only [Bg] at hn⊢
  simp only [Wk,aw]
  have ua:=hn k (Ar _) (by omega)
  have hH1: ∀l,l≠key k->Aq (z0 H (key k) (sI fr c x.1)) l=Aq H l:=by
   intro l hl
   cases sI fr c x.1 with
   |some b=>exact Oi _ _ _ _ hl
   |none=>rfl
  have Acp:Aq (z0 H (key k) (sI fr c x.1)) (key k)=sI fr c x.1:=by
   cases sI fr c x.1 with
   |some b=>exact Po _ _ _ ua
   |none=>exact ua
  generalize (z0 H (key k) (sI fr c x.1))=H1 at hH1 Acp⊢
  obtain ⟨g1,g2,g3⟩:=nX lj (fr:=fr) r (k+1) x.2 us H1 h.2 (λj h1 h2=>by
   rw [hH1 _ λe=>by have:=lj _ _ e;omega];exact hn j (by omega) (by omega))
  have hkk:Aq (Wk fr key (k+1) r x.2 H1) (key k)=sI fr c x.1:=by
   rw [g1 _ λj h1 h2 e=>by have:=lj _ _ e;omega];exact Acp
  refine ⟨λl hl=>?_,λj h1 h2=>?_,λπ' hd YJ=>⟨?_,?_⟩⟩
  ·rw [g1 l λj h1 h2=>hl j (by omega) (by omega)]
   exact hH1 l (hl k (Ar _) (by omega))
  ·rcases Nat.eq_or_lt_of_le h1 with e|h1
   ·subst e
    rw [hkk]
    exact DT h.1
   ·exact g2 j h1 (by omega)
  ·have h1:=h.1
   have VG:=YJ k (Ar _) (by omega)
   cases c with
   |Fp τ=>
    obtain ⟨fE,c1,c2⟩:=h1.2
    exact ⟨fE,by have:=cY (fr:=true) hd c1;simpa using this,c2⟩
   |row e te=>exact ⟨_,e.size,List.length x.1,hkk,rfl,by simp,by rw [VG];exact h1.1⟩
   |Hb e te=>exact ⟨_,e.size,List.length x.1,hkk,rfl,by simp,by rw [VG];exact h1.1⟩
   |Bm e te kp=>exact ⟨_,1,List.length x.1,hkk,rfl,by simp,by rw [VG];exact h1.1⟩
   |part e te=>trivial
  ·exact g3 π' hd λj h1 h2=>YJ j (by omega) (by omega)
theorem DJ {ks:List Nat} {n:Nat} (h:wv ks n=true):ks.length=n/\ks.Nodup/\ ∀l∈ks,l<Bf:=by
 unfold wv at h
 simp only [Ag] at h
 refine ⟨Jc h.1,Wi h.2.1,λl hl=>?_⟩
 have:=At.1 h.2.2 l hl
 simpa using this
theorem Qj {ks:List Nat} {j:Nat} (h:j<ks.length):Dw ks j=ks[j]:=by
 unfold Dw
 rw [Ac h]
theorem yw {ks:List Nat} (hn:ks.Nodup) (hl: ∀l∈ks,l<Bf): ∀i j,Dw ks i=Dw ks j->i=j:=by
 intro i j h
 by_cases hi:i<ks.length
 ·by_cases hj:j<ks.length
  ·rw [Qj hi,Qj hj] at h
   rcases Nat.lt_trichotomy i j with Js|he|Js
   ·exact absurd h (Eb.1 hn i j hi hj Js)
   ·exact he
   ·exact absurd h.symm (Eb.1 hn j i hj hi Js)
  ·have h1:=hl _ (Ak hi)
   rw [Qj hi] at h
   unfold Dw at h
   rw [Ev (by omega)] at h
   simp only at h
   omega
 ·by_cases hj:j<ks.length
  ·have h1:=hl _ (Ak hj)
   rw [Qj hj] at h
   unfold Dw at h
   rw [Ev (by omega)] at h
   simp only at h
   omega
  ·unfold Dw at h
   rw [Ev (by omega),Ev (by omega)] at h
   simp only at h
   omega
theorem Mt: ∀(H:List (Nat×OB)) (dead:List Nat) (l:Nat),Aq (Vx H dead) l=if l∈dead then none else Aq H l
 | [],dead,l=>by simp [Vx,Aq]
 |(k,b)::r,dead,l=>by
  simp only [Vx]
  have ih:=Mt r dead l
  by_cases hk:k∈dead
  ·rw [Ab (by simpa using hk),ih]
   split
   ·rfl
   ·rename_i hl
    simp only [Aq]
    rw [Al (λ(e:k=l)=>hl (e▸hk))]
  ·rw [Al (by simpa using hk)]
   simp only [Aq]
   split
   ·rename_i e;subst e;rw [Al hk]
   ·exact ih
theorem mem_keys {ks:List Nat} {l:Nat} :l∈ks↔ ∃k,k<ks.length/\l=Dw ks k:=
 ⟨λh=>by obtain ⟨k,hk,e⟩:=Ja h;exact ⟨k,hk,by rw [Qj hk,e]⟩,λ⟨k,hk,e⟩=>by rw [e,Qj hk];exact Ak hk⟩
theorem cB {tks:List (Nat×Loc)} {l:Nat} :l∈kR tks↔ ∃t∈tks,(t.1<Bf/\t.2.reads=false)/\t.2.Vm=l:=by
 unfold kR
 simp only [Bo,Da,Ag,Ml,Dn]
 exact ⟨λ⟨t,⟨h1,h2⟩,h3⟩=>⟨t,h1,h2,h3⟩,λ⟨t,h1,h2,h3⟩=>⟨t,⟨h1,h2⟩,h3⟩⟩
theorem wx {tks:List (Nat×Loc)} (h:(tks.map λt=>t.2.Vm).Nodup) {t t':Nat×Loc} (ht:t∈tks) (YH:t'∈tks) (he:t.2.Vm=t'.2.Vm):t=t':=by
 induction tks with
 |nil=>cases ht
 |cons a r ih=>
  simp only [Bh] at h
  obtain ⟨h1,h2⟩:=Ca.1 h
  rcases Bb.1 ht with rfl|ht<;>rcases Bb.1 YH with rfl|YH
  ·rfl
  ·exact (h1 (Bo.2 ⟨t',YH,he.symm⟩)).elim
  ·exact (h1 (he▸Bo.2 ⟨t,‹t∈r›,rfl⟩)).elim
  ·exact ih h2 ht YH
theorem Ir.full {D:Nat->Prop} {ρ:Pi} : ∀(cs:List CK) (k:Nat) (x:CKs.den cs) (us:List Value),Ir w D ρ k cs x us->Ir w D (λl=>(ρ l).map full) k cs x us
 | [],_,_,[],h=>h
 | [],_,_,_::_,h=>h.elim
 |_::_,_,_,[],h=>h.elim
 |c::r,k,x,u::us,h=>⟨by
   have h1:=h.1
   show cP w D ((ρ (Jm k)).map _) u c x.1
   cases c with
   |Fp τ=>rw [h1.1];exact ⟨rfl,h1.2⟩
   |row e te=>cases hp:ρ (Jm k)<;>(rw [hp] at h1;exact h1)
   |Hb e te=>cases hp:ρ (Jm k)<;>(rw [hp] at h1;exact h1)
   |Bm e te kp=>cases hp:ρ (Jm k)<;>(rw [hp] at h1;exact h1)
   |part e te=>cases hp:ρ (Jm k)<;>(rw [hp] at h1;exact h1),Ir.full r (k+1) x.2 us h.2⟩
theorem Ir.XE {D:Nat->Prop} {ρ:Pi} : ∀(cs:List CK) (k0:Nat) (x:CKs.den cs) (us:List Value),Ir w D ρ k0 cs x us-> ∀j,k0<=j->j<k0+cs.length-> ∀q,ρ (Jm j)=some q->q.Ci q.g
 | [],k0,_,_,_,j,h1,h2,_,_=>by simp at h2;omega
 |_::_,_,_,[],h,_,_,_,_,_=>h.elim
 |c::r,k0,x,u::us,ho,j,h1,h2,q,hq=>by
  rcases Nat.eq_or_lt_of_le h1 with e|h1
  ·subst e
   have:=ho.1
   cases c with
   |Fp τ=>rw [hq] at this;cases this.1
   |row e te=>rw [hq] at this;exact this.2.1.1
   |Hb e te=>rw [hq] at this;exact this.2.1
   |part e te=>rw [hq] at this;exact this.2.2.1.1
   |Bm e te kp=>rw [hq] at this;exact this.2.1
  ·exact Ir.XE r (k0+1) x.2 us ho.2 j h1 (by simp at h2;omega) q hq
theorem Rl.any {D D':Nat->Prop} {r:Option Real} {e:Ty} {xs:List e.den} (hf:e.flat=true) (h:Rl w D r e xs):Rl w D' r e xs:=by
 cases r with
 |none=>exact h
 |some r=>
  obtain ⟨k1,cu,ti,k2,k3,k4,k5,k6⟩:=h
  exact ⟨k1,cu,ti,k2,k3,k4,k5,λi y hy=>by
   obtain ⟨es,g1,g2,g3⟩:=k6 i y hy
   exact ⟨es,g1,g2,Cells.flat e es y hf g3⟩⟩
theorem Ir.any {D D':Nat->Prop} {ρ:Pi} : ∀(cs:List CK) (k:Nat) (x:CKs.den cs) (us:List Value),cs.all (·.flat)=true->Ir w D ρ k cs x us->Ir w D' ρ k cs x us
 | [],_,_,[],_,h=>h
 | [],_,_,_::_,_,h=>h.elim
 |_::_,_,_,[],_,h=>h.elim
 |c::r,k,x,u::us,hf,h=>by
  simp only [Iw,Ag] at hf
  refine ⟨?_,Ir.any r (k+1) x.2 us hf.2 h.2⟩
  have h1:=h.1
  cases c with
  |Fp τ=>exact ⟨h1.1,Df.flat hf.1 h1.2⟩
  |row e te=>exact ⟨h1.1,Rl.any hf.1 h1.2⟩
  |Hb e te=>exact h1
  |part e te=>exact ⟨h1.1,h1.2.1,Rl.any hf.1 h1.2.2⟩
  |Bm e te kp=>exact absurd hf.1 (by simp [CK.flat])
theorem Lk.any {D D':Nat->Prop} {π:Pi} : ∀(cs:List (Bool×CK)) (k:Nat) (x:IOs.den cs),(cs.all λp=>!p.1||p.2.flat)=true->Lk w D π k cs x->Lk w D' π k cs x
 | [],_,_,_,h=>h
 |(false,_)::r,k,x,hf,h=>Lk.any r (k+1) x (by simp only [Iw,Ag] at hf;exact hf.2) h
 |(true, .Fp _)::r,k,x,hf,h=>Lk.any r (k+1) x (by simp only [Iw,Ag] at hf;exact hf.2) h
 |(true, .Bm _ _ _)::r,k,x,hf,h=>Lk.any r (k+1) x (by simp only [Iw,Ag] at hf;exact hf.2) h
 |(true, .row e te)::r,k,x,hf,h=>by
  simp only [Iw,Ag,Bool.not_true,Zx] at hf
  exact ⟨Rl.any hf.1 h.1,Lk.any r (k+1) x.2 hf.2 h.2⟩
 |(true, .Hb e te)::r,k,x,hf,h=>by
  simp only [Iw,Ag,Bool.not_true,Zx] at hf
  exact ⟨h.1,Lk.any r (k+1) x.2 hf.2 h.2⟩
 |(true, .part e te)::r,k,x,hf,h=>by
  simp only [Iw,Ag,Bool.not_true,Zx] at hf
  exact ⟨Rl.any hf.1 h.1,Lk.any r (k+1) x.2 hf.2 h.2⟩
theorem qO {tks:List (Nat×Loc)} {l:Nat} :l∈xK tks↔ ∃t∈tks,t.2.reads=true/\t.2.Vm=l:=by
 unfold xK
 simp only [Bo,Da]
 exact ⟨λ⟨t,⟨h1,h2⟩,h3⟩=>⟨t,h1,h2,h3⟩,λ⟨t,h1,h2,h3⟩=>⟨t,⟨h1,h2⟩,h3⟩⟩
theorem Bd.lI {st:St} {a:Act} (h:Bd X π st a w) {f:AC->AC} (hu:f .undef= .undef) {gv:Nat->Prop} (JR: ∀b,gv b->Ue π b) (hb:Kc w.heap.size gv w w')
  (bI: ∀b,b<w.heap.size->Ue π' b->Ue π b)
  (fX: ∀l r b,π' l=some r->r.Ci b->r.cl b) (Aaf: ∀l r b,π' l=some r->r.cl b->(X.w0.heap.size<=b\/X.gv b)/\b<w'.heap.size)
  (Aa3: ∀l l' r r' b,π' l=some r->π' l'=some r'->r.cl b->r'.cl b->l=l')
  (dg: ∀l,Bf<=l->Aq H' l≠none->Zz (X.fb l) (π' l))
  (hac:(∀fr τ cs x,Cells w (Cp X.w0.heap.size X.Sc π fr) τ cs x->Cells w' (Cp X.w0.heap.size X.Sc π' fr) τ cs x)-> ∀c v,Gx X w π st.heap c v->Gx X w' π' H' (f c) v)
  (CR:Move X w w' π π' st.heap H' f-> ∀l b,Aq H' l=some b->Bw X w' π' H' (π' l) b)
  (HO: ∀l,Aq H' l=none->π' l=none):
  Bd X π' {tmps:=st.tmps.map (·.map f),heap:=H'} a w':=by
 have hc: ∀fr τ cs x,Cells w (Cp X.w0.heap.size X.Sc π fr) τ cs x->Cells w' (Cp X.w0.heap.size X.Sc π' fr) τ cs x:= λfr τ cs x hh=>
  Cells.Gg hb.size (λk hk hn=>hb.block k hk λhg=>hn (.inl (JR k hg))) (λk Js hA=>hA.imp (bI k Js) id) τ cs x hh
 have m:Move X w w' π π' st.heap H' f:=⟨hac hc,hc⟩
 refine ⟨⟨⟨hb.os.trans h.1.below.os,hb.tape.trans h.1.below.tape,hb.output.trans h.1.below.output,Qu h.1.below.size hb.size,λk hk hn=>?_⟩,h.1.sc,fX,Aaf,Aa3,dg,λl=>?_⟩,m.ET hu h.2⟩
 ·refine (hb.block k (Dz hk h.1.below.size) λhg=>?_).trans (h.1.below.block k hk hn)
  rcases (h.1.own (JR k hg)).2 with h1|h1
  ·omega
  ·exact hn h1
 ·cases hh:Aq H' l with
  |none=>exact Fq.Sr (HO l hh) hh
  |some b=>exact Fq.La (CR m l b hh) hh
def ef:Option Real->Option Real->Prop
 |none,none=>True
 |some r,some r'=>r.g=r'.g/\r.o=r'.o/\r.cap=r'.cap
 |_,_=>False
theorem ef.rfl' (r:Option Real):ef r r:=by cases r<;>simp [ef]
theorem ef.some {r:Real} {r':Option Real} (h:ef (some r) r'): ∃q,r'=some q/\r.g=q.g/\r.o=q.o/\r.cap=q.cap:=by
 cases r' with
 |none=>exact h.elim
 |some q=>exact ⟨q,rfl,h⟩
theorem ef.own {r r':Option Real} (h:ef r r') {sz off len:Nat} {v:Value} (hv:He r sz off len v):He r' sz off len v:=by
 cases r<;>cases r'<;>first|exact h.elim|skip
 ·exact hv
 ·obtain ⟨h1,h2,h3⟩:=h
  obtain ⟨ad,g1,g2,g3⟩:=hv
  exact ⟨ad,by rw [<-h3];exact g1,by rw [<-h3];exact g2,by rw [<-h1,<-h2,<-h3];exact g3⟩
structure OB.Rt (b b':OB):Prop where
 row: ∀sz n,b.row=some (sz,n)-> ∃n',b'.row=some (sz,n')/\n<=n'
 eu: ∀p,b.eu=some p->b'.eu=some p
 sw: ∀p,b.sw=some p->b'.sw=some p
 var: ∀tid vs,b= .var tid vs-> ∃Tf vs',b'= .var Tf vs'
 Ub: ∀v m,b= .Ub v m-> ∃m',b'= .Ub v m'
theorem OB.Rt.map (f:AC->AC) (b:OB):b.Rt (b.map f) where
 row:= λsz n h=>⟨n,by cases b<;>exact h,Ar _⟩
 eu:= λp h=>by cases b<;>exact h
 sw:= λp h=>by cases b<;>exact h
 var:= λtid vs h=>by subst h;exact ⟨_,_,rfl⟩
 Ub:= λv m h=>by subst h;exact ⟨_,rfl⟩
theorem OB.Rt.rfl' (b:OB):b.Rt b where
 row:= λ_sz n h=>⟨n,h,Ar _⟩
 eu:= λ_p h=>h
 sw:= λ_p h=>h
 var:= λ_tid _vs h=>⟨_,_,h⟩
 Ub:= λ_v _m h=>⟨_,h⟩
theorem OB.Rt.trans {a b c:OB} (h:a.Rt b) (k:b.Rt c):a.Rt c where
 row:= λsz n hr=>by
  obtain ⟨n1,h1,h2⟩:=h.row sz n hr
  obtain ⟨n2,h3,h4⟩:=k.row sz n1 h1
  exact ⟨n2,h3,by omega⟩
 eu:= λp hp=>k.eu p (h.eu p hp)
 sw:= λp hp=>k.sw p (h.sw p hp)
 var:= λtid vs hv=>by obtain ⟨t',v',h1⟩:=h.var tid vs hv;exact k.var t' v' h1
 Ub:= λv m hm=>by obtain ⟨m',h1⟩:=h.Ub v m hm;exact k.Ub v m' h1
theorem lH {f:AC->AC} {D Pt:Nat->Prop} (hf: ∀c,f c= .undef\/(f c=c/\(∀k∈c.refs,¬D k)/\ ∀k i j,c= .sub k i j\/c= .Ji k i j-> ¬Pt k)) (hp: ∀k,¬D k->ef (π k) (π' k))
  (hH: ∀k b,¬D k->Aq H k=some b-> ∃b',Aq H' k=some b'/\b.Rt b')
  (hg: ∀k r b,¬D k-> ¬Pt k->Aq H k=some b->b.eu≠none->π k=some r->w'.heap[r.g]?=w.heap[r.g]?)
  (hc: ∀fr τ cs x,Cells w (Cp X.w0.heap.size X.Sc π fr) τ cs x->Cells w' (Cp X.w0.heap.size X.Sc π' fr) τ cs x): ∀c v,Gx X w π H c v->Gx X w' π' H' (f c) v:=by
 intro c v h
 rcases hf c with e|⟨e,hr,hs⟩
 ·rw [e];trivial
 rw [e]
 cases c with
 |data fr τ x=>obtain ⟨cs,h1,h2⟩:=h;exact ⟨cs,hc _ _ _ _ h1,h2⟩
 |own k off len=>
  obtain ⟨b,sz,n,h1,h0,h2,h3⟩:=h
  have hk:=hr k (by simp [AC.refs])
  obtain ⟨b',g1,g2⟩:=hH k b hk h1
  obtain ⟨n',g3,g4⟩:=g2.row sz n h0
  exact ⟨b',sz,n',g1,g3,by omega,(hp k hk).own h3⟩
 |Gs k i=>
  obtain ⟨r,tid,vs,h1,h2,h3⟩:=h
  have hk:=hr k (by simp [AC.refs])
  obtain ⟨b',g1,g2⟩:=hH k _ hk h1
  obtain ⟨Tf,vs',rfl⟩:=g2.var tid vs rfl
  obtain ⟨q,q1,q2,_⟩:=(h2▸hp k hk).some
  exact ⟨q,Tf,vs',g1,q1,by rw [<-q2];exact h3⟩
 |Jl k i=>
  obtain ⟨r,b,sz,n,h1,h0,h2,h3,h4⟩:=h
  have hk:=hr k (by simp [AC.refs])
  obtain ⟨b',g1,g2⟩:=hH k b hk h1
  obtain ⟨n',g3,g4⟩:=g2.row sz n h0
  obtain ⟨q,q1,q2,q3,_⟩:=(h3▸hp k hk).some
  exact ⟨q,b',sz,n',g1,g3,by omega,q1,by rw [<-q2,<-q3];exact h4⟩
 |sub k i c=>
  obtain ⟨r,b,sz,n,h1,h0,h2,h3,h4,h5⟩:=h
  have hk:=hr k (by simp [AC.refs])
  obtain ⟨b',g1,g2⟩:=hH k b hk h1
  obtain ⟨q,q1,q2,q3,_⟩:=(h2▸hp k hk).some
  exact ⟨q,b',sz,n,g1,g2.eu _ h0,q1,h3,h4,by rw [<-q2,<-q3,World.cell?_of_block (hg k r b hk (hs k i c (.inl rfl)) h1 (by rw [h0];simp) h2)];exact h5⟩
 |Ji k i c=>
  obtain ⟨r,b,n,sz,g,o,len,cap,h1,h0,h2,h3,h4,h5,h6⟩:=h
  have hk:=hr k (by simp [AC.refs])
  obtain ⟨b',g1,g2⟩:=hH k b hk h1
  obtain ⟨q,q1,q2,q3,_⟩:=(h2▸hp k hk).some
  exact ⟨q,b',n,sz,g,o,len,cap,g1,g2.sw _ h0,q1,h3,h4,by rw [<-q2,<-q3,World.cell?_of_block (hg k r b hk (hs k i c (.inr rfl)) h1 (by cases b<;>first|(cases h0;done)|simp [OB.eu]) h2)];exact h5,h6⟩
 |clo g Dy=>
  obtain ⟨us,h1,h2,h3⟩:=h
  refine ⟨us,h1,h2,λj p hpj=>?_⟩
  obtain ⟨r,tid,vs,h4,h5,h6⟩:=h3 j p hpj
  have hk:=hr p.1 (by simp only [AC.refs,Bo];exact ⟨p,Bx hpj,rfl⟩)
  obtain ⟨b',g1,g2⟩:=hH p.1 _ hk h4
  obtain ⟨Tf,vs',rfl⟩:=g2.var tid vs rfl
  obtain ⟨q,q1,q2,_⟩:=(h5▸hp p.1 hk).some
  exact ⟨q,Tf,vs',g1,q1,by rw [<-q2];exact h6⟩
 |Jw k=>
  obtain ⟨r,vt,m,h1,h2,h3⟩:=h
  have hk:=hr k (by simp [AC.refs])
  obtain ⟨b',g1,g2⟩:=hH k _ hk h1
  obtain ⟨m',rfl⟩:=g2.Ub vt m rfl
  obtain ⟨q,q1,q2,_⟩:=(h2▸hp k hk).some
  exact ⟨q,vt,m',g1,q1,by rw [<-q2];exact h3⟩
 |_=>exact h
theorem Tk (H0:List (Nat×OB)) (ls:List Nat) (n:Nat): ∀(H:List (Nat×OB)) (l:Nat),Aq (bL H0 ls n H) l=(Aq H l).map λb=>if ls.contains l then b.zZ (aq n (Aav (Aq H0 l))) else b
 | [],_=>rfl
 |(k,b)::r,l=>by
  simp only [bL,Aq]
  split
  ·rename_i e;subst e;rfl
  ·exact Tk H0 ls n r l
theorem OB.xd (b:OB) (kp:Option (Nat×Nat)):b.Rt (b.zZ kp):=by
 cases b with
 |Bm e te rows out kp0=>exact ⟨λsz n h=>⟨n,h,Ar _⟩,λp h=>h,λp h=>h,(λ_ _ h=>by cases h),(λ_ _ h=>by cases h)⟩
 |_=>exact OB.Rt.rfl' _
theorem dP (ls:List Nat): ∀(l m:List AV) (t:Nat),l.length=m.length->(∃k i c,l.getD t .undef= .at (.sub k i c)/\ls.contains k=true/\(Lb ls l m).getD t .undef= .at (.sub k i c))\/(Lb ls l m).getD t .undef=m.getD t .undef
 | [],m,t,_=>by cases m<;>exact .inr rfl
 |_::_,[],t,h=>by simp at h
 |a::l,v::m,t,h=>by
  have ih:= λt=>dP ls l m t (by simpa using h)
  have tail: ∀u,Lb ls (a::l) (v::m)=u::Lb ls l m->(t=0->(∃k i c,(a::l).getD t .undef= .at (.sub k i c)/\ls.contains k=true/\u= .at (.sub k i c))\/u=v)->
    (∃k i c,(a::l).getD t .undef= .at (.sub k i c)/\ls.contains k=true/\(Lb ls (a::l) (v::m)).getD t .undef= .at (.sub k i c))\/(Lb ls (a::l) (v::m)).getD t .undef=(v::m).getD t .undef:=by
   intro u e h0
   rw [e]
   rcases t with _|t
   ·rcases h0 rfl with ⟨k,i,c,h1,h2,h3⟩|h3
    ·exact .inl ⟨k,i,c,h1,h2,by simpa using h3⟩
    ·exact .inr (by simpa using h3)
   ·simpa only [Mp] using ih t
  cases a with
  | «at»c=>
   cases c with
   |sub k i c=>
    refine tail _ rfl λht=>?_
    subst ht
    by_cases hc:ls.contains k=true
    ·exact .inl ⟨k,i,c,rfl,hc,by rw [Ab hc]⟩
    ·exact .inr (by rw [Al hc])
   |_=>exact tail _ rfl λ_=> .inr rfl
  |_=>exact tail _ rfl λ_=> .inr rfl
theorem rX {H:List (Nat×OB)} {ls:List Nat} {n:Nat} : ∀ {l:List AV} {t k i c:Nat},bT H ls n l=true->l.getD t .undef= .at (.sub k i c)->ls.contains k=true->i<n/\i<p8 H k
 | [],t,k,i,c,_,h,_=>by simp at h
 |a::l,0,k,i,c,ho,h,hc=>by
  simp only [eb] at h
  subst h
  simp only [bT,hc,Bool.not_true,Zx,Ag,Ml] at ho
  exact ho.1
 |a::l,t+1,k,i,c,ho,h,hc=>by
  refine rX (l:=l) (t:=t) (c:=c) ?_ (by simpa only [Mp] using h) hc
  cases a with
  | «at»d=>cases d with
   |sub _ _ _=>simp only [bT,Ag] at ho;exact ho.2
   |_=>exact ho
  |_=>exact ho
theorem DG {aM st:St} {a:Act} (h0:Bd X π aM a w) (h:Bd X π' st a w') {ls:List Nat} {n:Nat} (hk: ∀l∈ls,yc w w' (π l) (π' l) n) (qp: ∀l∈ls,ll aM.heap l=true)
  (df:bT st.heap ls n aM.tmps=true):Bd X π' (jZ aM st ls n) a w'/\ ∀c v,Bi X w' π' st.heap c v->Bi X w' π' (jZ aM st ls n).heap c v:=by
 by_cases xZ:ls= []
 ·subst xZ;exact ⟨h,λ_ _ h=>h⟩
 have Yo:jZ aM st ls n= {tmps:=Lb ls aM.tmps st.tmps,heap:=bL aM.heap ls n st.heap} :=by
  cases ls with
  |nil=>exact absurd rfl xZ
  |cons _ _=>rfl
 rw [Yo]
 have hg0: ∀l∈ls,∃e te rows out kp,Aq aM.heap l=some (.Bm e te rows out kp):= λl hl=>by
  have:=qp l hl
  unfold ll at this
  split at this
  ·exact ⟨_,_,_,_,_,by assumption⟩
  ·cases this
 have srv: ∀k b,Aq st.heap k=some b-> ∃b',Aq (bL aM.heap ls n st.heap) k=some b'/\b.Rt b':= λk b hb=>by
  rw [Tk,hb]
  refine ⟨_,rfl,?_⟩
  dsimp only
  split
  ·exact OB.xd b _
  ·exact OB.Rt.rfl' b
 have hac:(∀fr τ cs x,Cells w' (Cp X.w0.heap.size X.Sc π' fr) τ cs x->Cells w' (Cp X.w0.heap.size X.Sc π' fr) τ cs x)-> ∀c v,Gx X w' π' st.heap c v->Gx X w' π' (bL aM.heap ls n st.heap) c v:= λhc=>
  lH (f:= λc=>c) (D:= λ_=>False) (Pt:= λ_=>False) (λc=> .inr ⟨rfl,λ_ _ h=>h,λ_ _ _ _ h=>h⟩) (λk _=>ef.rfl' _) (λk b _ hb=>srv k b hb) (λ_ _ _ _ _ _ _ _=>rfl) hc
 have h1:Bd X π' {tmps:=st.tmps.map (·.map λc=>c),heap:=bL aM.heap ls n st.heap} a w':=by
  refine h.lI rfl (gv:= λ_=>False) (λ_ hf=>hf.elim) (Kc.refl _ _ _) (λ_ _ ho=>ho) h.1.sub h.1.place h.1.inj (λl hl Jg=>h.1.fb l hl λh2=>Jg (by rw [Tk,h2];rfl)) hac (λm l b hb=>?_) (λl hl=>?_)
  ·rw [Tk] at hb
   cases h2:Aq st.heap l with
   |none=>rw [h2] at hb;cases hb
   |some b0=>
    rw [h2] at hb
    simp only [Ai,Aa] at hb
    have hbk:=(h.1.heap l).Qi h2
    have BM:=hbk.move m (Ar _) (λr0 c h0 h1=>h.1.sub _ r0 c h0 h1) λ_ _ _ _ _=>rfl
    rw [show OB.map (λc=>c) b0=b0 from OB.zn b0] at BM
    split at hb
    ·rename_i hc
     have hl:l∈ls:=by simpa using hc
     cases b0 with
     |Bm e te rows out kp=>
      simp only [OB.zZ] at hb
      subst hb
      refine ⟨BM.1,?_⟩
      obtain ⟨e0,te0,YP,Akb,kp0,hg⟩:=hg0 l hl
      have ua:=((h0.1.heap l).Qi hg).2
      rw [hg]
      simp only [Aav]
      have sy:=hk l hl
      cases kp0 with
      |none=>trivial
      |some p=>
       obtain ⟨l0,n0⟩:=p
       simp only [KeptAt,aq] at ua⊢
       cases w9:X.fb l0 with
       |none=>
        cases hp:π l with
        |none=>
         rw [hp] at sy
         cases HQ:π' l with
         |none=>trivial
         |some q=>rw [HQ] at sy;exact sy.elim
        |some q=>rw [w9,hp] at ua;exact ua.elim
       |some r0=>
        cases hp:π l with
        |none=>rw [w9,hp] at ua;exact ua.elim
        |some q=>
         rw [w9,hp] at ua
         rw [hp] at sy
         cases HQ:π' l with
         |none=>rw [HQ] at sy;exact sy.elim
         |some q'=>
          rw [HQ] at sy
          obtain ⟨k1,k2,k3,k4⟩:=sy
          obtain ⟨g1,g2,g3,g4⟩:=ua
          refine ⟨k1.trans g1,k2.trans g2,k3.trans g3,λj hj hc=>?_⟩
          have e1:=g4 j (by omega) hc
          have e2:=k4 j (by omega) (by omega)
          rw [g1,g2] at e2
          rw [<-e1,e2]
     |_=>simp only [OB.zZ] at hb;subst hb;exact BM
    ·subst hb;exact BM
  ·rw [Tk] at hl
   cases h2:Aq st.heap l with
   |none=>exact (h.1.heap l).emp h2
   |some b=>rw [h2] at hl;cases hl
 have OY: ∀c v,Bi X w' π' st.heap c v->Bi X w' π' (bL aM.heap ls n st.heap) c v:= λc v hv=>by
  have m:Move X w' w' π' π' st.heap (bL aM.heap ls n st.heap) (λc=>c):=⟨hac λ_ _ _ _ h=>h,λ_ _ _ _ h=>h⟩
  have:=m.av hv
  rwa [AC.map_id] at this
 refine ⟨⟨h1.1,⟨?_,h.2.defers,λt=>?_⟩⟩,OY⟩
 ·have: ∀(l m:List AV),(Lb ls l m).length=m.length:=by
   intro l
   induction l with
   |nil=>intro m;cases m<;>rfl
   |cons a l ih=>
    intro m
    cases m with
    |nil=>cases a with
     | «at»c=>cases c<;>rfl
     |_=>rfl
    |cons v m=>cases a with
     | «at»c=>cases c<;>simp only [Lb,Bg,ih m]
     |_=>simp only [Lb,Bg,ih m]
  show a.tmps.size=(Lb ls aM.tmps st.tmps).length
  rw [this];exact h.2.size
 ·show Bi X w' π' _ ((Lb ls aM.tmps st.tmps).getD t .undef) _
  rcases dP ls aM.tmps st.tmps t (by rw [<-h0.2.size,<-h.2.size]) with ⟨k,i,c,g1,g2,g3⟩|g
  ·rw [g3]
   have Ra:k∈ls:=by simpa using g2
   obtain ⟨i1,i2⟩:=rX df g1 g2
   have hv:=h0.2.tmps t
   rw [show aM.get t=_ from g1] at hv
   obtain ⟨r,b,sz,n',e1,e2,e3,e4,⟨e5,e6⟩,e7⟩:=hv
   obtain ⟨e0,te0,YP,Akb,kp0,hg⟩:=hg0 k Ra
   rw [hg] at e1;cases e1
   simp only [OB.eu,Aa,Ae] at e2
   obtain ⟨rfl,rfl⟩:=e2
   have sy:=hk k Ra
   rw [e3] at sy
   cases HQ:π' k with
   |none=>rw [HQ] at sy;exact sy.elim
   |some q'=>
    rw [HQ] at sy
    obtain ⟨k1,k2,k3,k4⟩:=sy
    have qn:YP.length<=r.cap:=by
     have:=((h0.1.heap k).Qi hg).1
     rw [e3] at this
     obtain ⟨_,_,_,_,_,_,h5,_⟩:=this
     exact h5
    unfold p8 at i2
    split at i2
    ·rename_i e9 te9 Af6 Aq3 kp9 hg9
     refine ⟨q',_,1,Af6.length,by rw [Tk,hg9];rfl,?_,HQ,i2,⟨e5,e6⟩,?_⟩
     ·dsimp only
      split<;>rfl
     ·have kD:c=0:=by omega
      subst kD
      rw [k1,k2]
      rw [Ex,Ef] at e7⊢
      rw [k4 i i1 (by omega)];exact e7
    ·omega
  ·rw [g]
   exact OY _ _ (h.2.tmps t)
theorem mV {ins:List (Bool×CK)} {as:List AC} {pl:List Nat} {st:St} :(oJ ins as pl st).tmps=st.tmps:=by
 unfold oJ
 split
 ·rfl
 ·split<;>rfl
theorem FD {ins:List (Bool×CK)} {as:List AC} {pl:List Nat} {st:St} {m:Nat} (hm:m∉pl):Aq (oJ ins as pl st).heap m=Aq st.heap m:=by
 unfold oJ
 split
 ·rfl
 ·rename_i l r
  split
  ·exact Dt _ _ _ _ λe=>hm (e▸Lf)
  ·rfl
theorem LW {ins:List (Bool×CK)} {as:List AC} {l:Nat} {st:St} {tid:TypeId} {vs:List AC} (hl:Aq st.heap l=some (.var tid vs)):Aq (oJ ins as [l] st).heap l=some (.var tid (eE ins vs as)):=by
 simp only [oJ,St.at,hl]
 exact El _ _ _ _ hl
theorem uM {α:Type} (ins:List (Bool×CK)) (as:List α):eE ins [] as= []:=by
 rcases ins with _|⟨⟨_|_,c⟩,r⟩<;>rfl
theorem mR {α:Type} : ∀(ins:List (Bool×CK)) (vs as:List α),(eE ins vs as).length=vs.length
 | [],vs,as=>by rw [eE];all_goals simp
 |p::r,[],as=>by rw [uM]
 |(true,c)::r,v::vs,as=>by simp only [eE,Bg,mR r vs as]
 |(false,c)::r,v::vs,[]=>by rw [eE];all_goals simp
 |(false,c)::r,v::vs,a::as=>by simp only [eE,Bg,mR r vs as]
theorem LM {st:St} {a:Act} (h:Bd X π st a w) {s:MSpec} {kK:List AV} {vs:List Value} (hlen:kK.length=vs.length) (OY: ∀(i:Nat) c v,kK[i]?=some c->vs[i]?=some v->Bi X w π st.heap c v)
  {pl:List Nat} {cells:List AC} {rest:List AV} (he:II st s kK=some (pl,cells,rest)):
  ∃(g:Nat) (XC vg:List Value),rest.length=vg.length/\(∀(i:Nat) c v,rest[i]?=some c->vg[i]?=some v->Bi X w π st.heap c v)/\Mi X w π st.heap cells XC/\
   ((s.ptr=none/\pl= []/\cells= []/\XC= []/\vs=vg)\/
    ∃p l q,s.ptr=some p/\pl= [l]/\π l=some q/\q.Ci q.g/\g=q.g/\Aq st.heap l=some (.var p.1 cells)/\cells.length=p.2/\vs= .pointer (some ⟨g,0,none⟩)::vg/\w.heap[g]?=some (.cells XC.toArray p.1 (0,0))/\Fh X w π st.heap cells XC):=by
 unfold II at he
 split at he
 ·rename_i hp
  simp only [Aa,Ae] at he
  obtain ⟨rfl,rfl,rfl⟩:=he
  exact ⟨0,[],vs,hlen,OY,trivial, .inl ⟨hp,rfl,rfl,rfl,rfl⟩⟩
 ·rename_i p hp
  split at he
  ·rename_i l i Amg
   split at he
   ·rename_i tid cs hl
    split at he
    ·rename_i hc
     obtain ⟨rfl,hc,rfl⟩:=hc
     simp only [Aa,Ae] at he
     obtain ⟨rfl,rfl,rfl⟩:=he
     unfold St.at at hl
     cases vs with
     |nil=>simp at hlen
     |cons v vs=>
      obtain ⟨r,Tf,vs',h1,h2,rfl⟩:=OY 0 _ v rfl rfl
      rw [hl] at h1;cases h1
      obtain ⟨r',h3,h4,cur,h5,h6⟩:=(h.1.heap l).Qi hl
      rw [h2] at h3;cases h3
      exact ⟨r.g,cur.toList,vs,by simpa using hlen,λi c v h7 h8=>OY (i+1) c v (by simpa using h7) (by simpa using h8),Mi.of h6, .inr ⟨p,l,r,hp,rfl,h2,h4,rfl,hl,hc,rfl,by simpa using h5,h6⟩⟩
    ·cases he
   ·cases he
  ·cases he
theorem iA {V:List Nat} {πc:Pi} {dead part:List Nat} (YJ: ∀l,l∉dead->π' l=π l) (bJ: ∀l b sz n,l∉dead->Aq H l=some b->b.row=some (sz,n)-> ∃b',Aq H' l=some b'/\b'.row=some (sz,n)):
  ∀(ins:List (Bool×CK)) (k:Nat) (cells m4:List AC) (x:Ins.den ins) (us:List Value) (o:IOs.den ins) (cur st1:St) (news:List AC) (Vl cs:List Value),oh X w π V H πc k ins x (cells++m4) us->Ur ins cells=true->
   Hk ins o (cells++m4) cur=some st1->Eh πc k ins o cells.length cs Vl->Mi X w' π' H' news Vl->Mi X w' π' H' (eE ins (cells.map (Ce dead part)) news) cs
 |ins,k,[],m4,x,us,o,cur,st1,news,Vl,cs,_,_,_,hb,_=>by
  have hb:cs= []:=by rcases ins with _|⟨⟨_|_,c⟩,r⟩<;>(try cases c)<;>simpa [Eh] using hb
  rw [hb,List.map_nil,uM]
  trivial
 | [],k,a::cells,m4,x,us,o,cur,st1,news,Vl,cs,_,hk,_,_,_=>by simp [Ur] at hk
 |(true, .Fp τ)::r,k,a::cells,m4,x,us,o,cur,st1,news,Vl,cs,_,hk,_,_,_=>by simp [Ur] at hk
 |(true, .part e te)::r,k,a::cells,m4,x,us,o,cur,st1,news,Vl,cs,_,hk,_,_,_=>by simp [Ur] at hk
 |(true, .Bm e te _)::r,k,a::cells,m4,x,us,o,cur,st1,news,Vl,cs,_,hk,_,_,_=>by simp [Ur] at hk
 |(true, .row e te)::r,k,a::cells,m4,x,us,o,cur,st1,news,Vl,cs,ht,hk,hp,hb,hn=>by
  cases a<;>simp only [Ur,Cy] at hk
  rename_i l off len
  cases us with
  |nil=>exact ht.elim
  |cons u0 us=>
  cases cs with
  |nil=>exact hb.elim
  |cons u cs=>
  obtain ⟨⟨_,h1⟩,h2⟩:=ht
  simp only [Sb] at h1
  obtain ⟨h3,rfl,rfl,fr,tr,h4⟩:=h1
  obtain ⟨h5,h6⟩:=hb
  simp only [Rj,Hk] at hp
  split at hp
  rotate_left
  ·cases hp
  rename_i Ye hpc
  have CU:List.length o.1=List.length x.1:=by
   simp only [aP] at hpc
   repeat' split at hpc
   all_goals first|(cases hpc;done)|(rename_i hc;exact hc.2.1)
  refine ⟨?_,iA YJ bJ r (k+1) cells m4 x.2 us o.2 Ye st1 news Vl cs h2 hk hp h6 hn⟩
  by_cases hd:l∈dead
  ·have:Ce dead part (.own l 0 (List.length x.1))= .undef:=by
    unfold Ce
    rw [Ab (by simp [AC.refs,hd])]
   rw [this];trivial
  ·rw [aZ (by simpa [AC.refs] using hd) (by intro l i j e;rcases e with e|e<;>cases e)]
   obtain ⟨b',g1,g2⟩:=bJ l _ e.size (List.length x.1) hd h4 rfl
   refine ⟨b',e.size,List.length x.1,g1,g2,by omega,?_⟩
   rw [YJ l hd]
   rw [h3,CU] at h5
   cases hp:π l<;>(rw [hp] at h5;exact h5)
 |(true, .Hb e te)::r,k,a::cells,m4,x,us,o,cur,st1,news,Vl,cs,ht,hk,hp,hb,hn=>by
  cases a<;>simp only [Ur,Cy] at hk
  rename_i l off len
  cases us with
  |nil=>exact ht.elim
  |cons u0 us=>
  cases cs with
  |nil=>exact hb.elim
  |cons u cs=>
  obtain ⟨⟨_,h1⟩,h2⟩:=ht
  simp only [Sb] at h1
  obtain ⟨h3,rfl,rfl,h4⟩:=h1
  obtain ⟨h5,h6⟩:=hb
  simp only [Rj,Hk] at hp
  split at hp
  rotate_left
  ·cases hp
  rename_i Ye hpc
  have CU:List.length o.1=List.length x.1:=by
   simp only [aP] at hpc
   repeat' split at hpc
   all_goals first|(cases hpc;done)|(rename_i hc;exact hc.2.1)
  refine ⟨?_,iA YJ bJ r (k+1) cells m4 x.2 us o.2 Ye st1 news Vl cs h2 hk hp h6 hn⟩
  by_cases hd:l∈dead
  ·have:Ce dead part (.own l 0 (List.length x.1))= .undef:=by
    unfold Ce
    rw [Ab (by simp [AC.refs,hd])]
   rw [this];trivial
  ·rw [aZ (by simpa [AC.refs] using hd) (by intro l i j e;rcases e with e|e<;>cases e)]
   obtain ⟨b',g1,g2⟩:=bJ l _ e.size (List.length x.1) hd h4 rfl
   refine ⟨b',e.size,List.length x.1,g1,g2,by omega,?_⟩
   rw [YJ l hd]
   rw [h3,CU] at h5
   cases hp:π l<;>(rw [hp] at h5;exact h5)
 |(false,c)::r,k,a::cells,m4,x,[],o,cur,st1,news,Vl,cs,ht,hk,hp,hb,hn=>ht.elim
 |(false,c)::r,k,a::cells,m4,x,u0::us,o,cur,st1,news,Vl,[],ht,hk,hp,hb,hn=>by cases c<;>exact hb.elim
 |(false,c)::r,k,a::cells,m4,x,u0::us,o,cur,st1,news,[],u::cs,ht,hk,hp,hb,hn=>by cases c<;>exact hb.elim
 |(false,c)::r,k,a::cells,m4,x,u0::us,o,cur,st1,[],u'::Vl,u::cs,ht,hk,hp,hb,hn=>hn.elim
 |(false,c)::r,k,a::cells,m4,x,u0::us,o,cur,st1,na::news,u'::Vl,u::cs,ht,hk,hp,hb,hn=>by
  have hb2:u=u'/\Eh πc (k+1) r o cells.length cs Vl:=by cases c<;>exact hb
  obtain ⟨rfl,hb3⟩:=hb2
  have hp:Hk r o (cells++m4) cur=some st1:=by cases c<;>simpa only [Rj,Hk] using hp
  have hk:Ur r cells=true:=by cases c<;>simpa only [Ur] using hk
  exact ⟨hn.1,iA YJ bJ r (k+1) cells m4 x.2 us o cur st1 news Vl cs ht.2 hk hp hb3 hn.2⟩
theorem AP {V:List Nat} {πc:Pi} : ∀(cs:List (Bool×CK)) (k0:Nat) (x:Ins.den cs) (as:List AC) (us:List Value),k0+cs.length<100000->oh X w π V H πc k0 cs x as us-> ∀k l,(Ds false k,Loc.row l)∈Lc k0 cs as->πc (Ds false k)=(π l).map full
 | [],_,_,[],_,_,_,_,_,h=>by cases h
 | [],_,_,_::_,_,_,_,_,_,h=>by cases h
 |_::_,_,_,[],_,_,_,_,_,h=>by cases h
 |_::_,_,_,_::_,[],_,h,_,_,_=>h.elim
 |(io,c)::r,k0,x,a::as,u::us,hk,h,k,l,ht=>by
  simp only [Bg] at hk
  simp only [Lc] at ht
  rcases Aw.1 ht with ht|ht
  ·obtain ⟨⟨_,h1⟩,_⟩:=h
   cases c with
   |Fp τ=>cases a<;>simp [Pl,views] at ht
   |row e te=>
    cases a<;>simp [Pl] at ht
    obtain ⟨e1,rfl⟩:=ht
    simp only [Sb] at h1
    rw [e1];exact h1.1
   |Hb e te=>
    cases a<;>simp [Pl] at ht
    obtain ⟨e1,rfl⟩:=ht
    simp only [Sb] at h1
    rw [e1];exact h1.1
   |part e te=>
    cases a<;>simp [Pl] at ht
    obtain ⟨e1,rfl⟩:=ht
    simp only [Sb] at h1
    rw [e1];exact h1.2.1
   |Bm e te kp=>
    cases a<;>simp [Pl] at ht
    obtain ⟨e1,rfl⟩:=ht
    simp only [Sb] at h1
    rw [e1];exact h1.2.1
  ·exact AP r (k0+1) x.2 as us (by omega) h.2 k l ht
theorem oq {st:St} {a:Act} (h:Bd X π st a w) {f:FuncId} {s:MSpec} (hs:Dx P f s) (dst:Option Nat) (kK:List AV) (vs:List Value) (hlen:kK.length=vs.length)
  (OY: ∀(i:Nat) c v,kK[i]?=some c->vs[i]?=some v->Bi X w π st.heap c v) (av:AV) (st':St) (he:Wa st dst s kK=some (av,st')):
  Calls P f vs.toArray w λe w'=> ∃v,e= .returned v/\ ∃π',Bd X π' st' a w'/\Bi X w' π' st'.heap av v:=by
 unfold Wa at he
 split at he
 ·cases he
 rename_i pl cells rest Ajd
 split at he
 ·cases he
 rename_i m4 m5
 split at he
 ·cases he
 rename_i x tks htk
 split at he
 rotate_left
 ·cases he
 rename_i Jd
 simp only [Ag,Ml] at Jd
 obtain ⟨⟨⟨⟨sl,xY⟩,hon⟩,aL⟩,Adb,JW⟩:=Jd
 have JW: ∀l∈pl,l∉(tks.map λt=>t.2.Vm)/\l∉Qx s tks (dst.getD 0):= λl hl=>by
  have:=At.1 JW l hl
  simp only [Dn,<-Ht,Jb] at this
  exact ⟨λhm=>this (Bk _ hm),λhm=>this (Bu _ hm)⟩
 split at he
 ·cases he
 rename_i r o hfn
 split at he
 ·cases he
 rename_i st1 PS
 obtain ⟨g,XC,vg,PJ,Ai8,Aji,hpt⟩:=LM h hlen OY Ajd
 obtain ⟨tv,rfl,oF,Ajh⟩:=Yb s.Jn rest vg m4 PJ Ai8 m5
 have hrc:=Aji.append Ajh
 have Qd:m6 s w g (XC++tv) vs:=by
  unfold m6
  rcases hpt with ⟨h1,_,_,h2,h3⟩|⟨p,l,q,h1,_,_,_,_,_,h2,h3,h4,h5⟩
  ·rw [h1];subst h2;exact ⟨h3,oF⟩
  ·rw [h1]
   have hl:XC.length=p.2:=h5.1.trans h2
   simp only
   rw [List.drop_append_of_le_length (by omega),List.take_append_of_le_length (by omega),List.take_of_length_le (by omega),List.drop_of_length_le (by omega)]
   refine ⟨h3,oF,by simp;omega,h4,λu hu=>?_⟩
   obtain ⟨i,hi,rfl⟩:=Az.1 hu
   obtain ⟨u',h6,h7,_⟩:=h5.2 i (cells[i]'(by have:=h5.1;omega)) (Ac _)
   rw [Ac hi] at h6
   rw [Ba h6];exact h7
 have JX: ∀l∈pl,∃p q,s.ptr=some p/\pl= [l]/\π l=some q/\q.Ci q.g/\g=q.g/\Aq st.heap l=some (.var p.1 cells)/\cells.length=p.2:= λl hl=>by
  rcases hpt with ⟨_,h1,_⟩|⟨p,l',q,h1,h2,h3,h4,h5,h6,h7,_⟩
  ·rw [h1] at hl;cases hl
  ·rw [h2] at hl
   have:=Ad.1 hl
   subst this
   exact ⟨p,q,h1,h2,h3,h4,h5,h6,h7⟩
 have JR: ∀b,s.gv g b-> ∃l∈pl,∃q,π l=some q/\q.Ci b/\b=q.g:= λb ⟨h1,h2⟩=>by
  rcases hpt with ⟨h3,_⟩|⟨p,l',q,_,h4,h5,h6,h7,_⟩
  ·rw [h3] at h1;cases h1
  ·exact ⟨l',by rw [h4];exact Ad.2 rfl,q,h5,by rw [h2,h7];exact h6,h2.trans h7⟩
 obtain ⟨as,has⟩: ∃as,as=cells++m4:=⟨_,rfl⟩
 obtain ⟨us,PX⟩: ∃us,us=XC++tv:=⟨_,rfl⟩
 rw [<-has] at hrc htk PS
 rw [<-PX] at hrc Qd
 let V:=(tks.filter λt=>t.2.reads).map λt=>t.2.Vm
 have hV: ∀t∈tks,t.2.reads=true->t.2.Vm∈V:= λt ht hr=>Bo.2 ⟨t,Da.2 ⟨ht,hr⟩,rfl⟩
 have hV': ∀l∈V,∃t∈tks,t.2.reads=true/\t.2.Vm=l:= λl hl=>by
  obtain ⟨t,h1,h2⟩:=Bo.1 hl
  exact ⟨t,(Da.1 h1).1,(Da.1 h1).2,h2⟩
 clear_value V
 obtain ⟨TX,πc,hT,PA,Ait,Uq⟩:=s6 h.1 (V:=V) s.ins 0 as us x tks (by omega) hrc htk hV
 have CV:=Wi sl
 rw [TX] at CV
 have bI: ∀b,Ue πc b-> ∃t∈Lc 0 s.ins as,t.2.reads=false/\ ∃q,π t.2.Vm=some q/\q.Ci b/\ ∀l i j,t.2= .sub l i j->b≠q.g:= λb ⟨c,q,h1,h2⟩=>by
  obtain ⟨t,t1,_,t3⟩:=Uq c q b h1 h2
  exact ⟨t,t1,t3⟩
 have CZ: ∀b,Ue πc b->Ue π b:= λb hb=>let ⟨t,_,_,q,h1,h2,_⟩:=bI b hb;⟨_,q,h1,h2⟩
 have dh:fh πc (λb=>b<w.heap.size):=⟨λl q b h1 h2=>(h.1.own (CZ b ⟨l,q,h1,h2⟩)).1,λl l' q q' b h1 h2 h3 h4=>by
  obtain ⟨t,t1,t2,_,p,t3,t4,_⟩:=Uq l q b h1 h3
  obtain ⟨t',t1',t2',_,p',t3',t4',_⟩:=Uq l' q' b h2 h4
  have:=wx CV t1 t1' (h.1.apart t3 t3' t4 t4')
  rw [<-t2,<-t2',this]⟩
 have Acr: ∀k l,(Ds false k,Loc.row l)∈Lc 0 s.ins as->πc (Ds false k)=(π l).map full:= λk l ht=>
  AP s.ins 0 x as us (by omega) hT k l ht
 have Aea: ∀b,Ue πc b->Nn X π V b:= λb hb=> .inl ⟨CZ b hb,λl hl r' hr hf=>by
  obtain ⟨t,t1,t0,q,t3,t4,_⟩:=bI b hb
  obtain ⟨t',t1',t2',rfl⟩:=hV' l hl
  rw [TX] at t1'
  have:=wx CV t1 t1' (h.1.apart t3 hr t4 hf)
  subst this
  rw [t0] at t2';cases t2'⟩
 let S:Nat->Prop:= λb=> ¬Ue πc b/\Nn X π V b
 have hS: ∀b,S b->b<w.heap.size/\ ¬Ue πc b:= λb hb=>⟨by
  rcases hb.2 with h1|h1
  ·exact (h.1.own h1.1).1
  ·exact Dz (h.1.sc b h1).1 h.1.below.size,hb.1⟩
 have VH: ∀l∈pl,∀t∈Lc 0 s.ins as,t.2.Vm≠l:= λl hl t ht e=>(JW l hl).1 (Bo.2 ⟨t,TX▸ht,e⟩)
 have hSg:s.ptr.isSome=true->S g:= λhps=>by
  obtain ⟨l,hl,q,h1,h2,h3⟩:=JR g ⟨hps,rfl⟩
  have XZ: ¬Ue πc g:= λhb=>by
   obtain ⟨t,t1,_,q',t3,t4,_⟩:=bI g hb
   exact VH l hl t t1 (h.1.apart t3 h1 t4 h2)
  refine ⟨XZ, .inl ⟨⟨l,q,h1,h2⟩,λl' Ns r' iK hf=>?_⟩⟩
  obtain ⟨t',t1',_,rfl⟩:=hV' l' Ns
  rw [TX] at t1'
  exact VH l hl t' t1' (h.1.apart iK h1 hf h2)
 refine (hs.calls w S πc us x r o g vs Qd hSg (cQ.Io (λb hb=>hb.elim (Aea b) λh=>h.2) s.ins 0 x us (hT.Aei s.ins 0 x as us)) dh hS Ait hfn).mono ?_
 rintro e w' ⟨v,Vl,ya,rfl,di,eo,UW,w5,Adp,PQ,Aas,ub⟩
 obtain ⟨ρ,VN,CY,PN,XP⟩: ∃ρ:Pi,(∀l,ρ l=(ya l).map full)/\Ir w' (iH S πc ya) ρ 0 s.outs r Vl/\fh ρ (λb=>b<w'.heap.size/\(w.heap.size<=b\/ ∃l q,l<Bf/\πc l=some q/\q.Ci b))/\ ∀l q,ρ l=some q->q.cl=q.Ci:=by
  have un: ∀l q,(ya l).map full=some q-> ∃q0,ya l=some q0/\q=full q0:= λl q hq=>by
   cases hp:ya l with
   |none=>rw [hp] at hq;cases hq
   |some q0=>rw [hp] at hq;exact ⟨q0,rfl,(Ba hq).symm⟩
  refine ⟨λl=>(ya l).map full,λ_=>rfl,Ir.full s.outs 0 r Vl Adp,⟨λl q b h1 h2=>?_,λl l' q q' b h1 h2 h3 h4=>?_⟩,λl q h1=>?_⟩
  ·obtain ⟨q0,h5,rfl⟩:=un l q h1
   exact PQ.Yc l q0 b h5 h2
  ·obtain ⟨q0,h5,rfl⟩:=un l q h1
   obtain ⟨q0',h6,rfl⟩:=un l' q' h2
   exact PQ.inj l l' q0 q0' b h5 h6 h3 h4
  ·obtain ⟨q0,_,rfl⟩:=un l q h1
   rfl
 refine ⟨v,rfl,?_⟩
 split at he
 ·cases he
 rename_i av0 eS
 split at he
 rotate_left
 ·cases he
 rename_i fX
 simp only [Aa,Ae] at he
 obtain ⟨rfl,rfl⟩:=he
 let D1:Nat->Prop:=if s.flat then λ_=>True else iH S πc ya
 have Aiv:Lk w' D1 πc 0 s.ins o:=by
  show Lk w' (if s.flat then λ_=>True else iH S πc ya) πc 0 s.ins o
  split
  ·rename_i hf
   unfold MSpec.flat at hf
   simp only [Ag] at hf
   exact Lk.any s.ins 0 o hf.2 w5
  ·exact w5
 have Adq:Ir w' D1 ρ 0 s.outs r Vl:=by
  show Ir w' (if s.flat then λ_=>True else iH S πc ya) ρ 0 s.outs r Vl
  split
  ·rename_i hf
   unfold MSpec.flat at hf
   simp only [Ag] at hf
   exact Ir.any s.outs 0 r Vl hf.1 CY
  ·exact CY
 obtain ⟨q1,q2,q3,q4⟩:=re (D:=D1) (X:=X) (π:=π) (H:=st.heap) h.1 UW.size (tks:=Lc 0 s.ins as) (πc:=πc) (λt ht q b hq hb Js hn=>UW.block b Js λCX=>by
   rcases CX with ⟨c,r',h1,h2⟩|hg
   rotate_left
   ·obtain ⟨l,hl,q',h1,h2,_⟩:=JR b hg
    exact VH l hl t ht (h.1.apart hq h1 hb h2)
   obtain ⟨t',t1,t2,_,p,t3,t4,_⟩:=Uq c r' b h1 h2
   have:=wx CV ht t1 (h.1.apart hq t3 hb t4)
   subst this
   exact hn r' (t2▸h1) h2) s.ins 0 x as us o st st1 (by omega) (λ_ h=>h) CV hT Aiv PS (λ_ _=>rfl)
 have Aai: ∀t∈Lc 0 s.ins as,t.2.reads=true->t.1<Bf:=by
  have: ∀(cs:List (Bool×CK)) (k:Nat) (as:List AC),k+cs.length<100000-> ∀t∈Lc k cs as,t.2.reads=true->t.1<Bf:=by
   intro cs
   induction cs with
   |nil=>intro k as _ t ht;cases as<;>cases ht
   |cons p r ih=>
    intro k as hk t ht hr
    simp only [Bg] at hk
    cases as with
    |nil=>cases ht
    |cons a as=>
     simp only [Lc] at ht
     rcases Aw.1 ht with ht|ht
     ·rcases AO ht with ⟨_,h1⟩|⟨h1,_⟩
      ·rw [hr] at h1;cases h1
      ·rw [h1];exact dG (by omega)
     ·exact ih (k+1) as (by omega) t ht hr
  exact this s.ins 0 as (by omega)
 let d:=dst.getD 0
 let ks:=Qx s tks d
 let dead:=kR tks++ks++(if s.flat then [] else xK tks)
 let part:=whole tks
 have Ajl:s.outs.length+(kr s d).length=s.Ta:=by unfold MSpec.Ta kr;cases s.rp<;>rfl
 obtain ⟨Aa8,Aj3,XU⟩:ks.length=s.Ta/\ks.Nodup/\ ∀l∈ks,l<Bf:=by
  have:=DJ xY
  rw [Ajl] at this
  exact this
 have XZ:s.outs.length<=s.Ta:=by unfold MSpec.Ta;omega
 have VL: ∀tid,s.rp=some tid->Dw ks s.outs.length=Rx d/\s.Ta=s.outs.length+1:= λtid Wf=>by
  have h1:s.Ta=s.outs.length+1:=by unfold MSpec.Ta;rw [Wf]
  refine ⟨?_,h1⟩
  have h2:ks=kN s tks d++ [Rx d]:=by show kN s tks d++kr s d=_;unfold kr;rw [Wf]
  have h3:(kN s tks d).length=s.outs.length:=by rw [h2] at Aa8;simp at Aa8;omega
  rw [Qj (by rw [Aa8];omega)]
  simp only [h2]
  rw [List.getElem_append_right (by omega)]
  simp [h3]
 have PI:=yw Aj3 XU
 have Aj1: ∀j,j<s.Ta->Dw ks j<Bf:= λj hj=>XU _ (mem_keys.2 ⟨j,by omega,rfl⟩)
 let π':Pi:= λl=>match (List.range s.Ta).find? λj=>decide (Dw ks j=l) with
  |some j=>ρ (Jm j)
  |none=>if l∈dead then none else π l
 have sx: ∀j,j<s.Ta->π' (Dw ks j)=ρ (Jm j):= λj hj=>by
  show (match (List.range s.Ta).find? λi=>decide (Dw ks i=Dw ks j) with|some i=>ρ (Jm i)|none=>_)=_
  cases hf:(List.range s.Ta).find? λi=>decide (Dw ks i=Dw ks j) with
  |none=>
   have:=List.find?_eq_none.1 hf j (Hu.2 hj)
   simp at this
  |some i=>
   have:=List.find?_some hf
   rw [PI i j (Hy this)]
 have qt: ∀j,j<s.Ta->Dw ks j∈dead:= λj hj=>Bk _ (Bu _ (mem_keys.2 ⟨j,by omega,rfl⟩))
 have w6: ∀l,(¬ ∃j,j<s.Ta/\l=Dw ks j)->π' l=if l∈dead then none else π l:= λl hl=>by
  show (match (List.range s.Ta).find? λi=>decide (Dw ks i=l) with|some i=>ρ (Jm i)|none=>_)=_
  cases hf:(List.range s.Ta).find? λi=>decide (Dw ks i=l) with
  |none=>rfl
  |some i=>
   have h1:=List.find?_some hf
   exact absurd ⟨i,Hu.1 (List.mem_of_find?_eq_some hf),(Hy h1).symm⟩ hl
 have QB: ∀l,l∉dead->π' l=π l:= λl hl=>by
  rw [w6 l (λ⟨j,h1,h2⟩=>hl (h2▸qt j h1)),Al hl]
 have hD1: ∀b,Ue π' b\/X.Sc b->D1 b:=by
  intro b hb
  show (if s.flat then λ_=>True else iH S πc ya) b
  split
  ·trivial
  rename_i hnf
  rcases hb with ⟨l,q,hl,hf⟩|hb
  ·by_cases hk: ∃j,j<s.Ta/\l=Dw ks j
   ·obtain ⟨j,hj,rfl⟩:=hk
    rw [sx j hj,VN] at hl
    cases hp:ya (Jm j) with
    |none=>rw [hp] at hl;cases hl
    |some q0=>rw [hp] at hl;simp only [Ai,Aa] at hl;subst hl;exact .inr (.inr ⟨Jm j,q0,hp,hf⟩)
   ·have e0:π' l=if l∈dead then none else π l:=w6 l hk
    rw [e0] at hl
    split at hl
    ·cases hl
    ·rename_i VE
     by_cases ho:Ue πc b
     ·obtain ⟨c,q',hc,hcb⟩:=ho
      obtain ⟨t,t1,t2,t0,p,t3,t4,_⟩:=Uq c q' b hc hcb
      have w7:=h.1.apart hl t3 hf t4
      refine .inr (.inl ⟨c,q',Cs λhn=>?_,hc,hcb⟩)
      exact VE (Bk _ (Bk _ (cB.2 ⟨t,TX▸t1,⟨by rw [t2];omega,t0⟩,w7.symm⟩)))
     ·refine .inl ⟨ho, .inl ⟨⟨l,q,hl,hf⟩,λl0 hl0 r0 hr0 hf0=>?_⟩⟩
      have:=h.1.apart hl hr0 hf hf0
      subst this
      exact VE (Bu _ (by rw [Al hnf];exact qO.2 (hV' l hl0)))
  ·refine .inl ⟨λho=>?_, .inr hb⟩
   have h1:=h.1.sc b hb
   rcases (h.1.own (CZ b ho)).2 with h2|h2
   ·omega
   ·exact h1.2 h2
 have hpd: ∀l∈pl,l∉dead:= λl hl hd=>by
  rcases Aw.1 hd with hd|hd
  ·rcases Aw.1 hd with hd|hd
   ·obtain ⟨t,ht,_,e⟩:=cB.1 hd
    exact (JW l hl).1 (Bo.2 ⟨t,ht,e⟩)
   ·exact (JW l hl).2 hd
  ·split at hd
   ·cases hd
   ·obtain ⟨t,ht,_,e⟩:=qO.1 hd
    exact (JW l hl).1 (Bo.2 ⟨t,ht,e⟩)
 have Aa7: ∀j,j<s.Ta->Dw ks j∉pl:= λj hj hp=>hpd _ hp (qt j hj)
 let bv:Option OB:=s.rp.map λtid=> .var tid ((aw (Dw ks) 0 s.outs r).drop s.Yt)
 let H1:=(oJ s.ins (aw (Dw ks) 0 s.outs r) pl (st1.aY dead part)).heap
 have hH1: ∀l,l∉pl->Aq H1 l=if l∈dead then none else (Aq st1.heap l).map (OB.map (Ce dead part)):= λl hl=>by
  show Aq (oJ _ _ _ _).heap l=_
  rw [FD hl]
  show Aq (Vx (st1.heap.map λp=>(p.1,p.2.map (Ce dead part))) dead) l=_
  rw [Mt,Nr]
 let H2:=z0 H1 (Rx d) bv
 have hvd: ∀tid,s.rp=some tid->Rx d∈dead/\Rx d∉pl:= λtid Wf=>by
  obtain ⟨e1,e2⟩:=VL tid Wf
  rw [<-e1]
  exact ⟨qt _ (by omega),Aa7 _ (by omega)⟩
 have Acq: ∀l,(∀tid,s.rp=some tid->l≠Rx d)->Aq H2 l=Aq H1 l:= λl hl=>by
  show Aq (z0 H1 (Rx d) (s.rp.map _)) l=_
  cases BO:s.rp with
  |none=>rfl
  |some tid=>exact Oi _ _ _ _ (hl tid BO)
 have Aht: ∀tid,s.rp=some tid->Aq H2 (Rx d)=some (.var tid ((aw (Dw ks) 0 s.outs r).drop s.Yt)):= λtid Wf=>by
  show Aq (z0 H1 (Rx d) (s.rp.map _)) (Rx d)=_
  rw [Wf]
  exact Po _ _ _ (by rw [hH1 _ (hvd tid Wf).2,Ab (hvd tid Wf).1])
 have hkv: ∀j,j<s.outs.length-> ∀tid,s.rp=some tid->Dw ks j≠Rx d:= λj hj tid Wf e=>by
  have:=PI j s.outs.length (e.trans (VL tid Wf).1.symm)
  omega
 have hH2: ∀l,l∉pl->(∀tid,s.rp=some tid->l≠Rx d)->Aq H2 l=if l∈dead then none else (Aq st1.heap l).map (OB.map (Ce dead part)):= λl hl hv=>by
  rw [Acq l hv,hH1 l hl]
 let H':=Wk (HD st (kR tks)) (Dw ks) 0 s.outs r H2
 obtain ⟨n1,n2,n3⟩:=nX (D:=D1) (X:=X) (key:=Dw ks) PI (fr:=HD st (kR tks)) (ρ:=ρ) s.outs 0 r Vl H2 Adq (λj _ hj=>by
  rw [hH2 _ (Aa7 j (by omega)) (hkv j (by omega)),Ab (qt j (by omega))])
 have mr: ∀l,l∉dead->l∉pl->Aq H' l=(Aq st1.heap l).map (OB.map (Ce dead part)):= λl hl oD=>by
  show Aq (Wk _ _ _ _ _ _) l=_
  rw [n1 l λj _ hj e=>hl (e▸qt j (by omega)),hH2 l oD (λtid Wf e=>hl (e▸(hvd tid Wf).1)),Al hl]
 have US: ∀l,l∈dead->(∀j,j<s.Ta->l≠Dw ks j)->Aq H' l=none:= λl hl hj=>by
  show Aq (Wk _ _ _ _ _ _) l=_
  rw [n1 l λj _ h2=>hj j (by omega),hH2 l (λhp=>hpd l hp hl) (λtid Wf e=>hj s.outs.length (by have:=(VL tid Wf).2;omega) (e.trans (VL tid Wf).1.symm)),Ab hl]
 have newAt: ∀l b',Aq H' l=some b'->(l∈dead\/Aq st.heap l=none)-> ∃j,j<s.Ta/\l=Dw ks j:=by
  intro l b' hb hd
  refine Cs λhn=>?_
  have pd: ∀j,j<s.Ta->l≠Dw ks j:= λj hj e=>hn ⟨j,hj,e⟩
  rcases Classical.em (l∈dead) with BN|BN
  ·rw [US l BN pd] at hb;cases hb
  ·rcases hd with hd|hd
   ·exact BN hd
   ·rw [mr l BN (λhp=>by obtain ⟨_,_,_,_,_,_,_,h1,_⟩:=JX l hp;rw [hd] at h1;cases h1)] at hb
    have:Aq st1.heap l=none:=by
     by_cases hi: ∃t∈Lc 0 s.ins as,t.2.Vm=l
     ·obtain ⟨t,ht,e⟩:=hi
      by_cases Js:t.1<Bf
      ·rw [<-e,q3 t ht Js,e];exact hd
      ·obtain ⟨b0,_,h1,_⟩:=q4 t ht Js
       rw [e,hd] at h1;cases h1
     ·rw [q2 l λt ht e=>hi ⟨t,ht,e.symm⟩];exact hd
    rw [this] at hb;cases hb
 have ZY: ∀k,HD st (kR tks)=true-> ∀q,ρ (Jm k)=some q->q.Ci q.g->X.w0.heap.size<=q.g:=by
  intro k yS q hq hg
  rcases (PN.Yc _ q _ hq hg).2 with h1|⟨c,p,h1,h2,h3⟩
  ·exact Qu h.1.below.size h1
  ·obtain ⟨t,t1,t2,t0,p',t3,t4,_⟩:=Uq c p _ h2 h3
   have hm:t.2.Vm∈kR tks:=cB.2 ⟨t,TX▸t1,⟨by rw [t2];exact h1,t0⟩,rfl⟩
   have:=At.1 yS _ hm
   split at this
   ·rename_i fr tr e te xs hl
    unfold St.at at hl
    have hb:=(h.1.heap t.2.Vm).Qi hl
    simp only [Bw,Jj,t3] at hb
    rw [hb.1.2.1 _ t4]
    exact hb.1.2.2 this
   ·cases this
 have ZW: ∀k q,ρ (Jm k)=some q->k<s.outs.length->q.Ci q.g:=by
  intro k q hq hk
  exact Ir.XE s.outs 0 r Vl CY k (Mz _) ((Cf _).symm▸hk) q hq
 have hinv: ∀l,l∉dead->(∃t∈Lc 0 s.ins as,t.2.reads=false/\t.2.Vm=l)->kF X D1 w' π st.heap st1.heap l:=by
  rintro l hd ⟨t,ht,h0,rfl⟩
  by_cases Js:t.1<Bf
  ·exact absurd (Bk _ (Bk _ (cB.2 ⟨t,TX▸ht,⟨Js,h0⟩,rfl⟩))) hd
  ·exact q4 t ht Js
 have w8: ∀l,(¬ ∃t∈Lc 0 s.ins as,t.2.reads=false/\t.2.Vm=l)->Aq st1.heap l=Aq st.heap l:= λl hn=>by
  by_cases hi: ∃t∈Lc 0 s.ins as,t.2.Vm=l
  ·obtain ⟨t,ht,rfl⟩:=hi
   have hr:t.2.reads=true:=by
    cases h0:t.2.reads with
    |true=>rfl
    |false=>exact absurd ⟨t,ht,h0,rfl⟩ hn
   exact q3 t ht (Aai t ht hr)
  ·exact q2 l λt ht e=>hi ⟨t,ht,e.symm⟩
 have XJ: ∀l∈pl,∀p,s.ptr=some p->Aq H' l=some (.var p.1 (eE s.ins (cells.map (Ce dead part)) (aw (Dw ks) 0 s.outs r))):= λl hl p hp=>by
  obtain ⟨p',q,h1,h2,_,_,_,h3,_⟩:=JX l hl
  rw [hp] at h1;cases h1
  show Aq (Wk _ _ _ _ _ _) l=_
  rw [n1 l λj _ hj e=>Aa7 j (by omega) (e▸hl),Acq l (λtid Wf e=>(hvd tid Wf).2 (e▸hl))]
  show Aq (oJ _ _ _ _).heap l=_
  rw [h2]
  refine LW ?_
  show Aq (Vx (st1.heap.map λp=>(p.1,p.2.map (Ce dead part))) dead) l=_
  rw [Mt,Nr,Al (hpd l hl),w8 l (λ⟨t,ht,_,e⟩=>VH l hl t ht e),h3]
  rfl
 have XW: ∀j,j<s.Ta->s.outs.length<=j-> ∃tid,s.rp=some tid/\j=s.outs.length:= λj h1 h2=>by
  cases BO:s.rp with
  |none=>unfold MSpec.Ta at h1;rw [BO] at h1;simp at h1;omega
  |some tid=>exact ⟨tid,rfl,by have:=(VL tid BO).2;omega⟩
 have hHv: ∀tid,s.rp=some tid->Aq H' (Rx d)=some (.var tid ((aw (Dw ks) 0 s.outs r).drop s.Yt)):= λtid Wf=>by
  show Aq (Wk _ _ _ _ _ _) _=_
  rw [n1 _ λj _ hj e=>hkv j (by omega) tid Wf e.symm,Aht tid Wf]
 suffices Adf:Bd X π' (jH st st1 d s pl tks r) a w'/\Bi X w' π' (jH st st1 d s pl tks r).heap av0 v by
  obtain ⟨m1,m2⟩:=Adf
  have xZ: ∀(kj:List (Nat×Nat)) (l:Nat),l∈ao st.heap ks tks kj->ll st.heap l=true/\ ∃k j t,(k,j)∈kj/\t∈tks/\t=(Ds false k,Loc.row l)/\ks[j]?=some l:=by
   intro kj
   induction kj with
   |nil=>intro l hl;cases hl
   |cons p kj ih=>
    intro l hl
    obtain ⟨k,j⟩:=p
    have up:l∈ao st.heap ks tks kj->ll st.heap l=true/\ ∃k' j' t,(k',j')∈(k,j)::kj/\t∈tks/\t=(Ds false k',Loc.row l)/\ks[j']?=some l:= λhl=>by
     obtain ⟨h1,k',j',t,h2,h3⟩:=ih l hl
     exact ⟨h1,k',j',t,An _ h2,h3⟩
    simp only [ao] at hl
    split at hl
    ·rename_i x0 l1 l2 h1 h2
     split at hl
     ·rename_i hc
      simp only [Ag] at hc
      rcases Bb.1 hl with rfl|hl
      ·have:=List.find?_some h1
       have e1:=Jc this
       have e2:=Jc hc.1
       dsimp only at e1
       exact ⟨hc.2,k,j,_,Lf,List.mem_of_find?_eq_some h1,by rw [e1],by rw [h2,e2]⟩
      ·exact up hl
     ·exact up hl
    ·exact up hl
  obtain ⟨r1,r2⟩:=DG h m1 (ls:=ao st.heap ks tks s.keeps) (n:=s.Gg x) (λl hl=>by
   obtain ⟨_,k,j,t,h1,h2,h3,h4⟩:=xZ s.keeps l hl
   have hj:j<ks.length:=(Aj.1 h4).1
   have NO:Dw ks j=l:=by
    rw [Qj hj]
    rw [Ac hj] at h4
    exact Ba h4
   have sy:=ub (k,j) h1
   rw [show π' l=ρ (Jm j) by rw [<-NO];exact sx j (by omega),VN]
   have hc:πc (Ds false k)=(π l).map full:=Acr k l (by rw [<-h3,<-TX];exact h2)
   dsimp only at sy
   rw [hc] at sy
   cases hp:π l<;>cases hq:ya (Jm j)<;>(rw [hp,hq] at sy;exact sy)) (λl hl=>(xZ s.keeps l hl).1) fX
  exact ⟨π',r1,r2 av0 v m2⟩
 refine ⟨?_,?_⟩
 ·have hx:=Bd.ZJ (π':=π') (H':=H') (dead:=dead) (part:=part) (inv:= λl=>(∃t∈Lc 0 s.ins as,t.2.reads=false/\t.2.Vm=l)\/l∈pl) (gv:= λb=>Ue πc b\/s.gv g b) h (λb hb=>by
    rcases hb with hb|hb
    ·obtain ⟨t,h1,h0,q,h2,h3,_⟩:=bI b hb
     exact ⟨_,q, .inl ⟨t,h1,h0,rfl⟩,h2,h3⟩
    ·obtain ⟨l,hl,q,h1,h2,_⟩:=JR b hb
     exact ⟨l,q, .inr hl,h1,h2⟩) UW (λl b0 hd h0=>⟨QB l hd,?_⟩) (λl b' hb hd=>?_) (λl hl=>?_) (λm q hd hp hm hxa=>?_)
  ·have:({tmps:=(oJ s.ins (aw (Dw ks) 0 s.outs r) pl (st1.aY dead part)).tmps,heap:=H'} :St)= {tmps:=st.tmps.map (·.map (Ce dead part)),heap:=H'} :=by
    rw [mV]
    show ({tmps:=st1.tmps.map (·.map (Ce dead part)),heap:=H'} :St)=_
    rw [q1]
   show Bd X π' ({tmps:=(oJ s.ins (aw (Dw ks) 0 s.outs r) pl (st1.aY dead part)).tmps,heap:=H'} :St) a w'
   rw [this]
   exact hx
  ·by_cases NN:l∈pl
   ·obtain ⟨p,q,h1,h2,h3,h4,h5,h6,h7⟩:=JX l NN
    rw [h0] at h6;cases h6
    have sk:=XJ l NN p h1
    refine .inr ⟨_,sk,⟨rfl,by rw [mR]⟩,λm=>?_⟩
    unfold jD at eo
    rw [h1] at eo
    obtain ⟨cs,k1,k2,k3⟩:=eo
    rw [<-h7] at k3
    refine ⟨q,h3,h4,cs.toArray,by rw [<-h5];exact k1,?_⟩
    refine Mi.to (iA (H:=st.heap) QB (λl1 b1 sz n UZ UU VI=>?_) s.ins 0 cells m4 x us o st st1 (aw (Dw ks) 0 s.outs r) Vl cs (has▸hT) Adb (has▸PS) k3 (n3 π' hD1 (λj _ hj=>sx j (by omega)))) (by simpa using k2)
    have hnp:l1∉pl:= λhp=>by
     obtain ⟨_,_,_,_,_,_,_,h8,_⟩:=JX l1 hp
     rw [UU] at h8;cases h8;cases VI
    by_cases hi: ∃t∈Lc 0 s.ins as,t.2.reads=false/\t.2.Vm=l1
    ·obtain ⟨b1,b',e1,e2,e3,e4,e5,e6⟩:=hinv l1 UZ hi
     rw [UU] at e1;cases e1
     exact ⟨b',by rw [mr l1 UZ hnp,e2];simp [e4],by rw [e5.row];exact VI⟩
    ·exact ⟨_,by rw [mr l1 UZ hnp,w8 l1 hi,UU];rfl,by rw [OB.xb];exact VI⟩
   by_cases hi: ∃t∈Lc 0 s.ins as,t.2.reads=false/\t.2.Vm=l
   ·obtain ⟨b1,b',e1,e2,e3,e4,e5,e6⟩:=hinv l hd hi
    rw [h0] at e1;cases e1
    exact .inr ⟨b',by rw [mr l hd NN,e2];simp [e4],by rw [e3];exact e5,λ_=>e6 π' H' hD1⟩
   ·exact .inl ⟨λhh=>hh.elim hi NN,by rw [mr l hd NN,w8 l hi,h0];rfl⟩
  ·obtain ⟨j,hj,rfl⟩:=newAt l b' hb hd
   refine ⟨Aj1 j hj,?_,λq b hq=>?_⟩
   ·rw [sx j hj]
    rcases Nat.lt_or_ge j s.outs.length with hjo|hjo
    ·rcases n2 j (Mz _) (by omega) with ⟨e1,_⟩|⟨b2,e1,e2⟩
     ·rw [show Aq H' (Dw ks j)=none from e1] at hb;cases hb
     ·rw [show Aq H' (Dw ks j)=some b2 from e1] at hb;cases hb
      exact e2 X π' H' (λhf q hq=>ZY j hf q hq (ZW j q hq hjo)) hD1
    ·obtain ⟨tid,Wf,hj0⟩:=XW j hj hjo
     subst hj0
     rw [(VL tid Wf).1,hHv tid Wf] at hb;cases hb
     unfold pB at di
     rw [Wf] at di
     obtain ⟨q,y1,y2,y3,y4,_⟩:=di
     rw [VN,y1]
     exact ⟨full q,rfl,y2,_,y3,Mi.to (Mi.take s.Yt (n3 π' hD1 (λj _ hj=>sx j (by omega)))).2 (by simpa using y4)⟩
   ·rw [sx j hj] at hq
    have Qh:=XP _ q hq
    refine ⟨λhf=>by rw [Qh];exact hf,λhf=>?_⟩
    rw [Qh] at hf
    obtain ⟨h1,h2⟩:=PN.Yc _ q b hq hf
    refine ⟨h1,h2.imp id ?_,λl2 r2 UB HR ZU=>?_⟩
    ·rintro ⟨c,p,h3,h4,h5⟩
     obtain ⟨t,t1,t2,t0,p',t3,t4,_⟩:=Uq c p b h4 h5
     exact ⟨t.2.Vm,p',Bk _ (Bk _ (cB.2 ⟨t,TX▸t1,⟨by rw [t2];exact h3,t0⟩,rfl⟩)),t3,t4⟩
    ·by_cases hk: ∃j,j<s.Ta/\l2=Dw ks j
     ·obtain ⟨j2,hj2,rfl⟩:=hk
      rw [sx j2 hj2] at HR
      rw [XP _ r2 HR] at ZU
      have:=PN.inj _ _ r2 q b HR hq ZU hf
      unfold Jm at this
      have:j2=j:=by omega
      rw [this]
     ·have e0:π' l2=if l2∈dead then none else π l2:=w6 l2 hk
      rw [e0] at HR
      split at HR
      ·cases HR
      ·rename_i VE
       rcases UB with UB|UB
       ·exact absurd UB VE
       ·rw [(h.1.heap l2).emp UB] at HR;cases HR
  ·by_cases hk: ∃j,j<s.Ta/\l=Dw ks j
   ·obtain ⟨j,hj,rfl⟩:=hk
    rw [sx j hj]
    rcases Nat.lt_or_ge j s.outs.length with hjo|hjo
    ·rcases n2 j (Mz _) (by omega) with ⟨_,e1⟩|⟨b2,e1,_⟩
     ·exact e1
     ·rw [show Aq H' (Dw ks j)=some b2 from e1] at hl;cases hl
    ·obtain ⟨tid,Wf,hj0⟩:=XW j hj hjo
     subst hj0
     rw [(VL tid Wf).1,hHv tid Wf] at hl;cases hl
   ·have e0:π' l=if l∈dead then none else π l:=w6 l hk
    rw [e0]
    split
    ·rfl
    ·rename_i hd
     by_cases NN:l∈pl
     ·obtain ⟨p,_,h1,_⟩:=JX l NN
      rw [XJ l NN p h1] at hl;cases hl
     rw [mr l hd NN] at hl
     by_cases hi: ∃t∈Lc 0 s.ins as,t.2.reads=false/\t.2.Vm=l
     ·obtain ⟨_,b',_,e2,_⟩:=hinv l hd hi
      rw [e2] at hl;cases hl
     ·rw [w8 l hi] at hl
      cases h0:Aq st.heap l with
      |none=>exact (h.1.heap l).emp h0
      |some b=>rw [h0] at hl;cases hl
  ·refine UW.block _ (h.1.lt hm).1 λCX=>?_
   rcases CX with ho|hg
   rotate_left
   ·obtain ⟨l,hl,q',h1,h2,_⟩:=JR _ hg
    have w7:=h.1.apart hm h1 (h.1.Ci hm) h2
    obtain ⟨_,_,_,_,_,_,_,h3,_⟩:=JX l hl
    obtain ⟨b,hxa,hxb⟩:=hxa
    rw [w7,h3] at hxa;cases hxa
    exact hxb rfl
   obtain ⟨t,t1,t0,p,t3,t4,t5⟩:=bI _ ho
   have w7:=h.1.apart hm t3 (h.1.Ci hm) t4
   have hpq:p=q:=by rw [<-w7,hm] at t3;exact (Ba t3).symm
   cases YI:t.2 with
   |row l=>
    refine hp ?_
    show m∈whole tks
    unfold whole
    exact Oe.2 ⟨t,TX▸t1,by rw [YI,w7,YI];simp [Loc.Vm]⟩
   |sub l i j=>exact t5 l i j YI (by rw [hpq])
   |view l=>rw [YI] at t0;cases t0
 ·have Ajj:=n3 π' hD1 (λj _ hj=>sx j (by omega))
  cases BO:s.rp with
  |some tid=>
   unfold pB at di
   rw [BO] at di
   obtain ⟨q,y1,y2,y3,y4,rfl⟩:=di
   unfold WG at eS
   rw [BO] at eS
   simp only [Aa] at eS;subst eS
   refine ⟨full q,tid,_,hHv tid BO,?_,rfl⟩
   rw [<-(VL tid BO).1,sx _ (by have:=(VL tid BO).2;omega),VN,y1]
   rfl
  |none=>
  unfold pB at di
  rw [BO] at di
  obtain ⟨di,Ajp⟩:=di
  unfold WG at eS
  rw [BO] at eS
  simp only at eS
  obtain ⟨g1,g2,g3,g4⟩:=cr s.Im _ (Vl.drop s.Yt) Ajp (Mi.take s.Yt Ajj).2
  unfold Af4 at eS
  unfold SC at di
  split at eS
  ·rename_i hm
   rw [Ab hm] at di
   simp only [Aa] at eS;subst eS
   subst di
   exact ⟨_,rfl,g3.symm,g4⟩
  ·rename_i hm
   rw [Al hm] at di
   split at eS
   ·rename_i av1 hga
    simp only [Aa] at eS;subst eS
    rcases di with di|di
    ·exact g2 0 _ v (by rw [hga];rfl) (by rw [di];rfl)
    ·rw [hga,di] at g1;cases g1
   ·simp only [Aa] at eS;subst eS;trivial
   ·cases eS
end
end Go.Proofs.Ytkkdpknjohcekaa
