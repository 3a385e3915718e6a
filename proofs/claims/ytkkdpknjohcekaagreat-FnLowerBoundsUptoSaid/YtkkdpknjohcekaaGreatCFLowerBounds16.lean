/-
  Part 17 of the proof that the statement FnLowerBounds holds.
-/
import Derived.Test.YtkkdpknjohcekaaGreatCFLowerBounds15
namespace Go.Proofs.YtkkdpknjohcekaaGreat
open Go.RowKit
section
variable {P:Program} {T:Tab} {X:Ctx} {w w':World} {π π':Pi} {H H':List (Nat×OB)}
theorem bt (k:Nat): ¬Ea true k<Bk:=by unfold Ea Bk;simp
theorem fQ {k:Nat} (h:k<100000):Ea false k<Bk:=by unfold Ea Bk;simp;omega
def mK (X:Ctx) (D:Nat->Prop) (w':World) (π:Pi) (H Hn:List (Nat×OB)) (l:Nat):Prop:=
 ∃b0 b',At H l=some b0/\At Hn l=some b'/\(∀f,OB.map f b0=b0)/\(∀f,OB.map f b'=b')/\b0.fz b'/\ ∀π' H',(∀b,Wo π' b\/X.Sc b->D b)->Cg X w' π' H' (π l) b'
theorem Aao {io:Bool} {k:Nat} {τ:Ty} {a:AC} {t:Nat×Loc} (h:t∈Rj io k (.Ft τ) a):t.1=Ea false k:=by
 cases a<;>simp [Rj,views] at h<;>first|(obtain ⟨_,⟨_,_⟩,rfl⟩:=h;rfl)|(rw [h])
theorem UK {io:Bool} {k:Nat} {e:Ty} {te:TypeId} {a:AC} {t:Nat×Loc} (h:t∈Rj io k (.part e te) a):t.1=Ea io k:=by cases a<;>simp [Rj] at h<;>rw [h]
theorem Aap {io:Bool} {k:Nat} {e:Ty} {te:TypeId} {a:AC} {t:Nat×Loc} (h:t∈Rj io k (.row e te) a):t.1=Ea io k:=by cases a<;>simp [Rj] at h<;>rw [h]
theorem UL {io:Bool} {k:Nat} {e:Ty} {te:TypeId} {a:AC} {t:Nat×Loc} (h:t∈Rj io k (.Ii e te) a):t.1=Ea io k:=by cases a<;>simp [Rj] at h<;>rw [h]
theorem fh {D:Nat->Prop} {π':Pi} {fr:Bool} {e:Ty} {es:List Value} {y:e.den} (hD: ∀b,Wo π' b\/X.Sc b->D b) (h:Cells w' D e es y):Cells w' (Cx X.w0.heap.size X.Sc π' (fr&&e.flat)) e es y:=by
 cases hf:e.flat with
 |true=>exact Cells.flat e es y hf h
 |false=>exact Cells.Fw (Ap _) (λ_ _ _=>rfl) (λb _ hb=>by
   rcases hb with hb|hb|⟨hb,_⟩
   ·exact hD b (.inl hb)
   ·exact hD b (.inr hb)
   ·simp at hb) e es y h
theorem UN {D P:Nat->Prop} {g o:Nat} {cur:Array Value} {tr:Bool} {e:Ty} {xs:List e.den}
  (h: ∀(i:Nat) (x:e.den),xs[i]?=some x-> ∃es:List Value,es.length=e.size/\(∀j u,es[j]?=some u->cur[(o+i)*e.size+j]?=some u)/\Cells w' D e es x) (ht:(tr&&e.flat)=true):Yi w' P g o cur e xs:=by
 simp only [Af] at ht
 exact nq ht.2 h
theorem TL {D:Nat->Prop} (h:Nm X w π H) {k:Nat} {c:CK} {ys:c.den} {a:AC} {u:Value} {r:Option Real} {x:c.den} {cur st1:St} (hs:w.heap.size<=w'.heap.size)
  (hU: ∀l i j q b,a= .sub l i j->π l=some q->q.Cq b->b<w.heap.size->(∀r',r=some r'-> ¬r'.Cq b)->w'.heap[b]?=w.heap[b]?)
  {V:List Nat} (ht:eV w (Pn X π V) r u c x/\Ur w π H true a u r c x) (hr:gp w' D r c ys) (he:cH cur c ys a=some st1) (gV: ∀t∈Rj true k c a,At cur.heap t.2.Xy=At H t.2.Xy):
  st1.tmps=cur.tmps/\(∀m,(∀t∈Rj true k c a,m≠t.2.Xy)->At st1.heap m=At cur.heap m)/\ ∀t∈Rj true k c a,mK X D w' π H st1.heap t.2.Xy:=by
 obtain ⟨hc,ht⟩:=ht
 cases c with
 |Ft τ=>cases a<;>simp [cH] at he;subst he;exact ⟨rfl,λ_ _=>rfl,λt ht=>by simp [Rj] at ht⟩
 |row e te=>
  simp only [Ur] at ht
  cases a<;>simp only [] at ht<;>first|(exact ht.elim)|skip
  ·simp only [cH,Aa] at he;subst he
   exact ⟨rfl,λ_ _=>rfl,λt ht=>by simp [Rj] at ht⟩
  ·rename_i l off len
   obtain ⟨rfl,rfl,rfl,fr,tr,hl⟩:=ht
   have Rc:At cur.heap l=some (.arr fr tr e te x):=(gV _ (Ad.2 rfl)).trans hl
   simp only [cH,St.at,Rc] at he
   split at he
   ·rename_i Kk
    obtain ⟨_,h1,_⟩:=Kk
    simp only [Aa] at he;subst he
    refine ⟨rfl,λm hm=>Ed _ _ _ _ (hm _ (Ad.2 rfl)),λt Tj=>?_⟩
    have Tj:=Ad.1 Tj
    subst Tj
    refine ⟨_,_,hl,Ew _ _ _ _ Rc,λ_=>rfl,λ_=>rfl,⟨rfl,h1.symm⟩,λπ' H' hD=>?_⟩
    have hb:=(h.heap l).Sn hl
    change Cg X w' π' H' (π l) _
    simp only [Cg,Kt] at hb⊢
    cases hp:π l with
    |none=>rw [hp] at hr;exact hr
    |some q=>
     rw [hp] at hr hb
     obtain ⟨k1,cu,ti,k2,k3,k4,k5,k6⟩:=hr
     exact ⟨⟨k1.1,k1.2,λhh=>hb.1.2.2 (by simp only [Af] at hh;exact hh.1)⟩,cu,ti,k2,k3,k4,k5,λi y hy=>by
      obtain ⟨es,g1,g2,g3⟩:=k6 i y hy
      exact ⟨es,g1,g2,fh hD g3⟩,λht=>UN k6 ht⟩
   ·cases he
  ·rename_i l i j
   obtain ⟨⟨_,hf⟩,tid,xs,hl,hx,q,hq,Wz,hre⟩:=ht
   have Rc:At cur.heap l=some (.Hi (.slice e) tid xs):=(gV _ (Ad.2 rfl)).trans hl
   simp only [cH,St.at,Rc,hx] at he
   rw [Jo trivial] at he
   ·split at he
    ·rename_i h1
     simp only [Aa] at he;subst he
     refine ⟨rfl,λm hm=>Ed _ _ _ _ (hm _ (Ad.2 rfl)),λt Tj=>?_⟩
     have Tj:=Ad.1 Tj
     subst Tj
     refine ⟨_,_,hl,Ew _ _ _ _ Rc,λ_=>rfl,λ_=>rfl,⟨rfl,by simp⟩,λπ' H' _=>?_⟩
     show Oo w' (π l) (.slice e) tid _
     rw [hq]
     refine hre w' ys hs (λb Lq hb hn=>hU l i j q b rfl hq hb Lq hn) ?_
     have hv:=hc.1
     rw [<-show List.length ys=List.length x from h1] at hv
     exact Ub.ND hr hf hv
    ·cases he
 |Ii e te=>
  simp only [Ur] at ht
  cases a<;>simp only [] at ht<;>first|(exact ht.elim)|skip
  ·simp only [cH,Aa] at he;subst he
   exact ⟨rfl,λ_ _=>rfl,λt ht=>by simp [Rj] at ht⟩
  ·rename_i l off len
   obtain ⟨rfl,rfl,rfl,hl⟩:=ht
   have Rc:At cur.heap l=some (.Hi e te x):=(gV _ (Ad.2 rfl)).trans hl
   simp only [cH,St.at,Rc] at he
   split at he
   ·rename_i Kk
    obtain ⟨_,h1,_⟩:=Kk
    simp only [Aa] at he;subst he
    refine ⟨rfl,λm hm=>Ed _ _ _ _ (hm _ (Ad.2 rfl)),λt Tj=>?_⟩
    have Tj:=Ad.1 Tj
    subst Tj
    refine ⟨_,_,hl,Ew _ _ _ _ Rc,λ_=>rfl,λ_=>rfl,⟨rfl,h1.symm⟩,λπ' H' _=>?_⟩
    show Oo w' (π l) e te _
    cases hp:π l with
    |none=>rw [hp] at hr;exact hr
    |some q=>rw [hp] at hr;exact hr
   ·cases he
  ·rename_i l i j
   obtain ⟨_,tid,xs,hl,hx,q,hq,Wz,hre⟩:=ht
   have Rc:At cur.heap l=some (.Hi (.slice e) tid xs):=(gV _ (Ad.2 rfl)).trans hl
   simp only [cH,St.at,Rc,hx] at he
   rw [Jo trivial] at he
   ·split at he
    ·rename_i h1
     simp only [Aa] at he;subst he
     refine ⟨rfl,λm hm=>Ed _ _ _ _ (hm _ (Ad.2 rfl)),λt Tj=>?_⟩
     have Tj:=Ad.1 Tj
     subst Tj
     refine ⟨_,_,hl,Ew _ _ _ _ Rc,λ_=>rfl,λ_=>rfl,⟨rfl,by simp⟩,λπ' H' _=>?_⟩
     show Oo w' (π l) (.slice e) tid _
     rw [hq]
     refine hre w' ys hs (λb Lq hb hn=>hU l i j q b rfl hq hb Lq hn) ?_
     have hv:=hc.1
     rw [<-show List.length ys=List.length x from h1] at hv
     exact Oo.ND (te:=te) hr hv
    ·cases he
 |part e te=>cases a<;>simp [cH] at he<;>first|(simp only [Ur] at ht;exact ht.2.elim)
 |Bp e te kp=>exact absurd ht.1 (by simp)
theorem TM {D:Nat->Prop} (h:Nm X w π H) {k:Nat} {e:Ty} {te:TypeId} {ys:List e.den} {a:AC} {u:Value} {r:Option Real} {x:(CK.part e te).den} {cur st1:St}
  {V:List Nat} (ht:eV w (Pn X π V) r u (.part e te) x/\Ur w π H true a u r (.part e te) x) (hr:gp w' D r (.row e te) ys) (he:LX cur e ys a=some st1) (gV: ∀t∈Rj true k (.part e te) a,At cur.heap t.2.Xy=At H t.2.Xy):
  st1.tmps=cur.tmps/\(∀m,(∀t∈Rj true k (.part e te) a,m≠t.2.Xy)->At st1.heap m=At cur.heap m)/\ ∀t∈Rj true k (.part e te) a,mK X D w' π H st1.heap t.2.Xy:=by
 obtain ⟨hc,hf,ht⟩:=ht
 cases a<;>simp only [] at ht<;>first|(exact ht.elim)|skip
 rename_i l off len
 obtain ⟨rfl,_,fr,tr,hl⟩:=ht
 have Rc:At cur.heap l=some (.arr fr tr e te x.1):=(gV _ (Ad.2 rfl)).trans hl
 simp only [LX,St.at,Rc] at he
 split at he
 ·rename_i Kk
  obtain ⟨_,h1⟩:=Kk
  simp only [Aa] at he;subst he
  refine ⟨rfl,λm hm=>Ed _ _ _ _ (hm _ (Ad.2 rfl)),λt Tj=>?_⟩
  have Tj:=Ad.1 Tj
  subst Tj
  refine ⟨_,_,hl,Ew _ _ _ _ Rc,λ_=>rfl,λ_=>rfl,⟨rfl,h1.symm⟩,λπ' H' _=>?_⟩
  have hb:=(h.heap l).Sn hl
  change Cg X w' π' H' (π l) _
  simp only [Cg,Kt] at hb⊢
  cases hp:π l with
  |none=>rw [hp] at hr;exact hr
  |some q=>
   rw [hp] at hr hb
   obtain ⟨k1,cu,ti,k2,k3,k4,k5,k6⟩:=hr
   exact ⟨⟨k1.1,k1.2,hb.1.2.2⟩,cu,ti,k2,k3,k4,k5,λi y hy=>by
    obtain ⟨es,g1,g2,g3⟩:=k6 i y hy
    exact ⟨es,g1,g2,Cells.flat e es y hf g3⟩,λ_=>nq hf k6⟩
 ·cases he
def rJ (X:Ctx) (D:Nat->Prop) (w':World) (π:Pi) (H:List (Nat×OB)) (tk:List (Nat×Loc)) (cur st1:St):Prop:=
 st1.tmps=cur.tmps/\(∀m,(∀t∈tk,m≠t.2.Xy)->At st1.heap m=At cur.heap m)/\(∀t∈tk,t.1<Bk->At st1.heap t.2.Xy=At cur.heap t.2.Xy)/\(∀t∈tk,¬t.1<Bk->mK X D w' π H st1.heap t.2.Xy)
theorem tX {D:Nat->Prop} (h:Nm X w π H) {V:List Nat} {πc:Pi} {tks:List (Nat×Loc)} (hs:w.heap.size<=w'.heap.size)
  (hU: ∀t∈tks,∀q b,π t.2.Xy=some q->q.Cq b->b<w.heap.size->(∀r',πc t.1=some r'-> ¬r'.Cq b)->w'.heap[b]?=w.heap[b]?):
  ∀(cs:List (Bool×CK)) (k:Nat) (x:Ins.den cs) (as:List AC) (us:List Value) (o:IOs.den cs) (cur st1:St),k+cs.length<100000->(∀t∈Mg k cs as,t∈tks)->((Mg k cs as).map λt=>t.2.Xy).Nodup->
   qS X w π V H πc k cs x as us->Mt w' D πc k cs o->Iu cs o as cur=some st1->(∀t∈Mg k cs as,At cur.heap t.2.Xy=At H t.2.Xy)->
   rJ X D w' π H (Mg k cs as) cur st1
 | [],k,x,as,us,o,cur,st1,_,_,_,_,_,he,_=>by
  simp only [Iu,Aa] at he;subst he
  have e0:Mg k [] as= []:=by cases as<;>rfl
  exact ⟨rfl,λ_ _=>rfl,by rw [e0];simp,by rw [e0];simp⟩
 |p::r,k,x,[],us,o,cur,st1,_,_,_,ht,_,_,_=>ht.elim
 |p::r,k,x,a::as,[],o,cur,st1,_,_,_,ht,_,_,_=>ht.elim
 |(io,c)::r,k,x,a::as,u::us,o,cur,st1,hk,Yw,IC,ht,ho,he,gV=>by
  simp only [Ay] at hk
  simp only [Mg] at Yw IC gV⊢
  rw [Iy] at IC
  obtain ⟨n1,n2,n3⟩:=Du.1 IC
  have apart: ∀t∈Rj io k c a,∀t'∈Mg (k+1) r as,t'.2.Xy≠t.2.Xy:= λt h1 t' h2 e=>n3 _ (Be.2 ⟨t,h1,rfl⟩) _ (Be.2 ⟨t',h2,rfl⟩) e.symm
  have rest: ∀(aA:St) (o':IOs.den r),Mt w' D πc (k+1) r o'->Iu r o' as aA=some st1->aA.tmps=cur.tmps->(∀m,(∀t∈Rj io k c a,m≠t.2.Xy)->At aA.heap m=At cur.heap m)->
    (∀t∈Rj io k c a,t.1<Bk->At aA.heap t.2.Xy=At cur.heap t.2.Xy)->(∀t∈Rj io k c a,¬t.1<Bk->mK X D w' π H aA.heap t.2.Xy)->
    rJ X D w' π H (Rj io k c a++Mg (k+1) r as) cur st1:=by
   intro aA o' h1 h2 h3 h4 h5 h6
   obtain ⟨g1,g2,g3,g4⟩:=tX h hs hU r (k+1) x.2 as us o' aA st1 (by omega) (λt ht=>Yw t (Cf _ ht)) n2 ht.2 h1 h2 (λt Tj=>by
    rw [h4 _ λt0 ht0=>apart t0 ht0 t Tj];exact gV t (Cf _ Tj))
   have hd: ∀t∈Rj io k c a,At st1.heap t.2.Xy=At aA.heap t.2.Xy:= λt Tj=>g2 _ λt' KA=>(apart t Tj t' KA).symm
   refine ⟨g1.trans h3,λm hm=>?_,λt Tj Lq=>?_,λt Tj Lq=>?_⟩
   ·rw [g2 m λt ht=>hm t (Cf _ ht),h4 m λt ht=>hm t (Bj _ ht)]
   ·rcases Az.1 Tj with Tj|Tj
    ·rw [hd t Tj,h5 t Tj Lq]
    ·rw [g3 t Tj Lq,h4 _ λt0 ht0=>apart t0 ht0 t Tj]
   ·rcases Az.1 Tj with Tj|Tj
    ·obtain ⟨b0,b',q1,q2,q3⟩:=h6 t Tj Lq
     exact ⟨b0,b',q1,(hd t Tj).trans q2,q3⟩
    ·exact g4 t Tj Lq
  have same: ∀o',Mt w' D πc (k+1) r o'->Iu r o' as cur=some st1->(∀t∈Rj io k c a,t.1<Bk)->rJ X D w' π H (Rj io k c a++Mg (k+1) r as) cur st1:= λo' h1 h2 h3=>rest cur o' h1 h2 rfl (λ_ _=>rfl) (λ_ _ _=>rfl) (λt h4 h5=>absurd (h3 t h4) h5)
  cases io with
  |false=>
   have h3: ∀t∈Rj false k c a,t.1<Bk:= λt h4=>by rcases GZ h4 with ⟨h5,_⟩|⟨h5,_⟩<;>(rw [h5];exact fQ (by omega))
   cases c with
   |Ft τ=>exact same o ho (by simpa only [Iu] using he) h3
   |row e te=>exact same o ho (by simpa only [Iu] using he) h3
   |Ii e te=>exact same o ho (by simpa only [Iu] using he) h3
   |part e te=>exact same o ho (by simpa only [Iu] using he) h3
   |Bp e te kp=>exact same o ho (by simpa only [Iu] using he) h3
  |true=>
   have row: ∀(ys:c.den) (o':IOs.den r),(∀t∈Rj true k c a,t.1=Ea true k)->gp w' D (πc (Ea true k)) c ys->Mt w' D πc (k+1) r o'->(∃aA,cH cur c ys a=some aA/\Iu r o' as aA=some st1)->rJ X D w' π H (Rj true k c a++Mg (k+1) r as) cur st1:=by
    intro ys o' h0 h1 h2 h3
    obtain ⟨aA,hp,h3⟩:=h3
    ·obtain ⟨q1,q2,q3⟩:=TL (k:=k) h hs (λl i j q b ea hq hb Lq hn=>by
      cases c with
      |Ft τ=>exact absurd (ht.1.2:πc _=none) (by subst ea;simp [cH] at hp)
      |row e te=>subst ea;exact hU (Ea true k, .sub l i j) (Yw _ (Bj _ (Ad.2 rfl))) q b hq hb Lq hn
      |Ii e te=>subst ea;exact hU (Ea true k, .sub l i j) (Yw _ (Bj _ (Ad.2 rfl))) q b hq hb Lq hn
      |Bp e te kp=>exact absurd ht.1.2.1 (by simp)
      |part e te=>exact absurd ht.1.2.2 (by subst ea;exact λh=>h)) ht.1 h1 hp (λt Tj=>gV t (Bj _ Tj))
     exact rest aA o' h2 h3 q1 q2 (λt h4 h5=>absurd h5 (by rw [h0 t h4];exact bt k)) (λt h4 _=>q3 t h4)
   cases c with
   |Ft τ=>exact same o ho (by simpa only [Iu] using he) (λt h4=>by rw [Aao h4];exact fQ (by omega))
   |Bp e te kp=>exact absurd ht.1.2.1 (by simp)
   |row e te=>
    simp only [Iu] at he
    split at he
    ·rename_i aA hp;exact row o.1 o.2 (λt ht=>Aap ht) ho.1 ho.2 ⟨aA,hp,he⟩
    ·cases he
   |Ii e te=>
    simp only [Iu] at he
    split at he
    ·rename_i aA hp;exact row o.1 o.2 (λt ht=>UL ht) ho.1 ho.2 ⟨aA,hp,he⟩
    ·cases he
   |part e te=>
    simp only [Iu] at he
    split at he
    ·rename_i aA hp
     obtain ⟨q1,q2,q3⟩:=TM (k:=k) h ht.1 ho.1 hp (λt Tj=>gV t (Bj _ Tj))
     exact rest aA o.2 ho.2 he q1 q2 (λt h4 h5=>absurd h5 (by rw [UK h4];exact bt k)) (λt h4 _=>q3 t h4)
    ·cases he
theorem KU {fr:Bool} {c:CK} {x:c.den} {u:Value} {r:Option Real} {D:Nat->Prop} (h:eV w' D r u c x):
  (vL fr c x=none/\r=none)\/ ∃b',vL fr c x=some b'/\ ∀(X:Ctx) π' H',(fr=true-> ∀q,r=some q->X.w0.heap.size<=q.g)->(∀b,Wo π' b\/X.Sc b->D b)->Cg X w' π' H' r b':=by
 cases c with
 |Ft τ=>exact .inl ⟨rfl,h.1⟩
 |row e te=>
  refine .inr ⟨_,rfl,λX π' H' yN hD=>?_⟩
  obtain ⟨_,h⟩:=h
  simp only [gp] at h
  simp only [Cg,Kt]
  cases r with
  |none=>exact h
  |some q=>
   obtain ⟨k1,cu,ti,k2,k3,k4,k5,k6⟩:=h
   exact ⟨⟨k1.1,k1.2,λh1=>yN (by simp only [Af] at h1;exact h1.1) q rfl⟩,cu,ti,k2,k3,k4,k5,λi y hy=>by
    obtain ⟨es,g1,g2,g3⟩:=k6 i y hy
    exact ⟨es,g1,g2,fh hD g3⟩,λh=>by cases h⟩
 |Ii e te=>exact .inr ⟨_,rfl,λX π' H' _ _=>h.2⟩
 |Bp e te kp=>exact .inr ⟨_,rfl,λX π' H' _ hD=>⟨aI.Jn h.2 λb hb=>hD b (hb.imp id λh=>h.elim id λh=>by cases h.1),trivial⟩⟩
 |part e te=>
  refine .inr ⟨_,rfl,λX π' H' yN hD=>?_⟩
  obtain ⟨_,hf,h⟩:=h
  simp only [Cg,Kt]
  cases r with
  |none=>exact h
  |some q=>
   obtain ⟨k1,cu,ti,k2,k3,k4,k5,k6⟩:=h
   exact ⟨⟨k1.1,k1.2,λh1=>yN (by simp only [Af] at h1;exact h1.1) q rfl⟩,cu,ti,k2,k3,k4,k5,λi y hy=>by
    obtain ⟨es,g1,g2,g3⟩:=k6 i y hy
    exact ⟨es,g1,g2,fh hD g3⟩,λh=>by cases h⟩
theorem qA {D:Nat->Prop} {key:Nat->Nat} (JS: ∀i j,key i=key j->i=j) {fr:Bool} {ρ:Pi} : ∀(cs:List CK) (k:Nat) (x:CKs.den cs) (us:List Value) (H:List (Nat×OB)),Jw w' D ρ k cs x us->
  (∀j,k<=j->j<k+cs.length->At H (key j)=none)->
  (∀l,(∀j,k<=j->j<k+cs.length->l≠key j)->At (Zc fr key k cs x H) l=At H l)/\
  (∀j,k<=j->j<k+cs.length->(At (Zc fr key k cs x H) (key j)=none/\ρ (Kx j)=none)\/
   ∃b',At (Zc fr key k cs x H) (key j)=some b'/\ ∀(X:Ctx) π' H',(fr=true-> ∀q,ρ (Kx j)=some q->X.w0.heap.size<=q.g)->(∀b,Wo π' b\/X.Sc b->D b)->Cg X w' π' H' (ρ (Kx j)) b')/\
  (∀π',(∀b,Wo π' b\/X.Sc b->D b)->(∀j,k<=j->j<k+cs.length->π' (key j)=ρ (Kx j))->Nn X w' π' (Zc fr key k cs x H) (cf key k cs x) us)
 | [],k,x,[],H,_,_=>⟨λ_ _=>rfl,λj h1 h2=>by simp at h2;omega,λ_ _ _=>trivial⟩
 | [],_,_,_::_,_,h,_=>h.elim
 |_::_,_,_,[],_,h,_=>h.elim
 |c::r,k,x,u::us,H,h,hn=>by
  simp only [Ay] at hn⊢
  simp only [Zc,cf]
  have vf:=hn k (Ap _) (by omega)
  have hH1: ∀l,l≠key k->At (DT H (key k) (vL fr c x.1)) l=At H l:=by
   intro l hl
   cases vL fr c x.1 with
   |some b=>exact Qh _ _ _ _ hl
   |none=>rfl
  have Ak7:At (DT H (key k) (vL fr c x.1)) (key k)=vL fr c x.1:=by
   cases vL fr c x.1 with
   |some b=>exact Rl _ _ _ vf
   |none=>exact vf
  generalize (DT H (key k) (vL fr c x.1))=H1 at hH1 Ak7⊢
  obtain ⟨g1,g2,g3⟩:=qA JS (fr:=fr) r (k+1) x.2 us H1 h.2 (λj h1 h2=>by
   rw [hH1 _ λe=>by have:=JS _ _ e;omega];exact hn j (by omega) (by omega))
  have hkk:At (Zc fr key (k+1) r x.2 H1) (key k)=vL fr c x.1:=by
   rw [g1 _ λj h1 h2 e=>by have:=JS _ _ e;omega];exact Ak7
  refine ⟨λl hl=>?_,λj h1 h2=>?_,λπ' hd hπ=>⟨?_,?_⟩⟩
  ·rw [g1 l λj h1 h2=>hl j (by omega) (by omega)]
   exact hH1 l (hl k (Ap _) (by omega))
  ·rcases Nat.eq_or_lt_of_le h1 with e|h1
   ·subst e
    rw [hkk]
    exact KU h.1
   ·exact g2 j h1 (by omega)
  ·have h1:=h.1
   have hpk:=hπ k (Ap _) (by omega)
   cases c with
   |Ft τ=>
    obtain ⟨iG,c1,c2⟩:=h1.2
    exact ⟨iG,by have:=fh (fr:=true) hd c1;simpa using this,c2⟩
   |row e te=>exact ⟨_,e.size,List.length x.1,hkk,rfl,by simp,by rw [hpk];exact h1.1⟩
   |Ii e te=>exact ⟨_,e.size,List.length x.1,hkk,rfl,by simp,by rw [hpk];exact h1.1⟩
   |Bp e te kp=>exact ⟨_,1,List.length x.1,hkk,rfl,by simp,by rw [hpk];exact h1.1⟩
   |part e te=>trivial
  ·exact g3 π' hd λj h1 h2=>hπ j (by omega) (by omega)
theorem KK {ks:List Nat} {n:Nat} (h:z8 ks n=true):ks.length=n/\ks.Nodup/\ ∀l∈ks,l<Bk:=by
 unfold z8 at h
 simp only [Af] at h
 refine ⟨Kg h.1,Zb h.2.1,λl hl=>?_⟩
 have:=Bb.1 h.2.2 l hl
 simpa using this
theorem So {ks:List Nat} {j:Nat} (h:j<ks.length):Ef ks j=ks[j]:=by
 unfold Ef
 rw [Ac h]
theorem CH {ks:List Nat} (hn:ks.Nodup) (hl: ∀l∈ks,l<Bk): ∀i j,Ef ks i=Ef ks j->i=j:=by
 intro i j h
 by_cases hi:i<ks.length
 ·by_cases hj:j<ks.length
  ·rw [So hi,So hj] at h
   rcases Nat.lt_trichotomy i j with Lq|he|Lq
   ·exact absurd h (El.1 hn i j hi hj Lq)
   ·exact he
   ·exact absurd h.symm (El.1 hn j i hj hi Lq)
  ·have h1:=hl _ (Ak hi)
   rw [So hi] at h
   unfold Ef at h
   rw [Eb (by omega)] at h
   simp only at h
   omega
 ·by_cases hj:j<ks.length
  ·have h1:=hl _ (Ak hj)
   rw [So hj] at h
   unfold Ef at h
   rw [Eb (by omega)] at h
   simp only at h
   omega
  ·unfold Ef at h
   rw [Eb (by omega),Eb (by omega)] at h
   simp only at h
   omega
theorem Oe: ∀(H:List (Nat×OB)) (dead:List Nat) (l:Nat),At (Yn H dead) l=if l∈dead then none else At H l
 | [],dead,l=>by simp [Yn,At]
 |(k,b)::r,dead,l=>by
  simp only [Yn]
  have ih:=Oe r dead l
  by_cases hk:k∈dead
  ·rw [Ab (by simpa using hk),ih]
   split
   ·rfl
   ·rename_i hl
    simp only [At]
    rw [Aj (λ(e:k=l)=>hl (e▸hk))]
  ·rw [Aj (by simpa using hk)]
   simp only [At]
   split
   ·rename_i e;subst e;rw [Aj hk]
   ·exact ih
theorem mem_keys {ks:List Nat} {l:Nat} :l∈ks↔ ∃k,k<ks.length/\l=Ef ks k:=
 ⟨λh=>by obtain ⟨k,hk,e⟩:=Oa h;exact ⟨k,hk,by rw [So hk,e]⟩,λ⟨k,hk,e⟩=>by rw [e,So hk];exact Ak hk⟩
theorem eC {tks:List (Nat×Loc)} {l:Nat} :l∈mY tks↔ ∃t∈tks,(t.1<Bk/\t.2.reads=false)/\t.2.Xy=l:=by
 unfold mY
 simp only [Be,Ce,Af,Nt,Es]
 exact ⟨λ⟨t,⟨h1,h2⟩,h3⟩=>⟨t,h1,h2,h3⟩,λ⟨t,h1,h2,h3⟩=>⟨t,⟨h1,h2⟩,h3⟩⟩
theorem z9 {tks:List (Nat×Loc)} (h:(tks.map λt=>t.2.Xy).Nodup) {t t':Nat×Loc} (ht:t∈tks) (KA:t'∈tks) (he:t.2.Xy=t'.2.Xy):t=t':=by
 induction tks with
 |nil=>cases ht
 |cons a r ih=>
  simp only [Bz] at h
  obtain ⟨h1,h2⟩:=Cb.1 h
  rcases Bd.1 ht with rfl|ht<;>rcases Bd.1 KA with rfl|KA
  ·rfl
  ·exact (h1 (Be.2 ⟨t',KA,he.symm⟩)).elim
  ·exact (h1 (he▸Be.2 ⟨t,‹t∈r›,rfl⟩)).elim
  ·exact ih h2 ht KA
theorem Jw.full {D:Nat->Prop} {ρ:Pi} : ∀(cs:List CK) (k:Nat) (x:CKs.den cs) (us:List Value),Jw w D ρ k cs x us->Jw w D (λl=>(ρ l).map full) k cs x us
 | [],_,_,[],h=>h
 | [],_,_,_::_,h=>h.elim
 |_::_,_,_,[],h=>h.elim
 |c::r,k,x,u::us,h=>⟨by
   have h1:=h.1
   show eV w D ((ρ (Kx k)).map _) u c x.1
   cases c with
   |Ft τ=>rw [h1.1];exact ⟨rfl,h1.2⟩
   |row e te=>cases hp:ρ (Kx k)<;>(rw [hp] at h1;exact h1)
   |Ii e te=>cases hp:ρ (Kx k)<;>(rw [hp] at h1;exact h1)
   |Bp e te kp=>cases hp:ρ (Kx k)<;>(rw [hp] at h1;exact h1)
   |part e te=>cases hp:ρ (Kx k)<;>(rw [hp] at h1;exact h1),Jw.full r (k+1) x.2 us h.2⟩
theorem Jw.Aef {D:Nat->Prop} {ρ:Pi} : ∀(cs:List CK) (k0:Nat) (x:CKs.den cs) (us:List Value),Jw w D ρ k0 cs x us-> ∀j,k0<=j->j<k0+cs.length-> ∀q,ρ (Kx j)=some q->q.Cq q.g
 | [],k0,_,_,_,j,h1,h2,_,_=>by simp at h2;omega
 |_::_,_,_,[],h,_,_,_,_,_=>h.elim
 |c::r,k0,x,u::us,ho,j,h1,h2,q,hq=>by
  rcases Nat.eq_or_lt_of_le h1 with e|h1
  ·subst e
   have:=ho.1
   cases c with
   |Ft τ=>rw [hq] at this;cases this.1
   |row e te=>rw [hq] at this;exact this.2.1.1
   |Ii e te=>rw [hq] at this;exact this.2.1
   |part e te=>rw [hq] at this;exact this.2.2.1.1
   |Bp e te kp=>rw [hq] at this;exact this.2.1
  ·exact Jw.Aef r (k0+1) x.2 us ho.2 j h1 (by simp at h2;omega) q hq
theorem Ub.any {D D':Nat->Prop} {r:Option Real} {e:Ty} {xs:List e.den} (hf:e.flat=true) (h:Ub w D r e xs):Ub w D' r e xs:=by
 cases r with
 |none=>exact h
 |some r=>
  obtain ⟨k1,cu,ti,k2,k3,k4,k5,k6⟩:=h
  exact ⟨k1,cu,ti,k2,k3,k4,k5,λi y hy=>by
   obtain ⟨es,g1,g2,g3⟩:=k6 i y hy
   exact ⟨es,g1,g2,Cells.flat e es y hf g3⟩⟩
theorem Jw.any {D D':Nat->Prop} {ρ:Pi} : ∀(cs:List CK) (k:Nat) (x:CKs.den cs) (us:List Value),cs.all (·.flat)=true->Jw w D ρ k cs x us->Jw w D' ρ k cs x us
 | [],_,_,[],_,h=>h
 | [],_,_,_::_,_,h=>h.elim
 |_::_,_,_,[],_,h=>h.elim
 |c::r,k,x,u::us,hf,h=>by
  simp only [Jc,Af] at hf
  refine ⟨?_,Jw.any r (k+1) x.2 us hf.2 h.2⟩
  have h1:=h.1
  cases c with
  |Ft τ=>exact ⟨h1.1,Cu.flat hf.1 h1.2⟩
  |row e te=>exact ⟨h1.1,Ub.any hf.1 h1.2⟩
  |Ii e te=>exact h1
  |part e te=>exact ⟨h1.1,h1.2.1,Ub.any hf.1 h1.2.2⟩
  |Bp e te kp=>exact absurd hf.1 (by simp [CK.flat])
theorem Mt.any {D D':Nat->Prop} {π:Pi} : ∀(cs:List (Bool×CK)) (k:Nat) (x:IOs.den cs),(cs.all λp=>!p.1||p.2.flat)=true->Mt w D π k cs x->Mt w D' π k cs x
 | [],_,_,_,h=>h
 |(false,_)::r,k,x,hf,h=>Mt.any r (k+1) x (by simp only [Jc,Af] at hf;exact hf.2) h
 |(true, .Ft _)::r,k,x,hf,h=>Mt.any r (k+1) x (by simp only [Jc,Af] at hf;exact hf.2) h
 |(true, .Bp _ _ _)::r,k,x,hf,h=>Mt.any r (k+1) x (by simp only [Jc,Af] at hf;exact hf.2) h
 |(true, .row e te)::r,k,x,hf,h=>by
  simp only [Jc,Af,Bool.not_true,Xu] at hf
  exact ⟨Ub.any hf.1 h.1,Mt.any r (k+1) x.2 hf.2 h.2⟩
 |(true, .Ii e te)::r,k,x,hf,h=>by
  simp only [Jc,Af,Bool.not_true,Xu] at hf
  exact ⟨h.1,Mt.any r (k+1) x.2 hf.2 h.2⟩
 |(true, .part e te)::r,k,x,hf,h=>by
  simp only [Jc,Af,Bool.not_true,Xu] at hf
  exact ⟨Ub.any hf.1 h.1,Mt.any r (k+1) x.2 hf.2 h.2⟩
theorem tE {tks:List (Nat×Loc)} {l:Nat} :l∈AW tks↔ ∃t∈tks,t.2.reads=true/\t.2.Xy=l:=by
 unfold AW
 simp only [Be,Ce]
 exact ⟨λ⟨t,⟨h1,h2⟩,h3⟩=>⟨t,h1,h2,h3⟩,λ⟨t,h1,h2,h3⟩=>⟨t,⟨h1,h2⟩,h3⟩⟩
theorem Bh.o3 {st:St} {a:Act} (h:Bh X π st a w) {f:AC->AC} (hu:f .undef= .undef) {gv:Nat->Prop} (RP: ∀b,gv b->Wo π b) (hb:Li w.heap.size gv w w')
  (ew: ∀b,b<w.heap.size->Wo π' b->Wo π b)
  (Yw: ∀l r b,π' l=some r->r.Cq b->r.cl b) (Ah9: ∀l r b,π' l=some r->r.cl b->(X.w0.heap.size<=b\/X.gv b)/\b<w'.heap.size)
  (Aqr: ∀l l' r r' b,π' l=some r->π' l'=some r'->r.cl b->r'.cl b->l=l')
  (dy: ∀l,Bk<=l->At H' l≠none->bK (X.ic l) (π' l))
  (hac:(∀fr τ cs x,Cells w (Cx X.w0.heap.size X.Sc π fr) τ cs x->Cells w' (Cx X.w0.heap.size X.Sc π' fr) τ cs x)-> ∀c v,Ia X w π st.heap c v->Ia X w' π' H' (f c) v)
  (JP:Move X w w' π π' st.heap H' f-> ∀l b,At H' l=some b->Cg X w' π' H' (π' l) b)
  (PD: ∀l,At H' l=none->π' l=none):
  Bh X π' {tmps:=st.tmps.map (·.map f),heap:=H'} a w':=by
 have hc: ∀fr τ cs x,Cells w (Cx X.w0.heap.size X.Sc π fr) τ cs x->Cells w' (Cx X.w0.heap.size X.Sc π' fr) τ cs x:= λfr τ cs x hh=>
  Cells.Fw hb.size (λk hk hn=>hb.block k hk λhg=>hn (.inl (RP k hg))) (λk Lq hA=>hA.imp (ew k Lq) id) τ cs x hh
 have m:Move X w w' π π' st.heap H' f:=⟨hac hc,hc⟩
 refine ⟨⟨⟨hb.os.trans h.1.below.os,hb.tape.trans h.1.below.tape,hb.output.trans h.1.below.output,Kh h.1.below.size hb.size,λk hk hn=>?_⟩,h.1.sc,Yw,Ah9,Aqr,dy,λl=>?_⟩,m.MB hu h.2⟩
 ·refine (hb.block k (Ei hk h.1.below.size) λhg=>?_).trans (h.1.below.block k hk hn)
  rcases (h.1.own (RP k hg)).2 with h1|h1
  ·omega
  ·exact hn h1
 ·cases hh:At H' l with
  |none=>exact Gq.Vf (PD l hh) hh
  |some b=>exact Gq.Me (JP m l b hh) hh
def gq:Option Real->Option Real->Prop
 |none,none=>True
 |some r,some r'=>r.g=r'.g/\r.o=r'.o/\r.cap=r'.cap
 |_,_=>False
theorem gq.rfl' (r:Option Real):gq r r:=by cases r<;>simp [gq]
theorem gq.some {r:Real} {r':Option Real} (h:gq (some r) r'): ∃q,r'=some q/\r.g=q.g/\r.o=q.o/\r.cap=q.cap:=by
 cases r' with
 |none=>exact h.elim
 |some q=>exact ⟨q,rfl,h⟩
theorem gq.own {r r':Option Real} (h:gq r r') {sz off len:Nat} {v:Value} (hv:Ir r sz off len v):Ir r' sz off len v:=by
 cases r<;>cases r'<;>first|exact h.elim|skip
 ·exact hv
 ·obtain ⟨h1,h2,h3⟩:=h
  obtain ⟨ad,g1,g2,g3⟩:=hv
  exact ⟨ad,by rw [<-h3];exact g1,by rw [<-h3];exact g2,by rw [<-h1,<-h2,<-h3];exact g3⟩
structure OB.Ui (b b':OB):Prop where
 row: ∀sz n,b.row=some (sz,n)-> ∃n',b'.row=some (sz,n')/\n<=n'
 gB: ∀p,b.gB=some p->b'.gB=some p
 vB: ∀p,b.vB=some p->b'.vB=some p
 var: ∀tid vs,b= .var tid vs-> ∃Vq vs',b'= .var Vq vs'
 Wm: ∀v m,b= .Wm v m-> ∃m',b'= .Wm v m'
theorem OB.Ui.map (f:AC->AC) (b:OB):b.Ui (b.map f) where
 row:= λsz n h=>⟨n,by cases b<;>exact h,Ap _⟩
 gB:= λp h=>by cases b<;>exact h
 vB:= λp h=>by cases b<;>exact h
 var:= λtid vs h=>by subst h;exact ⟨_,_,rfl⟩
 Wm:= λv m h=>by subst h;exact ⟨_,rfl⟩
theorem OB.Ui.rfl' (b:OB):b.Ui b where
 row:= λ_sz n h=>⟨n,h,Ap _⟩
 gB:= λ_p h=>h
 vB:= λ_p h=>h
 var:= λ_tid _vs h=>⟨_,_,h⟩
 Wm:= λ_v _m h=>⟨_,h⟩
theorem OB.Ui.trans {a b c:OB} (h:a.Ui b) (k:b.Ui c):a.Ui c where
 row:= λsz n hr=>by
  obtain ⟨n1,h1,h2⟩:=h.row sz n hr
  obtain ⟨n2,h3,h4⟩:=k.row sz n1 h1
  exact ⟨n2,h3,by omega⟩
 gB:= λp hp=>k.gB p (h.gB p hp)
 vB:= λp hp=>k.vB p (h.vB p hp)
 var:= λtid vs hv=>by obtain ⟨t',v',h1⟩:=h.var tid vs hv;exact k.var t' v' h1
 Wm:= λv m hm=>by obtain ⟨m',h1⟩:=h.Wm v m hm;exact k.Wm v m' h1
theorem o1 {f:AC->AC} {D Pt:Nat->Prop} (hf: ∀c,f c= .undef\/(f c=c/\(∀k∈c.refs,¬D k)/\ ∀k i j,c= .sub k i j\/c= .Ks k i j-> ¬Pt k)) (hp: ∀k,¬D k->gq (π k) (π' k))
  (hH: ∀k b,¬D k->At H k=some b-> ∃b',At H' k=some b'/\b.Ui b')
  (hg: ∀k r b,¬D k-> ¬Pt k->At H k=some b->b.gB≠none->π k=some r->w'.heap[r.g]?=w.heap[r.g]?)
  (hc: ∀fr τ cs x,Cells w (Cx X.w0.heap.size X.Sc π fr) τ cs x->Cells w' (Cx X.w0.heap.size X.Sc π' fr) τ cs x): ∀c v,Ia X w π H c v->Ia X w' π' H' (f c) v:=by
 intro c v h
 rcases hf c with e|⟨e,hr,hs⟩
 ·rw [e];trivial
 rw [e]
 cases c with
 |data fr τ x=>obtain ⟨cs,h1,h2⟩:=h;exact ⟨cs,hc _ _ _ _ h1,h2⟩
 |own k off len=>
  obtain ⟨b,sz,n,h1,h0,h2,h3⟩:=h
  have hk:=hr k (by simp [AC.refs])
  obtain ⟨b',g1,g2⟩:=hH k b hk h1
  obtain ⟨n',g3,g4⟩:=g2.row sz n h0
  exact ⟨b',sz,n',g1,g3,by omega,(hp k hk).own h3⟩
 |Hv k i=>
  obtain ⟨r,tid,vs,h1,h2,h3⟩:=h
  have hk:=hr k (by simp [AC.refs])
  obtain ⟨b',g1,g2⟩:=hH k _ hk h1
  obtain ⟨Vq,vs',rfl⟩:=g2.var tid vs rfl
  obtain ⟨q,q1,q2,_⟩:=(h2▸hp k hk).some
  exact ⟨q,Vq,vs',g1,q1,by rw [<-q2];exact h3⟩
 |Kw k i=>
  obtain ⟨r,b,sz,n,h1,h0,h2,h3,h4⟩:=h
  have hk:=hr k (by simp [AC.refs])
  obtain ⟨b',g1,g2⟩:=hH k b hk h1
  obtain ⟨n',g3,g4⟩:=g2.row sz n h0
  obtain ⟨q,q1,q2,q3,_⟩:=(h3▸hp k hk).some
  exact ⟨q,b',sz,n',g1,g3,by omega,q1,by rw [<-q2,<-q3];exact h4⟩
 |sub k i c=>
  obtain ⟨r,b,sz,n,h1,h0,h2,h3,h4,h5⟩:=h
  have hk:=hr k (by simp [AC.refs])
  obtain ⟨b',g1,g2⟩:=hH k b hk h1
  obtain ⟨q,q1,q2,q3,_⟩:=(h2▸hp k hk).some
  exact ⟨q,b',sz,n,g1,g2.gB _ h0,q1,h3,h4,by rw [<-q2,<-q3,World.cell?_of_block (hg k r b hk (hs k i c (.inl rfl)) h1 (by rw [h0];simp) h2)];exact h5⟩
 |Ks k i c=>
  obtain ⟨r,b,n,sz,g,o,len,cap,h1,h0,h2,h3,h4,h5,h6⟩:=h
  have hk:=hr k (by simp [AC.refs])
  obtain ⟨b',g1,g2⟩:=hH k b hk h1
  obtain ⟨q,q1,q2,q3,_⟩:=(h2▸hp k hk).some
  exact ⟨q,b',n,sz,g,o,len,cap,g1,g2.vB _ h0,q1,h3,h4,by rw [<-q2,<-q3,World.cell?_of_block (hg k r b hk (hs k i c (.inr rfl)) h1 (by cases b<;>first|(cases h0;done)|simp [OB.gB]) h2)];exact h5,h6⟩
 |clo g Eh=>
  obtain ⟨us,h1,h2,h3⟩:=h
  refine ⟨us,h1,h2,λj p hpj=>?_⟩
  obtain ⟨r,tid,vs,h4,h5,h6⟩:=h3 j p hpj
  have hk:=hr p.1 (by simp only [AC.refs,Be];exact ⟨p,Cj hpj,rfl⟩)
  obtain ⟨b',g1,g2⟩:=hH p.1 _ hk h4
  obtain ⟨Vq,vs',rfl⟩:=g2.var tid vs rfl
  obtain ⟨q,q1,q2,_⟩:=(h5▸hp p.1 hk).some
  exact ⟨q,Vq,vs',g1,q1,by rw [<-q2];exact h6⟩
 |Ld k=>
  obtain ⟨r,vt,m,h1,h2,h3⟩:=h
  have hk:=hr k (by simp [AC.refs])
  obtain ⟨b',g1,g2⟩:=hH k _ hk h1
  obtain ⟨m',rfl⟩:=g2.Wm vt m rfl
  obtain ⟨q,q1,q2,_⟩:=(h2▸hp k hk).some
  exact ⟨q,vt,m',g1,q1,by rw [<-q2];exact h3⟩
 |_=>exact h
theorem Vv (H0:List (Nat×OB)) (ls:List Nat) (n:Nat): ∀(H:List (Nat×OB)) (l:Nat),At (dA H0 ls n H) l=(At H l).map λb=>if ls.contains l then b.GK (ca n (Ahr (At H0 l))) else b
 | [],_=>rfl
 |(k,b)::r,l=>by
  simp only [dA,At]
  split
  ·rename_i e;subst e;rfl
  ·exact Vv H0 ls n r l
theorem OB.zP (b:OB) (kp:Option (Nat×Nat)):b.Ui (b.GK kp):=by
 cases b with
 |Bp e te rows out kp0=>exact ⟨λsz n h=>⟨n,h,Ap _⟩,λp h=>h,λp h=>h,(λ_ _ h=>by cases h),(λ_ _ h=>by cases h)⟩
 |_=>exact OB.Ui.rfl' _
theorem gf (ls:List Nat): ∀(l m:List AV) (t:Nat),l.length=m.length->(∃k i c,l.getD t .undef= .at (.sub k i c)/\ls.contains k=true/\(Mf ls l m).getD t .undef= .at (.sub k i c))\/(Mf ls l m).getD t .undef=m.getD t .undef
 | [],m,t,_=>by cases m<;>exact .inr rfl
 |_::_,[],t,h=>by simp at h
 |a::l,v::m,t,h=>by
  have ih:= λt=>gf ls l m t (by simpa using h)
  have tail: ∀u,Mf ls (a::l) (v::m)=u::Mf ls l m->(t=0->(∃k i c,(a::l).getD t .undef= .at (.sub k i c)/\ls.contains k=true/\u= .at (.sub k i c))\/u=v)->
    (∃k i c,(a::l).getD t .undef= .at (.sub k i c)/\ls.contains k=true/\(Mf ls (a::l) (v::m)).getD t .undef= .at (.sub k i c))\/(Mf ls (a::l) (v::m)).getD t .undef=(v::m).getD t .undef:=by
   intro u e h0
   rw [e]
   rcases t with _|t
   ·rcases h0 rfl with ⟨k,i,c,h1,h2,h3⟩|h3
    ·exact .inl ⟨k,i,c,h1,h2,by simpa using h3⟩
    ·exact .inr (by simpa using h3)
   ·simpa only [Nz] using ih t
  cases a with
  | «at»c=>
   cases c with
   |sub k i c=>
    refine tail _ rfl λht=>?_
    subst ht
    by_cases hc:ls.contains k=true
    ·exact .inl ⟨k,i,c,rfl,hc,by rw [Ab hc]⟩
    ·exact .inr (by rw [Aj hc])
   |_=>exact tail _ rfl λ_=> .inr rfl
  |_=>exact tail _ rfl λ_=> .inr rfl
theorem uI {H:List (Nat×OB)} {ls:List Nat} {n:Nat} : ∀ {l:List AV} {t k i c:Nat},dK H ls n l=true->l.getD t .undef= .at (.sub k i c)->ls.contains k=true->i<n/\i<rR H k
 | [],t,k,i,c,_,h,_=>by simp at h
 |a::l,0,k,i,c,ho,h,hc=>by
  simp only [Yg] at h
  subst h
  simp only [dK,hc,Bool.not_true,Xu,Af,Nt] at ho
  exact ho.1
 |a::l,t+1,k,i,c,ho,h,hc=>by
  refine uI (l:=l) (t:=t) (c:=c) ?_ (by simpa only [Nz] using h) hc
  cases a with
  | «at»d=>cases d with
   |sub _ _ _=>simp only [dK,Af] at ho;exact ho.2
   |_=>exact ho
  |_=>exact ho
theorem KH {cC st:St} {a:Act} (h0:Bh X π cC a w) (h:Bh X π' st a w') {ls:List Nat} {n:Nat} (hk: ∀l∈ls,BM w w' (π l) (π' l) n) (sV: ∀l∈ls,nH cC.heap l=true)
  (eU:dK st.heap ls n cC.tmps=true):Bh X π' (mb cC st ls n) a w'/\ ∀c v,Bl X w' π' st.heap c v->Bl X w' π' (mb cC st ls n).heap c v:=by
 by_cases re:ls= []
 ·subst re;exact ⟨h,λ_ _ h=>h⟩
 have Si:mb cC st ls n= {tmps:=Mf ls cC.tmps st.tmps,heap:=dA cC.heap ls n st.heap} :=by
  cases ls with
  |nil=>exact absurd rfl re
  |cons _ _=>rfl
 rw [Si]
 have hg0: ∀l∈ls,∃e te rows out kp,At cC.heap l=some (.Bp e te rows out kp):= λl hl=>by
  have:=sV l hl
  unfold nH at this
  split at this
  ·exact ⟨_,_,_,_,_,by assumption⟩
  ·cases this
 have srv: ∀k b,At st.heap k=some b-> ∃b',At (dA cC.heap ls n st.heap) k=some b'/\b.Ui b':= λk b hb=>by
  rw [Vv,hb]
  refine ⟨_,rfl,?_⟩
  dsimp only
  split
  ·exact OB.zP b _
  ·exact OB.Ui.rfl' b
 have hac:(∀fr τ cs x,Cells w' (Cx X.w0.heap.size X.Sc π' fr) τ cs x->Cells w' (Cx X.w0.heap.size X.Sc π' fr) τ cs x)-> ∀c v,Ia X w' π' st.heap c v->Ia X w' π' (dA cC.heap ls n st.heap) c v:= λhc=>
  o1 (f:= λc=>c) (D:= λ_=>False) (Pt:= λ_=>False) (λc=> .inr ⟨rfl,λ_ _ h=>h,λ_ _ _ _ h=>h⟩) (λk _=>gq.rfl' _) (λk b _ hb=>srv k b hb) (λ_ _ _ _ _ _ _ _=>rfl) hc
 have h1:Bh X π' {tmps:=st.tmps.map (·.map λc=>c),heap:=dA cC.heap ls n st.heap} a w':=by
  refine h.o3 rfl (gv:= λ_=>False) (λ_ hf=>hf.elim) (Li.refl _ _ _) (λ_ _ ho=>ho) h.1.sub h.1.place h.1.inj (λl hl Jd=>h.1.ic l hl λh2=>Jd (by rw [Vv,h2];rfl)) hac (λm l b hb=>?_) (λl hl=>?_)
  ·rw [Vv] at hb
   cases h2:At st.heap l with
   |none=>rw [h2] at hb;cases hb
   |some b0=>
    rw [h2] at hb
    simp only [Al,Aa] at hb
    have hbk:=(h.1.heap l).Sn h2
    have IA:=hbk.move m (Ap _) (λr0 c h0 h1=>h.1.sub _ r0 c h0 h1) λ_ _ _ _ _=>rfl
    rw [show OB.map (λc=>c) b0=b0 from OB.EN b0] at IA
    split at hb
    ·rename_i hc
     have hl:l∈ls:=by simpa using hc
     cases b0 with
     |Bp e te rows out kp=>
      simp only [OB.GK] at hb
      subst hb
      refine ⟨IA.1,?_⟩
      obtain ⟨e0,te0,Afn,Asb,kp0,hg⟩:=hg0 l hl
      have vf:=((h0.1.heap l).Sn hg).2
      rw [hg]
      simp only [Ahr]
      have vF:=hk l hl
      cases kp0 with
      |none=>trivial
      |some p=>
       obtain ⟨l0,n0⟩:=p
       simp only [KeptAt,ca] at vf⊢
       cases yS:X.ic l0 with
       |none=>
        cases hp:π l with
        |none=>
         rw [hp] at vF
         cases PF:π' l with
         |none=>trivial
         |some q=>rw [PF] at vF;exact vF.elim
        |some q=>rw [yS,hp] at vf;exact vf.elim
       |some r0=>
        cases hp:π l with
        |none=>rw [yS,hp] at vf;exact vf.elim
        |some q=>
         rw [yS,hp] at vf
         rw [hp] at vF
         cases PF:π' l with
         |none=>rw [PF] at vF;exact vF.elim
         |some q'=>
          rw [PF] at vF
          obtain ⟨k1,k2,k3,k4⟩:=vF
          obtain ⟨g1,g2,g3,g4⟩:=vf
          refine ⟨k1.trans g1,k2.trans g2,k3.trans g3,λj hj hc=>?_⟩
          have e1:=g4 j (by omega) hc
          have e2:=k4 j (by omega) (by omega)
          rw [g1,g2] at e2
          rw [<-e1,e2]
     |_=>simp only [OB.GK] at hb;subst hb;exact IA
    ·subst hb;exact IA
  ·rw [Vv] at hl
   cases h2:At st.heap l with
   |none=>exact (h.1.heap l).emp h2
   |some b=>rw [h2] at hl;cases hl
 have WU: ∀c v,Bl X w' π' st.heap c v->Bl X w' π' (dA cC.heap ls n st.heap) c v:= λc v hv=>by
  have m:Move X w' w' π' π' st.heap (dA cC.heap ls n st.heap) (λc=>c):=⟨hac λ_ _ _ _ h=>h,λ_ _ _ _ h=>h⟩
  have:=m.av hv
  rwa [AC.map_id] at this
 refine ⟨⟨h1.1,⟨?_,h.2.defers,λt=>?_⟩⟩,WU⟩
 ·have: ∀(l m:List AV),(Mf ls l m).length=m.length:=by
   intro l
   induction l with
   |nil=>intro m;cases m<;>rfl
   |cons a l ih=>
    intro m
    cases m with
    |nil=>cases a with
     | «at»c=>cases c<;>rfl
     |_=>rfl
    |cons v m=>cases a with
     | «at»c=>cases c<;>simp only [Mf,Ay,ih m]
     |_=>simp only [Mf,Ay,ih m]
  show a.tmps.size=(Mf ls cC.tmps st.tmps).length
  rw [this];exact h.2.size
 ·show Bl X w' π' _ ((Mf ls cC.tmps st.tmps).getD t .undef) _
  rcases gf ls cC.tmps st.tmps t (by rw [<-h0.2.size,<-h.2.size]) with ⟨k,i,c,g1,g2,g3⟩|g
  ·rw [g3]
   have To:k∈ls:=by simpa using g2
   obtain ⟨i1,i2⟩:=uI eU g1 g2
   have hv:=h0.2.tmps t
   rw [show cC.get t=_ from g1] at hv
   obtain ⟨r,b,sz,n',e1,e2,e3,e4,⟨e5,e6⟩,e7⟩:=hv
   obtain ⟨e0,te0,Afn,Asb,kp0,hg⟩:=hg0 k To
   rw [hg] at e1;cases e1
   simp only [OB.gB,Aa,Ae] at e2
   obtain ⟨rfl,rfl⟩:=e2
   have vF:=hk k To
   rw [e3] at vF
   cases PF:π' k with
   |none=>rw [PF] at vF;exact vF.elim
   |some q'=>
    rw [PF] at vF
    obtain ⟨k1,k2,k3,k4⟩:=vF
    have sU:Afn.length<=r.cap:=by
     have:=((h0.1.heap k).Sn hg).1
     rw [e3] at this
     obtain ⟨_,_,_,_,_,_,h5,_⟩:=this
     exact h5
    unfold rR at i2
    split at i2
    ·rename_i e9 te9 An2 Axi kp9 hg9
     refine ⟨q',_,1,An2.length,by rw [Vv,hg9];rfl,?_,PF,i2,⟨e5,e6⟩,?_⟩
     ·dsimp only
      split<;>rfl
     ·have kC:c=0:=by omega
      subst kC
      rw [k1,k2]
      rw [Fm,En] at e7⊢
      rw [k4 i i1 (by omega)];exact e7
    ·omega
  ·rw [g]
   exact WU _ _ (h.2.tmps t)
theorem pH {ins:List (Bool×CK)} {as:List AC} {pl:List Nat} {st:St} :(rn ins as pl st).tmps=st.tmps:=by
 unfold rn
 split
 ·rfl
 ·split<;>rfl
theorem MK {ins:List (Bool×CK)} {as:List AC} {pl:List Nat} {st:St} {m:Nat} (hm:m∉pl):At (rn ins as pl st).heap m=At st.heap m:=by
 unfold rn
 split
 ·rfl
 ·rename_i l r
  split
  ·exact Ed _ _ _ _ λe=>hm (e▸Ky)
  ·rfl
theorem TU {ins:List (Bool×CK)} {as:List AC} {l:Nat} {st:St} {tid:TypeId} {vs:List AC} (hl:At st.heap l=some (.var tid vs)):At (rn ins as [l] st).heap l=some (.var tid (gI ins vs as)):=by
 simp only [rn,St.at,hl]
 exact Ew _ _ _ _ hl
theorem xK {α:Type} (ins:List (Bool×CK)) (as:List α):gI ins [] as= []:=by
 rcases ins with _|⟨⟨_|_,c⟩,r⟩<;>rfl
theorem pA {α:Type} : ∀(ins:List (Bool×CK)) (vs as:List α),(gI ins vs as).length=vs.length
 | [],vs,as=>by rw [gI];all_goals simp
 |p::r,[],as=>by rw [xK]
 |(true,c)::r,v::vs,as=>by simp only [gI,Ay,pA r vs as]
 |(false,c)::r,v::vs,[]=>by rw [gI];all_goals simp
 |(false,c)::r,v::vs,a::as=>by simp only [gI,Ay,pA r vs as]
theorem TJ {st:St} {a:Act} (h:Bh X π st a w) {s:MSpec} {mP:List AV} {vs:List Value} (hlen:mP.length=vs.length) (WU: ∀(i:Nat) c v,mP[i]?=some c->vs[i]?=some v->Bl X w π st.heap c v)
  {pl:List Nat} {cells:List AC} {rest:List AV} (he:QD st s mP=some (pl,cells,rest)):
  ∃(g:Nat) (cus ye:List Value),rest.length=ye.length/\(∀(i:Nat) c v,rest[i]?=some c->ye[i]?=some v->Bl X w π st.heap c v)/\Nn X w π st.heap cells cus/\
   ((s.ptr=none/\pl= []/\cells= []/\cus= []/\vs=ye)\/
    ∃p l q,s.ptr=some p/\pl= [l]/\π l=some q/\q.Cq q.g/\g=q.g/\At st.heap l=some (.var p.1 cells)/\cells.length=p.2/\vs= .pointer (some ⟨g,0,none⟩)::ye/\w.heap[g]?=some (.cells cus.toArray p.1 (0,0))/\Gf X w π st.heap cells cus):=by
 unfold QD at he
 split at he
 ·rename_i hp
  simp only [Aa,Ae] at he
  obtain ⟨rfl,rfl,rfl⟩:=he
  exact ⟨0,[],vs,hlen,WU,trivial, .inl ⟨hp,rfl,rfl,rfl,rfl⟩⟩
 ·rename_i p hp
  split at he
  ·rename_i l i Aub
   split at he
   ·rename_i tid cs hl
    split at he
    ·rename_i hc
     obtain ⟨rfl,hc,rfl⟩:=hc
     simp only [Aa,Ae] at he
     obtain ⟨rfl,rfl,rfl⟩:=he
     unfold St.at at hl
     cases vs with
     |nil=>simp at hlen
     |cons v vs=>
      obtain ⟨r,Vq,vs',h1,h2,rfl⟩:=WU 0 _ v rfl rfl
      rw [hl] at h1;cases h1
      obtain ⟨r',h3,h4,cur,h5,h6⟩:=(h.1.heap l).Sn hl
      rw [h2] at h3;cases h3
      exact ⟨r.g,cur.toList,vs,by simpa using hlen,λi c v h7 h8=>WU (i+1) c v (by simpa using h7) (by simpa using h8),Nn.of h6, .inr ⟨p,l,r,hp,rfl,h2,h4,rfl,hl,hc,rfl,by simpa using h5,h6⟩⟩
    ·cases he
   ·cases he
  ·cases he
theorem ki {V:List Nat} {πc:Pi} {dead part:List Nat} (hπ: ∀l,l∉dead->π' l=π l) (bd: ∀l b sz n,l∉dead->At H l=some b->b.row=some (sz,n)-> ∃b',At H' l=some b'/\b'.row=some (sz,n)):
  ∀(ins:List (Bool×CK)) (k:Nat) (cells oF:List AC) (x:Ins.den ins) (us:List Value) (o:IOs.den ins) (cur st1:St) (news:List AC) (Xx cs:List Value),qS X w π V H πc k ins x (cells++oF) us->Xa ins cells=true->
   Iu ins o (cells++oF) cur=some st1->Eu πc k ins o cells.length cs Xx->Nn X w' π' H' news Xx->Nn X w' π' H' (gI ins (cells.map (Cm dead part)) news) cs
 |ins,k,[],oF,x,us,o,cur,st1,news,Xx,cs,_,_,_,hb,_=>by
  have hb:cs= []:=by rcases ins with _|⟨⟨_|_,c⟩,r⟩<;>(try cases c)<;>simpa [Eu] using hb
  rw [hb,List.map_nil,xK]
  trivial
 | [],k,a::cells,oF,x,us,o,cur,st1,news,Xx,cs,_,hk,_,_,_=>by simp [Xa] at hk
 |(true, .Ft τ)::r,k,a::cells,oF,x,us,o,cur,st1,news,Xx,cs,_,hk,_,_,_=>by simp [Xa] at hk
 |(true, .part e te)::r,k,a::cells,oF,x,us,o,cur,st1,news,Xx,cs,_,hk,_,_,_=>by simp [Xa] at hk
 |(true, .Bp e te _)::r,k,a::cells,oF,x,us,o,cur,st1,news,Xx,cs,_,hk,_,_,_=>by simp [Xa] at hk
 |(true, .row e te)::r,k,a::cells,oF,x,us,o,cur,st1,news,Xx,cs,ht,hk,hp,hb,hn=>by
  cases a<;>simp only [Xa,Cz] at hk
  rename_i l off len
  cases us with
  |nil=>exact ht.elim
  |cons u0 us=>
  cases cs with
  |nil=>exact hb.elim
  |cons u cs=>
  obtain ⟨⟨_,h1⟩,h2⟩:=ht
  simp only [Ur] at h1
  obtain ⟨h3,rfl,rfl,fr,tr,h4⟩:=h1
  obtain ⟨h5,h6⟩:=hb
  simp only [Qc,Iu] at hp
  split at hp
  rotate_left
  ·cases hp
  rename_i aA hpc
  have PB:List.length o.1=List.length x.1:=by
   simp only [cH] at hpc
   repeat' split at hpc
   all_goals first|(cases hpc;done)|(rename_i hc;exact hc.2.1)
  refine ⟨?_,ki hπ bd r (k+1) cells oF x.2 us o.2 aA st1 news Xx cs h2 hk hp h6 hn⟩
  by_cases hd:l∈dead
  ·have:Cm dead part (.own l 0 (List.length x.1))= .undef:=by
    unfold Cm
    rw [Ab (by simp [AC.refs,hd])]
   rw [this];trivial
  ·rw [cQ (by simpa [AC.refs] using hd) (by intro l i j e;rcases e with e|e<;>cases e)]
   obtain ⟨b',g1,g2⟩:=bd l _ e.size (List.length x.1) hd h4 rfl
   refine ⟨b',e.size,List.length x.1,g1,g2,by omega,?_⟩
   rw [hπ l hd]
   rw [h3,PB] at h5
   cases hp:π l<;>(rw [hp] at h5;exact h5)
 |(true, .Ii e te)::r,k,a::cells,oF,x,us,o,cur,st1,news,Xx,cs,ht,hk,hp,hb,hn=>by
  cases a<;>simp only [Xa,Cz] at hk
  rename_i l off len
  cases us with
  |nil=>exact ht.elim
  |cons u0 us=>
  cases cs with
  |nil=>exact hb.elim
  |cons u cs=>
  obtain ⟨⟨_,h1⟩,h2⟩:=ht
  simp only [Ur] at h1
  obtain ⟨h3,rfl,rfl,h4⟩:=h1
  obtain ⟨h5,h6⟩:=hb
  simp only [Qc,Iu] at hp
  split at hp
  rotate_left
  ·cases hp
  rename_i aA hpc
  have PB:List.length o.1=List.length x.1:=by
   simp only [cH] at hpc
   repeat' split at hpc
   all_goals first|(cases hpc;done)|(rename_i hc;exact hc.2.1)
  refine ⟨?_,ki hπ bd r (k+1) cells oF x.2 us o.2 aA st1 news Xx cs h2 hk hp h6 hn⟩
  by_cases hd:l∈dead
  ·have:Cm dead part (.own l 0 (List.length x.1))= .undef:=by
    unfold Cm
    rw [Ab (by simp [AC.refs,hd])]
   rw [this];trivial
  ·rw [cQ (by simpa [AC.refs] using hd) (by intro l i j e;rcases e with e|e<;>cases e)]
   obtain ⟨b',g1,g2⟩:=bd l _ e.size (List.length x.1) hd h4 rfl
   refine ⟨b',e.size,List.length x.1,g1,g2,by omega,?_⟩
   rw [hπ l hd]
   rw [h3,PB] at h5
   cases hp:π l<;>(rw [hp] at h5;exact h5)
 |(false,c)::r,k,a::cells,oF,x,[],o,cur,st1,news,Xx,cs,ht,hk,hp,hb,hn=>ht.elim
 |(false,c)::r,k,a::cells,oF,x,u0::us,o,cur,st1,news,Xx,[],ht,hk,hp,hb,hn=>by cases c<;>exact hb.elim
 |(false,c)::r,k,a::cells,oF,x,u0::us,o,cur,st1,news,[],u::cs,ht,hk,hp,hb,hn=>by cases c<;>exact hb.elim
 |(false,c)::r,k,a::cells,oF,x,u0::us,o,cur,st1,[],u'::Xx,u::cs,ht,hk,hp,hb,hn=>hn.elim
 |(false,c)::r,k,a::cells,oF,x,u0::us,o,cur,st1,na::news,u'::Xx,u::cs,ht,hk,hp,hb,hn=>by
  have hb2:u=u'/\Eu πc (k+1) r o cells.length cs Xx:=by cases c<;>exact hb
  obtain ⟨rfl,hb3⟩:=hb2
  have hp:Iu r o (cells++oF) cur=some st1:=by cases c<;>simpa only [Qc,Iu] using hp
  have hk:Xa r cells=true:=by cases c<;>simpa only [Xa] using hk
  exact ⟨hn.1,ki hπ bd r (k+1) cells oF x.2 us o cur st1 news Xx cs ht.2 hk hp hb3 hn.2⟩
theorem HD {V:List Nat} {πc:Pi} : ∀(cs:List (Bool×CK)) (k0:Nat) (x:Ins.den cs) (as:List AC) (us:List Value),k0+cs.length<100000->qS X w π V H πc k0 cs x as us-> ∀k l,(Ea false k,Loc.row l)∈Mg k0 cs as->πc (Ea false k)=(π l).map full
 | [],_,_,[],_,_,_,_,_,h=>by cases h
 | [],_,_,_::_,_,_,_,_,_,h=>by cases h
 |_::_,_,_,[],_,_,_,_,_,h=>by cases h
 |_::_,_,_,_::_,[],_,h,_,_,_=>h.elim
 |(io,c)::r,k0,x,a::as,u::us,hk,h,k,l,ht=>by
  simp only [Ay] at hk
  simp only [Mg] at ht
  rcases Az.1 ht with ht|ht
  ·obtain ⟨⟨_,h1⟩,_⟩:=h
   cases c with
   |Ft τ=>cases a<;>simp [Rj,views] at ht
   |row e te=>
    cases a<;>simp [Rj] at ht
    obtain ⟨e1,rfl⟩:=ht
    simp only [Ur] at h1
    rw [e1];exact h1.1
   |Ii e te=>
    cases a<;>simp [Rj] at ht
    obtain ⟨e1,rfl⟩:=ht
    simp only [Ur] at h1
    rw [e1];exact h1.1
   |part e te=>
    cases a<;>simp [Rj] at ht
    obtain ⟨e1,rfl⟩:=ht
    simp only [Ur] at h1
    rw [e1];exact h1.2.1
   |Bp e te kp=>
    cases a<;>simp [Rj] at ht
    obtain ⟨e1,rfl⟩:=ht
    simp only [Ur] at h1
    rw [e1];exact h1.2.1
  ·exact HD r (k0+1) x.2 as us (by omega) h.2 k l ht
theorem qV {st:St} {a:Act} (h:Bh X π st a w) {f:FuncId} {s:MSpec} (hs:Dc P f s) (dst:Option Nat) (mP:List AV) (vs:List Value) (hlen:mP.length=vs.length)
  (WU: ∀(i:Nat) c v,mP[i]?=some c->vs[i]?=some v->Bl X w π st.heap c v) (av:AV) (st':St) (he:Yq st dst s mP=some (av,st')):
  Calls P f vs.toArray w λe w'=> ∃v,e= .returned v/\ ∃π',Bh X π' st' a w'/\Bl X w' π' st'.heap av v:=by
 unfold Yq at he
 split at he
 ·cases he
 rename_i pl cells rest Arb
 split at he
 ·cases he
 rename_i oF oH
 split at he
 ·cases he
 rename_i x tks htk
 split at he
 rotate_left
 ·cases he
 rename_i Kk
 simp only [Af,Nt] at Kk
 obtain ⟨⟨⟨⟨IC,sZ⟩,hon⟩,aL⟩,Aku,RS⟩:=Kk
 have RS: ∀l∈pl,l∉(tks.map λt=>t.2.Xy)/\l∉Tl s tks (dst.getD 0):= λl hl=>by
  have:=Bb.1 RS l hl
  simp only [Es,<-Hc,Ke] at this
  exact ⟨λhm=>this (Bj _ hm),λhm=>this (Cf _ hm)⟩
 split at he
 ·cases he
 rename_i r o hfn
 split at he
 ·cases he
 rename_i st1 XO
 obtain ⟨g,cus,ye,XJ,Aq6,Are,hpt⟩:=TJ h hlen WU Arb
 obtain ⟨wz,rfl,IE,Ard⟩:=ar s.Jl rest ye oF XJ Aq6 oH
 have hrc:=Are.append Ard
 have Sa:oI s w g (cus++wz) vs:=by
  unfold oI
  rcases hpt with ⟨h1,_,_,h2,h3⟩|⟨p,l,q,h1,_,_,_,_,_,h2,h3,h4,h5⟩
  ·rw [h1];subst h2;exact ⟨h3,IE⟩
  ·rw [h1]
   have hl:cus.length=p.2:=h5.1.trans h2
   simp only
   rw [List.drop_append_of_le_length (by omega),List.take_append_of_le_length (by omega),List.take_of_length_le (by omega),List.drop_of_length_le (by omega)]
   refine ⟨h3,IE,by simp;omega,h4,λu hu=>?_⟩
   obtain ⟨i,hi,rfl⟩:=Bf.1 hu
   obtain ⟨u',h6,h7,_⟩:=h5.2 i (cells[i]'(by have:=h5.1;omega)) (Ac _)
   rw [Ac hi] at h6
   rw [Bc h6];exact h7
 have RT: ∀l∈pl,∃p q,s.ptr=some p/\pl= [l]/\π l=some q/\q.Cq q.g/\g=q.g/\At st.heap l=some (.var p.1 cells)/\cells.length=p.2:= λl hl=>by
  rcases hpt with ⟨_,h1,_⟩|⟨p,l',q,h1,h2,h3,h4,h5,h6,h7,_⟩
  ·rw [h1] at hl;cases hl
  ·rw [h2] at hl
   have:=Ad.1 hl
   subst this
   exact ⟨p,q,h1,h2,h3,h4,h5,h6,h7⟩
 have RP: ∀b,s.gv g b-> ∃l∈pl,∃q,π l=some q/\q.Cq b/\b=q.g:= λb ⟨h1,h2⟩=>by
  rcases hpt with ⟨h3,_⟩|⟨p,l',q,_,h4,h5,h6,h7,_⟩
  ·rw [h3] at h1;cases h1
  ·exact ⟨l',by rw [h4];exact Ad.2 rfl,q,h5,by rw [h2,h7];exact h6,h2.trans h7⟩
 obtain ⟨as,has⟩: ∃as,as=cells++oF:=⟨_,rfl⟩
 obtain ⟨us,XV⟩: ∃us,us=cus++wz:=⟨_,rfl⟩
 rw [<-has] at hrc htk XO
 rw [<-XV] at hrc Sa
 let V:=(tks.filter λt=>t.2.reads).map λt=>t.2.Xy
 have hV: ∀t∈tks,t.2.reads=true->t.2.Xy∈V:= λt ht hr=>Be.2 ⟨t,Ce.2 ⟨ht,hr⟩,rfl⟩
 have hV': ∀l∈V,∃t∈tks,t.2.reads=true/\t.2.Xy=l:= λl hl=>by
  obtain ⟨t,h1,h2⟩:=Be.1 hl
  exact ⟨t,(Ce.1 h1).1,(Ce.1 h1).2,h2⟩
 clear_value V
 obtain ⟨etk,πc,hT,WX,Aqp,Wz⟩:=uQ h.1 (V:=V) s.ins 0 as us x tks (by omega) hrc htk hV
 have JU:=Zb IC
 rw [etk] at JU
 have ew: ∀b,Wo πc b-> ∃t∈Mg 0 s.ins as,t.2.reads=false/\ ∃q,π t.2.Xy=some q/\q.Cq b/\ ∀l i j,t.2= .sub l i j->b≠q.g:= λb ⟨c,q,h1,h2⟩=>by
  obtain ⟨t,t1,_,t3⟩:=Wz c q b h1 h2
  exact ⟨t,t1,t3⟩
 have JX: ∀b,Wo πc b->Wo π b:= λb hb=>let ⟨t,_,_,q,h1,h2,_⟩:=ew b hb;⟨_,q,h1,h2⟩
 have jV:im πc (λb=>b<w.heap.size):=⟨λl q b h1 h2=>(h.1.own (JX b ⟨l,q,h1,h2⟩)).1,λl l' q q' b h1 h2 h3 h4=>by
  obtain ⟨t,t1,t2,_,p,t3,t4,_⟩:=Wz l q b h1 h3
  obtain ⟨t',t1',t2',_,p',t3',t4',_⟩:=Wz l' q' b h2 h4
  have:=z9 JU t1 t1' (h.1.apart t3 t3' t4 t4')
  rw [<-t2,<-t2',this]⟩
 have Akc: ∀k l,(Ea false k,Loc.row l)∈Mg 0 s.ins as->πc (Ea false k)=(π l).map full:= λk l ht=>
  HD s.ins 0 x as us (by omega) hT k l ht
 have Alz: ∀b,Wo πc b->Pn X π V b:= λb hb=> .inl ⟨JX b hb,λl hl r' hr hf=>by
  obtain ⟨t,t1,t0,q,t3,t4,_⟩:=ew b hb
  obtain ⟨t',t1',t2',rfl⟩:=hV' l hl
  rw [etk] at t1'
  have:=z9 JU t1 t1' (h.1.apart t3 hr t4 hf)
  subst this
  rw [t0] at t2';cases t2'⟩
 let S:Nat->Prop:= λb=> ¬Wo πc b/\Pn X π V b
 have hS: ∀b,S b->b<w.heap.size/\ ¬Wo πc b:= λb hb=>⟨by
  rcases hb.2 with h1|h1
  ·exact (h.1.own h1.1).1
  ·exact Ei (h.1.sc b h1).1 h.1.below.size,hb.1⟩
 have Acs: ∀l∈pl,∀t∈Mg 0 s.ins as,t.2.Xy≠l:= λl hl t ht e=>(RS l hl).1 (Be.2 ⟨t,etk▸ht,e⟩)
 have hSg:s.ptr.isSome=true->S g:= λhps=>by
  obtain ⟨l,hl,q,h1,h2,h3⟩:=RP g ⟨hps,rfl⟩
  have hno: ¬Wo πc g:= λhb=>by
   obtain ⟨t,t1,_,q',t3,t4,_⟩:=ew g hb
   exact Acs l hl t t1 (h.1.apart t3 h1 t4 h2)
  refine ⟨hno, .inl ⟨⟨l,q,h1,h2⟩,λl' Mb r' kF hf=>?_⟩⟩
  obtain ⟨t',t1',_,rfl⟩:=hV' l' Mb
  rw [etk] at t1'
  exact Acs l hl t' t1' (h.1.apart kF h1 hf h2)
 refine (hs.calls w S πc us x r o g vs Sa hSg (eW.Jn (λb hb=>hb.elim (Alz b) λh=>h.2) s.ins 0 x us (hT.Am8 s.ins 0 x as us)) jV hS Aqp hfn).mono ?_
 rintro e w' ⟨v,Xx,BK,rfl,fu,qe,Acg,yO,Ala,XN,Ahm,xd⟩
 obtain ⟨ρ,Ad1,JW,XM,Aes⟩: ∃ρ:Pi,(∀l,ρ l=(BK l).map full)/\Jw w' (kz S πc BK) ρ 0 s.outs r Xx/\im ρ (λb=>b<w'.heap.size/\(w.heap.size<=b\/ ∃l q,l<Bk/\πc l=some q/\q.Cq b))/\ ∀l q,ρ l=some q->q.cl=q.Cq:=by
  have un: ∀l q,(BK l).map full=some q-> ∃q0,BK l=some q0/\q=full q0:= λl q hq=>by
   cases hp:BK l with
   |none=>rw [hp] at hq;cases hq
   |some q0=>rw [hp] at hq;exact ⟨q0,rfl,(Bc hq).symm⟩
  refine ⟨λl=>(BK l).map full,λ_=>rfl,Jw.full s.outs 0 r Xx Ala,⟨λl q b h1 h2=>?_,λl l' q q' b h1 h2 h3 h4=>?_⟩,λl q h1=>?_⟩
  ·obtain ⟨q0,h5,rfl⟩:=un l q h1
   exact XN.aw l q0 b h5 h2
  ·obtain ⟨q0,h5,rfl⟩:=un l q h1
   obtain ⟨q0',h6,rfl⟩:=un l' q' h2
   exact XN.inj l l' q0 q0' b h5 h6 h3 h4
  ·obtain ⟨q0,_,rfl⟩:=un l q h1
   rfl
 refine ⟨v,rfl,?_⟩
 split at he
 ·cases he
 rename_i av0 gX
 split at he
 rotate_left
 ·cases he
 rename_i Yw
 simp only [Aa,Ae] at he
 obtain ⟨rfl,rfl⟩:=he
 let D1:Nat->Prop:=if s.flat then λ_=>True else kz S πc BK
 have Aqs:Mt w' D1 πc 0 s.ins o:=by
  show Mt w' (if s.flat then λ_=>True else kz S πc BK) πc 0 s.ins o
  split
  ·rename_i hf
   unfold MSpec.flat at hf
   simp only [Af] at hf
   exact Mt.any s.ins 0 o hf.2 yO
  ·exact yO
 have Alb:Jw w' D1 ρ 0 s.outs r Xx:=by
  show Jw w' (if s.flat then λ_=>True else kz S πc BK) ρ 0 s.outs r Xx
  split
  ·rename_i hf
   unfold MSpec.flat at hf
   simp only [Af] at hf
   exact Jw.any s.outs 0 r Xx hf.1 JW
  ·exact JW
 obtain ⟨q1,q2,q3,q4⟩:=tX (D:=D1) (X:=X) (π:=π) (H:=st.heap) h.1 Acg.size (tks:=Mg 0 s.ins as) (πc:=πc) (λt ht q b hq hb Lq hn=>Acg.block b Lq λJV=>by
   rcases JV with ⟨c,r',h1,h2⟩|hg
   rotate_left
   ·obtain ⟨l,hl,q',h1,h2,_⟩:=RP b hg
    exact Acs l hl t ht (h.1.apart hq h1 hb h2)
   obtain ⟨t',t1,t2,_,p,t3,t4,_⟩:=Wz c r' b h1 h2
   have:=z9 JU ht t1 (h.1.apart hq t3 hb t4)
   subst this
   exact hn r' (t2▸h1) h2) s.ins 0 x as us o st st1 (by omega) (λ_ h=>h) JU hT Aqs XO (λ_ _=>rfl)
 have Ahc: ∀t∈Mg 0 s.ins as,t.2.reads=true->t.1<Bk:=by
  have: ∀(cs:List (Bool×CK)) (k:Nat) (as:List AC),k+cs.length<100000-> ∀t∈Mg k cs as,t.2.reads=true->t.1<Bk:=by
   intro cs
   induction cs with
   |nil=>intro k as _ t ht;cases as<;>cases ht
   |cons p r ih=>
    intro k as hk t ht hr
    simp only [Ay] at hk
    cases as with
    |nil=>cases ht
    |cons a as=>
     simp only [Mg] at ht
     rcases Az.1 ht with ht|ht
     ·rcases GZ ht with ⟨_,h1⟩|⟨h1,_⟩
      ·rw [hr] at h1;cases h1
      ·rw [h1];exact fQ (by omega)
     ·exact ih (k+1) as (by omega) t ht hr
  exact this s.ins 0 as (by omega)
 let d:=dst.getD 0
 let ks:=Tl s tks d
 let dead:=mY tks++ks++(if s.flat then [] else AW tks)
 let part:=whole tks
 have Arh:s.outs.length+(my s d).length=s.Vn:=by unfold MSpec.Vn my;cases s.rp<;>rfl
 obtain ⟨Agz,Aqz,Af1⟩:ks.length=s.Vn/\ks.Nodup/\ ∀l∈ks,l<Bk:=by
  have:=KK sZ
  rw [Arh] at this
  exact this
 have hno:s.outs.length<=s.Vn:=by unfold MSpec.Vn;omega
 have hvk: ∀tid,s.rp=some tid->Ef ks s.outs.length=Un d/\s.Vn=s.outs.length+1:= λtid Yx=>by
  have h1:s.Vn=s.outs.length+1:=by unfold MSpec.Vn;rw [Yx]
  refine ⟨?_,h1⟩
  have h2:ks=mT s tks d++ [Un d]:=by show mT s tks d++my s d=_;unfold my;rw [Yx]
  have h3:(mT s tks d).length=s.outs.length:=by rw [h2] at Agz;simp at Agz;omega
  rw [So (by rw [Agz];omega)]
  simp only [h2]
  rw [List.getElem_append_right (by omega)]
  simp [h3]
 have XI:=CH Aqz Af1
 have Aqx: ∀j,j<s.Vn->Ef ks j<Bk:= λj hj=>Af1 _ (mem_keys.2 ⟨j,by omega,rfl⟩)
 let π':Pi:= λl=>match (List.range s.Vn).find? λj=>decide (Ef ks j=l) with
  |some j=>ρ (Kx j)
  |none=>if l∈dead then none else π l
 have vE: ∀j,j<s.Vn->π' (Ef ks j)=ρ (Kx j):= λj hj=>by
  show (match (List.range s.Vn).find? λi=>decide (Ef ks i=Ef ks j) with|some i=>ρ (Kx i)|none=>_)=_
  cases hf:(List.range s.Vn).find? λi=>decide (Ef ks i=Ef ks j) with
  |none=>
   have:=List.find?_eq_none.1 hf j (Et.2 hj)
   simp at this
  |some i=>
   have:=List.find?_some hf
   rw [XI i j (Ls this)]
 have sY: ∀j,j<s.Vn->Ef ks j∈dead:= λj hj=>Bj _ (Cf _ (mem_keys.2 ⟨j,by omega,rfl⟩))
 have yP: ∀l,(¬ ∃j,j<s.Vn/\l=Ef ks j)->π' l=if l∈dead then none else π l:= λl hl=>by
  show (match (List.range s.Vn).find? λi=>decide (Ef ks i=l) with|some i=>ρ (Kx i)|none=>_)=_
  cases hf:(List.range s.Vn).find? λi=>decide (Ef ks i=l) with
  |none=>rfl
  |some i=>
   have h1:=List.find?_some hf
   exact absurd ⟨i,Et.1 (List.mem_of_find?_eq_some hf),(Ls h1).symm⟩ hl
 have XZ: ∀l,l∉dead->π' l=π l:= λl hl=>by
  rw [yP l (λ⟨j,h1,h2⟩=>hl (h2▸sY j h1)),Aj hl]
 have hD1: ∀b,Wo π' b\/X.Sc b->D1 b:=by
  intro b hb
  show (if s.flat then λ_=>True else kz S πc BK) b
  split
  ·trivial
  rename_i hnf
  rcases hb with ⟨l,q,hl,hf⟩|hb
  ·by_cases hk: ∃j,j<s.Vn/\l=Ef ks j
   ·obtain ⟨j,hj,rfl⟩:=hk
    rw [vE j hj,Ad1] at hl
    cases hp:BK (Kx j) with
    |none=>rw [hp] at hl;cases hl
    |some q0=>rw [hp] at hl;simp only [Al,Aa] at hl;subst hl;exact .inr (.inr ⟨Kx j,q0,hp,hf⟩)
   ·have e0:π' l=if l∈dead then none else π l:=yP l hk
    rw [e0] at hl
    split at hl
    ·cases hl
    ·rename_i Acp
     by_cases ho:Wo πc b
     ·obtain ⟨c,q',hc,hcb⟩:=ho
      obtain ⟨t,t1,t2,t0,p,t3,t4,_⟩:=Wz c q' b hc hcb
      have yQ:=h.1.apart hl t3 hf t4
      refine .inr (.inl ⟨c,q',Bo λhn=>?_,hc,hcb⟩)
      exact Acp (Bj _ (Bj _ (eC.2 ⟨t,etk▸t1,⟨by rw [t2];omega,t0⟩,yQ.symm⟩)))
     ·refine .inl ⟨ho, .inl ⟨⟨l,q,hl,hf⟩,λl0 hl0 r0 hr0 hf0=>?_⟩⟩
      have:=h.1.apart hl hr0 hf hf0
      subst this
      exact Acp (Cf _ (by rw [Aj hnf];exact tE.2 (hV' l hl0)))
  ·refine .inl ⟨λho=>?_, .inr hb⟩
   have h1:=h.1.sc b hb
   rcases (h.1.own (JX b ho)).2 with h2|h2
   ·omega
   ·exact h1.2 h2
 have hpd: ∀l∈pl,l∉dead:= λl hl hd=>by
  rcases Az.1 hd with hd|hd
  ·rcases Az.1 hd with hd|hd
   ·obtain ⟨t,ht,_,e⟩:=eC.1 hd
    exact (RS l hl).1 (Be.2 ⟨t,ht,e⟩)
   ·exact (RS l hl).2 hd
  ·split at hd
   ·cases hd
   ·obtain ⟨t,ht,_,e⟩:=tE.1 hd
    exact (RS l hl).1 (Be.2 ⟨t,ht,e⟩)
 have Agy: ∀j,j<s.Vn->Ef ks j∉pl:= λj hj hp=>hpd _ hp (sY j hj)
 let bv:Option OB:=s.rp.map λtid=> .var tid ((cf (Ef ks) 0 s.outs r).drop s.aQ)
 let H1:=(rn s.ins (cf (Ef ks) 0 s.outs r) pl (st1.cP dead part)).heap
 have hH1: ∀l,l∉pl->At H1 l=if l∈dead then none else (At st1.heap l).map (OB.map (Cm dead part)):= λl hl=>by
  show At (rn _ _ _ _).heap l=_
  rw [MK hl]
  show At (Yn (st1.heap.map λp=>(p.1,p.2.map (Cm dead part))) dead) l=_
  rw [Oe,Ps]
 let H2:=DT H1 (Un d) bv
 have hvd: ∀tid,s.rp=some tid->Un d∈dead/\Un d∉pl:= λtid Yx=>by
  obtain ⟨e1,e2⟩:=hvk tid Yx
  rw [<-e1]
  exact ⟨sY _ (by omega),Agy _ (by omega)⟩
 have Ak8: ∀l,(∀tid,s.rp=some tid->l≠Un d)->At H2 l=At H1 l:= λl hl=>by
  show At (DT H1 (Un d) (s.rp.map _)) l=_
  cases ID:s.rp with
  |none=>rfl
  |some tid=>exact Qh _ _ _ _ (hl tid ID)
 have Apr: ∀tid,s.rp=some tid->At H2 (Un d)=some (.var tid ((cf (Ef ks) 0 s.outs r).drop s.aQ)):= λtid Yx=>by
  show At (DT H1 (Un d) (s.rp.map _)) (Un d)=_
  rw [Yx]
  exact Rl _ _ _ (by rw [hH1 _ (hvd tid Yx).2,Ab (hvd tid Yx).1])
 have hkv: ∀j,j<s.outs.length-> ∀tid,s.rp=some tid->Ef ks j≠Un d:= λj hj tid Yx e=>by
  have:=XI j s.outs.length (e.trans (hvk tid Yx).1.symm)
  omega
 have hH2: ∀l,l∉pl->(∀tid,s.rp=some tid->l≠Un d)->At H2 l=if l∈dead then none else (At st1.heap l).map (OB.map (Cm dead part)):= λl hl hv=>by
  rw [Ak8 l hv,hH1 l hl]
 let H':=Zc (OP st (mY tks)) (Ef ks) 0 s.outs r H2
 obtain ⟨n1,n2,n3⟩:=qA (D:=D1) (X:=X) (key:=Ef ks) XI (fr:=OP st (mY tks)) (ρ:=ρ) s.outs 0 r Xx H2 Alb (λj _ hj=>by
  rw [hH2 _ (Agy j (by omega)) (hkv j (by omega)),Ab (sY j (by omega))])
 have oZ: ∀l,l∉dead->l∉pl->At H' l=(At st1.heap l).map (OB.map (Cm dead part)):= λl hl r9=>by
  show At (Zc _ _ _ _ _ _) l=_
  rw [n1 l λj _ hj e=>hl (e▸sY j (by omega)),hH2 l r9 (λtid Yx e=>hl (e▸(hvd tid Yx).1)),Aj hl]
 have Acb: ∀l,l∈dead->(∀j,j<s.Vn->l≠Ef ks j)->At H' l=none:= λl hl hj=>by
  show At (Zc _ _ _ _ _ _) l=_
  rw [n1 l λj _ h2=>hj j (by omega),hH2 l (λhp=>hpd l hp hl) (λtid Yx e=>hj s.outs.length (by have:=(hvk tid Yx).2;omega) (e.trans (hvk tid Yx).1.symm)),Ab hl]
 have newAt: ∀l b',At H' l=some b'->(l∈dead\/At st.heap l=none)-> ∃j,j<s.Vn/\l=Ef ks j:=by
  intro l b' hb hd
  refine Bo λhn=>?_
  have rV: ∀j,j<s.Vn->l≠Ef ks j:= λj hj e=>hn ⟨j,hj,e⟩
  rcases Classical.em (l∈dead) with IB|IB
  ·rw [Acb l IB rV] at hb;cases hb
  ·rcases hd with hd|hd
   ·exact IB hd
   ·rw [oZ l IB (λhp=>by obtain ⟨_,_,_,_,_,_,_,h1,_⟩:=RT l hp;rw [hd] at h1;cases h1)] at hb
    have:At st1.heap l=none:=by
     by_cases hi: ∃t∈Mg 0 s.ins as,t.2.Xy=l
     ·obtain ⟨t,ht,e⟩:=hi
      by_cases Lq:t.1<Bk
      ·rw [<-e,q3 t ht Lq,e];exact hd
      ·obtain ⟨b0,_,h1,_⟩:=q4 t ht Lq
       rw [e,hd] at h1;cases h1
     ·rw [q2 l λt ht e=>hi ⟨t,ht,e.symm⟩];exact hd
    rw [this] at hb;cases hb
 have Ago: ∀k,OP st (mY tks)=true-> ∀q,ρ (Kx k)=some q->q.Cq q.g->X.w0.heap.size<=q.g:=by
  intro k yN q hq hg
  rcases (XM.aw _ q _ hq hg).2 with h1|⟨c,p,h1,h2,h3⟩
  ·exact Kh h.1.below.size h1
  ·obtain ⟨t,t1,t2,t0,p',t3,t4,_⟩:=Wz c p _ h2 h3
   have hm:t.2.Xy∈mY tks:=eC.2 ⟨t,etk▸t1,⟨by rw [t2];exact h1,t0⟩,rfl⟩
   have:=Bb.1 yN _ hm
   split at this
   ·rename_i fr tr e te xs hl
    unfold St.at at hl
    have hb:=(h.1.heap t.2.Xy).Sn hl
    simp only [Cg,Kt,t3] at hb
    rw [hb.1.2.1 _ t4]
    exact hb.1.2.2 this
   ·cases this
 have Agm: ∀k q,ρ (Kx k)=some q->k<s.outs.length->q.Cq q.g:=by
  intro k q hq hk
  exact Jw.Aef s.outs 0 r Xx JW k (Kd _) ((Bu _).symm▸hk) q hq
 have hinv: ∀l,l∉dead->(∃t∈Mg 0 s.ins as,t.2.reads=false/\t.2.Xy=l)->mK X D1 w' π st.heap st1.heap l:=by
  rintro l hd ⟨t,ht,h0,rfl⟩
  by_cases Lq:t.1<Bk
  ·exact absurd (Bj _ (Bj _ (eC.2 ⟨t,etk▸ht,⟨Lq,h0⟩,rfl⟩))) hd
  ·exact q4 t ht Lq
 have yR: ∀l,(¬ ∃t∈Mg 0 s.ins as,t.2.reads=false/\t.2.Xy=l)->At st1.heap l=At st.heap l:= λl hn=>by
  by_cases hi: ∃t∈Mg 0 s.ins as,t.2.Xy=l
  ·obtain ⟨t,ht,rfl⟩:=hi
   have hr:t.2.reads=true:=by
    cases h0:t.2.reads with
    |true=>rfl
    |false=>exact absurd ⟨t,ht,h0,rfl⟩ hn
   exact q3 t ht (Ahc t ht hr)
  ·exact q2 l λt ht e=>hi ⟨t,ht,e.symm⟩
 have Ael: ∀l∈pl,∀p,s.ptr=some p->At H' l=some (.var p.1 (gI s.ins (cells.map (Cm dead part)) (cf (Ef ks) 0 s.outs r))):= λl hl p hp=>by
  obtain ⟨p',q,h1,h2,_,_,_,h3,_⟩:=RT l hl
  rw [hp] at h1;cases h1
  show At (Zc _ _ _ _ _ _) l=_
  rw [n1 l λj _ hj e=>Agy j (by omega) (e▸hl),Ak8 l (λtid Yx e=>(hvd tid Yx).2 (e▸hl))]
  show At (rn _ _ _ _).heap l=_
  rw [h2]
  refine TU ?_
  show At (Yn (st1.heap.map λp=>(p.1,p.2.map (Cm dead part))) dead) l=_
  rw [Oe,Ps,Aj (hpd l hl),yR l (λ⟨t,ht,_,e⟩=>Acs l hl t ht e),h3]
  rfl
 have Af3: ∀j,j<s.Vn->s.outs.length<=j-> ∃tid,s.rp=some tid/\j=s.outs.length:= λj h1 h2=>by
  cases ID:s.rp with
  |none=>unfold MSpec.Vn at h1;rw [ID] at h1;simp at h1;omega
  |some tid=>exact ⟨tid,rfl,by have:=(hvk tid ID).2;omega⟩
 have hHv: ∀tid,s.rp=some tid->At H' (Un d)=some (.var tid ((cf (Ef ks) 0 s.outs r).drop s.aQ)):= λtid Yx=>by
  show At (Zc _ _ _ _ _ _) _=_
  rw [n1 _ λj _ hj e=>hkv j (by omega) tid Yx e.symm,Apr tid Yx]
 suffices Aky:Bh X π' (lN st st1 d s pl tks r) a w'/\Bl X w' π' (lN st st1 d s pl tks r).heap av0 v by
  obtain ⟨m1,m2⟩:=Aky
  have re: ∀(kj:List (Nat×Nat)) (l:Nat),l∈c9 st.heap ks tks kj->nH st.heap l=true/\ ∃k j t,(k,j)∈kj/\t∈tks/\t=(Ea false k,Loc.row l)/\ks[j]?=some l:=by
   intro kj
   induction kj with
   |nil=>intro l hl;cases hl
   |cons p kj ih=>
    intro l hl
    obtain ⟨k,j⟩:=p
    have up:l∈c9 st.heap ks tks kj->nH st.heap l=true/\ ∃k' j' t,(k',j')∈(k,j)::kj/\t∈tks/\t=(Ea false k',Loc.row l)/\ks[j']?=some l:= λhl=>by
     obtain ⟨h1,k',j',t,h2,h3⟩:=ih l hl
     exact ⟨h1,k',j',t,An _ h2,h3⟩
    simp only [c9] at hl
    split at hl
    ·rename_i x0 l1 l2 h1 h2
     split at hl
     ·rename_i hc
      simp only [Af] at hc
      rcases Bd.1 hl with rfl|hl
      ·have:=List.find?_some h1
       have e1:=Kg this
       have e2:=Kg hc.1
       dsimp only at e1
       exact ⟨hc.2,k,j,_,Ky,List.mem_of_find?_eq_some h1,by rw [e1],by rw [h2,e2]⟩
      ·exact up hl
     ·exact up hl
    ·exact up hl
  obtain ⟨r1,r2⟩:=KH h m1 (ls:=c9 st.heap ks tks s.keeps) (n:=s.Fw x) (λl hl=>by
   obtain ⟨_,k,j,t,h1,h2,h3,h4⟩:=re s.keeps l hl
   have hj:j<ks.length:=(Am.1 h4).1
   have VM:Ef ks j=l:=by
    rw [So hj]
    rw [Ac hj] at h4
    exact Bc h4
   have vF:=xd (k,j) h1
   rw [show π' l=ρ (Kx j) by rw [<-VM];exact vE j (by omega),Ad1]
   have hc:πc (Ea false k)=(π l).map full:=Akc k l (by rw [<-h3,<-etk];exact h2)
   dsimp only at vF
   rw [hc] at vF
   cases hp:π l<;>cases hq:BK (Kx j)<;>(rw [hp,hq] at vF;exact vF)) (λl hl=>(re s.keeps l hl).1) Yw
  exact ⟨π',r1,r2 av0 v m2⟩
 refine ⟨?_,?_⟩
 ·have hx:=Bh.Aga (π':=π') (H':=H') (dead:=dead) (part:=part) (inv:= λl=>(∃t∈Mg 0 s.ins as,t.2.reads=false/\t.2.Xy=l)\/l∈pl) (gv:= λb=>Wo πc b\/s.gv g b) h (λb hb=>by
    rcases hb with hb|hb
    ·obtain ⟨t,h1,h0,q,h2,h3,_⟩:=ew b hb
     exact ⟨_,q, .inl ⟨t,h1,h0,rfl⟩,h2,h3⟩
    ·obtain ⟨l,hl,q,h1,h2,_⟩:=RP b hb
     exact ⟨l,q, .inr hl,h1,h2⟩) Acg (λl b0 hd h0=>⟨XZ l hd,?_⟩) (λl b' hb hd=>?_) (λl hl=>?_) (λm q hd hp hm hxa=>?_)
  ·have:({tmps:=(rn s.ins (cf (Ef ks) 0 s.outs r) pl (st1.cP dead part)).tmps,heap:=H'} :St)= {tmps:=st.tmps.map (·.map (Cm dead part)),heap:=H'} :=by
    rw [pH]
    show ({tmps:=st1.tmps.map (·.map (Cm dead part)),heap:=H'} :St)=_
    rw [q1]
   show Bh X π' ({tmps:=(rn s.ins (cf (Ef ks) 0 s.outs r) pl (st1.cP dead part)).tmps,heap:=H'} :St) a w'
   rw [this]
   exact hx
  ·by_cases VL:l∈pl
   ·obtain ⟨p,q,h1,h2,h3,h4,h5,h6,h7⟩:=RT l VL
    rw [h0] at h6;cases h6
    have ve:=Ael l VL p h1
    refine .inr ⟨_,ve,⟨rfl,by rw [pA]⟩,λm=>?_⟩
    unfold lH at qe
    rw [h1] at qe
    obtain ⟨cs,k1,k2,k3⟩:=qe
    rw [<-h7] at k3
    refine ⟨q,h3,h4,cs.toArray,by rw [<-h5];exact k1,?_⟩
    refine Nn.to (ki (H:=st.heap) XZ (λl1 b1 sz n hd1 hb1 hr1=>?_) s.ins 0 cells oF x us o st st1 (cf (Ef ks) 0 s.outs r) Xx cs (has▸hT) Aku (has▸XO) k3 (n3 π' hD1 (λj _ hj=>vE j (by omega)))) (by simpa using k2)
    have hnp:l1∉pl:= λhp=>by
     obtain ⟨_,_,_,_,_,_,_,h8,_⟩:=RT l1 hp
     rw [hb1] at h8;cases h8;cases hr1
    by_cases hi: ∃t∈Mg 0 s.ins as,t.2.reads=false/\t.2.Xy=l1
    ·obtain ⟨b1,b',e1,e2,e3,e4,e5,e6⟩:=hinv l1 hd1 hi
     rw [hb1] at e1;cases e1
     exact ⟨b',by rw [oZ l1 hd1 hnp,e2];simp [e4],by rw [e5.row];exact hr1⟩
    ·exact ⟨_,by rw [oZ l1 hd1 hnp,yR l1 hi,hb1];rfl,by rw [OB.zM];exact hr1⟩
   by_cases hi: ∃t∈Mg 0 s.ins as,t.2.reads=false/\t.2.Xy=l
   ·obtain ⟨b1,b',e1,e2,e3,e4,e5,e6⟩:=hinv l hd hi
    rw [h0] at e1;cases e1
    exact .inr ⟨b',by rw [oZ l hd VL,e2];simp [e4],by rw [e3];exact e5,λ_=>e6 π' H' hD1⟩
   ·exact .inl ⟨λhh=>hh.elim hi VL,by rw [oZ l hd VL,yR l hi,h0];rfl⟩
  ·obtain ⟨j,hj,rfl⟩:=newAt l b' hb hd
   refine ⟨Aqx j hj,?_,λq b hq=>?_⟩
   ·rw [vE j hj]
    rcases Nat.lt_or_ge j s.outs.length with hjo|hjo
    ·rcases n2 j (Kd _) (by omega) with ⟨e1,_⟩|⟨b2,e1,e2⟩
     ·rw [show At H' (Ef ks j)=none from e1] at hb;cases hb
     ·rw [show At H' (Ef ks j)=some b2 from e1] at hb;cases hb
      exact e2 X π' H' (λhf q hq=>Ago j hf q hq (Agm j q hq hjo)) hD1
    ·obtain ⟨tid,Yx,hj0⟩:=Af3 j hj hjo
     subst hj0
     rw [(hvk tid Yx).1,hHv tid Yx] at hb;cases hb
     unfold si at fu
     rw [Yx] at fu
     obtain ⟨q,y1,y2,y3,y4,_⟩:=fu
     rw [Ad1,y1]
     exact ⟨full q,rfl,y2,_,y3,Nn.to (Nn.take s.aQ (n3 π' hD1 (λj _ hj=>vE j (by omega)))).2 (by simpa using y4)⟩
   ·rw [vE j hj] at hq
    have Rc:=Aes _ q hq
    refine ⟨λhf=>by rw [Rc];exact hf,λhf=>?_⟩
    rw [Rc] at hf
    obtain ⟨h1,h2⟩:=XM.aw _ q b hq hf
    refine ⟨h1,h2.imp id ?_,λl2 r2 hd2 PH hf2=>?_⟩
    ·rintro ⟨c,p,h3,h4,h5⟩
     obtain ⟨t,t1,t2,t0,p',t3,t4,_⟩:=Wz c p b h4 h5
     exact ⟨t.2.Xy,p',Bj _ (Bj _ (eC.2 ⟨t,etk▸t1,⟨by rw [t2];exact h3,t0⟩,rfl⟩)),t3,t4⟩
    ·by_cases hk: ∃j,j<s.Vn/\l2=Ef ks j
     ·obtain ⟨j2,hj2,rfl⟩:=hk
      rw [vE j2 hj2] at PH
      rw [Aes _ r2 PH] at hf2
      have:=XM.inj _ _ r2 q b PH hq hf2 hf
      unfold Kx at this
      have:j2=j:=by omega
      rw [this]
     ·have e0:π' l2=if l2∈dead then none else π l2:=yP l2 hk
      rw [e0] at PH
      split at PH
      ·cases PH
      ·rename_i Acp
       rcases hd2 with hd2|hd2
       ·exact absurd hd2 Acp
       ·rw [(h.1.heap l2).emp hd2] at PH;cases PH
  ·by_cases hk: ∃j,j<s.Vn/\l=Ef ks j
   ·obtain ⟨j,hj,rfl⟩:=hk
    rw [vE j hj]
    rcases Nat.lt_or_ge j s.outs.length with hjo|hjo
    ·rcases n2 j (Kd _) (by omega) with ⟨_,e1⟩|⟨b2,e1,_⟩
     ·exact e1
     ·rw [show At H' (Ef ks j)=some b2 from e1] at hl;cases hl
    ·obtain ⟨tid,Yx,hj0⟩:=Af3 j hj hjo
     subst hj0
     rw [(hvk tid Yx).1,hHv tid Yx] at hl;cases hl
   ·have e0:π' l=if l∈dead then none else π l:=yP l hk
    rw [e0]
    split
    ·rfl
    ·rename_i hd
     by_cases VL:l∈pl
     ·obtain ⟨p,_,h1,_⟩:=RT l VL
      rw [Ael l VL p h1] at hl;cases hl
     rw [oZ l hd VL] at hl
     by_cases hi: ∃t∈Mg 0 s.ins as,t.2.reads=false/\t.2.Xy=l
     ·obtain ⟨_,b',_,e2,_⟩:=hinv l hd hi
      rw [e2] at hl;cases hl
     ·rw [yR l hi] at hl
      cases h0:At st.heap l with
      |none=>exact (h.1.heap l).emp h0
      |some b=>rw [h0] at hl;cases hl
  ·refine Acg.block _ (h.1.lt hm).1 λJV=>?_
   rcases JV with ho|hg
   rotate_left
   ·obtain ⟨l,hl,q',h1,h2,_⟩:=RP _ hg
    have yQ:=h.1.apart hm h1 (h.1.Cq hm) h2
    obtain ⟨_,_,_,_,_,_,_,h3,_⟩:=RT l hl
    obtain ⟨b,hxa,hxb⟩:=hxa
    rw [yQ,h3] at hxa;cases hxa
    exact hxb rfl
   obtain ⟨t,t1,t0,p,t3,t4,t5⟩:=ew _ ho
   have yQ:=h.1.apart hm t3 (h.1.Cq hm) t4
   have hpq:p=q:=by rw [<-yQ,hm] at t3;exact (Bc t3).symm
   cases ht2:t.2 with
   |row l=>
    refine hp ?_
    show m∈whole tks
    unfold whole
    exact He.2 ⟨t,etk▸t1,by rw [ht2,yQ,ht2];simp [Loc.Xy]⟩
   |sub l i j=>exact t5 l i j ht2 (by rw [hpq])
   |view l=>rw [ht2] at t0;cases t0
 ·have Arf:=n3 π' hD1 (λj _ hj=>vE j (by omega))
  cases ID:s.rp with
  |some tid=>
   unfold si at fu
   rw [ID] at fu
   obtain ⟨q,y1,y2,y3,y4,rfl⟩:=fu
   unfold Adl at gX
   rw [ID] at gX
   simp only [Aa] at gX;subst gX
   refine ⟨full q,tid,_,hHv tid ID,?_,rfl⟩
   rw [<-(hvk tid ID).1,vE _ (by have:=(hvk tid ID).2;omega),Ad1,y1]
   rfl
  |none=>
  unfold si at fu
  rw [ID] at fu
  obtain ⟨fu,Arl⟩:=fu
  unfold Adl at gX
  rw [ID] at gX
  simp only at gX
  obtain ⟨g1,g2,g3,g4⟩:=ek s.Ip _ (Xx.drop s.aQ) Arl (Nn.take s.aQ Arf).2
  unfold An1 at gX
  unfold ZZ at fu
  split at gX
  ·rename_i hm
   rw [Ab hm] at fu
   simp only [Aa] at gX;subst gX
   subst fu
   exact ⟨_,rfl,g3.symm,g4⟩
  ·rename_i hm
   rw [Aj hm] at fu
   split at gX
   ·rename_i av1 hga
    simp only [Aa] at gX;subst gX
    rcases fu with fu|fu
    ·exact g2 0 _ v (by rw [hga];rfl) (by rw [fu];rfl)
    ·rw [hga,fu] at g1;cases g1
   ·simp only [Aa] at gX;subst gX;trivial
   ·cases gX
end
end Go.Proofs.YtkkdpknjohcekaaGreat
