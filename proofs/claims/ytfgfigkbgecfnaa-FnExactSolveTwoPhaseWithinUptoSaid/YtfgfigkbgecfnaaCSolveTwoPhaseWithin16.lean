/-
  Part 17 of the proof that the statement FnExactSolveTwoPhaseWithin holds.
-/
import Derived.Test.YtfgfigkbgecfnaaCSolveTwoPhaseWithin15
namespace Go.Proofs.Ytfgfigkbgecfnaa
open Go.RowKit
section
variable {P:Program} {T:Tab} {X:Ctx} {w w':World} {π π':Pi} {H H':List (Nat×OB)}
theorem bE (k:Nat): ¬Eh true k<Bv:=by unfold Eh Bv;simp
theorem gy {k:Nat} (h:k<100000):Eh false k<Bv:=by unfold Eh Bv;simp;omega
def nv (X:Ctx) (D:Nat->Prop) (w':World) (π:Pi) (H Hn:List (Nat×OB)) (l:Nat):Prop:=
 ∃b0 b',Ay H l=some b0/\Ay Hn l=some b'/\(∀f,OB.map f b0=b0)/\(∀f,OB.map f b'=b')/\b0.fZ b'/\ ∀π' H',(∀b,Wn π' b\/X.Sc b->D b)->Cq X w' π' H' (π l) b'
theorem Adg {io:Bool} {k:Nat} {τ:Ty} {a:AC} {t:Nat×Loc} (h:t∈Qy io k (.Ia τ) a):t.1=Eh false k:=by
 cases a<;>simp [Qy,views] at h<;>first|(obtain ⟨_,⟨_,_⟩,rfl⟩:=h;rfl)|(rw [h])
theorem XL {io:Bool} {k:Nat} {e:Ty} {te:TypeId} {a:AC} {t:Nat×Loc} (h:t∈Qy io k (.part e te) a):t.1=Eh io k:=by cases a<;>simp [Qy] at h<;>rw [h]
theorem Adh {io:Bool} {k:Nat} {e:Ty} {te:TypeId} {a:AC} {t:Nat×Loc} (h:t∈Qy io k (.row e te) a):t.1=Eh io k:=by cases a<;>simp [Qy] at h<;>rw [h]
theorem XM {io:Bool} {k:Nat} {e:Ty} {te:TypeId} {a:AC} {t:Nat×Loc} (h:t∈Qy io k (.Hz e te) a):t.1=Eh io k:=by cases a<;>simp [Qy] at h<;>rw [h]
theorem fM {D:Nat->Prop} {π':Pi} {fr:Bool} {e:Ty} {es:List Value} {y:e.den} (hD: ∀b,Wn π' b\/X.Sc b->D b) (h:Cells w' D e es y):Cells w' (Dk X.w0.heap.size X.Sc π' (fr&&e.flat)) e es y:=by
 cases hf:e.flat with
 |true=>exact Cells.flat e es y hf h
 |false=>exact Cells.Gd (Ap _) (λ_ _ _=>rfl) (λb _ hb=>by
   rcases hb with hb|hb|⟨hb,_⟩
   ·exact hD b (.inl hb)
   ·exact hD b (.inr hb)
   ·simp at hb) e es y h
theorem XN {D P:Nat->Prop} {g o:Nat} {cur:Array Value} {tr:Bool} {e:Ty} {xs:List e.den}
  (h: ∀(i:Nat) (x:e.den),xs[i]?=some x-> ∃es:List Value,es.length=e.size/\(∀j u,es[j]?=some u->cur[(o+i)*e.size+j]?=some u)/\Cells w' D e es x) (ht:(tr&&e.flat)=true):Yh w' P g o cur e xs:=by
 simp only [Ak] at ht;exact nY ht.2 h
theorem WN {D:Nat->Prop} (h:Nm X w π H) {k:Nat} {c:CK} {ys:c.den} {a:AC} {u:Value} {r:Option Real} {x:c.den} {cur st1:St} (hs:w.heap.size<=w'.heap.size)
  (hU: ∀l i j q b,a= .sub l i j->π l=some q->q.Df b->b<w.heap.size->(∀r',r=some r'-> ¬r'.Df b)->w'.heap[b]?=w.heap[b]?)
  {V:List Nat} (ht:fC w (Pg X π V) r u c x/\Um w π H true a u r c x) (hr:gX w' D r c ys) (he:cX cur c ys a=some st1) (iC: ∀t∈Qy true k c a,Ay cur.heap t.2.Xw=Ay H t.2.Xw):
  st1.tmps=cur.tmps/\(∀m,(∀t∈Qy true k c a,m≠t.2.Xw)->Ay st1.heap m=Ay cur.heap m)/\ ∀t∈Qy true k c a,nv X D w' π H st1.heap t.2.Xw:=by
 obtain ⟨hc,ht⟩:=ht
 cases c with
 |Ia τ=>cases a<;>simp [cX] at he;subst he;exact ⟨rfl,λ_ _=>rfl,λt ht=>by simp [Qy] at ht⟩
 |row e te=>
  simp only [Um] at ht
  cases a<;>simp only [] at ht<;>first|(exact ht.elim)|skip
  ·simp only [cX,Aa] at he;subst he;exact ⟨rfl,λ_ _=>rfl,λt ht=>by simp [Qy] at ht⟩
  ·rename_i l off len;obtain ⟨rfl,rfl,rfl,fr,tr,hl⟩:=ht;have Ra:Ay cur.heap l=some (.arr fr tr e te x):=(iC _ (Af.2 rfl)).trans hl;simp only [cX,St.at,Ra] at he;split at he
   ·rename_i Kg;obtain ⟨_,h1,_⟩:=Kg;simp only [Aa] at he;subst he;refine ⟨rfl,λm hm=>Ej _ _ _ _ (hm _ (Af.2 rfl)),λt Wp=>?_⟩;have Wp:=Af.1 Wp;subst Wp;refine ⟨_,_,hl,Ff _ _ _ _ Ra,λ_=>rfl,λ_=>rfl,⟨rfl,h1.symm⟩,λπ' H' hD=>?_⟩;have hb:=(h.heap l).Se hl
    change Cq X w' π' H' (π l) _
    simp only [Cq,Km] at hb⊢
    cases hp:π l with
    |none=>rw [hp] at hr;exact hr
    |some q=>
     rw [hp] at hr hb;obtain ⟨k1,cu,ti,k2,k3,k4,k5,k6⟩:=hr
     exact ⟨⟨k1.1,k1.2,λhh=>hb.1.2.2 (by simp only [Ak] at hh;exact hh.1)⟩,cu,ti,k2,k3,k4,k5,λi y hy=>by
      obtain ⟨es,g1,g2,g3⟩:=k6 i y hy
      exact ⟨es,g1,g2,fM hD g3⟩,λht=>XN k6 ht⟩
   ·cases he
  ·rename_i l i j;obtain ⟨⟨_,hf⟩,tid,xs,hl,hx,q,hq,Xa,hre⟩:=ht;have Ra:Ay cur.heap l=some (.Hl (.slice e) tid xs):=(iC _ (Af.2 rfl)).trans hl;simp only [cX,St.at,Ra,hx] at he;rw [Jj trivial] at he
   ·split at he
    ·rename_i h1;simp only [Aa] at he;subst he;refine ⟨rfl,λm hm=>Ej _ _ _ _ (hm _ (Af.2 rfl)),λt Wp=>?_⟩;have Wp:=Af.1 Wp;subst Wp;refine ⟨_,_,hl,Ff _ _ _ _ Ra,λ_=>rfl,λ_=>rfl,⟨rfl,by simp⟩,λπ' H' _=>?_⟩;show On w' (π l) (.slice e) tid _;rw [hq];refine hre w' ys hs (λb Kr hb hn=>hU l i j q b rfl hq hb Kr hn) ?_;have hv:=hc.1;rw [<-show List.length ys=List.length x from h1] at hv;exact Tr.QM hr hf hv
    ·cases he
 |Hz e te=>
  simp only [Um] at ht
  cases a<;>simp only [] at ht<;>first|(exact ht.elim)|skip
  ·simp only [cX,Aa] at he;subst he;exact ⟨rfl,λ_ _=>rfl,λt ht=>by simp [Qy] at ht⟩
  ·rename_i l off len;obtain ⟨rfl,rfl,rfl,hl⟩:=ht;have Ra:Ay cur.heap l=some (.Hl e te x):=(iC _ (Af.2 rfl)).trans hl;simp only [cX,St.at,Ra] at he;split at he
   ·rename_i Kg;obtain ⟨_,h1,_⟩:=Kg;simp only [Aa] at he;subst he;refine ⟨rfl,λm hm=>Ej _ _ _ _ (hm _ (Af.2 rfl)),λt Wp=>?_⟩;have Wp:=Af.1 Wp;subst Wp;refine ⟨_,_,hl,Ff _ _ _ _ Ra,λ_=>rfl,λ_=>rfl,⟨rfl,h1.symm⟩,λπ' H' _=>?_⟩;show On w' (π l) e te _
    cases hp:π l with
    |none=>rw [hp] at hr;exact hr
    |some q=>rw [hp] at hr;exact hr
   ·cases he
  ·rename_i l i j;obtain ⟨_,tid,xs,hl,hx,q,hq,Xa,hre⟩:=ht;have Ra:Ay cur.heap l=some (.Hl (.slice e) tid xs):=(iC _ (Af.2 rfl)).trans hl;simp only [cX,St.at,Ra,hx] at he;rw [Jj trivial] at he
   ·split at he
    ·rename_i h1;simp only [Aa] at he;subst he;refine ⟨rfl,λm hm=>Ej _ _ _ _ (hm _ (Af.2 rfl)),λt Wp=>?_⟩;have Wp:=Af.1 Wp;subst Wp;refine ⟨_,_,hl,Ff _ _ _ _ Ra,λ_=>rfl,λ_=>rfl,⟨rfl,by simp⟩,λπ' H' _=>?_⟩;show On w' (π l) (.slice e) tid _;rw [hq];refine hre w' ys hs (λb Kr hb hn=>hU l i j q b rfl hq hb Kr hn) ?_;have hv:=hc.1;rw [<-show List.length ys=List.length x from h1] at hv;exact On.QM (te:=te) hr hv
    ·cases he
 |part e te=>cases a<;>simp [cX] at he<;>first|(simp only [Um] at ht;exact ht.2.elim)
 |Ca e te kp=>exact absurd ht.1 (by simp)
theorem WO {D:Nat->Prop} (h:Nm X w π H) {k:Nat} {e:Ty} {te:TypeId} {ys:List e.den} {a:AC} {u:Value} {r:Option Real} {x:(CK.part e te).den} {cur st1:St}
  {V:List Nat} (ht:fC w (Pg X π V) r u (.part e te) x/\Um w π H true a u r (.part e te) x) (hr:gX w' D r (.row e te) ys) (he:OY cur e ys a=some st1) (iC: ∀t∈Qy true k (.part e te) a,Ay cur.heap t.2.Xw=Ay H t.2.Xw):
  st1.tmps=cur.tmps/\(∀m,(∀t∈Qy true k (.part e te) a,m≠t.2.Xw)->Ay st1.heap m=Ay cur.heap m)/\ ∀t∈Qy true k (.part e te) a,nv X D w' π H st1.heap t.2.Xw:=by
 obtain ⟨hc,hf,ht⟩:=ht
 cases a<;>simp only [] at ht<;>first|(exact ht.elim)|skip
 rename_i l off len;obtain ⟨rfl,_,fr,tr,hl⟩:=ht;have Ra:Ay cur.heap l=some (.arr fr tr e te x.1):=(iC _ (Af.2 rfl)).trans hl;simp only [OY,St.at,Ra] at he;split at he
 ·rename_i Kg;obtain ⟨_,h1⟩:=Kg;simp only [Aa] at he;subst he;refine ⟨rfl,λm hm=>Ej _ _ _ _ (hm _ (Af.2 rfl)),λt Wp=>?_⟩;have Wp:=Af.1 Wp;subst Wp;refine ⟨_,_,hl,Ff _ _ _ _ Ra,λ_=>rfl,λ_=>rfl,⟨rfl,h1.symm⟩,λπ' H' _=>?_⟩;have hb:=(h.heap l).Se hl
  change Cq X w' π' H' (π l) _
  simp only [Cq,Km] at hb⊢
  cases hp:π l with
  |none=>rw [hp] at hr;exact hr
  |some q=>
   rw [hp] at hr hb;obtain ⟨k1,cu,ti,k2,k3,k4,k5,k6⟩:=hr
   exact ⟨⟨k1.1,k1.2,hb.1.2.2⟩,cu,ti,k2,k3,k4,k5,λi y hy=>by
    obtain ⟨es,g1,g2,g3⟩:=k6 i y hy
    exact ⟨es,g1,g2,Cells.flat e es y hf g3⟩,λ_=>nY hf k6⟩
 ·cases he
def sv (X:Ctx) (D:Nat->Prop) (w':World) (π:Pi) (H:List (Nat×OB)) (tk:List (Nat×Loc)) (cur st1:St):Prop:=
 st1.tmps=cur.tmps/\(∀m,(∀t∈tk,m≠t.2.Xw)->Ay st1.heap m=Ay cur.heap m)/\(∀t∈tk,t.1<Bv->Ay st1.heap t.2.Xw=Ay cur.heap t.2.Xw)/\(∀t∈tk,¬t.1<Bv->nv X D w' π H st1.heap t.2.Xw)
theorem uS {D:Nat->Prop} (h:Nm X w π H) {V:List Nat} {πc:Pi} {tks:List (Nat×Loc)} (hs:w.heap.size<=w'.heap.size)
  (hU: ∀t∈tks,∀q b,π t.2.Xw=some q->q.Df b->b<w.heap.size->(∀r',πc t.1=some r'-> ¬r'.Df b)->w'.heap[b]?=w.heap[b]?):
  ∀(cs:List (Bool×CK)) (k:Nat) (x:Ins.den cs) (as:List AC) (us:List Value) (o:IOs.den cs) (cur st1:St),k+cs.length<100000->(∀t∈Mi k cs as,t∈tks)->((Mi k cs as).map λt=>t.2.Xw).Nodup->
   rY X w π V H πc k cs x as us->Mu w' D πc k cs o->Il cs o as cur=some st1->(∀t∈Mi k cs as,Ay cur.heap t.2.Xw=Ay H t.2.Xw)->
   sv X D w' π H (Mi k cs as) cur st1
 | [],k,x,as,us,o,cur,st1,_,_,_,_,_,he,_=>by
  simp only [Il,Aa] at he;subst he
  have e0:Mi k [] as= []:=by cases as<;>rfl
  exact ⟨rfl,λ_ _=>rfl,by rw [e0];simp,by rw [e0];simp⟩
 |p::r,k,x,[],us,o,cur,st1,_,_,_,ht,_,_,_=>ht.elim
 |p::r,k,x,a::as,[],o,cur,st1,_,_,_,ht,_,_,_=>ht.elim
 |(io,c)::r,k,x,a::as,u::us,o,cur,st1,hk,Oy,sd,ht,ho,he,iC=>by
  simp only [Aw] at hk;simp only [Mi] at Oy sd iC⊢;rw [Hj] at sd;obtain ⟨n1,n2,n3⟩:=Ee.1 sd;have apart: ∀t∈Qy io k c a,∀t'∈Mi (k+1) r as,t'.2.Xw≠t.2.Xw:= λt h1 t' h2 e=>n3 _ (Bh.2 ⟨t,h1,rfl⟩) _ (Bh.2 ⟨t',h2,rfl⟩) e.symm
  have rest: ∀(aI:St) (o':IOs.den r),Mu w' D πc (k+1) r o'->Il r o' as aI=some st1->aI.tmps=cur.tmps->(∀m,(∀t∈Qy io k c a,m≠t.2.Xw)->Ay aI.heap m=Ay cur.heap m)->
    (∀t∈Qy io k c a,t.1<Bv->Ay aI.heap t.2.Xw=Ay cur.heap t.2.Xw)->(∀t∈Qy io k c a,¬t.1<Bv->nv X D w' π H aI.heap t.2.Xw)->
    sv X D w' π H (Qy io k c a++Mi (k+1) r as) cur st1:=by
   intro aI o' h1 h2 h3 h4 h5 h6
   obtain ⟨g1,g2,g3,g4⟩:=uS h hs hU r (k+1) x.2 as us o' aI st1 (by omega) (λt ht=>Oy t (Cm _ ht)) n2 ht.2 h1 h2 (λt Wp=>by
    rw [h4 _ λt0 ht0=>apart t0 ht0 t Wp];exact iC t (Cm _ Wp))
   have hd: ∀t∈Qy io k c a,Ay st1.heap t.2.Xw=Ay aI.heap t.2.Xw:= λt Wp=>g2 _ λt' r6=>(apart t Wp t' r6).symm;refine ⟨g1.trans h3,λm hm=>?_,λt Wp Kr=>?_,λt Wp Kr=>?_⟩
   ·rw [g2 m λt ht=>hm t (Cm _ ht),h4 m λt ht=>hm t (Bo _ ht)]
   ·rcases Be.1 Wp with Wp|Wp
    ·rw [hd t Wp,h5 t Wp Kr]
    ·rw [g3 t Wp Kr,h4 _ λt0 ht0=>apart t0 ht0 t Wp]
   ·rcases Be.1 Wp with Wp|Wp
    ·obtain ⟨b0,b',q1,q2,q3⟩:=h6 t Wp Kr;exact ⟨b0,b',q1,(hd t Wp).trans q2,q3⟩
    ·exact g4 t Wp Kr
  have same: ∀o',Mu w' D πc (k+1) r o'->Il r o' as cur=some st1->(∀t∈Qy io k c a,t.1<Bv)->sv X D w' π H (Qy io k c a++Mi (k+1) r as) cur st1:= λo' h1 h2 h3=>rest cur o' h1 h2 rfl (λ_ _=>rfl) (λ_ _ _=>rfl) (λt h4 h5=>absurd (h3 t h4) h5)
  cases io with
  |false=>
   have h3: ∀t∈Qy false k c a,t.1<Bv:= λt h4=>by rcases KA h4 with ⟨h5,_⟩|⟨h5,_⟩<;>(rw [h5];exact gy (by omega))
   cases c with
   |Ia τ=>exact same o ho (by simpa only [Il] using he) h3
   |row e te=>exact same o ho (by simpa only [Il] using he) h3
   |Hz e te=>exact same o ho (by simpa only [Il] using he) h3
   |part e te=>exact same o ho (by simpa only [Il] using he) h3
   |Ca e te kp=>exact same o ho (by simpa only [Il] using he) h3
  |true=>
   have row: ∀(ys:c.den) (o':IOs.den r),(∀t∈Qy true k c a,t.1=Eh true k)->gX w' D (πc (Eh true k)) c ys->Mu w' D πc (k+1) r o'->(∃aI,cX cur c ys a=some aI/\Il r o' as aI=some st1)->sv X D w' π H (Qy true k c a++Mi (k+1) r as) cur st1:=by
    intro ys o' h0 h1 h2 h3;obtain ⟨aI,hp,h3⟩:=h3
    ·obtain ⟨q1,q2,q3⟩:=WN (k:=k) h hs (λl i j q b ea hq hb Kr hn=>by
      cases c with
      |Ia τ=>exact absurd (ht.1.2:πc _=none) (by subst ea;simp [cX] at hp)
      |row e te=>subst ea;exact hU (Eh true k, .sub l i j) (Oy _ (Bo _ (Af.2 rfl))) q b hq hb Kr hn
      |Hz e te=>subst ea;exact hU (Eh true k, .sub l i j) (Oy _ (Bo _ (Af.2 rfl))) q b hq hb Kr hn
      |Ca e te kp=>exact absurd ht.1.2.1 (by simp)
      |part e te=>exact absurd ht.1.2.2 (by subst ea;exact λh=>h)) ht.1 h1 hp (λt Wp=>iC t (Bo _ Wp))
     exact rest aI o' h2 h3 q1 q2 (λt h4 h5=>absurd h5 (by rw [h0 t h4];exact bE k)) (λt h4 _=>q3 t h4)
   cases c with
   |Ia τ=>exact same o ho (by simpa only [Il] using he) (λt h4=>by rw [Adg h4];exact gy (by omega))
   |Ca e te kp=>exact absurd ht.1.2.1 (by simp)
   |row e te=>
    simp only [Il] at he;split at he
    ·rename_i aI hp;exact row o.1 o.2 (λt ht=>Adh ht) ho.1 ho.2 ⟨aI,hp,he⟩
    ·cases he
   |Hz e te=>
    simp only [Il] at he;split at he
    ·rename_i aI hp;exact row o.1 o.2 (λt ht=>XM ht) ho.1 ho.2 ⟨aI,hp,he⟩
    ·cases he
   |part e te=>
    simp only [Il] at he;split at he
    ·rename_i aI hp;obtain ⟨q1,q2,q3⟩:=WO (k:=k) h ht.1 ho.1 hp (λt Wp=>iC t (Bo _ Wp));exact rest aI o.2 ho.2 he q1 q2 (λt h4 h5=>absurd h5 (by rw [XL h4];exact bE k)) (λt h4 _=>q3 t h4)
    ·cases he
theorem OE {fr:Bool} {c:CK} {x:c.den} {u:Value} {r:Option Real} {D:Nat->Prop} (h:fC w' D r u c x):
  (wS fr c x=none/\r=none)\/ ∃b',wS fr c x=some b'/\ ∀(X:Ctx) π' H',(fr=true-> ∀q,r=some q->X.w0.heap.size<=q.g)->(∀b,Wn π' b\/X.Sc b->D b)->Cq X w' π' H' r b':=by
 cases c with
 |Ia τ=>exact .inl ⟨rfl,h.1⟩
 |row e te=>
  refine .inr ⟨_,rfl,λX π' H' zK hD=>?_⟩;obtain ⟨_,h⟩:=h;simp only [gX] at h;simp only [Cq,Km]
  cases r with
  |none=>exact h
  |some q=>
   obtain ⟨k1,cu,ti,k2,k3,k4,k5,k6⟩:=h
   exact ⟨⟨k1.1,k1.2,λh1=>zK (by simp only [Ak] at h1;exact h1.1) q rfl⟩,cu,ti,k2,k3,k4,k5,λi y hy=>by
    obtain ⟨es,g1,g2,g3⟩:=k6 i y hy
    exact ⟨es,g1,g2,fM hD g3⟩,λh=>by cases h⟩
 |Hz e te=>exact .inr ⟨_,rfl,λX π' H' _ _=>h.2⟩
 |Ca e te kp=>exact .inr ⟨_,rfl,λX π' H' _ hD=>⟨aP.Jg h.2 λb hb=>hD b (hb.imp id λh=>h.elim id λh=>by cases h.1),trivial⟩⟩
 |part e te=>
  refine .inr ⟨_,rfl,λX π' H' zK hD=>?_⟩;obtain ⟨_,hf,h⟩:=h;simp only [Cq,Km]
  cases r with
  |none=>exact h
  |some q=>
   obtain ⟨k1,cu,ti,k2,k3,k4,k5,k6⟩:=h
   exact ⟨⟨k1.1,k1.2,λh1=>zK (by simp only [Ak] at h1;exact h1.1) q rfl⟩,cu,ti,k2,k3,k4,k5,λi y hy=>by
    obtain ⟨es,g1,g2,g3⟩:=k6 i y hy
    exact ⟨es,g1,g2,fM hD g3⟩,λh=>by cases h⟩
theorem ry {D:Nat->Prop} {key:Nat->Nat} (NA: ∀i j,key i=key j->i=j) {fr:Bool} {ρ:Pi} : ∀(cs:List CK) (k:Nat) (x:CKs.den cs) (us:List Value) (H:List (Nat×OB)),Jr w' D ρ k cs x us->
  (∀j,k<=j->j<k+cs.length->Ay H (key j)=none)->
  (∀l,(∀j,k<=j->j<k+cs.length->l≠key j)->Ay (Zb fr key k cs x H) l=Ay H l)/\
  (∀j,k<=j->j<k+cs.length->(Ay (Zb fr key k cs x H) (key j)=none/\ρ (Kt j)=none)\/
   ∃b',Ay (Zb fr key k cs x H) (key j)=some b'/\ ∀(X:Ctx) π' H',(fr=true-> ∀q,ρ (Kt j)=some q->X.w0.heap.size<=q.g)->(∀b,Wn π' b\/X.Sc b->D b)->Cq X w' π' H' (ρ (Kt j)) b')/\
  (∀π',(∀b,Wn π' b\/X.Sc b->D b)->(∀j,k<=j->j<k+cs.length->π' (key j)=ρ (Kt j))->Nn X w' π' (Zb fr key k cs x H) (cw key k cs x) us)
 | [],k,x,[],H,_,_=>⟨λ_ _=>rfl,λj h1 h2=>by simp at h2;omega,λ_ _ _=>trivial⟩
 | [],_,_,_::_,_,h,_=>h.elim
 |_::_,_,_,[],_,h,_=>h.elim
 |c::r,k,x,u::us,H,h,hn=>by
  simp only [Aw] at hn⊢;simp only [Zb,cw];have u7:=hn k (Ap _) (by omega)
  have hH1: ∀l,l≠key k->Ay (GL H (key k) (wS fr c x.1)) l=Ay H l:=by
   intro l hl
   cases wS fr c x.1 with
   |some b=>exact Pv _ _ _ _ hl
   |none=>rfl
  have Aok:Ay (GL H (key k) (wS fr c x.1)) (key k)=wS fr c x.1:=by
   cases wS fr c x.1 with
   |some b=>exact Rb _ _ _ u7
   |none=>exact u7
  generalize (GL H (key k) (wS fr c x.1))=H1 at hH1 Aok⊢
  obtain ⟨g1,g2,g3⟩:=ry NA (fr:=fr) r (k+1) x.2 us H1 h.2 (λj h1 h2=>by
   rw [hH1 _ λe=>by have:=NA _ _ e;omega];exact hn j (by omega) (by omega))
  have NB:Ay (Zb fr key (k+1) r x.2 H1) (key k)=wS fr c x.1:=by
   rw [g1 _ λj h1 h2 e=>by have:=NA _ _ e;omega];exact Aok
  refine ⟨λl hl=>?_,λj h1 h2=>?_,λπ' hd hπ=>⟨?_,?_⟩⟩
  ·rw [g1 l λj h1 h2=>hl j (by omega) (by omega)];exact hH1 l (hl k (Ap _) (by omega))
  ·rcases Nat.eq_or_lt_of_le h1 with e|h1
   ·subst e;rw [NB];exact OE h.1
   ·exact g2 j h1 (by omega)
  ·have h1:=h.1;have hpk:=hπ k (Ap _) (by omega)
   cases c with
   |Ia τ=>
    obtain ⟨j9,c1,c2⟩:=h1.2;exact ⟨j9,by have:=fM (fr:=true) hd c1;simpa using this,c2⟩
   |row e te=>exact ⟨_,e.size,List.length x.1,NB,rfl,by simp,by rw [hpk];exact h1.1⟩
   |Hz e te=>exact ⟨_,e.size,List.length x.1,NB,rfl,by simp,by rw [hpk];exact h1.1⟩
   |Ca e te kp=>exact ⟨_,1,List.length x.1,NB,rfl,by simp,by rw [hpk];exact h1.1⟩
   |part e te=>trivial
  ·exact g3 π' hd λj h1 h2=>hπ j (by omega) (by omega)
theorem NT {ks:List Nat} {n:Nat} (h:AF ks n=true):ks.length=n/\ks.Nodup/\ ∀l∈ks,l<Bv:=by
 unfold AF at h;simp only [Ak] at h;refine ⟨Kd h.1,Za h.2.1,λl hl=>?_⟩;have:=Bk.1 h.2.2 l hl;simpa using this
theorem Sh {ks:List Nat} {j:Nat} (h:j<ks.length):Em ks j=ks[j]:=by
 unfold Em;rw [Ad h]
theorem EW {ks:List Nat} (hn:ks.Nodup) (hl: ∀l∈ks,l<Bv): ∀i j,Em ks i=Em ks j->i=j:=by
 intro i j h
 by_cases hi:i<ks.length
 ·by_cases hj:j<ks.length
  ·rw [Sh hi,Sh hj] at h;rcases Nat.lt_trichotomy i j with Kr|he|Kr
   ·exact absurd h (Fu.1 hn i j hi hj Kr)
   ·exact he
   ·exact absurd h.symm (Fu.1 hn j i hj hi Kr)
  ·have h1:=hl _ (Ah hi);rw [Sh hi] at h;unfold Em at h;rw [Dv (by omega)] at h;simp only at h;omega
 ·by_cases hj:j<ks.length
  ·have h1:=hl _ (Ah hj);rw [Sh hj] at h;unfold Em at h;rw [Dv (by omega)] at h;simp only at h;omega
  ·unfold Em at h;rw [Dv (by omega),Dv (by omega)] at h;simp only at h;omega
theorem Oh: ∀(H:List (Nat×OB)) (dead:List Nat) (l:Nat),Ay (Yn H dead) l=if l∈dead then none else Ay H l
 | [],dead,l=>by simp [Yn,Ay]
 |(k,b)::r,dead,l=>by
  simp only [Yn];have ih:=Oh r dead l
  by_cases hk:k∈dead
  ·rw [Ac (by simpa using hk),ih];split
   ·rfl
   ·rename_i hl;simp only [Ay];rw [Ai (λ(e:k=l)=>hl (e▸hk))]
  ·rw [Ai (by simpa using hk)];simp only [Ay];split
   ·rename_i e;subst e;rw [Ai hk]
   ·exact ih
theorem mem_keys {ks:List Nat} {l:Nat} :l∈ks↔ ∃k,k<ks.length/\l=Em ks k:=
 ⟨λh=>by obtain ⟨k,hk,e⟩:=Sa h;exact ⟨k,hk,by rw [Sh hk,e]⟩,λ⟨k,hk,e⟩=>by rw [e,Sh hk];exact Ah hk⟩
theorem eY {tks:List (Nat×Loc)} {l:Nat} :l∈nM tks↔ ∃t∈tks,(t.1<Bv/\t.2.reads=false)/\t.2.Xw=l:=by
 unfold nM;simp only [Bh,Ck,Ak,Nv,Fy];exact ⟨λ⟨t,⟨h1,h2⟩,h3⟩=>⟨t,h1,h2,h3⟩,λ⟨t,h1,h2,h3⟩=>⟨t,⟨h1,h2⟩,h3⟩⟩
theorem AG {tks:List (Nat×Loc)} (h:(tks.map λt=>t.2.Xw).Nodup) {t t':Nat×Loc} (ht:t∈tks) (r6:t'∈tks) (he:t.2.Xw=t'.2.Xw):t=t':=by
 induction tks with
 |nil=>cases ht
 |cons a r ih=>
  simp only [Cb] at h;obtain ⟨h1,h2⟩:=Cn.1 h
  rcases Bd.1 ht with rfl|ht<;>rcases Bd.1 r6 with rfl|r6
  ·rfl
  ·exact (h1 (Bh.2 ⟨t',r6,he.symm⟩)).elim
  ·exact (h1 (he▸Bh.2 ⟨t,‹t∈r›,rfl⟩)).elim
  ·exact ih h2 ht r6
theorem Jr.full {D:Nat->Prop} {ρ:Pi} : ∀(cs:List CK) (k:Nat) (x:CKs.den cs) (us:List Value),Jr w D ρ k cs x us->Jr w D (λl=>(ρ l).map full) k cs x us
 | [],_,_,[],h=>h
 | [],_,_,_::_,h=>h.elim
 |_::_,_,_,[],h=>h.elim
 |c::r,k,x,u::us,h=>⟨by
   have h1:=h.1;show fC w D ((ρ (Kt k)).map _) u c x.1
   cases c with
   |Ia τ=>rw [h1.1];exact ⟨rfl,h1.2⟩
   |row e te=>cases hp:ρ (Kt k)<;>(rw [hp] at h1;exact h1)
   |Hz e te=>cases hp:ρ (Kt k)<;>(rw [hp] at h1;exact h1)
   |Ca e te kp=>cases hp:ρ (Kt k)<;>(rw [hp] at h1;exact h1)
   |part e te=>cases hp:ρ (Kt k)<;>(rw [hp] at h1;exact h1),Jr.full r (k+1) x.2 us h.2⟩
theorem Jr.Ahq {D:Nat->Prop} {ρ:Pi} : ∀(cs:List CK) (k0:Nat) (x:CKs.den cs) (us:List Value),Jr w D ρ k0 cs x us-> ∀j,k0<=j->j<k0+cs.length-> ∀q,ρ (Kt j)=some q->q.Df q.g
 | [],k0,_,_,_,j,h1,h2,_,_=>by simp at h2;omega
 |_::_,_,_,[],h,_,_,_,_,_=>h.elim
 |c::r,k0,x,u::us,ho,j,h1,h2,q,hq=>by
  rcases Nat.eq_or_lt_of_le h1 with e|h1
  ·subst e;have:=ho.1
   cases c with
   |Ia τ=>rw [hq] at this;cases this.1
   |row e te=>rw [hq] at this;exact this.2.1.1
   |Hz e te=>rw [hq] at this;exact this.2.1
   |part e te=>rw [hq] at this;exact this.2.2.1.1
   |Ca e te kp=>rw [hq] at this;exact this.2.1
  ·exact Jr.Ahq r (k0+1) x.2 us ho.2 j h1 (by simp at h2;omega) q hq
theorem Tr.any {D D':Nat->Prop} {r:Option Real} {e:Ty} {xs:List e.den} (hf:e.flat=true) (h:Tr w D r e xs):Tr w D' r e xs:=by
 cases r with
 |none=>exact h
 |some r=>
  obtain ⟨k1,cu,ti,k2,k3,k4,k5,k6⟩:=h
  exact ⟨k1,cu,ti,k2,k3,k4,k5,λi y hy=>by
   obtain ⟨es,g1,g2,g3⟩:=k6 i y hy
   exact ⟨es,g1,g2,Cells.flat e es y hf g3⟩⟩
theorem Jr.any {D D':Nat->Prop} {ρ:Pi} : ∀(cs:List CK) (k:Nat) (x:CKs.den cs) (us:List Value),cs.all (·.flat)=true->Jr w D ρ k cs x us->Jr w D' ρ k cs x us
 | [],_,_,[],_,h=>h
 | [],_,_,_::_,_,h=>h.elim
 |_::_,_,_,[],_,h=>h.elim
 |c::r,k,x,u::us,hf,h=>by
  simp only [Jz,Ak] at hf;refine ⟨?_,Jr.any r (k+1) x.2 us hf.2 h.2⟩;have h1:=h.1
  cases c with
  |Ia τ=>exact ⟨h1.1,Dd.flat hf.1 h1.2⟩
  |row e te=>exact ⟨h1.1,Tr.any hf.1 h1.2⟩
  |Hz e te=>exact h1
  |part e te=>exact ⟨h1.1,h1.2.1,Tr.any hf.1 h1.2.2⟩
  |Ca e te kp=>exact absurd hf.1 (by simp [CK.flat])
theorem Mu.any {D D':Nat->Prop} {π:Pi} : ∀(cs:List (Bool×CK)) (k:Nat) (x:IOs.den cs),(cs.all λp=>!p.1||p.2.flat)=true->Mu w D π k cs x->Mu w D' π k cs x
 | [],_,_,_,h=>h
 |(false,_)::r,k,x,hf,h=>Mu.any r (k+1) x (by simp only [Jz,Ak] at hf;exact hf.2) h
 |(true, .Ia _)::r,k,x,hf,h=>Mu.any r (k+1) x (by simp only [Jz,Ak] at hf;exact hf.2) h
 |(true, .Ca _ _ _)::r,k,x,hf,h=>Mu.any r (k+1) x (by simp only [Jz,Ak] at hf;exact hf.2) h
 |(true, .row e te)::r,k,x,hf,h=>by
  simp only [Jz,Ak,Bool.not_true,bM] at hf;exact ⟨Tr.any hf.1 h.1,Mu.any r (k+1) x.2 hf.2 h.2⟩
 |(true, .Hz e te)::r,k,x,hf,h=>by
  simp only [Jz,Ak,Bool.not_true,bM] at hf;exact ⟨h.1,Mu.any r (k+1) x.2 hf.2 h.2⟩
 |(true, .part e te)::r,k,x,hf,h=>by
  simp only [Jz,Ak,Bool.not_true,bM] at hf;exact ⟨Tr.any hf.1 h.1,Mu.any r (k+1) x.2 hf.2 h.2⟩
theorem uC {tks:List (Nat×Loc)} {l:Nat} :l∈DF tks↔ ∃t∈tks,t.2.reads=true/\t.2.Xw=l:=by
 unfold DF;simp only [Bh,Ck];exact ⟨λ⟨t,⟨h1,h2⟩,h3⟩=>⟨t,h1,h2,h3⟩,λ⟨t,h1,h2,h3⟩=>⟨t,⟨h1,h2⟩,h3⟩⟩
theorem Bs.oJ {st:St} {a:Act} (h:Bs X π st a w) {f:AC->AC} (hu:f .undef= .undef) {gv:Nat->Prop} (UT: ∀b,gv b->Wn π b) (hb:Lk w.heap.size gv w w')
  (eR: ∀b,b<w.heap.size->Wn π' b->Wn π b)
  (Oy: ∀l r b,π' l=some r->r.Df b->r.cl b) (Aky: ∀l r b,π' l=some r->r.cl b->(X.w0.heap.size<=b\/X.gv b)/\b<w'.heap.size)
  (Ave: ∀l l' r r' b,π' l=some r->π' l'=some r'->r.cl b->r'.cl b->l=l')
  (dT: ∀l,Bv<=l->Ay H' l≠none->bP (X.iM l) (π' l))
  (hac:(∀fr τ cs x,Cells w (Dk X.w0.heap.size X.Sc π fr) τ cs x->Cells w' (Dk X.w0.heap.size X.Sc π' fr) τ cs x)-> ∀c v,Hw X w π st.heap c v->Hw X w' π' H' (f c) v)
  (MV:Move X w w' π π' st.heap H' f-> ∀l b,Ay H' l=some b->Cq X w' π' H' (π' l) b)
  (SE: ∀l,Ay H' l=none->π' l=none):
  Bs X π' {tmps:=st.tmps.map (·.map f),heap:=H'} a w':=by
 have hc: ∀fr τ cs x,Cells w (Dk X.w0.heap.size X.Sc π fr) τ cs x->Cells w' (Dk X.w0.heap.size X.Sc π' fr) τ cs x:= λfr τ cs x hh=>
  Cells.Gd hb.size (λk hk hn=>hb.block k hk λhg=>hn (.inl (UT k hg))) (λk Kr hA=>hA.imp (eR k Kr) id) τ cs x hh
 have m:Move X w w' π π' st.heap H' f:=⟨hac hc,hc⟩
 refine ⟨⟨⟨hb.os.trans h.1.below.os,hb.tape.trans h.1.below.tape,hb.output.trans h.1.below.output,Gz h.1.below.size hb.size,λk hk hn=>?_⟩,h.1.sc,Oy,Aky,Ave,dT,λl=>?_⟩,m.PD hu h.2⟩
 ·refine (hb.block k (Ep hk h.1.below.size) λhg=>?_).trans (h.1.below.block k hk hn);rcases (h.1.own (UT k hg)).2 with h1|h1
  ·omega
  ·exact hn h1
 ·cases hh:Ay H' l with
  |none=>exact Gu.Vd (SE l hh) hh
  |some b=>exact Gu.Mg (MV m l b hh) hh
def gY:Option Real->Option Real->Prop
 |none,none=>True
 |some r,some r'=>r.g=r'.g/\r.o=r'.o/\r.cap=r'.cap
 |_,_=>False
theorem gY.rfl' (r:Option Real):gY r r:=by cases r<;>simp [gY]
theorem gY.some {r:Real} {r':Option Real} (h:gY (some r) r'): ∃q,r'=some q/\r.g=q.g/\r.o=q.o/\r.cap=q.cap:=by
 cases r' with
 |none=>exact h.elim
 |some q=>exact ⟨q,rfl,h⟩
theorem gY.own {r r':Option Real} (h:gY r r') {sz off len:Nat} {v:Value} (hv:Ih r sz off len v):Ih r' sz off len v:=by
 cases r<;>cases r'<;>first|exact h.elim|skip
 ·exact hv
 ·obtain ⟨h1,h2,h3⟩:=h;obtain ⟨ad,g1,g2,g3⟩:=hv;exact ⟨ad,by rw [<-h3];exact g1,by rw [<-h3];exact g2,by rw [<-h1,<-h2,<-h3];exact g3⟩
structure OB.Ua (b b':OB):Prop where
 row: ∀sz n,b.row=some (sz,n)-> ∃n',b'.row=some (sz,n')/\n<=n'
 ic: ∀p,b.ic=some p->b'.ic=some p
 wE: ∀p,b.wE=some p->b'.wE=some p
 var: ∀tid vs,b= .var tid vs-> ∃Vt vs',b'= .var Vt vs'
 Wl: ∀v m,b= .Wl v m-> ∃m',b'= .Wl v m'
theorem OB.Ua.map (f:AC->AC) (b:OB):b.Ua (b.map f) where
 row:= λsz n h=>⟨n,by cases b<;>exact h,Ap _⟩
 ic:= λp h=>by cases b<;>exact h
 wE:= λp h=>by cases b<;>exact h
 var:= λtid vs h=>by subst h;exact ⟨_,_,rfl⟩
 Wl:= λv m h=>by subst h;exact ⟨_,rfl⟩
theorem OB.Ua.rfl' (b:OB):b.Ua b where
 row:= λ_sz n h=>⟨n,h,Ap _⟩
 ic:= λ_p h=>h
 wE:= λ_p h=>h
 var:= λ_tid _vs h=>⟨_,_,h⟩
 Wl:= λ_v _m h=>⟨_,h⟩
theorem OB.Ua.trans {a b c:OB} (h:a.Ua b) (k:b.Ua c):a.Ua c where
 row:= λsz n hr=>by
  obtain ⟨n1,h1,h2⟩:=h.row sz n hr;obtain ⟨n2,h3,h4⟩:=k.row sz n1 h1;exact ⟨n2,h3,by omega⟩
 ic:= λp hp=>k.ic p (h.ic p hp)
 wE:= λp hp=>k.wE p (h.wE p hp)
 var:= λtid vs hv=>by obtain ⟨t',v',h1⟩:=h.var tid vs hv;exact k.var t' v' h1
 Wl:= λv m hm=>by obtain ⟨m',h1⟩:=h.Wl v m hm;exact k.Wl v m' h1
theorem oI {f:AC->AC} {D Pt:Nat->Prop} (hf: ∀c,f c= .undef\/(f c=c/\(∀k∈c.refs,¬D k)/\ ∀k i j,c= .sub k i j\/c= .Kl k i j-> ¬Pt k)) (hp: ∀k,¬D k->gY (π k) (π' k))
  (hH: ∀k b,¬D k->Ay H k=some b-> ∃b',Ay H' k=some b'/\b.Ua b')
  (hg: ∀k r b,¬D k-> ¬Pt k->Ay H k=some b->b.ic≠none->π k=some r->w'.heap[r.g]?=w.heap[r.g]?)
  (hc: ∀fr τ cs x,Cells w (Dk X.w0.heap.size X.Sc π fr) τ cs x->Cells w' (Dk X.w0.heap.size X.Sc π' fr) τ cs x): ∀c v,Hw X w π H c v->Hw X w' π' H' (f c) v:=by
 intro c v h;rcases hf c with e|⟨e,hr,hs⟩
 ·rw [e];trivial
 rw [e]
 cases c with
 |data fr τ x=>obtain ⟨cs,h1,h2⟩:=h;exact ⟨cs,hc _ _ _ _ h1,h2⟩
 |own k off len=>
  obtain ⟨b,sz,n,h1,h0,h2,h3⟩:=h;have hk:=hr k (by simp [AC.refs]);obtain ⟨b',g1,g2⟩:=hH k b hk h1;obtain ⟨n',g3,g4⟩:=g2.row sz n h0;exact ⟨b',sz,n',g1,g3,by omega,(hp k hk).own h3⟩
 |Hs k i=>
  obtain ⟨r,tid,vs,h1,h2,h3⟩:=h;have hk:=hr k (by simp [AC.refs]);obtain ⟨b',g1,g2⟩:=hH k _ hk h1;obtain ⟨Vt,vs',rfl⟩:=g2.var tid vs rfl;obtain ⟨q,q1,q2,_⟩:=(h2▸hp k hk).some;exact ⟨q,Vt,vs',g1,q1,by rw [<-q2];exact h3⟩
 |Kq k i=>
  obtain ⟨r,b,sz,n,h1,h0,h2,h3,h4⟩:=h;have hk:=hr k (by simp [AC.refs]);obtain ⟨b',g1,g2⟩:=hH k b hk h1;obtain ⟨n',g3,g4⟩:=g2.row sz n h0;obtain ⟨q,q1,q2,q3,_⟩:=(h3▸hp k hk).some;exact ⟨q,b',sz,n',g1,g3,by omega,q1,by rw [<-q2,<-q3];exact h4⟩
 |sub k i c=>
  obtain ⟨r,b,sz,n,h1,h0,h2,h3,h4,h5⟩:=h;have hk:=hr k (by simp [AC.refs]);obtain ⟨b',g1,g2⟩:=hH k b hk h1;obtain ⟨q,q1,q2,q3,_⟩:=(h2▸hp k hk).some;exact ⟨q,b',sz,n,g1,g2.ic _ h0,q1,h3,h4,by rw [<-q2,<-q3,World.cell?_of_block (hg k r b hk (hs k i c (.inl rfl)) h1 (by rw [h0];simp) h2)];exact h5⟩
 |Kl k i c=>
  obtain ⟨r,b,n,sz,g,o,len,cap,h1,h0,h2,h3,h4,h5,h6⟩:=h;have hk:=hr k (by simp [AC.refs]);obtain ⟨b',g1,g2⟩:=hH k b hk h1;obtain ⟨q,q1,q2,q3,_⟩:=(h2▸hp k hk).some
  exact ⟨q,b',n,sz,g,o,len,cap,g1,g2.wE _ h0,q1,h3,h4,by rw [<-q2,<-q3,World.cell?_of_block (hg k r b hk (hs k i c (.inr rfl)) h1 (by cases b<;>first|(cases h0;done)|simp [OB.ic]) h2)];exact h5,h6⟩
 |clo g En=>
  obtain ⟨us,h1,h2,h3⟩:=h;refine ⟨us,h1,h2,λj p hpj=>?_⟩;obtain ⟨r,tid,vs,h4,h5,h6⟩:=h3 j p hpj;have hk:=hr p.1 (by simp only [AC.refs,Bh];exact ⟨p,Cs hpj,rfl⟩);obtain ⟨b',g1,g2⟩:=hH p.1 _ hk h4;obtain ⟨Vt,vs',rfl⟩:=g2.var tid vs rfl;obtain ⟨q,q1,q2,_⟩:=(h5▸hp p.1 hk).some;exact ⟨q,Vt,vs',g1,q1,by rw [<-q2];exact h6⟩
 |Le k=>
  obtain ⟨r,vt,m,h1,h2,h3⟩:=h;have hk:=hr k (by simp [AC.refs]);obtain ⟨b',g1,g2⟩:=hH k _ hk h1;obtain ⟨m',rfl⟩:=g2.Wl vt m rfl;obtain ⟨q,q1,q2,_⟩:=(h2▸hp k hk).some;exact ⟨q,vt,m',g1,q1,by rw [<-q2];exact h3⟩
 |_=>exact h
theorem Vz (H0:List (Nat×OB)) (ls:List Nat) (n:Nat): ∀(H:List (Nat×OB)) (l:Nat),Ay (dV H0 ls n H) l=(Ay H l).map λb=>if ls.contains l then b.JD (cm n (Alh (Ay H0 l))) else b
 | [],_=>rfl
 |(k,b)::r,l=>by
  simp only [dV,Ay];split
  ·rename_i e;subst e;rfl
  ·exact Vz H0 ls n r l
theorem OB.BU (b:OB) (kp:Option (Nat×Nat)):b.Ua (b.JD kp):=by
 cases b with
 |Ca e te rows out kp0=>exact ⟨λsz n h=>⟨n,h,Ap _⟩,λp h=>h,λp h=>h,(λ_ _ h=>by cases h),(λ_ _ h=>by cases h)⟩
 |_=>exact OB.Ua.rfl' _
theorem gM (ls:List Nat): ∀(l m:List AV) (t:Nat),l.length=m.length->(∃k i c,l.getD t .undef= .at (.sub k i c)/\ls.contains k=true/\(Mh ls l m).getD t .undef= .at (.sub k i c))\/(Mh ls l m).getD t .undef=m.getD t .undef
 | [],m,t,_=>by cases m<;>exact .inr rfl
 |_::_,[],t,h=>by simp at h
 |a::l,v::m,t,h=>by
  have ih:= λt=>gM ls l m t (by simpa using h)
  have tail: ∀u,Mh ls (a::l) (v::m)=u::Mh ls l m->(t=0->(∃k i c,(a::l).getD t .undef= .at (.sub k i c)/\ls.contains k=true/\u= .at (.sub k i c))\/u=v)->
    (∃k i c,(a::l).getD t .undef= .at (.sub k i c)/\ls.contains k=true/\(Mh ls (a::l) (v::m)).getD t .undef= .at (.sub k i c))\/(Mh ls (a::l) (v::m)).getD t .undef=(v::m).getD t .undef:=by
   intro u e h0;rw [e];rcases t with _|t
   ·rcases h0 rfl with ⟨k,i,c,h1,h2,h3⟩|h3
    ·exact .inl ⟨k,i,c,h1,h2,by simpa using h3⟩
    ·exact .inr (by simpa using h3)
   ·simpa only [Nz] using ih t
  cases a with
  | «at»c=>
   cases c with
   |sub k i c=>
    refine tail _ rfl λht=>?_;subst ht
    by_cases hc:ls.contains k=true
    ·exact .inl ⟨k,i,c,rfl,hc,by rw [Ac hc]⟩
    ·exact .inr (by rw [Ai hc])
   |_=>exact tail _ rfl λ_=> .inr rfl
  |_=>exact tail _ rfl λ_=> .inr rfl
theorem vN {H:List (Nat×OB)} {ls:List Nat} {n:Nat} : ∀ {l:List AV} {t k i c:Nat},eg H ls n l=true->l.getD t .undef= .at (.sub k i c)->ls.contains k=true->i<n/\i<sC H k
 | [],t,k,i,c,_,h,_=>by simp at h
 |a::l,0,k,i,c,ho,h,hc=>by
  simp only [Yg] at h;subst h;simp only [eg,hc,Bool.not_true,bM,Ak,Nv] at ho;exact ho.1
 |a::l,t+1,k,i,c,ho,h,hc=>by
  refine vN (l:=l) (t:=t) (c:=c) ?_ (by simpa only [Nz] using h) hc
  cases a with
  | «at»d=>cases d with
   |sub _ _ _=>simp only [eg,Ak] at ho;exact ho.2
   |_=>exact ho
  |_=>exact ho
theorem NQ {cP st:St} {a:Act} (h0:Bs X π cP a w) (h:Bs X π' st a w') {ls:List Nat} {n:Nat} (hk: ∀l∈ls,EB w w' (π l) (π' l) n) (tY: ∀l∈ls,o9 cP.heap l=true)
  (jr:eg st.heap ls n cP.tmps=true):Bs X π' (mL cP st ls n) a w'/\ ∀c v,Bx X w' π' st.heap c v->Bx X w' π' (mL cP st ls n).heap c v:=by
 by_cases bD:ls= []
 ·subst bD;exact ⟨h,λ_ _ h=>h⟩
 have Sd:mL cP st ls n= {tmps:=Mh ls cP.tmps st.tmps,heap:=dV cP.heap ls n st.heap} :=by
  cases ls with
  |nil=>exact absurd rfl bD
  |cons _ _=>rfl
 rw [Sd]
 have hg0: ∀l∈ls,∃e te rows out kp,Ay cP.heap l=some (.Ca e te rows out kp):= λl hl=>by
  have:=tY l hl;unfold o9 at this;split at this
  ·exact ⟨_,_,_,_,_,by assumption⟩
  ·cases this
 have srv: ∀k b,Ay st.heap k=some b-> ∃b',Ay (dV cP.heap ls n st.heap) k=some b'/\b.Ua b':= λk b hb=>by
  rw [Vz,hb];refine ⟨_,rfl,?_⟩;dsimp only;split
  ·exact OB.BU b _
  ·exact OB.Ua.rfl' b
 have hac:(∀fr τ cs x,Cells w' (Dk X.w0.heap.size X.Sc π' fr) τ cs x->Cells w' (Dk X.w0.heap.size X.Sc π' fr) τ cs x)-> ∀c v,Hw X w' π' st.heap c v->Hw X w' π' (dV cP.heap ls n st.heap) c v:= λhc=>
  oI (f:= λc=>c) (D:= λ_=>False) (Pt:= λ_=>False) (λc=> .inr ⟨rfl,λ_ _ h=>h,λ_ _ _ _ h=>h⟩) (λk _=>gY.rfl' _) (λk b _ hb=>srv k b hb) (λ_ _ _ _ _ _ _ _=>rfl) hc
 have h1:Bs X π' {tmps:=st.tmps.map (·.map λc=>c),heap:=dV cP.heap ls n st.heap} a w':=by
  refine h.oJ rfl (gv:= λ_=>False) (λ_ hf=>hf.elim) (Lk.refl _ _ _) (λ_ _ ho=>ho) h.1.sub h.1.place h.1.inj (λl hl Ii=>h.1.iM l hl λh2=>Ii (by rw [Vz,h2];rfl)) hac (λm l b hb=>?_) (λl hl=>?_)
  ·rw [Vz] at hb
   cases h2:Ay st.heap l with
   |none=>rw [h2] at hb;cases hb
   |some b0=>
    rw [h2] at hb;simp only [An,Aa] at hb;have hbk:=(h.1.heap l).Se h2;have LC:=hbk.move m (Ap _) (λr0 c h0 h1=>h.1.sub _ r0 c h0 h1) λ_ _ _ _ _=>rfl;rw [show OB.map (λc=>c) b0=b0 from OB.HM b0] at LC;split at hb
    ·rename_i hc
     have hl:l∈ls:=by simpa using hc
     cases b0 with
     |Ca e te rows out kp=>
      simp only [OB.JD] at hb;subst hb;refine ⟨LC.1,?_⟩;obtain ⟨e0,te0,Aj8,Ax9,kp0,hg⟩:=hg0 l hl;have u7:=((h0.1.heap l).Se hg).2;rw [hg];simp only [Alh];have wI:=hk l hl
      cases kp0 with
      |none=>trivial
      |some p=>
       obtain ⟨l0,n0⟩:=p;simp only [KeptAt,cm] at u7⊢
       cases zQ:X.iM l0 with
       |none=>
        cases hp:π l with
        |none=>
         rw [hp] at wI
         cases SG:π' l with
         |none=>trivial
         |some q=>rw [SG] at wI;exact wI.elim
        |some q=>rw [zQ,hp] at u7;exact u7.elim
       |some r0=>
        cases hp:π l with
        |none=>rw [zQ,hp] at u7;exact u7.elim
        |some q=>
         rw [zQ,hp] at u7;rw [hp] at wI
         cases SG:π' l with
         |none=>rw [SG] at wI;exact wI.elim
         |some q'=>
          rw [SG] at wI;obtain ⟨k1,k2,k3,k4⟩:=wI;obtain ⟨g1,g2,g3,g4⟩:=u7;refine ⟨k1.trans g1,k2.trans g2,k3.trans g3,λj hj hc=>?_⟩;have e1:=g4 j (by omega) hc;have e2:=k4 j (by omega) (by omega);rw [g1,g2] at e2;rw [<-e1,e2]
     |_=>simp only [OB.JD] at hb;subst hb;exact LC
    ·subst hb;exact LC
  ·rw [Vz] at hl
   cases h2:Ay st.heap l with
   |none=>exact (h.1.heap l).emp h2
   |some b=>rw [h2] at hl;cases hl
 have hav: ∀c v,Bx X w' π' st.heap c v->Bx X w' π' (dV cP.heap ls n st.heap) c v:= λc v hv=>by
  have m:Move X w' w' π' π' st.heap (dV cP.heap ls n st.heap) (λc=>c):=⟨hac λ_ _ _ _ h=>h,λ_ _ _ _ h=>h⟩
  have:=m.av hv
  rwa [AC.map_id] at this
 refine ⟨⟨h1.1,⟨?_,h.2.defers,λt=>?_⟩⟩,hav⟩
 ·have: ∀(l m:List AV),(Mh ls l m).length=m.length:=by
   intro l
   induction l with
   |nil=>intro m;cases m<;>rfl
   |cons a l ih=>
    intro m
    cases m with
    |nil=>cases a with
     | «at»c=>cases c<;>rfl
     |_=>rfl
    |cons v m=>cases a with
     | «at»c=>cases c<;>simp only [Mh,Aw,ih m]
     |_=>simp only [Mh,Aw,ih m]
  show a.tmps.size=(Mh ls cP.tmps st.tmps).length;rw [this];exact h.2.size
 ·show Bx X w' π' _ ((Mh ls cP.tmps st.tmps).getD t .undef) _;rcases gM ls cP.tmps st.tmps t (by rw [<-h0.2.size,<-h.2.size]) with ⟨k,i,c,g1,g2,g3⟩|g
  ·rw [g3]
   have Ml:k∈ls:=by simpa using g2
   obtain ⟨i1,i2⟩:=vN jr g1 g2;have hv:=h0.2.tmps t;rw [show cP.get t=_ from g1] at hv;obtain ⟨r,b,sz,n',e1,e2,e3,e4,⟨e5,e6⟩,e7⟩:=hv;obtain ⟨e0,te0,Aj8,Ax9,kp0,hg⟩:=hg0 k Ml;rw [hg] at e1;cases e1;simp only [OB.ic,Aa,Ag] at e2;obtain ⟨rfl,rfl⟩:=e2;have wI:=hk k Ml;rw [e3] at wI
   cases SG:π' k with
   |none=>rw [SG] at wI;exact wI.elim
   |some q'=>
    rw [SG] at wI;obtain ⟨k1,k2,k3,k4⟩:=wI
    have tX:Aj8.length<=r.cap:=by
     have:=((h0.1.heap k).Se hg).1;rw [e3] at this;obtain ⟨_,_,_,_,_,_,h5,_⟩:=this;exact h5
    unfold sC at i2;split at i2
    ·rename_i e9 te9 Arh Bdk kp9 hg9;refine ⟨q',_,1,Arh.length,by rw [Vz,hg9];rfl,?_,SG,i2,⟨e5,e6⟩,?_⟩
     ·dsimp only
      split<;>rfl
     ·have mF:c=0:=by omega
      subst mF;rw [k1,k2];rw [Gm,El] at e7⊢;rw [k4 i i1 (by omega)];exact e7
    ·omega
  ·rw [g];exact hav _ _ (h.2.tmps t)
theorem qj {ins:List (Bool×CK)} {as:List AC} {pl:List Nat} {st:St} :(sj ins as pl st).tmps=st.tmps:=by
 unfold sj;split
 ·rfl
 ·split<;>rfl
theorem PN {ins:List (Bool×CK)} {as:List AC} {pl:List Nat} {st:St} {m:Nat} (hm:m∉pl):Ay (sj ins as pl st).heap m=Ay st.heap m:=by
 unfold sj;split
 ·rfl
 ·rename_i l r;split
  ·exact Ej _ _ _ _ λe=>hm (e▸Kv)
  ·rfl
theorem WW {ins:List (Bool×CK)} {as:List AC} {l:Nat} {st:St} {tid:TypeId} {vs:List AC} (hl:Ay st.heap l=some (.var tid vs)):Ay (sj ins as [l] st).heap l=some (.var tid (iq ins vs as)):=by
 simp only [sj,St.at,hl];exact Ff _ _ _ _ hl
theorem yH {α:Type} (ins:List (Bool×CK)) (as:List α):iq ins [] as= []:=by
 rcases ins with _|⟨⟨_|_,c⟩,r⟩<;>rfl
theorem qd {α:Type} : ∀(ins:List (Bool×CK)) (vs as:List α),(iq ins vs as).length=vs.length
 | [],vs,as=>by rw [iq];all_goals simp
 |p::r,[],as=>by rw [yH]
 |(true,c)::r,v::vs,as=>by simp only [iq,Aw,qd r vs as]
 |(false,c)::r,v::vs,[]=>by rw [iq];all_goals simp
 |(false,c)::r,v::vs,a::as=>by simp only [iq,Aw,qd r vs as]
theorem WL {st:St} {a:Act} (h:Bs X π st a w) {s:MSpec} {nC:List AV} {vs:List Value} (hlen:nC.length=vs.length) (hav: ∀(i:Nat) c v,nC[i]?=some c->vs[i]?=some v->Bx X w π st.heap c v)
  {pl:List Nat} {cells:List AC} {rest:List AV} (he:TF st s nC=some (pl,cells,rest)):
  ∃(g:Nat) (cus z8:List Value),rest.length=z8.length/\(∀(i:Nat) c v,rest[i]?=some c->z8[i]?=some v->Bx X w π st.heap c v)/\Nn X w π st.heap cells cus/\
   ((s.ptr=none/\pl= []/\cells= []/\cus= []/\vs=z8)\/
    ∃p l q,s.ptr=some p/\pl= [l]/\π l=some q/\q.Df q.g/\g=q.g/\Ay st.heap l=some (.var p.1 cells)/\cells.length=p.2/\vs= .pointer (some ⟨g,0,none⟩)::z8/\w.heap[g]?=some (.cells cus.toArray p.1 (0,0))/\Gq X w π st.heap cells cus):=by
 unfold TF at he;split at he
 ·rename_i hp;simp only [Aa,Ag] at he;obtain ⟨rfl,rfl,rfl⟩:=he;exact ⟨0,[],vs,hlen,hav,trivial, .inl ⟨hp,rfl,rfl,rfl,rfl⟩⟩
 ·rename_i p hp;split at he
  ·rename_i l i Azn;split at he
   ·rename_i tid cs hl;split at he
    ·rename_i hc;obtain ⟨rfl,hc,rfl⟩:=hc;simp only [Aa,Ag] at he;obtain ⟨rfl,rfl,rfl⟩:=he;unfold St.at at hl
     cases vs with
     |nil=>simp at hlen
     |cons v vs=>
      obtain ⟨r,Vt,vs',h1,h2,rfl⟩:=hav 0 _ v rfl rfl;rw [hl] at h1;cases h1;obtain ⟨r',h3,h4,cur,h5,h6⟩:=(h.1.heap l).Se hl;rw [h2] at h3;cases h3;exact ⟨r.g,cur.toList,vs,by simpa using hlen,λi c v h7 h8=>hav (i+1) c v (by simpa using h7) (by simpa using h8),Nn.of h6, .inr ⟨p,l,r,hp,rfl,h2,h4,rfl,hl,hc,rfl,by simpa using h5,h6⟩⟩
    ·cases he
   ·cases he
  ·cases he
theorem kQ {V:List Nat} {πc:Pi} {dead part:List Nat} (hπ: ∀l,l∉dead->π' l=π l) (Qd: ∀l b sz n,l∉dead->Ay H l=some b->b.row=some (sz,n)-> ∃b',Ay H' l=some b'/\b'.row=some (sz,n)):
  ∀(ins:List (Bool×CK)) (k:Nat) (cells pc:List AC) (x:Ins.den ins) (us:List Value) (o:IOs.den ins) (cur st1:St) (news:List AC) (Xt cs:List Value),rY X w π V H πc k ins x (cells++pc) us->Xb ins cells=true->
   Il ins o (cells++pc) cur=some st1->Fc πc k ins o cells.length cs Xt->Nn X w' π' H' news Xt->Nn X w' π' H' (iq ins (cells.map (Cz dead part)) news) cs
 |ins,k,[],pc,x,us,o,cur,st1,news,Xt,cs,_,_,_,hb,_=>by
  have hb:cs= []:=by rcases ins with _|⟨⟨_|_,c⟩,r⟩<;>(try cases c)<;>simpa [Fc] using hb
  rw [hb,List.map_nil,yH];trivial
 | [],k,a::cells,pc,x,us,o,cur,st1,news,Xt,cs,_,hk,_,_,_=>by simp [Xb] at hk
 |(true, .Ia τ)::r,k,a::cells,pc,x,us,o,cur,st1,news,Xt,cs,_,hk,_,_,_=>by simp [Xb] at hk
 |(true, .part e te)::r,k,a::cells,pc,x,us,o,cur,st1,news,Xt,cs,_,hk,_,_,_=>by simp [Xb] at hk
 |(true, .Ca e te _)::r,k,a::cells,pc,x,us,o,cur,st1,news,Xt,cs,_,hk,_,_,_=>by simp [Xb] at hk
 |(true, .row e te)::r,k,a::cells,pc,x,us,o,cur,st1,news,Xt,cs,ht,hk,hp,hb,hn=>by
  cases a<;>simp only [Xb,Dt] at hk
  rename_i l off len
  cases us with
  |nil=>exact ht.elim
  |cons u0 us=>
  cases cs with
  |nil=>exact hb.elim
  |cons u cs=>
  obtain ⟨⟨_,h1⟩,h2⟩:=ht;simp only [Um] at h1;obtain ⟨h3,rfl,rfl,fr,tr,h4⟩:=h1;obtain ⟨h5,h6⟩:=hb;simp only [Ka,Il] at hp;split at hp
  rotate_left
  ·cases hp
  rename_i aI hpc
  have hlo:List.length o.1=List.length x.1:=by
   simp only [cX] at hpc
   repeat' split at hpc
   all_goals first|(cases hpc;done)|(rename_i hc;exact hc.2.1)
  refine ⟨?_,kQ hπ Qd r (k+1) cells pc x.2 us o.2 aI st1 news Xt cs h2 hk hp h6 hn⟩
  by_cases hd:l∈dead
  ·have:Cz dead part (.own l 0 (List.length x.1))= .undef:=by
    unfold Cz;rw [Ac (by simp [AC.refs,hd])]
   rw [this];trivial
  ·rw [di (by simpa [AC.refs] using hd) (by intro l i j e;rcases e with e|e<;>cases e)]
   obtain ⟨b',g1,g2⟩:=Qd l _ e.size (List.length x.1) hd h4 rfl;refine ⟨b',e.size,List.length x.1,g1,g2,by omega,?_⟩;rw [hπ l hd];rw [h3,hlo] at h5
   cases hp:π l<;>(rw [hp] at h5;exact h5)
 |(true, .Hz e te)::r,k,a::cells,pc,x,us,o,cur,st1,news,Xt,cs,ht,hk,hp,hb,hn=>by
  cases a<;>simp only [Xb,Dt] at hk
  rename_i l off len
  cases us with
  |nil=>exact ht.elim
  |cons u0 us=>
  cases cs with
  |nil=>exact hb.elim
  |cons u cs=>
  obtain ⟨⟨_,h1⟩,h2⟩:=ht;simp only [Um] at h1;obtain ⟨h3,rfl,rfl,h4⟩:=h1;obtain ⟨h5,h6⟩:=hb;simp only [Ka,Il] at hp;split at hp
  rotate_left
  ·cases hp
  rename_i aI hpc
  have hlo:List.length o.1=List.length x.1:=by
   simp only [cX] at hpc
   repeat' split at hpc
   all_goals first|(cases hpc;done)|(rename_i hc;exact hc.2.1)
  refine ⟨?_,kQ hπ Qd r (k+1) cells pc x.2 us o.2 aI st1 news Xt cs h2 hk hp h6 hn⟩
  by_cases hd:l∈dead
  ·have:Cz dead part (.own l 0 (List.length x.1))= .undef:=by
    unfold Cz;rw [Ac (by simp [AC.refs,hd])]
   rw [this];trivial
  ·rw [di (by simpa [AC.refs] using hd) (by intro l i j e;rcases e with e|e<;>cases e)]
   obtain ⟨b',g1,g2⟩:=Qd l _ e.size (List.length x.1) hd h4 rfl;refine ⟨b',e.size,List.length x.1,g1,g2,by omega,?_⟩;rw [hπ l hd];rw [h3,hlo] at h5
   cases hp:π l<;>(rw [hp] at h5;exact h5)
 |(false,c)::r,k,a::cells,pc,x,[],o,cur,st1,news,Xt,cs,ht,hk,hp,hb,hn=>ht.elim
 |(false,c)::r,k,a::cells,pc,x,u0::us,o,cur,st1,news,Xt,[],ht,hk,hp,hb,hn=>by cases c<;>exact hb.elim
 |(false,c)::r,k,a::cells,pc,x,u0::us,o,cur,st1,news,[],u::cs,ht,hk,hp,hb,hn=>by cases c<;>exact hb.elim
 |(false,c)::r,k,a::cells,pc,x,u0::us,o,cur,st1,[],u'::Xt,u::cs,ht,hk,hp,hb,hn=>hn.elim
 |(false,c)::r,k,a::cells,pc,x,u0::us,o,cur,st1,na::news,u'::Xt,u::cs,ht,hk,hp,hb,hn=>by
  have hb2:u=u'/\Fc πc (k+1) r o cells.length cs Xt:=by cases c<;>exact hb
  obtain ⟨rfl,hb3⟩:=hb2
  have hp:Il r o (cells++pc) cur=some st1:=by cases c<;>simpa only [Ka,Il] using hp
  have hk:Xb r cells=true:=by cases c<;>simpa only [Xb] using hk
  exact ⟨hn.1,kQ hπ Qd r (k+1) cells pc x.2 us o cur st1 news Xt cs ht.2 hk hp hb3 hn.2⟩
theorem KC {V:List Nat} {πc:Pi} : ∀(cs:List (Bool×CK)) (k0:Nat) (x:Ins.den cs) (as:List AC) (us:List Value),k0+cs.length<100000->rY X w π V H πc k0 cs x as us-> ∀k l,(Eh false k,Loc.row l)∈Mi k0 cs as->πc (Eh false k)=(π l).map full
 | [],_,_,[],_,_,_,_,_,h=>by cases h
 | [],_,_,_::_,_,_,_,_,_,h=>by cases h
 |_::_,_,_,[],_,_,_,_,_,h=>by cases h
 |_::_,_,_,_::_,[],_,h,_,_,_=>h.elim
 |(io,c)::r,k0,x,a::as,u::us,hk,h,k,l,ht=>by
  simp only [Aw] at hk;simp only [Mi] at ht;rcases Be.1 ht with ht|ht
  ·obtain ⟨⟨_,h1⟩,_⟩:=h
   cases c with
   |Ia τ=>cases a<;>simp [Qy,views] at ht
   |row e te=>
    cases a<;>simp [Qy] at ht
    obtain ⟨e1,rfl⟩:=ht;simp only [Um] at h1;rw [e1];exact h1.1
   |Hz e te=>
    cases a<;>simp [Qy] at ht
    obtain ⟨e1,rfl⟩:=ht;simp only [Um] at h1;rw [e1];exact h1.1
   |part e te=>
    cases a<;>simp [Qy] at ht
    obtain ⟨e1,rfl⟩:=ht;simp only [Um] at h1;rw [e1];exact h1.2.1
   |Ca e te kp=>
    cases a<;>simp [Qy] at ht
    obtain ⟨e1,rfl⟩:=ht;simp only [Um] at h1;rw [e1];exact h1.2.1
  ·exact KC r (k0+1) x.2 as us (by omega) h.2 k l ht
theorem s6 {st:St} {a:Act} (h:Bs X π st a w) {f:FuncId} {s:MSpec} (hs:Ds P f s) (dst:Option Nat) (nC:List AV) (vs:List Value) (hlen:nC.length=vs.length)
  (hav: ∀(i:Nat) c v,nC[i]?=some c->vs[i]?=some v->Bx X w π st.heap c v) (av:AV) (st':St) (he:Yq st dst s nC=some (av,st')):
  Calls P f vs.toArray w λe w'=> ∃v,e= .returned v/\ ∃π',Bs X π' st' a w'/\Bx X w' π' st'.heap av v:=by
 unfold Yq at he;split at he
 ·cases he
 rename_i pl cells rest Aw7;split at he
 ·cases he
 rename_i pc pf;split at he
 ·cases he
 rename_i x tks htk;split at he
 rotate_left
 ·cases he
 rename_i Kg;simp only [Ak,Nv] at Kg;obtain ⟨⟨⟨⟨sd,ub⟩,hon⟩,Jq⟩,Ap9,UY⟩:=Kg
 have UY: ∀l∈pl,l∉(tks.map λt=>t.2.Xw)/\l∉Tc s tks (dst.getD 0):= λl hl=>by
  have:=Bk.1 UY l hl;simp only [Fy,<-Gb,Kc] at this;exact ⟨λhm=>this (Bo _ hm),λhm=>this (Cm _ hm)⟩
 split at he
 ·cases he
 rename_i r o hfn;split at he
 ·cases he
 rename_i st1 Aav;obtain ⟨g,cus,z8,Aaj,Aul,Awa,hpt⟩:=WL h hlen hav Aw7;obtain ⟨xu,rfl,sG,Aw9⟩:=aE s.Mq rest z8 pc Aaj Aul pf;have hrc:=Awa.append Aw9
 have Rr:pj s w g (cus++xu) vs:=by
  unfold pj;rcases hpt with ⟨h1,_,_,h2,h3⟩|⟨p,l,q,h1,_,_,_,_,_,h2,h3,h4,h5⟩
  ·rw [h1];subst h2;exact ⟨h3,sG⟩
  ·rw [h1];have hl:cus.length=p.2:=h5.1.trans h2;simp only;rw [List.drop_append_of_le_length (by omega),List.take_append_of_le_length (by omega),Jh (by omega),List.drop_of_length_le (by omega)];refine ⟨h3,sG,by simp;omega,h4,λu hu=>?_⟩;obtain ⟨i,hi,rfl⟩:=Bg.1 hu;obtain ⟨u',h6,h7,_⟩:=h5.2 i (cells[i]'(by have:=h5.1;omega)) (Ad _);rw [Ad hi] at h6;rw [Bi h6];exact h7
 have UZ: ∀l∈pl,∃p q,s.ptr=some p/\pl= [l]/\π l=some q/\q.Df q.g/\g=q.g/\Ay st.heap l=some (.var p.1 cells)/\cells.length=p.2:= λl hl=>by
  rcases hpt with ⟨_,h1,_⟩|⟨p,l',q,h1,h2,h3,h4,h5,h6,h7,_⟩
  ·rw [h1] at hl;cases hl
  ·rw [h2] at hl;have:=Af.1 hl;subst this;exact ⟨p,q,h1,h2,h3,h4,h5,h6,h7⟩
 have UT: ∀b,s.gv g b-> ∃l∈pl,∃q,π l=some q/\q.Df b/\b=q.g:= λb ⟨h1,h2⟩=>by
  rcases hpt with ⟨h3,_⟩|⟨p,l',q,_,h4,h5,h6,h7,_⟩
  ·rw [h3] at h1;cases h1
  ·exact ⟨l',by rw [h4];exact Af.2 rfl,q,h5,by rw [h2,h7];exact h6,h2.trans h7⟩
 obtain ⟨as,has⟩: ∃as,as=cells++pc:=⟨_,rfl⟩
 obtain ⟨us,hus⟩: ∃us,us=cus++xu:=⟨_,rfl⟩
 rw [<-has] at hrc htk Aav;rw [<-hus] at hrc Rr
 let V:=(tks.filter λt=>t.2.reads).map λt=>t.2.Xw
 have hV: ∀t∈tks,t.2.reads=true->t.2.Xw∈V:= λt ht hr=>Bh.2 ⟨t,Ck.2 ⟨ht,hr⟩,rfl⟩
 have hV': ∀l∈V,∃t∈tks,t.2.reads=true/\t.2.Xw=l:= λl hl=>by
  obtain ⟨t,h1,h2⟩:=Bh.1 hl;exact ⟨t,(Ck.1 h1).1,(Ck.1 h1).2,h2⟩
 clear_value V
 obtain ⟨etk,πc,hT,Aab,Avc,Xa⟩:=vZ h.1 (V:=V) s.ins 0 as us x tks (by omega) hrc htk hV;have NC:=Za sd;rw [etk] at NC
 have eR: ∀b,Wn πc b-> ∃t∈Mi 0 s.ins as,t.2.reads=false/\ ∃q,π t.2.Xw=some q/\q.Df b/\ ∀l i j,t.2= .sub l i j->b≠q.g:= λb ⟨c,q,h1,h2⟩=>by
  obtain ⟨t,t1,_,t3⟩:=Xa c q b h1 h2;exact ⟨t,t1,t3⟩
 have NF: ∀b,Wn πc b->Wn π b:= λb hb=>let ⟨t,_,_,q,h1,h2,_⟩:=eR b hb;⟨_,q,h1,h2⟩
 have js:iS πc (λb=>b<w.heap.size):=⟨λl q b h1 h2=>(h.1.own (NF b ⟨l,q,h1,h2⟩)).1,λl l' q q' b h1 h2 h3 h4=>by
  obtain ⟨t,t1,t2,_,p,t3,t4,_⟩:=Xa l q b h1 h3;obtain ⟨t',t1',t2',_,p',t3',t4',_⟩:=Xa l' q' b h2 h4;have:=AG NC t1 t1' (h.1.apart t3 t3' t4 t4')
  rw [<-t2,<-t2',this]⟩
 have Aoq: ∀k l,(Eh false k,Loc.row l)∈Mi 0 s.ins as->πc (Eh false k)=(π l).map full:= λk l ht=>
  KC s.ins 0 x as us (by omega) hT k l ht
 have Aqj: ∀b,Wn πc b->Pg X π V b:= λb hb=> .inl ⟨NF b hb,λl hl r' hr hf=>by
  obtain ⟨t,t1,t0,q,t3,t4,_⟩:=eR b hb;obtain ⟨t',t1',t2',rfl⟩:=hV' l hl;rw [etk] at t1';have:=AG NC t1 t1' (h.1.apart t3 hr t4 hf);subst this
  rw [t0] at t2';cases t2'⟩
 let S:Nat->Prop:= λb=> ¬Wn πc b/\Pg X π V b
 have hS: ∀b,S b->b<w.heap.size/\ ¬Wn πc b:= λb hb=>⟨by
  rcases hb.2 with h1|h1
  ·exact (h.1.own h1.1).1
  ·exact Ep (h.1.sc b h1).1 h.1.below.size,hb.1⟩
 have Aft: ∀l∈pl,∀t∈Mi 0 s.ins as,t.2.Xw≠l:= λl hl t ht e=>(UY l hl).1 (Bh.2 ⟨t,etk▸ht,e⟩)
 have hSg:s.ptr.isSome=true->S g:= λhps=>by
  obtain ⟨l,hl,q,h1,h2,h3⟩:=UT g ⟨hps,rfl⟩
  have hno: ¬Wn πc g:= λhb=>by
   obtain ⟨t,t1,_,q',t3,t4,_⟩:=eR g hb;exact Aft l hl t t1 (h.1.apart t3 h1 t4 h2)
  refine ⟨hno, .inl ⟨⟨l,q,h1,h2⟩,λl' Mr r' lb hf=>?_⟩⟩;obtain ⟨t',t1',_,rfl⟩:=hV' l' Mr;rw [etk] at t1';exact Aft l hl t' t1' (h.1.apart lb h1 hf h2)
 refine (hs.calls w S πc us x r o g vs Rr hSg (fD.Jg (λb hb=>hb.elim (Aqj b) λh=>h.2) s.ins 0 x us (hT.Aqt s.ins 0 x as us)) js hS Avc hfn).mono ?_;rintro e w' ⟨v,Xt,DZ,rfl,fV,qV,Afg,zL,Apo,Aat,Ald,xY⟩
 obtain ⟨ρ,Ag1,uf,Aas,Ai6⟩: ∃ρ:Pi,(∀l,ρ l=(DZ l).map full)/\Jr w' (l5 S πc DZ) ρ 0 s.outs r Xt/\iS ρ (λb=>b<w'.heap.size/\(w.heap.size<=b\/ ∃l q,l<Bv/\πc l=some q/\q.Df b))/\ ∀l q,ρ l=some q->q.cl=q.Df:=by
  have un: ∀l q,(DZ l).map full=some q-> ∃q0,DZ l=some q0/\q=full q0:= λl q hq=>by
   cases hp:DZ l with
   |none=>rw [hp] at hq;cases hq
   |some q0=>rw [hp] at hq;exact ⟨q0,rfl,(Bi hq).symm⟩
  refine ⟨λl=>(DZ l).map full,λ_=>rfl,Jr.full s.outs 0 r Xt Apo,⟨λl q b h1 h2=>?_,λl l' q q' b h1 h2 h3 h4=>?_⟩,λl q h1=>?_⟩
  ·obtain ⟨q0,h5,rfl⟩:=un l q h1;exact Aat.Sb l q0 b h5 h2
  ·obtain ⟨q0,h5,rfl⟩:=un l q h1;obtain ⟨q0',h6,rfl⟩:=un l' q' h2;exact Aat.inj l l' q0 q0' b h5 h6 h3 h4
  ·obtain ⟨q0,_,rfl⟩:=un l q h1;rfl
 refine ⟨v,rfl,?_⟩;split at he
 ·cases he
 rename_i av0 iF;split at he
 rotate_left
 ·cases he
 rename_i Oy;simp only [Aa,Ag] at he;obtain ⟨rfl,rfl⟩:=he
 let D1:Nat->Prop:=if s.flat then λ_=>True else l5 S πc DZ
 have Avf:Mu w' D1 πc 0 s.ins o:=by
  show Mu w' (if s.flat then λ_=>True else l5 S πc DZ) πc 0 s.ins o;split
  ·rename_i hf;unfold MSpec.flat at hf;simp only [Ak] at hf;exact Mu.any s.ins 0 o hf.2 zL
  ·exact zL
 have Apq:Jr w' D1 ρ 0 s.outs r Xt:=by
  show Jr w' (if s.flat then λ_=>True else l5 S πc DZ) ρ 0 s.outs r Xt;split
  ·rename_i hf;unfold MSpec.flat at hf;simp only [Ak] at hf;exact Jr.any s.outs 0 r Xt hf.1 uf
  ·exact uf
 obtain ⟨q1,q2,q3,q4⟩:=uS (D:=D1) (X:=X) (π:=π) (H:=st.heap) h.1 Afg.size (tks:=Mi 0 s.ins as) (πc:=πc) (λt ht q b hq hb Kr hn=>Afg.block b Kr λND=>by
   rcases ND with ⟨c,r',h1,h2⟩|hg
   rotate_left
   ·obtain ⟨l,hl,q',h1,h2,_⟩:=UT b hg;exact Aft l hl t ht (h.1.apart hq h1 hb h2)
   obtain ⟨t',t1,t2,_,p,t3,t4,_⟩:=Xa c r' b h1 h2;have:=AG NC ht t1 (h.1.apart hq t3 hb t4);subst this
   exact hn r' (t2▸h1) h2) s.ins 0 x as us o st st1 (by omega) (λ_ h=>h) NC hT Avf Aav (λ_ _=>rfl)
 have Al4: ∀t∈Mi 0 s.ins as,t.2.reads=true->t.1<Bv:=by
  have: ∀(cs:List (Bool×CK)) (k:Nat) (as:List AC),k+cs.length<100000-> ∀t∈Mi k cs as,t.2.reads=true->t.1<Bv:=by
   intro cs
   induction cs with
   |nil=>intro k as _ t ht;cases as<;>cases ht
   |cons p r ih=>
    intro k as hk t ht hr;simp only [Aw] at hk
    cases as with
    |nil=>cases ht
    |cons a as=>
     simp only [Mi] at ht;rcases Be.1 ht with ht|ht
     ·rcases KA ht with ⟨_,h1⟩|⟨h1,_⟩
      ·rw [hr] at h1;cases h1
      ·rw [h1];exact gy (by omega)
     ·exact ih (k+1) as (by omega) t ht hr
  exact this s.ins 0 as (by omega)
 let d:=dst.getD 0
 let ks:=Tc s tks d
 let dead:=nM tks++ks++(if s.flat then [] else DF tks)
 let part:=whole tks
 have Awd:s.outs.length+(nc s d).length=s.Vq:=by unfold MSpec.Vq nc;cases s.rp<;>rfl
 obtain ⟨Akp,Avq,Aih⟩:ks.length=s.Vq/\ks.Nodup/\ ∀l∈ks,l<Bv:=by
  have:=NT ub;rw [Awd] at this;exact this
 have hno:s.outs.length<=s.Vq:=by unfold MSpec.Vq;omega
 have hvk: ∀tid,s.rp=some tid->Em ks s.outs.length=Ue d/\s.Vq=s.outs.length+1:= λtid Yu=>by
  have h1:s.Vq=s.outs.length+1:=by unfold MSpec.Vq;rw [Yu]
  refine ⟨?_,h1⟩
  have h2:ks=nF s tks d++ [Ue d]:=by show nF s tks d++nc s d=_;unfold nc;rw [Yu]
  have h3:(nF s tks d).length=s.outs.length:=by rw [h2] at Akp;simp at Akp;omega
  rw [Sh (by rw [Akp];omega)];simp only [h2];rw [List.getElem_append_right (by omega)];simp [h3]
 have Aai:=EW Avq Aih;have Avo: ∀j,j<s.Vq->Em ks j<Bv:= λj hj=>Aih _ (mem_keys.2 ⟨j,by omega,rfl⟩)
 let π':Pi:= λl=>match (List.range s.Vq).find? λj=>decide (Em ks j=l) with
  |some j=>ρ (Kt j)
  |none=>if l∈dead then none else π l
 have wH: ∀j,j<s.Vq->π' (Em ks j)=ρ (Kt j):= λj hj=>by
  show (match (List.range s.Vq).find? λi=>decide (Em ks i=Em ks j) with|some i=>ρ (Kt i)|none=>_)=_
  cases hf:(List.range s.Vq).find? λi=>decide (Em ks i=Em ks j) with
  |none=>
   have:=List.find?_eq_none.1 hf j (Ev.2 hj);simp at this
  |some i=>
   have:=List.find?_some hf;rw [Aai i j (Cx this)]
 have u9: ∀j,j<s.Vq->Em ks j∈dead:= λj hj=>Bo _ (Cm _ (mem_keys.2 ⟨j,by omega,rfl⟩))
 have zM: ∀l,(¬ ∃j,j<s.Vq/\l=Em ks j)->π' l=if l∈dead then none else π l:= λl hl=>by
  show (match (List.range s.Vq).find? λi=>decide (Em ks i=l) with|some i=>ρ (Kt i)|none=>_)=_
  cases hf:(List.range s.Vq).find? λi=>decide (Em ks i=l) with
  |none=>rfl
  |some i=>
   have h1:=List.find?_some hf;exact absurd ⟨i,Ev.1 (List.mem_of_find?_eq_some hf),(Cx h1).symm⟩ hl
 have Ab3: ∀l,l∉dead->π' l=π l:= λl hl=>by
  rw [zM l (λ⟨j,h1,h2⟩=>hl (h2▸u9 j h1)),Ai hl]
 have hD1: ∀b,Wn π' b\/X.Sc b->D1 b:=by
  intro b hb;show (if s.flat then λ_=>True else l5 S πc DZ) b;split
  ·trivial
  rename_i hnf;rcases hb with ⟨l,q,hl,hf⟩|hb
  ·by_cases hk: ∃j,j<s.Vq/\l=Em ks j
   ·obtain ⟨j,hj,rfl⟩:=hk;rw [wH j hj,Ag1] at hl
    cases hp:DZ (Kt j) with
    |none=>rw [hp] at hl;cases hl
    |some q0=>rw [hp] at hl;simp only [An,Aa] at hl;subst hl;exact .inr (.inr ⟨Kt j,q0,hp,hf⟩)
   ·have e0:π' l=if l∈dead then none else π l:=zM l hk
    rw [e0] at hl;split at hl
    ·cases hl
    ·rename_i Afp
     by_cases ho:Wn πc b
     ·obtain ⟨c,q',hc,hcb⟩:=ho;obtain ⟨t,t1,t2,t0,p,t3,t4,_⟩:=Xa c q' b hc hcb;have zN:=h.1.apart hl t3 hf t4;refine .inr (.inl ⟨c,q',Bz λhn=>?_,hc,hcb⟩);exact Afp (Bo _ (Bo _ (eY.2 ⟨t,etk▸t1,⟨by rw [t2];omega,t0⟩,zN.symm⟩)))
     ·refine .inl ⟨ho, .inl ⟨⟨l,q,hl,hf⟩,λl0 hl0 r0 hr0 hf0=>?_⟩⟩;have:=h.1.apart hl hr0 hf hf0;subst this;exact Afp (Cm _ (by rw [Ai hnf];exact uC.2 (hV' l hl0)))
  ·refine .inl ⟨λho=>?_, .inr hb⟩;have h1:=h.1.sc b hb;rcases (h.1.own (NF b ho)).2 with h2|h2
   ·omega
   ·exact h1.2 h2
 have hpd: ∀l∈pl,l∉dead:= λl hl hd=>by
  rcases Be.1 hd with hd|hd
  ·rcases Be.1 hd with hd|hd
   ·obtain ⟨t,ht,_,e⟩:=eY.1 hd;exact (UY l hl).1 (Bh.2 ⟨t,ht,e⟩)
   ·exact (UY l hl).2 hd
  ·split at hd
   ·cases hd
   ·obtain ⟨t,ht,_,e⟩:=uC.1 hd;exact (UY l hl).1 (Bh.2 ⟨t,ht,e⟩)
 have Ako: ∀j,j<s.Vq->Em ks j∉pl:= λj hj hp=>hpd _ hp (u9 j hj)
 let bv:Option OB:=s.rp.map λtid=> .var tid ((cw (Em ks) 0 s.outs r).drop s.aV)
 let H1:=(sj s.ins (cw (Em ks) 0 s.outs r) pl (st1.dh dead part)).heap
 have hH1: ∀l,l∉pl->Ay H1 l=if l∈dead then none else (Ay st1.heap l).map (OB.map (Cz dead part)):= λl hl=>by
  show Ay (sj _ _ _ _).heap l=_;rw [PN hl];show Ay (Yn (st1.heap.map λp=>(p.1,p.2.map (Cz dead part))) dead) l=_;rw [Oh,Pl]
 let H2:=GL H1 (Ue d) bv
 have hvd: ∀tid,s.rp=some tid->Ue d∈dead/\Ue d∉pl:= λtid Yu=>by
  obtain ⟨e1,e2⟩:=hvk tid Yu;rw [<-e1];exact ⟨u9 _ (by omega),Ako _ (by omega)⟩
 have Aol: ∀l,(∀tid,s.rp=some tid->l≠Ue d)->Ay H2 l=Ay H1 l:= λl hl=>by
  show Ay (GL H1 (Ue d) (s.rp.map _)) l=_
  cases LG:s.rp with
  |none=>rfl
  |some tid=>exact Pv _ _ _ _ (hl tid LG)
 have Au6: ∀tid,s.rp=some tid->Ay H2 (Ue d)=some (.var tid ((cw (Em ks) 0 s.outs r).drop s.aV)):= λtid Yu=>by
  show Ay (GL H1 (Ue d) (s.rp.map _)) (Ue d)=_;rw [Yu];exact Rb _ _ _ (by rw [hH1 _ (hvd tid Yu).2,Ac (hvd tid Yu).1])
 have hkv: ∀j,j<s.outs.length-> ∀tid,s.rp=some tid->Em ks j≠Ue d:= λj hj tid Yu e=>by
  have:=Aai j s.outs.length (e.trans (hvk tid Yu).1.symm);omega
 have hH2: ∀l,l∉pl->(∀tid,s.rp=some tid->l≠Ue d)->Ay H2 l=if l∈dead then none else (Ay st1.heap l).map (OB.map (Cz dead part)):= λl hl hv=>by
  rw [Aol l hv,hH1 l hl]
 let H':=Zb (RR st (nM tks)) (Em ks) 0 s.outs r H2
 obtain ⟨n1,n2,n3⟩:=ry (D:=D1) (X:=X) (key:=Em ks) Aai (fr:=RR st (nM tks)) (ρ:=ρ) s.outs 0 r Xt H2 Apq (λj _ hj=>by
  rw [hH2 _ (Ako j (by omega)) (hkv j (by omega)),Ac (u9 j (by omega))])
 have pI: ∀l,l∉dead->l∉pl->Ay H' l=(Ay st1.heap l).map (OB.map (Cz dead part)):= λl hl ud=>by
  show Ay (Zb _ _ _ _ _ _) l=_;rw [n1 l λj _ hj e=>hl (e▸u9 j (by omega)),hH2 l ud (λtid Yu e=>hl (e▸(hvd tid Yu).1)),Ai hl]
 have Afd: ∀l,l∈dead->(∀j,j<s.Vq->l≠Em ks j)->Ay H' l=none:= λl hl hj=>by
  show Ay (Zb _ _ _ _ _ _) l=_;rw [n1 l λj _ h2=>hj j (by omega),hH2 l (λhp=>hpd l hp hl) (λtid Yu e=>hj s.outs.length (by have:=(hvk tid Yu).2;omega) (e.trans (hvk tid Yu).1.symm)),Ac hl]
 have newAt: ∀l b',Ay H' l=some b'->(l∈dead\/Ay st.heap l=none)-> ∃j,j<s.Vq/\l=Em ks j:=by
  intro l b' hb hd;refine Bz λhn=>?_;have lK: ∀j,j<s.Vq->l≠Em ks j:= λj hj e=>hn ⟨j,hj,e⟩;rcases Classical.em (l∈dead) with hd'|hd'
  ·rw [Afd l hd' lK] at hb;cases hb
  ·rcases hd with hd|hd
   ·exact hd' hd
   ·rw [pI l hd' (λhp=>by obtain ⟨_,_,_,_,_,_,_,h1,_⟩:=UZ l hp;rw [hd] at h1;cases h1)] at hb
    have:Ay st1.heap l=none:=by
     by_cases hi: ∃t∈Mi 0 s.ins as,t.2.Xw=l
     ·obtain ⟨t,ht,e⟩:=hi
      by_cases Kr:t.1<Bv
      ·rw [<-e,q3 t ht Kr,e];exact hd
      ·obtain ⟨b0,_,h1,_⟩:=q4 t ht Kr;rw [e,hd] at h1;cases h1
     ·rw [q2 l λt ht e=>hi ⟨t,ht,e.symm⟩];exact hd
    rw [this] at hb;cases hb
 have Ake: ∀k,RR st (nM tks)=true-> ∀q,ρ (Kt k)=some q->q.Df q.g->X.w0.heap.size<=q.g:=by
  intro k zK q hq hg;rcases (Aas.Sb _ q _ hq hg).2 with h1|⟨c,p,h1,h2,h3⟩
  ·exact Gz h.1.below.size h1
  ·obtain ⟨t,t1,t2,t0,p',t3,t4,_⟩:=Xa c p _ h2 h3;have hm:t.2.Xw∈nM tks:=eY.2 ⟨t,etk▸t1,⟨by rw [t2];exact h1,t0⟩,rfl⟩;have:=Bk.1 zK _ hm;split at this
   ·rename_i fr tr e te xs hl;unfold St.at at hl;have hb:=(h.1.heap t.2.Xw).Se hl;simp only [Cq,Km,t3] at hb;rw [hb.1.2.1 _ t4];exact hb.1.2.2 this
   ·cases this
 have Akc: ∀k q,ρ (Kt k)=some q->k<s.outs.length->q.Df q.g:=by
  intro k q hq hk;exact Jr.Ahq s.outs 0 r Xt uf k (Iz _) ((Bl _).symm▸hk) q hq
 have hinv: ∀l,l∉dead->(∃t∈Mi 0 s.ins as,t.2.reads=false/\t.2.Xw=l)->nv X D1 w' π st.heap st1.heap l:=by
  rintro l hd ⟨t,ht,h0,rfl⟩
  by_cases Kr:t.1<Bv
  ·exact absurd (Bo _ (Bo _ (eY.2 ⟨t,etk▸ht,⟨Kr,h0⟩,rfl⟩))) hd
  ·exact q4 t ht Kr
 have zP: ∀l,(¬ ∃t∈Mi 0 s.ins as,t.2.reads=false/\t.2.Xw=l)->Ay st1.heap l=Ay st.heap l:= λl hn=>by
  by_cases hi: ∃t∈Mi 0 s.ins as,t.2.Xw=l
  ·obtain ⟨t,ht,rfl⟩:=hi
   have hr:t.2.reads=true:=by
    cases h0:t.2.reads with
    |true=>rfl
    |false=>exact absurd ⟨t,ht,h0,rfl⟩ hn
   exact q3 t ht (Al4 t ht hr)
  ·exact q2 l λt ht e=>hi ⟨t,ht,e.symm⟩
 have Ahz: ∀l∈pl,∀p,s.ptr=some p->Ay H' l=some (.var p.1 (iq s.ins (cells.map (Cz dead part)) (cw (Em ks) 0 s.outs r))):= λl hl p hp=>by
  obtain ⟨p',q,h1,h2,_,_,_,h3,_⟩:=UZ l hl;rw [hp] at h1;cases h1;show Ay (Zb _ _ _ _ _ _) l=_;rw [n1 l λj _ hj e=>Ako j (by omega) (e▸hl),Aol l (λtid Yu e=>(hvd tid Yu).2 (e▸hl))];show Ay (sj _ _ _ _).heap l=_;rw [h2];refine WW ?_;show Ay (Yn (st1.heap.map λp=>(p.1,p.2.map (Cz dead part))) dead) l=_;rw [Oh,Pl,Ai (hpd l hl),zP l (λ⟨t,ht,_,e⟩=>Aft l hl t ht e),h3];rfl
 have Aij: ∀j,j<s.Vq->s.outs.length<=j-> ∃tid,s.rp=some tid/\j=s.outs.length:= λj h1 h2=>by
  cases LG:s.rp with
  |none=>unfold MSpec.Vq at h1;rw [LG] at h1;simp at h1;omega
  |some tid=>exact ⟨tid,rfl,by have:=(hvk tid LG).2;omega⟩
 have hHv: ∀tid,s.rp=some tid->Ay H' (Ue d)=some (.var tid ((cw (Em ks) 0 s.outs r).drop s.aV)):= λtid Yu=>by
  show Ay (Zb _ _ _ _ _ _) _=_;rw [n1 _ λj _ hj e=>hkv j (by omega) tid Yu e.symm,Au6 tid Yu]
 suffices Apc:Bs X π' (mi st st1 d s pl tks r) a w'/\Bx X w' π' (mi st st1 d s pl tks r).heap av0 v by
  obtain ⟨m1,m2⟩:=Apc
  have bD: ∀(kj:List (Nat×Nat)) (l:Nat),l∈ck st.heap ks tks kj->o9 st.heap l=true/\ ∃k j t,(k,j)∈kj/\t∈tks/\t=(Eh false k,Loc.row l)/\ks[j]?=some l:=by
   intro kj
   induction kj with
   |nil=>intro l hl;cases hl
   |cons p kj ih=>
    intro l hl;obtain ⟨k,j⟩:=p
    have up:l∈ck st.heap ks tks kj->o9 st.heap l=true/\ ∃k' j' t,(k',j')∈(k,j)::kj/\t∈tks/\t=(Eh false k',Loc.row l)/\ks[j']?=some l:= λhl=>by
     obtain ⟨h1,k',j',t,h2,h3⟩:=ih l hl;exact ⟨h1,k',j',t,At _ h2,h3⟩
    simp only [ck] at hl;split at hl
    ·rename_i x0 l1 l2 h1 h2;split at hl
     ·rename_i hc;simp only [Ak] at hc;rcases Bd.1 hl with rfl|hl
      ·have:=List.find?_some h1;have e1:=Kd this;have e2:=Kd hc.1;dsimp only at e1;exact ⟨hc.2,k,j,_,Kv,List.mem_of_find?_eq_some h1,by rw [e1],by rw [h2,e2]⟩
      ·exact up hl
     ·exact up hl
    ·exact up hl
  obtain ⟨r1,r2⟩:=NQ h m1 (ls:=ck st.heap ks tks s.keeps) (n:=s.Gd x) (λl hl=>by
   obtain ⟨_,k,j,t,h1,h2,h3,h4⟩:=bD s.keeps l hl;have hj:j<ks.length:=(Ao.1 h4).1
   have ua:Em ks j=l:=by
    rw [Sh hj];rw [Ad hj] at h4;exact Bi h4
   have wI:=xY (k,j) h1;rw [show π' l=ρ (Kt j) by rw [<-ua];exact wH j (by omega),Ag1];have hc:πc (Eh false k)=(π l).map full:=Aoq k l (by rw [<-h3,<-etk];exact h2);dsimp only at wI;rw [hc] at wI
   cases hp:π l<;>cases hq:DZ (Kt j)<;>(rw [hp,hq] at wI;exact wI)) (λl hl=>(bD s.keeps l hl).1) Oy
  exact ⟨π',r1,r2 av0 v m2⟩
 refine ⟨?_,?_⟩
 ·have hx:=Bs.Ajs (π':=π') (H':=H') (dead:=dead) (part:=part) (inv:= λl=>(∃t∈Mi 0 s.ins as,t.2.reads=false/\t.2.Xw=l)\/l∈pl) (gv:= λb=>Wn πc b\/s.gv g b) h (λb hb=>by
    rcases hb with hb|hb
    ·obtain ⟨t,h1,h0,q,h2,h3,_⟩:=eR b hb;exact ⟨_,q, .inl ⟨t,h1,h0,rfl⟩,h2,h3⟩
    ·obtain ⟨l,hl,q,h1,h2,_⟩:=UT b hb
     exact ⟨l,q, .inr hl,h1,h2⟩) Afg (λl b0 hd h0=>⟨Ab3 l hd,?_⟩) (λl b' hb hd=>?_) (λl hl=>?_) (λm q hd hp hm hxa=>?_)
  ·have:({tmps:=(sj s.ins (cw (Em ks) 0 s.outs r) pl (st1.dh dead part)).tmps,heap:=H'} :St)= {tmps:=st.tmps.map (·.map (Cz dead part)),heap:=H'} :=by
    rw [qj];show ({tmps:=st1.tmps.map (·.map (Cz dead part)),heap:=H'} :St)=_;rw [q1]
   show Bs X π' ({tmps:=(sj s.ins (cw (Em ks) 0 s.outs r) pl (st1.dh dead part)).tmps,heap:=H'} :St) a w';rw [this];exact hx
  ·by_cases YR:l∈pl
   ·obtain ⟨p,q,h1,h2,h3,h4,h5,h6,h7⟩:=UZ l YR;rw [h0] at h6;cases h6;have sD:=Ahz l YR p h1;refine .inr ⟨_,sD,⟨rfl,by rw [qd]⟩,λm=>?_⟩;unfold me at qV;rw [h1] at qV;obtain ⟨cs,k1,k2,k3⟩:=qV;rw [<-h7] at k3;refine ⟨q,h3,h4,cs.toArray,by rw [<-h5];exact k1,?_⟩;refine Nn.to (kQ (H:=st.heap) Ab3 (λl1 b1 sz n hd1 YN SK=>?_) s.ins 0 cells pc x us o st st1 (cw (Em ks) 0 s.outs r) Xt cs (has▸hT) Ap9 (has▸Aav) k3 (n3 π' hD1 (λj _ hj=>wH j (by omega)))) (by simpa using k2)
    have hnp:l1∉pl:= λhp=>by
     obtain ⟨_,_,_,_,_,_,_,h8,_⟩:=UZ l1 hp;rw [YN] at h8;cases h8;cases SK
    by_cases hi: ∃t∈Mi 0 s.ins as,t.2.reads=false/\t.2.Xw=l1
    ·obtain ⟨b1,b',e1,e2,e3,e4,e5,e6⟩:=hinv l1 hd1 hi;rw [YN] at e1;cases e1;exact ⟨b',by rw [pI l1 hd1 hnp,e2];simp [e4],by rw [e5.row];exact SK⟩
    ·exact ⟨_,by rw [pI l1 hd1 hnp,zP l1 hi,YN];rfl,by rw [OB.BR];exact SK⟩
   by_cases hi: ∃t∈Mi 0 s.ins as,t.2.reads=false/\t.2.Xw=l
   ·obtain ⟨b1,b',e1,e2,e3,e4,e5,e6⟩:=hinv l hd hi;rw [h0] at e1;cases e1;exact .inr ⟨b',by rw [pI l hd YR,e2];simp [e4],by rw [e3];exact e5,λ_=>e6 π' H' hD1⟩
   ·exact .inl ⟨λhh=>hh.elim hi YR,by rw [pI l hd YR,zP l hi,h0];rfl⟩
  ·obtain ⟨j,hj,rfl⟩:=newAt l b' hb hd;refine ⟨Avo j hj,?_,λq b hq=>?_⟩
   ·rw [wH j hj];rcases Nat.lt_or_ge j s.outs.length with hjo|hjo
    ·rcases n2 j (Iz _) (by omega) with ⟨e1,_⟩|⟨b2,e1,e2⟩
     ·rw [show Ay H' (Em ks j)=none from e1] at hb;cases hb
     ·rw [show Ay H' (Em ks j)=some b2 from e1] at hb;cases hb;exact e2 X π' H' (λhf q hq=>Ake j hf q hq (Akc j q hq hjo)) hD1
    ·obtain ⟨tid,Yu,hj0⟩:=Aij j hj hjo;subst hj0;rw [(hvk tid Yu).1,hHv tid Yu] at hb;cases hb;unfold sW at fV;rw [Yu] at fV;obtain ⟨q,y1,y2,y3,y4,_⟩:=fV;rw [Ag1,y1];exact ⟨full q,rfl,y2,_,y3,Nn.to (Nn.take s.aV (n3 π' hD1 (λj _ hj=>wH j (by omega)))).2 (by simpa using y4)⟩
   ·rw [wH j hj] at hq;have Ra:=Ai6 _ q hq;refine ⟨λhf=>by rw [Ra];exact hf,λhf=>?_⟩;rw [Ra] at hf;obtain ⟨h1,h2⟩:=Aas.Sb _ q b hq hf;refine ⟨h1,h2.imp id ?_,λl2 r2 hd2 SI hf2=>?_⟩
    ·rintro ⟨c,p,h3,h4,h5⟩;obtain ⟨t,t1,t2,t0,p',t3,t4,_⟩:=Xa c p b h4 h5;exact ⟨t.2.Xw,p',Bo _ (Bo _ (eY.2 ⟨t,etk▸t1,⟨by rw [t2];exact h3,t0⟩,rfl⟩)),t3,t4⟩
    ·by_cases hk: ∃j,j<s.Vq/\l2=Em ks j
     ·obtain ⟨j2,u6,rfl⟩:=hk;rw [wH j2 u6] at SI;rw [Ai6 _ r2 SI] at hf2;have:=Aas.inj _ _ r2 q b SI hq hf2 hf;unfold Kt at this
      have:j2=j:=by omega
      rw [this]
     ·have e0:π' l2=if l2∈dead then none else π l2:=zM l2 hk
      rw [e0] at SI;split at SI
      ·cases SI
      ·rename_i Afp;rcases hd2 with hd2|hd2
       ·exact absurd hd2 Afp
       ·rw [(h.1.heap l2).emp hd2] at SI;cases SI
  ·by_cases hk: ∃j,j<s.Vq/\l=Em ks j
   ·obtain ⟨j,hj,rfl⟩:=hk;rw [wH j hj];rcases Nat.lt_or_ge j s.outs.length with hjo|hjo
    ·rcases n2 j (Iz _) (by omega) with ⟨_,e1⟩|⟨b2,e1,_⟩
     ·exact e1
     ·rw [show Ay H' (Em ks j)=some b2 from e1] at hl;cases hl
    ·obtain ⟨tid,Yu,hj0⟩:=Aij j hj hjo;subst hj0;rw [(hvk tid Yu).1,hHv tid Yu] at hl;cases hl
   ·have e0:π' l=if l∈dead then none else π l:=zM l hk
    rw [e0];split
    ·rfl
    ·rename_i hd
     by_cases YR:l∈pl
     ·obtain ⟨p,_,h1,_⟩:=UZ l YR;rw [Ahz l YR p h1] at hl;cases hl
     rw [pI l hd YR] at hl
     by_cases hi: ∃t∈Mi 0 s.ins as,t.2.reads=false/\t.2.Xw=l
     ·obtain ⟨_,b',_,e2,_⟩:=hinv l hd hi;rw [e2] at hl;cases hl
     ·rw [zP l hi] at hl
      cases h0:Ay st.heap l with
      |none=>exact (h.1.heap l).emp h0
      |some b=>rw [h0] at hl;cases hl
  ·refine Afg.block _ (h.1.lt hm).1 λND=>?_;rcases ND with ho|hg
   rotate_left
   ·obtain ⟨l,hl,q',h1,h2,_⟩:=UT _ hg;have zN:=h.1.apart hm h1 (h.1.Df hm) h2;obtain ⟨_,_,_,_,_,_,_,h3,_⟩:=UZ l hl;obtain ⟨b,hxa,hxb⟩:=hxa;rw [zN,h3] at hxa;cases hxa;exact hxb rfl
   obtain ⟨t,t1,t0,p,t3,t4,t5⟩:=eR _ ho;have zN:=h.1.apart hm t3 (h.1.Df hm) t4
   have hpq:p=q:=by rw [<-zN,hm] at t3;exact (Bi t3).symm
   cases ht2:t.2 with
   |row l=>
    refine hp ?_;show m∈whole tks;unfold whole;exact Hg.2 ⟨t,etk▸t1,by rw [ht2,zN,ht2];simp [Loc.Xw]⟩
   |sub l i j=>exact t5 l i j ht2 (by rw [hpq])
   |view l=>rw [ht2] at t0;cases t0
 ·have Awb:=n3 π' hD1 (λj _ hj=>wH j (by omega))
  cases LG:s.rp with
  |some tid=>
   unfold sW at fV;rw [LG] at fV;obtain ⟨q,y1,y2,y3,y4,rfl⟩:=fV;unfold Agq at iF;rw [LG] at iF;simp only [Aa] at iF;subst iF;refine ⟨full q,tid,_,hHv tid LG,?_,rfl⟩;rw [<-(hvk tid LG).1,wH _ (by have:=(hvk tid LG).2;omega),Ag1,y1];rfl
  |none=>
  unfold sW at fV;rw [LG] at fV;obtain ⟨fV,Awi⟩:=fV;unfold Agq at iF;rw [LG] at iF;simp only at iF;obtain ⟨g1,g2,g3,g4⟩:=eN s.Li _ (Xt.drop s.aV) Awi (Nn.take s.aV Awb).2;unfold Arf at iF;unfold Acm at fV;split at iF
  ·rename_i hm;rw [Ac hm] at fV;simp only [Aa] at iF;subst iF;subst fV;exact ⟨_,rfl,g3.symm,g4⟩
  ·rename_i hm;rw [Ai hm] at fV;split at iF
   ·rename_i av1 hga;simp only [Aa] at iF;subst iF;rcases fV with fV|fV
    ·exact g2 0 _ v (by rw [hga];rfl) (by rw [fV];rfl)
    ·rw [hga,fV] at g1;cases g1
   ·simp only [Aa] at iF;subst iF;trivial
   ·cases iF
end
end Go.Proofs.Ytfgfigkbgecfnaa
