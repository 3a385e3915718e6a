/-
  Part 17 of the proof that the statement FnTwoPhase holds.
-/
import Derived.Test.YtkkdpknjohcekaaCFTwoPhase15
namespace Go.Proofs.Ytkkdpknjohcekaa
open Go.RowKit
section
variable {P:Program} {T:Tab} {X:Ctx} {w w':World} {π π':Pi} {H H':List (Nat×OB)}
theorem br (k:Nat): ¬Em true k<Bq:=by unfold Em Bq;simp
theorem fT {k:Nat} (h:k<100000):Em false k<Bq:=by unfold Em Bq;simp;omega
def mZ (X:Ctx) (D:Nat->Prop) (w':World) (π:Pi) (H Hn:List (Nat×OB)) (l:Nat):Prop:=
 ∃b0 b',Ay H l=some b0/\Ay Hn l=some b'/\(∀f,OB.map f b0=b0)/\(∀f,OB.map f b'=b')/\b0.fC b'/\ ∀π' H',(∀b,Wf π' b\/X.Sc b->D b)->Co X w' π' H' (π l) b'
theorem Acf {io:Bool} {k:Nat} {τ:Ty} {a:AC} {t:Nat×Loc} (h:t∈Qo io k (.Gw τ) a):t.1=Em false k:=by
 cases a<;>simp [Qo,views] at h<;>first|(obtain ⟨_,⟨_,_⟩,rfl⟩:=h;rfl)|(rw [h])
theorem WG {io:Bool} {k:Nat} {e:Ty} {te:TypeId} {a:AC} {t:Nat×Loc} (h:t∈Qo io k (.part e te) a):t.1=Em io k:=by cases a<;>simp [Qo] at h<;>rw [h]
theorem Acg {io:Bool} {k:Nat} {e:Ty} {te:TypeId} {a:AC} {t:Nat×Loc} (h:t∈Qo io k (.row e te) a):t.1=Em io k:=by cases a<;>simp [Qo] at h<;>rw [h]
theorem WH {io:Bool} {k:Nat} {e:Ty} {te:TypeId} {a:AC} {t:Nat×Loc} (h:t∈Qo io k (.Ie e te) a):t.1=Em io k:=by cases a<;>simp [Qo] at h<;>rw [h]
theorem fj {D:Nat->Prop} {π':Pi} {fr:Bool} {e:Ty} {es:List Value} {y:e.den} (hD: ∀b,Wf π' b\/X.Sc b->D b) (h:Cells w' D e es y):Cells w' (Df X.w0.heap.size X.Sc π' (fr&&e.flat)) e es y:=by
 cases hf:e.flat with
 |true=>exact Cells.flat e es y hf h
 |false=>exact Cells.Fz (Aq _) (λ_ _ _=>rfl) (λb _ hb=>by
   rcases hb with hb|hb|⟨hb,_⟩
   ·exact hD b (.inl hb)
   ·exact hD b (.inr hb)
   ·simp at hb) e es y h
theorem WI {D P:Nat->Prop} {g o:Nat} {cur:Array Value} {tr:Bool} {e:Ty} {xs:List e.den}
  (h: ∀(i:Nat) (x:e.den),xs[i]?=some x-> ∃es:List Value,es.length=e.size/\(∀j u,es[j]?=some u->cur[(o+i)*e.size+j]?=some u)/\Cells w' D e es x) (ht:(tr&&e.flat)=true):Xy w' P g o cur e xs:=by
 simp only [Aj] at ht
 exact nL ht.2 h
theorem VI {D:Nat->Prop} (h:Nk X w π H) {k:Nat} {c:CK} {ys:c.den} {a:AC} {u:Value} {r:Option Real} {x:c.den} {cur st1:St} (hs:w.heap.size<=w'.heap.size)
  (hU: ∀l i j q b,a= .sub l i j->π l=some q->q.Da b->b<w.heap.size->(∀r',r=some r'-> ¬r'.Da b)->w'.heap[b]?=w.heap[b]?)
  {V:List Nat} (ht:eZ w (Pf X π V) r u c x/\Ua w π H true a u r c x) (hr:gz w' D r c ys) (he:cA cur c ys a=some st1) (ia: ∀t∈Qo true k c a,Ay cur.heap t.2.Xn=Ay H t.2.Xn):
  st1.tmps=cur.tmps/\(∀m,(∀t∈Qo true k c a,m≠t.2.Xn)->Ay st1.heap m=Ay cur.heap m)/\ ∀t∈Qo true k c a,mZ X D w' π H st1.heap t.2.Xn:=by
 obtain ⟨hc,ht⟩:=ht
 cases c with
 |Gw τ=>cases a<;>simp [cA] at he;subst he;exact ⟨rfl,λ_ _=>rfl,λt ht=>by simp [Qo] at ht⟩
 |row e te=>
  simp only [Ua] at ht
  cases a<;>simp only [] at ht<;>first|(exact ht.elim)|skip
  ·simp only [cA,Aa] at he;subst he
   exact ⟨rfl,λ_ _=>rfl,λt ht=>by simp [Qo] at ht⟩
  ·rename_i l off len
   obtain ⟨rfl,rfl,rfl,fr,tr,hl⟩:=ht
   have Rn:Ay cur.heap l=some (.arr fr tr e te x):=(ia _ (Af.2 rfl)).trans hl
   simp only [cA,St.at,Rn] at he
   split at he
   ·rename_i Kh
    obtain ⟨_,h1,_⟩:=Kh
    simp only [Aa] at he;subst he
    refine ⟨rfl,λm hm=>Er _ _ _ _ (hm _ (Af.2 rfl)),λt Wg=>?_⟩
    have Wg:=Af.1 Wg
    subst Wg
    refine ⟨_,_,hl,Fk _ _ _ _ Rn,λ_=>rfl,λ_=>rfl,⟨rfl,h1.symm⟩,λπ' H' hD=>?_⟩
    have hb:=(h.heap l).Ru hl
    change Co X w' π' H' (π l) _
    simp only [Co,Kn] at hb⊢
    cases hp:π l with
    |none=>rw [hp] at hr;exact hr
    |some q=>
     rw [hp] at hr hb
     obtain ⟨k1,cu,ti,k2,k3,k4,k5,k6⟩:=hr
     exact ⟨⟨k1.1,k1.2,λhh=>hb.1.2.2 (by simp only [Aj] at hh;exact hh.1)⟩,cu,ti,k2,k3,k4,k5,λi y hy=>by
      obtain ⟨es,g1,g2,g3⟩:=k6 i y hy
      exact ⟨es,g1,g2,fj hD g3⟩,λht=>WI k6 ht⟩
   ·cases he
  ·rename_i l i j
   obtain ⟨⟨_,hf⟩,tid,xs,hl,hx,q,hq,Wq,hre⟩:=ht
   have Rn:Ay cur.heap l=some (.Hc (.slice e) tid xs):=(ia _ (Af.2 rfl)).trans hl
   simp only [cA,St.at,Rn,hx] at he
   rw [Jk trivial] at he
   ·split at he
    ·rename_i h1
     simp only [Aa] at he;subst he
     refine ⟨rfl,λm hm=>Er _ _ _ _ (hm _ (Af.2 rfl)),λt Wg=>?_⟩
     have Wg:=Af.1 Wg
     subst Wg
     refine ⟨_,_,hl,Fk _ _ _ _ Rn,λ_=>rfl,λ_=>rfl,⟨rfl,by simp⟩,λπ' H' _=>?_⟩
     show Om w' (π l) (.slice e) tid _
     rw [hq]
     refine hre w' ys hs (λb Lg hb hn=>hU l i j q b rfl hq hb Lg hn) ?_
     have hv:=hc.1
     rw [<-show List.length ys=List.length x from h1] at hv
     exact Ti.OZ hr hf hv
    ·cases he
 |Ie e te=>
  simp only [Ua] at ht
  cases a<;>simp only [] at ht<;>first|(exact ht.elim)|skip
  ·simp only [cA,Aa] at he;subst he
   exact ⟨rfl,λ_ _=>rfl,λt ht=>by simp [Qo] at ht⟩
  ·rename_i l off len
   obtain ⟨rfl,rfl,rfl,hl⟩:=ht
   have Rn:Ay cur.heap l=some (.Hc e te x):=(ia _ (Af.2 rfl)).trans hl
   simp only [cA,St.at,Rn] at he
   split at he
   ·rename_i Kh
    obtain ⟨_,h1,_⟩:=Kh
    simp only [Aa] at he;subst he
    refine ⟨rfl,λm hm=>Er _ _ _ _ (hm _ (Af.2 rfl)),λt Wg=>?_⟩
    have Wg:=Af.1 Wg
    subst Wg
    refine ⟨_,_,hl,Fk _ _ _ _ Rn,λ_=>rfl,λ_=>rfl,⟨rfl,h1.symm⟩,λπ' H' _=>?_⟩
    show Om w' (π l) e te _
    cases hp:π l with
    |none=>rw [hp] at hr;exact hr
    |some q=>rw [hp] at hr;exact hr
   ·cases he
  ·rename_i l i j
   obtain ⟨_,tid,xs,hl,hx,q,hq,Wq,hre⟩:=ht
   have Rn:Ay cur.heap l=some (.Hc (.slice e) tid xs):=(ia _ (Af.2 rfl)).trans hl
   simp only [cA,St.at,Rn,hx] at he
   rw [Jk trivial] at he
   ·split at he
    ·rename_i h1
     simp only [Aa] at he;subst he
     refine ⟨rfl,λm hm=>Er _ _ _ _ (hm _ (Af.2 rfl)),λt Wg=>?_⟩
     have Wg:=Af.1 Wg
     subst Wg
     refine ⟨_,_,hl,Fk _ _ _ _ Rn,λ_=>rfl,λ_=>rfl,⟨rfl,by simp⟩,λπ' H' _=>?_⟩
     show Om w' (π l) (.slice e) tid _
     rw [hq]
     refine hre w' ys hs (λb Lg hb hn=>hU l i j q b rfl hq hb Lg hn) ?_
     have hv:=hc.1
     rw [<-show List.length ys=List.length x from h1] at hv
     exact Om.OZ (te:=te) hr hv
    ·cases he
 |part e te=>cases a<;>simp [cA] at he<;>first|(simp only [Ua] at ht;exact ht.2.elim)
 |Bu e te kp=>exact absurd ht.1 (by simp)
theorem VJ {D:Nat->Prop} (h:Nk X w π H) {k:Nat} {e:Ty} {te:TypeId} {ys:List e.den} {a:AC} {u:Value} {r:Option Real} {x:(CK.part e te).den} {cur st1:St}
  {V:List Nat} (ht:eZ w (Pf X π V) r u (.part e te) x/\Ua w π H true a u r (.part e te) x) (hr:gz w' D r (.row e te) ys) (he:NR cur e ys a=some st1) (ia: ∀t∈Qo true k (.part e te) a,Ay cur.heap t.2.Xn=Ay H t.2.Xn):
  st1.tmps=cur.tmps/\(∀m,(∀t∈Qo true k (.part e te) a,m≠t.2.Xn)->Ay st1.heap m=Ay cur.heap m)/\ ∀t∈Qo true k (.part e te) a,mZ X D w' π H st1.heap t.2.Xn:=by
 obtain ⟨hc,hf,ht⟩:=ht
 cases a<;>simp only [] at ht<;>first|(exact ht.elim)|skip
 rename_i l off len
 obtain ⟨rfl,_,fr,tr,hl⟩:=ht
 have Rn:Ay cur.heap l=some (.arr fr tr e te x.1):=(ia _ (Af.2 rfl)).trans hl
 simp only [NR,St.at,Rn] at he
 split at he
 ·rename_i Kh
  obtain ⟨_,h1⟩:=Kh
  simp only [Aa] at he;subst he
  refine ⟨rfl,λm hm=>Er _ _ _ _ (hm _ (Af.2 rfl)),λt Wg=>?_⟩
  have Wg:=Af.1 Wg
  subst Wg
  refine ⟨_,_,hl,Fk _ _ _ _ Rn,λ_=>rfl,λ_=>rfl,⟨rfl,h1.symm⟩,λπ' H' _=>?_⟩
  have hb:=(h.heap l).Ru hl
  change Co X w' π' H' (π l) _
  simp only [Co,Kn] at hb⊢
  cases hp:π l with
  |none=>rw [hp] at hr;exact hr
  |some q=>
   rw [hp] at hr hb
   obtain ⟨k1,cu,ti,k2,k3,k4,k5,k6⟩:=hr
   exact ⟨⟨k1.1,k1.2,hb.1.2.2⟩,cu,ti,k2,k3,k4,k5,λi y hy=>by
    obtain ⟨es,g1,g2,g3⟩:=k6 i y hy
    exact ⟨es,g1,g2,Cells.flat e es y hf g3⟩,λ_=>nL hf k6⟩
 ·cases he
def rZ (X:Ctx) (D:Nat->Prop) (w':World) (π:Pi) (H:List (Nat×OB)) (tk:List (Nat×Loc)) (cur st1:St):Prop:=
 st1.tmps=cur.tmps/\(∀m,(∀t∈tk,m≠t.2.Xn)->Ay st1.heap m=Ay cur.heap m)/\(∀t∈tk,t.1<Bq->Ay st1.heap t.2.Xn=Ay cur.heap t.2.Xn)/\(∀t∈tk,¬t.1<Bq->mZ X D w' π H st1.heap t.2.Xn)
theorem uo {D:Nat->Prop} (h:Nk X w π H) {V:List Nat} {πc:Pi} {tks:List (Nat×Loc)} (hs:w.heap.size<=w'.heap.size)
  (hU: ∀t∈tks,∀q b,π t.2.Xn=some q->q.Da b->b<w.heap.size->(∀r',πc t.1=some r'-> ¬r'.Da b)->w'.heap[b]?=w.heap[b]?):
  ∀(cs:List (Bool×CK)) (k:Nat) (x:Ins.den cs) (as:List AC) (us:List Value) (o:IOs.den cs) (cur st1:St),k+cs.length<100000->(∀t∈Mh k cs as,t∈tks)->((Mh k cs as).map λt=>t.2.Xn).Nodup->
   rq X w π V H πc k cs x as us->Mo w' D πc k cs o->Ik cs o as cur=some st1->(∀t∈Mh k cs as,Ay cur.heap t.2.Xn=Ay H t.2.Xn)->
   rZ X D w' π H (Mh k cs as) cur st1
 | [],k,x,as,us,o,cur,st1,_,_,_,_,_,he,_=>by
  simp only [Ik,Aa] at he;subst he
  have e0:Mh k [] as= []:=by cases as<;>rfl
  exact ⟨rfl,λ_ _=>rfl,by rw [e0];simp,by rw [e0];simp⟩
 |p::r,k,x,[],us,o,cur,st1,_,_,_,ht,_,_,_=>ht.elim
 |p::r,k,x,a::as,[],o,cur,st1,_,_,_,ht,_,_,_=>ht.elim
 |(io,c)::r,k,x,a::as,u::us,o,cur,st1,hk,Oe,rH,ht,ho,he,ia=>by
  simp only [Aw] at hk
  simp only [Mh] at Oe rH ia⊢
  rw [Ir] at rH
  obtain ⟨n1,n2,n3⟩:=Dz.1 rH
  have apart: ∀t∈Qo io k c a,∀t'∈Mh (k+1) r as,t'.2.Xn≠t.2.Xn:= λt h1 t' h2 e=>n3 _ (Be.2 ⟨t,h1,rfl⟩) _ (Be.2 ⟨t',h2,rfl⟩) e.symm
  have rest: ∀(aq:St) (o':IOs.den r),Mo w' D πc (k+1) r o'->Ik r o' as aq=some st1->aq.tmps=cur.tmps->(∀m,(∀t∈Qo io k c a,m≠t.2.Xn)->Ay aq.heap m=Ay cur.heap m)->
    (∀t∈Qo io k c a,t.1<Bq->Ay aq.heap t.2.Xn=Ay cur.heap t.2.Xn)->(∀t∈Qo io k c a,¬t.1<Bq->mZ X D w' π H aq.heap t.2.Xn)->
    rZ X D w' π H (Qo io k c a++Mh (k+1) r as) cur st1:=by
   intro aq o' h1 h2 h3 h4 h5 h6
   obtain ⟨g1,g2,g3,g4⟩:=uo h hs hU r (k+1) x.2 as us o' aq st1 (by omega) (λt ht=>Oe t (Cn _ ht)) n2 ht.2 h1 h2 (λt Wg=>by
    rw [h4 _ λt0 ht0=>apart t0 ht0 t Wg];exact ia t (Cn _ Wg))
   have hd: ∀t∈Qo io k c a,Ay st1.heap t.2.Xn=Ay aq.heap t.2.Xn:= λt Wg=>g2 _ λt' qA=>(apart t Wg t' qA).symm
   refine ⟨g1.trans h3,λm hm=>?_,λt Wg Lg=>?_,λt Wg Lg=>?_⟩
   ·rw [g2 m λt ht=>hm t (Cn _ ht),h4 m λt ht=>hm t (Bj _ ht)]
   ·rcases Az.1 Wg with Wg|Wg
    ·rw [hd t Wg,h5 t Wg Lg]
    ·rw [g3 t Wg Lg,h4 _ λt0 ht0=>apart t0 ht0 t Wg]
   ·rcases Az.1 Wg with Wg|Wg
    ·obtain ⟨b0,b',q1,q2,q3⟩:=h6 t Wg Lg
     exact ⟨b0,b',q1,(hd t Wg).trans q2,q3⟩
    ·exact g4 t Wg Lg
  have same: ∀o',Mo w' D πc (k+1) r o'->Ik r o' as cur=some st1->(∀t∈Qo io k c a,t.1<Bq)->rZ X D w' π H (Qo io k c a++Mh (k+1) r as) cur st1:= λo' h1 h2 h3=>rest cur o' h1 h2 rfl (λ_ _=>rfl) (λ_ _ _=>rfl) (λt h4 h5=>absurd (h3 t h4) h5)
  cases io with
  |false=>
   have h3: ∀t∈Qo false k c a,t.1<Bq:= λt h4=>by rcases IW h4 with ⟨h5,_⟩|⟨h5,_⟩<;>(rw [h5];exact fT (by omega))
   cases c with
   |Gw τ=>exact same o ho (by simpa only [Ik] using he) h3
   |row e te=>exact same o ho (by simpa only [Ik] using he) h3
   |Ie e te=>exact same o ho (by simpa only [Ik] using he) h3
   |part e te=>exact same o ho (by simpa only [Ik] using he) h3
   |Bu e te kp=>exact same o ho (by simpa only [Ik] using he) h3
  |true=>
   have row: ∀(ys:c.den) (o':IOs.den r),(∀t∈Qo true k c a,t.1=Em true k)->gz w' D (πc (Em true k)) c ys->Mo w' D πc (k+1) r o'->(∃aq,cA cur c ys a=some aq/\Ik r o' as aq=some st1)->rZ X D w' π H (Qo true k c a++Mh (k+1) r as) cur st1:=by
    intro ys o' h0 h1 h2 h3
    obtain ⟨aq,hp,h3⟩:=h3
    ·obtain ⟨q1,q2,q3⟩:=VI (k:=k) h hs (λl i j q b ea hq hb Lg hn=>by
      cases c with
      |Gw τ=>exact absurd (ht.1.2:πc _=none) (by subst ea;simp [cA] at hp)
      |row e te=>subst ea;exact hU (Em true k, .sub l i j) (Oe _ (Bj _ (Af.2 rfl))) q b hq hb Lg hn
      |Ie e te=>subst ea;exact hU (Em true k, .sub l i j) (Oe _ (Bj _ (Af.2 rfl))) q b hq hb Lg hn
      |Bu e te kp=>exact absurd ht.1.2.1 (by simp)
      |part e te=>exact absurd ht.1.2.2 (by subst ea;exact λh=>h)) ht.1 h1 hp (λt Wg=>ia t (Bj _ Wg))
     exact rest aq o' h2 h3 q1 q2 (λt h4 h5=>absurd h5 (by rw [h0 t h4];exact br k)) (λt h4 _=>q3 t h4)
   cases c with
   |Gw τ=>exact same o ho (by simpa only [Ik] using he) (λt h4=>by rw [Acf h4];exact fT (by omega))
   |Bu e te kp=>exact absurd ht.1.2.1 (by simp)
   |row e te=>
    simp only [Ik] at he
    split at he
    ·rename_i aq hp;exact row o.1 o.2 (λt ht=>Acg ht) ho.1 ho.2 ⟨aq,hp,he⟩
    ·cases he
   |Ie e te=>
    simp only [Ik] at he
    split at he
    ·rename_i aq hp;exact row o.1 o.2 (λt ht=>WH ht) ho.1 ho.2 ⟨aq,hp,he⟩
    ·cases he
   |part e te=>
    simp only [Ik] at he
    split at he
    ·rename_i aq hp
     obtain ⟨q1,q2,q3⟩:=VJ (k:=k) h ht.1 ho.1 hp (λt Wg=>ia t (Bj _ Wg))
     exact rest aq o.2 ho.2 he q1 q2 (λt h4 h5=>absurd h5 (by rw [WG h4];exact br k)) (λt h4 _=>q3 t h4)
    ·cases he
theorem MS {fr:Bool} {c:CK} {x:c.den} {u:Value} {r:Option Real} {D:Nat->Prop} (h:eZ w' D r u c x):
  (wb fr c x=none/\r=none)\/ ∃b',wb fr c x=some b'/\ ∀(X:Ctx) π' H',(fr=true-> ∀q,r=some q->X.w0.heap.size<=q.g)->(∀b,Wf π' b\/X.Sc b->D b)->Co X w' π' H' r b':=by
 cases c with
 |Gw τ=>exact .inl ⟨rfl,h.1⟩
 |row e te=>
  refine .inr ⟨_,rfl,λX π' H' zi hD=>?_⟩
  obtain ⟨_,h⟩:=h
  simp only [gz] at h
  simp only [Co,Kn]
  cases r with
  |none=>exact h
  |some q=>
   obtain ⟨k1,cu,ti,k2,k3,k4,k5,k6⟩:=h
   exact ⟨⟨k1.1,k1.2,λh1=>zi (by simp only [Aj] at h1;exact h1.1) q rfl⟩,cu,ti,k2,k3,k4,k5,λi y hy=>by
    obtain ⟨es,g1,g2,g3⟩:=k6 i y hy
    exact ⟨es,g1,g2,fj hD g3⟩,λh=>by cases h⟩
 |Ie e te=>exact .inr ⟨_,rfl,λX π' H' _ _=>h.2⟩
 |Bu e te kp=>exact .inr ⟨_,rfl,λX π' H' _ hD=>⟨aD.Jh h.2 λb hb=>hD b (hb.imp id λh=>h.elim id λh=>by cases h.1),trivial⟩⟩
 |part e te=>
  refine .inr ⟨_,rfl,λX π' H' zi hD=>?_⟩
  obtain ⟨_,hf,h⟩:=h
  simp only [Co,Kn]
  cases r with
  |none=>exact h
  |some q=>
   obtain ⟨k1,cu,ti,k2,k3,k4,k5,k6⟩:=h
   exact ⟨⟨k1.1,k1.2,λh1=>zi (by simp only [Aj] at h1;exact h1.1) q rfl⟩,cu,ti,k2,k3,k4,k5,λi y hy=>by
    obtain ⟨es,g1,g2,g3⟩:=k6 i y hy
    exact ⟨es,g1,g2,fj hD g3⟩,λh=>by cases h⟩
theorem qP {D:Nat->Prop} {key:Nat->Nat} (LQ: ∀i j,key i=key j->i=j) {fr:Bool} {ρ:Pi} : ∀(cs:List CK) (k:Nat) (x:CKs.den cs) (us:List Value) (H:List (Nat×OB)),Jr w' D ρ k cs x us->
  (∀j,k<=j->j<k+cs.length->Ay H (key j)=none)->
  (∀l,(∀j,k<=j->j<k+cs.length->l≠key j)->Ay (Yr fr key k cs x H) l=Ay H l)/\
  (∀j,k<=j->j<k+cs.length->(Ay (Yr fr key k cs x H) (key j)=none/\ρ (Kq j)=none)\/
   ∃b',Ay (Yr fr key k cs x H) (key j)=some b'/\ ∀(X:Ctx) π' H',(fr=true-> ∀q,ρ (Kq j)=some q->X.w0.heap.size<=q.g)->(∀b,Wf π' b\/X.Sc b->D b)->Co X w' π' H' (ρ (Kq j)) b')/\
  (∀π',(∀b,Wf π' b\/X.Sc b->D b)->(∀j,k<=j->j<k+cs.length->π' (key j)=ρ (Kq j))->Nl X w' π' (Yr fr key k cs x H) (cc key k cs x) us)
 | [],k,x,[],H,_,_=>⟨λ_ _=>rfl,λj h1 h2=>by simp at h2;omega,λ_ _ _=>trivial⟩
 | [],_,_,_::_,_,h,_=>h.elim
 |_::_,_,_,[],_,h,_=>h.elim
 |c::r,k,x,u::us,H,h,hn=>by
  simp only [Aw] at hn⊢
  simp only [Yr,cc]
  have si:=hn k (Aq _) (by omega)
  have hH1: ∀l,l≠key k->Ay (FM H (key k) (wb fr c x.1)) l=Ay H l:=by
   intro l hl
   cases wb fr c x.1 with
   |some b=>exact Ps _ _ _ _ hl
   |none=>rfl
  have Amw:Ay (FM H (key k) (wb fr c x.1)) (key k)=wb fr c x.1:=by
   cases wb fr c x.1 with
   |some b=>exact Qq _ _ _ si
   |none=>exact si
  generalize (FM H (key k) (wb fr c x.1))=H1 at hH1 Amw⊢
  obtain ⟨g1,g2,g3⟩:=qP LQ (fr:=fr) r (k+1) x.2 us H1 h.2 (λj h1 h2=>by
   rw [hH1 _ λe=>by have:=LQ _ _ e;omega];exact hn j (by omega) (by omega))
  have LR:Ay (Yr fr key (k+1) r x.2 H1) (key k)=wb fr c x.1:=by
   rw [g1 _ λj h1 h2 e=>by have:=LQ _ _ e;omega];exact Amw
  refine ⟨λl hl=>?_,λj h1 h2=>?_,λπ' hd hπ=>⟨?_,?_⟩⟩
  ·rw [g1 l λj h1 h2=>hl j (by omega) (by omega)]
   exact hH1 l (hl k (Aq _) (by omega))
  ·rcases Nat.eq_or_lt_of_le h1 with e|h1
   ·subst e
    rw [LR]
    exact MS h.1
   ·exact g2 j h1 (by omega)
  ·have h1:=h.1
   have hpk:=hπ k (Aq _) (by omega)
   cases c with
   |Gw τ=>
    obtain ⟨iL,c1,c2⟩:=h1.2
    exact ⟨iL,by have:=fj (fr:=true) hd c1;simpa using this,c2⟩
   |row e te=>exact ⟨_,e.size,List.length x.1,LR,rfl,by simp,by rw [hpk];exact h1.1⟩
   |Ie e te=>exact ⟨_,e.size,List.length x.1,LR,rfl,by simp,by rw [hpk];exact h1.1⟩
   |Bu e te kp=>exact ⟨_,1,List.length x.1,LR,rfl,by simp,by rw [hpk];exact h1.1⟩
   |part e te=>trivial
  ·exact g3 π' hd λj h1 h2=>hπ j (by omega) (by omega)
theorem MJ {ks:List Nat} {n:Nat} (h:zE ks n=true):ks.length=n/\ks.Nodup/\ ∀l∈ks,l<Bq:=by
 unfold zE at h
 simp only [Aj] at h
 refine ⟨Kb h.1,Yq h.2.1,λl hl=>?_⟩
 have:=Bg.1 h.2.2 l hl
 simpa using this
theorem Rv {ks:List Nat} {j:Nat} (h:j<ks.length):Ev ks j=ks[j]:=by
 unfold Ev
 rw [Ad h]
theorem DZ {ks:List Nat} (hn:ks.Nodup) (hl: ∀l∈ks,l<Bq): ∀i j,Ev ks i=Ev ks j->i=j:=by
 intro i j h
 by_cases hi:i<ks.length
 ·by_cases hj:j<ks.length
  ·rw [Rv hi,Rv hj] at h
   rcases Nat.lt_trichotomy i j with Lg|he|Lg
   ·exact absurd h (Ez.1 hn i j hi hj Lg)
   ·exact he
   ·exact absurd h.symm (Ez.1 hn j i hj hi Lg)
  ·have h1:=hl _ (Am hi)
   rw [Rv hi] at h
   unfold Ev at h
   rw [Ds (by omega)] at h
   simp only at h
   omega
 ·by_cases hj:j<ks.length
  ·have h1:=hl _ (Am hj)
   rw [Rv hj] at h
   unfold Ev at h
   rw [Ds (by omega)] at h
   simp only at h
   omega
  ·unfold Ev at h
   rw [Ds (by omega),Ds (by omega)] at h
   simp only at h
   omega
theorem Oc: ∀(H:List (Nat×OB)) (dead:List Nat) (l:Nat),Ay (Yc H dead) l=if l∈dead then none else Ay H l
 | [],dead,l=>by simp [Yc,Ay]
 |(k,b)::r,dead,l=>by
  simp only [Yc]
  have ih:=Oc r dead l
  by_cases hk:k∈dead
  ·rw [Ab (by simpa using hk),ih]
   split
   ·rfl
   ·rename_i hl
    simp only [Ay]
    rw [Ai (λ(e:k=l)=>hl (e▸hk))]
  ·rw [Ai (by simpa using hk)]
   simp only [Ay]
   split
   ·rename_i e;subst e;rw [Ai hk]
   ·exact ih
theorem mem_keys {ks:List Nat} {l:Nat} :l∈ks↔ ∃k,k<ks.length/\l=Ev ks k:=
 ⟨λh=>by obtain ⟨k,hk,e⟩:=Nw h;exact ⟨k,hk,by rw [Rv hk,e]⟩,λ⟨k,hk,e⟩=>by rw [e,Rv hk];exact Am hk⟩
theorem eC {tks:List (Nat×Loc)} {l:Nat} :l∈nw tks↔ ∃t∈tks,(t.1<Bq/\t.2.reads=false)/\t.2.Xn=l:=by
 unfold nw
 simp only [Be,Cl,Aj,Nr,Fg]
 exact ⟨λ⟨t,⟨h1,h2⟩,h3⟩=>⟨t,h1,h2,h3⟩,λ⟨t,h1,h2,h3⟩=>⟨t,⟨h1,h2⟩,h3⟩⟩
theorem zF {tks:List (Nat×Loc)} (h:(tks.map λt=>t.2.Xn).Nodup) {t t':Nat×Loc} (ht:t∈tks) (qA:t'∈tks) (he:t.2.Xn=t'.2.Xn):t=t':=by
 induction tks with
 |nil=>cases ht
 |cons a r ih=>
  simp only [Ca] at h
  obtain ⟨h1,h2⟩:=Cm.1 h
  rcases Bb.1 ht with rfl|ht<;>rcases Bb.1 qA with rfl|qA
  ·rfl
  ·exact (h1 (Be.2 ⟨t',qA,he.symm⟩)).elim
  ·exact (h1 (he▸Be.2 ⟨t,‹t∈r›,rfl⟩)).elim
  ·exact ih h2 ht qA
theorem Jr.full {D:Nat->Prop} {ρ:Pi} : ∀(cs:List CK) (k:Nat) (x:CKs.den cs) (us:List Value),Jr w D ρ k cs x us->Jr w D (λl=>(ρ l).map full) k cs x us
 | [],_,_,[],h=>h
 | [],_,_,_::_,h=>h.elim
 |_::_,_,_,[],h=>h.elim
 |c::r,k,x,u::us,h=>⟨by
   have h1:=h.1
   show eZ w D ((ρ (Kq k)).map _) u c x.1
   cases c with
   |Gw τ=>rw [h1.1];exact ⟨rfl,h1.2⟩
   |row e te=>cases hp:ρ (Kq k)<;>(rw [hp] at h1;exact h1)
   |Ie e te=>cases hp:ρ (Kq k)<;>(rw [hp] at h1;exact h1)
   |Bu e te kp=>cases hp:ρ (Kq k)<;>(rw [hp] at h1;exact h1)
   |part e te=>cases hp:ρ (Kq k)<;>(rw [hp] at h1;exact h1),Jr.full r (k+1) x.2 us h.2⟩
theorem Jr.Agj {D:Nat->Prop} {ρ:Pi} : ∀(cs:List CK) (k0:Nat) (x:CKs.den cs) (us:List Value),Jr w D ρ k0 cs x us-> ∀j,k0<=j->j<k0+cs.length-> ∀q,ρ (Kq j)=some q->q.Da q.g
 | [],k0,_,_,_,j,h1,h2,_,_=>by simp at h2;omega
 |_::_,_,_,[],h,_,_,_,_,_=>h.elim
 |c::r,k0,x,u::us,ho,j,h1,h2,q,hq=>by
  rcases Nat.eq_or_lt_of_le h1 with e|h1
  ·subst e
   have:=ho.1
   cases c with
   |Gw τ=>rw [hq] at this;cases this.1
   |row e te=>rw [hq] at this;exact this.2.1.1
   |Ie e te=>rw [hq] at this;exact this.2.1
   |part e te=>rw [hq] at this;exact this.2.2.1.1
   |Bu e te kp=>rw [hq] at this;exact this.2.1
  ·exact Jr.Agj r (k0+1) x.2 us ho.2 j h1 (by simp at h2;omega) q hq
theorem Ti.any {D D':Nat->Prop} {r:Option Real} {e:Ty} {xs:List e.den} (hf:e.flat=true) (h:Ti w D r e xs):Ti w D' r e xs:=by
 cases r with
 |none=>exact h
 |some r=>
  obtain ⟨k1,cu,ti,k2,k3,k4,k5,k6⟩:=h
  exact ⟨k1,cu,ti,k2,k3,k4,k5,λi y hy=>by
   obtain ⟨es,g1,g2,g3⟩:=k6 i y hy
   exact ⟨es,g1,g2,Cells.flat e es y hf g3⟩⟩
theorem Jr.any {D D':Nat->Prop} {ρ:Pi} : ∀(cs:List CK) (k:Nat) (x:CKs.den cs) (us:List Value),cs.all (·.flat)=true->Jr w D ρ k cs x us->Jr w D' ρ k cs x us
 | [],_,_,[],_,h=>h
 | [],_,_,_::_,_,h=>h.elim
 |_::_,_,_,[],_,h=>h.elim
 |c::r,k,x,u::us,hf,h=>by
  simp only [Jw,Aj] at hf
  refine ⟨?_,Jr.any r (k+1) x.2 us hf.2 h.2⟩
  have h1:=h.1
  cases c with
  |Gw τ=>exact ⟨h1.1,Dc.flat hf.1 h1.2⟩
  |row e te=>exact ⟨h1.1,Ti.any hf.1 h1.2⟩
  |Ie e te=>exact h1
  |part e te=>exact ⟨h1.1,h1.2.1,Ti.any hf.1 h1.2.2⟩
  |Bu e te kp=>exact absurd hf.1 (by simp [CK.flat])
theorem Mo.any {D D':Nat->Prop} {π:Pi} : ∀(cs:List (Bool×CK)) (k:Nat) (x:IOs.den cs),(cs.all λp=>!p.1||p.2.flat)=true->Mo w D π k cs x->Mo w D' π k cs x
 | [],_,_,_,h=>h
 |(false,_)::r,k,x,hf,h=>Mo.any r (k+1) x (by simp only [Jw,Aj] at hf;exact hf.2) h
 |(true, .Gw _)::r,k,x,hf,h=>Mo.any r (k+1) x (by simp only [Jw,Aj] at hf;exact hf.2) h
 |(true, .Bu _ _ _)::r,k,x,hf,h=>Mo.any r (k+1) x (by simp only [Jw,Aj] at hf;exact hf.2) h
 |(true, .row e te)::r,k,x,hf,h=>by
  simp only [Jw,Aj,Bool.not_true,bD] at hf
  exact ⟨Ti.any hf.1 h.1,Mo.any r (k+1) x.2 hf.2 h.2⟩
 |(true, .Ie e te)::r,k,x,hf,h=>by
  simp only [Jw,Aj,Bool.not_true,bD] at hf
  exact ⟨h.1,Mo.any r (k+1) x.2 hf.2 h.2⟩
 |(true, .part e te)::r,k,x,hf,h=>by
  simp only [Jw,Aj,Bool.not_true,bD] at hf
  exact ⟨Ti.any hf.1 h.1,Mo.any r (k+1) x.2 hf.2 h.2⟩
theorem u6 {tks:List (Nat×Loc)} {l:Nat} :l∈CM tks↔ ∃t∈tks,t.2.reads=true/\t.2.Xn=l:=by
 unfold CM
 simp only [Be,Cl]
 exact ⟨λ⟨t,⟨h1,h2⟩,h3⟩=>⟨t,h1,h2,h3⟩,λ⟨t,h1,h2,h3⟩=>⟨t,⟨h1,h2⟩,h3⟩⟩
theorem Bm.om {st:St} {a:Act} (h:Bm X π st a w) {f:AC->AC} (hu:f .undef= .undef) {gv:Nat->Prop} (TP: ∀b,gv b->Wf π b) (hb:Lh w.heap.size gv w w')
  (ew: ∀b,b<w.heap.size->Wf π' b->Wf π b)
  (Oe: ∀l r b,π' l=some r->r.Da b->r.cl b) (Aji: ∀l r b,π' l=some r->r.cl b->(X.w0.heap.size<=b\/X.gv b)/\b<w'.heap.size)
  (Atu: ∀l l' r r' b,π' l=some r->π' l'=some r'->r.cl b->r'.cl b->l=l')
  (dy: ∀l,Bq<=l->Ay H' l≠none->bG (X.im l) (π' l))
  (hac:(∀fr τ cs x,Cells w (Df X.w0.heap.size X.Sc π fr) τ cs x->Cells w' (Df X.w0.heap.size X.Sc π' fr) τ cs x)-> ∀c v,Hu X w π st.heap c v->Hu X w' π' H' (f c) v)
  (LM:Move X w w' π π' st.heap H' f-> ∀l b,Ay H' l=some b->Co X w' π' H' (π' l) b)
  (QZ: ∀l,Ay H' l=none->π' l=none):
  Bm X π' {tmps:=st.tmps.map (·.map f),heap:=H'} a w':=by
 have hc: ∀fr τ cs x,Cells w (Df X.w0.heap.size X.Sc π fr) τ cs x->Cells w' (Df X.w0.heap.size X.Sc π' fr) τ cs x:= λfr τ cs x hh=>
  Cells.Fz hb.size (λk hk hn=>hb.block k hk λhg=>hn (.inl (TP k hg))) (λk Lg hA=>hA.imp (ew k Lg) id) τ cs x hh
 have m:Move X w w' π π' st.heap H' f:=⟨hac hc,hc⟩
 refine ⟨⟨⟨hb.os.trans h.1.below.os,hb.tape.trans h.1.below.tape,hb.output.trans h.1.below.output,Iq h.1.below.size hb.size,λk hk hn=>?_⟩,h.1.sc,Oe,Aji,Atu,dy,λl=>?_⟩,m.NU hu h.2⟩
 ·refine (hb.block k (Ex hk h.1.below.size) λhg=>?_).trans (h.1.below.block k hk hn)
  rcases (h.1.own (TP k hg)).2 with h1|h1
  ·omega
  ·exact hn h1
 ·cases hh:Ay H' l with
  |none=>exact Gm.Uu (QZ l hh) hh
  |some b=>exact Gm.Mf (LM m l b hh) hh
def gA:Option Real->Option Real->Prop
 |none,none=>True
 |some r,some r'=>r.g=r'.g/\r.o=r'.o/\r.cap=r'.cap
 |_,_=>False
theorem gA.rfl' (r:Option Real):gA r r:=by cases r<;>simp [gA]
theorem gA.some {r:Real} {r':Option Real} (h:gA (some r) r'): ∃q,r'=some q/\r.g=q.g/\r.o=q.o/\r.cap=q.cap:=by
 cases r' with
 |none=>exact h.elim
 |some q=>exact ⟨q,rfl,h⟩
theorem gA.own {r r':Option Real} (h:gA r r') {sz off len:Nat} {v:Value} (hv:Ig r sz off len v):Ig r' sz off len v:=by
 cases r<;>cases r'<;>first|exact h.elim|skip
 ·exact hv
 ·obtain ⟨h1,h2,h3⟩:=h
  obtain ⟨ad,g1,g2,g3⟩:=hv
  exact ⟨ad,by rw [<-h3];exact g1,by rw [<-h3];exact g2,by rw [<-h1,<-h2,<-h3];exact g3⟩
structure OB.Tp (b b':OB):Prop where
 row: ∀sz n,b.row=some (sz,n)-> ∃n',b'.row=some (sz,n')/\n<=n'
 gJ: ∀p,b.gJ=some p->b'.gJ=some p
 vS: ∀p,b.vS=some p->b'.vS=some p
 var: ∀tid vs,b= .var tid vs-> ∃Vh vs',b'= .var Vh vs'
 Wb: ∀v m,b= .Wb v m-> ∃m',b'= .Wb v m'
theorem OB.Tp.map (f:AC->AC) (b:OB):b.Tp (b.map f) where
 row:= λsz n h=>⟨n,by cases b<;>exact h,Aq _⟩
 gJ:= λp h=>by cases b<;>exact h
 vS:= λp h=>by cases b<;>exact h
 var:= λtid vs h=>by subst h;exact ⟨_,_,rfl⟩
 Wb:= λv m h=>by subst h;exact ⟨_,rfl⟩
theorem OB.Tp.rfl' (b:OB):b.Tp b where
 row:= λ_sz n h=>⟨n,h,Aq _⟩
 gJ:= λ_p h=>h
 vS:= λ_p h=>h
 var:= λ_tid _vs h=>⟨_,_,h⟩
 Wb:= λ_v _m h=>⟨_,h⟩
theorem OB.Tp.trans {a b c:OB} (h:a.Tp b) (k:b.Tp c):a.Tp c where
 row:= λsz n hr=>by
  obtain ⟨n1,h1,h2⟩:=h.row sz n hr
  obtain ⟨n2,h3,h4⟩:=k.row sz n1 h1
  exact ⟨n2,h3,by omega⟩
 gJ:= λp hp=>k.gJ p (h.gJ p hp)
 vS:= λp hp=>k.vS p (h.vS p hp)
 var:= λtid vs hv=>by obtain ⟨t',v',h1⟩:=h.var tid vs hv;exact k.var t' v' h1
 Wb:= λv m hm=>by obtain ⟨m',h1⟩:=h.Wb v m hm;exact k.Wb v m' h1
theorem oh {f:AC->AC} {D Pt:Nat->Prop} (hf: ∀c,f c= .undef\/(f c=c/\(∀k∈c.refs,¬D k)/\ ∀k i j,c= .sub k i j\/c= .Km k i j-> ¬Pt k)) (hp: ∀k,¬D k->gA (π k) (π' k))
  (hH: ∀k b,¬D k->Ay H k=some b-> ∃b',Ay H' k=some b'/\b.Tp b')
  (hg: ∀k r b,¬D k-> ¬Pt k->Ay H k=some b->b.gJ≠none->π k=some r->w'.heap[r.g]?=w.heap[r.g]?)
  (hc: ∀fr τ cs x,Cells w (Df X.w0.heap.size X.Sc π fr) τ cs x->Cells w' (Df X.w0.heap.size X.Sc π' fr) τ cs x): ∀c v,Hu X w π H c v->Hu X w' π' H' (f c) v:=by
 intro c v h
 rcases hf c with e|⟨e,hr,hs⟩
 ·rw [e];trivial
 rw [e]
 cases c with
 |data fr τ x=>obtain ⟨cs,h1,h2⟩:=h;exact ⟨cs,hc _ _ _ _ h1,h2⟩
 |own k off len=>
  obtain ⟨b,sz,n,h1,h0,h2,h3⟩:=h
  have hk:=hr k (by simp [AC.refs])
  obtain ⟨b',g1,g2⟩:=hH k b hk h1
  obtain ⟨n',g3,g4⟩:=g2.row sz n h0
  exact ⟨b',sz,n',g1,g3,by omega,(hp k hk).own h3⟩
 |Ho k i=>
  obtain ⟨r,tid,vs,h1,h2,h3⟩:=h
  have hk:=hr k (by simp [AC.refs])
  obtain ⟨b',g1,g2⟩:=hH k _ hk h1
  obtain ⟨Vh,vs',rfl⟩:=g2.var tid vs rfl
  obtain ⟨q,q1,q2,_⟩:=(h2▸hp k hk).some
  exact ⟨q,Vh,vs',g1,q1,by rw [<-q2];exact h3⟩
 |Kp k i=>
  obtain ⟨r,b,sz,n,h1,h0,h2,h3,h4⟩:=h
  have hk:=hr k (by simp [AC.refs])
  obtain ⟨b',g1,g2⟩:=hH k b hk h1
  obtain ⟨n',g3,g4⟩:=g2.row sz n h0
  obtain ⟨q,q1,q2,q3,_⟩:=(h3▸hp k hk).some
  exact ⟨q,b',sz,n',g1,g3,by omega,q1,by rw [<-q2,<-q3];exact h4⟩
 |sub k i c=>
  obtain ⟨r,b,sz,n,h1,h0,h2,h3,h4,h5⟩:=h
  have hk:=hr k (by simp [AC.refs])
  obtain ⟨b',g1,g2⟩:=hH k b hk h1
  obtain ⟨q,q1,q2,q3,_⟩:=(h2▸hp k hk).some
  exact ⟨q,b',sz,n,g1,g2.gJ _ h0,q1,h3,h4,by rw [<-q2,<-q3,World.cell?_of_block (hg k r b hk (hs k i c (.inl rfl)) h1 (by rw [h0];simp) h2)];exact h5⟩
 |Km k i c=>
  obtain ⟨r,b,n,sz,g,o,len,cap,h1,h0,h2,h3,h4,h5,h6⟩:=h
  have hk:=hr k (by simp [AC.refs])
  obtain ⟨b',g1,g2⟩:=hH k b hk h1
  obtain ⟨q,q1,q2,q3,_⟩:=(h2▸hp k hk).some
  exact ⟨q,b',n,sz,g,o,len,cap,g1,g2.vS _ h0,q1,h3,h4,by rw [<-q2,<-q3,World.cell?_of_block (hg k r b hk (hs k i c (.inr rfl)) h1 (by cases b<;>first|(cases h0;done)|simp [OB.gJ]) h2)];exact h5,h6⟩
 |clo g Ew=>
  obtain ⟨us,h1,h2,h3⟩:=h
  refine ⟨us,h1,h2,λj p hpj=>?_⟩
  obtain ⟨r,tid,vs,h4,h5,h6⟩:=h3 j p hpj
  have hk:=hr p.1 (by simp only [AC.refs,Be];exact ⟨p,Cq hpj,rfl⟩)
  obtain ⟨b',g1,g2⟩:=hH p.1 _ hk h4
  obtain ⟨Vh,vs',rfl⟩:=g2.var tid vs rfl
  obtain ⟨q,q1,q2,_⟩:=(h5▸hp p.1 hk).some
  exact ⟨q,Vh,vs',g1,q1,by rw [<-q2];exact h6⟩
 |Ky k=>
  obtain ⟨r,vt,m,h1,h2,h3⟩:=h
  have hk:=hr k (by simp [AC.refs])
  obtain ⟨b',g1,g2⟩:=hH k _ hk h1
  obtain ⟨m',rfl⟩:=g2.Wb vt m rfl
  obtain ⟨q,q1,q2,_⟩:=(h2▸hp k hk).some
  exact ⟨q,vt,m',g1,q1,by rw [<-q2];exact h3⟩
 |_=>exact h
theorem Vo (H0:List (Nat×OB)) (ls:List Nat) (n:Nat): ∀(H:List (Nat×OB)) (l:Nat),Ay (dA H0 ls n H) l=(Ay H l).map λb=>if ls.contains l then b.ID (c7 n (Ak2 (Ay H0 l))) else b
 | [],_=>rfl
 |(k,b)::r,l=>by
  simp only [dA,Ay]
  split
  ·rename_i e;subst e;rfl
  ·exact Vo H0 ls n r l
theorem OB.AU (b:OB) (kp:Option (Nat×Nat)):b.Tp (b.ID kp):=by
 cases b with
 |Bu e te rows out kp0=>exact ⟨λsz n h=>⟨n,h,Aq _⟩,λp h=>h,λp h=>h,(λ_ _ h=>by cases h),(λ_ _ h=>by cases h)⟩
 |_=>exact OB.Tp.rfl' _
theorem gl (ls:List Nat): ∀(l m:List AV) (t:Nat),l.length=m.length->(∃k i c,l.getD t .undef= .at (.sub k i c)/\ls.contains k=true/\(Mg ls l m).getD t .undef= .at (.sub k i c))\/(Mg ls l m).getD t .undef=m.getD t .undef
 | [],m,t,_=>by cases m<;>exact .inr rfl
 |_::_,[],t,h=>by simp at h
 |a::l,v::m,t,h=>by
  have ih:= λt=>gl ls l m t (by simpa using h)
  have tail: ∀u,Mg ls (a::l) (v::m)=u::Mg ls l m->(t=0->(∃k i c,(a::l).getD t .undef= .at (.sub k i c)/\ls.contains k=true/\u= .at (.sub k i c))\/u=v)->
    (∃k i c,(a::l).getD t .undef= .at (.sub k i c)/\ls.contains k=true/\(Mg ls (a::l) (v::m)).getD t .undef= .at (.sub k i c))\/(Mg ls (a::l) (v::m)).getD t .undef=(v::m).getD t .undef:=by
   intro u e h0
   rw [e]
   rcases t with _|t
   ·rcases h0 rfl with ⟨k,i,c,h1,h2,h3⟩|h3
    ·exact .inl ⟨k,i,c,h1,h2,by simpa using h3⟩
    ·exact .inr (by simpa using h3)
   ·simpa only [Nv] using ih t
  cases a with
  | «at»c=>
   cases c with
   |sub k i c=>
    refine tail _ rfl λht=>?_
    subst ht
    by_cases hc:ls.contains k=true
    ·exact .inl ⟨k,i,c,rfl,hc,by rw [Ab hc]⟩
    ·exact .inr (by rw [Ai hc])
   |_=>exact tail _ rfl λ_=> .inr rfl
  |_=>exact tail _ rfl λ_=> .inr rfl
theorem ve {H:List (Nat×OB)} {ls:List Nat} {n:Nat} : ∀ {l:List AV} {t k i c:Nat},dJ H ls n l=true->l.getD t .undef= .at (.sub k i c)->ls.contains k=true->i<n/\i<sd H k
 | [],t,k,i,c,_,h,_=>by simp at h
 |a::l,0,k,i,c,ho,h,hc=>by
  simp only [Xx] at h
  subst h
  simp only [dJ,hc,Bool.not_true,bD,Aj,Nr] at ho
  exact ho.1
 |a::l,t+1,k,i,c,ho,h,hc=>by
  refine ve (l:=l) (t:=t) (c:=c) ?_ (by simpa only [Nv] using h) hc
  cases a with
  | «at»d=>cases d with
   |sub _ _ _=>simp only [dJ,Aj] at ho;exact ho.2
   |_=>exact ho
  |_=>exact ho
theorem MG {cw st:St} {a:Act} (h0:Bm X π cw a w) (h:Bm X π' st a w') {ls:List Nat} {n:Nat} (hk: ∀l∈ls,DD w w' (π l) (π' l) n) (tt: ∀l∈ls,nV cw.heap l=true)
  (mW:dJ st.heap ls n cw.tmps=true):Bm X π' (mq cw st ls n) a w'/\ ∀c v,Bt X w' π' st.heap c v->Bt X w' π' (mq cw st ls n).heap c v:=by
 by_cases rG:ls= []
 ·subst rG;exact ⟨h,λ_ _ h=>h⟩
 have Pc:mq cw st ls n= {tmps:=Mg ls cw.tmps st.tmps,heap:=dA cw.heap ls n st.heap} :=by
  cases ls with
  |nil=>exact absurd rfl rG
  |cons _ _=>rfl
 rw [Pc]
 have hg0: ∀l∈ls,∃e te rows out kp,Ay cw.heap l=some (.Bu e te rows out kp):= λl hl=>by
  have:=tt l hl
  unfold nV at this
  split at this
  ·exact ⟨_,_,_,_,_,by assumption⟩
  ·cases this
 have srv: ∀k b,Ay st.heap k=some b-> ∃b',Ay (dA cw.heap ls n st.heap) k=some b'/\b.Tp b':= λk b hb=>by
  rw [Vo,hb]
  refine ⟨_,rfl,?_⟩
  dsimp only
  split
  ·exact OB.AU b _
  ·exact OB.Tp.rfl' b
 have hac:(∀fr τ cs x,Cells w' (Df X.w0.heap.size X.Sc π' fr) τ cs x->Cells w' (Df X.w0.heap.size X.Sc π' fr) τ cs x)-> ∀c v,Hu X w' π' st.heap c v->Hu X w' π' (dA cw.heap ls n st.heap) c v:= λhc=>
  oh (f:= λc=>c) (D:= λ_=>False) (Pt:= λ_=>False) (λc=> .inr ⟨rfl,λ_ _ h=>h,λ_ _ _ _ h=>h⟩) (λk _=>gA.rfl' _) (λk b _ hb=>srv k b hb) (λ_ _ _ _ _ _ _ _=>rfl) hc
 have h1:Bm X π' {tmps:=st.tmps.map (·.map λc=>c),heap:=dA cw.heap ls n st.heap} a w':=by
  refine h.om rfl (gv:= λ_=>False) (λ_ hf=>hf.elim) (Lh.refl _ _ _) (λ_ _ ho=>ho) h.1.sub h.1.place h.1.inj (λl hl Ip=>h.1.im l hl λh2=>Ip (by rw [Vo,h2];rfl)) hac (λm l b hb=>?_) (λl hl=>?_)
  ·rw [Vo] at hb
   cases h2:Ay st.heap l with
   |none=>rw [h2] at hb;cases hb
   |some b0=>
    rw [h2] at hb
    simp only [An,Aa] at hb
    have hbk:=(h.1.heap l).Ru h2
    have JR:=hbk.move m (Aq _) (λr0 c h0 h1=>h.1.sub _ r0 c h0 h1) λ_ _ _ _ _=>rfl
    rw [show OB.map (λc=>c) b0=b0 from OB.GL b0] at JR
    split at hb
    ·rename_i hc
     have hl:l∈ls:=by simpa using hc
     cases b0 with
     |Bu e te rows out kp=>
      simp only [OB.ID] at hb
      subst hb
      refine ⟨JR.1,?_⟩
      obtain ⟨e0,te0,Ahy,Avf,kp0,hg⟩:=hg0 l hl
      have si:=((h0.1.heap l).Ru hg).2
      rw [hg]
      simp only [Ak2]
      have vV:=hk l hl
      cases kp0 with
      |none=>trivial
      |some p=>
       obtain ⟨l0,n0⟩:=p
       simp only [KeptAt,c7] at si⊢
       cases zq:X.im l0 with
       |none=>
        cases hp:π l with
        |none=>
         rw [hp] at vV
         cases FH:π' l with
         |none=>trivial
         |some q=>rw [FH] at vV;exact vV.elim
        |some q=>rw [zq,hp] at si;exact si.elim
       |some r0=>
        cases hp:π l with
        |none=>rw [zq,hp] at si;exact si.elim
        |some q=>
         rw [zq,hp] at si
         rw [hp] at vV
         cases FH:π' l with
         |none=>rw [FH] at vV;exact vV.elim
         |some q'=>
          rw [FH] at vV
          obtain ⟨k1,k2,k3,k4⟩:=vV
          obtain ⟨g1,g2,g3,g4⟩:=si
          refine ⟨k1.trans g1,k2.trans g2,k3.trans g3,λj hj hc=>?_⟩
          have e1:=g4 j (by omega) hc
          have e2:=k4 j (by omega) (by omega)
          rw [g1,g2] at e2
          rw [<-e1,e2]
     |_=>simp only [OB.ID] at hb;subst hb;exact JR
    ·subst hb;exact JR
  ·rw [Vo] at hl
   cases h2:Ay st.heap l with
   |none=>exact (h.1.heap l).emp h2
   |some b=>rw [h2] at hl;cases hl
 have ZF: ∀c v,Bt X w' π' st.heap c v->Bt X w' π' (dA cw.heap ls n st.heap) c v:= λc v hv=>by
  have m:Move X w' w' π' π' st.heap (dA cw.heap ls n st.heap) (λc=>c):=⟨hac λ_ _ _ _ h=>h,λ_ _ _ _ h=>h⟩
  have:=m.av hv
  rwa [AC.map_id] at this
 refine ⟨⟨h1.1,⟨?_,h.2.defers,λt=>?_⟩⟩,ZF⟩
 ·have: ∀(l m:List AV),(Mg ls l m).length=m.length:=by
   intro l
   induction l with
   |nil=>intro m;cases m<;>rfl
   |cons a l ih=>
    intro m
    cases m with
    |nil=>cases a with
     | «at»c=>cases c<;>rfl
     |_=>rfl
    |cons v m=>cases a with
     | «at»c=>cases c<;>simp only [Mg,Aw,ih m]
     |_=>simp only [Mg,Aw,ih m]
  show a.tmps.size=(Mg ls cw.tmps st.tmps).length
  rw [this];exact h.2.size
 ·show Bt X w' π' _ ((Mg ls cw.tmps st.tmps).getD t .undef) _
  rcases gl ls cw.tmps st.tmps t (by rw [<-h0.2.size,<-h.2.size]) with ⟨k,i,c,g1,g2,g3⟩|g
  ·rw [g3]
   have Nn:k∈ls:=by simpa using g2
   obtain ⟨i1,i2⟩:=ve mW g1 g2
   have hv:=h0.2.tmps t
   rw [show cw.get t=_ from g1] at hv
   obtain ⟨r,b,sz,n',e1,e2,e3,e4,⟨e5,e6⟩,e7⟩:=hv
   obtain ⟨e0,te0,Ahy,Avf,kp0,hg⟩:=hg0 k Nn
   rw [hg] at e1;cases e1
   simp only [OB.gJ,Aa,Ag] at e2
   obtain ⟨rfl,rfl⟩:=e2
   have vV:=hk k Nn
   rw [e3] at vV
   cases FH:π' k with
   |none=>rw [FH] at vV;exact vV.elim
   |some q'=>
    rw [FH] at vV
    obtain ⟨k1,k2,k3,k4⟩:=vV
    have tq:Ahy.length<=r.cap:=by
     have:=((h0.1.heap k).Ru hg).1
     rw [e3] at this
     obtain ⟨_,_,_,_,_,_,h5,_⟩:=this
     exact h5
    unfold sd at i2
    split at i2
    ·rename_i e9 te9 Apw Bbd kp9 hg9
     refine ⟨q',_,1,Apw.length,by rw [Vo,hg9];rfl,?_,FH,i2,⟨e5,e6⟩,?_⟩
     ·dsimp only
      split<;>rfl
     ·have kO:c=0:=by omega
      subst kO
      rw [k1,k2]
      rw [Fw,Ed] at e7⊢
      rw [k4 i i1 (by omega)];exact e7
    ·omega
  ·rw [g]
   exact ZF _ _ (h.2.tmps t)
theorem pS {ins:List (Bool×CK)} {as:List AC} {pl:List Nat} {st:St} :(rP ins as pl st).tmps=st.tmps:=by
 unfold rP
 split
 ·rfl
 ·split<;>rfl
theorem OE {ins:List (Bool×CK)} {as:List AC} {pl:List Nat} {st:St} {m:Nat} (hm:m∉pl):Ay (rP ins as pl st).heap m=Ay st.heap m:=by
 unfold rP
 split
 ·rfl
 ·rename_i l r
  split
  ·exact Er _ _ _ _ λe=>hm (e▸Ji)
  ·rfl
theorem VP {ins:List (Bool×CK)} {as:List AC} {l:Nat} {st:St} {tid:TypeId} {vs:List AC} (hl:Ay st.heap l=some (.var tid vs)):Ay (rP ins as [l] st).heap l=some (.var tid (gQ ins vs as)):=by
 simp only [rP,St.at,hl]
 exact Fk _ _ _ _ hl
theorem yd {α:Type} (ins:List (Bool×CK)) (as:List α):gQ ins [] as= []:=by
 rcases ins with _|⟨⟨_|_,c⟩,r⟩<;>rfl
theorem pN {α:Type} : ∀(ins:List (Bool×CK)) (vs as:List α),(gQ ins vs as).length=vs.length
 | [],vs,as=>by rw [gQ];all_goals simp
 |p::r,[],as=>by rw [yd]
 |(true,c)::r,v::vs,as=>by simp only [gQ,Aw,pN r vs as]
 |(false,c)::r,v::vs,[]=>by rw [gQ];all_goals simp
 |(false,c)::r,v::vs,a::as=>by simp only [gQ,Aw,pN r vs as]
theorem VG {st:St} {a:Act} (h:Bm X π st a w) {s:MSpec} {ni:List AV} {vs:List Value} (hlen:ni.length=vs.length) (ZF: ∀(i:Nat) c v,ni[i]?=some c->vs[i]?=some v->Bt X w π st.heap c v)
  {pl:List Nat} {cells:List AC} {rest:List AV} (he:SA st s ni=some (pl,cells,rest)):
  ∃(g:Nat) (cus yC:List Value),rest.length=yC.length/\(∀(i:Nat) c v,rest[i]?=some c->yC[i]?=some v->Bt X w π st.heap c v)/\Nl X w π st.heap cells cus/\
   ((s.ptr=none/\pl= []/\cells= []/\cus= []/\vs=yC)\/
    ∃p l q,s.ptr=some p/\pl= [l]/\π l=some q/\q.Da q.g/\g=q.g/\Ay st.heap l=some (.var p.1 cells)/\cells.length=p.2/\vs= .pointer (some ⟨g,0,none⟩)::yC/\w.heap[g]?=some (.cells cus.toArray p.1 (0,0))/\Gh X w π st.heap cells cus):=by
 unfold SA at he
 split at he
 ·rename_i hp
  simp only [Aa,Ag] at he
  obtain ⟨rfl,rfl,rfl⟩:=he
  exact ⟨0,[],vs,hlen,ZF,trivial, .inl ⟨hp,rfl,rfl,rfl,rfl⟩⟩
 ·rename_i p hp
  split at he
  ·rename_i l i Axv
   split at he
   ·rename_i tid cs hl
    split at he
    ·rename_i hc
     obtain ⟨rfl,hc,rfl⟩:=hc
     simp only [Aa,Ag] at he
     obtain ⟨rfl,rfl,rfl⟩:=he
     unfold St.at at hl
     cases vs with
     |nil=>simp at hlen
     |cons v vs=>
      obtain ⟨r,Vh,vs',h1,h2,rfl⟩:=ZF 0 _ v rfl rfl
      rw [hl] at h1;cases h1
      obtain ⟨r',h3,h4,cur,h5,h6⟩:=(h.1.heap l).Ru hl
      rw [h2] at h3;cases h3
      exact ⟨r.g,cur.toList,vs,by simpa using hlen,λi c v h7 h8=>ZF (i+1) c v (by simpa using h7) (by simpa using h8),Nl.of h6, .inr ⟨p,l,r,hp,rfl,h2,h4,rfl,hl,hc,rfl,by simpa using h5,h6⟩⟩
    ·cases he
   ·cases he
  ·cases he
theorem kB {V:List Nat} {πc:Pi} {dead part:List Nat} (hπ: ∀l,l∉dead->π' l=π l) (Su: ∀l b sz n,l∉dead->Ay H l=some b->b.row=some (sz,n)-> ∃b',Ay H' l=some b'/\b'.row=some (sz,n)):
  ∀(ins:List (Bool×CK)) (k:Nat) (cells oN:List AC) (x:Ins.den ins) (us:List Value) (o:IOs.den ins) (cur st1:St) (news:List AC) (Xm cs:List Value),rq X w π V H πc k ins x (cells++oN) us->Wr ins cells=true->
   Ik ins o (cells++oN) cur=some st1->Fh πc k ins o cells.length cs Xm->Nl X w' π' H' news Xm->Nl X w' π' H' (gQ ins (cells.map (Cx dead part)) news) cs
 |ins,k,[],oN,x,us,o,cur,st1,news,Xm,cs,_,_,_,hb,_=>by
  have hb:cs= []:=by rcases ins with _|⟨⟨_|_,c⟩,r⟩<;>(try cases c)<;>simpa [Fh] using hb
  rw [hb,List.map_nil,yd]
  trivial
 | [],k,a::cells,oN,x,us,o,cur,st1,news,Xm,cs,_,hk,_,_,_=>by simp [Wr] at hk
 |(true, .Gw τ)::r,k,a::cells,oN,x,us,o,cur,st1,news,Xm,cs,_,hk,_,_,_=>by simp [Wr] at hk
 |(true, .part e te)::r,k,a::cells,oN,x,us,o,cur,st1,news,Xm,cs,_,hk,_,_,_=>by simp [Wr] at hk
 |(true, .Bu e te _)::r,k,a::cells,oN,x,us,o,cur,st1,news,Xm,cs,_,hk,_,_,_=>by simp [Wr] at hk
 |(true, .row e te)::r,k,a::cells,oN,x,us,o,cur,st1,news,Xm,cs,ht,hk,hp,hb,hn=>by
  cases a<;>simp only [Wr,Di] at hk
  rename_i l off len
  cases us with
  |nil=>exact ht.elim
  |cons u0 us=>
  cases cs with
  |nil=>exact hb.elim
  |cons u cs=>
  obtain ⟨⟨_,h1⟩,h2⟩:=ht
  simp only [Ua] at h1
  obtain ⟨h3,rfl,rfl,fr,tr,h4⟩:=h1
  obtain ⟨h5,h6⟩:=hb
  simp only [Ms,Ik] at hp
  split at hp
  rotate_left
  ·cases hp
  rename_i aq hpc
  have ZR:List.length o.1=List.length x.1:=by
   simp only [cA] at hpc
   repeat' split at hpc
   all_goals first|(cases hpc;done)|(rename_i hc;exact hc.2.1)
  refine ⟨?_,kB hπ Su r (k+1) cells oN x.2 us o.2 aq st1 news Xm cs h2 hk hp h6 hn⟩
  by_cases hd:l∈dead
  ·have:Cx dead part (.own l 0 (List.length x.1))= .undef:=by
    unfold Cx
    rw [Ab (by simp [AC.refs,hd])]
   rw [this];trivial
  ·rw [cK (by simpa [AC.refs] using hd) (by intro l i j e;rcases e with e|e<;>cases e)]
   obtain ⟨b',g1,g2⟩:=Su l _ e.size (List.length x.1) hd h4 rfl
   refine ⟨b',e.size,List.length x.1,g1,g2,by omega,?_⟩
   rw [hπ l hd]
   rw [h3,ZR] at h5
   cases hp:π l<;>(rw [hp] at h5;exact h5)
 |(true, .Ie e te)::r,k,a::cells,oN,x,us,o,cur,st1,news,Xm,cs,ht,hk,hp,hb,hn=>by
  cases a<;>simp only [Wr,Di] at hk
  rename_i l off len
  cases us with
  |nil=>exact ht.elim
  |cons u0 us=>
  cases cs with
  |nil=>exact hb.elim
  |cons u cs=>
  obtain ⟨⟨_,h1⟩,h2⟩:=ht
  simp only [Ua] at h1
  obtain ⟨h3,rfl,rfl,h4⟩:=h1
  obtain ⟨h5,h6⟩:=hb
  simp only [Ms,Ik] at hp
  split at hp
  rotate_left
  ·cases hp
  rename_i aq hpc
  have ZR:List.length o.1=List.length x.1:=by
   simp only [cA] at hpc
   repeat' split at hpc
   all_goals first|(cases hpc;done)|(rename_i hc;exact hc.2.1)
  refine ⟨?_,kB hπ Su r (k+1) cells oN x.2 us o.2 aq st1 news Xm cs h2 hk hp h6 hn⟩
  by_cases hd:l∈dead
  ·have:Cx dead part (.own l 0 (List.length x.1))= .undef:=by
    unfold Cx
    rw [Ab (by simp [AC.refs,hd])]
   rw [this];trivial
  ·rw [cK (by simpa [AC.refs] using hd) (by intro l i j e;rcases e with e|e<;>cases e)]
   obtain ⟨b',g1,g2⟩:=Su l _ e.size (List.length x.1) hd h4 rfl
   refine ⟨b',e.size,List.length x.1,g1,g2,by omega,?_⟩
   rw [hπ l hd]
   rw [h3,ZR] at h5
   cases hp:π l<;>(rw [hp] at h5;exact h5)
 |(false,c)::r,k,a::cells,oN,x,[],o,cur,st1,news,Xm,cs,ht,hk,hp,hb,hn=>ht.elim
 |(false,c)::r,k,a::cells,oN,x,u0::us,o,cur,st1,news,Xm,[],ht,hk,hp,hb,hn=>by cases c<;>exact hb.elim
 |(false,c)::r,k,a::cells,oN,x,u0::us,o,cur,st1,news,[],u::cs,ht,hk,hp,hb,hn=>by cases c<;>exact hb.elim
 |(false,c)::r,k,a::cells,oN,x,u0::us,o,cur,st1,[],u'::Xm,u::cs,ht,hk,hp,hb,hn=>hn.elim
 |(false,c)::r,k,a::cells,oN,x,u0::us,o,cur,st1,na::news,u'::Xm,u::cs,ht,hk,hp,hb,hn=>by
  have hb2:u=u'/\Fh πc (k+1) r o cells.length cs Xm:=by cases c<;>exact hb
  obtain ⟨rfl,hb3⟩:=hb2
  have hp:Ik r o (cells++oN) cur=some st1:=by cases c<;>simpa only [Ms,Ik] using hp
  have hk:Wr r cells=true:=by cases c<;>simpa only [Wr] using hk
  exact ⟨hn.1,kB hπ Su r (k+1) cells oN x.2 us o cur st1 news Xm cs ht.2 hk hp hb3 hn.2⟩
theorem IX {V:List Nat} {πc:Pi} : ∀(cs:List (Bool×CK)) (k0:Nat) (x:Ins.den cs) (as:List AC) (us:List Value),k0+cs.length<100000->rq X w π V H πc k0 cs x as us-> ∀k l,(Em false k,Loc.row l)∈Mh k0 cs as->πc (Em false k)=(π l).map full
 | [],_,_,[],_,_,_,_,_,h=>by cases h
 | [],_,_,_::_,_,_,_,_,_,h=>by cases h
 |_::_,_,_,[],_,_,_,_,_,h=>by cases h
 |_::_,_,_,_::_,[],_,h,_,_,_=>h.elim
 |(io,c)::r,k0,x,a::as,u::us,hk,h,k,l,ht=>by
  simp only [Aw] at hk
  simp only [Mh] at ht
  rcases Az.1 ht with ht|ht
  ·obtain ⟨⟨_,h1⟩,_⟩:=h
   cases c with
   |Gw τ=>cases a<;>simp [Qo,views] at ht
   |row e te=>
    cases a<;>simp [Qo] at ht
    obtain ⟨e1,rfl⟩:=ht
    simp only [Ua] at h1
    rw [e1];exact h1.1
   |Ie e te=>
    cases a<;>simp [Qo] at ht
    obtain ⟨e1,rfl⟩:=ht
    simp only [Ua] at h1
    rw [e1];exact h1.1
   |part e te=>
    cases a<;>simp [Qo] at ht
    obtain ⟨e1,rfl⟩:=ht
    simp only [Ua] at h1
    rw [e1];exact h1.2.1
   |Bu e te kp=>
    cases a<;>simp [Qo] at ht
    obtain ⟨e1,rfl⟩:=ht
    simp only [Ua] at h1
    rw [e1];exact h1.2.1
  ·exact IX r (k0+1) x.2 as us (by omega) h.2 k l ht
theorem rv {st:St} {a:Act} (h:Bm X π st a w) {f:FuncId} {s:MSpec} (hs:Dx P f s) (dst:Option Nat) (ni:List AV) (vs:List Value) (hlen:ni.length=vs.length)
  (ZF: ∀(i:Nat) c v,ni[i]?=some c->vs[i]?=some v->Bt X w π st.heap c v) (av:AV) (st':St) (he:Yf st dst s ni=some (av,st')):
  Calls P f vs.toArray w λe w'=> ∃v,e= .returned v/\ ∃π',Bm X π' st' a w'/\Bt X w' π' st'.heap av v:=by
 unfold Yf at he
 split at he
 ·cases he
 rename_i pl cells rest Aui
 split at he
 ·cases he
 rename_i oN oO
 split at he
 ·cases he
 rename_i x tks htk
 split at he
 rotate_left
 ·cases he
 rename_i Kh
 simp only [Aj,Nr] at Kh
 obtain ⟨⟨⟨⟨rH,tz⟩,hon⟩,Oj⟩,Ano,TU⟩:=Kh
 have TU: ∀l∈pl,l∉(tks.map λt=>t.2.Xn)/\l∉Sq s tks (dst.getD 0):= λl hl=>by
  have:=Bg.1 TU l hl
  simp only [Fg,<-En,Jz] at this
  exact ⟨λhm=>this (Bj _ hm),λhm=>this (Cn _ hm)⟩
 split at he
 ·cases he
 rename_i r o hfn
 split at he
 ·cases he
 rename_i st1 ZW
 obtain ⟨g,cus,yC,ZQ,At1,Aul,hpt⟩:=VG h hlen ZF Aui
 obtain ⟨wP,rfl,qz,Auk⟩:=al s.Jy rest yC oN ZQ At1 oO
 have hrc:=Aul.append Auk
 have Rh:oQ s w g (cus++wP) vs:=by
  unfold oQ
  rcases hpt with ⟨h1,_,_,h2,h3⟩|⟨p,l,q,h1,_,_,_,_,_,h2,h3,h4,h5⟩
  ·rw [h1];subst h2;exact ⟨h3,qz⟩
  ·rw [h1]
   have hl:cus.length=p.2:=h5.1.trans h2
   simp only
   rw [List.drop_append_of_le_length (by omega),List.take_append_of_le_length (by omega),Nq (by omega),List.drop_of_length_le (by omega)]
   refine ⟨h3,qz,by simp;omega,h4,λu hu=>?_⟩
   obtain ⟨i,hi,rfl⟩:=Bf.1 hu
   obtain ⟨u',h6,h7,_⟩:=h5.2 i (cells[i]'(by have:=h5.1;omega)) (Ad _)
   rw [Ad hi] at h6
   rw [Bd h6];exact h7
 have TV: ∀l∈pl,∃p q,s.ptr=some p/\pl= [l]/\π l=some q/\q.Da q.g/\g=q.g/\Ay st.heap l=some (.var p.1 cells)/\cells.length=p.2:= λl hl=>by
  rcases hpt with ⟨_,h1,_⟩|⟨p,l',q,h1,h2,h3,h4,h5,h6,h7,_⟩
  ·rw [h1] at hl;cases hl
  ·rw [h2] at hl
   have:=Af.1 hl
   subst this
   exact ⟨p,q,h1,h2,h3,h4,h5,h6,h7⟩
 have TP: ∀b,s.gv g b-> ∃l∈pl,∃q,π l=some q/\q.Da b/\b=q.g:= λb ⟨h1,h2⟩=>by
  rcases hpt with ⟨h3,_⟩|⟨p,l',q,_,h4,h5,h6,h7,_⟩
  ·rw [h3] at h1;cases h1
  ·exact ⟨l',by rw [h4];exact Af.2 rfl,q,h5,by rw [h2,h7];exact h6,h2.trans h7⟩
 obtain ⟨as,has⟩: ∃as,as=cells++oN:=⟨_,rfl⟩
 obtain ⟨us,hus⟩: ∃us,us=cus++wP:=⟨_,rfl⟩
 rw [<-has] at hrc htk ZW
 rw [<-hus] at hrc Rh
 let V:=(tks.filter λt=>t.2.reads).map λt=>t.2.Xn
 have hV: ∀t∈tks,t.2.reads=true->t.2.Xn∈V:= λt ht hr=>Be.2 ⟨t,Cl.2 ⟨ht,hr⟩,rfl⟩
 have hV': ∀l∈V,∃t∈tks,t.2.reads=true/\t.2.Xn=l:= λl hl=>by
  obtain ⟨t,h1,h2⟩:=Be.1 hl
  exact ⟨t,(Cl.1 h1).1,(Cl.1 h1).2,h2⟩
 clear_value V
 obtain ⟨etk,πc,hT,ZH,Ats,Wq⟩:=vu h.1 (V:=V) s.ins 0 as us x tks (by omega) hrc htk hV
 have LU:=Yq rH
 rw [etk] at LU
 have ew: ∀b,Wf πc b-> ∃t∈Mh 0 s.ins as,t.2.reads=false/\ ∃q,π t.2.Xn=some q/\q.Da b/\ ∀l i j,t.2= .sub l i j->b≠q.g:= λb ⟨c,q,h1,h2⟩=>by
  obtain ⟨t,t1,_,t3⟩:=Wq c q b h1 h2
  exact ⟨t,t1,t3⟩
 have LW: ∀b,Wf πc b->Wf π b:= λb hb=>let ⟨t,_,_,q,h1,h2,_⟩:=ew b hb;⟨_,q,h1,h2⟩
 have lq:iw πc (λb=>b<w.heap.size):=⟨λl q b h1 h2=>(h.1.own (LW b ⟨l,q,h1,h2⟩)).1,λl l' q q' b h1 h2 h3 h4=>by
  obtain ⟨t,t1,t2,_,p,t3,t4,_⟩:=Wq l q b h1 h3
  obtain ⟨t',t1',t2',_,p',t3',t4',_⟩:=Wq l' q' b h2 h4
  have:=zF LU t1 t1' (h.1.apart t3 t3' t4 t4')
  rw [<-t2,<-t2',this]⟩
 have An2: ∀k l,(Em false k,Loc.row l)∈Mh 0 s.ins as->πc (Em false k)=(π l).map full:= λk l ht=>
  IX s.ins 0 x as us (by omega) hT k l ht
 have Aot: ∀b,Wf πc b->Pf X π V b:= λb hb=> .inl ⟨LW b hb,λl hl r' hr hf=>by
  obtain ⟨t,t1,t0,q,t3,t4,_⟩:=ew b hb
  obtain ⟨t',t1',t2',rfl⟩:=hV' l hl
  rw [etk] at t1'
  have:=zF LU t1 t1' (h.1.apart t3 hr t4 hf)
  subst this
  rw [t0] at t2';cases t2'⟩
 let S:Nat->Prop:= λb=> ¬Wf πc b/\Pf X π V b
 have hS: ∀b,S b->b<w.heap.size/\ ¬Wf πc b:= λb hb=>⟨by
  rcases hb.2 with h1|h1
  ·exact (h.1.own h1.1).1
  ·exact Ex (h.1.sc b h1).1 h.1.below.size,hb.1⟩
 have Aeq: ∀l∈pl,∀t∈Mh 0 s.ins as,t.2.Xn≠l:= λl hl t ht e=>(TU l hl).1 (Be.2 ⟨t,etk▸ht,e⟩)
 have hSg:s.ptr.isSome=true->S g:= λhps=>by
  obtain ⟨l,hl,q,h1,h2,h3⟩:=TP g ⟨hps,rfl⟩
  have hno: ¬Wf πc g:= λhb=>by
   obtain ⟨t,t1,_,q',t3,t4,_⟩:=ew g hb
   exact Aeq l hl t t1 (h.1.apart t3 h1 t4 h2)
  refine ⟨hno, .inl ⟨⟨l,q,h1,h2⟩,λl' Ll r' kR hf=>?_⟩⟩
  obtain ⟨t',t1',_,rfl⟩:=hV' l' Ll
  rw [etk] at t1'
  exact Aeq l hl t' t1' (h.1.apart kR h1 hf h2)
 refine (hs.calls w S πc us x r o g vs Rh hSg (fa.Jh (λb hb=>hb.elim (Aot b) λh=>h.2) s.ins 0 x us (hT.Ap3 s.ins 0 x as us)) lq hS Ats hfn).mono ?_
 rintro e w' ⟨v,Xm,DB,rfl,fv,qv,Aeh,zj,Ao1,ZV,Ajy,xu⟩
 obtain ⟨ρ,Aex,zp,ZU,Agy⟩: ∃ρ:Pi,(∀l,ρ l=(DB l).map full)/\Jr w' (kL S πc DB) ρ 0 s.outs r Xm/\iw ρ (λb=>b<w'.heap.size/\(w.heap.size<=b\/ ∃l q,l<Bq/\πc l=some q/\q.Da b))/\ ∀l q,ρ l=some q->q.cl=q.Da:=by
  have un: ∀l q,(DB l).map full=some q-> ∃q0,DB l=some q0/\q=full q0:= λl q hq=>by
   cases hp:DB l with
   |none=>rw [hp] at hq;cases hq
   |some q0=>rw [hp] at hq;exact ⟨q0,rfl,(Bd hq).symm⟩
  refine ⟨λl=>(DB l).map full,λ_=>rfl,Jr.full s.outs 0 r Xm Ao1,⟨λl q b h1 h2=>?_,λl l' q q' b h1 h2 h3 h4=>?_⟩,λl q h1=>?_⟩
  ·obtain ⟨q0,h5,rfl⟩:=un l q h1
   exact ZV.Re l q0 b h5 h2
  ·obtain ⟨q0,h5,rfl⟩:=un l q h1
   obtain ⟨q0',h6,rfl⟩:=un l' q' h2
   exact ZV.inj l l' q0 q0' b h5 h6 h3 h4
  ·obtain ⟨q0,_,rfl⟩:=un l q h1
   rfl
 refine ⟨v,rfl,?_⟩
 split at he
 ·cases he
 rename_i av0 ib
 split at he
 rotate_left
 ·cases he
 rename_i Oe
 simp only [Aa,Ag] at he
 obtain ⟨rfl,rfl⟩:=he
 let D1:Nat->Prop:=if s.flat then λ_=>True else kL S πc DB
 have Atv:Mo w' D1 πc 0 s.ins o:=by
  show Mo w' (if s.flat then λ_=>True else kL S πc DB) πc 0 s.ins o
  split
  ·rename_i hf
   unfold MSpec.flat at hf
   simp only [Aj] at hf
   exact Mo.any s.ins 0 o hf.2 zj
  ·exact zj
 have Ao2:Jr w' D1 ρ 0 s.outs r Xm:=by
  show Jr w' (if s.flat then λ_=>True else kL S πc DB) ρ 0 s.outs r Xm
  split
  ·rename_i hf
   unfold MSpec.flat at hf
   simp only [Aj] at hf
   exact Jr.any s.outs 0 r Xm hf.1 zp
  ·exact zp
 obtain ⟨q1,q2,q3,q4⟩:=uo (D:=D1) (X:=X) (π:=π) (H:=st.heap) h.1 Aeh.size (tks:=Mh 0 s.ins as) (πc:=πc) (λt ht q b hq hb Lg hn=>Aeh.block b Lg λLV=>by
   rcases LV with ⟨c,r',h1,h2⟩|hg
   rotate_left
   ·obtain ⟨l,hl,q',h1,h2,_⟩:=TP b hg
    exact Aeq l hl t ht (h.1.apart hq h1 hb h2)
   obtain ⟨t',t1,t2,_,p,t3,t4,_⟩:=Wq c r' b h1 h2
   have:=zF LU ht t1 (h.1.apart hq t3 hb t4)
   subst this
   exact hn r' (t2▸h1) h2) s.ins 0 x as us o st st1 (by omega) (λ_ h=>h) LU hT Atv ZW (λ_ _=>rfl)
 have Ajl: ∀t∈Mh 0 s.ins as,t.2.reads=true->t.1<Bq:=by
  have: ∀(cs:List (Bool×CK)) (k:Nat) (as:List AC),k+cs.length<100000-> ∀t∈Mh k cs as,t.2.reads=true->t.1<Bq:=by
   intro cs
   induction cs with
   |nil=>intro k as _ t ht;cases as<;>cases ht
   |cons p r ih=>
    intro k as hk t ht hr
    simp only [Aw] at hk
    cases as with
    |nil=>cases ht
    |cons a as=>
     simp only [Mh] at ht
     rcases Az.1 ht with ht|ht
     ·rcases IW ht with ⟨_,h1⟩|⟨h1,_⟩
      ·rw [hr] at h1;cases h1
      ·rw [h1];exact fT (by omega)
     ·exact ih (k+1) as (by omega) t ht hr
  exact this s.ins 0 as (by omega)
 let d:=dst.getD 0
 let ks:=Sq s tks d
 let dead:=nw tks++ks++(if s.flat then [] else CM tks)
 let part:=whole tks
 have Aun:s.outs.length+(mI s d).length=s.Vd:=by unfold MSpec.Vd mI;cases s.rp<;>rfl
 obtain ⟨Aja,Au5,Ah8⟩:ks.length=s.Vd/\ks.Nodup/\ ∀l∈ks,l<Bq:=by
  have:=MJ tz
  rw [Aun] at this
  exact this
 have hno:s.outs.length<=s.Vd:=by unfold MSpec.Vd;omega
 have hvk: ∀tid,s.rp=some tid->Ev ks s.outs.length=Tu d/\s.Vd=s.outs.length+1:= λtid Yk=>by
  have h1:s.Vd=s.outs.length+1:=by unfold MSpec.Vd;rw [Yk]
  refine ⟨?_,h1⟩
  have h2:ks=nm s tks d++ [Tu d]:=by show nm s tks d++mI s d=_;unfold mI;rw [Yk]
  have h3:(nm s tks d).length=s.outs.length:=by rw [h2] at Aja;simp at Aja;omega
  rw [Rv (by rw [Aja];omega)]
  simp only [h2]
  rw [List.getElem_append_right (by omega)]
  simp [h3]
 have ZP:=DZ Au5 Ah8
 have Au3: ∀j,j<s.Vd->Ev ks j<Bq:= λj hj=>Ah8 _ (mem_keys.2 ⟨j,by omega,rfl⟩)
 let π':Pi:= λl=>match (List.range s.Vd).find? λj=>decide (Ev ks j=l) with
  |some j=>ρ (Kq j)
  |none=>if l∈dead then none else π l
 have vU: ∀j,j<s.Vd->π' (Ev ks j)=ρ (Kq j):= λj hj=>by
  show (match (List.range s.Vd).find? λi=>decide (Ev ks i=Ev ks j) with|some i=>ρ (Kq i)|none=>_)=_
  cases hf:(List.range s.Vd).find? λi=>decide (Ev ks i=Ev ks j) with
  |none=>
   have:=List.find?_eq_none.1 hf j (Fb.2 hj)
   simp at this
  |some i=>
   have:=List.find?_some hf
   rw [ZP i j (Ia this)]
 have tv: ∀j,j<s.Vd->Ev ks j∈dead:= λj hj=>Bj _ (Cn _ (mem_keys.2 ⟨j,by omega,rfl⟩))
 have zk: ∀l,(¬ ∃j,j<s.Vd/\l=Ev ks j)->π' l=if l∈dead then none else π l:= λl hl=>by
  show (match (List.range s.Vd).find? λi=>decide (Ev ks i=l) with|some i=>ρ (Kq i)|none=>_)=_
  cases hf:(List.range s.Vd).find? λi=>decide (Ev ks i=l) with
  |none=>rfl
  |some i=>
   have h1:=List.find?_some hf
   exact absurd ⟨i,Fb.1 (List.mem_of_find?_eq_some hf),(Ia h1).symm⟩ hl
 have Aa7: ∀l,l∉dead->π' l=π l:= λl hl=>by
  rw [zk l (λ⟨j,h1,h2⟩=>hl (h2▸tv j h1)),Ai hl]
 have hD1: ∀b,Wf π' b\/X.Sc b->D1 b:=by
  intro b hb
  show (if s.flat then λ_=>True else kL S πc DB) b
  split
  ·trivial
  rename_i hnf
  rcases hb with ⟨l,q,hl,hf⟩|hb
  ·by_cases hk: ∃j,j<s.Vd/\l=Ev ks j
   ·obtain ⟨j,hj,rfl⟩:=hk
    rw [vU j hj,Aex] at hl
    cases hp:DB (Kq j) with
    |none=>rw [hp] at hl;cases hl
    |some q0=>rw [hp] at hl;simp only [An,Aa] at hl;subst hl;exact .inr (.inr ⟨Kq j,q0,hp,hf⟩)
   ·have e0:π' l=if l∈dead then none else π l:=zk l hk
    rw [e0] at hl
    split at hl
    ·cases hl
    ·rename_i Aen
     by_cases ho:Wf πc b
     ·obtain ⟨c,q',hc,hcb⟩:=ho
      obtain ⟨t,t1,t2,t0,p,t3,t4,_⟩:=Wq c q' b hc hcb
      have zl:=h.1.apart hl t3 hf t4
      refine .inr (.inl ⟨c,q',Bs λhn=>?_,hc,hcb⟩)
      exact Aen (Bj _ (Bj _ (eC.2 ⟨t,etk▸t1,⟨by rw [t2];omega,t0⟩,zl.symm⟩)))
     ·refine .inl ⟨ho, .inl ⟨⟨l,q,hl,hf⟩,λl0 hl0 r0 hr0 hf0=>?_⟩⟩
      have:=h.1.apart hl hr0 hf hf0
      subst this
      exact Aen (Cn _ (by rw [Ai hnf];exact u6.2 (hV' l hl0)))
  ·refine .inl ⟨λho=>?_, .inr hb⟩
   have h1:=h.1.sc b hb
   rcases (h.1.own (LW b ho)).2 with h2|h2
   ·omega
   ·exact h1.2 h2
 have hpd: ∀l∈pl,l∉dead:= λl hl hd=>by
  rcases Az.1 hd with hd|hd
  ·rcases Az.1 hd with hd|hd
   ·obtain ⟨t,ht,_,e⟩:=eC.1 hd
    exact (TU l hl).1 (Be.2 ⟨t,ht,e⟩)
   ·exact (TU l hl).2 hd
  ·split at hd
   ·cases hd
   ·obtain ⟨t,ht,_,e⟩:=u6.1 hd
    exact (TU l hl).1 (Be.2 ⟨t,ht,e⟩)
 have Aj9: ∀j,j<s.Vd->Ev ks j∉pl:= λj hj hp=>hpd _ hp (tv j hj)
 let bv:Option OB:=s.rp.map λtid=> .var tid ((cc (Ev ks) 0 s.outs r).drop s.aK)
 let H1:=(rP s.ins (cc (Ev ks) 0 s.outs r) pl (st1.cJ dead part)).heap
 have hH1: ∀l,l∉pl->Ay H1 l=if l∈dead then none else (Ay st1.heap l).map (OB.map (Cx dead part)):= λl hl=>by
  show Ay (rP _ _ _ _).heap l=_
  rw [OE hl]
  show Ay (Yc (st1.heap.map λp=>(p.1,p.2.map (Cx dead part))) dead) l=_
  rw [Oc,Pk]
 let H2:=FM H1 (Tu d) bv
 have hvd: ∀tid,s.rp=some tid->Tu d∈dead/\Tu d∉pl:= λtid Yk=>by
  obtain ⟨e1,e2⟩:=hvk tid Yk
  rw [<-e1]
  exact ⟨tv _ (by omega),Aj9 _ (by omega)⟩
 have Amx: ∀l,(∀tid,s.rp=some tid->l≠Tu d)->Ay H2 l=Ay H1 l:= λl hl=>by
  show Ay (FM H1 (Tu d) (s.rp.map _)) l=_
  cases JX:s.rp with
  |none=>rfl
  |some tid=>exact Ps _ _ _ _ (hl tid JX)
 have Asm: ∀tid,s.rp=some tid->Ay H2 (Tu d)=some (.var tid ((cc (Ev ks) 0 s.outs r).drop s.aK)):= λtid Yk=>by
  show Ay (FM H1 (Tu d) (s.rp.map _)) (Tu d)=_
  rw [Yk]
  exact Qq _ _ _ (by rw [hH1 _ (hvd tid Yk).2,Ab (hvd tid Yk).1])
 have hkv: ∀j,j<s.outs.length-> ∀tid,s.rp=some tid->Ev ks j≠Tu d:= λj hj tid Yk e=>by
  have:=ZP j s.outs.length (e.trans (hvk tid Yk).1.symm)
  omega
 have hH2: ∀l,l∉pl->(∀tid,s.rp=some tid->l≠Tu d)->Ay H2 l=if l∈dead then none else (Ay st1.heap l).map (OB.map (Cx dead part)):= λl hl hv=>by
  rw [Amx l hv,hH1 l hl]
 let H':=Yr (QM st (nw tks)) (Ev ks) 0 s.outs r H2
 obtain ⟨n1,n2,n3⟩:=qP (D:=D1) (X:=X) (key:=Ev ks) ZP (fr:=QM st (nw tks)) (ρ:=ρ) s.outs 0 r Xm H2 Ao2 (λj _ hj=>by
  rw [hH2 _ (Aj9 j (by omega)) (hkv j (by omega)),Ab (tv j (by omega))])
 have pe: ∀l,l∉dead->l∉pl->Ay H' l=(Ay st1.heap l).map (OB.map (Cx dead part)):= λl hl rF=>by
  show Ay (Yr _ _ _ _ _ _) l=_
  rw [n1 l λj _ hj e=>hl (e▸tv j (by omega)),hH2 l rF (λtid Yk e=>hl (e▸(hvd tid Yk).1)),Ai hl]
 have Aec: ∀l,l∈dead->(∀j,j<s.Vd->l≠Ev ks j)->Ay H' l=none:= λl hl hj=>by
  show Ay (Yr _ _ _ _ _ _) l=_
  rw [n1 l λj _ h2=>hj j (by omega),hH2 l (λhp=>hpd l hp hl) (λtid Yk e=>hj s.outs.length (by have:=(hvk tid Yk).2;omega) (e.trans (hvk tid Yk).1.symm)),Ab hl]
 have newAt: ∀l b',Ay H' l=some b'->(l∈dead\/Ay st.heap l=none)-> ∃j,j<s.Vd/\l=Ev ks j:=by
  intro l b' hb hd
  refine Bs λhn=>?_
  have lp: ∀j,j<s.Vd->l≠Ev ks j:= λj hj e=>hn ⟨j,hj,e⟩
  rcases Classical.em (l∈dead) with JS|JS
  ·rw [Aec l JS lp] at hb;cases hb
  ·rcases hd with hd|hd
   ·exact JS hd
   ·rw [pe l JS (λhp=>by obtain ⟨_,_,_,_,_,_,_,h1,_⟩:=TV l hp;rw [hd] at h1;cases h1)] at hb
    have:Ay st1.heap l=none:=by
     by_cases hi: ∃t∈Mh 0 s.ins as,t.2.Xn=l
     ·obtain ⟨t,ht,e⟩:=hi
      by_cases Lg:t.1<Bq
      ·rw [<-e,q3 t ht Lg,e];exact hd
      ·obtain ⟨b0,_,h1,_⟩:=q4 t ht Lg
       rw [e,hd] at h1;cases h1
     ·rw [q2 l λt ht e=>hi ⟨t,ht,e.symm⟩];exact hd
    rw [this] at hb;cases hb
 have Aiy: ∀k,QM st (nw tks)=true-> ∀q,ρ (Kq k)=some q->q.Da q.g->X.w0.heap.size<=q.g:=by
  intro k zi q hq hg
  rcases (ZU.Re _ q _ hq hg).2 with h1|⟨c,p,h1,h2,h3⟩
  ·exact Iq h.1.below.size h1
  ·obtain ⟨t,t1,t2,t0,p',t3,t4,_⟩:=Wq c p _ h2 h3
   have hm:t.2.Xn∈nw tks:=eC.2 ⟨t,etk▸t1,⟨by rw [t2];exact h1,t0⟩,rfl⟩
   have:=Bg.1 zi _ hm
   split at this
   ·rename_i fr tr e te xs hl
    unfold St.at at hl
    have hb:=(h.1.heap t.2.Xn).Ru hl
    simp only [Co,Kn,t3] at hb
    rw [hb.1.2.1 _ t4]
    exact hb.1.2.2 this
   ·cases this
 have Aiw: ∀k q,ρ (Kq k)=some q->k<s.outs.length->q.Da q.g:=by
  intro k q hq hk
  exact Jr.Agj s.outs 0 r Xm zp k (Kr _) ((Bk _).symm▸hk) q hq
 have hinv: ∀l,l∉dead->(∃t∈Mh 0 s.ins as,t.2.reads=false/\t.2.Xn=l)->mZ X D1 w' π st.heap st1.heap l:=by
  rintro l hd ⟨t,ht,h0,rfl⟩
  by_cases Lg:t.1<Bq
  ·exact absurd (Bj _ (Bj _ (eC.2 ⟨t,etk▸ht,⟨Lg,h0⟩,rfl⟩))) hd
  ·exact q4 t ht Lg
 have zo: ∀l,(¬ ∃t∈Mh 0 s.ins as,t.2.reads=false/\t.2.Xn=l)->Ay st1.heap l=Ay st.heap l:= λl hn=>by
  by_cases hi: ∃t∈Mh 0 s.ins as,t.2.Xn=l
  ·obtain ⟨t,ht,rfl⟩:=hi
   have hr:t.2.reads=true:=by
    cases h0:t.2.reads with
    |true=>rfl
    |false=>exact absurd ⟨t,ht,h0,rfl⟩ hn
   exact q3 t ht (Ajl t ht hr)
  ·exact q2 l λt ht e=>hi ⟨t,ht,e.symm⟩
 have Agq: ∀l∈pl,∀p,s.ptr=some p->Ay H' l=some (.var p.1 (gQ s.ins (cells.map (Cx dead part)) (cc (Ev ks) 0 s.outs r))):= λl hl p hp=>by
  obtain ⟨p',q,h1,h2,_,_,_,h3,_⟩:=TV l hl
  rw [hp] at h1;cases h1
  show Ay (Yr _ _ _ _ _ _) l=_
  rw [n1 l λj _ hj e=>Aj9 j (by omega) (e▸hl),Amx l (λtid Yk e=>(hvd tid Yk).2 (e▸hl))]
  show Ay (rP _ _ _ _).heap l=_
  rw [h2]
  refine VP ?_
  show Ay (Yc (st1.heap.map λp=>(p.1,p.2.map (Cx dead part))) dead) l=_
  rw [Oc,Pk,Ai (hpd l hl),zo l (λ⟨t,ht,_,e⟩=>Aeq l hl t ht e),h3]
  rfl
 have Aha: ∀j,j<s.Vd->s.outs.length<=j-> ∃tid,s.rp=some tid/\j=s.outs.length:= λj h1 h2=>by
  cases JX:s.rp with
  |none=>unfold MSpec.Vd at h1;rw [JX] at h1;simp at h1;omega
  |some tid=>exact ⟨tid,rfl,by have:=(hvk tid JX).2;omega⟩
 have hHv: ∀tid,s.rp=some tid->Ay H' (Tu d)=some (.var tid ((cc (Ev ks) 0 s.outs r).drop s.aK)):= λtid Yk=>by
  show Ay (Yr _ _ _ _ _ _) _=_
  rw [n1 _ λj _ hj e=>hkv j (by omega) tid Yk e.symm,Asm tid Yk]
 suffices Anr:Bm X π' (lX st st1 d s pl tks r) a w'/\Bt X w' π' (lX st st1 d s pl tks r).heap av0 v by
  obtain ⟨m1,m2⟩:=Anr
  have rG: ∀(kj:List (Nat×Nat)) (l:Nat),l∈c6 st.heap ks tks kj->nV st.heap l=true/\ ∃k j t,(k,j)∈kj/\t∈tks/\t=(Em false k,Loc.row l)/\ks[j]?=some l:=by
   intro kj
   induction kj with
   |nil=>intro l hl;cases hl
   |cons p kj ih=>
    intro l hl
    obtain ⟨k,j⟩:=p
    have up:l∈c6 st.heap ks tks kj->nV st.heap l=true/\ ∃k' j' t,(k',j')∈(k,j)::kj/\t∈tks/\t=(Em false k',Loc.row l)/\ks[j']?=some l:= λhl=>by
     obtain ⟨h1,k',j',t,h2,h3⟩:=ih l hl
     exact ⟨h1,k',j',t,As _ h2,h3⟩
    simp only [c6] at hl
    split at hl
    ·rename_i x0 l1 l2 h1 h2
     split at hl
     ·rename_i hc
      simp only [Aj] at hc
      rcases Bb.1 hl with rfl|hl
      ·have:=List.find?_some h1
       have e1:=Kb this
       have e2:=Kb hc.1
       dsimp only at e1
       exact ⟨hc.2,k,j,_,Ji,List.mem_of_find?_eq_some h1,by rw [e1],by rw [h2,e2]⟩
      ·exact up hl
     ·exact up hl
    ·exact up hl
  obtain ⟨r1,r2⟩:=MG h m1 (ls:=c6 st.heap ks tks s.keeps) (n:=s.Fz x) (λl hl=>by
   obtain ⟨_,k,j,t,h1,h2,h3,h4⟩:=rG s.keeps l hl
   have hj:j<ks.length:=(Ap.1 h4).1
   have XM:Ev ks j=l:=by
    rw [Rv hj]
    rw [Ad hj] at h4
    exact Bd h4
   have vV:=xu (k,j) h1
   rw [show π' l=ρ (Kq j) by rw [<-XM];exact vU j (by omega),Aex]
   have hc:πc (Em false k)=(π l).map full:=An2 k l (by rw [<-h3,<-etk];exact h2)
   dsimp only at vV
   rw [hc] at vV
   cases hp:π l<;>cases hq:DB (Kq j)<;>(rw [hp,hq] at vV;exact vV)) (λl hl=>(rG s.keeps l hl).1) Oe
  exact ⟨π',r1,r2 av0 v m2⟩
 refine ⟨?_,?_⟩
 ·have hx:=Bm.Aig (π':=π') (H':=H') (dead:=dead) (part:=part) (inv:= λl=>(∃t∈Mh 0 s.ins as,t.2.reads=false/\t.2.Xn=l)\/l∈pl) (gv:= λb=>Wf πc b\/s.gv g b) h (λb hb=>by
    rcases hb with hb|hb
    ·obtain ⟨t,h1,h0,q,h2,h3,_⟩:=ew b hb
     exact ⟨_,q, .inl ⟨t,h1,h0,rfl⟩,h2,h3⟩
    ·obtain ⟨l,hl,q,h1,h2,_⟩:=TP b hb
     exact ⟨l,q, .inr hl,h1,h2⟩) Aeh (λl b0 hd h0=>⟨Aa7 l hd,?_⟩) (λl b' hb hd=>?_) (λl hl=>?_) (λm q hd hp hm hxa=>?_)
  ·have:({tmps:=(rP s.ins (cc (Ev ks) 0 s.outs r) pl (st1.cJ dead part)).tmps,heap:=H'} :St)= {tmps:=st.tmps.map (·.map (Cx dead part)),heap:=H'} :=by
    rw [pS]
    show ({tmps:=st1.tmps.map (·.map (Cx dead part)),heap:=H'} :St)=_
    rw [q1]
   show Bm X π' ({tmps:=(rP s.ins (cc (Ev ks) 0 s.outs r) pl (st1.cJ dead part)).tmps,heap:=H'} :St) a w'
   rw [this]
   exact hx
  ·by_cases XL:l∈pl
   ·obtain ⟨p,q,h1,h2,h3,h4,h5,h6,h7⟩:=TV l XL
    rw [h0] at h6;cases h6
    have se:=Agq l XL p h1
    refine .inr ⟨_,se,⟨rfl,by rw [pN]⟩,λm=>?_⟩
    unfold lT at qv
    rw [h1] at qv
    obtain ⟨cs,k1,k2,k3⟩:=qv
    rw [<-h7] at k3
    refine ⟨q,h3,h4,cs.toArray,by rw [<-h5];exact k1,?_⟩
    refine Nl.to (kB (H:=st.heap) Aa7 (λl1 b1 sz n hd1 hb1 hr1=>?_) s.ins 0 cells oN x us o st st1 (cc (Ev ks) 0 s.outs r) Xm cs (has▸hT) Ano (has▸ZW) k3 (n3 π' hD1 (λj _ hj=>vU j (by omega)))) (by simpa using k2)
    have hnp:l1∉pl:= λhp=>by
     obtain ⟨_,_,_,_,_,_,_,h8,_⟩:=TV l1 hp
     rw [hb1] at h8;cases h8;cases hr1
    by_cases hi: ∃t∈Mh 0 s.ins as,t.2.reads=false/\t.2.Xn=l1
    ·obtain ⟨b1,b',e1,e2,e3,e4,e5,e6⟩:=hinv l1 hd1 hi
     rw [hb1] at e1;cases e1
     exact ⟨b',by rw [pe l1 hd1 hnp,e2];simp [e4],by rw [e5.row];exact hr1⟩
    ·exact ⟨_,by rw [pe l1 hd1 hnp,zo l1 hi,hb1];rfl,by rw [OB.AR];exact hr1⟩
   by_cases hi: ∃t∈Mh 0 s.ins as,t.2.reads=false/\t.2.Xn=l
   ·obtain ⟨b1,b',e1,e2,e3,e4,e5,e6⟩:=hinv l hd hi
    rw [h0] at e1;cases e1
    exact .inr ⟨b',by rw [pe l hd XL,e2];simp [e4],by rw [e3];exact e5,λ_=>e6 π' H' hD1⟩
   ·exact .inl ⟨λhh=>hh.elim hi XL,by rw [pe l hd XL,zo l hi,h0];rfl⟩
  ·obtain ⟨j,hj,rfl⟩:=newAt l b' hb hd
   refine ⟨Au3 j hj,?_,λq b hq=>?_⟩
   ·rw [vU j hj]
    rcases Nat.lt_or_ge j s.outs.length with hjo|hjo
    ·rcases n2 j (Kr _) (by omega) with ⟨e1,_⟩|⟨b2,e1,e2⟩
     ·rw [show Ay H' (Ev ks j)=none from e1] at hb;cases hb
     ·rw [show Ay H' (Ev ks j)=some b2 from e1] at hb;cases hb
      exact e2 X π' H' (λhf q hq=>Aiy j hf q hq (Aiw j q hq hjo)) hD1
    ·obtain ⟨tid,Yk,hj0⟩:=Aha j hj hjo
     subst hj0
     rw [(hvk tid Yk).1,hHv tid Yk] at hb;cases hb
     unfold sw at fv
     rw [Yk] at fv
     obtain ⟨q,y1,y2,y3,y4,_⟩:=fv
     rw [Aex,y1]
     exact ⟨full q,rfl,y2,_,y3,Nl.to (Nl.take s.aK (n3 π' hD1 (λj _ hj=>vU j (by omega)))).2 (by simpa using y4)⟩
   ·rw [vU j hj] at hq
    have Rn:=Agy _ q hq
    refine ⟨λhf=>by rw [Rn];exact hf,λhf=>?_⟩
    rw [Rn] at hf
    obtain ⟨h1,h2⟩:=ZU.Re _ q b hq hf
    refine ⟨h1,h2.imp id ?_,λl2 r2 hd2 RD hf2=>?_⟩
    ·rintro ⟨c,p,h3,h4,h5⟩
     obtain ⟨t,t1,t2,t0,p',t3,t4,_⟩:=Wq c p b h4 h5
     exact ⟨t.2.Xn,p',Bj _ (Bj _ (eC.2 ⟨t,etk▸t1,⟨by rw [t2];exact h3,t0⟩,rfl⟩)),t3,t4⟩
    ·by_cases hk: ∃j,j<s.Vd/\l2=Ev ks j
     ·obtain ⟨j2,hj2,rfl⟩:=hk
      rw [vU j2 hj2] at RD
      rw [Agy _ r2 RD] at hf2
      have:=ZU.inj _ _ r2 q b RD hq hf2 hf
      unfold Kq at this
      have:j2=j:=by omega
      rw [this]
     ·have e0:π' l2=if l2∈dead then none else π l2:=zk l2 hk
      rw [e0] at RD
      split at RD
      ·cases RD
      ·rename_i Aen
       rcases hd2 with hd2|hd2
       ·exact absurd hd2 Aen
       ·rw [(h.1.heap l2).emp hd2] at RD;cases RD
  ·by_cases hk: ∃j,j<s.Vd/\l=Ev ks j
   ·obtain ⟨j,hj,rfl⟩:=hk
    rw [vU j hj]
    rcases Nat.lt_or_ge j s.outs.length with hjo|hjo
    ·rcases n2 j (Kr _) (by omega) with ⟨_,e1⟩|⟨b2,e1,_⟩
     ·exact e1
     ·rw [show Ay H' (Ev ks j)=some b2 from e1] at hl;cases hl
    ·obtain ⟨tid,Yk,hj0⟩:=Aha j hj hjo
     subst hj0
     rw [(hvk tid Yk).1,hHv tid Yk] at hl;cases hl
   ·have e0:π' l=if l∈dead then none else π l:=zk l hk
    rw [e0]
    split
    ·rfl
    ·rename_i hd
     by_cases XL:l∈pl
     ·obtain ⟨p,_,h1,_⟩:=TV l XL
      rw [Agq l XL p h1] at hl;cases hl
     rw [pe l hd XL] at hl
     by_cases hi: ∃t∈Mh 0 s.ins as,t.2.reads=false/\t.2.Xn=l
     ·obtain ⟨_,b',_,e2,_⟩:=hinv l hd hi
      rw [e2] at hl;cases hl
     ·rw [zo l hi] at hl
      cases h0:Ay st.heap l with
      |none=>exact (h.1.heap l).emp h0
      |some b=>rw [h0] at hl;cases hl
  ·refine Aeh.block _ (h.1.lt hm).1 λLV=>?_
   rcases LV with ho|hg
   rotate_left
   ·obtain ⟨l,hl,q',h1,h2,_⟩:=TP _ hg
    have zl:=h.1.apart hm h1 (h.1.Da hm) h2
    obtain ⟨_,_,_,_,_,_,_,h3,_⟩:=TV l hl
    obtain ⟨b,hxa,hxb⟩:=hxa
    rw [zl,h3] at hxa;cases hxa
    exact hxb rfl
   obtain ⟨t,t1,t0,p,t3,t4,t5⟩:=ew _ ho
   have zl:=h.1.apart hm t3 (h.1.Da hm) t4
   have hpq:p=q:=by rw [<-zl,hm] at t3;exact (Bd t3).symm
   cases ht2:t.2 with
   |row l=>
    refine hp ?_
    show m∈whole tks
    unfold whole
    exact Gj.2 ⟨t,etk▸t1,by rw [ht2,zl,ht2];simp [Loc.Xn]⟩
   |sub l i j=>exact t5 l i j ht2 (by rw [hpq])
   |view l=>rw [ht2] at t0;cases t0
 ·have Aum:=n3 π' hD1 (λj _ hj=>vU j (by omega))
  cases JX:s.rp with
  |some tid=>
   unfold sw at fv
   rw [JX] at fv
   obtain ⟨q,y1,y2,y3,y4,rfl⟩:=fv
   unfold Afj at ib
   rw [JX] at ib
   simp only [Aa] at ib;subst ib
   refine ⟨full q,tid,_,hHv tid JX,?_,rfl⟩
   rw [<-(hvk tid JX).1,vU _ (by have:=(hvk tid JX).2;omega),Aex,y1]
   rfl
  |none=>
  unfold sw at fv
  rw [JX] at fv
  obtain ⟨fv,Aur⟩:=fv
  unfold Afj at ib
  rw [JX] at ib
  simp only at ib
  obtain ⟨g1,g2,g3,g4⟩:=ek s.Iu _ (Xm.drop s.aK) Aur (Nl.take s.aK Aum).2
  unfold Apv at ib
  unfold Abs at fv
  split at ib
  ·rename_i hm
   rw [Ab hm] at fv
   simp only [Aa] at ib;subst ib
   subst fv
   exact ⟨_,rfl,g3.symm,g4⟩
  ·rename_i hm
   rw [Ai hm] at fv
   split at ib
   ·rename_i av1 hga
    simp only [Aa] at ib;subst ib
    rcases fv with fv|fv
    ·exact g2 0 _ v (by rw [hga];rfl) (by rw [fv];rfl)
    ·rw [hga,fv] at g1;cases g1
   ·simp only [Aa] at ib;subst ib;trivial
   ·cases ib
end
end Go.Proofs.Ytkkdpknjohcekaa
