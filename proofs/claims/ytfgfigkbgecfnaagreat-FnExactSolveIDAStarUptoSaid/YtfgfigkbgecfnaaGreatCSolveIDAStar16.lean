/-
  Part 17 of the proof that the statement FnExactSolveIDAStar holds.
-/
import Derived.Test.YtfgfigkbgecfnaaGreatCSolveIDAStar15
namespace Go.Proofs.YtfgfigkbgecfnaaGreat
open Go.RowKit
section
variable {P:Program} {T:Tab} {X:Ctx} {w w':World} {π π':Pi} {H H':List (Nat×OB)}
theorem bY (k:Nat): ¬Dt true k<Bn:=by unfold Dt Bn;simp
theorem gF {k:Nat} (h:k<100000):Dt false k<Bn:=by unfold Dt Bn;simp;omega
def nQ (X:Ctx) (D:Nat->Prop) (w':World) (π:Pi) (H Hn:List (Nat×OB)) (l:Nat):Prop:=
 ∃b0 b',Au H l=some b0/\Au Hn l=some b'/\(∀f,OB.map f b0=b0)/\(∀f,OB.map f b'=b')/\b0.gi b'/\ ∀π' H',(∀b,Ux π' b\/X.Sc b->D b)->Cm X w' π' H' (π l) b'
theorem Aff {io:Bool} {k:Nat} {τ:Ty} {a:AC} {t:Nat×Loc} (h:t∈Ra io k (.Em τ) a):t.1=Dt false k:=by
 cases a<;>simp [Ra,views] at h<;>first|(obtain ⟨_,⟨_,_⟩,rfl⟩:=h;rfl)|(rw [h])
theorem Aac {io:Bool} {k:Nat} {e:Ty} {te:TypeId} {a:AC} {t:Nat×Loc} (h:t∈Ra io k (.part e te) a):t.1=Dt io k:=by cases a<;>simp [Ra] at h<;>rw [h]
theorem Afg {io:Bool} {k:Nat} {e:Ty} {te:TypeId} {a:AC} {t:Nat×Loc} (h:t∈Ra io k (.row e te) a):t.1=Dt io k:=by cases a<;>simp [Ra] at h<;>rw [h]
theorem Aad {io:Bool} {k:Nat} {e:Ty} {te:TypeId} {a:AC} {t:Nat×Loc} (h:t∈Ra io k (.Hp e te) a):t.1=Dt io k:=by cases a<;>simp [Ra] at h<;>rw [h]
theorem fS {D:Nat->Prop} {π':Pi} {fr:Bool} {e:Ty} {es:List Value} {y:e.den} (hD: ∀b,Ux π' b\/X.Sc b->D b) (h:Cells w' D e es y):Cells w' (Dd X.w0.heap.size X.Sc π' (fr&&e.flat)) e es y:=by
 cases hf:e.flat with
 |true=>exact Cells.flat e es y hf h
 |false=>exact Cells.Fg (Ao _) (λ_ _ _=>rfl) (λb _ hb=>by
   rcases hb with hb|hb|⟨hb,_⟩
   ·exact hD b (.inl hb)
   ·exact hD b (.inr hb)
   ·simp at hb) e es y h
theorem Aaf {D P:Nat->Prop} {g o:Nat} {cur:Array Value} {tr:Bool} {e:Ty} {xs:List e.den}
  (h: ∀(i:Nat) (x:e.den),xs[i]?=some x-> ∃es:List Value,es.length=e.size/\(∀j u,es[j]?=some u->cur[(o+i)*e.size+j]?=some u)/\Cells w' D e es x) (ht:(tr&&e.flat)=true):Yk w' P g o cur e xs:=by
 simp only [Af] at ht
 exact oq ht.2 h
theorem ZM {D:Nat->Prop} (h:Nf X w π H) {k:Nat} {c:CK} {ys:c.den} {a:AC} {u:Value} {r:Option Real} {x:c.den} {cur st1:St} (hs:w.heap.size<=w'.heap.size)
  (hU: ∀l i j q b,a= .sub l i j->π l=some q->q.Cx b->b<w.heap.size->(∀r',r=some r'-> ¬r'.Cx b)->w'.heap[b]?=w.heap[b]?)
  {V:List Nat} (ht:fI w (Pb X π V) r u c x/\Un w π H true a u r c x) (hr:ia w' D r c ys) (he:df cur c ys a=some st1) (iP: ∀t∈Ra true k c a,Au cur.heap t.2.Xy=Au H t.2.Xy):
  st1.tmps=cur.tmps/\(∀m,(∀t∈Ra true k c a,m≠t.2.Xy)->Au st1.heap m=Au cur.heap m)/\ ∀t∈Ra true k c a,nQ X D w' π H st1.heap t.2.Xy:=by
 obtain ⟨hc,ht⟩:=ht
 cases c with
 |Em τ=>cases a<;>simp [df] at he;subst he;exact ⟨rfl,λ_ _=>rfl,λt ht=>by simp [Ra] at ht⟩
 |row e te=>
  simp only [Un] at ht
  cases a<;>simp only [] at ht<;>first|(exact ht.elim)|skip
  ·simp only [df,Aa] at he;subst he
   exact ⟨rfl,λ_ _=>rfl,λt ht=>by simp [Ra] at ht⟩
  ·rename_i l off len
   obtain ⟨rfl,rfl,rfl,fr,tr,hl⟩:=ht
   have Ox:Au cur.heap l=some (.arr fr tr e te x):=(iP _ (Ad.2 rfl)).trans hl
   simp only [df,St.at,Ox] at he
   split at he
   ·rename_i Ju
    obtain ⟨_,h1,_⟩:=Ju
    simp only [Aa] at he;subst he
    refine ⟨rfl,λm hm=>Ee _ _ _ _ (hm _ (Ad.2 rfl)),λt Wp=>?_⟩
    have Wp:=Ad.1 Wp
    subst Wp
    refine ⟨_,_,hl,Ew _ _ _ _ Ox,λ_=>rfl,λ_=>rfl,⟨rfl,h1.symm⟩,λπ' H' hD=>?_⟩
    have hb:=(h.heap l).Qs hl
    change Cm X w' π' H' (π l) _
    simp only [Cm,Ke] at hb⊢
    cases hp:π l with
    |none=>rw [hp] at hr;exact hr
    |some q=>
     rw [hp] at hr hb
     obtain ⟨k1,cu,ti,k2,k3,k4,k5,k6⟩:=hr
     exact ⟨⟨k1.1,k1.2,λhh=>hb.1.2.2 (by simp only [Af] at hh;exact hh.1)⟩,cu,ti,k2,k3,k4,k5,λi y hy=>by
      obtain ⟨es,g1,g2,g3⟩:=k6 i y hy
      exact ⟨es,g1,g2,fS hD g3⟩,λht=>Aaf k6 ht⟩
   ·cases he
  ·rename_i l i j
   obtain ⟨⟨_,hf⟩,tid,xs,hl,hx,q,hq,Wy,hre⟩:=ht
   have Ox:Au cur.heap l=some (.Gz (.slice e) tid xs):=(iP _ (Ad.2 rfl)).trans hl
   simp only [df,St.at,Ox,hx] at he
   rw [Jf trivial] at he
   ·split at he
    ·rename_i h1
     simp only [Aa] at he;subst he
     refine ⟨rfl,λm hm=>Ee _ _ _ _ (hm _ (Ad.2 rfl)),λt Wp=>?_⟩
     have Wp:=Ad.1 Wp
     subst Wp
     refine ⟨_,_,hl,Ew _ _ _ _ Ox,λ_=>rfl,λ_=>rfl,⟨rfl,by simp⟩,λπ' H' _=>?_⟩
     show Of w' (π l) (.slice e) tid _
     rw [hq]
     refine hre w' ys hs (λb Iz hb hn=>hU l i j q b rfl hq hb Iz hn) ?_
     have hv:=hc.1
     rw [<-show List.length ys=List.length x from h1] at hv
     exact Ts.TM hr hf hv
    ·cases he
 |Hp e te=>
  simp only [Un] at ht
  cases a<;>simp only [] at ht<;>first|(exact ht.elim)|skip
  ·simp only [df,Aa] at he;subst he
   exact ⟨rfl,λ_ _=>rfl,λt ht=>by simp [Ra] at ht⟩
  ·rename_i l off len
   obtain ⟨rfl,rfl,rfl,hl⟩:=ht
   have Ox:Au cur.heap l=some (.Gz e te x):=(iP _ (Ad.2 rfl)).trans hl
   simp only [df,St.at,Ox] at he
   split at he
   ·rename_i Ju
    obtain ⟨_,h1,_⟩:=Ju
    simp only [Aa] at he;subst he
    refine ⟨rfl,λm hm=>Ee _ _ _ _ (hm _ (Ad.2 rfl)),λt Wp=>?_⟩
    have Wp:=Ad.1 Wp
    subst Wp
    refine ⟨_,_,hl,Ew _ _ _ _ Ox,λ_=>rfl,λ_=>rfl,⟨rfl,h1.symm⟩,λπ' H' _=>?_⟩
    show Of w' (π l) e te _
    cases hp:π l with
    |none=>rw [hp] at hr;exact hr
    |some q=>rw [hp] at hr;exact hr
   ·cases he
  ·rename_i l i j
   obtain ⟨_,tid,xs,hl,hx,q,hq,Wy,hre⟩:=ht
   have Ox:Au cur.heap l=some (.Gz (.slice e) tid xs):=(iP _ (Ad.2 rfl)).trans hl
   simp only [df,St.at,Ox,hx] at he
   rw [Jf trivial] at he
   ·split at he
    ·rename_i h1
     simp only [Aa] at he;subst he
     refine ⟨rfl,λm hm=>Ee _ _ _ _ (hm _ (Ad.2 rfl)),λt Wp=>?_⟩
     have Wp:=Ad.1 Wp
     subst Wp
     refine ⟨_,_,hl,Ew _ _ _ _ Ox,λ_=>rfl,λ_=>rfl,⟨rfl,by simp⟩,λπ' H' _=>?_⟩
     show Of w' (π l) (.slice e) tid _
     rw [hq]
     refine hre w' ys hs (λb Iz hb hn=>hU l i j q b rfl hq hb Iz hn) ?_
     have hv:=hc.1
     rw [<-show List.length ys=List.length x from h1] at hv
     exact Of.TM (te:=te) hr hv
    ·cases he
 |part e te=>cases a<;>simp [df] at he<;>first|(simp only [Un] at ht;exact ht.2.elim)
 |Bp e te kp=>exact absurd ht.1 (by simp)
theorem ZN {D:Nat->Prop} (h:Nf X w π H) {k:Nat} {e:Ty} {te:TypeId} {ys:List e.den} {a:AC} {u:Value} {r:Option Real} {x:(CK.part e te).den} {cur st1:St}
  {V:List Nat} (ht:fI w (Pb X π V) r u (.part e te) x/\Un w π H true a u r (.part e te) x) (hr:ia w' D r (.row e te) ys) (he:SB cur e ys a=some st1) (iP: ∀t∈Ra true k (.part e te) a,Au cur.heap t.2.Xy=Au H t.2.Xy):
  st1.tmps=cur.tmps/\(∀m,(∀t∈Ra true k (.part e te) a,m≠t.2.Xy)->Au st1.heap m=Au cur.heap m)/\ ∀t∈Ra true k (.part e te) a,nQ X D w' π H st1.heap t.2.Xy:=by
 obtain ⟨hc,hf,ht⟩:=ht
 cases a<;>simp only [] at ht<;>first|(exact ht.elim)|skip
 rename_i l off len
 obtain ⟨rfl,_,fr,tr,hl⟩:=ht
 have Ox:Au cur.heap l=some (.arr fr tr e te x.1):=(iP _ (Ad.2 rfl)).trans hl
 simp only [SB,St.at,Ox] at he
 split at he
 ·rename_i Ju
  obtain ⟨_,h1⟩:=Ju
  simp only [Aa] at he;subst he
  refine ⟨rfl,λm hm=>Ee _ _ _ _ (hm _ (Ad.2 rfl)),λt Wp=>?_⟩
  have Wp:=Ad.1 Wp
  subst Wp
  refine ⟨_,_,hl,Ew _ _ _ _ Ox,λ_=>rfl,λ_=>rfl,⟨rfl,h1.symm⟩,λπ' H' _=>?_⟩
  have hb:=(h.heap l).Qs hl
  change Cm X w' π' H' (π l) _
  simp only [Cm,Ke] at hb⊢
  cases hp:π l with
  |none=>rw [hp] at hr;exact hr
  |some q=>
   rw [hp] at hr hb
   obtain ⟨k1,cu,ti,k2,k3,k4,k5,k6⟩:=hr
   exact ⟨⟨k1.1,k1.2,hb.1.2.2⟩,cu,ti,k2,k3,k4,k5,λi y hy=>by
    obtain ⟨es,g1,g2,g3⟩:=k6 i y hy
    exact ⟨es,g1,g2,Cells.flat e es y hf g3⟩,λ_=>oq hf k6⟩
 ·cases he
def tN (X:Ctx) (D:Nat->Prop) (w':World) (π:Pi) (H:List (Nat×OB)) (tk:List (Nat×Loc)) (cur st1:St):Prop:=
 st1.tmps=cur.tmps/\(∀m,(∀t∈tk,m≠t.2.Xy)->Au st1.heap m=Au cur.heap m)/\(∀t∈tk,t.1<Bn->Au st1.heap t.2.Xy=Au cur.heap t.2.Xy)/\(∀t∈tk,¬t.1<Bn->nQ X D w' π H st1.heap t.2.Xy)
theorem wv {D:Nat->Prop} (h:Nf X w π H) {V:List Nat} {πc:Pi} {tks:List (Nat×Loc)} (hs:w.heap.size<=w'.heap.size)
  (hU: ∀t∈tks,∀q b,π t.2.Xy=some q->q.Cx b->b<w.heap.size->(∀r',πc t.1=some r'-> ¬r'.Cx b)->w'.heap[b]?=w.heap[b]?):
  ∀(cs:List (Bool×CK)) (k:Nat) (x:Ins.den cs) (as:List AC) (us:List Value) (o:IOs.den cs) (cur st1:St),k+cs.length<100000->(∀t∈Ly k cs as,t∈tks)->((Ly k cs as).map λt=>t.2.Xy).Nodup->
   sP X w π V H πc k cs x as us->Ma w' D πc k cs o->Ii cs o as cur=some st1->(∀t∈Ly k cs as,Au cur.heap t.2.Xy=Au H t.2.Xy)->
   tN X D w' π H (Ly k cs as) cur st1
 | [],k,x,as,us,o,cur,st1,_,_,_,_,_,he,_=>by
  simp only [Ii,Aa] at he;subst he
  have e0:Ly k [] as= []:=by cases as<;>rfl
  exact ⟨rfl,λ_ _=>rfl,by rw [e0];simp,by rw [e0];simp⟩
 |p::r,k,x,[],us,o,cur,st1,_,_,_,ht,_,_,_=>ht.elim
 |p::r,k,x,a::as,[],o,cur,st1,_,_,_,ht,_,_,_=>ht.elim
 |(io,c)::r,k,x,a::as,u::us,o,cur,st1,hk,Qh,VG,ht,ho,he,iP=>by
  simp only [Aw] at hk
  simp only [Ly] at Qh VG iP⊢
  rw [Kl] at VG
  obtain ⟨n1,n2,n3⟩:=Cv.1 VG
  have apart: ∀t∈Ra io k c a,∀t'∈Ly (k+1) r as,t'.2.Xy≠t.2.Xy:= λt h1 t' h2 e=>n3 _ (Bi.2 ⟨t,h1,rfl⟩) _ (Bi.2 ⟨t',h2,rfl⟩) e.symm
  have rest: ∀(aU:St) (o':IOs.den r),Ma w' D πc (k+1) r o'->Ii r o' as aU=some st1->aU.tmps=cur.tmps->(∀m,(∀t∈Ra io k c a,m≠t.2.Xy)->Au aU.heap m=Au cur.heap m)->
    (∀t∈Ra io k c a,t.1<Bn->Au aU.heap t.2.Xy=Au cur.heap t.2.Xy)->(∀t∈Ra io k c a,¬t.1<Bn->nQ X D w' π H aU.heap t.2.Xy)->
    tN X D w' π H (Ra io k c a++Ly (k+1) r as) cur st1:=by
   intro aU o' h1 h2 h3 h4 h5 h6
   obtain ⟨g1,g2,g3,g4⟩:=wv h hs hU r (k+1) x.2 as us o' aU st1 (by omega) (λt ht=>Qh t (Bx _ ht)) n2 ht.2 h1 h2 (λt Wp=>by
    rw [h4 _ λt0 ht0=>apart t0 ht0 t Wp];exact iP t (Bx _ Wp))
   have hd: ∀t∈Ra io k c a,Au st1.heap t.2.Xy=Au aU.heap t.2.Xy:= λt Wp=>g2 _ λt' xD=>(apart t Wp t' xD).symm
   refine ⟨g1.trans h3,λm hm=>?_,λt Wp Iz=>?_,λt Wp Iz=>?_⟩
   ·rw [g2 m λt ht=>hm t (Bx _ ht),h4 m λt ht=>hm t (Bd _ ht)]
   ·rcases Az.1 Wp with Wp|Wp
    ·rw [hd t Wp,h5 t Wp Iz]
    ·rw [g3 t Wp Iz,h4 _ λt0 ht0=>apart t0 ht0 t Wp]
   ·rcases Az.1 Wp with Wp|Wp
    ·obtain ⟨b0,b',q1,q2,q3⟩:=h6 t Wp Iz
     exact ⟨b0,b',q1,(hd t Wp).trans q2,q3⟩
    ·exact g4 t Wp Iz
  have same: ∀o',Ma w' D πc (k+1) r o'->Ii r o' as cur=some st1->(∀t∈Ra io k c a,t.1<Bn)->tN X D w' π H (Ra io k c a++Ly (k+1) r as) cur st1:= λo' h1 h2 h3=>rest cur o' h1 h2 rfl (λ_ _=>rfl) (λ_ _ _=>rfl) (λt h4 h5=>absurd (h3 t h4) h5)
  cases io with
  |false=>
   have h3: ∀t∈Ra false k c a,t.1<Bn:= λt h4=>by rcases MS h4 with ⟨h5,_⟩|⟨h5,_⟩<;>(rw [h5];exact gF (by omega))
   cases c with
   |Em τ=>exact same o ho (by simpa only [Ii] using he) h3
   |row e te=>exact same o ho (by simpa only [Ii] using he) h3
   |Hp e te=>exact same o ho (by simpa only [Ii] using he) h3
   |part e te=>exact same o ho (by simpa only [Ii] using he) h3
   |Bp e te kp=>exact same o ho (by simpa only [Ii] using he) h3
  |true=>
   have row: ∀(ys:c.den) (o':IOs.den r),(∀t∈Ra true k c a,t.1=Dt true k)->ia w' D (πc (Dt true k)) c ys->Ma w' D πc (k+1) r o'->(∃aU,df cur c ys a=some aU/\Ii r o' as aU=some st1)->tN X D w' π H (Ra true k c a++Ly (k+1) r as) cur st1:=by
    intro ys o' h0 h1 h2 h3
    obtain ⟨aU,hp,h3⟩:=h3
    ·obtain ⟨q1,q2,q3⟩:=ZM (k:=k) h hs (λl i j q b ea hq hb Iz hn=>by
      cases c with
      |Em τ=>exact absurd (ht.1.2:πc _=none) (by subst ea;simp [df] at hp)
      |row e te=>subst ea;exact hU (Dt true k, .sub l i j) (Qh _ (Bd _ (Ad.2 rfl))) q b hq hb Iz hn
      |Hp e te=>subst ea;exact hU (Dt true k, .sub l i j) (Qh _ (Bd _ (Ad.2 rfl))) q b hq hb Iz hn
      |Bp e te kp=>exact absurd ht.1.2.1 (by simp)
      |part e te=>exact absurd ht.1.2.2 (by subst ea;exact λh=>h)) ht.1 h1 hp (λt Wp=>iP t (Bd _ Wp))
     exact rest aU o' h2 h3 q1 q2 (λt h4 h5=>absurd h5 (by rw [h0 t h4];exact bY k)) (λt h4 _=>q3 t h4)
   cases c with
   |Em τ=>exact same o ho (by simpa only [Ii] using he) (λt h4=>by rw [Aff h4];exact gF (by omega))
   |Bp e te kp=>exact absurd ht.1.2.1 (by simp)
   |row e te=>
    simp only [Ii] at he
    split at he
    ·rename_i aU hp;exact row o.1 o.2 (λt ht=>Afg ht) ho.1 ho.2 ⟨aU,hp,he⟩
    ·cases he
   |Hp e te=>
    simp only [Ii] at he
    split at he
    ·rename_i aU hp;exact row o.1 o.2 (λt ht=>Aad ht) ho.1 ho.2 ⟨aU,hp,he⟩
    ·cases he
   |part e te=>
    simp only [Ii] at he
    split at he
    ·rename_i aU hp
     obtain ⟨q1,q2,q3⟩:=ZN (k:=k) h ht.1 ho.1 hp (λt Wp=>iP t (Bd _ Wp))
     exact rest aU o.2 ho.2 he q1 q2 (λt h4 h5=>absurd h5 (by rw [Aac h4];exact bY k)) (λt h4 _=>q3 t h4)
    ·cases he
theorem RD {fr:Bool} {c:CK} {x:c.den} {u:Value} {r:Option Real} {D:Nat->Prop} (h:fI w' D r u c x):
  (yb fr c x=none/\r=none)\/ ∃b',yb fr c x=some b'/\ ∀(X:Ctx) π' H',(fr=true-> ∀q,r=some q->X.w0.heap.size<=q.g)->(∀b,Ux π' b\/X.Sc b->D b)->Cm X w' π' H' r b':=by
 cases c with
 |Em τ=>exact .inl ⟨rfl,h.1⟩
 |row e te=>
  refine .inr ⟨_,rfl,λX π' H' IN hD=>?_⟩
  obtain ⟨_,h⟩:=h
  simp only [ia] at h
  simp only [Cm,Ke]
  cases r with
  |none=>exact h
  |some q=>
   obtain ⟨k1,cu,ti,k2,k3,k4,k5,k6⟩:=h
   exact ⟨⟨k1.1,k1.2,λh1=>IN (by simp only [Af] at h1;exact h1.1) q rfl⟩,cu,ti,k2,k3,k4,k5,λi y hy=>by
    obtain ⟨es,g1,g2,g3⟩:=k6 i y hy
    exact ⟨es,g1,g2,fS hD g3⟩,λh=>by cases h⟩
 |Hp e te=>exact .inr ⟨_,rfl,λX π' H' _ _=>h.2⟩
 |Bp e te kp=>exact .inr ⟨_,rfl,λX π' H' _ hD=>⟨bd.Iv h.2 λb hb=>hD b (hb.imp id λh=>h.elim id λh=>by cases h.1),trivial⟩⟩
 |part e te=>
  refine .inr ⟨_,rfl,λX π' H' IN hD=>?_⟩
  obtain ⟨_,hf,h⟩:=h
  simp only [Cm,Ke]
  cases r with
  |none=>exact h
  |some q=>
   obtain ⟨k1,cu,ti,k2,k3,k4,k5,k6⟩:=h
   exact ⟨⟨k1.1,k1.2,λh1=>IN (by simp only [Af] at h1;exact h1.1) q rfl⟩,cu,ti,k2,k3,k4,k5,λi y hy=>by
    obtain ⟨es,g1,g2,g3⟩:=k6 i y hy
    exact ⟨es,g1,g2,fS hD g3⟩,λh=>by cases h⟩
theorem sr {D:Nat->Prop} {key:Nat->Nat} (Acm: ∀i j,key i=key j->i=j) {fr:Bool} {ρ:Pi} : ∀(cs:List CK) (k:Nat) (x:CKs.den cs) (us:List Value) (H:List (Nat×OB)),Ji w' D ρ k cs x us->
  (∀j,k<=j->j<k+cs.length->Au H (key j)=none)->
  (∀l,(∀j,k<=j->j<k+cs.length->l≠key j)->Au (Zb fr key k cs x H) l=Au H l)/\
  (∀j,k<=j->j<k+cs.length->(Au (Zb fr key k cs x H) (key j)=none/\ρ (Jw j)=none)\/
   ∃b',Au (Zb fr key k cs x H) (key j)=some b'/\ ∀(X:Ctx) π' H',(fr=true-> ∀q,ρ (Jw j)=some q->X.w0.heap.size<=q.g)->(∀b,Ux π' b\/X.Sc b->D b)->Cm X w' π' H' (ρ (Jw j)) b')/\
  (∀π',(∀b,Ux π' b\/X.Sc b->D b)->(∀j,k<=j->j<k+cs.length->π' (key j)=ρ (Jw j))->Km X w' π' (Zb fr key k cs x H) (Yh key k cs x) us)
 | [],k,x,[],H,_,_=>⟨λ_ _=>rfl,λj h1 h2=>by simp at h2;omega,λ_ _ _=>trivial⟩
 | [],_,_,_::_,_,h,_=>h.elim
 |_::_,_,_,[],_,h,_=>h.elim
 |c::r,k,x,u::us,H,h,hn=>by
  simp only [Aw] at hn⊢
  simp only [Zb,Yh]
  have vD:=hn k (Ao _) (by omega)
  have hH1: ∀l,l≠key k->Au (JC H (key k) (yb fr c x.1)) l=Au H l:=by
   intro l hl
   cases yb fr c x.1 with
   |some b=>exact Pu _ _ _ _ hl
   |none=>rfl
  have Apn:Au (JC H (key k) (yb fr c x.1)) (key k)=yb fr c x.1:=by
   cases yb fr c x.1 with
   |some b=>exact Rc _ _ _ vD
   |none=>exact vD
  generalize (JC H (key k) (yb fr c x.1))=H1 at hH1 Apn⊢
  obtain ⟨g1,g2,g3⟩:=sr Acm (fr:=fr) r (k+1) x.2 us H1 h.2 (λj h1 h2=>by
   rw [hH1 _ λe=>by have:=Acm _ _ e;omega];exact hn j (by omega) (by omega))
  have hkk:Au (Zb fr key (k+1) r x.2 H1) (key k)=yb fr c x.1:=by
   rw [g1 _ λj h1 h2 e=>by have:=Acm _ _ e;omega];exact Apn
  refine ⟨λl hl=>?_,λj h1 h2=>?_,λπ' hd hπ=>⟨?_,?_⟩⟩
  ·rw [g1 l λj h1 h2=>hl j (by omega) (by omega)]
   exact hH1 l (hl k (Ao _) (by omega))
  ·rcases Nat.eq_or_lt_of_le h1 with e|h1
   ·subst e
    rw [hkk]
    exact RD h.1
   ·exact g2 j h1 (by omega)
  ·have h1:=h.1
   have hpk:=hπ k (Ao _) (by omega)
   cases c with
   |Em τ=>
    obtain ⟨jl,c1,c2⟩:=h1.2
    exact ⟨jl,by have:=fS (fr:=true) hd c1;simpa using this,c2⟩
   |row e te=>exact ⟨_,e.size,List.length x.1,hkk,rfl,by simp,by rw [hpk];exact h1.1⟩
   |Hp e te=>exact ⟨_,e.size,List.length x.1,hkk,rfl,by simp,by rw [hpk];exact h1.1⟩
   |Bp e te kp=>exact ⟨_,1,List.length x.1,hkk,rfl,by simp,by rw [hpk];exact h1.1⟩
   |part e te=>trivial
  ·exact g3 π' hd λj h1 h2=>hπ j (by omega) (by omega)
theorem QR {ks:List Nat} {n:Nat} (h:CW ks n=true):ks.length=n/\ks.Nodup/\ ∀l∈ks,l<Bn:=by
 unfold CW at h
 simp only [Af] at h
 refine ⟨Jr h.1,Za h.2.1,λl hl=>?_⟩
 have:=Bc.1 h.2.2 l hl
 simpa using this
theorem Sa {ks:List Nat} {j:Nat} (h:j<ks.length):Dx ks j=ks[j]:=by
 unfold Dx
 rw [Ac h]
theorem HK {ks:List Nat} (hn:ks.Nodup) (hl: ∀l∈ks,l<Bn): ∀i j,Dx ks i=Dx ks j->i=j:=by
 intro i j h
 by_cases hi:i<ks.length
 ·by_cases hj:j<ks.length
  ·rw [Sa hi,Sa hj] at h
   rcases Nat.lt_trichotomy i j with Iz|he|Iz
   ·exact absurd h (Fh.1 hn i j hi hj Iz)
   ·exact he
   ·exact absurd h.symm (Fh.1 hn j i hj hi Iz)
  ·have h1:=hl _ (Ak hi)
   rw [Sa hi] at h
   unfold Dx at h
   rw [Ec (by omega)] at h
   simp only at h
   omega
 ·by_cases hj:j<ks.length
  ·have h1:=hl _ (Ak hj)
   rw [Sa hj] at h
   unfold Dx at h
   rw [Ec (by omega)] at h
   simp only at h
   omega
  ·unfold Dx at h
   rw [Ec (by omega),Ec (by omega)] at h
   simp only at h
   omega
theorem Ny: ∀(H:List (Nat×OB)) (dead:List Nat) (l:Nat),Au (Yp H dead) l=if l∈dead then none else Au H l
 | [],dead,l=>by simp [Yp,Au]
 |(k,b)::r,dead,l=>by
  simp only [Yp]
  have ih:=Ny r dead l
  by_cases hk:k∈dead
  ·rw [Ab (by simpa using hk),ih]
   split
   ·rfl
   ·rename_i hl
    simp only [Au]
    rw [Ag (λ(e:k=l)=>hl (e▸hk))]
  ·rw [Ag (by simpa using hk)]
   simp only [Au]
   split
   ·rename_i e;subst e;rw [Ag hk]
   ·exact ih
theorem mem_keys {ks:List Nat} {l:Nat} :l∈ks↔ ∃k,k<ks.length/\l=Dx ks k:=
 ⟨λh=>by obtain ⟨k,hk,e⟩:=Ry h;exact ⟨k,hk,by rw [Sa hk,e]⟩,λ⟨k,hk,e⟩=>by rw [e,Sa hk];exact Ak hk⟩
theorem fh {tks:List (Nat×Loc)} {l:Nat} :l∈o7 tks↔ ∃t∈tks,(t.1<Bn/\t.2.reads=false)/\t.2.Xy=l:=by
 unfold o7
 simp only [Bi,Ch,Af,Nm,Ei]
 exact ⟨λ⟨t,⟨h1,h2⟩,h3⟩=>⟨t,h1,h2,h3⟩,λ⟨t,h1,h2,h3⟩=>⟨t,⟨h1,h2⟩,h3⟩⟩
theorem CX {tks:List (Nat×Loc)} (h:(tks.map λt=>t.2.Xy).Nodup) {t t':Nat×Loc} (ht:t∈tks) (xD:t'∈tks) (he:t.2.Xy=t'.2.Xy):t=t':=by
 induction tks with
 |nil=>cases ht
 |cons a r ih=>
  simp only [Ce] at h
  obtain ⟨h1,h2⟩:=Cd.1 h
  rcases Be.1 ht with rfl|ht<;>rcases Be.1 xD with rfl|xD
  ·rfl
  ·exact (h1 (Bi.2 ⟨t',xD,he.symm⟩)).elim
  ·exact (h1 (he▸Bi.2 ⟨t,‹t∈r›,rfl⟩)).elim
  ·exact ih h2 ht xD
theorem Ji.full {D:Nat->Prop} {ρ:Pi} : ∀(cs:List CK) (k:Nat) (x:CKs.den cs) (us:List Value),Ji w D ρ k cs x us->Ji w D (λl=>(ρ l).map full) k cs x us
 | [],_,_,[],h=>h
 | [],_,_,_::_,h=>h.elim
 |_::_,_,_,[],h=>h.elim
 |c::r,k,x,u::us,h=>⟨by
   have h1:=h.1
   show fI w D ((ρ (Jw k)).map _) u c x.1
   cases c with
   |Em τ=>rw [h1.1];exact ⟨rfl,h1.2⟩
   |row e te=>cases hp:ρ (Jw k)<;>(rw [hp] at h1;exact h1)
   |Hp e te=>cases hp:ρ (Jw k)<;>(rw [hp] at h1;exact h1)
   |Bp e te kp=>cases hp:ρ (Jw k)<;>(rw [hp] at h1;exact h1)
   |part e te=>cases hp:ρ (Jw k)<;>(rw [hp] at h1;exact h1),Ji.full r (k+1) x.2 us h.2⟩
theorem Ji.Ajc {D:Nat->Prop} {ρ:Pi} : ∀(cs:List CK) (k0:Nat) (x:CKs.den cs) (us:List Value),Ji w D ρ k0 cs x us-> ∀j,k0<=j->j<k0+cs.length-> ∀q,ρ (Jw j)=some q->q.Cx q.g
 | [],k0,_,_,_,j,h1,h2,_,_=>by simp at h2;omega
 |_::_,_,_,[],h,_,_,_,_,_=>h.elim
 |c::r,k0,x,u::us,ho,j,h1,h2,q,hq=>by
  rcases Nat.eq_or_lt_of_le h1 with e|h1
  ·subst e
   have:=ho.1
   cases c with
   |Em τ=>rw [hq] at this;cases this.1
   |row e te=>rw [hq] at this;exact this.2.1.1
   |Hp e te=>rw [hq] at this;exact this.2.1
   |part e te=>rw [hq] at this;exact this.2.2.1.1
   |Bp e te kp=>rw [hq] at this;exact this.2.1
  ·exact Ji.Ajc r (k0+1) x.2 us ho.2 j h1 (by simp at h2;omega) q hq
theorem Ts.any {D D':Nat->Prop} {r:Option Real} {e:Ty} {xs:List e.den} (hf:e.flat=true) (h:Ts w D r e xs):Ts w D' r e xs:=by
 cases r with
 |none=>exact h
 |some r=>
  obtain ⟨k1,cu,ti,k2,k3,k4,k5,k6⟩:=h
  exact ⟨k1,cu,ti,k2,k3,k4,k5,λi y hy=>by
   obtain ⟨es,g1,g2,g3⟩:=k6 i y hy
   exact ⟨es,g1,g2,Cells.flat e es y hf g3⟩⟩
theorem Ji.any {D D':Nat->Prop} {ρ:Pi} : ∀(cs:List CK) (k:Nat) (x:CKs.den cs) (us:List Value),cs.all (·.flat)=true->Ji w D ρ k cs x us->Ji w D' ρ k cs x us
 | [],_,_,[],_,h=>h
 | [],_,_,_::_,_,h=>h.elim
 |_::_,_,_,[],_,h=>h.elim
 |c::r,k,x,u::us,hf,h=>by
  simp only [Ie,Af] at hf
  refine ⟨?_,Ji.any r (k+1) x.2 us hf.2 h.2⟩
  have h1:=h.1
  cases c with
  |Em τ=>exact ⟨h1.1,Cw.flat hf.1 h1.2⟩
  |row e te=>exact ⟨h1.1,Ts.any hf.1 h1.2⟩
  |Hp e te=>exact h1
  |part e te=>exact ⟨h1.1,h1.2.1,Ts.any hf.1 h1.2.2⟩
  |Bp e te kp=>exact absurd hf.1 (by simp [CK.flat])
theorem Ma.any {D D':Nat->Prop} {π:Pi} : ∀(cs:List (Bool×CK)) (k:Nat) (x:IOs.den cs),(cs.all λp=>!p.1||p.2.flat)=true->Ma w D π k cs x->Ma w D' π k cs x
 | [],_,_,_,h=>h
 |(false,_)::r,k,x,hf,h=>Ma.any r (k+1) x (by simp only [Ie,Af] at hf;exact hf.2) h
 |(true, .Em _)::r,k,x,hf,h=>Ma.any r (k+1) x (by simp only [Ie,Af] at hf;exact hf.2) h
 |(true, .Bp _ _ _)::r,k,x,hf,h=>Ma.any r (k+1) x (by simp only [Ie,Af] at hf;exact hf.2) h
 |(true, .row e te)::r,k,x,hf,h=>by
  simp only [Ie,Af,Bool.not_true,Pq] at hf
  exact ⟨Ts.any hf.1 h.1,Ma.any r (k+1) x.2 hf.2 h.2⟩
 |(true, .Hp e te)::r,k,x,hf,h=>by
  simp only [Ie,Af,Bool.not_true,Pq] at hf
  exact ⟨h.1,Ma.any r (k+1) x.2 hf.2 h.2⟩
 |(true, .part e te)::r,k,x,hf,h=>by
  simp only [Ie,Af,Bool.not_true,Pq] at hf
  exact ⟨Ts.any hf.1 h.1,Ma.any r (k+1) x.2 hf.2 h.2⟩
theorem w5 {tks:List (Nat×Loc)} {l:Nat} :l∈FU tks↔ ∃t∈tks,t.2.reads=true/\t.2.Xy=l:=by
 unfold FU
 simp only [Bi,Ch]
 exact ⟨λ⟨t,⟨h1,h2⟩,h3⟩=>⟨t,h1,h2,h3⟩,λ⟨t,h1,h2,h3⟩=>⟨t,⟨h1,h2⟩,h3⟩⟩
theorem Bk.pd {st:St} {a:Act} (h:Bk X π st a w) {f:AC->AC} (hu:f .undef= .undef) {gv:Nat->Prop} (XP: ∀b,gv b->Ux π b) (hb:He w.heap.size gv w w')
  (aB: ∀b,b<w.heap.size->Ux π' b->Ux π b)
  (Qh: ∀l r b,π' l=some r->r.Cx b->r.cl b) (Amd: ∀l r b,π' l=some r->r.cl b->(X.w0.heap.size<=b\/X.gv b)/\b<w'.heap.size)
  (Avx: ∀l l' r r' b,π' l=some r->π' l'=some r'->r.cl b->r'.cl b->l=l')
  (aC: ∀l,Bn<=l->Au H' l≠none->ck (X.iY l) (π' l))
  (hac:(∀fr τ cs x,Cells w (Dd X.w0.heap.size X.Sc π fr) τ cs x->Cells w' (Dd X.w0.heap.size X.Sc π' fr) τ cs x)-> ∀c v,Hk X w π st.heap c v->Hk X w' π' H' (f c) v)
  (PT:Move X w w' π π' st.heap H' f-> ∀l b,Au H' l=some b->Cm X w' π' H' (π' l) b)
  (VH: ∀l,Au H' l=none->π' l=none):
  Bk X π' {tmps:=st.tmps.map (·.map f),heap:=H'} a w':=by
 have hc: ∀fr τ cs x,Cells w (Dd X.w0.heap.size X.Sc π fr) τ cs x->Cells w' (Dd X.w0.heap.size X.Sc π' fr) τ cs x:= λfr τ cs x hh=>
  Cells.Fg hb.size (λk hk hn=>hb.block k hk λhg=>hn (.inl (XP k hg))) (λk Iz hA=>hA.imp (aB k Iz) id) τ cs x hh
 have m:Move X w w' π π' st.heap H' f:=⟨hac hc,hc⟩
 refine ⟨⟨⟨hb.os.trans h.1.below.os,hb.tape.trans h.1.below.tape,hb.output.trans h.1.below.output,Jd h.1.below.size hb.size,λk hk hn=>?_⟩,h.1.sc,Qh,Amd,Avx,aC,λl=>?_⟩,m.SG hu h.2⟩
 ·refine (hb.block k (Dk hk h.1.below.size) λhg=>?_).trans (h.1.below.block k hk hn)
  rcases (h.1.own (XP k hg)).2 with h1|h1
  ·omega
  ·exact hn h1
 ·cases hh:Au H' l with
  |none=>exact Gk.Vc (VH l hh) hh
  |some b=>exact Gk.Lu (PT m l b hh) hh
def ib:Option Real->Option Real->Prop
 |none,none=>True
 |some r,some r'=>r.g=r'.g/\r.o=r'.o/\r.cap=r'.cap
 |_,_=>False
theorem ib.rfl' (r:Option Real):ib r r:=by cases r<;>simp [ib]
theorem ib.some {r:Real} {r':Option Real} (h:ib (some r) r'): ∃q,r'=some q/\r.g=q.g/\r.o=q.o/\r.cap=q.cap:=by
 cases r' with
 |none=>exact h.elim
 |some q=>exact ⟨q,rfl,h⟩
theorem ib.own {r r':Option Real} (h:ib r r') {sz off len:Nat} {v:Value} (hv:Ib r sz off len v):Ib r' sz off len v:=by
 cases r<;>cases r'<;>first|exact h.elim|skip
 ·exact hv
 ·obtain ⟨h1,h2,h3⟩:=h
  obtain ⟨ad,g1,g2,g3⟩:=hv
  exact ⟨ad,by rw [<-h3];exact g1,by rw [<-h3];exact g2,by rw [<-h1,<-h2,<-h3];exact g3⟩
structure OB.Ub (b b':OB):Prop where
 row: ∀sz n,b.row=some (sz,n)-> ∃n',b'.row=some (sz,n')/\n<=n'
 iu: ∀p,b.iu=some p->b'.iu=some p
 xO: ∀p,b.xO=some p->b'.xO=some p
 var: ∀tid vs,b= .var tid vs-> ∃Tm vs',b'= .var Tm vs'
 Wo: ∀v m,b= .Wo v m-> ∃m',b'= .Wo v m'
theorem OB.Ub.map (f:AC->AC) (b:OB):b.Ub (b.map f) where
 row:= λsz n h=>⟨n,by cases b<;>exact h,Ao _⟩
 iu:= λp h=>by cases b<;>exact h
 xO:= λp h=>by cases b<;>exact h
 var:= λtid vs h=>by subst h;exact ⟨_,_,rfl⟩
 Wo:= λv m h=>by subst h;exact ⟨_,rfl⟩
theorem OB.Ub.rfl' (b:OB):b.Ub b where
 row:= λ_sz n h=>⟨n,h,Ao _⟩
 iu:= λ_p h=>h
 xO:= λ_p h=>h
 var:= λ_tid _vs h=>⟨_,_,h⟩
 Wo:= λ_v _m h=>⟨_,h⟩
theorem OB.Ub.trans {a b c:OB} (h:a.Ub b) (k:b.Ub c):a.Ub c where
 row:= λsz n hr=>by
  obtain ⟨n1,h1,h2⟩:=h.row sz n hr
  obtain ⟨n2,h3,h4⟩:=k.row sz n1 h1
  exact ⟨n2,h3,by omega⟩
 iu:= λp hp=>k.iu p (h.iu p hp)
 xO:= λp hp=>k.xO p (h.xO p hp)
 var:= λtid vs hv=>by obtain ⟨t',v',h1⟩:=h.var tid vs hv;exact k.var t' v' h1
 Wo:= λv m hm=>by obtain ⟨m',h1⟩:=h.Wo v m hm;exact k.Wo v m' h1
theorem pc {f:AC->AC} {D Pt:Nat->Prop} (hf: ∀c,f c= .undef\/(f c=c/\(∀k∈c.refs,¬D k)/\ ∀k i j,c= .sub k i j\/c= .Kd k i j-> ¬Pt k)) (hp: ∀k,¬D k->ib (π k) (π' k))
  (hH: ∀k b,¬D k->Au H k=some b-> ∃b',Au H' k=some b'/\b.Ub b')
  (hg: ∀k r b,¬D k-> ¬Pt k->Au H k=some b->b.iu≠none->π k=some r->w'.heap[r.g]?=w.heap[r.g]?)
  (hc: ∀fr τ cs x,Cells w (Dd X.w0.heap.size X.Sc π fr) τ cs x->Cells w' (Dd X.w0.heap.size X.Sc π' fr) τ cs x): ∀c v,Hk X w π H c v->Hk X w' π' H' (f c) v:=by
 intro c v h
 rcases hf c with e|⟨e,hr,hs⟩
 ·rw [e];trivial
 rw [e]
 cases c with
 |data fr τ x=>obtain ⟨cs,h1,h2⟩:=h;exact ⟨cs,hc _ _ _ _ h1,h2⟩
 |own k off len=>
  obtain ⟨b,sz,n,h1,h0,h2,h3⟩:=h
  have hk:=hr k (by simp [AC.refs])
  obtain ⟨b',g1,g2⟩:=hH k b hk h1
  obtain ⟨n',g3,g4⟩:=g2.row sz n h0
  exact ⟨b',sz,n',g1,g3,by omega,(hp k hk).own h3⟩
 |Gy k i=>
  obtain ⟨r,tid,vs,h1,h2,h3⟩:=h
  have hk:=hr k (by simp [AC.refs])
  obtain ⟨b',g1,g2⟩:=hH k _ hk h1
  obtain ⟨Tm,vs',rfl⟩:=g2.var tid vs rfl
  obtain ⟨q,q1,q2,_⟩:=(h2▸hp k hk).some
  exact ⟨q,Tm,vs',g1,q1,by rw [<-q2];exact h3⟩
 |Kh k i=>
  obtain ⟨r,b,sz,n,h1,h0,h2,h3,h4⟩:=h
  have hk:=hr k (by simp [AC.refs])
  obtain ⟨b',g1,g2⟩:=hH k b hk h1
  obtain ⟨n',g3,g4⟩:=g2.row sz n h0
  obtain ⟨q,q1,q2,q3,_⟩:=(h3▸hp k hk).some
  exact ⟨q,b',sz,n',g1,g3,by omega,q1,by rw [<-q2,<-q3];exact h4⟩
 |sub k i c=>
  obtain ⟨r,b,sz,n,h1,h0,h2,h3,h4,h5⟩:=h
  have hk:=hr k (by simp [AC.refs])
  obtain ⟨b',g1,g2⟩:=hH k b hk h1
  obtain ⟨q,q1,q2,q3,_⟩:=(h2▸hp k hk).some
  exact ⟨q,b',sz,n,g1,g2.iu _ h0,q1,h3,h4,by rw [<-q2,<-q3,World.cell?_of_block (hg k r b hk (hs k i c (.inl rfl)) h1 (by rw [h0];simp) h2)];exact h5⟩
 |Kd k i c=>
  obtain ⟨r,b,n,sz,g,o,len,cap,h1,h0,h2,h3,h4,h5,h6⟩:=h
  have hk:=hr k (by simp [AC.refs])
  obtain ⟨b',g1,g2⟩:=hH k b hk h1
  obtain ⟨q,q1,q2,q3,_⟩:=(h2▸hp k hk).some
  exact ⟨q,b',n,sz,g,o,len,cap,g1,g2.xO _ h0,q1,h3,h4,by rw [<-q2,<-q3,World.cell?_of_block (hg k r b hk (hs k i c (.inr rfl)) h1 (by cases b<;>first|(cases h0;done)|simp [OB.iu]) h2)];exact h5,h6⟩
 |clo g Eg=>
  obtain ⟨us,h1,h2,h3⟩:=h
  refine ⟨us,h1,h2,λj p hpj=>?_⟩
  obtain ⟨r,tid,vs,h4,h5,h6⟩:=h3 j p hpj
  have hk:=hr p.1 (by simp only [AC.refs,Bi];exact ⟨p,Bv hpj,rfl⟩)
  obtain ⟨b',g1,g2⟩:=hH p.1 _ hk h4
  obtain ⟨Tm,vs',rfl⟩:=g2.var tid vs rfl
  obtain ⟨q,q1,q2,_⟩:=(h5▸hp p.1 hk).some
  exact ⟨q,Tm,vs',g1,q1,by rw [<-q2];exact h6⟩
 |Kr k=>
  obtain ⟨r,vt,m,h1,h2,h3⟩:=h
  have hk:=hr k (by simp [AC.refs])
  obtain ⟨b',g1,g2⟩:=hH k _ hk h1
  obtain ⟨m',rfl⟩:=g2.Wo vt m rfl
  obtain ⟨q,q1,q2,_⟩:=(h2▸hp k hk).some
  exact ⟨q,vt,m',g1,q1,by rw [<-q2];exact h3⟩
 |_=>exact h
theorem Vy (H0:List (Nat×OB)) (ls:List Nat) (n:Nat): ∀(H:List (Nat×OB)) (l:Nat),Au (ef H0 ls n H) l=(Au H l).map λb=>if ls.contains l then b.LU (cI n (An0 (Au H0 l))) else b
 | [],_=>rfl
 |(k,b)::r,l=>by
  simp only [ef,Au]
  split
  ·rename_i e;subst e;rfl
  ·exact Vy H0 ls n r l
theorem OB.EL (b:OB) (kp:Option (Nat×Nat)):b.Ub (b.LU kp):=by
 cases b with
 |Bp e te rows out kp0=>exact ⟨λsz n h=>⟨n,h,Ao _⟩,λp h=>h,λp h=>h,(λ_ _ h=>by cases h),(λ_ _ h=>by cases h)⟩
 |_=>exact OB.Ub.rfl' _
theorem gS (ls:List Nat): ∀(l m:List AV) (t:Nat),l.length=m.length->(∃k i c,l.getD t .undef= .at (.sub k i c)/\ls.contains k=true/\(Lx ls l m).getD t .undef= .at (.sub k i c))\/(Lx ls l m).getD t .undef=m.getD t .undef
 | [],m,t,_=>by cases m<;>exact .inr rfl
 |_::_,[],t,h=>by simp at h
 |a::l,v::m,t,h=>by
  have ih:= λt=>gS ls l m t (by simpa using h)
  have tail: ∀u,Lx ls (a::l) (v::m)=u::Lx ls l m->(t=0->(∃k i c,(a::l).getD t .undef= .at (.sub k i c)/\ls.contains k=true/\u= .at (.sub k i c))\/u=v)->
    (∃k i c,(a::l).getD t .undef= .at (.sub k i c)/\ls.contains k=true/\(Lx ls (a::l) (v::m)).getD t .undef= .at (.sub k i c))\/(Lx ls (a::l) (v::m)).getD t .undef=(v::m).getD t .undef:=by
   intro u e h0
   rw [e]
   rcases t with _|t
   ·rcases h0 rfl with ⟨k,i,c,h1,h2,h3⟩|h3
    ·exact .inl ⟨k,i,c,h1,h2,by simpa using h3⟩
    ·exact .inr (by simpa using h3)
   ·simpa only [Nu] using ih t
  cases a with
  | «at»c=>
   cases c with
   |sub k i c=>
    refine tail _ rfl λht=>?_
    subst ht
    by_cases hc:ls.contains k=true
    ·exact .inl ⟨k,i,c,rfl,hc,by rw [Ab hc]⟩
    ·exact .inr (by rw [Ag hc])
   |_=>exact tail _ rfl λ_=> .inr rfl
  |_=>exact tail _ rfl λ_=> .inr rfl
theorem xe {H:List (Nat×OB)} {ls:List Nat} {n:Nat} : ∀ {l:List AV} {t k i c:Nat},ey H ls n l=true->l.getD t .undef= .at (.sub k i c)->ls.contains k=true->i<n/\i<tS H k
 | [],t,k,i,c,_,h,_=>by simp at h
 |a::l,0,k,i,c,ho,h,hc=>by
  simp only [Yj] at h
  subst h
  simp only [ey,hc,Bool.not_true,Pq,Af,Nm] at ho
  exact ho.1
 |a::l,t+1,k,i,c,ho,h,hc=>by
  refine xe (l:=l) (t:=t) (c:=c) ?_ (by simpa only [Nu] using h) hc
  cases a with
  | «at»d=>cases d with
   |sub _ _ _=>simp only [ey,Af] at ho;exact ho.2
   |_=>exact ho
  |_=>exact ho
theorem QN {cZ st:St} {a:Act} (h0:Bk X π cZ a w) (h:Bk X π' st a w') {ls:List Nat} {n:Nat} (hk: ∀l∈ls,zc w w' (π l) (π' l) n) (vA: ∀l∈ls,oK cZ.heap l=true)
  (jE:ey st.heap ls n cZ.tmps=true):Bk X π' (nh cZ st ls n) a w'/\ ∀c v,Bs X w' π' st.heap c v->Bs X w' π' (nh cZ st ls n).heap c v:=by
 by_cases rX:ls= []
 ·subst rX;exact ⟨h,λ_ _ h=>h⟩
 have Uk:nh cZ st ls n= {tmps:=Lx ls cZ.tmps st.tmps,heap:=ef cZ.heap ls n st.heap} :=by
  cases ls with
  |nil=>exact absurd rfl rX
  |cons _ _=>rfl
 rw [Uk]
 have hg0: ∀l∈ls,∃e te rows out kp,Au cZ.heap l=some (.Bp e te rows out kp):= λl hl=>by
  have:=vA l hl
  unfold oK at this
  split at this
  ·exact ⟨_,_,_,_,_,by assumption⟩
  ·cases this
 have srv: ∀k b,Au st.heap k=some b-> ∃b',Au (ef cZ.heap ls n st.heap) k=some b'/\b.Ub b':= λk b hb=>by
  rw [Vy,hb]
  refine ⟨_,rfl,?_⟩
  dsimp only
  split
  ·exact OB.EL b _
  ·exact OB.Ub.rfl' b
 have hac:(∀fr τ cs x,Cells w' (Dd X.w0.heap.size X.Sc π' fr) τ cs x->Cells w' (Dd X.w0.heap.size X.Sc π' fr) τ cs x)-> ∀c v,Hk X w' π' st.heap c v->Hk X w' π' (ef cZ.heap ls n st.heap) c v:= λhc=>
  pc (f:= λc=>c) (D:= λ_=>False) (Pt:= λ_=>False) (λc=> .inr ⟨rfl,λ_ _ h=>h,λ_ _ _ _ h=>h⟩) (λk _=>ib.rfl' _) (λk b _ hb=>srv k b hb) (λ_ _ _ _ _ _ _ _=>rfl) hc
 have h1:Bk X π' {tmps:=st.tmps.map (·.map λc=>c),heap:=ef cZ.heap ls n st.heap} a w':=by
  refine h.pd rfl (gv:= λ_=>False) (λ_ hf=>hf.elim) (He.refl _ _ _) (λ_ _ ho=>ho) h.1.sub h.1.place h.1.inj (λl hl Ih=>h.1.iY l hl λh2=>Ih (by rw [Vy,h2];rfl)) hac (λm l b hb=>?_) (λl hl=>?_)
  ·rw [Vy] at hb
   cases h2:Au st.heap l with
   |none=>rw [h2] at hb;cases hb
   |some b0=>
    rw [h2] at hb
    simp only [Am,Aa] at hb
    have hbk:=(h.1.heap l).Qs h2
    have OA:=hbk.move m (Ao _) (λr0 c h0 h1=>h.1.sub _ r0 c h0 h1) λ_ _ _ _ _=>rfl
    rw [show OB.map (λc=>c) b0=b0 from OB.JY b0] at OA
    split at hb
    ·rename_i hc
     have hl:l∈ls:=by simpa using hc
     cases b0 with
     |Bp e te rows out kp=>
      simp only [OB.LU] at hb
      subst hb
      refine ⟨OA.1,?_⟩
      obtain ⟨e0,te0,Akp,Axi,kp0,hg⟩:=hg0 l hl
      have vD:=((h0.1.heap l).Qs hg).2
      rw [hg]
      simp only [An0]
      have xR:=hk l hl
      cases kp0 with
      |none=>trivial
      |some p=>
       obtain ⟨l0,n0⟩:=p
       simp only [KeptAt,cI] at vD⊢
       cases CJ:X.iY l0 with
       |none=>
        cases hp:π l with
        |none=>
         rw [hp] at xR
         cases oG:π' l with
         |none=>trivial
         |some q=>rw [oG] at xR;exact xR.elim
        |some q=>rw [CJ,hp] at vD;exact vD.elim
       |some r0=>
        cases hp:π l with
        |none=>rw [CJ,hp] at vD;exact vD.elim
        |some q=>
         rw [CJ,hp] at vD
         rw [hp] at xR
         cases oG:π' l with
         |none=>rw [oG] at xR;exact xR.elim
         |some q'=>
          rw [oG] at xR
          obtain ⟨k1,k2,k3,k4⟩:=xR
          obtain ⟨g1,g2,g3,g4⟩:=vD
          refine ⟨k1.trans g1,k2.trans g2,k3.trans g3,λj hj hc=>?_⟩
          have e1:=g4 j (by omega) hc
          have e2:=k4 j (by omega) (by omega)
          rw [g1,g2] at e2
          rw [<-e1,e2]
     |_=>simp only [OB.LU] at hb;subst hb;exact OA
    ·subst hb;exact OA
  ·rw [Vy] at hl
   cases h2:Au st.heap l with
   |none=>exact (h.1.heap l).emp h2
   |some b=>rw [h2] at hl;cases hl
 have VB: ∀c v,Bs X w' π' st.heap c v->Bs X w' π' (ef cZ.heap ls n st.heap) c v:= λc v hv=>by
  have m:Move X w' w' π' π' st.heap (ef cZ.heap ls n st.heap) (λc=>c):=⟨hac λ_ _ _ _ h=>h,λ_ _ _ _ h=>h⟩
  have:=m.av hv
  rwa [AC.map_id] at this
 refine ⟨⟨h1.1,⟨?_,h.2.defers,λt=>?_⟩⟩,VB⟩
 ·have: ∀(l m:List AV),(Lx ls l m).length=m.length:=by
   intro l
   induction l with
   |nil=>intro m;cases m<;>rfl
   |cons a l ih=>
    intro m
    cases m with
    |nil=>cases a with
     | «at»c=>cases c<;>rfl
     |_=>rfl
    |cons v m=>cases a with
     | «at»c=>cases c<;>simp only [Lx,Aw,ih m]
     |_=>simp only [Lx,Aw,ih m]
  show a.tmps.size=(Lx ls cZ.tmps st.tmps).length
  rw [this];exact h.2.size
 ·show Bs X w' π' _ ((Lx ls cZ.tmps st.tmps).getD t .undef) _
  rcases gS ls cZ.tmps st.tmps t (by rw [<-h0.2.size,<-h.2.size]) with ⟨k,i,c,g1,g2,g3⟩|g
  ·rw [g3]
   have Rz:k∈ls:=by simpa using g2
   obtain ⟨i1,i2⟩:=xe jE g1 g2
   have hv:=h0.2.tmps t
   rw [show cZ.get t=_ from g1] at hv
   obtain ⟨r,b,sz,n',e1,e2,e3,e4,⟨e5,e6⟩,e7⟩:=hv
   obtain ⟨e0,te0,Akp,Axi,kp0,hg⟩:=hg0 k Rz
   rw [hg] at e1;cases e1
   simp only [OB.iu,Aa,Ae] at e2
   obtain ⟨rfl,rfl⟩:=e2
   have xR:=hk k Rz
   rw [e3] at xR
   cases oG:π' k with
   |none=>rw [oG] at xR;exact xR.elim
   |some q'=>
    rw [oG] at xR
    obtain ⟨k1,k2,k3,k4⟩:=xR
    have vz:Akp.length<=r.cap:=by
     have:=((h0.1.heap k).Qs hg).1
     rw [e3] at this
     obtain ⟨_,_,_,_,_,_,h5,_⟩:=this
     exact h5
    unfold tS at i2
    split at i2
    ·rename_i e9 te9 As7 Bd6 kp9 hg9
     refine ⟨q',_,1,As7.length,by rw [Vy,hg9];rfl,?_,oG,i2,⟨e5,e6⟩,?_⟩
     ·dsimp only
      split<;>rfl
     ·have m5:c=0:=by omega
      subst m5
      rw [k1,k2]
      rw [Gd,Fk] at e7⊢
      rw [k4 i i1 (by omega)];exact e7
    ·omega
  ·rw [g]
   exact VB _ _ (h.2.tmps t)
theorem r7 {ins:List (Bool×CK)} {as:List AC} {pl:List Nat} {st:St} :(tm ins as pl st).tmps=st.tmps:=by
 unfold tm
 split
 ·rfl
 ·split<;>rfl
theorem SM {ins:List (Bool×CK)} {as:List AC} {pl:List Nat} {st:St} {m:Nat} (hm:m∉pl):Au (tm ins as pl st).heap m=Au st.heap m:=by
 unfold tm
 split
 ·rfl
 ·rename_i l r
  split
  ·exact Ee _ _ _ _ λe=>hm (e▸Jc)
  ·rfl
theorem ZT {ins:List (Bool×CK)} {as:List AC} {l:Nat} {st:St} {tid:TypeId} {vs:List AC} (hl:Au st.heap l=some (.var tid vs)):Au (tm ins as [l] st).heap l=some (.var tid (iC ins vs as)):=by
 simp only [tm,St.at,hl]
 exact Ew _ _ _ _ hl
theorem AA {α:Type} (ins:List (Bool×CK)) (as:List α):iC ins [] as= []:=by
 rcases ins with _|⟨⟨_|_,c⟩,r⟩<;>rfl
theorem qQ {α:Type} : ∀(ins:List (Bool×CK)) (vs as:List α),(iC ins vs as).length=vs.length
 | [],vs,as=>by rw [iC];all_goals simp
 |p::r,[],as=>by rw [AA]
 |(true,c)::r,v::vs,as=>by simp only [iC,Aw,qQ r vs as]
 |(false,c)::r,v::vs,[]=>by rw [iC];all_goals simp
 |(false,c)::r,v::vs,a::as=>by simp only [iC,Aw,qQ r vs as]
theorem ZK {st:St} {a:Act} (h:Bk X π st a w) {s:MSpec} {nW:List AV} {vs:List Value} (hlen:nW.length=vs.length) (VB: ∀(i:Nat) c v,nW[i]?=some c->vs[i]?=some v->Bs X w π st.heap c v)
  {pl:List Nat} {cells:List AC} {rest:List AV} (he:WA st s nW=some (pl,cells,rest)):
  ∃(g:Nat) (cus AW:List Value),rest.length=AW.length/\(∀(i:Nat) c v,rest[i]?=some c->AW[i]?=some v->Bs X w π st.heap c v)/\Km X w π st.heap cells cus/\
   ((s.ptr=none/\pl= []/\cells= []/\cus= []/\vs=AW)\/
    ∃p l q,s.ptr=some p/\pl= [l]/\π l=some q/\q.Cx q.g/\g=q.g/\Au st.heap l=some (.var p.1 cells)/\cells.length=p.2/\vs= .pointer (some ⟨g,0,none⟩)::AW/\w.heap[g]?=some (.cells cus.toArray p.1 (0,0))/\Fv X w π st.heap cells cus):=by
 unfold WA at he
 split at he
 ·rename_i hp
  simp only [Aa,Ae] at he
  obtain ⟨rfl,rfl,rfl⟩:=he
  exact ⟨0,[],vs,hlen,VB,trivial, .inl ⟨hp,rfl,rfl,rfl,rfl⟩⟩
 ·rename_i p hp
  split at he
  ·rename_i l i Azq
   split at he
   ·rename_i tid cs hl
    split at he
    ·rename_i hc
     obtain ⟨rfl,hc,rfl⟩:=hc
     simp only [Aa,Ae] at he
     obtain ⟨rfl,rfl,rfl⟩:=he
     unfold St.at at hl
     cases vs with
     |nil=>simp at hlen
     |cons v vs=>
      obtain ⟨r,Tm,vs',h1,h2,rfl⟩:=VB 0 _ v rfl rfl
      rw [hl] at h1;cases h1
      obtain ⟨r',h3,h4,cur,h5,h6⟩:=(h.1.heap l).Qs hl
      rw [h2] at h3;cases h3
      exact ⟨r.g,cur.toList,vs,by simpa using hlen,λi c v h7 h8=>VB (i+1) c v (by simpa using h7) (by simpa using h8),Km.of h6, .inr ⟨p,l,r,hp,rfl,h2,h4,rfl,hl,hc,rfl,by simpa using h5,h6⟩⟩
    ·cases he
   ·cases he
  ·cases he
theorem ll {V:List Nat} {πc:Pi} {dead part:List Nat} (hπ: ∀l,l∉dead->π' l=π l) (La: ∀l b sz n,l∉dead->Au H l=some b->b.row=some (sz,n)-> ∃b',Au H' l=some b'/\b'.row=some (sz,n)):
  ∀(ins:List (Bool×CK)) (k:Nat) (cells pU:List AC) (x:Ins.den ins) (us:List Value) (o:IOs.den ins) (cur st1:St) (news:List AC) (Rw cs:List Value),sP X w π V H πc k ins x (cells++pU) us->Xa ins cells=true->
   Ii ins o (cells++pU) cur=some st1->Es πc k ins o cells.length cs Rw->Km X w' π' H' news Rw->Km X w' π' H' (iC ins (cells.map (Ct dead part)) news) cs
 |ins,k,[],pU,x,us,o,cur,st1,news,Rw,cs,_,_,_,hb,_=>by
  have hb:cs= []:=by rcases ins with _|⟨⟨_|_,c⟩,r⟩<;>(try cases c)<;>simpa [Es] using hb
  rw [hb,List.map_nil,AA]
  trivial
 | [],k,a::cells,pU,x,us,o,cur,st1,news,Rw,cs,_,hk,_,_,_=>by simp [Xa] at hk
 |(true, .Em τ)::r,k,a::cells,pU,x,us,o,cur,st1,news,Rw,cs,_,hk,_,_,_=>by simp [Xa] at hk
 |(true, .part e te)::r,k,a::cells,pU,x,us,o,cur,st1,news,Rw,cs,_,hk,_,_,_=>by simp [Xa] at hk
 |(true, .Bp e te _)::r,k,a::cells,pU,x,us,o,cur,st1,news,Rw,cs,_,hk,_,_,_=>by simp [Xa] at hk
 |(true, .row e te)::r,k,a::cells,pU,x,us,o,cur,st1,news,Rw,cs,ht,hk,hp,hb,hn=>by
  cases a<;>simp only [Xa,Dj] at hk
  rename_i l off len
  cases us with
  |nil=>exact ht.elim
  |cons u0 us=>
  cases cs with
  |nil=>exact hb.elim
  |cons u cs=>
  obtain ⟨⟨_,h1⟩,h2⟩:=ht
  simp only [Un] at h1
  obtain ⟨h3,rfl,rfl,fr,tr,h4⟩:=h1
  obtain ⟨h5,h6⟩:=hb
  simp only [Mo,Ii] at hp
  split at hp
  rotate_left
  ·cases hp
  rename_i aU hpc
  have XQ:List.length o.1=List.length x.1:=by
   simp only [df] at hpc
   repeat' split at hpc
   all_goals first|(cases hpc;done)|(rename_i hc;exact hc.2.1)
  refine ⟨?_,ll hπ La r (k+1) cells pU x.2 us o.2 aU st1 news Rw cs h2 hk hp h6 hn⟩
  by_cases hd:l∈dead
  ·have:Ct dead part (.own l 0 (List.length x.1))= .undef:=by
    unfold Ct
    rw [Ab (by simp [AC.refs,hd])]
   rw [this];trivial
  ·rw [dx (by simpa [AC.refs] using hd) (by intro l i j e;rcases e with e|e<;>cases e)]
   obtain ⟨b',g1,g2⟩:=La l _ e.size (List.length x.1) hd h4 rfl
   refine ⟨b',e.size,List.length x.1,g1,g2,by omega,?_⟩
   rw [hπ l hd]
   rw [h3,XQ] at h5
   cases hp:π l<;>(rw [hp] at h5;exact h5)
 |(true, .Hp e te)::r,k,a::cells,pU,x,us,o,cur,st1,news,Rw,cs,ht,hk,hp,hb,hn=>by
  cases a<;>simp only [Xa,Dj] at hk
  rename_i l off len
  cases us with
  |nil=>exact ht.elim
  |cons u0 us=>
  cases cs with
  |nil=>exact hb.elim
  |cons u cs=>
  obtain ⟨⟨_,h1⟩,h2⟩:=ht
  simp only [Un] at h1
  obtain ⟨h3,rfl,rfl,h4⟩:=h1
  obtain ⟨h5,h6⟩:=hb
  simp only [Mo,Ii] at hp
  split at hp
  rotate_left
  ·cases hp
  rename_i aU hpc
  have XQ:List.length o.1=List.length x.1:=by
   simp only [df] at hpc
   repeat' split at hpc
   all_goals first|(cases hpc;done)|(rename_i hc;exact hc.2.1)
  refine ⟨?_,ll hπ La r (k+1) cells pU x.2 us o.2 aU st1 news Rw cs h2 hk hp h6 hn⟩
  by_cases hd:l∈dead
  ·have:Ct dead part (.own l 0 (List.length x.1))= .undef:=by
    unfold Ct
    rw [Ab (by simp [AC.refs,hd])]
   rw [this];trivial
  ·rw [dx (by simpa [AC.refs] using hd) (by intro l i j e;rcases e with e|e<;>cases e)]
   obtain ⟨b',g1,g2⟩:=La l _ e.size (List.length x.1) hd h4 rfl
   refine ⟨b',e.size,List.length x.1,g1,g2,by omega,?_⟩
   rw [hπ l hd]
   rw [h3,XQ] at h5
   cases hp:π l<;>(rw [hp] at h5;exact h5)
 |(false,c)::r,k,a::cells,pU,x,[],o,cur,st1,news,Rw,cs,ht,hk,hp,hb,hn=>ht.elim
 |(false,c)::r,k,a::cells,pU,x,u0::us,o,cur,st1,news,Rw,[],ht,hk,hp,hb,hn=>by cases c<;>exact hb.elim
 |(false,c)::r,k,a::cells,pU,x,u0::us,o,cur,st1,news,[],u::cs,ht,hk,hp,hb,hn=>by cases c<;>exact hb.elim
 |(false,c)::r,k,a::cells,pU,x,u0::us,o,cur,st1,[],u'::Rw,u::cs,ht,hk,hp,hb,hn=>hn.elim
 |(false,c)::r,k,a::cells,pU,x,u0::us,o,cur,st1,na::news,u'::Rw,u::cs,ht,hk,hp,hb,hn=>by
  have hb2:u=u'/\Es πc (k+1) r o cells.length cs Rw:=by cases c<;>exact hb
  obtain ⟨rfl,hb3⟩:=hb2
  have hp:Ii r o (cells++pU) cur=some st1:=by cases c<;>simpa only [Mo,Ii] using hp
  have hk:Xa r cells=true:=by cases c<;>simpa only [Xa] using hk
  exact ⟨hn.1,ll hπ La r (k+1) cells pU x.2 us o cur st1 news Rw cs ht.2 hk hp hb3 hn.2⟩
theorem MU {V:List Nat} {πc:Pi} : ∀(cs:List (Bool×CK)) (k0:Nat) (x:Ins.den cs) (as:List AC) (us:List Value),k0+cs.length<100000->sP X w π V H πc k0 cs x as us-> ∀k l,(Dt false k,Loc.row l)∈Ly k0 cs as->πc (Dt false k)=(π l).map full
 | [],_,_,[],_,_,_,_,_,h=>by cases h
 | [],_,_,_::_,_,_,_,_,_,h=>by cases h
 |_::_,_,_,[],_,_,_,_,_,h=>by cases h
 |_::_,_,_,_::_,[],_,h,_,_,_=>h.elim
 |(io,c)::r,k0,x,a::as,u::us,hk,h,k,l,ht=>by
  simp only [Aw] at hk
  simp only [Ly] at ht
  rcases Az.1 ht with ht|ht
  ·obtain ⟨⟨_,h1⟩,_⟩:=h
   cases c with
   |Em τ=>cases a<;>simp [Ra,views] at ht
   |row e te=>
    cases a<;>simp [Ra] at ht
    obtain ⟨e1,rfl⟩:=ht
    simp only [Un] at h1
    rw [e1];exact h1.1
   |Hp e te=>
    cases a<;>simp [Ra] at ht
    obtain ⟨e1,rfl⟩:=ht
    simp only [Un] at h1
    rw [e1];exact h1.1
   |part e te=>
    cases a<;>simp [Ra] at ht
    obtain ⟨e1,rfl⟩:=ht
    simp only [Un] at h1
    rw [e1];exact h1.2.1
   |Bp e te kp=>
    cases a<;>simp [Ra] at ht
    obtain ⟨e1,rfl⟩:=ht
    simp only [Un] at h1
    rw [e1];exact h1.2.1
  ·exact MU r (k0+1) x.2 as us (by omega) h.2 k l ht
theorem sR {st:St} {a:Act} (h:Bk X π st a w) {f:FuncId} {s:MSpec} (hs:Cb P f s) (dst:Option Nat) (nW:List AV) (vs:List Value) (hlen:nW.length=vs.length)
  (VB: ∀(i:Nat) c v,nW[i]?=some c->vs[i]?=some v->Bs X w π st.heap c v) (av:AV) (st':St) (he:Ys st dst s nW=some (av,st')):
  Calls P f vs.toArray w λe w'=> ∃v,e= .returned v/\ ∃π',Bk X π' st' a w'/\Bs X w' π' st'.heap av v:=by
 unfold Ys at he
 split at he
 ·cases he
 rename_i pl cells rest Ahh
 split at he
 ·cases he
 rename_i pU mc
 split at he
 ·cases he
 rename_i x tks htk
 split at he
 rotate_left
 ·cases he
 rename_i Ju
 simp only [Af,Nm] at Ju
 obtain ⟨⟨⟨⟨VG,vF⟩,hon⟩,jD⟩,Aqa,XT⟩:=Ju
 have XT: ∀l∈pl,l∉(tks.map λt=>t.2.Xy)/\l∉Tb s tks (dst.getD 0):= λl hl=>by
  have:=Bc.1 XT l hl
  simp only [Ei,<-Ir,Jq] at this
  exact ⟨λhm=>this (Bd _ hm),λhm=>this (Bx _ hm)⟩
 split at he
 ·cases he
 rename_i r o hfn
 split at he
 ·cases he
 rename_i st1 Acw
 obtain ⟨g,cus,AW,Acp,Avb,Awj,dd⟩:=ZK h hlen VB Ahh
 obtain ⟨xG,rfl,OE,Awi⟩:=Wm s.Ja rest AW pU Acp Avb mc
 have hrc:=Awj.append Awi
 have Rp:pY s w g (cus++xG) vs:=by
  unfold pY
  rcases dd with ⟨h1,_,_,h2,h3⟩|⟨p,l,q,h1,_,_,_,_,_,h2,h3,h4,h5⟩
  ·rw [h1];subst h2;exact ⟨h3,OE⟩
  ·rw [h1]
   have hl:cus.length=p.2:=h5.1.trans h2
   simp only
   rw [List.drop_append_of_le_length (by omega),List.take_append_of_le_length (by omega),bg (by omega),List.drop_of_length_le (by omega)]
   refine ⟨h3,OE,by simp;omega,h4,λu hu=>?_⟩
   obtain ⟨i,hi,rfl⟩:=Cl.1 hu
   obtain ⟨u',h6,h7,_⟩:=h5.2 i (cells[i]'(by have:=h5.1;omega)) (Ac _)
   rw [Ac hi] at h6
   rw [Ba h6];exact h7
 have XU: ∀l∈pl,∃p q,s.ptr=some p/\pl= [l]/\π l=some q/\q.Cx q.g/\g=q.g/\Au st.heap l=some (.var p.1 cells)/\cells.length=p.2:= λl hl=>by
  rcases dd with ⟨_,h1,_⟩|⟨p,l',q,h1,h2,h3,h4,h5,h6,h7,_⟩
  ·rw [h1] at hl;cases hl
  ·rw [h2] at hl
   have:=Ad.1 hl
   subst this
   exact ⟨p,q,h1,h2,h3,h4,h5,h6,h7⟩
 have XP: ∀b,s.gv g b-> ∃l∈pl,∃q,π l=some q/\q.Cx b/\b=q.g:= λb ⟨h1,h2⟩=>by
  rcases dd with ⟨h3,_⟩|⟨p,l',q,_,h4,h5,h6,h7,_⟩
  ·rw [h3] at h1;cases h1
  ·exact ⟨l',by rw [h4];exact Ad.2 rfl,q,h5,by rw [h2,h7];exact h6,h2.trans h7⟩
 obtain ⟨as,has⟩: ∃as,as=cells++pU:=⟨_,rfl⟩
 obtain ⟨us,hus⟩: ∃us,us=cus++xG:=⟨_,rfl⟩
 rw [<-has] at hrc htk Acw
 rw [<-hus] at hrc Rp
 let V:=(tks.filter λt=>t.2.reads).map λt=>t.2.Xy
 have hV: ∀t∈tks,t.2.reads=true->t.2.Xy∈V:= λt ht hr=>Bi.2 ⟨t,Ch.2 ⟨ht,hr⟩,rfl⟩
 have hV': ∀l∈V,∃t∈tks,t.2.reads=true/\t.2.Xy=l:= λl hl=>by
  obtain ⟨t,h1,h2⟩:=Bi.1 hl
  exact ⟨t,(Ch.1 h1).1,(Ch.1 h1).2,h2⟩
 clear_value V
 obtain ⟨etk,πc,hT,Ace,Avv,Wy⟩:=xm h.1 (V:=V) s.ins 0 as us x tks (by omega) hrc htk hV
 have PX:=Za VG
 rw [etk] at PX
 have aB: ∀b,Ux πc b-> ∃t∈Ly 0 s.ins as,t.2.reads=false/\ ∃q,π t.2.Xy=some q/\q.Cx b/\ ∀l i j,t.2= .sub l i j->b≠q.g:= λb ⟨c,q,h1,h2⟩=>by
  obtain ⟨t,t1,_,t3⟩:=Wy c q b h1 h2
  exact ⟨t,t1,t3⟩
 have QA: ∀b,Ux πc b->Ux π b:= λb hb=>let ⟨t,_,_,q,h1,h2,_⟩:=aB b hb;⟨_,q,h1,h2⟩
 have l7:fL πc (λb=>b<w.heap.size):=⟨λl q b h1 h2=>(h.1.own (QA b ⟨l,q,h1,h2⟩)).1,λl l' q q' b h1 h2 h3 h4=>by
  obtain ⟨t,t1,t2,_,p,t3,t4,_⟩:=Wy l q b h1 h3
  obtain ⟨t',t1',t2',_,p',t3',t4',_⟩:=Wy l' q' b h2 h4
  have:=CX PX t1 t1' (h.1.apart t3 t3' t4 t4')
  rw [<-t2,<-t2',this]⟩
 have Apr: ∀k l,(Dt false k,Loc.row l)∈Ly 0 s.ins as->πc (Dt false k)=(π l).map full:= λk l ht=>
  MU s.ins 0 x as us (by omega) hT k l ht
 have Arb: ∀b,Ux πc b->Pb X π V b:= λb hb=> .inl ⟨QA b hb,λl hl r' hr hf=>by
  obtain ⟨t,t1,t0,q,t3,t4,_⟩:=aB b hb
  obtain ⟨t',t1',t2',rfl⟩:=hV' l hl
  rw [etk] at t1'
  have:=CX PX t1 t1' (h.1.apart t3 hr t4 hf)
  subst this
  rw [t0] at t2';cases t2'⟩
 let S:Nat->Prop:= λb=> ¬Ux πc b/\Pb X π V b
 have hS: ∀b,S b->b<w.heap.size/\ ¬Ux πc b:= λb hb=>⟨by
  rcases hb.2 with h1|h1
  ·exact (h.1.own h1.1).1
  ·exact Dk (h.1.sc b h1).1 h.1.below.size,hb.1⟩
 have Ahg: ∀l∈pl,∀t∈Ly 0 s.ins as,t.2.Xy≠l:= λl hl t ht e=>(XT l hl).1 (Bi.2 ⟨t,etk▸ht,e⟩)
 have hSg:s.ptr.isSome=true->S g:= λhps=>by
  obtain ⟨l,hl,q,h1,h2,h3⟩:=XP g ⟨hps,rfl⟩
  have hno: ¬Ux πc g:= λhb=>by
   obtain ⟨t,t1,_,q',t3,t4,_⟩:=aB g hb
   exact Ahg l hl t t1 (h.1.apart t3 h1 t4 h2)
  refine ⟨hno, .inl ⟨⟨l,q,h1,h2⟩,λl' Kp r' eE hf=>?_⟩⟩
  obtain ⟨t',t1',_,rfl⟩:=hV' l' Kp
  rw [etk] at t1'
  exact Ahg l hl t' t1' (h.1.apart eE h1 hf h2)
 refine (hs.calls w S πc us x r o g vs Rp hSg (fK.Iv (λb hb=>hb.elim (Arb b) λh=>h.2) s.ins 0 x us (hT.Ark s.ins 0 x as us)) l7 hS Avv hfn).mono ?_
 rintro e w' ⟨v,Rw,GK,rfl,fZ,rU,Ah1,CF,Aqk,Acu,Amt,zz⟩
 obtain ⟨ρ,Ahn,PZ,Acs,Ajq⟩: ∃ρ:Pi,(∀l,ρ l=(GK l).map full)/\Ji w' (iL S πc GK) ρ 0 s.outs r Rw/\fL ρ (λb=>b<w'.heap.size/\(w.heap.size<=b\/ ∃l q,l<Bn/\πc l=some q/\q.Cx b))/\ ∀l q,ρ l=some q->q.cl=q.Cx:=by
  have un: ∀l q,(GK l).map full=some q-> ∃q0,GK l=some q0/\q=full q0:= λl q hq=>by
   cases hp:GK l with
   |none=>rw [hp] at hq;cases hq
   |some q0=>rw [hp] at hq;exact ⟨q0,rfl,(Ba hq).symm⟩
  refine ⟨λl=>(GK l).map full,λ_=>rfl,Ji.full s.outs 0 r Rw Aqk,⟨λl q b h1 h2=>?_,λl l' q q' b h1 h2 h3 h4=>?_⟩,λl q h1=>?_⟩
  ·obtain ⟨q0,h5,rfl⟩:=un l q h1
   exact Acu.bj l q0 b h5 h2
  ·obtain ⟨q0,h5,rfl⟩:=un l q h1
   obtain ⟨q0',h6,rfl⟩:=un l' q' h2
   exact Acu.inj l l' q0 q0' b h5 h6 h3 h4
  ·obtain ⟨q0,_,rfl⟩:=un l q h1
   rfl
 refine ⟨v,rfl,?_⟩
 split at he
 ·cases he
 rename_i av0 aD
 split at he
 rotate_left
 ·cases he
 rename_i Qh
 simp only [Aa,Ae] at he
 obtain ⟨rfl,rfl⟩:=he
 let D1:Nat->Prop:=if s.flat then λ_=>True else iL S πc GK
 have Avy:Ma w' D1 πc 0 s.ins o:=by
  show Ma w' (if s.flat then λ_=>True else iL S πc GK) πc 0 s.ins o
  split
  ·rename_i hf
   unfold MSpec.flat at hf
   simp only [Af] at hf
   exact Ma.any s.ins 0 o hf.2 CF
  ·exact CF
 have Aql:Ji w' D1 ρ 0 s.outs r Rw:=by
  show Ji w' (if s.flat then λ_=>True else iL S πc GK) ρ 0 s.outs r Rw
  split
  ·rename_i hf
   unfold MSpec.flat at hf
   simp only [Af] at hf
   exact Ji.any s.outs 0 r Rw hf.1 PZ
  ·exact PZ
 obtain ⟨q1,q2,q3,q4⟩:=wv (D:=D1) (X:=X) (π:=π) (H:=st.heap) h.1 Ah1.size (tks:=Ly 0 s.ins as) (πc:=πc) (λt ht q b hq hb Iz hn=>Ah1.block b Iz λPY=>by
   rcases PY with ⟨c,r',h1,h2⟩|hg
   rotate_left
   ·obtain ⟨l,hl,q',h1,h2,_⟩:=XP b hg
    exact Ahg l hl t ht (h.1.apart hq h1 hb h2)
   obtain ⟨t',t1,t2,_,p,t3,t4,_⟩:=Wy c r' b h1 h2
   have:=CX PX ht t1 (h.1.apart hq t3 hb t4)
   subst this
   exact hn r' (t2▸h1) h2) s.ins 0 x as us o st st1 (by omega) (λ_ h=>h) PX hT Avy Acw (λ_ _=>rfl)
 have Ami: ∀t∈Ly 0 s.ins as,t.2.reads=true->t.1<Bn:=by
  have: ∀(cs:List (Bool×CK)) (k:Nat) (as:List AC),k+cs.length<100000-> ∀t∈Ly k cs as,t.2.reads=true->t.1<Bn:=by
   intro cs
   induction cs with
   |nil=>intro k as _ t ht;cases as<;>cases ht
   |cons p r ih=>
    intro k as hk t ht hr
    simp only [Aw] at hk
    cases as with
    |nil=>cases ht
    |cons a as=>
     simp only [Ly] at ht
     rcases Az.1 ht with ht|ht
     ·rcases MS ht with ⟨_,h1⟩|⟨h1,_⟩
      ·rw [hr] at h1;cases h1
      ·rw [h1];exact gF (by omega)
     ·exact ih (k+1) as (by omega) t ht hr
  exact this s.ins 0 as (by omega)
 let d:=dst.getD 0
 let ks:=Tb s tks d
 let dead:=o7 tks++ks++(if s.flat then [] else FU tks)
 let part:=whole tks
 have Awk:s.outs.length+(nC s d).length=s.Us:=by unfold MSpec.Us nC;cases s.rp<;>rfl
 obtain ⟨Am3,Aw3,Ak1⟩:ks.length=s.Us/\ks.Nodup/\ ∀l∈ks,l<Bn:=by
  have:=QR vF
  rw [Awk] at this
  exact this
 have hno:s.outs.length<=s.Us:=by unfold MSpec.Us;omega
 have hvk: ∀tid,s.rp=some tid->Dx ks s.outs.length=Qp d/\s.Us=s.outs.length+1:= λtid Yx=>by
  have h1:s.Us=s.outs.length+1:=by unfold MSpec.Us;rw [Yx]
  refine ⟨?_,h1⟩
  have h2:ks=nZ s tks d++ [Qp d]:=by show nZ s tks d++nC s d=_;unfold nC;rw [Yx]
  have h3:(nZ s tks d).length=s.outs.length:=by rw [h2] at Am3;simp at Am3;omega
  rw [Sa (by rw [Am3];omega)]
  simp only [h2]
  rw [List.getElem_append_right (by omega)]
  simp [h3]
 have Acn:=HK Aw3 Ak1
 have Aw1: ∀j,j<s.Us->Dx ks j<Bn:= λj hj=>Ak1 _ (mem_keys.2 ⟨j,by omega,rfl⟩)
 let π':Pi:= λl=>match (List.range s.Us).find? λj=>decide (Dx ks j=l) with
  |some j=>ρ (Jw j)
  |none=>if l∈dead then none else π l
 have xQ: ∀j,j<s.Us->π' (Dx ks j)=ρ (Jw j):= λj hj=>by
  show (match (List.range s.Us).find? λi=>decide (Dx ks i=Dx ks j) with|some i=>ρ (Jw i)|none=>_)=_
  cases hf:(List.range s.Us).find? λi=>decide (Dx ks i=Dx ks j) with
  |none=>
   have:=List.find?_eq_none.1 hf j (Eo.2 hj)
   simp at this
  |some i=>
   have:=List.find?_some hf
   rw [Acn i j (Gx this)]
 have vE: ∀j,j<s.Us->Dx ks j∈dead:= λj hj=>Bd _ (Bx _ (mem_keys.2 ⟨j,by omega,rfl⟩))
 have CG: ∀l,(¬ ∃j,j<s.Us/\l=Dx ks j)->π' l=if l∈dead then none else π l:= λl hl=>by
  show (match (List.range s.Us).find? λi=>decide (Dx ks i=l) with|some i=>ρ (Jw i)|none=>_)=_
  cases hf:(List.range s.Us).find? λi=>decide (Dx ks i=l) with
  |none=>rfl
  |some i=>
   have h1:=List.find?_some hf
   exact absurd ⟨i,Eo.1 (List.mem_of_find?_eq_some hf),(Gx h1).symm⟩ hl
 have Ad9: ∀l,l∉dead->π' l=π l:= λl hl=>by
  rw [CG l (λ⟨j,h1,h2⟩=>hl (h2▸vE j h1)),Ag hl]
 have hD1: ∀b,Ux π' b\/X.Sc b->D1 b:=by
  intro b hb
  show (if s.flat then λ_=>True else iL S πc GK) b
  split
  ·trivial
  rename_i hnf
  rcases hb with ⟨l,q,hl,hf⟩|hb
  ·by_cases hk: ∃j,j<s.Us/\l=Dx ks j
   ·obtain ⟨j,hj,rfl⟩:=hk
    rw [xQ j hj,Ahn] at hl
    cases hp:GK (Jw j) with
    |none=>rw [hp] at hl;cases hl
    |some q0=>rw [hp] at hl;simp only [Am,Aa] at hl;subst hl;exact .inr (.inr ⟨Jw j,q0,hp,hf⟩)
   ·have e0:π' l=if l∈dead then none else π l:=CG l hk
    rw [e0] at hl
    split at hl
    ·cases hl
    ·rename_i Ahc
     by_cases ho:Ux πc b
     ·obtain ⟨c,q',hc,hcb⟩:=ho
      obtain ⟨t,t1,t2,t0,p,t3,t4,_⟩:=Wy c q' b hc hcb
      have CH:=h.1.apart hl t3 hf t4
      refine .inr (.inl ⟨c,q',Bw λhn=>?_,hc,hcb⟩)
      exact Ahc (Bd _ (Bd _ (fh.2 ⟨t,etk▸t1,⟨by rw [t2];omega,t0⟩,CH.symm⟩)))
     ·refine .inl ⟨ho, .inl ⟨⟨l,q,hl,hf⟩,λl0 hl0 r0 hr0 hf0=>?_⟩⟩
      have:=h.1.apart hl hr0 hf hf0
      subst this
      exact Ahc (Bx _ (by rw [Ag hnf];exact w5.2 (hV' l hl0)))
  ·refine .inl ⟨λho=>?_, .inr hb⟩
   have h1:=h.1.sc b hb
   rcases (h.1.own (QA b ho)).2 with h2|h2
   ·omega
   ·exact h1.2 h2
 have hpd: ∀l∈pl,l∉dead:= λl hl hd=>by
  rcases Az.1 hd with hd|hd
  ·rcases Az.1 hd with hd|hd
   ·obtain ⟨t,ht,_,e⟩:=fh.1 hd
    exact (XT l hl).1 (Bi.2 ⟨t,ht,e⟩)
   ·exact (XT l hl).2 hd
  ·split at hd
   ·cases hd
   ·obtain ⟨t,ht,_,e⟩:=w5.1 hd
    exact (XT l hl).1 (Bi.2 ⟨t,ht,e⟩)
 have Am2: ∀j,j<s.Us->Dx ks j∉pl:= λj hj hp=>hpd _ hp (vE j hj)
 let bv:Option OB:=s.rp.map λtid=> .var tid (s.hd ((Yh (Dx ks) 0 s.outs r).drop s.Rt))
 let H1:=(tm s.ins (Yh (Dx ks) 0 s.outs r) pl (st1.dw dead part)).heap
 have hH1: ∀l,l∉pl->Au H1 l=if l∈dead then none else (Au st1.heap l).map (OB.map (Ct dead part)):= λl hl=>by
  show Au (tm _ _ _ _).heap l=_
  rw [SM hl]
  show Au (Yp (st1.heap.map λp=>(p.1,p.2.map (Ct dead part))) dead) l=_
  rw [Ny,Pg]
 let H2:=JC H1 (Qp d) bv
 have hvd: ∀tid,s.rp=some tid->Qp d∈dead/\Qp d∉pl:= λtid Yx=>by
  obtain ⟨e1,e2⟩:=hvk tid Yx
  rw [<-e1]
  exact ⟨vE _ (by omega),Am2 _ (by omega)⟩
 have Apo: ∀l,(∀tid,s.rp=some tid->l≠Qp d)->Au H2 l=Au H1 l:= λl hl=>by
  show Au (JC H1 (Qp d) (s.rp.map _)) l=_
  cases IU:s.rp with
  |none=>rfl
  |some tid=>exact Pu _ _ _ _ (hl tid IU)
 have Auw: ∀tid,s.rp=some tid->Au H2 (Qp d)=some (.var tid (s.hd ((Yh (Dx ks) 0 s.outs r).drop s.Rt))):= λtid Yx=>by
  show Au (JC H1 (Qp d) (s.rp.map _)) (Qp d)=_
  rw [Yx]
  exact Rc _ _ _ (by rw [hH1 _ (hvd tid Yx).2,Ab (hvd tid Yx).1])
 have hkv: ∀j,j<s.outs.length-> ∀tid,s.rp=some tid->Dx ks j≠Qp d:= λj hj tid Yx e=>by
  have:=Acn j s.outs.length (e.trans (hvk tid Yx).1.symm)
  omega
 have hH2: ∀l,l∉pl->(∀tid,s.rp=some tid->l≠Qp d)->Au H2 l=if l∈dead then none else (Au st1.heap l).map (OB.map (Ct dead part)):= λl hl hv=>by
  rw [Apo l hv,hH1 l hl]
 let H':=Zb (UT st (o7 tks)) (Dx ks) 0 s.outs r H2
 obtain ⟨n1,n2,n3⟩:=sr (D:=D1) (X:=X) (key:=Dx ks) Acn (fr:=UT st (o7 tks)) (ρ:=ρ) s.outs 0 r Rw H2 Aql (λj _ hj=>by
  rw [hH2 _ (Am2 j (by omega)) (hkv j (by omega)),Ab (vE j (by omega))])
 have qt: ∀l,l∉dead->l∉pl->Au H' l=(Au st1.heap l).map (OB.map (Ct dead part)):= λl hl vG=>by
  show Au (Zb _ _ _ _ _ _) l=_
  rw [n1 l λj _ hj e=>hl (e▸vE j (by omega)),hH2 l vG (λtid Yx e=>hl (e▸(hvd tid Yx).1)),Ag hl]
 have Agx: ∀l,l∈dead->(∀j,j<s.Us->l≠Dx ks j)->Au H' l=none:= λl hl hj=>by
  show Au (Zb _ _ _ _ _ _) l=_
  rw [n1 l λj _ h2=>hj j (by omega),hH2 l (λhp=>hpd l hp hl) (λtid Yx e=>hj s.outs.length (by have:=(hvk tid Yx).2;omega) (e.trans (hvk tid Yx).1.symm)),Ab hl]
 have newAt: ∀l b',Au H' l=some b'->(l∈dead\/Au st.heap l=none)-> ∃j,j<s.Us/\l=Dx ks j:=by
  intro l b' hb hd
  refine Bw λhn=>?_
  have tU: ∀j,j<s.Us->l≠Dx ks j:= λj hj e=>hn ⟨j,hj,e⟩
  rcases Classical.em (l∈dead) with hd'|hd'
  ·rw [Agx l hd' tU] at hb;cases hb
  ·rcases hd with hd|hd
   ·exact hd' hd
   ·rw [qt l hd' (λhp=>by obtain ⟨_,_,_,_,_,_,_,h1,_⟩:=XU l hp;rw [hd] at h1;cases h1)] at hb
    have:Au st1.heap l=none:=by
     by_cases hi: ∃t∈Ly 0 s.ins as,t.2.Xy=l
     ·obtain ⟨t,ht,e⟩:=hi
      by_cases Iz:t.1<Bn
      ·rw [<-e,q3 t ht Iz,e];exact hd
      ·obtain ⟨b0,_,h1,_⟩:=q4 t ht Iz
       rw [e,hd] at h1;cases h1
     ·rw [q2 l λt ht e=>hi ⟨t,ht,e.symm⟩];exact hd
    rw [this] at hb;cases hb
 have Als: ∀k,UT st (o7 tks)=true-> ∀q,ρ (Jw k)=some q->q.Cx q.g->X.w0.heap.size<=q.g:=by
  intro k IN q hq hg
  rcases (Acs.bj _ q _ hq hg).2 with h1|⟨c,p,h1,h2,h3⟩
  ·exact Jd h.1.below.size h1
  ·obtain ⟨t,t1,t2,t0,p',t3,t4,_⟩:=Wy c p _ h2 h3
   have hm:t.2.Xy∈o7 tks:=fh.2 ⟨t,etk▸t1,⟨by rw [t2];exact h1,t0⟩,rfl⟩
   have:=Bc.1 IN _ hm
   split at this
   ·rename_i fr tr e te xs hl
    unfold St.at at hl
    have hb:=(h.1.heap t.2.Xy).Qs hl
    simp only [Cm,Ke,t3] at hb
    rw [hb.1.2.1 _ t4]
    exact hb.1.2.2 this
   ·cases this
 have Alq: ∀k q,ρ (Jw k)=some q->k<s.outs.length->q.Cx q.g:=by
  intro k q hq hk
  exact Ji.Ajc s.outs 0 r Rw PZ k (Ip _) ((Bo _).symm▸hk) q hq
 have hinv: ∀l,l∉dead->(∃t∈Ly 0 s.ins as,t.2.reads=false/\t.2.Xy=l)->nQ X D1 w' π st.heap st1.heap l:=by
  rintro l hd ⟨t,ht,h0,rfl⟩
  by_cases Iz:t.1<Bn
  ·exact absurd (Bd _ (Bd _ (fh.2 ⟨t,etk▸ht,⟨Iz,h0⟩,rfl⟩))) hd
  ·exact q4 t ht Iz
 have CI: ∀l,(¬ ∃t∈Ly 0 s.ins as,t.2.reads=false/\t.2.Xy=l)->Au st1.heap l=Au st.heap l:= λl hn=>by
  by_cases hi: ∃t∈Ly 0 s.ins as,t.2.Xy=l
  ·obtain ⟨t,ht,rfl⟩:=hi
   have hr:t.2.reads=true:=by
    cases h0:t.2.reads with
    |true=>rfl
    |false=>exact absurd ⟨t,ht,h0,rfl⟩ hn
   exact q3 t ht (Ami t ht hr)
  ·exact q2 l λt ht e=>hi ⟨t,ht,e.symm⟩
 have Ajk: ∀l∈pl,∀p,s.ptr=some p->Au H' l=some (.var p.1 (iC s.ins (cells.map (Ct dead part)) (Yh (Dx ks) 0 s.outs r))):= λl hl p hp=>by
  obtain ⟨p',q,h1,h2,_,_,_,h3,_⟩:=XU l hl
  rw [hp] at h1;cases h1
  show Au (Zb _ _ _ _ _ _) l=_
  rw [n1 l λj _ hj e=>Am2 j (by omega) (e▸hl),Apo l (λtid Yx e=>(hvd tid Yx).2 (e▸hl))]
  show Au (tm _ _ _ _).heap l=_
  rw [h2]
  refine ZT ?_
  show Au (Yp (st1.heap.map λp=>(p.1,p.2.map (Ct dead part))) dead) l=_
  rw [Ny,Pg,Ag (hpd l hl),CI l (λ⟨t,ht,_,e⟩=>Ahg l hl t ht e),h3]
  rfl
 have Ak3: ∀j,j<s.Us->s.outs.length<=j-> ∃tid,s.rp=some tid/\j=s.outs.length:= λj h1 h2=>by
  cases IU:s.rp with
  |none=>unfold MSpec.Us at h1;rw [IU] at h1;simp at h1;omega
  |some tid=>exact ⟨tid,rfl,by have:=(hvk tid IU).2;omega⟩
 have hHv: ∀tid,s.rp=some tid->Au H' (Qp d)=some (.var tid (s.hd ((Yh (Dx ks) 0 s.outs r).drop s.Rt))):= λtid Yx=>by
  show Au (Zb _ _ _ _ _ _) _=_
  rw [n1 _ λj _ hj e=>hkv j (by omega) tid Yx e.symm,Auw tid Yx]
 suffices Aqc:Bk X π' (j9 st st1 d s pl tks r) a w'/\Bs X w' π' (j9 st st1 d s pl tks r).heap av0 v by
  obtain ⟨m1,m2⟩:=Aqc
  have rX: ∀(kj:List (Nat×Nat)) (l:Nat),l∈cH st.heap ks tks kj->oK st.heap l=true/\ ∃k j t,(k,j)∈kj/\t∈tks/\t=(Dt false k,Loc.row l)/\ks[j]?=some l:=by
   intro kj
   induction kj with
   |nil=>intro l hl;cases hl
   |cons p kj ih=>
    intro l hl
    obtain ⟨k,j⟩:=p
    have up:l∈cH st.heap ks tks kj->oK st.heap l=true/\ ∃k' j' t,(k',j')∈(k,j)::kj/\t∈tks/\t=(Dt false k',Loc.row l)/\ks[j']?=some l:= λhl=>by
     obtain ⟨h1,k',j',t,h2,h3⟩:=ih l hl
     exact ⟨h1,k',j',t,Ar _ h2,h3⟩
    simp only [cH] at hl
    split at hl
    ·rename_i x0 l1 l2 h1 h2
     split at hl
     ·rename_i hc
      simp only [Af] at hc
      rcases Be.1 hl with rfl|hl
      ·have:=List.find?_some h1
       have e1:=Jr this
       have e2:=Jr hc.1
       dsimp only at e1
       exact ⟨hc.2,k,j,_,Jc,List.mem_of_find?_eq_some h1,by rw [e1],by rw [h2,e2]⟩
      ·exact up hl
     ·exact up hl
    ·exact up hl
  obtain ⟨r1,r2⟩:=QN h m1 (ls:=cH st.heap ks tks s.keeps) (n:=s.Fg x) (λl hl=>by
   obtain ⟨_,k,j,t,h1,h2,h3,h4⟩:=rX s.keeps l hl
   have hj:j<ks.length:=(An.1 h4).1
   have hkj:Dx ks j=l:=by
    rw [Sa hj]
    rw [Ac hj] at h4
    exact Ba h4
   have xR:=zz (k,j) h1
   rw [show π' l=ρ (Jw j) by rw [<-hkj];exact xQ j (by omega),Ahn]
   have hc:πc (Dt false k)=(π l).map full:=Apr k l (by rw [<-h3,<-etk];exact h2)
   dsimp only at xR
   rw [hc] at xR
   cases hp:π l<;>cases hq:GK (Jw j)<;>(rw [hp,hq] at xR;exact xR)) (λl hl=>(rX s.keeps l hl).1) Qh
  exact ⟨π',r1,r2 av0 v m2⟩
 refine ⟨?_,?_⟩
 ·have hx:=Bk.Al9 (π':=π') (H':=H') (dead:=dead) (part:=part) (inv:= λl=>(∃t∈Ly 0 s.ins as,t.2.reads=false/\t.2.Xy=l)\/l∈pl) (gv:= λb=>Ux πc b\/s.gv g b) h (λb hb=>by
    rcases hb with hb|hb
    ·obtain ⟨t,h1,h0,q,h2,h3,_⟩:=aB b hb
     exact ⟨_,q, .inl ⟨t,h1,h0,rfl⟩,h2,h3⟩
    ·obtain ⟨l,hl,q,h1,h2,_⟩:=XP b hb
     exact ⟨l,q, .inr hl,h1,h2⟩) Ah1 (λl b0 hd h0=>⟨Ad9 l hd,?_⟩) (λl b' hb hd=>?_) (λl hl=>?_) (λm q hd hp hm hxa=>?_)
  ·have:({tmps:=(tm s.ins (Yh (Dx ks) 0 s.outs r) pl (st1.dw dead part)).tmps,heap:=H'} :St)= {tmps:=st.tmps.map (·.map (Ct dead part)),heap:=H'} :=by
    rw [r7]
    show ({tmps:=st1.tmps.map (·.map (Ct dead part)),heap:=H'} :St)=_
    rw [q1]
   show Bk X π' ({tmps:=(tm s.ins (Yh (Dx ks) 0 s.outs r) pl (st1.dw dead part)).tmps,heap:=H'} :St) a w'
   rw [this]
   exact hx
  ·by_cases hip:l∈pl
   ·obtain ⟨p,q,h1,h2,h3,h4,h5,h6,h7⟩:=XU l hip
    rw [h0] at h6;cases h6
    have jB:=Ajk l hip p h1
    refine .inr ⟨_,jB,⟨rfl,by rw [qQ]⟩,λm=>?_⟩
    unfold iZ at rU
    rw [h1] at rU
    obtain ⟨cs,k1,k2,k3⟩:=rU
    rw [<-h7] at k3
    refine ⟨q,h3,h4,cs.toArray,by rw [<-h5];exact k1,?_⟩
    refine Km.to (ll (H:=st.heap) Ad9 (λl1 b1 sz n hd1 CE XY=>?_) s.ins 0 cells pU x us o st st1 (Yh (Dx ks) 0 s.outs r) Rw cs (has▸hT) Aqa (has▸Acw) k3 (n3 π' hD1 (λj _ hj=>xQ j (by omega)))) (by simpa using k2)
    have hnp:l1∉pl:= λhp=>by
     obtain ⟨_,_,_,_,_,_,_,h8,_⟩:=XU l1 hp
     rw [CE] at h8;cases h8;cases XY
    by_cases hi: ∃t∈Ly 0 s.ins as,t.2.reads=false/\t.2.Xy=l1
    ·obtain ⟨b1,b',e1,e2,e3,e4,e5,e6⟩:=hinv l1 hd1 hi
     rw [CE] at e1;cases e1
     exact ⟨b',by rw [qt l1 hd1 hnp,e2];simp [e4],by rw [e5.row];exact XY⟩
    ·exact ⟨_,by rw [qt l1 hd1 hnp,CI l1 hi,CE];rfl,by rw [OB.EH];exact XY⟩
   by_cases hi: ∃t∈Ly 0 s.ins as,t.2.reads=false/\t.2.Xy=l
   ·obtain ⟨b1,b',e1,e2,e3,e4,e5,e6⟩:=hinv l hd hi
    rw [h0] at e1;cases e1
    exact .inr ⟨b',by rw [qt l hd hip,e2];simp [e4],by rw [e3];exact e5,λ_=>e6 π' H' hD1⟩
   ·exact .inl ⟨λhh=>hh.elim hi hip,by rw [qt l hd hip,CI l hi,h0];rfl⟩
  ·obtain ⟨j,hj,rfl⟩:=newAt l b' hb hd
   refine ⟨Aw1 j hj,?_,λq b hq=>?_⟩
   ·rw [xQ j hj]
    rcases Nat.lt_or_ge j s.outs.length with hjo|hjo
    ·rcases n2 j (Ip _) (by omega) with ⟨e1,_⟩|⟨b2,e1,e2⟩
     ·rw [show Au H' (Dx ks j)=none from e1] at hb;cases hb
     ·rw [show Au H' (Dx ks j)=some b2 from e1] at hb;cases hb
      exact e2 X π' H' (λhf q hq=>Als j hf q hq (Alq j q hq hjo)) hD1
    ·obtain ⟨tid,Yx,hj0⟩:=Ak3 j hj hjo
     subst hj0
     rw [(hvk tid Yx).1,hHv tid Yx] at hb;cases hb
     unfold rD at fZ
     rw [Yx] at fZ
     obtain ⟨q,y1,y2,y3,y4,_⟩:=fZ
     rw [Ahn,y1]
     exact ⟨full q,rfl,y2,_,y3,Km.to (Km.hd s (Km.take s.Rt (n3 π' hD1 (λj _ hj=>xQ j (by omega)))).2) (by simpa using y4)⟩
   ·rw [xQ j hj] at hq
    have Ox:=Ajq _ q hq
    refine ⟨λhf=>by rw [Ox];exact hf,λhf=>?_⟩
    rw [Ox] at hf
    obtain ⟨h1,h2⟩:=Acs.bj _ q b hq hf
    refine ⟨h1,h2.imp id ?_,λl2 r2 hd2 VJ hf2=>?_⟩
    ·rintro ⟨c,p,h3,h4,h5⟩
     obtain ⟨t,t1,t2,t0,p',t3,t4,_⟩:=Wy c p b h4 h5
     exact ⟨t.2.Xy,p',Bd _ (Bd _ (fh.2 ⟨t,etk▸t1,⟨by rw [t2];exact h3,t0⟩,rfl⟩)),t3,t4⟩
    ·by_cases hk: ∃j,j<s.Us/\l2=Dx ks j
     ·obtain ⟨j2,hj2,rfl⟩:=hk
      rw [xQ j2 hj2] at VJ
      rw [Ajq _ r2 VJ] at hf2
      have:=Acs.inj _ _ r2 q b VJ hq hf2 hf
      unfold Jw at this
      have:j2=j:=by omega
      rw [this]
     ·have e0:π' l2=if l2∈dead then none else π l2:=CG l2 hk
      rw [e0] at VJ
      split at VJ
      ·cases VJ
      ·rename_i Ahc
       rcases hd2 with hd2|hd2
       ·exact absurd hd2 Ahc
       ·rw [(h.1.heap l2).emp hd2] at VJ;cases VJ
  ·by_cases hk: ∃j,j<s.Us/\l=Dx ks j
   ·obtain ⟨j,hj,rfl⟩:=hk
    rw [xQ j hj]
    rcases Nat.lt_or_ge j s.outs.length with hjo|hjo
    ·rcases n2 j (Ip _) (by omega) with ⟨_,e1⟩|⟨b2,e1,_⟩
     ·exact e1
     ·rw [show Au H' (Dx ks j)=some b2 from e1] at hl;cases hl
    ·obtain ⟨tid,Yx,hj0⟩:=Ak3 j hj hjo
     subst hj0
     rw [(hvk tid Yx).1,hHv tid Yx] at hl;cases hl
   ·have e0:π' l=if l∈dead then none else π l:=CG l hk
    rw [e0]
    split
    ·rfl
    ·rename_i hd
     by_cases hip:l∈pl
     ·obtain ⟨p,_,h1,_⟩:=XU l hip
      rw [Ajk l hip p h1] at hl;cases hl
     rw [qt l hd hip] at hl
     by_cases hi: ∃t∈Ly 0 s.ins as,t.2.reads=false/\t.2.Xy=l
     ·obtain ⟨_,b',_,e2,_⟩:=hinv l hd hi
      rw [e2] at hl;cases hl
     ·rw [CI l hi] at hl
      cases h0:Au st.heap l with
      |none=>exact (h.1.heap l).emp h0
      |some b=>rw [h0] at hl;cases hl
  ·refine Ah1.block _ (h.1.lt hm).1 λPY=>?_
   rcases PY with ho|hg
   rotate_left
   ·obtain ⟨l,hl,q',h1,h2,_⟩:=XP _ hg
    have CH:=h.1.apart hm h1 (h.1.Cx hm) h2
    obtain ⟨_,_,_,_,_,_,_,h3,_⟩:=XU l hl
    obtain ⟨b,hxa,hxb⟩:=hxa
    rw [CH,h3] at hxa;cases hxa
    exact hxb rfl
   obtain ⟨t,t1,t0,p,t3,t4,t5⟩:=aB _ ho
   have CH:=h.1.apart hm t3 (h.1.Cx hm) t4
   have hpq:p=q:=by rw [<-CH,hm] at t3;exact (Ba t3).symm
   cases ht2:t.2 with
   |row l=>
    refine hp ?_
    show m∈whole tks
    unfold whole
    exact Hs.2 ⟨t,etk▸t1,by rw [ht2,CH,ht2];simp [Loc.Xy]⟩
   |sub l i j=>exact t5 l i j ht2 (by rw [hpq])
   |view l=>rw [ht2] at t0;cases t0
 ·have Aqw:=n3 π' hD1 (λj _ hj=>xQ j (by omega))
  cases IU:s.rp with
  |some tid=>
   unfold rD at fZ
   rw [IU] at fZ
   obtain ⟨q,y1,y2,y3,y4,y5⟩:=fZ
   unfold Aid at aD
   rw [IU] at aD
   have Ahh:Bs X w' π' (j9 st st1 d s pl tks r).heap (.at (.Gy (Qp d) 0)) (.pointer (some ⟨q.g,0,none⟩)):=by
    refine ⟨full q,tid,_,hHv tid IU,?_,rfl⟩
    rw [<-(hvk tid IU).1,xQ _ (by have:=(hvk tid IU).2;omega),Ahn,y1]
    rfl
   unfold uo at y5
   cases IV:s.rx with
   |none=>
    rw [IV] at aD y5
    simp only [Aa] at aD;subst aD
    subst y5
    exact Ahh
   |some n=>
    rw [IV] at aD y5
    simp only [Aa] at aD;subst aD
    obtain ⟨rfl,y6⟩:=y5
    have htl:=(Km.take n (Km.take s.Rt Aqw).2).2
    have eY:s.tl (Rw.drop s.Rt)=(Rw.drop s.Rt).drop n:=by unfold MSpec.tl;rw [IV]
    have lJ:s.tl ((Yh (Dx ks) 0 s.outs r).drop s.Rt)=((Yh (Dx ks) 0 s.outs r).drop s.Rt).drop n:=by unfold MSpec.tl;rw [IV]
    obtain ⟨_,_,g3,g4⟩:=bU s.Fu _ _ y6 (by rw [eY];exact htl)
    refine ⟨_,rfl,?_,λi p u hp hu=>?_⟩
    ·show (Value.pointer (some ⟨q.g,0,none⟩)::Ki s.Fu (s.tl (Rw.drop s.Rt))).length=((false,[AC.Gy (Qp d) 0])::Xi s.Fu (s.tl ((Yh (Dx ks) 0 s.outs r).drop s.Rt))).length
     rw [lJ,Aw,Aw,g3]
    ·rcases i with _|i
     ·simp only [Ca,Aa] at hp hu;subst hp;subst hu
      unfold di
      rw [Ag (by simp)]
      intro a' ha;simp at ha;subst ha;exact Ahh
     ·rw [Hf] at hp hu
      exact g4 i p u (by rw [<-lJ];exact hp) hu
  |none=>
  unfold rD at fZ
  rw [IU] at fZ
  obtain ⟨fZ,Aws⟩:=fZ
  unfold Aid at aD
  rw [IU] at aD
  simp only at aD
  obtain ⟨g1,g2,g3,g4⟩:=bU s.Fu _ (Rw.drop s.Rt) Aws (Km.take s.Rt Aqw).2
  unfold As6 at aD
  unfold Aen at fZ
  split at aD
  ·rename_i hm
   rw [Ab hm] at fZ
   simp only [Aa] at aD;subst aD
   subst fZ
   exact ⟨_,rfl,g3.symm,g4⟩
  ·rename_i hm
   rw [Ag hm] at fZ
   split at aD
   ·rename_i av1 hga
    simp only [Aa] at aD;subst aD
    rcases fZ with fZ|fZ
    ·exact g2 0 _ v (by rw [hga];rfl) (by rw [fZ];rfl)
    ·rw [hga,fZ] at g1;cases g1
   ·simp only [Aa] at aD;subst aD;trivial
   ·cases aD
end
end Go.Proofs.YtfgfigkbgecfnaaGreat
