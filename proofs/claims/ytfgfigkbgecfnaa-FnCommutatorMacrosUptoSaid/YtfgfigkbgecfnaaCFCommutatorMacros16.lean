/-
  Part 17 of the proof that the statement FnCommutatorMacros holds.
-/
import Derived.Test.YtfgfigkbgecfnaaCFCommutatorMacros15
namespace Go.Proofs.Ytfgfigkbgecfnaa
open Go.RowKit
section
variable {P:Program} {T:Tab} {X:Ctx} {w w':World} {π π':Pi} {H H':List (Nat×OB)}
theorem Wb (k:Nat): ¬Cp true k<Az:=by unfold Cp Az;simp
theorem bz {k:Nat} (h:k<100000):Cp false k<Az:=by unfold Cp Az;simp;omega
def gA (X:Ctx) (D:Nat->Prop) (w':World) (π:Pi) (H Hn:List (Nat×OB)) (l:Nat):Prop:=
 ∃b0 b',Ap H l=some b0/\Ap Hn l=some b'/\(∀f,OB.map f b0=b0)/\(∀f,OB.map f b'=b')/\b0.bj b'/\ ∀π' H',(∀b,Qk π' b\/X.Sc b->D b)->Bn X w' π' H' (π l) b'
theorem EE {io:Bool} {k:Nat} {τ:Ty} {a:AC} {t:Nat×Loc} (h:t∈Mx io k (.Ji τ) a):t.1=Cp false k:=by
 cases a<;>simp [Mx,views] at h<;>first|(obtain ⟨_,⟨_,_⟩,rfl⟩:=h;rfl)|(rw [h])
theorem zz {io:Bool} {k:Nat} {e:Ty} {te:TypeId} {a:AC} {t:Nat×Loc} (h:t∈Mx io k (.part e te) a):t.1=Cp io k:=by cases a<;>simp [Mx] at h<;>rw [h]
theorem EF {io:Bool} {k:Nat} {e:Ty} {te:TypeId} {a:AC} {t:Nat×Loc} (h:t∈Mx io k (.row e te) a):t.1=Cp io k:=by cases a<;>simp [Mx] at h<;>rw [h]
theorem zA {io:Bool} {k:Nat} {e:Ty} {te:TypeId} {a:AC} {t:Nat×Loc} (h:t∈Mx io k (.Fl e te) a):t.1=Cp io k:=by cases a<;>simp [Mx] at h<;>rw [h]
theorem aT {D:Nat->Prop} {π':Pi} {fr:Bool} {e:Ty} {es:List Value} {y:e.den} (hD: ∀b,Qk π' b\/X.Sc b->D b) (h:Cells w' D e es y):Cells w' (Cb X.w0.heap.size X.Sc π' (fr&&e.flat)) e es y:=by
 cases hf:e.flat with
 |true=>exact Cells.flat e es y hf h
 |false=>exact Cells.Ep (Ao _) (λ_ _ _=>rfl) (λb _ hb=>by
   rcases hb with hb|hb|⟨hb,_⟩
   ·exact hD b (.inl hb)
   ·exact hD b (.inr hb)
   ·simp at hb) e es y h
theorem zB {D P:Nat->Prop} {g o:Nat} {cur:Array Value} {tr:Bool} {e:Ty} {xs:List e.den}
  (h: ∀(i:Nat) (x:e.den),xs[i]?=some x-> ∃es:List Value,es.length=e.size/\(∀j u,es[j]?=some u->cur[(o+i)*e.size+j]?=some u)/\Cells w' D e es x) (ht:(tr&&e.flat)=true):Sh w' P g o cur e xs:=by
 simp only [Ag] at ht
 exact gX ht.2 h
theorem zh {D:Nat->Prop} (h:Kc X w π H) {k:Nat} {c:CK} {ys:c.den} {a:AC} {u:Value} {r:Option Real} {x:c.den} {cur st1:St} (hs:w.heap.size<=w'.heap.size)
  (hU: ∀l i j q b,a= .sub l i j->π l=some q->q.Bu b->b<w.heap.size->(∀r',r=some r'-> ¬r'.Bu b)->w'.heap[b]?=w.heap[b]?)
  {V:List Nat} (ht:aI w (Lm X π V) r u c x/\Pl w π H true a u r c x) (hr:bQ w' D r c ys) (he:Xv cur c ys a=some st1) (ai: ∀t∈Mx true k c a,Ap cur.heap t.2.Sa=Ap H t.2.Sa):
  st1.tmps=cur.tmps/\(∀m,(∀t∈Mx true k c a,m≠t.2.Sa)->Ap st1.heap m=Ap cur.heap m)/\ ∀t∈Mx true k c a,gA X D w' π H st1.heap t.2.Sa:=by
 obtain ⟨hc,ht⟩:=ht
 cases c with
 |Ji τ=>cases a<;>simp [Xv] at he;subst he;exact ⟨rfl,λ_ _=>rfl,λt ht=>by simp [Mx] at ht⟩
 |row e te=>
  simp only [Pl] at ht
  cases a<;>simp only [] at ht<;>first|(exact ht.elim)|skip
  ·simp only [Xv,Aa] at he;subst he
   exact ⟨rfl,λ_ _=>rfl,λt ht=>by simp [Mx] at ht⟩
  ·rename_i l off len
   obtain ⟨rfl,rfl,rfl,fr,tr,hl⟩:=ht
   have Ol:Ap cur.heap l=some (.arr fr tr e te x):=(ai _ (Ad.2 rfl)).trans hl
   simp only [Xv,St.at,Ol] at he
   split at he
   ·rename_i Ha
    obtain ⟨_,h1,_⟩:=Ha
    simp only [Aa] at he;subst he
    refine ⟨rfl,λm hm=>Cu _ _ _ _ (hm _ (Ad.2 rfl)),λt Rb=>?_⟩
    have Rb:=Ad.1 Rb
    subst Rb
    refine ⟨_,_,hl,Dj _ _ _ _ Ol,λ_=>rfl,λ_=>rfl,⟨rfl,h1.symm⟩,λπ' H' hD=>?_⟩
    have hb:=(h.heap l).Ns hl
    change Bn X w' π' H' (π l) _
    simp only [Bn,Hg] at hb⊢
    cases hp:π l with
    |none=>rw [hp] at hr;exact hr
    |some q=>
     rw [hp] at hr hb
     obtain ⟨k1,cu,ti,k2,k3,k4,k5,k6⟩:=hr
     exact ⟨⟨k1.1,k1.2,λhh=>hb.1.2.2 (by simp only [Ag] at hh;exact hh.1)⟩,cu,ti,k2,k3,k4,k5,λi y hy=>by
      obtain ⟨es,g1,g2,g3⟩:=k6 i y hy
      exact ⟨es,g1,g2,aT hD g3⟩,λht=>zB k6 ht⟩
   ·cases he
  ·rename_i l i j
   obtain ⟨⟨_,hf⟩,tid,xs,hl,hx,q,hq,Rn,QL⟩:=ht
   have Ol:Ap cur.heap l=some (.Ev (.slice e) tid xs):=(ai _ (Ad.2 rfl)).trans hl
   simp only [Xv,St.at,Ol,hx] at he
   rw [Gh trivial] at he
   ·split at he
    ·rename_i h1
     simp only [Aa] at he;subst he
     refine ⟨rfl,λm hm=>Cu _ _ _ _ (hm _ (Ad.2 rfl)),λt Rb=>?_⟩
     have Rb:=Ad.1 Rb
     subst Rb
     refine ⟨_,_,hl,Dj _ _ _ _ Ol,λ_=>rfl,λ_=>rfl,⟨rfl,by simp⟩,λπ' H' _=>?_⟩
     show Kz w' (π l) (.slice e) tid _
     rw [hq]
     refine QL w' ys hs (λb Im hb hn=>hU l i j q b rfl hq hb Im hn) ?_
     have hv:=hc.1
     rw [<-show List.length ys=List.length x from h1] at hv
     exact Oe.wW hr hf hv
    ·cases he
 |Fl e te=>
  simp only [Pl] at ht
  cases a<;>simp only [] at ht<;>first|(exact ht.elim)|skip
  ·simp only [Xv,Aa] at he;subst he
   exact ⟨rfl,λ_ _=>rfl,λt ht=>by simp [Mx] at ht⟩
  ·rename_i l off len
   obtain ⟨rfl,rfl,rfl,hl⟩:=ht
   have Ol:Ap cur.heap l=some (.Ev e te x):=(ai _ (Ad.2 rfl)).trans hl
   simp only [Xv,St.at,Ol] at he
   split at he
   ·rename_i Ha
    obtain ⟨_,h1,_⟩:=Ha
    simp only [Aa] at he;subst he
    refine ⟨rfl,λm hm=>Cu _ _ _ _ (hm _ (Ad.2 rfl)),λt Rb=>?_⟩
    have Rb:=Ad.1 Rb
    subst Rb
    refine ⟨_,_,hl,Dj _ _ _ _ Ol,λ_=>rfl,λ_=>rfl,⟨rfl,h1.symm⟩,λπ' H' _=>?_⟩
    show Kz w' (π l) e te _
    cases hp:π l with
    |none=>rw [hp] at hr;exact hr
    |some q=>rw [hp] at hr;exact hr
   ·cases he
  ·rename_i l i j
   obtain ⟨_,tid,xs,hl,hx,q,hq,Rn,QL⟩:=ht
   have Ol:Ap cur.heap l=some (.Ev (.slice e) tid xs):=(ai _ (Ad.2 rfl)).trans hl
   simp only [Xv,St.at,Ol,hx] at he
   rw [Gh trivial] at he
   ·split at he
    ·rename_i h1
     simp only [Aa] at he;subst he
     refine ⟨rfl,λm hm=>Cu _ _ _ _ (hm _ (Ad.2 rfl)),λt Rb=>?_⟩
     have Rb:=Ad.1 Rb
     subst Rb
     refine ⟨_,_,hl,Dj _ _ _ _ Ol,λ_=>rfl,λ_=>rfl,⟨rfl,by simp⟩,λπ' H' _=>?_⟩
     show Kz w' (π l) (.slice e) tid _
     rw [hq]
     refine QL w' ys hs (λb Im hb hn=>hU l i j q b rfl hq hb Im hn) ?_
     have hv:=hc.1
     rw [<-show List.length ys=List.length x from h1] at hv
     exact Kz.wW (te:=te) hr hv
    ·cases he
 |part e te=>cases a<;>simp [Xv] at he<;>first|(simp only [Pl] at ht;exact ht.2.elim)
 |Bc e te kp=>exact absurd ht.1 (by simp)
theorem zi {D:Nat->Prop} (h:Kc X w π H) {k:Nat} {e:Ty} {te:TypeId} {ys:List e.den} {a:AC} {u:Value} {r:Option Real} {x:(CK.part e te).den} {cur st1:St}
  {V:List Nat} (ht:aI w (Lm X π V) r u (.part e te) x/\Pl w π H true a u r (.part e te) x) (hr:bQ w' D r (.row e te) ys) (he:wy cur e ys a=some st1) (ai: ∀t∈Mx true k (.part e te) a,Ap cur.heap t.2.Sa=Ap H t.2.Sa):
  st1.tmps=cur.tmps/\(∀m,(∀t∈Mx true k (.part e te) a,m≠t.2.Sa)->Ap st1.heap m=Ap cur.heap m)/\ ∀t∈Mx true k (.part e te) a,gA X D w' π H st1.heap t.2.Sa:=by
 obtain ⟨hc,hf,ht⟩:=ht
 cases a<;>simp only [] at ht<;>first|(exact ht.elim)|skip
 rename_i l off len
 obtain ⟨rfl,_,fr,tr,hl⟩:=ht
 have Ol:Ap cur.heap l=some (.arr fr tr e te x.1):=(ai _ (Ad.2 rfl)).trans hl
 simp only [wy,St.at,Ol] at he
 split at he
 ·rename_i Ha
  obtain ⟨_,h1⟩:=Ha
  simp only [Aa] at he;subst he
  refine ⟨rfl,λm hm=>Cu _ _ _ _ (hm _ (Ad.2 rfl)),λt Rb=>?_⟩
  have Rb:=Ad.1 Rb
  subst Rb
  refine ⟨_,_,hl,Dj _ _ _ _ Ol,λ_=>rfl,λ_=>rfl,⟨rfl,h1.symm⟩,λπ' H' _=>?_⟩
  have hb:=(h.heap l).Ns hl
  change Bn X w' π' H' (π l) _
  simp only [Bn,Hg] at hb⊢
  cases hp:π l with
  |none=>rw [hp] at hr;exact hr
  |some q=>
   rw [hp] at hr hb
   obtain ⟨k1,cu,ti,k2,k3,k4,k5,k6⟩:=hr
   exact ⟨⟨k1.1,k1.2,hb.1.2.2⟩,cu,ti,k2,k3,k4,k5,λi y hy=>by
    obtain ⟨es,g1,g2,g3⟩:=k6 i y hy
    exact ⟨es,g1,g2,Cells.flat e es y hf g3⟩,λ_=>gX hf k6⟩
 ·cases he
def kZ (X:Ctx) (D:Nat->Prop) (w':World) (π:Pi) (H:List (Nat×OB)) (tk:List (Nat×Loc)) (cur st1:St):Prop:=
 st1.tmps=cur.tmps/\(∀m,(∀t∈tk,m≠t.2.Sa)->Ap st1.heap m=Ap cur.heap m)/\(∀t∈tk,t.1<Az->Ap st1.heap t.2.Sa=Ap cur.heap t.2.Sa)/\(∀t∈tk,¬t.1<Az->gA X D w' π H st1.heap t.2.Sa)
theorem mO {D:Nat->Prop} (h:Kc X w π H) {V:List Nat} {πc:Pi} {tks:List (Nat×Loc)} (hs:w.heap.size<=w'.heap.size)
  (hU: ∀t∈tks,∀q b,π t.2.Sa=some q->q.Bu b->b<w.heap.size->(∀r',πc t.1=some r'-> ¬r'.Bu b)->w'.heap[b]?=w.heap[b]?):
  ∀(cs:List (Bool×CK)) (k:Nat) (x:Ins.den cs) (as:List AC) (us:List Value) (o:IOs.den cs) (cur st1:St),k+cs.length<100000->(∀t∈Iz k cs as,t∈tks)->((Iz k cs as).map λt=>t.2.Sa).Nodup->
   kI X w π V H πc k cs x as us->Jc w' D πc k cs o->Ft cs o as cur=some st1->(∀t∈Iz k cs as,Ap cur.heap t.2.Sa=Ap H t.2.Sa)->
   kZ X D w' π H (Iz k cs as) cur st1
 | [],k,x,as,us,o,cur,st1,_,_,_,_,_,he,_=>by
  simp only [Ft,Aa] at he;subst he
  have e0:Iz k [] as= []:=by cases as<;>rfl
  exact ⟨rfl,λ_ _=>rfl,by rw [e0];simp,by rw [e0];simp⟩
 |p::r,k,x,[],us,o,cur,st1,_,_,_,ht,_,_,_=>ht.elim
 |p::r,k,x,a::as,[],o,cur,st1,_,_,_,ht,_,_,_=>ht.elim
 |(io,c)::r,k,x,a::as,u::us,o,cur,st1,hk,dm,tj,ht,ho,he,ai=>by
  simp only [Bf] at hk
  simp only [Iz] at dm tj ai⊢
  rw [Vw] at tj
  obtain ⟨n1,n2,n3⟩:=Cz.1 tj
  have apart: ∀t∈Mx io k c a,∀t'∈Iz (k+1) r as,t'.2.Sa≠t.2.Sa:= λt h1 t' h2 e=>n3 _ (Bq.2 ⟨t,h1,rfl⟩) _ (Bq.2 ⟨t',h2,rfl⟩) e.symm
  have rest: ∀(Ut:St) (o':IOs.den r),Jc w' D πc (k+1) r o'->Ft r o' as Ut=some st1->Ut.tmps=cur.tmps->(∀m,(∀t∈Mx io k c a,m≠t.2.Sa)->Ap Ut.heap m=Ap cur.heap m)->
    (∀t∈Mx io k c a,t.1<Az->Ap Ut.heap t.2.Sa=Ap cur.heap t.2.Sa)->(∀t∈Mx io k c a,¬t.1<Az->gA X D w' π H Ut.heap t.2.Sa)->
    kZ X D w' π H (Mx io k c a++Iz (k+1) r as) cur st1:=by
   intro Ut o' h1 h2 h3 h4 h5 h6
   obtain ⟨g1,g2,g3,g4⟩:=mO h hs hU r (k+1) x.2 as us o' Ut st1 (by omega) (λt ht=>dm t (Bp _ ht)) n2 ht.2 h1 h2 (λt Rb=>by
    rw [h4 _ λt0 XI=>apart t0 XI t Rb];exact ai t (Bp _ Rb))
   have hd: ∀t∈Mx io k c a,Ap st1.heap t.2.Sa=Ap Ut.heap t.2.Sa:= λt Rb=>g2 _ λt' JF=>(apart t Rb t' JF).symm
   refine ⟨g1.trans h3,λm hm=>?_,λt Rb Im=>?_,λt Rb Im=>?_⟩
   ·rw [g2 m λt ht=>hm t (Bp _ ht),h4 m λt ht=>hm t (Bg _ ht)]
   ·rcases Av.1 Rb with Rb|Rb
    ·rw [hd t Rb,h5 t Rb Im]
    ·rw [g3 t Rb Im,h4 _ λt0 XI=>apart t0 XI t Rb]
   ·rcases Av.1 Rb with Rb|Rb
    ·obtain ⟨b0,b',q1,q2,q3⟩:=h6 t Rb Im
     exact ⟨b0,b',q1,(hd t Rb).trans q2,q3⟩
    ·exact g4 t Rb Im
  have same: ∀o',Jc w' D πc (k+1) r o'->Ft r o' as cur=some st1->(∀t∈Mx io k c a,t.1<Az)->kZ X D w' π H (Mx io k c a++Iz (k+1) r as) cur st1:= λo' h1 h2 h3=>rest cur o' h1 h2 rfl (λ_ _=>rfl) (λ_ _ _=>rfl) (λt h4 h5=>absurd (h3 t h4) h5)
  cases io with
  |false=>
   have h3: ∀t∈Mx false k c a,t.1<Az:= λt h4=>by rcases uD h4 with ⟨h5,_⟩|⟨h5,_⟩<;>(rw [h5];exact bz (by omega))
   cases c with
   |Ji τ=>exact same o ho (by simpa only [Ft] using he) h3
   |row e te=>exact same o ho (by simpa only [Ft] using he) h3
   |Fl e te=>exact same o ho (by simpa only [Ft] using he) h3
   |part e te=>exact same o ho (by simpa only [Ft] using he) h3
   |Bc e te kp=>exact same o ho (by simpa only [Ft] using he) h3
  |true=>
   have row: ∀(ys:c.den) (o':IOs.den r),(∀t∈Mx true k c a,t.1=Cp true k)->bQ w' D (πc (Cp true k)) c ys->Jc w' D πc (k+1) r o'->(∃Ut,Xv cur c ys a=some Ut/\Ft r o' as Ut=some st1)->kZ X D w' π H (Mx true k c a++Iz (k+1) r as) cur st1:=by
    intro ys o' h0 h1 h2 h3
    obtain ⟨Ut,hp,h3⟩:=h3
    ·obtain ⟨q1,q2,q3⟩:=zh (k:=k) h hs (λl i j q b ea hq hb Im hn=>by
      cases c with
      |Ji τ=>exact absurd (ht.1.2:πc _=none) (by subst ea;simp [Xv] at hp)
      |row e te=>subst ea;exact hU (Cp true k, .sub l i j) (dm _ (Bg _ (Ad.2 rfl))) q b hq hb Im hn
      |Fl e te=>subst ea;exact hU (Cp true k, .sub l i j) (dm _ (Bg _ (Ad.2 rfl))) q b hq hb Im hn
      |Bc e te kp=>exact absurd ht.1.2.1 (by simp)
      |part e te=>exact absurd ht.1.2.2 (by subst ea;exact λh=>h)) ht.1 h1 hp (λt Rb=>ai t (Bg _ Rb))
     exact rest Ut o' h2 h3 q1 q2 (λt h4 h5=>absurd h5 (by rw [h0 t h4];exact Wb k)) (λt h4 _=>q3 t h4)
   cases c with
   |Ji τ=>exact same o ho (by simpa only [Ft] using he) (λt h4=>by rw [EE h4];exact bz (by omega))
   |Bc e te kp=>exact absurd ht.1.2.1 (by simp)
   |row e te=>
    simp only [Ft] at he
    split at he
    ·rename_i Ut hp;exact row o.1 o.2 (λt ht=>EF ht) ho.1 ho.2 ⟨Ut,hp,he⟩
    ·cases he
   |Fl e te=>
    simp only [Ft] at he
    split at he
    ·rename_i Ut hp;exact row o.1 o.2 (λt ht=>zA ht) ho.1 ho.2 ⟨Ut,hp,he⟩
    ·cases he
   |part e te=>
    simp only [Ft] at he
    split at he
    ·rename_i Ut hp
     obtain ⟨q1,q2,q3⟩:=zi (k:=k) h ht.1 ho.1 hp (λt Rb=>ai t (Bg _ Rb))
     exact rest Ut o.2 ho.2 he q1 q2 (λt h4 h5=>absurd h5 (by rw [zz h4];exact Wb k)) (λt h4 _=>q3 t h4)
    ·cases he
theorem w9 {fr:Bool} {c:CK} {x:c.den} {u:Value} {r:Option Real} {D:Nat->Prop} (h:aI w' D r u c x):
  (nY fr c x=none/\r=none)\/ ∃b',nY fr c x=some b'/\ ∀(X:Ctx) π' H',(fr=true-> ∀q,r=some q->X.w0.heap.size<=q.g)->(∀b,Qk π' b\/X.Sc b->D b)->Bn X w' π' H' r b':=by
 cases c with
 |Ji τ=>exact .inl ⟨rfl,h.1⟩
 |row e te=>
  refine .inr ⟨_,rfl,λX π' H' tf hD=>?_⟩
  obtain ⟨_,h⟩:=h
  simp only [bQ] at h
  simp only [Bn,Hg]
  cases r with
  |none=>exact h
  |some q=>
   obtain ⟨k1,cu,ti,k2,k3,k4,k5,k6⟩:=h
   exact ⟨⟨k1.1,k1.2,λh1=>tf (by simp only [Ag] at h1;exact h1.1) q rfl⟩,cu,ti,k2,k3,k4,k5,λi y hy=>by
    obtain ⟨es,g1,g2,g3⟩:=k6 i y hy
    exact ⟨es,g1,g2,aT hD g3⟩,λh=>by cases h⟩
 |Fl e te=>exact .inr ⟨_,rfl,λX π' H' _ _=>h.2⟩
 |Bc e te kp=>exact .inr ⟨_,rfl,λX π' H' _ hD=>⟨Uy.Gj h.2 λb hb=>hD b (hb.imp id λh=>h.elim id λh=>by cases h.1),trivial⟩⟩
 |part e te=>
  refine .inr ⟨_,rfl,λX π' H' tf hD=>?_⟩
  obtain ⟨_,hf,h⟩:=h
  simp only [Bn,Hg]
  cases r with
  |none=>exact h
  |some q=>
   obtain ⟨k1,cu,ti,k2,k3,k4,k5,k6⟩:=h
   exact ⟨⟨k1.1,k1.2,λh1=>tf (by simp only [Ag] at h1;exact h1.1) q rfl⟩,cu,ti,k2,k3,k4,k5,λi y hy=>by
    obtain ⟨es,g1,g2,g3⟩:=k6 i y hy
    exact ⟨es,g1,g2,aT hD g3⟩,λh=>by cases h⟩
theorem kr {D:Nat->Prop} {key:Nat->Nat} (BJ: ∀i j,key i=key j->i=j) {fr:Bool} {ρ:Pi} : ∀(cs:List CK) (k:Nat) (x:CKs.den cs) (us:List Value) (H:List (Nat×OB)),Gk w' D ρ k cs x us->
  (∀j,k<=j->j<k+cs.length->Ap H (key j)=none)->
  (∀l,(∀j,k<=j->j<k+cs.length->l≠key j)->Ap (Sz fr key k cs x H) l=Ap H l)/\
  (∀j,k<=j->j<k+cs.length->(Ap (Sz fr key k cs x H) (key j)=none/\ρ (Hb j)=none)\/
   ∃b',Ap (Sz fr key k cs x H) (key j)=some b'/\ ∀(X:Ctx) π' H',(fr=true-> ∀q,ρ (Hb j)=some q->X.w0.heap.size<=q.g)->(∀b,Qk π' b\/X.Sc b->D b)->Bn X w' π' H' (ρ (Hb j)) b')/\
  (∀π',(∀b,Qk π' b\/X.Sc b->D b)->(∀j,k<=j->j<k+cs.length->π' (key j)=ρ (Hb j))->Kd X w' π' (Sz fr key k cs x H) (Xe key k cs x) us)
 | [],k,x,[],H,_,_=>⟨λ_ _=>rfl,λj h1 h2=>by simp at h2;omega,λ_ _ _=>trivial⟩
 | [],_,_,_::_,_,h,_=>h.elim
 |_::_,_,_,[],_,h,_=>h.elim
 |c::r,k,x,u::us,H,h,hn=>by
  simp only [Bf] at hn⊢
  simp only [Sz,Xe]
  have qx:=hn k (Ao _) (by omega)
  have NG: ∀l,l≠key k->Ap (tv H (key k) (nY fr c x.1)) l=Ap H l:=by
   intro l hl
   cases nY fr c x.1 with
   |some b=>exact Md _ _ _ _ hl
   |none=>rfl
  have OP:Ap (tv H (key k) (nY fr c x.1)) (key k)=nY fr c x.1:=by
   cases nY fr c x.1 with
   |some b=>exact Mz _ _ _ qx
   |none=>exact qx
  generalize (tv H (key k) (nY fr c x.1))=H1 at NG OP⊢
  obtain ⟨g1,g2,g3⟩:=kr BJ (fr:=fr) r (k+1) x.2 us H1 h.2 (λj h1 h2=>by
   rw [NG _ λe=>by have:=BJ _ _ e;omega];exact hn j (by omega) (by omega))
  have TE:Ap (Sz fr key (k+1) r x.2 H1) (key k)=nY fr c x.1:=by
   rw [g1 _ λj h1 h2 e=>by have:=BJ _ _ e;omega];exact OP
  refine ⟨λl hl=>?_,λj h1 h2=>?_,λπ' hd JH=>⟨?_,?_⟩⟩
  ·rw [g1 l λj h1 h2=>hl j (by omega) (by omega)]
   exact NG l (hl k (Ao _) (by omega))
  ·rcases Nat.eq_or_lt_of_le h1 with e|h1
   ·subst e
    rw [TE]
    exact w9 h.1
   ·exact g2 j h1 (by omega)
  ·have h1:=h.1
   have NS:=JH k (Ao _) (by omega)
   cases c with
   |Ji τ=>
    obtain ⟨cX,c1,c2⟩:=h1.2
    exact ⟨cX,by have:=aT (fr:=true) hd c1;simpa using this,c2⟩
   |row e te=>exact ⟨_,e.size,List.length x.1,TE,rfl,by simp,by rw [NS];exact h1.1⟩
   |Fl e te=>exact ⟨_,e.size,List.length x.1,TE,rfl,by simp,by rw [NS];exact h1.1⟩
   |Bc e te kp=>exact ⟨_,1,List.length x.1,TE,rfl,by simp,by rw [NS];exact h1.1⟩
   |part e te=>trivial
  ·exact g3 π' hd λj h1 h2=>JH j (by omega) (by omega)
theorem vZ {ks:List Nat} {n:Nat} (h:qN ks n=true):ks.length=n/\ks.Nodup/\ ∀l∈ks,l<Az:=by
 unfold qN at h
 simp only [Ag] at h
 refine ⟨Gy h.1,Sy h.2.1,λl hl=>?_⟩
 have:=Au.1 h.2.2 l hl
 simpa using this
theorem Nt {ks:List Nat} {j:Nat} (h:j<ks.length):Cw ks j=ks[j]:=by
 unfold Cw
 rw [Ac h]
theorem sK {ks:List Nat} (hn:ks.Nodup) (hl: ∀l∈ks,l<Az): ∀i j,Cw ks i=Cw ks j->i=j:=by
 intro i j h
 by_cases hi:i<ks.length
 ·by_cases hj:j<ks.length
  ·rw [Nt hi,Nt hj] at h
   rcases Nat.lt_trichotomy i j with Im|he|Im
   ·exact absurd h (Fa.1 hn i j hi hj Im)
   ·exact he
   ·exact absurd h.symm (Fa.1 hn j i hj hi Im)
  ·have h1:=hl _ (Ar hi)
   rw [Nt hi] at h
   unfold Cw at h
   rw [Ee (by omega)] at h
   simp only at h
   omega
 ·by_cases hj:j<ks.length
  ·have h1:=hl _ (Ar hj)
   rw [Nt hj] at h
   unfold Cw at h
   rw [Ee (by omega)] at h
   simp only at h
   omega
  ·unfold Cw at h
   rw [Ee (by omega),Ee (by omega)] at h
   simp only at h
   omega
theorem Ks: ∀(H:List (Nat×OB)) (dead:List Nat) (l:Nat),Ap (Sl H dead) l=if l∈dead then none else Ap H l
 | [],dead,l=>by simp [Sl,Ap]
 |(k,b)::r,dead,l=>by
  simp only [Sl]
  have ih:=Ks r dead l
  by_cases hk:k∈dead
  ·rw [Af (by simpa using hk),ih]
   split
   ·rfl
   ·rename_i hl
    simp only [Ap]
    rw [Aj (λ(e:k=l)=>hl (e▸hk))]
  ·rw [Aj (by simpa using hk)]
   simp only [Ap]
   split
   ·rename_i e;subst e;rw [Aj hk]
   ·exact ih
theorem mem_keys {ks:List Nat} {l:Nat} :l∈ks↔ ∃k,k<ks.length/\l=Cw ks k:=
 ⟨λh=>by obtain ⟨k,hk,e⟩:=Ko h;exact ⟨k,hk,by rw [Nt hk,e]⟩,λ⟨k,hk,e⟩=>by rw [e,Nt hk];exact Ar hk⟩
theorem aw {tks:List (Nat×Loc)} {l:Nat} :l∈gL tks↔ ∃t∈tks,(t.1<Az/\t.2.reads=false)/\t.2.Sa=l:=by
 unfold gL
 simp only [Bq,Bk,Ag,Ki,Ds]
 exact ⟨λ⟨t,⟨h1,h2⟩,h3⟩=>⟨t,h1,h2,h3⟩,λ⟨t,h1,h2,h3⟩=>⟨t,⟨h1,h2⟩,h3⟩⟩
theorem qO {tks:List (Nat×Loc)} (h:(tks.map λt=>t.2.Sa).Nodup) {t t':Nat×Loc} (ht:t∈tks) (JF:t'∈tks) (he:t.2.Sa=t'.2.Sa):t=t':=by
 induction tks with
 |nil=>cases ht
 |cons a r ih=>
  simp only [Bl] at h
  obtain ⟨h1,h2⟩:=Bw.1 h
  rcases Ay.1 ht with rfl|ht<;>rcases Ay.1 JF with rfl|JF
  ·rfl
  ·exact (h1 (Bq.2 ⟨t',JF,he.symm⟩)).elim
  ·exact (h1 (he▸Bq.2 ⟨t,‹t∈r›,rfl⟩)).elim
  ·exact ih h2 ht JF
theorem Gk.full {D:Nat->Prop} {ρ:Pi} : ∀(cs:List CK) (k:Nat) (x:CKs.den cs) (us:List Value),Gk w D ρ k cs x us->Gk w D (λl=>(ρ l).map full) k cs x us
 | [],_,_,[],h=>h
 | [],_,_,_::_,h=>h.elim
 |_::_,_,_,[],h=>h.elim
 |c::r,k,x,u::us,h=>⟨by
   have h1:=h.1
   show aI w D ((ρ (Hb k)).map _) u c x.1
   cases c with
   |Ji τ=>rw [h1.1];exact ⟨rfl,h1.2⟩
   |row e te=>cases hp:ρ (Hb k)<;>(rw [hp] at h1;exact h1)
   |Fl e te=>cases hp:ρ (Hb k)<;>(rw [hp] at h1;exact h1)
   |Bc e te kp=>cases hp:ρ (Hb k)<;>(rw [hp] at h1;exact h1)
   |part e te=>cases hp:ρ (Hb k)<;>(rw [hp] at h1;exact h1),Gk.full r (k+1) x.2 us h.2⟩
theorem Gk.HW {D:Nat->Prop} {ρ:Pi} : ∀(cs:List CK) (k0:Nat) (x:CKs.den cs) (us:List Value),Gk w D ρ k0 cs x us-> ∀j,k0<=j->j<k0+cs.length-> ∀q,ρ (Hb j)=some q->q.Bu q.g
 | [],k0,_,_,_,j,h1,h2,_,_=>by simp at h2;omega
 |_::_,_,_,[],h,_,_,_,_,_=>h.elim
 |c::r,k0,x,u::us,ho,j,h1,h2,q,hq=>by
  rcases Nat.eq_or_lt_of_le h1 with e|h1
  ·subst e
   have:=ho.1
   cases c with
   |Ji τ=>rw [hq] at this;cases this.1
   |row e te=>rw [hq] at this;exact this.2.1.1
   |Fl e te=>rw [hq] at this;exact this.2.1
   |part e te=>rw [hq] at this;exact this.2.2.1.1
   |Bc e te kp=>rw [hq] at this;exact this.2.1
  ·exact Gk.HW r (k0+1) x.2 us ho.2 j h1 (by simp at h2;omega) q hq
theorem Oe.any {D D':Nat->Prop} {r:Option Real} {e:Ty} {xs:List e.den} (hf:e.flat=true) (h:Oe w D r e xs):Oe w D' r e xs:=by
 cases r with
 |none=>exact h
 |some r=>
  obtain ⟨k1,cu,ti,k2,k3,k4,k5,k6⟩:=h
  exact ⟨k1,cu,ti,k2,k3,k4,k5,λi y hy=>by
   obtain ⟨es,g1,g2,g3⟩:=k6 i y hy
   exact ⟨es,g1,g2,Cells.flat e es y hf g3⟩⟩
theorem Gk.any {D D':Nat->Prop} {ρ:Pi} : ∀(cs:List CK) (k:Nat) (x:CKs.den cs) (us:List Value),cs.all (·.flat)=true->Gk w D ρ k cs x us->Gk w D' ρ k cs x us
 | [],_,_,[],_,h=>h
 | [],_,_,_::_,_,h=>h.elim
 |_::_,_,_,[],_,h=>h.elim
 |c::r,k,x,u::us,hf,h=>by
  simp only [Gu,Ag] at hf
  refine ⟨?_,Gk.any r (k+1) x.2 us hf.2 h.2⟩
  have h1:=h.1
  cases c with
  |Ji τ=>exact ⟨h1.1,Ck.flat hf.1 h1.2⟩
  |row e te=>exact ⟨h1.1,Oe.any hf.1 h1.2⟩
  |Fl e te=>exact h1
  |part e te=>exact ⟨h1.1,h1.2.1,Oe.any hf.1 h1.2.2⟩
  |Bc e te kp=>exact absurd hf.1 (by simp [CK.flat])
theorem Jc.any {D D':Nat->Prop} {π:Pi} : ∀(cs:List (Bool×CK)) (k:Nat) (x:IOs.den cs),(cs.all λp=>!p.1||p.2.flat)=true->Jc w D π k cs x->Jc w D' π k cs x
 | [],_,_,_,h=>h
 |(false,_)::r,k,x,hf,h=>Jc.any r (k+1) x (by simp only [Gu,Ag] at hf;exact hf.2) h
 |(true, .Ji _)::r,k,x,hf,h=>Jc.any r (k+1) x (by simp only [Gu,Ag] at hf;exact hf.2) h
 |(true, .Bc _ _ _)::r,k,x,hf,h=>Jc.any r (k+1) x (by simp only [Gu,Ag] at hf;exact hf.2) h
 |(true, .row e te)::r,k,x,hf,h=>by
  simp only [Gu,Ag,Bool.not_true,Wj] at hf
  exact ⟨Oe.any hf.1 h.1,Jc.any r (k+1) x.2 hf.2 h.2⟩
 |(true, .Fl e te)::r,k,x,hf,h=>by
  simp only [Gu,Ag,Bool.not_true,Wj] at hf
  exact ⟨h.1,Jc.any r (k+1) x.2 hf.2 h.2⟩
 |(true, .part e te)::r,k,x,hf,h=>by
  simp only [Gu,Ag,Bool.not_true,Wj] at hf
  exact ⟨Oe.any hf.1 h.1,Jc.any r (k+1) x.2 hf.2 h.2⟩
theorem mB {tks:List (Nat×Loc)} {l:Nat} :l∈sf tks↔ ∃t∈tks,t.2.reads=true/\t.2.Sa=l:=by
 unfold sf
 simp only [Bq,Bk]
 exact ⟨λ⟨t,⟨h1,h2⟩,h3⟩=>⟨t,h1,h2,h3⟩,λ⟨t,h1,h2,h3⟩=>⟨t,⟨h1,h2⟩,h3⟩⟩
theorem Ax.iD {st:St} {a:Act} (h:Ax X π st a w) {f:AC->AC} (hu:f .undef= .undef) {gv:Nat->Prop} (yx: ∀b,gv b->Qk π b) (hb:Gw w.heap.size gv w w')
  (al: ∀b,b<w.heap.size->Qk π' b->Qk π b)
  (dm: ∀l r b,π' l=some r->r.Bu b->r.cl b) (LI: ∀l r b,π' l=some r->r.cl b->(X.w0.heap.size<=b\/X.gv b)/\b<w'.heap.size)
  (KU: ∀l l' r r' b,π' l=some r->π' l'=some r'->r.cl b->r'.cl b->l=l')
  (bb: ∀l,Az<=l->Ap H' l≠none->Wl (X.cD l) (π' l))
  (SO:(∀fr τ cs x,Cells w (Cb X.w0.heap.size X.Sc π fr) τ cs x->Cells w' (Cb X.w0.heap.size X.Sc π' fr) τ cs x)-> ∀c v,Fe X w π st.heap c v->Fe X w' π' H' (f c) v)
  (qu:Move X w w' π π' st.heap H' f-> ∀l b,Ap H' l=some b->Bn X w' π' H' (π' l) b)
  (xB: ∀l,Ap H' l=none->π' l=none):
  Ax X π' {tmps:=st.tmps.map (·.map f),heap:=H'} a w':=by
 have hc: ∀fr τ cs x,Cells w (Cb X.w0.heap.size X.Sc π fr) τ cs x->Cells w' (Cb X.w0.heap.size X.Sc π' fr) τ cs x:= λfr τ cs x hh=>
  Cells.Ep hb.size (λk hk hn=>hb.block k hk λhg=>hn (.inl (yx k hg))) (λk Im hA=>hA.imp (al k Im) id) τ cs x hh
 have m:Move X w w' π π' st.heap H' f:=⟨SO hc,hc⟩
 refine ⟨⟨⟨hb.os.trans h.1.below.os,hb.tape.trans h.1.below.tape,hb.output.trans h.1.below.output,Kj h.1.below.size hb.size,λk hk hn=>?_⟩,h.1.sc,dm,LI,KU,bb,λl=>?_⟩,m.wB hu h.2⟩
 ·refine (hb.block k (Cy hk h.1.below.size) λhg=>?_).trans (h.1.below.block k hk hn)
  rcases (h.1.own (yx k hg)).2 with h1|h1
  ·omega
  ·exact hn h1
 ·cases hh:Ap H' l with
  |none=>exact Ei.Pz (xB l hh) hh
  |some b=>exact Ei.Ix (qu m l b hh) hh
def bR:Option Real->Option Real->Prop
 |none,none=>True
 |some r,some r'=>r.g=r'.g/\r.o=r'.o/\r.cap=r'.cap
 |_,_=>False
theorem bR.rfl' (r:Option Real):bR r r:=by cases r<;>simp [bR]
theorem bR.some {r:Real} {r':Option Real} (h:bR (some r) r'): ∃q,r'=some q/\r.g=q.g/\r.o=q.o/\r.cap=q.cap:=by
 cases r' with
 |none=>exact h.elim
 |some q=>exact ⟨q,rfl,h⟩
theorem bR.own {r r':Option Real} (h:bR r r') {sz off len:Nat} {v:Value} (hv:Fm r sz off len v):Fm r' sz off len v:=by
 cases r<;>cases r'<;>first|exact h.elim|skip
 ·exact hv
 ·obtain ⟨h1,h2,h3⟩:=h
  obtain ⟨ad,g1,g2,g3⟩:=hv
  exact ⟨ad,by rw [<-h3];exact g1,by rw [<-h3];exact g2,by rw [<-h1,<-h2,<-h3];exact g3⟩
structure OB.Pe (b b':OB):Prop where
 row: ∀sz n,b.row=some (sz,n)-> ∃n',b'.row=some (sz,n')/\n<=n'
 c6: ∀p,b.c6=some p->b'.c6=some p
 nP: ∀p,b.nP=some p->b'.nP=some p
 var: ∀tid vs,b= .var tid vs-> ∃Qj vs',b'= .var Qj vs'
 Qy: ∀v m,b= .Qy v m-> ∃m',b'= .Qy v m'
theorem OB.Pe.map (f:AC->AC) (b:OB):b.Pe (b.map f) where
 row:= λsz n h=>⟨n,by cases b<;>exact h,Ao _⟩
 c6:= λp h=>by cases b<;>exact h
 nP:= λp h=>by cases b<;>exact h
 var:= λtid vs h=>by subst h;exact ⟨_,_,rfl⟩
 Qy:= λv m h=>by subst h;exact ⟨_,rfl⟩
theorem OB.Pe.rfl' (b:OB):b.Pe b where
 row:= λ_sz n h=>⟨n,h,Ao _⟩
 c6:= λ_p h=>h
 nP:= λ_p h=>h
 var:= λ_tid _vs h=>⟨_,_,h⟩
 Qy:= λ_v _m h=>⟨_,h⟩
theorem OB.Pe.trans {a b c:OB} (h:a.Pe b) (k:b.Pe c):a.Pe c where
 row:= λsz n hr=>by
  obtain ⟨n1,h1,h2⟩:=h.row sz n hr
  obtain ⟨n2,h3,h4⟩:=k.row sz n1 h1
  exact ⟨n2,h3,by omega⟩
 c6:= λp hp=>k.c6 p (h.c6 p hp)
 nP:= λp hp=>k.nP p (h.nP p hp)
 var:= λtid vs hv=>by obtain ⟨t',v',h1⟩:=h.var tid vs hv;exact k.var t' v' h1
 Qy:= λv m hm=>by obtain ⟨m',h1⟩:=h.Qy v m hm;exact k.Qy v m' h1
theorem iC {f:AC->AC} {D Pt:Nat->Prop} (hf: ∀c,f c= .undef\/(f c=c/\(∀k∈c.refs,¬D k)/\ ∀k i j,c= .sub k i j\/c= .Hf k i j-> ¬Pt k)) (hp: ∀k,¬D k->bR (π k) (π' k))
  (hH: ∀k b,¬D k->Ap H k=some b-> ∃b',Ap H' k=some b'/\b.Pe b')
  (hg: ∀k r b,¬D k-> ¬Pt k->Ap H k=some b->b.c6≠none->π k=some r->w'.heap[r.g]?=w.heap[r.g]?)
  (hc: ∀fr τ cs x,Cells w (Cb X.w0.heap.size X.Sc π fr) τ cs x->Cells w' (Cb X.w0.heap.size X.Sc π' fr) τ cs x): ∀c v,Fe X w π H c v->Fe X w' π' H' (f c) v:=by
 intro c v h
 rcases hf c with e|⟨e,hr,hs⟩
 ·rw [e];trivial
 rw [e]
 cases c with
 |data fr τ x=>obtain ⟨cs,h1,h2⟩:=h;exact ⟨cs,hc _ _ _ _ h1,h2⟩
 |own k off len=>
  obtain ⟨b,sz,n,h1,h0,h2,h3⟩:=h
  have hk:=hr k (by simp [AC.refs])
  obtain ⟨b',g1,g2⟩:=hH k b hk h1
  obtain ⟨n',g3,g4⟩:=g2.row sz n h0
  exact ⟨b',sz,n',g1,g3,by omega,(hp k hk).own h3⟩
 |Ez k i=>
  obtain ⟨r,tid,vs,h1,h2,h3⟩:=h
  have hk:=hr k (by simp [AC.refs])
  obtain ⟨b',g1,g2⟩:=hH k _ hk h1
  obtain ⟨Qj,vs',rfl⟩:=g2.var tid vs rfl
  obtain ⟨q,q1,q2,_⟩:=(h2▸hp k hk).some
  exact ⟨q,Qj,vs',g1,q1,by rw [<-q2];exact h3⟩
 |Hj k i=>
  obtain ⟨r,b,sz,n,h1,h0,h2,h3,h4⟩:=h
  have hk:=hr k (by simp [AC.refs])
  obtain ⟨b',g1,g2⟩:=hH k b hk h1
  obtain ⟨n',g3,g4⟩:=g2.row sz n h0
  obtain ⟨q,q1,q2,q3,_⟩:=(h3▸hp k hk).some
  exact ⟨q,b',sz,n',g1,g3,by omega,q1,by rw [<-q2,<-q3];exact h4⟩
 |sub k i c=>
  obtain ⟨r,b,sz,n,h1,h0,h2,h3,h4,h5⟩:=h
  have hk:=hr k (by simp [AC.refs])
  obtain ⟨b',g1,g2⟩:=hH k b hk h1
  obtain ⟨q,q1,q2,q3,_⟩:=(h2▸hp k hk).some
  exact ⟨q,b',sz,n,g1,g2.c6 _ h0,q1,h3,h4,by rw [<-q2,<-q3,World.cell?_of_block (hg k r b hk (hs k i c (.inl rfl)) h1 (by rw [h0];simp) h2)];exact h5⟩
 |Hf k i c=>
  obtain ⟨r,b,n,sz,g,o,len,cap,h1,h0,h2,h3,h4,h5,h6⟩:=h
  have hk:=hr k (by simp [AC.refs])
  obtain ⟨b',g1,g2⟩:=hH k b hk h1
  obtain ⟨q,q1,q2,q3,_⟩:=(h2▸hp k hk).some
  exact ⟨q,b',n,sz,g,o,len,cap,g1,g2.nP _ h0,q1,h3,h4,by rw [<-q2,<-q3,World.cell?_of_block (hg k r b hk (hs k i c (.inr rfl)) h1 (by cases b<;>first|(cases h0;done)|simp [OB.c6]) h2)];exact h5,h6⟩
 |clo g Cx=>
  obtain ⟨us,h1,h2,h3⟩:=h
  refine ⟨us,h1,h2,λj p QD=>?_⟩
  obtain ⟨r,tid,vs,h4,h5,h6⟩:=h3 j p QD
  have hk:=hr p.1 (by simp only [AC.refs,Bq];exact ⟨p,Bo QD,rfl⟩)
  obtain ⟨b',g1,g2⟩:=hH p.1 _ hk h4
  obtain ⟨Qj,vs',rfl⟩:=g2.var tid vs rfl
  obtain ⟨q,q1,q2,_⟩:=(h5▸hp p.1 hk).some
  exact ⟨q,Qj,vs',g1,q1,by rw [<-q2];exact h6⟩
 |Hv k=>
  obtain ⟨r,vt,m,h1,h2,h3⟩:=h
  have hk:=hr k (by simp [AC.refs])
  obtain ⟨b',g1,g2⟩:=hH k _ hk h1
  obtain ⟨m',rfl⟩:=g2.Qy vt m rfl
  obtain ⟨q,q1,q2,_⟩:=(h2▸hp k hk).some
  exact ⟨q,vt,m',g1,q1,by rw [<-q2];exact h3⟩
 |_=>exact h
theorem Qo (H0:List (Nat×OB)) (ls:List Nat) (n:Nat): ∀(H:List (Nat×OB)) (l:Nat),Ap (Ze H0 ls n H) l=(Ap H l).map λb=>if ls.contains l then b.uk (Xd n (LX (Ap H0 l))) else b
 | [],_=>rfl
 |(k,b)::r,l=>by
  simp only [Ze,Ap]
  split
  ·rename_i e;subst e;rfl
  ·exact Qo H0 ls n r l
theorem OB.rH (b:OB) (kp:Option (Nat×Nat)):b.Pe (b.uk kp):=by
 cases b with
 |Bc e te rows out XX=>exact ⟨λsz n h=>⟨n,h,Ao _⟩,λp h=>h,λp h=>h,(λ_ _ h=>by cases h),(λ_ _ h=>by cases h)⟩
 |_=>exact OB.Pe.rfl' _
theorem bG (ls:List Nat): ∀(l m:List AV) (t:Nat),l.length=m.length->(∃k i c,l.getD t .undef= .at (.sub k i c)/\ls.contains k=true/\(Iy ls l m).getD t .undef= .at (.sub k i c))\/(Iy ls l m).getD t .undef=m.getD t .undef
 | [],m,t,_=>by cases m<;>exact .inr rfl
 |_::_,[],t,h=>by simp at h
 |a::l,v::m,t,h=>by
  have ih:= λt=>bG ls l m t (by simpa using h)
  have tail: ∀u,Iy ls (a::l) (v::m)=u::Iy ls l m->(t=0->(∃k i c,(a::l).getD t .undef= .at (.sub k i c)/\ls.contains k=true/\u= .at (.sub k i c))\/u=v)->
    (∃k i c,(a::l).getD t .undef= .at (.sub k i c)/\ls.contains k=true/\(Iy ls (a::l) (v::m)).getD t .undef= .at (.sub k i c))\/(Iy ls (a::l) (v::m)).getD t .undef=(v::m).getD t .undef:=by
   intro u e h0
   rw [e]
   rcases t with _|t
   ·rcases h0 rfl with ⟨k,i,c,h1,h2,h3⟩|h3
    ·exact .inl ⟨k,i,c,h1,h2,by simpa using h3⟩
    ·exact .inr (by simpa using h3)
   ·simpa only [Kn] using ih t
  cases a with
  | «at»c=>
   cases c with
   |sub k i c=>
    refine tail _ rfl λht=>?_
    subst ht
    by_cases hc:ls.contains k=true
    ·exact .inl ⟨k,i,c,rfl,hc,by rw [Af hc]⟩
    ·exact .inr (by rw [Aj hc])
   |_=>exact tail _ rfl λ_=> .inr rfl
  |_=>exact tail _ rfl λ_=> .inr rfl
theorem nr {H:List (Nat×OB)} {ls:List Nat} {n:Nat} : ∀ {l:List AV} {t k i c:Nat},Zl H ls n l=true->l.getD t .undef= .at (.sub k i c)->ls.contains k=true->i<n/\i<l9 H k
 | [],t,k,i,c,_,h,_=>by simp at h
 |a::l,0,k,i,c,ho,h,hc=>by
  simp only [bO] at h
  subst h
  simp only [Zl,hc,Bool.not_true,Wj,Ag,Ki] at ho
  exact ho.1
 |a::l,t+1,k,i,c,ho,h,hc=>by
  refine nr (l:=l) (t:=t) (c:=c) ?_ (by simpa only [Kn] using h) hc
  cases a with
  | «at»d=>cases d with
   |sub _ _ _=>simp only [Zl,Ag] at ho;exact ho.2
   |_=>exact ho
  |_=>exact ho
theorem vW {Xq st:St} {a:Act} (h0:Ax X π Xq a w) (h:Ax X π' st a w') {ls:List Nat} {n:Nat} (hk: ∀l∈ls,oN w w' (π l) (π' l) n) (ma: ∀l∈ls,ij Xq.heap l=true)
  (kR:Zl st.heap ls n Xq.tmps=true):Ax X π' (ga Xq st ls n) a w'/\ ∀c v,Ba X w' π' st.heap c v->Ba X w' π' (ga Xq st ls n).heap c v:=by
 by_cases IU:ls= []
 ·subst IU;exact ⟨h,λ_ _ h=>h⟩
 have Yi:ga Xq st ls n= {tmps:=Iy ls Xq.tmps st.tmps,heap:=Ze Xq.heap ls n st.heap} :=by
  cases ls with
  |nil=>exact absurd rfl IU
  |cons _ _=>rfl
 rw [Yi]
 have ZI: ∀l∈ls,∃e te rows out kp,Ap Xq.heap l=some (.Bc e te rows out kp):= λl hl=>by
  have:=ma l hl
  unfold ij at this
  split at this
  ·exact ⟨_,_,_,_,_,by assumption⟩
  ·cases this
 have srv: ∀k b,Ap st.heap k=some b-> ∃b',Ap (Ze Xq.heap ls n st.heap) k=some b'/\b.Pe b':= λk b hb=>by
  rw [Qo,hb]
  refine ⟨_,rfl,?_⟩
  dsimp only
  split
  ·exact OB.rH b _
  ·exact OB.Pe.rfl' b
 have SO:(∀fr τ cs x,Cells w' (Cb X.w0.heap.size X.Sc π' fr) τ cs x->Cells w' (Cb X.w0.heap.size X.Sc π' fr) τ cs x)-> ∀c v,Fe X w' π' st.heap c v->Fe X w' π' (Ze Xq.heap ls n st.heap) c v:= λhc=>
  iC (f:= λc=>c) (D:= λ_=>False) (Pt:= λ_=>False) (λc=> .inr ⟨rfl,λ_ _ h=>h,λ_ _ _ _ h=>h⟩) (λk _=>bR.rfl' _) (λk b _ hb=>srv k b hb) (λ_ _ _ _ _ _ _ _=>rfl) hc
 have h1:Ax X π' {tmps:=st.tmps.map (·.map λc=>c),heap:=Ze Xq.heap ls n st.heap} a w':=by
  refine h.iD rfl (gv:= λ_=>False) (λ_ hf=>hf.elim) (Gw.refl _ _ _) (λ_ _ ho=>ho) h.1.sub h.1.place h.1.inj (λl hl Hs=>h.1.cD l hl λh2=>Hs (by rw [Qo,h2];rfl)) SO (λm l b hb=>?_) (λl hl=>?_)
  ·rw [Qo] at hb
   cases h2:Ap st.heap l with
   |none=>rw [h2] at hb;cases hb
   |some b0=>
    rw [h2] at hb
    simp only [Ah,Aa] at hb
    have hbk:=(h.1.heap l).Ns h2
    have uT:=hbk.move m (Ao _) (λr0 c h0 h1=>h.1.sub _ r0 c h0 h1) λ_ _ _ _ _=>rfl
    rw [show OB.map (λc=>c) b0=b0 from OB.tS b0] at uT
    split at hb
    ·rename_i hc
     have hl:l∈ls:=by simpa using hc
     cases b0 with
     |Bc e te rows out kp=>
      simp only [OB.uk] at hb
      subst hb
      refine ⟨uT.1,?_⟩
      obtain ⟨e0,YE,JN,XZ,XX,hg⟩:=ZI l hl
      have qx:=((h0.1.heap l).Ns hg).2
      rw [hg]
      simp only [LX]
      have nR:=hk l hl
      cases XX with
      |none=>trivial
      |some p=>
       obtain ⟨l0,n0⟩:=p
       simp only [KeptAt,Xd] at qx⊢
       cases qB:X.cD l0 with
       |none=>
        cases hp:π l with
        |none=>
         rw [hp] at nR
         cases xD:π' l with
         |none=>trivial
         |some q=>rw [xD] at nR;exact nR.elim
        |some q=>rw [qB,hp] at qx;exact qx.elim
       |some r0=>
        cases hp:π l with
        |none=>rw [qB,hp] at qx;exact qx.elim
        |some q=>
         rw [qB,hp] at qx
         rw [hp] at nR
         cases xD:π' l with
         |none=>rw [xD] at nR;exact nR.elim
         |some q'=>
          rw [xD] at nR
          obtain ⟨k1,k2,k3,k4⟩:=nR
          obtain ⟨g1,g2,g3,g4⟩:=qx
          refine ⟨k1.trans g1,k2.trans g2,k3.trans g3,λj hj hc=>?_⟩
          have e1:=g4 j (by omega) hc
          have e2:=k4 j (by omega) (by omega)
          rw [g1,g2] at e2
          rw [<-e1,e2]
     |_=>simp only [OB.uk] at hb;subst hb;exact uT
    ·subst hb;exact uT
  ·rw [Qo] at hl
   cases h2:Ap st.heap l with
   |none=>exact (h.1.heap l).emp h2
   |some b=>rw [h2] at hl;cases hl
 have BA: ∀c v,Ba X w' π' st.heap c v->Ba X w' π' (Ze Xq.heap ls n st.heap) c v:= λc v hv=>by
  have m:Move X w' w' π' π' st.heap (Ze Xq.heap ls n st.heap) (λc=>c):=⟨SO λ_ _ _ _ h=>h,λ_ _ _ _ h=>h⟩
  have:=m.av hv
  rwa [AC.map_id] at this
 refine ⟨⟨h1.1,⟨?_,h.2.defers,λt=>?_⟩⟩,BA⟩
 ·have: ∀(l m:List AV),(Iy ls l m).length=m.length:=by
   intro l
   induction l with
   |nil=>intro m;cases m<;>rfl
   |cons a l ih=>
    intro m
    cases m with
    |nil=>cases a with
     | «at»c=>cases c<;>rfl
     |_=>rfl
    |cons v m=>cases a with
     | «at»c=>cases c<;>simp only [Iy,Bf,ih m]
     |_=>simp only [Iy,Bf,ih m]
  show a.tmps.size=(Iy ls Xq.tmps st.tmps).length
  rw [this];exact h.2.size
 ·show Ba X w' π' _ ((Iy ls Xq.tmps st.tmps).getD t .undef) _
  rcases bG ls Xq.tmps st.tmps t (by rw [<-h0.2.size,<-h.2.size]) with ⟨k,i,c,g1,g2,g3⟩|g
  ·rw [g3]
   have Om:k∈ls:=by simpa using g2
   obtain ⟨i1,i2⟩:=nr kR g1 g2
   have hv:=h0.2.tmps t
   rw [show Xq.get t=_ from g1] at hv
   obtain ⟨r,b,sz,n',e1,e2,e3,e4,⟨e5,e6⟩,e7⟩:=hv
   obtain ⟨e0,YE,JN,XZ,XX,hg⟩:=ZI k Om
   rw [hg] at e1;cases e1
   simp only [OB.c6,Aa,Ab] at e2
   obtain ⟨rfl,rfl⟩:=e2
   have nR:=hk k Om
   rw [e3] at nR
   cases xD:π' k with
   |none=>rw [xD] at nR;exact nR.elim
   |some q'=>
    rw [xD] at nR
    obtain ⟨k1,k2,k3,k4⟩:=nR
    have kO:JN.length<=r.cap:=by
     have:=((h0.1.heap k).Ns hg).1
     rw [e3] at this
     obtain ⟨_,_,_,_,_,_,h5,_⟩:=this
     exact h5
    unfold l9 at i2
    split at i2
    ·rename_i e9 te9 RR Adb kp9 hg9
     refine ⟨q',_,1,RR.length,by rw [Qo,hg9];rfl,?_,xD,i2,⟨e5,e6⟩,?_⟩
     ·dsimp only
      split<;>rfl
     ·have gz:c=0:=by omega
      subst gz
      rw [k1,k2]
      rw [Dt,Dc] at e7⊢
      rw [k4 i i1 (by omega)];exact e7
    ·omega
  ·rw [g]
   exact BA _ _ (h.2.tmps t)
theorem jv {ins:List (Bool×CK)} {as:List AC} {pl:List Nat} {st:St} :(kV ins as pl st).tmps=st.tmps:=by
 unfold kV
 split
 ·rfl
 ·split<;>rfl
theorem wJ {ins:List (Bool×CK)} {as:List AC} {pl:List Nat} {st:St} {m:Nat} (hm:m∉pl):Ap (kV ins as pl st).heap m=Ap st.heap m:=by
 unfold kV
 split
 ·rfl
 ·rename_i l r
  split
  ·exact Cu _ _ _ _ λe=>hm (e▸Jh)
  ·rfl
theorem zo {ins:List (Bool×CK)} {as:List AC} {l:Nat} {st:St} {tid:TypeId} {vs:List AC} (hl:Ap st.heap l=some (.var tid vs)):Ap (kV ins as [l] st).heap l=some (.var tid (cc ins vs as)):=by
 simp only [kV,St.at,hl]
 exact Dj _ _ _ _ hl
theorem pH {α:Type} (ins:List (Bool×CK)) (as:List α):cc ins [] as= []:=by
 rcases ins with _|⟨⟨_|_,c⟩,r⟩<;>rfl
theorem jt {α:Type} : ∀(ins:List (Bool×CK)) (vs as:List α),(cc ins vs as).length=vs.length
 | [],vs,as=>by rw [cc];all_goals simp
 |p::r,[],as=>by rw [pH]
 |(true,c)::r,v::vs,as=>by simp only [cc,Bf,jt r vs as]
 |(false,c)::r,v::vs,[]=>by rw [cc];all_goals simp
 |(false,c)::r,v::vs,a::as=>by simp only [cc,Bf,jt r vs as]
theorem zf {st:St} {a:Act} (h:Ax X π st a w) {s:MSpec} {gF:List AV} {vs:List Value} (hlen:gF.length=vs.length) (BA: ∀(i:Nat) c v,gF[i]?=some c->vs[i]?=some v->Ba X w π st.heap c v)
  {pl:List Nat} {cells:List AC} {rest:List AV} (he:xU st s gF=some (pl,cells,rest)):
  ∃(g:Nat) (HU pU:List Value),rest.length=pU.length/\(∀(i:Nat) c v,rest[i]?=some c->pU[i]?=some v->Ba X w π st.heap c v)/\Kd X w π st.heap cells HU/\
   ((s.ptr=none/\pl= []/\cells= []/\HU= []/\vs=pU)\/
    ∃p l q,s.ptr=some p/\pl= [l]/\π l=some q/\q.Bu q.g/\g=q.g/\Ap st.heap l=some (.var p.1 cells)/\cells.length=p.2/\vs= .pointer (some ⟨g,0,none⟩)::pU/\w.heap[g]?=some (.cells HU.toArray p.1 (0,0))/\Eb X w π st.heap cells HU):=by
 unfold xU at he
 split at he
 ·rename_i hp
  simp only [Aa,Ab] at he
  obtain ⟨rfl,rfl,rfl⟩:=he
  exact ⟨0,[],vs,hlen,BA,trivial, .inl ⟨hp,rfl,rfl,rfl,rfl⟩⟩
 ·rename_i p hp
  split at he
  ·rename_i l i Aa7
   split at he
   ·rename_i tid cs hl
    split at he
    ·rename_i hc
     obtain ⟨rfl,hc,rfl⟩:=hc
     simp only [Aa,Ab] at he
     obtain ⟨rfl,rfl,rfl⟩:=he
     unfold St.at at hl
     cases vs with
     |nil=>simp at hlen
     |cons v vs=>
      obtain ⟨r,Qj,vs',h1,h2,rfl⟩:=BA 0 _ v rfl rfl
      rw [hl] at h1;cases h1
      obtain ⟨r',h3,h4,cur,h5,h6⟩:=(h.1.heap l).Ns hl
      rw [h2] at h3;cases h3
      exact ⟨r.g,cur.toList,vs,by simpa using hlen,λi c v h7 h8=>BA (i+1) c v (by simpa using h7) (by simpa using h8),Kd.of h6, .inr ⟨p,l,r,hp,rfl,h2,h4,rfl,hl,hc,rfl,by simpa using h5,h6⟩⟩
    ·cases he
   ·cases he
  ·cases he
theorem ez {V:List Nat} {πc:Pi} {dead part:List Nat} (JH: ∀l,l∉dead->π' l=π l) (bf: ∀l b sz n,l∉dead->Ap H l=some b->b.row=some (sz,n)-> ∃b',Ap H' l=some b'/\b'.row=some (sz,n)):
  ∀(ins:List (Bool×CK)) (k:Nat) (cells iQ:List AC) (x:Ins.den ins) (us:List Value) (o:IOs.den ins) (cur st1:St) (news:List AC) (Qu cs:List Value),kI X w π V H πc k ins x (cells++iQ) us->Ro ins cells=true->
   Ft ins o (cells++iQ) cur=some st1->Di πc k ins o cells.length cs Qu->Kd X w' π' H' news Qu->Kd X w' π' H' (cc ins (cells.map (Bt dead part)) news) cs
 |ins,k,[],iQ,x,us,o,cur,st1,news,Qu,cs,_,_,_,hb,_=>by
  have hb:cs= []:=by rcases ins with _|⟨⟨_|_,c⟩,r⟩<;>(try cases c)<;>simpa [Di] using hb
  rw [hb,List.map_nil,pH]
  trivial
 | [],k,a::cells,iQ,x,us,o,cur,st1,news,Qu,cs,_,hk,_,_,_=>by simp [Ro] at hk
 |(true, .Ji τ)::r,k,a::cells,iQ,x,us,o,cur,st1,news,Qu,cs,_,hk,_,_,_=>by simp [Ro] at hk
 |(true, .part e te)::r,k,a::cells,iQ,x,us,o,cur,st1,news,Qu,cs,_,hk,_,_,_=>by simp [Ro] at hk
 |(true, .Bc e te _)::r,k,a::cells,iQ,x,us,o,cur,st1,news,Qu,cs,_,hk,_,_,_=>by simp [Ro] at hk
 |(true, .row e te)::r,k,a::cells,iQ,x,us,o,cur,st1,news,Qu,cs,ht,hk,hp,hb,hn=>by
  cases a<;>simp only [Ro,Ci] at hk
  rename_i l off len
  cases us with
  |nil=>exact ht.elim
  |cons u0 us=>
  cases cs with
  |nil=>exact hb.elim
  |cons u cs=>
  obtain ⟨⟨_,h1⟩,h2⟩:=ht
  simp only [Pl] at h1
  obtain ⟨h3,rfl,rfl,fr,tr,h4⟩:=h1
  obtain ⟨h5,h6⟩:=hb
  simp only [Ov,Ft] at hp
  split at hp
  rotate_left
  ·cases hp
  rename_i Ut LH
  have BM:List.length o.1=List.length x.1:=by
   simp only [Xv] at LH
   repeat' split at LH
   all_goals first|(cases LH;done)|(rename_i hc;exact hc.2.1)
  refine ⟨?_,ez JH bf r (k+1) cells iQ x.2 us o.2 Ut st1 news Qu cs h2 hk hp h6 hn⟩
  by_cases hd:l∈dead
  ·have:Bt dead part (.own l 0 (List.length x.1))= .undef:=by
    unfold Bt
    rw [Af (by simp [AC.refs,hd])]
   rw [this];trivial
  ·rw [Yg (by simpa [AC.refs] using hd) (by intro l i j e;rcases e with e|e<;>cases e)]
   obtain ⟨b',g1,g2⟩:=bf l _ e.size (List.length x.1) hd h4 rfl
   refine ⟨b',e.size,List.length x.1,g1,g2,by omega,?_⟩
   rw [JH l hd]
   rw [h3,BM] at h5
   cases hp:π l<;>(rw [hp] at h5;exact h5)
 |(true, .Fl e te)::r,k,a::cells,iQ,x,us,o,cur,st1,news,Qu,cs,ht,hk,hp,hb,hn=>by
  cases a<;>simp only [Ro,Ci] at hk
  rename_i l off len
  cases us with
  |nil=>exact ht.elim
  |cons u0 us=>
  cases cs with
  |nil=>exact hb.elim
  |cons u cs=>
  obtain ⟨⟨_,h1⟩,h2⟩:=ht
  simp only [Pl] at h1
  obtain ⟨h3,rfl,rfl,h4⟩:=h1
  obtain ⟨h5,h6⟩:=hb
  simp only [Ov,Ft] at hp
  split at hp
  rotate_left
  ·cases hp
  rename_i Ut LH
  have BM:List.length o.1=List.length x.1:=by
   simp only [Xv] at LH
   repeat' split at LH
   all_goals first|(cases LH;done)|(rename_i hc;exact hc.2.1)
  refine ⟨?_,ez JH bf r (k+1) cells iQ x.2 us o.2 Ut st1 news Qu cs h2 hk hp h6 hn⟩
  by_cases hd:l∈dead
  ·have:Bt dead part (.own l 0 (List.length x.1))= .undef:=by
    unfold Bt
    rw [Af (by simp [AC.refs,hd])]
   rw [this];trivial
  ·rw [Yg (by simpa [AC.refs] using hd) (by intro l i j e;rcases e with e|e<;>cases e)]
   obtain ⟨b',g1,g2⟩:=bf l _ e.size (List.length x.1) hd h4 rfl
   refine ⟨b',e.size,List.length x.1,g1,g2,by omega,?_⟩
   rw [JH l hd]
   rw [h3,BM] at h5
   cases hp:π l<;>(rw [hp] at h5;exact h5)
 |(false,c)::r,k,a::cells,iQ,x,[],o,cur,st1,news,Qu,cs,ht,hk,hp,hb,hn=>ht.elim
 |(false,c)::r,k,a::cells,iQ,x,u0::us,o,cur,st1,news,Qu,[],ht,hk,hp,hb,hn=>by cases c<;>exact hb.elim
 |(false,c)::r,k,a::cells,iQ,x,u0::us,o,cur,st1,news,[],u::cs,ht,hk,hp,hb,hn=>by cases c<;>exact hb.elim
 |(false,c)::r,k,a::cells,iQ,x,u0::us,o,cur,st1,[],u'::Qu,u::cs,ht,hk,hp,hb,hn=>hn.elim
 |(false,c)::r,k,a::cells,iQ,x,u0::us,o,cur,st1,na::news,u'::Qu,u::cs,ht,hk,hp,hb,hn=>by
  have VL:u=u'/\Di πc (k+1) r o cells.length cs Qu:=by cases c<;>exact hb
  obtain ⟨rfl,SP⟩:=VL
  have hp:Ft r o (cells++iQ) cur=some st1:=by cases c<;>simpa only [Ov,Ft] using hp
  have hk:Ro r cells=true:=by cases c<;>simpa only [Ro] using hk
  exact ⟨hn.1,ez JH bf r (k+1) cells iQ x.2 us o cur st1 news Qu cs ht.2 hk hp SP hn.2⟩
theorem uE {V:List Nat} {πc:Pi} : ∀(cs:List (Bool×CK)) (k0:Nat) (x:Ins.den cs) (as:List AC) (us:List Value),k0+cs.length<100000->kI X w π V H πc k0 cs x as us-> ∀k l,(Cp false k,Loc.row l)∈Iz k0 cs as->πc (Cp false k)=(π l).map full
 | [],_,_,[],_,_,_,_,_,h=>by cases h
 | [],_,_,_::_,_,_,_,_,_,h=>by cases h
 |_::_,_,_,[],_,_,_,_,_,h=>by cases h
 |_::_,_,_,_::_,[],_,h,_,_,_=>h.elim
 |(io,c)::r,k0,x,a::as,u::us,hk,h,k,l,ht=>by
  simp only [Bf] at hk
  simp only [Iz] at ht
  rcases Av.1 ht with ht|ht
  ·obtain ⟨⟨_,h1⟩,_⟩:=h
   cases c with
   |Ji τ=>cases a<;>simp [Mx,views] at ht
   |row e te=>
    cases a<;>simp [Mx] at ht
    obtain ⟨e1,rfl⟩:=ht
    simp only [Pl] at h1
    rw [e1];exact h1.1
   |Fl e te=>
    cases a<;>simp [Mx] at ht
    obtain ⟨e1,rfl⟩:=ht
    simp only [Pl] at h1
    rw [e1];exact h1.1
   |part e te=>
    cases a<;>simp [Mx] at ht
    obtain ⟨e1,rfl⟩:=ht
    simp only [Pl] at h1
    rw [e1];exact h1.2.1
   |Bc e te kp=>
    cases a<;>simp [Mx] at ht
    obtain ⟨e1,rfl⟩:=ht
    simp only [Pl] at h1
    rw [e1];exact h1.2.1
  ·exact uE r (k0+1) x.2 as us (by omega) h.2 k l ht
theorem kK {st:St} {a:Act} (h:Ax X π st a w) {f:FuncId} {s:MSpec} (hs:Jd P f s) (dst:Option Nat) (gF:List AV) (vs:List Value) (hlen:gF.length=vs.length)
  (BA: ∀(i:Nat) c v,gF[i]?=some c->vs[i]?=some v->Ba X w π st.heap c v) (av:AV) (st':St) (he:Sp st dst s gF=some (av,st')):
  Calls P f vs.toArray w λe w'=> ∃v,e= .returned v/\ ∃π',Ax X π' st' a w'/\Ba X w' π' st'.heap av v:=by
 unfold Sp at he
 split at he
 ·cases he
 rename_i pl cells rest WV
 split at he
 ·cases he
 rename_i iQ iS
 split at he
 ·cases he
 rename_i x tks htk
 split at he
 rotate_left
 ·cases he
 rename_i Ha
 simp only [Ag,Ki] at Ha
 obtain ⟨⟨⟨⟨tj,sv⟩,PZ⟩,BH⟩,PM,yB⟩:=Ha
 have yB: ∀l∈pl,l∉(tks.map λt=>t.2.Sa)/\l∉Oh s tks (dst.getD 0):= λl hl=>by
  have:=Au.1 yB l hl
  simp only [Ds,<-Gt,Gx] at this
  exact ⟨λhm=>this (Bg _ hm),λhm=>this (Bp _ hm)⟩
 split at he
 ·cases he
 rename_i r o BF
 split at he
 ·cases he
 rename_i st1 BS
 obtain ⟨g,HU,pU,BL,VJ,XA,NV⟩:=zf h hlen BA WV
 obtain ⟨oD,rfl,NY,WZ⟩:=Uq s.Jg rest pU iQ BL VJ iS
 have LK:=XA.append WZ
 have No:iT s w g (HU++oD) vs:=by
  unfold iT
  rcases NV with ⟨h1,_,_,h2,h3⟩|⟨p,l,q,h1,_,_,_,_,_,h2,h3,h4,h5⟩
  ·rw [h1];subst h2;exact ⟨h3,NY⟩
  ·rw [h1]
   have hl:HU.length=p.2:=h5.1.trans h2
   simp only
   rw [List.drop_append_of_le_length (by omega),List.take_append_of_le_length (by omega),List.take_of_length_le (by omega),List.drop_of_length_le (by omega)]
   refine ⟨h3,NY,by simp;omega,h4,λu hu=>?_⟩
   obtain ⟨i,hi,rfl⟩:=Db.1 hu
   obtain ⟨u',h6,h7,_⟩:=h5.2 i (cells[i]'(by have:=h5.1;omega)) (Ac _)
   rw [Ac hi] at h6
   rw [Aw h6];exact h7
 have yC: ∀l∈pl,∃p q,s.ptr=some p/\pl= [l]/\π l=some q/\q.Bu q.g/\g=q.g/\Ap st.heap l=some (.var p.1 cells)/\cells.length=p.2:= λl hl=>by
  rcases NV with ⟨_,h1,_⟩|⟨p,l',q,h1,h2,h3,h4,h5,h6,h7,_⟩
  ·rw [h1] at hl;cases hl
  ·rw [h2] at hl
   have:=Ad.1 hl
   subst this
   exact ⟨p,q,h1,h2,h3,h4,h5,h6,h7⟩
 have yx: ∀b,s.gv g b-> ∃l∈pl,∃q,π l=some q/\q.Bu b/\b=q.g:= λb ⟨h1,h2⟩=>by
  rcases NV with ⟨h3,_⟩|⟨p,l',q,_,h4,h5,h6,h7,_⟩
  ·rw [h3] at h1;cases h1
  ·exact ⟨l',by rw [h4];exact Ad.2 rfl,q,h5,by rw [h2,h7];exact h6,h2.trans h7⟩
 obtain ⟨as,has⟩: ∃as,as=cells++iQ:=⟨_,rfl⟩
 obtain ⟨us,BX⟩: ∃us,us=HU++oD:=⟨_,rfl⟩
 rw [<-has] at LK htk BS
 rw [<-BX] at LK No
 let V:=(tks.filter λt=>t.2.reads).map λt=>t.2.Sa
 have hV: ∀t∈tks,t.2.reads=true->t.2.Sa∈V:= λt ht hr=>Bq.2 ⟨t,Bk.2 ⟨ht,hr⟩,rfl⟩
 have VD: ∀l∈V,∃t∈tks,t.2.reads=true/\t.2.Sa=l:= λl hl=>by
  obtain ⟨t,h1,h2⟩:=Bq.1 hl
  exact ⟨t,(Bk.1 h1).1,(Bk.1 h1).2,h2⟩
 clear_value V
 obtain ⟨EX,πc,hT,BC,WE,Rn⟩:=ny h.1 (V:=V) s.ins 0 as us x tks (by omega) LK htk hV
 have vO:=Sy tj
 rw [EX] at vO
 have al: ∀b,Qk πc b-> ∃t∈Iz 0 s.ins as,t.2.reads=false/\ ∃q,π t.2.Sa=some q/\q.Bu b/\ ∀l i j,t.2= .sub l i j->b≠q.g:= λb ⟨c,q,h1,h2⟩=>by
  obtain ⟨t,t1,_,t3⟩:=Rn c q b h1 h2
  exact ⟨t,t1,t3⟩
 have vR: ∀b,Qk πc b->Qk π b:= λb hb=>let ⟨t,_,_,q,h1,h2,_⟩:=al b hb;⟨_,q,h1,h2⟩
 have fa:aL πc (λb=>b<w.heap.size):=⟨λl q b h1 h2=>(h.1.own (vR b ⟨l,q,h1,h2⟩)).1,λl l' q q' b h1 h2 h3 h4=>by
  obtain ⟨t,t1,t2,_,p,t3,t4,_⟩:=Rn l q b h1 h3
  obtain ⟨t',MS,TZ,_,p',t3',t4',_⟩:=Rn l' q' b h2 h4
  have:=qO vO t1 MS (h.1.apart t3 t3' t4 t4')
  rw [<-t2,<-TZ,this]⟩
 have OR: ∀k l,(Cp false k,Loc.row l)∈Iz 0 s.ins as->πc (Cp false k)=(π l).map full:= λk l ht=>
  uE s.ins 0 x as us (by omega) hT k l ht
 have QV: ∀b,Qk πc b->Lm X π V b:= λb hb=> .inl ⟨vR b hb,λl hl r' hr hf=>by
  obtain ⟨t,t1,t0,q,t3,t4,_⟩:=al b hb
  obtain ⟨t',MS,TZ,rfl⟩:=VD l hl
  rw [EX] at MS
  have:=qO vO t1 MS (h.1.apart t3 hr t4 hf)
  subst this
  rw [t0] at TZ;cases TZ⟩
 let S:Nat->Prop:= λb=> ¬Qk πc b/\Lm X π V b
 have hS: ∀b,S b->b<w.heap.size/\ ¬Qk πc b:= λb hb=>⟨by
  rcases hb.2 with h1|h1
  ·exact (h.1.own h1.1).1
  ·exact Cy (h.1.sc b h1).1 h.1.below.size,hb.1⟩
 have GI: ∀l∈pl,∀t∈Iz 0 s.ins as,t.2.Sa≠l:= λl hl t ht e=>(yB l hl).1 (Bq.2 ⟨t,EX▸ht,e⟩)
 have VA:s.ptr.isSome=true->S g:= λNU=>by
  obtain ⟨l,hl,q,h1,h2,h3⟩:=yx g ⟨NU,rfl⟩
  have LF: ¬Qk πc g:= λhb=>by
   obtain ⟨t,t1,_,q',t3,t4,_⟩:=al g hb
   exact GI l hl t t1 (h.1.apart t3 h1 t4 h2)
  refine ⟨LF, .inl ⟨⟨l,q,h1,h2⟩,λl' Tu r' eH hf=>?_⟩⟩
  obtain ⟨t',MS,_,rfl⟩:=VD l' Tu
  rw [EX] at MS
  exact GI l hl t' MS (h.1.apart eH h1 hf h2)
 refine (hs.calls w S πc us x r o g vs No VA (aK.Gj (λb hb=>hb.elim (QV b) λh=>h.2) s.ins 0 x us (hT.RD s.ins 0 x as us)) fa hS WE BF).mono ?_
 rintro e w' ⟨v,Qu,sx,rfl,bd,jX,FY,qw,QA,BQ,LU,p8⟩
 obtain ⟨ρ,GO,vQ,BP,II⟩: ∃ρ:Pi,(∀l,ρ l=(sx l).map full)/\Gk w' (aJ S πc sx) ρ 0 s.outs r Qu/\aL ρ (λb=>b<w'.heap.size/\(w.heap.size<=b\/ ∃l q,l<Az/\πc l=some q/\q.Bu b))/\ ∀l q,ρ l=some q->q.cl=q.Bu:=by
  have un: ∀l q,(sx l).map full=some q-> ∃q0,sx l=some q0/\q=full q0:= λl q hq=>by
   cases hp:sx l with
   |none=>rw [hp] at hq;cases hq
   |some q0=>rw [hp] at hq;exact ⟨q0,rfl,(Aw hq).symm⟩
  refine ⟨λl=>(sx l).map full,λ_=>rfl,Gk.full s.outs 0 r Qu QA,⟨λl q b h1 h2=>?_,λl l' q q' b h1 h2 h3 h4=>?_⟩,λl q h1=>?_⟩
  ·obtain ⟨q0,h5,rfl⟩:=un l q h1
   exact BQ.Vy l q0 b h5 h2
  ·obtain ⟨q0,h5,rfl⟩:=un l q h1
   obtain ⟨MM,h6,rfl⟩:=un l' q' h2
   exact BQ.inj l l' q0 MM b h5 h6 h3 h4
  ·obtain ⟨q0,_,rfl⟩:=un l q h1
   rfl
 refine ⟨v,rfl,?_⟩
 split at he
 ·cases he
 rename_i YL ct
 split at he
 rotate_left
 ·cases he
 rename_i dm
 simp only [Aa,Ab] at he
 obtain ⟨rfl,rfl⟩:=he
 let D1:Nat->Prop:=if s.flat then λ_=>True else aJ S πc sx
 have WH:Jc w' D1 πc 0 s.ins o:=by
  show Jc w' (if s.flat then λ_=>True else aJ S πc sx) πc 0 s.ins o
  split
  ·rename_i hf
   unfold MSpec.flat at hf
   simp only [Ag] at hf
   exact Jc.any s.ins 0 o hf.2 qw
  ·exact qw
 have QB:Gk w' D1 ρ 0 s.outs r Qu:=by
  show Gk w' (if s.flat then λ_=>True else aJ S πc sx) ρ 0 s.outs r Qu
  split
  ·rename_i hf
   unfold MSpec.flat at hf
   simp only [Ag] at hf
   exact Gk.any s.outs 0 r Qu hf.1 vQ
  ·exact vQ
 obtain ⟨q1,q2,q3,q4⟩:=mO (D:=D1) (X:=X) (π:=π) (H:=st.heap) h.1 FY.size (tks:=Iz 0 s.ins as) (πc:=πc) (λt ht q b hq hb Im hn=>FY.block b Im λvP=>by
   rcases vP with ⟨c,r',h1,h2⟩|hg
   rotate_left
   ·obtain ⟨l,hl,q',h1,h2,_⟩:=yx b hg
    exact GI l hl t ht (h.1.apart hq h1 hb h2)
   obtain ⟨t',t1,t2,_,p,t3,t4,_⟩:=Rn c r' b h1 h2
   have:=qO vO ht t1 (h.1.apart hq t3 hb t4)
   subst this
   exact hn r' (t2▸h1) h2) s.ins 0 x as us o st st1 (by omega) (λ_ h=>h) vO hT WH BS (λ_ _=>rfl)
 have LL: ∀t∈Iz 0 s.ins as,t.2.reads=true->t.1<Az:=by
  have: ∀(cs:List (Bool×CK)) (k:Nat) (as:List AC),k+cs.length<100000-> ∀t∈Iz k cs as,t.2.reads=true->t.1<Az:=by
   intro cs
   induction cs with
   |nil=>intro k as _ t ht;cases as<;>cases ht
   |cons p r ih=>
    intro k as hk t ht hr
    simp only [Bf] at hk
    cases as with
    |nil=>cases ht
    |cons a as=>
     simp only [Iz] at ht
     rcases Av.1 ht with ht|ht
     ·rcases uD ht with ⟨_,h1⟩|⟨h1,_⟩
      ·rw [hr] at h1;cases h1
      ·rw [h1];exact bz (by omega)
     ·exact ih (k+1) as (by omega) t ht hr
  exact this s.ins 0 as (by omega)
 let d:=dst.getD 0
 let ks:=Oh s tks d
 let dead:=gL tks++ks++(if s.flat then [] else sf tks)
 let part:=whole tks
 have XC:s.outs.length+(gq s d).length=s.Pr:=by unfold MSpec.Pr gq;cases s.rp<;>rfl
 obtain ⟨KX,WN,IQ⟩:ks.length=s.Pr/\ks.Nodup/\ ∀l∈ks,l<Az:=by
  have:=vZ sv
  rw [XC] at this
  exact this
 have LF:s.outs.length<=s.Pr:=by unfold MSpec.Pr;omega
 have GM: ∀tid,s.rp=some tid->Cw ks s.outs.length=Pj d/\s.Pr=s.outs.length+1:= λtid Sv=>by
  have h1:s.Pr=s.outs.length+1:=by unfold MSpec.Pr;rw [Sv]
  refine ⟨?_,h1⟩
  have h2:ks=gH s tks d++ [Pj d]:=by show gH s tks d++gq s d=_;unfold gq;rw [Sv]
  have h3:(gH s tks d).length=s.outs.length:=by rw [h2] at KX;simp at KX;omega
  rw [Nt (by rw [KX];omega)]
  simp only [h2]
  rw [List.getElem_append_right (by omega)]
  simp [h3]
 have BK:=sK WN IQ
 have WL: ∀j,j<s.Pr->Cw ks j<Az:= λj hj=>IQ _ (mem_keys.2 ⟨j,by omega,rfl⟩)
 let π':Pi:= λl=>match (List.range s.Pr).find? λj=>decide (Cw ks j=l) with
  |some j=>ρ (Hb j)
  |none=>if l∈dead then none else π l
 have nQ: ∀j,j<s.Pr->π' (Cw ks j)=ρ (Hb j):= λj hj=>by
  show (match (List.range s.Pr).find? λi=>decide (Cw ks i=Cw ks j) with|some i=>ρ (Hb i)|none=>_)=_
  cases hf:(List.range s.Pr).find? λi=>decide (Cw ks i=Cw ks j) with
  |none=>
   have:=List.find?_eq_none.1 hf j (Ho.2 hj)
   simp at this
  |some i=>
   have:=List.find?_some hf
   rw [BK i j (Dh this)]
 have me: ∀j,j<s.Pr->Cw ks j∈dead:= λj hj=>Bg _ (Bp _ (mem_keys.2 ⟨j,by omega,rfl⟩))
 have qy: ∀l,(¬ ∃j,j<s.Pr/\l=Cw ks j)->π' l=if l∈dead then none else π l:= λl hl=>by
  show (match (List.range s.Pr).find? λi=>decide (Cw ks i=l) with|some i=>ρ (Hb i)|none=>_)=_
  cases hf:(List.range s.Pr).find? λi=>decide (Cw ks i=l) with
  |none=>rfl
  |some i=>
   have h1:=List.find?_some hf
   exact absurd ⟨i,Ho.1 (List.mem_of_find?_eq_some hf),(Dh h1).symm⟩ hl
 have CA: ∀l,l∉dead->π' l=π l:= λl hl=>by
  rw [qy l (λ⟨j,h1,h2⟩=>hl (h2▸me j h1)),Aj hl]
 have OM: ∀b,Qk π' b\/X.Sc b->D1 b:=by
  intro b hb
  show (if s.flat then λ_=>True else aJ S πc sx) b
  split
  ·trivial
  rename_i hnf
  rcases hb with ⟨l,q,hl,hf⟩|hb
  ·by_cases hk: ∃j,j<s.Pr/\l=Cw ks j
   ·obtain ⟨j,hj,rfl⟩:=hk
    rw [nQ j hj,GO] at hl
    cases hp:sx (Hb j) with
    |none=>rw [hp] at hl;cases hl
    |some q0=>rw [hp] at hl;simp only [Ah,Aa] at hl;subst hl;exact .inr (.inr ⟨Hb j,q0,hp,hf⟩)
   ·have e0:π' l=if l∈dead then none else π l:=qy l hk
    rw [e0] at hl
    split at hl
    ·cases hl
    ·rename_i GG
     by_cases ho:Qk πc b
     ·obtain ⟨c,q',hc,ZD⟩:=ho
      obtain ⟨t,t1,t2,t0,p,t3,t4,_⟩:=Rn c q' b hc ZD
      have qz:=h.1.apart hl t3 hf t4
      refine .inr (.inl ⟨c,q',Cd λhn=>?_,hc,ZD⟩)
      exact GG (Bg _ (Bg _ (aw.2 ⟨t,EX▸t1,⟨by rw [t2];omega,t0⟩,qz.symm⟩)))
     ·refine .inl ⟨ho, .inl ⟨⟨l,q,hl,hf⟩,λl0 KY r0 WY SV=>?_⟩⟩
      have:=h.1.apart hl WY hf SV
      subst this
      exact GG (Bp _ (by rw [Aj hnf];exact mB.2 (VD l KY)))
  ·refine .inl ⟨λho=>?_, .inr hb⟩
   have h1:=h.1.sc b hb
   rcases (h.1.own (vR b ho)).2 with h2|h2
   ·omega
   ·exact h1.2 h2
 have WU: ∀l∈pl,l∉dead:= λl hl hd=>by
  rcases Av.1 hd with hd|hd
  ·rcases Av.1 hd with hd|hd
   ·obtain ⟨t,ht,_,e⟩:=aw.1 hd
    exact (yB l hl).1 (Bq.2 ⟨t,ht,e⟩)
   ·exact (yB l hl).2 hd
  ·split at hd
   ·cases hd
   ·obtain ⟨t,ht,_,e⟩:=mB.1 hd
    exact (yB l hl).1 (Bq.2 ⟨t,ht,e⟩)
 have KW: ∀j,j<s.Pr->Cw ks j∉pl:= λj hj hp=>WU _ hp (me j hj)
 let bv:Option OB:=s.rp.map λtid=> .var tid ((Xe (Cw ks) 0 s.outs r).drop s.Ui)
 let H1:=(kV s.ins (Xe (Cw ks) 0 s.outs r) pl (st1.Yf dead part)).heap
 have NG: ∀l,l∉pl->Ap H1 l=if l∈dead then none else (Ap st1.heap l).map (OB.map (Bt dead part)):= λl hl=>by
  show Ap (kV _ _ _ _).heap l=_
  rw [wJ hl]
  show Ap (Sl (st1.heap.map λp=>(p.1,p.2.map (Bt dead part))) dead) l=_
  rw [Ks,Lr]
 let H2:=tv H1 (Pj d) bv
 have TL: ∀tid,s.rp=some tid->Pj d∈dead/\Pj d∉pl:= λtid Sv=>by
  obtain ⟨e1,e2⟩:=GM tid Sv
  rw [<-e1]
  exact ⟨me _ (by omega),KW _ (by omega)⟩
 have OQ: ∀l,(∀tid,s.rp=some tid->l≠Pj d)->Ap H2 l=Ap H1 l:= λl hl=>by
  show Ap (tv H1 (Pj d) (s.rp.map _)) l=_
  cases uU:s.rp with
  |none=>rfl
  |some tid=>exact Md _ _ _ _ (hl tid uU)
 have UU: ∀tid,s.rp=some tid->Ap H2 (Pj d)=some (.var tid ((Xe (Cw ks) 0 s.outs r).drop s.Ui)):= λtid Sv=>by
  show Ap (tv H1 (Pj d) (s.rp.map _)) (Pj d)=_
  rw [Sv]
  exact Mz _ _ _ (by rw [NG _ (TL tid Sv).2,Af (TL tid Sv).1])
 have ZO: ∀j,j<s.outs.length-> ∀tid,s.rp=some tid->Cw ks j≠Pj d:= λj hj tid Sv e=>by
  have:=BK j s.outs.length (e.trans (GM tid Sv).1.symm)
  omega
 have UT: ∀l,l∉pl->(∀tid,s.rp=some tid->l≠Pj d)->Ap H2 l=if l∈dead then none else (Ap st1.heap l).map (OB.map (Bt dead part)):= λl hl hv=>by
  rw [OQ l hv,NG l hl]
 let H':=Sz (xp st (gL tks)) (Cw ks) 0 s.outs r H2
 obtain ⟨n1,n2,n3⟩:=kr (D:=D1) (X:=X) (key:=Cw ks) BK (fr:=xp st (gL tks)) (ρ:=ρ) s.outs 0 r Qu H2 QB (λj _ hj=>by
  rw [UT _ (KW j (by omega)) (ZO j (by omega)),Af (me j (by omega))])
 have ja: ∀l,l∉dead->l∉pl->Ap H' l=(Ap st1.heap l).map (OB.map (Bt dead part)):= λl hl kQ=>by
  show Ap (Sz _ _ _ _ _ _) l=_
  rw [n1 l λj _ hj e=>hl (e▸me j (by omega)),UT l kQ (λtid Sv e=>hl (e▸(TL tid Sv).1)),Aj hl]
 have FV: ∀l,l∈dead->(∀j,j<s.Pr->l≠Cw ks j)->Ap H' l=none:= λl hl hj=>by
  show Ap (Sz _ _ _ _ _ _) l=_
  rw [n1 l λj _ h2=>hj j (by omega),UT l (λhp=>WU l hp hl) (λtid Sv e=>hj s.outs.length (by have:=(GM tid Sv).2;omega) (e.trans (GM tid Sv).1.symm)),Af hl]
 have newAt: ∀l b',Ap H' l=some b'->(l∈dead\/Ap st.heap l=none)-> ∃j,j<s.Pr/\l=Cw ks j:=by
  intro l b' hb hd
  refine Cd λhn=>?_
  have lg: ∀j,j<s.Pr->l≠Cw ks j:= λj hj e=>hn ⟨j,hj,e⟩
  rcases Classical.em (l∈dead) with yw|yw
  ·rw [FV l yw lg] at hb;cases hb
  ·rcases hd with hd|hd
   ·exact yw hd
   ·rw [ja l yw (λhp=>by obtain ⟨_,_,_,_,_,_,_,h1,_⟩:=yC l hp;rw [hd] at h1;cases h1)] at hb
    have:Ap st1.heap l=none:=by
     by_cases hi: ∃t∈Iz 0 s.ins as,t.2.Sa=l
     ·obtain ⟨t,ht,e⟩:=hi
      by_cases Im:t.1<Az
      ·rw [<-e,q3 t ht Im,e];exact hd
      ·obtain ⟨b0,_,h1,_⟩:=q4 t ht Im
       rw [e,hd] at h1;cases h1
     ·rw [q2 l λt ht e=>hi ⟨t,ht,e.symm⟩];exact hd
    rw [this] at hb;cases hb
 have KR: ∀k,xp st (gL tks)=true-> ∀q,ρ (Hb k)=some q->q.Bu q.g->X.w0.heap.size<=q.g:=by
  intro k tf q hq hg
  rcases (BP.Vy _ q _ hq hg).2 with h1|⟨c,p,h1,h2,h3⟩
  ·exact Kj h.1.below.size h1
  ·obtain ⟨t,t1,t2,t0,p',t3,t4,_⟩:=Rn c p _ h2 h3
   have hm:t.2.Sa∈gL tks:=aw.2 ⟨t,EX▸t1,⟨by rw [t2];exact h1,t0⟩,rfl⟩
   have:=Au.1 tf _ hm
   split at this
   ·rename_i fr tr e te xs hl
    unfold St.at at hl
    have hb:=(h.1.heap t.2.Sa).Ns hl
    simp only [Bn,Hg,t3] at hb
    rw [hb.1.2.1 _ t4]
    exact hb.1.2.2 this
   ·cases this
 have KP: ∀k q,ρ (Hb k)=some q->k<s.outs.length->q.Bu q.g:=by
  intro k q hq hk
  exact Gk.HW s.outs 0 r Qu vQ k (Zr _) ((Dp _).symm▸hk) q hq
 have hinv: ∀l,l∉dead->(∃t∈Iz 0 s.ins as,t.2.reads=false/\t.2.Sa=l)->gA X D1 w' π st.heap st1.heap l:=by
  rintro l hd ⟨t,ht,h0,rfl⟩
  by_cases Im:t.1<Az
  ·exact absurd (Bg _ (Bg _ (aw.2 ⟨t,EX▸ht,⟨Im,h0⟩,rfl⟩))) hd
  ·exact q4 t ht Im
 have qA: ∀l,(¬ ∃t∈Iz 0 s.ins as,t.2.reads=false/\t.2.Sa=l)->Ap st1.heap l=Ap st.heap l:= λl hn=>by
  by_cases hi: ∃t∈Iz 0 s.ins as,t.2.Sa=l
  ·obtain ⟨t,ht,rfl⟩:=hi
   have hr:t.2.reads=true:=by
    cases h0:t.2.reads with
    |true=>rfl
    |false=>exact absurd ⟨t,ht,h0,rfl⟩ hn
   exact q3 t ht (LL t ht hr)
  ·exact q2 l λt ht e=>hi ⟨t,ht,e.symm⟩
 have IB: ∀l∈pl,∀p,s.ptr=some p->Ap H' l=some (.var p.1 (cc s.ins (cells.map (Bt dead part)) (Xe (Cw ks) 0 s.outs r))):= λl hl p hp=>by
  obtain ⟨p',q,h1,h2,_,_,_,h3,_⟩:=yC l hl
  rw [hp] at h1;cases h1
  show Ap (Sz _ _ _ _ _ _) l=_
  rw [n1 l λj _ hj e=>KW j (by omega) (e▸hl),OQ l (λtid Sv e=>(TL tid Sv).2 (e▸hl))]
  show Ap (kV _ _ _ _).heap l=_
  rw [h2]
  refine zo ?_
  show Ap (Sl (st1.heap.map λp=>(p.1,p.2.map (Bt dead part))) dead) l=_
  rw [Ks,Lr,Aj (WU l hl),qA l (λ⟨t,ht,_,e⟩=>GI l hl t ht e),h3]
  rfl
 have IT: ∀j,j<s.Pr->s.outs.length<=j-> ∃tid,s.rp=some tid/\j=s.outs.length:= λj h1 h2=>by
  cases uU:s.rp with
  |none=>unfold MSpec.Pr at h1;rw [uU] at h1;simp at h1;omega
  |some tid=>exact ⟨tid,rfl,by have:=(GM tid uU).2;omega⟩
 have UX: ∀tid,s.rp=some tid->Ap H' (Pj d)=some (.var tid ((Xe (Cw ks) 0 s.outs r).drop s.Ui)):= λtid Sv=>by
  show Ap (Sz _ _ _ _ _ _) _=_
  rw [n1 _ λj _ hj e=>ZO j (by omega) tid Sv e.symm,UU tid Sv]
 suffices PS:Ax X π' (fI st st1 d s pl tks r) a w'/\Ba X w' π' (fI st st1 d s pl tks r).heap YL v by
  obtain ⟨m1,m2⟩:=PS
  have IU: ∀(kj:List (Nat×Nat)) (l:Nat),l∈Xc st.heap ks tks kj->ij st.heap l=true/\ ∃k j t,(k,j)∈kj/\t∈tks/\t=(Cp false k,Loc.row l)/\ks[j]?=some l:=by
   intro kj
   induction kj with
   |nil=>intro l hl;cases hl
   |cons p kj ih=>
    intro l hl
    obtain ⟨k,j⟩:=p
    have up:l∈Xc st.heap ks tks kj->ij st.heap l=true/\ ∃k' j' t,(k',j')∈(k,j)::kj/\t∈tks/\t=(Cp false k',Loc.row l)/\ks[j']?=some l:= λhl=>by
     obtain ⟨h1,k',j',t,h2,h3⟩:=ih l hl
     exact ⟨h1,k',j',t,Aq _ h2,h3⟩
    simp only [Xc] at hl
    split at hl
    ·rename_i x0 l1 l2 h1 h2
     split at hl
     ·rename_i hc
      simp only [Ag] at hc
      rcases Ay.1 hl with rfl|hl
      ·have:=List.find?_some h1
       have e1:=Gy this
       have e2:=Gy hc.1
       dsimp only at e1
       exact ⟨hc.2,k,j,_,Jh,List.mem_of_find?_eq_some h1,by rw [e1],by rw [h2,e2]⟩
      ·exact up hl
     ·exact up hl
    ·exact up hl
  obtain ⟨r1,r2⟩:=vW h m1 (ls:=Xc st.heap ks tks s.keeps) (n:=s.Ep x) (λl hl=>by
   obtain ⟨_,k,j,t,h1,h2,h3,h4⟩:=IU s.keeps l hl
   have hj:j<ks.length:=(Ai.1 h4).1
   have zX:Cw ks j=l:=by
    rw [Nt hj]
    rw [Ac hj] at h4
    exact Aw h4
   have nR:=p8 (k,j) h1
   rw [show π' l=ρ (Hb j) by rw [<-zX];exact nQ j (by omega),GO]
   have hc:πc (Cp false k)=(π l).map full:=OR k l (by rw [<-h3,<-EX];exact h2)
   dsimp only at nR
   rw [hc] at nR
   cases hp:π l<;>cases hq:sx (Hb j)<;>(rw [hp,hq] at nR;exact nR)) (λl hl=>(IU s.keeps l hl).1) dm
  exact ⟨π',r1,r2 YL v m2⟩
 refine ⟨?_,?_⟩
 ·have hx:=Ax.KE (π':=π') (H':=H') (dead:=dead) (part:=part) (inv:= λl=>(∃t∈Iz 0 s.ins as,t.2.reads=false/\t.2.Sa=l)\/l∈pl) (gv:= λb=>Qk πc b\/s.gv g b) h (λb hb=>by
    rcases hb with hb|hb
    ·obtain ⟨t,h1,h0,q,h2,h3,_⟩:=al b hb
     exact ⟨_,q, .inl ⟨t,h1,h0,rfl⟩,h2,h3⟩
    ·obtain ⟨l,hl,q,h1,h2,_⟩:=yx b hb
     exact ⟨l,q, .inr hl,h1,h2⟩) FY (λl b0 hd h0=>⟨CA l hd,?_⟩) (λl b' hb hd=>?_) (λl hl=>?_) (λm q hd hp hm TN=>?_)
  ·have:({tmps:=(kV s.ins (Xe (Cw ks) 0 s.outs r) pl (st1.Yf dead part)).tmps,heap:=H'} :St)= {tmps:=st.tmps.map (·.map (Bt dead part)),heap:=H'} :=by
    rw [jv]
    show ({tmps:=st1.tmps.map (·.map (Bt dead part)),heap:=H'} :St)=_
    rw [q1]
   show Ax X π' ({tmps:=(kV s.ins (Xe (Cw ks) 0 s.outs r) pl (st1.Yf dead part)).tmps,heap:=H'} :St) a w'
   rw [this]
   exact hx
  ·by_cases zW:l∈pl
   ·obtain ⟨p,q,h1,h2,h3,h4,h5,h6,h7⟩:=yC l zW
    rw [h0] at h6;cases h6
    have nF:=IB l zW p h1
    refine .inr ⟨_,nF,⟨rfl,by rw [jt]⟩,λm=>?_⟩
    unfold cE at jX
    rw [h1] at jX
    obtain ⟨cs,k1,k2,k3⟩:=jX
    rw [<-h7] at k3
    refine ⟨q,h3,h4,cs.toArray,by rw [<-h5];exact k1,?_⟩
    refine Kd.to (ez (H:=st.heap) CA (λl1 b1 sz n NJ FX GJ=>?_) s.ins 0 cells iQ x us o st st1 (Xe (Cw ks) 0 s.outs r) Qu cs (has▸hT) PM (has▸BS) k3 (n3 π' OM (λj _ hj=>nQ j (by omega)))) (by simpa using k2)
    have ZS:l1∉pl:= λhp=>by
     obtain ⟨_,_,_,_,_,_,_,h8,_⟩:=yC l1 hp
     rw [FX] at h8;cases h8;cases GJ
    by_cases hi: ∃t∈Iz 0 s.ins as,t.2.reads=false/\t.2.Sa=l1
    ·obtain ⟨b1,b',e1,e2,e3,e4,e5,e6⟩:=hinv l1 NJ hi
     rw [FX] at e1;cases e1
     exact ⟨b',by rw [ja l1 NJ ZS,e2];simp [e4],by rw [e5.row];exact GJ⟩
    ·exact ⟨_,by rw [ja l1 NJ ZS,qA l1 hi,FX];rfl,by rw [OB.rF];exact GJ⟩
   by_cases hi: ∃t∈Iz 0 s.ins as,t.2.reads=false/\t.2.Sa=l
   ·obtain ⟨b1,b',e1,e2,e3,e4,e5,e6⟩:=hinv l hd hi
    rw [h0] at e1;cases e1
    exact .inr ⟨b',by rw [ja l hd zW,e2];simp [e4],by rw [e3];exact e5,λ_=>e6 π' H' OM⟩
   ·exact .inl ⟨λhh=>hh.elim hi zW,by rw [ja l hd zW,qA l hi,h0];rfl⟩
  ·obtain ⟨j,hj,rfl⟩:=newAt l b' hb hd
   refine ⟨WL j hj,?_,λq b hq=>?_⟩
   ·rw [nQ j hj]
    rcases Nat.lt_or_ge j s.outs.length with NP|NP
    ·rcases n2 j (Zr _) (by omega) with ⟨e1,_⟩|⟨b2,e1,e2⟩
     ·rw [show Ap H' (Cw ks j)=none from e1] at hb;cases hb
     ·rw [show Ap H' (Cw ks j)=some b2 from e1] at hb;cases hb
      exact e2 X π' H' (λhf q hq=>KR j hf q hq (KP j q hq NP)) OM
    ·obtain ⟨tid,Sv,WI⟩:=IT j hj NP
     subst WI
     rw [(GM tid Sv).1,UX tid Sv] at hb;cases hb
     unfold jG at bd
     rw [Sv] at bd
     obtain ⟨q,y1,y2,y3,y4,_⟩:=bd
     rw [GO,y1]
     exact ⟨full q,rfl,y2,_,y3,Kd.to (Kd.take s.Ui (n3 π' OM (λj _ hj=>nQ j (by omega)))).2 (by simpa using y4)⟩
   ·rw [nQ j hj] at hq
    have Ol:=II _ q hq
    refine ⟨λhf=>by rw [Ol];exact hf,λhf=>?_⟩
    rw [Ol] at hf
    obtain ⟨h1,h2⟩:=BP.Vy _ q b hq hf
    refine ⟨h1,h2.imp id ?_,λl2 r2 OY xE KN=>?_⟩
    ·rintro ⟨c,p,h3,h4,h5⟩
     obtain ⟨t,t1,t2,t0,p',t3,t4,_⟩:=Rn c p b h4 h5
     exact ⟨t.2.Sa,p',Bg _ (Bg _ (aw.2 ⟨t,EX▸t1,⟨by rw [t2];exact h3,t0⟩,rfl⟩)),t3,t4⟩
    ·by_cases hk: ∃j,j<s.Pr/\l2=Cw ks j
     ·obtain ⟨j2,GC,rfl⟩:=hk
      rw [nQ j2 GC] at xE
      rw [II _ r2 xE] at KN
      have:=BP.inj _ _ r2 q b xE hq KN hf
      unfold Hb at this
      have:j2=j:=by omega
      rw [this]
     ·have e0:π' l2=if l2∈dead then none else π l2:=qy l2 hk
      rw [e0] at xE
      split at xE
      ·cases xE
      ·rename_i GG
       rcases OY with OY|OY
       ·exact absurd OY GG
       ·rw [(h.1.heap l2).emp OY] at xE;cases xE
  ·by_cases hk: ∃j,j<s.Pr/\l=Cw ks j
   ·obtain ⟨j,hj,rfl⟩:=hk
    rw [nQ j hj]
    rcases Nat.lt_or_ge j s.outs.length with NP|NP
    ·rcases n2 j (Zr _) (by omega) with ⟨_,e1⟩|⟨b2,e1,_⟩
     ·exact e1
     ·rw [show Ap H' (Cw ks j)=some b2 from e1] at hl;cases hl
    ·obtain ⟨tid,Sv,WI⟩:=IT j hj NP
     subst WI
     rw [(GM tid Sv).1,UX tid Sv] at hl;cases hl
   ·have e0:π' l=if l∈dead then none else π l:=qy l hk
    rw [e0]
    split
    ·rfl
    ·rename_i hd
     by_cases zW:l∈pl
     ·obtain ⟨p,_,h1,_⟩:=yC l zW
      rw [IB l zW p h1] at hl;cases hl
     rw [ja l hd zW] at hl
     by_cases hi: ∃t∈Iz 0 s.ins as,t.2.reads=false/\t.2.Sa=l
     ·obtain ⟨_,b',_,e2,_⟩:=hinv l hd hi
      rw [e2] at hl;cases hl
     ·rw [qA l hi] at hl
      cases h0:Ap st.heap l with
      |none=>exact (h.1.heap l).emp h0
      |some b=>rw [h0] at hl;cases hl
  ·refine FY.block _ (h.1.lt hm).1 λvP=>?_
   rcases vP with ho|hg
   rotate_left
   ·obtain ⟨l,hl,q',h1,h2,_⟩:=yx _ hg
    have qz:=h.1.apart hm h1 (h.1.Bu hm) h2
    obtain ⟨_,_,_,_,_,_,_,h3,_⟩:=yC l hl
    obtain ⟨b,TN,hxb⟩:=TN
    rw [qz,h3] at TN;cases TN
    exact hxb rfl
   obtain ⟨t,t1,t0,p,t3,t4,t5⟩:=al _ ho
   have qz:=h.1.apart hm t3 (h.1.Bu hm) t4
   have NT:p=q:=by rw [<-qz,hm] at t3;exact (Aw t3).symm
   cases JG:t.2 with
   |row l=>
    refine hp ?_
    show m∈whole tks
    unfold whole
    exact Mb.2 ⟨t,EX▸t1,by rw [JG,qz,JG];simp [Loc.Sa]⟩
   |sub l i j=>exact t5 l i j JG (by rw [NT])
   |view l=>rw [JG] at t0;cases t0
 ·have XB:=n3 π' OM (λj _ hj=>nQ j (by omega))
  cases uU:s.rp with
  |some tid=>
   unfold jG at bd
   rw [uU] at bd
   obtain ⟨q,y1,y2,y3,y4,rfl⟩:=bd
   unfold HE at ct
   rw [uU] at ct
   simp only [Aa] at ct;subst ct
   refine ⟨full q,tid,_,UX tid uU,?_,rfl⟩
   rw [<-(GM tid uU).1,nQ _ (by have:=(GM tid uU).2;omega),GO,y1]
   rfl
  |none=>
  unfold jG at bd
  rw [uU] at bd
  obtain ⟨bd,XF⟩:=bd
  unfold HE at ct
  rw [uU] at ct
  simp only at ct
  obtain ⟨g1,g2,g3,g4⟩:=ah s.Ia _ (Qu.drop s.Ui) XF (Kd.take s.Ui XB).2
  unfold RP at ct
  unfold DR at bd
  split at ct
  ·rename_i hm
   rw [Af hm] at bd
   simp only [Aa] at ct;subst ct
   subst bd
   exact ⟨_,rfl,g3.symm,g4⟩
  ·rename_i hm
   rw [Aj hm] at bd
   split at ct
   ·rename_i av1 ZJ
    simp only [Aa] at ct;subst ct
    rcases bd with bd|bd
    ·exact g2 0 _ v (by rw [ZJ];rfl) (by rw [bd];rfl)
    ·rw [ZJ,bd] at g1;cases g1
   ·simp only [Aa] at ct;subst ct;trivial
   ·cases ct
end
end Go.Proofs.Ytfgfigkbgecfnaa
