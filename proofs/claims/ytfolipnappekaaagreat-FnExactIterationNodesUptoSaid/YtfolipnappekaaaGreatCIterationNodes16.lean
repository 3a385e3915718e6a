/-
  Part 17 of the proof that the statement FnExactIterationNodes holds.
-/
import Derived.Test.YtfolipnappekaaaGreatCIterationNodes15
namespace Go.Proofs.YtfolipnappekaaaGreat
open Go.RowKit
section
variable {P:Program} {T:Tab} {X:Ctx} {w w':World} {π π':Pi} {H H':List (Nat×OB)}
theorem bz (k:Nat): ¬Ds true k<Bn:=by unfold Ds Bn;simp
theorem fL {k:Nat} (h:k<100000):Ds false k<Bn:=by unfold Ds Bn;simp;omega
def mW (X:Ctx) (D:Nat->Prop) (w':World) (π:Pi) (H Hn:List (Nat×OB)) (l:Nat):Prop:=
 ∃b0 b',Au H l=some b0/\Au Hn l=some b'/\(∀f,OB.map f b0=b0)/\(∀f,OB.map f b'=b')/\b0.fo b'/\ ∀π' H',(∀b,Uf π' b\/X.Sc b->D b)->Cj X w' π' H' (π l) b'
theorem Ad1 {io:Bool} {k:Nat} {τ:Ty} {a:AC} {t:Nat×Loc} (h:t∈Qk io k (.Fm τ) a):t.1=Ds false k:=by
 cases a<;>simp [Qk,views] at h<;>first|(obtain ⟨_,⟨_,_⟩,rfl⟩:=h;rfl)|(rw [h])
theorem XP {io:Bool} {k:Nat} {e:Ty} {te:TypeId} {a:AC} {t:Nat×Loc} (h:t∈Qk io k (.part e te) a):t.1=Ds io k:=by cases a<;>simp [Qk] at h<;>rw [h]
theorem Ad2 {io:Bool} {k:Nat} {e:Ty} {te:TypeId} {a:AC} {t:Nat×Loc} (h:t∈Qk io k (.row e te) a):t.1=Ds io k:=by cases a<;>simp [Qk] at h<;>rw [h]
theorem XQ {io:Bool} {k:Nat} {e:Ty} {te:TypeId} {a:AC} {t:Nat×Loc} (h:t∈Qk io k (.Hk e te) a):t.1=Ds io k:=by cases a<;>simp [Qk] at h<;>rw [h]
theorem fa {D:Nat->Prop} {π':Pi} {fr:Bool} {e:Ty} {es:List Value} {y:e.den} (hD: ∀b,Uf π' b\/X.Sc b->D b) (h:Cells w' D e es y):Cells w' (Dc X.w0.heap.size X.Sc π' (fr&&e.flat)) e es y:=by
 cases hf:e.flat with
 |true=>exact Cells.flat e es y hf h
 |false=>exact Cells.Ex (Ao _) (λ_ _ _=>rfl) (λb _ hb=>by
   rcases hb with hb|hb|⟨hb,_⟩
   ·exact hD b (.inl hb)
   ·exact hD b (.inr hb)
   ·simp at hb) e es y h
theorem XS {D P:Nat->Prop} {g o:Nat} {cur:Array Value} {tr:Bool} {e:Ty} {xs:List e.den}
  (h: ∀(i:Nat) (x:e.den),xs[i]?=some x-> ∃es:List Value,es.length=e.size/\(∀j u,es[j]?=some u->cur[(o+i)*e.size+j]?=some u)/\Cells w' D e es x) (ht:(tr&&e.flat)=true):Xr w' P g o cur e xs:=by
 simp only [Af] at ht
 exact nC ht.2 h
theorem WO {D:Nat->Prop} (h:Mx X w π H) {k:Nat} {c:CK} {ys:c.den} {a:AC} {u:Value} {r:Option Real} {x:c.den} {cur st1:St} (hs:w.heap.size<=w'.heap.size)
  (hU: ∀l i j q b,a= .sub l i j->π l=some q->q.Cu b->b<w.heap.size->(∀r',r=some r'-> ¬r'.Cu b)->w'.heap[b]?=w.heap[b]?)
  {V:List Nat} (ht:eP w (Oq X π V) r u c x/\Tv w π H true a u r c x) (hr:gi w' D r c ys) (he:cF cur c ys a=some st1) (gT: ∀t∈Qk true k c a,Au cur.heap t.2.Xf=Au H t.2.Xf):
  st1.tmps=cur.tmps/\(∀m,(∀t∈Qk true k c a,m≠t.2.Xf)->Au st1.heap m=Au cur.heap m)/\ ∀t∈Qk true k c a,mW X D w' π H st1.heap t.2.Xf:=by
 obtain ⟨hc,ht⟩:=ht
 cases c with
 |Fm τ=>cases a<;>simp [cF] at he;subst he;exact ⟨rfl,λ_ _=>rfl,λt ht=>by simp [Qk] at ht⟩
 |row e te=>
  simp only [Tv] at ht
  cases a<;>simp only [] at ht<;>first|(exact ht.elim)|skip
  ·simp only [cF,Aa] at he;subst he
   exact ⟨rfl,λ_ _=>rfl,λt ht=>by simp [Qk] at ht⟩
  ·rename_i l off len
   obtain ⟨rfl,rfl,rfl,fr,tr,hl⟩:=ht
   have Pe:Au cur.heap l=some (.arr fr tr e te x):=(gT _ (Ae.2 rfl)).trans hl
   simp only [cF,St.at,Pe] at he
   split at he
   ·rename_i Jn
    obtain ⟨_,h1,_⟩:=Jn
    simp only [Aa] at he;subst he
    refine ⟨rfl,λm hm=>Dy _ _ _ _ (hm _ (Ae.2 rfl)),λt Vx=>?_⟩
    have Vx:=Ae.1 Vx
    subst Vx
    refine ⟨_,_,hl,Em _ _ _ _ Pe,λ_=>rfl,λ_=>rfl,⟨rfl,h1.symm⟩,λπ' H' hD=>?_⟩
    have hb:=(h.heap l).Qm hl
    change Cj X w' π' H' (π l) _
    simp only [Cj,Jw] at hb⊢
    cases hp:π l with
    |none=>rw [hp] at hr;exact hr
    |some q=>
     rw [hp] at hr hb
     obtain ⟨k1,cu,ti,k2,k3,k4,k5,k6⟩:=hr
     exact ⟨⟨k1.1,k1.2,λhh=>hb.1.2.2 (by simp only [Af] at hh;exact hh.1)⟩,cu,ti,k2,k3,k4,k5,λi y hy=>by
      obtain ⟨es,g1,g2,g3⟩:=k6 i y hy
      exact ⟨es,g1,g2,fa hD g3⟩,λht=>XS k6 ht⟩
   ·cases he
  ·rename_i l i j
   obtain ⟨⟨_,hf⟩,tid,xs,hl,hx,q,hq,Wh,hre⟩:=ht
   have Pe:Au cur.heap l=some (.Gu (.slice e) tid xs):=(gT _ (Ae.2 rfl)).trans hl
   simp only [cF,St.at,Pe,hx] at he
   rw [Iy trivial] at he
   ·split at he
    ·rename_i h1
     simp only [Aa] at he;subst he
     refine ⟨rfl,λm hm=>Dy _ _ _ _ (hm _ (Ae.2 rfl)),λt Vx=>?_⟩
     have Vx:=Ae.1 Vx
     subst Vx
     refine ⟨_,_,hl,Em _ _ _ _ Pe,λ_=>rfl,λ_=>rfl,⟨rfl,by simp⟩,λπ' H' _=>?_⟩
     show Ny w' (π l) (.slice e) tid _
     rw [hq]
     refine hre w' ys hs (λb It hb hn=>hU l i j q b rfl hq hb It hn) ?_
     have hv:=hc.1
     rw [<-show List.length ys=List.length x from h1] at hv
     exact Ta.QQ hr hf hv
    ·cases he
 |Hk e te=>
  simp only [Tv] at ht
  cases a<;>simp only [] at ht<;>first|(exact ht.elim)|skip
  ·simp only [cF,Aa] at he;subst he
   exact ⟨rfl,λ_ _=>rfl,λt ht=>by simp [Qk] at ht⟩
  ·rename_i l off len
   obtain ⟨rfl,rfl,rfl,hl⟩:=ht
   have Pe:Au cur.heap l=some (.Gu e te x):=(gT _ (Ae.2 rfl)).trans hl
   simp only [cF,St.at,Pe] at he
   split at he
   ·rename_i Jn
    obtain ⟨_,h1,_⟩:=Jn
    simp only [Aa] at he;subst he
    refine ⟨rfl,λm hm=>Dy _ _ _ _ (hm _ (Ae.2 rfl)),λt Vx=>?_⟩
    have Vx:=Ae.1 Vx
    subst Vx
    refine ⟨_,_,hl,Em _ _ _ _ Pe,λ_=>rfl,λ_=>rfl,⟨rfl,h1.symm⟩,λπ' H' _=>?_⟩
    show Ny w' (π l) e te _
    cases hp:π l with
    |none=>rw [hp] at hr;exact hr
    |some q=>rw [hp] at hr;exact hr
   ·cases he
  ·rename_i l i j
   obtain ⟨_,tid,xs,hl,hx,q,hq,Wh,hre⟩:=ht
   have Pe:Au cur.heap l=some (.Gu (.slice e) tid xs):=(gT _ (Ae.2 rfl)).trans hl
   simp only [cF,St.at,Pe,hx] at he
   rw [Iy trivial] at he
   ·split at he
    ·rename_i h1
     simp only [Aa] at he;subst he
     refine ⟨rfl,λm hm=>Dy _ _ _ _ (hm _ (Ae.2 rfl)),λt Vx=>?_⟩
     have Vx:=Ae.1 Vx
     subst Vx
     refine ⟨_,_,hl,Em _ _ _ _ Pe,λ_=>rfl,λ_=>rfl,⟨rfl,by simp⟩,λπ' H' _=>?_⟩
     show Ny w' (π l) (.slice e) tid _
     rw [hq]
     refine hre w' ys hs (λb It hb hn=>hU l i j q b rfl hq hb It hn) ?_
     have hv:=hc.1
     rw [<-show List.length ys=List.length x from h1] at hv
     exact Ny.QQ (te:=te) hr hv
    ·cases he
 |part e te=>cases a<;>simp [cF] at he<;>first|(simp only [Tv] at ht;exact ht.2.elim)
 |Bm e te kp=>exact absurd ht.1 (by simp)
theorem WQ {D:Nat->Prop} (h:Mx X w π H) {k:Nat} {e:Ty} {te:TypeId} {ys:List e.den} {a:AC} {u:Value} {r:Option Real} {x:(CK.part e te).den} {cur st1:St}
  {V:List Nat} (ht:eP w (Oq X π V) r u (.part e te) x/\Tv w π H true a u r (.part e te) x) (hr:gi w' D r (.row e te) ys) (he:PE cur e ys a=some st1) (gT: ∀t∈Qk true k (.part e te) a,Au cur.heap t.2.Xf=Au H t.2.Xf):
  st1.tmps=cur.tmps/\(∀m,(∀t∈Qk true k (.part e te) a,m≠t.2.Xf)->Au st1.heap m=Au cur.heap m)/\ ∀t∈Qk true k (.part e te) a,mW X D w' π H st1.heap t.2.Xf:=by
 obtain ⟨hc,hf,ht⟩:=ht
 cases a<;>simp only [] at ht<;>first|(exact ht.elim)|skip
 rename_i l off len
 obtain ⟨rfl,_,fr,tr,hl⟩:=ht
 have Pe:Au cur.heap l=some (.arr fr tr e te x.1):=(gT _ (Ae.2 rfl)).trans hl
 simp only [PE,St.at,Pe] at he
 split at he
 ·rename_i Jn
  obtain ⟨_,h1⟩:=Jn
  simp only [Aa] at he;subst he
  refine ⟨rfl,λm hm=>Dy _ _ _ _ (hm _ (Ae.2 rfl)),λt Vx=>?_⟩
  have Vx:=Ae.1 Vx
  subst Vx
  refine ⟨_,_,hl,Em _ _ _ _ Pe,λ_=>rfl,λ_=>rfl,⟨rfl,h1.symm⟩,λπ' H' _=>?_⟩
  have hb:=(h.heap l).Qm hl
  change Cj X w' π' H' (π l) _
  simp only [Cj,Jw] at hb⊢
  cases hp:π l with
  |none=>rw [hp] at hr;exact hr
  |some q=>
   rw [hp] at hr hb
   obtain ⟨k1,cu,ti,k2,k3,k4,k5,k6⟩:=hr
   exact ⟨⟨k1.1,k1.2,hb.1.2.2⟩,cu,ti,k2,k3,k4,k5,λi y hy=>by
    obtain ⟨es,g1,g2,g3⟩:=k6 i y hy
    exact ⟨es,g1,g2,Cells.flat e es y hf g3⟩,λ_=>nC hf k6⟩
 ·cases he
def sJ (X:Ctx) (D:Nat->Prop) (w':World) (π:Pi) (H:List (Nat×OB)) (tk:List (Nat×Loc)) (cur st1:St):Prop:=
 st1.tmps=cur.tmps/\(∀m,(∀t∈tk,m≠t.2.Xf)->Au st1.heap m=Au cur.heap m)/\(∀t∈tk,t.1<Bn->Au st1.heap t.2.Xf=Au cur.heap t.2.Xf)/\(∀t∈tk,¬t.1<Bn->mW X D w' π H st1.heap t.2.Xf)
theorem vf {D:Nat->Prop} (h:Mx X w π H) {V:List Nat} {πc:Pi} {tks:List (Nat×Loc)} (hs:w.heap.size<=w'.heap.size)
  (hU: ∀t∈tks,∀q b,π t.2.Xf=some q->q.Cu b->b<w.heap.size->(∀r',πc t.1=some r'-> ¬r'.Cu b)->w'.heap[b]?=w.heap[b]?):
  ∀(cs:List (Bool×CK)) (k:Nat) (x:Ins.den cs) (as:List AC) (us:List Value) (o:IOs.den cs) (cur st1:St),k+cs.length<100000->(∀t∈Lm k cs as,t∈tks)->((Lm k cs as).map λt=>t.2.Xf).Nodup->
   rV X w π V H πc k cs x as us->Lo w' D πc k cs o->Hz cs o as cur=some st1->(∀t∈Lm k cs as,Au cur.heap t.2.Xf=Au H t.2.Xf)->
   sJ X D w' π H (Lm k cs as) cur st1
 | [],k,x,as,us,o,cur,st1,_,_,_,_,_,he,_=>by
  simp only [Hz,Aa] at he;subst he
  have e0:Lm k [] as= []:=by cases as<;>rfl
  exact ⟨rfl,λ_ _=>rfl,by rw [e0];simp,by rw [e0];simp⟩
 |p::r,k,x,[],us,o,cur,st1,_,_,_,ht,_,_,_=>ht.elim
 |p::r,k,x,a::as,[],o,cur,st1,_,_,_,ht,_,_,_=>ht.elim
 |(io,c)::r,k,x,a::as,u::us,o,cur,st1,hk,Qa,SM,ht,ho,he,gT=>by
  simp only [Az] at hk
  simp only [Lm] at Qa SM gT⊢
  rw [Kc] at SM
  obtain ⟨n1,n2,n3⟩:=Cy.1 SM
  have apart: ∀t∈Qk io k c a,∀t'∈Lm (k+1) r as,t'.2.Xf≠t.2.Xf:= λt h1 t' h2 e=>n3 _ (Bj.2 ⟨t,h1,rfl⟩) _ (Bj.2 ⟨t',h2,rfl⟩) e.symm
  have rest: ∀(aA:St) (o':IOs.den r),Lo w' D πc (k+1) r o'->Hz r o' as aA=some st1->aA.tmps=cur.tmps->(∀m,(∀t∈Qk io k c a,m≠t.2.Xf)->Au aA.heap m=Au cur.heap m)->
    (∀t∈Qk io k c a,t.1<Bn->Au aA.heap t.2.Xf=Au cur.heap t.2.Xf)->(∀t∈Qk io k c a,¬t.1<Bn->mW X D w' π H aA.heap t.2.Xf)->
    sJ X D w' π H (Qk io k c a++Lm (k+1) r as) cur st1:=by
   intro aA o' h1 h2 h3 h4 h5 h6
   obtain ⟨g1,g2,g3,g4⟩:=vf h hs hU r (k+1) x.2 as us o' aA st1 (by omega) (λt ht=>Qa t (Bu _ ht)) n2 ht.2 h1 h2 (λt Vx=>by
    rw [h4 _ λt0 ht0=>apart t0 ht0 t Vx];exact gT t (Bu _ Vx))
   have hd: ∀t∈Qk io k c a,Au st1.heap t.2.Xf=Au aA.heap t.2.Xf:= λt Vx=>g2 _ λt' yF=>(apart t Vx t' yF).symm
   refine ⟨g1.trans h3,λm hm=>?_,λt Vx It=>?_,λt Vx It=>?_⟩
   ·rw [g2 m λt ht=>hm t (Bu _ ht),h4 m λt ht=>hm t (Bc _ ht)]
   ·rcases Bb.1 Vx with Vx|Vx
    ·rw [hd t Vx,h5 t Vx It]
    ·rw [g3 t Vx It,h4 _ λt0 ht0=>apart t0 ht0 t Vx]
   ·rcases Bb.1 Vx with Vx|Vx
    ·obtain ⟨b0,b',q1,q2,q3⟩:=h6 t Vx It
     exact ⟨b0,b',q1,(hd t Vx).trans q2,q3⟩
    ·exact g4 t Vx It
  have same: ∀o',Lo w' D πc (k+1) r o'->Hz r o' as cur=some st1->(∀t∈Qk io k c a,t.1<Bn)->sJ X D w' π H (Qk io k c a++Lm (k+1) r as) cur st1:= λo' h1 h2 h3=>rest cur o' h1 h2 rfl (λ_ _=>rfl) (λ_ _ _=>rfl) (λt h4 h5=>absurd (h3 t h4) h5)
  cases io with
  |false=>
   have h3: ∀t∈Qk false k c a,t.1<Bn:= λt h4=>by rcases KB h4 with ⟨h5,_⟩|⟨h5,_⟩<;>(rw [h5];exact fL (by omega))
   cases c with
   |Fm τ=>exact same o ho (by simpa only [Hz] using he) h3
   |row e te=>exact same o ho (by simpa only [Hz] using he) h3
   |Hk e te=>exact same o ho (by simpa only [Hz] using he) h3
   |part e te=>exact same o ho (by simpa only [Hz] using he) h3
   |Bm e te kp=>exact same o ho (by simpa only [Hz] using he) h3
  |true=>
   have row: ∀(ys:c.den) (o':IOs.den r),(∀t∈Qk true k c a,t.1=Ds true k)->gi w' D (πc (Ds true k)) c ys->Lo w' D πc (k+1) r o'->(∃aA,cF cur c ys a=some aA/\Hz r o' as aA=some st1)->sJ X D w' π H (Qk true k c a++Lm (k+1) r as) cur st1:=by
    intro ys o' h0 h1 h2 h3
    obtain ⟨aA,hp,h3⟩:=h3
    ·obtain ⟨q1,q2,q3⟩:=WO (k:=k) h hs (λl i j q b ea hq hb It hn=>by
      cases c with
      |Fm τ=>exact absurd (ht.1.2:πc _=none) (by subst ea;simp [cF] at hp)
      |row e te=>subst ea;exact hU (Ds true k, .sub l i j) (Qa _ (Bc _ (Ae.2 rfl))) q b hq hb It hn
      |Hk e te=>subst ea;exact hU (Ds true k, .sub l i j) (Qa _ (Bc _ (Ae.2 rfl))) q b hq hb It hn
      |Bm e te kp=>exact absurd ht.1.2.1 (by simp)
      |part e te=>exact absurd ht.1.2.2 (by subst ea;exact λh=>h)) ht.1 h1 hp (λt Vx=>gT t (Bc _ Vx))
     exact rest aA o' h2 h3 q1 q2 (λt h4 h5=>absurd h5 (by rw [h0 t h4];exact bz k)) (λt h4 _=>q3 t h4)
   cases c with
   |Fm τ=>exact same o ho (by simpa only [Hz] using he) (λt h4=>by rw [Ad1 h4];exact fL (by omega))
   |Bm e te kp=>exact absurd ht.1.2.1 (by simp)
   |row e te=>
    simp only [Hz] at he
    split at he
    ·rename_i aA hp;exact row o.1 o.2 (λt ht=>Ad2 ht) ho.1 ho.2 ⟨aA,hp,he⟩
    ·cases he
   |Hk e te=>
    simp only [Hz] at he
    split at he
    ·rename_i aA hp;exact row o.1 o.2 (λt ht=>XQ ht) ho.1 ho.2 ⟨aA,hp,he⟩
    ·cases he
   |part e te=>
    simp only [Hz] at he
    split at he
    ·rename_i aA hp
     obtain ⟨q1,q2,q3⟩:=WQ (k:=k) h ht.1 ho.1 hp (λt Vx=>gT t (Bc _ Vx))
     exact rest aA o.2 ho.2 he q1 q2 (λt h4 h5=>absurd h5 (by rw [XP h4];exact bz k)) (λt h4 _=>q3 t h4)
    ·cases he
theorem OE {fr:Bool} {c:CK} {x:c.den} {u:Value} {r:Option Real} {D:Nat->Prop} (h:eP w' D r u c x):
  (x7 fr c x=none/\r=none)\/ ∃b',x7 fr c x=some b'/\ ∀(X:Ctx) π' H',(fr=true-> ∀q,r=some q->X.w0.heap.size<=q.g)->(∀b,Uf π' b\/X.Sc b->D b)->Cj X w' π' H' r b':=by
 cases c with
 |Fm τ=>exact .inl ⟨rfl,h.1⟩
 |row e te=>
  refine .inr ⟨_,rfl,λX π' H' GJ hD=>?_⟩
  obtain ⟨_,h⟩:=h
  simp only [gi] at h
  simp only [Cj,Jw]
  cases r with
  |none=>exact h
  |some q=>
   obtain ⟨k1,cu,ti,k2,k3,k4,k5,k6⟩:=h
   exact ⟨⟨k1.1,k1.2,λh1=>GJ (by simp only [Af] at h1;exact h1.1) q rfl⟩,cu,ti,k2,k3,k4,k5,λi y hy=>by
    obtain ⟨es,g1,g2,g3⟩:=k6 i y hy
    exact ⟨es,g1,g2,fa hD g3⟩,λh=>by cases h⟩
 |Hk e te=>exact .inr ⟨_,rfl,λX π' H' _ _=>h.2⟩
 |Bm e te kp=>exact .inr ⟨_,rfl,λX π' H' _ hD=>⟨aI.Im h.2 λb hb=>hD b (hb.imp id λh=>h.elim id λh=>by cases h.1),trivial⟩⟩
 |part e te=>
  refine .inr ⟨_,rfl,λX π' H' GJ hD=>?_⟩
  obtain ⟨_,hf,h⟩:=h
  simp only [Cj,Jw]
  cases r with
  |none=>exact h
  |some q=>
   obtain ⟨k1,cu,ti,k2,k3,k4,k5,k6⟩:=h
   exact ⟨⟨k1.1,k1.2,λh1=>GJ (by simp only [Af] at h1;exact h1.1) q rfl⟩,cu,ti,k2,k3,k4,k5,λi y hy=>by
    obtain ⟨es,g1,g2,g3⟩:=k6 i y hy
    exact ⟨es,g1,g2,fa hD g3⟩,λh=>by cases h⟩
theorem ru {D:Nat->Prop} {key:Nat->Nat} (Aab: ∀i j,key i=key j->i=j) {fr:Bool} {ρ:Pi} : ∀(cs:List CK) (k:Nat) (x:CKs.den cs) (us:List Value) (H:List (Nat×OB)),Jb w' D ρ k cs x us->
  (∀j,k<=j->j<k+cs.length->Au H (key j)=none)->
  (∀l,(∀j,k<=j->j<k+cs.length->l≠key j)->Au (Yj fr key k cs x H) l=Au H l)/\
  (∀j,k<=j->j<k+cs.length->(Au (Yj fr key k cs x H) (key j)=none/\ρ (Jp j)=none)\/
   ∃b',Au (Yj fr key k cs x H) (key j)=some b'/\ ∀(X:Ctx) π' H',(fr=true-> ∀q,ρ (Jp j)=some q->X.w0.heap.size<=q.g)->(∀b,Uf π' b\/X.Sc b->D b)->Cj X w' π' H' (ρ (Jp j)) b')/\
  (∀π',(∀b,Uf π' b\/X.Sc b->D b)->(∀j,k<=j->j<k+cs.length->π' (key j)=ρ (Jp j))->My X w' π' (Yj fr key k cs x H) (cf key k cs x) us)
 | [],k,x,[],H,_,_=>⟨λ_ _=>rfl,λj h1 h2=>by simp at h2;omega,λ_ _ _=>trivial⟩
 | [],_,_,_::_,_,h,_=>h.elim
 |_::_,_,_,[],_,h,_=>h.elim
 |c::r,k,x,u::us,H,h,hn=>by
  simp only [Az] at hn⊢
  simp only [Yj,cf]
  have um:=hn k (Ao _) (by omega)
  have hH1: ∀l,l≠key k->Au (GU H (key k) (x7 fr c x.1)) l=Au H l:=by
   intro l hl
   cases x7 fr c x.1 with
   |some b=>exact Pk _ _ _ _ hl
   |none=>rfl
  have An1:Au (GU H (key k) (x7 fr c x.1)) (key k)=x7 fr c x.1:=by
   cases x7 fr c x.1 with
   |some b=>exact Qn _ _ _ um
   |none=>exact um
  generalize (GU H (key k) (x7 fr c x.1))=H1 at hH1 An1⊢
  obtain ⟨g1,g2,g3⟩:=ru Aab (fr:=fr) r (k+1) x.2 us H1 h.2 (λj h1 h2=>by
   rw [hH1 _ λe=>by have:=Aab _ _ e;omega];exact hn j (by omega) (by omega))
  have hkk:Au (Yj fr key (k+1) r x.2 H1) (key k)=x7 fr c x.1:=by
   rw [g1 _ λj h1 h2 e=>by have:=Aab _ _ e;omega];exact An1
  refine ⟨λl hl=>?_,λj h1 h2=>?_,λπ' hd hπ=>⟨?_,?_⟩⟩
  ·rw [g1 l λj h1 h2=>hl j (by omega) (by omega)]
   exact hH1 l (hl k (Ao _) (by omega))
  ·rcases Nat.eq_or_lt_of_le h1 with e|h1
   ·subst e
    rw [hkk]
    exact OE h.1
   ·exact g2 j h1 (by omega)
  ·have h1:=h.1
   have hpk:=hπ k (Ao _) (by omega)
   cases c with
   |Fm τ=>
    obtain ⟨iD,c1,c2⟩:=h1.2
    exact ⟨iD,by have:=fa (fr:=true) hd c1;simpa using this,c2⟩
   |row e te=>exact ⟨_,e.size,List.length x.1,hkk,rfl,by simp,by rw [hpk];exact h1.1⟩
   |Hk e te=>exact ⟨_,e.size,List.length x.1,hkk,rfl,by simp,by rw [hpk];exact h1.1⟩
   |Bm e te kp=>exact ⟨_,1,List.length x.1,hkk,rfl,by simp,by rw [hpk];exact h1.1⟩
   |part e te=>trivial
  ·exact g3 π' hd λj h1 h2=>hπ j (by omega) (by omega)
theorem NT {ks:List Nat} {n:Nat} (h:AT ks n=true):ks.length=n/\ks.Nodup/\ ∀l∈ks,l<Bn:=by
 unfold AT at h
 simp only [Af] at h
 refine ⟨Jl h.1,Yi h.2.1,λl hl=>?_⟩
 have:=Bd.1 h.2.2 l hl
 simpa using this
theorem Rj {ks:List Nat} {j:Nat} (h:j<ks.length):Ec ks j=ks[j]:=by
 unfold Ec
 rw [Ac h]
theorem FF {ks:List Nat} (hn:ks.Nodup) (hl: ∀l∈ks,l<Bn): ∀i j,Ec ks i=Ec ks j->i=j:=by
 intro i j h
 by_cases hi:i<ks.length
 ·by_cases hj:j<ks.length
  ·rw [Rj hi,Rj hj] at h
   rcases Nat.lt_trichotomy i j with It|he|It
   ·exact absurd h (Ey.1 hn i j hi hj It)
   ·exact he
   ·exact absurd h.symm (Ey.1 hn j i hj hi It)
  ·have h1:=hl _ (Aj hi)
   rw [Rj hi] at h
   unfold Ec at h
   rw [Fy (by omega)] at h
   simp only at h
   omega
 ·by_cases hj:j<ks.length
  ·have h1:=hl _ (Aj hj)
   rw [Rj hj] at h
   unfold Ec at h
   rw [Fy (by omega)] at h
   simp only at h
   omega
  ·unfold Ec at h
   rw [Fy (by omega),Fy (by omega)] at h
   simp only at h
   omega
theorem Ns: ∀(H:List (Nat×OB)) (dead:List Nat) (l:Nat),Au (Xw H dead) l=if l∈dead then none else Au H l
 | [],dead,l=>by simp [Xw,Au]
 |(k,b)::r,dead,l=>by
  simp only [Xw]
  have ih:=Ns r dead l
  by_cases hk:k∈dead
  ·rw [Ab (by simpa using hk),ih]
   split
   ·rfl
   ·rename_i hl
    simp only [Au]
    rw [Ag (λ(e:k=l)=>hl (e▸hk))]
  ·rw [Ag (by simpa using hk)]
   simp only [Au]
   split
   ·rename_i e;subst e;rw [Ag hk]
   ·exact ih
theorem mem_keys {ks:List Nat} {l:Nat} :l∈ks↔ ∃k,k<ks.length/\l=Ec ks k:=
 ⟨λh=>by obtain ⟨k,hk,e⟩:=Rh h;exact ⟨k,hk,by rw [Rj hk,e]⟩,λ⟨k,hk,e⟩=>by rw [e,Rj hk];exact Aj hk⟩
theorem ew {tks:List (Nat×Loc)} {l:Nat} :l∈np tks↔ ∃t∈tks,(t.1<Bn/\t.2.reads=false)/\t.2.Xf=l:=by
 unfold np
 simp only [Bj,Cm,Af,Ni,Eg]
 exact ⟨λ⟨t,⟨h1,h2⟩,h3⟩=>⟨t,h1,h2,h3⟩,λ⟨t,h1,h2,h3⟩=>⟨t,⟨h1,h2⟩,h3⟩⟩
theorem AU {tks:List (Nat×Loc)} (h:(tks.map λt=>t.2.Xf).Nodup) {t t':Nat×Loc} (ht:t∈tks) (yF:t'∈tks) (he:t.2.Xf=t'.2.Xf):t=t':=by
 induction tks with
 |nil=>cases ht
 |cons a r ih=>
  simp only [Cc] at h
  obtain ⟨h1,h2⟩:=Cd.1 h
  rcases Be.1 ht with rfl|ht<;>rcases Be.1 yF with rfl|yF
  ·rfl
  ·exact (h1 (Bj.2 ⟨t',yF,he.symm⟩)).elim
  ·exact (h1 (he▸Bj.2 ⟨t,‹t∈r›,rfl⟩)).elim
  ·exact ih h2 ht yF
theorem Jb.full {D:Nat->Prop} {ρ:Pi} : ∀(cs:List CK) (k:Nat) (x:CKs.den cs) (us:List Value),Jb w D ρ k cs x us->Jb w D (λl=>(ρ l).map full) k cs x us
 | [],_,_,[],h=>h
 | [],_,_,_::_,h=>h.elim
 |_::_,_,_,[],h=>h.elim
 |c::r,k,x,u::us,h=>⟨by
   have h1:=h.1
   show eP w D ((ρ (Jp k)).map _) u c x.1
   cases c with
   |Fm τ=>rw [h1.1];exact ⟨rfl,h1.2⟩
   |row e te=>cases hp:ρ (Jp k)<;>(rw [hp] at h1;exact h1)
   |Hk e te=>cases hp:ρ (Jp k)<;>(rw [hp] at h1;exact h1)
   |Bm e te kp=>cases hp:ρ (Jp k)<;>(rw [hp] at h1;exact h1)
   |part e te=>cases hp:ρ (Jp k)<;>(rw [hp] at h1;exact h1),Jb.full r (k+1) x.2 us h.2⟩
theorem Jb.Agr {D:Nat->Prop} {ρ:Pi} : ∀(cs:List CK) (k0:Nat) (x:CKs.den cs) (us:List Value),Jb w D ρ k0 cs x us-> ∀j,k0<=j->j<k0+cs.length-> ∀q,ρ (Jp j)=some q->q.Cu q.g
 | [],k0,_,_,_,j,h1,h2,_,_=>by simp at h2;omega
 |_::_,_,_,[],h,_,_,_,_,_=>h.elim
 |c::r,k0,x,u::us,ho,j,h1,h2,q,hq=>by
  rcases Nat.eq_or_lt_of_le h1 with e|h1
  ·subst e
   have:=ho.1
   cases c with
   |Fm τ=>rw [hq] at this;cases this.1
   |row e te=>rw [hq] at this;exact this.2.1.1
   |Hk e te=>rw [hq] at this;exact this.2.1
   |part e te=>rw [hq] at this;exact this.2.2.1.1
   |Bm e te kp=>rw [hq] at this;exact this.2.1
  ·exact Jb.Agr r (k0+1) x.2 us ho.2 j h1 (by simp at h2;omega) q hq
theorem Ta.any {D D':Nat->Prop} {r:Option Real} {e:Ty} {xs:List e.den} (hf:e.flat=true) (h:Ta w D r e xs):Ta w D' r e xs:=by
 cases r with
 |none=>exact h
 |some r=>
  obtain ⟨k1,cu,ti,k2,k3,k4,k5,k6⟩:=h
  exact ⟨k1,cu,ti,k2,k3,k4,k5,λi y hy=>by
   obtain ⟨es,g1,g2,g3⟩:=k6 i y hy
   exact ⟨es,g1,g2,Cells.flat e es y hf g3⟩⟩
theorem Jb.any {D D':Nat->Prop} {ρ:Pi} : ∀(cs:List CK) (k:Nat) (x:CKs.den cs) (us:List Value),cs.all (·.flat)=true->Jb w D ρ k cs x us->Jb w D' ρ k cs x us
 | [],_,_,[],_,h=>h
 | [],_,_,_::_,_,h=>h.elim
 |_::_,_,_,[],_,h=>h.elim
 |c::r,k,x,u::us,hf,h=>by
  simp only [Hx,Af] at hf
  refine ⟨?_,Jb.any r (k+1) x.2 us hf.2 h.2⟩
  have h1:=h.1
  cases c with
  |Fm τ=>exact ⟨h1.1,Ct.flat hf.1 h1.2⟩
  |row e te=>exact ⟨h1.1,Ta.any hf.1 h1.2⟩
  |Hk e te=>exact h1
  |part e te=>exact ⟨h1.1,h1.2.1,Ta.any hf.1 h1.2.2⟩
  |Bm e te kp=>exact absurd hf.1 (by simp [CK.flat])
theorem Lo.any {D D':Nat->Prop} {π:Pi} : ∀(cs:List (Bool×CK)) (k:Nat) (x:IOs.den cs),(cs.all λp=>!p.1||p.2.flat)=true->Lo w D π k cs x->Lo w D' π k cs x
 | [],_,_,_,h=>h
 |(false,_)::r,k,x,hf,h=>Lo.any r (k+1) x (by simp only [Hx,Af] at hf;exact hf.2) h
 |(true, .Fm _)::r,k,x,hf,h=>Lo.any r (k+1) x (by simp only [Hx,Af] at hf;exact hf.2) h
 |(true, .Bm _ _ _)::r,k,x,hf,h=>Lo.any r (k+1) x (by simp only [Hx,Af] at hf;exact hf.2) h
 |(true, .row e te)::r,k,x,hf,h=>by
  simp only [Hx,Af,Bool.not_true,Pg] at hf
  exact ⟨Ta.any hf.1 h.1,Lo.any r (k+1) x.2 hf.2 h.2⟩
 |(true, .Hk e te)::r,k,x,hf,h=>by
  simp only [Hx,Af,Bool.not_true,Pg] at hf
  exact ⟨h.1,Lo.any r (k+1) x.2 hf.2 h.2⟩
 |(true, .part e te)::r,k,x,hf,h=>by
  simp only [Hx,Af,Bool.not_true,Pg] at hf
  exact ⟨Ta.any hf.1 h.1,Lo.any r (k+1) x.2 hf.2 h.2⟩
theorem uL {tks:List (Nat×Loc)} {l:Nat} :l∈DQ tks↔ ∃t∈tks,t.2.reads=true/\t.2.Xf=l:=by
 unfold DQ
 simp only [Bj,Cm]
 exact ⟨λ⟨t,⟨h1,h2⟩,h3⟩=>⟨t,h1,h2,h3⟩,λ⟨t,h1,h2,h3⟩=>⟨t,⟨h1,h2⟩,h3⟩⟩
theorem Bl.od {st:St} {a:Act} (h:Bl X π st a w) {f:AC->AC} (hu:f .undef= .undef) {gv:Nat->Prop} (UR: ∀b,gv b->Uf π b) (hb:Gy w.heap.size gv w w')
  (a5: ∀b,b<w.heap.size->Uf π' b->Uf π b)
  (Qa: ∀l r b,π' l=some r->r.Cu b->r.cl b) (Ajt: ∀l r b,π' l=some r->r.cl b->(X.w0.heap.size<=b\/X.gv b)/\b<w'.heap.size)
  (At6: ∀l l' r r' b,π' l=some r->π' l'=some r'->r.cl b->r'.cl b->l=l')
  (a6: ∀l,Bn<=l->Au H' l≠none->bO (X.ia l) (π' l))
  (hac:(∀fr τ cs x,Cells w (Dc X.w0.heap.size X.Sc π fr) τ cs x->Cells w' (Dc X.w0.heap.size X.Sc π' fr) τ cs x)-> ∀c v,Hm X w π st.heap c v->Hm X w' π' H' (f c) v)
  (MW:Move X w w' π π' st.heap H' f-> ∀l b,Au H' l=some b->Cj X w' π' H' (π' l) b)
  (SN: ∀l,Au H' l=none->π' l=none):
  Bl X π' {tmps:=st.tmps.map (·.map f),heap:=H'} a w':=by
 have hc: ∀fr τ cs x,Cells w (Dc X.w0.heap.size X.Sc π fr) τ cs x->Cells w' (Dc X.w0.heap.size X.Sc π' fr) τ cs x:= λfr τ cs x hh=>
  Cells.Ex hb.size (λk hk hn=>hb.block k hk λhg=>hn (.inl (UR k hg))) (λk It hA=>hA.imp (a5 k It) id) τ cs x hh
 have m:Move X w w' π π' st.heap H' f:=⟨hac hc,hc⟩
 refine ⟨⟨⟨hb.os.trans h.1.below.os,hb.tape.trans h.1.below.tape,hb.output.trans h.1.below.output,Ix h.1.below.size hb.size,λk hk hn=>?_⟩,h.1.sc,Qa,Ajt,At6,a6,λl=>?_⟩,m.PK hu h.2⟩
 ·refine (hb.block k (Di hk h.1.below.size) λhg=>?_).trans (h.1.below.block k hk hn)
  rcases (h.1.own (UR k hg)).2 with h1|h1
  ·omega
  ·exact hn h1
 ·cases hh:Au H' l with
  |none=>exact Ge.Uj (SN l hh) hh
  |some b=>exact Ge.Lj (MW m l b hh) hh
def gk:Option Real->Option Real->Prop
 |none,none=>True
 |some r,some r'=>r.g=r'.g/\r.o=r'.o/\r.cap=r'.cap
 |_,_=>False
theorem gk.rfl' (r:Option Real):gk r r:=by cases r<;>simp [gk]
theorem gk.some {r:Real} {r':Option Real} (h:gk (some r) r'): ∃q,r'=some q/\r.g=q.g/\r.o=q.o/\r.cap=q.cap:=by
 cases r' with
 |none=>exact h.elim
 |some q=>exact ⟨q,rfl,h⟩
theorem gk.own {r r':Option Real} (h:gk r r') {sz off len:Nat} {v:Value} (hv:Hw r sz off len v):Hw r' sz off len v:=by
 cases r<;>cases r'<;>first|exact h.elim|skip
 ·exact hv
 ·obtain ⟨h1,h2,h3⟩:=h
  obtain ⟨ad,g1,g2,g3⟩:=hv
  exact ⟨ad,by rw [<-h3];exact g1,by rw [<-h3];exact g2,by rw [<-h1,<-h2,<-h3];exact g3⟩
structure OB.Ti (b b':OB):Prop where
 row: ∀sz n,b.row=some (sz,n)-> ∃n',b'.row=some (sz,n')/\n<=n'
 gz: ∀p,b.gz=some p->b'.gz=some p
 wQ: ∀p,b.wQ=some p->b'.wQ=some p
 var: ∀tid vs,b= .var tid vs-> ∃Vb vs',b'= .var Vb vs'
 Vv: ∀v m,b= .Vv v m-> ∃m',b'= .Vv v m'
theorem OB.Ti.map (f:AC->AC) (b:OB):b.Ti (b.map f) where
 row:= λsz n h=>⟨n,by cases b<;>exact h,Ao _⟩
 gz:= λp h=>by cases b<;>exact h
 wQ:= λp h=>by cases b<;>exact h
 var:= λtid vs h=>by subst h;exact ⟨_,_,rfl⟩
 Vv:= λv m h=>by subst h;exact ⟨_,rfl⟩
theorem OB.Ti.rfl' (b:OB):b.Ti b where
 row:= λ_sz n h=>⟨n,h,Ao _⟩
 gz:= λ_p h=>h
 wQ:= λ_p h=>h
 var:= λ_tid _vs h=>⟨_,_,h⟩
 Vv:= λ_v _m h=>⟨_,h⟩
theorem OB.Ti.trans {a b c:OB} (h:a.Ti b) (k:b.Ti c):a.Ti c where
 row:= λsz n hr=>by
  obtain ⟨n1,h1,h2⟩:=h.row sz n hr
  obtain ⟨n2,h3,h4⟩:=k.row sz n1 h1
  exact ⟨n2,h3,by omega⟩
 gz:= λp hp=>k.gz p (h.gz p hp)
 wQ:= λp hp=>k.wQ p (h.wQ p hp)
 var:= λtid vs hv=>by obtain ⟨t',v',h1⟩:=h.var tid vs hv;exact k.var t' v' h1
 Vv:= λv m hm=>by obtain ⟨m',h1⟩:=h.Vv v m hm;exact k.Vv v m' h1
theorem oc {f:AC->AC} {D Pt:Nat->Prop} (hf: ∀c,f c= .undef\/(f c=c/\(∀k∈c.refs,¬D k)/\ ∀k i j,c= .sub k i j\/c= .Jv k i j-> ¬Pt k)) (hp: ∀k,¬D k->gk (π k) (π' k))
  (hH: ∀k b,¬D k->Au H k=some b-> ∃b',Au H' k=some b'/\b.Ti b')
  (hg: ∀k r b,¬D k-> ¬Pt k->Au H k=some b->b.gz≠none->π k=some r->w'.heap[r.g]?=w.heap[r.g]?)
  (hc: ∀fr τ cs x,Cells w (Dc X.w0.heap.size X.Sc π fr) τ cs x->Cells w' (Dc X.w0.heap.size X.Sc π' fr) τ cs x): ∀c v,Hm X w π H c v->Hm X w' π' H' (f c) v:=by
 intro c v h
 rcases hf c with e|⟨e,hr,hs⟩
 ·rw [e];trivial
 rw [e]
 cases c with
 |data fr τ x=>obtain ⟨cs,h1,h2⟩:=h;exact ⟨cs,hc _ _ _ _ h1,h2⟩
 |own k off len=>
  obtain ⟨b,sz,n,h1,h0,h2,h3⟩:=h
  have hk:=hr k (by simp [AC.refs])
  obtain ⟨b',g1,g2⟩:=hH k b hk h1
  obtain ⟨n',g3,g4⟩:=g2.row sz n h0
  exact ⟨b',sz,n',g1,g3,by omega,(hp k hk).own h3⟩
 |Hj k i=>
  obtain ⟨r,tid,vs,h1,h2,h3⟩:=h
  have hk:=hr k (by simp [AC.refs])
  obtain ⟨b',g1,g2⟩:=hH k _ hk h1
  obtain ⟨Vb,vs',rfl⟩:=g2.var tid vs rfl
  obtain ⟨q,q1,q2,_⟩:=(h2▸hp k hk).some
  exact ⟨q,Vb,vs',g1,q1,by rw [<-q2];exact h3⟩
 |Jz k i=>
  obtain ⟨r,b,sz,n,h1,h0,h2,h3,h4⟩:=h
  have hk:=hr k (by simp [AC.refs])
  obtain ⟨b',g1,g2⟩:=hH k b hk h1
  obtain ⟨n',g3,g4⟩:=g2.row sz n h0
  obtain ⟨q,q1,q2,q3,_⟩:=(h3▸hp k hk).some
  exact ⟨q,b',sz,n',g1,g3,by omega,q1,by rw [<-q2,<-q3];exact h4⟩
 |sub k i c=>
  obtain ⟨r,b,sz,n,h1,h0,h2,h3,h4,h5⟩:=h
  have hk:=hr k (by simp [AC.refs])
  obtain ⟨b',g1,g2⟩:=hH k b hk h1
  obtain ⟨q,q1,q2,q3,_⟩:=(h2▸hp k hk).some
  exact ⟨q,b',sz,n,g1,g2.gz _ h0,q1,h3,h4,by rw [<-q2,<-q3,World.cell?_of_block (hg k r b hk (hs k i c (.inl rfl)) h1 (by rw [h0];simp) h2)];exact h5⟩
 |Jv k i c=>
  obtain ⟨r,b,n,sz,g,o,len,cap,h1,h0,h2,h3,h4,h5,h6⟩:=h
  have hk:=hr k (by simp [AC.refs])
  obtain ⟨b',g1,g2⟩:=hH k b hk h1
  obtain ⟨q,q1,q2,q3,_⟩:=(h2▸hp k hk).some
  exact ⟨q,b',n,sz,g,o,len,cap,g1,g2.wQ _ h0,q1,h3,h4,by rw [<-q2,<-q3,World.cell?_of_block (hg k r b hk (hs k i c (.inr rfl)) h1 (by cases b<;>first|(cases h0;done)|simp [OB.gz]) h2)];exact h5,h6⟩
 |clo g Ee=>
  obtain ⟨us,h1,h2,h3⟩:=h
  refine ⟨us,h1,h2,λj p hpj=>?_⟩
  obtain ⟨r,tid,vs,h4,h5,h6⟩:=h3 j p hpj
  have hk:=hr p.1 (by simp only [AC.refs,Bj];exact ⟨p,Bs hpj,rfl⟩)
  obtain ⟨b',g1,g2⟩:=hH p.1 _ hk h4
  obtain ⟨Vb,vs',rfl⟩:=g2.var tid vs rfl
  obtain ⟨q,q1,q2,_⟩:=(h5▸hp p.1 hk).some
  exact ⟨q,Vb,vs',g1,q1,by rw [<-q2];exact h6⟩
 |Kh k=>
  obtain ⟨r,vt,m,h1,h2,h3⟩:=h
  have hk:=hr k (by simp [AC.refs])
  obtain ⟨b',g1,g2⟩:=hH k _ hk h1
  obtain ⟨m',rfl⟩:=g2.Vv vt m rfl
  obtain ⟨q,q1,q2,_⟩:=(h2▸hp k hk).some
  exact ⟨q,vt,m',g1,q1,by rw [<-q2];exact h3⟩
 |_=>exact h
theorem Vg (H0:List (Nat×OB)) (ls:List Nat) (n:Nat): ∀(H:List (Nat×OB)) (l:Nat),Au (dy H0 ls n H) l=(Au H l).map λb=>if ls.contains l then b.JG (ca n (Ake (Au H0 l))) else b
 | [],_=>rfl
 |(k,b)::r,l=>by
  simp only [dy,Au]
  split
  ·rename_i e;subst e;rfl
  ·exact Vg H0 ls n r l
theorem OB.CI (b:OB) (kp:Option (Nat×Nat)):b.Ti (b.JG kp):=by
 cases b with
 |Bm e te rows out kp0=>exact ⟨λsz n h=>⟨n,h,Ao _⟩,λp h=>h,λp h=>h,(λ_ _ h=>by cases h),(λ_ _ h=>by cases h)⟩
 |_=>exact OB.Ti.rfl' _
theorem fW (ls:List Nat): ∀(l m:List AV) (t:Nat),l.length=m.length->(∃k i c,l.getD t .undef= .at (.sub k i c)/\ls.contains k=true/\(Ll ls l m).getD t .undef= .at (.sub k i c))\/(Ll ls l m).getD t .undef=m.getD t .undef
 | [],m,t,_=>by cases m<;>exact .inr rfl
 |_::_,[],t,h=>by simp at h
 |a::l,v::m,t,h=>by
  have ih:= λt=>fW ls l m t (by simpa using h)
  have tail: ∀u,Ll ls (a::l) (v::m)=u::Ll ls l m->(t=0->(∃k i c,(a::l).getD t .undef= .at (.sub k i c)/\ls.contains k=true/\u= .at (.sub k i c))\/u=v)->
    (∃k i c,(a::l).getD t .undef= .at (.sub k i c)/\ls.contains k=true/\(Ll ls (a::l) (v::m)).getD t .undef= .at (.sub k i c))\/(Ll ls (a::l) (v::m)).getD t .undef=(v::m).getD t .undef:=by
   intro u e h0
   rw [e]
   rcases t with _|t
   ·rcases h0 rfl with ⟨k,i,c,h1,h2,h3⟩|h3
    ·exact .inl ⟨k,i,c,h1,h2,by simpa using h3⟩
    ·exact .inr (by simpa using h3)
   ·simpa only [No] using ih t
  cases a with
  | «at»c=>
   cases c with
   |sub k i c=>
    refine tail _ rfl λht=>?_
    subst ht
    by_cases hc:ls.contains k=true
    ·exact .inl ⟨k,i,c,rfl,hc,by rw [Ab hc]⟩
    ·exact .inr (by rw [Ag hc])
   |_=>exact tail _ rfl λ_=> .inr rfl
  |_=>exact tail _ rfl λ_=> .inr rfl
theorem we {H:List (Nat×OB)} {ls:List Nat} {n:Nat} : ∀ {l:List AV} {t k i c:Nat},dH H ls n l=true->l.getD t .undef= .at (.sub k i c)->ls.contains k=true->i<n/\i<sN H k
 | [],t,k,i,c,_,h,_=>by simp at h
 |a::l,0,k,i,c,ho,h,hc=>by
  simp only [Xq] at h
  subst h
  simp only [dH,hc,Bool.not_true,Pg,Af,Ni] at ho
  exact ho.1
 |a::l,t+1,k,i,c,ho,h,hc=>by
  refine we (l:=l) (t:=t) (c:=c) ?_ (by simpa only [No] using h) hc
  cases a with
  | «at»d=>cases d with
   |sub _ _ _=>simp only [dH,Af] at ho;exact ho.2
   |_=>exact ho
  |_=>exact ho
theorem NQ {cA st:St} {a:Act} (h0:Bl X π cA a w) (h:Bl X π' st a w') {ls:List Nat} {n:Nat} (hk: ∀l∈ls,yf w w' (π l) (π' l) n) (uh: ∀l∈ls,nQ cA.heap l=true)
  (iY:dH st.heap ls n cA.tmps=true):Bl X π' (mq cA st ls n) a w'/\ ∀c v,Bp X w' π' st.heap c v->Bp X w' π' (mq cA st ls n).heap c v:=by
 by_cases qT:ls= []
 ·subst qT;exact ⟨h,λ_ _ h=>h⟩
 have Ts:mq cA st ls n= {tmps:=Ll ls cA.tmps st.tmps,heap:=dy cA.heap ls n st.heap} :=by
  cases ls with
  |nil=>exact absurd rfl qT
  |cons _ _=>rfl
 rw [Ts]
 have YQ: ∀l∈ls,∃e te rows out kp,Au cA.heap l=some (.Bm e te rows out kp):= λl hl=>by
  have:=uh l hl
  unfold nQ at this
  split at this
  ·exact ⟨_,_,_,_,_,by assumption⟩
  ·cases this
 have srv: ∀k b,Au st.heap k=some b-> ∃b',Au (dy cA.heap ls n st.heap) k=some b'/\b.Ti b':= λk b hb=>by
  rw [Vg,hb]
  refine ⟨_,rfl,?_⟩
  dsimp only
  split
  ·exact OB.CI b _
  ·exact OB.Ti.rfl' b
 have hac:(∀fr τ cs x,Cells w' (Dc X.w0.heap.size X.Sc π' fr) τ cs x->Cells w' (Dc X.w0.heap.size X.Sc π' fr) τ cs x)-> ∀c v,Hm X w' π' st.heap c v->Hm X w' π' (dy cA.heap ls n st.heap) c v:= λhc=>
  oc (f:= λc=>c) (D:= λ_=>False) (Pt:= λ_=>False) (λc=> .inr ⟨rfl,λ_ _ h=>h,λ_ _ _ _ h=>h⟩) (λk _=>gk.rfl' _) (λk b _ hb=>srv k b hb) (λ_ _ _ _ _ _ _ _=>rfl) hc
 have h1:Bl X π' {tmps:=st.tmps.map (·.map λc=>c),heap:=dy cA.heap ls n st.heap} a w':=by
  refine h.od rfl (gv:= λ_=>False) (λ_ hf=>hf.elim) (Gy.refl _ _ _) (λ_ _ ho=>ho) h.1.sub h.1.place h.1.inj (λl hl Ik=>h.1.ia l hl λh2=>Ik (by rw [Vg,h2];rfl)) hac (λm l b hb=>?_) (λl hl=>?_)
  ·rw [Vg] at hb
   cases h2:Au st.heap l with
   |none=>rw [h2] at hb;cases hb
   |some b0=>
    rw [h2] at hb
    simp only [Am,Aa] at hb
    have hbk:=(h.1.heap l).Qm h2
    have LI:=hbk.move m (Ao _) (λr0 c h0 h1=>h.1.sub _ r0 c h0 h1) λ_ _ _ _ _=>rfl
    rw [show OB.map (λc=>c) b0=b0 from OB.HR b0] at LI
    split at hb
    ·rename_i hc
     have hl:l∈ls:=by simpa using hc
     cases b0 with
     |Bm e te rows out kp=>
      simp only [OB.JG] at hb
      subst hb
      refine ⟨LI.1,?_⟩
      obtain ⟨e0,te0,Ai5,Aus,kp0,hg⟩:=YQ l hl
      have um:=((h0.1.heap l).Qm hg).2
      rw [hg]
      simp only [Ake]
      have wT:=hk l hl
      cases kp0 with
      |none=>trivial
      |some p=>
       obtain ⟨l0,n0⟩:=p
       simp only [KeptAt,ca] at um⊢
       cases AG:X.ia l0 with
       |none=>
        cases hp:π l with
        |none=>
         rw [hp] at wT
         cases nM:π' l with
         |none=>trivial
         |some q=>rw [nM] at wT;exact wT.elim
        |some q=>rw [AG,hp] at um;exact um.elim
       |some r0=>
        cases hp:π l with
        |none=>rw [AG,hp] at um;exact um.elim
        |some q=>
         rw [AG,hp] at um
         rw [hp] at wT
         cases nM:π' l with
         |none=>rw [nM] at wT;exact wT.elim
         |some q'=>
          rw [nM] at wT
          obtain ⟨k1,k2,k3,k4⟩:=wT
          obtain ⟨g1,g2,g3,g4⟩:=um
          refine ⟨k1.trans g1,k2.trans g2,k3.trans g3,λj hj hc=>?_⟩
          have e1:=g4 j (by omega) hc
          have e2:=k4 j (by omega) (by omega)
          rw [g1,g2] at e2
          rw [<-e1,e2]
     |_=>simp only [OB.JG] at hb;subst hb;exact LI
    ·subst hb;exact LI
  ·rw [Vg] at hl
   cases h2:Au st.heap l with
   |none=>exact (h.1.heap l).emp h2
   |some b=>rw [h2] at hl;cases hl
 have SH: ∀c v,Bp X w' π' st.heap c v->Bp X w' π' (dy cA.heap ls n st.heap) c v:= λc v hv=>by
  have m:Move X w' w' π' π' st.heap (dy cA.heap ls n st.heap) (λc=>c):=⟨hac λ_ _ _ _ h=>h,λ_ _ _ _ h=>h⟩
  have:=m.av hv
  rwa [AC.map_id] at this
 refine ⟨⟨h1.1,⟨?_,h.2.defers,λt=>?_⟩⟩,SH⟩
 ·have: ∀(l m:List AV),(Ll ls l m).length=m.length:=by
   intro l
   induction l with
   |nil=>intro m;cases m<;>rfl
   |cons a l ih=>
    intro m
    cases m with
    |nil=>cases a with
     | «at»c=>cases c<;>rfl
     |_=>rfl
    |cons v m=>cases a with
     | «at»c=>cases c<;>simp only [Ll,Az,ih m]
     |_=>simp only [Ll,Az,ih m]
  show a.tmps.size=(Ll ls cA.tmps st.tmps).length
  rw [this];exact h.2.size
 ·show Bp X w' π' _ ((Ll ls cA.tmps st.tmps).getD t .undef) _
  rcases fW ls cA.tmps st.tmps t (by rw [<-h0.2.size,<-h.2.size]) with ⟨k,i,c,g1,g2,g3⟩|g
  ·rw [g3]
   have Se:k∈ls:=by simpa using g2
   obtain ⟨i1,i2⟩:=we iY g1 g2
   have hv:=h0.2.tmps t
   rw [show cA.get t=_ from g1] at hv
   obtain ⟨r,b,sz,n',e1,e2,e3,e4,⟨e5,e6⟩,e7⟩:=hv
   obtain ⟨e0,te0,Ai5,Aus,kp0,hg⟩:=YQ k Se
   rw [hg] at e1;cases e1
   simp only [OB.gz,Aa,Ad] at e2
   obtain ⟨rfl,rfl⟩:=e2
   have wT:=hk k Se
   rw [e3] at wT
   cases nM:π' k with
   |none=>rw [nM] at wT;exact wT.elim
   |some q'=>
    rw [nM] at wT
    obtain ⟨k1,k2,k3,k4⟩:=wT
    have ug:Ai5.length<=r.cap:=by
     have:=((h0.1.heap k).Qm hg).1
     rw [e3] at this
     obtain ⟨_,_,_,_,_,_,h5,_⟩:=this
     exact h5
    unfold sN at i2
    split at i2
    ·rename_i e9 te9 Apn Bae kp9 hg9
     refine ⟨q',_,1,Apn.length,by rw [Vg,hg9];rfl,?_,nM,i2,⟨e5,e6⟩,?_⟩
     ·dsimp only
      split<;>rfl
     ·have lk:c=0:=by omega
      subst lk
      rw [k1,k2]
      rw [Ft,Ez] at e7⊢
      rw [k4 i i1 (by omega)];exact e7
    ·omega
  ·rw [g]
   exact SH _ _ (h.2.tmps t)
theorem qb {ins:List (Bool×CK)} {as:List AC} {pl:List Nat} {st:St} :(sn ins as pl st).tmps=st.tmps:=by
 unfold sn
 split
 ·rfl
 ·split<;>rfl
theorem PU {ins:List (Bool×CK)} {as:List AC} {pl:List Nat} {st:St} {m:Nat} (hm:m∉pl):Au (sn ins as pl st).heap m=Au st.heap m:=by
 unfold sn
 split
 ·rfl
 ·rename_i l r
  split
  ·exact Dy _ _ _ _ λe=>hm (e▸Iw)
  ·rfl
theorem WX {ins:List (Bool×CK)} {as:List AC} {l:Nat} {st:St} {tid:TypeId} {vs:List AC} (hl:Au st.heap l=some (.var tid vs)):Au (sn ins as [l] st).heap l=some (.var tid (gH ins vs as)):=by
 simp only [sn,St.at,hl]
 exact Em _ _ _ _ hl
theorem za {α:Type} (ins:List (Bool×CK)) (as:List α):gH ins [] as= []:=by
 rcases ins with _|⟨⟨_|_,c⟩,r⟩<;>rfl
theorem pU {α:Type} : ∀(ins:List (Bool×CK)) (vs as:List α),(gH ins vs as).length=vs.length
 | [],vs,as=>by rw [gH];all_goals simp
 |p::r,[],as=>by rw [za]
 |(true,c)::r,v::vs,as=>by simp only [gH,Az,pU r vs as]
 |(false,c)::r,v::vs,[]=>by rw [gH];all_goals simp
 |(false,c)::r,v::vs,a::as=>by simp only [gH,Az,pU r vs as]
theorem WM {st:St} {a:Act} (h:Bl X π st a w) {s:MSpec} {nd:List AV} {vs:List Value} (hlen:nd.length=vs.length) (SH: ∀(i:Nat) c v,nd[i]?=some c->vs[i]?=some v->Bp X w π st.heap c v)
  {pl:List Nat} {cells:List AC} {rest:List AV} (he:TI st s nd=some (pl,cells,rest)):
  ∃(g:Nat) (cus zu:List Value),rest.length=zu.length/\(∀(i:Nat) c v,rest[i]?=some c->zu[i]?=some v->Bp X w π st.heap c v)/\My X w π st.heap cells cus/\
   ((s.ptr=none/\pl= []/\cells= []/\cus= []/\vs=zu)\/
    ∃p l q,s.ptr=some p/\pl= [l]/\π l=some q/\q.Cu q.g/\g=q.g/\Au st.heap l=some (.var p.1 cells)/\cells.length=p.2/\vs= .pointer (some ⟨g,0,none⟩)::zu/\w.heap[g]?=some (.cells cus.toArray p.1 (0,0))/\Fv X w π st.heap cells cus):=by
 unfold TI at he
 split at he
 ·rename_i hp
  simp only [Aa,Ad] at he
  obtain ⟨rfl,rfl,rfl⟩:=he
  exact ⟨0,[],vs,hlen,SH,trivial, .inl ⟨hp,rfl,rfl,rfl,rfl⟩⟩
 ·rename_i p hp
  split at he
  ·rename_i l i Awx
   split at he
   ·rename_i tid cs hl
    split at he
    ·rename_i hc
     obtain ⟨rfl,hc,rfl⟩:=hc
     simp only [Aa,Ad] at he
     obtain ⟨rfl,rfl,rfl⟩:=he
     unfold St.at at hl
     cases vs with
     |nil=>simp at hlen
     |cons v vs=>
      obtain ⟨r,Vb,vs',h1,h2,rfl⟩:=SH 0 _ v rfl rfl
      rw [hl] at h1;cases h1
      obtain ⟨r',h3,h4,cur,h5,h6⟩:=(h.1.heap l).Qm hl
      rw [h2] at h3;cases h3
      exact ⟨r.g,cur.toList,vs,by simpa using hlen,λi c v h7 h8=>SH (i+1) c v (by simpa using h7) (by simpa using h8),My.of h6, .inr ⟨p,l,r,hp,rfl,h2,h4,rfl,hl,hc,rfl,by simpa using h5,h6⟩⟩
    ·cases he
   ·cases he
  ·cases he
theorem kC {V:List Nat} {πc:Pi} {dead part:List Nat} (hπ: ∀l,l∉dead->π' l=π l) (Kq: ∀l b sz n,l∉dead->Au H l=some b->b.row=some (sz,n)-> ∃b',Au H' l=some b'/\b'.row=some (sz,n)):
  ∀(ins:List (Bool×CK)) (k:Nat) (cells oW:List AC) (x:Ins.den ins) (us:List Value) (o:IOs.den ins) (cur st1:St) (news:List AC) (Sf cs:List Value),rV X w π V H πc k ins x (cells++oW) us->Wi ins cells=true->
   Hz ins o (cells++oW) cur=some st1->Ek πc k ins o cells.length cs Sf->My X w' π' H' news Sf->My X w' π' H' (gH ins (cells.map (Cs dead part)) news) cs
 |ins,k,[],oW,x,us,o,cur,st1,news,Sf,cs,_,_,_,hb,_=>by
  have hb:cs= []:=by rcases ins with _|⟨⟨_|_,c⟩,r⟩<;>(try cases c)<;>simpa [Ek] using hb
  rw [hb,List.map_nil,za]
  trivial
 | [],k,a::cells,oW,x,us,o,cur,st1,news,Sf,cs,_,hk,_,_,_=>by simp [Wi] at hk
 |(true, .Fm τ)::r,k,a::cells,oW,x,us,o,cur,st1,news,Sf,cs,_,hk,_,_,_=>by simp [Wi] at hk
 |(true, .part e te)::r,k,a::cells,oW,x,us,o,cur,st1,news,Sf,cs,_,hk,_,_,_=>by simp [Wi] at hk
 |(true, .Bm e te _)::r,k,a::cells,oW,x,us,o,cur,st1,news,Sf,cs,_,hk,_,_,_=>by simp [Wi] at hk
 |(true, .row e te)::r,k,a::cells,oW,x,us,o,cur,st1,news,Sf,cs,ht,hk,hp,hb,hn=>by
  cases a<;>simp only [Wi,Dh] at hk
  rename_i l off len
  cases us with
  |nil=>exact ht.elim
  |cons u0 us=>
  cases cs with
  |nil=>exact hb.elim
  |cons u cs=>
  obtain ⟨⟨_,h1⟩,h2⟩:=ht
  simp only [Tv] at h1
  obtain ⟨h3,rfl,rfl,fr,tr,h4⟩:=h1
  obtain ⟨h5,h6⟩:=hb
  simp only [Md,Hz] at hp
  split at hp
  rotate_left
  ·cases hp
  rename_i aA hpc
  have US:List.length o.1=List.length x.1:=by
   simp only [cF] at hpc
   repeat' split at hpc
   all_goals first|(cases hpc;done)|(rename_i hc;exact hc.2.1)
  refine ⟨?_,kC hπ Kq r (k+1) cells oW x.2 us o.2 aA st1 news Sf cs h2 hk hp h6 hn⟩
  by_cases hd:l∈dead
  ·have:Cs dead part (.own l 0 (List.length x.1))= .undef:=by
    unfold Cs
    rw [Ab (by simp [AC.refs,hd])]
   rw [this];trivial
  ·rw [cR (by simpa [AC.refs] using hd) (by intro l i j e;rcases e with e|e<;>cases e)]
   obtain ⟨b',g1,g2⟩:=Kq l _ e.size (List.length x.1) hd h4 rfl
   refine ⟨b',e.size,List.length x.1,g1,g2,by omega,?_⟩
   rw [hπ l hd]
   rw [h3,US] at h5
   cases hp:π l<;>(rw [hp] at h5;exact h5)
 |(true, .Hk e te)::r,k,a::cells,oW,x,us,o,cur,st1,news,Sf,cs,ht,hk,hp,hb,hn=>by
  cases a<;>simp only [Wi,Dh] at hk
  rename_i l off len
  cases us with
  |nil=>exact ht.elim
  |cons u0 us=>
  cases cs with
  |nil=>exact hb.elim
  |cons u cs=>
  obtain ⟨⟨_,h1⟩,h2⟩:=ht
  simp only [Tv] at h1
  obtain ⟨h3,rfl,rfl,h4⟩:=h1
  obtain ⟨h5,h6⟩:=hb
  simp only [Md,Hz] at hp
  split at hp
  rotate_left
  ·cases hp
  rename_i aA hpc
  have US:List.length o.1=List.length x.1:=by
   simp only [cF] at hpc
   repeat' split at hpc
   all_goals first|(cases hpc;done)|(rename_i hc;exact hc.2.1)
  refine ⟨?_,kC hπ Kq r (k+1) cells oW x.2 us o.2 aA st1 news Sf cs h2 hk hp h6 hn⟩
  by_cases hd:l∈dead
  ·have:Cs dead part (.own l 0 (List.length x.1))= .undef:=by
    unfold Cs
    rw [Ab (by simp [AC.refs,hd])]
   rw [this];trivial
  ·rw [cR (by simpa [AC.refs] using hd) (by intro l i j e;rcases e with e|e<;>cases e)]
   obtain ⟨b',g1,g2⟩:=Kq l _ e.size (List.length x.1) hd h4 rfl
   refine ⟨b',e.size,List.length x.1,g1,g2,by omega,?_⟩
   rw [hπ l hd]
   rw [h3,US] at h5
   cases hp:π l<;>(rw [hp] at h5;exact h5)
 |(false,c)::r,k,a::cells,oW,x,[],o,cur,st1,news,Sf,cs,ht,hk,hp,hb,hn=>ht.elim
 |(false,c)::r,k,a::cells,oW,x,u0::us,o,cur,st1,news,Sf,[],ht,hk,hp,hb,hn=>by cases c<;>exact hb.elim
 |(false,c)::r,k,a::cells,oW,x,u0::us,o,cur,st1,news,[],u::cs,ht,hk,hp,hb,hn=>by cases c<;>exact hb.elim
 |(false,c)::r,k,a::cells,oW,x,u0::us,o,cur,st1,[],u'::Sf,u::cs,ht,hk,hp,hb,hn=>hn.elim
 |(false,c)::r,k,a::cells,oW,x,u0::us,o,cur,st1,na::news,u'::Sf,u::cs,ht,hk,hp,hb,hn=>by
  have hb2:u=u'/\Ek πc (k+1) r o cells.length cs Sf:=by cases c<;>exact hb
  obtain ⟨rfl,hb3⟩:=hb2
  have hp:Hz r o (cells++oW) cur=some st1:=by cases c<;>simpa only [Md,Hz] using hp
  have hk:Wi r cells=true:=by cases c<;>simpa only [Wi] using hk
  exact ⟨hn.1,kC hπ Kq r (k+1) cells oW x.2 us o cur st1 news Sf cs ht.2 hk hp hb3 hn.2⟩
theorem KD {V:List Nat} {πc:Pi} : ∀(cs:List (Bool×CK)) (k0:Nat) (x:Ins.den cs) (as:List AC) (us:List Value),k0+cs.length<100000->rV X w π V H πc k0 cs x as us-> ∀k l,(Ds false k,Loc.row l)∈Lm k0 cs as->πc (Ds false k)=(π l).map full
 | [],_,_,[],_,_,_,_,_,h=>by cases h
 | [],_,_,_::_,_,_,_,_,_,h=>by cases h
 |_::_,_,_,[],_,_,_,_,_,h=>by cases h
 |_::_,_,_,_::_,[],_,h,_,_,_=>h.elim
 |(io,c)::r,k0,x,a::as,u::us,hk,h,k,l,ht=>by
  simp only [Az] at hk
  simp only [Lm] at ht
  rcases Bb.1 ht with ht|ht
  ·obtain ⟨⟨_,h1⟩,_⟩:=h
   cases c with
   |Fm τ=>cases a<;>simp [Qk,views] at ht
   |row e te=>
    cases a<;>simp [Qk] at ht
    obtain ⟨e1,rfl⟩:=ht
    simp only [Tv] at h1
    rw [e1];exact h1.1
   |Hk e te=>
    cases a<;>simp [Qk] at ht
    obtain ⟨e1,rfl⟩:=ht
    simp only [Tv] at h1
    rw [e1];exact h1.1
   |part e te=>
    cases a<;>simp [Qk] at ht
    obtain ⟨e1,rfl⟩:=ht
    simp only [Tv] at h1
    rw [e1];exact h1.2.1
   |Bm e te kp=>
    cases a<;>simp [Qk] at ht
    obtain ⟨e1,rfl⟩:=ht
    simp only [Tv] at h1
    rw [e1];exact h1.2.1
  ·exact KD r (k0+1) x.2 as us (by omega) h.2 k l ht
theorem rW {st:St} {a:Act} (h:Bl X π st a w) {f:FuncId} {s:MSpec} (hs:Ca P f s) (dst:Option Nat) (nd:List AV) (vs:List Value) (hlen:nd.length=vs.length)
  (SH: ∀(i:Nat) c v,nd[i]?=some c->vs[i]?=some v->Bp X w π st.heap c v) (av:AV) (st':St) (he:Xz st dst s nd=some (av,st')):
  Calls P f vs.toArray w λe w'=> ∃v,e= .returned v/\ ∃π',Bl X π' st' a w'/\Bp X w' π' st'.heap av v:=by
 unfold Xz at he
 split at he
 ·cases he
 rename_i pl cells rest Atq
 split at he
 ·cases he
 rename_i oW p6
 split at he
 ·cases he
 rename_i x tks htk
 split at he
 rotate_left
 ·cases he
 rename_i Jn
 simp only [Af,Ni] at Jn
 obtain ⟨⟨⟨⟨SM,uq⟩,hon⟩,iX⟩,Anp,UW⟩:=Jn
 have UW: ∀l∈pl,l∉(tks.map λt=>t.2.Xf)/\l∉Sk s tks (dst.getD 0):= λl hl=>by
  have:=Bd.1 UW l hl
  simp only [Eg,<-Ii,Jk] at this
  exact ⟨λhm=>this (Bc _ hm),λhm=>this (Bu _ hm)⟩
 split at he
 ·cases he
 rename_i r o hfn
 split at he
 ·cases he
 rename_i st1 Aaj
 obtain ⟨g,cus,zu,Aae,Asm,Att,cE⟩:=WM h hlen SH Atq
 obtain ⟨xO,rfl,LM,Ats⟩:=ar s.Jj rest zu oW Aae Asm p6
 have hrc:=Att.append Ats
 have Rb:p7 s w g (cus++xO) vs:=by
  unfold p7
  rcases cE with ⟨h1,_,_,h2,h3⟩|⟨p,l,q,h1,_,_,_,_,_,h2,h3,h4,h5⟩
  ·rw [h1];subst h2;exact ⟨h3,LM⟩
  ·rw [h1]
   have hl:cus.length=p.2:=h5.1.trans h2
   simp only
   rw [List.drop_append_of_le_length (by omega),List.take_append_of_le_length (by omega),aK (by omega),List.drop_of_length_le (by omega)]
   refine ⟨h3,LM,by simp;omega,h4,λu hu=>?_⟩
   obtain ⟨i,hi,rfl⟩:=Cl.1 hu
   obtain ⟨u',h6,h7,_⟩:=h5.2 i (cells[i]'(by have:=h5.1;omega)) (Ac _)
   rw [Ac hi] at h6
   rw [Ba h6];exact h7
 have UX: ∀l∈pl,∃p q,s.ptr=some p/\pl= [l]/\π l=some q/\q.Cu q.g/\g=q.g/\Au st.heap l=some (.var p.1 cells)/\cells.length=p.2:= λl hl=>by
  rcases cE with ⟨_,h1,_⟩|⟨p,l',q,h1,h2,h3,h4,h5,h6,h7,_⟩
  ·rw [h1] at hl;cases hl
  ·rw [h2] at hl
   have:=Ae.1 hl
   subst this
   exact ⟨p,q,h1,h2,h3,h4,h5,h6,h7⟩
 have UR: ∀b,s.gv g b-> ∃l∈pl,∃q,π l=some q/\q.Cu b/\b=q.g:= λb ⟨h1,h2⟩=>by
  rcases cE with ⟨h3,_⟩|⟨p,l',q,_,h4,h5,h6,h7,_⟩
  ·rw [h3] at h1;cases h1
  ·exact ⟨l',by rw [h4];exact Ae.2 rfl,q,h5,by rw [h2,h7];exact h6,h2.trans h7⟩
 obtain ⟨as,has⟩: ∃as,as=cells++oW:=⟨_,rfl⟩
 obtain ⟨us,hus⟩: ∃us,us=cus++xO:=⟨_,rfl⟩
 rw [<-has] at hrc htk Aaj
 rw [<-hus] at hrc Rb
 let V:=(tks.filter λt=>t.2.reads).map λt=>t.2.Xf
 have hV: ∀t∈tks,t.2.reads=true->t.2.Xf∈V:= λt ht hr=>Bj.2 ⟨t,Cm.2 ⟨ht,hr⟩,rfl⟩
 have hV': ∀l∈V,∃t∈tks,t.2.reads=true/\t.2.Xf=l:= λl hl=>by
  obtain ⟨t,h1,h2⟩:=Bj.1 hl
  exact ⟨t,(Cm.1 h1).1,(Cm.1 h1).2,h2⟩
 clear_value V
 obtain ⟨etk,πc,hT,Aa3,At4,Wh⟩:=wm h.1 (V:=V) s.ins 0 as us x tks (by omega) hrc htk hV
 have NA:=Yi SM
 rw [etk] at NA
 have a5: ∀b,Uf πc b-> ∃t∈Lm 0 s.ins as,t.2.reads=false/\ ∃q,π t.2.Xf=some q/\q.Cu b/\ ∀l i j,t.2= .sub l i j->b≠q.g:= λb ⟨c,q,h1,h2⟩=>by
  obtain ⟨t,t1,_,t3⟩:=Wh c q b h1 h2
  exact ⟨t,t1,t3⟩
 have ND: ∀b,Uf πc b->Uf π b:= λb hb=>let ⟨t,_,_,q,h1,h2,_⟩:=a5 b hb;⟨_,q,h1,h2⟩
 have km:eS πc (λb=>b<w.heap.size):=⟨λl q b h1 h2=>(h.1.own (ND b ⟨l,q,h1,h2⟩)).1,λl l' q q' b h1 h2 h3 h4=>by
  obtain ⟨t,t1,t2,_,p,t3,t4,_⟩:=Wh l q b h1 h3
  obtain ⟨t',t1',t2',_,p',t3',t4',_⟩:=Wh l' q' b h2 h4
  have:=AU NA t1 t1' (h.1.apart t3 t3' t4 t4')
  rw [<-t2,<-t2',this]⟩
 have An4: ∀k l,(Ds false k,Loc.row l)∈Lm 0 s.ins as->πc (Ds false k)=(π l).map full:= λk l ht=>
  KD s.ins 0 x as us (by omega) hT k l ht
 have Aos: ∀b,Uf πc b->Oq X π V b:= λb hb=> .inl ⟨ND b hb,λl hl r' hr hf=>by
  obtain ⟨t,t1,t0,q,t3,t4,_⟩:=a5 b hb
  obtain ⟨t',t1',t2',rfl⟩:=hV' l hl
  rw [etk] at t1'
  have:=AU NA t1 t1' (h.1.apart t3 hr t4 hf)
  subst this
  rw [t0] at t2';cases t2'⟩
 let S:Nat->Prop:= λb=> ¬Uf πc b/\Oq X π V b
 have hS: ∀b,S b->b<w.heap.size/\ ¬Uf πc b:= λb hb=>⟨by
  rcases hb.2 with h1|h1
  ·exact (h.1.own h1.1).1
  ·exact Di (h.1.sc b h1).1 h.1.below.size,hb.1⟩
 have Aey: ∀l∈pl,∀t∈Lm 0 s.ins as,t.2.Xf≠l:= λl hl t ht e=>(UW l hl).1 (Bj.2 ⟨t,etk▸ht,e⟩)
 have hSg:s.ptr.isSome=true->S g:= λhps=>by
  obtain ⟨l,hl,q,h1,h2,h3⟩:=UR g ⟨hps,rfl⟩
  have hno: ¬Uf πc g:= λhb=>by
   obtain ⟨t,t1,_,q',t3,t4,_⟩:=a5 g hb
   exact Aey l hl t t1 (h.1.apart t3 h1 t4 h2)
  refine ⟨hno, .inl ⟨⟨l,q,h1,h2⟩,λl' Kn r' dM hf=>?_⟩⟩
  obtain ⟨t',t1',_,rfl⟩:=hV' l' Kn
  rw [etk] at t1'
  exact Aey l hl t' t1' (h.1.apart dM h1 hf h2)
 refine (hs.calls w S πc us x r o g vs Rb hSg (eR.Im (λb hb=>hb.elim (Aos b) λh=>h.2) s.ins 0 x us (hT.Ap0 s.ins 0 x as us)) km hS At4 hfn).mono ?_
 rintro e w' ⟨v,Sf,EG,rfl,fh,qP,Ael,AB,Ao0,Aah,Ak9,yD⟩
 obtain ⟨ρ,Af4,NC,Aag,Ah6⟩: ∃ρ:Pi,(∀l,ρ l=(EG l).map full)/\Jb w' (gQ S πc EG) ρ 0 s.outs r Sf/\eS ρ (λb=>b<w'.heap.size/\(w.heap.size<=b\/ ∃l q,l<Bn/\πc l=some q/\q.Cu b))/\ ∀l q,ρ l=some q->q.cl=q.Cu:=by
  have un: ∀l q,(EG l).map full=some q-> ∃q0,EG l=some q0/\q=full q0:= λl q hq=>by
   cases hp:EG l with
   |none=>rw [hp] at hq;cases hq
   |some q0=>rw [hp] at hq;exact ⟨q0,rfl,(Ba hq).symm⟩
  refine ⟨λl=>(EG l).map full,λ_=>rfl,Jb.full s.outs 0 r Sf Ao0,⟨λl q b h1 h2=>?_,λl l' q q' b h1 h2 h3 h4=>?_⟩,λl q h1=>?_⟩
  ·obtain ⟨q0,h5,rfl⟩:=un l q h1
   exact Aah.aT l q0 b h5 h2
  ·obtain ⟨q0,h5,rfl⟩:=un l q h1
   obtain ⟨q0',h6,rfl⟩:=un l' q' h2
   exact Aah.inj l l' q0 q0' b h5 h6 h3 h4
  ·obtain ⟨q0,_,rfl⟩:=un l q h1
   rfl
 refine ⟨v,rfl,?_⟩
 split at he
 ·cases he
 rename_i av0 gV
 split at he
 rotate_left
 ·cases he
 rename_i Qa
 simp only [Aa,Ad] at he
 obtain ⟨rfl,rfl⟩:=he
 let D1:Nat->Prop:=if s.flat then λ_=>True else gQ S πc EG
 have At7:Lo w' D1 πc 0 s.ins o:=by
  show Lo w' (if s.flat then λ_=>True else gQ S πc EG) πc 0 s.ins o
  split
  ·rename_i hf
   unfold MSpec.flat at hf
   simp only [Af] at hf
   exact Lo.any s.ins 0 o hf.2 AB
  ·exact AB
 have Ao1:Jb w' D1 ρ 0 s.outs r Sf:=by
  show Jb w' (if s.flat then λ_=>True else gQ S πc EG) ρ 0 s.outs r Sf
  split
  ·rename_i hf
   unfold MSpec.flat at hf
   simp only [Af] at hf
   exact Jb.any s.outs 0 r Sf hf.1 NC
  ·exact NC
 obtain ⟨q1,q2,q3,q4⟩:=vf (D:=D1) (X:=X) (π:=π) (H:=st.heap) h.1 Ael.size (tks:=Lm 0 s.ins as) (πc:=πc) (λt ht q b hq hb It hn=>Ael.block b It λNB=>by
   rcases NB with ⟨c,r',h1,h2⟩|hg
   rotate_left
   ·obtain ⟨l,hl,q',h1,h2,_⟩:=UR b hg
    exact Aey l hl t ht (h.1.apart hq h1 hb h2)
   obtain ⟨t',t1,t2,_,p,t3,t4,_⟩:=Wh c r' b h1 h2
   have:=AU NA ht t1 (h.1.apart hq t3 hb t4)
   subst this
   exact hn r' (t2▸h1) h2) s.ins 0 x as us o st st1 (by omega) (λ_ h=>h) NA hT At7 Aaj (λ_ _=>rfl)
 have Ajy: ∀t∈Lm 0 s.ins as,t.2.reads=true->t.1<Bn:=by
  have: ∀(cs:List (Bool×CK)) (k:Nat) (as:List AC),k+cs.length<100000-> ∀t∈Lm k cs as,t.2.reads=true->t.1<Bn:=by
   intro cs
   induction cs with
   |nil=>intro k as _ t ht;cases as<;>cases ht
   |cons p r ih=>
    intro k as hk t ht hr
    simp only [Az] at hk
    cases as with
    |nil=>cases ht
    |cons a as=>
     simp only [Lm] at ht
     rcases Bb.1 ht with ht|ht
     ·rcases KB ht with ⟨_,h1⟩|⟨h1,_⟩
      ·rw [hr] at h1;cases h1
      ·rw [h1];exact fL (by omega)
     ·exact ih (k+1) as (by omega) t ht hr
  exact this s.ins 0 as (by omega)
 let d:=dst.getD 0
 let ks:=Sk s tks d
 let dead:=np tks++ks++(if s.flat then [] else DQ tks)
 let part:=whole tks
 have Atv:s.outs.length+(mH s d).length=s.Ua:=by unfold MSpec.Ua mH;cases s.rp<;>rfl
 obtain ⟨Ajj,Atc,Ahg⟩:ks.length=s.Ua/\ks.Nodup/\ ∀l∈ks,l<Bn:=by
  have:=NT uq
  rw [Atv] at this
  exact this
 have hno:s.outs.length<=s.Ua:=by unfold MSpec.Ua;omega
 have hvk: ∀tid,s.rp=some tid->Ec ks s.outs.length=To d/\s.Ua=s.outs.length+1:= λtid Yf=>by
  have h1:s.Ua=s.outs.length+1:=by unfold MSpec.Ua;rw [Yf]
  refine ⟨?_,h1⟩
  have h2:ks=nh s tks d++ [To d]:=by show nh s tks d++mH s d=_;unfold mH;rw [Yf]
  have h3:(nh s tks d).length=s.outs.length:=by rw [h2] at Ajj;simp at Ajj;omega
  rw [Rj (by rw [Ajj];omega)]
  simp only [h2]
  rw [List.getElem_append_right (by omega)]
  simp [h3]
 have Aac:=FF Atc Ahg
 have Ata: ∀j,j<s.Ua->Ec ks j<Bn:= λj hj=>Ahg _ (mem_keys.2 ⟨j,by omega,rfl⟩)
 let π':Pi:= λl=>match (List.range s.Ua).find? λj=>decide (Ec ks j=l) with
  |some j=>ρ (Jp j)
  |none=>if l∈dead then none else π l
 have wS: ∀j,j<s.Ua->π' (Ec ks j)=ρ (Jp j):= λj hj=>by
  show (match (List.range s.Ua).find? λi=>decide (Ec ks i=Ec ks j) with|some i=>ρ (Jp i)|none=>_)=_
  cases hf:(List.range s.Ua).find? λi=>decide (Ec ks i=Ec ks j) with
  |none=>
   have:=List.find?_eq_none.1 hf j (Gh.2 hj)
   simp at this
  |some i=>
   have:=List.find?_some hf
   rw [Aac i j (Gt this)]
 have uo: ∀j,j<s.Ua->Ec ks j∈dead:= λj hj=>Bc _ (Bu _ (mem_keys.2 ⟨j,by omega,rfl⟩))
 have AD: ∀l,(¬ ∃j,j<s.Ua/\l=Ec ks j)->π' l=if l∈dead then none else π l:= λl hl=>by
  show (match (List.range s.Ua).find? λi=>decide (Ec ks i=l) with|some i=>ρ (Jp i)|none=>_)=_
  cases hf:(List.range s.Ua).find? λi=>decide (Ec ks i=l) with
  |none=>rfl
  |some i=>
   have h1:=List.find?_some hf
   exact absurd ⟨i,Gh.1 (List.mem_of_find?_eq_some hf),(Gt h1).symm⟩ hl
 have Aav: ∀l,l∉dead->π' l=π l:= λl hl=>by
  rw [AD l (λ⟨j,h1,h2⟩=>hl (h2▸uo j h1)),Ag hl]
 have hD1: ∀b,Uf π' b\/X.Sc b->D1 b:=by
  intro b hb
  show (if s.flat then λ_=>True else gQ S πc EG) b
  split
  ·trivial
  rename_i hnf
  rcases hb with ⟨l,q,hl,hf⟩|hb
  ·by_cases hk: ∃j,j<s.Ua/\l=Ec ks j
   ·obtain ⟨j,hj,rfl⟩:=hk
    rw [wS j hj,Af4] at hl
    cases hp:EG (Jp j) with
    |none=>rw [hp] at hl;cases hl
    |some q0=>rw [hp] at hl;simp only [Am,Aa] at hl;subst hl;exact .inr (.inr ⟨Jp j,q0,hp,hf⟩)
   ·have e0:π' l=if l∈dead then none else π l:=AD l hk
    rw [e0] at hl
    split at hl
    ·cases hl
    ·rename_i Aeu
     by_cases ho:Uf πc b
     ·obtain ⟨c,q',hc,hcb⟩:=ho
      obtain ⟨t,t1,t2,t0,p,t3,t4,_⟩:=Wh c q' b hc hcb
      have AE:=h.1.apart hl t3 hf t4
      refine .inr (.inl ⟨c,q',Ce λhn=>?_,hc,hcb⟩)
      exact Aeu (Bc _ (Bc _ (ew.2 ⟨t,etk▸t1,⟨by rw [t2];omega,t0⟩,AE.symm⟩)))
     ·refine .inl ⟨ho, .inl ⟨⟨l,q,hl,hf⟩,λl0 hl0 r0 hr0 hf0=>?_⟩⟩
      have:=h.1.apart hl hr0 hf hf0
      subst this
      exact Aeu (Bu _ (by rw [Ag hnf];exact uL.2 (hV' l hl0)))
  ·refine .inl ⟨λho=>?_, .inr hb⟩
   have h1:=h.1.sc b hb
   rcases (h.1.own (ND b ho)).2 with h2|h2
   ·omega
   ·exact h1.2 h2
 have hpd: ∀l∈pl,l∉dead:= λl hl hd=>by
  rcases Bb.1 hd with hd|hd
  ·rcases Bb.1 hd with hd|hd
   ·obtain ⟨t,ht,_,e⟩:=ew.1 hd
    exact (UW l hl).1 (Bj.2 ⟨t,ht,e⟩)
   ·exact (UW l hl).2 hd
  ·split at hd
   ·cases hd
   ·obtain ⟨t,ht,_,e⟩:=uL.1 hd
    exact (UW l hl).1 (Bj.2 ⟨t,ht,e⟩)
 have Aji: ∀j,j<s.Ua->Ec ks j∉pl:= λj hj hp=>hpd _ hp (uo j hj)
 let bv:Option OB:=s.rp.map λtid=> .var tid ((cf (Ec ks) 0 s.outs r).drop s.aa)
 let H1:=(sn s.ins (cf (Ec ks) 0 s.outs r) pl (st1.cQ dead part)).heap
 have hH1: ∀l,l∉pl->Au H1 l=if l∈dead then none else (Au st1.heap l).map (OB.map (Cs dead part)):= λl hl=>by
  show Au (sn _ _ _ _).heap l=_
  rw [PU hl]
  show Au (Xw (st1.heap.map λp=>(p.1,p.2.map (Cs dead part))) dead) l=_
  rw [Ns,Ox]
 let H2:=GU H1 (To d) bv
 have hvd: ∀tid,s.rp=some tid->To d∈dead/\To d∉pl:= λtid Yf=>by
  obtain ⟨e1,e2⟩:=hvk tid Yf
  rw [<-e1]
  exact ⟨uo _ (by omega),Aji _ (by omega)⟩
 have An2: ∀l,(∀tid,s.rp=some tid->l≠To d)->Au H2 l=Au H1 l:= λl hl=>by
  show Au (GU H1 (To d) (s.rp.map _)) l=_
  cases LL:s.rp with
  |none=>rfl
  |some tid=>exact Pk _ _ _ _ (hl tid LL)
 have As6: ∀tid,s.rp=some tid->Au H2 (To d)=some (.var tid ((cf (Ec ks) 0 s.outs r).drop s.aa)):= λtid Yf=>by
  show Au (GU H1 (To d) (s.rp.map _)) (To d)=_
  rw [Yf]
  exact Qn _ _ _ (by rw [hH1 _ (hvd tid Yf).2,Ab (hvd tid Yf).1])
 have hkv: ∀j,j<s.outs.length-> ∀tid,s.rp=some tid->Ec ks j≠To d:= λj hj tid Yf e=>by
  have:=Aac j s.outs.length (e.trans (hvk tid Yf).1.symm)
  omega
 have hH2: ∀l,l∉pl->(∀tid,s.rp=some tid->l≠To d)->Au H2 l=if l∈dead then none else (Au st1.heap l).map (OB.map (Cs dead part)):= λl hl hv=>by
  rw [An2 l hv,hH1 l hl]
 let H':=Yj (SA st (np tks)) (Ec ks) 0 s.outs r H2
 obtain ⟨n1,n2,n3⟩:=ru (D:=D1) (X:=X) (key:=Ec ks) Aac (fr:=SA st (np tks)) (ρ:=ρ) s.outs 0 r Sf H2 Ao1 (λj _ hj=>by
  rw [hH2 _ (Aji j (by omega)) (hkv j (by omega)),Ab (uo j (by omega))])
 have pz: ∀l,l∉dead->l∉pl->Au H' l=(Au st1.heap l).map (OB.map (Cs dead part)):= λl hl ur=>by
  show Au (Yj _ _ _ _ _ _) l=_
  rw [n1 l λj _ hj e=>hl (e▸uo j (by omega)),hH2 l ur (λtid Yf e=>hl (e▸(hvd tid Yf).1)),Ag hl]
 have Aeg: ∀l,l∈dead->(∀j,j<s.Ua->l≠Ec ks j)->Au H' l=none:= λl hl hj=>by
  show Au (Yj _ _ _ _ _ _) l=_
  rw [n1 l λj _ h2=>hj j (by omega),hH2 l (λhp=>hpd l hp hl) (λtid Yf e=>hj s.outs.length (by have:=(hvk tid Yf).2;omega) (e.trans (hvk tid Yf).1.symm)),Ab hl]
 have newAt: ∀l b',Au H' l=some b'->(l∈dead\/Au st.heap l=none)-> ∃j,j<s.Ua/\l=Ec ks j:=by
  intro l b' hb hd
  refine Ce λhn=>?_
  have sP: ∀j,j<s.Ua->l≠Ec ks j:= λj hj e=>hn ⟨j,hj,e⟩
  rcases Classical.em (l∈dead) with hd'|hd'
  ·rw [Aeg l hd' sP] at hb;cases hb
  ·rcases hd with hd|hd
   ·exact hd' hd
   ·rw [pz l hd' (λhp=>by obtain ⟨_,_,_,_,_,_,_,h1,_⟩:=UX l hp;rw [hd] at h1;cases h1)] at hb
    have:Au st1.heap l=none:=by
     by_cases hi: ∃t∈Lm 0 s.ins as,t.2.Xf=l
     ·obtain ⟨t,ht,e⟩:=hi
      by_cases It:t.1<Bn
      ·rw [<-e,q3 t ht It,e];exact hd
      ·obtain ⟨b0,_,h1,_⟩:=q4 t ht It
       rw [e,hd] at h1;cases h1
     ·rw [q2 l λt ht e=>hi ⟨t,ht,e.symm⟩];exact hd
    rw [this] at hb;cases hb
 have Aj9: ∀k,SA st (np tks)=true-> ∀q,ρ (Jp k)=some q->q.Cu q.g->X.w0.heap.size<=q.g:=by
  intro k GJ q hq hg
  rcases (Aag.aT _ q _ hq hg).2 with h1|⟨c,p,h1,h2,h3⟩
  ·exact Ix h.1.below.size h1
  ·obtain ⟨t,t1,t2,t0,p',t3,t4,_⟩:=Wh c p _ h2 h3
   have hm:t.2.Xf∈np tks:=ew.2 ⟨t,etk▸t1,⟨by rw [t2];exact h1,t0⟩,rfl⟩
   have:=Bd.1 GJ _ hm
   split at this
   ·rename_i fr tr e te xs hl
    unfold St.at at hl
    have hb:=(h.1.heap t.2.Xf).Qm hl
    simp only [Cj,Jw,t3] at hb
    rw [hb.1.2.1 _ t4]
    exact hb.1.2.2 this
   ·cases this
 have Aj7: ∀k q,ρ (Jp k)=some q->k<s.outs.length->q.Cu q.g:=by
  intro k q hq hk
  exact Jb.Agr s.outs 0 r Sf NC k (Iq _) ((Bv _).symm▸hk) q hq
 have hinv: ∀l,l∉dead->(∃t∈Lm 0 s.ins as,t.2.reads=false/\t.2.Xf=l)->mW X D1 w' π st.heap st1.heap l:=by
  rintro l hd ⟨t,ht,h0,rfl⟩
  by_cases It:t.1<Bn
  ·exact absurd (Bc _ (Bc _ (ew.2 ⟨t,etk▸ht,⟨It,h0⟩,rfl⟩))) hd
  ·exact q4 t ht It
 have AF: ∀l,(¬ ∃t∈Lm 0 s.ins as,t.2.reads=false/\t.2.Xf=l)->Au st1.heap l=Au st.heap l:= λl hn=>by
  by_cases hi: ∃t∈Lm 0 s.ins as,t.2.Xf=l
  ·obtain ⟨t,ht,rfl⟩:=hi
   have hr:t.2.reads=true:=by
    cases h0:t.2.reads with
    |true=>rfl
    |false=>exact absurd ⟨t,ht,h0,rfl⟩ hn
   exact q3 t ht (Ajy t ht hr)
  ·exact q2 l λt ht e=>hi ⟨t,ht,e.symm⟩
 have Agz: ∀l∈pl,∀p,s.ptr=some p->Au H' l=some (.var p.1 (gH s.ins (cells.map (Cs dead part)) (cf (Ec ks) 0 s.outs r))):= λl hl p hp=>by
  obtain ⟨p',q,h1,h2,_,_,_,h3,_⟩:=UX l hl
  rw [hp] at h1;cases h1
  show Au (Yj _ _ _ _ _ _) l=_
  rw [n1 l λj _ hj e=>Aji j (by omega) (e▸hl),An2 l (λtid Yf e=>(hvd tid Yf).2 (e▸hl))]
  show Au (sn _ _ _ _).heap l=_
  rw [h2]
  refine WX ?_
  show Au (Xw (st1.heap.map λp=>(p.1,p.2.map (Cs dead part))) dead) l=_
  rw [Ns,Ox,Ag (hpd l hl),AF l (λ⟨t,ht,_,e⟩=>Aey l hl t ht e),h3]
  rfl
 have Ahi: ∀j,j<s.Ua->s.outs.length<=j-> ∃tid,s.rp=some tid/\j=s.outs.length:= λj h1 h2=>by
  cases LL:s.rp with
  |none=>unfold MSpec.Ua at h1;rw [LL] at h1;simp at h1;omega
  |some tid=>exact ⟨tid,rfl,by have:=(hvk tid LL).2;omega⟩
 have hHv: ∀tid,s.rp=some tid->Au H' (To d)=some (.var tid ((cf (Ec ks) 0 s.outs r).drop s.aa)):= λtid Yf=>by
  show Au (Yj _ _ _ _ _ _) _=_
  rw [n1 _ λj _ hj e=>hkv j (by omega) tid Yf e.symm,As6 tid Yf]
 suffices Anr:Bl X π' (m4 st st1 d s pl tks r) a w'/\Bp X w' π' (m4 st st1 d s pl tks r).heap av0 v by
  obtain ⟨m1,m2⟩:=Anr
  have qT: ∀(kj:List (Nat×Nat)) (l:Nat),l∈c9 st.heap ks tks kj->nQ st.heap l=true/\ ∃k j t,(k,j)∈kj/\t∈tks/\t=(Ds false k,Loc.row l)/\ks[j]?=some l:=by
   intro kj
   induction kj with
   |nil=>intro l hl;cases hl
   |cons p kj ih=>
    intro l hl
    obtain ⟨k,j⟩:=p
    have up:l∈c9 st.heap ks tks kj->nQ st.heap l=true/\ ∃k' j' t,(k',j')∈(k,j)::kj/\t∈tks/\t=(Ds false k',Loc.row l)/\ks[j']?=some l:= λhl=>by
     obtain ⟨h1,k',j',t,h2,h3⟩:=ih l hl
     exact ⟨h1,k',j',t,At _ h2,h3⟩
    simp only [c9] at hl
    split at hl
    ·rename_i x0 l1 l2 h1 h2
     split at hl
     ·rename_i hc
      simp only [Af] at hc
      rcases Be.1 hl with rfl|hl
      ·have:=List.find?_some h1
       have e1:=Jl this
       have e2:=Jl hc.1
       dsimp only at e1
       exact ⟨hc.2,k,j,_,Iw,List.mem_of_find?_eq_some h1,by rw [e1],by rw [h2,e2]⟩
      ·exact up hl
     ·exact up hl
    ·exact up hl
  obtain ⟨r1,r2⟩:=NQ h m1 (ls:=c9 st.heap ks tks s.keeps) (n:=s.Ex x) (λl hl=>by
   obtain ⟨_,k,j,t,h1,h2,h3,h4⟩:=qT s.keeps l hl
   have hj:j<ks.length:=(An.1 h4).1
   have YS:Ec ks j=l:=by
    rw [Rj hj]
    rw [Ac hj] at h4
    exact Ba h4
   have wT:=yD (k,j) h1
   rw [show π' l=ρ (Jp j) by rw [<-YS];exact wS j (by omega),Af4]
   have hc:πc (Ds false k)=(π l).map full:=An4 k l (by rw [<-h3,<-etk];exact h2)
   dsimp only at wT
   rw [hc] at wT
   cases hp:π l<;>cases hq:EG (Jp j)<;>(rw [hp,hq] at wT;exact wT)) (λl hl=>(qT s.keeps l hl).1) Qa
  exact ⟨π',r1,r2 av0 v m2⟩
 refine ⟨?_,?_⟩
 ·have hx:=Bl.Aiq (π':=π') (H':=H') (dead:=dead) (part:=part) (inv:= λl=>(∃t∈Lm 0 s.ins as,t.2.reads=false/\t.2.Xf=l)\/l∈pl) (gv:= λb=>Uf πc b\/s.gv g b) h (λb hb=>by
    rcases hb with hb|hb
    ·obtain ⟨t,h1,h0,q,h2,h3,_⟩:=a5 b hb
     exact ⟨_,q, .inl ⟨t,h1,h0,rfl⟩,h2,h3⟩
    ·obtain ⟨l,hl,q,h1,h2,_⟩:=UR b hb
     exact ⟨l,q, .inr hl,h1,h2⟩) Ael (λl b0 hd h0=>⟨Aav l hd,?_⟩) (λl b' hb hd=>?_) (λl hl=>?_) (λm q hd hp hm hxa=>?_)
  ·have:({tmps:=(sn s.ins (cf (Ec ks) 0 s.outs r) pl (st1.cQ dead part)).tmps,heap:=H'} :St)= {tmps:=st.tmps.map (·.map (Cs dead part)),heap:=H'} :=by
    rw [qb]
    show ({tmps:=st1.tmps.map (·.map (Cs dead part)),heap:=H'} :St)=_
    rw [q1]
   show Bl X π' ({tmps:=(sn s.ins (cf (Ec ks) 0 s.outs r) pl (st1.cQ dead part)).tmps,heap:=H'} :St) a w'
   rw [this]
   exact hx
  ·by_cases YR:l∈pl
   ·obtain ⟨p,q,h1,h2,h3,h4,h5,h6,h7⟩:=UX l YR
    rw [h0] at h6;cases h6
    have iV:=Agz l YR p h1
    refine .inr ⟨_,iV,⟨rfl,by rw [pU]⟩,λm=>?_⟩
    unfold ib at qP
    rw [h1] at qP
    obtain ⟨cs,k1,k2,k3⟩:=qP
    rw [<-h7] at k3
    refine ⟨q,h3,h4,cs.toArray,by rw [<-h5];exact k1,?_⟩
    refine My.to (kC (H:=st.heap) Aav (λl1 b1 sz n hd1 AA VB=>?_) s.ins 0 cells oW x us o st st1 (cf (Ec ks) 0 s.outs r) Sf cs (has▸hT) Anp (has▸Aaj) k3 (n3 π' hD1 (λj _ hj=>wS j (by omega)))) (by simpa using k2)
    have hnp:l1∉pl:= λhp=>by
     obtain ⟨_,_,_,_,_,_,_,h8,_⟩:=UX l1 hp
     rw [AA] at h8;cases h8;cases VB
    by_cases hi: ∃t∈Lm 0 s.ins as,t.2.reads=false/\t.2.Xf=l1
    ·obtain ⟨b1,b',e1,e2,e3,e4,e5,e6⟩:=hinv l1 hd1 hi
     rw [AA] at e1;cases e1
     exact ⟨b',by rw [pz l1 hd1 hnp,e2];simp [e4],by rw [e5.row];exact VB⟩
    ·exact ⟨_,by rw [pz l1 hd1 hnp,AF l1 hi,AA];rfl,by rw [OB.CE];exact VB⟩
   by_cases hi: ∃t∈Lm 0 s.ins as,t.2.reads=false/\t.2.Xf=l
   ·obtain ⟨b1,b',e1,e2,e3,e4,e5,e6⟩:=hinv l hd hi
    rw [h0] at e1;cases e1
    exact .inr ⟨b',by rw [pz l hd YR,e2];simp [e4],by rw [e3];exact e5,λ_=>e6 π' H' hD1⟩
   ·exact .inl ⟨λhh=>hh.elim hi YR,by rw [pz l hd YR,AF l hi,h0];rfl⟩
  ·obtain ⟨j,hj,rfl⟩:=newAt l b' hb hd
   refine ⟨Ata j hj,?_,λq b hq=>?_⟩
   ·rw [wS j hj]
    rcases Nat.lt_or_ge j s.outs.length with hjo|hjo
    ·rcases n2 j (Iq _) (by omega) with ⟨e1,_⟩|⟨b2,e1,e2⟩
     ·rw [show Au H' (Ec ks j)=none from e1] at hb;cases hb
     ·rw [show Au H' (Ec ks j)=some b2 from e1] at hb;cases hb
      exact e2 X π' H' (λhf q hq=>Aj9 j hf q hq (Aj7 j q hq hjo)) hD1
    ·obtain ⟨tid,Yf,hj0⟩:=Ahi j hj hjo
     subst hj0
     rw [(hvk tid Yf).1,hHv tid Yf] at hb;cases hb
     unfold qy at fh
     rw [Yf] at fh
     obtain ⟨q,y1,y2,y3,y4,_⟩:=fh
     rw [Af4,y1]
     exact ⟨full q,rfl,y2,_,y3,My.to (My.take s.aa (n3 π' hD1 (λj _ hj=>wS j (by omega)))).2 (by simpa using y4)⟩
   ·rw [wS j hj] at hq
    have Pe:=Ah6 _ q hq
    refine ⟨λhf=>by rw [Pe];exact hf,λhf=>?_⟩
    rw [Pe] at hf
    obtain ⟨h1,h2⟩:=Aag.aT _ q b hq hf
    refine ⟨h1,h2.imp id ?_,λl2 r2 hd2 SP hf2=>?_⟩
    ·rintro ⟨c,p,h3,h4,h5⟩
     obtain ⟨t,t1,t2,t0,p',t3,t4,_⟩:=Wh c p b h4 h5
     exact ⟨t.2.Xf,p',Bc _ (Bc _ (ew.2 ⟨t,etk▸t1,⟨by rw [t2];exact h3,t0⟩,rfl⟩)),t3,t4⟩
    ·by_cases hk: ∃j,j<s.Ua/\l2=Ec ks j
     ·obtain ⟨j2,hj2,rfl⟩:=hk
      rw [wS j2 hj2] at SP
      rw [Ah6 _ r2 SP] at hf2
      have:=Aag.inj _ _ r2 q b SP hq hf2 hf
      unfold Jp at this
      have:j2=j:=by omega
      rw [this]
     ·have e0:π' l2=if l2∈dead then none else π l2:=AD l2 hk
      rw [e0] at SP
      split at SP
      ·cases SP
      ·rename_i Aeu
       rcases hd2 with hd2|hd2
       ·exact absurd hd2 Aeu
       ·rw [(h.1.heap l2).emp hd2] at SP;cases SP
  ·by_cases hk: ∃j,j<s.Ua/\l=Ec ks j
   ·obtain ⟨j,hj,rfl⟩:=hk
    rw [wS j hj]
    rcases Nat.lt_or_ge j s.outs.length with hjo|hjo
    ·rcases n2 j (Iq _) (by omega) with ⟨_,e1⟩|⟨b2,e1,_⟩
     ·exact e1
     ·rw [show Au H' (Ec ks j)=some b2 from e1] at hl;cases hl
    ·obtain ⟨tid,Yf,hj0⟩:=Ahi j hj hjo
     subst hj0
     rw [(hvk tid Yf).1,hHv tid Yf] at hl;cases hl
   ·have e0:π' l=if l∈dead then none else π l:=AD l hk
    rw [e0]
    split
    ·rfl
    ·rename_i hd
     by_cases YR:l∈pl
     ·obtain ⟨p,_,h1,_⟩:=UX l YR
      rw [Agz l YR p h1] at hl;cases hl
     rw [pz l hd YR] at hl
     by_cases hi: ∃t∈Lm 0 s.ins as,t.2.reads=false/\t.2.Xf=l
     ·obtain ⟨_,b',_,e2,_⟩:=hinv l hd hi
      rw [e2] at hl;cases hl
     ·rw [AF l hi] at hl
      cases h0:Au st.heap l with
      |none=>exact (h.1.heap l).emp h0
      |some b=>rw [h0] at hl;cases hl
  ·refine Ael.block _ (h.1.lt hm).1 λNB=>?_
   rcases NB with ho|hg
   rotate_left
   ·obtain ⟨l,hl,q',h1,h2,_⟩:=UR _ hg
    have AE:=h.1.apart hm h1 (h.1.Cu hm) h2
    obtain ⟨_,_,_,_,_,_,_,h3,_⟩:=UX l hl
    obtain ⟨b,hxa,hxb⟩:=hxa
    rw [AE,h3] at hxa;cases hxa
    exact hxb rfl
   obtain ⟨t,t1,t0,p,t3,t4,t5⟩:=a5 _ ho
   have AE:=h.1.apart hm t3 (h.1.Cu hm) t4
   have hpq:p=q:=by rw [<-AE,hm] at t3;exact (Ba t3).symm
   cases ht2:t.2 with
   |row l=>
    refine hp ?_
    show m∈whole tks
    unfold whole
    exact Hl.2 ⟨t,etk▸t1,by rw [ht2,AE,ht2];simp [Loc.Xf]⟩
   |sub l i j=>exact t5 l i j ht2 (by rw [hpq])
   |view l=>rw [ht2] at t0;cases t0
 ·have Atu:=n3 π' hD1 (λj _ hj=>wS j (by omega))
  cases LL:s.rp with
  |some tid=>
   unfold qy at fh
   rw [LL] at fh
   obtain ⟨q,y1,y2,y3,y4,rfl⟩:=fh
   unfold Afs at gV
   rw [LL] at gV
   simp only [Aa] at gV;subst gV
   refine ⟨full q,tid,_,hHv tid LL,?_,rfl⟩
   rw [<-(hvk tid LL).1,wS _ (by have:=(hvk tid LL).2;omega),Af4,y1]
   rfl
  |none=>
  unfold qy at fh
  rw [LL] at fh
  obtain ⟨fh,Au2⟩:=fh
  unfold Afs at gV
  rw [LL] at gV
  simp only at gV
  obtain ⟨g1,g2,g3,g4⟩:=ed s.Ih _ (Sf.drop s.aa) Au2 (My.take s.aa Atu).2
  unfold Apm at gV
  unfold Ac7 at fh
  split at gV
  ·rename_i hm
   rw [Ab hm] at fh
   simp only [Aa] at gV;subst gV
   subst fh
   exact ⟨_,rfl,g3.symm,g4⟩
  ·rename_i hm
   rw [Ag hm] at fh
   split at gV
   ·rename_i av1 hga
    simp only [Aa] at gV;subst gV
    rcases fh with fh|fh
    ·exact g2 0 _ v (by rw [hga];rfl) (by rw [fh];rfl)
    ·rw [hga,fh] at g1;cases g1
   ·simp only [Aa] at gV;subst gV;trivial
   ·cases gV
end
end Go.Proofs.YtfolipnappekaaaGreat
