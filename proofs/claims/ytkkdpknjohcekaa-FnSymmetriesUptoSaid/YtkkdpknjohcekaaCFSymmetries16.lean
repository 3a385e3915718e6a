/-
  Part 17 of the proof that the statement FnSymmetries holds.
-/
import Derived.Test.YtkkdpknjohcekaaCFSymmetries15
namespace Go.Proofs.Ytkkdpknjohcekaa
open Go.RowKit
section
variable {P:Program} {T:Tab} {X:Ctx} {w w':World} {π π':Pi} {H H':List (Nat×OB)}
theorem Zy (k:Nat): ¬Dt true k<Be:=by unfold Dt Be;simp
theorem dH {k:Nat} (h:k<100000):Dt false k<Be:=by unfold Dt Be;simp;omega
def kq (X:Ctx) (D:Nat->Prop) (w':World) (π:Pi) (H Hn:List (Nat×OB)) (l:Nat):Prop:=
 ∃b0 b',As H l=some b0/\As Hn l=some b'/\(∀f,OB.map f b0=b0)/\(∀f,OB.map f b'=b')/\b0.dv b'/\ ∀π' H',(∀b,Un π' b\/X.Sc b->D b)->By X w' π' H' (π l) b'
theorem RU {io:Bool} {k:Nat} {τ:Ty} {a:AC} {t:Nat×Loc} (h:t∈Pw io k (.Gb τ) a):t.1=Dt false k:=by
 cases a<;>simp [Pw,views] at h<;>first|(obtain ⟨_,⟨_,_⟩,rfl⟩:=h;rfl)|(rw [h])
theorem LL {io:Bool} {k:Nat} {e:Ty} {te:TypeId} {a:AC} {t:Nat×Loc} (h:t∈Pw io k (.part e te) a):t.1=Dt io k:=by cases a<;>simp [Pw] at h<;>rw [h]
theorem RV {io:Bool} {k:Nat} {e:Ty} {te:TypeId} {a:AC} {t:Nat×Loc} (h:t∈Pw io k (.row e te) a):t.1=Dt io k:=by cases a<;>simp [Pw] at h<;>rw [h]
theorem LM {io:Bool} {k:Nat} {e:Ty} {te:TypeId} {a:AC} {t:Nat×Loc} (h:t∈Pw io k (.Ha e te) a):t.1=Dt io k:=by cases a<;>simp [Pw] at h<;>rw [h]
theorem de {D:Nat->Prop} {π':Pi} {fr:Bool} {e:Ty} {es:List Value} {y:e.den} (hD: ∀b,Un π' b\/X.Sc b->D b) (h:Cells w' D e es y):Cells w' (Cr X.w0.heap.size X.Sc π' (fr&&e.flat)) e es y:=by
 cases hf:e.flat with
 |true=>exact Cells.flat e es y hf h
 |false=>exact Cells.Fw (Ar _) (λ_ _ _=>rfl) (λb _ hb=>by
   rcases hb with hb|hb|⟨hb,_⟩
   ·exact hD b (.inl hb)
   ·exact hD b (.inr hb)
   ·simp at hb) e es y h
theorem LN {D P:Nat->Prop} {g o:Nat} {cur:Array Value} {tr:Bool} {e:Ty} {xs:List e.den}
  (h: ∀(i:Nat) (x:e.den),xs[i]?=some x-> ∃es:List Value,es.length=e.size/\(∀j u,es[j]?=some u->cur[(o+i)*e.size+j]?=some u)/\Cells w' D e es x) (ht:(tr&&e.flat)=true):Wd w' P g o cur e xs:=by
 simp only [Ag] at ht
 exact kT ht.2 h
theorem KI {D:Nat->Prop} (h:Mm X w π H) {k:Nat} {c:CK} {ys:c.den} {a:AC} {u:Value} {r:Option Real} {x:c.den} {cur st1:St} (hs:w.heap.size<=w'.heap.size)
  (hU: ∀l i j q b,a= .sub l i j->π l=some q->q.Cm b->b<w.heap.size->(∀r',r=some r'-> ¬r'.Cm b)->w'.heap[b]?=w.heap[b]?)
  {V:List Nat} (ht:cU w (Nz X π V) r u c x/\Sm w π H true a u r c x) (hr:ei w' D r c ys) (he:aY cur c ys a=some st1) (eQ: ∀t∈Pw true k c a,As cur.heap t.2.Vx=As H t.2.Vx):
  st1.tmps=cur.tmps/\(∀m,(∀t∈Pw true k c a,m≠t.2.Vx)->As st1.heap m=As cur.heap m)/\ ∀t∈Pw true k c a,kq X D w' π H st1.heap t.2.Vx:=by
 obtain ⟨hc,ht⟩:=ht
 cases c with
 |Gb τ=>cases a<;>simp [aY] at he;subst he;exact ⟨rfl,λ_ _=>rfl,λt ht=>by simp [Pw] at ht⟩
 |row e te=>
  simp only [Sm] at ht
  cases a<;>simp only [] at ht<;>first|(exact ht.elim)|skip
  ·simp only [aY,Aa] at he;subst he
   exact ⟨rfl,λ_ _=>rfl,λt ht=>by simp [Pw] at ht⟩
  ·rename_i l off len
   obtain ⟨rfl,rfl,rfl,fr,tr,hl⟩:=ht
   have Qp:As cur.heap l=some (.arr fr tr e te x):=(eQ _ (Ae.2 rfl)).trans hl
   simp only [aY,St.at,Qp] at he
   split at he
   ·rename_i Jg
    obtain ⟨_,h1,_⟩:=Jg
    simp only [Aa] at he;subst he
    refine ⟨rfl,λm hm=>Dv _ _ _ _ (hm _ (Ae.2 rfl)),λt Uq=>?_⟩
    have Uq:=Ae.1 Uq
    subst Uq
    refine ⟨_,_,hl,Ej _ _ _ _ Qp,λ_=>rfl,λ_=>rfl,⟨rfl,h1.symm⟩,λπ' H' hD=>?_⟩
    have hb:=(h.heap l).Qq hl
    change By X w' π' H' (π l) _
    simp only [By,Jo] at hb⊢
    cases hp:π l with
    |none=>rw [hp] at hr;exact hr
    |some q=>
     rw [hp] at hr hb
     obtain ⟨k1,cu,ti,k2,k3,k4,k5,k6⟩:=hr
     exact ⟨⟨k1.1,k1.2,λhh=>hb.1.2.2 (by simp only [Ag] at hh;exact hh.1)⟩,cu,ti,k2,k3,k4,k5,λi y hy=>by
      obtain ⟨es,g1,g2,g3⟩:=k6 i y hy
      exact ⟨es,g1,g2,de hD g3⟩,λht=>LN k6 ht⟩
   ·cases he
  ·rename_i l i j
   obtain ⟨⟨_,hf⟩,tid,xs,hl,hx,q,hq,Vc,hre⟩:=ht
   have Qp:As cur.heap l=some (.Gg (.slice e) tid xs):=(eQ _ (Ae.2 rfl)).trans hl
   simp only [aY,St.at,Qp,hx] at he
   rw [Ih trivial] at he
   ·split at he
    ·rename_i h1
     simp only [Aa] at he;subst he
     refine ⟨rfl,λm hm=>Dv _ _ _ _ (hm _ (Ae.2 rfl)),λt Uq=>?_⟩
     have Uq:=Ae.1 Uq
     subst Uq
     refine ⟨_,_,hl,Ej _ _ _ _ Qp,λ_=>rfl,λ_=>rfl,⟨rfl,by simp⟩,λπ' H' _=>?_⟩
     show Nj w' (π l) (.slice e) tid _
     rw [hq]
     refine hre w' ys hs (λb Jx hb hn=>hU l i j q b rfl hq hb Jx hn) ?_
     have hv:=hc.1
     rw [<-show List.length ys=List.length x from h1] at hv
     exact Rw.FB hr hf hv
    ·cases he
 |Ha e te=>
  simp only [Sm] at ht
  cases a<;>simp only [] at ht<;>first|(exact ht.elim)|skip
  ·simp only [aY,Aa] at he;subst he
   exact ⟨rfl,λ_ _=>rfl,λt ht=>by simp [Pw] at ht⟩
  ·rename_i l off len
   obtain ⟨rfl,rfl,rfl,hl⟩:=ht
   have Qp:As cur.heap l=some (.Gg e te x):=(eQ _ (Ae.2 rfl)).trans hl
   simp only [aY,St.at,Qp] at he
   split at he
   ·rename_i Jg
    obtain ⟨_,h1,_⟩:=Jg
    simp only [Aa] at he;subst he
    refine ⟨rfl,λm hm=>Dv _ _ _ _ (hm _ (Ae.2 rfl)),λt Uq=>?_⟩
    have Uq:=Ae.1 Uq
    subst Uq
    refine ⟨_,_,hl,Ej _ _ _ _ Qp,λ_=>rfl,λ_=>rfl,⟨rfl,h1.symm⟩,λπ' H' _=>?_⟩
    show Nj w' (π l) e te _
    cases hp:π l with
    |none=>rw [hp] at hr;exact hr
    |some q=>rw [hp] at hr;exact hr
   ·cases he
  ·rename_i l i j
   obtain ⟨_,tid,xs,hl,hx,q,hq,Vc,hre⟩:=ht
   have Qp:As cur.heap l=some (.Gg (.slice e) tid xs):=(eQ _ (Ae.2 rfl)).trans hl
   simp only [aY,St.at,Qp,hx] at he
   rw [Ih trivial] at he
   ·split at he
    ·rename_i h1
     simp only [Aa] at he;subst he
     refine ⟨rfl,λm hm=>Dv _ _ _ _ (hm _ (Ae.2 rfl)),λt Uq=>?_⟩
     have Uq:=Ae.1 Uq
     subst Uq
     refine ⟨_,_,hl,Ej _ _ _ _ Qp,λ_=>rfl,λ_=>rfl,⟨rfl,by simp⟩,λπ' H' _=>?_⟩
     show Nj w' (π l) (.slice e) tid _
     rw [hq]
     refine hre w' ys hs (λb Jx hb hn=>hU l i j q b rfl hq hb Jx hn) ?_
     have hv:=hc.1
     rw [<-show List.length ys=List.length x from h1] at hv
     exact Nj.FB (te:=te) hr hv
    ·cases he
 |part e te=>cases a<;>simp [aY] at he<;>first|(simp only [Sm] at ht;exact ht.2.elim)
 |Bj e te kp=>exact absurd ht.1 (by simp)
theorem KJ {D:Nat->Prop} (h:Mm X w π H) {k:Nat} {e:Ty} {te:TypeId} {ys:List e.den} {a:AC} {u:Value} {r:Option Real} {x:(CK.part e te).den} {cur st1:St}
  {V:List Nat} (ht:cU w (Nz X π V) r u (.part e te) x/\Sm w π H true a u r (.part e te) x) (hr:ei w' D r (.row e te) ys) (he:EB cur e ys a=some st1) (eQ: ∀t∈Pw true k (.part e te) a,As cur.heap t.2.Vx=As H t.2.Vx):
  st1.tmps=cur.tmps/\(∀m,(∀t∈Pw true k (.part e te) a,m≠t.2.Vx)->As st1.heap m=As cur.heap m)/\ ∀t∈Pw true k (.part e te) a,kq X D w' π H st1.heap t.2.Vx:=by
 obtain ⟨hc,hf,ht⟩:=ht
 cases a<;>simp only [] at ht<;>first|(exact ht.elim)|skip
 rename_i l off len
 obtain ⟨rfl,_,fr,tr,hl⟩:=ht
 have Qp:As cur.heap l=some (.arr fr tr e te x.1):=(eQ _ (Ae.2 rfl)).trans hl
 simp only [EB,St.at,Qp] at he
 split at he
 ·rename_i Jg
  obtain ⟨_,h1⟩:=Jg
  simp only [Aa] at he;subst he
  refine ⟨rfl,λm hm=>Dv _ _ _ _ (hm _ (Ae.2 rfl)),λt Uq=>?_⟩
  have Uq:=Ae.1 Uq
  subst Uq
  refine ⟨_,_,hl,Ej _ _ _ _ Qp,λ_=>rfl,λ_=>rfl,⟨rfl,h1.symm⟩,λπ' H' _=>?_⟩
  have hb:=(h.heap l).Qq hl
  change By X w' π' H' (π l) _
  simp only [By,Jo] at hb⊢
  cases hp:π l with
  |none=>rw [hp] at hr;exact hr
  |some q=>
   rw [hp] at hr hb
   obtain ⟨k1,cu,ti,k2,k3,k4,k5,k6⟩:=hr
   exact ⟨⟨k1.1,k1.2,hb.1.2.2⟩,cu,ti,k2,k3,k4,k5,λi y hy=>by
    obtain ⟨es,g1,g2,g3⟩:=k6 i y hy
    exact ⟨es,g1,g2,Cells.flat e es y hf g3⟩,λ_=>kT hf k6⟩
 ·cases he
def oJ (X:Ctx) (D:Nat->Prop) (w':World) (π:Pi) (H:List (Nat×OB)) (tk:List (Nat×Loc)) (cur st1:St):Prop:=
 st1.tmps=cur.tmps/\(∀m,(∀t∈tk,m≠t.2.Vx)->As st1.heap m=As cur.heap m)/\(∀t∈tk,t.1<Be->As st1.heap t.2.Vx=As cur.heap t.2.Vx)/\(∀t∈tk,¬t.1<Be->kq X D w' π H st1.heap t.2.Vx)
theorem qE {D:Nat->Prop} (h:Mm X w π H) {V:List Nat} {πc:Pi} {tks:List (Nat×Loc)} (hs:w.heap.size<=w'.heap.size)
  (hU: ∀t∈tks,∀q b,π t.2.Vx=some q->q.Cm b->b<w.heap.size->(∀r',πc t.1=some r'-> ¬r'.Cm b)->w'.heap[b]?=w.heap[b]?):
  ∀(cs:List (Bool×CK)) (k:Nat) (x:Ins.den cs) (as:List AC) (us:List Value) (o:IOs.den cs) (cur st1:St),k+cs.length<100000->(∀t∈Lj k cs as,t∈tks)->((Lj k cs as).map λt=>t.2.Vx).Nodup->
   oe X w π V H πc k cs x as us->Lw w' D πc k cs o->Hm cs o as cur=some st1->(∀t∈Lj k cs as,As cur.heap t.2.Vx=As H t.2.Vx)->
   oJ X D w' π H (Lj k cs as) cur st1
 | [],k,x,as,us,o,cur,st1,_,_,_,_,_,he,_=>by
  simp only [Hm,Aa] at he;subst he
  have e0:Lj k [] as= []:=by cases as<;>rfl
  exact ⟨rfl,λ_ _=>rfl,by rw [e0];simp,by rw [e0];simp⟩
 |p::r,k,x,[],us,o,cur,st1,_,_,_,ht,_,_,_=>ht.elim
 |p::r,k,x,a::as,[],o,cur,st1,_,_,_,ht,_,_,_=>ht.elim
 |(io,c)::r,k,x,a::as,u::us,o,cur,st1,hk,fV,rZ,ht,ho,he,eQ=>by
  simp only [Bg] at hk
  simp only [Lj] at fV rZ eQ⊢
  rw [Zu] at rZ
  obtain ⟨n1,n2,n3⟩:=Dp.1 rZ
  have apart: ∀t∈Pw io k c a,∀t'∈Lj (k+1) r as,t'.2.Vx≠t.2.Vx:= λt h1 t' h2 e=>n3 _ (Bo.2 ⟨t,h1,rfl⟩) _ (Bo.2 ⟨t',h2,rfl⟩) e.symm
  have rest: ∀(Yn:St) (o':IOs.den r),Lw w' D πc (k+1) r o'->Hm r o' as Yn=some st1->Yn.tmps=cur.tmps->(∀m,(∀t∈Pw io k c a,m≠t.2.Vx)->As Yn.heap m=As cur.heap m)->
    (∀t∈Pw io k c a,t.1<Be->As Yn.heap t.2.Vx=As cur.heap t.2.Vx)->(∀t∈Pw io k c a,¬t.1<Be->kq X D w' π H Yn.heap t.2.Vx)->
    oJ X D w' π H (Pw io k c a++Lj (k+1) r as) cur st1:=by
   intro Yn o' h1 h2 h3 h4 h5 h6
   obtain ⟨g1,g2,g3,g4⟩:=qE h hs hU r (k+1) x.2 as us o' Yn st1 (by omega) (λt ht=>fV t (Bx _ ht)) n2 ht.2 h1 h2 (λt Uq=>by
    rw [h4 _ λt0 ht0=>apart t0 ht0 t Uq];exact eQ t (Bx _ Uq))
   have hd: ∀t∈Pw io k c a,As st1.heap t.2.Vx=As Yn.heap t.2.Vx:= λt Uq=>g2 _ λt' XM=>(apart t Uq t' XM).symm
   refine ⟨g1.trans h3,λm hm=>?_,λt Uq Jx=>?_,λt Uq Jx=>?_⟩
   ·rw [g2 m λt ht=>hm t (Bx _ ht),h4 m λt ht=>hm t (Bn _ ht)]
   ·rcases Az.1 Uq with Uq|Uq
    ·rw [hd t Uq,h5 t Uq Jx]
    ·rw [g3 t Uq Jx,h4 _ λt0 ht0=>apart t0 ht0 t Uq]
   ·rcases Az.1 Uq with Uq|Uq
    ·obtain ⟨b0,b',q1,q2,q3⟩:=h6 t Uq Jx
     exact ⟨b0,b',q1,(hd t Uq).trans q2,q3⟩
    ·exact g4 t Uq Jx
  have same: ∀o',Lw w' D πc (k+1) r o'->Hm r o' as cur=some st1->(∀t∈Pw io k c a,t.1<Be)->oJ X D w' π H (Pw io k c a++Lj (k+1) r as) cur st1:= λo' h1 h2 h3=>rest cur o' h1 h2 rfl (λ_ _=>rfl) (λ_ _ _=>rfl) (λt h4 h5=>absurd (h3 t h4) h5)
  cases io with
  |false=>
   have h3: ∀t∈Pw false k c a,t.1<Be:= λt h4=>by rcases zY h4 with ⟨h5,_⟩|⟨h5,_⟩<;>(rw [h5];exact dH (by omega))
   cases c with
   |Gb τ=>exact same o ho (by simpa only [Hm] using he) h3
   |row e te=>exact same o ho (by simpa only [Hm] using he) h3
   |Ha e te=>exact same o ho (by simpa only [Hm] using he) h3
   |part e te=>exact same o ho (by simpa only [Hm] using he) h3
   |Bj e te kp=>exact same o ho (by simpa only [Hm] using he) h3
  |true=>
   have row: ∀(ys:c.den) (o':IOs.den r),(∀t∈Pw true k c a,t.1=Dt true k)->ei w' D (πc (Dt true k)) c ys->Lw w' D πc (k+1) r o'->(∃Yn,aY cur c ys a=some Yn/\Hm r o' as Yn=some st1)->oJ X D w' π H (Pw true k c a++Lj (k+1) r as) cur st1:=by
    intro ys o' h0 h1 h2 h3
    obtain ⟨Yn,hp,h3⟩:=h3
    ·obtain ⟨q1,q2,q3⟩:=KI (k:=k) h hs (λl i j q b ea hq hb Jx hn=>by
      cases c with
      |Gb τ=>exact absurd (ht.1.2:πc _=none) (by subst ea;simp [aY] at hp)
      |row e te=>subst ea;exact hU (Dt true k, .sub l i j) (fV _ (Bn _ (Ae.2 rfl))) q b hq hb Jx hn
      |Ha e te=>subst ea;exact hU (Dt true k, .sub l i j) (fV _ (Bn _ (Ae.2 rfl))) q b hq hb Jx hn
      |Bj e te kp=>exact absurd ht.1.2.1 (by simp)
      |part e te=>exact absurd ht.1.2.2 (by subst ea;exact λh=>h)) ht.1 h1 hp (λt Uq=>eQ t (Bn _ Uq))
     exact rest Yn o' h2 h3 q1 q2 (λt h4 h5=>absurd h5 (by rw [h0 t h4];exact Zy k)) (λt h4 _=>q3 t h4)
   cases c with
   |Gb τ=>exact same o ho (by simpa only [Hm] using he) (λt h4=>by rw [RU h4];exact dH (by omega))
   |Bj e te kp=>exact absurd ht.1.2.1 (by simp)
   |row e te=>
    simp only [Hm] at he
    split at he
    ·rename_i Yn hp;exact row o.1 o.2 (λt ht=>RV ht) ho.1 ho.2 ⟨Yn,hp,he⟩
    ·cases he
   |Ha e te=>
    simp only [Hm] at he
    split at he
    ·rename_i Yn hp;exact row o.1 o.2 (λt ht=>LM ht) ho.1 ho.2 ⟨Yn,hp,he⟩
    ·cases he
   |part e te=>
    simp only [Hm] at he
    split at he
    ·rename_i Yn hp
     obtain ⟨q1,q2,q3⟩:=KJ (k:=k) h ht.1 ho.1 hp (λt Uq=>eQ t (Bn _ Uq))
     exact rest Yn o.2 ho.2 he q1 q2 (λt h4 h5=>absurd h5 (by rw [LL h4];exact Zy k)) (λt h4 _=>q3 t h4)
    ·cases he
theorem DF {fr:Bool} {c:CK} {x:c.den} {u:Value} {r:Option Real} {D:Nat->Prop} (h:cU w' D r u c x):
  (sd fr c x=none/\r=none)\/ ∃b',sd fr c x=some b'/\ ∀(X:Ctx) π' H',(fr=true-> ∀q,r=some q->X.w0.heap.size<=q.g)->(∀b,Un π' b\/X.Sc b->D b)->By X w' π' H' r b':=by
 cases c with
 |Gb τ=>exact .inl ⟨rfl,h.1⟩
 |row e te=>
  refine .inr ⟨_,rfl,λX π' H' vD hD=>?_⟩
  obtain ⟨_,h⟩:=h
  simp only [ei] at h
  simp only [By,Jo]
  cases r with
  |none=>exact h
  |some q=>
   obtain ⟨k1,cu,ti,k2,k3,k4,k5,k6⟩:=h
   exact ⟨⟨k1.1,k1.2,λh1=>vD (by simp only [Ag] at h1;exact h1.1) q rfl⟩,cu,ti,k2,k3,k4,k5,λi y hy=>by
    obtain ⟨es,g1,g2,g3⟩:=k6 i y hy
    exact ⟨es,g1,g2,de hD g3⟩,λh=>by cases h⟩
 |Ha e te=>exact .inr ⟨_,rfl,λX π' H' _ _=>h.2⟩
 |Bj e te kp=>exact .inr ⟨_,rfl,λX π' H' _ hD=>⟨Yx.Ig h.2 λb hb=>hD b (hb.imp id λh=>h.elim id λh=>by cases h.1),trivial⟩⟩
 |part e te=>
  refine .inr ⟨_,rfl,λX π' H' vD hD=>?_⟩
  obtain ⟨_,hf,h⟩:=h
  simp only [By,Jo]
  cases r with
  |none=>exact h
  |some q=>
   obtain ⟨k1,cu,ti,k2,k3,k4,k5,k6⟩:=h
   exact ⟨⟨k1.1,k1.2,λh1=>vD (by simp only [Ag] at h1;exact h1.1) q rfl⟩,cu,ti,k2,k3,k4,k5,λi y hy=>by
    obtain ⟨es,g1,g2,g3⟩:=k6 i y hy
    exact ⟨es,g1,g2,de hD g3⟩,λh=>by cases h⟩
theorem nU {D:Nat->Prop} {key:Nat->Nat} (OJ: ∀i j,key i=key j->i=j) {fr:Bool} {ρ:Pi} : ∀(cs:List CK) (k:Nat) (x:CKs.den cs) (us:List Value) (H:List (Nat×OB)),Ip w' D ρ k cs x us->
  (∀j,k<=j->j<k+cs.length->As H (key j)=none)->
  (∀l,(∀j,k<=j->j<k+cs.length->l≠key j)->As (Wu fr key k cs x H) l=As H l)/\
  (∀j,k<=j->j<k+cs.length->(As (Wu fr key k cs x H) (key j)=none/\ρ (Jq j)=none)\/
   ∃b',As (Wu fr key k cs x H) (key j)=some b'/\ ∀(X:Ctx) π' H',(fr=true-> ∀q,ρ (Jq j)=some q->X.w0.heap.size<=q.g)->(∀b,Un π' b\/X.Sc b->D b)->By X w' π' H' (ρ (Jq j)) b')/\
  (∀π',(∀b,Un π' b\/X.Sc b->D b)->(∀j,k<=j->j<k+cs.length->π' (key j)=ρ (Jq j))->Mn X w' π' (Wu fr key k cs x H) (aI key k cs x) us)
 | [],k,x,[],H,_,_=>⟨λ_ _=>rfl,λj h1 h2=>by simp at h2;omega,λ_ _ _=>trivial⟩
 | [],_,_,_::_,_,h,_=>h.elim
 |_::_,_,_,[],_,h,_=>h.elim
 |c::r,k,x,u::us,H,h,hn=>by
  simp only [Bg] at hn⊢
  simp only [Wu,aI]
  have rW:=hn k (Ar _) (by omega)
  have hH1: ∀l,l≠key k->As (yI H (key k) (sd fr c x.1)) l=As H l:=by
   intro l hl
   cases sd fr c x.1 with
   |some b=>exact Ow _ _ _ _ hl
   |none=>rfl
  have Ach:As (yI H (key k) (sd fr c x.1)) (key k)=sd fr c x.1:=by
   cases sd fr c x.1 with
   |some b=>exact Py _ _ _ rW
   |none=>exact rW
  generalize (yI H (key k) (sd fr c x.1))=H1 at hH1 Ach⊢
  obtain ⟨g1,g2,g3⟩:=nU OJ (fr:=fr) r (k+1) x.2 us H1 h.2 (λj h1 h2=>by
   rw [hH1 _ λe=>by have:=OJ _ _ e;omega];exact hn j (by omega) (by omega))
  have hkk:As (Wu fr key (k+1) r x.2 H1) (key k)=sd fr c x.1:=by
   rw [g1 _ λj h1 h2 e=>by have:=OJ _ _ e;omega];exact Ach
  refine ⟨λl hl=>?_,λj h1 h2=>?_,λπ' hd XO=>⟨?_,?_⟩⟩
  ·rw [g1 l λj h1 h2=>hl j (by omega) (by omega)]
   exact hH1 l (hl k (Ar _) (by omega))
  ·rcases Nat.eq_or_lt_of_le h1 with e|h1
   ·subst e
    rw [hkk]
    exact DF h.1
   ·exact g2 j h1 (by omega)
  ·have h1:=h.1
   have MO:=XO k (Ar _) (by omega)
   cases c with
   |Gb τ=>
    obtain ⟨fD,c1,c2⟩:=h1.2
    exact ⟨fD,by have:=de (fr:=true) hd c1;simpa using this,c2⟩
   |row e te=>exact ⟨_,e.size,List.length x.1,hkk,rfl,by simp,by rw [MO];exact h1.1⟩
   |Ha e te=>exact ⟨_,e.size,List.length x.1,hkk,rfl,by simp,by rw [MO];exact h1.1⟩
   |Bj e te kp=>exact ⟨_,1,List.length x.1,hkk,rfl,by simp,by rw [MO];exact h1.1⟩
   |part e te=>trivial
  ·exact g3 π' hd λj h1 h2=>XO j (by omega) (by omega)
theorem CX {ks:List Nat} {n:Nat} (h:vU ks n=true):ks.length=n/\ks.Nodup/\ ∀l∈ks,l<Be:=by
 unfold vU at h
 simp only [Ag] at h
 refine ⟨Ja h.1,Wt h.2.1,λl hl=>?_⟩
 have:=Ax.1 h.2.2 l hl
 simpa using this
theorem Qr {ks:List Nat} {j:Nat} (h:j<ks.length):Ea ks j=ks[j]:=by
 unfold Ea
 rw [Ac h]
theorem ya {ks:List Nat} (hn:ks.Nodup) (hl: ∀l∈ks,l<Be): ∀i j,Ea ks i=Ea ks j->i=j:=by
 intro i j h
 by_cases hi:i<ks.length
 ·by_cases hj:j<ks.length
  ·rw [Qr hi,Qr hj] at h
   rcases Nat.lt_trichotomy i j with Jx|he|Jx
   ·exact absurd h (Dc.1 hn i j hi hj Jx)
   ·exact he
   ·exact absurd h.symm (Dc.1 hn j i hj hi Jx)
  ·have h1:=hl _ (Ak hi)
   rw [Qr hi] at h
   unfold Ea at h
   rw [Er (by omega)] at h
   simp only at h
   omega
 ·by_cases hj:j<ks.length
  ·have h1:=hl _ (Ak hj)
   rw [Qr hj] at h
   unfold Ea at h
   rw [Er (by omega)] at h
   simp only at h
   omega
  ·unfold Ea at h
   rw [Er (by omega),Er (by omega)] at h
   simp only at h
   omega
theorem Mz: ∀(H:List (Nat×OB)) (dead:List Nat) (l:Nat),As (Wi H dead) l=if l∈dead then none else As H l
 | [],dead,l=>by simp [Wi,As]
 |(k,b)::r,dead,l=>by
  simp only [Wi]
  have ih:=Mz r dead l
  by_cases hk:k∈dead
  ·rw [Ab (by simpa using hk),ih]
   split
   ·rfl
   ·rename_i hl
    simp only [As]
    rw [Ai (λ(e:k=l)=>hl (e▸hk))]
  ·rw [Ai (by simpa using hk)]
   simp only [As]
   split
   ·rename_i e;subst e;rw [Ai hk]
   ·exact ih
theorem mem_keys {ks:List Nat} {l:Nat} :l∈ks↔ ∃k,k<ks.length/\l=Ea ks k:=
 ⟨λh=>by obtain ⟨k,hk,e⟩:=Mw h;exact ⟨k,hk,by rw [Qr hk,e]⟩,λ⟨k,hk,e⟩=>by rw [e,Qr hk];exact Ak hk⟩
theorem cD {tks:List (Nat×Loc)} {l:Nat} :l∈kH tks↔ ∃t∈tks,(t.1<Be/\t.2.reads=false)/\t.2.Vx=l:=by
 unfold kH
 simp only [Bo,Bv,Ag,Ms,Eg]
 exact ⟨λ⟨t,⟨h1,h2⟩,h3⟩=>⟨t,h1,h2,h3⟩,λ⟨t,h1,h2,h3⟩=>⟨t,⟨h1,h2⟩,h3⟩⟩
theorem vV {tks:List (Nat×Loc)} (h:(tks.map λt=>t.2.Vx).Nodup) {t t':Nat×Loc} (ht:t∈tks) (XM:t'∈tks) (he:t.2.Vx=t'.2.Vx):t=t':=by
 induction tks with
 |nil=>cases ht
 |cons a r ih=>
  simp only [Bw] at h
  obtain ⟨h1,h2⟩:=Cf.1 h
  rcases Ba.1 ht with rfl|ht<;>rcases Ba.1 XM with rfl|XM
  ·rfl
  ·exact (h1 (Bo.2 ⟨t',XM,he.symm⟩)).elim
  ·exact (h1 (he▸Bo.2 ⟨t,‹t∈r›,rfl⟩)).elim
  ·exact ih h2 ht XM
theorem Ip.full {D:Nat->Prop} {ρ:Pi} : ∀(cs:List CK) (k:Nat) (x:CKs.den cs) (us:List Value),Ip w D ρ k cs x us->Ip w D (λl=>(ρ l).map full) k cs x us
 | [],_,_,[],h=>h
 | [],_,_,_::_,h=>h.elim
 |_::_,_,_,[],h=>h.elim
 |c::r,k,x,u::us,h=>⟨by
   have h1:=h.1
   show cU w D ((ρ (Jq k)).map _) u c x.1
   cases c with
   |Gb τ=>rw [h1.1];exact ⟨rfl,h1.2⟩
   |row e te=>cases hp:ρ (Jq k)<;>(rw [hp] at h1;exact h1)
   |Ha e te=>cases hp:ρ (Jq k)<;>(rw [hp] at h1;exact h1)
   |Bj e te kp=>cases hp:ρ (Jq k)<;>(rw [hp] at h1;exact h1)
   |part e te=>cases hp:ρ (Jq k)<;>(rw [hp] at h1;exact h1),Ip.full r (k+1) x.2 us h.2⟩
theorem Ip.WH {D:Nat->Prop} {ρ:Pi} : ∀(cs:List CK) (k0:Nat) (x:CKs.den cs) (us:List Value),Ip w D ρ k0 cs x us-> ∀j,k0<=j->j<k0+cs.length-> ∀q,ρ (Jq j)=some q->q.Cm q.g
 | [],k0,_,_,_,j,h1,h2,_,_=>by simp at h2;omega
 |_::_,_,_,[],h,_,_,_,_,_=>h.elim
 |c::r,k0,x,u::us,ho,j,h1,h2,q,hq=>by
  rcases Nat.eq_or_lt_of_le h1 with e|h1
  ·subst e
   have:=ho.1
   cases c with
   |Gb τ=>rw [hq] at this;cases this.1
   |row e te=>rw [hq] at this;exact this.2.1.1
   |Ha e te=>rw [hq] at this;exact this.2.1
   |part e te=>rw [hq] at this;exact this.2.2.1.1
   |Bj e te kp=>rw [hq] at this;exact this.2.1
  ·exact Ip.WH r (k0+1) x.2 us ho.2 j h1 (by simp at h2;omega) q hq
theorem Rw.any {D D':Nat->Prop} {r:Option Real} {e:Ty} {xs:List e.den} (hf:e.flat=true) (h:Rw w D r e xs):Rw w D' r e xs:=by
 cases r with
 |none=>exact h
 |some r=>
  obtain ⟨k1,cu,ti,k2,k3,k4,k5,k6⟩:=h
  exact ⟨k1,cu,ti,k2,k3,k4,k5,λi y hy=>by
   obtain ⟨es,g1,g2,g3⟩:=k6 i y hy
   exact ⟨es,g1,g2,Cells.flat e es y hf g3⟩⟩
theorem Ip.any {D D':Nat->Prop} {ρ:Pi} : ∀(cs:List CK) (k:Nat) (x:CKs.den cs) (us:List Value),cs.all (·.flat)=true->Ip w D ρ k cs x us->Ip w D' ρ k cs x us
 | [],_,_,[],_,h=>h
 | [],_,_,_::_,_,h=>h.elim
 |_::_,_,_,[],_,h=>h.elim
 |c::r,k,x,u::us,hf,h=>by
  simp only [Iv,Ag] at hf
  refine ⟨?_,Ip.any r (k+1) x.2 us hf.2 h.2⟩
  have h1:=h.1
  cases c with
  |Gb τ=>exact ⟨h1.1,Cz.flat hf.1 h1.2⟩
  |row e te=>exact ⟨h1.1,Rw.any hf.1 h1.2⟩
  |Ha e te=>exact h1
  |part e te=>exact ⟨h1.1,h1.2.1,Rw.any hf.1 h1.2.2⟩
  |Bj e te kp=>exact absurd hf.1 (by simp [CK.flat])
theorem Lw.any {D D':Nat->Prop} {π:Pi} : ∀(cs:List (Bool×CK)) (k:Nat) (x:IOs.den cs),(cs.all λp=>!p.1||p.2.flat)=true->Lw w D π k cs x->Lw w D' π k cs x
 | [],_,_,_,h=>h
 |(false,_)::r,k,x,hf,h=>Lw.any r (k+1) x (by simp only [Iv,Ag] at hf;exact hf.2) h
 |(true, .Gb _)::r,k,x,hf,h=>Lw.any r (k+1) x (by simp only [Iv,Ag] at hf;exact hf.2) h
 |(true, .Bj _ _ _)::r,k,x,hf,h=>Lw.any r (k+1) x (by simp only [Iv,Ag] at hf;exact hf.2) h
 |(true, .row e te)::r,k,x,hf,h=>by
  simp only [Iv,Ag,Bool.not_true,ab] at hf
  exact ⟨Rw.any hf.1 h.1,Lw.any r (k+1) x.2 hf.2 h.2⟩
 |(true, .Ha e te)::r,k,x,hf,h=>by
  simp only [Iv,Ag,Bool.not_true,ab] at hf
  exact ⟨h.1,Lw.any r (k+1) x.2 hf.2 h.2⟩
 |(true, .part e te)::r,k,x,hf,h=>by
  simp only [Iv,Ag,Bool.not_true,ab] at hf
  exact ⟨Rw.any hf.1 h.1,Lw.any r (k+1) x.2 hf.2 h.2⟩
theorem qo {tks:List (Nat×Loc)} {l:Nat} :l∈xo tks↔ ∃t∈tks,t.2.reads=true/\t.2.Vx=l:=by
 unfold xo
 simp only [Bo,Bv]
 exact ⟨λ⟨t,⟨h1,h2⟩,h3⟩=>⟨t,h1,h2,h3⟩,λ⟨t,h1,h2,h3⟩=>⟨t,⟨h1,h2⟩,h3⟩⟩
theorem Bb.lG {st:St} {a:Act} (h:Bb X π st a w) {f:AC->AC} (hu:f .undef= .undef) {gv:Nat->Prop} (IQ: ∀b,gv b->Un π b) (hb:Kl w.heap.size gv w w')
  (cw: ∀b,b<w.heap.size->Un π' b->Un π b)
  (fV: ∀l r b,π' l=some r->r.Cm b->r.cl b) (ZS: ∀l r b,π' l=some r->r.cl b->(X.w0.heap.size<=b\/X.gv b)/\b<w'.heap.size)
  (Aii: ∀l l' r r' b,π' l=some r->π' l'=some r'->r.cl b->r'.cl b->l=l')
  (dp: ∀l,Be<=l->As H' l≠none->ae (X.fb l) (π' l))
  (hac:(∀fr τ cs x,Cells w (Cr X.w0.heap.size X.Sc π fr) τ cs x->Cells w' (Cr X.w0.heap.size X.Sc π' fr) τ cs x)-> ∀c v,Gy X w π st.heap c v->Gy X w' π' H' (f c) v)
  (CD:Move X w w' π π' st.heap H' f-> ∀l b,As H' l=some b->By X w' π' H' (π' l) b)
  (GS: ∀l,As H' l=none->π' l=none):
  Bb X π' {tmps:=st.tmps.map (·.map f),heap:=H'} a w':=by
 have hc: ∀fr τ cs x,Cells w (Cr X.w0.heap.size X.Sc π fr) τ cs x->Cells w' (Cr X.w0.heap.size X.Sc π' fr) τ cs x:= λfr τ cs x hh=>
  Cells.Fw hb.size (λk hk hn=>hb.block k hk λhg=>hn (.inl (IQ k hg))) (λk Jx hA=>hA.imp (cw k Jx) id) τ cs x hh
 have m:Move X w w' π π' st.heap H' f:=⟨hac hc,hc⟩
 refine ⟨⟨⟨hb.os.trans h.1.below.os,hb.tape.trans h.1.below.tape,hb.output.trans h.1.below.output,Ou h.1.below.size hb.size,λk hk hn=>?_⟩,h.1.sc,fV,ZS,Aii,dp,λl=>?_⟩,m.EE hu h.2⟩
 ·refine (hb.block k (Ec hk h.1.below.size) λhg=>?_).trans (h.1.below.block k hk hn)
  rcases (h.1.own (IQ k hg)).2 with h1|h1
  ·omega
  ·exact hn h1
 ·cases hh:As H' l with
  |none=>exact Fl.Tg (GS l hh) hh
  |some b=>exact Fl.Lg (CD m l b hh) hh
def ej:Option Real->Option Real->Prop
 |none,none=>True
 |some r,some r'=>r.g=r'.g/\r.o=r'.o/\r.cap=r'.cap
 |_,_=>False
theorem ej.rfl' (r:Option Real):ej r r:=by cases r<;>simp [ej]
theorem ej.some {r:Real} {r':Option Real} (h:ej (some r) r'): ∃q,r'=some q/\r.g=q.g/\r.o=q.o/\r.cap=q.cap:=by
 cases r' with
 |none=>exact h.elim
 |some q=>exact ⟨q,rfl,h⟩
theorem ej.own {r r':Option Real} (h:ej r r') {sz off len:Nat} {v:Value} (hv:Hf r sz off len v):Hf r' sz off len v:=by
 cases r<;>cases r'<;>first|exact h.elim|skip
 ·exact hv
 ·obtain ⟨h1,h2,h3⟩:=h
  obtain ⟨ad,g1,g2,g3⟩:=hv
  exact ⟨ad,by rw [<-h3];exact g1,by rw [<-h3];exact g2,by rw [<-h1,<-h2,<-h3];exact g3⟩
structure OB.Sd (b b':OB):Prop where
 row: ∀sz n,b.row=some (sz,n)-> ∃n',b'.row=some (sz,n')/\n<=n'
 ez: ∀p,b.ez=some p->b'.ez=some p
 rV: ∀p,b.rV=some p->b'.rV=some p
 var: ∀tid vs,b= .var tid vs-> ∃Tu vs',b'= .var Tu vs'
 Ul: ∀v m,b= .Ul v m-> ∃m',b'= .Ul v m'
theorem OB.Sd.map (f:AC->AC) (b:OB):b.Sd (b.map f) where
 row:= λsz n h=>⟨n,by cases b<;>exact h,Ar _⟩
 ez:= λp h=>by cases b<;>exact h
 rV:= λp h=>by cases b<;>exact h
 var:= λtid vs h=>by subst h;exact ⟨_,_,rfl⟩
 Ul:= λv m h=>by subst h;exact ⟨_,rfl⟩
theorem OB.Sd.rfl' (b:OB):b.Sd b where
 row:= λ_sz n h=>⟨n,h,Ar _⟩
 ez:= λ_p h=>h
 rV:= λ_p h=>h
 var:= λ_tid _vs h=>⟨_,_,h⟩
 Ul:= λ_v _m h=>⟨_,h⟩
theorem OB.Sd.trans {a b c:OB} (h:a.Sd b) (k:b.Sd c):a.Sd c where
 row:= λsz n hr=>by
  obtain ⟨n1,h1,h2⟩:=h.row sz n hr
  obtain ⟨n2,h3,h4⟩:=k.row sz n1 h1
  exact ⟨n2,h3,by omega⟩
 ez:= λp hp=>k.ez p (h.ez p hp)
 rV:= λp hp=>k.rV p (h.rV p hp)
 var:= λtid vs hv=>by obtain ⟨t',v',h1⟩:=h.var tid vs hv;exact k.var t' v' h1
 Ul:= λv m hm=>by obtain ⟨m',h1⟩:=h.Ul v m hm;exact k.Ul v m' h1
theorem lF {f:AC->AC} {D Pt:Nat->Prop} (hf: ∀c,f c= .undef\/(f c=c/\(∀k∈c.refs,¬D k)/\ ∀k i j,c= .sub k i j\/c= .Jn k i j-> ¬Pt k)) (hp: ∀k,¬D k->ej (π k) (π' k))
  (hH: ∀k b,¬D k->As H k=some b-> ∃b',As H' k=some b'/\b.Sd b')
  (hg: ∀k r b,¬D k-> ¬Pt k->As H k=some b->b.ez≠none->π k=some r->w'.heap[r.g]?=w.heap[r.g]?)
  (hc: ∀fr τ cs x,Cells w (Cr X.w0.heap.size X.Sc π fr) τ cs x->Cells w' (Cr X.w0.heap.size X.Sc π' fr) τ cs x): ∀c v,Gy X w π H c v->Gy X w' π' H' (f c) v:=by
 intro c v h
 rcases hf c with e|⟨e,hr,hs⟩
 ·rw [e];trivial
 rw [e]
 cases c with
 |data fr τ x=>obtain ⟨cs,h1,h2⟩:=h;exact ⟨cs,hc _ _ _ _ h1,h2⟩
 |own k off len=>
  obtain ⟨b,sz,n,h1,h0,h2,h3⟩:=h
  have hk:=hr k (by simp [AC.refs])
  obtain ⟨b',g1,g2⟩:=hH k b hk h1
  obtain ⟨n',g3,g4⟩:=g2.row sz n h0
  exact ⟨b',sz,n',g1,g3,by omega,(hp k hk).own h3⟩
 |Gr k i=>
  obtain ⟨r,tid,vs,h1,h2,h3⟩:=h
  have hk:=hr k (by simp [AC.refs])
  obtain ⟨b',g1,g2⟩:=hH k _ hk h1
  obtain ⟨Tu,vs',rfl⟩:=g2.var tid vs rfl
  obtain ⟨q,q1,q2,_⟩:=(h2▸hp k hk).some
  exact ⟨q,Tu,vs',g1,q1,by rw [<-q2];exact h3⟩
 |Jp k i=>
  obtain ⟨r,b,sz,n,h1,h0,h2,h3,h4⟩:=h
  have hk:=hr k (by simp [AC.refs])
  obtain ⟨b',g1,g2⟩:=hH k b hk h1
  obtain ⟨n',g3,g4⟩:=g2.row sz n h0
  obtain ⟨q,q1,q2,q3,_⟩:=(h3▸hp k hk).some
  exact ⟨q,b',sz,n',g1,g3,by omega,q1,by rw [<-q2,<-q3];exact h4⟩
 |sub k i c=>
  obtain ⟨r,b,sz,n,h1,h0,h2,h3,h4,h5⟩:=h
  have hk:=hr k (by simp [AC.refs])
  obtain ⟨b',g1,g2⟩:=hH k b hk h1
  obtain ⟨q,q1,q2,q3,_⟩:=(h2▸hp k hk).some
  exact ⟨q,b',sz,n,g1,g2.ez _ h0,q1,h3,h4,by rw [<-q2,<-q3,World.cell?_of_block (hg k r b hk (hs k i c (.inl rfl)) h1 (by rw [h0];simp) h2)];exact h5⟩
 |Jn k i c=>
  obtain ⟨r,b,n,sz,g,o,len,cap,h1,h0,h2,h3,h4,h5,h6⟩:=h
  have hk:=hr k (by simp [AC.refs])
  obtain ⟨b',g1,g2⟩:=hH k b hk h1
  obtain ⟨q,q1,q2,q3,_⟩:=(h2▸hp k hk).some
  exact ⟨q,b',n,sz,g,o,len,cap,g1,g2.rV _ h0,q1,h3,h4,by rw [<-q2,<-q3,World.cell?_of_block (hg k r b hk (hs k i c (.inr rfl)) h1 (by cases b<;>first|(cases h0;done)|simp [OB.ez]) h2)];exact h5,h6⟩
 |clo g Eb=>
  obtain ⟨us,h1,h2,h3⟩:=h
  refine ⟨us,h1,h2,λj p hpj=>?_⟩
  obtain ⟨r,tid,vs,h4,h5,h6⟩:=h3 j p hpj
  have hk:=hr p.1 (by simp only [AC.refs,Bo];exact ⟨p,Bz hpj,rfl⟩)
  obtain ⟨b',g1,g2⟩:=hH p.1 _ hk h4
  obtain ⟨Tu,vs',rfl⟩:=g2.var tid vs rfl
  obtain ⟨q,q1,q2,_⟩:=(h5▸hp p.1 hk).some
  exact ⟨q,Tu,vs',g1,q1,by rw [<-q2];exact h6⟩
 |Ka k=>
  obtain ⟨r,vt,m,h1,h2,h3⟩:=h
  have hk:=hr k (by simp [AC.refs])
  obtain ⟨b',g1,g2⟩:=hH k _ hk h1
  obtain ⟨m',rfl⟩:=g2.Ul vt m rfl
  obtain ⟨q,q1,q2,_⟩:=(h2▸hp k hk).some
  exact ⟨q,vt,m',g1,q1,by rw [<-q2];exact h3⟩
 |_=>exact h
theorem Ua (H0:List (Nat×OB)) (ls:List Nat) (n:Nat): ∀(H:List (Nat×OB)) (l:Nat),As (bO H0 ls n H) l=(As H l).map λb=>if ls.contains l then b.zH (aE n (Aa8 (As H0 l))) else b
 | [],_=>rfl
 |(k,b)::r,l=>by
  simp only [bO,As]
  split
  ·rename_i e;subst e;rfl
  ·exact Ua H0 ls n r l
theorem OB.wM (b:OB) (kp:Option (Nat×Nat)):b.Sd (b.zH kp):=by
 cases b with
 |Bj e te rows out kp0=>exact ⟨λsz n h=>⟨n,h,Ar _⟩,λp h=>h,λp h=>h,(λ_ _ h=>by cases h),(λ_ _ h=>by cases h)⟩
 |_=>exact OB.Sd.rfl' _
theorem dV (ls:List Nat): ∀(l m:List AV) (t:Nat),l.length=m.length->(∃k i c,l.getD t .undef= .at (.sub k i c)/\ls.contains k=true/\(Lh ls l m).getD t .undef= .at (.sub k i c))\/(Lh ls l m).getD t .undef=m.getD t .undef
 | [],m,t,_=>by cases m<;>exact .inr rfl
 |_::_,[],t,h=>by simp at h
 |a::l,v::m,t,h=>by
  have ih:= λt=>dV ls l m t (by simpa using h)
  have tail: ∀u,Lh ls (a::l) (v::m)=u::Lh ls l m->(t=0->(∃k i c,(a::l).getD t .undef= .at (.sub k i c)/\ls.contains k=true/\u= .at (.sub k i c))\/u=v)->
    (∃k i c,(a::l).getD t .undef= .at (.sub k i c)/\ls.contains k=true/\(Lh ls (a::l) (v::m)).getD t .undef= .at (.sub k i c))\/(Lh ls (a::l) (v::m)).getD t .undef=(v::m).getD t .undef:=by
   intro u e h0
   rw [e]
   rcases t with _|t
   ·rcases h0 rfl with ⟨k,i,c,h1,h2,h3⟩|h3
    ·exact .inl ⟨k,i,c,h1,h2,by simpa using h3⟩
    ·exact .inr (by simpa using h3)
   ·simpa only [Mv] using ih t
  cases a with
  | «at»c=>
   cases c with
   |sub k i c=>
    refine tail _ rfl λht=>?_
    subst ht
    by_cases hc:ls.contains k=true
    ·exact .inl ⟨k,i,c,rfl,hc,by rw [Ab hc]⟩
    ·exact .inr (by rw [Ai hc])
   |_=>exact tail _ rfl λ_=> .inr rfl
  |_=>exact tail _ rfl λ_=> .inr rfl
theorem ri {H:List (Nat×OB)} {ls:List Nat} {n:Nat} : ∀ {l:List AV} {t k i c:Nat},bT H ls n l=true->l.getD t .undef= .at (.sub k i c)->ls.contains k=true->i<n/\i<oP H k
 | [],t,k,i,c,_,h,_=>by simp at h
 |a::l,0,k,i,c,ho,h,hc=>by
  simp only [eg] at h
  subst h
  simp only [bT,hc,Bool.not_true,ab,Ag,Ms] at ho
  exact ho.1
 |a::l,t+1,k,i,c,ho,h,hc=>by
  refine ri (l:=l) (t:=t) (c:=c) ?_ (by simpa only [Mv] using h) hc
  cases a with
  | «at»d=>cases d with
   |sub _ _ _=>simp only [bT,Ag] at ho;exact ho.2
   |_=>exact ho
  |_=>exact ho
theorem CU {aW st:St} {a:Act} (h0:Bb X π aW a w) (h:Bb X π' st a w') {ls:List Nat} {n:Nat} (hk: ∀l∈ls,xM w w' (π l) (π' l) n) (pU: ∀l∈ls,ld aW.heap l=true)
  (fT:bT st.heap ls n aW.tmps=true):Bb X π' (jM aW st ls n) a w'/\ ∀c v,Bf X w' π' st.heap c v->Bf X w' π' (jM aW st ls n).heap c v:=by
 by_cases vH:ls= []
 ·subst vH;exact ⟨h,λ_ _ h=>h⟩
 have Up:jM aW st ls n= {tmps:=Lh ls aW.tmps st.tmps,heap:=bO aW.heap ls n st.heap} :=by
  cases ls with
  |nil=>exact absurd rfl vH
  |cons _ _=>rfl
 rw [Up]
 have hg0: ∀l∈ls,∃e te rows out kp,As aW.heap l=some (.Bj e te rows out kp):= λl hl=>by
  have:=pU l hl
  unfold ld at this
  split at this
  ·exact ⟨_,_,_,_,_,by assumption⟩
  ·cases this
 have srv: ∀k b,As st.heap k=some b-> ∃b',As (bO aW.heap ls n st.heap) k=some b'/\b.Sd b':= λk b hb=>by
  rw [Ua,hb]
  refine ⟨_,rfl,?_⟩
  dsimp only
  split
  ·exact OB.wM b _
  ·exact OB.Sd.rfl' b
 have hac:(∀fr τ cs x,Cells w' (Cr X.w0.heap.size X.Sc π' fr) τ cs x->Cells w' (Cr X.w0.heap.size X.Sc π' fr) τ cs x)-> ∀c v,Gy X w' π' st.heap c v->Gy X w' π' (bO aW.heap ls n st.heap) c v:= λhc=>
  lF (f:= λc=>c) (D:= λ_=>False) (Pt:= λ_=>False) (λc=> .inr ⟨rfl,λ_ _ h=>h,λ_ _ _ _ h=>h⟩) (λk _=>ej.rfl' _) (λk b _ hb=>srv k b hb) (λ_ _ _ _ _ _ _ _=>rfl) hc
 have h1:Bb X π' {tmps:=st.tmps.map (·.map λc=>c),heap:=bO aW.heap ls n st.heap} a w':=by
  refine h.lG rfl (gv:= λ_=>False) (λ_ hf=>hf.elim) (Kl.refl _ _ _) (λ_ _ ho=>ho) h.1.sub h.1.place h.1.inj (λl hl Is=>h.1.fb l hl λh2=>Is (by rw [Ua,h2];rfl)) hac (λm l b hb=>?_) (λl hl=>?_)
  ·rw [Ua] at hb
   cases h2:As st.heap l with
   |none=>rw [h2] at hb;cases hb
   |some b0=>
    rw [h2] at hb
    simp only [Ah,Aa] at hb
    have hbk:=(h.1.heap l).Qq h2
    have AY:=hbk.move m (Ar _) (λr0 c h0 h1=>h.1.sub _ r0 c h0 h1) λ_ _ _ _ _=>rfl
    rw [show OB.map (λc=>c) b0=b0 from OB.z8 b0] at AY
    split at hb
    ·rename_i hc
     have hl:l∈ls:=by simpa using hc
     cases b0 with
     |Bj e te rows out kp=>
      simp only [OB.zH] at hb
      subst hb
      refine ⟨AY.1,?_⟩
      obtain ⟨e0,te0,XU,Ajv,kp0,hg⟩:=hg0 l hl
      have rW:=((h0.1.heap l).Qq hg).2
      rw [hg]
      simp only [Aa8]
      have rY:=hk l hl
      cases kp0 with
      |none=>trivial
      |some p=>
       obtain ⟨l0,n0⟩:=p
       simp only [KeptAt,aE] at rW⊢
       cases vJ:X.fb l0 with
       |none=>
        cases hp:π l with
        |none=>
         rw [hp] at rY
         cases GV:π' l with
         |none=>trivial
         |some q=>rw [GV] at rY;exact rY.elim
        |some q=>rw [vJ,hp] at rW;exact rW.elim
       |some r0=>
        cases hp:π l with
        |none=>rw [vJ,hp] at rW;exact rW.elim
        |some q=>
         rw [vJ,hp] at rW
         rw [hp] at rY
         cases GV:π' l with
         |none=>rw [GV] at rY;exact rY.elim
         |some q'=>
          rw [GV] at rY
          obtain ⟨k1,k2,k3,k4⟩:=rY
          obtain ⟨g1,g2,g3,g4⟩:=rW
          refine ⟨k1.trans g1,k2.trans g2,k3.trans g3,λj hj hc=>?_⟩
          have e1:=g4 j (by omega) hc
          have e2:=k4 j (by omega) (by omega)
          rw [g1,g2] at e2
          rw [<-e1,e2]
     |_=>simp only [OB.zH] at hb;subst hb;exact AY
    ·subst hb;exact AY
  ·rw [Ua] at hl
   cases h2:As st.heap l with
   |none=>exact (h.1.heap l).emp h2
   |some b=>rw [h2] at hl;cases hl
 have OA: ∀c v,Bf X w' π' st.heap c v->Bf X w' π' (bO aW.heap ls n st.heap) c v:= λc v hv=>by
  have m:Move X w' w' π' π' st.heap (bO aW.heap ls n st.heap) (λc=>c):=⟨hac λ_ _ _ _ h=>h,λ_ _ _ _ h=>h⟩
  have:=m.av hv
  rwa [AC.map_id] at this
 refine ⟨⟨h1.1,⟨?_,h.2.defers,λt=>?_⟩⟩,OA⟩
 ·have: ∀(l m:List AV),(Lh ls l m).length=m.length:=by
   intro l
   induction l with
   |nil=>intro m;cases m<;>rfl
   |cons a l ih=>
    intro m
    cases m with
    |nil=>cases a with
     | «at»c=>cases c<;>rfl
     |_=>rfl
    |cons v m=>cases a with
     | «at»c=>cases c<;>simp only [Lh,Bg,ih m]
     |_=>simp only [Lh,Bg,ih m]
  show a.tmps.size=(Lh ls aW.tmps st.tmps).length
  rw [this];exact h.2.size
 ·show Bf X w' π' _ ((Lh ls aW.tmps st.tmps).getD t .undef) _
  rcases dV ls aW.tmps st.tmps t (by rw [<-h0.2.size,<-h.2.size]) with ⟨k,i,c,g1,g2,g3⟩|g
  ·rw [g3]
   have Rl:k∈ls:=by simpa using g2
   obtain ⟨i1,i2⟩:=ri fT g1 g2
   have hv:=h0.2.tmps t
   rw [show aW.get t=_ from g1] at hv
   obtain ⟨r,b,sz,n',e1,e2,e3,e4,⟨e5,e6⟩,e7⟩:=hv
   obtain ⟨e0,te0,XU,Ajv,kp0,hg⟩:=hg0 k Rl
   rw [hg] at e1;cases e1
   simp only [OB.ez,Aa,Ad] at e2
   obtain ⟨rfl,rfl⟩:=e2
   have rY:=hk k Rl
   rw [e3] at rY
   cases GV:π' k with
   |none=>rw [GV] at rY;exact rY.elim
   |some q'=>
    rw [GV] at rY
    obtain ⟨k1,k2,k3,k4⟩:=rY
    have pT:XU.length<=r.cap:=by
     have:=((h0.1.heap k).Qq hg).1
     rw [e3] at this
     obtain ⟨_,_,_,_,_,_,h5,_⟩:=this
     exact h5
    unfold oP at i2
    split at i2
    ·rename_i e9 te9 Af1 Apn kp9 hg9
     refine ⟨q',_,1,Af1.length,by rw [Ua,hg9];rfl,?_,GV,i2,⟨e5,e6⟩,?_⟩
     ·dsimp only
      split<;>rfl
     ·have ko:c=0:=by omega
      subst ko
      rw [k1,k2]
      rw [Et,Dz] at e7⊢
      rw [k4 i i1 (by omega)];exact e7
    ·omega
  ·rw [g]
   exact OA _ _ (h.2.tmps t)
theorem mX {ins:List (Bool×CK)} {as:List AC} {pl:List Nat} {st:St} :(oC ins as pl st).tmps=st.tmps:=by
 unfold oC
 split
 ·rfl
 ·split<;>rfl
theorem EM {ins:List (Bool×CK)} {as:List AC} {pl:List Nat} {st:St} {m:Nat} (hm:m∉pl):As (oC ins as pl st).heap m=As st.heap m:=by
 unfold oC
 split
 ·rfl
 ·rename_i l r
  split
  ·exact Dv _ _ _ _ λe=>hm (e▸Jr)
  ·rfl
theorem KQ {ins:List (Bool×CK)} {as:List AC} {l:Nat} {st:St} {tid:TypeId} {vs:List AC} (hl:As st.heap l=some (.var tid vs)):As (oC ins as [l] st).heap l=some (.var tid (eG ins vs as)):=by
 simp only [oC,St.at,hl]
 exact Ej _ _ _ _ hl
theorem ug {α:Type} (ins:List (Bool×CK)) (as:List α):eG ins [] as= []:=by
 rcases ins with _|⟨⟨_|_,c⟩,r⟩<;>rfl
theorem mT {α:Type} : ∀(ins:List (Bool×CK)) (vs as:List α),(eG ins vs as).length=vs.length
 | [],vs,as=>by rw [eG];all_goals simp
 |p::r,[],as=>by rw [ug]
 |(true,c)::r,v::vs,as=>by simp only [eG,Bg,mT r vs as]
 |(false,c)::r,v::vs,[]=>by rw [eG];all_goals simp
 |(false,c)::r,v::vs,a::as=>by simp only [eG,Bg,mT r vs as]
theorem KG {st:St} {a:Act} (h:Bb X π st a w) {s:MSpec} {ky:List AV} {vs:List Value} (hlen:ky.length=vs.length) (OA: ∀(i:Nat) c v,ky[i]?=some c->vs[i]?=some v->Bf X w π st.heap c v)
  {pl:List Nat} {cells:List AC} {rest:List AV} (he:HM st s ky=some (pl,cells,rest)):
  ∃(g:Nat) (WE uJ:List Value),rest.length=uJ.length/\(∀(i:Nat) c v,rest[i]?=some c->uJ[i]?=some v->Bf X w π st.heap c v)/\Mn X w π st.heap cells WE/\
   ((s.ptr=none/\pl= []/\cells= []/\WE= []/\vs=uJ)\/
    ∃p l q,s.ptr=some p/\pl= [l]/\π l=some q/\q.Cm q.g/\g=q.g/\As st.heap l=some (.var p.1 cells)/\cells.length=p.2/\vs= .pointer (some ⟨g,0,none⟩)::uJ/\w.heap[g]?=some (.cells WE.toArray p.1 (0,0))/\Fc X w π st.heap cells WE):=by
 unfold HM at he
 split at he
 ·rename_i hp
  simp only [Aa,Ad] at he
  obtain ⟨rfl,rfl,rfl⟩:=he
  exact ⟨0,[],vs,hlen,OA,trivial, .inl ⟨hp,rfl,rfl,rfl,rfl⟩⟩
 ·rename_i p hp
  split at he
  ·rename_i l i Alw
   split at he
   ·rename_i tid cs hl
    split at he
    ·rename_i hc
     obtain ⟨rfl,hc,rfl⟩:=hc
     simp only [Aa,Ad] at he
     obtain ⟨rfl,rfl,rfl⟩:=he
     unfold St.at at hl
     cases vs with
     |nil=>simp at hlen
     |cons v vs=>
      obtain ⟨r,Tu,vs',h1,h2,rfl⟩:=OA 0 _ v rfl rfl
      rw [hl] at h1;cases h1
      obtain ⟨r',h3,h4,cur,h5,h6⟩:=(h.1.heap l).Qq hl
      rw [h2] at h3;cases h3
      exact ⟨r.g,cur.toList,vs,by simpa using hlen,λi c v h7 h8=>OA (i+1) c v (by simpa using h7) (by simpa using h8),Mn.of h6, .inr ⟨p,l,r,hp,rfl,h2,h4,rfl,hl,hc,rfl,by simpa using h5,h6⟩⟩
    ·cases he
   ·cases he
  ·cases he
theorem ib {V:List Nat} {πc:Pi} {dead part:List Nat} (XO: ∀l,l∉dead->π' l=π l) (dr: ∀l b sz n,l∉dead->As H l=some b->b.row=some (sz,n)-> ∃b',As H' l=some b'/\b'.row=some (sz,n)):
  ∀(ins:List (Bool×CK)) (k:Nat) (cells m7:List AC) (x:Ins.den ins) (us:List Value) (o:IOs.den ins) (cur st1:St) (news:List AC) (Vw cs:List Value),oe X w π V H πc k ins x (cells++m7) us->Ve ins cells=true->
   Hm ins o (cells++m7) cur=some st1->Ei πc k ins o cells.length cs Vw->Mn X w' π' H' news Vw->Mn X w' π' H' (eG ins (cells.map (Ch dead part)) news) cs
 |ins,k,[],m7,x,us,o,cur,st1,news,Vw,cs,_,_,_,hb,_=>by
  have hb:cs= []:=by rcases ins with _|⟨⟨_|_,c⟩,r⟩<;>(try cases c)<;>simpa [Ei] using hb
  rw [hb,List.map_nil,ug]
  trivial
 | [],k,a::cells,m7,x,us,o,cur,st1,news,Vw,cs,_,hk,_,_,_=>by simp [Ve] at hk
 |(true, .Gb τ)::r,k,a::cells,m7,x,us,o,cur,st1,news,Vw,cs,_,hk,_,_,_=>by simp [Ve] at hk
 |(true, .part e te)::r,k,a::cells,m7,x,us,o,cur,st1,news,Vw,cs,_,hk,_,_,_=>by simp [Ve] at hk
 |(true, .Bj e te _)::r,k,a::cells,m7,x,us,o,cur,st1,news,Vw,cs,_,hk,_,_,_=>by simp [Ve] at hk
 |(true, .row e te)::r,k,a::cells,m7,x,us,o,cur,st1,news,Vw,cs,ht,hk,hp,hb,hn=>by
  cases a<;>simp only [Ve,Cy] at hk
  rename_i l off len
  cases us with
  |nil=>exact ht.elim
  |cons u0 us=>
  cases cs with
  |nil=>exact hb.elim
  |cons u cs=>
  obtain ⟨⟨_,h1⟩,h2⟩:=ht
  simp only [Sm] at h1
  obtain ⟨h3,rfl,rfl,fr,tr,h4⟩:=h1
  obtain ⟨h5,h6⟩:=hb
  simp only [Ly,Hm] at hp
  split at hp
  rotate_left
  ·cases hp
  rename_i Yn ZR
  have OM:List.length o.1=List.length x.1:=by
   simp only [aY] at ZR
   repeat' split at ZR
   all_goals first|(cases ZR;done)|(rename_i hc;exact hc.2.1)
  refine ⟨?_,ib XO dr r (k+1) cells m7 x.2 us o.2 Yn st1 news Vw cs h2 hk hp h6 hn⟩
  by_cases hd:l∈dead
  ·have:Ch dead part (.own l 0 (List.length x.1))= .undef:=by
    unfold Ch
    rw [Ab (by simp [AC.refs,hd])]
   rw [this];trivial
  ·rw [bk (by simpa [AC.refs] using hd) (by intro l i j e;rcases e with e|e<;>cases e)]
   obtain ⟨b',g1,g2⟩:=dr l _ e.size (List.length x.1) hd h4 rfl
   refine ⟨b',e.size,List.length x.1,g1,g2,by omega,?_⟩
   rw [XO l hd]
   rw [h3,OM] at h5
   cases hp:π l<;>(rw [hp] at h5;exact h5)
 |(true, .Ha e te)::r,k,a::cells,m7,x,us,o,cur,st1,news,Vw,cs,ht,hk,hp,hb,hn=>by
  cases a<;>simp only [Ve,Cy] at hk
  rename_i l off len
  cases us with
  |nil=>exact ht.elim
  |cons u0 us=>
  cases cs with
  |nil=>exact hb.elim
  |cons u cs=>
  obtain ⟨⟨_,h1⟩,h2⟩:=ht
  simp only [Sm] at h1
  obtain ⟨h3,rfl,rfl,h4⟩:=h1
  obtain ⟨h5,h6⟩:=hb
  simp only [Ly,Hm] at hp
  split at hp
  rotate_left
  ·cases hp
  rename_i Yn ZR
  have OM:List.length o.1=List.length x.1:=by
   simp only [aY] at ZR
   repeat' split at ZR
   all_goals first|(cases ZR;done)|(rename_i hc;exact hc.2.1)
  refine ⟨?_,ib XO dr r (k+1) cells m7 x.2 us o.2 Yn st1 news Vw cs h2 hk hp h6 hn⟩
  by_cases hd:l∈dead
  ·have:Ch dead part (.own l 0 (List.length x.1))= .undef:=by
    unfold Ch
    rw [Ab (by simp [AC.refs,hd])]
   rw [this];trivial
  ·rw [bk (by simpa [AC.refs] using hd) (by intro l i j e;rcases e with e|e<;>cases e)]
   obtain ⟨b',g1,g2⟩:=dr l _ e.size (List.length x.1) hd h4 rfl
   refine ⟨b',e.size,List.length x.1,g1,g2,by omega,?_⟩
   rw [XO l hd]
   rw [h3,OM] at h5
   cases hp:π l<;>(rw [hp] at h5;exact h5)
 |(false,c)::r,k,a::cells,m7,x,[],o,cur,st1,news,Vw,cs,ht,hk,hp,hb,hn=>ht.elim
 |(false,c)::r,k,a::cells,m7,x,u0::us,o,cur,st1,news,Vw,[],ht,hk,hp,hb,hn=>by cases c<;>exact hb.elim
 |(false,c)::r,k,a::cells,m7,x,u0::us,o,cur,st1,news,[],u::cs,ht,hk,hp,hb,hn=>by cases c<;>exact hb.elim
 |(false,c)::r,k,a::cells,m7,x,u0::us,o,cur,st1,[],u'::Vw,u::cs,ht,hk,hp,hb,hn=>hn.elim
 |(false,c)::r,k,a::cells,m7,x,u0::us,o,cur,st1,na::news,u'::Vw,u::cs,ht,hk,hp,hb,hn=>by
  have YT:u=u'/\Ei πc (k+1) r o cells.length cs Vw:=by cases c<;>exact hb
  obtain ⟨rfl,hb3⟩:=YT
  have hp:Hm r o (cells++m7) cur=some st1:=by cases c<;>simpa only [Ly,Hm] using hp
  have hk:Ve r cells=true:=by cases c<;>simpa only [Ve] using hk
  exact ⟨hn.1,ib XO dr r (k+1) cells m7 x.2 us o cur st1 news Vw cs ht.2 hk hp hb3 hn.2⟩
theorem zZ {V:List Nat} {πc:Pi} : ∀(cs:List (Bool×CK)) (k0:Nat) (x:Ins.den cs) (as:List AC) (us:List Value),k0+cs.length<100000->oe X w π V H πc k0 cs x as us-> ∀k l,(Dt false k,Loc.row l)∈Lj k0 cs as->πc (Dt false k)=(π l).map full
 | [],_,_,[],_,_,_,_,_,h=>by cases h
 | [],_,_,_::_,_,_,_,_,_,h=>by cases h
 |_::_,_,_,[],_,_,_,_,_,h=>by cases h
 |_::_,_,_,_::_,[],_,h,_,_,_=>h.elim
 |(io,c)::r,k0,x,a::as,u::us,hk,h,k,l,ht=>by
  simp only [Bg] at hk
  simp only [Lj] at ht
  rcases Az.1 ht with ht|ht
  ·obtain ⟨⟨_,h1⟩,_⟩:=h
   cases c with
   |Gb τ=>cases a<;>simp [Pw,views] at ht
   |row e te=>
    cases a<;>simp [Pw] at ht
    obtain ⟨e1,rfl⟩:=ht
    simp only [Sm] at h1
    rw [e1];exact h1.1
   |Ha e te=>
    cases a<;>simp [Pw] at ht
    obtain ⟨e1,rfl⟩:=ht
    simp only [Sm] at h1
    rw [e1];exact h1.1
   |part e te=>
    cases a<;>simp [Pw] at ht
    obtain ⟨e1,rfl⟩:=ht
    simp only [Sm] at h1
    rw [e1];exact h1.2.1
   |Bj e te kp=>
    cases a<;>simp [Pw] at ht
    obtain ⟨e1,rfl⟩:=ht
    simp only [Sm] at h1
    rw [e1];exact h1.2.1
  ·exact zZ r (k0+1) x.2 as us (by omega) h.2 k l ht
theorem oh {st:St} {a:Act} (h:Bb X π st a w) {f:FuncId} {s:MSpec} (hs:Dx P f s) (dst:Option Nat) (ky:List AV) (vs:List Value) (hlen:ky.length=vs.length)
  (OA: ∀(i:Nat) c v,ky[i]?=some c->vs[i]?=some v->Bf X w π st.heap c v) (av:AV) (st':St) (he:Wl st dst s ky=some (av,st')):
  Calls P f vs.toArray w λe w'=> ∃v,e= .returned v/\ ∃π',Bb X π' st' a w'/\Bf X w' π' st'.heap av v:=by
 unfold Wl at he
 split at he
 ·cases he
 rename_i pl cells rest Aiz
 split at he
 ·cases he
 rename_i m7 m9
 split at he
 ·cases he
 rename_i x tks htk
 split at he
 rotate_left
 ·cases he
 rename_i Jg
 simp only [Ag,Ms] at Jg
 obtain ⟨⟨⟨⟨rZ,xH⟩,hon⟩,tF⟩,Ad6,IV⟩:=Jg
 have IV: ∀l∈pl,l∉(tks.map λt=>t.2.Vx)/\l∉Ri s tks (dst.getD 0):= λl hl=>by
  have:=Ax.1 IV l hl
  simp only [Eg,<-Gw,Iz] at this
  exact ⟨λhm=>this (Bn _ hm),λhm=>this (Bx _ hm)⟩
 split at he
 ·cases he
 rename_i r o hfn
 split at he
 ·cases he
 rename_i st1 OT
 obtain ⟨g,WE,uJ,l5,Ahw,Aj3,hpt⟩:=KG h hlen OA Aiz
 obtain ⟨sN,rfl,MP,Aj2⟩:=Yk s.Ke rest uJ m7 l5 Ahw m9
 have ZV:=Aj3.append Aj2
 have Qk:mb s w g (WE++sN) vs:=by
  unfold mb
  rcases hpt with ⟨h1,_,_,h2,h3⟩|⟨p,l,q,h1,_,_,_,_,_,h2,h3,h4,h5⟩
  ·rw [h1];subst h2;exact ⟨h3,MP⟩
  ·rw [h1]
   have hl:WE.length=p.2:=h5.1.trans h2
   simp only
   rw [List.drop_append_of_le_length (by omega),List.take_append_of_le_length (by omega),List.take_of_length_le (by omega),List.drop_of_length_le (by omega)]
   refine ⟨h3,MP,by simp;omega,h4,λu hu=>?_⟩
   obtain ⟨i,hi,rfl⟩:=Bd.1 hu
   obtain ⟨u',h6,h7,_⟩:=h5.2 i (cells[i]'(by have:=h5.1;omega)) (Ac _)
   rw [Ac hi] at h6
   rw [Aw h6];exact h7
 have IW: ∀l∈pl,∃p q,s.ptr=some p/\pl= [l]/\π l=some q/\q.Cm q.g/\g=q.g/\As st.heap l=some (.var p.1 cells)/\cells.length=p.2:= λl hl=>by
  rcases hpt with ⟨_,h1,_⟩|⟨p,l',q,h1,h2,h3,h4,h5,h6,h7,_⟩
  ·rw [h1] at hl;cases hl
  ·rw [h2] at hl
   have:=Ae.1 hl
   subst this
   exact ⟨p,q,h1,h2,h3,h4,h5,h6,h7⟩
 have IQ: ∀b,s.gv g b-> ∃l∈pl,∃q,π l=some q/\q.Cm b/\b=q.g:= λb ⟨h1,h2⟩=>by
  rcases hpt with ⟨h3,_⟩|⟨p,l',q,_,h4,h5,h6,h7,_⟩
  ·rw [h3] at h1;cases h1
  ·exact ⟨l',by rw [h4];exact Ae.2 rfl,q,h5,by rw [h2,h7];exact h6,h2.trans h7⟩
 obtain ⟨as,has⟩: ∃as,as=cells++m7:=⟨_,rfl⟩
 obtain ⟨us,OY⟩: ∃us,us=WE++sN:=⟨_,rfl⟩
 rw [<-has] at ZV htk OT
 rw [<-OY] at ZV Qk
 let V:=(tks.filter λt=>t.2.reads).map λt=>t.2.Vx
 have hV: ∀t∈tks,t.2.reads=true->t.2.Vx∈V:= λt ht hr=>Bo.2 ⟨t,Bv.2 ⟨ht,hr⟩,rfl⟩
 have hV': ∀l∈V,∃t∈tks,t.2.reads=true/\t.2.Vx=l:= λl hl=>by
  obtain ⟨t,h1,h2⟩:=Bo.1 hl
  exact ⟨t,(Bv.1 h1).1,(Bv.1 h1).2,h2⟩
 clear_value V
 obtain ⟨SX,πc,hT,OD,Aig,Vc⟩:=rn h.1 (V:=V) s.ins 0 as us x tks (by omega) ZV htk hV
 have CI:=Wt rZ
 rw [SX] at CI
 have cw: ∀b,Un πc b-> ∃t∈Lj 0 s.ins as,t.2.reads=false/\ ∃q,π t.2.Vx=some q/\q.Cm b/\ ∀l i j,t.2= .sub l i j->b≠q.g:= λb ⟨c,q,h1,h2⟩=>by
  obtain ⟨t,t1,_,t3⟩:=Vc c q b h1 h2
  exact ⟨t,t1,t3⟩
 have CM: ∀b,Un πc b->Un π b:= λb hb=>let ⟨t,_,_,q,h1,h2,_⟩:=cw b hb;⟨_,q,h1,h2⟩
 have eS:fi πc (λb=>b<w.heap.size):=⟨λl q b h1 h2=>(h.1.own (CM b ⟨l,q,h1,h2⟩)).1,λl l' q q' b h1 h2 h3 h4=>by
  obtain ⟨t,t1,t2,_,p,t3,t4,_⟩:=Vc l q b h1 h3
  obtain ⟨t',t1',t2',_,p',t3',t4',_⟩:=Vc l' q' b h2 h4
  have:=vV CI t1 t1' (h.1.apart t3 t3' t4 t4')
  rw [<-t2,<-t2',this]⟩
 have Acj: ∀k l,(Dt false k,Loc.row l)∈Lj 0 s.ins as->πc (Dt false k)=(π l).map full:= λk l ht=>
  zZ s.ins 0 x as us (by omega) hT k l ht
 have Ae7: ∀b,Un πc b->Nz X π V b:= λb hb=> .inl ⟨CM b hb,λl hl r' hr hf=>by
  obtain ⟨t,t1,t0,q,t3,t4,_⟩:=cw b hb
  obtain ⟨t',t1',t2',rfl⟩:=hV' l hl
  rw [SX] at t1'
  have:=vV CI t1 t1' (h.1.apart t3 hr t4 hf)
  subst this
  rw [t0] at t2';cases t2'⟩
 let S:Nat->Prop:= λb=> ¬Un πc b/\Nz X π V b
 have hS: ∀b,S b->b<w.heap.size/\ ¬Un πc b:= λb hb=>⟨by
  rcases hb.2 with h1|h1
  ·exact (h.1.own h1.1).1
  ·exact Ec (h.1.sc b h1).1 h.1.below.size,hb.1⟩
 have UP: ∀l∈pl,∀t∈Lj 0 s.ins as,t.2.Vx≠l:= λl hl t ht e=>(IV l hl).1 (Bo.2 ⟨t,SX▸ht,e⟩)
 have hSg:s.ptr.isSome=true->S g:= λIZ=>by
  obtain ⟨l,hl,q,h1,h2,h3⟩:=IQ g ⟨IZ,rfl⟩
  have hno: ¬Un πc g:= λhb=>by
   obtain ⟨t,t1,_,q',t3,t4,_⟩:=cw g hb
   exact UP l hl t t1 (h.1.apart t3 h1 t4 h2)
  refine ⟨hno, .inl ⟨⟨l,q,h1,h2⟩,λl' Nt r' ix hf=>?_⟩⟩
  obtain ⟨t',t1',_,rfl⟩:=hV' l' Nt
  rw [SX] at t1'
  exact UP l hl t' t1' (h.1.apart ix h1 hf h2)
 refine (hs.calls w S πc us x r o g vs Qk hSg (cV.Ig (λb hb=>hb.elim (Ae7 b) λh=>h.2) s.ins 0 x us (hT.Aee s.ins 0 x as us)) eS hS Aig hfn).mono ?_
 rintro e w' ⟨v,Vw,xK,rfl,dq,nG,UD,vE,Adk,OQ,Aa6,tG⟩
 obtain ⟨ρ,UW,CL,OP,WV⟩: ∃ρ:Pi,(∀l,ρ l=(xK l).map full)/\Ip w' (ir S πc xK) ρ 0 s.outs r Vw/\fi ρ (λb=>b<w'.heap.size/\(w.heap.size<=b\/ ∃l q,l<Be/\πc l=some q/\q.Cm b))/\ ∀l q,ρ l=some q->q.cl=q.Cm:=by
  have un: ∀l q,(xK l).map full=some q-> ∃q0,xK l=some q0/\q=full q0:= λl q hq=>by
   cases hp:xK l with
   |none=>rw [hp] at hq;cases hq
   |some q0=>rw [hp] at hq;exact ⟨q0,rfl,(Aw hq).symm⟩
  refine ⟨λl=>(xK l).map full,λ_=>rfl,Ip.full s.outs 0 r Vw Adk,⟨λl q b h1 h2=>?_,λl l' q q' b h1 h2 h3 h4=>?_⟩,λl q h1=>?_⟩
  ·obtain ⟨q0,h5,rfl⟩:=un l q h1
   exact OQ.Zg l q0 b h5 h2
  ·obtain ⟨q0,h5,rfl⟩:=un l q h1
   obtain ⟨q0',h6,rfl⟩:=un l' q' h2
   exact OQ.inj l l' q0 q0' b h5 h6 h3 h4
  ·obtain ⟨q0,_,rfl⟩:=un l q h1
   rfl
 refine ⟨v,rfl,?_⟩
 split at he
 ·cases he
 rename_i av0 eT
 split at he
 rotate_left
 ·cases he
 rename_i fV
 simp only [Aa,Ad] at he
 obtain ⟨rfl,rfl⟩:=he
 let D1:Nat->Prop:=if s.flat then λ_=>True else ir S πc xK
 have Aij:Lw w' D1 πc 0 s.ins o:=by
  show Lw w' (if s.flat then λ_=>True else ir S πc xK) πc 0 s.ins o
  split
  ·rename_i hf
   unfold MSpec.flat at hf
   simp only [Ag] at hf
   exact Lw.any s.ins 0 o hf.2 vE
  ·exact vE
 have Adl:Ip w' D1 ρ 0 s.outs r Vw:=by
  show Ip w' (if s.flat then λ_=>True else ir S πc xK) ρ 0 s.outs r Vw
  split
  ·rename_i hf
   unfold MSpec.flat at hf
   simp only [Ag] at hf
   exact Ip.any s.outs 0 r Vw hf.1 CL
  ·exact CL
 obtain ⟨q1,q2,q3,q4⟩:=qE (D:=D1) (X:=X) (π:=π) (H:=st.heap) h.1 UD.size (tks:=Lj 0 s.ins as) (πc:=πc) (λt ht q b hq hb Jx hn=>UD.block b Jx λCJ=>by
   rcases CJ with ⟨c,r',h1,h2⟩|hg
   rotate_left
   ·obtain ⟨l,hl,q',h1,h2,_⟩:=IQ b hg
    exact UP l hl t ht (h.1.apart hq h1 hb h2)
   obtain ⟨t',t1,t2,_,p,t3,t4,_⟩:=Vc c r' b h1 h2
   have:=vV CI ht t1 (h.1.apart hq t3 hb t4)
   subst this
   exact hn r' (t2▸h1) h2) s.ins 0 x as us o st st1 (by omega) (λ_ h=>h) CI hT Aij OT (λ_ _=>rfl)
 have ZW: ∀t∈Lj 0 s.ins as,t.2.reads=true->t.1<Be:=by
  have: ∀(cs:List (Bool×CK)) (k:Nat) (as:List AC),k+cs.length<100000-> ∀t∈Lj k cs as,t.2.reads=true->t.1<Be:=by
   intro cs
   induction cs with
   |nil=>intro k as _ t ht;cases as<;>cases ht
   |cons p r ih=>
    intro k as hk t ht hr
    simp only [Bg] at hk
    cases as with
    |nil=>cases ht
    |cons a as=>
     simp only [Lj] at ht
     rcases Az.1 ht with ht|ht
     ·rcases zY ht with ⟨_,h1⟩|⟨h1,_⟩
      ·rw [hr] at h1;cases h1
      ·rw [h1];exact dH (by omega)
     ·exact ih (k+1) as (by omega) t ht hr
  exact this s.ins 0 as (by omega)
 let d:=dst.getD 0
 let ks:=Ri s tks d
 let dead:=kH tks++ks++(if s.flat then [] else xo tks)
 let part:=whole tks
 have Aj5:s.outs.length+(jZ s d).length=s.Tp:=by unfold MSpec.Tp jZ;cases s.rp<;>rfl
 obtain ⟨ZL,Air,XC⟩:ks.length=s.Tp/\ks.Nodup/\ ∀l∈ks,l<Be:=by
  have:=CX xH
  rw [Aj5] at this
  exact this
 have hno:s.outs.length<=s.Tp:=by unfold MSpec.Tp;omega
 have UT: ∀tid,s.rp=some tid->Ea ks s.outs.length=Si d/\s.Tp=s.outs.length+1:= λtid Wq=>by
  have h1:s.Tp=s.outs.length+1:=by unfold MSpec.Tp;rw [Wq]
  refine ⟨?_,h1⟩
  have h2:ks=kB s tks d++ [Si d]:=by show kB s tks d++jZ s d=_;unfold jZ;rw [Wq]
  have h3:(kB s tks d).length=s.outs.length:=by rw [h2] at ZL;simp at ZL;omega
  rw [Qr (by rw [ZL];omega)]
  simp only [h2]
  rw [List.getElem_append_right (by omega)]
  simp [h3]
 have OL:=ya Air XC
 have Aip: ∀j,j<s.Tp->Ea ks j<Be:= λj hj=>XC _ (mem_keys.2 ⟨j,by omega,rfl⟩)
 let π':Pi:= λl=>match (List.range s.Tp).find? λj=>decide (Ea ks j=l) with
  |some j=>ρ (Jq j)
  |none=>if l∈dead then none else π l
 have rX: ∀j,j<s.Tp->π' (Ea ks j)=ρ (Jq j):= λj hj=>by
  show (match (List.range s.Tp).find? λi=>decide (Ea ks i=Ea ks j) with|some i=>ρ (Jq i)|none=>_)=_
  cases hf:(List.range s.Tp).find? λi=>decide (Ea ks i=Ea ks j) with
  |none=>
   have:=List.find?_eq_none.1 hf j (Io.2 hj)
   simp at this
  |some i=>
   have:=List.find?_some hf
   rw [OL i j (Ff this)]
 have pX: ∀j,j<s.Tp->Ea ks j∈dead:= λj hj=>Bn _ (Bx _ (mem_keys.2 ⟨j,by omega,rfl⟩))
 have vF: ∀l,(¬ ∃j,j<s.Tp/\l=Ea ks j)->π' l=if l∈dead then none else π l:= λl hl=>by
  show (match (List.range s.Tp).find? λi=>decide (Ea ks i=l) with|some i=>ρ (Jq i)|none=>_)=_
  cases hf:(List.range s.Tp).find? λi=>decide (Ea ks i=l) with
  |none=>rfl
  |some i=>
   have h1:=List.find?_some hf
   exact absurd ⟨i,Io.1 (List.mem_of_find?_eq_some hf),(Ff h1).symm⟩ hl
 have PC: ∀l,l∉dead->π' l=π l:= λl hl=>by
  rw [vF l (λ⟨j,h1,h2⟩=>hl (h2▸pX j h1)),Ai hl]
 have hD1: ∀b,Un π' b\/X.Sc b->D1 b:=by
  intro b hb
  show (if s.flat then λ_=>True else ir S πc xK) b
  split
  ·trivial
  rename_i hnf
  rcases hb with ⟨l,q,hl,hf⟩|hb
  ·by_cases hk: ∃j,j<s.Tp/\l=Ea ks j
   ·obtain ⟨j,hj,rfl⟩:=hk
    rw [rX j hj,UW] at hl
    cases hp:xK (Jq j) with
    |none=>rw [hp] at hl;cases hl
    |some q0=>rw [hp] at hl;simp only [Ah,Aa] at hl;subst hl;exact .inr (.inr ⟨Jq j,q0,hp,hf⟩)
   ·have e0:π' l=if l∈dead then none else π l:=vF l hk
    rw [e0] at hl
    split at hl
    ·cases hl
    ·rename_i UN
     by_cases ho:Un πc b
     ·obtain ⟨c,q',hc,hcb⟩:=ho
      obtain ⟨t,t1,t2,t0,p,t3,t4,_⟩:=Vc c q' b hc hcb
      have vG:=h.1.apart hl t3 hf t4
      refine .inr (.inl ⟨c,q',Cd λhn=>?_,hc,hcb⟩)
      exact UN (Bn _ (Bn _ (cD.2 ⟨t,SX▸t1,⟨by rw [t2];omega,t0⟩,vG.symm⟩)))
     ·refine .inl ⟨ho, .inl ⟨⟨l,q,hl,hf⟩,λl0 ZM r0 hr0 hf0=>?_⟩⟩
      have:=h.1.apart hl hr0 hf hf0
      subst this
      exact UN (Bx _ (by rw [Ai hnf];exact qo.2 (hV' l ZM)))
  ·refine .inl ⟨λho=>?_, .inr hb⟩
   have h1:=h.1.sc b hb
   rcases (h.1.own (CM b ho)).2 with h2|h2
   ·omega
   ·exact h1.2 h2
 have hpd: ∀l∈pl,l∉dead:= λl hl hd=>by
  rcases Az.1 hd with hd|hd
  ·rcases Az.1 hd with hd|hd
   ·obtain ⟨t,ht,_,e⟩:=cD.1 hd
    exact (IV l hl).1 (Bo.2 ⟨t,ht,e⟩)
   ·exact (IV l hl).2 hd
  ·split at hd
   ·cases hd
   ·obtain ⟨t,ht,_,e⟩:=qo.1 hd
    exact (IV l hl).1 (Bo.2 ⟨t,ht,e⟩)
 have ZK: ∀j,j<s.Tp->Ea ks j∉pl:= λj hj hp=>hpd _ hp (pX j hj)
 let bv:Option OB:=s.rp.map λtid=> .var tid ((aI (Ea ks) 0 s.outs r).drop s.Zd)
 let H1:=(oC s.ins (aI (Ea ks) 0 s.outs r) pl (st1.bj dead part)).heap
 have hH1: ∀l,l∉pl->As H1 l=if l∈dead then none else (As st1.heap l).map (OB.map (Ch dead part)):= λl hl=>by
  show As (oC _ _ _ _).heap l=_
  rw [EM hl]
  show As (Wi (st1.heap.map λp=>(p.1,p.2.map (Ch dead part))) dead) l=_
  rw [Mz,Oe]
 let H2:=yI H1 (Si d) bv
 have hvd: ∀tid,s.rp=some tid->Si d∈dead/\Si d∉pl:= λtid Wq=>by
  obtain ⟨e1,e2⟩:=UT tid Wq
  rw [<-e1]
  exact ⟨pX _ (by omega),ZK _ (by omega)⟩
 have Aci: ∀l,(∀tid,s.rp=some tid->l≠Si d)->As H2 l=As H1 l:= λl hl=>by
  show As (yI H1 (Si d) (s.rp.map _)) l=_
  cases BA:s.rp with
  |none=>rfl
  |some tid=>exact Ow _ _ _ _ (hl tid BA)
 have Ahk: ∀tid,s.rp=some tid->As H2 (Si d)=some (.var tid ((aI (Ea ks) 0 s.outs r).drop s.Zd)):= λtid Wq=>by
  show As (yI H1 (Si d) (s.rp.map _)) (Si d)=_
  rw [Wq]
  exact Py _ _ _ (by rw [hH1 _ (hvd tid Wq).2,Ab (hvd tid Wq).1])
 have hkv: ∀j,j<s.outs.length-> ∀tid,s.rp=some tid->Ea ks j≠Si d:= λj hj tid Wq e=>by
  have:=OL j s.outs.length (e.trans (UT tid Wq).1.symm)
  omega
 have hH2: ∀l,l∉pl->(∀tid,s.rp=some tid->l≠Si d)->As H2 l=if l∈dead then none else (As st1.heap l).map (OB.map (Ch dead part)):= λl hl hv=>by
  rw [Aci l hv,hH1 l hl]
 let H':=Wu (GF st (kH tks)) (Ea ks) 0 s.outs r H2
 obtain ⟨n1,n2,n3⟩:=nU (D:=D1) (X:=X) (key:=Ea ks) OL (fr:=GF st (kH tks)) (ρ:=ρ) s.outs 0 r Vw H2 Adl (λj _ hj=>by
  rw [hH2 _ (ZK j (by omega)) (hkv j (by omega)),Ab (pX j (by omega))])
 have mA: ∀l,l∉dead->l∉pl->As H' l=(As st1.heap l).map (OB.map (Ch dead part)):= λl hl ow=>by
  show As (Wu _ _ _ _ _ _) l=_
  rw [n1 l λj _ hj e=>hl (e▸pX j (by omega)),hH2 l ow (λtid Wq e=>hl (e▸(hvd tid Wq).1)),Ai hl]
 have TZ: ∀l,l∈dead->(∀j,j<s.Tp->l≠Ea ks j)->As H' l=none:= λl hl hj=>by
  show As (Wu _ _ _ _ _ _) l=_
  rw [n1 l λj _ h2=>hj j (by omega),hH2 l (λhp=>hpd l hp hl) (λtid Wq e=>hj s.outs.length (by have:=(UT tid Wq).2;omega) (e.trans (UT tid Wq).1.symm)),Ab hl]
 have newAt: ∀l b',As H' l=some b'->(l∈dead\/As st.heap l=none)-> ∃j,j<s.Tp/\l=Ea ks j:=by
  intro l b' hb hd
  refine Cd λhn=>?_
  have oU: ∀j,j<s.Tp->l≠Ea ks j:= λj hj e=>hn ⟨j,hj,e⟩
  rcases Classical.em (l∈dead) with AZ|AZ
  ·rw [TZ l AZ oU] at hb;cases hb
  ·rcases hd with hd|hd
   ·exact AZ hd
   ·rw [mA l AZ (λhp=>by obtain ⟨_,_,_,_,_,_,_,h1,_⟩:=IW l hp;rw [hd] at h1;cases h1)] at hb
    have:As st1.heap l=none:=by
     by_cases hi: ∃t∈Lj 0 s.ins as,t.2.Vx=l
     ·obtain ⟨t,ht,e⟩:=hi
      by_cases Jx:t.1<Be
      ·rw [<-e,q3 t ht Jx,e];exact hd
      ·obtain ⟨b0,_,h1,_⟩:=q4 t ht Jx
       rw [e,hd] at h1;cases h1
     ·rw [q2 l λt ht e=>hi ⟨t,ht,e.symm⟩];exact hd
    rw [this] at hb;cases hb
 have ZF: ∀k,GF st (kH tks)=true-> ∀q,ρ (Jq k)=some q->q.Cm q.g->X.w0.heap.size<=q.g:=by
  intro k vD q hq hg
  rcases (OP.Zg _ q _ hq hg).2 with h1|⟨c,p,h1,h2,h3⟩
  ·exact Ou h.1.below.size h1
  ·obtain ⟨t,t1,t2,t0,p',t3,t4,_⟩:=Vc c p _ h2 h3
   have hm:t.2.Vx∈kH tks:=cD.2 ⟨t,SX▸t1,⟨by rw [t2];exact h1,t0⟩,rfl⟩
   have:=Ax.1 vD _ hm
   split at this
   ·rename_i fr tr e te xs hl
    unfold St.at at hl
    have hb:=(h.1.heap t.2.Vx).Qq hl
    simp only [By,Jo,t3] at hb
    rw [hb.1.2.1 _ t4]
    exact hb.1.2.2 this
   ·cases this
 have ZD: ∀k q,ρ (Jq k)=some q->k<s.outs.length->q.Cm q.g:=by
  intro k q hq hk
  exact Ip.WH s.outs 0 r Vw CL k (Ni _) ((Db _).symm▸hk) q hq
 have hinv: ∀l,l∉dead->(∃t∈Lj 0 s.ins as,t.2.reads=false/\t.2.Vx=l)->kq X D1 w' π st.heap st1.heap l:=by
  rintro l hd ⟨t,ht,h0,rfl⟩
  by_cases Jx:t.1<Be
  ·exact absurd (Bn _ (Bn _ (cD.2 ⟨t,SX▸ht,⟨Jx,h0⟩,rfl⟩))) hd
  ·exact q4 t ht Jx
 have vI: ∀l,(¬ ∃t∈Lj 0 s.ins as,t.2.reads=false/\t.2.Vx=l)->As st1.heap l=As st.heap l:= λl hn=>by
  by_cases hi: ∃t∈Lj 0 s.ins as,t.2.Vx=l
  ·obtain ⟨t,ht,rfl⟩:=hi
   have hr:t.2.reads=true:=by
    cases h0:t.2.reads with
    |true=>rfl
    |false=>exact absurd ⟨t,ht,h0,rfl⟩ hn
   exact q3 t ht (ZW t ht hr)
  ·exact q2 l λt ht e=>hi ⟨t,ht,e.symm⟩
 have WN: ∀l∈pl,∀p,s.ptr=some p->As H' l=some (.var p.1 (eG s.ins (cells.map (Ch dead part)) (aI (Ea ks) 0 s.outs r))):= λl hl p hp=>by
  obtain ⟨p',q,h1,h2,_,_,_,h3,_⟩:=IW l hl
  rw [hp] at h1;cases h1
  show As (Wu _ _ _ _ _ _) l=_
  rw [n1 l λj _ hj e=>ZK j (by omega) (e▸hl),Aci l (λtid Wq e=>(hvd tid Wq).2 (e▸hl))]
  show As (oC _ _ _ _).heap l=_
  rw [h2]
  refine KQ ?_
  show As (Wi (st1.heap.map λp=>(p.1,p.2.map (Ch dead part))) dead) l=_
  rw [Mz,Oe,Ai (hpd l hl),vI l (λ⟨t,ht,_,e⟩=>UP l hl t ht e),h3]
  rfl
 have XE: ∀j,j<s.Tp->s.outs.length<=j-> ∃tid,s.rp=some tid/\j=s.outs.length:= λj h1 h2=>by
  cases BA:s.rp with
  |none=>unfold MSpec.Tp at h1;rw [BA] at h1;simp at h1;omega
  |some tid=>exact ⟨tid,rfl,by have:=(UT tid BA).2;omega⟩
 have hHv: ∀tid,s.rp=some tid->As H' (Si d)=some (.var tid ((aI (Ea ks) 0 s.outs r).drop s.Zd)):= λtid Wq=>by
  show As (Wu _ _ _ _ _ _) _=_
  rw [n1 _ λj _ hj e=>hkv j (by omega) tid Wq e.symm,Ahk tid Wq]
 suffices Ada:Bb X π' (jt st st1 d s pl tks r) a w'/\Bf X w' π' (jt st st1 d s pl tks r).heap av0 v by
  obtain ⟨m1,m2⟩:=Ada
  have vH: ∀(kj:List (Nat×Nat)) (l:Nat),l∈aC st.heap ks tks kj->ld st.heap l=true/\ ∃k j t,(k,j)∈kj/\t∈tks/\t=(Dt false k,Loc.row l)/\ks[j]?=some l:=by
   intro kj
   induction kj with
   |nil=>intro l hl;cases hl
   |cons p kj ih=>
    intro l hl
    obtain ⟨k,j⟩:=p
    have up:l∈aC st.heap ks tks kj->ld st.heap l=true/\ ∃k' j' t,(k',j')∈(k,j)::kj/\t∈tks/\t=(Dt false k',Loc.row l)/\ks[j']?=some l:= λhl=>by
     obtain ⟨h1,k',j',t,h2,h3⟩:=ih l hl
     exact ⟨h1,k',j',t,Am _ h2,h3⟩
    simp only [aC] at hl
    split at hl
    ·rename_i x0 l1 l2 h1 h2
     split at hl
     ·rename_i hc
      simp only [Ag] at hc
      rcases Ba.1 hl with rfl|hl
      ·have:=List.find?_some h1
       have e1:=Ja this
       have e2:=Ja hc.1
       dsimp only at e1
       exact ⟨hc.2,k,j,_,Jr,List.mem_of_find?_eq_some h1,by rw [e1],by rw [h2,e2]⟩
      ·exact up hl
     ·exact up hl
    ·exact up hl
  obtain ⟨r1,r2⟩:=CU h m1 (ls:=aC st.heap ks tks s.keeps) (n:=s.Fw x) (λl hl=>by
   obtain ⟨_,k,j,t,h1,h2,h3,h4⟩:=vH s.keeps l hl
   have hj:j<ks.length:=(Aj.1 h4).1
   have MM:Ea ks j=l:=by
    rw [Qr hj]
    rw [Ac hj] at h4
    exact Aw h4
   have rY:=tG (k,j) h1
   rw [show π' l=ρ (Jq j) by rw [<-MM];exact rX j (by omega),UW]
   have hc:πc (Dt false k)=(π l).map full:=Acj k l (by rw [<-h3,<-SX];exact h2)
   dsimp only at rY
   rw [hc] at rY
   cases hp:π l<;>cases hq:xK (Jq j)<;>(rw [hp,hq] at rY;exact rY)) (λl hl=>(vH s.keeps l hl).1) fV
  exact ⟨π',r1,r2 av0 v m2⟩
 refine ⟨?_,?_⟩
 ·have hx:=Bb.YO (π':=π') (H':=H') (dead:=dead) (part:=part) (inv:= λl=>(∃t∈Lj 0 s.ins as,t.2.reads=false/\t.2.Vx=l)\/l∈pl) (gv:= λb=>Un πc b\/s.gv g b) h (λb hb=>by
    rcases hb with hb|hb
    ·obtain ⟨t,h1,h0,q,h2,h3,_⟩:=cw b hb
     exact ⟨_,q, .inl ⟨t,h1,h0,rfl⟩,h2,h3⟩
    ·obtain ⟨l,hl,q,h1,h2,_⟩:=IQ b hb
     exact ⟨l,q, .inr hl,h1,h2⟩) UD (λl b0 hd h0=>⟨PC l hd,?_⟩) (λl b' hb hd=>?_) (λl hl=>?_) (λm q hd hp hm hxa=>?_)
  ·have:({tmps:=(oC s.ins (aI (Ea ks) 0 s.outs r) pl (st1.bj dead part)).tmps,heap:=H'} :St)= {tmps:=st.tmps.map (·.map (Ch dead part)),heap:=H'} :=by
    rw [mX]
    show ({tmps:=st1.tmps.map (·.map (Ch dead part)),heap:=H'} :St)=_
    rw [q1]
   show Bb X π' ({tmps:=(oC s.ins (aI (Ea ks) 0 s.outs r) pl (st1.bj dead part)).tmps,heap:=H'} :St) a w'
   rw [this]
   exact hx
  ·by_cases ML:l∈pl
   ·obtain ⟨p,q,h1,h2,h3,h4,h5,h6,h7⟩:=IW l ML
    rw [h0] at h6;cases h6
    have rH:=WN l ML p h1
    refine .inr ⟨_,rH,⟨rfl,by rw [mT]⟩,λm=>?_⟩
    unfold jo at nG
    rw [h1] at nG
    obtain ⟨cs,k1,k2,k3⟩:=nG
    rw [<-h7] at k3
    refine ⟨q,h3,h4,cs.toArray,by rw [<-h5];exact k1,?_⟩
    refine Mn.to (ib (H:=st.heap) PC (λl1 b1 sz n WW UC UQ=>?_) s.ins 0 cells m7 x us o st st1 (aI (Ea ks) 0 s.outs r) Vw cs (has▸hT) Ad6 (has▸OT) k3 (n3 π' hD1 (λj _ hj=>rX j (by omega)))) (by simpa using k2)
    have hnp:l1∉pl:= λhp=>by
     obtain ⟨_,_,_,_,_,_,_,h8,_⟩:=IW l1 hp
     rw [UC] at h8;cases h8;cases UQ
    by_cases hi: ∃t∈Lj 0 s.ins as,t.2.reads=false/\t.2.Vx=l1
    ·obtain ⟨b1,b',e1,e2,e3,e4,e5,e6⟩:=hinv l1 WW hi
     rw [UC] at e1;cases e1
     exact ⟨b',by rw [mA l1 WW hnp,e2];simp [e4],by rw [e5.row];exact UQ⟩
    ·exact ⟨_,by rw [mA l1 WW hnp,vI l1 hi,UC];rfl,by rw [OB.wK];exact UQ⟩
   by_cases hi: ∃t∈Lj 0 s.ins as,t.2.reads=false/\t.2.Vx=l
   ·obtain ⟨b1,b',e1,e2,e3,e4,e5,e6⟩:=hinv l hd hi
    rw [h0] at e1;cases e1
    exact .inr ⟨b',by rw [mA l hd ML,e2];simp [e4],by rw [e3];exact e5,λ_=>e6 π' H' hD1⟩
   ·exact .inl ⟨λhh=>hh.elim hi ML,by rw [mA l hd ML,vI l hi,h0];rfl⟩
  ·obtain ⟨j,hj,rfl⟩:=newAt l b' hb hd
   refine ⟨Aip j hj,?_,λq b hq=>?_⟩
   ·rw [rX j hj]
    rcases Nat.lt_or_ge j s.outs.length with hjo|hjo
    ·rcases n2 j (Ni _) (by omega) with ⟨e1,_⟩|⟨b2,e1,e2⟩
     ·rw [show As H' (Ea ks j)=none from e1] at hb;cases hb
     ·rw [show As H' (Ea ks j)=some b2 from e1] at hb;cases hb
      exact e2 X π' H' (λhf q hq=>ZF j hf q hq (ZD j q hq hjo)) hD1
    ·obtain ⟨tid,Wq,hj0⟩:=XE j hj hjo
     subst hj0
     rw [(UT tid Wq).1,hHv tid Wq] at hb;cases hb
     unfold pb at dq
     rw [Wq] at dq
     obtain ⟨q,y1,y2,y3,y4,_⟩:=dq
     rw [UW,y1]
     exact ⟨full q,rfl,y2,_,y3,Mn.to (Mn.take s.Zd (n3 π' hD1 (λj _ hj=>rX j (by omega)))).2 (by simpa using y4)⟩
   ·rw [rX j hj] at hq
    have Qp:=WV _ q hq
    refine ⟨λhf=>by rw [Qp];exact hf,λhf=>?_⟩
    rw [Qp] at hf
    obtain ⟨h1,h2⟩:=OP.Zg _ q b hq hf
    refine ⟨h1,h2.imp id ?_,λl2 r2 hd2 tJ ZB=>?_⟩
    ·rintro ⟨c,p,h3,h4,h5⟩
     obtain ⟨t,t1,t2,t0,p',t3,t4,_⟩:=Vc c p b h4 h5
     exact ⟨t.2.Vx,p',Bn _ (Bn _ (cD.2 ⟨t,SX▸t1,⟨by rw [t2];exact h3,t0⟩,rfl⟩)),t3,t4⟩
    ·by_cases hk: ∃j,j<s.Tp/\l2=Ea ks j
     ·obtain ⟨j2,ZI,rfl⟩:=hk
      rw [rX j2 ZI] at tJ
      rw [WV _ r2 tJ] at ZB
      have:=OP.inj _ _ r2 q b tJ hq ZB hf
      unfold Jq at this
      have:j2=j:=by omega
      rw [this]
     ·have e0:π' l2=if l2∈dead then none else π l2:=vF l2 hk
      rw [e0] at tJ
      split at tJ
      ·cases tJ
      ·rename_i UN
       rcases hd2 with hd2|hd2
       ·exact absurd hd2 UN
       ·rw [(h.1.heap l2).emp hd2] at tJ;cases tJ
  ·by_cases hk: ∃j,j<s.Tp/\l=Ea ks j
   ·obtain ⟨j,hj,rfl⟩:=hk
    rw [rX j hj]
    rcases Nat.lt_or_ge j s.outs.length with hjo|hjo
    ·rcases n2 j (Ni _) (by omega) with ⟨_,e1⟩|⟨b2,e1,_⟩
     ·exact e1
     ·rw [show As H' (Ea ks j)=some b2 from e1] at hl;cases hl
    ·obtain ⟨tid,Wq,hj0⟩:=XE j hj hjo
     subst hj0
     rw [(UT tid Wq).1,hHv tid Wq] at hl;cases hl
   ·have e0:π' l=if l∈dead then none else π l:=vF l hk
    rw [e0]
    split
    ·rfl
    ·rename_i hd
     by_cases ML:l∈pl
     ·obtain ⟨p,_,h1,_⟩:=IW l ML
      rw [WN l ML p h1] at hl;cases hl
     rw [mA l hd ML] at hl
     by_cases hi: ∃t∈Lj 0 s.ins as,t.2.reads=false/\t.2.Vx=l
     ·obtain ⟨_,b',_,e2,_⟩:=hinv l hd hi
      rw [e2] at hl;cases hl
     ·rw [vI l hi] at hl
      cases h0:As st.heap l with
      |none=>exact (h.1.heap l).emp h0
      |some b=>rw [h0] at hl;cases hl
  ·refine UD.block _ (h.1.lt hm).1 λCJ=>?_
   rcases CJ with ho|hg
   rotate_left
   ·obtain ⟨l,hl,q',h1,h2,_⟩:=IQ _ hg
    have vG:=h.1.apart hm h1 (h.1.Cm hm) h2
    obtain ⟨_,_,_,_,_,_,_,h3,_⟩:=IW l hl
    obtain ⟨b,hxa,hxb⟩:=hxa
    rw [vG,h3] at hxa;cases hxa
    exact hxb rfl
   obtain ⟨t,t1,t0,p,t3,t4,t5⟩:=cw _ ho
   have vG:=h.1.apart hm t3 (h.1.Cm hm) t4
   have IY:p=q:=by rw [<-vG,hm] at t3;exact (Aw t3).symm
   cases XN:t.2 with
   |row l=>
    refine hp ?_
    show m∈whole tks
    unfold whole
    exact Kh.2 ⟨t,SX▸t1,by rw [XN,vG,XN];simp [Loc.Vx]⟩
   |sub l i j=>exact t5 l i j XN (by rw [IY])
   |view l=>rw [XN] at t0;cases t0
 ·have Aj4:=n3 π' hD1 (λj _ hj=>rX j (by omega))
  cases BA:s.rp with
  |some tid=>
   unfold pb at dq
   rw [BA] at dq
   obtain ⟨q,y1,y2,y3,y4,rfl⟩:=dq
   unfold VM at eT
   rw [BA] at eT
   simp only [Aa] at eT;subst eT
   refine ⟨full q,tid,_,hHv tid BA,?_,rfl⟩
   rw [<-(UT tid BA).1,rX _ (by have:=(UT tid BA).2;omega),UW,y1]
   rfl
  |none=>
  unfold pb at dq
  rw [BA] at dq
  obtain ⟨dq,Aj8⟩:=dq
  unfold VM at eT
  rw [BA] at eT
  simp only at eT
  obtain ⟨g1,g2,g3,g4⟩:=cr s.Iw _ (Vw.drop s.Zd) Aj8 (Mn.take s.Zd Aj4).2
  unfold Aez at eT
  unfold RC at dq
  split at eT
  ·rename_i hm
   rw [Ab hm] at dq
   simp only [Aa] at eT;subst eT
   subst dq
   exact ⟨_,rfl,g3.symm,g4⟩
  ·rename_i hm
   rw [Ai hm] at dq
   split at eT
   ·rename_i av1 hga
    simp only [Aa] at eT;subst eT
    rcases dq with dq|dq
    ·exact g2 0 _ v (by rw [hga];rfl) (by rw [dq];rfl)
    ·rw [hga,dq] at g1;cases g1
   ·simp only [Aa] at eT;subst eT;trivial
   ·cases eT
end
end Go.Proofs.Ytkkdpknjohcekaa
