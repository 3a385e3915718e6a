/-
  Part 17 of the proof that the statement FnMethods holds.
-/
import Derived.Test.YtkkdpknjohcekaaGreatCFMethods15
namespace Go.Proofs.YtkkdpknjohcekaaGreat
open Go.RowKit
section
variable {P:Program} {T:Tab} {X:Ctx} {w w':World} {π π':Pi} {H H':List (Nat×OB)}
theorem bz (k:Nat): ¬Ee true k<Bk:=by unfold Ee Bk;simp
theorem fY {k:Nat} (h:k<100000):Ee false k<Bk:=by unfold Ee Bk;simp;omega
def nj (X:Ctx) (D:Nat->Prop) (w':World) (π:Pi) (H Hn:List (Nat×OB)) (l:Nat):Prop:=
 ∃b0 b',Av H l=some b0/\Av Hn l=some b'/\(∀f,OB.map f b0=b0)/\(∀f,OB.map f b'=b')/\b0.fH b'/\ ∀π' H',(∀b,Vd π' b\/X.Sc b->D b)->Cl X w' π' H' (π l) b'
theorem Acx {io:Bool} {k:Nat} {τ:Ty} {a:AC} {t:Nat×Loc} (h:t∈Rf io k (.Hw τ) a):t.1=Ee false k:=by
 cases a<;>simp [Rf,views] at h<;>first|(obtain ⟨_,⟨_,_⟩,rfl⟩:=h;rfl)|(rw [h])
theorem XH {io:Bool} {k:Nat} {e:Ty} {te:TypeId} {a:AC} {t:Nat×Loc} (h:t∈Rf io k (.part e te) a):t.1=Ee io k:=by cases a<;>simp [Rf] at h<;>rw [h]
theorem Acy {io:Bool} {k:Nat} {e:Ty} {te:TypeId} {a:AC} {t:Nat×Loc} (h:t∈Rf io k (.row e te) a):t.1=Ee io k:=by cases a<;>simp [Rf] at h<;>rw [h]
theorem XI {io:Bool} {k:Nat} {e:Ty} {te:TypeId} {a:AC} {t:Nat×Loc} (h:t∈Rf io k (.Iu e te) a):t.1=Ee io k:=by cases a<;>simp [Rf] at h<;>rw [h]
theorem fp {D:Nat->Prop} {π':Pi} {fr:Bool} {e:Ty} {es:List Value} {y:e.den} (hD: ∀b,Vd π' b\/X.Sc b->D b) (h:Cells w' D e es y):Cells w' (Dc X.w0.heap.size X.Sc π' (fr&&e.flat)) e es y:=by
 cases hf:e.flat with
 |true=>exact Cells.flat e es y hf h
 |false=>exact Cells.Gj (Aq _) (λ_ _ _=>rfl) (λb _ hb=>by
   rcases hb with hb|hb|⟨hb,_⟩
   ·exact hD b (.inl hb)
   ·exact hD b (.inr hb)
   ·simp at hb) e es y h
theorem XJ {D P:Nat->Prop} {g o:Nat} {cur:Array Value} {tr:Bool} {e:Ty} {xs:List e.den}
  (h: ∀(i:Nat) (x:e.den),xs[i]?=some x-> ∃es:List Value,es.length=e.size/\(∀j u,es[j]?=some u->cur[(o+i)*e.size+j]?=some u)/\Cells w' D e es x) (ht:(tr&&e.flat)=true):Ye w' P g o cur e xs:=by
 simp only [Ah] at ht
 exact nO ht.2 h
theorem WA {D:Nat->Prop} (h:Nw X w π H) {k:Nat} {c:CK} {ys:c.den} {a:AC} {u:Value} {r:Option Real} {x:c.den} {cur st1:St} (hs:w.heap.size<=w'.heap.size)
  (hU: ∀l i j q b,a= .sub l i j->π l=some q->q.Cw b->b<w.heap.size->(∀r',r=some r'-> ¬r'.Cw b)->w'.heap[b]?=w.heap[b]?)
  {V:List Nat} (ht:fc w (Pq X π V) r u c x/\Ui w π H true a u r c x) (hr:gC w' D r c ys) (he:cM cur c ys a=some st1) (iq: ∀t∈Rf true k c a,Av cur.heap t.2.Xu=Av H t.2.Xu):
  st1.tmps=cur.tmps/\(∀m,(∀t∈Rf true k c a,m≠t.2.Xu)->Av st1.heap m=Av cur.heap m)/\ ∀t∈Rf true k c a,nj X D w' π H st1.heap t.2.Xu:=by
 obtain ⟨hc,ht⟩:=ht
 cases c with
 |Hw τ=>cases a<;>simp [cM] at he;subst he;exact ⟨rfl,λ_ _=>rfl,λt ht=>by simp [Rf] at ht⟩
 |row e te=>
  simp only [Ui] at ht
  cases a<;>simp only [] at ht<;>first|(exact ht.elim)|skip
  ·simp only [cM,Aa] at he;subst he
   exact ⟨rfl,λ_ _=>rfl,λt ht=>by simp [Rf] at ht⟩
  ·rename_i l off len
   obtain ⟨rfl,rfl,rfl,fr,tr,hl⟩:=ht
   have Sa:Av cur.heap l=some (.arr fr tr e te x):=(iq _ (Ad.2 rfl)).trans hl
   simp only [cM,St.at,Sa] at he
   split at he
   ·rename_i Kt
    obtain ⟨_,h1,_⟩:=Kt
    simp only [Aa] at he;subst he
    refine ⟨rfl,λm hm=>El _ _ _ _ (hm _ (Ad.2 rfl)),λt Wm=>?_⟩
    have Wm:=Ad.1 Wm
    subst Wm
    refine ⟨_,_,hl,Fu _ _ _ _ Sa,λ_=>rfl,λ_=>rfl,⟨rfl,h1.symm⟩,λπ' H' hD=>?_⟩
    have hb:=(h.heap l).Sl hl
    change Cl X w' π' H' (π l) _
    simp only [Cl,Kz] at hb⊢
    cases hp:π l with
    |none=>rw [hp] at hr;exact hr
    |some q=>
     rw [hp] at hr hb
     obtain ⟨k1,cu,ti,k2,k3,k4,k5,k6⟩:=hr
     exact ⟨⟨k1.1,k1.2,λhh=>hb.1.2.2 (by simp only [Ah] at hh;exact hh.1)⟩,cu,ti,k2,k3,k4,k5,λi y hy=>by
      obtain ⟨es,g1,g2,g3⟩:=k6 i y hy
      exact ⟨es,g1,g2,fp hD g3⟩,λht=>XJ k6 ht⟩
   ·cases he
  ·rename_i l i j
   obtain ⟨⟨_,hf⟩,tid,xs,hl,hx,q,hq,Wy,hre⟩:=ht
   have Sa:Av cur.heap l=some (.Hs (.slice e) tid xs):=(iq _ (Ad.2 rfl)).trans hl
   simp only [cM,St.at,Sa,hx] at he
   rw [Jw trivial] at he
   ·split at he
    ·rename_i h1
     simp only [Aa] at he;subst he
     refine ⟨rfl,λm hm=>El _ _ _ _ (hm _ (Ad.2 rfl)),λt Wm=>?_⟩
     have Wm:=Ad.1 Wm
     subst Wm
     refine ⟨_,_,hl,Fu _ _ _ _ Sa,λ_=>rfl,λ_=>rfl,⟨rfl,by simp⟩,λπ' H' _=>?_⟩
     show Pb w' (π l) (.slice e) tid _
     rw [hq]
     refine hre w' ys hs (λb Me hb hn=>hU l i j q b rfl hq hb Me hn) ?_
     have hv:=hc.1
     rw [<-show List.length ys=List.length x from h1] at hv
     exact Sk.PT hr hf hv
    ·cases he
 |Iu e te=>
  simp only [Ui] at ht
  cases a<;>simp only [] at ht<;>first|(exact ht.elim)|skip
  ·simp only [cM,Aa] at he;subst he
   exact ⟨rfl,λ_ _=>rfl,λt ht=>by simp [Rf] at ht⟩
  ·rename_i l off len
   obtain ⟨rfl,rfl,rfl,hl⟩:=ht
   have Sa:Av cur.heap l=some (.Hs e te x):=(iq _ (Ad.2 rfl)).trans hl
   simp only [cM,St.at,Sa] at he
   split at he
   ·rename_i Kt
    obtain ⟨_,h1,_⟩:=Kt
    simp only [Aa] at he;subst he
    refine ⟨rfl,λm hm=>El _ _ _ _ (hm _ (Ad.2 rfl)),λt Wm=>?_⟩
    have Wm:=Ad.1 Wm
    subst Wm
    refine ⟨_,_,hl,Fu _ _ _ _ Sa,λ_=>rfl,λ_=>rfl,⟨rfl,h1.symm⟩,λπ' H' _=>?_⟩
    show Pb w' (π l) e te _
    cases hp:π l with
    |none=>rw [hp] at hr;exact hr
    |some q=>rw [hp] at hr;exact hr
   ·cases he
  ·rename_i l i j
   obtain ⟨_,tid,xs,hl,hx,q,hq,Wy,hre⟩:=ht
   have Sa:Av cur.heap l=some (.Hs (.slice e) tid xs):=(iq _ (Ad.2 rfl)).trans hl
   simp only [cM,St.at,Sa,hx] at he
   rw [Jw trivial] at he
   ·split at he
    ·rename_i h1
     simp only [Aa] at he;subst he
     refine ⟨rfl,λm hm=>El _ _ _ _ (hm _ (Ad.2 rfl)),λt Wm=>?_⟩
     have Wm:=Ad.1 Wm
     subst Wm
     refine ⟨_,_,hl,Fu _ _ _ _ Sa,λ_=>rfl,λ_=>rfl,⟨rfl,by simp⟩,λπ' H' _=>?_⟩
     show Pb w' (π l) (.slice e) tid _
     rw [hq]
     refine hre w' ys hs (λb Me hb hn=>hU l i j q b rfl hq hb Me hn) ?_
     have hv:=hc.1
     rw [<-show List.length ys=List.length x from h1] at hv
     exact Pb.PT (te:=te) hr hv
    ·cases he
 |part e te=>cases a<;>simp [cM] at he<;>first|(simp only [Ui] at ht;exact ht.2.elim)
 |Bu e te kp=>exact absurd ht.1 (by simp)
theorem WB {D:Nat->Prop} (h:Nw X w π H) {k:Nat} {e:Ty} {te:TypeId} {ys:List e.den} {a:AC} {u:Value} {r:Option Real} {x:(CK.part e te).den} {cur st1:St}
  {V:List Nat} (ht:fc w (Pq X π V) r u (.part e te) x/\Ui w π H true a u r (.part e te) x) (hr:gC w' D r (.row e te) ys) (he:OD cur e ys a=some st1) (iq: ∀t∈Rf true k (.part e te) a,Av cur.heap t.2.Xu=Av H t.2.Xu):
  st1.tmps=cur.tmps/\(∀m,(∀t∈Rf true k (.part e te) a,m≠t.2.Xu)->Av st1.heap m=Av cur.heap m)/\ ∀t∈Rf true k (.part e te) a,nj X D w' π H st1.heap t.2.Xu:=by
 obtain ⟨hc,hf,ht⟩:=ht
 cases a<;>simp only [] at ht<;>first|(exact ht.elim)|skip
 rename_i l off len
 obtain ⟨rfl,_,fr,tr,hl⟩:=ht
 have Sa:Av cur.heap l=some (.arr fr tr e te x.1):=(iq _ (Ad.2 rfl)).trans hl
 simp only [OD,St.at,Sa] at he
 split at he
 ·rename_i Kt
  obtain ⟨_,h1⟩:=Kt
  simp only [Aa] at he;subst he
  refine ⟨rfl,λm hm=>El _ _ _ _ (hm _ (Ad.2 rfl)),λt Wm=>?_⟩
  have Wm:=Ad.1 Wm
  subst Wm
  refine ⟨_,_,hl,Fu _ _ _ _ Sa,λ_=>rfl,λ_=>rfl,⟨rfl,h1.symm⟩,λπ' H' _=>?_⟩
  have hb:=(h.heap l).Sl hl
  change Cl X w' π' H' (π l) _
  simp only [Cl,Kz] at hb⊢
  cases hp:π l with
  |none=>rw [hp] at hr;exact hr
  |some q=>
   rw [hp] at hr hb
   obtain ⟨k1,cu,ti,k2,k3,k4,k5,k6⟩:=hr
   exact ⟨⟨k1.1,k1.2,hb.1.2.2⟩,cu,ti,k2,k3,k4,k5,λi y hy=>by
    obtain ⟨es,g1,g2,g3⟩:=k6 i y hy
    exact ⟨es,g1,g2,Cells.flat e es y hf g3⟩,λ_=>nO hf k6⟩
 ·cases he
def sf (X:Ctx) (D:Nat->Prop) (w':World) (π:Pi) (H:List (Nat×OB)) (tk:List (Nat×Loc)) (cur st1:St):Prop:=
 st1.tmps=cur.tmps/\(∀m,(∀t∈tk,m≠t.2.Xu)->Av st1.heap m=Av cur.heap m)/\(∀t∈tk,t.1<Bk->Av st1.heap t.2.Xu=Av cur.heap t.2.Xu)/\(∀t∈tk,¬t.1<Bk->nj X D w' π H st1.heap t.2.Xu)
theorem uK {D:Nat->Prop} (h:Nw X w π H) {V:List Nat} {πc:Pi} {tks:List (Nat×Loc)} (hs:w.heap.size<=w'.heap.size)
  (hU: ∀t∈tks,∀q b,π t.2.Xu=some q->q.Cw b->b<w.heap.size->(∀r',πc t.1=some r'-> ¬r'.Cw b)->w'.heap[b]?=w.heap[b]?):
  ∀(cs:List (Bool×CK)) (k:Nat) (x:Ins.den cs) (as:List AC) (us:List Value) (o:IOs.den cs) (cur st1:St),k+cs.length<100000->(∀t∈Mu k cs as,t∈tks)->((Mu k cs as).map λt=>t.2.Xu).Nodup->
   rJ X w π V H πc k cs x as us->Mo w' D πc k cs o->Iz cs o as cur=some st1->(∀t∈Mu k cs as,Av cur.heap t.2.Xu=Av H t.2.Xu)->
   sf X D w' π H (Mu k cs as) cur st1
 | [],k,x,as,us,o,cur,st1,_,_,_,_,_,he,_=>by
  simp only [Iz,Aa] at he;subst he
  have e0:Mu k [] as= []:=by cases as<;>rfl
  exact ⟨rfl,λ_ _=>rfl,by rw [e0];simp,by rw [e0];simp⟩
 |p::r,k,x,[],us,o,cur,st1,_,_,_,ht,_,_,_=>ht.elim
 |p::r,k,x,a::as,[],o,cur,st1,_,_,_,ht,_,_,_=>ht.elim
 |(io,c)::r,k,x,a::as,u::us,o,cur,st1,hk,Yr,rS,ht,ho,he,iq=>by
  simp only [Ay] at hk
  simp only [Mu] at Yr rS iq⊢
  rw [Oz] at rS
  obtain ⟨n1,n2,n3⟩:=Ef.1 rS
  have apart: ∀t∈Rf io k c a,∀t'∈Mu (k+1) r as,t'.2.Xu≠t.2.Xu:= λt h1 t' h2 e=>n3 _ (Bf.2 ⟨t,h1,rfl⟩) _ (Bf.2 ⟨t',h2,rfl⟩) e.symm
  have rest: ∀(aA:St) (o':IOs.den r),Mo w' D πc (k+1) r o'->Iz r o' as aA=some st1->aA.tmps=cur.tmps->(∀m,(∀t∈Rf io k c a,m≠t.2.Xu)->Av aA.heap m=Av cur.heap m)->
    (∀t∈Rf io k c a,t.1<Bk->Av aA.heap t.2.Xu=Av cur.heap t.2.Xu)->(∀t∈Rf io k c a,¬t.1<Bk->nj X D w' π H aA.heap t.2.Xu)->
    sf X D w' π H (Rf io k c a++Mu (k+1) r as) cur st1:=by
   intro aA o' h1 h2 h3 h4 h5 h6
   obtain ⟨g1,g2,g3,g4⟩:=uK h hs hU r (k+1) x.2 as us o' aA st1 (by omega) (λt ht=>Yr t (Ck _ ht)) n2 ht.2 h1 h2 (λt Wm=>by
    rw [h4 _ λt0 ht0=>apart t0 ht0 t Wm];exact iq t (Ck _ Wm))
   have hd: ∀t∈Rf io k c a,Av st1.heap t.2.Xu=Av aA.heap t.2.Xu:= λt Wm=>g2 _ λt' qR=>(apart t Wm t' qR).symm
   refine ⟨g1.trans h3,λm hm=>?_,λt Wm Me=>?_,λt Wm Me=>?_⟩
   ·rw [g2 m λt ht=>hm t (Ck _ ht),h4 m λt ht=>hm t (Bi _ ht)]
   ·rcases Ba.1 Wm with Wm|Wm
    ·rw [hd t Wm,h5 t Wm Me]
    ·rw [g3 t Wm Me,h4 _ λt0 ht0=>apart t0 ht0 t Wm]
   ·rcases Ba.1 Wm with Wm|Wm
    ·obtain ⟨b0,b',q1,q2,q3⟩:=h6 t Wm Me
     exact ⟨b0,b',q1,(hd t Wm).trans q2,q3⟩
    ·exact g4 t Wm Me
  have same: ∀o',Mo w' D πc (k+1) r o'->Iz r o' as cur=some st1->(∀t∈Rf io k c a,t.1<Bk)->sf X D w' π H (Rf io k c a++Mu (k+1) r as) cur st1:= λo' h1 h2 h3=>rest cur o' h1 h2 rfl (λ_ _=>rfl) (λ_ _ _=>rfl) (λt h4 h5=>absurd (h3 t h4) h5)
  cases io with
  |false=>
   have h3: ∀t∈Rf false k c a,t.1<Bk:= λt h4=>by rcases JL h4 with ⟨h5,_⟩|⟨h5,_⟩<;>(rw [h5];exact fY (by omega))
   cases c with
   |Hw τ=>exact same o ho (by simpa only [Iz] using he) h3
   |row e te=>exact same o ho (by simpa only [Iz] using he) h3
   |Iu e te=>exact same o ho (by simpa only [Iz] using he) h3
   |part e te=>exact same o ho (by simpa only [Iz] using he) h3
   |Bu e te kp=>exact same o ho (by simpa only [Iz] using he) h3
  |true=>
   have row: ∀(ys:c.den) (o':IOs.den r),(∀t∈Rf true k c a,t.1=Ee true k)->gC w' D (πc (Ee true k)) c ys->Mo w' D πc (k+1) r o'->(∃aA,cM cur c ys a=some aA/\Iz r o' as aA=some st1)->sf X D w' π H (Rf true k c a++Mu (k+1) r as) cur st1:=by
    intro ys o' h0 h1 h2 h3
    obtain ⟨aA,hp,h3⟩:=h3
    ·obtain ⟨q1,q2,q3⟩:=WA (k:=k) h hs (λl i j q b ea hq hb Me hn=>by
      cases c with
      |Hw τ=>exact absurd (ht.1.2:πc _=none) (by subst ea;simp [cM] at hp)
      |row e te=>subst ea;exact hU (Ee true k, .sub l i j) (Yr _ (Bi _ (Ad.2 rfl))) q b hq hb Me hn
      |Iu e te=>subst ea;exact hU (Ee true k, .sub l i j) (Yr _ (Bi _ (Ad.2 rfl))) q b hq hb Me hn
      |Bu e te kp=>exact absurd ht.1.2.1 (by simp)
      |part e te=>exact absurd ht.1.2.2 (by subst ea;exact λh=>h)) ht.1 h1 hp (λt Wm=>iq t (Bi _ Wm))
     exact rest aA o' h2 h3 q1 q2 (λt h4 h5=>absurd h5 (by rw [h0 t h4];exact bz k)) (λt h4 _=>q3 t h4)
   cases c with
   |Hw τ=>exact same o ho (by simpa only [Iz] using he) (λt h4=>by rw [Acx h4];exact fY (by omega))
   |Bu e te kp=>exact absurd ht.1.2.1 (by simp)
   |row e te=>
    simp only [Iz] at he
    split at he
    ·rename_i aA hp;exact row o.1 o.2 (λt ht=>Acy ht) ho.1 ho.2 ⟨aA,hp,he⟩
    ·cases he
   |Iu e te=>
    simp only [Iz] at he
    split at he
    ·rename_i aA hp;exact row o.1 o.2 (λt ht=>XI ht) ho.1 ho.2 ⟨aA,hp,he⟩
    ·cases he
   |part e te=>
    simp only [Iz] at he
    split at he
    ·rename_i aA hp
     obtain ⟨q1,q2,q3⟩:=WB (k:=k) h ht.1 ho.1 hp (λt Wm=>iq t (Bi _ Wm))
     exact rest aA o.2 ho.2 he q1 q2 (λt h4 h5=>absurd h5 (by rw [XH h4];exact bz k)) (λt h4 _=>q3 t h4)
    ·cases he
theorem NC {fr:Bool} {c:CK} {x:c.den} {u:Value} {r:Option Real} {D:Nat->Prop} (h:fc w' D r u c x):
  (wx fr c x=none/\r=none)\/ ∃b',wx fr c x=some b'/\ ∀(X:Ctx) π' H',(fr=true-> ∀q,r=some q->X.w0.heap.size<=q.g)->(∀b,Vd π' b\/X.Sc b->D b)->Cl X w' π' H' r b':=by
 cases c with
 |Hw τ=>exact .inl ⟨rfl,h.1⟩
 |row e te=>
  refine .inr ⟨_,rfl,λX π' H' zG hD=>?_⟩
  obtain ⟨_,h⟩:=h
  simp only [gC] at h
  simp only [Cl,Kz]
  cases r with
  |none=>exact h
  |some q=>
   obtain ⟨k1,cu,ti,k2,k3,k4,k5,k6⟩:=h
   exact ⟨⟨k1.1,k1.2,λh1=>zG (by simp only [Ah] at h1;exact h1.1) q rfl⟩,cu,ti,k2,k3,k4,k5,λi y hy=>by
    obtain ⟨es,g1,g2,g3⟩:=k6 i y hy
    exact ⟨es,g1,g2,fp hD g3⟩,λh=>by cases h⟩
 |Iu e te=>exact .inr ⟨_,rfl,λX π' H' _ _=>h.2⟩
 |Bu e te kp=>exact .inr ⟨_,rfl,λX π' H' _ hD=>⟨aK.Jv h.2 λb hb=>hD b (hb.imp id λh=>h.elim id λh=>by cases h.1),trivial⟩⟩
 |part e te=>
  refine .inr ⟨_,rfl,λX π' H' zG hD=>?_⟩
  obtain ⟨_,hf,h⟩:=h
  simp only [Cl,Kz]
  cases r with
  |none=>exact h
  |some q=>
   obtain ⟨k1,cu,ti,k2,k3,k4,k5,k6⟩:=h
   exact ⟨⟨k1.1,k1.2,λh1=>zG (by simp only [Ah] at h1;exact h1.1) q rfl⟩,cu,ti,k2,k3,k4,k5,λi y hy=>by
    obtain ⟨es,g1,g2,g3⟩:=k6 i y hy
    exact ⟨es,g1,g2,fp hD g3⟩,λh=>by cases h⟩
theorem ri {D:Nat->Prop} {key:Nat->Nat} (MD: ∀i j,key i=key j->i=j) {fr:Bool} {ρ:Pi} : ∀(cs:List CK) (k:Nat) (x:CKs.den cs) (us:List Value) (H:List (Nat×OB)),Jq w' D ρ k cs x us->
  (∀j,k<=j->j<k+cs.length->Av H (key j)=none)->
  (∀l,(∀j,k<=j->j<k+cs.length->l≠key j)->Av (Yw fr key k cs x H) l=Av H l)/\
  (∀j,k<=j->j<k+cs.length->(Av (Yw fr key k cs x H) (key j)=none/\ρ (Jh j)=none)\/
   ∃b',Av (Yw fr key k cs x H) (key j)=some b'/\ ∀(X:Ctx) π' H',(fr=true-> ∀q,ρ (Jh j)=some q->X.w0.heap.size<=q.g)->(∀b,Vd π' b\/X.Sc b->D b)->Cl X w' π' H' (ρ (Jh j)) b')/\
  (∀π',(∀b,Vd π' b\/X.Sc b->D b)->(∀j,k<=j->j<k+cs.length->π' (key j)=ρ (Jh j))->Nx X w' π' (Yw fr key k cs x H) (cn key k cs x) us)
 | [],k,x,[],H,_,_=>⟨λ_ _=>rfl,λj h1 h2=>by simp at h2;omega,λ_ _ _=>trivial⟩
 | [],_,_,_::_,_,h,_=>h.elim
 |_::_,_,_,[],_,h,_=>h.elim
 |c::r,k,x,u::us,H,h,hn=>by
  simp only [Ay] at hn⊢
  simp only [Yw,cn]
  have tM:=hn k (Aq _) (by omega)
  have hH1: ∀l,l≠key k->Av (GD H (key k) (wx fr c x.1)) l=Av H l:=by
   intro l hl
   cases wx fr c x.1 with
   |some b=>exact Qd _ _ _ _ hl
   |none=>rfl
  have An6:Av (GD H (key k) (wx fr c x.1)) (key k)=wx fr c x.1:=by
   cases wx fr c x.1 with
   |some b=>exact Rh _ _ _ tM
   |none=>exact tM
  generalize (GD H (key k) (wx fr c x.1))=H1 at hH1 An6⊢
  obtain ⟨g1,g2,g3⟩:=ri MD (fr:=fr) r (k+1) x.2 us H1 h.2 (λj h1 h2=>by
   rw [hH1 _ λe=>by have:=MD _ _ e;omega];exact hn j (by omega) (by omega))
  have hkk:Av (Yw fr key (k+1) r x.2 H1) (key k)=wx fr c x.1:=by
   rw [g1 _ λj h1 h2 e=>by have:=MD _ _ e;omega];exact An6
  refine ⟨λl hl=>?_,λj h1 h2=>?_,λπ' hd hπ=>⟨?_,?_⟩⟩
  ·rw [g1 l λj h1 h2=>hl j (by omega) (by omega)]
   exact hH1 l (hl k (Aq _) (by omega))
  ·rcases Nat.eq_or_lt_of_le h1 with e|h1
   ·subst e
    rw [hkk]
    exact NC h.1
   ·exact g2 j h1 (by omega)
  ·have h1:=h.1
   have hpk:=hπ k (Aq _) (by omega)
   cases c with
   |Hw τ=>
    obtain ⟨iX,c1,c2⟩:=h1.2
    exact ⟨iX,by have:=fp (fr:=true) hd c1;simpa using this,c2⟩
   |row e te=>exact ⟨_,e.size,List.length x.1,hkk,rfl,by simp,by rw [hpk];exact h1.1⟩
   |Iu e te=>exact ⟨_,e.size,List.length x.1,hkk,rfl,by simp,by rw [hpk];exact h1.1⟩
   |Bu e te kp=>exact ⟨_,1,List.length x.1,hkk,rfl,by simp,by rw [hpk];exact h1.1⟩
   |part e te=>trivial
  ·exact g3 π' hd λj h1 h2=>hπ j (by omega) (by omega)
theorem MU {ks:List Nat} {n:Nat} (h:AA ks n=true):ks.length=n/\ks.Nodup/\ ∀l∈ks,l<Bk:=by
 unfold AA at h
 simp only [Ah] at h
 refine ⟨Kp h.1,Yv h.2.1,λl hl=>?_⟩
 have:=Bc.1 h.2.2 l hl
 simpa using this
theorem Sm {ks:List Nat} {j:Nat} (h:j<ks.length):Er ks j=ks[j]:=by
 unfold Er
 rw [Ac h]
theorem EP {ks:List Nat} (hn:ks.Nodup) (hl: ∀l∈ks,l<Bk): ∀i j,Er ks i=Er ks j->i=j:=by
 intro i j h
 by_cases hi:i<ks.length
 ·by_cases hj:j<ks.length
  ·rw [Sm hi,Sm hj] at h
   rcases Nat.lt_trichotomy i j with Me|he|Me
   ·exact absurd h (Fa.1 hn i j hi hj Me)
   ·exact he
   ·exact absurd h.symm (Fa.1 hn j i hj hi Me)
  ·have h1:=hl _ (Am hi)
   rw [Sm hi] at h
   unfold Er at h
   rw [Ei (by omega)] at h
   simp only at h
   omega
 ·by_cases hj:j<ks.length
  ·have h1:=hl _ (Am hj)
   rw [Sm hj] at h
   unfold Er at h
   rw [Ei (by omega)] at h
   simp only at h
   omega
  ·unfold Er at h
   rw [Ei (by omega),Ei (by omega)] at h
   simp only at h
   omega
theorem Oq: ∀(H:List (Nat×OB)) (dead:List Nat) (l:Nat),Av (Yi H dead) l=if l∈dead then none else Av H l
 | [],dead,l=>by simp [Yi,Av]
 |(k,b)::r,dead,l=>by
  simp only [Yi]
  have ih:=Oq r dead l
  by_cases hk:k∈dead
  ·rw [Ab (by simpa using hk),ih]
   split
   ·rfl
   ·rename_i hl
    simp only [Av]
    rw [Ai (λ(e:k=l)=>hl (e▸hk))]
  ·rw [Ai (by simpa using hk)]
   simp only [Av]
   split
   ·rename_i e;subst e;rw [Ai hk]
   ·exact ih
theorem mem_keys {ks:List Nat} {l:Nat} :l∈ks↔ ∃k,k<ks.length/\l=Er ks k:=
 ⟨λh=>by obtain ⟨k,hk,e⟩:=Ol h;exact ⟨k,hk,by rw [Sm hk,e]⟩,λ⟨k,hk,e⟩=>by rw [e,Sm hk];exact Am hk⟩
theorem eJ {tks:List (Nat×Loc)} {l:Nat} :l∈nC tks↔ ∃t∈tks,(t.1<Bk/\t.2.reads=false)/\t.2.Xu=l:=by
 unfold nC
 simp only [Bf,Cf,Ah,Oc,Fm]
 exact ⟨λ⟨t,⟨h1,h2⟩,h3⟩=>⟨t,h1,h2,h3⟩,λ⟨t,h1,h2,h3⟩=>⟨t,⟨h1,h2⟩,h3⟩⟩
theorem AB {tks:List (Nat×Loc)} (h:(tks.map λt=>t.2.Xu).Nodup) {t t':Nat×Loc} (ht:t∈tks) (qR:t'∈tks) (he:t.2.Xu=t'.2.Xu):t=t':=by
 induction tks with
 |nil=>cases ht
 |cons a r ih=>
  simp only [Bz] at h
  obtain ⟨h1,h2⟩:=Cg.1 h
  rcases Bb.1 ht with rfl|ht<;>rcases Bb.1 qR with rfl|qR
  ·rfl
  ·exact (h1 (Bf.2 ⟨t',qR,he.symm⟩)).elim
  ·exact (h1 (he▸Bf.2 ⟨t,‹t∈r›,rfl⟩)).elim
  ·exact ih h2 ht qR
theorem Jq.full {D:Nat->Prop} {ρ:Pi} : ∀(cs:List CK) (k:Nat) (x:CKs.den cs) (us:List Value),Jq w D ρ k cs x us->Jq w D (λl=>(ρ l).map full) k cs x us
 | [],_,_,[],h=>h
 | [],_,_,_::_,h=>h.elim
 |_::_,_,_,[],h=>h.elim
 |c::r,k,x,u::us,h=>⟨by
   have h1:=h.1
   show fc w D ((ρ (Jh k)).map _) u c x.1
   cases c with
   |Hw τ=>rw [h1.1];exact ⟨rfl,h1.2⟩
   |row e te=>cases hp:ρ (Jh k)<;>(rw [hp] at h1;exact h1)
   |Iu e te=>cases hp:ρ (Jh k)<;>(rw [hp] at h1;exact h1)
   |Bu e te kp=>cases hp:ρ (Jh k)<;>(rw [hp] at h1;exact h1)
   |part e te=>cases hp:ρ (Jh k)<;>(rw [hp] at h1;exact h1),Jq.full r (k+1) x.2 us h.2⟩
theorem Jq.Ahb {D:Nat->Prop} {ρ:Pi} : ∀(cs:List CK) (k0:Nat) (x:CKs.den cs) (us:List Value),Jq w D ρ k0 cs x us-> ∀j,k0<=j->j<k0+cs.length-> ∀q,ρ (Jh j)=some q->q.Cw q.g
 | [],k0,_,_,_,j,h1,h2,_,_=>by simp at h2;omega
 |_::_,_,_,[],h,_,_,_,_,_=>h.elim
 |c::r,k0,x,u::us,ho,j,h1,h2,q,hq=>by
  rcases Nat.eq_or_lt_of_le h1 with e|h1
  ·subst e
   have:=ho.1
   cases c with
   |Hw τ=>rw [hq] at this;cases this.1
   |row e te=>rw [hq] at this;exact this.2.1.1
   |Iu e te=>rw [hq] at this;exact this.2.1
   |part e te=>rw [hq] at this;exact this.2.2.1.1
   |Bu e te kp=>rw [hq] at this;exact this.2.1
  ·exact Jq.Ahb r (k0+1) x.2 us ho.2 j h1 (by simp at h2;omega) q hq
theorem Sk.any {D D':Nat->Prop} {r:Option Real} {e:Ty} {xs:List e.den} (hf:e.flat=true) (h:Sk w D r e xs):Sk w D' r e xs:=by
 cases r with
 |none=>exact h
 |some r=>
  obtain ⟨k1,cu,ti,k2,k3,k4,k5,k6⟩:=h
  exact ⟨k1,cu,ti,k2,k3,k4,k5,λi y hy=>by
   obtain ⟨es,g1,g2,g3⟩:=k6 i y hy
   exact ⟨es,g1,g2,Cells.flat e es y hf g3⟩⟩
theorem Jq.any {D D':Nat->Prop} {ρ:Pi} : ∀(cs:List CK) (k:Nat) (x:CKs.den cs) (us:List Value),cs.all (·.flat)=true->Jq w D ρ k cs x us->Jq w D' ρ k cs x us
 | [],_,_,[],_,h=>h
 | [],_,_,_::_,_,h=>h.elim
 |_::_,_,_,[],_,h=>h.elim
 |c::r,k,x,u::us,hf,h=>by
  simp only [Jl,Ah] at hf
  refine ⟨?_,Jq.any r (k+1) x.2 us hf.2 h.2⟩
  have h1:=h.1
  cases c with
  |Hw τ=>exact ⟨h1.1,Dg.flat hf.1 h1.2⟩
  |row e te=>exact ⟨h1.1,Sk.any hf.1 h1.2⟩
  |Iu e te=>exact h1
  |part e te=>exact ⟨h1.1,h1.2.1,Sk.any hf.1 h1.2.2⟩
  |Bu e te kp=>exact absurd hf.1 (by simp [CK.flat])
theorem Mo.any {D D':Nat->Prop} {π:Pi} : ∀(cs:List (Bool×CK)) (k:Nat) (x:IOs.den cs),(cs.all λp=>!p.1||p.2.flat)=true->Mo w D π k cs x->Mo w D' π k cs x
 | [],_,_,_,h=>h
 |(false,_)::r,k,x,hf,h=>Mo.any r (k+1) x (by simp only [Jl,Ah] at hf;exact hf.2) h
 |(true, .Hw _)::r,k,x,hf,h=>Mo.any r (k+1) x (by simp only [Jl,Ah] at hf;exact hf.2) h
 |(true, .Bu _ _ _)::r,k,x,hf,h=>Mo.any r (k+1) x (by simp only [Jl,Ah] at hf;exact hf.2) h
 |(true, .row e te)::r,k,x,hf,h=>by
  simp only [Jl,Ah,Bool.not_true,bJ] at hf
  exact ⟨Sk.any hf.1 h.1,Mo.any r (k+1) x.2 hf.2 h.2⟩
 |(true, .Iu e te)::r,k,x,hf,h=>by
  simp only [Jl,Ah,Bool.not_true,bJ] at hf
  exact ⟨h.1,Mo.any r (k+1) x.2 hf.2 h.2⟩
 |(true, .part e te)::r,k,x,hf,h=>by
  simp only [Jl,Ah,Bool.not_true,bJ] at hf
  exact ⟨Sk.any hf.1 h.1,Mo.any r (k+1) x.2 hf.2 h.2⟩
theorem uj {tks:List (Nat×Loc)} {l:Nat} :l∈DD tks↔ ∃t∈tks,t.2.reads=true/\t.2.Xu=l:=by
 unfold DD
 simp only [Bf,Cf]
 exact ⟨λ⟨t,⟨h1,h2⟩,h3⟩=>⟨t,h1,h2,h3⟩,λ⟨t,h1,h2,h3⟩=>⟨t,⟨h1,h2⟩,h3⟩⟩
theorem Bh.oB {st:St} {a:Act} (h:Bh X π st a w) {f:AC->AC} (hu:f .undef= .undef) {gv:Nat->Prop} (UI: ∀b,gv b->Vd π b) (hb:Jz w.heap.size gv w w')
  (eC: ∀b,b<w.heap.size->Vd π' b->Vd π b)
  (Yr: ∀l r b,π' l=some r->r.Cw b->r.cl b) (Ak6: ∀l r b,π' l=some r->r.cl b->(X.w0.heap.size<=b\/X.gv b)/\b<w'.heap.size)
  (Aue: ∀l l' r r' b,π' l=some r->π' l'=some r'->r.cl b->r'.cl b->l=l')
  (dF: ∀l,Bk<=l->Av H' l≠none->bM (X.iD l) (π' l))
  (hac:(∀fr τ cs x,Cells w (Dc X.w0.heap.size X.Sc π fr) τ cs x->Cells w' (Dc X.w0.heap.size X.Sc π' fr) τ cs x)-> ∀c v,Iq X w π st.heap c v->Iq X w' π' H' (f c) v)
  (LY:Move X w w' π π' st.heap H' f-> ∀l b,Av H' l=some b->Cl X w' π' H' (π' l) b)
  (RZ: ∀l,Av H' l=none->π' l=none):
  Bh X π' {tmps:=st.tmps.map (·.map f),heap:=H'} a w':=by
 have hc: ∀fr τ cs x,Cells w (Dc X.w0.heap.size X.Sc π fr) τ cs x->Cells w' (Dc X.w0.heap.size X.Sc π' fr) τ cs x:= λfr τ cs x hh=>
  Cells.Gj hb.size (λk hk hn=>hb.block k hk λhg=>hn (.inl (UI k hg))) (λk Me hA=>hA.imp (eC k Me) id) τ cs x hh
 have m:Move X w w' π π' st.heap H' f:=⟨hac hc,hc⟩
 refine ⟨⟨⟨hb.os.trans h.1.below.os,hb.tape.trans h.1.below.tape,hb.output.trans h.1.below.output,Je h.1.below.size hb.size,λk hk hn=>?_⟩,h.1.sc,Yr,Ak6,Aue,dF,λl=>?_⟩,m.OG hu h.2⟩
 ·refine (hb.block k (Ew hk h.1.below.size) λhg=>?_).trans (h.1.below.block k hk hn)
  rcases (h.1.own (UI k hg)).2 with h1|h1
  ·omega
  ·exact hn h1
 ·cases hh:Av H' l with
  |none=>exact Hc.Ux (RZ l hh) hh
  |some b=>exact Hc.Ms (LY m l b hh) hh
def gD:Option Real->Option Real->Prop
 |none,none=>True
 |some r,some r'=>r.g=r'.g/\r.o=r'.o/\r.cap=r'.cap
 |_,_=>False
theorem gD.rfl' (r:Option Real):gD r r:=by cases r<;>simp [gD]
theorem gD.some {r:Real} {r':Option Real} (h:gD (some r) r'): ∃q,r'=some q/\r.g=q.g/\r.o=q.o/\r.cap=q.cap:=by
 cases r' with
 |none=>exact h.elim
 |some q=>exact ⟨q,rfl,h⟩
theorem gD.own {r r':Option Real} (h:gD r r') {sz off len:Nat} {v:Value} (hv:Ib r sz off len v):Ib r' sz off len v:=by
 cases r<;>cases r'<;>first|exact h.elim|skip
 ·exact hv
 ·obtain ⟨h1,h2,h3⟩:=h
  obtain ⟨ad,g1,g2,g3⟩:=hv
  exact ⟨ad,by rw [<-h3];exact g1,by rw [<-h3];exact g2,by rw [<-h1,<-h2,<-h3];exact g3⟩
structure OB.Tw (b b':OB):Prop where
 row: ∀sz n,b.row=some (sz,n)-> ∃n',b'.row=some (sz,n')/\n<=n'
 gQ: ∀p,b.gQ=some p->b'.gQ=some p
 w9: ∀p,b.w9=some p->b'.w9=some p
 var: ∀tid vs,b= .var tid vs-> ∃Vo vs',b'= .var Vo vs'
 Wi: ∀v m,b= .Wi v m-> ∃m',b'= .Wi v m'
theorem OB.Tw.map (f:AC->AC) (b:OB):b.Tw (b.map f) where
 row:= λsz n h=>⟨n,by cases b<;>exact h,Aq _⟩
 gQ:= λp h=>by cases b<;>exact h
 w9:= λp h=>by cases b<;>exact h
 var:= λtid vs h=>by subst h;exact ⟨_,_,rfl⟩
 Wi:= λv m h=>by subst h;exact ⟨_,rfl⟩
theorem OB.Tw.rfl' (b:OB):b.Tw b where
 row:= λ_sz n h=>⟨n,h,Aq _⟩
 gQ:= λ_p h=>h
 w9:= λ_p h=>h
 var:= λ_tid _vs h=>⟨_,_,h⟩
 Wi:= λ_v _m h=>⟨_,h⟩
theorem OB.Tw.trans {a b c:OB} (h:a.Tw b) (k:b.Tw c):a.Tw c where
 row:= λsz n hr=>by
  obtain ⟨n1,h1,h2⟩:=h.row sz n hr
  obtain ⟨n2,h3,h4⟩:=k.row sz n1 h1
  exact ⟨n2,h3,by omega⟩
 gQ:= λp hp=>k.gQ p (h.gQ p hp)
 w9:= λp hp=>k.w9 p (h.w9 p hp)
 var:= λtid vs hv=>by obtain ⟨t',v',h1⟩:=h.var tid vs hv;exact k.var t' v' h1
 Wi:= λv m hm=>by obtain ⟨m',h1⟩:=h.Wi v m hm;exact k.Wi v m' h1
theorem oA {f:AC->AC} {D Pt:Nat->Prop} (hf: ∀c,f c= .undef\/(f c=c/\(∀k∈c.refs,¬D k)/\ ∀k i j,c= .sub k i j\/c= .Ky k i j-> ¬Pt k)) (hp: ∀k,¬D k->gD (π k) (π' k))
  (hH: ∀k b,¬D k->Av H k=some b-> ∃b',Av H' k=some b'/\b.Tw b')
  (hg: ∀k r b,¬D k-> ¬Pt k->Av H k=some b->b.gQ≠none->π k=some r->w'.heap[r.g]?=w.heap[r.g]?)
  (hc: ∀fr τ cs x,Cells w (Dc X.w0.heap.size X.Sc π fr) τ cs x->Cells w' (Dc X.w0.heap.size X.Sc π' fr) τ cs x): ∀c v,Iq X w π H c v->Iq X w' π' H' (f c) v:=by
 intro c v h
 rcases hf c with e|⟨e,hr,hs⟩
 ·rw [e];trivial
 rw [e]
 cases c with
 |data fr τ x=>obtain ⟨cs,h1,h2⟩:=h;exact ⟨cs,hc _ _ _ _ h1,h2⟩
 |own k off len=>
  obtain ⟨b,sz,n,h1,h0,h2,h3⟩:=h
  have hk:=hr k (by simp [AC.refs])
  obtain ⟨b',g1,g2⟩:=hH k b hk h1
  obtain ⟨n',g3,g4⟩:=g2.row sz n h0
  exact ⟨b',sz,n',g1,g3,by omega,(hp k hk).own h3⟩
 |Ii k i=>
  obtain ⟨r,tid,vs,h1,h2,h3⟩:=h
  have hk:=hr k (by simp [AC.refs])
  obtain ⟨b',g1,g2⟩:=hH k _ hk h1
  obtain ⟨Vo,vs',rfl⟩:=g2.var tid vs rfl
  obtain ⟨q,q1,q2,_⟩:=(h2▸hp k hk).some
  exact ⟨q,Vo,vs',g1,q1,by rw [<-q2];exact h3⟩
 |Ld k i=>
  obtain ⟨r,b,sz,n,h1,h0,h2,h3,h4⟩:=h
  have hk:=hr k (by simp [AC.refs])
  obtain ⟨b',g1,g2⟩:=hH k b hk h1
  obtain ⟨n',g3,g4⟩:=g2.row sz n h0
  obtain ⟨q,q1,q2,q3,_⟩:=(h3▸hp k hk).some
  exact ⟨q,b',sz,n',g1,g3,by omega,q1,by rw [<-q2,<-q3];exact h4⟩
 |sub k i c=>
  obtain ⟨r,b,sz,n,h1,h0,h2,h3,h4,h5⟩:=h
  have hk:=hr k (by simp [AC.refs])
  obtain ⟨b',g1,g2⟩:=hH k b hk h1
  obtain ⟨q,q1,q2,q3,_⟩:=(h2▸hp k hk).some
  exact ⟨q,b',sz,n,g1,g2.gQ _ h0,q1,h3,h4,by rw [<-q2,<-q3,World.cell?_of_block (hg k r b hk (hs k i c (.inl rfl)) h1 (by rw [h0];simp) h2)];exact h5⟩
 |Ky k i c=>
  obtain ⟨r,b,n,sz,g,o,len,cap,h1,h0,h2,h3,h4,h5,h6⟩:=h
  have hk:=hr k (by simp [AC.refs])
  obtain ⟨b',g1,g2⟩:=hH k b hk h1
  obtain ⟨q,q1,q2,q3,_⟩:=(h2▸hp k hk).some
  exact ⟨q,b',n,sz,g,o,len,cap,g1,g2.w9 _ h0,q1,h3,h4,by rw [<-q2,<-q3,World.cell?_of_block (hg k r b hk (hs k i c (.inr rfl)) h1 (by cases b<;>first|(cases h0;done)|simp [OB.gQ]) h2)];exact h5,h6⟩
 |clo g Ev=>
  obtain ⟨us,h1,h2,h3⟩:=h
  refine ⟨us,h1,h2,λj p hpj=>?_⟩
  obtain ⟨r,tid,vs,h4,h5,h6⟩:=h3 j p hpj
  have hk:=hr p.1 (by simp only [AC.refs,Bf];exact ⟨p,Cn hpj,rfl⟩)
  obtain ⟨b',g1,g2⟩:=hH p.1 _ hk h4
  obtain ⟨Vo,vs',rfl⟩:=g2.var tid vs rfl
  obtain ⟨q,q1,q2,_⟩:=(h5▸hp p.1 hk).some
  exact ⟨q,Vo,vs',g1,q1,by rw [<-q2];exact h6⟩
 |Lk k=>
  obtain ⟨r,vt,m,h1,h2,h3⟩:=h
  have hk:=hr k (by simp [AC.refs])
  obtain ⟨b',g1,g2⟩:=hH k _ hk h1
  obtain ⟨m',rfl⟩:=g2.Wi vt m rfl
  obtain ⟨q,q1,q2,_⟩:=(h2▸hp k hk).some
  exact ⟨q,vt,m',g1,q1,by rw [<-q2];exact h3⟩
 |_=>exact h
theorem Vu (H0:List (Nat×OB)) (ls:List Nat) (n:Nat): ∀(H:List (Nat×OB)) (l:Nat),Av (dH H0 ls n H) l=(Av H l).map λb=>if ls.contains l then b.IP (cj n (Akp (Av H0 l))) else b
 | [],_=>rfl
 |(k,b)::r,l=>by
  simp only [dH,Av]
  split
  ·rename_i e;subst e;rfl
  ·exact Vu H0 ls n r l
theorem OB.BT (b:OB) (kp:Option (Nat×Nat)):b.Tw (b.IP kp):=by
 cases b with
 |Bu e te rows out kp0=>exact ⟨λsz n h=>⟨n,h,Aq _⟩,λp h=>h,λp h=>h,(λ_ _ h=>by cases h),(λ_ _ h=>by cases h)⟩
 |_=>exact OB.Tw.rfl' _
theorem gp (ls:List Nat): ∀(l m:List AV) (t:Nat),l.length=m.length->(∃k i c,l.getD t .undef= .at (.sub k i c)/\ls.contains k=true/\(Mt ls l m).getD t .undef= .at (.sub k i c))\/(Mt ls l m).getD t .undef=m.getD t .undef
 | [],m,t,_=>by cases m<;>exact .inr rfl
 |_::_,[],t,h=>by simp at h
 |a::l,v::m,t,h=>by
  have ih:= λt=>gp ls l m t (by simpa using h)
  have tail: ∀u,Mt ls (a::l) (v::m)=u::Mt ls l m->(t=0->(∃k i c,(a::l).getD t .undef= .at (.sub k i c)/\ls.contains k=true/\u= .at (.sub k i c))\/u=v)->
    (∃k i c,(a::l).getD t .undef= .at (.sub k i c)/\ls.contains k=true/\(Mt ls (a::l) (v::m)).getD t .undef= .at (.sub k i c))\/(Mt ls (a::l) (v::m)).getD t .undef=(v::m).getD t .undef:=by
   intro u e h0
   rw [e]
   rcases t with _|t
   ·rcases h0 rfl with ⟨k,i,c,h1,h2,h3⟩|h3
    ·exact .inl ⟨k,i,c,h1,h2,by simpa using h3⟩
    ·exact .inr (by simpa using h3)
   ·simpa only [Ok] using ih t
  cases a with
  | «at»c=>
   cases c with
   |sub k i c=>
    refine tail _ rfl λht=>?_
    subst ht
    by_cases hc:ls.contains k=true
    ·exact .inl ⟨k,i,c,rfl,hc,by rw [Ab hc]⟩
    ·exact .inr (by rw [Ai hc])
   |_=>exact tail _ rfl λ_=> .inr rfl
  |_=>exact tail _ rfl λ_=> .inr rfl
theorem vD {H:List (Nat×OB)} {ls:List Nat} {n:Nat} : ∀ {l:List AV} {t k i c:Nat},dP H ls n l=true->l.getD t .undef= .at (.sub k i c)->ls.contains k=true->i<n/\i<sm H k
 | [],t,k,i,c,_,h,_=>by simp at h
 |a::l,0,k,i,c,ho,h,hc=>by
  simp only [Yd] at h
  subst h
  simp only [dP,hc,Bool.not_true,bJ,Ah,Oc] at ho
  exact ho.1
 |a::l,t+1,k,i,c,ho,h,hc=>by
  refine vD (l:=l) (t:=t) (c:=c) ?_ (by simpa only [Ok] using h) hc
  cases a with
  | «at»d=>cases d with
   |sub _ _ _=>simp only [dP,Ah] at ho;exact ho.2
   |_=>exact ho
  |_=>exact ho
theorem MR {cI st:St} {a:Act} (h0:Bh X π cI a w) (h:Bh X π' st a w') {ls:List Nat} {n:Nat} (hk: ∀l∈ls,sE w w' (π l) (π' l) n) (tH: ∀l∈ls,o4 cI.heap l=true)
  (gO:dP st.heap ls n cI.tmps=true):Bh X π' (mr cI st ls n) a w'/\ ∀c v,Bs X w' π' st.heap c v->Bs X w' π' (mr cI st ls n).heap c v:=by
 by_cases xL:ls= []
 ·subst xL;exact ⟨h,λ_ _ h=>h⟩
 have Qj:mr cI st ls n= {tmps:=Mt ls cI.tmps st.tmps,heap:=dH cI.heap ls n st.heap} :=by
  cases ls with
  |nil=>exact absurd rfl xL
  |cons _ _=>rfl
 rw [Qj]
 have hg0: ∀l∈ls,∃e te rows out kp,Av cI.heap l=some (.Bu e te rows out kp):= λl hl=>by
  have:=tH l hl
  unfold o4 at this
  split at this
  ·exact ⟨_,_,_,_,_,by assumption⟩
  ·cases this
 have srv: ∀k b,Av st.heap k=some b-> ∃b',Av (dH cI.heap ls n st.heap) k=some b'/\b.Tw b':= λk b hb=>by
  rw [Vu,hb]
  refine ⟨_,rfl,?_⟩
  dsimp only
  split
  ·exact OB.BT b _
  ·exact OB.Tw.rfl' b
 have hac:(∀fr τ cs x,Cells w' (Dc X.w0.heap.size X.Sc π' fr) τ cs x->Cells w' (Dc X.w0.heap.size X.Sc π' fr) τ cs x)-> ∀c v,Iq X w' π' st.heap c v->Iq X w' π' (dH cI.heap ls n st.heap) c v:= λhc=>
  oA (f:= λc=>c) (D:= λ_=>False) (Pt:= λ_=>False) (λc=> .inr ⟨rfl,λ_ _ h=>h,λ_ _ _ _ h=>h⟩) (λk _=>gD.rfl' _) (λk b _ hb=>srv k b hb) (λ_ _ _ _ _ _ _ _=>rfl) hc
 have h1:Bh X π' {tmps:=st.tmps.map (·.map λc=>c),heap:=dH cI.heap ls n st.heap} a w':=by
  refine h.oB rfl (gv:= λ_=>False) (λ_ hf=>hf.elim) (Jz.refl _ _ _) (λ_ _ ho=>ho) h.1.sub h.1.place h.1.inj (λl hl Jd=>h.1.iD l hl λh2=>Jd (by rw [Vu,h2];rfl)) hac (λm l b hb=>?_) (λl hl=>?_)
  ·rw [Vu] at hb
   cases h2:Av st.heap l with
   |none=>rw [h2] at hb;cases hb
   |some b0=>
    rw [h2] at hb
    simp only [An,Aa] at hb
    have hbk:=(h.1.heap l).Sl h2
    have KJ:=hbk.move m (Aq _) (λr0 c h0 h1=>h.1.sub _ r0 c h0 h1) λ_ _ _ _ _=>rfl
    rw [show OB.map (λc=>c) b0=b0 from OB.GY b0] at KJ
    split at hb
    ·rename_i hc
     have hl:l∈ls:=by simpa using hc
     cases b0 with
     |Bu e te rows out kp=>
      simp only [OB.IP] at hb
      subst hb
      refine ⟨KJ.1,?_⟩
      obtain ⟨e0,te0,Ail,Aw3,kp0,hg⟩:=hg0 l hl
      have tM:=((h0.1.heap l).Sl hg).2
      rw [hg]
      simp only [Akp]
      have wi:=hk l hl
      cases kp0 with
      |none=>trivial
      |some p=>
       obtain ⟨l0,n0⟩:=p
       simp only [KeptAt,cj] at tM⊢
       cases zM:X.iD l0 with
       |none=>
        cases hp:π l with
        |none=>
         rw [hp] at wi
         cases SB:π' l with
         |none=>trivial
         |some q=>rw [SB] at wi;exact wi.elim
        |some q=>rw [zM,hp] at tM;exact tM.elim
       |some r0=>
        cases hp:π l with
        |none=>rw [zM,hp] at tM;exact tM.elim
        |some q=>
         rw [zM,hp] at tM
         rw [hp] at wi
         cases SB:π' l with
         |none=>rw [SB] at wi;exact wi.elim
         |some q'=>
          rw [SB] at wi
          obtain ⟨k1,k2,k3,k4⟩:=wi
          obtain ⟨g1,g2,g3,g4⟩:=tM
          refine ⟨k1.trans g1,k2.trans g2,k3.trans g3,λj hj hc=>?_⟩
          have e1:=g4 j (by omega) hc
          have e2:=k4 j (by omega) (by omega)
          rw [g1,g2] at e2
          rw [<-e1,e2]
     |_=>simp only [OB.IP] at hb;subst hb;exact KJ
    ·subst hb;exact KJ
  ·rw [Vu] at hl
   cases h2:Av st.heap l with
   |none=>exact (h.1.heap l).emp h2
   |some b=>rw [h2] at hl;cases hl
 have ZX: ∀c v,Bs X w' π' st.heap c v->Bs X w' π' (dH cI.heap ls n st.heap) c v:= λc v hv=>by
  have m:Move X w' w' π' π' st.heap (dH cI.heap ls n st.heap) (λc=>c):=⟨hac λ_ _ _ _ h=>h,λ_ _ _ _ h=>h⟩
  have:=m.av hv
  rwa [AC.map_id] at this
 refine ⟨⟨h1.1,⟨?_,h.2.defers,λt=>?_⟩⟩,ZX⟩
 ·have: ∀(l m:List AV),(Mt ls l m).length=m.length:=by
   intro l
   induction l with
   |nil=>intro m;cases m<;>rfl
   |cons a l ih=>
    intro m
    cases m with
    |nil=>cases a with
     | «at»c=>cases c<;>rfl
     |_=>rfl
    |cons v m=>cases a with
     | «at»c=>cases c<;>simp only [Mt,Ay,ih m]
     |_=>simp only [Mt,Ay,ih m]
  show a.tmps.size=(Mt ls cI.tmps st.tmps).length
  rw [this];exact h.2.size
 ·show Bs X w' π' _ ((Mt ls cI.tmps st.tmps).getD t .undef) _
  rcases gp ls cI.tmps st.tmps t (by rw [<-h0.2.size,<-h.2.size]) with ⟨k,i,c,g1,g2,g3⟩|g
  ·rw [g3]
   have Pf:k∈ls:=by simpa using g2
   obtain ⟨i1,i2⟩:=vD gO g1 g2
   have hv:=h0.2.tmps t
   rw [show cI.get t=_ from g1] at hv
   obtain ⟨r,b,sz,n',e1,e2,e3,e4,⟨e5,e6⟩,e7⟩:=hv
   obtain ⟨e0,te0,Ail,Aw3,kp0,hg⟩:=hg0 k Pf
   rw [hg] at e1;cases e1
   simp only [OB.gQ,Aa,Af] at e2
   obtain ⟨rfl,rfl⟩:=e2
   have wi:=hk k Pf
   rw [e3] at wi
   cases SB:π' k with
   |none=>rw [SB] at wi;exact wi.elim
   |some q'=>
    rw [SB] at wi
    obtain ⟨k1,k2,k3,k4⟩:=wi
    have tE:Ail.length<=r.cap:=by
     have:=((h0.1.heap k).Sl hg).1
     rw [e3] at this
     obtain ⟨_,_,_,_,_,_,h5,_⟩:=this
     exact h5
    unfold sm at i2
    split at i2
    ·rename_i e9 te9 Aqf Bbr kp9 hg9
     refine ⟨q',_,1,Aqf.length,by rw [Vu,hg9];rfl,?_,SB,i2,⟨e5,e6⟩,?_⟩
     ·dsimp only
      split<;>rfl
     ·have kV:c=0:=by omega
      subst kV
      rw [k1,k2]
      rw [Fw,Eo] at e7⊢
      rw [k4 i i1 (by omega)];exact e7
    ·omega
  ·rw [g]
   exact ZX _ _ (h.2.tmps t)
theorem qf {ins:List (Bool×CK)} {as:List AC} {pl:List Nat} {st:St} :(rY ins as pl st).tmps=st.tmps:=by
 unfold rY
 split
 ·rfl
 ·split<;>rfl
theorem OQ {ins:List (Bool×CK)} {as:List AC} {pl:List Nat} {st:St} {m:Nat} (hm:m∉pl):Av (rY ins as pl st).heap m=Av st.heap m:=by
 unfold rY
 split
 ·rfl
 ·rename_i l r
  split
  ·exact El _ _ _ _ λe=>hm (e▸Lg)
  ·rfl
theorem WI {ins:List (Bool×CK)} {as:List AC} {l:Nat} {st:St} {tid:TypeId} {vs:List AC} (hl:Av st.heap l=some (.var tid vs)):Av (rY ins as [l] st).heap l=some (.var tid (gY ins vs as)):=by
 simp only [rY,St.at,hl]
 exact Fu _ _ _ _ hl
theorem yz {α:Type} (ins:List (Bool×CK)) (as:List α):gY ins [] as= []:=by
 rcases ins with _|⟨⟨_|_,c⟩,r⟩<;>rfl
theorem qa {α:Type} : ∀(ins:List (Bool×CK)) (vs as:List α),(gY ins vs as).length=vs.length
 | [],vs,as=>by rw [gY];all_goals simp
 |p::r,[],as=>by rw [yz]
 |(true,c)::r,v::vs,as=>by simp only [gY,Ay,qa r vs as]
 |(false,c)::r,v::vs,[]=>by rw [gY];all_goals simp
 |(false,c)::r,v::vs,a::as=>by simp only [gY,Ay,qa r vs as]
theorem VY {st:St} {a:Act} (h:Bh X π st a w) {s:MSpec} {nt:List AV} {vs:List Value} (hlen:nt.length=vs.length) (ZX: ∀(i:Nat) c v,nt[i]?=some c->vs[i]?=some v->Bs X w π st.heap c v)
  {pl:List Nat} {cells:List AC} {rest:List AV} (he:SZ st s nt=some (pl,cells,rest)):
  ∃(g:Nat) (cus yZ:List Value),rest.length=yZ.length/\(∀(i:Nat) c v,rest[i]?=some c->yZ[i]?=some v->Bs X w π st.heap c v)/\Nx X w π st.heap cells cus/\
   ((s.ptr=none/\pl= []/\cells= []/\cus= []/\vs=yZ)\/
    ∃p l q,s.ptr=some p/\pl= [l]/\π l=some q/\q.Cw q.g/\g=q.g/\Av st.heap l=some (.var p.1 cells)/\cells.length=p.2/\vs= .pointer (some ⟨g,0,none⟩)::yZ/\w.heap[g]?=some (.cells cus.toArray p.1 (0,0))/\Gv X w π st.heap cells cus):=by
 unfold SZ at he
 split at he
 ·rename_i hp
  simp only [Aa,Af] at he
  obtain ⟨rfl,rfl,rfl⟩:=he
  exact ⟨0,[],vs,hlen,ZX,trivial, .inl ⟨hp,rfl,rfl,rfl,rfl⟩⟩
 ·rename_i p hp
  split at he
  ·rename_i l i Ay6
   split at he
   ·rename_i tid cs hl
    split at he
    ·rename_i hc
     obtain ⟨rfl,hc,rfl⟩:=hc
     simp only [Aa,Af] at he
     obtain ⟨rfl,rfl,rfl⟩:=he
     unfold St.at at hl
     cases vs with
     |nil=>simp at hlen
     |cons v vs=>
      obtain ⟨r,Vo,vs',h1,h2,rfl⟩:=ZX 0 _ v rfl rfl
      rw [hl] at h1;cases h1
      obtain ⟨r',h3,h4,cur,h5,h6⟩:=(h.1.heap l).Sl hl
      rw [h2] at h3;cases h3
      exact ⟨r.g,cur.toList,vs,by simpa using hlen,λi c v h7 h8=>ZX (i+1) c v (by simpa using h7) (by simpa using h8),Nx.of h6, .inr ⟨p,l,r,hp,rfl,h2,h4,rfl,hl,hc,rfl,by simpa using h5,h6⟩⟩
    ·cases he
   ·cases he
  ·cases he
theorem kJ {V:List Nat} {πc:Pi} {dead part:List Nat} (hπ: ∀l,l∉dead->π' l=π l) (Yq: ∀l b sz n,l∉dead->Av H l=some b->b.row=some (sz,n)-> ∃b',Av H' l=some b'/\b'.row=some (sz,n)):
  ∀(ins:List (Bool×CK)) (k:Nat) (cells p7:List AC) (x:Ins.den ins) (us:List Value) (o:IOs.den ins) (cur st1:St) (news:List AC) (Ug cs:List Value),rJ X w π V H πc k ins x (cells++p7) us->Wz ins cells=true->
   Iz ins o (cells++p7) cur=some st1->Fp πc k ins o cells.length cs Ug->Nx X w' π' H' news Ug->Nx X w' π' H' (gY ins (cells.map (Cu dead part)) news) cs
 |ins,k,[],p7,x,us,o,cur,st1,news,Ug,cs,_,_,_,hb,_=>by
  have hb:cs= []:=by rcases ins with _|⟨⟨_|_,c⟩,r⟩<;>(try cases c)<;>simpa [Fp] using hb
  rw [hb,List.map_nil,yz]
  trivial
 | [],k,a::cells,p7,x,us,o,cur,st1,news,Ug,cs,_,hk,_,_,_=>by simp [Wz] at hk
 |(true, .Hw τ)::r,k,a::cells,p7,x,us,o,cur,st1,news,Ug,cs,_,hk,_,_,_=>by simp [Wz] at hk
 |(true, .part e te)::r,k,a::cells,p7,x,us,o,cur,st1,news,Ug,cs,_,hk,_,_,_=>by simp [Wz] at hk
 |(true, .Bu e te _)::r,k,a::cells,p7,x,us,o,cur,st1,news,Ug,cs,_,hk,_,_,_=>by simp [Wz] at hk
 |(true, .row e te)::r,k,a::cells,p7,x,us,o,cur,st1,news,Ug,cs,ht,hk,hp,hb,hn=>by
  cases a<;>simp only [Wz,Dh] at hk
  rename_i l off len
  cases us with
  |nil=>exact ht.elim
  |cons u0 us=>
  cases cs with
  |nil=>exact hb.elim
  |cons u cs=>
  obtain ⟨⟨_,h1⟩,h2⟩:=ht
  simp only [Ui] at h1
  obtain ⟨h3,rfl,rfl,fr,tr,h4⟩:=h1
  obtain ⟨h5,h6⟩:=hb
  simp only [Kj,Iz] at hp
  split at hp
  rotate_left
  ·cases hp
  rename_i aA hpc
  have YN:List.length o.1=List.length x.1:=by
   simp only [cM] at hpc
   repeat' split at hpc
   all_goals first|(cases hpc;done)|(rename_i hc;exact hc.2.1)
  refine ⟨?_,kJ hπ Yq r (k+1) cells p7 x.2 us o.2 aA st1 news Ug cs h2 hk hp h6 hn⟩
  by_cases hd:l∈dead
  ·have:Cu dead part (.own l 0 (List.length x.1))= .undef:=by
    unfold Cu
    rw [Ab (by simp [AC.refs,hd])]
   rw [this];trivial
  ·rw [cW (by simpa [AC.refs] using hd) (by intro l i j e;rcases e with e|e<;>cases e)]
   obtain ⟨b',g1,g2⟩:=Yq l _ e.size (List.length x.1) hd h4 rfl
   refine ⟨b',e.size,List.length x.1,g1,g2,by omega,?_⟩
   rw [hπ l hd]
   rw [h3,YN] at h5
   cases hp:π l<;>(rw [hp] at h5;exact h5)
 |(true, .Iu e te)::r,k,a::cells,p7,x,us,o,cur,st1,news,Ug,cs,ht,hk,hp,hb,hn=>by
  cases a<;>simp only [Wz,Dh] at hk
  rename_i l off len
  cases us with
  |nil=>exact ht.elim
  |cons u0 us=>
  cases cs with
  |nil=>exact hb.elim
  |cons u cs=>
  obtain ⟨⟨_,h1⟩,h2⟩:=ht
  simp only [Ui] at h1
  obtain ⟨h3,rfl,rfl,h4⟩:=h1
  obtain ⟨h5,h6⟩:=hb
  simp only [Kj,Iz] at hp
  split at hp
  rotate_left
  ·cases hp
  rename_i aA hpc
  have YN:List.length o.1=List.length x.1:=by
   simp only [cM] at hpc
   repeat' split at hpc
   all_goals first|(cases hpc;done)|(rename_i hc;exact hc.2.1)
  refine ⟨?_,kJ hπ Yq r (k+1) cells p7 x.2 us o.2 aA st1 news Ug cs h2 hk hp h6 hn⟩
  by_cases hd:l∈dead
  ·have:Cu dead part (.own l 0 (List.length x.1))= .undef:=by
    unfold Cu
    rw [Ab (by simp [AC.refs,hd])]
   rw [this];trivial
  ·rw [cW (by simpa [AC.refs] using hd) (by intro l i j e;rcases e with e|e<;>cases e)]
   obtain ⟨b',g1,g2⟩:=Yq l _ e.size (List.length x.1) hd h4 rfl
   refine ⟨b',e.size,List.length x.1,g1,g2,by omega,?_⟩
   rw [hπ l hd]
   rw [h3,YN] at h5
   cases hp:π l<;>(rw [hp] at h5;exact h5)
 |(false,c)::r,k,a::cells,p7,x,[],o,cur,st1,news,Ug,cs,ht,hk,hp,hb,hn=>ht.elim
 |(false,c)::r,k,a::cells,p7,x,u0::us,o,cur,st1,news,Ug,[],ht,hk,hp,hb,hn=>by cases c<;>exact hb.elim
 |(false,c)::r,k,a::cells,p7,x,u0::us,o,cur,st1,news,[],u::cs,ht,hk,hp,hb,hn=>by cases c<;>exact hb.elim
 |(false,c)::r,k,a::cells,p7,x,u0::us,o,cur,st1,[],u'::Ug,u::cs,ht,hk,hp,hb,hn=>hn.elim
 |(false,c)::r,k,a::cells,p7,x,u0::us,o,cur,st1,na::news,u'::Ug,u::cs,ht,hk,hp,hb,hn=>by
  have hb2:u=u'/\Fp πc (k+1) r o cells.length cs Ug:=by cases c<;>exact hb
  obtain ⟨rfl,hb3⟩:=hb2
  have hp:Iz r o (cells++p7) cur=some st1:=by cases c<;>simpa only [Kj,Iz] using hp
  have hk:Wz r cells=true:=by cases c<;>simpa only [Wz] using hk
  exact ⟨hn.1,kJ hπ Yq r (k+1) cells p7 x.2 us o cur st1 news Ug cs ht.2 hk hp hb3 hn.2⟩
theorem JM {V:List Nat} {πc:Pi} : ∀(cs:List (Bool×CK)) (k0:Nat) (x:Ins.den cs) (as:List AC) (us:List Value),k0+cs.length<100000->rJ X w π V H πc k0 cs x as us-> ∀k l,(Ee false k,Loc.row l)∈Mu k0 cs as->πc (Ee false k)=(π l).map full
 | [],_,_,[],_,_,_,_,_,h=>by cases h
 | [],_,_,_::_,_,_,_,_,_,h=>by cases h
 |_::_,_,_,[],_,_,_,_,_,h=>by cases h
 |_::_,_,_,_::_,[],_,h,_,_,_=>h.elim
 |(io,c)::r,k0,x,a::as,u::us,hk,h,k,l,ht=>by
  simp only [Ay] at hk
  simp only [Mu] at ht
  rcases Ba.1 ht with ht|ht
  ·obtain ⟨⟨_,h1⟩,_⟩:=h
   cases c with
   |Hw τ=>cases a<;>simp [Rf,views] at ht
   |row e te=>
    cases a<;>simp [Rf] at ht
    obtain ⟨e1,rfl⟩:=ht
    simp only [Ui] at h1
    rw [e1];exact h1.1
   |Iu e te=>
    cases a<;>simp [Rf] at ht
    obtain ⟨e1,rfl⟩:=ht
    simp only [Ui] at h1
    rw [e1];exact h1.1
   |part e te=>
    cases a<;>simp [Rf] at ht
    obtain ⟨e1,rfl⟩:=ht
    simp only [Ui] at h1
    rw [e1];exact h1.2.1
   |Bu e te kp=>
    cases a<;>simp [Rf] at ht
    obtain ⟨e1,rfl⟩:=ht
    simp only [Ui] at h1
    rw [e1];exact h1.2.1
  ·exact JM r (k0+1) x.2 as us (by omega) h.2 k l ht
theorem rM {st:St} {a:Act} (h:Bh X π st a w) {f:FuncId} {s:MSpec} (hs:Eu P f s) (dst:Option Nat) (nt:List AV) (vs:List Value) (hlen:nt.length=vs.length)
  (ZX: ∀(i:Nat) c v,nt[i]?=some c->vs[i]?=some v->Bs X w π st.heap c v) (av:AV) (st':St) (he:Yl st dst s nt=some (av,st')):
  Calls P f vs.toArray w λe w'=> ∃v,e= .returned v/\ ∃π',Bh X π' st' a w'/\Bs X w' π' st'.heap av v:=by
 unfold Yl at he
 split at he
 ·cases he
 rename_i pl cells rest Av2
 split at he
 ·cases he
 rename_i p7 pa
 split at he
 ·cases he
 rename_i x tks htk
 split at he
 rotate_left
 ·cases he
 rename_i Kt
 simp only [Ah,Oc] at Kt
 obtain ⟨⟨⟨⟨rS,tP⟩,hon⟩,Vv⟩,Anv,UM⟩:=Kt
 have UM: ∀l∈pl,l∉(tks.map λt=>t.2.Xu)/\l∉Tc s tks (dst.getD 0):= λl hl=>by
  have:=Bc.1 UM l hl
  simp only [Fm,<-Fc,Ko] at this
  exact ⟨λhm=>this (Bi _ hm),λhm=>this (Ck _ hm)⟩
 split at he
 ·cases he
 rename_i r o hfn
 split at he
 ·cases he
 rename_i st1 Aac
 obtain ⟨g,cus,yZ,tQ,Ats,Av5,hpt⟩:=VY h hlen ZX Av2
 obtain ⟨x7,rfl,YP,Av4⟩:=aw s.Kn rest yZ p7 tQ Ats pa
 have hrc:=Av5.append Av4
 have Rz:pd s w g (cus++x7) vs:=by
  unfold pd
  rcases hpt with ⟨h1,_,_,h2,h3⟩|⟨p,l,q,h1,_,_,_,_,_,h2,h3,h4,h5⟩
  ·rw [h1];subst h2;exact ⟨h3,YP⟩
  ·rw [h1]
   have hl:cus.length=p.2:=h5.1.trans h2
   simp only
   rw [List.drop_append_of_le_length (by omega),List.take_append_of_le_length (by omega),Ta (by omega),List.drop_of_length_le (by omega)]
   refine ⟨h3,YP,by simp;omega,h4,λu hu=>?_⟩
   obtain ⟨i,hi,rfl⟩:=Bg.1 hu
   obtain ⟨u',h6,h7,_⟩:=h5.2 i (cells[i]'(by have:=h5.1;omega)) (Ac _)
   rw [Ac hi] at h6
   rw [Bd h6];exact h7
 have UN: ∀l∈pl,∃p q,s.ptr=some p/\pl= [l]/\π l=some q/\q.Cw q.g/\g=q.g/\Av st.heap l=some (.var p.1 cells)/\cells.length=p.2:= λl hl=>by
  rcases hpt with ⟨_,h1,_⟩|⟨p,l',q,h1,h2,h3,h4,h5,h6,h7,_⟩
  ·rw [h1] at hl;cases hl
  ·rw [h2] at hl
   have:=Ad.1 hl
   subst this
   exact ⟨p,q,h1,h2,h3,h4,h5,h6,h7⟩
 have UI: ∀b,s.gv g b-> ∃l∈pl,∃q,π l=some q/\q.Cw b/\b=q.g:= λb ⟨h1,h2⟩=>by
  rcases hpt with ⟨h3,_⟩|⟨p,l',q,_,h4,h5,h6,h7,_⟩
  ·rw [h3] at h1;cases h1
  ·exact ⟨l',by rw [h4];exact Ad.2 rfl,q,h5,by rw [h2,h7];exact h6,h2.trans h7⟩
 obtain ⟨as,has⟩: ∃as,as=cells++p7:=⟨_,rfl⟩
 obtain ⟨us,hus⟩: ∃us,us=cus++x7:=⟨_,rfl⟩
 rw [<-has] at hrc htk Aac
 rw [<-hus] at hrc Rz
 let V:=(tks.filter λt=>t.2.reads).map λt=>t.2.Xu
 have hV: ∀t∈tks,t.2.reads=true->t.2.Xu∈V:= λt ht hr=>Bf.2 ⟨t,Cf.2 ⟨ht,hr⟩,rfl⟩
 have hV': ∀l∈V,∃t∈tks,t.2.reads=true/\t.2.Xu=l:= λl hl=>by
  obtain ⟨t,h1,h2⟩:=Bf.1 hl
  exact ⟨t,(Cf.1 h1).1,(Cf.1 h1).2,h2⟩
 clear_value V
 obtain ⟨etk,πc,hT,ZZ,Auc,Wy⟩:=vJ h.1 (V:=V) s.ins 0 as us x tks (by omega) hrc htk hV
 have ME:=Yv rS
 rw [etk] at ME
 have eC: ∀b,Vd πc b-> ∃t∈Mu 0 s.ins as,t.2.reads=false/\ ∃q,π t.2.Xu=some q/\q.Cw b/\ ∀l i j,t.2= .sub l i j->b≠q.g:= λb ⟨c,q,h1,h2⟩=>by
  obtain ⟨t,t1,_,t3⟩:=Wy c q b h1 h2
  exact ⟨t,t1,t3⟩
 have MG: ∀b,Vd πc b->Vd π b:= λb hb=>let ⟨t,_,_,q,h1,h2,_⟩:=eC b hb;⟨_,q,h1,h2⟩
 have kB:dz πc (λb=>b<w.heap.size):=⟨λl q b h1 h2=>(h.1.own (MG b ⟨l,q,h1,h2⟩)).1,λl l' q q' b h1 h2 h3 h4=>by
  obtain ⟨t,t1,t2,_,p,t3,t4,_⟩:=Wy l q b h1 h3
  obtain ⟨t',t1',t2',_,p',t3',t4',_⟩:=Wy l' q' b h2 h4
  have:=AB ME t1 t1' (h.1.apart t3 t3' t4 t4')
  rw [<-t2,<-t2',this]⟩
 have Ana: ∀k l,(Ee false k,Loc.row l)∈Mu 0 s.ins as->πc (Ee false k)=(π l).map full:= λk l ht=>
  JM s.ins 0 x as us (by omega) hT k l ht
 have Ap5: ∀b,Vd πc b->Pq X π V b:= λb hb=> .inl ⟨MG b hb,λl hl r' hr hf=>by
  obtain ⟨t,t1,t0,q,t3,t4,_⟩:=eC b hb
  obtain ⟨t',t1',t2',rfl⟩:=hV' l hl
  rw [etk] at t1'
  have:=AB ME t1 t1' (h.1.apart t3 hr t4 hf)
  subst this
  rw [t0] at t2';cases t2'⟩
 let S:Nat->Prop:= λb=> ¬Vd πc b/\Pq X π V b
 have hS: ∀b,S b->b<w.heap.size/\ ¬Vd πc b:= λb hb=>⟨by
  rcases hb.2 with h1|h1
  ·exact (h.1.own h1.1).1
  ·exact Ew (h.1.sc b h1).1 h.1.below.size,hb.1⟩
 have Afg: ∀l∈pl,∀t∈Mu 0 s.ins as,t.2.Xu≠l:= λl hl t ht e=>(UM l hl).1 (Bf.2 ⟨t,etk▸ht,e⟩)
 have hSg:s.ptr.isSome=true->S g:= λhps=>by
  obtain ⟨l,hl,q,h1,h2,h3⟩:=UI g ⟨hps,rfl⟩
  have hno: ¬Vd πc g:= λhb=>by
   obtain ⟨t,t1,_,q',t3,t4,_⟩:=eC g hb
   exact Afg l hl t t1 (h.1.apart t3 h1 t4 h2)
  refine ⟨hno, .inl ⟨⟨l,q,h1,h2⟩,λl' Lq r' kW hf=>?_⟩⟩
  obtain ⟨t',t1',_,rfl⟩:=hV' l' Lq
  rw [etk] at t1'
  exact Afg l hl t' t1' (h.1.apart kW h1 hf h2)
 refine (hs.calls w S πc us x r o g vs Rz hSg (fe.Jv (λb hb=>hb.elim (Ap5 b) λh=>h.2) s.ins 0 x us (hT.Apg s.ins 0 x as us)) kB hS Auc hfn).mono ?_
 rintro e w' ⟨v,Ug,p6,rfl,fD,qO,Af1,zH,Aob,Aab,Akl,xK⟩
 obtain ⟨ρ,Afo,zL,Aaa,Ahq⟩: ∃ρ:Pi,(∀l,ρ l=(p6 l).map full)/\Jq w' (dy S πc p6) ρ 0 s.outs r Ug/\dz ρ (λb=>b<w'.heap.size/\(w.heap.size<=b\/ ∃l q,l<Bk/\πc l=some q/\q.Cw b))/\ ∀l q,ρ l=some q->q.cl=q.Cw:=by
  have un: ∀l q,(p6 l).map full=some q-> ∃q0,p6 l=some q0/\q=full q0:= λl q hq=>by
   cases hp:p6 l with
   |none=>rw [hp] at hq;cases hq
   |some q0=>rw [hp] at hq;exact ⟨q0,rfl,(Bd hq).symm⟩
  refine ⟨λl=>(p6 l).map full,λ_=>rfl,Jq.full s.outs 0 r Ug Aob,⟨λl q b h1 h2=>?_,λl l' q q' b h1 h2 h3 h4=>?_⟩,λl q h1=>?_⟩
  ·obtain ⟨q0,h5,rfl⟩:=un l q h1
   exact Aab.Wl l q0 b h5 h2
  ·obtain ⟨q0,h5,rfl⟩:=un l q h1
   obtain ⟨q0',h6,rfl⟩:=un l' q' h2
   exact Aab.inj l l' q0 q0' b h5 h6 h3 h4
  ·obtain ⟨q0,_,rfl⟩:=un l q h1
   rfl
 refine ⟨v,rfl,?_⟩
 split at he
 ·cases he
 rename_i av0 iu
 split at he
 rotate_left
 ·cases he
 rename_i Yr
 simp only [Aa,Af] at he
 obtain ⟨rfl,rfl⟩:=he
 let D1:Nat->Prop:=if s.flat then λ_=>True else dy S πc p6
 have Auf:Mo w' D1 πc 0 s.ins o:=by
  show Mo w' (if s.flat then λ_=>True else dy S πc p6) πc 0 s.ins o
  split
  ·rename_i hf
   unfold MSpec.flat at hf
   simp only [Ah] at hf
   exact Mo.any s.ins 0 o hf.2 zH
  ·exact zH
 have Aoc:Jq w' D1 ρ 0 s.outs r Ug:=by
  show Jq w' (if s.flat then λ_=>True else dy S πc p6) ρ 0 s.outs r Ug
  split
  ·rename_i hf
   unfold MSpec.flat at hf
   simp only [Ah] at hf
   exact Jq.any s.outs 0 r Ug hf.1 zL
  ·exact zL
 obtain ⟨q1,q2,q3,q4⟩:=uK (D:=D1) (X:=X) (π:=π) (H:=st.heap) h.1 Af1.size (tks:=Mu 0 s.ins as) (πc:=πc) (λt ht q b hq hb Me hn=>Af1.block b Me λMF=>by
   rcases MF with ⟨c,r',h1,h2⟩|hg
   rotate_left
   ·obtain ⟨l,hl,q',h1,h2,_⟩:=UI b hg
    exact Afg l hl t ht (h.1.apart hq h1 hb h2)
   obtain ⟨t',t1,t2,_,p,t3,t4,_⟩:=Wy c r' b h1 h2
   have:=AB ME ht t1 (h.1.apart hq t3 hb t4)
   subst this
   exact hn r' (t2▸h1) h2) s.ins 0 x as us o st st1 (by omega) (λ_ h=>h) ME hT Auf Aac (λ_ _=>rfl)
 have Ak9: ∀t∈Mu 0 s.ins as,t.2.reads=true->t.1<Bk:=by
  have: ∀(cs:List (Bool×CK)) (k:Nat) (as:List AC),k+cs.length<100000-> ∀t∈Mu k cs as,t.2.reads=true->t.1<Bk:=by
   intro cs
   induction cs with
   |nil=>intro k as _ t ht;cases as<;>cases ht
   |cons p r ih=>
    intro k as hk t ht hr
    simp only [Ay] at hk
    cases as with
    |nil=>cases ht
    |cons a as=>
     simp only [Mu] at ht
     rcases Ba.1 ht with ht|ht
     ·rcases JL ht with ⟨_,h1⟩|⟨h1,_⟩
      ·rw [hr] at h1;cases h1
      ·rw [h1];exact fY (by omega)
     ·exact ih (k+1) as (by omega) t ht hr
  exact this s.ins 0 as (by omega)
 let d:=dst.getD 0
 let ks:=Tc s tks d
 let dead:=nC tks++ks++(if s.flat then [] else DD tks)
 let part:=whole tks
 have Av7:s.outs.length+(mJ s d).length=s.Tu:=by unfold MSpec.Tu mJ;cases s.rp<;>rfl
 obtain ⟨Ajy,Auo,Ahy⟩:ks.length=s.Tu/\ks.Nodup/\ ∀l∈ks,l<Bk:=by
  have:=MU tP
  rw [Av7] at this
  exact this
 have hno:s.outs.length<=s.Tu:=by unfold MSpec.Tu;omega
 have hvk: ∀tid,s.rp=some tid->Er ks s.outs.length=Ub d/\s.Tu=s.outs.length+1:= λtid Ys=>by
  have h1:s.Tu=s.outs.length+1:=by unfold MSpec.Tu;rw [Ys]
  refine ⟨?_,h1⟩
  have h2:ks=nw s tks d++ [Ub d]:=by show nw s tks d++mJ s d=_;unfold mJ;rw [Ys]
  have h3:(nw s tks d).length=s.outs.length:=by rw [h2] at Ajy;simp at Ajy;omega
  rw [Sm (by rw [Ajy];omega)]
  simp only [h2]
  rw [List.getElem_append_right (by omega)]
  simp [h3]
 have Aa7:=EP Auo Ahy
 have Aum: ∀j,j<s.Tu->Er ks j<Bk:= λj hj=>Ahy _ (mem_keys.2 ⟨j,by omega,rfl⟩)
 let π':Pi:= λl=>match (List.range s.Tu).find? λj=>decide (Er ks j=l) with
  |some j=>ρ (Jh j)
  |none=>if l∈dead then none else π l
 have wg: ∀j,j<s.Tu->π' (Er ks j)=ρ (Jh j):= λj hj=>by
  show (match (List.range s.Tu).find? λi=>decide (Er ks i=Er ks j) with|some i=>ρ (Jh i)|none=>_)=_
  cases hf:(List.range s.Tu).find? λi=>decide (Er ks i=Er ks j) with
  |none=>
   have:=List.find?_eq_none.1 hf j (Ff.2 hj)
   simp at this
  |some i=>
   have:=List.find?_some hf
   rw [Aa7 i j (Hr this)]
 have tN: ∀j,j<s.Tu->Er ks j∈dead:= λj hj=>Bi _ (Ck _ (mem_keys.2 ⟨j,by omega,rfl⟩))
 have zI: ∀l,(¬ ∃j,j<s.Tu/\l=Er ks j)->π' l=if l∈dead then none else π l:= λl hl=>by
  show (match (List.range s.Tu).find? λi=>decide (Er ks i=l) with|some i=>ρ (Jh i)|none=>_)=_
  cases hf:(List.range s.Tu).find? λi=>decide (Er ks i=l) with
  |none=>rfl
  |some i=>
   have h1:=List.find?_some hf
   exact absurd ⟨i,Ff.1 (List.mem_of_find?_eq_some hf),(Hr h1).symm⟩ hl
 have Aam: ∀l,l∉dead->π' l=π l:= λl hl=>by
  rw [zI l (λ⟨j,h1,h2⟩=>hl (h2▸tN j h1)),Ai hl]
 have hD1: ∀b,Vd π' b\/X.Sc b->D1 b:=by
  intro b hb
  show (if s.flat then λ_=>True else dy S πc p6) b
  split
  ·trivial
  rename_i hnf
  rcases hb with ⟨l,q,hl,hf⟩|hb
  ·by_cases hk: ∃j,j<s.Tu/\l=Er ks j
   ·obtain ⟨j,hj,rfl⟩:=hk
    rw [wg j hj,Afo] at hl
    cases hp:p6 (Jh j) with
    |none=>rw [hp] at hl;cases hl
    |some q0=>rw [hp] at hl;simp only [An,Aa] at hl;subst hl;exact .inr (.inr ⟨Jh j,q0,hp,hf⟩)
   ·have e0:π' l=if l∈dead then none else π l:=zI l hk
    rw [e0] at hl
    split at hl
    ·cases hl
    ·rename_i Afc
     by_cases ho:Vd πc b
     ·obtain ⟨c,q',hc,hcb⟩:=ho
      obtain ⟨t,t1,t2,t0,p,t3,t4,_⟩:=Wy c q' b hc hcb
      have zJ:=h.1.apart hl t3 hf t4
      refine .inr (.inl ⟨c,q',Bp λhn=>?_,hc,hcb⟩)
      exact Afc (Bi _ (Bi _ (eJ.2 ⟨t,etk▸t1,⟨by rw [t2];omega,t0⟩,zJ.symm⟩)))
     ·refine .inl ⟨ho, .inl ⟨⟨l,q,hl,hf⟩,λl0 hl0 r0 YO hf0=>?_⟩⟩
      have:=h.1.apart hl YO hf hf0
      subst this
      exact Afc (Ck _ (by rw [Ai hnf];exact uj.2 (hV' l hl0)))
  ·refine .inl ⟨λho=>?_, .inr hb⟩
   have h1:=h.1.sc b hb
   rcases (h.1.own (MG b ho)).2 with h2|h2
   ·omega
   ·exact h1.2 h2
 have hpd: ∀l∈pl,l∉dead:= λl hl hd=>by
  rcases Ba.1 hd with hd|hd
  ·rcases Ba.1 hd with hd|hd
   ·obtain ⟨t,ht,_,e⟩:=eJ.1 hd
    exact (UM l hl).1 (Bf.2 ⟨t,ht,e⟩)
   ·exact (UM l hl).2 hd
  ·split at hd
   ·cases hd
   ·obtain ⟨t,ht,_,e⟩:=uj.1 hd
    exact (UM l hl).1 (Bf.2 ⟨t,ht,e⟩)
 have Ajx: ∀j,j<s.Tu->Er ks j∉pl:= λj hj hp=>hpd _ hp (tN j hj)
 let bv:Option OB:=s.rp.map λtid=> .var tid ((cn (Er ks) 0 s.outs r).drop s.Yc)
 let H1:=(rY s.ins (cn (Er ks) 0 s.outs r) pl (st1.cV dead part)).heap
 have hH1: ∀l,l∉pl->Av H1 l=if l∈dead then none else (Av st1.heap l).map (OB.map (Cu dead part)):= λl hl=>by
  show Av (rY _ _ _ _).heap l=_
  rw [OQ hl]
  show Av (Yi (st1.heap.map λp=>(p.1,p.2.map (Cu dead part))) dead) l=_
  rw [Oq,Pv]
 let H2:=GD H1 (Ub d) bv
 have hvd: ∀tid,s.rp=some tid->Ub d∈dead/\Ub d∉pl:= λtid Ys=>by
  obtain ⟨e1,e2⟩:=hvk tid Ys
  rw [<-e1]
  exact ⟨tN _ (by omega),Ajx _ (by omega)⟩
 have An7: ∀l,(∀tid,s.rp=some tid->l≠Ub d)->Av H2 l=Av H1 l:= λl hl=>by
  show Av (GD H1 (Ub d) (s.rp.map _)) l=_
  cases KL:s.rp with
  |none=>rfl
  |some tid=>exact Qd _ _ _ _ (hl tid KL)
 have Atc: ∀tid,s.rp=some tid->Av H2 (Ub d)=some (.var tid ((cn (Er ks) 0 s.outs r).drop s.Yc)):= λtid Ys=>by
  show Av (GD H1 (Ub d) (s.rp.map _)) (Ub d)=_
  rw [Ys]
  exact Rh _ _ _ (by rw [hH1 _ (hvd tid Ys).2,Ab (hvd tid Ys).1])
 have hkv: ∀j,j<s.outs.length-> ∀tid,s.rp=some tid->Er ks j≠Ub d:= λj hj tid Ys e=>by
  have:=Aa7 j s.outs.length (e.trans (hvk tid Ys).1.symm)
  omega
 have hH2: ∀l,l∉pl->(∀tid,s.rp=some tid->l≠Ub d)->Av H2 l=if l∈dead then none else (Av st1.heap l).map (OB.map (Cu dead part)):= λl hl hv=>by
  rw [An7 l hv,hH1 l hl]
 let H':=Yw (RK st (nC tks)) (Er ks) 0 s.outs r H2
 obtain ⟨n1,n2,n3⟩:=ri (D:=D1) (X:=X) (key:=Er ks) Aa7 (fr:=RK st (nC tks)) (ρ:=ρ) s.outs 0 r Ug H2 Aoc (λj _ hj=>by
  rw [hH2 _ (Ajx j (by omega)) (hkv j (by omega)),Ab (tN j (by omega))])
 have pE: ∀l,l∉dead->l∉pl->Av H' l=(Av st1.heap l).map (OB.map (Cu dead part)):= λl hl pH=>by
  show Av (Yw _ _ _ _ _ _) l=_
  rw [n1 l λj _ hj e=>hl (e▸tN j (by omega)),hH2 l pH (λtid Ys e=>hl (e▸(hvd tid Ys).1)),Ai hl]
 have Aey: ∀l,l∈dead->(∀j,j<s.Tu->l≠Er ks j)->Av H' l=none:= λl hl hj=>by
  show Av (Yw _ _ _ _ _ _) l=_
  rw [n1 l λj _ h2=>hj j (by omega),hH2 l (λhp=>hpd l hp hl) (λtid Ys e=>hj s.outs.length (by have:=(hvk tid Ys).2;omega) (e.trans (hvk tid Ys).1.symm)),Ab hl]
 have newAt: ∀l b',Av H' l=some b'->(l∈dead\/Av st.heap l=none)-> ∃j,j<s.Tu/\l=Er ks j:=by
  intro l b' hb hd
  refine Bp λhn=>?_
  have sq: ∀j,j<s.Tu->l≠Er ks j:= λj hj e=>hn ⟨j,hj,e⟩
  rcases Classical.em (l∈dead) with KK|KK
  ·rw [Aey l KK sq] at hb;cases hb
  ·rcases hd with hd|hd
   ·exact KK hd
   ·rw [pE l KK (λhp=>by obtain ⟨_,_,_,_,_,_,_,h1,_⟩:=UN l hp;rw [hd] at h1;cases h1)] at hb
    have:Av st1.heap l=none:=by
     by_cases hi: ∃t∈Mu 0 s.ins as,t.2.Xu=l
     ·obtain ⟨t,ht,e⟩:=hi
      by_cases Me:t.1<Bk
      ·rw [<-e,q3 t ht Me,e];exact hd
      ·obtain ⟨b0,_,h1,_⟩:=q4 t ht Me
       rw [e,hd] at h1;cases h1
     ·rw [q2 l λt ht e=>hi ⟨t,ht,e.symm⟩];exact hd
    rw [this] at hb;cases hb
 have Ajl: ∀k,RK st (nC tks)=true-> ∀q,ρ (Jh k)=some q->q.Cw q.g->X.w0.heap.size<=q.g:=by
  intro k zG q hq hg
  rcases (Aaa.Wl _ q _ hq hg).2 with h1|⟨c,p,h1,h2,h3⟩
  ·exact Je h.1.below.size h1
  ·obtain ⟨t,t1,t2,t0,p',t3,t4,_⟩:=Wy c p _ h2 h3
   have hm:t.2.Xu∈nC tks:=eJ.2 ⟨t,etk▸t1,⟨by rw [t2];exact h1,t0⟩,rfl⟩
   have:=Bc.1 zG _ hm
   split at this
   ·rename_i fr tr e te xs hl
    unfold St.at at hl
    have hb:=(h.1.heap t.2.Xu).Sl hl
    simp only [Cl,Kz,t3] at hb
    rw [hb.1.2.1 _ t4]
    exact hb.1.2.2 this
   ·cases this
 have Ajj: ∀k q,ρ (Jh k)=some q->k<s.outs.length->q.Cw q.g:=by
  intro k q hq hk
  exact Jq.Ahb s.outs 0 r Ug zL k (Mc _) ((Bt _).symm▸hk) q hq
 have hinv: ∀l,l∉dead->(∃t∈Mu 0 s.ins as,t.2.reads=false/\t.2.Xu=l)->nj X D1 w' π st.heap st1.heap l:=by
  rintro l hd ⟨t,ht,h0,rfl⟩
  by_cases Me:t.1<Bk
  ·exact absurd (Bi _ (Bi _ (eJ.2 ⟨t,etk▸ht,⟨Me,h0⟩,rfl⟩))) hd
  ·exact q4 t ht Me
 have zK: ∀l,(¬ ∃t∈Mu 0 s.ins as,t.2.reads=false/\t.2.Xu=l)->Av st1.heap l=Av st.heap l:= λl hn=>by
  by_cases hi: ∃t∈Mu 0 s.ins as,t.2.Xu=l
  ·obtain ⟨t,ht,rfl⟩:=hi
   have hr:t.2.reads=true:=by
    cases h0:t.2.reads with
    |true=>rfl
    |false=>exact absurd ⟨t,ht,h0,rfl⟩ hn
   exact q3 t ht (Ak9 t ht hr)
  ·exact q2 l λt ht e=>hi ⟨t,ht,e.symm⟩
 have Ahi: ∀l∈pl,∀p,s.ptr=some p->Av H' l=some (.var p.1 (gY s.ins (cells.map (Cu dead part)) (cn (Er ks) 0 s.outs r))):= λl hl p hp=>by
  obtain ⟨p',q,h1,h2,_,_,_,h3,_⟩:=UN l hl
  rw [hp] at h1;cases h1
  show Av (Yw _ _ _ _ _ _) l=_
  rw [n1 l λj _ hj e=>Ajx j (by omega) (e▸hl),An7 l (λtid Ys e=>(hvd tid Ys).2 (e▸hl))]
  show Av (rY _ _ _ _).heap l=_
  rw [h2]
  refine WI ?_
  show Av (Yi (st1.heap.map λp=>(p.1,p.2.map (Cu dead part))) dead) l=_
  rw [Oq,Pv,Ai (hpd l hl),zK l (λ⟨t,ht,_,e⟩=>Afg l hl t ht e),h3]
  rfl
 have Ai0: ∀j,j<s.Tu->s.outs.length<=j-> ∃tid,s.rp=some tid/\j=s.outs.length:= λj h1 h2=>by
  cases KL:s.rp with
  |none=>unfold MSpec.Tu at h1;rw [KL] at h1;simp at h1;omega
  |some tid=>exact ⟨tid,rfl,by have:=(hvk tid KL).2;omega⟩
 have hHv: ∀tid,s.rp=some tid->Av H' (Ub d)=some (.var tid ((cn (Er ks) 0 s.outs r).drop s.Yc)):= λtid Ys=>by
  show Av (Yw _ _ _ _ _ _) _=_
  rw [n1 _ λj _ hj e=>hkv j (by omega) tid Ys e.symm,Atc tid Ys]
 suffices Ao0:Bh X π' (lX st st1 d s pl tks r) a w'/\Bs X w' π' (lX st st1 d s pl tks r).heap av0 v by
  obtain ⟨m1,m2⟩:=Ao0
  have xL: ∀(kj:List (Nat×Nat)) (l:Nat),l∈cg st.heap ks tks kj->o4 st.heap l=true/\ ∃k j t,(k,j)∈kj/\t∈tks/\t=(Ee false k,Loc.row l)/\ks[j]?=some l:=by
   intro kj
   induction kj with
   |nil=>intro l hl;cases hl
   |cons p kj ih=>
    intro l hl
    obtain ⟨k,j⟩:=p
    have up:l∈cg st.heap ks tks kj->o4 st.heap l=true/\ ∃k' j' t,(k',j')∈(k,j)::kj/\t∈tks/\t=(Ee false k',Loc.row l)/\ks[j']?=some l:= λhl=>by
     obtain ⟨h1,k',j',t,h2,h3⟩:=ih l hl
     exact ⟨h1,k',j',t,Ap _ h2,h3⟩
    simp only [cg] at hl
    split at hl
    ·rename_i x0 l1 l2 h1 h2
     split at hl
     ·rename_i hc
      simp only [Ah] at hc
      rcases Bb.1 hl with rfl|hl
      ·have:=List.find?_some h1
       have e1:=Kp this
       have e2:=Kp hc.1
       dsimp only at e1
       exact ⟨hc.2,k,j,_,Lg,List.mem_of_find?_eq_some h1,by rw [e1],by rw [h2,e2]⟩
      ·exact up hl
     ·exact up hl
    ·exact up hl
  obtain ⟨r1,r2⟩:=MR h m1 (ls:=cg st.heap ks tks s.keeps) (n:=s.Gj x) (λl hl=>by
   obtain ⟨_,k,j,t,h1,h2,h3,h4⟩:=xL s.keeps l hl
   have hj:j<ks.length:=(Ao.1 h4).1
   have we:Er ks j=l:=by
    rw [Sm hj]
    rw [Ac hj] at h4
    exact Bd h4
   have wi:=xK (k,j) h1
   rw [show π' l=ρ (Jh j) by rw [<-we];exact wg j (by omega),Afo]
   have hc:πc (Ee false k)=(π l).map full:=Ana k l (by rw [<-h3,<-etk];exact h2)
   dsimp only at wi
   rw [hc] at wi
   cases hp:π l<;>cases hq:p6 (Jh j)<;>(rw [hp,hq] at wi;exact wi)) (λl hl=>(xL s.keeps l hl).1) Yr
  exact ⟨π',r1,r2 av0 v m2⟩
 refine ⟨?_,?_⟩
 ·have hx:=Bh.Aj2 (π':=π') (H':=H') (dead:=dead) (part:=part) (inv:= λl=>(∃t∈Mu 0 s.ins as,t.2.reads=false/\t.2.Xu=l)\/l∈pl) (gv:= λb=>Vd πc b\/s.gv g b) h (λb hb=>by
    rcases hb with hb|hb
    ·obtain ⟨t,h1,h0,q,h2,h3,_⟩:=eC b hb
     exact ⟨_,q, .inl ⟨t,h1,h0,rfl⟩,h2,h3⟩
    ·obtain ⟨l,hl,q,h1,h2,_⟩:=UI b hb
     exact ⟨l,q, .inr hl,h1,h2⟩) Af1 (λl b0 hd h0=>⟨Aam l hd,?_⟩) (λl b' hb hd=>?_) (λl hl=>?_) (λm q hd hp hm hxa=>?_)
  ·have:({tmps:=(rY s.ins (cn (Er ks) 0 s.outs r) pl (st1.cV dead part)).tmps,heap:=H'} :St)= {tmps:=st.tmps.map (·.map (Cu dead part)),heap:=H'} :=by
    rw [qf]
    show ({tmps:=st1.tmps.map (·.map (Cu dead part)),heap:=H'} :St)=_
    rw [q1]
   show Bh X π' ({tmps:=(rY s.ins (cn (Er ks) 0 s.outs r) pl (st1.cV dead part)).tmps,heap:=H'} :St) a w'
   rw [this]
   exact hx
  ·by_cases YM:l∈pl
   ·obtain ⟨p,q,h1,h2,h3,h4,h5,h6,h7⟩:=UN l YM
    rw [h0] at h6;cases h6
    have vT:=Ahi l YM p h1
    refine .inr ⟨_,vT,⟨rfl,by rw [qa]⟩,λm=>?_⟩
    unfold fb at qO
    rw [h1] at qO
    obtain ⟨cs,k1,k2,k3⟩:=qO
    rw [<-h7] at k3
    refine ⟨q,h3,h4,cs.toArray,by rw [<-h5];exact k1,?_⟩
    refine Nx.to (kJ (H:=st.heap) Aam (λl1 b1 sz n hd1 hb1 hr1=>?_) s.ins 0 cells p7 x us o st st1 (cn (Er ks) 0 s.outs r) Ug cs (has▸hT) Anv (has▸Aac) k3 (n3 π' hD1 (λj _ hj=>wg j (by omega)))) (by simpa using k2)
    have hnp:l1∉pl:= λhp=>by
     obtain ⟨_,_,_,_,_,_,_,h8,_⟩:=UN l1 hp
     rw [hb1] at h8;cases h8;cases hr1
    by_cases hi: ∃t∈Mu 0 s.ins as,t.2.reads=false/\t.2.Xu=l1
    ·obtain ⟨b1,b',e1,e2,e3,e4,e5,e6⟩:=hinv l1 hd1 hi
     rw [hb1] at e1;cases e1
     exact ⟨b',by rw [pE l1 hd1 hnp,e2];simp [e4],by rw [e5.row];exact hr1⟩
    ·exact ⟨_,by rw [pE l1 hd1 hnp,zK l1 hi,hb1];rfl,by rw [OB.BQ];exact hr1⟩
   by_cases hi: ∃t∈Mu 0 s.ins as,t.2.reads=false/\t.2.Xu=l
   ·obtain ⟨b1,b',e1,e2,e3,e4,e5,e6⟩:=hinv l hd hi
    rw [h0] at e1;cases e1
    exact .inr ⟨b',by rw [pE l hd YM,e2];simp [e4],by rw [e3];exact e5,λ_=>e6 π' H' hD1⟩
   ·exact .inl ⟨λhh=>hh.elim hi YM,by rw [pE l hd YM,zK l hi,h0];rfl⟩
  ·obtain ⟨j,hj,rfl⟩:=newAt l b' hb hd
   refine ⟨Aum j hj,?_,λq b hq=>?_⟩
   ·rw [wg j hj]
    rcases Nat.lt_or_ge j s.outs.length with hjo|hjo
    ·rcases n2 j (Mc _) (by omega) with ⟨e1,_⟩|⟨b2,e1,e2⟩
     ·rw [show Av H' (Er ks j)=none from e1] at hb;cases hb
     ·rw [show Av H' (Er ks j)=some b2 from e1] at hb;cases hb
      exact e2 X π' H' (λhf q hq=>Ajl j hf q hq (Ajj j q hq hjo)) hD1
    ·obtain ⟨tid,Ys,hj0⟩:=Ai0 j hj hjo
     subst hj0
     rw [(hvk tid Ys).1,hHv tid Ys] at hb;cases hb
     unfold ni at fD
     rw [Ys] at fD
     obtain ⟨q,y1,y2,y3,y4,_⟩:=fD
     rw [Afo,y1]
     exact ⟨full q,rfl,y2,_,y3,Nx.to (Nx.take s.Yc (n3 π' hD1 (λj _ hj=>wg j (by omega)))).2 (by simpa using y4)⟩
   ·rw [wg j hj] at hq
    have Sa:=Ahq _ q hq
    refine ⟨λhf=>by rw [Sa];exact hf,λhf=>?_⟩
    rw [Sa] at hf
    obtain ⟨h1,h2⟩:=Aaa.Wl _ q b hq hf
    refine ⟨h1,h2.imp id ?_,λl2 r2 hd2 SC hf2=>?_⟩
    ·rintro ⟨c,p,h3,h4,h5⟩
     obtain ⟨t,t1,t2,t0,p',t3,t4,_⟩:=Wy c p b h4 h5
     exact ⟨t.2.Xu,p',Bi _ (Bi _ (eJ.2 ⟨t,etk▸t1,⟨by rw [t2];exact h3,t0⟩,rfl⟩)),t3,t4⟩
    ·by_cases hk: ∃j,j<s.Tu/\l2=Er ks j
     ·obtain ⟨j2,hj2,rfl⟩:=hk
      rw [wg j2 hj2] at SC
      rw [Ahq _ r2 SC] at hf2
      have:=Aaa.inj _ _ r2 q b SC hq hf2 hf
      unfold Jh at this
      have:j2=j:=by omega
      rw [this]
     ·have e0:π' l2=if l2∈dead then none else π l2:=zI l2 hk
      rw [e0] at SC
      split at SC
      ·cases SC
      ·rename_i Afc
       rcases hd2 with hd2|hd2
       ·exact absurd hd2 Afc
       ·rw [(h.1.heap l2).emp hd2] at SC;cases SC
  ·by_cases hk: ∃j,j<s.Tu/\l=Er ks j
   ·obtain ⟨j,hj,rfl⟩:=hk
    rw [wg j hj]
    rcases Nat.lt_or_ge j s.outs.length with hjo|hjo
    ·rcases n2 j (Mc _) (by omega) with ⟨_,e1⟩|⟨b2,e1,_⟩
     ·exact e1
     ·rw [show Av H' (Er ks j)=some b2 from e1] at hl;cases hl
    ·obtain ⟨tid,Ys,hj0⟩:=Ai0 j hj hjo
     subst hj0
     rw [(hvk tid Ys).1,hHv tid Ys] at hl;cases hl
   ·have e0:π' l=if l∈dead then none else π l:=zI l hk
    rw [e0]
    split
    ·rfl
    ·rename_i hd
     by_cases YM:l∈pl
     ·obtain ⟨p,_,h1,_⟩:=UN l YM
      rw [Ahi l YM p h1] at hl;cases hl
     rw [pE l hd YM] at hl
     by_cases hi: ∃t∈Mu 0 s.ins as,t.2.reads=false/\t.2.Xu=l
     ·obtain ⟨_,b',_,e2,_⟩:=hinv l hd hi
      rw [e2] at hl;cases hl
     ·rw [zK l hi] at hl
      cases h0:Av st.heap l with
      |none=>exact (h.1.heap l).emp h0
      |some b=>rw [h0] at hl;cases hl
  ·refine Af1.block _ (h.1.lt hm).1 λMF=>?_
   rcases MF with ho|hg
   rotate_left
   ·obtain ⟨l,hl,q',h1,h2,_⟩:=UI _ hg
    have zJ:=h.1.apart hm h1 (h.1.Cw hm) h2
    obtain ⟨_,_,_,_,_,_,_,h3,_⟩:=UN l hl
    obtain ⟨b,hxa,hxb⟩:=hxa
    rw [zJ,h3] at hxa;cases hxa
    exact hxb rfl
   obtain ⟨t,t1,t0,p,t3,t4,t5⟩:=eC _ ho
   have zJ:=h.1.apart hm t3 (h.1.Cw hm) t4
   have hpq:p=q:=by rw [<-zJ,hm] at t3;exact (Bd t3).symm
   cases ht2:t.2 with
   |row l=>
    refine hp ?_
    show m∈whole tks
    unfold whole
    exact Gy.2 ⟨t,etk▸t1,by rw [ht2,zJ,ht2];simp [Loc.Xu]⟩
   |sub l i j=>exact t5 l i j ht2 (by rw [hpq])
   |view l=>rw [ht2] at t0;cases t0
 ·have Av6:=n3 π' hD1 (λj _ hj=>wg j (by omega))
  cases KL:s.rp with
  |some tid=>
   unfold ni at fD
   rw [KL] at fD
   obtain ⟨q,y1,y2,y3,y4,rfl⟩:=fD
   unfold Agb at iu
   rw [KL] at iu
   simp only [Aa] at iu;subst iu
   refine ⟨full q,tid,_,hHv tid KL,?_,rfl⟩
   rw [<-(hvk tid KL).1,wg _ (by have:=(hvk tid KL).2;omega),Afo,y1]
   rfl
  |none=>
  unfold ni at fD
  rw [KL] at fD
  obtain ⟨fD,Avc⟩:=fD
  unfold Agb at iu
  rw [KL] at iu
  simp only at iu
  obtain ⟨g1,g2,g3,g4⟩:=ez s.Ji _ (Ug.drop s.Yc) Avc (Nx.take s.Yc Av6).2
  unfold Aqe at iu
  unfold Aca at fD
  split at iu
  ·rename_i hm
   rw [Ab hm] at fD
   simp only [Aa] at iu;subst iu
   subst fD
   exact ⟨_,rfl,g3.symm,g4⟩
  ·rename_i hm
   rw [Ai hm] at fD
   split at iu
   ·rename_i av1 hga
    simp only [Aa] at iu;subst iu
    rcases fD with fD|fD
    ·exact g2 0 _ v (by rw [hga];rfl) (by rw [fD];rfl)
    ·rw [hga,fD] at g1;cases g1
   ·simp only [Aa] at iu;subst iu;trivial
   ·cases iu
end
end Go.Proofs.YtkkdpknjohcekaaGreat
