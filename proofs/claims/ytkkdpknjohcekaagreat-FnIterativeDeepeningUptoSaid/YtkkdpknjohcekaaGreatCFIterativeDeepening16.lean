/-
  Part 17 of the proof that the statement FnIterativeDeepening holds.
-/
import Derived.Test.YtkkdpknjohcekaaGreatCFIterativeDeepening15
namespace Go.Proofs.YtkkdpknjohcekaaGreat
open Go.RowKit
section
variable {P:Program} {T:Tab} {X:Ctx} {w w':World} {π π':Pi} {H H':List (Nat×OB)}
theorem bl (k:Nat): ¬Dv true k<Bl:=by unfold Dv Bl;simp
theorem fL {k:Nat} (h:k<100000):Dv false k<Bl:=by unfold Dv Bl;simp;omega
def mI (X:Ctx) (D:Nat->Prop) (w':World) (π:Pi) (H Hn:List (Nat×OB)) (l:Nat):Prop:=
 ∃b0 b',Av H l=some b0/\Av Hn l=some b'/\(∀f,OB.map f b0=b0)/\(∀f,OB.map f b'=b')/\b0.fq b'/\ ∀π' H',(∀b,Wa π' b\/X.Sc b->D b)->Cg X w' π' H' (π l) b'
theorem Abb {io:Bool} {k:Nat} {τ:Ty} {a:AC} {t:Nat×Loc} (h:t∈Qx io k (.Eh τ) a):t.1=Dv false k:=by
 cases a<;>simp [Qx,views] at h<;>first|(obtain ⟨_,⟨_,_⟩,rfl⟩:=h;rfl)|(rw [h])
theorem UY {io:Bool} {k:Nat} {e:Ty} {te:TypeId} {a:AC} {t:Nat×Loc} (h:t∈Qx io k (.part e te) a):t.1=Dv io k:=by cases a<;>simp [Qx] at h<;>rw [h]
theorem Abc {io:Bool} {k:Nat} {e:Ty} {te:TypeId} {a:AC} {t:Nat×Loc} (h:t∈Qx io k (.row e te) a):t.1=Dv io k:=by cases a<;>simp [Qx] at h<;>rw [h]
theorem UZ {io:Bool} {k:Nat} {e:Ty} {te:TypeId} {a:AC} {t:Nat×Loc} (h:t∈Qx io k (.Ij e te) a):t.1=Dv io k:=by cases a<;>simp [Qx] at h<;>rw [h]
theorem fb {D:Nat->Prop} {π':Pi} {fr:Bool} {e:Ty} {es:List Value} {y:e.den} (hD: ∀b,Wa π' b\/X.Sc b->D b) (h:Cells w' D e es y):Cells w' (Cx X.w0.heap.size X.Sc π' (fr&&e.flat)) e es y:=by
 cases hf:e.flat with
 |true=>exact Cells.flat e es y hf h
 |false=>exact Cells.Ft (Ap _) (λ_ _ _=>rfl) (λb _ hb=>by
   rcases hb with hb|hb|⟨hb,_⟩
   ·exact hD b (.inl hb)
   ·exact hD b (.inr hb)
   ·simp at hb) e es y h
theorem VB {D P:Nat->Prop} {g o:Nat} {cur:Array Value} {tr:Bool} {e:Ty} {xs:List e.den}
  (h: ∀(i:Nat) (x:e.den),xs[i]?=some x-> ∃es:List Value,es.length=e.size/\(∀j u,es[j]?=some u->cur[(o+i)*e.size+j]?=some u)/\Cells w' D e es x) (ht:(tr&&e.flat)=true):Xs w' P g o cur e xs:=by
 simp only [Ag] at ht
 exact nj ht.2 h
theorem TX {D:Nat->Prop} (h:Nj X w π H) {k:Nat} {c:CK} {ys:c.den} {a:AC} {u:Value} {r:Option Real} {x:c.den} {cur st1:St} (hs:w.heap.size<=w'.heap.size)
  (hU: ∀l i j q b,a= .sub l i j->π l=some q->q.Cq b->b<w.heap.size->(∀r',r=some r'-> ¬r'.Cq b)->w'.heap[b]?=w.heap[b]?)
  {V:List Nat} (ht:eP w (Pb X π V) r u c x/\Ud w π H true a u r c x) (hr:gk w' D r c ys) (he:cy cur c ys a=some st1) (gP: ∀t∈Qx true k c a,Av cur.heap t.2.Xg=Av H t.2.Xg):
  st1.tmps=cur.tmps/\(∀m,(∀t∈Qx true k c a,m≠t.2.Xg)->Av st1.heap m=Av cur.heap m)/\ ∀t∈Qx true k c a,mI X D w' π H st1.heap t.2.Xg:=by
 obtain ⟨hc,ht⟩:=ht
 cases c with
 |Eh τ=>cases a<;>simp [cy] at he;subst he;exact ⟨rfl,λ_ _=>rfl,λt ht=>by simp [Qx] at ht⟩
 |row e te=>
  simp only [Ud] at ht
  cases a<;>simp only [] at ht<;>first|(exact ht.elim)|skip
  ·simp only [cy,Aa] at he;subst he
   exact ⟨rfl,λ_ _=>rfl,λt ht=>by simp [Qx] at ht⟩
  ·rename_i l off len
   obtain ⟨rfl,rfl,rfl,fr,tr,hl⟩:=ht
   have Qo:Av cur.heap l=some (.arr fr tr e te x):=(gP _ (Ad.2 rfl)).trans hl
   simp only [cy,St.at,Qo] at he
   split at he
   ·rename_i Ki
    obtain ⟨_,h1,_⟩:=Ki
    simp only [Aa] at he;subst he
    refine ⟨rfl,λm hm=>Dx _ _ _ _ (hm _ (Ad.2 rfl)),λt Vk=>?_⟩
    have Vk:=Ad.1 Vk
    subst Vk
    refine ⟨_,_,hl,Ev _ _ _ _ Qo,λ_=>rfl,λ_=>rfl,⟨rfl,h1.symm⟩,λπ' H' hD=>?_⟩
    have hb:=(h.heap l).Rz hl
    change Cg X w' π' H' (π l) _
    simp only [Cg,Ks] at hb⊢
    cases hp:π l with
    |none=>rw [hp] at hr;exact hr
    |some q=>
     rw [hp] at hr hb
     obtain ⟨k1,cu,ti,k2,k3,k4,k5,k6⟩:=hr
     exact ⟨⟨k1.1,k1.2,λhh=>hb.1.2.2 (by simp only [Ag] at hh;exact hh.1)⟩,cu,ti,k2,k3,k4,k5,λi y hy=>by
      obtain ⟨es,g1,g2,g3⟩:=k6 i y hy
      exact ⟨es,g1,g2,fb hD g3⟩,λht=>VB k6 ht⟩
   ·cases he
  ·rename_i l i j
   obtain ⟨⟨_,hf⟩,tid,xs,hl,hx,q,hq,Wl,hre⟩:=ht
   have Qo:Av cur.heap l=some (.Hf (.slice e) tid xs):=(gP _ (Ad.2 rfl)).trans hl
   simp only [cy,St.at,Qo,hx] at he
   rw [Js trivial] at he
   ·split at he
    ·rename_i h1
     simp only [Aa] at he;subst he
     refine ⟨rfl,λm hm=>Dx _ _ _ _ (hm _ (Ad.2 rfl)),λt Vk=>?_⟩
     have Vk:=Ad.1 Vk
     subst Vk
     refine ⟨_,_,hl,Ev _ _ _ _ Qo,λ_=>rfl,λ_=>rfl,⟨rfl,by simp⟩,λπ' H' _=>?_⟩
     show Oh w' (π l) (.slice e) tid _
     rw [hq]
     refine hre w' ys hs (λb Lr hb hn=>hU l i j q b rfl hq hb Lr hn) ?_
     have hv:=hc.1
     rw [<-show List.length ys=List.length x from h1] at hv
     exact Tl.ND hr hf hv
    ·cases he
 |Ij e te=>
  simp only [Ud] at ht
  cases a<;>simp only [] at ht<;>first|(exact ht.elim)|skip
  ·simp only [cy,Aa] at he;subst he
   exact ⟨rfl,λ_ _=>rfl,λt ht=>by simp [Qx] at ht⟩
  ·rename_i l off len
   obtain ⟨rfl,rfl,rfl,hl⟩:=ht
   have Qo:Av cur.heap l=some (.Hf e te x):=(gP _ (Ad.2 rfl)).trans hl
   simp only [cy,St.at,Qo] at he
   split at he
   ·rename_i Ki
    obtain ⟨_,h1,_⟩:=Ki
    simp only [Aa] at he;subst he
    refine ⟨rfl,λm hm=>Dx _ _ _ _ (hm _ (Ad.2 rfl)),λt Vk=>?_⟩
    have Vk:=Ad.1 Vk
    subst Vk
    refine ⟨_,_,hl,Ev _ _ _ _ Qo,λ_=>rfl,λ_=>rfl,⟨rfl,h1.symm⟩,λπ' H' _=>?_⟩
    show Oh w' (π l) e te _
    cases hp:π l with
    |none=>rw [hp] at hr;exact hr
    |some q=>rw [hp] at hr;exact hr
   ·cases he
  ·rename_i l i j
   obtain ⟨_,tid,xs,hl,hx,q,hq,Wl,hre⟩:=ht
   have Qo:Av cur.heap l=some (.Hf (.slice e) tid xs):=(gP _ (Ad.2 rfl)).trans hl
   simp only [cy,St.at,Qo,hx] at he
   rw [Js trivial] at he
   ·split at he
    ·rename_i h1
     simp only [Aa] at he;subst he
     refine ⟨rfl,λm hm=>Dx _ _ _ _ (hm _ (Ad.2 rfl)),λt Vk=>?_⟩
     have Vk:=Ad.1 Vk
     subst Vk
     refine ⟨_,_,hl,Ev _ _ _ _ Qo,λ_=>rfl,λ_=>rfl,⟨rfl,by simp⟩,λπ' H' _=>?_⟩
     show Oh w' (π l) (.slice e) tid _
     rw [hq]
     refine hre w' ys hs (λb Lr hb hn=>hU l i j q b rfl hq hb Lr hn) ?_
     have hv:=hc.1
     rw [<-show List.length ys=List.length x from h1] at hv
     exact Oh.ND (te:=te) hr hv
    ·cases he
 |part e te=>cases a<;>simp [cy] at he<;>first|(simp only [Ud] at ht;exact ht.2.elim)
 |Bn e te kp=>exact absurd ht.1 (by simp)
theorem TY {D:Nat->Prop} (h:Nj X w π H) {k:Nat} {e:Ty} {te:TypeId} {ys:List e.den} {a:AC} {u:Value} {r:Option Real} {x:(CK.part e te).den} {cur st1:St}
  {V:List Nat} (ht:eP w (Pb X π V) r u (.part e te) x/\Ud w π H true a u r (.part e te) x) (hr:gk w' D r (.row e te) ys) (he:LV cur e ys a=some st1) (gP: ∀t∈Qx true k (.part e te) a,Av cur.heap t.2.Xg=Av H t.2.Xg):
  st1.tmps=cur.tmps/\(∀m,(∀t∈Qx true k (.part e te) a,m≠t.2.Xg)->Av st1.heap m=Av cur.heap m)/\ ∀t∈Qx true k (.part e te) a,mI X D w' π H st1.heap t.2.Xg:=by
 obtain ⟨hc,hf,ht⟩:=ht
 cases a<;>simp only [] at ht<;>first|(exact ht.elim)|skip
 rename_i l off len
 obtain ⟨rfl,_,fr,tr,hl⟩:=ht
 have Qo:Av cur.heap l=some (.arr fr tr e te x.1):=(gP _ (Ad.2 rfl)).trans hl
 simp only [LV,St.at,Qo] at he
 split at he
 ·rename_i Ki
  obtain ⟨_,h1⟩:=Ki
  simp only [Aa] at he;subst he
  refine ⟨rfl,λm hm=>Dx _ _ _ _ (hm _ (Ad.2 rfl)),λt Vk=>?_⟩
  have Vk:=Ad.1 Vk
  subst Vk
  refine ⟨_,_,hl,Ev _ _ _ _ Qo,λ_=>rfl,λ_=>rfl,⟨rfl,h1.symm⟩,λπ' H' _=>?_⟩
  have hb:=(h.heap l).Rz hl
  change Cg X w' π' H' (π l) _
  simp only [Cg,Ks] at hb⊢
  cases hp:π l with
  |none=>rw [hp] at hr;exact hr
  |some q=>
   rw [hp] at hr hb
   obtain ⟨k1,cu,ti,k2,k3,k4,k5,k6⟩:=hr
   exact ⟨⟨k1.1,k1.2,hb.1.2.2⟩,cu,ti,k2,k3,k4,k5,λi y hy=>by
    obtain ⟨es,g1,g2,g3⟩:=k6 i y hy
    exact ⟨es,g1,g2,Cells.flat e es y hf g3⟩,λ_=>nj hf k6⟩
 ·cases he
def rO (X:Ctx) (D:Nat->Prop) (w':World) (π:Pi) (H:List (Nat×OB)) (tk:List (Nat×Loc)) (cur st1:St):Prop:=
 st1.tmps=cur.tmps/\(∀m,(∀t∈tk,m≠t.2.Xg)->Av st1.heap m=Av cur.heap m)/\(∀t∈tk,t.1<Bl->Av st1.heap t.2.Xg=Av cur.heap t.2.Xg)/\(∀t∈tk,¬t.1<Bl->mI X D w' π H st1.heap t.2.Xg)
theorem uc {D:Nat->Prop} (h:Nj X w π H) {V:List Nat} {πc:Pi} {tks:List (Nat×Loc)} (hs:w.heap.size<=w'.heap.size)
  (hU: ∀t∈tks,∀q b,π t.2.Xg=some q->q.Cq b->b<w.heap.size->(∀r',πc t.1=some r'-> ¬r'.Cq b)->w'.heap[b]?=w.heap[b]?):
  ∀(cs:List (Bool×CK)) (k:Nat) (x:Ins.den cs) (as:List AC) (us:List Value) (o:IOs.den cs) (cur st1:St),k+cs.length<100000->(∀t∈Mh k cs as,t∈tks)->((Mh k cs as).map λt=>t.2.Xg).Nodup->
   qU X w π V H πc k cs x as us->Ms w' D πc k cs o->Iv cs o as cur=some st1->(∀t∈Mh k cs as,Av cur.heap t.2.Xg=Av H t.2.Xg)->
   rO X D w' π H (Mh k cs as) cur st1
 | [],k,x,as,us,o,cur,st1,_,_,_,_,_,he,_=>by
  simp only [Iv,Aa] at he;subst he
  have e0:Mh k [] as= []:=by cases as<;>rfl
  exact ⟨rfl,λ_ _=>rfl,by rw [e0];simp,by rw [e0];simp⟩
 |p::r,k,x,[],us,o,cur,st1,_,_,_,ht,_,_,_=>ht.elim
 |p::r,k,x,a::as,[],o,cur,st1,_,_,_,ht,_,_,_=>ht.elim
 |(io,c)::r,k,x,a::as,u::us,o,cur,st1,hk,Yf,BI,ht,ho,he,gP=>by
  simp only [Aw] at hk
  simp only [Mh] at Yf BI gP⊢
  rw [Mj] at BI
  obtain ⟨n1,n2,n3⟩:=Dr.1 BI
  have apart: ∀t∈Qx io k c a,∀t'∈Mh (k+1) r as,t'.2.Xg≠t.2.Xg:= λt h1 t' h2 e=>n3 _ (Bj.2 ⟨t,h1,rfl⟩) _ (Bj.2 ⟨t',h2,rfl⟩) e.symm
  have rest: ∀(an:St) (o':IOs.den r),Ms w' D πc (k+1) r o'->Iv r o' as an=some st1->an.tmps=cur.tmps->(∀m,(∀t∈Qx io k c a,m≠t.2.Xg)->Av an.heap m=Av cur.heap m)->
    (∀t∈Qx io k c a,t.1<Bl->Av an.heap t.2.Xg=Av cur.heap t.2.Xg)->(∀t∈Qx io k c a,¬t.1<Bl->mI X D w' π H an.heap t.2.Xg)->
    rO X D w' π H (Qx io k c a++Mh (k+1) r as) cur st1:=by
   intro an o' h1 h2 h3 h4 h5 h6
   obtain ⟨g1,g2,g3,g4⟩:=uc h hs hU r (k+1) x.2 as us o' an st1 (by omega) (λt ht=>Yf t (Cf _ ht)) n2 ht.2 h1 h2 (λt Vk=>by
    rw [h4 _ λt0 JY=>apart t0 JY t Vk];exact gP t (Cf _ Vk))
   have hd: ∀t∈Qx io k c a,Av st1.heap t.2.Xg=Av an.heap t.2.Xg:= λt Vk=>g2 _ λt' JX=>(apart t Vk t' JX).symm
   refine ⟨g1.trans h3,λm hm=>?_,λt Vk Lr=>?_,λt Vk Lr=>?_⟩
   ·rw [g2 m λt ht=>hm t (Cf _ ht),h4 m λt ht=>hm t (Bk _ ht)]
   ·rcases Ay.1 Vk with Vk|Vk
    ·rw [hd t Vk,h5 t Vk Lr]
    ·rw [g3 t Vk Lr,h4 _ λt0 JY=>apart t0 JY t Vk]
   ·rcases Ay.1 Vk with Vk|Vk
    ·obtain ⟨b0,b',q1,q2,q3⟩:=h6 t Vk Lr
     exact ⟨b0,b',q1,(hd t Vk).trans q2,q3⟩
    ·exact g4 t Vk Lr
  have same: ∀o',Ms w' D πc (k+1) r o'->Iv r o' as cur=some st1->(∀t∈Qx io k c a,t.1<Bl)->rO X D w' π H (Qx io k c a++Mh (k+1) r as) cur st1:= λo' h1 h2 h3=>rest cur o' h1 h2 rfl (λ_ _=>rfl) (λ_ _ _=>rfl) (λt h4 h5=>absurd (h3 t h4) h5)
  cases io with
  |false=>
   have h3: ∀t∈Qx false k c a,t.1<Bl:= λt h4=>by rcases GZ h4 with ⟨h5,_⟩|⟨h5,_⟩<;>(rw [h5];exact fL (by omega))
   cases c with
   |Eh τ=>exact same o ho (by simpa only [Iv] using he) h3
   |row e te=>exact same o ho (by simpa only [Iv] using he) h3
   |Ij e te=>exact same o ho (by simpa only [Iv] using he) h3
   |part e te=>exact same o ho (by simpa only [Iv] using he) h3
   |Bn e te kp=>exact same o ho (by simpa only [Iv] using he) h3
  |true=>
   have row: ∀(ys:c.den) (o':IOs.den r),(∀t∈Qx true k c a,t.1=Dv true k)->gk w' D (πc (Dv true k)) c ys->Ms w' D πc (k+1) r o'->(∃an,cy cur c ys a=some an/\Iv r o' as an=some st1)->rO X D w' π H (Qx true k c a++Mh (k+1) r as) cur st1:=by
    intro ys o' h0 h1 h2 h3
    obtain ⟨an,hp,h3⟩:=h3
    ·obtain ⟨q1,q2,q3⟩:=TX (k:=k) h hs (λl i j q b ea hq hb Lr hn=>by
      cases c with
      |Eh τ=>exact absurd (ht.1.2:πc _=none) (by subst ea;simp [cy] at hp)
      |row e te=>subst ea;exact hU (Dv true k, .sub l i j) (Yf _ (Bk _ (Ad.2 rfl))) q b hq hb Lr hn
      |Ij e te=>subst ea;exact hU (Dv true k, .sub l i j) (Yf _ (Bk _ (Ad.2 rfl))) q b hq hb Lr hn
      |Bn e te kp=>exact absurd ht.1.2.1 (by simp)
      |part e te=>exact absurd ht.1.2.2 (by subst ea;exact λh=>h)) ht.1 h1 hp (λt Vk=>gP t (Bk _ Vk))
     exact rest an o' h2 h3 q1 q2 (λt h4 h5=>absurd h5 (by rw [h0 t h4];exact bl k)) (λt h4 _=>q3 t h4)
   cases c with
   |Eh τ=>exact same o ho (by simpa only [Iv] using he) (λt h4=>by rw [Abb h4];exact fL (by omega))
   |Bn e te kp=>exact absurd ht.1.2.1 (by simp)
   |row e te=>
    simp only [Iv] at he
    split at he
    ·rename_i an hp;exact row o.1 o.2 (λt ht=>Abc ht) ho.1 ho.2 ⟨an,hp,he⟩
    ·cases he
   |Ij e te=>
    simp only [Iv] at he
    split at he
    ·rename_i an hp;exact row o.1 o.2 (λt ht=>UZ ht) ho.1 ho.2 ⟨an,hp,he⟩
    ·cases he
   |part e te=>
    simp only [Iv] at he
    split at he
    ·rename_i an hp
     obtain ⟨q1,q2,q3⟩:=TY (k:=k) h ht.1 ho.1 hp (λt Vk=>gP t (Bk _ Vk))
     exact rest an o.2 ho.2 he q1 q2 (λt h4 h5=>absurd h5 (by rw [UY h4];exact bl k)) (λt h4 _=>q3 t h4)
    ·cases he
theorem KR {fr:Bool} {c:CK} {x:c.den} {u:Value} {r:Option Real} {D:Nat->Prop} (h:eP w' D r u c x):
  (vQ fr c x=none/\r=none)\/ ∃b',vQ fr c x=some b'/\ ∀(X:Ctx) π' H',(fr=true-> ∀q,r=some q->X.w0.heap.size<=q.g)->(∀b,Wa π' b\/X.Sc b->D b)->Cg X w' π' H' r b':=by
 cases c with
 |Eh τ=>exact .inl ⟨rfl,h.1⟩
 |row e te=>
  refine .inr ⟨_,rfl,λX π' H' yM hD=>?_⟩
  obtain ⟨_,h⟩:=h
  simp only [gk] at h
  simp only [Cg,Ks]
  cases r with
  |none=>exact h
  |some q=>
   obtain ⟨k1,cu,ti,k2,k3,k4,k5,k6⟩:=h
   exact ⟨⟨k1.1,k1.2,λh1=>yM (by simp only [Ag] at h1;exact h1.1) q rfl⟩,cu,ti,k2,k3,k4,k5,λi y hy=>by
    obtain ⟨es,g1,g2,g3⟩:=k6 i y hy
    exact ⟨es,g1,g2,fb hD g3⟩,λh=>by cases h⟩
 |Ij e te=>exact .inr ⟨_,rfl,λX π' H' _ _=>h.2⟩
 |Bn e te kp=>exact .inr ⟨_,rfl,λX π' H' _ hD=>⟨aB.Jr h.2 λb hb=>hD b (hb.imp id λh=>h.elim id λh=>by cases h.1),trivial⟩⟩
 |part e te=>
  refine .inr ⟨_,rfl,λX π' H' yM hD=>?_⟩
  obtain ⟨_,hf,h⟩:=h
  simp only [Cg,Ks]
  cases r with
  |none=>exact h
  |some q=>
   obtain ⟨k1,cu,ti,k2,k3,k4,k5,k6⟩:=h
   exact ⟨⟨k1.1,k1.2,λh1=>yM (by simp only [Ag] at h1;exact h1.1) q rfl⟩,cu,ti,k2,k3,k4,k5,λi y hy=>by
    obtain ⟨es,g1,g2,g3⟩:=k6 i y hy
    exact ⟨es,g1,g2,fb hD g3⟩,λh=>by cases h⟩
theorem qA {D:Nat->Prop} {key:Nat->Nat} (YC: ∀i j,key i=key j->i=j) {fr:Bool} {ρ:Pi} : ∀(cs:List CK) (k:Nat) (x:CKs.den cs) (us:List Value) (H:List (Nat×OB)),Jz w' D ρ k cs x us->
  (∀j,k<=j->j<k+cs.length->Av H (key j)=none)->
  (∀l,(∀j,k<=j->j<k+cs.length->l≠key j)->Av (Yl fr key k cs x H) l=Av H l)/\
  (∀j,k<=j->j<k+cs.length->(Av (Yl fr key k cs x H) (key j)=none/\ρ (Kv j)=none)\/
   ∃b',Av (Yl fr key k cs x H) (key j)=some b'/\ ∀(X:Ctx) π' H',(fr=true-> ∀q,ρ (Kv j)=some q->X.w0.heap.size<=q.g)->(∀b,Wa π' b\/X.Sc b->D b)->Cg X w' π' H' (ρ (Kv j)) b')/\
  (∀π',(∀b,Wa π' b\/X.Sc b->D b)->(∀j,k<=j->j<k+cs.length->π' (key j)=ρ (Kv j))->Nk X w' π' (Yl fr key k cs x H) (bX key k cs x) us)
 | [],k,x,[],H,_,_=>⟨λ_ _=>rfl,λj h1 h2=>by simp at h2;omega,λ_ _ _=>trivial⟩
 | [],_,_,_::_,_,h,_=>h.elim
 |_::_,_,_,[],_,h,_=>h.elim
 |c::r,k,x,u::us,H,h,hn=>by
  simp only [Aw] at hn⊢
  simp only [Yl,bX]
  have vq:=hn k (Ap _) (by omega)
  have hH1: ∀l,l≠key k->Av (DY H (key k) (vQ fr c x.1)) l=Av H l:=by
   intro l hl
   cases vQ fr c x.1 with
   |some b=>exact Px _ _ _ _ hl
   |none=>rfl
  have Aku:Av (DY H (key k) (vQ fr c x.1)) (key k)=vQ fr c x.1:=by
   cases vQ fr c x.1 with
   |some b=>exact Ra _ _ _ vq
   |none=>exact vq
  generalize (DY H (key k) (vQ fr c x.1))=H1 at hH1 Aku⊢
  obtain ⟨g1,g2,g3⟩:=qA YC (fr:=fr) r (k+1) x.2 us H1 h.2 (λj h1 h2=>by
   rw [hH1 _ λe=>by have:=YC _ _ e;omega];exact hn j (by omega) (by omega))
  have hkk:Av (Yl fr key (k+1) r x.2 H1) (key k)=vQ fr c x.1:=by
   rw [g1 _ λj h1 h2 e=>by have:=YC _ _ e;omega];exact Aku
  refine ⟨λl hl=>?_,λj h1 h2=>?_,λπ' hd hπ=>⟨?_,?_⟩⟩
  ·rw [g1 l λj h1 h2=>hl j (by omega) (by omega)]
   exact hH1 l (hl k (Ap _) (by omega))
  ·rcases Nat.eq_or_lt_of_le h1 with e|h1
   ·subst e
    rw [hkk]
    exact KR h.1
   ·exact g2 j h1 (by omega)
  ·have h1:=h.1
   have hpk:=hπ k (Ap _) (by omega)
   cases c with
   |Eh τ=>
    obtain ⟨iB,c1,c2⟩:=h1.2
    exact ⟨iB,by have:=fb (fr:=true) hd c1;simpa using this,c2⟩
   |row e te=>exact ⟨_,e.size,List.length x.1,hkk,rfl,by simp,by rw [hpk];exact h1.1⟩
   |Ij e te=>exact ⟨_,e.size,List.length x.1,hkk,rfl,by simp,by rw [hpk];exact h1.1⟩
   |Bn e te kp=>exact ⟨_,1,List.length x.1,hkk,rfl,by simp,by rw [hpk];exact h1.1⟩
   |part e te=>trivial
  ·exact g3 π' hd λj h1 h2=>hπ j (by omega) (by omega)
theorem KH {ks:List Nat} {n:Nat} (h:zb ks n=true):ks.length=n/\ks.Nodup/\ ∀l∈ks,l<Bl:=by
 unfold zb at h
 simp only [Ag] at h
 refine ⟨Kg h.1,Yk h.2.1,λl hl=>?_⟩
 have:=Bb.1 h.2.2 l hl
 simpa using this
theorem Sa {ks:List Nat} {j:Nat} (h:j<ks.length):Ea ks j=ks[j]:=by
 unfold Ea
 rw [Ac h]
theorem CN {ks:List Nat} (hn:ks.Nodup) (hl: ∀l∈ks,l<Bl): ∀i j,Ea ks i=Ea ks j->i=j:=by
 intro i j h
 by_cases hi:i<ks.length
 ·by_cases hj:j<ks.length
  ·rw [Sa hi,Sa hj] at h
   rcases Nat.lt_trichotomy i j with Lr|he|Lr
   ·exact absurd h (Ej.1 hn i j hi hj Lr)
   ·exact he
   ·exact absurd h.symm (Ej.1 hn j i hj hi Lr)
  ·have h1:=hl _ (Al hi)
   rw [Sa hi] at h
   unfold Ea at h
   rw [Dw (by omega)] at h
   simp only at h
   omega
 ·by_cases hj:j<ks.length
  ·have h1:=hl _ (Al hj)
   rw [Sa hj] at h
   unfold Ea at h
   rw [Dw (by omega)] at h
   simp only at h
   omega
  ·unfold Ea at h
   rw [Dw (by omega),Dw (by omega)] at h
   simp only at h
   omega
theorem Nz: ∀(H:List (Nat×OB)) (dead:List Nat) (l:Nat),Av (Xw H dead) l=if l∈dead then none else Av H l
 | [],dead,l=>by simp [Xw,Av]
 |(k,b)::r,dead,l=>by
  simp only [Xw]
  have ih:=Nz r dead l
  by_cases hk:k∈dead
  ·rw [Ab (by simpa using hk),ih]
   split
   ·rfl
   ·rename_i hl
    simp only [Av]
    rw [Ai (λ(e:k=l)=>hl (e▸hk))]
  ·rw [Ai (by simpa using hk)]
   simp only [Av]
   split
   ·rename_i e;subst e;rw [Ai hk]
   ·exact ih
theorem mem_keys {ks:List Nat} {l:Nat} :l∈ks↔ ∃k,k<ks.length/\l=Ea ks k:=
 ⟨λh=>by obtain ⟨k,hk,e⟩:=Nw h;exact ⟨k,hk,by rw [Sa hk,e]⟩,λ⟨k,hk,e⟩=>by rw [e,Sa hk];exact Al hk⟩
theorem er {tks:List (Nat×Loc)} {l:Nat} :l∈mV tks↔ ∃t∈tks,(t.1<Bl/\t.2.reads=false)/\t.2.Xg=l:=by
 unfold mV
 simp only [Bj,Bs,Ag,Ns,Er]
 exact ⟨λ⟨t,⟨h1,h2⟩,h3⟩=>⟨t,h1,h2,h3⟩,λ⟨t,h1,h2,h3⟩=>⟨t,⟨h1,h2⟩,h3⟩⟩
theorem zc {tks:List (Nat×Loc)} (h:(tks.map λt=>t.2.Xg).Nodup) {t t':Nat×Loc} (ht:t∈tks) (JX:t'∈tks) (he:t.2.Xg=t'.2.Xg):t=t':=by
 induction tks with
 |nil=>cases ht
 |cons a r ih=>
  simp only [Cc] at h
  obtain ⟨h1,h2⟩:=Ce.1 h
  rcases Bg.1 ht with rfl|ht<;>rcases Bg.1 JX with rfl|JX
  ·rfl
  ·exact (h1 (Bj.2 ⟨t',JX,he.symm⟩)).elim
  ·exact (h1 (he▸Bj.2 ⟨t,‹t∈r›,rfl⟩)).elim
  ·exact ih h2 ht JX
theorem Jz.full {D:Nat->Prop} {ρ:Pi} : ∀(cs:List CK) (k:Nat) (x:CKs.den cs) (us:List Value),Jz w D ρ k cs x us->Jz w D (λl=>(ρ l).map full) k cs x us
 | [],_,_,[],h=>h
 | [],_,_,_::_,h=>h.elim
 |_::_,_,_,[],h=>h.elim
 |c::r,k,x,u::us,h=>⟨by
   have h1:=h.1
   show eP w D ((ρ (Kv k)).map _) u c x.1
   cases c with
   |Eh τ=>rw [h1.1];exact ⟨rfl,h1.2⟩
   |row e te=>cases hp:ρ (Kv k)<;>(rw [hp] at h1;exact h1)
   |Ij e te=>cases hp:ρ (Kv k)<;>(rw [hp] at h1;exact h1)
   |Bn e te kp=>cases hp:ρ (Kv k)<;>(rw [hp] at h1;exact h1)
   |part e te=>cases hp:ρ (Kv k)<;>(rw [hp] at h1;exact h1),Jz.full r (k+1) x.2 us h.2⟩
theorem Jz.Af0 {D:Nat->Prop} {ρ:Pi} : ∀(cs:List CK) (k0:Nat) (x:CKs.den cs) (us:List Value),Jz w D ρ k0 cs x us-> ∀j,k0<=j->j<k0+cs.length-> ∀q,ρ (Kv j)=some q->q.Cq q.g
 | [],k0,_,_,_,j,h1,h2,_,_=>by simp at h2;omega
 |_::_,_,_,[],h,_,_,_,_,_=>h.elim
 |c::r,k0,x,u::us,ho,j,h1,h2,q,hq=>by
  rcases Nat.eq_or_lt_of_le h1 with e|h1
  ·subst e
   have:=ho.1
   cases c with
   |Eh τ=>rw [hq] at this;cases this.1
   |row e te=>rw [hq] at this;exact this.2.1.1
   |Ij e te=>rw [hq] at this;exact this.2.1
   |part e te=>rw [hq] at this;exact this.2.2.1.1
   |Bn e te kp=>rw [hq] at this;exact this.2.1
  ·exact Jz.Af0 r (k0+1) x.2 us ho.2 j h1 (by simp at h2;omega) q hq
theorem Tl.any {D D':Nat->Prop} {r:Option Real} {e:Ty} {xs:List e.den} (hf:e.flat=true) (h:Tl w D r e xs):Tl w D' r e xs:=by
 cases r with
 |none=>exact h
 |some r=>
  obtain ⟨k1,cu,ti,k2,k3,k4,k5,k6⟩:=h
  exact ⟨k1,cu,ti,k2,k3,k4,k5,λi y hy=>by
   obtain ⟨es,g1,g2,g3⟩:=k6 i y hy
   exact ⟨es,g1,g2,Cells.flat e es y hf g3⟩⟩
theorem Jz.any {D D':Nat->Prop} {ρ:Pi} : ∀(cs:List CK) (k:Nat) (x:CKs.den cs) (us:List Value),cs.all (·.flat)=true->Jz w D ρ k cs x us->Jz w D' ρ k cs x us
 | [],_,_,[],_,h=>h
 | [],_,_,_::_,_,h=>h.elim
 |_::_,_,_,[],_,h=>h.elim
 |c::r,k,x,u::us,hf,h=>by
  simp only [Jg,Ag] at hf
  refine ⟨?_,Jz.any r (k+1) x.2 us hf.2 h.2⟩
  have h1:=h.1
  cases c with
  |Eh τ=>exact ⟨h1.1,Ct.flat hf.1 h1.2⟩
  |row e te=>exact ⟨h1.1,Tl.any hf.1 h1.2⟩
  |Ij e te=>exact h1
  |part e te=>exact ⟨h1.1,h1.2.1,Tl.any hf.1 h1.2.2⟩
  |Bn e te kp=>exact absurd hf.1 (by simp [CK.flat])
theorem Ms.any {D D':Nat->Prop} {π:Pi} : ∀(cs:List (Bool×CK)) (k:Nat) (x:IOs.den cs),(cs.all λp=>!p.1||p.2.flat)=true->Ms w D π k cs x->Ms w D' π k cs x
 | [],_,_,_,h=>h
 |(false,_)::r,k,x,hf,h=>Ms.any r (k+1) x (by simp only [Jg,Ag] at hf;exact hf.2) h
 |(true, .Eh _)::r,k,x,hf,h=>Ms.any r (k+1) x (by simp only [Jg,Ag] at hf;exact hf.2) h
 |(true, .Bn _ _ _)::r,k,x,hf,h=>Ms.any r (k+1) x (by simp only [Jg,Ag] at hf;exact hf.2) h
 |(true, .row e te)::r,k,x,hf,h=>by
  simp only [Jg,Ag,Bool.not_true,Sw] at hf
  exact ⟨Tl.any hf.1 h.1,Ms.any r (k+1) x.2 hf.2 h.2⟩
 |(true, .Ij e te)::r,k,x,hf,h=>by
  simp only [Jg,Ag,Bool.not_true,Sw] at hf
  exact ⟨h.1,Ms.any r (k+1) x.2 hf.2 h.2⟩
 |(true, .part e te)::r,k,x,hf,h=>by
  simp only [Jg,Ag,Bool.not_true,Sw] at hf
  exact ⟨Tl.any hf.1 h.1,Ms.any r (k+1) x.2 hf.2 h.2⟩
theorem tK {tks:List (Nat×Loc)} {l:Nat} :l∈AX tks↔ ∃t∈tks,t.2.reads=true/\t.2.Xg=l:=by
 unfold AX
 simp only [Bj,Bs]
 exact ⟨λ⟨t,⟨h1,h2⟩,h3⟩=>⟨t,h1,h2,h3⟩,λ⟨t,h1,h2,h3⟩=>⟨t,⟨h1,h2⟩,h3⟩⟩
theorem Bh.nU {st:St} {a:Act} (h:Bh X π st a w) {f:AC->AC} (hu:f .undef= .undef) {gv:Nat->Prop} (SB: ∀b,gv b->Wa π b) (hb:Li w.heap.size gv w w')
  (eg: ∀b,b<w.heap.size->Wa π' b->Wa π b)
  (Yf: ∀l r b,π' l=some r->r.Cq b->r.cl b) (Ahz: ∀l r b,π' l=some r->r.cl b->(X.w0.heap.size<=b\/X.gv b)/\b<w'.heap.size)
  (Are: ∀l l' r r' b,π' l=some r->π' l'=some r'->r.cl b->r'.cl b->l=l')
  (dq: ∀l,Bl<=l->Av H' l≠none->bA (X.gZ l) (π' l))
  (hac:(∀fr τ cs x,Cells w (Cx X.w0.heap.size X.Sc π fr) τ cs x->Cells w' (Cx X.w0.heap.size X.Sc π' fr) τ cs x)-> ∀c v,Ia X w π st.heap c v->Ia X w' π' H' (f c) v)
  (JN:Move X w w' π π' st.heap H' f-> ∀l b,Av H' l=some b->Cg X w' π' H' (π' l) b)
  (PD: ∀l,Av H' l=none->π' l=none):
  Bh X π' {tmps:=st.tmps.map (·.map f),heap:=H'} a w':=by
 have hc: ∀fr τ cs x,Cells w (Cx X.w0.heap.size X.Sc π fr) τ cs x->Cells w' (Cx X.w0.heap.size X.Sc π' fr) τ cs x:= λfr τ cs x hh=>
  Cells.Ft hb.size (λk hk hn=>hb.block k hk λhg=>hn (.inl (SB k hg))) (λk Lr hA=>hA.imp (eg k Lr) id) τ cs x hh
 have m:Move X w w' π π' st.heap H' f:=⟨hac hc,hc⟩
 refine ⟨⟨⟨hb.os.trans h.1.below.os,hb.tape.trans h.1.below.tape,hb.output.trans h.1.below.output,Lg h.1.below.size hb.size,λk hk hn=>?_⟩,h.1.sc,Yf,Ahz,Are,dq,λl=>?_⟩,m.LZ hu h.2⟩
 ·refine (hb.block k (Ef hk h.1.below.size) λhg=>?_).trans (h.1.below.block k hk hn)
  rcases (h.1.own (SB k hg)).2 with h1|h1
  ·omega
  ·exact hn h1
 ·cases hh:Av H' l with
  |none=>exact Gj.Uq (PD l hh) hh
  |some b=>exact Gj.Mf (JN m l b hh) hh
def gl:Option Real->Option Real->Prop
 |none,none=>True
 |some r,some r'=>r.g=r'.g/\r.o=r'.o/\r.cap=r'.cap
 |_,_=>False
theorem gl.rfl' (r:Option Real):gl r r:=by cases r<;>simp [gl]
theorem gl.some {r:Real} {r':Option Real} (h:gl (some r) r'): ∃q,r'=some q/\r.g=q.g/\r.o=q.o/\r.cap=q.cap:=by
 cases r' with
 |none=>exact h.elim
 |some q=>exact ⟨q,rfl,h⟩
theorem gl.own {r r':Option Real} (h:gl r r') {sz off len:Nat} {v:Value} (hv:Ip r sz off len v):Ip r' sz off len v:=by
 cases r<;>cases r'<;>first|exact h.elim|skip
 ·exact hv
 ·obtain ⟨h1,h2,h3⟩:=h
  obtain ⟨ad,g1,g2,g3⟩:=hv
  exact ⟨ad,by rw [<-h3];exact g1,by rw [<-h3];exact g2,by rw [<-h1,<-h2,<-h3];exact g3⟩
structure OB.Tt (b b':OB):Prop where
 row: ∀sz n,b.row=some (sz,n)-> ∃n',b'.row=some (sz,n')/\n<=n'
 gz: ∀p,b.gz=some p->b'.gz=some p
 vH: ∀p,b.vH=some p->b'.vH=some p
 var: ∀tid vs,b= .var tid vs-> ∃Vd vs',b'= .var Vd vs'
 Vx: ∀v m,b= .Vx v m-> ∃m',b'= .Vx v m'
theorem OB.Tt.map (f:AC->AC) (b:OB):b.Tt (b.map f) where
 row:= λsz n h=>⟨n,by cases b<;>exact h,Ap _⟩
 gz:= λp h=>by cases b<;>exact h
 vH:= λp h=>by cases b<;>exact h
 var:= λtid vs h=>by subst h;exact ⟨_,_,rfl⟩
 Vx:= λv m h=>by subst h;exact ⟨_,rfl⟩
theorem OB.Tt.rfl' (b:OB):b.Tt b where
 row:= λ_sz n h=>⟨n,h,Ap _⟩
 gz:= λ_p h=>h
 vH:= λ_p h=>h
 var:= λ_tid _vs h=>⟨_,_,h⟩
 Vx:= λ_v _m h=>⟨_,h⟩
theorem OB.Tt.trans {a b c:OB} (h:a.Tt b) (k:b.Tt c):a.Tt c where
 row:= λsz n hr=>by
  obtain ⟨n1,h1,h2⟩:=h.row sz n hr
  obtain ⟨n2,h3,h4⟩:=k.row sz n1 h1
  exact ⟨n2,h3,by omega⟩
 gz:= λp hp=>k.gz p (h.gz p hp)
 vH:= λp hp=>k.vH p (h.vH p hp)
 var:= λtid vs hv=>by obtain ⟨t',v',h1⟩:=h.var tid vs hv;exact k.var t' v' h1
 Vx:= λv m hm=>by obtain ⟨m',h1⟩:=h.Vx v m hm;exact k.Vx v m' h1
theorem nT {f:AC->AC} {D Pt:Nat->Prop} (hf: ∀c,f c= .undef\/(f c=c/\(∀k∈c.refs,¬D k)/\ ∀k i j,c= .sub k i j\/c= .Kr k i j-> ¬Pt k)) (hp: ∀k,¬D k->gl (π k) (π' k))
  (hH: ∀k b,¬D k->Av H k=some b-> ∃b',Av H' k=some b'/\b.Tt b')
  (hg: ∀k r b,¬D k-> ¬Pt k->Av H k=some b->b.gz≠none->π k=some r->w'.heap[r.g]?=w.heap[r.g]?)
  (hc: ∀fr τ cs x,Cells w (Cx X.w0.heap.size X.Sc π fr) τ cs x->Cells w' (Cx X.w0.heap.size X.Sc π' fr) τ cs x): ∀c v,Ia X w π H c v->Ia X w' π' H' (f c) v:=by
 intro c v h
 rcases hf c with e|⟨e,hr,hs⟩
 ·rw [e];trivial
 rw [e]
 cases c with
 |data fr τ x=>obtain ⟨cs,h1,h2⟩:=h;exact ⟨cs,hc _ _ _ _ h1,h2⟩
 |own k off len=>
  obtain ⟨b,sz,n,h1,h0,h2,h3⟩:=h
  have hk:=hr k (by simp [AC.refs])
  obtain ⟨b',g1,g2⟩:=hH k b hk h1
  obtain ⟨n',g3,g4⟩:=g2.row sz n h0
  exact ⟨b',sz,n',g1,g3,by omega,(hp k hk).own h3⟩
 |Hs k i=>
  obtain ⟨r,tid,vs,h1,h2,h3⟩:=h
  have hk:=hr k (by simp [AC.refs])
  obtain ⟨b',g1,g2⟩:=hH k _ hk h1
  obtain ⟨Vd,vs',rfl⟩:=g2.var tid vs rfl
  obtain ⟨q,q1,q2,_⟩:=(h2▸hp k hk).some
  exact ⟨q,Vd,vs',g1,q1,by rw [<-q2];exact h3⟩
 |Ku k i=>
  obtain ⟨r,b,sz,n,h1,h0,h2,h3,h4⟩:=h
  have hk:=hr k (by simp [AC.refs])
  obtain ⟨b',g1,g2⟩:=hH k b hk h1
  obtain ⟨n',g3,g4⟩:=g2.row sz n h0
  obtain ⟨q,q1,q2,q3,_⟩:=(h3▸hp k hk).some
  exact ⟨q,b',sz,n',g1,g3,by omega,q1,by rw [<-q2,<-q3];exact h4⟩
 |sub k i c=>
  obtain ⟨r,b,sz,n,h1,h0,h2,h3,h4,h5⟩:=h
  have hk:=hr k (by simp [AC.refs])
  obtain ⟨b',g1,g2⟩:=hH k b hk h1
  obtain ⟨q,q1,q2,q3,_⟩:=(h2▸hp k hk).some
  exact ⟨q,b',sz,n,g1,g2.gz _ h0,q1,h3,h4,by rw [<-q2,<-q3,World.cell?_of_block (hg k r b hk (hs k i c (.inl rfl)) h1 (by rw [h0];simp) h2)];exact h5⟩
 |Kr k i c=>
  obtain ⟨r,b,n,sz,g,o,len,cap,h1,h0,h2,h3,h4,h5,h6⟩:=h
  have hk:=hr k (by simp [AC.refs])
  obtain ⟨b',g1,g2⟩:=hH k b hk h1
  obtain ⟨q,q1,q2,q3,_⟩:=(h2▸hp k hk).some
  exact ⟨q,b',n,sz,g,o,len,cap,g1,g2.vH _ h0,q1,h3,h4,by rw [<-q2,<-q3,World.cell?_of_block (hg k r b hk (hs k i c (.inr rfl)) h1 (by cases b<;>first|(cases h0;done)|simp [OB.gz]) h2)];exact h5,h6⟩
 |clo g Ec=>
  obtain ⟨us,h1,h2,h3⟩:=h
  refine ⟨us,h1,h2,λj p hpj=>?_⟩
  obtain ⟨r,tid,vs,h4,h5,h6⟩:=h3 j p hpj
  have hk:=hr p.1 (by simp only [AC.refs,Bj];exact ⟨p,Cd hpj,rfl⟩)
  obtain ⟨b',g1,g2⟩:=hH p.1 _ hk h4
  obtain ⟨Vd,vs',rfl⟩:=g2.var tid vs rfl
  obtain ⟨q,q1,q2,_⟩:=(h5▸hp p.1 hk).some
  exact ⟨q,Vd,vs',g1,q1,by rw [<-q2];exact h6⟩
 |Lb k=>
  obtain ⟨r,vt,m,h1,h2,h3⟩:=h
  have hk:=hr k (by simp [AC.refs])
  obtain ⟨b',g1,g2⟩:=hH k _ hk h1
  obtain ⟨m',rfl⟩:=g2.Vx vt m rfl
  obtain ⟨q,q1,q2,_⟩:=(h2▸hp k hk).some
  exact ⟨q,vt,m',g1,q1,by rw [<-q2];exact h3⟩
 |_=>exact h
theorem Vj (H0:List (Nat×OB)) (ls:List Nat) (n:Nat): ∀(H:List (Nat×OB)) (l:Nat),Av (dt H0 ls n H) l=(Av H l).map λb=>if ls.contains l then b.GM (bS n (Aif (Av H0 l))) else b
 | [],_=>rfl
 |(k,b)::r,l=>by
  simp only [dt,Av]
  split
  ·rename_i e;subst e;rfl
  ·exact Vj H0 ls n r l
theorem OB.zO (b:OB) (kp:Option (Nat×Nat)):b.Tt (b.GM kp):=by
 cases b with
 |Bn e te rows out kp0=>exact ⟨λsz n h=>⟨n,h,Ap _⟩,λp h=>h,λp h=>h,(λ_ _ h=>by cases h),(λ_ _ h=>by cases h)⟩
 |_=>exact OB.Tt.rfl' _
theorem fW (ls:List Nat): ∀(l m:List AV) (t:Nat),l.length=m.length->(∃k i c,l.getD t .undef= .at (.sub k i c)/\ls.contains k=true/\(Mg ls l m).getD t .undef= .at (.sub k i c))\/(Mg ls l m).getD t .undef=m.getD t .undef
 | [],m,t,_=>by cases m<;>exact .inr rfl
 |_::_,[],t,h=>by simp at h
 |a::l,v::m,t,h=>by
  have ih:= λt=>fW ls l m t (by simpa using h)
  have tail: ∀u,Mg ls (a::l) (v::m)=u::Mg ls l m->(t=0->(∃k i c,(a::l).getD t .undef= .at (.sub k i c)/\ls.contains k=true/\u= .at (.sub k i c))\/u=v)->
    (∃k i c,(a::l).getD t .undef= .at (.sub k i c)/\ls.contains k=true/\(Mg ls (a::l) (v::m)).getD t .undef= .at (.sub k i c))\/(Mg ls (a::l) (v::m)).getD t .undef=(v::m).getD t .undef:=by
   intro u e h0
   rw [e]
   rcases t with _|t
   ·rcases h0 rfl with ⟨k,i,c,h1,h2,h3⟩|h3
    ·exact .inl ⟨k,i,c,h1,h2,by simpa using h3⟩
    ·exact .inr (by simpa using h3)
   ·simpa only [Nv] using ih t
  cases a with
  | «at»c=>
   cases c with
   |sub k i c=>
    refine tail _ rfl λht=>?_
    subst ht
    by_cases hc:ls.contains k=true
    ·exact .inl ⟨k,i,c,rfl,hc,by rw [Ab hc]⟩
    ·exact .inr (by rw [Ai hc])
   |_=>exact tail _ rfl λ_=> .inr rfl
  |_=>exact tail _ rfl λ_=> .inr rfl
theorem uR {H:List (Nat×OB)} {ls:List Nat} {n:Nat} : ∀ {l:List AV} {t k i c:Nat},dC H ls n l=true->l.getD t .undef= .at (.sub k i c)->ls.contains k=true->i<n/\i<rT H k
 | [],t,k,i,c,_,h,_=>by simp at h
 |a::l,0,k,i,c,ho,h,hc=>by
  simp only [Xq] at h
  subst h
  simp only [dC,hc,Bool.not_true,Sw,Ag,Ns] at ho
  exact ho.1
 |a::l,t+1,k,i,c,ho,h,hc=>by
  refine uR (l:=l) (t:=t) (c:=c) ?_ (by simpa only [Nv] using h) hc
  cases a with
  | «at»d=>cases d with
   |sub _ _ _=>simp only [dC,Ag] at ho;exact ho.2
   |_=>exact ho
  |_=>exact ho
theorem KE {cp st:St} {a:Act} (h0:Bh X π cp a w) (h:Bh X π' st a w') {ls:List Nat} {n:Nat} (hk: ∀l∈ls,BP w w' (π l) (π' l) n) (ta: ∀l∈ls,nB cp.heap l=true)
  (bM:dC st.heap ls n cp.tmps=true):Bh X π' (m6 cp st ls n) a w'/\ ∀c v,Bm X w' π' st.heap c v->Bm X w' π' (m6 cp st ls n).heap c v:=by
 by_cases pa:ls= []
 ·subst pa;exact ⟨h,λ_ _ h=>h⟩
 have Pj:m6 cp st ls n= {tmps:=Mg ls cp.tmps st.tmps,heap:=dt cp.heap ls n st.heap} :=by
  cases ls with
  |nil=>exact absurd rfl pa
  |cons _ _=>rfl
 rw [Pj]
 have hg0: ∀l∈ls,∃e te rows out kp,Av cp.heap l=some (.Bn e te rows out kp):= λl hl=>by
  have:=ta l hl
  unfold nB at this
  split at this
  ·exact ⟨_,_,_,_,_,by assumption⟩
  ·cases this
 have srv: ∀k b,Av st.heap k=some b-> ∃b',Av (dt cp.heap ls n st.heap) k=some b'/\b.Tt b':= λk b hb=>by
  rw [Vj,hb]
  refine ⟨_,rfl,?_⟩
  dsimp only
  split
  ·exact OB.zO b _
  ·exact OB.Tt.rfl' b
 have hac:(∀fr τ cs x,Cells w' (Cx X.w0.heap.size X.Sc π' fr) τ cs x->Cells w' (Cx X.w0.heap.size X.Sc π' fr) τ cs x)-> ∀c v,Ia X w' π' st.heap c v->Ia X w' π' (dt cp.heap ls n st.heap) c v:= λhc=>
  nT (f:= λc=>c) (D:= λ_=>False) (Pt:= λ_=>False) (λc=> .inr ⟨rfl,λ_ _ h=>h,λ_ _ _ _ h=>h⟩) (λk _=>gl.rfl' _) (λk b _ hb=>srv k b hb) (λ_ _ _ _ _ _ _ _=>rfl) hc
 have h1:Bh X π' {tmps:=st.tmps.map (·.map λc=>c),heap:=dt cp.heap ls n st.heap} a w':=by
  refine h.nU rfl (gv:= λ_=>False) (λ_ hf=>hf.elim) (Li.refl _ _ _) (λ_ _ ho=>ho) h.1.sub h.1.place h.1.inj (λl hl Jl=>h.1.gZ l hl λh2=>Jl (by rw [Vj,h2];rfl)) hac (λm l b hb=>?_) (λl hl=>?_)
  ·rw [Vj] at hb
   cases h2:Av st.heap l with
   |none=>rw [h2] at hb;cases hb
   |some b0=>
    rw [h2] at hb
    simp only [Ak,Aa] at hb
    have hbk:=(h.1.heap l).Rz h2
    have qd:=hbk.move m (Ap _) (λr0 c h0 h1=>h.1.sub _ r0 c h0 h1) λ_ _ _ _ _=>rfl
    rw [show OB.map (λc=>c) b0=b0 from OB.EU b0] at qd
    split at hb
    ·rename_i hc
     have hl:l∈ls:=by simpa using hc
     cases b0 with
     |Bn e te rows out kp=>
      simp only [OB.GM] at hb
      subst hb
      refine ⟨qd.1,?_⟩
      obtain ⟨e0,te0,Agc,At7,kp0,hg⟩:=hg0 l hl
      have vq:=((h0.1.heap l).Rz hg).2
      rw [hg]
      simp only [Aif]
      have vK:=hk l hl
      cases kp0 with
      |none=>trivial
      |some p=>
       obtain ⟨l0,n0⟩:=p
       simp only [KeptAt,bS] at vq⊢
       cases yS:X.gZ l0 with
       |none=>
        cases hp:π l with
        |none=>
         rw [hp] at vK
         cases PF:π' l with
         |none=>trivial
         |some q=>rw [PF] at vK;exact vK.elim
        |some q=>rw [yS,hp] at vq;exact vq.elim
       |some r0=>
        cases hp:π l with
        |none=>rw [yS,hp] at vq;exact vq.elim
        |some q=>
         rw [yS,hp] at vq
         rw [hp] at vK
         cases PF:π' l with
         |none=>rw [PF] at vK;exact vK.elim
         |some q'=>
          rw [PF] at vK
          obtain ⟨k1,k2,k3,k4⟩:=vK
          obtain ⟨g1,g2,g3,g4⟩:=vq
          refine ⟨k1.trans g1,k2.trans g2,k3.trans g3,λj hj hc=>?_⟩
          have e1:=g4 j (by omega) hc
          have e2:=k4 j (by omega) (by omega)
          rw [g1,g2] at e2
          rw [<-e1,e2]
     |_=>simp only [OB.GM] at hb;subst hb;exact qd
    ·subst hb;exact qd
  ·rw [Vj] at hl
   cases h2:Av st.heap l with
   |none=>exact (h.1.heap l).emp h2
   |some b=>rw [h2] at hl;cases hl
 have XO: ∀c v,Bm X w' π' st.heap c v->Bm X w' π' (dt cp.heap ls n st.heap) c v:= λc v hv=>by
  have m:Move X w' w' π' π' st.heap (dt cp.heap ls n st.heap) (λc=>c):=⟨hac λ_ _ _ _ h=>h,λ_ _ _ _ h=>h⟩
  have:=m.av hv
  rwa [AC.map_id] at this
 refine ⟨⟨h1.1,⟨?_,h.2.defers,λt=>?_⟩⟩,XO⟩
 ·have: ∀(l m:List AV),(Mg ls l m).length=m.length:=by
   intro l
   induction l with
   |nil=>intro m;cases m<;>rfl
   |cons a l ih=>
    intro m
    cases m with
    |nil=>cases a with
     | «at»c=>cases c<;>rfl
     |_=>rfl
    |cons v m=>cases a with
     | «at»c=>cases c<;>simp only [Mg,Aw,ih m]
     |_=>simp only [Mg,Aw,ih m]
  show a.tmps.size=(Mg ls cp.tmps st.tmps).length
  rw [this];exact h.2.size
 ·show Bm X w' π' _ ((Mg ls cp.tmps st.tmps).getD t .undef) _
  rcases fW ls cp.tmps st.tmps t (by rw [<-h0.2.size,<-h.2.size]) with ⟨k,i,c,g1,g2,g3⟩|g
  ·rw [g3]
   have Tc:k∈ls:=by simpa using g2
   obtain ⟨i1,i2⟩:=uR bM g1 g2
   have hv:=h0.2.tmps t
   rw [show cp.get t=_ from g1] at hv
   obtain ⟨r,b,sz,n',e1,e2,e3,e4,⟨e5,e6⟩,e7⟩:=hv
   obtain ⟨e0,te0,Agc,At7,kp0,hg⟩:=hg0 k Tc
   rw [hg] at e1;cases e1
   simp only [OB.gz,Aa,Ae] at e2
   obtain ⟨rfl,rfl⟩:=e2
   have vK:=hk k Tc
   rw [e3] at vK
   cases PF:π' k with
   |none=>rw [PF] at vK;exact vK.elim
   |some q'=>
    rw [PF] at vK
    obtain ⟨k1,k2,k3,k4⟩:=vK
    have sZ:Agc.length<=r.cap:=by
     have:=((h0.1.heap k).Rz hg).1
     rw [e3] at this
     obtain ⟨_,_,_,_,_,_,h5,_⟩:=this
     exact h5
    unfold rT at i2
    split at i2
    ·rename_i e9 te9 Anr Ay8 kp9 hg9
     refine ⟨q',_,1,Anr.length,by rw [Vj,hg9];rfl,?_,PF,i2,⟨e5,e6⟩,?_⟩
     ·dsimp only
      split<;>rfl
     ·have kq:c=0:=by omega
      subst kq
      rw [k1,k2]
      rw [Fl,En] at e7⊢
      rw [k4 i i1 (by omega)];exact e7
    ·omega
  ·rw [g]
   exact XO _ _ (h.2.tmps t)
theorem pH {ins:List (Bool×CK)} {as:List AC} {pl:List Nat} {st:St} :(rq ins as pl st).tmps=st.tmps:=by
 unfold rq
 split
 ·rfl
 ·split<;>rfl
theorem MI {ins:List (Bool×CK)} {as:List AC} {pl:List Nat} {st:St} {m:Nat} (hm:m∉pl):Av (rq ins as pl st).heap m=Av st.heap m:=by
 unfold rq
 split
 ·rfl
 ·rename_i l r
  split
  ·exact Dx _ _ _ _ λe=>hm (e▸Fm)
  ·rfl
theorem UE {ins:List (Bool×CK)} {as:List AC} {l:Nat} {st:St} {tid:TypeId} {vs:List AC} (hl:Av st.heap l=some (.var tid vs)):Av (rq ins as [l] st).heap l=some (.var tid (gG ins vs as)):=by
 simp only [rq,St.at,hl]
 exact Ev _ _ _ _ hl
theorem xJ {α:Type} (ins:List (Bool×CK)) (as:List α):gG ins [] as= []:=by
 rcases ins with _|⟨⟨_|_,c⟩,r⟩<;>rfl
theorem pA {α:Type} : ∀(ins:List (Bool×CK)) (vs as:List α),(gG ins vs as).length=vs.length
 | [],vs,as=>by rw [gG];all_goals simp
 |p::r,[],as=>by rw [xJ]
 |(true,c)::r,v::vs,as=>by simp only [gG,Aw,pA r vs as]
 |(false,c)::r,v::vs,[]=>by rw [gG];all_goals simp
 |(false,c)::r,v::vs,a::as=>by simp only [gG,Aw,pA r vs as]
theorem TV {st:St} {a:Act} (h:Bh X π st a w) {s:MSpec} {mO:List AV} {vs:List Value} (hlen:mO.length=vs.length) (XO: ∀(i:Nat) c v,mO[i]?=some c->vs[i]?=some v->Bm X w π st.heap c v)
  {pl:List Nat} {cells:List AC} {rest:List AV} (he:QF st s mO=some (pl,cells,rest)):
  ∃(g:Nat) (cus yb:List Value),rest.length=yb.length/\(∀(i:Nat) c v,rest[i]?=some c->yb[i]?=some v->Bm X w π st.heap c v)/\Nk X w π st.heap cells cus/\
   ((s.ptr=none/\pl= []/\cells= []/\cus= []/\vs=yb)\/
    ∃p l q,s.ptr=some p/\pl= [l]/\π l=some q/\q.Cq q.g/\g=q.g/\Av st.heap l=some (.var p.1 cells)/\cells.length=p.2/\vs= .pointer (some ⟨g,0,none⟩)::yb/\w.heap[g]?=some (.cells cus.toArray p.1 (0,0))/\Gb X w π st.heap cells cus):=by
 unfold QF at he
 split at he
 ·rename_i hp
  simp only [Aa,Ae] at he
  obtain ⟨rfl,rfl,rfl⟩:=he
  exact ⟨0,[],vs,hlen,XO,trivial, .inl ⟨hp,rfl,rfl,rfl,rfl⟩⟩
 ·rename_i p hp
  split at he
  ·rename_i l i Av4
   split at he
   ·rename_i tid cs hl
    split at he
    ·rename_i hc
     obtain ⟨rfl,hc,rfl⟩:=hc
     simp only [Aa,Ae] at he
     obtain ⟨rfl,rfl,rfl⟩:=he
     unfold St.at at hl
     cases vs with
     |nil=>simp at hlen
     |cons v vs=>
      obtain ⟨r,Vd,vs',h1,h2,rfl⟩:=XO 0 _ v rfl rfl
      rw [hl] at h1;cases h1
      obtain ⟨r',h3,h4,cur,h5,h6⟩:=(h.1.heap l).Rz hl
      rw [h2] at h3;cases h3
      exact ⟨r.g,cur.toList,vs,by simpa using hlen,λi c v h7 h8=>XO (i+1) c v (by simpa using h7) (by simpa using h8),Nk.of h6, .inr ⟨p,l,r,hp,rfl,h2,h4,rfl,hl,hc,rfl,by simpa using h5,h6⟩⟩
    ·cases he
   ·cases he
  ·cases he
theorem kd {V:List Nat} {πc:Pi} {dead part:List Nat} (hπ: ∀l,l∉dead->π' l=π l) (ct: ∀l b sz n,l∉dead->Av H l=some b->b.row=some (sz,n)-> ∃b',Av H' l=some b'/\b'.row=some (sz,n)):
  ∀(ins:List (Bool×CK)) (k:Nat) (cells oC:List AC) (x:Ins.den ins) (us:List Value) (o:IOs.den ins) (cur st1:St) (news:List AC) (Xf cs:List Value),qU X w π V H πc k ins x (cells++oC) us->Wm ins cells=true->
   Iv ins o (cells++oC) cur=some st1->Et πc k ins o cells.length cs Xf->Nk X w' π' H' news Xf->Nk X w' π' H' (gG ins (cells.map (Cm dead part)) news) cs
 |ins,k,[],oC,x,us,o,cur,st1,news,Xf,cs,_,_,_,hb,_=>by
  have hb:cs= []:=by rcases ins with _|⟨⟨_|_,c⟩,r⟩<;>(try cases c)<;>simpa [Et] using hb
  rw [hb,List.map_nil,xJ]
  trivial
 | [],k,a::cells,oC,x,us,o,cur,st1,news,Xf,cs,_,hk,_,_,_=>by simp [Wm] at hk
 |(true, .Eh τ)::r,k,a::cells,oC,x,us,o,cur,st1,news,Xf,cs,_,hk,_,_,_=>by simp [Wm] at hk
 |(true, .part e te)::r,k,a::cells,oC,x,us,o,cur,st1,news,Xf,cs,_,hk,_,_,_=>by simp [Wm] at hk
 |(true, .Bn e te _)::r,k,a::cells,oC,x,us,o,cur,st1,news,Xf,cs,_,hk,_,_,_=>by simp [Wm] at hk
 |(true, .row e te)::r,k,a::cells,oC,x,us,o,cur,st1,news,Xf,cs,ht,hk,hp,hb,hn=>by
  cases a<;>simp only [Wm,Cz] at hk
  rename_i l off len
  cases us with
  |nil=>exact ht.elim
  |cons u0 us=>
  cases cs with
  |nil=>exact hb.elim
  |cons u cs=>
  obtain ⟨⟨_,h1⟩,h2⟩:=ht
  simp only [Ud] at h1
  obtain ⟨h3,rfl,rfl,fr,tr,h4⟩:=h1
  obtain ⟨h5,h6⟩:=hb
  simp only [Ti,Iv] at hp
  split at hp
  rotate_left
  ·cases hp
  rename_i an hpc
  have PB:List.length o.1=List.length x.1:=by
   simp only [cy] at hpc
   repeat' split at hpc
   all_goals first|(cases hpc;done)|(rename_i hc;exact hc.2.1)
  refine ⟨?_,kd hπ ct r (k+1) cells oC x.2 us o.2 an st1 news Xf cs h2 hk hp h6 hn⟩
  by_cases hd:l∈dead
  ·have:Cm dead part (.own l 0 (List.length x.1))= .undef:=by
    unfold Cm
    rw [Ab (by simp [AC.refs,hd])]
   rw [this];trivial
  ·rw [cJ (by simpa [AC.refs] using hd) (by intro l i j e;rcases e with e|e<;>cases e)]
   obtain ⟨b',g1,g2⟩:=ct l _ e.size (List.length x.1) hd h4 rfl
   refine ⟨b',e.size,List.length x.1,g1,g2,by omega,?_⟩
   rw [hπ l hd]
   rw [h3,PB] at h5
   cases hp:π l<;>(rw [hp] at h5;exact h5)
 |(true, .Ij e te)::r,k,a::cells,oC,x,us,o,cur,st1,news,Xf,cs,ht,hk,hp,hb,hn=>by
  cases a<;>simp only [Wm,Cz] at hk
  rename_i l off len
  cases us with
  |nil=>exact ht.elim
  |cons u0 us=>
  cases cs with
  |nil=>exact hb.elim
  |cons u cs=>
  obtain ⟨⟨_,h1⟩,h2⟩:=ht
  simp only [Ud] at h1
  obtain ⟨h3,rfl,rfl,h4⟩:=h1
  obtain ⟨h5,h6⟩:=hb
  simp only [Ti,Iv] at hp
  split at hp
  rotate_left
  ·cases hp
  rename_i an hpc
  have PB:List.length o.1=List.length x.1:=by
   simp only [cy] at hpc
   repeat' split at hpc
   all_goals first|(cases hpc;done)|(rename_i hc;exact hc.2.1)
  refine ⟨?_,kd hπ ct r (k+1) cells oC x.2 us o.2 an st1 news Xf cs h2 hk hp h6 hn⟩
  by_cases hd:l∈dead
  ·have:Cm dead part (.own l 0 (List.length x.1))= .undef:=by
    unfold Cm
    rw [Ab (by simp [AC.refs,hd])]
   rw [this];trivial
  ·rw [cJ (by simpa [AC.refs] using hd) (by intro l i j e;rcases e with e|e<;>cases e)]
   obtain ⟨b',g1,g2⟩:=ct l _ e.size (List.length x.1) hd h4 rfl
   refine ⟨b',e.size,List.length x.1,g1,g2,by omega,?_⟩
   rw [hπ l hd]
   rw [h3,PB] at h5
   cases hp:π l<;>(rw [hp] at h5;exact h5)
 |(false,c)::r,k,a::cells,oC,x,[],o,cur,st1,news,Xf,cs,ht,hk,hp,hb,hn=>ht.elim
 |(false,c)::r,k,a::cells,oC,x,u0::us,o,cur,st1,news,Xf,[],ht,hk,hp,hb,hn=>by cases c<;>exact hb.elim
 |(false,c)::r,k,a::cells,oC,x,u0::us,o,cur,st1,news,[],u::cs,ht,hk,hp,hb,hn=>by cases c<;>exact hb.elim
 |(false,c)::r,k,a::cells,oC,x,u0::us,o,cur,st1,[],u'::Xf,u::cs,ht,hk,hp,hb,hn=>hn.elim
 |(false,c)::r,k,a::cells,oC,x,u0::us,o,cur,st1,na::news,u'::Xf,u::cs,ht,hk,hp,hb,hn=>by
  have hb2:u=u'/\Et πc (k+1) r o cells.length cs Xf:=by cases c<;>exact hb
  obtain ⟨rfl,hb3⟩:=hb2
  have hp:Iv r o (cells++oC) cur=some st1:=by cases c<;>simpa only [Ti,Iv] using hp
  have hk:Wm r cells=true:=by cases c<;>simpa only [Wm] using hk
  exact ⟨hn.1,kd hπ ct r (k+1) cells oC x.2 us o cur st1 news Xf cs ht.2 hk hp hb3 hn.2⟩
theorem HC {V:List Nat} {πc:Pi} : ∀(cs:List (Bool×CK)) (k0:Nat) (x:Ins.den cs) (as:List AC) (us:List Value),k0+cs.length<100000->qU X w π V H πc k0 cs x as us-> ∀k l,(Dv false k,Loc.row l)∈Mh k0 cs as->πc (Dv false k)=(π l).map full
 | [],_,_,[],_,_,_,_,_,h=>by cases h
 | [],_,_,_::_,_,_,_,_,_,h=>by cases h
 |_::_,_,_,[],_,_,_,_,_,h=>by cases h
 |_::_,_,_,_::_,[],_,h,_,_,_=>h.elim
 |(io,c)::r,k0,x,a::as,u::us,hk,h,k,l,ht=>by
  simp only [Aw] at hk
  simp only [Mh] at ht
  rcases Ay.1 ht with ht|ht
  ·obtain ⟨⟨_,h1⟩,_⟩:=h
   cases c with
   |Eh τ=>cases a<;>simp [Qx,views] at ht
   |row e te=>
    cases a<;>simp [Qx] at ht
    obtain ⟨e1,rfl⟩:=ht
    simp only [Ud] at h1
    rw [e1];exact h1.1
   |Ij e te=>
    cases a<;>simp [Qx] at ht
    obtain ⟨e1,rfl⟩:=ht
    simp only [Ud] at h1
    rw [e1];exact h1.1
   |part e te=>
    cases a<;>simp [Qx] at ht
    obtain ⟨e1,rfl⟩:=ht
    simp only [Ud] at h1
    rw [e1];exact h1.2.1
   |Bn e te kp=>
    cases a<;>simp [Qx] at ht
    obtain ⟨e1,rfl⟩:=ht
    simp only [Ud] at h1
    rw [e1];exact h1.2.1
  ·exact HC r (k0+1) x.2 as us (by omega) h.2 k l ht
theorem qY {st:St} {a:Act} (h:Bh X π st a w) {f:FuncId} {s:MSpec} (hs:Cl P f s) (dst:Option Nat) (mO:List AV) (vs:List Value) (hlen:mO.length=vs.length)
  (XO: ∀(i:Nat) c v,mO[i]?=some c->vs[i]?=some v->Bm X w π st.heap c v) (av:AV) (st':St) (he:Xz st dst s mO=some (av,st')):
  Calls P f vs.toArray w λe w'=> ∃v,e= .returned v/\ ∃π',Bh X π' st' a w'/\Bm X w' π' st'.heap av v:=by
 unfold Xz at he
 split at he
 ·cases he
 rename_i pl cells rest As0
 split at he
 ·cases he
 rename_i oC oF
 split at he
 ·cases he
 rename_i x tks htk
 split at he
 rotate_left
 ·cases he
 rename_i Ki
 simp only [Ag,Ns] at Ki
 obtain ⟨⟨⟨⟨BI,tf⟩,hon⟩,gR⟩,Alj,SE⟩:=Ki
 have SE: ∀l∈pl,l∉(tks.map λt=>t.2.Xg)/\l∉Sz s tks (dst.getD 0):= λl hl=>by
  have:=Bb.1 SE l hl
  simp only [Er,<-Hx,Ke] at this
  exact ⟨λhm=>this (Bk _ hm),λhm=>this (Cf _ hm)⟩
 split at he
 ·cases he
 rename_i r o hfn
 split at he
 ·cases he
 rename_i st1 YJ
 obtain ⟨g,cus,yb,YE,Aqw,As3,hpt⟩:=TV h hlen XO As0
 obtain ⟨wD,rfl,IA,As2⟩:=ah s.Jj rest yb oC YE Aqw oF
 have hrc:=As3.append As2
 have Ro:oG s w g (cus++wD) vs:=by
  unfold oG
  rcases hpt with ⟨h1,_,_,h2,h3⟩|⟨p,l,q,h1,_,_,_,_,_,h2,h3,h4,h5⟩
  ·rw [h1];subst h2;exact ⟨h3,IA⟩
  ·rw [h1]
   have hl:cus.length=p.2:=h5.1.trans h2
   simp only
   rw [List.drop_append_of_le_length (by omega),List.take_append_of_le_length (by omega),List.take_of_length_le (by omega),List.drop_of_length_le (by omega)]
   refine ⟨h3,IA,by simp;omega,h4,λu hu=>?_⟩
   obtain ⟨i,hi,rfl⟩:=Bf.1 hu
   obtain ⟨u',h6,h7,_⟩:=h5.2 i (cells[i]'(by have:=h5.1;omega)) (Ac _)
   rw [Ac hi] at h6
   rw [Az h6];exact h7
 have SF: ∀l∈pl,∃p q,s.ptr=some p/\pl= [l]/\π l=some q/\q.Cq q.g/\g=q.g/\Av st.heap l=some (.var p.1 cells)/\cells.length=p.2:= λl hl=>by
  rcases hpt with ⟨_,h1,_⟩|⟨p,l',q,h1,h2,h3,h4,h5,h6,h7,_⟩
  ·rw [h1] at hl;cases hl
  ·rw [h2] at hl
   have:=Ad.1 hl
   subst this
   exact ⟨p,q,h1,h2,h3,h4,h5,h6,h7⟩
 have SB: ∀b,s.gv g b-> ∃l∈pl,∃q,π l=some q/\q.Cq b/\b=q.g:= λb ⟨h1,h2⟩=>by
  rcases hpt with ⟨h3,_⟩|⟨p,l',q,_,h4,h5,h6,h7,_⟩
  ·rw [h3] at h1;cases h1
  ·exact ⟨l',by rw [h4];exact Ad.2 rfl,q,h5,by rw [h2,h7];exact h6,h2.trans h7⟩
 obtain ⟨as,has⟩: ∃as,as=cells++oC:=⟨_,rfl⟩
 obtain ⟨us,YS⟩: ∃us,us=cus++wD:=⟨_,rfl⟩
 rw [<-has] at hrc htk YJ
 rw [<-YS] at hrc Ro
 let V:=(tks.filter λt=>t.2.reads).map λt=>t.2.Xg
 have hV: ∀t∈tks,t.2.reads=true->t.2.Xg∈V:= λt ht hr=>Bj.2 ⟨t,Bs.2 ⟨ht,hr⟩,rfl⟩
 have hV': ∀l∈V,∃t∈tks,t.2.reads=true/\t.2.Xg=l:= λl hl=>by
  obtain ⟨t,h1,h2⟩:=Bj.1 hl
  exact ⟨t,(Bs.1 h1).1,(Bs.1 h1).2,h2⟩
 clear_value V
 obtain ⟨etk,πc,hT,XU,Arc,Wl⟩:=uV h.1 (V:=V) s.ins 0 as us x tks (by omega) hrc htk hV
 have yQ:=Yk BI
 rw [etk] at yQ
 have eg: ∀b,Wa πc b-> ∃t∈Mh 0 s.ins as,t.2.reads=false/\ ∃q,π t.2.Xg=some q/\q.Cq b/\ ∀l i j,t.2= .sub l i j->b≠q.g:= λb ⟨c,q,h1,h2⟩=>by
  obtain ⟨t,t1,_,t3⟩:=Wl c q b h1 h2
  exact ⟨t,t1,t3⟩
 have JS: ∀b,Wa πc b->Wa π b:= λb hb=>let ⟨t,_,_,q,h1,h2,_⟩:=eg b hb;⟨_,q,h1,h2⟩
 have kv:ie πc (λb=>b<w.heap.size):=⟨λl q b h1 h2=>(h.1.own (JS b ⟨l,q,h1,h2⟩)).1,λl l' q q' b h1 h2 h3 h4=>by
  obtain ⟨t,t1,t2,_,p,t3,t4,_⟩:=Wl l q b h1 h3
  obtain ⟨t',t1',t2',_,p',t3',t4',_⟩:=Wl l' q' b h2 h4
  have:=zc yQ t1 t1' (h.1.apart t3 t3' t4 t4')
  rw [<-t2,<-t2',this]⟩
 have Akz: ∀k l,(Dv false k,Loc.row l)∈Mh 0 s.ins as->πc (Dv false k)=(π l).map full:= λk l ht=>
  HC s.ins 0 x as us (by omega) hT k l ht
 have Amn: ∀b,Wa πc b->Pb X π V b:= λb hb=> .inl ⟨JS b hb,λl hl r' hr hf=>by
  obtain ⟨t,t1,t0,q,t3,t4,_⟩:=eg b hb
  obtain ⟨t',t1',t2',rfl⟩:=hV' l hl
  rw [etk] at t1'
  have:=zc yQ t1 t1' (h.1.apart t3 hr t4 hf)
  subst this
  rw [t0] at t2';cases t2'⟩
 let S:Nat->Prop:= λb=> ¬Wa πc b/\Pb X π V b
 have hS: ∀b,S b->b<w.heap.size/\ ¬Wa πc b:= λb hb=>⟨by
  rcases hb.2 with h1|h1
  ·exact (h.1.own h1.1).1
  ·exact Ef (h.1.sc b h1).1 h.1.below.size,hb.1⟩
 have Adn: ∀l∈pl,∀t∈Mh 0 s.ins as,t.2.Xg≠l:= λl hl t ht e=>(SE l hl).1 (Bj.2 ⟨t,etk▸ht,e⟩)
 have hSg:s.ptr.isSome=true->S g:= λhps=>by
  obtain ⟨l,hl,q,h1,h2,h3⟩:=SB g ⟨hps,rfl⟩
  have hno: ¬Wa πc g:= λhb=>by
   obtain ⟨t,t1,_,q',t3,t4,_⟩:=eg g hb
   exact Adn l hl t t1 (h.1.apart t3 h1 t4 h2)
  refine ⟨hno, .inl ⟨⟨l,q,h1,h2⟩,λl' Mb r' kx hf=>?_⟩⟩
  obtain ⟨t',t1',_,rfl⟩:=hV' l' Mb
  rw [etk] at t1'
  exact Adn l hl t' t1' (h.1.apart kx h1 hf h2)
 refine (hs.calls w S πc us x r o g vs Ro hSg (eR.Jr (λb hb=>hb.elim (Amn b) λh=>h.2) s.ins 0 x us (hT.Amv s.ins 0 x as us)) kv hS Arc hfn).mono ?_
 rintro e w' ⟨v,Xf,BN,rfl,fk,qc,Ad7,yN,Aly,YI,Aia,xg⟩
 obtain ⟨ρ,Adt,JR,YH,Aff⟩: ∃ρ:Pi,(∀l,ρ l=(BN l).map full)/\Jz w' (km S πc BN) ρ 0 s.outs r Xf/\ie ρ (λb=>b<w'.heap.size/\(w.heap.size<=b\/ ∃l q,l<Bl/\πc l=some q/\q.Cq b))/\ ∀l q,ρ l=some q->q.cl=q.Cq:=by
  have un: ∀l q,(BN l).map full=some q-> ∃q0,BN l=some q0/\q=full q0:= λl q hq=>by
   cases hp:BN l with
   |none=>rw [hp] at hq;cases hq
   |some q0=>rw [hp] at hq;exact ⟨q0,rfl,(Az hq).symm⟩
  refine ⟨λl=>(BN l).map full,λ_=>rfl,Jz.full s.outs 0 r Xf Aly,⟨λl q b h1 h2=>?_,λl l' q q' b h1 h2 h3 h4=>?_⟩,λl q h1=>?_⟩
  ·obtain ⟨q0,h5,rfl⟩:=un l q h1
   exact YI.aj l q0 b h5 h2
  ·obtain ⟨q0,h5,rfl⟩:=un l q h1
   obtain ⟨q0',h6,rfl⟩:=un l' q' h2
   exact YI.inj l l' q0 q0' b h5 h6 h3 h4
  ·obtain ⟨q0,_,rfl⟩:=un l q h1
   rfl
 refine ⟨v,rfl,?_⟩
 split at he
 ·cases he
 rename_i av0 gS
 split at he
 rotate_left
 ·cases he
 rename_i Yf
 simp only [Aa,Ae] at he
 obtain ⟨rfl,rfl⟩:=he
 let D1:Nat->Prop:=if s.flat then λ_=>True else km S πc BN
 have Arf:Ms w' D1 πc 0 s.ins o:=by
  show Ms w' (if s.flat then λ_=>True else km S πc BN) πc 0 s.ins o
  split
  ·rename_i hf
   unfold MSpec.flat at hf
   simp only [Ag] at hf
   exact Ms.any s.ins 0 o hf.2 yN
  ·exact yN
 have Alz:Jz w' D1 ρ 0 s.outs r Xf:=by
  show Jz w' (if s.flat then λ_=>True else km S πc BN) ρ 0 s.outs r Xf
  split
  ·rename_i hf
   unfold MSpec.flat at hf
   simp only [Ag] at hf
   exact Jz.any s.outs 0 r Xf hf.1 JR
  ·exact JR
 obtain ⟨q1,q2,q3,q4⟩:=uc (D:=D1) (X:=X) (π:=π) (H:=st.heap) h.1 Ad7.size (tks:=Mh 0 s.ins as) (πc:=πc) (λt ht q b hq hb Lr hn=>Ad7.block b Lr λJQ=>by
   rcases JQ with ⟨c,r',h1,h2⟩|hg
   rotate_left
   ·obtain ⟨l,hl,q',h1,h2,_⟩:=SB b hg
    exact Adn l hl t ht (h.1.apart hq h1 hb h2)
   obtain ⟨t',t1,t2,_,p,t3,t4,_⟩:=Wl c r' b h1 h2
   have:=zc yQ ht t1 (h.1.apart hq t3 hb t4)
   subst this
   exact hn r' (t2▸h1) h2) s.ins 0 x as us o st st1 (by omega) (λ_ h=>h) yQ hT Arf YJ (λ_ _=>rfl)
 have Ai2: ∀t∈Mh 0 s.ins as,t.2.reads=true->t.1<Bl:=by
  have: ∀(cs:List (Bool×CK)) (k:Nat) (as:List AC),k+cs.length<100000-> ∀t∈Mh k cs as,t.2.reads=true->t.1<Bl:=by
   intro cs
   induction cs with
   |nil=>intro k as _ t ht;cases as<;>cases ht
   |cons p r ih=>
    intro k as hk t ht hr
    simp only [Aw] at hk
    cases as with
    |nil=>cases ht
    |cons a as=>
     simp only [Mh] at ht
     rcases Ay.1 ht with ht|ht
     ·rcases GZ ht with ⟨_,h1⟩|⟨h1,_⟩
      ·rw [hr] at h1;cases h1
      ·rw [h1];exact fL (by omega)
     ·exact ih (k+1) as (by omega) t ht hr
  exact this s.ins 0 as (by omega)
 let d:=dst.getD 0
 let ks:=Sz s tks d
 let dead:=mV tks++ks++(if s.flat then [] else AX tks)
 let part:=whole tks
 have As6:s.outs.length+(mn s d).length=s.Va:=by unfold MSpec.Va mn;cases s.rp<;>rfl
 obtain ⟨Ahq,Aro,Afo⟩:ks.length=s.Va/\ks.Nodup/\ ∀l∈ks,l<Bl:=by
  have:=KH tf
  rw [As6] at this
  exact this
 have hno:s.outs.length<=s.Va:=by unfold MSpec.Va;omega
 have hvk: ∀tid,s.rp=some tid->Ea ks s.outs.length=Tx d/\s.Va=s.outs.length+1:= λtid Yg=>by
  have h1:s.Va=s.outs.length+1:=by unfold MSpec.Va;rw [Yg]
  refine ⟨?_,h1⟩
  have h2:ks=mR s tks d++ [Tx d]:=by show mR s tks d++mn s d=_;unfold mn;rw [Yg]
  have h3:(mR s tks d).length=s.outs.length:=by rw [h2] at Ahq;simp at Ahq;omega
  rw [Sa (by rw [Ahq];omega)]
  simp only [h2]
  rw [List.getElem_append_right (by omega)]
  simp [h3]
 have YD:=CN Aro Afo
 have Arm: ∀j,j<s.Va->Ea ks j<Bl:= λj hj=>Afo _ (mem_keys.2 ⟨j,by omega,rfl⟩)
 let π':Pi:= λl=>match (List.range s.Va).find? λj=>decide (Ea ks j=l) with
  |some j=>ρ (Kv j)
  |none=>if l∈dead then none else π l
 have vJ: ∀j,j<s.Va->π' (Ea ks j)=ρ (Kv j):= λj hj=>by
  show (match (List.range s.Va).find? λi=>decide (Ea ks i=Ea ks j) with|some i=>ρ (Kv i)|none=>_)=_
  cases hf:(List.range s.Va).find? λi=>decide (Ea ks i=Ea ks j) with
  |none=>
   have:=List.find?_eq_none.1 hf j (Es.2 hj)
   simp at this
  |some i=>
   have:=List.find?_some hf
   rw [YD i j (Ik this)]
 have td: ∀j,j<s.Va->Ea ks j∈dead:= λj hj=>Bk _ (Cf _ (mem_keys.2 ⟨j,by omega,rfl⟩))
 have yO: ∀l,(¬ ∃j,j<s.Va/\l=Ea ks j)->π' l=if l∈dead then none else π l:= λl hl=>by
  show (match (List.range s.Va).find? λi=>decide (Ea ks i=l) with|some i=>ρ (Kv i)|none=>_)=_
  cases hf:(List.range s.Va).find? λi=>decide (Ea ks i=l) with
  |none=>rfl
  |some i=>
   have h1:=List.find?_some hf
   exact absurd ⟨i,Es.1 (List.mem_of_find?_eq_some hf),(Ik h1).symm⟩ hl
 have YV: ∀l,l∉dead->π' l=π l:= λl hl=>by
  rw [yO l (λ⟨j,h1,h2⟩=>hl (h2▸td j h1)),Ai hl]
 have hD1: ∀b,Wa π' b\/X.Sc b->D1 b:=by
  intro b hb
  show (if s.flat then λ_=>True else km S πc BN) b
  split
  ·trivial
  rename_i hnf
  rcases hb with ⟨l,q,hl,hf⟩|hb
  ·by_cases hk: ∃j,j<s.Va/\l=Ea ks j
   ·obtain ⟨j,hj,rfl⟩:=hk
    rw [vJ j hj,Adt] at hl
    cases hp:BN (Kv j) with
    |none=>rw [hp] at hl;cases hl
    |some q0=>rw [hp] at hl;simp only [Ak,Aa] at hl;subst hl;exact .inr (.inr ⟨Kv j,q0,hp,hf⟩)
   ·have e0:π' l=if l∈dead then none else π l:=yO l hk
    rw [e0] at hl
    split at hl
    ·cases hl
    ·rename_i Adk
     by_cases ho:Wa πc b
     ·obtain ⟨c,q',hc,hcb⟩:=ho
      obtain ⟨t,t1,t2,t0,p,t3,t4,_⟩:=Wl c q' b hc hcb
      have yP:=h.1.apart hl t3 hf t4
      refine .inr (.inl ⟨c,q',Bu λhn=>?_,hc,hcb⟩)
      exact Adk (Bk _ (Bk _ (er.2 ⟨t,etk▸t1,⟨by rw [t2];omega,t0⟩,yP.symm⟩)))
     ·refine .inl ⟨ho, .inl ⟨⟨l,q,hl,hf⟩,λl0 hl0 r0 hr0 hf0=>?_⟩⟩
      have:=h.1.apart hl hr0 hf hf0
      subst this
      exact Adk (Cf _ (by rw [Ai hnf];exact tK.2 (hV' l hl0)))
  ·refine .inl ⟨λho=>?_, .inr hb⟩
   have h1:=h.1.sc b hb
   rcases (h.1.own (JS b ho)).2 with h2|h2
   ·omega
   ·exact h1.2 h2
 have hpd: ∀l∈pl,l∉dead:= λl hl hd=>by
  rcases Ay.1 hd with hd|hd
  ·rcases Ay.1 hd with hd|hd
   ·obtain ⟨t,ht,_,e⟩:=er.1 hd
    exact (SE l hl).1 (Bj.2 ⟨t,ht,e⟩)
   ·exact (SE l hl).2 hd
  ·split at hd
   ·cases hd
   ·obtain ⟨t,ht,_,e⟩:=tK.1 hd
    exact (SE l hl).1 (Bj.2 ⟨t,ht,e⟩)
 have Ahp: ∀j,j<s.Va->Ea ks j∉pl:= λj hj hp=>hpd _ hp (td j hj)
 let bv:Option OB:=s.rp.map λtid=> .var tid ((bX (Ea ks) 0 s.outs r).drop s.aI)
 let H1:=(rq s.ins (bX (Ea ks) 0 s.outs r) pl (st1.cI dead part)).heap
 have hH1: ∀l,l∉pl->Av H1 l=if l∈dead then none else (Av st1.heap l).map (OB.map (Cm dead part)):= λl hl=>by
  show Av (rq _ _ _ _).heap l=_
  rw [MI hl]
  show Av (Xw (st1.heap.map λp=>(p.1,p.2.map (Cm dead part))) dead) l=_
  rw [Nz,Ph]
 let H2:=DY H1 (Tx d) bv
 have hvd: ∀tid,s.rp=some tid->Tx d∈dead/\Tx d∉pl:= λtid Yg=>by
  obtain ⟨e1,e2⟩:=hvk tid Yg
  rw [<-e1]
  exact ⟨td _ (by omega),Ahp _ (by omega)⟩
 have Akv: ∀l,(∀tid,s.rp=some tid->l≠Tx d)->Av H2 l=Av H1 l:= λl hl=>by
  show Av (DY H1 (Tx d) (s.rp.map _)) l=_
  cases HZ:s.rp with
  |none=>rfl
  |some tid=>exact Px _ _ _ _ (hl tid HZ)
 have Aqh: ∀tid,s.rp=some tid->Av H2 (Tx d)=some (.var tid ((bX (Ea ks) 0 s.outs r).drop s.aI)):= λtid Yg=>by
  show Av (DY H1 (Tx d) (s.rp.map _)) (Tx d)=_
  rw [Yg]
  exact Ra _ _ _ (by rw [hH1 _ (hvd tid Yg).2,Ab (hvd tid Yg).1])
 have hkv: ∀j,j<s.outs.length-> ∀tid,s.rp=some tid->Ea ks j≠Tx d:= λj hj tid Yg e=>by
  have:=YD j s.outs.length (e.trans (hvk tid Yg).1.symm)
  omega
 have hH2: ∀l,l∉pl->(∀tid,s.rp=some tid->l≠Tx d)->Av H2 l=if l∈dead then none else (Av st1.heap l).map (OB.map (Cm dead part)):= λl hl hv=>by
  rw [Akv l hv,hH1 l hl]
 let H':=Yl (OP st (mV tks)) (Ea ks) 0 s.outs r H2
 obtain ⟨n1,n2,n3⟩:=qA (D:=D1) (X:=X) (key:=Ea ks) YD (fr:=OP st (mV tks)) (ρ:=ρ) s.outs 0 r Xf H2 Alz (λj _ hj=>by
  rw [hH2 _ (Ahp j (by omega)) (hkv j (by omega)),Ab (td j (by omega))])
 have oZ: ∀l,l∉dead->l∉pl->Av H' l=(Av st1.heap l).map (OB.map (Cm dead part)):= λl hl re=>by
  show Av (Yl _ _ _ _ _ _) l=_
  rw [n1 l λj _ hj e=>hl (e▸td j (by omega)),hH2 l re (λtid Yg e=>hl (e▸(hvd tid Yg).1)),Ai hl]
 have Ad3: ∀l,l∈dead->(∀j,j<s.Va->l≠Ea ks j)->Av H' l=none:= λl hl hj=>by
  show Av (Yl _ _ _ _ _ _) l=_
  rw [n1 l λj _ h2=>hj j (by omega),hH2 l (λhp=>hpd l hp hl) (λtid Yg e=>hj s.outs.length (by have:=(hvk tid Yg).2;omega) (e.trans (hvk tid Yg).1.symm)),Ab hl]
 have newAt: ∀l b',Av H' l=some b'->(l∈dead\/Av st.heap l=none)-> ∃j,j<s.Va/\l=Ea ks j:=by
  intro l b' hb hd
  refine Bu λhn=>?_
  have oE: ∀j,j<s.Va->l≠Ea ks j:= λj hj e=>hn ⟨j,hj,e⟩
  rcases Classical.em (l∈dead) with xc|xc
  ·rw [Ad3 l xc oE] at hb;cases hb
  ·rcases hd with hd|hd
   ·exact xc hd
   ·rw [oZ l xc (λhp=>by obtain ⟨_,_,_,_,_,_,_,h1,_⟩:=SF l hp;rw [hd] at h1;cases h1)] at hb
    have:Av st1.heap l=none:=by
     by_cases hi: ∃t∈Mh 0 s.ins as,t.2.Xg=l
     ·obtain ⟨t,ht,e⟩:=hi
      by_cases Lr:t.1<Bl
      ·rw [<-e,q3 t ht Lr,e];exact hd
      ·obtain ⟨b0,_,h1,_⟩:=q4 t ht Lr
       rw [e,hd] at h1;cases h1
     ·rw [q2 l λt ht e=>hi ⟨t,ht,e.symm⟩];exact hd
    rw [this] at hb;cases hb
 have Ahe: ∀k,OP st (mV tks)=true-> ∀q,ρ (Kv k)=some q->q.Cq q.g->X.w0.heap.size<=q.g:=by
  intro k yM q hq hg
  rcases (YH.aj _ q _ hq hg).2 with h1|⟨c,p,h1,h2,h3⟩
  ·exact Lg h.1.below.size h1
  ·obtain ⟨t,t1,t2,t0,p',t3,t4,_⟩:=Wl c p _ h2 h3
   have hm:t.2.Xg∈mV tks:=er.2 ⟨t,etk▸t1,⟨by rw [t2];exact h1,t0⟩,rfl⟩
   have:=Bb.1 yM _ hm
   split at this
   ·rename_i fr tr e te xs hl
    unfold St.at at hl
    have hb:=(h.1.heap t.2.Xg).Rz hl
    simp only [Cg,Ks,t3] at hb
    rw [hb.1.2.1 _ t4]
    exact hb.1.2.2 this
   ·cases this
 have Ahc: ∀k q,ρ (Kv k)=some q->k<s.outs.length->q.Cq q.g:=by
  intro k q hq hk
  exact Jz.Af0 s.outs 0 r Xf JR k (Kw _) ((Cb _).symm▸hk) q hq
 have hinv: ∀l,l∉dead->(∃t∈Mh 0 s.ins as,t.2.reads=false/\t.2.Xg=l)->mI X D1 w' π st.heap st1.heap l:=by
  rintro l hd ⟨t,ht,h0,rfl⟩
  by_cases Lr:t.1<Bl
  ·exact absurd (Bk _ (Bk _ (er.2 ⟨t,etk▸ht,⟨Lr,h0⟩,rfl⟩))) hd
  ·exact q4 t ht Lr
 have yR: ∀l,(¬ ∃t∈Mh 0 s.ins as,t.2.reads=false/\t.2.Xg=l)->Av st1.heap l=Av st.heap l:= λl hn=>by
  by_cases hi: ∃t∈Mh 0 s.ins as,t.2.Xg=l
  ·obtain ⟨t,ht,rfl⟩:=hi
   have hr:t.2.reads=true:=by
    cases h0:t.2.reads with
    |true=>rfl
    |false=>exact absurd ⟨t,ht,h0,rfl⟩ hn
   exact q3 t ht (Ai2 t ht hr)
  ·exact q2 l λt ht e=>hi ⟨t,ht,e.symm⟩
 have Af8: ∀l∈pl,∀p,s.ptr=some p->Av H' l=some (.var p.1 (gG s.ins (cells.map (Cm dead part)) (bX (Ea ks) 0 s.outs r))):= λl hl p hp=>by
  obtain ⟨p',q,h1,h2,_,_,_,h3,_⟩:=SF l hl
  rw [hp] at h1;cases h1
  show Av (Yl _ _ _ _ _ _) l=_
  rw [n1 l λj _ hj e=>Ahp j (by omega) (e▸hl),Akv l (λtid Yg e=>(hvd tid Yg).2 (e▸hl))]
  show Av (rq _ _ _ _).heap l=_
  rw [h2]
  refine UE ?_
  show Av (Xw (st1.heap.map λp=>(p.1,p.2.map (Cm dead part))) dead) l=_
  rw [Nz,Ph,Ai (hpd l hl),yR l (λ⟨t,ht,_,e⟩=>Adn l hl t ht e),h3]
  rfl
 have Afq: ∀j,j<s.Va->s.outs.length<=j-> ∃tid,s.rp=some tid/\j=s.outs.length:= λj h1 h2=>by
  cases HZ:s.rp with
  |none=>unfold MSpec.Va at h1;rw [HZ] at h1;simp at h1;omega
  |some tid=>exact ⟨tid,rfl,by have:=(hvk tid HZ).2;omega⟩
 have hHv: ∀tid,s.rp=some tid->Av H' (Tx d)=some (.var tid ((bX (Ea ks) 0 s.outs r).drop s.aI)):= λtid Yg=>by
  show Av (Yl _ _ _ _ _ _) _=_
  rw [n1 _ λj _ hj e=>hkv j (by omega) tid Yg e.symm,Aqh tid Yg]
 suffices All:Bh X π' (lG st st1 d s pl tks r) a w'/\Bm X w' π' (lG st st1 d s pl tks r).heap av0 v by
  obtain ⟨m1,m2⟩:=All
  have pa: ∀(kj:List (Nat×Nat)) (l:Nat),l∈bR st.heap ks tks kj->nB st.heap l=true/\ ∃k j t,(k,j)∈kj/\t∈tks/\t=(Dv false k,Loc.row l)/\ks[j]?=some l:=by
   intro kj
   induction kj with
   |nil=>intro l hl;cases hl
   |cons p kj ih=>
    intro l hl
    obtain ⟨k,j⟩:=p
    have up:l∈bR st.heap ks tks kj->nB st.heap l=true/\ ∃k' j' t,(k',j')∈(k,j)::kj/\t∈tks/\t=(Dv false k',Loc.row l)/\ks[j']?=some l:= λhl=>by
     obtain ⟨h1,k',j',t,h2,h3⟩:=ih l hl
     exact ⟨h1,k',j',t,Ao _ h2,h3⟩
    simp only [bR] at hl
    split at hl
    ·rename_i x0 l1 l2 h1 h2
     split at hl
     ·rename_i hc
      simp only [Ag] at hc
      rcases Bg.1 hl with rfl|hl
      ·have:=List.find?_some h1
       have e1:=Kg this
       have e2:=Kg hc.1
       dsimp only at e1
       exact ⟨hc.2,k,j,_,Fm,List.mem_of_find?_eq_some h1,by rw [e1],by rw [h2,e2]⟩
      ·exact up hl
     ·exact up hl
    ·exact up hl
  obtain ⟨r1,r2⟩:=KE h m1 (ls:=bR st.heap ks tks s.keeps) (n:=s.Ft x) (λl hl=>by
   obtain ⟨_,k,j,t,h1,h2,h3,h4⟩:=pa s.keeps l hl
   have hj:j<ks.length:=(An.1 h4).1
   have WC:Ea ks j=l:=by
    rw [Sa hj]
    rw [Ac hj] at h4
    exact Az h4
   have vK:=xg (k,j) h1
   rw [show π' l=ρ (Kv j) by rw [<-WC];exact vJ j (by omega),Adt]
   have hc:πc (Dv false k)=(π l).map full:=Akz k l (by rw [<-h3,<-etk];exact h2)
   dsimp only at vK
   rw [hc] at vK
   cases hp:π l<;>cases hq:BN (Kv j)<;>(rw [hp,hq] at vK;exact vK)) (λl hl=>(pa s.keeps l hl).1) Yf
  exact ⟨π',r1,r2 av0 v m2⟩
 refine ⟨?_,?_⟩
 ·have hx:=Bh.Agu (π':=π') (H':=H') (dead:=dead) (part:=part) (inv:= λl=>(∃t∈Mh 0 s.ins as,t.2.reads=false/\t.2.Xg=l)\/l∈pl) (gv:= λb=>Wa πc b\/s.gv g b) h (λb hb=>by
    rcases hb with hb|hb
    ·obtain ⟨t,h1,h0,q,h2,h3,_⟩:=eg b hb
     exact ⟨_,q, .inl ⟨t,h1,h0,rfl⟩,h2,h3⟩
    ·obtain ⟨l,hl,q,h1,h2,_⟩:=SB b hb
     exact ⟨l,q, .inr hl,h1,h2⟩) Ad7 (λl b0 hd h0=>⟨YV l hd,?_⟩) (λl b' hb hd=>?_) (λl hl=>?_) (λm q hd hp hm hxa=>?_)
  ·have:({tmps:=(rq s.ins (bX (Ea ks) 0 s.outs r) pl (st1.cI dead part)).tmps,heap:=H'} :St)= {tmps:=st.tmps.map (·.map (Cm dead part)),heap:=H'} :=by
    rw [pH]
    show ({tmps:=st1.tmps.map (·.map (Cm dead part)),heap:=H'} :St)=_
    rw [q1]
   show Bh X π' ({tmps:=(rq s.ins (bX (Ea ks) 0 s.outs r) pl (st1.cI dead part)).tmps,heap:=H'} :St) a w'
   rw [this]
   exact hx
  ·by_cases WB:l∈pl
   ·obtain ⟨p,q,h1,h2,h3,h4,h5,h6,h7⟩:=SF l WB
    rw [h0] at h6;cases h6
    have vo:=Af8 l WB p h1
    refine .inr ⟨_,vo,⟨rfl,by rw [pA]⟩,λm=>?_⟩
    unfold lC at qc
    rw [h1] at qc
    obtain ⟨cs,k1,k2,k3⟩:=qc
    rw [<-h7] at k3
    refine ⟨q,h3,h4,cs.toArray,by rw [<-h5];exact k1,?_⟩
    refine Nk.to (kd (H:=st.heap) YV (λl1 b1 sz n hd1 hb1 SH=>?_) s.ins 0 cells oC x us o st st1 (bX (Ea ks) 0 s.outs r) Xf cs (has▸hT) Alj (has▸YJ) k3 (n3 π' hD1 (λj _ hj=>vJ j (by omega)))) (by simpa using k2)
    have hnp:l1∉pl:= λhp=>by
     obtain ⟨_,_,_,_,_,_,_,h8,_⟩:=SF l1 hp
     rw [hb1] at h8;cases h8;cases SH
    by_cases hi: ∃t∈Mh 0 s.ins as,t.2.reads=false/\t.2.Xg=l1
    ·obtain ⟨b1,b',e1,e2,e3,e4,e5,e6⟩:=hinv l1 hd1 hi
     rw [hb1] at e1;cases e1
     exact ⟨b',by rw [oZ l1 hd1 hnp,e2];simp [e4],by rw [e5.row];exact SH⟩
    ·exact ⟨_,by rw [oZ l1 hd1 hnp,yR l1 hi,hb1];rfl,by rw [OB.zL];exact SH⟩
   by_cases hi: ∃t∈Mh 0 s.ins as,t.2.reads=false/\t.2.Xg=l
   ·obtain ⟨b1,b',e1,e2,e3,e4,e5,e6⟩:=hinv l hd hi
    rw [h0] at e1;cases e1
    exact .inr ⟨b',by rw [oZ l hd WB,e2];simp [e4],by rw [e3];exact e5,λ_=>e6 π' H' hD1⟩
   ·exact .inl ⟨λhh=>hh.elim hi WB,by rw [oZ l hd WB,yR l hi,h0];rfl⟩
  ·obtain ⟨j,hj,rfl⟩:=newAt l b' hb hd
   refine ⟨Arm j hj,?_,λq b hq=>?_⟩
   ·rw [vJ j hj]
    rcases Nat.lt_or_ge j s.outs.length with hjo|hjo
    ·rcases n2 j (Kw _) (by omega) with ⟨e1,_⟩|⟨b2,e1,e2⟩
     ·rw [show Av H' (Ea ks j)=none from e1] at hb;cases hb
     ·rw [show Av H' (Ea ks j)=some b2 from e1] at hb;cases hb
      exact e2 X π' H' (λhf q hq=>Ahe j hf q hq (Ahc j q hq hjo)) hD1
    ·obtain ⟨tid,Yg,hj0⟩:=Afq j hj hjo
     subst hj0
     rw [(hvk tid Yg).1,hHv tid Yg] at hb;cases hb
     unfold sm at fk
     rw [Yg] at fk
     obtain ⟨q,y1,y2,y3,y4,_⟩:=fk
     rw [Adt,y1]
     exact ⟨full q,rfl,y2,_,y3,Nk.to (Nk.take s.aI (n3 π' hD1 (λj _ hj=>vJ j (by omega)))).2 (by simpa using y4)⟩
   ·rw [vJ j hj] at hq
    have Qo:=Aff _ q hq
    refine ⟨λhf=>by rw [Qo];exact hf,λhf=>?_⟩
    rw [Qo] at hf
    obtain ⟨h1,h2⟩:=YH.aj _ q b hq hf
    refine ⟨h1,h2.imp id ?_,λl2 r2 RZ PH hf2=>?_⟩
    ·rintro ⟨c,p,h3,h4,h5⟩
     obtain ⟨t,t1,t2,t0,p',t3,t4,_⟩:=Wl c p b h4 h5
     exact ⟨t.2.Xg,p',Bk _ (Bk _ (er.2 ⟨t,etk▸t1,⟨by rw [t2];exact h3,t0⟩,rfl⟩)),t3,t4⟩
    ·by_cases hk: ∃j,j<s.Va/\l2=Ea ks j
     ·obtain ⟨j2,hj2,rfl⟩:=hk
      rw [vJ j2 hj2] at PH
      rw [Aff _ r2 PH] at hf2
      have:=YH.inj _ _ r2 q b PH hq hf2 hf
      unfold Kv at this
      have:j2=j:=by omega
      rw [this]
     ·have e0:π' l2=if l2∈dead then none else π l2:=yO l2 hk
      rw [e0] at PH
      split at PH
      ·cases PH
      ·rename_i Adk
       rcases RZ with RZ|RZ
       ·exact absurd RZ Adk
       ·rw [(h.1.heap l2).emp RZ] at PH;cases PH
  ·by_cases hk: ∃j,j<s.Va/\l=Ea ks j
   ·obtain ⟨j,hj,rfl⟩:=hk
    rw [vJ j hj]
    rcases Nat.lt_or_ge j s.outs.length with hjo|hjo
    ·rcases n2 j (Kw _) (by omega) with ⟨_,e1⟩|⟨b2,e1,_⟩
     ·exact e1
     ·rw [show Av H' (Ea ks j)=some b2 from e1] at hl;cases hl
    ·obtain ⟨tid,Yg,hj0⟩:=Afq j hj hjo
     subst hj0
     rw [(hvk tid Yg).1,hHv tid Yg] at hl;cases hl
   ·have e0:π' l=if l∈dead then none else π l:=yO l hk
    rw [e0]
    split
    ·rfl
    ·rename_i hd
     by_cases WB:l∈pl
     ·obtain ⟨p,_,h1,_⟩:=SF l WB
      rw [Af8 l WB p h1] at hl;cases hl
     rw [oZ l hd WB] at hl
     by_cases hi: ∃t∈Mh 0 s.ins as,t.2.reads=false/\t.2.Xg=l
     ·obtain ⟨_,b',_,e2,_⟩:=hinv l hd hi
      rw [e2] at hl;cases hl
     ·rw [yR l hi] at hl
      cases h0:Av st.heap l with
      |none=>exact (h.1.heap l).emp h0
      |some b=>rw [h0] at hl;cases hl
  ·refine Ad7.block _ (h.1.lt hm).1 λJQ=>?_
   rcases JQ with ho|hg
   rotate_left
   ·obtain ⟨l,hl,q',h1,h2,_⟩:=SB _ hg
    have yP:=h.1.apart hm h1 (h.1.Cq hm) h2
    obtain ⟨_,_,_,_,_,_,_,h3,_⟩:=SF l hl
    obtain ⟨b,hxa,hxb⟩:=hxa
    rw [yP,h3] at hxa;cases hxa
    exact hxb rfl
   obtain ⟨t,t1,t0,p,t3,t4,t5⟩:=eg _ ho
   have yP:=h.1.apart hm t3 (h.1.Cq hm) t4
   have hpq:p=q:=by rw [<-yP,hm] at t3;exact (Az t3).symm
   cases WD:t.2 with
   |row l=>
    refine hp ?_
    show m∈whole tks
    unfold whole
    exact Hy.2 ⟨t,etk▸t1,by rw [WD,yP,WD];simp [Loc.Xg]⟩
   |sub l i j=>exact t5 l i j WD (by rw [hpq])
   |view l=>rw [WD] at t0;cases t0
 ·have As4:=n3 π' hD1 (λj _ hj=>vJ j (by omega))
  cases HZ:s.rp with
  |some tid=>
   unfold sm at fk
   rw [HZ] at fk
   obtain ⟨q,y1,y2,y3,y4,rfl⟩:=fk
   unfold Ae9 at gS
   rw [HZ] at gS
   simp only [Aa] at gS;subst gS
   refine ⟨full q,tid,_,hHv tid HZ,?_,rfl⟩
   rw [<-(hvk tid HZ).1,vJ _ (by have:=(hvk tid HZ).2;omega),Adt,y1]
   rfl
  |none=>
  unfold sm at fk
  rw [HZ] at fk
  obtain ⟨fk,Asb⟩:=fk
  unfold Ae9 at gS
  rw [HZ] at gS
  simp only at gS
  obtain ⟨g1,g2,g3,g4⟩:=ec s.Hv _ (Xf.drop s.aI) Asb (Nk.take s.aI As4).2
  unfold Anq at gS
  unfold Aal at fk
  split at gS
  ·rename_i hm
   rw [Ab hm] at fk
   simp only [Aa] at gS;subst gS
   subst fk
   exact ⟨_,rfl,g3.symm,g4⟩
  ·rename_i hm
   rw [Ai hm] at fk
   split at gS
   ·rename_i av1 hga
    simp only [Aa] at gS;subst gS
    rcases fk with fk|fk
    ·exact g2 0 _ v (by rw [hga];rfl) (by rw [fk];rfl)
    ·rw [hga,fk] at g1;cases g1
   ·simp only [Aa] at gS;subst gS;trivial
   ·cases gS
end
end Go.Proofs.YtkkdpknjohcekaaGreat
