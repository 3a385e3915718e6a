/-
  Part 17 of the proof that the statement FnStateClasses holds.
-/
import Derived.Test.YtkkdpknjohcekaaCFStateClasses15
namespace Go.Proofs.Ytkkdpknjohcekaa
open Go.RowKit
section
variable {P:Program} {T:Tab} {X:Ctx} {w w':World} {π π':Pi} {H H':List (Nat×OB)}
theorem an (k:Nat): ¬Dr true k<Bl:=by unfold Dr Bl;simp
theorem ej {k:Nat} (h:k<100000):Dr false k<Bl:=by unfold Dr Bl;simp;omega
def l6 (X:Ctx) (D:Nat->Prop) (w':World) (π:Pi) (H Hn:List (Nat×OB)) (l:Nat):Prop:=
 ∃b0 b',At H l=some b0/\At Hn l=some b'/\(∀f,OB.map f b0=b0)/\(∀f,OB.map f b'=b')/\b0.dV b'/\ ∀π' H',(∀b,Ut π' b\/X.Sc b->D b)->Cd X w' π' H' (π l) b'
theorem WC {io:Bool} {k:Nat} {τ:Ty} {a:AC} {t:Nat×Loc} (h:t∈Pw io k (.Hx τ) a):t.1=Dr false k:=by
 cases a<;>simp [Pw,views] at h<;>first|(obtain ⟨_,⟨_,_⟩,rfl⟩:=h;rfl)|(rw [h])
theorem PY {io:Bool} {k:Nat} {e:Ty} {te:TypeId} {a:AC} {t:Nat×Loc} (h:t∈Pw io k (.part e te) a):t.1=Dr io k:=by cases a<;>simp [Pw] at h<;>rw [h]
theorem WD {io:Bool} {k:Nat} {e:Ty} {te:TypeId} {a:AC} {t:Nat×Loc} (h:t∈Pw io k (.row e te) a):t.1=Dr io k:=by cases a<;>simp [Pw] at h<;>rw [h]
theorem PZ {io:Bool} {k:Nat} {e:Ty} {te:TypeId} {a:AC} {t:Nat×Loc} (h:t∈Pw io k (.Gz e te) a):t.1=Dr io k:=by cases a<;>simp [Pw] at h<;>rw [h]
theorem dG {D:Nat->Prop} {π':Pi} {fr:Bool} {e:Ty} {es:List Value} {y:e.den} (hD: ∀b,Ut π' b\/X.Sc b->D b) (h:Cells w' D e es y):Cells w' (Cv X.w0.heap.size X.Sc π' (fr&&e.flat)) e es y:=by
 cases hf:e.flat with
 |true=>exact Cells.flat e es y hf h
 |false=>exact Cells.Fb (Ao _) (λ_ _ _=>rfl) (λb _ hb=>by
   rcases hb with hb|hb|⟨hb,_⟩
   ·exact hD b (.inl hb)
   ·exact hD b (.inr hb)
   ·simp at hb) e es y h
theorem QA {D P:Nat->Prop} {g o:Nat} {cur:Array Value} {tr:Bool} {e:Ty} {xs:List e.den}
  (h: ∀(i:Nat) (x:e.den),xs[i]?=some x-> ∃es:List Value,es.length=e.size/\(∀j u,es[j]?=some u->cur[(o+i)*e.size+j]?=some u)/\Cells w' D e es x) (ht:(tr&&e.flat)=true):Wi w' P g o cur e xs:=by
 simp only [Ag] at ht
 exact lF ht.2 h
theorem OT {D:Nat->Prop} (h:Mm X w π H) {k:Nat} {c:CK} {ys:c.den} {a:AC} {u:Value} {r:Option Real} {x:c.den} {cur st1:St} (hs:w.heap.size<=w'.heap.size)
  (hU: ∀l i j q b,a= .sub l i j->π l=some q->q.Cq b->b<w.heap.size->(∀r',r=some r'-> ¬r'.Cq b)->w'.heap[b]?=w.heap[b]?)
  {V:List Nat} (ht:dw w (Oc X π V) r u c x/\Sw w π H true a u r c x) (hr:eM w' D r c ys) (he:bq cur c ys a=some st1) (fy: ∀t∈Pw true k c a,At cur.heap t.2.Vx=At H t.2.Vx):
  st1.tmps=cur.tmps/\(∀m,(∀t∈Pw true k c a,m≠t.2.Vx)->At st1.heap m=At cur.heap m)/\ ∀t∈Pw true k c a,l6 X D w' π H st1.heap t.2.Vx:=by
 obtain ⟨hc,ht⟩:=ht
 cases c with
 |Hx τ=>cases a<;>simp [bq] at he;subst he;exact ⟨rfl,λ_ _=>rfl,λt ht=>by simp [Pw] at ht⟩
 |row e te=>
  simp only [Sw] at ht
  cases a<;>simp only [] at ht<;>first|(exact ht.elim)|skip
  ·simp only [bq,Aa] at he;subst he
   exact ⟨rfl,λ_ _=>rfl,λt ht=>by simp [Pw] at ht⟩
  ·rename_i l off len
   obtain ⟨rfl,rfl,rfl,fr,tr,hl⟩:=ht
   have Py:At cur.heap l=some (.arr fr tr e te x):=(fy _ (Ae.2 rfl)).trans hl
   simp only [bq,St.at,Py] at he
   split at he
   ·rename_i Je
    obtain ⟨_,h1,_⟩:=Je
    simp only [Aa] at he;subst he
    refine ⟨rfl,λm hm=>Dv _ _ _ _ (hm _ (Ae.2 rfl)),λt Uu=>?_⟩
    have Uu:=Ae.1 Uu
    subst Uu
    refine ⟨_,_,hl,Eo _ _ _ _ Py,λ_=>rfl,λ_=>rfl,⟨rfl,h1.symm⟩,λπ' H' hD=>?_⟩
    have hb:=(h.heap l).Qw hl
    change Cd X w' π' H' (π l) _
    simp only [Cd,Jk] at hb⊢
    cases hp:π l with
    |none=>rw [hp] at hr;exact hr
    |some q=>
     rw [hp] at hr hb
     obtain ⟨k1,cu,ti,k2,k3,k4,k5,k6⟩:=hr
     exact ⟨⟨k1.1,k1.2,λhh=>hb.1.2.2 (by simp only [Ag] at hh;exact hh.1)⟩,cu,ti,k2,k3,k4,k5,λi y hy=>by
      obtain ⟨es,g1,g2,g3⟩:=k6 i y hy
      exact ⟨es,g1,g2,dG hD g3⟩,λht=>QA k6 ht⟩
   ·cases he
  ·rename_i l i j
   obtain ⟨⟨_,hf⟩,tid,xs,hl,hx,q,hq,Vg,hre⟩:=ht
   have Py:At cur.heap l=some (.Gg (.slice e) tid xs):=(fy _ (Ae.2 rfl)).trans hl
   simp only [bq,St.at,Py,hx] at he
   rw [Im trivial] at he
   ·split at he
    ·rename_i h1
     simp only [Aa] at he;subst he
     refine ⟨rfl,λm hm=>Dv _ _ _ _ (hm _ (Ae.2 rfl)),λt Uu=>?_⟩
     have Uu:=Ae.1 Uu
     subst Uu
     refine ⟨_,_,hl,Eo _ _ _ _ Py,λ_=>rfl,λ_=>rfl,⟨rfl,by simp⟩,λπ' H' _=>?_⟩
     show Np w' (π l) (.slice e) tid _
     rw [hq]
     refine hre w' ys hs (λb Jl hb hn=>hU l i j q b rfl hq hb Jl hn) ?_
     have hv:=hc.1
     rw [<-show List.length ys=List.length x from h1] at hv
     exact Se.JF hr hf hv
    ·cases he
 |Gz e te=>
  simp only [Sw] at ht
  cases a<;>simp only [] at ht<;>first|(exact ht.elim)|skip
  ·simp only [bq,Aa] at he;subst he
   exact ⟨rfl,λ_ _=>rfl,λt ht=>by simp [Pw] at ht⟩
  ·rename_i l off len
   obtain ⟨rfl,rfl,rfl,hl⟩:=ht
   have Py:At cur.heap l=some (.Gg e te x):=(fy _ (Ae.2 rfl)).trans hl
   simp only [bq,St.at,Py] at he
   split at he
   ·rename_i Je
    obtain ⟨_,h1,_⟩:=Je
    simp only [Aa] at he;subst he
    refine ⟨rfl,λm hm=>Dv _ _ _ _ (hm _ (Ae.2 rfl)),λt Uu=>?_⟩
    have Uu:=Ae.1 Uu
    subst Uu
    refine ⟨_,_,hl,Eo _ _ _ _ Py,λ_=>rfl,λ_=>rfl,⟨rfl,h1.symm⟩,λπ' H' _=>?_⟩
    show Np w' (π l) e te _
    cases hp:π l with
    |none=>rw [hp] at hr;exact hr
    |some q=>rw [hp] at hr;exact hr
   ·cases he
  ·rename_i l i j
   obtain ⟨_,tid,xs,hl,hx,q,hq,Vg,hre⟩:=ht
   have Py:At cur.heap l=some (.Gg (.slice e) tid xs):=(fy _ (Ae.2 rfl)).trans hl
   simp only [bq,St.at,Py,hx] at he
   rw [Im trivial] at he
   ·split at he
    ·rename_i h1
     simp only [Aa] at he;subst he
     refine ⟨rfl,λm hm=>Dv _ _ _ _ (hm _ (Ae.2 rfl)),λt Uu=>?_⟩
     have Uu:=Ae.1 Uu
     subst Uu
     refine ⟨_,_,hl,Eo _ _ _ _ Py,λ_=>rfl,λ_=>rfl,⟨rfl,by simp⟩,λπ' H' _=>?_⟩
     show Np w' (π l) (.slice e) tid _
     rw [hq]
     refine hre w' ys hs (λb Jl hb hn=>hU l i j q b rfl hq hb Jl hn) ?_
     have hv:=hc.1
     rw [<-show List.length ys=List.length x from h1] at hv
     exact Np.JF (te:=te) hr hv
    ·cases he
 |part e te=>cases a<;>simp [bq] at he<;>first|(simp only [Sw] at ht;exact ht.2.elim)
 |Bo e te kp=>exact absurd ht.1 (by simp)
theorem OU {D:Nat->Prop} (h:Mm X w π H) {k:Nat} {e:Ty} {te:TypeId} {ys:List e.den} {a:AC} {u:Value} {r:Option Real} {x:(CK.part e te).den} {cur st1:St}
  {V:List Nat} (ht:dw w (Oc X π V) r u (.part e te) x/\Sw w π H true a u r (.part e te) x) (hr:eM w' D r (.row e te) ys) (he:IC cur e ys a=some st1) (fy: ∀t∈Pw true k (.part e te) a,At cur.heap t.2.Vx=At H t.2.Vx):
  st1.tmps=cur.tmps/\(∀m,(∀t∈Pw true k (.part e te) a,m≠t.2.Vx)->At st1.heap m=At cur.heap m)/\ ∀t∈Pw true k (.part e te) a,l6 X D w' π H st1.heap t.2.Vx:=by
 obtain ⟨hc,hf,ht⟩:=ht
 cases a<;>simp only [] at ht<;>first|(exact ht.elim)|skip
 rename_i l off len
 obtain ⟨rfl,_,fr,tr,hl⟩:=ht
 have Py:At cur.heap l=some (.arr fr tr e te x.1):=(fy _ (Ae.2 rfl)).trans hl
 simp only [IC,St.at,Py] at he
 split at he
 ·rename_i Je
  obtain ⟨_,h1⟩:=Je
  simp only [Aa] at he;subst he
  refine ⟨rfl,λm hm=>Dv _ _ _ _ (hm _ (Ae.2 rfl)),λt Uu=>?_⟩
  have Uu:=Ae.1 Uu
  subst Uu
  refine ⟨_,_,hl,Eo _ _ _ _ Py,λ_=>rfl,λ_=>rfl,⟨rfl,h1.symm⟩,λπ' H' _=>?_⟩
  have hb:=(h.heap l).Qw hl
  change Cd X w' π' H' (π l) _
  simp only [Cd,Jk] at hb⊢
  cases hp:π l with
  |none=>rw [hp] at hr;exact hr
  |some q=>
   rw [hp] at hr hb
   obtain ⟨k1,cu,ti,k2,k3,k4,k5,k6⟩:=hr
   exact ⟨⟨k1.1,k1.2,hb.1.2.2⟩,cu,ti,k2,k3,k4,k5,λi y hy=>by
    obtain ⟨es,g1,g2,g3⟩:=k6 i y hy
    exact ⟨es,g1,g2,Cells.flat e es y hf g3⟩,λ_=>lF hf k6⟩
 ·cases he
def pC (X:Ctx) (D:Nat->Prop) (w':World) (π:Pi) (H:List (Nat×OB)) (tk:List (Nat×Loc)) (cur st1:St):Prop:=
 st1.tmps=cur.tmps/\(∀m,(∀t∈tk,m≠t.2.Vx)->At st1.heap m=At cur.heap m)/\(∀t∈tk,t.1<Bl->At st1.heap t.2.Vx=At cur.heap t.2.Vx)/\(∀t∈tk,¬t.1<Bl->l6 X D w' π H st1.heap t.2.Vx)
theorem rU {D:Nat->Prop} (h:Mm X w π H) {V:List Nat} {πc:Pi} {tks:List (Nat×Loc)} (hs:w.heap.size<=w'.heap.size)
  (hU: ∀t∈tks,∀q b,π t.2.Vx=some q->q.Cq b->b<w.heap.size->(∀r',πc t.1=some r'-> ¬r'.Cq b)->w'.heap[b]?=w.heap[b]?):
  ∀(cs:List (Bool×CK)) (k:Nat) (x:Ins.den cs) (as:List AC) (us:List Value) (o:IOs.den cs) (cur st1:St),k+cs.length<100000->(∀t∈Lh k cs as,t∈tks)->((Lh k cs as).map λt=>t.2.Vx).Nodup->
   p6 X w π V H πc k cs x as us->Lu w' D πc k cs o->Hi cs o as cur=some st1->(∀t∈Lh k cs as,At cur.heap t.2.Vx=At H t.2.Vx)->
   pC X D w' π H (Lh k cs as) cur st1
 | [],k,x,as,us,o,cur,st1,_,_,_,_,_,he,_=>by
  simp only [Hi,Aa] at he;subst he
  have e0:Lh k [] as= []:=by cases as<;>rfl
  exact ⟨rfl,λ_ _=>rfl,by rw [e0];simp,by rw [e0];simp⟩
 |p::r,k,x,[],us,o,cur,st1,_,_,_,ht,_,_,_=>ht.elim
 |p::r,k,x,a::as,[],o,cur,st1,_,_,_,ht,_,_,_=>ht.elim
 |(io,c)::r,k,x,a::as,u::us,o,cur,st1,hk,Wy,lQ,ht,ho,he,fy=>by
  simp only [Aw] at hk
  simp only [Lh] at Wy lQ fy⊢
  rw [Nn] at lQ
  obtain ⟨n1,n2,n3⟩:=Dg.1 lQ
  have apart: ∀t∈Pw io k c a,∀t'∈Lh (k+1) r as,t'.2.Vx≠t.2.Vx:= λt h1 t' h2 e=>n3 _ (Be.2 ⟨t,h1,rfl⟩) _ (Be.2 ⟨t',h2,rfl⟩) e.symm
  have rest: ∀(Za:St) (o':IOs.den r),Lu w' D πc (k+1) r o'->Hi r o' as Za=some st1->Za.tmps=cur.tmps->(∀m,(∀t∈Pw io k c a,m≠t.2.Vx)->At Za.heap m=At cur.heap m)->
    (∀t∈Pw io k c a,t.1<Bl->At Za.heap t.2.Vx=At cur.heap t.2.Vx)->(∀t∈Pw io k c a,¬t.1<Bl->l6 X D w' π H Za.heap t.2.Vx)->
    pC X D w' π H (Pw io k c a++Lh (k+1) r as) cur st1:=by
   intro Za o' h1 h2 h3 h4 h5 h6
   obtain ⟨g1,g2,g3,g4⟩:=rU h hs hU r (k+1) x.2 as us o' Za st1 (by omega) (λt ht=>Wy t (Cc _ ht)) n2 ht.2 h1 h2 (λt Uu=>by
    rw [h4 _ λt0 ht0=>apart t0 ht0 t Uu];exact fy t (Cc _ Uu))
   have hd: ∀t∈Pw io k c a,At st1.heap t.2.Vx=At Za.heap t.2.Vx:= λt Uu=>g2 _ λt' GL=>(apart t Uu t' GL).symm
   refine ⟨g1.trans h3,λm hm=>?_,λt Uu Jl=>?_,λt Uu Jl=>?_⟩
   ·rw [g2 m λt ht=>hm t (Cc _ ht),h4 m λt ht=>hm t (Bj _ ht)]
   ·rcases Az.1 Uu with Uu|Uu
    ·rw [hd t Uu,h5 t Uu Jl]
    ·rw [g3 t Uu Jl,h4 _ λt0 ht0=>apart t0 ht0 t Uu]
   ·rcases Az.1 Uu with Uu|Uu
    ·obtain ⟨b0,b',q1,q2,q3⟩:=h6 t Uu Jl
     exact ⟨b0,b',q1,(hd t Uu).trans q2,q3⟩
    ·exact g4 t Uu Jl
  have same: ∀o',Lu w' D πc (k+1) r o'->Hi r o' as cur=some st1->(∀t∈Pw io k c a,t.1<Bl)->pC X D w' π H (Pw io k c a++Lh (k+1) r as) cur st1:= λo' h1 h2 h3=>rest cur o' h1 h2 rfl (λ_ _=>rfl) (λ_ _ _=>rfl) (λt h4 h5=>absurd (h3 t h4) h5)
  cases io with
  |false=>
   have h3: ∀t∈Pw false k c a,t.1<Bl:= λt h4=>by rcases DM h4 with ⟨h5,_⟩|⟨h5,_⟩<;>(rw [h5];exact ej (by omega))
   cases c with
   |Hx τ=>exact same o ho (by simpa only [Hi] using he) h3
   |row e te=>exact same o ho (by simpa only [Hi] using he) h3
   |Gz e te=>exact same o ho (by simpa only [Hi] using he) h3
   |part e te=>exact same o ho (by simpa only [Hi] using he) h3
   |Bo e te kp=>exact same o ho (by simpa only [Hi] using he) h3
  |true=>
   have row: ∀(ys:c.den) (o':IOs.den r),(∀t∈Pw true k c a,t.1=Dr true k)->eM w' D (πc (Dr true k)) c ys->Lu w' D πc (k+1) r o'->(∃Za,bq cur c ys a=some Za/\Hi r o' as Za=some st1)->pC X D w' π H (Pw true k c a++Lh (k+1) r as) cur st1:=by
    intro ys o' h0 h1 h2 h3
    obtain ⟨Za,hp,h3⟩:=h3
    ·obtain ⟨q1,q2,q3⟩:=OT (k:=k) h hs (λl i j q b ea hq hb Jl hn=>by
      cases c with
      |Hx τ=>exact absurd (ht.1.2:πc _=none) (by subst ea;simp [bq] at hp)
      |row e te=>subst ea;exact hU (Dr true k, .sub l i j) (Wy _ (Bj _ (Ae.2 rfl))) q b hq hb Jl hn
      |Gz e te=>subst ea;exact hU (Dr true k, .sub l i j) (Wy _ (Bj _ (Ae.2 rfl))) q b hq hb Jl hn
      |Bo e te kp=>exact absurd ht.1.2.1 (by simp)
      |part e te=>exact absurd ht.1.2.2 (by subst ea;exact λh=>h)) ht.1 h1 hp (λt Uu=>fy t (Bj _ Uu))
     exact rest Za o' h2 h3 q1 q2 (λt h4 h5=>absurd h5 (by rw [h0 t h4];exact an k)) (λt h4 _=>q3 t h4)
   cases c with
   |Hx τ=>exact same o ho (by simpa only [Hi] using he) (λt h4=>by rw [WC h4];exact ej (by omega))
   |Bo e te kp=>exact absurd ht.1.2.1 (by simp)
   |row e te=>
    simp only [Hi] at he
    split at he
    ·rename_i Za hp;exact row o.1 o.2 (λt ht=>WD ht) ho.1 ho.2 ⟨Za,hp,he⟩
    ·cases he
   |Gz e te=>
    simp only [Hi] at he
    split at he
    ·rename_i Za hp;exact row o.1 o.2 (λt ht=>PZ ht) ho.1 ho.2 ⟨Za,hp,he⟩
    ·cases he
   |part e te=>
    simp only [Hi] at he
    split at he
    ·rename_i Za hp
     obtain ⟨q1,q2,q3⟩:=OU (k:=k) h ht.1 ho.1 hp (λt Uu=>fy t (Bj _ Uu))
     exact rest Za o.2 ho.2 he q1 q2 (λt h4 h5=>absurd h5 (by rw [PY h4];exact an k)) (λt h4 _=>q3 t h4)
    ·cases he
theorem HG {fr:Bool} {c:CK} {x:c.den} {u:Value} {r:Option Real} {D:Nat->Prop} (h:dw w' D r u c x):
  (tE fr c x=none/\r=none)\/ ∃b',tE fr c x=some b'/\ ∀(X:Ctx) π' H',(fr=true-> ∀q,r=some q->X.w0.heap.size<=q.g)->(∀b,Ut π' b\/X.Sc b->D b)->Cd X w' π' H' r b':=by
 cases c with
 |Hx τ=>exact .inl ⟨rfl,h.1⟩
 |row e te=>
  refine .inr ⟨_,rfl,λX π' H' wU hD=>?_⟩
  obtain ⟨_,h⟩:=h
  simp only [eM] at h
  simp only [Cd,Jk]
  cases r with
  |none=>exact h
  |some q=>
   obtain ⟨k1,cu,ti,k2,k3,k4,k5,k6⟩:=h
   exact ⟨⟨k1.1,k1.2,λh1=>wU (by simp only [Ag] at h1;exact h1.1) q rfl⟩,cu,ti,k2,k3,k4,k5,λi y hy=>by
    obtain ⟨es,g1,g2,g3⟩:=k6 i y hy
    exact ⟨es,g1,g2,dG hD g3⟩,λh=>by cases h⟩
 |Gz e te=>exact .inr ⟨_,rfl,λX π' H' _ _=>h.2⟩
 |Bo e te kp=>exact .inr ⟨_,rfl,λX π' H' _ hD=>⟨Zg.Ij h.2 λb hb=>hD b (hb.imp id λh=>h.elim id λh=>by cases h.1),trivial⟩⟩
 |part e te=>
  refine .inr ⟨_,rfl,λX π' H' wU hD=>?_⟩
  obtain ⟨_,hf,h⟩:=h
  simp only [Cd,Jk]
  cases r with
  |none=>exact h
  |some q=>
   obtain ⟨k1,cu,ti,k2,k3,k4,k5,k6⟩:=h
   exact ⟨⟨k1.1,k1.2,λh1=>wU (by simp only [Ag] at h1;exact h1.1) q rfl⟩,cu,ti,k2,k3,k4,k5,λi y hy=>by
    obtain ⟨es,g1,g2,g3⟩:=k6 i y hy
    exact ⟨es,g1,g2,dG hD g3⟩,λh=>by cases h⟩
theorem oI {D:Nat->Prop} {key:Nat->Nat} (FZ: ∀i j,key i=key j->i=j) {fr:Bool} {ρ:Pi} : ∀(cs:List CK) (k:Nat) (x:CKs.den cs) (us:List Value) (H:List (Nat×OB)),Iq w' D ρ k cs x us->
  (∀j,k<=j->j<k+cs.length->At H (key j)=none)->
  (∀l,(∀j,k<=j->j<k+cs.length->l≠key j)->At (Xe fr key k cs x H) l=At H l)/\
  (∀j,k<=j->j<k+cs.length->(At (Xe fr key k cs x H) (key j)=none/\ρ (Jn j)=none)\/
   ∃b',At (Xe fr key k cs x H) (key j)=some b'/\ ∀(X:Ctx) π' H',(fr=true-> ∀q,ρ (Jn j)=some q->X.w0.heap.size<=q.g)->(∀b,Ut π' b\/X.Sc b->D b)->Cd X w' π' H' (ρ (Jn j)) b')/\
  (∀π',(∀b,Ut π' b\/X.Sc b->D b)->(∀j,k<=j->j<k+cs.length->π' (key j)=ρ (Jn j))->Mn X w' π' (Xe fr key k cs x H) (aY key k cs x) us)
 | [],k,x,[],H,_,_=>⟨λ_ _=>rfl,λj h1 h2=>by simp at h2;omega,λ_ _ _=>trivial⟩
 | [],_,_,_::_,_,h,_=>h.elim
 |_::_,_,_,[],_,h,_=>h.elim
 |c::r,k,x,u::us,H,h,hn=>by
  simp only [Aw] at hn⊢
  simp only [Xe,aY]
  have sU:=hn k (Ao _) (by omega)
  have hH1: ∀l,l≠key k->At (AJ H (key k) (tE fr c x.1)) l=At H l:=by
   intro l hl
   cases tE fr c x.1 with
   |some b=>exact Ox _ _ _ _ hl
   |none=>rfl
  have Ag2:At (AJ H (key k) (tE fr c x.1)) (key k)=tE fr c x.1:=by
   cases tE fr c x.1 with
   |some b=>exact Pz _ _ _ sU
   |none=>exact sU
  generalize (AJ H (key k) (tE fr c x.1))=H1 at hH1 Ag2⊢
  obtain ⟨g1,g2,g3⟩:=oI FZ (fr:=fr) r (k+1) x.2 us H1 h.2 (λj h1 h2=>by
   rw [hH1 _ λe=>by have:=FZ _ _ e;omega];exact hn j (by omega) (by omega))
  have XG:At (Xe fr key (k+1) r x.2 H1) (key k)=tE fr c x.1:=by
   rw [g1 _ λj h1 h2 e=>by have:=FZ _ _ e;omega];exact Ag2
  refine ⟨λl hl=>?_,λj h1 h2=>?_,λπ' hd hπ=>⟨?_,?_⟩⟩
  ·rw [g1 l λj h1 h2=>hl j (by omega) (by omega)]
   exact hH1 l (hl k (Ao _) (by omega))
  ·rcases Nat.eq_or_lt_of_le h1 with e|h1
   ·subst e
    rw [XG]
    exact HG h.1
   ·exact g2 j h1 (by omega)
  ·have h1:=h.1
   have QY:=hπ k (Ao _) (by omega)
   cases c with
   |Hx τ=>
    obtain ⟨gh,c1,c2⟩:=h1.2
    exact ⟨gh,by have:=dG (fr:=true) hd c1;simpa using this,c2⟩
   |row e te=>exact ⟨_,e.size,List.length x.1,XG,rfl,by simp,by rw [QY];exact h1.1⟩
   |Gz e te=>exact ⟨_,e.size,List.length x.1,XG,rfl,by simp,by rw [QY];exact h1.1⟩
   |Bo e te kp=>exact ⟨_,1,List.length x.1,XG,rfl,by simp,by rw [QY];exact h1.1⟩
   |part e te=>trivial
  ·exact g3 π' hd λj h1 h2=>hπ j (by omega) (by omega)
theorem GX {ks:List Nat} {n:Nat} (h:xf ks n=true):ks.length=n/\ks.Nodup/\ ∀l∈ks,l<Bl:=by
 unfold xf at h
 simp only [Ag] at h
 refine ⟨Ja h.1,Xd h.2.1,λl hl=>?_⟩
 have:=Ba.1 h.2.2 l hl
 simpa using this
theorem Qx {ks:List Nat} {j:Nat} (h:j<ks.length):Dy ks j=ks[j]:=by
 unfold Dy
 rw [Ab h]
theorem zv {ks:List Nat} (hn:ks.Nodup) (hl: ∀l∈ks,l<Bl): ∀i j,Dy ks i=Dy ks j->i=j:=by
 intro i j h
 by_cases hi:i<ks.length
 ·by_cases hj:j<ks.length
  ·rw [Qx hi,Qx hj] at h
   rcases Nat.lt_trichotomy i j with Jl|he|Jl
   ·exact absurd h (De.1 hn i j hi hj Jl)
   ·exact he
   ·exact absurd h.symm (De.1 hn j i hj hi Jl)
  ·have h1:=hl _ (Al hi)
   rw [Qx hi] at h
   unfold Dy at h
   rw [Ds (by omega)] at h
   simp only at h
   omega
 ·by_cases hj:j<ks.length
  ·have h1:=hl _ (Al hj)
   rw [Qx hj] at h
   unfold Dy at h
   rw [Ds (by omega)] at h
   simp only at h
   omega
  ·unfold Dy at h
   rw [Ds (by omega),Ds (by omega)] at h
   simp only at h
   omega
theorem Nf: ∀(H:List (Nat×OB)) (dead:List Nat) (l:Nat),At (Wo H dead) l=if l∈dead then none else At H l
 | [],dead,l=>by simp [Wo,At]
 |(k,b)::r,dead,l=>by
  simp only [Wo]
  have ih:=Nf r dead l
  by_cases hk:k∈dead
  ·rw [Ac (by simpa using hk),ih]
   split
   ·rfl
   ·rename_i hl
    simp only [At]
    rw [Ai (λ(e:k=l)=>hl (e▸hk))]
  ·rw [Ai (by simpa using hk)]
   simp only [At]
   split
   ·rename_i e;subst e;rw [Ai hk]
   ·exact ih
theorem mem_keys {ks:List Nat} {l:Nat} :l∈ks↔ ∃k,k<ks.length/\l=Dy ks k:=
 ⟨λh=>by obtain ⟨k,hk,e⟩:=Mz h;exact ⟨k,hk,by rw [Qx hk,e]⟩,λ⟨k,hk,e⟩=>by rw [e,Qx hk];exact Al hk⟩
theorem cZ {tks:List (Nat×Loc)} {l:Nat} :l∈lq tks↔ ∃t∈tks,(t.1<Bl/\t.2.reads=false)/\t.2.Vx=l:=by
 unfold lq
 simp only [Be,Bd,Ag,Ms,Fk]
 exact ⟨λ⟨t,⟨h1,h2⟩,h3⟩=>⟨t,h1,h2,h3⟩,λ⟨t,h1,h2,h3⟩=>⟨t,⟨h1,h2⟩,h3⟩⟩
theorem xg {tks:List (Nat×Loc)} (h:(tks.map λt=>t.2.Vx).Nodup) {t t':Nat×Loc} (ht:t∈tks) (GL:t'∈tks) (he:t.2.Vx=t'.2.Vx):t=t':=by
 induction tks with
 |nil=>cases ht
 |cons a r ih=>
  simp only [Bk] at h
  obtain ⟨h1,h2⟩:=Ca.1 h
  rcases Ay.1 ht with rfl|ht<;>rcases Ay.1 GL with rfl|GL
  ·rfl
  ·exact (h1 (Be.2 ⟨t',GL,he.symm⟩)).elim
  ·exact (h1 (he▸Be.2 ⟨t,‹t∈r›,rfl⟩)).elim
  ·exact ih h2 ht GL
theorem Iq.full {D:Nat->Prop} {ρ:Pi} : ∀(cs:List CK) (k:Nat) (x:CKs.den cs) (us:List Value),Iq w D ρ k cs x us->Iq w D (λl=>(ρ l).map full) k cs x us
 | [],_,_,[],h=>h
 | [],_,_,_::_,h=>h.elim
 |_::_,_,_,[],h=>h.elim
 |c::r,k,x,u::us,h=>⟨by
   have h1:=h.1
   show dw w D ((ρ (Jn k)).map _) u c x.1
   cases c with
   |Hx τ=>rw [h1.1];exact ⟨rfl,h1.2⟩
   |row e te=>cases hp:ρ (Jn k)<;>(rw [hp] at h1;exact h1)
   |Gz e te=>cases hp:ρ (Jn k)<;>(rw [hp] at h1;exact h1)
   |Bo e te kp=>cases hp:ρ (Jn k)<;>(rw [hp] at h1;exact h1)
   |part e te=>cases hp:ρ (Jn k)<;>(rw [hp] at h1;exact h1),Iq.full r (k+1) x.2 us h.2⟩
theorem Iq.Aaj {D:Nat->Prop} {ρ:Pi} : ∀(cs:List CK) (k0:Nat) (x:CKs.den cs) (us:List Value),Iq w D ρ k0 cs x us-> ∀j,k0<=j->j<k0+cs.length-> ∀q,ρ (Jn j)=some q->q.Cq q.g
 | [],k0,_,_,_,j,h1,h2,_,_=>by simp at h2;omega
 |_::_,_,_,[],h,_,_,_,_,_=>h.elim
 |c::r,k0,x,u::us,ho,j,h1,h2,q,hq=>by
  rcases Nat.eq_or_lt_of_le h1 with e|h1
  ·subst e
   have:=ho.1
   cases c with
   |Hx τ=>rw [hq] at this;cases this.1
   |row e te=>rw [hq] at this;exact this.2.1.1
   |Gz e te=>rw [hq] at this;exact this.2.1
   |part e te=>rw [hq] at this;exact this.2.2.1.1
   |Bo e te kp=>rw [hq] at this;exact this.2.1
  ·exact Iq.Aaj r (k0+1) x.2 us ho.2 j h1 (by simp at h2;omega) q hq
theorem Se.any {D D':Nat->Prop} {r:Option Real} {e:Ty} {xs:List e.den} (hf:e.flat=true) (h:Se w D r e xs):Se w D' r e xs:=by
 cases r with
 |none=>exact h
 |some r=>
  obtain ⟨k1,cu,ti,k2,k3,k4,k5,k6⟩:=h
  exact ⟨k1,cu,ti,k2,k3,k4,k5,λi y hy=>by
   obtain ⟨es,g1,g2,g3⟩:=k6 i y hy
   exact ⟨es,g1,g2,Cells.flat e es y hf g3⟩⟩
theorem Iq.any {D D':Nat->Prop} {ρ:Pi} : ∀(cs:List CK) (k:Nat) (x:CKs.den cs) (us:List Value),cs.all (·.flat)=true->Iq w D ρ k cs x us->Iq w D' ρ k cs x us
 | [],_,_,[],_,h=>h
 | [],_,_,_::_,_,h=>h.elim
 |_::_,_,_,[],_,h=>h.elim
 |c::r,k,x,u::us,hf,h=>by
  simp only [Iw,Ag] at hf
  refine ⟨?_,Iq.any r (k+1) x.2 us hf.2 h.2⟩
  have h1:=h.1
  cases c with
  |Hx τ=>exact ⟨h1.1,Ct.flat hf.1 h1.2⟩
  |row e te=>exact ⟨h1.1,Se.any hf.1 h1.2⟩
  |Gz e te=>exact h1
  |part e te=>exact ⟨h1.1,h1.2.1,Se.any hf.1 h1.2.2⟩
  |Bo e te kp=>exact absurd hf.1 (by simp [CK.flat])
theorem Lu.any {D D':Nat->Prop} {π:Pi} : ∀(cs:List (Bool×CK)) (k:Nat) (x:IOs.den cs),(cs.all λp=>!p.1||p.2.flat)=true->Lu w D π k cs x->Lu w D' π k cs x
 | [],_,_,_,h=>h
 |(false,_)::r,k,x,hf,h=>Lu.any r (k+1) x (by simp only [Iw,Ag] at hf;exact hf.2) h
 |(true, .Hx _)::r,k,x,hf,h=>Lu.any r (k+1) x (by simp only [Iw,Ag] at hf;exact hf.2) h
 |(true, .Bo _ _ _)::r,k,x,hf,h=>Lu.any r (k+1) x (by simp only [Iw,Ag] at hf;exact hf.2) h
 |(true, .row e te)::r,k,x,hf,h=>by
  simp only [Iw,Ag,Bool.not_true,az] at hf
  exact ⟨Se.any hf.1 h.1,Lu.any r (k+1) x.2 hf.2 h.2⟩
 |(true, .Gz e te)::r,k,x,hf,h=>by
  simp only [Iw,Ag,Bool.not_true,az] at hf
  exact ⟨h.1,Lu.any r (k+1) x.2 hf.2 h.2⟩
 |(true, .part e te)::r,k,x,hf,h=>by
  simp only [Iw,Ag,Bool.not_true,az] at hf
  exact ⟨Se.any hf.1 h.1,Lu.any r (k+1) x.2 hf.2 h.2⟩
theorem rE {tks:List (Nat×Loc)} {l:Nat} :l∈yN tks↔ ∃t∈tks,t.2.reads=true/\t.2.Vx=l:=by
 unfold yN
 simp only [Be,Bd]
 exact ⟨λ⟨t,⟨h1,h2⟩,h3⟩=>⟨t,h1,h2,h3⟩,λ⟨t,h1,h2,h3⟩=>⟨t,⟨h1,h2⟩,h3⟩⟩
theorem Bg.mo {st:St} {a:Act} (h:Bg X π st a w) {f:AC->AC} (hu:f .undef= .undef) {gv:Nat->Prop} (NA: ∀b,gv b->Ut π b) (hb:Kh w.heap.size gv w w')
  (cS: ∀b,b<w.heap.size->Ut π' b->Ut π b)
  (Wy: ∀l r b,π' l=some r->r.Cq b->r.cl b) (Adc: ∀l r b,π' l=some r->r.cl b->(X.w0.heap.size<=b\/X.gv b)/\b<w'.heap.size)
  (Am3: ∀l l' r r' b,π' l=some r->π' l'=some r'->r.cl b->r'.cl b->l=l')
  (cc: ∀l,Bl<=l->At H' l≠none->aC (X.fI l) (π' l))
  (hac:(∀fr τ cs x,Cells w (Cv X.w0.heap.size X.Sc π fr) τ cs x->Cells w' (Cv X.w0.heap.size X.Sc π' fr) τ cs x)-> ∀c v,Gu X w π st.heap c v->Gu X w' π' H' (f c) v)
  (FV:Move X w w' π π' st.heap H' f-> ∀l b,At H' l=some b->Cd X w' π' H' (π' l) b)
  (KV: ∀l,At H' l=none->π' l=none):
  Bg X π' {tmps:=st.tmps.map (·.map f),heap:=H'} a w':=by
 have hc: ∀fr τ cs x,Cells w (Cv X.w0.heap.size X.Sc π fr) τ cs x->Cells w' (Cv X.w0.heap.size X.Sc π' fr) τ cs x:= λfr τ cs x hh=>
  Cells.Fb hb.size (λk hk hn=>hb.block k hk λhg=>hn (.inl (NA k hg))) (λk Jl hA=>hA.imp (cS k Jl) id) τ cs x hh
 have m:Move X w w' π π' st.heap H' f:=⟨hac hc,hc⟩
 refine ⟨⟨⟨hb.os.trans h.1.below.os,hb.tape.trans h.1.below.tape,hb.output.trans h.1.below.output,Ek h.1.below.size hb.size,λk hk hn=>?_⟩,h.1.sc,Wy,Adc,Am3,cc,λl=>?_⟩,m.IF hu h.2⟩
 ·refine (hb.block k (Ea hk h.1.below.size) λhg=>?_).trans (h.1.below.block k hk hn)
  rcases (h.1.own (NA k hg)).2 with h1|h1
  ·omega
  ·exact hn h1
 ·cases hh:At H' l with
  |none=>exact Fu.Tj (KV l hh) hh
  |some b=>exact Fu.Lf (FV m l b hh) hh
def eN:Option Real->Option Real->Prop
 |none,none=>True
 |some r,some r'=>r.g=r'.g/\r.o=r'.o/\r.cap=r'.cap
 |_,_=>False
theorem eN.rfl' (r:Option Real):eN r r:=by cases r<;>simp [eN]
theorem eN.some {r:Real} {r':Option Real} (h:eN (some r) r'): ∃q,r'=some q/\r.g=q.g/\r.o=q.o/\r.cap=q.cap:=by
 cases r' with
 |none=>exact h.elim
 |some q=>exact ⟨q,rfl,h⟩
theorem eN.own {r r':Option Real} (h:eN r r') {sz off len:Nat} {v:Value} (hv:He r sz off len v):He r' sz off len v:=by
 cases r<;>cases r'<;>first|exact h.elim|skip
 ·exact hv
 ·obtain ⟨h1,h2,h3⟩:=h
  obtain ⟨ad,g1,g2,g3⟩:=hv
  exact ⟨ad,by rw [<-h3];exact g1,by rw [<-h3];exact g2,by rw [<-h1,<-h2,<-h3];exact g3⟩
structure OB.Sn (b b':OB):Prop where
 row: ∀sz n,b.row=some (sz,n)-> ∃n',b'.row=some (sz,n')/\n<=n'
 eW: ∀p,b.eW=some p->b'.eW=some p
 tp: ∀p,b.tp=some p->b'.tp=some p
 var: ∀tid vs,b= .var tid vs-> ∃Tw vs',b'= .var Tw vs'
 Ur: ∀v m,b= .Ur v m-> ∃m',b'= .Ur v m'
theorem OB.Sn.map (f:AC->AC) (b:OB):b.Sn (b.map f) where
 row:= λsz n h=>⟨n,by cases b<;>exact h,Ao _⟩
 eW:= λp h=>by cases b<;>exact h
 tp:= λp h=>by cases b<;>exact h
 var:= λtid vs h=>by subst h;exact ⟨_,_,rfl⟩
 Ur:= λv m h=>by subst h;exact ⟨_,rfl⟩
theorem OB.Sn.rfl' (b:OB):b.Sn b where
 row:= λ_sz n h=>⟨n,h,Ao _⟩
 eW:= λ_p h=>h
 tp:= λ_p h=>h
 var:= λ_tid _vs h=>⟨_,_,h⟩
 Ur:= λ_v _m h=>⟨_,h⟩
theorem OB.Sn.trans {a b c:OB} (h:a.Sn b) (k:b.Sn c):a.Sn c where
 row:= λsz n hr=>by
  obtain ⟨n1,h1,h2⟩:=h.row sz n hr
  obtain ⟨n2,h3,h4⟩:=k.row sz n1 h1
  exact ⟨n2,h3,by omega⟩
 eW:= λp hp=>k.eW p (h.eW p hp)
 tp:= λp hp=>k.tp p (h.tp p hp)
 var:= λtid vs hv=>by obtain ⟨t',v',h1⟩:=h.var tid vs hv;exact k.var t' v' h1
 Ur:= λv m hm=>by obtain ⟨m',h1⟩:=h.Ur v m hm;exact k.Ur v m' h1
theorem mn {f:AC->AC} {D Pt:Nat->Prop} (hf: ∀c,f c= .undef\/(f c=c/\(∀k∈c.refs,¬D k)/\ ∀k i j,c= .sub k i j\/c= .Jj k i j-> ¬Pt k)) (hp: ∀k,¬D k->eN (π k) (π' k))
  (hH: ∀k b,¬D k->At H k=some b-> ∃b',At H' k=some b'/\b.Sn b')
  (hg: ∀k r b,¬D k-> ¬Pt k->At H k=some b->b.eW≠none->π k=some r->w'.heap[r.g]?=w.heap[r.g]?)
  (hc: ∀fr τ cs x,Cells w (Cv X.w0.heap.size X.Sc π fr) τ cs x->Cells w' (Cv X.w0.heap.size X.Sc π' fr) τ cs x): ∀c v,Gu X w π H c v->Gu X w' π' H' (f c) v:=by
 intro c v h
 rcases hf c with e|⟨e,hr,hs⟩
 ·rw [e];trivial
 rw [e]
 cases c with
 |data fr τ x=>obtain ⟨cs,h1,h2⟩:=h;exact ⟨cs,hc _ _ _ _ h1,h2⟩
 |own k off len=>
  obtain ⟨b,sz,n,h1,h0,h2,h3⟩:=h
  have hk:=hr k (by simp [AC.refs])
  obtain ⟨b',g1,g2⟩:=hH k b hk h1
  obtain ⟨n',g3,g4⟩:=g2.row sz n h0
  exact ⟨b',sz,n',g1,g3,by omega,(hp k hk).own h3⟩
 |Gp k i=>
  obtain ⟨r,tid,vs,h1,h2,h3⟩:=h
  have hk:=hr k (by simp [AC.refs])
  obtain ⟨b',g1,g2⟩:=hH k _ hk h1
  obtain ⟨Tw,vs',rfl⟩:=g2.var tid vs rfl
  obtain ⟨q,q1,q2,_⟩:=(h2▸hp k hk).some
  exact ⟨q,Tw,vs',g1,q1,by rw [<-q2];exact h3⟩
 |Jm k i=>
  obtain ⟨r,b,sz,n,h1,h0,h2,h3,h4⟩:=h
  have hk:=hr k (by simp [AC.refs])
  obtain ⟨b',g1,g2⟩:=hH k b hk h1
  obtain ⟨n',g3,g4⟩:=g2.row sz n h0
  obtain ⟨q,q1,q2,q3,_⟩:=(h3▸hp k hk).some
  exact ⟨q,b',sz,n',g1,g3,by omega,q1,by rw [<-q2,<-q3];exact h4⟩
 |sub k i c=>
  obtain ⟨r,b,sz,n,h1,h0,h2,h3,h4,h5⟩:=h
  have hk:=hr k (by simp [AC.refs])
  obtain ⟨b',g1,g2⟩:=hH k b hk h1
  obtain ⟨q,q1,q2,q3,_⟩:=(h2▸hp k hk).some
  exact ⟨q,b',sz,n,g1,g2.eW _ h0,q1,h3,h4,by rw [<-q2,<-q3,World.cell?_of_block (hg k r b hk (hs k i c (.inl rfl)) h1 (by rw [h0];simp) h2)];exact h5⟩
 |Jj k i c=>
  obtain ⟨r,b,n,sz,g,o,len,cap,h1,h0,h2,h3,h4,h5,h6⟩:=h
  have hk:=hr k (by simp [AC.refs])
  obtain ⟨b',g1,g2⟩:=hH k b hk h1
  obtain ⟨q,q1,q2,q3,_⟩:=(h2▸hp k hk).some
  exact ⟨q,b',n,sz,g,o,len,cap,g1,g2.tp _ h0,q1,h3,h4,by rw [<-q2,<-q3,World.cell?_of_block (hg k r b hk (hs k i c (.inr rfl)) h1 (by cases b<;>first|(cases h0;done)|simp [OB.eW]) h2)];exact h5,h6⟩
 |clo g Dz=>
  obtain ⟨us,h1,h2,h3⟩:=h
  refine ⟨us,h1,h2,λj p hpj=>?_⟩
  obtain ⟨r,tid,vs,h4,h5,h6⟩:=h3 j p hpj
  have hk:=hr p.1 (by simp only [AC.refs,Be];exact ⟨p,Cf hpj,rfl⟩)
  obtain ⟨b',g1,g2⟩:=hH p.1 _ hk h4
  obtain ⟨Tw,vs',rfl⟩:=g2.var tid vs rfl
  obtain ⟨q,q1,q2,_⟩:=(h5▸hp p.1 hk).some
  exact ⟨q,Tw,vs',g1,q1,by rw [<-q2];exact h6⟩
 |Jt k=>
  obtain ⟨r,vt,m,h1,h2,h3⟩:=h
  have hk:=hr k (by simp [AC.refs])
  obtain ⟨b',g1,g2⟩:=hH k _ hk h1
  obtain ⟨m',rfl⟩:=g2.Ur vt m rfl
  obtain ⟨q,q1,q2,_⟩:=(h2▸hp k hk).some
  exact ⟨q,vt,m',g1,q1,by rw [<-q2];exact h3⟩
 |_=>exact h
theorem Uc (H0:List (Nat×OB)) (ls:List Nat) (n:Nat): ∀(H:List (Nat×OB)) (l:Nat),At (cf H0 ls n H) l=(At H l).map λb=>if ls.contains l then b.CS (aV n (Adv (At H0 l))) else b
 | [],_=>rfl
 |(k,b)::r,l=>by
  simp only [cf,At]
  split
  ·rename_i e;subst e;rfl
  ·exact Uc H0 ls n r l
theorem OB.xX (b:OB) (kp:Option (Nat×Nat)):b.Sn (b.CS kp):=by
 cases b with
 |Bo e te rows out kp0=>exact ⟨λsz n h=>⟨n,h,Ao _⟩,λp h=>h,λp h=>h,(λ_ _ h=>by cases h),(λ_ _ h=>by cases h)⟩
 |_=>exact OB.Sn.rfl' _
theorem eD (ls:List Nat): ∀(l m:List AV) (t:Nat),l.length=m.length->(∃k i c,l.getD t .undef= .at (.sub k i c)/\ls.contains k=true/\(Lg ls l m).getD t .undef= .at (.sub k i c))\/(Lg ls l m).getD t .undef=m.getD t .undef
 | [],m,t,_=>by cases m<;>exact .inr rfl
 |_::_,[],t,h=>by simp at h
 |a::l,v::m,t,h=>by
  have ih:= λt=>eD ls l m t (by simpa using h)
  have tail: ∀u,Lg ls (a::l) (v::m)=u::Lg ls l m->(t=0->(∃k i c,(a::l).getD t .undef= .at (.sub k i c)/\ls.contains k=true/\u= .at (.sub k i c))\/u=v)->
    (∃k i c,(a::l).getD t .undef= .at (.sub k i c)/\ls.contains k=true/\(Lg ls (a::l) (v::m)).getD t .undef= .at (.sub k i c))\/(Lg ls (a::l) (v::m)).getD t .undef=(v::m).getD t .undef:=by
   intro u e h0
   rw [e]
   rcases t with _|t
   ·rcases h0 rfl with ⟨k,i,c,h1,h2,h3⟩|h3
    ·exact .inl ⟨k,i,c,h1,h2,by simpa using h3⟩
    ·exact .inr (by simpa using h3)
   ·simpa only [My] using ih t
  cases a with
  | «at»c=>
   cases c with
   |sub k i c=>
    refine tail _ rfl λht=>?_
    subst ht
    by_cases hc:ls.contains k=true
    ·exact .inl ⟨k,i,c,rfl,hc,by rw [Ac hc]⟩
    ·exact .inr (by rw [Ai hc])
   |_=>exact tail _ rfl λ_=> .inr rfl
  |_=>exact tail _ rfl λ_=> .inr rfl
theorem sB {H:List (Nat×OB)} {ls:List Nat} {n:Nat} : ∀ {l:List AV} {t k i c:Nat},cr H ls n l=true->l.getD t .undef= .at (.sub k i c)->ls.contains k=true->i<n/\i<pJ H k
 | [],t,k,i,c,_,h,_=>by simp at h
 |a::l,0,k,i,c,ho,h,hc=>by
  simp only [Wg] at h
  subst h
  simp only [cr,hc,Bool.not_true,az,Ag,Ms] at ho
  exact ho.1
 |a::l,t+1,k,i,c,ho,h,hc=>by
  refine sB (l:=l) (t:=t) (c:=c) ?_ (by simpa only [My] using h) hc
  cases a with
  | «at»d=>cases d with
   |sub _ _ _=>simp only [cr,Ag] at ho;exact ho.2
   |_=>exact ho
  |_=>exact ho
theorem GU {bn st:St} {a:Act} (h0:Bg X π bn a w) (h:Bg X π' st a w') {ls:List Nat} {n:Nat} (hk: ∀l∈ls,zc w w' (π l) (π' l) n) (qU: ∀l∈ls,lY bn.heap l=true)
  (lR:cr st.heap ls n bn.tmps=true):Bg X π' (kD bn st ls n) a w'/\ ∀c v,Bn X w' π' st.heap c v->Bn X w' π' (kD bn st ls n).heap c v:=by
 by_cases uR:ls= []
 ·subst uR;exact ⟨h,λ_ _ h=>h⟩
 have Ya:kD bn st ls n= {tmps:=Lg ls bn.tmps st.tmps,heap:=cf bn.heap ls n st.heap} :=by
  cases ls with
  |nil=>exact absurd rfl uR
  |cons _ _=>rfl
 rw [Ya]
 have hg0: ∀l∈ls,∃e te rows out kp,At bn.heap l=some (.Bo e te rows out kp):= λl hl=>by
  have:=qU l hl
  unfold lY at this
  split at this
  ·exact ⟨_,_,_,_,_,by assumption⟩
  ·cases this
 have srv: ∀k b,At st.heap k=some b-> ∃b',At (cf bn.heap ls n st.heap) k=some b'/\b.Sn b':= λk b hb=>by
  rw [Uc,hb]
  refine ⟨_,rfl,?_⟩
  dsimp only
  split
  ·exact OB.xX b _
  ·exact OB.Sn.rfl' b
 have hac:(∀fr τ cs x,Cells w' (Cv X.w0.heap.size X.Sc π' fr) τ cs x->Cells w' (Cv X.w0.heap.size X.Sc π' fr) τ cs x)-> ∀c v,Gu X w' π' st.heap c v->Gu X w' π' (cf bn.heap ls n st.heap) c v:= λhc=>
  mn (f:= λc=>c) (D:= λ_=>False) (Pt:= λ_=>False) (λc=> .inr ⟨rfl,λ_ _ h=>h,λ_ _ _ _ h=>h⟩) (λk _=>eN.rfl' _) (λk b _ hb=>srv k b hb) (λ_ _ _ _ _ _ _ _=>rfl) hc
 have h1:Bg X π' {tmps:=st.tmps.map (·.map λc=>c),heap:=cf bn.heap ls n st.heap} a w':=by
  refine h.mo rfl (gv:= λ_=>False) (λ_ hf=>hf.elim) (Kh.refl _ _ _) (λ_ _ ho=>ho) h.1.sub h.1.place h.1.inj (λl hl Hq=>h.1.fI l hl λh2=>Hq (by rw [Uc,h2];rfl)) hac (λm l b hb=>?_) (λl hl=>?_)
  ·rw [Uc] at hb
   cases h2:At st.heap l with
   |none=>rw [h2] at hb;cases hb
   |some b0=>
    rw [h2] at hb
    simp only [Ak,Aa] at hb
    have hbk:=(h.1.heap l).Qw h2
    have EM:=hbk.move m (Ao _) (λr0 c h0 h1=>h.1.sub _ r0 c h0 h1) λ_ _ _ _ _=>rfl
    rw [show OB.map (λc=>c) b0=b0 from OB.BE b0] at EM
    split at hb
    ·rename_i hc
     have hl:l∈ls:=by simpa using hc
     cases b0 with
     |Bo e te rows out kp=>
      simp only [OB.CS] at hb
      subst hb
      refine ⟨EM.1,?_⟩
      obtain ⟨e0,te0,Abt,Ano,kp0,hg⟩:=hg0 l hl
      have sU:=((h0.1.heap l).Qw hg).2
      rw [hg]
      simp only [Adv]
      have tt:=hk l hl
      cases kp0 with
      |none=>trivial
      |some p=>
       obtain ⟨l0,n0⟩:=p
       simp only [KeptAt,aV] at sU⊢
       cases wZ:X.fI l0 with
       |none=>
        cases hp:π l with
        |none=>
         rw [hp] at tt
         cases KX:π' l with
         |none=>trivial
         |some q=>rw [KX] at tt;exact tt.elim
        |some q=>rw [wZ,hp] at sU;exact sU.elim
       |some r0=>
        cases hp:π l with
        |none=>rw [wZ,hp] at sU;exact sU.elim
        |some q=>
         rw [wZ,hp] at sU
         rw [hp] at tt
         cases KX:π' l with
         |none=>rw [KX] at tt;exact tt.elim
         |some q'=>
          rw [KX] at tt
          obtain ⟨k1,k2,k3,k4⟩:=tt
          obtain ⟨g1,g2,g3,g4⟩:=sU
          refine ⟨k1.trans g1,k2.trans g2,k3.trans g3,λj hj hc=>?_⟩
          have e1:=g4 j (by omega) hc
          have e2:=k4 j (by omega) (by omega)
          rw [g1,g2] at e2
          rw [<-e1,e2]
     |_=>simp only [OB.CS] at hb;subst hb;exact EM
    ·subst hb;exact EM
  ·rw [Uc] at hl
   cases h2:At st.heap l with
   |none=>exact (h.1.heap l).emp h2
   |some b=>rw [h2] at hl;cases hl
 have SK: ∀c v,Bn X w' π' st.heap c v->Bn X w' π' (cf bn.heap ls n st.heap) c v:= λc v hv=>by
  have m:Move X w' w' π' π' st.heap (cf bn.heap ls n st.heap) (λc=>c):=⟨hac λ_ _ _ _ h=>h,λ_ _ _ _ h=>h⟩
  have:=m.av hv
  rwa [AC.map_id] at this
 refine ⟨⟨h1.1,⟨?_,h.2.defers,λt=>?_⟩⟩,SK⟩
 ·have: ∀(l m:List AV),(Lg ls l m).length=m.length:=by
   intro l
   induction l with
   |nil=>intro m;cases m<;>rfl
   |cons a l ih=>
    intro m
    cases m with
    |nil=>cases a with
     | «at»c=>cases c<;>rfl
     |_=>rfl
    |cons v m=>cases a with
     | «at»c=>cases c<;>simp only [Lg,Aw,ih m]
     |_=>simp only [Lg,Aw,ih m]
  show a.tmps.size=(Lg ls bn.tmps st.tmps).length
  rw [this];exact h.2.size
 ·show Bn X w' π' _ ((Lg ls bn.tmps st.tmps).getD t .undef) _
  rcases eD ls bn.tmps st.tmps t (by rw [<-h0.2.size,<-h.2.size]) with ⟨k,i,c,g1,g2,g3⟩|g
  ·rw [g3]
   have Rq:k∈ls:=by simpa using g2
   obtain ⟨i1,i2⟩:=sB lR g1 g2
   have hv:=h0.2.tmps t
   rw [show bn.get t=_ from g1] at hv
   obtain ⟨r,b,sz,n',e1,e2,e3,e4,⟨e5,e6⟩,e7⟩:=hv
   obtain ⟨e0,te0,Abt,Ano,kp0,hg⟩:=hg0 k Rq
   rw [hg] at e1;cases e1
   simp only [OB.eW,Aa,Ad] at e2
   obtain ⟨rfl,rfl⟩:=e2
   have tt:=hk k Rq
   rw [e3] at tt
   cases KX:π' k with
   |none=>rw [KX] at tt;exact tt.elim
   |some q'=>
    rw [KX] at tt
    obtain ⟨k1,k2,k3,k4⟩:=tt
    have qR:Abt.length<=r.cap:=by
     have:=((h0.1.heap k).Qw hg).1
     rw [e3] at this
     obtain ⟨_,_,_,_,_,_,h5,_⟩:=this
     exact h5
    unfold pJ at i2
    split at i2
    ·rename_i e9 te9 Ain Ast kp9 hg9
     refine ⟨q',_,1,Ain.length,by rw [Uc,hg9];rfl,?_,KX,i2,⟨e5,e6⟩,?_⟩
     ·dsimp only
      split<;>rfl
     ·have j7:c=0:=by omega
      subst j7
      rw [k1,k2]
      rw [Ew,Dx] at e7⊢
      rw [k4 i i1 (by omega)];exact e7
    ·omega
  ·rw [g]
   exact SK _ _ (h.2.tmps t)
theorem nK {ins:List (Bool×CK)} {as:List AC} {pl:List Nat} {st:St} :(pj ins as pl st).tmps=st.tmps:=by
 unfold pj
 split
 ·rfl
 ·split<;>rfl
theorem IP {ins:List (Bool×CK)} {as:List AC} {pl:List Nat} {st:St} {m:Nat} (hm:m∉pl):At (pj ins as pl st).heap m=At st.heap m:=by
 unfold pj
 split
 ·rfl
 ·rename_i l r
  split
  ·exact Dv _ _ _ _ λe=>hm (e▸Ik)
  ·rfl
theorem PC {ins:List (Bool×CK)} {as:List AC} {l:Nat} {st:St} {tid:TypeId} {vs:List AC} (hl:At st.heap l=some (.var tid vs)):At (pj ins as [l] st).heap l=some (.var tid (fg ins vs as)):=by
 simp only [pj,St.at,hl]
 exact Eo _ _ _ _ hl
theorem vO {α:Type} (ins:List (Bool×CK)) (as:List α):fg ins [] as= []:=by
 rcases ins with _|⟨⟨_|_,c⟩,r⟩<;>rfl
theorem nG {α:Type} : ∀(ins:List (Bool×CK)) (vs as:List α),(fg ins vs as).length=vs.length
 | [],vs,as=>by rw [fg];all_goals simp
 |p::r,[],as=>by rw [vO]
 |(true,c)::r,v::vs,as=>by simp only [fg,Aw,nG r vs as]
 |(false,c)::r,v::vs,[]=>by rw [fg];all_goals simp
 |(false,c)::r,v::vs,a::as=>by simp only [fg,Aw,nG r vs as]
theorem OR {st:St} {a:Act} (h:Bg X π st a w) {s:MSpec} {ld:List AV} {vs:List Value} (hlen:ld.length=vs.length) (SK: ∀(i:Nat) c v,ld[i]?=some c->vs[i]?=some v->Bn X w π st.heap c v)
  {pl:List Nat} {cells:List AC} {rest:List AV} (he:LR st s ld=some (pl,cells,rest)):
  ∃(g:Nat) (cus wb:List Value),rest.length=wb.length/\(∀(i:Nat) c v,rest[i]?=some c->wb[i]?=some v->Bn X w π st.heap c v)/\Mn X w π st.heap cells cus/\
   ((s.ptr=none/\pl= []/\cells= []/\cus= []/\vs=wb)\/
    ∃p l q,s.ptr=some p/\pl= [l]/\π l=some q/\q.Cq q.g/\g=q.g/\At st.heap l=some (.var p.1 cells)/\cells.length=p.2/\vs= .pointer (some ⟨g,0,none⟩)::wb/\w.heap[g]?=some (.cells cus.toArray p.1 (0,0))/\Fg X w π st.heap cells cus):=by
 unfold LR at he
 split at he
 ·rename_i hp
  simp only [Aa,Ad] at he
  obtain ⟨rfl,rfl,rfl⟩:=he
  exact ⟨0,[],vs,hlen,SK,trivial, .inl ⟨hp,rfl,rfl,rfl,rfl⟩⟩
 ·rename_i p hp
  split at he
  ·rename_i l i Apm
   split at he
   ·rename_i tid cs hl
    split at he
    ·rename_i hc
     obtain ⟨rfl,hc,rfl⟩:=hc
     simp only [Aa,Ad] at he
     obtain ⟨rfl,rfl,rfl⟩:=he
     unfold St.at at hl
     cases vs with
     |nil=>simp at hlen
     |cons v vs=>
      obtain ⟨r,Tw,vs',h1,h2,rfl⟩:=SK 0 _ v rfl rfl
      rw [hl] at h1;cases h1
      obtain ⟨r',h3,h4,cur,h5,h6⟩:=(h.1.heap l).Qw hl
      rw [h2] at h3;cases h3
      exact ⟨r.g,cur.toList,vs,by simpa using hlen,λi c v h7 h8=>SK (i+1) c v (by simpa using h7) (by simpa using h8),Mn.of h6, .inr ⟨p,l,r,hp,rfl,h2,h4,rfl,hl,hc,rfl,by simpa using h5,h6⟩⟩
    ·cases he
   ·cases he
  ·cases he
theorem iP {V:List Nat} {πc:Pi} {dead part:List Nat} (hπ: ∀l,l∉dead->π' l=π l) (Wx: ∀l b sz n,l∉dead->At H l=some b->b.row=some (sz,n)-> ∃b',At H' l=some b'/\b'.row=some (sz,n)):
  ∀(ins:List (Bool×CK)) (k:Nat) (cells mK:List AC) (x:Ins.den ins) (us:List Value) (o:IOs.den ins) (cur st1:St) (news:List AC) (Vw cs:List Value),p6 X w π V H πc k ins x (cells++mK) us->Vi ins cells=true->
   Hi ins o (cells++mK) cur=some st1->El πc k ins o cells.length cs Vw->Mn X w' π' H' news Vw->Mn X w' π' H' (fg ins (cells.map (Cn dead part)) news) cs
 |ins,k,[],mK,x,us,o,cur,st1,news,Vw,cs,_,_,_,hb,_=>by
  have hb:cs= []:=by rcases ins with _|⟨⟨_|_,c⟩,r⟩<;>(try cases c)<;>simpa [El] using hb
  rw [hb,List.map_nil,vO]
  trivial
 | [],k,a::cells,mK,x,us,o,cur,st1,news,Vw,cs,_,hk,_,_,_=>by simp [Vi] at hk
 |(true, .Hx τ)::r,k,a::cells,mK,x,us,o,cur,st1,news,Vw,cs,_,hk,_,_,_=>by simp [Vi] at hk
 |(true, .part e te)::r,k,a::cells,mK,x,us,o,cur,st1,news,Vw,cs,_,hk,_,_,_=>by simp [Vi] at hk
 |(true, .Bo e te _)::r,k,a::cells,mK,x,us,o,cur,st1,news,Vw,cs,_,hk,_,_,_=>by simp [Vi] at hk
 |(true, .row e te)::r,k,a::cells,mK,x,us,o,cur,st1,news,Vw,cs,ht,hk,hp,hb,hn=>by
  cases a<;>simp only [Vi,Cx] at hk
  rename_i l off len
  cases us with
  |nil=>exact ht.elim
  |cons u0 us=>
  cases cs with
  |nil=>exact hb.elim
  |cons u cs=>
  obtain ⟨⟨_,h1⟩,h2⟩:=ht
  simp only [Sw] at h1
  obtain ⟨h3,rfl,rfl,fr,tr,h4⟩:=h1
  obtain ⟨h5,h6⟩:=hb
  simp only [Jy,Hi] at hp
  split at hp
  rotate_left
  ·cases hp
  rename_i Za hpc
  have SX:List.length o.1=List.length x.1:=by
   simp only [bq] at hpc
   repeat' split at hpc
   all_goals first|(cases hpc;done)|(rename_i hc;exact hc.2.1)
  refine ⟨?_,iP hπ Wx r (k+1) cells mK x.2 us o.2 Za st1 news Vw cs h2 hk hp h6 hn⟩
  by_cases hd:l∈dead
  ·have:Cn dead part (.own l 0 (List.length x.1))= .undef:=by
    unfold Cn
    rw [Ac (by simp [AC.refs,hd])]
   rw [this];trivial
  ·rw [bD (by simpa [AC.refs] using hd) (by intro l i j e;rcases e with e|e<;>cases e)]
   obtain ⟨b',g1,g2⟩:=Wx l _ e.size (List.length x.1) hd h4 rfl
   refine ⟨b',e.size,List.length x.1,g1,g2,by omega,?_⟩
   rw [hπ l hd]
   rw [h3,SX] at h5
   cases hp:π l<;>(rw [hp] at h5;exact h5)
 |(true, .Gz e te)::r,k,a::cells,mK,x,us,o,cur,st1,news,Vw,cs,ht,hk,hp,hb,hn=>by
  cases a<;>simp only [Vi,Cx] at hk
  rename_i l off len
  cases us with
  |nil=>exact ht.elim
  |cons u0 us=>
  cases cs with
  |nil=>exact hb.elim
  |cons u cs=>
  obtain ⟨⟨_,h1⟩,h2⟩:=ht
  simp only [Sw] at h1
  obtain ⟨h3,rfl,rfl,h4⟩:=h1
  obtain ⟨h5,h6⟩:=hb
  simp only [Jy,Hi] at hp
  split at hp
  rotate_left
  ·cases hp
  rename_i Za hpc
  have SX:List.length o.1=List.length x.1:=by
   simp only [bq] at hpc
   repeat' split at hpc
   all_goals first|(cases hpc;done)|(rename_i hc;exact hc.2.1)
  refine ⟨?_,iP hπ Wx r (k+1) cells mK x.2 us o.2 Za st1 news Vw cs h2 hk hp h6 hn⟩
  by_cases hd:l∈dead
  ·have:Cn dead part (.own l 0 (List.length x.1))= .undef:=by
    unfold Cn
    rw [Ac (by simp [AC.refs,hd])]
   rw [this];trivial
  ·rw [bD (by simpa [AC.refs] using hd) (by intro l i j e;rcases e with e|e<;>cases e)]
   obtain ⟨b',g1,g2⟩:=Wx l _ e.size (List.length x.1) hd h4 rfl
   refine ⟨b',e.size,List.length x.1,g1,g2,by omega,?_⟩
   rw [hπ l hd]
   rw [h3,SX] at h5
   cases hp:π l<;>(rw [hp] at h5;exact h5)
 |(false,c)::r,k,a::cells,mK,x,[],o,cur,st1,news,Vw,cs,ht,hk,hp,hb,hn=>ht.elim
 |(false,c)::r,k,a::cells,mK,x,u0::us,o,cur,st1,news,Vw,[],ht,hk,hp,hb,hn=>by cases c<;>exact hb.elim
 |(false,c)::r,k,a::cells,mK,x,u0::us,o,cur,st1,news,[],u::cs,ht,hk,hp,hb,hn=>by cases c<;>exact hb.elim
 |(false,c)::r,k,a::cells,mK,x,u0::us,o,cur,st1,[],u'::Vw,u::cs,ht,hk,hp,hb,hn=>hn.elim
 |(false,c)::r,k,a::cells,mK,x,u0::us,o,cur,st1,na::news,u'::Vw,u::cs,ht,hk,hp,hb,hn=>by
  have hb2:u=u'/\El πc (k+1) r o cells.length cs Vw:=by cases c<;>exact hb
  obtain ⟨rfl,hb3⟩:=hb2
  have hp:Hi r o (cells++mK) cur=some st1:=by cases c<;>simpa only [Jy,Hi] using hp
  have hk:Vi r cells=true:=by cases c<;>simpa only [Vi] using hk
  exact ⟨hn.1,iP hπ Wx r (k+1) cells mK x.2 us o cur st1 news Vw cs ht.2 hk hp hb3 hn.2⟩
theorem DN {V:List Nat} {πc:Pi} : ∀(cs:List (Bool×CK)) (k0:Nat) (x:Ins.den cs) (as:List AC) (us:List Value),k0+cs.length<100000->p6 X w π V H πc k0 cs x as us-> ∀k l,(Dr false k,Loc.row l)∈Lh k0 cs as->πc (Dr false k)=(π l).map full
 | [],_,_,[],_,_,_,_,_,h=>by cases h
 | [],_,_,_::_,_,_,_,_,_,h=>by cases h
 |_::_,_,_,[],_,_,_,_,_,h=>by cases h
 |_::_,_,_,_::_,[],_,h,_,_,_=>h.elim
 |(io,c)::r,k0,x,a::as,u::us,hk,h,k,l,ht=>by
  simp only [Aw] at hk
  simp only [Lh] at ht
  rcases Az.1 ht with ht|ht
  ·obtain ⟨⟨_,h1⟩,_⟩:=h
   cases c with
   |Hx τ=>cases a<;>simp [Pw,views] at ht
   |row e te=>
    cases a<;>simp [Pw] at ht
    obtain ⟨e1,rfl⟩:=ht
    simp only [Sw] at h1
    rw [e1];exact h1.1
   |Gz e te=>
    cases a<;>simp [Pw] at ht
    obtain ⟨e1,rfl⟩:=ht
    simp only [Sw] at h1
    rw [e1];exact h1.1
   |part e te=>
    cases a<;>simp [Pw] at ht
    obtain ⟨e1,rfl⟩:=ht
    simp only [Sw] at h1
    rw [e1];exact h1.2.1
   |Bo e te kp=>
    cases a<;>simp [Pw] at ht
    obtain ⟨e1,rfl⟩:=ht
    simp only [Sw] at h1
    rw [e1];exact h1.2.1
  ·exact DN r (k0+1) x.2 as us (by omega) h.2 k l ht
theorem p9 {st:St} {a:Act} (h:Bg X π st a w) {f:FuncId} {s:MSpec} (hs:Da P f s) (dst:Option Nat) (ld:List AV) (vs:List Value) (hlen:ld.length=vs.length)
  (SK: ∀(i:Nat) c v,ld[i]?=some c->vs[i]?=some v->Bn X w π st.heap c v) (av:AV) (st':St) (he:Wr st dst s ld=some (av,st')):
  Calls P f vs.toArray w λe w'=> ∃v,e= .returned v/\ ∃π',Bg X π' st' a w'/\Bn X w' π' st'.heap av v:=by
 unfold Wr at he
 split at he
 ·cases he
 rename_i pl cells rest Amo
 split at he
 ·cases he
 rename_i mK mL
 split at he
 ·cases he
 rename_i x tks htk
 split at he
 rotate_left
 ·cases he
 rename_i Je
 simp only [Ag,Ms] at Je
 obtain ⟨⟨⟨⟨lQ,qY⟩,hon⟩,dP⟩,Agq,NF⟩:=Je
 have NF: ∀l∈pl,l∉(tks.map λt=>t.2.Vx)/\l∉Rn s tks (dst.getD 0):= λl hl=>by
  have:=Ba.1 NF l hl
  simp only [Fk,<-Hs,Hk] at this
  exact ⟨λhm=>this (Bj _ hm),λhm=>this (Cc _ hm)⟩
 split at he
 ·cases he
 rename_i r o hfn
 split at he
 ·cases he
 rename_i st1 TD
 obtain ⟨g,cus,wb,lP,Ale,Amr,hpt⟩:=OR h hlen SK Amo
 obtain ⟨ue,rfl,GJ,Amq⟩:=Yw s.Ih rest wb mK lP Ale mL
 have hrc:=Amr.append Amq
 have Qk:mM s w g (cus++ue) vs:=by
  unfold mM
  rcases hpt with ⟨h1,_,_,h2,h3⟩|⟨p,l,q,h1,_,_,_,_,_,h2,h3,h4,h5⟩
  ·rw [h1];subst h2;exact ⟨h3,GJ⟩
  ·rw [h1]
   have hl:cus.length=p.2:=h5.1.trans h2
   simp only
   rw [List.drop_append_of_le_length (by omega),List.take_append_of_le_length (by omega),List.take_of_length_le (by omega),List.drop_of_length_le (by omega)]
   refine ⟨h3,GJ,by simp;omega,h4,λu hu=>?_⟩
   obtain ⟨i,hi,rfl⟩:=Bx.1 hu
   obtain ⟨u',h6,h7,_⟩:=h5.2 i (cells[i]'(by have:=h5.1;omega)) (Ab _)
   rw [Ab hi] at h6
   rw [Ax h6];exact h7
 have NG: ∀l∈pl,∃p q,s.ptr=some p/\pl= [l]/\π l=some q/\q.Cq q.g/\g=q.g/\At st.heap l=some (.var p.1 cells)/\cells.length=p.2:= λl hl=>by
  rcases hpt with ⟨_,h1,_⟩|⟨p,l',q,h1,h2,h3,h4,h5,h6,h7,_⟩
  ·rw [h1] at hl;cases hl
  ·rw [h2] at hl
   have:=Ae.1 hl
   subst this
   exact ⟨p,q,h1,h2,h3,h4,h5,h6,h7⟩
 have NA: ∀b,s.gv g b-> ∃l∈pl,∃q,π l=some q/\q.Cq b/\b=q.g:= λb ⟨h1,h2⟩=>by
  rcases hpt with ⟨h3,_⟩|⟨p,l',q,_,h4,h5,h6,h7,_⟩
  ·rw [h3] at h1;cases h1
  ·exact ⟨l',by rw [h4];exact Ae.2 rfl,q,h5,by rw [h2,h7];exact h6,h2.trans h7⟩
 obtain ⟨as,has⟩: ∃as,as=cells++mK:=⟨_,rfl⟩
 obtain ⟨us,TH⟩: ∃us,us=cus++ue:=⟨_,rfl⟩
 rw [<-has] at hrc htk TD
 rw [<-TH] at hrc Qk
 let V:=(tks.filter λt=>t.2.reads).map λt=>t.2.Vx
 have hV: ∀t∈tks,t.2.reads=true->t.2.Vx∈V:= λt ht hr=>Be.2 ⟨t,Bd.2 ⟨ht,hr⟩,rfl⟩
 have hV': ∀l∈V,∃t∈tks,t.2.reads=true/\t.2.Vx=l:= λl hl=>by
  obtain ⟨t,h1,h2⟩:=Be.1 hl
  exact ⟨t,(Bd.1 h1).1,(Bd.1 h1).2,h2⟩
 clear_value V
 obtain ⟨XB,πc,hT,SN,Am1,Vg⟩:=sK h.1 (V:=V) s.ins 0 as us x tks (by omega) hrc htk hV
 have GB:=Xd lQ
 rw [XB] at GB
 have cS: ∀b,Ut πc b-> ∃t∈Lh 0 s.ins as,t.2.reads=false/\ ∃q,π t.2.Vx=some q/\q.Cq b/\ ∀l i j,t.2= .sub l i j->b≠q.g:= λb ⟨c,q,h1,h2⟩=>by
  obtain ⟨t,t1,_,t3⟩:=Vg c q b h1 h2
  exact ⟨t,t1,t3⟩
 have GF: ∀b,Ut πc b->Ut π b:= λb hb=>let ⟨t,_,_,q,h1,h2,_⟩:=cS b hb;⟨_,q,h1,h2⟩
 have fC:fQ πc (λb=>b<w.heap.size):=⟨λl q b h1 h2=>(h.1.own (GF b ⟨l,q,h1,h2⟩)).1,λl l' q q' b h1 h2 h3 h4=>by
  obtain ⟨t,t1,t2,_,p,t3,t4,_⟩:=Vg l q b h1 h3
  obtain ⟨t',t1',t2',_,p',t3',t4',_⟩:=Vg l' q' b h2 h4
  have:=xg GB t1 t1' (h.1.apart t3 t3' t4 t4')
  rw [<-t2,<-t2',this]⟩
 have Ag7: ∀k l,(Dr false k,Loc.row l)∈Lh 0 s.ins as->πc (Dr false k)=(π l).map full:= λk l ht=>
  DN s.ins 0 x as us (by omega) hT k l ht
 have Ahv: ∀b,Ut πc b->Oc X π V b:= λb hb=> .inl ⟨GF b hb,λl hl r' hr hf=>by
  obtain ⟨t,t1,t0,q,t3,t4,_⟩:=cS b hb
  obtain ⟨t',t1',t2',rfl⟩:=hV' l hl
  rw [XB] at t1'
  have:=xg GB t1 t1' (h.1.apart t3 hr t4 hf)
  subst this
  rw [t0] at t2';cases t2'⟩
 let S:Nat->Prop:= λb=> ¬Ut πc b/\Oc X π V b
 have hS: ∀b,S b->b<w.heap.size/\ ¬Ut πc b:= λb hb=>⟨by
  rcases hb.2 with h1|h1
  ·exact (h.1.own h1.1).1
  ·exact Ea (h.1.sc b h1).1 h.1.below.size,hb.1⟩
 have YR: ∀l∈pl,∀t∈Lh 0 s.ins as,t.2.Vx≠l:= λl hl t ht e=>(NF l hl).1 (Be.2 ⟨t,XB▸ht,e⟩)
 have hSg:s.ptr.isSome=true->S g:= λKZ=>by
  obtain ⟨l,hl,q,h1,h2,h3⟩:=NA g ⟨KZ,rfl⟩
  have hno: ¬Ut πc g:= λhb=>by
   obtain ⟨t,t1,_,q',t3,t4,_⟩:=cS g hb
   exact YR l hl t t1 (h.1.apart t3 h1 t4 h2)
  refine ⟨hno, .inl ⟨⟨l,q,h1,h2⟩,λl' Ll r' ja hf=>?_⟩⟩
  obtain ⟨t',t1',_,rfl⟩:=hV' l' Ll
  rw [XB] at t1'
  exact YR l hl t' t1' (h.1.apart ja h1 hf h2)
 refine (hs.calls w S πc us x r o g vs Qk hSg (dy.Ij (λb hb=>hb.elim (Ahv b) λh=>h.2) s.ins 0 x us (hT.Ai3 s.ins 0 x as us)) fC hS Am1 hfn).mono ?_
 rintro e w' ⟨v,Vw,za,rfl,dQ,oh,YF,wV,Ah2,TB,Adr,uQ⟩
 obtain ⟨ρ,YY,GD,TA,Aax⟩: ∃ρ:Pi,(∀l,ρ l=(za l).map full)/\Iq w' (j5 S πc za) ρ 0 s.outs r Vw/\fQ ρ (λb=>b<w'.heap.size/\(w.heap.size<=b\/ ∃l q,l<Bl/\πc l=some q/\q.Cq b))/\ ∀l q,ρ l=some q->q.cl=q.Cq:=by
  have un: ∀l q,(za l).map full=some q-> ∃q0,za l=some q0/\q=full q0:= λl q hq=>by
   cases hp:za l with
   |none=>rw [hp] at hq;cases hq
   |some q0=>rw [hp] at hq;exact ⟨q0,rfl,(Ax hq).symm⟩
  refine ⟨λl=>(za l).map full,λ_=>rfl,Iq.full s.outs 0 r Vw Ah2,⟨λl q b h1 h2=>?_,λl l' q q' b h1 h2 h3 h4=>?_⟩,λl q h1=>?_⟩
  ·obtain ⟨q0,h5,rfl⟩:=un l q h1
   exact TB.Yh l q0 b h5 h2
  ·obtain ⟨q0,h5,rfl⟩:=un l q h1
   obtain ⟨q0',h6,rfl⟩:=un l' q' h2
   exact TB.inj l l' q0 q0' b h5 h6 h3 h4
  ·obtain ⟨q0,_,rfl⟩:=un l q h1
   rfl
 refine ⟨v,rfl,?_⟩
 split at he
 ·cases he
 rename_i av0 fD
 split at he
 rotate_left
 ·cases he
 rename_i Wy
 simp only [Aa,Ad] at he
 obtain ⟨rfl,rfl⟩:=he
 let D1:Nat->Prop:=if s.flat then λ_=>True else j5 S πc za
 have Am4:Lu w' D1 πc 0 s.ins o:=by
  show Lu w' (if s.flat then λ_=>True else j5 S πc za) πc 0 s.ins o
  split
  ·rename_i hf
   unfold MSpec.flat at hf
   simp only [Ag] at hf
   exact Lu.any s.ins 0 o hf.2 wV
  ·exact wV
 have Ah3:Iq w' D1 ρ 0 s.outs r Vw:=by
  show Iq w' (if s.flat then λ_=>True else j5 S πc za) ρ 0 s.outs r Vw
  split
  ·rename_i hf
   unfold MSpec.flat at hf
   simp only [Ag] at hf
   exact Iq.any s.outs 0 r Vw hf.1 GD
  ·exact GD
 obtain ⟨q1,q2,q3,q4⟩:=rU (D:=D1) (X:=X) (π:=π) (H:=st.heap) h.1 YF.size (tks:=Lh 0 s.ins as) (πc:=πc) (λt ht q b hq hb Jl hn=>YF.block b Jl λGC=>by
   rcases GC with ⟨c,r',h1,h2⟩|hg
   rotate_left
   ·obtain ⟨l,hl,q',h1,h2,_⟩:=NA b hg
    exact YR l hl t ht (h.1.apart hq h1 hb h2)
   obtain ⟨t',t1,t2,_,p,t3,t4,_⟩:=Vg c r' b h1 h2
   have:=xg GB ht t1 (h.1.apart hq t3 hb t4)
   subst this
   exact hn r' (t2▸h1) h2) s.ins 0 x as us o st st1 (by omega) (λ_ h=>h) GB hT Am4 TD (λ_ _=>rfl)
 have Adg: ∀t∈Lh 0 s.ins as,t.2.reads=true->t.1<Bl:=by
  have: ∀(cs:List (Bool×CK)) (k:Nat) (as:List AC),k+cs.length<100000-> ∀t∈Lh k cs as,t.2.reads=true->t.1<Bl:=by
   intro cs
   induction cs with
   |nil=>intro k as _ t ht;cases as<;>cases ht
   |cons p r ih=>
    intro k as hk t ht hr
    simp only [Aw] at hk
    cases as with
    |nil=>cases ht
    |cons a as=>
     simp only [Lh] at ht
     rcases Az.1 ht with ht|ht
     ·rcases DM ht with ⟨_,h1⟩|⟨h1,_⟩
      ·rw [hr] at h1;cases h1
      ·rw [h1];exact ej (by omega)
     ·exact ih (k+1) as (by omega) t ht hr
  exact this s.ins 0 as (by omega)
 let d:=dst.getD 0
 let ks:=Rn s tks d
 let dead:=lq tks++ks++(if s.flat then [] else yN tks)
 let part:=whole tks
 have Amt:s.outs.length+(kS s d).length=s.Tr:=by unfold MSpec.Tr kS;cases s.rp<;>rfl
 obtain ⟨Ad3,Amb,Ab6⟩:ks.length=s.Tr/\ks.Nodup/\ ∀l∈ks,l<Bl:=by
  have:=GX qY
  rw [Amt] at this
  exact this
 have hno:s.outs.length<=s.Tr:=by unfold MSpec.Tr;omega
 have YW: ∀tid,s.rp=some tid->Dy ks s.outs.length=Ss d/\s.Tr=s.outs.length+1:= λtid Wz=>by
  have h1:s.Tr=s.outs.length+1:=by unfold MSpec.Tr;rw [Wz]
  refine ⟨?_,h1⟩
  have h2:ks=lh s tks d++ [Ss d]:=by show lh s tks d++kS s d=_;unfold kS;rw [Wz]
  have h3:(lh s tks d).length=s.outs.length:=by rw [h2] at Ad3;simp at Ad3;omega
  rw [Qx (by rw [Ad3];omega)]
  simp only [h2]
  rw [List.getElem_append_right (by omega)]
  simp [h3]
 have SW:=zv Amb Ab6
 have Am9: ∀j,j<s.Tr->Dy ks j<Bl:= λj hj=>Ab6 _ (mem_keys.2 ⟨j,by omega,rfl⟩)
 let π':Pi:= λl=>match (List.range s.Tr).find? λj=>decide (Dy ks j=l) with
  |some j=>ρ (Jn j)
  |none=>if l∈dead then none else π l
 have tq: ∀j,j<s.Tr->π' (Dy ks j)=ρ (Jn j):= λj hj=>by
  show (match (List.range s.Tr).find? λi=>decide (Dy ks i=Dy ks j) with|some i=>ρ (Jn i)|none=>_)=_
  cases hf:(List.range s.Tr).find? λi=>decide (Dy ks i=Dy ks j) with
  |none=>
   have:=List.find?_eq_none.1 hf j (Ej.2 hj)
   simp at this
  |some i=>
   have:=List.find?_some hf
   rw [SW i j (Ex this)]
 have qX: ∀j,j<s.Tr->Dy ks j∈dead:= λj hj=>Bj _ (Cc _ (mem_keys.2 ⟨j,by omega,rfl⟩))
 have wW: ∀l,(¬ ∃j,j<s.Tr/\l=Dy ks j)->π' l=if l∈dead then none else π l:= λl hl=>by
  show (match (List.range s.Tr).find? λi=>decide (Dy ks i=l) with|some i=>ρ (Jn i)|none=>_)=_
  cases hf:(List.range s.Tr).find? λi=>decide (Dy ks i=l) with
  |none=>rfl
  |some i=>
   have h1:=List.find?_some hf
   exact absurd ⟨i,Ej.1 (List.mem_of_find?_eq_some hf),(Ex h1).symm⟩ hl
 have TM: ∀l,l∉dead->π' l=π l:= λl hl=>by
  rw [wW l (λ⟨j,h1,h2⟩=>hl (h2▸qX j h1)),Ai hl]
 have hD1: ∀b,Ut π' b\/X.Sc b->D1 b:=by
  intro b hb
  show (if s.flat then λ_=>True else j5 S πc za) b
  split
  ·trivial
  rename_i hnf
  rcases hb with ⟨l,q,hl,hf⟩|hb
  ·by_cases hk: ∃j,j<s.Tr/\l=Dy ks j
   ·obtain ⟨j,hj,rfl⟩:=hk
    rw [tq j hj,YY] at hl
    cases hp:za (Jn j) with
    |none=>rw [hp] at hl;cases hl
    |some q0=>rw [hp] at hl;simp only [Ak,Aa] at hl;subst hl;exact .inr (.inr ⟨Jn j,q0,hp,hf⟩)
   ·have e0:π' l=if l∈dead then none else π l:=wW l hk
    rw [e0] at hl
    split at hl
    ·cases hl
    ·rename_i YO
     by_cases ho:Ut πc b
     ·obtain ⟨c,q',hc,hcb⟩:=ho
      obtain ⟨t,t1,t2,t0,p,t3,t4,_⟩:=Vg c q' b hc hcb
      have wX:=h.1.apart hl t3 hf t4
      refine .inr (.inl ⟨c,q',Bf λhn=>?_,hc,hcb⟩)
      exact YO (Bj _ (Bj _ (cZ.2 ⟨t,XB▸t1,⟨by rw [t2];omega,t0⟩,wX.symm⟩)))
     ·refine .inl ⟨ho, .inl ⟨⟨l,q,hl,hf⟩,λl0 hl0 r0 YT hf0=>?_⟩⟩
      have:=h.1.apart hl YT hf hf0
      subst this
      exact YO (Cc _ (by rw [Ai hnf];exact rE.2 (hV' l hl0)))
  ·refine .inl ⟨λho=>?_, .inr hb⟩
   have h1:=h.1.sc b hb
   rcases (h.1.own (GF b ho)).2 with h2|h2
   ·omega
   ·exact h1.2 h2
 have hpd: ∀l∈pl,l∉dead:= λl hl hd=>by
  rcases Az.1 hd with hd|hd
  ·rcases Az.1 hd with hd|hd
   ·obtain ⟨t,ht,_,e⟩:=cZ.1 hd
    exact (NF l hl).1 (Be.2 ⟨t,ht,e⟩)
   ·exact (NF l hl).2 hd
  ·split at hd
   ·cases hd
   ·obtain ⟨t,ht,_,e⟩:=rE.1 hd
    exact (NF l hl).1 (Be.2 ⟨t,ht,e⟩)
 have Ad2: ∀j,j<s.Tr->Dy ks j∉pl:= λj hj hp=>hpd _ hp (qX j hj)
 let bv:Option OB:=s.rp.map λtid=> .var tid ((aY (Dy ks) 0 s.outs r).drop s.Zp)
 let H1:=(pj s.ins (aY (Dy ks) 0 s.outs r) pl (st1.bC dead part)).heap
 have hH1: ∀l,l∉pl->At H1 l=if l∈dead then none else (At st1.heap l).map (OB.map (Cn dead part)):= λl hl=>by
  show At (pj _ _ _ _).heap l=_
  rw [IP hl]
  show At (Wo (st1.heap.map λp=>(p.1,p.2.map (Cn dead part))) dead) l=_
  rw [Nf,Og]
 let H2:=AJ H1 (Ss d) bv
 have hvd: ∀tid,s.rp=some tid->Ss d∈dead/\Ss d∉pl:= λtid Wz=>by
  obtain ⟨e1,e2⟩:=YW tid Wz
  rw [<-e1]
  exact ⟨qX _ (by omega),Ad2 _ (by omega)⟩
 have Ag3: ∀l,(∀tid,s.rp=some tid->l≠Ss d)->At H2 l=At H1 l:= λl hl=>by
  show At (AJ H1 (Ss d) (s.rp.map _)) l=_
  cases EN:s.rp with
  |none=>rfl
  |some tid=>exact Ox _ _ _ _ (hl tid EN)
 have Al1: ∀tid,s.rp=some tid->At H2 (Ss d)=some (.var tid ((aY (Dy ks) 0 s.outs r).drop s.Zp)):= λtid Wz=>by
  show At (AJ H1 (Ss d) (s.rp.map _)) (Ss d)=_
  rw [Wz]
  exact Pz _ _ _ (by rw [hH1 _ (hvd tid Wz).2,Ac (hvd tid Wz).1])
 have hkv: ∀j,j<s.outs.length-> ∀tid,s.rp=some tid->Dy ks j≠Ss d:= λj hj tid Wz e=>by
  have:=SW j s.outs.length (e.trans (YW tid Wz).1.symm)
  omega
 have hH2: ∀l,l∉pl->(∀tid,s.rp=some tid->l≠Ss d)->At H2 l=if l∈dead then none else (At st1.heap l).map (OB.map (Cn dead part)):= λl hl hv=>by
  rw [Ag3 l hv,hH1 l hl]
 let H':=Xe (KG st (lq tks)) (Dy ks) 0 s.outs r H2
 obtain ⟨n1,n2,n3⟩:=oI (D:=D1) (X:=X) (key:=Dy ks) SW (fr:=KG st (lq tks)) (ρ:=ρ) s.outs 0 r Vw H2 Ah3 (λj _ hj=>by
  rw [hH2 _ (Ad2 j (by omega)) (hkv j (by omega)),Ac (qX j (by omega))])
 have nd: ∀l,l∉dead->l∉pl->At H' l=(At st1.heap l).map (OB.map (Cn dead part)):= λl hl qZ=>by
  show At (Xe _ _ _ _ _ _) l=_
  rw [n1 l λj _ hj e=>hl (e▸qX j (by omega)),hH2 l qZ (λtid Wz e=>hl (e▸(hvd tid Wz).1)),Ai hl]
 have YC: ∀l,l∈dead->(∀j,j<s.Tr->l≠Dy ks j)->At H' l=none:= λl hl hj=>by
  show At (Xe _ _ _ _ _ _) l=_
  rw [n1 l λj _ h2=>hj j (by omega),hH2 l (λhp=>hpd l hp hl) (λtid Wz e=>hj s.outs.length (by have:=(YW tid Wz).2;omega) (e.trans (YW tid Wz).1.symm)),Ac hl]
 have newAt: ∀l b',At H' l=some b'->(l∈dead\/At st.heap l=none)-> ∃j,j<s.Tr/\l=Dy ks j:=by
  intro l b' hb hd
  refine Bf λhn=>?_
  have pN: ∀j,j<s.Tr->l≠Dy ks j:= λj hj e=>hn ⟨j,hj,e⟩
  rcases Classical.em (l∈dead) with MZ|MZ
  ·rw [YC l MZ pN] at hb;cases hb
  ·rcases hd with hd|hd
   ·exact MZ hd
   ·rw [nd l MZ (λhp=>by obtain ⟨_,_,_,_,_,_,_,h1,_⟩:=NG l hp;rw [hd] at h1;cases h1)] at hb
    have:At st1.heap l=none:=by
     by_cases hi: ∃t∈Lh 0 s.ins as,t.2.Vx=l
     ·obtain ⟨t,ht,e⟩:=hi
      by_cases Jl:t.1<Bl
      ·rw [<-e,q3 t ht Jl,e];exact hd
      ·obtain ⟨b0,_,h1,_⟩:=q4 t ht Jl
       rw [e,hd] at h1;cases h1
     ·rw [q2 l λt ht e=>hi ⟨t,ht,e.symm⟩];exact hd
    rw [this] at hb;cases hb
 have Acr: ∀k,KG st (lq tks)=true-> ∀q,ρ (Jn k)=some q->q.Cq q.g->X.w0.heap.size<=q.g:=by
  intro k wU q hq hg
  rcases (TA.Yh _ q _ hq hg).2 with h1|⟨c,p,h1,h2,h3⟩
  ·exact Ek h.1.below.size h1
  ·obtain ⟨t,t1,t2,t0,p',t3,t4,_⟩:=Vg c p _ h2 h3
   have hm:t.2.Vx∈lq tks:=cZ.2 ⟨t,XB▸t1,⟨by rw [t2];exact h1,t0⟩,rfl⟩
   have:=Ba.1 wU _ hm
   split at this
   ·rename_i fr tr e te xs hl
    unfold St.at at hl
    have hb:=(h.1.heap t.2.Vx).Qw hl
    simp only [Cd,Jk,t3] at hb
    rw [hb.1.2.1 _ t4]
    exact hb.1.2.2 this
   ·cases this
 have Acp: ∀k q,ρ (Jn k)=some q->k<s.outs.length->q.Cq q.g:=by
  intro k q hq hk
  exact Iq.Aaj s.outs 0 r Vw GD k (Iz _) ((Cj _).symm▸hk) q hq
 have hinv: ∀l,l∉dead->(∃t∈Lh 0 s.ins as,t.2.reads=false/\t.2.Vx=l)->l6 X D1 w' π st.heap st1.heap l:=by
  rintro l hd ⟨t,ht,h0,rfl⟩
  by_cases Jl:t.1<Bl
  ·exact absurd (Bj _ (Bj _ (cZ.2 ⟨t,XB▸ht,⟨Jl,h0⟩,rfl⟩))) hd
  ·exact q4 t ht Jl
 have wY: ∀l,(¬ ∃t∈Lh 0 s.ins as,t.2.reads=false/\t.2.Vx=l)->At st1.heap l=At st.heap l:= λl hn=>by
  by_cases hi: ∃t∈Lh 0 s.ins as,t.2.Vx=l
  ·obtain ⟨t,ht,rfl⟩:=hi
   have hr:t.2.reads=true:=by
    cases h0:t.2.reads with
    |true=>rfl
    |false=>exact absurd ⟨t,ht,h0,rfl⟩ hn
   exact q3 t ht (Adg t ht hr)
  ·exact q2 l λt ht e=>hi ⟨t,ht,e.symm⟩
 have Aaq: ∀l∈pl,∀p,s.ptr=some p->At H' l=some (.var p.1 (fg s.ins (cells.map (Cn dead part)) (aY (Dy ks) 0 s.outs r))):= λl hl p hp=>by
  obtain ⟨p',q,h1,h2,_,_,_,h3,_⟩:=NG l hl
  rw [hp] at h1;cases h1
  show At (Xe _ _ _ _ _ _) l=_
  rw [n1 l λj _ hj e=>Ad2 j (by omega) (e▸hl),Ag3 l (λtid Wz e=>(hvd tid Wz).2 (e▸hl))]
  show At (pj _ _ _ _).heap l=_
  rw [h2]
  refine PC ?_
  show At (Wo (st1.heap.map λp=>(p.1,p.2.map (Cn dead part))) dead) l=_
  rw [Nf,Og,Ai (hpd l hl),wY l (λ⟨t,ht,_,e⟩=>YR l hl t ht e),h3]
  rfl
 have Ab8: ∀j,j<s.Tr->s.outs.length<=j-> ∃tid,s.rp=some tid/\j=s.outs.length:= λj h1 h2=>by
  cases EN:s.rp with
  |none=>unfold MSpec.Tr at h1;rw [EN] at h1;simp at h1;omega
  |some tid=>exact ⟨tid,rfl,by have:=(YW tid EN).2;omega⟩
 have hHv: ∀tid,s.rp=some tid->At H' (Ss d)=some (.var tid ((aY (Dy ks) 0 s.outs r).drop s.Zp)):= λtid Wz=>by
  show At (Xe _ _ _ _ _ _) _=_
  rw [n1 _ λj _ hj e=>hkv j (by omega) tid Wz e.symm,Al1 tid Wz]
 suffices Ags:Bg X π' (kd st st1 d s pl tks r) a w'/\Bn X w' π' (kd st st1 d s pl tks r).heap av0 v by
  obtain ⟨m1,m2⟩:=Ags
  have uR: ∀(kj:List (Nat×Nat)) (l:Nat),l∈aT st.heap ks tks kj->lY st.heap l=true/\ ∃k j t,(k,j)∈kj/\t∈tks/\t=(Dr false k,Loc.row l)/\ks[j]?=some l:=by
   intro kj
   induction kj with
   |nil=>intro l hl;cases hl
   |cons p kj ih=>
    intro l hl
    obtain ⟨k,j⟩:=p
    have up:l∈aT st.heap ks tks kj->lY st.heap l=true/\ ∃k' j' t,(k',j')∈(k,j)::kj/\t∈tks/\t=(Dr false k',Loc.row l)/\ks[j']?=some l:= λhl=>by
     obtain ⟨h1,k',j',t,h2,h3⟩:=ih l hl
     exact ⟨h1,k',j',t,An _ h2,h3⟩
    simp only [aT] at hl
    split at hl
    ·rename_i x0 l1 l2 h1 h2
     split at hl
     ·rename_i hc
      simp only [Ag] at hc
      rcases Ay.1 hl with rfl|hl
      ·have:=List.find?_some h1
       have e1:=Ja this
       have e2:=Ja hc.1
       dsimp only at e1
       exact ⟨hc.2,k,j,_,Ik,List.mem_of_find?_eq_some h1,by rw [e1],by rw [h2,e2]⟩
      ·exact up hl
     ·exact up hl
    ·exact up hl
  obtain ⟨r1,r2⟩:=GU h m1 (ls:=aT st.heap ks tks s.keeps) (n:=s.Fb x) (λl hl=>by
   obtain ⟨_,k,j,t,h1,h2,h3,h4⟩:=uR s.keeps l hl
   have hj:j<ks.length:=(Am.1 h4).1
   have QX:Dy ks j=l:=by
    rw [Qx hj]
    rw [Ab hj] at h4
    exact Ax h4
   have tt:=uQ (k,j) h1
   rw [show π' l=ρ (Jn j) by rw [<-QX];exact tq j (by omega),YY]
   have hc:πc (Dr false k)=(π l).map full:=Ag7 k l (by rw [<-h3,<-XB];exact h2)
   dsimp only at tt
   rw [hc] at tt
   cases hp:π l<;>cases hq:za (Jn j)<;>(rw [hp,hq] at tt;exact tt)) (λl hl=>(uR s.keeps l hl).1) Wy
  exact ⟨π',r1,r2 av0 v m2⟩
 refine ⟨?_,?_⟩
 ·have hx:=Bg.Acd (π':=π') (H':=H') (dead:=dead) (part:=part) (inv:= λl=>(∃t∈Lh 0 s.ins as,t.2.reads=false/\t.2.Vx=l)\/l∈pl) (gv:= λb=>Ut πc b\/s.gv g b) h (λb hb=>by
    rcases hb with hb|hb
    ·obtain ⟨t,h1,h0,q,h2,h3,_⟩:=cS b hb
     exact ⟨_,q, .inl ⟨t,h1,h0,rfl⟩,h2,h3⟩
    ·obtain ⟨l,hl,q,h1,h2,_⟩:=NA b hb
     exact ⟨l,q, .inr hl,h1,h2⟩) YF (λl b0 hd h0=>⟨TM l hd,?_⟩) (λl b' hb hd=>?_) (λl hl=>?_) (λm q hd hp hm hxa=>?_)
  ·have:({tmps:=(pj s.ins (aY (Dy ks) 0 s.outs r) pl (st1.bC dead part)).tmps,heap:=H'} :St)= {tmps:=st.tmps.map (·.map (Cn dead part)),heap:=H'} :=by
    rw [nK]
    show ({tmps:=st1.tmps.map (·.map (Cn dead part)),heap:=H'} :St)=_
    rw [q1]
   show Bg X π' ({tmps:=(pj s.ins (aY (Dy ks) 0 s.outs r) pl (st1.bC dead part)).tmps,heap:=H'} :St) a w'
   rw [this]
   exact hx
  ·by_cases QW:l∈pl
   ·obtain ⟨p,q,h1,h2,h3,h4,h5,h6,h7⟩:=NG l QW
    rw [h0] at h6;cases h6
    have sT:=Aaq l QW p h1
    refine .inr ⟨_,sT,⟨rfl,by rw [nG]⟩,λm=>?_⟩
    unfold ka at oh
    rw [h1] at oh
    obtain ⟨cs,k1,k2,k3⟩:=oh
    rw [<-h7] at k3
    refine ⟨q,h3,h4,cs.toArray,by rw [<-h5];exact k1,?_⟩
    refine Mn.to (iP (H:=st.heap) TM (λl1 b1 sz n hd1 YE YU=>?_) s.ins 0 cells mK x us o st st1 (aY (Dy ks) 0 s.outs r) Vw cs (has▸hT) Agq (has▸TD) k3 (n3 π' hD1 (λj _ hj=>tq j (by omega)))) (by simpa using k2)
    have hnp:l1∉pl:= λhp=>by
     obtain ⟨_,_,_,_,_,_,_,h8,_⟩:=NG l1 hp
     rw [YE] at h8;cases h8;cases YU
    by_cases hi: ∃t∈Lh 0 s.ins as,t.2.reads=false/\t.2.Vx=l1
    ·obtain ⟨b1,b',e1,e2,e3,e4,e5,e6⟩:=hinv l1 hd1 hi
     rw [YE] at e1;cases e1
     exact ⟨b',by rw [nd l1 hd1 hnp,e2];simp [e4],by rw [e5.row];exact YU⟩
    ·exact ⟨_,by rw [nd l1 hd1 hnp,wY l1 hi,YE];rfl,by rw [OB.xU];exact YU⟩
   by_cases hi: ∃t∈Lh 0 s.ins as,t.2.reads=false/\t.2.Vx=l
   ·obtain ⟨b1,b',e1,e2,e3,e4,e5,e6⟩:=hinv l hd hi
    rw [h0] at e1;cases e1
    exact .inr ⟨b',by rw [nd l hd QW,e2];simp [e4],by rw [e3];exact e5,λ_=>e6 π' H' hD1⟩
   ·exact .inl ⟨λhh=>hh.elim hi QW,by rw [nd l hd QW,wY l hi,h0];rfl⟩
  ·obtain ⟨j,hj,rfl⟩:=newAt l b' hb hd
   refine ⟨Am9 j hj,?_,λq b hq=>?_⟩
   ·rw [tq j hj]
    rcases Nat.lt_or_ge j s.outs.length with hjo|hjo
    ·rcases n2 j (Iz _) (by omega) with ⟨e1,_⟩|⟨b2,e1,e2⟩
     ·rw [show At H' (Dy ks j)=none from e1] at hb;cases hb
     ·rw [show At H' (Dy ks j)=some b2 from e1] at hb;cases hb
      exact e2 X π' H' (λhf q hq=>Acr j hf q hq (Acp j q hq hjo)) hD1
    ·obtain ⟨tid,Wz,hj0⟩:=Ab8 j hj hjo
     subst hj0
     rw [(YW tid Wz).1,hHv tid Wz] at hb;cases hb
     unfold pZ at dQ
     rw [Wz] at dQ
     obtain ⟨q,y1,y2,y3,y4,_⟩:=dQ
     rw [YY,y1]
     exact ⟨full q,rfl,y2,_,y3,Mn.to (Mn.take s.Zp (n3 π' hD1 (λj _ hj=>tq j (by omega)))).2 (by simpa using y4)⟩
   ·rw [tq j hj] at hq
    have Py:=Aax _ q hq
    refine ⟨λhf=>by rw [Py];exact hf,λhf=>?_⟩
    rw [Py] at hf
    obtain ⟨h1,h2⟩:=TA.Yh _ q b hq hf
    refine ⟨h1,h2.imp id ?_,λl2 r2 hd2 uT hf2=>?_⟩
    ·rintro ⟨c,p,h3,h4,h5⟩
     obtain ⟨t,t1,t2,t0,p',t3,t4,_⟩:=Vg c p b h4 h5
     exact ⟨t.2.Vx,p',Bj _ (Bj _ (cZ.2 ⟨t,XB▸t1,⟨by rw [t2];exact h3,t0⟩,rfl⟩)),t3,t4⟩
    ·by_cases hk: ∃j,j<s.Tr/\l2=Dy ks j
     ·obtain ⟨j2,hj2,rfl⟩:=hk
      rw [tq j2 hj2] at uT
      rw [Aax _ r2 uT] at hf2
      have:=TA.inj _ _ r2 q b uT hq hf2 hf
      unfold Jn at this
      have:j2=j:=by omega
      rw [this]
     ·have e0:π' l2=if l2∈dead then none else π l2:=wW l2 hk
      rw [e0] at uT
      split at uT
      ·cases uT
      ·rename_i YO
       rcases hd2 with hd2|hd2
       ·exact absurd hd2 YO
       ·rw [(h.1.heap l2).emp hd2] at uT;cases uT
  ·by_cases hk: ∃j,j<s.Tr/\l=Dy ks j
   ·obtain ⟨j,hj,rfl⟩:=hk
    rw [tq j hj]
    rcases Nat.lt_or_ge j s.outs.length with hjo|hjo
    ·rcases n2 j (Iz _) (by omega) with ⟨_,e1⟩|⟨b2,e1,_⟩
     ·exact e1
     ·rw [show At H' (Dy ks j)=some b2 from e1] at hl;cases hl
    ·obtain ⟨tid,Wz,hj0⟩:=Ab8 j hj hjo
     subst hj0
     rw [(YW tid Wz).1,hHv tid Wz] at hl;cases hl
   ·have e0:π' l=if l∈dead then none else π l:=wW l hk
    rw [e0]
    split
    ·rfl
    ·rename_i hd
     by_cases QW:l∈pl
     ·obtain ⟨p,_,h1,_⟩:=NG l QW
      rw [Aaq l QW p h1] at hl;cases hl
     rw [nd l hd QW] at hl
     by_cases hi: ∃t∈Lh 0 s.ins as,t.2.reads=false/\t.2.Vx=l
     ·obtain ⟨_,b',_,e2,_⟩:=hinv l hd hi
      rw [e2] at hl;cases hl
     ·rw [wY l hi] at hl
      cases h0:At st.heap l with
      |none=>exact (h.1.heap l).emp h0
      |some b=>rw [h0] at hl;cases hl
  ·refine YF.block _ (h.1.lt hm).1 λGC=>?_
   rcases GC with ho|hg
   rotate_left
   ·obtain ⟨l,hl,q',h1,h2,_⟩:=NA _ hg
    have wX:=h.1.apart hm h1 (h.1.Cq hm) h2
    obtain ⟨_,_,_,_,_,_,_,h3,_⟩:=NG l hl
    obtain ⟨b,hxa,hxb⟩:=hxa
    rw [wX,h3] at hxa;cases hxa
    exact hxb rfl
   obtain ⟨t,t1,t0,p,t3,t4,t5⟩:=cS _ ho
   have wX:=h.1.apart hm t3 (h.1.Cq hm) t4
   have TC:p=q:=by rw [<-wX,hm] at t3;exact (Ax t3).symm
   cases ht2:t.2 with
   |row l=>
    refine hp ?_
    show m∈whole tks
    unfold whole
    exact Ey.2 ⟨t,XB▸t1,by rw [ht2,wX,ht2];simp [Loc.Vx]⟩
   |sub l i j=>exact t5 l i j ht2 (by rw [TC])
   |view l=>rw [ht2] at t0;cases t0
 ·have Ams:=n3 π' hD1 (λj _ hj=>tq j (by omega))
  cases EN:s.rp with
  |some tid=>
   unfold pZ at dQ
   rw [EN] at dQ
   obtain ⟨q,y1,y2,y3,y4,rfl⟩:=dQ
   unfold ZQ at fD
   rw [EN] at fD
   simp only [Aa] at fD;subst fD
   refine ⟨full q,tid,_,hHv tid EN,?_,rfl⟩
   rw [<-(YW tid EN).1,tq _ (by have:=(YW tid EN).2;omega),YY,y1]
   rfl
  |none=>
  unfold pZ at dQ
  rw [EN] at dQ
  obtain ⟨dQ,Amx⟩:=dQ
  unfold ZQ at fD
  rw [EN] at fD
  simp only at fD
  obtain ⟨g1,g2,g3,g4⟩:=cP s.Hb _ (Vw.drop s.Zp) Amx (Mn.take s.Zp Ams).2
  unfold Aim at fD
  unfold VH at dQ
  split at fD
  ·rename_i hm
   rw [Ac hm] at dQ
   simp only [Aa] at fD;subst fD
   subst dQ
   exact ⟨_,rfl,g3.symm,g4⟩
  ·rename_i hm
   rw [Ai hm] at dQ
   split at fD
   ·rename_i av1 hga
    simp only [Aa] at fD;subst fD
    rcases dQ with dQ|dQ
    ·exact g2 0 _ v (by rw [hga];rfl) (by rw [dQ];rfl)
    ·rw [hga,dQ] at g1;cases g1
   ·simp only [Aa] at fD;subst fD;trivial
   ·cases fD
end
end Go.Proofs.Ytkkdpknjohcekaa
