/-
  Part 17 of the proof that the statement FnExactPhaseTwoWord holds.
-/
import Derived.Test.YtjbdmibbbpdnnaaCPhaseTwoWord15
namespace Go.Proofs.Ytjbdmibbbpdnnaa
open Go.RowKit
section
variable {P:Program} {T:Tab} {X:Ctx} {w w':World} {π π':Pi} {H H':List (Nat×OB)}
theorem Ud (k:Nat): ¬Bv true k<Ak:=by unfold Bv Ak;simp
theorem az {k:Nat} (h:k<100000):Bv false k<Ak:=by unfold Bv Ak;simp;omega
def gk (X:Ctx) (D:Nat->Prop) (w':World) (π:Pi) (H Hn:List (Nat×OB)) (l:Nat):Prop:=
 ∃b0 b',Ae H l=some b0/\Ae Hn l=some b'/\(∀f,OB.map f b0=b0)/\(∀f,OB.map f b'=b')/\b0.ae b'/\ ∀π' H',(∀b,Om π' b\/X.Sc b->D b)->Av X w' π' H' (π l) b'
theorem KD {io:Bool} {k:Nat} {τ:Ty} {a:AC} {t:Nat×Loc} (h:t∈Kj io k (.Ee τ) a):t.1=Bv false k:=by
 cases a<;>simp [Kj,views] at h<;>first|(obtain ⟨_,⟨_,_⟩,rfl⟩:=h;rfl)|(rw [h])
theorem EN {io:Bool} {k:Nat} {e:Ty} {te:TypeId} {a:AC} {t:Nat×Loc} (h:t∈Kj io k (.part e te) a):t.1=Bv io k:=by cases a<;>simp [Kj] at h<;>rw [h]
theorem KE {io:Bool} {k:Nat} {e:Ty} {te:TypeId} {a:AC} {t:Nat×Loc} (h:t∈Kj io k (.row e te) a):t.1=Bv io k:=by cases a<;>simp [Kj] at h<;>rw [h]
theorem EO {io:Bool} {k:Nat} {e:Ty} {te:TypeId} {a:AC} {t:Nat×Loc} (h:t∈Kj io k (.Dt e te) a):t.1=Bv io k:=by cases a<;>simp [Kj] at h<;>rw [h]
theorem Zu {D:Nat->Prop} {π':Pi} {fr:Bool} {e:Ty} {es:List Value} {y:e.den} (hD: ∀b,Om π' b\/X.Sc b->D b) (h:Cells w' D e es y):Cells w' (Be X.w0.heap.size X.Sc π' (fr&&e.flat)) e es y:=by
 cases hf:e.flat with
 |true=>exact Cells.flat e es y hf h
 |false=>exact Cells.Cw (Nat.le_refl _) (λ_ _ _=>rfl) (λb _ hb=>by
   rcases hb with hb|hb|⟨hb,_⟩
   ·exact hD b (.inl hb)
   ·exact hD b (.inr hb)
   ·simp at hb) e es y h
theorem EP {D P:Nat->Prop} {g o:Nat} {cur:Array Value} {tr:Bool} {e:Ty} {xs:List e.den}
  (h: ∀(i:Nat) (x:e.den),xs[i]?=some x-> ∃es:List Value,es.length=e.size/\(∀j u,es[j]?=some u->cur[(o+i)*e.size+j]?=some u)/\Cells w' D e es x) (ht:(tr&&e.flat)=true):Qe w' P g o cur e xs:=by
 simp only [Bool.and_eq_true] at ht
 exact gI ht.2 h
theorem DR {D:Nat->Prop} (h:Hu X w π H) {k:Nat} {c:CK} {ys:c.den} {a:AC} {u:Value} {r:Option Real} {x:c.den} {cur st1:St} (hs:w.heap.size<=w'.heap.size)
  (hU: ∀l i j q b,a= .sub l i j->π l=some q->q.Az b->b<w.heap.size->(∀r',r=some r'-> ¬r'.Az b)->w'.heap[b]?=w.heap[b]?)
  {V:List Nat} (ht:Zl w (Je X π V) r u c x/\Mw w π H true a u r c x) (hr:aU w' D r c ys) (he:Vz cur c ys a=some st1) (bx: ∀t∈Kj true k c a,Ae cur.heap t.2.Py=Ae H t.2.Py):
  st1.tmps=cur.tmps/\(∀m,(∀t∈Kj true k c a,m≠t.2.Py)->Ae st1.heap m=Ae cur.heap m)/\ ∀t∈Kj true k c a,gk X D w' π H st1.heap t.2.Py:=by
 obtain ⟨hc,ht⟩:=ht
 cases c with
 |Ee τ=>cases a<;>simp [Vz] at he;subst he;exact ⟨rfl,λ_ _=>rfl,λt ht=>by simp [Kj] at ht⟩
 |row e te=>
  simp only [Mw] at ht
  cases a<;>simp only [] at ht<;>first|(exact ht.elim)|skip
  ·simp only [Vz,Option.some.injEq] at he;subst he
   exact ⟨rfl,λ_ _=>rfl,λt ht=>by simp [Kj] at ht⟩
  ·rename_i l off len
   obtain ⟨rfl,rfl,rfl,fr,tr,hl⟩:=ht
   have Nz:Ae cur.heap l=some (.arr fr tr e te x):=(bx _ (List.mem_singleton.2 rfl)).trans hl
   simp only [Vz,St.at,Nz] at he
   split at he
   ·rename_i Fh
    obtain ⟨_,h1,_⟩:=Fh
    simp only [Option.some.injEq] at he;subst he
    refine ⟨rfl,λm hm=>Cm _ _ _ _ (hm _ (List.mem_singleton.2 rfl)),λt Oo=>?_⟩
    have Oo:=List.mem_singleton.1 Oo
    subst Oo
    refine ⟨_,_,hl,Cs _ _ _ _ Nz,λ_=>rfl,λ_=>rfl,⟨rfl,h1.symm⟩,λπ' H' hD=>?_⟩
    have hb:=(h.heap l).Me hl
    change Av X w' π' H' (π l) _
    simp only [Av,Fl] at hb⊢
    cases hp:π l with
    |none=>rw [hp] at hr;exact hr
    |some q=>
     rw [hp] at hr hb
     obtain ⟨k1,cu,ti,k2,k3,k4,k5,k6⟩:=hr
     exact ⟨⟨k1.1,k1.2,λhh=>hb.1.2.2 (by simp only [Bool.and_eq_true] at hh;exact hh.1)⟩,cu,ti,k2,k3,k4,k5,λi y hy=>by
      obtain ⟨es,g1,g2,g3⟩:=k6 i y hy
      exact ⟨es,g1,g2,Zu hD g3⟩,λht=>EP k6 ht⟩
   ·cases he
  ·rename_i l i j
   obtain ⟨⟨_,hf⟩,tid,xs,hl,hx,q,hq,Oy,hre⟩:=ht
   have Nz:Ae cur.heap l=some (.Dg (.slice e) tid xs):=(bx _ (List.mem_singleton.2 rfl)).trans hl
   simp only [Vz,St.at,Nz,hx] at he
   rw [dif_pos trivial] at he
   ·split at he
    ·rename_i h1
     simp only [Option.some.injEq] at he;subst he
     refine ⟨rfl,λm hm=>Cm _ _ _ _ (hm _ (List.mem_singleton.2 rfl)),λt Oo=>?_⟩
     have Oo:=List.mem_singleton.1 Oo
     subst Oo
     refine ⟨_,_,hl,Cs _ _ _ _ Nz,λ_=>rfl,λ_=>rfl,⟨rfl,by simp⟩,λπ' H' _=>?_⟩
     show Iq w' (π l) (.slice e) tid _
     rw [hq]
     refine hre w' ys hs (λb Gz hb hn=>hU l i j q b rfl hq hb Gz hn) ?_
     have hv:=hc.1
     rw [<-show List.length ys=List.length x from h1] at hv
     exact Mh.zl hr hf hv
    ·cases he
 |Dt e te=>
  simp only [Mw] at ht
  cases a<;>simp only [] at ht<;>first|(exact ht.elim)|skip
  ·simp only [Vz,Option.some.injEq] at he;subst he
   exact ⟨rfl,λ_ _=>rfl,λt ht=>by simp [Kj] at ht⟩
  ·rename_i l off len
   obtain ⟨rfl,rfl,rfl,hl⟩:=ht
   have Nz:Ae cur.heap l=some (.Dg e te x):=(bx _ (List.mem_singleton.2 rfl)).trans hl
   simp only [Vz,St.at,Nz] at he
   split at he
   ·rename_i Fh
    obtain ⟨_,h1,_⟩:=Fh
    simp only [Option.some.injEq] at he;subst he
    refine ⟨rfl,λm hm=>Cm _ _ _ _ (hm _ (List.mem_singleton.2 rfl)),λt Oo=>?_⟩
    have Oo:=List.mem_singleton.1 Oo
    subst Oo
    refine ⟨_,_,hl,Cs _ _ _ _ Nz,λ_=>rfl,λ_=>rfl,⟨rfl,h1.symm⟩,λπ' H' _=>?_⟩
    show Iq w' (π l) e te _
    cases hp:π l with
    |none=>rw [hp] at hr;exact hr
    |some q=>rw [hp] at hr;exact hr
   ·cases he
  ·rename_i l i j
   obtain ⟨_,tid,xs,hl,hx,q,hq,Oy,hre⟩:=ht
   have Nz:Ae cur.heap l=some (.Dg (.slice e) tid xs):=(bx _ (List.mem_singleton.2 rfl)).trans hl
   simp only [Vz,St.at,Nz,hx] at he
   rw [dif_pos trivial] at he
   ·split at he
    ·rename_i h1
     simp only [Option.some.injEq] at he;subst he
     refine ⟨rfl,λm hm=>Cm _ _ _ _ (hm _ (List.mem_singleton.2 rfl)),λt Oo=>?_⟩
     have Oo:=List.mem_singleton.1 Oo
     subst Oo
     refine ⟨_,_,hl,Cs _ _ _ _ Nz,λ_=>rfl,λ_=>rfl,⟨rfl,by simp⟩,λπ' H' _=>?_⟩
     show Iq w' (π l) (.slice e) tid _
     rw [hq]
     refine hre w' ys hs (λb Gz hb hn=>hU l i j q b rfl hq hb Gz hn) ?_
     have hv:=hc.1
     rw [<-show List.length ys=List.length x from h1] at hv
     exact Iq.zl (te:=te) hr hv
    ·cases he
 |part e te=>cases a<;>simp [Vz] at he<;>first|(simp only [Mw] at ht;exact ht.2.elim)
 |Al e te kp=>exact absurd ht.1 (by simp)
theorem DS {D:Nat->Prop} (h:Hu X w π H) {k:Nat} {e:Ty} {te:TypeId} {ys:List e.den} {a:AC} {u:Value} {r:Option Real} {x:(CK.part e te).den} {cur st1:St}
  {V:List Nat} (ht:Zl w (Je X π V) r u (.part e te) x/\Mw w π H true a u r (.part e te) x) (hr:aU w' D r (.row e te) ys) (he:yN cur e ys a=some st1) (bx: ∀t∈Kj true k (.part e te) a,Ae cur.heap t.2.Py=Ae H t.2.Py):
  st1.tmps=cur.tmps/\(∀m,(∀t∈Kj true k (.part e te) a,m≠t.2.Py)->Ae st1.heap m=Ae cur.heap m)/\ ∀t∈Kj true k (.part e te) a,gk X D w' π H st1.heap t.2.Py:=by
 obtain ⟨hc,hf,ht⟩:=ht
 cases a<;>simp only [] at ht<;>first|(exact ht.elim)|skip
 rename_i l off len
 obtain ⟨rfl,_,fr,tr,hl⟩:=ht
 have Nz:Ae cur.heap l=some (.arr fr tr e te x.1):=(bx _ (List.mem_singleton.2 rfl)).trans hl
 simp only [yN,St.at,Nz] at he
 split at he
 ·rename_i Fh
  obtain ⟨_,h1⟩:=Fh
  simp only [Option.some.injEq] at he;subst he
  refine ⟨rfl,λm hm=>Cm _ _ _ _ (hm _ (List.mem_singleton.2 rfl)),λt Oo=>?_⟩
  have Oo:=List.mem_singleton.1 Oo
  subst Oo
  refine ⟨_,_,hl,Cs _ _ _ _ Nz,λ_=>rfl,λ_=>rfl,⟨rfl,h1.symm⟩,λπ' H' _=>?_⟩
  have hb:=(h.heap l).Me hl
  change Av X w' π' H' (π l) _
  simp only [Av,Fl] at hb⊢
  cases hp:π l with
  |none=>rw [hp] at hr;exact hr
  |some q=>
   rw [hp] at hr hb
   obtain ⟨k1,cu,ti,k2,k3,k4,k5,k6⟩:=hr
   exact ⟨⟨k1.1,k1.2,hb.1.2.2⟩,cu,ti,k2,k3,k4,k5,λi y hy=>by
    obtain ⟨es,g1,g2,g3⟩:=k6 i y hy
    exact ⟨es,g1,g2,Cells.flat e es y hf g3⟩,λ_=>gI hf k6⟩
 ·cases he
def lq (X:Ctx) (D:Nat->Prop) (w':World) (π:Pi) (H:List (Nat×OB)) (tk:List (Nat×Loc)) (cur st1:St):Prop:=
 st1.tmps=cur.tmps/\(∀m,(∀t∈tk,m≠t.2.Py)->Ae st1.heap m=Ae cur.heap m)/\(∀t∈tk,t.1<Ak->Ae st1.heap t.2.Py=Ae cur.heap t.2.Py)/\(∀t∈tk,¬t.1<Ak->gk X D w' π H st1.heap t.2.Py)
theorem np {D:Nat->Prop} (h:Hu X w π H) {V:List Nat} {πc:Pi} {tks:List (Nat×Loc)} (hs:w.heap.size<=w'.heap.size)
  (hU: ∀t∈tks,∀q b,π t.2.Py=some q->q.Az b->b<w.heap.size->(∀r',πc t.1=some r'-> ¬r'.Az b)->w'.heap[b]?=w.heap[b]?):
  ∀(cs:List (Bool×CK)) (k:Nat) (x:Ins.den cs) (as:List AC) (us:List Value) (o:IOs.den cs) (cur st1:St),k+cs.length<100000->(∀t∈Gy k cs as,t∈tks)->((Gy k cs as).map λt=>t.2.Py).Nodup->
   kV X w π V H πc k cs x as us->Hg w' D πc k cs o->Ec cs o as cur=some st1->(∀t∈Gy k cs as,Ae cur.heap t.2.Py=Ae H t.2.Py)->
   lq X D w' π H (Gy k cs as) cur st1
 | [],k,x,as,us,o,cur,st1,_,_,_,_,_,he,_=>by
  simp only [Ec,Option.some.injEq] at he;subst he
  have e0:Gy k [] as= []:=by cases as<;>rfl
  exact ⟨rfl,λ_ _=>rfl,by rw [e0];simp,by rw [e0];simp⟩
 |p::r,k,x,[],us,o,cur,st1,_,_,_,ht,_,_,_=>ht.elim
 |p::r,k,x,a::as,[],o,cur,st1,_,_,_,ht,_,_,_=>ht.elim
 |(io,c)::r,k,x,a::as,u::us,o,cur,st1,hk,Lc,tN,ht,ho,he,bx=>by
  simp only [List.length_cons] at hk
  simp only [Gy] at Lc tN bx⊢
  rw [List.map_append] at tN
  obtain ⟨n1,n2,n3⟩:=List.nodup_append.1 tN
  have apart: ∀t∈Kj io k c a,∀t'∈Gy (k+1) r as,t'.2.Py≠t.2.Py:= λt h1 t' h2 e=>n3 _ (List.mem_map.2 ⟨t,h1,rfl⟩) _ (List.mem_map.2 ⟨t',h2,rfl⟩) e.symm
  have rest: ∀(To:St) (o':IOs.den r),Hg w' D πc (k+1) r o'->Ec r o' as To=some st1->To.tmps=cur.tmps->(∀m,(∀t∈Kj io k c a,m≠t.2.Py)->Ae To.heap m=Ae cur.heap m)->
    (∀t∈Kj io k c a,t.1<Ak->Ae To.heap t.2.Py=Ae cur.heap t.2.Py)->(∀t∈Kj io k c a,¬t.1<Ak->gk X D w' π H To.heap t.2.Py)->
    lq X D w' π H (Kj io k c a++Gy (k+1) r as) cur st1:=by
   intro To o' h1 h2 h3 h4 h5 h6
   obtain ⟨g1,g2,g3,g4⟩:=np h hs hU r (k+1) x.2 as us o' To st1 (by omega) (λt ht=>Lc t (List.mem_append_right _ ht)) n2 ht.2 h1 h2 (λt Oo=>by
    rw [h4 _ λt0 NA=>apart t0 NA t Oo];exact bx t (List.mem_append_right _ Oo))
   have hd: ∀t∈Kj io k c a,Ae st1.heap t.2.Py=Ae To.heap t.2.Py:= λt Oo=>g2 _ λt' CF=>(apart t Oo t' CF).symm
   refine ⟨g1.trans h3,λm hm=>?_,λt Oo Gz=>?_,λt Oo Gz=>?_⟩
   ·rw [g2 m λt ht=>hm t (List.mem_append_right _ ht),h4 m λt ht=>hm t (List.mem_append_left _ ht)]
   ·rcases List.mem_append.1 Oo with Oo|Oo
    ·rw [hd t Oo,h5 t Oo Gz]
    ·rw [g3 t Oo Gz,h4 _ λt0 NA=>apart t0 NA t Oo]
   ·rcases List.mem_append.1 Oo with Oo|Oo
    ·obtain ⟨b0,b',q1,q2,q3⟩:=h6 t Oo Gz
     exact ⟨b0,b',q1,(hd t Oo).trans q2,q3⟩
    ·exact g4 t Oo Gz
  have same: ∀o',Hg w' D πc (k+1) r o'->Ec r o' as cur=some st1->(∀t∈Kj io k c a,t.1<Ak)->lq X D w' π H (Kj io k c a++Gy (k+1) r as) cur st1:= λo' h1 h2 h3=>rest cur o' h1 h2 rfl (λ_ _=>rfl) (λ_ _ _=>rfl) (λt h4 h5=>absurd (h3 t h4) h5)
  cases io with
  |false=>
   have h3: ∀t∈Kj false k c a,t.1<Ak:= λt h4=>by rcases wN h4 with ⟨h5,_⟩|⟨h5,_⟩<;>(rw [h5];exact az (by omega))
   cases c with
   |Ee τ=>exact same o ho (by simpa only [Ec] using he) h3
   |row e te=>exact same o ho (by simpa only [Ec] using he) h3
   |Dt e te=>exact same o ho (by simpa only [Ec] using he) h3
   |part e te=>exact same o ho (by simpa only [Ec] using he) h3
   |Al e te kp=>exact same o ho (by simpa only [Ec] using he) h3
  |true=>
   have row: ∀(ys:c.den) (o':IOs.den r),(∀t∈Kj true k c a,t.1=Bv true k)->aU w' D (πc (Bv true k)) c ys->Hg w' D πc (k+1) r o'->(∃To,Vz cur c ys a=some To/\Ec r o' as To=some st1)->lq X D w' π H (Kj true k c a++Gy (k+1) r as) cur st1:=by
    intro ys o' h0 h1 h2 h3
    obtain ⟨To,hp,h3⟩:=h3
    ·obtain ⟨q1,q2,q3⟩:=DR (k:=k) h hs (λl i j q b ea hq hb Gz hn=>by
      cases c with
      |Ee τ=>exact absurd (ht.1.2:πc _=none) (by subst ea;simp [Vz] at hp)
      |row e te=>subst ea;exact hU (Bv true k, .sub l i j) (Lc _ (List.mem_append_left _ (List.mem_singleton.2 rfl))) q b hq hb Gz hn
      |Dt e te=>subst ea;exact hU (Bv true k, .sub l i j) (Lc _ (List.mem_append_left _ (List.mem_singleton.2 rfl))) q b hq hb Gz hn
      |Al e te kp=>exact absurd ht.1.2.1 (by simp)
      |part e te=>exact absurd ht.1.2.2 (by subst ea;exact λh=>h)) ht.1 h1 hp (λt Oo=>bx t (List.mem_append_left _ Oo))
     exact rest To o' h2 h3 q1 q2 (λt h4 h5=>absurd h5 (by rw [h0 t h4];exact Ud k)) (λt h4 _=>q3 t h4)
   cases c with
   |Ee τ=>exact same o ho (by simpa only [Ec] using he) (λt h4=>by rw [KD h4];exact az (by omega))
   |Al e te kp=>exact absurd ht.1.2.1 (by simp)
   |row e te=>
    simp only [Ec] at he
    split at he
    ·rename_i To hp;exact row o.1 o.2 (λt ht=>KE ht) ho.1 ho.2 ⟨To,hp,he⟩
    ·cases he
   |Dt e te=>
    simp only [Ec] at he
    split at he
    ·rename_i To hp;exact row o.1 o.2 (λt ht=>EO ht) ho.1 ho.2 ⟨To,hp,he⟩
    ·cases he
   |part e te=>
    simp only [Ec] at he
    split at he
    ·rename_i To hp
     obtain ⟨q1,q2,q3⟩:=DS (k:=k) h ht.1 ho.1 hp (λt Oo=>bx t (List.mem_append_left _ Oo))
     exact rest To o.2 ho.2 he q1 q2 (λt h4 h5=>absurd h5 (by rw [EN h4];exact Ud k)) (λt h4 _=>q3 t h4)
    ·cases he
theorem yw {fr:Bool} {c:CK} {x:c.den} {u:Value} {r:Option Real} {D:Nat->Prop} (h:Zl w' D r u c x):
  (oO fr c x=none/\r=none)\/ ∃b',oO fr c x=some b'/\ ∀(X:Ctx) π' H',(fr=true-> ∀q,r=some q->X.w0.heap.size<=q.g)->(∀b,Om π' b\/X.Sc b->D b)->Av X w' π' H' r b':=by
 cases c with
 |Ee τ=>exact .inl ⟨rfl,h.1⟩
 |row e te=>
  refine .inr ⟨_,rfl,λX π' H' uS hD=>?_⟩
  obtain ⟨_,h⟩:=h
  simp only [aU] at h
  simp only [Av,Fl]
  cases r with
  |none=>exact h
  |some q=>
   obtain ⟨k1,cu,ti,k2,k3,k4,k5,k6⟩:=h
   exact ⟨⟨k1.1,k1.2,λh1=>uS (by simp only [Bool.and_eq_true] at h1;exact h1.1) q rfl⟩,cu,ti,k2,k3,k4,k5,λi y hy=>by
    obtain ⟨es,g1,g2,g3⟩:=k6 i y hy
    exact ⟨es,g1,g2,Zu hD g3⟩,λh=>by cases h⟩
 |Dt e te=>exact .inr ⟨_,rfl,λX π' H' _ _=>h.2⟩
 |Al e te kp=>exact .inr ⟨_,rfl,λX π' H' _ hD=>⟨Td.Ev h.2 λb hb=>hD b (hb.imp id λh=>h.elim id λh=>by cases h.1),trivial⟩⟩
 |part e te=>
  refine .inr ⟨_,rfl,λX π' H' uS hD=>?_⟩
  obtain ⟨_,hf,h⟩:=h
  simp only [Av,Fl]
  cases r with
  |none=>exact h
  |some q=>
   obtain ⟨k1,cu,ti,k2,k3,k4,k5,k6⟩:=h
   exact ⟨⟨k1.1,k1.2,λh1=>uS (by simp only [Bool.and_eq_true] at h1;exact h1.1) q rfl⟩,cu,ti,k2,k3,k4,k5,λi y hy=>by
    obtain ⟨es,g1,g2,g3⟩:=k6 i y hy
    exact ⟨es,g1,g2,Zu hD g3⟩,λh=>by cases h⟩
theorem kG {D:Nat->Prop} {key:Nat->Nat} (xT: ∀i j,key i=key j->i=j) {fr:Bool} {ρ:Pi} : ∀(cs:List CK) (k:Nat) (x:CKs.den cs) (us:List Value) (H:List (Nat×OB)),Ew w' D ρ k cs x us->
  (∀j,k<=j->j<k+cs.length->Ae H (key j)=none)->
  (∀l,(∀j,k<=j->j<k+cs.length->l≠key j)->Ae (Qy fr key k cs x H) l=Ae H l)/\
  (∀j,k<=j->j<k+cs.length->(Ae (Qy fr key k cs x H) (key j)=none/\ρ (Fq j)=none)\/
   ∃b',Ae (Qy fr key k cs x H) (key j)=some b'/\ ∀(X:Ctx) π' H',(fr=true-> ∀q,ρ (Fq j)=some q->X.w0.heap.size<=q.g)->(∀b,Om π' b\/X.Sc b->D b)->Av X w' π' H' (ρ (Fq j)) b')/\
  (∀π',(∀b,Om π' b\/X.Sc b->D b)->(∀j,k<=j->j<k+cs.length->π' (key j)=ρ (Fq j))->Hw X w' π' (Qy fr key k cs x H) (Vn key k cs x) us)
 | [],k,x,[],H,_,_=>⟨λ_ _=>rfl,λj h1 h2=>by simp at h2;omega,λ_ _ _=>trivial⟩
 | [],_,_,_::_,_,h,_=>h.elim
 |_::_,_,_,[],_,h,_=>h.elim
 |c::r,k,x,u::us,H,h,hn=>by
  simp only [List.length_cons] at hn⊢
  simp only [Qy,Vn]
  have oB:=hn k (Nat.le_refl _) (by omega)
  have VE: ∀l,l≠key k->Ae (uZ H (key k) (oO fr c x.1)) l=Ae H l:=by
   intro l hl
   cases oO fr c x.1 with
   |some b=>exact Jq _ _ _ _ hl
   |none=>rfl
  have WQ:Ae (uZ H (key k) (oO fr c x.1)) (key k)=oO fr c x.1:=by
   cases oO fr c x.1 with
   |some b=>exact Kl _ _ _ oB
   |none=>exact oB
  generalize (uZ H (key k) (oO fr c x.1))=H1 at VE WQ⊢
  obtain ⟨g1,g2,g3⟩:=kG xT (fr:=fr) r (k+1) x.2 us H1 h.2 (λj h1 h2=>by
   rw [VE _ λe=>by have:=xT _ _ e;omega];exact hn j (by omega) (by omega))
  have LF:Ae (Qy fr key (k+1) r x.2 H1) (key k)=oO fr c x.1:=by
   rw [g1 _ λj h1 h2 e=>by have:=xT _ _ e;omega];exact WQ
  refine ⟨λl hl=>?_,λj h1 h2=>?_,λπ' hd QM=>⟨?_,?_⟩⟩
  ·rw [g1 l λj h1 h2=>hl j (by omega) (by omega)]
   exact VE l (hl k (Nat.le_refl _) (by omega))
  ·rcases Nat.eq_or_lt_of_le h1 with e|h1
   ·subst e
    rw [LF]
    exact yw h.1
   ·exact g2 j h1 (by omega)
  ·have h1:=h.1
   have VQ:=QM k (Nat.le_refl _) (by omega)
   cases c with
   |Ee τ=>
    obtain ⟨bV,c1,c2⟩:=h1.2
    exact ⟨bV,by have:=Zu (fr:=true) hd c1;simpa using this,c2⟩
   |row e te=>exact ⟨_,e.size,List.length x.1,LF,rfl,by simp,by rw [VQ];exact h1.1⟩
   |Dt e te=>exact ⟨_,e.size,List.length x.1,LF,rfl,by simp,by rw [VQ];exact h1.1⟩
   |Al e te kp=>exact ⟨_,1,List.length x.1,LF,rfl,by simp,by rw [VQ];exact h1.1⟩
   |part e te=>trivial
  ·exact g3 π' hd λj h1 h2=>QM j (by omega) (by omega)
theorem yl {ks:List Nat} {n:Nat} (h:rZ ks n=true):ks.length=n/\ks.Nodup/\ ∀l∈ks,l<Ak:=by
 unfold rZ at h
 simp only [Bool.and_eq_true] at h
 refine ⟨Nat.eq_of_beq_eq_true h.1,Qx h.2.1,λl hl=>?_⟩
 have:=List.all_eq_true.1 h.2.2 l hl
 simpa using this
theorem Lf {ks:List Nat} {j:Nat} (h:j<ks.length):Bx ks j=ks[j]:=by
 unfold Bx
 rw [List.getElem?_eq_getElem h]
theorem ui {ks:List Nat} (hn:ks.Nodup) (hl: ∀l∈ks,l<Ak): ∀i j,Bx ks i=Bx ks j->i=j:=by
 intro i j h
 by_cases hi:i<ks.length
 ·by_cases hj:j<ks.length
  ·rw [Lf hi,Lf hj] at h
   rcases Nat.lt_trichotomy i j with Gz|he|Gz
   ·exact absurd h (List.pairwise_iff_getElem.1 hn i j hi hj Gz)
   ·exact he
   ·exact absurd h.symm (List.pairwise_iff_getElem.1 hn j i hj hi Gz)
  ·have h1:=hl _ (List.getElem_mem hi)
   rw [Lf hi] at h
   unfold Bx at h
   rw [List.getElem?_eq_none (by omega)] at h
   simp only at h
   omega
 ·by_cases hj:j<ks.length
  ·have h1:=hl _ (List.getElem_mem hj)
   rw [Lf hj] at h
   unfold Bx at h
   rw [List.getElem?_eq_none (by omega)] at h
   simp only at h
   omega
  ·unfold Bx at h
   rw [List.getElem?_eq_none (by omega),List.getElem?_eq_none (by omega)] at h
   simp only at h
   omega
theorem Ih: ∀(H:List (Nat×OB)) (dead:List Nat) (l:Nat),Ae (Qh H dead) l=if l∈dead then none else Ae H l
 | [],dead,l=>by simp [Qh,Ae]
 |(k,b)::r,dead,l=>by
  simp only [Qh]
  have ih:=Ih r dead l
  by_cases hk:k∈dead
  ·rw [if_pos (by simpa using hk),ih]
   split
   ·rfl
   ·rename_i hl
    simp only [Ae]
    rw [if_neg (λ(e:k=l)=>hl (e▸hk))]
  ·rw [if_neg (by simpa using hk)]
   simp only [Ae]
   split
   ·rename_i e;subst e;rw [if_neg hk]
   ·exact ih
theorem mem_keys {ks:List Nat} {l:Nat} :l∈ks↔ ∃k,k<ks.length/\l=Bx ks k:=
 ⟨λh=>by obtain ⟨k,hk,e⟩:=List.getElem_of_mem h;exact ⟨k,hk,by rw [Lf hk,e]⟩,λ⟨k,hk,e⟩=>by rw [e,Lf hk];exact List.getElem_mem hk⟩
theorem Yt {tks:List (Nat×Loc)} {l:Nat} :l∈gy tks↔ ∃t∈tks,(t.1<Ak/\t.2.reads=false)/\t.2.Py=l:=by
 unfold gy
 simp only [List.mem_map,List.mem_filter,Bool.and_eq_true,Nat.blt_eq,Bool.not_eq_true']
 exact ⟨λ⟨t,⟨h1,h2⟩,h3⟩=>⟨t,h1,h2,h3⟩,λ⟨t,h1,h2,h3⟩=>⟨t,⟨h1,h2⟩,h3⟩⟩
theorem s5 {tks:List (Nat×Loc)} (h:(tks.map λt=>t.2.Py).Nodup) {t t':Nat×Loc} (ht:t∈tks) (CF:t'∈tks) (he:t.2.Py=t'.2.Py):t=t':=by
 induction tks with
 |nil=>cases ht
 |cons a r ih=>
  simp only [List.map_cons] at h
  obtain ⟨h1,h2⟩:=List.nodup_cons.1 h
  rcases List.mem_cons.1 ht with rfl|ht<;>rcases List.mem_cons.1 CF with rfl|CF
  ·rfl
  ·exact (h1 (List.mem_map.2 ⟨t',CF,he.symm⟩)).elim
  ·exact (h1 (he▸List.mem_map.2 ⟨t,‹t∈r›,rfl⟩)).elim
  ·exact ih h2 ht CF
theorem Ew.full {D:Nat->Prop} {ρ:Pi} : ∀(cs:List CK) (k:Nat) (x:CKs.den cs) (us:List Value),Ew w D ρ k cs x us->Ew w D (λl=>(ρ l).map full) k cs x us
 | [],_,_,[],h=>h
 | [],_,_,_::_,h=>h.elim
 |_::_,_,_,[],h=>h.elim
 |c::r,k,x,u::us,h=>⟨by
   have h1:=h.1
   show Zl w D ((ρ (Fq k)).map _) u c x.1
   cases c with
   |Ee τ=>rw [h1.1];exact ⟨rfl,h1.2⟩
   |row e te=>cases hp:ρ (Fq k)<;>(rw [hp] at h1;exact h1)
   |Dt e te=>cases hp:ρ (Fq k)<;>(rw [hp] at h1;exact h1)
   |Al e te kp=>cases hp:ρ (Fq k)<;>(rw [hp] at h1;exact h1)
   |part e te=>cases hp:ρ (Fq k)<;>(rw [hp] at h1;exact h1),Ew.full r (k+1) x.2 us h.2⟩
theorem Ew.PA {D:Nat->Prop} {ρ:Pi} : ∀(cs:List CK) (k0:Nat) (x:CKs.den cs) (us:List Value),Ew w D ρ k0 cs x us-> ∀j,k0<=j->j<k0+cs.length-> ∀q,ρ (Fq j)=some q->q.Az q.g
 | [],k0,_,_,_,j,h1,h2,_,_=>by simp at h2;omega
 |_::_,_,_,[],h,_,_,_,_,_=>h.elim
 |c::r,k0,x,u::us,ho,j,h1,h2,q,hq=>by
  rcases Nat.eq_or_lt_of_le h1 with e|h1
  ·subst e
   have:=ho.1
   cases c with
   |Ee τ=>rw [hq] at this;cases this.1
   |row e te=>rw [hq] at this;exact this.2.1.1
   |Dt e te=>rw [hq] at this;exact this.2.1
   |part e te=>rw [hq] at this;exact this.2.2.1.1
   |Al e te kp=>rw [hq] at this;exact this.2.1
  ·exact Ew.PA r (k0+1) x.2 us ho.2 j h1 (by simp at h2;omega) q hq
theorem Mh.any {D D':Nat->Prop} {r:Option Real} {e:Ty} {xs:List e.den} (hf:e.flat=true) (h:Mh w D r e xs):Mh w D' r e xs:=by
 cases r with
 |none=>exact h
 |some r=>
  obtain ⟨k1,cu,ti,k2,k3,k4,k5,k6⟩:=h
  exact ⟨k1,cu,ti,k2,k3,k4,k5,λi y hy=>by
   obtain ⟨es,g1,g2,g3⟩:=k6 i y hy
   exact ⟨es,g1,g2,Cells.flat e es y hf g3⟩⟩
theorem Ew.any {D D':Nat->Prop} {ρ:Pi} : ∀(cs:List CK) (k:Nat) (x:CKs.den cs) (us:List Value),cs.all (·.flat)=true->Ew w D ρ k cs x us->Ew w D' ρ k cs x us
 | [],_,_,[],_,h=>h
 | [],_,_,_::_,_,h=>h.elim
 |_::_,_,_,[],_,h=>h.elim
 |c::r,k,x,u::us,hf,h=>by
  simp only [List.all_cons,Bool.and_eq_true] at hf
  refine ⟨?_,Ew.any r (k+1) x.2 us hf.2 h.2⟩
  have h1:=h.1
  cases c with
  |Ee τ=>exact ⟨h1.1,Bd.flat hf.1 h1.2⟩
  |row e te=>exact ⟨h1.1,Mh.any hf.1 h1.2⟩
  |Dt e te=>exact h1
  |part e te=>exact ⟨h1.1,h1.2.1,Mh.any hf.1 h1.2.2⟩
  |Al e te kp=>exact absurd hf.1 (by simp [CK.flat])
theorem Hg.any {D D':Nat->Prop} {π:Pi} : ∀(cs:List (Bool×CK)) (k:Nat) (x:IOs.den cs),(cs.all λp=>!p.1||p.2.flat)=true->Hg w D π k cs x->Hg w D' π k cs x
 | [],_,_,_,h=>h
 |(false,_)::r,k,x,hf,h=>Hg.any r (k+1) x (by simp only [List.all_cons,Bool.and_eq_true] at hf;exact hf.2) h
 |(true, .Ee _)::r,k,x,hf,h=>Hg.any r (k+1) x (by simp only [List.all_cons,Bool.and_eq_true] at hf;exact hf.2) h
 |(true, .Al _ _ _)::r,k,x,hf,h=>Hg.any r (k+1) x (by simp only [List.all_cons,Bool.and_eq_true] at hf;exact hf.2) h
 |(true, .row e te)::r,k,x,hf,h=>by
  simp only [List.all_cons,Bool.and_eq_true,Bool.not_true,Bool.false_or] at hf
  exact ⟨Mh.any hf.1 h.1,Hg.any r (k+1) x.2 hf.2 h.2⟩
 |(true, .Dt e te)::r,k,x,hf,h=>by
  simp only [List.all_cons,Bool.and_eq_true,Bool.not_true,Bool.false_or] at hf
  exact ⟨h.1,Hg.any r (k+1) x.2 hf.2 h.2⟩
 |(true, .part e te)::r,k,x,hf,h=>by
  simp only [List.all_cons,Bool.and_eq_true,Bool.not_true,Bool.false_or] at hf
  exact ⟨Mh.any hf.1 h.1,Hg.any r (k+1) x.2 hf.2 h.2⟩
theorem mV {tks:List (Nat×Loc)} {l:Nat} :l∈tz tks↔ ∃t∈tks,t.2.reads=true/\t.2.Py=l:=by
 unfold tz
 simp only [List.mem_map,List.mem_filter]
 exact ⟨λ⟨t,⟨h1,h2⟩,h3⟩=>⟨t,h1,h2,h3⟩,λ⟨t,h1,h2,h3⟩=>⟨t,⟨h1,h2⟩,h3⟩⟩
theorem Aj.il {st:St} {a:Act} (h:Aj X π st a w) {f:AC->AC} (hu:f .undef= .undef) {gv:Nat->Prop} (BX: ∀b,gv b->Om π b) (hb:Gf w.heap.size gv w w')
  (Yl: ∀b,b<w.heap.size->Om π' b->Om π b)
  (Lc: ∀l r b,π' l=some r->r.Az b->r.cl b) (SR: ∀l r b,π' l=some r->r.cl b->(X.w0.heap.size<=b\/X.gv b)/\b<w'.heap.size)
  (Adk: ∀l l' r r' b,π' l=some r->π' l'=some r'->r.cl b->r'.cl b->l=l')
  (Ym: ∀l,Ak<=l->Ae H' l≠none->Uq (X.cB l) (π' l))
  (hac:(∀fr τ cs x,Cells w (Be X.w0.heap.size X.Sc π fr) τ cs x->Cells w' (Be X.w0.heap.size X.Sc π' fr) τ cs x)-> ∀c v,Dx X w π st.heap c v->Dx X w' π' H' (f c) v)
  (MK:Move X w w' π π' st.heap H' f-> ∀l b,Ae H' l=some b->Av X w' π' H' (π' l) b)
  (AA: ∀l,Ae H' l=none->π' l=none):
  Aj X π' {tmps:=st.tmps.map (·.map f),heap:=H'} a w':=by
 have hc: ∀fr τ cs x,Cells w (Be X.w0.heap.size X.Sc π fr) τ cs x->Cells w' (Be X.w0.heap.size X.Sc π' fr) τ cs x:= λfr τ cs x hh=>
  Cells.Cw hb.size (λk hk hn=>hb.block k hk λhg=>hn (.inl (BX k hg))) (λk Gz hA=>hA.imp (Yl k Gz) id) τ cs x hh
 have m:Move X w w' π π' st.heap H' f:=⟨hac hc,hc⟩
 refine ⟨⟨⟨hb.os.trans h.1.below.os,hb.tape.trans h.1.below.tape,hb.output.trans h.1.below.output,Nat.le_trans h.1.below.size hb.size,λk hk hn=>?_⟩,h.1.sc,Lc,SR,Adk,Ym,λl=>?_⟩,m.yR hu h.2⟩
 ·refine (hb.block k (Nat.lt_of_lt_of_le hk h.1.below.size) λhg=>?_).trans (h.1.below.block k hk hn)
  rcases (h.1.own (BX k hg)).2 with h1|h1
  ·omega
  ·exact hn h1
 ·cases hh:Ae H' l with
  |none=>exact Dh.Pg (AA l hh) hh
  |some b=>exact Dh.Il (MK m l b hh) hh
def aV:Option Real->Option Real->Prop
 |none,none=>True
 |some r,some r'=>r.g=r'.g/\r.o=r'.o/\r.cap=r'.cap
 |_,_=>False
theorem aV.rfl' (r:Option Real):aV r r:=by cases r<;>simp [aV]
theorem aV.some {r:Real} {r':Option Real} (h:aV (some r) r'): ∃q,r'=some q/\r.g=q.g/\r.o=q.o/\r.cap=q.cap:=by
 cases r' with
 |none=>exact h.elim
 |some q=>exact ⟨q,rfl,h⟩
theorem aV.own {r r':Option Real} (h:aV r r') {sz off len:Nat} {v:Value} (hv:Dv r sz off len v):Dv r' sz off len v:=by
 cases r<;>cases r'<;>first|exact h.elim|skip
 ·exact hv
 ·obtain ⟨h1,h2,h3⟩:=h
  obtain ⟨ad,g1,g2,g3⟩:=hv
  exact ⟨ad,by rw [<-h3];exact g1,by rw [<-h3];exact g2,by rw [<-h1,<-h2,<-h3];exact g3⟩
structure OB.Mr (b b':OB):Prop where
 row: ∀sz n,b.row=some (sz,n)-> ∃n',b'.row=some (sz,n')/\n<=n'
 ba: ∀p,b.ba=some p->b'.ba=some p
 ow: ∀p,b.ow=some p->b'.ow=some p
 var: ∀tid vs,b= .var tid vs-> ∃Nv tS,b'= .var Nv tS
 Ok: ∀v m,b= .Ok v m-> ∃m',b'= .Ok v m'
theorem OB.Mr.map (f:AC->AC) (b:OB):b.Mr (b.map f) where
 row:= λsz n h=>⟨n,by cases b<;>exact h,Nat.le_refl _⟩
 ba:= λp h=>by cases b<;>exact h
 ow:= λp h=>by cases b<;>exact h
 var:= λtid vs h=>by subst h;exact ⟨_,_,rfl⟩
 Ok:= λv m h=>by subst h;exact ⟨_,rfl⟩
theorem OB.Mr.rfl' (b:OB):b.Mr b where
 row:= λ_sz n h=>⟨n,h,Nat.le_refl _⟩
 ba:= λ_p h=>h
 ow:= λ_p h=>h
 var:= λ_tid _vs h=>⟨_,_,h⟩
 Ok:= λ_v _m h=>⟨_,h⟩
theorem OB.Mr.trans {a b c:OB} (h:a.Mr b) (k:b.Mr c):a.Mr c where
 row:= λsz n hr=>by
  obtain ⟨n1,h1,h2⟩:=h.row sz n hr
  obtain ⟨n2,h3,h4⟩:=k.row sz n1 h1
  exact ⟨n2,h3,by omega⟩
 ba:= λp hp=>k.ba p (h.ba p hp)
 ow:= λp hp=>k.ow p (h.ow p hp)
 var:= λtid vs hv=>by obtain ⟨t',v',h1⟩:=h.var tid vs hv;exact k.var t' v' h1
 Ok:= λv m hm=>by obtain ⟨m',h1⟩:=h.Ok v m hm;exact k.Ok v m' h1
theorem ik {f:AC->AC} {D Pt:Nat->Prop} (hf: ∀c,f c= .undef\/(f c=c/\(∀k∈c.refs,¬D k)/\ ∀k i j,c= .sub k i j\/c= .Fv k i j-> ¬Pt k)) (hp: ∀k,¬D k->aV (π k) (π' k))
  (hH: ∀k b,¬D k->Ae H k=some b-> ∃b',Ae H' k=some b'/\b.Mr b')
  (hg: ∀k r b,¬D k-> ¬Pt k->Ae H k=some b->b.ba≠none->π k=some r->w'.heap[r.g]?=w.heap[r.g]?)
  (hc: ∀fr τ cs x,Cells w (Be X.w0.heap.size X.Sc π fr) τ cs x->Cells w' (Be X.w0.heap.size X.Sc π' fr) τ cs x): ∀c v,Dx X w π H c v->Dx X w' π' H' (f c) v:=by
 intro c v h
 rcases hf c with e|⟨e,hr,hs⟩
 ·rw [e];trivial
 rw [e]
 cases c with
 |data fr τ x=>obtain ⟨cs,h1,h2⟩:=h;exact ⟨cs,hc _ _ _ _ h1,h2⟩
 |own k off len=>
  obtain ⟨b,sz,n,h1,h0,h2,h3⟩:=h
  have hk:=hr k (by simp [AC.refs])
  obtain ⟨b',g1,g2⟩:=hH k b hk h1
  obtain ⟨n',g3,g4⟩:=g2.row sz n h0
  exact ⟨b',sz,n',g1,g3,by omega,(hp k hk).own h3⟩
 |Dw k i=>
  obtain ⟨r,tid,vs,h1,h2,h3⟩:=h
  have hk:=hr k (by simp [AC.refs])
  obtain ⟨b',g1,g2⟩:=hH k _ hk h1
  obtain ⟨Nv,tS,rfl⟩:=g2.var tid vs rfl
  obtain ⟨q,q1,q2,_⟩:=(h2▸hp k hk).some
  exact ⟨q,Nv,tS,g1,q1,by rw [<-q2];exact h3⟩
 |Fy k i=>
  obtain ⟨r,b,sz,n,h1,h0,h2,h3,h4⟩:=h
  have hk:=hr k (by simp [AC.refs])
  obtain ⟨b',g1,g2⟩:=hH k b hk h1
  obtain ⟨n',g3,g4⟩:=g2.row sz n h0
  obtain ⟨q,q1,q2,q3,_⟩:=(h3▸hp k hk).some
  exact ⟨q,b',sz,n',g1,g3,by omega,q1,by rw [<-q2,<-q3];exact h4⟩
 |sub k i c=>
  obtain ⟨r,b,sz,n,h1,h0,h2,h3,h4,h5⟩:=h
  have hk:=hr k (by simp [AC.refs])
  obtain ⟨b',g1,g2⟩:=hH k b hk h1
  obtain ⟨q,q1,q2,q3,_⟩:=(h2▸hp k hk).some
  exact ⟨q,b',sz,n,g1,g2.ba _ h0,q1,h3,h4,by rw [<-q2,<-q3,World.cell?_of_block (hg k r b hk (hs k i c (.inl rfl)) h1 (by rw [h0];simp) h2)];exact h5⟩
 |Fv k i c=>
  obtain ⟨r,b,n,sz,g,o,len,cap,h1,h0,h2,h3,h4,h5,h6⟩:=h
  have hk:=hr k (by simp [AC.refs])
  obtain ⟨b',g1,g2⟩:=hH k b hk h1
  obtain ⟨q,q1,q2,q3,_⟩:=(h2▸hp k hk).some
  exact ⟨q,b',n,sz,g,o,len,cap,g1,g2.ow _ h0,q1,h3,h4,by rw [<-q2,<-q3,World.cell?_of_block (hg k r b hk (hs k i c (.inr rfl)) h1 (by cases b<;>first|(cases h0;done)|simp [OB.ba]) h2)];exact h5,h6⟩
 |clo g Bz=>
  obtain ⟨us,h1,h2,h3⟩:=h
  refine ⟨us,h1,h2,λj p YE=>?_⟩
  obtain ⟨r,tid,vs,h4,h5,h6⟩:=h3 j p YE
  have hk:=hr p.1 (by simp only [AC.refs,List.mem_map];exact ⟨p,List.mem_of_getElem? YE,rfl⟩)
  obtain ⟨b',g1,g2⟩:=hH p.1 _ hk h4
  obtain ⟨Nv,tS,rfl⟩:=g2.var tid vs rfl
  obtain ⟨q,q1,q2,_⟩:=(h5▸hp p.1 hk).some
  exact ⟨q,Nv,tS,g1,q1,by rw [<-q2];exact h6⟩
 |Gi k=>
  obtain ⟨r,vt,m,h1,h2,h3⟩:=h
  have hk:=hr k (by simp [AC.refs])
  obtain ⟨b',g1,g2⟩:=hH k _ hk h1
  obtain ⟨m',rfl⟩:=g2.Ok vt m rfl
  obtain ⟨q,q1,q2,_⟩:=(h2▸hp k hk).some
  exact ⟨q,vt,m',g1,q1,by rw [<-q2];exact h3⟩
 |_=>exact h
theorem Oa (H0:List (Nat×OB)) (ls:List Nat) (n:Nat): ∀(H:List (Nat×OB)) (l:Nat),Ae (Xg H0 ls n H) l=(Ae H l).map λb=>if ls.contains l then b.wq (Vi n (TJ (Ae H0 l))) else b
 | [],_=>rfl
 |(k,b)::r,l=>by
  simp only [Xg,Ae]
  split
  ·rename_i e;subst e;rfl
  ·exact Oa H0 ls n r l
theorem OB.sL (b:OB) (kp:Option (Nat×Nat)):b.Mr (b.wq kp):=by
 cases b with
 |Al e te rows out kp0=>exact ⟨λsz n h=>⟨n,h,Nat.le_refl _⟩,λp h=>h,λp h=>h,(λ_ _ h=>by cases h),(λ_ _ h=>by cases h)⟩
 |_=>exact OB.Mr.rfl' _
theorem aM (ls:List Nat): ∀(l m:List AV) (t:Nat),l.length=m.length->(∃k i c,l.getD t .undef= .at (.sub k i c)/\ls.contains k=true/\(Gx ls l m).getD t .undef= .at (.sub k i c))\/(Gx ls l m).getD t .undef=m.getD t .undef
 | [],m,t,_=>by cases m<;>exact .inr rfl
 |_::_,[],t,h=>by simp at h
 |a::l,v::m,t,h=>by
  have ih:= λt=>aM ls l m t (by simpa using h)
  have tail: ∀u,Gx ls (a::l) (v::m)=u::Gx ls l m->(t=0->(∃k i c,(a::l).getD t .undef= .at (.sub k i c)/\ls.contains k=true/\u= .at (.sub k i c))\/u=v)->
    (∃k i c,(a::l).getD t .undef= .at (.sub k i c)/\ls.contains k=true/\(Gx ls (a::l) (v::m)).getD t .undef= .at (.sub k i c))\/(Gx ls (a::l) (v::m)).getD t .undef=(v::m).getD t .undef:=by
   intro u e h0
   rw [e]
   rcases t with _|t
   ·rcases h0 rfl with ⟨k,i,c,h1,h2,h3⟩|h3
    ·exact .inl ⟨k,i,c,h1,h2,by simpa using h3⟩
    ·exact .inr (by simpa using h3)
   ·simpa only [List.getD_cons_succ] using ih t
  cases a with
  | «at»c=>
   cases c with
   |sub k i c=>
    refine tail _ rfl λht=>?_
    subst ht
    by_cases hc:ls.contains k=true
    ·exact .inl ⟨k,i,c,rfl,hc,by rw [if_pos hc]⟩
    ·exact .inr (by rw [if_neg hc])
   |_=>exact tail _ rfl λ_=> .inr rfl
  |_=>exact tail _ rfl λ_=> .inr rfl
theorem nU {H:List (Nat×OB)} {ls:List Nat} {n:Nat} : ∀ {l:List AV} {t k i c:Nat},Xr H ls n l=true->l.getD t .undef= .at (.sub k i c)->ls.contains k=true->i<n/\i<lA H k
 | [],t,k,i,c,_,h,_=>by simp at h
 |a::l,0,k,i,c,ho,h,hc=>by
  simp only [List.getD_cons_zero] at h
  subst h
  simp only [Xr,hc,Bool.not_true,Bool.false_or,Bool.and_eq_true,Nat.blt_eq] at ho
  exact ho.1
 |a::l,t+1,k,i,c,ho,h,hc=>by
  refine nU (l:=l) (t:=t) (c:=c) ?_ (by simpa only [List.getD_cons_succ] using h) hc
  cases a with
  | «at»d=>cases d with
   |sub _ _ _=>simp only [Xr,Bool.and_eq_true] at ho;exact ho.2
   |_=>exact ho
  |_=>exact ho
theorem yi {bp st:St} {a:Act} (h0:Aj X π bp a w) (h:Aj X π' st a w') {ls:List Nat} {n:Nat} (hk: ∀l∈ls,tV w w' (π l) (π' l) n) (mD: ∀l∈ls,gS bp.heap l=true)
  (cf:Xr st.heap ls n bp.tmps=true):Aj X π' (fI bp st ls n) a w'/\ ∀c v,An X w' π' st.heap c v->An X w' π' (fI bp st ls n).heap c v:=by
 by_cases fD:ls= []
 ·subst fD;exact ⟨h,λ_ _ h=>h⟩
 have Ss:fI bp st ls n= {tmps:=Gx ls bp.tmps st.tmps,heap:=Xg bp.heap ls n st.heap} :=by
  cases ls with
  |nil=>exact absurd rfl fD
  |cons _ _=>rfl
 rw [Ss]
 have MN: ∀l∈ls,∃e te rows out kp,Ae bp.heap l=some (.Al e te rows out kp):= λl hl=>by
  have:=mD l hl
  unfold gS at this
  split at this
  ·exact ⟨_,_,_,_,_,by assumption⟩
  ·cases this
 have srv: ∀k b,Ae st.heap k=some b-> ∃b',Ae (Xg bp.heap ls n st.heap) k=some b'/\b.Mr b':= λk b hb=>by
  rw [Oa,hb]
  refine ⟨_,rfl,?_⟩
  dsimp only
  split
  ·exact OB.sL b _
  ·exact OB.Mr.rfl' b
 have hac:(∀fr τ cs x,Cells w' (Be X.w0.heap.size X.Sc π' fr) τ cs x->Cells w' (Be X.w0.heap.size X.Sc π' fr) τ cs x)-> ∀c v,Dx X w' π' st.heap c v->Dx X w' π' (Xg bp.heap ls n st.heap) c v:= λhc=>
  ik (f:= λc=>c) (D:= λ_=>False) (Pt:= λ_=>False) (λc=> .inr ⟨rfl,λ_ _ h=>h,λ_ _ _ _ h=>h⟩) (λk _=>aV.rfl' _) (λk b _ hb=>srv k b hb) (λ_ _ _ _ _ _ _ _=>rfl) hc
 have h1:Aj X π' {tmps:=st.tmps.map (·.map λc=>c),heap:=Xg bp.heap ls n st.heap} a w':=by
  refine h.il rfl (gv:= λ_=>False) (λ_ hf=>hf.elim) (Gf.refl _ _ _) (λ_ _ ho=>ho) h.1.sub h.1.place h.1.inj (λl hl Ff=>h.1.cB l hl λh2=>Ff (by rw [Oa,h2];rfl)) hac (λm l b hb=>?_) (λl hl=>?_)
  ·rw [Oa] at hb
   cases h2:Ae st.heap l with
   |none=>rw [h2] at hb;cases hb
   |some b0=>
    rw [h2] at hb
    simp only [Option.map_some,Option.some.injEq] at hb
    have hbk:=(h.1.heap l).Me h2
    have xd:=hbk.move m (Nat.le_refl _) (λr0 c h0 h1=>h.1.sub _ r0 c h0 h1) λ_ _ _ _ _=>rfl
    rw [show OB.map (λc=>c) b0=b0 from OB.vH b0] at xd
    split at hb
    ·rename_i hc
     have hl:l∈ls:=by simpa using hc
     cases b0 with
     |Al e te rows out kp=>
      simp only [OB.wq] at hb
      subst hb
      refine ⟨xd.1,?_⟩
      obtain ⟨e0,te0,QV,Af3,kp0,hg⟩:=MN l hl
      have oB:=((h0.1.heap l).Me hg).2
      rw [hg]
      simp only [TJ]
      have oD:=hk l hl
      cases kp0 with
      |none=>trivial
      |some p=>
       obtain ⟨l0,n0⟩:=p
       simp only [KeptAt,Vi] at oB⊢
       cases rO:X.cB l0 with
       |none=>
        cases hp:π l with
        |none=>
         rw [hp] at oD
         cases AD:π' l with
         |none=>trivial
         |some q=>rw [AD] at oD;exact oD.elim
        |some q=>rw [rO,hp] at oB;exact oB.elim
       |some r0=>
        cases hp:π l with
        |none=>rw [rO,hp] at oB;exact oB.elim
        |some q=>
         rw [rO,hp] at oB
         rw [hp] at oD
         cases AD:π' l with
         |none=>rw [AD] at oD;exact oD.elim
         |some q'=>
          rw [AD] at oD
          obtain ⟨k1,k2,k3,k4⟩:=oD
          obtain ⟨g1,g2,g3,g4⟩:=oB
          refine ⟨k1.trans g1,k2.trans g2,k3.trans g3,λj hj hc=>?_⟩
          have e1:=g4 j (by omega) hc
          have e2:=k4 j (by omega) (by omega)
          rw [g1,g2] at e2
          rw [<-e1,e2]
     |_=>simp only [OB.wq] at hb;subst hb;exact xd
    ·subst hb;exact xd
  ·rw [Oa] at hl
   cases h2:Ae st.heap l with
   |none=>exact (h.1.heap l).emp h2
   |some b=>rw [h2] at hl;cases hl
 have GU: ∀c v,An X w' π' st.heap c v->An X w' π' (Xg bp.heap ls n st.heap) c v:= λc v hv=>by
  have m:Move X w' w' π' π' st.heap (Xg bp.heap ls n st.heap) (λc=>c):=⟨hac λ_ _ _ _ h=>h,λ_ _ _ _ h=>h⟩
  have:=m.av hv
  rwa [AC.map_id] at this
 refine ⟨⟨h1.1,⟨?_,h.2.defers,λt=>?_⟩⟩,GU⟩
 ·have: ∀(l m:List AV),(Gx ls l m).length=m.length:=by
   intro l
   induction l with
   |nil=>intro m;cases m<;>rfl
   |cons a l ih=>
    intro m
    cases m with
    |nil=>cases a with
     | «at»c=>cases c<;>rfl
     |_=>rfl
    |cons v m=>cases a with
     | «at»c=>cases c<;>simp only [Gx,List.length_cons,ih m]
     |_=>simp only [Gx,List.length_cons,ih m]
  show a.tmps.size=(Gx ls bp.tmps st.tmps).length
  rw [this];exact h.2.size
 ·show An X w' π' _ ((Gx ls bp.tmps st.tmps).getD t .undef) _
  rcases aM ls bp.tmps st.tmps t (by rw [<-h0.2.size,<-h.2.size]) with ⟨k,i,c,g1,g2,g3⟩|g
  ·rw [g3]
   have Kz:k∈ls:=by simpa using g2
   obtain ⟨i1,i2⟩:=nU cf g1 g2
   have hv:=h0.2.tmps t
   rw [show bp.get t=_ from g1] at hv
   obtain ⟨r,b,sz,n',e1,e2,e3,e4,⟨e5,e6⟩,e7⟩:=hv
   obtain ⟨e0,te0,QV,Af3,kp0,hg⟩:=MN k Kz
   rw [hg] at e1;cases e1
   simp only [OB.ba,Option.some.injEq,Prod.mk.injEq] at e2
   obtain ⟨rfl,rfl⟩:=e2
   have oD:=hk k Kz
   rw [e3] at oD
   cases AD:π' k with
   |none=>rw [AD] at oD;exact oD.elim
   |some q'=>
    rw [AD] at oD
    obtain ⟨k1,k2,k3,k4⟩:=oD
    have mC:QV.length<=r.cap:=by
     have:=((h0.1.heap k).Me hg).1
     rw [e3] at this
     obtain ⟨_,_,_,_,_,_,h5,_⟩:=this
     exact h5
    unfold lA at i2
    split at i2
    ·rename_i e9 te9 Aa1 Ak5 kp9 hg9
     refine ⟨q',_,1,Aa1.length,by rw [Oa,hg9];rfl,?_,AD,i2,⟨e5,e6⟩,?_⟩
     ·dsimp only
      split<;>rfl
     ·have fz:c=0:=by omega
      subst fz
      rw [k1,k2]
      rw [Nat.mul_one,Nat.add_zero] at e7⊢
      rw [k4 i i1 (by omega)];exact e7
    ·omega
  ·rw [g]
   exact GU _ _ (h.2.tmps t)
theorem jF {ins:List (Bool×CK)} {as:List AC} {pl:List Nat} {st:St} :(l9 ins as pl st).tmps=st.tmps:=by
 unfold l9
 split
 ·rfl
 ·split<;>rfl
theorem yY {ins:List (Bool×CK)} {as:List AC} {pl:List Nat} {st:St} {m:Nat} (hm:m∉pl):Ae (l9 ins as pl st).heap m=Ae st.heap m:=by
 unfold l9
 split
 ·rfl
 ·rename_i l r
  split
  ·exact Cm _ _ _ _ λe=>hm (e▸List.mem_cons_self)
  ·rfl
theorem DY {ins:List (Bool×CK)} {as:List AC} {l:Nat} {st:St} {tid:TypeId} {vs:List AC} (hl:Ae st.heap l=some (.var tid vs)):Ae (l9 ins as [l] st).heap l=some (.var tid (bk ins vs as)):=by
 simp only [l9,St.at,hl]
 exact Cs _ _ _ _ hl
theorem qA {α:Type} (ins:List (Bool×CK)) (as:List α):bk ins [] as= []:=by
 rcases ins with _|⟨⟨_|_,c⟩,r⟩<;>rfl
theorem jy {α:Type} : ∀(ins:List (Bool×CK)) (vs as:List α),(bk ins vs as).length=vs.length
 | [],vs,as=>by rw [bk];all_goals simp
 |p::r,[],as=>by rw [qA]
 |(true,c)::r,v::vs,as=>by simp only [bk,List.length_cons,jy r vs as]
 |(false,c)::r,v::vs,[]=>by rw [bk];all_goals simp
 |(false,c)::r,v::vs,a::as=>by simp only [bk,List.length_cons,jy r vs as]
theorem DP {st:St} {a:Act} (h:Aj X π st a w) {s:MSpec} {jY:List AV} {vs:List Value} (hlen:jY.length=vs.length) (GU: ∀(i:Nat) c v,jY[i]?=some c->vs[i]?=some v->An X w π st.heap c v)
  {pl:List Nat} {cells:List AC} {rest:List AV} (he:AQ st s jY=some (pl,cells,rest)):
  ∃(g:Nat) (OZ qQ:List Value),rest.length=qQ.length/\(∀(i:Nat) c v,rest[i]?=some c->qQ[i]?=some v->An X w π st.heap c v)/\Hw X w π st.heap cells OZ/\
   ((s.ptr=none/\pl= []/\cells= []/\OZ= []/\vs=qQ)\/
    ∃p l q,s.ptr=some p/\pl= [l]/\π l=some q/\q.Az q.g/\g=q.g/\Ae st.heap l=some (.var p.1 cells)/\cells.length=p.2/\vs= .pointer (some ⟨g,0,none⟩)::qQ/\w.heap[g]?=some (.cells OZ.toArray p.1 (0,0))/\Da X w π st.heap cells OZ):=by
 unfold AQ at he
 split at he
 ·rename_i hp
  simp only [Option.some.injEq,Prod.mk.injEq] at he
  obtain ⟨rfl,rfl,rfl⟩:=he
  exact ⟨0,[],vs,hlen,GU,trivial, .inl ⟨hp,rfl,rfl,rfl,rfl⟩⟩
 ·rename_i p hp
  split at he
  ·rename_i l i Agy
   split at he
   ·rename_i tid cs hl
    split at he
    ·rename_i hc
     obtain ⟨rfl,hc,rfl⟩:=hc
     simp only [Option.some.injEq,Prod.mk.injEq] at he
     obtain ⟨rfl,rfl,rfl⟩:=he
     unfold St.at at hl
     cases vs with
     |nil=>simp at hlen
     |cons v vs=>
      obtain ⟨r,Nv,tS,h1,h2,rfl⟩:=GU 0 _ v rfl rfl
      rw [hl] at h1;cases h1
      obtain ⟨r',h3,h4,cur,h5,h6⟩:=(h.1.heap l).Me hl
      rw [h2] at h3;cases h3
      exact ⟨r.g,cur.toList,vs,by simpa using hlen,λi c v h7 h8=>GU (i+1) c v (by simpa using h7) (by simpa using h8),Hw.of h6, .inr ⟨p,l,r,hp,rfl,h2,h4,rfl,hl,hc,rfl,by simpa using h5,h6⟩⟩
    ·cases he
   ·cases he
  ·cases he
theorem dF {V:List Nat} {πc:Pi} {dead part:List Nat} (QM: ∀l,l∉dead->π' l=π l) (Qq: ∀l b sz n,l∉dead->Ae H l=some b->b.row=some (sz,n)-> ∃b',Ae H' l=some b'/\b'.row=some (sz,n)):
  ∀(ins:List (Bool×CK)) (k:Nat) (cells iL:List AC) (x:Ins.den ins) (us:List Value) (o:IOs.den ins) (cur st1:St) (news:List AC) (Su cs:List Value),kV X w π V H πc k ins x (cells++iL) us->Pb ins cells=true->
   Ec ins o (cells++iL) cur=some st1->Cc πc k ins o cells.length cs Su->Hw X w' π' H' news Su->Hw X w' π' H' (bk ins (cells.map (Aw dead part)) news) cs
 |ins,k,[],iL,x,us,o,cur,st1,news,Su,cs,_,_,_,hb,_=>by
  have hb:cs= []:=by rcases ins with _|⟨⟨_|_,c⟩,r⟩<;>(try cases c)<;>simpa [Cc] using hb
  rw [hb,List.map_nil,qA]
  trivial
 | [],k,a::cells,iL,x,us,o,cur,st1,news,Su,cs,_,hk,_,_,_=>by simp [Pb] at hk
 |(true, .Ee τ)::r,k,a::cells,iL,x,us,o,cur,st1,news,Su,cs,_,hk,_,_,_=>by simp [Pb] at hk
 |(true, .part e te)::r,k,a::cells,iL,x,us,o,cur,st1,news,Su,cs,_,hk,_,_,_=>by simp [Pb] at hk
 |(true, .Al e te _)::r,k,a::cells,iL,x,us,o,cur,st1,news,Su,cs,_,hk,_,_,_=>by simp [Pb] at hk
 |(true, .row e te)::r,k,a::cells,iL,x,us,o,cur,st1,news,Su,cs,ht,hk,hp,hb,hn=>by
  cases a<;>simp only [Pb,Bool.false_eq_true] at hk
  rename_i l off len
  cases us with
  |nil=>exact ht.elim
  |cons u0 us=>
  cases cs with
  |nil=>exact hb.elim
  |cons u cs=>
  obtain ⟨⟨_,h1⟩,h2⟩:=ht
  simp only [Mw] at h1
  obtain ⟨h3,rfl,rfl,fr,tr,h4⟩:=h1
  obtain ⟨h5,h6⟩:=hb
  simp only [List.cons_append,Ec] at hp
  split at hp
  rotate_left
  ·cases hp
  rename_i To SQ
  have HF:List.length o.1=List.length x.1:=by
   simp only [Vz] at SQ
   repeat' split at SQ
   all_goals first|(cases SQ;done)|(rename_i hc;exact hc.2.1)
  refine ⟨?_,dF QM Qq r (k+1) cells iL x.2 us o.2 To st1 news Su cs h2 hk hp h6 hn⟩
  by_cases hd:l∈dead
  ·have:Aw dead part (.own l 0 (List.length x.1))= .undef:=by
    unfold Aw
    rw [if_pos (by simp [AC.refs,hd])]
   rw [this];trivial
  ·rw [Wi (by simpa [AC.refs] using hd) (by intro l i j e;rcases e with e|e<;>cases e)]
   obtain ⟨b',g1,g2⟩:=Qq l _ e.size (List.length x.1) hd h4 rfl
   refine ⟨b',e.size,List.length x.1,g1,g2,by omega,?_⟩
   rw [QM l hd]
   rw [h3,HF] at h5
   cases hp:π l<;>(rw [hp] at h5;exact h5)
 |(true, .Dt e te)::r,k,a::cells,iL,x,us,o,cur,st1,news,Su,cs,ht,hk,hp,hb,hn=>by
  cases a<;>simp only [Pb,Bool.false_eq_true] at hk
  rename_i l off len
  cases us with
  |nil=>exact ht.elim
  |cons u0 us=>
  cases cs with
  |nil=>exact hb.elim
  |cons u cs=>
  obtain ⟨⟨_,h1⟩,h2⟩:=ht
  simp only [Mw] at h1
  obtain ⟨h3,rfl,rfl,h4⟩:=h1
  obtain ⟨h5,h6⟩:=hb
  simp only [List.cons_append,Ec] at hp
  split at hp
  rotate_left
  ·cases hp
  rename_i To SQ
  have HF:List.length o.1=List.length x.1:=by
   simp only [Vz] at SQ
   repeat' split at SQ
   all_goals first|(cases SQ;done)|(rename_i hc;exact hc.2.1)
  refine ⟨?_,dF QM Qq r (k+1) cells iL x.2 us o.2 To st1 news Su cs h2 hk hp h6 hn⟩
  by_cases hd:l∈dead
  ·have:Aw dead part (.own l 0 (List.length x.1))= .undef:=by
    unfold Aw
    rw [if_pos (by simp [AC.refs,hd])]
   rw [this];trivial
  ·rw [Wi (by simpa [AC.refs] using hd) (by intro l i j e;rcases e with e|e<;>cases e)]
   obtain ⟨b',g1,g2⟩:=Qq l _ e.size (List.length x.1) hd h4 rfl
   refine ⟨b',e.size,List.length x.1,g1,g2,by omega,?_⟩
   rw [QM l hd]
   rw [h3,HF] at h5
   cases hp:π l<;>(rw [hp] at h5;exact h5)
 |(false,c)::r,k,a::cells,iL,x,[],o,cur,st1,news,Su,cs,ht,hk,hp,hb,hn=>ht.elim
 |(false,c)::r,k,a::cells,iL,x,u0::us,o,cur,st1,news,Su,[],ht,hk,hp,hb,hn=>by cases c<;>exact hb.elim
 |(false,c)::r,k,a::cells,iL,x,u0::us,o,cur,st1,news,[],u::cs,ht,hk,hp,hb,hn=>by cases c<;>exact hb.elim
 |(false,c)::r,k,a::cells,iL,x,u0::us,o,cur,st1,[],u'::Su,u::cs,ht,hk,hp,hb,hn=>hn.elim
 |(false,c)::r,k,a::cells,iL,x,u0::us,o,cur,st1,na::news,u'::Su,u::cs,ht,hk,hp,hb,hn=>by
  have WZ:u=u'/\Cc πc (k+1) r o cells.length cs Su:=by cases c<;>exact hb
  obtain ⟨rfl,hb3⟩:=WZ
  have hp:Ec r o (cells++iL) cur=some st1:=by cases c<;>simpa only [List.cons_append,Ec] using hp
  have hk:Pb r cells=true:=by cases c<;>simpa only [Pb] using hk
  exact ⟨hn.1,dF QM Qq r (k+1) cells iL x.2 us o cur st1 news Su cs ht.2 hk hp hb3 hn.2⟩
theorem wO {V:List Nat} {πc:Pi} : ∀(cs:List (Bool×CK)) (k0:Nat) (x:Ins.den cs) (as:List AC) (us:List Value),k0+cs.length<100000->kV X w π V H πc k0 cs x as us-> ∀k l,(Bv false k,Loc.row l)∈Gy k0 cs as->πc (Bv false k)=(π l).map full
 | [],_,_,[],_,_,_,_,_,h=>by cases h
 | [],_,_,_::_,_,_,_,_,_,h=>by cases h
 |_::_,_,_,[],_,_,_,_,_,h=>by cases h
 |_::_,_,_,_::_,[],_,h,_,_,_=>h.elim
 |(io,c)::r,k0,x,a::as,u::us,hk,h,k,l,ht=>by
  simp only [List.length_cons] at hk
  simp only [Gy] at ht
  rcases List.mem_append.1 ht with ht|ht
  ·obtain ⟨⟨_,h1⟩,_⟩:=h
   cases c with
   |Ee τ=>cases a<;>simp [Kj,views] at ht
   |row e te=>
    cases a<;>simp [Kj] at ht
    obtain ⟨e1,rfl⟩:=ht
    simp only [Mw] at h1
    rw [e1];exact h1.1
   |Dt e te=>
    cases a<;>simp [Kj] at ht
    obtain ⟨e1,rfl⟩:=ht
    simp only [Mw] at h1
    rw [e1];exact h1.1
   |part e te=>
    cases a<;>simp [Kj] at ht
    obtain ⟨e1,rfl⟩:=ht
    simp only [Mw] at h1
    rw [e1];exact h1.2.1
   |Al e te kp=>
    cases a<;>simp [Kj] at ht
    obtain ⟨e1,rfl⟩:=ht
    simp only [Mw] at h1
    rw [e1];exact h1.2.1
  ·exact wO r (k0+1) x.2 as us (by omega) h.2 k l ht
theorem kX {st:St} {a:Act} (h:Aj X π st a w) {f:FuncId} {s:MSpec} (hs:Bo P f s) (dst:Option Nat) (jY:List AV) (vs:List Value) (hlen:jY.length=vs.length)
  (GU: ∀(i:Nat) c v,jY[i]?=some c->vs[i]?=some v->An X w π st.heap c v) (av:AV) (st':St) (he:Qk st dst s jY=some (av,st')):
  Calls P f vs.toArray w λe w'=> ∃v,e= .returned v/\ ∃π',Aj X π' st' a w'/\An X w' π' st'.heap av v:=by
 unfold Qk at he
 split at he
 ·cases he
 rename_i pl cells rest Ae8
 split at he
 ·cases he
 rename_i iL FP
 split at he
 ·cases he
 rename_i x tks htk
 split at he
 rotate_left
 ·cases he
 rename_i Fh
 simp only [Bool.and_eq_true,Nat.blt_eq] at Fh
 obtain ⟨⟨⟨⟨tN,mG⟩,YB⟩,Oz⟩,XO,CC⟩:=Fh
 have CC: ∀l∈pl,l∉(tks.map λt=>t.2.Py)/\l∉Lu s tks (dst.getD 0):= λl hl=>by
  have:=List.all_eq_true.1 CC l hl
  simp only [Bool.not_eq_true',<-Bool.not_eq_true,List.contains_iff_mem] at this
  exact ⟨λhm=>this (List.mem_append_left _ hm),λhm=>this (List.mem_append_right _ hm)⟩
 split at he
 ·cases he
 rename_i r o VH
 split at he
 ·cases he
 rename_i st1 SV
 obtain ⟨g,OZ,qQ,XQ,Acx,Aeb,VT⟩:=DP h hlen GU Ae8
 obtain ⟨px,rfl,AG,Aea⟩:=Wv s.Hb rest qQ iL XQ Acx FP
 have SX:=Aeb.append Aea
 have Ky:iO s w g (OZ++px) vs:=by
  unfold iO
  rcases VT with ⟨h1,_,_,h2,h3⟩|⟨p,l,q,h1,_,_,_,_,_,h2,h3,h4,h5⟩
  ·rw [h1];subst h2;exact ⟨h3,AG⟩
  ·rw [h1]
   have hl:OZ.length=p.2:=h5.1.trans h2
   simp only
   rw [List.drop_append_of_le_length (by omega),List.take_append_of_le_length (by omega),List.take_of_length_le (by omega),List.drop_of_length_le (by omega)]
   refine ⟨h3,AG,by simp;omega,h4,λu hu=>?_⟩
   obtain ⟨i,hi,rfl⟩:=List.mem_iff_getElem.1 hu
   obtain ⟨u',h6,h7,_⟩:=h5.2 i (cells[i]'(by have:=h5.1;omega)) (List.getElem?_eq_getElem _)
   rw [List.getElem?_eq_getElem hi] at h6
   rw [Option.some.inj h6];exact h7
 have CD: ∀l∈pl,∃p q,s.ptr=some p/\pl= [l]/\π l=some q/\q.Az q.g/\g=q.g/\Ae st.heap l=some (.var p.1 cells)/\cells.length=p.2:= λl hl=>by
  rcases VT with ⟨_,h1,_⟩|⟨p,l',q,h1,h2,h3,h4,h5,h6,h7,_⟩
  ·rw [h1] at hl;cases hl
  ·rw [h2] at hl
   have:=List.mem_singleton.1 hl
   subst this
   exact ⟨p,q,h1,h2,h3,h4,h5,h6,h7⟩
 have BX: ∀b,s.gv g b-> ∃l∈pl,∃q,π l=some q/\q.Az b/\b=q.g:= λb ⟨h1,h2⟩=>by
  rcases VT with ⟨h3,_⟩|⟨p,l',q,_,h4,h5,h6,h7,_⟩
  ·rw [h3] at h1;cases h1
  ·exact ⟨l',by rw [h4];exact List.mem_singleton.2 rfl,q,h5,by rw [h2,h7];exact h6,h2.trans h7⟩
 obtain ⟨as,has⟩: ∃as,as=cells++iL:=⟨_,rfl⟩
 obtain ⟨us,HM⟩: ∃us,us=OZ++px:=⟨_,rfl⟩
 rw [<-has] at SX htk SV
 rw [<-HM] at SX Ky
 let V:=(tks.filter λt=>t.2.reads).map λt=>t.2.Py
 have hV: ∀t∈tks,t.2.reads=true->t.2.Py∈V:= λt ht hr=>List.mem_map.2 ⟨t,List.mem_filter.2 ⟨ht,hr⟩,rfl⟩
 have hV': ∀l∈V,∃t∈tks,t.2.reads=true/\t.2.Py=l:= λl hl=>by
  obtain ⟨t,h1,h2⟩:=List.mem_map.1 hl
  exact ⟨t,(List.mem_filter.1 h1).1,(List.mem_filter.1 h1).2,h2⟩
 clear_value V
 obtain ⟨KY,πc,hT,GX,Adi,Oy⟩:=nZ h.1 (V:=V) s.ins 0 as us x tks (by omega) SX htk hV
 have xW:=Qx tN
 rw [KY] at xW
 have Yl: ∀b,Om πc b-> ∃t∈Gy 0 s.ins as,t.2.reads=false/\ ∃q,π t.2.Py=some q/\q.Az b/\ ∀l i j,t.2= .sub l i j->b≠q.g:= λb ⟨c,q,h1,h2⟩=>by
  obtain ⟨t,t1,_,t3⟩:=Oy c q b h1 h2
  exact ⟨t,t1,t3⟩
 have xZ: ∀b,Om πc b->Om π b:= λb hb=>let ⟨t,_,_,q,h1,h2,_⟩:=Yl b hb;⟨_,q,h1,h2⟩
 have eu:bF πc (λb=>b<w.heap.size):=⟨λl q b h1 h2=>(h.1.own (xZ b ⟨l,q,h1,h2⟩)).1,λl l' q q' b h1 h2 h3 h4=>by
  obtain ⟨t,t1,t2,_,p,t3,t4,_⟩:=Oy l q b h1 h3
  obtain ⟨t',UI,t2',_,p',t3',t4',_⟩:=Oy l' q' b h2 h4
  have:=s5 xW t1 UI (h.1.apart t3 t3' t4 t4')
  rw [<-t2,<-t2',this]⟩
 have WW: ∀k l,(Bv false k,Loc.row l)∈Gy 0 s.ins as->πc (Bv false k)=(π l).map full:= λk l ht=>
  wO s.ins 0 x as us (by omega) hT k l ht
 have YZ: ∀b,Om πc b->Je X π V b:= λb hb=> .inl ⟨xZ b hb,λl hl r' hr hf=>by
  obtain ⟨t,t1,t0,q,t3,t4,_⟩:=Yl b hb
  obtain ⟨t',UI,t2',rfl⟩:=hV' l hl
  rw [KY] at UI
  have:=s5 xW t1 UI (h.1.apart t3 hr t4 hf)
  subst this
  rw [t0] at t2';cases t2'⟩
 let S:Nat->Prop:= λb=> ¬Om πc b/\Je X π V b
 have hS: ∀b,S b->b<w.heap.size/\ ¬Om πc b:= λb hb=>⟨by
  rcases hb.2 with h1|h1
  ·exact (h.1.own h1.1).1
  ·exact Nat.lt_of_lt_of_le (h.1.sc b h1).1 h.1.below.size,hb.1⟩
 have MW: ∀l∈pl,∀t∈Gy 0 s.ins as,t.2.Py≠l:= λl hl t ht e=>(CC l hl).1 (List.mem_map.2 ⟨t,KY▸ht,e⟩)
 have hSg:s.ptr.isSome=true->S g:= λVS=>by
  obtain ⟨l,hl,q,h1,h2,h3⟩:=BX g ⟨VS,rfl⟩
  have VO: ¬Om πc g:= λhb=>by
   obtain ⟨t,t1,_,q',t3,t4,_⟩:=Yl g hb
   exact MW l hl t t1 (h.1.apart t3 h1 t4 h2)
  refine ⟨VO, .inl ⟨⟨l,q,h1,h2⟩,λl' Hd r' fF hf=>?_⟩⟩
  obtain ⟨t',UI,_,rfl⟩:=hV' l' Hd
  rw [KY] at UI
  exact MW l hl t' UI (h.1.apart fF h1 hf h2)
 refine (hs.calls w S πc us x r o g vs Ky hSg (Zm.Ev (λb hb=>hb.elim (YZ b) λh=>h.2) s.ins 0 x us (hT.ZI s.ins 0 x as us)) eu hS Adi VH).mono ?_
 rintro e w' ⟨v,Su,tT,rfl,a8,pT,MJ,rH,YC,HH,TG,pY⟩
 obtain ⟨ρ,NF,xY,HG,PQ⟩: ∃ρ:Pi,(∀l,ρ l=(tT l).map full)/\Ew w' (dO S πc tT) ρ 0 s.outs r Su/\bF ρ (λb=>b<w'.heap.size/\(w.heap.size<=b\/ ∃l q,l<Ak/\πc l=some q/\q.Az b))/\ ∀l q,ρ l=some q->q.cl=q.Az:=by
  have un: ∀l q,(tT l).map full=some q-> ∃q0,tT l=some q0/\q=full q0:= λl q hq=>by
   cases hp:tT l with
   |none=>rw [hp] at hq;cases hq
   |some q0=>rw [hp] at hq;exact ⟨q0,rfl,(Option.some.inj hq).symm⟩
  refine ⟨λl=>(tT l).map full,λ_=>rfl,Ew.full s.outs 0 r Su YC,⟨λl q b h1 h2=>?_,λl l' q q' b h1 h2 h3 h4=>?_⟩,λl q h1=>?_⟩
  ·obtain ⟨q0,h5,rfl⟩:=un l q h1
   exact HH.Oq l q0 b h5 h2
  ·obtain ⟨q0,h5,rfl⟩:=un l q h1
   obtain ⟨UE,h6,rfl⟩:=un l' q' h2
   exact HH.inj l l' q0 UE b h5 h6 h3 h4
  ·obtain ⟨q0,_,rfl⟩:=un l q h1
   rfl
 refine ⟨v,rfl,?_⟩
 split at he
 ·cases he
 rename_i av0 cg
 split at he
 rotate_left
 ·cases he
 rename_i Lc
 simp only [Option.some.injEq,Prod.mk.injEq] at he
 obtain ⟨rfl,rfl⟩:=he
 let D1:Nat->Prop:=if s.flat then λ_=>True else dO S πc tT
 have Adl:Hg w' D1 πc 0 s.ins o:=by
  show Hg w' (if s.flat then λ_=>True else dO S πc tT) πc 0 s.ins o
  split
  ·rename_i hf
   unfold MSpec.flat at hf
   simp only [Bool.and_eq_true] at hf
   exact Hg.any s.ins 0 o hf.2 rH
  ·exact rH
 have YD:Ew w' D1 ρ 0 s.outs r Su:=by
  show Ew w' (if s.flat then λ_=>True else dO S πc tT) ρ 0 s.outs r Su
  split
  ·rename_i hf
   unfold MSpec.flat at hf
   simp only [Bool.and_eq_true] at hf
   exact Ew.any s.outs 0 r Su hf.1 xY
  ·exact xY
 obtain ⟨q1,q2,q3,q4⟩:=np (D:=D1) (X:=X) (π:=π) (H:=st.heap) h.1 MJ.size (tks:=Gy 0 s.ins as) (πc:=πc) (λt ht q b hq hb Gz hn=>MJ.block b Gz λxX=>by
   rcases xX with ⟨c,r',h1,h2⟩|hg
   rotate_left
   ·obtain ⟨l,hl,q',h1,h2,_⟩:=BX b hg
    exact MW l hl t ht (h.1.apart hq h1 hb h2)
   obtain ⟨t',t1,t2,_,p,t3,t4,_⟩:=Oy c r' b h1 h2
   have:=s5 xW ht t1 (h.1.apart hq t3 hb t4)
   subst this
   exact hn r' (t2▸h1) h2) s.ins 0 x as us o st st1 (by omega) (λ_ h=>h) xW hT Adl SV (λ_ _=>rfl)
 have SY: ∀t∈Gy 0 s.ins as,t.2.reads=true->t.1<Ak:=by
  have: ∀(cs:List (Bool×CK)) (k:Nat) (as:List AC),k+cs.length<100000-> ∀t∈Gy k cs as,t.2.reads=true->t.1<Ak:=by
   intro cs
   induction cs with
   |nil=>intro k as _ t ht;cases as<;>cases ht
   |cons p r ih=>
    intro k as hk t ht hr
    simp only [List.length_cons] at hk
    cases as with
    |nil=>cases ht
    |cons a as=>
     simp only [Gy] at ht
     rcases List.mem_append.1 ht with ht|ht
     ·rcases wN ht with ⟨_,h1⟩|⟨h1,_⟩
      ·rw [hr] at h1;cases h1
      ·rw [h1];exact az (by omega)
     ·exact ih (k+1) as (by omega) t ht hr
  exact this s.ins 0 as (by omega)
 let d:=dst.getD 0
 let ks:=Lu s tks d
 let dead:=gy tks++ks++(if s.flat then [] else tz tks)
 let part:=whole tks
 have Aee:s.outs.length+(fS s d).length=s.Nq:=by unfold MSpec.Nq fS;cases s.rp<;>rfl
 obtain ⟨SJ,Adt,PX⟩:ks.length=s.Nq/\ks.Nodup/\ ∀l∈ks,l<Ak:=by
  have:=yl mG
  rw [Aee] at this
  exact this
 have VO:s.outs.length<=s.Nq:=by unfold MSpec.Nq;omega
 have NB: ∀tid,s.rp=some tid->Bx ks s.outs.length=Mv d/\s.Nq=s.outs.length+1:= λtid Qr=>by
  have h1:s.Nq=s.outs.length+1:=by unfold MSpec.Nq;rw [Qr]
  refine ⟨?_,h1⟩
  have h2:ks=gr s tks d++ [Mv d]:=by show gr s tks d++fS s d=_;unfold fS;rw [Qr]
  have h3:(gr s tks d).length=s.outs.length:=by rw [h2] at SJ;simp at SJ;omega
  rw [Lf (by rw [SJ];omega)]
  simp only [h2]
  rw [List.getElem_append_right (by omega)]
  simp [h3]
 have HE:=ui Adt PX
 have Adr: ∀j,j<s.Nq->Bx ks j<Ak:= λj hj=>PX _ (mem_keys.2 ⟨j,by omega,rfl⟩)
 let π':Pi:= λl=>match (List.range s.Nq).find? λj=>decide (Bx ks j=l) with
  |some j=>ρ (Fq j)
  |none=>if l∈dead then none else π l
 have oC: ∀j,j<s.Nq->π' (Bx ks j)=ρ (Fq j):= λj hj=>by
  show (match (List.range s.Nq).find? λi=>decide (Bx ks i=Bx ks j) with|some i=>ρ (Fq i)|none=>_)=_
  cases hf:(List.range s.Nq).find? λi=>decide (Bx ks i=Bx ks j) with
  |none=>
   have:=List.find?_eq_none.1 hf j (List.mem_range.2 hj)
   simp at this
  |some i=>
   have:=List.find?_some hf
   rw [HE i j (of_decide_eq_true this)]
 have mF: ∀j,j<s.Nq->Bx ks j∈dead:= λj hj=>List.mem_append_left _ (List.mem_append_right _ (mem_keys.2 ⟨j,by omega,rfl⟩))
 have rJ: ∀l,(¬ ∃j,j<s.Nq/\l=Bx ks j)->π' l=if l∈dead then none else π l:= λl hl=>by
  show (match (List.range s.Nq).find? λi=>decide (Bx ks i=l) with|some i=>ρ (Fq i)|none=>_)=_
  cases hf:(List.range s.Nq).find? λi=>decide (Bx ks i=l) with
  |none=>rfl
  |some i=>
   have h1:=List.find?_some hf
   exact absurd ⟨i,List.mem_range.1 (List.mem_of_find?_eq_some hf),(of_decide_eq_true h1).symm⟩ hl
 have HQ: ∀l,l∉dead->π' l=π l:= λl hl=>by
  rw [rJ l (λ⟨j,h1,h2⟩=>hl (h2▸mF j h1)),if_neg hl]
 have WM: ∀b,Om π' b\/X.Sc b->D1 b:=by
  intro b hb
  show (if s.flat then λ_=>True else dO S πc tT) b
  split
  ·trivial
  rename_i hnf
  rcases hb with ⟨l,q,hl,hf⟩|hb
  ·by_cases hk: ∃j,j<s.Nq/\l=Bx ks j
   ·obtain ⟨j,hj,rfl⟩:=hk
    rw [oC j hj,NF] at hl
    cases hp:tT (Fq j) with
    |none=>rw [hp] at hl;cases hl
    |some q0=>rw [hp] at hl;simp only [Option.map_some,Option.some.injEq] at hl;subst hl;exact .inr (.inr ⟨Fq j,q0,hp,hf⟩)
   ·have e0:π' l=if l∈dead then none else π l:=rJ l hk
    rw [e0] at hl
    split at hl
    ·cases hl
    ·rename_i MT
     by_cases ho:Om πc b
     ·obtain ⟨c,q',hc,hcb⟩:=ho
      obtain ⟨t,t1,t2,t0,p,t3,t4,_⟩:=Oy c q' b hc hcb
      have rK:=h.1.apart hl t3 hf t4
      refine .inr (.inl ⟨c,q',Classical.byContradiction λhn=>?_,hc,hcb⟩)
      exact MT (List.mem_append_left _ (List.mem_append_left _ (Yt.2 ⟨t,KY▸t1,⟨by rw [t2];omega,t0⟩,rK.symm⟩)))
     ·refine .inl ⟨ho, .inl ⟨⟨l,q,hl,hf⟩,λl0 SL r0 SW hf0=>?_⟩⟩
      have:=h.1.apart hl SW hf hf0
      subst this
      exact MT (List.mem_append_right _ (by rw [if_neg hnf];exact mV.2 (hV' l SL)))
  ·refine .inl ⟨λho=>?_, .inr hb⟩
   have h1:=h.1.sc b hb
   rcases (h.1.own (xZ b ho)).2 with h2|h2
   ·omega
   ·exact h1.2 h2
 have hpd: ∀l∈pl,l∉dead:= λl hl hd=>by
  rcases List.mem_append.1 hd with hd|hd
  ·rcases List.mem_append.1 hd with hd|hd
   ·obtain ⟨t,ht,_,e⟩:=Yt.1 hd
    exact (CC l hl).1 (List.mem_map.2 ⟨t,ht,e⟩)
   ·exact (CC l hl).2 hd
  ·split at hd
   ·cases hd
   ·obtain ⟨t,ht,_,e⟩:=mV.1 hd
    exact (CC l hl).1 (List.mem_map.2 ⟨t,ht,e⟩)
 have SI: ∀j,j<s.Nq->Bx ks j∉pl:= λj hj hp=>hpd _ hp (mF j hj)
 let bv:Option OB:=s.rp.map λtid=> .var tid ((Vn (Bx ks) 0 s.outs r).drop s.Th)
 let H1:=(l9 s.ins (Vn (Bx ks) 0 s.outs r) pl (st1.Wh dead part)).heap
 have VE: ∀l,l∉pl->Ae H1 l=if l∈dead then none else (Ae st1.heap l).map (OB.map (Aw dead part)):= λl hl=>by
  show Ae (l9 _ _ _ _).heap l=_
  rw [yY hl]
  show Ae (Qh (st1.heap.map λp=>(p.1,p.2.map (Aw dead part))) dead) l=_
  rw [Ih,Jh]
 let H2:=uZ H1 (Mv d) bv
 have hvd: ∀tid,s.rp=some tid->Mv d∈dead/\Mv d∉pl:= λtid Qr=>by
  obtain ⟨e1,e2⟩:=NB tid Qr
  rw [<-e1]
  exact ⟨mF _ (by omega),SI _ (by omega)⟩
 have WR: ∀l,(∀tid,s.rp=some tid->l≠Mv d)->Ae H2 l=Ae H1 l:= λl hl=>by
  show Ae (uZ H1 (Mv d) (s.rp.map _)) l=_
  cases xe:s.rp with
  |none=>rfl
  |some tid=>exact Jq _ _ _ _ (hl tid xe)
 have Acj: ∀tid,s.rp=some tid->Ae H2 (Mv d)=some (.var tid ((Vn (Bx ks) 0 s.outs r).drop s.Th)):= λtid Qr=>by
  show Ae (uZ H1 (Mv d) (s.rp.map _)) (Mv d)=_
  rw [Qr]
  exact Kl _ _ _ (by rw [VE _ (hvd tid Qr).2,if_pos (hvd tid Qr).1])
 have hkv: ∀j,j<s.outs.length-> ∀tid,s.rp=some tid->Bx ks j≠Mv d:= λj hj tid Qr e=>by
  have:=HE j s.outs.length (e.trans (NB tid Qr).1.symm)
  omega
 have hH2: ∀l,l∉pl->(∀tid,s.rp=some tid->l≠Mv d)->Ae H2 l=if l∈dead then none else (Ae st1.heap l).map (OB.map (Aw dead part)):= λl hl hv=>by
  rw [WR l hv,VE l hl]
 let H':=Qy (zM st (gy tks)) (Bx ks) 0 s.outs r H2
 obtain ⟨n1,n2,n3⟩:=kG (D:=D1) (X:=X) (key:=Bx ks) HE (fr:=zM st (gy tks)) (ρ:=ρ) s.outs 0 r Su H2 YD (λj _ hj=>by
  rw [hH2 _ (SI j (by omega)) (hkv j (by omega)),if_pos (mF j (by omega))])
 have j9: ∀l,l∉dead->l∉pl->Ae H' l=(Ae st1.heap l).map (OB.map (Aw dead part)):= λl hl oE=>by
  show Ae (Qy _ _ _ _ _ _) l=_
  rw [n1 l λj _ hj e=>hl (e▸mF j (by omega)),hH2 l oE (λtid Qr e=>hl (e▸(hvd tid Qr).1)),if_neg hl]
 have MG: ∀l,l∈dead->(∀j,j<s.Nq->l≠Bx ks j)->Ae H' l=none:= λl hl hj=>by
  show Ae (Qy _ _ _ _ _ _) l=_
  rw [n1 l λj _ h2=>hj j (by omega),hH2 l (λhp=>hpd l hp hl) (λtid Qr e=>hj s.outs.length (by have:=(NB tid Qr).2;omega) (e.trans (NB tid Qr).1.symm)),if_pos hl]
 have newAt: ∀l b',Ae H' l=some b'->(l∈dead\/Ae st.heap l=none)-> ∃j,j<s.Nq/\l=Bx ks j:=by
  intro l b' hb hd
  refine Classical.byContradiction λhn=>?_
  have lC: ∀j,j<s.Nq->l≠Bx ks j:= λj hj e=>hn ⟨j,hj,e⟩
  rcases Classical.em (l∈dead) with XC|XC
  ·rw [MG l XC lC] at hb;cases hb
  ·rcases hd with hd|hd
   ·exact XC hd
   ·rw [j9 l XC (λhp=>by obtain ⟨_,_,_,_,_,_,_,h1,_⟩:=CD l hp;rw [hd] at h1;cases h1)] at hb
    have:Ae st1.heap l=none:=by
     by_cases hi: ∃t∈Gy 0 s.ins as,t.2.Py=l
     ·obtain ⟨t,ht,e⟩:=hi
      by_cases Gz:t.1<Ak
      ·rw [<-e,q3 t ht Gz,e];exact hd
      ·obtain ⟨b0,_,h1,_⟩:=q4 t ht Gz
       rw [e,hd] at h1;cases h1
     ·rw [q2 l λt ht e=>hi ⟨t,ht,e.symm⟩];exact hd
    rw [this] at hb;cases hb
 have SA: ∀k,zM st (gy tks)=true-> ∀q,ρ (Fq k)=some q->q.Az q.g->X.w0.heap.size<=q.g:=by
  intro k uS q hq hg
  rcases (HG.Oq _ q _ hq hg).2 with h1|⟨c,p,h1,h2,h3⟩
  ·exact Nat.le_trans h.1.below.size h1
  ·obtain ⟨t,t1,t2,t0,p',t3,t4,_⟩:=Oy c p _ h2 h3
   have hm:t.2.Py∈gy tks:=Yt.2 ⟨t,KY▸t1,⟨by rw [t2];exact h1,t0⟩,rfl⟩
   have:=List.all_eq_true.1 uS _ hm
   split at this
   ·rename_i fr tr e te xs hl
    unfold St.at at hl
    have hb:=(h.1.heap t.2.Py).Me hl
    simp only [Av,Fl,t3] at hb
    rw [hb.1.2.1 _ t4]
    exact hb.1.2.2 this
   ·cases this
 have RY: ∀k q,ρ (Fq k)=some q->k<s.outs.length->q.Az q.g:=by
  intro k q hq hk
  exact Ew.PA s.outs 0 r Su xY k (Nat.zero_le _) ((Nat.zero_add _).symm▸hk) q hq
 have hinv: ∀l,l∉dead->(∃t∈Gy 0 s.ins as,t.2.reads=false/\t.2.Py=l)->gk X D1 w' π st.heap st1.heap l:=by
  rintro l hd ⟨t,ht,h0,rfl⟩
  by_cases Gz:t.1<Ak
  ·exact absurd (List.mem_append_left _ (List.mem_append_left _ (Yt.2 ⟨t,KY▸ht,⟨Gz,h0⟩,rfl⟩))) hd
  ·exact q4 t ht Gz
 have rM: ∀l,(¬ ∃t∈Gy 0 s.ins as,t.2.reads=false/\t.2.Py=l)->Ae st1.heap l=Ae st.heap l:= λl hn=>by
  by_cases hi: ∃t∈Gy 0 s.ins as,t.2.Py=l
  ·obtain ⟨t,ht,rfl⟩:=hi
   have hr:t.2.reads=true:=by
    cases h0:t.2.reads with
    |true=>rfl
    |false=>exact absurd ⟨t,ht,h0,rfl⟩ hn
   exact q3 t ht (SY t ht hr)
  ·exact q2 l λt ht e=>hi ⟨t,ht,e.symm⟩
 have PI: ∀l∈pl,∀p,s.ptr=some p->Ae H' l=some (.var p.1 (bk s.ins (cells.map (Aw dead part)) (Vn (Bx ks) 0 s.outs r))):= λl hl p hp=>by
  obtain ⟨p',q,h1,h2,_,_,_,h3,_⟩:=CD l hl
  rw [hp] at h1;cases h1
  show Ae (Qy _ _ _ _ _ _) l=_
  rw [n1 l λj _ hj e=>SI j (by omega) (e▸hl),WR l (λtid Qr e=>(hvd tid Qr).2 (e▸hl))]
  show Ae (l9 _ _ _ _).heap l=_
  rw [h2]
  refine DY ?_
  show Ae (Qh (st1.heap.map λp=>(p.1,p.2.map (Aw dead part))) dead) l=_
  rw [Ih,Jh,if_neg (hpd l hl),rM l (λ⟨t,ht,_,e⟩=>MW l hl t ht e),h3]
  rfl
 have PZ: ∀j,j<s.Nq->s.outs.length<=j-> ∃tid,s.rp=some tid/\j=s.outs.length:= λj h1 h2=>by
  cases xe:s.rp with
  |none=>unfold MSpec.Nq at h1;rw [xe] at h1;simp at h1;omega
  |some tid=>exact ⟨tid,rfl,by have:=(NB tid xe).2;omega⟩
 have hHv: ∀tid,s.rp=some tid->Ae H' (Mv d)=some (.var tid ((Vn (Bx ks) 0 s.outs r).drop s.Th)):= λtid Qr=>by
  show Ae (Qy _ _ _ _ _ _) _=_
  rw [n1 _ λj _ hj e=>hkv j (by omega) tid Qr e.symm,Acj tid Qr]
 suffices XS:Aj X π' (fe st st1 d s pl tks r) a w'/\An X w' π' (fe st st1 d s pl tks r).heap av0 v by
  obtain ⟨m1,m2⟩:=XS
  have fD: ∀(kj:List (Nat×Nat)) (l:Nat),l∈Vh st.heap ks tks kj->gS st.heap l=true/\ ∃k j t,(k,j)∈kj/\t∈tks/\t=(Bv false k,Loc.row l)/\ks[j]?=some l:=by
   intro kj
   induction kj with
   |nil=>intro l hl;cases hl
   |cons p kj ih=>
    intro l hl
    obtain ⟨k,j⟩:=p
    have up:l∈Vh st.heap ks tks kj->gS st.heap l=true/\ ∃k' j' t,(k',j')∈(k,j)::kj/\t∈tks/\t=(Bv false k',Loc.row l)/\ks[j']?=some l:= λhl=>by
     obtain ⟨h1,k',j',t,h2,h3⟩:=ih l hl
     exact ⟨h1,k',j',t,List.mem_cons_of_mem _ h2,h3⟩
    simp only [Vh] at hl
    split at hl
    ·rename_i x0 l1 l2 h1 h2
     split at hl
     ·rename_i hc
      simp only [Bool.and_eq_true] at hc
      rcases List.mem_cons.1 hl with rfl|hl
      ·have:=List.find?_some h1
       have e1:=Nat.eq_of_beq_eq_true this
       have e2:=Nat.eq_of_beq_eq_true hc.1
       dsimp only at e1
       exact ⟨hc.2,k,j,_,List.mem_cons_self,List.mem_of_find?_eq_some h1,by rw [e1],by rw [h2,e2]⟩
      ·exact up hl
     ·exact up hl
    ·exact up hl
  obtain ⟨r1,r2⟩:=yi h m1 (ls:=Vh st.heap ks tks s.keeps) (n:=s.Cw x) (λl hl=>by
   obtain ⟨_,k,j,t,h1,h2,h3,h4⟩:=fD s.keeps l hl
   have hj:j<ks.length:=(List.getElem?_eq_some_iff.1 h4).1
   have FN:Bx ks j=l:=by
    rw [Lf hj]
    rw [List.getElem?_eq_getElem hj] at h4
    exact Option.some.inj h4
   have oD:=pY (k,j) h1
   rw [show π' l=ρ (Fq j) by rw [<-FN];exact oC j (by omega),NF]
   have hc:πc (Bv false k)=(π l).map full:=WW k l (by rw [<-h3,<-KY];exact h2)
   dsimp only at oD
   rw [hc] at oD
   cases hp:π l<;>cases hq:tT (Fq j)<;>(rw [hp,hq] at oD;exact oD)) (λl hl=>(fD s.keeps l hl).1) Lc
  exact ⟨π',r1,r2 av0 v m2⟩
 refine ⟨?_,?_⟩
 ·have hx:=Aj.RL (π':=π') (H':=H') (dead:=dead) (part:=part) (inv:= λl=>(∃t∈Gy 0 s.ins as,t.2.reads=false/\t.2.Py=l)\/l∈pl) (gv:= λb=>Om πc b\/s.gv g b) h (λb hb=>by
    rcases hb with hb|hb
    ·obtain ⟨t,h1,h0,q,h2,h3,_⟩:=Yl b hb
     exact ⟨_,q, .inl ⟨t,h1,h0,rfl⟩,h2,h3⟩
    ·obtain ⟨l,hl,q,h1,h2,_⟩:=BX b hb
     exact ⟨l,q, .inr hl,h1,h2⟩) MJ (λl b0 hd h0=>⟨HQ l hd,?_⟩) (λl b' hb hd=>?_) (λl hl=>?_) (λm q hd hp hm hxa=>?_)
  ·have:({tmps:=(l9 s.ins (Vn (Bx ks) 0 s.outs r) pl (st1.Wh dead part)).tmps,heap:=H'} :St)= {tmps:=st.tmps.map (·.map (Aw dead part)),heap:=H'} :=by
    rw [jF]
    show ({tmps:=st1.tmps.map (·.map (Aw dead part)),heap:=H'} :St)=_
    rw [q1]
   show Aj X π' ({tmps:=(l9 s.ins (Vn (Bx ks) 0 s.outs r) pl (st1.Wh dead part)).tmps,heap:=H'} :St) a w'
   rw [this]
   exact hx
  ·by_cases MQ:l∈pl
   ·obtain ⟨p,q,h1,h2,h3,h4,h5,h6,h7⟩:=CD l MQ
    rw [h0] at h6;cases h6
    have oc:=PI l MQ p h1
    refine .inr ⟨_,oc,⟨rfl,by rw [jy]⟩,λm=>?_⟩
    unfold eZ at pT
    rw [h1] at pT
    obtain ⟨cs,k1,k2,k3⟩:=pT
    rw [<-h7] at k3
    refine ⟨q,h3,h4,cs.toArray,by rw [<-h5];exact k1,?_⟩
    refine Hw.to (dF (H:=st.heap) HQ (λl1 b1 sz n hd1 GV MY=>?_) s.ins 0 cells iL x us o st st1 (Vn (Bx ks) 0 s.outs r) Su cs (has▸hT) XO (has▸SV) k3 (n3 π' WM (λj _ hj=>oC j (by omega)))) (by simpa using k2)
    have hnp:l1∉pl:= λhp=>by
     obtain ⟨_,_,_,_,_,_,_,h8,_⟩:=CD l1 hp
     rw [GV] at h8;cases h8;cases MY
    by_cases hi: ∃t∈Gy 0 s.ins as,t.2.reads=false/\t.2.Py=l1
    ·obtain ⟨b1,b',e1,e2,e3,e4,e5,e6⟩:=hinv l1 hd1 hi
     rw [GV] at e1;cases e1
     exact ⟨b',by rw [j9 l1 hd1 hnp,e2];simp [e4],by rw [e5.row];exact MY⟩
    ·exact ⟨_,by rw [j9 l1 hd1 hnp,rM l1 hi,GV];rfl,by rw [OB.sI];exact MY⟩
   by_cases hi: ∃t∈Gy 0 s.ins as,t.2.reads=false/\t.2.Py=l
   ·obtain ⟨b1,b',e1,e2,e3,e4,e5,e6⟩:=hinv l hd hi
    rw [h0] at e1;cases e1
    exact .inr ⟨b',by rw [j9 l hd MQ,e2];simp [e4],by rw [e3];exact e5,λ_=>e6 π' H' WM⟩
   ·exact .inl ⟨λhh=>hh.elim hi MQ,by rw [j9 l hd MQ,rM l hi,h0];rfl⟩
  ·obtain ⟨j,hj,rfl⟩:=newAt l b' hb hd
   refine ⟨Adr j hj,?_,λq b hq=>?_⟩
   ·rw [oC j hj]
    rcases Nat.lt_or_ge j s.outs.length with VK|VK
    ·rcases n2 j (Nat.zero_le _) (by omega) with ⟨e1,_⟩|⟨b2,e1,e2⟩
     ·rw [show Ae H' (Bx ks j)=none from e1] at hb;cases hb
     ·rw [show Ae H' (Bx ks j)=some b2 from e1] at hb;cases hb
      exact e2 X π' H' (λhf q hq=>SA j hf q hq (RY j q hq VK)) WM
    ·obtain ⟨tid,Qr,hj0⟩:=PZ j hj VK
     subst hj0
     rw [(NB tid Qr).1,hHv tid Qr] at hb;cases hb
     unfold lS at a8
     rw [Qr] at a8
     obtain ⟨q,y1,y2,y3,y4,_⟩:=a8
     rw [NF,y1]
     exact ⟨full q,rfl,y2,_,y3,Hw.to (Hw.take s.Th (n3 π' WM (λj _ hj=>oC j (by omega)))).2 (by simpa using y4)⟩
   ·rw [oC j hj] at hq
    have Nz:=PQ _ q hq
    refine ⟨λhf=>by rw [Nz];exact hf,λhf=>?_⟩
    rw [Nz] at hf
    obtain ⟨h1,h2⟩:=HG.Oq _ q b hq hf
    refine ⟨h1,h2.imp id ?_,λl2 r2 XD CA RW=>?_⟩
    ·rintro ⟨c,p,h3,h4,h5⟩
     obtain ⟨t,t1,t2,t0,p',t3,t4,_⟩:=Oy c p b h4 h5
     exact ⟨t.2.Py,p',List.mem_append_left _ (List.mem_append_left _ (Yt.2 ⟨t,KY▸t1,⟨by rw [t2];exact h3,t0⟩,rfl⟩)),t3,t4⟩
    ·by_cases hk: ∃j,j<s.Nq/\l2=Bx ks j
     ·obtain ⟨j2,hj2,rfl⟩:=hk
      rw [oC j2 hj2] at CA
      rw [PQ _ r2 CA] at RW
      have:=HG.inj _ _ r2 q b CA hq RW hf
      unfold Fq at this
      have:j2=j:=by omega
      rw [this]
     ·have e0:π' l2=if l2∈dead then none else π l2:=rJ l2 hk
      rw [e0] at CA
      split at CA
      ·cases CA
      ·rename_i MT
       rcases XD with XD|XD
       ·exact absurd XD MT
       ·rw [(h.1.heap l2).emp XD] at CA;cases CA
  ·by_cases hk: ∃j,j<s.Nq/\l=Bx ks j
   ·obtain ⟨j,hj,rfl⟩:=hk
    rw [oC j hj]
    rcases Nat.lt_or_ge j s.outs.length with VK|VK
    ·rcases n2 j (Nat.zero_le _) (by omega) with ⟨_,e1⟩|⟨b2,e1,_⟩
     ·exact e1
     ·rw [show Ae H' (Bx ks j)=some b2 from e1] at hl;cases hl
    ·obtain ⟨tid,Qr,hj0⟩:=PZ j hj VK
     subst hj0
     rw [(NB tid Qr).1,hHv tid Qr] at hl;cases hl
   ·have e0:π' l=if l∈dead then none else π l:=rJ l hk
    rw [e0]
    split
    ·rfl
    ·rename_i hd
     by_cases MQ:l∈pl
     ·obtain ⟨p,_,h1,_⟩:=CD l MQ
      rw [PI l MQ p h1] at hl;cases hl
     rw [j9 l hd MQ] at hl
     by_cases hi: ∃t∈Gy 0 s.ins as,t.2.reads=false/\t.2.Py=l
     ·obtain ⟨_,b',_,e2,_⟩:=hinv l hd hi
      rw [e2] at hl;cases hl
     ·rw [rM l hi] at hl
      cases h0:Ae st.heap l with
      |none=>exact (h.1.heap l).emp h0
      |some b=>rw [h0] at hl;cases hl
  ·refine MJ.block _ (h.1.lt hm).1 λxX=>?_
   rcases xX with ho|hg
   rotate_left
   ·obtain ⟨l,hl,q',h1,h2,_⟩:=BX _ hg
    have rK:=h.1.apart hm h1 (h.1.Az hm) h2
    obtain ⟨_,_,_,_,_,_,_,h3,_⟩:=CD l hl
    obtain ⟨b,hxa,hxb⟩:=hxa
    rw [rK,h3] at hxa;cases hxa
    exact hxb rfl
   obtain ⟨t,t1,t0,p,t3,t4,t5⟩:=Yl _ ho
   have rK:=h.1.apart hm t3 (h.1.Az hm) t4
   have VR:p=q:=by rw [<-rK,hm] at t3;exact (Option.some.inj t3).symm
   cases QJ:t.2 with
   |row l=>
    refine hp ?_
    show m∈whole tks
    unfold whole
    exact List.mem_flatMap.2 ⟨t,KY▸t1,by rw [QJ,rK,QJ];simp [Loc.Py]⟩
   |sub l i j=>exact t5 l i j QJ (by rw [VR])
   |view l=>rw [QJ] at t0;cases t0
 ·have Aed:=n3 π' WM (λj _ hj=>oC j (by omega))
  cases xe:s.rp with
  |some tid=>
   unfold lS at a8
   rw [xe] at a8
   obtain ⟨q,y1,y2,y3,y4,rfl⟩:=a8
   unfold NW at cg
   rw [xe] at cg
   simp only [Option.some.injEq] at cg;subst cg
   refine ⟨full q,tid,_,hHv tid xe,?_,rfl⟩
   rw [<-(NB tid xe).1,oC _ (by have:=(NB tid xe).2;omega),NF,y1]
   rfl
  |none=>
  unfold lS at a8
  rw [xe] at a8
  obtain ⟨a8,Aej⟩:=a8
  unfold NW at cg
  rw [xe] at cg
  simp only at cg
  obtain ⟨g1,g2,g3,g4⟩:=Yh s.Gd _ (Su.drop s.Th) Aej (Hw.take s.Th Aed).2
  unfold Aa0 at cg
  unfold JL at a8
  split at cg
  ·rename_i hm
   rw [if_pos hm] at a8
   simp only [Option.some.injEq] at cg;subst cg
   subst a8
   exact ⟨_,rfl,g3.symm,g4⟩
  ·rename_i hm
   rw [if_neg hm] at a8
   split at cg
   ·rename_i av1 hga
    simp only [Option.some.injEq] at cg;subst cg
    rcases a8 with a8|a8
    ·exact g2 0 _ v (by rw [hga];rfl) (by rw [a8];rfl)
    ·rw [hga,a8] at g1;cases g1
   ·simp only [Option.some.injEq] at cg;subst cg;trivial
   ·cases cg
end
end Go.Proofs.Ytjbdmibbbpdnnaa
