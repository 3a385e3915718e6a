/-
  Part 17 of the proof that the statement FnExactSolveByMethod holds.
-/
import Derived.Test.YtjbdmibbbpdnnaaCSolveByMethod15
namespace Go.Proofs.Ytjbdmibbbpdnnaa
open Go.RowKit
section
variable {P:Program} {T:Tab} {X:Ctx} {w w':World} {π π':Pi} {H H':List (Nat×OB)}
theorem Uh (k:Nat): ¬Bv true k<Ak:=by unfold Bv Ak;simp
theorem aN {k:Nat} (h:k<100000):Bv false k<Ak:=by unfold Bv Ak;simp;omega
def gO (X:Ctx) (D:Nat->Prop) (w':World) (π:Pi) (H Hn:List (Nat×OB)) (l:Nat):Prop:=
 ∃b0 b',Ae H l=some b0/\Ae Hn l=some b'/\(∀f,OB.map f b0=b0)/\(∀f,OB.map f b'=b')/\b0.aw b'/\ ∀π' H',(∀b,Ow π' b\/X.Sc b->D b)->Au X w' π' H' (π l) b'
theorem NO {io:Bool} {k:Nat} {τ:Ty} {a:AC} {t:Nat×Loc} (h:t∈Ks io k (.Ft τ) a):t.1=Bv false k:=by
 cases a<;>simp [Ks,views] at h<;>first|(obtain ⟨_,⟨_,_⟩,rfl⟩:=h;rfl)|(rw [h])
theorem HO {io:Bool} {k:Nat} {e:Ty} {te:TypeId} {a:AC} {t:Nat×Loc} (h:t∈Ks io k (.part e te) a):t.1=Bv io k:=by cases a<;>simp [Ks] at h<;>rw [h]
theorem NP {io:Bool} {k:Nat} {e:Ty} {te:TypeId} {a:AC} {t:Nat×Loc} (h:t∈Ks io k (.row e te) a):t.1=Bv io k:=by cases a<;>simp [Ks] at h<;>rw [h]
theorem HP {io:Bool} {k:Nat} {e:Ty} {te:TypeId} {a:AC} {t:Nat×Loc} (h:t∈Ks io k (.Dv e te) a):t.1=Bv io k:=by cases a<;>simp [Ks] at h<;>rw [h]
theorem ab {D:Nat->Prop} {π':Pi} {fr:Bool} {e:Ty} {es:List Value} {y:e.den} (hD: ∀b,Ow π' b\/X.Sc b->D b) (h:Cells w' D e es y):Cells w' (Be X.w0.heap.size X.Sc π' (fr&&e.flat)) e es y:=by
 cases hf:e.flat with
 |true=>exact Cells.flat e es y hf h
 |false=>exact Cells.Cv (Nat.le_refl _) (λ_ _ _=>rfl) (λb _ hb=>by
   rcases hb with hb|hb|⟨hb,_⟩
   ·exact hD b (.inl hb)
   ·exact hD b (.inr hb)
   ·simp at hb) e es y h
theorem HQ {D P:Nat->Prop} {g o:Nat} {cur:Array Value} {tr:Bool} {e:Ty} {xs:List e.den}
  (h: ∀(i:Nat) (x:e.den),xs[i]?=some x-> ∃es:List Value,es.length=e.size/\(∀j u,es[j]?=some u->cur[(o+i)*e.size+j]?=some u)/\Cells w' D e es x) (ht:(tr&&e.flat)=true):Qf w' P g o cur e xs:=by
 simp only [Bool.and_eq_true] at ht
 exact ig ht.2 h
theorem GJ {D:Nat->Prop} (h:Hy X w π H) {k:Nat} {c:CK} {ys:c.den} {a:AC} {u:Value} {r:Option Real} {x:c.den} {cur st1:St} (hs:w.heap.size<=w'.heap.size)
  (hU: ∀l i j q b,a= .sub l i j->π l=some q->q.Az b->b<w.heap.size->(∀r',r=some r'-> ¬r'.Az b)->w'.heap[b]?=w.heap[b]?)
  {V:List Nat} (ht:Zw w (Jo X π V) r u c x/\My w π H true a u r c x) (hr:bk w' D r c ys) (he:Wh cur c ys a=some st1) (bR: ∀t∈Ks true k c a,Ae cur.heap t.2.Qa=Ae H t.2.Qa):
  st1.tmps=cur.tmps/\(∀m,(∀t∈Ks true k c a,m≠t.2.Qa)->Ae st1.heap m=Ae cur.heap m)/\ ∀t∈Ks true k c a,gO X D w' π H st1.heap t.2.Qa:=by
 obtain ⟨hc,ht⟩:=ht
 cases c with
 |Ft τ=>cases a<;>simp [Wh] at he;subst he;exact ⟨rfl,λ_ _=>rfl,λt ht=>by simp [Ks] at ht⟩
 |row e te=>
  simp only [My] at ht
  cases a<;>simp only [] at ht<;>first|(exact ht.elim)|skip
  ·simp only [Wh,Option.some.injEq] at he;subst he
   exact ⟨rfl,λ_ _=>rfl,λt ht=>by simp [Ks] at ht⟩
  ·rename_i l off len
   obtain ⟨rfl,rfl,rfl,fr,tr,hl⟩:=ht
   have Of:Ae cur.heap l=some (.arr fr tr e te x):=(bR _ (List.mem_singleton.2 rfl)).trans hl
   simp only [Wh,St.at,Of] at he
   split at he
   ·rename_i Fo
    obtain ⟨_,h1,_⟩:=Fo
    simp only [Option.some.injEq] at he;subst he
    refine ⟨rfl,λm hm=>Cp _ _ _ _ (hm _ (List.mem_singleton.2 rfl)),λt Ox=>?_⟩
    have Ox:=List.mem_singleton.1 Ox
    subst Ox
    refine ⟨_,_,hl,Ct _ _ _ _ Of,λ_=>rfl,λ_=>rfl,⟨rfl,h1.symm⟩,λπ' H' hD=>?_⟩
    have hb:=(h.heap l).Mj hl
    change Au X w' π' H' (π l) _
    simp only [Au,Fu] at hb⊢
    cases hp:π l with
    |none=>rw [hp] at hr;exact hr
    |some q=>
     rw [hp] at hr hb
     obtain ⟨k1,cu,ti,k2,k3,k4,k5,k6⟩:=hr
     exact ⟨⟨k1.1,k1.2,λhh=>hb.1.2.2 (by simp only [Bool.and_eq_true] at hh;exact hh.1)⟩,cu,ti,k2,k3,k4,k5,λi y hy=>by
      obtain ⟨es,g1,g2,g3⟩:=k6 i y hy
      exact ⟨es,g1,g2,ab hD g3⟩,λht=>HQ k6 ht⟩
   ·cases he
  ·rename_i l i j
   obtain ⟨⟨_,hf⟩,tid,xs,hl,hx,q,hq,Pg,hre⟩:=ht
   have Of:Ae cur.heap l=some (.Dk (.slice e) tid xs):=(bR _ (List.mem_singleton.2 rfl)).trans hl
   simp only [Wh,St.at,Of,hx] at he
   rw [dif_pos trivial] at he
   ·split at he
    ·rename_i h1
     simp only [Option.some.injEq] at he;subst he
     refine ⟨rfl,λm hm=>Cp _ _ _ _ (hm _ (List.mem_singleton.2 rfl)),λt Ox=>?_⟩
     have Ox:=List.mem_singleton.1 Ox
     subst Ox
     refine ⟨_,_,hl,Ct _ _ _ _ Of,λ_=>rfl,λ_=>rfl,⟨rfl,by simp⟩,λπ' H' _=>?_⟩
     show Iw w' (π l) (.slice e) tid _
     rw [hq]
     refine hre w' ys hs (λb Hr hb hn=>hU l i j q b rfl hq hb Hr hn) ?_
     have hv:=hc.1
     rw [<-show List.length ys=List.length x from h1] at hv
     exact Mm.AT hr hf hv
    ·cases he
 |Dv e te=>
  simp only [My] at ht
  cases a<;>simp only [] at ht<;>first|(exact ht.elim)|skip
  ·simp only [Wh,Option.some.injEq] at he;subst he
   exact ⟨rfl,λ_ _=>rfl,λt ht=>by simp [Ks] at ht⟩
  ·rename_i l off len
   obtain ⟨rfl,rfl,rfl,hl⟩:=ht
   have Of:Ae cur.heap l=some (.Dk e te x):=(bR _ (List.mem_singleton.2 rfl)).trans hl
   simp only [Wh,St.at,Of] at he
   split at he
   ·rename_i Fo
    obtain ⟨_,h1,_⟩:=Fo
    simp only [Option.some.injEq] at he;subst he
    refine ⟨rfl,λm hm=>Cp _ _ _ _ (hm _ (List.mem_singleton.2 rfl)),λt Ox=>?_⟩
    have Ox:=List.mem_singleton.1 Ox
    subst Ox
    refine ⟨_,_,hl,Ct _ _ _ _ Of,λ_=>rfl,λ_=>rfl,⟨rfl,h1.symm⟩,λπ' H' _=>?_⟩
    show Iw w' (π l) e te _
    cases hp:π l with
    |none=>rw [hp] at hr;exact hr
    |some q=>rw [hp] at hr;exact hr
   ·cases he
  ·rename_i l i j
   obtain ⟨_,tid,xs,hl,hx,q,hq,Pg,hre⟩:=ht
   have Of:Ae cur.heap l=some (.Dk (.slice e) tid xs):=(bR _ (List.mem_singleton.2 rfl)).trans hl
   simp only [Wh,St.at,Of,hx] at he
   rw [dif_pos trivial] at he
   ·split at he
    ·rename_i h1
     simp only [Option.some.injEq] at he;subst he
     refine ⟨rfl,λm hm=>Cp _ _ _ _ (hm _ (List.mem_singleton.2 rfl)),λt Ox=>?_⟩
     have Ox:=List.mem_singleton.1 Ox
     subst Ox
     refine ⟨_,_,hl,Ct _ _ _ _ Of,λ_=>rfl,λ_=>rfl,⟨rfl,by simp⟩,λπ' H' _=>?_⟩
     show Iw w' (π l) (.slice e) tid _
     rw [hq]
     refine hre w' ys hs (λb Hr hb hn=>hU l i j q b rfl hq hb Hr hn) ?_
     have hv:=hc.1
     rw [<-show List.length ys=List.length x from h1] at hv
     exact Iw.AT (te:=te) hr hv
    ·cases he
 |part e te=>cases a<;>simp [Wh] at he<;>first|(simp only [My] at ht;exact ht.2.elim)
 |Am e te kp=>exact absurd ht.1 (by simp)
theorem GK {D:Nat->Prop} (h:Hy X w π H) {k:Nat} {e:Ty} {te:TypeId} {ys:List e.den} {a:AC} {u:Value} {r:Option Real} {x:(CK.part e te).den} {cur st1:St}
  {V:List Nat} (ht:Zw w (Jo X π V) r u (.part e te) x/\My w π H true a u r (.part e te) x) (hr:bk w' D r (.row e te) ys) (he:zR cur e ys a=some st1) (bR: ∀t∈Ks true k (.part e te) a,Ae cur.heap t.2.Qa=Ae H t.2.Qa):
  st1.tmps=cur.tmps/\(∀m,(∀t∈Ks true k (.part e te) a,m≠t.2.Qa)->Ae st1.heap m=Ae cur.heap m)/\ ∀t∈Ks true k (.part e te) a,gO X D w' π H st1.heap t.2.Qa:=by
 obtain ⟨hc,hf,ht⟩:=ht
 cases a<;>simp only [] at ht<;>first|(exact ht.elim)|skip
 rename_i l off len
 obtain ⟨rfl,_,fr,tr,hl⟩:=ht
 have Of:Ae cur.heap l=some (.arr fr tr e te x.1):=(bR _ (List.mem_singleton.2 rfl)).trans hl
 simp only [zR,St.at,Of] at he
 split at he
 ·rename_i Fo
  obtain ⟨_,h1⟩:=Fo
  simp only [Option.some.injEq] at he;subst he
  refine ⟨rfl,λm hm=>Cp _ _ _ _ (hm _ (List.mem_singleton.2 rfl)),λt Ox=>?_⟩
  have Ox:=List.mem_singleton.1 Ox
  subst Ox
  refine ⟨_,_,hl,Ct _ _ _ _ Of,λ_=>rfl,λ_=>rfl,⟨rfl,h1.symm⟩,λπ' H' _=>?_⟩
  have hb:=(h.heap l).Mj hl
  change Au X w' π' H' (π l) _
  simp only [Au,Fu] at hb⊢
  cases hp:π l with
  |none=>rw [hp] at hr;exact hr
  |some q=>
   rw [hp] at hr hb
   obtain ⟨k1,cu,ti,k2,k3,k4,k5,k6⟩:=hr
   exact ⟨⟨k1.1,k1.2,hb.1.2.2⟩,cu,ti,k2,k3,k4,k5,λi y hy=>by
    obtain ⟨es,g1,g2,g3⟩:=k6 i y hy
    exact ⟨es,g1,g2,Cells.flat e es y hf g3⟩,λ_=>ig hf k6⟩
 ·cases he
def lW (X:Ctx) (D:Nat->Prop) (w':World) (π:Pi) (H:List (Nat×OB)) (tk:List (Nat×Loc)) (cur st1:St):Prop:=
 st1.tmps=cur.tmps/\(∀m,(∀t∈tk,m≠t.2.Qa)->Ae st1.heap m=Ae cur.heap m)/\(∀t∈tk,t.1<Ak->Ae st1.heap t.2.Qa=Ae cur.heap t.2.Qa)/\(∀t∈tk,¬t.1<Ak->gO X D w' π H st1.heap t.2.Qa)
theorem nZ {D:Nat->Prop} (h:Hy X w π H) {V:List Nat} {πc:Pi} {tks:List (Nat×Loc)} (hs:w.heap.size<=w'.heap.size)
  (hU: ∀t∈tks,∀q b,π t.2.Qa=some q->q.Az b->b<w.heap.size->(∀r',πc t.1=some r'-> ¬r'.Az b)->w'.heap[b]?=w.heap[b]?):
  ∀(cs:List (Bool×CK)) (k:Nat) (x:Ins.den cs) (as:List AC) (us:List Value) (o:IOs.den cs) (cur st1:St),k+cs.length<100000->(∀t∈Hc k cs as,t∈tks)->((Hc k cs as).map λt=>t.2.Qa).Nodup->
   lC X w π V H πc k cs x as us->Hj w' D πc k cs o->Eg cs o as cur=some st1->(∀t∈Hc k cs as,Ae cur.heap t.2.Qa=Ae H t.2.Qa)->
   lW X D w' π H (Hc k cs as) cur st1
 | [],k,x,as,us,o,cur,st1,_,_,_,_,_,he,_=>by
  simp only [Eg,Option.some.injEq] at he;subst he
  have e0:Hc k [] as= []:=by cases as<;>rfl
  exact ⟨rfl,λ_ _=>rfl,by rw [e0];simp,by rw [e0];simp⟩
 |p::r,k,x,[],us,o,cur,st1,_,_,_,ht,_,_,_=>ht.elim
 |p::r,k,x,a::as,[],o,cur,st1,_,_,_,ht,_,_,_=>ht.elim
 |(io,c)::r,k,x,a::as,u::us,o,cur,st1,hk,Qq,pD,ht,ho,he,bR=>by
  simp only [List.length_cons] at hk
  simp only [Hc] at Qq pD bR⊢
  rw [List.map_append] at pD
  obtain ⟨n1,n2,n3⟩:=List.nodup_append.1 pD
  have apart: ∀t∈Ks io k c a,∀t'∈Hc (k+1) r as,t'.2.Qa≠t.2.Qa:= λt h1 t' h2 e=>n3 _ (List.mem_map.2 ⟨t,h1,rfl⟩) _ (List.mem_map.2 ⟨t',h2,rfl⟩) e.symm
  have rest: ∀(Tr:St) (o':IOs.den r),Hj w' D πc (k+1) r o'->Eg r o' as Tr=some st1->Tr.tmps=cur.tmps->(∀m,(∀t∈Ks io k c a,m≠t.2.Qa)->Ae Tr.heap m=Ae cur.heap m)->
    (∀t∈Ks io k c a,t.1<Ak->Ae Tr.heap t.2.Qa=Ae cur.heap t.2.Qa)->(∀t∈Ks io k c a,¬t.1<Ak->gO X D w' π H Tr.heap t.2.Qa)->
    lW X D w' π H (Ks io k c a++Hc (k+1) r as) cur st1:=by
   intro Tr o' h1 h2 h3 h4 h5 h6
   obtain ⟨g1,g2,g3,g4⟩:=nZ h hs hU r (k+1) x.2 as us o' Tr st1 (by omega) (λt ht=>Qq t (List.mem_append_right _ ht)) n2 ht.2 h1 h2 (λt Ox=>by
    rw [h4 _ λt0 QU=>apart t0 QU t Ox];exact bR t (List.mem_append_right _ Ox))
   have hd: ∀t∈Ks io k c a,Ae st1.heap t.2.Qa=Ae Tr.heap t.2.Qa:= λt Ox=>g2 _ λt' mb=>(apart t Ox t' mb).symm
   refine ⟨g1.trans h3,λm hm=>?_,λt Ox Hr=>?_,λt Ox Hr=>?_⟩
   ·rw [g2 m λt ht=>hm t (List.mem_append_right _ ht),h4 m λt ht=>hm t (List.mem_append_left _ ht)]
   ·rcases List.mem_append.1 Ox with Ox|Ox
    ·rw [hd t Ox,h5 t Ox Hr]
    ·rw [g3 t Ox Hr,h4 _ λt0 QU=>apart t0 QU t Ox]
   ·rcases List.mem_append.1 Ox with Ox|Ox
    ·obtain ⟨b0,b',q1,q2,q3⟩:=h6 t Ox Hr
     exact ⟨b0,b',q1,(hd t Ox).trans q2,q3⟩
    ·exact g4 t Ox Hr
  have same: ∀o',Hj w' D πc (k+1) r o'->Eg r o' as cur=some st1->(∀t∈Ks io k c a,t.1<Ak)->lW X D w' π H (Ks io k c a++Hc (k+1) r as) cur st1:= λo' h1 h2 h3=>rest cur o' h1 h2 rfl (λ_ _=>rfl) (λ_ _ _=>rfl) (λt h4 h5=>absurd (h3 t h4) h5)
  cases io with
  |false=>
   have h3: ∀t∈Ks false k c a,t.1<Ak:= λt h4=>by rcases xR h4 with ⟨h5,_⟩|⟨h5,_⟩<;>(rw [h5];exact aN (by omega))
   cases c with
   |Ft τ=>exact same o ho (by simpa only [Eg] using he) h3
   |row e te=>exact same o ho (by simpa only [Eg] using he) h3
   |Dv e te=>exact same o ho (by simpa only [Eg] using he) h3
   |part e te=>exact same o ho (by simpa only [Eg] using he) h3
   |Am e te kp=>exact same o ho (by simpa only [Eg] using he) h3
  |true=>
   have row: ∀(ys:c.den) (o':IOs.den r),(∀t∈Ks true k c a,t.1=Bv true k)->bk w' D (πc (Bv true k)) c ys->Hj w' D πc (k+1) r o'->(∃Tr,Wh cur c ys a=some Tr/\Eg r o' as Tr=some st1)->lW X D w' π H (Ks true k c a++Hc (k+1) r as) cur st1:=by
    intro ys o' h0 h1 h2 h3
    obtain ⟨Tr,hp,h3⟩:=h3
    ·obtain ⟨q1,q2,q3⟩:=GJ (k:=k) h hs (λl i j q b ea hq hb Hr hn=>by
      cases c with
      |Ft τ=>exact absurd (ht.1.2:πc _=none) (by subst ea;simp [Wh] at hp)
      |row e te=>subst ea;exact hU (Bv true k, .sub l i j) (Qq _ (List.mem_append_left _ (List.mem_singleton.2 rfl))) q b hq hb Hr hn
      |Dv e te=>subst ea;exact hU (Bv true k, .sub l i j) (Qq _ (List.mem_append_left _ (List.mem_singleton.2 rfl))) q b hq hb Hr hn
      |Am e te kp=>exact absurd ht.1.2.1 (by simp)
      |part e te=>exact absurd ht.1.2.2 (by subst ea;exact λh=>h)) ht.1 h1 hp (λt Ox=>bR t (List.mem_append_left _ Ox))
     exact rest Tr o' h2 h3 q1 q2 (λt h4 h5=>absurd h5 (by rw [h0 t h4];exact Uh k)) (λt h4 _=>q3 t h4)
   cases c with
   |Ft τ=>exact same o ho (by simpa only [Eg] using he) (λt h4=>by rw [NO h4];exact aN (by omega))
   |Am e te kp=>exact absurd ht.1.2.1 (by simp)
   |row e te=>
    simp only [Eg] at he
    split at he
    ·rename_i Tr hp;exact row o.1 o.2 (λt ht=>NP ht) ho.1 ho.2 ⟨Tr,hp,he⟩
    ·cases he
   |Dv e te=>
    simp only [Eg] at he
    split at he
    ·rename_i Tr hp;exact row o.1 o.2 (λt ht=>HP ht) ho.1 ho.2 ⟨Tr,hp,he⟩
    ·cases he
   |part e te=>
    simp only [Eg] at he
    split at he
    ·rename_i Tr hp
     obtain ⟨q1,q2,q3⟩:=GK (k:=k) h ht.1 ho.1 hp (λt Ox=>bR t (List.mem_append_left _ Ox))
     exact rest Tr o.2 ho.2 he q1 q2 (λt h4 h5=>absurd h5 (by rw [HO h4];exact Uh k)) (λt h4 _=>q3 t h4)
    ·cases he
theorem zx {fr:Bool} {c:CK} {x:c.den} {u:Value} {r:Option Real} {D:Nat->Prop} (h:Zw w' D r u c x):
  (pM fr c x=none/\r=none)\/ ∃b',pM fr c x=some b'/\ ∀(X:Ctx) π' H',(fr=true-> ∀q,r=some q->X.w0.heap.size<=q.g)->(∀b,Ow π' b\/X.Sc b->D b)->Au X w' π' H' r b':=by
 cases c with
 |Ft τ=>exact .inl ⟨rfl,h.1⟩
 |row e te=>
  refine .inr ⟨_,rfl,λX π' H' wk hD=>?_⟩
  obtain ⟨_,h⟩:=h
  simp only [bk] at h
  simp only [Au,Fu]
  cases r with
  |none=>exact h
  |some q=>
   obtain ⟨k1,cu,ti,k2,k3,k4,k5,k6⟩:=h
   exact ⟨⟨k1.1,k1.2,λh1=>wk (by simp only [Bool.and_eq_true] at h1;exact h1.1) q rfl⟩,cu,ti,k2,k3,k4,k5,λi y hy=>by
    obtain ⟨es,g1,g2,g3⟩:=k6 i y hy
    exact ⟨es,g1,g2,ab hD g3⟩,λh=>by cases h⟩
 |Dv e te=>exact .inr ⟨_,rfl,λX π' H' _ _=>h.2⟩
 |Am e te kp=>exact .inr ⟨_,rfl,λX π' H' _ hD=>⟨Te.Fa h.2 λb hb=>hD b (hb.imp id λh=>h.elim id λh=>by cases h.1),trivial⟩⟩
 |part e te=>
  refine .inr ⟨_,rfl,λX π' H' wk hD=>?_⟩
  obtain ⟨_,hf,h⟩:=h
  simp only [Au,Fu]
  cases r with
  |none=>exact h
  |some q=>
   obtain ⟨k1,cu,ti,k2,k3,k4,k5,k6⟩:=h
   exact ⟨⟨k1.1,k1.2,λh1=>wk (by simp only [Bool.and_eq_true] at h1;exact h1.1) q rfl⟩,cu,ti,k2,k3,k4,k5,λi y hy=>by
    obtain ⟨es,g1,g2,g3⟩:=k6 i y hy
    exact ⟨es,g1,g2,ab hD g3⟩,λh=>by cases h⟩
theorem lf {D:Nat->Prop} {key:Nat->Nat} (z7: ∀i j,key i=key j->i=j) {fr:Bool} {ρ:Pi} : ∀(cs:List CK) (k:Nat) (x:CKs.den cs) (us:List Value) (H:List (Nat×OB)),Fb w' D ρ k cs x us->
  (∀j,k<=j->j<k+cs.length->Ae H (key j)=none)->
  (∀l,(∀j,k<=j->j<k+cs.length->l≠key j)->Ae (Qx fr key k cs x H) l=Ae H l)/\
  (∀j,k<=j->j<k+cs.length->(Ae (Qx fr key k cs x H) (key j)=none/\ρ (Fz j)=none)\/
   ∃b',Ae (Qx fr key k cs x H) (key j)=some b'/\ ∀(X:Ctx) π' H',(fr=true-> ∀q,ρ (Fz j)=some q->X.w0.heap.size<=q.g)->(∀b,Ow π' b\/X.Sc b->D b)->Au X w' π' H' (ρ (Fz j)) b')/\
  (∀π',(∀b,Ow π' b\/X.Sc b->D b)->(∀j,k<=j->j<k+cs.length->π' (key j)=ρ (Fz j))->Ia X w' π' (Qx fr key k cs x H) (Vr key k cs x) us)
 | [],k,x,[],H,_,_=>⟨λ_ _=>rfl,λj h1 h2=>by simp at h2;omega,λ_ _ _=>trivial⟩
 | [],_,_,_::_,_,h,_=>h.elim
 |_::_,_,_,[],_,h,_=>h.elim
 |c::r,k,x,u::us,H,h,hn=>by
  simp only [List.length_cons] at hn⊢
  simp only [Qx,Vr]
  have pz:=hn k (Nat.le_refl _) (by omega)
  have ZP: ∀l,l≠key k->Ae (wy H (key k) (pM fr c x.1)) l=Ae H l:=by
   intro l hl
   cases pM fr c x.1 with
   |some b=>exact Jz _ _ _ _ hl
   |none=>rfl
  have Aar:Ae (wy H (key k) (pM fr c x.1)) (key k)=pM fr c x.1:=by
   cases pM fr c x.1 with
   |some b=>exact Ku _ _ _ pz
   |none=>exact pz
  generalize (wy H (key k) (pM fr c x.1))=H1 at ZP Aar⊢
  obtain ⟨g1,g2,g3⟩:=lf z7 (fr:=fr) r (k+1) x.2 us H1 h.2 (λj h1 h2=>by
   rw [ZP _ λe=>by have:=z7 _ _ e;omega];exact hn j (by omega) (by omega))
  have OR:Ae (Qx fr key (k+1) r x.2 H1) (key k)=pM fr c x.1:=by
   rw [g1 _ λj h1 h2 e=>by have:=z7 _ _ e;omega];exact Aar
  refine ⟨λl hl=>?_,λj h1 h2=>?_,λπ' hd US=>⟨?_,?_⟩⟩
  ·rw [g1 l λj h1 h2=>hl j (by omega) (by omega)]
   exact ZP l (hl k (Nat.le_refl _) (by omega))
  ·rcases Nat.eq_or_lt_of_le h1 with e|h1
   ·subst e
    rw [OR]
    exact zx h.1
   ·exact g2 j h1 (by omega)
  ·have h1:=h.1
   have hpk:=US k (Nat.le_refl _) (by omega)
   cases c with
   |Ft τ=>
    obtain ⟨cr,c1,c2⟩:=h1.2
    exact ⟨cr,by have:=ab (fr:=true) hd c1;simpa using this,c2⟩
   |row e te=>exact ⟨_,e.size,List.length x.1,OR,rfl,by simp,by rw [hpk];exact h1.1⟩
   |Dv e te=>exact ⟨_,e.size,List.length x.1,OR,rfl,by simp,by rw [hpk];exact h1.1⟩
   |Am e te kp=>exact ⟨_,1,List.length x.1,OR,rfl,by simp,by rw [hpk];exact h1.1⟩
   |part e te=>trivial
  ·exact g3 π' hd λj h1 h2=>US j (by omega) (by omega)
theorem zo {ks:List Nat} {n:Nat} (h:tm ks n=true):ks.length=n/\ks.Nodup/\ ∀l∈ks,l<Ak:=by
 unfold tm at h
 simp only [Bool.and_eq_true] at h
 refine ⟨Nat.eq_of_beq_eq_true h.1,Qw h.2.1,λl hl=>?_⟩
 have:=List.all_eq_true.1 h.2.2 l hl
 simpa using this
theorem Lk {ks:List Nat} {j:Nat} (h:j<ks.length):Bw ks j=ks[j]:=by
 unfold Bw
 rw [List.getElem?_eq_getElem h]
theorem vJ {ks:List Nat} (hn:ks.Nodup) (hl: ∀l∈ks,l<Ak): ∀i j,Bw ks i=Bw ks j->i=j:=by
 intro i j h
 by_cases hi:i<ks.length
 ·by_cases hj:j<ks.length
  ·rw [Lk hi,Lk hj] at h
   rcases Nat.lt_trichotomy i j with Hr|he|Hr
   ·exact absurd h (List.pairwise_iff_getElem.1 hn i j hi hj Hr)
   ·exact he
   ·exact absurd h.symm (List.pairwise_iff_getElem.1 hn j i hj hi Hr)
  ·have h1:=hl _ (List.getElem_mem hi)
   rw [Lk hi] at h
   unfold Bw at h
   rw [List.getElem?_eq_none (by omega)] at h
   simp only at h
   omega
 ·by_cases hj:j<ks.length
  ·have h1:=hl _ (List.getElem_mem hj)
   rw [Lk hj] at h
   unfold Bw at h
   rw [List.getElem?_eq_none (by omega)] at h
   simp only at h
   omega
  ·unfold Bw at h
   rw [List.getElem?_eq_none (by omega),List.getElem?_eq_none (by omega)] at h
   simp only at h
   omega
theorem Il: ∀(H:List (Nat×OB)) (dead:List Nat) (l:Nat),Ae (Qi H dead) l=if l∈dead then none else Ae H l
 | [],dead,l=>by simp [Qi,Ae]
 |(k,b)::r,dead,l=>by
  simp only [Qi]
  have ih:=Il r dead l
  by_cases hk:k∈dead
  ·rw [if_pos (by simpa using hk),ih]
   split
   ·rfl
   ·rename_i hl
    simp only [Ae]
    rw [if_neg (λ(e:k=l)=>hl (e▸hk))]
  ·rw [if_neg (by simpa using hk)]
   simp only [Ae]
   split
   ·rename_i e;subst e;rw [if_neg hk]
   ·exact ih
theorem mem_keys {ks:List Nat} {l:Nat} :l∈ks↔ ∃k,k<ks.length/\l=Bw ks k:=
 ⟨λh=>by obtain ⟨k,hk,e⟩:=List.getElem_of_mem h;exact ⟨k,hk,by rw [Lk hk,e]⟩,λ⟨k,hk,e⟩=>by rw [e,Lk hk];exact List.getElem_mem hk⟩
theorem Zh {tks:List (Nat×Loc)} {l:Nat} :l∈gY tks↔ ∃t∈tks,(t.1<Ak/\t.2.reads=false)/\t.2.Qa=l:=by
 unfold gY
 simp only [List.mem_map,List.mem_filter,Bool.and_eq_true,Nat.blt_eq,Bool.not_eq_true']
 exact ⟨λ⟨t,⟨h1,h2⟩,h3⟩=>⟨t,h1,h2,h3⟩,λ⟨t,h1,h2,h3⟩=>⟨t,⟨h1,h2⟩,h3⟩⟩
theorem tp {tks:List (Nat×Loc)} (h:(tks.map λt=>t.2.Qa).Nodup) {t t':Nat×Loc} (ht:t∈tks) (mb:t'∈tks) (he:t.2.Qa=t'.2.Qa):t=t':=by
 induction tks with
 |nil=>cases ht
 |cons a r ih=>
  simp only [List.map_cons] at h
  obtain ⟨h1,h2⟩:=List.nodup_cons.1 h
  rcases List.mem_cons.1 ht with rfl|ht<;>rcases List.mem_cons.1 mb with rfl|mb
  ·rfl
  ·exact (h1 (List.mem_map.2 ⟨t',mb,he.symm⟩)).elim
  ·exact (h1 (he▸List.mem_map.2 ⟨t,‹t∈r›,rfl⟩)).elim
  ·exact ih h2 ht mb
theorem Fb.full {D:Nat->Prop} {ρ:Pi} : ∀(cs:List CK) (k:Nat) (x:CKs.den cs) (us:List Value),Fb w D ρ k cs x us->Fb w D (λl=>(ρ l).map full) k cs x us
 | [],_,_,[],h=>h
 | [],_,_,_::_,h=>h.elim
 |_::_,_,_,[],h=>h.elim
 |c::r,k,x,u::us,h=>⟨by
   have h1:=h.1
   show Zw w D ((ρ (Fz k)).map _) u c x.1
   cases c with
   |Ft τ=>rw [h1.1];exact ⟨rfl,h1.2⟩
   |row e te=>cases hp:ρ (Fz k)<;>(rw [hp] at h1;exact h1)
   |Dv e te=>cases hp:ρ (Fz k)<;>(rw [hp] at h1;exact h1)
   |Am e te kp=>cases hp:ρ (Fz k)<;>(rw [hp] at h1;exact h1)
   |part e te=>cases hp:ρ (Fz k)<;>(rw [hp] at h1;exact h1),Fb.full r (k+1) x.2 us h.2⟩
theorem Fb.TI {D:Nat->Prop} {ρ:Pi} : ∀(cs:List CK) (k0:Nat) (x:CKs.den cs) (us:List Value),Fb w D ρ k0 cs x us-> ∀j,k0<=j->j<k0+cs.length-> ∀q,ρ (Fz j)=some q->q.Az q.g
 | [],k0,_,_,_,j,h1,h2,_,_=>by simp at h2;omega
 |_::_,_,_,[],h,_,_,_,_,_=>h.elim
 |c::r,k0,x,u::us,ho,j,h1,h2,q,hq=>by
  rcases Nat.eq_or_lt_of_le h1 with e|h1
  ·subst e
   have:=ho.1
   cases c with
   |Ft τ=>rw [hq] at this;cases this.1
   |row e te=>rw [hq] at this;exact this.2.1.1
   |Dv e te=>rw [hq] at this;exact this.2.1
   |part e te=>rw [hq] at this;exact this.2.2.1.1
   |Am e te kp=>rw [hq] at this;exact this.2.1
  ·exact Fb.TI r (k0+1) x.2 us ho.2 j h1 (by simp at h2;omega) q hq
theorem Mm.any {D D':Nat->Prop} {r:Option Real} {e:Ty} {xs:List e.den} (hf:e.flat=true) (h:Mm w D r e xs):Mm w D' r e xs:=by
 cases r with
 |none=>exact h
 |some r=>
  obtain ⟨k1,cu,ti,k2,k3,k4,k5,k6⟩:=h
  exact ⟨k1,cu,ti,k2,k3,k4,k5,λi y hy=>by
   obtain ⟨es,g1,g2,g3⟩:=k6 i y hy
   exact ⟨es,g1,g2,Cells.flat e es y hf g3⟩⟩
theorem Fb.any {D D':Nat->Prop} {ρ:Pi} : ∀(cs:List CK) (k:Nat) (x:CKs.den cs) (us:List Value),cs.all (·.flat)=true->Fb w D ρ k cs x us->Fb w D' ρ k cs x us
 | [],_,_,[],_,h=>h
 | [],_,_,_::_,_,h=>h.elim
 |_::_,_,_,[],_,h=>h.elim
 |c::r,k,x,u::us,hf,h=>by
  simp only [List.all_cons,Bool.and_eq_true] at hf
  refine ⟨?_,Fb.any r (k+1) x.2 us hf.2 h.2⟩
  have h1:=h.1
  cases c with
  |Ft τ=>exact ⟨h1.1,Bd.flat hf.1 h1.2⟩
  |row e te=>exact ⟨h1.1,Mm.any hf.1 h1.2⟩
  |Dv e te=>exact h1
  |part e te=>exact ⟨h1.1,h1.2.1,Mm.any hf.1 h1.2.2⟩
  |Am e te kp=>exact absurd hf.1 (by simp [CK.flat])
theorem Hj.any {D D':Nat->Prop} {π:Pi} : ∀(cs:List (Bool×CK)) (k:Nat) (x:IOs.den cs),(cs.all λp=>!p.1||p.2.flat)=true->Hj w D π k cs x->Hj w D' π k cs x
 | [],_,_,_,h=>h
 |(false,_)::r,k,x,hf,h=>Hj.any r (k+1) x (by simp only [List.all_cons,Bool.and_eq_true] at hf;exact hf.2) h
 |(true, .Ft _)::r,k,x,hf,h=>Hj.any r (k+1) x (by simp only [List.all_cons,Bool.and_eq_true] at hf;exact hf.2) h
 |(true, .Am _ _ _)::r,k,x,hf,h=>Hj.any r (k+1) x (by simp only [List.all_cons,Bool.and_eq_true] at hf;exact hf.2) h
 |(true, .row e te)::r,k,x,hf,h=>by
  simp only [List.all_cons,Bool.and_eq_true,Bool.not_true,Bool.false_or] at hf
  exact ⟨Mm.any hf.1 h.1,Hj.any r (k+1) x.2 hf.2 h.2⟩
 |(true, .Dv e te)::r,k,x,hf,h=>by
  simp only [List.all_cons,Bool.and_eq_true,Bool.not_true,Bool.false_or] at hf
  exact ⟨h.1,Hj.any r (k+1) x.2 hf.2 h.2⟩
 |(true, .part e te)::r,k,x,hf,h=>by
  simp only [List.all_cons,Bool.and_eq_true,Bool.not_true,Bool.false_or] at hf
  exact ⟨Mm.any hf.1 h.1,Hj.any r (k+1) x.2 hf.2 h.2⟩
theorem nI {tks:List (Nat×Loc)} {l:Nat} :l∈uM tks↔ ∃t∈tks,t.2.reads=true/\t.2.Qa=l:=by
 unfold uM
 simp only [List.mem_map,List.mem_filter]
 exact ⟨λ⟨t,⟨h1,h2⟩,h3⟩=>⟨t,h1,h2,h3⟩,λ⟨t,h1,h2,h3⟩=>⟨t,⟨h1,h2⟩,h3⟩⟩
theorem Ai.iT {st:St} {a:Act} (h:Ai X π st a w) {f:AC->AC} (hu:f .undef= .undef) {gv:Nat->Prop} (EL: ∀b,gv b->Ow π b) (hb:Gk w.heap.size gv w w')
  (Za: ∀b,b<w.heap.size->Ow π' b->Ow π b)
  (Qq: ∀l r b,π' l=some r->r.Az b->r.cl b) (WX: ∀l r b,π' l=some r->r.cl b->(X.w0.heap.size<=b\/X.gv b)/\b<w'.heap.size)
  (Agw: ∀l l' r r' b,π' l=some r->π' l'=some r'->r.cl b->r'.cl b->l=l')
  (Zb: ∀l,Ak<=l->Ae H' l≠none->Uu (X.dc l) (π' l))
  (hac:(∀fr τ cs x,Cells w (Be X.w0.heap.size X.Sc π fr) τ cs x->Cells w' (Be X.w0.heap.size X.Sc π' fr) τ cs x)-> ∀c v,Ec X w π st.heap c v->Ec X w' π' H' (f c) v)
  (QB:Move X w w' π π' st.heap H' f-> ∀l b,Ae H' l=some b->Au X w' π' H' (π' l) b)
  (CO: ∀l,Ae H' l=none->π' l=none):
  Ai X π' {tmps:=st.tmps.map (·.map f),heap:=H'} a w':=by
 have hc: ∀fr τ cs x,Cells w (Be X.w0.heap.size X.Sc π fr) τ cs x->Cells w' (Be X.w0.heap.size X.Sc π' fr) τ cs x:= λfr τ cs x hh=>
  Cells.Cv hb.size (λk hk hn=>hb.block k hk λhg=>hn (.inl (EL k hg))) (λk Hr hA=>hA.imp (Za k Hr) id) τ cs x hh
 have m:Move X w w' π π' st.heap H' f:=⟨hac hc,hc⟩
 refine ⟨⟨⟨hb.os.trans h.1.below.os,hb.tape.trans h.1.below.tape,hb.output.trans h.1.below.output,Nat.le_trans h.1.below.size hb.size,λk hk hn=>?_⟩,h.1.sc,Qq,WX,Agw,Zb,λl=>?_⟩,m.zV hu h.2⟩
 ·refine (hb.block k (Nat.lt_of_lt_of_le hk h.1.below.size) λhg=>?_).trans (h.1.below.block k hk hn)
  rcases (h.1.own (EL k hg)).2 with h1|h1
  ·omega
  ·exact hn h1
 ·cases hh:Ae H' l with
  |none=>exact Dm.Pn (CO l hh) hh
  |some b=>exact Dm.Is (QB m l b hh) hh
def bl:Option Real->Option Real->Prop
 |none,none=>True
 |some r,some r'=>r.g=r'.g/\r.o=r'.o/\r.cap=r'.cap
 |_,_=>False
theorem bl.rfl' (r:Option Real):bl r r:=by cases r<;>simp [bl]
theorem bl.some {r:Real} {r':Option Real} (h:bl (some r) r'): ∃q,r'=some q/\r.g=q.g/\r.o=q.o/\r.cap=q.cap:=by
 cases r' with
 |none=>exact h.elim
 |some q=>exact ⟨q,rfl,h⟩
theorem bl.own {r r':Option Real} (h:bl r r') {sz off len:Nat} {v:Value} (hv:Ea r sz off len v):Ea r' sz off len v:=by
 cases r<;>cases r'<;>first|exact h.elim|skip
 ·exact hv
 ·obtain ⟨h1,h2,h3⟩:=h
  obtain ⟨ad,g1,g2,g3⟩:=hv
  exact ⟨ad,by rw [<-h3];exact g1,by rw [<-h3];exact g2,by rw [<-h1,<-h2,<-h3];exact g3⟩
structure OB.Mt (b b':OB):Prop where
 row: ∀sz n,b.row=some (sz,n)-> ∃n',b'.row=some (sz,n')/\n<=n'
 br: ∀p,b.br=some p->b'.br=some p
 pt: ∀p,b.pt=some p->b'.pt=some p
 var: ∀tid vs,b= .var tid vs-> ∃Oa va,b'= .var Oa va
 Ov: ∀v m,b= .Ov v m-> ∃m',b'= .Ov v m'
theorem OB.Mt.map (f:AC->AC) (b:OB):b.Mt (b.map f) where
 row:= λsz n h=>⟨n,by cases b<;>exact h,Nat.le_refl _⟩
 br:= λp h=>by cases b<;>exact h
 pt:= λp h=>by cases b<;>exact h
 var:= λtid vs h=>by subst h;exact ⟨_,_,rfl⟩
 Ov:= λv m h=>by subst h;exact ⟨_,rfl⟩
theorem OB.Mt.rfl' (b:OB):b.Mt b where
 row:= λ_sz n h=>⟨n,h,Nat.le_refl _⟩
 br:= λ_p h=>h
 pt:= λ_p h=>h
 var:= λ_tid _vs h=>⟨_,_,h⟩
 Ov:= λ_v _m h=>⟨_,h⟩
theorem OB.Mt.trans {a b c:OB} (h:a.Mt b) (k:b.Mt c):a.Mt c where
 row:= λsz n hr=>by
  obtain ⟨n1,h1,h2⟩:=h.row sz n hr
  obtain ⟨n2,h3,h4⟩:=k.row sz n1 h1
  exact ⟨n2,h3,by omega⟩
 br:= λp hp=>k.br p (h.br p hp)
 pt:= λp hp=>k.pt p (h.pt p hp)
 var:= λtid vs hv=>by obtain ⟨t',v',h1⟩:=h.var tid vs hv;exact k.var t' v' h1
 Ov:= λv m hm=>by obtain ⟨m',h1⟩:=h.Ov v m hm;exact k.Ov v m' h1
theorem iS {f:AC->AC} {D Pt:Nat->Prop} (hf: ∀c,f c= .undef\/(f c=c/\(∀k∈c.refs,¬D k)/\ ∀k i j,c= .sub k i j\/c= .Gd k i j-> ¬Pt k)) (hp: ∀k,¬D k->bl (π k) (π' k))
  (hH: ∀k b,¬D k->Ae H k=some b-> ∃b',Ae H' k=some b'/\b.Mt b')
  (hg: ∀k r b,¬D k-> ¬Pt k->Ae H k=some b->b.br≠none->π k=some r->w'.heap[r.g]?=w.heap[r.g]?)
  (hc: ∀fr τ cs x,Cells w (Be X.w0.heap.size X.Sc π fr) τ cs x->Cells w' (Be X.w0.heap.size X.Sc π' fr) τ cs x): ∀c v,Ec X w π H c v->Ec X w' π' H' (f c) v:=by
 intro c v h
 rcases hf c with e|⟨e,hr,hs⟩
 ·rw [e];trivial
 rw [e]
 cases c with
 |data fr τ x=>obtain ⟨cs,h1,h2⟩:=h;exact ⟨cs,hc _ _ _ _ h1,h2⟩
 |own k off len=>
  obtain ⟨b,sz,n,h1,h0,h2,h3⟩:=h
  have hk:=hr k (by simp [AC.refs])
  obtain ⟨b',g1,g2⟩:=hH k b hk h1
  obtain ⟨n',g3,g4⟩:=g2.row sz n h0
  exact ⟨b',sz,n',g1,g3,by omega,(hp k hk).own h3⟩
 |Eb k i=>
  obtain ⟨r,tid,vs,h1,h2,h3⟩:=h
  have hk:=hr k (by simp [AC.refs])
  obtain ⟨b',g1,g2⟩:=hH k _ hk h1
  obtain ⟨Oa,va,rfl⟩:=g2.var tid vs rfl
  obtain ⟨q,q1,q2,_⟩:=(h2▸hp k hk).some
  exact ⟨q,Oa,va,g1,q1,by rw [<-q2];exact h3⟩
 |Gf k i=>
  obtain ⟨r,b,sz,n,h1,h0,h2,h3,h4⟩:=h
  have hk:=hr k (by simp [AC.refs])
  obtain ⟨b',g1,g2⟩:=hH k b hk h1
  obtain ⟨n',g3,g4⟩:=g2.row sz n h0
  obtain ⟨q,q1,q2,q3,_⟩:=(h3▸hp k hk).some
  exact ⟨q,b',sz,n',g1,g3,by omega,q1,by rw [<-q2,<-q3];exact h4⟩
 |sub k i c=>
  obtain ⟨r,b,sz,n,h1,h0,h2,h3,h4,h5⟩:=h
  have hk:=hr k (by simp [AC.refs])
  obtain ⟨b',g1,g2⟩:=hH k b hk h1
  obtain ⟨q,q1,q2,q3,_⟩:=(h2▸hp k hk).some
  exact ⟨q,b',sz,n,g1,g2.br _ h0,q1,h3,h4,by rw [<-q2,<-q3,World.cell?_of_block (hg k r b hk (hs k i c (.inl rfl)) h1 (by rw [h0];simp) h2)];exact h5⟩
 |Gd k i c=>
  obtain ⟨r,b,n,sz,g,o,len,cap,h1,h0,h2,h3,h4,h5,h6⟩:=h
  have hk:=hr k (by simp [AC.refs])
  obtain ⟨b',g1,g2⟩:=hH k b hk h1
  obtain ⟨q,q1,q2,q3,_⟩:=(h2▸hp k hk).some
  exact ⟨q,b',n,sz,g,o,len,cap,g1,g2.pt _ h0,q1,h3,h4,by rw [<-q2,<-q3,World.cell?_of_block (hg k r b hk (hs k i c (.inr rfl)) h1 (by cases b<;>first|(cases h0;done)|simp [OB.br]) h2)];exact h5,h6⟩
 |clo g Bz=>
  obtain ⟨us,h1,h2,h3⟩:=h
  refine ⟨us,h1,h2,λj p hpj=>?_⟩
  obtain ⟨r,tid,vs,h4,h5,h6⟩:=h3 j p hpj
  have hk:=hr p.1 (by simp only [AC.refs,List.mem_map];exact ⟨p,List.mem_of_getElem? hpj,rfl⟩)
  obtain ⟨b',g1,g2⟩:=hH p.1 _ hk h4
  obtain ⟨Oa,va,rfl⟩:=g2.var tid vs rfl
  obtain ⟨q,q1,q2,_⟩:=(h5▸hp p.1 hk).some
  exact ⟨q,Oa,va,g1,q1,by rw [<-q2];exact h6⟩
 |Gp k=>
  obtain ⟨r,vt,m,h1,h2,h3⟩:=h
  have hk:=hr k (by simp [AC.refs])
  obtain ⟨b',g1,g2⟩:=hH k _ hk h1
  obtain ⟨m',rfl⟩:=g2.Ov vt m rfl
  obtain ⟨q,q1,q2,_⟩:=(h2▸hp k hk).some
  exact ⟨q,vt,m',g1,q1,by rw [<-q2];exact h3⟩
 |_=>exact h
theorem Og (H0:List (Nat×OB)) (ls:List Nat) (n:Nat): ∀(H:List (Nat×OB)) (l:Nat),Ae (Xt H0 ls n H) l=(Ae H l).map λb=>if ls.contains l then b.xA (Vn n (XO (Ae H0 l))) else b
 | [],_=>rfl
 |(k,b)::r,l=>by
  simp only [Xt,Ae]
  split
  ·rename_i e;subst e;rfl
  ·exact Og H0 ls n r l
theorem OB.ub (b:OB) (kp:Option (Nat×Nat)):b.Mt (b.xA kp):=by
 cases b with
 |Am e te rows out kp0=>exact ⟨λsz n h=>⟨n,h,Nat.le_refl _⟩,λp h=>h,λp h=>h,(λ_ _ h=>by cases h),(λ_ _ h=>by cases h)⟩
 |_=>exact OB.Mt.rfl' _
theorem aY (ls:List Nat): ∀(l m:List AV) (t:Nat),l.length=m.length->(∃k i c,l.getD t .undef= .at (.sub k i c)/\ls.contains k=true/\(Hb ls l m).getD t .undef= .at (.sub k i c))\/(Hb ls l m).getD t .undef=m.getD t .undef
 | [],m,t,_=>by cases m<;>exact .inr rfl
 |_::_,[],t,h=>by simp at h
 |a::l,v::m,t,h=>by
  have ih:= λt=>aY ls l m t (by simpa using h)
  have tail: ∀u,Hb ls (a::l) (v::m)=u::Hb ls l m->(t=0->(∃k i c,(a::l).getD t .undef= .at (.sub k i c)/\ls.contains k=true/\u= .at (.sub k i c))\/u=v)->
    (∃k i c,(a::l).getD t .undef= .at (.sub k i c)/\ls.contains k=true/\(Hb ls (a::l) (v::m)).getD t .undef= .at (.sub k i c))\/(Hb ls (a::l) (v::m)).getD t .undef=(v::m).getD t .undef:=by
   intro u e h0
   rw [e]
   rcases t with _|t
   ·rcases h0 rfl with ⟨k,i,c,h1,h2,h3⟩|h3
    ·exact .inl ⟨k,i,c,h1,h2,by simpa using h3⟩
    ·exact .inr (by simpa using h3)
   ·simpa only [List.getD_cons_succ] using ih t
  cases a with
  | «at»c=>
   cases c with
   |sub k i c=>
    refine tail _ rfl λht=>?_
    subst ht
    by_cases hc:ls.contains k=true
    ·exact .inl ⟨k,i,c,rfl,hc,by rw [if_pos hc]⟩
    ·exact .inr (by rw [if_neg hc])
   |_=>exact tail _ rfl λ_=> .inr rfl
  |_=>exact tail _ rfl λ_=> .inr rfl
theorem oN {H:List (Nat×OB)} {ls:List Nat} {n:Nat} : ∀ {l:List AV} {t k i c:Nat},Yd H ls n l=true->l.getD t .undef= .at (.sub k i c)->ls.contains k=true->i<n/\i<m6 H k
 | [],t,k,i,c,_,h,_=>by simp at h
 |a::l,0,k,i,c,ho,h,hc=>by
  simp only [List.getD_cons_zero] at h
  subst h
  simp only [Yd,hc,Bool.not_true,Bool.false_or,Bool.and_eq_true,Nat.blt_eq] at ho
  exact ho.1
 |a::l,t+1,k,i,c,ho,h,hc=>by
  refine oN (l:=l) (t:=t) (c:=c) ?_ (by simpa only [List.getD_cons_succ] using h) hc
  cases a with
  | «at»d=>cases d with
   |sub _ _ _=>simp only [Yd,Bool.and_eq_true] at ho;exact ho.2
   |_=>exact ho
  |_=>exact ho
theorem zk {bH st:St} {a:Act} (h0:Ai X π bH a w) (h:Ai X π' st a w') {ls:List Nat} {n:Nat} (hk: ∀l∈ls,vf w w' (π l) (π' l) n) (nh: ∀l∈ls,iy bH.heap l=true)
  (Yz:Yd st.heap ls n bH.tmps=true):Ai X π' (gk bH st ls n) a w'/\ ∀c v,Ao X w' π' st.heap c v->Ao X w' π' (gk bH st ls n).heap c v:=by
 by_cases kT:ls= []
 ·subst kT;exact ⟨h,λ_ _ h=>h⟩
 have Ph:gk bH st ls n= {tmps:=Hb ls bH.tmps st.tmps,heap:=Xt bH.heap ls n st.heap} :=by
  cases ls with
  |nil=>exact absurd rfl kT
  |cons _ _=>rfl
 rw [Ph]
 have QG: ∀l∈ls,∃e te rows out kp,Ae bH.heap l=some (.Am e te rows out kp):= λl hl=>by
  have:=nh l hl
  unfold iy at this
  split at this
  ·exact ⟨_,_,_,_,_,by assumption⟩
  ·cases this
 have srv: ∀k b,Ae st.heap k=some b-> ∃b',Ae (Xt bH.heap ls n st.heap) k=some b'/\b.Mt b':= λk b hb=>by
  rw [Og,hb]
  refine ⟨_,rfl,?_⟩
  dsimp only
  split
  ·exact OB.ub b _
  ·exact OB.Mt.rfl' b
 have hac:(∀fr τ cs x,Cells w' (Be X.w0.heap.size X.Sc π' fr) τ cs x->Cells w' (Be X.w0.heap.size X.Sc π' fr) τ cs x)-> ∀c v,Ec X w' π' st.heap c v->Ec X w' π' (Xt bH.heap ls n st.heap) c v:= λhc=>
  iS (f:= λc=>c) (D:= λ_=>False) (Pt:= λ_=>False) (λc=> .inr ⟨rfl,λ_ _ h=>h,λ_ _ _ _ h=>h⟩) (λk _=>bl.rfl' _) (λk b _ hb=>srv k b hb) (λ_ _ _ _ _ _ _ _=>rfl) hc
 have h1:Ai X π' {tmps:=st.tmps.map (·.map λc=>c),heap:=Xt bH.heap ls n st.heap} a w':=by
  refine h.iT rfl (gv:= λ_=>False) (λ_ hf=>hf.elim) (Gk.refl _ _ _) (λ_ _ ho=>ho) h.1.sub h.1.place h.1.inj (λl hl Ep=>h.1.dc l hl λh2=>Ep (by rw [Og,h2];rfl)) hac (λm l b hb=>?_) (λl hl=>?_)
  ·rw [Og] at hb
   cases h2:Ae st.heap l with
   |none=>rw [h2] at hb;cases hb
   |some b0=>
    rw [h2] at hb
    simp only [Option.map_some,Option.some.injEq] at hb
    have hbk:=(h.1.heap l).Mj h2
    have yk:=hbk.move m (Nat.le_refl _) (λr0 c h0 h1=>h.1.sub _ r0 c h0 h1) λ_ _ _ _ _=>rfl
    rw [show OB.map (λc=>c) b0=b0 from OB.wS b0] at yk
    split at hb
    ·rename_i hc
     have hl:l∈ls:=by simpa using hc
     cases b0 with
     |Am e te rows out kp=>
      simp only [OB.xA] at hb
      subst hb
      refine ⟨yk.1,?_⟩
      obtain ⟨e0,te0,VA,Aif,kp0,hg⟩:=QG l hl
      have pz:=((h0.1.heap l).Mj hg).2
      rw [hg]
      simp only [XO]
      have pB:=hk l hl
      cases kp0 with
      |none=>trivial
      |some p=>
       obtain ⟨l0,n0⟩:=p
       simp only [KeptAt,Vn] at pz⊢
       cases sU:X.dc l0 with
       |none=>
        cases hp:π l with
        |none=>
         rw [hp] at pB
         cases CQ:π' l with
         |none=>trivial
         |some q=>rw [CQ] at pB;exact pB.elim
        |some q=>rw [sU,hp] at pz;exact pz.elim
       |some r0=>
        cases hp:π l with
        |none=>rw [sU,hp] at pz;exact pz.elim
        |some q=>
         rw [sU,hp] at pz
         rw [hp] at pB
         cases CQ:π' l with
         |none=>rw [CQ] at pB;exact pB.elim
         |some q'=>
          rw [CQ] at pB
          obtain ⟨k1,k2,k3,k4⟩:=pB
          obtain ⟨g1,g2,g3,g4⟩:=pz
          refine ⟨k1.trans g1,k2.trans g2,k3.trans g3,λj hj hc=>?_⟩
          have e1:=g4 j (by omega) hc
          have e2:=k4 j (by omega) (by omega)
          rw [g1,g2] at e2
          rw [<-e1,e2]
     |_=>simp only [OB.xA] at hb;subst hb;exact yk
    ·subst hb;exact yk
  ·rw [Og] at hl
   cases h2:Ae st.heap l with
   |none=>exact (h.1.heap l).emp h2
   |some b=>rw [h2] at hl;cases hl
 have JY: ∀c v,Ao X w' π' st.heap c v->Ao X w' π' (Xt bH.heap ls n st.heap) c v:= λc v hv=>by
  have m:Move X w' w' π' π' st.heap (Xt bH.heap ls n st.heap) (λc=>c):=⟨hac λ_ _ _ _ h=>h,λ_ _ _ _ h=>h⟩
  have:=m.av hv
  rwa [AC.map_id] at this
 refine ⟨⟨h1.1,⟨?_,h.2.defers,λt=>?_⟩⟩,JY⟩
 ·have: ∀(l m:List AV),(Hb ls l m).length=m.length:=by
   intro l
   induction l with
   |nil=>intro m;cases m<;>rfl
   |cons a l ih=>
    intro m
    cases m with
    |nil=>cases a with
     | «at»c=>cases c<;>rfl
     |_=>rfl
    |cons v m=>cases a with
     | «at»c=>cases c<;>simp only [Hb,List.length_cons,ih m]
     |_=>simp only [Hb,List.length_cons,ih m]
  show a.tmps.size=(Hb ls bH.tmps st.tmps).length
  rw [this];exact h.2.size
 ·show Ao X w' π' _ ((Hb ls bH.tmps st.tmps).getD t .undef) _
  rcases aY ls bH.tmps st.tmps t (by rw [<-h0.2.size,<-h.2.size]) with ⟨k,i,c,g1,g2,g3⟩|g
  ·rw [g3]
   have Iz:k∈ls:=by simpa using g2
   obtain ⟨i1,i2⟩:=oN Yz g1 g2
   have hv:=h0.2.tmps t
   rw [show bH.get t=_ from g1] at hv
   obtain ⟨r,b,sz,n',e1,e2,e3,e4,⟨e5,e6⟩,e7⟩:=hv
   obtain ⟨e0,te0,VA,Aif,kp0,hg⟩:=QG k Iz
   rw [hg] at e1;cases e1
   simp only [OB.br,Option.some.injEq,Prod.mk.injEq] at e2
   obtain ⟨rfl,rfl⟩:=e2
   have pB:=hk k Iz
   rw [e3] at pB
   cases CQ:π' k with
   |none=>rw [CQ] at pB;exact pB.elim
   |some q'=>
    rw [CQ] at pB
    obtain ⟨k1,k2,k3,k4⟩:=pB
    have ng:VA.length<=r.cap:=by
     have:=((h0.1.heap k).Mj hg).1
     rw [e3] at this
     obtain ⟨_,_,_,_,_,_,h5,_⟩:=this
     exact h5
    unfold m6 at i2
    split at i2
    ·rename_i e9 te9 Adb Ano kp9 hg9
     refine ⟨q',_,1,Adb.length,by rw [Og,hg9];rfl,?_,CQ,i2,⟨e5,e6⟩,?_⟩
     ·dsimp only
      split<;>rfl
     ·have fZ:c=0:=by omega
      subst fZ
      rw [k1,k2]
      rw [Nat.mul_one,Nat.add_zero] at e7⊢
      rw [k4 i i1 (by omega)];exact e7
    ·omega
  ·rw [g]
   exact JY _ _ (h.2.tmps t)
theorem km {ins:List (Bool×CK)} {as:List AC} {pl:List Nat} {st:St} :(lN ins as pl st).tmps=st.tmps:=by
 unfold lN
 split
 ·rfl
 ·split<;>rfl
theorem AD {ins:List (Bool×CK)} {as:List AC} {pl:List Nat} {st:St} {m:Nat} (hm:m∉pl):Ae (lN ins as pl st).heap m=Ae st.heap m:=by
 unfold lN
 split
 ·rfl
 ·rename_i l r
  split
  ·exact Cp _ _ _ _ λe=>hm (e▸List.mem_cons_self)
  ·rfl
theorem GQ {ins:List (Bool×CK)} {as:List AC} {l:Nat} {st:St} {tid:TypeId} {vs:List AC} (hl:Ae st.heap l=some (.var tid vs)):Ae (lN ins as [l] st).heap l=some (.var tid (bC ins vs as)):=by
 simp only [lN,St.at,hl]
 exact Ct _ _ _ _ hl
theorem rI {α:Type} (ins:List (Bool×CK)) (as:List α):bC ins [] as= []:=by
 rcases ins with _|⟨⟨_|_,c⟩,r⟩<;>rfl
theorem kc {α:Type} : ∀(ins:List (Bool×CK)) (vs as:List α),(bC ins vs as).length=vs.length
 | [],vs,as=>by rw [bC];all_goals simp
 |p::r,[],as=>by rw [rI]
 |(true,c)::r,v::vs,as=>by simp only [bC,List.length_cons,kc r vs as]
 |(false,c)::r,v::vs,[]=>by rw [bC];all_goals simp
 |(false,c)::r,v::vs,a::as=>by simp only [bC,List.length_cons,kc r vs as]
theorem GH {st:St} {a:Act} (h:Ai X π st a w) {s:MSpec} {kH:List AV} {vs:List Value} (hlen:kH.length=vs.length) (JY: ∀(i:Nat) c v,kH[i]?=some c->vs[i]?=some v->Ao X w π st.heap c v)
  {pl:List Nat} {cells:List AC} {rest:List AV} (he:DD st s kH=some (pl,cells,rest)):
  ∃(g:Nat) (TF sa:List Value),rest.length=sa.length/\(∀(i:Nat) c v,rest[i]?=some c->sa[i]?=some v->Ao X w π st.heap c v)/\Ia X w π st.heap cells TF/\
   ((s.ptr=none/\pl= []/\cells= []/\TF= []/\vs=sa)\/
    ∃p l q,s.ptr=some p/\pl= [l]/\π l=some q/\q.Az q.g/\g=q.g/\Ae st.heap l=some (.var p.1 cells)/\cells.length=p.2/\vs= .pointer (some ⟨g,0,none⟩)::sa/\w.heap[g]?=some (.cells TF.toArray p.1 (0,0))/\Db X w π st.heap cells TF):=by
 unfold DD at he
 split at he
 ·rename_i hp
  simp only [Option.some.injEq,Prod.mk.injEq] at he
  obtain ⟨rfl,rfl,rfl⟩:=he
  exact ⟨0,[],vs,hlen,JY,trivial, .inl ⟨hp,rfl,rfl,rfl,rfl⟩⟩
 ·rename_i p hp
  split at he
  ·rename_i l i Ake
   split at he
   ·rename_i tid cs hl
    split at he
    ·rename_i hc
     obtain ⟨rfl,hc,rfl⟩:=hc
     simp only [Option.some.injEq,Prod.mk.injEq] at he
     obtain ⟨rfl,rfl,rfl⟩:=he
     unfold St.at at hl
     cases vs with
     |nil=>simp at hlen
     |cons v vs=>
      obtain ⟨r,Oa,va,h1,h2,rfl⟩:=JY 0 _ v rfl rfl
      rw [hl] at h1;cases h1
      obtain ⟨r',h3,h4,cur,h5,h6⟩:=(h.1.heap l).Mj hl
      rw [h2] at h3;cases h3
      exact ⟨r.g,cur.toList,vs,by simpa using hlen,λi c v h7 h8=>JY (i+1) c v (by simpa using h7) (by simpa using h8),Ia.of h6, .inr ⟨p,l,r,hp,rfl,h2,h4,rfl,hl,hc,rfl,by simpa using h5,h6⟩⟩
    ·cases he
   ·cases he
  ·cases he
theorem eh {V:List Nat} {πc:Pi} {dead part:List Nat} (US: ∀l,l∉dead->π' l=π l) (Qp: ∀l b sz n,l∉dead->Ae H l=some b->b.row=some (sz,n)-> ∃b',Ae H' l=some b'/\b'.row=some (sz,n)):
  ∀(ins:List (Bool×CK)) (k:Nat) (cells jf:List AC) (x:Ins.den ins) (us:List Value) (o:IOs.den ins) (cur st1:St) (news:List AC) (Su cs:List Value),lC X w π V H πc k ins x (cells++jf) us->Pj ins cells=true->
   Eg ins o (cells++jf) cur=some st1->Cg πc k ins o cells.length cs Su->Ia X w' π' H' news Su->Ia X w' π' H' (bC ins (cells.map (Aw dead part)) news) cs
 |ins,k,[],jf,x,us,o,cur,st1,news,Su,cs,_,_,_,hb,_=>by
  have hb:cs= []:=by rcases ins with _|⟨⟨_|_,c⟩,r⟩<;>(try cases c)<;>simpa [Cg] using hb
  rw [hb,List.map_nil,rI]
  trivial
 | [],k,a::cells,jf,x,us,o,cur,st1,news,Su,cs,_,hk,_,_,_=>by simp [Pj] at hk
 |(true, .Ft τ)::r,k,a::cells,jf,x,us,o,cur,st1,news,Su,cs,_,hk,_,_,_=>by simp [Pj] at hk
 |(true, .part e te)::r,k,a::cells,jf,x,us,o,cur,st1,news,Su,cs,_,hk,_,_,_=>by simp [Pj] at hk
 |(true, .Am e te _)::r,k,a::cells,jf,x,us,o,cur,st1,news,Su,cs,_,hk,_,_,_=>by simp [Pj] at hk
 |(true, .row e te)::r,k,a::cells,jf,x,us,o,cur,st1,news,Su,cs,ht,hk,hp,hb,hn=>by
  cases a<;>simp only [Pj,Bool.false_eq_true] at hk
  rename_i l off len
  cases us with
  |nil=>exact ht.elim
  |cons u0 us=>
  cases cs with
  |nil=>exact hb.elim
  |cons u cs=>
  obtain ⟨⟨_,h1⟩,h2⟩:=ht
  simp only [My] at h1
  obtain ⟨h3,rfl,rfl,fr,tr,h4⟩:=h1
  obtain ⟨h5,h6⟩:=hb
  simp only [List.cons_append,Eg] at hp
  split at hp
  rotate_left
  ·cases hp
  rename_i Tr WW
  have KI:List.length o.1=List.length x.1:=by
   simp only [Wh] at WW
   repeat' split at WW
   all_goals first|(cases WW;done)|(rename_i hc;exact hc.2.1)
  refine ⟨?_,eh US Qp r (k+1) cells jf x.2 us o.2 Tr st1 news Su cs h2 hk hp h6 hn⟩
  by_cases hd:l∈dead
  ·have:Aw dead part (.own l 0 (List.length x.1))= .undef:=by
    unfold Aw
    rw [if_pos (by simp [AC.refs,hd])]
   rw [this];trivial
  ·rw [Wq (by simpa [AC.refs] using hd) (by intro l i j e;rcases e with e|e<;>cases e)]
   obtain ⟨b',g1,g2⟩:=Qp l _ e.size (List.length x.1) hd h4 rfl
   refine ⟨b',e.size,List.length x.1,g1,g2,by omega,?_⟩
   rw [US l hd]
   rw [h3,KI] at h5
   cases hp:π l<;>(rw [hp] at h5;exact h5)
 |(true, .Dv e te)::r,k,a::cells,jf,x,us,o,cur,st1,news,Su,cs,ht,hk,hp,hb,hn=>by
  cases a<;>simp only [Pj,Bool.false_eq_true] at hk
  rename_i l off len
  cases us with
  |nil=>exact ht.elim
  |cons u0 us=>
  cases cs with
  |nil=>exact hb.elim
  |cons u cs=>
  obtain ⟨⟨_,h1⟩,h2⟩:=ht
  simp only [My] at h1
  obtain ⟨h3,rfl,rfl,h4⟩:=h1
  obtain ⟨h5,h6⟩:=hb
  simp only [List.cons_append,Eg] at hp
  split at hp
  rotate_left
  ·cases hp
  rename_i Tr WW
  have KI:List.length o.1=List.length x.1:=by
   simp only [Wh] at WW
   repeat' split at WW
   all_goals first|(cases WW;done)|(rename_i hc;exact hc.2.1)
  refine ⟨?_,eh US Qp r (k+1) cells jf x.2 us o.2 Tr st1 news Su cs h2 hk hp h6 hn⟩
  by_cases hd:l∈dead
  ·have:Aw dead part (.own l 0 (List.length x.1))= .undef:=by
    unfold Aw
    rw [if_pos (by simp [AC.refs,hd])]
   rw [this];trivial
  ·rw [Wq (by simpa [AC.refs] using hd) (by intro l i j e;rcases e with e|e<;>cases e)]
   obtain ⟨b',g1,g2⟩:=Qp l _ e.size (List.length x.1) hd h4 rfl
   refine ⟨b',e.size,List.length x.1,g1,g2,by omega,?_⟩
   rw [US l hd]
   rw [h3,KI] at h5
   cases hp:π l<;>(rw [hp] at h5;exact h5)
 |(false,c)::r,k,a::cells,jf,x,[],o,cur,st1,news,Su,cs,ht,hk,hp,hb,hn=>ht.elim
 |(false,c)::r,k,a::cells,jf,x,u0::us,o,cur,st1,news,Su,[],ht,hk,hp,hb,hn=>by cases c<;>exact hb.elim
 |(false,c)::r,k,a::cells,jf,x,u0::us,o,cur,st1,news,[],u::cs,ht,hk,hp,hb,hn=>by cases c<;>exact hb.elim
 |(false,c)::r,k,a::cells,jf,x,u0::us,o,cur,st1,[],u'::Su,u::cs,ht,hk,hp,hb,hn=>hn.elim
 |(false,c)::r,k,a::cells,jf,x,u0::us,o,cur,st1,na::news,u'::Su,u::cs,ht,hk,hp,hb,hn=>by
  have hb2:u=u'/\Cg πc (k+1) r o cells.length cs Su:=by cases c<;>exact hb
  obtain ⟨rfl,hb3⟩:=hb2
  have hp:Eg r o (cells++jf) cur=some st1:=by cases c<;>simpa only [List.cons_append,Eg] using hp
  have hk:Pj r cells=true:=by cases c<;>simpa only [Pj] using hk
  exact ⟨hn.1,eh US Qp r (k+1) cells jf x.2 us o cur st1 news Su cs ht.2 hk hp hb3 hn.2⟩
theorem xS {V:List Nat} {πc:Pi} : ∀(cs:List (Bool×CK)) (k0:Nat) (x:Ins.den cs) (as:List AC) (us:List Value),k0+cs.length<100000->lC X w π V H πc k0 cs x as us-> ∀k l,(Bv false k,Loc.row l)∈Hc k0 cs as->πc (Bv false k)=(π l).map full
 | [],_,_,[],_,_,_,_,_,h=>by cases h
 | [],_,_,_::_,_,_,_,_,_,h=>by cases h
 |_::_,_,_,[],_,_,_,_,_,h=>by cases h
 |_::_,_,_,_::_,[],_,h,_,_,_=>h.elim
 |(io,c)::r,k0,x,a::as,u::us,hk,h,k,l,ht=>by
  simp only [List.length_cons] at hk
  simp only [Hc] at ht
  rcases List.mem_append.1 ht with ht|ht
  ·obtain ⟨⟨_,h1⟩,_⟩:=h
   cases c with
   |Ft τ=>cases a<;>simp [Ks,views] at ht
   |row e te=>
    cases a<;>simp [Ks] at ht
    obtain ⟨e1,rfl⟩:=ht
    simp only [My] at h1
    rw [e1];exact h1.1
   |Dv e te=>
    cases a<;>simp [Ks] at ht
    obtain ⟨e1,rfl⟩:=ht
    simp only [My] at h1
    rw [e1];exact h1.1
   |part e te=>
    cases a<;>simp [Ks] at ht
    obtain ⟨e1,rfl⟩:=ht
    simp only [My] at h1
    rw [e1];exact h1.2.1
   |Am e te kp=>
    cases a<;>simp [Ks] at ht
    obtain ⟨e1,rfl⟩:=ht
    simp only [My] at h1
    rw [e1];exact h1.2.1
  ·exact xS r (k0+1) x.2 as us (by omega) h.2 k l ht
theorem lD {st:St} {a:Act} (h:Ai X π st a w) {f:FuncId} {s:MSpec} (hs:Ck P f s) (dst:Option Nat) (kH:List AV) (vs:List Value) (hlen:kH.length=vs.length)
  (JY: ∀(i:Nat) c v,kH[i]?=some c->vs[i]?=some v->Ao X w π st.heap c v) (av:AV) (st':St) (he:Ql st dst s kH=some (av,st')):
  Calls P f vs.toArray w λe w'=> ∃v,e= .returned v/\ ∃π',Ai X π' st' a w'/\Ao X w' π' st'.heap av v:=by
 unfold Ql at he
 split at he
 ·cases he
 rename_i pl cells rest Ahk
 split at he
 ·cases he
 rename_i jf IT
 split at he
 ·cases he
 rename_i x tks htk
 split at he
 rotate_left
 ·cases he
 rename_i Fo
 simp only [Bool.and_eq_true,Nat.blt_eq] at Fo
 obtain ⟨⟨⟨⟨pD,nm⟩,hon⟩,Ns⟩,Abc,ER⟩:=Fo
 have ER: ∀l∈pl,l∉(tks.map λt=>t.2.Qa)/\l∉Ly s tks (dst.getD 0):= λl hl=>by
  have:=List.all_eq_true.1 ER l hl
  simp only [Bool.not_eq_true',<-Bool.not_eq_true,List.contains_iff_mem] at this
  exact ⟨λhm=>this (List.mem_append_left _ hm),λhm=>this (List.mem_append_right _ hm)⟩
 split at he
 ·cases he
 rename_i r o ZT
 split at he
 ·cases he
 rename_i st1 WZ
 obtain ⟨g,TF,sa,Abd,Aga,Ahn,hpt⟩:=GH h hlen JY Ahk
 obtain ⟨qo,rfl,IQ,Ahm⟩:=Xj s.He rest sa jf Abd Aga IT
 have XB:=Ahn.append Ahm
 have Lf:jh s w g (TF++qo) vs:=by
  unfold jh
  rcases hpt with ⟨h1,_,_,h2,h3⟩|⟨p,l,q,h1,_,_,_,_,_,h2,h3,h4,h5⟩
  ·rw [h1];subst h2;exact ⟨h3,IQ⟩
  ·rw [h1]
   have hl:TF.length=p.2:=h5.1.trans h2
   simp only
   rw [List.drop_append_of_le_length (by omega),List.take_append_of_le_length (by omega),List.take_of_length_le (by omega),List.drop_of_length_le (by omega)]
   refine ⟨h3,IQ,by simp;omega,h4,λu hu=>?_⟩
   obtain ⟨i,hi,rfl⟩:=List.mem_iff_getElem.1 hu
   obtain ⟨u',h6,h7,_⟩:=h5.2 i (cells[i]'(by have:=h5.1;omega)) (List.getElem?_eq_getElem _)
   rw [List.getElem?_eq_getElem hi] at h6
   rw [Option.some.inj h6];exact h7
 have ES: ∀l∈pl,∃p q,s.ptr=some p/\pl= [l]/\π l=some q/\q.Az q.g/\g=q.g/\Ae st.heap l=some (.var p.1 cells)/\cells.length=p.2:= λl hl=>by
  rcases hpt with ⟨_,h1,_⟩|⟨p,l',q,h1,h2,h3,h4,h5,h6,h7,_⟩
  ·rw [h1] at hl;cases hl
  ·rw [h2] at hl
   have:=List.mem_singleton.1 hl
   subst this
   exact ⟨p,q,h1,h2,h3,h4,h5,h6,h7⟩
 have EL: ∀b,s.gv g b-> ∃l∈pl,∃q,π l=some q/\q.Az b/\b=q.g:= λb ⟨h1,h2⟩=>by
  rcases hpt with ⟨h3,_⟩|⟨p,l',q,_,h4,h5,h6,h7,_⟩
  ·rw [h3] at h1;cases h1
  ·exact ⟨l',by rw [h4];exact List.mem_singleton.2 rfl,q,h5,by rw [h2,h7];exact h6,h2.trans h7⟩
 obtain ⟨as,has⟩: ∃as,as=cells++jf:=⟨_,rfl⟩
 obtain ⟨us,KQ⟩: ∃us,us=TF++qo:=⟨_,rfl⟩
 rw [<-has] at XB htk WZ
 rw [<-KQ] at XB Lf
 let V:=(tks.filter λt=>t.2.reads).map λt=>t.2.Qa
 have hV: ∀t∈tks,t.2.reads=true->t.2.Qa∈V:= λt ht hr=>List.mem_map.2 ⟨t,List.mem_filter.2 ⟨ht,hr⟩,rfl⟩
 have hV': ∀l∈V,∃t∈tks,t.2.reads=true/\t.2.Qa=l:= λl hl=>by
  obtain ⟨t,h1,h2⟩:=List.mem_map.1 hl
  exact ⟨t,(List.mem_filter.1 h1).1,(List.mem_filter.1 h1).2,h2⟩
 clear_value V
 obtain ⟨OM,πc,hT,KB,Agu,Pg⟩:=oU h.1 (V:=V) s.ins 0 as us x tks (by omega) XB htk hV
 have z9:=Qw pD
 rw [OM] at z9
 have Za: ∀b,Ow πc b-> ∃t∈Hc 0 s.ins as,t.2.reads=false/\ ∃q,π t.2.Qa=some q/\q.Az b/\ ∀l i j,t.2= .sub l i j->b≠q.g:= λb ⟨c,q,h1,h2⟩=>by
  obtain ⟨t,t1,_,t3⟩:=Pg c q b h1 h2
  exact ⟨t,t1,t3⟩
 have zb: ∀b,Ow πc b->Ow π b:= λb hb=>let ⟨t,_,_,q,h1,h2,_⟩:=Za b hb;⟨_,q,h1,h2⟩
 have e8:c7 πc (λb=>b<w.heap.size):=⟨λl q b h1 h2=>(h.1.own (zb b ⟨l,q,h1,h2⟩)).1,λl l' q q' b h1 h2 h3 h4=>by
  obtain ⟨t,t1,t2,_,p,t3,t4,_⟩:=Pg l q b h1 h3
  obtain ⟨t',YQ,t2',_,p',t3',t4',_⟩:=Pg l' q' b h2 h4
  have:=tp z9 t1 YQ (h.1.apart t3 t3' t4 t4')
  rw [<-t2,<-t2',this]⟩
 have Aaw: ∀k l,(Bv false k,Loc.row l)∈Hc 0 s.ins as->πc (Bv false k)=(π l).map full:= λk l ht=>
  xS s.ins 0 x as us (by omega) hT k l ht
 have Ac8: ∀b,Ow πc b->Jo X π V b:= λb hb=> .inl ⟨zb b hb,λl hl r' hr hf=>by
  obtain ⟨t,t1,t0,q,t3,t4,_⟩:=Za b hb
  obtain ⟨t',YQ,t2',rfl⟩:=hV' l hl
  rw [OM] at YQ
  have:=tp z9 t1 YQ (h.1.apart t3 hr t4 hf)
  subst this
  rw [t0] at t2';cases t2'⟩
 let S:Nat->Prop:= λb=> ¬Ow πc b/\Jo X π V b
 have hS: ∀b,S b->b<w.heap.size/\ ¬Ow πc b:= λb hb=>⟨by
  rcases hb.2 with h1|h1
  ·exact (h.1.own h1.1).1
  ·exact Nat.lt_of_lt_of_le (h.1.sc b h1).1 h.1.below.size,hb.1⟩
 have QQ: ∀l∈pl,∀t∈Hc 0 s.ins as,t.2.Qa≠l:= λl hl t ht e=>(ER l hl).1 (List.mem_map.2 ⟨t,OM▸ht,e⟩)
 have hSg:s.ptr.isSome=true->S g:= λhps=>by
  obtain ⟨l,hl,q,h1,h2,h3⟩:=EL g ⟨hps,rfl⟩
  have hno: ¬Ow πc g:= λhb=>by
   obtain ⟨t,t1,_,q',t3,t4,_⟩:=Za g hb
   exact QQ l hl t t1 (h.1.apart t3 h1 t4 h2)
  refine ⟨hno, .inl ⟨⟨l,q,h1,h2⟩,λl' Hg r' gg hf=>?_⟩⟩
  obtain ⟨t',YQ,_,rfl⟩:=hV' l' Hg
  rw [OM] at YQ
  exact QQ l hl t' YQ (h.1.apart gg h1 hf h2)
 refine (hs.calls w S πc us x r o g vs Lf hSg (Zy.Fa (λb hb=>hb.elim (Ac8 b) λh=>h.2) s.ins 0 x us (hT.Acj s.ins 0 x as us)) e8 hS Agu ZT).mono ?_
 rintro e w' ⟨v,Su,vd,rfl,ao,qP,QA,sO,Abm,KK,XK,qU⟩
 obtain ⟨ρ,RC,sT,KJ,TV⟩: ∃ρ:Pi,(∀l,ρ l=(vd l).map full)/\Fb w' (eC S πc vd) ρ 0 s.outs r Su/\c7 ρ (λb=>b<w'.heap.size/\(w.heap.size<=b\/ ∃l q,l<Ak/\πc l=some q/\q.Az b))/\ ∀l q,ρ l=some q->q.cl=q.Az:=by
  have un: ∀l q,(vd l).map full=some q-> ∃q0,vd l=some q0/\q=full q0:= λl q hq=>by
   cases hp:vd l with
   |none=>rw [hp] at hq;cases hq
   |some q0=>rw [hp] at hq;exact ⟨q0,rfl,(Option.some.inj hq).symm⟩
  refine ⟨λl=>(vd l).map full,λ_=>rfl,Fb.full s.outs 0 r Su Abm,⟨λl q b h1 h2=>?_,λl l' q q' b h1 h2 h3 h4=>?_⟩,λl q h1=>?_⟩
  ·obtain ⟨q0,h5,rfl⟩:=un l q h1
   exact KK.Ss l q0 b h5 h2
  ·obtain ⟨q0,h5,rfl⟩:=un l q h1
   obtain ⟨YM,h6,rfl⟩:=un l' q' h2
   exact KK.inj l l' q0 YM b h5 h6 h3 h4
  ·obtain ⟨q0,_,rfl⟩:=un l q h1
   rfl
 refine ⟨v,rfl,?_⟩
 split at he
 ·cases he
 rename_i av0 cJ
 split at he
 rotate_left
 ·cases he
 rename_i Qq
 simp only [Option.some.injEq,Prod.mk.injEq] at he
 obtain ⟨rfl,rfl⟩:=he
 let D1:Nat->Prop:=if s.flat then λ_=>True else eC S πc vd
 have Agx:Hj w' D1 πc 0 s.ins o:=by
  show Hj w' (if s.flat then λ_=>True else eC S πc vd) πc 0 s.ins o
  split
  ·rename_i hf
   unfold MSpec.flat at hf
   simp only [Bool.and_eq_true] at hf
   exact Hj.any s.ins 0 o hf.2 sO
  ·exact sO
 have Abn:Fb w' D1 ρ 0 s.outs r Su:=by
  show Fb w' (if s.flat then λ_=>True else eC S πc vd) ρ 0 s.outs r Su
  split
  ·rename_i hf
   unfold MSpec.flat at hf
   simp only [Bool.and_eq_true] at hf
   exact Fb.any s.outs 0 r Su hf.1 sT
  ·exact sT
 obtain ⟨q1,q2,q3,q4⟩:=nZ (D:=D1) (X:=X) (π:=π) (H:=st.heap) h.1 QA.size (tks:=Hc 0 s.ins as) (πc:=πc) (λt ht q b hq hb Hr hn=>QA.block b Hr λza=>by
   rcases za with ⟨c,r',h1,h2⟩|hg
   rotate_left
   ·obtain ⟨l,hl,q',h1,h2,_⟩:=EL b hg
    exact QQ l hl t ht (h.1.apart hq h1 hb h2)
   obtain ⟨t',t1,t2,_,p,t3,t4,_⟩:=Pg c r' b h1 h2
   have:=tp z9 ht t1 (h.1.apart hq t3 hb t4)
   subst this
   exact hn r' (t2▸h1) h2) s.ins 0 x as us o st st1 (by omega) (λ_ h=>h) z9 hT Agx WZ (λ_ _=>rfl)
 have XC: ∀t∈Hc 0 s.ins as,t.2.reads=true->t.1<Ak:=by
  have: ∀(cs:List (Bool×CK)) (k:Nat) (as:List AC),k+cs.length<100000-> ∀t∈Hc k cs as,t.2.reads=true->t.1<Ak:=by
   intro cs
   induction cs with
   |nil=>intro k as _ t ht;cases as<;>cases ht
   |cons p r ih=>
    intro k as hk t ht hr
    simp only [List.length_cons] at hk
    cases as with
    |nil=>cases ht
    |cons a as=>
     simp only [Hc] at ht
     rcases List.mem_append.1 ht with ht|ht
     ·rcases xR ht with ⟨_,h1⟩|⟨h1,_⟩
      ·rw [hr] at h1;cases h1
      ·rw [h1];exact aN (by omega)
     ·exact ih (k+1) as (by omega) t ht hr
  exact this s.ins 0 as (by omega)
 let d:=dst.getD 0
 let ks:=Ly s tks d
 let dead:=gY tks++ks++(if s.flat then [] else uM tks)
 let part:=whole tks
 have Ahq:s.outs.length+(gx s d).length=s.Nu:=by unfold MSpec.Nu gx;cases s.rp<;>rfl
 obtain ⟨WL,Ah5,UC⟩:ks.length=s.Nu/\ks.Nodup/\ ∀l∈ks,l<Ak:=by
  have:=zo nm
  rw [Ahq] at this
  exact this
 have hno:s.outs.length<=s.Nu:=by unfold MSpec.Nu;omega
 have QV: ∀tid,s.rp=some tid->Bw ks s.outs.length=Mx d/\s.Nu=s.outs.length+1:= λtid Qr=>by
  have h1:s.Nu=s.outs.length+1:=by unfold MSpec.Nu;rw [Qr]
  refine ⟨?_,h1⟩
  have h2:ks=gU s tks d++ [Mx d]:=by show gU s tks d++gx s d=_;unfold gx;rw [Qr]
  have h3:(gU s tks d).length=s.outs.length:=by rw [h2] at WL;simp at WL;omega
  rw [Lk (by rw [WL];omega)]
  simp only [h2]
  rw [List.getElem_append_right (by omega)]
  simp [h3]
 have KH:=vJ Ah5 UC
 have Ah3: ∀j,j<s.Nu->Bw ks j<Ak:= λj hj=>UC _ (mem_keys.2 ⟨j,by omega,rfl⟩)
 let π':Pi:= λl=>match (List.range s.Nu).find? λj=>decide (Bw ks j=l) with
  |some j=>ρ (Fz j)
  |none=>if l∈dead then none else π l
 have pA: ∀j,j<s.Nu->π' (Bw ks j)=ρ (Fz j):= λj hj=>by
  show (match (List.range s.Nu).find? λi=>decide (Bw ks i=Bw ks j) with|some i=>ρ (Fz i)|none=>_)=_
  cases hf:(List.range s.Nu).find? λi=>decide (Bw ks i=Bw ks j) with
  |none=>
   have:=List.find?_eq_none.1 hf j (List.mem_range.2 hj)
   simp at this
  |some i=>
   have:=List.find?_some hf
   rw [KH i j (of_decide_eq_true this)]
 have nk: ∀j,j<s.Nu->Bw ks j∈dead:= λj hj=>List.mem_append_left _ (List.mem_append_right _ (mem_keys.2 ⟨j,by omega,rfl⟩))
 have sP: ∀l,(¬ ∃j,j<s.Nu/\l=Bw ks j)->π' l=if l∈dead then none else π l:= λl hl=>by
  show (match (List.range s.Nu).find? λi=>decide (Bw ks i=l) with|some i=>ρ (Fz i)|none=>_)=_
  cases hf:(List.range s.Nu).find? λi=>decide (Bw ks i=l) with
  |none=>rfl
  |some i=>
   have h1:=List.find?_some hf
   exact absurd ⟨i,List.mem_range.1 (List.mem_of_find?_eq_some hf),(of_decide_eq_true h1).symm⟩ hl
 have KU: ∀l,l∉dead->π' l=π l:= λl hl=>by
  rw [sP l (λ⟨j,h1,h2⟩=>hl (h2▸nk j h1)),if_neg hl]
 have hD1: ∀b,Ow π' b\/X.Sc b->D1 b:=by
  intro b hb
  show (if s.flat then λ_=>True else eC S πc vd) b
  split
  ·trivial
  rename_i hnf
  rcases hb with ⟨l,q,hl,hf⟩|hb
  ·by_cases hk: ∃j,j<s.Nu/\l=Bw ks j
   ·obtain ⟨j,hj,rfl⟩:=hk
    rw [pA j hj,RC] at hl
    cases hp:vd (Fz j) with
    |none=>rw [hp] at hl;cases hl
    |some q0=>rw [hp] at hl;simp only [Option.map_some,Option.some.injEq] at hl;subst hl;exact .inr (.inr ⟨Fz j,q0,hp,hf⟩)
   ·have e0:π' l=if l∈dead then none else π l:=sP l hk
    rw [e0] at hl
    split at hl
    ·cases hl
    ·rename_i QN
     by_cases ho:Ow πc b
     ·obtain ⟨c,q',hc,hcb⟩:=ho
      obtain ⟨t,t1,t2,t0,p,t3,t4,_⟩:=Pg c q' b hc hcb
      have sQ:=h.1.apart hl t3 hf t4
      refine .inr (.inl ⟨c,q',Classical.byContradiction λhn=>?_,hc,hcb⟩)
      exact QN (List.mem_append_left _ (List.mem_append_left _ (Zh.2 ⟨t,OM▸t1,⟨by rw [t2];omega,t0⟩,sQ.symm⟩)))
     ·refine .inl ⟨ho, .inl ⟨⟨l,q,hl,hf⟩,λl0 WN r0 XA hf0=>?_⟩⟩
      have:=h.1.apart hl XA hf hf0
      subst this
      exact QN (List.mem_append_right _ (by rw [if_neg hnf];exact nI.2 (hV' l WN)))
  ·refine .inl ⟨λho=>?_, .inr hb⟩
   have h1:=h.1.sc b hb
   rcases (h.1.own (zb b ho)).2 with h2|h2
   ·omega
   ·exact h1.2 h2
 have hpd: ∀l∈pl,l∉dead:= λl hl hd=>by
  rcases List.mem_append.1 hd with hd|hd
  ·rcases List.mem_append.1 hd with hd|hd
   ·obtain ⟨t,ht,_,e⟩:=Zh.1 hd
    exact (ER l hl).1 (List.mem_map.2 ⟨t,ht,e⟩)
   ·exact (ER l hl).2 hd
  ·split at hd
   ·cases hd
   ·obtain ⟨t,ht,_,e⟩:=nI.1 hd
    exact (ER l hl).1 (List.mem_map.2 ⟨t,ht,e⟩)
 have WK: ∀j,j<s.Nu->Bw ks j∉pl:= λj hj hp=>hpd _ hp (nk j hj)
 let bv:Option OB:=s.rp.map λtid=> .var tid ((Vr (Bw ks) 0 s.outs r).drop s.Tj)
 let H1:=(lN s.ins (Vr (Bw ks) 0 s.outs r) pl (st1.Wp dead part)).heap
 have ZP: ∀l,l∉pl->Ae H1 l=if l∈dead then none else (Ae st1.heap l).map (OB.map (Aw dead part)):= λl hl=>by
  show Ae (lN _ _ _ _).heap l=_
  rw [AD hl]
  show Ae (Qi (st1.heap.map λp=>(p.1,p.2.map (Aw dead part))) dead) l=_
  rw [Il,Js]
 let H2:=wy H1 (Mx d) bv
 have hvd: ∀tid,s.rp=some tid->Mx d∈dead/\Mx d∉pl:= λtid Qr=>by
  obtain ⟨e1,e2⟩:=QV tid Qr
  rw [<-e1]
  exact ⟨nk _ (by omega),WK _ (by omega)⟩
 have Aas: ∀l,(∀tid,s.rp=some tid->l≠Mx d)->Ae H2 l=Ae H1 l:= λl hl=>by
  show Ae (wy H1 (Mx d) (s.rp.map _)) l=_
  cases yl:s.rp with
  |none=>rfl
  |some tid=>exact Jz _ _ _ _ (hl tid yl)
 have Afx: ∀tid,s.rp=some tid->Ae H2 (Mx d)=some (.var tid ((Vr (Bw ks) 0 s.outs r).drop s.Tj)):= λtid Qr=>by
  show Ae (wy H1 (Mx d) (s.rp.map _)) (Mx d)=_
  rw [Qr]
  exact Ku _ _ _ (by rw [ZP _ (hvd tid Qr).2,if_pos (hvd tid Qr).1])
 have hkv: ∀j,j<s.outs.length-> ∀tid,s.rp=some tid->Bw ks j≠Mx d:= λj hj tid Qr e=>by
  have:=KH j s.outs.length (e.trans (QV tid Qr).1.symm)
  omega
 have hH2: ∀l,l∉pl->(∀tid,s.rp=some tid->l≠Mx d)->Ae H2 l=if l∈dead then none else (Ae st1.heap l).map (OB.map (Aw dead part)):= λl hl hv=>by
  rw [Aas l hv,ZP l hl]
 let H':=Qx (CA st (gY tks)) (Bw ks) 0 s.outs r H2
 obtain ⟨n1,n2,n3⟩:=lf (D:=D1) (X:=X) (key:=Bw ks) KH (fr:=CA st (gY tks)) (ρ:=ρ) s.outs 0 r Su H2 Abn (λj _ hj=>by
  rw [hH2 _ (WK j (by omega)) (hkv j (by omega)),if_pos (nk j (by omega))])
 have jC: ∀l,l∉dead->l∉pl->Ae H' l=(Ae st1.heap l).map (OB.map (Aw dead part)):= λl hl pC=>by
  show Ae (Qx _ _ _ _ _ _) l=_
  rw [n1 l λj _ hj e=>hl (e▸nk j (by omega)),hH2 l pC (λtid Qr e=>hl (e▸(hvd tid Qr).1)),if_neg hl]
 have PY: ∀l,l∈dead->(∀j,j<s.Nu->l≠Bw ks j)->Ae H' l=none:= λl hl hj=>by
  show Ae (Qx _ _ _ _ _ _) l=_
  rw [n1 l λj _ h2=>hj j (by omega),hH2 l (λhp=>hpd l hp hl) (λtid Qr e=>hj s.outs.length (by have:=(QV tid Qr).2;omega) (e.trans (QV tid Qr).1.symm)),if_pos hl]
 have newAt: ∀l b',Ae H' l=some b'->(l∈dead\/Ae st.heap l=none)-> ∃j,j<s.Nu/\l=Bw ks j:=by
  intro l b' hb hd
  refine Classical.byContradiction λhn=>?_
  have m8: ∀j,j<s.Nu->l≠Bw ks j:= λj hj e=>hn ⟨j,hj,e⟩
  rcases Classical.em (l∈dead) with hd'|hd'
  ·rw [PY l hd' m8] at hb;cases hb
  ·rcases hd with hd|hd
   ·exact hd' hd
   ·rw [jC l hd' (λhp=>by obtain ⟨_,_,_,_,_,_,_,h1,_⟩:=ES l hp;rw [hd] at h1;cases h1)] at hb
    have:Ae st1.heap l=none:=by
     by_cases hi: ∃t∈Hc 0 s.ins as,t.2.Qa=l
     ·obtain ⟨t,ht,e⟩:=hi
      by_cases Hr:t.1<Ak
      ·rw [<-e,q3 t ht Hr,e];exact hd
      ·obtain ⟨b0,_,h1,_⟩:=q4 t ht Hr
       rw [e,hd] at h1;cases h1
     ·rw [q2 l λt ht e=>hi ⟨t,ht,e.symm⟩];exact hd
    rw [this] at hb;cases hb
 have WB: ∀k,CA st (gY tks)=true-> ∀q,ρ (Fz k)=some q->q.Az q.g->X.w0.heap.size<=q.g:=by
  intro k wk q hq hg
  rcases (KJ.Ss _ q _ hq hg).2 with h1|⟨c,p,h1,h2,h3⟩
  ·exact Nat.le_trans h.1.below.size h1
  ·obtain ⟨t,t1,t2,t0,p',t3,t4,_⟩:=Pg c p _ h2 h3
   have hm:t.2.Qa∈gY tks:=Zh.2 ⟨t,OM▸t1,⟨by rw [t2];exact h1,t0⟩,rfl⟩
   have:=List.all_eq_true.1 wk _ hm
   split at this
   ·rename_i fr tr e te xs hl
    unfold St.at at hl
    have hb:=(h.1.heap t.2.Qa).Mj hl
    simp only [Au,Fu,t3] at hb
    rw [hb.1.2.1 _ t4]
    exact hb.1.2.2 this
   ·cases this
 have VZ: ∀k q,ρ (Fz k)=some q->k<s.outs.length->q.Az q.g:=by
  intro k q hq hk
  exact Fb.TI s.outs 0 r Su sT k (Nat.zero_le _) ((Nat.zero_add _).symm▸hk) q hq
 have hinv: ∀l,l∉dead->(∃t∈Hc 0 s.ins as,t.2.reads=false/\t.2.Qa=l)->gO X D1 w' π st.heap st1.heap l:=by
  rintro l hd ⟨t,ht,h0,rfl⟩
  by_cases Hr:t.1<Ak
  ·exact absurd (List.mem_append_left _ (List.mem_append_left _ (Zh.2 ⟨t,OM▸ht,⟨Hr,h0⟩,rfl⟩))) hd
  ·exact q4 t ht Hr
 have sS: ∀l,(¬ ∃t∈Hc 0 s.ins as,t.2.reads=false/\t.2.Qa=l)->Ae st1.heap l=Ae st.heap l:= λl hn=>by
  by_cases hi: ∃t∈Hc 0 s.ins as,t.2.Qa=l
  ·obtain ⟨t,ht,rfl⟩:=hi
   have hr:t.2.reads=true:=by
    cases h0:t.2.reads with
    |true=>rfl
    |false=>exact absurd ⟨t,ht,h0,rfl⟩ hn
   exact q3 t ht (XC t ht hr)
  ·exact q2 l λt ht e=>hi ⟨t,ht,e.symm⟩
 have TQ: ∀l∈pl,∀p,s.ptr=some p->Ae H' l=some (.var p.1 (bC s.ins (cells.map (Aw dead part)) (Vr (Bw ks) 0 s.outs r))):= λl hl p hp=>by
  obtain ⟨p',q,h1,h2,_,_,_,h3,_⟩:=ES l hl
  rw [hp] at h1;cases h1
  show Ae (Qx _ _ _ _ _ _) l=_
  rw [n1 l λj _ hj e=>WK j (by omega) (e▸hl),Aas l (λtid Qr e=>(hvd tid Qr).2 (e▸hl))]
  show Ae (lN _ _ _ _).heap l=_
  rw [h2]
  refine GQ ?_
  show Ae (Qi (st1.heap.map λp=>(p.1,p.2.map (Aw dead part))) dead) l=_
  rw [Il,Js,if_neg (hpd l hl),sS l (λ⟨t,ht,_,e⟩=>QQ l hl t ht e),h3]
  rfl
 have UE: ∀j,j<s.Nu->s.outs.length<=j-> ∃tid,s.rp=some tid/\j=s.outs.length:= λj h1 h2=>by
  cases yl:s.rp with
  |none=>unfold MSpec.Nu at h1;rw [yl] at h1;simp at h1;omega
  |some tid=>exact ⟨tid,rfl,by have:=(QV tid yl).2;omega⟩
 have hHv: ∀tid,s.rp=some tid->Ae H' (Mx d)=some (.var tid ((Vr (Bw ks) 0 s.outs r).drop s.Tj)):= λtid Qr=>by
  show Ae (Qx _ _ _ _ _ _) _=_
  rw [n1 _ λj _ hj e=>hkv j (by omega) tid Qr e.symm,Afx tid Qr]
 suffices Abf:Ai X π' (fK st st1 d s pl tks r) a w'/\Ao X w' π' (fK st st1 d s pl tks r).heap av0 v by
  obtain ⟨m1,m2⟩:=Abf
  have kT: ∀(kj:List (Nat×Nat)) (l:Nat),l∈Vm st.heap ks tks kj->iy st.heap l=true/\ ∃k j t,(k,j)∈kj/\t∈tks/\t=(Bv false k,Loc.row l)/\ks[j]?=some l:=by
   intro kj
   induction kj with
   |nil=>intro l hl;cases hl
   |cons p kj ih=>
    intro l hl
    obtain ⟨k,j⟩:=p
    have up:l∈Vm st.heap ks tks kj->iy st.heap l=true/\ ∃k' j' t,(k',j')∈(k,j)::kj/\t∈tks/\t=(Bv false k',Loc.row l)/\ks[j']?=some l:= λhl=>by
     obtain ⟨h1,k',j',t,h2,h3⟩:=ih l hl
     exact ⟨h1,k',j',t,List.mem_cons_of_mem _ h2,h3⟩
    simp only [Vm] at hl
    split at hl
    ·rename_i x0 l1 l2 h1 h2
     split at hl
     ·rename_i hc
      simp only [Bool.and_eq_true] at hc
      rcases List.mem_cons.1 hl with rfl|hl
      ·have:=List.find?_some h1
       have e1:=Nat.eq_of_beq_eq_true this
       have e2:=Nat.eq_of_beq_eq_true hc.1
       dsimp only at e1
       exact ⟨hc.2,k,j,_,List.mem_cons_self,List.mem_of_find?_eq_some h1,by rw [e1],by rw [h2,e2]⟩
      ·exact up hl
     ·exact up hl
    ·exact up hl
  obtain ⟨r1,r2⟩:=zk h m1 (ls:=Vm st.heap ks tks s.keeps) (n:=s.Cv x) (λl hl=>by
   obtain ⟨_,k,j,t,h1,h2,h3,h4⟩:=kT s.keeps l hl
   have hj:j<ks.length:=(List.getElem?_eq_some_iff.1 h4).1
   have IN:Bw ks j=l:=by
    rw [Lk hj]
    rw [List.getElem?_eq_getElem hj] at h4
    exact Option.some.inj h4
   have pB:=qU (k,j) h1
   rw [show π' l=ρ (Fz j) by rw [<-IN];exact pA j (by omega),RC]
   have hc:πc (Bv false k)=(π l).map full:=Aaw k l (by rw [<-h3,<-OM];exact h2)
   dsimp only at pB
   rw [hc] at pB
   cases hp:π l<;>cases hq:vd (Fz j)<;>(rw [hp,hq] at pB;exact pB)) (λl hl=>(kT s.keeps l hl).1) Qq
  exact ⟨π',r1,r2 av0 v m2⟩
 refine ⟨?_,?_⟩
 ·have hx:=Ai.VM (π':=π') (H':=H') (dead:=dead) (part:=part) (inv:= λl=>(∃t∈Hc 0 s.ins as,t.2.reads=false/\t.2.Qa=l)\/l∈pl) (gv:= λb=>Ow πc b\/s.gv g b) h (λb hb=>by
    rcases hb with hb|hb
    ·obtain ⟨t,h1,h0,q,h2,h3,_⟩:=Za b hb
     exact ⟨_,q, .inl ⟨t,h1,h0,rfl⟩,h2,h3⟩
    ·obtain ⟨l,hl,q,h1,h2,_⟩:=EL b hb
     exact ⟨l,q, .inr hl,h1,h2⟩) QA (λl b0 hd h0=>⟨KU l hd,?_⟩) (λl b' hb hd=>?_) (λl hl=>?_) (λm q hd hp hm hxa=>?_)
  ·have:({tmps:=(lN s.ins (Vr (Bw ks) 0 s.outs r) pl (st1.Wp dead part)).tmps,heap:=H'} :St)= {tmps:=st.tmps.map (·.map (Aw dead part)),heap:=H'} :=by
    rw [km]
    show ({tmps:=st1.tmps.map (·.map (Aw dead part)),heap:=H'} :St)=_
    rw [q1]
   show Ai X π' ({tmps:=(lN s.ins (Vr (Bw ks) 0 s.outs r) pl (st1.Wp dead part)).tmps,heap:=H'} :St) a w'
   rw [this]
   exact hx
  ·by_cases QJ:l∈pl
   ·obtain ⟨p,q,h1,h2,h3,h4,h5,h6,h7⟩:=ES l QJ
    rw [h0] at h6;cases h6
    have pc:=TQ l QJ p h1
    refine .inr ⟨_,pc,⟨rfl,by rw [kc]⟩,λm=>?_⟩
    unfold fF at qP
    rw [h1] at qP
    obtain ⟨cs,k1,k2,k3⟩:=qP
    rw [<-h7] at k3
    refine ⟨q,h3,h4,cs.toArray,by rw [<-h5];exact k1,?_⟩
    refine Ia.to (eh (H:=st.heap) KU (λl1 b1 sz n hd1 JZ QS=>?_) s.ins 0 cells jf x us o st st1 (Vr (Bw ks) 0 s.outs r) Su cs (has▸hT) Abc (has▸WZ) k3 (n3 π' hD1 (λj _ hj=>pA j (by omega)))) (by simpa using k2)
    have hnp:l1∉pl:= λhp=>by
     obtain ⟨_,_,_,_,_,_,_,h8,_⟩:=ES l1 hp
     rw [JZ] at h8;cases h8;cases QS
    by_cases hi: ∃t∈Hc 0 s.ins as,t.2.reads=false/\t.2.Qa=l1
    ·obtain ⟨b1,b',e1,e2,e3,e4,e5,e6⟩:=hinv l1 hd1 hi
     rw [JZ] at e1;cases e1
     exact ⟨b',by rw [jC l1 hd1 hnp,e2];simp [e4],by rw [e5.row];exact QS⟩
    ·exact ⟨_,by rw [jC l1 hd1 hnp,sS l1 hi,JZ];rfl,by rw [OB.u7];exact QS⟩
   by_cases hi: ∃t∈Hc 0 s.ins as,t.2.reads=false/\t.2.Qa=l
   ·obtain ⟨b1,b',e1,e2,e3,e4,e5,e6⟩:=hinv l hd hi
    rw [h0] at e1;cases e1
    exact .inr ⟨b',by rw [jC l hd QJ,e2];simp [e4],by rw [e3];exact e5,λ_=>e6 π' H' hD1⟩
   ·exact .inl ⟨λhh=>hh.elim hi QJ,by rw [jC l hd QJ,sS l hi,h0];rfl⟩
  ·obtain ⟨j,hj,rfl⟩:=newAt l b' hb hd
   refine ⟨Ah3 j hj,?_,λq b hq=>?_⟩
   ·rw [pA j hj]
    rcases Nat.lt_or_ge j s.outs.length with ZV|ZV
    ·rcases n2 j (Nat.zero_le _) (by omega) with ⟨e1,_⟩|⟨b2,e1,e2⟩
     ·rw [show Ae H' (Bw ks j)=none from e1] at hb;cases hb
     ·rw [show Ae H' (Bw ks j)=some b2 from e1] at hb;cases hb
      exact e2 X π' H' (λhf q hq=>WB j hf q hq (VZ j q hq ZV)) hD1
    ·obtain ⟨tid,Qr,hj0⟩:=UE j hj ZV
     subst hj0
     rw [(QV tid Qr).1,hHv tid Qr] at hb;cases hb
     unfold mr at ao
     rw [Qr] at ao
     obtain ⟨q,y1,y2,y3,y4,_⟩:=ao
     rw [RC,y1]
     exact ⟨full q,rfl,y2,_,y3,Ia.to (Ia.take s.Tj (n3 π' hD1 (λj _ hj=>pA j (by omega)))).2 (by simpa using y4)⟩
   ·rw [pA j hj] at hq
    have Of:=TV _ q hq
    refine ⟨λhf=>by rw [Of];exact hf,λhf=>?_⟩
    rw [Of] at hf
    obtain ⟨h1,h2⟩:=KJ.Ss _ q b hq hf
    refine ⟨h1,h2.imp id ?_,λl2 r2 hd2 EO VX=>?_⟩
    ·rintro ⟨c,p,h3,h4,h5⟩
     obtain ⟨t,t1,t2,t0,p',t3,t4,_⟩:=Pg c p b h4 h5
     exact ⟨t.2.Qa,p',List.mem_append_left _ (List.mem_append_left _ (Zh.2 ⟨t,OM▸t1,⟨by rw [t2];exact h3,t0⟩,rfl⟩)),t3,t4⟩
    ·by_cases hk: ∃j,j<s.Nu/\l2=Bw ks j
     ·obtain ⟨j2,hj2,rfl⟩:=hk
      rw [pA j2 hj2] at EO
      rw [TV _ r2 EO] at VX
      have:=KJ.inj _ _ r2 q b EO hq VX hf
      unfold Fz at this
      have:j2=j:=by omega
      rw [this]
     ·have e0:π' l2=if l2∈dead then none else π l2:=sP l2 hk
      rw [e0] at EO
      split at EO
      ·cases EO
      ·rename_i QN
       rcases hd2 with hd2|hd2
       ·exact absurd hd2 QN
       ·rw [(h.1.heap l2).emp hd2] at EO;cases EO
  ·by_cases hk: ∃j,j<s.Nu/\l=Bw ks j
   ·obtain ⟨j,hj,rfl⟩:=hk
    rw [pA j hj]
    rcases Nat.lt_or_ge j s.outs.length with ZV|ZV
    ·rcases n2 j (Nat.zero_le _) (by omega) with ⟨_,e1⟩|⟨b2,e1,_⟩
     ·exact e1
     ·rw [show Ae H' (Bw ks j)=some b2 from e1] at hl;cases hl
    ·obtain ⟨tid,Qr,hj0⟩:=UE j hj ZV
     subst hj0
     rw [(QV tid Qr).1,hHv tid Qr] at hl;cases hl
   ·have e0:π' l=if l∈dead then none else π l:=sP l hk
    rw [e0]
    split
    ·rfl
    ·rename_i hd
     by_cases QJ:l∈pl
     ·obtain ⟨p,_,h1,_⟩:=ES l QJ
      rw [TQ l QJ p h1] at hl;cases hl
     rw [jC l hd QJ] at hl
     by_cases hi: ∃t∈Hc 0 s.ins as,t.2.reads=false/\t.2.Qa=l
     ·obtain ⟨_,b',_,e2,_⟩:=hinv l hd hi
      rw [e2] at hl;cases hl
     ·rw [sS l hi] at hl
      cases h0:Ae st.heap l with
      |none=>exact (h.1.heap l).emp h0
      |some b=>rw [h0] at hl;cases hl
  ·refine QA.block _ (h.1.lt hm).1 λza=>?_
   rcases za with ho|hg
   rotate_left
   ·obtain ⟨l,hl,q',h1,h2,_⟩:=EL _ hg
    have sQ:=h.1.apart hm h1 (h.1.Az hm) h2
    obtain ⟨_,_,_,_,_,_,_,h3,_⟩:=ES l hl
    obtain ⟨b,hxa,hxb⟩:=hxa
    rw [sQ,h3] at hxa;cases hxa
    exact hxb rfl
   obtain ⟨t,t1,t0,p,t3,t4,t5⟩:=Za _ ho
   have sQ:=h.1.apart hm t3 (h.1.Az hm) t4
   have hpq:p=q:=by rw [<-sQ,hm] at t3;exact (Option.some.inj t3).symm
   cases UP:t.2 with
   |row l=>
    refine hp ?_
    show m∈whole tks
    unfold whole
    exact List.mem_flatMap.2 ⟨t,OM▸t1,by rw [UP,sQ,UP];simp [Loc.Qa]⟩
   |sub l i j=>exact t5 l i j UP (by rw [hpq])
   |view l=>rw [UP] at t0;cases t0
 ·have Ahp:=n3 π' hD1 (λj _ hj=>pA j (by omega))
  cases yl:s.rp with
  |some tid=>
   unfold mr at ao
   rw [yl] at ao
   obtain ⟨q,y1,y2,y3,y4,rfl⟩:=ao
   unfold RX at cJ
   rw [yl] at cJ
   simp only [Option.some.injEq] at cJ;subst cJ
   refine ⟨full q,tid,_,hHv tid yl,?_,rfl⟩
   rw [<-(QV tid yl).1,pA _ (by have:=(QV tid yl).2;omega),RC,y1]
   rfl
  |none=>
  unfold mr at ao
  rw [yl] at ao
  obtain ⟨ao,Ahw⟩:=ao
  unfold RX at cJ
  rw [yl] at cJ
  simp only at cJ
  obtain ⟨g1,g2,g3,g4⟩:=Yw s.Gj _ (Su.drop s.Tj) Ahw (Ia.take s.Tj Ahp).2
  unfold Ada at cJ
  unfold MT at ao
  split at cJ
  ·rename_i hm
   rw [if_pos hm] at ao
   simp only [Option.some.injEq] at cJ;subst cJ
   subst ao
   exact ⟨_,rfl,g3.symm,g4⟩
  ·rename_i hm
   rw [if_neg hm] at ao
   split at cJ
   ·rename_i av1 hga
    simp only [Option.some.injEq] at cJ;subst cJ
    rcases ao with ao|ao
    ·exact g2 0 _ v (by rw [hga];rfl) (by rw [ao];rfl)
    ·rw [hga,ao] at g1;cases g1
   ·simp only [Option.some.injEq] at cJ;subst cJ;trivial
   ·cases cJ
end
end Go.Proofs.Ytjbdmibbbpdnnaa
