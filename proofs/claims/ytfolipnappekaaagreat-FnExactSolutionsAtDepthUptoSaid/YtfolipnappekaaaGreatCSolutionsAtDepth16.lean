/-
  Part 17 of the proof that the statement FnExactSolutionsAtDepth holds.
-/
import Derived.Test.YtfolipnappekaaaGreatCSolutionsAtDepth15
namespace Go.Proofs.YtfolipnappekaaaGreat
open Go.RowKit
section
variable {P:Program} {T:Tab} {X:Ctx} {w w':World} {π π':Pi} {H H':List (Nat×OB)}
theorem Wk (k:Nat): ¬Bu true k<Am:=by unfold Bu Am;simp
theorem bU {k:Nat} (h:k<100000):Bu false k<Am:=by unfold Bu Am;simp;omega
def jh (X:Ctx) (D:Nat->Prop) (w':World) (π:Pi) (H Hn:List (Nat×OB)) (l:Nat):Prop:=
 ∃b0 b',Ad H l=some b0/\Ad Hn l=some b'/\(∀f,OB.map f b0=b0)/\(∀f,OB.map f b'=b')/\b0.bE b'/\ ∀π' H',(∀b,Qi π' b\/X.Sc b->D b)->Av X w' π' H' (π l) b'
theorem VF {io:Bool} {k:Nat} {τ:Ty} {a:AC} {t:Nat×Loc} (h:t∈Lh io k (.Dn τ) a):t.1=Bu false k:=by
 cases a<;>simp [Lh,views] at h<;>first|(obtain ⟨_,⟨_,_⟩,rfl⟩:=h;rfl)|(rw [h])
theorem OG {io:Bool} {k:Nat} {e:Ty} {te:TypeId} {a:AC} {t:Nat×Loc} (h:t∈Lh io k (.part e te) a):t.1=Bu io k:=by cases a<;>simp [Lh] at h<;>rw [h]
theorem VG {io:Bool} {k:Nat} {e:Ty} {te:TypeId} {a:AC} {t:Nat×Loc} (h:t∈Lh io k (.row e te) a):t.1=Bu io k:=by cases a<;>simp [Lh] at h<;>rw [h]
theorem OH {io:Bool} {k:Nat} {e:Ty} {te:TypeId} {a:AC} {t:Nat×Loc} (h:t∈Lh io k (.Dv e te) a):t.1=Bu io k:=by cases a<;>simp [Lh] at h<;>rw [h]
theorem bq {D:Nat->Prop} {π':Pi} {fr:Bool} {e:Ty} {es:List Value} {y:e.den} (hD: ∀b,Qi π' b\/X.Sc b->D b) (h:Cells w' D e es y):Cells w' (Bj X.w0.heap.size X.Sc π' (fr&&e.flat)) e es y:=by
 cases hf:e.flat with
 |true=>exact Cells.flat e es y hf h
 |false=>exact Cells.Cn (Nat.le_refl _) (λ_ _ _=>rfl) (λb _ hb=>by
   rcases hb with hb|hb|⟨hb,_⟩
   ·exact hD b (.inl hb)
   ·exact hD b (.inr hb)
   ·simp at hb) e es y h
theorem OJ {D P:Nat->Prop} {g o:Nat} {cur:Array Value} {tr:Bool} {e:Ty} {xs:List e.den}
  (h: ∀(i:Nat) (x:e.den),xs[i]?=some x-> ∃es:List Value,es.length=e.size/\(∀j u,es[j]?=some u->cur[(o+i)*e.size+j]?=some u)/\Cells w' D e es x) (ht:(tr&&e.flat)=true):Rz w' P g o cur e xs:=by
 simp only [Bool.and_eq_true] at ht
 exact jF ht.2 h
theorem NH {D:Nat->Prop} (h:Im X w π H) {k:Nat} {c:CK} {ys:c.den} {a:AC} {u:Value} {r:Option Real} {x:c.den} {cur st1:St} (hs:w.heap.size<=w'.heap.size)
  (hU: ∀l i j q b,a= .sub l i j->π l=some q->q.Bg b->b<w.heap.size->(∀r',r=some r'-> ¬r'.Bg b)->w'.heap[b]?=w.heap[b]?)
  {V:List Nat} (ht:bg w (Jw X π V) r u c x/\Od w π H true a u r c x) (hr:ck w' D r c ys) (he:Yh cur c ys a=some st1) (cR: ∀t∈Lh true k c a,Ad cur.heap t.2.Rn=Ad H t.2.Rn):
  st1.tmps=cur.tmps/\(∀m,(∀t∈Lh true k c a,m≠t.2.Rn)->Ad st1.heap m=Ad cur.heap m)/\ ∀t∈Lh true k c a,jh X D w' π H st1.heap t.2.Rn:=by
 obtain ⟨hc,ht⟩:=ht
 cases c with
 |Dn τ=>cases a<;>simp [Yh] at he;subst he;exact ⟨rfl,λ_ _=>rfl,λt ht=>by simp [Lh] at ht⟩
 |row e te=>
  simp only [Od] at ht
  cases a<;>simp only [] at ht<;>first|(exact ht.elim)|skip
  ·simp only [Yh,Option.some.injEq] at he;subst he
   exact ⟨rfl,λ_ _=>rfl,λt ht=>by simp [Lh] at ht⟩
  ·rename_i l off len
   obtain ⟨rfl,rfl,rfl,fr,tr,hl⟩:=ht
   have Kw:Ad cur.heap l=some (.arr fr tr e te x):=(cR _ (List.mem_singleton.2 rfl)).trans hl
   simp only [Yh,St.at,Kw] at he
   split at he
   ·rename_i Fh
    obtain ⟨_,h1,_⟩:=Fh
    simp only [Option.some.injEq] at he;subst he
    refine ⟨rfl,λm hm=>Bv _ _ _ _ (hm _ (List.mem_singleton.2 rfl)),λt Qj=>?_⟩
    have Qj:=List.mem_singleton.1 Qj
    subst Qj
    refine ⟨_,_,hl,Cf _ _ _ _ Kw,λ_=>rfl,λ_=>rfl,⟨rfl,h1.symm⟩,λπ' H' hD=>?_⟩
    have hb:=(h.heap l).Ma hl
    change Av X w' π' H' (π l) _
    simp only [Av,Fu] at hb⊢
    cases hp:π l with
    |none=>rw [hp] at hr;exact hr
    |some q=>
     rw [hp] at hr hb
     obtain ⟨k1,cu,ti,k2,k3,k4,k5,k6⟩:=hr
     exact ⟨⟨k1.1,k1.2,λhh=>hb.1.2.2 (by simp only [Bool.and_eq_true] at hh;exact hh.1)⟩,cu,ti,k2,k3,k4,k5,λi y hy=>by
      obtain ⟨es,g1,g2,g3⟩:=k6 i y hy
      exact ⟨es,g1,g2,bq hD g3⟩,λht=>OJ k6 ht⟩
   ·cases he
  ·rename_i l i j
   obtain ⟨⟨_,hf⟩,tid,xs,hl,hx,q,hq,Qu,hre⟩:=ht
   have Kw:Ad cur.heap l=some (.Dg (.slice e) tid xs):=(cR _ (List.mem_singleton.2 rfl)).trans hl
   simp only [Yh,St.at,Kw,hx] at he
   rw [dif_pos trivial] at he
   ·split at he
    ·rename_i h1
     simp only [Option.some.injEq] at he;subst he
     refine ⟨rfl,λm hm=>Bv _ _ _ _ (hm _ (List.mem_singleton.2 rfl)),λt Qj=>?_⟩
     have Qj:=List.mem_singleton.1 Qj
     subst Qj
     refine ⟨_,_,hl,Cf _ _ _ _ Kw,λ_=>rfl,λ_=>rfl,⟨rfl,by simp⟩,λπ' H' _=>?_⟩
     show Jg w' (π l) (.slice e) tid _
     rw [hq]
     refine hre w' ys hs (λb Ey hb hn=>hU l i j q b rfl hq hb Ey hn) ?_
     have hv:=hc.1
     rw [<-show List.length ys=List.length x from h1] at hv
     exact No.HM hr hf hv
    ·cases he
 |Dv e te=>
  simp only [Od] at ht
  cases a<;>simp only [] at ht<;>first|(exact ht.elim)|skip
  ·simp only [Yh,Option.some.injEq] at he;subst he
   exact ⟨rfl,λ_ _=>rfl,λt ht=>by simp [Lh] at ht⟩
  ·rename_i l off len
   obtain ⟨rfl,rfl,rfl,hl⟩:=ht
   have Kw:Ad cur.heap l=some (.Dg e te x):=(cR _ (List.mem_singleton.2 rfl)).trans hl
   simp only [Yh,St.at,Kw] at he
   split at he
   ·rename_i Fh
    obtain ⟨_,h1,_⟩:=Fh
    simp only [Option.some.injEq] at he;subst he
    refine ⟨rfl,λm hm=>Bv _ _ _ _ (hm _ (List.mem_singleton.2 rfl)),λt Qj=>?_⟩
    have Qj:=List.mem_singleton.1 Qj
    subst Qj
    refine ⟨_,_,hl,Cf _ _ _ _ Kw,λ_=>rfl,λ_=>rfl,⟨rfl,h1.symm⟩,λπ' H' _=>?_⟩
    show Jg w' (π l) e te _
    cases hp:π l with
    |none=>rw [hp] at hr;exact hr
    |some q=>rw [hp] at hr;exact hr
   ·cases he
  ·rename_i l i j
   obtain ⟨_,tid,xs,hl,hx,q,hq,Qu,hre⟩:=ht
   have Kw:Ad cur.heap l=some (.Dg (.slice e) tid xs):=(cR _ (List.mem_singleton.2 rfl)).trans hl
   simp only [Yh,St.at,Kw,hx] at he
   rw [dif_pos trivial] at he
   ·split at he
    ·rename_i h1
     simp only [Option.some.injEq] at he;subst he
     refine ⟨rfl,λm hm=>Bv _ _ _ _ (hm _ (List.mem_singleton.2 rfl)),λt Qj=>?_⟩
     have Qj:=List.mem_singleton.1 Qj
     subst Qj
     refine ⟨_,_,hl,Cf _ _ _ _ Kw,λ_=>rfl,λ_=>rfl,⟨rfl,by simp⟩,λπ' H' _=>?_⟩
     show Jg w' (π l) (.slice e) tid _
     rw [hq]
     refine hre w' ys hs (λb Ey hb hn=>hU l i j q b rfl hq hb Ey hn) ?_
     have hv:=hc.1
     rw [<-show List.length ys=List.length x from h1] at hv
     exact Jg.HM (te:=te) hr hv
    ·cases he
 |part e te=>cases a<;>simp [Yh] at he<;>first|(simp only [Od] at ht;exact ht.2.elim)
 |Al e te kp=>exact absurd ht.1 (by simp)
theorem NI {D:Nat->Prop} (h:Im X w π H) {k:Nat} {e:Ty} {te:TypeId} {ys:List e.den} {a:AC} {u:Value} {r:Option Real} {x:(CK.part e te).den} {cur st1:St}
  {V:List Nat} (ht:bg w (Jw X π V) r u (.part e te) x/\Od w π H true a u r (.part e te) x) (hr:ck w' D r (.row e te) ys) (he:FY cur e ys a=some st1) (cR: ∀t∈Lh true k (.part e te) a,Ad cur.heap t.2.Rn=Ad H t.2.Rn):
  st1.tmps=cur.tmps/\(∀m,(∀t∈Lh true k (.part e te) a,m≠t.2.Rn)->Ad st1.heap m=Ad cur.heap m)/\ ∀t∈Lh true k (.part e te) a,jh X D w' π H st1.heap t.2.Rn:=by
 obtain ⟨hc,hf,ht⟩:=ht
 cases a<;>simp only [] at ht<;>first|(exact ht.elim)|skip
 rename_i l off len
 obtain ⟨rfl,_,fr,tr,hl⟩:=ht
 have Kw:Ad cur.heap l=some (.arr fr tr e te x.1):=(cR _ (List.mem_singleton.2 rfl)).trans hl
 simp only [FY,St.at,Kw] at he
 split at he
 ·rename_i Fh
  obtain ⟨_,h1⟩:=Fh
  simp only [Option.some.injEq] at he;subst he
  refine ⟨rfl,λm hm=>Bv _ _ _ _ (hm _ (List.mem_singleton.2 rfl)),λt Qj=>?_⟩
  have Qj:=List.mem_singleton.1 Qj
  subst Qj
  refine ⟨_,_,hl,Cf _ _ _ _ Kw,λ_=>rfl,λ_=>rfl,⟨rfl,h1.symm⟩,λπ' H' _=>?_⟩
  have hb:=(h.heap l).Ma hl
  change Av X w' π' H' (π l) _
  simp only [Av,Fu] at hb⊢
  cases hp:π l with
  |none=>rw [hp] at hr;exact hr
  |some q=>
   rw [hp] at hr hb
   obtain ⟨k1,cu,ti,k2,k3,k4,k5,k6⟩:=hr
   exact ⟨⟨k1.1,k1.2,hb.1.2.2⟩,cu,ti,k2,k3,k4,k5,λi y hy=>by
    obtain ⟨es,g1,g2,g3⟩:=k6 i y hy
    exact ⟨es,g1,g2,Cells.flat e es y hf g3⟩,λ_=>jF hf k6⟩
 ·cases he
def ov (X:Ctx) (D:Nat->Prop) (w':World) (π:Pi) (H:List (Nat×OB)) (tk:List (Nat×Loc)) (cur st1:St):Prop:=
 st1.tmps=cur.tmps/\(∀m,(∀t∈tk,m≠t.2.Rn)->Ad st1.heap m=Ad cur.heap m)/\(∀t∈tk,t.1<Am->Ad st1.heap t.2.Rn=Ad cur.heap t.2.Rn)/\(∀t∈tk,¬t.1<Am->jh X D w' π H st1.heap t.2.Rn)
theorem qB {D:Nat->Prop} (h:Im X w π H) {V:List Nat} {πc:Pi} {tks:List (Nat×Loc)} (hs:w.heap.size<=w'.heap.size)
  (hU: ∀t∈tks,∀q b,π t.2.Rn=some q->q.Bg b->b<w.heap.size->(∀r',πc t.1=some r'-> ¬r'.Bg b)->w'.heap[b]?=w.heap[b]?):
  ∀(cs:List (Bool×CK)) (k:Nat) (x:Ins.den cs) (as:List AC) (us:List Value) (o:IOs.den cs) (cur st1:St),k+cs.length<100000->(∀t∈Hf k cs as,t∈tks)->((Hf k cs as).map λt=>t.2.Rn).Nodup->
   nL X w π V H πc k cs x as us->Hm w' D πc k cs o->Ef cs o as cur=some st1->(∀t∈Hf k cs as,Ad cur.heap t.2.Rn=Ad H t.2.Rn)->
   ov X D w' π H (Hf k cs as) cur st1
 | [],k,x,as,us,o,cur,st1,_,_,_,_,_,he,_=>by
  simp only [Ef,Option.some.injEq] at he;subst he
  have e0:Hf k [] as= []:=by cases as<;>rfl
  exact ⟨rfl,λ_ _=>rfl,by rw [e0];simp,by rw [e0];simp⟩
 |p::r,k,x,[],us,o,cur,st1,_,_,_,ht,_,_,_=>ht.elim
 |p::r,k,x,a::as,[],o,cur,st1,_,_,_,ht,_,_,_=>ht.elim
 |(io,c)::r,k,x,a::as,u::us,o,cur,st1,hk,Kx,JK,ht,ho,he,cR=>by
  simp only [List.length_cons] at hk
  simp only [Hf] at Kx JK cR⊢
  rw [List.map_append] at JK
  obtain ⟨n1,n2,n3⟩:=List.nodup_append.1 JK
  have apart: ∀t∈Lh io k c a,∀t'∈Hf (k+1) r as,t'.2.Rn≠t.2.Rn:= λt h1 t' h2 e=>n3 _ (List.mem_map.2 ⟨t,h1,rfl⟩) _ (List.mem_map.2 ⟨t',h2,rfl⟩) e.symm
  have rest: ∀(Uy:St) (o':IOs.den r),Hm w' D πc (k+1) r o'->Ef r o' as Uy=some st1->Uy.tmps=cur.tmps->(∀m,(∀t∈Lh io k c a,m≠t.2.Rn)->Ad Uy.heap m=Ad cur.heap m)->
    (∀t∈Lh io k c a,t.1<Am->Ad Uy.heap t.2.Rn=Ad cur.heap t.2.Rn)->(∀t∈Lh io k c a,¬t.1<Am->jh X D w' π H Uy.heap t.2.Rn)->
    ov X D w' π H (Lh io k c a++Hf (k+1) r as) cur st1:=by
   intro Uy o' h1 h2 h3 h4 h5 h6
   obtain ⟨g1,g2,g3,g4⟩:=qB h hs hU r (k+1) x.2 as us o' Uy st1 (by omega) (λt ht=>Kx t (List.mem_append_right _ ht)) n2 ht.2 h1 h2 (λt Qj=>by
    rw [h4 _ λt0 ht0=>apart t0 ht0 t Qj];exact cR t (List.mem_append_right _ Qj))
   have hd: ∀t∈Lh io k c a,Ad st1.heap t.2.Rn=Ad Uy.heap t.2.Rn:= λt Qj=>g2 _ λt' ud=>(apart t Qj t' ud).symm
   refine ⟨g1.trans h3,λm hm=>?_,λt Qj Ey=>?_,λt Qj Ey=>?_⟩
   ·rw [g2 m λt ht=>hm t (List.mem_append_right _ ht),h4 m λt ht=>hm t (List.mem_append_left _ ht)]
   ·rcases List.mem_append.1 Qj with Qj|Qj
    ·rw [hd t Qj,h5 t Qj Ey]
    ·rw [g3 t Qj Ey,h4 _ λt0 ht0=>apart t0 ht0 t Qj]
   ·rcases List.mem_append.1 Qj with Qj|Qj
    ·obtain ⟨b0,b',q1,q2,q3⟩:=h6 t Qj Ey
     exact ⟨b0,b',q1,(hd t Qj).trans q2,q3⟩
    ·exact g4 t Qj Ey
  have same: ∀o',Hm w' D πc (k+1) r o'->Ef r o' as cur=some st1->(∀t∈Lh io k c a,t.1<Am)->ov X D w' π H (Lh io k c a++Hf (k+1) r as) cur st1:= λo' h1 h2 h3=>rest cur o' h1 h2 rfl (λ_ _=>rfl) (λ_ _ _=>rfl) (λt h4 h5=>absurd (h3 t h4) h5)
  cases io with
  |false=>
   have h3: ∀t∈Lh false k c a,t.1<Am:= λt h4=>by rcases BD h4 with ⟨h5,_⟩|⟨h5,_⟩<;>(rw [h5];exact bU (by omega))
   cases c with
   |Dn τ=>exact same o ho (by simpa only [Ef] using he) h3
   |row e te=>exact same o ho (by simpa only [Ef] using he) h3
   |Dv e te=>exact same o ho (by simpa only [Ef] using he) h3
   |part e te=>exact same o ho (by simpa only [Ef] using he) h3
   |Al e te kp=>exact same o ho (by simpa only [Ef] using he) h3
  |true=>
   have row: ∀(ys:c.den) (o':IOs.den r),(∀t∈Lh true k c a,t.1=Bu true k)->ck w' D (πc (Bu true k)) c ys->Hm w' D πc (k+1) r o'->(∃Uy,Yh cur c ys a=some Uy/\Ef r o' as Uy=some st1)->ov X D w' π H (Lh true k c a++Hf (k+1) r as) cur st1:=by
    intro ys o' h0 h1 h2 h3
    obtain ⟨Uy,hp,h3⟩:=h3
    ·obtain ⟨q1,q2,q3⟩:=NH (k:=k) h hs (λl i j q b ea hq hb Ey hn=>by
      cases c with
      |Dn τ=>exact absurd (ht.1.2:πc _=none) (by subst ea;simp [Yh] at hp)
      |row e te=>subst ea;exact hU (Bu true k, .sub l i j) (Kx _ (List.mem_append_left _ (List.mem_singleton.2 rfl))) q b hq hb Ey hn
      |Dv e te=>subst ea;exact hU (Bu true k, .sub l i j) (Kx _ (List.mem_append_left _ (List.mem_singleton.2 rfl))) q b hq hb Ey hn
      |Al e te kp=>exact absurd ht.1.2.1 (by simp)
      |part e te=>exact absurd ht.1.2.2 (by subst ea;exact λh=>h)) ht.1 h1 hp (λt Qj=>cR t (List.mem_append_left _ Qj))
     exact rest Uy o' h2 h3 q1 q2 (λt h4 h5=>absurd h5 (by rw [h0 t h4];exact Wk k)) (λt h4 _=>q3 t h4)
   cases c with
   |Dn τ=>exact same o ho (by simpa only [Ef] using he) (λt h4=>by rw [VF h4];exact bU (by omega))
   |Al e te kp=>exact absurd ht.1.2.1 (by simp)
   |row e te=>
    simp only [Ef] at he
    split at he
    ·rename_i Uy hp;exact row o.1 o.2 (λt ht=>VG ht) ho.1 ho.2 ⟨Uy,hp,he⟩
    ·cases he
   |Dv e te=>
    simp only [Ef] at he
    split at he
    ·rename_i Uy hp;exact row o.1 o.2 (λt ht=>OH ht) ho.1 ho.2 ⟨Uy,hp,he⟩
    ·cases he
   |part e te=>
    simp only [Ef] at he
    split at he
    ·rename_i Uy hp
     obtain ⟨q1,q2,q3⟩:=NI (k:=k) h ht.1 ho.1 hp (λt Qj=>cR t (List.mem_append_left _ Qj))
     exact rest Uy o.2 ho.2 he q1 q2 (λt h4 h5=>absurd h5 (by rw [OG h4];exact Wk k)) (λt h4 _=>q3 t h4)
    ·cases he
theorem EZ {fr:Bool} {c:CK} {x:c.den} {u:Value} {r:Option Real} {D:Nat->Prop} (h:bg w' D r u c x):
  (su fr c x=none/\r=none)\/ ∃b',su fr c x=some b'/\ ∀(X:Ctx) π' H',(fr=true-> ∀q,r=some q->X.w0.heap.size<=q.g)->(∀b,Qi π' b\/X.Sc b->D b)->Av X w' π' H' r b':=by
 cases c with
 |Dn τ=>exact .inl ⟨rfl,h.1⟩
 |row e te=>
  refine .inr ⟨_,rfl,λX π' H' yX hD=>?_⟩
  obtain ⟨_,h⟩:=h
  simp only [ck] at h
  simp only [Av,Fu]
  cases r with
  |none=>exact h
  |some q=>
   obtain ⟨k1,cu,ti,k2,k3,k4,k5,k6⟩:=h
   exact ⟨⟨k1.1,k1.2,λh1=>yX (by simp only [Bool.and_eq_true] at h1;exact h1.1) q rfl⟩,cu,ti,k2,k3,k4,k5,λi y hy=>by
    obtain ⟨es,g1,g2,g3⟩:=k6 i y hy
    exact ⟨es,g1,g2,bq hD g3⟩,λh=>by cases h⟩
 |Dv e te=>exact .inr ⟨_,rfl,λX π' H' _ _=>h.2⟩
 |Al e te kp=>exact .inr ⟨_,rfl,λX π' H' _ hD=>⟨Vi.En h.2 λb hb=>hD b (hb.imp id λh=>h.elim id λh=>by cases h.1),trivial⟩⟩
 |part e te=>
  refine .inr ⟨_,rfl,λX π' H' yX hD=>?_⟩
  obtain ⟨_,hf,h⟩:=h
  simp only [Av,Fu]
  cases r with
  |none=>exact h
  |some q=>
   obtain ⟨k1,cu,ti,k2,k3,k4,k5,k6⟩:=h
   exact ⟨⟨k1.1,k1.2,λh1=>yX (by simp only [Bool.and_eq_true] at h1;exact h1.1) q rfl⟩,cu,ti,k2,k3,k4,k5,λi y hy=>by
    obtain ⟨es,g1,g2,g3⟩:=k6 i y hy
    exact ⟨es,g1,g2,bq hD g3⟩,λh=>by cases h⟩
theorem nq {D:Nat->Prop} {key:Nat->Nat} (RG: ∀i j,key i=key j->i=j) {fr:Bool} {ρ:Pi} : ∀(cs:List CK) (k:Nat) (x:CKs.den cs) (us:List Value) (H:List (Nat×OB)),Ez w' D ρ k cs x us->
  (∀j,k<=j->j<k+cs.length->Ad H (key j)=none)->
  (∀l,(∀j,k<=j->j<k+cs.length->l≠key j)->Ad (Ss fr key k cs x H) l=Ad H l)/\
  (∀j,k<=j->j<k+cs.length->(Ad (Ss fr key k cs x H) (key j)=none/\ρ (Fy j)=none)\/
   ∃b',Ad (Ss fr key k cs x H) (key j)=some b'/\ ∀(X:Ctx) π' H',(fr=true-> ∀q,ρ (Fy j)=some q->X.w0.heap.size<=q.g)->(∀b,Qi π' b\/X.Sc b->D b)->Av X w' π' H' (ρ (Fy j)) b')/\
  (∀π',(∀b,Qi π' b\/X.Sc b->D b)->(∀j,k<=j->j<k+cs.length->π' (key j)=ρ (Fy j))->Io X w' π' (Ss fr key k cs x H) (Xq key k cs x) us)
 | [],k,x,[],H,_,_=>⟨λ_ _=>rfl,λj h1 h2=>by simp at h2;omega,λ_ _ _=>trivial⟩
 | [],_,_,_::_,_,h,_=>h.elim
 |_::_,_,_,[],_,h,_=>h.elim
 |c::r,k,x,u::us,H,h,hn=>by
  simp only [List.length_cons] at hn⊢
  simp only [Ss,Xq]
  have w6:=hn k (Nat.le_refl _) (by omega)
  have hH1: ∀l,l≠key k->Ad (ze H (key k) (su fr c x.1)) l=Ad H l:=by
   intro l hl
   cases su fr c x.1 with
   |some b=>exact Kk _ _ _ _ hl
   |none=>rfl
  have Afu:Ad (ze H (key k) (su fr c x.1)) (key k)=su fr c x.1:=by
   cases su fr c x.1 with
   |some b=>exact Lj _ _ _ w6
   |none=>exact w6
  generalize (ze H (key k) (su fr c x.1))=H1 at hH1 Afu⊢
  obtain ⟨g1,g2,g3⟩:=nq RG (fr:=fr) r (k+1) x.2 us H1 h.2 (λj h1 h2=>by
   rw [hH1 _ λe=>by have:=RG _ _ e;omega];exact hn j (by omega) (by omega))
  have WD:Ad (Ss fr key (k+1) r x.2 H1) (key k)=su fr c x.1:=by
   rw [g1 _ λj h1 h2 e=>by have:=RG _ _ e;omega];exact Afu
  refine ⟨λl hl=>?_,λj h1 h2=>?_,λπ' hd hπ=>⟨?_,?_⟩⟩
  ·rw [g1 l λj h1 h2=>hl j (by omega) (by omega)]
   exact hH1 l (hl k (Nat.le_refl _) (by omega))
  ·rcases Nat.eq_or_lt_of_le h1 with e|h1
   ·subst e
    rw [WD]
    exact EZ h.1
   ·exact g2 j h1 (by omega)
  ·have h1:=h.1
   have hpk:=hπ k (Nat.le_refl _) (by omega)
   cases c with
   |Dn τ=>
    obtain ⟨dr,c1,c2⟩:=h1.2
    exact ⟨dr,by have:=bq (fr:=true) hd c1;simpa using this,c2⟩
   |row e te=>exact ⟨_,e.size,List.length x.1,WD,rfl,by simp,by rw [hpk];exact h1.1⟩
   |Dv e te=>exact ⟨_,e.size,List.length x.1,WD,rfl,by simp,by rw [hpk];exact h1.1⟩
   |Al e te kp=>exact ⟨_,1,List.length x.1,WD,rfl,by simp,by rw [hpk];exact h1.1⟩
   |part e te=>trivial
  ·exact g3 π' hd λj h1 h2=>hπ j (by omega) (by omega)
theorem EN {ks:List Nat} {n:Nat} (h:wv ks n=true):ks.length=n/\ks.Nodup/\ ∀l∈ks,l<Am:=by
 unfold wv at h
 simp only [Bool.and_eq_true] at h
 refine ⟨Nat.eq_of_beq_eq_true h.1,Sr h.2.1,λl hl=>?_⟩
 have:=List.all_eq_true.1 h.2.2 l hl
 simpa using this
theorem Mf {ks:List Nat} {j:Nat} (h:j<ks.length):Bz ks j=ks[j]:=by
 unfold Bz
 rw [List.getElem?_eq_getElem h]
theorem yu {ks:List Nat} (hn:ks.Nodup) (hl: ∀l∈ks,l<Am): ∀i j,Bz ks i=Bz ks j->i=j:=by
 intro i j h
 by_cases hi:i<ks.length
 ·by_cases hj:j<ks.length
  ·rw [Mf hi,Mf hj] at h
   rcases Nat.lt_trichotomy i j with Ey|he|Ey
   ·exact absurd h (List.pairwise_iff_getElem.1 hn i j hi hj Ey)
   ·exact he
   ·exact absurd h.symm (List.pairwise_iff_getElem.1 hn j i hj hi Ey)
  ·have h1:=hl _ (List.getElem_mem hi)
   rw [Mf hi] at h
   unfold Bz at h
   rw [List.getElem?_eq_none (by omega)] at h
   simp only at h
   omega
 ·by_cases hj:j<ks.length
  ·have h1:=hl _ (List.getElem_mem hj)
   rw [Mf hj] at h
   unfold Bz at h
   rw [List.getElem?_eq_none (by omega)] at h
   simp only at h
   omega
  ·unfold Bz at h
   rw [List.getElem?_eq_none (by omega),List.getElem?_eq_none (by omega)] at h
   simp only at h
   omega
theorem Ja: ∀(H:List (Nat×OB)) (dead:List Nat) (l:Nat),Ad (Se H dead) l=if l∈dead then none else Ad H l
 | [],dead,l=>by simp [Se,Ad]
 |(k,b)::r,dead,l=>by
  simp only [Se]
  have ih:=Ja r dead l
  by_cases hk:k∈dead
  ·rw [if_pos (by simpa using hk),ih]
   split
   ·rfl
   ·rename_i hl
    simp only [Ad]
    rw [if_neg (λ(e:k=l)=>hl (e▸hk))]
  ·rw [if_neg (by simpa using hk)]
   simp only [Ad]
   split
   ·rename_i e;subst e;rw [if_neg hk]
   ·exact ih
theorem mem_keys {ks:List Nat} {l:Nat} :l∈ks↔ ∃k,k<ks.length/\l=Bz ks k:=
 ⟨λh=>by obtain ⟨k,hk,e⟩:=List.getElem_of_mem h;exact ⟨k,hk,by rw [Mf hk,e]⟩,λ⟨k,hk,e⟩=>by rw [e,Mf hk];exact List.getElem_mem hk⟩
theorem aM {tks:List (Nat×Loc)} {l:Nat} :l∈jv tks↔ ∃t∈tks,(t.1<Am/\t.2.reads=false)/\t.2.Rn=l:=by
 unfold jv
 simp only [List.mem_map,List.mem_filter,Bool.and_eq_true,Nat.blt_eq,Bool.not_eq_true']
 exact ⟨λ⟨t,⟨h1,h2⟩,h3⟩=>⟨t,h1,h2,h3⟩,λ⟨t,h1,h2,h3⟩=>⟨t,⟨h1,h2⟩,h3⟩⟩
theorem wx {tks:List (Nat×Loc)} (h:(tks.map λt=>t.2.Rn).Nodup) {t t':Nat×Loc} (ht:t∈tks) (ud:t'∈tks) (he:t.2.Rn=t'.2.Rn):t=t':=by
 induction tks with
 |nil=>cases ht
 |cons a r ih=>
  simp only [List.map_cons] at h
  obtain ⟨h1,h2⟩:=List.nodup_cons.1 h
  rcases List.mem_cons.1 ht with rfl|ht<;>rcases List.mem_cons.1 ud with rfl|ud
  ·rfl
  ·exact (h1 (List.mem_map.2 ⟨t',ud,he.symm⟩)).elim
  ·exact (h1 (he▸List.mem_map.2 ⟨t,‹t∈r›,rfl⟩)).elim
  ·exact ih h2 ht ud
theorem Ez.full {D:Nat->Prop} {ρ:Pi} : ∀(cs:List CK) (k:Nat) (x:CKs.den cs) (us:List Value),Ez w D ρ k cs x us->Ez w D (λl=>(ρ l).map full) k cs x us
 | [],_,_,[],h=>h
 | [],_,_,_::_,h=>h.elim
 |_::_,_,_,[],h=>h.elim
 |c::r,k,x,u::us,h=>⟨by
   have h1:=h.1
   show bg w D ((ρ (Fy k)).map _) u c x.1
   cases c with
   |Dn τ=>rw [h1.1];exact ⟨rfl,h1.2⟩
   |row e te=>cases hp:ρ (Fy k)<;>(rw [hp] at h1;exact h1)
   |Dv e te=>cases hp:ρ (Fy k)<;>(rw [hp] at h1;exact h1)
   |Al e te kp=>cases hp:ρ (Fy k)<;>(rw [hp] at h1;exact h1)
   |part e te=>cases hp:ρ (Fy k)<;>(rw [hp] at h1;exact h1),Ez.full r (k+1) x.2 us h.2⟩
theorem Ez.ZP {D:Nat->Prop} {ρ:Pi} : ∀(cs:List CK) (k0:Nat) (x:CKs.den cs) (us:List Value),Ez w D ρ k0 cs x us-> ∀j,k0<=j->j<k0+cs.length-> ∀q,ρ (Fy j)=some q->q.Bg q.g
 | [],k0,_,_,_,j,h1,h2,_,_=>by simp at h2;omega
 |_::_,_,_,[],h,_,_,_,_,_=>h.elim
 |c::r,k0,x,u::us,ho,j,h1,h2,q,hq=>by
  rcases Nat.eq_or_lt_of_le h1 with e|h1
  ·subst e
   have:=ho.1
   cases c with
   |Dn τ=>rw [hq] at this;cases this.1
   |row e te=>rw [hq] at this;exact this.2.1.1
   |Dv e te=>rw [hq] at this;exact this.2.1
   |part e te=>rw [hq] at this;exact this.2.2.1.1
   |Al e te kp=>rw [hq] at this;exact this.2.1
  ·exact Ez.ZP r (k0+1) x.2 us ho.2 j h1 (by simp at h2;omega) q hq
theorem No.any {D D':Nat->Prop} {r:Option Real} {e:Ty} {xs:List e.den} (hf:e.flat=true) (h:No w D r e xs):No w D' r e xs:=by
 cases r with
 |none=>exact h
 |some r=>
  obtain ⟨k1,cu,ti,k2,k3,k4,k5,k6⟩:=h
  exact ⟨k1,cu,ti,k2,k3,k4,k5,λi y hy=>by
   obtain ⟨es,g1,g2,g3⟩:=k6 i y hy
   exact ⟨es,g1,g2,Cells.flat e es y hf g3⟩⟩
theorem Ez.any {D D':Nat->Prop} {ρ:Pi} : ∀(cs:List CK) (k:Nat) (x:CKs.den cs) (us:List Value),cs.all (·.flat)=true->Ez w D ρ k cs x us->Ez w D' ρ k cs x us
 | [],_,_,[],_,h=>h
 | [],_,_,_::_,_,h=>h.elim
 |_::_,_,_,[],_,h=>h.elim
 |c::r,k,x,u::us,hf,h=>by
  simp only [List.all_cons,Bool.and_eq_true] at hf
  refine ⟨?_,Ez.any r (k+1) x.2 us hf.2 h.2⟩
  have h1:=h.1
  cases c with
  |Dn τ=>exact ⟨h1.1,Bc.flat hf.1 h1.2⟩
  |row e te=>exact ⟨h1.1,No.any hf.1 h1.2⟩
  |Dv e te=>exact h1
  |part e te=>exact ⟨h1.1,h1.2.1,No.any hf.1 h1.2.2⟩
  |Al e te kp=>exact absurd hf.1 (by simp [CK.flat])
theorem Hm.any {D D':Nat->Prop} {π:Pi} : ∀(cs:List (Bool×CK)) (k:Nat) (x:IOs.den cs),(cs.all λp=>!p.1||p.2.flat)=true->Hm w D π k cs x->Hm w D' π k cs x
 | [],_,_,_,h=>h
 |(false,_)::r,k,x,hf,h=>Hm.any r (k+1) x (by simp only [List.all_cons,Bool.and_eq_true] at hf;exact hf.2) h
 |(true, .Dn _)::r,k,x,hf,h=>Hm.any r (k+1) x (by simp only [List.all_cons,Bool.and_eq_true] at hf;exact hf.2) h
 |(true, .Al _ _ _)::r,k,x,hf,h=>Hm.any r (k+1) x (by simp only [List.all_cons,Bool.and_eq_true] at hf;exact hf.2) h
 |(true, .row e te)::r,k,x,hf,h=>by
  simp only [List.all_cons,Bool.and_eq_true,Bool.not_true,Bool.false_or] at hf
  exact ⟨No.any hf.1 h.1,Hm.any r (k+1) x.2 hf.2 h.2⟩
 |(true, .Dv e te)::r,k,x,hf,h=>by
  simp only [List.all_cons,Bool.and_eq_true,Bool.not_true,Bool.false_or] at hf
  exact ⟨h.1,Hm.any r (k+1) x.2 hf.2 h.2⟩
 |(true, .part e te)::r,k,x,hf,h=>by
  simp only [List.all_cons,Bool.and_eq_true,Bool.not_true,Bool.false_or] at hf
  exact ⟨No.any hf.1 h.1,Hm.any r (k+1) x.2 hf.2 h.2⟩
theorem qf {tks:List (Nat×Loc)} {l:Nat} :l∈xG tks↔ ∃t∈tks,t.2.reads=true/\t.2.Rn=l:=by
 unfold xG
 simp only [List.mem_map,List.mem_filter]
 exact ⟨λ⟨t,⟨h1,h2⟩,h3⟩=>⟨t,h1,h2,h3⟩,λ⟨t,h1,h2,h3⟩=>⟨t,⟨h1,h2⟩,h3⟩⟩
theorem Ak.kq {st:St} {a:Act} (h:Ak X π st a w) {f:AC->AC} (hu:f .undef= .undef) {gv:Nat->Prop} (LM: ∀b,gv b->Qi π b) (hb:Gg w.heap.size gv w w')
  (aG: ∀b,b<w.heap.size->Qi π' b->Qi π b)
  (Kx: ∀l r b,π' l=some r->r.Bg b->r.cl b) (Acn: ∀l r b,π' l=some r->r.cl b->(X.w0.heap.size<=b\/X.gv b)/\b<w'.heap.size)
  (Alz: ∀l l' r r' b,π' l=some r->π' l'=some r'->r.cl b->r'.cl b->l=l')
  (Uz: ∀l,Am<=l->Ad H' l≠none->Wx (X.cW l) (π' l))
  (hac:(∀fr τ cs x,Cells w (Bj X.w0.heap.size X.Sc π fr) τ cs x->Cells w' (Bj X.w0.heap.size X.Sc π' fr) τ cs x)-> ∀c v,Dw X w π st.heap c v->Dw X w' π' H' (f c) v)
  (XF:Move X w w' π π' st.heap H' f-> ∀l b,Ad H' l=some b->Av X w' π' H' (π' l) b)
  (JL: ∀l,Ad H' l=none->π' l=none):
  Ak X π' {tmps:=st.tmps.map (·.map f),heap:=H'} a w':=by
 have hc: ∀fr τ cs x,Cells w (Bj X.w0.heap.size X.Sc π fr) τ cs x->Cells w' (Bj X.w0.heap.size X.Sc π' fr) τ cs x:= λfr τ cs x hh=>
  Cells.Cn hb.size (λk hk hn=>hb.block k hk λhg=>hn (.inl (LM k hg))) (λk Ey hA=>hA.imp (aG k Ey) id) τ cs x hh
 have m:Move X w w' π π' st.heap H' f:=⟨hac hc,hc⟩
 refine ⟨⟨⟨hb.os.trans h.1.below.os,hb.tape.trans h.1.below.tape,hb.output.trans h.1.below.output,Nat.le_trans h.1.below.size hb.size,λk hk hn=>?_⟩,h.1.sc,Kx,Acn,Alz,Uz,λl=>?_⟩,m.GD hu h.2⟩
 ·refine (hb.block k (Nat.lt_of_lt_of_le hk h.1.below.size) λhg=>?_).trans (h.1.below.block k hk hn)
  rcases (h.1.own (LM k hg)).2 with h1|h1
  ·omega
  ·exact hn h1
 ·cases hh:Ad H' l with
  |none=>exact Cx.Oq (JL l hh) hh
  |some b=>exact Cx.Hc (XF m l b hh) hh
def cm:Option Real->Option Real->Prop
 |none,none=>True
 |some r,some r'=>r.g=r'.g/\r.o=r'.o/\r.cap=r'.cap
 |_,_=>False
theorem cm.rfl' (r:Option Real):cm r r:=by cases r<;>simp [cm]
theorem cm.some {r:Real} {r':Option Real} (h:cm (some r) r'): ∃q,r'=some q/\r.g=q.g/\r.o=q.o/\r.cap=q.cap:=by
 cases r' with
 |none=>exact h.elim
 |some q=>exact ⟨q,rfl,h⟩
theorem cm.own {r r':Option Real} (h:cm r r') {sz off len:Nat} {v:Value} (hv:Ed r sz off len v):Ed r' sz off len v:=by
 cases r<;>cases r'<;>first|exact h.elim|skip
 ·exact hv
 ·obtain ⟨h1,h2,h3⟩:=h
  obtain ⟨ad,g1,g2,g3⟩:=hv
  exact ⟨ad,by rw [<-h3];exact g1,by rw [<-h3];exact g2,by rw [<-h1,<-h2,<-h3];exact g3⟩
structure OB.Nw (b b':OB):Prop where
 row: ∀sz n,b.row=some (sz,n)-> ∃n',b'.row=some (sz,n')/\n<=n'
 cz: ∀p,b.cz=some p->b'.cz=some p
 sf: ∀p,b.sf=some p->b'.sf=some p
 var: ∀tid vs,b= .var tid vs-> ∃Pn vs',b'= .var Pn vs'
 Qh: ∀v m,b= .Qh v m-> ∃m',b'= .Qh v m'
theorem OB.Nw.map (f:AC->AC) (b:OB):b.Nw (b.map f) where
 row:= λsz n h=>⟨n,by cases b<;>exact h,Nat.le_refl _⟩
 cz:= λp h=>by cases b<;>exact h
 sf:= λp h=>by cases b<;>exact h
 var:= λtid vs h=>by subst h;exact ⟨_,_,rfl⟩
 Qh:= λv m h=>by subst h;exact ⟨_,rfl⟩
theorem OB.Nw.rfl' (b:OB):b.Nw b where
 row:= λ_sz n h=>⟨n,h,Nat.le_refl _⟩
 cz:= λ_p h=>h
 sf:= λ_p h=>h
 var:= λ_tid _vs h=>⟨_,_,h⟩
 Qh:= λ_v _m h=>⟨_,h⟩
theorem OB.Nw.trans {a b c:OB} (h:a.Nw b) (k:b.Nw c):a.Nw c where
 row:= λsz n hr=>by
  obtain ⟨n1,h1,h2⟩:=h.row sz n hr
  obtain ⟨n2,h3,h4⟩:=k.row sz n1 h1
  exact ⟨n2,h3,by omega⟩
 cz:= λp hp=>k.cz p (h.cz p hp)
 sf:= λp hp=>k.sf p (h.sf p hp)
 var:= λtid vs hv=>by obtain ⟨t',v',h1⟩:=h.var tid vs hv;exact k.var t' v' h1
 Qh:= λv m hm=>by obtain ⟨m',h1⟩:=h.Qh v m hm;exact k.Qh v m' h1
theorem ko {f:AC->AC} {D Pt:Nat->Prop} (hf: ∀c,f c= .undef\/(f c=c/\(∀k∈c.refs,¬D k)/\ ∀k i j,c= .sub k i j\/c= .Ft k i j-> ¬Pt k)) (hp: ∀k,¬D k->cm (π k) (π' k))
  (hH: ∀k b,¬D k->Ad H k=some b-> ∃b',Ad H' k=some b'/\b.Nw b')
  (hg: ∀k r b,¬D k-> ¬Pt k->Ad H k=some b->b.cz≠none->π k=some r->w'.heap[r.g]?=w.heap[r.g]?)
  (hc: ∀fr τ cs x,Cells w (Bj X.w0.heap.size X.Sc π fr) τ cs x->Cells w' (Bj X.w0.heap.size X.Sc π' fr) τ cs x): ∀c v,Dw X w π H c v->Dw X w' π' H' (f c) v:=by
 intro c v h
 rcases hf c with e|⟨e,hr,hs⟩
 ·rw [e];trivial
 rw [e]
 cases c with
 |data fr τ x=>obtain ⟨cs,h1,h2⟩:=h;exact ⟨cs,hc _ _ _ _ h1,h2⟩
 |own k off len=>
  obtain ⟨b,sz,n,h1,h0,h2,h3⟩:=h
  have hk:=hr k (by simp [AC.refs])
  obtain ⟨b',g1,g2⟩:=hH k b hk h1
  obtain ⟨n',g3,g4⟩:=g2.row sz n h0
  exact ⟨b',sz,n',g1,g3,by omega,(hp k hk).own h3⟩
 |Du k i=>
  obtain ⟨r,tid,vs,h1,h2,h3⟩:=h
  have hk:=hr k (by simp [AC.refs])
  obtain ⟨b',g1,g2⟩:=hH k _ hk h1
  obtain ⟨Pn,vs',rfl⟩:=g2.var tid vs rfl
  obtain ⟨q,q1,q2,_⟩:=(h2▸hp k hk).some
  exact ⟨q,Pn,vs',g1,q1,by rw [<-q2];exact h3⟩
 |Fw k i=>
  obtain ⟨r,b,sz,n,h1,h0,h2,h3,h4⟩:=h
  have hk:=hr k (by simp [AC.refs])
  obtain ⟨b',g1,g2⟩:=hH k b hk h1
  obtain ⟨n',g3,g4⟩:=g2.row sz n h0
  obtain ⟨q,q1,q2,q3,_⟩:=(h3▸hp k hk).some
  exact ⟨q,b',sz,n',g1,g3,by omega,q1,by rw [<-q2,<-q3];exact h4⟩
 |sub k i c=>
  obtain ⟨r,b,sz,n,h1,h0,h2,h3,h4,h5⟩:=h
  have hk:=hr k (by simp [AC.refs])
  obtain ⟨b',g1,g2⟩:=hH k b hk h1
  obtain ⟨q,q1,q2,q3,_⟩:=(h2▸hp k hk).some
  exact ⟨q,b',sz,n,g1,g2.cz _ h0,q1,h3,h4,by rw [<-q2,<-q3,World.cell?_of_block (hg k r b hk (hs k i c (.inl rfl)) h1 (by rw [h0];simp) h2)];exact h5⟩
 |Ft k i c=>
  obtain ⟨r,b,n,sz,g,o,len,cap,h1,h0,h2,h3,h4,h5,h6⟩:=h
  have hk:=hr k (by simp [AC.refs])
  obtain ⟨b',g1,g2⟩:=hH k b hk h1
  obtain ⟨q,q1,q2,q3,_⟩:=(h2▸hp k hk).some
  exact ⟨q,b',n,sz,g,o,len,cap,g1,g2.sf _ h0,q1,h3,h4,by rw [<-q2,<-q3,World.cell?_of_block (hg k r b hk (hs k i c (.inr rfl)) h1 (by cases b<;>first|(cases h0;done)|simp [OB.cz]) h2)];exact h5,h6⟩
 |clo g Ca=>
  obtain ⟨us,h1,h2,h3⟩:=h
  refine ⟨us,h1,h2,λj p hpj=>?_⟩
  obtain ⟨r,tid,vs,h4,h5,h6⟩:=h3 j p hpj
  have hk:=hr p.1 (by simp only [AC.refs,List.mem_map];exact ⟨p,List.mem_of_getElem? hpj,rfl⟩)
  obtain ⟨b',g1,g2⟩:=hH p.1 _ hk h4
  obtain ⟨Pn,vs',rfl⟩:=g2.var tid vs rfl
  obtain ⟨q,q1,q2,_⟩:=(h5▸hp p.1 hk).some
  exact ⟨q,Pn,vs',g1,q1,by rw [<-q2];exact h6⟩
 |Gd k=>
  obtain ⟨r,vt,m,h1,h2,h3⟩:=h
  have hk:=hr k (by simp [AC.refs])
  obtain ⟨b',g1,g2⟩:=hH k _ hk h1
  obtain ⟨m',rfl⟩:=g2.Qh vt m rfl
  obtain ⟨q,q1,q2,_⟩:=(h2▸hp k hk).some
  exact ⟨q,vt,m',g1,q1,by rw [<-q2];exact h3⟩
 |_=>exact h
theorem Ps (H0:List (Nat×OB)) (ls:List Nat) (n:Nat): ∀(H:List (Nat×OB)) (l:Nat),Ad (Zy H0 ls n H) l=(Ad H l).map λb=>if ls.contains l then b.AL (Xm n (Ad9 (Ad H0 l))) else b
 | [],_=>rfl
 |(k,b)::r,l=>by
  simp only [Zy,Ad]
  split
  ·rename_i e;subst e;rfl
  ·exact Ps H0 ls n r l
theorem OB.x9 (b:OB) (kp:Option (Nat×Nat)):b.Nw (b.AL kp):=by
 cases b with
 |Al e te rows out kp0=>exact ⟨λsz n h=>⟨n,h,Nat.le_refl _⟩,λp h=>h,λp h=>h,(λ_ _ h=>by cases h),(λ_ _ h=>by cases h)⟩
 |_=>exact OB.Nw.rfl' _
theorem ca (ls:List Nat): ∀(l m:List AV) (t:Nat),l.length=m.length->(∃k i c,l.getD t .undef= .at (.sub k i c)/\ls.contains k=true/\(He ls l m).getD t .undef= .at (.sub k i c))\/(He ls l m).getD t .undef=m.getD t .undef
 | [],m,t,_=>by cases m<;>exact .inr rfl
 |_::_,[],t,h=>by simp at h
 |a::l,v::m,t,h=>by
  have ih:= λt=>ca ls l m t (by simpa using h)
  have tail: ∀u,He ls (a::l) (v::m)=u::He ls l m->(t=0->(∃k i c,(a::l).getD t .undef= .at (.sub k i c)/\ls.contains k=true/\u= .at (.sub k i c))\/u=v)->
    (∃k i c,(a::l).getD t .undef= .at (.sub k i c)/\ls.contains k=true/\(He ls (a::l) (v::m)).getD t .undef= .at (.sub k i c))\/(He ls (a::l) (v::m)).getD t .undef=(v::m).getD t .undef:=by
   intro u e h0
   rw [e]
   rcases t with _|t
   ·rcases h0 rfl with ⟨k,i,c,h1,h2,h3⟩|h3
    ·exact .inl ⟨k,i,c,h1,h2,by simpa using h3⟩
    ·exact .inr (by simpa using h3)
   ·simpa only [List.getD_cons_succ] using ih t
  cases a with
  | «at»c=>
   cases c with
   |sub k i c=>
    refine tail _ rfl λht=>?_
    subst ht
    by_cases hc:ls.contains k=true
    ·exact .inl ⟨k,i,c,rfl,hc,by rw [if_pos hc]⟩
    ·exact .inr (by rw [if_neg hc])
   |_=>exact tail _ rfl λ_=> .inr rfl
  |_=>exact tail _ rfl λ_=> .inr rfl
theorem rv {H:List (Nat×OB)} {ls:List Nat} {n:Nat} : ∀ {l:List AV} {t k i c:Nat},aa H ls n l=true->l.getD t .undef= .at (.sub k i c)->ls.contains k=true->i<n/\i<oB H k
 | [],t,k,i,c,_,h,_=>by simp at h
 |a::l,0,k,i,c,ho,h,hc=>by
  simp only [List.getD_cons_zero] at h
  subst h
  simp only [aa,hc,Bool.not_true,Bool.false_or,Bool.and_eq_true,Nat.blt_eq] at ho
  exact ho.1
 |a::l,t+1,k,i,c,ho,h,hc=>by
  refine rv (l:=l) (t:=t) (c:=c) ?_ (by simpa only [List.getD_cons_succ] using h) hc
  cases a with
  | «at»d=>cases d with
   |sub _ _ _=>simp only [aa,Bool.and_eq_true] at ho;exact ho.2
   |_=>exact ho
  |_=>exact ho
theorem EK {Ye st:St} {a:Act} (h0:Ak X π Ye a w) (h:Ak X π' st a w') {ls:List Nat} {n:Nat} (hk: ∀l∈ls,xW w w' (π l) (π' l) n) (pK: ∀l∈ls,jT Ye.heap l=true)
  (dK:aa st.heap ls n Ye.tmps=true):Ak X π' (iK Ye st ls n) a w'/\ ∀c v,Ao X w' π' st.heap c v->Ao X w' π' (iK Ye st ls n).heap c v:=by
 by_cases mU:ls= []
 ·subst mU;exact ⟨h,λ_ _ h=>h⟩
 have On:iK Ye st ls n= {tmps:=He ls Ye.tmps st.tmps,heap:=Zy Ye.heap ls n st.heap} :=by
  cases ls with
  |nil=>exact absurd rfl mU
  |cons _ _=>rfl
 rw [On]
 have hg0: ∀l∈ls,∃e te rows out kp,Ad Ye.heap l=some (.Al e te rows out kp):= λl hl=>by
  have:=pK l hl
  unfold jT at this
  split at this
  ·exact ⟨_,_,_,_,_,by assumption⟩
  ·cases this
 have srv: ∀k b,Ad st.heap k=some b-> ∃b',Ad (Zy Ye.heap ls n st.heap) k=some b'/\b.Nw b':= λk b hb=>by
  rw [Ps,hb]
  refine ⟨_,rfl,?_⟩
  dsimp only
  split
  ·exact OB.x9 b _
  ·exact OB.Nw.rfl' b
 have hac:(∀fr τ cs x,Cells w' (Bj X.w0.heap.size X.Sc π' fr) τ cs x->Cells w' (Bj X.w0.heap.size X.Sc π' fr) τ cs x)-> ∀c v,Dw X w' π' st.heap c v->Dw X w' π' (Zy Ye.heap ls n st.heap) c v:= λhc=>
  ko (f:= λc=>c) (D:= λ_=>False) (Pt:= λ_=>False) (λc=> .inr ⟨rfl,λ_ _ h=>h,λ_ _ _ _ h=>h⟩) (λk _=>cm.rfl' _) (λk b _ hb=>srv k b hb) (λ_ _ _ _ _ _ _ _=>rfl) hc
 have h1:Ak X π' {tmps:=st.tmps.map (·.map λc=>c),heap:=Zy Ye.heap ls n st.heap} a w':=by
  refine h.kq rfl (gv:= λ_=>False) (λ_ hf=>hf.elim) (Gg.refl _ _ _) (λ_ _ ho=>ho) h.1.sub h.1.place h.1.inj (λl hl Ek=>h.1.cW l hl λh2=>Ek (by rw [Ps,h2];rfl)) hac (λm l b hb=>?_) (λl hl=>?_)
  ·rw [Ps] at hb
   cases h2:Ad st.heap l with
   |none=>rw [h2] at hb;cases hb
   |some b0=>
    rw [h2] at hb
    simp only [Option.map_some,Option.some.injEq] at hb
    have hbk:=(h.1.heap l).Ma h2
    have CF:=hbk.move m (Nat.le_refl _) (λr0 c h0 h1=>h.1.sub _ r0 c h0 h1) λ_ _ _ _ _=>rfl
    rw [show OB.map (λc=>c) b0=b0 from OB.zz b0] at CF
    split at hb
    ·rename_i hc
     have hl:l∈ls:=by simpa using hc
     cases b0 with
     |Al e te rows out kp=>
      simp only [OB.AL] at hb
      subst hb
      refine ⟨CF.1,?_⟩
      obtain ⟨e0,te0,Ab2,Ani,kp0,hg⟩:=hg0 l hl
      have w6:=((h0.1.heap l).Ma hg).2
      rw [hg]
      simp only [Ad9]
      have sk:=hk l hl
      cases kp0 with
      |none=>trivial
      |some p=>
       obtain ⟨l0,n0⟩:=p
       simp only [KeptAt,Xm] at w6⊢
       cases wa:X.cW l0 with
       |none=>
        cases hp:π l with
        |none=>
         rw [hp] at sk
         cases jP:π' l with
         |none=>trivial
         |some q=>rw [jP] at sk;exact sk.elim
        |some q=>rw [wa,hp] at w6;exact w6.elim
       |some r0=>
        cases hp:π l with
        |none=>rw [wa,hp] at w6;exact w6.elim
        |some q=>
         rw [wa,hp] at w6
         rw [hp] at sk
         cases jP:π' l with
         |none=>rw [jP] at sk;exact sk.elim
         |some q'=>
          rw [jP] at sk
          obtain ⟨k1,k2,k3,k4⟩:=sk
          obtain ⟨g1,g2,g3,g4⟩:=w6
          refine ⟨k1.trans g1,k2.trans g2,k3.trans g3,λj hj hc=>?_⟩
          have e1:=g4 j (by omega) hc
          have e2:=k4 j (by omega) (by omega)
          rw [g1,g2] at e2
          rw [<-e1,e2]
     |_=>simp only [OB.AL] at hb;subst hb;exact CF
    ·subst hb;exact CF
  ·rw [Ps] at hl
   cases h2:Ad st.heap l with
   |none=>exact (h.1.heap l).emp h2
   |some b=>rw [h2] at hl;cases hl
 have JF: ∀c v,Ao X w' π' st.heap c v->Ao X w' π' (Zy Ye.heap ls n st.heap) c v:= λc v hv=>by
  have m:Move X w' w' π' π' st.heap (Zy Ye.heap ls n st.heap) (λc=>c):=⟨hac λ_ _ _ _ h=>h,λ_ _ _ _ h=>h⟩
  have:=m.av hv
  rwa [AC.map_id] at this
 refine ⟨⟨h1.1,⟨?_,h.2.defers,λt=>?_⟩⟩,JF⟩
 ·have: ∀(l m:List AV),(He ls l m).length=m.length:=by
   intro l
   induction l with
   |nil=>intro m;cases m<;>rfl
   |cons a l ih=>
    intro m
    cases m with
    |nil=>cases a with
     | «at»c=>cases c<;>rfl
     |_=>rfl
    |cons v m=>cases a with
     | «at»c=>cases c<;>simp only [He,List.length_cons,ih m]
     |_=>simp only [He,List.length_cons,ih m]
  show a.tmps.size=(He ls Ye.tmps st.tmps).length
  rw [this];exact h.2.size
 ·show Ao X w' π' _ ((He ls Ye.tmps st.tmps).getD t .undef) _
  rcases ca ls Ye.tmps st.tmps t (by rw [<-h0.2.size,<-h.2.size]) with ⟨k,i,c,g1,g2,g3⟩|g
  ·rw [g3]
   have My:k∈ls:=by simpa using g2
   obtain ⟨i1,i2⟩:=rv dK g1 g2
   have hv:=h0.2.tmps t
   rw [show Ye.get t=_ from g1] at hv
   obtain ⟨r,b,sz,n',e1,e2,e3,e4,⟨e5,e6⟩,e7⟩:=hv
   obtain ⟨e0,te0,Ab2,Ani,kp0,hg⟩:=hg0 k My
   rw [hg] at e1;cases e1
   simp only [OB.cz,Option.some.injEq,Prod.mk.injEq] at e2
   obtain ⟨rfl,rfl⟩:=e2
   have sk:=hk k My
   rw [e3] at sk
   cases jP:π' k with
   |none=>rw [jP] at sk;exact sk.elim
   |some q'=>
    rw [jP] at sk
    obtain ⟨k1,k2,k3,k4⟩:=sk
    have pJ:Ab2.length<=r.cap:=by
     have:=((h0.1.heap k).Ma hg).1
     rw [e3] at this
     obtain ⟨_,_,_,_,_,_,h5,_⟩:=this
     exact h5
    unfold oB at i2
    split at i2
    ·rename_i e9 te9 Aig Aso kp9 hg9
     refine ⟨q',_,1,Aig.length,by rw [Ps,hg9];rfl,?_,jP,i2,⟨e5,e6⟩,?_⟩
     ·dsimp only
      split<;>rfl
     ·have gF:c=0:=by omega
      subst gF
      rw [k1,k2]
      rw [Nat.mul_one,Nat.add_zero] at e7⊢
      rw [k4 i i1 (by omega)];exact e7
    ·omega
  ·rw [g]
   exact JF _ _ (h.2.tmps t)
theorem me {ins:List (Bool×CK)} {as:List AC} {pl:List Nat} {st:St} :(nZ ins as pl st).tmps=st.tmps:=by
 unfold nZ
 split
 ·rfl
 ·split<;>rfl
theorem GL {ins:List (Bool×CK)} {as:List AC} {pl:List Nat} {st:St} {m:Nat} (hm:m∉pl):Ad (nZ ins as pl st).heap m=Ad st.heap m:=by
 unfold nZ
 split
 ·rfl
 ·rename_i l r
  split
  ·exact Bv _ _ _ _ λe=>hm (e▸List.mem_cons_self)
  ·rfl
theorem NO {ins:List (Bool×CK)} {as:List AC} {l:Nat} {st:St} {tid:TypeId} {vs:List AC} (hl:Ad st.heap l=some (.var tid vs)):Ad (nZ ins as [l] st).heap l=some (.var tid (cH ins vs as)):=by
 simp only [nZ,St.at,hl]
 exact Cf _ _ _ _ hl
theorem uM {α:Type} (ins:List (Bool×CK)) (as:List α):cH ins [] as= []:=by
 rcases ins with _|⟨⟨_|_,c⟩,r⟩<;>rfl
theorem lZ {α:Type} : ∀(ins:List (Bool×CK)) (vs as:List α),(cH ins vs as).length=vs.length
 | [],vs,as=>by rw [cH];all_goals simp
 |p::r,[],as=>by rw [uM]
 |(true,c)::r,v::vs,as=>by simp only [cH,List.length_cons,lZ r vs as]
 |(false,c)::r,v::vs,[]=>by rw [cH];all_goals simp
 |(false,c)::r,v::vs,a::as=>by simp only [cH,List.length_cons,lZ r vs as]
theorem NF {st:St} {a:Act} (h:Ak X π st a w) {s:MSpec} {jm:List AV} {vs:List Value} (hlen:jm.length=vs.length) (JF: ∀(i:Nat) c v,jm[i]?=some c->vs[i]?=some v->Ao X w π st.heap c v)
  {pl:List Nat} {cells:List AC} {rest:List AV} (he:KD st s jm=some (pl,cells,rest)):
  ∃(g:Nat) (ZN vg:List Value),rest.length=vg.length/\(∀(i:Nat) c v,rest[i]?=some c->vg[i]?=some v->Ao X w π st.heap c v)/\Io X w π st.heap cells ZN/\
   ((s.ptr=none/\pl= []/\cells= []/\ZN= []/\vs=vg)\/
    ∃p l q,s.ptr=some p/\pl= [l]/\π l=some q/\q.Bg q.g/\g=q.g/\Ad st.heap l=some (.var p.1 cells)/\cells.length=p.2/\vs= .pointer (some ⟨g,0,none⟩)::vg/\w.heap[g]?=some (.cells ZN.toArray p.1 (0,0))/\Da X w π st.heap cells ZN):=by
 unfold KD at he
 split at he
 ·rename_i hp
  simp only [Option.some.injEq,Prod.mk.injEq] at he
  obtain ⟨rfl,rfl,rfl⟩:=he
  exact ⟨0,[],vs,hlen,JF,trivial, .inl ⟨hp,rfl,rfl,rfl,rfl⟩⟩
 ·rename_i p hp
  split at he
  ·rename_i l i Aph
   split at he
   ·rename_i tid cs hl
    split at he
    ·rename_i hc
     obtain ⟨rfl,hc,rfl⟩:=hc
     simp only [Option.some.injEq,Prod.mk.injEq] at he
     obtain ⟨rfl,rfl,rfl⟩:=he
     unfold St.at at hl
     cases vs with
     |nil=>simp at hlen
     |cons v vs=>
      obtain ⟨r,Pn,vs',h1,h2,rfl⟩:=JF 0 _ v rfl rfl
      rw [hl] at h1;cases h1
      obtain ⟨r',h3,h4,cur,h5,h6⟩:=(h.1.heap l).Ma hl
      rw [h2] at h3;cases h3
      exact ⟨r.g,cur.toList,vs,by simpa using hlen,λi c v h7 h8=>JF (i+1) c v (by simpa using h7) (by simpa using h8),Io.of h6, .inr ⟨p,l,r,hp,rfl,h2,h4,rfl,hl,hc,rfl,by simpa using h5,h6⟩⟩
    ·cases he
   ·cases he
  ·cases he
theorem fH {V:List Nat} {πc:Pi} {dead part:List Nat} (hπ: ∀l,l∉dead->π' l=π l) (Gj: ∀l b sz n,l∉dead->Ad H l=some b->b.row=some (sz,n)-> ∃b',Ad H' l=some b'/\b'.row=some (sz,n)):
  ∀(ins:List (Bool×CK)) (k:Nat) (cells l4:List AC) (x:Ins.den ins) (us:List Value) (o:IOs.den ins) (cur st1:St) (news:List AC) (Rl cs:List Value),nL X w π V H πc k ins x (cells++l4) us->Qv ins cells=true->
   Ef ins o (cells++l4) cur=some st1->Ce πc k ins o cells.length cs Rl->Io X w' π' H' news Rl->Io X w' π' H' (cH ins (cells.map (Ba dead part)) news) cs
 |ins,k,[],l4,x,us,o,cur,st1,news,Rl,cs,_,_,_,hb,_=>by
  have hb:cs= []:=by rcases ins with _|⟨⟨_|_,c⟩,r⟩<;>(try cases c)<;>simpa [Ce] using hb
  rw [hb,List.map_nil,uM]
  trivial
 | [],k,a::cells,l4,x,us,o,cur,st1,news,Rl,cs,_,hk,_,_,_=>by simp [Qv] at hk
 |(true, .Dn τ)::r,k,a::cells,l4,x,us,o,cur,st1,news,Rl,cs,_,hk,_,_,_=>by simp [Qv] at hk
 |(true, .part e te)::r,k,a::cells,l4,x,us,o,cur,st1,news,Rl,cs,_,hk,_,_,_=>by simp [Qv] at hk
 |(true, .Al e te _)::r,k,a::cells,l4,x,us,o,cur,st1,news,Rl,cs,_,hk,_,_,_=>by simp [Qv] at hk
 |(true, .row e te)::r,k,a::cells,l4,x,us,o,cur,st1,news,Rl,cs,ht,hk,hp,hb,hn=>by
  cases a<;>simp only [Qv,Bool.false_eq_true] at hk
  rename_i l off len
  cases us with
  |nil=>exact ht.elim
  |cons u0 us=>
  cases cs with
  |nil=>exact hb.elim
  |cons u cs=>
  obtain ⟨⟨_,h1⟩,h2⟩:=ht
  simp only [Od] at h1
  obtain ⟨h3,rfl,rfl,fr,tr,h4⟩:=h1
  obtain ⟨h5,h6⟩:=hb
  simp only [List.cons_append,Ef] at hp
  split at hp
  rotate_left
  ·cases hp
  rename_i Uy hpc
  have LN:List.length o.1=List.length x.1:=by
   simp only [Yh] at hpc
   repeat' split at hpc
   all_goals first|(cases hpc;done)|(rename_i hc;exact hc.2.1)
  refine ⟨?_,fH hπ Gj r (k+1) cells l4 x.2 us o.2 Uy st1 news Rl cs h2 hk hp h6 hn⟩
  by_cases hd:l∈dead
  ·have:Ba dead part (.own l 0 (List.length x.1))= .undef:=by
    unfold Ba
    rw [if_pos (by simp [AC.refs,hd])]
   rw [this];trivial
  ·rw [Yt (by simpa [AC.refs] using hd) (by intro l i j e;rcases e with e|e<;>cases e)]
   obtain ⟨b',g1,g2⟩:=Gj l _ e.size (List.length x.1) hd h4 rfl
   refine ⟨b',e.size,List.length x.1,g1,g2,by omega,?_⟩
   rw [hπ l hd]
   rw [h3,LN] at h5
   cases hp:π l<;>(rw [hp] at h5;exact h5)
 |(true, .Dv e te)::r,k,a::cells,l4,x,us,o,cur,st1,news,Rl,cs,ht,hk,hp,hb,hn=>by
  cases a<;>simp only [Qv,Bool.false_eq_true] at hk
  rename_i l off len
  cases us with
  |nil=>exact ht.elim
  |cons u0 us=>
  cases cs with
  |nil=>exact hb.elim
  |cons u cs=>
  obtain ⟨⟨_,h1⟩,h2⟩:=ht
  simp only [Od] at h1
  obtain ⟨h3,rfl,rfl,h4⟩:=h1
  obtain ⟨h5,h6⟩:=hb
  simp only [List.cons_append,Ef] at hp
  split at hp
  rotate_left
  ·cases hp
  rename_i Uy hpc
  have LN:List.length o.1=List.length x.1:=by
   simp only [Yh] at hpc
   repeat' split at hpc
   all_goals first|(cases hpc;done)|(rename_i hc;exact hc.2.1)
  refine ⟨?_,fH hπ Gj r (k+1) cells l4 x.2 us o.2 Uy st1 news Rl cs h2 hk hp h6 hn⟩
  by_cases hd:l∈dead
  ·have:Ba dead part (.own l 0 (List.length x.1))= .undef:=by
    unfold Ba
    rw [if_pos (by simp [AC.refs,hd])]
   rw [this];trivial
  ·rw [Yt (by simpa [AC.refs] using hd) (by intro l i j e;rcases e with e|e<;>cases e)]
   obtain ⟨b',g1,g2⟩:=Gj l _ e.size (List.length x.1) hd h4 rfl
   refine ⟨b',e.size,List.length x.1,g1,g2,by omega,?_⟩
   rw [hπ l hd]
   rw [h3,LN] at h5
   cases hp:π l<;>(rw [hp] at h5;exact h5)
 |(false,c)::r,k,a::cells,l4,x,[],o,cur,st1,news,Rl,cs,ht,hk,hp,hb,hn=>ht.elim
 |(false,c)::r,k,a::cells,l4,x,u0::us,o,cur,st1,news,Rl,[],ht,hk,hp,hb,hn=>by cases c<;>exact hb.elim
 |(false,c)::r,k,a::cells,l4,x,u0::us,o,cur,st1,news,[],u::cs,ht,hk,hp,hb,hn=>by cases c<;>exact hb.elim
 |(false,c)::r,k,a::cells,l4,x,u0::us,o,cur,st1,[],u'::Rl,u::cs,ht,hk,hp,hb,hn=>hn.elim
 |(false,c)::r,k,a::cells,l4,x,u0::us,o,cur,st1,na::news,u'::Rl,u::cs,ht,hk,hp,hb,hn=>by
  have hb2:u=u'/\Ce πc (k+1) r o cells.length cs Rl:=by cases c<;>exact hb
  obtain ⟨rfl,hb3⟩:=hb2
  have hp:Ef r o (cells++l4) cur=some st1:=by cases c<;>simpa only [List.cons_append,Ef] using hp
  have hk:Qv r cells=true:=by cases c<;>simpa only [Qv] using hk
  exact ⟨hn.1,fH hπ Gj r (k+1) cells l4 x.2 us o cur st1 news Rl cs ht.2 hk hp hb3 hn.2⟩
theorem BF {V:List Nat} {πc:Pi} : ∀(cs:List (Bool×CK)) (k0:Nat) (x:Ins.den cs) (as:List AC) (us:List Value),k0+cs.length<100000->nL X w π V H πc k0 cs x as us-> ∀k l,(Bu false k,Loc.row l)∈Hf k0 cs as->πc (Bu false k)=(π l).map full
 | [],_,_,[],_,_,_,_,_,h=>by cases h
 | [],_,_,_::_,_,_,_,_,_,h=>by cases h
 |_::_,_,_,[],_,_,_,_,_,h=>by cases h
 |_::_,_,_,_::_,[],_,h,_,_,_=>h.elim
 |(io,c)::r,k0,x,a::as,u::us,hk,h,k,l,ht=>by
  simp only [List.length_cons] at hk
  simp only [Hf] at ht
  rcases List.mem_append.1 ht with ht|ht
  ·obtain ⟨⟨_,h1⟩,_⟩:=h
   cases c with
   |Dn τ=>cases a<;>simp [Lh,views] at ht
   |row e te=>
    cases a<;>simp [Lh] at ht
    obtain ⟨e1,rfl⟩:=ht
    simp only [Od] at h1
    rw [e1];exact h1.1
   |Dv e te=>
    cases a<;>simp [Lh] at ht
    obtain ⟨e1,rfl⟩:=ht
    simp only [Od] at h1
    rw [e1];exact h1.1
   |part e te=>
    cases a<;>simp [Lh] at ht
    obtain ⟨e1,rfl⟩:=ht
    simp only [Od] at h1
    rw [e1];exact h1.2.1
   |Al e te kp=>
    cases a<;>simp [Lh] at ht
    obtain ⟨e1,rfl⟩:=ht
    simp only [Od] at h1
    rw [e1];exact h1.2.1
  ·exact BF r (k0+1) x.2 as us (by omega) h.2 k l ht
theorem nM {st:St} {a:Act} (h:Ak X π st a w) {f:FuncId} {s:MSpec} (hs:Ay P f s) (dst:Option Nat) (jm:List AV) (vs:List Value) (hlen:jm.length=vs.length)
  (JF: ∀(i:Nat) c v,jm[i]?=some c->vs[i]?=some v->Ao X w π st.heap c v) (av:AV) (st':St) (he:Si st dst s jm=some (av,st')):
  Calls P f vs.toArray w λe w'=> ∃v,e= .returned v/\ ∃π',Ak X π' st' a w'/\Ao X w' π' st'.heap av v:=by
 unfold Si at he
 split at he
 ·cases he
 rename_i pl cells rest Amj
 split at he
 ·cases he
 rename_i l4 l8
 split at he
 ·cases he
 rename_i x tks htk
 split at he
 rotate_left
 ·cases he
 rename_i Fh
 simp only [Bool.and_eq_true,Nat.blt_eq] at Fh
 obtain ⟨⟨⟨⟨JK,pP⟩,hon⟩,dJ⟩,Agj,LQ⟩:=Fh
 have LQ: ∀l∈pl,l∉(tks.map λt=>t.2.Rn)/\l∉Nb s tks (dst.getD 0):= λl hl=>by
  have:=List.all_eq_true.1 LQ l hl
  simp only [Bool.not_eq_true',<-Bool.not_eq_true,List.contains_iff_mem] at this
  exact ⟨λhm=>this (List.mem_append_left _ hm),λhm=>this (List.mem_append_right _ hm)⟩
 split at he
 ·cases he
 rename_i r o hfn
 split at he
 ·cases he
 rename_i st1 RO
 obtain ⟨g,ZN,vg,RJ,Ale,Amm,Yg⟩:=NF h hlen JF Amj
 obtain ⟨tn,rfl,CJ,Aml⟩:=Us s.Eh rest vg l4 RJ Ale l8
 have hrc:=Amm.append Aml
 have Lx:l9 s w g (ZN++tn) vs:=by
  unfold l9
  rcases Yg with ⟨h1,_,_,h2,h3⟩|⟨p,l,q,h1,_,_,_,_,_,h2,h3,h4,h5⟩
  ·rw [h1];subst h2;exact ⟨h3,CJ⟩
  ·rw [h1]
   have hl:ZN.length=p.2:=h5.1.trans h2
   simp only
   rw [List.drop_append_of_le_length (by omega),List.take_append_of_le_length (by omega),List.take_of_length_le (by omega),List.drop_of_length_le (by omega)]
   refine ⟨h3,CJ,by simp;omega,h4,λu hu=>?_⟩
   obtain ⟨i,hi,rfl⟩:=List.mem_iff_getElem.1 hu
   obtain ⟨u',h6,h7,_⟩:=h5.2 i (cells[i]'(by have:=h5.1;omega)) (List.getElem?_eq_getElem _)
   rw [List.getElem?_eq_getElem hi] at h6
   rw [Option.some.inj h6];exact h7
 have LR: ∀l∈pl,∃p q,s.ptr=some p/\pl= [l]/\π l=some q/\q.Bg q.g/\g=q.g/\Ad st.heap l=some (.var p.1 cells)/\cells.length=p.2:= λl hl=>by
  rcases Yg with ⟨_,h1,_⟩|⟨p,l',q,h1,h2,h3,h4,h5,h6,h7,_⟩
  ·rw [h1] at hl;cases hl
  ·rw [h2] at hl
   have:=List.mem_singleton.1 hl
   subst this
   exact ⟨p,q,h1,h2,h3,h4,h5,h6,h7⟩
 have LM: ∀b,s.gv g b-> ∃l∈pl,∃q,π l=some q/\q.Bg b/\b=q.g:= λb ⟨h1,h2⟩=>by
  rcases Yg with ⟨h3,_⟩|⟨p,l',q,_,h4,h5,h6,h7,_⟩
  ·rw [h3] at h1;cases h1
  ·exact ⟨l',by rw [h4];exact List.mem_singleton.2 rfl,q,h5,by rw [h2,h7];exact h6,h2.trans h7⟩
 obtain ⟨as,has⟩: ∃as,as=cells++l4:=⟨_,rfl⟩
 obtain ⟨us,RV⟩: ∃us,us=ZN++tn:=⟨_,rfl⟩
 rw [<-has] at hrc htk RO
 rw [<-RV] at hrc Lx
 let V:=(tks.filter λt=>t.2.reads).map λt=>t.2.Rn
 have hV: ∀t∈tks,t.2.reads=true->t.2.Rn∈V:= λt ht hr=>List.mem_map.2 ⟨t,List.mem_filter.2 ⟨ht,hr⟩,rfl⟩
 have hV': ∀l∈V,∃t∈tks,t.2.reads=true/\t.2.Rn=l:= λl hl=>by
  obtain ⟨t,h1,h2⟩:=List.mem_map.1 hl
  exact ⟨t,(List.mem_filter.1 h1).1,(List.mem_filter.1 h1).2,h2⟩
 clear_value V
 obtain ⟨VX,πc,hT,QX,Alx,Qu⟩:=rE h.1 (V:=V) s.ins 0 as us x tks (by omega) hrc htk hV
 have DV:=Sr JK
 rw [VX] at DV
 have aG: ∀b,Qi πc b-> ∃t∈Hf 0 s.ins as,t.2.reads=false/\ ∃q,π t.2.Rn=some q/\q.Bg b/\ ∀l i j,t.2= .sub l i j->b≠q.g:= λb ⟨c,q,h1,h2⟩=>by
  obtain ⟨t,t1,_,t3⟩:=Qu c q b h1 h2
  exact ⟨t,t1,t3⟩
 have DY: ∀b,Qi πc b->Qi π b:= λb hb=>let ⟨t,_,_,q,h1,h2,_⟩:=aG b hb;⟨_,q,h1,h2⟩
 have fo:da πc (λb=>b<w.heap.size):=⟨λl q b h1 h2=>(h.1.own (DY b ⟨l,q,h1,h2⟩)).1,λl l' q q' b h1 h2 h3 h4=>by
  obtain ⟨t,t1,t2,_,p,t3,t4,_⟩:=Qu l q b h1 h3
  obtain ⟨t',t1',t2',_,p',t3',t4',_⟩:=Qu l' q' b h2 h4
  have:=wx DV t1 t1' (h.1.apart t3 t3' t4 t4')
  rw [<-t2,<-t2',this]⟩
 have Afx: ∀k l,(Bu false k,Loc.row l)∈Hf 0 s.ins as->πc (Bu false k)=(π l).map full:= λk l ht=>
  BF s.ins 0 x as us (by omega) hT k l ht
 have Ahj: ∀b,Qi πc b->Jw X π V b:= λb hb=> .inl ⟨DY b hb,λl hl r' hr hf=>by
  obtain ⟨t,t1,t0,q,t3,t4,_⟩:=aG b hb
  obtain ⟨t',t1',t2',rfl⟩:=hV' l hl
  rw [VX] at t1'
  have:=wx DV t1 t1' (h.1.apart t3 hr t4 hf)
  subst this
  rw [t0] at t2';cases t2'⟩
 let S:Nat->Prop:= λb=> ¬Qi πc b/\Jw X π V b
 have hS: ∀b,S b->b<w.heap.size/\ ¬Qi πc b:= λb hb=>⟨by
  rcases hb.2 with h1|h1
  ·exact (h.1.own h1.1).1
  ·exact Nat.lt_of_lt_of_le (h.1.sc b h1).1 h.1.below.size,hb.1⟩
 have XQ: ∀l∈pl,∀t∈Hf 0 s.ins as,t.2.Rn≠l:= λl hl t ht e=>(LQ l hl).1 (List.mem_map.2 ⟨t,VX▸ht,e⟩)
 have hSg:s.ptr.isSome=true->S g:= λhps=>by
  obtain ⟨l,hl,q,h1,h2,h3⟩:=LM g ⟨hps,rfl⟩
  have hno: ¬Qi πc g:= λhb=>by
   obtain ⟨t,t1,_,q',t3,t4,_⟩:=aG g hb
   exact XQ l hl t t1 (h.1.apart t3 h1 t4 h2)
  refine ⟨hno, .inl ⟨⟨l,q,h1,h2⟩,λl' Gt r' bf hf=>?_⟩⟩
  obtain ⟨t',t1',_,rfl⟩:=hV' l' Gt
  rw [VX] at t1'
  exact XQ l hl t' t1' (h.1.apart bf h1 hf h2)
 refine (hs.calls w S πc us x r o g vs Lx hSg (bh.En (λb hb=>hb.elim (Ahj b) λh=>h.2) s.ins 0 x us (hT.Ahr s.ins 0 x as us)) fo hS Alx hfn).mono ?_
 rintro e w' ⟨v,Rl,xU,rfl,bx,mQ,XE,vZ,Agt,RM,Ad4,ub⟩
 obtain ⟨ρ,XV,DX,RL,Aa3⟩: ∃ρ:Pi,(∀l,ρ l=(xU l).map full)/\Ez w' (fV S πc xU) ρ 0 s.outs r Rl/\da ρ (λb=>b<w'.heap.size/\(w.heap.size<=b\/ ∃l q,l<Am/\πc l=some q/\q.Bg b))/\ ∀l q,ρ l=some q->q.cl=q.Bg:=by
  have un: ∀l q,(xU l).map full=some q-> ∃q0,xU l=some q0/\q=full q0:= λl q hq=>by
   cases hp:xU l with
   |none=>rw [hp] at hq;cases hq
   |some q0=>rw [hp] at hq;exact ⟨q0,rfl,(Option.some.inj hq).symm⟩
  refine ⟨λl=>(xU l).map full,λ_=>rfl,Ez.full s.outs 0 r Rl Agt,⟨λl q b h1 h2=>?_,λl l' q q' b h1 h2 h3 h4=>?_⟩,λl q h1=>?_⟩
  ·obtain ⟨q0,h5,rfl⟩:=un l q h1
   exact RM.Vq l q0 b h5 h2
  ·obtain ⟨q0,h5,rfl⟩:=un l q h1
   obtain ⟨q0',h6,rfl⟩:=un l' q' h2
   exact RM.inj l l' q0 q0' b h5 h6 h3 h4
  ·obtain ⟨q0,_,rfl⟩:=un l q h1
   rfl
 refine ⟨v,rfl,?_⟩
 split at he
 ·cases he
 rename_i av0 cS
 split at he
 rotate_left
 ·cases he
 rename_i Kx
 simp only [Option.some.injEq,Prod.mk.injEq] at he
 obtain ⟨rfl,rfl⟩:=he
 let D1:Nat->Prop:=if s.flat then λ_=>True else fV S πc xU
 have Am0:Hm w' D1 πc 0 s.ins o:=by
  show Hm w' (if s.flat then λ_=>True else fV S πc xU) πc 0 s.ins o
  split
  ·rename_i hf
   unfold MSpec.flat at hf
   simp only [Bool.and_eq_true] at hf
   exact Hm.any s.ins 0 o hf.2 vZ
  ·exact vZ
 have Agu:Ez w' D1 ρ 0 s.outs r Rl:=by
  show Ez w' (if s.flat then λ_=>True else fV S πc xU) ρ 0 s.outs r Rl
  split
  ·rename_i hf
   unfold MSpec.flat at hf
   simp only [Bool.and_eq_true] at hf
   exact Ez.any s.outs 0 r Rl hf.1 DX
  ·exact DX
 obtain ⟨q1,q2,q3,q4⟩:=qB (D:=D1) (X:=X) (π:=π) (H:=st.heap) h.1 XE.size (tks:=Hf 0 s.ins as) (πc:=πc) (λt ht q b hq hb Ey hn=>XE.block b Ey λDW=>by
   rcases DW with ⟨c,r',h1,h2⟩|hg
   rotate_left
   ·obtain ⟨l,hl,q',h1,h2,_⟩:=LM b hg
    exact XQ l hl t ht (h.1.apart hq h1 hb h2)
   obtain ⟨t',t1,t2,_,p,t3,t4,_⟩:=Qu c r' b h1 h2
   have:=wx DV ht t1 (h.1.apart hq t3 hb t4)
   subst this
   exact hn r' (t2▸h1) h2) s.ins 0 x as us o st st1 (by omega) (λ_ h=>h) DV hT Am0 RO (λ_ _=>rfl)
 have Acs: ∀t∈Hf 0 s.ins as,t.2.reads=true->t.1<Am:=by
  have: ∀(cs:List (Bool×CK)) (k:Nat) (as:List AC),k+cs.length<100000-> ∀t∈Hf k cs as,t.2.reads=true->t.1<Am:=by
   intro cs
   induction cs with
   |nil=>intro k as _ t ht;cases as<;>cases ht
   |cons p r ih=>
    intro k as hk t ht hr
    simp only [List.length_cons] at hk
    cases as with
    |nil=>cases ht
    |cons a as=>
     simp only [Hf] at ht
     rcases List.mem_append.1 ht with ht|ht
     ·rcases BD ht with ⟨_,h1⟩|⟨h1,_⟩
      ·rw [hr] at h1;cases h1
      ·rw [h1];exact bU (by omega)
     ·exact ih (k+1) as (by omega) t ht hr
  exact this s.ins 0 as (by omega)
 let d:=dst.getD 0
 let ks:=Nb s tks d
 let dead:=jv tks++ks++(if s.flat then [] else xG tks)
 let part:=whole tks
 have Amo:s.outs.length+(iW s d).length=s.Pg:=by unfold MSpec.Pg iW;cases s.rp<;>rfl
 obtain ⟨Ace,Am5,Aad⟩:ks.length=s.Pg/\ks.Nodup/\ ∀l∈ks,l<Am:=by
  have:=EN pP
  rw [Amo] at this
  exact this
 have hno:s.outs.length<=s.Pg:=by unfold MSpec.Pg;omega
 have XT: ∀tid,s.rp=some tid->Bz ks s.outs.length=Ob d/\s.Pg=s.outs.length+1:= λtid So=>by
  have h1:s.Pg=s.outs.length+1:=by unfold MSpec.Pg;rw [So]
  refine ⟨?_,h1⟩
  have h2:ks=jq s tks d++ [Ob d]:=by show jq s tks d++iW s d=_;unfold iW;rw [So]
  have h3:(jq s tks d).length=s.outs.length:=by rw [h2] at Ace;simp at Ace;omega
  rw [Mf (by rw [Ace];omega)]
  simp only [h2]
  rw [List.getElem_append_right (by omega)]
  simp [h3]
 have RH:=yu Am5 Aad
 have Am3: ∀j,j<s.Pg->Bz ks j<Am:= λj hj=>Aad _ (mem_keys.2 ⟨j,by omega,rfl⟩)
 let π':Pi:= λl=>match (List.range s.Pg).find? λj=>decide (Bz ks j=l) with
  |some j=>ρ (Fy j)
  |none=>if l∈dead then none else π l
 have sj: ∀j,j<s.Pg->π' (Bz ks j)=ρ (Fy j):= λj hj=>by
  show (match (List.range s.Pg).find? λi=>decide (Bz ks i=Bz ks j) with|some i=>ρ (Fy i)|none=>_)=_
  cases hf:(List.range s.Pg).find? λi=>decide (Bz ks i=Bz ks j) with
  |none=>
   have:=List.find?_eq_none.1 hf j (List.mem_range.2 hj)
   simp at this
  |some i=>
   have:=List.find?_some hf
   rw [RH i j (of_decide_eq_true this)]
 have pO: ∀j,j<s.Pg->Bz ks j∈dead:= λj hj=>List.mem_append_left _ (List.mem_append_right _ (mem_keys.2 ⟨j,by omega,rfl⟩))
 have w7: ∀l,(¬ ∃j,j<s.Pg/\l=Bz ks j)->π' l=if l∈dead then none else π l:= λl hl=>by
  show (match (List.range s.Pg).find? λi=>decide (Bz ks i=l) with|some i=>ρ (Fy i)|none=>_)=_
  cases hf:(List.range s.Pg).find? λi=>decide (Bz ks i=l) with
  |none=>rfl
  |some i=>
   have h1:=List.find?_some hf
   exact absurd ⟨i,List.mem_range.1 (List.mem_of_find?_eq_some hf),(of_decide_eq_true h1).symm⟩ hl
 have SB: ∀l,l∉dead->π' l=π l:= λl hl=>by
  rw [w7 l (λ⟨j,h1,h2⟩=>hl (h2▸pO j h1)),if_neg hl]
 have hD1: ∀b,Qi π' b\/X.Sc b->D1 b:=by
  intro b hb
  show (if s.flat then λ_=>True else fV S πc xU) b
  split
  ·trivial
  rename_i hnf
  rcases hb with ⟨l,q,hl,hf⟩|hb
  ·by_cases hk: ∃j,j<s.Pg/\l=Bz ks j
   ·obtain ⟨j,hj,rfl⟩:=hk
    rw [sj j hj,XV] at hl
    cases hp:xU (Fy j) with
    |none=>rw [hp] at hl;cases hl
    |some q0=>rw [hp] at hl;simp only [Option.map_some,Option.some.injEq] at hl;subst hl;exact .inr (.inr ⟨Fy j,q0,hp,hf⟩)
   ·have e0:π' l=if l∈dead then none else π l:=w7 l hk
    rw [e0] at hl
    split at hl
    ·cases hl
    ·rename_i XN
     by_cases ho:Qi πc b
     ·obtain ⟨c,q',hc,hcb⟩:=ho
      obtain ⟨t,t1,t2,t0,p,t3,t4,_⟩:=Qu c q' b hc hcb
      have w8:=h.1.apart hl t3 hf t4
      refine .inr (.inl ⟨c,q',Classical.byContradiction λhn=>?_,hc,hcb⟩)
      exact XN (List.mem_append_left _ (List.mem_append_left _ (aM.2 ⟨t,VX▸t1,⟨by rw [t2];omega,t0⟩,w8.symm⟩)))
     ·refine .inl ⟨ho, .inl ⟨⟨l,q,hl,hf⟩,λl0 hl0 r0 hr0 hf0=>?_⟩⟩
      have:=h.1.apart hl hr0 hf hf0
      subst this
      exact XN (List.mem_append_right _ (by rw [if_neg hnf];exact qf.2 (hV' l hl0)))
  ·refine .inl ⟨λho=>?_, .inr hb⟩
   have h1:=h.1.sc b hb
   rcases (h.1.own (DY b ho)).2 with h2|h2
   ·omega
   ·exact h1.2 h2
 have hpd: ∀l∈pl,l∉dead:= λl hl hd=>by
  rcases List.mem_append.1 hd with hd|hd
  ·rcases List.mem_append.1 hd with hd|hd
   ·obtain ⟨t,ht,_,e⟩:=aM.1 hd
    exact (LQ l hl).1 (List.mem_map.2 ⟨t,ht,e⟩)
   ·exact (LQ l hl).2 hd
  ·split at hd
   ·cases hd
   ·obtain ⟨t,ht,_,e⟩:=qf.1 hd
    exact (LQ l hl).1 (List.mem_map.2 ⟨t,ht,e⟩)
 have Acd: ∀j,j<s.Pg->Bz ks j∉pl:= λj hj hp=>hpd _ hp (pO j hj)
 let bv:Option OB:=s.rp.map λtid=> .var tid ((Xq (Bz ks) 0 s.outs r).drop s.Vn)
 let H1:=(nZ s.ins (Xq (Bz ks) 0 s.outs r) pl (st1.Ys dead part)).heap
 have hH1: ∀l,l∉pl->Ad H1 l=if l∈dead then none else (Ad st1.heap l).map (OB.map (Ba dead part)):= λl hl=>by
  show Ad (nZ _ _ _ _).heap l=_
  rw [GL hl]
  show Ad (Se (st1.heap.map λp=>(p.1,p.2.map (Ba dead part))) dead) l=_
  rw [Ja,Kb]
 let H2:=ze H1 (Ob d) bv
 have hvd: ∀tid,s.rp=some tid->Ob d∈dead/\Ob d∉pl:= λtid So=>by
  obtain ⟨e1,e2⟩:=XT tid So
  rw [<-e1]
  exact ⟨pO _ (by omega),Acd _ (by omega)⟩
 have Afv: ∀l,(∀tid,s.rp=some tid->l≠Ob d)->Ad H2 l=Ad H1 l:= λl hl=>by
  show Ad (ze H1 (Ob d) (s.rp.map _)) l=_
  cases CI:s.rp with
  |none=>rfl
  |some tid=>exact Kk _ _ _ _ (hl tid CI)
 have Akz: ∀tid,s.rp=some tid->Ad H2 (Ob d)=some (.var tid ((Xq (Bz ks) 0 s.outs r).drop s.Vn)):= λtid So=>by
  show Ad (ze H1 (Ob d) (s.rp.map _)) (Ob d)=_
  rw [So]
  exact Lj _ _ _ (by rw [hH1 _ (hvd tid So).2,if_pos (hvd tid So).1])
 have hkv: ∀j,j<s.outs.length-> ∀tid,s.rp=some tid->Bz ks j≠Ob d:= λj hj tid So e=>by
  have:=RH j s.outs.length (e.trans (XT tid So).1.symm)
  omega
 have hH2: ∀l,l∉pl->(∀tid,s.rp=some tid->l≠Ob d)->Ad H2 l=if l∈dead then none else (Ad st1.heap l).map (OB.map (Ba dead part)):= λl hl hv=>by
  rw [Afv l hv,hH1 l hl]
 let H':=Ss (IY st (jv tks)) (Bz ks) 0 s.outs r H2
 obtain ⟨n1,n2,n3⟩:=nq (D:=D1) (X:=X) (key:=Bz ks) RH (fr:=IY st (jv tks)) (ρ:=ρ) s.outs 0 r Rl H2 Agu (λj _ hj=>by
  rw [hH2 _ (Acd j (by omega)) (hkv j (by omega)),if_pos (pO j (by omega))])
 have lC: ∀l,l∉dead->l∉pl->Ad H' l=(Ad st1.heap l).map (OB.map (Ba dead part)):= λl hl pQ=>by
  show Ad (Ss _ _ _ _ _ _) l=_
  rw [n1 l λj _ hj e=>hl (e▸pO j (by omega)),hH2 l pQ (λtid So e=>hl (e▸(hvd tid So).1)),if_neg hl]
 have XA: ∀l,l∈dead->(∀j,j<s.Pg->l≠Bz ks j)->Ad H' l=none:= λl hl hj=>by
  show Ad (Ss _ _ _ _ _ _) l=_
  rw [n1 l λj _ h2=>hj j (by omega),hH2 l (λhp=>hpd l hp hl) (λtid So e=>hj s.outs.length (by have:=(XT tid So).2;omega) (e.trans (XT tid So).1.symm)),if_pos hl]
 have newAt: ∀l b',Ad H' l=some b'->(l∈dead\/Ad st.heap l=none)-> ∃j,j<s.Pg/\l=Bz ks j:=by
  intro l b' hb hd
  refine Classical.byContradiction λhn=>?_
  have oD: ∀j,j<s.Pg->l≠Bz ks j:= λj hj e=>hn ⟨j,hj,e⟩
  rcases Classical.em (l∈dead) with QW|QW
  ·rw [XA l QW oD] at hb;cases hb
  ·rcases hd with hd|hd
   ·exact QW hd
   ·rw [lC l QW (λhp=>by obtain ⟨_,_,_,_,_,_,_,h1,_⟩:=LR l hp;rw [hd] at h1;cases h1)] at hb
    have:Ad st1.heap l=none:=by
     by_cases hi: ∃t∈Hf 0 s.ins as,t.2.Rn=l
     ·obtain ⟨t,ht,e⟩:=hi
      by_cases Ey:t.1<Am
      ·rw [<-e,q3 t ht Ey,e];exact hd
      ·obtain ⟨b0,_,h1,_⟩:=q4 t ht Ey
       rw [e,hd] at h1;cases h1
     ·rw [q2 l λt ht e=>hi ⟨t,ht,e.symm⟩];exact hd
    rw [this] at hb;cases hb
 have Ac2: ∀k,IY st (jv tks)=true-> ∀q,ρ (Fy k)=some q->q.Bg q.g->X.w0.heap.size<=q.g:=by
  intro k yX q hq hg
  rcases (RL.Vq _ q _ hq hg).2 with h1|⟨c,p,h1,h2,h3⟩
  ·exact Nat.le_trans h.1.below.size h1
  ·obtain ⟨t,t1,t2,t0,p',t3,t4,_⟩:=Qu c p _ h2 h3
   have hm:t.2.Rn∈jv tks:=aM.2 ⟨t,VX▸t1,⟨by rw [t2];exact h1,t0⟩,rfl⟩
   have:=List.all_eq_true.1 yX _ hm
   split at this
   ·rename_i fr tr e te xs hl
    unfold St.at at hl
    have hb:=(h.1.heap t.2.Rn).Ma hl
    simp only [Av,Fu,t3] at hb
    rw [hb.1.2.1 _ t4]
    exact hb.1.2.2 this
   ·cases this
 have Ac0: ∀k q,ρ (Fy k)=some q->k<s.outs.length->q.Bg q.g:=by
  intro k q hq hk
  exact Ez.ZP s.outs 0 r Rl DX k (Nat.zero_le _) ((Nat.zero_add _).symm▸hk) q hq
 have hinv: ∀l,l∉dead->(∃t∈Hf 0 s.ins as,t.2.reads=false/\t.2.Rn=l)->jh X D1 w' π st.heap st1.heap l:=by
  rintro l hd ⟨t,ht,h0,rfl⟩
  by_cases Ey:t.1<Am
  ·exact absurd (List.mem_append_left _ (List.mem_append_left _ (aM.2 ⟨t,VX▸ht,⟨Ey,h0⟩,rfl⟩))) hd
  ·exact q4 t ht Ey
 have w9: ∀l,(¬ ∃t∈Hf 0 s.ins as,t.2.reads=false/\t.2.Rn=l)->Ad st1.heap l=Ad st.heap l:= λl hn=>by
  by_cases hi: ∃t∈Hf 0 s.ins as,t.2.Rn=l
  ·obtain ⟨t,ht,rfl⟩:=hi
   have hr:t.2.reads=true:=by
    cases h0:t.2.reads with
    |true=>rfl
    |false=>exact absurd ⟨t,ht,h0,rfl⟩ hn
   exact q3 t ht (Acs t ht hr)
  ·exact q2 l λt ht e=>hi ⟨t,ht,e.symm⟩
 have ZW: ∀l∈pl,∀p,s.ptr=some p->Ad H' l=some (.var p.1 (cH s.ins (cells.map (Ba dead part)) (Xq (Bz ks) 0 s.outs r))):= λl hl p hp=>by
  obtain ⟨p',q,h1,h2,_,_,_,h3,_⟩:=LR l hl
  rw [hp] at h1;cases h1
  show Ad (Ss _ _ _ _ _ _) l=_
  rw [n1 l λj _ hj e=>Acd j (by omega) (e▸hl),Afv l (λtid So e=>(hvd tid So).2 (e▸hl))]
  show Ad (nZ _ _ _ _).heap l=_
  rw [h2]
  refine NO ?_
  show Ad (Se (st1.heap.map λp=>(p.1,p.2.map (Ba dead part))) dead) l=_
  rw [Ja,Kb,if_neg (hpd l hl),w9 l (λ⟨t,ht,_,e⟩=>XQ l hl t ht e),h3]
  rfl
 have Aaf: ∀j,j<s.Pg->s.outs.length<=j-> ∃tid,s.rp=some tid/\j=s.outs.length:= λj h1 h2=>by
  cases CI:s.rp with
  |none=>unfold MSpec.Pg at h1;rw [CI] at h1;simp at h1;omega
  |some tid=>exact ⟨tid,rfl,by have:=(XT tid CI).2;omega⟩
 have hHv: ∀tid,s.rp=some tid->Ad H' (Ob d)=some (.var tid ((Xq (Bz ks) 0 s.outs r).drop s.Vn)):= λtid So=>by
  show Ad (Ss _ _ _ _ _ _) _=_
  rw [n1 _ λj _ hj e=>hkv j (by omega) tid So e.symm,Akz tid So]
 suffices Agl:Ak X π' (iq st st1 d s pl tks r) a w'/\Ao X w' π' (iq st st1 d s pl tks r).heap av0 v by
  obtain ⟨m1,m2⟩:=Agl
  have mU: ∀(kj:List (Nat×Nat)) (l:Nat),l∈Xl st.heap ks tks kj->jT st.heap l=true/\ ∃k j t,(k,j)∈kj/\t∈tks/\t=(Bu false k,Loc.row l)/\ks[j]?=some l:=by
   intro kj
   induction kj with
   |nil=>intro l hl;cases hl
   |cons p kj ih=>
    intro l hl
    obtain ⟨k,j⟩:=p
    have up:l∈Xl st.heap ks tks kj->jT st.heap l=true/\ ∃k' j' t,(k',j')∈(k,j)::kj/\t∈tks/\t=(Bu false k',Loc.row l)/\ks[j']?=some l:= λhl=>by
     obtain ⟨h1,k',j',t,h2,h3⟩:=ih l hl
     exact ⟨h1,k',j',t,List.mem_cons_of_mem _ h2,h3⟩
    simp only [Xl] at hl
    split at hl
    ·rename_i x0 l1 l2 h1 h2
     split at hl
     ·rename_i hc
      simp only [Bool.and_eq_true] at hc
      rcases List.mem_cons.1 hl with rfl|hl
      ·have:=List.find?_some h1
       have e1:=Nat.eq_of_beq_eq_true this
       have e2:=Nat.eq_of_beq_eq_true hc.1
       dsimp only at e1
       exact ⟨hc.2,k,j,_,List.mem_cons_self,List.mem_of_find?_eq_some h1,by rw [e1],by rw [h2,e2]⟩
      ·exact up hl
     ·exact up hl
    ·exact up hl
  obtain ⟨r1,r2⟩:=EK h m1 (ls:=Xl st.heap ks tks s.keeps) (n:=s.Cn x) (λl hl=>by
   obtain ⟨_,k,j,t,h1,h2,h3,h4⟩:=mU s.keeps l hl
   have hj:j<ks.length:=(List.getElem?_eq_some_iff.1 h4).1
   have PI:Bz ks j=l:=by
    rw [Mf hj]
    rw [List.getElem?_eq_getElem hj] at h4
    exact Option.some.inj h4
   have sk:=ub (k,j) h1
   rw [show π' l=ρ (Fy j) by rw [<-PI];exact sj j (by omega),XV]
   have hc:πc (Bu false k)=(π l).map full:=Afx k l (by rw [<-h3,<-VX];exact h2)
   dsimp only at sk
   rw [hc] at sk
   cases hp:π l<;>cases hq:xU (Fy j)<;>(rw [hp,hq] at sk;exact sk)) (λl hl=>(mU s.keeps l hl).1) Kx
  exact ⟨π',r1,r2 av0 v m2⟩
 refine ⟨?_,?_⟩
 ·have hx:=Ak.Abk (π':=π') (H':=H') (dead:=dead) (part:=part) (inv:= λl=>(∃t∈Hf 0 s.ins as,t.2.reads=false/\t.2.Rn=l)\/l∈pl) (gv:= λb=>Qi πc b\/s.gv g b) h (λb hb=>by
    rcases hb with hb|hb
    ·obtain ⟨t,h1,h0,q,h2,h3,_⟩:=aG b hb
     exact ⟨_,q, .inl ⟨t,h1,h0,rfl⟩,h2,h3⟩
    ·obtain ⟨l,hl,q,h1,h2,_⟩:=LM b hb
     exact ⟨l,q, .inr hl,h1,h2⟩) XE (λl b0 hd h0=>⟨SB l hd,?_⟩) (λl b' hb hd=>?_) (λl hl=>?_) (λm q hd hp hm hxa=>?_)
  ·have:({tmps:=(nZ s.ins (Xq (Bz ks) 0 s.outs r) pl (st1.Ys dead part)).tmps,heap:=H'} :St)= {tmps:=st.tmps.map (·.map (Ba dead part)),heap:=H'} :=by
    rw [me]
    show ({tmps:=st1.tmps.map (·.map (Ba dead part)),heap:=H'} :St)=_
    rw [q1]
   show Ak X π' ({tmps:=(nZ s.ins (Xq (Bz ks) 0 s.outs r) pl (st1.Ys dead part)).tmps,heap:=H'} :St) a w'
   rw [this]
   exact hx
  ·by_cases PH:l∈pl
   ·obtain ⟨p,q,h1,h2,h3,h4,h5,h6,h7⟩:=LR l PH
    rw [h0] at h6;cases h6
    have rR:=ZW l PH p h1
    refine .inr ⟨_,rR,⟨rfl,by rw [lZ]⟩,λm=>?_⟩
    unfold ij at mQ
    rw [h1] at mQ
    obtain ⟨cs,k1,k2,k3⟩:=mQ
    rw [<-h7] at k3
    refine ⟨q,h3,h4,cs.toArray,by rw [<-h5];exact k1,?_⟩
    refine Io.to (fH (H:=st.heap) SB (λl1 b1 sz n hd1 QT LW=>?_) s.ins 0 cells l4 x us o st st1 (Xq (Bz ks) 0 s.outs r) Rl cs (has▸hT) Agj (has▸RO) k3 (n3 π' hD1 (λj _ hj=>sj j (by omega)))) (by simpa using k2)
    have hnp:l1∉pl:= λhp=>by
     obtain ⟨_,_,_,_,_,_,_,h8,_⟩:=LR l1 hp
     rw [QT] at h8;cases h8;cases LW
    by_cases hi: ∃t∈Hf 0 s.ins as,t.2.reads=false/\t.2.Rn=l1
    ·obtain ⟨b1,b',e1,e2,e3,e4,e5,e6⟩:=hinv l1 hd1 hi
     rw [QT] at e1;cases e1
     exact ⟨b',by rw [lC l1 hd1 hnp,e2];simp [e4],by rw [e5.row];exact LW⟩
    ·exact ⟨_,by rw [lC l1 hd1 hnp,w9 l1 hi,QT];rfl,by rw [OB.x5];exact LW⟩
   by_cases hi: ∃t∈Hf 0 s.ins as,t.2.reads=false/\t.2.Rn=l
   ·obtain ⟨b1,b',e1,e2,e3,e4,e5,e6⟩:=hinv l hd hi
    rw [h0] at e1;cases e1
    exact .inr ⟨b',by rw [lC l hd PH,e2];simp [e4],by rw [e3];exact e5,λ_=>e6 π' H' hD1⟩
   ·exact .inl ⟨λhh=>hh.elim hi PH,by rw [lC l hd PH,w9 l hi,h0];rfl⟩
  ·obtain ⟨j,hj,rfl⟩:=newAt l b' hb hd
   refine ⟨Am3 j hj,?_,λq b hq=>?_⟩
   ·rw [sj j hj]
    rcases Nat.lt_or_ge j s.outs.length with hjo|hjo
    ·rcases n2 j (Nat.zero_le _) (by omega) with ⟨e1,_⟩|⟨b2,e1,e2⟩
     ·rw [show Ad H' (Bz ks j)=none from e1] at hb;cases hb
     ·rw [show Ad H' (Bz ks j)=some b2 from e1] at hb;cases hb
      exact e2 X π' H' (λhf q hq=>Ac2 j hf q hq (Ac0 j q hq hjo)) hD1
    ·obtain ⟨tid,So,hj0⟩:=Aaf j hj hjo
     subst hj0
     rw [(XT tid So).1,hHv tid So] at hb;cases hb
     unfold oT at bx
     rw [So] at bx
     obtain ⟨q,y1,y2,y3,y4,_⟩:=bx
     rw [XV,y1]
     exact ⟨full q,rfl,y2,_,y3,Io.to (Io.take s.Vn (n3 π' hD1 (λj _ hj=>sj j (by omega)))).2 (by simpa using y4)⟩
   ·rw [sj j hj] at hq
    have Kw:=Aa3 _ q hq
    refine ⟨λhf=>by rw [Kw];exact hf,λhf=>?_⟩
    rw [Kw] at hf
    obtain ⟨h1,h2⟩:=RL.Vq _ q b hq hf
    refine ⟨h1,h2.imp id ?_,λl2 r2 hd2 JN hf2=>?_⟩
    ·rintro ⟨c,p,h3,h4,h5⟩
     obtain ⟨t,t1,t2,t0,p',t3,t4,_⟩:=Qu c p b h4 h5
     exact ⟨t.2.Rn,p',List.mem_append_left _ (List.mem_append_left _ (aM.2 ⟨t,VX▸t1,⟨by rw [t2];exact h3,t0⟩,rfl⟩)),t3,t4⟩
    ·by_cases hk: ∃j,j<s.Pg/\l2=Bz ks j
     ·obtain ⟨j2,hj2,rfl⟩:=hk
      rw [sj j2 hj2] at JN
      rw [Aa3 _ r2 JN] at hf2
      have:=RL.inj _ _ r2 q b JN hq hf2 hf
      unfold Fy at this
      have:j2=j:=by omega
      rw [this]
     ·have e0:π' l2=if l2∈dead then none else π l2:=w7 l2 hk
      rw [e0] at JN
      split at JN
      ·cases JN
      ·rename_i XN
       rcases hd2 with hd2|hd2
       ·exact absurd hd2 XN
       ·rw [(h.1.heap l2).emp hd2] at JN;cases JN
  ·by_cases hk: ∃j,j<s.Pg/\l=Bz ks j
   ·obtain ⟨j,hj,rfl⟩:=hk
    rw [sj j hj]
    rcases Nat.lt_or_ge j s.outs.length with hjo|hjo
    ·rcases n2 j (Nat.zero_le _) (by omega) with ⟨_,e1⟩|⟨b2,e1,_⟩
     ·exact e1
     ·rw [show Ad H' (Bz ks j)=some b2 from e1] at hl;cases hl
    ·obtain ⟨tid,So,hj0⟩:=Aaf j hj hjo
     subst hj0
     rw [(XT tid So).1,hHv tid So] at hl;cases hl
   ·have e0:π' l=if l∈dead then none else π l:=w7 l hk
    rw [e0]
    split
    ·rfl
    ·rename_i hd
     by_cases PH:l∈pl
     ·obtain ⟨p,_,h1,_⟩:=LR l PH
      rw [ZW l PH p h1] at hl;cases hl
     rw [lC l hd PH] at hl
     by_cases hi: ∃t∈Hf 0 s.ins as,t.2.reads=false/\t.2.Rn=l
     ·obtain ⟨_,b',_,e2,_⟩:=hinv l hd hi
      rw [e2] at hl;cases hl
     ·rw [w9 l hi] at hl
      cases h0:Ad st.heap l with
      |none=>exact (h.1.heap l).emp h0
      |some b=>rw [h0] at hl;cases hl
  ·refine XE.block _ (h.1.lt hm).1 λDW=>?_
   rcases DW with ho|hg
   rotate_left
   ·obtain ⟨l,hl,q',h1,h2,_⟩:=LM _ hg
    have w8:=h.1.apart hm h1 (h.1.Bg hm) h2
    obtain ⟨_,_,_,_,_,_,_,h3,_⟩:=LR l hl
    obtain ⟨b,hxa,hxb⟩:=hxa
    rw [w8,h3] at hxa;cases hxa
    exact hxb rfl
   obtain ⟨t,t1,t0,p,t3,t4,t5⟩:=aG _ ho
   have w8:=h.1.apart hm t3 (h.1.Bg hm) t4
   have hpq:p=q:=by rw [<-w8,hm] at t3;exact (Option.some.inj t3).symm
   cases ht2:t.2 with
   |row l=>
    refine hp ?_
    show m∈whole tks
    unfold whole
    exact List.mem_flatMap.2 ⟨t,VX▸t1,by rw [ht2,w8,ht2];simp [Loc.Rn]⟩
   |sub l i j=>exact t5 l i j ht2 (by rw [hpq])
   |view l=>rw [ht2] at t0;cases t0
 ·have Amn:=n3 π' hD1 (λj _ hj=>sj j (by omega))
  cases CI:s.rp with
  |some tid=>
   unfold oT at bx
   rw [CI] at bx
   obtain ⟨q,y1,y2,y3,y4,rfl⟩:=bx
   unfold YN at cS
   rw [CI] at cS
   simp only [Option.some.injEq] at cS;subst cS
   refine ⟨full q,tid,_,hHv tid CI,?_,rfl⟩
   rw [<-(XT tid CI).1,sj _ (by have:=(XT tid CI).2;omega),XV,y1]
   rfl
  |none=>
  unfold oT at bx
  rw [CI] at bx
  obtain ⟨bx,Amu⟩:=bx
  unfold YN at cS
  rw [CI] at cS
  simp only at cS
  obtain ⟨g1,g2,g3,g4⟩:=aD s.Di _ (Rl.drop s.Vn) Amu (Io.take s.Vn Amn).2
  unfold Aif at cS
  unfold UA at bx
  split at cS
  ·rename_i hm
   rw [if_pos hm] at bx
   simp only [Option.some.injEq] at cS;subst cS
   subst bx
   exact ⟨_,rfl,g3.symm,g4⟩
  ·rename_i hm
   rw [if_neg hm] at bx
   split at cS
   ·rename_i av1 hga
    simp only [Option.some.injEq] at cS;subst cS
    rcases bx with bx|bx
    ·exact g2 0 _ v (by rw [hga];rfl) (by rw [bx];rfl)
    ·rw [hga,bx] at g1;cases g1
   ·simp only [Option.some.injEq] at cS;subst cS;trivial
   ·cases cS
end
end Go.Proofs.YtfolipnappekaaaGreat
