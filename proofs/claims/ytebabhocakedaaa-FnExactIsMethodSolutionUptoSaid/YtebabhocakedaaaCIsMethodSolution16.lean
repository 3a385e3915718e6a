/-
  Part 17 of the proof that the statement FnExactIsMethodSolution holds.
-/
import Derived.Test.YtebabhocakedaaaCIsMethodSolution15
namespace Go.Proofs.Ytebabhocakedaaa
open Go.RowKit
section
variable {P:Program} {T:Tab} {X:Ctx} {w w':World} {π π':Pi} {H H':List (Nat×OB)}
theorem Qj (k:Nat): ¬Bn true k<Ag:=by unfold Bn Ag;simp
theorem Wg {k:Nat} (h:k<100000):Bn false k<Ag:=by unfold Bn Ag;simp;omega
def Ad6 (X:Ctx) (D:Nat→Prop) (w':World) (π:Pi) (H Hn:List (Nat×OB)) (l:Nat):Prop:=
 ∃b0 b',Ac H l=some b0∧Ac Hn l=some b'∧(∀f,OB.map f b0=b0)∧(∀f,OB.map f b'=b')∧b0.Vr b'∧ ∀π' H',(∀b,Own π' b∨X.Sc b→D b)→Aq X w' π' H' (π l) b'
theorem Bcp {io:Bool} {k:Nat} {τ:Ty} {a:AC} {t:Nat×Loc} (h:t∈Ja io k (.dat τ) a):t.1=Bn false k:=by
 cases a<;>simp [Ja,views] at h<;>first|(obtain ⟨_,⟨_,_⟩,rfl⟩:=h;rfl)|(rw [h])
theorem Bab {io:Bool} {k:Nat} {e:Ty} {te:TypeId} {a:AC} {t:Nat×Loc} (h:t∈Ja io k (.part e te) a):t.1=Bn io k:=by cases a<;>simp [Ja] at h<;>rw [h]
theorem Bcq {io:Bool} {k:Nat} {e:Ty} {te:TypeId} {a:AC} {t:Nat×Loc} (h:t∈Ja io k (.row e te) a):t.1=Bn io k:=by cases a<;>simp [Ja] at h<;>rw [h]
theorem Bac {io:Bool} {k:Nat} {e:Ty} {te:TypeId} {a:AC} {t:Nat×Loc} (h:t∈Ja io k (.xrow e te) a):t.1=Bn io k:=by cases a<;>simp [Ja] at h<;>rw [h]
theorem Vg {D:Nat→Prop} {π':Pi} {fr:Bool} {e:Ty} {es:List Value} {y:e.den} (hD: ∀b,Own π' b∨X.Sc b→D b) (h:Cells w' D e es y):Cells w' (Bb X.w0.heap.size X.Sc π' (fr&&e.flat)) e es y:=by
 cases hf:e.flat with
 |true=>exact Cells.flat e es y hf h
 |false=>exact Cells.Ch (Nat.le_refl _) (fun _ _ _=>rfl) (fun b _ hb=>by
   rcases hb with hb|hb|⟨hb,_⟩
   ·exact hD b (.inl hb)
   ·exact hD b (.inr hb)
   ·simp at hb) e es y h
theorem Bad {D P:Nat→Prop} {g o:Nat} {cur:Array Value} {tr:Bool} {e:Ty} {xs:List e.den}
  (h: ∀(i:Nat) (x:e.den),xs[i]?=some x→ ∃es:List Value,es.length=e.size∧(∀j u,es[j]?=some u→cur[(o+i)*e.size+j]?=some u)∧Cells w' D e es x) (ht:(tr&&e.flat)=true):Mu w' P g o cur e xs:=by
 simp only [Bool.and_eq_true] at ht
 exact Ads ht.2 h
theorem Azm {D:Nat→Prop} (h:Gj X w π H) {k:Nat} {c:CK} {ys:c.den} {a:AC} {u:Value} {r:Option Real} {x:c.den} {cur st1:St} (hs:w.heap.size≤w'.heap.size)
  (hU: ∀l i j q b,a= .sub l i j→π l=some q→q.Av b→b<w.heap.size→(∀r',r=some r'→ ¬r'.Av b)→w'.heap[b]?=w.heap[b]?)
  {V:List Nat} (ht:Uw w (Hu X π V) r u c x∧Kq w π H true a u r c x) (hr:Ww w' D r c ys) (he:Rx cur c ys a=some st1) (hcur: ∀t∈Ja true k c a,Ac cur.heap t.2.lab=Ac H t.2.lab):
  st1.tmps=cur.tmps∧(∀m,(∀t∈Ja true k c a,m≠t.2.lab)→Ac st1.heap m=Ac cur.heap m)∧ ∀t∈Ja true k c a,Ad6 X D w' π H st1.heap t.2.lab:=by
 obtain ⟨hc,ht⟩:=ht
 cases c with
 |dat τ=>cases a<;>simp [Rx] at he;subst he;exact ⟨rfl,fun _ _=>rfl,fun t ht=>by simp [Ja] at ht⟩
 |row e te=>
  simp only [Kq] at ht
  cases a<;>simp only [] at ht<;>first|(exact ht.elim)|skip
  ·simp only [Rx,Option.some.injEq] at he;subst he
   exact ⟨rfl,fun _ _=>rfl,fun t ht=>by simp [Ja] at ht⟩
  ·rename_i l off len
   obtain ⟨rfl,rfl,rfl,fr,tr,hl⟩:=ht
   have hcl:Ac cur.heap l=some (.arr fr tr e te x):=(hcur _ (List.mem_singleton.2 rfl)).trans hl
   simp only [Rx,St.at,hcl] at he
   split at he
   ·rename_i hcond
    obtain ⟨_,h1,_⟩:=hcond
    simp only [Option.some.injEq] at he;subst he
    refine ⟨rfl,fun m hm=>Cb _ _ _ _ (hm _ (List.mem_singleton.2 rfl)),fun t htt=>?_⟩
    have htt:=List.mem_singleton.1 htt
    subst htt
    refine ⟨_,_,hl,Cf _ _ _ _ hcl,fun _=>rfl,fun _=>rfl,⟨rfl,h1.symm⟩,fun π' H' hD=>?_⟩
    have hb:=(h.heap l).blk hl
    change Aq X w' π' H' (π l) _
    simp only [Aq,El] at hb⊢
    cases hp:π l with
    |none=>rw [hp] at hr;exact hr
    |some q=>
     rw [hp] at hr hb
     obtain ⟨k1,cu,ti,k2,k3,k4,k5,k6⟩:=hr
     exact ⟨⟨k1.1,k1.2,fun hh=>hb.1.2.2 (by simp only [Bool.and_eq_true] at hh;exact hh.1)⟩,cu,ti,k2,k3,k4,k5,fun i y hy=>by
      obtain ⟨es,g1,g2,g3⟩:=k6 i y hy
      exact ⟨es,g1,g2,Vg hD g3⟩,fun ht=>Bad k6 ht⟩
   ·cases he
  ·rename_i l i j
   obtain ⟨⟨_,hf⟩,tid,xs,hl,hx,q,hq,hfoot,hre⟩:=ht
   have hcl:Ac cur.heap l=some (.xarr (.slice e) tid xs):=(hcur _ (List.mem_singleton.2 rfl)).trans hl
   simp only [Rx,St.at,hcl,hx] at he
   rw [dif_pos trivial] at he
   ·split at he
    ·rename_i h1
     simp only [Option.some.injEq] at he;subst he
     refine ⟨rfl,fun m hm=>Cb _ _ _ _ (hm _ (List.mem_singleton.2 rfl)),fun t htt=>?_⟩
     have htt:=List.mem_singleton.1 htt
     subst htt
     refine ⟨_,_,hl,Cf _ _ _ _ hcl,fun _=>rfl,fun _=>rfl,⟨rfl,by simp⟩,fun π' H' _=>?_⟩
     show Hf w' (π l) (.slice e) tid _
     rw [hq]
     refine hre w' ys hs (fun b hlt hb hn=>hU l i j q b rfl hq hb hlt hn) ?_
     have hv:=hc.1
     rw [←show List.length ys=List.length x from h1] at hv
     exact Kf.Ax8 hr hf hv
    ·cases he
 |xrow e te=>
  simp only [Kq] at ht
  cases a<;>simp only [] at ht<;>first|(exact ht.elim)|skip
  ·simp only [Rx,Option.some.injEq] at he;subst he
   exact ⟨rfl,fun _ _=>rfl,fun t ht=>by simp [Ja] at ht⟩
  ·rename_i l off len
   obtain ⟨rfl,rfl,rfl,hl⟩:=ht
   have hcl:Ac cur.heap l=some (.xarr e te x):=(hcur _ (List.mem_singleton.2 rfl)).trans hl
   simp only [Rx,St.at,hcl] at he
   split at he
   ·rename_i hcond
    obtain ⟨_,h1,_⟩:=hcond
    simp only [Option.some.injEq] at he;subst he
    refine ⟨rfl,fun m hm=>Cb _ _ _ _ (hm _ (List.mem_singleton.2 rfl)),fun t htt=>?_⟩
    have htt:=List.mem_singleton.1 htt
    subst htt
    refine ⟨_,_,hl,Cf _ _ _ _ hcl,fun _=>rfl,fun _=>rfl,⟨rfl,h1.symm⟩,fun π' H' _=>?_⟩
    show Hf w' (π l) e te _
    cases hp:π l with
    |none=>rw [hp] at hr;exact hr
    |some q=>rw [hp] at hr;exact hr
   ·cases he
  ·rename_i l i j
   obtain ⟨_,tid,xs,hl,hx,q,hq,hfoot,hre⟩:=ht
   have hcl:Ac cur.heap l=some (.xarr (.slice e) tid xs):=(hcur _ (List.mem_singleton.2 rfl)).trans hl
   simp only [Rx,St.at,hcl,hx] at he
   rw [dif_pos trivial] at he
   ·split at he
    ·rename_i h1
     simp only [Option.some.injEq] at he;subst he
     refine ⟨rfl,fun m hm=>Cb _ _ _ _ (hm _ (List.mem_singleton.2 rfl)),fun t htt=>?_⟩
     have htt:=List.mem_singleton.1 htt
     subst htt
     refine ⟨_,_,hl,Cf _ _ _ _ hcl,fun _=>rfl,fun _=>rfl,⟨rfl,by simp⟩,fun π' H' _=>?_⟩
     show Hf w' (π l) (.slice e) tid _
     rw [hq]
     refine hre w' ys hs (fun b hlt hb hn=>hU l i j q b rfl hq hb hlt hn) ?_
     have hv:=hc.1
     rw [←show List.length ys=List.length x from h1] at hv
     exact Hf.Ax8 (te:=te) hr hv
    ·cases he
 |part e te=>cases a<;>simp [Rx] at he<;>first|(simp only [Kq] at ht;exact ht.2.elim)
 |grid e te kp=>exact absurd ht.1 (by simp)
theorem Azn {D:Nat→Prop} (h:Gj X w π H) {k:Nat} {e:Ty} {te:TypeId} {ys:List e.den} {a:AC} {u:Value} {r:Option Real} {x:(CK.part e te).den} {cur st1:St}
  {V:List Nat} (ht:Uw w (Hu X π V) r u (.part e te) x∧Kq w π H true a u r (.part e te) x) (hr:Ww w' D r (.row e te) ys) (he:Awk cur e ys a=some st1) (hcur: ∀t∈Ja true k (.part e te) a,Ac cur.heap t.2.lab=Ac H t.2.lab):
  st1.tmps=cur.tmps∧(∀m,(∀t∈Ja true k (.part e te) a,m≠t.2.lab)→Ac st1.heap m=Ac cur.heap m)∧ ∀t∈Ja true k (.part e te) a,Ad6 X D w' π H st1.heap t.2.lab:=by
 obtain ⟨hc,hf,ht⟩:=ht
 cases a<;>simp only [] at ht<;>first|(exact ht.elim)|skip
 rename_i l off len
 obtain ⟨rfl,_,fr,tr,hl⟩:=ht
 have hcl:Ac cur.heap l=some (.arr fr tr e te x.1):=(hcur _ (List.mem_singleton.2 rfl)).trans hl
 simp only [Awk,St.at,hcl] at he
 split at he
 ·rename_i hcond
  obtain ⟨_,h1⟩:=hcond
  simp only [Option.some.injEq] at he;subst he
  refine ⟨rfl,fun m hm=>Cb _ _ _ _ (hm _ (List.mem_singleton.2 rfl)),fun t htt=>?_⟩
  have htt:=List.mem_singleton.1 htt
  subst htt
  refine ⟨_,_,hl,Cf _ _ _ _ hcl,fun _=>rfl,fun _=>rfl,⟨rfl,h1.symm⟩,fun π' H' _=>?_⟩
  have hb:=(h.heap l).blk hl
  change Aq X w' π' H' (π l) _
  simp only [Aq,El] at hb⊢
  cases hp:π l with
  |none=>rw [hp] at hr;exact hr
  |some q=>
   rw [hp] at hr hb
   obtain ⟨k1,cu,ti,k2,k3,k4,k5,k6⟩:=hr
   exact ⟨⟨k1.1,k1.2,hb.1.2.2⟩,cu,ti,k2,k3,k4,k5,fun i y hy=>by
    obtain ⟨es,g1,g2,g3⟩:=k6 i y hy
    exact ⟨es,g1,g2,Cells.flat e es y hf g3⟩,fun _=>Ads hf k6⟩
 ·cases he
def Ahv (X:Ctx) (D:Nat→Prop) (w':World) (π:Pi) (H:List (Nat×OB)) (tk:List (Nat×Loc)) (cur st1:St):Prop:=
 st1.tmps=cur.tmps∧(∀m,(∀t∈tk,m≠t.2.lab)→Ac st1.heap m=Ac cur.heap m)∧(∀t∈tk,t.1<Ag→Ac st1.heap t.2.lab=Ac cur.heap t.2.lab)∧(∀t∈tk,¬t.1<Ag→Ad6 X D w' π H st1.heap t.2.lab)
theorem Ajz {D:Nat→Prop} (h:Gj X w π H) {V:List Nat} {πc:Pi} {tks:List (Nat×Loc)} (hs:w.heap.size≤w'.heap.size)
  (hU: ∀t∈tks,∀q b,π t.2.lab=some q→q.Av b→b<w.heap.size→(∀r',πc t.1=some r'→ ¬r'.Av b)→w'.heap[b]?=w.heap[b]?):
  ∀(cs:List (Bool×CK)) (k:Nat) (x:Ins.den cs) (as:List AC) (us:List Value) (o:IOs.den cs) (cur st1:St),k+cs.length<100000→(∀t∈Fu k cs as,t∈tks)→((Fu k cs as).map fun t=>t.2.lab).Nodup→
   Ahg X w π V H πc k cs x as us→Fw w' D πc k cs o→Di cs o as cur=some st1→(∀t∈Fu k cs as,Ac cur.heap t.2.lab=Ac H t.2.lab)→
   Ahv X D w' π H (Fu k cs as) cur st1
 | [],k,x,as,us,o,cur,st1,_,_,_,_,_,he,_=>by
  simp only [Di,Option.some.injEq] at he;subst he
  have e0:Fu k [] as= []:=by cases as<;>rfl
  exact ⟨rfl,fun _ _=>rfl,by rw [e0];simp,by rw [e0];simp⟩
 |p::r,k,x,[],us,o,cur,st1,_,_,_,ht,_,_,_=>ht.elim
 |p::r,k,x,a::as,[],o,cur,st1,_,_,_,ht,_,_,_=>ht.elim
 |(io,c)::r,k,x,a::as,u::us,o,cur,st1,hk,hsub,hnd,ht,ho,he,hcur=>by
  simp only [List.length_cons] at hk
  simp only [Fu] at hsub hnd hcur⊢
  rw [List.map_append] at hnd
  obtain ⟨n1,n2,n3⟩:=List.nodup_append.1 hnd
  have apart: ∀t∈Ja io k c a,∀t'∈Fu (k+1) r as,t'.2.lab≠t.2.lab:=fun t h1 t' h2 e=>n3 _ (List.mem_map.2 ⟨t,h1,rfl⟩) _ (List.mem_map.2 ⟨t',h2,rfl⟩) e.symm
  have rest: ∀(cur':St) (o':IOs.den r),Fw w' D πc (k+1) r o'→Di r o' as cur'=some st1→cur'.tmps=cur.tmps→(∀m,(∀t∈Ja io k c a,m≠t.2.lab)→Ac cur'.heap m=Ac cur.heap m)→
    (∀t∈Ja io k c a,t.1<Ag→Ac cur'.heap t.2.lab=Ac cur.heap t.2.lab)→(∀t∈Ja io k c a,¬t.1<Ag→Ad6 X D w' π H cur'.heap t.2.lab)→
    Ahv X D w' π H (Ja io k c a++Fu (k+1) r as) cur st1:=by
   intro cur' o' h1 h2 h3 h4 h5 h6
   obtain ⟨g1,g2,g3,g4⟩:=Ajz h hs hU r (k+1) x.2 as us o' cur' st1 (by omega) (fun t ht=>hsub t (List.mem_append_right _ ht)) n2 ht.2 h1 h2 (fun t htt=>by
    rw [h4 _ fun t0 ht0=>apart t0 ht0 t htt];exact hcur t (List.mem_append_right _ htt))
   have hd: ∀t∈Ja io k c a,Ac st1.heap t.2.lab=Ac cur'.heap t.2.lab:=fun t htt=>g2 _ fun t' ht'=>(apart t htt t' ht').symm
   refine ⟨g1.trans h3,fun m hm=>?_,fun t htt hlt=>?_,fun t htt hlt=>?_⟩
   ·rw [g2 m fun t ht=>hm t (List.mem_append_right _ ht),h4 m fun t ht=>hm t (List.mem_append_left _ ht)]
   ·rcases List.mem_append.1 htt with htt|htt
    ·rw [hd t htt,h5 t htt hlt]
    ·rw [g3 t htt hlt,h4 _ fun t0 ht0=>apart t0 ht0 t htt]
   ·rcases List.mem_append.1 htt with htt|htt
    ·obtain ⟨b0,b',q1,q2,q3⟩:=h6 t htt hlt
     exact ⟨b0,b',q1,(hd t htt).trans q2,q3⟩
    ·exact g4 t htt hlt
  have same: ∀o',Fw w' D πc (k+1) r o'→Di r o' as cur=some st1→(∀t∈Ja io k c a,t.1<Ag)→Ahv X D w' π H (Ja io k c a++Fu (k+1) r as) cur st1:=fun o' h1 h2 h3=>rest cur o' h1 h2 rfl (fun _ _=>rfl) (fun _ _ _=>rfl) (fun t h4 h5=>absurd (h3 t h4) h5)
  cases io with
  |false=>
   have h3: ∀t∈Ja false k c a,t.1<Ag:=fun t h4=>by rcases Aub h4 with ⟨h5,_⟩|⟨h5,_⟩<;>(rw [h5];exact Wg (by omega))
   cases c with
   |dat τ=>exact same o ho (by simpa only [Di] using he) h3
   |row e te=>exact same o ho (by simpa only [Di] using he) h3
   |xrow e te=>exact same o ho (by simpa only [Di] using he) h3
   |part e te=>exact same o ho (by simpa only [Di] using he) h3
   |grid e te kp=>exact same o ho (by simpa only [Di] using he) h3
  |true=>
   have row: ∀(ys:c.den) (o':IOs.den r),(∀t∈Ja true k c a,t.1=Bn true k)→Ww w' D (πc (Bn true k)) c ys→Fw w' D πc (k+1) r o'→(∃cur',Rx cur c ys a=some cur'∧Di r o' as cur'=some st1)→Ahv X D w' π H (Ja true k c a++Fu (k+1) r as) cur st1:=by
    intro ys o' h0 h1 h2 h3
    obtain ⟨cur',hp,h3⟩:=h3
    ·obtain ⟨q1,q2,q3⟩:=Azm (k:=k) h hs (fun l i j q b ea hq hb hlt hn=>by
      cases c with
      |dat τ=>exact absurd (ht.1.2:πc _=none) (by subst ea;simp [Rx] at hp)
      |row e te=>subst ea;exact hU (Bn true k, .sub l i j) (hsub _ (List.mem_append_left _ (List.mem_singleton.2 rfl))) q b hq hb hlt hn
      |xrow e te=>subst ea;exact hU (Bn true k, .sub l i j) (hsub _ (List.mem_append_left _ (List.mem_singleton.2 rfl))) q b hq hb hlt hn
      |grid e te kp=>exact absurd ht.1.2.1 (by simp)
      |part e te=>exact absurd ht.1.2.2 (by subst ea;exact fun h=>h)) ht.1 h1 hp (fun t htt=>hcur t (List.mem_append_left _ htt))
     exact rest cur' o' h2 h3 q1 q2 (fun t h4 h5=>absurd h5 (by rw [h0 t h4];exact Qj k)) (fun t h4 _=>q3 t h4)
   cases c with
   |dat τ=>exact same o ho (by simpa only [Di] using he) (fun t h4=>by rw [Bcp h4];exact Wg (by omega))
   |grid e te kp=>exact absurd ht.1.2.1 (by simp)
   |row e te=>
    simp only [Di] at he
    split at he
    ·rename_i cur' hp;exact row o.1 o.2 (fun t ht=>Bcq ht) ho.1 ho.2 ⟨cur',hp,he⟩
    ·cases he
   |xrow e te=>
    simp only [Di] at he
    split at he
    ·rename_i cur' hp;exact row o.1 o.2 (fun t ht=>Bac ht) ho.1 ho.2 ⟨cur',hp,he⟩
    ·cases he
   |part e te=>
    simp only [Di] at he
    split at he
    ·rename_i cur' hp
     obtain ⟨q1,q2,q3⟩:=Azn (k:=k) h ht.1 ho.1 hp (fun t htt=>hcur t (List.mem_append_left _ htt))
     exact rest cur' o.2 ho.2 he q1 q2 (fun t h4 h5=>absurd h5 (by rw [Bab h4];exact Qj k)) (fun t h4 _=>q3 t h4)
    ·cases he
theorem Aw1 {fr:Bool} {c:CK} {x:c.den} {u:Value} {r:Option Real} {D:Nat→Prop} (h:Uw w' D r u c x):
  (Ale fr c x=none∧r=none)∨ ∃b',Ale fr c x=some b'∧ ∀(X:Ctx) π' H',(fr=true→ ∀q,r=some q→X.w0.heap.size≤q.g)→(∀b,Own π' b∨X.Sc b→D b)→Aq X w' π' H' r b':=by
 cases c with
 |dat τ=>exact .inl ⟨rfl,h.1⟩
 |row e te=>
  refine .inr ⟨_,rfl,fun X π' H' hfr hD=>?_⟩
  obtain ⟨_,h⟩:=h
  simp only [Ww] at h
  simp only [Aq,El]
  cases r with
  |none=>exact h
  |some q=>
   obtain ⟨k1,cu,ti,k2,k3,k4,k5,k6⟩:=h
   exact ⟨⟨k1.1,k1.2,fun h1=>hfr (by simp only [Bool.and_eq_true] at h1;exact h1.1) q rfl⟩,cu,ti,k2,k3,k4,k5,fun i y hy=>by
    obtain ⟨es,g1,g2,g3⟩:=k6 i y hy
    exact ⟨es,g1,g2,Vg hD g3⟩,fun h=>by cases h⟩
 |xrow e te=>exact .inr ⟨_,rfl,fun X π' H' _ _=>h.2⟩
 |grid e te kp=>exact .inr ⟨_,rfl,fun X π' H' _ hD=>⟨Pk.Eb h.2 fun b hb=>hD b (hb.imp id fun h=>h.elim id fun h=>by cases h.1),trivial⟩⟩
 |part e te=>
  refine .inr ⟨_,rfl,fun X π' H' hfr hD=>?_⟩
  obtain ⟨_,hf,h⟩:=h
  simp only [Aq,El]
  cases r with
  |none=>exact h
  |some q=>
   obtain ⟨k1,cu,ti,k2,k3,k4,k5,k6⟩:=h
   exact ⟨⟨k1.1,k1.2,fun h1=>hfr (by simp only [Bool.and_eq_true] at h1;exact h1.1) q rfl⟩,cu,ti,k2,k3,k4,k5,fun i y hy=>by
    obtain ⟨es,g1,g2,g3⟩:=k6 i y hy
    exact ⟨es,g1,g2,Vg hD g3⟩,fun h=>by cases h⟩
theorem Ah5 {D:Nat→Prop} {key:Nat→Nat} (hkey: ∀i j,key i=key j→i=j) {fr:Bool} {ρ:Pi} : ∀(cs:List CK) (k:Nat) (x:CKs.den cs) (us:List Value) (H:List (Nat×OB)),Ec w' D ρ k cs x us→
  (∀j,k≤j→j<k+cs.length→Ac H (key j)=none)→
  (∀l,(∀j,k≤j→j<k+cs.length→l≠key j)→Ac (Nk fr key k cs x H) l=Ac H l)∧
  (∀j,k≤j→j<k+cs.length→(Ac (Nk fr key k cs x H) (key j)=none∧ρ (Ep j)=none)∨
   ∃b',Ac (Nk fr key k cs x H) (key j)=some b'∧ ∀(X:Ctx) π' H',(fr=true→ ∀q,ρ (Ep j)=some q→X.w0.heap.size≤q.g)→(∀b,Own π' b∨X.Sc b→D b)→Aq X w' π' H' (ρ (Ep j)) b')∧
  (∀π',(∀b,Own π' b∨X.Sc b→D b)→(∀j,k≤j→j<k+cs.length→π' (key j)=ρ (Ep j))→Gp X w' π' (Nk fr key k cs x H) (Rk key k cs x) us)
 | [],k,x,[],H,_,_=>⟨fun _ _=>rfl,fun j h1 h2=>by simp at h2;omega,fun _ _ _=>trivial⟩
 | [],_,_,_::_,_,h,_=>h.elim
 |_::_,_,_,[],_,h,_=>h.elim
 |c::r,k,x,u::us,H,h,hn=>by
  simp only [List.length_cons] at hn⊢
  simp only [Nk,Rk]
  have hk0:=hn k (Nat.le_refl _) (by omega)
  have hH1: ∀l,l≠key k→Ac (Asf H (key k) (Ale fr c x.1)) l=Ac H l:=by
   intro l hl
   cases Ale fr c x.1 with
   |some b=>exact Ic _ _ _ _ hl
   |none=>rfl
  have hH1k:Ac (Asf H (key k) (Ale fr c x.1)) (key k)=Ale fr c x.1:=by
   cases Ale fr c x.1 with
   |some b=>exact Jc _ _ _ hk0
   |none=>exact hk0
  generalize (Asf H (key k) (Ale fr c x.1))=H1 at hH1 hH1k⊢
  obtain ⟨g1,g2,g3⟩:=Ah5 hkey (fr:=fr) r (k+1) x.2 us H1 h.2 (fun j h1 h2=>by
   rw [hH1 _ fun e=>by have:=hkey _ _ e;omega];exact hn j (by omega) (by omega))
  have hkk:Ac (Nk fr key (k+1) r x.2 H1) (key k)=Ale fr c x.1:=by
   rw [g1 _ fun j h1 h2 e=>by have:=hkey _ _ e;omega];exact hH1k
  refine ⟨fun l hl=>?_,fun j h1 h2=>?_,fun π' hd hπ=>⟨?_,?_⟩⟩
  ·rw [g1 l fun j h1 h2=>hl j (by omega) (by omega)]
   exact hH1 l (hl k (Nat.le_refl _) (by omega))
  ·rcases Nat.eq_or_lt_of_le h1 with e|h1
   ·subst e
    rw [hkk]
    exact Aw1 h.1
   ·exact g2 j h1 (by omega)
  ·have h1:=h.1
   have hpk:=hπ k (Nat.le_refl _) (by omega)
   cases c with
   |dat τ=>
    obtain ⟨cs',c1,c2⟩:=h1.2
    exact ⟨cs',by have:=Vg (fr:=true) hd c1;simpa using this,c2⟩
   |row e te=>exact ⟨_,e.size,List.length x.1,hkk,rfl,by simp,by rw [hpk];exact h1.1⟩
   |xrow e te=>exact ⟨_,e.size,List.length x.1,hkk,rfl,by simp,by rw [hpk];exact h1.1⟩
   |grid e te kp=>exact ⟨_,1,List.length x.1,hkk,rfl,by simp,by rw [hpk];exact h1.1⟩
   |part e te=>trivial
  ·exact g3 π' hd fun j h1 h2=>hπ j (by omega) (by omega)
theorem Avt {ks:List Nat} {n:Nat} (h:Ap9 ks n=true):ks.length=n∧ks.Nodup∧ ∀l∈ks,l<Ag:=by
 unfold Ap9 at h
 simp only [Bool.and_eq_true] at h
 refine ⟨Nat.eq_of_beq_eq_true h.1,Nj h.2.1,fun l hl=>?_⟩
 have:=List.all_eq_true.1 h.2.2 l hl
 simpa using this
theorem Jm {ks:List Nat} {j:Nat} (h:j<ks.length):Bo ks j=ks[j]:=by
 unfold Bo
 rw [List.getElem?_eq_getElem h]
theorem Arq {ks:List Nat} (hn:ks.Nodup) (hl: ∀l∈ks,l<Ag): ∀i j,Bo ks i=Bo ks j→i=j:=by
 intro i j h
 by_cases hi:i<ks.length
 ·by_cases hj:j<ks.length
  ·rw [Jm hi,Jm hj] at h
   rcases Nat.lt_trichotomy i j with hlt|he|hlt
   ·exact absurd h (List.pairwise_iff_getElem.1 hn i j hi hj hlt)
   ·exact he
   ·exact absurd h.symm (List.pairwise_iff_getElem.1 hn j i hj hi hlt)
  ·have h1:=hl _ (List.getElem_mem hi)
   rw [Jm hi] at h
   unfold Bo at h
   rw [List.getElem?_eq_none (by omega)] at h
   simp only at h
   omega
 ·by_cases hj:j<ks.length
  ·have h1:=hl _ (List.getElem_mem hj)
   rw [Jm hj] at h
   unfold Bo at h
   rw [List.getElem?_eq_none (by omega)] at h
   simp only at h
   omega
  ·unfold Bo at h
   rw [List.getElem?_eq_none (by omega),List.getElem?_eq_none (by omega)] at h
   simp only at h
   omega
theorem Gx: ∀(H:List (Nat×OB)) (dead:List Nat) (l:Nat),Ac (Mx H dead) l=if l∈dead then none else Ac H l
 | [],dead,l=>by simp [Mx,Ac]
 |(k,b)::r,dead,l=>by
  simp only [Mx]
  have ih:=Gx r dead l
  by_cases hk:k∈dead
  ·rw [if_pos (by simpa using hk),ih]
   split
   ·rfl
   ·rename_i hl
    simp only [Ac]
    rw [if_neg (fun (e:k=l)=>hl (e▸hk))]
  ·rw [if_neg (by simpa using hk)]
   simp only [Ac]
   split
   ·rename_i e;subst e;rw [if_neg hk]
   ·exact ih
theorem mem_keys {ks:List Nat} {l:Nat} :l∈ks↔ ∃k,k<ks.length∧l=Bo ks k:=
 ⟨fun h=>by obtain ⟨k,hk,e⟩:=List.getElem_of_mem h;exact ⟨k,hk,by rw [Jm hk,e]⟩,fun ⟨k,hk,e⟩=>by rw [e,Jm hk];exact List.getElem_mem hk⟩
theorem Ul {tks:List (Nat×Loc)} {l:Nat} :l∈Adj tks↔ ∃t∈tks,(t.1<Ag∧t.2.reads=false)∧t.2.lab=l:=by
 unfold Adj
 simp only [List.mem_map,List.mem_filter,Bool.and_eq_true,Nat.blt_eq,Bool.not_eq_true']
 exact ⟨fun ⟨t,⟨h1,h2⟩,h3⟩=>⟨t,h1,h2,h3⟩,fun ⟨t,h1,h2,h3⟩=>⟨t,⟨h1,h2⟩,h3⟩⟩
theorem Apa {tks:List (Nat×Loc)} (h:(tks.map fun t=>t.2.lab).Nodup) {t t':Nat×Loc} (ht:t∈tks) (ht':t'∈tks) (he:t.2.lab=t'.2.lab):t=t':=by
 induction tks with
 |nil=>cases ht
 |cons a r ih=>
  simp only [List.map_cons] at h
  obtain ⟨h1,h2⟩:=List.nodup_cons.1 h
  rcases List.mem_cons.1 ht with rfl|ht<;>rcases List.mem_cons.1 ht' with rfl|ht'
  ·rfl
  ·exact (h1 (List.mem_map.2 ⟨t',ht',he.symm⟩)).elim
  ·exact (h1 (he▸List.mem_map.2 ⟨t,‹t∈r›,rfl⟩)).elim
  ·exact ih h2 ht ht'
theorem Ec.full {D:Nat→Prop} {ρ:Pi} : ∀(cs:List CK) (k:Nat) (x:CKs.den cs) (us:List Value),Ec w D ρ k cs x us→Ec w D (fun l=>(ρ l).map full) k cs x us
 | [],_,_,[],h=>h
 | [],_,_,_::_,h=>h.elim
 |_::_,_,_,[],h=>h.elim
 |c::r,k,x,u::us,h=>⟨by
   have h1:=h.1
   show Uw w D ((ρ (Ep k)).map _) u c x.1
   cases c with
   |dat τ=>rw [h1.1];exact ⟨rfl,h1.2⟩
   |row e te=>cases hp:ρ (Ep k)<;>(rw [hp] at h1;exact h1)
   |xrow e te=>cases hp:ρ (Ep k)<;>(rw [hp] at h1;exact h1)
   |grid e te kp=>cases hp:ρ (Ep k)<;>(rw [hp] at h1;exact h1)
   |part e te=>cases hp:ρ (Ep k)<;>(rw [hp] at h1;exact h1),Ec.full r (k+1) x.2 us h.2⟩
theorem Ec.Beh {D:Nat→Prop} {ρ:Pi} : ∀(cs:List CK) (k0:Nat) (x:CKs.den cs) (us:List Value),Ec w D ρ k0 cs x us→ ∀j,k0≤j→j<k0+cs.length→ ∀q,ρ (Ep j)=some q→q.Av q.g
 | [],k0,_,_,_,j,h1,h2,_,_=>by simp at h2;omega
 |_::_,_,_,[],h,_,_,_,_,_=>h.elim
 |c::r,k0,x,u::us,ho,j,h1,h2,q,hq=>by
  rcases Nat.eq_or_lt_of_le h1 with e|h1
  ·subst e
   have:=ho.1
   cases c with
   |dat τ=>rw [hq] at this;cases this.1
   |row e te=>rw [hq] at this;exact this.2.1.1
   |xrow e te=>rw [hq] at this;exact this.2.1
   |part e te=>rw [hq] at this;exact this.2.2.1.1
   |grid e te kp=>rw [hq] at this;exact this.2.1
  ·exact Ec.Beh r (k0+1) x.2 us ho.2 j h1 (by simp at h2;omega) q hq
theorem Kf.any {D D':Nat→Prop} {r:Option Real} {e:Ty} {xs:List e.den} (hf:e.flat=true) (h:Kf w D r e xs):Kf w D' r e xs:=by
 cases r with
 |none=>exact h
 |some r=>
  obtain ⟨k1,cu,ti,k2,k3,k4,k5,k6⟩:=h
  exact ⟨k1,cu,ti,k2,k3,k4,k5,fun i y hy=>by
   obtain ⟨es,g1,g2,g3⟩:=k6 i y hy
   exact ⟨es,g1,g2,Cells.flat e es y hf g3⟩⟩
theorem Ec.any {D D':Nat→Prop} {ρ:Pi} : ∀(cs:List CK) (k:Nat) (x:CKs.den cs) (us:List Value),cs.all (·.flat)=true→Ec w D ρ k cs x us→Ec w D' ρ k cs x us
 | [],_,_,[],_,h=>h
 | [],_,_,_::_,_,h=>h.elim
 |_::_,_,_,[],_,h=>h.elim
 |c::r,k,x,u::us,hf,h=>by
  simp only [List.all_cons,Bool.and_eq_true] at hf
  refine ⟨?_,Ec.any r (k+1) x.2 us hf.2 h.2⟩
  have h1:=h.1
  cases c with
  |dat τ=>exact ⟨h1.1,Bc.flat hf.1 h1.2⟩
  |row e te=>exact ⟨h1.1,Kf.any hf.1 h1.2⟩
  |xrow e te=>exact h1
  |part e te=>exact ⟨h1.1,h1.2.1,Kf.any hf.1 h1.2.2⟩
  |grid e te kp=>exact absurd hf.1 (by simp [CK.flat])
theorem Fw.any {D D':Nat→Prop} {π:Pi} : ∀(cs:List (Bool×CK)) (k:Nat) (x:IOs.den cs),(cs.all fun p=>!p.1||p.2.flat)=true→Fw w D π k cs x→Fw w D' π k cs x
 | [],_,_,_,h=>h
 |(false,_)::r,k,x,hf,h=>Fw.any r (k+1) x (by simp only [List.all_cons,Bool.and_eq_true] at hf;exact hf.2) h
 |(true, .dat _)::r,k,x,hf,h=>Fw.any r (k+1) x (by simp only [List.all_cons,Bool.and_eq_true] at hf;exact hf.2) h
 |(true, .grid _ _ _)::r,k,x,hf,h=>Fw.any r (k+1) x (by simp only [List.all_cons,Bool.and_eq_true] at hf;exact hf.2) h
 |(true, .row e te)::r,k,x,hf,h=>by
  simp only [List.all_cons,Bool.and_eq_true,Bool.not_true,Bool.false_or] at hf
  exact ⟨Kf.any hf.1 h.1,Fw.any r (k+1) x.2 hf.2 h.2⟩
 |(true, .xrow e te)::r,k,x,hf,h=>by
  simp only [List.all_cons,Bool.and_eq_true,Bool.not_true,Bool.false_or] at hf
  exact ⟨h.1,Fw.any r (k+1) x.2 hf.2 h.2⟩
 |(true, .part e te)::r,k,x,hf,h=>by
  simp only [List.all_cons,Bool.and_eq_true,Bool.not_true,Bool.false_or] at hf
  exact ⟨Kf.any hf.1 h.1,Fw.any r (k+1) x.2 hf.2 h.2⟩
theorem Ajj {tks:List (Nat×Loc)} {l:Nat} :l∈Aqv tks↔ ∃t∈tks,t.2.reads=true∧t.2.lab=l:=by
 unfold Aqv
 simp only [List.mem_map,List.mem_filter]
 exact ⟨fun ⟨t,⟨h1,h2⟩,h3⟩=>⟨t,h1,h2,h3⟩,fun ⟨t,h1,h2,h3⟩=>⟨t,⟨h1,h2⟩,h3⟩⟩
theorem Af.Aeg {st:St} {a:Act} (h:Af X π st a w) {f:AC→AC} (hu:f .undef= .undef) {gv:Nat→Prop} (hgv: ∀b,gv b→Own π b) (hb:Fa w.heap.size gv w w')
  (hown: ∀b,b<w.heap.size→Own π' b→Own π b)
  (hsub: ∀l r b,π' l=some r→r.Av b→r.cl b) (hplace: ∀l r b,π' l=some r→r.cl b→(X.w0.heap.size≤b∨X.gv b)∧b<w'.heap.size)
  (hinj: ∀l l' r r' b,π' l=some r→π' l'=some r'→r.cl b→r'.cl b→l=l')
  (hpin: ∀l,Ag≤l→Ac H' l≠none→Qu (X.pin l) (π' l))
  (hac:(∀fr τ cs x,Cells w (Bb X.w0.heap.size X.Sc π fr) τ cs x→Cells w' (Bb X.w0.heap.size X.Sc π' fr) τ cs x)→ ∀c v,Df X w π st.heap c v→Df X w' π' H' (f c) v)
  (hblk:Move X w w' π π' st.heap H' f→ ∀l b,Ac H' l=some b→Aq X w' π' H' (π' l) b)
  (hnone: ∀l,Ac H' l=none→π' l=none):
  Af X π' {tmps:=st.tmps.map (·.map f),heap:=H'} a w':=by
 have hc: ∀fr τ cs x,Cells w (Bb X.w0.heap.size X.Sc π fr) τ cs x→Cells w' (Bb X.w0.heap.size X.Sc π' fr) τ cs x:=fun fr τ cs x hh=>
  Cells.Ch hb.size (fun k hk hn=>hb.block k hk fun hg=>hn (.inl (hgv k hg))) (fun k hlt hA=>hA.imp (hown k hlt) id) τ cs x hh
 have m:Move X w w' π π' st.heap H' f:=⟨hac hc,hc⟩
 refine ⟨⟨⟨hb.os.trans h.1.below.os,hb.tape.trans h.1.below.tape,hb.output.trans h.1.below.output,Nat.le_trans h.1.below.size hb.size,fun k hk hn=>?_⟩,h.1.sc,hsub,hplace,hinj,hpin,fun l=>?_⟩,m.Awo hu h.2⟩
 ·refine (hb.block k (Nat.lt_of_lt_of_le hk h.1.below.size) fun hg=>?_).trans (h.1.below.block k hk hn)
  rcases (h.1.own (hgv k hg)).2 with h1|h1
  ·omega
  ·exact hn h1
 ·cases hh:Ac H' l with
  |none=>exact Cq.Mh (hnone l hh) hh
  |some b=>exact Cq.Hb (hblk m l b hh) hh
def Wx:Option Real→Option Real→Prop
 |none,none=>True
 |some r,some r'=>r.g=r'.g∧r.o=r'.o∧r.cap=r'.cap
 |_,_=>False
theorem Wx.Hl (r:Option Real):Wx r r:=by cases r<;>simp [Wx]
theorem Wx.some {r:Real} {r':Option Real} (h:Wx (some r) r'): ∃q,r'=some q∧r.g=q.g∧r.o=q.o∧r.cap=q.cap:=by
 cases r' with
 |none=>exact h.elim
 |some q=>exact ⟨q,rfl,h⟩
theorem Wx.own {r r':Option Real} (h:Wx r r') {sz off len:Nat} {v:Value} (hv:De r sz off len v):De r' sz off len v:=by
 cases r<;>cases r'<;>first|exact h.elim|skip
 ·exact hv
 ·obtain ⟨h1,h2,h3⟩:=h
  obtain ⟨ad,g1,g2,g3⟩:=hv
  exact ⟨ad,by rw [←h3];exact g1,by rw [←h3];exact g2,by rw [←h1,←h2,←h3];exact g3⟩
structure OB.Kl (b b':OB):Prop where
 row: ∀sz n,b.row=some (sz,n)→ ∃n',b'.row=some (sz,n')∧n≤n'
 inn: ∀p,b.inn=some p→b'.inn=some p
 gsz: ∀p,b.gsz=some p→b'.gsz=some p
 var: ∀tid vs,b= .var tid vs→ ∃tid' vs',b'= .var tid' vs'
 smp: ∀v m,b= .smp v m→ ∃m',b'= .smp v m'
theorem OB.Kl.map (f:AC→AC) (b:OB):b.Kl (b.map f) where
 row:=fun sz n h=>⟨n,by cases b<;>exact h,Nat.le_refl _⟩
 inn:=fun p h=>by cases b<;>exact h
 gsz:=fun p h=>by cases b<;>exact h
 var:=fun tid vs h=>by subst h;exact ⟨_,_,rfl⟩
 smp:=fun v m h=>by subst h;exact ⟨_,rfl⟩
theorem OB.Kl.Hl (b:OB):b.Kl b where
 row:=fun _sz n h=>⟨n,h,Nat.le_refl _⟩
 inn:=fun _p h=>h
 gsz:=fun _p h=>h
 var:=fun _tid _vs h=>⟨_,_,h⟩
 smp:=fun _v _m h=>⟨_,h⟩
theorem OB.Kl.trans {a b c:OB} (h:a.Kl b) (k:b.Kl c):a.Kl c where
 row:=fun sz n hr=>by
  obtain ⟨n1,h1,h2⟩:=h.row sz n hr
  obtain ⟨n2,h3,h4⟩:=k.row sz n1 h1
  exact ⟨n2,h3,by omega⟩
 inn:=fun p hp=>k.inn p (h.inn p hp)
 gsz:=fun p hp=>k.gsz p (h.gsz p hp)
 var:=fun tid vs hv=>by obtain ⟨t',v',h1⟩:=h.var tid vs hv;exact k.var t' v' h1
 smp:=fun v m hm=>by obtain ⟨m',h1⟩:=h.smp v m hm;exact k.smp v m' h1
theorem Aef {f:AC→AC} {D Pt:Nat→Prop} (hf: ∀c,f c= .undef∨(f c=c∧(∀k∈c.refs,¬D k)∧ ∀k i j,c= .sub k i j∨c= .sptr k i j→ ¬Pt k)) (hp: ∀k,¬D k→Wx (π k) (π' k))
  (hH: ∀k b,¬D k→Ac H k=some b→ ∃b',Ac H' k=some b'∧b.Kl b')
  (hg: ∀k r b,¬D k→ ¬Pt k→Ac H k=some b→b.inn≠none→π k=some r→w'.heap[r.g]?=w.heap[r.g]?)
  (hc: ∀fr τ cs x,Cells w (Bb X.w0.heap.size X.Sc π fr) τ cs x→Cells w' (Bb X.w0.heap.size X.Sc π' fr) τ cs x): ∀c v,Df X w π H c v→Df X w' π' H' (f c) v:=by
 intro c v h
 rcases hf c with e|⟨e,hr,hs⟩
 ·rw [e];trivial
 rw [e]
 cases c with
 |data fr τ x=>obtain ⟨cs,h1,h2⟩:=h;exact ⟨cs,hc _ _ _ _ h1,h2⟩
 |own k off len=>
  obtain ⟨b,sz,n,h1,h0,h2,h3⟩:=h
  have hk:=hr k (by simp [AC.refs])
  obtain ⟨b',g1,g2⟩:=hH k b hk h1
  obtain ⟨n',g3,g4⟩:=g2.row sz n h0
  exact ⟨b',sz,n',g1,g3,by omega,(hp k hk).own h3⟩
 |vptr k i=>
  obtain ⟨r,tid,vs,h1,h2,h3⟩:=h
  have hk:=hr k (by simp [AC.refs])
  obtain ⟨b',g1,g2⟩:=hH k _ hk h1
  obtain ⟨tid',vs',rfl⟩:=g2.var tid vs rfl
  obtain ⟨q,q1,q2,_⟩:=(h2▸hp k hk).some
  exact ⟨q,tid',vs',g1,q1,by rw [←q2];exact h3⟩
 |eptr k i=>
  obtain ⟨r,b,sz,n,h1,h0,h2,h3,h4⟩:=h
  have hk:=hr k (by simp [AC.refs])
  obtain ⟨b',g1,g2⟩:=hH k b hk h1
  obtain ⟨n',g3,g4⟩:=g2.row sz n h0
  obtain ⟨q,q1,q2,q3,_⟩:=(h3▸hp k hk).some
  exact ⟨q,b',sz,n',g1,g3,by omega,q1,by rw [←q2,←q3];exact h4⟩
 |sub k i c=>
  obtain ⟨r,b,sz,n,h1,h0,h2,h3,h4,h5⟩:=h
  have hk:=hr k (by simp [AC.refs])
  obtain ⟨b',g1,g2⟩:=hH k b hk h1
  obtain ⟨q,q1,q2,q3,_⟩:=(h2▸hp k hk).some
  exact ⟨q,b',sz,n,g1,g2.inn _ h0,q1,h3,h4,by rw [←q2,←q3,World.cell?_of_block (hg k r b hk (hs k i c (.inl rfl)) h1 (by rw [h0];simp) h2)];exact h5⟩
 |sptr k i c=>
  obtain ⟨r,b,n,sz,g,o,len,cap,h1,h0,h2,h3,h4,h5,h6⟩:=h
  have hk:=hr k (by simp [AC.refs])
  obtain ⟨b',g1,g2⟩:=hH k b hk h1
  obtain ⟨q,q1,q2,q3,_⟩:=(h2▸hp k hk).some
  exact ⟨q,b',n,sz,g,o,len,cap,g1,g2.gsz _ h0,q1,h3,h4,by rw [←q2,←q3,World.cell?_of_block (hg k r b hk (hs k i c (.inr rfl)) h1 (by cases b<;>first|(cases h0;done)|simp [OB.inn]) h2)];exact h5,h6⟩
 |clo g caps=>
  obtain ⟨us,h1,h2,h3⟩:=h
  refine ⟨us,h1,h2,fun j p hpj=>?_⟩
  obtain ⟨r,tid,vs,h4,h5,h6⟩:=h3 j p hpj
  have hk:=hr p.1 (by simp only [AC.refs,List.mem_map];exact ⟨p,List.mem_of_getElem? hpj,rfl⟩)
  obtain ⟨b',g1,g2⟩:=hH p.1 _ hk h4
  obtain ⟨tid',vs',rfl⟩:=g2.var tid vs rfl
  obtain ⟨q,q1,q2,_⟩:=(h5▸hp p.1 hk).some
  exact ⟨q,tid',vs',g1,q1,by rw [←q2];exact h6⟩
 |mapr k=>
  obtain ⟨r,vt,m,h1,h2,h3⟩:=h
  have hk:=hr k (by simp [AC.refs])
  obtain ⟨b',g1,g2⟩:=hH k _ hk h1
  obtain ⟨m',rfl⟩:=g2.smp vt m rfl
  obtain ⟨q,q1,q2,_⟩:=(h2▸hp k hk).some
  exact ⟨q,vt,m',g1,q1,by rw [←q2];exact h3⟩
 |_=>exact h
theorem Lq (H0:List (Nat×OB)) (ls:List Nat) (n:Nat): ∀(H:List (Nat×OB)) (l:Nat),Ac (Td H0 ls n H) l=(Ac H l).map fun b=>if ls.contains l then b.Atw (Rh n (Beu (Ac H0 l))) else b
 | [],_=>rfl
 |(k,b)::r,l=>by
  simp only [Td,Ac]
  split
  ·rename_i e;subst e;rfl
  ·exact Lq H0 ls n r l
theorem OB.Aq9 (b:OB) (kp:Option (Nat×Nat)):b.Kl (b.Atw kp):=by
 cases b with
 |grid e te rows out kp0=>exact ⟨fun sz n h=>⟨n,h,Nat.le_refl _⟩,fun p h=>h,fun p h=>h,(fun _ _ h=>by cases h),(fun _ _ h=>by cases h)⟩
 |_=>exact OB.Kl.Hl _
theorem Wp (ls:List Nat): ∀(l m:List AV) (t:Nat),l.length=m.length→(∃k i c,l.getD t .undef= .at (.sub k i c)∧ls.contains k=true∧(Ft ls l m).getD t .undef= .at (.sub k i c))∨(Ft ls l m).getD t .undef=m.getD t .undef
 | [],m,t,_=>by cases m<;>exact .inr rfl
 |_::_,[],t,h=>by simp at h
 |a::l,v::m,t,h=>by
  have ih:=fun t=>Wp ls l m t (by simpa using h)
  have tail: ∀u,Ft ls (a::l) (v::m)=u::Ft ls l m→(t=0→(∃k i c,(a::l).getD t .undef= .at (.sub k i c)∧ls.contains k=true∧u= .at (.sub k i c))∨u=v)→
    (∃k i c,(a::l).getD t .undef= .at (.sub k i c)∧ls.contains k=true∧(Ft ls (a::l) (v::m)).getD t .undef= .at (.sub k i c))∨(Ft ls (a::l) (v::m)).getD t .undef=(v::m).getD t .undef:=by
   intro u e h0
   rw [e]
   rcases t with _|t
   ·rcases h0 rfl with ⟨k,i,c,h1,h2,h3⟩|h3
    ·exact .inl ⟨k,i,c,h1,h2,by simpa using h3⟩
    ·exact .inr (by simpa using h3)
   ·simpa only [List.getD_cons_succ] using ih t
  cases a with
  | «at»c=>
   cases c with
   |sub k i c=>
    refine tail _ rfl fun ht=>?_
    subst ht
    by_cases hc:ls.contains k=true
    ·exact .inl ⟨k,i,c,rfl,hc,by rw [if_pos hc]⟩
    ·exact .inr (by rw [if_neg hc])
   |_=>exact tail _ rfl fun _=> .inr rfl
  |_=>exact tail _ rfl fun _=> .inr rfl
theorem Akq {H:List (Nat×OB)} {ls:List Nat} {n:Nat} : ∀ {l:List AV} {t k i c:Nat},Tl H ls n l=true→l.getD t .undef= .at (.sub k i c)→ls.contains k=true→i<n∧i<Ai0 H k
 | [],t,k,i,c,_,h,_=>by simp at h
 |a::l,0,k,i,c,ho,h,hc=>by
  simp only [List.getD_cons_zero] at h
  subst h
  simp only [Tl,hc,Bool.not_true,Bool.false_or,Bool.and_eq_true,Nat.blt_eq] at ho
  exact ho.1
 |a::l,t+1,k,i,c,ho,h,hc=>by
  refine Akq (l:=l) (t:=t) (c:=c) ?_ (by simpa only [List.getD_cons_succ] using h) hc
  cases a with
  | «at»d=>cases d with
   |sub _ _ _=>simp only [Tl,Bool.and_eq_true] at ho;exact ho.2
   |_=>exact ho
  |_=>exact ho
theorem Avq {st0 st:St} {a:Act} (h0:Af X π st0 a w) (h:Af X π' st a w') {ls:List Nat} {n:Nat} (hk: ∀l∈ls,Ar9 w w' (π l) (π' l) n) (hgr: ∀l∈ls,Adz st0.heap l=true)
  (hok:Tl st.heap ls n st0.tmps=true):Af X π' (Aci st0 st ls n) a w'∧ ∀c v,Ai X w' π' st.heap c v→Ai X w' π' (Aci st0 st ls n).heap c v:=by
 by_cases hls:ls= []
 ·subst hls;exact ⟨h,fun _ _ h=>h⟩
 have hst:Aci st0 st ls n= {tmps:=Ft ls st0.tmps st.tmps,heap:=Td st0.heap ls n st.heap} :=by
  cases ls with
  |nil=>exact absurd rfl hls
  |cons _ _=>rfl
 rw [hst]
 have hg0: ∀l∈ls,∃e te rows out kp,Ac st0.heap l=some (.grid e te rows out kp):=fun l hl=>by
  have:=hgr l hl
  unfold Adz at this
  split at this
  ·exact ⟨_,_,_,_,_,by assumption⟩
  ·cases this
 have srv: ∀k b,Ac st.heap k=some b→ ∃b',Ac (Td st0.heap ls n st.heap) k=some b'∧b.Kl b':=fun k b hb=>by
  rw [Lq,hb]
  refine ⟨_,rfl,?_⟩
  dsimp only
  split
  ·exact OB.Aq9 b _
  ·exact OB.Kl.Hl b
 have hac:(∀fr τ cs x,Cells w' (Bb X.w0.heap.size X.Sc π' fr) τ cs x→Cells w' (Bb X.w0.heap.size X.Sc π' fr) τ cs x)→ ∀c v,Df X w' π' st.heap c v→Df X w' π' (Td st0.heap ls n st.heap) c v:=fun hc=>
  Aef (f:=fun c=>c) (D:=fun _=>False) (Pt:=fun _=>False) (fun c=> .inr ⟨rfl,fun _ _ h=>h,fun _ _ _ _ h=>h⟩) (fun k _=>Wx.Hl _) (fun k b _ hb=>srv k b hb) (fun _ _ _ _ _ _ _ _=>rfl) hc
 have h1:Af X π' {tmps:=st.tmps.map (·.map fun c=>c),heap:=Td st0.heap ls n st.heap} a w':=by
  refine h.Aeg rfl (gv:=fun _=>False) (fun _ hf=>hf.elim) (Fa.refl _ _ _) (fun _ _ ho=>ho) h.1.sub h.1.place h.1.inj (fun l hl hne=>h.1.pin l hl fun h2=>hne (by rw [Lq,h2];rfl)) hac (fun m l b hb=>?_) (fun l hl=>?_)
  ·rw [Lq] at hb
   cases h2:Ac st.heap l with
   |none=>rw [h2] at hb;cases hb
   |some b0=>
    rw [h2] at hb
    simp only [Option.map_some,Option.some.injEq] at hb
    have hbk:=(h.1.heap l).blk h2
    have hbm:=hbk.move m (Nat.le_refl _) (fun r0 c h0 h1=>h.1.sub _ r0 c h0 h1) fun _ _ _ _ _=>rfl
    rw [show OB.map (fun c=>c) b0=b0 from OB.At0 b0] at hbm
    split at hb
    ·rename_i hc
     have hl:l∈ls:=by simpa using hc
     cases b0 with
     |grid e te rows out kp=>
      simp only [OB.Atw] at hb
      subst hb
      refine ⟨hbm.1,?_⟩
      obtain ⟨e0,te0,rows0,out0,kp0,hg⟩:=hg0 l hl
      have hk0:=((h0.1.heap l).blk hg).2
      rw [hg]
      simp only [Beu]
      have hkr:=hk l hl
      cases kp0 with
      |none=>trivial
      |some p=>
       obtain ⟨l0,n0⟩:=p
       simp only [KeptAt,Rh] at hk0⊢
       cases hp0:X.pin l0 with
       |none=>
        cases hp:π l with
        |none=>
         rw [hp] at hkr
         cases hp':π' l with
         |none=>trivial
         |some q=>rw [hp'] at hkr;exact hkr.elim
        |some q=>rw [hp0,hp] at hk0;exact hk0.elim
       |some r0=>
        cases hp:π l with
        |none=>rw [hp0,hp] at hk0;exact hk0.elim
        |some q=>
         rw [hp0,hp] at hk0
         rw [hp] at hkr
         cases hp':π' l with
         |none=>rw [hp'] at hkr;exact hkr.elim
         |some q'=>
          rw [hp'] at hkr
          obtain ⟨k1,k2,k3,k4⟩:=hkr
          obtain ⟨g1,g2,g3,g4⟩:=hk0
          refine ⟨k1.trans g1,k2.trans g2,k3.trans g3,fun j hj hc=>?_⟩
          have e1:=g4 j (by omega) hc
          have e2:=k4 j (by omega) (by omega)
          rw [g1,g2] at e2
          rw [←e1,e2]
     |_=>simp only [OB.Atw] at hb;subst hb;exact hbm
    ·subst hb;exact hbm
  ·rw [Lq] at hl
   cases h2:Ac st.heap l with
   |none=>exact (h.1.heap l).emp h2
   |some b=>rw [h2] at hl;cases hl
 have hav: ∀c v,Ai X w' π' st.heap c v→Ai X w' π' (Td st0.heap ls n st.heap) c v:=fun c v hv=>by
  have m:Move X w' w' π' π' st.heap (Td st0.heap ls n st.heap) (fun c=>c):=⟨hac fun _ _ _ _ h=>h,fun _ _ _ _ h=>h⟩
  have:=m.av hv
  rwa [AC.map_id] at this
 refine ⟨⟨h1.1,⟨?_,h.2.defers,fun t=>?_⟩⟩,hav⟩
 ·have: ∀(l m:List AV),(Ft ls l m).length=m.length:=by
   intro l
   induction l with
   |nil=>intro m;cases m<;>rfl
   |cons a l ih=>
    intro m
    cases m with
    |nil=>cases a with
     | «at»c=>cases c<;>rfl
     |_=>rfl
    |cons v m=>cases a with
     | «at»c=>cases c<;>simp only [Ft,List.length_cons,ih m]
     |_=>simp only [Ft,List.length_cons,ih m]
  show a.tmps.size=(Ft ls st0.tmps st.tmps).length
  rw [this];exact h.2.size
 ·show Ai X w' π' _ ((Ft ls st0.tmps st.tmps).getD t .undef) _
  rcases Wp ls st0.tmps st.tmps t (by rw [←h0.2.size,←h.2.size]) with ⟨k,i,c,g1,g2,g3⟩|g
  ·rw [g3]
   have hkl:k∈ls:=by simpa using g2
   obtain ⟨i1,i2⟩:=Akq hok g1 g2
   have hv:=h0.2.tmps t
   rw [show st0.get t=_ from g1] at hv
   obtain ⟨r,b,sz,n',e1,e2,e3,e4,⟨e5,e6⟩,e7⟩:=hv
   obtain ⟨e0,te0,rows0,out0,kp0,hg⟩:=hg0 k hkl
   rw [hg] at e1;cases e1
   simp only [OB.inn,Option.some.injEq,Prod.mk.injEq] at e2
   obtain ⟨rfl,rfl⟩:=e2
   have hkr:=hk k hkl
   rw [e3] at hkr
   cases hp':π' k with
   |none=>rw [hp'] at hkr;exact hkr.elim
   |some q'=>
    rw [hp'] at hkr
    obtain ⟨k1,k2,k3,k4⟩:=hkr
    have hcap:rows0.length≤r.cap:=by
     have:=((h0.1.heap k).blk hg).1
     rw [e3] at this
     obtain ⟨_,_,_,_,_,_,h5,_⟩:=this
     exact h5
    unfold Ai0 at i2
    split at i2
    ·rename_i e9 te9 rows9 out9 kp9 hg9
     refine ⟨q',_,1,rows9.length,by rw [Lq,hg9];rfl,?_,hp',i2,⟨e5,e6⟩,?_⟩
     ·dsimp only
      split<;>rfl
     ·have hc0:c=0:=by omega
      subst hc0
      rw [k1,k2]
      rw [Nat.mul_one,Nat.add_zero] at e7⊢
      rw [k4 i i1 (by omega)];exact e7
    ·omega
  ·rw [g]
   exact hav _ _ (h.2.tmps t)
theorem Ag1 {ins:List (Bool×CK)} {as:List AC} {pl:List Nat} {st:St} :(Ahm ins as pl st).tmps=st.tmps:=by
 unfold Ahm
 split
 ·rfl
 ·split<;>rfl
theorem Aww {ins:List (Bool×CK)} {as:List AC} {pl:List Nat} {st:St} {m:Nat} (hm:m∉pl):Ac (Ahm ins as pl st).heap m=Ac st.heap m:=by
 unfold Ahm
 split
 ·rfl
 ·rename_i l r
  split
  ·exact Cb _ _ _ _ fun e=>hm (e▸List.mem_cons_self)
  ·rfl
theorem Azs {ins:List (Bool×CK)} {as:List AC} {l:Nat} {st:St} {tid:TypeId} {vs:List AC} (hl:Ac st.heap l=some (.var tid vs)):Ac (Ahm ins as [l] st).heap l=some (.var tid (Xi ins vs as)):=by
 simp only [Ahm,St.at,hl]
 exact Cf _ _ _ _ hl
theorem Anp {α:Type} (ins:List (Bool×CK)) (as:List α):Xi ins [] as= []:=by
 rcases ins with _|⟨⟨_|_,c⟩,r⟩<;>rfl
theorem Afy {α:Type} : ∀(ins:List (Bool×CK)) (vs as:List α),(Xi ins vs as).length=vs.length
 | [],vs,as=>by rw [Xi];all_goals simp
 |p::r,[],as=>by rw [Anp]
 |(true,c)::r,v::vs,as=>by simp only [Xi,List.length_cons,Afy r vs as]
 |(false,c)::r,v::vs,[]=>by rw [Xi];all_goals simp
 |(false,c)::r,v::vs,a::as=>by simp only [Xi,List.length_cons,Afy r vs as]
theorem Azk {st:St} {a:Act} (h:Af X π st a w) {s:Bp} {avs:List AV} {vs:List Value} (hlen:avs.length=vs.length) (hav: ∀(i:Nat) c v,avs[i]?=some c→vs[i]?=some v→Ai X w π st.heap c v)
  {pl:List Nat} {cells:List AC} {rest:List AV} (he:Ay8 st s avs=some (pl,cells,rest)):
  ∃(g:Nat) (cus vrest:List Value),rest.length=vrest.length∧(∀(i:Nat) c v,rest[i]?=some c→vrest[i]?=some v→Ai X w π st.heap c v)∧Gp X w π st.heap cells cus∧
   ((s.ptr=none∧pl= []∧cells= []∧cus= []∧vs=vrest)∨
    ∃p l q,s.ptr=some p∧pl= [l]∧π l=some q∧q.Av q.g∧g=q.g∧Ac st.heap l=some (.var p.1 cells)∧cells.length=p.2∧vs= .pointer (some ⟨g,0,none⟩)::vrest∧w.heap[g]?=some (.cells cus.toArray p.1 (0,0))∧Cl X w π st.heap cells cus):=by
 unfold Ay8 at he
 split at he
 ·rename_i hp
  simp only [Option.some.injEq,Prod.mk.injEq] at he
  obtain ⟨rfl,rfl,rfl⟩:=he
  exact ⟨0,[],vs,hlen,hav,trivial, .inl ⟨hp,rfl,rfl,rfl,rfl⟩⟩
 ·rename_i p hp
  split at he
  ·rename_i l i rest'
   split at he
   ·rename_i tid cs hl
    split at he
    ·rename_i hc
     obtain ⟨rfl,hc,rfl⟩:=hc
     simp only [Option.some.injEq,Prod.mk.injEq] at he
     obtain ⟨rfl,rfl,rfl⟩:=he
     unfold St.at at hl
     cases vs with
     |nil=>simp at hlen
     |cons v vs=>
      obtain ⟨r,tid',vs',h1,h2,rfl⟩:=hav 0 _ v rfl rfl
      rw [hl] at h1;cases h1
      obtain ⟨r',h3,h4,cur,h5,h6⟩:=(h.1.heap l).blk hl
      rw [h2] at h3;cases h3
      exact ⟨r.g,cur.toList,vs,by simpa using hlen,fun i c v h7 h8=>hav (i+1) c v (by simpa using h7) (by simpa using h8),Gp.of h6, .inr ⟨p,l,r,hp,rfl,h2,h4,rfl,hl,hc,rfl,by simpa using h5,h6⟩⟩
    ·cases he
   ·cases he
  ·cases he
theorem Aam {V:List Nat} {πc:Pi} {dead part:List Nat} (hπ: ∀l,l∉dead→π' l=π l) (hrow: ∀l b sz n,l∉dead→Ac H l=some b→b.row=some (sz,n)→ ∃b',Ac H' l=some b'∧b'.row=some (sz,n)):
  ∀(ins:List (Bool×CK)) (k:Nat) (cells as0:List AC) (x:Ins.den ins) (us:List Value) (o:IOs.den ins) (cur st1:St) (news:List AC) (us' cs:List Value),Ahg X w π V H πc k ins x (cells++as0) us→Me ins cells=true→
   Di ins o (cells++as0) cur=some st1→Bs πc k ins o cells.length cs us'→Gp X w' π' H' news us'→Gp X w' π' H' (Xi ins (cells.map (At dead part)) news) cs
 |ins,k,[],as0,x,us,o,cur,st1,news,us',cs,_,_,_,hb,_=>by
  have hb:cs= []:=by rcases ins with _|⟨⟨_|_,c⟩,r⟩<;>(try cases c)<;>simpa [Bs] using hb
  rw [hb,List.map_nil,Anp]
  trivial
 | [],k,a::cells,as0,x,us,o,cur,st1,news,us',cs,_,hk,_,_,_=>by simp [Me] at hk
 |(true, .dat τ)::r,k,a::cells,as0,x,us,o,cur,st1,news,us',cs,_,hk,_,_,_=>by simp [Me] at hk
 |(true, .part e te)::r,k,a::cells,as0,x,us,o,cur,st1,news,us',cs,_,hk,_,_,_=>by simp [Me] at hk
 |(true, .grid e te _)::r,k,a::cells,as0,x,us,o,cur,st1,news,us',cs,_,hk,_,_,_=>by simp [Me] at hk
 |(true, .row e te)::r,k,a::cells,as0,x,us,o,cur,st1,news,us',cs,ht,hk,hp,hb,hn=>by
  cases a<;>simp only [Me,Bool.false_eq_true] at hk
  rename_i l off len
  cases us with
  |nil=>exact ht.elim
  |cons u0 us=>
  cases cs with
  |nil=>exact hb.elim
  |cons u cs=>
  obtain ⟨⟨_,h1⟩,h2⟩:=ht
  simp only [Kq] at h1
  obtain ⟨h3,rfl,rfl,fr,tr,h4⟩:=h1
  obtain ⟨h5,h6⟩:=hb
  simp only [List.cons_append,Di] at hp
  split at hp
  rotate_left
  ·cases hp
  rename_i cur' hpc
  have hlo:List.length o.1=List.length x.1:=by
   simp only [Rx] at hpc
   repeat' split at hpc
   all_goals first|(cases hpc;done)|(rename_i hc;exact hc.2.1)
  refine ⟨?_,Aam hπ hrow r (k+1) cells as0 x.2 us o.2 cur' st1 news us' cs h2 hk hp h6 hn⟩
  by_cases hd:l∈dead
  ·have:At dead part (.own l 0 (List.length x.1))= .undef:=by
    unfold At
    rw [if_pos (by simp [AC.refs,hd])]
   rw [this];trivial
  ·rw [Sf (by simpa [AC.refs] using hd) (by intro l i j e;rcases e with e|e<;>cases e)]
   obtain ⟨b',g1,g2⟩:=hrow l _ e.size (List.length x.1) hd h4 rfl
   refine ⟨b',e.size,List.length x.1,g1,g2,by omega,?_⟩
   rw [hπ l hd]
   rw [h3,hlo] at h5
   cases hp:π l<;>(rw [hp] at h5;exact h5)
 |(true, .xrow e te)::r,k,a::cells,as0,x,us,o,cur,st1,news,us',cs,ht,hk,hp,hb,hn=>by
  cases a<;>simp only [Me,Bool.false_eq_true] at hk
  rename_i l off len
  cases us with
  |nil=>exact ht.elim
  |cons u0 us=>
  cases cs with
  |nil=>exact hb.elim
  |cons u cs=>
  obtain ⟨⟨_,h1⟩,h2⟩:=ht
  simp only [Kq] at h1
  obtain ⟨h3,rfl,rfl,h4⟩:=h1
  obtain ⟨h5,h6⟩:=hb
  simp only [List.cons_append,Di] at hp
  split at hp
  rotate_left
  ·cases hp
  rename_i cur' hpc
  have hlo:List.length o.1=List.length x.1:=by
   simp only [Rx] at hpc
   repeat' split at hpc
   all_goals first|(cases hpc;done)|(rename_i hc;exact hc.2.1)
  refine ⟨?_,Aam hπ hrow r (k+1) cells as0 x.2 us o.2 cur' st1 news us' cs h2 hk hp h6 hn⟩
  by_cases hd:l∈dead
  ·have:At dead part (.own l 0 (List.length x.1))= .undef:=by
    unfold At
    rw [if_pos (by simp [AC.refs,hd])]
   rw [this];trivial
  ·rw [Sf (by simpa [AC.refs] using hd) (by intro l i j e;rcases e with e|e<;>cases e)]
   obtain ⟨b',g1,g2⟩:=hrow l _ e.size (List.length x.1) hd h4 rfl
   refine ⟨b',e.size,List.length x.1,g1,g2,by omega,?_⟩
   rw [hπ l hd]
   rw [h3,hlo] at h5
   cases hp:π l<;>(rw [hp] at h5;exact h5)
 |(false,c)::r,k,a::cells,as0,x,[],o,cur,st1,news,us',cs,ht,hk,hp,hb,hn=>ht.elim
 |(false,c)::r,k,a::cells,as0,x,u0::us,o,cur,st1,news,us',[],ht,hk,hp,hb,hn=>by cases c<;>exact hb.elim
 |(false,c)::r,k,a::cells,as0,x,u0::us,o,cur,st1,news,[],u::cs,ht,hk,hp,hb,hn=>by cases c<;>exact hb.elim
 |(false,c)::r,k,a::cells,as0,x,u0::us,o,cur,st1,[],u'::us',u::cs,ht,hk,hp,hb,hn=>hn.elim
 |(false,c)::r,k,a::cells,as0,x,u0::us,o,cur,st1,na::news,u'::us',u::cs,ht,hk,hp,hb,hn=>by
  have hb2:u=u'∧Bs πc (k+1) r o cells.length cs us':=by cases c<;>exact hb
  obtain ⟨rfl,hb3⟩:=hb2
  have hp:Di r o (cells++as0) cur=some st1:=by cases c<;>simpa only [List.cons_append,Di] using hp
  have hk:Me r cells=true:=by cases c<;>simpa only [Me] using hk
  exact ⟨hn.1,Aam hπ hrow r (k+1) cells as0 x.2 us o cur st1 news us' cs ht.2 hk hp hb3 hn.2⟩
theorem Auc {V:List Nat} {πc:Pi} : ∀(cs:List (Bool×CK)) (k0:Nat) (x:Ins.den cs) (as:List AC) (us:List Value),k0+cs.length<100000→Ahg X w π V H πc k0 cs x as us→ ∀k l,(Bn false k,Loc.row l)∈Fu k0 cs as→πc (Bn false k)=(π l).map full
 | [],_,_,[],_,_,_,_,_,h=>by cases h
 | [],_,_,_::_,_,_,_,_,_,h=>by cases h
 |_::_,_,_,[],_,_,_,_,_,h=>by cases h
 |_::_,_,_,_::_,[],_,h,_,_,_=>h.elim
 |(io,c)::r,k0,x,a::as,u::us,hk,h,k,l,ht=>by
  simp only [List.length_cons] at hk
  simp only [Fu] at ht
  rcases List.mem_append.1 ht with ht|ht
  ·obtain ⟨⟨_,h1⟩,_⟩:=h
   cases c with
   |dat τ=>cases a<;>simp [Ja,views] at ht
   |row e te=>
    cases a<;>simp [Ja] at ht
    obtain ⟨e1,rfl⟩:=ht
    simp only [Kq] at h1
    rw [e1];exact h1.1
   |xrow e te=>
    cases a<;>simp [Ja] at ht
    obtain ⟨e1,rfl⟩:=ht
    simp only [Kq] at h1
    rw [e1];exact h1.1
   |part e te=>
    cases a<;>simp [Ja] at ht
    obtain ⟨e1,rfl⟩:=ht
    simp only [Kq] at h1
    rw [e1];exact h1.2.1
   |grid e te kp=>
    cases a<;>simp [Ja] at ht
    obtain ⟨e1,rfl⟩:=ht
    simp only [Kq] at h1
    rw [e1];exact h1.2.1
  ·exact Auc r (k0+1) x.2 as us (by omega) h.2 k l ht
theorem Ahi {st:St} {a:Act} (h:Af X π st a w) {f:FuncId} {s:Bp} (hs:Dz P f s) (dst:Option Nat) (avs:List AV) (vs:List Value) (hlen:avs.length=vs.length)
  (hav: ∀(i:Nat) c v,avs[i]?=some c→vs[i]?=some v→Ai X w π st.heap c v) (av:AV) (st':St) (he:Na st dst s avs=some (av,st')):
  Calls P f vs.toArray w fun e w'=> ∃v,e= .returned v∧ ∃π',Af X π' st' a w'∧Ai X w' π' st'.heap av v:=by
 unfold Na at he
 split at he
 ·cases he
 rename_i pl cells rest hptr
 split at he
 ·cases he
 rename_i as0 hun
 split at he
 ·cases he
 rename_i x tks htk
 split at he
 rotate_left
 ·cases he
 rename_i hcond
 simp only [Bool.and_eq_true,Nat.blt_eq] at hcond
 obtain ⟨⟨⟨⟨hnd,hkp⟩,hon⟩,hin⟩,hkept,hplc⟩:=hcond
 have hplc: ∀l∈pl,l∉(tks.map fun t=>t.2.lab)∧l∉Jw s tks (dst.getD 0):=fun l hl=>by
  have:=List.all_eq_true.1 hplc l hl
  simp only [Bool.not_eq_true',←Bool.not_eq_true,List.contains_iff_mem] at this
  exact ⟨fun hm=>this (List.mem_append_left _ hm),fun hm=>this (List.mem_append_right _ hm)⟩
 split at he
 ·cases he
 rename_i r o hfn
 split at he
 ·cases he
 rename_i st1 hput
 obtain ⟨g,cus,vrest,hlen2,hav2,hrcc,hpt⟩:=Azk h hlen hav hptr
 obtain ⟨us0,rfl,hsh,hrc0⟩:=Ss s.shapes rest vrest as0 hlen2 hav2 hun
 have hrc:=hrcc.append hrc0
 have hargs:Aey s w g (cus++us0) vs:=by
  unfold Aey
  rcases hpt with ⟨h1,_,_,h2,h3⟩|⟨p,l,q,h1,_,_,_,_,_,h2,h3,h4,h5⟩
  ·rw [h1];subst h2;exact ⟨h3,hsh⟩
  ·rw [h1]
   have hl:cus.length=p.2:=h5.1.trans h2
   simp only
   rw [List.drop_append_of_le_length (by omega),List.take_append_of_le_length (by omega),List.take_of_length_le (by omega),List.drop_of_length_le (by omega)]
   refine ⟨h3,hsh,by simp;omega,h4,fun u hu=>?_⟩
   obtain ⟨i,hi,rfl⟩:=List.mem_iff_getElem.1 hu
   obtain ⟨u',h6,h7,_⟩:=h5.2 i (cells[i]'(by have:=h5.1;omega)) (List.getElem?_eq_getElem _)
   rw [List.getElem?_eq_getElem hi] at h6
   rw [Option.some.inj h6];exact h7
 have hplv: ∀l∈pl,∃p q,s.ptr=some p∧pl= [l]∧π l=some q∧q.Av q.g∧g=q.g∧Ac st.heap l=some (.var p.1 cells)∧cells.length=p.2:=fun l hl=>by
  rcases hpt with ⟨_,h1,_⟩|⟨p,l',q,h1,h2,h3,h4,h5,h6,h7,_⟩
  ·rw [h1] at hl;cases hl
  ·rw [h2] at hl
   have:=List.mem_singleton.1 hl
   subst this
   exact ⟨p,q,h1,h2,h3,h4,h5,h6,h7⟩
 have hgv: ∀b,s.gv g b→ ∃l∈pl,∃q,π l=some q∧q.Av b∧b=q.g:=fun b ⟨h1,h2⟩=>by
  rcases hpt with ⟨h3,_⟩|⟨p,l',q,_,h4,h5,h6,h7,_⟩
  ·rw [h3] at h1;cases h1
  ·exact ⟨l',by rw [h4];exact List.mem_singleton.2 rfl,q,h5,by rw [h2,h7];exact h6,h2.trans h7⟩
 obtain ⟨as,has⟩: ∃as,as=cells++as0:=⟨_,rfl⟩
 obtain ⟨us,hus⟩: ∃us,us=cus++us0:=⟨_,rfl⟩
 rw [←has] at hrc htk hput
 rw [←hus] at hrc hargs
 let V:=(tks.filter fun t=>t.2.reads).map fun t=>t.2.lab
 have hV: ∀t∈tks,t.2.reads=true→t.2.lab∈V:=fun t ht hr=>List.mem_map.2 ⟨t,List.mem_filter.2 ⟨ht,hr⟩,rfl⟩
 have hV': ∀l∈V,∃t∈tks,t.2.reads=true∧t.2.lab=l:=fun l hl=>by
  obtain ⟨t,h1,h2⟩:=List.mem_map.1 hl
  exact ⟨t,(List.mem_filter.1 h1).1,(List.mem_filter.1 h1).2,h2⟩
 clear_value V
 obtain ⟨etk,πc,hT,hdom,hin0,hfoot⟩:=Aku h.1 (V:=V) s.ins 0 as us x tks (by omega) hrc htk hV
 have hnd':=Nj hnd
 rw [etk] at hnd'
 have hown: ∀b,Own πc b→ ∃t∈Fu 0 s.ins as,t.2.reads=false∧ ∃q,π t.2.lab=some q∧q.Av b∧ ∀l i j,t.2= .sub l i j→b≠q.g:=fun b ⟨c,q,h1,h2⟩=>by
  obtain ⟨t,t1,_,t3⟩:=hfoot c q b h1 h2
  exact ⟨t,t1,t3⟩
 have hownπ: ∀b,Own πc b→Own π b:=fun b hb=>let ⟨t,_,_,q,h1,h2,_⟩:=hown b hb;⟨_,q,h1,h2⟩
 have hpl:Xu πc (fun b=>b<w.heap.size):=⟨fun l q b h1 h2=>(h.1.own (hownπ b ⟨l,q,h1,h2⟩)).1,fun l l' q q' b h1 h2 h3 h4=>by
  obtain ⟨t,t1,t2,_,p,t3,t4,_⟩:=hfoot l q b h1 h3
  obtain ⟨t',t1',t2',_,p',t3',t4',_⟩:=hfoot l' q' b h2 h4
  have:=Apa hnd' t1 t1' (h.1.apart t3 t3' t4 t4')
  rw [←t2,←t2',this]⟩
 have hTrow: ∀k l,(Bn false k,Loc.row l)∈Fu 0 s.ins as→πc (Bn false k)=(π l).map full:=fun k l ht=>
  Auc s.ins 0 x as us (by omega) hT k l ht
 have hweak: ∀b,Own πc b→Hu X π V b:=fun b hb=> .inl ⟨hownπ b hb,fun l hl r' hr hf=>by
  obtain ⟨t,t1,t0,q,t3,t4,_⟩:=hown b hb
  obtain ⟨t',t1',t2',rfl⟩:=hV' l hl
  rw [etk] at t1'
  have:=Apa hnd' t1 t1' (h.1.apart t3 hr t4 hf)
  subst this
  rw [t0] at t2';cases t2'⟩
 let S:Nat→Prop:=fun b=> ¬Own πc b∧Hu X π V b
 have hS: ∀b,S b→b<w.heap.size∧ ¬Own πc b:=fun b hb=>⟨by
  rcases hb.2 with h1|h1
  ·exact (h.1.own h1.1).1
  ·exact Nat.lt_of_lt_of_le (h.1.sc b h1).1 h.1.below.size,hb.1⟩
 have hplt: ∀l∈pl,∀t∈Fu 0 s.ins as,t.2.lab≠l:=fun l hl t ht e=>(hplc l hl).1 (List.mem_map.2 ⟨t,etk▸ht,e⟩)
 have hSg:s.ptr.isSome=true→S g:=fun hps=>by
  obtain ⟨l,hl,q,h1,h2,h3⟩:=hgv g ⟨hps,rfl⟩
  have hno: ¬Own πc g:=fun hb=>by
   obtain ⟨t,t1,_,q',t3,t4,_⟩:=hown g hb
   exact hplt l hl t t1 (h.1.apart t3 h1 t4 h2)
  refine ⟨hno, .inl ⟨⟨l,q,h1,h2⟩,fun l' hl' r' hr' hf=>?_⟩⟩
  obtain ⟨t',t1',_,rfl⟩:=hV' l' hl'
  rw [etk] at t1'
  exact hplt l hl t' t1' (h.1.apart hr' h1 hf h2)
 refine (hs.calls w S πc us x r o g vs hargs hSg (Ux.Eb (fun b hb=>hb.elim (hweak b) fun h=>h.2) s.ins 0 x us (hT.Bft s.ins 0 x as us)) hpl hS hin0 hfn).mono ?_
 rintro e w' ⟨v,us',ρ0,rfl,hret,hback,hbel,hio,hout0,hplρ0,hρn,hkeep⟩
 obtain ⟨ρ,hρ0,hout,hplρ,hclρ⟩: ∃ρ:Pi,(∀l,ρ l=(ρ0 l).map full)∧Ec w' (Aaw S πc ρ0) ρ 0 s.outs r us'∧Xu ρ (fun b=>b<w'.heap.size∧(w.heap.size≤b∨ ∃l q,l<Ag∧πc l=some q∧q.Av b))∧ ∀l q,ρ l=some q→q.cl=q.Av:=by
  have un: ∀l q,(ρ0 l).map full=some q→ ∃q0,ρ0 l=some q0∧q=full q0:=fun l q hq=>by
   cases hp:ρ0 l with
   |none=>rw [hp] at hq;cases hq
   |some q0=>rw [hp] at hq;exact ⟨q0,rfl,(Option.some.inj hq).symm⟩
  refine ⟨fun l=>(ρ0 l).map full,fun _=>rfl,Ec.full s.outs 0 r us' hout0,⟨fun l q b h1 h2=>?_,fun l l' q q' b h1 h2 h3 h4=>?_⟩,fun l q h1=>?_⟩
  ·obtain ⟨q0,h5,rfl⟩:=un l q h1
   exact hplρ0.at' l q0 b h5 h2
  ·obtain ⟨q0,h5,rfl⟩:=un l q h1
   obtain ⟨q0',h6,rfl⟩:=un l' q' h2
   exact hplρ0.inj l l' q0 q0' b h5 h6 h3 h4
  ·obtain ⟨q0,_,rfl⟩:=un l q h1
   rfl
 refine ⟨v,rfl,?_⟩
 split at he
 ·cases he
 rename_i av0 hra
 split at he
 rotate_left
 ·cases he
 rename_i hsub
 simp only [Option.some.injEq,Prod.mk.injEq] at he
 obtain ⟨rfl,rfl⟩:=he
 let D1:Nat→Prop:=if s.flat then fun _=>True else Aaw S πc ρ0
 have hio1:Fw w' D1 πc 0 s.ins o:=by
  show Fw w' (if s.flat then fun _=>True else Aaw S πc ρ0) πc 0 s.ins o
  split
  ·rename_i hf
   unfold Bp.flat at hf
   simp only [Bool.and_eq_true] at hf
   exact Fw.any s.ins 0 o hf.2 hio
  ·exact hio
 have hout1:Ec w' D1 ρ 0 s.outs r us':=by
  show Ec w' (if s.flat then fun _=>True else Aaw S πc ρ0) ρ 0 s.outs r us'
  split
  ·rename_i hf
   unfold Bp.flat at hf
   simp only [Bool.and_eq_true] at hf
   exact Ec.any s.outs 0 r us' hf.1 hout
  ·exact hout
 obtain ⟨q1,q2,q3,q4⟩:=Ajz (D:=D1) (X:=X) (π:=π) (H:=st.heap) h.1 hbel.size (tks:=Fu 0 s.ins as) (πc:=πc) (fun t ht q b hq hb hlt hn=>hbel.block b hlt fun hor=>by
   rcases hor with ⟨c,r',h1,h2⟩|hg
   rotate_left
   ·obtain ⟨l,hl,q',h1,h2,_⟩:=hgv b hg
    exact hplt l hl t ht (h.1.apart hq h1 hb h2)
   obtain ⟨t',t1,t2,_,p,t3,t4,_⟩:=hfoot c r' b h1 h2
   have:=Apa hnd' ht t1 (h.1.apart hq t3 hb t4)
   subst this
   exact hn r' (t2▸h1) h2) s.ins 0 x as us o st st1 (by omega) (fun _ h=>h) hnd' hT hio1 hput (fun _ _=>rfl)
 have hreads: ∀t∈Fu 0 s.ins as,t.2.reads=true→t.1<Ag:=by
  have: ∀(cs:List (Bool×CK)) (k:Nat) (as:List AC),k+cs.length<100000→ ∀t∈Fu k cs as,t.2.reads=true→t.1<Ag:=by
   intro cs
   induction cs with
   |nil=>intro k as _ t ht;cases as<;>cases ht
   |cons p r ih=>
    intro k as hk t ht hr
    simp only [List.length_cons] at hk
    cases as with
    |nil=>cases ht
    |cons a as=>
     simp only [Fu] at ht
     rcases List.mem_append.1 ht with ht|ht
     ·rcases Aub ht with ⟨_,h1⟩|⟨h1,_⟩
      ·rw [hr] at h1;cases h1
      ·rw [h1];exact Wg (by omega)
     ·exact ih (k+1) as (by omega) t ht hr
  exact this s.ins 0 as (by omega)
 let d:=dst.getD 0
 let ks:=Jw s tks d
 let dead:=Adj tks++ks++(if s.flat then [] else Aqv tks)
 let part:=whole tks
 have hrpl:s.outs.length+(Acs s d).length=s.Lk:=by unfold Bp.Lk Acs;cases s.rp<;>rfl
 obtain ⟨hksl,hksn,hkslt⟩:ks.length=s.Lk∧ks.Nodup∧ ∀l∈ks,l<Ag:=by
  have:=Avt hkp
  rw [hrpl] at this
  exact this
 have hno:s.outs.length≤s.Lk:=by unfold Bp.Lk;omega
 have hvk: ∀tid,s.rp=some tid→Bo ks s.outs.length=Kp d∧s.Lk=s.outs.length+1:=fun tid htid=>by
  have h1:s.Lk=s.outs.length+1:=by unfold Bp.Lk;rw [htid]
  refine ⟨?_,h1⟩
  have h2:ks=Ade s tks d++ [Kp d]:=by show Ade s tks d++Acs s d=_;unfold Acs;rw [htid]
  have h3:(Ade s tks d).length=s.outs.length:=by rw [h2] at hksl;simp at hksl;omega
  rw [Jm (by rw [hksl];omega)]
  simp only [h2]
  rw [List.getElem_append_right (by omega)]
  simp [h3]
 have hkinj:=Arq hksn hkslt
 have hklt: ∀j,j<s.Lk→Bo ks j<Ag:=fun j hj=>hkslt _ (mem_keys.2 ⟨j,by omega,rfl⟩)
 let π':Pi:=fun l=>match (List.range s.Lk).find? fun j=>decide (Bo ks j=l) with
  |some j=>ρ (Ep j)
  |none=>if l∈dead then none else π l
 have hkpi: ∀j,j<s.Lk→π' (Bo ks j)=ρ (Ep j):=fun j hj=>by
  show (match (List.range s.Lk).find? fun i=>decide (Bo ks i=Bo ks j) with|some i=>ρ (Ep i)|none=>_)=_
  cases hf:(List.range s.Lk).find? fun i=>decide (Bo ks i=Bo ks j) with
  |none=>
   have:=List.find?_eq_none.1 hf j (List.mem_range.2 hj)
   simp at this
  |some i=>
   have:=List.find?_some hf
   rw [hkinj i j (of_decide_eq_true this)]
 have hkdead: ∀j,j<s.Lk→Bo ks j∈dead:=fun j hj=>List.mem_append_left _ (List.mem_append_right _ (mem_keys.2 ⟨j,by omega,rfl⟩))
 have hknone: ∀l,(¬ ∃j,j<s.Lk∧l=Bo ks j)→π' l=if l∈dead then none else π l:=fun l hl=>by
  show (match (List.range s.Lk).find? fun i=>decide (Bo ks i=l) with|some i=>ρ (Ep i)|none=>_)=_
  cases hf:(List.range s.Lk).find? fun i=>decide (Bo ks i=l) with
  |none=>rfl
  |some i=>
   have h1:=List.find?_some hf
   exact absurd ⟨i,List.mem_range.1 (List.mem_of_find?_eq_some hf),(of_decide_eq_true h1).symm⟩ hl
 have hπold: ∀l,l∉dead→π' l=π l:=fun l hl=>by
  rw [hknone l (fun ⟨j,h1,h2⟩=>hl (h2▸hkdead j h1)),if_neg hl]
 have hD1: ∀b,Own π' b∨X.Sc b→D1 b:=by
  intro b hb
  show (if s.flat then fun _=>True else Aaw S πc ρ0) b
  split
  ·trivial
  rename_i hnf
  rcases hb with ⟨l,q,hl,hf⟩|hb
  ·by_cases hk: ∃j,j<s.Lk∧l=Bo ks j
   ·obtain ⟨j,hj,rfl⟩:=hk
    rw [hkpi j hj,hρ0] at hl
    cases hp:ρ0 (Ep j) with
    |none=>rw [hp] at hl;cases hl
    |some q0=>rw [hp] at hl;simp only [Option.map_some,Option.some.injEq] at hl;subst hl;exact .inr (.inr ⟨Ep j,q0,hp,hf⟩)
   ·have e0:π' l=if l∈dead then none else π l:=hknone l hk
    rw [e0] at hl
    split at hl
    ·cases hl
    ·rename_i hnd2
     by_cases ho:Own πc b
     ·obtain ⟨c,q',hc,hcb⟩:=ho
      obtain ⟨t,t1,t2,t0,p,t3,t4,_⟩:=hfoot c q' b hc hcb
      have hlab:=h.1.apart hl t3 hf t4
      refine .inr (.inl ⟨c,q',Classical.byContradiction fun hn=>?_,hc,hcb⟩)
      exact hnd2 (List.mem_append_left _ (List.mem_append_left _ (Ul.2 ⟨t,etk▸t1,⟨by rw [t2];omega,t0⟩,hlab.symm⟩)))
     ·refine .inl ⟨ho, .inl ⟨⟨l,q,hl,hf⟩,fun l0 hl0 r0 hr0 hf0=>?_⟩⟩
      have:=h.1.apart hl hr0 hf hf0
      subst this
      exact hnd2 (List.mem_append_right _ (by rw [if_neg hnf];exact Ajj.2 (hV' l hl0)))
  ·refine .inl ⟨fun ho=>?_, .inr hb⟩
   have h1:=h.1.sc b hb
   rcases (h.1.own (hownπ b ho)).2 with h2|h2
   ·omega
   ·exact h1.2 h2
 have hpd: ∀l∈pl,l∉dead:=fun l hl hd=>by
  rcases List.mem_append.1 hd with hd|hd
  ·rcases List.mem_append.1 hd with hd|hd
   ·obtain ⟨t,ht,_,e⟩:=Ul.1 hd
    exact (hplc l hl).1 (List.mem_map.2 ⟨t,ht,e⟩)
   ·exact (hplc l hl).2 hd
  ·split at hd
   ·cases hd
   ·obtain ⟨t,ht,_,e⟩:=Ajj.1 hd
    exact (hplc l hl).1 (List.mem_map.2 ⟨t,ht,e⟩)
 have hkpl: ∀j,j<s.Lk→Bo ks j∉pl:=fun j hj hp=>hpd _ hp (hkdead j hj)
 let bv:Option OB:=s.rp.map fun tid=> .var tid ((Rk (Bo ks) 0 s.outs r).drop s.Pp)
 let H1:=(Ahm s.ins (Rk (Bo ks) 0 s.outs r) pl (st1.Se dead part)).heap
 have hH1: ∀l,l∉pl→Ac H1 l=if l∈dead then none else (Ac st1.heap l).map (OB.map (At dead part)):=fun l hl=>by
  show Ac (Ahm _ _ _ _).heap l=_
  rw [Aww hl]
  show Ac (Mx (st1.heap.map fun p=>(p.1,p.2.map (At dead part))) dead) l=_
  rw [Gx,Hw]
 let H2:=Asf H1 (Kp d) bv
 have hvd: ∀tid,s.rp=some tid→Kp d∈dead∧Kp d∉pl:=fun tid htid=>by
  obtain ⟨e1,e2⟩:=hvk tid htid
  rw [←e1]
  exact ⟨hkdead _ (by omega),hkpl _ (by omega)⟩
 have hH2o: ∀l,(∀tid,s.rp=some tid→l≠Kp d)→Ac H2 l=Ac H1 l:=fun l hl=>by
  show Ac (Asf H1 (Kp d) (s.rp.map _)) l=_
  cases hrp:s.rp with
  |none=>rfl
  |some tid=>exact Ic _ _ _ _ (hl tid hrp)
 have hH2v: ∀tid,s.rp=some tid→Ac H2 (Kp d)=some (.var tid ((Rk (Bo ks) 0 s.outs r).drop s.Pp)):=fun tid htid=>by
  show Ac (Asf H1 (Kp d) (s.rp.map _)) (Kp d)=_
  rw [htid]
  exact Jc _ _ _ (by rw [hH1 _ (hvd tid htid).2,if_pos (hvd tid htid).1])
 have hkv: ∀j,j<s.outs.length→ ∀tid,s.rp=some tid→Bo ks j≠Kp d:=fun j hj tid htid e=>by
  have:=hkinj j s.outs.length (e.trans (hvk tid htid).1.symm)
  omega
 have hH2: ∀l,l∉pl→(∀tid,s.rp=some tid→l≠Kp d)→Ac H2 l=if l∈dead then none else (Ac st1.heap l).map (OB.map (At dead part)):=fun l hl hv=>by
  rw [hH2o l hv,hH1 l hl]
 let H':=Nk (Axw st (Adj tks)) (Bo ks) 0 s.outs r H2
 obtain ⟨n1,n2,n3⟩:=Ah5 (D:=D1) (X:=X) (key:=Bo ks) hkinj (fr:=Axw st (Adj tks)) (ρ:=ρ) s.outs 0 r us' H2 hout1 (fun j _ hj=>by
  rw [hH2 _ (hkpl j (by omega)) (hkv j (by omega)),if_pos (hkdead j (by omega))])
 have hH'old: ∀l,l∉dead→l∉pl→Ac H' l=(Ac st1.heap l).map (OB.map (At dead part)):=fun l hl hlp=>by
  show Ac (Nk _ _ _ _ _ _) l=_
  rw [n1 l fun j _ hj e=>hl (e▸hkdead j (by omega)),hH2 l hlp (fun tid htid e=>hl (e▸(hvd tid htid).1)),if_neg hl]
 have hH'dead: ∀l,l∈dead→(∀j,j<s.Lk→l≠Bo ks j)→Ac H' l=none:=fun l hl hj=>by
  show Ac (Nk _ _ _ _ _ _) l=_
  rw [n1 l fun j _ h2=>hj j (by omega),hH2 l (fun hp=>hpd l hp hl) (fun tid htid e=>hj s.outs.length (by have:=(hvk tid htid).2;omega) (e.trans (hvk tid htid).1.symm)),if_pos hl]
 have newAt: ∀l b',Ac H' l=some b'→(l∈dead∨Ac st.heap l=none)→ ∃j,j<s.Lk∧l=Bo ks j:=by
  intro l b' hb hd
  refine Classical.byContradiction fun hn=>?_
  have hn': ∀j,j<s.Lk→l≠Bo ks j:=fun j hj e=>hn ⟨j,hj,e⟩
  rcases Classical.em (l∈dead) with hd'|hd'
  ·rw [hH'dead l hd' hn'] at hb;cases hb
  ·rcases hd with hd|hd
   ·exact hd' hd
   ·rw [hH'old l hd' (fun hp=>by obtain ⟨_,_,_,_,_,_,_,h1,_⟩:=hplv l hp;rw [hd] at h1;cases h1)] at hb
    have:Ac st1.heap l=none:=by
     by_cases hi: ∃t∈Fu 0 s.ins as,t.2.lab=l
     ·obtain ⟨t,ht,e⟩:=hi
      by_cases hlt:t.1<Ag
      ·rw [←e,q3 t ht hlt,e];exact hd
      ·obtain ⟨b0,_,h1,_⟩:=q4 t ht hlt
       rw [e,hd] at h1;cases h1
     ·rw [q2 l fun t ht e=>hi ⟨t,ht,e.symm⟩];exact hd
    rw [this] at hb;cases hb
 have hfreew: ∀k,Axw st (Adj tks)=true→ ∀q,ρ (Ep k)=some q→q.Av q.g→X.w0.heap.size≤q.g:=by
  intro k hfr q hq hg
  rcases (hplρ.at' _ q _ hq hg).2 with h1|⟨c,p,h1,h2,h3⟩
  ·exact Nat.le_trans h.1.below.size h1
  ·obtain ⟨t,t1,t2,t0,p',t3,t4,_⟩:=hfoot c p _ h2 h3
   have hm:t.2.lab∈Adj tks:=Ul.2 ⟨t,etk▸t1,⟨by rw [t2];exact h1,t0⟩,rfl⟩
   have:=List.all_eq_true.1 hfr _ hm
   split at this
   ·rename_i fr tr e te xs hl
    unfold St.at at hl
    have hb:=(h.1.heap t.2.lab).blk hl
    simp only [Aq,El,t3] at hb
    rw [hb.1.2.1 _ t4]
    exact hb.1.2.2 this
   ·cases this
 have hfoot': ∀k q,ρ (Ep k)=some q→k<s.outs.length→q.Av q.g:=by
  intro k q hq hk
  exact Ec.Beh s.outs 0 r us' hout k (Nat.zero_le _) ((Nat.zero_add _).symm▸hk) q hq
 have hinv: ∀l,l∉dead→(∃t∈Fu 0 s.ins as,t.2.reads=false∧t.2.lab=l)→Ad6 X D1 w' π st.heap st1.heap l:=by
  rintro l hd ⟨t,ht,h0,rfl⟩
  by_cases hlt:t.1<Ag
  ·exact absurd (List.mem_append_left _ (List.mem_append_left _ (Ul.2 ⟨t,etk▸ht,⟨hlt,h0⟩,rfl⟩))) hd
  ·exact q4 t ht hlt
 have hnoinv: ∀l,(¬ ∃t∈Fu 0 s.ins as,t.2.reads=false∧t.2.lab=l)→Ac st1.heap l=Ac st.heap l:=fun l hn=>by
  by_cases hi: ∃t∈Fu 0 s.ins as,t.2.lab=l
  ·obtain ⟨t,ht,rfl⟩:=hi
   have hr:t.2.reads=true:=by
    cases h0:t.2.reads with
    |true=>rfl
    |false=>exact absurd ⟨t,ht,h0,rfl⟩ hn
   exact q3 t ht (hreads t ht hr)
  ·exact q2 l fun t ht e=>hi ⟨t,ht,e.symm⟩
 have hH'pl: ∀l∈pl,∀p,s.ptr=some p→Ac H' l=some (.var p.1 (Xi s.ins (cells.map (At dead part)) (Rk (Bo ks) 0 s.outs r))):=fun l hl p hp=>by
  obtain ⟨p',q,h1,h2,_,_,_,h3,_⟩:=hplv l hl
  rw [hp] at h1;cases h1
  show Ac (Nk _ _ _ _ _ _) l=_
  rw [n1 l fun j _ hj e=>hkpl j (by omega) (e▸hl),hH2o l (fun tid htid e=>(hvd tid htid).2 (e▸hl))]
  show Ac (Ahm _ _ _ _).heap l=_
  rw [h2]
  refine Azs ?_
  show Ac (Mx (st1.heap.map fun p=>(p.1,p.2.map (At dead part))) dead) l=_
  rw [Gx,Hw,if_neg (hpd l hl),hnoinv l (fun ⟨t,ht,_,e⟩=>hplt l hl t ht e),h3]
  rfl
 have hlast: ∀j,j<s.Lk→s.outs.length≤j→ ∃tid,s.rp=some tid∧j=s.outs.length:=fun j h1 h2=>by
  cases hrp:s.rp with
  |none=>unfold Bp.Lk at h1;rw [hrp] at h1;simp at h1;omega
  |some tid=>exact ⟨tid,rfl,by have:=(hvk tid hrp).2;omega⟩
 have hHv: ∀tid,s.rp=some tid→Ac H' (Kp d)=some (.var tid ((Rk (Bo ks) 0 s.outs r).drop s.Pp)):=fun tid htid=>by
  show Ac (Nk _ _ _ _ _ _) _=_
  rw [n1 _ fun j _ hj e=>hkv j (by omega) tid htid e.symm,hH2v tid htid]
 suffices hmain:Af X π' (Ac2 st st1 d s pl tks r) a w'∧Ai X w' π' (Ac2 st st1 d s pl tks r).heap av0 v by
  obtain ⟨m1,m2⟩:=hmain
  have hls: ∀(kj:List (Nat×Nat)) (l:Nat),l∈Rg st.heap ks tks kj→Adz st.heap l=true∧ ∃k j t,(k,j)∈kj∧t∈tks∧t=(Bn false k,Loc.row l)∧ks[j]?=some l:=by
   intro kj
   induction kj with
   |nil=>intro l hl;cases hl
   |cons p kj ih=>
    intro l hl
    obtain ⟨k,j⟩:=p
    have up:l∈Rg st.heap ks tks kj→Adz st.heap l=true∧ ∃k' j' t,(k',j')∈(k,j)::kj∧t∈tks∧t=(Bn false k',Loc.row l)∧ks[j']?=some l:=fun hl=>by
     obtain ⟨h1,k',j',t,h2,h3⟩:=ih l hl
     exact ⟨h1,k',j',t,List.mem_cons_of_mem _ h2,h3⟩
    simp only [Rg] at hl
    split at hl
    ·rename_i x0 l1 l2 h1 h2
     split at hl
     ·rename_i hc
      simp only [Bool.and_eq_true] at hc
      rcases List.mem_cons.1 hl with rfl|hl
      ·have:=List.find?_some h1
       have e1:=Nat.eq_of_beq_eq_true this
       have e2:=Nat.eq_of_beq_eq_true hc.1
       dsimp only at e1
       exact ⟨hc.2,k,j,_,List.mem_cons_self,List.mem_of_find?_eq_some h1,by rw [e1],by rw [h2,e2]⟩
      ·exact up hl
     ·exact up hl
    ·exact up hl
  obtain ⟨r1,r2⟩:=Avq h m1 (ls:=Rg st.heap ks tks s.keeps) (n:=s.Ch x) (fun l hl=>by
   obtain ⟨_,k,j,t,h1,h2,h3,h4⟩:=hls s.keeps l hl
   have hj:j<ks.length:=(List.getElem?_eq_some_iff.1 h4).1
   have hkj:Bo ks j=l:=by
    rw [Jm hj]
    rw [List.getElem?_eq_getElem hj] at h4
    exact Option.some.inj h4
   have hkr:=hkeep (k,j) h1
   rw [show π' l=ρ (Ep j) by rw [←hkj];exact hkpi j (by omega),hρ0]
   have hc:πc (Bn false k)=(π l).map full:=hTrow k l (by rw [←h3,←etk];exact h2)
   dsimp only at hkr
   rw [hc] at hkr
   cases hp:π l<;>cases hq:ρ0 (Ep j)<;>(rw [hp,hq] at hkr;exact hkr)) (fun l hl=>(hls s.keeps l hl).1) hsub
  exact ⟨π',r1,r2 av0 v m2⟩
 refine ⟨?_,?_⟩
 ·have hx:=Af.Bes (π':=π') (H':=H') (dead:=dead) (part:=part) (inv:=fun l=>(∃t∈Fu 0 s.ins as,t.2.reads=false∧t.2.lab=l)∨l∈pl) (gv:=fun b=>Own πc b∨s.gv g b) h (fun b hb=>by
    rcases hb with hb|hb
    ·obtain ⟨t,h1,h0,q,h2,h3,_⟩:=hown b hb
     exact ⟨_,q, .inl ⟨t,h1,h0,rfl⟩,h2,h3⟩
    ·obtain ⟨l,hl,q,h1,h2,_⟩:=hgv b hb
     exact ⟨l,q, .inr hl,h1,h2⟩) hbel (fun l b0 hd h0=>⟨hπold l hd,?_⟩) (fun l b' hb hd=>?_) (fun l hl=>?_) (fun m q hd hp hm hxa=>?_)
  ·have:({tmps:=(Ahm s.ins (Rk (Bo ks) 0 s.outs r) pl (st1.Se dead part)).tmps,heap:=H'} :St)= {tmps:=st.tmps.map (·.map (At dead part)),heap:=H'} :=by
    rw [Ag1]
    show ({tmps:=st1.tmps.map (·.map (At dead part)),heap:=H'} :St)=_
    rw [q1]
   show Af X π' ({tmps:=(Ahm s.ins (Rk (Bo ks) 0 s.outs r) pl (st1.Se dead part)).tmps,heap:=H'} :St) a w'
   rw [this]
   exact hx
  ·by_cases hip:l∈pl
   ·obtain ⟨p,q,h1,h2,h3,h4,h5,h6,h7⟩:=hplv l hip
    rw [h0] at h6;cases h6
    have hb':=hH'pl l hip p h1
    refine .inr ⟨_,hb',⟨rfl,by rw [Afy]⟩,fun m=>?_⟩
    unfold Aby at hback
    rw [h1] at hback
    obtain ⟨cs,k1,k2,k3⟩:=hback
    rw [←h7] at k3
    refine ⟨q,h3,h4,cs.toArray,by rw [←h5];exact k1,?_⟩
    refine Gp.to (Aam (H:=st.heap) hπold (fun l1 b1 sz n hd1 hb1 hr1=>?_) s.ins 0 cells as0 x us o st st1 (Rk (Bo ks) 0 s.outs r) us' cs (has▸hT) hkept (has▸hput) k3 (n3 π' hD1 (fun j _ hj=>hkpi j (by omega)))) (by simpa using k2)
    have hnp:l1∉pl:=fun hp=>by
     obtain ⟨_,_,_,_,_,_,_,h8,_⟩:=hplv l1 hp
     rw [hb1] at h8;cases h8;cases hr1
    by_cases hi: ∃t∈Fu 0 s.ins as,t.2.reads=false∧t.2.lab=l1
    ·obtain ⟨b1,b',e1,e2,e3,e4,e5,e6⟩:=hinv l1 hd1 hi
     rw [hb1] at e1;cases e1
     exact ⟨b',by rw [hH'old l1 hd1 hnp,e2];simp [e4],by rw [e5.row];exact hr1⟩
    ·exact ⟨_,by rw [hH'old l1 hd1 hnp,hnoinv l1 hi,hb1];rfl,by rw [OB.Aq6];exact hr1⟩
   by_cases hi: ∃t∈Fu 0 s.ins as,t.2.reads=false∧t.2.lab=l
   ·obtain ⟨b1,b',e1,e2,e3,e4,e5,e6⟩:=hinv l hd hi
    rw [h0] at e1;cases e1
    exact .inr ⟨b',by rw [hH'old l hd hip,e2];simp [e4],by rw [e3];exact e5,fun _=>e6 π' H' hD1⟩
   ·exact .inl ⟨fun hh=>hh.elim hi hip,by rw [hH'old l hd hip,hnoinv l hi,h0];rfl⟩
  ·obtain ⟨j,hj,rfl⟩:=newAt l b' hb hd
   refine ⟨hklt j hj,?_,fun q b hq=>?_⟩
   ·rw [hkpi j hj]
    rcases Nat.lt_or_ge j s.outs.length with hjo|hjo
    ·rcases n2 j (Nat.zero_le _) (by omega) with ⟨e1,_⟩|⟨b2,e1,e2⟩
     ·rw [show Ac H' (Bo ks j)=none from e1] at hb;cases hb
     ·rw [show Ac H' (Bo ks j)=some b2 from e1] at hb;cases hb
      exact e2 X π' H' (fun hf q hq=>hfreew j hf q hq (hfoot' j q hq hjo)) hD1
    ·obtain ⟨tid,htid,hj0⟩:=hlast j hj hjo
     subst hj0
     rw [(hvk tid htid).1,hHv tid htid] at hb;cases hb
     unfold Aia at hret
     rw [htid] at hret
     obtain ⟨q,y1,y2,y3,y4,_⟩:=hret
     rw [hρ0,y1]
     exact ⟨full q,rfl,y2,_,y3,Gp.to (Gp.take s.Pp (n3 π' hD1 (fun j _ hj=>hkpi j (by omega)))).2 (by simpa using y4)⟩
   ·rw [hkpi j hj] at hq
    have hcl:=hclρ _ q hq
    refine ⟨fun hf=>by rw [hcl];exact hf,fun hf=>?_⟩
    rw [hcl] at hf
    obtain ⟨h1,h2⟩:=hplρ.at' _ q b hq hf
    refine ⟨h1,h2.imp id ?_,fun l2 r2 hd2 hp2 hf2=>?_⟩
    ·rintro ⟨c,p,h3,h4,h5⟩
     obtain ⟨t,t1,t2,t0,p',t3,t4,_⟩:=hfoot c p b h4 h5
     exact ⟨t.2.lab,p',List.mem_append_left _ (List.mem_append_left _ (Ul.2 ⟨t,etk▸t1,⟨by rw [t2];exact h3,t0⟩,rfl⟩)),t3,t4⟩
    ·by_cases hk: ∃j,j<s.Lk∧l2=Bo ks j
     ·obtain ⟨j2,hj2,rfl⟩:=hk
      rw [hkpi j2 hj2] at hp2
      rw [hclρ _ r2 hp2] at hf2
      have:=hplρ.inj _ _ r2 q b hp2 hq hf2 hf
      unfold Ep at this
      have:j2=j:=by omega
      rw [this]
     ·have e0:π' l2=if l2∈dead then none else π l2:=hknone l2 hk
      rw [e0] at hp2
      split at hp2
      ·cases hp2
      ·rename_i hnd2
       rcases hd2 with hd2|hd2
       ·exact absurd hd2 hnd2
       ·rw [(h.1.heap l2).emp hd2] at hp2;cases hp2
  ·by_cases hk: ∃j,j<s.Lk∧l=Bo ks j
   ·obtain ⟨j,hj,rfl⟩:=hk
    rw [hkpi j hj]
    rcases Nat.lt_or_ge j s.outs.length with hjo|hjo
    ·rcases n2 j (Nat.zero_le _) (by omega) with ⟨_,e1⟩|⟨b2,e1,_⟩
     ·exact e1
     ·rw [show Ac H' (Bo ks j)=some b2 from e1] at hl;cases hl
    ·obtain ⟨tid,htid,hj0⟩:=hlast j hj hjo
     subst hj0
     rw [(hvk tid htid).1,hHv tid htid] at hl;cases hl
   ·have e0:π' l=if l∈dead then none else π l:=hknone l hk
    rw [e0]
    split
    ·rfl
    ·rename_i hd
     by_cases hip:l∈pl
     ·obtain ⟨p,_,h1,_⟩:=hplv l hip
      rw [hH'pl l hip p h1] at hl;cases hl
     rw [hH'old l hd hip] at hl
     by_cases hi: ∃t∈Fu 0 s.ins as,t.2.reads=false∧t.2.lab=l
     ·obtain ⟨_,b',_,e2,_⟩:=hinv l hd hi
      rw [e2] at hl;cases hl
     ·rw [hnoinv l hi] at hl
      cases h0:Ac st.heap l with
      |none=>exact (h.1.heap l).emp h0
      |some b=>rw [h0] at hl;cases hl
  ·refine hbel.block _ (h.1.lt hm).1 fun hor=>?_
   rcases hor with ho|hg
   rotate_left
   ·obtain ⟨l,hl,q',h1,h2,_⟩:=hgv _ hg
    have hlab:=h.1.apart hm h1 (h.1.Av hm) h2
    obtain ⟨_,_,_,_,_,_,_,h3,_⟩:=hplv l hl
    obtain ⟨b,hxa,hxb⟩:=hxa
    rw [hlab,h3] at hxa;cases hxa
    exact hxb rfl
   obtain ⟨t,t1,t0,p,t3,t4,t5⟩:=hown _ ho
   have hlab:=h.1.apart hm t3 (h.1.Av hm) t4
   have hpq:p=q:=by rw [←hlab,hm] at t3;exact (Option.some.inj t3).symm
   cases ht2:t.2 with
   |row l=>
    refine hp ?_
    show m∈whole tks
    unfold whole
    exact List.mem_flatMap.2 ⟨t,etk▸t1,by rw [ht2,hlab,ht2];simp [Loc.lab]⟩
   |sub l i j=>exact t5 l i j ht2 (by rw [hpq])
   |view l=>rw [ht2] at t0;cases t0
 ·have hrep:=n3 π' hD1 (fun j _ hj=>hkpi j (by omega))
  cases hrp:s.rp with
  |some tid=>
   unfold Aia at hret
   rw [hrp] at hret
   obtain ⟨q,y1,y2,y3,y4,rfl⟩:=hret
   unfold Bds at hra
   rw [hrp] at hra
   simp only [Option.some.injEq] at hra;subst hra
   refine ⟨full q,tid,_,hHv tid hrp,?_,rfl⟩
   rw [←(hvk tid hrp).1,hkpi _ (by have:=(hvk tid hrp).2;omega),hρ0,y1]
   rfl
  |none=>
  unfold Aia at hret
  rw [hrp] at hret
  obtain ⟨hret,hsh'⟩:=hret
  unfold Bds at hra
  rw [hrp] at hra
  simp only at hra
  obtain ⟨g1,g2,g3,g4⟩:=Ud s.rshapes _ (us'.drop s.Pp) hsh' (Gp.take s.Pp hrep).2
  unfold Bgb at hra
  unfold Bc7 at hret
  split at hra
  ·rename_i hm
   rw [if_pos hm] at hret
   simp only [Option.some.injEq] at hra;subst hra
   subst hret
   exact ⟨_,rfl,g3.symm,g4⟩
  ·rename_i hm
   rw [if_neg hm] at hret
   split at hra
   ·rename_i av1 hga
    simp only [Option.some.injEq] at hra;subst hra
    rcases hret with hret|hret
    ·exact g2 0 _ v (by rw [hga];rfl) (by rw [hret];rfl)
    ·rw [hga,hret] at g1;cases g1
   ·simp only [Option.some.injEq] at hra;subst hra;trivial
   ·cases hra
end
end Go.Proofs.Ytebabhocakedaaa
