/-
  Part 17 of the proof that the statement FnExactBoundGap holds.
-/
import Derived.Test.YtfolipnappekaaaGreatCBoundGap15
namespace Go.Proofs.YtfolipnappekaaaGreat
open Go.RowKit
section
variable {P:Program} {T:Tab} {X:Ctx} {w w':World} {π π':Pi} {H H':List (Nat×OB)}
theorem Vh (k:Nat): ¬Bv true k<Am:=by unfold Bv Am;simp
theorem bx {k:Nat} (h:k<100000):Bv false k<Am:=by unfold Bv Am;simp;omega
def iz (X:Ctx) (D:Nat->Prop) (w':World) (π:Pi) (H Hn:List (Nat×OB)) (l:Nat):Prop:=
 ∃b0 b',Ad H l=some b0/\Ad Hn l=some b'/\(∀f,OB.map f b0=b0)/\(∀f,OB.map f b'=b')/\b0.bf b'/\ ∀π' H',(∀b,Qd π' b\/X.Sc b->D b)->Aw X w' π' H' (π l) b'
theorem SR {io:Bool} {k:Nat} {τ:Ty} {a:AC} {t:Nat×Loc} (h:t∈Lc io k (.Er τ) a):t.1=Bv false k:=by
 cases a<;>simp [Lc,views] at h<;>first|(obtain ⟨_,⟨_,_⟩,rfl⟩:=h;rfl)|(rw [h])
theorem LW {io:Bool} {k:Nat} {e:Ty} {te:TypeId} {a:AC} {t:Nat×Loc} (h:t∈Lc io k (.part e te) a):t.1=Bv io k:=by cases a<;>simp [Lc] at h<;>rw [h]
theorem SU {io:Bool} {k:Nat} {e:Ty} {te:TypeId} {a:AC} {t:Nat×Loc} (h:t∈Lc io k (.row e te) a):t.1=Bv io k:=by cases a<;>simp [Lc] at h<;>rw [h]
theorem LX {io:Bool} {k:Nat} {e:Ty} {te:TypeId} {a:AC} {t:Nat×Loc} (h:t∈Lc io k (.Eb e te) a):t.1=Bv io k:=by cases a<;>simp [Lc] at h<;>rw [h]
theorem aQ {D:Nat->Prop} {π':Pi} {fr:Bool} {e:Ty} {es:List Value} {y:e.den} (hD: ∀b,Qd π' b\/X.Sc b->D b) (h:Cells w' D e es y):Cells w' (Bf X.w0.heap.size X.Sc π' (fr&&e.flat)) e es y:=by
 cases hf:e.flat with
 |true=>exact Cells.flat e es y hf h
 |false=>exact Cells.Cs (Nat.le_refl _) (λ_ _ _=>rfl) (λb _ hb=>by
   rcases hb with hb|hb|⟨hb,_⟩
   ·exact hD b (.inl hb)
   ·exact hD b (.inr hb)
   ·simp at hb) e es y h
theorem LZ {D P:Nat->Prop} {g o:Nat} {cur:Array Value} {tr:Bool} {e:Ty} {xs:List e.den}
  (h: ∀(i:Nat) (x:e.den),xs[i]?=some x-> ∃es:List Value,es.length=e.size/\(∀j u,es[j]?=some u->cur[(o+i)*e.size+j]?=some u)/\Cells w' D e es x) (ht:(tr&&e.flat)=true):Rl w' P g o cur e xs:=by
 simp only [Bool.and_eq_true] at ht
 exact iT ht.2 h
theorem KT {D:Nat->Prop} (h:Iq X w π H) {k:Nat} {c:CK} {ys:c.den} {a:AC} {u:Value} {r:Option Real} {x:c.den} {cur st1:St} (hs:w.heap.size<=w'.heap.size)
  (hU: ∀l i j q b,a= .sub l i j->π l=some q->q.Bc b->b<w.heap.size->(∀r',r=some r'-> ¬r'.Bc b)->w'.heap[b]?=w.heap[b]?)
  {V:List Nat} (ht:aG w (Jq X π V) r u c x/\Nz w π H true a u r c x) (hr:bO w' D r c ys) (he:Xn cur c ys a=some st1) (cw: ∀t∈Lc true k c a,Ad cur.heap t.2.Rf=Ad H t.2.Rf):
  st1.tmps=cur.tmps/\(∀m,(∀t∈Lc true k c a,m≠t.2.Rf)->Ad st1.heap m=Ad cur.heap m)/\ ∀t∈Lc true k c a,iz X D w' π H st1.heap t.2.Rf:=by
 obtain ⟨hc,ht⟩:=ht
 cases c with
 |Er τ=>cases a<;>simp [Xn] at he;subst he;exact ⟨rfl,λ_ _=>rfl,λt ht=>by simp [Lc] at ht⟩
 |row e te=>
  simp only [Nz] at ht
  cases a<;>simp only [] at ht<;>first|(exact ht.elim)|skip
  ·simp only [Xn,Option.some.injEq] at he;subst he
   exact ⟨rfl,λ_ _=>rfl,λt ht=>by simp [Lc] at ht⟩
  ·rename_i l off len
   obtain ⟨rfl,rfl,rfl,fr,tr,hl⟩:=ht
   have Mu:Ad cur.heap l=some (.arr fr tr e te x):=(cw _ (List.mem_singleton.2 rfl)).trans hl
   simp only [Xn,St.at,Mu] at he
   split at he
   ·rename_i Fu
    obtain ⟨_,h1,_⟩:=Fu
    simp only [Option.some.injEq] at he;subst he
    refine ⟨rfl,λm hm=>Bw _ _ _ _ (hm _ (List.mem_singleton.2 rfl)),λt Qe=>?_⟩
    have Qe:=List.mem_singleton.1 Qe
    subst Qe
    refine ⟨_,_,hl,Ci _ _ _ _ Mu,λ_=>rfl,λ_=>rfl,⟨rfl,h1.symm⟩,λπ' H' hD=>?_⟩
    have hb:=(h.heap l).Lx hl
    change Aw X w' π' H' (π l) _
    simp only [Aw,Gg] at hb⊢
    cases hp:π l with
    |none=>rw [hp] at hr;exact hr
    |some q=>
     rw [hp] at hr hb
     obtain ⟨k1,cu,ti,k2,k3,k4,k5,k6⟩:=hr
     exact ⟨⟨k1.1,k1.2,λhh=>hb.1.2.2 (by simp only [Bool.and_eq_true] at hh;exact hh.1)⟩,cu,ti,k2,k3,k4,k5,λi y hy=>by
      obtain ⟨es,g1,g2,g3⟩:=k6 i y hy
      exact ⟨es,g1,g2,aQ hD g3⟩,λht=>LZ k6 ht⟩
   ·cases he
  ·rename_i l i j
   obtain ⟨⟨_,hf⟩,tid,xs,hl,hx,q,hq,Qm,hre⟩:=ht
   have Mu:Ad cur.heap l=some (.Dn (.slice e) tid xs):=(cw _ (List.mem_singleton.2 rfl)).trans hl
   simp only [Xn,St.at,Mu,hx] at he
   rw [dif_pos trivial] at he
   ·split at he
    ·rename_i h1
     simp only [Option.some.injEq] at he;subst he
     refine ⟨rfl,λm hm=>Bw _ _ _ _ (hm _ (List.mem_singleton.2 rfl)),λt Qe=>?_⟩
     have Qe:=List.mem_singleton.1 Qe
     subst Qe
     refine ⟨_,_,hl,Ci _ _ _ _ Mu,λ_=>rfl,λ_=>rfl,⟨rfl,by simp⟩,λπ' H' _=>?_⟩
     show Jc w' (π l) (.slice e) tid _
     rw [hq]
     refine hre w' ys hs (λb Gc hb hn=>hU l i j q b rfl hq hb Gc hn) ?_
     have hv:=hc.1
     rw [<-show List.length ys=List.length x from h1] at hv
     exact Nk.FE hr hf hv
    ·cases he
 |Eb e te=>
  simp only [Nz] at ht
  cases a<;>simp only [] at ht<;>first|(exact ht.elim)|skip
  ·simp only [Xn,Option.some.injEq] at he;subst he
   exact ⟨rfl,λ_ _=>rfl,λt ht=>by simp [Lc] at ht⟩
  ·rename_i l off len
   obtain ⟨rfl,rfl,rfl,hl⟩:=ht
   have Mu:Ad cur.heap l=some (.Dn e te x):=(cw _ (List.mem_singleton.2 rfl)).trans hl
   simp only [Xn,St.at,Mu] at he
   split at he
   ·rename_i Fu
    obtain ⟨_,h1,_⟩:=Fu
    simp only [Option.some.injEq] at he;subst he
    refine ⟨rfl,λm hm=>Bw _ _ _ _ (hm _ (List.mem_singleton.2 rfl)),λt Qe=>?_⟩
    have Qe:=List.mem_singleton.1 Qe
    subst Qe
    refine ⟨_,_,hl,Ci _ _ _ _ Mu,λ_=>rfl,λ_=>rfl,⟨rfl,h1.symm⟩,λπ' H' _=>?_⟩
    show Jc w' (π l) e te _
    cases hp:π l with
    |none=>rw [hp] at hr;exact hr
    |some q=>rw [hp] at hr;exact hr
   ·cases he
  ·rename_i l i j
   obtain ⟨_,tid,xs,hl,hx,q,hq,Qm,hre⟩:=ht
   have Mu:Ad cur.heap l=some (.Dn (.slice e) tid xs):=(cw _ (List.mem_singleton.2 rfl)).trans hl
   simp only [Xn,St.at,Mu,hx] at he
   rw [dif_pos trivial] at he
   ·split at he
    ·rename_i h1
     simp only [Option.some.injEq] at he;subst he
     refine ⟨rfl,λm hm=>Bw _ _ _ _ (hm _ (List.mem_singleton.2 rfl)),λt Qe=>?_⟩
     have Qe:=List.mem_singleton.1 Qe
     subst Qe
     refine ⟨_,_,hl,Ci _ _ _ _ Mu,λ_=>rfl,λ_=>rfl,⟨rfl,by simp⟩,λπ' H' _=>?_⟩
     show Jc w' (π l) (.slice e) tid _
     rw [hq]
     refine hre w' ys hs (λb Gc hb hn=>hU l i j q b rfl hq hb Gc hn) ?_
     have hv:=hc.1
     rw [<-show List.length ys=List.length x from h1] at hv
     exact Jc.FE (te:=te) hr hv
    ·cases he
 |part e te=>cases a<;>simp [Xn] at he<;>first|(simp only [Nz] at ht;exact ht.2.elim)
 |Ak e te kp=>exact absurd ht.1 (by simp)
theorem KU {D:Nat->Prop} (h:Iq X w π H) {k:Nat} {e:Ty} {te:TypeId} {ys:List e.den} {a:AC} {u:Value} {r:Option Real} {x:(CK.part e te).den} {cur st1:St}
  {V:List Nat} (ht:aG w (Jq X π V) r u (.part e te) x/\Nz w π H true a u r (.part e te) x) (hr:bO w' D r (.row e te) ys) (he:DX cur e ys a=some st1) (cw: ∀t∈Lc true k (.part e te) a,Ad cur.heap t.2.Rf=Ad H t.2.Rf):
  st1.tmps=cur.tmps/\(∀m,(∀t∈Lc true k (.part e te) a,m≠t.2.Rf)->Ad st1.heap m=Ad cur.heap m)/\ ∀t∈Lc true k (.part e te) a,iz X D w' π H st1.heap t.2.Rf:=by
 obtain ⟨hc,hf,ht⟩:=ht
 cases a<;>simp only [] at ht<;>first|(exact ht.elim)|skip
 rename_i l off len
 obtain ⟨rfl,_,fr,tr,hl⟩:=ht
 have Mu:Ad cur.heap l=some (.arr fr tr e te x.1):=(cw _ (List.mem_singleton.2 rfl)).trans hl
 simp only [DX,St.at,Mu] at he
 split at he
 ·rename_i Fu
  obtain ⟨_,h1⟩:=Fu
  simp only [Option.some.injEq] at he;subst he
  refine ⟨rfl,λm hm=>Bw _ _ _ _ (hm _ (List.mem_singleton.2 rfl)),λt Qe=>?_⟩
  have Qe:=List.mem_singleton.1 Qe
  subst Qe
  refine ⟨_,_,hl,Ci _ _ _ _ Mu,λ_=>rfl,λ_=>rfl,⟨rfl,h1.symm⟩,λπ' H' _=>?_⟩
  have hb:=(h.heap l).Lx hl
  change Aw X w' π' H' (π l) _
  simp only [Aw,Gg] at hb⊢
  cases hp:π l with
  |none=>rw [hp] at hr;exact hr
  |some q=>
   rw [hp] at hr hb
   obtain ⟨k1,cu,ti,k2,k3,k4,k5,k6⟩:=hr
   exact ⟨⟨k1.1,k1.2,hb.1.2.2⟩,cu,ti,k2,k3,k4,k5,λi y hy=>by
    obtain ⟨es,g1,g2,g3⟩:=k6 i y hy
    exact ⟨es,g1,g2,Cells.flat e es y hf g3⟩,λ_=>iT hf k6⟩
 ·cases he
def nt (X:Ctx) (D:Nat->Prop) (w':World) (π:Pi) (H:List (Nat×OB)) (tk:List (Nat×Loc)) (cur st1:St):Prop:=
 st1.tmps=cur.tmps/\(∀m,(∀t∈tk,m≠t.2.Rf)->Ad st1.heap m=Ad cur.heap m)/\(∀t∈tk,t.1<Am->Ad st1.heap t.2.Rf=Ad cur.heap t.2.Rf)/\(∀t∈tk,¬t.1<Am->iz X D w' π H st1.heap t.2.Rf)
theorem pC {D:Nat->Prop} (h:Iq X w π H) {V:List Nat} {πc:Pi} {tks:List (Nat×Loc)} (hs:w.heap.size<=w'.heap.size)
  (hU: ∀t∈tks,∀q b,π t.2.Rf=some q->q.Bc b->b<w.heap.size->(∀r',πc t.1=some r'-> ¬r'.Bc b)->w'.heap[b]?=w.heap[b]?):
  ∀(cs:List (Bool×CK)) (k:Nat) (x:Ins.den cs) (as:List AC) (us:List Value) (o:IOs.den cs) (cur st1:St),k+cs.length<100000->(∀t∈Hk k cs as,t∈tks)->((Hk k cs as).map λt=>t.2.Rf).Nodup->
   mH X w π V H πc k cs x as us->Ht w' D πc k cs o->Em cs o as cur=some st1->(∀t∈Hk k cs as,Ad cur.heap t.2.Rf=Ad H t.2.Rf)->
   nt X D w' π H (Hk k cs as) cur st1
 | [],k,x,as,us,o,cur,st1,_,_,_,_,_,he,_=>by
  simp only [Em,Option.some.injEq] at he;subst he
  have e0:Hk k [] as= []:=by cases as<;>rfl
  exact ⟨rfl,λ_ _=>rfl,by rw [e0];simp,by rw [e0];simp⟩
 |p::r,k,x,[],us,o,cur,st1,_,_,_,ht,_,_,_=>ht.elim
 |p::r,k,x,a::as,[],o,cur,st1,_,_,_,ht,_,_,_=>ht.elim
 |(io,c)::r,k,x,a::as,u::us,o,cur,st1,hk,Kq,MY,ht,ho,he,cw=>by
  simp only [List.length_cons] at hk
  simp only [Hk] at Kq MY cw⊢
  rw [List.map_append] at MY
  obtain ⟨n1,n2,n3⟩:=List.nodup_append.1 MY
  have apart: ∀t∈Lc io k c a,∀t'∈Hk (k+1) r as,t'.2.Rf≠t.2.Rf:= λt h1 t' h2 e=>n3 _ (List.mem_map.2 ⟨t,h1,rfl⟩) _ (List.mem_map.2 ⟨t',h2,rfl⟩) e.symm
  have rest: ∀(Ua:St) (o':IOs.den r),Ht w' D πc (k+1) r o'->Em r o' as Ua=some st1->Ua.tmps=cur.tmps->(∀m,(∀t∈Lc io k c a,m≠t.2.Rf)->Ad Ua.heap m=Ad cur.heap m)->
    (∀t∈Lc io k c a,t.1<Am->Ad Ua.heap t.2.Rf=Ad cur.heap t.2.Rf)->(∀t∈Lc io k c a,¬t.1<Am->iz X D w' π H Ua.heap t.2.Rf)->
    nt X D w' π H (Lc io k c a++Hk (k+1) r as) cur st1:=by
   intro Ua o' h1 h2 h3 h4 h5 h6
   obtain ⟨g1,g2,g3,g4⟩:=pC h hs hU r (k+1) x.2 as us o' Ua st1 (by omega) (λt ht=>Kq t (List.mem_append_right _ ht)) n2 ht.2 h1 h2 (λt Qe=>by
    rw [h4 _ λt0 ht0=>apart t0 ht0 t Qe];exact cw t (List.mem_append_right _ Qe))
   have hd: ∀t∈Lc io k c a,Ad st1.heap t.2.Rf=Ad Ua.heap t.2.Rf:= λt Qe=>g2 _ λt' td=>(apart t Qe t' td).symm
   refine ⟨g1.trans h3,λm hm=>?_,λt Qe Gc=>?_,λt Qe Gc=>?_⟩
   ·rw [g2 m λt ht=>hm t (List.mem_append_right _ ht),h4 m λt ht=>hm t (List.mem_append_left _ ht)]
   ·rcases List.mem_append.1 Qe with Qe|Qe
    ·rw [hd t Qe,h5 t Qe Gc]
    ·rw [g3 t Qe Gc,h4 _ λt0 ht0=>apart t0 ht0 t Qe]
   ·rcases List.mem_append.1 Qe with Qe|Qe
    ·obtain ⟨b0,b',q1,q2,q3⟩:=h6 t Qe Gc
     exact ⟨b0,b',q1,(hd t Qe).trans q2,q3⟩
    ·exact g4 t Qe Gc
  have same: ∀o',Ht w' D πc (k+1) r o'->Em r o' as cur=some st1->(∀t∈Lc io k c a,t.1<Am)->nt X D w' π H (Lc io k c a++Hk (k+1) r as) cur st1:= λo' h1 h2 h3=>rest cur o' h1 h2 rfl (λ_ _=>rfl) (λ_ _ _=>rfl) (λt h4 h5=>absurd (h3 t h4) h5)
  cases io with
  |false=>
   have h3: ∀t∈Lc false k c a,t.1<Am:= λt h4=>by rcases zH h4 with ⟨h5,_⟩|⟨h5,_⟩<;>(rw [h5];exact bx (by omega))
   cases c with
   |Er τ=>exact same o ho (by simpa only [Em] using he) h3
   |row e te=>exact same o ho (by simpa only [Em] using he) h3
   |Eb e te=>exact same o ho (by simpa only [Em] using he) h3
   |part e te=>exact same o ho (by simpa only [Em] using he) h3
   |Ak e te kp=>exact same o ho (by simpa only [Em] using he) h3
  |true=>
   have row: ∀(ys:c.den) (o':IOs.den r),(∀t∈Lc true k c a,t.1=Bv true k)->bO w' D (πc (Bv true k)) c ys->Ht w' D πc (k+1) r o'->(∃Ua,Xn cur c ys a=some Ua/\Em r o' as Ua=some st1)->nt X D w' π H (Lc true k c a++Hk (k+1) r as) cur st1:=by
    intro ys o' h0 h1 h2 h3
    obtain ⟨Ua,hp,h3⟩:=h3
    ·obtain ⟨q1,q2,q3⟩:=KT (k:=k) h hs (λl i j q b ea hq hb Gc hn=>by
      cases c with
      |Er τ=>exact absurd (ht.1.2:πc _=none) (by subst ea;simp [Xn] at hp)
      |row e te=>subst ea;exact hU (Bv true k, .sub l i j) (Kq _ (List.mem_append_left _ (List.mem_singleton.2 rfl))) q b hq hb Gc hn
      |Eb e te=>subst ea;exact hU (Bv true k, .sub l i j) (Kq _ (List.mem_append_left _ (List.mem_singleton.2 rfl))) q b hq hb Gc hn
      |Ak e te kp=>exact absurd ht.1.2.1 (by simp)
      |part e te=>exact absurd ht.1.2.2 (by subst ea;exact λh=>h)) ht.1 h1 hp (λt Qe=>cw t (List.mem_append_left _ Qe))
     exact rest Ua o' h2 h3 q1 q2 (λt h4 h5=>absurd h5 (by rw [h0 t h4];exact Vh k)) (λt h4 _=>q3 t h4)
   cases c with
   |Er τ=>exact same o ho (by simpa only [Em] using he) (λt h4=>by rw [SR h4];exact bx (by omega))
   |Ak e te kp=>exact absurd ht.1.2.1 (by simp)
   |row e te=>
    simp only [Em] at he
    split at he
    ·rename_i Ua hp;exact row o.1 o.2 (λt ht=>SU ht) ho.1 ho.2 ⟨Ua,hp,he⟩
    ·cases he
   |Eb e te=>
    simp only [Em] at he
    split at he
    ·rename_i Ua hp;exact row o.1 o.2 (λt ht=>LX ht) ho.1 ho.2 ⟨Ua,hp,he⟩
    ·cases he
   |part e te=>
    simp only [Em] at he
    split at he
    ·rename_i Ua hp
     obtain ⟨q1,q2,q3⟩:=KU (k:=k) h ht.1 ho.1 hp (λt Qe=>cw t (List.mem_append_left _ Qe))
     exact rest Ua o.2 ho.2 he q1 q2 (λt h4 h5=>absurd h5 (by rw [LW h4];exact Vh k)) (λt h4 _=>q3 t h4)
    ·cases he
theorem DA {fr:Bool} {c:CK} {x:c.den} {u:Value} {r:Option Real} {D:Nat->Prop} (h:aG w' D r u c x):
  (rm fr c x=none/\r=none)\/ ∃b',rm fr c x=some b'/\ ∀(X:Ctx) π' H',(fr=true-> ∀q,r=some q->X.w0.heap.size<=q.g)->(∀b,Qd π' b\/X.Sc b->D b)->Aw X w' π' H' r b':=by
 cases c with
 |Er τ=>exact .inl ⟨rfl,h.1⟩
 |row e te=>
  refine .inr ⟨_,rfl,λX π' H' yc hD=>?_⟩
  obtain ⟨_,h⟩:=h
  simp only [bO] at h
  simp only [Aw,Gg]
  cases r with
  |none=>exact h
  |some q=>
   obtain ⟨k1,cu,ti,k2,k3,k4,k5,k6⟩:=h
   exact ⟨⟨k1.1,k1.2,λh1=>yc (by simp only [Bool.and_eq_true] at h1;exact h1.1) q rfl⟩,cu,ti,k2,k3,k4,k5,λi y hy=>by
    obtain ⟨es,g1,g2,g3⟩:=k6 i y hy
    exact ⟨es,g1,g2,aQ hD g3⟩,λh=>by cases h⟩
 |Eb e te=>exact .inr ⟨_,rfl,λX π' H' _ _=>h.2⟩
 |Ak e te kp=>exact .inr ⟨_,rfl,λX π' H' _ hD=>⟨Ui.Ex h.2 λb hb=>hD b (hb.imp id λh=>h.elim id λh=>by cases h.1),trivial⟩⟩
 |part e te=>
  refine .inr ⟨_,rfl,λX π' H' yc hD=>?_⟩
  obtain ⟨_,hf,h⟩:=h
  simp only [Aw,Gg]
  cases r with
  |none=>exact h
  |some q=>
   obtain ⟨k1,cu,ti,k2,k3,k4,k5,k6⟩:=h
   exact ⟨⟨k1.1,k1.2,λh1=>yc (by simp only [Bool.and_eq_true] at h1;exact h1.1) q rfl⟩,cu,ti,k2,k3,k4,k5,λi y hy=>by
    obtain ⟨es,g1,g2,g3⟩:=k6 i y hy
    exact ⟨es,g1,g2,aQ hD g3⟩,λh=>by cases h⟩
theorem mi {D:Nat->Prop} {key:Nat->Nat} (BW: ∀i j,key i=key j->i=j) {fr:Bool} {ρ:Pi} : ∀(cs:List CK) (k:Nat) (x:CKs.den cs) (us:List Value) (H:List (Nat×OB)),Fb w' D ρ k cs x us->
  (∀j,k<=j->j<k+cs.length->Ad H (key j)=none)->
  (∀l,(∀j,k<=j->j<k+cs.length->l≠key j)->Ad (Se fr key k cs x H) l=Ad H l)/\
  (∀j,k<=j->j<k+cs.length->(Ad (Se fr key k cs x H) (key j)=none/\ρ (Gj j)=none)\/
   ∃b',Ad (Se fr key k cs x H) (key j)=some b'/\ ∀(X:Ctx) π' H',(fr=true-> ∀q,ρ (Gj j)=some q->X.w0.heap.size<=q.g)->(∀b,Qd π' b\/X.Sc b->D b)->Aw X w' π' H' (ρ (Gj j)) b')/\
  (∀π',(∀b,Qd π' b\/X.Sc b->D b)->(∀j,k<=j->j<k+cs.length->π' (key j)=ρ (Gj j))->Ir X w' π' (Se fr key k cs x H) (Ww key k cs x) us)
 | [],k,x,[],H,_,_=>⟨λ_ _=>rfl,λj h1 h2=>by simp at h2;omega,λ_ _ _=>trivial⟩
 | [],_,_,_::_,_,h,_=>h.elim
 |_::_,_,_,[],_,h,_=>h.elim
 |c::r,k,x,u::us,H,h,hn=>by
  simp only [List.length_cons] at hn⊢
  simp only [Se,Ww]
  have qZ:=hn k (Nat.le_refl _) (by omega)
  have hH1: ∀l,l≠key k->Ad (yq H (key k) (rm fr c x.1)) l=Ad H l:=by
   intro l hl
   cases rm fr c x.1 with
   |some b=>exact Kf _ _ _ _ hl
   |none=>rfl
  have Adn:Ad (yq H (key k) (rm fr c x.1)) (key k)=rm fr c x.1:=by
   cases rm fr c x.1 with
   |some b=>exact Le _ _ _ qZ
   |none=>exact qZ
  generalize (yq H (key k) (rm fr c x.1))=H1 at hH1 Adn⊢
  obtain ⟨g1,g2,g3⟩:=mi BW (fr:=fr) r (k+1) x.2 us H1 h.2 (λj h1 h2=>by
   rw [hH1 _ λe=>by have:=BW _ _ e;omega];exact hn j (by omega) (by omega))
  have TQ:Ad (Se fr key (k+1) r x.2 H1) (key k)=rm fr c x.1:=by
   rw [g1 _ λj h1 h2 e=>by have:=BW _ _ e;omega];exact Adn
  refine ⟨λl hl=>?_,λj h1 h2=>?_,λπ' hd YM=>⟨?_,?_⟩⟩
  ·rw [g1 l λj h1 h2=>hl j (by omega) (by omega)]
   exact hH1 l (hl k (Nat.le_refl _) (by omega))
  ·rcases Nat.eq_or_lt_of_le h1 with e|h1
   ·subst e
    rw [TQ]
    exact DA h.1
   ·exact g2 j h1 (by omega)
  ·have h1:=h.1
   have hpk:=YM k (Nat.le_refl _) (by omega)
   cases c with
   |Er τ=>
    obtain ⟨cZ,c1,c2⟩:=h1.2
    exact ⟨cZ,by have:=aQ (fr:=true) hd c1;simpa using this,c2⟩
   |row e te=>exact ⟨_,e.size,List.length x.1,TQ,rfl,by simp,by rw [hpk];exact h1.1⟩
   |Eb e te=>exact ⟨_,e.size,List.length x.1,TQ,rfl,by simp,by rw [hpk];exact h1.1⟩
   |Ak e te kp=>exact ⟨_,1,List.length x.1,TQ,rfl,by simp,by rw [hpk];exact h1.1⟩
   |part e te=>trivial
  ·exact g3 π' hd λj h1 h2=>YM j (by omega) (by omega)
theorem CO {ks:List Nat} {n:Nat} (h:vr ks n=true):ks.length=n/\ks.Nodup/\ ∀l∈ks,l<Am:=by
 unfold vr at h
 simp only [Bool.and_eq_true] at h
 refine ⟨Nat.eq_of_beq_eq_true h.1,Sd h.2.1,λl hl=>?_⟩
 have:=List.all_eq_true.1 h.2.2 l hl
 simpa using this
theorem Ly {ks:List Nat} {j:Nat} (h:j<ks.length):Bx ks j=ks[j]:=by
 unfold Bx
 rw [List.getElem?_eq_getElem h]
theorem xA {ks:List Nat} (hn:ks.Nodup) (hl: ∀l∈ks,l<Am): ∀i j,Bx ks i=Bx ks j->i=j:=by
 intro i j h
 by_cases hi:i<ks.length
 ·by_cases hj:j<ks.length
  ·rw [Ly hi,Ly hj] at h
   rcases Nat.lt_trichotomy i j with Gc|he|Gc
   ·exact absurd h (List.pairwise_iff_getElem.1 hn i j hi hj Gc)
   ·exact he
   ·exact absurd h.symm (List.pairwise_iff_getElem.1 hn j i hj hi Gc)
  ·have h1:=hl _ (List.getElem_mem hi)
   rw [Ly hi] at h
   unfold Bx at h
   rw [List.getElem?_eq_none (by omega)] at h
   simp only at h
   omega
 ·by_cases hj:j<ks.length
  ·have h1:=hl _ (List.getElem_mem hj)
   rw [Ly hj] at h
   unfold Bx at h
   rw [List.getElem?_eq_none (by omega)] at h
   simp only at h
   omega
  ·unfold Bx at h
   rw [List.getElem?_eq_none (by omega),List.getElem?_eq_none (by omega)] at h
   simp only at h
   omega
theorem Iz: ∀(H:List (Nat×OB)) (dead:List Nat) (l:Nat),Ad (Rq H dead) l=if l∈dead then none else Ad H l
 | [],dead,l=>by simp [Rq,Ad]
 |(k,b)::r,dead,l=>by
  simp only [Rq]
  have ih:=Iz r dead l
  by_cases hk:k∈dead
  ·rw [if_pos (by simpa using hk),ih]
   split
   ·rfl
   ·rename_i hl
    simp only [Ad]
    rw [if_neg (λ(e:k=l)=>hl (e▸hk))]
  ·rw [if_neg (by simpa using hk)]
   simp only [Ad]
   split
   ·rename_i e;subst e;rw [if_neg hk]
   ·exact ih
theorem mem_keys {ks:List Nat} {l:Nat} :l∈ks↔ ∃k,k<ks.length/\l=Bx ks k:=
 ⟨λh=>by obtain ⟨k,hk,e⟩:=List.getElem_of_mem h;exact ⟨k,hk,by rw [Ly hk,e]⟩,λ⟨k,hk,e⟩=>by rw [e,Ly hk];exact List.getElem_mem hk⟩
theorem ah {tks:List (Nat×Loc)} {l:Nat} :l∈iK tks↔ ∃t∈tks,(t.1<Am/\t.2.reads=false)/\t.2.Rf=l:=by
 unfold iK
 simp only [List.mem_map,List.mem_filter,Bool.and_eq_true,Nat.blt_eq,Bool.not_eq_true']
 exact ⟨λ⟨t,⟨h1,h2⟩,h3⟩=>⟨t,h1,h2,h3⟩,λ⟨t,h1,h2,h3⟩=>⟨t,⟨h1,h2⟩,h3⟩⟩
theorem vu {tks:List (Nat×Loc)} (h:(tks.map λt=>t.2.Rf).Nodup) {t t':Nat×Loc} (ht:t∈tks) (td:t'∈tks) (he:t.2.Rf=t'.2.Rf):t=t':=by
 induction tks with
 |nil=>cases ht
 |cons a r ih=>
  simp only [List.map_cons] at h
  obtain ⟨h1,h2⟩:=List.nodup_cons.1 h
  rcases List.mem_cons.1 ht with rfl|ht<;>rcases List.mem_cons.1 td with rfl|td
  ·rfl
  ·exact (h1 (List.mem_map.2 ⟨t',td,he.symm⟩)).elim
  ·exact (h1 (he▸List.mem_map.2 ⟨t,‹t∈r›,rfl⟩)).elim
  ·exact ih h2 ht td
theorem Fb.full {D:Nat->Prop} {ρ:Pi} : ∀(cs:List CK) (k:Nat) (x:CKs.den cs) (us:List Value),Fb w D ρ k cs x us->Fb w D (λl=>(ρ l).map full) k cs x us
 | [],_,_,[],h=>h
 | [],_,_,_::_,h=>h.elim
 |_::_,_,_,[],h=>h.elim
 |c::r,k,x,u::us,h=>⟨by
   have h1:=h.1
   show aG w D ((ρ (Gj k)).map _) u c x.1
   cases c with
   |Er τ=>rw [h1.1];exact ⟨rfl,h1.2⟩
   |row e te=>cases hp:ρ (Gj k)<;>(rw [hp] at h1;exact h1)
   |Eb e te=>cases hp:ρ (Gj k)<;>(rw [hp] at h1;exact h1)
   |Ak e te kp=>cases hp:ρ (Gj k)<;>(rw [hp] at h1;exact h1)
   |part e te=>cases hp:ρ (Gj k)<;>(rw [hp] at h1;exact h1),Fb.full r (k+1) x.2 us h.2⟩
theorem Fb.XG {D:Nat->Prop} {ρ:Pi} : ∀(cs:List CK) (k0:Nat) (x:CKs.den cs) (us:List Value),Fb w D ρ k0 cs x us-> ∀j,k0<=j->j<k0+cs.length-> ∀q,ρ (Gj j)=some q->q.Bc q.g
 | [],k0,_,_,_,j,h1,h2,_,_=>by simp at h2;omega
 |_::_,_,_,[],h,_,_,_,_,_=>h.elim
 |c::r,k0,x,u::us,ho,j,h1,h2,q,hq=>by
  rcases Nat.eq_or_lt_of_le h1 with e|h1
  ·subst e
   have:=ho.1
   cases c with
   |Er τ=>rw [hq] at this;cases this.1
   |row e te=>rw [hq] at this;exact this.2.1.1
   |Eb e te=>rw [hq] at this;exact this.2.1
   |part e te=>rw [hq] at this;exact this.2.2.1.1
   |Ak e te kp=>rw [hq] at this;exact this.2.1
  ·exact Fb.XG r (k0+1) x.2 us ho.2 j h1 (by simp at h2;omega) q hq
theorem Nk.any {D D':Nat->Prop} {r:Option Real} {e:Ty} {xs:List e.den} (hf:e.flat=true) (h:Nk w D r e xs):Nk w D' r e xs:=by
 cases r with
 |none=>exact h
 |some r=>
  obtain ⟨k1,cu,ti,k2,k3,k4,k5,k6⟩:=h
  exact ⟨k1,cu,ti,k2,k3,k4,k5,λi y hy=>by
   obtain ⟨es,g1,g2,g3⟩:=k6 i y hy
   exact ⟨es,g1,g2,Cells.flat e es y hf g3⟩⟩
theorem Fb.any {D D':Nat->Prop} {ρ:Pi} : ∀(cs:List CK) (k:Nat) (x:CKs.den cs) (us:List Value),cs.all (·.flat)=true->Fb w D ρ k cs x us->Fb w D' ρ k cs x us
 | [],_,_,[],_,h=>h
 | [],_,_,_::_,_,h=>h.elim
 |_::_,_,_,[],_,h=>h.elim
 |c::r,k,x,u::us,hf,h=>by
  simp only [List.all_cons,Bool.and_eq_true] at hf
  refine ⟨?_,Fb.any r (k+1) x.2 us hf.2 h.2⟩
  have h1:=h.1
  cases c with
  |Er τ=>exact ⟨h1.1,Bd.flat hf.1 h1.2⟩
  |row e te=>exact ⟨h1.1,Nk.any hf.1 h1.2⟩
  |Eb e te=>exact h1
  |part e te=>exact ⟨h1.1,h1.2.1,Nk.any hf.1 h1.2.2⟩
  |Ak e te kp=>exact absurd hf.1 (by simp [CK.flat])
theorem Ht.any {D D':Nat->Prop} {π:Pi} : ∀(cs:List (Bool×CK)) (k:Nat) (x:IOs.den cs),(cs.all λp=>!p.1||p.2.flat)=true->Ht w D π k cs x->Ht w D' π k cs x
 | [],_,_,_,h=>h
 |(false,_)::r,k,x,hf,h=>Ht.any r (k+1) x (by simp only [List.all_cons,Bool.and_eq_true] at hf;exact hf.2) h
 |(true, .Er _)::r,k,x,hf,h=>Ht.any r (k+1) x (by simp only [List.all_cons,Bool.and_eq_true] at hf;exact hf.2) h
 |(true, .Ak _ _ _)::r,k,x,hf,h=>Ht.any r (k+1) x (by simp only [List.all_cons,Bool.and_eq_true] at hf;exact hf.2) h
 |(true, .row e te)::r,k,x,hf,h=>by
  simp only [List.all_cons,Bool.and_eq_true,Bool.not_true,Bool.false_or] at hf
  exact ⟨Nk.any hf.1 h.1,Ht.any r (k+1) x.2 hf.2 h.2⟩
 |(true, .Eb e te)::r,k,x,hf,h=>by
  simp only [List.all_cons,Bool.and_eq_true,Bool.not_true,Bool.false_or] at hf
  exact ⟨h.1,Ht.any r (k+1) x.2 hf.2 h.2⟩
 |(true, .part e te)::r,k,x,hf,h=>by
  simp only [List.all_cons,Bool.and_eq_true,Bool.not_true,Bool.false_or] at hf
  exact ⟨Nk.any hf.1 h.1,Ht.any r (k+1) x.2 hf.2 h.2⟩
theorem pc {tks:List (Nat×Loc)} {l:Nat} :l∈wN tks↔ ∃t∈tks,t.2.reads=true/\t.2.Rf=l:=by
 unfold wN
 simp only [List.mem_map,List.mem_filter]
 exact ⟨λ⟨t,⟨h1,h2⟩,h3⟩=>⟨t,h1,h2,h3⟩,λ⟨t,h1,h2,h3⟩=>⟨t,⟨h1,h2⟩,h3⟩⟩
theorem Al.ju {st:St} {a:Act} (h:Al X π st a w) {f:AC->AC} (hu:f .undef= .undef) {gv:Nat->Prop} (IW: ∀b,gv b->Qd π b) (hb:Gs w.heap.size gv w w')
  (a8: ∀b,b<w.heap.size->Qd π' b->Qd π b)
  (Kq: ∀l r b,π' l=some r->r.Bc b->r.cl b) (Aak: ∀l r b,π' l=some r->r.cl b->(X.w0.heap.size<=b\/X.gv b)/\b<w'.heap.size)
  (Ajj: ∀l l' r r' b,π' l=some r->π' l'=some r'->r.cl b->r'.cl b->l=l')
  (Ub: ∀l,Am<=l->Ad H' l≠none->Vy (X.cE l) (π' l))
  (hac:(∀fr τ cs x,Cells w (Bf X.w0.heap.size X.Sc π fr) τ cs x->Cells w' (Bf X.w0.heap.size X.Sc π' fr) τ cs x)-> ∀c v,Ec X w π st.heap c v->Ec X w' π' H' (f c) v)
  (UQ:Move X w w' π π' st.heap H' f-> ∀l b,Ad H' l=some b->Aw X w' π' H' (π' l) b)
  (HB: ∀l,Ad H' l=none->π' l=none):
  Al X π' {tmps:=st.tmps.map (·.map f),heap:=H'} a w':=by
 have hc: ∀fr τ cs x,Cells w (Bf X.w0.heap.size X.Sc π fr) τ cs x->Cells w' (Bf X.w0.heap.size X.Sc π' fr) τ cs x:= λfr τ cs x hh=>
  Cells.Cs hb.size (λk hk hn=>hb.block k hk λhg=>hn (.inl (IW k hg))) (λk Gc hA=>hA.imp (a8 k Gc) id) τ cs x hh
 have m:Move X w w' π π' st.heap H' f:=⟨hac hc,hc⟩
 refine ⟨⟨⟨hb.os.trans h.1.below.os,hb.tape.trans h.1.below.tape,hb.output.trans h.1.below.output,Nat.le_trans h.1.below.size hb.size,λk hk hn=>?_⟩,h.1.sc,Kq,Aak,Ajj,Ub,λl=>?_⟩,m.EB hu h.2⟩
 ·refine (hb.block k (Nat.lt_of_lt_of_le hk h.1.below.size) λhg=>?_).trans (h.1.below.block k hk hn)
  rcases (h.1.own (IW k hg)).2 with h1|h1
  ·omega
  ·exact hn h1
 ·cases hh:Ad H' l with
  |none=>exact Cz.Ol (HB l hh) hh
  |some b=>exact Cz.Hi (UQ m l b hh) hh
def bP:Option Real->Option Real->Prop
 |none,none=>True
 |some r,some r'=>r.g=r'.g/\r.o=r'.o/\r.cap=r'.cap
 |_,_=>False
theorem bP.rfl' (r:Option Real):bP r r:=by cases r<;>simp [bP]
theorem bP.some {r:Real} {r':Option Real} (h:bP (some r) r'): ∃q,r'=some q/\r.g=q.g/\r.o=q.o/\r.cap=q.cap:=by
 cases r' with
 |none=>exact h.elim
 |some q=>exact ⟨q,rfl,h⟩
theorem bP.own {r r':Option Real} (h:bP r r') {sz off len:Nat} {v:Value} (hv:Eh r sz off len v):Eh r' sz off len v:=by
 cases r<;>cases r'<;>first|exact h.elim|skip
 ·exact hv
 ·obtain ⟨h1,h2,h3⟩:=h
  obtain ⟨ad,g1,g2,g3⟩:=hv
  exact ⟨ad,by rw [<-h3];exact g1,by rw [<-h3];exact g2,by rw [<-h1,<-h2,<-h3];exact g3⟩
structure OB.Ns (b b':OB):Prop where
 row: ∀sz n,b.row=some (sz,n)-> ∃n',b'.row=some (sz,n')/\n<=n'
 bZ: ∀p,b.bZ=some p->b'.bZ=some p
 qX: ∀p,b.qX=some p->b'.qX=some p
 var: ∀tid vs,b= .var tid vs-> ∃Pe vs',b'= .var Pe vs'
 Qc: ∀v m,b= .Qc v m-> ∃m',b'= .Qc v m'
theorem OB.Ns.map (f:AC->AC) (b:OB):b.Ns (b.map f) where
 row:= λsz n h=>⟨n,by cases b<;>exact h,Nat.le_refl _⟩
 bZ:= λp h=>by cases b<;>exact h
 qX:= λp h=>by cases b<;>exact h
 var:= λtid vs h=>by subst h;exact ⟨_,_,rfl⟩
 Qc:= λv m h=>by subst h;exact ⟨_,rfl⟩
theorem OB.Ns.rfl' (b:OB):b.Ns b where
 row:= λ_sz n h=>⟨n,h,Nat.le_refl _⟩
 bZ:= λ_p h=>h
 qX:= λ_p h=>h
 var:= λ_tid _vs h=>⟨_,_,h⟩
 Qc:= λ_v _m h=>⟨_,h⟩
theorem OB.Ns.trans {a b c:OB} (h:a.Ns b) (k:b.Ns c):a.Ns c where
 row:= λsz n hr=>by
  obtain ⟨n1,h1,h2⟩:=h.row sz n hr
  obtain ⟨n2,h3,h4⟩:=k.row sz n1 h1
  exact ⟨n2,h3,by omega⟩
 bZ:= λp hp=>k.bZ p (h.bZ p hp)
 qX:= λp hp=>k.qX p (h.qX p hp)
 var:= λtid vs hv=>by obtain ⟨t',v',h1⟩:=h.var tid vs hv;exact k.var t' v' h1
 Qc:= λv m hm=>by obtain ⟨m',h1⟩:=h.Qc v m hm;exact k.Qc v m' h1
theorem jt {f:AC->AC} {D Pt:Nat->Prop} (hf: ∀c,f c= .undef\/(f c=c/\(∀k∈c.refs,¬D k)/\ ∀k i j,c= .sub k i j\/c= .Gf k i j-> ¬Pt k)) (hp: ∀k,¬D k->bP (π k) (π' k))
  (hH: ∀k b,¬D k->Ad H k=some b-> ∃b',Ad H' k=some b'/\b.Ns b')
  (hg: ∀k r b,¬D k-> ¬Pt k->Ad H k=some b->b.bZ≠none->π k=some r->w'.heap[r.g]?=w.heap[r.g]?)
  (hc: ∀fr τ cs x,Cells w (Bf X.w0.heap.size X.Sc π fr) τ cs x->Cells w' (Bf X.w0.heap.size X.Sc π' fr) τ cs x): ∀c v,Ec X w π H c v->Ec X w' π' H' (f c) v:=by
 intro c v h
 rcases hf c with e|⟨e,hr,hs⟩
 ·rw [e];trivial
 rw [e]
 cases c with
 |data fr τ x=>obtain ⟨cs,h1,h2⟩:=h;exact ⟨cs,hc _ _ _ _ h1,h2⟩
 |own k off len=>
  obtain ⟨b,sz,n,h1,h0,h2,h3⟩:=h
  have hk:=hr k (by simp [AC.refs])
  obtain ⟨b',g1,g2⟩:=hH k b hk h1
  obtain ⟨n',g3,g4⟩:=g2.row sz n h0
  exact ⟨b',sz,n',g1,g3,by omega,(hp k hk).own h3⟩
 |Ea k i=>
  obtain ⟨r,tid,vs,h1,h2,h3⟩:=h
  have hk:=hr k (by simp [AC.refs])
  obtain ⟨b',g1,g2⟩:=hH k _ hk h1
  obtain ⟨Pe,vs',rfl⟩:=g2.var tid vs rfl
  obtain ⟨q,q1,q2,_⟩:=(h2▸hp k hk).some
  exact ⟨q,Pe,vs',g1,q1,by rw [<-q2];exact h3⟩
 |Gi k i=>
  obtain ⟨r,b,sz,n,h1,h0,h2,h3,h4⟩:=h
  have hk:=hr k (by simp [AC.refs])
  obtain ⟨b',g1,g2⟩:=hH k b hk h1
  obtain ⟨n',g3,g4⟩:=g2.row sz n h0
  obtain ⟨q,q1,q2,q3,_⟩:=(h3▸hp k hk).some
  exact ⟨q,b',sz,n',g1,g3,by omega,q1,by rw [<-q2,<-q3];exact h4⟩
 |sub k i c=>
  obtain ⟨r,b,sz,n,h1,h0,h2,h3,h4,h5⟩:=h
  have hk:=hr k (by simp [AC.refs])
  obtain ⟨b',g1,g2⟩:=hH k b hk h1
  obtain ⟨q,q1,q2,q3,_⟩:=(h2▸hp k hk).some
  exact ⟨q,b',sz,n,g1,g2.bZ _ h0,q1,h3,h4,by rw [<-q2,<-q3,World.cell?_of_block (hg k r b hk (hs k i c (.inl rfl)) h1 (by rw [h0];simp) h2)];exact h5⟩
 |Gf k i c=>
  obtain ⟨r,b,n,sz,g,o,len,cap,h1,h0,h2,h3,h4,h5,h6⟩:=h
  have hk:=hr k (by simp [AC.refs])
  obtain ⟨b',g1,g2⟩:=hH k b hk h1
  obtain ⟨q,q1,q2,q3,_⟩:=(h2▸hp k hk).some
  exact ⟨q,b',n,sz,g,o,len,cap,g1,g2.qX _ h0,q1,h3,h4,by rw [<-q2,<-q3,World.cell?_of_block (hg k r b hk (hs k i c (.inr rfl)) h1 (by cases b<;>first|(cases h0;done)|simp [OB.bZ]) h2)];exact h5,h6⟩
 |clo g Bz=>
  obtain ⟨us,h1,h2,h3⟩:=h
  refine ⟨us,h1,h2,λj p hpj=>?_⟩
  obtain ⟨r,tid,vs,h4,h5,h6⟩:=h3 j p hpj
  have hk:=hr p.1 (by simp only [AC.refs,List.mem_map];exact ⟨p,List.mem_of_getElem? hpj,rfl⟩)
  obtain ⟨b',g1,g2⟩:=hH p.1 _ hk h4
  obtain ⟨Pe,vs',rfl⟩:=g2.var tid vs rfl
  obtain ⟨q,q1,q2,_⟩:=(h5▸hp p.1 hk).some
  exact ⟨q,Pe,vs',g1,q1,by rw [<-q2];exact h6⟩
 |Gm k=>
  obtain ⟨r,vt,m,h1,h2,h3⟩:=h
  have hk:=hr k (by simp [AC.refs])
  obtain ⟨b',g1,g2⟩:=hH k _ hk h1
  obtain ⟨m',rfl⟩:=g2.Qc vt m rfl
  obtain ⟨q,q1,q2,_⟩:=(h2▸hp k hk).some
  exact ⟨q,vt,m',g1,q1,by rw [<-q2];exact h3⟩
 |_=>exact h
theorem Pk (H0:List (Nat×OB)) (ls:List Nat) (n:Nat): ∀(H:List (Nat×OB)) (l:Nat),Ad (Yz H0 ls n H) l=(Ad H l).map λb=>if ls.contains l then b.zq (Ws n (Ab7 (Ad H0 l))) else b
 | [],_=>rfl
 |(k,b)::r,l=>by
  simp only [Yz,Ad]
  split
  ·rename_i e;subst e;rfl
  ·exact Pk H0 ls n r l
theorem OB.wa (b:OB) (kp:Option (Nat×Nat)):b.Ns (b.zq kp):=by
 cases b with
 |Ak e te rows out kp0=>exact ⟨λsz n h=>⟨n,h,Nat.le_refl _⟩,λp h=>h,λp h=>h,(λ_ _ h=>by cases h),(λ_ _ h=>by cases h)⟩
 |_=>exact OB.Ns.rfl' _
theorem bI (ls:List Nat): ∀(l m:List AV) (t:Nat),l.length=m.length->(∃k i c,l.getD t .undef= .at (.sub k i c)/\ls.contains k=true/\(Hj ls l m).getD t .undef= .at (.sub k i c))\/(Hj ls l m).getD t .undef=m.getD t .undef
 | [],m,t,_=>by cases m<;>exact .inr rfl
 |_::_,[],t,h=>by simp at h
 |a::l,v::m,t,h=>by
  have ih:= λt=>bI ls l m t (by simpa using h)
  have tail: ∀u,Hj ls (a::l) (v::m)=u::Hj ls l m->(t=0->(∃k i c,(a::l).getD t .undef= .at (.sub k i c)/\ls.contains k=true/\u= .at (.sub k i c))\/u=v)->
    (∃k i c,(a::l).getD t .undef= .at (.sub k i c)/\ls.contains k=true/\(Hj ls (a::l) (v::m)).getD t .undef= .at (.sub k i c))\/(Hj ls (a::l) (v::m)).getD t .undef=(v::m).getD t .undef:=by
   intro u e h0
   rw [e]
   rcases t with _|t
   ·rcases h0 rfl with ⟨k,i,c,h1,h2,h3⟩|h3
    ·exact .inl ⟨k,i,c,h1,h2,by simpa using h3⟩
    ·exact .inr (by simpa using h3)
   ·simpa only [List.getD_cons_succ] using ih t
  cases a with
  | «at»c=>
   cases c with
   |sub k i c=>
    refine tail _ rfl λht=>?_
    subst ht
    by_cases hc:ls.contains k=true
    ·exact .inl ⟨k,i,c,rfl,hc,by rw [if_pos hc]⟩
    ·exact .inr (by rw [if_neg hc])
   |_=>exact tail _ rfl λ_=> .inr rfl
  |_=>exact tail _ rfl λ_=> .inr rfl
theorem qi {H:List (Nat×OB)} {ls:List Nat} {n:Nat} : ∀ {l:List AV} {t k i c:Nat},Zh H ls n l=true->l.getD t .undef= .at (.sub k i c)->ls.contains k=true->i<n/\i<ny H k
 | [],t,k,i,c,_,h,_=>by simp at h
 |a::l,0,k,i,c,ho,h,hc=>by
  simp only [List.getD_cons_zero] at h
  subst h
  simp only [Zh,hc,Bool.not_true,Bool.false_or,Bool.and_eq_true,Nat.blt_eq] at ho
  exact ho.1
 |a::l,t+1,k,i,c,ho,h,hc=>by
  refine qi (l:=l) (t:=t) (c:=c) ?_ (by simpa only [List.getD_cons_succ] using h) hc
  cases a with
  | «at»d=>cases d with
   |sub _ _ _=>simp only [Zh,Bool.and_eq_true] at ho;exact ho.2
   |_=>exact ho
  |_=>exact ho
theorem CL {ck st:St} {a:Act} (h0:Al X π ck a w) (h:Al X π' st a w') {ls:List Nat} {n:Nat} (hk: ∀l∈ls,xc w w' (π l) (π' l) n) (oE: ∀l∈ls,jb ck.heap l=true)
  (bY:Zh st.heap ls n ck.tmps=true):Al X π' (gU ck st ls n) a w'/\ ∀c v,Ao X w' π' st.heap c v->Ao X w' π' (gU ck st ls n).heap c v:=by
 by_cases mP:ls= []
 ·subst mP;exact ⟨h,λ_ _ h=>h⟩
 have Ul:gU ck st ls n= {tmps:=Hj ls ck.tmps st.tmps,heap:=Yz ck.heap ls n st.heap} :=by
  cases ls with
  |nil=>exact absurd rfl mP
  |cons _ _=>rfl
 rw [Ul]
 have hg0: ∀l∈ls,∃e te rows out kp,Ad ck.heap l=some (.Ak e te rows out kp):= λl hl=>by
  have:=oE l hl
  unfold jb at this
  split at this
  ·exact ⟨_,_,_,_,_,by assumption⟩
  ·cases this
 have srv: ∀k b,Ad st.heap k=some b-> ∃b',Ad (Yz ck.heap ls n st.heap) k=some b'/\b.Ns b':= λk b hb=>by
  rw [Pk,hb]
  refine ⟨_,rfl,?_⟩
  dsimp only
  split
  ·exact OB.wa b _
  ·exact OB.Ns.rfl' b
 have hac:(∀fr τ cs x,Cells w' (Bf X.w0.heap.size X.Sc π' fr) τ cs x->Cells w' (Bf X.w0.heap.size X.Sc π' fr) τ cs x)-> ∀c v,Ec X w' π' st.heap c v->Ec X w' π' (Yz ck.heap ls n st.heap) c v:= λhc=>
  jt (f:= λc=>c) (D:= λ_=>False) (Pt:= λ_=>False) (λc=> .inr ⟨rfl,λ_ _ h=>h,λ_ _ _ _ h=>h⟩) (λk _=>bP.rfl' _) (λk b _ hb=>srv k b hb) (λ_ _ _ _ _ _ _ _=>rfl) hc
 have h1:Al X π' {tmps:=st.tmps.map (·.map λc=>c),heap:=Yz ck.heap ls n st.heap} a w':=by
  refine h.ju rfl (gv:= λ_=>False) (λ_ hf=>hf.elim) (Gs.refl _ _ _) (λ_ _ ho=>ho) h.1.sub h.1.place h.1.inj (λl hl Ff=>h.1.cE l hl λh2=>Ff (by rw [Pk,h2];rfl)) hac (λm l b hb=>?_) (λl hl=>?_)
  ·rw [Pk] at hb
   cases h2:Ad st.heap l with
   |none=>rw [h2] at hb;cases hb
   |some b0=>
    rw [h2] at hb
    simp only [Option.map_some,Option.some.injEq] at hb
    have hbk:=(h.1.heap l).Lx h2
    have AG:=hbk.move m (Nat.le_refl _) (λr0 c h0 h1=>h.1.sub _ r0 c h0 h1) λ_ _ _ _ _=>rfl
    rw [show OB.map (λc=>c) b0=b0 from OB.yM b0] at AG
    split at hb
    ·rename_i hc
     have hl:l∈ls:=by simpa using hc
     cases b0 with
     |Ak e te rows out kp=>
      simp only [OB.zq] at hb
      subst hb
      refine ⟨AG.1,?_⟩
      obtain ⟨e0,te0,YU,Akz,kp0,hg⟩:=hg0 l hl
      have qZ:=((h0.1.heap l).Lx hg).2
      rw [hg]
      simp only [Ab7]
      have r7:=hk l hl
      cases kp0 with
      |none=>trivial
      |some p=>
       obtain ⟨l0,n0⟩:=p
       simp only [KeptAt,Ws] at qZ⊢
       cases uW:X.cE l0 with
       |none=>
        cases hp:π l with
        |none=>
         rw [hp] at r7
         cases j7:π' l with
         |none=>trivial
         |some q=>rw [j7] at r7;exact r7.elim
        |some q=>rw [uW,hp] at qZ;exact qZ.elim
       |some r0=>
        cases hp:π l with
        |none=>rw [uW,hp] at qZ;exact qZ.elim
        |some q=>
         rw [uW,hp] at qZ
         rw [hp] at r7
         cases j7:π' l with
         |none=>rw [j7] at r7;exact r7.elim
         |some q'=>
          rw [j7] at r7
          obtain ⟨k1,k2,k3,k4⟩:=r7
          obtain ⟨g1,g2,g3,g4⟩:=qZ
          refine ⟨k1.trans g1,k2.trans g2,k3.trans g3,λj hj hc=>?_⟩
          have e1:=g4 j (by omega) hc
          have e2:=k4 j (by omega) (by omega)
          rw [g1,g2] at e2
          rw [<-e1,e2]
     |_=>simp only [OB.zq] at hb;subst hb;exact AG
    ·subst hb;exact AG
  ·rw [Pk] at hl
   cases h2:Ad st.heap l with
   |none=>exact (h.1.heap l).emp h2
   |some b=>rw [h2] at hl;cases hl
 have GV: ∀c v,Ao X w' π' st.heap c v->Ao X w' π' (Yz ck.heap ls n st.heap) c v:= λc v hv=>by
  have m:Move X w' w' π' π' st.heap (Yz ck.heap ls n st.heap) (λc=>c):=⟨hac λ_ _ _ _ h=>h,λ_ _ _ _ h=>h⟩
  have:=m.av hv
  rwa [AC.map_id] at this
 refine ⟨⟨h1.1,⟨?_,h.2.defers,λt=>?_⟩⟩,GV⟩
 ·have: ∀(l m:List AV),(Hj ls l m).length=m.length:=by
   intro l
   induction l with
   |nil=>intro m;cases m<;>rfl
   |cons a l ih=>
    intro m
    cases m with
    |nil=>cases a with
     | «at»c=>cases c<;>rfl
     |_=>rfl
    |cons v m=>cases a with
     | «at»c=>cases c<;>simp only [Hj,List.length_cons,ih m]
     |_=>simp only [Hj,List.length_cons,ih m]
  show a.tmps.size=(Hj ls ck.tmps st.tmps).length
  rw [this];exact h.2.size
 ·show Ao X w' π' _ ((Hj ls ck.tmps st.tmps).getD t .undef) _
  rcases bI ls ck.tmps st.tmps t (by rw [<-h0.2.size,<-h.2.size]) with ⟨k,i,c,g1,g2,g3⟩|g
  ·rw [g3]
   have Mp:k∈ls:=by simpa using g2
   obtain ⟨i1,i2⟩:=qi bY g1 g2
   have hv:=h0.2.tmps t
   rw [show ck.get t=_ from g1] at hv
   obtain ⟨r,b,sz,n',e1,e2,e3,e4,⟨e5,e6⟩,e7⟩:=hv
   obtain ⟨e0,te0,YU,Akz,kp0,hg⟩:=hg0 k Mp
   rw [hg] at e1;cases e1
   simp only [OB.bZ,Option.some.injEq,Prod.mk.injEq] at e2
   obtain ⟨rfl,rfl⟩:=e2
   have r7:=hk k Mp
   rw [e3] at r7
   cases j7:π' k with
   |none=>rw [j7] at r7;exact r7.elim
   |some q'=>
    rw [j7] at r7
    obtain ⟨k1,k2,k3,k4⟩:=r7
    have oD:YU.length<=r.cap:=by
     have:=((h0.1.heap k).Lx hg).1
     rw [e3] at this
     obtain ⟨_,_,_,_,_,_,h5,_⟩:=this
     exact h5
    unfold ny at i2
    split at i2
    ·rename_i e9 te9 Ag1 Apw kp9 hg9
     refine ⟨q',_,1,Ag1.length,by rw [Pk,hg9];rfl,?_,j7,i2,⟨e5,e6⟩,?_⟩
     ·dsimp only
      split<;>rfl
     ·have fJ:c=0:=by omega
      subst fJ
      rw [k1,k2]
      rw [Nat.mul_one,Nat.add_zero] at e7⊢
      rw [k4 i i1 (by omega)];exact e7
    ·omega
  ·rw [g]
   exact GV _ _ (h.2.tmps t)
theorem lg {ins:List (Bool×CK)} {as:List AC} {pl:List Nat} {st:St} :(mV ins as pl st).tmps=st.tmps:=by
 unfold mV
 split
 ·rfl
 ·split<;>rfl
theorem EH {ins:List (Bool×CK)} {as:List AC} {pl:List Nat} {st:St} {m:Nat} (hm:m∉pl):Ad (mV ins as pl st).heap m=Ad st.heap m:=by
 unfold mV
 split
 ·rfl
 ·rename_i l r
  split
  ·exact Bw _ _ _ _ λe=>hm (e▸List.mem_cons_self)
  ·rfl
theorem LC {ins:List (Bool×CK)} {as:List AC} {l:Nat} {st:St} {tid:TypeId} {vs:List AC} (hl:Ad st.heap l=some (.var tid vs)):Ad (mV ins as [l] st).heap l=some (.var tid (cc ins vs as)):=by
 simp only [mV,St.at,hl]
 exact Ci _ _ _ _ hl
theorem tR {α:Type} (ins:List (Bool×CK)) (as:List α):cc ins [] as= []:=by
 rcases ins with _|⟨⟨_|_,c⟩,r⟩<;>rfl
theorem kY {α:Type} : ∀(ins:List (Bool×CK)) (vs as:List α),(cc ins vs as).length=vs.length
 | [],vs,as=>by rw [cc];all_goals simp
 |p::r,[],as=>by rw [tR]
 |(true,c)::r,v::vs,as=>by simp only [cc,List.length_cons,kY r vs as]
 |(false,c)::r,v::vs,[]=>by rw [cc];all_goals simp
 |(false,c)::r,v::vs,a::as=>by simp only [cc,List.length_cons,kY r vs as]
theorem KR {st:St} {a:Act} (h:Al X π st a w) {s:MSpec} {iD:List AV} {vs:List Value} (hlen:iD.length=vs.length) (GV: ∀(i:Nat) c v,iD[i]?=some c->vs[i]?=some v->Ao X w π st.heap c v)
  {pl:List Nat} {cells:List AC} {rest:List AV} (he:HO st s iD=some (pl,cells,rest)):
  ∃(g:Nat) (XF ud:List Value),rest.length=ud.length/\(∀(i:Nat) c v,rest[i]?=some c->ud[i]?=some v->Ao X w π st.heap c v)/\Ir X w π st.heap cells XF/\
   ((s.ptr=none/\pl= []/\cells= []/\XF= []/\vs=ud)\/
    ∃p l q,s.ptr=some p/\pl= [l]/\π l=some q/\q.Bc q.g/\g=q.g/\Ad st.heap l=some (.var p.1 cells)/\cells.length=p.2/\vs= .pointer (some ⟨g,0,none⟩)::ud/\w.heap[g]?=some (.cells XF.toArray p.1 (0,0))/\Df X w π st.heap cells XF):=by
 unfold HO at he
 split at he
 ·rename_i hp
  simp only [Option.some.injEq,Prod.mk.injEq] at he
  obtain ⟨rfl,rfl,rfl⟩:=he
  exact ⟨0,[],vs,hlen,GV,trivial, .inl ⟨hp,rfl,rfl,rfl,rfl⟩⟩
 ·rename_i p hp
  split at he
  ·rename_i l i Amu
   split at he
   ·rename_i tid cs hl
    split at he
    ·rename_i hc
     obtain ⟨rfl,hc,rfl⟩:=hc
     simp only [Option.some.injEq,Prod.mk.injEq] at he
     obtain ⟨rfl,rfl,rfl⟩:=he
     unfold St.at at hl
     cases vs with
     |nil=>simp at hlen
     |cons v vs=>
      obtain ⟨r,Pe,vs',h1,h2,rfl⟩:=GV 0 _ v rfl rfl
      rw [hl] at h1;cases h1
      obtain ⟨r',h3,h4,cur,h5,h6⟩:=(h.1.heap l).Lx hl
      rw [h2] at h3;cases h3
      exact ⟨r.g,cur.toList,vs,by simpa using hlen,λi c v h7 h8=>GV (i+1) c v (by simpa using h7) (by simpa using h8),Ir.of h6, .inr ⟨p,l,r,hp,rfl,h2,h4,rfl,hl,hc,rfl,by simpa using h5,h6⟩⟩
    ·cases he
   ·cases he
  ·cases he
theorem eR {V:List Nat} {πc:Pi} {dead part:List Nat} (YM: ∀l,l∉dead->π' l=π l) (Gl: ∀l b sz n,l∉dead->Ad H l=some b->b.row=some (sz,n)-> ∃b',Ad H' l=some b'/\b'.row=some (sz,n)):
  ∀(ins:List (Bool×CK)) (k:Nat) (cells jS:List AC) (x:Ins.den ins) (us:List Value) (o:IOs.den ins) (cur st1:St) (news:List AC) (Re cs:List Value),mH X w π V H πc k ins x (cells++jS) us->Qn ins cells=true->
   Em ins o (cells++jS) cur=some st1->Ch πc k ins o cells.length cs Re->Ir X w' π' H' news Re->Ir X w' π' H' (cc ins (cells.map (Az dead part)) news) cs
 |ins,k,[],jS,x,us,o,cur,st1,news,Re,cs,_,_,_,hb,_=>by
  have hb:cs= []:=by rcases ins with _|⟨⟨_|_,c⟩,r⟩<;>(try cases c)<;>simpa [Ch] using hb
  rw [hb,List.map_nil,tR]
  trivial
 | [],k,a::cells,jS,x,us,o,cur,st1,news,Re,cs,_,hk,_,_,_=>by simp [Qn] at hk
 |(true, .Er τ)::r,k,a::cells,jS,x,us,o,cur,st1,news,Re,cs,_,hk,_,_,_=>by simp [Qn] at hk
 |(true, .part e te)::r,k,a::cells,jS,x,us,o,cur,st1,news,Re,cs,_,hk,_,_,_=>by simp [Qn] at hk
 |(true, .Ak e te _)::r,k,a::cells,jS,x,us,o,cur,st1,news,Re,cs,_,hk,_,_,_=>by simp [Qn] at hk
 |(true, .row e te)::r,k,a::cells,jS,x,us,o,cur,st1,news,Re,cs,ht,hk,hp,hb,hn=>by
  cases a<;>simp only [Qn,Bool.false_eq_true] at hk
  rename_i l off len
  cases us with
  |nil=>exact ht.elim
  |cons u0 us=>
  cases cs with
  |nil=>exact hb.elim
  |cons u cs=>
  obtain ⟨⟨_,h1⟩,h2⟩:=ht
  simp only [Nz] at h1
  obtain ⟨h3,rfl,rfl,fr,tr,h4⟩:=h1
  obtain ⟨h5,h6⟩:=hb
  simp only [List.cons_append,Em] at hp
  split at hp
  rotate_left
  ·cases hp
  rename_i Ua hpc
  have IX:List.length o.1=List.length x.1:=by
   simp only [Xn] at hpc
   repeat' split at hpc
   all_goals first|(cases hpc;done)|(rename_i hc;exact hc.2.1)
  refine ⟨?_,eR YM Gl r (k+1) cells jS x.2 us o.2 Ua st1 news Re cs h2 hk hp h6 hn⟩
  by_cases hd:l∈dead
  ·have:Az dead part (.own l 0 (List.length x.1))= .undef:=by
    unfold Az
    rw [if_pos (by simp [AC.refs,hd])]
   rw [this];trivial
  ·rw [Xw (by simpa [AC.refs] using hd) (by intro l i j e;rcases e with e|e<;>cases e)]
   obtain ⟨b',g1,g2⟩:=Gl l _ e.size (List.length x.1) hd h4 rfl
   refine ⟨b',e.size,List.length x.1,g1,g2,by omega,?_⟩
   rw [YM l hd]
   rw [h3,IX] at h5
   cases hp:π l<;>(rw [hp] at h5;exact h5)
 |(true, .Eb e te)::r,k,a::cells,jS,x,us,o,cur,st1,news,Re,cs,ht,hk,hp,hb,hn=>by
  cases a<;>simp only [Qn,Bool.false_eq_true] at hk
  rename_i l off len
  cases us with
  |nil=>exact ht.elim
  |cons u0 us=>
  cases cs with
  |nil=>exact hb.elim
  |cons u cs=>
  obtain ⟨⟨_,h1⟩,h2⟩:=ht
  simp only [Nz] at h1
  obtain ⟨h3,rfl,rfl,h4⟩:=h1
  obtain ⟨h5,h6⟩:=hb
  simp only [List.cons_append,Em] at hp
  split at hp
  rotate_left
  ·cases hp
  rename_i Ua hpc
  have IX:List.length o.1=List.length x.1:=by
   simp only [Xn] at hpc
   repeat' split at hpc
   all_goals first|(cases hpc;done)|(rename_i hc;exact hc.2.1)
  refine ⟨?_,eR YM Gl r (k+1) cells jS x.2 us o.2 Ua st1 news Re cs h2 hk hp h6 hn⟩
  by_cases hd:l∈dead
  ·have:Az dead part (.own l 0 (List.length x.1))= .undef:=by
    unfold Az
    rw [if_pos (by simp [AC.refs,hd])]
   rw [this];trivial
  ·rw [Xw (by simpa [AC.refs] using hd) (by intro l i j e;rcases e with e|e<;>cases e)]
   obtain ⟨b',g1,g2⟩:=Gl l _ e.size (List.length x.1) hd h4 rfl
   refine ⟨b',e.size,List.length x.1,g1,g2,by omega,?_⟩
   rw [YM l hd]
   rw [h3,IX] at h5
   cases hp:π l<;>(rw [hp] at h5;exact h5)
 |(false,c)::r,k,a::cells,jS,x,[],o,cur,st1,news,Re,cs,ht,hk,hp,hb,hn=>ht.elim
 |(false,c)::r,k,a::cells,jS,x,u0::us,o,cur,st1,news,Re,[],ht,hk,hp,hb,hn=>by cases c<;>exact hb.elim
 |(false,c)::r,k,a::cells,jS,x,u0::us,o,cur,st1,news,[],u::cs,ht,hk,hp,hb,hn=>by cases c<;>exact hb.elim
 |(false,c)::r,k,a::cells,jS,x,u0::us,o,cur,st1,[],u'::Re,u::cs,ht,hk,hp,hb,hn=>hn.elim
 |(false,c)::r,k,a::cells,jS,x,u0::us,o,cur,st1,na::news,u'::Re,u::cs,ht,hk,hp,hb,hn=>by
  have hb2:u=u'/\Ch πc (k+1) r o cells.length cs Re:=by cases c<;>exact hb
  obtain ⟨rfl,hb3⟩:=hb2
  have hp:Em r o (cells++jS) cur=some st1:=by cases c<;>simpa only [List.cons_append,Em] using hp
  have hk:Qn r cells=true:=by cases c<;>simpa only [Qn] using hk
  exact ⟨hn.1,eR YM Gl r (k+1) cells jS x.2 us o cur st1 news Re cs ht.2 hk hp hb3 hn.2⟩
theorem zJ {V:List Nat} {πc:Pi} : ∀(cs:List (Bool×CK)) (k0:Nat) (x:Ins.den cs) (as:List AC) (us:List Value),k0+cs.length<100000->mH X w π V H πc k0 cs x as us-> ∀k l,(Bv false k,Loc.row l)∈Hk k0 cs as->πc (Bv false k)=(π l).map full
 | [],_,_,[],_,_,_,_,_,h=>by cases h
 | [],_,_,_::_,_,_,_,_,_,h=>by cases h
 |_::_,_,_,[],_,_,_,_,_,h=>by cases h
 |_::_,_,_,_::_,[],_,h,_,_,_=>h.elim
 |(io,c)::r,k0,x,a::as,u::us,hk,h,k,l,ht=>by
  simp only [List.length_cons] at hk
  simp only [Hk] at ht
  rcases List.mem_append.1 ht with ht|ht
  ·obtain ⟨⟨_,h1⟩,_⟩:=h
   cases c with
   |Er τ=>cases a<;>simp [Lc,views] at ht
   |row e te=>
    cases a<;>simp [Lc] at ht
    obtain ⟨e1,rfl⟩:=ht
    simp only [Nz] at h1
    rw [e1];exact h1.1
   |Eb e te=>
    cases a<;>simp [Lc] at ht
    obtain ⟨e1,rfl⟩:=ht
    simp only [Nz] at h1
    rw [e1];exact h1.1
   |part e te=>
    cases a<;>simp [Lc] at ht
    obtain ⟨e1,rfl⟩:=ht
    simp only [Nz] at h1
    rw [e1];exact h1.2.1
   |Ak e te kp=>
    cases a<;>simp [Lc] at ht
    obtain ⟨e1,rfl⟩:=ht
    simp only [Nz] at h1
    rw [e1];exact h1.2.1
  ·exact zJ r (k0+1) x.2 as us (by omega) h.2 k l ht
theorem mI {st:St} {a:Act} (h:Al X π st a w) {f:FuncId} {s:MSpec} (hs:Bj P f s) (dst:Option Nat) (iD:List AV) (vs:List Value) (hlen:iD.length=vs.length)
  (GV: ∀(i:Nat) c v,iD[i]?=some c->vs[i]?=some v->Ao X w π st.heap c v) (av:AV) (st':St) (he:Ru st dst s iD=some (av,st')):
  Calls P f vs.toArray w λe w'=> ∃v,e= .returned v/\ ∃π',Al X π' st' a w'/\Ao X w' π' st'.heap av v:=by
 unfold Ru at he
 split at he
 ·cases he
 rename_i pl cells rest Ak4
 split at he
 ·cases he
 rename_i jS MZ
 split at he
 ·cases he
 rename_i x tks htk
 split at he
 rotate_left
 ·cases he
 rename_i Fu
 simp only [Bool.and_eq_true,Nat.blt_eq] at Fu
 obtain ⟨⟨⟨⟨MY,oJ⟩,hon⟩,Vf⟩,Ae9,JB⟩:=Fu
 have JB: ∀l∈pl,l∉(tks.map λt=>t.2.Rf)/\l∉Mr s tks (dst.getD 0):= λl hl=>by
  have:=List.all_eq_true.1 JB l hl
  simp only [Bool.not_eq_true',<-Bool.not_eq_true,List.contains_iff_mem] at this
  exact ⟨λhm=>this (List.mem_append_left _ hm),λhm=>this (List.mem_append_right _ hm)⟩
 split at he
 ·cases he
 rename_i r o hfn
 split at he
 ·cases he
 rename_i st1 Aam
 obtain ⟨g,XF,ud,Aea,Aix,Ak7,Xm⟩:=KR h hlen GV Ak4
 obtain ⟨sl,rfl,AK,Ak6⟩:=Ts s.Fz rest ud jS Aea Aix MZ
 have hrc:=Ak7.append Ak6
 have Lr:jW s w g (XF++sl) vs:=by
  unfold jW
  rcases Xm with ⟨h1,_,_,h2,h3⟩|⟨p,l,q,h1,_,_,_,_,_,h2,h3,h4,h5⟩
  ·rw [h1];subst h2;exact ⟨h3,AK⟩
  ·rw [h1]
   have hl:XF.length=p.2:=h5.1.trans h2
   simp only
   rw [List.drop_append_of_le_length (by omega),List.take_append_of_le_length (by omega),List.take_of_length_le (by omega),List.drop_of_length_le (by omega)]
   refine ⟨h3,AK,by simp;omega,h4,λu hu=>?_⟩
   obtain ⟨i,hi,rfl⟩:=List.mem_iff_getElem.1 hu
   obtain ⟨u',h6,h7,_⟩:=h5.2 i (cells[i]'(by have:=h5.1;omega)) (List.getElem?_eq_getElem _)
   rw [List.getElem?_eq_getElem hi] at h6
   rw [Option.some.inj h6];exact h7
 have JC: ∀l∈pl,∃p q,s.ptr=some p/\pl= [l]/\π l=some q/\q.Bc q.g/\g=q.g/\Ad st.heap l=some (.var p.1 cells)/\cells.length=p.2:= λl hl=>by
  rcases Xm with ⟨_,h1,_⟩|⟨p,l',q,h1,h2,h3,h4,h5,h6,h7,_⟩
  ·rw [h1] at hl;cases hl
  ·rw [h2] at hl
   have:=List.mem_singleton.1 hl
   subst this
   exact ⟨p,q,h1,h2,h3,h4,h5,h6,h7⟩
 have IW: ∀b,s.gv g b-> ∃l∈pl,∃q,π l=some q/\q.Bc b/\b=q.g:= λb ⟨h1,h2⟩=>by
  rcases Xm with ⟨h3,_⟩|⟨p,l',q,_,h4,h5,h6,h7,_⟩
  ·rw [h3] at h1;cases h1
  ·exact ⟨l',by rw [h4];exact List.mem_singleton.2 rfl,q,h5,by rw [h2,h7];exact h6,h2.trans h7⟩
 obtain ⟨as,has⟩: ∃as,as=cells++jS:=⟨_,rfl⟩
 obtain ⟨us,PD⟩: ∃us,us=XF++sl:=⟨_,rfl⟩
 rw [<-has] at hrc htk Aam
 rw [<-PD] at hrc Lr
 let V:=(tks.filter λt=>t.2.reads).map λt=>t.2.Rf
 have hV: ∀t∈tks,t.2.reads=true->t.2.Rf∈V:= λt ht hr=>List.mem_map.2 ⟨t,List.mem_filter.2 ⟨ht,hr⟩,rfl⟩
 have hV': ∀l∈V,∃t∈tks,t.2.reads=true/\t.2.Rf=l:= λl hl=>by
  obtain ⟨t,h1,h2⟩:=List.mem_map.1 hl
  exact ⟨t,(List.mem_filter.1 h1).1,(List.mem_filter.1 h1).2,h2⟩
 clear_value V
 obtain ⟨TM,πc,hT,OH,Ajh,Qm⟩:=qt h.1 (V:=V) s.ins 0 as us x tks (by omega) hrc htk hV
 have BX:=Sd MY
 rw [TM] at BX
 have a8: ∀b,Qd πc b-> ∃t∈Hk 0 s.ins as,t.2.reads=false/\ ∃q,π t.2.Rf=some q/\q.Bc b/\ ∀l i j,t.2= .sub l i j->b≠q.g:= λb ⟨c,q,h1,h2⟩=>by
  obtain ⟨t,t1,_,t3⟩:=Qm c q b h1 h2
  exact ⟨t,t1,t3⟩
 have CA: ∀b,Qd πc b->Qd π b:= λb hb=>let ⟨t,_,_,q,h1,h2,_⟩:=a8 b hb;⟨_,q,h1,h2⟩
 have eJ:cJ πc (λb=>b<w.heap.size):=⟨λl q b h1 h2=>(h.1.own (CA b ⟨l,q,h1,h2⟩)).1,λl l' q q' b h1 h2 h3 h4=>by
  obtain ⟨t,t1,t2,_,p,t3,t4,_⟩:=Qm l q b h1 h3
  obtain ⟨t',t1',t2',_,p',t3',t4',_⟩:=Qm l' q' b h2 h4
  have:=vu BX t1 t1' (h.1.apart t3 t3' t4 t4')
  rw [<-t2,<-t2',this]⟩
 have Adq: ∀k l,(Bv false k,Loc.row l)∈Hk 0 s.ins as->πc (Bv false k)=(π l).map full:= λk l ht=>
  zJ s.ins 0 x as us (by omega) hT k l ht
 have Af7: ∀b,Qd πc b->Jq X π V b:= λb hb=> .inl ⟨CA b hb,λl hl r' hr hf=>by
  obtain ⟨t,t1,t0,q,t3,t4,_⟩:=a8 b hb
  obtain ⟨t',t1',t2',rfl⟩:=hV' l hl
  rw [TM] at t1'
  have:=vu BX t1 t1' (h.1.apart t3 hr t4 hf)
  subst this
  rw [t0] at t2';cases t2'⟩
 let S:Nat->Prop:= λb=> ¬Qd πc b/\Jq X π V b
 have hS: ∀b,S b->b<w.heap.size/\ ¬Qd πc b:= λb hb=>⟨by
  rcases hb.2 with h1|h1
  ·exact (h.1.own h1.1).1
  ·exact Nat.lt_of_lt_of_le (h.1.sc b h1).1 h.1.below.size,hb.1⟩
 have VD: ∀l∈pl,∀t∈Hk 0 s.ins as,t.2.Rf≠l:= λl hl t ht e=>(JB l hl).1 (List.mem_map.2 ⟨t,TM▸ht,e⟩)
 have hSg:s.ptr.isSome=true->S g:= λhps=>by
  obtain ⟨l,hl,q,h1,h2,h3⟩:=IW g ⟨hps,rfl⟩
  have YD: ¬Qd πc g:= λhb=>by
   obtain ⟨t,t1,_,q',t3,t4,_⟩:=a8 g hb
   exact VD l hl t t1 (h.1.apart t3 h1 t4 h2)
  refine ⟨YD, .inl ⟨⟨l,q,h1,h2⟩,λl' Gd r' aF hf=>?_⟩⟩
  obtain ⟨t',t1',_,rfl⟩:=hV' l' Gd
  rw [TM] at t1'
  exact VD l hl t' t1' (h.1.apart aF h1 hf h2)
 refine (hs.calls w S πc us x r o g vs Lr hSg (aH.Ex (λb hb=>hb.elim (Af7 b) λh=>h.2) s.ins 0 x us (hT.Aff s.ins 0 x as us)) eJ hS Ajh hfn).mono ?_
 rintro e w' ⟨v,Re,xa,rfl,aY,sU,UP,uQ,Aek,OX,Ab2,tb⟩
 obtain ⟨ρ,VI,BZ,OW,XR⟩: ∃ρ:Pi,(∀l,ρ l=(xa l).map full)/\Fb w' (fg S πc xa) ρ 0 s.outs r Re/\cJ ρ (λb=>b<w'.heap.size/\(w.heap.size<=b\/ ∃l q,l<Am/\πc l=some q/\q.Bc b))/\ ∀l q,ρ l=some q->q.cl=q.Bc:=by
  have un: ∀l q,(xa l).map full=some q-> ∃q0,xa l=some q0/\q=full q0:= λl q hq=>by
   cases hp:xa l with
   |none=>rw [hp] at hq;cases hq
   |some q0=>rw [hp] at hq;exact ⟨q0,rfl,(Option.some.inj hq).symm⟩
  refine ⟨λl=>(xa l).map full,λ_=>rfl,Fb.full s.outs 0 r Re Aek,⟨λl q b h1 h2=>?_,λl l' q q' b h1 h2 h3 h4=>?_⟩,λl q h1=>?_⟩
  ·obtain ⟨q0,h5,rfl⟩:=un l q h1
   exact OX.Ur l q0 b h5 h2
  ·obtain ⟨q0,h5,rfl⟩:=un l q h1
   obtain ⟨q0',h6,rfl⟩:=un l' q' h2
   exact OX.inj l l' q0 q0' b h5 h6 h3 h4
  ·obtain ⟨q0,_,rfl⟩:=un l q h1
   rfl
 refine ⟨v,rfl,?_⟩
 split at he
 ·cases he
 rename_i av0 dp
 split at he
 rotate_left
 ·cases he
 rename_i Kq
 simp only [Option.some.injEq,Prod.mk.injEq] at he
 obtain ⟨rfl,rfl⟩:=he
 let D1:Nat->Prop:=if s.flat then λ_=>True else fg S πc xa
 have Ajk:Ht w' D1 πc 0 s.ins o:=by
  show Ht w' (if s.flat then λ_=>True else fg S πc xa) πc 0 s.ins o
  split
  ·rename_i hf
   unfold MSpec.flat at hf
   simp only [Bool.and_eq_true] at hf
   exact Ht.any s.ins 0 o hf.2 uQ
  ·exact uQ
 have Ael:Fb w' D1 ρ 0 s.outs r Re:=by
  show Fb w' (if s.flat then λ_=>True else fg S πc xa) ρ 0 s.outs r Re
  split
  ·rename_i hf
   unfold MSpec.flat at hf
   simp only [Bool.and_eq_true] at hf
   exact Fb.any s.outs 0 r Re hf.1 BZ
  ·exact BZ
 obtain ⟨q1,q2,q3,q4⟩:=pC (D:=D1) (X:=X) (π:=π) (H:=st.heap) h.1 UP.size (tks:=Hk 0 s.ins as) (πc:=πc) (λt ht q b hq hb Gc hn=>UP.block b Gc λBY=>by
   rcases BY with ⟨c,r',h1,h2⟩|hg
   rotate_left
   ·obtain ⟨l,hl,q',h1,h2,_⟩:=IW b hg
    exact VD l hl t ht (h.1.apart hq h1 hb h2)
   obtain ⟨t',t1,t2,_,p,t3,t4,_⟩:=Qm c r' b h1 h2
   have:=vu BX ht t1 (h.1.apart hq t3 hb t4)
   subst this
   exact hn r' (t2▸h1) h2) s.ins 0 x as us o st st1 (by omega) (λ_ h=>h) BX hT Ajk Aam (λ_ _=>rfl)
 have Aaq: ∀t∈Hk 0 s.ins as,t.2.reads=true->t.1<Am:=by
  have: ∀(cs:List (Bool×CK)) (k:Nat) (as:List AC),k+cs.length<100000-> ∀t∈Hk k cs as,t.2.reads=true->t.1<Am:=by
   intro cs
   induction cs with
   |nil=>intro k as _ t ht;cases as<;>cases ht
   |cons p r ih=>
    intro k as hk t ht hr
    simp only [List.length_cons] at hk
    cases as with
    |nil=>cases ht
    |cons a as=>
     simp only [Hk] at ht
     rcases List.mem_append.1 ht with ht|ht
     ·rcases zH ht with ⟨_,h1⟩|⟨h1,_⟩
      ·rw [hr] at h1;cases h1
      ·rw [h1];exact bx (by omega)
     ·exact ih (k+1) as (by omega) t ht hr
  exact this s.ins 0 as (by omega)
 let d:=dst.getD 0
 let ks:=Mr s tks d
 let dead:=iK tks++ks++(if s.flat then [] else wN tks)
 let part:=whole tks
 have Aka:s.outs.length+(ib s d).length=s.Ox:=by unfold MSpec.Ox ib;cases s.rp<;>rfl
 obtain ⟨Aac,Ajr,XY⟩:ks.length=s.Ox/\ks.Nodup/\ ∀l∈ks,l<Am:=by
  have:=CO oJ
  rw [Aka] at this
  exact this
 have YD:s.outs.length<=s.Ox:=by unfold MSpec.Ox;omega
 have VG: ∀tid,s.rp=some tid->Bx ks s.outs.length=Nx d/\s.Ox=s.outs.length+1:= λtid Rz=>by
  have h1:s.Ox=s.outs.length+1:=by unfold MSpec.Ox;rw [Rz]
  refine ⟨?_,h1⟩
  have h2:ks=iH s tks d++ [Nx d]:=by show iH s tks d++ib s d=_;unfold ib;rw [Rz]
  have h3:(iH s tks d).length=s.outs.length:=by rw [h2] at Aac;simp at Aac;omega
  rw [Ly (by rw [Aac];omega)]
  simp only [h2]
  rw [List.getElem_append_right (by omega)]
  simp [h3]
 have OT:=xA Ajr XY
 have Ajp: ∀j,j<s.Ox->Bx ks j<Am:= λj hj=>XY _ (mem_keys.2 ⟨j,by omega,rfl⟩)
 let π':Pi:= λl=>match (List.range s.Ox).find? λj=>decide (Bx ks j=l) with
  |some j=>ρ (Gj j)
  |none=>if l∈dead then none else π l
 have r6: ∀j,j<s.Ox->π' (Bx ks j)=ρ (Gj j):= λj hj=>by
  show (match (List.range s.Ox).find? λi=>decide (Bx ks i=Bx ks j) with|some i=>ρ (Gj i)|none=>_)=_
  cases hf:(List.range s.Ox).find? λi=>decide (Bx ks i=Bx ks j) with
  |none=>
   have:=List.find?_eq_none.1 hf j (List.mem_range.2 hj)
   simp at this
  |some i=>
   have:=List.find?_some hf
   rw [OT i j (of_decide_eq_true this)]
 have oI: ∀j,j<s.Ox->Bx ks j∈dead:= λj hj=>List.mem_append_left _ (List.mem_append_right _ (mem_keys.2 ⟨j,by omega,rfl⟩))
 have uS: ∀l,(¬ ∃j,j<s.Ox/\l=Bx ks j)->π' l=if l∈dead then none else π l:= λl hl=>by
  show (match (List.range s.Ox).find? λi=>decide (Bx ks i=l) with|some i=>ρ (Gj i)|none=>_)=_
  cases hf:(List.range s.Ox).find? λi=>decide (Bx ks i=l) with
  |none=>rfl
  |some i=>
   have h1:=List.find?_some hf
   exact absurd ⟨i,List.mem_range.1 (List.mem_of_find?_eq_some hf),(of_decide_eq_true h1).symm⟩ hl
 have PK: ∀l,l∉dead->π' l=π l:= λl hl=>by
  rw [uS l (λ⟨j,h1,h2⟩=>hl (h2▸oI j h1)),if_neg hl]
 have hD1: ∀b,Qd π' b\/X.Sc b->D1 b:=by
  intro b hb
  show (if s.flat then λ_=>True else fg S πc xa) b
  split
  ·trivial
  rename_i hnf
  rcases hb with ⟨l,q,hl,hf⟩|hb
  ·by_cases hk: ∃j,j<s.Ox/\l=Bx ks j
   ·obtain ⟨j,hj,rfl⟩:=hk
    rw [r6 j hj,VI] at hl
    cases hp:xa (Gj j) with
    |none=>rw [hp] at hl;cases hl
    |some q0=>rw [hp] at hl;simp only [Option.map_some,Option.some.injEq] at hl;subst hl;exact .inr (.inr ⟨Gj j,q0,hp,hf⟩)
   ·have e0:π' l=if l∈dead then none else π l:=uS l hk
    rw [e0] at hl
    split at hl
    ·cases hl
    ·rename_i VA
     by_cases ho:Qd πc b
     ·obtain ⟨c,q',hc,hcb⟩:=ho
      obtain ⟨t,t1,t2,t0,p,t3,t4,_⟩:=Qm c q' b hc hcb
      have uT:=h.1.apart hl t3 hf t4
      refine .inr (.inl ⟨c,q',Classical.byContradiction λhn=>?_,hc,hcb⟩)
      exact VA (List.mem_append_left _ (List.mem_append_left _ (ah.2 ⟨t,TM▸t1,⟨by rw [t2];omega,t0⟩,uT.symm⟩)))
     ·refine .inl ⟨ho, .inl ⟨⟨l,q,hl,hf⟩,λl0 hl0 r0 hr0 hf0=>?_⟩⟩
      have:=h.1.apart hl hr0 hf hf0
      subst this
      exact VA (List.mem_append_right _ (by rw [if_neg hnf];exact pc.2 (hV' l hl0)))
  ·refine .inl ⟨λho=>?_, .inr hb⟩
   have h1:=h.1.sc b hb
   rcases (h.1.own (CA b ho)).2 with h2|h2
   ·omega
   ·exact h1.2 h2
 have hpd: ∀l∈pl,l∉dead:= λl hl hd=>by
  rcases List.mem_append.1 hd with hd|hd
  ·rcases List.mem_append.1 hd with hd|hd
   ·obtain ⟨t,ht,_,e⟩:=ah.1 hd
    exact (JB l hl).1 (List.mem_map.2 ⟨t,ht,e⟩)
   ·exact (JB l hl).2 hd
  ·split at hd
   ·cases hd
   ·obtain ⟨t,ht,_,e⟩:=pc.1 hd
    exact (JB l hl).1 (List.mem_map.2 ⟨t,ht,e⟩)
 have Aab: ∀j,j<s.Ox->Bx ks j∉pl:= λj hj hp=>hpd _ hp (oI j hj)
 let bv:Option OB:=s.rp.map λtid=> .var tid ((Ww (Bx ks) 0 s.outs r).drop s.Un)
 let H1:=(mV s.ins (Ww (Bx ks) 0 s.outs r) pl (st1.Xv dead part)).heap
 have hH1: ∀l,l∉pl->Ad H1 l=if l∈dead then none else (Ad st1.heap l).map (OB.map (Az dead part)):= λl hl=>by
  show Ad (mV _ _ _ _).heap l=_
  rw [EH hl]
  show Ad (Rq (st1.heap.map λp=>(p.1,p.2.map (Az dead part))) dead) l=_
  rw [Iz,Jv]
 let H2:=yq H1 (Nx d) bv
 have hvd: ∀tid,s.rp=some tid->Nx d∈dead/\Nx d∉pl:= λtid Rz=>by
  obtain ⟨e1,e2⟩:=VG tid Rz
  rw [<-e1]
  exact ⟨oI _ (by omega),Aab _ (by omega)⟩
 have Ado: ∀l,(∀tid,s.rp=some tid->l≠Nx d)->Ad H2 l=Ad H1 l:= λl hl=>by
  show Ad (yq H1 (Nx d) (s.rp.map _)) l=_
  cases AJ:s.rp with
  |none=>rfl
  |some tid=>exact Kf _ _ _ _ (hl tid AJ)
 have Aii: ∀tid,s.rp=some tid->Ad H2 (Nx d)=some (.var tid ((Ww (Bx ks) 0 s.outs r).drop s.Un)):= λtid Rz=>by
  show Ad (yq H1 (Nx d) (s.rp.map _)) (Nx d)=_
  rw [Rz]
  exact Le _ _ _ (by rw [hH1 _ (hvd tid Rz).2,if_pos (hvd tid Rz).1])
 have hkv: ∀j,j<s.outs.length-> ∀tid,s.rp=some tid->Bx ks j≠Nx d:= λj hj tid Rz e=>by
  have:=OT j s.outs.length (e.trans (VG tid Rz).1.symm)
  omega
 have hH2: ∀l,l∉pl->(∀tid,s.rp=some tid->l≠Nx d)->Ad H2 l=if l∈dead then none else (Ad st1.heap l).map (OB.map (Az dead part)):= λl hl hv=>by
  rw [Ado l hv,hH1 l hl]
 let H':=Se (GN st (iK tks)) (Bx ks) 0 s.outs r H2
 obtain ⟨n1,n2,n3⟩:=mi (D:=D1) (X:=X) (key:=Bx ks) OT (fr:=GN st (iK tks)) (ρ:=ρ) s.outs 0 r Re H2 Ael (λj _ hj=>by
  rw [hH2 _ (Aab j (by omega)) (hkv j (by omega)),if_pos (oI j (by omega))])
 have kA: ∀l,l∉dead->l∉pl->Ad H' l=(Ad st1.heap l).map (OB.map (Az dead part)):= λl hl oK=>by
  show Ad (Se _ _ _ _ _ _) l=_
  rw [n1 l λj _ hj e=>hl (e▸oI j (by omega)),hH2 l oK (λtid Rz e=>hl (e▸(hvd tid Rz).1)),if_neg hl]
 have UL: ∀l,l∈dead->(∀j,j<s.Ox->l≠Bx ks j)->Ad H' l=none:= λl hl hj=>by
  show Ad (Se _ _ _ _ _ _) l=_
  rw [n1 l λj _ h2=>hj j (by omega),hH2 l (λhp=>hpd l hp hl) (λtid Rz e=>hj s.outs.length (by have:=(VG tid Rz).2;omega) (e.trans (VG tid Rz).1.symm)),if_pos hl]
 have newAt: ∀l b',Ad H' l=some b'->(l∈dead\/Ad st.heap l=none)-> ∃j,j<s.Ox/\l=Bx ks j:=by
  intro l b' hb hd
  refine Classical.byContradiction λhn=>?_
  have nA: ∀j,j<s.Ox->l≠Bx ks j:= λj hj e=>hn ⟨j,hj,e⟩
  rcases Classical.em (l∈dead) with hd'|hd'
  ·rw [UL l hd' nA] at hb;cases hb
  ·rcases hd with hd|hd
   ·exact hd' hd
   ·rw [kA l hd' (λhp=>by obtain ⟨_,_,_,_,_,_,_,h1,_⟩:=JC l hp;rw [hd] at h1;cases h1)] at hb
    have:Ad st1.heap l=none:=by
     by_cases hi: ∃t∈Hk 0 s.ins as,t.2.Rf=l
     ·obtain ⟨t,ht,e⟩:=hi
      by_cases Gc:t.1<Am
      ·rw [<-e,q3 t ht Gc,e];exact hd
      ·obtain ⟨b0,_,h1,_⟩:=q4 t ht Gc
       rw [e,hd] at h1;cases h1
     ·rw [q2 l λt ht e=>hi ⟨t,ht,e.symm⟩];exact hd
    rw [this] at hb;cases hb
 have Aa6: ∀k,GN st (iK tks)=true-> ∀q,ρ (Gj k)=some q->q.Bc q.g->X.w0.heap.size<=q.g:=by
  intro k yc q hq hg
  rcases (OW.Ur _ q _ hq hg).2 with h1|⟨c,p,h1,h2,h3⟩
  ·exact Nat.le_trans h.1.below.size h1
  ·obtain ⟨t,t1,t2,t0,p',t3,t4,_⟩:=Qm c p _ h2 h3
   have hm:t.2.Rf∈iK tks:=ah.2 ⟨t,TM▸t1,⟨by rw [t2];exact h1,t0⟩,rfl⟩
   have:=List.all_eq_true.1 yc _ hm
   split at this
   ·rename_i fr tr e te xs hl
    unfold St.at at hl
    have hb:=(h.1.heap t.2.Rf).Lx hl
    simp only [Aw,Gg,t3] at hb
    rw [hb.1.2.1 _ t4]
    exact hb.1.2.2 this
   ·cases this
 have Aa4: ∀k q,ρ (Gj k)=some q->k<s.outs.length->q.Bc q.g:=by
  intro k q hq hk
  exact Fb.XG s.outs 0 r Re BZ k (Nat.zero_le _) ((Nat.zero_add _).symm▸hk) q hq
 have hinv: ∀l,l∉dead->(∃t∈Hk 0 s.ins as,t.2.reads=false/\t.2.Rf=l)->iz X D1 w' π st.heap st1.heap l:=by
  rintro l hd ⟨t,ht,h0,rfl⟩
  by_cases Gc:t.1<Am
  ·exact absurd (List.mem_append_left _ (List.mem_append_left _ (ah.2 ⟨t,TM▸ht,⟨Gc,h0⟩,rfl⟩))) hd
  ·exact q4 t ht Gc
 have uV: ∀l,(¬ ∃t∈Hk 0 s.ins as,t.2.reads=false/\t.2.Rf=l)->Ad st1.heap l=Ad st.heap l:= λl hn=>by
  by_cases hi: ∃t∈Hk 0 s.ins as,t.2.Rf=l
  ·obtain ⟨t,ht,rfl⟩:=hi
   have hr:t.2.reads=true:=by
    cases h0:t.2.reads with
    |true=>rfl
    |false=>exact absurd ⟨t,ht,h0,rfl⟩ hn
   exact q3 t ht (Aaq t ht hr)
  ·exact q2 l λt ht e=>hi ⟨t,ht,e.symm⟩
 have XL: ∀l∈pl,∀p,s.ptr=some p->Ad H' l=some (.var p.1 (cc s.ins (cells.map (Az dead part)) (Ww (Bx ks) 0 s.outs r))):= λl hl p hp=>by
  obtain ⟨p',q,h1,h2,_,_,_,h3,_⟩:=JC l hl
  rw [hp] at h1;cases h1
  show Ad (Se _ _ _ _ _ _) l=_
  rw [n1 l λj _ hj e=>Aab j (by omega) (e▸hl),Ado l (λtid Rz e=>(hvd tid Rz).2 (e▸hl))]
  show Ad (mV _ _ _ _).heap l=_
  rw [h2]
  refine LC ?_
  show Ad (Rq (st1.heap.map λp=>(p.1,p.2.map (Az dead part))) dead) l=_
  rw [Iz,Jv,if_neg (hpd l hl),uV l (λ⟨t,ht,_,e⟩=>VD l hl t ht e),h3]
  rfl
 have YA: ∀j,j<s.Ox->s.outs.length<=j-> ∃tid,s.rp=some tid/\j=s.outs.length:= λj h1 h2=>by
  cases AJ:s.rp with
  |none=>unfold MSpec.Ox at h1;rw [AJ] at h1;simp at h1;omega
  |some tid=>exact ⟨tid,rfl,by have:=(VG tid AJ).2;omega⟩
 have hHv: ∀tid,s.rp=some tid->Ad H' (Nx d)=some (.var tid ((Ww (Bx ks) 0 s.outs r).drop s.Un)):= λtid Rz=>by
  show Ad (Se _ _ _ _ _ _) _=_
  rw [n1 _ λj _ hj e=>hkv j (by omega) tid Rz e.symm,Aii tid Rz]
 suffices Aed:Al X π' (gD st st1 d s pl tks r) a w'/\Ao X w' π' (gD st st1 d s pl tks r).heap av0 v by
  obtain ⟨m1,m2⟩:=Aed
  have mP: ∀(kj:List (Nat×Nat)) (l:Nat),l∈Wr st.heap ks tks kj->jb st.heap l=true/\ ∃k j t,(k,j)∈kj/\t∈tks/\t=(Bv false k,Loc.row l)/\ks[j]?=some l:=by
   intro kj
   induction kj with
   |nil=>intro l hl;cases hl
   |cons p kj ih=>
    intro l hl
    obtain ⟨k,j⟩:=p
    have up:l∈Wr st.heap ks tks kj->jb st.heap l=true/\ ∃k' j' t,(k',j')∈(k,j)::kj/\t∈tks/\t=(Bv false k',Loc.row l)/\ks[j']?=some l:= λhl=>by
     obtain ⟨h1,k',j',t,h2,h3⟩:=ih l hl
     exact ⟨h1,k',j',t,List.mem_cons_of_mem _ h2,h3⟩
    simp only [Wr] at hl
    split at hl
    ·rename_i x0 l1 l2 h1 h2
     split at hl
     ·rename_i hc
      simp only [Bool.and_eq_true] at hc
      rcases List.mem_cons.1 hl with rfl|hl
      ·have:=List.find?_some h1
       have e1:=Nat.eq_of_beq_eq_true this
       have e2:=Nat.eq_of_beq_eq_true hc.1
       dsimp only at e1
       exact ⟨hc.2,k,j,_,List.mem_cons_self,List.mem_of_find?_eq_some h1,by rw [e1],by rw [h2,e2]⟩
      ·exact up hl
     ·exact up hl
    ·exact up hl
  obtain ⟨r1,r2⟩:=CL h m1 (ls:=Wr st.heap ks tks s.keeps) (n:=s.Cs x) (λl hl=>by
   obtain ⟨_,k,j,t,h1,h2,h3,h4⟩:=mP s.keeps l hl
   have hj:j<ks.length:=(List.getElem?_eq_some_iff.1 h4).1
   have MX:Bx ks j=l:=by
    rw [Ly hj]
    rw [List.getElem?_eq_getElem hj] at h4
    exact Option.some.inj h4
   have r7:=tb (k,j) h1
   rw [show π' l=ρ (Gj j) by rw [<-MX];exact r6 j (by omega),VI]
   have hc:πc (Bv false k)=(π l).map full:=Adq k l (by rw [<-h3,<-TM];exact h2)
   dsimp only at r7
   rw [hc] at r7
   cases hp:π l<;>cases hq:xa (Gj j)<;>(rw [hp,hq] at r7;exact r7)) (λl hl=>(mP s.keeps l hl).1) Kq
  exact ⟨π',r1,r2 av0 v m2⟩
 refine ⟨?_,?_⟩
 ·have hx:=Al.ZQ (π':=π') (H':=H') (dead:=dead) (part:=part) (inv:= λl=>(∃t∈Hk 0 s.ins as,t.2.reads=false/\t.2.Rf=l)\/l∈pl) (gv:= λb=>Qd πc b\/s.gv g b) h (λb hb=>by
    rcases hb with hb|hb
    ·obtain ⟨t,h1,h0,q,h2,h3,_⟩:=a8 b hb
     exact ⟨_,q, .inl ⟨t,h1,h0,rfl⟩,h2,h3⟩
    ·obtain ⟨l,hl,q,h1,h2,_⟩:=IW b hb
     exact ⟨l,q, .inr hl,h1,h2⟩) UP (λl b0 hd h0=>⟨PK l hd,?_⟩) (λl b' hb hd=>?_) (λl hl=>?_) (λm q hd hp hm hxa=>?_)
  ·have:({tmps:=(mV s.ins (Ww (Bx ks) 0 s.outs r) pl (st1.Xv dead part)).tmps,heap:=H'} :St)= {tmps:=st.tmps.map (·.map (Az dead part)),heap:=H'} :=by
    rw [lg]
    show ({tmps:=st1.tmps.map (·.map (Az dead part)),heap:=H'} :St)=_
    rw [q1]
   show Al X π' ({tmps:=(mV s.ins (Ww (Bx ks) 0 s.outs r) pl (st1.Xv dead part)).tmps,heap:=H'} :St) a w'
   rw [this]
   exact hx
  ·by_cases UX:l∈pl
   ·obtain ⟨p,q,h1,h2,h3,h4,h5,h6,h7⟩:=JC l UX
    rw [h0] at h6;cases h6
    have qI:=XL l UX p h1
    refine .inr ⟨_,qI,⟨rfl,by rw [kY]⟩,λm=>?_⟩
    unfold gz at sU
    rw [h1] at sU
    obtain ⟨cs,k1,k2,k3⟩:=sU
    rw [<-h7] at k3
    refine ⟨q,h3,h4,cs.toArray,by rw [<-h5];exact k1,?_⟩
    refine Ir.to (eR (H:=st.heap) PK (λl1 b1 sz n hd1 OF VE=>?_) s.ins 0 cells jS x us o st st1 (Ww (Bx ks) 0 s.outs r) Re cs (has▸hT) Ae9 (has▸Aam) k3 (n3 π' hD1 (λj _ hj=>r6 j (by omega)))) (by simpa using k2)
    have hnp:l1∉pl:= λhp=>by
     obtain ⟨_,_,_,_,_,_,_,h8,_⟩:=JC l1 hp
     rw [OF] at h8;cases h8;cases VE
    by_cases hi: ∃t∈Hk 0 s.ins as,t.2.reads=false/\t.2.Rf=l1
    ·obtain ⟨b1,b',e1,e2,e3,e4,e5,e6⟩:=hinv l1 hd1 hi
     rw [OF] at e1;cases e1
     exact ⟨b',by rw [kA l1 hd1 hnp,e2];simp [e4],by rw [e5.row];exact VE⟩
    ·exact ⟨_,by rw [kA l1 hd1 hnp,uV l1 hi,OF];rfl,by rw [OB.w6];exact VE⟩
   by_cases hi: ∃t∈Hk 0 s.ins as,t.2.reads=false/\t.2.Rf=l
   ·obtain ⟨b1,b',e1,e2,e3,e4,e5,e6⟩:=hinv l hd hi
    rw [h0] at e1;cases e1
    exact .inr ⟨b',by rw [kA l hd UX,e2];simp [e4],by rw [e3];exact e5,λ_=>e6 π' H' hD1⟩
   ·exact .inl ⟨λhh=>hh.elim hi UX,by rw [kA l hd UX,uV l hi,h0];rfl⟩
  ·obtain ⟨j,hj,rfl⟩:=newAt l b' hb hd
   refine ⟨Ajp j hj,?_,λq b hq=>?_⟩
   ·rw [r6 j hj]
    rcases Nat.lt_or_ge j s.outs.length with hjo|hjo
    ·rcases n2 j (Nat.zero_le _) (by omega) with ⟨e1,_⟩|⟨b2,e1,e2⟩
     ·rw [show Ad H' (Bx ks j)=none from e1] at hb;cases hb
     ·rw [show Ad H' (Bx ks j)=some b2 from e1] at hb;cases hb
      exact e2 X π' H' (λhf q hq=>Aa6 j hf q hq (Aa4 j q hq hjo)) hD1
    ·obtain ⟨tid,Rz,hj0⟩:=YA j hj hjo
     subst hj0
     rw [(VG tid Rz).1,hHv tid Rz] at hb;cases hb
     unfold nP at aY
     rw [Rz] at aY
     obtain ⟨q,y1,y2,y3,y4,_⟩:=aY
     rw [VI,y1]
     exact ⟨full q,rfl,y2,_,y3,Ir.to (Ir.take s.Un (n3 π' hD1 (λj _ hj=>r6 j (by omega)))).2 (by simpa using y4)⟩
   ·rw [r6 j hj] at hq
    have Mu:=XR _ q hq
    refine ⟨λhf=>by rw [Mu];exact hf,λhf=>?_⟩
    rw [Mu] at hf
    obtain ⟨h1,h2⟩:=OW.Ur _ q b hq hf
    refine ⟨h1,h2.imp id ?_,λl2 r2 hd2 IZ hf2=>?_⟩
    ·rintro ⟨c,p,h3,h4,h5⟩
     obtain ⟨t,t1,t2,t0,p',t3,t4,_⟩:=Qm c p b h4 h5
     exact ⟨t.2.Rf,p',List.mem_append_left _ (List.mem_append_left _ (ah.2 ⟨t,TM▸t1,⟨by rw [t2];exact h3,t0⟩,rfl⟩)),t3,t4⟩
    ·by_cases hk: ∃j,j<s.Ox/\l2=Bx ks j
     ·obtain ⟨j2,hj2,rfl⟩:=hk
      rw [r6 j2 hj2] at IZ
      rw [XR _ r2 IZ] at hf2
      have:=OW.inj _ _ r2 q b IZ hq hf2 hf
      unfold Gj at this
      have:j2=j:=by omega
      rw [this]
     ·have e0:π' l2=if l2∈dead then none else π l2:=uS l2 hk
      rw [e0] at IZ
      split at IZ
      ·cases IZ
      ·rename_i VA
       rcases hd2 with hd2|hd2
       ·exact absurd hd2 VA
       ·rw [(h.1.heap l2).emp hd2] at IZ;cases IZ
  ·by_cases hk: ∃j,j<s.Ox/\l=Bx ks j
   ·obtain ⟨j,hj,rfl⟩:=hk
    rw [r6 j hj]
    rcases Nat.lt_or_ge j s.outs.length with hjo|hjo
    ·rcases n2 j (Nat.zero_le _) (by omega) with ⟨_,e1⟩|⟨b2,e1,_⟩
     ·exact e1
     ·rw [show Ad H' (Bx ks j)=some b2 from e1] at hl;cases hl
    ·obtain ⟨tid,Rz,hj0⟩:=YA j hj hjo
     subst hj0
     rw [(VG tid Rz).1,hHv tid Rz] at hl;cases hl
   ·have e0:π' l=if l∈dead then none else π l:=uS l hk
    rw [e0]
    split
    ·rfl
    ·rename_i hd
     by_cases UX:l∈pl
     ·obtain ⟨p,_,h1,_⟩:=JC l UX
      rw [XL l UX p h1] at hl;cases hl
     rw [kA l hd UX] at hl
     by_cases hi: ∃t∈Hk 0 s.ins as,t.2.reads=false/\t.2.Rf=l
     ·obtain ⟨_,b',_,e2,_⟩:=hinv l hd hi
      rw [e2] at hl;cases hl
     ·rw [uV l hi] at hl
      cases h0:Ad st.heap l with
      |none=>exact (h.1.heap l).emp h0
      |some b=>rw [h0] at hl;cases hl
  ·refine UP.block _ (h.1.lt hm).1 λBY=>?_
   rcases BY with ho|hg
   rotate_left
   ·obtain ⟨l,hl,q',h1,h2,_⟩:=IW _ hg
    have uT:=h.1.apart hm h1 (h.1.Bc hm) h2
    obtain ⟨_,_,_,_,_,_,_,h3,_⟩:=JC l hl
    obtain ⟨b,hxa,hxb⟩:=hxa
    rw [uT,h3] at hxa;cases hxa
    exact hxb rfl
   obtain ⟨t,t1,t0,p,t3,t4,t5⟩:=a8 _ ho
   have uT:=h.1.apart hm t3 (h.1.Bc hm) t4
   have hpq:p=q:=by rw [<-uT,hm] at t3;exact (Option.some.inj t3).symm
   cases YK:t.2 with
   |row l=>
    refine hp ?_
    show m∈whole tks
    unfold whole
    exact List.mem_flatMap.2 ⟨t,TM▸t1,by rw [YK,uT,YK];simp [Loc.Rf]⟩
   |sub l i j=>exact t5 l i j YK (by rw [hpq])
   |view l=>rw [YK] at t0;cases t0
 ·have Ak9:=n3 π' hD1 (λj _ hj=>r6 j (by omega))
  cases AJ:s.rp with
  |some tid=>
   unfold nP at aY
   rw [AJ] at aY
   obtain ⟨q,y1,y2,y3,y4,rfl⟩:=aY
   unfold WA at dp
   rw [AJ] at dp
   simp only [Option.some.injEq] at dp;subst dp
   refine ⟨full q,tid,_,hHv tid AJ,?_,rfl⟩
   rw [<-(VG tid AJ).1,r6 _ (by have:=(VG tid AJ).2;omega),VI,y1]
   rfl
  |none=>
  unfold nP at aY
  rw [AJ] at aY
  obtain ⟨aY,Akf⟩:=aY
  unfold WA at dp
  rw [AJ] at dp
  simp only at dp
  obtain ⟨g1,g2,g3,g4⟩:=a5 s.Es _ (Re.drop s.Un) Akf (Ir.take s.Un Ak9).2
  unfold Ag0 at dp
  unfold RO at aY
  split at dp
  ·rename_i hm
   rw [if_pos hm] at aY
   simp only [Option.some.injEq] at dp;subst dp
   subst aY
   exact ⟨_,rfl,g3.symm,g4⟩
  ·rename_i hm
   rw [if_neg hm] at aY
   split at dp
   ·rename_i av1 hga
    simp only [Option.some.injEq] at dp;subst dp
    rcases aY with aY|aY
    ·exact g2 0 _ v (by rw [hga];rfl) (by rw [aY];rfl)
    ·rw [hga,aY] at g1;cases g1
   ·simp only [Option.some.injEq] at dp;subst dp;trivial
   ·cases dp
end
end Go.Proofs.YtfolipnappekaaaGreat
