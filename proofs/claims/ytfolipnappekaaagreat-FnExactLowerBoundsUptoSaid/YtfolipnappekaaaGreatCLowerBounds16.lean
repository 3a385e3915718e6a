/-
  Part 17 of the proof that the statement FnExactLowerBounds holds.
-/
import Derived.Test.YtfolipnappekaaaGreatCLowerBounds15
namespace Go.Proofs.YtfolipnappekaaaGreat
open Go.RowKit
section
variable {P:Program} {T:Tab} {X:Ctx} {w w':World} {π π':Pi} {H H':List (Nat×OB)}
theorem Uy (k:Nat): ¬Bl true k<Ak:=by unfold Bl Ak;simp
theorem bf {k:Nat} (h:k<100000):Bl false k<Ak:=by unfold Bl Ak;simp;omega
def ia (X:Ctx) (D:Nat->Prop) (w':World) (π:Pi) (H Hn:List (Nat×OB)) (l:Nat):Prop:=
 ∃b0 b',Ad H l=some b0/\Ad Hn l=some b'/\(∀f,OB.map f b0=b0)/\(∀f,OB.map f b'=b')/\b0.aP b'/\ ∀π' H',(∀b,No π' b\/X.Sc b->D b)->Aw X w' π' H' (π l) b'
theorem QE {io:Bool} {k:Nat} {τ:Ty} {a:AC} {t:Nat×Loc} (h:t∈Ks io k (.Dh τ) a):t.1=Bl false k:=by
 cases a<;>simp [Ks,views] at h<;>first|(obtain ⟨_,⟨_,_⟩,rfl⟩:=h;rfl)|(rw [h])
theorem KB {io:Bool} {k:Nat} {e:Ty} {te:TypeId} {a:AC} {t:Nat×Loc} (h:t∈Ks io k (.part e te) a):t.1=Bl io k:=by cases a<;>simp [Ks] at h<;>rw [h]
theorem QF {io:Bool} {k:Nat} {e:Ty} {te:TypeId} {a:AC} {t:Nat×Loc} (h:t∈Ks io k (.row e te) a):t.1=Bl io k:=by cases a<;>simp [Ks] at h<;>rw [h]
theorem KC {io:Bool} {k:Nat} {e:Ty} {te:TypeId} {a:AC} {t:Nat×Loc} (h:t∈Ks io k (.Ds e te) a):t.1=Bl io k:=by cases a<;>simp [Ks] at h<;>rw [h]
theorem aD {D:Nat->Prop} {π':Pi} {fr:Bool} {e:Ty} {es:List Value} {y:e.den} (hD: ∀b,No π' b\/X.Sc b->D b) (h:Cells w' D e es y):Cells w' (Bg X.w0.heap.size X.Sc π' (fr&&e.flat)) e es y:=by
 cases hf:e.flat with
 |true=>exact Cells.flat e es y hf h
 |false=>exact Cells.Ch (Nat.le_refl _) (λ_ _ _=>rfl) (λb _ hb=>by
   rcases hb with hb|hb|⟨hb,_⟩
   ·exact hD b (.inl hb)
   ·exact hD b (.inr hb)
   ·simp at hb) e es y h
theorem KE {D P:Nat->Prop} {g o:Nat} {cur:Array Value} {tr:Bool} {e:Ty} {xs:List e.den}
  (h: ∀(i:Nat) (x:e.den),xs[i]?=some x-> ∃es:List Value,es.length=e.size/\(∀j u,es[j]?=some u->cur[(o+i)*e.size+j]?=some u)/\Cells w' D e es x) (ht:(tr&&e.flat)=true):Qi w' P g o cur e xs:=by
 simp only [Bool.and_eq_true] at ht
 exact iD ht.2 h
theorem JD {D:Nat->Prop} (h:Ih X w π H) {k:Nat} {c:CK} {ys:c.den} {a:AC} {u:Value} {r:Option Real} {x:c.den} {cur st1:St} (hs:w.heap.size<=w'.heap.size)
  (hU: ∀l i j q b,a= .sub l i j->π l=some q->q.Bb b->b<w.heap.size->(∀r',r=some r'-> ¬r'.Bb b)->w'.heap[b]?=w.heap[b]?)
  {V:List Nat} (ht:ao w (Ji X π V) r u c x/\Nh w π H true a u r c x) (hr:bA w' D r c ys) (he:Wy cur c ys a=some st1) (c9: ∀t∈Ks true k c a,Ad cur.heap t.2.Qc=Ad H t.2.Qc):
  st1.tmps=cur.tmps/\(∀m,(∀t∈Ks true k c a,m≠t.2.Qc)->Ad st1.heap m=Ad cur.heap m)/\ ∀t∈Ks true k c a,ia X D w' π H st1.heap t.2.Qc:=by
 obtain ⟨hc,ht⟩:=ht
 cases c with
 |Dh τ=>cases a<;>simp [Wy] at he;subst he;exact ⟨rfl,λ_ _=>rfl,λt ht=>by simp [Ks] at ht⟩
 |row e te=>
  simp only [Nh] at ht
  cases a<;>simp only [] at ht<;>first|(exact ht.elim)|skip
  ·simp only [Wy,Option.some.injEq] at he;subst he
   exact ⟨rfl,λ_ _=>rfl,λt ht=>by simp [Ks] at ht⟩
  ·rename_i l off len
   obtain ⟨rfl,rfl,rfl,fr,tr,hl⟩:=ht
   have Mg:Ad cur.heap l=some (.arr fr tr e te x):=(c9 _ (List.mem_singleton.2 rfl)).trans hl
   simp only [Wy,St.at,Mg] at he
   split at he
   ·rename_i Fe
    obtain ⟨_,h1,_⟩:=Fe
    simp only [Option.some.injEq] at he;subst he
    refine ⟨rfl,λm hm=>Bs _ _ _ _ (hm _ (List.mem_singleton.2 rfl)),λt Pc=>?_⟩
    have Pc:=List.mem_singleton.1 Pc
    subst Pc
    refine ⟨_,_,hl,Cd _ _ _ _ Mg,λ_=>rfl,λ_=>rfl,⟨rfl,h1.symm⟩,λπ' H' hD=>?_⟩
    have hb:=(h.heap l).Ku hl
    change Aw X w' π' H' (π l) _
    simp only [Aw,Fq] at hb⊢
    cases hp:π l with
    |none=>rw [hp] at hr;exact hr
    |some q=>
     rw [hp] at hr hb
     obtain ⟨k1,cu,ti,k2,k3,k4,k5,k6⟩:=hr
     exact ⟨⟨k1.1,k1.2,λhh=>hb.1.2.2 (by simp only [Bool.and_eq_true] at hh;exact hh.1)⟩,cu,ti,k2,k3,k4,k5,λi y hy=>by
      obtain ⟨es,g1,g2,g3⟩:=k6 i y hy
      exact ⟨es,g1,g2,aD hD g3⟩,λht=>KE k6 ht⟩
   ·cases he
  ·rename_i l i j
   obtain ⟨⟨_,hf⟩,tid,xs,hl,hx,q,hq,Pn,hre⟩:=ht
   have Mg:Ad cur.heap l=some (.Dc (.slice e) tid xs):=(c9 _ (List.mem_singleton.2 rfl)).trans hl
   simp only [Wy,St.at,Mg,hx] at he
   rw [dif_pos trivial] at he
   ·split at he
    ·rename_i h1
     simp only [Option.some.injEq] at he;subst he
     refine ⟨rfl,λm hm=>Bs _ _ _ _ (hm _ (List.mem_singleton.2 rfl)),λt Pc=>?_⟩
     have Pc:=List.mem_singleton.1 Pc
     subst Pc
     refine ⟨_,_,hl,Cd _ _ _ _ Mg,λ_=>rfl,λ_=>rfl,⟨rfl,by simp⟩,λπ' H' _=>?_⟩
     show Iu w' (π l) (.slice e) tid _
     rw [hq]
     refine hre w' ys hs (λb Fc hb hn=>hU l i j q b rfl hq hb Fc hn) ?_
     have hv:=hc.1
     rw [<-show List.length ys=List.length x from h1] at hv
     exact Mr.DW hr hf hv
    ·cases he
 |Ds e te=>
  simp only [Nh] at ht
  cases a<;>simp only [] at ht<;>first|(exact ht.elim)|skip
  ·simp only [Wy,Option.some.injEq] at he;subst he
   exact ⟨rfl,λ_ _=>rfl,λt ht=>by simp [Ks] at ht⟩
  ·rename_i l off len
   obtain ⟨rfl,rfl,rfl,hl⟩:=ht
   have Mg:Ad cur.heap l=some (.Dc e te x):=(c9 _ (List.mem_singleton.2 rfl)).trans hl
   simp only [Wy,St.at,Mg] at he
   split at he
   ·rename_i Fe
    obtain ⟨_,h1,_⟩:=Fe
    simp only [Option.some.injEq] at he;subst he
    refine ⟨rfl,λm hm=>Bs _ _ _ _ (hm _ (List.mem_singleton.2 rfl)),λt Pc=>?_⟩
    have Pc:=List.mem_singleton.1 Pc
    subst Pc
    refine ⟨_,_,hl,Cd _ _ _ _ Mg,λ_=>rfl,λ_=>rfl,⟨rfl,h1.symm⟩,λπ' H' _=>?_⟩
    show Iu w' (π l) e te _
    cases hp:π l with
    |none=>rw [hp] at hr;exact hr
    |some q=>rw [hp] at hr;exact hr
   ·cases he
  ·rename_i l i j
   obtain ⟨_,tid,xs,hl,hx,q,hq,Pn,hre⟩:=ht
   have Mg:Ad cur.heap l=some (.Dc (.slice e) tid xs):=(c9 _ (List.mem_singleton.2 rfl)).trans hl
   simp only [Wy,St.at,Mg,hx] at he
   rw [dif_pos trivial] at he
   ·split at he
    ·rename_i h1
     simp only [Option.some.injEq] at he;subst he
     refine ⟨rfl,λm hm=>Bs _ _ _ _ (hm _ (List.mem_singleton.2 rfl)),λt Pc=>?_⟩
     have Pc:=List.mem_singleton.1 Pc
     subst Pc
     refine ⟨_,_,hl,Cd _ _ _ _ Mg,λ_=>rfl,λ_=>rfl,⟨rfl,by simp⟩,λπ' H' _=>?_⟩
     show Iu w' (π l) (.slice e) tid _
     rw [hq]
     refine hre w' ys hs (λb Fc hb hn=>hU l i j q b rfl hq hb Fc hn) ?_
     have hv:=hc.1
     rw [<-show List.length ys=List.length x from h1] at hv
     exact Iu.DW (te:=te) hr hv
    ·cases he
 |part e te=>cases a<;>simp [Wy] at he<;>first|(simp only [Nh] at ht;exact ht.2.elim)
 |Aj e te kp=>exact absurd ht.1 (by simp)
theorem JE {D:Nat->Prop} (h:Ih X w π H) {k:Nat} {e:Ty} {te:TypeId} {ys:List e.den} {a:AC} {u:Value} {r:Option Real} {x:(CK.part e te).den} {cur st1:St}
  {V:List Nat} (ht:ao w (Ji X π V) r u (.part e te) x/\Nh w π H true a u r (.part e te) x) (hr:bA w' D r (.row e te) ys) (he:CQ cur e ys a=some st1) (c9: ∀t∈Ks true k (.part e te) a,Ad cur.heap t.2.Qc=Ad H t.2.Qc):
  st1.tmps=cur.tmps/\(∀m,(∀t∈Ks true k (.part e te) a,m≠t.2.Qc)->Ad st1.heap m=Ad cur.heap m)/\ ∀t∈Ks true k (.part e te) a,ia X D w' π H st1.heap t.2.Qc:=by
 obtain ⟨hc,hf,ht⟩:=ht
 cases a<;>simp only [] at ht<;>first|(exact ht.elim)|skip
 rename_i l off len
 obtain ⟨rfl,_,fr,tr,hl⟩:=ht
 have Mg:Ad cur.heap l=some (.arr fr tr e te x.1):=(c9 _ (List.mem_singleton.2 rfl)).trans hl
 simp only [CQ,St.at,Mg] at he
 split at he
 ·rename_i Fe
  obtain ⟨_,h1⟩:=Fe
  simp only [Option.some.injEq] at he;subst he
  refine ⟨rfl,λm hm=>Bs _ _ _ _ (hm _ (List.mem_singleton.2 rfl)),λt Pc=>?_⟩
  have Pc:=List.mem_singleton.1 Pc
  subst Pc
  refine ⟨_,_,hl,Cd _ _ _ _ Mg,λ_=>rfl,λ_=>rfl,⟨rfl,h1.symm⟩,λπ' H' _=>?_⟩
  have hb:=(h.heap l).Ku hl
  change Aw X w' π' H' (π l) _
  simp only [Aw,Fq] at hb⊢
  cases hp:π l with
  |none=>rw [hp] at hr;exact hr
  |some q=>
   rw [hp] at hr hb
   obtain ⟨k1,cu,ti,k2,k3,k4,k5,k6⟩:=hr
   exact ⟨⟨k1.1,k1.2,hb.1.2.2⟩,cu,ti,k2,k3,k4,k5,λi y hy=>by
    obtain ⟨es,g1,g2,g3⟩:=k6 i y hy
    exact ⟨es,g1,g2,Cells.flat e es y hf g3⟩,λ_=>iD hf k6⟩
 ·cases he
def mP (X:Ctx) (D:Nat->Prop) (w':World) (π:Pi) (H:List (Nat×OB)) (tk:List (Nat×Loc)) (cur st1:St):Prop:=
 st1.tmps=cur.tmps/\(∀m,(∀t∈tk,m≠t.2.Qc)->Ad st1.heap m=Ad cur.heap m)/\(∀t∈tk,t.1<Ak->Ad st1.heap t.2.Qc=Ad cur.heap t.2.Qc)/\(∀t∈tk,¬t.1<Ak->ia X D w' π H st1.heap t.2.Qc)
theorem oU {D:Nat->Prop} (h:Ih X w π H) {V:List Nat} {πc:Pi} {tks:List (Nat×Loc)} (hs:w.heap.size<=w'.heap.size)
  (hU: ∀t∈tks,∀q b,π t.2.Qc=some q->q.Bb b->b<w.heap.size->(∀r',πc t.1=some r'-> ¬r'.Bb b)->w'.heap[b]?=w.heap[b]?):
  ∀(cs:List (Bool×CK)) (k:Nat) (x:Ins.den cs) (as:List AC) (us:List Value) (o:IOs.den cs) (cur st1:St),k+cs.length<100000->(∀t∈Ha k cs as,t∈tks)->((Ha k cs as).map λt=>t.2.Qc).Nodup->
   m7 X w π V H πc k cs x as us->Hc w' D πc k cs o->Ef cs o as cur=some st1->(∀t∈Ha k cs as,Ad cur.heap t.2.Qc=Ad H t.2.Qc)->
   mP X D w' π H (Ha k cs as) cur st1
 | [],k,x,as,us,o,cur,st1,_,_,_,_,_,he,_=>by
  simp only [Ef,Option.some.injEq] at he;subst he
  have e0:Ha k [] as= []:=by cases as<;>rfl
  exact ⟨rfl,λ_ _=>rfl,by rw [e0];simp,by rw [e0];simp⟩
 |p::r,k,x,[],us,o,cur,st1,_,_,_,ht,_,_,_=>ht.elim
 |p::r,k,x,a::as,[],o,cur,st1,_,_,_,ht,_,_,_=>ht.elim
 |(io,c)::r,k,x,a::as,u::us,o,cur,st1,hk,Kh,RL,ht,ho,he,c9=>by
  simp only [List.length_cons] at hk
  simp only [Ha] at Kh RL c9⊢
  rw [List.map_append] at RL
  obtain ⟨n1,n2,n3⟩:=List.nodup_append.1 RL
  have apart: ∀t∈Ks io k c a,∀t'∈Ha (k+1) r as,t'.2.Qc≠t.2.Qc:= λt h1 t' h2 e=>n3 _ (List.mem_map.2 ⟨t,h1,rfl⟩) _ (List.mem_map.2 ⟨t',h2,rfl⟩) e.symm
  have rest: ∀(Tk:St) (o':IOs.den r),Hc w' D πc (k+1) r o'->Ef r o' as Tk=some st1->Tk.tmps=cur.tmps->(∀m,(∀t∈Ks io k c a,m≠t.2.Qc)->Ad Tk.heap m=Ad cur.heap m)->
    (∀t∈Ks io k c a,t.1<Ak->Ad Tk.heap t.2.Qc=Ad cur.heap t.2.Qc)->(∀t∈Ks io k c a,¬t.1<Ak->ia X D w' π H Tk.heap t.2.Qc)->
    mP X D w' π H (Ks io k c a++Ha (k+1) r as) cur st1:=by
   intro Tk o' h1 h2 h3 h4 h5 h6
   obtain ⟨g1,g2,g3,g4⟩:=oU h hs hU r (k+1) x.2 as us o' Tk st1 (by omega) (λt ht=>Kh t (List.mem_append_right _ ht)) n2 ht.2 h1 h2 (λt Pc=>by
    rw [h4 _ λt0 ht0=>apart t0 ht0 t Pc];exact c9 t (List.mem_append_right _ Pc))
   have hd: ∀t∈Ks io k c a,Ad st1.heap t.2.Qc=Ad Tk.heap t.2.Qc:= λt Pc=>g2 _ λt' sy=>(apart t Pc t' sy).symm
   refine ⟨g1.trans h3,λm hm=>?_,λt Pc Fc=>?_,λt Pc Fc=>?_⟩
   ·rw [g2 m λt ht=>hm t (List.mem_append_right _ ht),h4 m λt ht=>hm t (List.mem_append_left _ ht)]
   ·rcases List.mem_append.1 Pc with Pc|Pc
    ·rw [hd t Pc,h5 t Pc Fc]
    ·rw [g3 t Pc Fc,h4 _ λt0 ht0=>apart t0 ht0 t Pc]
   ·rcases List.mem_append.1 Pc with Pc|Pc
    ·obtain ⟨b0,b',q1,q2,q3⟩:=h6 t Pc Fc
     exact ⟨b0,b',q1,(hd t Pc).trans q2,q3⟩
    ·exact g4 t Pc Fc
  have same: ∀o',Hc w' D πc (k+1) r o'->Ef r o' as cur=some st1->(∀t∈Ks io k c a,t.1<Ak)->mP X D w' π H (Ks io k c a++Ha (k+1) r as) cur st1:= λo' h1 h2 h3=>rest cur o' h1 h2 rfl (λ_ _=>rfl) (λ_ _ _=>rfl) (λt h4 h5=>absurd (h3 t h4) h5)
  cases io with
  |false=>
   have h3: ∀t∈Ks false k c a,t.1<Ak:= λt h4=>by rcases z9 h4 with ⟨h5,_⟩|⟨h5,_⟩<;>(rw [h5];exact bf (by omega))
   cases c with
   |Dh τ=>exact same o ho (by simpa only [Ef] using he) h3
   |row e te=>exact same o ho (by simpa only [Ef] using he) h3
   |Ds e te=>exact same o ho (by simpa only [Ef] using he) h3
   |part e te=>exact same o ho (by simpa only [Ef] using he) h3
   |Aj e te kp=>exact same o ho (by simpa only [Ef] using he) h3
  |true=>
   have row: ∀(ys:c.den) (o':IOs.den r),(∀t∈Ks true k c a,t.1=Bl true k)->bA w' D (πc (Bl true k)) c ys->Hc w' D πc (k+1) r o'->(∃Tk,Wy cur c ys a=some Tk/\Ef r o' as Tk=some st1)->mP X D w' π H (Ks true k c a++Ha (k+1) r as) cur st1:=by
    intro ys o' h0 h1 h2 h3
    obtain ⟨Tk,hp,h3⟩:=h3
    ·obtain ⟨q1,q2,q3⟩:=JD (k:=k) h hs (λl i j q b ea hq hb Fc hn=>by
      cases c with
      |Dh τ=>exact absurd (ht.1.2:πc _=none) (by subst ea;simp [Wy] at hp)
      |row e te=>subst ea;exact hU (Bl true k, .sub l i j) (Kh _ (List.mem_append_left _ (List.mem_singleton.2 rfl))) q b hq hb Fc hn
      |Ds e te=>subst ea;exact hU (Bl true k, .sub l i j) (Kh _ (List.mem_append_left _ (List.mem_singleton.2 rfl))) q b hq hb Fc hn
      |Aj e te kp=>exact absurd ht.1.2.1 (by simp)
      |part e te=>exact absurd ht.1.2.2 (by subst ea;exact λh=>h)) ht.1 h1 hp (λt Pc=>c9 t (List.mem_append_left _ Pc))
     exact rest Tk o' h2 h3 q1 q2 (λt h4 h5=>absurd h5 (by rw [h0 t h4];exact Uy k)) (λt h4 _=>q3 t h4)
   cases c with
   |Dh τ=>exact same o ho (by simpa only [Ef] using he) (λt h4=>by rw [QE h4];exact bf (by omega))
   |Aj e te kp=>exact absurd ht.1.2.1 (by simp)
   |row e te=>
    simp only [Ef] at he
    split at he
    ·rename_i Tk hp;exact row o.1 o.2 (λt ht=>QF ht) ho.1 ho.2 ⟨Tk,hp,he⟩
    ·cases he
   |Ds e te=>
    simp only [Ef] at he
    split at he
    ·rename_i Tk hp;exact row o.1 o.2 (λt ht=>KC ht) ho.1 ho.2 ⟨Tk,hp,he⟩
    ·cases he
   |part e te=>
    simp only [Ef] at he
    split at he
    ·rename_i Tk hp
     obtain ⟨q1,q2,q3⟩:=JE (k:=k) h ht.1 ho.1 hp (λt Pc=>c9 t (List.mem_append_left _ Pc))
     exact rest Tk o.2 ho.2 he q1 q2 (λt h4 h5=>absurd h5 (by rw [KB h4];exact Uy k)) (λt h4 _=>q3 t h4)
    ·cases he
theorem BS {fr:Bool} {c:CK} {x:c.den} {u:Value} {r:Option Real} {D:Nat->Prop} (h:ao w' D r u c x):
  (qI fr c x=none/\r=none)\/ ∃b',qI fr c x=some b'/\ ∀(X:Ctx) π' H',(fr=true-> ∀q,r=some q->X.w0.heap.size<=q.g)->(∀b,No π' b\/X.Sc b->D b)->Aw X w' π' H' r b':=by
 cases c with
 |Dh τ=>exact .inl ⟨rfl,h.1⟩
 |row e te=>
  refine .inr ⟨_,rfl,λX π' H' AN hD=>?_⟩
  obtain ⟨_,h⟩:=h
  simp only [bA] at h
  simp only [Aw,Fq]
  cases r with
  |none=>exact h
  |some q=>
   obtain ⟨k1,cu,ti,k2,k3,k4,k5,k6⟩:=h
   exact ⟨⟨k1.1,k1.2,λh1=>AN (by simp only [Bool.and_eq_true] at h1;exact h1.1) q rfl⟩,cu,ti,k2,k3,k4,k5,λi y hy=>by
    obtain ⟨es,g1,g2,g3⟩:=k6 i y hy
    exact ⟨es,g1,g2,aD hD g3⟩,λh=>by cases h⟩
 |Ds e te=>exact .inr ⟨_,rfl,λX π' H' _ _=>h.2⟩
 |Aj e te kp=>exact .inr ⟨_,rfl,λX π' H' _ hD=>⟨Tu.Ep h.2 λb hb=>hD b (hb.imp id λh=>h.elim id λh=>by cases h.1),trivial⟩⟩
 |part e te=>
  refine .inr ⟨_,rfl,λX π' H' AN hD=>?_⟩
  obtain ⟨_,hf,h⟩:=h
  simp only [Aw,Fq]
  cases r with
  |none=>exact h
  |some q=>
   obtain ⟨k1,cu,ti,k2,k3,k4,k5,k6⟩:=h
   exact ⟨⟨k1.1,k1.2,λh1=>AN (by simp only [Bool.and_eq_true] at h1;exact h1.1) q rfl⟩,cu,ti,k2,k3,k4,k5,λi y hy=>by
    obtain ⟨es,g1,g2,g3⟩:=k6 i y hy
    exact ⟨es,g1,g2,aD hD g3⟩,λh=>by cases h⟩
theorem lN {D:Nat->Prop} {key:Nat->Nat} (MS: ∀i j,key i=key j->i=j) {fr:Bool} {ρ:Pi} : ∀(cs:List CK) (k:Nat) (x:CKs.den cs) (us:List Value) (H:List (Nat×OB)),Et w' D ρ k cs x us->
  (∀j,k<=j->j<k+cs.length->Ad H (key j)=none)->
  (∀l,(∀j,k<=j->j<k+cs.length->l≠key j)->Ad (Rb fr key k cs x H) l=Ad H l)/\
  (∀j,k<=j->j<k+cs.length->(Ad (Rb fr key k cs x H) (key j)=none/\ρ (Ff j)=none)\/
   ∃b',Ad (Rb fr key k cs x H) (key j)=some b'/\ ∀(X:Ctx) π' H',(fr=true-> ∀q,ρ (Ff j)=some q->X.w0.heap.size<=q.g)->(∀b,No π' b\/X.Sc b->D b)->Aw X w' π' H' (ρ (Ff j)) b')/\
  (∀π',(∀b,No π' b\/X.Sc b->D b)->(∀j,k<=j->j<k+cs.length->π' (key j)=ρ (Ff j))->Ii X w' π' (Rb fr key k cs x H) (Wi key k cs x) us)
 | [],k,x,[],H,_,_=>⟨λ_ _=>rfl,λj h1 h2=>by simp at h2;omega,λ_ _ _=>trivial⟩
 | [],_,_,_::_,_,h,_=>h.elim
 |_::_,_,_,[],_,h,_=>h.elim
 |c::r,k,x,u::us,H,h,hn=>by
  simp only [List.length_cons] at hn⊢
  simp only [Rb,Wi]
  have ud:=hn k (Nat.le_refl _) (by omega)
  have hH1: ∀l,l≠key k->Ad (xH H (key k) (qI fr c x.1)) l=Ad H l:=by
   intro l hl
   cases qI fr c x.1 with
   |some b=>exact Jw _ _ _ _ hl
   |none=>rfl
  have Ac3:Ad (xH H (key k) (qI fr c x.1)) (key k)=qI fr c x.1:=by
   cases qI fr c x.1 with
   |some b=>exact Kv _ _ _ ud
   |none=>exact ud
  generalize (xH H (key k) (qI fr c x.1))=H1 at hH1 Ac3⊢
  obtain ⟨g1,g2,g3⟩:=lN MS (fr:=fr) r (k+1) x.2 us H1 h.2 (λj h1 h2=>by
   rw [hH1 _ λe=>by have:=MS _ _ e;omega];exact hn j (by omega) (by omega))
  have RF:Ad (Rb fr key (k+1) r x.2 H1) (key k)=qI fr c x.1:=by
   rw [g1 _ λj h1 h2 e=>by have:=MS _ _ e;omega];exact Ac3
  refine ⟨λl hl=>?_,λj h1 h2=>?_,λπ' hd WC=>⟨?_,?_⟩⟩
  ·rw [g1 l λj h1 h2=>hl j (by omega) (by omega)]
   exact hH1 l (hl k (Nat.le_refl _) (by omega))
  ·rcases Nat.eq_or_lt_of_le h1 with e|h1
   ·subst e
    rw [RF]
    exact BS h.1
   ·exact g2 j h1 (by omega)
  ·have h1:=h.1
   have hpk:=WC k (Nat.le_refl _) (by omega)
   cases c with
   |Dh τ=>
    obtain ⟨cF,c1,c2⟩:=h1.2
    exact ⟨cF,by have:=aD (fr:=true) hd c1;simpa using this,c2⟩
   |row e te=>exact ⟨_,e.size,List.length x.1,RF,rfl,by simp,by rw [hpk];exact h1.1⟩
   |Ds e te=>exact ⟨_,e.size,List.length x.1,RF,rfl,by simp,by rw [hpk];exact h1.1⟩
   |Aj e te kp=>exact ⟨_,1,List.length x.1,RF,rfl,by simp,by rw [hpk];exact h1.1⟩
   |part e te=>trivial
  ·exact g3 π' hd λj h1 h2=>WC j (by omega) (by omega)
theorem BJ {ks:List Nat} {n:Nat} (h:uy ks n=true):ks.length=n/\ks.Nodup/\ ∀l∈ks,l<Ak:=by
 unfold uy at h
 simp only [Bool.and_eq_true] at h
 refine ⟨Nat.eq_of_beq_eq_true h.1,Ra h.2.1,λl hl=>?_⟩
 have:=List.all_eq_true.1 h.2.2 l hl
 simpa using this
theorem Ll {ks:List Nat} {j:Nat} (h:j<ks.length):Bt ks j=ks[j]:=by
 unfold Bt
 rw [List.getElem?_eq_getElem h]
theorem wX {ks:List Nat} (hn:ks.Nodup) (hl: ∀l∈ks,l<Ak): ∀i j,Bt ks i=Bt ks j->i=j:=by
 intro i j h
 by_cases hi:i<ks.length
 ·by_cases hj:j<ks.length
  ·rw [Ll hi,Ll hj] at h
   rcases Nat.lt_trichotomy i j with Fc|he|Fc
   ·exact absurd h (List.pairwise_iff_getElem.1 hn i j hi hj Fc)
   ·exact he
   ·exact absurd h.symm (List.pairwise_iff_getElem.1 hn j i hj hi Fc)
  ·have h1:=hl _ (List.getElem_mem hi)
   rw [Ll hi] at h
   unfold Bt at h
   rw [List.getElem?_eq_none (by omega)] at h
   simp only at h
   omega
 ·by_cases hj:j<ks.length
  ·have h1:=hl _ (List.getElem_mem hj)
   rw [Ll hj] at h
   unfold Bt at h
   rw [List.getElem?_eq_none (by omega)] at h
   simp only at h
   omega
  ·unfold Bt at h
   rw [List.getElem?_eq_none (by omega),List.getElem?_eq_none (by omega)] at h
   simp only at h
   omega
theorem Iq: ∀(H:List (Nat×OB)) (dead:List Nat) (l:Nat),Ad (Qm H dead) l=if l∈dead then none else Ad H l
 | [],dead,l=>by simp [Qm,Ad]
 |(k,b)::r,dead,l=>by
  simp only [Qm]
  have ih:=Iq r dead l
  by_cases hk:k∈dead
  ·rw [if_pos (by simpa using hk),ih]
   split
   ·rfl
   ·rename_i hl
    simp only [Ad]
    rw [if_neg (λ(e:k=l)=>hl (e▸hk))]
  ·rw [if_neg (by simpa using hk)]
   simp only [Ad]
   split
   ·rename_i e;subst e;rw [if_neg hk]
   ·exact ih
theorem mem_keys {ks:List Nat} {l:Nat} :l∈ks↔ ∃k,k<ks.length/\l=Bt ks k:=
 ⟨λh=>by obtain ⟨k,hk,e⟩:=List.getElem_of_mem h;exact ⟨k,hk,by rw [Ll hk,e]⟩,λ⟨k,hk,e⟩=>by rw [e,Ll hk];exact List.getElem_mem hk⟩
theorem Zv {tks:List (Nat×Loc)} {l:Nat} :l∈iu tks↔ ∃t∈tks,(t.1<Ak/\t.2.reads=false)/\t.2.Qc=l:=by
 unfold iu
 simp only [List.mem_map,List.mem_filter,Bool.and_eq_true,Nat.blt_eq,Bool.not_eq_true']
 exact ⟨λ⟨t,⟨h1,h2⟩,h3⟩=>⟨t,h1,h2,h3⟩,λ⟨t,h1,h2,h3⟩=>⟨t,⟨h1,h2⟩,h3⟩⟩
theorem uz {tks:List (Nat×Loc)} (h:(tks.map λt=>t.2.Qc).Nodup) {t t':Nat×Loc} (ht:t∈tks) (sy:t'∈tks) (he:t.2.Qc=t'.2.Qc):t=t':=by
 induction tks with
 |nil=>cases ht
 |cons a r ih=>
  simp only [List.map_cons] at h
  obtain ⟨h1,h2⟩:=List.nodup_cons.1 h
  rcases List.mem_cons.1 ht with rfl|ht<;>rcases List.mem_cons.1 sy with rfl|sy
  ·rfl
  ·exact (h1 (List.mem_map.2 ⟨t',sy,he.symm⟩)).elim
  ·exact (h1 (he▸List.mem_map.2 ⟨t,‹t∈r›,rfl⟩)).elim
  ·exact ih h2 ht sy
theorem Et.full {D:Nat->Prop} {ρ:Pi} : ∀(cs:List CK) (k:Nat) (x:CKs.den cs) (us:List Value),Et w D ρ k cs x us->Et w D (λl=>(ρ l).map full) k cs x us
 | [],_,_,[],h=>h
 | [],_,_,_::_,h=>h.elim
 |_::_,_,_,[],h=>h.elim
 |c::r,k,x,u::us,h=>⟨by
   have h1:=h.1
   show ao w D ((ρ (Ff k)).map _) u c x.1
   cases c with
   |Dh τ=>rw [h1.1];exact ⟨rfl,h1.2⟩
   |row e te=>cases hp:ρ (Ff k)<;>(rw [hp] at h1;exact h1)
   |Ds e te=>cases hp:ρ (Ff k)<;>(rw [hp] at h1;exact h1)
   |Aj e te kp=>cases hp:ρ (Ff k)<;>(rw [hp] at h1;exact h1)
   |part e te=>cases hp:ρ (Ff k)<;>(rw [hp] at h1;exact h1),Et.full r (k+1) x.2 us h.2⟩
theorem Et.UR {D:Nat->Prop} {ρ:Pi} : ∀(cs:List CK) (k0:Nat) (x:CKs.den cs) (us:List Value),Et w D ρ k0 cs x us-> ∀j,k0<=j->j<k0+cs.length-> ∀q,ρ (Ff j)=some q->q.Bb q.g
 | [],k0,_,_,_,j,h1,h2,_,_=>by simp at h2;omega
 |_::_,_,_,[],h,_,_,_,_,_=>h.elim
 |c::r,k0,x,u::us,ho,j,h1,h2,q,hq=>by
  rcases Nat.eq_or_lt_of_le h1 with e|h1
  ·subst e
   have:=ho.1
   cases c with
   |Dh τ=>rw [hq] at this;cases this.1
   |row e te=>rw [hq] at this;exact this.2.1.1
   |Ds e te=>rw [hq] at this;exact this.2.1
   |part e te=>rw [hq] at this;exact this.2.2.1.1
   |Aj e te kp=>rw [hq] at this;exact this.2.1
  ·exact Et.UR r (k0+1) x.2 us ho.2 j h1 (by simp at h2;omega) q hq
theorem Mr.any {D D':Nat->Prop} {r:Option Real} {e:Ty} {xs:List e.den} (hf:e.flat=true) (h:Mr w D r e xs):Mr w D' r e xs:=by
 cases r with
 |none=>exact h
 |some r=>
  obtain ⟨k1,cu,ti,k2,k3,k4,k5,k6⟩:=h
  exact ⟨k1,cu,ti,k2,k3,k4,k5,λi y hy=>by
   obtain ⟨es,g1,g2,g3⟩:=k6 i y hy
   exact ⟨es,g1,g2,Cells.flat e es y hf g3⟩⟩
theorem Et.any {D D':Nat->Prop} {ρ:Pi} : ∀(cs:List CK) (k:Nat) (x:CKs.den cs) (us:List Value),cs.all (·.flat)=true->Et w D ρ k cs x us->Et w D' ρ k cs x us
 | [],_,_,[],_,h=>h
 | [],_,_,_::_,_,h=>h.elim
 |_::_,_,_,[],_,h=>h.elim
 |c::r,k,x,u::us,hf,h=>by
  simp only [List.all_cons,Bool.and_eq_true] at hf
  refine ⟨?_,Et.any r (k+1) x.2 us hf.2 h.2⟩
  have h1:=h.1
  cases c with
  |Dh τ=>exact ⟨h1.1,Be.flat hf.1 h1.2⟩
  |row e te=>exact ⟨h1.1,Mr.any hf.1 h1.2⟩
  |Ds e te=>exact h1
  |part e te=>exact ⟨h1.1,h1.2.1,Mr.any hf.1 h1.2.2⟩
  |Aj e te kp=>exact absurd hf.1 (by simp [CK.flat])
theorem Hc.any {D D':Nat->Prop} {π:Pi} : ∀(cs:List (Bool×CK)) (k:Nat) (x:IOs.den cs),(cs.all λp=>!p.1||p.2.flat)=true->Hc w D π k cs x->Hc w D' π k cs x
 | [],_,_,_,h=>h
 |(false,_)::r,k,x,hf,h=>Hc.any r (k+1) x (by simp only [List.all_cons,Bool.and_eq_true] at hf;exact hf.2) h
 |(true, .Dh _)::r,k,x,hf,h=>Hc.any r (k+1) x (by simp only [List.all_cons,Bool.and_eq_true] at hf;exact hf.2) h
 |(true, .Aj _ _ _)::r,k,x,hf,h=>Hc.any r (k+1) x (by simp only [List.all_cons,Bool.and_eq_true] at hf;exact hf.2) h
 |(true, .row e te)::r,k,x,hf,h=>by
  simp only [List.all_cons,Bool.and_eq_true,Bool.not_true,Bool.false_or] at hf
  exact ⟨Mr.any hf.1 h.1,Hc.any r (k+1) x.2 hf.2 h.2⟩
 |(true, .Ds e te)::r,k,x,hf,h=>by
  simp only [List.all_cons,Bool.and_eq_true,Bool.not_true,Bool.false_or] at hf
  exact ⟨h.1,Hc.any r (k+1) x.2 hf.2 h.2⟩
 |(true, .part e te)::r,k,x,hf,h=>by
  simp only [List.all_cons,Bool.and_eq_true,Bool.not_true,Bool.false_or] at hf
  exact ⟨Mr.any hf.1 h.1,Hc.any r (k+1) x.2 hf.2 h.2⟩
theorem oE {tks:List (Nat×Loc)} {l:Nat} :l∈w8 tks↔ ∃t∈tks,t.2.reads=true/\t.2.Qc=l:=by
 unfold w8
 simp only [List.mem_map,List.mem_filter]
 exact ⟨λ⟨t,⟨h1,h2⟩,h3⟩=>⟨t,h1,h2,h3⟩,λ⟨t,h1,h2,h3⟩=>⟨t,⟨h1,h2⟩,h3⟩⟩
theorem Al.jb {st:St} {a:Act} (h:Al X π st a w) {f:AC->AC} (hu:f .undef= .undef) {gv:Nat->Prop} (HI: ∀b,gv b->No π b) (hb:Dg w.heap.size gv w w')
  (Su: ∀b,b<w.heap.size->No π' b->No π b)
  (Kh: ∀l r b,π' l=some r->r.Bb b->r.cl b) (YS: ∀l r b,π' l=some r->r.cl b->(X.w0.heap.size<=b\/X.gv b)/\b<w'.heap.size)
  (Ahr: ∀l l' r r' b,π' l=some r->π' l'=some r'->r.cl b->r'.cl b->l=l')
  (Tl: ∀l,Ak<=l->Ad H' l≠none->Vm (X.cg l) (π' l))
  (hac:(∀fr τ cs x,Cells w (Bg X.w0.heap.size X.Sc π fr) τ cs x->Cells w' (Bg X.w0.heap.size X.Sc π' fr) τ cs x)-> ∀c v,Dw X w π st.heap c v->Dw X w' π' H' (f c) v)
  (SF:Move X w w' π π' st.heap H' f-> ∀l b,Ad H' l=some b->Aw X w' π' H' (π' l) b)
  (FQ: ∀l,Ad H' l=none->π' l=none):
  Al X π' {tmps:=st.tmps.map (·.map f),heap:=H'} a w':=by
 have hc: ∀fr τ cs x,Cells w (Bg X.w0.heap.size X.Sc π fr) τ cs x->Cells w' (Bg X.w0.heap.size X.Sc π' fr) τ cs x:= λfr τ cs x hh=>
  Cells.Ch hb.size (λk hk hn=>hb.block k hk λhg=>hn (.inl (HI k hg))) (λk Fc hA=>hA.imp (Su k Fc) id) τ cs x hh
 have m:Move X w w' π π' st.heap H' f:=⟨hac hc,hc⟩
 refine ⟨⟨⟨hb.os.trans h.1.below.os,hb.tape.trans h.1.below.tape,hb.output.trans h.1.below.output,Nat.le_trans h.1.below.size hb.size,λk hk hn=>?_⟩,h.1.sc,Kh,YS,Ahr,Tl,λl=>?_⟩,m.CU hu h.2⟩
 ·refine (hb.block k (Nat.lt_of_lt_of_le hk h.1.below.size) λhg=>?_).trans (h.1.below.block k hk hn)
  rcases (h.1.own (HI k hg)).2 with h1|h1
  ·omega
  ·exact hn h1
 ·cases hh:Ad H' l with
  |none=>exact Cv.Nr (FQ l hh) hh
  |some b=>exact Cv.Gx (SF m l b hh) hh
def bB:Option Real->Option Real->Prop
 |none,none=>True
 |some r,some r'=>r.g=r'.g/\r.o=r'.o/\r.cap=r'.cap
 |_,_=>False
theorem bB.rfl' (r:Option Real):bB r r:=by cases r<;>simp [bB]
theorem bB.some {r:Real} {r':Option Real} (h:bB (some r) r'): ∃q,r'=some q/\r.g=q.g/\r.o=q.o/\r.cap=q.cap:=by
 cases r' with
 |none=>exact h.elim
 |some q=>exact ⟨q,rfl,h⟩
theorem bB.own {r r':Option Real} (h:bB r r') {sz off len:Nat} {v:Value} (hv:Eb r sz off len v):Eb r' sz off len v:=by
 cases r<;>cases r'<;>first|exact h.elim|skip
 ·exact hv
 ·obtain ⟨h1,h2,h3⟩:=h
  obtain ⟨ad,g1,g2,g3⟩:=hv
  exact ⟨ad,by rw [<-h3];exact g1,by rw [<-h3];exact g2,by rw [<-h1,<-h2,<-h3];exact g3⟩
structure OB.My (b b':OB):Prop where
 row: ∀sz n,b.row=some (sz,n)-> ∃n',b'.row=some (sz,n')/\n<=n'
 bJ: ∀p,b.bJ=some p->b'.bJ=some p
 qt: ∀p,b.qt=some p->b'.qt=some p
 var: ∀tid vs,b= .var tid vs-> ∃Of vs',b'= .var Of vs'
 Pb: ∀v m,b= .Pb v m-> ∃m',b'= .Pb v m'
theorem OB.My.map (f:AC->AC) (b:OB):b.My (b.map f) where
 row:= λsz n h=>⟨n,by cases b<;>exact h,Nat.le_refl _⟩
 bJ:= λp h=>by cases b<;>exact h
 qt:= λp h=>by cases b<;>exact h
 var:= λtid vs h=>by subst h;exact ⟨_,_,rfl⟩
 Pb:= λv m h=>by subst h;exact ⟨_,rfl⟩
theorem OB.My.rfl' (b:OB):b.My b where
 row:= λ_sz n h=>⟨n,h,Nat.le_refl _⟩
 bJ:= λ_p h=>h
 qt:= λ_p h=>h
 var:= λ_tid _vs h=>⟨_,_,h⟩
 Pb:= λ_v _m h=>⟨_,h⟩
theorem OB.My.trans {a b c:OB} (h:a.My b) (k:b.My c):a.My c where
 row:= λsz n hr=>by
  obtain ⟨n1,h1,h2⟩:=h.row sz n hr
  obtain ⟨n2,h3,h4⟩:=k.row sz n1 h1
  exact ⟨n2,h3,by omega⟩
 bJ:= λp hp=>k.bJ p (h.bJ p hp)
 qt:= λp hp=>k.qt p (h.qt p hp)
 var:= λtid vs hv=>by obtain ⟨t',v',h1⟩:=h.var tid vs hv;exact k.var t' v' h1
 Pb:= λv m hm=>by obtain ⟨m',h1⟩:=h.Pb v m hm;exact k.Pb v m' h1
theorem ja {f:AC->AC} {D Pt:Nat->Prop} (hf: ∀c,f c= .undef\/(f c=c/\(∀k∈c.refs,¬D k)/\ ∀k i j,c= .sub k i j\/c= .Fp k i j-> ¬Pt k)) (hp: ∀k,¬D k->bB (π k) (π' k))
  (hH: ∀k b,¬D k->Ad H k=some b-> ∃b',Ad H' k=some b'/\b.My b')
  (hg: ∀k r b,¬D k-> ¬Pt k->Ad H k=some b->b.bJ≠none->π k=some r->w'.heap[r.g]?=w.heap[r.g]?)
  (hc: ∀fr τ cs x,Cells w (Bg X.w0.heap.size X.Sc π fr) τ cs x->Cells w' (Bg X.w0.heap.size X.Sc π' fr) τ cs x): ∀c v,Dw X w π H c v->Dw X w' π' H' (f c) v:=by
 intro c v h
 rcases hf c with e|⟨e,hr,hs⟩
 ·rw [e];trivial
 rw [e]
 cases c with
 |data fr τ x=>obtain ⟨cs,h1,h2⟩:=h;exact ⟨cs,hc _ _ _ _ h1,h2⟩
 |own k off len=>
  obtain ⟨b,sz,n,h1,h0,h2,h3⟩:=h
  have hk:=hr k (by simp [AC.refs])
  obtain ⟨b',g1,g2⟩:=hH k b hk h1
  obtain ⟨n',g3,g4⟩:=g2.row sz n h0
  exact ⟨b',sz,n',g1,g3,by omega,(hp k hk).own h3⟩
 |Dv k i=>
  obtain ⟨r,tid,vs,h1,h2,h3⟩:=h
  have hk:=hr k (by simp [AC.refs])
  obtain ⟨b',g1,g2⟩:=hH k _ hk h1
  obtain ⟨Of,vs',rfl⟩:=g2.var tid vs rfl
  obtain ⟨q,q1,q2,_⟩:=(h2▸hp k hk).some
  exact ⟨q,Of,vs',g1,q1,by rw [<-q2];exact h3⟩
 |Fu k i=>
  obtain ⟨r,b,sz,n,h1,h0,h2,h3,h4⟩:=h
  have hk:=hr k (by simp [AC.refs])
  obtain ⟨b',g1,g2⟩:=hH k b hk h1
  obtain ⟨n',g3,g4⟩:=g2.row sz n h0
  obtain ⟨q,q1,q2,q3,_⟩:=(h3▸hp k hk).some
  exact ⟨q,b',sz,n',g1,g3,by omega,q1,by rw [<-q2,<-q3];exact h4⟩
 |sub k i c=>
  obtain ⟨r,b,sz,n,h1,h0,h2,h3,h4,h5⟩:=h
  have hk:=hr k (by simp [AC.refs])
  obtain ⟨b',g1,g2⟩:=hH k b hk h1
  obtain ⟨q,q1,q2,q3,_⟩:=(h2▸hp k hk).some
  exact ⟨q,b',sz,n,g1,g2.bJ _ h0,q1,h3,h4,by rw [<-q2,<-q3,World.cell?_of_block (hg k r b hk (hs k i c (.inl rfl)) h1 (by rw [h0];simp) h2)];exact h5⟩
 |Fp k i c=>
  obtain ⟨r,b,n,sz,g,o,len,cap,h1,h0,h2,h3,h4,h5,h6⟩:=h
  have hk:=hr k (by simp [AC.refs])
  obtain ⟨b',g1,g2⟩:=hH k b hk h1
  obtain ⟨q,q1,q2,q3,_⟩:=(h2▸hp k hk).some
  exact ⟨q,b',n,sz,g,o,len,cap,g1,g2.qt _ h0,q1,h3,h4,by rw [<-q2,<-q3,World.cell?_of_block (hg k r b hk (hs k i c (.inr rfl)) h1 (by cases b<;>first|(cases h0;done)|simp [OB.bJ]) h2)];exact h5,h6⟩
 |clo g Bv=>
  obtain ⟨us,h1,h2,h3⟩:=h
  refine ⟨us,h1,h2,λj p hpj=>?_⟩
  obtain ⟨r,tid,vs,h4,h5,h6⟩:=h3 j p hpj
  have hk:=hr p.1 (by simp only [AC.refs,List.mem_map];exact ⟨p,List.mem_of_getElem? hpj,rfl⟩)
  obtain ⟨b',g1,g2⟩:=hH p.1 _ hk h4
  obtain ⟨Of,vs',rfl⟩:=g2.var tid vs rfl
  obtain ⟨q,q1,q2,_⟩:=(h5▸hp p.1 hk).some
  exact ⟨q,Of,vs',g1,q1,by rw [<-q2];exact h6⟩
 |Ga k=>
  obtain ⟨r,vt,m,h1,h2,h3⟩:=h
  have hk:=hr k (by simp [AC.refs])
  obtain ⟨b',g1,g2⟩:=hH k _ hk h1
  obtain ⟨m',rfl⟩:=g2.Pb vt m rfl
  obtain ⟨q,q1,q2,_⟩:=(h2▸hp k hk).some
  exact ⟨q,vt,m',g1,q1,by rw [<-q2];exact h3⟩
 |_=>exact h
theorem Ok (H0:List (Nat×OB)) (ls:List Nat) (n:Nat): ∀(H:List (Nat×OB)) (l:Nat),Ad (Yp H0 ls n H) l=(Ad H l).map λb=>if ls.contains l then b.yN (We n (ZP (Ad H0 l))) else b
 | [],_=>rfl
 |(k,b)::r,l=>by
  simp only [Yp,Ad]
  split
  ·rename_i e;subst e;rfl
  ·exact Ok H0 ls n r l
theorem OB.vu (b:OB) (kp:Option (Nat×Nat)):b.My (b.yN kp):=by
 cases b with
 |Aj e te rows out kp0=>exact ⟨λsz n h=>⟨n,h,Nat.le_refl _⟩,λp h=>h,λp h=>h,(λ_ _ h=>by cases h),(λ_ _ h=>by cases h)⟩
 |_=>exact OB.My.rfl' _
theorem bq (ls:List Nat): ∀(l m:List AV) (t:Nat),l.length=m.length->(∃k i c,l.getD t .undef= .at (.sub k i c)/\ls.contains k=true/\(Gz ls l m).getD t .undef= .at (.sub k i c))\/(Gz ls l m).getD t .undef=m.getD t .undef
 | [],m,t,_=>by cases m<;>exact .inr rfl
 |_::_,[],t,h=>by simp at h
 |a::l,v::m,t,h=>by
  have ih:= λt=>bq ls l m t (by simpa using h)
  have tail: ∀u,Gz ls (a::l) (v::m)=u::Gz ls l m->(t=0->(∃k i c,(a::l).getD t .undef= .at (.sub k i c)/\ls.contains k=true/\u= .at (.sub k i c))\/u=v)->
    (∃k i c,(a::l).getD t .undef= .at (.sub k i c)/\ls.contains k=true/\(Gz ls (a::l) (v::m)).getD t .undef= .at (.sub k i c))\/(Gz ls (a::l) (v::m)).getD t .undef=(v::m).getD t .undef:=by
   intro u e h0
   rw [e]
   rcases t with _|t
   ·rcases h0 rfl with ⟨k,i,c,h1,h2,h3⟩|h3
    ·exact .inl ⟨k,i,c,h1,h2,by simpa using h3⟩
    ·exact .inr (by simpa using h3)
   ·simpa only [List.getD_cons_succ] using ih t
  cases a with
  | «at»c=>
   cases c with
   |sub k i c=>
    refine tail _ rfl λht=>?_
    subst ht
    by_cases hc:ls.contains k=true
    ·exact .inl ⟨k,i,c,rfl,hc,by rw [if_pos hc]⟩
    ·exact .inr (by rw [if_neg hc])
   |_=>exact tail _ rfl λ_=> .inr rfl
  |_=>exact tail _ rfl λ_=> .inr rfl
theorem pM {H:List (Nat×OB)} {ls:List Nat} {n:Nat} : ∀ {l:List AV} {t k i c:Nat},Yw H ls n l=true->l.getD t .undef= .at (.sub k i c)->ls.contains k=true->i<n/\i<mT H k
 | [],t,k,i,c,_,h,_=>by simp at h
 |a::l,0,k,i,c,ho,h,hc=>by
  simp only [List.getD_cons_zero] at h
  subst h
  simp only [Yw,hc,Bool.not_true,Bool.false_or,Bool.and_eq_true,Nat.blt_eq] at ho
  exact ho.1
 |a::l,t+1,k,i,c,ho,h,hc=>by
  refine pM (l:=l) (t:=t) (c:=c) ?_ (by simpa only [List.getD_cons_succ] using h) hc
  cases a with
  | «at»d=>cases d with
   |sub _ _ _=>simp only [Yw,Bool.and_eq_true] at ho;exact ho.2
   |_=>exact ho
  |_=>exact ho
theorem BG {bV st:St} {a:Act} (h0:Al X π bV a w) (h:Al X π' st a w') {ls:List Nat} {n:Nat} (hk: ∀l∈ls,rW w w' (π l) (π' l) n) (o5: ∀l∈ls,iQ bV.heap l=true)
  (eS:Yw st.heap ls n bV.tmps=true):Al X π' (gC bV st ls n) a w'/\ ∀c v,An X w' π' st.heap c v->An X w' π' (gC bV st ls n).heap c v:=by
 by_cases wv:ls= []
 ·subst wv;exact ⟨h,λ_ _ h=>h⟩
 have Tx:gC bV st ls n= {tmps:=Gz ls bV.tmps st.tmps,heap:=Yp bV.heap ls n st.heap} :=by
  cases ls with
  |nil=>exact absurd rfl wv
  |cons _ _=>rfl
 rw [Tx]
 have LD: ∀l∈ls,∃e te rows out kp,Ad bV.heap l=some (.Aj e te rows out kp):= λl hl=>by
  have:=o5 l hl
  unfold iQ at this
  split at this
  ·exact ⟨_,_,_,_,_,by assumption⟩
  ·cases this
 have srv: ∀k b,Ad st.heap k=some b-> ∃b',Ad (Yp bV.heap ls n st.heap) k=some b'/\b.My b':= λk b hb=>by
  rw [Ok,hb]
  refine ⟨_,rfl,?_⟩
  dsimp only
  split
  ·exact OB.vu b _
  ·exact OB.My.rfl' b
 have hac:(∀fr τ cs x,Cells w' (Bg X.w0.heap.size X.Sc π' fr) τ cs x->Cells w' (Bg X.w0.heap.size X.Sc π' fr) τ cs x)-> ∀c v,Dw X w' π' st.heap c v->Dw X w' π' (Yp bV.heap ls n st.heap) c v:= λhc=>
  ja (f:= λc=>c) (D:= λ_=>False) (Pt:= λ_=>False) (λc=> .inr ⟨rfl,λ_ _ h=>h,λ_ _ _ _ h=>h⟩) (λk _=>bB.rfl' _) (λk b _ hb=>srv k b hb) (λ_ _ _ _ _ _ _ _=>rfl) hc
 have h1:Al X π' {tmps:=st.tmps.map (·.map λc=>c),heap:=Yp bV.heap ls n st.heap} a w':=by
  refine h.jb rfl (gv:= λ_=>False) (λ_ hf=>hf.elim) (Dg.refl _ _ _) (λ_ _ ho=>ho) h.1.sub h.1.place h.1.inj (λl hl Fa=>h.1.cg l hl λh2=>Fa (by rw [Ok,h2];rfl)) hac (λm l b hb=>?_) (λl hl=>?_)
  ·rw [Ok] at hb
   cases h2:Ad st.heap l with
   |none=>rw [h2] at hb;cases hb
   |some b0=>
    rw [h2] at hb
    simp only [Option.map_some,Option.some.injEq] at hb
    have hbk:=(h.1.heap l).Ku h2
    have zB:=hbk.move m (Nat.le_refl _) (λr0 c h0 h1=>h.1.sub _ r0 c h0 h1) λ_ _ _ _ _=>rfl
    rw [show OB.map (λc=>c) b0=b0 from OB.yb b0] at zB
    split at hb
    ·rename_i hc
     have hl:l∈ls:=by simpa using hc
     cases b0 with
     |Aj e te rows out kp=>
      simp only [OB.yN] at hb
      subst hb
      refine ⟨zB.1,?_⟩
      obtain ⟨e0,te0,WM,Aja,kp0,hg⟩:=LD l hl
      have ud:=((h0.1.heap l).Ku hg).2
      rw [hg]
      simp only [ZP]
      have qy:=hk l hl
      cases kp0 with
      |none=>trivial
      |some p=>
       obtain ⟨l0,n0⟩:=p
       simp only [KeptAt,We] at ud⊢
       cases uh:X.cg l0 with
       |none=>
        cases hp:π l with
        |none=>
         rw [hp] at qy
         cases iM:π' l with
         |none=>trivial
         |some q=>rw [iM] at qy;exact qy.elim
        |some q=>rw [uh,hp] at ud;exact ud.elim
       |some r0=>
        cases hp:π l with
        |none=>rw [uh,hp] at ud;exact ud.elim
        |some q=>
         rw [uh,hp] at ud
         rw [hp] at qy
         cases iM:π' l with
         |none=>rw [iM] at qy;exact qy.elim
         |some q'=>
          rw [iM] at qy
          obtain ⟨k1,k2,k3,k4⟩:=qy
          obtain ⟨g1,g2,g3,g4⟩:=ud
          refine ⟨k1.trans g1,k2.trans g2,k3.trans g3,λj hj hc=>?_⟩
          have e1:=g4 j (by omega) hc
          have e2:=k4 j (by omega) (by omega)
          rw [g1,g2] at e2
          rw [<-e1,e2]
     |_=>simp only [OB.yN] at hb;subst hb;exact zB
    ·subst hb;exact zB
  ·rw [Ok] at hl
   cases h2:Ad st.heap l with
   |none=>exact (h.1.heap l).emp h2
   |some b=>rw [h2] at hl;cases hl
 have FL: ∀c v,An X w' π' st.heap c v->An X w' π' (Yp bV.heap ls n st.heap) c v:= λc v hv=>by
  have m:Move X w' w' π' π' st.heap (Yp bV.heap ls n st.heap) (λc=>c):=⟨hac λ_ _ _ _ h=>h,λ_ _ _ _ h=>h⟩
  have:=m.av hv
  rwa [AC.map_id] at this
 refine ⟨⟨h1.1,⟨?_,h.2.defers,λt=>?_⟩⟩,FL⟩
 ·have: ∀(l m:List AV),(Gz ls l m).length=m.length:=by
   intro l
   induction l with
   |nil=>intro m;cases m<;>rfl
   |cons a l ih=>
    intro m
    cases m with
    |nil=>cases a with
     | «at»c=>cases c<;>rfl
     |_=>rfl
    |cons v m=>cases a with
     | «at»c=>cases c<;>simp only [Gz,List.length_cons,ih m]
     |_=>simp only [Gz,List.length_cons,ih m]
  show a.tmps.size=(Gz ls bV.tmps st.tmps).length
  rw [this];exact h.2.size
 ·show An X w' π' _ ((Gz ls bV.tmps st.tmps).getD t .undef) _
  rcases bq ls bV.tmps st.tmps t (by rw [<-h0.2.size,<-h.2.size]) with ⟨k,i,c,g1,g2,g3⟩|g
  ·rw [g3]
   have Ma:k∈ls:=by simpa using g2
   obtain ⟨i1,i2⟩:=pM eS g1 g2
   have hv:=h0.2.tmps t
   rw [show bV.get t=_ from g1] at hv
   obtain ⟨r,b,sz,n',e1,e2,e3,e4,⟨e5,e6⟩,e7⟩:=hv
   obtain ⟨e0,te0,WM,Aja,kp0,hg⟩:=LD k Ma
   rw [hg] at e1;cases e1
   simp only [OB.bJ,Option.some.injEq,Prod.mk.injEq] at e2
   obtain ⟨rfl,rfl⟩:=e2
   have qy:=hk k Ma
   rw [e3] at qy
   cases iM:π' k with
   |none=>rw [iM] at qy;exact qy.elim
   |some q'=>
    rw [iM] at qy
    obtain ⟨k1,k2,k3,k4⟩:=qy
    have o4:WM.length<=r.cap:=by
     have:=((h0.1.heap k).Ku hg).1
     rw [e3] at this
     obtain ⟨_,_,_,_,_,_,h5,_⟩:=this
     exact h5
    unfold mT at i2
    split at i2
    ·rename_i e9 te9 Aee Aop kp9 hg9
     refine ⟨q',_,1,Aee.length,by rw [Ok,hg9];rfl,?_,iM,i2,⟨e5,e6⟩,?_⟩
     ·dsimp only
      split<;>rfl
     ·have fj:c=0:=by omega
      subst fj
      rw [k1,k2]
      rw [Nat.mul_one,Nat.add_zero] at e7⊢
      rw [k4 i i1 (by omega)];exact e7
    ·omega
  ·rw [g]
   exact FL _ _ (h.2.tmps t)
theorem kO {ins:List (Bool×CK)} {as:List AC} {pl:List Nat} {st:St} :(mr ins as pl st).tmps=st.tmps:=by
 unfold mr
 split
 ·rfl
 ·split<;>rfl
theorem DA {ins:List (Bool×CK)} {as:List AC} {pl:List Nat} {st:St} {m:Nat} (hm:m∉pl):Ad (mr ins as pl st).heap m=Ad st.heap m:=by
 unfold mr
 split
 ·rfl
 ·rename_i l r
  split
  ·exact Bs _ _ _ _ λe=>hm (e▸List.mem_cons_self)
  ·rfl
theorem JK {ins:List (Bool×CK)} {as:List AC} {l:Nat} {st:St} {tid:TypeId} {vs:List AC} (hl:Ad st.heap l=some (.var tid vs)):Ad (mr ins as [l] st).heap l=some (.var tid (bR ins vs as)):=by
 simp only [mr,St.at,hl]
 exact Cd _ _ _ _ hl
theorem sX {α:Type} (ins:List (Bool×CK)) (as:List α):bR ins [] as= []:=by
 rcases ins with _|⟨⟨_|_,c⟩,r⟩<;>rfl
theorem kF {α:Type} : ∀(ins:List (Bool×CK)) (vs as:List α),(bR ins vs as).length=vs.length
 | [],vs,as=>by rw [bR];all_goals simp
 |p::r,[],as=>by rw [sX]
 |(true,c)::r,v::vs,as=>by simp only [bR,List.length_cons,kF r vs as]
 |(false,c)::r,v::vs,[]=>by rw [bR];all_goals simp
 |(false,c)::r,v::vs,a::as=>by simp only [bR,List.length_cons,kF r vs as]
theorem JB {st:St} {a:Act} (h:Al X π st a w) {s:MSpec} {ij:List AV} {vs:List Value} (hlen:ij.length=vs.length) (FL: ∀(i:Nat) c v,ij[i]?=some c->vs[i]?=some v->An X w π st.heap c v)
  {pl:List Nat} {cells:List AC} {rest:List AV} (he:GF st s ij=some (pl,cells,rest)):
  ∃(g:Nat) (UQ tz:List Value),rest.length=tz.length/\(∀(i:Nat) c v,rest[i]?=some c->tz[i]?=some v->An X w π st.heap c v)/\Ii X w π st.heap cells UQ/\
   ((s.ptr=none/\pl= []/\cells= []/\UQ= []/\vs=tz)\/
    ∃p l q,s.ptr=some p/\pl= [l]/\π l=some q/\q.Bb q.g/\g=q.g/\Ad st.heap l=some (.var p.1 cells)/\cells.length=p.2/\vs= .pointer (some ⟨g,0,none⟩)::tz/\w.heap[g]?=some (.cells UQ.toArray p.1 (0,0))/\Cy X w π st.heap cells UQ):=by
 unfold GF at he
 split at he
 ·rename_i hp
  simp only [Option.some.injEq,Prod.mk.injEq] at he
  obtain ⟨rfl,rfl,rfl⟩:=he
  exact ⟨0,[],vs,hlen,FL,trivial, .inl ⟨hp,rfl,rfl,rfl,rfl⟩⟩
 ·rename_i p hp
  split at he
  ·rename_i l i Ald
   split at he
   ·rename_i tid cs hl
    split at he
    ·rename_i hc
     obtain ⟨rfl,hc,rfl⟩:=hc
     simp only [Option.some.injEq,Prod.mk.injEq] at he
     obtain ⟨rfl,rfl,rfl⟩:=he
     unfold St.at at hl
     cases vs with
     |nil=>simp at hlen
     |cons v vs=>
      obtain ⟨r,Of,vs',h1,h2,rfl⟩:=FL 0 _ v rfl rfl
      rw [hl] at h1;cases h1
      obtain ⟨r',h3,h4,cur,h5,h6⟩:=(h.1.heap l).Ku hl
      rw [h2] at h3;cases h3
      exact ⟨r.g,cur.toList,vs,by simpa using hlen,λi c v h7 h8=>FL (i+1) c v (by simpa using h7) (by simpa using h8),Ii.of h6, .inr ⟨p,l,r,hp,rfl,h2,h4,rfl,hl,hc,rfl,by simpa using h5,h6⟩⟩
    ·cases he
   ·cases he
  ·cases he
theorem eA {V:List Nat} {πc:Pi} {dead part:List Nat} (WC: ∀l,l∉dead->π' l=π l) (Gh: ∀l b sz n,l∉dead->Ad H l=some b->b.row=some (sz,n)-> ∃b',Ad H' l=some b'/\b'.row=some (sz,n)):
  ∀(ins:List (Bool×CK)) (k:Nat) (cells jE:List AC) (x:Ins.den ins) (us:List Value) (o:IOs.den ins) (cur st1:St) (news:List AC) (Mb cs:List Value),m7 X w π V H πc k ins x (cells++jE) us->Po ins cells=true->
   Ef ins o (cells++jE) cur=some st1->Cc πc k ins o cells.length cs Mb->Ii X w' π' H' news Mb->Ii X w' π' H' (bR ins (cells.map (Ba dead part)) news) cs
 |ins,k,[],jE,x,us,o,cur,st1,news,Mb,cs,_,_,_,hb,_=>by
  have hb:cs= []:=by rcases ins with _|⟨⟨_|_,c⟩,r⟩<;>(try cases c)<;>simpa [Cc] using hb
  rw [hb,List.map_nil,sX]
  trivial
 | [],k,a::cells,jE,x,us,o,cur,st1,news,Mb,cs,_,hk,_,_,_=>by simp [Po] at hk
 |(true, .Dh τ)::r,k,a::cells,jE,x,us,o,cur,st1,news,Mb,cs,_,hk,_,_,_=>by simp [Po] at hk
 |(true, .part e te)::r,k,a::cells,jE,x,us,o,cur,st1,news,Mb,cs,_,hk,_,_,_=>by simp [Po] at hk
 |(true, .Aj e te _)::r,k,a::cells,jE,x,us,o,cur,st1,news,Mb,cs,_,hk,_,_,_=>by simp [Po] at hk
 |(true, .row e te)::r,k,a::cells,jE,x,us,o,cur,st1,news,Mb,cs,ht,hk,hp,hb,hn=>by
  cases a<;>simp only [Po,Bool.false_eq_true] at hk
  rename_i l off len
  cases us with
  |nil=>exact ht.elim
  |cons u0 us=>
  cases cs with
  |nil=>exact hb.elim
  |cons u cs=>
  obtain ⟨⟨_,h1⟩,h2⟩:=ht
  simp only [Nh] at h1
  obtain ⟨h3,rfl,rfl,fr,tr,h4⟩:=h1
  obtain ⟨h5,h6⟩:=hb
  simp only [List.cons_append,Ef] at hp
  split at hp
  rotate_left
  ·cases hp
  rename_i Tk YR
  have HJ:List.length o.1=List.length x.1:=by
   simp only [Wy] at YR
   repeat' split at YR
   all_goals first|(cases YR;done)|(rename_i hc;exact hc.2.1)
  refine ⟨?_,eA WC Gh r (k+1) cells jE x.2 us o.2 Tk st1 news Mb cs h2 hk hp h6 hn⟩
  by_cases hd:l∈dead
  ·have:Ba dead part (.own l 0 (List.length x.1))= .undef:=by
    unfold Ba
    rw [if_pos (by simp [AC.refs,hd])]
   rw [this];trivial
  ·rw [Xj (by simpa [AC.refs] using hd) (by intro l i j e;rcases e with e|e<;>cases e)]
   obtain ⟨b',g1,g2⟩:=Gh l _ e.size (List.length x.1) hd h4 rfl
   refine ⟨b',e.size,List.length x.1,g1,g2,by omega,?_⟩
   rw [WC l hd]
   rw [h3,HJ] at h5
   cases hp:π l<;>(rw [hp] at h5;exact h5)
 |(true, .Ds e te)::r,k,a::cells,jE,x,us,o,cur,st1,news,Mb,cs,ht,hk,hp,hb,hn=>by
  cases a<;>simp only [Po,Bool.false_eq_true] at hk
  rename_i l off len
  cases us with
  |nil=>exact ht.elim
  |cons u0 us=>
  cases cs with
  |nil=>exact hb.elim
  |cons u cs=>
  obtain ⟨⟨_,h1⟩,h2⟩:=ht
  simp only [Nh] at h1
  obtain ⟨h3,rfl,rfl,h4⟩:=h1
  obtain ⟨h5,h6⟩:=hb
  simp only [List.cons_append,Ef] at hp
  split at hp
  rotate_left
  ·cases hp
  rename_i Tk YR
  have HJ:List.length o.1=List.length x.1:=by
   simp only [Wy] at YR
   repeat' split at YR
   all_goals first|(cases YR;done)|(rename_i hc;exact hc.2.1)
  refine ⟨?_,eA WC Gh r (k+1) cells jE x.2 us o.2 Tk st1 news Mb cs h2 hk hp h6 hn⟩
  by_cases hd:l∈dead
  ·have:Ba dead part (.own l 0 (List.length x.1))= .undef:=by
    unfold Ba
    rw [if_pos (by simp [AC.refs,hd])]
   rw [this];trivial
  ·rw [Xj (by simpa [AC.refs] using hd) (by intro l i j e;rcases e with e|e<;>cases e)]
   obtain ⟨b',g1,g2⟩:=Gh l _ e.size (List.length x.1) hd h4 rfl
   refine ⟨b',e.size,List.length x.1,g1,g2,by omega,?_⟩
   rw [WC l hd]
   rw [h3,HJ] at h5
   cases hp:π l<;>(rw [hp] at h5;exact h5)
 |(false,c)::r,k,a::cells,jE,x,[],o,cur,st1,news,Mb,cs,ht,hk,hp,hb,hn=>ht.elim
 |(false,c)::r,k,a::cells,jE,x,u0::us,o,cur,st1,news,Mb,[],ht,hk,hp,hb,hn=>by cases c<;>exact hb.elim
 |(false,c)::r,k,a::cells,jE,x,u0::us,o,cur,st1,news,[],u::cs,ht,hk,hp,hb,hn=>by cases c<;>exact hb.elim
 |(false,c)::r,k,a::cells,jE,x,u0::us,o,cur,st1,[],u'::Mb,u::cs,ht,hk,hp,hb,hn=>hn.elim
 |(false,c)::r,k,a::cells,jE,x,u0::us,o,cur,st1,na::news,u'::Mb,u::cs,ht,hk,hp,hb,hn=>by
  have QZ:u=u'/\Cc πc (k+1) r o cells.length cs Mb:=by cases c<;>exact hb
  obtain ⟨rfl,XS⟩:=QZ
  have hp:Ef r o (cells++jE) cur=some st1:=by cases c<;>simpa only [List.cons_append,Ef] using hp
  have hk:Po r cells=true:=by cases c<;>simpa only [Po] using hk
  exact ⟨hn.1,eA WC Gh r (k+1) cells jE x.2 us o cur st1 news Mb cs ht.2 hk hp XS hn.2⟩
theorem zb {V:List Nat} {πc:Pi} : ∀(cs:List (Bool×CK)) (k0:Nat) (x:Ins.den cs) (as:List AC) (us:List Value),k0+cs.length<100000->m7 X w π V H πc k0 cs x as us-> ∀k l,(Bl false k,Loc.row l)∈Ha k0 cs as->πc (Bl false k)=(π l).map full
 | [],_,_,[],_,_,_,_,_,h=>by cases h
 | [],_,_,_::_,_,_,_,_,_,h=>by cases h
 |_::_,_,_,[],_,_,_,_,_,h=>by cases h
 |_::_,_,_,_::_,[],_,h,_,_,_=>h.elim
 |(io,c)::r,k0,x,a::as,u::us,hk,h,k,l,ht=>by
  simp only [List.length_cons] at hk
  simp only [Ha] at ht
  rcases List.mem_append.1 ht with ht|ht
  ·obtain ⟨⟨_,h1⟩,_⟩:=h
   cases c with
   |Dh τ=>cases a<;>simp [Ks,views] at ht
   |row e te=>
    cases a<;>simp [Ks] at ht
    obtain ⟨e1,rfl⟩:=ht
    simp only [Nh] at h1
    rw [e1];exact h1.1
   |Ds e te=>
    cases a<;>simp [Ks] at ht
    obtain ⟨e1,rfl⟩:=ht
    simp only [Nh] at h1
    rw [e1];exact h1.1
   |part e te=>
    cases a<;>simp [Ks] at ht
    obtain ⟨e1,rfl⟩:=ht
    simp only [Nh] at h1
    rw [e1];exact h1.2.1
   |Aj e te kp=>
    cases a<;>simp [Ks] at ht
    obtain ⟨e1,rfl⟩:=ht
    simp only [Nh] at h1
    rw [e1];exact h1.2.1
  ·exact zb r (k0+1) x.2 as us (by omega) h.2 k l ht
theorem m8 {st:St} {a:Act} (h:Al X π st a w) {f:FuncId} {s:MSpec} (hs:Au P f s) (dst:Option Nat) (ij:List AV) (vs:List Value) (hlen:ij.length=vs.length)
  (FL: ∀(i:Nat) c v,ij[i]?=some c->vs[i]?=some v->An X w π st.heap c v) (av:AV) (st':St) (he:Qp st dst s ij=some (av,st')):
  Calls P f vs.toArray w λe w'=> ∃v,e= .returned v/\ ∃π',Al X π' st' a w'/\An X w' π' st'.heap av v:=by
 unfold Qp at he
 split at he
 ·cases he
 rename_i pl cells rest Aid
 split at he
 ·cases he
 rename_i jE LH
 split at he
 ·cases he
 rename_i x tks htk
 split at he
 rotate_left
 ·cases he
 rename_i Fe
 simp only [Bool.and_eq_true,Nat.blt_eq] at Fe
 obtain ⟨⟨⟨⟨RL,oa⟩,hon⟩,cT⟩,Aco,HN⟩:=Fe
 have HN: ∀l∈pl,l∉(tks.map λt=>t.2.Qc)/\l∉Md s tks (dst.getD 0):= λl hl=>by
  have:=List.all_eq_true.1 HN l hl
  simp only [Bool.not_eq_true',<-Bool.not_eq_true,List.contains_iff_mem] at this
  exact ⟨λhm=>this (List.mem_append_left _ hm),λhm=>this (List.mem_append_right _ hm)⟩
 split at he
 ·cases he
 rename_i r o MO
 split at he
 ·cases he
 rename_i st1 YU
 obtain ⟨g,UQ,tz,Acp,Ah7,Aig,Ww⟩:=JB h hlen FL Aid
 obtain ⟨rG,rfl,zF,Aif⟩:=Te s.Fk rest tz jE Acp Ah7 LH
 have YX:=Aig.append Aif
 have Lf:jJ s w g (UQ++rG) vs:=by
  unfold jJ
  rcases Ww with ⟨h1,_,_,h2,h3⟩|⟨p,l,q,h1,_,_,_,_,_,h2,h3,h4,h5⟩
  ·rw [h1];subst h2;exact ⟨h3,zF⟩
  ·rw [h1]
   have hl:UQ.length=p.2:=h5.1.trans h2
   simp only
   rw [List.drop_append_of_le_length (by omega),List.take_append_of_le_length (by omega),List.take_of_length_le (by omega),List.drop_of_length_le (by omega)]
   refine ⟨h3,zF,by simp;omega,h4,λu hu=>?_⟩
   obtain ⟨i,hi,rfl⟩:=List.mem_iff_getElem.1 hu
   obtain ⟨u',h6,h7,_⟩:=h5.2 i (cells[i]'(by have:=h5.1;omega)) (List.getElem?_eq_getElem _)
   rw [List.getElem?_eq_getElem hi] at h6
   rw [Option.some.inj h6];exact h7
 have HO: ∀l∈pl,∃p q,s.ptr=some p/\pl= [l]/\π l=some q/\q.Bb q.g/\g=q.g/\Ad st.heap l=some (.var p.1 cells)/\cells.length=p.2:= λl hl=>by
  rcases Ww with ⟨_,h1,_⟩|⟨p,l',q,h1,h2,h3,h4,h5,h6,h7,_⟩
  ·rw [h1] at hl;cases hl
  ·rw [h2] at hl
   have:=List.mem_singleton.1 hl
   subst this
   exact ⟨p,q,h1,h2,h3,h4,h5,h6,h7⟩
 have HI: ∀b,s.gv g b-> ∃l∈pl,∃q,π l=some q/\q.Bb b/\b=q.g:= λb ⟨h1,h2⟩=>by
  rcases Ww with ⟨h3,_⟩|⟨p,l',q,_,h4,h5,h6,h7,_⟩
  ·rw [h3] at h1;cases h1
  ·exact ⟨l',by rw [h4];exact List.mem_singleton.2 rfl,q,h5,by rw [h2,h7];exact h6,h2.trans h7⟩
 obtain ⟨as,has⟩: ∃as,as=cells++jE:=⟨_,rfl⟩
 obtain ⟨us,NB⟩: ∃us,us=UQ++rG:=⟨_,rfl⟩
 rw [<-has] at YX htk YU
 rw [<-NB] at YX Lf
 let V:=(tks.filter λt=>t.2.reads).map λt=>t.2.Qc
 have hV: ∀t∈tks,t.2.reads=true->t.2.Qc∈V:= λt ht hr=>List.mem_map.2 ⟨t,List.mem_filter.2 ⟨ht,hr⟩,rfl⟩
 have hV': ∀l∈V,∃t∈tks,t.2.reads=true/\t.2.Qc=l:= λl hl=>by
  obtain ⟨t,h1,h2⟩:=List.mem_map.1 hl
  exact ⟨t,(List.mem_filter.1 h1).1,(List.mem_filter.1 h1).2,h2⟩
 clear_value V
 obtain ⟨QY,πc,hT,MK,Ahp,Pn⟩:=pR h.1 (V:=V) s.ins 0 as us x tks (by omega) YX htk hV
 have AQ:=Ra RL
 rw [QY] at AQ
 have Su: ∀b,No πc b-> ∃t∈Ha 0 s.ins as,t.2.reads=false/\ ∃q,π t.2.Qc=some q/\q.Bb b/\ ∀l i j,t.2= .sub l i j->b≠q.g:= λb ⟨c,q,h1,h2⟩=>by
  obtain ⟨t,t1,_,t3⟩:=Pn c q b h1 h2
  exact ⟨t,t1,t3⟩
 have AT: ∀b,No πc b->No π b:= λb hb=>let ⟨t,_,_,q,h1,h2,_⟩:=Su b hb;⟨_,q,h1,h2⟩
 have eo:ar πc (λb=>b<w.heap.size):=⟨λl q b h1 h2=>(h.1.own (AT b ⟨l,q,h1,h2⟩)).1,λl l' q q' b h1 h2 h3 h4=>by
  obtain ⟨t,t1,t2,_,p,t3,t4,_⟩:=Pn l q b h1 h3
  obtain ⟨t',TV,t2',_,p',t3',t4',_⟩:=Pn l' q' b h2 h4
  have:=uz AQ t1 TV (h.1.apart t3 t3' t4 t4')
  rw [<-t2,<-t2',this]⟩
 have Ac6: ∀k l,(Bl false k,Loc.row l)∈Ha 0 s.ins as->πc (Bl false k)=(π l).map full:= λk l ht=>
  zb s.ins 0 x as us (by omega) hT k l ht
 have Adn: ∀b,No πc b->Ji X π V b:= λb hb=> .inl ⟨AT b hb,λl hl r' hr hf=>by
  obtain ⟨t,t1,t0,q,t3,t4,_⟩:=Su b hb
  obtain ⟨t',TV,t2',rfl⟩:=hV' l hl
  rw [QY] at TV
  have:=uz AQ t1 TV (h.1.apart t3 hr t4 hf)
  subst this
  rw [t0] at t2';cases t2'⟩
 let S:Nat->Prop:= λb=> ¬No πc b/\Ji X π V b
 have hS: ∀b,S b->b<w.heap.size/\ ¬No πc b:= λb hb=>⟨by
  rcases hb.2 with h1|h1
  ·exact (h.1.own h1.1).1
  ·exact Nat.lt_of_lt_of_le (h.1.sc b h1).1 h.1.below.size,hb.1⟩
 have SR: ∀l∈pl,∀t∈Ha 0 s.ins as,t.2.Qc≠l:= λl hl t ht e=>(HN l hl).1 (List.mem_map.2 ⟨t,QY▸ht,e⟩)
 have hSg:s.ptr.isSome=true->S g:= λhps=>by
  obtain ⟨l,hl,q,h1,h2,h3⟩:=HI g ⟨hps,rfl⟩
  have SO: ¬No πc g:= λhb=>by
   obtain ⟨t,t1,_,q',t3,t4,_⟩:=Su g hb
   exact SR l hl t t1 (h.1.apart t3 h1 t4 h2)
  refine ⟨SO, .inl ⟨⟨l,q,h1,h2⟩,λl' Ge r' al hf=>?_⟩⟩
  obtain ⟨t',TV,_,rfl⟩:=hV' l' Ge
  rw [QY] at TV
  exact SR l hl t' TV (h.1.apart al h1 hf h2)
 refine (hs.calls w S πc us x r o g vs Lf hSg (aq.Ep (λb hb=>hb.elim (Adn b) λh=>h.2) s.ins 0 x us (hT.Adu s.ins 0 x as us)) eo hS Ahp MO).mono ?_
 rintro e w' ⟨v,Mb,wB,rfl,aM,so,SE,uc,Acy,MW,ZK,sx⟩
 obtain ⟨ρ,SZ,AS,MV,VG⟩: ∃ρ:Pi,(∀l,ρ l=(wB l).map full)/\Et w' (c6 S πc wB) ρ 0 s.outs r Mb/\ar ρ (λb=>b<w'.heap.size/\(w.heap.size<=b\/ ∃l q,l<Ak/\πc l=some q/\q.Bb b))/\ ∀l q,ρ l=some q->q.cl=q.Bb:=by
  have un: ∀l q,(wB l).map full=some q-> ∃q0,wB l=some q0/\q=full q0:= λl q hq=>by
   cases hp:wB l with
   |none=>rw [hp] at hq;cases hq
   |some q0=>rw [hp] at hq;exact ⟨q0,rfl,(Option.some.inj hq).symm⟩
  refine ⟨λl=>(wB l).map full,λ_=>rfl,Et.full s.outs 0 r Mb Acy,⟨λl q b h1 h2=>?_,λl l' q q' b h1 h2 h3 h4=>?_⟩,λl q h1=>?_⟩
  ·obtain ⟨q0,h5,rfl⟩:=un l q h1
   exact MW.Ue l q0 b h5 h2
  ·obtain ⟨q0,h5,rfl⟩:=un l q h1
   obtain ⟨q0',h6,rfl⟩:=un l' q' h2
   exact MW.inj l l' q0 q0' b h5 h6 h3 h4
  ·obtain ⟨q0,_,rfl⟩:=un l q h1
   rfl
 refine ⟨v,rfl,?_⟩
 split at he
 ·cases he
 rename_i av0 cU
 split at he
 rotate_left
 ·cases he
 rename_i Kh
 simp only [Option.some.injEq,Prod.mk.injEq] at he
 obtain ⟨rfl,rfl⟩:=he
 let D1:Nat->Prop:=if s.flat then λ_=>True else c6 S πc wB
 have Ahs:Hc w' D1 πc 0 s.ins o:=by
  show Hc w' (if s.flat then λ_=>True else c6 S πc wB) πc 0 s.ins o
  split
  ·rename_i hf
   unfold MSpec.flat at hf
   simp only [Bool.and_eq_true] at hf
   exact Hc.any s.ins 0 o hf.2 uc
  ·exact uc
 have Acz:Et w' D1 ρ 0 s.outs r Mb:=by
  show Et w' (if s.flat then λ_=>True else c6 S πc wB) ρ 0 s.outs r Mb
  split
  ·rename_i hf
   unfold MSpec.flat at hf
   simp only [Bool.and_eq_true] at hf
   exact Et.any s.outs 0 r Mb hf.1 AS
  ·exact AS
 obtain ⟨q1,q2,q3,q4⟩:=oU (D:=D1) (X:=X) (π:=π) (H:=st.heap) h.1 SE.size (tks:=Ha 0 s.ins as) (πc:=πc) (λt ht q b hq hb Fc hn=>SE.block b Fc λAR=>by
   rcases AR with ⟨c,r',h1,h2⟩|hg
   rotate_left
   ·obtain ⟨l,hl,q',h1,h2,_⟩:=HI b hg
    exact SR l hl t ht (h.1.apart hq h1 hb h2)
   obtain ⟨t',t1,t2,_,p,t3,t4,_⟩:=Pn c r' b h1 h2
   have:=uz AQ ht t1 (h.1.apart hq t3 hb t4)
   subst this
   exact hn r' (t2▸h1) h2) s.ins 0 x as us o st st1 (by omega) (λ_ h=>h) AQ hT Ahs YU (λ_ _=>rfl)
 have YY: ∀t∈Ha 0 s.ins as,t.2.reads=true->t.1<Ak:=by
  have: ∀(cs:List (Bool×CK)) (k:Nat) (as:List AC),k+cs.length<100000-> ∀t∈Ha k cs as,t.2.reads=true->t.1<Ak:=by
   intro cs
   induction cs with
   |nil=>intro k as _ t ht;cases as<;>cases ht
   |cons p r ih=>
    intro k as hk t ht hr
    simp only [List.length_cons] at hk
    cases as with
    |nil=>cases ht
    |cons a as=>
     simp only [Ha] at ht
     rcases List.mem_append.1 ht with ht|ht
     ·rcases z9 ht with ⟨_,h1⟩|⟨h1,_⟩
      ·rw [hr] at h1;cases h1
      ·rw [h1];exact bf (by omega)
     ·exact ih (k+1) as (by omega) t ht hr
  exact this s.ins 0 as (by omega)
 let d:=dst.getD 0
 let ks:=Md s tks d
 let dead:=iu tks++ks++(if s.flat then [] else w8 tks)
 let part:=whole tks
 have Aij:s.outs.length+(gM s d).length=s.Nl:=by unfold MSpec.Nl gM;cases s.rp<;>rfl
 obtain ⟨YJ,Ahy,VO⟩:ks.length=s.Nl/\ks.Nodup/\ ∀l∈ks,l<Ak:=by
  have:=BJ oa
  rw [Aij] at this
  exact this
 have SO:s.outs.length<=s.Nl:=by unfold MSpec.Nl;omega
 have SW: ∀tid,s.rp=some tid->Bt ks s.outs.length=Nf d/\s.Nl=s.outs.length+1:= λtid Qu=>by
  have h1:s.Nl=s.outs.length+1:=by unfold MSpec.Nl;rw [Qu]
  refine ⟨?_,h1⟩
  have h2:ks=il s tks d++ [Nf d]:=by show il s tks d++gM s d=_;unfold gM;rw [Qu]
  have h3:(il s tks d).length=s.outs.length:=by rw [h2] at YJ;simp at YJ;omega
  rw [Ll (by rw [YJ];omega)]
  simp only [h2]
  rw [List.getElem_append_right (by omega)]
  simp [h3]
 have MT:=wX Ahy VO
 have Ahw: ∀j,j<s.Nl->Bt ks j<Ak:= λj hj=>VO _ (mem_keys.2 ⟨j,by omega,rfl⟩)
 let π':Pi:= λl=>match (List.range s.Nl).find? λj=>decide (Bt ks j=l) with
  |some j=>ρ (Ff j)
  |none=>if l∈dead then none else π l
 have qx: ∀j,j<s.Nl->π' (Bt ks j)=ρ (Ff j):= λj hj=>by
  show (match (List.range s.Nl).find? λi=>decide (Bt ks i=Bt ks j) with|some i=>ρ (Ff i)|none=>_)=_
  cases hf:(List.range s.Nl).find? λi=>decide (Bt ks i=Bt ks j) with
  |none=>
   have:=List.find?_eq_none.1 hf j (List.mem_range.2 hj)
   simp at this
  |some i=>
   have:=List.find?_some hf
   rw [MT i j (of_decide_eq_true this)]
 have o9: ∀j,j<s.Nl->Bt ks j∈dead:= λj hj=>List.mem_append_left _ (List.mem_append_right _ (mem_keys.2 ⟨j,by omega,rfl⟩))
 have ue: ∀l,(¬ ∃j,j<s.Nl/\l=Bt ks j)->π' l=if l∈dead then none else π l:= λl hl=>by
  show (match (List.range s.Nl).find? λi=>decide (Bt ks i=l) with|some i=>ρ (Ff i)|none=>_)=_
  cases hf:(List.range s.Nl).find? λi=>decide (Bt ks i=l) with
  |none=>rfl
  |some i=>
   have h1:=List.find?_some hf
   exact absurd ⟨i,List.mem_range.1 (List.mem_of_find?_eq_some hf),(of_decide_eq_true h1).symm⟩ hl
 have NG: ∀l,l∉dead->π' l=π l:= λl hl=>by
  rw [ue l (λ⟨j,h1,h2⟩=>hl (h2▸o9 j h1)),if_neg hl]
 have hD1: ∀b,No π' b\/X.Sc b->D1 b:=by
  intro b hb
  show (if s.flat then λ_=>True else c6 S πc wB) b
  split
  ·trivial
  rename_i hnf
  rcases hb with ⟨l,q,hl,hf⟩|hb
  ·by_cases hk: ∃j,j<s.Nl/\l=Bt ks j
   ·obtain ⟨j,hj,rfl⟩:=hk
    rw [qx j hj,SZ] at hl
    cases hp:wB (Ff j) with
    |none=>rw [hp] at hl;cases hl
    |some q0=>rw [hp] at hl;simp only [Option.map_some,Option.some.injEq] at hl;subst hl;exact .inr (.inr ⟨Ff j,q0,hp,hf⟩)
   ·have e0:π' l=if l∈dead then none else π l:=ue l hk
    rw [e0] at hl
    split at hl
    ·cases hl
    ·rename_i SN
     by_cases ho:No πc b
     ·obtain ⟨c,q',hc,hcb⟩:=ho
      obtain ⟨t,t1,t2,t0,p,t3,t4,_⟩:=Pn c q' b hc hcb
      have uf:=h.1.apart hl t3 hf t4
      refine .inr (.inl ⟨c,q',Classical.byContradiction λhn=>?_,hc,hcb⟩)
      exact SN (List.mem_append_left _ (List.mem_append_left _ (Zv.2 ⟨t,QY▸t1,⟨by rw [t2];omega,t0⟩,uf.symm⟩)))
     ·refine .inl ⟨ho, .inl ⟨⟨l,q,hl,hf⟩,λl0 YK r0 YW hf0=>?_⟩⟩
      have:=h.1.apart hl YW hf hf0
      subst this
      exact SN (List.mem_append_right _ (by rw [if_neg hnf];exact oE.2 (hV' l YK)))
  ·refine .inl ⟨λho=>?_, .inr hb⟩
   have h1:=h.1.sc b hb
   rcases (h.1.own (AT b ho)).2 with h2|h2
   ·omega
   ·exact h1.2 h2
 have hpd: ∀l∈pl,l∉dead:= λl hl hd=>by
  rcases List.mem_append.1 hd with hd|hd
  ·rcases List.mem_append.1 hd with hd|hd
   ·obtain ⟨t,ht,_,e⟩:=Zv.1 hd
    exact (HN l hl).1 (List.mem_map.2 ⟨t,ht,e⟩)
   ·exact (HN l hl).2 hd
  ·split at hd
   ·cases hd
   ·obtain ⟨t,ht,_,e⟩:=oE.1 hd
    exact (HN l hl).1 (List.mem_map.2 ⟨t,ht,e⟩)
 have YI: ∀j,j<s.Nl->Bt ks j∉pl:= λj hj hp=>hpd _ hp (o9 j hj)
 let bv:Option OB:=s.rp.map λtid=> .var tid ((Wi (Bt ks) 0 s.outs r).drop s.Sy)
 let H1:=(mr s.ins (Wi (Bt ks) 0 s.outs r) pl (st1.Xi dead part)).heap
 have hH1: ∀l,l∉pl->Ad H1 l=if l∈dead then none else (Ad st1.heap l).map (OB.map (Ba dead part)):= λl hl=>by
  show Ad (mr _ _ _ _).heap l=_
  rw [DA hl]
  show Ad (Qm (st1.heap.map λp=>(p.1,p.2.map (Ba dead part))) dead) l=_
  rw [Iq,Jn]
 let H2:=xH H1 (Nf d) bv
 have hvd: ∀tid,s.rp=some tid->Nf d∈dead/\Nf d∉pl:= λtid Qu=>by
  obtain ⟨e1,e2⟩:=SW tid Qu
  rw [<-e1]
  exact ⟨o9 _ (by omega),YI _ (by omega)⟩
 have Ac4: ∀l,(∀tid,s.rp=some tid->l≠Nf d)->Ad H2 l=Ad H1 l:= λl hl=>by
  show Ad (xH H1 (Nf d) (s.rp.map _)) l=_
  cases zE:s.rp with
  |none=>rfl
  |some tid=>exact Jw _ _ _ _ (hl tid zE)
 have Ags: ∀tid,s.rp=some tid->Ad H2 (Nf d)=some (.var tid ((Wi (Bt ks) 0 s.outs r).drop s.Sy)):= λtid Qu=>by
  show Ad (xH H1 (Nf d) (s.rp.map _)) (Nf d)=_
  rw [Qu]
  exact Kv _ _ _ (by rw [hH1 _ (hvd tid Qu).2,if_pos (hvd tid Qu).1])
 have hkv: ∀j,j<s.outs.length-> ∀tid,s.rp=some tid->Bt ks j≠Nf d:= λj hj tid Qu e=>by
  have:=MT j s.outs.length (e.trans (SW tid Qu).1.symm)
  omega
 have hH2: ∀l,l∉pl->(∀tid,s.rp=some tid->l≠Nf d)->Ad H2 l=if l∈dead then none else (Ad st1.heap l).map (OB.map (Ba dead part)):= λl hl hv=>by
  rw [Ac4 l hv,hH1 l hl]
 let H':=Rb (FE st (iu tks)) (Bt ks) 0 s.outs r H2
 obtain ⟨n1,n2,n3⟩:=lN (D:=D1) (X:=X) (key:=Bt ks) MT (fr:=FE st (iu tks)) (ρ:=ρ) s.outs 0 r Mb H2 Acz (λj _ hj=>by
  rw [hH2 _ (YI j (by omega)) (hkv j (by omega)),if_pos (o9 j (by omega))])
 have kd: ∀l,l∉dead->l∉pl->Ad H' l=(Ad st1.heap l).map (OB.map (Ba dead part)):= λl hl oc=>by
  show Ad (Rb _ _ _ _ _ _) l=_
  rw [n1 l λj _ hj e=>hl (e▸o9 j (by omega)),hH2 l oc (λtid Qu e=>hl (e▸(hvd tid Qu).1)),if_neg hl]
 have SB: ∀l,l∈dead->(∀j,j<s.Nl->l≠Bt ks j)->Ad H' l=none:= λl hl hj=>by
  show Ad (Rb _ _ _ _ _ _) l=_
  rw [n1 l λj _ h2=>hj j (by omega),hH2 l (λhp=>hpd l hp hl) (λtid Qu e=>hj s.outs.length (by have:=(SW tid Qu).2;omega) (e.trans (SW tid Qu).1.symm)),if_pos hl]
 have newAt: ∀l b',Ad H' l=some b'->(l∈dead\/Ad st.heap l=none)-> ∃j,j<s.Nl/\l=Bt ks j:=by
  intro l b' hb hd
  refine Classical.byContradiction λhn=>?_
  have mW: ∀j,j<s.Nl->l≠Bt ks j:= λj hj e=>hn ⟨j,hj,e⟩
  rcases Classical.em (l∈dead) with hd'|hd'
  ·rw [SB l hd' mW] at hb;cases hb
  ·rcases hd with hd|hd
   ·exact hd' hd
   ·rw [kd l hd' (λhp=>by obtain ⟨_,_,_,_,_,_,_,h1,_⟩:=HO l hp;rw [hd] at h1;cases h1)] at hb
    have:Ad st1.heap l=none:=by
     by_cases hi: ∃t∈Ha 0 s.ins as,t.2.Qc=l
     ·obtain ⟨t,ht,e⟩:=hi
      by_cases Fc:t.1<Ak
      ·rw [<-e,q3 t ht Fc,e];exact hd
      ·obtain ⟨b0,_,h1,_⟩:=q4 t ht Fc
       rw [e,hd] at h1;cases h1
     ·rw [q2 l λt ht e=>hi ⟨t,ht,e.symm⟩];exact hd
    rw [this] at hb;cases hb
 have YB: ∀k,FE st (iu tks)=true-> ∀q,ρ (Ff k)=some q->q.Bb q.g->X.w0.heap.size<=q.g:=by
  intro k AN q hq hg
  rcases (MV.Ue _ q _ hq hg).2 with h1|⟨c,p,h1,h2,h3⟩
  ·exact Nat.le_trans h.1.below.size h1
  ·obtain ⟨t,t1,t2,t0,p',t3,t4,_⟩:=Pn c p _ h2 h3
   have hm:t.2.Qc∈iu tks:=Zv.2 ⟨t,QY▸t1,⟨by rw [t2];exact h1,t0⟩,rfl⟩
   have:=List.all_eq_true.1 AN _ hm
   split at this
   ·rename_i fr tr e te xs hl
    unfold St.at at hl
    have hb:=(h.1.heap t.2.Qc).Ku hl
    simp only [Aw,Fq,t3] at hb
    rw [hb.1.2.1 _ t4]
    exact hb.1.2.2 this
   ·cases this
 have XZ: ∀k q,ρ (Ff k)=some q->k<s.outs.length->q.Bb q.g:=by
  intro k q hq hk
  exact Et.UR s.outs 0 r Mb AS k (Nat.zero_le _) ((Nat.zero_add _).symm▸hk) q hq
 have hinv: ∀l,l∉dead->(∃t∈Ha 0 s.ins as,t.2.reads=false/\t.2.Qc=l)->ia X D1 w' π st.heap st1.heap l:=by
  rintro l hd ⟨t,ht,h0,rfl⟩
  by_cases Fc:t.1<Ak
  ·exact absurd (List.mem_append_left _ (List.mem_append_left _ (Zv.2 ⟨t,QY▸ht,⟨Fc,h0⟩,rfl⟩))) hd
  ·exact q4 t ht Fc
 have ug: ∀l,(¬ ∃t∈Ha 0 s.ins as,t.2.reads=false/\t.2.Qc=l)->Ad st1.heap l=Ad st.heap l:= λl hn=>by
  by_cases hi: ∃t∈Ha 0 s.ins as,t.2.Qc=l
  ·obtain ⟨t,ht,rfl⟩:=hi
   have hr:t.2.reads=true:=by
    cases h0:t.2.reads with
    |true=>rfl
    |false=>exact absurd ⟨t,ht,h0,rfl⟩ hn
   exact q3 t ht (YY t ht hr)
  ·exact q2 l λt ht e=>hi ⟨t,ht,e.symm⟩
 have VA: ∀l∈pl,∀p,s.ptr=some p->Ad H' l=some (.var p.1 (bR s.ins (cells.map (Ba dead part)) (Wi (Bt ks) 0 s.outs r))):= λl hl p hp=>by
  obtain ⟨p',q,h1,h2,_,_,_,h3,_⟩:=HO l hl
  rw [hp] at h1;cases h1
  show Ad (Rb _ _ _ _ _ _) l=_
  rw [n1 l λj _ hj e=>YI j (by omega) (e▸hl),Ac4 l (λtid Qu e=>(hvd tid Qu).2 (e▸hl))]
  show Ad (mr _ _ _ _).heap l=_
  rw [h2]
  refine JK ?_
  show Ad (Qm (st1.heap.map λp=>(p.1,p.2.map (Ba dead part))) dead) l=_
  rw [Iq,Jn,if_neg (hpd l hl),ug l (λ⟨t,ht,_,e⟩=>SR l hl t ht e),h3]
  rfl
 have VQ: ∀j,j<s.Nl->s.outs.length<=j-> ∃tid,s.rp=some tid/\j=s.outs.length:= λj h1 h2=>by
  cases zE:s.rp with
  |none=>unfold MSpec.Nl at h1;rw [zE] at h1;simp at h1;omega
  |some tid=>exact ⟨tid,rfl,by have:=(SW tid zE).2;omega⟩
 have hHv: ∀tid,s.rp=some tid->Ad H' (Nf d)=some (.var tid ((Wi (Bt ks) 0 s.outs r).drop s.Sy)):= λtid Qu=>by
  show Ad (Rb _ _ _ _ _ _) _=_
  rw [n1 _ λj _ hj e=>hkv j (by omega) tid Qu e.symm,Ags tid Qu]
 suffices Acq:Al X π' (ga st st1 d s pl tks r) a w'/\An X w' π' (ga st st1 d s pl tks r).heap av0 v by
  obtain ⟨m1,m2⟩:=Acq
  have wv: ∀(kj:List (Nat×Nat)) (l:Nat),l∈Wd st.heap ks tks kj->iQ st.heap l=true/\ ∃k j t,(k,j)∈kj/\t∈tks/\t=(Bl false k,Loc.row l)/\ks[j]?=some l:=by
   intro kj
   induction kj with
   |nil=>intro l hl;cases hl
   |cons p kj ih=>
    intro l hl
    obtain ⟨k,j⟩:=p
    have up:l∈Wd st.heap ks tks kj->iQ st.heap l=true/\ ∃k' j' t,(k',j')∈(k,j)::kj/\t∈tks/\t=(Bl false k',Loc.row l)/\ks[j']?=some l:= λhl=>by
     obtain ⟨h1,k',j',t,h2,h3⟩:=ih l hl
     exact ⟨h1,k',j',t,List.mem_cons_of_mem _ h2,h3⟩
    simp only [Wd] at hl
    split at hl
    ·rename_i x0 l1 l2 h1 h2
     split at hl
     ·rename_i hc
      simp only [Bool.and_eq_true] at hc
      rcases List.mem_cons.1 hl with rfl|hl
      ·have:=List.find?_some h1
       have e1:=Nat.eq_of_beq_eq_true this
       have e2:=Nat.eq_of_beq_eq_true hc.1
       dsimp only at e1
       exact ⟨hc.2,k,j,_,List.mem_cons_self,List.mem_of_find?_eq_some h1,by rw [e1],by rw [h2,e2]⟩
      ·exact up hl
     ·exact up hl
    ·exact up hl
  obtain ⟨r1,r2⟩:=BG h m1 (ls:=Wd st.heap ks tks s.keeps) (n:=s.Ch x) (λl hl=>by
   obtain ⟨_,k,j,t,h1,h2,h3,h4⟩:=wv s.keeps l hl
   have hj:j<ks.length:=(List.getElem?_eq_some_iff.1 h4).1
   have LF:Bt ks j=l:=by
    rw [Ll hj]
    rw [List.getElem?_eq_getElem hj] at h4
    exact Option.some.inj h4
   have qy:=sx (k,j) h1
   rw [show π' l=ρ (Ff j) by rw [<-LF];exact qx j (by omega),SZ]
   have hc:πc (Bl false k)=(π l).map full:=Ac6 k l (by rw [<-h3,<-QY];exact h2)
   dsimp only at qy
   rw [hc] at qy
   cases hp:π l<;>cases hq:wB (Ff j)<;>(rw [hp,hq] at qy;exact qy)) (λl hl=>(wv s.keeps l hl).1) Kh
  exact ⟨π',r1,r2 av0 v m2⟩
 refine ⟨?_,?_⟩
 ·have hx:=Al.XI (π':=π') (H':=H') (dead:=dead) (part:=part) (inv:= λl=>(∃t∈Ha 0 s.ins as,t.2.reads=false/\t.2.Qc=l)\/l∈pl) (gv:= λb=>No πc b\/s.gv g b) h (λb hb=>by
    rcases hb with hb|hb
    ·obtain ⟨t,h1,h0,q,h2,h3,_⟩:=Su b hb
     exact ⟨_,q, .inl ⟨t,h1,h0,rfl⟩,h2,h3⟩
    ·obtain ⟨l,hl,q,h1,h2,_⟩:=HI b hb
     exact ⟨l,q, .inr hl,h1,h2⟩) SE (λl b0 hd h0=>⟨NG l hd,?_⟩) (λl b' hb hd=>?_) (λl hl=>?_) (λm q hd hp hm hxa=>?_)
  ·have:({tmps:=(mr s.ins (Wi (Bt ks) 0 s.outs r) pl (st1.Xi dead part)).tmps,heap:=H'} :St)= {tmps:=st.tmps.map (·.map (Ba dead part)),heap:=H'} :=by
    rw [kO]
    show ({tmps:=st1.tmps.map (·.map (Ba dead part)),heap:=H'} :St)=_
    rw [q1]
   show Al X π' ({tmps:=(mr s.ins (Wi (Bt ks) 0 s.outs r) pl (st1.Xi dead part)).tmps,heap:=H'} :St) a w'
   rw [this]
   exact hx
  ·by_cases SK:l∈pl
   ·obtain ⟨p,q,h1,h2,h3,h4,h5,h6,h7⟩:=HO l SK
    rw [h0] at h6;cases h6
    have cS:=VA l SK p h1
    refine .inr ⟨_,cS,⟨rfl,by rw [kF]⟩,λm=>?_⟩
    unfold cj at so
    rw [h1] at so
    obtain ⟨cs,k1,k2,k3⟩:=so
    rw [<-h7] at k3
    refine ⟨q,h3,h4,cs.toArray,by rw [<-h5];exact k1,?_⟩
    refine Ii.to (eA (H:=st.heap) NG (λl1 b1 sz n hd1 ub SU=>?_) s.ins 0 cells jE x us o st st1 (Wi (Bt ks) 0 s.outs r) Mb cs (has▸hT) Aco (has▸YU) k3 (n3 π' hD1 (λj _ hj=>qx j (by omega)))) (by simpa using k2)
    have hnp:l1∉pl:= λhp=>by
     obtain ⟨_,_,_,_,_,_,_,h8,_⟩:=HO l1 hp
     rw [ub] at h8;cases h8;cases SU
    by_cases hi: ∃t∈Ha 0 s.ins as,t.2.reads=false/\t.2.Qc=l1
    ·obtain ⟨b1,b',e1,e2,e3,e4,e5,e6⟩:=hinv l1 hd1 hi
     rw [ub] at e1;cases e1
     exact ⟨b',by rw [kd l1 hd1 hnp,e2];simp [e4],by rw [e5.row];exact SU⟩
    ·exact ⟨_,by rw [kd l1 hd1 hnp,ug l1 hi,ub];rfl,by rw [OB.vn];exact SU⟩
   by_cases hi: ∃t∈Ha 0 s.ins as,t.2.reads=false/\t.2.Qc=l
   ·obtain ⟨b1,b',e1,e2,e3,e4,e5,e6⟩:=hinv l hd hi
    rw [h0] at e1;cases e1
    exact .inr ⟨b',by rw [kd l hd SK,e2];simp [e4],by rw [e3];exact e5,λ_=>e6 π' H' hD1⟩
   ·exact .inl ⟨λhh=>hh.elim hi SK,by rw [kd l hd SK,ug l hi,h0];rfl⟩
  ·obtain ⟨j,hj,rfl⟩:=newAt l b' hb hd
   refine ⟨Ahw j hj,?_,λq b hq=>?_⟩
   ·rw [qx j hj]
    rcases Nat.lt_or_ge j s.outs.length with hjo|hjo
    ·rcases n2 j (Nat.zero_le _) (by omega) with ⟨e1,_⟩|⟨b2,e1,e2⟩
     ·rw [show Ad H' (Bt ks j)=none from e1] at hb;cases hb
     ·rw [show Ad H' (Bt ks j)=some b2 from e1] at hb;cases hb
      exact e2 X π' H' (λhf q hq=>YB j hf q hq (XZ j q hq hjo)) hD1
    ·obtain ⟨tid,Qu,hj0⟩:=VQ j hj hjo
     subst hj0
     rw [(SW tid Qu).1,hHv tid Qu] at hb;cases hb
     unfold l7 at aM
     rw [Qu] at aM
     obtain ⟨q,y1,y2,y3,y4,_⟩:=aM
     rw [SZ,y1]
     exact ⟨full q,rfl,y2,_,y3,Ii.to (Ii.take s.Sy (n3 π' hD1 (λj _ hj=>qx j (by omega)))).2 (by simpa using y4)⟩
   ·rw [qx j hj] at hq
    have Mg:=VG _ q hq
    refine ⟨λhf=>by rw [Mg];exact hf,λhf=>?_⟩
    rw [Mg] at hf
    obtain ⟨h1,h2⟩:=MV.Ue _ q b hq hf
    refine ⟨h1,h2.imp id ?_,λl2 r2 hd2 HL XX=>?_⟩
    ·rintro ⟨c,p,h3,h4,h5⟩
     obtain ⟨t,t1,t2,t0,p',t3,t4,_⟩:=Pn c p b h4 h5
     exact ⟨t.2.Qc,p',List.mem_append_left _ (List.mem_append_left _ (Zv.2 ⟨t,QY▸t1,⟨by rw [t2];exact h3,t0⟩,rfl⟩)),t3,t4⟩
    ·by_cases hk: ∃j,j<s.Nl/\l2=Bt ks j
     ·obtain ⟨j2,hj2,rfl⟩:=hk
      rw [qx j2 hj2] at HL
      rw [VG _ r2 HL] at XX
      have:=MV.inj _ _ r2 q b HL hq XX hf
      unfold Ff at this
      have:j2=j:=by omega
      rw [this]
     ·have e0:π' l2=if l2∈dead then none else π l2:=ue l2 hk
      rw [e0] at HL
      split at HL
      ·cases HL
      ·rename_i SN
       rcases hd2 with hd2|hd2
       ·exact absurd hd2 SN
       ·rw [(h.1.heap l2).emp hd2] at HL;cases HL
  ·by_cases hk: ∃j,j<s.Nl/\l=Bt ks j
   ·obtain ⟨j,hj,rfl⟩:=hk
    rw [qx j hj]
    rcases Nat.lt_or_ge j s.outs.length with hjo|hjo
    ·rcases n2 j (Nat.zero_le _) (by omega) with ⟨_,e1⟩|⟨b2,e1,_⟩
     ·exact e1
     ·rw [show Ad H' (Bt ks j)=some b2 from e1] at hl;cases hl
    ·obtain ⟨tid,Qu,hj0⟩:=VQ j hj hjo
     subst hj0
     rw [(SW tid Qu).1,hHv tid Qu] at hl;cases hl
   ·have e0:π' l=if l∈dead then none else π l:=ue l hk
    rw [e0]
    split
    ·rfl
    ·rename_i hd
     by_cases SK:l∈pl
     ·obtain ⟨p,_,h1,_⟩:=HO l SK
      rw [VA l SK p h1] at hl;cases hl
     rw [kd l hd SK] at hl
     by_cases hi: ∃t∈Ha 0 s.ins as,t.2.reads=false/\t.2.Qc=l
     ·obtain ⟨_,b',_,e2,_⟩:=hinv l hd hi
      rw [e2] at hl;cases hl
     ·rw [ug l hi] at hl
      cases h0:Ad st.heap l with
      |none=>exact (h.1.heap l).emp h0
      |some b=>rw [h0] at hl;cases hl
  ·refine SE.block _ (h.1.lt hm).1 λAR=>?_
   rcases AR with ho|hg
   rotate_left
   ·obtain ⟨l,hl,q',h1,h2,_⟩:=HI _ hg
    have uf:=h.1.apart hm h1 (h.1.Bb hm) h2
    obtain ⟨_,_,_,_,_,_,_,h3,_⟩:=HO l hl
    obtain ⟨b,hxa,hxb⟩:=hxa
    rw [uf,h3] at hxa;cases hxa
    exact hxb rfl
   obtain ⟨t,t1,t0,p,t3,t4,t5⟩:=Su _ ho
   have uf:=h.1.apart hm t3 (h.1.Bb hm) t4
   have hpq:p=q:=by rw [<-uf,hm] at t3;exact (Option.some.inj t3).symm
   cases WA:t.2 with
   |row l=>
    refine hp ?_
    show m∈whole tks
    unfold whole
    exact List.mem_flatMap.2 ⟨t,QY▸t1,by rw [WA,uf,WA];simp [Loc.Qc]⟩
   |sub l i j=>exact t5 l i j WA (by rw [hpq])
   |view l=>rw [WA] at t0;cases t0
 ·have Aii:=n3 π' hD1 (λj _ hj=>qx j (by omega))
  cases zE:s.rp with
  |some tid=>
   unfold l7 at aM
   rw [zE] at aM
   obtain ⟨q,y1,y2,y3,y4,rfl⟩:=aM
   unfold TO at cU
   rw [zE] at cU
   simp only [Option.some.injEq] at cU;subst cU
   refine ⟨full q,tid,_,hHv tid zE,?_,rfl⟩
   rw [<-(SW tid zE).1,qx _ (by have:=(SW tid zE).2;omega),SZ,y1]
   rfl
  |none=>
  unfold l7 at aM
  rw [zE] at aM
  obtain ⟨aM,Aip⟩:=aM
  unfold TO at cU
  rw [zE] at cU
  simp only at cU
  obtain ⟨g1,g2,g3,g4⟩:=Zm s.Ek _ (Mb.drop s.Sy) Aip (Ii.take s.Sy Aii).2
  unfold Aed at cU
  unfold PB at aM
  split at cU
  ·rename_i hm
   rw [if_pos hm] at aM
   simp only [Option.some.injEq] at cU;subst cU
   subst aM
   exact ⟨_,rfl,g3.symm,g4⟩
  ·rename_i hm
   rw [if_neg hm] at aM
   split at cU
   ·rename_i av1 hga
    simp only [Option.some.injEq] at cU;subst cU
    rcases aM with aM|aM
    ·exact g2 0 _ v (by rw [hga];rfl) (by rw [aM];rfl)
    ·rw [hga,aM] at g1;cases g1
   ·simp only [Option.some.injEq] at cU;subst cU;trivial
   ·cases cU
end
end Go.Proofs.YtfolipnappekaaaGreat
