/-
  Part 17 of the proof that the statement FnPatterns holds.
-/
import Derived.Test.YtkkdpknjohcekaaGreatCFPatterns15
namespace Go.Proofs.YtkkdpknjohcekaaGreat
open Go.RowKit
section
variable {P:Program} {T:Tab} {X:Ctx} {w w':World} {π π':Pi} {H H':List (Nat×OB)}
theorem bj (k:Nat): ¬Dy true k<Bn:=by unfold Dy Bn;simp
theorem fP {k:Nat} (h:k<100000):Dy false k<Bn:=by unfold Dy Bn;simp;omega
def mJ (X:Ctx) (D:Nat->Prop) (w':World) (π:Pi) (H Hn:List (Nat×OB)) (l:Nat):Prop:=
 ∃b0 b',At H l=some b0/\At Hn l=some b'/\(∀f,OB.map f b0=b0)/\(∀f,OB.map f b'=b')/\b0.fy b'/\ ∀π' H',(∀b,Vy π' b\/X.Sc b->D b)->Cj X w' π' H' (π l) b'
theorem Acp {io:Bool} {k:Nat} {τ:Ty} {a:AC} {t:Nat×Loc} (h:t∈Ql io k (.Fz τ) a):t.1=Dy false k:=by
 cases a<;>simp [Ql,views] at h<;>first|(obtain ⟨_,⟨_,_⟩,rfl⟩:=h;rfl)|(rw [h])
theorem WY {io:Bool} {k:Nat} {e:Ty} {te:TypeId} {a:AC} {t:Nat×Loc} (h:t∈Ql io k (.part e te) a):t.1=Dy io k:=by cases a<;>simp [Ql] at h<;>rw [h]
theorem Acq {io:Bool} {k:Nat} {e:Ty} {te:TypeId} {a:AC} {t:Nat×Loc} (h:t∈Ql io k (.row e te) a):t.1=Dy io k:=by cases a<;>simp [Ql] at h<;>rw [h]
theorem WZ {io:Bool} {k:Nat} {e:Ty} {te:TypeId} {a:AC} {t:Nat×Loc} (h:t∈Ql io k (.Hz e te) a):t.1=Dy io k:=by cases a<;>simp [Ql] at h<;>rw [h]
theorem ff {D:Nat->Prop} {π':Pi} {fr:Bool} {e:Ty} {es:List Value} {y:e.den} (hD: ∀b,Vy π' b\/X.Sc b->D b) (h:Cells w' D e es y):Cells w' (Da X.w0.heap.size X.Sc π' (fr&&e.flat)) e es y:=by
 cases hf:e.flat with
 |true=>exact Cells.flat e es y hf h
 |false=>exact Cells.Fk (Ao _) (λ_ _ _=>rfl) (λb _ hb=>by
   rcases hb with hb|hb|⟨hb,_⟩
   ·exact hD b (.inl hb)
   ·exact hD b (.inr hb)
   ·simp at hb) e es y h
theorem XB {D P:Nat->Prop} {g o:Nat} {cur:Array Value} {tr:Bool} {e:Ty} {xs:List e.den}
  (h: ∀(i:Nat) (x:e.den),xs[i]?=some x-> ∃es:List Value,es.length=e.size/\(∀j u,es[j]?=some u->cur[(o+i)*e.size+j]?=some u)/\Cells w' D e es x) (ht:(tr&&e.flat)=true):Xt w' P g o cur e xs:=by
 simp only [Ag] at ht
 exact nm ht.2 h
theorem VU {D:Nat->Prop} (h:Mz X w π H) {k:Nat} {c:CK} {ys:c.den} {a:AC} {u:Value} {r:Option Real} {x:c.den} {cur st1:St} (hs:w.heap.size<=w'.heap.size)
  (hU: ∀l i j q b,a= .sub l i j->π l=some q->q.Cv b->b<w.heap.size->(∀r',r=some r'-> ¬r'.Cv b)->w'.heap[b]?=w.heap[b]?)
  {V:List Nat} (ht:eV w (Ol X π V) r u c x/\Tu w π H true a u r c x) (hr:gm w' D r c ys) (he:cy cur c ys a=some st1) (gU: ∀t∈Ql true k c a,At cur.heap t.2.Xi=At H t.2.Xi):
  st1.tmps=cur.tmps/\(∀m,(∀t∈Ql true k c a,m≠t.2.Xi)->At st1.heap m=At cur.heap m)/\ ∀t∈Ql true k c a,mJ X D w' π H st1.heap t.2.Xi:=by
 obtain ⟨hc,ht⟩:=ht
 cases c with
 |Fz τ=>cases a<;>simp [cy] at he;subst he;exact ⟨rfl,λ_ _=>rfl,λt ht=>by simp [Ql] at ht⟩
 |row e te=>
  simp only [Tu] at ht
  cases a<;>simp only [] at ht<;>first|(exact ht.elim)|skip
  ·simp only [cy,Aa] at he;subst he
   exact ⟨rfl,λ_ _=>rfl,λt ht=>by simp [Ql] at ht⟩
  ·rename_i l off len
   obtain ⟨rfl,rfl,rfl,fr,tr,hl⟩:=ht
   have Pc:At cur.heap l=some (.arr fr tr e te x):=(gU _ (Ad.2 rfl)).trans hl
   simp only [cy,St.at,Pc] at he
   split at he
   ·rename_i Jx
    obtain ⟨_,h1,_⟩:=Jx
    simp only [Aa] at he;subst he
    refine ⟨rfl,λm hm=>Ec _ _ _ _ (hm _ (Ad.2 rfl)),λt Vz=>?_⟩
    have Vz:=Ad.1 Vz
    subst Vz
    refine ⟨_,_,hl,Ez _ _ _ _ Pc,λ_=>rfl,λ_=>rfl,⟨rfl,h1.symm⟩,λπ' H' hD=>?_⟩
    have hb:=(h.heap l).Ro hl
    change Cj X w' π' H' (π l) _
    simp only [Cj,Kg] at hb⊢
    cases hp:π l with
    |none=>rw [hp] at hr;exact hr
    |some q=>
     rw [hp] at hr hb
     obtain ⟨k1,cu,ti,k2,k3,k4,k5,k6⟩:=hr
     exact ⟨⟨k1.1,k1.2,λhh=>hb.1.2.2 (by simp only [Ag] at hh;exact hh.1)⟩,cu,ti,k2,k3,k4,k5,λi y hy=>by
      obtain ⟨es,g1,g2,g3⟩:=k6 i y hy
      exact ⟨es,g1,g2,ff hD g3⟩,λht=>XB k6 ht⟩
   ·cases he
  ·rename_i l i j
   obtain ⟨⟨_,hf⟩,tid,xs,hl,hx,q,hq,Wk,hre⟩:=ht
   have Pc:At cur.heap l=some (.Hf (.slice e) tid xs):=(gU _ (Ad.2 rfl)).trans hl
   simp only [cy,St.at,Pc,hx] at he
   rw [Jg trivial] at he
   ·split at he
    ·rename_i h1
     simp only [Aa] at he;subst he
     refine ⟨rfl,λm hm=>Ec _ _ _ _ (hm _ (Ad.2 rfl)),λt Vz=>?_⟩
     have Vz:=Ad.1 Vz
     subst Vz
     refine ⟨_,_,hl,Ez _ _ _ _ Pc,λ_=>rfl,λ_=>rfl,⟨rfl,by simp⟩,λπ' H' _=>?_⟩
     show Nx w' (π l) (.slice e) tid _
     rw [hq]
     refine hre w' ys hs (λb Jj hb hn=>hU l i j q b rfl hq hb Jj hn) ?_
     have hv:=hc.1
     rw [<-show List.length ys=List.length x from h1] at hv
     exact Ta.PI hr hf hv
    ·cases he
 |Hz e te=>
  simp only [Tu] at ht
  cases a<;>simp only [] at ht<;>first|(exact ht.elim)|skip
  ·simp only [cy,Aa] at he;subst he
   exact ⟨rfl,λ_ _=>rfl,λt ht=>by simp [Ql] at ht⟩
  ·rename_i l off len
   obtain ⟨rfl,rfl,rfl,hl⟩:=ht
   have Pc:At cur.heap l=some (.Hf e te x):=(gU _ (Ad.2 rfl)).trans hl
   simp only [cy,St.at,Pc] at he
   split at he
   ·rename_i Jx
    obtain ⟨_,h1,_⟩:=Jx
    simp only [Aa] at he;subst he
    refine ⟨rfl,λm hm=>Ec _ _ _ _ (hm _ (Ad.2 rfl)),λt Vz=>?_⟩
    have Vz:=Ad.1 Vz
    subst Vz
    refine ⟨_,_,hl,Ez _ _ _ _ Pc,λ_=>rfl,λ_=>rfl,⟨rfl,h1.symm⟩,λπ' H' _=>?_⟩
    show Nx w' (π l) e te _
    cases hp:π l with
    |none=>rw [hp] at hr;exact hr
    |some q=>rw [hp] at hr;exact hr
   ·cases he
  ·rename_i l i j
   obtain ⟨_,tid,xs,hl,hx,q,hq,Wk,hre⟩:=ht
   have Pc:At cur.heap l=some (.Hf (.slice e) tid xs):=(gU _ (Ad.2 rfl)).trans hl
   simp only [cy,St.at,Pc,hx] at he
   rw [Jg trivial] at he
   ·split at he
    ·rename_i h1
     simp only [Aa] at he;subst he
     refine ⟨rfl,λm hm=>Ec _ _ _ _ (hm _ (Ad.2 rfl)),λt Vz=>?_⟩
     have Vz:=Ad.1 Vz
     subst Vz
     refine ⟨_,_,hl,Ez _ _ _ _ Pc,λ_=>rfl,λ_=>rfl,⟨rfl,by simp⟩,λπ' H' _=>?_⟩
     show Nx w' (π l) (.slice e) tid _
     rw [hq]
     refine hre w' ys hs (λb Jj hb hn=>hU l i j q b rfl hq hb Jj hn) ?_
     have hv:=hc.1
     rw [<-show List.length ys=List.length x from h1] at hv
     exact Nx.PI (te:=te) hr hv
    ·cases he
 |part e te=>cases a<;>simp [cy] at he<;>first|(simp only [Tu] at ht;exact ht.2.elim)
 |Bl e te kp=>exact absurd ht.1 (by simp)
theorem VV {D:Nat->Prop} (h:Mz X w π H) {k:Nat} {e:Ty} {te:TypeId} {ys:List e.den} {a:AC} {u:Value} {r:Option Real} {x:(CK.part e te).den} {cur st1:St}
  {V:List Nat} (ht:eV w (Ol X π V) r u (.part e te) x/\Tu w π H true a u r (.part e te) x) (hr:gm w' D r (.row e te) ys) (he:OD cur e ys a=some st1) (gU: ∀t∈Ql true k (.part e te) a,At cur.heap t.2.Xi=At H t.2.Xi):
  st1.tmps=cur.tmps/\(∀m,(∀t∈Ql true k (.part e te) a,m≠t.2.Xi)->At st1.heap m=At cur.heap m)/\ ∀t∈Ql true k (.part e te) a,mJ X D w' π H st1.heap t.2.Xi:=by
 obtain ⟨hc,hf,ht⟩:=ht
 cases a<;>simp only [] at ht<;>first|(exact ht.elim)|skip
 rename_i l off len
 obtain ⟨rfl,_,fr,tr,hl⟩:=ht
 have Pc:At cur.heap l=some (.arr fr tr e te x.1):=(gU _ (Ad.2 rfl)).trans hl
 simp only [OD,St.at,Pc] at he
 split at he
 ·rename_i Jx
  obtain ⟨_,h1⟩:=Jx
  simp only [Aa] at he;subst he
  refine ⟨rfl,λm hm=>Ec _ _ _ _ (hm _ (Ad.2 rfl)),λt Vz=>?_⟩
  have Vz:=Ad.1 Vz
  subst Vz
  refine ⟨_,_,hl,Ez _ _ _ _ Pc,λ_=>rfl,λ_=>rfl,⟨rfl,h1.symm⟩,λπ' H' _=>?_⟩
  have hb:=(h.heap l).Ro hl
  change Cj X w' π' H' (π l) _
  simp only [Cj,Kg] at hb⊢
  cases hp:π l with
  |none=>rw [hp] at hr;exact hr
  |some q=>
   rw [hp] at hr hb
   obtain ⟨k1,cu,ti,k2,k3,k4,k5,k6⟩:=hr
   exact ⟨⟨k1.1,k1.2,hb.1.2.2⟩,cu,ti,k2,k3,k4,k5,λi y hy=>by
    obtain ⟨es,g1,g2,g3⟩:=k6 i y hy
    exact ⟨es,g1,g2,Cells.flat e es y hf g3⟩,λ_=>nm hf k6⟩
 ·cases he
def rJ (X:Ctx) (D:Nat->Prop) (w':World) (π:Pi) (H:List (Nat×OB)) (tk:List (Nat×Loc)) (cur st1:St):Prop:=
 st1.tmps=cur.tmps/\(∀m,(∀t∈tk,m≠t.2.Xi)->At st1.heap m=At cur.heap m)/\(∀t∈tk,t.1<Bn->At st1.heap t.2.Xi=At cur.heap t.2.Xi)/\(∀t∈tk,¬t.1<Bn->mJ X D w' π H st1.heap t.2.Xi)
theorem uj {D:Nat->Prop} (h:Mz X w π H) {V:List Nat} {πc:Pi} {tks:List (Nat×Loc)} (hs:w.heap.size<=w'.heap.size)
  (hU: ∀t∈tks,∀q b,π t.2.Xi=some q->q.Cv b->b<w.heap.size->(∀r',πc t.1=some r'-> ¬r'.Cv b)->w'.heap[b]?=w.heap[b]?):
  ∀(cs:List (Bool×CK)) (k:Nat) (x:Ins.den cs) (as:List AC) (us:List Value) (o:IOs.den cs) (cur st1:St),k+cs.length<100000->(∀t∈Lx k cs as,t∈tks)->((Lx k cs as).map λt=>t.2.Xi).Nodup->
   r6 X w π V H πc k cs x as us->Mj w' D πc k cs o->Ij cs o as cur=some st1->(∀t∈Lx k cs as,At cur.heap t.2.Xi=At H t.2.Xi)->
   rJ X D w' π H (Lx k cs as) cur st1
 | [],k,x,as,us,o,cur,st1,_,_,_,_,_,he,_=>by
  simp only [Ij,Aa] at he;subst he
  have e0:Lx k [] as= []:=by cases as<;>rfl
  exact ⟨rfl,λ_ _=>rfl,by rw [e0];simp,by rw [e0];simp⟩
 |p::r,k,x,[],us,o,cur,st1,_,_,_,ht,_,_,_=>ht.elim
 |p::r,k,x,a::as,[],o,cur,st1,_,_,_,ht,_,_,_=>ht.elim
 |(io,c)::r,k,x,a::as,u::us,o,cur,st1,hk,Ps,KD,ht,ho,he,gU=>by
  simp only [Aw] at hk
  simp only [Lx] at Ps KD gU⊢
  rw [Ko] at KD
  obtain ⟨n1,n2,n3⟩:=Dv.1 KD
  have apart: ∀t∈Ql io k c a,∀t'∈Lx (k+1) r as,t'.2.Xi≠t.2.Xi:= λt h1 t' h2 e=>n3 _ (Bg.2 ⟨t,h1,rfl⟩) _ (Bg.2 ⟨t',h2,rfl⟩) e.symm
  have rest: ∀(al:St) (o':IOs.den r),Mj w' D πc (k+1) r o'->Ij r o' as al=some st1->al.tmps=cur.tmps->(∀m,(∀t∈Ql io k c a,m≠t.2.Xi)->At al.heap m=At cur.heap m)->
    (∀t∈Ql io k c a,t.1<Bn->At al.heap t.2.Xi=At cur.heap t.2.Xi)->(∀t∈Ql io k c a,¬t.1<Bn->mJ X D w' π H al.heap t.2.Xi)->
    rJ X D w' π H (Ql io k c a++Lx (k+1) r as) cur st1:=by
   intro al o' h1 h2 h3 h4 h5 h6
   obtain ⟨g1,g2,g3,g4⟩:=uj h hs hU r (k+1) x.2 as us o' al st1 (by omega) (λt ht=>Ps t (Ci _ ht)) n2 ht.2 h1 h2 (λt Vz=>by
    rw [h4 _ λt0 ht0=>apart t0 ht0 t Vz];exact gU t (Ci _ Vz))
   have hd: ∀t∈Ql io k c a,At st1.heap t.2.Xi=At al.heap t.2.Xi:= λt Vz=>g2 _ λt' vK=>(apart t Vz t' vK).symm
   refine ⟨g1.trans h3,λm hm=>?_,λt Vz Jj=>?_,λt Vz Jj=>?_⟩
   ·rw [g2 m λt ht=>hm t (Ci _ ht),h4 m λt ht=>hm t (Bj _ ht)]
   ·rcases Az.1 Vz with Vz|Vz
    ·rw [hd t Vz,h5 t Vz Jj]
    ·rw [g3 t Vz Jj,h4 _ λt0 ht0=>apart t0 ht0 t Vz]
   ·rcases Az.1 Vz with Vz|Vz
    ·obtain ⟨b0,b',q1,q2,q3⟩:=h6 t Vz Jj
     exact ⟨b0,b',q1,(hd t Vz).trans q2,q3⟩
    ·exact g4 t Vz Jj
  have same: ∀o',Mj w' D πc (k+1) r o'->Ij r o' as cur=some st1->(∀t∈Ql io k c a,t.1<Bn)->rJ X D w' π H (Ql io k c a++Lx (k+1) r as) cur st1:= λo' h1 h2 h3=>rest cur o' h1 h2 rfl (λ_ _=>rfl) (λ_ _ _=>rfl) (λt h4 h5=>absurd (h3 t h4) h5)
  cases io with
  |false=>
   have h3: ∀t∈Ql false k c a,t.1<Bn:= λt h4=>by rcases JD h4 with ⟨h5,_⟩|⟨h5,_⟩<;>(rw [h5];exact fP (by omega))
   cases c with
   |Fz τ=>exact same o ho (by simpa only [Ij] using he) h3
   |row e te=>exact same o ho (by simpa only [Ij] using he) h3
   |Hz e te=>exact same o ho (by simpa only [Ij] using he) h3
   |part e te=>exact same o ho (by simpa only [Ij] using he) h3
   |Bl e te kp=>exact same o ho (by simpa only [Ij] using he) h3
  |true=>
   have row: ∀(ys:c.den) (o':IOs.den r),(∀t∈Ql true k c a,t.1=Dy true k)->gm w' D (πc (Dy true k)) c ys->Mj w' D πc (k+1) r o'->(∃al,cy cur c ys a=some al/\Ij r o' as al=some st1)->rJ X D w' π H (Ql true k c a++Lx (k+1) r as) cur st1:=by
    intro ys o' h0 h1 h2 h3
    obtain ⟨al,hp,h3⟩:=h3
    ·obtain ⟨q1,q2,q3⟩:=VU (k:=k) h hs (λl i j q b ea hq hb Jj hn=>by
      cases c with
      |Fz τ=>exact absurd (ht.1.2:πc _=none) (by subst ea;simp [cy] at hp)
      |row e te=>subst ea;exact hU (Dy true k, .sub l i j) (Ps _ (Bj _ (Ad.2 rfl))) q b hq hb Jj hn
      |Hz e te=>subst ea;exact hU (Dy true k, .sub l i j) (Ps _ (Bj _ (Ad.2 rfl))) q b hq hb Jj hn
      |Bl e te kp=>exact absurd ht.1.2.1 (by simp)
      |part e te=>exact absurd ht.1.2.2 (by subst ea;exact λh=>h)) ht.1 h1 hp (λt Vz=>gU t (Bj _ Vz))
     exact rest al o' h2 h3 q1 q2 (λt h4 h5=>absurd h5 (by rw [h0 t h4];exact bj k)) (λt h4 _=>q3 t h4)
   cases c with
   |Fz τ=>exact same o ho (by simpa only [Ij] using he) (λt h4=>by rw [Acp h4];exact fP (by omega))
   |Bl e te kp=>exact absurd ht.1.2.1 (by simp)
   |row e te=>
    simp only [Ij] at he
    split at he
    ·rename_i al hp;exact row o.1 o.2 (λt ht=>Acq ht) ho.1 ho.2 ⟨al,hp,he⟩
    ·cases he
   |Hz e te=>
    simp only [Ij] at he
    split at he
    ·rename_i al hp;exact row o.1 o.2 (λt ht=>WZ ht) ho.1 ho.2 ⟨al,hp,he⟩
    ·cases he
   |part e te=>
    simp only [Ij] at he
    split at he
    ·rename_i al hp
     obtain ⟨q1,q2,q3⟩:=VV (k:=k) h ht.1 ho.1 hp (λt Vz=>gU t (Bj _ Vz))
     exact rest al o.2 ho.2 he q1 q2 (λt h4 h5=>absurd h5 (by rw [WY h4];exact bj k)) (λt h4 _=>q3 t h4)
    ·cases he
theorem MX {fr:Bool} {c:CK} {x:c.den} {u:Value} {r:Option Real} {D:Nat->Prop} (h:eV w' D r u c x):
  (we fr c x=none/\r=none)\/ ∃b',we fr c x=some b'/\ ∀(X:Ctx) π' H',(fr=true-> ∀q,r=some q->X.w0.heap.size<=q.g)->(∀b,Vy π' b\/X.Sc b->D b)->Cj X w' π' H' r b':=by
 cases c with
 |Fz τ=>exact .inl ⟨rfl,h.1⟩
 |row e te=>
  refine .inr ⟨_,rfl,λX π' H' zp hD=>?_⟩
  obtain ⟨_,h⟩:=h
  simp only [gm] at h
  simp only [Cj,Kg]
  cases r with
  |none=>exact h
  |some q=>
   obtain ⟨k1,cu,ti,k2,k3,k4,k5,k6⟩:=h
   exact ⟨⟨k1.1,k1.2,λh1=>zp (by simp only [Ag] at h1;exact h1.1) q rfl⟩,cu,ti,k2,k3,k4,k5,λi y hy=>by
    obtain ⟨es,g1,g2,g3⟩:=k6 i y hy
    exact ⟨es,g1,g2,ff hD g3⟩,λh=>by cases h⟩
 |Hz e te=>exact .inr ⟨_,rfl,λX π' H' _ _=>h.2⟩
 |Bl e te kp=>exact .inr ⟨_,rfl,λX π' H' _ hD=>⟨ay.It h.2 λb hb=>hD b (hb.imp id λh=>h.elim id λh=>by cases h.1),trivial⟩⟩
 |part e te=>
  refine .inr ⟨_,rfl,λX π' H' zp hD=>?_⟩
  obtain ⟨_,hf,h⟩:=h
  simp only [Cj,Kg]
  cases r with
  |none=>exact h
  |some q=>
   obtain ⟨k1,cu,ti,k2,k3,k4,k5,k6⟩:=h
   exact ⟨⟨k1.1,k1.2,λh1=>zp (by simp only [Ag] at h1;exact h1.1) q rfl⟩,cu,ti,k2,k3,k4,k5,λi y hy=>by
    obtain ⟨es,g1,g2,g3⟩:=k6 i y hy
    exact ⟨es,g1,g2,ff hD g3⟩,λh=>by cases h⟩
theorem qK {D:Nat->Prop} {key:Nat->Nat} (LU: ∀i j,key i=key j->i=j) {fr:Bool} {ρ:Pi} : ∀(cs:List CK) (k:Nat) (x:CKs.den cs) (us:List Value) (H:List (Nat×OB)),Jk w' D ρ k cs x us->
  (∀j,k<=j->j<k+cs.length->At H (key j)=none)->
  (∀l,(∀j,k<=j->j<k+cs.length->l≠key j)->At (Ym fr key k cs x H) l=At H l)/\
  (∀j,k<=j->j<k+cs.length->(At (Ym fr key k cs x H) (key j)=none/\ρ (Kj j)=none)\/
   ∃b',At (Ym fr key k cs x H) (key j)=some b'/\ ∀(X:Ctx) π' H',(fr=true-> ∀q,ρ (Kj j)=some q->X.w0.heap.size<=q.g)->(∀b,Vy π' b\/X.Sc b->D b)->Cj X w' π' H' (ρ (Kj j)) b')/\
  (∀π',(∀b,Vy π' b\/X.Sc b->D b)->(∀j,k<=j->j<k+cs.length->π' (key j)=ρ (Kj j))->Na X w' π' (Ym fr key k cs x H) (bY key k cs x) us)
 | [],k,x,[],H,_,_=>⟨λ_ _=>rfl,λj h1 h2=>by simp at h2;omega,λ_ _ _=>trivial⟩
 | [],_,_,_::_,_,h,_=>h.elim
 |_::_,_,_,[],_,h,_=>h.elim
 |c::r,k,x,u::us,H,h,hn=>by
  simp only [Aw] at hn⊢
  simp only [Ym,bY]
  have vH:=hn k (Ao _) (by omega)
  have hH1: ∀l,l≠key k->At (FW H (key k) (we fr c x.1)) l=At H l:=by
   intro l hl
   cases we fr c x.1 with
   |some b=>exact Pg _ _ _ _ hl
   |none=>rfl
  have Alz:At (FW H (key k) (we fr c x.1)) (key k)=we fr c x.1:=by
   cases we fr c x.1 with
   |some b=>exact Qn _ _ _ vH
   |none=>exact vH
  generalize (FW H (key k) (we fr c x.1))=H1 at hH1 Alz⊢
  obtain ⟨g1,g2,g3⟩:=qK LU (fr:=fr) r (k+1) x.2 us H1 h.2 (λj h1 h2=>by
   rw [hH1 _ λe=>by have:=LU _ _ e;omega];exact hn j (by omega) (by omega))
  have hkk:At (Ym fr key (k+1) r x.2 H1) (key k)=we fr c x.1:=by
   rw [g1 _ λj h1 h2 e=>by have:=LU _ _ e;omega];exact Alz
  refine ⟨λl hl=>?_,λj h1 h2=>?_,λπ' hd hπ=>⟨?_,?_⟩⟩
  ·rw [g1 l λj h1 h2=>hl j (by omega) (by omega)]
   exact hH1 l (hl k (Ao _) (by omega))
  ·rcases Nat.eq_or_lt_of_le h1 with e|h1
   ·subst e
    rw [hkk]
    exact MX h.1
   ·exact g2 j h1 (by omega)
  ·have h1:=h.1
   have hpk:=hπ k (Ao _) (by omega)
   cases c with
   |Fz τ=>
    obtain ⟨iH,c1,c2⟩:=h1.2
    exact ⟨iH,by have:=ff (fr:=true) hd c1;simpa using this,c2⟩
   |row e te=>exact ⟨_,e.size,List.length x.1,hkk,rfl,by simp,by rw [hpk];exact h1.1⟩
   |Hz e te=>exact ⟨_,e.size,List.length x.1,hkk,rfl,by simp,by rw [hpk];exact h1.1⟩
   |Bl e te kp=>exact ⟨_,1,List.length x.1,hkk,rfl,by simp,by rw [hpk];exact h1.1⟩
   |part e te=>trivial
  ·exact g3 π' hd λj h1 h2=>hπ j (by omega) (by omega)
theorem MN {ks:List Nat} {n:Nat} (h:zK ks n=true):ks.length=n/\ks.Nodup/\ ∀l∈ks,l<Bn:=by
 unfold zK at h
 simp only [Ag] at h
 refine ⟨Ju h.1,Yl h.2.1,λl hl=>?_⟩
 have:=Bf.1 h.2.2 l hl
 simpa using this
theorem Rp {ks:List Nat} {j:Nat} (h:j<ks.length):Ee ks j=ks[j]:=by
 unfold Ee
 rw [Ac h]
theorem EF {ks:List Nat} (hn:ks.Nodup) (hl: ∀l∈ks,l<Bn): ∀i j,Ee ks i=Ee ks j->i=j:=by
 intro i j h
 by_cases hi:i<ks.length
 ·by_cases hj:j<ks.length
  ·rw [Rp hi,Rp hj] at h
   rcases Nat.lt_trichotomy i j with Jj|he|Jj
   ·exact absurd h (Ds.1 hn i j hi hj Jj)
   ·exact he
   ·exact absurd h.symm (Ds.1 hn j i hj hi Jj)
  ·have h1:=hl _ (Al hi)
   rw [Rp hi] at h
   unfold Ee at h
   rw [Dz (by omega)] at h
   simp only at h
   omega
 ·by_cases hj:j<ks.length
  ·have h1:=hl _ (Al hj)
   rw [Rp hj] at h
   unfold Ee at h
   rw [Dz (by omega)] at h
   simp only at h
   omega
  ·unfold Ee at h
   rw [Dz (by omega),Dz (by omega)] at h
   simp only at h
   omega
theorem Nr: ∀(H:List (Nat×OB)) (dead:List Nat) (l:Nat),At (Xz H dead) l=if l∈dead then none else At H l
 | [],dead,l=>by simp [Xz,At]
 |(k,b)::r,dead,l=>by
  simp only [Xz]
  have ih:=Nr r dead l
  by_cases hk:k∈dead
  ·rw [Ab (by simpa using hk),ih]
   split
   ·rfl
   ·rename_i hl
    simp only [At]
    rw [Ak (λ(e:k=l)=>hl (e▸hk))]
  ·rw [Ak (by simpa using hk)]
   simp only [At]
   split
   ·rename_i e;subst e;rw [Ak hk]
   ·exact ih
theorem mem_keys {ks:List Nat} {l:Nat} :l∈ks↔ ∃k,k<ks.length/\l=Ee ks k:=
 ⟨λh=>by obtain ⟨k,hk,e⟩:=Nn h;exact ⟨k,hk,by rw [Rp hk,e]⟩,λ⟨k,hk,e⟩=>by rw [e,Rp hk];exact Al hk⟩
theorem eF {tks:List (Nat×Loc)} {l:Nat} :l∈mV tks↔ ∃t∈tks,(t.1<Bn/\t.2.reads=false)/\t.2.Xi=l:=by
 unfold mV
 simp only [Bg,Bt,Ag,Nf,Es]
 exact ⟨λ⟨t,⟨h1,h2⟩,h3⟩=>⟨t,h1,h2,h3⟩,λ⟨t,h1,h2,h3⟩=>⟨t,⟨h1,h2⟩,h3⟩⟩
theorem zL {tks:List (Nat×Loc)} (h:(tks.map λt=>t.2.Xi).Nodup) {t t':Nat×Loc} (ht:t∈tks) (vK:t'∈tks) (he:t.2.Xi=t'.2.Xi):t=t':=by
 induction tks with
 |nil=>cases ht
 |cons a r ih=>
  simp only [Bu] at h
  obtain ⟨h1,h2⟩:=Ce.1 h
  rcases Be.1 ht with rfl|ht<;>rcases Be.1 vK with rfl|vK
  ·rfl
  ·exact (h1 (Bg.2 ⟨t',vK,he.symm⟩)).elim
  ·exact (h1 (he▸Bg.2 ⟨t,‹t∈r›,rfl⟩)).elim
  ·exact ih h2 ht vK
theorem Jk.full {D:Nat->Prop} {ρ:Pi} : ∀(cs:List CK) (k:Nat) (x:CKs.den cs) (us:List Value),Jk w D ρ k cs x us->Jk w D (λl=>(ρ l).map full) k cs x us
 | [],_,_,[],h=>h
 | [],_,_,_::_,h=>h.elim
 |_::_,_,_,[],h=>h.elim
 |c::r,k,x,u::us,h=>⟨by
   have h1:=h.1
   show eV w D ((ρ (Kj k)).map _) u c x.1
   cases c with
   |Fz τ=>rw [h1.1];exact ⟨rfl,h1.2⟩
   |row e te=>cases hp:ρ (Kj k)<;>(rw [hp] at h1;exact h1)
   |Hz e te=>cases hp:ρ (Kj k)<;>(rw [hp] at h1;exact h1)
   |Bl e te kp=>cases hp:ρ (Kj k)<;>(rw [hp] at h1;exact h1)
   |part e te=>cases hp:ρ (Kj k)<;>(rw [hp] at h1;exact h1),Jk.full r (k+1) x.2 us h.2⟩
theorem Jk.Agb {D:Nat->Prop} {ρ:Pi} : ∀(cs:List CK) (k0:Nat) (x:CKs.den cs) (us:List Value),Jk w D ρ k0 cs x us-> ∀j,k0<=j->j<k0+cs.length-> ∀q,ρ (Kj j)=some q->q.Cv q.g
 | [],k0,_,_,_,j,h1,h2,_,_=>by simp at h2;omega
 |_::_,_,_,[],h,_,_,_,_,_=>h.elim
 |c::r,k0,x,u::us,ho,j,h1,h2,q,hq=>by
  rcases Nat.eq_or_lt_of_le h1 with e|h1
  ·subst e
   have:=ho.1
   cases c with
   |Fz τ=>rw [hq] at this;cases this.1
   |row e te=>rw [hq] at this;exact this.2.1.1
   |Hz e te=>rw [hq] at this;exact this.2.1
   |part e te=>rw [hq] at this;exact this.2.2.1.1
   |Bl e te kp=>rw [hq] at this;exact this.2.1
  ·exact Jk.Agb r (k0+1) x.2 us ho.2 j h1 (by simp at h2;omega) q hq
theorem Ta.any {D D':Nat->Prop} {r:Option Real} {e:Ty} {xs:List e.den} (hf:e.flat=true) (h:Ta w D r e xs):Ta w D' r e xs:=by
 cases r with
 |none=>exact h
 |some r=>
  obtain ⟨k1,cu,ti,k2,k3,k4,k5,k6⟩:=h
  exact ⟨k1,cu,ti,k2,k3,k4,k5,λi y hy=>by
   obtain ⟨es,g1,g2,g3⟩:=k6 i y hy
   exact ⟨es,g1,g2,Cells.flat e es y hf g3⟩⟩
theorem Jk.any {D D':Nat->Prop} {ρ:Pi} : ∀(cs:List CK) (k:Nat) (x:CKs.den cs) (us:List Value),cs.all (·.flat)=true->Jk w D ρ k cs x us->Jk w D' ρ k cs x us
 | [],_,_,[],_,h=>h
 | [],_,_,_::_,_,h=>h.elim
 |_::_,_,_,[],_,h=>h.elim
 |c::r,k,x,u::us,hf,h=>by
  simp only [Jp,Ag] at hf
  refine ⟨?_,Jk.any r (k+1) x.2 us hf.2 h.2⟩
  have h1:=h.1
  cases c with
  |Fz τ=>exact ⟨h1.1,Cw.flat hf.1 h1.2⟩
  |row e te=>exact ⟨h1.1,Ta.any hf.1 h1.2⟩
  |Hz e te=>exact h1
  |part e te=>exact ⟨h1.1,h1.2.1,Ta.any hf.1 h1.2.2⟩
  |Bl e te kp=>exact absurd hf.1 (by simp [CK.flat])
theorem Mj.any {D D':Nat->Prop} {π:Pi} : ∀(cs:List (Bool×CK)) (k:Nat) (x:IOs.den cs),(cs.all λp=>!p.1||p.2.flat)=true->Mj w D π k cs x->Mj w D' π k cs x
 | [],_,_,_,h=>h
 |(false,_)::r,k,x,hf,h=>Mj.any r (k+1) x (by simp only [Jp,Ag] at hf;exact hf.2) h
 |(true, .Fz _)::r,k,x,hf,h=>Mj.any r (k+1) x (by simp only [Jp,Ag] at hf;exact hf.2) h
 |(true, .Bl _ _ _)::r,k,x,hf,h=>Mj.any r (k+1) x (by simp only [Jp,Ag] at hf;exact hf.2) h
 |(true, .row e te)::r,k,x,hf,h=>by
  simp only [Jp,Ag,Bool.not_true,bz] at hf
  exact ⟨Ta.any hf.1 h.1,Mj.any r (k+1) x.2 hf.2 h.2⟩
 |(true, .Hz e te)::r,k,x,hf,h=>by
  simp only [Jp,Ag,Bool.not_true,bz] at hf
  exact ⟨h.1,Mj.any r (k+1) x.2 hf.2 h.2⟩
 |(true, .part e te)::r,k,x,hf,h=>by
  simp only [Jp,Ag,Bool.not_true,bz] at hf
  exact ⟨Ta.any hf.1 h.1,Mj.any r (k+1) x.2 hf.2 h.2⟩
theorem tU {tks:List (Nat×Loc)} {l:Nat} :l∈CN tks↔ ∃t∈tks,t.2.reads=true/\t.2.Xi=l:=by
 unfold CN
 simp only [Bg,Bt]
 exact ⟨λ⟨t,⟨h1,h2⟩,h3⟩=>⟨t,h1,h2,h3⟩,λ⟨t,h1,h2,h3⟩=>⟨t,⟨h1,h2⟩,h3⟩⟩
theorem Bi.nZ {st:St} {a:Act} (h:Bi X π st a w) {f:AC->AC} (hu:f .undef= .undef) {gv:Nat->Prop} (TY: ∀b,gv b->Vy π b) (hb:Ku w.heap.size gv w w')
  (ey: ∀b,b<w.heap.size->Vy π' b->Vy π b)
  (Ps: ∀l r b,π' l=some r->r.Cv b->r.cl b) (Aj3: ∀l r b,π' l=some r->r.cl b->(X.w0.heap.size<=b\/X.gv b)/\b<w'.heap.size)
  (Asm: ∀l l' r r' b,π' l=some r->π' l'=some r'->r.cl b->r'.cl b->l=l')
  (Zx: ∀l,Bn<=l->At H' l≠none->bB (X.ic l) (π' l))
  (hac:(∀fr τ cs x,Cells w (Da X.w0.heap.size X.Sc π fr) τ cs x->Cells w' (Da X.w0.heap.size X.Sc π' fr) τ cs x)-> ∀c v,Hv X w π st.heap c v->Hv X w' π' H' (f c) v)
  (LN:Move X w w' π π' st.heap H' f-> ∀l b,At H' l=some b->Cj X w' π' H' (π' l) b)
  (RR: ∀l,At H' l=none->π' l=none):
  Bi X π' {tmps:=st.tmps.map (·.map f),heap:=H'} a w':=by
 have hc: ∀fr τ cs x,Cells w (Da X.w0.heap.size X.Sc π fr) τ cs x->Cells w' (Da X.w0.heap.size X.Sc π' fr) τ cs x:= λfr τ cs x hh=>
  Cells.Fk hb.size (λk hk hn=>hb.block k hk λhg=>hn (.inl (TY k hg))) (λk Jj hA=>hA.imp (ey k Jj) id) τ cs x hh
 have m:Move X w w' π π' st.heap H' f:=⟨hac hc,hc⟩
 refine ⟨⟨⟨hb.os.trans h.1.below.os,hb.tape.trans h.1.below.tape,hb.output.trans h.1.below.output,Ib h.1.below.size hb.size,λk hk hn=>?_⟩,h.1.sc,Ps,Aj3,Asm,Zx,λl=>?_⟩,m.OG hu h.2⟩
 ·refine (hb.block k (Eg hk h.1.below.size) λhg=>?_).trans (h.1.below.block k hk hn)
  rcases (h.1.own (TY k hg)).2 with h1|h1
  ·omega
  ·exact hn h1
 ·cases hh:At H' l with
  |none=>exact Gp.Um (RR l hh) hh
  |some b=>exact Gp.Lu (LN m l b hh) hh
def gp:Option Real->Option Real->Prop
 |none,none=>True
 |some r,some r'=>r.g=r'.g/\r.o=r'.o/\r.cap=r'.cap
 |_,_=>False
theorem gp.rfl' (r:Option Real):gp r r:=by cases r<;>simp [gp]
theorem gp.some {r:Real} {r':Option Real} (h:gp (some r) r'): ∃q,r'=some q/\r.g=q.g/\r.o=q.o/\r.cap=q.cap:=by
 cases r' with
 |none=>exact h.elim
 |some q=>exact ⟨q,rfl,h⟩
theorem gp.own {r r':Option Real} (h:gp r r') {sz off len:Nat} {v:Value} (hv:Ih r sz off len v):Ih r' sz off len v:=by
 cases r<;>cases r'<;>first|exact h.elim|skip
 ·exact hv
 ·obtain ⟨h1,h2,h3⟩:=h
  obtain ⟨ad,g1,g2,g3⟩:=hv
  exact ⟨ad,by rw [<-h3];exact g1,by rw [<-h3];exact g2,by rw [<-h1,<-h2,<-h3];exact g3⟩
structure OB.Th (b b':OB):Prop where
 row: ∀sz n,b.row=some (sz,n)-> ∃n',b'.row=some (sz,n')/\n<=n'
 gD: ∀p,b.gD=some p->b'.gD=some p
 vX: ∀p,b.vX=some p->b'.vX=some p
 var: ∀tid vs,b= .var tid vs-> ∃Vc vs',b'= .var Vc vs'
 Vw: ∀v m,b= .Vw v m-> ∃m',b'= .Vw v m'
theorem OB.Th.map (f:AC->AC) (b:OB):b.Th (b.map f) where
 row:= λsz n h=>⟨n,by cases b<;>exact h,Ao _⟩
 gD:= λp h=>by cases b<;>exact h
 vX:= λp h=>by cases b<;>exact h
 var:= λtid vs h=>by subst h;exact ⟨_,_,rfl⟩
 Vw:= λv m h=>by subst h;exact ⟨_,rfl⟩
theorem OB.Th.rfl' (b:OB):b.Th b where
 row:= λ_sz n h=>⟨n,h,Ao _⟩
 gD:= λ_p h=>h
 vX:= λ_p h=>h
 var:= λ_tid _vs h=>⟨_,_,h⟩
 Vw:= λ_v _m h=>⟨_,h⟩
theorem OB.Th.trans {a b c:OB} (h:a.Th b) (k:b.Th c):a.Th c where
 row:= λsz n hr=>by
  obtain ⟨n1,h1,h2⟩:=h.row sz n hr
  obtain ⟨n2,h3,h4⟩:=k.row sz n1 h1
  exact ⟨n2,h3,by omega⟩
 gD:= λp hp=>k.gD p (h.gD p hp)
 vX:= λp hp=>k.vX p (h.vX p hp)
 var:= λtid vs hv=>by obtain ⟨t',v',h1⟩:=h.var tid vs hv;exact k.var t' v' h1
 Vw:= λv m hm=>by obtain ⟨m',h1⟩:=h.Vw v m hm;exact k.Vw v m' h1
theorem nY {f:AC->AC} {D Pt:Nat->Prop} (hf: ∀c,f c= .undef\/(f c=c/\(∀k∈c.refs,¬D k)/\ ∀k i j,c= .sub k i j\/c= .Kf k i j-> ¬Pt k)) (hp: ∀k,¬D k->gp (π k) (π' k))
  (hH: ∀k b,¬D k->At H k=some b-> ∃b',At H' k=some b'/\b.Th b')
  (hg: ∀k r b,¬D k-> ¬Pt k->At H k=some b->b.gD≠none->π k=some r->w'.heap[r.g]?=w.heap[r.g]?)
  (hc: ∀fr τ cs x,Cells w (Da X.w0.heap.size X.Sc π fr) τ cs x->Cells w' (Da X.w0.heap.size X.Sc π' fr) τ cs x): ∀c v,Hv X w π H c v->Hv X w' π' H' (f c) v:=by
 intro c v h
 rcases hf c with e|⟨e,hr,hs⟩
 ·rw [e];trivial
 rw [e]
 cases c with
 |data fr τ x=>obtain ⟨cs,h1,h2⟩:=h;exact ⟨cs,hc _ _ _ _ h1,h2⟩
 |own k off len=>
  obtain ⟨b,sz,n,h1,h0,h2,h3⟩:=h
  have hk:=hr k (by simp [AC.refs])
  obtain ⟨b',g1,g2⟩:=hH k b hk h1
  obtain ⟨n',g3,g4⟩:=g2.row sz n h0
  exact ⟨b',sz,n',g1,g3,by omega,(hp k hk).own h3⟩
 |Hr k i=>
  obtain ⟨r,tid,vs,h1,h2,h3⟩:=h
  have hk:=hr k (by simp [AC.refs])
  obtain ⟨b',g1,g2⟩:=hH k _ hk h1
  obtain ⟨Vc,vs',rfl⟩:=g2.var tid vs rfl
  obtain ⟨q,q1,q2,_⟩:=(h2▸hp k hk).some
  exact ⟨q,Vc,vs',g1,q1,by rw [<-q2];exact h3⟩
 |Ki k i=>
  obtain ⟨r,b,sz,n,h1,h0,h2,h3,h4⟩:=h
  have hk:=hr k (by simp [AC.refs])
  obtain ⟨b',g1,g2⟩:=hH k b hk h1
  obtain ⟨n',g3,g4⟩:=g2.row sz n h0
  obtain ⟨q,q1,q2,q3,_⟩:=(h3▸hp k hk).some
  exact ⟨q,b',sz,n',g1,g3,by omega,q1,by rw [<-q2,<-q3];exact h4⟩
 |sub k i c=>
  obtain ⟨r,b,sz,n,h1,h0,h2,h3,h4,h5⟩:=h
  have hk:=hr k (by simp [AC.refs])
  obtain ⟨b',g1,g2⟩:=hH k b hk h1
  obtain ⟨q,q1,q2,q3,_⟩:=(h2▸hp k hk).some
  exact ⟨q,b',sz,n,g1,g2.gD _ h0,q1,h3,h4,by rw [<-q2,<-q3,World.cell?_of_block (hg k r b hk (hs k i c (.inl rfl)) h1 (by rw [h0];simp) h2)];exact h5⟩
 |Kf k i c=>
  obtain ⟨r,b,n,sz,g,o,len,cap,h1,h0,h2,h3,h4,h5,h6⟩:=h
  have hk:=hr k (by simp [AC.refs])
  obtain ⟨b',g1,g2⟩:=hH k b hk h1
  obtain ⟨q,q1,q2,q3,_⟩:=(h2▸hp k hk).some
  exact ⟨q,b',n,sz,g,o,len,cap,g1,g2.vX _ h0,q1,h3,h4,by rw [<-q2,<-q3,World.cell?_of_block (hg k r b hk (hs k i c (.inr rfl)) h1 (by cases b<;>first|(cases h0;done)|simp [OB.gD]) h2)];exact h5,h6⟩
 |clo g Ef=>
  obtain ⟨us,h1,h2,h3⟩:=h
  refine ⟨us,h1,h2,λj p hpj=>?_⟩
  obtain ⟨r,tid,vs,h4,h5,h6⟩:=h3 j p hpj
  have hk:=hr p.1 (by simp only [AC.refs,Bg];exact ⟨p,Cl hpj,rfl⟩)
  obtain ⟨b',g1,g2⟩:=hH p.1 _ hk h4
  obtain ⟨Vc,vs',rfl⟩:=g2.var tid vs rfl
  obtain ⟨q,q1,q2,_⟩:=(h5▸hp p.1 hk).some
  exact ⟨q,Vc,vs',g1,q1,by rw [<-q2];exact h6⟩
 |Kq k=>
  obtain ⟨r,vt,m,h1,h2,h3⟩:=h
  have hk:=hr k (by simp [AC.refs])
  obtain ⟨b',g1,g2⟩:=hH k _ hk h1
  obtain ⟨m',rfl⟩:=g2.Vw vt m rfl
  obtain ⟨q,q1,q2,_⟩:=(h2▸hp k hk).some
  exact ⟨q,vt,m',g1,q1,by rw [<-q2];exact h3⟩
 |_=>exact h
theorem Vi (H0:List (Nat×OB)) (ls:List Nat) (n:Nat): ∀(H:List (Nat×OB)) (l:Nat),At (dw H0 ls n H) l=(At H l).map λb=>if ls.contains l then b.IF (bV n (Ajq (At H0 l))) else b
 | [],_=>rfl
 |(k,b)::r,l=>by
  simp only [dw,At]
  split
  ·rename_i e;subst e;rfl
  ·exact Vi H0 ls n r l
theorem OB.BD (b:OB) (kp:Option (Nat×Nat)):b.Th (b.IF kp):=by
 cases b with
 |Bl e te rows out kp0=>exact ⟨λsz n h=>⟨n,h,Ao _⟩,λp h=>h,λp h=>h,(λ_ _ h=>by cases h),(λ_ _ h=>by cases h)⟩
 |_=>exact OB.Th.rfl' _
theorem fY (ls:List Nat): ∀(l m:List AV) (t:Nat),l.length=m.length->(∃k i c,l.getD t .undef= .at (.sub k i c)/\ls.contains k=true/\(Lw ls l m).getD t .undef= .at (.sub k i c))\/(Lw ls l m).getD t .undef=m.getD t .undef
 | [],m,t,_=>by cases m<;>exact .inr rfl
 |_::_,[],t,h=>by simp at h
 |a::l,v::m,t,h=>by
  have ih:= λt=>fY ls l m t (by simpa using h)
  have tail: ∀u,Lw ls (a::l) (v::m)=u::Lw ls l m->(t=0->(∃k i c,(a::l).getD t .undef= .at (.sub k i c)/\ls.contains k=true/\u= .at (.sub k i c))\/u=v)->
    (∃k i c,(a::l).getD t .undef= .at (.sub k i c)/\ls.contains k=true/\(Lw ls (a::l) (v::m)).getD t .undef= .at (.sub k i c))\/(Lw ls (a::l) (v::m)).getD t .undef=(v::m).getD t .undef:=by
   intro u e h0
   rw [e]
   rcases t with _|t
   ·rcases h0 rfl with ⟨k,i,c,h1,h2,h3⟩|h3
    ·exact .inl ⟨k,i,c,h1,h2,by simpa using h3⟩
    ·exact .inr (by simpa using h3)
   ·simpa only [Nm] using ih t
  cases a with
  | «at»c=>
   cases c with
   |sub k i c=>
    refine tail _ rfl λht=>?_
    subst ht
    by_cases hc:ls.contains k=true
    ·exact .inl ⟨k,i,c,rfl,hc,by rw [Ab hc]⟩
    ·exact .inr (by rw [Ak hc])
   |_=>exact tail _ rfl λ_=> .inr rfl
  |_=>exact tail _ rfl λ_=> .inr rfl
theorem vf {H:List (Nat×OB)} {ls:List Nat} {n:Nat} : ∀ {l:List AV} {t k i c:Nat},dG H ls n l=true->l.getD t .undef= .at (.sub k i c)->ls.contains k=true->i<n/\i<rP H k
 | [],t,k,i,c,_,h,_=>by simp at h
 |a::l,0,k,i,c,ho,h,hc=>by
  simp only [Xr] at h
  subst h
  simp only [dG,hc,Bool.not_true,bz,Ag,Nf] at ho
  exact ho.1
 |a::l,t+1,k,i,c,ho,h,hc=>by
  refine vf (l:=l) (t:=t) (c:=c) ?_ (by simpa only [Nm] using h) hc
  cases a with
  | «at»d=>cases d with
   |sub _ _ _=>simp only [dG,Ag] at ho;exact ho.2
   |_=>exact ho
  |_=>exact ho
theorem MK {cp st:St} {a:Act} (h0:Bi X π cp a w) (h:Bi X π' st a w') {ls:List Nat} {n:Nat} (hk: ∀l∈ls,DI w w' (π l) (π' l) n) (tf: ∀l∈ls,nE cp.heap l=true)
  (l4:dG st.heap ls n cp.tmps=true):Bi X π' (m8 cp st ls n) a w'/\ ∀c v,Bs X w' π' st.heap c v->Bs X w' π' (m8 cp st ls n).heap c v:=by
 by_cases rj:ls= []
 ·subst rj;exact ⟨h,λ_ _ h=>h⟩
 have Uh:m8 cp st ls n= {tmps:=Lw ls cp.tmps st.tmps,heap:=dw cp.heap ls n st.heap} :=by
  cases ls with
  |nil=>exact absurd rfl rj
  |cons _ _=>rfl
 rw [Uh]
 have hg0: ∀l∈ls,∃e te rows out kp,At cp.heap l=some (.Bl e te rows out kp):= λl hl=>by
  have:=tf l hl
  unfold nE at this
  split at this
  ·exact ⟨_,_,_,_,_,by assumption⟩
  ·cases this
 have srv: ∀k b,At st.heap k=some b-> ∃b',At (dw cp.heap ls n st.heap) k=some b'/\b.Th b':= λk b hb=>by
  rw [Vi,hb]
  refine ⟨_,rfl,?_⟩
  dsimp only
  split
  ·exact OB.BD b _
  ·exact OB.Th.rfl' b
 have hac:(∀fr τ cs x,Cells w' (Da X.w0.heap.size X.Sc π' fr) τ cs x->Cells w' (Da X.w0.heap.size X.Sc π' fr) τ cs x)-> ∀c v,Hv X w' π' st.heap c v->Hv X w' π' (dw cp.heap ls n st.heap) c v:= λhc=>
  nY (f:= λc=>c) (D:= λ_=>False) (Pt:= λ_=>False) (λc=> .inr ⟨rfl,λ_ _ h=>h,λ_ _ _ _ h=>h⟩) (λk _=>gp.rfl' _) (λk b _ hb=>srv k b hb) (λ_ _ _ _ _ _ _ _=>rfl) hc
 have h1:Bi X π' {tmps:=st.tmps.map (·.map λc=>c),heap:=dw cp.heap ls n st.heap} a w':=by
  refine h.nZ rfl (gv:= λ_=>False) (λ_ hf=>hf.elim) (Ku.refl _ _ _) (λ_ _ ho=>ho) h.1.sub h.1.place h.1.inj (λl hl Iz=>h.1.ic l hl λh2=>Iz (by rw [Vi,h2];rfl)) hac (λm l b hb=>?_) (λl hl=>?_)
  ·rw [Vi] at hb
   cases h2:At st.heap l with
   |none=>rw [h2] at hb;cases hb
   |some b0=>
    rw [h2] at hb
    simp only [Am,Aa] at hb
    have hbk:=(h.1.heap l).Ro h2
    have JZ:=hbk.move m (Ao _) (λr0 c h0 h1=>h.1.sub _ r0 c h0 h1) λ_ _ _ _ _=>rfl
    rw [show OB.map (λc=>c) b0=b0 from OB.GQ b0] at JZ
    split at hb
    ·rename_i hc
     have hl:l∈ls:=by simpa using hc
     cases b0 with
     |Bl e te rows out kp=>
      simp only [OB.IF] at hb
      subst hb
      refine ⟨JZ.1,?_⟩
      obtain ⟨e0,te0,Ahl,Au7,kp0,hg⟩:=hg0 l hl
      have vH:=((h0.1.heap l).Ro hg).2
      rw [hg]
      simp only [Ajq]
      have vZ:=hk l hl
      cases kp0 with
      |none=>trivial
      |some p=>
       obtain ⟨l0,n0⟩:=p
       simp only [KeptAt,bV] at vH⊢
       cases zv:X.ic l0 with
       |none=>
        cases hp:π l with
        |none=>
         rw [hp] at vZ
         cases nA:π' l with
         |none=>trivial
         |some q=>rw [nA] at vZ;exact vZ.elim
        |some q=>rw [zv,hp] at vH;exact vH.elim
       |some r0=>
        cases hp:π l with
        |none=>rw [zv,hp] at vH;exact vH.elim
        |some q=>
         rw [zv,hp] at vH
         rw [hp] at vZ
         cases nA:π' l with
         |none=>rw [nA] at vZ;exact vZ.elim
         |some q'=>
          rw [nA] at vZ
          obtain ⟨k1,k2,k3,k4⟩:=vZ
          obtain ⟨g1,g2,g3,g4⟩:=vH
          refine ⟨k1.trans g1,k2.trans g2,k3.trans g3,λj hj hc=>?_⟩
          have e1:=g4 j (by omega) hc
          have e2:=k4 j (by omega) (by omega)
          rw [g1,g2] at e2
          rw [<-e1,e2]
     |_=>simp only [OB.IF] at hb;subst hb;exact JZ
    ·subst hb;exact JZ
  ·rw [Vi] at hl
   cases h2:At st.heap l with
   |none=>exact (h.1.heap l).emp h2
   |some b=>rw [h2] at hl;cases hl
 have RJ: ∀c v,Bs X w' π' st.heap c v->Bs X w' π' (dw cp.heap ls n st.heap) c v:= λc v hv=>by
  have m:Move X w' w' π' π' st.heap (dw cp.heap ls n st.heap) (λc=>c):=⟨hac λ_ _ _ _ h=>h,λ_ _ _ _ h=>h⟩
  have:=m.av hv
  rwa [AC.map_id] at this
 refine ⟨⟨h1.1,⟨?_,h.2.defers,λt=>?_⟩⟩,RJ⟩
 ·have: ∀(l m:List AV),(Lw ls l m).length=m.length:=by
   intro l
   induction l with
   |nil=>intro m;cases m<;>rfl
   |cons a l ih=>
    intro m
    cases m with
    |nil=>cases a with
     | «at»c=>cases c<;>rfl
     |_=>rfl
    |cons v m=>cases a with
     | «at»c=>cases c<;>simp only [Lw,Aw,ih m]
     |_=>simp only [Lw,Aw,ih m]
  show a.tmps.size=(Lw ls cp.tmps st.tmps).length
  rw [this];exact h.2.size
 ·show Bs X w' π' _ ((Lw ls cp.tmps st.tmps).getD t .undef) _
  rcases fY ls cp.tmps st.tmps t (by rw [<-h0.2.size,<-h.2.size]) with ⟨k,i,c,g1,g2,g3⟩|g
  ·rw [g3]
   have Rk:k∈ls:=by simpa using g2
   obtain ⟨i1,i2⟩:=vf l4 g1 g2
   have hv:=h0.2.tmps t
   rw [show cp.get t=_ from g1] at hv
   obtain ⟨r,b,sz,n',e1,e2,e3,e4,⟨e5,e6⟩,e7⟩:=hv
   obtain ⟨e0,te0,Ahl,Au7,kp0,hg⟩:=hg0 k Rk
   rw [hg] at e1;cases e1
   simp only [OB.gD,Aa,Ae] at e2
   obtain ⟨rfl,rfl⟩:=e2
   have vZ:=hk k Rk
   rw [e3] at vZ
   cases nA:π' k with
   |none=>rw [nA] at vZ;exact vZ.elim
   |some q'=>
    rw [nA] at vZ
    obtain ⟨k1,k2,k3,k4⟩:=vZ
    have tb:Ahl.length<=r.cap:=by
     have:=((h0.1.heap k).Ro hg).1
     rw [e3] at this
     obtain ⟨_,_,_,_,_,_,h5,_⟩:=this
     exact h5
    unfold rP at i2
    split at i2
    ·rename_i e9 te9 Aoy Azm kp9 hg9
     refine ⟨q',_,1,Aoy.length,by rw [Vi,hg9];rfl,?_,nA,i2,⟨e5,e6⟩,?_⟩
     ·dsimp only
      split<;>rfl
     ·have jU:c=0:=by omega
      subst jU
      rw [k1,k2]
      rw [Fm,Er] at e7⊢
      rw [k4 i i1 (by omega)];exact e7
    ·omega
  ·rw [g]
   exact RJ _ _ (h.2.tmps t)
theorem pF {ins:List (Bool×CK)} {as:List AC} {pl:List Nat} {st:St} :(rq ins as pl st).tmps=st.tmps:=by
 unfold rq
 split
 ·rfl
 ·split<;>rfl
theorem OP {ins:List (Bool×CK)} {as:List AC} {pl:List Nat} {st:St} {m:Nat} (hm:m∉pl):At (rq ins as pl st).heap m=At st.heap m:=by
 unfold rq
 split
 ·rfl
 ·rename_i l r
  split
  ·exact Ec _ _ _ _ λe=>hm (e▸Mc)
  ·rfl
theorem WB {ins:List (Bool×CK)} {as:List AC} {l:Nat} {st:St} {tid:TypeId} {vs:List AC} (hl:At st.heap l=some (.var tid vs)):At (rq ins as [l] st).heap l=some (.var tid (gK ins vs as)):=by
 simp only [rq,St.at,hl]
 exact Ez _ _ _ _ hl
theorem yl {α:Type} (ins:List (Bool×CK)) (as:List α):gK ins [] as= []:=by
 rcases ins with _|⟨⟨_|_,c⟩,r⟩<;>rfl
theorem pB {α:Type} : ∀(ins:List (Bool×CK)) (vs as:List α),(gK ins vs as).length=vs.length
 | [],vs,as=>by rw [gK];all_goals simp
 |p::r,[],as=>by rw [yl]
 |(true,c)::r,v::vs,as=>by simp only [gK,Aw,pB r vs as]
 |(false,c)::r,v::vs,[]=>by rw [gK];all_goals simp
 |(false,c)::r,v::vs,a::as=>by simp only [gK,Aw,pB r vs as]
theorem VS {st:St} {a:Act} (h:Bi X π st a w) {s:MSpec} {mO:List AV} {vs:List Value} (hlen:mO.length=vs.length) (RJ: ∀(i:Nat) c v,mO[i]?=some c->vs[i]?=some v->Bs X w π st.heap c v)
  {pl:List Nat} {cells:List AC} {rest:List AV} (he:SM st s mO=some (pl,cells,rest)):
  ∃(g:Nat) (cus yI:List Value),rest.length=yI.length/\(∀(i:Nat) c v,rest[i]?=some c->yI[i]?=some v->Bs X w π st.heap c v)/\Na X w π st.heap cells cus/\
   ((s.ptr=none/\pl= []/\cells= []/\cus= []/\vs=yI)\/
    ∃p l q,s.ptr=some p/\pl= [l]/\π l=some q/\q.Cv q.g/\g=q.g/\At st.heap l=some (.var p.1 cells)/\cells.length=p.2/\vs= .pointer (some ⟨g,0,none⟩)::yI/\w.heap[g]?=some (.cells cus.toArray p.1 (0,0))/\Gc X w π st.heap cells cus):=by
 unfold SM at he
 split at he
 ·rename_i hp
  simp only [Aa,Ae] at he
  obtain ⟨rfl,rfl,rfl⟩:=he
  exact ⟨0,[],vs,hlen,RJ,trivial, .inl ⟨hp,rfl,rfl,rfl,rfl⟩⟩
 ·rename_i p hp
  split at he
  ·rename_i l i Awb
   split at he
   ·rename_i tid cs hl
    split at he
    ·rename_i hc
     obtain ⟨rfl,hc,rfl⟩:=hc
     simp only [Aa,Ae] at he
     obtain ⟨rfl,rfl,rfl⟩:=he
     unfold St.at at hl
     cases vs with
     |nil=>simp at hlen
     |cons v vs=>
      obtain ⟨r,Vc,vs',h1,h2,rfl⟩:=RJ 0 _ v rfl rfl
      rw [hl] at h1;cases h1
      obtain ⟨r',h3,h4,cur,h5,h6⟩:=(h.1.heap l).Ro hl
      rw [h2] at h3;cases h3
      exact ⟨r.g,cur.toList,vs,by simpa using hlen,λi c v h7 h8=>RJ (i+1) c v (by simpa using h7) (by simpa using h8),Na.of h6, .inr ⟨p,l,r,hp,rfl,h2,h4,rfl,hl,hc,rfl,by simpa using h5,h6⟩⟩
    ·cases he
   ·cases he
  ·cases he
theorem kl {V:List Nat} {πc:Pi} {dead part:List Nat} (hπ: ∀l,l∉dead->π' l=π l) (Kd: ∀l b sz n,l∉dead->At H l=some b->b.row=some (sz,n)-> ∃b',At H' l=some b'/\b'.row=some (sz,n)):
  ∀(ins:List (Bool×CK)) (k:Nat) (cells oB:List AC) (x:Ins.den ins) (us:List Value) (o:IOs.den ins) (cur st1:St) (news:List AC) (Xh cs:List Value),r6 X w π V H πc k ins x (cells++oB) us->Wl ins cells=true->
   Ij ins o (cells++oB) cur=some st1->Ev πc k ins o cells.length cs Xh->Na X w' π' H' news Xh->Na X w' π' H' (gK ins (cells.map (Cs dead part)) news) cs
 |ins,k,[],oB,x,us,o,cur,st1,news,Xh,cs,_,_,_,hb,_=>by
  have hb:cs= []:=by rcases ins with _|⟨⟨_|_,c⟩,r⟩<;>(try cases c)<;>simpa [Ev] using hb
  rw [hb,List.map_nil,yl]
  trivial
 | [],k,a::cells,oB,x,us,o,cur,st1,news,Xh,cs,_,hk,_,_,_=>by simp [Wl] at hk
 |(true, .Fz τ)::r,k,a::cells,oB,x,us,o,cur,st1,news,Xh,cs,_,hk,_,_,_=>by simp [Wl] at hk
 |(true, .part e te)::r,k,a::cells,oB,x,us,o,cur,st1,news,Xh,cs,_,hk,_,_,_=>by simp [Wl] at hk
 |(true, .Bl e te _)::r,k,a::cells,oB,x,us,o,cur,st1,news,Xh,cs,_,hk,_,_,_=>by simp [Wl] at hk
 |(true, .row e te)::r,k,a::cells,oB,x,us,o,cur,st1,news,Xh,cs,ht,hk,hp,hb,hn=>by
  cases a<;>simp only [Wl,Dd] at hk
  rename_i l off len
  cases us with
  |nil=>exact ht.elim
  |cons u0 us=>
  cases cs with
  |nil=>exact hb.elim
  |cons u cs=>
  obtain ⟨⟨_,h1⟩,h2⟩:=ht
  simp only [Tu] at h1
  obtain ⟨h3,rfl,rfl,fr,tr,h4⟩:=h1
  obtain ⟨h5,h6⟩:=hb
  simp only [Oz,Ij] at hp
  split at hp
  rotate_left
  ·cases hp
  rename_i al hpc
  have RP:List.length o.1=List.length x.1:=by
   simp only [cy] at hpc
   repeat' split at hpc
   all_goals first|(cases hpc;done)|(rename_i hc;exact hc.2.1)
  refine ⟨?_,kl hπ Kd r (k+1) cells oB x.2 us o.2 al st1 news Xh cs h2 hk hp h6 hn⟩
  by_cases hd:l∈dead
  ·have:Cs dead part (.own l 0 (List.length x.1))= .undef:=by
    unfold Cs
    rw [Ab (by simp [AC.refs,hd])]
   rw [this];trivial
  ·rw [cJ (by simpa [AC.refs] using hd) (by intro l i j e;rcases e with e|e<;>cases e)]
   obtain ⟨b',g1,g2⟩:=Kd l _ e.size (List.length x.1) hd h4 rfl
   refine ⟨b',e.size,List.length x.1,g1,g2,by omega,?_⟩
   rw [hπ l hd]
   rw [h3,RP] at h5
   cases hp:π l<;>(rw [hp] at h5;exact h5)
 |(true, .Hz e te)::r,k,a::cells,oB,x,us,o,cur,st1,news,Xh,cs,ht,hk,hp,hb,hn=>by
  cases a<;>simp only [Wl,Dd] at hk
  rename_i l off len
  cases us with
  |nil=>exact ht.elim
  |cons u0 us=>
  cases cs with
  |nil=>exact hb.elim
  |cons u cs=>
  obtain ⟨⟨_,h1⟩,h2⟩:=ht
  simp only [Tu] at h1
  obtain ⟨h3,rfl,rfl,h4⟩:=h1
  obtain ⟨h5,h6⟩:=hb
  simp only [Oz,Ij] at hp
  split at hp
  rotate_left
  ·cases hp
  rename_i al hpc
  have RP:List.length o.1=List.length x.1:=by
   simp only [cy] at hpc
   repeat' split at hpc
   all_goals first|(cases hpc;done)|(rename_i hc;exact hc.2.1)
  refine ⟨?_,kl hπ Kd r (k+1) cells oB x.2 us o.2 al st1 news Xh cs h2 hk hp h6 hn⟩
  by_cases hd:l∈dead
  ·have:Cs dead part (.own l 0 (List.length x.1))= .undef:=by
    unfold Cs
    rw [Ab (by simp [AC.refs,hd])]
   rw [this];trivial
  ·rw [cJ (by simpa [AC.refs] using hd) (by intro l i j e;rcases e with e|e<;>cases e)]
   obtain ⟨b',g1,g2⟩:=Kd l _ e.size (List.length x.1) hd h4 rfl
   refine ⟨b',e.size,List.length x.1,g1,g2,by omega,?_⟩
   rw [hπ l hd]
   rw [h3,RP] at h5
   cases hp:π l<;>(rw [hp] at h5;exact h5)
 |(false,c)::r,k,a::cells,oB,x,[],o,cur,st1,news,Xh,cs,ht,hk,hp,hb,hn=>ht.elim
 |(false,c)::r,k,a::cells,oB,x,u0::us,o,cur,st1,news,Xh,[],ht,hk,hp,hb,hn=>by cases c<;>exact hb.elim
 |(false,c)::r,k,a::cells,oB,x,u0::us,o,cur,st1,news,[],u::cs,ht,hk,hp,hb,hn=>by cases c<;>exact hb.elim
 |(false,c)::r,k,a::cells,oB,x,u0::us,o,cur,st1,[],u'::Xh,u::cs,ht,hk,hp,hb,hn=>hn.elim
 |(false,c)::r,k,a::cells,oB,x,u0::us,o,cur,st1,na::news,u'::Xh,u::cs,ht,hk,hp,hb,hn=>by
  have hb2:u=u'/\Ev πc (k+1) r o cells.length cs Xh:=by cases c<;>exact hb
  obtain ⟨rfl,hb3⟩:=hb2
  have hp:Ij r o (cells++oB) cur=some st1:=by cases c<;>simpa only [Oz,Ij] using hp
  have hk:Wl r cells=true:=by cases c<;>simpa only [Wl] using hk
  exact ⟨hn.1,kl hπ Kd r (k+1) cells oB x.2 us o cur st1 news Xh cs ht.2 hk hp hb3 hn.2⟩
theorem JE {V:List Nat} {πc:Pi} : ∀(cs:List (Bool×CK)) (k0:Nat) (x:Ins.den cs) (as:List AC) (us:List Value),k0+cs.length<100000->r6 X w π V H πc k0 cs x as us-> ∀k l,(Dy false k,Loc.row l)∈Lx k0 cs as->πc (Dy false k)=(π l).map full
 | [],_,_,[],_,_,_,_,_,h=>by cases h
 | [],_,_,_::_,_,_,_,_,_,h=>by cases h
 |_::_,_,_,[],_,_,_,_,_,h=>by cases h
 |_::_,_,_,_::_,[],_,h,_,_,_=>h.elim
 |(io,c)::r,k0,x,a::as,u::us,hk,h,k,l,ht=>by
  simp only [Aw] at hk
  simp only [Lx] at ht
  rcases Az.1 ht with ht|ht
  ·obtain ⟨⟨_,h1⟩,_⟩:=h
   cases c with
   |Fz τ=>cases a<;>simp [Ql,views] at ht
   |row e te=>
    cases a<;>simp [Ql] at ht
    obtain ⟨e1,rfl⟩:=ht
    simp only [Tu] at h1
    rw [e1];exact h1.1
   |Hz e te=>
    cases a<;>simp [Ql] at ht
    obtain ⟨e1,rfl⟩:=ht
    simp only [Tu] at h1
    rw [e1];exact h1.1
   |part e te=>
    cases a<;>simp [Ql] at ht
    obtain ⟨e1,rfl⟩:=ht
    simp only [Tu] at h1
    rw [e1];exact h1.2.1
   |Bl e te kp=>
    cases a<;>simp [Ql] at ht
    obtain ⟨e1,rfl⟩:=ht
    simp only [Tu] at h1
    rw [e1];exact h1.2.1
  ·exact JE r (k0+1) x.2 as us (by omega) h.2 k l ht
theorem r8 {st:St} {a:Act} (h:Bi X π st a w) {f:FuncId} {s:MSpec} (hs:Cp P f s) (dst:Option Nat) (mO:List AV) (vs:List Value) (hlen:mO.length=vs.length)
  (RJ: ∀(i:Nat) c v,mO[i]?=some c->vs[i]?=some v->Bs X w π st.heap c v) (av:AV) (st':St) (he:Yc st dst s mO=some (av,st')):
  Calls P f vs.toArray w λe w'=> ∃v,e= .returned v/\ ∃π',Bi X π' st' a w'/\Bs X w' π' st'.heap av v:=by
 unfold Yc at he
 split at he
 ·cases he
 rename_i pl cells rest Ata
 split at he
 ·cases he
 rename_i oB oE
 split at he
 ·cases he
 rename_i x tks htk
 split at he
 rotate_left
 ·cases he
 rename_i Jx
 simp only [Ag,Nf] at Jx
 obtain ⟨⟨⟨⟨KD,tp⟩,hon⟩,Zw⟩,Amp,UC⟩:=Jx
 have UC: ∀l∈pl,l∉(tks.map λt=>t.2.Xi)/\l∉Sj s tks (dst.getD 0):= λl hl=>by
  have:=Bf.1 UC l hl
  simp only [Es,<-Ge,Js] at this
  exact ⟨λhm=>this (Bj _ hm),λhm=>this (Ci _ hm)⟩
 split at he
 ·cases he
 rename_i r o hfn
 split at he
 ·cases he
 rename_i st1 Aa4
 obtain ⟨g,cus,yI,ZZ,As0,Atd,cw⟩:=VS h hlen RJ Ata
 obtain ⟨wX,rfl,FQ,Atc⟩:=ae s.Ii rest yI oB ZZ As0 oE
 have hrc:=Atd.append Atc
 have Ra:oF s w g (cus++wX) vs:=by
  unfold oF
  rcases cw with ⟨h1,_,_,h2,h3⟩|⟨p,l,q,h1,_,_,_,_,_,h2,h3,h4,h5⟩
  ·rw [h1];subst h2;exact ⟨h3,FQ⟩
  ·rw [h1]
   have hl:cus.length=p.2:=h5.1.trans h2
   simp only
   rw [List.drop_append_of_le_length (by omega),List.take_append_of_le_length (by omega),List.take_of_length_le (by omega),List.drop_of_length_le (by omega)]
   refine ⟨h3,FQ,by simp;omega,h4,λu hu=>?_⟩
   obtain ⟨i,hi,rfl⟩:=Bh.1 hu
   obtain ⟨u',h6,h7,_⟩:=h5.2 i (cells[i]'(by have:=h5.1;omega)) (Ac _)
   rw [Ac hi] at h6
   rw [Bd h6];exact h7
 have UD: ∀l∈pl,∃p q,s.ptr=some p/\pl= [l]/\π l=some q/\q.Cv q.g/\g=q.g/\At st.heap l=some (.var p.1 cells)/\cells.length=p.2:= λl hl=>by
  rcases cw with ⟨_,h1,_⟩|⟨p,l',q,h1,h2,h3,h4,h5,h6,h7,_⟩
  ·rw [h1] at hl;cases hl
  ·rw [h2] at hl
   have:=Ad.1 hl
   subst this
   exact ⟨p,q,h1,h2,h3,h4,h5,h6,h7⟩
 have TY: ∀b,s.gv g b-> ∃l∈pl,∃q,π l=some q/\q.Cv b/\b=q.g:= λb ⟨h1,h2⟩=>by
  rcases cw with ⟨h3,_⟩|⟨p,l',q,_,h4,h5,h6,h7,_⟩
  ·rw [h3] at h1;cases h1
  ·exact ⟨l',by rw [h4];exact Ad.2 rfl,q,h5,by rw [h2,h7];exact h6,h2.trans h7⟩
 obtain ⟨as,has⟩: ∃as,as=cells++oB:=⟨_,rfl⟩
 obtain ⟨us,hus⟩: ∃us,us=cus++wX:=⟨_,rfl⟩
 rw [<-has] at hrc htk Aa4
 rw [<-hus] at hrc Ra
 let V:=(tks.filter λt=>t.2.reads).map λt=>t.2.Xi
 have hV: ∀t∈tks,t.2.reads=true->t.2.Xi∈V:= λt ht hr=>Bg.2 ⟨t,Bt.2 ⟨ht,hr⟩,rfl⟩
 have hV': ∀l∈V,∃t∈tks,t.2.reads=true/\t.2.Xi=l:= λl hl=>by
  obtain ⟨t,h1,h2⟩:=Bg.1 hl
  exact ⟨t,(Bt.1 h1).1,(Bt.1 h1).2,h2⟩
 clear_value V
 obtain ⟨etk,πc,hT,ZN,Asj,Wk⟩:=vq h.1 (V:=V) s.ins 0 as us x tks (by omega) hrc htk hV
 have LW:=Yl KD
 rw [etk] at LW
 have ey: ∀b,Vy πc b-> ∃t∈Lx 0 s.ins as,t.2.reads=false/\ ∃q,π t.2.Xi=some q/\q.Cv b/\ ∀l i j,t.2= .sub l i j->b≠q.g:= λb ⟨c,q,h1,h2⟩=>by
  obtain ⟨t,t1,_,t3⟩:=Wk c q b h1 h2
  exact ⟨t,t1,t3⟩
 have LZ: ∀b,Vy πc b->Vy π b:= λb hb=>let ⟨t,_,_,q,h1,h2,_⟩:=ey b hb;⟨_,q,h1,h2⟩
 have ia:im πc (λb=>b<w.heap.size):=⟨λl q b h1 h2=>(h.1.own (LZ b ⟨l,q,h1,h2⟩)).1,λl l' q q' b h1 h2 h3 h4=>by
  obtain ⟨t,t1,t2,_,p,t3,t4,_⟩:=Wk l q b h1 h3
  obtain ⟨t',t1',t2',_,p',t3',t4',_⟩:=Wk l' q' b h2 h4
  have:=zL LW t1 t1' (h.1.apart t3 t3' t4 t4')
  rw [<-t2,<-t2',this]⟩
 have Am2: ∀k l,(Dy false k,Loc.row l)∈Lx 0 s.ins as->πc (Dy false k)=(π l).map full:= λk l ht=>
  JE s.ins 0 x as us (by omega) hT k l ht
 have Anu: ∀b,Vy πc b->Ol X π V b:= λb hb=> .inl ⟨LZ b hb,λl hl r' hr hf=>by
  obtain ⟨t,t1,t0,q,t3,t4,_⟩:=ey b hb
  obtain ⟨t',t1',t2',rfl⟩:=hV' l hl
  rw [etk] at t1'
  have:=zL LW t1 t1' (h.1.apart t3 hr t4 hf)
  subst this
  rw [t0] at t2';cases t2'⟩
 let S:Nat->Prop:= λb=> ¬Vy πc b/\Ol X π V b
 have hS: ∀b,S b->b<w.heap.size/\ ¬Vy πc b:= λb hb=>⟨by
  rcases hb.2 with h1|h1
  ·exact (h.1.own h1.1).1
  ·exact Eg (h.1.sc b h1).1 h.1.below.size,hb.1⟩
 have Ael: ∀l∈pl,∀t∈Lx 0 s.ins as,t.2.Xi≠l:= λl hl t ht e=>(UC l hl).1 (Bg.2 ⟨t,etk▸ht,e⟩)
 have hSg:s.ptr.isSome=true->S g:= λhps=>by
  obtain ⟨l,hl,q,h1,h2,h3⟩:=TY g ⟨hps,rfl⟩
  have hno: ¬Vy πc g:= λhb=>by
   obtain ⟨t,t1,_,q',t3,t4,_⟩:=ey g hb
   exact Ael l hl t t1 (h.1.apart t3 h1 t4 h2)
  refine ⟨hno, .inl ⟨⟨l,q,h1,h2⟩,λl' Jv r' dO hf=>?_⟩⟩
  obtain ⟨t',t1',_,rfl⟩:=hV' l' Jv
  rw [etk] at t1'
  exact Ael l hl t' t1' (h.1.apart dO h1 hf h2)
 refine (hs.calls w S πc us x r o g vs Ra hSg (eW.It (λb hb=>hb.elim (Anu b) λh=>h.2) s.ins 0 x us (hT.Ao4 s.ins 0 x as us)) ia hS Asj hfn).mono ?_
 rintro e w' ⟨v,Xh,DG,rfl,fp,qk,Aeb,zq,An4,Aa3,Ajj,xE⟩
 obtain ⟨ρ,Aes,LY,Aa2,Agn⟩: ∃ρ:Pi,(∀l,ρ l=(DG l).map full)/\Jk w' (kC S πc DG) ρ 0 s.outs r Xh/\im ρ (λb=>b<w'.heap.size/\(w.heap.size<=b\/ ∃l q,l<Bn/\πc l=some q/\q.Cv b))/\ ∀l q,ρ l=some q->q.cl=q.Cv:=by
  have un: ∀l q,(DG l).map full=some q-> ∃q0,DG l=some q0/\q=full q0:= λl q hq=>by
   cases hp:DG l with
   |none=>rw [hp] at hq;cases hq
   |some q0=>rw [hp] at hq;exact ⟨q0,rfl,(Bd hq).symm⟩
  refine ⟨λl=>(DG l).map full,λ_=>rfl,Jk.full s.outs 0 r Xh An4,⟨λl q b h1 h2=>?_,λl l' q q' b h1 h2 h3 h4=>?_⟩,λl q h1=>?_⟩
  ·obtain ⟨q0,h5,rfl⟩:=un l q h1
   exact Aa3.Xm l q0 b h5 h2
  ·obtain ⟨q0,h5,rfl⟩:=un l q h1
   obtain ⟨q0',h6,rfl⟩:=un l' q' h2
   exact Aa3.inj l l' q0 q0' b h5 h6 h3 h4
  ·obtain ⟨q0,_,rfl⟩:=un l q h1
   rfl
 refine ⟨v,rfl,?_⟩
 split at he
 ·cases he
 rename_i av0 gX
 split at he
 rotate_left
 ·cases he
 rename_i Ps
 simp only [Aa,Ae] at he
 obtain ⟨rfl,rfl⟩:=he
 let D1:Nat->Prop:=if s.flat then λ_=>True else kC S πc DG
 have Asn:Mj w' D1 πc 0 s.ins o:=by
  show Mj w' (if s.flat then λ_=>True else kC S πc DG) πc 0 s.ins o
  split
  ·rename_i hf
   unfold MSpec.flat at hf
   simp only [Ag] at hf
   exact Mj.any s.ins 0 o hf.2 zq
  ·exact zq
 have An5:Jk w' D1 ρ 0 s.outs r Xh:=by
  show Jk w' (if s.flat then λ_=>True else kC S πc DG) ρ 0 s.outs r Xh
  split
  ·rename_i hf
   unfold MSpec.flat at hf
   simp only [Ag] at hf
   exact Jk.any s.outs 0 r Xh hf.1 LY
  ·exact LY
 obtain ⟨q1,q2,q3,q4⟩:=uj (D:=D1) (X:=X) (π:=π) (H:=st.heap) h.1 Aeb.size (tks:=Lx 0 s.ins as) (πc:=πc) (λt ht q b hq hb Jj hn=>Aeb.block b Jj λLX=>by
   rcases LX with ⟨c,r',h1,h2⟩|hg
   rotate_left
   ·obtain ⟨l,hl,q',h1,h2,_⟩:=TY b hg
    exact Ael l hl t ht (h.1.apart hq h1 hb h2)
   obtain ⟨t',t1,t2,_,p,t3,t4,_⟩:=Wk c r' b h1 h2
   have:=zL LW ht t1 (h.1.apart hq t3 hb t4)
   subst this
   exact hn r' (t2▸h1) h2) s.ins 0 x as us o st st1 (by omega) (λ_ h=>h) LW hT Asn Aa4 (λ_ _=>rfl)
 have Aj7: ∀t∈Lx 0 s.ins as,t.2.reads=true->t.1<Bn:=by
  have: ∀(cs:List (Bool×CK)) (k:Nat) (as:List AC),k+cs.length<100000-> ∀t∈Lx k cs as,t.2.reads=true->t.1<Bn:=by
   intro cs
   induction cs with
   |nil=>intro k as _ t ht;cases as<;>cases ht
   |cons p r ih=>
    intro k as hk t ht hr
    simp only [Aw] at hk
    cases as with
    |nil=>cases ht
    |cons a as=>
     simp only [Lx] at ht
     rcases Az.1 ht with ht|ht
     ·rcases JD ht with ⟨_,h1⟩|⟨h1,_⟩
      ·rw [hr] at h1;cases h1
      ·rw [h1];exact fP (by omega)
     ·exact ih (k+1) as (by omega) t ht hr
  exact this s.ins 0 as (by omega)
 let d:=dst.getD 0
 let ks:=Sj s tks d
 let dead:=mV tks++ks++(if s.flat then [] else CN tks)
 let part:=whole tks
 have Atf:s.outs.length+(mw s d).length=s.Uw:=by unfold MSpec.Uw mw;cases s.rp<;>rfl
 obtain ⟨Aiu,Asx,Agv⟩:ks.length=s.Uw/\ks.Nodup/\ ∀l∈ks,l<Bn:=by
  have:=MN tp
  rw [Atf] at this
  exact this
 have hno:s.outs.length<=s.Uw:=by unfold MSpec.Uw;omega
 have hvk: ∀tid,s.rp=some tid->Ee ks s.outs.length=To d/\s.Uw=s.outs.length+1:= λtid Yh=>by
  have h1:s.Uw=s.outs.length+1:=by unfold MSpec.Uw;rw [Yh]
  refine ⟨?_,h1⟩
  have h2:ks=mR s tks d++ [To d]:=by show mR s tks d++mw s d=_;unfold mw;rw [Yh]
  have h3:(mR s tks d).length=s.outs.length:=by rw [h2] at Aiu;simp at Aiu;omega
  rw [Rp (by rw [Aiu];omega)]
  simp only [h2]
  rw [List.getElem_append_right (by omega)]
  simp [h3]
 have ZY:=EF Asx Agv
 have Asv: ∀j,j<s.Uw->Ee ks j<Bn:= λj hj=>Agv _ (mem_keys.2 ⟨j,by omega,rfl⟩)
 let π':Pi:= λl=>match (List.range s.Uw).find? λj=>decide (Ee ks j=l) with
  |some j=>ρ (Kj j)
  |none=>if l∈dead then none else π l
 have vY: ∀j,j<s.Uw->π' (Ee ks j)=ρ (Kj j):= λj hj=>by
  show (match (List.range s.Uw).find? λi=>decide (Ee ks i=Ee ks j) with|some i=>ρ (Kj i)|none=>_)=_
  cases hf:(List.range s.Uw).find? λi=>decide (Ee ks i=Ee ks j) with
  |none=>
   have:=List.find?_eq_none.1 hf j (Eu.2 hj)
   simp at this
  |some i=>
   have:=List.find?_some hf
   rw [ZY i j (He this)]
 have tn: ∀j,j<s.Uw->Ee ks j∈dead:= λj hj=>Bj _ (Ci _ (mem_keys.2 ⟨j,by omega,rfl⟩))
 have zr: ∀l,(¬ ∃j,j<s.Uw/\l=Ee ks j)->π' l=if l∈dead then none else π l:= λl hl=>by
  show (match (List.range s.Uw).find? λi=>decide (Ee ks i=l) with|some i=>ρ (Kj i)|none=>_)=_
  cases hf:(List.range s.Uw).find? λi=>decide (Ee ks i=l) with
  |none=>rfl
  |some i=>
   have h1:=List.find?_some hf
   exact absurd ⟨i,Eu.1 (List.mem_of_find?_eq_some hf),(He h1).symm⟩ hl
 have Aac: ∀l,l∉dead->π' l=π l:= λl hl=>by
  rw [zr l (λ⟨j,h1,h2⟩=>hl (h2▸tn j h1)),Ak hl]
 have hD1: ∀b,Vy π' b\/X.Sc b->D1 b:=by
  intro b hb
  show (if s.flat then λ_=>True else kC S πc DG) b
  split
  ·trivial
  rename_i hnf
  rcases hb with ⟨l,q,hl,hf⟩|hb
  ·by_cases hk: ∃j,j<s.Uw/\l=Ee ks j
   ·obtain ⟨j,hj,rfl⟩:=hk
    rw [vY j hj,Aes] at hl
    cases hp:DG (Kj j) with
    |none=>rw [hp] at hl;cases hl
    |some q0=>rw [hp] at hl;simp only [Am,Aa] at hl;subst hl;exact .inr (.inr ⟨Kj j,q0,hp,hf⟩)
   ·have e0:π' l=if l∈dead then none else π l:=zr l hk
    rw [e0] at hl
    split at hl
    ·cases hl
    ·rename_i Aei
     by_cases ho:Vy πc b
     ·obtain ⟨c,q',hc,hcb⟩:=ho
      obtain ⟨t,t1,t2,t0,p,t3,t4,_⟩:=Wk c q' b hc hcb
      have zt:=h.1.apart hl t3 hf t4
      refine .inr (.inl ⟨c,q',Bk λhn=>?_,hc,hcb⟩)
      exact Aei (Bj _ (Bj _ (eF.2 ⟨t,etk▸t1,⟨by rw [t2];omega,t0⟩,zt.symm⟩)))
     ·refine .inl ⟨ho, .inl ⟨⟨l,q,hl,hf⟩,λl0 hl0 r0 hr0 hf0=>?_⟩⟩
      have:=h.1.apart hl hr0 hf hf0
      subst this
      exact Aei (Ci _ (by rw [Ak hnf];exact tU.2 (hV' l hl0)))
  ·refine .inl ⟨λho=>?_, .inr hb⟩
   have h1:=h.1.sc b hb
   rcases (h.1.own (LZ b ho)).2 with h2|h2
   ·omega
   ·exact h1.2 h2
 have hpd: ∀l∈pl,l∉dead:= λl hl hd=>by
  rcases Az.1 hd with hd|hd
  ·rcases Az.1 hd with hd|hd
   ·obtain ⟨t,ht,_,e⟩:=eF.1 hd
    exact (UC l hl).1 (Bg.2 ⟨t,ht,e⟩)
   ·exact (UC l hl).2 hd
  ·split at hd
   ·cases hd
   ·obtain ⟨t,ht,_,e⟩:=tU.1 hd
    exact (UC l hl).1 (Bg.2 ⟨t,ht,e⟩)
 have Ait: ∀j,j<s.Uw->Ee ks j∉pl:= λj hj hp=>hpd _ hp (tn j hj)
 let bv:Option OB:=s.rp.map λtid=> .var tid ((bY (Ee ks) 0 s.outs r).drop s.aF)
 let H1:=(rq s.ins (bY (Ee ks) 0 s.outs r) pl (st1.cI dead part)).heap
 have hH1: ∀l,l∉pl->At H1 l=if l∈dead then none else (At st1.heap l).map (OB.map (Cs dead part)):= λl hl=>by
  show At (rq _ _ _ _).heap l=_
  rw [OP hl]
  show At (Xz (st1.heap.map λp=>(p.1,p.2.map (Cs dead part))) dead) l=_
  rw [Nr,Oq]
 let H2:=FW H1 (To d) bv
 have hvd: ∀tid,s.rp=some tid->To d∈dead/\To d∉pl:= λtid Yh=>by
  obtain ⟨e1,e2⟩:=hvk tid Yh
  rw [<-e1]
  exact ⟨tn _ (by omega),Ait _ (by omega)⟩
 have Am0: ∀l,(∀tid,s.rp=some tid->l≠To d)->At H2 l=At H1 l:= λl hl=>by
  show At (FW H1 (To d) (s.rp.map _)) l=_
  cases KF:s.rp with
  |none=>rfl
  |some tid=>exact Pg _ _ _ _ (hl tid KF)
 have Arm: ∀tid,s.rp=some tid->At H2 (To d)=some (.var tid ((bY (Ee ks) 0 s.outs r).drop s.aF)):= λtid Yh=>by
  show At (FW H1 (To d) (s.rp.map _)) (To d)=_
  rw [Yh]
  exact Qn _ _ _ (by rw [hH1 _ (hvd tid Yh).2,Ab (hvd tid Yh).1])
 have hkv: ∀j,j<s.outs.length-> ∀tid,s.rp=some tid->Ee ks j≠To d:= λj hj tid Yh e=>by
  have:=ZY j s.outs.length (e.trans (hvk tid Yh).1.symm)
  omega
 have hH2: ∀l,l∉pl->(∀tid,s.rp=some tid->l≠To d)->At H2 l=if l∈dead then none else (At st1.heap l).map (OB.map (Cs dead part)):= λl hl hv=>by
  rw [Am0 l hv,hH1 l hl]
 let H':=Ym (RC st (mV tks)) (Ee ks) 0 s.outs r H2
 obtain ⟨n1,n2,n3⟩:=qK (D:=D1) (X:=X) (key:=Ee ks) ZY (fr:=RC st (mV tks)) (ρ:=ρ) s.outs 0 r Xh H2 An5 (λj _ hj=>by
  rw [hH2 _ (Ait j (by omega)) (hkv j (by omega)),Ab (tn j (by omega))])
 have oY: ∀l,l∉dead->l∉pl->At H' l=(At st1.heap l).map (OB.map (Cs dead part)):= λl hl p7=>by
  show At (Ym _ _ _ _ _ _) l=_
  rw [n1 l λj _ hj e=>hl (e▸tn j (by omega)),hH2 l p7 (λtid Yh e=>hl (e▸(hvd tid Yh).1)),Ak hl]
 have Ae6: ∀l,l∈dead->(∀j,j<s.Uw->l≠Ee ks j)->At H' l=none:= λl hl hj=>by
  show At (Ym _ _ _ _ _ _) l=_
  rw [n1 l λj _ h2=>hj j (by omega),hH2 l (λhp=>hpd l hp hl) (λtid Yh e=>hj s.outs.length (by have:=(hvk tid Yh).2;omega) (e.trans (hvk tid Yh).1.symm)),Ab hl]
 have newAt: ∀l b',At H' l=some b'->(l∈dead\/At st.heap l=none)-> ∃j,j<s.Uw/\l=Ee ks j:=by
  intro l b' hb hd
  refine Bk λhn=>?_
  have rS: ∀j,j<s.Uw->l≠Ee ks j:= λj hj e=>hn ⟨j,hj,e⟩
  rcases Classical.em (l∈dead) with KA|KA
  ·rw [Ae6 l KA rS] at hb;cases hb
  ·rcases hd with hd|hd
   ·exact KA hd
   ·rw [oY l KA (λhp=>by obtain ⟨_,_,_,_,_,_,_,h1,_⟩:=UD l hp;rw [hd] at h1;cases h1)] at hb
    have:At st1.heap l=none:=by
     by_cases hi: ∃t∈Lx 0 s.ins as,t.2.Xi=l
     ·obtain ⟨t,ht,e⟩:=hi
      by_cases Jj:t.1<Bn
      ·rw [<-e,q3 t ht Jj,e];exact hd
      ·obtain ⟨b0,_,h1,_⟩:=q4 t ht Jj
       rw [e,hd] at h1;cases h1
     ·rw [q2 l λt ht e=>hi ⟨t,ht,e.symm⟩];exact hd
    rw [this] at hb;cases hb
 have Aim: ∀k,RC st (mV tks)=true-> ∀q,ρ (Kj k)=some q->q.Cv q.g->X.w0.heap.size<=q.g:=by
  intro k zp q hq hg
  rcases (Aa2.Xm _ q _ hq hg).2 with h1|⟨c,p,h1,h2,h3⟩
  ·exact Ib h.1.below.size h1
  ·obtain ⟨t,t1,t2,t0,p',t3,t4,_⟩:=Wk c p _ h2 h3
   have hm:t.2.Xi∈mV tks:=eF.2 ⟨t,etk▸t1,⟨by rw [t2];exact h1,t0⟩,rfl⟩
   have:=Bf.1 zp _ hm
   split at this
   ·rename_i fr tr e te xs hl
    unfold St.at at hl
    have hb:=(h.1.heap t.2.Xi).Ro hl
    simp only [Cj,Kg,t3] at hb
    rw [hb.1.2.1 _ t4]
    exact hb.1.2.2 this
   ·cases this
 have Aik: ∀k q,ρ (Kj k)=some q->k<s.outs.length->q.Cv q.g:=by
  intro k q hq hk
  exact Jk.Agb s.outs 0 r Xh LY k (Ja _) ((Bo _).symm▸hk) q hq
 have hinv: ∀l,l∉dead->(∃t∈Lx 0 s.ins as,t.2.reads=false/\t.2.Xi=l)->mJ X D1 w' π st.heap st1.heap l:=by
  rintro l hd ⟨t,ht,h0,rfl⟩
  by_cases Jj:t.1<Bn
  ·exact absurd (Bj _ (Bj _ (eF.2 ⟨t,etk▸ht,⟨Jj,h0⟩,rfl⟩))) hd
  ·exact q4 t ht Jj
 have zu: ∀l,(¬ ∃t∈Lx 0 s.ins as,t.2.reads=false/\t.2.Xi=l)->At st1.heap l=At st.heap l:= λl hn=>by
  by_cases hi: ∃t∈Lx 0 s.ins as,t.2.Xi=l
  ·obtain ⟨t,ht,rfl⟩:=hi
   have hr:t.2.reads=true:=by
    cases h0:t.2.reads with
    |true=>rfl
    |false=>exact absurd ⟨t,ht,h0,rfl⟩ hn
   exact q3 t ht (Aj7 t ht hr)
  ·exact q2 l λt ht e=>hi ⟨t,ht,e.symm⟩
 have Agg: ∀l∈pl,∀p,s.ptr=some p->At H' l=some (.var p.1 (gK s.ins (cells.map (Cs dead part)) (bY (Ee ks) 0 s.outs r))):= λl hl p hp=>by
  obtain ⟨p',q,h1,h2,_,_,_,h3,_⟩:=UD l hl
  rw [hp] at h1;cases h1
  show At (Ym _ _ _ _ _ _) l=_
  rw [n1 l λj _ hj e=>Ait j (by omega) (e▸hl),Am0 l (λtid Yh e=>(hvd tid Yh).2 (e▸hl))]
  show At (rq _ _ _ _).heap l=_
  rw [h2]
  refine WB ?_
  show At (Xz (st1.heap.map λp=>(p.1,p.2.map (Cs dead part))) dead) l=_
  rw [Nr,Oq,Ak (hpd l hl),zu l (λ⟨t,ht,_,e⟩=>Ael l hl t ht e),h3]
  rfl
 have Agx: ∀j,j<s.Uw->s.outs.length<=j-> ∃tid,s.rp=some tid/\j=s.outs.length:= λj h1 h2=>by
  cases KF:s.rp with
  |none=>unfold MSpec.Uw at h1;rw [KF] at h1;simp at h1;omega
  |some tid=>exact ⟨tid,rfl,by have:=(hvk tid KF).2;omega⟩
 have hHv: ∀tid,s.rp=some tid->At H' (To d)=some (.var tid ((bY (Ee ks) 0 s.outs r).drop s.aF)):= λtid Yh=>by
  show At (Ym _ _ _ _ _ _) _=_
  rw [n1 _ λj _ hj e=>hkv j (by omega) tid Yh e.symm,Arm tid Yh]
 suffices Amt:Bi X π' (lK st st1 d s pl tks r) a w'/\Bs X w' π' (lK st st1 d s pl tks r).heap av0 v by
  obtain ⟨m1,m2⟩:=Amt
  have rj: ∀(kj:List (Nat×Nat)) (l:Nat),l∈bU st.heap ks tks kj->nE st.heap l=true/\ ∃k j t,(k,j)∈kj/\t∈tks/\t=(Dy false k,Loc.row l)/\ks[j]?=some l:=by
   intro kj
   induction kj with
   |nil=>intro l hl;cases hl
   |cons p kj ih=>
    intro l hl
    obtain ⟨k,j⟩:=p
    have up:l∈bU st.heap ks tks kj->nE st.heap l=true/\ ∃k' j' t,(k',j')∈(k,j)::kj/\t∈tks/\t=(Dy false k',Loc.row l)/\ks[j']?=some l:= λhl=>by
     obtain ⟨h1,k',j',t,h2,h3⟩:=ih l hl
     exact ⟨h1,k',j',t,Aq _ h2,h3⟩
    simp only [bU] at hl
    split at hl
    ·rename_i x0 l1 l2 h1 h2
     split at hl
     ·rename_i hc
      simp only [Ag] at hc
      rcases Be.1 hl with rfl|hl
      ·have:=List.find?_some h1
       have e1:=Ju this
       have e2:=Ju hc.1
       dsimp only at e1
       exact ⟨hc.2,k,j,_,Mc,List.mem_of_find?_eq_some h1,by rw [e1],by rw [h2,e2]⟩
      ·exact up hl
     ·exact up hl
    ·exact up hl
  obtain ⟨r1,r2⟩:=MK h m1 (ls:=bU st.heap ks tks s.keeps) (n:=s.Fk x) (λl hl=>by
   obtain ⟨_,k,j,t,h1,h2,h3,h4⟩:=rj s.keeps l hl
   have hj:j<ks.length:=(An.1 h4).1
   have YC:Ee ks j=l:=by
    rw [Rp hj]
    rw [Ac hj] at h4
    exact Bd h4
   have vZ:=xE (k,j) h1
   rw [show π' l=ρ (Kj j) by rw [<-YC];exact vY j (by omega),Aes]
   have hc:πc (Dy false k)=(π l).map full:=Am2 k l (by rw [<-h3,<-etk];exact h2)
   dsimp only at vZ
   rw [hc] at vZ
   cases hp:π l<;>cases hq:DG (Kj j)<;>(rw [hp,hq] at vZ;exact vZ)) (λl hl=>(rj s.keeps l hl).1) Ps
  exact ⟨π',r1,r2 av0 v m2⟩
 refine ⟨?_,?_⟩
 ·have hx:=Bi.Ai6 (π':=π') (H':=H') (dead:=dead) (part:=part) (inv:= λl=>(∃t∈Lx 0 s.ins as,t.2.reads=false/\t.2.Xi=l)\/l∈pl) (gv:= λb=>Vy πc b\/s.gv g b) h (λb hb=>by
    rcases hb with hb|hb
    ·obtain ⟨t,h1,h0,q,h2,h3,_⟩:=ey b hb
     exact ⟨_,q, .inl ⟨t,h1,h0,rfl⟩,h2,h3⟩
    ·obtain ⟨l,hl,q,h1,h2,_⟩:=TY b hb
     exact ⟨l,q, .inr hl,h1,h2⟩) Aeb (λl b0 hd h0=>⟨Aac l hd,?_⟩) (λl b' hb hd=>?_) (λl hl=>?_) (λm q hd hp hm hxa=>?_)
  ·have:({tmps:=(rq s.ins (bY (Ee ks) 0 s.outs r) pl (st1.cI dead part)).tmps,heap:=H'} :St)= {tmps:=st.tmps.map (·.map (Cs dead part)),heap:=H'} :=by
    rw [pF]
    show ({tmps:=st1.tmps.map (·.map (Cs dead part)),heap:=H'} :St)=_
    rw [q1]
   show Bi X π' ({tmps:=(rq s.ins (bY (Ee ks) 0 s.outs r) pl (st1.cI dead part)).tmps,heap:=H'} :St) a w'
   rw [this]
   exact hx
  ·by_cases YB:l∈pl
   ·obtain ⟨p,q,h1,h2,h3,h4,h5,h6,h7⟩:=UD l YB
    rw [h0] at h6;cases h6
    have vG:=Agg l YB p h1
    refine .inr ⟨_,vG,⟨rfl,by rw [pB]⟩,λm=>?_⟩
    unfold lG at qk
    rw [h1] at qk
    obtain ⟨cs,k1,k2,k3⟩:=qk
    rw [<-h7] at k3
    refine ⟨q,h3,h4,cs.toArray,by rw [<-h5];exact k1,?_⟩
    refine Na.to (kl (H:=st.heap) Aac (λl1 b1 sz n hd1 hb1 hr1=>?_) s.ins 0 cells oB x us o st st1 (bY (Ee ks) 0 s.outs r) Xh cs (has▸hT) Amp (has▸Aa4) k3 (n3 π' hD1 (λj _ hj=>vY j (by omega)))) (by simpa using k2)
    have hnp:l1∉pl:= λhp=>by
     obtain ⟨_,_,_,_,_,_,_,h8,_⟩:=UD l1 hp
     rw [hb1] at h8;cases h8;cases hr1
    by_cases hi: ∃t∈Lx 0 s.ins as,t.2.reads=false/\t.2.Xi=l1
    ·obtain ⟨b1,b',e1,e2,e3,e4,e5,e6⟩:=hinv l1 hd1 hi
     rw [hb1] at e1;cases e1
     exact ⟨b',by rw [oY l1 hd1 hnp,e2];simp [e4],by rw [e5.row];exact hr1⟩
    ·exact ⟨_,by rw [oY l1 hd1 hnp,zu l1 hi,hb1];rfl,by rw [OB.AZ];exact hr1⟩
   by_cases hi: ∃t∈Lx 0 s.ins as,t.2.reads=false/\t.2.Xi=l
   ·obtain ⟨b1,b',e1,e2,e3,e4,e5,e6⟩:=hinv l hd hi
    rw [h0] at e1;cases e1
    exact .inr ⟨b',by rw [oY l hd YB,e2];simp [e4],by rw [e3];exact e5,λ_=>e6 π' H' hD1⟩
   ·exact .inl ⟨λhh=>hh.elim hi YB,by rw [oY l hd YB,zu l hi,h0];rfl⟩
  ·obtain ⟨j,hj,rfl⟩:=newAt l b' hb hd
   refine ⟨Asv j hj,?_,λq b hq=>?_⟩
   ·rw [vY j hj]
    rcases Nat.lt_or_ge j s.outs.length with hjo|hjo
    ·rcases n2 j (Ja _) (by omega) with ⟨e1,_⟩|⟨b2,e1,e2⟩
     ·rw [show At H' (Ee ks j)=none from e1] at hb;cases hb
     ·rw [show At H' (Ee ks j)=some b2 from e1] at hb;cases hb
      exact e2 X π' H' (λhf q hq=>Aim j hf q hq (Aik j q hq hjo)) hD1
    ·obtain ⟨tid,Yh,hj0⟩:=Agx j hj hjo
     subst hj0
     rw [(hvk tid Yh).1,hHv tid Yh] at hb;cases hb
     unfold si at fp
     rw [Yh] at fp
     obtain ⟨q,y1,y2,y3,y4,_⟩:=fp
     rw [Aes,y1]
     exact ⟨full q,rfl,y2,_,y3,Na.to (Na.take s.aF (n3 π' hD1 (λj _ hj=>vY j (by omega)))).2 (by simpa using y4)⟩
   ·rw [vY j hj] at hq
    have Pc:=Agn _ q hq
    refine ⟨λhf=>by rw [Pc];exact hf,λhf=>?_⟩
    rw [Pc] at hf
    obtain ⟨h1,h2⟩:=Aa2.Xm _ q b hq hf
    refine ⟨h1,h2.imp id ?_,λl2 r2 hd2 RT hf2=>?_⟩
    ·rintro ⟨c,p,h3,h4,h5⟩
     obtain ⟨t,t1,t2,t0,p',t3,t4,_⟩:=Wk c p b h4 h5
     exact ⟨t.2.Xi,p',Bj _ (Bj _ (eF.2 ⟨t,etk▸t1,⟨by rw [t2];exact h3,t0⟩,rfl⟩)),t3,t4⟩
    ·by_cases hk: ∃j,j<s.Uw/\l2=Ee ks j
     ·obtain ⟨j2,hj2,rfl⟩:=hk
      rw [vY j2 hj2] at RT
      rw [Agn _ r2 RT] at hf2
      have:=Aa2.inj _ _ r2 q b RT hq hf2 hf
      unfold Kj at this
      have:j2=j:=by omega
      rw [this]
     ·have e0:π' l2=if l2∈dead then none else π l2:=zr l2 hk
      rw [e0] at RT
      split at RT
      ·cases RT
      ·rename_i Aei
       rcases hd2 with hd2|hd2
       ·exact absurd hd2 Aei
       ·rw [(h.1.heap l2).emp hd2] at RT;cases RT
  ·by_cases hk: ∃j,j<s.Uw/\l=Ee ks j
   ·obtain ⟨j,hj,rfl⟩:=hk
    rw [vY j hj]
    rcases Nat.lt_or_ge j s.outs.length with hjo|hjo
    ·rcases n2 j (Ja _) (by omega) with ⟨_,e1⟩|⟨b2,e1,_⟩
     ·exact e1
     ·rw [show At H' (Ee ks j)=some b2 from e1] at hl;cases hl
    ·obtain ⟨tid,Yh,hj0⟩:=Agx j hj hjo
     subst hj0
     rw [(hvk tid Yh).1,hHv tid Yh] at hl;cases hl
   ·have e0:π' l=if l∈dead then none else π l:=zr l hk
    rw [e0]
    split
    ·rfl
    ·rename_i hd
     by_cases YB:l∈pl
     ·obtain ⟨p,_,h1,_⟩:=UD l YB
      rw [Agg l YB p h1] at hl;cases hl
     rw [oY l hd YB] at hl
     by_cases hi: ∃t∈Lx 0 s.ins as,t.2.reads=false/\t.2.Xi=l
     ·obtain ⟨_,b',_,e2,_⟩:=hinv l hd hi
      rw [e2] at hl;cases hl
     ·rw [zu l hi] at hl
      cases h0:At st.heap l with
      |none=>exact (h.1.heap l).emp h0
      |some b=>rw [h0] at hl;cases hl
  ·refine Aeb.block _ (h.1.lt hm).1 λLX=>?_
   rcases LX with ho|hg
   rotate_left
   ·obtain ⟨l,hl,q',h1,h2,_⟩:=TY _ hg
    have zt:=h.1.apart hm h1 (h.1.Cv hm) h2
    obtain ⟨_,_,_,_,_,_,_,h3,_⟩:=UD l hl
    obtain ⟨b,hxa,hxb⟩:=hxa
    rw [zt,h3] at hxa;cases hxa
    exact hxb rfl
   obtain ⟨t,t1,t0,p,t3,t4,t5⟩:=ey _ ho
   have zt:=h.1.apart hm t3 (h.1.Cv hm) t4
   have hpq:p=q:=by rw [<-zt,hm] at t3;exact (Bd t3).symm
   cases ht2:t.2 with
   |row l=>
    refine hp ?_
    show m∈whole tks
    unfold whole
    exact Gf.2 ⟨t,etk▸t1,by rw [ht2,zt,ht2];simp [Loc.Xi]⟩
   |sub l i j=>exact t5 l i j ht2 (by rw [hpq])
   |view l=>rw [ht2] at t0;cases t0
 ·have Ate:=n3 π' hD1 (λj _ hj=>vY j (by omega))
  cases KF:s.rp with
  |some tid=>
   unfold si at fp
   rw [KF] at fp
   obtain ⟨q,y1,y2,y3,y4,rfl⟩:=fp
   unfold Aff at gX
   rw [KF] at gX
   simp only [Aa] at gX;subst gX
   refine ⟨full q,tid,_,hHv tid KF,?_,rfl⟩
   rw [<-(hvk tid KF).1,vY _ (by have:=(hvk tid KF).2;omega),Aes,y1]
   rfl
  |none=>
  unfold si at fp
  rw [KF] at fp
  obtain ⟨fp,Atj⟩:=fp
  unfold Aff at gX
  rw [KF] at gX
  simp only at gX
  obtain ⟨g1,g2,g3,g4⟩:=er s.Gz _ (Xh.drop s.aF) Atj (Na.take s.aF Ate).2
  unfold Aox at gX
  unfold Abt at fp
  split at gX
  ·rename_i hm
   rw [Ab hm] at fp
   simp only [Aa] at gX;subst gX
   subst fp
   exact ⟨_,rfl,g3.symm,g4⟩
  ·rename_i hm
   rw [Ak hm] at fp
   split at gX
   ·rename_i av1 hga
    simp only [Aa] at gX;subst gX
    rcases fp with fp|fp
    ·exact g2 0 _ v (by rw [hga];rfl) (by rw [fp];rfl)
    ·rw [hga,fp] at g1;cases g1
   ·simp only [Aa] at gX;subst gX;trivial
   ·cases gX
end
end Go.Proofs.YtkkdpknjohcekaaGreat
