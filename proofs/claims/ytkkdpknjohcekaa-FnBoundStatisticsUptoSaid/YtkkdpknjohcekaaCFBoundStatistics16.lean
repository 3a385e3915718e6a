/-
  Part 17 of the proof that the statement FnBoundStatistics holds.
-/
import Derived.Test.YtkkdpknjohcekaaCFBoundStatistics15
namespace Go.Proofs.Ytkkdpknjohcekaa
open Go.RowKit
section
variable {P:Program} {T:Tab} {X:Ctx} {w w':World} {π π':Pi} {H H':List (Nat×OB)}
theorem bj (k:Nat): ¬Dx true k<Bn:=by unfold Dx Bn;simp
theorem fH {k:Nat} (h:k<100000):Dx false k<Bn:=by unfold Dx Bn;simp;omega
def mH (X:Ctx) (D:Nat->Prop) (w':World) (π:Pi) (H Hn:List (Nat×OB)) (l:Nat):Prop:=
 ∃b0 b',At H l=some b0/\At Hn l=some b'/\(∀f,OB.map f b0=b0)/\(∀f,OB.map f b'=b')/\b0.fj b'/\ ∀π' H',(∀b,Vy π' b\/X.Sc b->D b)->Cj X w' π' H' (π l) b'
theorem Abi {io:Bool} {k:Nat} {τ:Ty} {a:AC} {t:Nat×Loc} (h:t∈Qr io k (.Fy τ) a):t.1=Dx false k:=by
 cases a<;>simp [Qr,views] at h<;>first|(obtain ⟨_,⟨_,_⟩,rfl⟩:=h;rfl)|(rw [h])
theorem VI {io:Bool} {k:Nat} {e:Ty} {te:TypeId} {a:AC} {t:Nat×Loc} (h:t∈Qr io k (.part e te) a):t.1=Dx io k:=by cases a<;>simp [Qr] at h<;>rw [h]
theorem Abj {io:Bool} {k:Nat} {e:Ty} {te:TypeId} {a:AC} {t:Nat×Loc} (h:t∈Qr io k (.row e te) a):t.1=Dx io k:=by cases a<;>simp [Qr] at h<;>rw [h]
theorem VJ {io:Bool} {k:Nat} {e:Ty} {te:TypeId} {a:AC} {t:Nat×Loc} (h:t∈Qr io k (.Hw e te) a):t.1=Dx io k:=by cases a<;>simp [Qr] at h<;>rw [h]
theorem eW {D:Nat->Prop} {π':Pi} {fr:Bool} {e:Ty} {es:List Value} {y:e.den} (hD: ∀b,Vy π' b\/X.Sc b->D b) (h:Cells w' D e es y):Cells w' (Da X.w0.heap.size X.Sc π' (fr&&e.flat)) e es y:=by
 cases hf:e.flat with
 |true=>exact Cells.flat e es y hf h
 |false=>exact Cells.Fb (Ap _) (λ_ _ _=>rfl) (λb _ hb=>by
   rcases hb with hb|hb|⟨hb,_⟩
   ·exact hD b (.inl hb)
   ·exact hD b (.inr hb)
   ·simp at hb) e es y h
theorem VL {D P:Nat->Prop} {g o:Nat} {cur:Array Value} {tr:Bool} {e:Ty} {xs:List e.den}
  (h: ∀(i:Nat) (x:e.den),xs[i]?=some x-> ∃es:List Value,es.length=e.size/\(∀j u,es[j]?=some u->cur[(o+i)*e.size+j]?=some u)/\Cells w' D e es x) (ht:(tr&&e.flat)=true):Xx w' P g o cur e xs:=by
 simp only [Af] at ht
 exact nh ht.2 h
theorem UG {D:Nat->Prop} (h:Ng X w π H) {k:Nat} {c:CK} {ys:c.den} {a:AC} {u:Value} {r:Option Real} {x:c.den} {cur st1:St} (hs:w.heap.size<=w'.heap.size)
  (hU: ∀l i j q b,a= .sub l i j->π l=some q->q.Cv b->b<w.heap.size->(∀r',r=some r'-> ¬r'.Cv b)->w'.heap[b]?=w.heap[b]?)
  {V:List Nat} (ht:eN w (Ov X π V) r u c x/\Tv w π H true a u r c x) (hr:fX w' D r c ys) (he:cp cur c ys a=some st1) (gM: ∀t∈Qr true k c a,At cur.heap t.2.Xn=At H t.2.Xn):
  st1.tmps=cur.tmps/\(∀m,(∀t∈Qr true k c a,m≠t.2.Xn)->At st1.heap m=At cur.heap m)/\ ∀t∈Qr true k c a,mH X D w' π H st1.heap t.2.Xn:=by
 obtain ⟨hc,ht⟩:=ht
 cases c with
 |Fy τ=>cases a<;>simp [cp] at he;subst he;exact ⟨rfl,λ_ _=>rfl,λt ht=>by simp [Qr] at ht⟩
 |row e te=>
  simp only [Tv] at ht
  cases a<;>simp only [] at ht<;>first|(exact ht.elim)|skip
  ·simp only [cp,Aa] at he;subst he
   exact ⟨rfl,λ_ _=>rfl,λt ht=>by simp [Qr] at ht⟩
  ·rename_i l off len
   obtain ⟨rfl,rfl,rfl,fr,tr,hl⟩:=ht
   have Qk:At cur.heap l=some (.arr fr tr e te x):=(gM _ (Ad.2 rfl)).trans hl
   simp only [cp,St.at,Qk] at he
   split at he
   ·rename_i Jv
    obtain ⟨_,h1,_⟩:=Jv
    simp only [Aa] at he;subst he
    refine ⟨rfl,λm hm=>Ea _ _ _ _ (hm _ (Ad.2 rfl)),λt Vg=>?_⟩
    have Vg:=Ad.1 Vg
    subst Vg
    refine ⟨_,_,hl,Er _ _ _ _ Qk,λ_=>rfl,λ_=>rfl,⟨rfl,h1.symm⟩,λπ' H' hD=>?_⟩
    have hb:=(h.heap l).Rp hl
    change Cj X w' π' H' (π l) _
    simp only [Cj,Ki] at hb⊢
    cases hp:π l with
    |none=>rw [hp] at hr;exact hr
    |some q=>
     rw [hp] at hr hb
     obtain ⟨k1,cu,ti,k2,k3,k4,k5,k6⟩:=hr
     exact ⟨⟨k1.1,k1.2,λhh=>hb.1.2.2 (by simp only [Af] at hh;exact hh.1)⟩,cu,ti,k2,k3,k4,k5,λi y hy=>by
      obtain ⟨es,g1,g2,g3⟩:=k6 i y hy
      exact ⟨es,g1,g2,eW hD g3⟩,λht=>VL k6 ht⟩
   ·cases he
  ·rename_i l i j
   obtain ⟨⟨_,hf⟩,tid,xs,hl,hx,q,hq,Wk,hre⟩:=ht
   have Qk:At cur.heap l=some (.Gu (.slice e) tid xs):=(gM _ (Ad.2 rfl)).trans hl
   simp only [cp,St.at,Qk,hx] at he
   rw [Jf trivial] at he
   ·split at he
    ·rename_i h1
     simp only [Aa] at he;subst he
     refine ⟨rfl,λm hm=>Ea _ _ _ _ (hm _ (Ad.2 rfl)),λt Vg=>?_⟩
     have Vg:=Ad.1 Vg
     subst Vg
     refine ⟨_,_,hl,Er _ _ _ _ Qk,λ_=>rfl,λ_=>rfl,⟨rfl,by simp⟩,λπ' H' _=>?_⟩
     show Oe w' (π l) (.slice e) tid _
     rw [hq]
     refine hre w' ys hs (λb Jr hb hn=>hU l i j q b rfl hq hb Jr hn) ?_
     have hv:=hc.1
     rw [<-show List.length ys=List.length x from h1] at hv
     exact Td.OD hr hf hv
    ·cases he
 |Hw e te=>
  simp only [Tv] at ht
  cases a<;>simp only [] at ht<;>first|(exact ht.elim)|skip
  ·simp only [cp,Aa] at he;subst he
   exact ⟨rfl,λ_ _=>rfl,λt ht=>by simp [Qr] at ht⟩
  ·rename_i l off len
   obtain ⟨rfl,rfl,rfl,hl⟩:=ht
   have Qk:At cur.heap l=some (.Gu e te x):=(gM _ (Ad.2 rfl)).trans hl
   simp only [cp,St.at,Qk] at he
   split at he
   ·rename_i Jv
    obtain ⟨_,h1,_⟩:=Jv
    simp only [Aa] at he;subst he
    refine ⟨rfl,λm hm=>Ea _ _ _ _ (hm _ (Ad.2 rfl)),λt Vg=>?_⟩
    have Vg:=Ad.1 Vg
    subst Vg
    refine ⟨_,_,hl,Er _ _ _ _ Qk,λ_=>rfl,λ_=>rfl,⟨rfl,h1.symm⟩,λπ' H' _=>?_⟩
    show Oe w' (π l) e te _
    cases hp:π l with
    |none=>rw [hp] at hr;exact hr
    |some q=>rw [hp] at hr;exact hr
   ·cases he
  ·rename_i l i j
   obtain ⟨_,tid,xs,hl,hx,q,hq,Wk,hre⟩:=ht
   have Qk:At cur.heap l=some (.Gu (.slice e) tid xs):=(gM _ (Ad.2 rfl)).trans hl
   simp only [cp,St.at,Qk,hx] at he
   rw [Jf trivial] at he
   ·split at he
    ·rename_i h1
     simp only [Aa] at he;subst he
     refine ⟨rfl,λm hm=>Ea _ _ _ _ (hm _ (Ad.2 rfl)),λt Vg=>?_⟩
     have Vg:=Ad.1 Vg
     subst Vg
     refine ⟨_,_,hl,Er _ _ _ _ Qk,λ_=>rfl,λ_=>rfl,⟨rfl,by simp⟩,λπ' H' _=>?_⟩
     show Oe w' (π l) (.slice e) tid _
     rw [hq]
     refine hre w' ys hs (λb Jr hb hn=>hU l i j q b rfl hq hb Jr hn) ?_
     have hv:=hc.1
     rw [<-show List.length ys=List.length x from h1] at hv
     exact Oe.OD (te:=te) hr hv
    ·cases he
 |part e te=>cases a<;>simp [cp] at he<;>first|(simp only [Tv] at ht;exact ht.2.elim)
 |Bl e te kp=>exact absurd ht.1 (by simp)
theorem UH {D:Nat->Prop} (h:Ng X w π H) {k:Nat} {e:Ty} {te:TypeId} {ys:List e.den} {a:AC} {u:Value} {r:Option Real} {x:(CK.part e te).den} {cur st1:St}
  {V:List Nat} (ht:eN w (Ov X π V) r u (.part e te) x/\Tv w π H true a u r (.part e te) x) (hr:fX w' D r (.row e te) ys) (he:MY cur e ys a=some st1) (gM: ∀t∈Qr true k (.part e te) a,At cur.heap t.2.Xn=At H t.2.Xn):
  st1.tmps=cur.tmps/\(∀m,(∀t∈Qr true k (.part e te) a,m≠t.2.Xn)->At st1.heap m=At cur.heap m)/\ ∀t∈Qr true k (.part e te) a,mH X D w' π H st1.heap t.2.Xn:=by
 obtain ⟨hc,hf,ht⟩:=ht
 cases a<;>simp only [] at ht<;>first|(exact ht.elim)|skip
 rename_i l off len
 obtain ⟨rfl,_,fr,tr,hl⟩:=ht
 have Qk:At cur.heap l=some (.arr fr tr e te x.1):=(gM _ (Ad.2 rfl)).trans hl
 simp only [MY,St.at,Qk] at he
 split at he
 ·rename_i Jv
  obtain ⟨_,h1⟩:=Jv
  simp only [Aa] at he;subst he
  refine ⟨rfl,λm hm=>Ea _ _ _ _ (hm _ (Ad.2 rfl)),λt Vg=>?_⟩
  have Vg:=Ad.1 Vg
  subst Vg
  refine ⟨_,_,hl,Er _ _ _ _ Qk,λ_=>rfl,λ_=>rfl,⟨rfl,h1.symm⟩,λπ' H' _=>?_⟩
  have hb:=(h.heap l).Rp hl
  change Cj X w' π' H' (π l) _
  simp only [Cj,Ki] at hb⊢
  cases hp:π l with
  |none=>rw [hp] at hr;exact hr
  |some q=>
   rw [hp] at hr hb
   obtain ⟨k1,cu,ti,k2,k3,k4,k5,k6⟩:=hr
   exact ⟨⟨k1.1,k1.2,hb.1.2.2⟩,cu,ti,k2,k3,k4,k5,λi y hy=>by
    obtain ⟨es,g1,g2,g3⟩:=k6 i y hy
    exact ⟨es,g1,g2,Cells.flat e es y hf g3⟩,λ_=>nh hf k6⟩
 ·cases he
def rR (X:Ctx) (D:Nat->Prop) (w':World) (π:Pi) (H:List (Nat×OB)) (tk:List (Nat×Loc)) (cur st1:St):Prop:=
 st1.tmps=cur.tmps/\(∀m,(∀t∈tk,m≠t.2.Xn)->At st1.heap m=At cur.heap m)/\(∀t∈tk,t.1<Bn->At st1.heap t.2.Xn=At cur.heap t.2.Xn)/\(∀t∈tk,¬t.1<Bn->mH X D w' π H st1.heap t.2.Xn)
theorem uf {D:Nat->Prop} (h:Ng X w π H) {V:List Nat} {πc:Pi} {tks:List (Nat×Loc)} (hs:w.heap.size<=w'.heap.size)
  (hU: ∀t∈tks,∀q b,π t.2.Xn=some q->q.Cv b->b<w.heap.size->(∀r',πc t.1=some r'-> ¬r'.Cv b)->w'.heap[b]?=w.heap[b]?):
  ∀(cs:List (Bool×CK)) (k:Nat) (x:Ins.den cs) (as:List AC) (us:List Value) (o:IOs.den cs) (cur st1:St),k+cs.length<100000->(∀t∈Lt k cs as,t∈tks)->((Lt k cs as).map λt=>t.2.Xn).Nodup->
   r7 X w π V H πc k cs x as us->Mh w' D πc k cs o->Ih cs o as cur=some st1->(∀t∈Lt k cs as,At cur.heap t.2.Xn=At H t.2.Xn)->
   rR X D w' π H (Lt k cs as) cur st1
 | [],k,x,as,us,o,cur,st1,_,_,_,_,_,he,_=>by
  simp only [Ih,Aa] at he;subst he
  have e0:Lt k [] as= []:=by cases as<;>rfl
  exact ⟨rfl,λ_ _=>rfl,by rw [e0];simp,by rw [e0];simp⟩
 |p::r,k,x,[],us,o,cur,st1,_,_,_,ht,_,_,_=>ht.elim
 |p::r,k,x,a::as,[],o,cur,st1,_,_,_,ht,_,_,_=>ht.elim
 |(io,c)::r,k,x,a::as,u::us,o,cur,st1,hk,Qa,JE,ht,ho,he,gM=>by
  simp only [Av] at hk
  simp only [Lt] at Qa JE gM⊢
  rw [Il] at JE
  obtain ⟨n1,n2,n3⟩:=Dt.1 JE
  have apart: ∀t∈Qr io k c a,∀t'∈Lt (k+1) r as,t'.2.Xn≠t.2.Xn:= λt h1 t' h2 e=>n3 _ (Ay.2 ⟨t,h1,rfl⟩) _ (Ay.2 ⟨t',h2,rfl⟩) e.symm
  have rest: ∀(an:St) (o':IOs.den r),Mh w' D πc (k+1) r o'->Ih r o' as an=some st1->an.tmps=cur.tmps->(∀m,(∀t∈Qr io k c a,m≠t.2.Xn)->At an.heap m=At cur.heap m)->
    (∀t∈Qr io k c a,t.1<Bn->At an.heap t.2.Xn=At cur.heap t.2.Xn)->(∀t∈Qr io k c a,¬t.1<Bn->mH X D w' π H an.heap t.2.Xn)->
    rR X D w' π H (Qr io k c a++Lt (k+1) r as) cur st1:=by
   intro an o' h1 h2 h3 h4 h5 h6
   obtain ⟨g1,g2,g3,g4⟩:=uf h hs hU r (k+1) x.2 as us o' an st1 (by omega) (λt ht=>Qa t (Ci _ ht)) n2 ht.2 h1 h2 (λt Vg=>by
    rw [h4 _ λt0 ht0=>apart t0 ht0 t Vg];exact gM t (Ci _ Vg))
   have hd: ∀t∈Qr io k c a,At st1.heap t.2.Xn=At an.heap t.2.Xn:= λt Vg=>g2 _ λt' vu=>(apart t Vg t' vu).symm
   refine ⟨g1.trans h3,λm hm=>?_,λt Vg Jr=>?_,λt Vg Jr=>?_⟩
   ·rw [g2 m λt ht=>hm t (Ci _ ht),h4 m λt ht=>hm t (Bi _ ht)]
   ·rcases Ax.1 Vg with Vg|Vg
    ·rw [hd t Vg,h5 t Vg Jr]
    ·rw [g3 t Vg Jr,h4 _ λt0 ht0=>apart t0 ht0 t Vg]
   ·rcases Ax.1 Vg with Vg|Vg
    ·obtain ⟨b0,b',q1,q2,q3⟩:=h6 t Vg Jr
     exact ⟨b0,b',q1,(hd t Vg).trans q2,q3⟩
    ·exact g4 t Vg Jr
  have same: ∀o',Mh w' D πc (k+1) r o'->Ih r o' as cur=some st1->(∀t∈Qr io k c a,t.1<Bn)->rR X D w' π H (Qr io k c a++Lt (k+1) r as) cur st1:= λo' h1 h2 h3=>rest cur o' h1 h2 rfl (λ_ _=>rfl) (λ_ _ _=>rfl) (λt h4 h5=>absurd (h3 t h4) h5)
  cases io with
  |false=>
   have h3: ∀t∈Qr false k c a,t.1<Bn:= λt h4=>by rcases HY h4 with ⟨h5,_⟩|⟨h5,_⟩<;>(rw [h5];exact fH (by omega))
   cases c with
   |Fy τ=>exact same o ho (by simpa only [Ih] using he) h3
   |row e te=>exact same o ho (by simpa only [Ih] using he) h3
   |Hw e te=>exact same o ho (by simpa only [Ih] using he) h3
   |part e te=>exact same o ho (by simpa only [Ih] using he) h3
   |Bl e te kp=>exact same o ho (by simpa only [Ih] using he) h3
  |true=>
   have row: ∀(ys:c.den) (o':IOs.den r),(∀t∈Qr true k c a,t.1=Dx true k)->fX w' D (πc (Dx true k)) c ys->Mh w' D πc (k+1) r o'->(∃an,cp cur c ys a=some an/\Ih r o' as an=some st1)->rR X D w' π H (Qr true k c a++Lt (k+1) r as) cur st1:=by
    intro ys o' h0 h1 h2 h3
    obtain ⟨an,hp,h3⟩:=h3
    ·obtain ⟨q1,q2,q3⟩:=UG (k:=k) h hs (λl i j q b ea hq hb Jr hn=>by
      cases c with
      |Fy τ=>exact absurd (ht.1.2:πc _=none) (by subst ea;simp [cp] at hp)
      |row e te=>subst ea;exact hU (Dx true k, .sub l i j) (Qa _ (Bi _ (Ad.2 rfl))) q b hq hb Jr hn
      |Hw e te=>subst ea;exact hU (Dx true k, .sub l i j) (Qa _ (Bi _ (Ad.2 rfl))) q b hq hb Jr hn
      |Bl e te kp=>exact absurd ht.1.2.1 (by simp)
      |part e te=>exact absurd ht.1.2.2 (by subst ea;exact λh=>h)) ht.1 h1 hp (λt Vg=>gM t (Bi _ Vg))
     exact rest an o' h2 h3 q1 q2 (λt h4 h5=>absurd h5 (by rw [h0 t h4];exact bj k)) (λt h4 _=>q3 t h4)
   cases c with
   |Fy τ=>exact same o ho (by simpa only [Ih] using he) (λt h4=>by rw [Abi h4];exact fH (by omega))
   |Bl e te kp=>exact absurd ht.1.2.1 (by simp)
   |row e te=>
    simp only [Ih] at he
    split at he
    ·rename_i an hp;exact row o.1 o.2 (λt ht=>Abj ht) ho.1 ho.2 ⟨an,hp,he⟩
    ·cases he
   |Hw e te=>
    simp only [Ih] at he
    split at he
    ·rename_i an hp;exact row o.1 o.2 (λt ht=>VJ ht) ho.1 ho.2 ⟨an,hp,he⟩
    ·cases he
   |part e te=>
    simp only [Ih] at he
    split at he
    ·rename_i an hp
     obtain ⟨q1,q2,q3⟩:=UH (k:=k) h ht.1 ho.1 hp (λt Vg=>gM t (Bi _ Vg))
     exact rest an o.2 ho.2 he q1 q2 (λt h4 h5=>absurd h5 (by rw [VI h4];exact bj k)) (λt h4 _=>q3 t h4)
    ·cases he
theorem MA {fr:Bool} {c:CK} {x:c.den} {u:Value} {r:Option Real} {D:Nat->Prop} (h:eN w' D r u c x):
  (vV fr c x=none/\r=none)\/ ∃b',vV fr c x=some b'/\ ∀(X:Ctx) π' H',(fr=true-> ∀q,r=some q->X.w0.heap.size<=q.g)->(∀b,Vy π' b\/X.Sc b->D b)->Cj X w' π' H' r b':=by
 cases c with
 |Fy τ=>exact .inl ⟨rfl,h.1⟩
 |row e te=>
  refine .inr ⟨_,rfl,λX π' H' EE hD=>?_⟩
  obtain ⟨_,h⟩:=h
  simp only [fX] at h
  simp only [Cj,Ki]
  cases r with
  |none=>exact h
  |some q=>
   obtain ⟨k1,cu,ti,k2,k3,k4,k5,k6⟩:=h
   exact ⟨⟨k1.1,k1.2,λh1=>EE (by simp only [Af] at h1;exact h1.1) q rfl⟩,cu,ti,k2,k3,k4,k5,λi y hy=>by
    obtain ⟨es,g1,g2,g3⟩:=k6 i y hy
    exact ⟨es,g1,g2,eW hD g3⟩,λh=>by cases h⟩
 |Hw e te=>exact .inr ⟨_,rfl,λX π' H' _ _=>h.2⟩
 |Bl e te kp=>exact .inr ⟨_,rfl,λX π' H' _ hD=>⟨ay.Iw h.2 λb hb=>hD b (hb.imp id λh=>h.elim id λh=>by cases h.1),trivial⟩⟩
 |part e te=>
  refine .inr ⟨_,rfl,λX π' H' EE hD=>?_⟩
  obtain ⟨_,hf,h⟩:=h
  simp only [Cj,Ki]
  cases r with
  |none=>exact h
  |some q=>
   obtain ⟨k1,cu,ti,k2,k3,k4,k5,k6⟩:=h
   exact ⟨⟨k1.1,k1.2,λh1=>EE (by simp only [Af] at h1;exact h1.1) q rfl⟩,cu,ti,k2,k3,k4,k5,λi y hy=>by
    obtain ⟨es,g1,g2,g3⟩:=k6 i y hy
    exact ⟨es,g1,g2,eW hD g3⟩,λh=>by cases h⟩
theorem qK {D:Nat->Prop} {key:Nat->Nat} (KT: ∀i j,key i=key j->i=j) {fr:Bool} {ρ:Pi} : ∀(cs:List CK) (k:Nat) (x:CKs.den cs) (us:List Value) (H:List (Nat×OB)),Jk w' D ρ k cs x us->
  (∀j,k<=j->j<k+cs.length->At H (key j)=none)->
  (∀l,(∀j,k<=j->j<k+cs.length->l≠key j)->At (Yq fr key k cs x H) l=At H l)/\
  (∀j,k<=j->j<k+cs.length->(At (Yq fr key k cs x H) (key j)=none/\ρ (Km j)=none)\/
   ∃b',At (Yq fr key k cs x H) (key j)=some b'/\ ∀(X:Ctx) π' H',(fr=true-> ∀q,ρ (Km j)=some q->X.w0.heap.size<=q.g)->(∀b,Vy π' b\/X.Sc b->D b)->Cj X w' π' H' (ρ (Km j)) b')/\
  (∀π',(∀b,Vy π' b\/X.Sc b->D b)->(∀j,k<=j->j<k+cs.length->π' (key j)=ρ (Km j))->Nh X w' π' (Yq fr key k cs x H) (bX key k cs x) us)
 | [],k,x,[],H,_,_=>⟨λ_ _=>rfl,λj h1 h2=>by simp at h2;omega,λ_ _ _=>trivial⟩
 | [],_,_,_::_,_,h,_=>h.elim
 |_::_,_,_,[],_,h,_=>h.elim
 |c::r,k,x,u::us,H,h,hn=>by
  simp only [Av] at hn⊢
  simp only [Yq,bX]
  have vL:=hn k (Ap _) (by omega)
  have hH1: ∀l,l≠key k->At (EP H (key k) (vV fr c x.1)) l=At H l:=by
   intro l hl
   cases vV fr c x.1 with
   |some b=>exact Pn _ _ _ _ hl
   |none=>rfl
  have Al0:At (EP H (key k) (vV fr c x.1)) (key k)=vV fr c x.1:=by
   cases vV fr c x.1 with
   |some b=>exact Qt _ _ _ vL
   |none=>exact vL
  generalize (EP H (key k) (vV fr c x.1))=H1 at hH1 Al0⊢
  obtain ⟨g1,g2,g3⟩:=qK KT (fr:=fr) r (k+1) x.2 us H1 h.2 (λj h1 h2=>by
   rw [hH1 _ λe=>by have:=KT _ _ e;omega];exact hn j (by omega) (by omega))
  have hkk:At (Yq fr key (k+1) r x.2 H1) (key k)=vV fr c x.1:=by
   rw [g1 _ λj h1 h2 e=>by have:=KT _ _ e;omega];exact Al0
  refine ⟨λl hl=>?_,λj h1 h2=>?_,λπ' hd hπ=>⟨?_,?_⟩⟩
  ·rw [g1 l λj h1 h2=>hl j (by omega) (by omega)]
   exact hH1 l (hl k (Ap _) (by omega))
  ·rcases Nat.eq_or_lt_of_le h1 with e|h1
   ·subst e
    rw [hkk]
    exact MA h.1
   ·exact g2 j h1 (by omega)
  ·have h1:=h.1
   have hpk:=hπ k (Ap _) (by omega)
   cases c with
   |Fy τ=>
    obtain ⟨iz,c1,c2⟩:=h1.2
    exact ⟨iz,by have:=eW (fr:=true) hd c1;simpa using this,c2⟩
   |row e te=>exact ⟨_,e.size,List.length x.1,hkk,rfl,by simp,by rw [hpk];exact h1.1⟩
   |Hw e te=>exact ⟨_,e.size,List.length x.1,hkk,rfl,by simp,by rw [hpk];exact h1.1⟩
   |Bl e te kp=>exact ⟨_,1,List.length x.1,hkk,rfl,by simp,by rw [hpk];exact h1.1⟩
   |part e te=>trivial
  ·exact g3 π' hd λj h1 h2=>hπ j (by omega) (by omega)
theorem LM {ks:List Nat} {n:Nat} (h:zl ks n=true):ks.length=n/\ks.Nodup/\ ∀l∈ks,l<Bn:=by
 unfold zl at h
 simp only [Af] at h
 refine ⟨Jt h.1,Yp h.2.1,λl hl=>?_⟩
 have:=Ba.1 h.2.2 l hl
 simpa using this
theorem Rq {ks:List Nat} {j:Nat} (h:j<ks.length):Ed ks j=ks[j]:=by
 unfold Ed
 rw [Ab h]
theorem DB {ks:List Nat} (hn:ks.Nodup) (hl: ∀l∈ks,l<Bn): ∀i j,Ed ks i=Ed ks j->i=j:=by
 intro i j h
 by_cases hi:i<ks.length
 ·by_cases hj:j<ks.length
  ·rw [Rq hi,Rq hj] at h
   rcases Nat.lt_trichotomy i j with Jr|he|Jr
   ·exact absurd h (Dp.1 hn i j hi hj Jr)
   ·exact he
   ·exact absurd h.symm (Dp.1 hn j i hj hi Jr)
  ·have h1:=hl _ (Al hi)
   rw [Rq hi] at h
   unfold Ed at h
   rw [Dy (by omega)] at h
   simp only at h
   omega
 ·by_cases hj:j<ks.length
  ·have h1:=hl _ (Al hj)
   rw [Rq hj] at h
   unfold Ed at h
   rw [Dy (by omega)] at h
   simp only at h
   omega
  ·unfold Ed at h
   rw [Dy (by omega),Dy (by omega)] at h
   simp only at h
   omega
theorem Nw: ∀(H:List (Nat×OB)) (dead:List Nat) (l:Nat),At (Yd H dead) l=if l∈dead then none else At H l
 | [],dead,l=>by simp [Yd,At]
 |(k,b)::r,dead,l=>by
  simp only [Yd]
  have ih:=Nw r dead l
  by_cases hk:k∈dead
  ·rw [Ac (by simpa using hk),ih]
   split
   ·rfl
   ·rename_i hl
    simp only [At]
    rw [Ak (λ(e:k=l)=>hl (e▸hk))]
  ·rw [Ak (by simpa using hk)]
   simp only [At]
   split
   ·rename_i e;subst e;rw [Ak hk]
   ·exact ih
theorem mem_keys {ks:List Nat} {l:Nat} :l∈ks↔ ∃k,k<ks.length/\l=Ed ks k:=
 ⟨λh=>by obtain ⟨k,hk,e⟩:=Ns h;exact ⟨k,hk,by rw [Rq hk,e]⟩,λ⟨k,hk,e⟩=>by rw [e,Rq hk];exact Al hk⟩
theorem ek {tks:List (Nat×Loc)} {l:Nat} :l∈mS tks↔ ∃t∈tks,(t.1<Bn/\t.2.reads=false)/\t.2.Xn=l:=by
 unfold mS
 simp only [Ay,Cg,Af,Nn,Fz]
 exact ⟨λ⟨t,⟨h1,h2⟩,h3⟩=>⟨t,h1,h2,h3⟩,λ⟨t,h1,h2,h3⟩=>⟨t,⟨h1,h2⟩,h3⟩⟩
theorem zm {tks:List (Nat×Loc)} (h:(tks.map λt=>t.2.Xn).Nodup) {t t':Nat×Loc} (ht:t∈tks) (vu:t'∈tks) (he:t.2.Xn=t'.2.Xn):t=t':=by
 induction tks with
 |nil=>cases ht
 |cons a r ih=>
  simp only [Bm] at h
  obtain ⟨h1,h2⟩:=Bx.1 h
  rcases Bc.1 ht with rfl|ht<;>rcases Bc.1 vu with rfl|vu
  ·rfl
  ·exact (h1 (Ay.2 ⟨t',vu,he.symm⟩)).elim
  ·exact (h1 (he▸Ay.2 ⟨t,‹t∈r›,rfl⟩)).elim
  ·exact ih h2 ht vu
theorem Jk.full {D:Nat->Prop} {ρ:Pi} : ∀(cs:List CK) (k:Nat) (x:CKs.den cs) (us:List Value),Jk w D ρ k cs x us->Jk w D (λl=>(ρ l).map full) k cs x us
 | [],_,_,[],h=>h
 | [],_,_,_::_,h=>h.elim
 |_::_,_,_,[],h=>h.elim
 |c::r,k,x,u::us,h=>⟨by
   have h1:=h.1
   show eN w D ((ρ (Km k)).map _) u c x.1
   cases c with
   |Fy τ=>rw [h1.1];exact ⟨rfl,h1.2⟩
   |row e te=>cases hp:ρ (Km k)<;>(rw [hp] at h1;exact h1)
   |Hw e te=>cases hp:ρ (Km k)<;>(rw [hp] at h1;exact h1)
   |Bl e te kp=>cases hp:ρ (Km k)<;>(rw [hp] at h1;exact h1)
   |part e te=>cases hp:ρ (Km k)<;>(rw [hp] at h1;exact h1),Jk.full r (k+1) x.2 us h.2⟩
theorem Jk.Afb {D:Nat->Prop} {ρ:Pi} : ∀(cs:List CK) (k0:Nat) (x:CKs.den cs) (us:List Value),Jk w D ρ k0 cs x us-> ∀j,k0<=j->j<k0+cs.length-> ∀q,ρ (Km j)=some q->q.Cv q.g
 | [],k0,_,_,_,j,h1,h2,_,_=>by simp at h2;omega
 |_::_,_,_,[],h,_,_,_,_,_=>h.elim
 |c::r,k0,x,u::us,ho,j,h1,h2,q,hq=>by
  rcases Nat.eq_or_lt_of_le h1 with e|h1
  ·subst e
   have:=ho.1
   cases c with
   |Fy τ=>rw [hq] at this;cases this.1
   |row e te=>rw [hq] at this;exact this.2.1.1
   |Hw e te=>rw [hq] at this;exact this.2.1
   |part e te=>rw [hq] at this;exact this.2.2.1.1
   |Bl e te kp=>rw [hq] at this;exact this.2.1
  ·exact Jk.Afb r (k0+1) x.2 us ho.2 j h1 (by simp at h2;omega) q hq
theorem Td.any {D D':Nat->Prop} {r:Option Real} {e:Ty} {xs:List e.den} (hf:e.flat=true) (h:Td w D r e xs):Td w D' r e xs:=by
 cases r with
 |none=>exact h
 |some r=>
  obtain ⟨k1,cu,ti,k2,k3,k4,k5,k6⟩:=h
  exact ⟨k1,cu,ti,k2,k3,k4,k5,λi y hy=>by
   obtain ⟨es,g1,g2,g3⟩:=k6 i y hy
   exact ⟨es,g1,g2,Cells.flat e es y hf g3⟩⟩
theorem Jk.any {D D':Nat->Prop} {ρ:Pi} : ∀(cs:List CK) (k:Nat) (x:CKs.den cs) (us:List Value),cs.all (·.flat)=true->Jk w D ρ k cs x us->Jk w D' ρ k cs x us
 | [],_,_,[],_,h=>h
 | [],_,_,_::_,_,h=>h.elim
 |_::_,_,_,[],_,h=>h.elim
 |c::r,k,x,u::us,hf,h=>by
  simp only [Iu,Af] at hf
  refine ⟨?_,Jk.any r (k+1) x.2 us hf.2 h.2⟩
  have h1:=h.1
  cases c with
  |Fy τ=>exact ⟨h1.1,Cw.flat hf.1 h1.2⟩
  |row e te=>exact ⟨h1.1,Td.any hf.1 h1.2⟩
  |Hw e te=>exact h1
  |part e te=>exact ⟨h1.1,h1.2.1,Td.any hf.1 h1.2.2⟩
  |Bl e te kp=>exact absurd hf.1 (by simp [CK.flat])
theorem Mh.any {D D':Nat->Prop} {π:Pi} : ∀(cs:List (Bool×CK)) (k:Nat) (x:IOs.den cs),(cs.all λp=>!p.1||p.2.flat)=true->Mh w D π k cs x->Mh w D' π k cs x
 | [],_,_,_,h=>h
 |(false,_)::r,k,x,hf,h=>Mh.any r (k+1) x (by simp only [Iu,Af] at hf;exact hf.2) h
 |(true, .Fy _)::r,k,x,hf,h=>Mh.any r (k+1) x (by simp only [Iu,Af] at hf;exact hf.2) h
 |(true, .Bl _ _ _)::r,k,x,hf,h=>Mh.any r (k+1) x (by simp only [Iu,Af] at hf;exact hf.2) h
 |(true, .row e te)::r,k,x,hf,h=>by
  simp only [Iu,Af,Bool.not_true,Xi] at hf
  exact ⟨Td.any hf.1 h.1,Mh.any r (k+1) x.2 hf.2 h.2⟩
 |(true, .Hw e te)::r,k,x,hf,h=>by
  simp only [Iu,Af,Bool.not_true,Xi] at hf
  exact ⟨h.1,Mh.any r (k+1) x.2 hf.2 h.2⟩
 |(true, .part e te)::r,k,x,hf,h=>by
  simp only [Iu,Af,Bool.not_true,Xi] at hf
  exact ⟨Td.any hf.1 h.1,Mh.any r (k+1) x.2 hf.2 h.2⟩
theorem tT {tks:List (Nat×Loc)} {l:Nat} :l∈BM tks↔ ∃t∈tks,t.2.reads=true/\t.2.Xn=l:=by
 unfold BM
 simp only [Ay,Cg]
 exact ⟨λ⟨t,⟨h1,h2⟩,h3⟩=>⟨t,h1,h2,h3⟩,λ⟨t,h1,h2,h3⟩=>⟨t,⟨h1,h2⟩,h3⟩⟩
theorem Bh.nW {st:St} {a:Act} (h:Bh X π st a w) {f:AC->AC} (hu:f .undef= .undef) {gv:Nat->Prop} (SM: ∀b,gv b->Vy π b) (hb:Kw w.heap.size gv w w')
  (ef: ∀b,b<w.heap.size->Vy π' b->Vy π b)
  (Qa: ∀l r b,π' l=some r->r.Cv b->r.cl b) (Ai2: ∀l r b,π' l=some r->r.cl b->(X.w0.heap.size<=b\/X.gv b)/\b<w'.heap.size)
  (Ari: ∀l l' r r' b,π' l=some r->π' l'=some r'->r.cl b->r'.cl b->l=l')
  (Zx: ∀l,Bn<=l->At H' l≠none->bz (X.gW l) (π' l))
  (hac:(∀fr τ cs x,Cells w (Da X.w0.heap.size X.Sc π fr) τ cs x->Cells w' (Da X.w0.heap.size X.Sc π' fr) τ cs x)-> ∀c v,Hq X w π st.heap c v->Hq X w' π' H' (f c) v)
  (KN:Move X w w' π π' st.heap H' f-> ∀l b,At H' l=some b->Cj X w' π' H' (π' l) b)
  (QF: ∀l,At H' l=none->π' l=none):
  Bh X π' {tmps:=st.tmps.map (·.map f),heap:=H'} a w':=by
 have hc: ∀fr τ cs x,Cells w (Da X.w0.heap.size X.Sc π fr) τ cs x->Cells w' (Da X.w0.heap.size X.Sc π' fr) τ cs x:= λfr τ cs x hh=>
  Cells.Fb hb.size (λk hk hn=>hb.block k hk λhg=>hn (.inl (SM k hg))) (λk Jr hA=>hA.imp (ef k Jr) id) τ cs x hh
 have m:Move X w w' π π' st.heap H' f:=⟨hac hc,hc⟩
 refine ⟨⟨⟨hb.os.trans h.1.below.os,hb.tape.trans h.1.below.tape,hb.output.trans h.1.below.output,Gx h.1.below.size hb.size,λk hk hn=>?_⟩,h.1.sc,Qa,Ai2,Ari,Zx,λl=>?_⟩,m.NB hu h.2⟩
 ·refine (hb.block k (Eg hk h.1.below.size) λhg=>?_).trans (h.1.below.block k hk hn)
  rcases (h.1.own (SM k hg)).2 with h1|h1
  ·omega
  ·exact hn h1
 ·cases hh:At H' l with
  |none=>exact Gh.Um (QF l hh) hh
  |some b=>exact Gh.Lr (KN m l b hh) hh
def fY:Option Real->Option Real->Prop
 |none,none=>True
 |some r,some r'=>r.g=r'.g/\r.o=r'.o/\r.cap=r'.cap
 |_,_=>False
theorem fY.rfl' (r:Option Real):fY r r:=by cases r<;>simp [fY]
theorem fY.some {r:Real} {r':Option Real} (h:fY (some r) r'): ∃q,r'=some q/\r.g=q.g/\r.o=q.o/\r.cap=q.cap:=by
 cases r' with
 |none=>exact h.elim
 |some q=>exact ⟨q,rfl,h⟩
theorem fY.own {r r':Option Real} (h:fY r r') {sz off len:Nat} {v:Value} (hv:Ia r sz off len v):Ia r' sz off len v:=by
 cases r<;>cases r'<;>first|exact h.elim|skip
 ·exact hv
 ·obtain ⟨h1,h2,h3⟩:=h
  obtain ⟨ad,g1,g2,g3⟩:=hv
  exact ⟨ad,by rw [<-h3];exact g1,by rw [<-h3];exact g2,by rw [<-h1,<-h2,<-h3];exact g3⟩
structure OB.Tk (b b':OB):Prop where
 row: ∀sz n,b.row=some (sz,n)-> ∃n',b'.row=some (sz,n')/\n<=n'
 gq: ∀p,b.gq=some p->b'.gq=some p
 vJ: ∀p,b.vJ=some p->b'.vJ=some p
 var: ∀tid vs,b= .var tid vs-> ∃Uz vs',b'= .var Uz vs'
 Vu: ∀v m,b= .Vu v m-> ∃m',b'= .Vu v m'
theorem OB.Tk.map (f:AC->AC) (b:OB):b.Tk (b.map f) where
 row:= λsz n h=>⟨n,by cases b<;>exact h,Ap _⟩
 gq:= λp h=>by cases b<;>exact h
 vJ:= λp h=>by cases b<;>exact h
 var:= λtid vs h=>by subst h;exact ⟨_,_,rfl⟩
 Vu:= λv m h=>by subst h;exact ⟨_,rfl⟩
theorem OB.Tk.rfl' (b:OB):b.Tk b where
 row:= λ_sz n h=>⟨n,h,Ap _⟩
 gq:= λ_p h=>h
 vJ:= λ_p h=>h
 var:= λ_tid _vs h=>⟨_,_,h⟩
 Vu:= λ_v _m h=>⟨_,h⟩
theorem OB.Tk.trans {a b c:OB} (h:a.Tk b) (k:b.Tk c):a.Tk c where
 row:= λsz n hr=>by
  obtain ⟨n1,h1,h2⟩:=h.row sz n hr
  obtain ⟨n2,h3,h4⟩:=k.row sz n1 h1
  exact ⟨n2,h3,by omega⟩
 gq:= λp hp=>k.gq p (h.gq p hp)
 vJ:= λp hp=>k.vJ p (h.vJ p hp)
 var:= λtid vs hv=>by obtain ⟨t',v',h1⟩:=h.var tid vs hv;exact k.var t' v' h1
 Vu:= λv m hm=>by obtain ⟨m',h1⟩:=h.Vu v m hm;exact k.Vu v m' h1
theorem nV {f:AC->AC} {D Pt:Nat->Prop} (hf: ∀c,f c= .undef\/(f c=c/\(∀k∈c.refs,¬D k)/\ ∀k i j,c= .sub k i j\/c= .Kh k i j-> ¬Pt k)) (hp: ∀k,¬D k->fY (π k) (π' k))
  (hH: ∀k b,¬D k->At H k=some b-> ∃b',At H' k=some b'/\b.Tk b')
  (hg: ∀k r b,¬D k-> ¬Pt k->At H k=some b->b.gq≠none->π k=some r->w'.heap[r.g]?=w.heap[r.g]?)
  (hc: ∀fr τ cs x,Cells w (Da X.w0.heap.size X.Sc π fr) τ cs x->Cells w' (Da X.w0.heap.size X.Sc π' fr) τ cs x): ∀c v,Hq X w π H c v->Hq X w' π' H' (f c) v:=by
 intro c v h
 rcases hf c with e|⟨e,hr,hs⟩
 ·rw [e];trivial
 rw [e]
 cases c with
 |data fr τ x=>obtain ⟨cs,h1,h2⟩:=h;exact ⟨cs,hc _ _ _ _ h1,h2⟩
 |own k off len=>
  obtain ⟨b,sz,n,h1,h0,h2,h3⟩:=h
  have hk:=hr k (by simp [AC.refs])
  obtain ⟨b',g1,g2⟩:=hH k b hk h1
  obtain ⟨n',g3,g4⟩:=g2.row sz n h0
  exact ⟨b',sz,n',g1,g3,by omega,(hp k hk).own h3⟩
 |Hj k i=>
  obtain ⟨r,tid,vs,h1,h2,h3⟩:=h
  have hk:=hr k (by simp [AC.refs])
  obtain ⟨b',g1,g2⟩:=hH k _ hk h1
  obtain ⟨Uz,vs',rfl⟩:=g2.var tid vs rfl
  obtain ⟨q,q1,q2,_⟩:=(h2▸hp k hk).some
  exact ⟨q,Uz,vs',g1,q1,by rw [<-q2];exact h3⟩
 |Kk k i=>
  obtain ⟨r,b,sz,n,h1,h0,h2,h3,h4⟩:=h
  have hk:=hr k (by simp [AC.refs])
  obtain ⟨b',g1,g2⟩:=hH k b hk h1
  obtain ⟨n',g3,g4⟩:=g2.row sz n h0
  obtain ⟨q,q1,q2,q3,_⟩:=(h3▸hp k hk).some
  exact ⟨q,b',sz,n',g1,g3,by omega,q1,by rw [<-q2,<-q3];exact h4⟩
 |sub k i c=>
  obtain ⟨r,b,sz,n,h1,h0,h2,h3,h4,h5⟩:=h
  have hk:=hr k (by simp [AC.refs])
  obtain ⟨b',g1,g2⟩:=hH k b hk h1
  obtain ⟨q,q1,q2,q3,_⟩:=(h2▸hp k hk).some
  exact ⟨q,b',sz,n,g1,g2.gq _ h0,q1,h3,h4,by rw [<-q2,<-q3,World.cell?_of_block (hg k r b hk (hs k i c (.inl rfl)) h1 (by rw [h0];simp) h2)];exact h5⟩
 |Kh k i c=>
  obtain ⟨r,b,n,sz,g,o,len,cap,h1,h0,h2,h3,h4,h5,h6⟩:=h
  have hk:=hr k (by simp [AC.refs])
  obtain ⟨b',g1,g2⟩:=hH k b hk h1
  obtain ⟨q,q1,q2,q3,_⟩:=(h2▸hp k hk).some
  exact ⟨q,b',n,sz,g,o,len,cap,g1,g2.vJ _ h0,q1,h3,h4,by rw [<-q2,<-q3,World.cell?_of_block (hg k r b hk (hs k i c (.inr rfl)) h1 (by cases b<;>first|(cases h0;done)|simp [OB.gq]) h2)];exact h5,h6⟩
 |clo g Ee=>
  obtain ⟨us,h1,h2,h3⟩:=h
  refine ⟨us,h1,h2,λj p hpj=>?_⟩
  obtain ⟨r,tid,vs,h4,h5,h6⟩:=h3 j p hpj
  have hk:=hr p.1 (by simp only [AC.refs,Ay];exact ⟨p,Cm hpj,rfl⟩)
  obtain ⟨b',g1,g2⟩:=hH p.1 _ hk h4
  obtain ⟨Uz,vs',rfl⟩:=g2.var tid vs rfl
  obtain ⟨q,q1,q2,_⟩:=(h5▸hp p.1 hk).some
  exact ⟨q,Uz,vs',g1,q1,by rw [<-q2];exact h6⟩
 |Ks k=>
  obtain ⟨r,vt,m,h1,h2,h3⟩:=h
  have hk:=hr k (by simp [AC.refs])
  obtain ⟨b',g1,g2⟩:=hH k _ hk h1
  obtain ⟨m',rfl⟩:=g2.Vu vt m rfl
  obtain ⟨q,q1,q2,_⟩:=(h2▸hp k hk).some
  exact ⟨q,vt,m',g1,q1,by rw [<-q2];exact h3⟩
 |_=>exact h
theorem Vf (H0:List (Nat×OB)) (ls:List Nat) (n:Nat): ∀(H:List (Nat×OB)) (l:Nat),At (dq H0 ls n H) l=(At H l).map λb=>if ls.contains l then b.HG (bU n (Aiq (At H0 l))) else b
 | [],_=>rfl
 |(k,b)::r,l=>by
  simp only [dq,At]
  split
  ·rename_i e;subst e;rfl
  ·exact Vf H0 ls n r l
theorem OB.zZ (b:OB) (kp:Option (Nat×Nat)):b.Tk (b.HG kp):=by
 cases b with
 |Bl e te rows out kp0=>exact ⟨λsz n h=>⟨n,h,Ap _⟩,λp h=>h,λp h=>h,(λ_ _ h=>by cases h),(λ_ _ h=>by cases h)⟩
 |_=>exact OB.Tk.rfl' _
theorem fP (ls:List Nat): ∀(l m:List AV) (t:Nat),l.length=m.length->(∃k i c,l.getD t .undef= .at (.sub k i c)/\ls.contains k=true/\(Ls ls l m).getD t .undef= .at (.sub k i c))\/(Ls ls l m).getD t .undef=m.getD t .undef
 | [],m,t,_=>by cases m<;>exact .inr rfl
 |_::_,[],t,h=>by simp at h
 |a::l,v::m,t,h=>by
  have ih:= λt=>fP ls l m t (by simpa using h)
  have tail: ∀u,Ls ls (a::l) (v::m)=u::Ls ls l m->(t=0->(∃k i c,(a::l).getD t .undef= .at (.sub k i c)/\ls.contains k=true/\u= .at (.sub k i c))\/u=v)->
    (∃k i c,(a::l).getD t .undef= .at (.sub k i c)/\ls.contains k=true/\(Ls ls (a::l) (v::m)).getD t .undef= .at (.sub k i c))\/(Ls ls (a::l) (v::m)).getD t .undef=(v::m).getD t .undef:=by
   intro u e h0
   rw [e]
   rcases t with _|t
   ·rcases h0 rfl with ⟨k,i,c,h1,h2,h3⟩|h3
    ·exact .inl ⟨k,i,c,h1,h2,by simpa using h3⟩
    ·exact .inr (by simpa using h3)
   ·simpa only [Nr] using ih t
  cases a with
  | «at»c=>
   cases c with
   |sub k i c=>
    refine tail _ rfl λht=>?_
    subst ht
    by_cases hc:ls.contains k=true
    ·exact .inl ⟨k,i,c,rfl,hc,by rw [Ac hc]⟩
    ·exact .inr (by rw [Ak hc])
   |_=>exact tail _ rfl λ_=> .inr rfl
  |_=>exact tail _ rfl λ_=> .inr rfl
theorem uR {H:List (Nat×OB)} {ls:List Nat} {n:Nat} : ∀ {l:List AV} {t k i c:Nat},dA H ls n l=true->l.getD t .undef= .at (.sub k i c)->ls.contains k=true->i<n/\i<rX H k
 | [],t,k,i,c,_,h,_=>by simp at h
 |a::l,0,k,i,c,ho,h,hc=>by
  simp only [Xv] at h
  subst h
  simp only [dA,hc,Bool.not_true,Xi,Af,Nn] at ho
  exact ho.1
 |a::l,t+1,k,i,c,ho,h,hc=>by
  refine uR (l:=l) (t:=t) (c:=c) ?_ (by simpa only [Nr] using h) hc
  cases a with
  | «at»d=>cases d with
   |sub _ _ _=>simp only [dA,Af] at ho;exact ho.2
   |_=>exact ho
  |_=>exact ho
theorem LJ {ck st:St} {a:Act} (h0:Bh X π ck a w) (h:Bh X π' st a w') {ls:List Nat} {n:Nat} (hk: ∀l∈ls,CE w w' (π l) (π' l) n) (tm: ∀l∈ls,nC ck.heap l=true)
  (ee:dA st.heap ls n ck.tmps=true):Bh X π' (m9 ck st ls n) a w'/\ ∀c v,Bq X w' π' st.heap c v->Bq X w' π' (m9 ck st ls n).heap c v:=by
 by_cases rk:ls= []
 ·subst rk;exact ⟨h,λ_ _ h=>h⟩
 have Vz:m9 ck st ls n= {tmps:=Ls ls ck.tmps st.tmps,heap:=dq ck.heap ls n st.heap} :=by
  cases ls with
  |nil=>exact absurd rfl rk
  |cons _ _=>rfl
 rw [Vz]
 have hg0: ∀l∈ls,∃e te rows out kp,At ck.heap l=some (.Bl e te rows out kp):= λl hl=>by
  have:=tm l hl
  unfold nC at this
  split at this
  ·exact ⟨_,_,_,_,_,by assumption⟩
  ·cases this
 have srv: ∀k b,At st.heap k=some b-> ∃b',At (dq ck.heap ls n st.heap) k=some b'/\b.Tk b':= λk b hb=>by
  rw [Vf,hb]
  refine ⟨_,rfl,?_⟩
  dsimp only
  split
  ·exact OB.zZ b _
  ·exact OB.Tk.rfl' b
 have hac:(∀fr τ cs x,Cells w' (Da X.w0.heap.size X.Sc π' fr) τ cs x->Cells w' (Da X.w0.heap.size X.Sc π' fr) τ cs x)-> ∀c v,Hq X w' π' st.heap c v->Hq X w' π' (dq ck.heap ls n st.heap) c v:= λhc=>
  nV (f:= λc=>c) (D:= λ_=>False) (Pt:= λ_=>False) (λc=> .inr ⟨rfl,λ_ _ h=>h,λ_ _ _ _ h=>h⟩) (λk _=>fY.rfl' _) (λk b _ hb=>srv k b hb) (λ_ _ _ _ _ _ _ _=>rfl) hc
 have h1:Bh X π' {tmps:=st.tmps.map (·.map λc=>c),heap:=dq ck.heap ls n st.heap} a w':=by
  refine h.nW rfl (gv:= λ_=>False) (λ_ hf=>hf.elim) (Kw.refl _ _ _) (λ_ _ ho=>ho) h.1.sub h.1.place h.1.inj (λl hl Iv=>h.1.gW l hl λh2=>Iv (by rw [Vf,h2];rfl)) hac (λm l b hb=>?_) (λl hl=>?_)
  ·rw [Vf] at hb
   cases h2:At st.heap l with
   |none=>rw [h2] at hb;cases hb
   |some b0=>
    rw [h2] at hb
    simp only [Am,Aa] at hb
    have hbk:=(h.1.heap l).Rp h2
    have JB:=hbk.move m (Ap _) (λr0 c h0 h1=>h.1.sub _ r0 c h0 h1) λ_ _ _ _ _=>rfl
    rw [show OB.map (λc=>c) b0=b0 from OB.FM b0] at JB
    split at hb
    ·rename_i hc
     have hl:l∈ls:=by simpa using hc
     cases b0 with
     |Bl e te rows out kp=>
      simp only [OB.HG] at hb
      subst hb
      refine ⟨JB.1,?_⟩
      obtain ⟨e0,te0,Agl,At4,kp0,hg⟩:=hg0 l hl
      have vL:=((h0.1.heap l).Rp hg).2
      rw [hg]
      simp only [Aiq]
      have vN:=hk l hl
      cases kp0 with
      |none=>trivial
      |some p=>
       obtain ⟨l0,n0⟩:=p
       simp only [KeptAt,bU] at vL⊢
       cases z6:X.gW l0 with
       |none=>
        cases hp:π l with
        |none=>
         rw [hp] at vN
         cases ny:π' l with
         |none=>trivial
         |some q=>rw [ny] at vN;exact vN.elim
        |some q=>rw [z6,hp] at vL;exact vL.elim
       |some r0=>
        cases hp:π l with
        |none=>rw [z6,hp] at vL;exact vL.elim
        |some q=>
         rw [z6,hp] at vL
         rw [hp] at vN
         cases ny:π' l with
         |none=>rw [ny] at vN;exact vN.elim
         |some q'=>
          rw [ny] at vN
          obtain ⟨k1,k2,k3,k4⟩:=vN
          obtain ⟨g1,g2,g3,g4⟩:=vL
          refine ⟨k1.trans g1,k2.trans g2,k3.trans g3,λj hj hc=>?_⟩
          have e1:=g4 j (by omega) hc
          have e2:=k4 j (by omega) (by omega)
          rw [g1,g2] at e2
          rw [<-e1,e2]
     |_=>simp only [OB.HG] at hb;subst hb;exact JB
    ·subst hb;exact JB
  ·rw [Vf] at hl
   cases h2:At st.heap l with
   |none=>exact (h.1.heap l).emp h2
   |some b=>rw [h2] at hl;cases hl
 have PZ: ∀c v,Bq X w' π' st.heap c v->Bq X w' π' (dq ck.heap ls n st.heap) c v:= λc v hv=>by
  have m:Move X w' w' π' π' st.heap (dq ck.heap ls n st.heap) (λc=>c):=⟨hac λ_ _ _ _ h=>h,λ_ _ _ _ h=>h⟩
  have:=m.av hv
  rwa [AC.map_id] at this
 refine ⟨⟨h1.1,⟨?_,h.2.defers,λt=>?_⟩⟩,PZ⟩
 ·have: ∀(l m:List AV),(Ls ls l m).length=m.length:=by
   intro l
   induction l with
   |nil=>intro m;cases m<;>rfl
   |cons a l ih=>
    intro m
    cases m with
    |nil=>cases a with
     | «at»c=>cases c<;>rfl
     |_=>rfl
    |cons v m=>cases a with
     | «at»c=>cases c<;>simp only [Ls,Av,ih m]
     |_=>simp only [Ls,Av,ih m]
  show a.tmps.size=(Ls ls ck.tmps st.tmps).length
  rw [this];exact h.2.size
 ·show Bq X w' π' _ ((Ls ls ck.tmps st.tmps).getD t .undef) _
  rcases fP ls ck.tmps st.tmps t (by rw [<-h0.2.size,<-h.2.size]) with ⟨k,i,c,g1,g2,g3⟩|g
  ·rw [g3]
   have Rl:k∈ls:=by simpa using g2
   obtain ⟨i1,i2⟩:=uR ee g1 g2
   have hv:=h0.2.tmps t
   rw [show ck.get t=_ from g1] at hv
   obtain ⟨r,b,sz,n',e1,e2,e3,e4,⟨e5,e6⟩,e7⟩:=hv
   obtain ⟨e0,te0,Agl,At4,kp0,hg⟩:=hg0 k Rl
   rw [hg] at e1;cases e1
   simp only [OB.gq,Aa,Ae] at e2
   obtain ⟨rfl,rfl⟩:=e2
   have vN:=hk k Rl
   rw [e3] at vN
   cases ny:π' k with
   |none=>rw [ny] at vN;exact vN.elim
   |some q'=>
    rw [ny] at vN
    obtain ⟨k1,k2,k3,k4⟩:=vN
    have tj:Agl.length<=r.cap:=by
     have:=((h0.1.heap k).Rp hg).1
     rw [e3] at this
     obtain ⟨_,_,_,_,_,_,h5,_⟩:=this
     exact h5
    unfold rX at i2
    split at i2
    ·rename_i e9 te9 Ant Ay6 kp9 hg9
     refine ⟨q',_,1,Ant.length,by rw [Vf,hg9];rfl,?_,ny,i2,⟨e5,e6⟩,?_⟩
     ·dsimp only
      split<;>rfl
     ·have jQ:c=0:=by omega
      subst jQ
      rw [k1,k2]
      rw [Fe,Ek] at e7⊢
      rw [k4 i i1 (by omega)];exact e7
    ·omega
  ·rw [g]
   exact PZ _ _ (h.2.tmps t)
theorem pK {ins:List (Bool×CK)} {as:List AC} {pl:List Nat} {st:St} :(ry ins as pl st).tmps=st.tmps:=by
 unfold ry
 split
 ·rfl
 ·split<;>rfl
theorem NK {ins:List (Bool×CK)} {as:List AC} {pl:List Nat} {st:St} {m:Nat} (hm:m∉pl):At (ry ins as pl st).heap m=At st.heap m:=by
 unfold ry
 split
 ·rfl
 ·rename_i l r
  split
  ·exact Ea _ _ _ _ λe=>hm (e▸Kn)
  ·rfl
theorem UN {ins:List (Bool×CK)} {as:List AC} {l:Nat} {st:St} {tid:TypeId} {vs:List AC} (hl:At st.heap l=some (.var tid vs)):At (ry ins as [l] st).heap l=some (.var tid (gA ins vs as)):=by
 simp only [ry,St.at,hl]
 exact Er _ _ _ _ hl
theorem xT {α:Type} (ins:List (Bool×CK)) (as:List α):gA ins [] as= []:=by
 rcases ins with _|⟨⟨_|_,c⟩,r⟩<;>rfl
theorem pB {α:Type} : ∀(ins:List (Bool×CK)) (vs as:List α),(gA ins vs as).length=vs.length
 | [],vs,as=>by rw [gA];all_goals simp
 |p::r,[],as=>by rw [xT]
 |(true,c)::r,v::vs,as=>by simp only [gA,Av,pB r vs as]
 |(false,c)::r,v::vs,[]=>by rw [gA];all_goals simp
 |(false,c)::r,v::vs,a::as=>by simp only [gA,Av,pB r vs as]
theorem UE {st:St} {a:Act} (h:Bh X π st a w) {s:MSpec} {mM:List AV} {vs:List Value} (hlen:mM.length=vs.length) (PZ: ∀(i:Nat) c v,mM[i]?=some c->vs[i]?=some v->Bq X w π st.heap c v)
  {pl:List Nat} {cells:List AC} {rest:List AV} (he:QZ st s mM=some (pl,cells,rest)):
  ∃(g:Nat) (cus yl:List Value),rest.length=yl.length/\(∀(i:Nat) c v,rest[i]?=some c->yl[i]?=some v->Bq X w π st.heap c v)/\Nh X w π st.heap cells cus/\
   ((s.ptr=none/\pl= []/\cells= []/\cus= []/\vs=yl)\/
    ∃p l q,s.ptr=some p/\pl= [l]/\π l=some q/\q.Cv q.g/\g=q.g/\At st.heap l=some (.var p.1 cells)/\cells.length=p.2/\vs= .pointer (some ⟨g,0,none⟩)::yl/\w.heap[g]?=some (.cells cus.toArray p.1 (0,0))/\Fw X w π st.heap cells cus):=by
 unfold QZ at he
 split at he
 ·rename_i hp
  simp only [Aa,Ae] at he
  obtain ⟨rfl,rfl,rfl⟩:=he
  exact ⟨0,[],vs,hlen,PZ,trivial, .inl ⟨hp,rfl,rfl,rfl,rfl⟩⟩
 ·rename_i p hp
  split at he
  ·rename_i l i Av7
   split at he
   ·rename_i tid cs hl
    split at he
    ·rename_i hc
     obtain ⟨rfl,hc,rfl⟩:=hc
     simp only [Aa,Ae] at he
     obtain ⟨rfl,rfl,rfl⟩:=he
     unfold St.at at hl
     cases vs with
     |nil=>simp at hlen
     |cons v vs=>
      obtain ⟨r,Uz,vs',h1,h2,rfl⟩:=PZ 0 _ v rfl rfl
      rw [hl] at h1;cases h1
      obtain ⟨r',h3,h4,cur,h5,h6⟩:=(h.1.heap l).Rp hl
      rw [h2] at h3;cases h3
      exact ⟨r.g,cur.toList,vs,by simpa using hlen,λi c v h7 h8=>PZ (i+1) c v (by simpa using h7) (by simpa using h8),Nh.of h6, .inr ⟨p,l,r,hp,rfl,h2,h4,rfl,hl,hc,rfl,by simpa using h5,h6⟩⟩
    ·cases he
   ·cases he
  ·cases he
theorem ke {V:List Nat} {πc:Pi} {dead part:List Nat} (hπ: ∀l,l∉dead->π' l=π l) (Kf: ∀l b sz n,l∉dead->At H l=some b->b.row=some (sz,n)-> ∃b',At H' l=some b'/\b'.row=some (sz,n)):
  ∀(ins:List (Bool×CK)) (k:Nat) (cells oB:List AC) (x:Ins.den ins) (us:List Value) (o:IOs.den ins) (cur st1:St) (news:List AC) (Xl cs:List Value),r7 X w π V H πc k ins x (cells++oB) us->Wl ins cells=true->
   Ih ins o (cells++oB) cur=some st1->Ep πc k ins o cells.length cs Xl->Nh X w' π' H' news Xl->Nh X w' π' H' (gA ins (cells.map (Cr dead part)) news) cs
 |ins,k,[],oB,x,us,o,cur,st1,news,Xl,cs,_,_,_,hb,_=>by
  have hb:cs= []:=by rcases ins with _|⟨⟨_|_,c⟩,r⟩<;>(try cases c)<;>simpa [Ep] using hb
  rw [hb,List.map_nil,xT]
  trivial
 | [],k,a::cells,oB,x,us,o,cur,st1,news,Xl,cs,_,hk,_,_,_=>by simp [Wl] at hk
 |(true, .Fy τ)::r,k,a::cells,oB,x,us,o,cur,st1,news,Xl,cs,_,hk,_,_,_=>by simp [Wl] at hk
 |(true, .part e te)::r,k,a::cells,oB,x,us,o,cur,st1,news,Xl,cs,_,hk,_,_,_=>by simp [Wl] at hk
 |(true, .Bl e te _)::r,k,a::cells,oB,x,us,o,cur,st1,news,Xl,cs,_,hk,_,_,_=>by simp [Wl] at hk
 |(true, .row e te)::r,k,a::cells,oB,x,us,o,cur,st1,news,Xl,cs,ht,hk,hp,hb,hn=>by
  cases a<;>simp only [Wl,Dc] at hk
  rename_i l off len
  cases us with
  |nil=>exact ht.elim
  |cons u0 us=>
  cases cs with
  |nil=>exact hb.elim
  |cons u cs=>
  obtain ⟨⟨_,h1⟩,h2⟩:=ht
  simp only [Tv] at h1
  obtain ⟨h3,rfl,rfl,fr,tr,h4⟩:=h1
  obtain ⟨h5,h6⟩:=hb
  simp only [Ph,Ih] at hp
  split at hp
  rotate_left
  ·cases hp
  rename_i an hpc
  have QD:List.length o.1=List.length x.1:=by
   simp only [cp] at hpc
   repeat' split at hpc
   all_goals first|(cases hpc;done)|(rename_i hc;exact hc.2.1)
  refine ⟨?_,ke hπ Kf r (k+1) cells oB x.2 us o.2 an st1 news Xl cs h2 hk hp h6 hn⟩
  by_cases hd:l∈dead
  ·have:Cr dead part (.own l 0 (List.length x.1))= .undef:=by
    unfold Cr
    rw [Ac (by simp [AC.refs,hd])]
   rw [this];trivial
  ·rw [cE (by simpa [AC.refs] using hd) (by intro l i j e;rcases e with e|e<;>cases e)]
   obtain ⟨b',g1,g2⟩:=Kf l _ e.size (List.length x.1) hd h4 rfl
   refine ⟨b',e.size,List.length x.1,g1,g2,by omega,?_⟩
   rw [hπ l hd]
   rw [h3,QD] at h5
   cases hp:π l<;>(rw [hp] at h5;exact h5)
 |(true, .Hw e te)::r,k,a::cells,oB,x,us,o,cur,st1,news,Xl,cs,ht,hk,hp,hb,hn=>by
  cases a<;>simp only [Wl,Dc] at hk
  rename_i l off len
  cases us with
  |nil=>exact ht.elim
  |cons u0 us=>
  cases cs with
  |nil=>exact hb.elim
  |cons u cs=>
  obtain ⟨⟨_,h1⟩,h2⟩:=ht
  simp only [Tv] at h1
  obtain ⟨h3,rfl,rfl,h4⟩:=h1
  obtain ⟨h5,h6⟩:=hb
  simp only [Ph,Ih] at hp
  split at hp
  rotate_left
  ·cases hp
  rename_i an hpc
  have QD:List.length o.1=List.length x.1:=by
   simp only [cp] at hpc
   repeat' split at hpc
   all_goals first|(cases hpc;done)|(rename_i hc;exact hc.2.1)
  refine ⟨?_,ke hπ Kf r (k+1) cells oB x.2 us o.2 an st1 news Xl cs h2 hk hp h6 hn⟩
  by_cases hd:l∈dead
  ·have:Cr dead part (.own l 0 (List.length x.1))= .undef:=by
    unfold Cr
    rw [Ac (by simp [AC.refs,hd])]
   rw [this];trivial
  ·rw [cE (by simpa [AC.refs] using hd) (by intro l i j e;rcases e with e|e<;>cases e)]
   obtain ⟨b',g1,g2⟩:=Kf l _ e.size (List.length x.1) hd h4 rfl
   refine ⟨b',e.size,List.length x.1,g1,g2,by omega,?_⟩
   rw [hπ l hd]
   rw [h3,QD] at h5
   cases hp:π l<;>(rw [hp] at h5;exact h5)
 |(false,c)::r,k,a::cells,oB,x,[],o,cur,st1,news,Xl,cs,ht,hk,hp,hb,hn=>ht.elim
 |(false,c)::r,k,a::cells,oB,x,u0::us,o,cur,st1,news,Xl,[],ht,hk,hp,hb,hn=>by cases c<;>exact hb.elim
 |(false,c)::r,k,a::cells,oB,x,u0::us,o,cur,st1,news,[],u::cs,ht,hk,hp,hb,hn=>by cases c<;>exact hb.elim
 |(false,c)::r,k,a::cells,oB,x,u0::us,o,cur,st1,[],u'::Xl,u::cs,ht,hk,hp,hb,hn=>hn.elim
 |(false,c)::r,k,a::cells,oB,x,u0::us,o,cur,st1,na::news,u'::Xl,u::cs,ht,hk,hp,hb,hn=>by
  have hb2:u=u'/\Ep πc (k+1) r o cells.length cs Xl:=by cases c<;>exact hb
  obtain ⟨rfl,hb3⟩:=hb2
  have hp:Ih r o (cells++oB) cur=some st1:=by cases c<;>simpa only [Ph,Ih] using hp
  have hk:Wl r cells=true:=by cases c<;>simpa only [Wl] using hk
  exact ⟨hn.1,ke hπ Kf r (k+1) cells oB x.2 us o cur st1 news Xl cs ht.2 hk hp hb3 hn.2⟩
theorem IA {V:List Nat} {πc:Pi} : ∀(cs:List (Bool×CK)) (k0:Nat) (x:Ins.den cs) (as:List AC) (us:List Value),k0+cs.length<100000->r7 X w π V H πc k0 cs x as us-> ∀k l,(Dx false k,Loc.row l)∈Lt k0 cs as->πc (Dx false k)=(π l).map full
 | [],_,_,[],_,_,_,_,_,h=>by cases h
 | [],_,_,_::_,_,_,_,_,_,h=>by cases h
 |_::_,_,_,[],_,_,_,_,_,h=>by cases h
 |_::_,_,_,_::_,[],_,h,_,_,_=>h.elim
 |(io,c)::r,k0,x,a::as,u::us,hk,h,k,l,ht=>by
  simp only [Av] at hk
  simp only [Lt] at ht
  rcases Ax.1 ht with ht|ht
  ·obtain ⟨⟨_,h1⟩,_⟩:=h
   cases c with
   |Fy τ=>cases a<;>simp [Qr,views] at ht
   |row e te=>
    cases a<;>simp [Qr] at ht
    obtain ⟨e1,rfl⟩:=ht
    simp only [Tv] at h1
    rw [e1];exact h1.1
   |Hw e te=>
    cases a<;>simp [Qr] at ht
    obtain ⟨e1,rfl⟩:=ht
    simp only [Tv] at h1
    rw [e1];exact h1.1
   |part e te=>
    cases a<;>simp [Qr] at ht
    obtain ⟨e1,rfl⟩:=ht
    simp only [Tv] at h1
    rw [e1];exact h1.2.1
   |Bl e te kp=>
    cases a<;>simp [Qr] at ht
    obtain ⟨e1,rfl⟩:=ht
    simp only [Tv] at h1
    rw [e1];exact h1.2.1
  ·exact IA r (k0+1) x.2 as us (by omega) h.2 k l ht
theorem r9 {st:St} {a:Act} (h:Bh X π st a w) {f:FuncId} {s:MSpec} (hs:Cn P f s) (dst:Option Nat) (mM:List AV) (vs:List Value) (hlen:mM.length=vs.length)
  (PZ: ∀(i:Nat) c v,mM[i]?=some c->vs[i]?=some v->Bq X w π st.heap c v) (av:AV) (st':St) (he:Yg st dst s mM=some (av,st')):
  Calls P f vs.toArray w λe w'=> ∃v,e= .returned v/\ ∃π',Bh X π' st' a w'/\Bq X w' π' st'.heap av v:=by
 unfold Yg at he
 split at he
 ·cases he
 rename_i pl cells rest As6
 split at he
 ·cases he
 rename_i oB oE
 split at he
 ·cases he
 rename_i x tks htk
 split at he
 rotate_left
 ·cases he
 rename_i Jv
 simp only [Af,Nn] at Jv
 obtain ⟨⟨⟨⟨JE,tt⟩,hon⟩,Xm⟩,Alp,SQ⟩:=Jv
 have SQ: ∀l∈pl,l∉(tks.map λt=>t.2.Xn)/\l∉Sq s tks (dst.getD 0):= λl hl=>by
  have:=Ba.1 SQ l hl
  simp only [Fz,<-Ho,Js] at this
  exact ⟨λhm=>this (Bi _ hm),λhm=>this (Ci _ hm)⟩
 split at he
 ·cases he
 rename_i r o hfn
 split at he
 ·cases he
 rename_i st1 YQ
 obtain ⟨g,cus,yl,YM,Aqv,As9,cn⟩:=UE h hlen PZ As6
 obtain ⟨wE,rfl,JH,As8⟩:=ah s.Ip rest yl oB YM Aqv oE
 have hrc:=As9.append As8
 have Rg:oF s w g (cus++wE) vs:=by
  unfold oF
  rcases cn with ⟨h1,_,_,h2,h3⟩|⟨p,l,q,h1,_,_,_,_,_,h2,h3,h4,h5⟩
  ·rw [h1];subst h2;exact ⟨h3,JH⟩
  ·rw [h1]
   have hl:cus.length=p.2:=h5.1.trans h2
   simp only
   rw [List.drop_append_of_le_length (by omega),List.take_append_of_le_length (by omega),List.take_of_length_le (by omega),List.drop_of_length_le (by omega)]
   refine ⟨h3,JH,by simp;omega,h4,λu hu=>?_⟩
   obtain ⟨i,hi,rfl⟩:=Bf.1 hu
   obtain ⟨u',h6,h7,_⟩:=h5.2 i (cells[i]'(by have:=h5.1;omega)) (Ab _)
   rw [Ab hi] at h6
   rw [Bb h6];exact h7
 have SR: ∀l∈pl,∃p q,s.ptr=some p/\pl= [l]/\π l=some q/\q.Cv q.g/\g=q.g/\At st.heap l=some (.var p.1 cells)/\cells.length=p.2:= λl hl=>by
  rcases cn with ⟨_,h1,_⟩|⟨p,l',q,h1,h2,h3,h4,h5,h6,h7,_⟩
  ·rw [h1] at hl;cases hl
  ·rw [h2] at hl
   have:=Ad.1 hl
   subst this
   exact ⟨p,q,h1,h2,h3,h4,h5,h6,h7⟩
 have SM: ∀b,s.gv g b-> ∃l∈pl,∃q,π l=some q/\q.Cv b/\b=q.g:= λb ⟨h1,h2⟩=>by
  rcases cn with ⟨h3,_⟩|⟨p,l',q,_,h4,h5,h6,h7,_⟩
  ·rw [h3] at h1;cases h1
  ·exact ⟨l',by rw [h4];exact Ad.2 rfl,q,h5,by rw [h2,h7];exact h6,h2.trans h7⟩
 obtain ⟨as,has⟩: ∃as,as=cells++oB:=⟨_,rfl⟩
 obtain ⟨us,YW⟩: ∃us,us=cus++wE:=⟨_,rfl⟩
 rw [<-has] at hrc htk YQ
 rw [<-YW] at hrc Rg
 let V:=(tks.filter λt=>t.2.reads).map λt=>t.2.Xn
 have hV: ∀t∈tks,t.2.reads=true->t.2.Xn∈V:= λt ht hr=>Ay.2 ⟨t,Cg.2 ⟨ht,hr⟩,rfl⟩
 have hV': ∀l∈V,∃t∈tks,t.2.reads=true/\t.2.Xn=l:= λl hl=>by
  obtain ⟨t,h1,h2⟩:=Ay.1 hl
  exact ⟨t,(Cg.1 h1).1,(Cg.1 h1).2,h2⟩
 clear_value V
 obtain ⟨etk,πc,hT,YA,Arf,Wk⟩:=uX h.1 (V:=V) s.ins 0 as us x tks (by omega) hrc htk hV
 have KU:=Yp JE
 rw [etk] at KU
 have ef: ∀b,Vy πc b-> ∃t∈Lt 0 s.ins as,t.2.reads=false/\ ∃q,π t.2.Xn=some q/\q.Cv b/\ ∀l i j,t.2= .sub l i j->b≠q.g:= λb ⟨c,q,h1,h2⟩=>by
  obtain ⟨t,t1,_,t3⟩:=Wk c q b h1 h2
  exact ⟨t,t1,t3⟩
 have KX: ∀b,Vy πc b->Vy π b:= λb hb=>let ⟨t,_,_,q,h1,h2,_⟩:=ef b hb;⟨_,q,h1,h2⟩
 have kF:hY πc (λb=>b<w.heap.size):=⟨λl q b h1 h2=>(h.1.own (KX b ⟨l,q,h1,h2⟩)).1,λl l' q q' b h1 h2 h3 h4=>by
  obtain ⟨t,t1,t2,_,p,t3,t4,_⟩:=Wk l q b h1 h3
  obtain ⟨t',t1',t2',_,p',t3',t4',_⟩:=Wk l' q' b h2 h4
  have:=zm KU t1 t1' (h.1.apart t3 t3' t4 t4')
  rw [<-t2,<-t2',this]⟩
 have Al3: ∀k l,(Dx false k,Loc.row l)∈Lt 0 s.ins as->πc (Dx false k)=(π l).map full:= λk l ht=>
  IA s.ins 0 x as us (by omega) hT k l ht
 have Amu: ∀b,Vy πc b->Ov X π V b:= λb hb=> .inl ⟨KX b hb,λl hl r' hr hf=>by
  obtain ⟨t,t1,t0,q,t3,t4,_⟩:=ef b hb
  obtain ⟨t',t1',t2',rfl⟩:=hV' l hl
  rw [etk] at t1'
  have:=zm KU t1 t1' (h.1.apart t3 hr t4 hf)
  subst this
  rw [t0] at t2';cases t2'⟩
 let S:Nat->Prop:= λb=> ¬Vy πc b/\Ov X π V b
 have hS: ∀b,S b->b<w.heap.size/\ ¬Vy πc b:= λb hb=>⟨by
  rcases hb.2 with h1|h1
  ·exact (h.1.own h1.1).1
  ·exact Eg (h.1.sc b h1).1 h.1.below.size,hb.1⟩
 have Adk: ∀l∈pl,∀t∈Lt 0 s.ins as,t.2.Xn≠l:= λl hl t ht e=>(SQ l hl).1 (Ay.2 ⟨t,etk▸ht,e⟩)
 have hSg:s.ptr.isSome=true->S g:= λhps=>by
  obtain ⟨l,hl,q,h1,h2,h3⟩:=SM g ⟨hps,rfl⟩
  have hno: ¬Vy πc g:= λhb=>by
   obtain ⟨t,t1,_,q',t3,t4,_⟩:=ef g hb
   exact Adk l hl t t1 (h.1.apart t3 h1 t4 h2)
  refine ⟨hno, .inl ⟨⟨l,q,h1,h2⟩,λl' Ke r' dG hf=>?_⟩⟩
  obtain ⟨t',t1',_,rfl⟩:=hV' l' Ke
  rw [etk] at t1'
  exact Adk l hl t' t1' (h.1.apart dG h1 hf h2)
 refine (hs.calls w S πc us x r o g vs Rg hSg (eO.Iw (λb hb=>hb.elim (Amu b) λh=>h.2) s.ins 0 x us (hT.An4 s.ins 0 x as us)) kF hS Arf hfn).mono ?_
 rintro e w' ⟨v,Xl,CC,rfl,fe,qj,Ad8,yW,Am5,YP,Aih,xj⟩
 obtain ⟨ρ,Ads,KW,YO,Afm⟩: ∃ρ:Pi,(∀l,ρ l=(CC l).map full)/\Jk w' (kB S πc CC) ρ 0 s.outs r Xl/\hY ρ (λb=>b<w'.heap.size/\(w.heap.size<=b\/ ∃l q,l<Bn/\πc l=some q/\q.Cv b))/\ ∀l q,ρ l=some q->q.cl=q.Cv:=by
  have un: ∀l q,(CC l).map full=some q-> ∃q0,CC l=some q0/\q=full q0:= λl q hq=>by
   cases hp:CC l with
   |none=>rw [hp] at hq;cases hq
   |some q0=>rw [hp] at hq;exact ⟨q0,rfl,(Bb hq).symm⟩
  refine ⟨λl=>(CC l).map full,λ_=>rfl,Jk.full s.outs 0 r Xl Am5,⟨λl q b h1 h2=>?_,λl l' q q' b h1 h2 h3 h4=>?_⟩,λl q h1=>?_⟩
  ·obtain ⟨q0,h5,rfl⟩:=un l q h1
   exact YP.Zk l q0 b h5 h2
  ·obtain ⟨q0,h5,rfl⟩:=un l q h1
   obtain ⟨q0',h6,rfl⟩:=un l' q' h2
   exact YP.inj l l' q0 q0' b h5 h6 h3 h4
  ·obtain ⟨q0,_,rfl⟩:=un l q h1
   rfl
 refine ⟨v,rfl,?_⟩
 split at he
 ·cases he
 rename_i av0 gP
 split at he
 rotate_left
 ·cases he
 rename_i Qa
 simp only [Aa,Ae] at he
 obtain ⟨rfl,rfl⟩:=he
 let D1:Nat->Prop:=if s.flat then λ_=>True else kB S πc CC
 have Arj:Mh w' D1 πc 0 s.ins o:=by
  show Mh w' (if s.flat then λ_=>True else kB S πc CC) πc 0 s.ins o
  split
  ·rename_i hf
   unfold MSpec.flat at hf
   simp only [Af] at hf
   exact Mh.any s.ins 0 o hf.2 yW
  ·exact yW
 have Am6:Jk w' D1 ρ 0 s.outs r Xl:=by
  show Jk w' (if s.flat then λ_=>True else kB S πc CC) ρ 0 s.outs r Xl
  split
  ·rename_i hf
   unfold MSpec.flat at hf
   simp only [Af] at hf
   exact Jk.any s.outs 0 r Xl hf.1 KW
  ·exact KW
 obtain ⟨q1,q2,q3,q4⟩:=uf (D:=D1) (X:=X) (π:=π) (H:=st.heap) h.1 Ad8.size (tks:=Lt 0 s.ins as) (πc:=πc) (λt ht q b hq hb Jr hn=>Ad8.block b Jr λKV=>by
   rcases KV with ⟨c,r',h1,h2⟩|hg
   rotate_left
   ·obtain ⟨l,hl,q',h1,h2,_⟩:=SM b hg
    exact Adk l hl t ht (h.1.apart hq h1 hb h2)
   obtain ⟨t',t1,t2,_,p,t3,t4,_⟩:=Wk c r' b h1 h2
   have:=zm KU ht t1 (h.1.apart hq t3 hb t4)
   subst this
   exact hn r' (t2▸h1) h2) s.ins 0 x as us o st st1 (by omega) (λ_ h=>h) KU hT Arj YQ (λ_ _=>rfl)
 have Ai6: ∀t∈Lt 0 s.ins as,t.2.reads=true->t.1<Bn:=by
  have: ∀(cs:List (Bool×CK)) (k:Nat) (as:List AC),k+cs.length<100000-> ∀t∈Lt k cs as,t.2.reads=true->t.1<Bn:=by
   intro cs
   induction cs with
   |nil=>intro k as _ t ht;cases as<;>cases ht
   |cons p r ih=>
    intro k as hk t ht hr
    simp only [Av] at hk
    cases as with
    |nil=>cases ht
    |cons a as=>
     simp only [Lt] at ht
     rcases Ax.1 ht with ht|ht
     ·rcases HY ht with ⟨_,h1⟩|⟨h1,_⟩
      ·rw [hr] at h1;cases h1
      ·rw [h1];exact fH (by omega)
     ·exact ih (k+1) as (by omega) t ht hr
  exact this s.ins 0 as (by omega)
 let d:=dst.getD 0
 let ks:=Sq s tks d
 let dead:=mS tks++ks++(if s.flat then [] else BM tks)
 let part:=whole tks
 have Asb:s.outs.length+(mq s d).length=s.Uu:=by unfold MSpec.Uu mq;cases s.rp<;>rfl
 obtain ⟨Ahu,Ars,Afw⟩:ks.length=s.Uu/\ks.Nodup/\ ∀l∈ks,l<Bn:=by
  have:=LM tt
  rw [Asb] at this
  exact this
 have hno:s.outs.length<=s.Uu:=by unfold MSpec.Uu;omega
 have hvk: ∀tid,s.rp=some tid->Ed ks s.outs.length=Tq d/\s.Uu=s.outs.length+1:= λtid Yl=>by
  have h1:s.Uu=s.outs.length+1:=by unfold MSpec.Uu;rw [Yl]
  refine ⟨?_,h1⟩
  have h2:ks=mP s tks d++ [Tq d]:=by show mP s tks d++mq s d=_;unfold mq;rw [Yl]
  have h3:(mP s tks d).length=s.outs.length:=by rw [h2] at Ahu;simp at Ahu;omega
  rw [Rq (by rw [Ahu];omega)]
  simp only [h2]
  rw [List.getElem_append_right (by omega)]
  simp [h3]
 have YK:=DB Ars Afw
 have Arq: ∀j,j<s.Uu->Ed ks j<Bn:= λj hj=>Afw _ (mem_keys.2 ⟨j,by omega,rfl⟩)
 let π':Pi:= λl=>match (List.range s.Uu).find? λj=>decide (Ed ks j=l) with
  |some j=>ρ (Km j)
  |none=>if l∈dead then none else π l
 have vM: ∀j,j<s.Uu->π' (Ed ks j)=ρ (Km j):= λj hj=>by
  show (match (List.range s.Uu).find? λi=>decide (Ed ks i=Ed ks j) with|some i=>ρ (Km i)|none=>_)=_
  cases hf:(List.range s.Uu).find? λi=>decide (Ed ks i=Ed ks j) with
  |none=>
   have:=List.find?_eq_none.1 hf j (Dn.2 hj)
   simp at this
  |some i=>
   have:=List.find?_some hf
   rw [YK i j (Lg this)]
 have tq: ∀j,j<s.Uu->Ed ks j∈dead:= λj hj=>Bi _ (Ci _ (mem_keys.2 ⟨j,by omega,rfl⟩))
 have yX: ∀l,(¬ ∃j,j<s.Uu/\l=Ed ks j)->π' l=if l∈dead then none else π l:= λl hl=>by
  show (match (List.range s.Uu).find? λi=>decide (Ed ks i=l) with|some i=>ρ (Km i)|none=>_)=_
  cases hf:(List.range s.Uu).find? λi=>decide (Ed ks i=l) with
  |none=>rfl
  |some i=>
   have h1:=List.find?_some hf
   exact absurd ⟨i,Dn.1 (List.mem_of_find?_eq_some hf),(Lg h1).symm⟩ hl
 have ZA: ∀l,l∉dead->π' l=π l:= λl hl=>by
  rw [yX l (λ⟨j,h1,h2⟩=>hl (h2▸tq j h1)),Ak hl]
 have hD1: ∀b,Vy π' b\/X.Sc b->D1 b:=by
  intro b hb
  show (if s.flat then λ_=>True else kB S πc CC) b
  split
  ·trivial
  rename_i hnf
  rcases hb with ⟨l,q,hl,hf⟩|hb
  ·by_cases hk: ∃j,j<s.Uu/\l=Ed ks j
   ·obtain ⟨j,hj,rfl⟩:=hk
    rw [vM j hj,Ads] at hl
    cases hp:CC (Km j) with
    |none=>rw [hp] at hl;cases hl
    |some q0=>rw [hp] at hl;simp only [Am,Aa] at hl;subst hl;exact .inr (.inr ⟨Km j,q0,hp,hf⟩)
   ·have e0:π' l=if l∈dead then none else π l:=yX l hk
    rw [e0] at hl
    split at hl
    ·cases hl
    ·rename_i Adh
     by_cases ho:Vy πc b
     ·obtain ⟨c,q',hc,hcb⟩:=ho
      obtain ⟨t,t1,t2,t0,p,t3,t4,_⟩:=Wk c q' b hc hcb
      have yY:=h.1.apart hl t3 hf t4
      refine .inr (.inl ⟨c,q',Bj λhn=>?_,hc,hcb⟩)
      exact Adh (Bi _ (Bi _ (ek.2 ⟨t,etk▸t1,⟨by rw [t2];omega,t0⟩,yY.symm⟩)))
     ·refine .inl ⟨ho, .inl ⟨⟨l,q,hl,hf⟩,λl0 hl0 r0 hr0 hf0=>?_⟩⟩
      have:=h.1.apart hl hr0 hf hf0
      subst this
      exact Adh (Ci _ (by rw [Ak hnf];exact tT.2 (hV' l hl0)))
  ·refine .inl ⟨λho=>?_, .inr hb⟩
   have h1:=h.1.sc b hb
   rcases (h.1.own (KX b ho)).2 with h2|h2
   ·omega
   ·exact h1.2 h2
 have hpd: ∀l∈pl,l∉dead:= λl hl hd=>by
  rcases Ax.1 hd with hd|hd
  ·rcases Ax.1 hd with hd|hd
   ·obtain ⟨t,ht,_,e⟩:=ek.1 hd
    exact (SQ l hl).1 (Ay.2 ⟨t,ht,e⟩)
   ·exact (SQ l hl).2 hd
  ·split at hd
   ·cases hd
   ·obtain ⟨t,ht,_,e⟩:=tT.1 hd
    exact (SQ l hl).1 (Ay.2 ⟨t,ht,e⟩)
 have Aht: ∀j,j<s.Uu->Ed ks j∉pl:= λj hj hp=>hpd _ hp (tq j hj)
 let bv:Option OB:=s.rp.map λtid=> .var tid ((bX (Ed ks) 0 s.outs r).drop s.aG)
 let H1:=(ry s.ins (bX (Ed ks) 0 s.outs r) pl (st1.cD dead part)).heap
 have hH1: ∀l,l∉pl->At H1 l=if l∈dead then none else (At st1.heap l).map (OB.map (Cr dead part)):= λl hl=>by
  show At (ry _ _ _ _).heap l=_
  rw [NK hl]
  show At (Yd (st1.heap.map λp=>(p.1,p.2.map (Cr dead part))) dead) l=_
  rw [Nw,Oz]
 let H2:=EP H1 (Tq d) bv
 have hvd: ∀tid,s.rp=some tid->Tq d∈dead/\Tq d∉pl:= λtid Yl=>by
  obtain ⟨e1,e2⟩:=hvk tid Yl
  rw [<-e1]
  exact ⟨tq _ (by omega),Aht _ (by omega)⟩
 have Al1: ∀l,(∀tid,s.rp=some tid->l≠Tq d)->At H2 l=At H1 l:= λl hl=>by
  show At (EP H1 (Tq d) (s.rp.map _)) l=_
  cases JG:s.rp with
  |none=>rfl
  |some tid=>exact Pn _ _ _ _ (hl tid JG)
 have Aqg: ∀tid,s.rp=some tid->At H2 (Tq d)=some (.var tid ((bX (Ed ks) 0 s.outs r).drop s.aG)):= λtid Yl=>by
  show At (EP H1 (Tq d) (s.rp.map _)) (Tq d)=_
  rw [Yl]
  exact Qt _ _ _ (by rw [hH1 _ (hvd tid Yl).2,Ac (hvd tid Yl).1])
 have hkv: ∀j,j<s.outs.length-> ∀tid,s.rp=some tid->Ed ks j≠Tq d:= λj hj tid Yl e=>by
  have:=YK j s.outs.length (e.trans (hvk tid Yl).1.symm)
  omega
 have hH2: ∀l,l∉pl->(∀tid,s.rp=some tid->l≠Tq d)->At H2 l=if l∈dead then none else (At st1.heap l).map (OB.map (Cr dead part)):= λl hl hv=>by
  rw [Al1 l hv,hH1 l hl]
 let H':=Yq (PS st (mS tks)) (Ed ks) 0 s.outs r H2
 obtain ⟨n1,n2,n3⟩:=qK (D:=D1) (X:=X) (key:=Ed ks) YK (fr:=PS st (mS tks)) (ρ:=ρ) s.outs 0 r Xl H2 Am6 (λj _ hj=>by
  rw [hH2 _ (Aht j (by omega)) (hkv j (by omega)),Ac (tq j (by omega))])
 have oZ: ∀l,l∉dead->l∉pl->At H' l=(At st1.heap l).map (OB.map (Cr dead part)):= λl hl tu=>by
  show At (Yq _ _ _ _ _ _) l=_
  rw [n1 l λj _ hj e=>hl (e▸tq j (by omega)),hH2 l tu (λtid Yl e=>hl (e▸(hvd tid Yl).1)),Ak hl]
 have Ad3: ∀l,l∈dead->(∀j,j<s.Uu->l≠Ed ks j)->At H' l=none:= λl hl hj=>by
  show At (Yq _ _ _ _ _ _) l=_
  rw [n1 l λj _ h2=>hj j (by omega),hH2 l (λhp=>hpd l hp hl) (λtid Yl e=>hj s.outs.length (by have:=(hvk tid Yl).2;omega) (e.trans (hvk tid Yl).1.symm)),Ac hl]
 have newAt: ∀l b',At H' l=some b'->(l∈dead\/At st.heap l=none)-> ∃j,j<s.Uu/\l=Ed ks j:=by
  intro l b' hb hd
  refine Bj λhn=>?_
  have s9: ∀j,j<s.Uu->l≠Ed ks j:= λj hj e=>hn ⟨j,hj,e⟩
  rcases Classical.em (l∈dead) with SL|SL
  ·rw [Ad3 l SL s9] at hb;cases hb
  ·rcases hd with hd|hd
   ·exact SL hd
   ·rw [oZ l SL (λhp=>by obtain ⟨_,_,_,_,_,_,_,h1,_⟩:=SR l hp;rw [hd] at h1;cases h1)] at hb
    have:At st1.heap l=none:=by
     by_cases hi: ∃t∈Lt 0 s.ins as,t.2.Xn=l
     ·obtain ⟨t,ht,e⟩:=hi
      by_cases Jr:t.1<Bn
      ·rw [<-e,q3 t ht Jr,e];exact hd
      ·obtain ⟨b0,_,h1,_⟩:=q4 t ht Jr
       rw [e,hd] at h1;cases h1
     ·rw [q2 l λt ht e=>hi ⟨t,ht,e.symm⟩];exact hd
    rw [this] at hb;cases hb
 have Ahm: ∀k,PS st (mS tks)=true-> ∀q,ρ (Km k)=some q->q.Cv q.g->X.w0.heap.size<=q.g:=by
  intro k EE q hq hg
  rcases (YO.Zk _ q _ hq hg).2 with h1|⟨c,p,h1,h2,h3⟩
  ·exact Gx h.1.below.size h1
  ·obtain ⟨t,t1,t2,t0,p',t3,t4,_⟩:=Wk c p _ h2 h3
   have hm:t.2.Xn∈mS tks:=ek.2 ⟨t,etk▸t1,⟨by rw [t2];exact h1,t0⟩,rfl⟩
   have:=Ba.1 EE _ hm
   split at this
   ·rename_i fr tr e te xs hl
    unfold St.at at hl
    have hb:=(h.1.heap t.2.Xn).Rp hl
    simp only [Cj,Ki,t3] at hb
    rw [hb.1.2.1 _ t4]
    exact hb.1.2.2 this
   ·cases this
 have Ahk: ∀k q,ρ (Km k)=some q->k<s.outs.length->q.Cv q.g:=by
  intro k q hq hk
  exact Jk.Afb s.outs 0 r Xl KW k (Ja _) ((Bo _).symm▸hk) q hq
 have hinv: ∀l,l∉dead->(∃t∈Lt 0 s.ins as,t.2.reads=false/\t.2.Xn=l)->mH X D1 w' π st.heap st1.heap l:=by
  rintro l hd ⟨t,ht,h0,rfl⟩
  by_cases Jr:t.1<Bn
  ·exact absurd (Bi _ (Bi _ (ek.2 ⟨t,etk▸ht,⟨Jr,h0⟩,rfl⟩))) hd
  ·exact q4 t ht Jr
 have z0: ∀l,(¬ ∃t∈Lt 0 s.ins as,t.2.reads=false/\t.2.Xn=l)->At st1.heap l=At st.heap l:= λl hn=>by
  by_cases hi: ∃t∈Lt 0 s.ins as,t.2.Xn=l
  ·obtain ⟨t,ht,rfl⟩:=hi
   have hr:t.2.reads=true:=by
    cases h0:t.2.reads with
    |true=>rfl
    |false=>exact absurd ⟨t,ht,h0,rfl⟩ hn
   exact q3 t ht (Ai6 t ht hr)
  ·exact q2 l λt ht e=>hi ⟨t,ht,e.symm⟩
 have Aff: ∀l∈pl,∀p,s.ptr=some p->At H' l=some (.var p.1 (gA s.ins (cells.map (Cr dead part)) (bX (Ed ks) 0 s.outs r))):= λl hl p hp=>by
  obtain ⟨p',q,h1,h2,_,_,_,h3,_⟩:=SR l hl
  rw [hp] at h1;cases h1
  show At (Yq _ _ _ _ _ _) l=_
  rw [n1 l λj _ hj e=>Aht j (by omega) (e▸hl),Al1 l (λtid Yl e=>(hvd tid Yl).2 (e▸hl))]
  show At (ry _ _ _ _).heap l=_
  rw [h2]
  refine UN ?_
  show At (Yd (st1.heap.map λp=>(p.1,p.2.map (Cr dead part))) dead) l=_
  rw [Nw,Oz,Ak (hpd l hl),z0 l (λ⟨t,ht,_,e⟩=>Adk l hl t ht e),h3]
  rfl
 have Afy: ∀j,j<s.Uu->s.outs.length<=j-> ∃tid,s.rp=some tid/\j=s.outs.length:= λj h1 h2=>by
  cases JG:s.rp with
  |none=>unfold MSpec.Uu at h1;rw [JG] at h1;simp at h1;omega
  |some tid=>exact ⟨tid,rfl,by have:=(hvk tid JG).2;omega⟩
 have hHv: ∀tid,s.rp=some tid->At H' (Tq d)=some (.var tid ((bX (Ed ks) 0 s.outs r).drop s.aG)):= λtid Yl=>by
  show At (Yq _ _ _ _ _ _) _=_
  rw [n1 _ λj _ hj e=>hkv j (by omega) tid Yl e.symm,Aqg tid Yl]
 suffices Alv:Bh X π' (lM st st1 d s pl tks r) a w'/\Bq X w' π' (lM st st1 d s pl tks r).heap av0 v by
  obtain ⟨m1,m2⟩:=Alv
  have rk: ∀(kj:List (Nat×Nat)) (l:Nat),l∈bT st.heap ks tks kj->nC st.heap l=true/\ ∃k j t,(k,j)∈kj/\t∈tks/\t=(Dx false k,Loc.row l)/\ks[j]?=some l:=by
   intro kj
   induction kj with
   |nil=>intro l hl;cases hl
   |cons p kj ih=>
    intro l hl
    obtain ⟨k,j⟩:=p
    have up:l∈bT st.heap ks tks kj->nC st.heap l=true/\ ∃k' j' t,(k',j')∈(k,j)::kj/\t∈tks/\t=(Dx false k',Loc.row l)/\ks[j']?=some l:= λhl=>by
     obtain ⟨h1,k',j',t,h2,h3⟩:=ih l hl
     exact ⟨h1,k',j',t,Aq _ h2,h3⟩
    simp only [bT] at hl
    split at hl
    ·rename_i x0 l1 l2 h1 h2
     split at hl
     ·rename_i hc
      simp only [Af] at hc
      rcases Bc.1 hl with rfl|hl
      ·have:=List.find?_some h1
       have e1:=Jt this
       have e2:=Jt hc.1
       dsimp only at e1
       exact ⟨hc.2,k,j,_,Kn,List.mem_of_find?_eq_some h1,by rw [e1],by rw [h2,e2]⟩
      ·exact up hl
     ·exact up hl
    ·exact up hl
  obtain ⟨r1,r2⟩:=LJ h m1 (ls:=bT st.heap ks tks s.keeps) (n:=s.Fb x) (λl hl=>by
   obtain ⟨_,k,j,t,h1,h2,h3,h4⟩:=rk s.keeps l hl
   have hj:j<ks.length:=(An.1 h4).1
   have WH:Ed ks j=l:=by
    rw [Rq hj]
    rw [Ab hj] at h4
    exact Bb h4
   have vN:=xj (k,j) h1
   rw [show π' l=ρ (Km j) by rw [<-WH];exact vM j (by omega),Ads]
   have hc:πc (Dx false k)=(π l).map full:=Al3 k l (by rw [<-h3,<-etk];exact h2)
   dsimp only at vN
   rw [hc] at vN
   cases hp:π l<;>cases hq:CC (Km j)<;>(rw [hp,hq] at vN;exact vN)) (λl hl=>(rk s.keeps l hl).1) Qa
  exact ⟨π',r1,r2 av0 v m2⟩
 refine ⟨?_,?_⟩
 ·have hx:=Bh.Ah6 (π':=π') (H':=H') (dead:=dead) (part:=part) (inv:= λl=>(∃t∈Lt 0 s.ins as,t.2.reads=false/\t.2.Xn=l)\/l∈pl) (gv:= λb=>Vy πc b\/s.gv g b) h (λb hb=>by
    rcases hb with hb|hb
    ·obtain ⟨t,h1,h0,q,h2,h3,_⟩:=ef b hb
     exact ⟨_,q, .inl ⟨t,h1,h0,rfl⟩,h2,h3⟩
    ·obtain ⟨l,hl,q,h1,h2,_⟩:=SM b hb
     exact ⟨l,q, .inr hl,h1,h2⟩) Ad8 (λl b0 hd h0=>⟨ZA l hd,?_⟩) (λl b' hb hd=>?_) (λl hl=>?_) (λm q hd hp hm hxa=>?_)
  ·have:({tmps:=(ry s.ins (bX (Ed ks) 0 s.outs r) pl (st1.cD dead part)).tmps,heap:=H'} :St)= {tmps:=st.tmps.map (·.map (Cr dead part)),heap:=H'} :=by
    rw [pK]
    show ({tmps:=st1.tmps.map (·.map (Cr dead part)),heap:=H'} :St)=_
    rw [q1]
   show Bh X π' ({tmps:=(ry s.ins (bX (Ed ks) 0 s.outs r) pl (st1.cD dead part)).tmps,heap:=H'} :St) a w'
   rw [this]
   exact hx
  ·by_cases WG:l∈pl
   ·obtain ⟨p,q,h1,h2,h3,h4,h5,h6,h7⟩:=SR l WG
    rw [h0] at h6;cases h6
    have vq:=Aff l WG p h1
    refine .inr ⟨_,vq,⟨rfl,by rw [pB]⟩,λm=>?_⟩
    unfold lH at qj
    rw [h1] at qj
    obtain ⟨cs,k1,k2,k3⟩:=qj
    rw [<-h7] at k3
    refine ⟨q,h3,h4,cs.toArray,by rw [<-h5];exact k1,?_⟩
    refine Nh.to (ke (H:=st.heap) ZA (λl1 b1 sz n hd1 hb1 hr1=>?_) s.ins 0 cells oB x us o st st1 (bX (Ed ks) 0 s.outs r) Xl cs (has▸hT) Alp (has▸YQ) k3 (n3 π' hD1 (λj _ hj=>vM j (by omega)))) (by simpa using k2)
    have hnp:l1∉pl:= λhp=>by
     obtain ⟨_,_,_,_,_,_,_,h8,_⟩:=SR l1 hp
     rw [hb1] at h8;cases h8;cases hr1
    by_cases hi: ∃t∈Lt 0 s.ins as,t.2.reads=false/\t.2.Xn=l1
    ·obtain ⟨b1,b',e1,e2,e3,e4,e5,e6⟩:=hinv l1 hd1 hi
     rw [hb1] at e1;cases e1
     exact ⟨b',by rw [oZ l1 hd1 hnp,e2];simp [e4],by rw [e5.row];exact hr1⟩
    ·exact ⟨_,by rw [oZ l1 hd1 hnp,z0 l1 hi,hb1];rfl,by rw [OB.zV];exact hr1⟩
   by_cases hi: ∃t∈Lt 0 s.ins as,t.2.reads=false/\t.2.Xn=l
   ·obtain ⟨b1,b',e1,e2,e3,e4,e5,e6⟩:=hinv l hd hi
    rw [h0] at e1;cases e1
    exact .inr ⟨b',by rw [oZ l hd WG,e2];simp [e4],by rw [e3];exact e5,λ_=>e6 π' H' hD1⟩
   ·exact .inl ⟨λhh=>hh.elim hi WG,by rw [oZ l hd WG,z0 l hi,h0];rfl⟩
  ·obtain ⟨j,hj,rfl⟩:=newAt l b' hb hd
   refine ⟨Arq j hj,?_,λq b hq=>?_⟩
   ·rw [vM j hj]
    rcases Nat.lt_or_ge j s.outs.length with hjo|hjo
    ·rcases n2 j (Ja _) (by omega) with ⟨e1,_⟩|⟨b2,e1,e2⟩
     ·rw [show At H' (Ed ks j)=none from e1] at hb;cases hb
     ·rw [show At H' (Ed ks j)=some b2 from e1] at hb;cases hb
      exact e2 X π' H' (λhf q hq=>Ahm j hf q hq (Ahk j q hq hjo)) hD1
    ·obtain ⟨tid,Yl,hj0⟩:=Afy j hj hjo
     subst hj0
     rw [(hvk tid Yl).1,hHv tid Yl] at hb;cases hb
     unfold sr at fe
     rw [Yl] at fe
     obtain ⟨q,y1,y2,y3,y4,_⟩:=fe
     rw [Ads,y1]
     exact ⟨full q,rfl,y2,_,y3,Nh.to (Nh.take s.aG (n3 π' hD1 (λj _ hj=>vM j (by omega)))).2 (by simpa using y4)⟩
   ·rw [vM j hj] at hq
    have Qk:=Afm _ q hq
    refine ⟨λhf=>by rw [Qk];exact hf,λhf=>?_⟩
    rw [Qk] at hf
    obtain ⟨h1,h2⟩:=YO.Zk _ q b hq hf
    refine ⟨h1,h2.imp id ?_,λl2 r2 hd2 QH hf2=>?_⟩
    ·rintro ⟨c,p,h3,h4,h5⟩
     obtain ⟨t,t1,t2,t0,p',t3,t4,_⟩:=Wk c p b h4 h5
     exact ⟨t.2.Xn,p',Bi _ (Bi _ (ek.2 ⟨t,etk▸t1,⟨by rw [t2];exact h3,t0⟩,rfl⟩)),t3,t4⟩
    ·by_cases hk: ∃j,j<s.Uu/\l2=Ed ks j
     ·obtain ⟨j2,hj2,rfl⟩:=hk
      rw [vM j2 hj2] at QH
      rw [Afm _ r2 QH] at hf2
      have:=YO.inj _ _ r2 q b QH hq hf2 hf
      unfold Km at this
      have:j2=j:=by omega
      rw [this]
     ·have e0:π' l2=if l2∈dead then none else π l2:=yX l2 hk
      rw [e0] at QH
      split at QH
      ·cases QH
      ·rename_i Adh
       rcases hd2 with hd2|hd2
       ·exact absurd hd2 Adh
       ·rw [(h.1.heap l2).emp hd2] at QH;cases QH
  ·by_cases hk: ∃j,j<s.Uu/\l=Ed ks j
   ·obtain ⟨j,hj,rfl⟩:=hk
    rw [vM j hj]
    rcases Nat.lt_or_ge j s.outs.length with hjo|hjo
    ·rcases n2 j (Ja _) (by omega) with ⟨_,e1⟩|⟨b2,e1,_⟩
     ·exact e1
     ·rw [show At H' (Ed ks j)=some b2 from e1] at hl;cases hl
    ·obtain ⟨tid,Yl,hj0⟩:=Afy j hj hjo
     subst hj0
     rw [(hvk tid Yl).1,hHv tid Yl] at hl;cases hl
   ·have e0:π' l=if l∈dead then none else π l:=yX l hk
    rw [e0]
    split
    ·rfl
    ·rename_i hd
     by_cases WG:l∈pl
     ·obtain ⟨p,_,h1,_⟩:=SR l WG
      rw [Aff l WG p h1] at hl;cases hl
     rw [oZ l hd WG] at hl
     by_cases hi: ∃t∈Lt 0 s.ins as,t.2.reads=false/\t.2.Xn=l
     ·obtain ⟨_,b',_,e2,_⟩:=hinv l hd hi
      rw [e2] at hl;cases hl
     ·rw [z0 l hi] at hl
      cases h0:At st.heap l with
      |none=>exact (h.1.heap l).emp h0
      |some b=>rw [h0] at hl;cases hl
  ·refine Ad8.block _ (h.1.lt hm).1 λKV=>?_
   rcases KV with ho|hg
   rotate_left
   ·obtain ⟨l,hl,q',h1,h2,_⟩:=SM _ hg
    have yY:=h.1.apart hm h1 (h.1.Cv hm) h2
    obtain ⟨_,_,_,_,_,_,_,h3,_⟩:=SR l hl
    obtain ⟨b,hxa,hxb⟩:=hxa
    rw [yY,h3] at hxa;cases hxa
    exact hxb rfl
   obtain ⟨t,t1,t0,p,t3,t4,t5⟩:=ef _ ho
   have yY:=h.1.apart hm t3 (h.1.Cv hm) t4
   have hpq:p=q:=by rw [<-yY,hm] at t3;exact (Bb t3).symm
   cases ht2:t.2 with
   |row l=>
    refine hp ?_
    show m∈whole tks
    unfold whole
    exact Ga.2 ⟨t,etk▸t1,by rw [ht2,yY,ht2];simp [Loc.Xn]⟩
   |sub l i j=>exact t5 l i j ht2 (by rw [hpq])
   |view l=>rw [ht2] at t0;cases t0
 ·have Asa:=n3 π' hD1 (λj _ hj=>vM j (by omega))
  cases JG:s.rp with
  |some tid=>
   unfold sr at fe
   rw [JG] at fe
   obtain ⟨q,y1,y2,y3,y4,rfl⟩:=fe
   unfold Aef at gP
   rw [JG] at gP
   simp only [Aa] at gP;subst gP
   refine ⟨full q,tid,_,hHv tid JG,?_,rfl⟩
   rw [<-(hvk tid JG).1,vM _ (by have:=(hvk tid JG).2;omega),Ads,y1]
   rfl
  |none=>
  unfold sr at fe
  rw [JG] at fe
  obtain ⟨fe,Asg⟩:=fe
  unfold Aef at gP
  rw [JG] at gP
  simp only at gP
  obtain ⟨g1,g2,g3,g4⟩:=eb s.Hb _ (Xl.drop s.aG) Asg (Nh.take s.aG Asa).2
  unfold Ans at gP
  unfold Aaq at fe
  split at gP
  ·rename_i hm
   rw [Ac hm] at fe
   simp only [Aa] at gP;subst gP
   subst fe
   exact ⟨_,rfl,g3.symm,g4⟩
  ·rename_i hm
   rw [Ak hm] at fe
   split at gP
   ·rename_i av1 hga
    simp only [Aa] at gP;subst gP
    rcases fe with fe|fe
    ·exact g2 0 _ v (by rw [hga];rfl) (by rw [fe];rfl)
    ·rw [hga,fe] at g1;cases g1
   ·simp only [Aa] at gP;subst gP;trivial
   ·cases gP
end
end Go.Proofs.Ytkkdpknjohcekaa
