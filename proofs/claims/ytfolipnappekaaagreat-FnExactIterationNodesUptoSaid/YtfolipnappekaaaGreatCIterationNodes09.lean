/-
  Part 10 of the proof that the statement FnExactIterationNodes holds.
-/
import Derived.Test.YtfolipnappekaaaGreatCIterationNodes08
namespace Go.Proofs.YtfolipnappekaaaGreat
open Go.RowKit
section
variable {P:Program} {T:Tab} {X:Ctx} {w w':World} {π:Pi} {H:List (Nat×OB)}
theorem Pz (w:World) (row:Option Nat):w.grownBy w row:=⟨rfl,rfl,rfl,Ao _,λ_ _ _=>rfl⟩
theorem FP (fr:Bool) {τ:Ty} (Tz:τ.Aq=false) (x:τ.den):Sl fr τ x= [.data fr τ x]:=by
 cases τ<;>first|rfl|simp [Ty.Aq] at Tz
theorem OJ {S:Nat->Prop} {τ:Ty} {v:Value} {x:τ.den} (h:Cells w S τ [v] x):v.oneCell'=true:=Cells.plain τ [v] x h v (by simp)
theorem qJ {fr:Bool} : ∀(τ:Ty) (us:List Value) (x:τ.den),Cells w (Dc X.w0.heap.size X.Sc π fr) τ us x->Fv X w π H (Sl fr τ x) us:=by
 have one: ∀(τ:Ty) (us:List Value) (x:τ.den),τ.Aq=false->Cells w (Dc X.w0.heap.size X.Sc π fr) τ us x->Fv X w π H (Sl fr τ x) us:=by
  intro τ us x Tz h
  rw [FP fr Tz]
  have hl:=Cells.len τ us x h
  have h1:τ.size=1:=by cases τ<;>simp_all [Ty.Aq,Ty.size]
  rw [h1] at hl
  obtain ⟨u,rfl⟩:=Df.1 hl
  refine ⟨rfl,λi c hc=>?_⟩
  rcases i with _|i
  ·simp at hc;subst hc
   exact ⟨u,rfl,OJ h,[u],h,by simp [Cf,Tz]⟩
  ·simp at hc
 intro τ
 induction τ with
 |unit=>intro us x h;simp only [Cells] at h;subst h;exact ⟨rfl,λi c hc=>by simp [Sl] at hc⟩
 |pair a r hZ gW=>
  intro us x h
  simp only [Cells] at h
  obtain ⟨c1,c2,rfl,h1,h2⟩:=h
  have r1:=hZ c1 x.1 h1
  have r2:=gW c2 x.2 h2
  refine ⟨by simp [Sl,r1.1,r2.1],λi c hc=>?_⟩
  simp only [Sl] at hc
  by_cases hi:i<(Sl fr a x.1).length
  ·rw [As hi] at hc
   obtain ⟨u,hu,h3⟩:=r1.2 i c hc
   exact ⟨u,by rw [As (by rw [r1.1];exact hi)];exact hu,h3⟩
  ·rw [Ar (by omega)] at hc
   obtain ⟨u,hu,h3⟩:=r2.2 _ c hc
   exact ⟨u,by rw [Ar (by rw [r1.1];omega),r1.1];exact hu,h3⟩
 |_=>exact λus x h=>one _ us x rfl h
theorem iv {τ:Ty} {c:AV} {v:Value} {cs:List AC} (h:Bp X w π H c v) (hc:cellsOf τ c=some cs):
  ∃us:List Value,v.cells=us.toArray/\us.length=τ.size/\Fv X w π H cs us:=by
 have single: ∀a:AC,(if τ.Aq then none else some [a])=some cs->Hm X w π H a v->v.oneCell'=true->v.cells= #[v]-> ∃us:List Value,v.cells=us.toArray/\us.length=τ.size/\Fv X w π H cs us:=by
  intro a ha hr h1 h2
  split at ha
  ·cases ha
  ·rename_i hs
   simp only [Aa] at ha;subst ha
   simp only [Ii] at hs
   have h3:τ.size=1:=by cases τ<;>simp_all [Ty.Aq,Ty.size]
   refine ⟨[v],h2,by rw [h3];rfl,rfl,λi c hc=>?_⟩
   rcases i with _|i
   ·simp at hc;subst hc;exact ⟨v,rfl,h1,hr⟩
   ·simp at hc
 cases c with
 |agg ds=>
  simp only [cellsOf] at hc
  split at hc
  ·rename_i Jn
   simp only [Af,Xd] at Jn
   simp only [Aa] at hc;subst hc
   obtain ⟨us,rfl,hr⟩:=h
   exact ⟨us,rfl,by rw [hr.1,Jn.2],hr⟩
  ·cases hc
 |bL fr Oh x=>simp [cellsOf] at hc
 |Ms l=>simp [cellsOf] at hc
 | «at»a=>
  cases a with
  |data fr Oh x=>
   simp only [cellsOf] at hc
   split at hc
   ·rename_i ht;subst ht
    simp only [Aa] at hc;subst hc
    obtain ⟨us,h1,rfl⟩:=h
    exact ⟨us,Kt Oh us x h1,Cells.len Oh us x h1,qJ Oh us x h1⟩
   ·cases hc
  |undef=>simp [cellsOf] at hc
  |skip=>simp [cellsOf] at hc
  |Lr=>have hv:v= .slice none 0 0:=h;exact single .Lr hc h (by rw [hv];rfl) (by rw [hv];rfl)
  |Vu=>have hv:v= .pointer none:=h;exact single .Vu hc h (by rw [hv];rfl) (by rw [hv];rfl)
  |own l off len=>
   have h':=h
   obtain ⟨b,sz,n,_,_,_,ho⟩:=h
   have hv: ∃a l c,v= .slice a l c:=by
    cases hp:π l with
    |none=>rw [hp] at ho;obtain ⟨rfl,_⟩:=ho;exact ⟨_,_,_,rfl⟩
    |some r=>rw [hp] at ho;obtain ⟨ad,rfl,_⟩:=ho;exact ⟨_,_,_,rfl⟩
   obtain ⟨a1,l1,c1,hv⟩:=hv
   exact single _ hc h' (by rw [hv];rfl) (by rw [hv];rfl)
  |Hj l i=>
   have h':=h
   obtain ⟨r,tid,vs,_,_,hv⟩:=h
   exact single _ hc h' (by rw [hv];rfl) (by rw [hv];rfl)
  |Jz l i=>
   have h':=h
   obtain ⟨r,b,sz,n,_,_,_,_,hv⟩:=h
   exact single _ hc h' (by rw [hv];rfl) (by rw [hv];rfl)
  |sub l i c0=>
   have h':=h
   obtain ⟨r,b,sz,n,_,_,_,_,⟨_,a,n,m,hv⟩,_⟩:=h
   exact single _ hc h' (by rw [hv];rfl) (by rw [hv];rfl)
  |Jv l i c0=>
   have h':=h
   obtain ⟨r,b,n,sz,g,o,len,cap,_,_,_,_,_,_,hv⟩:=h
   exact single _ hc h' (by rw [hv];rfl) (by rw [hv];rfl)
  |clo f Ee=>
   have h':=h
   obtain ⟨us,hv,_⟩:=h
   exact single _ hc h' (by rw [hv];rfl) (by rw [hv];rfl)
  |Kh l=>
   have h':=h
   obtain ⟨r,vt,m,_,_,hv⟩:=h
   exact single _ hc h' (by rw [hv];rfl) (by rw [hv];rfl)
theorem wa {vs cs:List AC} {us ns:List Value} (h:Fv X w π H vs us) (h2:Fv X w π H cs ns) (i:Nat) (hi:i+cs.length<=vs.length):
  Fv X w π H (Dw vs i cs) (Dw us i ns):=by
 have e1:=h.1
 have e2:=h2.1
 refine ⟨by simp [Dw,e1,e2],λj c hc=>?_⟩
 unfold Dw at hc⊢
 have t1:(vs.take i).length=i:=by simp;omega
 have t2:(us.take i).length=i:=by simp;omega
 by_cases h3:j<i
 ·rw [Dg,As (by omega),Cx,Ab h3] at hc
  obtain ⟨u,hu,h4⟩:=h.2 j c hc
  exact ⟨u,by rw [Dg,As (by omega),Cx,Ab h3];exact hu,h4⟩
 ·by_cases h4:j<i+cs.length
  ·rw [Dg,Ar (by omega),t1,As (by omega)] at hc
   obtain ⟨u,hu,h5⟩:=h2.2 _ c hc
   exact ⟨u,by rw [Dg,Ar (by omega),t2,As (by omega)];exact hu,h5⟩
  ·rw [Ar (by simp;omega),Cw] at hc
   obtain ⟨u,hu,h5⟩:=h.2 _ c hc
   refine ⟨u,?_,h5⟩
   rw [Ar (by simp;omega),Cw]
   rw [<-hu]
   congr 1
   simp
   omega
theorem Nr (w:World) (g:Nat) (cs:Array Value):w.grownBy (w.setRow g cs) (some g):=
 ⟨rfl,rfl,rfl,by simp,λk _ hk=>setRow_other w g k cs (λe=>hk (by rw [e]))⟩
theorem Wr {t:TypeId} {τ:Ty} (ht:p9 P T t τ) (g i:Nat) (v:Value) (us:List Value) (hv:v.cells=us.toArray) (hl:us.length=τ.size) (h1: ∀u∈us,u.oneCell'=true)
  (cur:Array Value) (tid:TypeId) (hg:w.heap[g]?=some (.cells cur tid (0,0))) (hle:i+us.length<=cur.size):
  (storeVar t ⟨g,i,none⟩ v).run P w= .ok () (w.setRow g (Dw cur.toList i us).toArray):=by
 unfold storeVar
 rw [hv]
 simp only [Sem.run_bind,ht.size,Result.andThen_ok,Gs,hl]
 have:=run_storeCells_at P g i tid us 0 cur w hg (by simpa using hle) h1
 simp only [Ez] at this
 simpa [Dw,hl] using this
def ie (P:Program) (X:Ctx) (st':St) (a:Act) (w:World) (av:AV):Result Next->Prop
 | .ok (.value v) w'=> ∃π',Bl X π' st' a w'/\Bp X w' π' st'.heap av v
 | .ok .skip w'=> ∃π',Bl X π' st' a w'/\Bp X w' π' st'.heap av undef
 | .ok (.enter f args) w'=>w'=w/\Calls P f args w (λe rS=> ∃v,e= .returned v/\ ∃π',Bl X π' st' a rS/\Bp X rS π' st'.heap av v)
 |_=>False
theorem DB (hT:Eb P T) {st:St} {a:Act} (h:Bl X π st a w) {t:TypeId} {τ:Ty} (ht:T.ty t=some τ) {l i:Nat} {vp vx:Value} {x:AV} {tid:TypeId} {vs cs:List AC}
  (hp:Bp X w π st.heap (.at (.Hj l i)) vp) (hx:Bp X w π st.heap x vx) (hl:st.at l=some (.var tid vs)) (hc:cellsOf τ x=some cs) (hle:i+cs.length<=vs.length):
  ∃w',(Instr.storeAt t vp vx).run P w= .ok () w'/\Bl X π (st.Ju l (.var tid (Dw vs i cs))) a w':=by
 obtain ⟨r,Vb,vs',h1,h2,rfl⟩:=hp
 unfold St.at at hl
 rw [hl] at h1;cases h1
 obtain ⟨r',h3,h4,cur,h5,h6⟩:=(h.1.heap l).Qm hl
 rw [h2] at h3;cases h3
 obtain ⟨us,hv,hlu,hr⟩:=iv hx hc
 have s9:us.length=cs.length:=hr.1
 have gT:cur.toList.length=vs.length:=h6.1
 have Aju: ∀u∈us,u.oneCell'=true:=by
  intro u hu
  obtain ⟨j,hj,rfl⟩:=Rh hu
  obtain ⟨u',fj,h7,_⟩:=hr.2 j cs[j] (Ac (by omega))
  rw [Ac hj] at fj
  simp only [Aa] at fj
  rw [fj];exact h7
 have Vt:=Wr (P:=P) (w:=w) (hT.ty _ _ ht) r.g i vx us hv hlu Aju cur tid h5 (by simp at gT;omega)
 refine ⟨_,by simp only [Instr.storeAt,Instr.sureAddr];simpa using Vt,?_⟩
 refine h.set hl (b:= .var tid (Dw vs i cs)) trivial (by rw [h2];exact Nr w r.g _) λm=>?_
 refine ⟨r,h2,h4,_,setRow_heap w r.g cur _ tid _ h5,?_⟩
 have m1:=m.acs h6
 have m2:=m.acs hr
 simp only [List.map_id'] at m1 m2
 exact wa m1 m2 i hle
theorem Vr {α:Type} : ∀(l:List α) (i:Nat) (x:α),Su l i x=l.set i x
 | [],i,x=>by cases i<;>rfl
 |_::_,0,_=>rfl
 |y::r,n+1,x=>by simp [Su,Vr r n x]
def RN (st:St) (l:Nat):Prop:= ∃tid vs,Au st.heap l=some (.var tid vs)
theorem iE (te:TypeId) (e:Ty) (w:World) (π:Pi) (H:List (Nat×OB)):Cj X w π H none (dU T te e):=by
 unfold dU
 split
 ·exact ⟨rfl,trivial⟩
 ·rfl
theorem nq (te:TypeId) (e:Ty): ∃sz,(dU T te e).row=some (sz,0):=by
 unfold dU
 split<;>exact ⟨_,rfl⟩
theorem ji {st:St} {a:Act} (h:Bl X π st a w) {b:OB} (hb0: ∀(w:World) (π:Pi) (H:List (Nat×OB)),Cj X w π H none b) {sz:Nat} (Kq:b.row=some (sz,0)) (key l i:Nat) (Aab:key<Bn):
  ∃π',Bl X π' (Uw b key l i st) a w/\(RN (Uw b key l i st) l->RN st l/\π' l=π l):=by
 unfold Uw
 split
 ·rename_i tid vs hl
  split
  ·rename_i hi
   have h1:=h.replace (w':=w) key Aab none b (Pz w _) (λr hr=>by cases hr) (λ_=>hb0 _ _ _)
   dsimp only
   unfold St.at at hl
   split
   ·rename_i Vb vs' Kn
    unfold St.at at Kn
    have Se:key≠l:=by
     intro e
     subst e
     rw [St.Gw] at Kn
     cases Kn
     cases Kq
    refine ⟨_,h1.set Kn (b:= .var Vb (Su vs' i (.own key 0 0))) trivial (Pz w _) λm=>?_,λ_=>⟨⟨tid,vs,hl⟩,Gg π none (Gf Se)⟩⟩
    obtain ⟨r,h3,h4,cur,h5,h6⟩:=(h1.1.heap l).Qm Kn
    have m1:=m.acs h6
    simp only [List.map_id'] at m1
    refine ⟨r,h3,h4,cur,h5,?_⟩
    have Ik:=St.ae st key l b (Gf Se)
    rw [hl,Kn] at Ik
    simp only [Am,Aa,OB.map,OB.var.injEq] at Ik
    obtain ⟨rfl,rfl⟩:=Ik
    refine ⟨by rw [an];exact m1.1,λj c hc=>?_⟩
    rw [Vr,Fe] at hc
    split at hc
    ·rename_i iW;subst iW
     split at hc
     ·simp only [Aa] at hc;subst hc
      obtain ⟨u,hu,UT,GD⟩:=m1.2 i (.Lr) (by rw [Fc,hi];rfl)
      refine ⟨u,hu,UT,b,sz,0,?_,Kq,Ao _,?_⟩
      ·rw [show Au ((st.new key b).Ju l _).heap key=Au (st.new key b).heap key from Dy _ _ _ _ Se]
       exact St.Gw st key _
      ·rw [Gj];exact ⟨GD,rfl,rfl⟩
     ·cases hc
    ·exact m1.2 j c hc
   ·rename_i hno
    refine ⟨_,h1,λ⟨t1,v1,hv⟩=>?_⟩
    exact absurd hv (hno t1 v1)
  ·unfold St.at at hl
   exact ⟨_,h,λhv=>⟨hv,rfl⟩⟩
 ·exact ⟨_,h,λhv=>⟨hv,rfl⟩⟩
theorem jj (l:Nat) (t:TypeId) (τ:Ty) {a:Act} : ∀(n i:Nat) (st:St) (π:Pi),100000+l*100+i+n<Bn->Bl X π st a w->
  ∃π',Bl X π' (fG T l t τ n i st) a w/\(RN (fG T l t τ n i st) l->RN st l/\π' l=π l)
 |0,i,st,π,_,h=>⟨π,h,λhv=>⟨hv,rfl⟩⟩
 |n+1,i,st,π,It,h=>by
  unfold fG
  split
  ·rename_i te e _
   obtain ⟨sz,Kq⟩:=nq (T:=T) te e
   obtain ⟨cz,h1,k1⟩:=ji h (iE te e) Kq (100000+l*100+i) l i (by omega)
   obtain ⟨YM,h2,k2⟩:=jj l t τ n (i+1) _ cz (by omega) h1
   exact ⟨YM,h2,λhv=>⟨(k1 (k2 hv).1).1,(k2 hv).2.trans (k1 (k2 hv).1).2⟩⟩
  ·obtain ⟨YM,h2,k2⟩:=jj l t τ n (i+1) _ π (by omega) h
   exact ⟨YM,h2,k2⟩
theorem fH (l off:Nat) (t:TypeId) (τ:Ty) {a:Act} : ∀(n i:Nat) (st:St) (π:Pi),100000+l*100+(off+i+n)<Bn->Bl X π st a w-> ∃π',Bl X π' (eA T l off t τ n i st) a w
 |0,i,st,π,_,h=>⟨π,h⟩
 |n+1,i,st,π,It,h=>by
  unfold eA
  split
  ·rename_i te e _
   obtain ⟨cz,h1,_⟩:=ji h (iE te e) (nq (T:=T) te e).choose_spec (100000+l*100+(off+i)) l (off+i) (by omega)
   exact fH l off t τ n (i+1) _ cz (by omega) h1
  ·exact fH l off t τ n (i+1) _ π (by omega) h
theorem BG {st:St} {a:Act} (h:Bl X π st a w) (l:Nat) (t:TypeId) (cs:List AC) (us:List Value) (hr:Fv X w π st.heap cs us) (av:AV) (st':St)
  (he:uM st l t cs=some (av,st')):
  ∃π',Bl X π' st' a (w.alloc (.cells us.toArray t))/\Bp X (w.alloc (.cells us.toArray t)) π' st'.heap av (.pointer (some ⟨w.heap.size,0,none⟩)):=by
 unfold uM at he
 split at he
 ·cases he
 rename_i a6
 simp only [Aa,Ad] at he
 obtain ⟨rfl,rfl⟩:=he
 have h1:Bl X (Xa π l (some (Real.one w.heap.size 0 0))) (st.new l (.var t (cs.map (Cr l)))) a (w.alloc (.cells us.toArray t)):=by
  refine h.replace l (by omega) (some (Real.one w.heap.size 0 0)) (.var t (cs.map (Cr l))) (World.grownBy_alloc w _ _) (λr dM=>by cases dM;exact ⟨rfl, .inr (Ao _),by simp [Real.one]⟩) λm=>?_
  exact ⟨_,rfl,rfl,us.toArray,heap_alloc_new w _,m.acs (by simpa using hr)⟩
 exact ⟨_,h1,_,t,_,St.Gw ..,Gj ..,rfl⟩
theorem ri {st:St} {a:Act} (h:Bl X π st a w) (l:Nat) (t:TypeId) (τ:Ty) (cs:List AC) (us:List Value) (hr:Fv X w π st.heap cs us) (av:AV) (st':St)
  (he:mkVar T st l t τ cs=some (av,st')):
  ∃π',Bl X π' st' a (w.alloc (.cells us.toArray t))/\Bp X (w.alloc (.cells us.toArray t)) π' st'.heap av (.pointer (some ⟨w.heap.size,0,none⟩)):=by
 unfold mkVar at he
 split at he
 ·cases he
 rename_i a6
 have h1:Bl X (Xa π l (some (Real.one w.heap.size 0 0))) (st.new l (.var t (cs.map (Cr l)))) a (w.alloc (.cells us.toArray t)):=by
  refine h.replace l (by omega) (some (Real.one w.heap.size 0 0)) (.var t (cs.map (Cr l))) (World.grownBy_alloc w _ _) (λr dM=>by cases dM;exact ⟨rfl, .inr (Ao _),by simp [Real.one]⟩) λm=>?_
  exact ⟨_,rfl,rfl,us.toArray,heap_alloc_new w _,m.acs (by simpa using hr)⟩
 obtain ⟨YM,h2,k2⟩:=jj (T:=T) l t τ cs.length 0 _ _ (by omega) h1
 dsimp only at he
 split at he
 ·rename_i tid vs hl
  unfold St.at at hl
  simp only [Aa,Ad] at he
  obtain ⟨rfl,rfl⟩:=he
  have:=(k2 ⟨tid,vs,hl⟩).2
  rw [Gj] at this
  exact ⟨YM,h2,_,tid,vs,hl,this,rfl⟩
 ·cases he
end
end Go.Proofs.YtfolipnappekaaaGreat
