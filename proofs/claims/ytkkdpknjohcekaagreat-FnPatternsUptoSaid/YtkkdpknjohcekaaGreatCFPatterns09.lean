/-
  Part 10 of the proof that the statement FnPatterns holds.
-/
import Derived.Test.YtkkdpknjohcekaaGreatCFPatterns08
namespace Go.Proofs.YtkkdpknjohcekaaGreat
open Go.RowKit
section
variable {P:Program} {T:Tab} {X:Ctx} {w w':World} {π:Pi} {H:List (Nat×OB)}
theorem Pr (w:World) (row:Option Nat):w.grownBy w row:=⟨rfl,rfl,rfl,Ao _,λ_ _ _=>rfl⟩
theorem ES (fr:Bool) {τ:Ty} (Tz:τ.Ap=false) (x:τ.den):Sk fr τ x= [.data fr τ x]:=by
 cases τ<;>first|rfl|simp [Ty.Ap] at Tz
theorem NC {S:Nat->Prop} {τ:Ty} {v:Value} {x:τ.den} (h:Cells w S τ [v] x):v.oneCell'=true:=Cells.plain τ [v] x h v (by simp)
theorem qc {fr:Bool} : ∀(τ:Ty) (us:List Value) (x:τ.den),Cells w (Da X.w0.heap.size X.Sc π fr) τ us x->Gc X w π H (Sk fr τ x) us:=by
 have one: ∀(τ:Ty) (us:List Value) (x:τ.den),τ.Ap=false->Cells w (Da X.w0.heap.size X.Sc π fr) τ us x->Gc X w π H (Sk fr τ x) us:=by
  intro τ us x Tz h
  rw [ES fr Tz]
  have hl:=Cells.len τ us x h
  have h1:τ.size=1:=by cases τ<;>simp_all [Ty.Ap,Ty.size]
  rw [h1] at hl
  obtain ⟨u,rfl⟩:=Ed.1 hl
  refine ⟨rfl,λi c hc=>?_⟩
  rcases i with _|i
  ·simp at hc;subst hc
   exact ⟨u,rfl,NC h,[u],h,by simp [Cd,Tz]⟩
  ·simp at hc
 intro τ
 induction τ with
 |unit=>intro us x h;simp only [Cells] at h;subst h;exact ⟨rfl,λi c hc=>by simp [Sk] at hc⟩
 |pair a r ib gZ=>
  intro us x h
  simp only [Cells] at h
  obtain ⟨c1,c2,rfl,h1,h2⟩:=h
  have r1:=ib c1 x.1 h1
  have r2:=gZ c2 x.2 h2
  refine ⟨by simp [Sk,r1.1,r2.1],λi c hc=>?_⟩
  simp only [Sk] at hc
  by_cases hi:i<(Sk fr a x.1).length
  ·rw [As hi] at hc
   obtain ⟨u,hu,h3⟩:=r1.2 i c hc
   exact ⟨u,by rw [As (by rw [r1.1];exact hi)];exact hu,h3⟩
  ·rw [Ar (by omega)] at hc
   obtain ⟨u,hu,h3⟩:=r2.2 _ c hc
   exact ⟨u,by rw [Ar (by rw [r1.1];omega),r1.1];exact hu,h3⟩
 |_=>exact λus x h=>one _ us x rfl h
theorem iA {τ:Ty} {c:AV} {v:Value} {cs:List AC} (h:Bs X w π H c v) (hc:cellsOf τ c=some cs):
  ∃us:List Value,v.cells=us.toArray/\us.length=τ.size/\Gc X w π H cs us:=by
 have single: ∀a:AC,(if τ.Ap then none else some [a])=some cs->Hv X w π H a v->v.oneCell'=true->v.cells= #[v]-> ∃us:List Value,v.cells=us.toArray/\us.length=τ.size/\Gc X w π H cs us:=by
  intro a ha hr h1 h2
  split at ha
  ·cases ha
  ·rename_i hs
   simp only [Aa] at ha;subst ha
   simp only [Ge] at hs
   have h3:τ.size=1:=by cases τ<;>simp_all [Ty.Ap,Ty.size]
   refine ⟨[v],h2,by rw [h3];rfl,rfl,λi c hc=>?_⟩
   rcases i with _|i
   ·simp at hc;subst hc;exact ⟨v,rfl,h1,hr⟩
   ·simp at hc
 cases c with
 |agg ds=>
  simp only [cellsOf] at hc
  split at hc
  ·rename_i Jx
   simp only [Ag,Xg] at Jx
   simp only [Aa] at hc;subst hc
   obtain ⟨us,rfl,hr⟩:=h
   exact ⟨us,rfl,by rw [hr.1,Jx.2],hr⟩
  ·cases hc
 |bw fr Oe x=>simp [cellsOf] at hc
 |Mt l=>simp [cellsOf] at hc
 | «at»a=>
  cases a with
  |data fr Oe x=>
   simp only [cellsOf] at hc
   split at hc
   ·rename_i ht;subst ht
    simp only [Aa] at hc;subst hc
    obtain ⟨us,h1,rfl⟩:=h
    exact ⟨us,Ld Oe us x h1,Cells.len Oe us x h1,qc Oe us x h1⟩
   ·cases hc
  |undef=>simp [cellsOf] at hc
  |skip=>simp [cellsOf] at hc
  |Ma=>have hv:v= .slice none 0 0:=h;exact single .Ma hc h (by rw [hv];rfl) (by rw [hv];rfl)
  |Vv=>have hv:v= .pointer none:=h;exact single .Vv hc h (by rw [hv];rfl) (by rw [hv];rfl)
  |own l off len=>
   have h':=h
   obtain ⟨b,sz,n,_,_,_,ho⟩:=h
   have hv: ∃a l c,v= .slice a l c:=by
    cases hp:π l with
    |none=>rw [hp] at ho;obtain ⟨rfl,_⟩:=ho;exact ⟨_,_,_,rfl⟩
    |some r=>rw [hp] at ho;obtain ⟨ad,rfl,_⟩:=ho;exact ⟨_,_,_,rfl⟩
   obtain ⟨a1,l1,c1,hv⟩:=hv
   exact single _ hc h' (by rw [hv];rfl) (by rw [hv];rfl)
  |Hr l i=>
   have h':=h
   obtain ⟨r,tid,vs,_,_,hv⟩:=h
   exact single _ hc h' (by rw [hv];rfl) (by rw [hv];rfl)
  |Ki l i=>
   have h':=h
   obtain ⟨r,b,sz,n,_,_,_,_,hv⟩:=h
   exact single _ hc h' (by rw [hv];rfl) (by rw [hv];rfl)
  |sub l i c0=>
   have h':=h
   obtain ⟨r,b,sz,n,_,_,_,_,⟨_,a,n,m,hv⟩,_⟩:=h
   exact single _ hc h' (by rw [hv];rfl) (by rw [hv];rfl)
  |Kf l i c0=>
   have h':=h
   obtain ⟨r,b,n,sz,g,o,len,cap,_,_,_,_,_,_,hv⟩:=h
   exact single _ hc h' (by rw [hv];rfl) (by rw [hv];rfl)
  |clo f Ef=>
   have h':=h
   obtain ⟨us,hv,_⟩:=h
   exact single _ hc h' (by rw [hv];rfl) (by rw [hv];rfl)
  |Kq l=>
   have h':=h
   obtain ⟨r,vt,m,_,_,hv⟩:=h
   exact single _ hc h' (by rw [hv];rfl) (by rw [hv];rfl)
theorem vd {vs cs:List AC} {us ns:List Value} (h:Gc X w π H vs us) (h2:Gc X w π H cs ns) (i:Nat) (hi:i+cs.length<=vs.length):
  Gc X w π H (Dw vs i cs) (Dw us i ns):=by
 have e1:=h.1
 have e2:=h2.1
 refine ⟨by simp [Dw,e1,e2],λj c hc=>?_⟩
 unfold Dw at hc⊢
 have t1:(vs.take i).length=i:=by simp;omega
 have t2:(us.take i).length=i:=by simp;omega
 by_cases h3:j<i
 ·rw [Ct,As (by omega),Cx,Ab h3] at hc
  obtain ⟨u,hu,h4⟩:=h.2 j c hc
  exact ⟨u,by rw [Ct,As (by omega),Cx,Ab h3];exact hu,h4⟩
 ·by_cases h4:j<i+cs.length
  ·rw [Ct,Ar (by omega),t1,As (by omega)] at hc
   obtain ⟨u,hu,h5⟩:=h2.2 _ c hc
   exact ⟨u,by rw [Ct,Ar (by omega),t2,As (by omega)];exact hu,h5⟩
  ·rw [Ar (by simp;omega),De] at hc
   obtain ⟨u,hu,h5⟩:=h.2 _ c hc
   refine ⟨u,?_,h5⟩
   rw [Ar (by simp;omega),De]
   rw [<-hu]
   congr 1
   simp
   omega
theorem Np (w:World) (g:Nat) (cs:Array Value):w.grownBy (w.setRow g cs) (some g):=
 ⟨rfl,rfl,rfl,by simp,λk _ hk=>setRow_other w g k cs (λe=>hk (by rw [e]))⟩
theorem Wr {t:TypeId} {τ:Ty} (ht:oI P T t τ) (g i:Nat) (v:Value) (us:List Value) (hv:v.cells=us.toArray) (hl:us.length=τ.size) (h1: ∀u∈us,u.oneCell'=true)
  (cur:Array Value) (tid:TypeId) (hg:w.heap[g]?=some (.cells cur tid (0,0))) (hle:i+us.length<=cur.size):
  (storeVar t ⟨g,i,none⟩ v).run P w= .ok () (w.setRow g (Dw cur.toList i us).toArray):=by
 unfold storeVar
 rw [hv]
 simp only [Sem.run_bind,ht.size,Result.andThen_ok,Hc,hl]
 have:=run_storeCells_at P g i tid us 0 cur w hg (by simpa using hle) h1
 simp only [Er] at this
 simpa [Dw,hl] using this
def ig (P:Program) (X:Ctx) (st':St) (a:Act) (w:World) (av:AV):Result Next->Prop
 | .ok (.value v) w'=> ∃π',Bi X π' st' a w'/\Bs X w' π' st'.heap av v
 | .ok .skip w'=> ∃π',Bi X π' st' a w'/\Bs X w' π' st'.heap av undef
 | .ok (.enter f args) w'=>w'=w/\Calls P f args w (λe qX=> ∃v,e= .returned v/\ ∃π',Bi X π' st' a qX/\Bs X qX π' st'.heap av v)
 |_=>False
theorem BW (hT:Eb P T) {st:St} {a:Act} (h:Bi X π st a w) {t:TypeId} {τ:Ty} (ht:T.ty t=some τ) {l i:Nat} {vp vx:Value} {x:AV} {tid:TypeId} {vs cs:List AC}
  (hp:Bs X w π st.heap (.at (.Hr l i)) vp) (hx:Bs X w π st.heap x vx) (hl:st.at l=some (.var tid vs)) (hc:cellsOf τ x=some cs) (hle:i+cs.length<=vs.length):
  ∃w',(Instr.storeAt t vp vx).run P w= .ok () w'/\Bi X π (st.Ke l (.var tid (Dw vs i cs))) a w':=by
 obtain ⟨r,Vc,vs',h1,h2,rfl⟩:=hp
 unfold St.at at hl
 rw [hl] at h1;cases h1
 obtain ⟨r',h3,h4,cur,h5,h6⟩:=(h.1.heap l).Ro hl
 rw [h2] at h3;cases h3
 obtain ⟨us,hv,hlu,hr⟩:=iA hx hc
 have zo:us.length=cs.length:=hr.1
 have gU:cur.toList.length=vs.length:=h6.1
 have Aj4: ∀u∈us,u.oneCell'=true:=by
  intro u hu
  obtain ⟨j,hj,rfl⟩:=Nn hu
  obtain ⟨u',gY,h7,_⟩:=hr.2 j cs[j] (Ac (by omega))
  rw [Ac hj] at gY
  simp only [Aa] at gY
  rw [gY];exact h7
 have Vu:=Wr (P:=P) (w:=w) (hT.ty _ _ ht) r.g i vx us hv hlu Aj4 cur tid h5 (by simp at gU;omega)
 refine ⟨_,by simp only [Instr.storeAt,Instr.sureAddr];simpa using Vu,?_⟩
 refine h.set hl (b:= .var tid (Dw vs i cs)) trivial (by rw [h2];exact Np w r.g _) λm=>?_
 refine ⟨r,h2,h4,_,setRow_heap w r.g cur _ tid _ h5,?_⟩
 have m1:=m.acs h6
 have m2:=m.acs hr
 simp only [List.map_id'] at m1 m2
 exact vd m1 m2 i hle
theorem Vr {α:Type} : ∀(l:List α) (i:Nat) (x:α),Sr l i x=l.set i x
 | [],i,x=>by cases i<;>rfl
 |_::_,0,_=>rfl
 |y::r,n+1,x=>by simp [Sr,Vr r n x]
def QL (st:St) (l:Nat):Prop:= ∃tid vs,At st.heap l=some (.var tid vs)
theorem iI (te:TypeId) (e:Ty) (w:World) (π:Pi) (H:List (Nat×OB)):Cj X w π H none (dZ T te e):=by
 unfold dZ
 split
 ·exact ⟨rfl,trivial⟩
 ·rfl
theorem mW (te:TypeId) (e:Ty): ∃sz,(dZ T te e).row=some (sz,0):=by
 unfold dZ
 split<;>exact ⟨_,rfl⟩
theorem jd {st:St} {a:Act} (h:Bi X π st a w) {b:OB} (hb0: ∀(w:World) (π:Pi) (H:List (Nat×OB)),Cj X w π H none b) {sz:Nat} (Kd:b.row=some (sz,0)) (key l i:Nat) (LU:key<Bn):
  ∃π',Bi X π' (Uy b key l i st) a w/\(QL (Uy b key l i st) l->QL st l/\π' l=π l):=by
 unfold Uy
 split
 ·rename_i tid vs hl
  split
  ·rename_i hi
   have h1:=h.replace (w':=w) key LU none b (Pr w _) (λr hr=>by cases hr) (λ_=>hb0 _ _ _)
   dsimp only
   unfold St.at at hl
   split
   ·rename_i Vc vs' Jv
    unfold St.at at Jv
    have Rk:key≠l:=by
     intro e
     subst e
     rw [St.Hg] at Jv
     cases Jv
     cases Kd
    refine ⟨_,h1.set Jv (b:= .var Vc (Sr vs' i (.own key 0 0))) trivial (Pr w _) λm=>?_,λ_=>⟨⟨tid,vs,hl⟩,Gr π none (Gg Rk)⟩⟩
    obtain ⟨r,h3,h4,cur,h5,h6⟩:=(h1.1.heap l).Ro Jv
    have m1:=m.acs h6
    simp only [List.map_id'] at m1
    refine ⟨r,h3,h4,cur,h5,?_⟩
    have Iz:=St.a5 st key l b (Gg Rk)
    rw [hl,Jv] at Iz
    simp only [Am,Aa,OB.map,OB.var.injEq] at Iz
    obtain ⟨rfl,rfl⟩:=Iz
    refine ⟨by rw [aa];exact m1.1,λj c hc=>?_⟩
    rw [Vr,Eh] at hc
    split at hc
    ·rename_i jZ;subst jZ
     split at hc
     ·simp only [Aa] at hc;subst hc
      obtain ⟨u,hu,TZ,xz⟩:=m1.2 i (.Ma) (by rw [Et,hi];rfl)
      refine ⟨u,hu,TZ,b,sz,0,?_,Kd,Ao _,?_⟩
      ·rw [show At ((st.new key b).Ke l _).heap key=At (st.new key b).heap key from Ec _ _ _ _ Rk]
       exact St.Hg st key _
      ·rw [Gu];exact ⟨xz,rfl,rfl⟩
     ·cases hc
    ·exact m1.2 j c hc
   ·rename_i hno
    refine ⟨_,h1,λ⟨t1,v1,hv⟩=>?_⟩
    exact absurd hv (hno t1 v1)
  ·unfold St.at at hl
   exact ⟨_,h,λhv=>⟨hv,rfl⟩⟩
 ·exact ⟨_,h,λhv=>⟨hv,rfl⟩⟩
theorem je (l:Nat) (t:TypeId) (τ:Ty) {a:Act} : ∀(n i:Nat) (st:St) (π:Pi),100000+l*100+i+n<Bn->Bi X π st a w->
  ∃π',Bi X π' (fK T l t τ n i st) a w/\(QL (fK T l t τ n i st) l->QL st l/\π' l=π l)
 |0,i,st,π,_,h=>⟨π,h,λhv=>⟨hv,rfl⟩⟩
 |n+1,i,st,π,Jj,h=>by
  unfold fK
  split
  ·rename_i te e _
   obtain ⟨sz,Kd⟩:=mW (T:=T) te e
   obtain ⟨cn,h1,k1⟩:=jd h (iI te e) Kd (100000+l*100+i) l i (by omega)
   obtain ⟨XY,h2,k2⟩:=je l t τ n (i+1) _ cn (by omega) h1
   exact ⟨XY,h2,λhv=>⟨(k1 (k2 hv).1).1,(k2 hv).2.trans (k1 (k2 hv).1).2⟩⟩
  ·obtain ⟨XY,h2,k2⟩:=je l t τ n (i+1) _ π (by omega) h
   exact ⟨XY,h2,k2⟩
theorem fL (l off:Nat) (t:TypeId) (τ:Ty) {a:Act} : ∀(n i:Nat) (st:St) (π:Pi),100000+l*100+(off+i+n)<Bn->Bi X π st a w-> ∃π',Bi X π' (eG T l off t τ n i st) a w
 |0,i,st,π,_,h=>⟨π,h⟩
 |n+1,i,st,π,Jj,h=>by
  unfold eG
  split
  ·rename_i te e _
   obtain ⟨cn,h1,_⟩:=jd h (iI te e) (mW (T:=T) te e).choose_spec (100000+l*100+(off+i)) l (off+i) (by omega)
   exact fL l off t τ n (i+1) _ cn (by omega) h1
  ·exact fL l off t τ n (i+1) _ π (by omega) h
theorem zU {st:St} {a:Act} (h:Bi X π st a w) (l:Nat) (t:TypeId) (cs:List AC) (us:List Value) (hr:Gc X w π st.heap cs us) (av:AV) (st':St)
  (he:tV st l t cs=some (av,st')):
  ∃π',Bi X π' st' a (w.alloc (.cells us.toArray t))/\Bs X (w.alloc (.cells us.toArray t)) π' st'.heap av (.pointer (some ⟨w.heap.size,0,none⟩)):=by
 unfold tV at he
 split at he
 ·cases he
 rename_i Zx
 simp only [Aa,Ae] at he
 obtain ⟨rfl,rfl⟩:=he
 have h1:Bi X (Xb π l (some (Real.one w.heap.size 0 0))) (st.new l (.var t (cs.map (Cq l)))) a (w.alloc (.cells us.toArray t)):=by
  refine h.replace l (by omega) (some (Real.one w.heap.size 0 0)) (.var t (cs.map (Cq l))) (World.grownBy_alloc w _ _) (λr dO=>by cases dO;exact ⟨rfl, .inr (Ao _),by simp [Real.one]⟩) λm=>?_
  exact ⟨_,rfl,rfl,us.toArray,heap_alloc_new w _,m.acs (by simpa using hr)⟩
 exact ⟨_,h1,_,t,_,St.Hg ..,Gu ..,rfl⟩
theorem qB {st:St} {a:Act} (h:Bi X π st a w) (l:Nat) (t:TypeId) (τ:Ty) (cs:List AC) (us:List Value) (hr:Gc X w π st.heap cs us) (av:AV) (st':St)
  (he:mkVar T st l t τ cs=some (av,st')):
  ∃π',Bi X π' st' a (w.alloc (.cells us.toArray t))/\Bs X (w.alloc (.cells us.toArray t)) π' st'.heap av (.pointer (some ⟨w.heap.size,0,none⟩)):=by
 unfold mkVar at he
 split at he
 ·cases he
 rename_i Zx
 have h1:Bi X (Xb π l (some (Real.one w.heap.size 0 0))) (st.new l (.var t (cs.map (Cq l)))) a (w.alloc (.cells us.toArray t)):=by
  refine h.replace l (by omega) (some (Real.one w.heap.size 0 0)) (.var t (cs.map (Cq l))) (World.grownBy_alloc w _ _) (λr dO=>by cases dO;exact ⟨rfl, .inr (Ao _),by simp [Real.one]⟩) λm=>?_
  exact ⟨_,rfl,rfl,us.toArray,heap_alloc_new w _,m.acs (by simpa using hr)⟩
 obtain ⟨XY,h2,k2⟩:=je (T:=T) l t τ cs.length 0 _ _ (by omega) h1
 dsimp only at he
 split at he
 ·rename_i tid vs hl
  unfold St.at at hl
  simp only [Aa,Ae] at he
  obtain ⟨rfl,rfl⟩:=he
  have:=(k2 ⟨tid,vs,hl⟩).2
  rw [Gu] at this
  exact ⟨XY,h2,_,tid,vs,hl,this,rfl⟩
 ·cases he
end
end Go.Proofs.YtkkdpknjohcekaaGreat
