/-
  Part 10 of the proof that the statement FnExactSolveTwoPhaseWithin holds.
-/
import Derived.Test.YtfgfigkbgecfnaaCSolveTwoPhaseWithin08
namespace Go.Proofs.Ytfgfigkbgecfnaa
open Go.RowKit
section
variable {P:Program} {T:Tab} {X:Ctx} {w w':World} {π:Pi} {H:List (Nat×OB)}
theorem Qc (w:World) (row:Option Nat):w.grownBy w row:=⟨rfl,rfl,rfl,Ap _,λ_ _ _=>rfl⟩
theorem FM (fr:Bool) {τ:Ty} (Up:τ.Ar=false) (x:τ.den):Td fr τ x= [.data fr τ x]:=by
 cases τ<;>first|rfl|simp [Ty.Ar] at Up
theorem OJ {S:Nat->Prop} {τ:Ty} {v:Value} {x:τ.den} (h:Cells w S τ [v] x):v.oneCell'=true:=Cells.plain τ [v] x h v (by simp)
theorem qM {fr:Bool} : ∀(τ:Ty) (us:List Value) (x:τ.den),Cells w (Dk X.w0.heap.size X.Sc π fr) τ us x->Gq X w π H (Td fr τ x) us:=by
 have one: ∀(τ:Ty) (us:List Value) (x:τ.den),τ.Ar=false->Cells w (Dk X.w0.heap.size X.Sc π fr) τ us x->Gq X w π H (Td fr τ x) us:=by
  intro τ us x Up h;rw [FM fr Up];have hl:=Cells.len τ us x h
  have h1:τ.size=1:=by cases τ<;>simp_all [Ty.Ar,Ty.size]
  rw [h1] at hl;obtain ⟨u,rfl⟩:=Ek.1 hl;refine ⟨rfl,λi c hc=>?_⟩;rcases i with _|i
  ·simp at hc;subst hc;exact ⟨u,rfl,OJ h,[u],h,by simp [Cj,Up]⟩
  ·simp at hc
 intro τ
 induction τ with
 |unit=>intro us x h;simp only [Cells] at h;subst h;exact ⟨rfl,λi c hc=>by simp [Td] at hc⟩
 |pair a r iL iH=>
  intro us x h;simp only [Cells] at h;obtain ⟨c1,c2,rfl,h1,h2⟩:=h;have r1:=iL c1 x.1 h1;have r2:=iH c2 x.2 h2;refine ⟨by simp [Td,r1.1,r2.1],λi c hc=>?_⟩;simp only [Td] at hc
  by_cases hi:i<(Td fr a x.1).length
  ·rw [Au hi] at hc;obtain ⟨u,hu,h3⟩:=r1.2 i c hc;exact ⟨u,by rw [Au (by rw [r1.1];exact hi)];exact hu,h3⟩
  ·rw [As (by omega)] at hc;obtain ⟨u,hu,h3⟩:=r2.2 _ c hc;exact ⟨u,by rw [As (by rw [r1.1];omega),r1.1];exact hu,h3⟩
 |_=>exact λus x h=>one _ us x rfl h
theorem iY {τ:Ty} {c:AV} {v:Value} {cs:List AC} (h:Bx X w π H c v) (hc:cellsOf τ c=some cs):
  ∃us:List Value,v.cells=us.toArray/\us.length=τ.size/\Gq X w π H cs us:=by
 have single: ∀a:AC,(if τ.Ar then none else some [a])=some cs->Hw X w π H a v->v.oneCell'=true->v.cells= #[v]-> ∃us:List Value,v.cells=us.toArray/\us.length=τ.size/\Gq X w π H cs us:=by
  intro a ha hr h1 h2;split at ha
  ·cases ha
  ·rename_i hs;simp only [Aa] at ha;subst ha;simp only [Gb] at hs
   have h3:τ.size=1:=by cases τ<;>simp_all [Ty.Ar,Ty.size]
   refine ⟨[v],h2,by rw [h3];rfl,rfl,λi c hc=>?_⟩;rcases i with _|i
   ·simp at hc;subst hc;exact ⟨v,rfl,h1,hr⟩
   ·simp at hc
 cases c with
 |agg ds=>
  simp only [cellsOf] at hc;split at hc
  ·rename_i Kg;simp only [Ak,beq_iff_eq] at Kg;simp only [Aa] at hc;subst hc;obtain ⟨us,rfl,hr⟩:=h;exact ⟨us,rfl,by rw [hr.1,Kg.2],hr⟩
  ·cases hc
 |bL fr Ow x=>simp [cellsOf] at hc
 |Nh l=>simp [cellsOf] at hc
 | «at»a=>
  cases a with
  |data fr Ow x=>
   simp only [cellsOf] at hc;split at hc
   ·rename_i ht;subst ht;simp only [Aa] at hc;subst hc;obtain ⟨us,h1,rfl⟩:=h;exact ⟨us,Lp Ow us x h1,Cells.len Ow us x h1,qM Ow us x h1⟩
   ·cases hc
  |undef=>simp [cellsOf] at hc
  |skip=>simp [cellsOf] at hc
  |Mn=>have hv:v= .slice none 0 0:=h;exact single .Mn hc h (by rw [hv];rfl) (by rw [hv];rfl)
  |Wk=>have hv:v= .pointer none:=h;exact single .Wk hc h (by rw [hv];rfl) (by rw [hv];rfl)
  |own l off len=>
   have h':=h;obtain ⟨b,sz,n,_,_,_,ho⟩:=h
   have hv: ∃a l c,v= .slice a l c:=by
    cases hp:π l with
    |none=>rw [hp] at ho;obtain ⟨rfl,_⟩:=ho;exact ⟨_,_,_,rfl⟩
    |some r=>rw [hp] at ho;obtain ⟨ad,rfl,_⟩:=ho;exact ⟨_,_,_,rfl⟩
   obtain ⟨a1,l1,c1,hv⟩:=hv;exact single _ hc h' (by rw [hv];rfl) (by rw [hv];rfl)
  |Hs l i=>
   have h':=h;obtain ⟨r,tid,vs,_,_,hv⟩:=h;exact single _ hc h' (by rw [hv];rfl) (by rw [hv];rfl)
  |Kq l i=>
   have h':=h;obtain ⟨r,b,sz,n,_,_,_,_,hv⟩:=h;exact single _ hc h' (by rw [hv];rfl) (by rw [hv];rfl)
  |sub l i c0=>
   have h':=h;obtain ⟨r,b,sz,n,_,_,_,_,⟨_,a,n,m,hv⟩,_⟩:=h;exact single _ hc h' (by rw [hv];rfl) (by rw [hv];rfl)
  |Kl l i c0=>
   have h':=h;obtain ⟨r,b,n,sz,g,o,len,cap,_,_,_,_,_,_,hv⟩:=h;exact single _ hc h' (by rw [hv];rfl) (by rw [hv];rfl)
  |clo f En=>
   have h':=h;obtain ⟨us,hv,_⟩:=h;exact single _ hc h' (by rw [hv];rfl) (by rw [hv];rfl)
  |Le l=>
   have h':=h;obtain ⟨r,vt,m,_,_,hv⟩:=h;exact single _ hc h' (by rw [hv];rfl) (by rw [hv];rfl)
theorem vI {vs cs:List AC} {us ns:List Value} (h:Gq X w π H vs us) (h2:Gq X w π H cs ns) (i:Nat) (hi:i+cs.length<=vs.length):
  Gq X w π H (Du vs i cs) (Du us i ns):=by
 have e1:=h.1;have e2:=h2.1;refine ⟨by simp [Du,e1,e2],λj c hc=>?_⟩;unfold Du at hc⊢
 have t1:(vs.take i).length=i:=by simp;omega
 have t2:(us.take i).length=i:=by simp;omega
 by_cases h3:j<i
 ·rw [Bn,Au (by omega),Di,Ac h3] at hc;obtain ⟨u,hu,h4⟩:=h.2 j c hc;exact ⟨u,by rw [Bn,Au (by omega),Di,Ac h3];exact hu,h4⟩
 ·by_cases h4:j<i+cs.length
  ·rw [Bn,As (by omega),t1,Au (by omega)] at hc;obtain ⟨u,hu,h5⟩:=h2.2 _ c hc;exact ⟨u,by rw [Bn,As (by omega),t2,Au (by omega)];exact hu,h5⟩
  ·rw [As (by simp;omega),Cp] at hc;obtain ⟨u,hu,h5⟩:=h.2 _ c hc;refine ⟨u,?_,h5⟩;rw [As (by simp;omega),Cp];rw [<-hu]
   congr 1
   simp;omega
theorem Oe (w:World) (g:Nat) (cs:Array Value):w.grownBy (w.setRow g cs) (some g):=
 ⟨rfl,rfl,rfl,by simp,λk _ hk=>setRow_other w g k cs (λe=>hk (by rw [e]))⟩
theorem Xi {t:TypeId} {τ:Ty} (ht:pk P T t τ) (g i:Nat) (v:Value) (us:List Value) (hv:v.cells=us.toArray) (hl:us.length=τ.size) (h1: ∀u∈us,u.oneCell'=true)
  (cur:Array Value) (tid:TypeId) (hg:w.heap[g]?=some (.cells cur tid (0,0))) (hle:i+us.length<=cur.size):
  (storeVar t ⟨g,i,none⟩ v).run P w= .ok () (w.setRow g (Du cur.toList i us).toArray):=by
 unfold storeVar;rw [hv];simp only [Sem.run_bind,ht.size,Result.andThen_ok,Hk,hl];have:=run_storeCells_at P g i tid us 0 cur w hg (by simpa using hle) h1;simp only [El] at this;simpa [Du,hl] using this
def iO (P:Program) (X:Ctx) (st':St) (a:Act) (w:World) (av:AV):Result Next->Prop
 | .ok (.value v) w'=> ∃π',Bs X π' st' a w'/\Bx X w' π' st'.heap av v
 | .ok .skip w'=> ∃π',Bs X π' st' a w'/\Bx X w' π' st'.heap av undef
 | .ok (.enter f args) w'=>w'=w/\Calls P f args w (λe rU=> ∃v,e= .returned v/\ ∃π',Bs X π' st' a rU/\Bx X rU π' st'.heap av v)
 |_=>False
theorem CQ (hT:Ec P T) {st:St} {a:Act} (h:Bs X π st a w) {t:TypeId} {τ:Ty} (ht:T.ty t=some τ) {l i:Nat} {vp vx:Value} {x:AV} {tid:TypeId} {vs cs:List AC}
  (hp:Bx X w π st.heap (.at (.Hs l i)) vp) (hx:Bx X w π st.heap x vx) (hl:st.at l=some (.var tid vs)) (hc:cellsOf τ x=some cs) (hle:i+cs.length<=vs.length):
  ∃w',(Instr.storeAt t vp vx).run P w= .ok () w'/\Bs X π (st.Kk l (.var tid (Du vs i cs))) a w':=by
 obtain ⟨r,Vt,vs',h1,h2,rfl⟩:=hp;unfold St.at at hl;rw [hl] at h1;cases h1;obtain ⟨r',h3,h4,cur,h5,h6⟩:=(h.1.heap l).Se hl;rw [h2] at h3;cases h3;obtain ⟨us,hv,hlu,hr⟩:=iY hx hc;have zJ:us.length=cs.length:=hr.1;have iC:cur.toList.length=vs.length:=h6.1
 have Akz: ∀u∈us,u.oneCell'=true:=by
  intro u hu;obtain ⟨j,hj,rfl⟩:=Sa hu;obtain ⟨u',iG,h7,_⟩:=hr.2 j cs[j] (Ad (by omega));rw [Ad hj] at iG;simp only [Aa] at iG;rw [iG];exact h7
 have Wj:=Xi (P:=P) (w:=w) (hT.ty _ _ ht) r.g i vx us hv hlu Akz cur tid h5 (by simp at iC;omega);refine ⟨_,by simp only [Instr.storeAt,Instr.sureAddr];simpa using Wj,?_⟩;refine h.set hl (b:= .var tid (Du vs i cs)) trivial (by rw [h2];exact Oe w r.g _) λm=>?_;refine ⟨r,h2,h4,_,setRow_heap w r.g cur _ tid _ h5,?_⟩;have m1:=m.acs h6;have m2:=m.acs hr;simp only [List.map_id'] at m1 m2;exact vI m1 m2 i hle
theorem Wh {α:Type} : ∀(l:List α) (i:Nat) (x:α),Tm l i x=l.set i x
 | [],i,x=>by cases i<;>rfl
 |_::_,0,_=>rfl
 |y::r,n+1,x=>by simp [Tm,Wh r n x]
def RC (st:St) (l:Nat):Prop:= ∃tid vs,Ay st.heap l=some (.var tid vs)
theorem ja (te:TypeId) (e:Ty) (w:World) (π:Pi) (H:List (Nat×OB)):Cq X w π H none (eD T te e):=by
 unfold eD;split
 ·exact ⟨rfl,trivial⟩
 ·rfl
theorem nN (te:TypeId) (e:Ty): ∃sz,(eD T te e).row=some (sz,0):=by
 unfold eD
 split<;>exact ⟨_,rfl⟩
theorem jE {st:St} {a:Act} (h:Bs X π st a w) {b:OB} (hb0: ∀(w:World) (π:Pi) (H:List (Nat×OB)),Cq X w π H none b) {sz:Nat} (Qd:b.row=some (sz,0)) (key l i:Nat) (NA:key<Bv):
  ∃π',Bs X π' (Vr b key l i st) a w/\(RC (Vr b key l i st) l->RC st l/\π' l=π l):=by
 unfold Vr;split
 ·rename_i tid vs hl;split
  ·rename_i hi;have h1:=h.replace (w':=w) key NA none b (Qc w _) (λr hr=>by cases hr) (λ_=>hb0 _ _ _);dsimp only;unfold St.at at hl;split
   ·rename_i Vt vs' Mr;unfold St.at at Mr
    have Ml:key≠l:=by
     intro e;subst e;rw [St.Hm] at Mr;cases Mr;cases Qd
    refine ⟨_,h1.set Mr (b:= .var Vt (Tm vs' i (.own key 0 0))) trivial (Qc w _) λm=>?_,λ_=>⟨⟨tid,vs,hl⟩,Gw π none (Ha Ml)⟩⟩;obtain ⟨r,h3,h4,cur,h5,h6⟩:=(h1.1.heap l).Se Mr;have m1:=m.acs h6;simp only [List.map_id'] at m1;refine ⟨r,h3,h4,cur,h5,?_⟩;have Ii:=St.aq st key l b (Ha Ml);rw [hl,Mr] at Ii;simp only [An,Aa,OB.map,OB.var.injEq] at Ii;obtain ⟨rfl,rfl⟩:=Ii;refine ⟨by rw [aB];exact m1.1,λj c hc=>?_⟩;rw [Wh,Fb] at hc;split at hc
    ·rename_i fU;subst fU;split at hc
     ·simp only [Aa] at hc;subst hc;obtain ⟨u,hu,UW,FY⟩:=m1.2 i (.Mn) (by rw [Fa,hi];rfl);refine ⟨u,hu,UW,b,sz,0,?_,Qd,Ap _,?_⟩
      ·rw [show Ay ((st.new key b).Kk l _).heap key=Ay (st.new key b).heap key from Ej _ _ _ _ Ml];exact St.Hm st key _
      ·rw [Gx];exact ⟨FY,rfl,rfl⟩
     ·cases hc
    ·exact m1.2 j c hc
   ·rename_i hno;refine ⟨_,h1,λ⟨t1,v1,hv⟩=>?_⟩;exact absurd hv (hno t1 v1)
  ·unfold St.at at hl;exact ⟨_,h,λhv=>⟨hv,rfl⟩⟩
 ·exact ⟨_,h,λhv=>⟨hv,rfl⟩⟩
theorem jF (l:Nat) (t:TypeId) (τ:Ty) {a:Act} : ∀(n i:Nat) (st:St) (π:Pi),100000+l*100+i+n<Bv->Bs X π st a w->
  ∃π',Bs X π' (gp T l t τ n i st) a w/\(RC (gp T l t τ n i st) l->RC st l/\π' l=π l)
 |0,i,st,π,_,h=>⟨π,h,λhv=>⟨hv,rfl⟩⟩
 |n+1,i,st,π,Kr,h=>by
  unfold gp;split
  ·rename_i te e _;obtain ⟨sz,Qd⟩:=nN (T:=T) te e;obtain ⟨cN,h1,k1⟩:=jE h (ja te e) Qd (100000+l*100+i) l i (by omega);obtain ⟨YI,h2,k2⟩:=jF l t τ n (i+1) _ cN (by omega) h1;exact ⟨YI,h2,λhv=>⟨(k1 (k2 hv).1).1,(k2 hv).2.trans (k1 (k2 hv).1).2⟩⟩
  ·obtain ⟨YI,h2,k2⟩:=jF l t τ n (i+1) _ π (by omega) h;exact ⟨YI,h2,k2⟩
theorem gq (l off:Nat) (t:TypeId) (τ:Ty) {a:Act} : ∀(n i:Nat) (st:St) (π:Pi),100000+l*100+(off+i+n)<Bv->Bs X π st a w-> ∃π',Bs X π' (fa T l off t τ n i st) a w
 |0,i,st,π,_,h=>⟨π,h⟩
 |n+1,i,st,π,Kr,h=>by
  unfold fa;split
  ·rename_i te e _;obtain ⟨cN,h1,_⟩:=jE h (ja te e) (nN (T:=T) te e).choose_spec (100000+l*100+(off+i)) l (off+i) (by omega);exact gq l off t τ n (i+1) _ cN (by omega) h1
  ·exact gq l off t τ n (i+1) _ π (by omega) h
theorem AR {st:St} {a:Act} (h:Bs X π st a w) (l:Nat) (t:TypeId) (cs:List AC) (us:List Value) (hr:Gq X w π st.heap cs us) (av:AV) (st':St)
  (he:uD st l t cs=some (av,st')):
  ∃π',Bs X π' st' a (w.alloc (.cells us.toArray t))/\Bx X (w.alloc (.cells us.toArray t)) π' st'.heap av (.pointer (some ⟨w.heap.size,0,none⟩)):=by
 unfold uD at he;split at he
 ·cases he
 rename_i dT;simp only [Aa,Ag] at he;obtain ⟨rfl,rfl⟩:=he
 have h1:Bs X (Xp π l (some (Real.one w.heap.size 0 0))) (st.new l (.var t (cs.map (Cy l)))) a (w.alloc (.cells us.toArray t)):=by
  refine h.replace l (by omega) (some (Real.one w.heap.size 0 0)) (.var t (cs.map (Cy l))) (World.grownBy_alloc w _ _) (λr lb=>by cases lb;exact ⟨rfl, .inr (Ap _),by simp [Real.one]⟩) λm=>?_;exact ⟨_,rfl,rfl,us.toArray,heap_alloc_new w _,m.acs (by simpa using hr)⟩
 exact ⟨_,h1,_,t,_,St.Hm ..,Gx ..,rfl⟩
theorem rk {st:St} {a:Act} (h:Bs X π st a w) (l:Nat) (t:TypeId) (τ:Ty) (cs:List AC) (us:List Value) (hr:Gq X w π st.heap cs us) (av:AV) (st':St)
  (he:mkVar T st l t τ cs=some (av,st')):
  ∃π',Bs X π' st' a (w.alloc (.cells us.toArray t))/\Bx X (w.alloc (.cells us.toArray t)) π' st'.heap av (.pointer (some ⟨w.heap.size,0,none⟩)):=by
 unfold mkVar at he;split at he
 ·cases he
 rename_i dT
 have h1:Bs X (Xp π l (some (Real.one w.heap.size 0 0))) (st.new l (.var t (cs.map (Cy l)))) a (w.alloc (.cells us.toArray t)):=by
  refine h.replace l (by omega) (some (Real.one w.heap.size 0 0)) (.var t (cs.map (Cy l))) (World.grownBy_alloc w _ _) (λr lb=>by cases lb;exact ⟨rfl, .inr (Ap _),by simp [Real.one]⟩) λm=>?_;exact ⟨_,rfl,rfl,us.toArray,heap_alloc_new w _,m.acs (by simpa using hr)⟩
 obtain ⟨YI,h2,k2⟩:=jF (T:=T) l t τ cs.length 0 _ _ (by omega) h1;dsimp only at he;split at he
 ·rename_i tid vs hl;unfold St.at at hl;simp only [Aa,Ag] at he;obtain ⟨rfl,rfl⟩:=he;have:=(k2 ⟨tid,vs,hl⟩).2;rw [Gx] at this;exact ⟨YI,h2,_,tid,vs,hl,this,rfl⟩
 ·cases he
end
end Go.Proofs.Ytfgfigkbgecfnaa
