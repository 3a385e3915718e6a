/-
  Part 10 of the proof that the statement FnCommutatorMacros holds.
-/
import Derived.Test.YtfgfigkbgecfnaaCFCommutatorMacros08
namespace Go.Proofs.Ytfgfigkbgecfnaa
open Go.RowKit
section
variable {P:Program} {T:Tab} {X:Ctx} {w w':World} {π:Pi} {H:List (Nat×OB)}
theorem Mi (w:World) (row:Option Nat):w.grownBy w row:=⟨rfl,rfl,rfl,Ao _,λ_ _ _=>rfl⟩
theorem sT (fr:Bool) {τ:Ty} (Pp:τ.Ak=false) (x:τ.den):Oi fr τ x= [.data fr τ x]:=by
 cases τ<;>first|rfl|simp [Ty.Ak] at Pp
theorem wg {S:Nat->Prop} {τ:Ty} {v:Value} {x:τ.den} (h:Cells w S τ [v] x):v.oneCell'=true:=Cells.plain τ [v] x h v (by simp)
theorem jR {fr:Bool} : ∀(τ:Ty) (us:List Value) (x:τ.den),Cells w (Cb X.w0.heap.size X.Sc π fr) τ us x->Eb X w π H (Oi fr τ x) us:=by
 have one: ∀(τ:Ty) (us:List Value) (x:τ.den),τ.Ak=false->Cells w (Cb X.w0.heap.size X.Sc π fr) τ us x->Eb X w π H (Oi fr τ x) us:=by
  intro τ us x Pp h
  rw [sT fr Pp]
  have hl:=Cells.len τ us x h
  have h1:τ.size=1:=by cases τ<;>simp_all [Ty.Ak,Ty.size]
  rw [h1] at hl
  obtain ⟨u,rfl⟩:=Cv.1 hl
  refine ⟨rfl,λi c hc=>?_⟩
  rcases i with _|i
  ·simp at hc;subst hc
   exact ⟨u,rfl,wg h,[u],h,by simp [Bi,Pp]⟩
  ·simp at hc
 intro τ
 induction τ with
 |unit=>intro us x h;simp only [Cells] at h;subst h;exact ⟨rfl,λi c hc=>by simp [Oi] at hc⟩
 |pair a r cC cw=>
  intro us x h
  simp only [Cells] at h
  obtain ⟨c1,c2,rfl,h1,h2⟩:=h
  have r1:=cC c1 x.1 h1
  have r2:=cw c2 x.2 h2
  refine ⟨by simp [Oi,r1.1,r2.1],λi c hc=>?_⟩
  simp only [Oi] at hc
  by_cases hi:i<(Oi fr a x.1).length
  ·rw [Am hi] at hc
   obtain ⟨u,hu,h3⟩:=r1.2 i c hc
   exact ⟨u,by rw [Am (by rw [r1.1];exact hi)];exact hu,h3⟩
  ·rw [Al (by omega)] at hc
   obtain ⟨u,hu,h3⟩:=r2.2 _ c hc
   exact ⟨u,by rw [Al (by rw [r1.1];omega),r1.1];exact hu,h3⟩
 |_=>exact λus x h=>one _ us x rfl h
theorem cP {τ:Ty} {c:AV} {v:Value} {cs:List AC} (h:Ba X w π H c v) (hc:cellsOf τ c=some cs):
  ∃us:List Value,v.cells=us.toArray/\us.length=τ.size/\Eb X w π H cs us:=by
 have single: ∀a:AC,(if τ.Ak then none else some [a])=some cs->Fe X w π H a v->v.oneCell'=true->v.cells= #[v]-> ∃us:List Value,v.cells=us.toArray/\us.length=τ.size/\Eb X w π H cs us:=by
  intro a ha hr h1 h2
  split at ha
  ·cases ha
  ·rename_i hs
   simp only [Aa] at ha;subst ha
   simp only [Gt] at hs
   have h3:τ.size=1:=by cases τ<;>simp_all [Ty.Ak,Ty.size]
   refine ⟨[v],h2,by rw [h3];rfl,rfl,λi c hc=>?_⟩
   rcases i with _|i
   ·simp at hc;subst hc;exact ⟨v,rfl,h1,hr⟩
   ·simp at hc
 cases c with
 |agg ds=>
  simp only [cellsOf] at hc
  split at hc
  ·rename_i Ha
   simp only [Ag,beq_iff_eq] at Ha
   simp only [Aa] at hc;subst hc
   obtain ⟨us,rfl,hr⟩:=h
   exact ⟨us,rfl,by rw [hr.1,Ha.2],hr⟩
  ·cases hc
 |Wh fr Lg x=>simp [cellsOf] at hc
 |Jy l=>simp [cellsOf] at hc
 | «at»a=>
  cases a with
  |data fr Lg x=>
   simp only [cellsOf] at hc
   split at hc
   ·rename_i ht;subst ht
    simp only [Aa] at hc;subst hc
    obtain ⟨us,h1,rfl⟩:=h
    exact ⟨us,Ii Lg us x h1,Cells.len Lg us x h1,jR Lg us x h1⟩
   ·cases hc
  |undef=>simp [cellsOf] at hc
  |skip=>simp [cellsOf] at hc
  |Jf=>have hv:v= .slice none 0 0:=h;exact single .Jf hc h (by rw [hv];rfl) (by rw [hv];rfl)
  |Qx=>have hv:v= .pointer none:=h;exact single .Qx hc h (by rw [hv];rfl) (by rw [hv];rfl)
  |own l off len=>
   have h':=h
   obtain ⟨b,sz,n,_,_,_,ho⟩:=h
   have hv: ∃a l c,v= .slice a l c:=by
    cases hp:π l with
    |none=>rw [hp] at ho;obtain ⟨rfl,_⟩:=ho;exact ⟨_,_,_,rfl⟩
    |some r=>rw [hp] at ho;obtain ⟨ad,rfl,_⟩:=ho;exact ⟨_,_,_,rfl⟩
   obtain ⟨a1,l1,c1,hv⟩:=hv
   exact single _ hc h' (by rw [hv];rfl) (by rw [hv];rfl)
  |Ez l i=>
   have h':=h
   obtain ⟨r,tid,vs,_,_,hv⟩:=h
   exact single _ hc h' (by rw [hv];rfl) (by rw [hv];rfl)
  |Hj l i=>
   have h':=h
   obtain ⟨r,b,sz,n,_,_,_,_,hv⟩:=h
   exact single _ hc h' (by rw [hv];rfl) (by rw [hv];rfl)
  |sub l i c0=>
   have h':=h
   obtain ⟨r,b,sz,n,_,_,_,_,⟨_,a,n,m,hv⟩,_⟩:=h
   exact single _ hc h' (by rw [hv];rfl) (by rw [hv];rfl)
  |Hf l i c0=>
   have h':=h
   obtain ⟨r,b,n,sz,g,o,len,cap,_,_,_,_,_,_,hv⟩:=h
   exact single _ hc h' (by rw [hv];rfl) (by rw [hv];rfl)
  |clo f Cx=>
   have h':=h
   obtain ⟨us,hv,_⟩:=h
   exact single _ hc h' (by rw [hv];rfl) (by rw [hv];rfl)
  |Hv l=>
   have h':=h
   obtain ⟨r,vt,m,_,_,hv⟩:=h
   exact single _ hc h' (by rw [hv];rfl) (by rw [hv];rfl)
theorem nq {vs cs:List AC} {us ns:List Value} (h:Eb X w π H vs us) (h2:Eb X w π H cs ns) (i:Nat) (hi:i+cs.length<=vs.length):
  Eb X w π H (Dd vs i cs) (Dd us i ns):=by
 have e1:=h.1
 have e2:=h2.1
 refine ⟨by simp [Dd,e1,e2],λj c hc=>?_⟩
 unfold Dd at hc⊢
 have t1:(vs.take i).length=i:=by simp;omega
 have t2:(us.take i).length=i:=by simp;omega
 by_cases h3:j<i
 ·rw [Kf,Am (by omega),By,Af h3] at hc
  obtain ⟨u,hu,h4⟩:=h.2 j c hc
  exact ⟨u,by rw [Kf,Am (by omega),By,Af h3];exact hu,h4⟩
 ·by_cases h4:j<i+cs.length
  ·rw [Kf,Al (by omega),t1,Am (by omega)] at hc
   obtain ⟨u,hu,h5⟩:=h2.2 _ c hc
   exact ⟨u,by rw [Kf,Al (by omega),t2,Am (by omega)];exact hu,h5⟩
  ·rw [Al (by simp;omega),Ce] at hc
   obtain ⟨u,hu,h5⟩:=h.2 _ c hc
   refine ⟨u,?_,h5⟩
   rw [Al (by simp;omega),Ce]
   rw [<-hu]
   congr 1
   simp
   omega
theorem Kq (w:World) (g:Nat) (cs:Array Value):w.grownBy (w.setRow g cs) (some g):=
 ⟨rfl,rfl,rfl,by simp,λk _ hk=>setRow_other w g k cs (λe=>hk (by rw [e]))⟩
theorem Ru {t:TypeId} {τ:Ty} (ht:lA P T t τ) (g i:Nat) (v:Value) (us:List Value) (hv:v.cells=us.toArray) (hl:us.length=τ.size) (h1: ∀u∈us,u.oneCell'=true)
  (cur:Array Value) (tid:TypeId) (hg:w.heap[g]?=some (.cells cur tid (0,0))) (hle:i+us.length<=cur.size):
  (storeVar t ⟨g,i,none⟩ v).run P w= .ok () (w.setRow g (Dd cur.toList i us).toArray):=by
 unfold storeVar
 rw [hv]
 simp only [Sem.run_bind,ht.size,Result.andThen_ok,Eu,hl]
 have:=run_storeCells_at P g i tid us 0 cur w hg (by simpa using hle) h1
 simp only [Dc] at this
 simpa [Dd,hl] using this
def cG (P:Program) (X:Ctx) (st':St) (a:Act) (w:World) (av:AV):Result Next->Prop
 | .ok (.value v) w'=> ∃π',Ax X π' st' a w'/\Ba X w' π' st'.heap av v
 | .ok .skip w'=> ∃π',Ax X π' st' a w'/\Ba X w' π' st'.heap av undef
 | .ok (.enter f args) w'=>w'=w/\Calls P f args w (λe kF=> ∃v,e= .returned v/\ ∃π',Ax X π' st' a kF/\Ba X kF π' st'.heap av v)
 |_=>False
theorem rX (hT:De P T) {st:St} {a:Act} (h:Ax X π st a w) {t:TypeId} {τ:Ty} (ht:T.ty t=some τ) {l i:Nat} {vp vx:Value} {x:AV} {tid:TypeId} {vs cs:List AC}
  (hp:Ba X w π st.heap (.at (.Ez l i)) vp) (hx:Ba X w π st.heap x vx) (hl:st.at l=some (.var tid vs)) (hc:cellsOf τ x=some cs) (hle:i+cs.length<=vs.length):
  ∃w',(Instr.storeAt t vp vx).run P w= .ok () w'/\Ax X π (st.He l (.var tid (Dd vs i cs))) a w':=by
 obtain ⟨r,Qj,vs',h1,h2,rfl⟩:=hp
 unfold St.at at hl
 rw [hl] at h1;cases h1
 obtain ⟨r',h3,h4,cur,h5,h6⟩:=(h.1.heap l).Ns hl
 rw [h2] at h3;cases h3
 obtain ⟨us,hv,hlu,hr⟩:=cP hx hc
 have qv:us.length=cs.length:=hr.1
 have ai:cur.toList.length=vs.length:=h6.1
 have LJ: ∀u∈us,u.oneCell'=true:=by
  intro u hu
  obtain ⟨j,hj,rfl⟩:=Ko hu
  obtain ⟨u',cv,h7,_⟩:=hr.2 j cs[j] (Ac (by omega))
  rw [Ac hj] at cv
  simp only [Aa] at cv
  rw [cv];exact h7
 have Qw:=Ru (P:=P) (w:=w) (hT.ty _ _ ht) r.g i vx us hv hlu LJ cur tid h5 (by simp at ai;omega)
 refine ⟨_,by simp only [Instr.storeAt,Instr.sureAddr];simpa using Qw,?_⟩
 refine h.set hl (b:= .var tid (Dd vs i cs)) trivial (by rw [h2];exact Kq w r.g _) λm=>?_
 refine ⟨r,h2,h4,_,setRow_heap w r.g cur _ tid _ h5,?_⟩
 have m1:=m.EW h6
 have m2:=m.EW hr
 simp only [List.map_id'] at m1 m2
 exact nq m1 m2 i hle
theorem Qt {α:Type} : ∀(l:List α) (i:Nat) (x:α),Oo l i x=l.set i x
 | [],i,x=>by cases i<;>rfl
 |_::_,0,_=>rfl
 |y::r,n+1,x=>by simp [Oo,Qt r n x]
def xf (st:St) (l:Nat):Prop:= ∃tid vs,Ap st.heap l=some (.var tid vs)
theorem cY (te:TypeId) (e:Ty) (w:World) (π:Pi) (H:List (Nat×OB)):Bn X w π H none (Zx T te e):=by
 unfold Zx
 split
 ·exact ⟨rfl,trivial⟩
 ·rfl
theorem gM (te:TypeId) (e:Ty): ∃sz,(Zx T te e).row=some (sz,0):=by
 unfold Zx
 split<;>exact ⟨_,rfl⟩
theorem dC {st:St} {a:Act} (h:Ax X π st a w) {b:OB} (VK: ∀(w:World) (π:Pi) (H:List (Nat×OB)),Bn X w π H none b) {sz:Nat} (bf:b.row=some (sz,0)) (key l i:Nat) (BJ:key<Az):
  ∃π',Ax X π' (Qf b key l i st) a w/\(xf (Qf b key l i st) l->xf st l/\π' l=π l):=by
 unfold Qf
 split
 ·rename_i tid vs hl
  split
  ·rename_i hi
   have h1:=h.replace (w':=w) key BJ none b (Mi w _) (λr hr=>by cases hr) (λ_=>VK _ _ _)
   dsimp only
   unfold St.at at hl
   split
   ·rename_i Qj vs' Tu
    unfold St.at at Tu
    have Om:key≠l:=by
     intro e
     subst e
     rw [St.Ew] at Tu
     cases Tu
     cases bf
    refine ⟨_,h1.set Tu (b:= .var Qj (Oo vs' i (.own key 0 0))) trivial (Mi w _) λm=>?_,λ_=>⟨⟨tid,vs,hl⟩,Ek π none (Fo Om)⟩⟩
    obtain ⟨r,h3,h4,cur,h5,h6⟩:=(h1.1.heap l).Ns Tu
    have m1:=m.EW h6
    simp only [List.map_id'] at m1
    refine ⟨r,h3,h4,cur,h5,?_⟩
    have Hs:=St.Uj st key l b (Fo Om)
    rw [hl,Tu] at Hs
    simp only [Ah,Aa,OB.map,OB.var.injEq] at Hs
    obtain ⟨rfl,rfl⟩:=Hs
    refine ⟨by rw [Uo];exact m1.1,λj c hc=>?_⟩
    rw [Qt,Dg] at hc
    split at hc
    ·rename_i fW;subst fW
     split at hc
     ·simp only [Aa] at hc;subst hc
      obtain ⟨u,hu,yz,oY⟩:=m1.2 i (.Jf) (by rw [Et,hi];rfl)
      refine ⟨u,hu,yz,b,sz,0,?_,bf,Ao _,?_⟩
      ·rw [show Ap ((st.new key b).He l _).heap key=Ap (st.new key b).heap key from Cu _ _ _ _ Om]
       exact St.Ew st key _
      ·rw [Eo];exact ⟨oY,rfl,rfl⟩
     ·cases hc
    ·exact m1.2 j c hc
   ·rename_i LF
    refine ⟨_,h1,λ⟨t1,v1,hv⟩=>?_⟩
    exact absurd hv (LF t1 v1)
  ·unfold St.at at hl
   exact ⟨_,h,λhv=>⟨hv,rfl⟩⟩
 ·exact ⟨_,h,λhv=>⟨hv,rfl⟩⟩
theorem dD (l:Nat) (t:TypeId) (τ:Ty) {a:Act} : ∀(n i:Nat) (st:St) (π:Pi),100000+l*100+i+n<Az->Ax X π st a w->
  ∃π',Ax X π' (br T l t τ n i st) a w/\(xf (br T l t τ n i st) l->xf st l/\π' l=π l)
 |0,i,st,π,_,h=>⟨π,h,λhv=>⟨hv,rfl⟩⟩
 |n+1,i,st,π,Im,h=>by
  unfold br
  split
  ·rename_i te e _
   obtain ⟨sz,bf⟩:=gM (T:=T) te e
   obtain ⟨Xp,h1,k1⟩:=dC h (cY te e) bf (100000+l*100+i) l i (by omega)
   obtain ⟨zR,h2,k2⟩:=dD l t τ n (i+1) _ Xp (by omega) h1
   exact ⟨zR,h2,λhv=>⟨(k1 (k2 hv).1).1,(k2 hv).2.trans (k1 (k2 hv).1).2⟩⟩
  ·obtain ⟨zR,h2,k2⟩:=dD l t τ n (i+1) _ π (by omega) h
   exact ⟨zR,h2,k2⟩
theorem bt (l off:Nat) (t:TypeId) (τ:Ty) {a:Act} : ∀(n i:Nat) (st:St) (π:Pi),100000+l*100+(off+i+n)<Az->Ax X π st a w-> ∃π',Ax X π' (ay T l off t τ n i st) a w
 |0,i,st,π,_,h=>⟨π,h⟩
 |n+1,i,st,π,Im,h=>by
  unfold ay
  split
  ·rename_i te e _
   obtain ⟨Xp,h1,_⟩:=dC h (cY te e) (gM (T:=T) te e).choose_spec (100000+l*100+(off+i)) l (off+i) (by omega)
   exact bt l off t τ n (i+1) _ Xp (by omega) h1
  ·exact bt l off t τ n (i+1) _ π (by omega) h
theorem qY {st:St} {a:Act} (h:Ax X π st a w) (l:Nat) (t:TypeId) (cs:List AC) (us:List Value) (hr:Eb X w π st.heap cs us) (av:AV) (st':St)
  (he:mC st l t cs=some (av,st')):
  ∃π',Ax X π' st' a (w.alloc (.cells us.toArray t))/\Ba X (w.alloc (.cells us.toArray t)) π' st'.heap av (.pointer (some ⟨w.heap.size,0,none⟩)):=by
 unfold mC at he
 split at he
 ·cases he
 rename_i bb
 simp only [Aa,Ab] at he
 obtain ⟨rfl,rfl⟩:=he
 have h1:Ax X (Ry π l (some (Real.one w.heap.size 0 0))) (st.new l (.var t (cs.map (Bs l)))) a (w.alloc (.cells us.toArray t)):=by
  refine h.replace l (by omega) (some (Real.one w.heap.size 0 0)) (.var t (cs.map (Bs l))) (World.grownBy_alloc w _ _) (λr eH=>by cases eH;exact ⟨rfl, .inr (Ao _),by simp [Real.one]⟩) λm=>?_
  exact ⟨_,rfl,rfl,us.toArray,heap_alloc_new w _,m.EW (by simpa using hr)⟩
 exact ⟨_,h1,_,t,_,St.Ew ..,Eo ..,rfl⟩
theorem kh {st:St} {a:Act} (h:Ax X π st a w) (l:Nat) (t:TypeId) (τ:Ty) (cs:List AC) (us:List Value) (hr:Eb X w π st.heap cs us) (av:AV) (st':St)
  (he:mkVar T st l t τ cs=some (av,st')):
  ∃π',Ax X π' st' a (w.alloc (.cells us.toArray t))/\Ba X (w.alloc (.cells us.toArray t)) π' st'.heap av (.pointer (some ⟨w.heap.size,0,none⟩)):=by
 unfold mkVar at he
 split at he
 ·cases he
 rename_i bb
 have h1:Ax X (Ry π l (some (Real.one w.heap.size 0 0))) (st.new l (.var t (cs.map (Bs l)))) a (w.alloc (.cells us.toArray t)):=by
  refine h.replace l (by omega) (some (Real.one w.heap.size 0 0)) (.var t (cs.map (Bs l))) (World.grownBy_alloc w _ _) (λr eH=>by cases eH;exact ⟨rfl, .inr (Ao _),by simp [Real.one]⟩) λm=>?_
  exact ⟨_,rfl,rfl,us.toArray,heap_alloc_new w _,m.EW (by simpa using hr)⟩
 obtain ⟨zR,h2,k2⟩:=dD (T:=T) l t τ cs.length 0 _ _ (by omega) h1
 dsimp only at he
 split at he
 ·rename_i tid vs hl
  unfold St.at at hl
  simp only [Aa,Ab] at he
  obtain ⟨rfl,rfl⟩:=he
  have:=(k2 ⟨tid,vs,hl⟩).2
  rw [Eo] at this
  exact ⟨zR,h2,_,tid,vs,hl,this,rfl⟩
 ·cases he
end
end Go.Proofs.Ytfgfigkbgecfnaa
