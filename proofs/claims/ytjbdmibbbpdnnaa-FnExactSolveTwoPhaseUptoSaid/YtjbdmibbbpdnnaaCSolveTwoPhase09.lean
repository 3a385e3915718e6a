/-
  Part 10 of the proof that the statement FnExactSolveTwoPhase holds.
-/
import Derived.Test.YtjbdmibbbpdnnaaCSolveTwoPhase08
namespace Go.Proofs.Ytjbdmibbbpdnnaa
open Go.RowKit
section
variable {P:Program} {T:Tab} {X:Ctx} {w w':World} {π:Pi} {H:List (Nat×OB)}
theorem Kn (w:World) (row:Option Nat):w.grownBy w row:=⟨rfl,rfl,rfl,Nat.le_refl _,λ_ _ _=>rfl⟩
theorem wG (fr:Bool) {τ:Ty} (Nx:τ.Ac=false) (x:τ.den):Sq fr τ x= [.data fr τ x]:=by
 cases τ<;>first|rfl|simp [Ty.Ac] at Nx
theorem AN {S:Nat->Prop} {τ:Ty} {v:Value} {x:τ.den} (h:Cells w S τ [v] x):v.oneCell'=true:=Cells.plain τ [v] x h v (by simp)
theorem wH {fr:Bool} : ∀(τ:Ty) (us:List Value) (x:τ.den),Cells w (Bi X.w0.heap.size X.Sc π fr) τ us x->Dd X w π H (Sq fr τ x) us:=by
 have one: ∀(τ:Ty) (us:List Value) (x:τ.den),τ.Ac=false->Cells w (Bi X.w0.heap.size X.Sc π fr) τ us x->Dd X w π H (Sq fr τ x) us:=by
  intro τ us x Nx h
  rw [wG fr Nx]
  have hl:=Cells.len τ us x h
  have h1:τ.size=1:=by cases τ<;>simp_all [Ty.Ac,Ty.size]
  rw [h1] at hl
  obtain ⟨u,rfl⟩:=List.length_eq_one_iff.1 hl
  refine ⟨rfl,λi c hc=>?_⟩
  rcases i with _|i
  ·simp at hc;subst hc
   exact ⟨u,rfl,AN h,[u],h,by simp [Av,Nx]⟩
  ·simp at hc
 intro τ
 induction τ with
 |unit=>intro us x h;simp only [Cells] at h;subst h;exact ⟨rfl,λi c hc=>by simp [Sq] at hc⟩
 |pair a r ij eE=>
  intro us x h
  simp only [Cells] at h
  obtain ⟨c1,c2,rfl,h1,h2⟩:=h
  have r1:=ij c1 x.1 h1
  have r2:=eE c2 x.2 h2
  refine ⟨by simp [Sq,r1.1,r2.1],λi c hc=>?_⟩
  simp only [Sq] at hc
  by_cases hi:i<(Sq fr a x.1).length
  ·rw [List.getElem?_append_left hi] at hc
   obtain ⟨u,hu,h3⟩:=r1.2 i c hc
   exact ⟨u,by rw [List.getElem?_append_left (by rw [r1.1];exact hi)];exact hu,h3⟩
  ·rw [List.getElem?_append_right (by omega)] at hc
   obtain ⟨u,hu,h3⟩:=r2.2 _ c hc
   exact ⟨u,by rw [List.getElem?_append_right (by rw [r1.1];omega),r1.1];exact hu,h3⟩
 |_=>exact λus x h=>one _ us x rfl h
theorem cB {τ:Ty} {c:AV} {v:Value} {cs:List AC} (h:Ar X w π H c v) (hc:cellsOf τ c=some cs):
  ∃us:List Value,v.cells=us.toArray/\us.length=τ.size/\Dd X w π H cs us:=by
 have single: ∀a:AC,(if τ.Ac then none else some [a])=some cs->Ec X w π H a v->v.oneCell'=true->v.cells= #[v]-> ∃us:List Value,v.cells=us.toArray/\us.length=τ.size/\Dd X w π H cs us:=by
  intro a ha hr h1 h2
  split at ha
  ·cases ha
  ·rename_i hs
   simp only [Option.some.injEq] at ha;subst ha
   simp only [Bool.not_eq_true] at hs
   have h3:τ.size=1:=by cases τ<;>simp_all [Ty.Ac,Ty.size]
   refine ⟨[v],h2,by rw [h3];rfl,rfl,λi c hc=>?_⟩
   rcases i with _|i
   ·simp at hc;subst hc;exact ⟨v,rfl,h1,hr⟩
   ·simp at hc
 cases c with
 |agg ds=>
  simp only [cellsOf] at hc
  split at hc
  ·rename_i Fv
   simp only [Bool.and_eq_true,beq_iff_eq] at Fv
   simp only [Option.some.injEq] at hc;subst hc
   obtain ⟨us,rfl,hr⟩:=h
   exact ⟨us,rfl,by rw [hr.1,Fv.2],hr⟩
  ·cases hc
 |Vn fr Js x=>simp [cellsOf] at hc
 |Jq l=>simp [cellsOf] at hc
 | «at»a=>
  cases a with
  |data fr Js x=>
   simp only [cellsOf] at hc
   split at hc
   ·rename_i ht;subst ht
    simp only [Option.some.injEq] at hc;subst hc
    obtain ⟨us,h1,rfl⟩:=h
    exact ⟨us,Gu Js us x h1,Cells.len Js us x h1,wH Js us x h1⟩
   ·cases hc
  |undef=>simp [cellsOf] at hc
  |skip=>simp [cellsOf] at hc
  |Ie=>have hv:v= .slice none 0 0:=h;exact single .Ie hc h (by rw [hv];rfl) (by rw [hv];rfl)
  |Rr=>have hv:v= .pointer none:=h;exact single .Rr hc h (by rw [hv];rfl) (by rw [hv];rfl)
  |own l off len=>
   have h':=h
   obtain ⟨b,sz,n,_,_,_,ho⟩:=h
   have hv: ∃a l c,v= .slice a l c:=by
    cases hp:π l with
    |none=>rw [hp] at ho;obtain ⟨rfl,_⟩:=ho;exact ⟨_,_,_,rfl⟩
    |some r=>rw [hp] at ho;obtain ⟨ad,rfl,_⟩:=ho;exact ⟨_,_,_,rfl⟩
   obtain ⟨a1,l1,c1,hv⟩:=hv
   exact single _ hc h' (by rw [hv];rfl) (by rw [hv];rfl)
  |Eb l i=>
   have h':=h
   obtain ⟨r,tid,vs,_,_,hv⟩:=h
   exact single _ hc h' (by rw [hv];rfl) (by rw [hv];rfl)
  |Gh l i=>
   have h':=h
   obtain ⟨r,b,sz,n,_,_,_,_,hv⟩:=h
   exact single _ hc h' (by rw [hv];rfl) (by rw [hv];rfl)
  |sub l i c0=>
   have h':=h
   obtain ⟨r,b,sz,n,_,_,_,_,⟨_,a,n,m,hv⟩,_⟩:=h
   exact single _ hc h' (by rw [hv];rfl) (by rw [hv];rfl)
  |Gf l i c0=>
   have h':=h
   obtain ⟨r,b,n,sz,g,o,len,cap,_,_,_,_,_,_,hv⟩:=h
   exact single _ hc h' (by rw [hv];rfl) (by rw [hv];rfl)
  |clo f Cd=>
   have h':=h
   obtain ⟨us,hv,_⟩:=h
   exact single _ hc h' (by rw [hv];rfl) (by rw [hv];rfl)
  |Gt l=>
   have h':=h
   obtain ⟨r,vt,m,_,_,hv⟩:=h
   exact single _ hc h' (by rw [hv];rfl) (by rw [hv];rfl)
theorem pj {vs cs:List AC} {us ns:List Value} (h:Dd X w π H vs us) (h2:Dd X w π H cs ns) (i:Nat) (hi:i+cs.length<=vs.length):
  Dd X w π H (Bp vs i cs) (Bp us i ns):=by
 have e1:=h.1
 have e2:=h2.1
 refine ⟨by simp [Bp,e1,e2],λj c hc=>?_⟩
 unfold Bp at hc⊢
 have t1:(vs.take i).length=i:=by simp;omega
 have t2:(us.take i).length=i:=by simp;omega
 by_cases h3:j<i
 ·rw [List.append_assoc,List.getElem?_append_left (by omega),List.getElem?_take,if_pos h3] at hc
  obtain ⟨u,hu,h4⟩:=h.2 j c hc
  exact ⟨u,by rw [List.append_assoc,List.getElem?_append_left (by omega),List.getElem?_take,if_pos h3];exact hu,h4⟩
 ·by_cases h4:j<i+cs.length
  ·rw [List.append_assoc,List.getElem?_append_right (by omega),t1,List.getElem?_append_left (by omega)] at hc
   obtain ⟨u,hu,h5⟩:=h2.2 _ c hc
   exact ⟨u,by rw [List.append_assoc,List.getElem?_append_right (by omega),t2,List.getElem?_append_left (by omega)];exact hu,h5⟩
  ·rw [List.getElem?_append_right (by simp;omega),List.getElem?_drop] at hc
   obtain ⟨u,hu,h5⟩:=h.2 _ c hc
   refine ⟨u,?_,h5⟩
   rw [List.getElem?_append_right (by simp;omega),List.getElem?_drop]
   rw [<-hu]
   congr 1
   simp
   omega
theorem Iz (w:World) (g:Nat) (cs:Array Value):w.grownBy (w.setRow g cs) (some g):=
 ⟨rfl,rfl,rfl,by simp,λk _ hk=>setRow_other w g k cs (λe=>hk (by rw [e]))⟩
theorem Qk {t:TypeId} {τ:Ty} (ht:jL P T t τ) (g i:Nat) (v:Value) (us:List Value) (hv:v.cells=us.toArray) (hl:us.length=τ.size) (h1: ∀u∈us,u.oneCell'=true)
  (cur:Array Value) (tid:TypeId) (hg:w.heap[g]?=some (.cells cur tid (0,0))) (hle:i+us.length<=cur.size):
  (storeVar t ⟨g,i,none⟩ v).run P w= .ok () (w.setRow g (Bp cur.toList i us).toArray):=by
 unfold storeVar
 rw [hv]
 simp only [Sem.run_bind,ht.size,Result.andThen_ok,List.size_toArray,hl]
 have:=run_storeCells_at P g i tid us 0 cur w hg (by simpa using hle) h1
 simp only [Nat.add_zero] at this
 simpa [Bp,hl] using this
def cq (P:Program) (X:Ctx) (st':St) (a:Act) (w:World) (av:AV):Result Next->Prop
 | .ok (.value v) w'=> ∃π',Al X π' st' a w'/\Ar X w' π' st'.heap av v
 | .ok .skip w'=> ∃π',Al X π' st' a w'/\Ar X w' π' st'.heap av undef
 | .ok (.enter f args) w'=>w'=w/\Calls P f args w (λe pH=> ∃v,e= .returned v/\ ∃π',Al X π' st' a pH/\Ar X pH π' st'.heap av v)
 |_=>False
theorem uX (hT:Ch P T) {st:St} {a:Act} (h:Al X π st a w) {t:TypeId} {τ:Ty} (ht:T.ty t=some τ) {l i:Nat} {vp vx:Value} {x:AV} {tid:TypeId} {vs cs:List AC}
  (hp:Ar X w π st.heap (.at (.Eb l i)) vp) (hx:Ar X w π st.heap x vx) (hl:st.at l=some (.var tid vs)) (hc:cellsOf τ x=some cs) (hle:i+cs.length<=vs.length):
  ∃w',(Instr.storeAt t vp vx).run P w= .ok () w'/\Al X π (st.Gk l (.var tid (Bp vs i cs))) a w':=by
 obtain ⟨r,Ov,vR,h1,h2,rfl⟩:=hp
 unfold St.at at hl
 rw [hl] at h1;cases h1
 obtain ⟨r',h3,h4,cur,h5,h6⟩:=(h.1.heap l).Na hl
 rw [h2] at h3;cases h3
 obtain ⟨us,hv,hlu,hr⟩:=cB hx hc
 have tp:us.length=cs.length:=hr.1
 have cc:cur.toList.length=vs.length:=h6.1
 have YL: ∀u∈us,u.oneCell'=true:=by
  intro u hu
  obtain ⟨j,hj,rfl⟩:=List.getElem_of_mem hu
  obtain ⟨u',cg,h7,_⟩:=hr.2 j cs[j] (List.getElem?_eq_getElem (by omega))
  rw [List.getElem?_eq_getElem hj] at cg
  simp only [Option.some.injEq] at cg
  rw [cg];exact h7
 have Po:=Qk (P:=P) (w:=w) (hT.ty _ _ ht) r.g i vx us hv hlu YL cur tid h5 (by simp at cc;omega)
 refine ⟨_,by simp only [Instr.storeAt,Instr.sureAddr];simpa using Po,?_⟩
 refine h.set hl (b:= .var tid (Bp vs i cs)) trivial (by rw [h2];exact Iz w r.g _) λm=>?_
 refine ⟨r,h2,h4,_,setRow_heap w r.g cur _ tid _ h5,?_⟩
 have m1:=m.QX h6
 have m2:=m.QX hr
 simp only [List.map_id'] at m1 m2
 exact pj m1 m2 i hle
theorem Pl {α:Type} : ∀(l:List α) (i:Nat) (x:α),Ou l i x=l.set i x
 | [],i,x=>by cases i<;>rfl
 |_::_,0,_=>rfl
 |y::r,n+1,x=>by simp [Ou,Pl r n x]
def DA (st:St) (l:Nat):Prop:= ∃tid vs,Ag st.heap l=some (.var tid vs)
theorem cL (te:TypeId) (e:Ty) (w:World) (π:Pi) (H:List (Nat×OB)):Ay X w π H none (Ze T te e):=by
 unfold Ze
 split
 ·exact ⟨rfl,trivial⟩
 ·rfl
theorem iD (te:TypeId) (e:Ty): ∃sz,(Ze T te e).row=some (sz,0):=by
 unfold Ze
 split<;>exact ⟨_,rfl⟩
theorem dx {st:St} {a:Act} (h:Al X π st a w) {b:OB} (XF: ∀(w:World) (π:Pi) (H:List (Nat×OB)),Ay X w π H none b) {sz:Nat} (Rn:b.row=some (sz,0)) (key l i:Nat) (zK:key<Am):
  ∃π',Al X π' (Oq b key l i st) a w/\(DA (Oq b key l i st) l->DA st l/\π' l=π l):=by
 unfold Oq
 split
 ·rename_i tid vs hl
  split
  ·rename_i hi
   have h1:=h.replace (w':=w) key zK none b (Kn w _) (λr hr=>by cases hr) (λ_=>XF _ _ _)
   dsimp only
   unfold St.at at hl
   split
   ·rename_i Ov vR Hl
    unfold St.at at Hl
    have Hx:key≠l:=by
     intro e
     subst e
     rw [St.Dt] at Hl
     cases Hl
     cases Rn
    refine ⟨_,h1.set Hl (b:= .var Ov (Ou vR i (.own key 0 0))) trivial (Kn w _) λm=>?_,λ_=>⟨⟨tid,vs,hl⟩,Dj π none (Ne.symm Hx)⟩⟩
    obtain ⟨r,h3,h4,cur,h5,h6⟩:=(h1.1.heap l).Na Hl
    have m1:=m.QX h6
    simp only [List.map_id'] at m1
    refine ⟨r,h3,h4,cur,h5,?_⟩
    have Et:=St.Tl st key l b (Ne.symm Hx)
    rw [hl,Hl] at Et
    simp only [Option.map_some,Option.some.injEq,OB.map,OB.var.injEq] at Et
    obtain ⟨rfl,rfl⟩:=Et
    refine ⟨by rw [Xw];exact m1.1,λj c hc=>?_⟩
    rw [Pl,List.getElem?_set] at hc
    split at hc
    ·rename_i fv;subst fv
     split at hc
     ·simp only [Option.some.injEq] at hc;subst hc
      obtain ⟨u,hu,tA,wS⟩:=m1.2 i (.Ie) (by rw [List.getElem?_map,hi];rfl)
      refine ⟨u,hu,tA,b,sz,0,?_,Rn,Nat.le_refl _,?_⟩
      ·rw [show Ag ((st.new key b).Gk l _).heap key=Ag (st.new key b).heap key from Cr _ _ _ _ Hx]
       exact St.Dt st key _
      ·rw [Dk];exact ⟨wS,rfl,rfl⟩
     ·cases hc
    ·exact m1.2 j c hc
   ·rename_i hno
    refine ⟨_,h1,λ⟨t1,v1,hv⟩=>?_⟩
    exact absurd hv (hno t1 v1)
  ·unfold St.at at hl
   exact ⟨_,h,λhv=>⟨hv,rfl⟩⟩
 ·exact ⟨_,h,λhv=>⟨hv,rfl⟩⟩
theorem dy (l:Nat) (t:TypeId) (τ:Ty) {a:Act} : ∀(n i:Nat) (st:St) (π:Pi),100000+l*100+i+n<Am->Al X π st a w->
  ∃π',Al X π' (ba T l t τ n i st) a w/\(DA (ba T l t τ n i st) l->DA st l/\π' l=π l)
 |0,i,st,π,_,h=>⟨π,h,λhv=>⟨hv,rfl⟩⟩
 |n+1,i,st,π,Hm,h=>by
  unfold ba
  split
  ·rename_i te e _
   obtain ⟨sz,Rn⟩:=iD (T:=T) te e
   obtain ⟨Wy,h1,k1⟩:=dx h (cL te e) Rn (100000+l*100+i) l i (by omega)
   obtain ⟨JU,h2,k2⟩:=dy l t τ n (i+1) _ Wy (by omega) h1
   exact ⟨JU,h2,λhv=>⟨(k1 (k2 hv).1).1,(k2 hv).2.trans (k1 (k2 hv).1).2⟩⟩
  ·obtain ⟨JU,h2,k2⟩:=dy l t τ n (i+1) _ π (by omega) h
   exact ⟨JU,h2,k2⟩
theorem bb (l off:Nat) (t:TypeId) (τ:Ty) {a:Act} : ∀(n i:Nat) (st:St) (π:Pi),100000+l*100+(off+i+n)<Am->Al X π st a w-> ∃π',Al X π' (a5 T l off t τ n i st) a w
 |0,i,st,π,_,h=>⟨π,h⟩
 |n+1,i,st,π,Hm,h=>by
  unfold a5
  split
  ·rename_i te e _
   obtain ⟨Wy,h1,_⟩:=dx h (cL te e) (iD (T:=T) te e).choose_spec (100000+l*100+(off+i)) l (off+i) (by omega)
   exact bb l off t τ n (i+1) _ Wy (by omega) h1
  ·exact bb l off t τ n (i+1) _ π (by omega) h
theorem lI {st:St} {a:Act} (h:Al X π st a w) (l:Nat) (t:TypeId) (τ:Ty) (cs:List AC) (us:List Value) (hr:Dd X w π st.heap cs us) (av:AV) (st':St)
  (he:mkVar T st l t τ cs=some (av,st')):
  ∃π',Al X π' st' a (w.alloc (.cells us.toArray t))/\Ar X (w.alloc (.cells us.toArray t)) π' st'.heap av (.pointer (some ⟨w.heap.size,0,none⟩)):=by
 unfold mkVar at he
 split at he
 ·cases he
 rename_i Zs
 have h1:Al X (Qt π l (some (Real.one w.heap.size 0 0))) (st.new l (.var t (cs.map (Be l)))) a (w.alloc (.cells us.toArray t)):=by
  refine h.replace l (by omega) (some (Real.one w.heap.size 0 0)) (.var t (cs.map (Be l))) (World.grownBy_alloc w _ _) (λr gE=>by cases gE;exact ⟨rfl, .inr (Nat.le_refl _),by simp [Real.one]⟩) λm=>?_
  exact ⟨_,rfl,rfl,us.toArray,heap_alloc_new w _,m.QX (by simpa using hr)⟩
 obtain ⟨JU,h2,k2⟩:=dy (T:=T) l t τ cs.length 0 _ _ (by omega) h1
 dsimp only at he
 split at he
 ·rename_i tid vs hl
  unfold St.at at hl
  simp only [Option.some.injEq,Prod.mk.injEq] at he
  obtain ⟨rfl,rfl⟩:=he
  have:=(k2 ⟨tid,vs,hl⟩).2
  rw [Dk] at this
  exact ⟨JU,h2,_,tid,vs,hl,this,rfl⟩
 ·cases he
end
end Go.Proofs.Ytjbdmibbbpdnnaa
