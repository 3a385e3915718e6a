/-
  Part 10 of the proof that the statement FnExactLowerBounds holds.
-/
import Derived.Test.YtfolipnappekaaaGreatCLowerBounds08
namespace Go.Proofs.YtfolipnappekaaaGreat
open Go.RowKit
section
variable {P:Program} {T:Tab} {X:Ctx} {w w':World} {π:Pi} {H:List (Nat×OB)}
theorem Kg (w:World) (row:Option Nat):w.grownBy w row:=⟨rfl,rfl,rfl,Nat.le_refl _,λ_ _ _=>rfl⟩
theorem xb (fr:Bool) {τ:Ty} (Nk:τ.Ab=false) (x:τ.den):Me fr τ x= [.data fr τ x]:=by
 cases τ<;>first|rfl|simp [Ty.Ab] at Nk
theorem BX {S:Nat->Prop} {τ:Ty} {v:Value} {x:τ.den} (h:Cells w S τ [v] x):v.oneCell'=true:=Cells.plain τ [v] x h v (by simp)
theorem lk {fr:Bool} : ∀(τ:Ty) (us:List Value) (x:τ.den),Cells w (Bg X.w0.heap.size X.Sc π fr) τ us x->Cy X w π H (Me fr τ x) us:=by
 have one: ∀(τ:Ty) (us:List Value) (x:τ.den),τ.Ab=false->Cells w (Bg X.w0.heap.size X.Sc π fr) τ us x->Cy X w π H (Me fr τ x) us:=by
  intro τ us x Nk h
  rw [xb fr Nk]
  have hl:=Cells.len τ us x h
  have h1:τ.size=1:=by cases τ<;>simp_all [Ty.Ab,Ty.size]
  rw [h1] at hl
  obtain ⟨u,rfl⟩:=List.length_eq_one_iff.1 hl
  refine ⟨rfl,λi c hc=>?_⟩
  rcases i with _|i
  ·simp at hc;subst hc
   exact ⟨u,rfl,BX h,[u],h,by simp [As,Nk]⟩
  ·simp at hc
 intro τ
 induction τ with
 |unit=>intro us x h;simp only [Cells] at h;subst h;exact ⟨rfl,λi c hc=>by simp [Me] at hc⟩
 |pair a r hJ er=>
  intro us x h
  simp only [Cells] at h
  obtain ⟨c1,c2,rfl,h1,h2⟩:=h
  have r1:=hJ c1 x.1 h1
  have r2:=er c2 x.2 h2
  refine ⟨by simp [Me,r1.1,r2.1],λi c hc=>?_⟩
  simp only [Me] at hc
  by_cases hi:i<(Me fr a x.1).length
  ·rw [List.getElem?_append_left hi] at hc
   obtain ⟨u,hu,h3⟩:=r1.2 i c hc
   exact ⟨u,by rw [List.getElem?_append_left (by rw [r1.1];exact hi)];exact hu,h3⟩
  ·rw [List.getElem?_append_right (by omega)] at hc
   obtain ⟨u,hu,h3⟩:=r2.2 _ c hc
   exact ⟨u,by rw [List.getElem?_append_right (by rw [r1.1];omega),r1.1];exact hu,h3⟩
 |_=>exact λus x h=>one _ us x rfl h
theorem cv {τ:Ty} {c:AV} {v:Value} {cs:List AC} (h:An X w π H c v) (hc:cellsOf τ c=some cs):
  ∃us:List Value,v.cells=us.toArray/\us.length=τ.size/\Cy X w π H cs us:=by
 have single: ∀a:AC,(if τ.Ab then none else some [a])=some cs->Dw X w π H a v->v.oneCell'=true->v.cells= #[v]-> ∃us:List Value,v.cells=us.toArray/\us.length=τ.size/\Cy X w π H cs us:=by
  intro a ha hr h1 h2
  split at ha
  ·cases ha
  ·rename_i hs
   simp only [Option.some.injEq] at ha;subst ha
   simp only [Bool.not_eq_true] at hs
   have h3:τ.size=1:=by cases τ<;>simp_all [Ty.Ab,Ty.size]
   refine ⟨[v],h2,by rw [h3];rfl,rfl,λi c hc=>?_⟩
   rcases i with _|i
   ·simp at hc;subst hc;exact ⟨v,rfl,h1,hr⟩
   ·simp at hc
 cases c with
 |agg ds=>
  simp only [cellsOf] at hc
  split at hc
  ·rename_i Fe
   simp only [Bool.and_eq_true,beq_iff_eq] at Fe
   simp only [Option.some.injEq] at hc;subst hc
   obtain ⟨us,rfl,hr⟩:=h
   exact ⟨us,rfl,by rw [hr.1,Fe.2],hr⟩
  ·cases hc
 |Vl fr Jc x=>simp [cellsOf] at hc
 |Ib l=>simp [cellsOf] at hc
 | «at»a=>
  cases a with
  |data fr Jc x=>
   simp only [cellsOf] at hc
   split at hc
   ·rename_i ht;subst ht
    simp only [Option.some.injEq] at hc;subst hc
    obtain ⟨us,h1,rfl⟩:=h
    exact ⟨us,Gk Jc us x h1,Cells.len Jc us x h1,lk Jc us x h1⟩
   ·cases hc
  |undef=>simp [cellsOf] at hc
  |skip=>simp [cellsOf] at hc
  |Hp=>have hv:v= .slice none 0 0:=h;exact single .Hp hc h (by rw [hv];rfl) (by rw [hv];rfl)
  |Qd=>have hv:v= .pointer none:=h;exact single .Qd hc h (by rw [hv];rfl) (by rw [hv];rfl)
  |own l off len=>
   have h':=h
   obtain ⟨b,sz,n,_,_,_,ho⟩:=h
   have hv: ∃a l c,v= .slice a l c:=by
    cases hp:π l with
    |none=>rw [hp] at ho;obtain ⟨rfl,_⟩:=ho;exact ⟨_,_,_,rfl⟩
    |some r=>rw [hp] at ho;obtain ⟨ad,rfl,_⟩:=ho;exact ⟨_,_,_,rfl⟩
   obtain ⟨a1,l1,c1,hv⟩:=hv
   exact single _ hc h' (by rw [hv];rfl) (by rw [hv];rfl)
  |Dv l i=>
   have h':=h
   obtain ⟨r,tid,vs,_,_,hv⟩:=h
   exact single _ hc h' (by rw [hv];rfl) (by rw [hv];rfl)
  |Fu l i=>
   have h':=h
   obtain ⟨r,b,sz,n,_,_,_,_,hv⟩:=h
   exact single _ hc h' (by rw [hv];rfl) (by rw [hv];rfl)
  |sub l i c0=>
   have h':=h
   obtain ⟨r,b,sz,n,_,_,_,_,⟨_,a,n,m,hv⟩,_⟩:=h
   exact single _ hc h' (by rw [hv];rfl) (by rw [hv];rfl)
  |Fp l i c0=>
   have h':=h
   obtain ⟨r,b,n,sz,g,o,len,cap,_,_,_,_,_,_,hv⟩:=h
   exact single _ hc h' (by rw [hv];rfl) (by rw [hv];rfl)
  |clo f Bv=>
   have h':=h
   obtain ⟨us,hv,_⟩:=h
   exact single _ hc h' (by rw [hv];rfl) (by rw [hv];rfl)
  |Ga l=>
   have h':=h
   obtain ⟨r,vt,m,_,_,hv⟩:=h
   exact single _ hc h' (by rw [hv];rfl) (by rw [hv];rfl)
theorem pJ {vs cs:List AC} {us ns:List Value} (h:Cy X w π H vs us) (h2:Cy X w π H cs ns) (i:Nat) (hi:i+cs.length<=vs.length):
  Cy X w π H (Bp vs i cs) (Bp us i ns):=by
 have e1:=h.1
 have e2:=h2.1
 refine ⟨by simp [Bp,e1,e2],λj c hc=>?_⟩
 unfold Bp at hc⊢
 have t1:(vs.take i).length=i:=by simp;omega
 have t2:(us.take i).length=i:=by simp;omega
 by_cases h3:j<i
 ·rw [List.append_assoc,List.getElem?_append_left (by omega),List.getElem?_take,if_pos h3] at hc
  obtain ⟨u,hu,h4⟩:=h.2 j c hc
  exact ⟨u,by rw [List.append_assoc,List.getElem?_append_left (by omega),List.getElem?_take,if_pos h3];exact hu,h4⟩
 ·by_cases h4:j<i+cs.length
  ·rw [List.append_assoc,List.getElem?_append_right (by omega),t1,List.getElem?_append_left (by omega)] at hc
   obtain ⟨u,hu,h5⟩:=h2.2 _ c hc
   exact ⟨u,by rw [List.append_assoc,List.getElem?_append_right (by omega),t2,List.getElem?_append_left (by omega)];exact hu,h5⟩
  ·rw [List.getElem?_append_right (by simp;omega),List.getElem?_drop] at hc
   obtain ⟨u,hu,h5⟩:=h.2 _ c hc
   refine ⟨u,?_,h5⟩
   rw [List.getElem?_append_right (by simp;omega),List.getElem?_drop]
   rw [<-hu]
   congr 1
   simp
   omega
theorem Ip (w:World) (g:Nat) (cs:Array Value):w.grownBy (w.setRow g cs) (some g):=
 ⟨rfl,rfl,rfl,by simp,λk _ hk=>setRow_other w g k cs (λe=>hk (by rw [e]))⟩
theorem Pv {t:TypeId} {τ:Ty} (ht:jL P T t τ) (g i:Nat) (v:Value) (us:List Value) (hv:v.cells=us.toArray) (hl:us.length=τ.size) (h1: ∀u∈us,u.oneCell'=true)
  (cur:Array Value) (tid:TypeId) (hg:w.heap[g]?=some (.cells cur tid (0,0))) (hle:i+us.length<=cur.size):
  (storeVar t ⟨g,i,none⟩ v).run P w= .ok () (w.setRow g (Bp cur.toList i us).toArray):=by
 unfold storeVar
 rw [hv]
 simp only [Sem.run_bind,ht.size,Result.andThen_ok,List.size_toArray,hl]
 have:=run_storeCells_at P g i tid us 0 cur w hg (by simpa using hle) h1
 simp only [Nat.add_zero] at this
 simpa [Bp,hl] using this
def cm (P:Program) (X:Ctx) (st':St) (a:Act) (w:World) (av:AV):Result Next->Prop
 | .ok (.value v) w'=> ∃π',Al X π' st' a w'/\An X w' π' st'.heap av v
 | .ok .skip w'=> ∃π',Al X π' st' a w'/\An X w' π' st'.heap av undef
 | .ok (.enter f args) w'=>w'=w/\Calls P f args w (λe pZ=> ∃v,e= .returned v/\ ∃π',Al X π' st' a pZ/\An X pZ π' st'.heap av v)
 |_=>False
theorem vP (hT:Ca P T) {st:St} {a:Act} (h:Al X π st a w) {t:TypeId} {τ:Ty} (ht:T.ty t=some τ) {l i:Nat} {vp vx:Value} {x:AV} {tid:TypeId} {vs cs:List AC}
  (hp:An X w π st.heap (.at (.Dv l i)) vp) (hx:An X w π st.heap x vx) (hl:st.at l=some (.var tid vs)) (hc:cellsOf τ x=some cs) (hle:i+cs.length<=vs.length):
  ∃w',(Instr.storeAt t vp vx).run P w= .ok () w'/\Al X π (st.Fo l (.var tid (Bp vs i cs))) a w':=by
 obtain ⟨r,Of,vs',h1,h2,rfl⟩:=hp
 unfold St.at at hl
 rw [hl] at h1;cases h1
 obtain ⟨r',h3,h4,cur,h5,h6⟩:=(h.1.heap l).Ku hl
 rw [h2] at h3;cases h3
 obtain ⟨us,hv,hlu,hr⟩:=cv hx hc
 have me:us.length=cs.length:=hr.1
 have c9:cur.toList.length=vs.length:=h6.1
 have YT: ∀u∈us,u.oneCell'=true:=by
  intro u hu
  obtain ⟨j,hj,rfl⟩:=List.getElem_of_mem hu
  obtain ⟨u',cb,h7,_⟩:=hr.2 j cs[j] (List.getElem?_eq_getElem (by omega))
  rw [List.getElem?_eq_getElem hj] at cb
  simp only [Option.some.injEq] at cb
  rw [cb];exact h7
 have Pa:=Pv (P:=P) (w:=w) (hT.ty _ _ ht) r.g i vx us hv hlu YT cur tid h5 (by simp at c9;omega)
 refine ⟨_,by simp only [Instr.storeAt,Instr.sureAddr];simpa using Pa,?_⟩
 refine h.set hl (b:= .var tid (Bp vs i cs)) trivial (by rw [h2];exact Ip w r.g _) λm=>?_
 refine ⟨r,h2,h4,_,setRow_heap w r.g cur _ tid _ h5,?_⟩
 have m1:=m.RQ h6
 have m2:=m.RQ hr
 simp only [List.map_id'] at m1 m2
 exact pJ m1 m2 i hle
theorem Oy {α:Type} : ∀(l:List α) (i:Nat) (x:α),Od l i x=l.set i x
 | [],i,x=>by cases i<;>rfl
 |_::_,0,_=>rfl
 |y::r,n+1,x=>by simp [Od,Oy r n x]
def EP (st:St) (l:Nat):Prop:= ∃tid vs,Ad st.heap l=some (.var tid vs)
theorem cG (te:TypeId) (e:Ty) (w:World) (π:Pi) (H:List (Nat×OB)):Aw X w π H none (Zd T te e):=by
 unfold Zd
 split
 ·exact ⟨rfl,trivial⟩
 ·rfl
theorem iv (te:TypeId) (e:Ty): ∃sz,(Zd T te e).row=some (sz,0):=by
 unfold Zd
 split<;>exact ⟨_,rfl⟩
theorem dq {st:St} {a:Act} (h:Al X π st a w) {b:OB} (XR: ∀(w:World) (π:Pi) (H:List (Nat×OB)),Aw X w π H none b) {sz:Nat} (Gh:b.row=some (sz,0)) (key l i:Nat) (MS:key<Ak):
  ∃π',Al X π' (Nz b key l i st) a w/\(EP (Nz b key l i st) l->EP st l/\π' l=π l):=by
 unfold Nz
 split
 ·rename_i tid vs hl
  split
  ·rename_i hi
   have h1:=h.replace (w':=w) key MS none b (Kg w _) (λr hr=>by cases hr) (λ_=>XR _ _ _)
   dsimp only
   unfold St.at at hl
   split
   ·rename_i Of vs' Ge
    unfold St.at at Ge
    have Ma:key≠l:=by
     intro e
     subst e
     rw [St.Dr] at Ge
     cases Ge
     cases Gh
    refine ⟨_,h1.set Ge (b:= .var Of (Od vs' i (.own key 0 0))) trivial (Kg w _) λm=>?_,λ_=>⟨⟨tid,vs,hl⟩,Cw π none (Ne.symm Ma)⟩⟩
    obtain ⟨r,h3,h4,cur,h5,h6⟩:=(h1.1.heap l).Ku Ge
    have m1:=m.RQ h6
    simp only [List.map_id'] at m1
    refine ⟨r,h3,h4,cur,h5,?_⟩
    have Fa:=St.Sz st key l b (Ne.symm Ma)
    rw [hl,Ge] at Fa
    simp only [Option.map_some,Option.some.injEq,OB.map,OB.var.injEq] at Fa
    obtain ⟨rfl,rfl⟩:=Fa
    refine ⟨by rw [Xw];exact m1.1,λj c hc=>?_⟩
    rw [Oy,List.getElem?_set] at hc
    split at hc
    ·rename_i jI;subst jI
     split at hc
     ·simp only [Option.some.injEq] at hc;subst hc
      obtain ⟨u,hu,HK,xr⟩:=m1.2 i (.Hp) (by rw [List.getElem?_map,hi];rfl)
      refine ⟨u,hu,HK,b,sz,0,?_,Gh,Nat.le_refl _,?_⟩
      ·rw [show Ad ((st.new key b).Fo l _).heap key=Ad (st.new key b).heap key from Bs _ _ _ _ Ma]
       exact St.Dr st key _
      ·rw [Db];exact ⟨xr,rfl,rfl⟩
     ·cases hc
    ·exact m1.2 j c hc
   ·rename_i SO
    refine ⟨_,h1,λ⟨t1,v1,hv⟩=>?_⟩
    exact absurd hv (SO t1 v1)
  ·unfold St.at at hl
   exact ⟨_,h,λhv=>⟨hv,rfl⟩⟩
 ·exact ⟨_,h,λhv=>⟨hv,rfl⟩⟩
theorem dr (l:Nat) (t:TypeId) (τ:Ty) {a:Act} : ∀(n i:Nat) (st:St) (π:Pi),100000+l*100+i+n<Ak->Al X π st a w->
  ∃π',Al X π' (aY T l t τ n i st) a w/\(EP (aY T l t τ n i st) l->EP st l/\π' l=π l)
 |0,i,st,π,_,h=>⟨π,h,λhv=>⟨hv,rfl⟩⟩
 |n+1,i,st,π,Fc,h=>by
  unfold aY
  split
  ·rename_i te e _
   obtain ⟨sz,Gh⟩:=iv (T:=T) te e
   obtain ⟨Wv,h1,k1⟩:=dq h (cG te e) Gh (100000+l*100+i) l i (by omega)
   obtain ⟨KY,h2,k2⟩:=dr l t τ n (i+1) _ Wv (by omega) h1
   exact ⟨KY,h2,λhv=>⟨(k1 (k2 hv).1).1,(k2 hv).2.trans (k1 (k2 hv).1).2⟩⟩
  ·obtain ⟨KY,h2,k2⟩:=dr l t τ n (i+1) _ π (by omega) h
   exact ⟨KY,h2,k2⟩
theorem aZ (l off:Nat) (t:TypeId) (τ:Ty) {a:Act} : ∀(n i:Nat) (st:St) (π:Pi),100000+l*100+(off+i+n)<Ak->Al X π st a w-> ∃π',Al X π' (Zx T l off t τ n i st) a w
 |0,i,st,π,_,h=>⟨π,h⟩
 |n+1,i,st,π,Fc,h=>by
  unfold Zx
  split
  ·rename_i te e _
   obtain ⟨Wv,h1,_⟩:=dq h (cG te e) (iv (T:=T) te e).choose_spec (100000+l*100+(off+i)) l (off+i) (by omega)
   exact aZ l off t τ n (i+1) _ Wv (by omega) h1
  ·exact aZ l off t τ n (i+1) _ π (by omega) h
theorem lI {st:St} {a:Act} (h:Al X π st a w) (l:Nat) (t:TypeId) (τ:Ty) (cs:List AC) (us:List Value) (hr:Cy X w π st.heap cs us) (av:AV) (st':St)
  (he:mkVar T st l t τ cs=some (av,st')):
  ∃π',Al X π' st' a (w.alloc (.cells us.toArray t))/\An X (w.alloc (.cells us.toArray t)) π' st'.heap av (.pointer (some ⟨w.heap.size,0,none⟩)):=by
 unfold mkVar at he
 split at he
 ·cases he
 rename_i Tl
 have h1:Al X (Qb π l (some (Real.one w.heap.size 0 0))) (st.new l (.var t (cs.map (Bc l)))) a (w.alloc (.cells us.toArray t)):=by
  refine h.replace l (by omega) (some (Real.one w.heap.size 0 0)) (.var t (cs.map (Bc l))) (World.grownBy_alloc w _ _) (λr al=>by cases al;exact ⟨rfl, .inr (Nat.le_refl _),by simp [Real.one]⟩) λm=>?_
  exact ⟨_,rfl,rfl,us.toArray,heap_alloc_new w _,m.RQ (by simpa using hr)⟩
 obtain ⟨KY,h2,k2⟩:=dr (T:=T) l t τ cs.length 0 _ _ (by omega) h1
 dsimp only at he
 split at he
 ·rename_i tid vs hl
  unfold St.at at hl
  simp only [Option.some.injEq,Prod.mk.injEq] at he
  obtain ⟨rfl,rfl⟩:=he
  have:=(k2 ⟨tid,vs,hl⟩).2
  rw [Db] at this
  exact ⟨KY,h2,_,tid,vs,hl,this,rfl⟩
 ·cases he
end
end Go.Proofs.YtfolipnappekaaaGreat
