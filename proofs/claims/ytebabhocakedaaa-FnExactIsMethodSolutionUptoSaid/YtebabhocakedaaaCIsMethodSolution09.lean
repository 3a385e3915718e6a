/-
  Part 10 of the proof that the statement FnExactIsMethodSolution holds.
-/
import Derived.Test.YtebabhocakedaaaCIsMethodSolution08
namespace Go.Proofs.Ytebabhocakedaaa
open Go.RowKit
section
variable {P:Program} {T:Tab} {X:Ctx} {w w':World} {π:Pi} {H:List (Nat×OB)}
theorem Ii (w:World) (row:Option Nat):w.grownBy w row:=⟨rfl,rfl,rfl,Nat.le_refl _,fun _ _ _=>rfl⟩
theorem As2 (fr:Bool) {τ:Ty} (hτ:τ.Ab=false) (x:τ.den):Ny fr τ x= [.data fr τ x]:=by
 cases τ<;>first|rfl|simp [Ty.Ab] at hτ
theorem Aw5 {S:Nat→Prop} {τ:Ty} {v:Value} {x:τ.den} (h:Cells w S τ [v] x):v.oneCell'=true:=Cells.plain τ [v] x h v (by simp)
theorem As3 {fr:Bool} : ∀(τ:Ty) (us:List Value) (x:τ.den),Cells w (Bb X.w0.heap.size X.Sc π fr) τ us x→Cl X w π H (Ny fr τ x) us:=by
 have one: ∀(τ:Ty) (us:List Value) (x:τ.den),τ.Ab=false→Cells w (Bb X.w0.heap.size X.Sc π fr) τ us x→Cl X w π H (Ny fr τ x) us:=by
  intro τ us x hτ h
  rw [As2 fr hτ]
  have hl:=Cells.len τ us x h
  have h1:τ.size=1:=by cases τ<;>simp_all [Ty.Ab,Ty.size]
  rw [h1] at hl
  obtain ⟨u,rfl⟩:=List.length_eq_one_iff.1 hl
  refine ⟨rfl,fun i c hc=>?_⟩
  rcases i with _|i
  ·simp at hc;subst hc
   exact ⟨u,rfl,Aw5 h,[u],h,by simp [Ap,hτ]⟩
  ·simp at hc
 intro τ
 induction τ with
 |unit=>intro us x h;simp only [Cells] at h;subst h;exact ⟨rfl,fun i c hc=>by simp [Ny] at hc⟩
 |pair a r iha ihr=>
  intro us x h
  simp only [Cells] at h
  obtain ⟨c1,c2,rfl,h1,h2⟩:=h
  have r1:=iha c1 x.1 h1
  have r2:=ihr c2 x.2 h2
  refine ⟨by simp [Ny,r1.1,r2.1],fun i c hc=>?_⟩
  simp only [Ny] at hc
  by_cases hi:i<(Ny fr a x.1).length
  ·rw [List.getElem?_append_left hi] at hc
   obtain ⟨u,hu,h3⟩:=r1.2 i c hc
   exact ⟨u,by rw [List.getElem?_append_left (by rw [r1.1];exact hi)];exact hu,h3⟩
  ·rw [List.getElem?_append_right (by omega)] at hc
   obtain ⟨u,hu,h3⟩:=r2.2 _ c hc
   exact ⟨u,by rw [List.getElem?_append_right (by rw [r1.1];omega),r1.1];exact hu,h3⟩
 |_=>exact fun us x h=>one _ us x rfl h
theorem Yb {τ:Ty} {c:AV} {v:Value} {cs:List AC} (h:Ai X w π H c v) (hc:cellsOf τ c=some cs):
  ∃us:List Value,v.cells=us.toArray∧us.length=τ.size∧Cl X w π H cs us:=by
 have single: ∀a:AC,(if τ.Ab then none else some [a])=some cs→Df X w π H a v→v.oneCell'=true→v.cells= #[v]→ ∃us:List Value,v.cells=us.toArray∧us.length=τ.size∧Cl X w π H cs us:=by
  intro a ha hr h1 h2
  split at ha
  ·cases ha
  ·rename_i hs
   simp only [Option.some.injEq] at ha;subst ha
   simp only [Bool.not_eq_true] at hs
   have h3:τ.size=1:=by cases τ<;>simp_all [Ty.Ab,Ty.size]
   refine ⟨[v],h2,by rw [h3];rfl,rfl,fun i c hc=>?_⟩
   rcases i with _|i
   ·simp at hc;subst hc;exact ⟨v,rfl,h1,hr⟩
   ·simp at hc
 cases c with
 |agg ds=>
  simp only [cellsOf] at hc
  split at hc
  ·rename_i hcond
   simp only [Bool.and_eq_true,beq_iff_eq] at hcond
   simp only [Option.some.injEq] at hc;subst hc
   obtain ⟨us,rfl,hr⟩:=h
   exact ⟨us,rfl,by rw [hr.1,hcond.2],hr⟩
  ·cases hc
 |tup fr τ' x=>simp [cellsOf] at hc
 |tupc l=>simp [cellsOf] at hc
 | «at»a=>
  cases a with
  |data fr τ' x=>
   simp only [cellsOf] at hc
   split at hc
   ·rename_i ht;subst ht
    simp only [Option.some.injEq] at hc;subst hc
    obtain ⟨us,h1,rfl⟩:=h
    exact ⟨us,Fe τ' us x h1,Cells.len τ' us x h1,As3 τ' us x h1⟩
   ·cases hc
  |undef=>simp [cellsOf] at hc
  |skip=>simp [cellsOf] at hc
  |nilv=>have hv:v= .slice none 0 0:=h;exact single .nilv hc h (by rw [hv];rfl) (by rw [hv];rfl)
  |nilp=>have hv:v= .pointer none:=h;exact single .nilp hc h (by rw [hv];rfl) (by rw [hv];rfl)
  |own l off len=>
   have h':=h
   obtain ⟨b,sz,n,_,_,_,ho⟩:=h
   have hv: ∃a l c,v= .slice a l c:=by
    cases hp:π l with
    |none=>rw [hp] at ho;obtain ⟨rfl,_⟩:=ho;exact ⟨_,_,_,rfl⟩
    |some r=>rw [hp] at ho;obtain ⟨ad,rfl,_⟩:=ho;exact ⟨_,_,_,rfl⟩
   obtain ⟨a1,l1,c1,hv⟩:=hv
   exact single _ hc h' (by rw [hv];rfl) (by rw [hv];rfl)
  |vptr l i=>
   have h':=h
   obtain ⟨r,tid,vs,_,_,hv⟩:=h
   exact single _ hc h' (by rw [hv];rfl) (by rw [hv];rfl)
  |eptr l i=>
   have h':=h
   obtain ⟨r,b,sz,n,_,_,_,_,hv⟩:=h
   exact single _ hc h' (by rw [hv];rfl) (by rw [hv];rfl)
  |sub l i c0=>
   have h':=h
   obtain ⟨r,b,sz,n,_,_,_,_,⟨_,a,n,m,hv⟩,_⟩:=h
   exact single _ hc h' (by rw [hv];rfl) (by rw [hv];rfl)
  |sptr l i c0=>
   have h':=h
   obtain ⟨r,b,n,sz,g,o,len,cap,_,_,_,_,_,_,hv⟩:=h
   exact single _ hc h' (by rw [hv];rfl) (by rw [hv];rfl)
  |clo f caps=>
   have h':=h
   obtain ⟨us,hv,_⟩:=h
   exact single _ hc h' (by rw [hv];rfl) (by rw [hv];rfl)
  |mapr l=>
   have h':=h
   obtain ⟨r,vt,m,_,_,hv⟩:=h
   exact single _ hc h' (by rw [hv];rfl) (by rw [hv];rfl)
theorem Ako {vs cs:List AC} {us ns:List Value} (h:Cl X w π H vs us) (h2:Cl X w π H cs ns) (i:Nat) (hi:i+cs.length≤vs.length):
  Cl X w π H (Bl vs i cs) (Bl us i ns):=by
 have e1:=h.1
 have e2:=h2.1
 refine ⟨by simp [Bl,e1,e2],fun j c hc=>?_⟩
 unfold Bl at hc⊢
 have t1:(vs.take i).length=i:=by simp;omega
 have t2:(us.take i).length=i:=by simp;omega
 by_cases h3:j<i
 ·rw [List.append_assoc,List.getElem?_append_left (by omega),List.getElem?_take,if_pos h3] at hc
  obtain ⟨u,hu,h4⟩:=h.2 j c hc
  exact ⟨u,by rw [List.append_assoc,List.getElem?_append_left (by omega),List.getElem?_take,if_pos h3];exact hu,h4⟩
 ·by_cases h4:j<i+cs.length
  ·rw [List.append_assoc,List.getElem?_append_right (by omega),t1,List.getElem?_append_left (by omega)] at hc
   obtain ⟨u,hu,h5⟩:=h2.2 _ c hc
   exact ⟨u,by rw [List.append_assoc,List.getElem?_append_right (by omega),t2,List.getElem?_append_left (by omega)];exact hu,h5⟩
  ·rw [List.getElem?_append_right (by simp;omega),List.getElem?_drop] at hc
   obtain ⟨u,hu,h5⟩:=h.2 _ c hc
   refine ⟨u,?_,h5⟩
   rw [List.getElem?_append_right (by simp;omega),List.getElem?_drop]
   rw [←hu]
   congr 1
   simp
   omega
theorem Gw (w:World) (g:Nat) (cs:Array Value):w.grownBy (w.setRow g cs) (some g):=
 ⟨rfl,rfl,rfl,by simp,fun k _ hk=>setRow_other w g k cs (fun e=>hk (by rw [e]))⟩
theorem Ml {t:TypeId} {τ:Ty} (ht:Ahh P T t τ) (g i:Nat) (v:Value) (us:List Value) (hv:v.cells=us.toArray) (hl:us.length=τ.size) (h1: ∀u∈us,u.oneCell'=true)
  (cur:Array Value) (tid:TypeId) (hg:w.heap[g]?=some (.cells cur tid (0,0))) (hle:i+us.length≤cur.size):
  (storeVar t ⟨g,i,none⟩ v).run P w= .ok () (w.setRow g (Bl cur.toList i us).toArray):=by
 unfold storeVar
 rw [hv]
 simp only [Sem.run_bind,ht.size,Result.andThen_ok,List.size_toArray,hl]
 have:=run_storeCells_at P g i tid us 0 cur w hg (by simpa using hle) h1
 simp only [Nat.add_zero] at this
 simpa [Bl,hl] using this
def Xs (P:Program) (X:Ctx) (st':St) (a:Act) (w:World) (av:AV):Result Next→Prop
 | .ok (.value v) w'=> ∃π',Af X π' st' a w'∧Ai X w' π' st'.heap av v
 | .ok .skip w'=> ∃π',Af X π' st' a w'∧Ai X w' π' st'.heap av undef
 | .ok (.enter f args) w'=>w'=w∧Calls P f args w (fun e w''=> ∃v,e= .returned v∧ ∃π',Af X π' st' a w''∧Ai X w'' π' st'.heap av v)
 |_=>False
theorem Aql (hT:Bt P T) {st:St} {a:Act} (h:Af X π st a w) {t:TypeId} {τ:Ty} (ht:T.ty t=some τ) {l i:Nat} {vp vx:Value} {x:AV} {tid:TypeId} {vs cs:List AC}
  (hp:Ai X w π st.heap (.at (.vptr l i)) vp) (hx:Ai X w π st.heap x vx) (hl:st.at l=some (.var tid vs)) (hc:cellsOf τ x=some cs) (hle:i+cs.length≤vs.length):
  ∃w',(Instr.storeAt t vp vx).run P w= .ok () w'∧Af X π (st.Ew l (.var tid (Bl vs i cs))) a w':=by
 obtain ⟨r,tid',vs',h1,h2,rfl⟩:=hp
 unfold St.at at hl
 rw [hl] at h1;cases h1
 obtain ⟨r',h3,h4,cur,h5,h6⟩:=(h.1.heap l).blk hl
 rw [h2] at h3;cases h3
 obtain ⟨us,hv,hlu,hr⟩:=Yb hx hc
 have hcs:us.length=cs.length:=hr.1
 have hcur:cur.toList.length=vs.length:=h6.1
 have hplain: ∀u∈us,u.oneCell'=true:=by
  intro u hu
  obtain ⟨j,hj,rfl⟩:=List.getElem_of_mem hu
  obtain ⟨u',hu',h7,_⟩:=hr.2 j cs[j] (List.getElem?_eq_getElem (by omega))
  rw [List.getElem?_eq_getElem hj] at hu'
  simp only [Option.some.injEq] at hu'
  rw [hu'];exact h7
 have hrun:=Ml (P:=P) (w:=w) (hT.ty _ _ ht) r.g i vx us hv hlu hplain cur tid h5 (by simp at hcur;omega)
 refine ⟨_,by simp only [Instr.storeAt,Instr.sureAddr];simpa using hrun,?_⟩
 refine h.set hl (b:= .var tid (Bl vs i cs)) trivial (by rw [h2];exact Gw w r.g _) fun m=>?_
 refine ⟨r,h2,h4,_,setRow_heap w r.g cur _ tid _ h5,?_⟩
 have m1:=m.acs h6
 have m2:=m.acs hr
 simp only [List.map_id'] at m1 m2
 exact Ako m1 m2 i hle
theorem Lz {α:Type} : ∀(l:List α) (i:Nat) (x:α),Ln l i x=l.set i x
 | [],i,x=>by cases i<;>rfl
 |_::_,0,_=>rfl
 |y::r,n+1,x=>by simp [Ln,Lz r n x]
def Axl (st:St) (l:Nat):Prop:= ∃tid vs,Ac st.heap l=some (.var tid vs)
theorem Yi (te:TypeId) (e:Ty) (w:World) (π:Pi) (H:List (Nat×OB)):Aq X w π H none (Ts T te e):=by
 unfold Ts
 split
 ·exact ⟨rfl,trivial⟩
 ·rfl
theorem Adk (te:TypeId) (e:Ty): ∃sz,(Ts T te e).row=some (sz,0):=by
 unfold Ts
 split<;>exact ⟨_,rfl⟩
theorem Zd {st:St} {a:Act} (h:Af X π st a w) {b:OB} (hb0: ∀(w:World) (π:Pi) (H:List (Nat×OB)),Aq X w π H none b) {sz:Nat} (hrow:b.row=some (sz,0)) (key l i:Nat) (hkey:key<Ag):
  ∃π',Af X π' (Ll b key l i st) a w∧(Axl (Ll b key l i st) l→Axl st l∧π' l=π l):=by
 unfold Ll
 split
 ·rename_i tid vs hl
  split
  ·rename_i hi
   have h1:=h.replace (w':=w) key hkey none b (Ii w _) (fun r hr=>by cases hr) (fun _=>hb0 _ _ _)
   dsimp only
   unfold St.at at hl
   split
   ·rename_i tid' vs' hl'
    unfold St.at at hl'
    have hkl:key≠l:=by
     intro e
     subst e
     rw [St.Cy] at hl'
     cases hl'
     cases hrow
    refine ⟨_,h1.set hl' (b:= .var tid' (Ln vs' i (.own key 0 0))) trivial (Ii w _) fun m=>?_,fun _=>⟨⟨tid,vs,hl⟩,Co π none (Ne.symm hkl)⟩⟩
    obtain ⟨r,h3,h4,cur,h5,h6⟩:=(h1.1.heap l).blk hl'
    have m1:=m.acs h6
    simp only [List.map_id'] at m1
    refine ⟨r,h3,h4,cur,h5,?_⟩
    have hne:=St.Ot st key l b (Ne.symm hkl)
    rw [hl,hl'] at hne
    simp only [Option.map_some,Option.some.injEq,OB.map,OB.var.injEq] at hne
    obtain ⟨rfl,rfl⟩:=hne
    refine ⟨by rw [So];exact m1.1,fun j c hc=>?_⟩
    rw [Lz,List.getElem?_set] at hc
    split at hc
    ·rename_i hij;subst hij
     split at hc
     ·simp only [Option.some.injEq] at hc;subst hc
      obtain ⟨u,hu,hone,hc'⟩:=m1.2 i (.nilv) (by rw [List.getElem?_map,hi];rfl)
      refine ⟨u,hu,hone,b,sz,0,?_,hrow,Nat.le_refl _,?_⟩
      ·rw [show Ac ((st.new key b).Ew l _).heap key=Ac (st.new key b).heap key from Cb _ _ _ _ hkl]
       exact St.Cy st key _
      ·rw [Cp];exact ⟨hc',rfl,rfl⟩
     ·cases hc
    ·exact m1.2 j c hc
   ·rename_i hno
    refine ⟨_,h1,fun ⟨t1,v1,hv⟩=>?_⟩
    exact absurd hv (hno t1 v1)
  ·unfold St.at at hl
   exact ⟨_,h,fun hv=>⟨hv,rfl⟩⟩
 ·exact ⟨_,h,fun hv=>⟨hv,rfl⟩⟩
theorem Ze (l:Nat) (t:TypeId) (τ:Ty) {a:Act} : ∀(n i:Nat) (st:St) (π:Pi),100000+l*100+i+n<Ag→Af X π st a w→
  ∃π',Af X π' (Wa T l t τ n i st) a w∧(Axl (Wa T l t τ n i st) l→Axl st l∧π' l=π l)
 |0,i,st,π,_,h=>⟨π,h,fun hv=>⟨hv,rfl⟩⟩
 |n+1,i,st,π,hlt,h=>by
  unfold Wa
  split
  ·rename_i te e _
   obtain ⟨sz,hrow⟩:=Adk (T:=T) te e
   obtain ⟨π1,h1,k1⟩:=Zd h (Yi te e) hrow (100000+l*100+i) l i (by omega)
   obtain ⟨π2,h2,k2⟩:=Ze l t τ n (i+1) _ π1 (by omega) h1
   exact ⟨π2,h2,fun hv=>⟨(k1 (k2 hv).1).1,(k2 hv).2.trans (k1 (k2 hv).1).2⟩⟩
  ·obtain ⟨π2,h2,k2⟩:=Ze l t τ n (i+1) _ π (by omega) h
   exact ⟨π2,h2,k2⟩
theorem Wb (l off:Nat) (t:TypeId) (τ:Ty) {a:Act} : ∀(n i:Nat) (st:St) (π:Pi),100000+l*100+(off+i+n)<Ag→Af X π st a w→ ∃π',Af X π' (Um T l off t τ n i st) a w
 |0,i,st,π,_,h=>⟨π,h⟩
 |n+1,i,st,π,hlt,h=>by
  unfold Um
  split
  ·rename_i te e _
   obtain ⟨π1,h1,_⟩:=Zd h (Yi te e) (Adk (T:=T) te e).choose_spec (100000+l*100+(off+i)) l (off+i) (by omega)
   exact Wb l off t τ n (i+1) _ π1 (by omega) h1
  ·exact Wb l off t τ n (i+1) _ π (by omega) h
theorem Ah0 {st:St} {a:Act} (h:Af X π st a w) (l:Nat) (t:TypeId) (τ:Ty) (cs:List AC) (us:List Value) (hr:Cl X w π st.heap cs us) (av:AV) (st':St)
  (he:mkVar T st l t τ cs=some (av,st')):
  ∃π',Af X π' st' a (w.alloc (.cells us.toArray t))∧Ai X (w.alloc (.cells us.toArray t)) π' st'.heap av (.pointer (some ⟨w.heap.size,0,none⟩)):=by
 unfold mkVar at he
 split at he
 ·cases he
 rename_i hpin
 have h1:Af X (upd π l (some (Real.one w.heap.size 0 0))) (st.new l (.var t (cs.map (Aw l)))) a (w.alloc (.cells us.toArray t)):=by
  refine h.replace l (by omega) (some (Real.one w.heap.size 0 0)) (.var t (cs.map (Aw l))) (World.grownBy_alloc w _ _) (fun r hr'=>by cases hr';exact ⟨rfl, .inr (Nat.le_refl _),by simp [Real.one]⟩) fun m=>?_
  exact ⟨_,rfl,rfl,us.toArray,heap_alloc_new w _,m.acs (by simpa using hr)⟩
 obtain ⟨π2,h2,k2⟩:=Ze (T:=T) l t τ cs.length 0 _ _ (by omega) h1
 dsimp only at he
 split at he
 ·rename_i tid vs hl
  unfold St.at at hl
  simp only [Option.some.injEq,Prod.mk.injEq] at he
  obtain ⟨rfl,rfl⟩:=he
  have:=(k2 ⟨tid,vs,hl⟩).2
  rw [Cp] at this
  exact ⟨π2,h2,_,tid,vs,hl,this,rfl⟩
 ·cases he
end
end Go.Proofs.Ytebabhocakedaaa
