/-
  Part 10 of the proof that the statement FnExactSolutionsAtDepth holds.
-/
import Derived.Test.YtfolipnappekaaaGreatCSolutionsAtDepth08
namespace Go.Proofs.YtfolipnappekaaaGreat
open Go.RowKit
section
variable {P:Program} {T:Tab} {X:Ctx} {w w':World} {π:Pi} {H:List (Nat×OB)}
theorem Kv (w:World) (row:Option Nat):w.grownBy w row:=⟨rfl,rfl,rfl,Nat.le_refl _,λ_ _ _=>rfl⟩
theorem yF (fr:Bool) {τ:Ty} (Og:τ.Ac=false) (x:τ.den):Nc fr τ x= [.data fr τ x]:=by
 cases τ<;>first|rfl|simp [Ty.Ac] at Og
theorem FE {S:Nat->Prop} {τ:Ty} {v:Value} {x:τ.den} (h:Cells w S τ [v] x):v.oneCell'=true:=Cells.plain τ [v] x h v (by simp)
theorem mK {fr:Bool} : ∀(τ:Ty) (us:List Value) (x:τ.den),Cells w (Bj X.w0.heap.size X.Sc π fr) τ us x->Da X w π H (Nc fr τ x) us:=by
 have one: ∀(τ:Ty) (us:List Value) (x:τ.den),τ.Ac=false->Cells w (Bj X.w0.heap.size X.Sc π fr) τ us x->Da X w π H (Nc fr τ x) us:=by
  intro τ us x Og h
  rw [yF fr Og]
  have hl:=Cells.len τ us x h
  have h1:τ.size=1:=by cases τ<;>simp_all [Ty.Ac,Ty.size]
  rw [h1] at hl
  obtain ⟨u,rfl⟩:=List.length_eq_one_iff.1 hl
  refine ⟨rfl,λi c hc=>?_⟩
  rcases i with _|i
  ·simp at hc;subst hc
   exact ⟨u,rfl,FE h,[u],h,by simp [Au,Og]⟩
  ·simp at hc
 intro τ
 induction τ with
 |unit=>intro us x h;simp only [Cells] at h;subst h;exact ⟨rfl,λi c hc=>by simp [Nc] at hc⟩
 |pair a r je fp=>
  intro us x h
  simp only [Cells] at h
  obtain ⟨c1,c2,rfl,h1,h2⟩:=h
  have r1:=je c1 x.1 h1
  have r2:=fp c2 x.2 h2
  refine ⟨by simp [Nc,r1.1,r2.1],λi c hc=>?_⟩
  simp only [Nc] at hc
  by_cases hi:i<(Nc fr a x.1).length
  ·rw [List.getElem?_append_left hi] at hc
   obtain ⟨u,hu,h3⟩:=r1.2 i c hc
   exact ⟨u,by rw [List.getElem?_append_left (by rw [r1.1];exact hi)];exact hu,h3⟩
  ·rw [List.getElem?_append_right (by omega)] at hc
   obtain ⟨u,hu,h3⟩:=r2.2 _ c hc
   exact ⟨u,by rw [List.getElem?_append_right (by rw [r1.1];omega),r1.1];exact hu,h3⟩
 |_=>exact λus x h=>one _ us x rfl h
theorem dg {τ:Ty} {c:AV} {v:Value} {cs:List AC} (h:Ao X w π H c v) (hc:cellsOf τ c=some cs):
  ∃us:List Value,v.cells=us.toArray/\us.length=τ.size/\Da X w π H cs us:=by
 have single: ∀a:AC,(if τ.Ac then none else some [a])=some cs->Dw X w π H a v->v.oneCell'=true->v.cells= #[v]-> ∃us:List Value,v.cells=us.toArray/\us.length=τ.size/\Da X w π H cs us:=by
  intro a ha hr h1 h2
  split at ha
  ·cases ha
  ·rename_i hs
   simp only [Option.some.injEq] at ha;subst ha
   simp only [Bool.not_eq_true] at hs
   have h3:τ.size=1:=by cases τ<;>simp_all [Ty.Ac,Ty.size]
   refine ⟨[v],h2,by rw [h3];rfl,rfl,λi c hc=>?_⟩
   rcases i with _|i
   ·simp at hc;subst hc;exact ⟨v,rfl,h1,hr⟩
   ·simp at hc
 cases c with
 |agg ds=>
  simp only [cellsOf] at hc
  split at hc
  ·rename_i Fh
   simp only [Bool.and_eq_true,beq_iff_eq] at Fh
   simp only [Option.some.injEq] at hc;subst hc
   obtain ⟨us,rfl,hr⟩:=h
   exact ⟨us,rfl,by rw [hr.1,Fh.2],hr⟩
  ·cases hc
 |Wv fr Jp x=>simp [cellsOf] at hc
 |Ih l=>simp [cellsOf] at hc
 | «at»a=>
  cases a with
  |data fr Jp x=>
   simp only [cellsOf] at hc
   split at hc
   ·rename_i ht;subst ht
    simp only [Option.some.injEq] at hc;subst hc
    obtain ⟨us,h1,rfl⟩:=h
    exact ⟨us,Gm Jp us x h1,Cells.len Jp us x h1,mK Jp us x h1⟩
   ·cases hc
  |undef=>simp [cellsOf] at hc
  |skip=>simp [cellsOf] at hc
  |Hr=>have hv:v= .slice none 0 0:=h;exact single .Hr hc h (by rw [hv];rfl) (by rw [hv];rfl)
  |Ro=>have hv:v= .pointer none:=h;exact single .Ro hc h (by rw [hv];rfl) (by rw [hv];rfl)
  |own l off len=>
   have h':=h
   obtain ⟨b,sz,n,_,_,_,ho⟩:=h
   have hv: ∃a l c,v= .slice a l c:=by
    cases hp:π l with
    |none=>rw [hp] at ho;obtain ⟨rfl,_⟩:=ho;exact ⟨_,_,_,rfl⟩
    |some r=>rw [hp] at ho;obtain ⟨ad,rfl,_⟩:=ho;exact ⟨_,_,_,rfl⟩
   obtain ⟨a1,l1,c1,hv⟩:=hv
   exact single _ hc h' (by rw [hv];rfl) (by rw [hv];rfl)
  |Du l i=>
   have h':=h
   obtain ⟨r,tid,vs,_,_,hv⟩:=h
   exact single _ hc h' (by rw [hv];rfl) (by rw [hv];rfl)
  |Fw l i=>
   have h':=h
   obtain ⟨r,b,sz,n,_,_,_,_,hv⟩:=h
   exact single _ hc h' (by rw [hv];rfl) (by rw [hv];rfl)
  |sub l i c0=>
   have h':=h
   obtain ⟨r,b,sz,n,_,_,_,_,⟨_,a,n,m,hv⟩,_⟩:=h
   exact single _ hc h' (by rw [hv];rfl) (by rw [hv];rfl)
  |Ft l i c0=>
   have h':=h
   obtain ⟨r,b,n,sz,g,o,len,cap,_,_,_,_,_,_,hv⟩:=h
   exact single _ hc h' (by rw [hv];rfl) (by rw [hv];rfl)
  |clo f Ca=>
   have h':=h
   obtain ⟨us,hv,_⟩:=h
   exact single _ hc h' (by rw [hv];rfl) (by rw [hv];rfl)
  |Gd l=>
   have h':=h
   obtain ⟨r,vt,m,_,_,hv⟩:=h
   exact single _ hc h' (by rw [hv];rfl) (by rw [hv];rfl)
theorem rq {vs cs:List AC} {us ns:List Value} (h:Da X w π H vs us) (h2:Da X w π H cs ns) (i:Nat) (hi:i+cs.length<=vs.length):
  Da X w π H (Bs vs i cs) (Bs us i ns):=by
 have e1:=h.1
 have e2:=h2.1
 refine ⟨by simp [Bs,e1,e2],λj c hc=>?_⟩
 unfold Bs at hc⊢
 have t1:(vs.take i).length=i:=by simp;omega
 have t2:(us.take i).length=i:=by simp;omega
 by_cases h3:j<i
 ·rw [List.append_assoc,List.getElem?_append_left (by omega),List.getElem?_take,if_pos h3] at hc
  obtain ⟨u,hu,h4⟩:=h.2 j c hc
  exact ⟨u,by rw [List.append_assoc,List.getElem?_append_left (by omega),List.getElem?_take,if_pos h3];exact hu,h4⟩
 ·by_cases h4:j<i+cs.length
  ·rw [List.append_assoc,List.getElem?_append_right (by omega),t1,List.getElem?_append_left (by omega)] at hc
   obtain ⟨u,hu,h5⟩:=h2.2 _ c hc
   exact ⟨u,by rw [List.append_assoc,List.getElem?_append_right (by omega),t2,List.getElem?_append_left (by omega)];exact hu,h5⟩
  ·rw [List.getElem?_append_right (by simp;omega),List.getElem?_drop] at hc
   obtain ⟨u,hu,h5⟩:=h.2 _ c hc
   refine ⟨u,?_,h5⟩
   rw [List.getElem?_append_right (by simp;omega),List.getElem?_drop]
   rw [<-hu]
   congr 1
   simp
   omega
theorem Iz (w:World) (g:Nat) (cs:Array Value):w.grownBy (w.setRow g cs) (some g):=
 ⟨rfl,rfl,rfl,by simp,λk _ hk=>setRow_other w g k cs (λe=>hk (by rw [e]))⟩
theorem Rc {t:TypeId} {τ:Ty} (ht:ld P T t τ) (g i:Nat) (v:Value) (us:List Value) (hv:v.cells=us.toArray) (hl:us.length=τ.size) (h1: ∀u∈us,u.oneCell'=true)
  (cur:Array Value) (tid:TypeId) (hg:w.heap[g]?=some (.cells cur tid (0,0))) (hle:i+us.length<=cur.size):
  (storeVar t ⟨g,i,none⟩ v).run P w= .ok () (w.setRow g (Bs cur.toList i us).toArray):=by
 unfold storeVar
 rw [hv]
 simp only [Sem.run_bind,ht.size,Result.andThen_ok,List.size_toArray,hl]
 have:=run_storeCells_at P g i tid us 0 cur w hg (by simpa using hle) h1
 simp only [Nat.add_zero] at this
 simpa [Bs,hl] using this
def cY (P:Program) (X:Ctx) (st':St) (a:Act) (w:World) (av:AV):Result Next->Prop
 | .ok (.value v) w'=> ∃π',Ak X π' st' a w'/\Ao X w' π' st'.heap av v
 | .ok .skip w'=> ∃π',Ak X π' st' a w'/\Ao X w' π' st'.heap av undef
 | .ok (.enter f args) w'=>w'=w/\Calls P f args w (λe nI=> ∃v,e= .returned v/\ ∃π',Ak X π' st' a nI/\Ao X nI π' st'.heap av v)
 |_=>False
theorem xr (hT:By P T) {st:St} {a:Act} (h:Ak X π st a w) {t:TypeId} {τ:Ty} (ht:T.ty t=some τ) {l i:Nat} {vp vx:Value} {x:AV} {tid:TypeId} {vs cs:List AC}
  (hp:Ao X w π st.heap (.at (.Du l i)) vp) (hx:Ao X w π st.heap x vx) (hl:st.at l=some (.var tid vs)) (hc:cellsOf τ x=some cs) (hle:i+cs.length<=vs.length):
  ∃w',(Instr.storeAt t vp vx).run P w= .ok () w'/\Ak X π (st.Fq l (.var tid (Bs vs i cs))) a w':=by
 obtain ⟨r,Pn,vs',h1,h2,rfl⟩:=hp
 unfold St.at at hl
 rw [hl] at h1;cases h1
 obtain ⟨r',h3,h4,cur,h5,h6⟩:=(h.1.heap l).Ma hl
 rw [h2] at h3;cases h3
 obtain ⟨us,hv,hlu,hr⟩:=dg hx hc
 have vY:us.length=cs.length:=hr.1
 have cR:cur.toList.length=vs.length:=h6.1
 have Aco: ∀u∈us,u.oneCell'=true:=by
  intro u hu
  obtain ⟨j,hj,rfl⟩:=List.getElem_of_mem hu
  obtain ⟨u',bA,h7,_⟩:=hr.2 j cs[j] (List.getElem?_eq_getElem (by omega))
  rw [List.getElem?_eq_getElem hj] at bA
  simp only [Option.some.injEq] at bA
  rw [bA];exact h7
 have Qg:=Rc (P:=P) (w:=w) (hT.ty _ _ ht) r.g i vx us hv hlu Aco cur tid h5 (by simp at cR;omega)
 refine ⟨_,by simp only [Instr.storeAt,Instr.sureAddr];simpa using Qg,?_⟩
 refine h.set hl (b:= .var tid (Bs vs i cs)) trivial (by rw [h2];exact Iz w r.g _) λm=>?_
 refine ⟨r,h2,h4,_,setRow_heap w r.g cur _ tid _ h5,?_⟩
 have m1:=m.WN h6
 have m2:=m.WN hr
 simp only [List.map_id'] at m1 m2
 exact rq m1 m2 i hle
theorem Qe {α:Type} : ∀(l:List α) (i:Nat) (x:α),Nk l i x=l.set i x
 | [],i,x=>by cases i<;>rfl
 |_::_,0,_=>rfl
 |y::r,n+1,x=>by simp [Nk,Qe r n x]
def IG (st:St) (l:Nat):Prop:= ∃tid vs,Ad st.heap l=some (.var tid vs)
theorem dt (te:TypeId) (e:Ty) (w:World) (π:Pi) (H:List (Nat×OB)):Av X w π H none (aq T te e):=by
 unfold aq
 split
 ·exact ⟨rfl,trivial⟩
 ·rfl
theorem jw (te:TypeId) (e:Ty): ∃sz,(aq T te e).row=some (sz,0):=by
 unfold aq
 split<;>exact ⟨_,rfl⟩
theorem e8 {st:St} {a:Act} (h:Ak X π st a w) {b:OB} (hb0: ∀(w:World) (π:Pi) (H:List (Nat×OB)),Av X w π H none b) {sz:Nat} (Gj:b.row=some (sz,0)) (key l i:Nat) (RG:key<Am):
  ∃π',Ak X π' (Ph b key l i st) a w/\(IG (Ph b key l i st) l->IG st l/\π' l=π l):=by
 unfold Ph
 split
 ·rename_i tid vs hl
  split
  ·rename_i hi
   have h1:=h.replace (w':=w) key RG none b (Kv w _) (λr hr=>by cases hr) (λ_=>hb0 _ _ _)
   dsimp only
   unfold St.at at hl
   split
   ·rename_i Pn vs' Gt
    unfold St.at at Gt
    have My:key≠l:=by
     intro e
     subst e
     rw [St.Dr] at Gt
     cases Gt
     cases Gj
    refine ⟨_,h1.set Gt (b:= .var Pn (Nk vs' i (.own key 0 0))) trivial (Kv w _) λm=>?_,λ_=>⟨⟨tid,vs,hl⟩,Cy π none (Ne.symm My)⟩⟩
    obtain ⟨r,h3,h4,cur,h5,h6⟩:=(h1.1.heap l).Ma Gt
    have m1:=m.WN h6
    simp only [List.map_id'] at m1
    refine ⟨r,h3,h4,cur,h5,?_⟩
    have Ek:=St.Uk st key l b (Ne.symm My)
    rw [hl,Gt] at Ek
    simp only [Option.map_some,Option.some.injEq,OB.map,OB.var.injEq] at Ek
    obtain ⟨rfl,rfl⟩:=Ek
    refine ⟨by rw [Up];exact m1.1,λj c hc=>?_⟩
    rw [Qe,List.getElem?_set] at hc
    split at hc
    ·rename_i dI;subst dI
     split at hc
     ·simp only [Option.some.injEq] at hc;subst hc
      obtain ⟨u,hu,LO,yS⟩:=m1.2 i (.Hr) (by rw [List.getElem?_map,hi];rfl)
      refine ⟨u,hu,LO,b,sz,0,?_,Gj,Nat.le_refl _,?_⟩
      ·rw [show Ad ((st.new key b).Fq l _).heap key=Ad (st.new key b).heap key from Bv _ _ _ _ My]
       exact St.Dr st key _
      ·rw [Df];exact ⟨yS,rfl,rfl⟩
     ·cases hc
    ·exact m1.2 j c hc
   ·rename_i hno
    refine ⟨_,h1,λ⟨t1,v1,hv⟩=>?_⟩
    exact absurd hv (hno t1 v1)
  ·unfold St.at at hl
   exact ⟨_,h,λhv=>⟨hv,rfl⟩⟩
 ·exact ⟨_,h,λhv=>⟨hv,rfl⟩⟩
theorem eb (l:Nat) (t:TypeId) (τ:Ty) {a:Act} : ∀(n i:Nat) (st:St) (π:Pi),100000+l*100+i+n<Am->Ak X π st a w->
  ∃π',Ak X π' (bP T l t τ n i st) a w/\(IG (bP T l t τ n i st) l->IG st l/\π' l=π l)
 |0,i,st,π,_,h=>⟨π,h,λhv=>⟨hv,rfl⟩⟩
 |n+1,i,st,π,Ey,h=>by
  unfold bP
  split
  ·rename_i te e _
   obtain ⟨sz,Gj⟩:=jw (T:=T) te e
   obtain ⟨Yd,h1,k1⟩:=e8 h (dt te e) Gj (100000+l*100+i) l i (by omega)
   obtain ⟨PC,h2,k2⟩:=eb l t τ n (i+1) _ Yd (by omega) h1
   exact ⟨PC,h2,λhv=>⟨(k1 (k2 hv).1).1,(k2 hv).2.trans (k1 (k2 hv).1).2⟩⟩
  ·obtain ⟨PC,h2,k2⟩:=eb l t τ n (i+1) _ π (by omega) h
   exact ⟨PC,h2,k2⟩
theorem bQ (l off:Nat) (t:TypeId) (τ:Ty) {a:Act} : ∀(n i:Nat) (st:St) (π:Pi),100000+l*100+(off+i+n)<Am->Ak X π st a w-> ∃π',Ak X π' (aP T l off t τ n i st) a w
 |0,i,st,π,_,h=>⟨π,h⟩
 |n+1,i,st,π,Ey,h=>by
  unfold aP
  split
  ·rename_i te e _
   obtain ⟨Yd,h1,_⟩:=e8 h (dt te e) (jw (T:=T) te e).choose_spec (100000+l*100+(off+i)) l (off+i) (by omega)
   exact bQ l off t τ n (i+1) _ Yd (by omega) h1
  ·exact bQ l off t τ n (i+1) _ π (by omega) h
theorem nh {st:St} {a:Act} (h:Ak X π st a w) (l:Nat) (t:TypeId) (τ:Ty) (cs:List AC) (us:List Value) (hr:Da X w π st.heap cs us) (av:AV) (st':St)
  (he:mkVar T st l t τ cs=some (av,st')):
  ∃π',Ak X π' st' a (w.alloc (.cells us.toArray t))/\Ao X (w.alloc (.cells us.toArray t)) π' st'.heap av (.pointer (some ⟨w.heap.size,0,none⟩)):=by
 unfold mkVar at he
 split at he
 ·cases he
 rename_i Uz
 have h1:Ak X (Rk π l (some (Real.one w.heap.size 0 0))) (st.new l (.var t (cs.map (Bd l)))) a (w.alloc (.cells us.toArray t)):=by
  refine h.replace l (by omega) (some (Real.one w.heap.size 0 0)) (.var t (cs.map (Bd l))) (World.grownBy_alloc w _ _) (λr bf=>by cases bf;exact ⟨rfl, .inr (Nat.le_refl _),by simp [Real.one]⟩) λm=>?_
  exact ⟨_,rfl,rfl,us.toArray,heap_alloc_new w _,m.WN (by simpa using hr)⟩
 obtain ⟨PC,h2,k2⟩:=eb (T:=T) l t τ cs.length 0 _ _ (by omega) h1
 dsimp only at he
 split at he
 ·rename_i tid vs hl
  unfold St.at at hl
  simp only [Option.some.injEq,Prod.mk.injEq] at he
  obtain ⟨rfl,rfl⟩:=he
  have:=(k2 ⟨tid,vs,hl⟩).2
  rw [Df] at this
  exact ⟨PC,h2,_,tid,vs,hl,this,rfl⟩
 ·cases he
end
end Go.Proofs.YtfolipnappekaaaGreat
