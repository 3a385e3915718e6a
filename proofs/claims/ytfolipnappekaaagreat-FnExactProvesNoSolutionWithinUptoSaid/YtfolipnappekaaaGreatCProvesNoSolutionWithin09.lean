/-
  Part 10 of the proof that the statement FnExactProvesNoSolutionWithin holds.
-/
import Derived.Test.YtfolipnappekaaaGreatCProvesNoSolutionWithin08
namespace Go.Proofs.YtfolipnappekaaaGreat
open Go.RowKit
section
variable {P:Program} {T:Tab} {X:Ctx} {w w':World} {π:Pi} {H:List (Nat×OB)}
theorem Kx (w:World) (row:Option Nat):w.grownBy w row:=⟨rfl,rfl,rfl,Nat.le_refl _,λ_ _ _=>rfl⟩
theorem yQ (fr:Bool) {τ:Ty} (Oi:τ.Ac=false) (x:τ.den):Nf fr τ x= [.data fr τ x]:=by
 cases τ<;>first|rfl|simp [Ty.Ac] at Oi
theorem FN {S:Nat->Prop} {τ:Ty} {v:Value} {x:τ.den} (h:Cells w S τ [v] x):v.oneCell'=true:=Cells.plain τ [v] x h v (by simp)
theorem mT {fr:Bool} : ∀(τ:Ty) (us:List Value) (x:τ.den),Cells w (Bj X.w0.heap.size X.Sc π fr) τ us x->Da X w π H (Nf fr τ x) us:=by
 have one: ∀(τ:Ty) (us:List Value) (x:τ.den),τ.Ac=false->Cells w (Bj X.w0.heap.size X.Sc π fr) τ us x->Da X w π H (Nf fr τ x) us:=by
  intro τ us x Oi h
  rw [yQ fr Oi]
  have hl:=Cells.len τ us x h
  have h1:τ.size=1:=by cases τ<;>simp_all [Ty.Ac,Ty.size]
  rw [h1] at hl
  obtain ⟨u,rfl⟩:=List.length_eq_one_iff.1 hl
  refine ⟨rfl,λi c hc=>?_⟩
  rcases i with _|i
  ·simp at hc;subst hc
   exact ⟨u,rfl,FN h,[u],h,by simp [Au,Oi]⟩
  ·simp at hc
 intro τ
 induction τ with
 |unit=>intro us x h;simp only [Cells] at h;subst h;exact ⟨rfl,λi c hc=>by simp [Nf] at hc⟩
 |pair a r jm fv=>
  intro us x h
  simp only [Cells] at h
  obtain ⟨c1,c2,rfl,h1,h2⟩:=h
  have r1:=jm c1 x.1 h1
  have r2:=fv c2 x.2 h2
  refine ⟨by simp [Nf,r1.1,r2.1],λi c hc=>?_⟩
  simp only [Nf] at hc
  by_cases hi:i<(Nf fr a x.1).length
  ·rw [List.getElem?_append_left hi] at hc
   obtain ⟨u,hu,h3⟩:=r1.2 i c hc
   exact ⟨u,by rw [List.getElem?_append_left (by rw [r1.1];exact hi)];exact hu,h3⟩
  ·rw [List.getElem?_append_right (by omega)] at hc
   obtain ⟨u,hu,h3⟩:=r2.2 _ c hc
   exact ⟨u,by rw [List.getElem?_append_right (by rw [r1.1];omega),r1.1];exact hu,h3⟩
 |_=>exact λus x h=>one _ us x rfl h
theorem dm {τ:Ty} {c:AV} {v:Value} {cs:List AC} (h:Ao X w π H c v) (hc:cellsOf τ c=some cs):
  ∃us:List Value,v.cells=us.toArray/\us.length=τ.size/\Da X w π H cs us:=by
 have single: ∀a:AC,(if τ.Ac then none else some [a])=some cs->Dv X w π H a v->v.oneCell'=true->v.cells= #[v]-> ∃us:List Value,v.cells=us.toArray/\us.length=τ.size/\Da X w π H cs us:=by
  intro a ha hr h1 h2
  split at ha
  ·cases ha
  ·rename_i hs
   simp only [Option.some.injEq] at ha;subst ha
   simp only [Bool.not_eq_true] at hs
   have h3:τ.size=1:=by cases τ<;>simp_all [Ty.Ac,Ty.size]
   refine ⟨[v],h2,by rw [h3];rfl,rfl,λi c hc=>?_⟩
   rcases i with _|i
   ·simp at hc;subst hc;exact ⟨v,rfl,h1,hr⟩
   ·simp at hc
 cases c with
 |agg ds=>
  simp only [cellsOf] at hc
  split at hc
  ·rename_i Fk
   simp only [Bool.and_eq_true,beq_iff_eq] at Fk
   simp only [Option.some.injEq] at hc;subst hc
   obtain ⟨us,rfl,hr⟩:=h
   exact ⟨us,rfl,by rw [hr.1,Fk.2],hr⟩
  ·cases hc
 |Xa fr Jr x=>simp [cellsOf] at hc
 |Ih l=>simp [cellsOf] at hc
 | «at»a=>
  cases a with
  |data fr Jr x=>
   simp only [cellsOf] at hc
   split at hc
   ·rename_i ht;subst ht
    simp only [Option.some.injEq] at hc;subst hc
    obtain ⟨us,h1,rfl⟩:=h
    exact ⟨us,Gm Jr us x h1,Cells.len Jr us x h1,mT Jr us x h1⟩
   ·cases hc
  |undef=>simp [cellsOf] at hc
  |skip=>simp [cellsOf] at hc
  |Hr=>have hv:v= .slice none 0 0:=h;exact single .Hr hc h (by rw [hv];rfl) (by rw [hv];rfl)
  |Rp=>have hv:v= .pointer none:=h;exact single .Rp hc h (by rw [hv];rfl) (by rw [hv];rfl)
  |own l off len=>
   have h':=h
   obtain ⟨b,sz,n,_,_,_,ho⟩:=h
   have hv: ∃a l c,v= .slice a l c:=by
    cases hp:π l with
    |none=>rw [hp] at ho;obtain ⟨rfl,_⟩:=ho;exact ⟨_,_,_,rfl⟩
    |some r=>rw [hp] at ho;obtain ⟨ad,rfl,_⟩:=ho;exact ⟨_,_,_,rfl⟩
   obtain ⟨a1,l1,c1,hv⟩:=hv
   exact single _ hc h' (by rw [hv];rfl) (by rw [hv];rfl)
  |Dt l i=>
   have h':=h
   obtain ⟨r,tid,vs,_,_,hv⟩:=h
   exact single _ hc h' (by rw [hv];rfl) (by rw [hv];rfl)
  |Fy l i=>
   have h':=h
   obtain ⟨r,b,sz,n,_,_,_,_,hv⟩:=h
   exact single _ hc h' (by rw [hv];rfl) (by rw [hv];rfl)
  |sub l i c0=>
   have h':=h
   obtain ⟨r,b,sz,n,_,_,_,_,⟨_,a,n,m,hv⟩,_⟩:=h
   exact single _ hc h' (by rw [hv];rfl) (by rw [hv];rfl)
  |Fu l i c0=>
   have h':=h
   obtain ⟨r,b,n,sz,g,o,len,cap,_,_,_,_,_,_,hv⟩:=h
   exact single _ hc h' (by rw [hv];rfl) (by rw [hv];rfl)
  |clo f Ca=>
   have h':=h
   obtain ⟨us,hv,_⟩:=h
   exact single _ hc h' (by rw [hv];rfl) (by rw [hv];rfl)
  |Gd l=>
   have h':=h
   obtain ⟨r,vt,m,_,_,hv⟩:=h
   exact single _ hc h' (by rw [hv];rfl) (by rw [hv];rfl)
theorem rF {vs cs:List AC} {us ns:List Value} (h:Da X w π H vs us) (h2:Da X w π H cs ns) (i:Nat) (hi:i+cs.length<=vs.length):
  Da X w π H (Bs vs i cs) (Bs us i ns):=by
 have e1:=h.1
 have e2:=h2.1
 refine ⟨by simp [Bs,e1,e2],λj c hc=>?_⟩
 unfold Bs at hc⊢
 have t1:(vs.take i).length=i:=by simp;omega
 have t2:(us.take i).length=i:=by simp;omega
 by_cases h3:j<i
 ·rw [List.append_assoc,List.getElem?_append_left (by omega),List.getElem?_take,if_pos h3] at hc
  obtain ⟨u,hu,h4⟩:=h.2 j c hc
  exact ⟨u,by rw [List.append_assoc,List.getElem?_append_left (by omega),List.getElem?_take,if_pos h3];exact hu,h4⟩
 ·by_cases h4:j<i+cs.length
  ·rw [List.append_assoc,List.getElem?_append_right (by omega),t1,List.getElem?_append_left (by omega)] at hc
   obtain ⟨u,hu,h5⟩:=h2.2 _ c hc
   exact ⟨u,by rw [List.append_assoc,List.getElem?_append_right (by omega),t2,List.getElem?_append_left (by omega)];exact hu,h5⟩
  ·rw [List.getElem?_append_right (by simp;omega),List.getElem?_drop] at hc
   obtain ⟨u,hu,h5⟩:=h.2 _ c hc
   refine ⟨u,?_,h5⟩
   rw [List.getElem?_append_right (by simp;omega),List.getElem?_drop]
   rw [<-hu]
   congr 1
   simp
   omega
theorem Jb (w:World) (g:Nat) (cs:Array Value):w.grownBy (w.setRow g cs) (some g):=
 ⟨rfl,rfl,rfl,by simp,λk _ hk=>setRow_other w g k cs (λe=>hk (by rw [e]))⟩
theorem Rd {t:TypeId} {τ:Ty} (ht:lp P T t τ) (g i:Nat) (v:Value) (us:List Value) (hv:v.cells=us.toArray) (hl:us.length=τ.size) (h1: ∀u∈us,u.oneCell'=true)
  (cur:Array Value) (tid:TypeId) (hg:w.heap[g]?=some (.cells cur tid (0,0))) (hle:i+us.length<=cur.size):
  (storeVar t ⟨g,i,none⟩ v).run P w= .ok () (w.setRow g (Bs cur.toList i us).toArray):=by
 unfold storeVar
 rw [hv]
 simp only [Sem.run_bind,ht.size,Result.andThen_ok,List.size_toArray,hl]
 have:=run_storeCells_at P g i tid us 0 cur w hg (by simpa using hle) h1
 simp only [Nat.add_zero] at this
 simpa [Bs,hl] using this
def dd (P:Program) (X:Ctx) (st':St) (a:Act) (w:World) (av:AV):Result Next->Prop
 | .ok (.value v) w'=> ∃π',Ak X π' st' a w'/\Ao X w' π' st'.heap av v
 | .ok .skip w'=> ∃π',Ak X π' st' a w'/\Ao X w' π' st'.heap av undef
 | .ok (.enter f args) w'=>w'=w/\Calls P f args w (λe nR=> ∃v,e= .returned v/\ ∃π',Ak X π' st' a nR/\Ao X nR π' st'.heap av v)
 |_=>False
theorem xC (hT:By P T) {st:St} {a:Act} (h:Ak X π st a w) {t:TypeId} {τ:Ty} (ht:T.ty t=some τ) {l i:Nat} {vp vx:Value} {x:AV} {tid:TypeId} {vs cs:List AC}
  (hp:Ao X w π st.heap (.at (.Dt l i)) vp) (hx:Ao X w π st.heap x vx) (hl:st.at l=some (.var tid vs)) (hc:cellsOf τ x=some cs) (hle:i+cs.length<=vs.length):
  ∃w',(Instr.storeAt t vp vx).run P w= .ok () w'/\Ak X π (st.Ft l (.var tid (Bs vs i cs))) a w':=by
 obtain ⟨r,Po,vs',h1,h2,rfl⟩:=hp
 unfold St.at at hl
 rw [hl] at h1;cases h1
 obtain ⟨r',h3,h4,cur,h5,h6⟩:=(h.1.heap l).Md hl
 rw [h2] at h3;cases h3
 obtain ⟨us,hv,hlu,hr⟩:=dm hx hc
 have wa:us.length=cs.length:=hr.1
 have cW:cur.toList.length=vs.length:=h6.1
 have Acy: ∀u∈us,u.oneCell'=true:=by
  intro u hu
  obtain ⟨j,hj,rfl⟩:=List.getElem_of_mem hu
  obtain ⟨u',bE,h7,_⟩:=hr.2 j cs[j] (List.getElem?_eq_getElem (by omega))
  rw [List.getElem?_eq_getElem hj] at bE
  simp only [Option.some.injEq] at bE
  rw [bE];exact h7
 have Qh:=Rd (P:=P) (w:=w) (hT.ty _ _ ht) r.g i vx us hv hlu Acy cur tid h5 (by simp at cW;omega)
 refine ⟨_,by simp only [Instr.storeAt,Instr.sureAddr];simpa using Qh,?_⟩
 refine h.set hl (b:= .var tid (Bs vs i cs)) trivial (by rw [h2];exact Jb w r.g _) λm=>?_
 refine ⟨r,h2,h4,_,setRow_heap w r.g cur _ tid _ h5,?_⟩
 have m1:=m.WZ h6
 have m2:=m.WZ hr
 simp only [List.map_id'] at m1 m2
 exact rF m1 m2 i hle
theorem Qf {α:Type} : ∀(l:List α) (i:Nat) (x:α),Nm l i x=l.set i x
 | [],i,x=>by cases i<;>rfl
 |_::_,0,_=>rfl
 |y::r,n+1,x=>by simp [Nm,Qf r n x]
def IP (st:St) (l:Nat):Prop:= ∃tid vs,Ad st.heap l=some (.var tid vs)
theorem dy (te:TypeId) (e:Ty) (w:World) (π:Pi) (H:List (Nat×OB)):Av X w π H none (ay T te e):=by
 unfold ay
 split
 ·exact ⟨rfl,trivial⟩
 ·rfl
theorem jE (te:TypeId) (e:Ty): ∃sz,(ay T te e).row=some (sz,0):=by
 unfold ay
 split<;>exact ⟨_,rfl⟩
theorem ef {st:St} {a:Act} (h:Ak X π st a w) {b:OB} (hb0: ∀(w:World) (π:Pi) (H:List (Nat×OB)),Av X w π H none b) {sz:Nat} (Gj:b.row=some (sz,0)) (key l i:Nat) (RR:key<Am):
  ∃π',Ak X π' (Pj b key l i st) a w/\(IP (Pj b key l i st) l->IP st l/\π' l=π l):=by
 unfold Pj
 split
 ·rename_i tid vs hl
  split
  ·rename_i hi
   have h1:=h.replace (w':=w) key RR none b (Kx w _) (λr hr=>by cases hr) (λ_=>hb0 _ _ _)
   dsimp only
   unfold St.at at hl
   split
   ·rename_i Po vs' Gt
    unfold St.at at Gt
    have Na:key≠l:=by
     intro e
     subst e
     rw [St.Dq] at Gt
     cases Gt
     cases Gj
    refine ⟨_,h1.set Gt (b:= .var Po (Nm vs' i (.own key 0 0))) trivial (Kx w _) λm=>?_,λ_=>⟨⟨tid,vs,hl⟩,Cy π none (Ne.symm Na)⟩⟩
    obtain ⟨r,h3,h4,cur,h5,h6⟩:=(h1.1.heap l).Md Gt
    have m1:=m.WZ h6
    simp only [List.map_id'] at m1
    refine ⟨r,h3,h4,cur,h5,?_⟩
    have Ek:=St.Uo st key l b (Ne.symm Na)
    rw [hl,Gt] at Ek
    simp only [Option.map_some,Option.some.injEq,OB.map,OB.var.injEq] at Ek
    obtain ⟨rfl,rfl⟩:=Ek
    refine ⟨by rw [Ut];exact m1.1,λj c hc=>?_⟩
    rw [Qf,List.getElem?_set] at hc
    split at hc
    ·rename_i dN;subst dN
     split at hc
     ·simp only [Option.some.injEq] at hc;subst hc
      obtain ⟨u,hu,LZ,z8⟩:=m1.2 i (.Hr) (by rw [List.getElem?_map,hi];rfl)
      refine ⟨u,hu,LZ,b,sz,0,?_,Gj,Nat.le_refl _,?_⟩
      ·rw [show Ad ((st.new key b).Ft l _).heap key=Ad (st.new key b).heap key from Bv _ _ _ _ Na]
       exact St.Dq st key _
      ·rw [Df];exact ⟨z8,rfl,rfl⟩
     ·cases hc
    ·exact m1.2 j c hc
   ·rename_i hno
    refine ⟨_,h1,λ⟨t1,v1,hv⟩=>?_⟩
    exact absurd hv (hno t1 v1)
  ·unfold St.at at hl
   exact ⟨_,h,λhv=>⟨hv,rfl⟩⟩
 ·exact ⟨_,h,λhv=>⟨hv,rfl⟩⟩
theorem eg (l:Nat) (t:TypeId) (τ:Ty) {a:Act} : ∀(n i:Nat) (st:St) (π:Pi),100000+l*100+i+n<Am->Ak X π st a w->
  ∃π',Ak X π' (bS T l t τ n i st) a w/\(IP (bS T l t τ n i st) l->IP st l/\π' l=π l)
 |0,i,st,π,_,h=>⟨π,h,λhv=>⟨hv,rfl⟩⟩
 |n+1,i,st,π,Ey,h=>by
  unfold bS
  split
  ·rename_i te e _
   obtain ⟨sz,Gj⟩:=jE (T:=T) te e
   obtain ⟨Yi,h1,k1⟩:=ef h (dy te e) Gj (100000+l*100+i) l i (by omega)
   obtain ⟨PQ,h2,k2⟩:=eg l t τ n (i+1) _ Yi (by omega) h1
   exact ⟨PQ,h2,λhv=>⟨(k1 (k2 hv).1).1,(k2 hv).2.trans (k1 (k2 hv).1).2⟩⟩
  ·obtain ⟨PQ,h2,k2⟩:=eg l t τ n (i+1) _ π (by omega) h
   exact ⟨PQ,h2,k2⟩
theorem bT (l off:Nat) (t:TypeId) (τ:Ty) {a:Act} : ∀(n i:Nat) (st:St) (π:Pi),100000+l*100+(off+i+n)<Am->Ak X π st a w-> ∃π',Ak X π' (aT T l off t τ n i st) a w
 |0,i,st,π,_,h=>⟨π,h⟩
 |n+1,i,st,π,Ey,h=>by
  unfold aT
  split
  ·rename_i te e _
   obtain ⟨Yi,h1,_⟩:=ef h (dy te e) (jE (T:=T) te e).choose_spec (100000+l*100+(off+i)) l (off+i) (by omega)
   exact bT l off t τ n (i+1) _ Yi (by omega) h1
  ·exact bT l off t τ n (i+1) _ π (by omega) h
theorem nv {st:St} {a:Act} (h:Ak X π st a w) (l:Nat) (t:TypeId) (τ:Ty) (cs:List AC) (us:List Value) (hr:Da X w π st.heap cs us) (av:AV) (st':St)
  (he:mkVar T st l t τ cs=some (av,st')):
  ∃π',Ak X π' st' a (w.alloc (.cells us.toArray t))/\Ao X (w.alloc (.cells us.toArray t)) π' st'.heap av (.pointer (some ⟨w.heap.size,0,none⟩)):=by
 unfold mkVar at he
 split at he
 ·cases he
 rename_i Vd
 have h1:Ak X (Rl π l (some (Real.one w.heap.size 0 0))) (st.new l (.var t (cs.map (Bd l)))) a (w.alloc (.cells us.toArray t)):=by
  refine h.replace l (by omega) (some (Real.one w.heap.size 0 0)) (.var t (cs.map (Bd l))) (World.grownBy_alloc w _ _) (λr bk=>by cases bk;exact ⟨rfl, .inr (Nat.le_refl _),by simp [Real.one]⟩) λm=>?_
  exact ⟨_,rfl,rfl,us.toArray,heap_alloc_new w _,m.WZ (by simpa using hr)⟩
 obtain ⟨PQ,h2,k2⟩:=eg (T:=T) l t τ cs.length 0 _ _ (by omega) h1
 dsimp only at he
 split at he
 ·rename_i tid vs hl
  unfold St.at at hl
  simp only [Option.some.injEq,Prod.mk.injEq] at he
  obtain ⟨rfl,rfl⟩:=he
  have:=(k2 ⟨tid,vs,hl⟩).2
  rw [Df] at this
  exact ⟨PQ,h2,_,tid,vs,hl,this,rfl⟩
 ·cases he
end
end Go.Proofs.YtfolipnappekaaaGreat
