/-
  Part 24 of the proof that the statement FnExactSubsetPuzzle holds.
-/
import Derived.Test.YtebabhocakedaaaCSubsetPuzzle22
import Derived.LoopN
namespace Go.Proofs.Ytebabhocakedaaa
open Go.RowKit
section
variable {P:Program} {T:Tab} {Γ:Env} {X:Ctx} {w w':World} {π:Pi} {H:List (Nat×OB)} {ops:Array Oper}
theorem Ahf (t1 t2:List AV) (H:List (Nat×OB)) (τ:Ty) (c:AC):Bh ⟨t1,H⟩ τ c=Bh ⟨t2,H⟩ τ c:=by
 cases c<;>cases τ<;>rfl
theorem Aa7 (t1 t2:List AV) (H:List (Nat×OB)): ∀(τ:Ty) (cs:List AC),Cf ⟨t1,H⟩ τ cs=Cf ⟨t2,H⟩ τ cs:=by
 have one: ∀(τ:Ty) (cs:List AC),τ.Ab=false→Cf ⟨t1,H⟩ τ cs=Cf ⟨t2,H⟩ τ cs:=by
  intro τ cs h
  rw [Kw h,Kw h]
  rcases cs with _|⟨c,_|⟨d,r⟩⟩
  ·rfl
  ·exact Ahf t1 t2 H τ c
  ·rfl
 intro τ
 induction τ with
 |unit=>intro cs;cases cs<;>rfl
 |pair a r iha ihr=>intro cs;simp only [Cf];rw [iha,ihr]
 |_=>exact fun cs=>one _ cs rfl
theorem Aer (t1 t2:List AV) (H:List (Nat×OB)) (τ:Ty) (l i:Nat):Lc ⟨t1,H⟩ τ l i=Lc ⟨t2,H⟩ τ l i:=by
 unfold Lc
 simp only [St.at]
 split
 ·exact Aa7 t1 t2 H _ _
 ·rfl
theorem Am2 (t1 t2:List AV) (H:List (Nat×OB)): ∀(τ:Ty) (cs:List (Nat×Nat)),Ey ⟨t1,H⟩ τ cs=Ey ⟨t2,H⟩ τ cs:=by
 intro τ
 induction τ with
 |unit=>intro cs;cases cs<;>rfl
 |pair a r _ ihr=>
  intro cs
  cases a with
  |ptr a=>
   cases cs with
   |nil=>rfl
   |cons c cs=>simp only [Ey];rw [Aer t1 t2 H,ihr]
  |_=>cases cs<;>rfl
 |_=>intro cs;cases cs<;>rfl
theorem Aql (t1 t2:List AV) (H:List (Nat×OB)) (τ:Ty) (c:AC):Ef ⟨t1,H⟩ τ c=Ef ⟨t2,H⟩ τ c:=by
 cases τ<;>cases c<;>simp only [Ef]<;>first|rfl|exact Ahf t1 t2 H _ _|(rw [Aer t1 t2 H])|(split;exact Am2 t1 t2 H _ _;rfl)
theorem Sr (t1 t2:List AV) (H:List (Nat×OB)) (τ:Ty) (c:AV):Cj ⟨t1,H⟩ τ c=Cj ⟨t2,H⟩ τ c:=by
 cases c with
 | «at»a=>cases a<;>simp only [Cj]<;>first|rfl|rw [Aql t1 t2 H]
 |agg cs=>simp only [Cj];rw [Aa7 t1 t2 H]
 |tup fr τ' x=>rfl
 |tupc l=>rfl
theorem Abs (t1 t2:List AV) (H:List (Nat×OB)): ∀(τ:Ty) (cs:List AV),Bl ⟨t1,H⟩ τ cs=Bl ⟨t2,H⟩ τ cs:=by
 intro τ
 induction τ with
 |pair a r iha ihr=>
  intro cs
  cases cs with
  |nil=>rfl
  |cons c cs=>simp only [Bl];rw [Sr t1 t2 H,ihr]
 |_=>intro cs;cases cs<;>rfl
theorem Ayg (t1 t2:List AV) (H:List (Nat×OB)) (c:AV):Asf ⟨t1,H⟩ c=Asf ⟨t2,H⟩ c:=by
 cases c with
 | «at»a=>cases a<;>rfl
 |_=>rfl
theorem Bat {o:Oper} {t:Tmp} (h:Operand.tmp t∈o.op.operands.toList):t∈o.looksAt ops:=by
 unfold Oper.looksAt
 refine List.mem_append.2 (.inl (List.mem_filterMap.2 ⟨_,h,rfl⟩))
theorem Axh {t1 t2:List AV} {H:List (Nat×OB)} {o:Oper} (hs: ∀t,t∈o.looksAt ops→t1.getD t .undef=t2.getD t .undef) (x:Operand) (hx:x∈o.op.operands.toList):
  St.ev ⟨t1,H⟩ x=St.ev ⟨t2,H⟩ x:=by
 cases x with
 |tmp t=>exact hs t (Bat hx)
 |const v=>rfl
 |global g=>rfl
 |func f=>rfl
theorem Av6 {t1 t2:List AV} {H:List (Nat×OB)} {o:Oper} (hs: ∀t,t∈o.looksAt ops→t1.getD t .undef=t2.getD t .undef):Bz T Γ ⟨t1,H⟩ o=Bz T Γ ⟨t2,H⟩ o:=by
 have he:=fun x hx=>Axh (H:=H) hs x hx
 obtain ⟨dst,op,ty,pos,af,gd⟩:=o
 dsimp only at he
 cases op with
 |move x=>simp only [Bz];rw [he x (by simp [Op.operands])]
 |assign x=>simp only [Bz];rw [he x (by simp [Op.operands])]
 |pick c x y=>simp only [Bz];rw [he c (by simp [Op.operands]),he x (by simp [Op.operands]),he y (by simp [Op.operands])]
 |load t x=>simp only [Bz];rw [he x (by simp [Op.operands])];rfl
 |nilCheck x=>simp only [Bz];rw [he x (by simp [Op.operands])]
 |binOp op t x y t'=>simp only [Bz];rw [he x (by simp [Op.operands]),he y (by simp [Op.operands])]
 |unOp op t x=>simp only [Bz];rw [he x (by simp [Op.operands])]
 |convert s t x=>simp only [Bz];rw [he x (by simp [Op.operands])];simp only [Sr t1 t2 H]
 |makeFunc fn first caps=>
  cases fn with
  |func f=>
   simp only [Bz]
   have ha:caps.toList.map (St.ev ⟨t1,H⟩)=caps.toList.map (St.ev ⟨t2,H⟩):=List.map_congr_left fun x hx=>he x (by
    simp only [Op.operands,Array.toList_append,List.mem_append]
    exact .inr hx)
   rw [ha]
  |_=>rfl
 |lookup t m k ok=>simp only [Bz];rw [he m (by simp [Op.operands]),he k (by simp [Op.operands])];unfold Vl;simp only [Sr t1 t2 H]
 |slice t x lo hi mx=>
  simp only [Bz]
  rw [he x (by simp [Op.operands])]
  have h1:lo.map (St.ev ⟨t1,H⟩)=lo.map (St.ev ⟨t2,H⟩):=by
   cases lo with
   |none=>rfl
   |some y=>simp only [Option.map_some];rw [he y (by simp [Op.operands])]
  have h2:hi.map (St.ev ⟨t1,H⟩)=hi.map (St.ev ⟨t2,H⟩):=by
   cases hi with
   |none=>rfl
   |some y=>simp only [Option.map_some];rw [he y (by simp [Op.operands])]
  rw [h1,h2];rfl
 |fieldAddr s x f=>simp only [Bz];rw [he x (by simp [Op.operands])]
 |field s x f=>simp only [Bz];rw [he x (by simp [Op.operands])]
 |indexAddr t x i=>simp only [Bz];rw [he x (by simp [Op.operands]),he i (by simp [Op.operands])];rfl
 |index t x i=>simp only [Bz];rw [he x (by simp [Op.operands]),he i (by simp [Op.operands])]
 |extract x i=>simp only [Bz];rw [he x (by simp [Op.operands])]
 |call c=>
  obtain ⟨callee,args,ts⟩:=c
  have ha:args.toList.map (St.ev ⟨t1,H⟩)=args.toList.map (St.ev ⟨t2,H⟩):=List.map_congr_left fun x hx=>he x (by
   simp only [Op.operands,Call.operands,Array.toList_append,List.mem_append]
   exact .inr hx)
  cases callee with
  |value f=>
   cases f with
   |func f=>
    simp only [Bz]
    rw [ha]
    unfold Im
    simp only [Abs t1 t2 H]
   |tmp t=>
    simp only [Bz]
    have:=he (.tmp t) (by simp [Op.operands,Call.operands])
    simp only [St.ev] at this
    rw [ha,this]
    unfold Qc Im
    simp only [Abs t1 t2 H]
   |_=>rfl
  |invoke r m=>rfl
  |builtin b=>
   cases b with
   |len=>
    simp only [Bz]
    split
    ·rename_i x t hx ht
     rw [he x (by
      simp only [Op.operands,Call.operands,Array.toList_append,List.mem_append]
      exact .inr (by rw [hx];simp))]
     simp only [Ayg t1 t2 H]
    ·rfl
   |min=>simp only [Bz];rw [ha]
   |max=>simp only [Bz];rw [ha]
   |_=>rfl
 |_=>rfl
theorem Ard {t1 t2:List AV} {H:List (Nat×OB)} (t:Option Tmp) (hs: ∀d,t=some d→t1.getD d .undef=t2.getD d .undef):Mv ⟨t1,H⟩ t=Mv ⟨t2,H⟩ t:=by
 cases t with
 |none=>rfl
 |some d=>simp only [Mv,St.get];rw [hs d rfl]
theorem Ah2 {t1 t2:List AV} {H:List (Nat×OB)} (e:Ty): ∀(l:List (Nat×Operand)) (i:Nat),(∀p∈l,St.ev ⟨t1,H⟩ p.2=St.ev ⟨t2,H⟩ p.2)→Wa e i l ⟨t1,H⟩=Wa e i l ⟨t2,H⟩
 | [],_,_=>rfl
 |(j,x)::r,i,h=>by
  have h1:=h (j,x) (by simp)
  dsimp only at h1
  simp only [Wa]
  rw [h1,Sr t1 t2 H,Ah2 e r (i+1) fun p hp=>h p (List.mem_cons_of_mem _ hp)]
theorem Ww {t1 t2:List AV} {H:List (Nat×OB)} (t:TypeId): ∀(l:List (Nat×Operand)) (cs:List AC),(∀p∈l,St.ev ⟨t1,H⟩ p.2=St.ev ⟨t2,H⟩ p.2)→Ft T ⟨t1,H⟩ t l cs=Ft T ⟨t2,H⟩ t l cs
 | [],_,_=>rfl
 |(j,x)::r,cs,h=>by
  have h1:=h (j,x) (by simp)
  dsimp only at h1
  simp only [Ft]
  rw [h1]
  have ih: ∀cs',Ft T ⟨t1,H⟩ t r cs'=Ft T ⟨t2,H⟩ t r cs':=fun cs'=>Ww t r cs' fun p hp=>h p (List.mem_cons_of_mem _ hp)
  simp only [ih]
theorem Av5 {t1 t2:List AV} {H:List (Nat×OB)} {o:Oper} (hs: ∀t,t∈o.looksAt ops→t1.getD t .undef=t2.getD t .undef):Oa T Γ ⟨t1,H⟩ o=Oa T Γ ⟨t2,H⟩ o:=by
 have he:=fun x hx=>Axh (H:=H) hs x hx
 have hq:=Av6 (T:=T) (Γ:=Γ) (H:=H) hs
 obtain ⟨dst,op,ty,pos,af,gd⟩:=o
 dsimp only at he
 unfold Oa
 cases op with
 |buildSlice t len parts=>
  dsimp only
  have hp: ∀p∈parts.toList,St.ev ⟨t1,H⟩ p.2=St.ev ⟨t2,H⟩ p.2:=fun p hp=>he p.2 (by simp only [Op.operands,List.mem_map];exact ⟨p,hp,rfl⟩)
  unfold Qq
  simp only [Ah2 _ _ _ hp]
 |build t parts=>
  dsimp only
  have hp: ∀p∈parts.toList,St.ev ⟨t1,H⟩ p.2=St.ev ⟨t2,H⟩ p.2:=fun p hp=>he p.2 (by simp only [Op.operands,List.mem_map];exact ⟨p,hp,rfl⟩)
  unfold Mz
  simp only [Ww _ _ _ hp]
 |_=>exact hq
theorem Azr {t1 t2:List AV} {H:List (Nat×OB)} {o:Oper} (hs: ∀t,t∈o.looksAt ops→t1.getD t .undef=t2.getD t .undef):Xp T Γ ops ⟨t1,H⟩ o=Xp T Γ ops ⟨t2,H⟩ o:=by
 unfold Xp
 rw [Av5 hs]
 split
 ·rfl
 ·rename_i j want hg
  rw [Ard ((ops[j]?).bind (·.dst)) (fun d hd=>hs d (by
   unfold Oper.looksAt
   rw [hg]
   exact List.mem_append.2 (.inr (by simp [hd]))))]
theorem Au5 {st:St} {o:Oper} {dst:Option Tmp} {v:AV} (h: ∀d,dst=some d→d∉o.looksAt ops):Xp T Γ ops (st.put dst v) o=Xp T Γ ops st o:=by
 cases dst with
 |none=>rfl
 |some d=>
  obtain ⟨ts,H⟩:=st
  refine Azr fun t ht=>?_
  show (Lm ts d v).getD t .undef=ts.getD t .undef
  rw [Qi,if_neg]
  rintro ⟨rfl,_⟩
  exact h d rfl ht
theorem St.put_comm (st:St) {x y:Option Tmp} (v u:AV) (h: ∀d,x=some d→y≠some d):(st.put x v).put y u=(st.put y u).put x v:=by
 cases x with
 |none=>cases y<;>rfl
 |some a=>
  cases y with
  |none=>rfl
  |some b=>
   have hne:a≠b:=fun e=>h a rfl (by rw [e])
   simp only [St.put,St.mk.injEq,and_true]
   rw [Ma,Ma,Ma,Ma]
   exact List.set_comm _ _ hne
theorem Vf {st:St} {a:Act} (h:Ad X π st a w) (j:Nat):
  (∀b,Mv st ((ops[j]?).bind (·.dst))=some (some b)→yielded ops a.tmps j=some b)∧(Mv st ((ops[j]?).bind (·.dst))=some none→yielded ops a.tmps j=none):=by
 unfold yielded
 cases hd:(ops[j]?).bind (·.dst) with
 |none=>constructor<;>simp [Mv]
 |some d=>
  simp only [Mv,Option.bind_some]
  have hr:=h.2.tmps d
  constructor
  ·intro b hb
   split at hb
   ·rename_i fr b' hg
    simp only [Option.some.injEq] at hb;subst hb
    rw [hg] at hr
    have:=Om hr
    cases ht:a.tmps[d]? with
    |none=>
     rw [Array.getD_eq_getD_getElem?,ht] at this
     cases this
    |some v=>
     rw [Array.getD_eq_getD_getElem?,ht] at this
     simp only [Option.getD_some] at this
     rw [this]
   ·cases hb
   ·cases hb
  ·intro hb
   split at hb
   ·cases hb
   ·rename_i hg
    rw [hg] at hr
    have hv:a.tmps.getD d undef=undef:=hr
    cases ht:a.tmps[d]? with
    |none=>rfl
    |some v=>
     rw [Array.getD_eq_getD_getElem?,ht] at hv
     simp only [Option.getD_some] at hv
     rw [hv];rfl
   ·cases hb
theorem Ahh {Q:Exit→Act→World→Prop} {K:Act→World→Prop} {st':St} {a:Act} {o:Oper} {av:AV} (h:Xr P X st' a w av ((execOp a.eval o).run P w))
  (hK: ∀a' w',Rel X (st'.put o.dst av) a' w'→K a' w'):o.wp P a w K Q:=by
 unfold Oper.wp
 generalize (execOp a.eval o).run P w=r at*
 cases r with
 |halt x w'=>exact h.elim
 |ok n w'=>
  cases n<;>simp only [Xr] at h<;>simp only [Oper.upon]
  ·obtain ⟨π',h1,h2⟩:=h
   exact hK _ _ ⟨π',h1.put o.dst h2⟩
  ·obtain ⟨π',h1,h2⟩:=h
   exact hK _ _ ⟨π',h1.put o.dst h2⟩
  ·obtain ⟨rfl,hc⟩:=h
   refine hc.mono ?_
   rintro e w'' ⟨v,rfl,π',h1,h2⟩
   exact hK _ _ ⟨π',h1.put o.dst h2⟩
theorem Atp {st:St} :Ai X w π st.heap (.at .skip) undef:=rfl
theorem Qt (hT:Bt P T) (hΓ:Fl P Γ) {Q:Exit→Act→World→Prop} {K:Act→World→Prop} {st st':St} {a:Act} (h:Ad X π st a w) (o:Oper) (he:Ca T Γ ops st o=some st')
  (hK: ∀a' w',Rel X st' a' w'→K a' w'):if Region.wanted o (yielded ops a.tmps) then o.wp P a w K Q∨(o.asks P a w∧LetsOut Q) else K (a.put o.dst undef) w:=by
 have run:(evalOp T Γ st o).map (fun r=>r.2.put o.dst r.1)=some st'→o.wp P a w K Q:=by
  intro he
  cases hr:evalOp T Γ st o with
  |none=>rw [hr] at he;cases he
  |some r=>
   rw [hr] at he
   simp only [Option.map_some,Option.some.injEq] at he;subst he
   exact Ahh (Aod hT hΓ h o r.1 r.2 hr) hK
 have skip:some (st.put o.dst (.at .skip))=some st'→K (a.put o.dst undef) w:=by
  intro he
  simp only [Option.some.injEq] at he;subst he
  exact hK _ _ ⟨π,h.put o.dst Atp⟩
 unfold Ca at he
 split at he
 ·rename_i hg
  rw [if_pos (by simp [Region.wanted,hg])]
  exact .inl (run he)
 ·rename_i j want hg
  split at he
  ·rename_i b hb
   have hy:=(Vf h j).1 b hb
   split at he
   ·rename_i hbw
    rw [if_pos (by simp only [Region.wanted,hg,hy];simpa using hbw)]
    exact .inl (run he)
   ·rename_i hbw
    rw [if_neg (by simp only [Region.wanted,hg,hy];simpa using hbw)]
    exact skip he
  ·rename_i hb
   have hy:=(Vf h j).2 hb
   rw [if_neg (by simp [Region.wanted,hg,hy])]
   exact skip he
  ·cases he
theorem Ab6 (hT:Bt P T) (hΓ:Fl P Γ) {Q:Exit→Act→World→Prop} : ∀(l:List Oper) (st st':St) (a:Act) (w:World),Rel X st a w→Po T Γ ops l st=some st'→
  (∀a' w',Rel X st' a' w'→Q .normal a' w')→wpList P ops Q l a w
 | [],st,st',a,w,h,he,hQ=>by
  simp only [Po,Option.some.injEq] at he;subst he
  exact hQ _ _ h
 |o::r,st,st',a,w,⟨π,h⟩,he,hQ=>by
  simp only [Po] at he
  split at he
  ·rename_i st1 h1
   exact Qt hT hΓ h o h1 fun a' w' h'=>Ab6 hT hΓ r st1 st' a' w' h' he hQ
  ·cases he
theorem Ab2 (hT:Bt P T) (hΓ:Fl P Γ) {Q:Exit→Act→World→Prop} : ∀(l:List Nat) (st st':St) (a:Act) (w:World),Rel X st a w→Hd T Γ ops l st=some st'→
  (∀a' w',Rel X st' a' w'→Q .normal a' w')→wpOps P ops Q l a w
 | [],st,st',a,w,h,he,hQ=>by
  simp only [Hd,Option.some.injEq] at he;subst he
  exact hQ _ _ h
 |i::r,st,st',a,w,⟨π,h⟩,he,hQ=>by
  simp only [Hd] at he
  split at he
  ·cases he
  ·rename_i o ho
   split at he
   ·rename_i st1 h1
    simp only [wpOps,ho]
    exact Qt hT hΓ h o h1 fun a' w' h'=>Ab2 hT hΓ r st1 st' a' w' h' he hQ
   ·cases he
end
end Go.Proofs.Ytebabhocakedaaa
