/-
  Part 24 of the proof that the statement FnCommutatorMacros holds.
-/
import Derived.Test.YtfgfigkbgecfnaaCFCommutatorMacros22
import Derived.LoopN
namespace Go.Proofs.Ytfgfigkbgecfnaa
open Go.RowKit
section
variable {P:Program} {T:Tab} {Γ:Env} {X:Ctx} {w w':World} {π:Pi} {H:List (Nat×OB)} {ops:Array Oper}
theorem kE (t1 t2:List AV) (H:List (Nat×OB)) (τ:Ty) (c:AC):Cn ⟨t1,H⟩ τ c=Cn ⟨t2,H⟩ τ c:=by
 cases c<;>cases τ<;>rfl
theorem eb (t1 t2:List AV) (H:List (Nat×OB)): ∀(τ:Ty) (cs:List AC),Dn ⟨t1,H⟩ τ cs=Dn ⟨t2,H⟩ τ cs:=by
 have one: ∀(τ:Ty) (cs:List AC),τ.Ak=false->Dn ⟨t1,H⟩ τ cs=Dn ⟨t2,H⟩ τ cs:=by
  intro τ cs h
  rw [Pu h,Pu h]
  rcases cs with _|⟨c,_|⟨d,r⟩⟩
  ·rfl
  ·exact kE t1 t2 H τ c
  ·rfl
 intro τ
 induction τ with
 |unit=>intro cs;cases cs<;>rfl
 |pair a r cC cw=>intro cs;simp only [Dn];rw [cC,cw]
 |_=>exact λcs=>one _ cs rfl
theorem iN (t1 t2:List AV) (H:List (Nat×OB)) (τ:Ty) (l i:Nat):Qc ⟨t1,H⟩ τ l i=Qc ⟨t2,H⟩ τ l i:=by
 unfold Qc
 simp only [St.at]
 split
 ·exact eb t1 t2 H _ _
 ·rfl
theorem oE (t1 t2:List AV) (H:List (Nat×OB)): ∀(τ:Ty) (cs:List (Nat×Nat)),Ij ⟨t1,H⟩ τ cs=Ij ⟨t2,H⟩ τ cs:=by
 intro τ
 induction τ with
 |unit=>intro cs;cases cs<;>rfl
 |pair a r _ cw=>
  intro cs
  cases a with
  |ptr a=>
   cases cs with
   |nil=>rfl
   |cons c cs=>simp only [Ij];rw [iN t1 t2 H,cw]
  |_=>cases cs<;>rfl
 |_=>intro cs;cases cs<;>rfl
theorem se (t1 t2:List AV) (H:List (Nat×OB)) (τ:Ty) (c:AC):Hc ⟨t1,H⟩ τ c=Hc ⟨t2,H⟩ τ c:=by
 cases τ<;>cases c<;>simp only [Hc]<;>first|rfl|exact kE t1 t2 H _ _|(rw [iN t1 t2 H])|(split;exact oE t1 t2 H _ _;rfl)
theorem Yy (t1 t2:List AV) (H:List (Nat×OB)) (τ:Ty) (c:AV):Dz ⟨t1,H⟩ τ c=Dz ⟨t2,H⟩ τ c:=by
 cases c with
 | «at»a=>cases a<;>simp only [Dz]<;>first|rfl|rw [se t1 t2 H]
 |agg cs=>simp only [Dz];rw [eb t1 t2 H]
 |Wh fr Lg x=>rfl
 |Jy l=>rfl
theorem fy (t1 t2:List AV) (H:List (Nat×OB)): ∀(τ:Ty) (cs:List AV),Cs ⟨t1,H⟩ τ cs=Cs ⟨t2,H⟩ τ cs:=by
 intro τ
 induction τ with
 |pair a r cC cw=>
  intro cs
  cases cs with
  |nil=>rfl
  |cons c cs=>simp only [Cs];rw [Yy t1 t2 H,cw]
 |_=>intro cs;cases cs<;>rfl
theorem yI (t1 t2:List AV) (H:List (Nat×OB)) (c:AV):tF ⟨t1,H⟩ c=tF ⟨t2,H⟩ c:=by
 cases c with
 | «at»a=>cases a<;>rfl
 |_=>rfl
theorem CN {o:Oper} {t:Tmp} (h:Operand.tmp t∈o.op.operands.toList):t∈o.looksAt ops:=by
 unfold Oper.looksAt
 refine Av.2 (.inl (List.mem_filterMap.2 ⟨_,h,rfl⟩))
theorem xo {t1 t2:List AV} {H:List (Nat×OB)} {o:Oper} (hs: ∀t,t∈o.looksAt ops->t1.getD t .undef=t2.getD t .undef) (x:Operand) (hx:x∈o.op.operands.toList):
  St.ev ⟨t1,H⟩ x=St.ev ⟨t2,H⟩ x:=by
 cases x with
 |tmp t=>exact hs t (CN hx)
 |const v=>rfl
 |global g=>rfl
 |func f=>rfl
theorem vH {t1 t2:List AV} {H:List (Nat×OB)} {o:Oper} (hs: ∀t,t∈o.looksAt ops->t1.getD t .undef=t2.getD t .undef):Dq T Γ ⟨t1,H⟩ o=Dq T Γ ⟨t2,H⟩ o:=by
 have he:= λx hx=>xo (H:=H) hs x hx
 obtain ⟨dst,op,ty,pos,af,gd⟩:=o
 dsimp only at he
 cases op with
 |move x=>simp only [Dq];rw [he x (by simp [Op.operands])]
 |assign x=>simp only [Dq];rw [he x (by simp [Op.operands])]
 |pick c x y=>simp only [Dq];rw [he c (by simp [Op.operands]),he x (by simp [Op.operands]),he y (by simp [Op.operands])]
 |load t x=>simp only [Dq];rw [he x (by simp [Op.operands])];rfl
 |nilCheck x=>simp only [Dq];rw [he x (by simp [Op.operands])]
 |binOp op t x y t'=>simp only [Dq];rw [he x (by simp [Op.operands]),he y (by simp [Op.operands])]
 |unOp op t x=>simp only [Dq];rw [he x (by simp [Op.operands])]
 |convert s t x=>simp only [Dq];rw [he x (by simp [Op.operands])];simp only [Yy t1 t2 H]
 |makeFunc fn first Cx=>
  cases fn with
  |func f=>
   simp only [Dq]
   have ha:Cx.toList.map (St.ev ⟨t1,H⟩)=Cx.toList.map (St.ev ⟨t2,H⟩):=Fw λx hx=>he x (by
    simp only [Op.operands,Array.toList_append,Av]
    exact .inr hx)
   have hb:first.toList.map (St.ev ⟨t1,H⟩)=first.toList.map (St.ev ⟨t2,H⟩):=Fw λx hx=>he x (by
    simp only [Op.operands,Array.toList_append,Av]
    exact .inl hx)
   rw [ha,hb]
  |_=>rfl
 |lookup t m k ok=>simp only [Dq];rw [he m (by simp [Op.operands]),he k (by simp [Op.operands])];unfold aV;simp only [Yy t1 t2 H]
 |slice t x lo hi mx=>
  simp only [Dq]
  rw [he x (by simp [Op.operands])]
  have h1:lo.map (St.ev ⟨t1,H⟩)=lo.map (St.ev ⟨t2,H⟩):=by
   cases lo with
   |none=>rfl
   |some y=>simp only [Ah];rw [he y (by simp [Op.operands])]
  have h2:hi.map (St.ev ⟨t1,H⟩)=hi.map (St.ev ⟨t2,H⟩):=by
   cases hi with
   |none=>rfl
   |some y=>simp only [Ah];rw [he y (by simp [Op.operands])]
  rw [h1,h2];rfl
 |fieldAddr s x f=>simp only [Dq];rw [he x (by simp [Op.operands])]
 |field s x f=>simp only [Dq];rw [he x (by simp [Op.operands])]
 |indexAddr t x i=>simp only [Dq];rw [he x (by simp [Op.operands]),he i (by simp [Op.operands])];rfl
 |index t x i=>simp only [Dq];rw [he x (by simp [Op.operands]),he i (by simp [Op.operands])]
 |extract x i=>simp only [Dq];rw [he x (by simp [Op.operands])]
 |call c=>
  obtain ⟨callee,args,ts⟩:=c
  have ha:args.toList.map (St.ev ⟨t1,H⟩)=args.toList.map (St.ev ⟨t2,H⟩):=Fw λx hx=>he x (by
   simp only [Op.operands,Call.operands,Array.toList_append,Av]
   exact .inr hx)
  cases callee with
  |value f=>
   cases f with
   |func f=>
    simp only [Dq]
    rw [ha]
    unfold Lq
    simp only [fy t1 t2 H]
   |tmp t=>
    simp only [Dq]
    have:=he (.tmp t) (by simp [Op.operands,Call.operands])
    simp only [St.ev] at this
    rw [ha,this]
    unfold Sq Lq
    simp only [fy t1 t2 H]
   |_=>rfl
  |invoke r m=>rfl
  |builtin b=>
   cases b with
   |len=>
    simp only [Dq]
    split
    ·rename_i x t hx ht
     rw [he x (by
      simp only [Op.operands,Call.operands,Array.toList_append,Av]
      exact .inr (by rw [hx];simp))]
     simp only [yI t1 t2 H]
    ·rfl
   |min=>simp only [Dq];rw [ha]
   |max=>simp only [Dq];rw [ha]
   |_=>rfl
 |_=>rfl
theorem sI {t1 t2:List AV} {H:List (Nat×OB)} (t:Option Tmp) (hs: ∀d,t=some d->t1.getD d .undef=t2.getD d .undef):Si ⟨t1,H⟩ t=Si ⟨t2,H⟩ t:=by
 cases t with
 |none=>rfl
 |some d=>simp only [Si,St.get];rw [hs d rfl]
theorem km {t1 t2:List AV} {H:List (Nat×OB)} (e:Ty): ∀(l:List (Nat×Operand)) (i:Nat),(∀p∈l,St.ev ⟨t1,H⟩ p.2=St.ev ⟨t2,H⟩ p.2)->bp e i l ⟨t1,H⟩=bp e i l ⟨t2,H⟩
 | [],_,_=>rfl
 |(j,x)::r,i,h=>by
  have h1:=h (j,x) (by simp)
  dsimp only at h1
  simp only [bp]
  rw [h1,Yy t1 t2 H,km e r (i+1) λp hp=>h p (Aq _ hp)]
theorem bT {t1 t2:List AV} {H:List (Nat×OB)} (t:TypeId): ∀(l:List (Nat×Operand)) (cs:List AC),(∀p∈l,St.ev ⟨t1,H⟩ p.2=St.ev ⟨t2,H⟩ p.2)->Jr T ⟨t1,H⟩ t l cs=Jr T ⟨t2,H⟩ t l cs
 | [],_,_=>rfl
 |(j,x)::r,cs,h=>by
  have h1:=h (j,x) (by simp)
  dsimp only at h1
  simp only [Jr]
  rw [h1]
  have ih: ∀cX,Jr T ⟨t1,H⟩ t r cX=Jr T ⟨t2,H⟩ t r cX:= λcX=>bT t r cX λp hp=>h p (Aq _ hp)
  simp only [ih]
theorem vG {t1 t2:List AV} {H:List (Nat×OB)} {o:Oper} (hs: ∀t,t∈o.looksAt ops->t1.getD t .undef=t2.getD t .undef):Se T Γ ⟨t1,H⟩ o=Se T Γ ⟨t2,H⟩ o:=by
 have he:= λx hx=>xo (H:=H) hs x hx
 have hq:=vH (T:=T) (Γ:=Γ) (H:=H) hs
 obtain ⟨dst,op,ty,pos,af,gd⟩:=o
 dsimp only at he
 unfold Se
 cases op with
 |buildSlice t len parts=>
  dsimp only
  have hp: ∀p∈parts.toList,St.ev ⟨t1,H⟩ p.2=St.ev ⟨t2,H⟩ p.2:= λp hp=>he p.2 (by simp only [Op.operands,Bq];exact ⟨p,hp,rfl⟩)
  unfold Ws
  simp only [km _ _ _ hp]
 |build t parts=>
  dsimp only
  have hp: ∀p∈parts.toList,St.ev ⟨t1,H⟩ p.2=St.ev ⟨t2,H⟩ p.2:= λp hp=>he p.2 (by simp only [Op.operands,Bq];exact ⟨p,hp,rfl⟩)
  unfold Sn
  simp only [bT _ _ _ hp]
 |_=>exact hq
theorem pT {t1 t2:List AV} {H:List (Nat×OB)} {o:Oper} (hs: ∀t,t∈o.looksAt ops->t1.getD t .undef=t2.getD t .undef):Sd T Γ ops ⟨t1,H⟩ o=Sd T Γ ops ⟨t2,H⟩ o:=by
 unfold Sd
 rw [vG hs]
 split
 ·rfl
 ·rename_i j want hg
  rw [sI ((ops[j]?).bind (·.dst)) (λd hd=>hs d (by
   unfold Oper.looksAt
   rw [hg]
   exact Av.2 (.inr (by simp [hd]))))]
theorem uJ {st:St} {o:Oper} {dst:Option Tmp} {v:AV} (h: ∀d,dst=some d->d∉o.looksAt ops):Sd T Γ ops (st.put dst v) o=Sd T Γ ops st o:=by
 cases dst with
 |none=>rfl
 |some d=>
  obtain ⟨ts,H⟩:=st
  refine pT λt ht=>?_
  show (Oo ts d v).getD t .undef=ts.getD t .undef
  rw [Ng,Aj]
  rintro ⟨rfl,_⟩
  exact h d rfl ht
theorem St.put_comm (st:St) {x y:Option Tmp} (v u:AV) (h: ∀d,x=some d->y≠some d):(st.put x v).put y u=(st.put y u).put x v:=by
 cases x with
 |none=>cases y<;>rfl
 |some a=>
  cases y with
  |none=>rfl
  |some b=>
   have Hs:a≠b:= λe=>h a rfl (by rw [e])
   simp only [St.put,St.mk.injEq,cA]
   rw [Qt,Qt,Qt,Qt]
   exact List.set_comm _ _ Hs
theorem aR {st:St} {a:Act} (h:Ax X π st a w) (j:Nat):
  (∀b,Si st ((ops[j]?).bind (·.dst))=some (some b)->yielded ops a.tmps j=some b)/\(Si st ((ops[j]?).bind (·.dst))=some none->yielded ops a.tmps j=none):=by
 unfold yielded
 cases hd:(ops[j]?).bind (·.dst) with
 |none=>constructor<;>simp [Si]
 |some d=>
  simp only [Si,Dw]
  have hr:=h.2.tmps d
  constructor
  ·intro b hb
   split at hb
   ·rename_i fr b' hg
    simp only [Aa] at hb;subst hb
    rw [hg] at hr
    have:=Un hr
    cases ht:a.tmps[d]? with
    |none=>
     rw [Xr,ht] at this
     cases this
    |some v=>
     rw [Xr,ht] at this
     simp only [Option.getD_some] at this
     rw [this]
   ·cases hb
   ·cases hb
  ·intro hb
   split at hb
   ·cases hb
   ·rename_i hg
    rw [hg] at hr
    have hv:a.tmps.getD d undef=undef:=hr
    cases ht:a.tmps[d]? with
    |none=>rfl
    |some v=>
     rw [Xr,ht] at hv
     simp only [Option.getD_some] at hv
     rw [hv];rfl
   ·cases hb
theorem kG {Q:Exit->Act->World->Prop} {K:Act->World->Prop} {st':St} {a:Act} {o:Oper} {av:AV} (h:cG P X st' a w av ((execOp a.eval o).run P w))
  (hK: ∀a' w',Rel X (st'.put o.dst av) a' w'->K a' w'):o.wp P a w K Q:=by
 unfold Oper.wp
 generalize (execOp a.eval o).run P w=r at*
 cases r with
 |halt x w'=>exact h.elim
 |ok n w'=>
  cases n<;>simp only [cG] at h<;>simp only [Oper.upon]
  ·obtain ⟨π',h1,h2⟩:=h
   exact hK _ _ ⟨π',h1.put o.dst h2⟩
  ·obtain ⟨π',h1,h2⟩:=h
   exact hK _ _ ⟨π',h1.put o.dst h2⟩
  ·obtain ⟨rfl,hc⟩:=h
   refine hc.mono ?_
   rintro e kF ⟨v,rfl,π',h1,h2⟩
   exact hK _ _ ⟨π',h1.put o.dst h2⟩
theorem uo {st:St} :Ba X w π st.heap (.at .skip) undef:=rfl
theorem Rh (hT:De P T) (Ls:Ib P Γ) {Q:Exit->Act->World->Prop} {K:Act->World->Prop} {st st':St} {a:Act} (h:Ax X π st a w) (o:Oper) (he:Dl T Γ ops st o=some st')
  (hK: ∀a' w',Rel X st' a' w'->K a' w'):if Region.wanted o (yielded ops a.tmps) then o.wp P a w K Q\/(o.asks P a w/\LetsOut Q) else K (a.put o.dst undef) w:=by
 have run:(evalOp T Γ st o).map (λr=>r.2.put o.dst r.1)=some st'->o.wp P a w K Q:=by
  intro he
  cases hr:evalOp T Γ st o with
  |none=>rw [hr] at he;cases he
  |some r=>
   rw [hr] at he
   simp only [Ah,Aa] at he;subst he
   exact kG (ql hT Ls h o r.1 r.2 hr) hK
 have skip:some (st.put o.dst (.at .skip))=some st'->K (a.put o.dst undef) w:=by
  intro he
  simp only [Aa] at he;subst he
  exact hK _ _ ⟨π,h.put o.dst uo⟩
 unfold Dl at he
 split at he
 ·rename_i hg
  rw [Af (by simp [Region.wanted,hg])]
  exact .inl (run he)
 ·rename_i j want hg
  split at he
  ·rename_i b hb
   have hy:=(aR h j).1 b hb
   split at he
   ·rename_i BB
    rw [Af (by simp only [Region.wanted,hg,hy];simpa using BB)]
    exact .inl (run he)
   ·rename_i BB
    rw [Aj (by simp only [Region.wanted,hg,hy];simpa using BB)]
    exact skip he
  ·rename_i hb
   have hy:=(aR h j).2 hb
   rw [Aj (by simp [Region.wanted,hg,hy])]
   exact skip he
  ·cases he
theorem eU (hT:De P T) (Ls:Ib P Γ) {Q:Exit->Act->World->Prop} : ∀(l:List Oper) (st st':St) (a:Act) (w:World),Rel X st a w->Vl T Γ ops l st=some st'->
  (∀a' w',Rel X st' a' w'->Q .normal a' w')->wpList P ops Q l a w
 | [],st,st',a,w,h,he,hQ=>by
  simp only [Vl,Aa] at he;subst he
  exact hQ _ _ h
 |o::r,st,st',a,w,⟨π,h⟩,he,hQ=>by
  simp only [Vl] at he
  split at he
  ·rename_i st1 h1
   exact Rh hT Ls h o h1 λa' w' h'=>eU hT Ls r st1 st' a' w' h' he hQ
  ·cases he
theorem eQ (hT:De P T) (Ls:Ib P Γ) {Q:Exit->Act->World->Prop} : ∀(l:List Nat) (st st':St) (a:Act) (w:World),Rel X st a w->Kb T Γ ops l st=some st'->
  (∀a' w',Rel X st' a' w'->Q .normal a' w')->wpOps P ops Q l a w
 | [],st,st',a,w,h,he,hQ=>by
  simp only [Kb,Aa] at he;subst he
  exact hQ _ _ h
 |i::r,st,st',a,w,⟨π,h⟩,he,hQ=>by
  simp only [Kb] at he
  split at he
  ·cases he
  ·rename_i o ho
   split at he
   ·rename_i st1 h1
    simp only [wpOps,ho]
    exact Rh hT Ls h o h1 λa' w' h'=>eQ hT Ls r st1 st' a' w' h' he hQ
   ·cases he
end
end Go.Proofs.Ytfgfigkbgecfnaa
