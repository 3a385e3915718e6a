/-
  Part 24 of the proof that the statement FnExactProvesNoSolutionWithin holds.
-/
import Derived.Test.YtfolipnappekaaaGreatCProvesNoSolutionWithin22
import Derived.LoopN
namespace Go.Proofs.YtfolipnappekaaaGreat
open Go.RowKit
section
variable {P:Program} {T:Tab} {Γ:Env} {X:Ctx} {w w':World} {π:Pi} {H:List (Nat×OB)} {ops:Array Oper}
theorem nQ (t1 t2:List AV) (H:List (Nat×OB)) (τ:Ty) (c:AC):Bp ⟨t1,H⟩ τ c=Bp ⟨t2,H⟩ τ c:=by
 cases c<;>cases τ<;>rfl
theorem eX (t1 t2:List AV) (H:List (Nat×OB)): ∀(τ:Ty) (cs:List AC),Cu ⟨t1,H⟩ τ cs=Cu ⟨t2,H⟩ τ cs:=by
 have one: ∀(τ:Ty) (cs:List AC),τ.Ac=false->Cu ⟨t1,H⟩ τ cs=Cu ⟨t2,H⟩ τ cs:=by
  intro τ cs h
  rw [Ok h,Ok h]
  rcases cs with _|⟨c,_|⟨d,r⟩⟩
  ·rfl
  ·exact nQ t1 t2 H τ c
  ·rfl
 intro τ
 induction τ with
 |unit=>intro cs;cases cs<;>rfl
 |pair a r jm fv=>intro cs;simp only [Cu];rw [jm,fv]
 |_=>exact λcs=>one _ cs rfl
theorem l9 (t1 t2:List AV) (H:List (Nat×OB)) (τ:Ty) (l i:Nat):Oz ⟨t1,H⟩ τ l i=Oz ⟨t2,H⟩ τ l i:=by
 unfold Oz
 simp only [St.at]
 split
 ·exact eX t1 t2 H _ _
 ·rfl
theorem tB (t1 t2:List AV) (H:List (Nat×OB)): ∀(τ:Ty) (cs:List (Nat×Nat)),Gp ⟨t1,H⟩ τ cs=Gp ⟨t2,H⟩ τ cs:=by
 intro τ
 induction τ with
 |unit=>intro cs;cases cs<;>rfl
 |pair a r _ fv=>
  intro cs
  cases a with
  |ptr a=>
   cases cs with
   |nil=>rfl
   |cons c cs=>simp only [Gp];rw [l9 t1 t2 H,fv]
  |_=>cases cs<;>rfl
 |_=>intro cs;cases cs<;>rfl
theorem xO (t1 t2:List AV) (H:List (Nat×OB)) (τ:Ty) (c:AC):Fp ⟨t1,H⟩ τ c=Fp ⟨t2,H⟩ τ c:=by
 cases τ<;>cases c<;>simp only [Fp]<;>first|rfl|exact nQ t1 t2 H _ _|(rw [l9 t1 t2 H])|(split;exact tB t1 t2 H _ _;rfl)
theorem Zt (t1 t2:List AV) (H:List (Nat×OB)) (τ:Ty) (c:AV):Cv ⟨t1,H⟩ τ c=Cv ⟨t2,H⟩ τ c:=by
 cases c with
 | «at»a=>cases a<;>simp only [Cv]<;>first|rfl|rw [xO t1 t2 H]
 |agg cs=>simp only [Cv];rw [eX t1 t2 H]
 |Xa fr Jr x=>rfl
 |Ih l=>rfl
theorem ij (t1 t2:List AV) (H:List (Nat×OB)): ∀(τ:Ty) (cs:List AV),Bt ⟨t1,H⟩ τ cs=Bt ⟨t2,H⟩ τ cs:=by
 intro τ
 induction τ with
 |pair a r jm fv=>
  intro cs
  cases cs with
  |nil=>rfl
  |cons c cs=>simp only [Bt];rw [Zt t1 t2 H,fv]
 |_=>intro cs;cases cs<;>rfl
theorem MO (t1 t2:List AV) (H:List (Nat×OB)) (c:AV):zy ⟨t1,H⟩ c=zy ⟨t2,H⟩ c:=by
 cases c with
 | «at»a=>cases a<;>rfl
 |_=>rfl
theorem TF {o:Oper} {t:Tmp} (h:Operand.tmp t∈o.op.operands.toList):t∈o.looksAt ops:=by
 unfold Oper.looksAt
 refine List.mem_append.2 (.inl (List.mem_filterMap.2 ⟨_,h,rfl⟩))
theorem JE {t1 t2:List AV} {H:List (Nat×OB)} {o:Oper} (hs: ∀t,t∈o.looksAt ops->t1.getD t .undef=t2.getD t .undef) (x:Operand) (hx:x∈o.op.operands.toList):
  St.ev ⟨t1,H⟩ x=St.ev ⟨t2,H⟩ x:=by
 cases x with
 |tmp t=>exact hs t (TF hx)
 |const v=>rfl
 |global g=>rfl
 |func f=>rfl
theorem DY {t1 t2:List AV} {H:List (Nat×OB)} {o:Oper} (hs: ∀t,t∈o.looksAt ops->t1.getD t .undef=t2.getD t .undef):Cm T Γ ⟨t1,H⟩ o=Cm T Γ ⟨t2,H⟩ o:=by
 have he:= λx hx=>JE (H:=H) hs x hx
 obtain ⟨dst,op,ty,pos,af,gd⟩:=o
 dsimp only at he
 cases op with
 |move x=>simp only [Cm];rw [he x (by simp [Op.operands])]
 |assign x=>simp only [Cm];rw [he x (by simp [Op.operands])]
 |pick c x y=>simp only [Cm];rw [he c (by simp [Op.operands]),he x (by simp [Op.operands]),he y (by simp [Op.operands])]
 |load t x=>simp only [Cm];rw [he x (by simp [Op.operands])];rfl
 |nilCheck x=>simp only [Cm];rw [he x (by simp [Op.operands])]
 |binOp op t x y t'=>simp only [Cm];rw [he x (by simp [Op.operands]),he y (by simp [Op.operands])]
 |unOp op t x=>simp only [Cm];rw [he x (by simp [Op.operands])]
 |convert s t x=>simp only [Cm];rw [he x (by simp [Op.operands])];simp only [Zt t1 t2 H]
 |makeFunc fn first Ca=>
  cases fn with
  |func f=>
   simp only [Cm]
   have ha:Ca.toList.map (St.ev ⟨t1,H⟩)=Ca.toList.map (St.ev ⟨t2,H⟩):=List.map_congr_left λx hx=>he x (by
    simp only [Op.operands,Array.toList_append,List.mem_append]
    exact .inr hx)
   have hb:first.toList.map (St.ev ⟨t1,H⟩)=first.toList.map (St.ev ⟨t2,H⟩):=List.map_congr_left λx hx=>he x (by
    simp only [Op.operands,Array.toList_append,List.mem_append]
    exact .inl hx)
   rw [ha,hb]
  |_=>rfl
 |lookup t m k ok=>simp only [Cm];rw [he m (by simp [Op.operands]),he k (by simp [Op.operands])];unfold bz;simp only [Zt t1 t2 H]
 |slice t x lo hi mx=>
  simp only [Cm]
  rw [he x (by simp [Op.operands])]
  have h1:lo.map (St.ev ⟨t1,H⟩)=lo.map (St.ev ⟨t2,H⟩):=by
   cases lo with
   |none=>rfl
   |some y=>simp only [Option.map_some];rw [he y (by simp [Op.operands])]
  have h2:hi.map (St.ev ⟨t1,H⟩)=hi.map (St.ev ⟨t2,H⟩):=by
   cases hi with
   |none=>rfl
   |some y=>simp only [Option.map_some];rw [he y (by simp [Op.operands])]
  rw [h1,h2];rfl
 |fieldAddr s x f=>simp only [Cm];rw [he x (by simp [Op.operands])]
 |field s x f=>simp only [Cm];rw [he x (by simp [Op.operands])]
 |indexAddr t x i=>simp only [Cm];rw [he x (by simp [Op.operands]),he i (by simp [Op.operands])];rfl
 |index t x i=>simp only [Cm];rw [he x (by simp [Op.operands]),he i (by simp [Op.operands])]
 |extract x i=>simp only [Cm];rw [he x (by simp [Op.operands])]
 |call c=>
  obtain ⟨callee,args,ts⟩:=c
  have ha:args.toList.map (St.ev ⟨t1,H⟩)=args.toList.map (St.ev ⟨t2,H⟩):=List.map_congr_left λx hx=>he x (by
   simp only [Op.operands,Call.operands,Array.toList_append,List.mem_append]
   exact .inr hx)
  cases callee with
  |value f=>
   cases f with
   |func f=>
    simp only [Cm]
    rw [ha]
    unfold Kc
    simp only [ij t1 t2 H]
   |tmp t=>
    simp only [Cm]
    have:=he (.tmp t) (by simp [Op.operands,Call.operands])
    simp only [St.ev] at this
    rw [ha,this]
    unfold Sm Kc
    simp only [ij t1 t2 H]
   |_=>rfl
  |invoke r m=>rfl
  |builtin b=>
   cases b with
   |len=>
    simp only [Cm]
    split
    ·rename_i x t hx ht
     rw [he x (by
      simp only [Op.operands,Call.operands,Array.toList_append,List.mem_append]
      exact .inr (by rw [hx];simp))]
     simp only [MO t1 t2 H]
    ·rfl
   |min=>simp only [Cm];rw [ha]
   |max=>simp only [Cm];rw [ha]
   |_=>rfl
 |_=>rfl
theorem yD {t1 t2:List AV} {H:List (Nat×OB)} (t:Option Tmp) (hs: ∀d,t=some d->t1.getD d .undef=t2.getD d .undef):Sb ⟨t1,H⟩ t=Sb ⟨t2,H⟩ t:=by
 cases t with
 |none=>rfl
 |some d=>simp only [Sb,St.get];rw [hs d rfl]
theorem nz {t1 t2:List AV} {H:List (Nat×OB)} (e:Ty): ∀(l:List (Nat×Operand)) (i:Nat),(∀p∈l,St.ev ⟨t1,H⟩ p.2=St.ev ⟨t2,H⟩ p.2)->bQ e i l ⟨t1,H⟩=bQ e i l ⟨t2,H⟩
 | [],_,_=>rfl
 |(j,x)::r,i,h=>by
  have h1:=h (j,x) (by simp)
  dsimp only at h1
  simp only [bQ]
  rw [h1,Zt t1 t2 H,nz e r (i+1) λp hp=>h p (List.mem_cons_of_mem _ hp)]
theorem cw {t1 t2:List AV} {H:List (Nat×OB)} (t:TypeId): ∀(l:List (Nat×Operand)) (cs:List AC),(∀p∈l,St.ev ⟨t1,H⟩ p.2=St.ev ⟨t2,H⟩ p.2)->Hu T ⟨t1,H⟩ t l cs=Hu T ⟨t2,H⟩ t l cs
 | [],_,_=>rfl
 |(j,x)::r,cs,h=>by
  have h1:=h (j,x) (by simp)
  dsimp only at h1
  simp only [Hu]
  rw [h1]
  have ih: ∀dx,Hu T ⟨t1,H⟩ t r dx=Hu T ⟨t2,H⟩ t r dx:= λdx=>cw t r dx λp hp=>h p (List.mem_cons_of_mem _ hp)
  simp only [ih]
theorem DX {t1 t2:List AV} {H:List (Nat×OB)} {o:Oper} (hs: ∀t,t∈o.looksAt ops->t1.getD t .undef=t2.getD t .undef):Rv T Γ ⟨t1,H⟩ o=Rv T Γ ⟨t2,H⟩ o:=by
 have he:= λx hx=>JE (H:=H) hs x hx
 have hq:=DY (T:=T) (Γ:=Γ) (H:=H) hs
 obtain ⟨dst,op,ty,pos,af,gd⟩:=o
 dsimp only at he
 unfold Rv
 cases op with
 |buildSlice t len parts=>
  dsimp only
  have hp: ∀p∈parts.toList,St.ev ⟨t1,H⟩ p.2=St.ev ⟨t2,H⟩ p.2:= λp hp=>he p.2 (by simp only [Op.operands,List.mem_map];exact ⟨p,hp,rfl⟩)
  unfold Xh
  simp only [nz _ _ _ hp]
 |build t parts=>
  dsimp only
  have hp: ∀p∈parts.toList,St.ev ⟨t1,H⟩ p.2=St.ev ⟨t2,H⟩ p.2:= λp hp=>he p.2 (by simp only [Op.operands,List.mem_map];exact ⟨p,hp,rfl⟩)
  unfold Sk
  simp only [cw _ _ _ hp]
 |_=>exact hq
theorem vr {t1 t2:List AV} {H:List (Nat×OB)} {o:Oper} (hs: ∀t,t∈o.looksAt ops->t1.getD t .undef=t2.getD t .undef):Rt T Γ ops ⟨t1,H⟩ o=Rt T Γ ops ⟨t2,H⟩ o:=by
 unfold Rt
 rw [DX hs]
 split
 ·rfl
 ·rename_i j want hg
  rw [yD ((ops[j]?).bind (·.dst)) (λd hd=>hs d (by
   unfold Oper.looksAt
   rw [hg]
   exact List.mem_append.2 (.inr (by simp [hd]))))]
theorem BS {st:St} {o:Oper} {dst:Option Tmp} {v:AV} (h: ∀d,dst=some d->d∉o.looksAt ops):Rt T Γ ops (st.put dst v) o=Rt T Γ ops st o:=by
 cases dst with
 |none=>rfl
 |some d=>
  obtain ⟨ts,H⟩:=st
  refine vr λt ht=>?_
  show (Nm ts d v).getD t .undef=ts.getD t .undef
  rw [Lr,if_neg]
  rintro ⟨rfl,_⟩
  exact h d rfl ht
theorem St.put_comm (st:St) {x y:Option Tmp} (v u:AV) (h: ∀d,x=some d->y≠some d):(st.put x v).put y u=(st.put y u).put x v:=by
 cases x with
 |none=>cases y<;>rfl
 |some a=>
  cases y with
  |none=>rfl
  |some b=>
   have Ek:a≠b:= λe=>h a rfl (by rw [e])
   simp only [St.put,St.mk.injEq,and_true]
   rw [Qf,Qf,Qf,Qf]
   exact List.set_comm _ _ Ek
theorem bt {st:St} {a:Act} (h:Ak X π st a w) (j:Nat):
  (∀b,Sb st ((ops[j]?).bind (·.dst))=some (some b)->yielded ops a.tmps j=some b)/\(Sb st ((ops[j]?).bind (·.dst))=some none->yielded ops a.tmps j=none):=by
 unfold yielded
 cases hd:(ops[j]?).bind (·.dst) with
 |none=>constructor<;>simp [Sb]
 |some d=>
  simp only [Sb,Option.bind_some]
  have hr:=h.2.tmps d
  constructor
  ·intro b hb
   split at hb
   ·rename_i fr b' hg
    simp only [Option.some.injEq] at hb;subst hb
    rw [hg] at hr
    have:=Us hr
    cases ht:a.tmps[d]? with
    |none=>
     rw [Array.getD_eq_getD_getElem?,ht] at this
     cases this
    |some v=>
     rw [Array.getD_eq_getD_getElem?,ht] at this
     simp only [Option.getD_some] at this
     rw [this]
   ·cases hb
   ·cases hb
  ·intro hb
   split at hb
   ·cases hb
   ·rename_i hg
    rw [hg] at hr
    have hv:a.tmps.getD d undef=undef:=hr
    cases ht:a.tmps[d]? with
    |none=>rfl
    |some v=>
     rw [Array.getD_eq_getD_getElem?,ht] at hv
     simp only [Option.getD_some] at hv
     rw [hv];rfl
   ·cases hb
theorem nS {Q:Exit->Act->World->Prop} {K:Act->World->Prop} {st':St} {a:Act} {o:Oper} {av:AV} (h:dd P X st' a w av ((execOp a.eval o).run P w))
  (hK: ∀a' w',Rel X (st'.put o.dst av) a' w'->K a' w'):o.wp P a w K Q:=by
 unfold Oper.wp
 generalize (execOp a.eval o).run P w=r at*
 cases r with
 |halt x w'=>exact h.elim
 |ok n w'=>
  cases n<;>simp only [dd] at h<;>simp only [Oper.upon]
  ·obtain ⟨π',h1,h2⟩:=h
   exact hK _ _ ⟨π',h1.put o.dst h2⟩
  ·obtain ⟨π',h1,h2⟩:=h
   exact hK _ _ ⟨π',h1.put o.dst h2⟩
  ·obtain ⟨rfl,hc⟩:=h
   refine hc.mono ?_
   rintro e nR ⟨v,rfl,π',h1,h2⟩
   exact hK _ _ ⟨π',h1.put o.dst h2⟩
theorem AX {st:St} :Ao X w π st.heap (.at .skip) undef:=rfl
theorem Qq (hT:By P T) (Kn:Gq P Γ) {Q:Exit->Act->World->Prop} {K:Act->World->Prop} {st st':St} {a:Act} (h:Ak X π st a w) (o:Oper) (he:Ch T Γ ops st o=some st')
  (hK: ∀a' w',Rel X st' a' w'->K a' w'):if Region.wanted o (yielded ops a.tmps) then o.wp P a w K Q\/(o.asks P a w/\LetsOut Q) else K (a.put o.dst undef) w:=by
 have run:(evalOp T Γ st o).map (λr=>r.2.put o.dst r.1)=some st'->o.wp P a w K Q:=by
  intro he
  cases hr:evalOp T Γ st o with
  |none=>rw [hr] at he;cases he
  |some r=>
   rw [hr] at he
   simp only [Option.map_some,Option.some.injEq] at he;subst he
   exact nS (vY hT Kn h o r.1 r.2 hr) hK
 have skip:some (st.put o.dst (.at .skip))=some st'->K (a.put o.dst undef) w:=by
  intro he
  simp only [Option.some.injEq] at he;subst he
  exact hK _ _ ⟨π,h.put o.dst AX⟩
 unfold Ch at he
 split at he
 ·rename_i hg
  rw [if_pos (by simp [Region.wanted,hg])]
  exact .inl (run he)
 ·rename_i j want hg
  split at he
  ·rename_i b hb
   have hy:=(bt h j).1 b hb
   split at he
   ·rename_i RI
    rw [if_pos (by simp only [Region.wanted,hg,hy];simpa using RI)]
    exact .inl (run he)
   ·rename_i RI
    rw [if_neg (by simp only [Region.wanted,hg,hy];simpa using RI)]
    exact skip he
  ·rename_i hb
   have hy:=(bt h j).2 hb
   rw [if_neg (by simp [Region.wanted,hg,hy])]
   exact skip he
  ·cases he
theorem gE (hT:By P T) (Kn:Gq P Γ) {Q:Exit->Act->World->Prop} : ∀(l:List Oper) (st st':St) (a:Act) (w:World),Rel X st a w->Vz T Γ ops l st=some st'->
  (∀a' w',Rel X st' a' w'->Q .normal a' w')->wpList P ops Q l a w
 | [],st,st',a,w,h,he,hQ=>by
  simp only [Vz,Option.some.injEq] at he;subst he
  exact hQ _ _ h
 |o::r,st,st',a,w,⟨π,h⟩,he,hQ=>by
  simp only [Vz] at he
  split at he
  ·rename_i st1 h1
   exact Qq hT Kn h o h1 λa' w' h'=>gE hT Kn r st1 st' a' w' h' he hQ
  ·cases he
theorem gA (hT:By P T) (Kn:Gq P Γ) {Q:Exit->Act->World->Prop} : ∀(l:List Nat) (st st':St) (a:Act) (w:World),Rel X st a w->Ij T Γ ops l st=some st'->
  (∀a' w',Rel X st' a' w'->Q .normal a' w')->wpOps P ops Q l a w
 | [],st,st',a,w,h,he,hQ=>by
  simp only [Ij,Option.some.injEq] at he;subst he
  exact hQ _ _ h
 |i::r,st,st',a,w,⟨π,h⟩,he,hQ=>by
  simp only [Ij] at he
  split at he
  ·cases he
  ·rename_i o ho
   split at he
   ·rename_i st1 h1
    simp only [wpOps,ho]
    exact Qq hT Kn h o h1 λa' w' h'=>gA hT Kn r st1 st' a' w' h' he hQ
   ·cases he
end
end Go.Proofs.YtfolipnappekaaaGreat
