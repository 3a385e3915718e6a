/-
  Part 24 of the proof that the statement FnExactMethodLength holds.
-/
import Derived.Test.YtjbdmibbbpdnnaaCMethodLength22
import Derived.LoopN
namespace Go.Proofs.Ytjbdmibbbpdnnaa
open Go.RowKit
section
variable {P:Program} {T:Tab} {Γ:Env} {X:Ctx} {w w':World} {π:Pi} {H:List (Nat×OB)} {ops:Array Oper}
theorem lj (t1 t2:List AV) (H:List (Nat×OB)) (τ:Ty) (c:AC):Bm ⟨t1,H⟩ τ c=Bm ⟨t2,H⟩ τ c:=by
 cases c<;>cases τ<;>rfl
theorem dz (t1 t2:List AV) (H:List (Nat×OB)): ∀(τ:Ty) (cs:List AC),Cp ⟨t1,H⟩ τ cs=Cp ⟨t2,H⟩ τ cs:=by
 have one: ∀(τ:Ty) (cs:List AC),τ.Ac=false->Cp ⟨t1,H⟩ τ cs=Cp ⟨t2,H⟩ τ cs:=by
  intro τ cs h
  rw [Nf h,Nf h]
  rcases cs with _|⟨c,_|⟨d,r⟩⟩
  ·rfl
  ·exact lj t1 t2 H τ c
  ·rfl
 intro τ
 induction τ with
 |unit=>intro cs;cases cs<;>rfl
 |pair a r gA dQ=>intro cs;simp only [Cp];rw [gA,dQ]
 |_=>exact λcs=>one _ cs rfl
theorem iZ (t1 t2:List AV) (H:List (Nat×OB)) (τ:Ty) (l i:Nat):Nm ⟨t1,H⟩ τ l i=Nm ⟨t2,H⟩ τ l i:=by
 unfold Nm
 simp only [St.at]
 split
 ·exact dz t1 t2 H _ _
 ·rfl
theorem qa (t1 t2:List AV) (H:List (Nat×OB)): ∀(τ:Ty) (cs:List (Nat×Nat)),Gr ⟨t1,H⟩ τ cs=Gr ⟨t2,H⟩ τ cs:=by
 intro τ
 induction τ with
 |unit=>intro cs;cases cs<;>rfl
 |pair a r _ dQ=>
  intro cs
  cases a with
  |ptr a=>
   cases cs with
   |nil=>rfl
   |cons c cs=>simp only [Gr];rw [iZ t1 t2 H,dQ]
  |_=>cases cs<;>rfl
 |_=>intro cs;cases cs<;>rfl
theorem ux (t1 t2:List AV) (H:List (Nat×OB)) (τ:Ty) (c:AC):Fu ⟨t1,H⟩ τ c=Fu ⟨t2,H⟩ τ c:=by
 cases τ<;>cases c<;>simp only [Fu]<;>first|rfl|exact lj t1 t2 H _ _|(rw [iZ t1 t2 H])|(split;exact qa t1 t2 H _ _;rfl)
theorem Wz (t1 t2:List AV) (H:List (Nat×OB)) (τ:Ty) (c:AV):Ct ⟨t1,H⟩ τ c=Ct ⟨t2,H⟩ τ c:=by
 cases c with
 | «at»a=>cases a<;>simp only [Ct]<;>first|rfl|rw [ux t1 t2 H]
 |agg cs=>simp only [Ct];rw [dz t1 t2 H]
 |Uk fr Ji x=>rfl
 |Jg l=>rfl
theorem fa (t1 t2:List AV) (H:List (Nat×OB)): ∀(τ:Ty) (cs:List AV),Bs ⟨t1,H⟩ τ cs=Bs ⟨t2,H⟩ τ cs:=by
 intro τ
 induction τ with
 |pair a r gA dQ=>
  intro cs
  cases cs with
  |nil=>rfl
  |cons c cs=>simp only [Bs];rw [Wz t1 t2 H,dQ]
 |_=>intro cs;cases cs<;>rfl
theorem EK (t1 t2:List AV) (H:List (Nat×OB)) (c:AV):wj ⟨t1,H⟩ c=wj ⟨t2,H⟩ c:=by
 cases c with
 | «at»a=>cases a<;>rfl
 |_=>rfl
theorem KW {o:Oper} {t:Tmp} (h:Operand.tmp t∈o.op.operands.toList):t∈o.looksAt ops:=by
 unfold Oper.looksAt
 refine List.mem_append.2 (.inl (List.mem_filterMap.2 ⟨_,h,rfl⟩))
theorem BE {t1 t2:List AV} {H:List (Nat×OB)} {o:Oper} (hs: ∀t,t∈o.looksAt ops->t1.getD t .undef=t2.getD t .undef) (x:Operand) (hx:x∈o.op.operands.toList):
  St.ev ⟨t1,H⟩ x=St.ev ⟨t2,H⟩ x:=by
 cases x with
 |tmp t=>exact hs t (KW hx)
 |const v=>rfl
 |global g=>rfl
 |func f=>rfl
theorem yx {t1 t2:List AV} {H:List (Nat×OB)} {o:Oper} (hs: ∀t,t∈o.looksAt ops->t1.getD t .undef=t2.getD t .undef):Ck T Γ ⟨t1,H⟩ o=Ck T Γ ⟨t2,H⟩ o:=by
 have he:= λx hx=>BE (H:=H) hs x hx
 obtain ⟨dst,op,ty,pos,af,gd⟩:=o
 dsimp only at he
 cases op with
 |move x=>simp only [Ck];rw [he x (by simp [Op.operands])]
 |assign x=>simp only [Ck];rw [he x (by simp [Op.operands])]
 |pick c x y=>simp only [Ck];rw [he c (by simp [Op.operands]),he x (by simp [Op.operands]),he y (by simp [Op.operands])]
 |load t x=>simp only [Ck];rw [he x (by simp [Op.operands])];rfl
 |nilCheck x=>simp only [Ck];rw [he x (by simp [Op.operands])]
 |binOp op t x y t'=>simp only [Ck];rw [he x (by simp [Op.operands]),he y (by simp [Op.operands])]
 |unOp op t x=>simp only [Ck];rw [he x (by simp [Op.operands])]
 |convert s t x=>simp only [Ck];rw [he x (by simp [Op.operands])];simp only [Wz t1 t2 H]
 |makeFunc fn first Bx=>
  cases fn with
  |func f=>
   simp only [Ck]
   have ha:Bx.toList.map (St.ev ⟨t1,H⟩)=Bx.toList.map (St.ev ⟨t2,H⟩):=List.map_congr_left λx hx=>he x (by
    simp only [Op.operands,Array.toList_append,List.mem_append]
    exact .inr hx)
   have hb:first.toList.map (St.ev ⟨t1,H⟩)=first.toList.map (St.ev ⟨t2,H⟩):=List.map_congr_left λx hx=>he x (by
    simp only [Op.operands,Array.toList_append,List.mem_append]
    exact .inl hx)
   rw [ha,hb]
  |_=>rfl
 |lookup t m k ok=>simp only [Ck];rw [he m (by simp [Op.operands]),he k (by simp [Op.operands])];unfold Zy;simp only [Wz t1 t2 H]
 |slice t x lo hi mx=>
  simp only [Ck]
  rw [he x (by simp [Op.operands])]
  have h1:lo.map (St.ev ⟨t1,H⟩)=lo.map (St.ev ⟨t2,H⟩):=by
   cases lo with
   |none=>rfl
   |some y=>simp only [Option.map_some];rw [he y (by simp [Op.operands])]
  have h2:hi.map (St.ev ⟨t1,H⟩)=hi.map (St.ev ⟨t2,H⟩):=by
   cases hi with
   |none=>rfl
   |some y=>simp only [Option.map_some];rw [he y (by simp [Op.operands])]
  rw [h1,h2];rfl
 |fieldAddr s x f=>simp only [Ck];rw [he x (by simp [Op.operands])]
 |field s x f=>simp only [Ck];rw [he x (by simp [Op.operands])]
 |indexAddr t x i=>simp only [Ck];rw [he x (by simp [Op.operands]),he i (by simp [Op.operands])];rfl
 |index t x i=>simp only [Ck];rw [he x (by simp [Op.operands]),he i (by simp [Op.operands])]
 |extract x i=>simp only [Ck];rw [he x (by simp [Op.operands])]
 |call c=>
  obtain ⟨callee,args,ts⟩:=c
  have ha:args.toList.map (St.ev ⟨t1,H⟩)=args.toList.map (St.ev ⟨t2,H⟩):=List.map_congr_left λx hx=>he x (by
   simp only [Op.operands,Call.operands,Array.toList_append,List.mem_append]
   exact .inr hx)
  cases callee with
  |value f=>
   cases f with
   |func f=>
    simp only [Ck]
    rw [ha]
    unfold Jp
    simp only [fa t1 t2 H]
   |tmp t=>
    simp only [Ck]
    have:=he (.tmp t) (by simp [Op.operands,Call.operands])
    simp only [St.ev] at this
    rw [ha,this]
    unfold Qi Jp
    simp only [fa t1 t2 H]
   |_=>rfl
  |invoke r m=>rfl
  |builtin b=>
   cases b with
   |len=>
    simp only [Ck]
    split
    ·rename_i x t hx ht
     rw [he x (by
      simp only [Op.operands,Call.operands,Array.toList_append,List.mem_append]
      exact .inr (by rw [hx];simp))]
     simp only [EK t1 t2 H]
    ·rfl
   |min=>simp only [Ck];rw [ha]
   |max=>simp only [Ck];rw [ha]
   |_=>rfl
 |_=>rfl
theorem vg {t1 t2:List AV} {H:List (Nat×OB)} (t:Option Tmp) (hs: ∀d,t=some d->t1.getD d .undef=t2.getD d .undef):Qc ⟨t1,H⟩ t=Qc ⟨t2,H⟩ t:=by
 cases t with
 |none=>rfl
 |some d=>simp only [Qc,St.get];rw [hs d rfl]
theorem kX {t1 t2:List AV} {H:List (Nat×OB)} (e:Ty): ∀(l:List (Nat×Operand)) (i:Nat),(∀p∈l,St.ev ⟨t1,H⟩ p.2=St.ev ⟨t2,H⟩ p.2)->ay e i l ⟨t1,H⟩=ay e i l ⟨t2,H⟩
 | [],_,_=>rfl
 |(j,x)::r,i,h=>by
  have h1:=h (j,x) (by simp)
  dsimp only at h1
  simp only [ay]
  rw [h1,Wz t1 t2 H,kX e r (i+1) λp hp=>h p (List.mem_cons_of_mem _ hp)]
theorem ba {t1 t2:List AV} {H:List (Nat×OB)} (t:TypeId): ∀(l:List (Nat×Operand)) (cs:List AC),(∀p∈l,St.ev ⟨t1,H⟩ p.2=St.ev ⟨t2,H⟩ p.2)->Hl T ⟨t1,H⟩ t l cs=Hl T ⟨t2,H⟩ t l cs
 | [],_,_=>rfl
 |(j,x)::r,cs,h=>by
  have h1:=h (j,x) (by simp)
  dsimp only at h1
  simp only [Hl]
  rw [h1]
  have ih: ∀cc,Hl T ⟨t1,H⟩ t r cc=Hl T ⟨t2,H⟩ t r cc:= λcc=>ba t r cc λp hp=>h p (List.mem_cons_of_mem _ hp)
  simp only [ih]
theorem yw {t1 t2:List AV} {H:List (Nat×OB)} {o:Oper} (hs: ∀t,t∈o.looksAt ops->t1.getD t .undef=t2.getD t .undef):Ry T Γ ⟨t1,H⟩ o=Ry T Γ ⟨t2,H⟩ o:=by
 have he:= λx hx=>BE (H:=H) hs x hx
 have hq:=yx (T:=T) (Γ:=Γ) (H:=H) hs
 obtain ⟨dst,op,ty,pos,af,gd⟩:=o
 dsimp only at he
 unfold Ry
 cases op with
 |buildSlice t len parts=>
  dsimp only
  have hp: ∀p∈parts.toList,St.ev ⟨t1,H⟩ p.2=St.ev ⟨t2,H⟩ p.2:= λp hp=>he p.2 (by simp only [Op.operands,List.mem_map];exact ⟨p,hp,rfl⟩)
  unfold Uu
  simp only [kX _ _ _ hp]
 |build t parts=>
  dsimp only
  have hp: ∀p∈parts.toList,St.ev ⟨t1,H⟩ p.2=St.ev ⟨t2,H⟩ p.2:= λp hp=>he p.2 (by simp only [Op.operands,List.mem_map];exact ⟨p,hp,rfl⟩)
  unfold Qg
  simp only [ba _ _ _ hp]
 |_=>exact hq
theorem HC {t1 t2:List AV} {H:List (Nat×OB)} {o:Oper} (hs: ∀t,t∈o.looksAt ops->t1.getD t .undef=t2.getD t .undef):bL T Γ ops ⟨t1,H⟩ o=bL T Γ ops ⟨t2,H⟩ o:=by
 unfold bL
 rw [yw hs]
 split
 ·rfl
 ·rename_i j want hg
  rw [vg ((ops[j]?).bind (·.dst)) (λd hd=>hs d (by
   unfold Oper.looksAt
   rw [hg]
   exact List.mem_append.2 (.inr (by simp [hd]))))]
theorem xA {st:St} {o:Oper} {dst:Option Tmp} {v:AV} (h: ∀d,dst=some d->d∉o.looksAt ops):bL T Γ ops (st.put dst v) o=bL T Γ ops st o:=by
 cases dst with
 |none=>rfl
 |some d=>
  obtain ⟨ts,H⟩:=st
  refine HC λt ht=>?_
  show (Nv ts d v).getD t .undef=ts.getD t .undef
  rw [Ui,if_neg]
  rintro ⟨rfl,_⟩
  exact h d rfl ht
theorem St.put_comm (st:St) {x y:Option Tmp} (v u:AV) (h: ∀d,x=some d->y≠some d):(st.put x v).put y u=(st.put y u).put x v:=by
 cases x with
 |none=>cases y<;>rfl
 |some a=>
  cases y with
  |none=>rfl
  |some b=>
   have Ex:a≠b:= λe=>h a rfl (by rw [e])
   simp only [St.put,St.mk.injEq,and_true]
   rw [Oj,Oj,Oj,Oj]
   exact List.set_comm _ _ Ex
theorem Zt {st:St} {a:Act} (h:Aj X π st a w) (j:Nat):
  (∀b,Qc st ((ops[j]?).bind (·.dst))=some (some b)->yielded ops a.tmps j=some b)/\(Qc st ((ops[j]?).bind (·.dst))=some none->yielded ops a.tmps j=none):=by
 unfold yielded
 cases hd:(ops[j]?).bind (·.dst) with
 |none=>constructor<;>simp [Qc]
 |some d=>
  simp only [Qc,Option.bind_some]
  have hr:=h.2.tmps d
  constructor
  ·intro b hb
   split at hb
   ·rename_i fr b' hg
    simp only [Option.some.injEq] at hb;subst hb
    rw [hg] at hr
    have:=Sn hr
    cases ht:a.tmps[d]? with
    |none=>
     rw [Array.getD_eq_getD_getElem?,ht] at this
     cases this
    |some v=>
     rw [Array.getD_eq_getD_getElem?,ht] at this
     simp only [Option.getD_some] at this
     rw [this]
   ·cases hb
   ·cases hb
  ·intro hb
   split at hb
   ·cases hb
   ·rename_i hg
    rw [hg] at hr
    have hv:a.tmps.getD d undef=undef:=hr
    cases ht:a.tmps[d]? with
    |none=>rfl
    |some v=>
     rw [Array.getD_eq_getD_getElem?,ht] at hv
     simp only [Option.getD_some] at hv
     rw [hv];rfl
   ·cases hb
theorem lk {Q:Exit->Act->World->Prop} {K:Act->World->Prop} {st':St} {a:Act} {o:Oper} {av:AV} (h:bP P X st' a w av ((execOp a.eval o).run P w))
  (hK: ∀a' w',Rel X (st'.put o.dst av) a' w'->K a' w'):o.wp P a w K Q:=by
 unfold Oper.wp
 generalize (execOp a.eval o).run P w=r at*
 cases r with
 |halt x w'=>exact h.elim
 |ok n w'=>
  cases n<;>simp only [bP] at h<;>simp only [Oper.upon]
  ·obtain ⟨π',h1,h2⟩:=h
   exact hK _ _ ⟨π',h1.put o.dst h2⟩
  ·obtain ⟨π',h1,h2⟩:=h
   exact hK _ _ ⟨π',h1.put o.dst h2⟩
  ·obtain ⟨rfl,hc⟩:=h
   refine hc.mono ?_
   rintro e oP ⟨v,rfl,π',h1,h2⟩
   exact hK _ _ ⟨π',h1.put o.dst h2⟩
theorem xf {st:St} :Ao X w π st.heap (.at .skip) undef:=rfl
theorem Ux (hT:Cd P T) (Mi:Hy P Γ) {Q:Exit->Act->World->Prop} {K:Act->World->Prop} {st st':St} {a:Act} (h:Aj X π st a w) (o:Oper) (he:Cl T Γ ops st o=some st')
  (hK: ∀a' w',Rel X st' a' w'->K a' w'):if Region.wanted o (yielded ops a.tmps) then o.wp P a w K Q\/(o.asks P a w/\LetsOut Q) else K (a.put o.dst undef) w:=by
 have run:(evalOp T Γ st o).map (λr=>r.2.put o.dst r.1)=some st'->o.wp P a w K Q:=by
  intro he
  cases hr:evalOp T Γ st o with
  |none=>rw [hr] at he;cases he
  |some r=>
   rw [hr] at he
   simp only [Option.map_some,Option.some.injEq] at he;subst he
   exact lk (sr hT Mi h o r.1 r.2 hr) hK
 have skip:some (st.put o.dst (.at .skip))=some st'->K (a.put o.dst undef) w:=by
  intro he
  simp only [Option.some.injEq] at he;subst he
  exact hK _ _ ⟨π,h.put o.dst xf⟩
 unfold Cl at he
 split at he
 ·rename_i hg
  rw [if_pos (by simp [Region.wanted,hg])]
  exact .inl (run he)
 ·rename_i j want hg
  split at he
  ·rename_i b hb
   have hy:=(Zt h j).1 b hb
   split at he
   ·rename_i yD
    rw [if_pos (by simp only [Region.wanted,hg,hy];simpa using yD)]
    exact .inl (run he)
   ·rename_i yD
    rw [if_neg (by simp only [Region.wanted,hg,hy];simpa using yD)]
    exact skip he
  ·rename_i hb
   have hy:=(Zt h j).2 hb
   rw [if_neg (by simp [Region.wanted,hg,hy])]
   exact skip he
  ·cases he
theorem ez (hT:Cd P T) (Mi:Hy P Γ) {Q:Exit->Act->World->Prop} : ∀(l:List Oper) (st st':St) (a:Act) (w:World),Rel X st a w->Tm T Γ ops l st=some st'->
  (∀a' w',Rel X st' a' w'->Q .normal a' w')->wpList P ops Q l a w
 | [],st,st',a,w,h,he,hQ=>by
  simp only [Tm,Option.some.injEq] at he;subst he
  exact hQ _ _ h
 |o::r,st,st',a,w,⟨π,h⟩,he,hQ=>by
  simp only [Tm] at he
  split at he
  ·rename_i st1 h1
   exact Ux hT Mi h o h1 λa' w' h'=>ez hT Mi r st1 st' a' w' h' he hQ
  ·cases he
theorem eo (hT:Cd P T) (Mi:Hy P Γ) {Q:Exit->Act->World->Prop} : ∀(l:List Nat) (st st':St) (a:Act) (w:World),Rel X st a w->Jl T Γ ops l st=some st'->
  (∀a' w',Rel X st' a' w'->Q .normal a' w')->wpOps P ops Q l a w
 | [],st,st',a,w,h,he,hQ=>by
  simp only [Jl,Option.some.injEq] at he;subst he
  exact hQ _ _ h
 |i::r,st,st',a,w,⟨π,h⟩,he,hQ=>by
  simp only [Jl] at he
  split at he
  ·cases he
  ·rename_i o ho
   split at he
   ·rename_i st1 h1
    simp only [wpOps,ho]
    exact Ux hT Mi h o h1 λa' w' h'=>eo hT Mi r st1 st' a' w' h' he hQ
   ·cases he
end
end Go.Proofs.Ytjbdmibbbpdnnaa
