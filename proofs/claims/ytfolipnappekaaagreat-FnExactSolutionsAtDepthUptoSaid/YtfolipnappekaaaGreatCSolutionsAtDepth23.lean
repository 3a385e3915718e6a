/-
  Part 24 of the proof that the statement FnExactSolutionsAtDepth holds.
-/
import Derived.Test.YtfolipnappekaaaGreatCSolutionsAtDepth22
import Derived.LoopN
namespace Go.Proofs.YtfolipnappekaaaGreat
open Go.RowKit
section
variable {P:Program} {T:Tab} {Γ:Env} {X:Ctx} {w w':World} {π:Pi} {H:List (Nat×OB)} {ops:Array Oper}
theorem nH (t1 t2:List AV) (H:List (Nat×OB)) (τ:Ty) (c:AC):Bp ⟨t1,H⟩ τ c=Bp ⟨t2,H⟩ τ c:=by
 cases c<;>cases τ<;>rfl
theorem eU (t1 t2:List AV) (H:List (Nat×OB)): ∀(τ:Ty) (cs:List AC),Ct ⟨t1,H⟩ τ cs=Ct ⟨t2,H⟩ τ cs:=by
 have one: ∀(τ:Ty) (cs:List AC),τ.Ac=false->Ct ⟨t1,H⟩ τ cs=Ct ⟨t2,H⟩ τ cs:=by
  intro τ cs h
  rw [Oi h,Oi h]
  rcases cs with _|⟨c,_|⟨d,r⟩⟩
  ·rfl
  ·exact nH t1 t2 H τ c
  ·rfl
 intro τ
 induction τ with
 |unit=>intro cs;cases cs<;>rfl
 |pair a r je fp=>intro cs;simp only [Ct];rw [je,fp]
 |_=>exact λcs=>one _ cs rfl
theorem kX (t1 t2:List AV) (H:List (Nat×OB)) (τ:Ty) (l i:Nat):Oy ⟨t1,H⟩ τ l i=Oy ⟨t2,H⟩ τ l i:=by
 unfold Oy
 simp only [St.at]
 split
 ·exact eU t1 t2 H _ _
 ·rfl
theorem tp (t1 t2:List AV) (H:List (Nat×OB)): ∀(τ:Ty) (cs:List (Nat×Nat)),Gp ⟨t1,H⟩ τ cs=Gp ⟨t2,H⟩ τ cs:=by
 intro τ
 induction τ with
 |unit=>intro cs;cases cs<;>rfl
 |pair a r _ fp=>
  intro cs
  cases a with
  |ptr a=>
   cases cs with
   |nil=>rfl
   |cons c cs=>simp only [Gp];rw [kX t1 t2 H,fp]
  |_=>cases cs<;>rfl
 |_=>intro cs;cases cs<;>rfl
theorem xF (t1 t2:List AV) (H:List (Nat×OB)) (τ:Ty) (c:AC):Fo ⟨t1,H⟩ τ c=Fo ⟨t2,H⟩ τ c:=by
 cases τ<;>cases c<;>simp only [Fo]<;>first|rfl|exact nH t1 t2 H _ _|(rw [kX t1 t2 H])|(split;exact tp t1 t2 H _ _;rfl)
theorem Zo (t1 t2:List AV) (H:List (Nat×OB)) (τ:Ty) (c:AV):Cv ⟨t1,H⟩ τ c=Cv ⟨t2,H⟩ τ c:=by
 cases c with
 | «at»a=>cases a<;>simp only [Cv]<;>first|rfl|rw [xF t1 t2 H]
 |agg cs=>simp only [Cv];rw [eU t1 t2 H]
 |Wv fr Jp x=>rfl
 |Ih l=>rfl
theorem hZ (t1 t2:List AV) (H:List (Nat×OB)): ∀(τ:Ty) (cs:List AV),Bt ⟨t1,H⟩ τ cs=Bt ⟨t2,H⟩ τ cs:=by
 intro τ
 induction τ with
 |pair a r je fp=>
  intro cs
  cases cs with
  |nil=>rfl
  |cons c cs=>simp only [Bt];rw [Zo t1 t2 H,fp]
 |_=>intro cs;cases cs<;>rfl
theorem ME (t1 t2:List AV) (H:List (Nat×OB)) (c:AV):zm ⟨t1,H⟩ c=zm ⟨t2,H⟩ c:=by
 cases c with
 | «at»a=>cases a<;>rfl
 |_=>rfl
theorem SV {o:Oper} {t:Tmp} (h:Operand.tmp t∈o.op.operands.toList):t∈o.looksAt ops:=by
 unfold Oper.looksAt
 refine List.mem_append.2 (.inl (List.mem_filterMap.2 ⟨_,h,rfl⟩))
theorem IW {t1 t2:List AV} {H:List (Nat×OB)} {o:Oper} (hs: ∀t,t∈o.looksAt ops->t1.getD t .undef=t2.getD t .undef) (x:Operand) (hx:x∈o.op.operands.toList):
  St.ev ⟨t1,H⟩ x=St.ev ⟨t2,H⟩ x:=by
 cases x with
 |tmp t=>exact hs t (SV hx)
 |const v=>rfl
 |global g=>rfl
 |func f=>rfl
theorem DO {t1 t2:List AV} {H:List (Nat×OB)} {o:Oper} (hs: ∀t,t∈o.looksAt ops->t1.getD t .undef=t2.getD t .undef):Cm T Γ ⟨t1,H⟩ o=Cm T Γ ⟨t2,H⟩ o:=by
 have he:= λx hx=>IW (H:=H) hs x hx
 obtain ⟨dst,op,ty,pos,af,gd⟩:=o
 dsimp only at he
 cases op with
 |move x=>simp only [Cm];rw [he x (by simp [Op.operands])]
 |assign x=>simp only [Cm];rw [he x (by simp [Op.operands])]
 |pick c x y=>simp only [Cm];rw [he c (by simp [Op.operands]),he x (by simp [Op.operands]),he y (by simp [Op.operands])]
 |load t x=>simp only [Cm];rw [he x (by simp [Op.operands])];rfl
 |nilCheck x=>simp only [Cm];rw [he x (by simp [Op.operands])]
 |binOp op t x y t'=>simp only [Cm];rw [he x (by simp [Op.operands]),he y (by simp [Op.operands])]
 |unOp op t x=>simp only [Cm];rw [he x (by simp [Op.operands])]
 |convert s t x=>simp only [Cm];rw [he x (by simp [Op.operands])];simp only [Zo t1 t2 H]
 |makeFunc fn first Ca=>
  cases fn with
  |func f=>
   simp only [Cm]
   have ha:Ca.toList.map (St.ev ⟨t1,H⟩)=Ca.toList.map (St.ev ⟨t2,H⟩):=List.map_congr_left λx hx=>he x (by
    simp only [Op.operands,Array.toList_append,List.mem_append]
    exact .inr hx)
   have hb:first.toList.map (St.ev ⟨t1,H⟩)=first.toList.map (St.ev ⟨t2,H⟩):=List.map_congr_left λx hx=>he x (by
    simp only [Op.operands,Array.toList_append,List.mem_append]
    exact .inl hx)
   rw [ha,hb]
  |_=>rfl
 |lookup t m k ok=>simp only [Cm];rw [he m (by simp [Op.operands]),he k (by simp [Op.operands])];unfold bt;simp only [Zo t1 t2 H]
 |slice t x lo hi mx=>
  simp only [Cm]
  rw [he x (by simp [Op.operands])]
  have h1:lo.map (St.ev ⟨t1,H⟩)=lo.map (St.ev ⟨t2,H⟩):=by
   cases lo with
   |none=>rfl
   |some y=>simp only [Option.map_some];rw [he y (by simp [Op.operands])]
  have h2:hi.map (St.ev ⟨t1,H⟩)=hi.map (St.ev ⟨t2,H⟩):=by
   cases hi with
   |none=>rfl
   |some y=>simp only [Option.map_some];rw [he y (by simp [Op.operands])]
  rw [h1,h2];rfl
 |fieldAddr s x f=>simp only [Cm];rw [he x (by simp [Op.operands])]
 |field s x f=>simp only [Cm];rw [he x (by simp [Op.operands])]
 |indexAddr t x i=>simp only [Cm];rw [he x (by simp [Op.operands]),he i (by simp [Op.operands])];rfl
 |index t x i=>simp only [Cm];rw [he x (by simp [Op.operands]),he i (by simp [Op.operands])]
 |extract x i=>simp only [Cm];rw [he x (by simp [Op.operands])]
 |call c=>
  obtain ⟨callee,args,ts⟩:=c
  have ha:args.toList.map (St.ev ⟨t1,H⟩)=args.toList.map (St.ev ⟨t2,H⟩):=List.map_congr_left λx hx=>he x (by
   simp only [Op.operands,Call.operands,Array.toList_append,List.mem_append]
   exact .inr hx)
  cases callee with
  |value f=>
   cases f with
   |func f=>
    simp only [Cm]
    rw [ha]
    unfold Ka
    simp only [hZ t1 t2 H]
   |tmp t=>
    simp only [Cm]
    have:=he (.tmp t) (by simp [Op.operands,Call.operands])
    simp only [St.ev] at this
    rw [ha,this]
    unfold Sj Ka
    simp only [hZ t1 t2 H]
   |_=>rfl
  |invoke r m=>rfl
  |builtin b=>
   cases b with
   |len=>
    simp only [Cm]
    split
    ·rename_i x t hx ht
     rw [he x (by
      simp only [Op.operands,Call.operands,Array.toList_append,List.mem_append]
      exact .inr (by rw [hx];simp))]
     simp only [ME t1 t2 H]
    ·rfl
   |min=>simp only [Cm];rw [ha]
   |max=>simp only [Cm];rw [ha]
   |_=>rfl
 |_=>rfl
theorem yq {t1 t2:List AV} {H:List (Nat×OB)} (t:Option Tmp) (hs: ∀d,t=some d->t1.getD d .undef=t2.getD d .undef):Sa ⟨t1,H⟩ t=Sa ⟨t2,H⟩ t:=by
 cases t with
 |none=>rfl
 |some d=>simp only [Sa,St.get];rw [hs d rfl]
theorem nk {t1 t2:List AV} {H:List (Nat×OB)} (e:Ty): ∀(l:List (Nat×Operand)) (i:Nat),(∀p∈l,St.ev ⟨t1,H⟩ p.2=St.ev ⟨t2,H⟩ p.2)->bN e i l ⟨t1,H⟩=bN e i l ⟨t2,H⟩
 | [],_,_=>rfl
 |(j,x)::r,i,h=>by
  have h1:=h (j,x) (by simp)
  dsimp only at h1
  simp only [bN]
  rw [h1,Zo t1 t2 H,nk e r (i+1) λp hp=>h p (List.mem_cons_of_mem _ hp)]
theorem cp {t1 t2:List AV} {H:List (Nat×OB)} (t:TypeId): ∀(l:List (Nat×Operand)) (cs:List AC),(∀p∈l,St.ev ⟨t1,H⟩ p.2=St.ev ⟨t2,H⟩ p.2)->Hu T ⟨t1,H⟩ t l cs=Hu T ⟨t2,H⟩ t l cs
 | [],_,_=>rfl
 |(j,x)::r,cs,h=>by
  have h1:=h (j,x) (by simp)
  dsimp only at h1
  simp only [Hu]
  rw [h1]
  have ih: ∀dr,Hu T ⟨t1,H⟩ t r dr=Hu T ⟨t2,H⟩ t r dr:= λdr=>cp t r dr λp hp=>h p (List.mem_cons_of_mem _ hp)
  simp only [ih]
theorem DN {t1 t2:List AV} {H:List (Nat×OB)} {o:Oper} (hs: ∀t,t∈o.looksAt ops->t1.getD t .undef=t2.getD t .undef):Ru T Γ ⟨t1,H⟩ o=Ru T Γ ⟨t2,H⟩ o:=by
 have he:= λx hx=>IW (H:=H) hs x hx
 have hq:=DO (T:=T) (Γ:=Γ) (H:=H) hs
 obtain ⟨dst,op,ty,pos,af,gd⟩:=o
 dsimp only at he
 unfold Ru
 cases op with
 |buildSlice t len parts=>
  dsimp only
  have hp: ∀p∈parts.toList,St.ev ⟨t1,H⟩ p.2=St.ev ⟨t2,H⟩ p.2:= λp hp=>he p.2 (by simp only [Op.operands,List.mem_map];exact ⟨p,hp,rfl⟩)
  unfold Xc
  simp only [nk _ _ _ hp]
 |build t parts=>
  dsimp only
  have hp: ∀p∈parts.toList,St.ev ⟨t1,H⟩ p.2=St.ev ⟨t2,H⟩ p.2:= λp hp=>he p.2 (by simp only [Op.operands,List.mem_map];exact ⟨p,hp,rfl⟩)
  unfold Sh
  simp only [cp _ _ _ hp]
 |_=>exact hq
theorem ve {t1 t2:List AV} {H:List (Nat×OB)} {o:Oper} (hs: ∀t,t∈o.looksAt ops->t1.getD t .undef=t2.getD t .undef):Rr T Γ ops ⟨t1,H⟩ o=Rr T Γ ops ⟨t2,H⟩ o:=by
 unfold Rr
 rw [DN hs]
 split
 ·rfl
 ·rename_i j want hg
  rw [yq ((ops[j]?).bind (·.dst)) (λd hd=>hs d (by
   unfold Oper.looksAt
   rw [hg]
   exact List.mem_append.2 (.inr (by simp [hd]))))]
theorem BI {st:St} {o:Oper} {dst:Option Tmp} {v:AV} (h: ∀d,dst=some d->d∉o.looksAt ops):Rr T Γ ops (st.put dst v) o=Rr T Γ ops st o:=by
 cases dst with
 |none=>rfl
 |some d=>
  obtain ⟨ts,H⟩:=st
  refine ve λt ht=>?_
  show (Nk ts d v).getD t .undef=ts.getD t .undef
  rw [Lo,if_neg]
  rintro ⟨rfl,_⟩
  exact h d rfl ht
theorem St.put_comm (st:St) {x y:Option Tmp} (v u:AV) (h: ∀d,x=some d->y≠some d):(st.put x v).put y u=(st.put y u).put x v:=by
 cases x with
 |none=>cases y<;>rfl
 |some a=>
  cases y with
  |none=>rfl
  |some b=>
   have Ek:a≠b:= λe=>h a rfl (by rw [e])
   simp only [St.put,St.mk.injEq,and_true]
   rw [Qe,Qe,Qe,Qe]
   exact List.set_comm _ _ Ek
theorem bo {st:St} {a:Act} (h:Ak X π st a w) (j:Nat):
  (∀b,Sa st ((ops[j]?).bind (·.dst))=some (some b)->yielded ops a.tmps j=some b)/\(Sa st ((ops[j]?).bind (·.dst))=some none->yielded ops a.tmps j=none):=by
 unfold yielded
 cases hd:(ops[j]?).bind (·.dst) with
 |none=>constructor<;>simp [Sa]
 |some d=>
  simp only [Sa,Option.bind_some]
  have hr:=h.2.tmps d
  constructor
  ·intro b hb
   split at hb
   ·rename_i fr b' hg
    simp only [Option.some.injEq] at hb;subst hb
    rw [hg] at hr
    have:=Uo hr
    cases ht:a.tmps[d]? with
    |none=>
     rw [Array.getD_eq_getD_getElem?,ht] at this
     cases this
    |some v=>
     rw [Array.getD_eq_getD_getElem?,ht] at this
     simp only [Option.getD_some] at this
     rw [this]
   ·cases hb
   ·cases hb
  ·intro hb
   split at hb
   ·cases hb
   ·rename_i hg
    rw [hg] at hr
    have hv:a.tmps.getD d undef=undef:=hr
    cases ht:a.tmps[d]? with
    |none=>rfl
    |some v=>
     rw [Array.getD_eq_getD_getElem?,ht] at hv
     simp only [Option.getD_some] at hv
     rw [hv];rfl
   ·cases hb
theorem nJ {Q:Exit->Act->World->Prop} {K:Act->World->Prop} {st':St} {a:Act} {o:Oper} {av:AV} (h:cY P X st' a w av ((execOp a.eval o).run P w))
  (hK: ∀a' w',Rel X (st'.put o.dst av) a' w'->K a' w'):o.wp P a w K Q:=by
 unfold Oper.wp
 generalize (execOp a.eval o).run P w=r at*
 cases r with
 |halt x w'=>exact h.elim
 |ok n w'=>
  cases n<;>simp only [cY] at h<;>simp only [Oper.upon]
  ·obtain ⟨π',h1,h2⟩:=h
   exact hK _ _ ⟨π',h1.put o.dst h2⟩
  ·obtain ⟨π',h1,h2⟩:=h
   exact hK _ _ ⟨π',h1.put o.dst h2⟩
  ·obtain ⟨rfl,hc⟩:=h
   refine hc.mono ?_
   rintro e nI ⟨v,rfl,π',h1,h2⟩
   exact hK _ _ ⟨π',h1.put o.dst h2⟩
theorem AM {st:St} :Ao X w π st.heap (.at .skip) undef:=rfl
theorem Qp (hT:By P T) (Kl:Gq P Γ) {Q:Exit->Act->World->Prop} {K:Act->World->Prop} {st st':St} {a:Act} (h:Ak X π st a w) (o:Oper) (he:Ch T Γ ops st o=some st')
  (hK: ∀a' w',Rel X st' a' w'->K a' w'):if Region.wanted o (yielded ops a.tmps) then o.wp P a w K Q\/(o.asks P a w/\LetsOut Q) else K (a.put o.dst undef) w:=by
 have run:(evalOp T Γ st o).map (λr=>r.2.put o.dst r.1)=some st'->o.wp P a w K Q:=by
  intro he
  cases hr:evalOp T Γ st o with
  |none=>rw [hr] at he;cases he
  |some r=>
   rw [hr] at he
   simp only [Option.map_some,Option.some.injEq] at he;subst he
   exact nJ (vR hT Kl h o r.1 r.2 hr) hK
 have skip:some (st.put o.dst (.at .skip))=some st'->K (a.put o.dst undef) w:=by
  intro he
  simp only [Option.some.injEq] at he;subst he
  exact hK _ _ ⟨π,h.put o.dst AM⟩
 unfold Ch at he
 split at he
 ·rename_i hg
  rw [if_pos (by simp [Region.wanted,hg])]
  exact .inl (run he)
 ·rename_i j want hg
  split at he
  ·rename_i b hb
   have hy:=(bo h j).1 b hb
   split at he
   ·rename_i QV
    rw [if_pos (by simp only [Region.wanted,hg,hy];simpa using QV)]
    exact .inl (run he)
   ·rename_i QV
    rw [if_neg (by simp only [Region.wanted,hg,hy];simpa using QV)]
    exact skip he
  ·rename_i hb
   have hy:=(bo h j).2 hb
   rw [if_neg (by simp [Region.wanted,hg,hy])]
   exact skip he
  ·cases he
theorem gB (hT:By P T) (Kl:Gq P Γ) {Q:Exit->Act->World->Prop} : ∀(l:List Oper) (st st':St) (a:Act) (w:World),Rel X st a w->Vv T Γ ops l st=some st'->
  (∀a' w',Rel X st' a' w'->Q .normal a' w')->wpList P ops Q l a w
 | [],st,st',a,w,h,he,hQ=>by
  simp only [Vv,Option.some.injEq] at he;subst he
  exact hQ _ _ h
 |o::r,st,st',a,w,⟨π,h⟩,he,hQ=>by
  simp only [Vv] at he
  split at he
  ·rename_i st1 h1
   exact Qp hT Kl h o h1 λa' w' h'=>gB hT Kl r st1 st' a' w' h' he hQ
  ·cases he
theorem gx (hT:By P T) (Kl:Gq P Γ) {Q:Exit->Act->World->Prop} : ∀(l:List Nat) (st st':St) (a:Act) (w:World),Rel X st a w->Ij T Γ ops l st=some st'->
  (∀a' w',Rel X st' a' w'->Q .normal a' w')->wpOps P ops Q l a w
 | [],st,st',a,w,h,he,hQ=>by
  simp only [Ij,Option.some.injEq] at he;subst he
  exact hQ _ _ h
 |i::r,st,st',a,w,⟨π,h⟩,he,hQ=>by
  simp only [Ij] at he
  split at he
  ·cases he
  ·rename_i o ho
   split at he
   ·rename_i st1 h1
    simp only [wpOps,ho]
    exact Qp hT Kl h o h1 λa' w' h'=>gx hT Kl r st1 st' a' w' h' he hQ
   ·cases he
end
end Go.Proofs.YtfolipnappekaaaGreat
