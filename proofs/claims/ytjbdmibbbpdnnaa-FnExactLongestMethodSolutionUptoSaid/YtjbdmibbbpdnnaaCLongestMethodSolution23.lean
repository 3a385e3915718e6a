/-
  Part 24 of the proof that the statement FnExactLongestMethodSolution holds.
-/
import Derived.Test.YtjbdmibbbpdnnaaCLongestMethodSolution22
import Derived.LoopN
namespace Go.Proofs.Ytjbdmibbbpdnnaa
open Go.RowKit
section
variable {P:Program} {T:Tab} {Γ:Env} {X:Ctx} {w w':World} {π:Pi} {H:List (Nat×OB)} {ops:Array Oper}
theorem kL (t1 t2:List AV) (H:List (Nat×OB)) (τ:Ty) (c:AC):Bl ⟨t1,H⟩ τ c=Bl ⟨t2,H⟩ τ c:=by
 cases c<;>cases τ<;>rfl
theorem da (t1 t2:List AV) (H:List (Nat×OB)): ∀(τ:Ty) (cs:List AC),Cp ⟨t1,H⟩ τ cs=Cp ⟨t2,H⟩ τ cs:=by
 have one: ∀(τ:Ty) (cs:List AC),τ.Ac=false->Cp ⟨t1,H⟩ τ cs=Cp ⟨t2,H⟩ τ cs:=by
  intro τ cs h
  rw [Mv h,Mv h]
  rcases cs with _|⟨c,_|⟨d,r⟩⟩
  ·rfl
  ·exact kL t1 t2 H τ c
  ·rfl
 intro τ
 induction τ with
 |unit=>intro cs;cases cs<;>rfl
 |pair a r gf dt=>intro cs;simp only [Cp];rw [gf,dt]
 |_=>exact λcs=>one _ cs rfl
theorem iB (t1 t2:List AV) (H:List (Nat×OB)) (τ:Ty) (l i:Nat):Nc ⟨t1,H⟩ τ l i=Nc ⟨t2,H⟩ τ l i:=by
 unfold Nc
 simp only [St.at]
 split
 ·exact da t1 t2 H _ _
 ·rfl
theorem py (t1 t2:List AV) (H:List (Nat×OB)): ∀(τ:Ty) (cs:List (Nat×Nat)),Gk ⟨t1,H⟩ τ cs=Gk ⟨t2,H⟩ τ cs:=by
 intro τ
 induction τ with
 |unit=>intro cs;cases cs<;>rfl
 |pair a r _ dt=>
  intro cs
  cases a with
  |ptr a=>
   cases cs with
   |nil=>rfl
   |cons c cs=>simp only [Gk];rw [iB t1 t2 H,dt]
  |_=>cases cs<;>rfl
 |_=>intro cs;cases cs<;>rfl
theorem tC (t1 t2:List AV) (H:List (Nat×OB)) (τ:Ty) (c:AC):Fh ⟨t1,H⟩ τ c=Fh ⟨t2,H⟩ τ c:=by
 cases τ<;>cases c<;>simp only [Fh]<;>first|rfl|exact kL t1 t2 H _ _|(rw [iB t1 t2 H])|(split;exact py t1 t2 H _ _;rfl)
theorem Wl (t1 t2:List AV) (H:List (Nat×OB)) (τ:Ty) (c:AV):Cr ⟨t1,H⟩ τ c=Cr ⟨t2,H⟩ τ c:=by
 cases c with
 | «at»a=>cases a<;>simp only [Cr]<;>first|rfl|rw [tC t1 t2 H]
 |agg cs=>simp only [Cr];rw [da t1 t2 H]
 |Tv fr Jb x=>rfl
 |Iz l=>rfl
theorem eJ (t1 t2:List AV) (H:List (Nat×OB)): ∀(τ:Ty) (cs:List AV),Bq ⟨t1,H⟩ τ cs=Bq ⟨t2,H⟩ τ cs:=by
 intro τ
 induction τ with
 |pair a r gf dt=>
  intro cs
  cases cs with
  |nil=>rfl
  |cons c cs=>simp only [Bq];rw [Wl t1 t2 H,dt]
 |_=>intro cs;cases cs<;>rfl
theorem CN (t1 t2:List AV) (H:List (Nat×OB)) (c:AV):vA ⟨t1,H⟩ c=vA ⟨t2,H⟩ c:=by
 cases c with
 | «at»a=>cases a<;>rfl
 |_=>rfl
theorem JC {o:Oper} {t:Tmp} (h:Operand.tmp t∈o.op.operands.toList):t∈o.looksAt ops:=by
 unfold Oper.looksAt
 refine List.mem_append.2 (.inl (List.mem_filterMap.2 ⟨_,h,rfl⟩))
theorem zN {t1 t2:List AV} {H:List (Nat×OB)} {o:Oper} (hs: ∀t,t∈o.looksAt ops->t1.getD t .undef=t2.getD t .undef) (x:Operand) (hx:x∈o.op.operands.toList):
  St.ev ⟨t1,H⟩ x=St.ev ⟨t2,H⟩ x:=by
 cases x with
 |tmp t=>exact hs t (JC hx)
 |const v=>rfl
 |global g=>rfl
 |func f=>rfl
theorem xL {t1 t2:List AV} {H:List (Nat×OB)} {o:Oper} (hs: ∀t,t∈o.looksAt ops->t1.getD t .undef=t2.getD t .undef):Cl T Γ ⟨t1,H⟩ o=Cl T Γ ⟨t2,H⟩ o:=by
 have he:= λx hx=>zN (H:=H) hs x hx
 obtain ⟨dst,op,ty,pos,af,gd⟩:=o
 dsimp only at he
 cases op with
 |move x=>simp only [Cl];rw [he x (by simp [Op.operands])]
 |assign x=>simp only [Cl];rw [he x (by simp [Op.operands])]
 |pick c x y=>simp only [Cl];rw [he c (by simp [Op.operands]),he x (by simp [Op.operands]),he y (by simp [Op.operands])]
 |load t x=>simp only [Cl];rw [he x (by simp [Op.operands])];rfl
 |nilCheck x=>simp only [Cl];rw [he x (by simp [Op.operands])]
 |binOp op t x y t'=>simp only [Cl];rw [he x (by simp [Op.operands]),he y (by simp [Op.operands])]
 |unOp op t x=>simp only [Cl];rw [he x (by simp [Op.operands])]
 |convert s t x=>simp only [Cl];rw [he x (by simp [Op.operands])];simp only [Wl t1 t2 H]
 |makeFunc fn first Bx=>
  cases fn with
  |func f=>
   simp only [Cl]
   have ha:Bx.toList.map (St.ev ⟨t1,H⟩)=Bx.toList.map (St.ev ⟨t2,H⟩):=List.map_congr_left λx hx=>he x (by
    simp only [Op.operands,Array.toList_append,List.mem_append]
    exact .inr hx)
   have hb:first.toList.map (St.ev ⟨t1,H⟩)=first.toList.map (St.ev ⟨t2,H⟩):=List.map_congr_left λx hx=>he x (by
    simp only [Op.operands,Array.toList_append,List.mem_append]
    exact .inl hx)
   rw [ha,hb]
  |_=>rfl
 |lookup t m k ok=>simp only [Cl];rw [he m (by simp [Op.operands]),he k (by simp [Op.operands])];unfold Zj;simp only [Wl t1 t2 H]
 |slice t x lo hi mx=>
  simp only [Cl]
  rw [he x (by simp [Op.operands])]
  have h1:lo.map (St.ev ⟨t1,H⟩)=lo.map (St.ev ⟨t2,H⟩):=by
   cases lo with
   |none=>rfl
   |some y=>simp only [Option.map_some];rw [he y (by simp [Op.operands])]
  have h2:hi.map (St.ev ⟨t1,H⟩)=hi.map (St.ev ⟨t2,H⟩):=by
   cases hi with
   |none=>rfl
   |some y=>simp only [Option.map_some];rw [he y (by simp [Op.operands])]
  rw [h1,h2];rfl
 |fieldAddr s x f=>simp only [Cl];rw [he x (by simp [Op.operands])]
 |field s x f=>simp only [Cl];rw [he x (by simp [Op.operands])]
 |indexAddr t x i=>simp only [Cl];rw [he x (by simp [Op.operands]),he i (by simp [Op.operands])];rfl
 |index t x i=>simp only [Cl];rw [he x (by simp [Op.operands]),he i (by simp [Op.operands])]
 |extract x i=>simp only [Cl];rw [he x (by simp [Op.operands])]
 |call c=>
  obtain ⟨callee,args,ts⟩:=c
  have ha:args.toList.map (St.ev ⟨t1,H⟩)=args.toList.map (St.ev ⟨t2,H⟩):=List.map_congr_left λx hx=>he x (by
   simp only [Op.operands,Call.operands,Array.toList_append,List.mem_append]
   exact .inr hx)
  cases callee with
  |value f=>
   cases f with
   |func f=>
    simp only [Cl]
    rw [ha]
    unfold Ji
    simp only [eJ t1 t2 H]
   |tmp t=>
    simp only [Cl]
    have:=he (.tmp t) (by simp [Op.operands,Call.operands])
    simp only [St.ev] at this
    rw [ha,this]
    unfold Py Ji
    simp only [eJ t1 t2 H]
   |_=>rfl
  |invoke r m=>rfl
  |builtin b=>
   cases b with
   |len=>
    simp only [Cl]
    split
    ·rename_i x t hx ht
     rw [he x (by
      simp only [Op.operands,Call.operands,Array.toList_append,List.mem_append]
      exact .inr (by rw [hx];simp))]
     simp only [CN t1 t2 H]
    ·rfl
   |min=>simp only [Cl];rw [ha]
   |max=>simp only [Cl];rw [ha]
   |_=>rfl
 |_=>rfl
theorem uk {t1 t2:List AV} {H:List (Nat×OB)} (t:Option Tmp) (hs: ∀d,t=some d->t1.getD d .undef=t2.getD d .undef):Pr ⟨t1,H⟩ t=Pr ⟨t2,H⟩ t:=by
 cases t with
 |none=>rfl
 |some d=>simp only [Pr,St.get];rw [hs d rfl]
theorem ku {t1 t2:List AV} {H:List (Nat×OB)} (e:Ty): ∀(l:List (Nat×Operand)) (i:Nat),(∀p∈l,St.ev ⟨t1,H⟩ p.2=St.ev ⟨t2,H⟩ p.2)->a6 e i l ⟨t1,H⟩=a6 e i l ⟨t2,H⟩
 | [],_,_=>rfl
 |(j,x)::r,i,h=>by
  have h1:=h (j,x) (by simp)
  dsimp only at h1
  simp only [a6]
  rw [h1,Wl t1 t2 H,ku e r (i+1) λp hp=>h p (List.mem_cons_of_mem _ hp)]
theorem aH {t1 t2:List AV} {H:List (Nat×OB)} (t:TypeId): ∀(l:List (Nat×Operand)) (cs:List AC),(∀p∈l,St.ev ⟨t1,H⟩ p.2=St.ev ⟨t2,H⟩ p.2)->Hj T ⟨t1,H⟩ t l cs=Hj T ⟨t2,H⟩ t l cs
 | [],_,_=>rfl
 |(j,x)::r,cs,h=>by
  have h1:=h (j,x) (by simp)
  dsimp only at h1
  simp only [Hj]
  rw [h1]
  have ih: ∀bN,Hj T ⟨t1,H⟩ t r bN=Hj T ⟨t2,H⟩ t r bN:= λbN=>aH t r bN λp hp=>h p (List.mem_cons_of_mem _ hp)
  simp only [ih]
theorem xK {t1 t2:List AV} {H:List (Nat×OB)} {o:Oper} (hs: ∀t,t∈o.looksAt ops->t1.getD t .undef=t2.getD t .undef):Rj T Γ ⟨t1,H⟩ o=Rj T Γ ⟨t2,H⟩ o:=by
 have he:= λx hx=>zN (H:=H) hs x hx
 have hq:=xL (T:=T) (Γ:=Γ) (H:=H) hs
 obtain ⟨dst,op,ty,pos,af,gd⟩:=o
 dsimp only at he
 unfold Rj
 cases op with
 |buildSlice t len parts=>
  dsimp only
  have hp: ∀p∈parts.toList,St.ev ⟨t1,H⟩ p.2=St.ev ⟨t2,H⟩ p.2:= λp hp=>he p.2 (by simp only [Op.operands,List.mem_map];exact ⟨p,hp,rfl⟩)
  unfold Uf
  simp only [ku _ _ _ hp]
 |build t parts=>
  dsimp only
  have hp: ∀p∈parts.toList,St.ev ⟨t1,H⟩ p.2=St.ev ⟨t2,H⟩ p.2:= λp hp=>he p.2 (by simp only [Op.operands,List.mem_map];exact ⟨p,hp,rfl⟩)
  unfold Pw
  simp only [aH _ _ _ hp]
 |_=>exact hq
theorem FG {t1 t2:List AV} {H:List (Nat×OB)} {o:Oper} (hs: ∀t,t∈o.looksAt ops->t1.getD t .undef=t2.getD t .undef):bp T Γ ops ⟨t1,H⟩ o=bp T Γ ops ⟨t2,H⟩ o:=by
 unfold bp
 rw [xK hs]
 split
 ·rfl
 ·rename_i j want hg
  rw [uk ((ops[j]?).bind (·.dst)) (λd hd=>hs d (by
   unfold Oper.looksAt
   rw [hg]
   exact List.mem_append.2 (.inr (by simp [hd]))))]
theorem wT {st:St} {o:Oper} {dst:Option Tmp} {v:AV} (h: ∀d,dst=some d->d∉o.looksAt ops):bp T Γ ops (st.put dst v) o=bp T Γ ops st o:=by
 cases dst with
 |none=>rfl
 |some d=>
  obtain ⟨ts,H⟩:=st
  refine FG λt ht=>?_
  show (Nm ts d v).getD t .undef=ts.getD t .undef
  rw [Tt,if_neg]
  rintro ⟨rfl,_⟩
  exact h d rfl ht
theorem St.put_comm (st:St) {x y:Option Tmp} (v u:AV) (h: ∀d,x=some d->y≠some d):(st.put x v).put y u=(st.put y u).put x v:=by
 cases x with
 |none=>cases y<;>rfl
 |some a=>
  cases y with
  |none=>rfl
  |some b=>
   have Er:a≠b:= λe=>h a rfl (by rw [e])
   simp only [St.put,St.mk.injEq,and_true]
   rw [Oc,Oc,Oc,Oc]
   exact List.set_comm _ _ Er
theorem Ze {st:St} {a:Act} (h:Ai X π st a w) (j:Nat):
  (∀b,Pr st ((ops[j]?).bind (·.dst))=some (some b)->yielded ops a.tmps j=some b)/\(Pr st ((ops[j]?).bind (·.dst))=some none->yielded ops a.tmps j=none):=by
 unfold yielded
 cases hd:(ops[j]?).bind (·.dst) with
 |none=>constructor<;>simp [Pr]
 |some d=>
  simp only [Pr,Option.bind_some]
  have hr:=h.2.tmps d
  constructor
  ·intro b hb
   split at hb
   ·rename_i fr b' hg
    simp only [Option.some.injEq] at hb;subst hb
    rw [hg] at hr
    have:=Ry hr
    cases ht:a.tmps[d]? with
    |none=>
     rw [Array.getD_eq_getD_getElem?,ht] at this
     cases this
    |some v=>
     rw [Array.getD_eq_getD_getElem?,ht] at this
     simp only [Option.getD_some] at this
     rw [this]
   ·cases hb
   ·cases hb
  ·intro hb
   split at hb
   ·cases hb
   ·rename_i hg
    rw [hg] at hr
    have hv:a.tmps.getD d undef=undef:=hr
    cases ht:a.tmps[d]? with
    |none=>rfl
    |some v=>
     rw [Array.getD_eq_getD_getElem?,ht] at hv
     simp only [Option.getD_some] at hv
     rw [hv];rfl
   ·cases hb
theorem kM {Q:Exit->Act->World->Prop} {K:Act->World->Prop} {st':St} {a:Act} {o:Oper} {av:AV} (h:bu P X st' a w av ((execOp a.eval o).run P w))
  (hK: ∀a' w',Rel X (st'.put o.dst av) a' w'->K a' w'):o.wp P a w K Q:=by
 unfold Oper.wp
 generalize (execOp a.eval o).run P w=r at*
 cases r with
 |halt x w'=>exact h.elim
 |ok n w'=>
  cases n<;>simp only [bu] at h<;>simp only [Oper.upon]
  ·obtain ⟨π',h1,h2⟩:=h
   exact hK _ _ ⟨π',h1.put o.dst h2⟩
  ·obtain ⟨π',h1,h2⟩:=h
   exact hK _ _ ⟨π',h1.put o.dst h2⟩
  ·obtain ⟨rfl,hc⟩:=h
   refine hc.mono ?_
   rintro e o8 ⟨v,rfl,π',h1,h2⟩
   exact hK _ _ ⟨π',h1.put o.dst h2⟩
theorem wA {st:St} :Ao X w π st.heap (.at .skip) undef:=rfl
theorem Ui (hT:Cd P T) (Md:Hy P Γ) {Q:Exit->Act->World->Prop} {K:Act->World->Prop} {st st':St} {a:Act} (h:Ai X π st a w) (o:Oper) (he:Cm T Γ ops st o=some st')
  (hK: ∀a' w',Rel X st' a' w'->K a' w'):if Region.wanted o (yielded ops a.tmps) then o.wp P a w K Q\/(o.asks P a w/\LetsOut Q) else K (a.put o.dst undef) w:=by
 have run:(evalOp T Γ st o).map (λr=>r.2.put o.dst r.1)=some st'->o.wp P a w K Q:=by
  intro he
  cases hr:evalOp T Γ st o with
  |none=>rw [hr] at he;cases he
  |some r=>
   rw [hr] at he
   simp only [Option.map_some,Option.some.injEq] at he;subst he
   exact kM (ry hT Md h o r.1 r.2 hr) hK
 have skip:some (st.put o.dst (.at .skip))=some st'->K (a.put o.dst undef) w:=by
  intro he
  simp only [Option.some.injEq] at he;subst he
  exact hK _ _ ⟨π,h.put o.dst wA⟩
 unfold Cm at he
 split at he
 ·rename_i hg
  rw [if_pos (by simp [Region.wanted,hg])]
  exact .inl (run he)
 ·rename_i j want hg
  split at he
  ·rename_i b hb
   have hy:=(Ze h j).1 b hb
   split at he
   ·rename_i xP
    rw [if_pos (by simp only [Region.wanted,hg,hy];simpa using xP)]
    exact .inl (run he)
   ·rename_i xP
    rw [if_neg (by simp only [Region.wanted,hg,hy];simpa using xP)]
    exact skip he
  ·rename_i hb
   have hy:=(Ze h j).2 hb
   rw [if_neg (by simp [Region.wanted,hg,hy])]
   exact skip he
  ·cases he
theorem dX (hT:Cd P T) (Md:Hy P Γ) {Q:Exit->Act->World->Prop} : ∀(l:List Oper) (st st':St) (a:Act) (w:World),Rel X st a w->Sz T Γ ops l st=some st'->
  (∀a' w',Rel X st' a' w'->Q .normal a' w')->wpList P ops Q l a w
 | [],st,st',a,w,h,he,hQ=>by
  simp only [Sz,Option.some.injEq] at he;subst he
  exact hQ _ _ h
 |o::r,st,st',a,w,⟨π,h⟩,he,hQ=>by
  simp only [Sz] at he
  split at he
  ·rename_i st1 h1
   exact Ui hT Md h o h1 λa' w' h'=>dX hT Md r st1 st' a' w' h' he hQ
  ·cases he
theorem dT (hT:Cd P T) (Md:Hy P Γ) {Q:Exit->Act->World->Prop} : ∀(l:List Nat) (st st':St) (a:Act) (w:World),Rel X st a w->Je T Γ ops l st=some st'->
  (∀a' w',Rel X st' a' w'->Q .normal a' w')->wpOps P ops Q l a w
 | [],st,st',a,w,h,he,hQ=>by
  simp only [Je,Option.some.injEq] at he;subst he
  exact hQ _ _ h
 |i::r,st,st',a,w,⟨π,h⟩,he,hQ=>by
  simp only [Je] at he
  split at he
  ·cases he
  ·rename_i o ho
   split at he
   ·rename_i st1 h1
    simp only [wpOps,ho]
    exact Ui hT Md h o h1 λa' w' h'=>dT hT Md r st1 st' a' w' h' he hQ
   ·cases he
end
end Go.Proofs.Ytjbdmibbbpdnnaa
