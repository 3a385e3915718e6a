/-
  Part 24 of the proof that the statement FnNoShorterSolution holds.
-/
import Derived.Test.YtkkdpknjohcekaaGreatCFNoShorterSolution22
import Derived.LoopN
namespace Go.Proofs.YtkkdpknjohcekaaGreat
open Go.RowKit
section
variable {P:Program} {T:Tab} {Γ:Env} {X:Ctx} {w w':World} {π:Pi} {H:List (Nat×OB)} {ops:Array Oper}
theorem qU (t1 t2:List AV) (H:List (Nat×OB)) (τ:Ty) (c:AC):Dr ⟨t1,H⟩ τ c=Dr ⟨t2,H⟩ τ c:=by
 cases c<;>cases τ<;>rfl
theorem kf (t1 t2:List AV) (H:List (Nat×OB)): ∀(τ:Ty) (cs:List AC),Fb ⟨t1,H⟩ τ cs=Fb ⟨t2,H⟩ τ cs:=by
 have one: ∀(τ:Ty) (cs:List AC),τ.Aq=false->Fb ⟨t1,H⟩ τ cs=Fb ⟨t2,H⟩ τ cs:=by
  intro τ cs h
  rw [Uk h,Uk h]
  rcases cs with _|⟨c,_|⟨d,r⟩⟩
  ·rfl
  ·exact qU t1 t2 H τ c
  ·rfl
 intro τ
 induction τ with
 |unit=>intro cs;cases cs<;>rfl
 |pair a r iA iw=>intro cs;simp only [Fb];rw [iA,iw]
 |_=>exact λcs=>one _ cs rfl
theorem oM (t1 t2:List AV) (H:List (Nat×OB)) (τ:Ty) (l i:Nat):Uw ⟨t1,H⟩ τ l i=Uw ⟨t2,H⟩ τ l i:=by
 unfold Uw
 simp only [St.at]
 split
 ·exact kf t1 t2 H _ _
 ·rfl
theorem wN (t1 t2:List AV) (H:List (Nat×OB)): ∀(τ:Ty) (cs:List (Nat×Nat)),Ls ⟨t1,H⟩ τ cs=Ls ⟨t2,H⟩ τ cs:=by
 intro τ
 induction τ with
 |unit=>intro cs;cases cs<;>rfl
 |pair a r _ iw=>
  intro cs
  cases a with
  |ptr a=>
   cases cs with
   |nil=>rfl
   |cons c cs=>simp only [Ls];rw [oM t1 t2 H,iw]
  |_=>cases cs<;>rfl
 |_=>intro cs;cases cs<;>rfl
theorem BO (t1 t2:List AV) (H:List (Nat×OB)) (τ:Ty) (c:AC):Kn ⟨t1,H⟩ τ c=Kn ⟨t2,H⟩ τ c:=by
 cases τ<;>cases c<;>simp only [Kn]<;>first|rfl|exact qU t1 t2 H _ _|(rw [oM t1 t2 H])|(split;exact wN t1 t2 H _ _;rfl)
theorem dr (t1 t2:List AV) (H:List (Nat×OB)) (τ:Ty) (c:AV):Fv ⟨t1,H⟩ τ c=Fv ⟨t2,H⟩ τ c:=by
 cases c with
 | «at»a=>cases a<;>simp only [Fv]<;>first|rfl|rw [BO t1 t2 H]
 |agg cs=>simp only [Fv];rw [kf t1 t2 H]
 |bF fr Ox x=>rfl
 |Ng l=>rfl
theorem lT (t1 t2:List AV) (H:List (Nat×OB)): ∀(τ:Ty) (cs:List AV),Dw ⟨t1,H⟩ τ cs=Dw ⟨t2,H⟩ τ cs:=by
 intro τ
 induction τ with
 |pair a r iA iw=>
  intro cs
  cases cs with
  |nil=>rfl
  |cons c cs=>simp only [Dw];rw [dr t1 t2 H,iw]
 |_=>intro cs;cases cs<;>rfl
theorem TC (t1 t2:List AV) (H:List (Nat×OB)) (c:AV):FA ⟨t1,H⟩ c=FA ⟨t2,H⟩ c:=by
 cases c with
 | «at»a=>cases a<;>rfl
 |_=>rfl
theorem ZR {o:Oper} {t:Tmp} (h:Operand.tmp t∈o.op.operands.toList):t∈o.looksAt ops:=by
 unfold Oper.looksAt
 refine Bb.2 (.inl (List.mem_filterMap.2 ⟨_,h,rfl⟩))
theorem PD {t1 t2:List AV} {H:List (Nat×OB)} {o:Oper} (hs: ∀t,t∈o.looksAt ops->t1.getD t .undef=t2.getD t .undef) (x:Operand) (hx:x∈o.op.operands.toList):
  St.ev ⟨t1,H⟩ x=St.ev ⟨t2,H⟩ x:=by
 cases x with
 |tmp t=>exact hs t (ZR hx)
 |const v=>rfl
 |global g=>rfl
 |func f=>rfl
theorem KA {t1 t2:List AV} {H:List (Nat×OB)} {o:Oper} (hs: ∀t,t∈o.looksAt ops->t1.getD t .undef=t2.getD t .undef):Fc T Γ ⟨t1,H⟩ o=Fc T Γ ⟨t2,H⟩ o:=by
 have he:= λx hx=>PD (H:=H) hs x hx
 obtain ⟨dst,op,ty,pos,af,gd⟩:=o
 dsimp only at he
 cases op with
 |move x=>simp only [Fc];rw [he x (by simp [Op.operands])]
 |assign x=>simp only [Fc];rw [he x (by simp [Op.operands])]
 |pick c x y=>simp only [Fc];rw [he c (by simp [Op.operands]),he x (by simp [Op.operands]),he y (by simp [Op.operands])]
 |load t x=>simp only [Fc];rw [he x (by simp [Op.operands])];rfl
 |nilCheck x=>simp only [Fc];rw [he x (by simp [Op.operands])]
 |binOp op t x y t'=>simp only [Fc];rw [he x (by simp [Op.operands]),he y (by simp [Op.operands])]
 |unOp op t x=>simp only [Fc];rw [he x (by simp [Op.operands])]
 |convert s t x=>simp only [Fc];rw [he x (by simp [Op.operands])];simp only [dr t1 t2 H]
 |makeFunc fn first Ee=>
  cases fn with
  |func f=>
   simp only [Fc]
   have ha:Ee.toList.map (St.ev ⟨t1,H⟩)=Ee.toList.map (St.ev ⟨t2,H⟩):=Eu λx hx=>he x (by
    simp only [Op.operands,Array.toList_append,Bb]
    exact .inr hx)
   have hb:first.toList.map (St.ev ⟨t1,H⟩)=first.toList.map (St.ev ⟨t2,H⟩):=Eu λx hx=>he x (by
    simp only [Op.operands,Array.toList_append,Bb]
    exact .inl hx)
   rw [ha,hb]
  |_=>rfl
 |lookup t m k ok=>simp only [Fc];rw [he m (by simp [Op.operands]),he k (by simp [Op.operands])];unfold fF;simp only [dr t1 t2 H]
 |slice t x lo hi mx=>
  simp only [Fc]
  rw [he x (by simp [Op.operands])]
  have h1:lo.map (St.ev ⟨t1,H⟩)=lo.map (St.ev ⟨t2,H⟩):=by
   cases lo with
   |none=>rfl
   |some y=>simp only [Al];rw [he y (by simp [Op.operands])]
  have h2:hi.map (St.ev ⟨t1,H⟩)=hi.map (St.ev ⟨t2,H⟩):=by
   cases hi with
   |none=>rfl
   |some y=>simp only [Al];rw [he y (by simp [Op.operands])]
  rw [h1,h2];rfl
 |fieldAddr s x f=>simp only [Fc];rw [he x (by simp [Op.operands])]
 |field s x f=>simp only [Fc];rw [he x (by simp [Op.operands])]
 |indexAddr t x i=>simp only [Fc];rw [he x (by simp [Op.operands]),he i (by simp [Op.operands])];rfl
 |index t x i=>simp only [Fc];rw [he x (by simp [Op.operands]),he i (by simp [Op.operands])]
 |extract x i=>simp only [Fc];rw [he x (by simp [Op.operands])]
 |call c=>
  obtain ⟨callee,args,ts⟩:=c
  have ha:args.toList.map (St.ev ⟨t1,H⟩)=args.toList.map (St.ev ⟨t2,H⟩):=Eu λx hx=>he x (by
   simp only [Op.operands,Call.operands,Array.toList_append,Bb]
   exact .inr hx)
  cases callee with
  |value f=>
   cases f with
   |func f=>
    simp only [Fc]
    rw [ha]
    unfold Pj
    simp only [lT t1 t2 H]
   |tmp t=>
    simp only [Fc]
    have:=he (.tmp t) (by simp [Op.operands,Call.operands])
    simp only [St.ev] at this
    rw [ha,this]
    unfold Ye Pj
    simp only [lT t1 t2 H]
   |_=>rfl
  |invoke r m=>rfl
  |builtin b=>
   cases b with
   |len=>
    simp only [Fc]
    split
    ·rename_i x t hx ht
     rw [he x (by
      simp only [Op.operands,Call.operands,Array.toList_append,Bb]
      exact .inr (by rw [hx];simp))]
     simp only [TC t1 t2 H]
    ·rfl
   |min=>simp only [Fc];rw [ha]
   |max=>simp only [Fc];rw [ha]
   |_=>rfl
 |_=>rfl
theorem DC {t1 t2:List AV} {H:List (Nat×OB)} (t:Option Tmp) (hs: ∀d,t=some d->t1.getD d .undef=t2.getD d .undef):Xx ⟨t1,H⟩ t=Xx ⟨t2,H⟩ t:=by
 cases t with
 |none=>rfl
 |some d=>simp only [Xx,St.get];rw [hs d rfl]
theorem qE {t1 t2:List AV} {H:List (Nat×OB)} (e:Ty): ∀(l:List (Nat×Operand)) (i:Nat),(∀p∈l,St.ev ⟨t1,H⟩ p.2=St.ev ⟨t2,H⟩ p.2)->fX e i l ⟨t1,H⟩=fX e i l ⟨t2,H⟩
 | [],_,_=>rfl
 |(j,x)::r,i,h=>by
  have h1:=h (j,x) (by simp)
  dsimp only at h1
  simp only [fX]
  rw [h1,dr t1 t2 H,qE e r (i+1) λp hp=>h p (Ao _ hp)]
theorem gL {t1 t2:List AV} {H:List (Nat×OB)} (t:TypeId): ∀(l:List (Nat×Operand)) (cs:List AC),(∀p∈l,St.ev ⟨t1,H⟩ p.2=St.ev ⟨t2,H⟩ p.2)->Mz T ⟨t1,H⟩ t l cs=Mz T ⟨t2,H⟩ t l cs
 | [],_,_=>rfl
 |(j,x)::r,cs,h=>by
  have h1:=h (j,x) (by simp)
  dsimp only at h1
  simp only [Mz]
  rw [h1]
  have ih: ∀j0,Mz T ⟨t1,H⟩ t r j0=Mz T ⟨t2,H⟩ t r j0:= λj0=>gL t r j0 λp hp=>h p (Ao _ hp)
  simp only [ih]
theorem JZ {t1 t2:List AV} {H:List (Nat×OB)} {o:Oper} (hs: ∀t,t∈o.looksAt ops->t1.getD t .undef=t2.getD t .undef):Xn T Γ ⟨t1,H⟩ o=Xn T Γ ⟨t2,H⟩ o:=by
 have he:= λx hx=>PD (H:=H) hs x hx
 have hq:=KA (T:=T) (Γ:=Γ) (H:=H) hs
 obtain ⟨dst,op,ty,pos,af,gd⟩:=o
 dsimp only at he
 unfold Xn
 cases op with
 |buildSlice t len parts=>
  dsimp only
  have hp: ∀p∈parts.toList,St.ev ⟨t1,H⟩ p.2=St.ev ⟨t2,H⟩ p.2:= λp hp=>he p.2 (by simp only [Op.operands,Bi];exact ⟨p,hp,rfl⟩)
  unfold bQ
  simp only [qE _ _ _ hp]
 |build t parts=>
  dsimp only
  have hp: ∀p∈parts.toList,St.ev ⟨t1,H⟩ p.2=St.ev ⟨t2,H⟩ p.2:= λp hp=>he p.2 (by simp only [Op.operands,Bi];exact ⟨p,hp,rfl⟩)
  unfold Yc
  simp only [gL _ _ _ hp]
 |_=>exact hq
theorem yr {t1 t2:List AV} {H:List (Nat×OB)} {o:Oper} (hs: ∀t,t∈o.looksAt ops->t1.getD t .undef=t2.getD t .undef):Xk T Γ ops ⟨t1,H⟩ o=Xk T Γ ops ⟨t2,H⟩ o:=by
 unfold Xk
 rw [JZ hs]
 split
 ·rfl
 ·rename_i j want hg
  rw [DC ((ops[j]?).bind (·.dst)) (λd hd=>hs d (by
   unfold Oper.looksAt
   rw [hg]
   exact Bb.2 (.inr (by simp [hd]))))]
theorem HX {st:St} {o:Oper} {dst:Option Tmp} {v:AV} (h: ∀d,dst=some d->d∉o.looksAt ops):Xk T Γ ops (st.put dst v) o=Xk T Γ ops st o:=by
 cases dst with
 |none=>rfl
 |some d=>
  obtain ⟨ts,H⟩:=st
  refine yr λt ht=>?_
  show (Td ts d v).getD t .undef=ts.getD t .undef
  rw [Rk,Ai]
  rintro ⟨rfl,_⟩
  exact h d rfl ht
theorem St.put_comm (st:St) {x y:Option Tmp} (v u:AV) (h: ∀d,x=some d->y≠some d):(st.put x v).put y u=(st.put y u).put x v:=by
 cases x with
 |none=>cases y<;>rfl
 |some a=>
  cases y with
  |none=>rfl
  |some b=>
   have Jr:a≠b:= λe=>h a rfl (by rw [e])
   simp only [St.put,St.mk.injEq,bl]
   rw [Vt,Vt,Vt,Vt]
   exact List.set_comm _ _ Jr
theorem fv {st:St} {a:Act} (h:Bh X π st a w) (j:Nat):
  (∀b,Xx st ((ops[j]?).bind (·.dst))=some (some b)->yielded ops a.tmps j=some b)/\(Xx st ((ops[j]?).bind (·.dst))=some none->yielded ops a.tmps j=none):=by
 unfold yielded
 cases hd:(ops[j]?).bind (·.dst) with
 |none=>constructor<;>simp [Xx]
 |some d=>
  simp only [Xx,Fl]
  have hr:=h.2.tmps d
  constructor
  ·intro b hb
   split at hb
   ·rename_i fr b' hg
    simp only [Aa] at hb;subst hb
    rw [hg] at hr
    have:=aa hr
    cases ht:a.tmps[d]? with
    |none=>
     rw [cB,ht] at this
     cases this
    |some v=>
     rw [cB,ht] at this
     simp only [Dd] at this
     rw [this]
   ·cases hb
   ·cases hb
  ·intro hb
   split at hb
   ·cases hb
   ·rename_i hg
    rw [hg] at hr
    have hv:a.tmps.getD d undef=undef:=hr
    cases ht:a.tmps[d]? with
    |none=>rfl
    |some v=>
     rw [cB,ht] at hv
     simp only [Dd] at hv
     rw [hv];rfl
   ·cases hb
theorem qX {Q:Exit->Act->World->Prop} {K:Act->World->Prop} {st':St} {a:Act} {o:Oper} {av:AV} (h:iE P X st' a w av ((execOp a.eval o).run P w))
  (hK: ∀a' w',Rel X (st'.put o.dst av) a' w'->K a' w'):o.wp P a w K Q:=by
 unfold Oper.wp
 generalize (execOp a.eval o).run P w=r at*
 cases r with
 |halt x w'=>exact h.elim
 |ok n w'=>
  cases n<;>simp only [iE] at h<;>simp only [Oper.upon]
  ·obtain ⟨π',h1,h2⟩:=h
   exact hK _ _ ⟨π',h1.put o.dst h2⟩
  ·obtain ⟨π',h1,h2⟩:=h
   exact hK _ _ ⟨π',h1.put o.dst h2⟩
  ·obtain ⟨rfl,hc⟩:=h
   refine hc.mono ?_
   rintro e qV ⟨v,rfl,π',h1,h2⟩
   exact hK _ _ ⟨π',h1.put o.dst h2⟩
theorem HH {st:St} :Bm X w π st.heap (.at .skip) undef:=rfl
theorem Wf (hT:Ed P T) (Po:Ll P Γ) {Q:Exit->Act->World->Prop} {K:Act->World->Prop} {st st':St} {a:Act} (h:Bh X π st a w) (o:Oper) (he:Ey T Γ ops st o=some st')
  (hK: ∀a' w',Rel X st' a' w'->K a' w'):if Region.wanted o (yielded ops a.tmps) then o.wp P a w K Q\/(o.asks P a w/\LetsOut Q) else K (a.put o.dst undef) w:=by
 have run:(evalOp T Γ st o).map (λr=>r.2.put o.dst r.1)=some st'->o.wp P a w K Q:=by
  intro he
  cases hr:evalOp T Γ st o with
  |none=>rw [hr] at he;cases he
  |some r=>
   rw [hr] at he
   simp only [Al,Aa] at he;subst he
   exact qX (yT hT Po h o r.1 r.2 hr) hK
 have skip:some (st.put o.dst (.at .skip))=some st'->K (a.put o.dst undef) w:=by
  intro he
  simp only [Aa] at he;subst he
  exact hK _ _ ⟨π,h.put o.dst HH⟩
 unfold Ey at he
 split at he
 ·rename_i hg
  rw [Ab (by simp [Region.wanted,hg])]
  exact .inl (run he)
 ·rename_i j want hg
  split at he
  ·rename_i b hb
   have hy:=(fv h j).1 b hb
   split at he
   ·rename_i YA
    rw [Ab (by simp only [Region.wanted,hg,hy];simpa using YA)]
    exact .inl (run he)
   ·rename_i YA
    rw [Ai (by simp only [Region.wanted,hg,hy];simpa using YA)]
    exact skip he
  ·rename_i hb
   have hy:=(fv h j).2 hb
   rw [Ai (by simp [Region.wanted,hg,hy])]
   exact skip he
  ·cases he
theorem ld (hT:Ed P T) (Po:Ll P Γ) {Q:Exit->Act->World->Prop} : ∀(l:List Oper) (st st':St) (a:Act) (w:World),Rel X st a w->aU T Γ ops l st=some st'->
  (∀a' w',Rel X st' a' w'->Q .normal a' w')->wpList P ops Q l a w
 | [],st,st',a,w,h,he,hQ=>by
  simp only [aU,Aa] at he;subst he
  exact hQ _ _ h
 |o::r,st,st',a,w,⟨π,h⟩,he,hQ=>by
  simp only [aU] at he
  split at he
  ·rename_i st1 h1
   exact Wf hT Po h o h1 λa' w' h'=>ld hT Po r st1 st' a' w' h' he hQ
  ·cases he
theorem l7 (hT:Ed P T) (Po:Ll P Γ) {Q:Exit->Act->World->Prop} : ∀(l:List Nat) (st st':St) (a:Act) (w:World),Rel X st a w->Nj T Γ ops l st=some st'->
  (∀a' w',Rel X st' a' w'->Q .normal a' w')->wpOps P ops Q l a w
 | [],st,st',a,w,h,he,hQ=>by
  simp only [Nj,Aa] at he;subst he
  exact hQ _ _ h
 |i::r,st,st',a,w,⟨π,h⟩,he,hQ=>by
  simp only [Nj] at he
  split at he
  ·cases he
  ·rename_i o ho
   split at he
   ·rename_i st1 h1
    simp only [wpOps,ho]
    exact Wf hT Po h o h1 λa' w' h'=>l7 hT Po r st1 st' a' w' h' he hQ
   ·cases he
end
end Go.Proofs.YtkkdpknjohcekaaGreat
