/-
  Part 24 of the proof that the statement FnSubgroups holds.
-/
import Derived.Test.YtkkdpknjohcekaaCFSubgroups22
import Derived.LoopN
namespace Go.Proofs.Ytkkdpknjohcekaa
open Go.RowKit
section
variable {P:Program} {T:Tab} {Γ:Env} {X:Ctx} {w w':World} {π:Pi} {H:List (Nat×OB)} {ops:Array Oper}
theorem rD (t1 t2:List AV) (H:List (Nat×OB)) (τ:Ty) (c:AC):Dx ⟨t1,H⟩ τ c=Dx ⟨t2,H⟩ τ c:=by
 cases c<;>cases τ<;>rfl
theorem ka (t1 t2:List AV) (H:List (Nat×OB)): ∀(τ:Ty) (cs:List AC),Fh ⟨t1,H⟩ τ cs=Fh ⟨t2,H⟩ τ cs:=by
 have one: ∀(τ:Ty) (cs:List AC),τ.Ap=false->Fh ⟨t1,H⟩ τ cs=Fh ⟨t2,H⟩ τ cs:=by
  intro τ cs h
  rw [Ua h,Ua h]
  rcases cs with _|⟨c,_|⟨d,r⟩⟩
  ·rfl
  ·exact rD t1 t2 H τ c
  ·rfl
 intro τ
 induction τ with
 |unit=>intro cs;cases cs<;>rfl
 |pair a r iq ie=>intro cs;simp only [Fh];rw [iq,ie]
 |_=>exact λcs=>one _ cs rfl
theorem oR (t1 t2:List AV) (H:List (Nat×OB)) (τ:Ty) (l i:Nat):Un ⟨t1,H⟩ τ l i=Un ⟨t2,H⟩ τ l i:=by
 unfold Un
 simp only [St.at]
 split
 ·exact ka t1 t2 H _ _
 ·rfl
theorem wU (t1 t2:List AV) (H:List (Nat×OB)): ∀(τ:Ty) (cs:List (Nat×Nat)),Kx ⟨t1,H⟩ τ cs=Kx ⟨t2,H⟩ τ cs:=by
 intro τ
 induction τ with
 |unit=>intro cs;cases cs<;>rfl
 |pair a r _ ie=>
  intro cs
  cases a with
  |ptr a=>
   cases cs with
   |nil=>rfl
   |cons c cs=>simp only [Kx];rw [oR t1 t2 H,ie]
  |_=>cases cs<;>rfl
 |_=>intro cs;cases cs<;>rfl
theorem CN (t1 t2:List AV) (H:List (Nat×OB)) (τ:Ty) (c:AC):Jp ⟨t1,H⟩ τ c=Jp ⟨t2,H⟩ τ c:=by
 cases τ<;>cases c<;>simp only [Jp]<;>first|rfl|exact rD t1 t2 H _ _|(rw [oR t1 t2 H])|(split;exact wU t1 t2 H _ _;rfl)
theorem di (t1 t2:List AV) (H:List (Nat×OB)) (τ:Ty) (c:AV):Fv ⟨t1,H⟩ τ c=Fv ⟨t2,H⟩ τ c:=by
 cases c with
 | «at»a=>cases a<;>simp only [Fv]<;>first|rfl|rw [CN t1 t2 H]
 |agg cs=>simp only [Fv];rw [ka t1 t2 H]
 |bp fr Nv x=>rfl
 |Mn l=>rfl
theorem lQ (t1 t2:List AV) (H:List (Nat×OB)): ∀(τ:Ty) (cs:List AV),Ec ⟨t1,H⟩ τ cs=Ec ⟨t2,H⟩ τ cs:=by
 intro τ
 induction τ with
 |pair a r iq ie=>
  intro cs
  cases cs with
  |nil=>rfl
  |cons c cs=>simp only [Ec];rw [di t1 t2 H,ie]
 |_=>intro cs;cases cs<;>rfl
theorem UF (t1 t2:List AV) (H:List (Nat×OB)) (c:AV):GG ⟨t1,H⟩ c=GG ⟨t2,H⟩ c:=by
 cases c with
 | «at»a=>cases a<;>rfl
 |_=>rfl
theorem Aal {o:Oper} {t:Tmp} (h:Operand.tmp t∈o.op.operands.toList):t∈o.looksAt ops:=by
 unfold Oper.looksAt
 refine Az.2 (.inl (List.mem_filterMap.2 ⟨_,h,rfl⟩))
theorem QL {t1 t2:List AV} {H:List (Nat×OB)} {o:Oper} (hs: ∀t,t∈o.looksAt ops->t1.getD t .undef=t2.getD t .undef) (x:Operand) (hx:x∈o.op.operands.toList):
  St.ev ⟨t1,H⟩ x=St.ev ⟨t2,H⟩ x:=by
 cases x with
 |tmp t=>exact hs t (Aal hx)
 |const v=>rfl
 |global g=>rfl
 |func f=>rfl
theorem LI {t1 t2:List AV} {H:List (Nat×OB)} {o:Oper} (hs: ∀t,t∈o.looksAt ops->t1.getD t .undef=t2.getD t .undef):Fl T Γ ⟨t1,H⟩ o=Fl T Γ ⟨t2,H⟩ o:=by
 have he:= λx hx=>QL (H:=H) hs x hx
 obtain ⟨dst,op,ty,pos,af,gd⟩:=o
 dsimp only at he
 cases op with
 |move x=>simp only [Fl];rw [he x (by simp [Op.operands])]
 |assign x=>simp only [Fl];rw [he x (by simp [Op.operands])]
 |pick c x y=>simp only [Fl];rw [he c (by simp [Op.operands]),he x (by simp [Op.operands]),he y (by simp [Op.operands])]
 |load t x=>simp only [Fl];rw [he x (by simp [Op.operands])];rfl
 |nilCheck x=>simp only [Fl];rw [he x (by simp [Op.operands])]
 |binOp op t x y t'=>simp only [Fl];rw [he x (by simp [Op.operands]),he y (by simp [Op.operands])]
 |unOp op t x=>simp only [Fl];rw [he x (by simp [Op.operands])]
 |convert s t x=>simp only [Fl];rw [he x (by simp [Op.operands])];simp only [di t1 t2 H]
 |makeFunc fn first Ek=>
  cases fn with
  |func f=>
   simp only [Fl]
   have ha:Ek.toList.map (St.ev ⟨t1,H⟩)=Ek.toList.map (St.ev ⟨t2,H⟩):=Gj λx hx=>he x (by
    simp only [Op.operands,Array.toList_append,Az]
    exact .inr hx)
   have hb:first.toList.map (St.ev ⟨t1,H⟩)=first.toList.map (St.ev ⟨t2,H⟩):=Gj λx hx=>he x (by
    simp only [Op.operands,Array.toList_append,Az]
    exact .inl hx)
   rw [ha,hb]
  |_=>rfl
 |lookup t m k ok=>simp only [Fl];rw [he m (by simp [Op.operands]),he k (by simp [Op.operands])];unfold fm;simp only [di t1 t2 H]
 |slice t x lo hi mx=>
  simp only [Fl]
  rw [he x (by simp [Op.operands])]
  have h1:lo.map (St.ev ⟨t1,H⟩)=lo.map (St.ev ⟨t2,H⟩):=by
   cases lo with
   |none=>rfl
   |some y=>simp only [Am];rw [he y (by simp [Op.operands])]
  have h2:hi.map (St.ev ⟨t1,H⟩)=hi.map (St.ev ⟨t2,H⟩):=by
   cases hi with
   |none=>rfl
   |some y=>simp only [Am];rw [he y (by simp [Op.operands])]
  rw [h1,h2];rfl
 |fieldAddr s x f=>simp only [Fl];rw [he x (by simp [Op.operands])]
 |field s x f=>simp only [Fl];rw [he x (by simp [Op.operands])]
 |indexAddr t x i=>simp only [Fl];rw [he x (by simp [Op.operands]),he i (by simp [Op.operands])];rfl
 |index t x i=>simp only [Fl];rw [he x (by simp [Op.operands]),he i (by simp [Op.operands])]
 |extract x i=>simp only [Fl];rw [he x (by simp [Op.operands])]
 |call c=>
  obtain ⟨callee,args,ts⟩:=c
  have ha:args.toList.map (St.ev ⟨t1,H⟩)=args.toList.map (St.ev ⟨t2,H⟩):=Gj λx hx=>he x (by
   simp only [Op.operands,Call.operands,Array.toList_append,Az]
   exact .inr hx)
  cases callee with
  |value f=>
   cases f with
   |func f=>
    simp only [Fl]
    rw [ha]
    unfold Ok
    simp only [lQ t1 t2 H]
   |tmp t=>
    simp only [Fl]
    have:=he (.tmp t) (by simp [Op.operands,Call.operands])
    simp only [St.ev] at this
    rw [ha,this]
    unfold Xs Ok
    simp only [lQ t1 t2 H]
   |_=>rfl
  |invoke r m=>rfl
  |builtin b=>
   cases b with
   |len=>
    simp only [Fl]
    split
    ·rename_i x t hx ht
     rw [he x (by
      simp only [Op.operands,Call.operands,Array.toList_append,Az]
      exact .inr (by rw [hx];simp))]
     simp only [UF t1 t2 H]
    ·rfl
   |min=>simp only [Fl];rw [ha]
   |max=>simp only [Fl];rw [ha]
   |_=>rfl
 |_=>rfl
theorem EB {t1 t2:List AV} {H:List (Nat×OB)} (t:Option Tmp) (hs: ∀d,t=some d->t1.getD d .undef=t2.getD d .undef):Xj ⟨t1,H⟩ t=Xj ⟨t2,H⟩ t:=by
 cases t with
 |none=>rfl
 |some d=>simp only [Xj,St.get];rw [hs d rfl]
theorem r9 {t1 t2:List AV} {H:List (Nat×OB)} (e:Ty): ∀(l:List (Nat×Operand)) (i:Nat),(∀p∈l,St.ev ⟨t1,H⟩ p.2=St.ev ⟨t2,H⟩ p.2)->fM e i l ⟨t1,H⟩=fM e i l ⟨t2,H⟩
 | [],_,_=>rfl
 |(j,x)::r,i,h=>by
  have h1:=h (j,x) (by simp)
  dsimp only at h1
  simp only [fM]
  rw [h1,di t1 t2 H,r9 e r (i+1) λp hp=>h p (Ar _ hp)]
theorem gC {t1 t2:List AV} {H:List (Nat×OB)} (t:TypeId): ∀(l:List (Nat×Operand)) (cs:List AC),(∀p∈l,St.ev ⟨t1,H⟩ p.2=St.ev ⟨t2,H⟩ p.2)->Me T ⟨t1,H⟩ t l cs=Me T ⟨t2,H⟩ t l cs
 | [],_,_=>rfl
 |(j,x)::r,cs,h=>by
  have h1:=h (j,x) (by simp)
  dsimp only at h1
  simp only [Me]
  rw [h1]
  have ih: ∀iP,Me T ⟨t1,H⟩ t r iP=Me T ⟨t2,H⟩ t r iP:= λiP=>gC t r iP λp hp=>h p (Ar _ hp)
  simp only [ih]
theorem LH {t1 t2:List AV} {H:List (Nat×OB)} {o:Oper} (hs: ∀t,t∈o.looksAt ops->t1.getD t .undef=t2.getD t .undef):Xf T Γ ⟨t1,H⟩ o=Xf T Γ ⟨t2,H⟩ o:=by
 have he:= λx hx=>QL (H:=H) hs x hx
 have hq:=LI (T:=T) (Γ:=Γ) (H:=H) hs
 obtain ⟨dst,op,ty,pos,af,gd⟩:=o
 dsimp only at he
 unfold Xf
 cases op with
 |buildSlice t len parts=>
  dsimp only
  have hp: ∀p∈parts.toList,St.ev ⟨t1,H⟩ p.2=St.ev ⟨t2,H⟩ p.2:= λp hp=>he p.2 (by simp only [Op.operands,Ba];exact ⟨p,hp,rfl⟩)
  unfold bE
  simp only [r9 _ _ _ hp]
 |build t parts=>
  dsimp only
  have hp: ∀p∈parts.toList,St.ev ⟨t1,H⟩ p.2=St.ev ⟨t2,H⟩ p.2:= λp hp=>he p.2 (by simp only [Op.operands,Ba];exact ⟨p,hp,rfl⟩)
  unfold Xq
  simp only [gC _ _ _ hp]
 |_=>exact hq
theorem yE {t1 t2:List AV} {H:List (Nat×OB)} {o:Oper} (hs: ∀t,t∈o.looksAt ops->t1.getD t .undef=t2.getD t .undef):Xd T Γ ops ⟨t1,H⟩ o=Xd T Γ ops ⟨t2,H⟩ o:=by
 unfold Xd
 rw [LH hs]
 split
 ·rfl
 ·rename_i j want hg
  rw [EB ((ops[j]?).bind (·.dst)) (λd hd=>hs d (by
   unfold Oper.looksAt
   rw [hg]
   exact Az.2 (.inr (by simp [hd]))))]
theorem JF {st:St} {o:Oper} {dst:Option Tmp} {v:AV} (h: ∀d,dst=some d->d∉o.looksAt ops):Xd T Γ ops (st.put dst v) o=Xd T Γ ops st o:=by
 cases dst with
 |none=>rfl
 |some d=>
  obtain ⟨ts,H⟩:=st
  refine yE λt ht=>?_
  show (Sn ts d v).getD t .undef=ts.getD t .undef
  rw [Qo,Ak]
  rintro ⟨rfl,_⟩
  exact h d rfl ht
theorem St.put_comm (st:St) {x y:Option Tmp} (v u:AV) (h: ∀d,x=some d->y≠some d):(st.put x v).put y u=(st.put y u).put x v:=by
 cases x with
 |none=>cases y<;>rfl
 |some a=>
  cases y with
  |none=>rfl
  |some b=>
   have Ig:a≠b:= λe=>h a rfl (by rw [e])
   simp only [St.put,St.mk.injEq,Oa]
   rw [Vl,Vl,Vl,Vl]
   exact List.set_comm _ _ Ig
theorem fg {st:St} {a:Act} (h:Bl X π st a w) (j:Nat):
  (∀b,Xj st ((ops[j]?).bind (·.dst))=some (some b)->yielded ops a.tmps j=some b)/\(Xj st ((ops[j]?).bind (·.dst))=some none->yielded ops a.tmps j=none):=by
 unfold yielded
 cases hd:(ops[j]?).bind (·.dst) with
 |none=>constructor<;>simp [Xj]
 |some d=>
  simp only [Xj,Eu]
  have hr:=h.2.tmps d
  constructor
  ·intro b hb
   split at hb
   ·rename_i fr b' hg
    simp only [Aa] at hb;subst hb
    rw [hg] at hr
    have:=a8 hr
    cases ht:a.tmps[d]? with
    |none=>
     rw [cq,ht] at this
     cases this
    |some v=>
     rw [cq,ht] at this
     simp only [Bx] at this
     rw [this]
   ·cases hb
   ·cases hb
  ·intro hb
   split at hb
   ·cases hb
   ·rename_i hg
    rw [hg] at hr
    have hv:a.tmps.getD d undef=undef:=hr
    cases ht:a.tmps[d]? with
    |none=>rfl
    |some v=>
     rw [cq,ht] at hv
     simp only [Bx] at hv
     rw [hv];rfl
   ·cases hb
theorem rH {Q:Exit->Act->World->Prop} {K:Act->World->Prop} {st':St} {a:Act} {o:Oper} {av:AV} (h:iy P X st' a w av ((execOp a.eval o).run P w))
  (hK: ∀a' w',Rel X (st'.put o.dst av) a' w'->K a' w'):o.wp P a w K Q:=by
 unfold Oper.wp
 generalize (execOp a.eval o).run P w=r at*
 cases r with
 |halt x w'=>exact h.elim
 |ok n w'=>
  cases n<;>simp only [iy] at h<;>simp only [Oper.upon]
  ·obtain ⟨π',h1,h2⟩:=h
   exact hK _ _ ⟨π',h1.put o.dst h2⟩
  ·obtain ⟨π',h1,h2⟩:=h
   exact hK _ _ ⟨π',h1.put o.dst h2⟩
  ·obtain ⟨rfl,hc⟩:=h
   refine hc.mono ?_
   rintro e rE ⟨v,rfl,π',h1,h2⟩
   exact hK _ _ ⟨π',h1.put o.dst h2⟩
theorem IJ {st:St} :Bq X w π st.heap (.at .skip) undef:=rfl
theorem Wa (hT:Ef P T) (Om:Kq P Γ) {Q:Exit->Act->World->Prop} {K:Act->World->Prop} {st st':St} {a:Act} (h:Bl X π st a w) (o:Oper) (he:Ff T Γ ops st o=some st')
  (hK: ∀a' w',Rel X st' a' w'->K a' w'):if Region.wanted o (yielded ops a.tmps) then o.wp P a w K Q\/(o.asks P a w/\LetsOut Q) else K (a.put o.dst undef) w:=by
 have run:(evalOp T Γ st o).map (λr=>r.2.put o.dst r.1)=some st'->o.wp P a w K Q:=by
  intro he
  cases hr:evalOp T Γ st o with
  |none=>rw [hr] at he;cases he
  |some r=>
   rw [hr] at he
   simp only [Am,Aa] at he;subst he
   exact rH (zb hT Om h o r.1 r.2 hr) hK
 have skip:some (st.put o.dst (.at .skip))=some st'->K (a.put o.dst undef) w:=by
  intro he
  simp only [Aa] at he;subst he
  exact hK _ _ ⟨π,h.put o.dst IJ⟩
 unfold Ff at he
 split at he
 ·rename_i hg
  rw [Ab (by simp [Region.wanted,hg])]
  exact .inl (run he)
 ·rename_i j want hg
  split at he
  ·rename_i b hb
   have hy:=(fg h j).1 b hb
   split at he
   ·rename_i LN
    rw [Ab (by simp only [Region.wanted,hg,hy];simpa using LN)]
    exact .inl (run he)
   ·rename_i LN
    rw [Ak (by simp only [Region.wanted,hg,hy];simpa using LN)]
    exact skip he
  ·rename_i hb
   have hy:=(fg h j).2 hb
   rw [Ak (by simp [Region.wanted,hg,hy])]
   exact skip he
  ·cases he
theorem lf (hT:Ef P T) (Om:Kq P Γ) {Q:Exit->Act->World->Prop} : ∀(l:List Oper) (st st':St) (a:Act) (w:World),Rel X st a w->aR T Γ ops l st=some st'->
  (∀a' w',Rel X st' a' w'->Q .normal a' w')->wpList P ops Q l a w
 | [],st,st',a,w,h,he,hQ=>by
  simp only [aR,Aa] at he;subst he
  exact hQ _ _ h
 |o::r,st,st',a,w,⟨π,h⟩,he,hQ=>by
  simp only [aR] at he
  split at he
  ·rename_i st1 h1
   exact Wa hT Om h o h1 λa' w' h'=>lf hT Om r st1 st' a' w' h' he hQ
  ·cases he
theorem l8 (hT:Ef P T) (Om:Kq P Γ) {Q:Exit->Act->World->Prop} : ∀(l:List Nat) (st st':St) (a:Act) (w:World),Rel X st a w->Mq T Γ ops l st=some st'->
  (∀a' w',Rel X st' a' w'->Q .normal a' w')->wpOps P ops Q l a w
 | [],st,st',a,w,h,he,hQ=>by
  simp only [Mq,Aa] at he;subst he
  exact hQ _ _ h
 |i::r,st,st',a,w,⟨π,h⟩,he,hQ=>by
  simp only [Mq] at he
  split at he
  ·cases he
  ·rename_i o ho
   split at he
   ·rename_i st1 h1
    simp only [wpOps,ho]
    exact Wa hT Om h o h1 λa' w' h'=>l8 hT Om r st1 st' a' w' h' he hQ
   ·cases he
end
end Go.Proofs.Ytkkdpknjohcekaa
