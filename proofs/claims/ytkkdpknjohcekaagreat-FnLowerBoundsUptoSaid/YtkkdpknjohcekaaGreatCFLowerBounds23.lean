/-
  Part 24 of the proof that the statement FnLowerBounds holds.
-/
import Derived.Test.YtkkdpknjohcekaaGreatCFLowerBounds22
import Derived.LoopN
namespace Go.Proofs.YtkkdpknjohcekaaGreat
open Go.RowKit
section
variable {P:Program} {T:Tab} {Γ:Env} {X:Ctx} {w w':World} {π:Pi} {H:List (Nat×OB)} {ops:Array Oper}
theorem qO (t1 t2:List AV) (H:List (Nat×OB)) (τ:Ty) (c:AC):Dr ⟨t1,H⟩ τ c=Dr ⟨t2,H⟩ τ c:=by
 cases c<;>cases τ<;>rfl
theorem jI (t1 t2:List AV) (H:List (Nat×OB)): ∀(τ:Ty) (cs:List AC),Ff ⟨t1,H⟩ τ cs=Ff ⟨t2,H⟩ τ cs:=by
 have one: ∀(τ:Ty) (cs:List AC),τ.Ao=false->Ff ⟨t1,H⟩ τ cs=Ff ⟨t2,H⟩ τ cs:=by
  intro τ cs h
  rw [Uz h,Uz h]
  rcases cs with _|⟨c,_|⟨d,r⟩⟩
  ·rfl
  ·exact qO t1 t2 H τ c
  ·rfl
 intro τ
 induction τ with
 |unit=>intro cs;cases cs<;>rfl
 |pair a r ib hJ=>intro cs;simp only [Ff];rw [ib,hJ]
 |_=>exact λcs=>one _ cs rfl
theorem oD (t1 t2:List AV) (H:List (Nat×OB)) (τ:Ty) (l i:Nat):Vj ⟨t1,H⟩ τ l i=Vj ⟨t2,H⟩ τ l i:=by
 unfold Vj
 simp only [St.at]
 split
 ·exact jI t1 t2 H _ _
 ·rfl
theorem wA (t1 t2:List AV) (H:List (Nat×OB)): ∀(τ:Ty) (cs:List (Nat×Nat)),Lp ⟨t1,H⟩ τ cs=Lp ⟨t2,H⟩ τ cs:=by
 intro τ
 induction τ with
 |unit=>intro cs;cases cs<;>rfl
 |pair a r _ hJ=>
  intro cs
  cases a with
  |ptr a=>
   cases cs with
   |nil=>rfl
   |cons c cs=>simp only [Lp];rw [oD t1 t2 H,hJ]
  |_=>cases cs<;>rfl
 |_=>intro cs;cases cs<;>rfl
theorem AU (t1 t2:List AV) (H:List (Nat×OB)) (τ:Ty) (c:AC):Kp ⟨t1,H⟩ τ c=Kp ⟨t2,H⟩ τ c:=by
 cases τ<;>cases c<;>simp only [Kp]<;>first|rfl|exact qO t1 t2 H _ _|(rw [oD t1 t2 H])|(split;exact wA t1 t2 H _ _;rfl)
theorem dr (t1 t2:List AV) (H:List (Nat×OB)) (τ:Ty) (c:AV):Gc ⟨t1,H⟩ τ c=Gc ⟨t2,H⟩ τ c:=by
 cases c with
 | «at»a=>cases a<;>simp only [Gc]<;>first|rfl|rw [AU t1 t2 H]
 |agg cs=>simp only [Gc];rw [jI t1 t2 H]
 |bF fr Pb x=>rfl
 |Ng l=>rfl
theorem lB (t1 t2:List AV) (H:List (Nat×OB)): ∀(τ:Ty) (cs:List AV),Dz ⟨t1,H⟩ τ cs=Dz ⟨t2,H⟩ τ cs:=by
 intro τ
 induction τ with
 |pair a r ib hJ=>
  intro cs
  cases cs with
  |nil=>rfl
  |cons c cs=>simp only [Dz];rw [dr t1 t2 H,hJ]
 |_=>intro cs;cases cs<;>rfl
theorem SA (t1 t2:List AV) (H:List (Nat×OB)) (c:AV):EB ⟨t1,H⟩ c=EB ⟨t2,H⟩ c:=by
 cases c with
 | «at»a=>cases a<;>rfl
 |_=>rfl
theorem YN {o:Oper} {t:Tmp} (h:Operand.tmp t∈o.op.operands.toList):t∈o.looksAt ops:=by
 unfold Oper.looksAt
 refine Az.2 (.inl (List.mem_filterMap.2 ⟨_,h,rfl⟩))
theorem OM {t1 t2:List AV} {H:List (Nat×OB)} {o:Oper} (hs: ∀t,t∈o.looksAt ops->t1.getD t .undef=t2.getD t .undef) (x:Operand) (hx:x∈o.op.operands.toList):
  St.ev ⟨t1,H⟩ x=St.ev ⟨t2,H⟩ x:=by
 cases x with
 |tmp t=>exact hs t (YN hx)
 |const v=>rfl
 |global g=>rfl
 |func f=>rfl
theorem JI {t1 t2:List AV} {H:List (Nat×OB)} {o:Oper} (hs: ∀t,t∈o.looksAt ops->t1.getD t .undef=t2.getD t .undef):Fh T Γ ⟨t1,H⟩ o=Fh T Γ ⟨t2,H⟩ o:=by
 have he:= λx hx=>OM (H:=H) hs x hx
 obtain ⟨dst,op,ty,pos,af,gd⟩:=o
 dsimp only at he
 cases op with
 |move x=>simp only [Fh];rw [he x (by simp [Op.operands])]
 |assign x=>simp only [Fh];rw [he x (by simp [Op.operands])]
 |pick c x y=>simp only [Fh];rw [he c (by simp [Op.operands]),he x (by simp [Op.operands]),he y (by simp [Op.operands])]
 |load t x=>simp only [Fh];rw [he x (by simp [Op.operands])];rfl
 |nilCheck x=>simp only [Fh];rw [he x (by simp [Op.operands])]
 |binOp op t x y t'=>simp only [Fh];rw [he x (by simp [Op.operands]),he y (by simp [Op.operands])]
 |unOp op t x=>simp only [Fh];rw [he x (by simp [Op.operands])]
 |convert s t x=>simp only [Fh];rw [he x (by simp [Op.operands])];simp only [dr t1 t2 H]
 |makeFunc fn first Eh=>
  cases fn with
  |func f=>
   simp only [Fh]
   have ha:Eh.toList.map (St.ev ⟨t1,H⟩)=Eh.toList.map (St.ev ⟨t2,H⟩):=Ev λx hx=>he x (by
    simp only [Op.operands,Array.toList_append,Az]
    exact .inr hx)
   have hb:first.toList.map (St.ev ⟨t1,H⟩)=first.toList.map (St.ev ⟨t2,H⟩):=Ev λx hx=>he x (by
    simp only [Op.operands,Array.toList_append,Az]
    exact .inl hx)
   rw [ha,hb]
  |_=>rfl
 |lookup t m k ok=>simp only [Fh];rw [he m (by simp [Op.operands]),he k (by simp [Op.operands])];unfold fj;simp only [dr t1 t2 H]
 |slice t x lo hi mx=>
  simp only [Fh]
  rw [he x (by simp [Op.operands])]
  have h1:lo.map (St.ev ⟨t1,H⟩)=lo.map (St.ev ⟨t2,H⟩):=by
   cases lo with
   |none=>rfl
   |some y=>simp only [Al];rw [he y (by simp [Op.operands])]
  have h2:hi.map (St.ev ⟨t1,H⟩)=hi.map (St.ev ⟨t2,H⟩):=by
   cases hi with
   |none=>rfl
   |some y=>simp only [Al];rw [he y (by simp [Op.operands])]
  rw [h1,h2];rfl
 |fieldAddr s x f=>simp only [Fh];rw [he x (by simp [Op.operands])]
 |field s x f=>simp only [Fh];rw [he x (by simp [Op.operands])]
 |indexAddr t x i=>simp only [Fh];rw [he x (by simp [Op.operands]),he i (by simp [Op.operands])];rfl
 |index t x i=>simp only [Fh];rw [he x (by simp [Op.operands]),he i (by simp [Op.operands])]
 |extract x i=>simp only [Fh];rw [he x (by simp [Op.operands])]
 |call c=>
  obtain ⟨callee,args,ts⟩:=c
  have ha:args.toList.map (St.ev ⟨t1,H⟩)=args.toList.map (St.ev ⟨t2,H⟩):=Ev λx hx=>he x (by
   simp only [Op.operands,Call.operands,Array.toList_append,Az]
   exact .inr hx)
  cases callee with
  |value f=>
   cases f with
   |func f=>
    simp only [Fh]
    rw [ha]
    unfold Pr
    simp only [lB t1 t2 H]
   |tmp t=>
    simp only [Fh]
    have:=he (.tmp t) (by simp [Op.operands,Call.operands])
    simp only [St.ev] at this
    rw [ha,this]
    unfold Yr Pr
    simp only [lB t1 t2 H]
   |_=>rfl
  |invoke r m=>rfl
  |builtin b=>
   cases b with
   |len=>
    simp only [Fh]
    split
    ·rename_i x t hx ht
     rw [he x (by
      simp only [Op.operands,Call.operands,Array.toList_append,Az]
      exact .inr (by rw [hx];simp))]
     simp only [SA t1 t2 H]
    ·rfl
   |min=>simp only [Fh];rw [ha]
   |max=>simp only [Fh];rw [ha]
   |_=>rfl
 |_=>rfl
theorem CE {t1 t2:List AV} {H:List (Nat×OB)} (t:Option Tmp) (hs: ∀d,t=some d->t1.getD d .undef=t2.getD d .undef):Yk ⟨t1,H⟩ t=Yk ⟨t2,H⟩ t:=by
 cases t with
 |none=>rfl
 |some d=>simp only [Yk,St.get];rw [hs d rfl]
theorem qx {t1 t2:List AV} {H:List (Nat×OB)} (e:Ty): ∀(l:List (Nat×Operand)) (i:Nat),(∀p∈l,St.ev ⟨t1,H⟩ p.2=St.ev ⟨t2,H⟩ p.2)->fJ e i l ⟨t1,H⟩=fJ e i l ⟨t2,H⟩
 | [],_,_=>rfl
 |(j,x)::r,i,h=>by
  have h1:=h (j,x) (by simp)
  dsimp only at h1
  simp only [fJ]
  rw [h1,dr t1 t2 H,qx e r (i+1) λp hp=>h p (An _ hp)]
theorem gr {t1 t2:List AV} {H:List (Nat×OB)} (t:TypeId): ∀(l:List (Nat×Operand)) (cs:List AC),(∀p∈l,St.ev ⟨t1,H⟩ p.2=St.ev ⟨t2,H⟩ p.2)->Mx T ⟨t1,H⟩ t l cs=Mx T ⟨t2,H⟩ t l cs
 | [],_,_=>rfl
 |(j,x)::r,cs,h=>by
  have h1:=h (j,x) (by simp)
  dsimp only at h1
  simp only [Mx]
  rw [h1]
  have ih: ∀iG,Mx T ⟨t1,H⟩ t r iG=Mx T ⟨t2,H⟩ t r iG:= λiG=>gr t r iG λp hp=>h p (An _ hp)
  simp only [ih]
theorem JH {t1 t2:List AV} {H:List (Nat×OB)} {o:Oper} (hs: ∀t,t∈o.looksAt ops->t1.getD t .undef=t2.getD t .undef):Yc T Γ ⟨t1,H⟩ o=Yc T Γ ⟨t2,H⟩ o:=by
 have he:= λx hx=>OM (H:=H) hs x hx
 have hq:=JI (T:=T) (Γ:=Γ) (H:=H) hs
 obtain ⟨dst,op,ty,pos,af,gd⟩:=o
 dsimp only at he
 unfold Yc
 cases op with
 |buildSlice t len parts=>
  dsimp only
  have hp: ∀p∈parts.toList,St.ev ⟨t1,H⟩ p.2=St.ev ⟨t2,H⟩ p.2:= λp hp=>he p.2 (by simp only [Op.operands,Be];exact ⟨p,hp,rfl⟩)
  unfold bS
  simp only [qx _ _ _ hp]
 |build t parts=>
  dsimp only
  have hp: ∀p∈parts.toList,St.ev ⟨t1,H⟩ p.2=St.ev ⟨t2,H⟩ p.2:= λp hp=>he p.2 (by simp only [Op.operands,Be];exact ⟨p,hp,rfl⟩)
  unfold Yp
  simp only [gr _ _ _ hp]
 |_=>exact hq
theorem yd {t1 t2:List AV} {H:List (Nat×OB)} {o:Oper} (hs: ∀t,t∈o.looksAt ops->t1.getD t .undef=t2.getD t .undef):Xz T Γ ops ⟨t1,H⟩ o=Xz T Γ ops ⟨t2,H⟩ o:=by
 unfold Xz
 rw [JH hs]
 split
 ·rfl
 ·rename_i j want hg
  rw [CE ((ops[j]?).bind (·.dst)) (λd hd=>hs d (by
   unfold Oper.looksAt
   rw [hg]
   exact Az.2 (.inr (by simp [hd]))))]
theorem HF {st:St} {o:Oper} {dst:Option Tmp} {v:AV} (h: ∀d,dst=some d->d∉o.looksAt ops):Xz T Γ ops (st.put dst v) o=Xz T Γ ops st o:=by
 cases dst with
 |none=>rfl
 |some d=>
  obtain ⟨ts,H⟩:=st
  refine yd λt ht=>?_
  show (Ts ts d v).getD t .undef=ts.getD t .undef
  rw [Ru,Aj]
  rintro ⟨rfl,_⟩
  exact h d rfl ht
theorem St.put_comm (st:St) {x y:Option Tmp} (v u:AV) (h: ∀d,x=some d->y≠some d):(st.put x v).put y u=(st.put y u).put x v:=by
 cases x with
 |none=>cases y<;>rfl
 |some a=>
  cases y with
  |none=>rfl
  |some b=>
   have Jd:a≠b:= λe=>h a rfl (by rw [e])
   simp only [St.put,St.mk.injEq,bo]
   rw [Wf,Wf,Wf,Wf]
   exact List.set_comm _ _ Jd
theorem ff {st:St} {a:Act} (h:Bh X π st a w) (j:Nat):
  (∀b,Yk st ((ops[j]?).bind (·.dst))=some (some b)->yielded ops a.tmps j=some b)/\(Yk st ((ops[j]?).bind (·.dst))=some none->yielded ops a.tmps j=none):=by
 unfold yielded
 cases hd:(ops[j]?).bind (·.dst) with
 |none=>constructor<;>simp [Yk]
 |some d=>
  simp only [Yk,Fo]
  have hr:=h.2.tmps d
  constructor
  ·intro b hb
   split at hb
   ·rename_i fr b' hg
    simp only [Aa] at hb;subst hb
    rw [hg] at hr
    have:=al hr
    cases ht:a.tmps[d]? with
    |none=>
     rw [cD,ht] at this
     cases this
    |some v=>
     rw [cD,ht] at this
     simp only [Ct] at this
     rw [this]
   ·cases hb
   ·cases hb
  ·intro hb
   split at hb
   ·cases hb
   ·rename_i hg
    rw [hg] at hr
    have hv:a.tmps.getD d undef=undef:=hr
    cases ht:a.tmps[d]? with
    |none=>rfl
    |some v=>
     rw [cD,ht] at hv
     simp only [Ct] at hv
     rw [hv];rfl
   ·cases hb
theorem qQ {Q:Exit->Act->World->Prop} {K:Act->World->Prop} {st':St} {a:Act} {o:Oper} {av:AV} (h:ig P X st' a w av ((execOp a.eval o).run P w))
  (hK: ∀a' w',Rel X (st'.put o.dst av) a' w'->K a' w'):o.wp P a w K Q:=by
 unfold Oper.wp
 generalize (execOp a.eval o).run P w=r at*
 cases r with
 |halt x w'=>exact h.elim
 |ok n w'=>
  cases n<;>simp only [ig] at h<;>simp only [Oper.upon]
  ·obtain ⟨π',h1,h2⟩:=h
   exact hK _ _ ⟨π',h1.put o.dst h2⟩
  ·obtain ⟨π',h1,h2⟩:=h
   exact hK _ _ ⟨π',h1.put o.dst h2⟩
  ·obtain ⟨rfl,hc⟩:=h
   refine hc.mono ?_
   rintro e qP ⟨v,rfl,π',h1,h2⟩
   exact hK _ _ ⟨π',h1.put o.dst h2⟩
theorem GL {st:St} :Bl X w π st.heap (.at .skip) undef:=rfl
theorem Wu (hT:Eg P T) (Pu:Lj P Γ) {Q:Exit->Act->World->Prop} {K:Act->World->Prop} {st st':St} {a:Act} (h:Bh X π st a w) (o:Oper) (he:Fb T Γ ops st o=some st')
  (hK: ∀a' w',Rel X st' a' w'->K a' w'):if Region.wanted o (yielded ops a.tmps) then o.wp P a w K Q\/(o.asks P a w/\LetsOut Q) else K (a.put o.dst undef) w:=by
 have run:(evalOp T Γ st o).map (λr=>r.2.put o.dst r.1)=some st'->o.wp P a w K Q:=by
  intro he
  cases hr:evalOp T Γ st o with
  |none=>rw [hr] at he;cases he
  |some r=>
   rw [hr] at he
   simp only [Al,Aa] at he;subst he
   exact qQ (yF hT Pu h o r.1 r.2 hr) hK
 have skip:some (st.put o.dst (.at .skip))=some st'->K (a.put o.dst undef) w:=by
  intro he
  simp only [Aa] at he;subst he
  exact hK _ _ ⟨π,h.put o.dst GL⟩
 unfold Fb at he
 split at he
 ·rename_i hg
  rw [Ab (by simp [Region.wanted,hg])]
  exact .inl (run he)
 ·rename_i j want hg
  split at he
  ·rename_i b hb
   have hy:=(ff h j).1 b hb
   split at he
   ·rename_i JQ
    rw [Ab (by simp only [Region.wanted,hg,hy];simpa using JQ)]
    exact .inl (run he)
   ·rename_i JQ
    rw [Aj (by simp only [Region.wanted,hg,hy];simpa using JQ)]
    exact skip he
  ·rename_i hb
   have hy:=(ff h j).2 hb
   rw [Aj (by simp [Region.wanted,hg,hy])]
   exact skip he
  ·cases he
theorem kT (hT:Eg P T) (Pu:Lj P Γ) {Q:Exit->Act->World->Prop} : ∀(l:List Oper) (st st':St) (a:Act) (w:World),Rel X st a w->aX T Γ ops l st=some st'->
  (∀a' w',Rel X st' a' w'->Q .normal a' w')->wpList P ops Q l a w
 | [],st,st',a,w,h,he,hQ=>by
  simp only [aX,Aa] at he;subst he
  exact hQ _ _ h
 |o::r,st,st',a,w,⟨π,h⟩,he,hQ=>by
  simp only [aX] at he
  split at he
  ·rename_i st1 h1
   exact Wu hT Pu h o h1 λa' w' h'=>kT hT Pu r st1 st' a' w' h' he hQ
  ·cases he
theorem kP (hT:Eg P T) (Pu:Lj P Γ) {Q:Exit->Act->World->Prop} : ∀(l:List Nat) (st st':St) (a:Act) (w:World),Rel X st a w->Nj T Γ ops l st=some st'->
  (∀a' w',Rel X st' a' w'->Q .normal a' w')->wpOps P ops Q l a w
 | [],st,st',a,w,h,he,hQ=>by
  simp only [Nj,Aa] at he;subst he
  exact hQ _ _ h
 |i::r,st,st',a,w,⟨π,h⟩,he,hQ=>by
  simp only [Nj] at he
  split at he
  ·cases he
  ·rename_i o ho
   split at he
   ·rename_i st1 h1
    simp only [wpOps,ho]
    exact Wu hT Pu h o h1 λa' w' h'=>kP hT Pu r st1 st' a' w' h' he hQ
   ·cases he
end
end Go.Proofs.YtkkdpknjohcekaaGreat
