/-
  Part 24 of the proof that the statement FnExactSolveIDAStar holds.
-/
import Derived.Test.YtfgfigkbgecfnaaGreatCSolveIDAStar22
import Derived.LoopN
namespace Go.Proofs.YtfgfigkbgecfnaaGreat
open Go.RowKit
section
variable {P:Program} {T:Tab} {Γ:Env} {X:Ctx} {w w':World} {π:Pi} {H:List (Nat×OB)} {ops:Array Oper}
theorem sL (t1 t2:List AV) (H:List (Nat×OB)) (τ:Ty) (c:AC):Dv ⟨t1,H⟩ τ c=Dv ⟨t2,H⟩ τ c:=by
 cases c<;>cases τ<;>rfl
theorem kO (t1 t2:List AV) (H:List (Nat×OB)): ∀(τ:Ty) (cs:List AC),Ff ⟨t1,H⟩ τ cs=Ff ⟨t2,H⟩ τ cs:=by
 have one: ∀(τ:Ty) (cs:List AC),τ.Aq=false->Ff ⟨t1,H⟩ τ cs=Ff ⟨t2,H⟩ τ cs:=by
  intro τ cs h
  rw [Uu h,Uu h]
  rcases cs with _|⟨c,_|⟨d,r⟩⟩
  ·rfl
  ·exact sL t1 t2 H τ c
  ·rfl
 intro τ
 induction τ with
 |unit=>intro cs;cases cs<;>rfl
 |pair a r iX iR=>intro cs;simp only [Ff];rw [iX,iR]
 |_=>exact λcs=>one _ cs rfl
theorem pS (t1 t2:List AV) (H:List (Nat×OB)) (τ:Ty) (l i:Nat):Vh ⟨t1,H⟩ τ l i=Vh ⟨t2,H⟩ τ l i:=by
 unfold Vh
 simp only [St.at]
 split
 ·exact kO t1 t2 H _ _
 ·rfl
theorem yR (t1 t2:List AV) (H:List (Nat×OB)): ∀(τ:Ty) (cs:List (Nat×Nat)),Le ⟨t1,H⟩ τ cs=Le ⟨t2,H⟩ τ cs:=by
 intro τ
 induction τ with
 |unit=>intro cs;cases cs<;>rfl
 |pair a r _ iR=>
  intro cs
  cases a with
  |ptr a=>
   cases cs with
   |nil=>rfl
   |cons c cs=>simp only [Le];rw [pS t1 t2 H,iR]
  |_=>cases cs<;>rfl
 |_=>intro cs;cases cs<;>rfl
theorem FT (t1 t2:List AV) (H:List (Nat×OB)) (τ:Ty) (c:AC):Jz ⟨t1,H⟩ τ c=Jz ⟨t2,H⟩ τ c:=by
 cases τ<;>cases c<;>simp only [Jz]<;>first|rfl|exact sL t1 t2 H _ _|(rw [pS t1 t2 H])|(split;exact yR t1 t2 H _ _;rfl)
theorem dV (t1 t2:List AV) (H:List (Nat×OB)) (τ:Ty) (c:AV):Gc ⟨t1,H⟩ τ c=Gc ⟨t2,H⟩ τ c:=by
 cases c with
 | «at»a=>cases a<;>simp only [Gc]<;>first|rfl|rw [FT t1 t2 H]
 |agg cs=>simp only [Gc];rw [kO t1 t2 H]
 |cf fr Oq x=>rfl
 |Mn l=>rfl
theorem mF (t1 t2:List AV) (H:List (Nat×OB)): ∀(τ:Ty) (cs:List AV),Eb ⟨t1,H⟩ τ cs=Eb ⟨t2,H⟩ τ cs:=by
 intro τ
 induction τ with
 |pair a r iX iR=>
  intro cs
  cases cs with
  |nil=>rfl
  |cons c cs=>simp only [Eb];rw [dV t1 t2 H,iR]
 |_=>intro cs;cases cs<;>rfl
theorem YG (t1 t2:List AV) (H:List (Nat×OB)) (c:AV):JK ⟨t1,H⟩ c=JK ⟨t2,H⟩ c:=by
 cases c with
 | «at»a=>cases a<;>rfl
 |_=>rfl
theorem Adr {o:Oper} {t:Tmp} (h:Operand.tmp t∈o.op.operands.toList):t∈o.looksAt ops:=by
 unfold Oper.looksAt
 refine Az.2 (.inl (List.mem_filterMap.2 ⟨_,h,rfl⟩))
theorem UR {t1 t2:List AV} {H:List (Nat×OB)} {o:Oper} (hs: ∀t,t∈o.looksAt ops->t1.getD t .undef=t2.getD t .undef) (x:Operand) (hx:x∈o.op.operands.toList):
  St.ev ⟨t1,H⟩ x=St.ev ⟨t2,H⟩ x:=by
 cases x with
 |tmp t=>exact hs t (Adr hx)
 |const v=>rfl
 |global g=>rfl
 |func f=>rfl
theorem PM {t1 t2:List AV} {H:List (Nat×OB)} {o:Oper} (hs: ∀t,t∈o.looksAt ops->t1.getD t .undef=t2.getD t .undef):Fl T Γ ⟨t1,H⟩ o=Fl T Γ ⟨t2,H⟩ o:=by
 have he:= λx hx=>UR (H:=H) hs x hx
 obtain ⟨dst,op,ty,pos,af,gd⟩:=o
 dsimp only at he
 cases op with
 |move x=>simp only [Fl];rw [he x (by simp [Op.operands])]
 |assign x=>simp only [Fl];rw [he x (by simp [Op.operands])]
 |pick c x y=>simp only [Fl];rw [he c (by simp [Op.operands]),he x (by simp [Op.operands]),he y (by simp [Op.operands])]
 |load t x=>simp only [Fl];rw [he x (by simp [Op.operands])];rfl
 |nilCheck x=>simp only [Fl];rw [he x (by simp [Op.operands])]
 |binOp op t x y t'=>simp only [Fl];rw [he x (by simp [Op.operands]),he y (by simp [Op.operands])]
 |unOp op t x=>simp only [Fl];rw [he x (by simp [Op.operands])]
 |convert s t x=>simp only [Fl];rw [he x (by simp [Op.operands])];simp only [dV t1 t2 H]
 |makeFunc fn first Eg=>
  cases fn with
  |func f=>
   simp only [Fl]
   have ha:Eg.toList.map (St.ev ⟨t1,H⟩)=Eg.toList.map (St.ev ⟨t2,H⟩):=Ev λx hx=>he x (by
    simp only [Op.operands,Array.toList_append,Az]
    exact .inr hx)
   have hb:first.toList.map (St.ev ⟨t1,H⟩)=first.toList.map (St.ev ⟨t2,H⟩):=Ev λx hx=>he x (by
    simp only [Op.operands,Array.toList_append,Az]
    exact .inl hx)
   rw [ha,hb]
  |_=>rfl
 |lookup t m k ok=>simp only [Fl];rw [he m (by simp [Op.operands]),he k (by simp [Op.operands])];unfold fU;simp only [dV t1 t2 H]
 |slice t x lo hi mx=>
  simp only [Fl]
  rw [he x (by simp [Op.operands])]
  have h1:lo.map (St.ev ⟨t1,H⟩)=lo.map (St.ev ⟨t2,H⟩):=by
   cases lo with
   |none=>rfl
   |some y=>simp only [Am];rw [he y (by simp [Op.operands])]
  have h2:hi.map (St.ev ⟨t1,H⟩)=hi.map (St.ev ⟨t2,H⟩):=by
   cases hi with
   |none=>rfl
   |some y=>simp only [Am];rw [he y (by simp [Op.operands])]
  rw [h1,h2];rfl
 |fieldAddr s x f=>simp only [Fl];rw [he x (by simp [Op.operands])]
 |field s x f=>simp only [Fl];rw [he x (by simp [Op.operands])]
 |indexAddr t x i=>simp only [Fl];rw [he x (by simp [Op.operands]),he i (by simp [Op.operands])];rfl
 |index t x i=>simp only [Fl];rw [he x (by simp [Op.operands]),he i (by simp [Op.operands])]
 |extract x i=>simp only [Fl];rw [he x (by simp [Op.operands])]
 |call c=>
  obtain ⟨callee,args,ts⟩:=c
  have ha:args.toList.map (St.ev ⟨t1,H⟩)=args.toList.map (St.ev ⟨t2,H⟩):=Ev λx hx=>he x (by
   simp only [Op.operands,Call.operands,Array.toList_append,Az]
   exact .inr hx)
  cases callee with
  |value f=>
   cases f with
   |func f=>
    simp only [Fl]
    rw [ha]
    unfold Pf
    simp only [mF t1 t2 H]
   |tmp t=>
    simp only [Fl]
    have:=he (.tmp t) (by simp [Op.operands,Call.operands])
    simp only [St.ev] at this
    rw [ha,this]
    unfold Yt Pf
    simp only [mF t1 t2 H]
   |_=>rfl
  |invoke r m=>rfl
  |builtin b=>
   cases b with
   |len=>
    simp only [Fl]
    split
    ·rename_i x t hx ht
     rw [he x (by
      simp only [Op.operands,Call.operands,Array.toList_append,Az]
      exact .inr (by rw [hx];simp))]
     simp only [YG t1 t2 H]
    ·rfl
   |min=>simp only [Fl];rw [ha]
   |max=>simp only [Fl];rw [ha]
   |_=>rfl
 |_=>rfl
theorem HH {t1 t2:List AV} {H:List (Nat×OB)} (t:Option Tmp) (hs: ∀d,t=some d->t1.getD d .undef=t2.getD d .undef):Yl ⟨t1,H⟩ t=Yl ⟨t2,H⟩ t:=by
 cases t with
 |none=>rfl
 |some d=>simp only [Yl,St.get];rw [hs d rfl]
theorem sn {t1 t2:List AV} {H:List (Nat×OB)} (e:Ty): ∀(l:List (Nat×Operand)) (i:Nat),(∀p∈l,St.ev ⟨t1,H⟩ p.2=St.ev ⟨t2,H⟩ p.2)->gy e i l ⟨t1,H⟩=gy e i l ⟨t2,H⟩
 | [],_,_=>rfl
 |(j,x)::r,i,h=>by
  have h1:=h (j,x) (by simp)
  dsimp only at h1
  simp only [gy]
  rw [h1,dV t1 t2 H,sn e r (i+1) λp hp=>h p (Ar _ hp)]
theorem ie {t1 t2:List AV} {H:List (Nat×OB)} (t:TypeId): ∀(l:List (Nat×Operand)) (cs:List AC),(∀p∈l,St.ev ⟨t1,H⟩ p.2=St.ev ⟨t2,H⟩ p.2)->Mp T ⟨t1,H⟩ t l cs=Mp T ⟨t2,H⟩ t l cs
 | [],_,_=>rfl
 |(j,x)::r,cs,h=>by
  have h1:=h (j,x) (by simp)
  dsimp only at h1
  simp only [Mp]
  rw [h1]
  have ih: ∀jl,Mp T ⟨t1,H⟩ t r jl=Mp T ⟨t2,H⟩ t r jl:= λjl=>ie t r jl λp hp=>h p (Ar _ hp)
  simp only [ih]
theorem PK {t1 t2:List AV} {H:List (Nat×OB)} {o:Oper} (hs: ∀t,t∈o.looksAt ops->t1.getD t .undef=t2.getD t .undef):Ye T Γ ⟨t1,H⟩ o=Ye T Γ ⟨t2,H⟩ o:=by
 have he:= λx hx=>UR (H:=H) hs x hx
 have hq:=PM (T:=T) (Γ:=Γ) (H:=H) hs
 obtain ⟨dst,op,ty,pos,af,gd⟩:=o
 dsimp only at he
 unfold Ye
 cases op with
 |buildSlice t len parts=>
  dsimp only
  have hp: ∀p∈parts.toList,St.ev ⟨t1,H⟩ p.2=St.ev ⟨t2,H⟩ p.2:= λp hp=>he p.2 (by simp only [Op.operands,Bi];exact ⟨p,hp,rfl⟩)
  unfold cv
  simp only [sn _ _ _ hp]
 |build t parts=>
  dsimp only
  have hp: ∀p∈parts.toList,St.ev ⟨t1,H⟩ p.2=St.ev ⟨t2,H⟩ p.2:= λp hp=>he p.2 (by simp only [Op.operands,Bi];exact ⟨p,hp,rfl⟩)
  unfold Yr
  simp only [ie _ _ _ hp]
 |_=>exact hq
theorem AT {t1 t2:List AV} {H:List (Nat×OB)} {o:Oper} (hs: ∀t,t∈o.looksAt ops->t1.getD t .undef=t2.getD t .undef):Yb T Γ ops ⟨t1,H⟩ o=Yb T Γ ops ⟨t2,H⟩ o:=by
 unfold Yb
 rw [PK hs]
 split
 ·rfl
 ·rename_i j want hg
  rw [HH ((ops[j]?).bind (·.dst)) (λd hd=>hs d (by
   unfold Oper.looksAt
   rw [hg]
   exact Az.2 (.inr (by simp [hd]))))]
theorem MZ {st:St} {o:Oper} {dst:Option Tmp} {v:AV} (h: ∀d,dst=some d->d∉o.looksAt ops):Yb T Γ ops (st.put dst v) o=Yb T Γ ops st o:=by
 cases dst with
 |none=>rfl
 |some d=>
  obtain ⟨ts,H⟩:=st
  refine AT λt ht=>?_
  show (Tj ts d v).getD t .undef=ts.getD t .undef
  rw [Rh,Ag]
  rintro ⟨rfl,_⟩
  exact h d rfl ht
theorem St.put_comm (st:St) {x y:Option Tmp} (v u:AV) (h: ∀d,x=some d->y≠some d):(st.put x v).put y u=(st.put y u).put x v:=by
 cases x with
 |none=>cases y<;>rfl
 |some a=>
  cases y with
  |none=>rfl
  |some b=>
   have Ih:a≠b:= λe=>h a rfl (by rw [e])
   simp only [St.put,St.mk.injEq,Ow]
   rw [Wl,Wl,Wl,Wl]
   exact List.set_comm _ _ Ih
theorem fQ {st:St} {a:Act} (h:Bk X π st a w) (j:Nat):
  (∀b,Yl st ((ops[j]?).bind (·.dst))=some (some b)->yielded ops a.tmps j=some b)/\(Yl st ((ops[j]?).bind (·.dst))=some none->yielded ops a.tmps j=none):=by
 unfold yielded
 cases hd:(ops[j]?).bind (·.dst) with
 |none=>constructor<;>simp [Yl]
 |some d=>
  simp only [Yl,Ft]
  have hr:=h.2.tmps d
  constructor
  ·intro b hb
   split at hb
   ·rename_i fr b' hg
    simp only [Aa] at hb;subst hb
    rw [hg] at hr
    have:=aM hr
    cases ht:a.tmps[d]? with
    |none=>
     rw [da,ht] at this
     cases this
    |some v=>
     rw [da,ht] at this
     simp only [Cc] at this
     rw [this]
   ·cases hb
   ·cases hb
  ·intro hb
   split at hb
   ·cases hb
   ·rename_i hg
    rw [hg] at hr
    have hv:a.tmps.getD d undef=undef:=hr
    cases ht:a.tmps[d]? with
    |none=>rfl
    |some v=>
     rw [da,ht] at hv
     simp only [Cc] at hv
     rw [hv];rfl
   ·cases hb
theorem sN {Q:Exit->Act->World->Prop} {K:Act->World->Prop} {st':St} {a:Act} {o:Oper} {av:AV} (h:j4 P X st' a w av ((execOp a.eval o).run P w))
  (hK: ∀a' w',Rel X (st'.put o.dst av) a' w'->K a' w'):o.wp P a w K Q:=by
 unfold Oper.wp
 generalize (execOp a.eval o).run P w=r at*
 cases r with
 |halt x w'=>exact h.elim
 |ok n w'=>
  cases n<;>simp only [j4] at h<;>simp only [Oper.upon]
  ·obtain ⟨π',h1,h2⟩:=h
   exact hK _ _ ⟨π',h1.put o.dst h2⟩
  ·obtain ⟨π',h1,h2⟩:=h
   exact hK _ _ ⟨π',h1.put o.dst h2⟩
  ·obtain ⟨rfl,hc⟩:=h
   refine hc.mono ?_
   rintro e sM ⟨v,rfl,π',h1,h2⟩
   exact hK _ _ ⟨π',h1.put o.dst h2⟩
theorem LV {st:St} :Bs X w π st.heap (.at .skip) undef:=rfl
theorem Wu (hT:Ed P T) (Ph:Kk P Γ) {Q:Exit->Act->World->Prop} {K:Act->World->Prop} {st st':St} {a:Act} (h:Bk X π st a w) (o:Oper) (he:Ez T Γ ops st o=some st')
  (hK: ∀a' w',Rel X st' a' w'->K a' w'):if Region.wanted o (yielded ops a.tmps) then o.wp P a w K Q\/(o.asks P a w/\LetsOut Q) else K (a.put o.dst undef) w:=by
 have run:(evalOp T Γ st o).map (λr=>r.2.put o.dst r.1)=some st'->o.wp P a w K Q:=by
  intro he
  cases hr:evalOp T Γ st o with
  |none=>rw [hr] at he;cases he
  |some r=>
   rw [hr] at he
   simp only [Am,Aa] at he;subst he
   exact sN (BX hT Ph h o r.1 r.2 hr) hK
 have skip:some (st.put o.dst (.at .skip))=some st'->K (a.put o.dst undef) w:=by
  intro he
  simp only [Aa] at he;subst he
  exact hK _ _ ⟨π,h.put o.dst LV⟩
 unfold Ez at he
 split at he
 ·rename_i hg
  rw [Ab (by simp [Region.wanted,hg])]
  exact .inl (run he)
 ·rename_i j want hg
  split at he
  ·rename_i b hb
   have hy:=(fQ h j).1 b hb
   split at he
   ·rename_i hbw
    rw [Ab (by simp only [Region.wanted,hg,hy];simpa using hbw)]
    exact .inl (run he)
   ·rename_i hbw
    rw [Ag (by simp only [Region.wanted,hg,hy];simpa using hbw)]
    exact skip he
  ·rename_i hb
   have hy:=(fQ h j).2 hb
   rw [Ag (by simp [Region.wanted,hg,hy])]
   exact skip he
  ·cases he
theorem lZ (hT:Ed P T) (Ph:Kk P Γ) {Q:Exit->Act->World->Prop} : ∀(l:List Oper) (st st':St) (a:Act) (w:World),Rel X st a w->bz T Γ ops l st=some st'->
  (∀a' w',Rel X st' a' w'->Q .normal a' w')->wpList P ops Q l a w
 | [],st,st',a,w,h,he,hQ=>by
  simp only [bz,Aa] at he;subst he
  exact hQ _ _ h
 |o::r,st,st',a,w,⟨π,h⟩,he,hQ=>by
  simp only [bz] at he
  split at he
  ·rename_i st1 h1
   exact Wu hT Ph h o h1 λa' w' h'=>lZ hT Ph r st1 st' a' w' h' he hQ
  ·cases he
theorem lV (hT:Ed P T) (Ph:Kk P Γ) {Q:Exit->Act->World->Prop} : ∀(l:List Nat) (st st':St) (a:Act) (w:World),Rel X st a w->Nc T Γ ops l st=some st'->
  (∀a' w',Rel X st' a' w'->Q .normal a' w')->wpOps P ops Q l a w
 | [],st,st',a,w,h,he,hQ=>by
  simp only [Nc,Aa] at he;subst he
  exact hQ _ _ h
 |i::r,st,st',a,w,⟨π,h⟩,he,hQ=>by
  simp only [Nc] at he
  split at he
  ·cases he
  ·rename_i o ho
   split at he
   ·rename_i st1 h1
    simp only [wpOps,ho]
    exact Wu hT Ph h o h1 λa' w' h'=>lV hT Ph r st1 st' a' w' h' he hQ
   ·cases he
end
end Go.Proofs.YtfgfigkbgecfnaaGreat
