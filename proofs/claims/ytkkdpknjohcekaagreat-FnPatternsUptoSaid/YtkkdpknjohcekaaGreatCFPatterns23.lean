/-
  Part 24 of the proof that the statement FnPatterns holds.
-/
import Derived.Test.YtkkdpknjohcekaaGreatCFPatterns22
import Derived.LoopN
namespace Go.Proofs.YtkkdpknjohcekaaGreat
open Go.RowKit
section
variable {P:Program} {T:Tab} {Γ:Env} {X:Ctx} {w w':World} {π:Pi} {H:List (Nat×OB)} {ops:Array Oper}
theorem qV (t1 t2:List AV) (H:List (Nat×OB)) (τ:Ty) (c:AC):Dr ⟨t1,H⟩ τ c=Dr ⟨t2,H⟩ τ c:=by
 cases c<;>cases τ<;>rfl
theorem jJ (t1 t2:List AV) (H:List (Nat×OB)): ∀(τ:Ty) (cs:List AC),Fg ⟨t1,H⟩ τ cs=Fg ⟨t2,H⟩ τ cs:=by
 have one: ∀(τ:Ty) (cs:List AC),τ.Ap=false->Fg ⟨t1,H⟩ τ cs=Fg ⟨t2,H⟩ τ cs:=by
  intro τ cs h
  rw [Ud h,Ud h]
  rcases cs with _|⟨c,_|⟨d,r⟩⟩
  ·rfl
  ·exact qV t1 t2 H τ c
  ·rfl
 intro τ
 induction τ with
 |unit=>intro cs;cases cs<;>rfl
 |pair a r ib gZ=>intro cs;simp only [Fg];rw [ib,gZ]
 |_=>exact λcs=>one _ cs rfl
theorem ow (t1 t2:List AV) (H:List (Nat×OB)) (τ:Ty) (l i:Nat):Ur ⟨t1,H⟩ τ l i=Ur ⟨t2,H⟩ τ l i:=by
 unfold Ur
 simp only [St.at]
 split
 ·exact jJ t1 t2 H _ _
 ·rfl
theorem wY (t1 t2:List AV) (H:List (Nat×OB)): ∀(τ:Ty) (cs:List (Nat×Nat)),Le ⟨t1,H⟩ τ cs=Le ⟨t2,H⟩ τ cs:=by
 intro τ
 induction τ with
 |unit=>intro cs;cases cs<;>rfl
 |pair a r _ gZ=>
  intro cs
  cases a with
  |ptr a=>
   cases cs with
   |nil=>rfl
   |cons c cs=>simp only [Le];rw [ow t1 t2 H,gZ]
  |_=>cases cs<;>rfl
 |_=>intro cs;cases cs<;>rfl
theorem CM (t1 t2:List AV) (H:List (Nat×OB)) (τ:Ty) (c:AC):Kb ⟨t1,H⟩ τ c=Kb ⟨t2,H⟩ τ c:=by
 cases τ<;>cases c<;>simp only [Kb]<;>first|rfl|exact qV t1 t2 H _ _|(rw [ow t1 t2 H])|(split;exact wY t1 t2 H _ _;rfl)
theorem dj (t1 t2:List AV) (H:List (Nat×OB)) (τ:Ty) (c:AV):Ga ⟨t1,H⟩ τ c=Ga ⟨t2,H⟩ τ c:=by
 cases c with
 | «at»a=>cases a<;>simp only [Ga]<;>first|rfl|rw [CM t1 t2 H]
 |agg cs=>simp only [Ga];rw [jJ t1 t2 H]
 |bw fr Oe x=>rfl
 |Mt l=>rfl
theorem lz (t1 t2:List AV) (H:List (Nat×OB)): ∀(τ:Ty) (cs:List AV),Dx ⟨t1,H⟩ τ cs=Dx ⟨t2,H⟩ τ cs:=by
 intro τ
 induction τ with
 |pair a r ib gZ=>
  intro cs
  cases cs with
  |nil=>rfl
  |cons c cs=>simp only [Dx];rw [dj t1 t2 H,gZ]
 |_=>intro cs;cases cs<;>rfl
theorem UM (t1 t2:List AV) (H:List (Nat×OB)) (c:AV):GF ⟨t1,H⟩ c=GF ⟨t2,H⟩ c:=by
 cases c with
 | «at»a=>cases a<;>rfl
 |_=>rfl
theorem Aaq {o:Oper} {t:Tmp} (h:Operand.tmp t∈o.op.operands.toList):t∈o.looksAt ops:=by
 unfold Oper.looksAt
 refine Az.2 (.inl (List.mem_filterMap.2 ⟨_,h,rfl⟩))
theorem QX {t1 t2:List AV} {H:List (Nat×OB)} {o:Oper} (hs: ∀t,t∈o.looksAt ops->t1.getD t .undef=t2.getD t .undef) (x:Operand) (hx:x∈o.op.operands.toList):
  St.ev ⟨t1,H⟩ x=St.ev ⟨t2,H⟩ x:=by
 cases x with
 |tmp t=>exact hs t (Aaq hx)
 |const v=>rfl
 |global g=>rfl
 |func f=>rfl
theorem LJ {t1 t2:List AV} {H:List (Nat×OB)} {o:Oper} (hs: ∀t,t∈o.looksAt ops->t1.getD t .undef=t2.getD t .undef):Fh T Γ ⟨t1,H⟩ o=Fh T Γ ⟨t2,H⟩ o:=by
 have he:= λx hx=>QX (H:=H) hs x hx
 obtain ⟨dst,op,ty,pos,af,gd⟩:=o
 dsimp only at he
 cases op with
 |move x=>simp only [Fh];rw [he x (by simp [Op.operands])]
 |assign x=>simp only [Fh];rw [he x (by simp [Op.operands])]
 |pick c x y=>simp only [Fh];rw [he c (by simp [Op.operands]),he x (by simp [Op.operands]),he y (by simp [Op.operands])]
 |load t x=>simp only [Fh];rw [he x (by simp [Op.operands])];rfl
 |nilCheck x=>simp only [Fh];rw [he x (by simp [Op.operands])]
 |binOp op t x y t'=>simp only [Fh];rw [he x (by simp [Op.operands]),he y (by simp [Op.operands])]
 |unOp op t x=>simp only [Fh];rw [he x (by simp [Op.operands])]
 |convert s t x=>simp only [Fh];rw [he x (by simp [Op.operands])];simp only [dj t1 t2 H]
 |makeFunc fn first Ef=>
  cases fn with
  |func f=>
   simp only [Fh]
   have ha:Ef.toList.map (St.ev ⟨t1,H⟩)=Ef.toList.map (St.ev ⟨t2,H⟩):=Ei λx hx=>he x (by
    simp only [Op.operands,Array.toList_append,Az]
    exact .inr hx)
   have hb:first.toList.map (St.ev ⟨t1,H⟩)=first.toList.map (St.ev ⟨t2,H⟩):=Ei λx hx=>he x (by
    simp only [Op.operands,Array.toList_append,Az]
    exact .inl hx)
   rw [ha,hb]
  |_=>rfl
 |lookup t m k ok=>simp only [Fh];rw [he m (by simp [Op.operands]),he k (by simp [Op.operands])];unfold fi;simp only [dj t1 t2 H]
 |slice t x lo hi mx=>
  simp only [Fh]
  rw [he x (by simp [Op.operands])]
  have h1:lo.map (St.ev ⟨t1,H⟩)=lo.map (St.ev ⟨t2,H⟩):=by
   cases lo with
   |none=>rfl
   |some y=>simp only [Am];rw [he y (by simp [Op.operands])]
  have h2:hi.map (St.ev ⟨t1,H⟩)=hi.map (St.ev ⟨t2,H⟩):=by
   cases hi with
   |none=>rfl
   |some y=>simp only [Am];rw [he y (by simp [Op.operands])]
  rw [h1,h2];rfl
 |fieldAddr s x f=>simp only [Fh];rw [he x (by simp [Op.operands])]
 |field s x f=>simp only [Fh];rw [he x (by simp [Op.operands])]
 |indexAddr t x i=>simp only [Fh];rw [he x (by simp [Op.operands]),he i (by simp [Op.operands])];rfl
 |index t x i=>simp only [Fh];rw [he x (by simp [Op.operands]),he i (by simp [Op.operands])]
 |extract x i=>simp only [Fh];rw [he x (by simp [Op.operands])]
 |call c=>
  obtain ⟨callee,args,ts⟩:=c
  have ha:args.toList.map (St.ev ⟨t1,H⟩)=args.toList.map (St.ev ⟨t2,H⟩):=Ei λx hx=>he x (by
   simp only [Op.operands,Call.operands,Array.toList_append,Az]
   exact .inr hx)
  cases callee with
  |value f=>
   cases f with
   |func f=>
    simp only [Fh]
    rw [ha]
    unfold Oo
    simp only [lz t1 t2 H]
   |tmp t=>
    simp only [Fh]
    have:=he (.tmp t) (by simp [Op.operands,Call.operands])
    simp only [St.ev] at this
    rw [ha,this]
    unfold Yd Oo
    simp only [lz t1 t2 H]
   |_=>rfl
  |invoke r m=>rfl
  |builtin b=>
   cases b with
   |len=>
    simp only [Fh]
    split
    ·rename_i x t hx ht
     rw [he x (by
      simp only [Op.operands,Call.operands,Array.toList_append,Az]
      exact .inr (by rw [hx];simp))]
     simp only [UM t1 t2 H]
    ·rfl
   |min=>simp only [Fh];rw [ha]
   |max=>simp only [Fh];rw [ha]
   |_=>rfl
 |_=>rfl
theorem EB {t1 t2:List AV} {H:List (Nat×OB)} (t:Option Tmp) (hs: ∀d,t=some d->t1.getD d .undef=t2.getD d .undef):Xv ⟨t1,H⟩ t=Xv ⟨t2,H⟩ t:=by
 cases t with
 |none=>rfl
 |some d=>simp only [Xv,St.get];rw [hs d rfl]
theorem qH {t1 t2:List AV} {H:List (Nat×OB)} (e:Ty): ∀(l:List (Nat×Operand)) (i:Nat),(∀p∈l,St.ev ⟨t1,H⟩ p.2=St.ev ⟨t2,H⟩ p.2)->fI e i l ⟨t1,H⟩=fI e i l ⟨t2,H⟩
 | [],_,_=>rfl
 |(j,x)::r,i,h=>by
  have h1:=h (j,x) (by simp)
  dsimp only at h1
  simp only [fI]
  rw [h1,dj t1 t2 H,qH e r (i+1) λp hp=>h p (Aq _ hp)]
theorem gr {t1 t2:List AV} {H:List (Nat×OB)} (t:TypeId): ∀(l:List (Nat×Operand)) (cs:List AC),(∀p∈l,St.ev ⟨t1,H⟩ p.2=St.ev ⟨t2,H⟩ p.2)->Mn T ⟨t1,H⟩ t l cs=Mn T ⟨t2,H⟩ t l cs
 | [],_,_=>rfl
 |(j,x)::r,cs,h=>by
  have h1:=h (j,x) (by simp)
  dsimp only at h1
  simp only [Mn]
  rw [h1]
  have ih: ∀iH,Mn T ⟨t1,H⟩ t r iH=Mn T ⟨t2,H⟩ t r iH:= λiH=>gr t r iH λp hp=>h p (Aq _ hp)
  simp only [ih]
theorem LI {t1 t2:List AV} {H:List (Nat×OB)} {o:Oper} (hs: ∀t,t∈o.looksAt ops->t1.getD t .undef=t2.getD t .undef):Xn T Γ ⟨t1,H⟩ o=Xn T Γ ⟨t2,H⟩ o:=by
 have he:= λx hx=>QX (H:=H) hs x hx
 have hq:=LJ (T:=T) (Γ:=Γ) (H:=H) hs
 obtain ⟨dst,op,ty,pos,af,gd⟩:=o
 dsimp only at he
 unfold Xn
 cases op with
 |buildSlice t len parts=>
  dsimp only
  have hp: ∀p∈parts.toList,St.ev ⟨t1,H⟩ p.2=St.ev ⟨t2,H⟩ p.2:= λp hp=>he p.2 (by simp only [Op.operands,Bg];exact ⟨p,hp,rfl⟩)
  unfold bI
  simp only [qH _ _ _ hp]
 |build t parts=>
  dsimp only
  have hp: ∀p∈parts.toList,St.ev ⟨t1,H⟩ p.2=St.ev ⟨t2,H⟩ p.2:= λp hp=>he p.2 (by simp only [Op.operands,Bg];exact ⟨p,hp,rfl⟩)
  unfold Yb
  simp only [gr _ _ _ hp]
 |_=>exact hq
theorem yH {t1 t2:List AV} {H:List (Nat×OB)} {o:Oper} (hs: ∀t,t∈o.looksAt ops->t1.getD t .undef=t2.getD t .undef):Xl T Γ ops ⟨t1,H⟩ o=Xl T Γ ops ⟨t2,H⟩ o:=by
 unfold Xl
 rw [LI hs]
 split
 ·rfl
 ·rename_i j want hg
  rw [EB ((ops[j]?).bind (·.dst)) (λd hd=>hs d (by
   unfold Oper.looksAt
   rw [hg]
   exact Az.2 (.inr (by simp [hd]))))]
theorem JG {st:St} {o:Oper} {dst:Option Tmp} {v:AV} (h: ∀d,dst=some d->d∉o.looksAt ops):Xl T Γ ops (st.put dst v) o=Xl T Γ ops st o:=by
 cases dst with
 |none=>rfl
 |some d=>
  obtain ⟨ts,H⟩:=st
  refine yH λt ht=>?_
  show (Sr ts d v).getD t .undef=ts.getD t .undef
  rw [Qu,Ak]
  rintro ⟨rfl,_⟩
  exact h d rfl ht
theorem St.put_comm (st:St) {x y:Option Tmp} (v u:AV) (h: ∀d,x=some d->y≠some d):(st.put x v).put y u=(st.put y u).put x v:=by
 cases x with
 |none=>cases y<;>rfl
 |some a=>
  cases y with
  |none=>rfl
  |some b=>
   have Iz:a≠b:= λe=>h a rfl (by rw [e])
   simp only [St.put,St.mk.injEq,Oh]
   rw [Vr,Vr,Vr,Vr]
   exact List.set_comm _ _ Iz
theorem fc {st:St} {a:Act} (h:Bi X π st a w) (j:Nat):
  (∀b,Xv st ((ops[j]?).bind (·.dst))=some (some b)->yielded ops a.tmps j=some b)/\(Xv st ((ops[j]?).bind (·.dst))=some none->yielded ops a.tmps j=none):=by
 unfold yielded
 cases hd:(ops[j]?).bind (·.dst) with
 |none=>constructor<;>simp [Xv]
 |some d=>
  simp only [Xv,Fp]
  have hr:=h.2.tmps d
  constructor
  ·intro b hb
   split at hb
   ·rename_i fr b' hg
    simp only [Aa] at hb;subst hb
    rw [hg] at hr
    have:=a9 hr
    cases ht:a.tmps[d]? with
    |none=>
     rw [cr,ht] at this
     cases this
    |some v=>
     rw [cr,ht] at this
     simp only [Bq] at this
     rw [this]
   ·cases hb
   ·cases hb
  ·intro hb
   split at hb
   ·cases hb
   ·rename_i hg
    rw [hg] at hr
    have hv:a.tmps.getD d undef=undef:=hr
    cases ht:a.tmps[d]? with
    |none=>rfl
    |some v=>
     rw [cr,ht] at hv
     simp only [Bq] at hv
     rw [hv];rfl
   ·cases hb
theorem qY {Q:Exit->Act->World->Prop} {K:Act->World->Prop} {st':St} {a:Act} {o:Oper} {av:AV} (h:ig P X st' a w av ((execOp a.eval o).run P w))
  (hK: ∀a' w',Rel X (st'.put o.dst av) a' w'->K a' w'):o.wp P a w K Q:=by
 unfold Oper.wp
 generalize (execOp a.eval o).run P w=r at*
 cases r with
 |halt x w'=>exact h.elim
 |ok n w'=>
  cases n<;>simp only [ig] at h<;>simp only [Oper.upon]
  ·obtain ⟨π',h1,h2⟩:=h
   exact hK _ _ ⟨π',h1.put o.dst h2⟩
  ·obtain ⟨π',h1,h2⟩:=h
   exact hK _ _ ⟨π',h1.put o.dst h2⟩
  ·obtain ⟨rfl,hc⟩:=h
   refine hc.mono ?_
   rintro e qX ⟨v,rfl,π',h1,h2⟩
   exact hK _ _ ⟨π',h1.put o.dst h2⟩
theorem II {st:St} :Bs X w π st.heap (.at .skip) undef:=rfl
theorem Wf (hT:Eb P T) (Ot:Kv P Γ) {Q:Exit->Act->World->Prop} {K:Act->World->Prop} {st st':St} {a:Act} (h:Bi X π st a w) (o:Oper) (he:Fc T Γ ops st o=some st')
  (hK: ∀a' w',Rel X st' a' w'->K a' w'):if Region.wanted o (yielded ops a.tmps) then o.wp P a w K Q\/(o.asks P a w/\LetsOut Q) else K (a.put o.dst undef) w:=by
 have run:(evalOp T Γ st o).map (λr=>r.2.put o.dst r.1)=some st'->o.wp P a w K Q:=by
  intro he
  cases hr:evalOp T Γ st o with
  |none=>rw [hr] at he;cases he
  |some r=>
   rw [hr] at he
   simp only [Am,Aa] at he;subst he
   exact qY (zf hT Ot h o r.1 r.2 hr) hK
 have skip:some (st.put o.dst (.at .skip))=some st'->K (a.put o.dst undef) w:=by
  intro he
  simp only [Aa] at he;subst he
  exact hK _ _ ⟨π,h.put o.dst II⟩
 unfold Fc at he
 split at he
 ·rename_i hg
  rw [Ab (by simp [Region.wanted,hg])]
  exact .inl (run he)
 ·rename_i j want hg
  split at he
  ·rename_i b hb
   have hy:=(fc h j).1 b hb
   split at he
   ·rename_i LO
    rw [Ab (by simp only [Region.wanted,hg,hy];simpa using LO)]
    exact .inl (run he)
   ·rename_i LO
    rw [Ak (by simp only [Region.wanted,hg,hy];simpa using LO)]
    exact skip he
  ·rename_i hb
   have hy:=(fc h j).2 hb
   rw [Ak (by simp [Region.wanted,hg,hy])]
   exact skip he
  ·cases he
theorem kT (hT:Eb P T) (Ot:Kv P Γ) {Q:Exit->Act->World->Prop} : ∀(l:List Oper) (st st':St) (a:Act) (w:World),Rel X st a w->aO T Γ ops l st=some st'->
  (∀a' w',Rel X st' a' w'->Q .normal a' w')->wpList P ops Q l a w
 | [],st,st',a,w,h,he,hQ=>by
  simp only [aO,Aa] at he;subst he
  exact hQ _ _ h
 |o::r,st,st',a,w,⟨π,h⟩,he,hQ=>by
  simp only [aO] at he
  split at he
  ·rename_i st1 h1
   exact Wf hT Ot h o h1 λa' w' h'=>kT hT Ot r st1 st' a' w' h' he hQ
  ·cases he
theorem kP (hT:Eb P T) (Ot:Kv P Γ) {Q:Exit->Act->World->Prop} : ∀(l:List Nat) (st st':St) (a:Act) (w:World),Rel X st a w->Mx T Γ ops l st=some st'->
  (∀a' w',Rel X st' a' w'->Q .normal a' w')->wpOps P ops Q l a w
 | [],st,st',a,w,h,he,hQ=>by
  simp only [Mx,Aa] at he;subst he
  exact hQ _ _ h
 |i::r,st,st',a,w,⟨π,h⟩,he,hQ=>by
  simp only [Mx] at he
  split at he
  ·cases he
  ·rename_i o ho
   split at he
   ·rename_i st1 h1
    simp only [wpOps,ho]
    exact Wf hT Ot h o h1 λa' w' h'=>kP hT Ot r st1 st' a' w' h' he hQ
   ·cases he
end
end Go.Proofs.YtkkdpknjohcekaaGreat
