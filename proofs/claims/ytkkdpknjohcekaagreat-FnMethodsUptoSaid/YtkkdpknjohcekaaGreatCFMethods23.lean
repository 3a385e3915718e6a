/-
  Part 24 of the proof that the statement FnMethods holds.
-/
import Derived.Test.YtkkdpknjohcekaaGreatCFMethods22
import Derived.LoopN
namespace Go.Proofs.YtkkdpknjohcekaaGreat
open Go.RowKit
section
variable {P:Program} {T:Tab} {Γ:Env} {X:Ctx} {w w':World} {π:Pi} {H:List (Nat×OB)} {ops:Array Oper}
theorem rF (t1 t2:List AV) (H:List (Nat×OB)) (τ:Ty) (c:AC):Ec ⟨t1,H⟩ τ c=Ec ⟨t2,H⟩ τ c:=by
 cases c<;>cases τ<;>rfl
theorem ke (t1 t2:List AV) (H:List (Nat×OB)): ∀(τ:Ty) (cs:List AC),Ge ⟨t1,H⟩ τ cs=Ge ⟨t2,H⟩ τ cs:=by
 have one: ∀(τ:Ty) (cs:List AC),τ.Ar=false->Ge ⟨t1,H⟩ τ cs=Ge ⟨t2,H⟩ τ cs:=by
  intro τ cs h
  rw [Uq h,Uq h]
  rcases cs with _|⟨c,_|⟨d,r⟩⟩
  ·rfl
  ·exact rF t1 t2 H τ c
  ·rfl
 intro τ
 induction τ with
 |unit=>intro cs;cases cs<;>rfl
 |pair a r iC iw=>intro cs;simp only [Ge];rw [iC,iw]
 |_=>exact λcs=>one _ cs rfl
theorem oY (t1 t2:List AV) (H:List (Nat×OB)) (τ:Ty) (l i:Nat):Vc ⟨t1,H⟩ τ l i=Vc ⟨t2,H⟩ τ l i:=by
 unfold Vc
 simp only [St.at]
 split
 ·exact ke t1 t2 H _ _
 ·rfl
theorem x8 (t1 t2:List AV) (H:List (Nat×OB)): ∀(τ:Ty) (cs:List (Nat×Nat)),Lz ⟨t1,H⟩ τ cs=Lz ⟨t2,H⟩ τ cs:=by
 intro τ
 induction τ with
 |unit=>intro cs;cases cs<;>rfl
 |pair a r _ iw=>
  intro cs
  cases a with
  |ptr a=>
   cases cs with
   |nil=>rfl
   |cons c cs=>simp only [Lz];rw [oY t1 t2 H,iw]
  |_=>cases cs<;>rfl
 |_=>intro cs;cases cs<;>rfl
theorem DC (t1 t2:List AV) (H:List (Nat×OB)) (τ:Ty) (c:AC):Kw ⟨t1,H⟩ τ c=Kw ⟨t2,H⟩ τ c:=by
 cases τ<;>cases c<;>simp only [Kw]<;>first|rfl|exact rF t1 t2 H _ _|(rw [oY t1 t2 H])|(split;exact x8 t1 t2 H _ _;rfl)
theorem dx (t1 t2:List AV) (H:List (Nat×OB)) (τ:Ty) (c:AV):Gt ⟨t1,H⟩ τ c=Gt ⟨t2,H⟩ τ c:=by
 cases c with
 | «at»a=>cases a<;>simp only [Gt]<;>first|rfl|rw [DC t1 t2 H]
 |agg cs=>simp only [Gt];rw [ke t1 t2 H]
 |bH fr Pj x=>rfl
 |Nr l=>rfl
theorem lN (t1 t2:List AV) (H:List (Nat×OB)): ∀(τ:Ty) (cs:List AV),Eg ⟨t1,H⟩ τ cs=Eg ⟨t2,H⟩ τ cs:=by
 intro τ
 induction τ with
 |pair a r iC iw=>
  intro cs
  cases cs with
  |nil=>rfl
  |cons c cs=>simp only [Eg];rw [dx t1 t2 H,iw]
 |_=>intro cs;cases cs<;>rfl
theorem UU (t1 t2:List AV) (H:List (Nat×OB)) (c:AV):GM ⟨t1,H⟩ c=GM ⟨t2,H⟩ c:=by
 cases c with
 | «at»a=>cases a<;>rfl
 |_=>rfl
theorem Ab3 {o:Oper} {t:Tmp} (h:Operand.tmp t∈o.op.operands.toList):t∈o.looksAt ops:=by
 unfold Oper.looksAt
 refine Ba.2 (.inl (List.mem_filterMap.2 ⟨_,h,rfl⟩))
theorem RG {t1 t2:List AV} {H:List (Nat×OB)} {o:Oper} (hs: ∀t,t∈o.looksAt ops->t1.getD t .undef=t2.getD t .undef) (x:Operand) (hx:x∈o.op.operands.toList):
  St.ev ⟨t1,H⟩ x=St.ev ⟨t2,H⟩ x:=by
 cases x with
 |tmp t=>exact hs t (Ab3 hx)
 |const v=>rfl
 |global g=>rfl
 |func f=>rfl
theorem LR {t1 t2:List AV} {H:List (Nat×OB)} {o:Oper} (hs: ∀t,t∈o.looksAt ops->t1.getD t .undef=t2.getD t .undef):Gf T Γ ⟨t1,H⟩ o=Gf T Γ ⟨t2,H⟩ o:=by
 have he:= λx hx=>RG (H:=H) hs x hx
 obtain ⟨dst,op,ty,pos,af,gd⟩:=o
 dsimp only at he
 cases op with
 |move x=>simp only [Gf];rw [he x (by simp [Op.operands])]
 |assign x=>simp only [Gf];rw [he x (by simp [Op.operands])]
 |pick c x y=>simp only [Gf];rw [he c (by simp [Op.operands]),he x (by simp [Op.operands]),he y (by simp [Op.operands])]
 |load t x=>simp only [Gf];rw [he x (by simp [Op.operands])];rfl
 |nilCheck x=>simp only [Gf];rw [he x (by simp [Op.operands])]
 |binOp op t x y t'=>simp only [Gf];rw [he x (by simp [Op.operands]),he y (by simp [Op.operands])]
 |unOp op t x=>simp only [Gf];rw [he x (by simp [Op.operands])]
 |convert s t x=>simp only [Gf];rw [he x (by simp [Op.operands])];simp only [dx t1 t2 H]
 |makeFunc fn first Ev=>
  cases fn with
  |func f=>
   simp only [Gf]
   have ha:Ev.toList.map (St.ev ⟨t1,H⟩)=Ev.toList.map (St.ev ⟨t2,H⟩):=Ft λx hx=>he x (by
    simp only [Op.operands,Array.toList_append,Ba]
    exact .inr hx)
   have hb:first.toList.map (St.ev ⟨t1,H⟩)=first.toList.map (St.ev ⟨t2,H⟩):=Ft λx hx=>he x (by
    simp only [Op.operands,Array.toList_append,Ba]
    exact .inl hx)
   rw [ha,hb]
  |_=>rfl
 |lookup t m k ok=>simp only [Gf];rw [he m (by simp [Op.operands]),he k (by simp [Op.operands])];unfold fu;simp only [dx t1 t2 H]
 |slice t x lo hi mx=>
  simp only [Gf]
  rw [he x (by simp [Op.operands])]
  have h1:lo.map (St.ev ⟨t1,H⟩)=lo.map (St.ev ⟨t2,H⟩):=by
   cases lo with
   |none=>rfl
   |some y=>simp only [An];rw [he y (by simp [Op.operands])]
  have h2:hi.map (St.ev ⟨t1,H⟩)=hi.map (St.ev ⟨t2,H⟩):=by
   cases hi with
   |none=>rfl
   |some y=>simp only [An];rw [he y (by simp [Op.operands])]
  rw [h1,h2];rfl
 |fieldAddr s x f=>simp only [Gf];rw [he x (by simp [Op.operands])]
 |field s x f=>simp only [Gf];rw [he x (by simp [Op.operands])]
 |indexAddr t x i=>simp only [Gf];rw [he x (by simp [Op.operands]),he i (by simp [Op.operands])];rfl
 |index t x i=>simp only [Gf];rw [he x (by simp [Op.operands]),he i (by simp [Op.operands])]
 |extract x i=>simp only [Gf];rw [he x (by simp [Op.operands])]
 |call c=>
  obtain ⟨callee,args,ts⟩:=c
  have ha:args.toList.map (St.ev ⟨t1,H⟩)=args.toList.map (St.ev ⟨t2,H⟩):=Ft λx hx=>he x (by
   simp only [Op.operands,Call.operands,Array.toList_append,Ba]
   exact .inr hx)
  cases callee with
  |value f=>
   cases f with
   |func f=>
    simp only [Gf]
    rw [ha]
    unfold Pu
    simp only [lN t1 t2 H]
   |tmp t=>
    simp only [Gf]
    have:=he (.tmp t) (by simp [Op.operands,Call.operands])
    simp only [St.ev] at this
    rw [ha,this]
    unfold Ym Pu
    simp only [lN t1 t2 H]
   |_=>rfl
  |invoke r m=>rfl
  |builtin b=>
   cases b with
   |len=>
    simp only [Gf]
    split
    ·rename_i x t hx ht
     rw [he x (by
      simp only [Op.operands,Call.operands,Array.toList_append,Ba]
      exact .inr (by rw [hx];simp))]
     simp only [UU t1 t2 H]
    ·rfl
   |min=>simp only [Gf];rw [ha]
   |max=>simp only [Gf];rw [ha]
   |_=>rfl
 |_=>rfl
theorem EN {t1 t2:List AV} {H:List (Nat×OB)} (t:Option Tmp) (hs: ∀d,t=some d->t1.getD d .undef=t2.getD d .undef):Yf ⟨t1,H⟩ t=Yf ⟨t2,H⟩ t:=by
 cases t with
 |none=>rfl
 |some d=>simp only [Yf,St.get];rw [hs d rfl]
theorem re {t1 t2:List AV} {H:List (Nat×OB)} (e:Ty): ∀(l:List (Nat×Operand)) (i:Nat),(∀p∈l,St.ev ⟨t1,H⟩ p.2=St.ev ⟨t2,H⟩ p.2)->fR e i l ⟨t1,H⟩=fR e i l ⟨t2,H⟩
 | [],_,_=>rfl
 |(j,x)::r,i,h=>by
  have h1:=h (j,x) (by simp)
  dsimp only at h1
  simp only [fR]
  rw [h1,dx t1 t2 H,re e r (i+1) λp hp=>h p (Ap _ hp)]
theorem gF {t1 t2:List AV} {H:List (Nat×OB)} (t:TypeId): ∀(l:List (Nat×Operand)) (cs:List AC),(∀p∈l,St.ev ⟨t1,H⟩ p.2=St.ev ⟨t2,H⟩ p.2)->Ni T ⟨t1,H⟩ t l cs=Ni T ⟨t2,H⟩ t l cs
 | [],_,_=>rfl
 |(j,x)::r,cs,h=>by
  have h1:=h (j,x) (by simp)
  dsimp only at h1
  simp only [Ni]
  rw [h1]
  have ih: ∀iX,Ni T ⟨t1,H⟩ t r iX=Ni T ⟨t2,H⟩ t r iX:= λiX=>gF t r iX λp hp=>h p (Ap _ hp)
  simp only [ih]
theorem LQ {t1 t2:List AV} {H:List (Nat×OB)} {o:Oper} (hs: ∀t,t∈o.looksAt ops->t1.getD t .undef=t2.getD t .undef):Xz T Γ ⟨t1,H⟩ o=Xz T Γ ⟨t2,H⟩ o:=by
 have he:= λx hx=>RG (H:=H) hs x hx
 have hq:=LR (T:=T) (Γ:=Γ) (H:=H) hs
 obtain ⟨dst,op,ty,pos,af,gd⟩:=o
 dsimp only at he
 unfold Xz
 cases op with
 |buildSlice t len parts=>
  dsimp only
  have hp: ∀p∈parts.toList,St.ev ⟨t1,H⟩ p.2=St.ev ⟨t2,H⟩ p.2:= λp hp=>he p.2 (by simp only [Op.operands,Bf];exact ⟨p,hp,rfl⟩)
  unfold bX
  simp only [re _ _ _ hp]
 |build t parts=>
  dsimp only
  have hp: ∀p∈parts.toList,St.ev ⟨t1,H⟩ p.2=St.ev ⟨t2,H⟩ p.2:= λp hp=>he p.2 (by simp only [Op.operands,Bf];exact ⟨p,hp,rfl⟩)
  unfold Yk
  simp only [gF _ _ _ hp]
 |_=>exact hq
theorem yY {t1 t2:List AV} {H:List (Nat×OB)} {o:Oper} (hs: ∀t,t∈o.looksAt ops->t1.getD t .undef=t2.getD t .undef):Xv T Γ ops ⟨t1,H⟩ o=Xv T Γ ops ⟨t2,H⟩ o:=by
 unfold Xv
 rw [LQ hs]
 split
 ·rfl
 ·rename_i j want hg
  rw [EN ((ops[j]?).bind (·.dst)) (λd hd=>hs d (by
   unfold Oper.looksAt
   rw [hg]
   exact Ba.2 (.inr (by simp [hd]))))]
theorem JO {st:St} {o:Oper} {dst:Option Tmp} {v:AV} (h: ∀d,dst=some d->d∉o.looksAt ops):Xv T Γ ops (st.put dst v) o=Xv T Γ ops st o:=by
 cases dst with
 |none=>rfl
 |some d=>
  obtain ⟨ts,H⟩:=st
  refine yY λt ht=>?_
  show (Tk ts d v).getD t .undef=ts.getD t .undef
  rw [Rp,Ai]
  rintro ⟨rfl,_⟩
  exact h d rfl ht
theorem St.put_comm (st:St) {x y:Option Tmp} (v u:AV) (h: ∀d,x=some d->y≠some d):(st.put x v).put y u=(st.put y u).put x v:=by
 cases x with
 |none=>cases y<;>rfl
 |some a=>
  cases y with
  |none=>rfl
  |some b=>
   have Jd:a≠b:= λe=>h a rfl (by rw [e])
   simp only [St.put,St.mk.injEq,bq]
   rw [We,We,We,We]
   exact List.set_comm _ _ Jd
theorem fm {st:St} {a:Act} (h:Bh X π st a w) (j:Nat):
  (∀b,Yf st ((ops[j]?).bind (·.dst))=some (some b)->yielded ops a.tmps j=some b)/\(Yf st ((ops[j]?).bind (·.dst))=some none->yielded ops a.tmps j=none):=by
 unfold yielded
 cases hd:(ops[j]?).bind (·.dst) with
 |none=>constructor<;>simp [Yf]
 |some d=>
  simp only [Yf,Gm]
  have hr:=h.2.tmps d
  constructor
  ·intro b hb
   split at hb
   ·rename_i fr b' hg
    simp only [Aa] at hb;subst hb
    rw [hg] at hr
    have:=aq hr
    cases ht:a.tmps[d]? with
    |none=>
     rw [cK,ht] at this
     cases this
    |some v=>
     rw [cK,ht] at this
     simp only [Df] at this
     rw [this]
   ·cases hb
   ·cases hb
  ·intro hb
   split at hb
   ·cases hb
   ·rename_i hg
    rw [hg] at hr
    have hv:a.tmps.getD d undef=undef:=hr
    cases ht:a.tmps[d]? with
    |none=>rfl
    |some v=>
     rw [cK,ht] at hv
     simp only [Df] at hv
     rw [hv];rfl
   ·cases hb
theorem rH {Q:Exit->Act->World->Prop} {K:Act->World->Prop} {st':St} {a:Act} {o:Oper} {av:AV} (h:iF P X st' a w av ((execOp a.eval o).run P w))
  (hK: ∀a' w',Rel X (st'.put o.dst av) a' w'->K a' w'):o.wp P a w K Q:=by
 unfold Oper.wp
 generalize (execOp a.eval o).run P w=r at*
 cases r with
 |halt x w'=>exact h.elim
 |ok n w'=>
  cases n<;>simp only [iF] at h<;>simp only [Oper.upon]
  ·obtain ⟨π',h1,h2⟩:=h
   exact hK _ _ ⟨π',h1.put o.dst h2⟩
  ·obtain ⟨π',h1,h2⟩:=h
   exact hK _ _ ⟨π',h1.put o.dst h2⟩
  ·obtain ⟨rfl,hc⟩:=h
   refine hc.mono ?_
   rintro e rG ⟨v,rfl,π',h1,h2⟩
   exact hK _ _ ⟨π',h1.put o.dst h2⟩
theorem IQ {st:St} :Bs X w π st.heap (.at .skip) undef:=rfl
theorem Wr (hT:Ep P T) (Pw:Lr P Γ) {Q:Exit->Act->World->Prop} {K:Act->World->Prop} {st st':St} {a:Act} (h:Bh X π st a w) (o:Oper) (he:Fz T Γ ops st o=some st')
  (hK: ∀a' w',Rel X st' a' w'->K a' w'):if Region.wanted o (yielded ops a.tmps) then o.wp P a w K Q\/(o.asks P a w/\LetsOut Q) else K (a.put o.dst undef) w:=by
 have run:(evalOp T Γ st o).map (λr=>r.2.put o.dst r.1)=some st'->o.wp P a w K Q:=by
  intro he
  cases hr:evalOp T Γ st o with
  |none=>rw [hr] at he;cases he
  |some r=>
   rw [hr] at he
   simp only [An,Aa] at he;subst he
   exact rH (zx hT Pw h o r.1 r.2 hr) hK
 have skip:some (st.put o.dst (.at .skip))=some st'->K (a.put o.dst undef) w:=by
  intro he
  simp only [Aa] at he;subst he
  exact hK _ _ ⟨π,h.put o.dst IQ⟩
 unfold Fz at he
 split at he
 ·rename_i hg
  rw [Ab (by simp [Region.wanted,hg])]
  exact .inl (run he)
 ·rename_i j want hg
  split at he
  ·rename_i b hb
   have hy:=(fm h j).1 b hb
   split at he
   ·rename_i LZ
    rw [Ab (by simp only [Region.wanted,hg,hy];simpa using LZ)]
    exact .inl (run he)
   ·rename_i LZ
    rw [Ai (by simp only [Region.wanted,hg,hy];simpa using LZ)]
    exact skip he
  ·rename_i hb
   have hy:=(fm h j).2 hb
   rw [Ai (by simp [Region.wanted,hg,hy])]
   exact skip he
  ·cases he
theorem lg (hT:Ep P T) (Pw:Lr P Γ) {Q:Exit->Act->World->Prop} : ∀(l:List Oper) (st st':St) (a:Act) (w:World),Rel X st a w->aZ T Γ ops l st=some st'->
  (∀a' w',Rel X st' a' w'->Q .normal a' w')->wpList P ops Q l a w
 | [],st,st',a,w,h,he,hQ=>by
  simp only [aZ,Aa] at he;subst he
  exact hQ _ _ h
 |o::r,st,st',a,w,⟨π,h⟩,he,hQ=>by
  simp only [aZ] at he
  split at he
  ·rename_i st1 h1
   exact Wr hT Pw h o h1 λa' w' h'=>lg hT Pw r st1 st' a' w' h' he hQ
  ·cases he
theorem l9 (hT:Ep P T) (Pw:Lr P Γ) {Q:Exit->Act->World->Prop} : ∀(l:List Nat) (st st':St) (a:Act) (w:World),Rel X st a w->Nu T Γ ops l st=some st'->
  (∀a' w',Rel X st' a' w'->Q .normal a' w')->wpOps P ops Q l a w
 | [],st,st',a,w,h,he,hQ=>by
  simp only [Nu,Aa] at he;subst he
  exact hQ _ _ h
 |i::r,st,st',a,w,⟨π,h⟩,he,hQ=>by
  simp only [Nu] at he
  split at he
  ·cases he
  ·rename_i o ho
   split at he
   ·rename_i st1 h1
    simp only [wpOps,ho]
    exact Wr hT Pw h o h1 λa' w' h'=>l9 hT Pw r st1 st' a' w' h' he hQ
   ·cases he
end
end Go.Proofs.YtkkdpknjohcekaaGreat
