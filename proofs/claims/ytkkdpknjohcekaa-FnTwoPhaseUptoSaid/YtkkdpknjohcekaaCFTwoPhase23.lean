/-
  Part 24 of the proof that the statement FnTwoPhase holds.
-/
import Derived.Test.YtkkdpknjohcekaaCFTwoPhase22
import Derived.LoopN
namespace Go.Proofs.Ytkkdpknjohcekaa
open Go.RowKit
section
variable {P:Program} {T:Tab} {Γ:Env} {X:Ctx} {w w':World} {π:Pi} {H:List (Nat×OB)} {ops:Array Oper}
theorem rf (t1 t2:List AV) (H:List (Nat×OB)) (τ:Ty) (c:AC):Ee ⟨t1,H⟩ τ c=Ee ⟨t2,H⟩ τ c:=by
 cases c<;>cases τ<;>rfl
theorem jV (t1 t2:List AV) (H:List (Nat×OB)): ∀(τ:Ty) (cs:List AC),Fq ⟨t1,H⟩ τ cs=Fq ⟨t2,H⟩ τ cs:=by
 have one: ∀(τ:Ty) (cs:List AC),τ.Ar=false->Fq ⟨t1,H⟩ τ cs=Fq ⟨t2,H⟩ τ cs:=by
  intro τ cs h
  rw [Ul h,Ul h]
  rcases cs with _|⟨c,_|⟨d,r⟩⟩
  ·rfl
  ·exact rf t1 t2 H τ c
  ·rfl
 intro τ
 induction τ with
 |unit=>intro cs;cases cs<;>rfl
 |pair a r il ie=>intro cs;simp only [Fq];rw [il,ie]
 |_=>exact λcs=>one _ cs rfl
theorem oL (t1 t2:List AV) (H:List (Nat×OB)) (τ:Ty) (l i:Nat):Uz ⟨t1,H⟩ τ l i=Uz ⟨t2,H⟩ τ l i:=by
 unfold Uz
 simp only [St.at]
 split
 ·exact jV t1 t2 H _ _
 ·rfl
theorem wQ (t1 t2:List AV) (H:List (Nat×OB)): ∀(τ:Ty) (cs:List (Nat×Nat)),Lr ⟨t1,H⟩ τ cs=Lr ⟨t2,H⟩ τ cs:=by
 intro τ
 induction τ with
 |unit=>intro cs;cases cs<;>rfl
 |pair a r _ ie=>
  intro cs
  cases a with
  |ptr a=>
   cases cs with
   |nil=>rfl
   |cons c cs=>simp only [Lr];rw [oL t1 t2 H,ie]
  |_=>cases cs<;>rfl
 |_=>intro cs;cases cs<;>rfl
theorem CL (t1 t2:List AV) (H:List (Nat×OB)) (τ:Ty) (c:AC):Kj ⟨t1,H⟩ τ c=Kj ⟨t2,H⟩ τ c:=by
 cases τ<;>cases c<;>simp only [Kj]<;>first|rfl|exact rf t1 t2 H _ _|(rw [oL t1 t2 H])|(split;exact wQ t1 t2 H _ _;rfl)
theorem dm (t1 t2:List AV) (H:List (Nat×OB)) (τ:Ty) (c:AV):Ge ⟨t1,H⟩ τ c=Ge ⟨t2,H⟩ τ c:=by
 cases c with
 | «at»a=>cases a<;>simp only [Ge]<;>first|rfl|rw [CL t1 t2 H]
 |agg cs=>simp only [Ge];rw [jV t1 t2 H]
 |bB fr Ox x=>rfl
 |Nd l=>rfl
theorem lN (t1 t2:List AV) (H:List (Nat×OB)): ∀(τ:Ty) (cs:List AV),El ⟨t1,H⟩ τ cs=El ⟨t2,H⟩ τ cs:=by
 intro τ
 induction τ with
 |pair a r il ie=>
  intro cs
  cases cs with
  |nil=>rfl
  |cons c cs=>simp only [El];rw [dm t1 t2 H,ie]
 |_=>intro cs;cases cs<;>rfl
theorem UC (t1 t2:List AV) (H:List (Nat×OB)) (c:AV):FV ⟨t1,H⟩ c=FV ⟨t2,H⟩ c:=by
 cases c with
 | «at»a=>cases a<;>rfl
 |_=>rfl
theorem Aam {o:Oper} {t:Tmp} (h:Operand.tmp t∈o.op.operands.toList):t∈o.looksAt ops:=by
 unfold Oper.looksAt
 refine Az.2 (.inl (List.mem_filterMap.2 ⟨_,h,rfl⟩))
theorem QI {t1 t2:List AV} {H:List (Nat×OB)} {o:Oper} (hs: ∀t,t∈o.looksAt ops->t1.getD t .undef=t2.getD t .undef) (x:Operand) (hx:x∈o.op.operands.toList):
  St.ev ⟨t1,H⟩ x=St.ev ⟨t2,H⟩ x:=by
 cases x with
 |tmp t=>exact hs t (Aam hx)
 |const v=>rfl
 |global g=>rfl
 |func f=>rfl
theorem LH {t1 t2:List AV} {H:List (Nat×OB)} {o:Oper} (hs: ∀t,t∈o.looksAt ops->t1.getD t .undef=t2.getD t .undef):Ft T Γ ⟨t1,H⟩ o=Ft T Γ ⟨t2,H⟩ o:=by
 have he:= λx hx=>QI (H:=H) hs x hx
 obtain ⟨dst,op,ty,pos,af,gd⟩:=o
 dsimp only at he
 cases op with
 |move x=>simp only [Ft];rw [he x (by simp [Op.operands])]
 |assign x=>simp only [Ft];rw [he x (by simp [Op.operands])]
 |pick c x y=>simp only [Ft];rw [he c (by simp [Op.operands]),he x (by simp [Op.operands]),he y (by simp [Op.operands])]
 |load t x=>simp only [Ft];rw [he x (by simp [Op.operands])];rfl
 |nilCheck x=>simp only [Ft];rw [he x (by simp [Op.operands])]
 |binOp op t x y t'=>simp only [Ft];rw [he x (by simp [Op.operands]),he y (by simp [Op.operands])]
 |unOp op t x=>simp only [Ft];rw [he x (by simp [Op.operands])]
 |convert s t x=>simp only [Ft];rw [he x (by simp [Op.operands])];simp only [dm t1 t2 H]
 |makeFunc fn first Ew=>
  cases fn with
  |func f=>
   simp only [Ft]
   have ha:Ew.toList.map (St.ev ⟨t1,H⟩)=Ew.toList.map (St.ev ⟨t2,H⟩):=Hl λx hx=>he x (by
    simp only [Op.operands,Array.toList_append,Az]
    exact .inr hx)
   have hb:first.toList.map (St.ev ⟨t1,H⟩)=first.toList.map (St.ev ⟨t2,H⟩):=Hl λx hx=>he x (by
    simp only [Op.operands,Array.toList_append,Az]
    exact .inl hx)
   rw [ha,hb]
  |_=>rfl
 |lookup t m k ok=>simp only [Ft];rw [he m (by simp [Op.operands]),he k (by simp [Op.operands])];unfold fm;simp only [dm t1 t2 H]
 |slice t x lo hi mx=>
  simp only [Ft]
  rw [he x (by simp [Op.operands])]
  have h1:lo.map (St.ev ⟨t1,H⟩)=lo.map (St.ev ⟨t2,H⟩):=by
   cases lo with
   |none=>rfl
   |some y=>simp only [An];rw [he y (by simp [Op.operands])]
  have h2:hi.map (St.ev ⟨t1,H⟩)=hi.map (St.ev ⟨t2,H⟩):=by
   cases hi with
   |none=>rfl
   |some y=>simp only [An];rw [he y (by simp [Op.operands])]
  rw [h1,h2];rfl
 |fieldAddr s x f=>simp only [Ft];rw [he x (by simp [Op.operands])]
 |field s x f=>simp only [Ft];rw [he x (by simp [Op.operands])]
 |indexAddr t x i=>simp only [Ft];rw [he x (by simp [Op.operands]),he i (by simp [Op.operands])];rfl
 |index t x i=>simp only [Ft];rw [he x (by simp [Op.operands]),he i (by simp [Op.operands])]
 |extract x i=>simp only [Ft];rw [he x (by simp [Op.operands])]
 |call c=>
  obtain ⟨callee,args,ts⟩:=c
  have ha:args.toList.map (St.ev ⟨t1,H⟩)=args.toList.map (St.ev ⟨t2,H⟩):=Hl λx hx=>he x (by
   simp only [Op.operands,Call.operands,Array.toList_append,Az]
   exact .inr hx)
  cases callee with
  |value f=>
   cases f with
   |func f=>
    simp only [Ft]
    rw [ha]
    unfold Pj
    simp only [lN t1 t2 H]
   |tmp t=>
    simp only [Ft]
    have:=he (.tmp t) (by simp [Op.operands,Call.operands])
    simp only [St.ev] at this
    rw [ha,this]
    unfold Yg Pj
    simp only [lN t1 t2 H]
   |_=>rfl
  |invoke r m=>rfl
  |builtin b=>
   cases b with
   |len=>
    simp only [Ft]
    split
    ·rename_i x t hx ht
     rw [he x (by
      simp only [Op.operands,Call.operands,Array.toList_append,Az]
      exact .inr (by rw [hx];simp))]
     simp only [UC t1 t2 H]
    ·rfl
   |min=>simp only [Ft];rw [ha]
   |max=>simp only [Ft];rw [ha]
   |_=>rfl
 |_=>rfl
theorem DW {t1 t2:List AV} {H:List (Nat×OB)} (t:Option Tmp) (hs: ∀d,t=some d->t1.getD d .undef=t2.getD d .undef):Xz ⟨t1,H⟩ t=Xz ⟨t2,H⟩ t:=by
 cases t with
 |none=>rfl
 |some d=>simp only [Xz,St.get];rw [hs d rfl]
theorem qM {t1 t2:List AV} {H:List (Nat×OB)} (e:Ty): ∀(l:List (Nat×Operand)) (i:Nat),(∀p∈l,St.ev ⟨t1,H⟩ p.2=St.ev ⟨t2,H⟩ p.2)->fM e i l ⟨t1,H⟩=fM e i l ⟨t2,H⟩
 | [],_,_=>rfl
 |(j,x)::r,i,h=>by
  have h1:=h (j,x) (by simp)
  dsimp only at h1
  simp only [fM]
  rw [h1,dm t1 t2 H,qM e r (i+1) λp hp=>h p (As _ hp)]
theorem gB {t1 t2:List AV} {H:List (Nat×OB)} (t:TypeId): ∀(l:List (Nat×Operand)) (cs:List AC),(∀p∈l,St.ev ⟨t1,H⟩ p.2=St.ev ⟨t2,H⟩ p.2)->Mt T ⟨t1,H⟩ t l cs=Mt T ⟨t2,H⟩ t l cs
 | [],_,_=>rfl
 |(j,x)::r,cs,h=>by
  have h1:=h (j,x) (by simp)
  dsimp only at h1
  simp only [Mt]
  rw [h1]
  have ih: ∀iL,Mt T ⟨t1,H⟩ t r iL=Mt T ⟨t2,H⟩ t r iL:= λiL=>gB t r iL λp hp=>h p (As _ hp)
  simp only [ih]
theorem LG {t1 t2:List AV} {H:List (Nat×OB)} {o:Oper} (hs: ∀t,t∈o.looksAt ops->t1.getD t .undef=t2.getD t .undef):Xt T Γ ⟨t1,H⟩ o=Xt T Γ ⟨t2,H⟩ o:=by
 have he:= λx hx=>QI (H:=H) hs x hx
 have hq:=LH (T:=T) (Γ:=Γ) (H:=H) hs
 obtain ⟨dst,op,ty,pos,af,gd⟩:=o
 dsimp only at he
 unfold Xt
 cases op with
 |buildSlice t len parts=>
  dsimp only
  have hp: ∀p∈parts.toList,St.ev ⟨t1,H⟩ p.2=St.ev ⟨t2,H⟩ p.2:= λp hp=>he p.2 (by simp only [Op.operands,Be];exact ⟨p,hp,rfl⟩)
  unfold bN
  simp only [qM _ _ _ hp]
 |build t parts=>
  dsimp only
  have hp: ∀p∈parts.toList,St.ev ⟨t1,H⟩ p.2=St.ev ⟨t2,H⟩ p.2:= λp hp=>he p.2 (by simp only [Op.operands,Be];exact ⟨p,hp,rfl⟩)
  unfold Ye
  simp only [gB _ _ _ hp]
 |_=>exact hq
theorem yB {t1 t2:List AV} {H:List (Nat×OB)} {o:Oper} (hs: ∀t,t∈o.looksAt ops->t1.getD t .undef=t2.getD t .undef):Xo T Γ ops ⟨t1,H⟩ o=Xo T Γ ops ⟨t2,H⟩ o:=by
 unfold Xo
 rw [LG hs]
 split
 ·rfl
 ·rename_i j want hg
  rw [DW ((ops[j]?).bind (·.dst)) (λd hd=>hs d (by
   unfold Oper.looksAt
   rw [hg]
   exact Az.2 (.inr (by simp [hd]))))]
theorem JB {st:St} {o:Oper} {dst:Option Tmp} {v:AV} (h: ∀d,dst=some d->d∉o.looksAt ops):Xo T Γ ops (st.put dst v) o=Xo T Γ ops st o:=by
 cases dst with
 |none=>rfl
 |some d=>
  obtain ⟨ts,H⟩:=st
  refine yB λt ht=>?_
  show (Ta ts d v).getD t .undef=ts.getD t .undef
  rw [Qy,Ai]
  rintro ⟨rfl,_⟩
  exact h d rfl ht
theorem St.put_comm (st:St) {x y:Option Tmp} (v u:AV) (h: ∀d,x=some d->y≠some d):(st.put x v).put y u=(st.put y u).put x v:=by
 cases x with
 |none=>cases y<;>rfl
 |some a=>
  cases y with
  |none=>rfl
  |some b=>
   have Ip:a≠b:= λe=>h a rfl (by rw [e])
   simp only [St.put,St.mk.injEq,bm]
   rw [Vw,Vw,Vw,Vw]
   exact List.set_comm _ _ Ip
theorem fh {st:St} {a:Act} (h:Bm X π st a w) (j:Nat):
  (∀b,Xz st ((ops[j]?).bind (·.dst))=some (some b)->yielded ops a.tmps j=some b)/\(Xz st ((ops[j]?).bind (·.dst))=some none->yielded ops a.tmps j=none):=by
 unfold yielded
 cases hd:(ops[j]?).bind (·.dst) with
 |none=>constructor<;>simp [Xz]
 |some d=>
  simp only [Xz,Fc]
  have hr:=h.2.tmps d
  constructor
  ·intro b hb
   split at hb
   ·rename_i fr b' hg
    simp only [Aa] at hb;subst hb
    rw [hg] at hr
    have:=ag hr
    cases ht:a.tmps[d]? with
    |none=>
     rw [cy,ht] at this
     cases this
    |some v=>
     rw [cy,ht] at this
     simp only [Dh] at this
     rw [this]
   ·cases hb
   ·cases hb
  ·intro hb
   split at hb
   ·cases hb
   ·rename_i hg
    rw [hg] at hr
    have hv:a.tmps.getD d undef=undef:=hr
    cases ht:a.tmps[d]? with
    |none=>rfl
    |some v=>
     rw [cy,ht] at hv
     simp only [Dh] at hv
     rw [hv];rfl
   ·cases hb
theorem rm {Q:Exit->Act->World->Prop} {K:Act->World->Prop} {st':St} {a:Act} {o:Oper} {av:AV} (h:ir P X st' a w av ((execOp a.eval o).run P w))
  (hK: ∀a' w',Rel X (st'.put o.dst av) a' w'->K a' w'):o.wp P a w K Q:=by
 unfold Oper.wp
 generalize (execOp a.eval o).run P w=r at*
 cases r with
 |halt x w'=>exact h.elim
 |ok n w'=>
  cases n<;>simp only [ir] at h<;>simp only [Oper.upon]
  ·obtain ⟨π',h1,h2⟩:=h
   exact hK _ _ ⟨π',h1.put o.dst h2⟩
  ·obtain ⟨π',h1,h2⟩:=h
   exact hK _ _ ⟨π',h1.put o.dst h2⟩
  ·obtain ⟨rfl,hc⟩:=h
   refine hc.mono ?_
   rintro e rh ⟨v,rfl,π',h1,h2⟩
   exact hK _ _ ⟨π',h1.put o.dst h2⟩
theorem IE {st:St} :Bt X w π st.heap (.at .skip) undef:=rfl
theorem Wj (hT:Eh P T) (Pl:Li P Γ) {Q:Exit->Act->World->Prop} {K:Act->World->Prop} {st st':St} {a:Act} (h:Bm X π st a w) (o:Oper) (he:Fm T Γ ops st o=some st')
  (hK: ∀a' w',Rel X st' a' w'->K a' w'):if Region.wanted o (yielded ops a.tmps) then o.wp P a w K Q\/(o.asks P a w/\LetsOut Q) else K (a.put o.dst undef) w:=by
 have run:(evalOp T Γ st o).map (λr=>r.2.put o.dst r.1)=some st'->o.wp P a w K Q:=by
  intro he
  cases hr:evalOp T Γ st o with
  |none=>rw [hr] at he;cases he
  |some r=>
   rw [hr] at he
   simp only [An,Aa] at he;subst he
   exact rm (za hT Pl h o r.1 r.2 hr) hK
 have skip:some (st.put o.dst (.at .skip))=some st'->K (a.put o.dst undef) w:=by
  intro he
  simp only [Aa] at he;subst he
  exact hK _ _ ⟨π,h.put o.dst IE⟩
 unfold Fm at he
 split at he
 ·rename_i hg
  rw [Ab (by simp [Region.wanted,hg])]
  exact .inl (run he)
 ·rename_i j want hg
  split at he
  ·rename_i b hb
   have hy:=(fh h j).1 b hb
   split at he
   ·rename_i FD
    rw [Ab (by simp only [Region.wanted,hg,hy];simpa using FD)]
    exact .inl (run he)
   ·rename_i FD
    rw [Ai (by simp only [Region.wanted,hg,hy];simpa using FD)]
    exact skip he
  ·rename_i hb
   have hy:=(fh h j).2 hb
   rw [Ai (by simp [Region.wanted,hg,hy])]
   exact skip he
  ·cases he
theorem lb (hT:Eh P T) (Pl:Li P Γ) {Q:Exit->Act->World->Prop} : ∀(l:List Oper) (st st':St) (a:Act) (w:World),Rel X st a w->aU T Γ ops l st=some st'->
  (∀a' w',Rel X st' a' w'->Q .normal a' w')->wpList P ops Q l a w
 | [],st,st',a,w,h,he,hQ=>by
  simp only [aU,Aa] at he;subst he
  exact hQ _ _ h
 |o::r,st,st',a,w,⟨π,h⟩,he,hQ=>by
  simp only [aU] at he
  split at he
  ·rename_i st1 h1
   exact Wj hT Pl h o h1 λa' w' h'=>lb hT Pl r st1 st' a' w' h' he hQ
  ·cases he
theorem l6 (hT:Eh P T) (Pl:Li P Γ) {Q:Exit->Act->World->Prop} : ∀(l:List Nat) (st st':St) (a:Act) (w:World),Rel X st a w->Ni T Γ ops l st=some st'->
  (∀a' w',Rel X st' a' w'->Q .normal a' w')->wpOps P ops Q l a w
 | [],st,st',a,w,h,he,hQ=>by
  simp only [Ni,Aa] at he;subst he
  exact hQ _ _ h
 |i::r,st,st',a,w,⟨π,h⟩,he,hQ=>by
  simp only [Ni] at he
  split at he
  ·cases he
  ·rename_i o ho
   split at he
   ·rename_i st1 h1
    simp only [wpOps,ho]
    exact Wj hT Pl h o h1 λa' w' h'=>l6 hT Pl r st1 st' a' w' h' he hQ
   ·cases he
end
end Go.Proofs.Ytkkdpknjohcekaa
