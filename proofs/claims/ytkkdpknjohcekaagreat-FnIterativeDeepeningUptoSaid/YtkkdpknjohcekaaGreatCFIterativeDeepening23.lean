/-
  Part 24 of the proof that the statement FnIterativeDeepening holds.
-/
import Derived.Test.YtkkdpknjohcekaaGreatCFIterativeDeepening22
import Derived.LoopN
namespace Go.Proofs.YtkkdpknjohcekaaGreat
open Go.RowKit
section
variable {P:Program} {T:Tab} {Γ:Env} {X:Ctx} {w w':World} {π:Pi} {H:List (Nat×OB)} {ops:Array Oper}
theorem qP (t1 t2:List AV) (H:List (Nat×OB)) (τ:Ty) (c:AC):Dn ⟨t1,H⟩ τ c=Dn ⟨t2,H⟩ τ c:=by
 cases c<;>cases τ<;>rfl
theorem jG (t1 t2:List AV) (H:List (Nat×OB)): ∀(τ:Ty) (cs:List AC),Ff ⟨t1,H⟩ τ cs=Ff ⟨t2,H⟩ τ cs:=by
 have one: ∀(τ:Ty) (cs:List AC),τ.Aq=false->Ff ⟨t1,H⟩ τ cs=Ff ⟨t2,H⟩ τ cs:=by
  intro τ cs h
  rw [Uk h,Uk h]
  rcases cs with _|⟨c,_|⟨d,r⟩⟩
  ·rfl
  ·exact qP t1 t2 H τ c
  ·rfl
 intro τ
 induction τ with
 |unit=>intro cs;cases cs<;>rfl
 |pair a r gX gT=>intro cs;simp only [Ff];rw [gX,gT]
 |_=>exact λcs=>one _ cs rfl
theorem oA (t1 t2:List AV) (H:List (Nat×OB)) (τ:Ty) (l i:Nat):Uv ⟨t1,H⟩ τ l i=Uv ⟨t2,H⟩ τ l i:=by
 unfold Uv
 simp only [St.at]
 split
 ·exact jG t1 t2 H _ _
 ·rfl
theorem wE (t1 t2:List AV) (H:List (Nat×OB)): ∀(τ:Ty) (cs:List (Nat×Nat)),Lq ⟨t1,H⟩ τ cs=Lq ⟨t2,H⟩ τ cs:=by
 intro τ
 induction τ with
 |unit=>intro cs;cases cs<;>rfl
 |pair a r _ gT=>
  intro cs
  cases a with
  |ptr a=>
   cases cs with
   |nil=>rfl
   |cons c cs=>simp only [Lq];rw [oA t1 t2 H,gT]
  |_=>cases cs<;>rfl
 |_=>intro cs;cases cs<;>rfl
theorem AW (t1 t2:List AV) (H:List (Nat×OB)) (τ:Ty) (c:AC):Ko ⟨t1,H⟩ τ c=Ko ⟨t2,H⟩ τ c:=by
 cases τ<;>cases c<;>simp only [Ko]<;>first|rfl|exact qP t1 t2 H _ _|(rw [oA t1 t2 H])|(split;exact wE t1 t2 H _ _;rfl)
theorem df (t1 t2:List AV) (H:List (Nat×OB)) (τ:Ty) (c:AV):Fw ⟨t1,H⟩ τ c=Fw ⟨t2,H⟩ τ c:=by
 cases c with
 | «at»a=>cases a<;>simp only [Fw]<;>first|rfl|rw [AW t1 t2 H]
 |agg cs=>simp only [Fw];rw [jG t1 t2 H]
 |bw fr Ov x=>rfl
 |Nd l=>rfl
theorem lv (t1 t2:List AV) (H:List (Nat×OB)): ∀(τ:Ty) (cs:List AV),Du ⟨t1,H⟩ τ cs=Du ⟨t2,H⟩ τ cs:=by
 intro τ
 induction τ with
 |pair a r gX gT=>
  intro cs
  cases cs with
  |nil=>rfl
  |cons c cs=>simp only [Du];rw [df t1 t2 H,gT]
 |_=>intro cs;cases cs<;>rfl
theorem SN (t1 t2:List AV) (H:List (Nat×OB)) (c:AV):EG ⟨t1,H⟩ c=EG ⟨t2,H⟩ c:=by
 cases c with
 | «at»a=>cases a<;>rfl
 |_=>rfl
theorem ZM {o:Oper} {t:Tmp} (h:Operand.tmp t∈o.op.operands.toList):t∈o.looksAt ops:=by
 unfold Oper.looksAt
 refine Ay.2 (.inl (List.mem_filterMap.2 ⟨_,h,rfl⟩))
theorem OM {t1 t2:List AV} {H:List (Nat×OB)} {o:Oper} (hs: ∀t,t∈o.looksAt ops->t1.getD t .undef=t2.getD t .undef) (x:Operand) (hx:x∈o.op.operands.toList):
  St.ev ⟨t1,H⟩ x=St.ev ⟨t2,H⟩ x:=by
 cases x with
 |tmp t=>exact hs t (ZM hx)
 |const v=>rfl
 |global g=>rfl
 |func f=>rfl
theorem JI {t1 t2:List AV} {H:List (Nat×OB)} {o:Oper} (hs: ∀t,t∈o.looksAt ops->t1.getD t .undef=t2.getD t .undef):Fh T Γ ⟨t1,H⟩ o=Fh T Γ ⟨t2,H⟩ o:=by
 have he:= λx hx=>OM (H:=H) hs x hx
 obtain ⟨dst,op,ty,pos,af,gd⟩:=o
 dsimp only at he
 cases op with
 |move x=>simp only [Fh];rw [he x (by simp [Op.operands])]
 |assign x=>simp only [Fh];rw [he x (by simp [Op.operands])]
 |pick c x y=>simp only [Fh];rw [he c (by simp [Op.operands]),he x (by simp [Op.operands]),he y (by simp [Op.operands])]
 |load t x=>simp only [Fh];rw [he x (by simp [Op.operands])];rfl
 |nilCheck x=>simp only [Fh];rw [he x (by simp [Op.operands])]
 |binOp op t x y t'=>simp only [Fh];rw [he x (by simp [Op.operands]),he y (by simp [Op.operands])]
 |unOp op t x=>simp only [Fh];rw [he x (by simp [Op.operands])]
 |convert s t x=>simp only [Fh];rw [he x (by simp [Op.operands])];simp only [df t1 t2 H]
 |makeFunc fn first Ec=>
  cases fn with
  |func f=>
   simp only [Fh]
   have ha:Ec.toList.map (St.ev ⟨t1,H⟩)=Ec.toList.map (St.ev ⟨t2,H⟩):=Eu λx hx=>he x (by
    simp only [Op.operands,Array.toList_append,Ay]
    exact .inr hx)
   have hb:first.toList.map (St.ev ⟨t1,H⟩)=first.toList.map (St.ev ⟨t2,H⟩):=Eu λx hx=>he x (by
    simp only [Op.operands,Array.toList_append,Ay]
    exact .inl hx)
   rw [ha,hb]
  |_=>rfl
 |lookup t m k ok=>simp only [Fh];rw [he m (by simp [Op.operands]),he k (by simp [Op.operands])];unfold ff;simp only [df t1 t2 H]
 |slice t x lo hi mx=>
  simp only [Fh]
  rw [he x (by simp [Op.operands])]
  have h1:lo.map (St.ev ⟨t1,H⟩)=lo.map (St.ev ⟨t2,H⟩):=by
   cases lo with
   |none=>rfl
   |some y=>simp only [Ak];rw [he y (by simp [Op.operands])]
  have h2:hi.map (St.ev ⟨t1,H⟩)=hi.map (St.ev ⟨t2,H⟩):=by
   cases hi with
   |none=>rfl
   |some y=>simp only [Ak];rw [he y (by simp [Op.operands])]
  rw [h1,h2];rfl
 |fieldAddr s x f=>simp only [Fh];rw [he x (by simp [Op.operands])]
 |field s x f=>simp only [Fh];rw [he x (by simp [Op.operands])]
 |indexAddr t x i=>simp only [Fh];rw [he x (by simp [Op.operands]),he i (by simp [Op.operands])];rfl
 |index t x i=>simp only [Fh];rw [he x (by simp [Op.operands]),he i (by simp [Op.operands])]
 |extract x i=>simp only [Fh];rw [he x (by simp [Op.operands])]
 |call c=>
  obtain ⟨callee,args,ts⟩:=c
  have ha:args.toList.map (St.ev ⟨t1,H⟩)=args.toList.map (St.ev ⟨t2,H⟩):=Eu λx hx=>he x (by
   simp only [Op.operands,Call.operands,Array.toList_append,Ay]
   exact .inr hx)
  cases callee with
  |value f=>
   cases f with
   |func f=>
    simp only [Fh]
    rw [ha]
    unfold Pf
    simp only [lv t1 t2 H]
   |tmp t=>
    simp only [Fh]
    have:=he (.tmp t) (by simp [Op.operands,Call.operands])
    simp only [St.ev] at this
    rw [ha,this]
    unfold Ya Pf
    simp only [lv t1 t2 H]
   |_=>rfl
  |invoke r m=>rfl
  |builtin b=>
   cases b with
   |len=>
    simp only [Fh]
    split
    ·rename_i x t hx ht
     rw [he x (by
      simp only [Op.operands,Call.operands,Array.toList_append,Ay]
      exact .inr (by rw [hx];simp))]
     simp only [SN t1 t2 H]
    ·rfl
   |min=>simp only [Fh];rw [ha]
   |max=>simp only [Fh];rw [ha]
   |_=>rfl
 |_=>rfl
theorem CJ {t1 t2:List AV} {H:List (Nat×OB)} (t:Option Tmp) (hs: ∀d,t=some d->t1.getD d .undef=t2.getD d .undef):Xt ⟨t1,H⟩ t=Xt ⟨t2,H⟩ t:=by
 cases t with
 |none=>rfl
 |some d=>simp only [Xt,St.get];rw [hs d rfl]
theorem qx {t1 t2:List AV} {H:List (Nat×OB)} (e:Ty): ∀(l:List (Nat×Operand)) (i:Nat),(∀p∈l,St.ev ⟨t1,H⟩ p.2=St.ev ⟨t2,H⟩ p.2)->fE e i l ⟨t1,H⟩=fE e i l ⟨t2,H⟩
 | [],_,_=>rfl
 |(j,x)::r,i,h=>by
  have h1:=h (j,x) (by simp)
  dsimp only at h1
  simp only [fE]
  rw [h1,df t1 t2 H,qx e r (i+1) λp hp=>h p (Ao _ hp)]
theorem gm {t1 t2:List AV} {H:List (Nat×OB)} (t:TypeId): ∀(l:List (Nat×Operand)) (cs:List AC),(∀p∈l,St.ev ⟨t1,H⟩ p.2=St.ev ⟨t2,H⟩ p.2)->Mw T ⟨t1,H⟩ t l cs=Mw T ⟨t2,H⟩ t l cs
 | [],_,_=>rfl
 |(j,x)::r,cs,h=>by
  have h1:=h (j,x) (by simp)
  dsimp only at h1
  simp only [Mw]
  rw [h1]
  have ih: ∀iB,Mw T ⟨t1,H⟩ t r iB=Mw T ⟨t2,H⟩ t r iB:= λiB=>gm t r iB λp hp=>h p (Ao _ hp)
  simp only [ih]
theorem JH {t1 t2:List AV} {H:List (Nat×OB)} {o:Oper} (hs: ∀t,t∈o.looksAt ops->t1.getD t .undef=t2.getD t .undef):Xk T Γ ⟨t1,H⟩ o=Xk T Γ ⟨t2,H⟩ o:=by
 have he:= λx hx=>OM (H:=H) hs x hx
 have hq:=JI (T:=T) (Γ:=Γ) (H:=H) hs
 obtain ⟨dst,op,ty,pos,af,gd⟩:=o
 dsimp only at he
 unfold Xk
 cases op with
 |buildSlice t len parts=>
  dsimp only
  have hp: ∀p∈parts.toList,St.ev ⟨t1,H⟩ p.2=St.ev ⟨t2,H⟩ p.2:= λp hp=>he p.2 (by simp only [Op.operands,Bj];exact ⟨p,hp,rfl⟩)
  unfold bG
  simp only [qx _ _ _ hp]
 |build t parts=>
  dsimp only
  have hp: ∀p∈parts.toList,St.ev ⟨t1,H⟩ p.2=St.ev ⟨t2,H⟩ p.2:= λp hp=>he p.2 (by simp only [Op.operands,Bj];exact ⟨p,hp,rfl⟩)
  unfold Xy
  simp only [gm _ _ _ hp]
 |_=>exact hq
theorem ya {t1 t2:List AV} {H:List (Nat×OB)} {o:Oper} (hs: ∀t,t∈o.looksAt ops->t1.getD t .undef=t2.getD t .undef):Xh T Γ ops ⟨t1,H⟩ o=Xh T Γ ops ⟨t2,H⟩ o:=by
 unfold Xh
 rw [JH hs]
 split
 ·rfl
 ·rename_i j want hg
  rw [CJ ((ops[j]?).bind (·.dst)) (λd hd=>hs d (by
   unfold Oper.looksAt
   rw [hg]
   exact Ay.2 (.inr (by simp [hd]))))]
theorem HF {st:St} {o:Oper} {dst:Option Tmp} {v:AV} (h: ∀d,dst=some d->d∉o.looksAt ops):Xh T Γ ops (st.put dst v) o=Xh T Γ ops st o:=by
 cases dst with
 |none=>rfl
 |some d=>
  obtain ⟨ts,H⟩:=st
  refine ya λt ht=>?_
  show (Tg ts d v).getD t .undef=ts.getD t .undef
  rw [Rg,Ai]
  rintro ⟨rfl,_⟩
  exact h d rfl ht
theorem St.put_comm (st:St) {x y:Option Tmp} (v u:AV) (h: ∀d,x=some d->y≠some d):(st.put x v).put y u=(st.put y u).put x v:=by
 cases x with
 |none=>cases y<;>rfl
 |some a=>
  cases y with
  |none=>rfl
  |some b=>
   have Jl:a≠b:= λe=>h a rfl (by rw [e])
   simp only [St.put,St.mk.injEq,bg]
   rw [Vt,Vt,Vt,Vt]
   exact List.set_comm _ _ Jl
theorem eZ {st:St} {a:Act} (h:Bh X π st a w) (j:Nat):
  (∀b,Xt st ((ops[j]?).bind (·.dst))=some (some b)->yielded ops a.tmps j=some b)/\(Xt st ((ops[j]?).bind (·.dst))=some none->yielded ops a.tmps j=none):=by
 unfold yielded
 cases hd:(ops[j]?).bind (·.dst) with
 |none=>constructor<;>simp [Xt]
 |some d=>
  simp only [Xt,Fo]
  have hr:=h.2.tmps d
  constructor
  ·intro b hb
   split at hb
   ·rename_i fr b' hg
    simp only [Aa] at hb;subst hb
    rw [hg] at hr
    have:=a7 hr
    cases ht:a.tmps[d]? with
    |none=>
     rw [cq,ht] at this
     cases this
    |some v=>
     rw [cq,ht] at this
     simp only [Dd] at this
     rw [this]
   ·cases hb
   ·cases hb
  ·intro hb
   split at hb
   ·cases hb
   ·rename_i hg
    rw [hg] at hr
    have hv:a.tmps.getD d undef=undef:=hr
    cases ht:a.tmps[d]? with
    |none=>rfl
    |some v=>
     rw [cq,ht] at hv
     simp only [Dd] at hv
     rw [hv];rfl
   ·cases hb
theorem qR {Q:Exit->Act->World->Prop} {K:Act->World->Prop} {st':St} {a:Act} {o:Oper} {av:AV} (h:hZ P X st' a w av ((execOp a.eval o).run P w))
  (hK: ∀a' w',Rel X (st'.put o.dst av) a' w'->K a' w'):o.wp P a w K Q:=by
 unfold Oper.wp
 generalize (execOp a.eval o).run P w=r at*
 cases r with
 |halt x w'=>exact h.elim
 |ok n w'=>
  cases n<;>simp only [hZ] at h<;>simp only [Oper.upon]
  ·obtain ⟨π',h1,h2⟩:=h
   exact hK _ _ ⟨π',h1.put o.dst h2⟩
  ·obtain ⟨π',h1,h2⟩:=h
   exact hK _ _ ⟨π',h1.put o.dst h2⟩
  ·obtain ⟨rfl,hc⟩:=h
   refine hc.mono ?_
   rintro e qQ ⟨v,rfl,π',h1,h2⟩
   exact hK _ _ ⟨π',h1.put o.dst h2⟩
theorem GN {st:St} :Bm X w π st.heap (.at .skip) undef:=rfl
theorem Wf (hT:Eb P T) (Pk:Lj P Γ) {Q:Exit->Act->World->Prop} {K:Act->World->Prop} {st st':St} {a:Act} (h:Bh X π st a w) (o:Oper) (he:Fa T Γ ops st o=some st')
  (hK: ∀a' w',Rel X st' a' w'->K a' w'):if Region.wanted o (yielded ops a.tmps) then o.wp P a w K Q\/(o.asks P a w/\LetsOut Q) else K (a.put o.dst undef) w:=by
 have run:(evalOp T Γ st o).map (λr=>r.2.put o.dst r.1)=some st'->o.wp P a w K Q:=by
  intro he
  cases hr:evalOp T Γ st o with
  |none=>rw [hr] at he;cases he
  |some r=>
   rw [hr] at he
   simp only [Ak,Aa] at he;subst he
   exact qR (yD hT Pk h o r.1 r.2 hr) hK
 have skip:some (st.put o.dst (.at .skip))=some st'->K (a.put o.dst undef) w:=by
  intro he
  simp only [Aa] at he;subst he
  exact hK _ _ ⟨π,h.put o.dst GN⟩
 unfold Fa at he
 split at he
 ·rename_i hg
  rw [Ab (by simp [Region.wanted,hg])]
  exact .inl (run he)
 ·rename_i j want hg
  split at he
  ·rename_i b hb
   have hy:=(eZ h j).1 b hb
   split at he
   ·rename_i XS
    rw [Ab (by simp only [Region.wanted,hg,hy];simpa using XS)]
    exact .inl (run he)
   ·rename_i XS
    rw [Ai (by simp only [Region.wanted,hg,hy];simpa using XS)]
    exact skip he
  ·rename_i hb
   have hy:=(eZ h j).2 hb
   rw [Ai (by simp [Region.wanted,hg,hy])]
   exact skip he
  ·cases he
theorem kL (hT:Eb P T) (Pk:Lj P Γ) {Q:Exit->Act->World->Prop} : ∀(l:List Oper) (st st':St) (a:Act) (w:World),Rel X st a w->aQ T Γ ops l st=some st'->
  (∀a' w',Rel X st' a' w'->Q .normal a' w')->wpList P ops Q l a w
 | [],st,st',a,w,h,he,hQ=>by
  simp only [aQ,Aa] at he;subst he
  exact hQ _ _ h
 |o::r,st,st',a,w,⟨π,h⟩,he,hQ=>by
  simp only [aQ] at he
  split at he
  ·rename_i st1 h1
   exact Wf hT Pk h o h1 λa' w' h'=>kL hT Pk r st1 st' a' w' h' he hQ
  ·cases he
theorem kH (hT:Eb P T) (Pk:Lj P Γ) {Q:Exit->Act->World->Prop} : ∀(l:List Nat) (st st':St) (a:Act) (w:World),Rel X st a w->Nh T Γ ops l st=some st'->
  (∀a' w',Rel X st' a' w'->Q .normal a' w')->wpOps P ops Q l a w
 | [],st,st',a,w,h,he,hQ=>by
  simp only [Nh,Aa] at he;subst he
  exact hQ _ _ h
 |i::r,st,st',a,w,⟨π,h⟩,he,hQ=>by
  simp only [Nh] at he
  split at he
  ·cases he
  ·rename_i o ho
   split at he
   ·rename_i st1 h1
    simp only [wpOps,ho]
    exact Wf hT Pk h o h1 λa' w' h'=>kH hT Pk r st1 st' a' w' h' he hQ
   ·cases he
end
end Go.Proofs.YtkkdpknjohcekaaGreat
