/-
  Part 24 of the proof that the statement FnTables holds.
-/
import Derived.Test.YtkkdpknjohcekaaCFTables22
import Derived.LoopN
namespace Go.Proofs.Ytkkdpknjohcekaa
open Go.RowKit
section
variable {P:Program} {T:Tab} {Γ:Env} {X:Ctx} {w w':World} {π:Pi} {H:List (Nat×OB)} {ops:Array Oper}
theorem oa (t1 t2:List AV) (H:List (Nat×OB)) (τ:Ty) (c:AC):Dj ⟨t1,H⟩ τ c=Dj ⟨t2,H⟩ τ c:=by
 cases c<;>cases τ<;>rfl
theorem hI (t1 t2:List AV) (H:List (Nat×OB)): ∀(τ:Ty) (cs:List AC),Er ⟨t1,H⟩ τ cs=Er ⟨t2,H⟩ τ cs:=by
 have one: ∀(τ:Ty) (cs:List AC),τ.Am=false->Er ⟨t1,H⟩ τ cs=Er ⟨t2,H⟩ τ cs:=by
  intro τ cs h
  rw [Sl h,Sl h]
  rcases cs with _|⟨c,_|⟨d,r⟩⟩
  ·rfl
  ·exact oa t1 t2 H τ c
  ·rfl
 intro τ
 induction τ with
 |unit=>intro cs;cases cs<;>rfl
 |pair a r fa eV=>intro cs;simp only [Er];rw [fa,eV]
 |_=>exact λcs=>one _ cs rfl
theorem lX (t1 t2:List AV) (H:List (Nat×OB)) (τ:Ty) (l i:Nat):Sx ⟨t1,H⟩ τ l i=Sx ⟨t2,H⟩ τ l i:=by
 unfold Sx
 simp only [St.at]
 split
 ·exact hI t1 t2 H _ _
 ·rfl
theorem tw (t1 t2:List AV) (H:List (Nat×OB)): ∀(τ:Ty) (cs:List (Nat×Nat)),Kk ⟨t1,H⟩ τ cs=Kk ⟨t2,H⟩ τ cs:=by
 intro τ
 induction τ with
 |unit=>intro cs;cases cs<;>rfl
 |pair a r _ eV=>
  intro cs
  cases a with
  |ptr a=>
   cases cs with
   |nil=>rfl
   |cons c cs=>simp only [Kk];rw [lX t1 t2 H,eV]
  |_=>cases cs<;>rfl
 |_=>intro cs;cases cs<;>rfl
theorem xJ (t1 t2:List AV) (H:List (Nat×OB)) (τ:Ty) (c:AC):Jf ⟨t1,H⟩ τ c=Jf ⟨t2,H⟩ τ c:=by
 cases τ<;>cases c<;>simp only [Jf]<;>first|rfl|exact oa t1 t2 H _ _|(rw [lX t1 t2 H])|(split;exact tw t1 t2 H _ _;rfl)
theorem bC (t1 t2:List AV) (H:List (Nat×OB)) (τ:Ty) (c:AV):Fe ⟨t1,H⟩ τ c=Fe ⟨t2,H⟩ τ c:=by
 cases c with
 | «at»a=>cases a<;>simp only [Fe]<;>first|rfl|rw [xJ t1 t2 H]
 |agg cs=>simp only [Fe];rw [hI t1 t2 H]
 |Zw fr Nh x=>rfl
 |Mb l=>rfl
theorem jw (t1 t2:List AV) (H:List (Nat×OB)): ∀(τ:Ty) (cs:List AV),Dr ⟨t1,H⟩ τ cs=Dr ⟨t2,H⟩ τ cs:=by
 intro τ
 induction τ with
 |pair a r fa eV=>
  intro cs
  cases cs with
  |nil=>rfl
  |cons c cs=>simp only [Dr];rw [bC t1 t2 H,eV]
 |_=>intro cs;cases cs<;>rfl
theorem KH (t1 t2:List AV) (H:List (Nat×OB)) (c:AV):zc ⟨t1,H⟩ c=zc ⟨t2,H⟩ c:=by
 cases c with
 | «at»a=>cases a<;>rfl
 |_=>rfl
theorem QP {o:Oper} {t:Tmp} (h:Operand.tmp t∈o.op.operands.toList):t∈o.looksAt ops:=by
 unfold Oper.looksAt
 refine Aw.2 (.inl (List.mem_filterMap.2 ⟨_,h,rfl⟩))
theorem HC {t1 t2:List AV} {H:List (Nat×OB)} {o:Oper} (hs: ∀t,t∈o.looksAt ops->t1.getD t .undef=t2.getD t .undef) (x:Operand) (hx:x∈o.op.operands.toList):
  St.ev ⟨t1,H⟩ x=St.ev ⟨t2,H⟩ x:=by
 cases x with
 |tmp t=>exact hs t (QP hx)
 |const v=>rfl
 |global g=>rfl
 |func f=>rfl
theorem CN {t1 t2:List AV} {H:List (Nat×OB)} {o:Oper} (hs: ∀t,t∈o.looksAt ops->t1.getD t .undef=t2.getD t .undef):Es T Γ ⟨t1,H⟩ o=Es T Γ ⟨t2,H⟩ o:=by
 have he:= λx hx=>HC (H:=H) hs x hx
 obtain ⟨dst,op,ty,pos,af,gd⟩:=o
 dsimp only at he
 cases op with
 |move x=>simp only [Es];rw [he x (by simp [Op.operands])]
 |assign x=>simp only [Es];rw [he x (by simp [Op.operands])]
 |pick c x y=>simp only [Es];rw [he c (by simp [Op.operands]),he x (by simp [Op.operands]),he y (by simp [Op.operands])]
 |load t x=>simp only [Es];rw [he x (by simp [Op.operands])];rfl
 |nilCheck x=>simp only [Es];rw [he x (by simp [Op.operands])]
 |binOp op t x y t'=>simp only [Es];rw [he x (by simp [Op.operands]),he y (by simp [Op.operands])]
 |unOp op t x=>simp only [Es];rw [he x (by simp [Op.operands])]
 |convert s t x=>simp only [Es];rw [he x (by simp [Op.operands])];simp only [bC t1 t2 H]
 |makeFunc fn first Dy=>
  cases fn with
  |func f=>
   simp only [Es]
   have ha:Dy.toList.map (St.ev ⟨t1,H⟩)=Dy.toList.map (St.ev ⟨t2,H⟩):=Ek λx hx=>he x (by
    simp only [Op.operands,Array.toList_append,Aw]
    exact .inr hx)
   have hb:first.toList.map (St.ev ⟨t1,H⟩)=first.toList.map (St.ev ⟨t2,H⟩):=Ek λx hx=>he x (by
    simp only [Op.operands,Array.toList_append,Aw]
    exact .inl hx)
   rw [ha,hb]
  |_=>rfl
 |lookup t m k ok=>simp only [Es];rw [he m (by simp [Op.operands]),he k (by simp [Op.operands])];unfold da;simp only [bC t1 t2 H]
 |slice t x lo hi mx=>
  simp only [Es]
  rw [he x (by simp [Op.operands])]
  have h1:lo.map (St.ev ⟨t1,H⟩)=lo.map (St.ev ⟨t2,H⟩):=by
   cases lo with
   |none=>rfl
   |some y=>simp only [Ai];rw [he y (by simp [Op.operands])]
  have h2:hi.map (St.ev ⟨t1,H⟩)=hi.map (St.ev ⟨t2,H⟩):=by
   cases hi with
   |none=>rfl
   |some y=>simp only [Ai];rw [he y (by simp [Op.operands])]
  rw [h1,h2];rfl
 |fieldAddr s x f=>simp only [Es];rw [he x (by simp [Op.operands])]
 |field s x f=>simp only [Es];rw [he x (by simp [Op.operands])]
 |indexAddr t x i=>simp only [Es];rw [he x (by simp [Op.operands]),he i (by simp [Op.operands])];rfl
 |index t x i=>simp only [Es];rw [he x (by simp [Op.operands]),he i (by simp [Op.operands])]
 |extract x i=>simp only [Es];rw [he x (by simp [Op.operands])]
 |call c=>
  obtain ⟨callee,args,ts⟩:=c
  have ha:args.toList.map (St.ev ⟨t1,H⟩)=args.toList.map (St.ev ⟨t2,H⟩):=Ek λx hx=>he x (by
   simp only [Op.operands,Call.operands,Array.toList_append,Aw]
   exact .inr hx)
  cases callee with
  |value f=>
   cases f with
   |func f=>
    simp only [Es]
    rw [ha]
    unfold Nq
    simp only [jw t1 t2 H]
   |tmp t=>
    simp only [Es]
    have:=he (.tmp t) (by simp [Op.operands,Call.operands])
    simp only [St.ev] at this
    rw [ha,this]
    unfold Wb Nq
    simp only [jw t1 t2 H]
   |_=>rfl
  |invoke r m=>rfl
  |builtin b=>
   cases b with
   |len=>
    simp only [Es]
    split
    ·rename_i x t hx ht
     rw [he x (by
      simp only [Op.operands,Call.operands,Array.toList_append,Aw]
      exact .inr (by rw [hx];simp))]
     simp only [KH t1 t2 H]
    ·rfl
   |min=>simp only [Es];rw [ha]
   |max=>simp only [Es];rw [ha]
   |_=>rfl
 |_=>rfl
theorem yq {t1 t2:List AV} {H:List (Nat×OB)} (t:Option Tmp) (hs: ∀d,t=some d->t1.getD d .undef=t2.getD d .undef):Vt ⟨t1,H⟩ t=Vt ⟨t2,H⟩ t:=by
 cases t with
 |none=>rfl
 |some d=>simp only [Vt,St.get];rw [hs d rfl]
theorem nT {t1 t2:List AV} {H:List (Nat×OB)} (e:Ty): ∀(l:List (Nat×Operand)) (i:Nat),(∀p∈l,St.ev ⟨t1,H⟩ p.2=St.ev ⟨t2,H⟩ p.2)->dx e i l ⟨t1,H⟩=dx e i l ⟨t2,H⟩
 | [],_,_=>rfl
 |(j,x)::r,i,h=>by
  have h1:=h (j,x) (by simp)
  dsimp only at h1
  simp only [dx]
  rw [h1,bC t1 t2 H,nT e r (i+1) λp hp=>h p (An _ hp)]
theorem eg {t1 t2:List AV} {H:List (Nat×OB)} (t:TypeId): ∀(l:List (Nat×Operand)) (cs:List AC),(∀p∈l,St.ev ⟨t1,H⟩ p.2=St.ev ⟨t2,H⟩ p.2)->Lp T ⟨t1,H⟩ t l cs=Lp T ⟨t2,H⟩ t l cs
 | [],_,_=>rfl
 |(j,x)::r,cs,h=>by
  have h1:=h (j,x) (by simp)
  dsimp only at h1
  simp only [Lp]
  rw [h1]
  have ih: ∀fE,Lp T ⟨t1,H⟩ t r fE=Lp T ⟨t2,H⟩ t r fE:= λfE=>eg t r fE λp hp=>h p (An _ hp)
  simp only [ih]
theorem CM {t1 t2:List AV} {H:List (Nat×OB)} {o:Oper} (hs: ∀t,t∈o.looksAt ops->t1.getD t .undef=t2.getD t .undef):Vo T Γ ⟨t1,H⟩ o=Vo T Γ ⟨t2,H⟩ o:=by
 have he:= λx hx=>HC (H:=H) hs x hx
 have hq:=CN (T:=T) (Γ:=Γ) (H:=H) hs
 obtain ⟨dst,op,ty,pos,af,gd⟩:=o
 dsimp only at he
 unfold Vo
 cases op with
 |buildSlice t len parts=>
  dsimp only
  have hp: ∀p∈parts.toList,St.ev ⟨t1,H⟩ p.2=St.ev ⟨t2,H⟩ p.2:= λp hp=>he p.2 (by simp only [Op.operands,Bo];exact ⟨p,hp,rfl⟩)
  unfold aa
  simp only [nT _ _ _ hp]
 |build t parts=>
  dsimp only
  have hp: ∀p∈parts.toList,St.ev ⟨t1,H⟩ p.2=St.ev ⟨t2,H⟩ p.2:= λp hp=>he p.2 (by simp only [Op.operands,Bo];exact ⟨p,hp,rfl⟩)
  unfold Vz
  simp only [eg _ _ _ hp]
 |_=>exact hq
theorem vf {t1 t2:List AV} {H:List (Nat×OB)} {o:Oper} (hs: ∀t,t∈o.looksAt ops->t1.getD t .undef=t2.getD t .undef):Vn T Γ ops ⟨t1,H⟩ o=Vn T Γ ops ⟨t2,H⟩ o:=by
 unfold Vn
 rw [CM hs]
 split
 ·rfl
 ·rename_i j want hg
  rw [yq ((ops[j]?).bind (·.dst)) (λd hd=>hs d (by
   unfold Oper.looksAt
   rw [hg]
   exact Aw.2 (.inr (by simp [hd]))))]
theorem AS {st:St} {o:Oper} {dst:Option Tmp} {v:AV} (h: ∀d,dst=some d->d∉o.looksAt ops):Vn T Γ ops (st.put dst v) o=Vn T Γ ops st o:=by
 cases dst with
 |none=>rfl
 |some d=>
  obtain ⟨ts,H⟩:=st
  refine vf λt ht=>?_
  show (Rg ts d v).getD t .undef=ts.getD t .undef
  rw [Ps,Al]
  rintro ⟨rfl,_⟩
  exact h d rfl ht
theorem St.put_comm (st:St) {x y:Option Tmp} (v u:AV) (h: ∀d,x=some d->y≠some d):(st.put x v).put y u=(st.put y u).put x v:=by
 cases x with
 |none=>cases y<;>rfl
 |some a=>
  cases y with
  |none=>rfl
  |some b=>
   have Jg:a≠b:= λe=>h a rfl (by rw [e])
   simp only [St.put,St.mk.injEq,eZ]
   rw [Tv,Tv,Tv,Tv]
   exact List.set_comm _ _ Jg
theorem cW {st:St} {a:Act} (h:Bd X π st a w) (j:Nat):
  (∀b,Vt st ((ops[j]?).bind (·.dst))=some (some b)->yielded ops a.tmps j=some b)/\(Vt st ((ops[j]?).bind (·.dst))=some none->yielded ops a.tmps j=none):=by
 unfold yielded
 cases hd:(ops[j]?).bind (·.dst) with
 |none=>constructor<;>simp [Vt]
 |some d=>
  simp only [Vt,Ey]
  have hr:=h.2.tmps d
  constructor
  ·intro b hb
   split at hb
   ·rename_i fr b' hg
    simp only [Aa] at hb;subst hb
    rw [hg] at hr
    have:=Xv hr
    cases ht:a.tmps[d]? with
    |none=>
     rw [aN,ht] at this
     cases this
    |some v=>
     rw [aN,ht] at this
     simp only [Option.getD_some] at this
     rw [this]
   ·cases hb
   ·cases hb
  ·intro hb
   split at hb
   ·cases hb
   ·rename_i hg
    rw [hg] at hr
    have hv:a.tmps.getD d undef=undef:=hr
    cases ht:a.tmps[d]? with
    |none=>rfl
    |some v=>
     rw [aN,ht] at hv
     simp only [Option.getD_some] at hv
     rw [hv];rfl
   ·cases hb
theorem od {Q:Exit->Act->World->Prop} {K:Act->World->Prop} {st':St} {a:Act} {o:Oper} {av:AV} (h:fe P X st' a w av ((execOp a.eval o).run P w))
  (hK: ∀a' w',Rel X (st'.put o.dst av) a' w'->K a' w'):o.wp P a w K Q:=by
 unfold Oper.wp
 generalize (execOp a.eval o).run P w=r at*
 cases r with
 |halt x w'=>exact h.elim
 |ok n w'=>
  cases n<;>simp only [fe] at h<;>simp only [Oper.upon]
  ·obtain ⟨π',h1,h2⟩:=h
   exact hK _ _ ⟨π',h1.put o.dst h2⟩
  ·obtain ⟨π',h1,h2⟩:=h
   exact hK _ _ ⟨π',h1.put o.dst h2⟩
  ·obtain ⟨rfl,hc⟩:=h
   refine hc.mono ?_
   rintro e oc ⟨v,rfl,π',h1,h2⟩
   exact hK _ _ ⟨π',h1.put o.dst h2⟩
theorem AA {st:St} :Bi X w π st.heap (.at .skip) undef:=rfl
theorem Uj (hT:Ed P T) (Nt:Kd P Γ) {Q:Exit->Act->World->Prop} {K:Act->World->Prop} {st st':St} {a:Act} (h:Bd X π st a w) (o:Oper) (he:En T Γ ops st o=some st')
  (hK: ∀a' w',Rel X st' a' w'->K a' w'):if Region.wanted o (yielded ops a.tmps) then o.wp P a w K Q\/(o.asks P a w/\LetsOut Q) else K (a.put o.dst undef) w:=by
 have run:(evalOp T Γ st o).map (λr=>r.2.put o.dst r.1)=some st'->o.wp P a w K Q:=by
  intro he
  cases hr:evalOp T Γ st o with
  |none=>rw [hr] at he;cases he
  |some r=>
   rw [hr] at he
   simp only [Ai,Aa] at he;subst he
   exact od (vR hT Nt h o r.1 r.2 hr) hK
 have skip:some (st.put o.dst (.at .skip))=some st'->K (a.put o.dst undef) w:=by
  intro he
  simp only [Aa] at he;subst he
  exact hK _ _ ⟨π,h.put o.dst AA⟩
 unfold En at he
 split at he
 ·rename_i hg
  rw [Ab (by simp [Region.wanted,hg])]
  exact .inl (run he)
 ·rename_i j want hg
  split at he
  ·rename_i b hb
   have hy:=(cW h j).1 b hb
   split at he
   ·rename_i OZ
    rw [Ab (by simp only [Region.wanted,hg,hy];simpa using OZ)]
    exact .inl (run he)
   ·rename_i OZ
    rw [Al (by simp only [Region.wanted,hg,hy];simpa using OZ)]
    exact skip he
  ·rename_i hb
   have hy:=(cW h j).2 hb
   rw [Al (by simp [Region.wanted,hg,hy])]
   exact skip he
  ·cases he
theorem iY (hT:Ed P T) (Nt:Kd P Γ) {Q:Exit->Act->World->Prop} : ∀(l:List Oper) (st st':St) (a:Act) (w:World),Rel X st a w->Za T Γ ops l st=some st'->
  (∀a' w',Rel X st' a' w'->Q .normal a' w')->wpList P ops Q l a w
 | [],st,st',a,w,h,he,hQ=>by
  simp only [Za,Aa] at he;subst he
  exact hQ _ _ h
 |o::r,st,st',a,w,⟨π,h⟩,he,hQ=>by
  simp only [Za] at he
  split at he
  ·rename_i st1 h1
   exact Uj hT Nt h o h1 λa' w' h'=>iY hT Nt r st1 st' a' w' h' he hQ
  ·cases he
theorem iU (hT:Ed P T) (Nt:Kd P Γ) {Q:Exit->Act->World->Prop} : ∀(l:List Nat) (st st':St) (a:Act) (w:World),Rel X st a w->Me T Γ ops l st=some st'->
  (∀a' w',Rel X st' a' w'->Q .normal a' w')->wpOps P ops Q l a w
 | [],st,st',a,w,h,he,hQ=>by
  simp only [Me,Aa] at he;subst he
  exact hQ _ _ h
 |i::r,st,st',a,w,⟨π,h⟩,he,hQ=>by
  simp only [Me] at he
  split at he
  ·cases he
  ·rename_i o ho
   split at he
   ·rename_i st1 h1
    simp only [wpOps,ho]
    exact Uj hT Nt h o h1 λa' w' h'=>iU hT Nt r st1 st' a' w' h' he hQ
   ·cases he
end
end Go.Proofs.Ytkkdpknjohcekaa
