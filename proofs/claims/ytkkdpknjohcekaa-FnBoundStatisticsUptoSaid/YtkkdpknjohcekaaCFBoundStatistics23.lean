/-
  Part 24 of the proof that the statement FnBoundStatistics holds.
-/
import Derived.Test.YtkkdpknjohcekaaCFBoundStatistics22
import Derived.LoopN
namespace Go.Proofs.Ytkkdpknjohcekaa
open Go.RowKit
section
variable {P:Program} {T:Tab} {Γ:Env} {X:Ctx} {w w':World} {π:Pi} {H:List (Nat×OB)} {ops:Array Oper}
theorem qX (t1 t2:List AV) (H:List (Nat×OB)) (τ:Ty) (c:AC):Dm ⟨t1,H⟩ τ c=Dm ⟨t2,H⟩ τ c:=by
 cases c<;>cases τ<;>rfl
theorem jH (t1 t2:List AV) (H:List (Nat×OB)): ∀(τ:Ty) (cs:List AC),Ey ⟨t1,H⟩ τ cs=Ey ⟨t2,H⟩ τ cs:=by
 have one: ∀(τ:Ty) (cs:List AC),τ.Ao=false->Ey ⟨t1,H⟩ τ cs=Ey ⟨t2,H⟩ τ cs:=by
  intro τ cs h
  rw [Uf h,Uf h]
  rcases cs with _|⟨c,_|⟨d,r⟩⟩
  ·rfl
  ·exact qX t1 t2 H τ c
  ·rfl
 intro τ
 induction τ with
 |unit=>intro cs;cases cs<;>rfl
 |pair a r gV gR=>intro cs;simp only [Ey];rw [gV,gR]
 |_=>exact λcs=>one _ cs rfl
theorem oz (t1 t2:List AV) (H:List (Nat×OB)) (τ:Ty) (l i:Nat):Up ⟨t1,H⟩ τ l i=Up ⟨t2,H⟩ τ l i:=by
 unfold Up
 simp only [St.at]
 split
 ·exact jH t1 t2 H _ _
 ·rfl
theorem wF (t1 t2:List AV) (H:List (Nat×OB)): ∀(τ:Ty) (cs:List (Nat×Nat)),Le ⟨t1,H⟩ τ cs=Le ⟨t2,H⟩ τ cs:=by
 intro τ
 induction τ with
 |unit=>intro cs;cases cs<;>rfl
 |pair a r _ gR=>
  intro cs
  cases a with
  |ptr a=>
   cases cs with
   |nil=>rfl
   |cons c cs=>simp only [Le];rw [oz t1 t2 H,gR]
  |_=>cases cs<;>rfl
 |_=>intro cs;cases cs<;>rfl
theorem BL (t1 t2:List AV) (H:List (Nat×OB)) (τ:Ty) (c:AC):Kc ⟨t1,H⟩ τ c=Kc ⟨t2,H⟩ τ c:=by
 cases τ<;>cases c<;>simp only [Kc]<;>first|rfl|exact qX t1 t2 H _ _|(rw [oz t1 t2 H])|(split;exact wF t1 t2 H _ _;rfl)
theorem dd (t1 t2:List AV) (H:List (Nat×OB)) (τ:Ty) (c:AV):Fp ⟨t1,H⟩ τ c=Fp ⟨t2,H⟩ τ c:=by
 cases c with
 | «at»a=>cases a<;>simp only [Fp]<;>first|rfl|rw [BL t1 t2 H]
 |agg cs=>simp only [Fp];rw [jH t1 t2 H]
 |bu fr Ok x=>rfl
 |Mw l=>rfl
theorem lB (t1 t2:List AV) (H:List (Nat×OB)): ∀(τ:Ty) (cs:List AV),Dv ⟨t1,H⟩ τ cs=Dv ⟨t2,H⟩ τ cs:=by
 intro τ
 induction τ with
 |pair a r gV gR=>
  intro cs
  cases cs with
  |nil=>rfl
  |cons c cs=>simp only [Dv];rw [dd t1 t2 H,gR]
 |_=>intro cs;cases cs<;>rfl
theorem TC (t1 t2:List AV) (H:List (Nat×OB)) (c:AV):EZ ⟨t1,H⟩ c=EZ ⟨t2,H⟩ c:=by
 cases c with
 | «at»a=>cases a<;>rfl
 |_=>rfl
theorem ZP {o:Oper} {t:Tmp} (h:Operand.tmp t∈o.op.operands.toList):t∈o.looksAt ops:=by
 unfold Oper.looksAt
 refine Ax.2 (.inl (List.mem_filterMap.2 ⟨_,h,rfl⟩))
theorem PK {t1 t2:List AV} {H:List (Nat×OB)} {o:Oper} (hs: ∀t,t∈o.looksAt ops->t1.getD t .undef=t2.getD t .undef) (x:Operand) (hx:x∈o.op.operands.toList):
  St.ev ⟨t1,H⟩ x=St.ev ⟨t2,H⟩ x:=by
 cases x with
 |tmp t=>exact hs t (ZP hx)
 |const v=>rfl
 |global g=>rfl
 |func f=>rfl
theorem KI {t1 t2:List AV} {H:List (Nat×OB)} {o:Oper} (hs: ∀t,t∈o.looksAt ops->t1.getD t .undef=t2.getD t .undef):Fa T Γ ⟨t1,H⟩ o=Fa T Γ ⟨t2,H⟩ o:=by
 have he:= λx hx=>PK (H:=H) hs x hx
 obtain ⟨dst,op,ty,pos,af,gd⟩:=o
 dsimp only at he
 cases op with
 |move x=>simp only [Fa];rw [he x (by simp [Op.operands])]
 |assign x=>simp only [Fa];rw [he x (by simp [Op.operands])]
 |pick c x y=>simp only [Fa];rw [he c (by simp [Op.operands]),he x (by simp [Op.operands]),he y (by simp [Op.operands])]
 |load t x=>simp only [Fa];rw [he x (by simp [Op.operands])];rfl
 |nilCheck x=>simp only [Fa];rw [he x (by simp [Op.operands])]
 |binOp op t x y t'=>simp only [Fa];rw [he x (by simp [Op.operands]),he y (by simp [Op.operands])]
 |unOp op t x=>simp only [Fa];rw [he x (by simp [Op.operands])]
 |convert s t x=>simp only [Fa];rw [he x (by simp [Op.operands])];simp only [dd t1 t2 H]
 |makeFunc fn first Ee=>
  cases fn with
  |func f=>
   simp only [Fa]
   have ha:Ee.toList.map (St.ev ⟨t1,H⟩)=Ee.toList.map (St.ev ⟨t2,H⟩):=Eh λx hx=>he x (by
    simp only [Op.operands,Array.toList_append,Ax]
    exact .inr hx)
   have hb:first.toList.map (St.ev ⟨t1,H⟩)=first.toList.map (St.ev ⟨t2,H⟩):=Eh λx hx=>he x (by
    simp only [Op.operands,Array.toList_append,Ax]
    exact .inl hx)
   rw [ha,hb]
  |_=>rfl
 |lookup t m k ok=>simp only [Fa];rw [he m (by simp [Op.operands]),he k (by simp [Op.operands])];unfold eY;simp only [dd t1 t2 H]
 |slice t x lo hi mx=>
  simp only [Fa]
  rw [he x (by simp [Op.operands])]
  have h1:lo.map (St.ev ⟨t1,H⟩)=lo.map (St.ev ⟨t2,H⟩):=by
   cases lo with
   |none=>rfl
   |some y=>simp only [Am];rw [he y (by simp [Op.operands])]
  have h2:hi.map (St.ev ⟨t1,H⟩)=hi.map (St.ev ⟨t2,H⟩):=by
   cases hi with
   |none=>rfl
   |some y=>simp only [Am];rw [he y (by simp [Op.operands])]
  rw [h1,h2];rfl
 |fieldAddr s x f=>simp only [Fa];rw [he x (by simp [Op.operands])]
 |field s x f=>simp only [Fa];rw [he x (by simp [Op.operands])]
 |indexAddr t x i=>simp only [Fa];rw [he x (by simp [Op.operands]),he i (by simp [Op.operands])];rfl
 |index t x i=>simp only [Fa];rw [he x (by simp [Op.operands]),he i (by simp [Op.operands])]
 |extract x i=>simp only [Fa];rw [he x (by simp [Op.operands])]
 |call c=>
  obtain ⟨callee,args,ts⟩:=c
  have ha:args.toList.map (St.ev ⟨t1,H⟩)=args.toList.map (St.ev ⟨t2,H⟩):=Eh λx hx=>he x (by
   simp only [Op.operands,Call.operands,Array.toList_append,Ax]
   exact .inr hx)
  cases callee with
  |value f=>
   cases f with
   |func f=>
    simp only [Fa]
    rw [ha]
    unfold Oy
    simp only [lB t1 t2 H]
   |tmp t=>
    simp only [Fa]
    have:=he (.tmp t) (by simp [Op.operands,Call.operands])
    simp only [St.ev] at this
    rw [ha,this]
    unfold Yh Oy
    simp only [lB t1 t2 H]
   |_=>rfl
  |invoke r m=>rfl
  |builtin b=>
   cases b with
   |len=>
    simp only [Fa]
    split
    ·rename_i x t hx ht
     rw [he x (by
      simp only [Op.operands,Call.operands,Array.toList_append,Ax]
      exact .inr (by rw [hx];simp))]
     simp only [TC t1 t2 H]
    ·rfl
   |min=>simp only [Fa];rw [ha]
   |max=>simp only [Fa];rw [ha]
   |_=>rfl
 |_=>rfl
theorem CZ {t1 t2:List AV} {H:List (Nat×OB)} (t:Option Tmp) (hs: ∀d,t=some d->t1.getD d .undef=t2.getD d .undef):Xz ⟨t1,H⟩ t=Xz ⟨t2,H⟩ t:=by
 cases t with
 |none=>rfl
 |some d=>simp only [Xz,St.get];rw [hs d rfl]
theorem qH {t1 t2:List AV} {H:List (Nat×OB)} (e:Ty): ∀(l:List (Nat×Operand)) (i:Nat),(∀p∈l,St.ev ⟨t1,H⟩ p.2=St.ev ⟨t2,H⟩ p.2)->fy e i l ⟨t1,H⟩=fy e i l ⟨t2,H⟩
 | [],_,_=>rfl
 |(j,x)::r,i,h=>by
  have h1:=h (j,x) (by simp)
  dsimp only at h1
  simp only [fy]
  rw [h1,dd t1 t2 H,qH e r (i+1) λp hp=>h p (Aq _ hp)]
theorem ga {t1 t2:List AV} {H:List (Nat×OB)} (t:TypeId): ∀(l:List (Nat×Operand)) (cs:List AC),(∀p∈l,St.ev ⟨t1,H⟩ p.2=St.ev ⟨t2,H⟩ p.2)->Mo T ⟨t1,H⟩ t l cs=Mo T ⟨t2,H⟩ t l cs
 | [],_,_=>rfl
 |(j,x)::r,cs,h=>by
  have h1:=h (j,x) (by simp)
  dsimp only at h1
  simp only [Mo]
  rw [h1]
  have ih: ∀iz,Mo T ⟨t1,H⟩ t r iz=Mo T ⟨t2,H⟩ t r iz:= λiz=>ga t r iz λp hp=>h p (Aq _ hp)
  simp only [ih]
theorem KH {t1 t2:List AV} {H:List (Nat×OB)} {o:Oper} (hs: ∀t,t∈o.looksAt ops->t1.getD t .undef=t2.getD t .undef):Xr T Γ ⟨t1,H⟩ o=Xr T Γ ⟨t2,H⟩ o:=by
 have he:= λx hx=>PK (H:=H) hs x hx
 have hq:=KI (T:=T) (Γ:=Γ) (H:=H) hs
 obtain ⟨dst,op,ty,pos,af,gd⟩:=o
 dsimp only at he
 unfold Xr
 cases op with
 |buildSlice t len parts=>
  dsimp only
  have hp: ∀p∈parts.toList,St.ev ⟨t1,H⟩ p.2=St.ev ⟨t2,H⟩ p.2:= λp hp=>he p.2 (by simp only [Op.operands,Ay];exact ⟨p,hp,rfl⟩)
  unfold bG
  simp only [qH _ _ _ hp]
 |build t parts=>
  dsimp only
  have hp: ∀p∈parts.toList,St.ev ⟨t1,H⟩ p.2=St.ev ⟨t2,H⟩ p.2:= λp hp=>he p.2 (by simp only [Op.operands,Ay];exact ⟨p,hp,rfl⟩)
  unfold Yf
  simp only [ga _ _ _ hp]
 |_=>exact hq
theorem yk {t1 t2:List AV} {H:List (Nat×OB)} {o:Oper} (hs: ∀t,t∈o.looksAt ops->t1.getD t .undef=t2.getD t .undef):Xq T Γ ops ⟨t1,H⟩ o=Xq T Γ ops ⟨t2,H⟩ o:=by
 unfold Xq
 rw [KH hs]
 split
 ·rfl
 ·rename_i j want hg
  rw [CZ ((ops[j]?).bind (·.dst)) (λd hd=>hs d (by
   unfold Oper.looksAt
   rw [hg]
   exact Ax.2 (.inr (by simp [hd]))))]
theorem IC {st:St} {o:Oper} {dst:Option Tmp} {v:AV} (h: ∀d,dst=some d->d∉o.looksAt ops):Xq T Γ ops (st.put dst v) o=Xq T Γ ops st o:=by
 cases dst with
 |none=>rfl
 |some d=>
  obtain ⟨ts,H⟩:=st
  refine yk λt ht=>?_
  show (Sz ts d v).getD t .undef=ts.getD t .undef
  rw [Rb,Ak]
  rintro ⟨rfl,_⟩
  exact h d rfl ht
theorem St.put_comm (st:St) {x y:Option Tmp} (v u:AV) (h: ∀d,x=some d->y≠some d):(st.put x v).put y u=(st.put y u).put x v:=by
 cases x with
 |none=>cases y<;>rfl
 |some a=>
  cases y with
  |none=>rfl
  |some b=>
   have Iv:a≠b:= λe=>h a rfl (by rw [e])
   simp only [St.put,St.mk.injEq,On]
   rw [Vp,Vp,Vp,Vp]
   exact List.set_comm _ _ Iv
theorem eU {st:St} {a:Act} (h:Bh X π st a w) (j:Nat):
  (∀b,Xz st ((ops[j]?).bind (·.dst))=some (some b)->yielded ops a.tmps j=some b)/\(Xz st ((ops[j]?).bind (·.dst))=some none->yielded ops a.tmps j=none):=by
 unfold yielded
 cases hd:(ops[j]?).bind (·.dst) with
 |none=>constructor<;>simp [Xz]
 |some d=>
  simp only [Xz,Ff]
  have hr:=h.2.tmps d
  constructor
  ·intro b hb
   split at hb
   ·rename_i fr b' hg
    simp only [Aa] at hb;subst hb
    rw [hg] at hr
    have:=aa hr
    cases ht:a.tmps[d]? with
    |none=>
     rw [cm,ht] at this
     cases this
    |some v=>
     rw [cm,ht] at this
     simp only [Bp] at this
     rw [this]
   ·cases hb
   ·cases hb
  ·intro hb
   split at hb
   ·cases hb
   ·rename_i hg
    rw [hg] at hr
    have hv:a.tmps.getD d undef=undef:=hr
    cases ht:a.tmps[d]? with
    |none=>rfl
    |some v=>
     rw [cm,ht] at hv
     simp only [Bp] at hv
     rw [hv];rfl
   ·cases hb
theorem qZ {Q:Exit->Act->World->Prop} {K:Act->World->Prop} {st':St} {a:Act} {o:Oper} {av:AV} (h:gY P X st' a w av ((execOp a.eval o).run P w))
  (hK: ∀a' w',Rel X (st'.put o.dst av) a' w'->K a' w'):o.wp P a w K Q:=by
 unfold Oper.wp
 generalize (execOp a.eval o).run P w=r at*
 cases r with
 |halt x w'=>exact h.elim
 |ok n w'=>
  cases n<;>simp only [gY] at h<;>simp only [Oper.upon]
  ·obtain ⟨π',h1,h2⟩:=h
   exact hK _ _ ⟨π',h1.put o.dst h2⟩
  ·obtain ⟨π',h1,h2⟩:=h
   exact hK _ _ ⟨π',h1.put o.dst h2⟩
  ·obtain ⟨rfl,hc⟩:=h
   refine hc.mono ?_
   rintro e qY ⟨v,rfl,π',h1,h2⟩
   exact hK _ _ ⟨π',h1.put o.dst h2⟩
theorem HI {st:St} :Bq X w π st.heap (.at .skip) undef:=rfl
theorem We (hT:Dz P T) (Pb:Kx P Γ) {Q:Exit->Act->World->Prop} {K:Act->World->Prop} {st st':St} {a:Act} (h:Bh X π st a w) (o:Oper) (he:Eu T Γ ops st o=some st')
  (hK: ∀a' w',Rel X st' a' w'->K a' w'):if Region.wanted o (yielded ops a.tmps) then o.wp P a w K Q\/(o.asks P a w/\LetsOut Q) else K (a.put o.dst undef) w:=by
 have run:(evalOp T Γ st o).map (λr=>r.2.put o.dst r.1)=some st'->o.wp P a w K Q:=by
  intro he
  cases hr:evalOp T Γ st o with
  |none=>rw [hr] at he;cases he
  |some r=>
   rw [hr] at he
   simp only [Am,Aa] at he;subst he
   exact qZ (yO hT Pb h o r.1 r.2 hr) hK
 have skip:some (st.put o.dst (.at .skip))=some st'->K (a.put o.dst undef) w:=by
  intro he
  simp only [Aa] at he;subst he
  exact hK _ _ ⟨π,h.put o.dst HI⟩
 unfold Eu at he
 split at he
 ·rename_i hg
  rw [Ac (by simp [Region.wanted,hg])]
  exact .inl (run he)
 ·rename_i j want hg
  split at he
  ·rename_i b hb
   have hy:=(eU h j).1 b hb
   split at he
   ·rename_i KO
    rw [Ac (by simp only [Region.wanted,hg,hy];simpa using KO)]
    exact .inl (run he)
   ·rename_i KO
    rw [Ak (by simp only [Region.wanted,hg,hy];simpa using KO)]
    exact skip he
  ·rename_i hb
   have hy:=(eU h j).2 hb
   rw [Ak (by simp [Region.wanted,hg,hy])]
   exact skip he
  ·cases he
theorem kV (hT:Dz P T) (Pb:Kx P Γ) {Q:Exit->Act->World->Prop} : ∀(l:List Oper) (st st':St) (a:Act) (w:World),Rel X st a w->aO T Γ ops l st=some st'->
  (∀a' w',Rel X st' a' w'->Q .normal a' w')->wpList P ops Q l a w
 | [],st,st',a,w,h,he,hQ=>by
  simp only [aO,Aa] at he;subst he
  exact hQ _ _ h
 |o::r,st,st',a,w,⟨π,h⟩,he,hQ=>by
  simp only [aO] at he
  split at he
  ·rename_i st1 h1
   exact We hT Pb h o h1 λa' w' h'=>kV hT Pb r st1 st' a' w' h' he hQ
  ·cases he
theorem kR (hT:Dz P T) (Pb:Kx P Γ) {Q:Exit->Act->World->Prop} : ∀(l:List Nat) (st st':St) (a:Act) (w:World),Rel X st a w->Mz T Γ ops l st=some st'->
  (∀a' w',Rel X st' a' w'->Q .normal a' w')->wpOps P ops Q l a w
 | [],st,st',a,w,h,he,hQ=>by
  simp only [Mz,Aa] at he;subst he
  exact hQ _ _ h
 |i::r,st,st',a,w,⟨π,h⟩,he,hQ=>by
  simp only [Mz] at he
  split at he
  ·cases he
  ·rename_i o ho
   split at he
   ·rename_i st1 h1
    simp only [wpOps,ho]
    exact We hT Pb h o h1 λa' w' h'=>kR hT Pb r st1 st' a' w' h' he hQ
   ·cases he
end
end Go.Proofs.Ytkkdpknjohcekaa
