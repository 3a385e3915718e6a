/-
  Part 24 of the proof that the statement FnStateClasses holds.
-/
import Derived.Test.YtkkdpknjohcekaaCFStateClasses22
import Derived.LoopN
namespace Go.Proofs.Ytkkdpknjohcekaa
open Go.RowKit
section
variable {P:Program} {T:Tab} {Γ:Env} {X:Ctx} {w w':World} {π:Pi} {H:List (Nat×OB)} {ops:Array Oper}
theorem oV (t1 t2:List AV) (H:List (Nat×OB)) (τ:Ty) (c:AC):Dk ⟨t1,H⟩ τ c=Dk ⟨t2,H⟩ τ c:=by
 cases c<;>cases τ<;>rfl
theorem ix (t1 t2:List AV) (H:List (Nat×OB)): ∀(τ:Ty) (cs:List AC),Et ⟨t1,H⟩ τ cs=Et ⟨t2,H⟩ τ cs:=by
 have one: ∀(τ:Ty) (cs:List AC),τ.Ap=false->Et ⟨t1,H⟩ τ cs=Et ⟨t2,H⟩ τ cs:=by
  intro τ cs h
  rw [Tc h,Tc h]
  rcases cs with _|⟨c,_|⟨d,r⟩⟩
  ·rfl
  ·exact oV t1 t2 H τ c
  ·rfl
 intro τ
 induction τ with
 |unit=>intro cs;cases cs<;>rfl
 |pair a r fH fF=>intro cs;simp only [Et];rw [fH,fF]
 |_=>exact λcs=>one _ cs rfl
theorem mI (t1 t2:List AV) (H:List (Nat×OB)) (τ:Ty) (l i:Nat):Tm ⟨t1,H⟩ τ l i=Tm ⟨t2,H⟩ τ l i:=by
 unfold Tm
 simp only [St.at]
 split
 ·exact ix t1 t2 H _ _
 ·rfl
theorem uf (t1 t2:List AV) (H:List (Nat×OB)): ∀(τ:Ty) (cs:List (Nat×Nat)),Kq ⟨t1,H⟩ τ cs=Kq ⟨t2,H⟩ τ cs:=by
 intro τ
 induction τ with
 |unit=>intro cs;cases cs<;>rfl
 |pair a r _ fF=>
  intro cs
  cases a with
  |ptr a=>
   cases cs with
   |nil=>rfl
   |cons c cs=>simp only [Kq];rw [mI t1 t2 H,fF]
  |_=>cases cs<;>rfl
 |_=>intro cs;cases cs<;>rfl
theorem yM (t1 t2:List AV) (H:List (Nat×OB)) (τ:Ty) (c:AC):Jg ⟨t1,H⟩ τ c=Jg ⟨t2,H⟩ τ c:=by
 cases τ<;>cases c<;>simp only [Jg]<;>first|rfl|exact oV t1 t2 H _ _|(rw [mI t1 t2 H])|(split;exact uf t1 t2 H _ _;rfl)
theorem c6 (t1 t2:List AV) (H:List (Nat×OB)) (τ:Ty) (c:AV):Ff ⟨t1,H⟩ τ c=Ff ⟨t2,H⟩ τ c:=by
 cases c with
 | «at»a=>cases a<;>simp only [Ff]<;>first|rfl|rw [yM t1 t2 H]
 |agg cs=>simp only [Ff];rw [ix t1 t2 H]
 |ay fr Nx x=>rfl
 |Mh l=>rfl
theorem jU (t1 t2:List AV) (H:List (Nat×OB)): ∀(τ:Ty) (cs:List AV),Dq ⟨t1,H⟩ τ cs=Dq ⟨t2,H⟩ τ cs:=by
 intro τ
 induction τ with
 |pair a r fH fF=>
  intro cs
  cases cs with
  |nil=>rfl
  |cons c cs=>simp only [Dq];rw [c6 t1 t2 H,fF]
 |_=>intro cs;cases cs<;>rfl
theorem NQ (t1 t2:List AV) (H:List (Nat×OB)) (c:AV):AR ⟨t1,H⟩ c=AR ⟨t2,H⟩ c:=by
 cases c with
 | «at»a=>cases a<;>rfl
 |_=>rfl
theorem UA {o:Oper} {t:Tmp} (h:Operand.tmp t∈o.op.operands.toList):t∈o.looksAt ops:=by
 unfold Oper.looksAt
 refine Az.2 (.inl (List.mem_filterMap.2 ⟨_,h,rfl⟩))
theorem KE {t1 t2:List AV} {H:List (Nat×OB)} {o:Oper} (hs: ∀t,t∈o.looksAt ops->t1.getD t .undef=t2.getD t .undef) (x:Operand) (hx:x∈o.op.operands.toList):
  St.ev ⟨t1,H⟩ x=St.ev ⟨t2,H⟩ x:=by
 cases x with
 |tmp t=>exact hs t (UA hx)
 |const v=>rfl
 |global g=>rfl
 |func f=>rfl
theorem FQ {t1 t2:List AV} {H:List (Nat×OB)} {o:Oper} (hs: ∀t,t∈o.looksAt ops->t1.getD t .undef=t2.getD t .undef):Eu T Γ ⟨t1,H⟩ o=Eu T Γ ⟨t2,H⟩ o:=by
 have he:= λx hx=>KE (H:=H) hs x hx
 obtain ⟨dst,op,ty,pos,af,gd⟩:=o
 dsimp only at he
 cases op with
 |move x=>simp only [Eu];rw [he x (by simp [Op.operands])]
 |assign x=>simp only [Eu];rw [he x (by simp [Op.operands])]
 |pick c x y=>simp only [Eu];rw [he c (by simp [Op.operands]),he x (by simp [Op.operands]),he y (by simp [Op.operands])]
 |load t x=>simp only [Eu];rw [he x (by simp [Op.operands])];rfl
 |nilCheck x=>simp only [Eu];rw [he x (by simp [Op.operands])]
 |binOp op t x y t'=>simp only [Eu];rw [he x (by simp [Op.operands]),he y (by simp [Op.operands])]
 |unOp op t x=>simp only [Eu];rw [he x (by simp [Op.operands])]
 |convert s t x=>simp only [Eu];rw [he x (by simp [Op.operands])];simp only [c6 t1 t2 H]
 |makeFunc fn first Dz=>
  cases fn with
  |func f=>
   simp only [Eu]
   have ha:Dz.toList.map (St.ev ⟨t1,H⟩)=Dz.toList.map (St.ev ⟨t2,H⟩):=Fz λx hx=>he x (by
    simp only [Op.operands,Array.toList_append,Az]
    exact .inr hx)
   have hb:first.toList.map (St.ev ⟨t1,H⟩)=first.toList.map (St.ev ⟨t2,H⟩):=Fz λx hx=>he x (by
    simp only [Op.operands,Array.toList_append,Az]
    exact .inl hx)
   rw [ha,hb]
  |_=>rfl
 |lookup t m k ok=>simp only [Eu];rw [he m (by simp [Op.operands]),he k (by simp [Op.operands])];unfold dJ;simp only [c6 t1 t2 H]
 |slice t x lo hi mx=>
  simp only [Eu]
  rw [he x (by simp [Op.operands])]
  have h1:lo.map (St.ev ⟨t1,H⟩)=lo.map (St.ev ⟨t2,H⟩):=by
   cases lo with
   |none=>rfl
   |some y=>simp only [Ak];rw [he y (by simp [Op.operands])]
  have h2:hi.map (St.ev ⟨t1,H⟩)=hi.map (St.ev ⟨t2,H⟩):=by
   cases hi with
   |none=>rfl
   |some y=>simp only [Ak];rw [he y (by simp [Op.operands])]
  rw [h1,h2];rfl
 |fieldAddr s x f=>simp only [Eu];rw [he x (by simp [Op.operands])]
 |field s x f=>simp only [Eu];rw [he x (by simp [Op.operands])]
 |indexAddr t x i=>simp only [Eu];rw [he x (by simp [Op.operands]),he i (by simp [Op.operands])];rfl
 |index t x i=>simp only [Eu];rw [he x (by simp [Op.operands]),he i (by simp [Op.operands])]
 |extract x i=>simp only [Eu];rw [he x (by simp [Op.operands])]
 |call c=>
  obtain ⟨callee,args,ts⟩:=c
  have ha:args.toList.map (St.ev ⟨t1,H⟩)=args.toList.map (St.ev ⟨t2,H⟩):=Fz λx hx=>he x (by
   simp only [Op.operands,Call.operands,Array.toList_append,Az]
   exact .inr hx)
  cases callee with
  |value f=>
   cases f with
   |func f=>
    simp only [Eu]
    rw [ha]
    unfold Of
    simp only [jU t1 t2 H]
   |tmp t=>
    simp only [Eu]
    have:=he (.tmp t) (by simp [Op.operands,Call.operands])
    simp only [St.ev] at this
    rw [ha,this]
    unfold Ws Of
    simp only [jU t1 t2 H]
   |_=>rfl
  |invoke r m=>rfl
  |builtin b=>
   cases b with
   |len=>
    simp only [Eu]
    split
    ·rename_i x t hx ht
     rw [he x (by
      simp only [Op.operands,Call.operands,Array.toList_append,Az]
      exact .inr (by rw [hx];simp))]
     simp only [NQ t1 t2 H]
    ·rfl
   |min=>simp only [Eu];rw [ha]
   |max=>simp only [Eu];rw [ha]
   |_=>rfl
 |_=>rfl
theorem zt {t1 t2:List AV} {H:List (Nat×OB)} (t:Option Tmp) (hs: ∀d,t=some d->t1.getD d .undef=t2.getD d .undef):Wk ⟨t1,H⟩ t=Wk ⟨t2,H⟩ t:=by
 cases t with
 |none=>rfl
 |some d=>simp only [Wk,St.get];rw [hs d rfl]
theorem oF {t1 t2:List AV} {H:List (Nat×OB)} (e:Ty): ∀(l:List (Nat×Operand)) (i:Nat),(∀p∈l,St.ev ⟨t1,H⟩ p.2=St.ev ⟨t2,H⟩ p.2)->ed e i l ⟨t1,H⟩=ed e i l ⟨t2,H⟩
 | [],_,_=>rfl
 |(j,x)::r,i,h=>by
  have h1:=h (j,x) (by simp)
  dsimp only at h1
  simp only [ed]
  rw [h1,c6 t1 t2 H,oF e r (i+1) λp hp=>h p (An _ hp)]
theorem eO {t1 t2:List AV} {H:List (Nat×OB)} (t:TypeId): ∀(l:List (Nat×Operand)) (cs:List AC),(∀p∈l,St.ev ⟨t1,H⟩ p.2=St.ev ⟨t2,H⟩ p.2)->Mb T ⟨t1,H⟩ t l cs=Mb T ⟨t2,H⟩ t l cs
 | [],_,_=>rfl
 |(j,x)::r,cs,h=>by
  have h1:=h (j,x) (by simp)
  dsimp only at h1
  simp only [Mb]
  rw [h1]
  have ih: ∀gh,Mb T ⟨t1,H⟩ t r gh=Mb T ⟨t2,H⟩ t r gh:= λgh=>eO t r gh λp hp=>h p (An _ hp)
  simp only [ih]
theorem FP {t1 t2:List AV} {H:List (Nat×OB)} {o:Oper} (hs: ∀t,t∈o.looksAt ops->t1.getD t .undef=t2.getD t .undef):Wc T Γ ⟨t1,H⟩ o=Wc T Γ ⟨t2,H⟩ o:=by
 have he:= λx hx=>KE (H:=H) hs x hx
 have hq:=FQ (T:=T) (Γ:=Γ) (H:=H) hs
 obtain ⟨dst,op,ty,pos,af,gd⟩:=o
 dsimp only at he
 unfold Wc
 cases op with
 |buildSlice t len parts=>
  dsimp only
  have hp: ∀p∈parts.toList,St.ev ⟨t1,H⟩ p.2=St.ev ⟨t2,H⟩ p.2:= λp hp=>he p.2 (by simp only [Op.operands,Be];exact ⟨p,hp,rfl⟩)
  unfold aJ
  simp only [oF _ _ _ hp]
 |build t parts=>
  dsimp only
  have hp: ∀p∈parts.toList,St.ev ⟨t1,H⟩ p.2=St.ev ⟨t2,H⟩ p.2:= λp hp=>he p.2 (by simp only [Op.operands,Be];exact ⟨p,hp,rfl⟩)
  unfold Wq
  simp only [eO _ _ _ hp]
 |_=>exact hq
theorem wa {t1 t2:List AV} {H:List (Nat×OB)} {o:Oper} (hs: ∀t,t∈o.looksAt ops->t1.getD t .undef=t2.getD t .undef):Vz T Γ ops ⟨t1,H⟩ o=Vz T Γ ops ⟨t2,H⟩ o:=by
 unfold Vz
 rw [FP hs]
 split
 ·rfl
 ·rename_i j want hg
  rw [zt ((ops[j]?).bind (·.dst)) (λd hd=>hs d (by
   unfold Oper.looksAt
   rw [hg]
   exact Az.2 (.inr (by simp [hd]))))]
theorem DS {st:St} {o:Oper} {dst:Option Tmp} {v:AV} (h: ∀d,dst=some d->d∉o.looksAt ops):Vz T Γ ops (st.put dst v) o=Vz T Γ ops st o:=by
 cases dst with
 |none=>rfl
 |some d=>
  obtain ⟨ts,H⟩:=st
  refine wa λt ht=>?_
  show (Rx ts d v).getD t .undef=ts.getD t .undef
  rw [Qh,Ai]
  rintro ⟨rfl,_⟩
  exact h d rfl ht
theorem St.put_comm (st:St) {x y:Option Tmp} (v u:AV) (h: ∀d,x=some d->y≠some d):(st.put x v).put y u=(st.put y u).put x v:=by
 cases x with
 |none=>cases y<;>rfl
 |some a=>
  cases y with
  |none=>rfl
  |some b=>
   have Hq:a≠b:= λe=>h a rfl (by rw [e])
   simp only [St.put,St.mk.injEq,ah]
   rw [Um,Um,Um,Um]
   exact List.set_comm _ _ Hq
theorem dE {st:St} {a:Act} (h:Bg X π st a w) (j:Nat):
  (∀b,Wk st ((ops[j]?).bind (·.dst))=some (some b)->yielded ops a.tmps j=some b)/\(Wk st ((ops[j]?).bind (·.dst))=some none->yielded ops a.tmps j=none):=by
 unfold yielded
 cases hd:(ops[j]?).bind (·.dst) with
 |none=>constructor<;>simp [Wk]
 |some d=>
  simp only [Wk,Ez]
  have hr:=h.2.tmps d
  constructor
  ·intro b hb
   split at hb
   ·rename_i fr b' hg
    simp only [Aa] at hb;subst hb
    rw [hg] at hr
    have:=Yt hr
    cases ht:a.tmps[d]? with
    |none=>
     rw [bo,ht] at this
     cases this
    |some v=>
     rw [bo,ht] at this
     simp only [Cw] at this
     rw [this]
   ·cases hb
   ·cases hb
  ·intro hb
   split at hb
   ·cases hb
   ·rename_i hg
    rw [hg] at hr
    have hv:a.tmps.getD d undef=undef:=hr
    cases ht:a.tmps[d]? with
    |none=>rfl
    |some v=>
     rw [bo,ht] at hv
     simp only [Cw] at hv
     rw [hv];rfl
   ·cases hb
theorem oX {Q:Exit->Act->World->Prop} {K:Act->World->Prop} {st':St} {a:Act} {o:Oper} {av:AV} (h:fL P X st' a w av ((execOp a.eval o).run P w))
  (hK: ∀a' w',Rel X (st'.put o.dst av) a' w'->K a' w'):o.wp P a w K Q:=by
 unfold Oper.wp
 generalize (execOp a.eval o).run P w=r at*
 cases r with
 |halt x w'=>exact h.elim
 |ok n w'=>
  cases n<;>simp only [fL] at h<;>simp only [Oper.upon]
  ·obtain ⟨π',h1,h2⟩:=h
   exact hK _ _ ⟨π',h1.put o.dst h2⟩
  ·obtain ⟨π',h1,h2⟩:=h
   exact hK _ _ ⟨π',h1.put o.dst h2⟩
  ·obtain ⟨rfl,hc⟩:=h
   refine hc.mono ?_
   rintro e oW ⟨v,rfl,π',h1,h2⟩
   exact hK _ _ ⟨π',h1.put o.dst h2⟩
theorem CT {st:St} :Bn X w π st.heap (.at .skip) undef:=rfl
theorem Uy (hT:Dn P T) (Oh:Ki P Γ) {Q:Exit->Act->World->Prop} {K:Act->World->Prop} {st st':St} {a:Act} (h:Bg X π st a w) (o:Oper) (he:Er T Γ ops st o=some st')
  (hK: ∀a' w',Rel X st' a' w'->K a' w'):if Region.wanted o (yielded ops a.tmps) then o.wp P a w K Q\/(o.asks P a w/\LetsOut Q) else K (a.put o.dst undef) w:=by
 have run:(evalOp T Γ st o).map (λr=>r.2.put o.dst r.1)=some st'->o.wp P a w K Q:=by
  intro he
  cases hr:evalOp T Γ st o with
  |none=>rw [hr] at he;cases he
  |some r=>
   rw [hr] at he
   simp only [Ak,Aa] at he;subst he
   exact oX (wN hT Oh h o r.1 r.2 hr) hK
 have skip:some (st.put o.dst (.at .skip))=some st'->K (a.put o.dst undef) w:=by
  intro he
  simp only [Aa] at he;subst he
  exact hK _ _ ⟨π,h.put o.dst CT⟩
 unfold Er at he
 split at he
 ·rename_i hg
  rw [Ac (by simp [Region.wanted,hg])]
  exact .inl (run he)
 ·rename_i j want hg
  split at he
  ·rename_i b hb
   have hy:=(dE h j).1 b hb
   split at he
   ·rename_i FW
    rw [Ac (by simp only [Region.wanted,hg,hy];simpa using FW)]
    exact .inl (run he)
   ·rename_i FW
    rw [Ai (by simp only [Region.wanted,hg,hy];simpa using FW)]
    exact skip he
  ·rename_i hb
   have hy:=(dE h j).2 hb
   rw [Ai (by simp [Region.wanted,hg,hy])]
   exact skip he
  ·cases he
theorem jq (hT:Dn P T) (Oh:Ki P Γ) {Q:Exit->Act->World->Prop} : ∀(l:List Oper) (st st':St) (a:Act) (w:World),Rel X st a w->Zx T Γ ops l st=some st'->
  (∀a' w',Rel X st' a' w'->Q .normal a' w')->wpList P ops Q l a w
 | [],st,st',a,w,h,he,hQ=>by
  simp only [Zx,Aa] at he;subst he
  exact hQ _ _ h
 |o::r,st,st',a,w,⟨π,h⟩,he,hQ=>by
  simp only [Zx] at he
  split at he
  ·rename_i st1 h1
   exact Uy hT Oh h o h1 λa' w' h'=>jq hT Oh r st1 st' a' w' h' he hQ
  ·cases he
theorem jl (hT:Dn P T) (Oh:Ki P Γ) {Q:Exit->Act->World->Prop} : ∀(l:List Nat) (st st':St) (a:Act) (w:World),Rel X st a w->Mk T Γ ops l st=some st'->
  (∀a' w',Rel X st' a' w'->Q .normal a' w')->wpOps P ops Q l a w
 | [],st,st',a,w,h,he,hQ=>by
  simp only [Mk,Aa] at he;subst he
  exact hQ _ _ h
 |i::r,st,st',a,w,⟨π,h⟩,he,hQ=>by
  simp only [Mk] at he
  split at he
  ·cases he
  ·rename_i o ho
   split at he
   ·rename_i st1 h1
    simp only [wpOps,ho]
    exact Uy hT Oh h o h1 λa' w' h'=>jl hT Oh r st1 st' a' w' h' he hQ
   ·cases he
end
end Go.Proofs.Ytkkdpknjohcekaa
