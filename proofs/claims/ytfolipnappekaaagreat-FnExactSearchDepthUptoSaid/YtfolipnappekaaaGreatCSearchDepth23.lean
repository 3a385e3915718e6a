/-
  Part 24 of the proof that the statement FnExactSearchDepth holds.
-/
import Derived.Test.YtfolipnappekaaaGreatCSearchDepth22
import Derived.LoopN
namespace Go.Proofs.YtfolipnappekaaaGreat
open Go.RowKit
section
variable {P:Program} {T:Tab} {Γ:Env} {X:Ctx} {w w':World} {π:Pi} {H:List (Nat×OB)} {ops:Array Oper}
theorem rv (t1 t2:List AV) (H:List (Nat×OB)) (τ:Ty) (c:AC):Dt ⟨t1,H⟩ τ c=Dt ⟨t2,H⟩ τ c:=by
 cases c<;>cases τ<;>rfl
theorem jF (t1 t2:List AV) (H:List (Nat×OB)): ∀(τ:Ty) (cs:List AC),Fp ⟨t1,H⟩ τ cs=Fp ⟨t2,H⟩ τ cs:=by
 have one: ∀(τ:Ty) (cs:List AC),τ.Aq=false->Fp ⟨t1,H⟩ τ cs=Fp ⟨t2,H⟩ τ cs:=by
  intro τ cs h
  rw [Ua h,Ua h]
  rcases cs with _|⟨c,_|⟨d,r⟩⟩
  ·rfl
  ·exact rv t1 t2 H τ c
  ·rfl
 intro τ
 induction τ with
 |unit=>intro cs;cases cs<;>rfl
 |pair a r mI jX=>intro cs;simp only [Fp];rw [mI,jX]
 |_=>exact λcs=>one _ cs rfl
theorem oK (t1 t2:List AV) (H:List (Nat×OB)) (τ:Ty) (l i:Nat):Ul ⟨t1,H⟩ τ l i=Ul ⟨t2,H⟩ τ l i:=by
 unfold Ul
 simp only [St.at]
 split
 ·exact jF t1 t2 H _ _
 ·rfl
theorem xo (t1 t2:List AV) (H:List (Nat×OB)): ∀(τ:Ty) (cs:List (Nat×Nat)),Ku ⟨t1,H⟩ τ cs=Ku ⟨t2,H⟩ τ cs:=by
 intro τ
 induction τ with
 |unit=>intro cs;cases cs<;>rfl
 |pair a r _ jX=>
  intro cs
  cases a with
  |ptr a=>
   cases cs with
   |nil=>rfl
   |cons c cs=>simp only [Ku];rw [oK t1 t2 H,jX]
  |_=>cases cs<;>rfl
 |_=>intro cs;cases cs<;>rfl
theorem CS (t1 t2:List AV) (H:List (Nat×OB)) (τ:Ty) (c:AC):Js ⟨t1,H⟩ τ c=Js ⟨t2,H⟩ τ c:=by
 cases τ<;>cases c<;>simp only [Js]<;>first|rfl|exact rv t1 t2 H _ _|(rw [oK t1 t2 H])|(split;exact xo t1 t2 H _ _;rfl)
theorem dd (t1 t2:List AV) (H:List (Nat×OB)) (τ:Ty) (c:AV):Fu ⟨t1,H⟩ τ c=Fu ⟨t2,H⟩ τ c:=by
 cases c with
 | «at»a=>cases a<;>simp only [Fu]<;>first|rfl|rw [CS t1 t2 H]
 |agg cs=>simp only [Fu];rw [jF t1 t2 H]
 |bz fr Oe x=>rfl
 |Mq l=>rfl
theorem lD (t1 t2:List AV) (H:List (Nat×OB)): ∀(τ:Ty) (cs:List AV),Dw ⟨t1,H⟩ τ cs=Dw ⟨t2,H⟩ τ cs:=by
 intro τ
 induction τ with
 |pair a r mI jX=>
  intro cs
  cases cs with
  |nil=>rfl
  |cons c cs=>simp only [Dw];rw [dd t1 t2 H,jX]
 |_=>intro cs;cases cs<;>rfl
theorem UJ (t1 t2:List AV) (H:List (Nat×OB)) (c:AV):GF ⟨t1,H⟩ c=GF ⟨t2,H⟩ c:=by
 cases c with
 | «at»a=>cases a<;>rfl
 |_=>rfl
theorem Aai {o:Oper} {t:Tmp} (h:Operand.tmp t∈o.op.operands.toList):t∈o.looksAt ops:=by
 unfold Oper.looksAt
 refine Bb.2 (.inl (List.mem_filterMap.2 ⟨_,h,rfl⟩))
theorem QZ {t1 t2:List AV} {H:List (Nat×OB)} {o:Oper} (hs: ∀t,t∈o.looksAt ops->t1.getD t .undef=t2.getD t .undef) (x:Operand) (hx:x∈o.op.operands.toList):
  St.ev ⟨t1,H⟩ x=St.ev ⟨t2,H⟩ x:=by
 cases x with
 |tmp t=>exact hs t (Aai hx)
 |const v=>rfl
 |global g=>rfl
 |func f=>rfl
theorem LX {t1 t2:List AV} {H:List (Nat×OB)} {o:Oper} (hs: ∀t,t∈o.looksAt ops->t1.getD t .undef=t2.getD t .undef):Ey T Γ ⟨t1,H⟩ o=Ey T Γ ⟨t2,H⟩ o:=by
 have he:= λx hx=>QZ (H:=H) hs x hx
 obtain ⟨dst,op,ty,pos,af,gd⟩:=o
 dsimp only at he
 cases op with
 |move x=>simp only [Ey];rw [he x (by simp [Op.operands])]
 |assign x=>simp only [Ey];rw [he x (by simp [Op.operands])]
 |pick c x y=>simp only [Ey];rw [he c (by simp [Op.operands]),he x (by simp [Op.operands]),he y (by simp [Op.operands])]
 |load t x=>simp only [Ey];rw [he x (by simp [Op.operands])];rfl
 |nilCheck x=>simp only [Ey];rw [he x (by simp [Op.operands])]
 |binOp op t x y t'=>simp only [Ey];rw [he x (by simp [Op.operands]),he y (by simp [Op.operands])]
 |unOp op t x=>simp only [Ey];rw [he x (by simp [Op.operands])]
 |convert s t x=>simp only [Ey];rw [he x (by simp [Op.operands])];simp only [dd t1 t2 H]
 |makeFunc fn first Ec=>
  cases fn with
  |func f=>
   simp only [Ey]
   have ha:Ec.toList.map (St.ev ⟨t1,H⟩)=Ec.toList.map (St.ev ⟨t2,H⟩):=Ek λx hx=>he x (by
    simp only [Op.operands,Array.toList_append,Bb]
    exact .inr hx)
   have hb:first.toList.map (St.ev ⟨t1,H⟩)=first.toList.map (St.ev ⟨t2,H⟩):=Ek λx hx=>he x (by
    simp only [Op.operands,Array.toList_append,Bb]
    exact .inl hx)
   rw [ha,hb]
  |_=>rfl
 |lookup t m k ok=>simp only [Ey];rw [he m (by simp [Op.operands]),he k (by simp [Op.operands])];unfold eS;simp only [dd t1 t2 H]
 |slice t x lo hi mx=>
  simp only [Ey]
  rw [he x (by simp [Op.operands])]
  have h1:lo.map (St.ev ⟨t1,H⟩)=lo.map (St.ev ⟨t2,H⟩):=by
   cases lo with
   |none=>rfl
   |some y=>simp only [Am];rw [he y (by simp [Op.operands])]
  have h2:hi.map (St.ev ⟨t1,H⟩)=hi.map (St.ev ⟨t2,H⟩):=by
   cases hi with
   |none=>rfl
   |some y=>simp only [Am];rw [he y (by simp [Op.operands])]
  rw [h1,h2];rfl
 |fieldAddr s x f=>simp only [Ey];rw [he x (by simp [Op.operands])]
 |field s x f=>simp only [Ey];rw [he x (by simp [Op.operands])]
 |indexAddr t x i=>simp only [Ey];rw [he x (by simp [Op.operands]),he i (by simp [Op.operands])];rfl
 |index t x i=>simp only [Ey];rw [he x (by simp [Op.operands]),he i (by simp [Op.operands])]
 |extract x i=>simp only [Ey];rw [he x (by simp [Op.operands])]
 |call c=>
  obtain ⟨callee,args,ts⟩:=c
  have ha:args.toList.map (St.ev ⟨t1,H⟩)=args.toList.map (St.ev ⟨t2,H⟩):=Ek λx hx=>he x (by
   simp only [Op.operands,Call.operands,Array.toList_append,Bb]
   exact .inr hx)
  cases callee with
  |value f=>
   cases f with
   |func f=>
    simp only [Ey]
    rw [ha]
    unfold Ot
    simp only [lD t1 t2 H]
   |tmp t=>
    simp only [Ey]
    have:=he (.tmp t) (by simp [Op.operands,Call.operands])
    simp only [St.ev] at this
    rw [ha,this]
    unfold Xu Ot
    simp only [lD t1 t2 H]
   |_=>rfl
  |invoke r m=>rfl
  |builtin b=>
   cases b with
   |len=>
    simp only [Ey]
    split
    ·rename_i x t hx ht
     rw [he x (by
      simp only [Op.operands,Call.operands,Array.toList_append,Bb]
      exact .inr (by rw [hx];simp))]
     simp only [UJ t1 t2 H]
    ·rfl
   |min=>simp only [Ey];rw [ha]
   |max=>simp only [Ey];rw [ha]
   |_=>rfl
 |_=>rfl
theorem EE {t1 t2:List AV} {H:List (Nat×OB)} (t:Option Tmp) (hs: ∀d,t=some d->t1.getD d .undef=t2.getD d .undef):Xn ⟨t1,H⟩ t=Xn ⟨t2,H⟩ t:=by
 cases t with
 |none=>rfl
 |some d=>simp only [Xn,St.get];rw [hs d rfl]
theorem qV {t1 t2:List AV} {H:List (Nat×OB)} (e:Ty): ∀(l:List (Nat×Operand)) (i:Nat),(∀p∈l,St.ev ⟨t1,H⟩ p.2=St.ev ⟨t2,H⟩ p.2)->fk e i l ⟨t1,H⟩=fk e i l ⟨t2,H⟩
 | [],_,_=>rfl
 |(j,x)::r,i,h=>by
  have h1:=h (j,x) (by simp)
  dsimp only at h1
  simp only [fk]
  rw [h1,dd t1 t2 H,qV e r (i+1) λp hp=>h p (As _ hp)]
theorem fX {t1 t2:List AV} {H:List (Nat×OB)} (t:TypeId): ∀(l:List (Nat×Operand)) (cs:List AC),(∀p∈l,St.ev ⟨t1,H⟩ p.2=St.ev ⟨t2,H⟩ p.2)->Mf T ⟨t1,H⟩ t l cs=Mf T ⟨t2,H⟩ t l cs
 | [],_,_=>rfl
 |(j,x)::r,cs,h=>by
  have h1:=h (j,x) (by simp)
  dsimp only at h1
  simp only [Mf]
  rw [h1]
  have ih: ∀ir,Mf T ⟨t1,H⟩ t r ir=Mf T ⟨t2,H⟩ t r ir:= λir=>fX t r ir λp hp=>h p (As _ hp)
  simp only [ih]
theorem LW {t1 t2:List AV} {H:List (Nat×OB)} {o:Oper} (hs: ∀t,t∈o.looksAt ops->t1.getD t .undef=t2.getD t .undef):Xg T Γ ⟨t1,H⟩ o=Xg T Γ ⟨t2,H⟩ o:=by
 have he:= λx hx=>QZ (H:=H) hs x hx
 have hq:=LX (T:=T) (Γ:=Γ) (H:=H) hs
 obtain ⟨dst,op,ty,pos,af,gd⟩:=o
 dsimp only at he
 unfold Xg
 cases op with
 |buildSlice t len parts=>
  dsimp only
  have hp: ∀p∈parts.toList,St.ev ⟨t1,H⟩ p.2=St.ev ⟨t2,H⟩ p.2:= λp hp=>he p.2 (by simp only [Op.operands,Bj];exact ⟨p,hp,rfl⟩)
  unfold bI
  simp only [qV _ _ _ hp]
 |build t parts=>
  dsimp only
  have hp: ∀p∈parts.toList,St.ev ⟨t1,H⟩ p.2=St.ev ⟨t2,H⟩ p.2:= λp hp=>he p.2 (by simp only [Op.operands,Bj];exact ⟨p,hp,rfl⟩)
  unfold Xs
  simp only [fX _ _ _ hp]
 |_=>exact hq
theorem yX {t1 t2:List AV} {H:List (Nat×OB)} {o:Oper} (hs: ∀t,t∈o.looksAt ops->t1.getD t .undef=t2.getD t .undef):Xd T Γ ops ⟨t1,H⟩ o=Xd T Γ ops ⟨t2,H⟩ o:=by
 unfold Xd
 rw [LW hs]
 split
 ·rfl
 ·rename_i j want hg
  rw [EE ((ops[j]?).bind (·.dst)) (λd hd=>hs d (by
   unfold Oper.looksAt
   rw [hg]
   exact Bb.2 (.inr (by simp [hd]))))]
theorem JL {st:St} {o:Oper} {dst:Option Tmp} {v:AV} (h: ∀d,dst=some d->d∉o.looksAt ops):Xd T Γ ops (st.put dst v) o=Xd T Γ ops st o:=by
 cases dst with
 |none=>rfl
 |some d=>
  obtain ⟨ts,H⟩:=st
  refine yX λt ht=>?_
  show (Sr ts d v).getD t .undef=ts.getD t .undef
  rw [Qo,Ag]
  rintro ⟨rfl,_⟩
  exact h d rfl ht
theorem St.put_comm (st:St) {x y:Option Tmp} (v u:AV) (h: ∀d,x=some d->y≠some d):(st.put x v).put y u=(st.put y u).put x v:=by
 cases x with
 |none=>cases y<;>rfl
 |some a=>
  cases y with
  |none=>rfl
  |some b=>
   have Ik:a≠b:= λe=>h a rfl (by rw [e])
   simp only [St.put,St.mk.injEq,Oi]
   rw [Vp,Vp,Vp,Vp]
   exact List.set_comm _ _ Ik
theorem eO {st:St} {a:Act} (h:Bl X π st a w) (j:Nat):
  (∀b,Xn st ((ops[j]?).bind (·.dst))=some (some b)->yielded ops a.tmps j=some b)/\(Xn st ((ops[j]?).bind (·.dst))=some none->yielded ops a.tmps j=none):=by
 unfold yielded
 cases hd:(ops[j]?).bind (·.dst) with
 |none=>constructor<;>simp [Xn]
 |some d=>
  simp only [Xn,Fh]
  have hr:=h.2.tmps d
  constructor
  ·intro b hb
   split at hb
   ·rename_i fr b' hg
    simp only [Aa] at hb;subst hb
    rw [hg] at hr
    have:=a5 hr
    cases ht:a.tmps[d]? with
    |none=>
     rw [cm,ht] at this
     cases this
    |some v=>
     rw [cm,ht] at this
     simp only [Bx] at this
     rw [this]
   ·cases hb
   ·cases hb
  ·intro hb
   split at hb
   ·cases hb
   ·rename_i hg
    rw [hg] at hr
    have hv:a.tmps.getD d undef=undef:=hr
    cases ht:a.tmps[d]? with
    |none=>rfl
    |some v=>
     rw [cm,ht] at hv
     simp only [Bx] at hv
     rw [hv];rfl
   ·cases hb
theorem rz {Q:Exit->Act->World->Prop} {K:Act->World->Prop} {st':St} {a:Act} {o:Oper} {av:AV} (h:gW P X st' a w av ((execOp a.eval o).run P w))
  (hK: ∀a' w',Rel X (st'.put o.dst av) a' w'->K a' w'):o.wp P a w K Q:=by
 unfold Oper.wp
 generalize (execOp a.eval o).run P w=r at*
 cases r with
 |halt x w'=>exact h.elim
 |ok n w'=>
  cases n<;>simp only [gW] at h<;>simp only [Oper.upon]
  ·obtain ⟨π',h1,h2⟩:=h
   exact hK _ _ ⟨π',h1.put o.dst h2⟩
  ·obtain ⟨π',h1,h2⟩:=h
   exact hK _ _ ⟨π',h1.put o.dst h2⟩
  ·obtain ⟨rfl,hc⟩:=h
   refine hc.mono ?_
   rintro e ry ⟨v,rfl,π',h1,h2⟩
   exact hK _ _ ⟨π',h1.put o.dst h2⟩
theorem II {st:St} :Bu X w π st.heap (.at .skip) undef:=rfl
theorem Vy (hT:Dz P T) (Pg:Ki P Γ) {Q:Exit->Act->World->Prop} {K:Act->World->Prop} {st st':St} {a:Act} (h:Bl X π st a w) (o:Oper) (he:Eo T Γ ops st o=some st')
  (hK: ∀a' w',Rel X st' a' w'->K a' w'):if Region.wanted o (yielded ops a.tmps) then o.wp P a w K Q\/(o.asks P a w/\LetsOut Q) else K (a.put o.dst undef) w:=by
 have run:(evalOp T Γ st o).map (λr=>r.2.put o.dst r.1)=some st'->o.wp P a w K Q:=by
  intro he
  cases hr:evalOp T Γ st o with
  |none=>rw [hr] at he;cases he
  |some r=>
   rw [hr] at he
   simp only [Am,Aa] at he;subst he
   exact rz (zu hT Pg h o r.1 r.2 hr) hK
 have skip:some (st.put o.dst (.at .skip))=some st'->K (a.put o.dst undef) w:=by
  intro he
  simp only [Aa] at he;subst he
  exact hK _ _ ⟨π,h.put o.dst II⟩
 unfold Eo at he
 split at he
 ·rename_i hg
  rw [Ab (by simp [Region.wanted,hg])]
  exact .inl (run he)
 ·rename_i j want hg
  split at he
  ·rename_i b hb
   have hy:=(eO h j).1 b hb
   split at he
   ·rename_i YY
    rw [Ab (by simp only [Region.wanted,hg,hy];simpa using YY)]
    exact .inl (run he)
   ·rename_i YY
    rw [Ag (by simp only [Region.wanted,hg,hy];simpa using YY)]
    exact skip he
  ·rename_i hb
   have hy:=(eO h j).2 hb
   rw [Ag (by simp [Region.wanted,hg,hy])]
   exact skip he
  ·cases he
theorem kX (hT:Dz P T) (Pg:Ki P Γ) {Q:Exit->Act->World->Prop} : ∀(l:List Oper) (st st':St) (a:Act) (w:World),Rel X st a w->aQ T Γ ops l st=some st'->
  (∀a' w',Rel X st' a' w'->Q .normal a' w')->wpList P ops Q l a w
 | [],st,st',a,w,h,he,hQ=>by
  simp only [aQ,Aa] at he;subst he
  exact hQ _ _ h
 |o::r,st,st',a,w,⟨π,h⟩,he,hQ=>by
  simp only [aQ] at he
  split at he
  ·rename_i st1 h1
   exact Vy hT Pg h o h1 λa' w' h'=>kX hT Pg r st1 st' a' w' h' he hQ
  ·cases he
theorem kT (hT:Dz P T) (Pg:Ki P Γ) {Q:Exit->Act->World->Prop} : ∀(l:List Nat) (st st':St) (a:Act) (w:World),Rel X st a w->Ms T Γ ops l st=some st'->
  (∀a' w',Rel X st' a' w'->Q .normal a' w')->wpOps P ops Q l a w
 | [],st,st',a,w,h,he,hQ=>by
  simp only [Ms,Aa] at he;subst he
  exact hQ _ _ h
 |i::r,st,st',a,w,⟨π,h⟩,he,hQ=>by
  simp only [Ms] at he
  split at he
  ·cases he
  ·rename_i o ho
   split at he
   ·rename_i st1 h1
    simp only [wpOps,ho]
    exact Vy hT Pg h o h1 λa' w' h'=>kT hT Pg r st1 st' a' w' h' he hQ
   ·cases he
end
end Go.Proofs.YtfolipnappekaaaGreat
