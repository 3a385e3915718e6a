/-
  Part 24 of the proof that the statement FnExactIterationNodes holds.
-/
import Derived.Test.YtfolipnappekaaaGreatCIterationNodes22
import Derived.LoopN
namespace Go.Proofs.YtfolipnappekaaaGreat
open Go.RowKit
section
variable {P:Program} {T:Tab} {Γ:Env} {X:Ctx} {w w':World} {π:Pi} {H:List (Nat×OB)} {ops:Array Oper}
theorem rR (t1 t2:List AV) (H:List (Nat×OB)) (τ:Ty) (c:AC):Du ⟨t1,H⟩ τ c=Du ⟨t2,H⟩ τ c:=by
 cases c<;>cases τ<;>rfl
theorem jS (t1 t2:List AV) (H:List (Nat×OB)): ∀(τ:Ty) (cs:List AC),Ew ⟨t1,H⟩ τ cs=Ew ⟨t2,H⟩ τ cs:=by
 have one: ∀(τ:Ty) (cs:List AC),τ.Aq=false->Ew ⟨t1,H⟩ τ cs=Ew ⟨t2,H⟩ τ cs:=by
  intro τ cs h
  rw [Uc h,Uc h]
  rcases cs with _|⟨c,_|⟨d,r⟩⟩
  ·rfl
  ·exact rR t1 t2 H τ c
  ·rfl
 intro τ
 induction τ with
 |unit=>intro cs;cases cs<;>rfl
 |pair a r hZ gW=>intro cs;simp only [Ew];rw [hZ,gW]
 |_=>exact λcs=>one _ cs rfl
theorem oU (t1 t2:List AV) (H:List (Nat×OB)) (τ:Ty) (l i:Nat):Uo ⟨t1,H⟩ τ l i=Uo ⟨t2,H⟩ τ l i:=by
 unfold Uo
 simp only [St.at]
 split
 ·exact jS t1 t2 H _ _
 ·rfl
theorem xP (t1 t2:List AV) (H:List (Nat×OB)): ∀(τ:Ty) (cs:List (Nat×Nat)),Kv ⟨t1,H⟩ τ cs=Kv ⟨t2,H⟩ τ cs:=by
 intro τ
 induction τ with
 |unit=>intro cs;cases cs<;>rfl
 |pair a r _ gW=>
  intro cs
  cases a with
  |ptr a=>
   cases cs with
   |nil=>rfl
   |cons c cs=>simp only [Kv];rw [oU t1 t2 H,gW]
  |_=>cases cs<;>rfl
 |_=>intro cs;cases cs<;>rfl
theorem DP (t1 t2:List AV) (H:List (Nat×OB)) (τ:Ty) (c:AC):Js ⟨t1,H⟩ τ c=Js ⟨t2,H⟩ τ c:=by
 cases τ<;>cases c<;>simp only [Js]<;>first|rfl|exact rR t1 t2 H _ _|(rw [oU t1 t2 H])|(split;exact xP t1 t2 H _ _;rfl)
theorem dp (t1 t2:List AV) (H:List (Nat×OB)) (τ:Ty) (c:AV):Fq ⟨t1,H⟩ τ c=Fq ⟨t2,H⟩ τ c:=by
 cases c with
 | «at»a=>cases a<;>simp only [Fq]<;>first|rfl|rw [DP t1 t2 H]
 |agg cs=>simp only [Fq];rw [jS t1 t2 H]
 |bL fr Oh x=>rfl
 |Ms l=>rfl
theorem lR (t1 t2:List AV) (H:List (Nat×OB)): ∀(τ:Ty) (cs:List AV),Dx ⟨t1,H⟩ τ cs=Dx ⟨t2,H⟩ τ cs:=by
 intro τ
 induction τ with
 |pair a r hZ gW=>
  intro cs
  cases cs with
  |nil=>rfl
  |cons c cs=>simp only [Dx];rw [dp t1 t2 H,gW]
 |_=>intro cs;cases cs<;>rfl
theorem VJ (t1 t2:List AV) (H:List (Nat×OB)) (c:AV):HD ⟨t1,H⟩ c=HD ⟨t2,H⟩ c:=by
 cases c with
 | «at»a=>cases a<;>rfl
 |_=>rfl
theorem Abb {o:Oper} {t:Tmp} (h:Operand.tmp t∈o.op.operands.toList):t∈o.looksAt ops:=by
 unfold Oper.looksAt
 refine Bb.2 (.inl (List.mem_filterMap.2 ⟨_,h,rfl⟩))
theorem RY {t1 t2:List AV} {H:List (Nat×OB)} {o:Oper} (hs: ∀t,t∈o.looksAt ops->t1.getD t .undef=t2.getD t .undef) (x:Operand) (hx:x∈o.op.operands.toList):
  St.ev ⟨t1,H⟩ x=St.ev ⟨t2,H⟩ x:=by
 cases x with
 |tmp t=>exact hs t (Abb hx)
 |const v=>rfl
 |global g=>rfl
 |func f=>rfl
theorem MR {t1 t2:List AV} {H:List (Nat×OB)} {o:Oper} (hs: ∀t,t∈o.looksAt ops->t1.getD t .undef=t2.getD t .undef):Fa T Γ ⟨t1,H⟩ o=Fa T Γ ⟨t2,H⟩ o:=by
 have he:= λx hx=>RY (H:=H) hs x hx
 obtain ⟨dst,op,ty,pos,af,gd⟩:=o
 dsimp only at he
 cases op with
 |move x=>simp only [Fa];rw [he x (by simp [Op.operands])]
 |assign x=>simp only [Fa];rw [he x (by simp [Op.operands])]
 |pick c x y=>simp only [Fa];rw [he c (by simp [Op.operands]),he x (by simp [Op.operands]),he y (by simp [Op.operands])]
 |load t x=>simp only [Fa];rw [he x (by simp [Op.operands])];rfl
 |nilCheck x=>simp only [Fa];rw [he x (by simp [Op.operands])]
 |binOp op t x y t'=>simp only [Fa];rw [he x (by simp [Op.operands]),he y (by simp [Op.operands])]
 |unOp op t x=>simp only [Fa];rw [he x (by simp [Op.operands])]
 |convert s t x=>simp only [Fa];rw [he x (by simp [Op.operands])];simp only [dp t1 t2 H]
 |makeFunc fn first Ee=>
  cases fn with
  |func f=>
   simp only [Fa]
   have ha:Ee.toList.map (St.ev ⟨t1,H⟩)=Ee.toList.map (St.ev ⟨t2,H⟩):=El λx hx=>he x (by
    simp only [Op.operands,Array.toList_append,Bb]
    exact .inr hx)
   have hb:first.toList.map (St.ev ⟨t1,H⟩)=first.toList.map (St.ev ⟨t2,H⟩):=El λx hx=>he x (by
    simp only [Op.operands,Array.toList_append,Bb]
    exact .inl hx)
   rw [ha,hb]
  |_=>rfl
 |lookup t m k ok=>simp only [Fa];rw [he m (by simp [Op.operands]),he k (by simp [Op.operands])];unfold fe;simp only [dp t1 t2 H]
 |slice t x lo hi mx=>
  simp only [Fa]
  rw [he x (by simp [Op.operands])]
  have h1:lo.map (St.ev ⟨t1,H⟩)=lo.map (St.ev ⟨t2,H⟩):=by
   cases lo with
   |none=>rfl
   |some y=>simp only [Am];rw [he y (by simp [Op.operands])]
  have h2:hi.map (St.ev ⟨t1,H⟩)=hi.map (St.ev ⟨t2,H⟩):=by
   cases hi with
   |none=>rfl
   |some y=>simp only [Am];rw [he y (by simp [Op.operands])]
  rw [h1,h2];rfl
 |fieldAddr s x f=>simp only [Fa];rw [he x (by simp [Op.operands])]
 |field s x f=>simp only [Fa];rw [he x (by simp [Op.operands])]
 |indexAddr t x i=>simp only [Fa];rw [he x (by simp [Op.operands]),he i (by simp [Op.operands])];rfl
 |index t x i=>simp only [Fa];rw [he x (by simp [Op.operands]),he i (by simp [Op.operands])]
 |extract x i=>simp only [Fa];rw [he x (by simp [Op.operands])]
 |call c=>
  obtain ⟨callee,args,ts⟩:=c
  have ha:args.toList.map (St.ev ⟨t1,H⟩)=args.toList.map (St.ev ⟨t2,H⟩):=El λx hx=>he x (by
   simp only [Op.operands,Call.operands,Array.toList_append,Bb]
   exact .inr hx)
  cases callee with
  |value f=>
   cases f with
   |func f=>
    simp only [Fa]
    rw [ha]
    unfold Ow
    simp only [lR t1 t2 H]
   |tmp t=>
    simp only [Fa]
    have:=he (.tmp t) (by simp [Op.operands,Call.operands])
    simp only [St.ev] at this
    rw [ha,this]
    unfold Ya Ow
    simp only [lR t1 t2 H]
   |_=>rfl
  |invoke r m=>rfl
  |builtin b=>
   cases b with
   |len=>
    simp only [Fa]
    split
    ·rename_i x t hx ht
     rw [he x (by
      simp only [Op.operands,Call.operands,Array.toList_append,Bb]
      exact .inr (by rw [hx];simp))]
     simp only [VJ t1 t2 H]
    ·rfl
   |min=>simp only [Fa];rw [ha]
   |max=>simp only [Fa];rw [ha]
   |_=>rfl
 |_=>rfl
theorem FC {t1 t2:List AV} {H:List (Nat×OB)} (t:Option Tmp) (hs: ∀d,t=some d->t1.getD d .undef=t2.getD d .undef):Xs ⟨t1,H⟩ t=Xs ⟨t2,H⟩ t:=by
 cases t with
 |none=>rfl
 |some d=>simp only [Xs,St.get];rw [hs d rfl]
theorem rm {t1 t2:List AV} {H:List (Nat×OB)} (e:Ty): ∀(l:List (Nat×Operand)) (i:Nat),(∀p∈l,St.ev ⟨t1,H⟩ p.2=St.ev ⟨t2,H⟩ p.2)->fE e i l ⟨t1,H⟩=fE e i l ⟨t2,H⟩
 | [],_,_=>rfl
 |(j,x)::r,i,h=>by
  have h1:=h (j,x) (by simp)
  dsimp only at h1
  simp only [fE]
  rw [h1,dp t1 t2 H,rm e r (i+1) λp hp=>h p (At _ hp)]
theorem gp {t1 t2:List AV} {H:List (Nat×OB)} (t:TypeId): ∀(l:List (Nat×Operand)) (cs:List AC),(∀p∈l,St.ev ⟨t1,H⟩ p.2=St.ev ⟨t2,H⟩ p.2)->Mh T ⟨t1,H⟩ t l cs=Mh T ⟨t2,H⟩ t l cs
 | [],_,_=>rfl
 |(j,x)::r,cs,h=>by
  have h1:=h (j,x) (by simp)
  dsimp only at h1
  simp only [Mh]
  rw [h1]
  have ih: ∀iD,Mh T ⟨t1,H⟩ t r iD=Mh T ⟨t2,H⟩ t r iD:= λiD=>gp t r iD λp hp=>h p (At _ hp)
  simp only [ih]
theorem MQ {t1 t2:List AV} {H:List (Nat×OB)} {o:Oper} (hs: ∀t,t∈o.looksAt ops->t1.getD t .undef=t2.getD t .undef):Xl T Γ ⟨t1,H⟩ o=Xl T Γ ⟨t2,H⟩ o:=by
 have he:= λx hx=>RY (H:=H) hs x hx
 have hq:=MR (T:=T) (Γ:=Γ) (H:=H) hs
 obtain ⟨dst,op,ty,pos,af,gd⟩:=o
 dsimp only at he
 unfold Xl
 cases op with
 |buildSlice t len parts=>
  dsimp only
  have hp: ∀p∈parts.toList,St.ev ⟨t1,H⟩ p.2=St.ev ⟨t2,H⟩ p.2:= λp hp=>he p.2 (by simp only [Op.operands,Bj];exact ⟨p,hp,rfl⟩)
  unfold bU
  simp only [rm _ _ _ hp]
 |build t parts=>
  dsimp only
  have hp: ∀p∈parts.toList,St.ev ⟨t1,H⟩ p.2=St.ev ⟨t2,H⟩ p.2:= λp hp=>he p.2 (by simp only [Op.operands,Bj];exact ⟨p,hp,rfl⟩)
  unfold Xy
  simp only [gp _ _ _ hp]
 |_=>exact hq
theorem zr {t1 t2:List AV} {H:List (Nat×OB)} {o:Oper} (hs: ∀t,t∈o.looksAt ops->t1.getD t .undef=t2.getD t .undef):Xi T Γ ops ⟨t1,H⟩ o=Xi T Γ ops ⟨t2,H⟩ o:=by
 unfold Xi
 rw [MQ hs]
 split
 ·rfl
 ·rename_i j want hg
  rw [FC ((ops[j]?).bind (·.dst)) (λd hd=>hs d (by
   unfold Oper.looksAt
   rw [hg]
   exact Bb.2 (.inr (by simp [hd]))))]
theorem KG {st:St} {o:Oper} {dst:Option Tmp} {v:AV} (h: ∀d,dst=some d->d∉o.looksAt ops):Xi T Γ ops (st.put dst v) o=Xi T Γ ops st o:=by
 cases dst with
 |none=>rfl
 |some d=>
  obtain ⟨ts,H⟩:=st
  refine zr λt ht=>?_
  show (Su ts d v).getD t .undef=ts.getD t .undef
  rw [Qs,Ag]
  rintro ⟨rfl,_⟩
  exact h d rfl ht
theorem St.put_comm (st:St) {x y:Option Tmp} (v u:AV) (h: ∀d,x=some d->y≠some d):(st.put x v).put y u=(st.put y u).put x v:=by
 cases x with
 |none=>cases y<;>rfl
 |some a=>
  cases y with
  |none=>rfl
  |some b=>
   have Ik:a≠b:= λe=>h a rfl (by rw [e])
   simp only [St.put,St.mk.injEq,Ol]
   rw [Vr,Vr,Vr,Vr]
   exact List.set_comm _ _ Ik
theorem eY {st:St} {a:Act} (h:Bl X π st a w) (j:Nat):
  (∀b,Xs st ((ops[j]?).bind (·.dst))=some (some b)->yielded ops a.tmps j=some b)/\(Xs st ((ops[j]?).bind (·.dst))=some none->yielded ops a.tmps j=none):=by
 unfold yielded
 cases hd:(ops[j]?).bind (·.dst) with
 |none=>constructor<;>simp [Xs]
 |some d=>
  simp only [Xs,Fh]
  have hr:=h.2.tmps d
  constructor
  ·intro b hb
   split at hb
   ·rename_i fr b' hg
    simp only [Aa] at hb;subst hb
    rw [hg] at hr
    have:=al hr
    cases ht:a.tmps[d]? with
    |none=>
     rw [cB,ht] at this
     cases this
    |some v=>
     rw [cB,ht] at this
     simp only [Bz] at this
     rw [this]
   ·cases hb
   ·cases hb
  ·intro hb
   split at hb
   ·cases hb
   ·rename_i hg
    rw [hg] at hr
    have hv:a.tmps.getD d undef=undef:=hr
    cases ht:a.tmps[d]? with
    |none=>rfl
    |some v=>
     rw [cB,ht] at hv
     simp only [Bz] at hv
     rw [hv];rfl
   ·cases hb
theorem rT {Q:Exit->Act->World->Prop} {K:Act->World->Prop} {st':St} {a:Act} {o:Oper} {av:AV} (h:ie P X st' a w av ((execOp a.eval o).run P w))
  (hK: ∀a' w',Rel X (st'.put o.dst av) a' w'->K a' w'):o.wp P a w K Q:=by
 unfold Oper.wp
 generalize (execOp a.eval o).run P w=r at*
 cases r with
 |halt x w'=>exact h.elim
 |ok n w'=>
  cases n<;>simp only [ie] at h<;>simp only [Oper.upon]
  ·obtain ⟨π',h1,h2⟩:=h
   exact hK _ _ ⟨π',h1.put o.dst h2⟩
  ·obtain ⟨π',h1,h2⟩:=h
   exact hK _ _ ⟨π',h1.put o.dst h2⟩
  ·obtain ⟨rfl,hc⟩:=h
   refine hc.mono ?_
   rintro e rS ⟨v,rfl,π',h1,h2⟩
   exact hK _ _ ⟨π',h1.put o.dst h2⟩
theorem JH {st:St} :Bp X w π st.heap (.at .skip) undef:=rfl
theorem Wc (hT:Eb P T) (Pl:Kj P Γ) {Q:Exit->Act->World->Prop} {K:Act->World->Prop} {st st':St} {a:Act} (h:Bl X π st a w) (o:Oper) (he:Er T Γ ops st o=some st')
  (hK: ∀a' w',Rel X st' a' w'->K a' w'):if Region.wanted o (yielded ops a.tmps) then o.wp P a w K Q\/(o.asks P a w/\LetsOut Q) else K (a.put o.dst undef) w:=by
 have run:(evalOp T Γ st o).map (λr=>r.2.put o.dst r.1)=some st'->o.wp P a w K Q:=by
  intro he
  cases hr:evalOp T Γ st o with
  |none=>rw [hr] at he;cases he
  |some r=>
   rw [hr] at he
   simp only [Am,Aa] at he;subst he
   exact rT (zT hT Pl h o r.1 r.2 hr) hK
 have skip:some (st.put o.dst (.at .skip))=some st'->K (a.put o.dst undef) w:=by
  intro he
  simp only [Aa] at he;subst he
  exact hK _ _ ⟨π,h.put o.dst JH⟩
 unfold Er at he
 split at he
 ·rename_i hg
  rw [Ab (by simp [Region.wanted,hg])]
  exact .inl (run he)
 ·rename_i j want hg
  split at he
  ·rename_i b hb
   have hy:=(eY h j).1 b hb
   split at he
   ·rename_i hbw
    rw [Ab (by simp only [Region.wanted,hg,hy];simpa using hbw)]
    exact .inl (run he)
   ·rename_i hbw
    rw [Ag (by simp only [Region.wanted,hg,hy];simpa using hbw)]
    exact skip he
  ·rename_i hb
   have hy:=(eY h j).2 hb
   rw [Ag (by simp [Region.wanted,hg,hy])]
   exact skip he
  ·cases he
theorem lg (hT:Eb P T) (Pl:Kj P Γ) {Q:Exit->Act->World->Prop} : ∀(l:List Oper) (st st':St) (a:Act) (w:World),Rel X st a w->aY T Γ ops l st=some st'->
  (∀a' w',Rel X st' a' w'->Q .normal a' w')->wpList P ops Q l a w
 | [],st,st',a,w,h,he,hQ=>by
  simp only [aY,Aa] at he;subst he
  exact hQ _ _ h
 |o::r,st,st',a,w,⟨π,h⟩,he,hQ=>by
  simp only [aY] at he
  split at he
  ·rename_i st1 h1
   exact Wc hT Pl h o h1 λa' w' h'=>lg hT Pl r st1 st' a' w' h' he hQ
  ·cases he
theorem l9 (hT:Eb P T) (Pl:Kj P Γ) {Q:Exit->Act->World->Prop} : ∀(l:List Nat) (st st':St) (a:Act) (w:World),Rel X st a w->Mv T Γ ops l st=some st'->
  (∀a' w',Rel X st' a' w'->Q .normal a' w')->wpOps P ops Q l a w
 | [],st,st',a,w,h,he,hQ=>by
  simp only [Mv,Aa] at he;subst he
  exact hQ _ _ h
 |i::r,st,st',a,w,⟨π,h⟩,he,hQ=>by
  simp only [Mv] at he
  split at he
  ·cases he
  ·rename_i o ho
   split at he
   ·rename_i st1 h1
    simp only [wpOps,ho]
    exact Wc hT Pl h o h1 λa' w' h'=>l9 hT Pl r st1 st' a' w' h' he hQ
   ·cases he
end
end Go.Proofs.YtfolipnappekaaaGreat
