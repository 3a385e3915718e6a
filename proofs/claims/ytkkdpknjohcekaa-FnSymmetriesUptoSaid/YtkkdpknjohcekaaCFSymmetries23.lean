/-
  Part 24 of the proof that the statement FnSymmetries holds.
-/
import Derived.Test.YtkkdpknjohcekaaCFSymmetries22
import Derived.LoopN
namespace Go.Proofs.Ytkkdpknjohcekaa
open Go.RowKit
section
variable {P:Program} {T:Tab} {Γ:Env} {X:Ctx} {w w':World} {π:Pi} {H:List (Nat×OB)} {ops:Array Oper}
theorem o8 (t1 t2:List AV) (H:List (Nat×OB)) (τ:Ty) (c:AC):Dm ⟨t1,H⟩ τ c=Dm ⟨t2,H⟩ τ c:=by
 cases c<;>cases τ<;>rfl
theorem gM (t1 t2:List AV) (H:List (Nat×OB)): ∀(τ:Ty) (cs:List AC),Eo ⟨t1,H⟩ τ cs=Eo ⟨t2,H⟩ τ cs:=by
 have one: ∀(τ:Ty) (cs:List AC),τ.Ap=false->Eo ⟨t1,H⟩ τ cs=Eo ⟨t2,H⟩ τ cs:=by
  intro τ cs h
  rw [Sz h,Sz h]
  rcases cs with _|⟨c,_|⟨d,r⟩⟩
  ·rfl
  ·exact o8 t1 t2 H τ c
  ·rfl
 intro τ
 induction τ with
 |unit=>intro cs;cases cs<;>rfl
 |pair a r eZ eV=>intro cs;simp only [Eo];rw [eZ,eV]
 |_=>exact λcs=>one _ cs rfl
theorem m4 (t1 t2:List AV) (H:List (Nat×OB)) (τ:Ty) (l i:Nat):Tl ⟨t1,H⟩ τ l i=Tl ⟨t2,H⟩ τ l i:=by
 unfold Tl
 simp only [St.at]
 split
 ·exact gM t1 t2 H _ _
 ·rfl
theorem sO (t1 t2:List AV) (H:List (Nat×OB)): ∀(τ:Ty) (cs:List (Nat×Nat)),Kt ⟨t1,H⟩ τ cs=Kt ⟨t2,H⟩ τ cs:=by
 intro τ
 induction τ with
 |unit=>intro cs;cases cs<;>rfl
 |pair a r _ eV=>
  intro cs
  cases a with
  |ptr a=>
   cases cs with
   |nil=>rfl
   |cons c cs=>simp only [Kt];rw [m4 t1 t2 H,eV]
  |_=>cases cs<;>rfl
 |_=>intro cs;cases cs<;>rfl
theorem xn (t1 t2:List AV) (H:List (Nat×OB)) (τ:Ty) (c:AC):Jk ⟨t1,H⟩ τ c=Jk ⟨t2,H⟩ τ c:=by
 cases τ<;>cases c<;>simp only [Jk]<;>first|rfl|exact o8 t1 t2 H _ _|(rw [m4 t1 t2 H])|(split;exact sO t1 t2 H _ _;rfl)
theorem bI (t1 t2:List AV) (H:List (Nat×OB)) (τ:Ty) (c:AV):Ez ⟨t1,H⟩ τ c=Ez ⟨t2,H⟩ τ c:=by
 cases c with
 | «at»a=>cases a<;>simp only [Ez]<;>first|rfl|rw [xn t1 t2 H]
 |agg cs=>simp only [Ez];rw [gM t1 t2 H]
 |aa fr Nr x=>rfl
 |Mh l=>rfl
theorem jh (t1 t2:List AV) (H:List (Nat×OB)): ∀(τ:Ty) (cs:List AV),Dr ⟨t1,H⟩ τ cs=Dr ⟨t2,H⟩ τ cs:=by
 intro τ
 induction τ with
 |pair a r eZ eV=>
  intro cs
  cases cs with
  |nil=>rfl
  |cons c cs=>simp only [Dr];rw [bI t1 t2 H,eV]
 |_=>intro cs;cases cs<;>rfl
theorem JG (t1 t2:List AV) (H:List (Nat×OB)) (c:AV):yP ⟨t1,H⟩ c=yP ⟨t2,H⟩ c:=by
 cases c with
 | «at»a=>cases a<;>rfl
 |_=>rfl
theorem PT {o:Oper} {t:Tmp} (h:Operand.tmp t∈o.op.operands.toList):t∈o.looksAt ops:=by
 unfold Oper.looksAt
 refine Az.2 (.inl (List.mem_filterMap.2 ⟨_,h,rfl⟩))
theorem GD {t1 t2:List AV} {H:List (Nat×OB)} {o:Oper} (hs: ∀t,t∈o.looksAt ops->t1.getD t .undef=t2.getD t .undef) (x:Operand) (hx:x∈o.op.operands.toList):
  St.ev ⟨t1,H⟩ x=St.ev ⟨t2,H⟩ x:=by
 cases x with
 |tmp t=>exact hs t (PT hx)
 |const v=>rfl
 |global g=>rfl
 |func f=>rfl
theorem BZ {t1 t2:List AV} {H:List (Nat×OB)} {o:Oper} (hs: ∀t,t∈o.looksAt ops->t1.getD t .undef=t2.getD t .undef):Ep T Γ ⟨t1,H⟩ o=Ep T Γ ⟨t2,H⟩ o:=by
 have he:= λx hx=>GD (H:=H) hs x hx
 obtain ⟨dst,op,ty,pos,af,gd⟩:=o
 dsimp only at he
 cases op with
 |move x=>simp only [Ep];rw [he x (by simp [Op.operands])]
 |assign x=>simp only [Ep];rw [he x (by simp [Op.operands])]
 |pick c x y=>simp only [Ep];rw [he c (by simp [Op.operands]),he x (by simp [Op.operands]),he y (by simp [Op.operands])]
 |load t x=>simp only [Ep];rw [he x (by simp [Op.operands])];rfl
 |nilCheck x=>simp only [Ep];rw [he x (by simp [Op.operands])]
 |binOp op t x y t'=>simp only [Ep];rw [he x (by simp [Op.operands]),he y (by simp [Op.operands])]
 |unOp op t x=>simp only [Ep];rw [he x (by simp [Op.operands])]
 |convert s t x=>simp only [Ep];rw [he x (by simp [Op.operands])];simp only [bI t1 t2 H]
 |makeFunc fn first Eb=>
  cases fn with
  |func f=>
   simp only [Ep]
   have ha:Eb.toList.map (St.ev ⟨t1,H⟩)=Eb.toList.map (St.ev ⟨t2,H⟩):=Hq λx hx=>he x (by
    simp only [Op.operands,Array.toList_append,Az]
    exact .inr hx)
   have hb:first.toList.map (St.ev ⟨t1,H⟩)=first.toList.map (St.ev ⟨t2,H⟩):=Hq λx hx=>he x (by
    simp only [Op.operands,Array.toList_append,Az]
    exact .inl hx)
   rw [ha,hb]
  |_=>rfl
 |lookup t m k ok=>simp only [Ep];rw [he m (by simp [Op.operands]),he k (by simp [Op.operands])];unfold dg;simp only [bI t1 t2 H]
 |slice t x lo hi mx=>
  simp only [Ep]
  rw [he x (by simp [Op.operands])]
  have h1:lo.map (St.ev ⟨t1,H⟩)=lo.map (St.ev ⟨t2,H⟩):=by
   cases lo with
   |none=>rfl
   |some y=>simp only [Ah];rw [he y (by simp [Op.operands])]
  have h2:hi.map (St.ev ⟨t1,H⟩)=hi.map (St.ev ⟨t2,H⟩):=by
   cases hi with
   |none=>rfl
   |some y=>simp only [Ah];rw [he y (by simp [Op.operands])]
  rw [h1,h2];rfl
 |fieldAddr s x f=>simp only [Ep];rw [he x (by simp [Op.operands])]
 |field s x f=>simp only [Ep];rw [he x (by simp [Op.operands])]
 |indexAddr t x i=>simp only [Ep];rw [he x (by simp [Op.operands]),he i (by simp [Op.operands])];rfl
 |index t x i=>simp only [Ep];rw [he x (by simp [Op.operands]),he i (by simp [Op.operands])]
 |extract x i=>simp only [Ep];rw [he x (by simp [Op.operands])]
 |call c=>
  obtain ⟨callee,args,ts⟩:=c
  have ha:args.toList.map (St.ev ⟨t1,H⟩)=args.toList.map (St.ev ⟨t2,H⟩):=Hq λx hx=>he x (by
   simp only [Op.operands,Call.operands,Array.toList_append,Az]
   exact .inr hx)
  cases callee with
  |value f=>
   cases f with
   |func f=>
    simp only [Ep]
    rw [ha]
    unfold Od
    simp only [jh t1 t2 H]
   |tmp t=>
    simp only [Ep]
    have:=he (.tmp t) (by simp [Op.operands,Call.operands])
    simp only [St.ev] at this
    rw [ha,this]
    unfold Wm Od
    simp only [jh t1 t2 H]
   |_=>rfl
  |invoke r m=>rfl
  |builtin b=>
   cases b with
   |len=>
    simp only [Ep]
    split
    ·rename_i x t hx ht
     rw [he x (by
      simp only [Op.operands,Call.operands,Array.toList_append,Az]
      exact .inr (by rw [hx];simp))]
     simp only [JG t1 t2 H]
    ·rfl
   |min=>simp only [Ep];rw [ha]
   |max=>simp only [Ep];rw [ha]
   |_=>rfl
 |_=>rfl
theorem xZ {t1 t2:List AV} {H:List (Nat×OB)} (t:Option Tmp) (hs: ∀d,t=some d->t1.getD d .undef=t2.getD d .undef):Wf ⟨t1,H⟩ t=Wf ⟨t2,H⟩ t:=by
 cases t with
 |none=>rfl
 |some d=>simp only [Wf,St.get];rw [hs d rfl]
theorem nR {t1 t2:List AV} {H:List (Nat×OB)} (e:Ty): ∀(l:List (Nat×Operand)) (i:Nat),(∀p∈l,St.ev ⟨t1,H⟩ p.2=St.ev ⟨t2,H⟩ p.2)->dB e i l ⟨t1,H⟩=dB e i l ⟨t2,H⟩
 | [],_,_=>rfl
 |(j,x)::r,i,h=>by
  have h1:=h (j,x) (by simp)
  dsimp only at h1
  simp only [dB]
  rw [h1,bI t1 t2 H,nR e r (i+1) λp hp=>h p (Am _ hp)]
theorem ek {t1 t2:List AV} {H:List (Nat×OB)} (t:TypeId): ∀(l:List (Nat×Operand)) (cs:List AC),(∀p∈l,St.ev ⟨t1,H⟩ p.2=St.ev ⟨t2,H⟩ p.2)->Mb T ⟨t1,H⟩ t l cs=Mb T ⟨t2,H⟩ t l cs
 | [],_,_=>rfl
 |(j,x)::r,cs,h=>by
  have h1:=h (j,x) (by simp)
  dsimp only at h1
  simp only [Mb]
  rw [h1]
  have ih: ∀fD,Mb T ⟨t1,H⟩ t r fD=Mb T ⟨t2,H⟩ t r fD:= λfD=>ek t r fD λp hp=>h p (Am _ hp)
  simp only [ih]
theorem BY {t1 t2:List AV} {H:List (Nat×OB)} {o:Oper} (hs: ∀t,t∈o.looksAt ops->t1.getD t .undef=t2.getD t .undef):Vz T Γ ⟨t1,H⟩ o=Vz T Γ ⟨t2,H⟩ o:=by
 have he:= λx hx=>GD (H:=H) hs x hx
 have hq:=BZ (T:=T) (Γ:=Γ) (H:=H) hs
 obtain ⟨dst,op,ty,pos,af,gd⟩:=o
 dsimp only at he
 unfold Vz
 cases op with
 |buildSlice t len parts=>
  dsimp only
  have hp: ∀p∈parts.toList,St.ev ⟨t1,H⟩ p.2=St.ev ⟨t2,H⟩ p.2:= λp hp=>he p.2 (by simp only [Op.operands,Bo];exact ⟨p,hp,rfl⟩)
  unfold an
  simp only [nR _ _ _ hp]
 |build t parts=>
  dsimp only
  have hp: ∀p∈parts.toList,St.ev ⟨t1,H⟩ p.2=St.ev ⟨t2,H⟩ p.2:= λp hp=>he p.2 (by simp only [Op.operands,Bo];exact ⟨p,hp,rfl⟩)
  unfold Wk
  simp only [ek _ _ _ hp]
 |_=>exact hq
theorem uH {t1 t2:List AV} {H:List (Nat×OB)} {o:Oper} (hs: ∀t,t∈o.looksAt ops->t1.getD t .undef=t2.getD t .undef):Vy T Γ ops ⟨t1,H⟩ o=Vy T Γ ops ⟨t2,H⟩ o:=by
 unfold Vy
 rw [BY hs]
 split
 ·rfl
 ·rename_i j want hg
  rw [xZ ((ops[j]?).bind (·.dst)) (λd hd=>hs d (by
   unfold Oper.looksAt
   rw [hg]
   exact Az.2 (.inr (by simp [hd]))))]
theorem AF {st:St} {o:Oper} {dst:Option Tmp} {v:AV} (h: ∀d,dst=some d->d∉o.looksAt ops):Vy T Γ ops (st.put dst v) o=Vy T Γ ops st o:=by
 cases dst with
 |none=>rfl
 |some d=>
  obtain ⟨ts,H⟩:=st
  refine uH λt ht=>?_
  show (Rr ts d v).getD t .undef=ts.getD t .undef
  rw [Qe,Ai]
  rintro ⟨rfl,_⟩
  exact h d rfl ht
theorem St.put_comm (st:St) {x y:Option Tmp} (v u:AV) (h: ∀d,x=some d->y≠some d):(st.put x v).put y u=(st.put y u).put x v:=by
 cases x with
 |none=>cases y<;>rfl
 |some a=>
  cases y with
  |none=>rfl
  |some b=>
   have Is:a≠b:= λe=>h a rfl (by rw [e])
   simp only [St.put,St.mk.injEq,eY]
   rw [Ug,Ug,Ug,Ug]
   exact List.set_comm _ _ Is
theorem dc {st:St} {a:Act} (h:Bb X π st a w) (j:Nat):
  (∀b,Wf st ((ops[j]?).bind (·.dst))=some (some b)->yielded ops a.tmps j=some b)/\(Wf st ((ops[j]?).bind (·.dst))=some none->yielded ops a.tmps j=none):=by
 unfold yielded
 cases hd:(ops[j]?).bind (·.dst) with
 |none=>constructor<;>simp [Wf]
 |some d=>
  simp only [Wf,Ev]
  have hr:=h.2.tmps d
  constructor
  ·intro b hb
   split at hb
   ·rename_i fr b' hg
    simp only [Aa] at hb;subst hb
    rw [hg] at hr
    have:=Yh hr
    cases ht:a.tmps[d]? with
    |none=>
     rw [aX,ht] at this
     cases this
    |some v=>
     rw [aX,ht] at this
     simp only [Option.getD_some] at this
     rw [this]
   ·cases hb
   ·cases hb
  ·intro hb
   split at hb
   ·cases hb
   ·rename_i hg
    rw [hg] at hr
    have hv:a.tmps.getD d undef=undef:=hr
    cases ht:a.tmps[d]? with
    |none=>rfl
    |some v=>
     rw [aX,ht] at hv
     simp only [Option.getD_some] at hv
     rw [hv];rfl
   ·cases hb
theorem oa {Q:Exit->Act->World->Prop} {K:Act->World->Prop} {st':St} {a:Act} {o:Oper} {av:AV} (h:fe P X st' a w av ((execOp a.eval o).run P w))
  (hK: ∀a' w',Rel X (st'.put o.dst av) a' w'->K a' w'):o.wp P a w K Q:=by
 unfold Oper.wp
 generalize (execOp a.eval o).run P w=r at*
 cases r with
 |halt x w'=>exact h.elim
 |ok n w'=>
  cases n<;>simp only [fe] at h<;>simp only [Oper.upon]
  ·obtain ⟨π',h1,h2⟩:=h
   exact hK _ _ ⟨π',h1.put o.dst h2⟩
  ·obtain ⟨π',h1,h2⟩:=h
   exact hK _ _ ⟨π',h1.put o.dst h2⟩
  ·obtain ⟨rfl,hc⟩:=h
   refine hc.mono ?_
   rintro e o9 ⟨v,rfl,π',h1,h2⟩
   exact hK _ _ ⟨π',h1.put o.dst h2⟩
theorem zI {st:St} :Bf X w π st.heap (.at .skip) undef:=rfl
theorem Uv (hT:Du P T) (Of:Ju P Γ) {Q:Exit->Act->World->Prop} {K:Act->World->Prop} {st st':St} {a:Act} (h:Bb X π st a w) (o:Oper) (he:Em T Γ ops st o=some st')
  (hK: ∀a' w',Rel X st' a' w'->K a' w'):if Region.wanted o (yielded ops a.tmps) then o.wp P a w K Q\/(o.asks P a w/\LetsOut Q) else K (a.put o.dst undef) w:=by
 have run:(evalOp T Γ st o).map (λr=>r.2.put o.dst r.1)=some st'->o.wp P a w K Q:=by
  intro he
  cases hr:evalOp T Γ st o with
  |none=>rw [hr] at he;cases he
  |some r=>
   rw [hr] at he
   simp only [Ah,Aa] at he;subst he
   exact oa (vr hT Of h o r.1 r.2 hr) hK
 have skip:some (st.put o.dst (.at .skip))=some st'->K (a.put o.dst undef) w:=by
  intro he
  simp only [Aa] at he;subst he
  exact hK _ _ ⟨π,h.put o.dst zI⟩
 unfold Em at he
 split at he
 ·rename_i hg
  rw [Ab (by simp [Region.wanted,hg])]
  exact .inl (run he)
 ·rename_i j want hg
  split at he
  ·rename_i b hb
   have hy:=(dc h j).1 b hb
   split at he
   ·rename_i OC
    rw [Ab (by simp only [Region.wanted,hg,hy];simpa using OC)]
    exact .inl (run he)
   ·rename_i OC
    rw [Ai (by simp only [Region.wanted,hg,hy];simpa using OC)]
    exact skip he
  ·rename_i hb
   have hy:=(dc h j).2 hb
   rw [Ai (by simp [Region.wanted,hg,hy])]
   exact skip he
  ·cases he
theorem iL (hT:Du P T) (Of:Ju P Γ) {Q:Exit->Act->World->Prop} : ∀(l:List Oper) (st st':St) (a:Act) (w:World),Rel X st a w->Zk T Γ ops l st=some st'->
  (∀a' w',Rel X st' a' w'->Q .normal a' w')->wpList P ops Q l a w
 | [],st,st',a,w,h,he,hQ=>by
  simp only [Zk,Aa] at he;subst he
  exact hQ _ _ h
 |o::r,st,st',a,w,⟨π,h⟩,he,hQ=>by
  simp only [Zk] at he
  split at he
  ·rename_i st1 h1
   exact Uv hT Of h o h1 λa' w' h'=>iL hT Of r st1 st' a' w' h' he hQ
  ·cases he
theorem iH (hT:Du P T) (Of:Ju P Γ) {Q:Exit->Act->World->Prop} : ∀(l:List Nat) (st st':St) (a:Act) (w:World),Rel X st a w->Mk T Γ ops l st=some st'->
  (∀a' w',Rel X st' a' w'->Q .normal a' w')->wpOps P ops Q l a w
 | [],st,st',a,w,h,he,hQ=>by
  simp only [Mk,Aa] at he;subst he
  exact hQ _ _ h
 |i::r,st,st',a,w,⟨π,h⟩,he,hQ=>by
  simp only [Mk] at he
  split at he
  ·cases he
  ·rename_i o ho
   split at he
   ·rename_i st1 h1
    simp only [wpOps,ho]
    exact Uv hT Of h o h1 λa' w' h'=>iH hT Of r st1 st' a' w' h' he hQ
   ·cases he
end
end Go.Proofs.Ytkkdpknjohcekaa
