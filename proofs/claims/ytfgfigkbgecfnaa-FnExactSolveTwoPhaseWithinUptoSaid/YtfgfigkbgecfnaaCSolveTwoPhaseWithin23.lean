/-
  Part 24 of the proof that the statement FnExactSolveTwoPhaseWithin holds.
-/
import Derived.Test.YtfgfigkbgecfnaaCSolveTwoPhaseWithin22
import Derived.LoopN
namespace Go.Proofs.Ytfgfigkbgecfnaa
open Go.RowKit
section
variable {P:Program} {T:Tab} {Γ:Env} {X:Ctx} {w w':World} {π:Pi} {H:List (Nat×OB)} {ops:Array Oper}
theorem rT (t1 t2:List AV) (H:List (Nat×OB)) (τ:Ty) (c:AC):Dy ⟨t1,H⟩ τ c=Dy ⟨t2,H⟩ τ c:=by
 cases c<;>cases τ<;>rfl
theorem kr (t1 t2:List AV) (H:List (Nat×OB)): ∀(τ:Ty) (cs:List AC),Fq ⟨t1,H⟩ τ cs=Fq ⟨t2,H⟩ τ cs:=by
 have one: ∀(τ:Ty) (cs:List AC),τ.Ar=false->Fq ⟨t1,H⟩ τ cs=Fq ⟨t2,H⟩ τ cs:=by
  intro τ cs h;rw [Uw h,Uw h];rcases cs with _|⟨c,_|⟨d,r⟩⟩
  ·rfl
  ·exact rT t1 t2 H τ c
  ·rfl
 intro τ
 induction τ with
 |unit=>intro cs;cases cs<;>rfl
 |pair a r iL iH=>intro cs;simp only [Fq];rw [iL,iH]
 |_=>exact λcs=>one _ cs rfl
theorem pa (t1 t2:List AV) (H:List (Nat×OB)) (τ:Ty) (l i:Nat):Vj ⟨t1,H⟩ τ l i=Vj ⟨t2,H⟩ τ l i:=by
 unfold Vj;simp only [St.at];split
 ·exact kr t1 t2 H _ _
 ·rfl
theorem xw (t1 t2:List AV) (H:List (Nat×OB)): ∀(τ:Ty) (cs:List (Nat×Nat)),Lr ⟨t1,H⟩ τ cs=Lr ⟨t2,H⟩ τ cs:=by
 intro τ
 induction τ with
 |unit=>intro cs;cases cs<;>rfl
 |pair a r _ iH=>
  intro cs
  cases a with
  |ptr a=>
   cases cs with
   |nil=>rfl
   |cons c cs=>simp only [Lr];rw [pa t1 t2 H,iH]
  |_=>cases cs<;>rfl
 |_=>intro cs;cases cs<;>rfl
theorem DE (t1 t2:List AV) (H:List (Nat×OB)) (τ:Ty) (c:AC):Kh ⟨t1,H⟩ τ c=Kh ⟨t2,H⟩ τ c:=by
 cases τ<;>cases c<;>simp only [Kh]<;>first|rfl|exact rT t1 t2 H _ _|(rw [pa t1 t2 H])|(split;exact xw t1 t2 H _ _;rfl)
theorem dJ (t1 t2:List AV) (H:List (Nat×OB)) (τ:Ty) (c:AV):Gk ⟨t1,H⟩ τ c=Gk ⟨t2,H⟩ τ c:=by
 cases c with
 | «at»a=>cases a<;>simp only [Gk]<;>first|rfl|rw [DE t1 t2 H]
 |agg cs=>simp only [Gk];rw [kr t1 t2 H]
 |bL fr Ow x=>rfl
 |Nh l=>rfl
theorem m7 (t1 t2:List AV) (H:List (Nat×OB)): ∀(τ:Ty) (cs:List AV),Eg ⟨t1,H⟩ τ cs=Eg ⟨t2,H⟩ τ cs:=by
 intro τ
 induction τ with
 |pair a r iL iH=>
  intro cs
  cases cs with
  |nil=>rfl
  |cons c cs=>simp only [Eg];rw [dJ t1 t2 H,iH]
 |_=>intro cs;cases cs<;>rfl
theorem VH (t1 t2:List AV) (H:List (Nat×OB)) (c:AV):GW ⟨t1,H⟩ c=GW ⟨t2,H⟩ c:=by
 cases c with
 | «at»a=>cases a<;>rfl
 |_=>rfl
theorem Abi {o:Oper} {t:Tmp} (h:Operand.tmp t∈o.op.operands.toList):t∈o.looksAt ops:=by
 unfold Oper.looksAt;refine Be.2 (.inl (List.mem_filterMap.2 ⟨_,h,rfl⟩))
theorem RO {t1 t2:List AV} {H:List (Nat×OB)} {o:Oper} (hs: ∀t,t∈o.looksAt ops->t1.getD t .undef=t2.getD t .undef) (x:Operand) (hx:x∈o.op.operands.toList):
  St.ev ⟨t1,H⟩ x=St.ev ⟨t2,H⟩ x:=by
 cases x with
 |tmp t=>exact hs t (Abi hx)
 |const v=>rfl
 |global g=>rfl
 |func f=>rfl
theorem MR {t1 t2:List AV} {H:List (Nat×OB)} {o:Oper} (hs: ∀t,t∈o.looksAt ops->t1.getD t .undef=t2.getD t .undef):Fv T Γ ⟨t1,H⟩ o=Fv T Γ ⟨t2,H⟩ o:=by
 have he:= λx hx=>RO (H:=H) hs x hx;obtain ⟨dst,op,ty,pos,af,gd⟩:=o;dsimp only at he
 cases op with
 |move x=>simp only [Fv];rw [he x (by simp [Op.operands])]
 |assign x=>simp only [Fv];rw [he x (by simp [Op.operands])]
 |pick c x y=>simp only [Fv];rw [he c (by simp [Op.operands]),he x (by simp [Op.operands]),he y (by simp [Op.operands])]
 |load t x=>simp only [Fv];rw [he x (by simp [Op.operands])];rfl
 |nilCheck x=>simp only [Fv];rw [he x (by simp [Op.operands])]
 |binOp op t x y t'=>simp only [Fv];rw [he x (by simp [Op.operands]),he y (by simp [Op.operands])]
 |unOp op t x=>simp only [Fv];rw [he x (by simp [Op.operands])]
 |convert s t x=>simp only [Fv];rw [he x (by simp [Op.operands])];simp only [dJ t1 t2 H]
 |makeFunc fn first En=>
  cases fn with
  |func f=>
   simp only [Fv]
   have ha:En.toList.map (St.ev ⟨t1,H⟩)=En.toList.map (St.ev ⟨t2,H⟩):=Er λx hx=>he x (by
    simp only [Op.operands,Array.toList_append,Be]
    exact .inr hx)
   have hb:first.toList.map (St.ev ⟨t1,H⟩)=first.toList.map (St.ev ⟨t2,H⟩):=Er λx hx=>he x (by
    simp only [Op.operands,Array.toList_append,Be]
    exact .inl hx)
   rw [ha,hb]
  |_=>rfl
 |lookup t m k ok=>simp only [Fv];rw [he m (by simp [Op.operands]),he k (by simp [Op.operands])];unfold fO;simp only [dJ t1 t2 H]
 |slice t x lo hi mx=>
  simp only [Fv];rw [he x (by simp [Op.operands])]
  have h1:lo.map (St.ev ⟨t1,H⟩)=lo.map (St.ev ⟨t2,H⟩):=by
   cases lo with
   |none=>rfl
   |some y=>simp only [An];rw [he y (by simp [Op.operands])]
  have h2:hi.map (St.ev ⟨t1,H⟩)=hi.map (St.ev ⟨t2,H⟩):=by
   cases hi with
   |none=>rfl
   |some y=>simp only [An];rw [he y (by simp [Op.operands])]
  rw [h1,h2];rfl
 |fieldAddr s x f=>simp only [Fv];rw [he x (by simp [Op.operands])]
 |field s x f=>simp only [Fv];rw [he x (by simp [Op.operands])]
 |indexAddr t x i=>simp only [Fv];rw [he x (by simp [Op.operands]),he i (by simp [Op.operands])];rfl
 |index t x i=>simp only [Fv];rw [he x (by simp [Op.operands]),he i (by simp [Op.operands])]
 |extract x i=>simp only [Fv];rw [he x (by simp [Op.operands])]
 |call c=>
  obtain ⟨callee,args,ts⟩:=c
  have ha:args.toList.map (St.ev ⟨t1,H⟩)=args.toList.map (St.ev ⟨t2,H⟩):=Er λx hx=>he x (by
   simp only [Op.operands,Call.operands,Array.toList_append,Be]
   exact .inr hx)
  cases callee with
  |value f=>
   cases f with
   |func f=>
    simp only [Fv];rw [ha];unfold Pk;simp only [m7 t1 t2 H]
   |tmp t=>
    simp only [Fv];have:=he (.tmp t) (by simp [Op.operands,Call.operands]);simp only [St.ev] at this;rw [ha,this];unfold Yr Pk;simp only [m7 t1 t2 H]
   |_=>rfl
  |invoke r m=>rfl
  |builtin b=>
   cases b with
   |len=>
    simp only [Fv];split
    ·rename_i x t hx ht
     rw [he x (by
      simp only [Op.operands,Call.operands,Array.toList_append,Be]
      exact .inr (by rw [hx];simp))]
     simp only [VH t1 t2 H]
    ·rfl
   |min=>simp only [Fv];rw [ha]
   |max=>simp only [Fv];rw [ha]
   |_=>rfl
 |_=>rfl
theorem ES {t1 t2:List AV} {H:List (Nat×OB)} (t:Option Tmp) (hs: ∀d,t=some d->t1.getD d .undef=t2.getD d .undef):Yj ⟨t1,H⟩ t=Yj ⟨t2,H⟩ t:=by
 cases t with
 |none=>rfl
 |some d=>simp only [Yj,St.get];rw [hs d rfl]
theorem rq {t1 t2:List AV} {H:List (Nat×OB)} (e:Ty): ∀(l:List (Nat×Operand)) (i:Nat),(∀p∈l,St.ev ⟨t1,H⟩ p.2=St.ev ⟨t2,H⟩ p.2)->gn e i l ⟨t1,H⟩=gn e i l ⟨t2,H⟩
 | [],_,_=>rfl
 |(j,x)::r,i,h=>by
  have h1:=h (j,x) (by simp);dsimp only at h1;simp only [gn];rw [h1,dJ t1 t2 H,rq e r (i+1) λp hp=>h p (At _ hp)]
theorem gZ {t1 t2:List AV} {H:List (Nat×OB)} (t:TypeId): ∀(l:List (Nat×Operand)) (cs:List AC),(∀p∈l,St.ev ⟨t1,H⟩ p.2=St.ev ⟨t2,H⟩ p.2)->Mx T ⟨t1,H⟩ t l cs=Mx T ⟨t2,H⟩ t l cs
 | [],_,_=>rfl
 |(j,x)::r,cs,h=>by
  have h1:=h (j,x) (by simp);dsimp only at h1;simp only [Mx];rw [h1];have ih: ∀j9,Mx T ⟨t1,H⟩ t r j9=Mx T ⟨t2,H⟩ t r j9:= λj9=>gZ t r j9 λp hp=>h p (At _ hp);simp only [ih]
theorem MQ {t1 t2:List AV} {H:List (Nat×OB)} {o:Oper} (hs: ∀t,t∈o.looksAt ops->t1.getD t .undef=t2.getD t .undef):Yb T Γ ⟨t1,H⟩ o=Yb T Γ ⟨t2,H⟩ o:=by
 have he:= λx hx=>RO (H:=H) hs x hx;have hq:=MR (T:=T) (Γ:=Γ) (H:=H) hs;obtain ⟨dst,op,ty,pos,af,gd⟩:=o;dsimp only at he;unfold Yb
 cases op with
 |buildSlice t len parts=>
  dsimp only;have hp: ∀p∈parts.toList,St.ev ⟨t1,H⟩ p.2=St.ev ⟨t2,H⟩ p.2:= λp hp=>he p.2 (by simp only [Op.operands,Bh];exact ⟨p,hp,rfl⟩);unfold bY;simp only [rq _ _ _ hp]
 |build t parts=>
  dsimp only;have hp: ∀p∈parts.toList,St.ev ⟨t1,H⟩ p.2=St.ev ⟨t2,H⟩ p.2:= λp hp=>he p.2 (by simp only [Op.operands,Bh];exact ⟨p,hp,rfl⟩);unfold Yp;simp only [gZ _ _ _ hp]
 |_=>exact hq
theorem z7 {t1 t2:List AV} {H:List (Nat×OB)} {o:Oper} (hs: ∀t,t∈o.looksAt ops->t1.getD t .undef=t2.getD t .undef):Xx T Γ ops ⟨t1,H⟩ o=Xx T Γ ops ⟨t2,H⟩ o:=by
 unfold Xx;rw [MQ hs];split
 ·rfl
 ·rename_i j want hg
  rw [ES ((ops[j]?).bind (·.dst)) (λd hd=>hs d (by
   unfold Oper.looksAt;rw [hg]
   exact Be.2 (.inr (by simp [hd]))))]
theorem KF {st:St} {o:Oper} {dst:Option Tmp} {v:AV} (h: ∀d,dst=some d->d∉o.looksAt ops):Xx T Γ ops (st.put dst v) o=Xx T Γ ops st o:=by
 cases dst with
 |none=>rfl
 |some d=>
  obtain ⟨ts,H⟩:=st;refine z7 λt ht=>?_;show (Tm ts d v).getD t .undef=ts.getD t .undef;rw [Ri,Ai];rintro ⟨rfl,_⟩;exact h d rfl ht
theorem St.put_comm (st:St) {x y:Option Tmp} (v u:AV) (h: ∀d,x=some d->y≠some d):(st.put x v).put y u=(st.put y u).put x v:=by
 cases x with
 |none=>cases y<;>rfl
 |some a=>
  cases y with
  |none=>rfl
  |some b=>
   have Ii:a≠b:= λe=>h a rfl (by rw [e]);simp only [St.put,St.mk.injEq,bz];rw [Wh,Wh,Wh,Wh];exact List.set_comm _ _ Ii
theorem fJ {st:St} {a:Act} (h:Bs X π st a w) (j:Nat):
  (∀b,Yj st ((ops[j]?).bind (·.dst))=some (some b)->yielded ops a.tmps j=some b)/\(Yj st ((ops[j]?).bind (·.dst))=some none->yielded ops a.tmps j=none):=by
 unfold yielded
 cases hd:(ops[j]?).bind (·.dst) with
 |none=>constructor<;>simp [Yj]
 |some d=>
  simp only [Yj,Ew];have hr:=h.2.tmps d
  constructor
  ·intro b hb;split at hb
   ·rename_i fr b' hg;simp only [Aa] at hb;subst hb;rw [hg] at hr;have:=ay hr
    cases ht:a.tmps[d]? with
    |none=>
     rw [cQ,ht] at this;cases this
    |some v=>
     rw [cQ,ht] at this;simp only [Dm] at this;rw [this]
   ·cases hb
   ·cases hb
  ·intro hb;split at hb
   ·cases hb
   ·rename_i hg;rw [hg] at hr;have hv:a.tmps.getD d undef=undef:=hr
    cases ht:a.tmps[d]? with
    |none=>rfl
    |some v=>
     rw [cQ,ht] at hv;simp only [Dm] at hv;rw [hv];rfl
   ·cases hb
theorem rW {Q:Exit->Act->World->Prop} {K:Act->World->Prop} {st':St} {a:Act} {o:Oper} {av:AV} (h:iO P X st' a w av ((execOp a.eval o).run P w))
  (hK: ∀a' w',Rel X (st'.put o.dst av) a' w'->K a' w'):o.wp P a w K Q:=by
 unfold Oper.wp;generalize (execOp a.eval o).run P w=r at*
 cases r with
 |halt x w'=>exact h.elim
 |ok n w'=>
  cases n<;>simp only [iO] at h<;>simp only [Oper.upon]
  ·obtain ⟨π',h1,h2⟩:=h;exact hK _ _ ⟨π',h1.put o.dst h2⟩
  ·obtain ⟨π',h1,h2⟩:=h;exact hK _ _ ⟨π',h1.put o.dst h2⟩
  ·obtain ⟨rfl,hc⟩:=h;refine hc.mono ?_;rintro e rU ⟨v,rfl,π',h1,h2⟩;exact hK _ _ ⟨π',h1.put o.dst h2⟩
theorem JE {st:St} :Bx X w π st.heap (.at .skip) undef:=rfl
theorem Wu (hT:Ec P T) (Pn:Ky P Γ) {Q:Exit->Act->World->Prop} {K:Act->World->Prop} {st st':St} {a:Act} (h:Bs X π st a w) (o:Oper) (he:Fl T Γ ops st o=some st')
  (hK: ∀a' w',Rel X st' a' w'->K a' w'):if Region.wanted o (yielded ops a.tmps) then o.wp P a w K Q\/(o.asks P a w/\LetsOut Q) else K (a.put o.dst undef) w:=by
 have run:(evalOp T Γ st o).map (λr=>r.2.put o.dst r.1)=some st'->o.wp P a w K Q:=by
  intro he
  cases hr:evalOp T Γ st o with
  |none=>rw [hr] at he;cases he
  |some r=>
   rw [hr] at he;simp only [An,Aa] at he;subst he;exact rW (zC hT Pn h o r.1 r.2 hr) hK
 have skip:some (st.put o.dst (.at .skip))=some st'->K (a.put o.dst undef) w:=by
  intro he;simp only [Aa] at he;subst he;exact hK _ _ ⟨π,h.put o.dst JE⟩
 unfold Fl at he;split at he
 ·rename_i hg;rw [Ac (by simp [Region.wanted,hg])];exact .inl (run he)
 ·rename_i j want hg;split at he
  ·rename_i b hb;have hy:=(fJ h j).1 b hb;split at he
   ·rename_i MW;rw [Ac (by simp only [Region.wanted,hg,hy];simpa using MW)];exact .inl (run he)
   ·rename_i MW;rw [Ai (by simp only [Region.wanted,hg,hy];simpa using MW)];exact skip he
  ·rename_i hb;have hy:=(fJ h j).2 hb;rw [Ai (by simp [Region.wanted,hg,hy])];exact skip he
  ·cases he
theorem lA (hT:Ec P T) (Pn:Ky P Γ) {Q:Exit->Act->World->Prop} : ∀(l:List Oper) (st st':St) (a:Act) (w:World),Rel X st a w->bg T Γ ops l st=some st'->
  (∀a' w',Rel X st' a' w'->Q .normal a' w')->wpList P ops Q l a w
 | [],st,st',a,w,h,he,hQ=>by
  simp only [bg,Aa] at he;subst he;exact hQ _ _ h
 |o::r,st,st',a,w,⟨π,h⟩,he,hQ=>by
  simp only [bg] at he;split at he
  ·rename_i st1 h1;exact Wu hT Pn h o h1 λa' w' h'=>lA hT Pn r st1 st' a' w' h' he hQ
  ·cases he
theorem lv (hT:Ec P T) (Pn:Ky P Γ) {Q:Exit->Act->World->Prop} : ∀(l:List Nat) (st st':St) (a:Act) (w:World),Rel X st a w->Nk T Γ ops l st=some st'->
  (∀a' w',Rel X st' a' w'->Q .normal a' w')->wpOps P ops Q l a w
 | [],st,st',a,w,h,he,hQ=>by
  simp only [Nk,Aa] at he;subst he;exact hQ _ _ h
 |i::r,st,st',a,w,⟨π,h⟩,he,hQ=>by
  simp only [Nk] at he;split at he
  ·cases he
  ·rename_i o ho;split at he
   ·rename_i st1 h1;simp only [wpOps,ho];exact Wu hT Pn h o h1 λa' w' h'=>lv hT Pn r st1 st' a' w' h' he hQ
   ·cases he
end
end Go.Proofs.Ytfgfigkbgecfnaa
