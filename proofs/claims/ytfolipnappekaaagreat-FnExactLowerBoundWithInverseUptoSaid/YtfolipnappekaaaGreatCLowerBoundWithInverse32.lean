/-
  Part 33 of the proof that the statement FnExactLowerBoundWithInverse holds.
-/
import Derived.Test.YtfolipnappekaaaGreatCLowerBoundWithInverse31
namespace Go.Proofs.YtfolipnappekaaaGreat
open Go.RowKit
section
variable {T:Tab} {Γ:Env}
def WS.OK (w:WS):Prop:= ∀t b,pP w.kn t=some b-> ∃fr,w.st.get t= .at (.data fr .bool b)
theorem fT: ∀(l:List (Nat×Bool)) (d t:Nat) (b:Bool),pP (rI l d) t=some b->t≠d/\pP l t=some b
 | [],_,_,_,h=>by cases h
 |(k,c)::r,d,t,b,h=>by
  simp only [rI] at h
  split at h
  ·rename_i hk
   have:=fT r d t b h
   refine ⟨this.1,?_⟩
   simp only [pP]
   rw [if_neg (by rw [hk];exact λh=>this.1 h.symm)]
   exact this.2
  ·rename_i hk
   simp only [pP] at h⊢
   split at h
   ·rename_i OV
    exact ⟨by rw [<-OV];exact hk,by rw [if_pos OV];exact h⟩
   ·rename_i OV
    rw [if_neg OV]
    exact fT r d t b h
theorem WS.OK.put {w:WS} (h:w.OK) (dst:Option Tmp) (v:AV):(w.put dst v).OK:=by
 cases dst with
 |none=>exact h
 |some d=>
  intro t b hb
  obtain ⟨h1,h2⟩:=fT _ _ _ _ hb
  obtain ⟨fr,h3⟩:=h t b h2
  exact ⟨fr,by show (w.st.put (some d) v).get t=_;rw [Vc _ _ h1];exact h3⟩
theorem WS.o4 (w:WS) (dst:Option Tmp) (v:AV):(w.put dst v).st=w.st.put dst v:=by cases dst<;>rfl
theorem WS.OK.to {w:WS} (h:w.OK) {s:St} (hs:Aw w.st s):(w.to s).OK:=by
 intro t b hb
 obtain ⟨fr,h3⟩:=h t b hb
 exact ⟨fr,hs t fr _ _ h3⟩
theorem qZ {w:WS} (hw:w.OK) {t:Nat} {K:Bool->WS->Prop} (h:brT w t K):
  ∃fr b w',w.st.get t= .at (.data fr .bool b)/\w'.st=w.st/\w'.OK/\K b w':=by
 unfold brT at h
 split at h
 ·rename_i b hb
  obtain ⟨fr,h1⟩:=hw t b hb
  exact ⟨fr,b,w,h1,rfl,hw,h⟩
 ·split at h
  ·rename_i fr b hb
   obtain ⟨h1,h2⟩:=h
   have ok: ∀c:Bool,b=c->WS.OK {kn:=(t,c)::w.kn,st:=w.st} :=by
    intro c hc t' b' h'
    simp only [pP] at h'
    split at h'
    ·rename_i ht
     injection h' with h'
     exact ⟨fr,by rw [<-ht,<-h',<-hc];exact hb⟩
    ·exact hw t' b' h'
   cases b with
   |true=>exact ⟨fr,true, {kn:=(t,true)::w.kn,st:=w.st},hb,rfl,ok true rfl,h1 rfl⟩
   |false=>exact ⟨fr,false, {kn:=(t,false)::w.kn,st:=w.st},hb,rfl,ok false rfl,h2 rfl⟩
  ·cases h
theorem qY {w:WS} (hw:w.OK) {c:Operand} {K:Bool->WS->Prop} (h:brO w c K):
  ∃fr b w',w.st.ev c= .at (.data fr .bool b)/\w'.st=w.st/\w'.OK/\K b w':=by
 unfold brO at h
 split at h
 ·exact qZ hw h
 ·exact ⟨true,_,w,rfl,rfl,hw,h⟩
 ·cases h
theorem yT {op:BinOp} {t:TypeId} {x y:AV} {K:AV->Prop} (h:UO T op t x y K): ∃v,Mx T op t x y=some v/\K v:=by
 unfold UO at h
 split at h
 ·split at h
  ·rename_i hk
   exact ⟨_,by simp only [Mx,evalBin,ny];rw [if_pos hk,if_neg h.1];rfl,h.2⟩
  ·cases h
 ·split at h
  ·rename_i hk
   exact ⟨_,by simp only [Mx,evalBin,ny];rw [if_pos hk,if_neg h.1];rfl,h.2⟩
  ·cases h
 ·exact ⟨_,by simp only [Mx,evalBin];rw [if_neg h.1];rfl,h.2⟩
 ·exact ⟨_,by simp only [Mx,evalBin];rw [if_neg h.1];rfl,h.2⟩
 ·exact ⟨_,by simp only [Mx,evalBin];rw [if_pos h.1],h.2⟩
 ·exact As.1 h
theorem x7 {st:St} {t:TypeId} {p:AV} {K:AV->Prop} (h:LQ T st t p K): ∃v,Ki T st t p=some v/\K v:=by
 unfold LQ at h
 split at h
 ·obtain ⟨τ,h1,h2⟩:=As.1 h
  split at h2
  ·rename_i hb
   split at h2
   ·rename_i he
    obtain ⟨x,h3,h4⟩:=h2
    exact ⟨_,by simp only [Ki,h1,hb,if_pos he,h3];rfl,h4⟩
   ·cases h2
  ·rename_i hb
   split at h2
   ·rename_i he
    obtain ⟨x,h3,h4⟩:=h2
    exact ⟨_,by simp only [Ki,h1,hb,if_pos he,h3];rfl,h4⟩
   ·cases h2
  ·rename_i hb
   split at h2
   ·cases h2
   ·rename_i he
    exact ⟨_,by simp only [Ki,h1,hb,if_neg he],h2⟩
  ·cases h2
 ·obtain ⟨τ,h1,h2⟩:=As.1 h
  split at h2
  ·rename_i he
   obtain ⟨y,h3,h4⟩:=h2
   subst h3
   exact ⟨_,by simp only [Ki,h1,if_pos he],h4⟩
  ·cases h2
 ·exact As.1 h
theorem ju {s:TypeId} {x:AV} {f:Nat} {K:AV->Prop} (h:fF T s x f K): ∃v,Ir T s x f=some v/\K v:=by
 unfold fF at h
 split at h
 ·obtain ⟨y,h1,h2⟩:=h
  subst h1
  obtain ⟨v,h3,h4⟩:=As.1 h2
  refine ⟨v,?_,h4⟩
  rw [<-h3]
  unfold Ir
  cases T.off s f<;>rfl
 ·exact As.1 h
theorem uv {st:St} {t:TypeId} {x:AV} {lo hi:Option AV} {K:AV->Prop} (h:BA T st t x lo hi K): ∃v,Ym T st t x lo hi=some v/\K v:=by
 unfold BA at h
 obtain ⟨n,h1,h⟩:=As.1 h
 obtain ⟨l,h2,h⟩:=As.1 h
 obtain ⟨hh,h3,hc,h⟩:=As.1 h
 obtain ⟨v,h4,h5⟩:=As.1 h
 refine ⟨v,?_,h5⟩
 simp only [Ym,h1,h2,h3,if_pos hc]
 exact h4
theorem jD {st:St} {t:TypeId} {x i:AV} {K:AV->Prop} (h:fQ T st t x i K): ∃v,Fz T st t x i=some v/\K v:=by
 unfold fQ at h
 split at h
 ·split at h
  ·rename_i he
   obtain ⟨x,h3,h4⟩:=h
   exact ⟨_,by simp only [Fz,if_pos he,h3];rfl,h4⟩
  ·cases h
 ·split at h
  ·rename_i hb
   split at h
   ·rename_i he
    obtain ⟨h3,h4⟩:=h
    exact ⟨_,by simp only [Fz,hb];rw [if_pos ⟨he.1,he.2,Nc.2 h3⟩],h4⟩
   ·cases h
  ·rename_i hb
   split at h
   ·rename_i he
    obtain ⟨h3,h4⟩:=h
    exact ⟨_,by simp only [Fz,hb];rw [if_pos ⟨he.1,he.2,Nc.2 h3⟩],h4⟩
   ·cases h
  ·rename_i hb
   split at h
   ·rename_i he
    obtain ⟨h3,h4⟩:=h
    exact ⟨_,by simp only [Fz,hb];rw [if_pos ⟨he.1,he.2,Nc.2 h3⟩],h4⟩
   ·cases h
  ·cases h
 ·split at h
  ·rename_i hb
   split at h
   ·rename_i he
    obtain ⟨h3,h4⟩:=h
    exact ⟨_,by simp only [Fz,hb];rw [if_pos ⟨he,Nc.2 h3⟩],h4⟩
   ·cases h
  ·cases h
 ·cases h
theorem tu {t:TypeId} {x i:AV} {K:AV->Prop} (h:zv T t x i K): ∃v,dA T t x i=some v/\K v:=by
 unfold zv at h
 split at h
 ·split at h
  ·rename_i he
   obtain ⟨h1,b,h3,h4⟩:=h
   exact ⟨_,by simp only [dA,if_pos he,if_pos h1,h3];rfl,h4⟩
  ·cases h
 ·cases h
theorem Wf {st:St} {f:FuncId} {args:List AV} {K:AV->Prop} (h:r6 Γ st f args K): ∃v,Jg Γ st f args=some v/\K v:=by
 unfold r6 at h
 obtain ⟨s,h1,h⟩:=As.1 h
 have h1:Γ f=some (.q s):=by
  split at h1
  ·rename_i s' hs;injection h1 with h1;rw [hs,h1]
  ·cases h1
 split at h
 ·rename_i hf
  obtain ⟨p,h2,y,h3,h4⟩:=As.1 h
  refine ⟨_,?_,h4⟩
  simp only [Jg,h1]
  rw [if_pos hf,h2]
  simp only [h3]
  rfl
 ·cases h
theorem sM {st:St} {v:AV} {args:List AV} {K:AV->Prop} (h:yW Γ st v args K): ∃u,Qe Γ st v args=some u/\K u:=by
 unfold yW at h
 split at h
 ·split at h
  ·rename_i hc
   split at h
   ·rename_i hf
    obtain ⟨u,h1,h2⟩:=Wf h
    exact ⟨u,by simp only [Qe];rw [if_pos hc,if_pos (by simpa using hf)];exact h1,h2⟩
   ·rename_i hf
    obtain ⟨u,h1,h2⟩:=Wf h
    exact ⟨u,by simp only [Qe];rw [if_pos hc,if_neg (λhx=>by rw [show Nat.blt _ 1000000000=true from by simpa using hx] at hf;cases hf)];exact h1,h2⟩
  ·cases h
 ·exact Wf h
 ·cases h
theorem Ju {w:WS} (hw:w.OK) {x:Operand} {b:Bool} (hk:Pd w.kn x=some b): ∃fr,w.st.ev x= .at (.data fr .bool b):=by
 unfold Pd at hk
 split at hk
 ·injection hk with hk;subst hk;exact ⟨true,rfl⟩
 ·exact hw _ _ hk
 ·cases hk
theorem pT {w:WS} (hw:w.OK) {o:Oper} {b:Bool} (hk:Dj w.kn o=some b) {v:AV} (he:Ch T Γ w.st o=some v): ∃fr,v= .at (.data fr .bool b):=by
 unfold Dj at hk
 split at hk
 ·rename_i heq;unfold Ch at he;rw [heq] at he;injection he with he;obtain ⟨fr,h⟩:=Ju hw hk;exact ⟨fr,he.symm.trans h⟩
 ·rename_i heq;unfold Ch at he;rw [heq] at he;injection he with he;obtain ⟨fr,h⟩:=Ju hw hk;exact ⟨fr,he.symm.trans h⟩
 ·rename_i x heq
  cases hx:Pd w.kn x with
  |none=>rw [hx] at hk;cases hk
  |some c=>
   rw [hx] at hk
   injection hk with hk
   obtain ⟨fr,h⟩:=Ju hw hx
   unfold Ch at he;rw [heq] at he
   simp only [h,sU,Jo] at he
   injection he with he
   exact ⟨true,by rw [<-he,<-hk]⟩
 ·rename_i c x y heq
  unfold Ch at he;rw [heq] at he
  split at hk
  ·rename_i hc
   obtain ⟨fr,h⟩:=Ju hw hc
   simp only [h,Yl,if_true] at he
   injection he with he
   obtain ⟨fr,h⟩:=Ju hw hk
   exact ⟨fr,he.symm.trans h⟩
  ·rename_i hc
   obtain ⟨fr,h⟩:=Ju hw hc
   simp only [h,Yl,Bool.false_eq_true,if_false] at he
   injection he with he
   obtain ⟨fr,h⟩:=Ju hw hk
   exact ⟨fr,he.symm.trans h⟩
  ·cases hk
 ·cases hk
theorem nQ {w:WS} (hw:w.OK) {o:Oper} {x:Operand} (ho:o.op= .assign x) {b:Bool} (hk:Dj w.kn o=some b) {v:AV} {s:St} (he:evalOp T Γ w.st o=some (v,s)): ∃fr,v= .at (.data fr .bool b):=by
 unfold Dj at hk
 rw [ho] at hk
 obtain ⟨fr,h⟩:=Ju hw hk
 unfold evalOp at he;rw [ho] at he
 simp only [h] at he
 injection he with he;injection he with he;exact ⟨fr,he.symm⟩
theorem cQ {w:WS} (hw:w.OK) {o:Oper} {K:AV->WS->Prop} (h:qW T Γ w o K):
  ∃v w',Ch T Γ w.st o=some v/\w'.st=w.st/\w'.OK/\(∀b,Dj w'.kn o=some b-> ∃fr,v= .at (.data fr .bool b))/\K v w':=by
 have fin:(∃v w',Ch T Γ w.st o=some v/\w'.st=w.st/\w'.OK/\K v w')-> ∃v w',Ch T Γ w.st o=some v/\w'.st=w.st/\w'.OK/\(∀b,Dj w'.kn o=some b-> ∃fr,v= .at (.data fr .bool b))/\K v w':=by
  rintro ⟨v,w',h1,h2,h3,h4⟩
  exact ⟨v,w',h1,h2,h3,λb hb=>pT h3 hb (by rw [h2];exact h1),h4⟩
 refine fin ?_
 unfold qW at h
 split at h
 ·rename_i c a b heq
  obtain ⟨fr,t,w',h1,h2,h3,h4⟩:=qY hw h
  cases t with
  |true=>exact ⟨_,w',by unfold Ch;rw [heq];simp only [h1,Yl,if_true];rw [<-h2],h2,h3,h4⟩
  |false=>exact ⟨_,w',by unfold Ch;rw [heq];simp only [h1,Yl];rw [<-h2];simp,h2,h3,h4⟩
 ·rename_i heq
  obtain ⟨v,h1,h2⟩:=x7 h
  exact ⟨v,w,by unfold Ch;rw [heq];exact h1,rfl,hw,h2⟩
 ·rename_i heq
  obtain ⟨v,h1,h2⟩:=yT h
  exact ⟨v,w,by unfold Ch;rw [heq];exact h1,rfl,hw,h2⟩
 ·rename_i heq
  split at h
  ·obtain ⟨v,h1,h2⟩:=uv h
   exact ⟨v,w,by unfold Ch;rw [heq];simpa using h1,rfl,hw,h2⟩
  ·cases h
 ·rename_i heq
  obtain ⟨v,h1,h2⟩:=jD h
  exact ⟨v,w,by unfold Ch;rw [heq];exact h1,rfl,hw,h2⟩
 ·rename_i heq
  obtain ⟨v,h1,h2⟩:=tu h
  exact ⟨v,w,by unfold Ch;rw [heq];exact h1,rfl,hw,h2⟩
 ·rename_i heq
  obtain ⟨v,h1,h2⟩:=Wf h
  exact ⟨v,w,by unfold Ch;rw [heq];exact h1,rfl,hw,h2⟩
 ·rename_i heq
  obtain ⟨v,h1,h2⟩:=sM h
  exact ⟨v,w,by unfold Ch;rw [heq];exact h1,rfl,hw,h2⟩
 ·rename_i heq
  obtain ⟨v,h1,h2⟩:=ju h
  exact ⟨v,w,by unfold Ch;rw [heq];exact h1,rfl,hw,h2⟩
 ·rename_i x heq
  unfold rT at h
  split at h
  ·rename_i fr τ z hx
   obtain ⟨y,h1,h2⟩:=h
   subst h1
   exact ⟨_,w,by unfold Ch;rw [heq];simp only [hx],rfl,hw,h2⟩
  ·obtain ⟨v,h1,h2⟩:=As.1 h
   exact ⟨v,w,h1,rfl,hw,h2⟩
 ·obtain ⟨v,h1,h2⟩:=As.1 h
  exact ⟨v,w,h1,rfl,hw,h2⟩
theorem uJ {st:St} {t:TypeId} {p v:AV} {K:St->Prop} (h:BP T st t p v K): ∃s,Nv T st t p v=some s/\K s:=by
 unfold BP at h
 split at h
 ·obtain ⟨τ,h1,h⟩:=As.1 h
  obtain ⟨q,h2,h⟩:=As.1 h
  split at h
  ·rename_i hb
   obtain ⟨u,h3,h⟩:=As.1 h
   split at h
   ·rename_i hc
    obtain ⟨h4,h5⟩:=h
    obtain ⟨q1,q2⟩:=q
    obtain ⟨u1,u2⟩:=u
    exact ⟨_,by simp only [Nv,h1,h2,hb,h3];rw [dif_pos hc,if_pos h4],h5⟩
   ·cases h
  ·cases h
 ·exact As.1 h
theorem qA {st:St} {t:TypeId} {p v:AV} {K:St->Prop} (h:uF T st t p v K): ∃s,Jy T st t p v=some s/\K s:=by
 unfold uF at h
 unfold Jy
 split at h
 rotate_left
 ·rename_i hg;rw [hg];exact uJ h
 rename_i hg
 rw [hg]
 simp only
 unfold EE at h
 split at h
 ·obtain ⟨τ,h1,h⟩:=As.1 h
  obtain ⟨q,h2,h⟩:=As.1 h
  split at h
  ·rename_i hb
   obtain ⟨u,h3,h⟩:=As.1 h
   split at h
   ·rename_i hc
    obtain ⟨q1,q2⟩:=q
    obtain ⟨u1,u2⟩:=u
    exact ⟨_,by simp only [Va,h1,h2,hb,h3];rw [dif_pos hc],h⟩
   ·cases h
  ·cases h
 ·rename_i l j
  obtain ⟨τ,h1,h⟩:=As.1 h
  split at h
  ·rename_i e te rows out kp m off len hl _
   split at h
   ·rename_i fr tr e' tid xs hm
    split at h
    ·rename_i hc
     obtain ⟨h2,h3,h4,h5⟩:=h
     have h4:out=none\/out=some j:=by
      cases out with
      |none=>exact .inl rfl
      |some i=>exact .inr (congrArg some h4)
     exact ⟨_,by simp only [Va,h1,hl,hm];rw [dif_pos ⟨hc.1,hc.2,h2,h3,h4⟩],h5⟩
    ·cases h
   ·cases h
  ·cases h
 ·cases h
theorem Rh {st:St} {d:Nat} {t:TypeId} {x y:Operand} {K:AV->St->Prop} (h:gH T st d t x y K): ∃v s,Iq T st d t x y=some (v,s)/\K v s:=by
 unfold gH at h
 obtain ⟨te,h1,h⟩:=As.1 h
 obtain ⟨e,h2,h⟩:=As.1 h
 obtain ⟨q,h3,h⟩:=As.1 h
 obtain ⟨u,h4,h⟩:=As.1 h
 obtain ⟨q1,q2⟩:=q
 obtain ⟨u1,u2⟩:=u
 split at h
 ·rename_i hx
  split at h
  ·rename_i hd
   obtain ⟨h5,h6⟩:=h
   refine ⟨_,_,?_,h6⟩
   simp only [Iq,h1,h2,h3,h4]
   rw [hx]
   simp only
   rw [if_pos ⟨h5,by simpa [Nat.blt_eq] using hd⟩]
   simp
  ·cases h
 ·rename_i l off len hx
  split at h
  ·rename_i fr tr e' tid xs hb
   split at h
   ·rename_i hc
    obtain ⟨h5,h6,h7,h8⟩:=h
    refine ⟨_,_,?_,h8⟩
    simp only [Iq,h1,h2,h3,h4]
    rw [hx]
    simp only [hb]
    rw [dif_pos ⟨hc.1,hc.2.1⟩,if_pos ⟨h7,by simpa [Nat.blt_eq] using hc.2.2⟩]
    obtain ⟨PZ,ZE,SO⟩:=hc
    subst PZ
    subst h5
    simp only [List.drop_zero,h6,List.take_length,List.length_append]
   ·cases h
  ·cases h
 ·cases h
theorem mB {st:St} {d:Nat} {t:TypeId} {x y:Operand} {K:AV->St->Prop} (h:mA T st d t x y K): ∃v s,Lf T st d t x y=some (v,s)/\K v s:=by
 unfold mA at h
 cases x with
 |tmp tx=>
  simp only at h
  unfold Lf
  simp only
  cases hg:st.get tx with
  | «at»c=>
   rw [hg] at h
   cases c with
   |sub l i c=>
    simp only at h⊢
    obtain ⟨tid,h1,h⟩:=As.1 h
    split at h
    ·rename_i hl
     split at h
     ·rename_i hc
      obtain ⟨v,s,h2,h3⟩:=Rh h
      refine ⟨v,s,?_,h3⟩
      simp only [hl,h1]
      rw [if_pos hc]
      exact h2
     ·cases h
    ·cases h
   |_=>exact Rh h
  |_=>rw [hg] at h;exact Rh h
 |_=>exact Rh h
theorem xa {st:St} {d:Nat} {t:TypeId} {l c:AV} {K:AV->St->Prop} (h:LX T st d t l c K): ∃v s,Ux T st d t l c=some (v,s)/\K v s:=by
 unfold LX at h
 split at h
 ·obtain ⟨te,h1,h⟩:=As.1 h
  obtain ⟨e,h2,h⟩:=As.1 h
  split at h
  ·rename_i hz
   obtain ⟨h3,h4,h5⟩:=h
   refine ⟨_,_,?_,h5⟩
   simp only [Bool.and_eq_true] at hz
   simp only [Ux,h1,h2]
   rw [if_pos ⟨Nc.2 (by exact_mod_cast h3),h4,hz.1,by simpa [Nat.blt_eq] using hz.2⟩]
   simp
  ·cases h
 ·cases h
theorem tP {st:St} {d:Nat} {t:TypeId} {l c:AV} {K:AV->St->Prop} (h:zJ T st d t l c K): ∃v s,Qf T st d t l c=some (v,s)/\K v s:=by
 unfold zJ at h
 unfold Qf
 cases hg:Yp T t with
 |none=>rw [hg] at h;exact xa h
 |some p=>
  obtain ⟨te,e⟩:=p
  rw [hg] at h
  simp only at h⊢
  split at h
  ·split at h
   ·rename_i hd
    obtain ⟨h3,h4,h5⟩:=h
    refine ⟨_,_,?_,h5⟩
    simp only
    rw [if_pos ⟨Nc.2 (by exact_mod_cast h3),h4,by simpa [Nat.blt_eq] using hd⟩]
    simp
   ·cases h
  ·cases h
theorem fD {st:St} {d:Nat} {t:TypeId} {len:Nat} {parts:Array (Nat×Operand)} {K:AV->St->Prop} (h:Zz T st d t len parts K): ∃v s,Em T st d t len parts=some (v,s)/\K v s:=by
 unfold Zz at h
 unfold Em
 cases hg:Yp T t with
 |none=>
  rw [hg] at h
  obtain ⟨r,h1,h2⟩:=As.1 h
  exact ⟨r.1,r.2,h1,h2⟩
 |some p=>
  obtain ⟨te,e⟩:=p
  rw [hg] at h
  simp only at h⊢
  split at h
  ·rename_i x hp
   split at h
   ·rename_i m off ln hx
    split at h
    ·rename_i hm
     split at h
     ·rename_i hc
      obtain ⟨h1,h2,h3⟩:=h
      refine ⟨_,_,?_,h3⟩
      simp only [hp,hx,hm]
      rw [dif_pos ⟨hc.1,hc.2,h1,h2⟩]
     ·cases h
    ·cases h
   ·cases h
  ·cases h
theorem mD {st:St} {d:Nat} {t:TypeId} {x y:Operand} {K:AV->St->Prop} (h:mC T st d t x y K): ∃v s,Lg T st d t x y=some (v,s)/\K v s:=by
 unfold mC at h
 unfold Lg
 cases hg:Yp T t with
 |none=>rw [hg] at h;exact mB h
 |some p=>
  obtain ⟨te,e⟩:=p
  rw [hg] at h
  simp only at h⊢
  split at h
  ·rename_i l off len m ME nE hx hy
   split at h
   ·rename_i hl hm
    split at h
    ·rename_i hc
     obtain ⟨h1,h2,h3,h4,h5⟩:=h
     obtain ⟨⟨rfl,rfl⟩,hc⟩:=hc
     refine ⟨_,_,?_,h5⟩
     simp only [hx,hy,hl,hm]
     rw [dif_pos (⟨⟨trivial,trivial⟩,hc,h1,h2,h3,h4⟩)]
     simp
    ·cases h
   ·cases h
  ·cases h
theorem uO {st:St} {io:Bool} {k:Nat} {c:CK} {a:AC} {K:c.den->List (Nat×Loc)->Prop} (h:aS st io k c a K): ∃x t,Hc st io k c a=some (x,t)/\K x t:=by
 cases c with
 |Ee τ=>
  cases a with
  |own l off len=>
   obtain ⟨p,h1,h2⟩:=As.1 h
   exact ⟨_,_,by simp only [Hc];rw [h1];rfl,h2⟩
  |clo g Bv=>
   simp only [aS] at h
   split at h
   ·rename_i hc
    obtain ⟨p,h1,h2⟩:=As.1 h
    exact ⟨_,_,by simp only [Hc];rw [if_pos hc,h1];rfl,h2⟩
   ·cases h
  |Dp l i=>
   simp only [aS] at h
   split at h
   ·rename_i hc
    obtain ⟨p,h1,h2⟩:=As.1 h
    exact ⟨_,_,by simp only [Hc];rw [if_pos hc,h1];rfl,h2⟩
   ·cases h
  |sub l i c=>
   obtain ⟨p,h1,h2⟩:=As.1 h
   exact ⟨_,_,by simp only [Hc];rw [h1];rfl,h2⟩
  |_=>
   simp only [aS] at h
   split at h
   ·rename_i hc
    obtain ⟨p,h1,h2⟩:=As.1 h
    exact ⟨_,_,by simp only [Hc];rw [if_pos hc,h1];rfl,h2⟩
   ·cases h
 |row e te=>
  cases a<;>simp only [aS] at h<;>first|(cases h;done)|skip
  ·exact ⟨_,_,rfl,h⟩
  ·split at h
   ·rename_i hl
    split at h
    ·rename_i hc
     obtain ⟨h1,h2,h3⟩:=h
     exact ⟨_,_,by simp only [Hc,hl];rw [dif_pos ⟨hc.1,hc.2,h1,h2⟩],h3⟩
    ·cases h
   ·cases h
  ·split at h
   ·rename_i hl
    split at h
    ·rename_i hc
     obtain ⟨y,h1,h2⟩:=h
     exact ⟨_,_,by simp only [Hc,hl];rw [dif_pos hc,h1];rfl,h2⟩
    ·cases h
   ·cases h
 |Dq e te=>
  cases a<;>simp only [aS] at h<;>first|(cases h;done)|skip
  ·exact ⟨_,_,rfl,h⟩
  ·split at h
   ·rename_i hl
    split at h
    ·rename_i hc
     obtain ⟨h1,h2,h3⟩:=h
     exact ⟨_,_,by simp only [Hc,hl];rw [dif_pos ⟨hc.1,hc.2,h1,h2⟩],h3⟩
    ·cases h
   ·cases h
  ·split at h
   ·rename_i hl
    split at h
    ·rename_i hc
     obtain ⟨y,h1,h2⟩:=h
     exact ⟨_,_,by simp only [Hc,hl];rw [dif_pos hc,h1];rfl,h2⟩
    ·cases h
   ·cases h
 |part e te=>
  cases a<;>simp only [aS] at h<;>first|(cases h;done)|skip
  split at h
  ·rename_i hl
   split at h
   ·rename_i hc
    exact ⟨_,_,by simp only [Hc,hl];rw [dif_pos hc],h⟩
   ·cases h
  ·cases h
 |Ah e te kp=>
  cases a<;>simp only [aS] at h<;>first|(cases h;done)|skip
  split at h
  ·rename_i hl
   split at h
   ·rename_i hc
    obtain ⟨h1,h2,h3⟩:=h
    exact ⟨_,_,by simp only [Hc,hl];rw [dif_pos ⟨hc.1,hc.2.1,h1,h2,hc.2.2⟩],h3⟩
   ·cases h
  ·cases h
theorem xH {st:St} {e:Ty} {ys:List e.den} {a:AC} {K:St->Prop} (h:MR st e ys a K): ∃s,AM st e ys a=some s/\K s:=by
 cases a<;>simp only [MR] at h<;>first|(cases h;done)|skip
 split at h
 ·rename_i hl
  split at h
  ·rename_i hc
   obtain ⟨h1,h3⟩:=h
   exact ⟨_,by simp only [AM,hl];rw [dif_pos ⟨hc,h1⟩],h3⟩
  ·cases h
 ·cases h
theorem fc {st:St} : ∀(cs:List (Bool×CK)) (k:Nat) (as:List AC) (K:Ins.den cs->List (Nat×Loc)->Prop),uP st k cs as K-> ∃x t,aT st k cs as=some (x,t)/\K x t
 | [],_,[],_,h=>⟨_,_,rfl,h⟩
 | [],_,_::_,_,h=>h.elim
 |_::_,_,[],_,h=>h.elim
 |p::r,k,a::as,K,h=>by
  obtain ⟨x,t1,h1,h2⟩:=uO h
  obtain ⟨y,t2,h3,h4⟩:=fc r (k+1) as _ h2
  exact ⟨_,_,by simp only [aT,h1,h3],h4⟩
theorem l6 {st:St} {c:CK} {ys:c.den} {a:AC} {K:St->Prop} (h:l5 st c ys a K): ∃s,Wc st c ys a=some s/\K s:=by
 cases c with
 |Ee τ=>cases a<;>simp only [l5] at h<;>first|(cases h;done)|exact ⟨_,rfl,h⟩
 |row e te=>
  cases a<;>simp only [l5] at h<;>first|(cases h;done)|skip
  ·exact ⟨_,rfl,h⟩
  ·split at h
   ·rename_i hl
    split at h
    ·rename_i hc
     obtain ⟨h1,h3⟩:=h
     exact ⟨_,by simp only [Wc,hl];rw [dif_pos ⟨hc,h1⟩],h3⟩
    ·cases h
   ·cases h
  ·split at h
   ·rename_i hl
    split at h
    ·rename_i hc
     obtain ⟨y,h1,h2,h3⟩:=h
     exact ⟨_,by simp only [Wc,hl,dif_pos hc,h1];rw [if_pos h2],h3⟩
    ·cases h
   ·cases h
 |Dq e te=>
  cases a<;>simp only [l5] at h<;>first|(cases h;done)|skip
  ·exact ⟨_,rfl,h⟩
  ·split at h
   ·rename_i hl
    split at h
    ·rename_i hc
     obtain ⟨h1,h3⟩:=h
     exact ⟨_,by simp only [Wc,hl];rw [dif_pos ⟨hc,h1⟩],h3⟩
    ·cases h
   ·cases h
  ·split at h
   ·rename_i hl
    split at h
    ·rename_i hc
     obtain ⟨y,h1,h2,h3⟩:=h
     exact ⟨_,by simp only [Wc,hl,dif_pos hc,h1];rw [if_pos h2],h3⟩
    ·cases h
   ·cases h
 |part e te=>cases a<;>simp only [l5] at h<;>first|(cases h;done)|exact ⟨_,rfl,h⟩
 |Ah e te kp=>cases a<;>simp only [l5] at h<;>first|(cases h;done)|exact ⟨_,rfl,h⟩
theorem Kd: ∀(cs:List (Bool×CK)) (o:IOs.den cs) (as:List AC) (st:St) (K:St->Prop),cP cs o as st K-> ∃s,Ea cs o as st=some s/\K s
 | [],_,_,st,K,h=>⟨st,rfl,h⟩
 |(true, .Ee _)::r,o,[],st,K,h=>h.elim
 |(true, .row _ _)::r,o,[],st,K,h=>h.elim
 |(true, .Dq _ _)::r,o,[],st,K,h=>h.elim
 |(true, .part _ _)::r,o,[],st,K,h=>h.elim
 |(true, .Ah _ _ _)::r,o,[],st,K,h=>h.elim
 |(true, .Ah _ _ _)::r,o,a::as,st,K,h=>by
  obtain ⟨s,h1,h2⟩:=Kd r o as st K h
  exact ⟨s,by simp only [Ea];exact h1,h2⟩
 |(false,_)::r,o,[],st,K,h=>h.elim
 |(true, .Ee _)::r,o,a::as,st,K,h=>by
  obtain ⟨s,h1,h2⟩:=Kd r o as st K h
  exact ⟨s,by simp only [Ea];exact h1,h2⟩
 |(false,_)::r,o,a::as,st,K,h=>by
  obtain ⟨s,h1,h2⟩:=Kd r o as st K h
  exact ⟨s,by simp only [Ea];exact h1,h2⟩
 |(true, .row _ _)::r,o,a::as,st,K,h=>by
  obtain ⟨s1,h1,h2⟩:=l6 h
  obtain ⟨s,h3,h4⟩:=Kd r o.2 as s1 K h2
  exact ⟨s,by simp only [Ea,h1];exact h3,h4⟩
 |(true, .part _ _)::r,o,a::as,st,K,h=>by
  obtain ⟨s1,h1,h2⟩:=xH h
  obtain ⟨s,h3,h4⟩:=Kd r o.2 as s1 K h2
  exact ⟨s,by simp only [Ea,h1];exact h3,h4⟩
 |(true, .Dq _ _)::r,o,a::as,st,K,h=>by
  obtain ⟨s1,h1,h2⟩:=l6 h
  obtain ⟨s,h3,h4⟩:=Kd r o.2 as s1 K h2
  exact ⟨s,by simp only [Ea,h1];exact h3,h4⟩
theorem lh {H:List (Nat×OB)} {ls:List Nat} {n:Nat} {K:Prop} : ∀(l:List AV),oW H ls n l K->Xy H ls n l=true/\K
 | [],h=>⟨rfl,h⟩
 |a::r,h=>by
  have go:oW H ls n r K->Xy H ls n r=true/\K:=lh r
  cases a with
  | «at»c=>
   cases c with
   |sub l i c=>
    simp only [oW] at h
    simp only [Xy]
    split at h
    ·rename_i hc
     obtain ⟨⟨h1,h2⟩,h3⟩:=h
     obtain ⟨g1,g2⟩:=go h3
     exact ⟨by simp only [hc,g1,Bool.and_true,Bool.not_true,Bool.false_or,Bool.and_eq_true,Nat.blt_eq];exact ⟨h1,h2⟩,g2⟩
    ·rename_i hc
     obtain ⟨g1,g2⟩:=go h
     exact ⟨by simp only [hc,g1,Bool.not_false,Bool.true_or,Bool.and_true],g2⟩
   |_=>exact go h
  |_=>exact go h
theorem sL {st:St} {d:Option Nat} {s:MSpec} {args:List AV} {K:AV->St->Prop} (h:yV st d s args K): ∃v s',Qd st d s args=some (v,s')/\K v s':=by
 unfold yV at h
 obtain ⟨⟨pl,cells,rest⟩,h0,h⟩:=As.1 h
 obtain ⟨as,h1,h⟩:=As.1 h
 obtain ⟨x,tks,h2,h⟩:=fc s.ins 0 (cells++as) _ h
 split at h
 ·rename_i hc
  obtain ⟨⟨r,o⟩,h3,h⟩:=h
  obtain ⟨st1,h4,h⟩:=Kd s.ins o (cells++as) st _ h
  obtain ⟨v,h5,h6⟩:=As.1 h
  obtain ⟨h7,h6⟩:=lh _ h6
  refine ⟨v,_,?_,h6⟩
  unfold Qd
  simp only [h0,h1,h2]
  rw [if_pos hc]
  simp only [h3,h4,h5]
  rw [if_pos h7]
 ·cases h
theorem GA {w:WS} (hw:w.OK) {o:Oper} {K:AV->WS->Prop} (h:TY T Γ w o K):
  ∃v w',evalOp T Γ w.st o=some (v,w'.st)/\w'.OK/\(∀b,Dj w'.kn o=some b-> ∃fr,v= .at (.data fr .bool b))/\K v w':=by
 have fin: ∀v s,(∀b,Dj w.kn o=some b-> ∃fr,v= .at (.data fr .bool b))->evalOp T Γ w.st o=some (v,s)->K v (w.to s)-> ∃v w',evalOp T Γ w.st o=some (v,w'.st)/\w'.OK/\(∀b,Dj w'.kn o=some b-> ∃fr,v= .at (.data fr .bool b))/\K v w':=
  fun v s hk h1 h2=>⟨v,w.to s,h1,hw.to (gX h1),hk,h2⟩
 have sX:(∀b v s,Dj w.kn o=some b->evalOp T Γ w.st o=some (v,s)-> ∃fr,v= .at (.data fr .bool b))->Dy (evalOp T Γ w.st o) (λr=>K r.1 (w.to r.2))-> ∃v w',evalOp T Γ w.st o=some (v,w'.st)/\w'.OK/\(∀b,Dj w'.kn o=some b-> ∃fr,v= .at (.data fr .bool b))/\K v w':=by
  intro hk h
  obtain ⟨r,h1,h2⟩:=As.1 h
  exact fin r.1 r.2 (λb hb=>hk b _ _ hb h1) h1 h2
 unfold TY at h
 split at h
 ·rename_i heq
  obtain ⟨s,h1,h2⟩:=qA h
  refine fin _ _ (λb hb=>by unfold Dj at hb;rw [heq] at hb;cases hb) ?_ h2
  unfold evalOp;rw [heq];simp only [h1];rfl
 ·rename_i heq
  obtain ⟨d,h1,h⟩:=As.1 h
  obtain ⟨v,s,h2,h3⟩:=tP h
  refine fin _ _ (λb hb=>by unfold Dj at hb;rw [heq] at hb;cases hb) ?_ h3
  unfold evalOp;rw [heq];simp only [h1,h2]
 ·rename_i heq
  split at h
  ·rename_i hd ha ht
   split at h
   ·rename_i Om
    obtain ⟨v,s,h2,h3⟩:=mD h
    refine fin _ _ (λb hb=>by unfold Dj at hb;rw [heq] at hb;cases hb) ?_ h3
    unfold evalOp;rw [heq];simp only [hd,ha,ht,if_pos Om,h2]
   ·cases h
  ·cases h
 ·rename_i heq;exact sX (λb v s hb he=>nQ hw heq hb he) h
 ·rename_i heq;exact sX (λb v s hb he=>by unfold Dj at hb;rw [heq] at hb;cases hb) h
 ·rename_i heq;exact sX (λb v s hb he=>by unfold Dj at hb;rw [heq] at hb;cases hb) h
 ·rename_i heq
  obtain ⟨d,h1,h⟩:=As.1 h
  obtain ⟨v,s,h2,h3⟩:=fD h
  refine fin _ _ (λb hb=>by unfold Dj at hb;rw [heq] at hb;cases hb) ?_ h3
  unfold evalOp;rw [heq];simp only [h1,h2]
 ·rename_i heq;exact sX (λb v s hb he=>by unfold Dj at hb;rw [heq] at hb;cases hb) h
 ·rename_i heq;exact sX (λb v s hb he=>by unfold Dj at hb;rw [heq] at hb;cases hb) h
 ·rename_i heq;exact sX (λb v s hb he=>by unfold Dj at hb;rw [heq] at hb;cases hb) h
 ·rename_i heq;exact sX (λb v s hb he=>by unfold Dj at hb;rw [heq] at hb;cases hb) h
 ·rename_i heq;exact sX (λb v s hb he=>by unfold Dj at hb;rw [heq] at hb;cases hb) h
 ·rename_i heq;exact sX (λb v s hb he=>by unfold Dj at hb;rw [heq] at hb;cases hb) h
 ·
  rename_i f _ _ heq
  split at h
  ·rename_i Mg
   obtain ⟨v,s',h1,h2⟩:=sL h
   refine fin v s' (λb hb=>by unfold Dj at hb;rw [heq] at hb;cases hb) ?_ h2
   unfold evalOp;rw [heq];simp only [Mg];exact h1
  ·rename_i s Mg
   split at h
   ·rename_i DO
    obtain ⟨st1,hs,h⟩:=As.1 h
    obtain ⟨v,w',h1,h2,h3,PT,h4⟩:=cQ (hw.to (Ss _ hs)) h
    refine ⟨v,w',?_,h3,PT,h4⟩
    have h1:Ch T Γ st1 o=some v:=h1
    have h2:w'.st=st1:=h2
    unfold evalOp
    rw [heq]
    simp only [Mg,DO,hs,h1,h2]
    rfl
   ·rename_i DO
    obtain ⟨v,w',h1,h2,h3,PT,h4⟩:=cQ hw h
    refine ⟨v,w',?_,h3,PT,h4⟩
    unfold evalOp
    rw [heq]
    simp only [Mg,DO,h1,h2]
    rfl
  ·rename_i Aks Aat
   obtain ⟨v,w',h1,h2,h3,PT,h4⟩:=cQ hw h
   refine ⟨v,w',?_,h3,PT,h4⟩
   unfold evalOp
   rw [heq]
   simp only
   rw [h1,h2];rfl
 ·rename_i n1 n2 n3 n4 n5 n6 n7 n8 n9 n10 n11 n12 n13 n14
  obtain ⟨v,w',h1,h2,h3,PT,h4⟩:=cQ hw h
  refine ⟨v,w',?_,h3,PT,h4⟩
  unfold evalOp
  split
  all_goals first
   |(rw [h1,h2];rfl)
   |(rename_i hq;exact absurd hq (by first|exact n1 _|exact n2 _|exact n3 _|exact n4 _|exact n5 _|exact n6 _|exact n7 _|exact n8 _|exact n9 _|exact n10 _|exact n11 _|exact n12 _|exact n13 _|exact n14 _))
   |(rename_i hq;exact absurd hq (by first|exact n1 _ _|exact n2 _ _|exact n3 _ _|exact n4 _ _|exact n5 _ _|exact n6 _ _|exact n7 _ _|exact n8 _ _|exact n9 _ _|exact n10 _ _|exact n11 _ _|exact n12 _ _|exact n13 _ _|exact n14 _ _))
   |(rename_i hq;exact absurd hq (by first|exact n1 _ _ _|exact n2 _ _ _|exact n3 _ _ _|exact n4 _ _ _|exact n5 _ _ _|exact n6 _ _ _|exact n7 _ _ _|exact n8 _ _ _|exact n9 _ _ _|exact n10 _ _ _|exact n11 _ _ _|exact n12 _ _ _|exact n13 _ _ _|exact n14 _ _ _))
   |(rename_i hq;exact absurd hq (by first|exact n1 _ _ _ _|exact n2 _ _ _ _|exact n3 _ _ _ _|exact n4 _ _ _ _|exact n5 _ _ _ _|exact n6 _ _ _ _|exact n7 _ _ _ _|exact n8 _ _ _ _|exact n9 _ _ _ _|exact n10 _ _ _ _|exact n11 _ _ _ _|exact n12 _ _ _ _|exact n13 _ _ _ _|exact n14 _ _ _ _))
theorem ta (st:St) (d:Nat) (v:AV):(st.put (some d) v).get d=v\/(st.put (some d) v).get d= .undef:=by
 simp only [St.put,St.get]
 rw [Um]
 by_cases h:d<st.tmps.length
 ·exact .inl (by rw [if_pos ⟨rfl,h⟩])
 ·refine .inr ?_
  rw [if_neg (λhc=>h hc.2),List.getD_eq_getElem?_getD,List.getElem?_eq_none (by omega)]
  rfl
theorem WS.OK.qe {w:WS} (hw:w.OK) (o:Oper) (v:AV) (h: ∀b,Dj w.kn o=some b-> ∃fr,v= .at (.data fr .bool b)):(w.qe o v).OK/\(w.qe o v).st=w.st.put o.dst v:=by
 unfold WS.qe
 split
 ·rename_i d b hd hk
  split
  ·rename_i fr c hg
   refine ⟨?_,by rw [hd]⟩
   obtain ⟨Ow,hv⟩:=h b hk
   intro t b' hb
   simp only [pP] at hb
   split at hb
   ·rename_i ht
    injection hb with hb
    subst ht;subst hb
    refine ⟨Ow,?_⟩
    show (w.st.put (some d) v).get d=_
    cases ta w.st d v with
    |inl h1=>rw [h1,hv]
    |inr h1=>rw [h1] at hg;cases hg
   ·exact hw.put (some d) v t b' hb
  ·exact ⟨hw.put _ _,by rw [WS.o4,hd]⟩
 ·exact ⟨hw.put _ _,WS.o4 _ _ _⟩
theorem lg {ops:Array Oper} {w:WS} (hw:w.OK) {o:Oper} {run:(AV->WS->Prop)->WS->Prop} {R:St->Option (AV×St)} {K:WS->Prop}
  (hr: ∀(k:AV->WS->Prop) (w:WS),w.OK->run k w-> ∃v w',R w.st=some (v,w'.st)/\w'.OK/\(∀b,Dj w'.kn o=some b-> ∃fr,v= .at (.data fr .bool b))/\k v w') (h:eZ ops w o run K):
  ∃w',(match o.guard with
   |none=>(R w.st).map λr=>r.2.put o.dst r.1
   |some (j,want)=>match Px w.st ((ops[j]?).bind (·.dst)) with
    |some (some b)=>if b==want then (R w.st).map λr=>r.2.put o.dst r.1 else some (w.st.put o.dst (.at .skip))
    |some none=>some (w.st.put o.dst (.at .skip))
    |none=>none)=some w'.st/\w'.OK/\K w':=by
 have go: ∀w:WS,w.OK->run (λv w'=>K (w'.qe o v)) w-> ∃w',((R w.st).map λr=>r.2.put o.dst r.1)=some w'.st/\w'.OK/\K w':=by
  intro w hw h
  obtain ⟨v,w',h1,h2,h3,h4⟩:=hr _ _ hw h
  obtain ⟨h5,h6⟩:=h2.qe o v h3
  exact ⟨w'.qe o v,by rw [h1,h6];rfl,h5,h4⟩
 unfold eZ at h
 split at h
 ·rename_i hg
  rw [hg]
  exact go w hw h
 ·rename_i j want hg
  rw [hg]
  obtain ⟨t,h1,h⟩:=As.1 h
  simp only [h1]
  split at h
  ·rename_i hs
   have hsk:w.st.get t= .at .skip:=by
    unfold AV.LL at hs
    split at hs
    ·assumption
    ·cases hs
   exact ⟨_,by simp only [Px,hsk];rw [WS.o4],hw.put _ _,h⟩
  ·obtain ⟨fr,b,w',h2,h3,h4,h5⟩:=qZ hw h
   have hb:Px w.st (some t)=some (some b):=by simp only [Px,h2]
   rw [hb]
   simp only
   cases b with
   |true=>
    cases want with
    |true=>rw [if_pos (by decide),<-h3];exact go w' h4 h5
    |false=>exact ⟨_,by rw [if_neg (by decide),<-h3,WS.o4],h4.put _ _,h5⟩
   |false=>
    cases want with
    |false=>rw [if_pos (by decide),<-h3];exact go w' h4 h5
    |true=>exact ⟨_,by rw [if_neg (by decide),<-h3,WS.o4],h4.put _ _,h5⟩
theorem dh {ops:Array Oper} {w:WS} (hw:w.OK) {o:Oper} {K:WS->Prop} (h:eZ ops w o (λk w'=>TY T Γ w' o k) K): ∃w',Ci T Γ ops w.st o=some w'.st/\w'.OK/\K w':=by
 obtain ⟨w',h1,h2⟩:=lg hw (R:= λst=>evalOp T Γ st o) (λk w hw h=>by
  obtain ⟨v,w',h1,h2,SH,h3⟩:=GA hw h
  exact ⟨v,w',h1,h2,SH,h3⟩) h
 exact ⟨w',h1,h2⟩
theorem JN {w:WS} (hw:w.OK) {o:Oper} {K:AV->WS->Prop} (h:bW T Γ w o K):
  ∃v w',Ru T Γ w.st o=some v/\w'.st=w.st/\w'.OK/\(∀b,Dj w'.kn o=some b-> ∃fr,v= .at (.data fr .bool b))/\K v w':=by
 unfold bW at h
 split at h
 ·rename_i t len parts mb
  obtain ⟨v,h1,h2⟩:=As.1 h
  exact ⟨v,w,by unfold Ru;rw [mb];exact h1,rfl,hw,λb hb=>by simp [Dj,mb] at hb,h2⟩
 ·rename_i t parts mb
  obtain ⟨v,h1,h2⟩:=As.1 h
  exact ⟨v,w,by unfold Ru;rw [mb];exact h1,rfl,hw,λb hb=>by simp [Dj,mb] at hb,h2⟩
 ·rename_i n1 n2
  obtain ⟨v,w',h1,h2⟩:=cQ hw h
  refine ⟨v,w',?_,h2⟩
  rw [<-h1]
  unfold Ru
  split
  ·rename_i h9;exact absurd h9 (n1 _ _ _)
  ·rename_i h9;exact absurd h9 (n2 _ _)
  ·rfl
theorem RH {ops:Array Oper} {w:WS} (hw:w.OK) {o:Oper} {K:WS->Prop} (h:eZ ops w o (λk w'=>bW T Γ w' o k) K): ∃v w',bK T Γ ops w.st o=some v/\w'.st=w.st.put o.dst v/\w'.OK/\K w':=by
 obtain ⟨w',h1,h2,h3⟩:=lg hw (R:= λst=>(Ru T Γ st o).map λv=>(v,st)) (λk w hw h=>by
  obtain ⟨v,w',h1,h2,h3,PT,h4⟩:=JN hw h
  exact ⟨v,w',by simp only [h1,h2];rfl,h3,PT,h4⟩) h
 have key: ∀u:Option AV,((u.map λv=>(v,w.st)).map λr=>r.2.put o.dst r.1)=some w'.st-> ∃v,u=some v/\w'.st=w.st.put o.dst v:=by
  intro u hu
  cases u with
  |none=>cases hu
  |some v=>injection hu with hu;exact ⟨v,rfl,hu.symm⟩
 unfold bK
 split at h1
 ·rename_i hg
  obtain ⟨v,h4,h5⟩:=key _ h1
  exact ⟨v,w',by rw [hg];exact h4,h5,h2,h3⟩
 ·rename_i j want hg
  rw [hg]
  split at h1
  ·rename_i b hb
   simp only [hb]
   split at h1
   ·rename_i KB
    obtain ⟨v,h4,h5⟩:=key _ h1
    exact ⟨v,w',by rw [if_pos KB];exact h4,h5,h2,h3⟩
   ·rename_i KB
    injection h1 with h1
    exact ⟨_,w',by rw [if_neg KB],h1.symm,h2,h3⟩
  ·rename_i hb
   simp only [hb]
   injection h1 with h1
   exact ⟨_,w',rfl,h1.symm,h2,h3⟩
  ·cases h1
theorem nR {ops:Array Oper} : ∀(l:List Oper) {w:WS} (_:w.OK) {K:WS->Prop},XK T Γ ops l w K-> ∃w',Tn T Γ ops l w.st=some w'.st/\w'.OK/\K w'
 | [],w,hw,K,h=>⟨w,rfl,hw,h⟩
 |o::r,w,hw,K,h=>by
  obtain ⟨w1,h1,h2,h3⟩:=dh hw h
  obtain ⟨w2,h4,h5⟩:=nR r h2 h3
  exact ⟨w2,by simp only [Tn];rw [h1];exact h4,h5⟩
theorem aj {ops:Array Oper} : ∀(l:List Nat) {w:WS} (_:w.OK) {K:WS->Prop},KZ T Γ ops l w K-> ∃w',Iz T Γ ops l w.st=some w'.st/\w'.OK/\K w'
 | [],w,hw,K,h=>⟨w,rfl,hw,h⟩
 |i::r,w,hw,K,h=>by
  obtain ⟨o,h0,h⟩:=As.1 h
  obtain ⟨w1,h1,h2,h3⟩:=dh hw h
  obtain ⟨w2,h4,h5⟩:=aj r h2 h3
  exact ⟨w2,by simp only [Iz];rw [h0];simp only [h1];exact h4,h5⟩
theorem Rz {ops:Array Oper} : ∀(l:List Nat) {w:WS} (_:w.OK) {K:WS->Prop},rm T Γ ops l w K-> ∃w',Dz T Γ ops l w.st=some w'.st/\w'.OK/\K w'
 | [],w,hw,K,h=>⟨w,rfl,hw,h⟩
 |i::r,w,hw,K,h=>by
  obtain ⟨o,h0,h⟩:=As.1 h
  obtain ⟨v,w1,h1,h1',h2,h3⟩:=RH hw h
  obtain ⟨w2,h4,h5⟩:=Rz r h2 h3
  exact ⟨w2,by simp only [Dz];rw [h0];simp only [h1];rw [<-h1'];exact h4,h5⟩
theorem my {P:Nat->Prop} : ∀(l:List Nat),PI l P-> ∀i∈l,P i
 | [],_,i,hi=>by cases hi
 | [k],h,i,hi=>by rw [List.mem_singleton.1 hi];exact h
 |k::j::r,h,i,hi=>by
  rcases List.mem_cons.1 hi with rfl|hi
  ·exact h.1
  ·exact my (j::r) h.2 i hi
theorem fz {ops:Array Oper} {K:WS->Prop} : ∀(f:Nat) (Ac:Array Bool) {w:WS} (_:w.OK),EN T Γ ops f Ac w K->anyS T Γ ops (λs=> ∃w':WS,w'.st=s/\w'.OK/\K w') f Ac w.st
 |0,Ac,w,hw,h=>by
  unfold EN at h
  split at h
  ·rename_i hr;exact ⟨hr,w,rfl,hw,h⟩
  ·cases h
 |f+1,Ac,w,hw,h=>by
  unfold EN at h
  split at h
  ·cases h
  ·rename_i i r hr
   refine ⟨by rw [hr];simp,λk hk=>?_⟩
   rw [hr] at hk
   obtain ⟨o,h0,h1⟩:=As.1 (my _ h k hk)
   obtain ⟨w1,h2,h3,h4⟩:=dh hw h1
   exact ⟨o,w1.st,h0,h2,fz f _ h3 h4⟩
theorem a9 {ops:Array Oper} {K:WS->Prop} : ∀(f:Nat) (Ac:Array Bool) {w:WS} (_:w.OK),jv T Γ ops f Ac w K-> ∃w':WS,w'.OK/\K w'
 |0,Ac,w,hw,h=>by
  simp only [jv] at h
  split at h
  ·exact ⟨w,hw,h⟩
  ·exact h.elim
 |f+1,Ac,w,hw,h=>by
  simp only [jv] at h
  split at h
  ·exact h.elim
  ·obtain ⟨o,ho,h1⟩:=As.1 h
   obtain ⟨w',h2,h3,h4⟩:=dh hw h1
   exact a9 f _ h3 h4
theorem kA {P:List (Nat×Nat×AV×OB)} {ops:Array Oper} {K:WS->Prop} : ∀(f:Nat) (Ac:Array Bool) {w:WS} (_:w.OK),vL T Γ P ops f Ac w K->UN T Γ ops P (λs=> ∃w':WS,w'.st=s/\w'.OK/\K w') f Ac w.st
 |0,Ac,w,hw,h=>by
  unfold vL at h
  split at h
  ·rename_i hr;exact ⟨hr,w,rfl,hw,h⟩
  ·cases h
 |f+1,Ac,w,hw,h=>by
  unfold vL at h
  split at h
  ·cases h
  ·rename_i i r hr
   refine ⟨by rw [hr];simp,λk hk=>?_⟩
   rw [hr] at hk
   obtain ⟨o,h0,h1⟩:=As.1 (my _ h k hk)
   split at h1
   ·rename_i ei
    obtain ⟨w1,h2,h3,h4⟩:=dh hw h1
    exact ⟨o,w1.st,h0,ei,h2,kA f _ h3 h4⟩
   ·cases h1
theorem xl {α:Type} (f:α->Nat) {l:List α} (h:Su (l.map f)=true):l.Pairwise λa c=>f a≠f c:=List.pairwise_map.1 (Qn h)
theorem pz {ops:Array Oper} {L0:Array Bool} {n:Nat} {w:WS} (hw:w.OK) {K:WS->Prop} (hc:Th ops L0) (h:sK T Γ (Rr T ops L0) n L0 ops w K):anyS T Γ ops (λs=> ∃w':WS,w'.st=s/\w'.OK/\K w') n L0 w.st:=by
 unfold sK at h
 split at h
 ·rename_i hb
  simp only [Bool.and_eq_true] at hb
  obtain ⟨⟨b1,b2⟩,b3,b4,b5⟩:=hb
  have hm: ∀a∈Rr T ops L0,a.1∈Region.ready .any ops L0/\ ∃o,ops[a.1]?=some o/\Zw T o=some a.2:= λa ha=>sG ha
  have p1:=xl (λa:Nat×Nat×AV×OB=>a.1) b1
  have p2:=xl (λa:Nat×Nat×AV×OB=>a.2.1) b2
  have hlen:(Rr T ops L0).length<=n:=Nat.le_of_ble_eq_true b4
  obtain ⟨w1,h1,h2,h3⟩:=aj _ hw h
  have h3:=ae.1 h3
  obtain ⟨w0,g1,g2⟩:=a9 _ _ h2 h3
  obtain ⟨g3,g4⟩:=ae.1 g2
  have hp:=xF (Γ:=Γ) _ w.st w1.st (λa ha=>(hm a ha).2) (λa ha=>nN (List.all_eq_true.1 b3 a ha)) p2 h1
  refine dy (λs hs=>?_) _ _ _ (EM (λa ha=>(hm a ha).2) n (n-(Rr T ops L0).length) (Rr T ops L0) _ L0 w1.st w.st (by omega) (kA _ _ h2 g4) hp
   (PK (ops:=ops) λi hi=>by obtain ⟨a,ha,rfl⟩:=List.mem_map.1 hi;exact (hm a ha).1) (λa ha=>ha) (p2.and p1) hc λa ha x hx=>cS (hm a ha).1 hx)
  obtain ⟨w',h5,_,h6⟩:=hs
  exact ⟨w0,((h5.symm.trans (r9 h6)).symm),g1,g3⟩
 ·cases h
theorem qf {ops:Array Oper} {draw:Bool} {w:WS} (hw:w.OK) {K:WS->Prop} (h:ug T Γ ops draw w K):sB T Γ ops draw w.st (λs=> ∃w':WS,w'.st=s/\w'.OK/\K w'):=by
 unfold ug at h
 split at h
 ·split at h
  ·rename_i ho
   obtain ⟨w1,h1,h2,h3⟩:=Rz _ hw h
   obtain ⟨w2,h4,h5⟩:=aj _ h2 h3
   exact .inl ⟨w2.st,by simp only [Lh,if_true];rw [if_pos ho,h1];exact h4,w2,rfl,h5⟩
  ·rename_i ho
   split at h
   ·rename_i ho2
    obtain ⟨w1,h1,h2,h3⟩:=Rz _ hw h
    obtain ⟨w2,h4,h5⟩:=aj _ h2 h3
    exact .inl ⟨w2.st,by simp only [Lh,if_true];rw [if_neg (by rw [ho];decide),if_pos ho2,h1];exact h4,w2,rfl,h5⟩
   ·split at h
    ·rename_i hc
     simp only [Bool.and_eq_true] at hc
     obtain ⟨w1,h1,h2,h3⟩:=Rz _ hw h
     split at h3
     ·exact .inr ⟨rfl,hc.1,w1.st,h1,fz _ _ h2 h3⟩
     ·obtain ⟨w0,g1,g2⟩:=a9 _ _ h2 h3
      obtain ⟨g3,g4⟩:=ae.1 g2
      exact .inr ⟨rfl,hc.1,w1.st,h1,dy (λs hs=>by
       obtain ⟨w',h5,_,h6⟩:=hs
       exact ⟨w0,((h5.symm.trans (r9 h6)).symm),g1,g3⟩) _ _ _ (fz _ _ h2 g4)⟩
    ·split at h
     ·rename_i DO
      obtain ⟨w1,h1,h2,h3⟩:=Rz _ hw h
      exact .inr ⟨rfl,DO,w1.st,h1,pz h2 (a7 _ _ _ vZ) h3⟩
     ·cases h
 ·obtain ⟨w1,h1,h2⟩:=nR _ hw h
  exact .inl ⟨w1.st,by simp only [Lh];rw [if_neg (by simp)];exact h1,w1,rfl,h2⟩
end
end Go.Proofs.YtfolipnappekaaaGreat
