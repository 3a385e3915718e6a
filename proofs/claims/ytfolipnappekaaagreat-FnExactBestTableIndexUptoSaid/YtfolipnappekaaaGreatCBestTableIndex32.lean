/-
  Part 33 of the proof that the statement FnExactBestTableIndex holds.
-/
import Derived.Test.YtfolipnappekaaaGreatCBestTableIndex31
namespace Go.Proofs.YtfolipnappekaaaGreat
open Go.RowKit
section
variable {T:Tab} {Γ:Env}
def WS.OK (w:WS):Prop:= ∀t b,pS w.kn t=some b-> ∃fr,w.st.get t= .at (.data fr .bool b)
theorem fX: ∀(l:List (Nat×Bool)) (d t:Nat) (b:Bool),pS (rK l d) t=some b->t≠d/\pS l t=some b
 | [],_,_,_,h=>by cases h
 |(k,c)::r,d,t,b,h=>by
  simp only [rK] at h
  split at h
  ·rename_i hk
   have:=fX r d t b h
   refine ⟨this.1,?_⟩
   simp only [pS]
   rw [if_neg (by rw [hk];exact λh=>this.1 h.symm)]
   exact this.2
  ·rename_i hk
   simp only [pS] at h⊢
   split at h
   ·rename_i OT
    exact ⟨by rw [<-OT];exact hk,by rw [if_pos OT];exact h⟩
   ·rename_i OT
    rw [if_neg OT]
    exact fX r d t b h
theorem WS.OK.put {w:WS} (h:w.OK) (dst:Option Tmp) (v:AV):(w.put dst v).OK:=by
 cases dst with
 |none=>exact h
 |some d=>
  intro t b hb
  obtain ⟨h1,h2⟩:=fX _ _ _ _ hb
  obtain ⟨fr,h3⟩:=h t b h2
  exact ⟨fr,by show (w.st.put (some d) v).get t=_;rw [Vb _ _ h1];exact h3⟩
theorem WS.oa (w:WS) (dst:Option Tmp) (v:AV):(w.put dst v).st=w.st.put dst v:=by cases dst<;>rfl
theorem WS.OK.to {w:WS} (h:w.OK) {s:St} (hs:Aw w.st s):(w.to s).OK:=by
 intro t b hb
 obtain ⟨fr,h3⟩:=h t b hb
 exact ⟨fr,hs t fr _ _ h3⟩
theorem r7 {w:WS} (hw:w.OK) {t:Nat} {K:Bool->WS->Prop} (h:brT w t K):
  ∃fr b w',w.st.get t= .at (.data fr .bool b)/\w'.st=w.st/\w'.OK/\K b w':=by
 unfold brT at h
 split at h
 ·rename_i b hb
  obtain ⟨fr,h1⟩:=hw t b hb
  exact ⟨fr,b,w,h1,rfl,hw,h⟩
 ·split at h
  ·rename_i fr b hb
   obtain ⟨h1,h2⟩:=h
   have ok: ∀c:Bool,b=c->WS.OK {kn:=(t,c)::w.kn,st:=w.st} :=by
    intro c hc t' b' h'
    simp only [pS] at h'
    split at h'
    ·rename_i ht
     injection h' with h'
     exact ⟨fr,by rw [<-ht,<-h',<-hc];exact hb⟩
    ·exact hw t' b' h'
   cases b with
   |true=>exact ⟨fr,true, {kn:=(t,true)::w.kn,st:=w.st},hb,rfl,ok true rfl,h1 rfl⟩
   |false=>exact ⟨fr,false, {kn:=(t,false)::w.kn,st:=w.st},hb,rfl,ok false rfl,h2 rfl⟩
  ·cases h
theorem r6 {w:WS} (hw:w.OK) {c:Operand} {K:Bool->WS->Prop} (h:brO w c K):
  ∃fr b w',w.st.ev c= .at (.data fr .bool b)/\w'.st=w.st/\w'.OK/\K b w':=by
 unfold brO at h
 split at h
 ·exact r7 hw h
 ·exact ⟨true,_,w,rfl,rfl,hw,h⟩
 ·cases h
theorem yX {op:BinOp} {t:TypeId} {x y:AV} {K:AV->Prop} (h:UP T op t x y K): ∃v,Mx T op t x y=some v/\K v:=by
 unfold UP at h
 split at h
 ·split at h
  ·rename_i hk
   exact ⟨_,by simp only [Mx,evalBin,nF];rw [if_pos hk,if_neg h.1];rfl,h.2⟩
  ·cases h
 ·split at h
  ·rename_i hk
   exact ⟨_,by simp only [Mx,evalBin,nF];rw [if_pos hk,if_neg h.1];rfl,h.2⟩
  ·cases h
 ·exact ⟨_,by simp only [Mx,evalBin];rw [if_neg h.1];rfl,h.2⟩
 ·exact ⟨_,by simp only [Mx,evalBin];rw [if_neg h.1];rfl,h.2⟩
 ·exact ⟨_,by simp only [Mx,evalBin];rw [if_pos h.1],h.2⟩
 ·exact As.1 h
theorem x6 {st:St} {t:TypeId} {p:AV} {K:AV->Prop} (h:LM T st t p K): ∃v,Kh T st t p=some v/\K v:=by
 unfold LM at h
 split at h
 ·obtain ⟨τ,h1,h2⟩:=As.1 h
  split at h2
  ·rename_i hb
   split at h2
   ·rename_i he
    obtain ⟨x,h3,h4⟩:=h2
    exact ⟨_,by simp only [Kh,h1,hb,if_pos he,h3];rfl,h4⟩
   ·cases h2
  ·rename_i hb
   split at h2
   ·rename_i he
    obtain ⟨x,h3,h4⟩:=h2
    exact ⟨_,by simp only [Kh,h1,hb,if_pos he,h3];rfl,h4⟩
   ·cases h2
  ·rename_i hb
   split at h2
   ·cases h2
   ·rename_i he
    exact ⟨_,by simp only [Kh,h1,hb,if_neg he],h2⟩
  ·cases h2
 ·obtain ⟨τ,h1,h2⟩:=As.1 h
  split at h2
  ·rename_i he
   obtain ⟨y,h3,h4⟩:=h2
   subst h3
   exact ⟨_,by simp only [Kh,h1,if_pos he],h4⟩
  ·cases h2
 ·exact As.1 h
theorem jx {s:TypeId} {x:AV} {f:Nat} {K:AV->Prop} (h:fK T s x f K): ∃v,Ip T s x f=some v/\K v:=by
 unfold fK at h
 split at h
 ·obtain ⟨y,h1,h2⟩:=h
  subst h1
  obtain ⟨v,h3,h4⟩:=As.1 h2
  refine ⟨v,?_,h4⟩
  rw [<-h3]
  unfold Ip
  cases T.off s f<;>rfl
 ·exact As.1 h
theorem uv {st:St} {t:TypeId} {x:AV} {lo hi:Option AV} {K:AV->Prop} (h:BE T st t x lo hi K): ∃v,Yk T st t x lo hi=some v/\K v:=by
 unfold BE at h
 obtain ⟨n,h1,h⟩:=As.1 h
 obtain ⟨l,h2,h⟩:=As.1 h
 obtain ⟨hh,h3,hc,h⟩:=As.1 h
 obtain ⟨v,h4,h5⟩:=As.1 h
 refine ⟨v,?_,h5⟩
 simp only [Yk,h1,h2,h3,if_pos hc]
 exact h4
theorem jG {st:St} {t:TypeId} {x i:AV} {K:AV->Prop} (h:fU T st t x i K): ∃v,Ga T st t x i=some v/\K v:=by
 unfold fU at h
 split at h
 ·split at h
  ·rename_i he
   obtain ⟨x,h3,h4⟩:=h
   exact ⟨_,by simp only [Ga,if_pos he,h3];rfl,h4⟩
  ·cases h
 ·split at h
  ·rename_i hb
   split at h
   ·rename_i he
    obtain ⟨h3,h4⟩:=h
    exact ⟨_,by simp only [Ga,hb];rw [if_pos ⟨he.1,he.2,Nc.2 h3⟩],h4⟩
   ·cases h
  ·rename_i hb
   split at h
   ·rename_i he
    obtain ⟨h3,h4⟩:=h
    exact ⟨_,by simp only [Ga,hb];rw [if_pos ⟨he.1,he.2,Nc.2 h3⟩],h4⟩
   ·cases h
  ·rename_i hb
   split at h
   ·rename_i he
    obtain ⟨h3,h4⟩:=h
    exact ⟨_,by simp only [Ga,hb];rw [if_pos ⟨he.1,he.2,Nc.2 h3⟩],h4⟩
   ·cases h
  ·cases h
 ·split at h
  ·rename_i hb
   split at h
   ·rename_i he
    obtain ⟨h3,h4⟩:=h
    exact ⟨_,by simp only [Ga,hb];rw [if_pos ⟨he,Nc.2 h3⟩],h4⟩
   ·cases h
  ·cases h
 ·cases h
theorem tv {t:TypeId} {x i:AV} {K:AV->Prop} (h:zz T t x i K): ∃v,dA T t x i=some v/\K v:=by
 unfold zz at h
 split at h
 ·split at h
  ·rename_i he
   obtain ⟨h1,b,h3,h4⟩:=h
   exact ⟨_,by simp only [dA,if_pos he,if_pos h1,h3];rfl,h4⟩
  ·cases h
 ·cases h
theorem We {st:St} {f:FuncId} {args:List AV} {K:AV->Prop} (h:r8 Γ st f args K): ∃v,Je Γ st f args=some v/\K v:=by
 unfold r8 at h
 obtain ⟨s,h1,h⟩:=As.1 h
 have h1:Γ f=some (.q s):=by
  split at h1
  ·rename_i s' hs;injection h1 with h1;rw [hs,h1]
  ·cases h1
 split at h
 ·rename_i hf
  obtain ⟨p,h2,y,h3,h4⟩:=As.1 h
  refine ⟨_,?_,h4⟩
  simp only [Je,h1]
  rw [if_pos hf,h2]
  simp only [h3]
  rfl
 ·cases h
theorem sN {st:St} {v:AV} {args:List AV} {K:AV->Prop} (h:z0 Γ st v args K): ∃u,Qf Γ st v args=some u/\K u:=by
 unfold z0 at h
 split at h
 ·split at h
  ·rename_i hc
   split at h
   ·rename_i hf
    obtain ⟨u,h1,h2⟩:=We h
    exact ⟨u,by simp only [Qf];rw [if_pos hc,if_pos (by simpa using hf)];exact h1,h2⟩
   ·rename_i hf
    obtain ⟨u,h1,h2⟩:=We h
    exact ⟨u,by simp only [Qf];rw [if_pos hc,if_neg (λhx=>by rw [show Nat.blt _ 1000000000=true from by simpa using hx] at hf;cases hf)];exact h1,h2⟩
  ·cases h
 ·exact We h
 ·cases h
theorem Js {w:WS} (hw:w.OK) {x:Operand} {b:Bool} (hk:Pc w.kn x=some b): ∃fr,w.st.ev x= .at (.data fr .bool b):=by
 unfold Pc at hk
 split at hk
 ·injection hk with hk;subst hk;exact ⟨true,rfl⟩
 ·exact hw _ _ hk
 ·cases hk
theorem pW {w:WS} (hw:w.OK) {o:Oper} {b:Bool} (hk:Di w.kn o=some b) {v:AV} (he:Cg T Γ w.st o=some v): ∃fr,v= .at (.data fr .bool b):=by
 unfold Di at hk
 split at hk
 ·rename_i heq;unfold Cg at he;rw [heq] at he;injection he with he;obtain ⟨fr,h⟩:=Js hw hk;exact ⟨fr,he.symm.trans h⟩
 ·rename_i heq;unfold Cg at he;rw [heq] at he;injection he with he;obtain ⟨fr,h⟩:=Js hw hk;exact ⟨fr,he.symm.trans h⟩
 ·rename_i x heq
  cases hx:Pc w.kn x with
  |none=>rw [hx] at hk;cases hk
  |some c=>
   rw [hx] at hk
   injection hk with hk
   obtain ⟨fr,h⟩:=Js hw hx
   unfold Cg at he;rw [heq] at he
   simp only [h,sV,Jm] at he
   injection he with he
   exact ⟨true,by rw [<-he,<-hk]⟩
 ·rename_i c x y heq
  unfold Cg at he;rw [heq] at he
  split at hk
  ·rename_i hc
   obtain ⟨fr,h⟩:=Js hw hc
   simp only [h,Yj,if_true] at he
   injection he with he
   obtain ⟨fr,h⟩:=Js hw hk
   exact ⟨fr,he.symm.trans h⟩
  ·rename_i hc
   obtain ⟨fr,h⟩:=Js hw hc
   simp only [h,Yj,Bool.false_eq_true,if_false] at he
   injection he with he
   obtain ⟨fr,h⟩:=Js hw hk
   exact ⟨fr,he.symm.trans h⟩
  ·cases hk
 ·cases hk
theorem nW {w:WS} (hw:w.OK) {o:Oper} {x:Operand} (ho:o.op= .assign x) {b:Bool} (hk:Di w.kn o=some b) {v:AV} {s:St} (he:evalOp T Γ w.st o=some (v,s)): ∃fr,v= .at (.data fr .bool b):=by
 unfold Di at hk
 rw [ho] at hk
 obtain ⟨fr,h⟩:=Js hw hk
 unfold evalOp at he;rw [ho] at he
 simp only [h] at he
 injection he with he;injection he with he;exact ⟨fr,he.symm⟩
theorem cO {w:WS} (hw:w.OK) {o:Oper} {K:AV->WS->Prop} (h:qW T Γ w o K):
  ∃v w',Cg T Γ w.st o=some v/\w'.st=w.st/\w'.OK/\(∀b,Di w'.kn o=some b-> ∃fr,v= .at (.data fr .bool b))/\K v w':=by
 have fin:(∃v w',Cg T Γ w.st o=some v/\w'.st=w.st/\w'.OK/\K v w')-> ∃v w',Cg T Γ w.st o=some v/\w'.st=w.st/\w'.OK/\(∀b,Di w'.kn o=some b-> ∃fr,v= .at (.data fr .bool b))/\K v w':=by
  rintro ⟨v,w',h1,h2,h3,h4⟩
  exact ⟨v,w',h1,h2,h3,λb hb=>pW h3 hb (by rw [h2];exact h1),h4⟩
 refine fin ?_
 unfold qW at h
 split at h
 ·rename_i c a b heq
  obtain ⟨fr,t,w',h1,h2,h3,h4⟩:=r6 hw h
  cases t with
  |true=>exact ⟨_,w',by unfold Cg;rw [heq];simp only [h1,Yj,if_true];rw [<-h2],h2,h3,h4⟩
  |false=>exact ⟨_,w',by unfold Cg;rw [heq];simp only [h1,Yj];rw [<-h2];simp,h2,h3,h4⟩
 ·rename_i heq
  obtain ⟨v,h1,h2⟩:=x6 h
  exact ⟨v,w,by unfold Cg;rw [heq];exact h1,rfl,hw,h2⟩
 ·rename_i heq
  obtain ⟨v,h1,h2⟩:=yX h
  exact ⟨v,w,by unfold Cg;rw [heq];exact h1,rfl,hw,h2⟩
 ·rename_i heq
  split at h
  ·obtain ⟨v,h1,h2⟩:=uv h
   exact ⟨v,w,by unfold Cg;rw [heq];simpa using h1,rfl,hw,h2⟩
  ·cases h
 ·rename_i heq
  obtain ⟨v,h1,h2⟩:=jG h
  exact ⟨v,w,by unfold Cg;rw [heq];exact h1,rfl,hw,h2⟩
 ·rename_i heq
  obtain ⟨v,h1,h2⟩:=tv h
  exact ⟨v,w,by unfold Cg;rw [heq];exact h1,rfl,hw,h2⟩
 ·rename_i heq
  obtain ⟨v,h1,h2⟩:=We h
  exact ⟨v,w,by unfold Cg;rw [heq];exact h1,rfl,hw,h2⟩
 ·rename_i heq
  obtain ⟨v,h1,h2⟩:=sN h
  exact ⟨v,w,by unfold Cg;rw [heq];exact h1,rfl,hw,h2⟩
 ·rename_i heq
  obtain ⟨v,h1,h2⟩:=jx h
  exact ⟨v,w,by unfold Cg;rw [heq];exact h1,rfl,hw,h2⟩
 ·rename_i x heq
  unfold rU at h
  split at h
  ·rename_i fr τ z hx
   obtain ⟨y,h1,h2⟩:=h
   subst h1
   exact ⟨_,w,by unfold Cg;rw [heq];simp only [hx],rfl,hw,h2⟩
  ·obtain ⟨v,h1,h2⟩:=As.1 h
   exact ⟨v,w,h1,rfl,hw,h2⟩
 ·obtain ⟨v,h1,h2⟩:=As.1 h
  exact ⟨v,w,h1,rfl,hw,h2⟩
theorem uI {st:St} {t:TypeId} {p v:AV} {K:St->Prop} (h:BS T st t p v K): ∃s,Nw T st t p v=some s/\K s:=by
 unfold BS at h
 split at h
 ·obtain ⟨τ,h1,h⟩:=As.1 h
  obtain ⟨q,h2,h⟩:=As.1 h
  split at h
  ·rename_i hb
   obtain ⟨u,h3,h⟩:=As.1 h
   split at h
   ·rename_i hc
    obtain ⟨h4,h5⟩:=h
    obtain ⟨q1,q2⟩:=q
    obtain ⟨u1,u2⟩:=u
    exact ⟨_,by simp only [Nw,h1,h2,hb,h3];rw [dif_pos hc,if_pos h4],h5⟩
   ·cases h
  ·cases h
 ·exact As.1 h
theorem qC {st:St} {t:TypeId} {p v:AV} {K:St->Prop} (h:uE T st t p v K): ∃s,Jw T st t p v=some s/\K s:=by
 unfold uE at h
 unfold Jw
 split at h
 rotate_left
 ·rename_i hg;rw [hg];exact uI h
 rename_i hg
 rw [hg]
 simp only
 unfold EG at h
 split at h
 ·obtain ⟨τ,h1,h⟩:=As.1 h
  obtain ⟨q,h2,h⟩:=As.1 h
  split at h
  ·rename_i hb
   obtain ⟨u,h3,h⟩:=As.1 h
   split at h
   ·rename_i hc
    obtain ⟨q1,q2⟩:=q
    obtain ⟨u1,u2⟩:=u
    exact ⟨_,by simp only [Uz,h1,h2,hb,h3];rw [dif_pos hc],h⟩
   ·cases h
  ·cases h
 ·rename_i l j
  obtain ⟨τ,h1,h⟩:=As.1 h
  split at h
  ·rename_i e te rows out kp m off len hl _
   split at h
   ·rename_i fr tr e' tid xs hm
    split at h
    ·rename_i hc
     obtain ⟨h2,h3,h4,h5⟩:=h
     have h4:out=none\/out=some j:=by
      cases out with
      |none=>exact .inl rfl
      |some i=>exact .inr (congrArg some h4)
     exact ⟨_,by simp only [Uz,h1,hl,hm];rw [dif_pos ⟨hc.1,hc.2,h2,h3,h4⟩],h5⟩
    ·cases h
   ·cases h
  ·cases h
 ·cases h
theorem Ri {st:St} {d:Nat} {t:TypeId} {x y:Operand} {K:AV->St->Prop} (h:gJ T st d t x y K): ∃v s,Io T st d t x y=some (v,s)/\K v s:=by
 unfold gJ at h
 obtain ⟨te,h1,h⟩:=As.1 h
 obtain ⟨e,h2,h⟩:=As.1 h
 obtain ⟨q,h3,h⟩:=As.1 h
 obtain ⟨u,h4,h⟩:=As.1 h
 obtain ⟨q1,q2⟩:=q
 obtain ⟨u1,u2⟩:=u
 split at h
 ·rename_i hx
  split at h
  ·rename_i hd
   obtain ⟨h5,h6⟩:=h
   refine ⟨_,_,?_,h6⟩
   simp only [Io,h1,h2,h3,h4]
   rw [hx]
   simp only
   rw [if_pos ⟨h5,by simpa [Nat.blt_eq] using hd⟩]
   simp
  ·cases h
 ·rename_i l off len hx
  split at h
  ·rename_i fr tr e' tid xs hb
   split at h
   ·rename_i hc
    obtain ⟨h5,h6,h7,h8⟩:=h
    refine ⟨_,_,?_,h8⟩
    simp only [Io,h1,h2,h3,h4]
    rw [hx]
    simp only [hb]
    rw [dif_pos ⟨hc.1,hc.2.1⟩,if_pos ⟨h7,by simpa [Nat.blt_eq] using hc.2.2⟩]
    obtain ⟨PY,ZD,SP⟩:=hc
    subst PY
    subst h5
    simp only [List.drop_zero,h6,List.take_length,List.length_append]
   ·cases h
  ·cases h
 ·cases h
theorem mH {st:St} {d:Nat} {t:TypeId} {x y:Operand} {K:AV->St->Prop} (h:mG T st d t x y K): ∃v s,Le T st d t x y=some (v,s)/\K v s:=by
 unfold mG at h
 cases x with
 |tmp tx=>
  simp only at h
  unfold Le
  simp only
  cases hg:st.get tx with
  | «at»c=>
   rw [hg] at h
   cases c with
   |sub l i c=>
    simp only at h⊢
    obtain ⟨tid,h1,h⟩:=As.1 h
    split at h
    ·rename_i hl
     split at h
     ·rename_i hc
      obtain ⟨v,s,h2,h3⟩:=Ri h
      refine ⟨v,s,?_,h3⟩
      simp only [hl,h1]
      rw [if_pos hc]
      exact h2
     ·cases h
    ·cases h
   |_=>exact Ri h
  |_=>rw [hg] at h;exact Ri h
 |_=>exact Ri h
theorem x9 {st:St} {d:Nat} {t:TypeId} {l c:AV} {K:AV->St->Prop} (h:LS T st d t l c K): ∃v s,Uw T st d t l c=some (v,s)/\K v s:=by
 unfold LS at h
 split at h
 ·obtain ⟨te,h1,h⟩:=As.1 h
  obtain ⟨e,h2,h⟩:=As.1 h
  split at h
  ·rename_i hz
   obtain ⟨h3,h4,h5⟩:=h
   refine ⟨_,_,?_,h5⟩
   simp only [Bool.and_eq_true] at hz
   simp only [Uw,h1,h2]
   rw [if_pos ⟨Nc.2 (by exact_mod_cast h3),h4,hz.1,by simpa [Nat.blt_eq] using hz.2⟩]
   simp
  ·cases h
 ·cases h
theorem tQ {st:St} {d:Nat} {t:TypeId} {l c:AV} {K:AV->St->Prop} (h:zN T st d t l c K): ∃v s,Qg T st d t l c=some (v,s)/\K v s:=by
 unfold zN at h
 unfold Qg
 cases hg:Yn T t with
 |none=>rw [hg] at h;exact x9 h
 |some p=>
  obtain ⟨te,e⟩:=p
  rw [hg] at h
  simp only at h⊢
  split at h
  ·split at h
   ·rename_i hd
    obtain ⟨h3,h4,h5⟩:=h
    refine ⟨_,_,?_,h5⟩
    simp only
    rw [if_pos ⟨Nc.2 (by exact_mod_cast h3),h4,by simpa [Nat.blt_eq] using hd⟩]
    simp
   ·cases h
  ·cases h
theorem fI {st:St} {d:Nat} {t:TypeId} {len:Nat} {parts:Array (Nat×Operand)} {K:AV->St->Prop} (h:Zv T st d t len parts K): ∃v s,El T st d t len parts=some (v,s)/\K v s:=by
 unfold Zv at h
 unfold El
 cases hg:Yn T t with
 |none=>
  rw [hg] at h
  obtain ⟨r,h1,h2⟩:=As.1 h
  exact ⟨r.1,r.2,h1,h2⟩
 |some p=>
  obtain ⟨te,e⟩:=p
  rw [hg] at h
  simp only at h⊢
  split at h
  ·rename_i x hp
   split at h
   ·rename_i m off ln hx
    split at h
    ·rename_i hm
     split at h
     ·rename_i hc
      obtain ⟨h1,h2,h3⟩:=h
      refine ⟨_,_,?_,h3⟩
      simp only [hp,hx,hm]
      rw [dif_pos ⟨hc.1,hc.2,h1,h2⟩]
     ·cases h
    ·cases h
   ·cases h
  ·cases h
theorem mJ {st:St} {d:Nat} {t:TypeId} {x y:Operand} {K:AV->St->Prop} (h:mI T st d t x y K): ∃v s,Lf T st d t x y=some (v,s)/\K v s:=by
 unfold mI at h
 unfold Lf
 cases hg:Yn T t with
 |none=>rw [hg] at h;exact mH h
 |some p=>
  obtain ⟨te,e⟩:=p
  rw [hg] at h
  simp only at h⊢
  split at h
  ·rename_i l off len m MB nL hx hy
   split at h
   ·rename_i hl hm
    split at h
    ·rename_i hc
     obtain ⟨h1,h2,h3,h4,h5⟩:=h
     obtain ⟨⟨rfl,rfl⟩,hc⟩:=hc
     refine ⟨_,_,?_,h5⟩
     simp only [hx,hy,hl,hm]
     rw [dif_pos (⟨⟨trivial,trivial⟩,hc,h1,h2,h3,h4⟩)]
     simp
    ·cases h
   ·cases h
  ·cases h
theorem uN {st:St} {io:Bool} {k:Nat} {c:CK} {a:AC} {K:c.den->List (Nat×Loc)->Prop} (h:aO st io k c a K): ∃x t,Ha st io k c a=some (x,t)/\K x t:=by
 cases c with
 |Ee τ=>
  cases a with
  |own l off len=>
   obtain ⟨p,h1,h2⟩:=As.1 h
   exact ⟨_,_,by simp only [Ha];rw [h1];rfl,h2⟩
  |clo g Bu=>
   simp only [aO] at h
   split at h
   ·rename_i hc
    obtain ⟨p,h1,h2⟩:=As.1 h
    exact ⟨_,_,by simp only [Ha];rw [if_pos hc,h1];rfl,h2⟩
   ·cases h
  |Dn l i=>
   simp only [aO] at h
   split at h
   ·rename_i hc
    obtain ⟨p,h1,h2⟩:=As.1 h
    exact ⟨_,_,by simp only [Ha];rw [if_pos hc,h1];rfl,h2⟩
   ·cases h
  |sub l i c=>
   obtain ⟨p,h1,h2⟩:=As.1 h
   exact ⟨_,_,by simp only [Ha];rw [h1];rfl,h2⟩
  |_=>
   simp only [aO] at h
   split at h
   ·rename_i hc
    obtain ⟨p,h1,h2⟩:=As.1 h
    exact ⟨_,_,by simp only [Ha];rw [if_pos hc,h1];rfl,h2⟩
   ·cases h
 |row e te=>
  cases a<;>simp only [aO] at h<;>first|(cases h;done)|skip
  ·exact ⟨_,_,rfl,h⟩
  ·split at h
   ·rename_i hl
    split at h
    ·rename_i hc
     obtain ⟨h1,h2,h3⟩:=h
     exact ⟨_,_,by simp only [Ha,hl];rw [dif_pos ⟨hc.1,hc.2,h1,h2⟩],h3⟩
    ·cases h
   ·cases h
  ·split at h
   ·rename_i hl
    split at h
    ·rename_i hc
     obtain ⟨y,h1,h2⟩:=h
     exact ⟨_,_,by simp only [Ha,hl];rw [dif_pos hc,h1];rfl,h2⟩
    ·cases h
   ·cases h
 |Dp e te=>
  cases a<;>simp only [aO] at h<;>first|(cases h;done)|skip
  ·exact ⟨_,_,rfl,h⟩
  ·split at h
   ·rename_i hl
    split at h
    ·rename_i hc
     obtain ⟨h1,h2,h3⟩:=h
     exact ⟨_,_,by simp only [Ha,hl];rw [dif_pos ⟨hc.1,hc.2,h1,h2⟩],h3⟩
    ·cases h
   ·cases h
  ·split at h
   ·rename_i hl
    split at h
    ·rename_i hc
     obtain ⟨y,h1,h2⟩:=h
     exact ⟨_,_,by simp only [Ha,hl];rw [dif_pos hc,h1];rfl,h2⟩
    ·cases h
   ·cases h
 |part e te=>
  cases a<;>simp only [aO] at h<;>first|(cases h;done)|skip
  split at h
  ·rename_i hl
   split at h
   ·rename_i hc
    exact ⟨_,_,by simp only [Ha,hl];rw [dif_pos hc],h⟩
   ·cases h
  ·cases h
 |Ai e te kp=>
  cases a<;>simp only [aO] at h<;>first|(cases h;done)|skip
  split at h
  ·rename_i hl
   split at h
   ·rename_i hc
    obtain ⟨h1,h2,h3⟩:=h
    exact ⟨_,_,by simp only [Ha,hl];rw [dif_pos ⟨hc.1,hc.2.1,h1,h2,hc.2.2⟩],h3⟩
   ·cases h
  ·cases h
theorem xI {st:St} {e:Ty} {ys:List e.den} {a:AC} {K:St->Prop} (h:MO st e ys a K): ∃s,AP st e ys a=some s/\K s:=by
 cases a<;>simp only [MO] at h<;>first|(cases h;done)|skip
 split at h
 ·rename_i hl
  split at h
  ·rename_i hc
   obtain ⟨h1,h3⟩:=h
   exact ⟨_,by simp only [AP,hl];rw [dif_pos ⟨hc,h1⟩],h3⟩
  ·cases h
 ·cases h
theorem fh {st:St} : ∀(cs:List (Bool×CK)) (k:Nat) (as:List AC) (K:Ins.den cs->List (Nat×Loc)->Prop),uO st k cs as K-> ∃x t,aP st k cs as=some (x,t)/\K x t
 | [],_,[],_,h=>⟨_,_,rfl,h⟩
 | [],_,_::_,_,h=>h.elim
 |_::_,_,[],_,h=>h.elim
 |p::r,k,a::as,K,h=>by
  obtain ⟨x,t1,h1,h2⟩:=uN h
  obtain ⟨y,t2,h3,h4⟩:=fh r (k+1) as _ h2
  exact ⟨_,_,by simp only [aP,h1,h3],h4⟩
theorem l8 {st:St} {c:CK} {ys:c.den} {a:AC} {K:St->Prop} (h:l7 st c ys a K): ∃s,Wa st c ys a=some s/\K s:=by
 cases c with
 |Ee τ=>cases a<;>simp only [l7] at h<;>first|(cases h;done)|exact ⟨_,rfl,h⟩
 |row e te=>
  cases a<;>simp only [l7] at h<;>first|(cases h;done)|skip
  ·exact ⟨_,rfl,h⟩
  ·split at h
   ·rename_i hl
    split at h
    ·rename_i hc
     obtain ⟨h1,h3⟩:=h
     exact ⟨_,by simp only [Wa,hl];rw [dif_pos ⟨hc,h1⟩],h3⟩
    ·cases h
   ·cases h
  ·split at h
   ·rename_i hl
    split at h
    ·rename_i hc
     obtain ⟨y,h1,h2,h3⟩:=h
     exact ⟨_,by simp only [Wa,hl,dif_pos hc,h1];rw [if_pos h2],h3⟩
    ·cases h
   ·cases h
 |Dp e te=>
  cases a<;>simp only [l7] at h<;>first|(cases h;done)|skip
  ·exact ⟨_,rfl,h⟩
  ·split at h
   ·rename_i hl
    split at h
    ·rename_i hc
     obtain ⟨h1,h3⟩:=h
     exact ⟨_,by simp only [Wa,hl];rw [dif_pos ⟨hc,h1⟩],h3⟩
    ·cases h
   ·cases h
  ·split at h
   ·rename_i hl
    split at h
    ·rename_i hc
     obtain ⟨y,h1,h2,h3⟩:=h
     exact ⟨_,by simp only [Wa,hl,dif_pos hc,h1];rw [if_pos h2],h3⟩
    ·cases h
   ·cases h
 |part e te=>cases a<;>simp only [l7] at h<;>first|(cases h;done)|exact ⟨_,rfl,h⟩
 |Ai e te kp=>cases a<;>simp only [l7] at h<;>first|(cases h;done)|exact ⟨_,rfl,h⟩
theorem Kc: ∀(cs:List (Bool×CK)) (o:IOs.den cs) (as:List AC) (st:St) (K:St->Prop),cN cs o as st K-> ∃s,Dz cs o as st=some s/\K s
 | [],_,_,st,K,h=>⟨st,rfl,h⟩
 |(true, .Ee _)::r,o,[],st,K,h=>h.elim
 |(true, .row _ _)::r,o,[],st,K,h=>h.elim
 |(true, .Dp _ _)::r,o,[],st,K,h=>h.elim
 |(true, .part _ _)::r,o,[],st,K,h=>h.elim
 |(true, .Ai _ _ _)::r,o,[],st,K,h=>h.elim
 |(true, .Ai _ _ _)::r,o,a::as,st,K,h=>by
  obtain ⟨s,h1,h2⟩:=Kc r o as st K h
  exact ⟨s,by simp only [Dz];exact h1,h2⟩
 |(false,_)::r,o,[],st,K,h=>h.elim
 |(true, .Ee _)::r,o,a::as,st,K,h=>by
  obtain ⟨s,h1,h2⟩:=Kc r o as st K h
  exact ⟨s,by simp only [Dz];exact h1,h2⟩
 |(false,_)::r,o,a::as,st,K,h=>by
  obtain ⟨s,h1,h2⟩:=Kc r o as st K h
  exact ⟨s,by simp only [Dz];exact h1,h2⟩
 |(true, .row _ _)::r,o,a::as,st,K,h=>by
  obtain ⟨s1,h1,h2⟩:=l8 h
  obtain ⟨s,h3,h4⟩:=Kc r o.2 as s1 K h2
  exact ⟨s,by simp only [Dz,h1];exact h3,h4⟩
 |(true, .part _ _)::r,o,a::as,st,K,h=>by
  obtain ⟨s1,h1,h2⟩:=xI h
  obtain ⟨s,h3,h4⟩:=Kc r o.2 as s1 K h2
  exact ⟨s,by simp only [Dz,h1];exact h3,h4⟩
 |(true, .Dp _ _)::r,o,a::as,st,K,h=>by
  obtain ⟨s1,h1,h2⟩:=l8 h
  obtain ⟨s,h3,h4⟩:=Kc r o.2 as s1 K h2
  exact ⟨s,by simp only [Dz,h1];exact h3,h4⟩
theorem lk {H:List (Nat×OB)} {ls:List Nat} {n:Nat} {K:Prop} : ∀(l:List AV),oZ H ls n l K->Xw H ls n l=true/\K
 | [],h=>⟨rfl,h⟩
 |a::r,h=>by
  have go:oZ H ls n r K->Xw H ls n r=true/\K:=lk r
  cases a with
  | «at»c=>
   cases c with
   |sub l i c=>
    simp only [oZ] at h
    simp only [Xw]
    split at h
    ·rename_i hc
     obtain ⟨⟨h1,h2⟩,h3⟩:=h
     obtain ⟨g1,g2⟩:=go h3
     exact ⟨by simp only [hc,g1,Bool.and_true,Bool.not_true,Bool.false_or,Bool.and_eq_true,Nat.blt_eq];exact ⟨h1,h2⟩,g2⟩
    ·rename_i hc
     obtain ⟨g1,g2⟩:=go h
     exact ⟨by simp only [hc,g1,Bool.not_false,Bool.true_or,Bool.and_true],g2⟩
   |_=>exact go h
  |_=>exact go h
theorem sM {st:St} {d:Option Nat} {s:MSpec} {args:List AV} {K:AV->St->Prop} (h:yZ st d s args K): ∃v s',Qe st d s args=some (v,s')/\K v s':=by
 unfold yZ at h
 obtain ⟨⟨pl,cells,rest⟩,h0,h⟩:=As.1 h
 obtain ⟨as,h1,h⟩:=As.1 h
 obtain ⟨x,tks,h2,h⟩:=fh s.ins 0 (cells++as) _ h
 split at h
 ·rename_i hc
  obtain ⟨⟨r,o⟩,h3,h⟩:=h
  obtain ⟨st1,h4,h⟩:=Kc s.ins o (cells++as) st _ h
  obtain ⟨v,h5,h6⟩:=As.1 h
  obtain ⟨h7,h6⟩:=lk _ h6
  refine ⟨v,_,?_,h6⟩
  unfold Qe
  simp only [h0,h1,h2]
  rw [if_pos hc]
  simp only [h3,h4,h5]
  rw [if_pos h7]
 ·cases h
theorem GB {w:WS} (hw:w.OK) {o:Oper} {K:AV->WS->Prop} (h:TZ T Γ w o K):
  ∃v w',evalOp T Γ w.st o=some (v,w'.st)/\w'.OK/\(∀b,Di w'.kn o=some b-> ∃fr,v= .at (.data fr .bool b))/\K v w':=by
 have fin: ∀v s,(∀b,Di w.kn o=some b-> ∃fr,v= .at (.data fr .bool b))->evalOp T Γ w.st o=some (v,s)->K v (w.to s)-> ∃v w',evalOp T Γ w.st o=some (v,w'.st)/\w'.OK/\(∀b,Di w'.kn o=some b-> ∃fr,v= .at (.data fr .bool b))/\K v w':=
  fun v s hk h1 h2=>⟨v,w.to s,h1,hw.to (gY h1),hk,h2⟩
 have sY:(∀b v s,Di w.kn o=some b->evalOp T Γ w.st o=some (v,s)-> ∃fr,v= .at (.data fr .bool b))->Dw (evalOp T Γ w.st o) (λr=>K r.1 (w.to r.2))-> ∃v w',evalOp T Γ w.st o=some (v,w'.st)/\w'.OK/\(∀b,Di w'.kn o=some b-> ∃fr,v= .at (.data fr .bool b))/\K v w':=by
  intro hk h
  obtain ⟨r,h1,h2⟩:=As.1 h
  exact fin r.1 r.2 (λb hb=>hk b _ _ hb h1) h1 h2
 unfold TZ at h
 split at h
 ·rename_i heq
  obtain ⟨s,h1,h2⟩:=qC h
  refine fin _ _ (λb hb=>by unfold Di at hb;rw [heq] at hb;cases hb) ?_ h2
  unfold evalOp;rw [heq];simp only [h1];rfl
 ·rename_i heq
  obtain ⟨d,h1,h⟩:=As.1 h
  obtain ⟨v,s,h2,h3⟩:=tQ h
  refine fin _ _ (λb hb=>by unfold Di at hb;rw [heq] at hb;cases hb) ?_ h3
  unfold evalOp;rw [heq];simp only [h1,h2]
 ·rename_i heq
  split at h
  ·rename_i hd ha ht
   split at h
   ·rename_i On
    obtain ⟨v,s,h2,h3⟩:=mJ h
    refine fin _ _ (λb hb=>by unfold Di at hb;rw [heq] at hb;cases hb) ?_ h3
    unfold evalOp;rw [heq];simp only [hd,ha,ht,if_pos On,h2]
   ·cases h
  ·cases h
 ·rename_i heq;exact sY (λb v s hb he=>nW hw heq hb he) h
 ·rename_i heq;exact sY (λb v s hb he=>by unfold Di at hb;rw [heq] at hb;cases hb) h
 ·rename_i heq;exact sY (λb v s hb he=>by unfold Di at hb;rw [heq] at hb;cases hb) h
 ·rename_i heq
  obtain ⟨d,h1,h⟩:=As.1 h
  obtain ⟨v,s,h2,h3⟩:=fI h
  refine fin _ _ (λb hb=>by unfold Di at hb;rw [heq] at hb;cases hb) ?_ h3
  unfold evalOp;rw [heq];simp only [h1,h2]
 ·rename_i heq;exact sY (λb v s hb he=>by unfold Di at hb;rw [heq] at hb;cases hb) h
 ·rename_i heq;exact sY (λb v s hb he=>by unfold Di at hb;rw [heq] at hb;cases hb) h
 ·rename_i heq;exact sY (λb v s hb he=>by unfold Di at hb;rw [heq] at hb;cases hb) h
 ·rename_i heq;exact sY (λb v s hb he=>by unfold Di at hb;rw [heq] at hb;cases hb) h
 ·rename_i heq;exact sY (λb v s hb he=>by unfold Di at hb;rw [heq] at hb;cases hb) h
 ·rename_i heq;exact sY (λb v s hb he=>by unfold Di at hb;rw [heq] at hb;cases hb) h
 ·
  rename_i f _ _ heq
  split at h
  ·rename_i Mg
   obtain ⟨v,s',h1,h2⟩:=sM h
   refine fin v s' (λb hb=>by unfold Di at hb;rw [heq] at hb;cases hb) ?_ h2
   unfold evalOp;rw [heq];simp only [Mg];exact h1
  ·rename_i s Mg
   split at h
   ·rename_i DQ
    obtain ⟨st1,hs,h⟩:=As.1 h
    obtain ⟨v,w',h1,h2,h3,PS,h4⟩:=cO (hw.to (Su _ hs)) h
    refine ⟨v,w',?_,h3,PS,h4⟩
    have h1:Cg T Γ st1 o=some v:=h1
    have h2:w'.st=st1:=h2
    unfold evalOp
    rw [heq]
    simp only [Mg,DQ,hs,h1,h2]
    rfl
   ·rename_i DQ
    obtain ⟨v,w',h1,h2,h3,PS,h4⟩:=cO hw h
    refine ⟨v,w',?_,h3,PS,h4⟩
    unfold evalOp
    rw [heq]
    simp only [Mg,DQ,h1,h2]
    rfl
  ·rename_i Akr Aas
   obtain ⟨v,w',h1,h2,h3,PS,h4⟩:=cO hw h
   refine ⟨v,w',?_,h3,PS,h4⟩
   unfold evalOp
   rw [heq]
   simp only
   rw [h1,h2];rfl
 ·rename_i n1 n2 n3 n4 n5 n6 n7 n8 n9 n10 n11 n12 n13 n14
  obtain ⟨v,w',h1,h2,h3,PS,h4⟩:=cO hw h
  refine ⟨v,w',?_,h3,PS,h4⟩
  unfold evalOp
  split
  all_goals first
   |(rw [h1,h2];rfl)
   |(rename_i hq;exact absurd hq (by first|exact n1 _|exact n2 _|exact n3 _|exact n4 _|exact n5 _|exact n6 _|exact n7 _|exact n8 _|exact n9 _|exact n10 _|exact n11 _|exact n12 _|exact n13 _|exact n14 _))
   |(rename_i hq;exact absurd hq (by first|exact n1 _ _|exact n2 _ _|exact n3 _ _|exact n4 _ _|exact n5 _ _|exact n6 _ _|exact n7 _ _|exact n8 _ _|exact n9 _ _|exact n10 _ _|exact n11 _ _|exact n12 _ _|exact n13 _ _|exact n14 _ _))
   |(rename_i hq;exact absurd hq (by first|exact n1 _ _ _|exact n2 _ _ _|exact n3 _ _ _|exact n4 _ _ _|exact n5 _ _ _|exact n6 _ _ _|exact n7 _ _ _|exact n8 _ _ _|exact n9 _ _ _|exact n10 _ _ _|exact n11 _ _ _|exact n12 _ _ _|exact n13 _ _ _|exact n14 _ _ _))
   |(rename_i hq;exact absurd hq (by first|exact n1 _ _ _ _|exact n2 _ _ _ _|exact n3 _ _ _ _|exact n4 _ _ _ _|exact n5 _ _ _ _|exact n6 _ _ _ _|exact n7 _ _ _ _|exact n8 _ _ _ _|exact n9 _ _ _ _|exact n10 _ _ _ _|exact n11 _ _ _ _|exact n12 _ _ _ _|exact n13 _ _ _ _|exact n14 _ _ _ _))
theorem tb (st:St) (d:Nat) (v:AV):(st.put (some d) v).get d=v\/(st.put (some d) v).get d= .undef:=by
 simp only [St.put,St.get]
 rw [Um]
 by_cases h:d<st.tmps.length
 ·exact .inl (by rw [if_pos ⟨rfl,h⟩])
 ·refine .inr ?_
  rw [if_neg (λhc=>h hc.2),List.getD_eq_getElem?_getD,List.getElem?_eq_none (by omega)]
  rfl
theorem WS.OK.qh {w:WS} (hw:w.OK) (o:Oper) (v:AV) (h: ∀b,Di w.kn o=some b-> ∃fr,v= .at (.data fr .bool b)):(w.qh o v).OK/\(w.qh o v).st=w.st.put o.dst v:=by
 unfold WS.qh
 split
 ·rename_i d b hd hk
  split
  ·rename_i fr c hg
   refine ⟨?_,by rw [hd]⟩
   obtain ⟨Ox,hv⟩:=h b hk
   intro t b' hb
   simp only [pS] at hb
   split at hb
   ·rename_i ht
    injection hb with hb
    subst ht;subst hb
    refine ⟨Ox,?_⟩
    show (w.st.put (some d) v).get d=_
    cases tb w.st d v with
    |inl h1=>rw [h1,hv]
    |inr h1=>rw [h1] at hg;cases hg
   ·exact hw.put (some d) v t b' hb
  ·exact ⟨hw.put _ _,by rw [WS.oa,hd]⟩
 ·exact ⟨hw.put _ _,WS.oa _ _ _⟩
theorem lj {ops:Array Oper} {w:WS} (hw:w.OK) {o:Oper} {run:(AV->WS->Prop)->WS->Prop} {R:St->Option (AV×St)} {K:WS->Prop}
  (hr: ∀(k:AV->WS->Prop) (w:WS),w.OK->run k w-> ∃v w',R w.st=some (v,w'.st)/\w'.OK/\(∀b,Di w'.kn o=some b-> ∃fr,v= .at (.data fr .bool b))/\k v w') (h:fe ops w o run K):
  ∃w',(match o.guard with
   |none=>(R w.st).map λr=>r.2.put o.dst r.1
   |some (j,want)=>match Py w.st ((ops[j]?).bind (·.dst)) with
    |some (some b)=>if b==want then (R w.st).map λr=>r.2.put o.dst r.1 else some (w.st.put o.dst (.at .skip))
    |some none=>some (w.st.put o.dst (.at .skip))
    |none=>none)=some w'.st/\w'.OK/\K w':=by
 have go: ∀w:WS,w.OK->run (λv w'=>K (w'.qh o v)) w-> ∃w',((R w.st).map λr=>r.2.put o.dst r.1)=some w'.st/\w'.OK/\K w':=by
  intro w hw h
  obtain ⟨v,w',h1,h2,h3,h4⟩:=hr _ _ hw h
  obtain ⟨h5,h6⟩:=h2.qh o v h3
  exact ⟨w'.qh o v,by rw [h1,h6];rfl,h5,h4⟩
 unfold fe at h
 split at h
 ·rename_i hg
  rw [hg]
  exact go w hw h
 ·rename_i j want hg
  rw [hg]
  obtain ⟨t,h1,h⟩:=As.1 h
  simp only [h1]
  split at h
  ·rename_i hs
   have hsk:w.st.get t= .at .skip:=by
    unfold AV.LH at hs
    split at hs
    ·assumption
    ·cases hs
   exact ⟨_,by simp only [Py,hsk];rw [WS.oa],hw.put _ _,h⟩
  ·obtain ⟨fr,b,w',h2,h3,h4,h5⟩:=r7 hw h
   have hb:Py w.st (some t)=some (some b):=by simp only [Py,h2]
   rw [hb]
   simp only
   cases b with
   |true=>
    cases want with
    |true=>rw [if_pos (by decide),<-h3];exact go w' h4 h5
    |false=>exact ⟨_,by rw [if_neg (by decide),<-h3,WS.oa],h4.put _ _,h5⟩
   |false=>
    cases want with
    |false=>rw [if_pos (by decide),<-h3];exact go w' h4 h5
    |true=>exact ⟨_,by rw [if_neg (by decide),<-h3,WS.oa],h4.put _ _,h5⟩
theorem df {ops:Array Oper} {w:WS} (hw:w.OK) {o:Oper} {K:WS->Prop} (h:fe ops w o (λk w'=>TZ T Γ w' o k) K): ∃w',Ch T Γ ops w.st o=some w'.st/\w'.OK/\K w':=by
 obtain ⟨w',h1,h2⟩:=lj hw (R:= λst=>evalOp T Γ st o) (λk w hw h=>by
  obtain ⟨v,w',h1,h2,SI,h3⟩:=GB hw h
  exact ⟨v,w',h1,h2,SI,h3⟩) h
 exact ⟨w',h1,h2⟩
theorem JK {w:WS} (hw:w.OK) {o:Oper} {K:AV->WS->Prop} (h:bW T Γ w o K):
  ∃v w',Rv T Γ w.st o=some v/\w'.st=w.st/\w'.OK/\(∀b,Di w'.kn o=some b-> ∃fr,v= .at (.data fr .bool b))/\K v w':=by
 unfold bW at h
 split at h
 ·rename_i t len parts mh
  obtain ⟨v,h1,h2⟩:=As.1 h
  exact ⟨v,w,by unfold Rv;rw [mh];exact h1,rfl,hw,λb hb=>by simp [Di,mh] at hb,h2⟩
 ·rename_i t parts mh
  obtain ⟨v,h1,h2⟩:=As.1 h
  exact ⟨v,w,by unfold Rv;rw [mh];exact h1,rfl,hw,λb hb=>by simp [Di,mh] at hb,h2⟩
 ·rename_i n1 n2
  obtain ⟨v,w',h1,h2⟩:=cO hw h
  refine ⟨v,w',?_,h2⟩
  rw [<-h1]
  unfold Rv
  split
  ·rename_i h9;exact absurd h9 (n1 _ _ _)
  ·rename_i h9;exact absurd h9 (n2 _ _)
  ·rfl
theorem RH {ops:Array Oper} {w:WS} (hw:w.OK) {o:Oper} {K:WS->Prop} (h:fe ops w o (λk w'=>bW T Γ w' o k) K): ∃v w',bG T Γ ops w.st o=some v/\w'.st=w.st.put o.dst v/\w'.OK/\K w':=by
 obtain ⟨w',h1,h2,h3⟩:=lj hw (R:= λst=>(Rv T Γ st o).map λv=>(v,st)) (λk w hw h=>by
  obtain ⟨v,w',h1,h2,h3,PS,h4⟩:=JK hw h
  exact ⟨v,w',by simp only [h1,h2];rfl,h3,PS,h4⟩) h
 have key: ∀u:Option AV,((u.map λv=>(v,w.st)).map λr=>r.2.put o.dst r.1)=some w'.st-> ∃v,u=some v/\w'.st=w.st.put o.dst v:=by
  intro u hu
  cases u with
  |none=>cases hu
  |some v=>injection hu with hu;exact ⟨v,rfl,hu.symm⟩
 unfold bG
 split at h1
 ·rename_i hg
  obtain ⟨v,h4,h5⟩:=key _ h1
  exact ⟨v,w',by rw [hg];exact h4,h5,h2,h3⟩
 ·rename_i j want hg
  rw [hg]
  split at h1
  ·rename_i b hb
   simp only [hb]
   split at h1
   ·rename_i JX
    obtain ⟨v,h4,h5⟩:=key _ h1
    exact ⟨v,w',by rw [if_pos JX];exact h4,h5,h2,h3⟩
   ·rename_i JX
    injection h1 with h1
    exact ⟨_,w',by rw [if_neg JX],h1.symm,h2,h3⟩
  ·rename_i hb
   simp only [hb]
   injection h1 with h1
   exact ⟨_,w',rfl,h1.symm,h2,h3⟩
  ·cases h1
theorem nX {ops:Array Oper} : ∀(l:List Oper) {w:WS} (_:w.OK) {K:WS->Prop},XK T Γ ops l w K-> ∃w',To T Γ ops l w.st=some w'.st/\w'.OK/\K w'
 | [],w,hw,K,h=>⟨w,rfl,hw,h⟩
 |o::r,w,hw,K,h=>by
  obtain ⟨w1,h1,h2,h3⟩:=df hw h
  obtain ⟨w2,h4,h5⟩:=nX r h2 h3
  exact ⟨w2,by simp only [To];rw [h1];exact h4,h5⟩
theorem ae {ops:Array Oper} : ∀(l:List Nat) {w:WS} (_:w.OK) {K:WS->Prop},KV T Γ ops l w K-> ∃w',Ix T Γ ops l w.st=some w'.st/\w'.OK/\K w'
 | [],w,hw,K,h=>⟨w,rfl,hw,h⟩
 |i::r,w,hw,K,h=>by
  obtain ⟨o,h0,h⟩:=As.1 h
  obtain ⟨w1,h1,h2,h3⟩:=df hw h
  obtain ⟨w2,h4,h5⟩:=ae r h2 h3
  exact ⟨w2,by simp only [Ix];rw [h0];simp only [h1];exact h4,h5⟩
theorem Sa {ops:Array Oper} : ∀(l:List Nat) {w:WS} (_:w.OK) {K:WS->Prop},rq T Γ ops l w K-> ∃w',Dx T Γ ops l w.st=some w'.st/\w'.OK/\K w'
 | [],w,hw,K,h=>⟨w,rfl,hw,h⟩
 |i::r,w,hw,K,h=>by
  obtain ⟨o,h0,h⟩:=As.1 h
  obtain ⟨v,w1,h1,h1',h2,h3⟩:=RH hw h
  obtain ⟨w2,h4,h5⟩:=Sa r h2 h3
  exact ⟨w2,by simp only [Dx];rw [h0];simp only [h1];rw [<-h1'];exact h4,h5⟩
theorem mE {P:Nat->Prop} : ∀(l:List Nat),PH l P-> ∀i∈l,P i
 | [],_,i,hi=>by cases hi
 | [k],h,i,hi=>by rw [List.mem_singleton.1 hi];exact h
 |k::j::r,h,i,hi=>by
  rcases List.mem_cons.1 hi with rfl|hi
  ·exact h.1
  ·exact mE (j::r) h.2 i hi
theorem fG {ops:Array Oper} {K:WS->Prop} : ∀(f:Nat) (Ac:Array Bool) {w:WS} (_:w.OK),EP T Γ ops f Ac w K->anyS T Γ ops (λs=> ∃w':WS,w'.st=s/\w'.OK/\K w') f Ac w.st
 |0,Ac,w,hw,h=>by
  unfold EP at h
  split at h
  ·rename_i hr;exact ⟨hr,w,rfl,hw,h⟩
  ·cases h
 |f+1,Ac,w,hw,h=>by
  unfold EP at h
  split at h
  ·cases h
  ·rename_i i r hr
   refine ⟨by rw [hr];simp,λk hk=>?_⟩
   rw [hr] at hk
   obtain ⟨o,h0,h1⟩:=As.1 (mE _ h k hk)
   obtain ⟨w1,h2,h3,h4⟩:=df hw h1
   exact ⟨o,w1.st,h0,h2,fG f _ h3 h4⟩
theorem a7 {ops:Array Oper} {K:WS->Prop} : ∀(f:Nat) (Ac:Array Bool) {w:WS} (_:w.OK),jy T Γ ops f Ac w K-> ∃w':WS,w'.OK/\K w'
 |0,Ac,w,hw,h=>by
  simp only [jy] at h
  split at h
  ·exact ⟨w,hw,h⟩
  ·exact h.elim
 |f+1,Ac,w,hw,h=>by
  simp only [jy] at h
  split at h
  ·exact h.elim
  ·obtain ⟨o,ho,h1⟩:=As.1 h
   obtain ⟨w',h2,h3,h4⟩:=df hw h1
   exact a7 f _ h3 h4
theorem kD {P:List (Nat×Nat×AV×OB)} {ops:Array Oper} {K:WS->Prop} : ∀(f:Nat) (Ac:Array Bool) {w:WS} (_:w.OK),vK T Γ P ops f Ac w K->UO T Γ ops P (λs=> ∃w':WS,w'.st=s/\w'.OK/\K w') f Ac w.st
 |0,Ac,w,hw,h=>by
  unfold vK at h
  split at h
  ·rename_i hr;exact ⟨hr,w,rfl,hw,h⟩
  ·cases h
 |f+1,Ac,w,hw,h=>by
  unfold vK at h
  split at h
  ·cases h
  ·rename_i i r hr
   refine ⟨by rw [hr];simp,λk hk=>?_⟩
   rw [hr] at hk
   obtain ⟨o,h0,h1⟩:=As.1 (mE _ h k hk)
   split at h1
   ·rename_i eo
    obtain ⟨w1,h2,h3,h4⟩:=df hw h1
    exact ⟨o,w1.st,h0,eo,h2,kD f _ h3 h4⟩
   ·cases h1
theorem xk {α:Type} (f:α->Nat) {l:List α} (h:Sw (l.map f)=true):l.Pairwise λa c=>f a≠f c:=List.pairwise_map.1 (Qo h)
theorem pC {ops:Array Oper} {L0:Array Bool} {n:Nat} {w:WS} (hw:w.OK) {K:WS->Prop} (hc:Ti ops L0) (h:sL T Γ (Ru T ops L0) n L0 ops w K):anyS T Γ ops (λs=> ∃w':WS,w'.st=s/\w'.OK/\K w') n L0 w.st:=by
 unfold sL at h
 split at h
 ·rename_i hb
  simp only [Bool.and_eq_true] at hb
  obtain ⟨⟨b1,b2⟩,b3,b4,b5⟩:=hb
  have hm: ∀a∈Ru T ops L0,a.1∈Region.ready .any ops L0/\ ∃o,ops[a.1]?=some o/\Zs T o=some a.2:= λa ha=>sH ha
  have p1:=xk (λa:Nat×Nat×AV×OB=>a.1) b1
  have p2:=xk (λa:Nat×Nat×AV×OB=>a.2.1) b2
  have hlen:(Ru T ops L0).length<=n:=Nat.le_of_ble_eq_true b4
  obtain ⟨w1,h1,h2,h3⟩:=ae _ hw h
  have h3:=aa.1 h3
  obtain ⟨w0,g1,g2⟩:=a7 _ _ h2 h3
  obtain ⟨g3,g4⟩:=aa.1 g2
  have hp:=xG (Γ:=Γ) _ w.st w1.st (λa ha=>(hm a ha).2) (λa ha=>nT (List.all_eq_true.1 b3 a ha)) p2 h1
  refine dy (λs hs=>?_) _ _ _ (EO (λa ha=>(hm a ha).2) n (n-(Ru T ops L0).length) (Ru T ops L0) _ L0 w1.st w.st (by omega) (kD _ _ h2 g4) hp
   (PJ (ops:=ops) λi hi=>by obtain ⟨a,ha,rfl⟩:=List.mem_map.1 hi;exact (hm a ha).1) (λa ha=>ha) (p2.and p1) hc λa ha x hx=>cQ (hm a ha).1 hx)
  obtain ⟨w',h5,_,h6⟩:=hs
  exact ⟨w0,((h5.symm.trans (rf h6)).symm),g1,g3⟩
 ·cases h
theorem qi {ops:Array Oper} {draw:Bool} {w:WS} (hw:w.OK) {K:WS->Prop} (h:ug T Γ ops draw w K):sC T Γ ops draw w.st (λs=> ∃w':WS,w'.st=s/\w'.OK/\K w'):=by
 unfold ug at h
 split at h
 ·split at h
  ·rename_i ho
   obtain ⟨w1,h1,h2,h3⟩:=Sa _ hw h
   obtain ⟨w2,h4,h5⟩:=ae _ h2 h3
   exact .inl ⟨w2.st,by simp only [Lg,if_true];rw [if_pos ho,h1];exact h4,w2,rfl,h5⟩
  ·rename_i ho
   split at h
   ·rename_i ho2
    obtain ⟨w1,h1,h2,h3⟩:=Sa _ hw h
    obtain ⟨w2,h4,h5⟩:=ae _ h2 h3
    exact .inl ⟨w2.st,by simp only [Lg,if_true];rw [if_neg (by rw [ho];decide),if_pos ho2,h1];exact h4,w2,rfl,h5⟩
   ·split at h
    ·rename_i hc
     simp only [Bool.and_eq_true] at hc
     obtain ⟨w1,h1,h2,h3⟩:=Sa _ hw h
     split at h3
     ·exact .inr ⟨rfl,hc.1,w1.st,h1,fG _ _ h2 h3⟩
     ·obtain ⟨w0,g1,g2⟩:=a7 _ _ h2 h3
      obtain ⟨g3,g4⟩:=aa.1 g2
      exact .inr ⟨rfl,hc.1,w1.st,h1,dy (λs hs=>by
       obtain ⟨w',h5,_,h6⟩:=hs
       exact ⟨w0,((h5.symm.trans (rf h6)).symm),g1,g3⟩) _ _ _ (fG _ _ h2 g4)⟩
    ·split at h
     ·rename_i DQ
      obtain ⟨w1,h1,h2,h3⟩:=Sa _ hw h
      exact .inr ⟨rfl,DQ,w1.st,h1,pC h2 (Zz _ _ _ vY) h3⟩
     ·cases h
 ·obtain ⟨w1,h1,h2⟩:=nX _ hw h
  exact .inl ⟨w1.st,by simp only [Lg];rw [if_neg (by simp)];exact h1,w1,rfl,h2⟩
end
end Go.Proofs.YtfolipnappekaaaGreat
