/-
  Part 33 of the proof that the statement FnExactInSubgroup holds.
-/
import Derived.Test.YtjbdmibbbpdnnaaCInSubgroup31
namespace Go.Proofs.Ytjbdmibbbpdnnaa
open Go.RowKit
section
variable {T:Tab} {Γ:Env}
def WS.OK (w:WS):Prop:= ∀t b,mO w.kn t=some b-> ∃fr,w.st.get t= .at (.data fr .bool b)
theorem dX: ∀(l:List (Nat×Bool)) (d t:Nat) (b:Bool),mO (o6 l d) t=some b->t≠d/\mO l t=some b
 | [],_,_,_,h=>by cases h
 |(k,c)::r,d,t,b,h=>by
  simp only [o6] at h
  split at h
  ·rename_i hk
   have:=dX r d t b h
   refine ⟨this.1,?_⟩
   simp only [mO]
   rw [if_neg (by rw [hk];exact λh=>this.1 h.symm)]
   exact this.2
  ·rename_i hk
   simp only [mO] at h⊢
   split at h
   ·rename_i LL
    exact ⟨by rw [<-LL];exact hk,by rw [if_pos LL];exact h⟩
   ·rename_i LL
    rw [if_neg LL]
    exact dX r d t b h
theorem WS.OK.put {w:WS} (h:w.OK) (dst:Option Tmp) (v:AV):(w.put dst v).OK:=by
 cases dst with
 |none=>exact h
 |some d=>
  intro t b hb
  obtain ⟨h1,h2⟩:=dX _ _ _ _ hb
  obtain ⟨fr,h3⟩:=h t b h2
  exact ⟨fr,by show (w.st.put (some d) v).get t=_;rw [Ti _ _ h1];exact h3⟩
theorem WS.lv (w:WS) (dst:Option Tmp) (v:AV):(w.put dst v).st=w.st.put dst v:=by cases dst<;>rfl
theorem WS.OK.to {w:WS} (h:w.OK) {s:St} (hs:Av w.st s):(w.to s).OK:=by
 intro t b hb
 obtain ⟨fr,h3⟩:=h t b hb
 exact ⟨fr,hs t fr _ _ h3⟩
theorem nK {w:WS} (hw:w.OK) {t:Nat} {K:Bool->WS->Prop} (h:UC w t K):
  ∃fr b w',w.st.get t= .at (.data fr .bool b)/\w'.st=w.st/\w'.OK/\K b w':=by
 unfold UC at h
 split at h
 ·rename_i b hb
  obtain ⟨fr,h1⟩:=hw t b hb
  exact ⟨fr,b,w,h1,rfl,hw,h⟩
 ·split at h
  ·rename_i fr b hb
   obtain ⟨h1,h2⟩:=h
   have ok: ∀c:Bool,b=c->WS.OK {kn:=(t,c)::w.kn,st:=w.st} :=by
    intro c hc t' b' h'
    simp only [mO] at h'
    split at h'
    ·rename_i ht
     injection h' with h'
     exact ⟨fr,by rw [<-ht,<-h',<-hc];exact hb⟩
    ·exact hw t' b' h'
   cases b with
   |true=>exact ⟨fr,true, {kn:=(t,true)::w.kn,st:=w.st},hb,rfl,ok true rfl,h1 rfl⟩
   |false=>exact ⟨fr,false, {kn:=(t,false)::w.kn,st:=w.st},hb,rfl,ok false rfl,h2 rfl⟩
  ·cases h
theorem nJ {w:WS} (hw:w.OK) {c:Operand} {K:Bool->WS->Prop} (h:UB w c K):
  ∃fr b w',w.st.ev c= .at (.data fr .bool b)/\w'.st=w.st/\w'.OK/\K b w':=by
 unfold UB at h
 split at h
 ·exact nK hw h
 ·exact ⟨true,_,w,rfl,rfl,hw,h⟩
 ·cases h
theorem uM {op:BinOp} {t:TypeId} {x y:AV} {K:AV->Prop} (h:KF T op t x y K): ∃v,Ls T op t x y=some v/\K v:=by
 unfold KF at h
 split at h
 ·split at h
  ·rename_i hk
   exact ⟨_,by simp only [Ls,evalBin,kS];rw [if_pos hk,if_neg h.1];rfl,h.2⟩
  ·cases h
 ·split at h
  ·rename_i hk
   exact ⟨_,by simp only [Ls,evalBin,kS];rw [if_pos hk,if_neg h.1];rfl,h.2⟩
  ·cases h
 ·exact ⟨_,by simp only [Ls,evalBin];rw [if_neg h.1];rfl,h.2⟩
 ·exact ⟨_,by simp only [Ls,evalBin];rw [if_neg h.1];rfl,h.2⟩
 ·exact ⟨_,by simp only [Ls,evalBin];rw [if_pos h.1],h.2⟩
 ·exact An.1 h
theorem sP {st:St} {t:TypeId} {p:AV} {K:AV->Prop} (h:CE T st t p K): ∃v,Ji T st t p=some v/\K v:=by
 unfold CE at h
 split at h
 ·obtain ⟨τ,h1,h2⟩:=An.1 h
  split at h2
  ·rename_i hb
   split at h2
   ·rename_i he
    obtain ⟨x,h3,h4⟩:=h2
    exact ⟨_,by simp only [Ji,h1,hb,if_pos he,h3];rfl,h4⟩
   ·cases h2
  ·rename_i hb
   split at h2
   ·rename_i he
    obtain ⟨x,h3,h4⟩:=h2
    exact ⟨_,by simp only [Ji,h1,hb,if_pos he,h3];rfl,h4⟩
   ·cases h2
  ·rename_i hb
   split at h2
   ·cases h2
   ·rename_i he
    exact ⟨_,by simp only [Ji,h1,hb,if_neg he],h2⟩
  ·cases h2
 ·obtain ⟨τ,h1,h2⟩:=An.1 h
  split at h2
  ·rename_i he
   obtain ⟨y,h3,h4⟩:=h2
   subst h3
   exact ⟨_,by simp only [Ji,h1,if_pos he],h4⟩
  ·cases h2
 ·exact An.1 h
theorem gq {s:TypeId} {x:AV} {f:Nat} {K:AV->Prop} (h:dK T s x f K): ∃v,Hu T s x f=some v/\K v:=by
 unfold dK at h
 split at h
 ·obtain ⟨y,h1,h2⟩:=h
  subst h1
  obtain ⟨v,h3,h4⟩:=An.1 h2
  refine ⟨v,?_,h4⟩
  rw [<-h3]
  unfold Hu
  cases T.off s f<;>rfl
 ·exact An.1 h
theorem qA {st:St} {t:TypeId} {x:AV} {lo hi:Option AV} {K:AV->Prop} (h:wD T st t x lo hi K): ∃v,Wc T st t x lo hi=some v/\K v:=by
 unfold wD at h
 obtain ⟨n,h1,h⟩:=An.1 h
 obtain ⟨l,h2,h⟩:=An.1 h
 obtain ⟨hh,h3,hc,h⟩:=An.1 h
 obtain ⟨v,h4,h5⟩:=An.1 h
 refine ⟨v,?_,h5⟩
 simp only [Wc,h1,h2,h3,if_pos hc]
 exact h4
theorem gC {st:St} {t:TypeId} {x i:AV} {K:AV->Prop} (h:dV T st t x i K): ∃v,Fh T st t x i=some v/\K v:=by
 unfold dV at h
 split at h
 ·split at h
  ·rename_i he
   obtain ⟨x,h3,h4⟩:=h
   exact ⟨_,by simp only [Fh,if_pos he,h3];rfl,h4⟩
  ·cases h
 ·split at h
  ·rename_i hb
   split at h
   ·rename_i he
    obtain ⟨h3,h4⟩:=h
    exact ⟨_,by simp only [Fh,hb];rw [if_pos ⟨he.1,he.2,Ma.2 h3⟩],h4⟩
   ·cases h
  ·rename_i hb
   split at h
   ·rename_i he
    obtain ⟨h3,h4⟩:=h
    exact ⟨_,by simp only [Fh,hb];rw [if_pos ⟨he.1,he.2,Ma.2 h3⟩],h4⟩
   ·cases h
  ·rename_i hb
   split at h
   ·rename_i he
    obtain ⟨h3,h4⟩:=h
    exact ⟨_,by simp only [Fh,hb];rw [if_pos ⟨he.1,he.2,Ma.2 h3⟩],h4⟩
   ·cases h
  ·cases h
 ·split at h
  ·rename_i hb
   split at h
   ·rename_i he
    obtain ⟨h3,h4⟩:=h
    exact ⟨_,by simp only [Fh,hb];rw [if_pos ⟨he,Ma.2 h3⟩],h4⟩
   ·cases h
  ·cases h
 ·cases h
theorem pG {t:TypeId} {x i:AV} {K:AV->Prop} (h:vD T t x i K): ∃v,c7 T t x i=some v/\K v:=by
 unfold vD at h
 split at h
 ·split at h
  ·rename_i he
   obtain ⟨h1,b,h3,h4⟩:=h
   exact ⟨_,by simp only [c7,if_pos he,if_pos h1,h3];rfl,h4⟩
  ·cases h
 ·cases h
theorem Uf {st:St} {f:FuncId} {args:List AV} {K:AV->Prop} (h:nM Γ st f args K): ∃v,Im Γ st f args=some v/\K v:=by
 unfold nM at h
 obtain ⟨s,h1,h⟩:=An.1 h
 have h1:Γ f=some (.q s):=by
  split at h1
  ·rename_i s' hs;injection h1 with h1;rw [hs,h1]
  ·cases h1
 split at h
 ·rename_i hf
  obtain ⟨p,h2,y,h3,h4⟩:=An.1 h
  refine ⟨_,?_,h4⟩
  simp only [Im,h1]
  rw [if_pos hf,h2]
  simp only [h3]
  rfl
 ·cases h
theorem pd {st:St} {v:AV} {args:List AV} {K:AV->Prop} (h:uP Γ st v args K): ∃u,Ow Γ st v args=some u/\K u:=by
 unfold uP at h
 split at h
 ·split at h
  ·rename_i hc
   split at h
   ·rename_i hf
    obtain ⟨u,h1,h2⟩:=Uf h
    exact ⟨u,by simp only [Ow];rw [if_pos hc,if_pos (by simpa using hf)];exact h1,h2⟩
   ·rename_i hf
    obtain ⟨u,h1,h2⟩:=Uf h
    exact ⟨u,by simp only [Ow];rw [if_pos hc,if_neg (λhx=>by rw [show Nat.blt _ 1000000000=true from by simpa using hx] at hf;cases hf)];exact h1,h2⟩
  ·cases h
 ·exact Uf h
 ·cases h
theorem Iw {w:WS} (hw:w.OK) {x:Operand} {b:Bool} (hk:Ns w.kn x=some b): ∃fr,w.st.ev x= .at (.data fr .bool b):=by
 unfold Ns at hk
 split at hk
 ·injection hk with hk;subst hk;exact ⟨true,rfl⟩
 ·exact hw _ _ hk
 ·cases hk
theorem mS {w:WS} (hw:w.OK) {o:Oper} {b:Bool} (hk:Cz w.kn o=some b) {v:AV} (he:Ca T Γ w.st o=some v): ∃fr,v= .at (.data fr .bool b):=by
 unfold Cz at hk
 split at hk
 ·rename_i heq;unfold Ca at he;rw [heq] at he;injection he with he;obtain ⟨fr,h⟩:=Iw hw hk;exact ⟨fr,he.symm.trans h⟩
 ·rename_i heq;unfold Ca at he;rw [heq] at he;injection he with he;obtain ⟨fr,h⟩:=Iw hw hk;exact ⟨fr,he.symm.trans h⟩
 ·rename_i x heq
  cases hx:Ns w.kn x with
  |none=>rw [hx] at hk;cases hk
  |some c=>
   rw [hx] at hk
   injection hk with hk
   obtain ⟨fr,h⟩:=Iw hw hx
   unfold Ca at he;rw [heq] at he
   simp only [h,pt,It] at he
   injection he with he
   exact ⟨true,by rw [<-he,<-hk]⟩
 ·rename_i c x y heq
  unfold Ca at he;rw [heq] at he
  split at hk
  ·rename_i hc
   obtain ⟨fr,h⟩:=Iw hw hc
   simp only [h,Wb,if_true] at he
   injection he with he
   obtain ⟨fr,h⟩:=Iw hw hk
   exact ⟨fr,he.symm.trans h⟩
  ·rename_i hc
   obtain ⟨fr,h⟩:=Iw hw hc
   simp only [h,Wb,Bool.false_eq_true,if_false] at he
   injection he with he
   obtain ⟨fr,h⟩:=Iw hw hk
   exact ⟨fr,he.symm.trans h⟩
  ·cases hk
 ·cases hk
theorem lf {w:WS} (hw:w.OK) {o:Oper} {x:Operand} (ho:o.op= .assign x) {b:Bool} (hk:Cz w.kn o=some b) {v:AV} {s:St} (he:evalOp T Γ w.st o=some (v,s)): ∃fr,v= .at (.data fr .bool b):=by
 unfold Cz at hk
 rw [ho] at hk
 obtain ⟨fr,h⟩:=Iw hw hk
 unfold evalOp at he;rw [ho] at he
 simp only [h] at he
 injection he with he;injection he with he;exact ⟨fr,he.symm⟩
theorem bp {w:WS} (hw:w.OK) {o:Oper} {K:AV->WS->Prop} (h:qW T Γ w o K):
  ∃v w',Ca T Γ w.st o=some v/\w'.st=w.st/\w'.OK/\(∀b,Cz w'.kn o=some b-> ∃fr,v= .at (.data fr .bool b))/\K v w':=by
 have fin:(∃v w',Ca T Γ w.st o=some v/\w'.st=w.st/\w'.OK/\K v w')-> ∃v w',Ca T Γ w.st o=some v/\w'.st=w.st/\w'.OK/\(∀b,Cz w'.kn o=some b-> ∃fr,v= .at (.data fr .bool b))/\K v w':=by
  rintro ⟨v,w',h1,h2,h3,h4⟩
  exact ⟨v,w',h1,h2,h3,λb hb=>mS h3 hb (by rw [h2];exact h1),h4⟩
 refine fin ?_
 unfold qW at h
 split at h
 ·rename_i c a b heq
  obtain ⟨fr,t,w',h1,h2,h3,h4⟩:=nJ hw h
  cases t with
  |true=>exact ⟨_,w',by unfold Ca;rw [heq];simp only [h1,Wb,if_true];rw [<-h2],h2,h3,h4⟩
  |false=>exact ⟨_,w',by unfold Ca;rw [heq];simp only [h1,Wb];rw [<-h2];simp,h2,h3,h4⟩
 ·rename_i heq
  obtain ⟨v,h1,h2⟩:=sP h
  exact ⟨v,w,by unfold Ca;rw [heq];exact h1,rfl,hw,h2⟩
 ·rename_i heq
  obtain ⟨v,h1,h2⟩:=uM h
  exact ⟨v,w,by unfold Ca;rw [heq];exact h1,rfl,hw,h2⟩
 ·rename_i heq
  split at h
  ·obtain ⟨v,h1,h2⟩:=qA h
   exact ⟨v,w,by unfold Ca;rw [heq];simpa using h1,rfl,hw,h2⟩
  ·cases h
 ·rename_i heq
  obtain ⟨v,h1,h2⟩:=gC h
  exact ⟨v,w,by unfold Ca;rw [heq];exact h1,rfl,hw,h2⟩
 ·rename_i heq
  obtain ⟨v,h1,h2⟩:=pG h
  exact ⟨v,w,by unfold Ca;rw [heq];exact h1,rfl,hw,h2⟩
 ·rename_i heq
  obtain ⟨v,h1,h2⟩:=Uf h
  exact ⟨v,w,by unfold Ca;rw [heq];exact h1,rfl,hw,h2⟩
 ·rename_i heq
  obtain ⟨v,h1,h2⟩:=pd h
  exact ⟨v,w,by unfold Ca;rw [heq];exact h1,rfl,hw,h2⟩
 ·rename_i heq
  obtain ⟨v,h1,h2⟩:=gq h
  exact ⟨v,w,by unfold Ca;rw [heq];exact h1,rfl,hw,h2⟩
 ·rename_i x heq
  unfold oh at h
  split at h
  ·rename_i fr τ z hx
   obtain ⟨y,h1,h2⟩:=h
   subst h1
   exact ⟨_,w,by unfold Ca;rw [heq];simp only [hx],rfl,hw,h2⟩
  ·obtain ⟨v,h1,h2⟩:=An.1 h
   exact ⟨v,w,h1,rfl,hw,h2⟩
 ·obtain ⟨v,h1,h2⟩:=An.1 h
  exact ⟨v,w,h1,rfl,hw,h2⟩
theorem qL {st:St} {t:TypeId} {p v:AV} {K:St->Prop} (h:wO T st t p v K): ∃s,Mr T st t p v=some s/\K s:=by
 unfold wO at h
 split at h
 ·obtain ⟨τ,h1,h⟩:=An.1 h
  obtain ⟨q,h2,h⟩:=An.1 h
  split at h
  ·rename_i hb
   obtain ⟨u,h3,h⟩:=An.1 h
   split at h
   ·rename_i hc
    obtain ⟨h4,h5⟩:=h
    obtain ⟨q1,q2⟩:=q
    obtain ⟨u1,u2⟩:=u
    exact ⟨_,by simp only [Mr,h1,h2,hb,h3];rw [dif_pos hc,if_pos h4],h5⟩
   ·cases h
  ·cases h
 ·exact An.1 h
theorem nu {st:St} {t:TypeId} {p v:AV} {K:St->Prop} (h:qH T st t p v K): ∃s,Iy T st t p v=some s/\K s:=by
 unfold qH at h
 unfold Iy
 split at h
 rotate_left
 ·rename_i hg;rw [hg];exact qL h
 rename_i hg
 rw [hg]
 simp only
 unfold xS at h
 split at h
 ·obtain ⟨τ,h1,h⟩:=An.1 h
  obtain ⟨q,h2,h⟩:=An.1 h
  split at h
  ·rename_i hb
   obtain ⟨u,h3,h⟩:=An.1 h
   split at h
   ·rename_i hc
    obtain ⟨q1,q2⟩:=q
    obtain ⟨u1,u2⟩:=u
    exact ⟨_,by simp only [Th,h1,h2,hb,h3];rw [dif_pos hc],h⟩
   ·cases h
  ·cases h
 ·rename_i l j
  obtain ⟨τ,h1,h⟩:=An.1 h
  split at h
  ·rename_i e te rows out kp m off len hl _
   split at h
   ·rename_i fr tr e' tid xs hm
    split at h
    ·rename_i hc
     obtain ⟨h2,h3,h4,h5⟩:=h
     have h4:out=none\/out=some j:=by
      cases out with
      |none=>exact .inl rfl
      |some i=>exact .inr (congrArg some h4)
     exact ⟨_,by simp only [Th,h1,hl,hm];rw [dif_pos ⟨hc.1,hc.2,h2,h3,h4⟩],h5⟩
    ·cases h
   ·cases h
  ·cases h
 ·cases h
theorem Pv {st:St} {d:Nat} {t:TypeId} {x y:Operand} {K:AV->St->Prop} (h:eD T st d t x y K): ∃v s,Ht T st d t x y=some (v,s)/\K v s:=by
 unfold eD at h
 obtain ⟨te,h1,h⟩:=An.1 h
 obtain ⟨e,h2,h⟩:=An.1 h
 obtain ⟨q,h3,h⟩:=An.1 h
 obtain ⟨u,h4,h⟩:=An.1 h
 obtain ⟨q1,q2⟩:=q
 obtain ⟨u1,u2⟩:=u
 split at h
 ·rename_i hx
  split at h
  ·rename_i hd
   obtain ⟨h5,h6⟩:=h
   refine ⟨_,_,?_,h6⟩
   simp only [Ht,h1,h2,h3,h4]
   rw [hx]
   simp only
   rw [if_pos ⟨h5,by simpa [Nat.blt_eq] using hd⟩]
   simp
  ·cases h
 ·rename_i l off len hx
  split at h
  ·rename_i fr tr e' tid xs hb
   split at h
   ·rename_i hc
    obtain ⟨h5,h6,h7,h8⟩:=h
    refine ⟨_,_,?_,h8⟩
    simp only [Ht,h1,h2,h3,h4]
    rw [hx]
    simp only [hb]
    rw [dif_pos ⟨hc.1,hc.2.1⟩,if_pos ⟨h7,by simpa [Nat.blt_eq] using hc.2.2⟩]
    obtain ⟨FU,OE,IN⟩:=hc
    subst FU
    subst h5
    simp only [List.drop_zero,h6,List.take_length,List.length_append]
   ·cases h
  ·cases h
 ·cases h
theorem kb {st:St} {d:Nat} {t:TypeId} {x y:Operand} {K:AV->St->Prop} (h:ka T st d t x y K): ∃v s,Kg T st d t x y=some (v,s)/\K v s:=by
 unfold ka at h
 cases x with
 |tmp tx=>
  simp only at h
  unfold Kg
  simp only
  cases hg:st.get tx with
  | «at»c=>
   rw [hg] at h
   cases c with
   |sub l i c=>
    simp only at h⊢
    obtain ⟨tid,h1,h⟩:=An.1 h
    split at h
    ·rename_i hl
     split at h
     ·rename_i hc
      obtain ⟨v,s,h2,h3⟩:=Pv h
      refine ⟨v,s,?_,h3⟩
      simp only [hl,h1]
      rw [if_pos hc]
      exact h2
     ·cases h
    ·cases h
   |_=>exact Pv h
  |_=>rw [hg] at h;exact Pv h
 |_=>exact Pv h
theorem sS {st:St} {d:Nat} {t:TypeId} {l c:AV} {K:AV->St->Prop} (h:CL T st d t l c K): ∃v s,Te T st d t l c=some (v,s)/\K v s:=by
 unfold CL at h
 split at h
 ·obtain ⟨te,h1,h⟩:=An.1 h
  obtain ⟨e,h2,h⟩:=An.1 h
  split at h
  ·rename_i hz
   obtain ⟨h3,h4,h5⟩:=h
   refine ⟨_,_,?_,h5⟩
   simp only [Bool.and_eq_true] at hz
   simp only [Te,h1,h2]
   rw [if_pos ⟨Ma.2 (by exact_mod_cast h3),h4,hz.1,by simpa [Nat.blt_eq] using hz.2⟩]
   simp
  ·cases h
 ·cases h
theorem pX {st:St} {d:Nat} {t:TypeId} {l c:AV} {K:AV->St->Prop} (h:vP T st d t l c K): ∃v s,Ox T st d t l c=some (v,s)/\K v s:=by
 unfold vP at h
 unfold Ox
 cases hg:Wf T t with
 |none=>rw [hg] at h;exact sS h
 |some p=>
  obtain ⟨te,e⟩:=p
  rw [hg] at h
  simp only at h⊢
  split at h
  ·split at h
   ·rename_i hd
    obtain ⟨h3,h4,h5⟩:=h
    refine ⟨_,_,?_,h5⟩
    simp only
    rw [if_pos ⟨Ma.2 (by exact_mod_cast h3),h4,by simpa [Nat.blt_eq] using hd⟩]
    simp
   ·cases h
  ·cases h
theorem dF {st:St} {d:Nat} {t:TypeId} {len:Nat} {parts:Array (Nat×Operand)} {K:AV->St->Prop} (h:Xp T st d t len parts K): ∃v s,Eh T st d t len parts=some (v,s)/\K v s:=by
 unfold Xp at h
 unfold Eh
 cases hg:Wf T t with
 |none=>
  rw [hg] at h
  obtain ⟨r,h1,h2⟩:=An.1 h
  exact ⟨r.1,r.2,h1,h2⟩
 |some p=>
  obtain ⟨te,e⟩:=p
  rw [hg] at h
  simp only at h⊢
  split at h
  ·rename_i x hp
   split at h
   ·rename_i m off ln hx
    split at h
    ·rename_i hm
     split at h
     ·rename_i hc
      obtain ⟨h1,h2,h3⟩:=h
      refine ⟨_,_,?_,h3⟩
      simp only [hp,hx,hm]
      rw [dif_pos ⟨hc.1,hc.2,h1,h2⟩]
     ·cases h
    ·cases h
   ·cases h
  ·cases h
theorem kd {st:St} {d:Nat} {t:TypeId} {x y:Operand} {K:AV->St->Prop} (h:kc T st d t x y K): ∃v s,Kh T st d t x y=some (v,s)/\K v s:=by
 unfold kc at h
 unfold Kh
 cases hg:Wf T t with
 |none=>rw [hg] at h;exact kb h
 |some p=>
  obtain ⟨te,e⟩:=p
  rw [hg] at h
  simp only at h⊢
  split at h
  ·rename_i l off len m CP kY hx hy
   split at h
   ·rename_i hl hm
    split at h
    ·rename_i hc
     obtain ⟨h1,h2,h3,h4,h5⟩:=h
     obtain ⟨⟨rfl,rfl⟩,hc⟩:=hc
     refine ⟨_,_,?_,h5⟩
     simp only [hx,hy,hl,hm]
     rw [dif_pos (⟨⟨trivial,trivial⟩,hc,h1,h2,h3,h4⟩)]
     simp
    ·cases h
   ·cases h
  ·cases h
theorem qR {st:St} {io:Bool} {k:Nat} {c:CK} {a:AC} {K:c.den->List (Nat×Loc)->Prop} (h:Zd st io k c a K): ∃x t,Gi st io k c a=some (x,t)/\K x t:=by
 cases c with
 |Gh τ=>
  cases a with
  |own l off len=>
   obtain ⟨p,h1,h2⟩:=An.1 h
   exact ⟨_,_,by simp only [Gi];rw [h1];rfl,h2⟩
  |clo g Bp=>
   simp only [Zd] at h
   split at h
   ·rename_i hc
    obtain ⟨p,h1,h2⟩:=An.1 h
    exact ⟨_,_,by simp only [Gi];rw [if_pos hc,h1];rfl,h2⟩
   ·cases h
  |Dj l i=>
   simp only [Zd] at h
   split at h
   ·rename_i hc
    obtain ⟨p,h1,h2⟩:=An.1 h
    exact ⟨_,_,by simp only [Gi];rw [if_pos hc,h1];rfl,h2⟩
   ·cases h
  |sub l i c=>
   obtain ⟨p,h1,h2⟩:=An.1 h
   exact ⟨_,_,by simp only [Gi];rw [h1];rfl,h2⟩
  |_=>
   simp only [Zd] at h
   split at h
   ·rename_i hc
    obtain ⟨p,h1,h2⟩:=An.1 h
    exact ⟨_,_,by simp only [Gi];rw [if_pos hc,h1];rfl,h2⟩
   ·cases h
 |row e te=>
  cases a<;>simp only [Zd] at h<;>first|(cases h;done)|skip
  ·exact ⟨_,_,rfl,h⟩
  ·split at h
   ·rename_i hl
    split at h
    ·rename_i hc
     obtain ⟨h1,h2,h3⟩:=h
     exact ⟨_,_,by simp only [Gi,hl];rw [dif_pos ⟨hc.1,hc.2,h1,h2⟩],h3⟩
    ·cases h
   ·cases h
  ·split at h
   ·rename_i hl
    split at h
    ·rename_i hc
     obtain ⟨y,h1,h2⟩:=h
     exact ⟨_,_,by simp only [Gi,hl];rw [dif_pos hc,h1];rfl,h2⟩
    ·cases h
   ·cases h
 |Dh e te=>
  cases a<;>simp only [Zd] at h<;>first|(cases h;done)|skip
  ·exact ⟨_,_,rfl,h⟩
  ·split at h
   ·rename_i hl
    split at h
    ·rename_i hc
     obtain ⟨h1,h2,h3⟩:=h
     exact ⟨_,_,by simp only [Gi,hl];rw [dif_pos ⟨hc.1,hc.2,h1,h2⟩],h3⟩
    ·cases h
   ·cases h
  ·split at h
   ·rename_i hl
    split at h
    ·rename_i hc
     obtain ⟨y,h1,h2⟩:=h
     exact ⟨_,_,by simp only [Gi,hl];rw [dif_pos hc,h1];rfl,h2⟩
    ·cases h
   ·cases h
 |part e te=>
  cases a<;>simp only [Zd] at h<;>first|(cases h;done)|skip
  split at h
  ·rename_i hl
   split at h
   ·rename_i hc
    exact ⟨_,_,by simp only [Gi,hl];rw [dif_pos hc],h⟩
   ·cases h
  ·cases h
 |Ai e te kp=>
  cases a<;>simp only [Zd] at h<;>first|(cases h;done)|skip
  split at h
  ·rename_i hl
   split at h
   ·rename_i hc
    obtain ⟨h1,h2,h3⟩:=h
    exact ⟨_,_,by simp only [Gi,hl];rw [dif_pos ⟨hc.1,hc.2.1,h1,h2,hc.2.2⟩],h3⟩
   ·cases h
  ·cases h
theorem tF {st:St} {e:Ty} {ys:List e.den} {a:AC} {K:St->Prop} (h:DD st e ys a K): ∃s,wi st e ys a=some s/\K s:=by
 cases a<;>simp only [DD] at h<;>first|(cases h;done)|skip
 split at h
 ·rename_i hl
  split at h
  ·rename_i hc
   obtain ⟨h1,h3⟩:=h
   exact ⟨_,by simp only [wi,hl];rw [dif_pos ⟨hc,h1⟩],h3⟩
  ·cases h
 ·cases h
theorem di {st:St} : ∀(cs:List (Bool×CK)) (k:Nat) (as:List AC) (K:Ins.den cs->List (Nat×Loc)->Prop),qS st k cs as K-> ∃x t,Ze st k cs as=some (x,t)/\K x t
 | [],_,[],_,h=>⟨_,_,rfl,h⟩
 | [],_,_::_,_,h=>h.elim
 |_::_,_,[],_,h=>h.elim
 |p::r,k,a::as,K,h=>by
  obtain ⟨x,t1,h1,h2⟩:=qR h
  obtain ⟨y,t2,h3,h4⟩:=di r (k+1) as _ h2
  exact ⟨_,_,by simp only [Ze,h1,h3],h4⟩
theorem iW {st:St} {c:CK} {ys:c.den} {a:AC} {K:St->Prop} (h:iV st c ys a K): ∃s,Ue st c ys a=some s/\K s:=by
 cases c with
 |Gh τ=>cases a<;>simp only [iV] at h<;>first|(cases h;done)|exact ⟨_,rfl,h⟩
 |row e te=>
  cases a<;>simp only [iV] at h<;>first|(cases h;done)|skip
  ·exact ⟨_,rfl,h⟩
  ·split at h
   ·rename_i hl
    split at h
    ·rename_i hc
     obtain ⟨h1,h3⟩:=h
     exact ⟨_,by simp only [Ue,hl];rw [dif_pos ⟨hc,h1⟩],h3⟩
    ·cases h
   ·cases h
  ·split at h
   ·rename_i hl
    split at h
    ·rename_i hc
     obtain ⟨y,h1,h2,h3⟩:=h
     exact ⟨_,by simp only [Ue,hl,dif_pos hc,h1];rw [if_pos h2],h3⟩
    ·cases h
   ·cases h
 |Dh e te=>
  cases a<;>simp only [iV] at h<;>first|(cases h;done)|skip
  ·exact ⟨_,rfl,h⟩
  ·split at h
   ·rename_i hl
    split at h
    ·rename_i hc
     obtain ⟨h1,h3⟩:=h
     exact ⟨_,by simp only [Ue,hl];rw [dif_pos ⟨hc,h1⟩],h3⟩
    ·cases h
   ·cases h
  ·split at h
   ·rename_i hl
    split at h
    ·rename_i hc
     obtain ⟨y,h1,h2,h3⟩:=h
     exact ⟨_,by simp only [Ue,hl,dif_pos hc,h1];rw [if_pos h2],h3⟩
    ·cases h
   ·cases h
 |part e te=>cases a<;>simp only [iV] at h<;>first|(cases h;done)|exact ⟨_,rfl,h⟩
 |Ai e te kp=>cases a<;>simp only [iV] at h<;>first|(cases h;done)|exact ⟨_,rfl,h⟩
theorem Jc: ∀(cs:List (Bool×CK)) (o:IOs.den cs) (as:List AC) (st:St) (K:St->Prop),bo cs o as st K-> ∃s,Dr cs o as st=some s/\K s
 | [],_,_,st,K,h=>⟨st,rfl,h⟩
 |(true, .Gh _)::r,o,[],st,K,h=>h.elim
 |(true, .row _ _)::r,o,[],st,K,h=>h.elim
 |(true, .Dh _ _)::r,o,[],st,K,h=>h.elim
 |(true, .part _ _)::r,o,[],st,K,h=>h.elim
 |(true, .Ai _ _ _)::r,o,[],st,K,h=>h.elim
 |(true, .Ai _ _ _)::r,o,a::as,st,K,h=>by
  obtain ⟨s,h1,h2⟩:=Jc r o as st K h
  exact ⟨s,by simp only [Dr];exact h1,h2⟩
 |(false,_)::r,o,[],st,K,h=>h.elim
 |(true, .Gh _)::r,o,a::as,st,K,h=>by
  obtain ⟨s,h1,h2⟩:=Jc r o as st K h
  exact ⟨s,by simp only [Dr];exact h1,h2⟩
 |(false,_)::r,o,a::as,st,K,h=>by
  obtain ⟨s,h1,h2⟩:=Jc r o as st K h
  exact ⟨s,by simp only [Dr];exact h1,h2⟩
 |(true, .row _ _)::r,o,a::as,st,K,h=>by
  obtain ⟨s1,h1,h2⟩:=iW h
  obtain ⟨s,h3,h4⟩:=Jc r o.2 as s1 K h2
  exact ⟨s,by simp only [Dr,h1];exact h3,h4⟩
 |(true, .part _ _)::r,o,a::as,st,K,h=>by
  obtain ⟨s1,h1,h2⟩:=tF h
  obtain ⟨s,h3,h4⟩:=Jc r o.2 as s1 K h2
  exact ⟨s,by simp only [Dr,h1];exact h3,h4⟩
 |(true, .Dh _ _)::r,o,a::as,st,K,h=>by
  obtain ⟨s1,h1,h2⟩:=iW h
  obtain ⟨s,h3,h4⟩:=Jc r o.2 as s1 K h2
  exact ⟨s,by simp only [Dr,h1];exact h3,h4⟩
theorem j7 {H:List (Nat×OB)} {ls:List Nat} {n:Nat} {K:Prop} : ∀(l:List AV),lZ H ls n l K->Vp H ls n l=true/\K
 | [],h=>⟨rfl,h⟩
 |a::r,h=>by
  have go:lZ H ls n r K->Vp H ls n r=true/\K:=j7 r
  cases a with
  | «at»c=>
   cases c with
   |sub l i c=>
    simp only [lZ] at h
    simp only [Vp]
    split at h
    ·rename_i hc
     obtain ⟨⟨h1,h2⟩,h3⟩:=h
     obtain ⟨g1,g2⟩:=go h3
     exact ⟨by simp only [hc,g1,Bool.and_true,Bool.not_true,Bool.false_or,Bool.and_eq_true,Nat.blt_eq];exact ⟨h1,h2⟩,g2⟩
    ·rename_i hc
     obtain ⟨g1,g2⟩:=go h
     exact ⟨by simp only [hc,g1,Bool.not_false,Bool.true_or,Bool.and_true],g2⟩
   |_=>exact go h
  |_=>exact go h
theorem pc {st:St} {d:Option Nat} {s:MSpec} {args:List AV} {K:AV->St->Prop} (h:uO st d s args K): ∃v s',Ov st d s args=some (v,s')/\K v s':=by
 unfold uO at h
 obtain ⟨⟨pl,cells,rest⟩,h0,h⟩:=An.1 h
 obtain ⟨as,h1,h⟩:=An.1 h
 obtain ⟨x,tks,h2,h⟩:=di s.ins 0 (cells++as) _ h
 split at h
 ·rename_i hc
  obtain ⟨⟨r,o⟩,h3,h⟩:=h
  obtain ⟨st1,h4,h⟩:=Jc s.ins o (cells++as) st _ h
  obtain ⟨v,h5,h6⟩:=An.1 h
  obtain ⟨h7,h6⟩:=j7 _ h6
  refine ⟨v,_,?_,h6⟩
  unfold Ov
  simp only [h0,h1,h2]
  rw [if_pos hc]
  simp only [h3,h4,h5]
  rw [if_pos h7]
 ·cases h
theorem yR {w:WS} (hw:w.OK) {o:Oper} {K:AV->WS->Prop} (h:JS T Γ w o K):
  ∃v w',evalOp T Γ w.st o=some (v,w'.st)/\w'.OK/\(∀b,Cz w'.kn o=some b-> ∃fr,v= .at (.data fr .bool b))/\K v w':=by
 have fin: ∀v s,(∀b,Cz w.kn o=some b-> ∃fr,v= .at (.data fr .bool b))->evalOp T Γ w.st o=some (v,s)->K v (w.to s)-> ∃v w',evalOp T Γ w.st o=some (v,w'.st)/\w'.OK/\(∀b,Cz w'.kn o=some b-> ∃fr,v= .at (.data fr .bool b))/\K v w':=
  fun v s hk h1 h2=>⟨v,w.to s,h1,hw.to (eT h1),hk,h2⟩
 have pv:(∀b v s,Cz w.kn o=some b->evalOp T Γ w.st o=some (v,s)-> ∃fr,v= .at (.data fr .bool b))->Dm (evalOp T Γ w.st o) (λr=>K r.1 (w.to r.2))-> ∃v w',evalOp T Γ w.st o=some (v,w'.st)/\w'.OK/\(∀b,Cz w'.kn o=some b-> ∃fr,v= .at (.data fr .bool b))/\K v w':=by
  intro hk h
  obtain ⟨r,h1,h2⟩:=An.1 h
  exact fin r.1 r.2 (λb hb=>hk b _ _ hb h1) h1 h2
 unfold JS at h
 split at h
 ·rename_i heq
  obtain ⟨s,h1,h2⟩:=nu h
  refine fin _ _ (λb hb=>by unfold Cz at hb;rw [heq] at hb;cases hb) ?_ h2
  unfold evalOp;rw [heq];simp only [h1];rfl
 ·rename_i heq
  obtain ⟨d,h1,h⟩:=An.1 h
  obtain ⟨v,s,h2,h3⟩:=pX h
  refine fin _ _ (λb hb=>by unfold Cz at hb;rw [heq] at hb;cases hb) ?_ h3
  unfold evalOp;rw [heq];simp only [h1,h2]
 ·rename_i heq
  split at h
  ·rename_i hd ha ht
   split at h
   ·rename_i Ng
    obtain ⟨v,s,h2,h3⟩:=kd h
    refine fin _ _ (λb hb=>by unfold Cz at hb;rw [heq] at hb;cases hb) ?_ h3
    unfold evalOp;rw [heq];simp only [hd,ha,ht,if_pos Ng,h2]
   ·cases h
  ·cases h
 ·rename_i heq;exact pv (λb v s hb he=>lf hw heq hb he) h
 ·rename_i heq;exact pv (λb v s hb he=>by unfold Cz at hb;rw [heq] at hb;cases hb) h
 ·rename_i heq;exact pv (λb v s hb he=>by unfold Cz at hb;rw [heq] at hb;cases hb) h
 ·rename_i heq
  obtain ⟨d,h1,h⟩:=An.1 h
  obtain ⟨v,s,h2,h3⟩:=dF h
  refine fin _ _ (λb hb=>by unfold Cz at hb;rw [heq] at hb;cases hb) ?_ h3
  unfold evalOp;rw [heq];simp only [h1,h2]
 ·rename_i heq;exact pv (λb v s hb he=>by unfold Cz at hb;rw [heq] at hb;cases hb) h
 ·rename_i heq;exact pv (λb v s hb he=>by unfold Cz at hb;rw [heq] at hb;cases hb) h
 ·rename_i heq;exact pv (λb v s hb he=>by unfold Cz at hb;rw [heq] at hb;cases hb) h
 ·rename_i heq;exact pv (λb v s hb he=>by unfold Cz at hb;rw [heq] at hb;cases hb) h
 ·rename_i heq;exact pv (λb v s hb he=>by unfold Cz at hb;rw [heq] at hb;cases hb) h
 ·rename_i heq;exact pv (λb v s hb he=>by unfold Cz at hb;rw [heq] at hb;cases hb) h
 ·
  rename_i f _ _ heq
  split at h
  ·rename_i Lb
   obtain ⟨v,s',h1,h2⟩:=pc h
   refine fin v s' (λb hb=>by unfold Cz at hb;rw [heq] at hb;cases hb) ?_ h2
   unfold evalOp;rw [heq];simp only [Lb];exact h1
  ·rename_i s Lb
   split at h
   ·rename_i xB
    obtain ⟨st1,hs,h⟩:=An.1 h
    obtain ⟨v,w',h1,h2,h3,FO,h4⟩:=bp (hw.to (Rc _ hs)) h
    refine ⟨v,w',?_,h3,FO,h4⟩
    have h1:Ca T Γ st1 o=some v:=h1
    have h2:w'.st=st1:=h2
    unfold evalOp
    rw [heq]
    simp only [Lb,xB,hs,h1,h2]
    rfl
   ·rename_i xB
    obtain ⟨v,w',h1,h2,h3,FO,h4⟩:=bp hw h
    refine ⟨v,w',?_,h3,FO,h4⟩
    unfold evalOp
    rw [heq]
    simp only [Lb,xB,h1,h2]
    rfl
  ·rename_i Ad3 QR
   obtain ⟨v,w',h1,h2,h3,FO,h4⟩:=bp hw h
   refine ⟨v,w',?_,h3,FO,h4⟩
   unfold evalOp
   rw [heq]
   simp only
   rw [h1,h2];rfl
 ·rename_i n1 n2 n3 n4 n5 n6 n7 n8 n9 VG VH VI VJ VK
  obtain ⟨v,w',h1,h2,h3,FO,h4⟩:=bp hw h
  refine ⟨v,w',?_,h3,FO,h4⟩
  unfold evalOp
  split
  all_goals first
   |(rw [h1,h2];rfl)
   |(rename_i hq;exact absurd hq (by first|exact n1 _|exact n2 _|exact n3 _|exact n4 _|exact n5 _|exact n6 _|exact n7 _|exact n8 _|exact n9 _|exact VG _|exact VH _|exact VI _|exact VJ _|exact VK _))
   |(rename_i hq;exact absurd hq (by first|exact n1 _ _|exact n2 _ _|exact n3 _ _|exact n4 _ _|exact n5 _ _|exact n6 _ _|exact n7 _ _|exact n8 _ _|exact n9 _ _|exact VG _ _|exact VH _ _|exact VI _ _|exact VJ _ _|exact VK _ _))
   |(rename_i hq;exact absurd hq (by first|exact n1 _ _ _|exact n2 _ _ _|exact n3 _ _ _|exact n4 _ _ _|exact n5 _ _ _|exact n6 _ _ _|exact n7 _ _ _|exact n8 _ _ _|exact n9 _ _ _|exact VG _ _ _|exact VH _ _ _|exact VI _ _ _|exact VJ _ _ _|exact VK _ _ _))
   |(rename_i hq;exact absurd hq (by first|exact n1 _ _ _ _|exact n2 _ _ _ _|exact n3 _ _ _ _|exact n4 _ _ _ _|exact n5 _ _ _ _|exact n6 _ _ _ _|exact n7 _ _ _ _|exact n8 _ _ _ _|exact n9 _ _ _ _|exact VG _ _ _ _|exact VH _ _ _ _|exact VI _ _ _ _|exact VJ _ _ _ _|exact VK _ _ _ _))
theorem py (st:St) (d:Nat) (v:AV):(st.put (some d) v).get d=v\/(st.put (some d) v).get d= .undef:=by
 simp only [St.put,St.get]
 rw [Ss]
 by_cases h:d<st.tmps.length
 ·exact .inl (by rw [if_pos ⟨rfl,h⟩])
 ·refine .inr ?_
  rw [if_neg (λhc=>h hc.2),List.getD_eq_getElem?_getD,List.getElem?_eq_none (by omega)]
  rfl
theorem WS.OK.nc {w:WS} (hw:w.OK) (o:Oper) (v:AV) (h: ∀b,Cz w.kn o=some b-> ∃fr,v= .at (.data fr .bool b)):(w.nc o v).OK/\(w.nc o v).st=w.st.put o.dst v:=by
 unfold WS.nc
 split
 ·rename_i d b hd hk
  split
  ·rename_i fr c hg
   refine ⟨?_,by rw [hd]⟩
   obtain ⟨Nj,hv⟩:=h b hk
   intro t b' hb
   simp only [mO] at hb
   split at hb
   ·rename_i ht
    injection hb with hb
    subst ht;subst hb
    refine ⟨Nj,?_⟩
    show (w.st.put (some d) v).get d=_
    cases py w.st d v with
    |inl h1=>rw [h1,hv]
    |inr h1=>rw [h1] at hg;cases hg
   ·exact hw.put (some d) v t b' hb
  ·exact ⟨hw.put _ _,by rw [WS.lv,hd]⟩
 ·exact ⟨hw.put _ _,WS.lv _ _ _⟩
theorem j6 {ops:Array Oper} {w:WS} (hw:w.OK) {o:Oper} {run:(AV->WS->Prop)->WS->Prop} {R:St->Option (AV×St)} {K:WS->Prop}
  (hr: ∀(k:AV->WS->Prop) (w:WS),w.OK->run k w-> ∃v w',R w.st=some (v,w'.st)/\w'.OK/\(∀b,Cz w'.kn o=some b-> ∃fr,v= .at (.data fr .bool b))/\k v w') (h:df ops w o run K):
  ∃w',(match o.guard with
   |none=>(R w.st).map λr=>r.2.put o.dst r.1
   |some (j,want)=>match On w.st ((ops[j]?).bind (·.dst)) with
    |some (some b)=>if b==want then (R w.st).map λr=>r.2.put o.dst r.1 else some (w.st.put o.dst (.at .skip))
    |some none=>some (w.st.put o.dst (.at .skip))
    |none=>none)=some w'.st/\w'.OK/\K w':=by
 have go: ∀w:WS,w.OK->run (λv w'=>K (w'.nc o v)) w-> ∃w',((R w.st).map λr=>r.2.put o.dst r.1)=some w'.st/\w'.OK/\K w':=by
  intro w hw h
  obtain ⟨v,w',h1,h2,h3,h4⟩:=hr _ _ hw h
  obtain ⟨h5,h6⟩:=h2.nc o v h3
  exact ⟨w'.nc o v,by rw [h1,h6];rfl,h5,h4⟩
 unfold df at h
 split at h
 ·rename_i hg
  rw [hg]
  exact go w hw h
 ·rename_i j want hg
  rw [hg]
  obtain ⟨t,h1,h⟩:=An.1 h
  simp only [h1]
  split at h
  ·rename_i hs
   have hsk:w.st.get t= .at .skip:=by
    unfold AV.CA at hs
    split at hs
    ·assumption
    ·cases hs
   exact ⟨_,by simp only [On,hsk];rw [WS.lv],hw.put _ _,h⟩
  ·obtain ⟨fr,b,w',h2,h3,h4,h5⟩:=nK hw h
   have hb:On w.st (some t)=some (some b):=by simp only [On,h2]
   rw [hb]
   simp only
   cases b with
   |true=>
    cases want with
    |true=>rw [if_pos (by decide),<-h3];exact go w' h4 h5
    |false=>exact ⟨_,by rw [if_neg (by decide),<-h3,WS.lv],h4.put _ _,h5⟩
   |false=>
    cases want with
    |false=>rw [if_pos (by decide),<-h3];exact go w' h4 h5
    |true=>exact ⟨_,by rw [if_neg (by decide),<-h3,WS.lv],h4.put _ _,h5⟩
theorem bN {ops:Array Oper} {w:WS} (hw:w.OK) {o:Oper} {K:WS->Prop} (h:df ops w o (λk w'=>JS T Γ w' o k) K): ∃w',Cb T Γ ops w.st o=some w'.st/\w'.OK/\K w':=by
 obtain ⟨w',h1,h2⟩:=j6 hw (R:= λst=>evalOp T Γ st o) (λk w hw h=>by
  obtain ⟨v,w',h1,h2,IH,h3⟩:=yR hw h
  exact ⟨v,w',h1,h2,IH,h3⟩) h
 exact ⟨w',h1,h2⟩
theorem AL {w:WS} (hw:w.OK) {o:Oper} {K:AV->WS->Prop} (h:bW T Γ w o K):
  ∃v w',Qj T Γ w.st o=some v/\w'.st=w.st/\w'.OK/\(∀b,Cz w'.kn o=some b-> ∃fr,v= .at (.data fr .bool b))/\K v w':=by
 unfold bW at h
 split at h
 ·rename_i t len parts o1
  obtain ⟨v,h1,h2⟩:=An.1 h
  exact ⟨v,w,by unfold Qj;rw [o1];exact h1,rfl,hw,λb hb=>by simp [Cz,o1] at hb,h2⟩
 ·rename_i t parts o1
  obtain ⟨v,h1,h2⟩:=An.1 h
  exact ⟨v,w,by unfold Qj;rw [o1];exact h1,rfl,hw,λb hb=>by simp [Cz,o1] at hb,h2⟩
 ·rename_i n1 n2
  obtain ⟨v,w',h1,h2⟩:=bp hw h
  refine ⟨v,w',?_,h2⟩
  rw [<-h1]
  unfold Qj
  split
  ·rename_i h9;exact absurd h9 (n1 _ _ _)
  ·rename_i h9;exact absurd h9 (n2 _ _)
  ·rfl
theorem HI {ops:Array Oper} {w:WS} (hw:w.OK) {o:Oper} {K:WS->Prop} (h:df ops w o (λk w'=>bW T Γ w' o k) K): ∃v w',aj T Γ ops w.st o=some v/\w'.st=w.st.put o.dst v/\w'.OK/\K w':=by
 obtain ⟨w',h1,h2,h3⟩:=j6 hw (R:= λst=>(Qj T Γ st o).map λv=>(v,st)) (λk w hw h=>by
  obtain ⟨v,w',h1,h2,h3,FO,h4⟩:=AL hw h
  exact ⟨v,w',by simp only [h1,h2];rfl,h3,FO,h4⟩) h
 have key: ∀u:Option AV,((u.map λv=>(v,w.st)).map λr=>r.2.put o.dst r.1)=some w'.st-> ∃v,u=some v/\w'.st=w.st.put o.dst v:=by
  intro u hu
  cases u with
  |none=>cases hu
  |some v=>injection hu with hu;exact ⟨v,rfl,hu.symm⟩
 unfold aj
 split at h1
 ·rename_i hg
  obtain ⟨v,h4,h5⟩:=key _ h1
  exact ⟨v,w',by rw [hg];exact h4,h5,h2,h3⟩
 ·rename_i j want hg
  rw [hg]
  split at h1
  ·rename_i b hb
   simp only [hb]
   split at h1
   ·rename_i vf
    obtain ⟨v,h4,h5⟩:=key _ h1
    exact ⟨v,w',by rw [if_pos vf];exact h4,h5,h2,h3⟩
   ·rename_i vf
    injection h1 with h1
    exact ⟨_,w',by rw [if_neg vf],h1.symm,h2,h3⟩
  ·rename_i hb
   simp only [hb]
   injection h1 with h1
   exact ⟨_,w',rfl,h1.symm,h2,h3⟩
  ·cases h1
theorem lg {ops:Array Oper} : ∀(l:List Oper) {w:WS} (_:w.OK) {K:WS->Prop},MR T Γ ops l w K-> ∃w',Rx T Γ ops l w.st=some w'.st/\w'.OK/\K w'
 | [],w,hw,K,h=>⟨w,rfl,hw,h⟩
 |o::r,w,hw,K,h=>by
  obtain ⟨w1,h1,h2,h3⟩:=bN hw h
  obtain ⟨w2,h4,h5⟩:=lg r h2 h3
  exact ⟨w2,by simp only [Rx];rw [h1];exact h4,h5⟩
theorem Yb {ops:Array Oper} : ∀(l:List Nat) {w:WS} (_:w.OK) {K:WS->Prop},BS T Γ ops l w K-> ∃w',Ii T Γ ops l w.st=some w'.st/\w'.OK/\K w'
 | [],w,hw,K,h=>⟨w,rfl,hw,h⟩
 |i::r,w,hw,K,h=>by
  obtain ⟨o,h0,h⟩:=An.1 h
  obtain ⟨w1,h1,h2,h3⟩:=bN hw h
  obtain ⟨w2,h4,h5⟩:=Yb r h2 h3
  exact ⟨w2,by simp only [Ii];rw [h0];simp only [h1];exact h4,h5⟩
theorem Qo {ops:Array Oper} : ∀(l:List Nat) {w:WS} (_:w.OK) {K:WS->Prop},nV T Γ ops l w K-> ∃w',Dp T Γ ops l w.st=some w'.st/\w'.OK/\K w'
 | [],w,hw,K,h=>⟨w,rfl,hw,h⟩
 |i::r,w,hw,K,h=>by
  obtain ⟨o,h0,h⟩:=An.1 h
  obtain ⟨v,w1,h1,h1',h2,h3⟩:=HI hw h
  obtain ⟨w2,h4,h5⟩:=Qo r h2 h3
  exact ⟨w2,by simp only [Dp];rw [h0];simp only [h1];rw [<-h1'];exact h4,h5⟩
theorem jY {P:Nat->Prop} : ∀(l:List Nat),FF l P-> ∀i∈l,P i
 | [],_,i,hi=>by cases hi
 | [k],h,i,hi=>by rw [List.mem_singleton.1 hi];exact h
 |k::j::r,h,i,hi=>by
  rcases List.mem_cons.1 hi with rfl|hi
  ·exact h.1
  ·exact jY (j::r) h.2 i hi
theorem dD {ops:Array Oper} {K:WS->Prop} : ∀(f:Nat) (Aa:Array Bool) {w:WS} (_:w.OK),yb T Γ ops f Aa w K->anyS T Γ ops (λs=> ∃w':WS,w'.st=s/\w'.OK/\K w') f Aa w.st
 |0,Aa,w,hw,h=>by
  unfold yb at h
  split at h
  ·rename_i hr;exact ⟨hr,w,rfl,hw,h⟩
  ·cases h
 |f+1,Aa,w,hw,h=>by
  unfold yb at h
  split at h
  ·cases h
  ·rename_i i r hr
   refine ⟨by rw [hr];simp,λk hk=>?_⟩
   rw [hr] at hk
   obtain ⟨o,h0,h1⟩:=An.1 (jY _ h k hk)
   obtain ⟨w1,h2,h3,h4⟩:=bN hw h1
   exact ⟨o,w1.st,h0,h2,dD f _ h3 h4⟩
theorem Xu {ops:Array Oper} {K:WS->Prop} : ∀(f:Nat) (Aa:Array Bool) {w:WS} (_:w.OK),gr T Γ ops f Aa w K-> ∃w':WS,w'.OK/\K w'
 |0,Aa,w,hw,h=>by
  simp only [gr] at h
  split at h
  ·exact ⟨w,hw,h⟩
  ·exact h.elim
 |f+1,Aa,w,hw,h=>by
  simp only [gr] at h
  split at h
  ·exact h.elim
  ·obtain ⟨o,ho,h1⟩:=An.1 h
   obtain ⟨w',h2,h3,h4⟩:=bN hw h1
   exact Xu f _ h3 h4
theorem ix {P:List (Nat×Nat×AV×OB)} {ops:Array Oper} {K:WS->Prop} : ∀(f:Nat) (Aa:Array Bool) {w:WS} (_:w.OK),rF T Γ P ops f Aa w K->KC T Γ ops P (λs=> ∃w':WS,w'.st=s/\w'.OK/\K w') f Aa w.st
 |0,Aa,w,hw,h=>by
  unfold rF at h
  split at h
  ·rename_i hr;exact ⟨hr,w,rfl,hw,h⟩
  ·cases h
 |f+1,Aa,w,hw,h=>by
  unfold rF at h
  split at h
  ·cases h
  ·rename_i i r hr
   refine ⟨by rw [hr];simp,λk hk=>?_⟩
   rw [hr] at hk
   obtain ⟨o,h0,h1⟩:=An.1 (jY _ h k hk)
   split at h1
   ·rename_i jq
    obtain ⟨w1,h2,h3,h4⟩:=bN hw h1
    exact ⟨o,w1.st,h0,jq,h2,ix f _ h3 h4⟩
   ·cases h1
theorem tf {α:Type} (f:α->Nat) {l:List α} (h:Rd (l.map f)=true):l.Pairwise λa c=>f a≠f c:=List.pairwise_map.1 (Pg h)
theorem mr {ops:Array Oper} {L0:Array Bool} {n:Nat} {w:WS} (hw:w.OK) {K:WS->Prop} (hc:Rp ops L0) (h:pb T Γ (Qi T ops L0) n L0 ops w K):anyS T Γ ops (λs=> ∃w':WS,w'.st=s/\w'.OK/\K w') n L0 w.st:=by
 unfold pb at h
 split at h
 ·rename_i hb
  simp only [Bool.and_eq_true] at hb
  obtain ⟨⟨b1,b2⟩,b3,b4,b5⟩:=hb
  have hm: ∀a∈Qi T ops L0,a.1∈Region.ready .any ops L0/\ ∃o,ops[a.1]?=some o/\Xm T o=some a.2:= λa ha=>p7 ha
  have p1:=tf (λa:Nat×Nat×AV×OB=>a.1) b1
  have p2:=tf (λa:Nat×Nat×AV×OB=>a.2.1) b2
  have hlen:(Qi T ops L0).length<=n:=Nat.le_of_ble_eq_true b4
  obtain ⟨w1,h1,h2,h3⟩:=Yb _ hw h
  have h3:=Xy.1 h3
  obtain ⟨w0,g1,g2⟩:=Xu _ _ h2 h3
  obtain ⟨g3,g4⟩:=Xy.1 g2
  have hp:=tC (Γ:=Γ) _ w.st w1.st (λa ha=>(hm a ha).2) (λa ha=>lb (List.all_eq_true.1 b3 a ha)) p2 h1
  refine bZ (λs hs=>?_) _ _ _ (ya (λa ha=>(hm a ha).2) n (n-(Qi T ops L0).length) (Qi T ops L0) _ L0 w1.st w.st (by omega) (ix _ _ h2 g4) hp
   (FI (ops:=ops) λi hi=>by obtain ⟨a,ha,rfl⟩:=List.mem_map.1 hi;exact (hm a ha).1) (λa ha=>ha) (p2.and p1) hc λa ha x hx=>bt (hm a ha).1 hx)
  obtain ⟨w',h5,_,h6⟩:=hs
  exact ⟨w0,((h5.symm.trans (nP h6)).symm),g1,g3⟩
 ·cases h
theorem nd {ops:Array Oper} {draw:Bool} {w:WS} (hw:w.OK) {K:WS->Prop} (h:ql T Γ ops draw w K):oX T Γ ops draw w.st (λs=> ∃w':WS,w'.st=s/\w'.OK/\K w'):=by
 unfold ql at h
 split at h
 ·split at h
  ·rename_i ho
   obtain ⟨w1,h1,h2,h3⟩:=Qo _ hw h
   obtain ⟨w2,h4,h5⟩:=Yb _ h2 h3
   exact .inl ⟨w2.st,by simp only [Ki,if_true];rw [if_pos ho,h1];exact h4,w2,rfl,h5⟩
  ·rename_i ho
   split at h
   ·rename_i YM
    obtain ⟨w1,h1,h2,h3⟩:=Qo _ hw h
    obtain ⟨w2,h4,h5⟩:=Yb _ h2 h3
    exact .inl ⟨w2.st,by simp only [Ki,if_true];rw [if_neg (by rw [ho];decide),if_pos YM,h1];exact h4,w2,rfl,h5⟩
   ·split at h
    ·rename_i hc
     simp only [Bool.and_eq_true] at hc
     obtain ⟨w1,h1,h2,h3⟩:=Qo _ hw h
     split at h3
     ·exact .inr ⟨rfl,hc.1,w1.st,h1,dD _ _ h2 h3⟩
     ·obtain ⟨w0,g1,g2⟩:=Xu _ _ h2 h3
      obtain ⟨g3,g4⟩:=Xy.1 g2
      exact .inr ⟨rfl,hc.1,w1.st,h1,bZ (λs hs=>by
       obtain ⟨w',h5,_,h6⟩:=hs
       exact ⟨w0,((h5.symm.trans (nP h6)).symm),g1,g3⟩) _ _ _ (dD _ _ h2 g4)⟩
    ·split at h
     ·rename_i xB
      obtain ⟨w1,h1,h2,h3⟩:=Qo _ hw h
      exact .inr ⟨rfl,xB,w1.st,h1,mr h2 (Xs _ _ _ rT) h3⟩
     ·cases h
 ·obtain ⟨w1,h1,h2⟩:=lg _ hw h
  exact .inl ⟨w1.st,by simp only [Ki];rw [if_neg (by simp)];exact h1,w1,rfl,h2⟩
end
end Go.Proofs.Ytjbdmibbbpdnnaa
