/-
  Part 33 of the proof that the statement FnExactSolveTwoPhase holds.
-/
import Derived.Test.YtjbdmibbbpdnnaaCSolveTwoPhase31
namespace Go.Proofs.Ytjbdmibbbpdnnaa
open Go.RowKit
section
variable {T:Tab} {Γ:Env}
def WS.OK (w:WS):Prop:= ∀t b,qe w.kn t=some b-> ∃fr,w.st.get t= .at (.data fr .bool b)
theorem gJ: ∀(l:List (Nat×Bool)) (d t:Nat) (b:Bool),qe (rH l d) t=some b->t≠d/\qe l t=some b
 | [],_,_,_,h=>by cases h
 |(k,c)::r,d,t,b,h=>by
  simp only [rH] at h
  split at h
  ·rename_i hk
   have:=gJ r d t b h
   refine ⟨this.1,?_⟩
   simp only [qe]
   rw [if_neg (by rw [hk];exact λh=>this.1 h.symm)]
   exact this.2
  ·rename_i hk
   simp only [qe] at h⊢
   split at h
   ·rename_i XZ
    exact ⟨by rw [<-XZ];exact hk,by rw [if_pos XZ];exact h⟩
   ·rename_i XZ
    rw [if_neg XZ]
    exact gJ r d t b h
theorem WS.OK.put {w:WS} (h:w.OK) (dst:Option Tmp) (v:AV):(w.put dst v).OK:=by
 cases dst with
 |none=>exact h
 |some d=>
  intro t b hb
  obtain ⟨h1,h2⟩:=gJ _ _ _ _ hb
  obtain ⟨fr,h3⟩:=h t b h2
  exact ⟨fr,by show (w.st.put (some d) v).get t=_;rw [Wa _ _ h1];exact h3⟩
theorem WS.oM (w:WS) (dst:Option Tmp) (v:AV):(w.put dst v).st=w.st.put dst v:=by cases dst<;>rfl
theorem WS.OK.to {w:WS} (h:w.OK) {s:St} (hs:Bg w.st s):(w.to s).OK:=by
 intro t b hb
 obtain ⟨fr,h3⟩:=h t b hb
 exact ⟨fr,hs t fr _ _ h3⟩
theorem r8 {w:WS} (hw:w.OK) {t:Nat} {K:Bool->WS->Prop} (h:brT w t K):
  ∃fr b w',w.st.get t= .at (.data fr .bool b)/\w'.st=w.st/\w'.OK/\K b w':=by
 unfold brT at h
 split at h
 ·rename_i b hb
  obtain ⟨fr,h1⟩:=hw t b hb
  exact ⟨fr,b,w,h1,rfl,hw,h⟩
 ·split at h
  ·rename_i fr b hb
   obtain ⟨h1,h2⟩:=h
   have ok: ∀c:Bool,b=c->WS.OK {kn:=(t,c)::w.kn,st:=w.st} :=by
    intro c hc t' b' h'
    simp only [qe] at h'
    split at h'
    ·rename_i ht
     injection h' with h'
     exact ⟨fr,by rw [<-ht,<-h',<-hc];exact hb⟩
    ·exact hw t' b' h'
   cases b with
   |true=>exact ⟨fr,true, {kn:=(t,true)::w.kn,st:=w.st},hb,rfl,ok true rfl,h1 rfl⟩
   |false=>exact ⟨fr,false, {kn:=(t,false)::w.kn,st:=w.st},hb,rfl,ok false rfl,h2 rfl⟩
  ·cases h
theorem r7 {w:WS} (hw:w.OK) {c:Operand} {K:Bool->WS->Prop} (h:brO w c K):
  ∃fr b w',w.st.ev c= .at (.data fr .bool b)/\w'.st=w.st/\w'.OK/\K b w':=by
 unfold brO at h
 split at h
 ·exact r8 hw h
 ·exact ⟨true,_,w,rfl,rfl,hw,h⟩
 ·cases h
theorem zk {op:BinOp} {t:TypeId} {x y:AV} {K:AV->Prop} (h:WW T op t x y K): ∃v,Nw T op t x y=some v/\K v:=by
 unfold WW at h
 split at h
 ·split at h
  ·rename_i hk
   exact ⟨_,by simp only [Nw,evalBin,o6];rw [if_pos hk,if_neg h.1];rfl,h.2⟩
  ·cases h
 ·split at h
  ·rename_i hk
   exact ⟨_,by simp only [Nw,evalBin,o6];rw [if_pos hk,if_neg h.1];rfl,h.2⟩
  ·cases h
 ·exact ⟨_,by simp only [Nw,evalBin];rw [if_neg h.1];rfl,h.2⟩
 ·exact ⟨_,by simp only [Nw,evalBin];rw [if_neg h.1];rfl,h.2⟩
 ·exact ⟨_,by simp only [Nw,evalBin];rw [if_pos h.1],h.2⟩
 ·exact Aw.1 h
theorem xk {st:St} {t:TypeId} {p:AV} {K:AV->Prop} (h:MY T st t p K): ∃v,Ku T st t p=some v/\K v:=by
 unfold MY at h
 split at h
 ·obtain ⟨τ,h1,h2⟩:=Aw.1 h
  split at h2
  ·rename_i hb
   split at h2
   ·rename_i he
    obtain ⟨x,h3,h4⟩:=h2
    exact ⟨_,by simp only [Ku,h1,hb,if_pos he,h3];rfl,h4⟩
   ·cases h2
  ·rename_i hb
   split at h2
   ·rename_i he
    obtain ⟨x,h3,h4⟩:=h2
    exact ⟨_,by simp only [Ku,h1,hb,if_pos he,h3];rfl,h4⟩
   ·cases h2
  ·rename_i hb
   split at h2
   ·cases h2
   ·rename_i he
    exact ⟨_,by simp only [Ku,h1,hb,if_neg he],h2⟩
  ·cases h2
 ·obtain ⟨τ,h1,h2⟩:=Aw.1 h
  split at h2
  ·rename_i he
   obtain ⟨y,h3,h4⟩:=h2
   subst h3
   exact ⟨_,by simp only [Ku,h1,if_pos he],h4⟩
  ·cases h2
 ·exact Aw.1 h
theorem jY {s:TypeId} {x:AV} {f:Nat} {K:AV->Prop} (h:gw T s x f K): ∃v,Jl T s x f=some v/\K v:=by
 unfold gw at h
 split at h
 ·obtain ⟨y,h1,h2⟩:=h
  subst h1
  obtain ⟨v,h3,h4⟩:=Aw.1 h2
  refine ⟨v,?_,h4⟩
  rw [<-h3]
  unfold Jl
  cases T.off s f<;>rfl
 ·exact Aw.1 h
theorem uI {st:St} {t:TypeId} {x:AV} {lo hi:Option AV} {K:AV->Prop} (h:BQ T st t x lo hi K): ∃v,Zj T st t x lo hi=some v/\K v:=by
 unfold BQ at h
 obtain ⟨n,h1,h⟩:=Aw.1 h
 obtain ⟨l,h2,h⟩:=Aw.1 h
 obtain ⟨hh,h3,hc,h⟩:=Aw.1 h
 obtain ⟨v,h4,h5⟩:=Aw.1 h
 refine ⟨v,?_,h5⟩
 simp only [Zj,h1,h2,h3,if_pos hc]
 exact h4
theorem ki {st:St} {t:TypeId} {x i:AV} {K:AV->Prop} (h:gH T st t x i K): ∃v,Gl T st t x i=some v/\K v:=by
 unfold gH at h
 split at h
 ·split at h
  ·rename_i he
   obtain ⟨x,h3,h4⟩:=h
   exact ⟨_,by simp only [Gl,if_pos he,h3];rfl,h4⟩
  ·cases h
 ·split at h
  ·rename_i hb
   split at h
   ·rename_i he
    obtain ⟨h3,h4⟩:=h
    exact ⟨_,by simp only [Gl,hb];rw [if_pos ⟨he.1,he.2,Oc.2 h3⟩],h4⟩
   ·cases h
  ·rename_i hb
   split at h
   ·rename_i he
    obtain ⟨h3,h4⟩:=h
    exact ⟨_,by simp only [Gl,hb];rw [if_pos ⟨he.1,he.2,Oc.2 h3⟩],h4⟩
   ·cases h
  ·rename_i hb
   split at h
   ·rename_i he
    obtain ⟨h3,h4⟩:=h
    exact ⟨_,by simp only [Gl,hb];rw [if_pos ⟨he.1,he.2,Oc.2 h3⟩],h4⟩
   ·cases h
  ·cases h
 ·split at h
  ·rename_i hb
   split at h
   ·rename_i he
    obtain ⟨h3,h4⟩:=h
    exact ⟨_,by simp only [Gl,hb];rw [if_pos ⟨he,Oc.2 h3⟩],h4⟩
   ·cases h
  ·cases h
 ·cases h
theorem tD {t:TypeId} {x i:AV} {K:AV->Prop} (h:zS T t x i K): ∃v,eo T t x i=some v/\K v:=by
 unfold zS at h
 split at h
 ·split at h
  ·rename_i he
   obtain ⟨h1,b,h3,h4⟩:=h
   exact ⟨_,by simp only [eo,if_pos he,if_pos h1,h3];rfl,h4⟩
  ·cases h
 ·cases h
theorem Xf {st:St} {f:FuncId} {args:List AV} {K:AV->Prop} (h:re Γ st f args K): ∃v,Ka Γ st f args=some v/\K v:=by
 unfold re at h
 obtain ⟨s,h1,h⟩:=Aw.1 h
 have h1:Γ f=some (.q s):=by
  split at h1
  ·rename_i s' hs;injection h1 with h1;rw [hs,h1]
  ·cases h1
 split at h
 ·rename_i hf
  obtain ⟨p,h2,y,h3,h4⟩:=Aw.1 h
  refine ⟨_,?_,h4⟩
  simp only [Ka,h1]
  rw [if_pos hf,h2]
  simp only [h3]
  rfl
 ·cases h
theorem sP {st:St} {v:AV} {args:List AV} {K:AV->Prop} (h:zo Γ st v args K): ∃u,Rj Γ st v args=some u/\K u:=by
 unfold zo at h
 split at h
 ·split at h
  ·rename_i hc
   split at h
   ·rename_i hf
    obtain ⟨u,h1,h2⟩:=Xf h
    exact ⟨u,by simp only [Rj];rw [if_pos hc,if_pos (by simpa using hf)];exact h1,h2⟩
   ·rename_i hf
    obtain ⟨u,h1,h2⟩:=Xf h
    exact ⟨u,by simp only [Rj];rw [if_pos hc,if_neg (λhx=>by rw [show Nat.blt _ 1000000000=true from by simpa using hx] at hf;cases hf)];exact h1,h2⟩
  ·cases h
 ·exact Xf h
 ·cases h
theorem Kj {w:WS} (hw:w.OK) {x:Operand} {b:Bool} (hk:Qh w.kn x=some b): ∃fr,w.st.ev x= .at (.data fr .bool b):=by
 unfold Qh at hk
 split at hk
 ·injection hk with hk;subst hk;exact ⟨true,rfl⟩
 ·exact hw _ _ hk
 ·cases hk
theorem qk {w:WS} (hw:w.OK) {o:Oper} {b:Bool} (hk:Dr w.kn o=some b) {v:AV} (he:Cp T Γ w.st o=some v): ∃fr,v= .at (.data fr .bool b):=by
 unfold Dr at hk
 split at hk
 ·rename_i heq;unfold Cp at he;rw [heq] at he;injection he with he;obtain ⟨fr,h⟩:=Kj hw hk;exact ⟨fr,he.symm.trans h⟩
 ·rename_i heq;unfold Cp at he;rw [heq] at he;injection he with he;obtain ⟨fr,h⟩:=Kj hw hk;exact ⟨fr,he.symm.trans h⟩
 ·rename_i x heq
  cases hx:Qh w.kn x with
  |none=>rw [hx] at hk;cases hk
  |some c=>
   rw [hx] at hk
   injection hk with hk
   obtain ⟨fr,h⟩:=Kj hw hx
   unfold Cp at he;rw [heq] at he
   simp only [h,td,Kg] at he
   injection he with he
   exact ⟨true,by rw [<-he,<-hk]⟩
 ·rename_i c x y heq
  unfold Cp at he;rw [heq] at he
  split at hk
  ·rename_i hc
   obtain ⟨fr,h⟩:=Kj hw hc
   simp only [h,Zi,if_true] at he
   injection he with he
   obtain ⟨fr,h⟩:=Kj hw hk
   exact ⟨fr,he.symm.trans h⟩
  ·rename_i hc
   obtain ⟨fr,h⟩:=Kj hw hc
   simp only [h,Zi,Bool.false_eq_true,if_false] at he
   injection he with he
   obtain ⟨fr,h⟩:=Kj hw hk
   exact ⟨fr,he.symm.trans h⟩
  ·cases hk
 ·cases hk
theorem oB {w:WS} (hw:w.OK) {o:Oper} {x:Operand} (ho:o.op= .assign x) {b:Bool} (hk:Dr w.kn o=some b) {v:AV} {s:St} (he:evalOp T Γ w.st o=some (v,s)): ∃fr,v= .at (.data fr .bool b):=by
 unfold Dr at hk
 rw [ho] at hk
 obtain ⟨fr,h⟩:=Kj hw hk
 unfold evalOp at he;rw [ho] at he
 simp only [h] at he
 injection he with he;injection he with he;exact ⟨fr,he.symm⟩
theorem dA {w:WS} (hw:w.OK) {o:Oper} {K:AV->WS->Prop} (h:qW T Γ w o K):
  ∃v w',Cp T Γ w.st o=some v/\w'.st=w.st/\w'.OK/\(∀b,Dr w'.kn o=some b-> ∃fr,v= .at (.data fr .bool b))/\K v w':=by
 have fin:(∃v w',Cp T Γ w.st o=some v/\w'.st=w.st/\w'.OK/\K v w')-> ∃v w',Cp T Γ w.st o=some v/\w'.st=w.st/\w'.OK/\(∀b,Dr w'.kn o=some b-> ∃fr,v= .at (.data fr .bool b))/\K v w':=by
  rintro ⟨v,w',h1,h2,h3,h4⟩
  exact ⟨v,w',h1,h2,h3,λb hb=>qk h3 hb (by rw [h2];exact h1),h4⟩
 refine fin ?_
 unfold qW at h
 split at h
 ·rename_i c a b heq
  obtain ⟨fr,t,w',h1,h2,h3,h4⟩:=r7 hw h
  cases t with
  |true=>exact ⟨_,w',by unfold Cp;rw [heq];simp only [h1,Zi,if_true];rw [<-h2],h2,h3,h4⟩
  |false=>exact ⟨_,w',by unfold Cp;rw [heq];simp only [h1,Zi];rw [<-h2];simp,h2,h3,h4⟩
 ·rename_i heq
  obtain ⟨v,h1,h2⟩:=xk h
  exact ⟨v,w,by unfold Cp;rw [heq];exact h1,rfl,hw,h2⟩
 ·rename_i heq
  obtain ⟨v,h1,h2⟩:=zk h
  exact ⟨v,w,by unfold Cp;rw [heq];exact h1,rfl,hw,h2⟩
 ·rename_i heq
  split at h
  ·obtain ⟨v,h1,h2⟩:=uI h
   exact ⟨v,w,by unfold Cp;rw [heq];simpa using h1,rfl,hw,h2⟩
  ·cases h
 ·rename_i heq
  obtain ⟨v,h1,h2⟩:=ki h
  exact ⟨v,w,by unfold Cp;rw [heq];exact h1,rfl,hw,h2⟩
 ·rename_i heq
  obtain ⟨v,h1,h2⟩:=tD h
  exact ⟨v,w,by unfold Cp;rw [heq];exact h1,rfl,hw,h2⟩
 ·rename_i heq
  obtain ⟨v,h1,h2⟩:=Xf h
  exact ⟨v,w,by unfold Cp;rw [heq];exact h1,rfl,hw,h2⟩
 ·rename_i heq
  obtain ⟨v,h1,h2⟩:=sP h
  exact ⟨v,w,by unfold Cp;rw [heq];exact h1,rfl,hw,h2⟩
 ·rename_i heq
  obtain ⟨v,h1,h2⟩:=jY h
  exact ⟨v,w,by unfold Cp;rw [heq];exact h1,rfl,hw,h2⟩
 ·rename_i x heq
  unfold rU at h
  split at h
  ·rename_i fr τ z hx
   obtain ⟨y,h1,h2⟩:=h
   subst h1
   exact ⟨_,w,by unfold Cp;rw [heq];simp only [hx],rfl,hw,h2⟩
  ·obtain ⟨v,h1,h2⟩:=Aw.1 h
   exact ⟨v,w,h1,rfl,hw,h2⟩
 ·obtain ⟨v,h1,h2⟩:=Aw.1 h
  exact ⟨v,w,h1,rfl,hw,h2⟩
theorem uY {st:St} {t:TypeId} {p v:AV} {K:St->Prop} (h:CJ T st t p v K): ∃s,Oz T st t p v=some s/\K s:=by
 unfold CJ at h
 split at h
 ·obtain ⟨τ,h1,h⟩:=Aw.1 h
  obtain ⟨q,h2,h⟩:=Aw.1 h
  split at h
  ·rename_i hb
   obtain ⟨u,h3,h⟩:=Aw.1 h
   split at h
   ·rename_i hc
    obtain ⟨h4,h5⟩:=h
    obtain ⟨q1,q2⟩:=q
    obtain ⟨u1,u2⟩:=u
    exact ⟨_,by simp only [Oz,h1,h2,hb,h3];rw [dif_pos hc,if_pos h4],h5⟩
   ·cases h
  ·cases h
 ·exact Aw.1 h
theorem qM {st:St} {t:TypeId} {p v:AV} {K:St->Prop} (h:uU T st t p v K): ∃s,Km T st t p v=some s/\K s:=by
 unfold uU at h
 unfold Km
 split at h
 rotate_left
 ·rename_i hg;rw [hg];exact uY h
 rename_i hg
 rw [hg]
 simp only
 unfold FF at h
 split at h
 ·obtain ⟨τ,h1,h⟩:=Aw.1 h
  obtain ⟨q,h2,h⟩:=Aw.1 h
  split at h
  ·rename_i hb
   obtain ⟨u,h3,h⟩:=Aw.1 h
   split at h
   ·rename_i hc
    obtain ⟨q1,q2⟩:=q
    obtain ⟨u1,u2⟩:=u
    exact ⟨_,by simp only [Vz,h1,h2,hb,h3];rw [dif_pos hc],h⟩
   ·cases h
  ·cases h
 ·rename_i l j
  obtain ⟨τ,h1,h⟩:=Aw.1 h
  split at h
  ·rename_i e te rows out kp m off len hl _
   split at h
   ·rename_i fr tr e' tid xs hm
    split at h
    ·rename_i hc
     obtain ⟨h2,h3,h4,h5⟩:=h
     have h4:out=none\/out=some j:=by
      cases out with
      |none=>exact .inl rfl
      |some i=>exact .inr (congrArg some h4)
     exact ⟨_,by simp only [Vz,h1,hl,hm];rw [dif_pos ⟨hc.1,hc.2,h2,h3,h4⟩],h5⟩
    ·cases h
   ·cases h
  ·cases h
 ·cases h
theorem Sn {st:St} {d:Nat} {t:TypeId} {x y:Operand} {K:AV->St->Prop} (h:im T st d t x y K): ∃v s,Jk T st d t x y=some (v,s)/\K v s:=by
 unfold im at h
 obtain ⟨te,h1,h⟩:=Aw.1 h
 obtain ⟨e,h2,h⟩:=Aw.1 h
 obtain ⟨q,h3,h⟩:=Aw.1 h
 obtain ⟨u,h4,h⟩:=Aw.1 h
 obtain ⟨q1,q2⟩:=q
 obtain ⟨u1,u2⟩:=u
 split at h
 ·rename_i hx
  split at h
  ·rename_i hd
   obtain ⟨h5,h6⟩:=h
   refine ⟨_,_,?_,h6⟩
   simp only [Jk,h1,h2,h3,h4]
   rw [hx]
   simp only
   rw [if_pos ⟨h5,by simpa [Nat.blt_eq] using hd⟩]
   simp
  ·cases h
 ·rename_i l off len hx
  split at h
  ·rename_i fr tr e' tid xs hb
   split at h
   ·rename_i hc
    obtain ⟨h5,h6,h7,h8⟩:=h
    refine ⟨_,_,?_,h8⟩
    simp only [Jk,h1,h2,h3,h4]
    rw [hx]
    simp only [hb]
    rw [dif_pos ⟨hc.1,hc.2.1⟩,if_pos ⟨h7,by simpa [Nat.blt_eq] using hc.2.2⟩]
    obtain ⟨JZ,QH,UX⟩:=hc
    subst JZ
    subst h5
    simp only [List.drop_zero,h6,List.take_length,List.length_append]
   ·cases h
  ·cases h
 ·cases h
theorem nm {st:St} {d:Nat} {t:TypeId} {x y:Operand} {K:AV->St->Prop} (h:nk T st d t x y K): ∃v s,Lz T st d t x y=some (v,s)/\K v s:=by
 unfold nk at h
 cases x with
 |tmp tx=>
  simp only at h
  unfold Lz
  simp only
  cases hg:st.get tx with
  | «at»c=>
   rw [hg] at h
   cases c with
   |sub l i c=>
    simp only at h⊢
    obtain ⟨tid,h1,h⟩:=Aw.1 h
    split at h
    ·rename_i hl
     split at h
     ·rename_i hc
      obtain ⟨v,s,h2,h3⟩:=Sn h
      refine ⟨v,s,?_,h3⟩
      simp only [hl,h1]
      rw [if_pos hc]
      exact h2
     ·cases h
    ·cases h
   |_=>exact Sn h
  |_=>rw [hg] at h;exact Sn h
 |_=>exact Sn h
theorem xq {st:St} {d:Nat} {t:TypeId} {l c:AV} {K:AV->St->Prop} (h:NF T st d t l c K): ∃v s,Vw T st d t l c=some (v,s)/\K v s:=by
 unfold NF at h
 split at h
 ·obtain ⟨te,h1,h⟩:=Aw.1 h
  obtain ⟨e,h2,h⟩:=Aw.1 h
  split at h
  ·rename_i hz
   obtain ⟨h3,h4,h5⟩:=h
   refine ⟨_,_,?_,h5⟩
   simp only [Bool.and_eq_true] at hz
   simp only [Vw,h1,h2]
   rw [if_pos ⟨Oc.2 (by exact_mod_cast h3),h4,hz.1,by simpa [Nat.blt_eq] using hz.2⟩]
   simp
  ·cases h
 ·cases h
theorem u6 {st:St} {d:Nat} {t:TypeId} {l c:AV} {K:AV->St->Prop} (h:AF T st d t l c K): ∃v s,Rk T st d t l c=some (v,s)/\K v s:=by
 unfold AF at h
 unfold Rk
 cases hg:Zm T t with
 |none=>rw [hg] at h;exact xq h
 |some p=>
  obtain ⟨te,e⟩:=p
  rw [hg] at h
  simp only at h⊢
  split at h
  ·split at h
   ·rename_i hd
    obtain ⟨h3,h4,h5⟩:=h
    refine ⟨_,_,?_,h5⟩
    simp only
    rw [if_pos ⟨Oc.2 (by exact_mod_cast h3),h4,by simpa [Nat.blt_eq] using hd⟩]
    simp
   ·cases h
  ·cases h
theorem gm {st:St} {d:Nat} {t:TypeId} {len:Nat} {parts:Array (Nat×Operand)} {K:AV->St->Prop} (h:aE T st d t len parts K): ∃v s,Ez T st d t len parts=some (v,s)/\K v s:=by
 unfold aE at h
 unfold Ez
 cases hg:Zm T t with
 |none=>
  rw [hg] at h
  obtain ⟨r,h1,h2⟩:=Aw.1 h
  exact ⟨r.1,r.2,h1,h2⟩
 |some p=>
  obtain ⟨te,e⟩:=p
  rw [hg] at h
  simp only at h⊢
  split at h
  ·rename_i x hp
   split at h
   ·rename_i m off ln hx
    split at h
    ·rename_i hm
     split at h
     ·rename_i hc
      obtain ⟨h1,h2,h3⟩:=h
      refine ⟨_,_,?_,h3⟩
      simp only [hp,hx,hm]
      rw [dif_pos ⟨hc.1,hc.2,h1,h2⟩]
     ·cases h
    ·cases h
   ·cases h
  ·cases h
theorem nq {st:St} {d:Nat} {t:TypeId} {x y:Operand} {K:AV->St->Prop} (h:np T st d t x y K): ∃v s,Ma T st d t x y=some (v,s)/\K v s:=by
 unfold np at h
 unfold Ma
 cases hg:Zm T t with
 |none=>rw [hg] at h;exact nm h
 |some p=>
  obtain ⟨te,e⟩:=p
  rw [hg] at h
  simp only at h⊢
  split at h
  ·rename_i l off len m NJ od hx hy
   split at h
   ·rename_i hl hm
    split at h
    ·rename_i hc
     obtain ⟨h1,h2,h3,h4,h5⟩:=h
     obtain ⟨⟨rfl,rfl⟩,hc⟩:=hc
     refine ⟨_,_,?_,h5⟩
     simp only [hx,hy,hl,hm]
     rw [dif_pos (⟨⟨trivial,trivial⟩,hc,h1,h2,h3,h4⟩)]
     simp
    ·cases h
   ·cases h
  ·cases h
theorem vh {st:St} {io:Bool} {k:Nat} {c:CK} {a:AC} {K:c.den->List (Nat×Loc)->Prop} (h:bz st io k c a K): ∃x t,Hs st io k c a=some (x,t)/\K x t:=by
 cases c with
 |Dy τ=>
  cases a with
  |own l off len=>
   obtain ⟨p,h1,h2⟩:=Aw.1 h
   exact ⟨_,_,by simp only [Hs];rw [h1];rfl,h2⟩
  |clo g Cd=>
   simp only [bz] at h
   split at h
   ·rename_i hc
    obtain ⟨p,h1,h2⟩:=Aw.1 h
    exact ⟨_,_,by simp only [Hs];rw [if_pos hc,h1];rfl,h2⟩
   ·cases h
  |Eb l i=>
   simp only [bz] at h
   split at h
   ·rename_i hc
    obtain ⟨p,h1,h2⟩:=Aw.1 h
    exact ⟨_,_,by simp only [Hs];rw [if_pos hc,h1];rfl,h2⟩
   ·cases h
  |sub l i c=>
   obtain ⟨p,h1,h2⟩:=Aw.1 h
   exact ⟨_,_,by simp only [Hs];rw [h1];rfl,h2⟩
  |_=>
   simp only [bz] at h
   split at h
   ·rename_i hc
    obtain ⟨p,h1,h2⟩:=Aw.1 h
    exact ⟨_,_,by simp only [Hs];rw [if_pos hc,h1];rfl,h2⟩
   ·cases h
 |row e te=>
  cases a<;>simp only [bz] at h<;>first|(cases h;done)|skip
  ·exact ⟨_,_,rfl,h⟩
  ·split at h
   ·rename_i hl
    split at h
    ·rename_i hc
     obtain ⟨h1,h2,h3⟩:=h
     exact ⟨_,_,by simp only [Hs,hl];rw [dif_pos ⟨hc.1,hc.2,h1,h2⟩],h3⟩
    ·cases h
   ·cases h
  ·split at h
   ·rename_i hl
    split at h
    ·rename_i hc
     obtain ⟨y,h1,h2⟩:=h
     exact ⟨_,_,by simp only [Hs,hl];rw [dif_pos hc,h1];rfl,h2⟩
    ·cases h
   ·cases h
 |Dx e te=>
  cases a<;>simp only [bz] at h<;>first|(cases h;done)|skip
  ·exact ⟨_,_,rfl,h⟩
  ·split at h
   ·rename_i hl
    split at h
    ·rename_i hc
     obtain ⟨h1,h2,h3⟩:=h
     exact ⟨_,_,by simp only [Hs,hl];rw [dif_pos ⟨hc.1,hc.2,h1,h2⟩],h3⟩
    ·cases h
   ·cases h
  ·split at h
   ·rename_i hl
    split at h
    ·rename_i hc
     obtain ⟨y,h1,h2⟩:=h
     exact ⟨_,_,by simp only [Hs,hl];rw [dif_pos hc,h1];rfl,h2⟩
    ·cases h
   ·cases h
 |part e te=>
  cases a<;>simp only [bz] at h<;>first|(cases h;done)|skip
  split at h
  ·rename_i hl
   split at h
   ·rename_i hc
    exact ⟨_,_,by simp only [Hs,hl];rw [dif_pos hc],h⟩
   ·cases h
  ·cases h
 |Ao e te kp=>
  cases a<;>simp only [bz] at h<;>first|(cases h;done)|skip
  split at h
  ·rename_i hl
   split at h
   ·rename_i hc
    obtain ⟨h1,h2,h3⟩:=h
    exact ⟨_,_,by simp only [Hs,hl];rw [dif_pos ⟨hc.1,hc.2.1,h1,h2,hc.2.2⟩],h3⟩
   ·cases h
  ·cases h
theorem xZ {st:St} {e:Ty} {ys:List e.den} {a:AC} {K:St->Prop} (h:OG st e ys a K): ∃s,BC st e ys a=some s/\K s:=by
 cases a<;>simp only [OG] at h<;>first|(cases h;done)|skip
 split at h
 ·rename_i hl
  split at h
  ·rename_i hc
   obtain ⟨h1,h3⟩:=h
   exact ⟨_,by simp only [BC,hl];rw [dif_pos ⟨hc,h1⟩],h3⟩
  ·cases h
 ·cases h
theorem fQ {st:St} : ∀(cs:List (Bool×CK)) (k:Nat) (as:List AC) (K:Ins.den cs->List (Nat×Loc)->Prop),vn st k cs as K-> ∃x t,bA st k cs as=some (x,t)/\K x t
 | [],_,[],_,h=>⟨_,_,rfl,h⟩
 | [],_,_::_,_,h=>h.elim
 |_::_,_,[],_,h=>h.elim
 |p::r,k,a::as,K,h=>by
  obtain ⟨x,t1,h1,h2⟩:=vh h
  obtain ⟨y,t2,h3,h4⟩:=fQ r (k+1) as _ h2
  exact ⟨_,_,by simp only [bA,h1,h3],h4⟩
theorem lM {st:St} {c:CK} {ys:c.den} {a:AC} {K:St->Prop} (h:lL st c ys a K): ∃s,Xa st c ys a=some s/\K s:=by
 cases c with
 |Dy τ=>cases a<;>simp only [lL] at h<;>first|(cases h;done)|exact ⟨_,rfl,h⟩
 |row e te=>
  cases a<;>simp only [lL] at h<;>first|(cases h;done)|skip
  ·exact ⟨_,rfl,h⟩
  ·split at h
   ·rename_i hl
    split at h
    ·rename_i hc
     obtain ⟨h1,h3⟩:=h
     exact ⟨_,by simp only [Xa,hl];rw [dif_pos ⟨hc,h1⟩],h3⟩
    ·cases h
   ·cases h
  ·split at h
   ·rename_i hl
    split at h
    ·rename_i hc
     obtain ⟨y,h1,h2,h3⟩:=h
     exact ⟨_,by simp only [Xa,hl,dif_pos hc,h1];rw [if_pos h2],h3⟩
    ·cases h
   ·cases h
 |Dx e te=>
  cases a<;>simp only [lL] at h<;>first|(cases h;done)|skip
  ·exact ⟨_,rfl,h⟩
  ·split at h
   ·rename_i hl
    split at h
    ·rename_i hc
     obtain ⟨h1,h3⟩:=h
     exact ⟨_,by simp only [Xa,hl];rw [dif_pos ⟨hc,h1⟩],h3⟩
    ·cases h
   ·cases h
  ·split at h
   ·rename_i hl
    split at h
    ·rename_i hc
     obtain ⟨y,h1,h2,h3⟩:=h
     exact ⟨_,by simp only [Xa,hl,dif_pos hc,h1];rw [if_pos h2],h3⟩
    ·cases h
   ·cases h
 |part e te=>cases a<;>simp only [lL] at h<;>first|(cases h;done)|exact ⟨_,rfl,h⟩
 |Ao e te kp=>cases a<;>simp only [lL] at h<;>first|(cases h;done)|exact ⟨_,rfl,h⟩
theorem Kq: ∀(cs:List (Bool×CK)) (o:IOs.den cs) (as:List AC) (st:St) (K:St->Prop),dz cs o as st K-> ∃s,Eg cs o as st=some s/\K s
 | [],_,_,st,K,h=>⟨st,rfl,h⟩
 |(true, .Dy _)::r,o,[],st,K,h=>h.elim
 |(true, .row _ _)::r,o,[],st,K,h=>h.elim
 |(true, .Dx _ _)::r,o,[],st,K,h=>h.elim
 |(true, .part _ _)::r,o,[],st,K,h=>h.elim
 |(true, .Ao _ _ _)::r,o,[],st,K,h=>h.elim
 |(true, .Ao _ _ _)::r,o,a::as,st,K,h=>by
  obtain ⟨s,h1,h2⟩:=Kq r o as st K h
  exact ⟨s,by simp only [Eg];exact h1,h2⟩
 |(false,_)::r,o,[],st,K,h=>h.elim
 |(true, .Dy _)::r,o,a::as,st,K,h=>by
  obtain ⟨s,h1,h2⟩:=Kq r o as st K h
  exact ⟨s,by simp only [Eg];exact h1,h2⟩
 |(false,_)::r,o,a::as,st,K,h=>by
  obtain ⟨s,h1,h2⟩:=Kq r o as st K h
  exact ⟨s,by simp only [Eg];exact h1,h2⟩
 |(true, .row _ _)::r,o,a::as,st,K,h=>by
  obtain ⟨s1,h1,h2⟩:=lM h
  obtain ⟨s,h3,h4⟩:=Kq r o.2 as s1 K h2
  exact ⟨s,by simp only [Eg,h1];exact h3,h4⟩
 |(true, .part _ _)::r,o,a::as,st,K,h=>by
  obtain ⟨s1,h1,h2⟩:=xZ h
  obtain ⟨s,h3,h4⟩:=Kq r o.2 as s1 K h2
  exact ⟨s,by simp only [Eg,h1];exact h3,h4⟩
 |(true, .Dx _ _)::r,o,a::as,st,K,h=>by
  obtain ⟨s1,h1,h2⟩:=lM h
  obtain ⟨s,h3,h4⟩:=Kq r o.2 as s1 K h2
  exact ⟨s,by simp only [Eg,h1];exact h3,h4⟩
theorem lY {H:List (Nat×OB)} {ls:List Nat} {n:Nat} {K:Prop} : ∀(l:List AV),pw H ls n l K->Yw H ls n l=true/\K
 | [],h=>⟨rfl,h⟩
 |a::r,h=>by
  have go:pw H ls n r K->Yw H ls n r=true/\K:=lY r
  cases a with
  | «at»c=>
   cases c with
   |sub l i c=>
    simp only [pw] at h
    simp only [Yw]
    split at h
    ·rename_i hc
     obtain ⟨⟨h1,h2⟩,h3⟩:=h
     obtain ⟨g1,g2⟩:=go h3
     exact ⟨by simp only [hc,g1,Bool.and_true,Bool.not_true,Bool.false_or,Bool.and_eq_true,Nat.blt_eq];exact ⟨h1,h2⟩,g2⟩
    ·rename_i hc
     obtain ⟨g1,g2⟩:=go h
     exact ⟨by simp only [hc,g1,Bool.not_false,Bool.true_or,Bool.and_true],g2⟩
   |_=>exact go h
  |_=>exact go h
theorem sO {st:St} {d:Option Nat} {s:MSpec} {args:List AV} {K:AV->St->Prop} (h:zm st d s args K): ∃v s',Ri st d s args=some (v,s')/\K v s':=by
 unfold zm at h
 obtain ⟨⟨pl,cells,rest⟩,h0,h⟩:=Aw.1 h
 obtain ⟨as,h1,h⟩:=Aw.1 h
 obtain ⟨x,tks,h2,h⟩:=fQ s.ins 0 (cells++as) _ h
 split at h
 ·rename_i hc
  obtain ⟨⟨r,o⟩,h3,h⟩:=h
  obtain ⟨st1,h4,h⟩:=Kq s.ins o (cells++as) st _ h
  obtain ⟨v,h5,h6⟩:=Aw.1 h
  obtain ⟨h7,h6⟩:=lY _ h6
  refine ⟨v,_,?_,h6⟩
  unfold Ri
  simp only [h0,h1,h2]
  rw [if_pos hc]
  simp only [h3,h4,h5]
  rw [if_pos h7]
 ·cases h
theorem HL {w:WS} (hw:w.OK) {o:Oper} {K:AV->WS->Prop} (h:WK T Γ w o K):
  ∃v w',evalOp T Γ w.st o=some (v,w'.st)/\w'.OK/\(∀b,Dr w'.kn o=some b-> ∃fr,v= .at (.data fr .bool b))/\K v w':=by
 have fin: ∀v s,(∀b,Dr w.kn o=some b-> ∃fr,v= .at (.data fr .bool b))->evalOp T Γ w.st o=some (v,s)->K v (w.to s)-> ∃v w',evalOp T Γ w.st o=some (v,w'.st)/\w'.OK/\(∀b,Dr w'.kn o=some b-> ∃fr,v= .at (.data fr .bool b))/\K v w':=
  fun v s hk h1 h2=>⟨v,w.to s,h1,hw.to (iJ h1),hk,h2⟩
 have tg:(∀b v s,Dr w.kn o=some b->evalOp T Γ w.st o=some (v,s)-> ∃fr,v= .at (.data fr .bool b))->Ed (evalOp T Γ w.st o) (λr=>K r.1 (w.to r.2))-> ∃v w',evalOp T Γ w.st o=some (v,w'.st)/\w'.OK/\(∀b,Dr w'.kn o=some b-> ∃fr,v= .at (.data fr .bool b))/\K v w':=by
  intro hk h
  obtain ⟨r,h1,h2⟩:=Aw.1 h
  exact fin r.1 r.2 (λb hb=>hk b _ _ hb h1) h1 h2
 unfold WK at h
 split at h
 ·rename_i heq
  obtain ⟨s,h1,h2⟩:=qM h
  refine fin _ _ (λb hb=>by unfold Dr at hb;rw [heq] at hb;cases hb) ?_ h2
  unfold evalOp;rw [heq];simp only [h1];rfl
 ·rename_i heq
  obtain ⟨d,h1,h⟩:=Aw.1 h
  obtain ⟨v,s,h2,h3⟩:=u6 h
  refine fin _ _ (λb hb=>by unfold Dr at hb;rw [heq] at hb;cases hb) ?_ h3
  unfold evalOp;rw [heq];simp only [h1,h2]
 ·rename_i heq
  split at h
  ·rename_i hd ha ht
   split at h
   ·rename_i Ps
    obtain ⟨v,s,h2,h3⟩:=nq h
    refine fin _ _ (λb hb=>by unfold Dr at hb;rw [heq] at hb;cases hb) ?_ h3
    unfold evalOp;rw [heq];simp only [hd,ha,ht,if_pos Ps,h2]
   ·cases h
  ·cases h
 ·rename_i heq;exact tg (λb v s hb he=>oB hw heq hb he) h
 ·rename_i heq;exact tg (λb v s hb he=>by unfold Dr at hb;rw [heq] at hb;cases hb) h
 ·rename_i heq;exact tg (λb v s hb he=>by unfold Dr at hb;rw [heq] at hb;cases hb) h
 ·rename_i heq
  obtain ⟨d,h1,h⟩:=Aw.1 h
  obtain ⟨v,s,h2,h3⟩:=gm h
  refine fin _ _ (λb hb=>by unfold Dr at hb;rw [heq] at hb;cases hb) ?_ h3
  unfold evalOp;rw [heq];simp only [h1,h2]
 ·rename_i heq;exact tg (λb v s hb he=>by unfold Dr at hb;rw [heq] at hb;cases hb) h
 ·rename_i heq;exact tg (λb v s hb he=>by unfold Dr at hb;rw [heq] at hb;cases hb) h
 ·rename_i heq;exact tg (λb v s hb he=>by unfold Dr at hb;rw [heq] at hb;cases hb) h
 ·rename_i heq;exact tg (λb v s hb he=>by unfold Dr at hb;rw [heq] at hb;cases hb) h
 ·rename_i heq;exact tg (λb v s hb he=>by unfold Dr at hb;rw [heq] at hb;cases hb) h
 ·rename_i heq;exact tg (λb v s hb he=>by unfold Dr at hb;rw [heq] at hb;cases hb) h
 ·
  rename_i f _ _ heq
  split at h
  ·rename_i Nb
   obtain ⟨v,s',h1,h2⟩:=sO h
   refine fin v s' (λb hb=>by unfold Dr at hb;rw [heq] at hb;cases hb) ?_ h2
   unfold evalOp;rw [heq];simp only [Nb];exact h1
  ·rename_i s Nb
   split at h
   ·rename_i EI
    obtain ⟨st1,hs,h⟩:=Aw.1 h
    obtain ⟨v,w',h1,h2,h3,RN,h4⟩:=dA (hw.to (Tz _ hs)) h
    refine ⟨v,w',?_,h3,RN,h4⟩
    have h1:Cp T Γ st1 o=some v:=h1
    have h2:w'.st=st1:=h2
    unfold evalOp
    rw [heq]
    simp only [Nb,EI,hs,h1,h2]
    rfl
   ·rename_i EI
    obtain ⟨v,w',h1,h2,h3,RN,h4⟩:=dA hw h
    refine ⟨v,w',?_,h3,RN,h4⟩
    unfold evalOp
    rw [heq]
    simp only [Nb,EI,h1,h2]
    rfl
  ·rename_i Ant Ad2
   obtain ⟨v,w',h1,h2,h3,RN,h4⟩:=dA hw h
   refine ⟨v,w',?_,h3,RN,h4⟩
   unfold evalOp
   rw [heq]
   simp only
   rw [h1,h2];rfl
 ·rename_i n1 n2 n3 n4 n5 n6 n7 n8 n9 n10 n11 n12 n13 n14
  obtain ⟨v,w',h1,h2,h3,RN,h4⟩:=dA hw h
  refine ⟨v,w',?_,h3,RN,h4⟩
  unfold evalOp
  split
  all_goals first
   |(rw [h1,h2];rfl)
   |(rename_i hq;exact absurd hq (by first|exact n1 _|exact n2 _|exact n3 _|exact n4 _|exact n5 _|exact n6 _|exact n7 _|exact n8 _|exact n9 _|exact n10 _|exact n11 _|exact n12 _|exact n13 _|exact n14 _))
   |(rename_i hq;exact absurd hq (by first|exact n1 _ _|exact n2 _ _|exact n3 _ _|exact n4 _ _|exact n5 _ _|exact n6 _ _|exact n7 _ _|exact n8 _ _|exact n9 _ _|exact n10 _ _|exact n11 _ _|exact n12 _ _|exact n13 _ _|exact n14 _ _))
   |(rename_i hq;exact absurd hq (by first|exact n1 _ _ _|exact n2 _ _ _|exact n3 _ _ _|exact n4 _ _ _|exact n5 _ _ _|exact n6 _ _ _|exact n7 _ _ _|exact n8 _ _ _|exact n9 _ _ _|exact n10 _ _ _|exact n11 _ _ _|exact n12 _ _ _|exact n13 _ _ _|exact n14 _ _ _))
   |(rename_i hq;exact absurd hq (by first|exact n1 _ _ _ _|exact n2 _ _ _ _|exact n3 _ _ _ _|exact n4 _ _ _ _|exact n5 _ _ _ _|exact n6 _ _ _ _|exact n7 _ _ _ _|exact n8 _ _ _ _|exact n9 _ _ _ _|exact n10 _ _ _ _|exact n11 _ _ _ _|exact n12 _ _ _ _|exact n13 _ _ _ _|exact n14 _ _ _ _))
theorem tm (st:St) (d:Nat) (v:AV):(st.put (some d) v).get d=v\/(st.put (some d) v).get d= .undef:=by
 simp only [St.put,St.get]
 rw [Vl]
 by_cases h:d<st.tmps.length
 ·exact .inl (by rw [if_pos ⟨rfl,h⟩])
 ·refine .inr ?_
  rw [if_neg (λhc=>h hc.2),List.getD_eq_getElem?_getD,List.getElem?_eq_none (by omega)]
  rfl
theorem WS.OK.qx {w:WS} (hw:w.OK) (o:Oper) (v:AV) (h: ∀b,Dr w.kn o=some b-> ∃fr,v= .at (.data fr .bool b)):(w.qx o v).OK/\(w.qx o v).st=w.st.put o.dst v:=by
 unfold WS.qx
 split
 ·rename_i d b hd hk
  split
  ·rename_i fr c hg
   refine ⟨?_,by rw [hd]⟩
   obtain ⟨Py,hv⟩:=h b hk
   intro t b' hb
   simp only [qe] at hb
   split at hb
   ·rename_i ht
    injection hb with hb
    subst ht;subst hb
    refine ⟨Py,?_⟩
    show (w.st.put (some d) v).get d=_
    cases tm w.st d v with
    |inl h1=>rw [h1,hv]
    |inr h1=>rw [h1] at hg;cases hg
   ·exact hw.put (some d) v t b' hb
  ·exact ⟨hw.put _ _,by rw [WS.oM,hd]⟩
 ·exact ⟨hw.put _ _,WS.oM _ _ _⟩
theorem lX {ops:Array Oper} {w:WS} (hw:w.OK) {o:Oper} {run:(AV->WS->Prop)->WS->Prop} {R:St->Option (AV×St)} {K:WS->Prop}
  (hr: ∀(k:AV->WS->Prop) (w:WS),w.OK->run k w-> ∃v w',R w.st=some (v,w'.st)/\w'.OK/\(∀b,Dr w'.kn o=some b-> ∃fr,v= .at (.data fr .bool b))/\k v w') (h:fN ops w o run K):
  ∃w',(match o.guard with
   |none=>(R w.st).map λr=>r.2.put o.dst r.1
   |some (j,want)=>match Rd w.st ((ops[j]?).bind (·.dst)) with
    |some (some b)=>if b==want then (R w.st).map λr=>r.2.put o.dst r.1 else some (w.st.put o.dst (.at .skip))
    |some none=>some (w.st.put o.dst (.at .skip))
    |none=>none)=some w'.st/\w'.OK/\K w':=by
 have go: ∀w:WS,w.OK->run (λv w'=>K (w'.qx o v)) w-> ∃w',((R w.st).map λr=>r.2.put o.dst r.1)=some w'.st/\w'.OK/\K w':=by
  intro w hw h
  obtain ⟨v,w',h1,h2,h3,h4⟩:=hr _ _ hw h
  obtain ⟨h5,h6⟩:=h2.qx o v h3
  exact ⟨w'.qx o v,by rw [h1,h6];rfl,h5,h4⟩
 unfold fN at h
 split at h
 ·rename_i hg
  rw [hg]
  exact go w hw h
 ·rename_i j want hg
  rw [hg]
  obtain ⟨t,h1,h⟩:=Aw.1 h
  simp only [h1]
  split at h
  ·rename_i hs
   have hsk:w.st.get t= .at .skip:=by
    unfold AV.MU at hs
    split at hs
    ·assumption
    ·cases hs
   exact ⟨_,by simp only [Rd,hsk];rw [WS.oM],hw.put _ _,h⟩
  ·obtain ⟨fr,b,w',h2,h3,h4,h5⟩:=r8 hw h
   have hb:Rd w.st (some t)=some (some b):=by simp only [Rd,h2]
   rw [hb]
   simp only
   cases b with
   |true=>
    cases want with
    |true=>rw [if_pos (by decide),<-h3];exact go w' h4 h5
    |false=>exact ⟨_,by rw [if_neg (by decide),<-h3,WS.oM],h4.put _ _,h5⟩
   |false=>
    cases want with
    |false=>rw [if_pos (by decide),<-h3];exact go w' h4 h5
    |true=>exact ⟨_,by rw [if_neg (by decide),<-h3,WS.oM],h4.put _ _,h5⟩
theorem dX {ops:Array Oper} {w:WS} (hw:w.OK) {o:Oper} {K:WS->Prop} (h:fN ops w o (λk w'=>WK T Γ w' o k) K): ∃w',Cq T Γ ops w.st o=some w'.st/\w'.OK/\K w':=by
 obtain ⟨w',h1,h2⟩:=lX hw (R:= λst=>evalOp T Γ st o) (λk w hw h=>by
  obtain ⟨v,w',h1,h2,UQ,h3⟩:=HL hw h
  exact ⟨v,w',h1,h2,UQ,h3⟩) h
 exact ⟨w',h1,h2⟩
theorem KQ {w:WS} (hw:w.OK) {o:Oper} {K:AV->WS->Prop} (h:bW T Γ w o K):
  ∃v w',Tc T Γ w.st o=some v/\w'.st=w.st/\w'.OK/\(∀b,Dr w'.kn o=some b-> ∃fr,v= .at (.data fr .bool b))/\K v w':=by
 unfold bW at h
 split at h
 ·rename_i t len parts lz
  obtain ⟨v,h1,h2⟩:=Aw.1 h
  exact ⟨v,w,by unfold Tc;rw [lz];exact h1,rfl,hw,λb hb=>by simp [Dr,lz] at hb,h2⟩
 ·rename_i t parts lz
  obtain ⟨v,h1,h2⟩:=Aw.1 h
  exact ⟨v,w,by unfold Tc;rw [lz];exact h1,rfl,hw,λb hb=>by simp [Dr,lz] at hb,h2⟩
 ·rename_i n1 n2
  obtain ⟨v,w',h1,h2⟩:=dA hw h
  refine ⟨v,w',?_,h2⟩
  rw [<-h1]
  unfold Tc
  split
  ·rename_i h9;exact absurd h9 (n1 _ _ _)
  ·rename_i h9;exact absurd h9 (n2 _ _)
  ·rfl
theorem TN {ops:Array Oper} {w:WS} (hw:w.OK) {o:Oper} {K:WS->Prop} (h:fN ops w o (λk w'=>bW T Γ w' o k) K): ∃v w',cm T Γ ops w.st o=some v/\w'.st=w.st.put o.dst v/\w'.OK/\K w':=by
 obtain ⟨w',h1,h2,h3⟩:=lX hw (R:= λst=>(Tc T Γ st o).map λv=>(v,st)) (λk w hw h=>by
  obtain ⟨v,w',h1,h2,h3,RN,h4⟩:=KQ hw h
  exact ⟨v,w',by simp only [h1,h2];rfl,h3,RN,h4⟩) h
 have key: ∀u:Option AV,((u.map λv=>(v,w.st)).map λr=>r.2.put o.dst r.1)=some w'.st-> ∃v,u=some v/\w'.st=w.st.put o.dst v:=by
  intro u hu
  cases u with
  |none=>cases hu
  |some v=>injection hu with hu;exact ⟨v,rfl,hu.symm⟩
 unfold cm
 split at h1
 ·rename_i hg
  obtain ⟨v,h4,h5⟩:=key _ h1
  exact ⟨v,w',by rw [hg];exact h4,h5,h2,h3⟩
 ·rename_i j want hg
  rw [hg]
  split at h1
  ·rename_i b hb
   simp only [hb]
   split at h1
   ·rename_i zG
    obtain ⟨v,h4,h5⟩:=key _ h1
    exact ⟨v,w',by rw [if_pos zG];exact h4,h5,h2,h3⟩
   ·rename_i zG
    injection h1 with h1
    exact ⟨_,w',by rw [if_neg zG],h1.symm,h2,h3⟩
  ·rename_i hb
   simp only [hb]
   injection h1 with h1
   exact ⟨_,w',rfl,h1.symm,h2,h3⟩
  ·cases h1
theorem oC {ops:Array Oper} : ∀(l:List Oper) {w:WS} (_:w.OK) {K:WS->Prop},ZJ T Γ ops l w K-> ∃w',Ur T Γ ops l w.st=some w'.st/\w'.OK/\K w'
 | [],w,hw,K,h=>⟨w,rfl,hw,h⟩
 |o::r,w,hw,K,h=>by
  obtain ⟨w1,h1,h2,h3⟩:=dX hw h
  obtain ⟨w2,h4,h5⟩:=oC r h2 h3
  exact ⟨w2,by simp only [Ur];rw [h1];exact h4,h5⟩
theorem aP {ops:Array Oper} : ∀(l:List Nat) {w:WS} (_:w.OK) {K:WS->Prop},ML T Γ ops l w K-> ∃w',Jw T Γ ops l w.st=some w'.st/\w'.OK/\K w'
 | [],w,hw,K,h=>⟨w,rfl,hw,h⟩
 |i::r,w,hw,K,h=>by
  obtain ⟨o,h0,h⟩:=Aw.1 h
  obtain ⟨w1,h1,h2,h3⟩:=dX hw h
  obtain ⟨w2,h4,h5⟩:=aP r h2 h3
  exact ⟨w2,by simp only [Jw];rw [h0];simp only [h1];exact h4,h5⟩
theorem Th {ops:Array Oper} : ∀(l:List Nat) {w:WS} (_:w.OK) {K:WS->Prop},rv T Γ ops l w K-> ∃w',Ef T Γ ops l w.st=some w'.st/\w'.OK/\K w'
 | [],w,hw,K,h=>⟨w,rfl,hw,h⟩
 |i::r,w,hw,K,h=>by
  obtain ⟨o,h0,h⟩:=Aw.1 h
  obtain ⟨v,w1,h1,h1',h2,h3⟩:=TN hw h
  obtain ⟨w2,h4,h5⟩:=Th r h2 h3
  exact ⟨w2,by simp only [Ef];rw [h0];simp only [h1];rw [<-h1'];exact h4,h5⟩
theorem ni {P:Nat->Prop} : ∀(l:List Nat),QZ l P-> ∀i∈l,P i
 | [],_,i,hi=>by cases hi
 | [k],h,i,hi=>by rw [List.mem_singleton.1 hi];exact h
 |k::j::r,h,i,hi=>by
  rcases List.mem_cons.1 hi with rfl|hi
  ·exact h.1
  ·exact ni (j::r) h.2 i hi
theorem gk {ops:Array Oper} {K:WS->Prop} : ∀(f:Nat) (Ad:Array Bool) {w:WS} (_:w.OK),FR T Γ ops f Ad w K->anyS T Γ ops (λs=> ∃w':WS,w'.st=s/\w'.OK/\K w') f Ad w.st
 |0,Ad,w,hw,h=>by
  unfold FR at h
  split at h
  ·rename_i hr;exact ⟨hr,w,rfl,hw,h⟩
  ·cases h
 |f+1,Ad,w,hw,h=>by
  unfold FR at h
  split at h
  ·cases h
  ·rename_i i r hr
   refine ⟨by rw [hr];simp,λk hk=>?_⟩
   rw [hr] at hk
   obtain ⟨o,h0,h1⟩:=Aw.1 (ni _ h k hk)
   obtain ⟨w1,h2,h3,h4⟩:=dX hw h1
   exact ⟨o,w1.st,h0,h2,gk f _ h3 h4⟩
theorem aJ {ops:Array Oper} {K:WS->Prop} : ∀(f:Nat) (Ad:Array Bool) {w:WS} (_:w.OK),jZ T Γ ops f Ad w K-> ∃w':WS,w'.OK/\K w'
 |0,Ad,w,hw,h=>by
  simp only [jZ] at h
  split at h
  ·exact ⟨w,hw,h⟩
  ·exact h.elim
 |f+1,Ad,w,hw,h=>by
  simp only [jZ] at h
  split at h
  ·exact h.elim
  ·obtain ⟨o,ho,h1⟩:=Aw.1 h
   obtain ⟨w',h2,h3,h4⟩:=dX hw h1
   exact aJ f _ h3 h4
theorem ld {P:List (Nat×Nat×AV×OB)} {ops:Array Oper} {K:WS->Prop} : ∀(f:Nat) (Ad:Array Bool) {w:WS} (_:w.OK),w5 T Γ P ops f Ad w K->WU T Γ ops P (λs=> ∃w':WS,w'.st=s/\w'.OK/\K w') f Ad w.st
 |0,Ad,w,hw,h=>by
  unfold w5 at h
  split at h
  ·rename_i hr;exact ⟨hr,w,rfl,hw,h⟩
  ·cases h
 |f+1,Ad,w,hw,h=>by
  unfold w5 at h
  split at h
  ·cases h
  ·rename_i i r hr
   refine ⟨by rw [hr];simp,λk hk=>?_⟩
   rw [hr] at hk
   obtain ⟨o,h0,h1⟩:=Aw.1 (ni _ h k hk)
   split at h1
   ·rename_i bL
    obtain ⟨w1,h2,h3,h4⟩:=dX hw h1
    exact ⟨o,w1.st,h0,bL,h2,ld f _ h3 h4⟩
   ·cases h1
theorem xD {α:Type} (f:α->Nat) {l:List α} (h:Ub (l.map f)=true):l.Pairwise λa c=>f a≠f c:=List.pairwise_map.1 (Rt h)
theorem pR {ops:Array Oper} {L0:Array Bool} {n:Nat} {w:WS} (hw:w.OK) {K:WS->Prop} (hc:Uk ops L0) (h:sN T Γ (Tb T ops L0) n L0 ops w K):anyS T Γ ops (λs=> ∃w':WS,w'.st=s/\w'.OK/\K w') n L0 w.st:=by
 unfold sN at h
 split at h
 ·rename_i hb
  simp only [Bool.and_eq_true] at hb
  obtain ⟨⟨b1,b2⟩,b3,b4,b5⟩:=hb
  have hm: ∀a∈Tb T ops L0,a.1∈Region.ready .any ops L0/\ ∃o,ops[a.1]?=some o/\aB T o=some a.2:= λa ha=>sJ ha
  have p1:=xD (λa:Nat×Nat×AV×OB=>a.1) b1
  have p2:=xD (λa:Nat×Nat×AV×OB=>a.2.1) b2
  have hlen:(Tb T ops L0).length<=n:=Nat.le_of_ble_eq_true b4
  obtain ⟨w1,h1,h2,h3⟩:=aP _ hw h
  have h3:=aN.1 h3
  obtain ⟨w0,g1,g2⟩:=aJ _ _ h2 h3
  obtain ⟨g3,g4⟩:=aN.1 g2
  have hp:=xV (Γ:=Γ) _ w.st w1.st (λa ha=>(hm a ha).2) (λa ha=>oz (List.all_eq_true.1 b3 a ha)) p2 h1
  refine ei (λs hs=>?_) _ _ _ (FQ (λa ha=>(hm a ha).2) n (n-(Tb T ops L0).length) (Tb T ops L0) _ L0 w1.st w.st (by omega) (ld _ _ h2 g4) hp
   (RE (ops:=ops) λi hi=>by obtain ⟨a,ha,rfl⟩:=List.mem_map.1 hi;exact (hm a ha).1) (λa ha=>ha) (p2.and p1) hc λa ha x hx=>dC (hm a ha).1 hx)
  obtain ⟨w',h5,_,h6⟩:=hs
  exact ⟨w0,((h5.symm.trans (ri h6)).symm),g1,g3⟩
 ·cases h
theorem qy {ops:Array Oper} {draw:Bool} {w:WS} (hw:w.OK) {K:WS->Prop} (h:uw T Γ ops draw w K):sF T Γ ops draw w.st (λs=> ∃w':WS,w'.st=s/\w'.OK/\K w'):=by
 unfold uw at h
 split at h
 ·split at h
  ·rename_i ho
   obtain ⟨w1,h1,h2,h3⟩:=Th _ hw h
   obtain ⟨w2,h4,h5⟩:=aP _ h2 h3
   exact .inl ⟨w2.st,by simp only [Mb,if_true];rw [if_pos ho,h1];exact h4,w2,rfl,h5⟩
  ·rename_i ho
   split at h
   ·rename_i ho2
    obtain ⟨w1,h1,h2,h3⟩:=Th _ hw h
    obtain ⟨w2,h4,h5⟩:=aP _ h2 h3
    exact .inl ⟨w2.st,by simp only [Mb,if_true];rw [if_neg (by rw [ho];decide),if_pos ho2,h1];exact h4,w2,rfl,h5⟩
   ·split at h
    ·rename_i hc
     simp only [Bool.and_eq_true] at hc
     obtain ⟨w1,h1,h2,h3⟩:=Th _ hw h
     split at h3
     ·exact .inr ⟨rfl,hc.1,w1.st,h1,gk _ _ h2 h3⟩
     ·obtain ⟨w0,g1,g2⟩:=aJ _ _ h2 h3
      obtain ⟨g3,g4⟩:=aN.1 g2
      exact .inr ⟨rfl,hc.1,w1.st,h1,ei (λs hs=>by
       obtain ⟨w',h5,_,h6⟩:=hs
       exact ⟨w0,((h5.symm.trans (ri h6)).symm),g1,g3⟩) _ _ _ (gk _ _ h2 g4)⟩
    ·split at h
     ·rename_i EI
      obtain ⟨w1,h1,h2,h3⟩:=Th _ hw h
      exact .inr ⟨rfl,EI,w1.st,h1,pR h2 (aH _ _ _ wo) h3⟩
     ·cases h
 ·obtain ⟨w1,h1,h2⟩:=oC _ hw h
  exact .inl ⟨w1.st,by simp only [Mb];rw [if_neg (by simp)];exact h1,w1,rfl,h2⟩
end
end Go.Proofs.Ytjbdmibbbpdnnaa
