/-
  Part 33 of the proof that the statement FnExactMethodLength holds.
-/
import Derived.Test.YtjbdmibbbpdnnaaCMethodLength31
namespace Go.Proofs.Ytjbdmibbbpdnnaa
open Go.RowKit
section
variable {T:Tab} {Γ:Env}
def WS.OK (w:WS):Prop:= ∀t b,pv w.kn t=some b-> ∃fr,w.st.get t= .at (.data fr .bool b)
theorem fR: ∀(l:List (Nat×Bool)) (d t:Nat) (b:Bool),pv (qN l d) t=some b->t≠d/\pv l t=some b
 | [],_,_,_,h=>by cases h
 |(k,c)::r,d,t,b,h=>by
  simp only [qN] at h
  split at h
  ·rename_i hk
   have:=fR r d t b h
   refine ⟨this.1,?_⟩
   simp only [pv]
   rw [if_neg (by rw [hk];exact λh=>this.1 h.symm)]
   exact this.2
  ·rename_i hk
   simp only [pv] at h⊢
   split at h
   ·rename_i VU
    exact ⟨by rw [<-VU];exact hk,by rw [if_pos VU];exact h⟩
   ·rename_i VU
    rw [if_neg VU]
    exact fR r d t b h
theorem WS.OK.put {w:WS} (h:w.OK) (dst:Option Tmp) (v:AV):(w.put dst v).OK:=by
 cases dst with
 |none=>exact h
 |some d=>
  intro t b hb
  obtain ⟨h1,h2⟩:=fR _ _ _ _ hb
  obtain ⟨fr,h3⟩:=h t b h2
  exact ⟨fr,by show (w.st.put (some d) v).get t=_;rw [Uz _ _ h1];exact h3⟩
theorem WS.nP (w:WS) (dst:Option Tmp) (v:AV):(w.put dst v).st=w.st.put dst v:=by cases dst<;>rfl
theorem WS.OK.to {w:WS} (h:w.OK) {s:St} (hs:Bc w.st s):(w.to s).OK:=by
 intro t b hb
 obtain ⟨fr,h3⟩:=h t b hb
 exact ⟨fr,hs t fr _ _ h3⟩
theorem qn {w:WS} (hw:w.OK) {t:Nat} {K:Bool->WS->Prop} (h:brT w t K):
  ∃fr b w',w.st.get t= .at (.data fr .bool b)/\w'.st=w.st/\w'.OK/\K b w':=by
 unfold brT at h
 split at h
 ·rename_i b hb
  obtain ⟨fr,h1⟩:=hw t b hb
  exact ⟨fr,b,w,h1,rfl,hw,h⟩
 ·split at h
  ·rename_i fr b hb
   obtain ⟨h1,h2⟩:=h
   have ok: ∀c:Bool,b=c->WS.OK {kn:=(t,c)::w.kn,st:=w.st} :=by
    intro c hc t' b' h'
    simp only [pv] at h'
    split at h'
    ·rename_i ht
     injection h' with h'
     exact ⟨fr,by rw [<-ht,<-h',<-hc];exact hb⟩
    ·exact hw t' b' h'
   cases b with
   |true=>exact ⟨fr,true, {kn:=(t,true)::w.kn,st:=w.st},hb,rfl,ok true rfl,h1 rfl⟩
   |false=>exact ⟨fr,false, {kn:=(t,false)::w.kn,st:=w.st},hb,rfl,ok false rfl,h2 rfl⟩
  ·cases h
theorem ql {w:WS} (hw:w.OK) {c:Operand} {K:Bool->WS->Prop} (h:brO w c K):
  ∃fr b w',w.st.ev c= .at (.data fr .bool b)/\w'.st=w.st/\w'.OK/\K b w':=by
 unfold brO at h
 split at h
 ·exact qn hw h
 ·exact ⟨true,_,w,rfl,rfl,hw,h⟩
 ·cases h
theorem yf {op:BinOp} {t:TypeId} {x y:AV} {K:AV->Prop} (h:UP T op t x y K): ∃v,Mz T op t x y=some v/\K v:=by
 unfold UP at h
 split at h
 ·split at h
  ·rename_i hk
   exact ⟨_,by simp only [Mz,evalBin,nf];rw [if_pos hk,if_neg h.1];rfl,h.2⟩
  ·cases h
 ·split at h
  ·rename_i hk
   exact ⟨_,by simp only [Mz,evalBin,nf];rw [if_pos hk,if_neg h.1];rfl,h.2⟩
  ·cases h
 ·exact ⟨_,by simp only [Mz,evalBin];rw [if_neg h.1];rfl,h.2⟩
 ·exact ⟨_,by simp only [Mz,evalBin];rw [if_neg h.1];rfl,h.2⟩
 ·exact ⟨_,by simp only [Mz,evalBin];rw [if_pos h.1],h.2⟩
 ·exact At.1 h
theorem wq {st:St} {t:TypeId} {p:AV} {K:AV->Prop} (h:KV T st t p K): ∃v,Kk T st t p=some v/\K v:=by
 unfold KV at h
 split at h
 ·obtain ⟨τ,h1,h2⟩:=At.1 h
  split at h2
  ·rename_i hb
   split at h2
   ·rename_i he
    obtain ⟨x,h3,h4⟩:=h2
    exact ⟨_,by simp only [Kk,h1,hb,if_pos he,h3];rfl,h4⟩
   ·cases h2
  ·rename_i hb
   split at h2
   ·rename_i he
    obtain ⟨x,h3,h4⟩:=h2
    exact ⟨_,by simp only [Kk,h1,hb,if_pos he,h3];rfl,h4⟩
   ·cases h2
  ·rename_i hb
   split at h2
   ·cases h2
   ·rename_i he
    exact ⟨_,by simp only [Kk,h1,hb,if_neg he],h2⟩
  ·cases h2
 ·obtain ⟨τ,h1,h2⟩:=At.1 h
  split at h2
  ·rename_i he
   obtain ⟨y,h3,h4⟩:=h2
   subst h3
   exact ⟨_,by simp only [Kk,h1,if_pos he],h4⟩
  ·cases h2
 ·exact At.1 h
theorem jl {s:TypeId} {x:AV} {f:Nat} {K:AV->Prop} (h:fF T s x f K): ∃v,Iz T s x f=some v/\K v:=by
 unfold fF at h
 split at h
 ·obtain ⟨y,h1,h2⟩:=h
  subst h1
  obtain ⟨v,h3,h4⟩:=At.1 h2
  refine ⟨v,?_,h4⟩
  rw [<-h3]
  unfold Iz
  cases T.off s f<;>rfl
 ·exact At.1 h
theorem tV {st:St} {t:TypeId} {x:AV} {lo hi:Option AV} {K:AV->Prop} (h:zJ T st t x lo hi K): ∃v,Yg T st t x lo hi=some v/\K v:=by
 unfold zJ at h
 obtain ⟨n,h1,h⟩:=At.1 h
 obtain ⟨l,h2,h⟩:=At.1 h
 obtain ⟨hh,h3,hc,h⟩:=At.1 h
 obtain ⟨v,h4,h5⟩:=At.1 h
 refine ⟨v,?_,h5⟩
 simp only [Yg,h1,h2,h3,if_pos hc]
 exact h4
theorem jx {st:St} {t:TypeId} {x i:AV} {K:AV->Prop} (h:fP T st t x i K): ∃v,Gh T st t x i=some v/\K v:=by
 unfold fP at h
 split at h
 ·split at h
  ·rename_i he
   obtain ⟨x,h3,h4⟩:=h
   exact ⟨_,by simp only [Gh,if_pos he,h3];rfl,h4⟩
  ·cases h
 ·split at h
  ·rename_i hb
   split at h
   ·rename_i he
    obtain ⟨h3,h4⟩:=h
    exact ⟨_,by simp only [Gh,hb];rw [if_pos ⟨he.1,he.2,Ng.2 h3⟩],h4⟩
   ·cases h
  ·rename_i hb
   split at h
   ·rename_i he
    obtain ⟨h3,h4⟩:=h
    exact ⟨_,by simp only [Gh,hb];rw [if_pos ⟨he.1,he.2,Ng.2 h3⟩],h4⟩
   ·cases h
  ·rename_i hb
   split at h
   ·rename_i he
    obtain ⟨h3,h4⟩:=h
    exact ⟨_,by simp only [Gh,hb];rw [if_pos ⟨he.1,he.2,Ng.2 h3⟩],h4⟩
   ·cases h
  ·cases h
 ·split at h
  ·rename_i hb
   split at h
   ·rename_i he
    obtain ⟨h3,h4⟩:=h
    exact ⟨_,by simp only [Gh,hb];rw [if_pos ⟨he,Ng.2 h3⟩],h4⟩
   ·cases h
  ·cases h
 ·cases h
theorem sL {t:TypeId} {x i:AV} {K:AV->Prop} (h:yQ T t x i K): ∃v,dH T t x i=some v/\K v:=by
 unfold yQ at h
 split at h
 ·split at h
  ·rename_i he
   obtain ⟨h1,b,h3,h4⟩:=h
   exact ⟨_,by simp only [dH,if_pos he,if_pos h1,h3];rfl,h4⟩
  ·cases h
 ·cases h
theorem Wa {st:St} {f:FuncId} {args:List AV} {K:AV->Prop} (h:qp Γ st f args K): ∃v,Jp Γ st f args=some v/\K v:=by
 unfold qp at h
 obtain ⟨s,h1,h⟩:=At.1 h
 have h1:Γ f=some (.q s):=by
  split at h1
  ·rename_i s' hs;injection h1 with h1;rw [hs,h1]
  ·cases h1
 split at h
 ·rename_i hf
  obtain ⟨p,h2,y,h3,h4⟩:=At.1 h
  refine ⟨_,?_,h4⟩
  simp only [Jp,h1]
  rw [if_pos hf,h2]
  simp only [h3]
  rfl
 ·cases h
theorem sj {st:St} {v:AV} {args:List AV} {K:AV->Prop} (h:yi Γ st v args K): ∃u,Qi Γ st v args=some u/\K u:=by
 unfold yi at h
 split at h
 ·split at h
  ·rename_i hc
   split at h
   ·rename_i hf
    obtain ⟨u,h1,h2⟩:=Wa h
    exact ⟨u,by simp only [Qi];rw [if_pos hc,if_pos (by simpa using hf)];exact h1,h2⟩
   ·rename_i hf
    obtain ⟨u,h1,h2⟩:=Wa h
    exact ⟨u,by simp only [Qi];rw [if_pos hc,if_neg (λhx=>by rw [show Nat.blt _ 1000000000=true from by simpa using hx] at hf;cases hf)];exact h1,h2⟩
  ·cases h
 ·exact Wa h
 ·cases h
theorem Ka {w:WS} (hw:w.OK) {x:Operand} {b:Bool} (hk:Pg w.kn x=some b): ∃fr,w.st.ev x= .at (.data fr .bool b):=by
 unfold Pg at hk
 split at hk
 ·injection hk with hk;subst hk;exact ⟨true,rfl⟩
 ·exact hw _ _ hk
 ·cases hk
theorem pz {w:WS} (hw:w.OK) {o:Oper} {b:Bool} (hk:Ds w.kn o=some b) {v:AV} (he:Ck T Γ w.st o=some v): ∃fr,v= .at (.data fr .bool b):=by
 unfold Ds at hk
 split at hk
 ·rename_i heq;unfold Ck at he;rw [heq] at he;injection he with he;obtain ⟨fr,h⟩:=Ka hw hk;exact ⟨fr,he.symm.trans h⟩
 ·rename_i heq;unfold Ck at he;rw [heq] at he;injection he with he;obtain ⟨fr,h⟩:=Ka hw hk;exact ⟨fr,he.symm.trans h⟩
 ·rename_i x heq
  cases hx:Pg w.kn x with
  |none=>rw [hx] at hk;cases hk
  |some c=>
   rw [hx] at hk
   injection hk with hk
   obtain ⟨fr,h⟩:=Ka hw hx
   unfold Ck at he;rw [heq] at he
   simp only [h,ss,Jx] at he
   injection he with he
   exact ⟨true,by rw [<-he,<-hk]⟩
 ·rename_i c x y heq
  unfold Ck at he;rw [heq] at he
  split at hk
  ·rename_i hc
   obtain ⟨fr,h⟩:=Ka hw hc
   simp only [h,Yf,if_true] at he
   injection he with he
   obtain ⟨fr,h⟩:=Ka hw hk
   exact ⟨fr,he.symm.trans h⟩
  ·rename_i hc
   obtain ⟨fr,h⟩:=Ka hw hc
   simp only [h,Yf,Bool.false_eq_true,if_false] at he
   injection he with he
   obtain ⟨fr,h⟩:=Ka hw hk
   exact ⟨fr,he.symm.trans h⟩
  ·cases hk
 ·cases hk
theorem nC {w:WS} (hw:w.OK) {o:Oper} {x:Operand} (ho:o.op= .assign x) {b:Bool} (hk:Ds w.kn o=some b) {v:AV} {s:St} (he:evalOp T Γ w.st o=some (v,s)): ∃fr,v= .at (.data fr .bool b):=by
 unfold Ds at hk
 rw [ho] at hk
 obtain ⟨fr,h⟩:=Ka hw hk
 unfold evalOp at he;rw [ho] at he
 simp only [h] at he
 injection he with he;injection he with he;exact ⟨fr,he.symm⟩
theorem cV {w:WS} (hw:w.OK) {o:Oper} {K:AV->WS->Prop} (h:qW T Γ w o K):
  ∃v w',Ck T Γ w.st o=some v/\w'.st=w.st/\w'.OK/\(∀b,Ds w'.kn o=some b-> ∃fr,v= .at (.data fr .bool b))/\K v w':=by
 have fin:(∃v w',Ck T Γ w.st o=some v/\w'.st=w.st/\w'.OK/\K v w')-> ∃v w',Ck T Γ w.st o=some v/\w'.st=w.st/\w'.OK/\(∀b,Ds w'.kn o=some b-> ∃fr,v= .at (.data fr .bool b))/\K v w':=by
  rintro ⟨v,w',h1,h2,h3,h4⟩
  exact ⟨v,w',h1,h2,h3,λb hb=>pz h3 hb (by rw [h2];exact h1),h4⟩
 refine fin ?_
 unfold qW at h
 split at h
 ·rename_i c a b heq
  obtain ⟨fr,t,w',h1,h2,h3,h4⟩:=ql hw h
  cases t with
  |true=>exact ⟨_,w',by unfold Ck;rw [heq];simp only [h1,Yf,if_true];rw [<-h2],h2,h3,h4⟩
  |false=>exact ⟨_,w',by unfold Ck;rw [heq];simp only [h1,Yf];rw [<-h2];simp,h2,h3,h4⟩
 ·rename_i heq
  obtain ⟨v,h1,h2⟩:=wq h
  exact ⟨v,w,by unfold Ck;rw [heq];exact h1,rfl,hw,h2⟩
 ·rename_i heq
  obtain ⟨v,h1,h2⟩:=yf h
  exact ⟨v,w,by unfold Ck;rw [heq];exact h1,rfl,hw,h2⟩
 ·rename_i heq
  split at h
  ·obtain ⟨v,h1,h2⟩:=tV h
   exact ⟨v,w,by unfold Ck;rw [heq];simpa using h1,rfl,hw,h2⟩
  ·cases h
 ·rename_i heq
  obtain ⟨v,h1,h2⟩:=jx h
  exact ⟨v,w,by unfold Ck;rw [heq];exact h1,rfl,hw,h2⟩
 ·rename_i heq
  obtain ⟨v,h1,h2⟩:=sL h
  exact ⟨v,w,by unfold Ck;rw [heq];exact h1,rfl,hw,h2⟩
 ·rename_i heq
  obtain ⟨v,h1,h2⟩:=Wa h
  exact ⟨v,w,by unfold Ck;rw [heq];exact h1,rfl,hw,h2⟩
 ·rename_i heq
  obtain ⟨v,h1,h2⟩:=sj h
  exact ⟨v,w,by unfold Ck;rw [heq];exact h1,rfl,hw,h2⟩
 ·rename_i heq
  obtain ⟨v,h1,h2⟩:=jl h
  exact ⟨v,w,by unfold Ck;rw [heq];exact h1,rfl,hw,h2⟩
 ·rename_i x heq
  unfold qY at h
  split at h
  ·rename_i fr τ z hx
   obtain ⟨y,h1,h2⟩:=h
   subst h1
   exact ⟨_,w,by unfold Ck;rw [heq];simp only [hx],rfl,hw,h2⟩
  ·obtain ⟨v,h1,h2⟩:=At.1 h
   exact ⟨v,w,h1,rfl,hw,h2⟩
 ·obtain ⟨v,h1,h2⟩:=At.1 h
  exact ⟨v,w,h1,rfl,hw,h2⟩
theorem ug {st:St} {t:TypeId} {p v:AV} {K:St->Prop} (h:zV T st t p v K): ∃s,Nz T st t p v=some s/\K s:=by
 unfold zV at h
 split at h
 ·obtain ⟨τ,h1,h⟩:=At.1 h
  obtain ⟨q,h2,h⟩:=At.1 h
  split at h
  ·rename_i hb
   obtain ⟨u,h3,h⟩:=At.1 h
   split at h
   ·rename_i hc
    obtain ⟨h4,h5⟩:=h
    obtain ⟨q1,q2⟩:=q
    obtain ⟨u1,u2⟩:=u
    exact ⟨_,by simp only [Nz,h1,h2,hb,h3];rw [dif_pos hc,if_pos h4],h5⟩
   ·cases h
  ·cases h
 ·exact At.1 h
theorem pZ {st:St} {t:TypeId} {p v:AV} {K:St->Prop} (h:uc T st t p v K): ∃s,Kc T st t p v=some s/\K s:=by
 unfold uc at h
 unfold Kc
 split at h
 rotate_left
 ·rename_i hg;rw [hg];exact ug h
 rename_i hg
 rw [hg]
 simp only
 unfold CS at h
 split at h
 ·obtain ⟨τ,h1,h⟩:=At.1 h
  obtain ⟨q,h2,h⟩:=At.1 h
  split at h
  ·rename_i hb
   obtain ⟨u,h3,h⟩:=At.1 h
   split at h
   ·rename_i hc
    obtain ⟨q1,q2⟩:=q
    obtain ⟨u1,u2⟩:=u
    exact ⟨_,by simp only [Uy,h1,h2,hb,h3];rw [dif_pos hc],h⟩
   ·cases h
  ·cases h
 ·rename_i l j
  obtain ⟨τ,h1,h⟩:=At.1 h
  split at h
  ·rename_i e te rows out kp m off len hl _
   split at h
   ·rename_i fr tr e' tid xs hm
    split at h
    ·rename_i hc
     obtain ⟨h2,h3,h4,h5⟩:=h
     have h4:out=none\/out=some j:=by
      cases out with
      |none=>exact .inl rfl
      |some i=>exact .inr (congrArg some h4)
     exact ⟨_,by simp only [Uy,h1,hl,hm];rw [dif_pos ⟨hc.1,hc.2,h2,h3,h4⟩],h5⟩
    ·cases h
   ·cases h
  ·cases h
 ·cases h
theorem Rh {st:St} {d:Nat} {t:TypeId} {x y:Operand} {K:AV->St->Prop} (h:gF T st d t x y K): ∃v s,Iy T st d t x y=some (v,s)/\K v s:=by
 unfold gF at h
 obtain ⟨te,h1,h⟩:=At.1 h
 obtain ⟨e,h2,h⟩:=At.1 h
 obtain ⟨q,h3,h⟩:=At.1 h
 obtain ⟨u,h4,h⟩:=At.1 h
 obtain ⟨q1,q2⟩:=q
 obtain ⟨u1,u2⟩:=u
 split at h
 ·rename_i hx
  split at h
  ·rename_i hd
   obtain ⟨h5,h6⟩:=h
   refine ⟨_,_,?_,h6⟩
   simp only [Iy,h1,h2,h3,h4]
   rw [hx]
   simp only
   rw [if_pos ⟨h5,by simpa [Nat.blt_eq] using hd⟩]
   simp
  ·cases h
 ·rename_i l off len hx
  split at h
  ·rename_i fr tr e' tid xs hb
   split at h
   ·rename_i hc
    obtain ⟨h5,h6,h7,h8⟩:=h
    refine ⟨_,_,?_,h8⟩
    simp only [Iy,h1,h2,h3,h4]
    rw [hx]
    simp only [hb]
    rw [dif_pos ⟨hc.1,hc.2.1⟩,if_pos ⟨h7,by simpa [Nat.blt_eq] using hc.2.2⟩]
    obtain ⟨PQ,YW,TB⟩:=hc
    subst PQ
    subst h5
    simp only [List.drop_zero,h6,List.take_length,List.length_append]
   ·cases h
  ·cases h
 ·cases h
theorem mi {st:St} {d:Nat} {t:TypeId} {x y:Operand} {K:AV->St->Prop} (h:mh T st d t x y K): ∃v s,Lj T st d t x y=some (v,s)/\K v s:=by
 unfold mh at h
 cases x with
 |tmp tx=>
  simp only at h
  unfold Lj
  simp only
  cases hg:st.get tx with
  | «at»c=>
   rw [hg] at h
   cases c with
   |sub l i c=>
    simp only at h⊢
    obtain ⟨tid,h1,h⟩:=At.1 h
    split at h
    ·rename_i hl
     split at h
     ·rename_i hc
      obtain ⟨v,s,h2,h3⟩:=Rh h
      refine ⟨v,s,?_,h3⟩
      simp only [hl,h1]
      rw [if_pos hc]
      exact h2
     ·cases h
    ·cases h
   |_=>exact Rh h
  |_=>rw [hg] at h;exact Rh h
 |_=>exact Rh h
theorem wz {st:St} {d:Nat} {t:TypeId} {l c:AV} {K:AV->St->Prop} (h:LC T st d t l c K): ∃v s,Uv T st d t l c=some (v,s)/\K v s:=by
 unfold LC at h
 split at h
 ·obtain ⟨te,h1,h⟩:=At.1 h
  obtain ⟨e,h2,h⟩:=At.1 h
  split at h
  ·rename_i hz
   obtain ⟨h3,h4,h5⟩:=h
   refine ⟨_,_,?_,h5⟩
   simp only [Bool.and_eq_true] at hz
   simp only [Uv,h1,h2]
   rw [if_pos ⟨Ng.2 (by exact_mod_cast h3),h4,hz.1,by simpa [Nat.blt_eq] using hz.2⟩]
   simp
  ·cases h
 ·cases h
theorem tg {st:St} {d:Nat} {t:TypeId} {l c:AV} {K:AV->St->Prop} (h:z7 T st d t l c K): ∃v s,Qj T st d t l c=some (v,s)/\K v s:=by
 unfold z7 at h
 unfold Qj
 cases hg:Yj T t with
 |none=>rw [hg] at h;exact wz h
 |some p=>
  obtain ⟨te,e⟩:=p
  rw [hg] at h
  simp only at h⊢
  split at h
  ·split at h
   ·rename_i hd
    obtain ⟨h3,h4,h5⟩:=h
    refine ⟨_,_,?_,h5⟩
    simp only
    rw [if_pos ⟨Ng.2 (by exact_mod_cast h3),h4,by simpa [Nat.blt_eq] using hd⟩]
    simp
   ·cases h
  ·cases h
theorem fy {st:St} {d:Nat} {t:TypeId} {len:Nat} {parts:Array (Nat×Operand)} {K:AV->St->Prop} (h:Zu T st d t len parts K): ∃v s,Ew T st d t len parts=some (v,s)/\K v s:=by
 unfold Zu at h
 unfold Ew
 cases hg:Yj T t with
 |none=>
  rw [hg] at h
  obtain ⟨r,h1,h2⟩:=At.1 h
  exact ⟨r.1,r.2,h1,h2⟩
 |some p=>
  obtain ⟨te,e⟩:=p
  rw [hg] at h
  simp only at h⊢
  split at h
  ·rename_i x hp
   split at h
   ·rename_i m off ln hx
    split at h
    ·rename_i hm
     split at h
     ·rename_i hc
      obtain ⟨h1,h2,h3⟩:=h
      refine ⟨_,_,?_,h3⟩
      simp only [hp,hx,hm]
      rw [dif_pos ⟨hc.1,hc.2,h1,h2⟩]
     ·cases h
    ·cases h
   ·cases h
  ·cases h
theorem mn {st:St} {d:Nat} {t:TypeId} {x y:Operand} {K:AV->St->Prop} (h:mj T st d t x y K): ∃v s,Lk T st d t x y=some (v,s)/\K v s:=by
 unfold mj at h
 unfold Lk
 cases hg:Yj T t with
 |none=>rw [hg] at h;exact mi h
 |some p=>
  obtain ⟨te,e⟩:=p
  rw [hg] at h
  simp only at h⊢
  split at h
  ·rename_i l off len m LI nm hx hy
   split at h
   ·rename_i hl hm
    split at h
    ·rename_i hc
     obtain ⟨h1,h2,h3,h4,h5⟩:=h
     obtain ⟨⟨rfl,rfl⟩,hc⟩:=hc
     refine ⟨_,_,?_,h5⟩
     simp only [hx,hy,hl,hm]
     rw [dif_pos (⟨⟨trivial,trivial⟩,hc,h1,h2,h3,h4⟩)]
     simp
    ·cases h
   ·cases h
  ·cases h
theorem uo {st:St} {io:Bool} {k:Nat} {c:CK} {a:AC} {K:c.den->List (Nat×Loc)->Prop} (h:aS st io k c a K): ∃x t,Hg st io k c a=some (x,t)/\K x t:=by
 cases c with
 |Gt τ=>
  cases a with
  |own l off len=>
   obtain ⟨p,h1,h2⟩:=At.1 h
   exact ⟨_,_,by simp only [Hg];rw [h1];rfl,h2⟩
  |clo g Bx=>
   simp only [aS] at h
   split at h
   ·rename_i hc
    obtain ⟨p,h1,h2⟩:=At.1 h
    exact ⟨_,_,by simp only [Hg];rw [if_pos hc,h1];rfl,h2⟩
   ·cases h
  |Dz l i=>
   simp only [aS] at h
   split at h
   ·rename_i hc
    obtain ⟨p,h1,h2⟩:=At.1 h
    exact ⟨_,_,by simp only [Hg];rw [if_pos hc,h1];rfl,h2⟩
   ·cases h
  |sub l i c=>
   obtain ⟨p,h1,h2⟩:=At.1 h
   exact ⟨_,_,by simp only [Hg];rw [h1];rfl,h2⟩
  |_=>
   simp only [aS] at h
   split at h
   ·rename_i hc
    obtain ⟨p,h1,h2⟩:=At.1 h
    exact ⟨_,_,by simp only [Hg];rw [if_pos hc,h1];rfl,h2⟩
   ·cases h
 |row e te=>
  cases a<;>simp only [aS] at h<;>first|(cases h;done)|skip
  ·exact ⟨_,_,rfl,h⟩
  ·split at h
   ·rename_i hl
    split at h
    ·rename_i hc
     obtain ⟨h1,h2,h3⟩:=h
     exact ⟨_,_,by simp only [Hg,hl];rw [dif_pos ⟨hc.1,hc.2,h1,h2⟩],h3⟩
    ·cases h
   ·cases h
  ·split at h
   ·rename_i hl
    split at h
    ·rename_i hc
     obtain ⟨y,h1,h2⟩:=h
     exact ⟨_,_,by simp only [Hg,hl];rw [dif_pos hc,h1];rfl,h2⟩
    ·cases h
   ·cases h
 |Dx e te=>
  cases a<;>simp only [aS] at h<;>first|(cases h;done)|skip
  ·exact ⟨_,_,rfl,h⟩
  ·split at h
   ·rename_i hl
    split at h
    ·rename_i hc
     obtain ⟨h1,h2,h3⟩:=h
     exact ⟨_,_,by simp only [Hg,hl];rw [dif_pos ⟨hc.1,hc.2,h1,h2⟩],h3⟩
    ·cases h
   ·cases h
  ·split at h
   ·rename_i hl
    split at h
    ·rename_i hc
     obtain ⟨y,h1,h2⟩:=h
     exact ⟨_,_,by simp only [Hg,hl];rw [dif_pos hc,h1];rfl,h2⟩
    ·cases h
   ·cases h
 |part e te=>
  cases a<;>simp only [aS] at h<;>first|(cases h;done)|skip
  split at h
  ·rename_i hl
   split at h
   ·rename_i hc
    exact ⟨_,_,by simp only [Hg,hl];rw [dif_pos hc],h⟩
   ·cases h
  ·cases h
 |Ak e te kp=>
  cases a<;>simp only [aS] at h<;>first|(cases h;done)|skip
  split at h
  ·rename_i hl
   split at h
   ·rename_i hc
    obtain ⟨h1,h2,h3⟩:=h
    exact ⟨_,_,by simp only [Hg,hl];rw [dif_pos ⟨hc.1,hc.2.1,h1,h2,hc.2.2⟩],h3⟩
   ·cases h
  ·cases h
theorem x8 {st:St} {e:Ty} {ys:List e.den} {a:AC} {K:St->Prop} (h:ME st e ys a K): ∃s,zw st e ys a=some s/\K s:=by
 cases a<;>simp only [ME] at h<;>first|(cases h;done)|skip
 split at h
 ·rename_i hl
  split at h
  ·rename_i hc
   obtain ⟨h1,h3⟩:=h
   exact ⟨_,by simp only [zw,hl];rw [dif_pos ⟨hc,h1⟩],h3⟩
  ·cases h
 ·cases h
theorem eW {st:St} : ∀(cs:List (Bool×CK)) (k:Nat) (as:List AC) (K:Ins.den cs->List (Nat×Loc)->Prop),uq st k cs as K-> ∃x t,aT st k cs as=some (x,t)/\K x t
 | [],_,[],_,h=>⟨_,_,rfl,h⟩
 | [],_,_::_,_,h=>h.elim
 |_::_,_,[],_,h=>h.elim
 |p::r,k,a::as,K,h=>by
  obtain ⟨x,t1,h1,h2⟩:=uo h
  obtain ⟨y,t2,h3,h4⟩:=eW r (k+1) as _ h2
  exact ⟨_,_,by simp only [aT,h1,h3],h4⟩
theorem kZ {st:St} {c:CK} {ys:c.den} {a:AC} {K:St->Prop} (h:kY st c ys a K): ∃s,Vy st c ys a=some s/\K s:=by
 cases c with
 |Gt τ=>cases a<;>simp only [kY] at h<;>first|(cases h;done)|exact ⟨_,rfl,h⟩
 |row e te=>
  cases a<;>simp only [kY] at h<;>first|(cases h;done)|skip
  ·exact ⟨_,rfl,h⟩
  ·split at h
   ·rename_i hl
    split at h
    ·rename_i hc
     obtain ⟨h1,h3⟩:=h
     exact ⟨_,by simp only [Vy,hl];rw [dif_pos ⟨hc,h1⟩],h3⟩
    ·cases h
   ·cases h
  ·split at h
   ·rename_i hl
    split at h
    ·rename_i hc
     obtain ⟨y,h1,h2,h3⟩:=h
     exact ⟨_,by simp only [Vy,hl,dif_pos hc,h1];rw [if_pos h2],h3⟩
    ·cases h
   ·cases h
 |Dx e te=>
  cases a<;>simp only [kY] at h<;>first|(cases h;done)|skip
  ·exact ⟨_,rfl,h⟩
  ·split at h
   ·rename_i hl
    split at h
    ·rename_i hc
     obtain ⟨h1,h3⟩:=h
     exact ⟨_,by simp only [Vy,hl];rw [dif_pos ⟨hc,h1⟩],h3⟩
    ·cases h
   ·cases h
  ·split at h
   ·rename_i hl
    split at h
    ·rename_i hc
     obtain ⟨y,h1,h2,h3⟩:=h
     exact ⟨_,by simp only [Vy,hl,dif_pos hc,h1];rw [if_pos h2],h3⟩
    ·cases h
   ·cases h
 |part e te=>cases a<;>simp only [kY] at h<;>first|(cases h;done)|exact ⟨_,rfl,h⟩
 |Ak e te kp=>cases a<;>simp only [kY] at h<;>first|(cases h;done)|exact ⟨_,rfl,h⟩
theorem Kg: ∀(cs:List (Bool×CK)) (o:IOs.den cs) (as:List AC) (st:St) (K:St->Prop),cU cs o as st K-> ∃s,Ee cs o as st=some s/\K s
 | [],_,_,st,K,h=>⟨st,rfl,h⟩
 |(true, .Gt _)::r,o,[],st,K,h=>h.elim
 |(true, .row _ _)::r,o,[],st,K,h=>h.elim
 |(true, .Dx _ _)::r,o,[],st,K,h=>h.elim
 |(true, .part _ _)::r,o,[],st,K,h=>h.elim
 |(true, .Ak _ _ _)::r,o,[],st,K,h=>h.elim
 |(true, .Ak _ _ _)::r,o,a::as,st,K,h=>by
  obtain ⟨s,h1,h2⟩:=Kg r o as st K h
  exact ⟨s,by simp only [Ee];exact h1,h2⟩
 |(false,_)::r,o,[],st,K,h=>h.elim
 |(true, .Gt _)::r,o,a::as,st,K,h=>by
  obtain ⟨s,h1,h2⟩:=Kg r o as st K h
  exact ⟨s,by simp only [Ee];exact h1,h2⟩
 |(false,_)::r,o,a::as,st,K,h=>by
  obtain ⟨s,h1,h2⟩:=Kg r o as st K h
  exact ⟨s,by simp only [Ee];exact h1,h2⟩
 |(true, .row _ _)::r,o,a::as,st,K,h=>by
  obtain ⟨s1,h1,h2⟩:=kZ h
  obtain ⟨s,h3,h4⟩:=Kg r o.2 as s1 K h2
  exact ⟨s,by simp only [Ee,h1];exact h3,h4⟩
 |(true, .part _ _)::r,o,a::as,st,K,h=>by
  obtain ⟨s1,h1,h2⟩:=x8 h
  obtain ⟨s,h3,h4⟩:=Kg r o.2 as s1 K h2
  exact ⟨s,by simp only [Ee,h1];exact h3,h4⟩
 |(true, .Dx _ _)::r,o,a::as,st,K,h=>by
  obtain ⟨s1,h1,h2⟩:=kZ h
  obtain ⟨s,h3,h4⟩:=Kg r o.2 as s1 K h2
  exact ⟨s,by simp only [Ee,h1];exact h3,h4⟩
theorem lg {H:List (Nat×OB)} {ls:List Nat} {n:Nat} {K:Prop} : ∀(l:List AV),oC H ls n l K->Xs H ls n l=true/\K
 | [],h=>⟨rfl,h⟩
 |a::r,h=>by
  have go:oC H ls n r K->Xs H ls n r=true/\K:=lg r
  cases a with
  | «at»c=>
   cases c with
   |sub l i c=>
    simp only [oC] at h
    simp only [Xs]
    split at h
    ·rename_i hc
     obtain ⟨⟨h1,h2⟩,h3⟩:=h
     obtain ⟨g1,g2⟩:=go h3
     exact ⟨by simp only [hc,g1,Bool.and_true,Bool.not_true,Bool.false_or,Bool.and_eq_true,Nat.blt_eq];exact ⟨h1,h2⟩,g2⟩
    ·rename_i hc
     obtain ⟨g1,g2⟩:=go h
     exact ⟨by simp only [hc,g1,Bool.not_false,Bool.true_or,Bool.and_true],g2⟩
   |_=>exact go h
  |_=>exact go h
theorem si {st:St} {d:Option Nat} {s:MSpec} {args:List AV} {K:AV->St->Prop} (h:yh st d s args K): ∃v s',Qh st d s args=some (v,s')/\K v s':=by
 unfold yh at h
 obtain ⟨⟨pl,cells,rest⟩,h0,h⟩:=At.1 h
 obtain ⟨as,h1,h⟩:=At.1 h
 obtain ⟨x,tks,h2,h⟩:=eW s.ins 0 (cells++as) _ h
 split at h
 ·rename_i hc
  obtain ⟨⟨r,o⟩,h3,h⟩:=h
  obtain ⟨st1,h4,h⟩:=Kg s.ins o (cells++as) st _ h
  obtain ⟨v,h5,h6⟩:=At.1 h
  obtain ⟨h7,h6⟩:=lg _ h6
  refine ⟨v,_,?_,h6⟩
  unfold Qh
  simp only [h0,h1,h2]
  rw [if_pos hc]
  simp only [h3,h4,h5]
  rw [if_pos h7]
 ·cases h
theorem EY {w:WS} (hw:w.OK) {o:Oper} {K:AV->WS->Prop} (h:UF T Γ w o K):
  ∃v w',evalOp T Γ w.st o=some (v,w'.st)/\w'.OK/\(∀b,Ds w'.kn o=some b-> ∃fr,v= .at (.data fr .bool b))/\K v w':=by
 have fin: ∀v s,(∀b,Ds w.kn o=some b-> ∃fr,v= .at (.data fr .bool b))->evalOp T Γ w.st o=some (v,s)->K v (w.to s)-> ∃v w',evalOp T Γ w.st o=some (v,w'.st)/\w'.OK/\(∀b,Ds w'.kn o=some b-> ∃fr,v= .at (.data fr .bool b))/\K v w':=
  fun v s hk h1 h2=>⟨v,w.to s,h1,hw.to (gV h1),hk,h2⟩
 have sw:(∀b v s,Ds w.kn o=some b->evalOp T Γ w.st o=some (v,s)-> ∃fr,v= .at (.data fr .bool b))->Eb (evalOp T Γ w.st o) (λr=>K r.1 (w.to r.2))-> ∃v w',evalOp T Γ w.st o=some (v,w'.st)/\w'.OK/\(∀b,Ds w'.kn o=some b-> ∃fr,v= .at (.data fr .bool b))/\K v w':=by
  intro hk h
  obtain ⟨r,h1,h2⟩:=At.1 h
  exact fin r.1 r.2 (λb hb=>hk b _ _ hb h1) h1 h2
 unfold UF at h
 split at h
 ·rename_i heq
  obtain ⟨s,h1,h2⟩:=pZ h
  refine fin _ _ (λb hb=>by unfold Ds at hb;rw [heq] at hb;cases hb) ?_ h2
  unfold evalOp;rw [heq];simp only [h1];rfl
 ·rename_i heq
  obtain ⟨d,h1,h⟩:=At.1 h
  obtain ⟨v,s,h2,h3⟩:=tg h
  refine fin _ _ (λb hb=>by unfold Ds at hb;rw [heq] at hb;cases hb) ?_ h3
  unfold evalOp;rw [heq];simp only [h1,h2]
 ·rename_i heq
  split at h
  ·rename_i hd ha ht
   split at h
   ·rename_i Oo
    obtain ⟨v,s,h2,h3⟩:=mn h
    refine fin _ _ (λb hb=>by unfold Ds at hb;rw [heq] at hb;cases hb) ?_ h3
    unfold evalOp;rw [heq];simp only [hd,ha,ht,if_pos Oo,h2]
   ·cases h
  ·cases h
 ·rename_i heq;exact sw (λb v s hb he=>nC hw heq hb he) h
 ·rename_i heq;exact sw (λb v s hb he=>by unfold Ds at hb;rw [heq] at hb;cases hb) h
 ·rename_i heq;exact sw (λb v s hb he=>by unfold Ds at hb;rw [heq] at hb;cases hb) h
 ·rename_i heq
  obtain ⟨d,h1,h⟩:=At.1 h
  obtain ⟨v,s,h2,h3⟩:=fy h
  refine fin _ _ (λb hb=>by unfold Ds at hb;rw [heq] at hb;cases hb) ?_ h3
  unfold evalOp;rw [heq];simp only [h1,h2]
 ·rename_i heq;exact sw (λb v s hb he=>by unfold Ds at hb;rw [heq] at hb;cases hb) h
 ·rename_i heq;exact sw (λb v s hb he=>by unfold Ds at hb;rw [heq] at hb;cases hb) h
 ·rename_i heq;exact sw (λb v s hb he=>by unfold Ds at hb;rw [heq] at hb;cases hb) h
 ·rename_i heq;exact sw (λb v s hb he=>by unfold Ds at hb;rw [heq] at hb;cases hb) h
 ·rename_i heq;exact sw (λb v s hb he=>by unfold Ds at hb;rw [heq] at hb;cases hb) h
 ·rename_i heq;exact sw (λb v s hb he=>by unfold Ds at hb;rw [heq] at hb;cases hb) h
 ·
  rename_i f _ _ heq
  split at h
  ·rename_i Mi
   obtain ⟨v,s',h1,h2⟩:=si h
   refine fin v s' (λb hb=>by unfold Ds at hb;rw [heq] at hb;cases hb) ?_ h2
   unfold evalOp;rw [heq];simp only [Mi];exact h1
  ·rename_i s Mi
   split at h
   ·rename_i BV
    obtain ⟨st1,hs,h⟩:=At.1 h
    obtain ⟨v,w',h1,h2,h3,PI,h4⟩:=cV (hw.to (Ss _ hs)) h
    refine ⟨v,w',?_,h3,PI,h4⟩
    have h1:Ck T Γ st1 o=some v:=h1
    have h2:w'.st=st1:=h2
    unfold evalOp
    rw [heq]
    simp only [Mi,BV,hs,h1,h2]
    rfl
   ·rename_i BV
    obtain ⟨v,w',h1,h2,h3,PI,h4⟩:=cV hw h
    refine ⟨v,w',?_,h3,PI,h4⟩
    unfold evalOp
    rw [heq]
    simp only [Mi,BV,h1,h2]
    rfl
  ·rename_i Alg Aaw
   obtain ⟨v,w',h1,h2,h3,PI,h4⟩:=cV hw h
   refine ⟨v,w',?_,h3,PI,h4⟩
   unfold evalOp
   rw [heq]
   simp only
   rw [h1,h2];rfl
 ·rename_i n1 n2 n3 n4 n5 n6 n7 n8 n9 n10 n11 n12 n13 n14
  obtain ⟨v,w',h1,h2,h3,PI,h4⟩:=cV hw h
  refine ⟨v,w',?_,h3,PI,h4⟩
  unfold evalOp
  split
  all_goals first
   |(rw [h1,h2];rfl)
   |(rename_i hq;exact absurd hq (by first|exact n1 _|exact n2 _|exact n3 _|exact n4 _|exact n5 _|exact n6 _|exact n7 _|exact n8 _|exact n9 _|exact n10 _|exact n11 _|exact n12 _|exact n13 _|exact n14 _))
   |(rename_i hq;exact absurd hq (by first|exact n1 _ _|exact n2 _ _|exact n3 _ _|exact n4 _ _|exact n5 _ _|exact n6 _ _|exact n7 _ _|exact n8 _ _|exact n9 _ _|exact n10 _ _|exact n11 _ _|exact n12 _ _|exact n13 _ _|exact n14 _ _))
   |(rename_i hq;exact absurd hq (by first|exact n1 _ _ _|exact n2 _ _ _|exact n3 _ _ _|exact n4 _ _ _|exact n5 _ _ _|exact n6 _ _ _|exact n7 _ _ _|exact n8 _ _ _|exact n9 _ _ _|exact n10 _ _ _|exact n11 _ _ _|exact n12 _ _ _|exact n13 _ _ _|exact n14 _ _ _))
   |(rename_i hq;exact absurd hq (by first|exact n1 _ _ _ _|exact n2 _ _ _ _|exact n3 _ _ _ _|exact n4 _ _ _ _|exact n5 _ _ _ _|exact n6 _ _ _ _|exact n7 _ _ _ _|exact n8 _ _ _ _|exact n9 _ _ _ _|exact n10 _ _ _ _|exact n11 _ _ _ _|exact n12 _ _ _ _|exact n13 _ _ _ _|exact n14 _ _ _ _))
theorem sA (st:St) (d:Nat) (v:AV):(st.put (some d) v).get d=v\/(st.put (some d) v).get d= .undef:=by
 simp only [St.put,St.get]
 rw [Ui]
 by_cases h:d<st.tmps.length
 ·exact .inl (by rw [if_pos ⟨rfl,h⟩])
 ·refine .inr ?_
  rw [if_neg (λhc=>h hc.2),List.getD_eq_getElem?_getD,List.getElem?_eq_none (by omega)]
  rfl
theorem WS.OK.pJ {w:WS} (hw:w.OK) (o:Oper) (v:AV) (h: ∀b,Ds w.kn o=some b-> ∃fr,v= .at (.data fr .bool b)):(w.pJ o v).OK/\(w.pJ o v).st=w.st.put o.dst v:=by
 unfold WS.pJ
 split
 ·rename_i d b hd hk
  split
  ·rename_i fr c hg
   refine ⟨?_,by rw [hd]⟩
   obtain ⟨Ow,hv⟩:=h b hk
   intro t b' hb
   simp only [pv] at hb
   split at hb
   ·rename_i ht
    injection hb with hb
    subst ht;subst hb
    refine ⟨Ow,?_⟩
    show (w.st.put (some d) v).get d=_
    cases sA w.st d v with
    |inl h1=>rw [h1,hv]
    |inr h1=>rw [h1] at hg;cases hg
   ·exact hw.put (some d) v t b' hb
  ·exact ⟨hw.put _ _,by rw [WS.nP,hd]⟩
 ·exact ⟨hw.put _ _,WS.nP _ _ _⟩
theorem lf {ops:Array Oper} {w:WS} (hw:w.OK) {o:Oper} {run:(AV->WS->Prop)->WS->Prop} {R:St->Option (AV×St)} {K:WS->Prop}
  (hr: ∀(k:AV->WS->Prop) (w:WS),w.OK->run k w-> ∃v w',R w.st=some (v,w'.st)/\w'.OK/\(∀b,Ds w'.kn o=some b-> ∃fr,v= .at (.data fr .bool b))/\k v w') (h:eU ops w o run K):
  ∃w',(match o.guard with
   |none=>(R w.st).map λr=>r.2.put o.dst r.1
   |some (j,want)=>match Qc w.st ((ops[j]?).bind (·.dst)) with
    |some (some b)=>if b==want then (R w.st).map λr=>r.2.put o.dst r.1 else some (w.st.put o.dst (.at .skip))
    |some none=>some (w.st.put o.dst (.at .skip))
    |none=>none)=some w'.st/\w'.OK/\K w':=by
 have go: ∀w:WS,w.OK->run (λv w'=>K (w'.pJ o v)) w-> ∃w',((R w.st).map λr=>r.2.put o.dst r.1)=some w'.st/\w'.OK/\K w':=by
  intro w hw h
  obtain ⟨v,w',h1,h2,h3,h4⟩:=hr _ _ hw h
  obtain ⟨h5,h6⟩:=h2.pJ o v h3
  exact ⟨w'.pJ o v,by rw [h1,h6];rfl,h5,h4⟩
 unfold eU at h
 split at h
 ·rename_i hg
  rw [hg]
  exact go w hw h
 ·rename_i j want hg
  rw [hg]
  obtain ⟨t,h1,h⟩:=At.1 h
  simp only [h1]
  split at h
  ·rename_i hs
   have hsk:w.st.get t= .at .skip:=by
    unfold AV.KR at hs
    split at hs
    ·assumption
    ·cases hs
   exact ⟨_,by simp only [Qc,hsk];rw [WS.nP],hw.put _ _,h⟩
  ·obtain ⟨fr,b,w',h2,h3,h4,h5⟩:=qn hw h
   have hb:Qc w.st (some t)=some (some b):=by simp only [Qc,h2]
   rw [hb]
   simp only
   cases b with
   |true=>
    cases want with
    |true=>rw [if_pos (by decide),<-h3];exact go w' h4 h5
    |false=>exact ⟨_,by rw [if_neg (by decide),<-h3,WS.nP],h4.put _ _,h5⟩
   |false=>
    cases want with
    |false=>rw [if_pos (by decide),<-h3];exact go w' h4 h5
    |true=>exact ⟨_,by rw [if_neg (by decide),<-h3,WS.nP],h4.put _ _,h5⟩
theorem dr {ops:Array Oper} {w:WS} (hw:w.OK) {o:Oper} {K:WS->Prop} (h:eU ops w o (λk w'=>UF T Γ w' o k) K): ∃w',Cl T Γ ops w.st o=some w'.st/\w'.OK/\K w':=by
 obtain ⟨w',h1,h2⟩:=lf hw (R:= λst=>evalOp T Γ st o) (λk w hw h=>by
  obtain ⟨v,w',h1,h2,SV,h3⟩:=EY hw h
  exact ⟨v,w',h1,h2,SV,h3⟩) h
 exact ⟨w',h1,h2⟩
theorem IT {w:WS} (hw:w.OK) {o:Oper} {K:AV->WS->Prop} (h:bW T Γ w o K):
  ∃v w',Ry T Γ w.st o=some v/\w'.st=w.st/\w'.OK/\(∀b,Ds w'.kn o=some b-> ∃fr,v= .at (.data fr .bool b))/\K v w':=by
 unfold bW at h
 split at h
 ·rename_i t len parts lT
  obtain ⟨v,h1,h2⟩:=At.1 h
  exact ⟨v,w,by unfold Ry;rw [lT];exact h1,rfl,hw,λb hb=>by simp [Ds,lT] at hb,h2⟩
 ·rename_i t parts lT
  obtain ⟨v,h1,h2⟩:=At.1 h
  exact ⟨v,w,by unfold Ry;rw [lT];exact h1,rfl,hw,λb hb=>by simp [Ds,lT] at hb,h2⟩
 ·rename_i n1 n2
  obtain ⟨v,w',h1,h2⟩:=cV hw h
  refine ⟨v,w',?_,h2⟩
  rw [<-h1]
  unfold Ry
  split
  ·rename_i h9;exact absurd h9 (n1 _ _ _)
  ·rename_i h9;exact absurd h9 (n2 _ _)
  ·rfl
theorem RO {ops:Array Oper} {w:WS} (hw:w.OK) {o:Oper} {K:WS->Prop} (h:eU ops w o (λk w'=>bW T Γ w' o k) K): ∃v w',bL T Γ ops w.st o=some v/\w'.st=w.st.put o.dst v/\w'.OK/\K w':=by
 obtain ⟨w',h1,h2,h3⟩:=lf hw (R:= λst=>(Ry T Γ st o).map λv=>(v,st)) (λk w hw h=>by
  obtain ⟨v,w',h1,h2,h3,PI,h4⟩:=IT hw h
  exact ⟨v,w',by simp only [h1,h2];rfl,h3,PI,h4⟩) h
 have key: ∀u:Option AV,((u.map λv=>(v,w.st)).map λr=>r.2.put o.dst r.1)=some w'.st-> ∃v,u=some v/\w'.st=w.st.put o.dst v:=by
  intro u hu
  cases u with
  |none=>cases hu
  |some v=>injection hu with hu;exact ⟨v,rfl,hu.symm⟩
 unfold bL
 split at h1
 ·rename_i hg
  obtain ⟨v,h4,h5⟩:=key _ h1
  exact ⟨v,w',by rw [hg];exact h4,h5,h2,h3⟩
 ·rename_i j want hg
  rw [hg]
  split at h1
  ·rename_i b hb
   simp only [hb]
   split at h1
   ·rename_i yD
    obtain ⟨v,h4,h5⟩:=key _ h1
    exact ⟨v,w',by rw [if_pos yD];exact h4,h5,h2,h3⟩
   ·rename_i yD
    injection h1 with h1
    exact ⟨_,w',by rw [if_neg yD],h1.symm,h2,h3⟩
  ·rename_i hb
   simp only [hb]
   injection h1 with h1
   exact ⟨_,w',rfl,h1.symm,h2,h3⟩
  ·cases h1
theorem nD {ops:Array Oper} : ∀(l:List Oper) {w:WS} (_:w.OK) {K:WS->Prop},XD T Γ ops l w K-> ∃w',Tm T Γ ops l w.st=some w'.st/\w'.OK/\K w'
 | [],w,hw,K,h=>⟨w,rfl,hw,h⟩
 |o::r,w,hw,K,h=>by
  obtain ⟨w1,h1,h2,h3⟩:=dr hw h
  obtain ⟨w2,h4,h5⟩:=nD r h2 h3
  exact ⟨w2,by simp only [Tm];rw [h1];exact h4,h5⟩
theorem ae {ops:Array Oper} : ∀(l:List Nat) {w:WS} (_:w.OK) {K:WS->Prop},KG T Γ ops l w K-> ∃w',Jl T Γ ops l w.st=some w'.st/\w'.OK/\K w'
 | [],w,hw,K,h=>⟨w,rfl,hw,h⟩
 |i::r,w,hw,K,h=>by
  obtain ⟨o,h0,h⟩:=At.1 h
  obtain ⟨w1,h1,h2,h3⟩:=dr hw h
  obtain ⟨w2,h4,h5⟩:=ae r h2 h3
  exact ⟨w2,by simp only [Jl];rw [h0];simp only [h1];exact h4,h5⟩
theorem Se {ops:Array Oper} : ∀(l:List Nat) {w:WS} (_:w.OK) {K:WS->Prop},qD T Γ ops l w K-> ∃w',Ed T Γ ops l w.st=some w'.st/\w'.OK/\K w'
 | [],w,hw,K,h=>⟨w,rfl,hw,h⟩
 |i::r,w,hw,K,h=>by
  obtain ⟨o,h0,h⟩:=At.1 h
  obtain ⟨v,w1,h1,h1',h2,h3⟩:=RO hw h
  obtain ⟨w2,h4,h5⟩:=Se r h2 h3
  exact ⟨w2,by simp only [Ed];rw [h0];simp only [h1];rw [<-h1'];exact h4,h5⟩
theorem mf {P:Nat->Prop} : ∀(l:List Nat),OQ l P-> ∀i∈l,P i
 | [],_,i,hi=>by cases hi
 | [k],h,i,hi=>by rw [List.mem_singleton.1 hi];exact h
 |k::j::r,h,i,hi=>by
  rcases List.mem_cons.1 hi with rfl|hi
  ·exact h.1
  ·exact mf (j::r) h.2 i hi
theorem fu {ops:Array Oper} {K:WS->Prop} : ∀(f:Nat) (Ad:Array Bool) {w:WS} (_:w.OK),DC T Γ ops f Ad w K->anyS T Γ ops (λs=> ∃w':WS,w'.st=s/\w'.OK/\K w') f Ad w.st
 |0,Ad,w,hw,h=>by
  unfold DC at h
  split at h
  ·rename_i hr;exact ⟨hr,w,rfl,hw,h⟩
  ·cases h
 |f+1,Ad,w,hw,h=>by
  unfold DC at h
  split at h
  ·cases h
  ·rename_i i r hr
   refine ⟨by rw [hr];simp,λk hk=>?_⟩
   rw [hr] at hk
   obtain ⟨o,h0,h1⟩:=At.1 (mf _ h k hk)
   obtain ⟨w1,h2,h3,h4⟩:=dr hw h1
   exact ⟨o,w1.st,h0,h2,fu f _ h3 h4⟩
theorem Zz {ops:Array Oper} {K:WS->Prop} : ∀(f:Nat) (Ad:Array Bool) {w:WS} (_:w.OK),jm T Γ ops f Ad w K-> ∃w':WS,w'.OK/\K w'
 |0,Ad,w,hw,h=>by
  simp only [jm] at h
  split at h
  ·exact ⟨w,hw,h⟩
  ·exact h.elim
 |f+1,Ad,w,hw,h=>by
  simp only [jm] at h
  split at h
  ·exact h.elim
  ·obtain ⟨o,ho,h1⟩:=At.1 h
   obtain ⟨w',h2,h3,h4⟩:=dr hw h1
   exact Zz f _ h3 h4
theorem kx {P:List (Nat×Nat×AV×OB)} {ops:Array Oper} {K:WS->Prop} : ∀(f:Nat) (Ad:Array Bool) {w:WS} (_:w.OK),uU T Γ P ops f Ad w K->UO T Γ ops P (λs=> ∃w':WS,w'.st=s/\w'.OK/\K w') f Ad w.st
 |0,Ad,w,hw,h=>by
  unfold uU at h
  split at h
  ·rename_i hr;exact ⟨hr,w,rfl,hw,h⟩
  ·cases h
 |f+1,Ad,w,hw,h=>by
  unfold uU at h
  split at h
  ·cases h
  ·rename_i i r hr
   refine ⟨by rw [hr];simp,λk hk=>?_⟩
   rw [hr] at hk
   obtain ⟨o,h0,h1⟩:=At.1 (mf _ h k hk)
   split at h1
   ·rename_i Yn
    obtain ⟨w1,h2,h3,h4⟩:=dr hw h1
    exact ⟨o,w1.st,h0,Yn,h2,kx f _ h3 h4⟩
   ·cases h1
theorem wM {α:Type} (f:α->Nat) {l:List α} (h:Su (l.map f)=true):l.Pairwise λa c=>f a≠f c:=List.pairwise_map.1 (Qr h)
theorem oY {ops:Array Oper} {L0:Array Bool} {n:Nat} {w:WS} (hw:w.OK) {K:WS->Prop} (hc:Te ops L0) (h:se T Γ (Rw T ops L0) n L0 ops w K):anyS T Γ ops (λs=> ∃w':WS,w'.st=s/\w'.OK/\K w') n L0 w.st:=by
 unfold se at h
 split at h
 ·rename_i hb
  simp only [Bool.and_eq_true] at hb
  obtain ⟨⟨b1,b2⟩,b3,b4,b5⟩:=hb
  have hm: ∀a∈Rw T ops L0,a.1∈Region.ready .any ops L0/\ ∃o,ops[a.1]?=some o/\Zr T o=some a.2:= λa ha=>s7 ha
  have p1:=wM (λa:Nat×Nat×AV×OB=>a.1) b1
  have p2:=wM (λa:Nat×Nat×AV×OB=>a.2.1) b2
  have hlen:(Rw T ops L0).length<=n:=Nat.le_of_ble_eq_true b4
  obtain ⟨w1,h1,h2,h3⟩:=ae _ hw h
  have h3:=a8.1 h3
  obtain ⟨w0,g1,g2⟩:=Zz _ _ h2 h3
  obtain ⟨g3,g4⟩:=a8.1 g2
  have hp:=wZ (Γ:=Γ) _ w.st w1.st (λa ha=>(hm a ha).2) (λa ha=>nz (List.all_eq_true.1 b3 a ha)) p2 h1
  refine dE (λs hs=>?_) _ _ _ (DB (λa ha=>(hm a ha).2) n (n-(Rw T ops L0).length) (Rw T ops L0) _ L0 w1.st w.st (by omega) (kx _ _ h2 g4) hp
   (OS (ops:=ops) λi hi=>by obtain ⟨a,ha,rfl⟩:=List.mem_map.1 hi;exact (hm a ha).1) (λa ha=>ha) (p2.and p1) hc λa ha x hx=>cX (hm a ha).1 hx)
  obtain ⟨w',h5,_,h6⟩:=hs
  exact ⟨w0,((h5.symm.trans (qw h6)).symm),g1,g3⟩
 ·cases h
theorem pK {ops:Array Oper} {draw:Bool} {w:WS} (hw:w.OK) {K:WS->Prop} (h:tJ T Γ ops draw w K):rY T Γ ops draw w.st (λs=> ∃w':WS,w'.st=s/\w'.OK/\K w'):=by
 unfold tJ at h
 split at h
 ·split at h
  ·rename_i ho
   obtain ⟨w1,h1,h2,h3⟩:=Se _ hw h
   obtain ⟨w2,h4,h5⟩:=ae _ h2 h3
   exact .inl ⟨w2.st,by simp only [Ll,if_true];rw [if_pos ho,h1];exact h4,w2,rfl,h5⟩
  ·rename_i ho
   split at h
   ·rename_i ho2
    obtain ⟨w1,h1,h2,h3⟩:=Se _ hw h
    obtain ⟨w2,h4,h5⟩:=ae _ h2 h3
    exact .inl ⟨w2.st,by simp only [Ll,if_true];rw [if_neg (by rw [ho];decide),if_pos ho2,h1];exact h4,w2,rfl,h5⟩
   ·split at h
    ·rename_i hc
     simp only [Bool.and_eq_true] at hc
     obtain ⟨w1,h1,h2,h3⟩:=Se _ hw h
     split at h3
     ·exact .inr ⟨rfl,hc.1,w1.st,h1,fu _ _ h2 h3⟩
     ·obtain ⟨w0,g1,g2⟩:=Zz _ _ h2 h3
      obtain ⟨g3,g4⟩:=a8.1 g2
      exact .inr ⟨rfl,hc.1,w1.st,h1,dE (λs hs=>by
       obtain ⟨w',h5,_,h6⟩:=hs
       exact ⟨w0,((h5.symm.trans (qw h6)).symm),g1,g3⟩) _ _ _ (fu _ _ h2 g4)⟩
    ·split at h
     ·rename_i BV
      obtain ⟨w1,h1,h2,h3⟩:=Se _ hw h
      exact .inr ⟨rfl,BV,w1.st,h1,oY h2 (Zx _ _ _ vq) h3⟩
     ·cases h
 ·obtain ⟨w1,h1,h2⟩:=nD _ hw h
  exact .inl ⟨w1.st,by simp only [Ll];rw [if_neg (by simp)];exact h1,w1,rfl,h2⟩
end
end Go.Proofs.Ytjbdmibbbpdnnaa
