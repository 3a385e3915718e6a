/-
  Part 33 of the proof that the statement FnExactLowerBounds holds.
-/
import Derived.Test.YtfolipnappekaaaGreatCLowerBounds31
namespace Go.Proofs.YtfolipnappekaaaGreat
open Go.RowKit
section
variable {T:Tab} {Γ:Env}
def WS.OK (w:WS):Prop:= ∀t b,qE w.kn t=some b-> ∃fr,w.st.get t= .at (.data fr .bool b)
theorem gE: ∀(l:List (Nat×Bool)) (d t:Nat) (b:Bool),qE (sF l d) t=some b->t≠d/\qE l t=some b
 | [],_,_,_,h=>by cases h
 |(k,c)::r,d,t,b,h=>by
  simp only [sF] at h
  split at h
  ·rename_i hk
   have:=gE r d t b h
   refine ⟨this.1,?_⟩
   simp only [qE]
   rw [if_neg (by rw [hk];exact λh=>this.1 h.symm)]
   exact this.2
  ·rename_i hk
   simp only [qE] at h⊢
   split at h
   ·rename_i RG
    exact ⟨by rw [<-RG];exact hk,by rw [if_pos RG];exact h⟩
   ·rename_i RG
    rw [if_neg RG]
    exact gE r d t b h
theorem WS.OK.put {w:WS} (h:w.OK) (dst:Option Tmp) (v:AV):(w.put dst v).OK:=by
 cases dst with
 |none=>exact h
 |some d=>
  intro t b hb
  obtain ⟨h1,h2⟩:=gE _ _ _ _ hb
  obtain ⟨fr,h3⟩:=h t b h2
  exact ⟨fr,by show (w.st.put (some d) v).get t=_;rw [Vy _ _ h1];exact h3⟩
theorem WS.oV (w:WS) (dst:Option Tmp) (v:AV):(w.put dst v).st=w.st.put dst v:=by cases dst<;>rfl
theorem WS.OK.to {w:WS} (h:w.OK) {s:St} (hs:Az w.st s):(w.to s).OK:=by
 intro t b hb
 obtain ⟨fr,h3⟩:=h t b hb
 exact ⟨fr,hs t fr _ _ h3⟩
theorem sa {w:WS} (hw:w.OK) {t:Nat} {K:Bool->WS->Prop} (h:brT w t K):
  ∃fr b w',w.st.get t= .at (.data fr .bool b)/\w'.st=w.st/\w'.OK/\K b w':=by
 unfold brT at h
 split at h
 ·rename_i b hb
  obtain ⟨fr,h1⟩:=hw t b hb
  exact ⟨fr,b,w,h1,rfl,hw,h⟩
 ·split at h
  ·rename_i fr b hb
   obtain ⟨h1,h2⟩:=h
   have ok: ∀c:Bool,b=c->WS.OK {kn:=(t,c)::w.kn,st:=w.st} :=by
    intro c hc t' b' h'
    simp only [qE] at h'
    split at h'
    ·rename_i ht
     injection h' with h'
     exact ⟨fr,by rw [<-ht,<-h',<-hc];exact hb⟩
    ·exact hw t' b' h'
   cases b with
   |true=>exact ⟨fr,true, {kn:=(t,true)::w.kn,st:=w.st},hb,rfl,ok true rfl,h1 rfl⟩
   |false=>exact ⟨fr,false, {kn:=(t,false)::w.kn,st:=w.st},hb,rfl,ok false rfl,h2 rfl⟩
  ·cases h
theorem s9 {w:WS} (hw:w.OK) {c:Operand} {K:Bool->WS->Prop} (h:brO w c K):
  ∃fr b w',w.st.ev c= .at (.data fr .bool b)/\w'.st=w.st/\w'.OK/\K b w':=by
 unfold brO at h
 split at h
 ·exact sa hw h
 ·exact ⟨true,_,w,rfl,rfl,hw,h⟩
 ·cases h
theorem zS {op:BinOp} {t:TypeId} {x y:AV} {K:AV->Prop} (h:XE T op t x y K): ∃v,Nj T op t x y=some v/\K v:=by
 unfold XE at h
 split at h
 ·split at h
  ·rename_i hk
   exact ⟨_,by simp only [Nj,evalBin,oo];rw [if_pos hk,if_neg h.1];rfl,h.2⟩
  ·cases h
 ·split at h
  ·rename_i hk
   exact ⟨_,by simp only [Nj,evalBin,oo];rw [if_pos hk,if_neg h.1];rfl,h.2⟩
  ·cases h
 ·exact ⟨_,by simp only [Nj,evalBin];rw [if_neg h.1];rfl,h.2⟩
 ·exact ⟨_,by simp only [Nj,evalBin];rw [if_neg h.1];rfl,h.2⟩
 ·exact ⟨_,by simp only [Nj,evalBin];rw [if_pos h.1],h.2⟩
 ·exact At.1 h
theorem xU {st:St} {t:TypeId} {p:AV} {K:AV->Prop} (h:NU T st t p K): ∃v,Kp T st t p=some v/\K v:=by
 unfold NU at h
 split at h
 ·obtain ⟨τ,h1,h2⟩:=At.1 h
  split at h2
  ·rename_i hb
   split at h2
   ·rename_i he
    obtain ⟨x,h3,h4⟩:=h2
    exact ⟨_,by simp only [Kp,h1,hb,if_pos he,h3];rfl,h4⟩
   ·cases h2
  ·rename_i hb
   split at h2
   ·rename_i he
    obtain ⟨x,h3,h4⟩:=h2
    exact ⟨_,by simp only [Kp,h1,hb,if_pos he,h3];rfl,h4⟩
   ·cases h2
  ·rename_i hb
   split at h2
   ·cases h2
   ·rename_i he
    exact ⟨_,by simp only [Kp,h1,hb,if_neg he],h2⟩
  ·cases h2
 ·obtain ⟨τ,h1,h2⟩:=At.1 h
  split at h2
  ·rename_i he
   obtain ⟨y,h3,h4⟩:=h2
   subst h3
   exact ⟨_,by simp only [Kp,h1,if_pos he],h4⟩
  ·cases h2
 ·exact At.1 h
theorem jZ {s:TypeId} {x:AV} {f:Nat} {K:AV->Prop} (h:gm T s x f K): ∃v,Iw T s x f=some v/\K v:=by
 unfold gm at h
 split at h
 ·obtain ⟨y,h1,h2⟩:=h
  subst h1
  obtain ⟨v,h3,h4⟩:=At.1 h2
  refine ⟨v,?_,h4⟩
  rw [<-h3]
  unfold Iw
  cases T.off s f<;>rfl
 ·exact At.1 h
theorem vC {st:St} {t:TypeId} {x:AV} {lo hi:Option AV} {K:AV->Prop} (h:DD T st t x lo hi K): ∃v,Zi T st t x lo hi=some v/\K v:=by
 unfold DD at h
 obtain ⟨n,h1,h⟩:=At.1 h
 obtain ⟨l,h2,h⟩:=At.1 h
 obtain ⟨hh,h3,hc,h⟩:=At.1 h
 obtain ⟨v,h4,h5⟩:=At.1 h
 refine ⟨v,?_,h5⟩
 simp only [Zi,h1,h2,h3,if_pos hc]
 exact h4
theorem ki {st:St} {t:TypeId} {x i:AV} {K:AV->Prop} (h:gB T st t x i K): ∃v,Gc T st t x i=some v/\K v:=by
 unfold gB at h
 split at h
 ·split at h
  ·rename_i he
   obtain ⟨x,h3,h4⟩:=h
   exact ⟨_,by simp only [Gc,if_pos he,h3];rfl,h4⟩
  ·cases h
 ·split at h
  ·rename_i hb
   split at h
   ·rename_i he
    obtain ⟨h3,h4⟩:=h
    exact ⟨_,by simp only [Gc,hb];rw [if_pos ⟨he.1,he.2,Nq.2 h3⟩],h4⟩
   ·cases h
  ·rename_i hb
   split at h
   ·rename_i he
    obtain ⟨h3,h4⟩:=h
    exact ⟨_,by simp only [Gc,hb];rw [if_pos ⟨he.1,he.2,Nq.2 h3⟩],h4⟩
   ·cases h
  ·rename_i hb
   split at h
   ·rename_i he
    obtain ⟨h3,h4⟩:=h
    exact ⟨_,by simp only [Gc,hb];rw [if_pos ⟨he.1,he.2,Nq.2 h3⟩],h4⟩
   ·cases h
  ·cases h
 ·split at h
  ·rename_i hb
   split at h
   ·rename_i he
    obtain ⟨h3,h4⟩:=h
    exact ⟨_,by simp only [Gc,hb];rw [if_pos ⟨he,Nq.2 h3⟩],h4⟩
   ·cases h
  ·cases h
 ·cases h
theorem uk {t:TypeId} {x i:AV} {K:AV->Prop} (h:BC T t x i K): ∃v,eb T t x i=some v/\K v:=by
 unfold BC at h
 split at h
 ·split at h
  ·rename_i he
   obtain ⟨h1,b,h3,h4⟩:=h
   exact ⟨_,by simp only [eb,if_pos he,if_pos h1,h3];rfl,h4⟩
  ·cases h
 ·cases h
theorem Xc {st:St} {f:FuncId} {args:List AV} {K:AV->Prop} (h:sd Γ st f args K): ∃v,Jm Γ st f args=some v/\K v:=by
 unfold sd at h
 obtain ⟨s,h1,h⟩:=At.1 h
 have h1:Γ f=some (.q s):=by
  split at h1
  ·rename_i s' hs;injection h1 with h1;rw [hs,h1]
  ·cases h1
 split at h
 ·rename_i hf
  obtain ⟨p,h2,y,h3,h4⟩:=At.1 h
  refine ⟨_,?_,h4⟩
  simp only [Jm,h1]
  rw [if_pos hf,h2]
  simp only [h3]
  rfl
 ·cases h
theorem tQ {st:St} {v:AV} {args:List AV} {K:AV->Prop} (h:zV Γ st v args K): ∃u,Qq Γ st v args=some u/\K u:=by
 unfold zV at h
 split at h
 ·split at h
  ·rename_i hc
   split at h
   ·rename_i hf
    obtain ⟨u,h1,h2⟩:=Xc h
    exact ⟨u,by simp only [Qq];rw [if_pos hc,if_pos (by simpa using hf)];exact h1,h2⟩
   ·rename_i hf
    obtain ⟨u,h1,h2⟩:=Xc h
    exact ⟨u,by simp only [Qq];rw [if_pos hc,if_neg (λhx=>by rw [show Nat.blt _ 1000000000=true from by simpa using hx] at hf;cases hf)];exact h1,h2⟩
  ·cases h
 ·exact Xc h
 ·cases h
theorem Ka {w:WS} (hw:w.OK) {x:Operand} {b:Bool} (hk:Pr w.kn x=some b): ∃fr,w.st.ev x= .at (.data fr .bool b):=by
 unfold Pr at hk
 split at hk
 ·injection hk with hk;subst hk;exact ⟨true,rfl⟩
 ·exact hw _ _ hk
 ·cases hk
theorem qK {w:WS} (hw:w.OK) {o:Oper} {b:Bool} (hk:Dp w.kn o=some b) {v:AV} (he:Ci T Γ w.st o=some v): ∃fr,v= .at (.data fr .bool b):=by
 unfold Dp at hk
 split at hk
 ·rename_i heq;unfold Ci at he;rw [heq] at he;injection he with he;obtain ⟨fr,h⟩:=Ka hw hk;exact ⟨fr,he.symm.trans h⟩
 ·rename_i heq;unfold Ci at he;rw [heq] at he;injection he with he;obtain ⟨fr,h⟩:=Ka hw hk;exact ⟨fr,he.symm.trans h⟩
 ·rename_i x heq
  cases hx:Pr w.kn x with
  |none=>rw [hx] at hk;cases hk
  |some c=>
   rw [hx] at hk
   injection hk with hk
   obtain ⟨fr,h⟩:=Ka hw hx
   unfold Ci at he;rw [heq] at he
   simp only [h,tY,Ju] at he
   injection he with he
   exact ⟨true,by rw [<-he,<-hk]⟩
 ·rename_i c x y heq
  unfold Ci at he;rw [heq] at he
  split at hk
  ·rename_i hc
   obtain ⟨fr,h⟩:=Ka hw hc
   simp only [h,Zh,if_true] at he
   injection he with he
   obtain ⟨fr,h⟩:=Ka hw hk
   exact ⟨fr,he.symm.trans h⟩
  ·rename_i hc
   obtain ⟨fr,h⟩:=Ka hw hc
   simp only [h,Zh,Bool.false_eq_true,if_false] at he
   injection he with he
   obtain ⟨fr,h⟩:=Ka hw hk
   exact ⟨fr,he.symm.trans h⟩
  ·cases hk
 ·cases hk
theorem oI {w:WS} (hw:w.OK) {o:Oper} {x:Operand} (ho:o.op= .assign x) {b:Bool} (hk:Dp w.kn o=some b) {v:AV} {s:St} (he:evalOp T Γ w.st o=some (v,s)): ∃fr,v= .at (.data fr .bool b):=by
 unfold Dp at hk
 rw [ho] at hk
 obtain ⟨fr,h⟩:=Ka hw hk
 unfold evalOp at he;rw [ho] at he
 simp only [h] at he
 injection he with he;injection he with he;exact ⟨fr,he.symm⟩
theorem du {w:WS} (hw:w.OK) {o:Oper} {K:AV->WS->Prop} (h:qW T Γ w o K):
  ∃v w',Ci T Γ w.st o=some v/\w'.st=w.st/\w'.OK/\(∀b,Dp w'.kn o=some b-> ∃fr,v= .at (.data fr .bool b))/\K v w':=by
 have fin:(∃v w',Ci T Γ w.st o=some v/\w'.st=w.st/\w'.OK/\K v w')-> ∃v w',Ci T Γ w.st o=some v/\w'.st=w.st/\w'.OK/\(∀b,Dp w'.kn o=some b-> ∃fr,v= .at (.data fr .bool b))/\K v w':=by
  rintro ⟨v,w',h1,h2,h3,h4⟩
  exact ⟨v,w',h1,h2,h3,λb hb=>qK h3 hb (by rw [h2];exact h1),h4⟩
 refine fin ?_
 unfold qW at h
 split at h
 ·rename_i c a b heq
  obtain ⟨fr,t,w',h1,h2,h3,h4⟩:=s9 hw h
  cases t with
  |true=>exact ⟨_,w',by unfold Ci;rw [heq];simp only [h1,Zh,if_true];rw [<-h2],h2,h3,h4⟩
  |false=>exact ⟨_,w',by unfold Ci;rw [heq];simp only [h1,Zh];rw [<-h2];simp,h2,h3,h4⟩
 ·rename_i heq
  obtain ⟨v,h1,h2⟩:=xU h
  exact ⟨v,w,by unfold Ci;rw [heq];exact h1,rfl,hw,h2⟩
 ·rename_i heq
  obtain ⟨v,h1,h2⟩:=zS h
  exact ⟨v,w,by unfold Ci;rw [heq];exact h1,rfl,hw,h2⟩
 ·rename_i heq
  split at h
  ·obtain ⟨v,h1,h2⟩:=vC h
   exact ⟨v,w,by unfold Ci;rw [heq];simpa using h1,rfl,hw,h2⟩
  ·cases h
 ·rename_i heq
  obtain ⟨v,h1,h2⟩:=ki h
  exact ⟨v,w,by unfold Ci;rw [heq];exact h1,rfl,hw,h2⟩
 ·rename_i heq
  obtain ⟨v,h1,h2⟩:=uk h
  exact ⟨v,w,by unfold Ci;rw [heq];exact h1,rfl,hw,h2⟩
 ·rename_i heq
  obtain ⟨v,h1,h2⟩:=Xc h
  exact ⟨v,w,by unfold Ci;rw [heq];exact h1,rfl,hw,h2⟩
 ·rename_i heq
  obtain ⟨v,h1,h2⟩:=tQ h
  exact ⟨v,w,by unfold Ci;rw [heq];exact h1,rfl,hw,h2⟩
 ·rename_i heq
  obtain ⟨v,h1,h2⟩:=jZ h
  exact ⟨v,w,by unfold Ci;rw [heq];exact h1,rfl,hw,h2⟩
 ·rename_i x heq
  unfold sN at h
  split at h
  ·rename_i fr τ z hx
   obtain ⟨y,h1,h2⟩:=h
   subst h1
   exact ⟨_,w,by unfold Ci;rw [heq];simp only [hx],rfl,hw,h2⟩
  ·obtain ⟨v,h1,h2⟩:=At.1 h
   exact ⟨v,w,h1,rfl,hw,h2⟩
 ·obtain ⟨v,h1,h2⟩:=At.1 h
  exact ⟨v,w,h1,rfl,hw,h2⟩
theorem vQ {st:St} {t:TypeId} {p v:AV} {K:St->Prop} (h:DS T st t p v K): ∃s,Oi T st t p v=some s/\K s:=by
 unfold DS at h
 split at h
 ·obtain ⟨τ,h1,h⟩:=At.1 h
  obtain ⟨q,h2,h⟩:=At.1 h
  split at h
  ·rename_i hb
   obtain ⟨u,h3,h⟩:=At.1 h
   split at h
   ·rename_i hc
    obtain ⟨h4,h5⟩:=h
    obtain ⟨q1,q2⟩:=q
    obtain ⟨u1,u2⟩:=u
    exact ⟨_,by simp only [Oi,h1,h2,hb,h3];rw [dif_pos hc,if_pos h4],h5⟩
   ·cases h
  ·cases h
 ·exact At.1 h
theorem rC {st:St} {t:TypeId} {p v:AV} {K:St->Prop} (h:vM T st t p v K): ∃s,Kf T st t p v=some s/\K s:=by
 unfold vM at h
 unfold Kf
 split at h
 rotate_left
 ·rename_i hg;rw [hg];exact vQ h
 rename_i hg
 rw [hg]
 simp only
 unfold GK at h
 split at h
 ·obtain ⟨τ,h1,h⟩:=At.1 h
  obtain ⟨q,h2,h⟩:=At.1 h
  split at h
  ·rename_i hb
   obtain ⟨u,h3,h⟩:=At.1 h
   split at h
   ·rename_i hc
    obtain ⟨q1,q2⟩:=q
    obtain ⟨u1,u2⟩:=u
    exact ⟨_,by simp only [Vw,h1,h2,hb,h3];rw [dif_pos hc],h⟩
   ·cases h
  ·cases h
 ·rename_i l j
  obtain ⟨τ,h1,h⟩:=At.1 h
  split at h
  ·rename_i e te rows out kp m off len hl _
   split at h
   ·rename_i fr tr e' tid xs hm
    split at h
    ·rename_i hc
     obtain ⟨h2,h3,h4,h5⟩:=h
     have h4:out=none\/out=some j:=by
      cases out with
      |none=>exact .inl rfl
      |some i=>exact .inr (congrArg some h4)
     exact ⟨_,by simp only [Vw,h1,hl,hm];rw [dif_pos ⟨hc.1,hc.2,h2,h3,h4⟩],h5⟩
    ·cases h
   ·cases h
  ·cases h
 ·cases h
theorem Ry {st:St} {d:Nat} {t:TypeId} {x y:Operand} {K:AV->St->Prop} (h:ie T st d t x y K): ∃v s,Iv T st d t x y=some (v,s)/\K v s:=by
 unfold ie at h
 obtain ⟨te,h1,h⟩:=At.1 h
 obtain ⟨e,h2,h⟩:=At.1 h
 obtain ⟨q,h3,h⟩:=At.1 h
 obtain ⟨u,h4,h⟩:=At.1 h
 obtain ⟨q1,q2⟩:=q
 obtain ⟨u1,u2⟩:=u
 split at h
 ·rename_i hx
  split at h
  ·rename_i hd
   obtain ⟨h5,h6⟩:=h
   refine ⟨_,_,?_,h6⟩
   simp only [Iv,h1,h2,h3,h4]
   rw [hx]
   simp only
   rw [if_pos ⟨h5,by simpa [Nat.blt_eq] using hd⟩]
   simp
  ·cases h
 ·rename_i l off len hx
  split at h
  ·rename_i fr tr e' tid xs hb
   split at h
   ·rename_i hc
    obtain ⟨h5,h6,h7,h8⟩:=h
    refine ⟨_,_,?_,h8⟩
    simp only [Iv,h1,h2,h3,h4]
    rw [hx]
    simp only [hb]
    rw [dif_pos ⟨hc.1,hc.2.1⟩,if_pos ⟨h7,by simpa [Nat.blt_eq] using hc.2.2⟩]
    obtain ⟨SG,hc2,VE⟩:=hc
    subst SG
    subst h5
    simp only [List.drop_zero,h6,List.take_length,List.length_append]
   ·cases h
  ·cases h
 ·cases h
theorem ny {st:St} {d:Nat} {t:TypeId} {x y:Operand} {K:AV->St->Prop} (h:nw T st d t x y K): ∃v s,Lm T st d t x y=some (v,s)/\K v s:=by
 unfold nw at h
 cases x with
 |tmp tx=>
  simp only at h
  unfold Lm
  simp only
  cases hg:st.get tx with
  | «at»c=>
   rw [hg] at h
   cases c with
   |sub l i c=>
    simp only at h⊢
    obtain ⟨tid,h1,h⟩:=At.1 h
    split at h
    ·rename_i hl
     split at h
     ·rename_i hc
      obtain ⟨v,s,h2,h3⟩:=Ry h
      refine ⟨v,s,?_,h3⟩
      simp only [hl,h1]
      rw [if_pos hc]
      exact h2
     ·cases h
    ·cases h
   |_=>exact Ry h
  |_=>rw [hg] at h;exact Ry h
 |_=>exact Ry h
theorem xY {st:St} {d:Nat} {t:TypeId} {l c:AV} {K:AV->St->Prop} (h:NZ T st d t l c K): ∃v s,Vt T st d t l c=some (v,s)/\K v s:=by
 unfold NZ at h
 split at h
 ·obtain ⟨te,h1,h⟩:=At.1 h
  obtain ⟨e,h2,h⟩:=At.1 h
  split at h
  ·rename_i hz
   obtain ⟨h3,h4,h5⟩:=h
   refine ⟨_,_,?_,h5⟩
   simp only [Bool.and_eq_true] at hz
   simp only [Vt,h1,h2]
   rw [if_pos ⟨Nq.2 (by exact_mod_cast h3),h4,hz.1,by simpa [Nat.blt_eq] using hz.2⟩]
   simp
  ·cases h
 ·cases h
theorem uJ {st:St} {d:Nat} {t:TypeId} {l c:AV} {K:AV->St->Prop} (h:BO T st d t l c K): ∃v s,Qr T st d t l c=some (v,s)/\K v s:=by
 unfold BO at h
 unfold Qr
 cases hg:Zl T t with
 |none=>rw [hg] at h;exact xY h
 |some p=>
  obtain ⟨te,e⟩:=p
  rw [hg] at h
  simp only at h⊢
  split at h
  ·split at h
   ·rename_i hd
    obtain ⟨h3,h4,h5⟩:=h
    refine ⟨_,_,?_,h5⟩
    simp only
    rw [if_pos ⟨Nq.2 (by exact_mod_cast h3),h4,by simpa [Nat.blt_eq] using hd⟩]
    simp
   ·cases h
  ·cases h
theorem gi {st:St} {d:Nat} {t:TypeId} {len:Nat} {parts:Array (Nat×Operand)} {K:AV->St->Prop} (h:aC T st d t len parts K): ∃v s,Er T st d t len parts=some (v,s)/\K v s:=by
 unfold aC at h
 unfold Er
 cases hg:Zl T t with
 |none=>
  rw [hg] at h
  obtain ⟨r,h1,h2⟩:=At.1 h
  exact ⟨r.1,r.2,h1,h2⟩
 |some p=>
  obtain ⟨te,e⟩:=p
  rw [hg] at h
  simp only at h⊢
  split at h
  ·rename_i x hp
   split at h
   ·rename_i m off ln hx
    split at h
    ·rename_i hm
     split at h
     ·rename_i hc
      obtain ⟨h1,h2,h3⟩:=h
      refine ⟨_,_,?_,h3⟩
      simp only [hp,hx,hm]
      rw [dif_pos ⟨hc.1,hc.2,h1,h2⟩]
     ·cases h
    ·cases h
   ·cases h
  ·cases h
theorem nA {st:St} {d:Nat} {t:TypeId} {x y:Operand} {K:AV->St->Prop} (h:nz T st d t x y K): ∃v s,Ln T st d t x y=some (v,s)/\K v s:=by
 unfold nz at h
 unfold Ln
 cases hg:Zl T t with
 |none=>rw [hg] at h;exact ny h
 |some p=>
  obtain ⟨te,e⟩:=p
  rw [hg] at h
  simp only at h⊢
  split at h
  ·rename_i l off len m OH oA hx hy
   split at h
   ·rename_i hl hm
    split at h
    ·rename_i hc
     obtain ⟨h1,h2,h3,h4,h5⟩:=h
     obtain ⟨⟨rfl,rfl⟩,hc⟩:=hc
     refine ⟨_,_,?_,h5⟩
     simp only [hx,hy,hl,hm]
     rw [dif_pos (⟨⟨trivial,trivial⟩,hc,h1,h2,h3,h4⟩)]
     simp
    ·cases h
   ·cases h
  ·cases h
theorem vW {st:St} {io:Bool} {k:Nat} {c:CK} {a:AC} {K:c.den->List (Nat×Loc)->Prop} (h:br st io k c a K): ∃x t,Hk st io k c a=some (x,t)/\K x t:=by
 cases c with
 |Dh τ=>
  cases a with
  |own l off len=>
   obtain ⟨p,h1,h2⟩:=At.1 h
   exact ⟨_,_,by simp only [Hk];rw [h1];rfl,h2⟩
  |clo g Bv=>
   simp only [br] at h
   split at h
   ·rename_i hc
    obtain ⟨p,h1,h2⟩:=At.1 h
    exact ⟨_,_,by simp only [Hk];rw [if_pos hc,h1];rfl,h2⟩
   ·cases h
  |Dv l i=>
   simp only [br] at h
   split at h
   ·rename_i hc
    obtain ⟨p,h1,h2⟩:=At.1 h
    exact ⟨_,_,by simp only [Hk];rw [if_pos hc,h1];rfl,h2⟩
   ·cases h
  |sub l i c=>
   obtain ⟨p,h1,h2⟩:=At.1 h
   exact ⟨_,_,by simp only [Hk];rw [h1];rfl,h2⟩
  |_=>
   simp only [br] at h
   split at h
   ·rename_i hc
    obtain ⟨p,h1,h2⟩:=At.1 h
    exact ⟨_,_,by simp only [Hk];rw [if_pos hc,h1];rfl,h2⟩
   ·cases h
 |row e te=>
  cases a<;>simp only [br] at h<;>first|(cases h;done)|skip
  ·exact ⟨_,_,rfl,h⟩
  ·split at h
   ·rename_i hl
    split at h
    ·rename_i hc
     obtain ⟨h1,h2,h3⟩:=h
     exact ⟨_,_,by simp only [Hk,hl];rw [dif_pos ⟨hc.1,hc.2,h1,h2⟩],h3⟩
    ·cases h
   ·cases h
  ·split at h
   ·rename_i hl
    split at h
    ·rename_i hc
     obtain ⟨y,h1,h2⟩:=h
     exact ⟨_,_,by simp only [Hk,hl];rw [dif_pos hc,h1];rfl,h2⟩
    ·cases h
   ·cases h
 |Ds e te=>
  cases a<;>simp only [br] at h<;>first|(cases h;done)|skip
  ·exact ⟨_,_,rfl,h⟩
  ·split at h
   ·rename_i hl
    split at h
    ·rename_i hc
     obtain ⟨h1,h2,h3⟩:=h
     exact ⟨_,_,by simp only [Hk,hl];rw [dif_pos ⟨hc.1,hc.2,h1,h2⟩],h3⟩
    ·cases h
   ·cases h
  ·split at h
   ·rename_i hl
    split at h
    ·rename_i hc
     obtain ⟨y,h1,h2⟩:=h
     exact ⟨_,_,by simp only [Hk,hl];rw [dif_pos hc,h1];rfl,h2⟩
    ·cases h
   ·cases h
 |part e te=>
  cases a<;>simp only [br] at h<;>first|(cases h;done)|skip
  split at h
  ·rename_i hl
   split at h
   ·rename_i hc
    exact ⟨_,_,by simp only [Hk,hl];rw [dif_pos hc],h⟩
   ·cases h
  ·cases h
 |Aj e te kp=>
  cases a<;>simp only [br] at h<;>first|(cases h;done)|skip
  split at h
  ·rename_i hl
   split at h
   ·rename_i hc
    obtain ⟨h1,h2,h3⟩:=h
    exact ⟨_,_,by simp only [Hk,hl];rw [dif_pos ⟨hc.1,hc.2.1,h1,h2,hc.2.2⟩],h3⟩
   ·cases h
  ·cases h
theorem yG {st:St} {e:Ty} {ys:List e.den} {a:AC} {K:St->Prop} (h:OX st e ys a K): ∃s,CQ st e ys a=some s/\K s:=by
 cases a<;>simp only [OX] at h<;>first|(cases h;done)|skip
 split at h
 ·rename_i hl
  split at h
  ·rename_i hc
   obtain ⟨h1,h3⟩:=h
   exact ⟨_,by simp only [CQ,hl];rw [dif_pos ⟨hc,h1⟩],h3⟩
  ·cases h
 ·cases h
theorem fM {st:St} : ∀(cs:List (Bool×CK)) (k:Nat) (as:List AC) (K:Ins.den cs->List (Nat×Loc)->Prop),vX st k cs as K-> ∃x t,bt st k cs as=some (x,t)/\K x t
 | [],_,[],_,h=>⟨_,_,rfl,h⟩
 | [],_,_::_,_,h=>h.elim
 |_::_,_,[],_,h=>h.elim
 |p::r,k,a::as,K,h=>by
  obtain ⟨x,t1,h1,h2⟩:=vW h
  obtain ⟨y,t2,h3,h4⟩:=fM r (k+1) as _ h2
  exact ⟨_,_,by simp only [bt,h1,h3],h4⟩
theorem lM {st:St} {c:CK} {ys:c.den} {a:AC} {K:St->Prop} (h:lL st c ys a K): ∃s,Wy st c ys a=some s/\K s:=by
 cases c with
 |Dh τ=>cases a<;>simp only [lL] at h<;>first|(cases h;done)|exact ⟨_,rfl,h⟩
 |row e te=>
  cases a<;>simp only [lL] at h<;>first|(cases h;done)|skip
  ·exact ⟨_,rfl,h⟩
  ·split at h
   ·rename_i hl
    split at h
    ·rename_i hc
     obtain ⟨h1,h3⟩:=h
     exact ⟨_,by simp only [Wy,hl];rw [dif_pos ⟨hc,h1⟩],h3⟩
    ·cases h
   ·cases h
  ·split at h
   ·rename_i hl
    split at h
    ·rename_i hc
     obtain ⟨y,h1,h2,h3⟩:=h
     exact ⟨_,by simp only [Wy,hl,dif_pos hc,h1];rw [if_pos h2],h3⟩
    ·cases h
   ·cases h
 |Ds e te=>
  cases a<;>simp only [lL] at h<;>first|(cases h;done)|skip
  ·exact ⟨_,rfl,h⟩
  ·split at h
   ·rename_i hl
    split at h
    ·rename_i hc
     obtain ⟨h1,h3⟩:=h
     exact ⟨_,by simp only [Wy,hl];rw [dif_pos ⟨hc,h1⟩],h3⟩
    ·cases h
   ·cases h
  ·split at h
   ·rename_i hl
    split at h
    ·rename_i hc
     obtain ⟨y,h1,h2,h3⟩:=h
     exact ⟨_,by simp only [Wy,hl,dif_pos hc,h1];rw [if_pos h2],h3⟩
    ·cases h
   ·cases h
 |part e te=>cases a<;>simp only [lL] at h<;>first|(cases h;done)|exact ⟨_,rfl,h⟩
 |Aj e te kp=>cases a<;>simp only [lL] at h<;>first|(cases h;done)|exact ⟨_,rfl,h⟩
theorem Kl: ∀(cs:List (Bool×CK)) (o:IOs.den cs) (as:List AC) (st:St) (K:St->Prop),dt cs o as st K-> ∃s,Ef cs o as st=some s/\K s
 | [],_,_,st,K,h=>⟨st,rfl,h⟩
 |(true, .Dh _)::r,o,[],st,K,h=>h.elim
 |(true, .row _ _)::r,o,[],st,K,h=>h.elim
 |(true, .Ds _ _)::r,o,[],st,K,h=>h.elim
 |(true, .part _ _)::r,o,[],st,K,h=>h.elim
 |(true, .Aj _ _ _)::r,o,[],st,K,h=>h.elim
 |(true, .Aj _ _ _)::r,o,a::as,st,K,h=>by
  obtain ⟨s,h1,h2⟩:=Kl r o as st K h
  exact ⟨s,by simp only [Ef];exact h1,h2⟩
 |(false,_)::r,o,[],st,K,h=>h.elim
 |(true, .Dh _)::r,o,a::as,st,K,h=>by
  obtain ⟨s,h1,h2⟩:=Kl r o as st K h
  exact ⟨s,by simp only [Ef];exact h1,h2⟩
 |(false,_)::r,o,a::as,st,K,h=>by
  obtain ⟨s,h1,h2⟩:=Kl r o as st K h
  exact ⟨s,by simp only [Ef];exact h1,h2⟩
 |(true, .row _ _)::r,o,a::as,st,K,h=>by
  obtain ⟨s1,h1,h2⟩:=lM h
  obtain ⟨s,h3,h4⟩:=Kl r o.2 as s1 K h2
  exact ⟨s,by simp only [Ef,h1];exact h3,h4⟩
 |(true, .part _ _)::r,o,a::as,st,K,h=>by
  obtain ⟨s1,h1,h2⟩:=yG h
  obtain ⟨s,h3,h4⟩:=Kl r o.2 as s1 K h2
  exact ⟨s,by simp only [Ef,h1];exact h3,h4⟩
 |(true, .Ds _ _)::r,o,a::as,st,K,h=>by
  obtain ⟨s1,h1,h2⟩:=lM h
  obtain ⟨s,h3,h4⟩:=Kl r o.2 as s1 K h2
  exact ⟨s,by simp only [Ef,h1];exact h3,h4⟩
theorem lU {H:List (Nat×OB)} {ls:List Nat} {n:Nat} {K:Prop} : ∀(l:List AV),pN H ls n l K->Yw H ls n l=true/\K
 | [],h=>⟨rfl,h⟩
 |a::r,h=>by
  have go:pN H ls n r K->Yw H ls n r=true/\K:=lU r
  cases a with
  | «at»c=>
   cases c with
   |sub l i c=>
    simp only [pN] at h
    simp only [Yw]
    split at h
    ·rename_i hc
     obtain ⟨⟨h1,h2⟩,h3⟩:=h
     obtain ⟨g1,g2⟩:=go h3
     exact ⟨by simp only [hc,g1,Bool.and_true,Bool.not_true,Bool.false_or,Bool.and_eq_true,Nat.blt_eq];exact ⟨h1,h2⟩,g2⟩
    ·rename_i hc
     obtain ⟨g1,g2⟩:=go h
     exact ⟨by simp only [hc,g1,Bool.not_false,Bool.true_or,Bool.and_true],g2⟩
   |_=>exact go h
  |_=>exact go h
theorem tP {st:St} {d:Option Nat} {s:MSpec} {args:List AV} {K:AV->St->Prop} (h:zU st d s args K): ∃v s',Qp st d s args=some (v,s')/\K v s':=by
 unfold zU at h
 obtain ⟨⟨pl,cells,rest⟩,h0,h⟩:=At.1 h
 obtain ⟨as,h1,h⟩:=At.1 h
 obtain ⟨x,tks,h2,h⟩:=fM s.ins 0 (cells++as) _ h
 split at h
 ·rename_i hc
  obtain ⟨⟨r,o⟩,h3,h⟩:=h
  obtain ⟨st1,h4,h⟩:=Kl s.ins o (cells++as) st _ h
  obtain ⟨v,h5,h6⟩:=At.1 h
  obtain ⟨h7,h6⟩:=lU _ h6
  refine ⟨v,_,?_,h6⟩
  unfold Qp
  simp only [h0,h1,h2]
  rw [if_pos hc]
  simp only [h3,h4,h5]
  rw [if_pos h7]
 ·cases h
theorem IG {w:WS} (hw:w.OK) {o:Oper} {K:AV->WS->Prop} (h:WL T Γ w o K):
  ∃v w',evalOp T Γ w.st o=some (v,w'.st)/\w'.OK/\(∀b,Dp w'.kn o=some b-> ∃fr,v= .at (.data fr .bool b))/\K v w':=by
 have fin: ∀v s,(∀b,Dp w.kn o=some b-> ∃fr,v= .at (.data fr .bool b))->evalOp T Γ w.st o=some (v,s)->K v (w.to s)-> ∃v w',evalOp T Γ w.st o=some (v,w'.st)/\w'.OK/\(∀b,Dp w'.kn o=some b-> ∃fr,v= .at (.data fr .bool b))/\K v w':=
  fun v s hk h1 h2=>⟨v,w.to s,h1,hw.to (iB h1),hk,h2⟩
 have u6:(∀b v s,Dp w.kn o=some b->evalOp T Γ w.st o=some (v,s)-> ∃fr,v= .at (.data fr .bool b))->Ec (evalOp T Γ w.st o) (λr=>K r.1 (w.to r.2))-> ∃v w',evalOp T Γ w.st o=some (v,w'.st)/\w'.OK/\(∀b,Dp w'.kn o=some b-> ∃fr,v= .at (.data fr .bool b))/\K v w':=by
  intro hk h
  obtain ⟨r,h1,h2⟩:=At.1 h
  exact fin r.1 r.2 (λb hb=>hk b _ _ hb h1) h1 h2
 unfold WL at h
 split at h
 ·rename_i heq
  obtain ⟨s,h1,h2⟩:=rC h
  refine fin _ _ (λb hb=>by unfold Dp at hb;rw [heq] at hb;cases hb) ?_ h2
  unfold evalOp;rw [heq];simp only [h1];rfl
 ·rename_i heq
  obtain ⟨d,h1,h⟩:=At.1 h
  obtain ⟨v,s,h2,h3⟩:=uJ h
  refine fin _ _ (λb hb=>by unfold Dp at hb;rw [heq] at hb;cases hb) ?_ h3
  unfold evalOp;rw [heq];simp only [h1,h2]
 ·rename_i heq
  split at h
  ·rename_i hd ha ht
   split at h
   ·rename_i Pc
    obtain ⟨v,s,h2,h3⟩:=nA h
    refine fin _ _ (λb hb=>by unfold Dp at hb;rw [heq] at hb;cases hb) ?_ h3
    unfold evalOp;rw [heq];simp only [hd,ha,ht,if_pos Pc,h2]
   ·cases h
  ·cases h
 ·rename_i heq;exact u6 (λb v s hb he=>oI hw heq hb he) h
 ·rename_i heq;exact u6 (λb v s hb he=>by unfold Dp at hb;rw [heq] at hb;cases hb) h
 ·rename_i heq;exact u6 (λb v s hb he=>by unfold Dp at hb;rw [heq] at hb;cases hb) h
 ·rename_i heq
  obtain ⟨d,h1,h⟩:=At.1 h
  obtain ⟨v,s,h2,h3⟩:=gi h
  refine fin _ _ (λb hb=>by unfold Dp at hb;rw [heq] at hb;cases hb) ?_ h3
  unfold evalOp;rw [heq];simp only [h1,h2]
 ·rename_i heq;exact u6 (λb v s hb he=>by unfold Dp at hb;rw [heq] at hb;cases hb) h
 ·rename_i heq;exact u6 (λb v s hb he=>by unfold Dp at hb;rw [heq] at hb;cases hb) h
 ·rename_i heq;exact u6 (λb v s hb he=>by unfold Dp at hb;rw [heq] at hb;cases hb) h
 ·rename_i heq;exact u6 (λb v s hb he=>by unfold Dp at hb;rw [heq] at hb;cases hb) h
 ·rename_i heq;exact u6 (λb v s hb he=>by unfold Dp at hb;rw [heq] at hb;cases hb) h
 ·rename_i heq;exact u6 (λb v s hb he=>by unfold Dp at hb;rw [heq] at hb;cases hb) h
 ·
  rename_i f _ _ heq
  split at h
  ·rename_i Mq
   obtain ⟨v,s',h1,h2⟩:=tP h
   refine fin v s' (λb hb=>by unfold Dp at hb;rw [heq] at hb;cases hb) ?_ h2
   unfold evalOp;rw [heq];simp only [Mq];exact h1
  ·rename_i s Mq
   split at h
   ·rename_i FR
    obtain ⟨st1,hs,h⟩:=At.1 h
    obtain ⟨v,w',h1,h2,h3,SA,h4⟩:=du (hw.to (Tm _ hs)) h
    refine ⟨v,w',?_,h3,SA,h4⟩
    have h1:Ci T Γ st1 o=some v:=h1
    have h2:w'.st=st1:=h2
    unfold evalOp
    rw [heq]
    simp only [Mq,FR,hs,h1,h2]
    rfl
   ·rename_i FR
    obtain ⟨v,w',h1,h2,h3,SA,h4⟩:=du hw h
    refine ⟨v,w',?_,h3,SA,h4⟩
    unfold evalOp
    rw [heq]
    simp only [Mq,FR,h1,h2]
    rfl
  ·rename_i Anb Acs
   obtain ⟨v,w',h1,h2,h3,SA,h4⟩:=du hw h
   refine ⟨v,w',?_,h3,SA,h4⟩
   unfold evalOp
   rw [heq]
   simp only
   rw [h1,h2];rfl
 ·rename_i n1 n2 n3 n4 n5 n6 n7 n8 n9 n10 n11 ZT n13 n14
  obtain ⟨v,w',h1,h2,h3,SA,h4⟩:=du hw h
  refine ⟨v,w',?_,h3,SA,h4⟩
  unfold evalOp
  split
  all_goals first
   |(rw [h1,h2];rfl)
   |(rename_i hq;exact absurd hq (by first|exact n1 _|exact n2 _|exact n3 _|exact n4 _|exact n5 _|exact n6 _|exact n7 _|exact n8 _|exact n9 _|exact n10 _|exact n11 _|exact ZT _|exact n13 _|exact n14 _))
   |(rename_i hq;exact absurd hq (by first|exact n1 _ _|exact n2 _ _|exact n3 _ _|exact n4 _ _|exact n5 _ _|exact n6 _ _|exact n7 _ _|exact n8 _ _|exact n9 _ _|exact n10 _ _|exact n11 _ _|exact ZT _ _|exact n13 _ _|exact n14 _ _))
   |(rename_i hq;exact absurd hq (by first|exact n1 _ _ _|exact n2 _ _ _|exact n3 _ _ _|exact n4 _ _ _|exact n5 _ _ _|exact n6 _ _ _|exact n7 _ _ _|exact n8 _ _ _|exact n9 _ _ _|exact n10 _ _ _|exact n11 _ _ _|exact ZT _ _ _|exact n13 _ _ _|exact n14 _ _ _))
   |(rename_i hq;exact absurd hq (by first|exact n1 _ _ _ _|exact n2 _ _ _ _|exact n3 _ _ _ _|exact n4 _ _ _ _|exact n5 _ _ _ _|exact n6 _ _ _ _|exact n7 _ _ _ _|exact n8 _ _ _ _|exact n9 _ _ _ _|exact n10 _ _ _ _|exact n11 _ _ _ _|exact ZT _ _ _ _|exact n13 _ _ _ _|exact n14 _ _ _ _))
theorem ua (st:St) (d:Nat) (v:AV):(st.put (some d) v).get d=v\/(st.put (some d) v).get d= .undef:=by
 simp only [St.put,St.get]
 rw [Vj]
 by_cases h:d<st.tmps.length
 ·exact .inl (by rw [if_pos ⟨rfl,h⟩])
 ·refine .inr ?_
  rw [if_neg (λhc=>h hc.2),List.getD_eq_getElem?_getD,List.getElem?_eq_none (by omega)]
  rfl
theorem WS.OK.qZ {w:WS} (hw:w.OK) (o:Oper) (v:AV) (h: ∀b,Dp w.kn o=some b-> ∃fr,v= .at (.data fr .bool b)):(w.qZ o v).OK/\(w.qZ o v).st=w.st.put o.dst v:=by
 unfold WS.qZ
 split
 ·rename_i d b hd hk
  split
  ·rename_i fr c hg
   refine ⟨?_,by rw [hd]⟩
   obtain ⟨Pk,hv⟩:=h b hk
   intro t b' hb
   simp only [qE] at hb
   split at hb
   ·rename_i ht
    injection hb with hb
    subst ht;subst hb
    refine ⟨Pk,?_⟩
    show (w.st.put (some d) v).get d=_
    cases ua w.st d v with
    |inl h1=>rw [h1,hv]
    |inr h1=>rw [h1] at hg;cases hg
   ·exact hw.put (some d) v t b' hb
  ·exact ⟨hw.put _ _,by rw [WS.oV,hd]⟩
 ·exact ⟨hw.put _ _,WS.oV _ _ _⟩
theorem lT {ops:Array Oper} {w:WS} (hw:w.OK) {o:Oper} {run:(AV->WS->Prop)->WS->Prop} {R:St->Option (AV×St)} {K:WS->Prop}
  (hr: ∀(k:AV->WS->Prop) (w:WS),w.OK->run k w-> ∃v w',R w.st=some (v,w'.st)/\w'.OK/\(∀b,Dp w'.kn o=some b-> ∃fr,v= .at (.data fr .bool b))/\k v w') (h:fJ ops w o run K):
  ∃w',(match o.guard with
   |none=>(R w.st).map λr=>r.2.put o.dst r.1
   |some (j,want)=>match Qj w.st ((ops[j]?).bind (·.dst)) with
    |some (some b)=>if b==want then (R w.st).map λr=>r.2.put o.dst r.1 else some (w.st.put o.dst (.at .skip))
    |some none=>some (w.st.put o.dst (.at .skip))
    |none=>none)=some w'.st/\w'.OK/\K w':=by
 have go: ∀w:WS,w.OK->run (λv w'=>K (w'.qZ o v)) w-> ∃w',((R w.st).map λr=>r.2.put o.dst r.1)=some w'.st/\w'.OK/\K w':=by
  intro w hw h
  obtain ⟨v,w',h1,h2,h3,h4⟩:=hr _ _ hw h
  obtain ⟨h5,h6⟩:=h2.qZ o v h3
  exact ⟨w'.qZ o v,by rw [h1,h6];rfl,h5,h4⟩
 unfold fJ at h
 split at h
 ·rename_i hg
  rw [hg]
  exact go w hw h
 ·rename_i j want hg
  rw [hg]
  obtain ⟨t,h1,h⟩:=At.1 h
  simp only [h1]
  split at h
  ·rename_i hs
   have hsk:w.st.get t= .at .skip:=by
    unfold AV.NP at hs
    split at hs
    ·assumption
    ·cases hs
   exact ⟨_,by simp only [Qj,hsk];rw [WS.oV],hw.put _ _,h⟩
  ·obtain ⟨fr,b,w',h2,h3,h4,h5⟩:=sa hw h
   have hb:Qj w.st (some t)=some (some b):=by simp only [Qj,h2]
   rw [hb]
   simp only
   cases b with
   |true=>
    cases want with
    |true=>rw [if_pos (by decide),<-h3];exact go w' h4 h5
    |false=>exact ⟨_,by rw [if_neg (by decide),<-h3,WS.oV],h4.put _ _,h5⟩
   |false=>
    cases want with
    |false=>rw [if_pos (by decide),<-h3];exact go w' h4 h5
    |true=>exact ⟨_,by rw [if_neg (by decide),<-h3,WS.oV],h4.put _ _,h5⟩
theorem dL {ops:Array Oper} {w:WS} (hw:w.OK) {o:Oper} {K:WS->Prop} (h:fJ ops w o (λk w'=>WL T Γ w' o k) K): ∃w',Cj T Γ ops w.st o=some w'.st/\w'.OK/\K w':=by
 obtain ⟨w',h1,h2⟩:=lT hw (R:= λst=>evalOp T Γ st o) (λk w hw h=>by
  obtain ⟨v,w',h1,h2,UW,h3⟩:=IG hw h
  exact ⟨v,w',h1,h2,UW,h3⟩) h
 exact ⟨w',h1,h2⟩
theorem LY {w:WS} (hw:w.OK) {o:Oper} {K:AV->WS->Prop} (h:bW T Γ w o K):
  ∃v w',Sm T Γ w.st o=some v/\w'.st=w.st/\w'.OK/\(∀b,Dp w'.kn o=some b-> ∃fr,v= .at (.data fr .bool b))/\K v w':=by
 unfold bW at h
 split at h
 ·rename_i t len parts mX
  obtain ⟨v,h1,h2⟩:=At.1 h
  exact ⟨v,w,by unfold Sm;rw [mX];exact h1,rfl,hw,λb hb=>by simp [Dp,mX] at hb,h2⟩
 ·rename_i t parts mX
  obtain ⟨v,h1,h2⟩:=At.1 h
  exact ⟨v,w,by unfold Sm;rw [mX];exact h1,rfl,hw,λb hb=>by simp [Dp,mX] at hb,h2⟩
 ·rename_i n1 n2
  obtain ⟨v,w',h1,h2⟩:=du hw h
  refine ⟨v,w',?_,h2⟩
  rw [<-h1]
  unfold Sm
  split
  ·rename_i h9;exact absurd h9 (n1 _ _ _)
  ·rename_i h9;exact absurd h9 (n2 _ _)
  ·rfl
theorem TR {ops:Array Oper} {w:WS} (hw:w.OK) {o:Oper} {K:WS->Prop} (h:fJ ops w o (λk w'=>bW T Γ w' o k) K): ∃v w',cd T Γ ops w.st o=some v/\w'.st=w.st.put o.dst v/\w'.OK/\K w':=by
 obtain ⟨w',h1,h2,h3⟩:=lT hw (R:= λst=>(Sm T Γ st o).map λv=>(v,st)) (λk w hw h=>by
  obtain ⟨v,w',h1,h2,h3,SA,h4⟩:=LY hw h
  exact ⟨v,w',by simp only [h1,h2];rfl,h3,SA,h4⟩) h
 have key: ∀u:Option AV,((u.map λv=>(v,w.st)).map λr=>r.2.put o.dst r.1)=some w'.st-> ∃v,u=some v/\w'.st=w.st.put o.dst v:=by
  intro u hu
  cases u with
  |none=>cases hu
  |some v=>injection hu with hu;exact ⟨v,rfl,hu.symm⟩
 unfold cd
 split at h1
 ·rename_i hg
  obtain ⟨v,h4,h5⟩:=key _ h1
  exact ⟨v,w',by rw [hg];exact h4,h5,h2,h3⟩
 ·rename_i j want hg
  rw [hg]
  split at h1
  ·rename_i b hb
   simp only [hb]
   split at h1
   ·rename_i MJ
    obtain ⟨v,h4,h5⟩:=key _ h1
    exact ⟨v,w',by rw [if_pos MJ];exact h4,h5,h2,h3⟩
   ·rename_i MJ
    injection h1 with h1
    exact ⟨_,w',by rw [if_neg MJ],h1.symm,h2,h3⟩
  ·rename_i hb
   simp only [hb]
   injection h1 with h1
   exact ⟨_,w',rfl,h1.symm,h2,h3⟩
  ·cases h1
theorem oJ {ops:Array Oper} : ∀(l:List Oper) {w:WS} (_:w.OK) {K:WS->Prop},ZZ T Γ ops l w K-> ∃w',Ui T Γ ops l w.st=some w'.st/\w'.OK/\K w'
 | [],w,hw,K,h=>⟨w,rfl,hw,h⟩
 |o::r,w,hw,K,h=>by
  obtain ⟨w1,h1,h2,h3⟩:=dL hw h
  obtain ⟨w2,h4,h5⟩:=oJ r h2 h3
  exact ⟨w2,by simp only [Ui];rw [h1];exact h4,h5⟩
theorem aN {ops:Array Oper} : ∀(l:List Nat) {w:WS} (_:w.OK) {K:WS->Prop},NH T Γ ops l w K-> ∃w',Jf T Γ ops l w.st=some w'.st/\w'.OK/\K w'
 | [],w,hw,K,h=>⟨w,rfl,hw,h⟩
 |i::r,w,hw,K,h=>by
  obtain ⟨o,h0,h⟩:=At.1 h
  obtain ⟨w1,h1,h2,h3⟩:=dL hw h
  obtain ⟨w2,h4,h5⟩:=aN r h2 h3
  exact ⟨w2,by simp only [Jf];rw [h0];simp only [h1];exact h4,h5⟩
theorem Sr {ops:Array Oper} : ∀(l:List Nat) {w:WS} (_:w.OK) {K:WS->Prop},sq T Γ ops l w K-> ∃w',Ed T Γ ops l w.st=some w'.st/\w'.OK/\K w'
 | [],w,hw,K,h=>⟨w,rfl,hw,h⟩
 |i::r,w,hw,K,h=>by
  obtain ⟨o,h0,h⟩:=At.1 h
  obtain ⟨v,w1,h1,h1',h2,h3⟩:=TR hw h
  obtain ⟨w2,h4,h5⟩:=Sr r h2 h3
  exact ⟨w2,by simp only [Ed];rw [h0];simp only [h1];rw [<-h1'];exact h4,h5⟩
theorem nu {P:Nat->Prop} : ∀(l:List Nat),RS l P-> ∀i∈l,P i
 | [],_,i,hi=>by cases hi
 | [k],h,i,hi=>by rw [List.mem_singleton.1 hi];exact h
 |k::j::r,h,i,hi=>by
  rcases List.mem_cons.1 hi with rfl|hi
  ·exact h.1
  ·exact nu (j::r) h.2 i hi
theorem gg {ops:Array Oper} {K:WS->Prop} : ∀(f:Nat) (Ac:Array Bool) {w:WS} (_:w.OK),GU T Γ ops f Ac w K->anyS T Γ ops (λs=> ∃w':WS,w'.st=s/\w'.OK/\K w') f Ac w.st
 |0,Ac,w,hw,h=>by
  unfold GU at h
  split at h
  ·rename_i hr;exact ⟨hr,w,rfl,hw,h⟩
  ·cases h
 |f+1,Ac,w,hw,h=>by
  unfold GU at h
  split at h
  ·cases h
  ·rename_i i r hr
   refine ⟨by rw [hr];simp,λk hk=>?_⟩
   rw [hr] at hk
   obtain ⟨o,h0,h1⟩:=At.1 (nu _ h k hk)
   obtain ⟨w1,h2,h3,h4⟩:=dL hw h1
   exact ⟨o,w1.st,h0,h2,gg f _ h3 h4⟩
theorem aI {ops:Array Oper} {K:WS->Prop} : ∀(f:Nat) (Ac:Array Bool) {w:WS} (_:w.OK),k8 T Γ ops f Ac w K-> ∃w':WS,w'.OK/\K w'
 |0,Ac,w,hw,h=>by
  simp only [k8] at h
  split at h
  ·exact ⟨w,hw,h⟩
  ·exact h.elim
 |f+1,Ac,w,hw,h=>by
  simp only [k8] at h
  split at h
  ·exact h.elim
  ·obtain ⟨o,ho,h1⟩:=At.1 h
   obtain ⟨w',h2,h3,h4⟩:=dL hw h1
   exact aI f _ h3 h4
theorem lb {P:List (Nat×Nat×AV×OB)} {ops:Array Oper} {K:WS->Prop} : ∀(f:Nat) (Ac:Array Bool) {w:WS} (_:w.OK),wK T Γ P ops f Ac w K->XD T Γ ops P (λs=> ∃w':WS,w'.st=s/\w'.OK/\K w') f Ac w.st
 |0,Ac,w,hw,h=>by
  unfold wK at h
  split at h
  ·rename_i hr;exact ⟨hr,w,rfl,hw,h⟩
  ·cases h
 |f+1,Ac,w,hw,h=>by
  unfold wK at h
  split at h
  ·cases h
  ·rename_i i r hr
   refine ⟨by rw [hr];simp,λk hk=>?_⟩
   rw [hr] at hk
   obtain ⟨o,h0,h1⟩:=At.1 (nu _ h k hk)
   split at h1
   ·rename_i eS
    obtain ⟨w1,h2,h3,h4⟩:=dL hw h1
    exact ⟨o,w1.st,h0,eS,h2,lb f _ h3 h4⟩
   ·cases h1
theorem yi {α:Type} (f:α->Nat) {l:List α} (h:To (l.map f)=true):l.Pairwise λa c=>f a≠f c:=List.pairwise_map.1 (Ra h)
theorem qj {ops:Array Oper} {L0:Array Bool} {n:Nat} {w:WS} (hw:w.OK) {K:WS->Prop} (hc:Uc ops L0) (h:tN T Γ (Sl T ops L0) n L0 ops w K):anyS T Γ ops (λs=> ∃w':WS,w'.st=s/\w'.OK/\K w') n L0 w.st:=by
 unfold tN at h
 split at h
 ·rename_i hb
  simp only [Bool.and_eq_true] at hb
  obtain ⟨⟨b1,b2⟩,b3,b4,b5⟩:=hb
  have hm: ∀a∈Sl T ops L0,a.1∈Region.ready .any ops L0/\ ∃o,ops[a.1]?=some o/\az T o=some a.2:= λa ha=>tH ha
  have p1:=yi (λa:Nat×Nat×AV×OB=>a.1) b1
  have p2:=yi (λa:Nat×Nat×AV×OB=>a.2.1) b2
  have hlen:(Sl T ops L0).length<=n:=Nat.le_of_ble_eq_true b4
  obtain ⟨w1,h1,h2,h3⟩:=aN _ hw h
  have h3:=aL.1 h3
  obtain ⟨w0,g1,g2⟩:=aI _ _ h2 h3
  obtain ⟨g3,g4⟩:=aL.1 g2
  have hp:=yE (Γ:=Γ) _ w.st w1.st (λa ha=>(hm a ha).2) (λa ha=>oG (List.all_eq_true.1 b3 a ha)) p2 h1
  refine dZ (λs hs=>?_) _ _ _ (GS (λa ha=>(hm a ha).2) n (n-(Sl T ops L0).length) (Sl T ops L0) _ L0 w1.st w.st (by omega) (lb _ _ h2 g4) hp
   (RU (ops:=ops) λi hi=>by obtain ⟨a,ha,rfl⟩:=List.mem_map.1 hi;exact (hm a ha).1) (λa ha=>ha) (p2.and p1) hc λa ha x hx=>dw (hm a ha).1 hx)
  obtain ⟨w',h5,_,h6⟩:=hs
  exact ⟨w0,((h5.symm.trans (si h6)).symm),g1,g3⟩
 ·cases h
theorem r6 {ops:Array Oper} {draw:Bool} {w:WS} (hw:w.OK) {K:WS->Prop} (h:vg T Γ ops draw w K):tC T Γ ops draw w.st (λs=> ∃w':WS,w'.st=s/\w'.OK/\K w'):=by
 unfold vg at h
 split at h
 ·split at h
  ·rename_i ho
   obtain ⟨w1,h1,h2,h3⟩:=Sr _ hw h
   obtain ⟨w2,h4,h5⟩:=aN _ h2 h3
   exact .inl ⟨w2.st,by simp only [Lo,if_true];rw [if_pos ho,h1];exact h4,w2,rfl,h5⟩
  ·rename_i ho
   split at h
   ·rename_i ho2
    obtain ⟨w1,h1,h2,h3⟩:=Sr _ hw h
    obtain ⟨w2,h4,h5⟩:=aN _ h2 h3
    exact .inl ⟨w2.st,by simp only [Lo,if_true];rw [if_neg (by rw [ho];decide),if_pos ho2,h1];exact h4,w2,rfl,h5⟩
   ·split at h
    ·rename_i hc
     simp only [Bool.and_eq_true] at hc
     obtain ⟨w1,h1,h2,h3⟩:=Sr _ hw h
     split at h3
     ·exact .inr ⟨rfl,hc.1,w1.st,h1,gg _ _ h2 h3⟩
     ·obtain ⟨w0,g1,g2⟩:=aI _ _ h2 h3
      obtain ⟨g3,g4⟩:=aL.1 g2
      exact .inr ⟨rfl,hc.1,w1.st,h1,dZ (λs hs=>by
       obtain ⟨w',h5,_,h6⟩:=hs
       exact ⟨w0,((h5.symm.trans (si h6)).symm),g1,g3⟩) _ _ _ (gg _ _ h2 g4)⟩
    ·split at h
     ·rename_i FR
      obtain ⟨w1,h1,h2,h3⟩:=Sr _ hw h
      exact .inr ⟨rfl,FR,w1.st,h1,qj h2 (aG _ _ _ wY) h3⟩
     ·cases h
 ·obtain ⟨w1,h1,h2⟩:=oJ _ hw h
  exact .inl ⟨w1.st,by simp only [Lo];rw [if_neg (by simp)];exact h1,w1,rfl,h2⟩
end
end Go.Proofs.YtfolipnappekaaaGreat
