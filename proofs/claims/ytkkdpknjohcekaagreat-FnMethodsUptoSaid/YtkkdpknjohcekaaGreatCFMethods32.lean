/-
  Part 33 of the proof that the statement FnMethods holds.
-/
import Derived.Test.YtkkdpknjohcekaaGreatCFMethods31
namespace Go.Proofs.YtkkdpknjohcekaaGreat
open Go.RowKit
section
variable {T:Tab} {Γ:Env}
def WS.OK (w:WS):Prop:= ∀t b,oa w.kn t=some b-> ∃fr,w.st.get t= .at (.data fr .bool b)
theorem mw: ∀(l:List (Nat×Bool)) (d t:Nat) (b:Bool),oa (xV l d) t=some b->t≠d/\oa l t=some b
 | [],_,_,_,h=>by cases h
 |(k,c)::r,d,t,b,h=>by
  simp only [xV] at h
  split at h
  ·rename_i hk
   have:=mw r d t b h
   refine ⟨this.1,?_⟩
   simp only [oa]
   rw [Ai (by rw [hk];exact λh=>this.1 h.symm)]
   exact this.2
  ·rename_i hk
   simp only [oa] at h⊢
   split at h
   ·rename_i hkt
    exact ⟨by rw [<-hkt];exact hk,by rw [Ab hkt];exact h⟩
   ·rename_i hkt
    rw [Ai hkt]
    exact mw r d t b h
theorem WS.OK.put {w:WS} (h:w.OK) (dst:Option Tmp) (v:AV):(w.put dst v).OK:=by
 cases dst with
 |none=>exact h
 |some d=>
  intro t b hb
  obtain ⟨h1,h2⟩:=mw _ _ _ _ hb
  obtain ⟨fr,h3⟩:=h t b h2
  exact ⟨fr,by show (w.st.put (some d) v).get t=_;rw [c8 _ _ h1];exact h3⟩
theorem WS.uL (w:WS) (dst:Option Tmp) (v:AV):(w.put dst v).st=w.st.put dst v:=by cases dst<;>rfl
theorem WS.OK.to {w:WS} (h:w.OK) {s:St} (hs:Cp w.st s):(w.to s).OK:=by
 intro t b hb
 obtain ⟨fr,h3⟩:=h t b hb
 exact ⟨fr,hs t fr _ _ h3⟩
theorem xw {w:WS} (hw:w.OK) {t:Nat} {K:Bool->WS->Prop} (h:brT w t K):
  ∃fr b w',w.st.get t= .at (.data fr .bool b)/\w'.st=w.st/\w'.OK/\K b w':=by
 unfold brT at h
 split at h
 ·rename_i b hb
  obtain ⟨fr,h1⟩:=hw t b hb
  exact ⟨fr,b,w,h1,rfl,hw,h⟩
 ·split at h
  ·rename_i fr b hb
   obtain ⟨h1,h2⟩:=h
   have ok: ∀c:Bool,b=c->WS.OK {kn:=(t,c)::w.kn,st:=w.st} :=by
    intro c hc t' b' h'
    simp only [oa] at h'
    split at h'
    ·rename_i ht
     injection h' with h'
     exact ⟨fr,by rw [<-ht,<-h',<-hc];exact hb⟩
    ·exact hw t' b' h'
   cases b with
   |true=>exact ⟨fr,true, {kn:=(t,true)::w.kn,st:=w.st},hb,rfl,ok true rfl,h1 rfl⟩
   |false=>exact ⟨fr,false, {kn:=(t,false)::w.kn,st:=w.st},hb,rfl,ok false rfl,h2 rfl⟩
  ·cases h
theorem xu {w:WS} (hw:w.OK) {c:Operand} {K:Bool->WS->Prop} (h:brO w c K):
  ∃fr b w',w.st.ev c= .at (.data fr .bool b)/\w'.st=w.st/\w'.OK/\K b w':=by
 unfold brO at h
 split at h
 ·exact xw hw h
 ·exact ⟨true,_,w,rfl,rfl,hw,h⟩
 ·cases h
theorem KZ {op:BinOp} {t:TypeId} {x y:AV} {K:AV->Prop} (h:Aix T op t x y K): ∃v,Uk T op t x y=some v/\K v:=by
 unfold Aix at h
 split at h
 ·split at h
  ·rename_i hk
   exact ⟨_,by simp only [Uk,evalBin,tX];rw [Ab hk,Ai h.1];rfl,h.2⟩
  ·cases h
 ·split at h
  ·rename_i hk
   exact ⟨_,by simp only [Uk,evalBin,tX];rw [Ab hk,Ai h.1];rfl,h.2⟩
  ·cases h
 ·exact ⟨_,by simp only [Uk,evalBin];rw [Ai h.1];rfl,h.2⟩
 ·exact ⟨_,by simp only [Uk,evalBin];rw [Ai h.1];rfl,h.2⟩
 ·exact ⟨_,by simp only [Uk,evalBin];rw [Ab h.1],h.2⟩
 ·exact Cd.1 h
theorem GQ {st:St} {t:TypeId} {p:AV} {K:AV->Prop} (h:Ab2 T st t p K): ∃v,Qx T st t p=some v/\K v:=by
 unfold Ab2 at h
 split at h
 ·obtain ⟨τ,h1,h2⟩:=Cd.1 h
  split at h2
  ·rename_i hb
   split at h2
   ·rename_i he
    obtain ⟨x,h3,h4⟩:=h2
    exact ⟨_,by simp only [Qx,h1,hb,Ab he,h3];rfl,h4⟩
   ·cases h2
  ·rename_i hb
   split at h2
   ·rename_i he
    obtain ⟨x,h3,h4⟩:=h2
    exact ⟨_,by simp only [Qx,h1,hb,Ab he,h3];rfl,h4⟩
   ·cases h2
  ·rename_i hb
   split at h2
   ·cases h2
   ·rename_i he
    exact ⟨_,by simp only [Qx,h1,hb,Ai he],h2⟩
  ·cases h2
 ·obtain ⟨τ,h1,h2⟩:=Cd.1 h
  split at h2
  ·rename_i he
   obtain ⟨y,h3,h4⟩:=h2
   subst h3
   exact ⟨_,by simp only [Qx,h1,Ab he],h4⟩
  ·cases h2
 ·exact Cd.1 h
theorem pB {s:TypeId} {x:AV} {f:Nat} {K:AV->Prop} (h:me T s x f K): ∃v,Pd T s x f=some v/\K v:=by
 unfold me at h
 split at h
 ·obtain ⟨y,h1,h2⟩:=h
  subst h1
  obtain ⟨v,h3,h4⟩:=Cd.1 h2
  refine ⟨v,?_,h4⟩
  rw [<-h3]
  unfold Pd
  cases T.off s f<;>rfl
 ·exact Cd.1 h
theorem BX {st:St} {t:TypeId} {x:AV} {lo hi:Option AV} {K:AV->Prop} (h:OT T st t x lo hi K): ∃v,ek T st t x lo hi=some v/\K v:=by
 unfold OT at h
 obtain ⟨n,h1,h⟩:=Cd.1 h
 obtain ⟨l,h2,h⟩:=Cd.1 h
 obtain ⟨hh,h3,hc,h⟩:=Cd.1 h
 obtain ⟨v,h4,h5⟩:=Cd.1 h
 refine ⟨v,?_,h5⟩
 simp only [ek,h1,h2,h3,Ab hc]
 exact h4
theorem pI {st:St} {t:TypeId} {x i:AV} {K:AV->Prop} (h:mq T st t x i K): ∃v,Lp T st t x i=some v/\K v:=by
 unfold mq at h
 split at h
 ·split at h
  ·rename_i he
   obtain ⟨x,h3,h4⟩:=h
   exact ⟨_,by simp only [Lp,Ab he,h3];rfl,h4⟩
  ·cases h
 ·split at h
  ·rename_i hb
   split at h
   ·rename_i he
    obtain ⟨h3,h4⟩:=h
    exact ⟨_,by simp only [Lp,hb];rw [Ab ⟨he.1,he.2,Ut.2 h3⟩],h4⟩
   ·cases h
  ·rename_i hb
   split at h
   ·rename_i he
    obtain ⟨h3,h4⟩:=h
    exact ⟨_,by simp only [Lp,hb];rw [Ab ⟨he.1,he.2,Ut.2 h3⟩],h4⟩
   ·cases h
  ·rename_i hb
   split at h
   ·rename_i he
    obtain ⟨h3,h4⟩:=h
    exact ⟨_,by simp only [Lp,hb];rw [Ab ⟨he.1,he.2,Ut.2 h3⟩],h4⟩
   ·cases h
  ·cases h
 ·split at h
  ·rename_i hb
   split at h
   ·rename_i he
    obtain ⟨h3,h4⟩:=h
    exact ⟨_,by simp only [Lp,hb];rw [Ab ⟨he,Ut.2 h3⟩],h4⟩
   ·cases h
  ·cases h
 ·cases h
theorem zQ {t:TypeId} {x i:AV} {K:AV->Prop} (h:MN T t x i K): ∃v,ko T t x i=some v/\K v:=by
 unfold MN at h
 split at h
 ·split at h
  ·rename_i he
   obtain ⟨h1,b,h3,h4⟩:=h
   exact ⟨_,by simp only [ko,Ab he,Ab h1,h3];rfl,h4⟩
  ·cases h
 ·cases h
theorem cP {st:St} {f:FuncId} {args:List AV} {K:AV->Prop} (h:xx Γ st f args K): ∃v,Pu Γ st f args=some v/\K v:=by
 unfold xx at h
 obtain ⟨s,h1,h⟩:=Cd.1 h
 have h1:Γ f=some (.q s):=by
  split at h1
  ·rename_i s' hs;injection h1 with h1;rw [hs,h1]
  ·cases h1
 split at h
 ·rename_i hf
  obtain ⟨p,h2,y,h3,h4⟩:=Cd.1 h
  refine ⟨_,?_,h4⟩
  simp only [Pu,h1]
  rw [Ab hf,h2]
  simp only [h3]
  rfl
 ·cases h
theorem zl {st:St} {v:AV} {args:List AV} {K:AV->Prop} (h:LF Γ st v args K): ∃u,Ym Γ st v args=some u/\K u:=by
 unfold LF at h
 split at h
 ·split at h
  ·rename_i hc
   split at h
   ·rename_i hf
    obtain ⟨u,h1,h2⟩:=cP h
    exact ⟨u,by simp only [Ym];rw [Ab hc,Ab (by simpa using hf)];exact h1,h2⟩
   ·rename_i hf
    obtain ⟨u,h1,h2⟩:=cP h
    exact ⟨u,by simp only [Ym];rw [Ab hc,Ai (λhx=>by rw [show Nat.blt _ 1000000000=true from by simpa using hx] at hf;cases hf)];exact h1,h2⟩
  ·cases h
 ·exact cP h
 ·cases h
theorem Qf {w:WS} (hw:w.OK) {x:Operand} {b:Bool} (hk:Xe w.kn x=some b): ∃fr,w.st.ev x= .at (.data fr .bool b):=by
 unfold Xe at hk
 split at hk
 ·injection hk with hk;subst hk;exact ⟨true,rfl⟩
 ·exact hw _ _ hk
 ·cases hk
theorem wz {w:WS} (hw:w.OK) {o:Oper} {b:Bool} (hk:Ij w.kn o=some b) {v:AV} (he:Gf T Γ w.st o=some v): ∃fr,v= .at (.data fr .bool b):=by
 unfold Ij at hk
 split at hk
 ·rename_i heq;unfold Gf at he;rw [heq] at he;injection he with he;obtain ⟨fr,h⟩:=Qf hw hk;exact ⟨fr,he.symm.trans h⟩
 ·rename_i heq;unfold Gf at he;rw [heq] at he;injection he with he;obtain ⟨fr,h⟩:=Qf hw hk;exact ⟨fr,he.symm.trans h⟩
 ·rename_i x heq
  cases hx:Xe w.kn x with
  |none=>rw [hx] at hk;cases hk
  |some c=>
   rw [hx] at hk
   injection hk with hk
   obtain ⟨fr,h⟩:=Qf hw hx
   unfold Gf at he;rw [heq] at he
   simp only [h,zy,Qc] at he
   injection he with he
   exact ⟨true,by rw [<-he,<-hk]⟩
 ·rename_i c x y heq
  unfold Gf at he;rw [heq] at he
  split at hk
  ·rename_i hc
   obtain ⟨fr,h⟩:=Qf hw hc
   simp only [h,ej,Pl] at he
   injection he with he
   obtain ⟨fr,h⟩:=Qf hw hk
   exact ⟨fr,he.symm.trans h⟩
  ·rename_i hc
   obtain ⟨fr,h⟩:=Qf hw hc
   simp only [h,ej,Dh,Si] at he
   injection he with he
   obtain ⟨fr,h⟩:=Qf hw hk
   exact ⟨fr,he.symm.trans h⟩
  ·cases hk
 ·cases hk
theorem uv {w:WS} (hw:w.OK) {o:Oper} {x:Operand} (ho:o.op= .assign x) {b:Bool} (hk:Ij w.kn o=some b) {v:AV} {s:St} (he:evalOp T Γ w.st o=some (v,s)): ∃fr,v= .at (.data fr .bool b):=by
 unfold Ij at hk
 rw [ho] at hk
 obtain ⟨fr,h⟩:=Qf hw hk
 unfold evalOp at he;rw [ho] at he
 simp only [h] at he
 injection he with he;injection he with he;exact ⟨fr,he.symm⟩
theorem jC {w:WS} (hw:w.OK) {o:Oper} {K:AV->WS->Prop} (h:qW T Γ w o K):
  ∃v w',Gf T Γ w.st o=some v/\w'.st=w.st/\w'.OK/\(∀b,Ij w'.kn o=some b-> ∃fr,v= .at (.data fr .bool b))/\K v w':=by
 have fin:(∃v w',Gf T Γ w.st o=some v/\w'.st=w.st/\w'.OK/\K v w')-> ∃v w',Gf T Γ w.st o=some v/\w'.st=w.st/\w'.OK/\(∀b,Ij w'.kn o=some b-> ∃fr,v= .at (.data fr .bool b))/\K v w':=by
  rintro ⟨v,w',h1,h2,h3,h4⟩
  exact ⟨v,w',h1,h2,h3,λb hb=>wz h3 hb (by rw [h2];exact h1),h4⟩
 refine fin ?_
 unfold qW at h
 split at h
 ·rename_i c a b heq
  obtain ⟨fr,t,w',h1,h2,h3,h4⟩:=xu hw h
  cases t with
  |true=>exact ⟨_,w',by unfold Gf;rw [heq];simp only [h1,ej,Pl];rw [<-h2],h2,h3,h4⟩
  |false=>exact ⟨_,w',by unfold Gf;rw [heq];simp only [h1,ej];rw [<-h2];simp,h2,h3,h4⟩
 ·rename_i heq
  obtain ⟨v,h1,h2⟩:=GQ h
  exact ⟨v,w,by unfold Gf;rw [heq];exact h1,rfl,hw,h2⟩
 ·rename_i heq
  obtain ⟨v,h1,h2⟩:=KZ h
  exact ⟨v,w,by unfold Gf;rw [heq];exact h1,rfl,hw,h2⟩
 ·rename_i heq
  split at h
  ·obtain ⟨v,h1,h2⟩:=BX h
   exact ⟨v,w,by unfold Gf;rw [heq];simpa using h1,rfl,hw,h2⟩
  ·cases h
 ·rename_i heq
  obtain ⟨v,h1,h2⟩:=pI h
  exact ⟨v,w,by unfold Gf;rw [heq];exact h1,rfl,hw,h2⟩
 ·rename_i heq
  obtain ⟨v,h1,h2⟩:=zQ h
  exact ⟨v,w,by unfold Gf;rw [heq];exact h1,rfl,hw,h2⟩
 ·rename_i heq
  obtain ⟨v,h1,h2⟩:=cP h
  exact ⟨v,w,by unfold Gf;rw [heq];exact h1,rfl,hw,h2⟩
 ·rename_i heq
  obtain ⟨v,h1,h2⟩:=zl h
  exact ⟨v,w,by unfold Gf;rw [heq];exact h1,rfl,hw,h2⟩
 ·rename_i heq
  obtain ⟨v,h1,h2⟩:=pB h
  exact ⟨v,w,by unfold Gf;rw [heq];exact h1,rfl,hw,h2⟩
 ·rename_i x heq
  unfold yh at h
  split at h
  ·rename_i fr τ z hx
   obtain ⟨y,h1,h2⟩:=h
   subst h1
   exact ⟨_,w,by unfold Gf;rw [heq];simp only [hx],rfl,hw,h2⟩
  ·obtain ⟨v,h1,h2⟩:=Cd.1 h
   exact ⟨v,w,h1,rfl,hw,h2⟩
 ·obtain ⟨v,h1,h2⟩:=Cd.1 h
  exact ⟨v,w,h1,rfl,hw,h2⟩
theorem CO {st:St} {t:TypeId} {p v:AV} {K:St->Prop} (h:PK T st t p v K): ∃s,Vq T st t p v=some s/\K s:=by
 unfold PK at h
 split at h
 ·obtain ⟨τ,h1,h⟩:=Cd.1 h
  obtain ⟨q,h2,h⟩:=Cd.1 h
  split at h
  ·rename_i hb
   obtain ⟨u,h3,h⟩:=Cd.1 h
   split at h
   ·rename_i hc
    obtain ⟨h4,h5⟩:=h
    obtain ⟨q1,q2⟩:=q
    obtain ⟨u1,u2⟩:=u
    exact ⟨_,by simp only [Vq,h1,h2,hb,h3];rw [Jw hc,Ab h4],h5⟩
   ·cases h
  ·cases h
 ·exact Cd.1 h
theorem wZ {st:St} {t:TypeId} {p v:AV} {K:St->Prop} (h:CJ T st t p v K): ∃s,Qh T st t p v=some s/\K s:=by
 unfold CJ at h
 unfold Qh
 split at h
 rotate_left
 ·rename_i hg;rw [hg];exact CO h
 rename_i hg
 rw [hg]
 simp only
 unfold TF at h
 split at h
 ·obtain ⟨τ,h1,h⟩:=Cd.1 h
  obtain ⟨q,h2,h⟩:=Cd.1 h
  split at h
  ·rename_i hb
   obtain ⟨u,h3,h⟩:=Cd.1 h
   split at h
   ·rename_i hc
    obtain ⟨q1,q2⟩:=q
    obtain ⟨u1,u2⟩:=u
    exact ⟨_,by simp only [c6,h1,h2,hb,h3];rw [Jw hc],h⟩
   ·cases h
  ·cases h
 ·rename_i l j
  obtain ⟨τ,h1,h⟩:=Cd.1 h
  split at h
  ·rename_i e te rows out kp m off len hl _
   split at h
   ·rename_i fr tr e' tid xs hm
    split at h
    ·rename_i hc
     obtain ⟨h2,h3,h4,h5⟩:=h
     have h4:out=none\/out=some j:=by
      cases out with
      |none=>exact .inl rfl
      |some i=>exact .inr (Et some h4)
     exact ⟨_,by simp only [c6,h1,hl,hm];rw [Jw ⟨hc.1,hc.2,h2,h3,h4⟩],h5⟩
    ·cases h
   ·cases h
  ·cases h
 ·cases h
theorem Zm {st:St} {d:Nat} {t:TypeId} {x y:Operand} {K:AV->St->Prop} (h:np T st d t x y K): ∃v s,Pc T st d t x y=some (v,s)/\K v s:=by
 unfold np at h
 obtain ⟨te,h1,h⟩:=Cd.1 h
 obtain ⟨e,h2,h⟩:=Cd.1 h
 obtain ⟨q,h3,h⟩:=Cd.1 h
 obtain ⟨u,h4,h⟩:=Cd.1 h
 obtain ⟨q1,q2⟩:=q
 obtain ⟨u1,u2⟩:=u
 split at h
 ·rename_i hx
  split at h
  ·rename_i hd
   obtain ⟨h5,h6⟩:=h
   refine ⟨_,_,?_,h6⟩
   simp only [Pc,h1,h2,h3,h4]
   rw [hx]
   simp only
   rw [Ab ⟨h5,by simpa [Oc] using hd⟩]
   simp
  ·cases h
 ·rename_i l off len hx
  split at h
  ·rename_i fr tr e' tid xs hb
   split at h
   ·rename_i hc
    obtain ⟨h5,h6,h7,h8⟩:=h
    refine ⟨_,_,?_,h8⟩
    simp only [Pc,h1,h2,h3,h4]
    rw [hx]
    simp only [hb]
    rw [Jw ⟨hc.1,hc.2.1⟩,Ab ⟨h7,by simpa [Oc] using hc.2.2⟩]
    obtain ⟨hc1,hc2,hc3⟩:=hc
    subst hc1
    subst h5
    simp only [Dr,h6,Be,Aw]
   ·cases h
  ·cases h
 ·cases h
theorem sN {st:St} {d:Nat} {t:TypeId} {x y:Operand} {K:AV->St->Prop} (h:sM T st d t x y K): ∃v s,So T st d t x y=some (v,s)/\K v s:=by
 unfold sM at h
 cases x with
 |tmp tx=>
  simp only at h
  unfold So
  simp only
  cases hg:st.get tx with
  | «at»c=>
   rw [hg] at h
   cases c with
   |sub l i c=>
    simp only at h⊢
    obtain ⟨tid,h1,h⟩:=Cd.1 h
    split at h
    ·rename_i hl
     split at h
     ·rename_i hc
      obtain ⟨v,s,h2,h3⟩:=Zm h
      refine ⟨v,s,?_,h3⟩
      simp only [hl,h1]
      rw [Ab hc]
      exact h2
     ·cases h
    ·cases h
   |_=>exact Zm h
  |_=>rw [hg] at h;exact Zm h
 |_=>exact Zm h
theorem GV {st:St} {d:Nat} {t:TypeId} {l c:AV} {K:AV->St->Prop} (h:Ab8 T st d t l c K): ∃v s,bY T st d t l c=some (v,s)/\K v s:=by
 unfold Ab8 at h
 split at h
 ·obtain ⟨te,h1,h⟩:=Cd.1 h
  obtain ⟨e,h2,h⟩:=Cd.1 h
  split at h
  ·rename_i hz
   obtain ⟨h3,h4,h5⟩:=h
   refine ⟨_,_,?_,h5⟩
   simp only [Ah] at hz
   simp only [bY,h1,h2]
   rw [Ab ⟨Ut.2 (by exact_mod_cast h3),h4,hz.1,by simpa [Oc] using hz.2⟩]
   simp
  ·cases h
 ·cases h
theorem AL {st:St} {d:Nat} {t:TypeId} {l c:AV} {K:AV->St->Prop} (h:MY T st d t l c K): ∃v s,Yn T st d t l c=some (v,s)/\K v s:=by
 unfold MY at h
 unfold Yn
 cases hg:eu T t with
 |none=>rw [hg] at h;exact GV h
 |some p=>
  obtain ⟨te,e⟩:=p
  rw [hg] at h
  simp only at h⊢
  split at h
  ·split at h
   ·rename_i hd
    obtain ⟨h3,h4,h5⟩:=h
    refine ⟨_,_,?_,h5⟩
    simp only
    rw [Ab ⟨Ut.2 (by exact_mod_cast h3),h4,by simpa [Oc] using hd⟩]
    simp
   ·cases h
  ·cases h
theorem m9 {st:St} {d:Nat} {t:TypeId} {len:Nat} {parts:Array (Nat×Operand)} {K:AV->St->Prop} (h:fo T st d t len parts K): ∃v s,Jx T st d t len parts=some (v,s)/\K v s:=by
 unfold fo at h
 unfold Jx
 cases hg:eu T t with
 |none=>
  rw [hg] at h
  obtain ⟨r,h1,h2⟩:=Cd.1 h
  exact ⟨r.1,r.2,h1,h2⟩
 |some p=>
  obtain ⟨te,e⟩:=p
  rw [hg] at h
  simp only at h⊢
  split at h
  ·rename_i x hp
   split at h
   ·rename_i m off ln hx
    split at h
    ·rename_i hm
     split at h
     ·rename_i hc
      obtain ⟨h1,h2,h3⟩:=h
      refine ⟨_,_,?_,h3⟩
      simp only [hp,hx,hm]
      rw [Jw ⟨hc.1,hc.2,h1,h2⟩]
     ·cases h
    ·cases h
   ·cases h
  ·cases h
theorem sP {st:St} {d:Nat} {t:TypeId} {x y:Operand} {K:AV->St->Prop} (h:sO T st d t x y K): ∃v s,Sp T st d t x y=some (v,s)/\K v s:=by
 unfold sO at h
 unfold Sp
 cases hg:eu T t with
 |none=>rw [hg] at h;exact sN h
 |some p=>
  obtain ⟨te,e⟩:=p
  rw [hg] at h
  simp only at h⊢
  split at h
  ·rename_i l off len m Abg u9 hx hy
   split at h
   ·rename_i hl hm
    split at h
    ·rename_i hc
     obtain ⟨h1,h2,h3,h4,h5⟩:=h
     obtain ⟨⟨rfl,rfl⟩,hc⟩:=hc
     refine ⟨_,_,?_,h5⟩
     simp only [hx,hy,hl,hm]
     rw [Jw (⟨⟨trivial,trivial⟩,hc,h1,h2,h3,h4⟩)]
     simp
    ·cases h
   ·cases h
  ·cases h
theorem CW {st:St} {io:Bool} {k:Nat} {c:CK} {a:AC} {K:c.den->List (Nat×Loc)->Prop} (h:gr st io k c a K): ∃x t,Na st io k c a=some (x,t)/\K x t:=by
 cases c with
 |Hw τ=>
  cases a with
  |own l off len=>
   obtain ⟨p,h1,h2⟩:=Cd.1 h
   exact ⟨_,_,by simp only [Na];rw [h1];rfl,h2⟩
  |clo g Ev=>
   simp only [gr] at h
   split at h
   ·rename_i hc
    obtain ⟨p,h1,h2⟩:=Cd.1 h
    exact ⟨_,_,by simp only [Na];rw [Ab hc,h1];rfl,h2⟩
   ·cases h
  |Ii l i=>
   simp only [gr] at h
   split at h
   ·rename_i hc
    obtain ⟨p,h1,h2⟩:=Cd.1 h
    exact ⟨_,_,by simp only [Na];rw [Ab hc,h1];rfl,h2⟩
   ·cases h
  |sub l i c=>
   obtain ⟨p,h1,h2⟩:=Cd.1 h
   exact ⟨_,_,by simp only [Na];rw [h1];rfl,h2⟩
  |_=>
   simp only [gr] at h
   split at h
   ·rename_i hc
    obtain ⟨p,h1,h2⟩:=Cd.1 h
    exact ⟨_,_,by simp only [Na];rw [Ab hc,h1];rfl,h2⟩
   ·cases h
 |row e te=>
  cases a<;>simp only [gr] at h<;>first|(cases h;done)|skip
  ·exact ⟨_,_,rfl,h⟩
  ·split at h
   ·rename_i hl
    split at h
    ·rename_i hc
     obtain ⟨h1,h2,h3⟩:=h
     exact ⟨_,_,by simp only [Na,hl];rw [Jw ⟨hc.1,hc.2,h1,h2⟩],h3⟩
    ·cases h
   ·cases h
  ·split at h
   ·rename_i hl
    split at h
    ·rename_i hc
     obtain ⟨y,h1,h2⟩:=h
     exact ⟨_,_,by simp only [Na,hl];rw [Jw hc,h1];rfl,h2⟩
    ·cases h
   ·cases h
 |Iu e te=>
  cases a<;>simp only [gr] at h<;>first|(cases h;done)|skip
  ·exact ⟨_,_,rfl,h⟩
  ·split at h
   ·rename_i hl
    split at h
    ·rename_i hc
     obtain ⟨h1,h2,h3⟩:=h
     exact ⟨_,_,by simp only [Na,hl];rw [Jw ⟨hc.1,hc.2,h1,h2⟩],h3⟩
    ·cases h
   ·cases h
  ·split at h
   ·rename_i hl
    split at h
    ·rename_i hc
     obtain ⟨y,h1,h2⟩:=h
     exact ⟨_,_,by simp only [Na,hl];rw [Jw hc,h1];rfl,h2⟩
    ·cases h
   ·cases h
 |part e te=>
  cases a<;>simp only [gr] at h<;>first|(cases h;done)|skip
  split at h
  ·rename_i hl
   split at h
   ·rename_i hc
    exact ⟨_,_,by simp only [Na,hl];rw [Jw hc],h⟩
   ·cases h
  ·cases h
 |Bu e te kp=>
  cases a<;>simp only [gr] at h<;>first|(cases h;done)|skip
  split at h
  ·rename_i hl
   split at h
   ·rename_i hc
    obtain ⟨h1,h2,h3⟩:=h
    exact ⟨_,_,by simp only [Na,hl];rw [Jw ⟨hc.1,hc.2.1,h1,h2,hc.2.2⟩],h3⟩
   ·cases h
  ·cases h
theorem IH {st:St} {e:Ty} {ys:List e.den} {a:AC} {K:St->Prop} (h:Ac6 st e ys a K): ∃s,OD st e ys a=some s/\K s:=by
 cases a<;>simp only [Ac6] at h<;>first|(cases h;done)|skip
 split at h
 ·rename_i hl
  split at h
  ·rename_i hc
   obtain ⟨h1,h3⟩:=h
   exact ⟨_,by simp only [OD,hl];rw [Jw ⟨hc,h1⟩],h3⟩
  ·cases h
 ·cases h
theorem lI {st:St} : ∀(cs:List (Bool×CK)) (k:Nat) (as:List AC) (K:Ins.den cs->List (Nat×Loc)->Prop),CX st k cs as K-> ∃x t,gu st k cs as=some (x,t)/\K x t
 | [],_,[],_,h=>⟨_,_,rfl,h⟩
 | [],_,_::_,_,h=>h.elim
 |_::_,_,[],_,h=>h.elim
 |p::r,k,a::as,K,h=>by
  obtain ⟨x,t1,h1,h2⟩:=CW h
  obtain ⟨y,t2,h3,h4⟩:=lI r (k+1) as _ h2
  exact ⟨_,_,by simp only [gu,h1,h3],h4⟩
theorem rh {st:St} {c:CK} {ys:c.den} {a:AC} {K:St->Prop} (h:rf st c ys a K): ∃s,cM st c ys a=some s/\K s:=by
 cases c with
 |Hw τ=>cases a<;>simp only [rf] at h<;>first|(cases h;done)|exact ⟨_,rfl,h⟩
 |row e te=>
  cases a<;>simp only [rf] at h<;>first|(cases h;done)|skip
  ·exact ⟨_,rfl,h⟩
  ·split at h
   ·rename_i hl
    split at h
    ·rename_i hc
     obtain ⟨h1,h3⟩:=h
     exact ⟨_,by simp only [cM,hl];rw [Jw ⟨hc,h1⟩],h3⟩
    ·cases h
   ·cases h
  ·split at h
   ·rename_i hl
    split at h
    ·rename_i hc
     obtain ⟨y,h1,h2,h3⟩:=h
     exact ⟨_,by simp only [cM,hl,Jw hc,h1];rw [Ab h2],h3⟩
    ·cases h
   ·cases h
 |Iu e te=>
  cases a<;>simp only [rf] at h<;>first|(cases h;done)|skip
  ·exact ⟨_,rfl,h⟩
  ·split at h
   ·rename_i hl
    split at h
    ·rename_i hc
     obtain ⟨h1,h3⟩:=h
     exact ⟨_,by simp only [cM,hl];rw [Jw ⟨hc,h1⟩],h3⟩
    ·cases h
   ·cases h
  ·split at h
   ·rename_i hl
    split at h
    ·rename_i hc
     obtain ⟨y,h1,h2,h3⟩:=h
     exact ⟨_,by simp only [cM,hl,Jw hc,h1];rw [Ab h2],h3⟩
    ·cases h
   ·cases h
 |part e te=>cases a<;>simp only [rf] at h<;>first|(cases h;done)|exact ⟨_,rfl,h⟩
 |Bu e te kp=>cases a<;>simp only [rf] at h<;>first|(cases h;done)|exact ⟨_,rfl,h⟩
theorem Qo: ∀(cs:List (Bool×CK)) (o:IOs.den cs) (as:List AC) (st:St) (K:St->Prop),jB cs o as st K-> ∃s,Iz cs o as st=some s/\K s
 | [],_,_,st,K,h=>⟨st,rfl,h⟩
 |(true, .Hw _)::r,o,[],st,K,h=>h.elim
 |(true, .row _ _)::r,o,[],st,K,h=>h.elim
 |(true, .Iu _ _)::r,o,[],st,K,h=>h.elim
 |(true, .part _ _)::r,o,[],st,K,h=>h.elim
 |(true, .Bu _ _ _)::r,o,[],st,K,h=>h.elim
 |(true, .Bu _ _ _)::r,o,a::as,st,K,h=>by
  obtain ⟨s,h1,h2⟩:=Qo r o as st K h
  exact ⟨s,by simp only [Iz];exact h1,h2⟩
 |(false,_)::r,o,[],st,K,h=>h.elim
 |(true, .Hw _)::r,o,a::as,st,K,h=>by
  obtain ⟨s,h1,h2⟩:=Qo r o as st K h
  exact ⟨s,by simp only [Iz];exact h1,h2⟩
 |(false,_)::r,o,a::as,st,K,h=>by
  obtain ⟨s,h1,h2⟩:=Qo r o as st K h
  exact ⟨s,by simp only [Iz];exact h1,h2⟩
 |(true, .row _ _)::r,o,a::as,st,K,h=>by
  obtain ⟨s1,h1,h2⟩:=rh h
  obtain ⟨s,h3,h4⟩:=Qo r o.2 as s1 K h2
  exact ⟨s,by simp only [Iz,h1];exact h3,h4⟩
 |(true, .part _ _)::r,o,a::as,st,K,h=>by
  obtain ⟨s1,h1,h2⟩:=IH h
  obtain ⟨s,h3,h4⟩:=Qo r o.2 as s1 K h2
  exact ⟨s,by simp only [Iz,h1];exact h3,h4⟩
 |(true, .Iu _ _)::r,o,a::as,st,K,h=>by
  obtain ⟨s1,h1,h2⟩:=rh h
  obtain ⟨s,h3,h4⟩:=Qo r o.2 as s1 K h2
  exact ⟨s,by simp only [Iz,h1];exact h3,h4⟩
theorem rC {H:List (Nat×OB)} {ls:List Nat} {n:Nat} {K:Prop} : ∀(l:List AV),vE H ls n l K->dP H ls n l=true/\K
 | [],h=>⟨rfl,h⟩
 |a::r,h=>by
  have go:vE H ls n r K->dP H ls n r=true/\K:=rC r
  cases a with
  | «at»c=>
   cases c with
   |sub l i c=>
    simp only [vE] at h
    simp only [dP]
    split at h
    ·rename_i hc
     obtain ⟨⟨h1,h2⟩,h3⟩:=h
     obtain ⟨g1,g2⟩:=go h3
     exact ⟨by simp only [hc,g1,Bool.and_true,Bool.not_true,bJ,Ah,Oc];exact ⟨h1,h2⟩,g2⟩
    ·rename_i hc
     obtain ⟨g1,g2⟩:=go h
     exact ⟨by simp only [hc,g1,Bool.not_false,Bool.true_or,Bool.and_true],g2⟩
   |_=>exact go h
  |_=>exact go h
theorem zk {st:St} {d:Option Nat} {s:MSpec} {args:List AV} {K:AV->St->Prop} (h:LD st d s args K): ∃v s',Yl st d s args=some (v,s')/\K v s':=by
 unfold LD at h
 obtain ⟨⟨pl,cells,rest⟩,h0,h⟩:=Cd.1 h
 obtain ⟨as,h1,h⟩:=Cd.1 h
 obtain ⟨x,tks,h2,h⟩:=lI s.ins 0 (cells++as) _ h
 split at h
 ·rename_i hc
  obtain ⟨⟨r,o⟩,h3,h⟩:=h
  obtain ⟨st1,h4,h⟩:=Qo s.ins o (cells++as) st _ h
  obtain ⟨v,h5,h6⟩:=Cd.1 h
  obtain ⟨h7,h6⟩:=rC _ h6
  refine ⟨v,_,?_,h6⟩
  unfold Yl
  simp only [h0,h1,h2]
  rw [Ab hc]
  simp only [h3,h4,h5]
  rw [Ab h7]
 ·cases h
theorem VF {w:WS} (hw:w.OK) {o:Oper} {K:AV->WS->Prop} (h:opW T Γ w o K):
  ∃v w',evalOp T Γ w.st o=some (v,w'.st)/\w'.OK/\(∀b,Ij w'.kn o=some b-> ∃fr,v= .at (.data fr .bool b))/\K v w':=by
 have fin: ∀v s,(∀b,Ij w.kn o=some b-> ∃fr,v= .at (.data fr .bool b))->evalOp T Γ w.st o=some (v,s)->K v (w.to s)-> ∃v w',evalOp T Γ w.st o=some (v,w'.st)/\w'.OK/\(∀b,Ij w'.kn o=some b-> ∃fr,v= .at (.data fr .bool b))/\K v w':=
  fun v s hk h1 h2=>⟨v,w.to s,h1,hw.to (nK h1),hk,h2⟩
 have zB:(∀b v s,Ij w.kn o=some b->evalOp T Γ w.st o=some (v,s)-> ∃fr,v= .at (.data fr .bool b))->Iv (evalOp T Γ w.st o) (λr=>K r.1 (w.to r.2))-> ∃v w',evalOp T Γ w.st o=some (v,w'.st)/\w'.OK/\(∀b,Ij w'.kn o=some b-> ∃fr,v= .at (.data fr .bool b))/\K v w':=by
  intro hk h
  obtain ⟨r,h1,h2⟩:=Cd.1 h
  exact fin r.1 r.2 (λb hb=>hk b _ _ hb h1) h1 h2
 unfold opW at h
 split at h
 ·rename_i heq
  obtain ⟨s,h1,h2⟩:=wZ h
  refine fin _ _ (λb hb=>by unfold Ij at hb;rw [heq] at hb;cases hb) ?_ h2
  unfold evalOp;rw [heq];simp only [h1];rfl
 ·rename_i heq
  obtain ⟨d,h1,h⟩:=Cd.1 h
  obtain ⟨v,s,h2,h3⟩:=AL h
  refine fin _ _ (λb hb=>by unfold Ij at hb;rw [heq] at hb;cases hb) ?_ h3
  unfold evalOp;rw [heq];simp only [h1,h2]
 ·rename_i heq
  split at h
  ·rename_i hd ha ht
   split at h
   ·rename_i Wm
    obtain ⟨v,s,h2,h3⟩:=sP h
    refine fin _ _ (λb hb=>by unfold Ij at hb;rw [heq] at hb;cases hb) ?_ h3
    unfold evalOp;rw [heq];simp only [hd,ha,ht,Ab Wm,h2]
   ·cases h
  ·cases h
 ·rename_i heq;exact zB (λb v s hb he=>uv hw heq hb he) h
 ·rename_i heq;exact zB (λb v s hb he=>by unfold Ij at hb;rw [heq] at hb;cases hb) h
 ·rename_i heq;exact zB (λb v s hb he=>by unfold Ij at hb;rw [heq] at hb;cases hb) h
 ·rename_i heq
  obtain ⟨d,h1,h⟩:=Cd.1 h
  obtain ⟨v,s,h2,h3⟩:=m9 h
  refine fin _ _ (λb hb=>by unfold Ij at hb;rw [heq] at hb;cases hb) ?_ h3
  unfold evalOp;rw [heq];simp only [h1,h2]
 ·rename_i heq;exact zB (λb v s hb he=>by unfold Ij at hb;rw [heq] at hb;cases hb) h
 ·rename_i heq;exact zB (λb v s hb he=>by unfold Ij at hb;rw [heq] at hb;cases hb) h
 ·rename_i heq;exact zB (λb v s hb he=>by unfold Ij at hb;rw [heq] at hb;cases hb) h
 ·rename_i heq;exact zB (λb v s hb he=>by unfold Ij at hb;rw [heq] at hb;cases hb) h
 ·rename_i heq;exact zB (λb v s hb he=>by unfold Ij at hb;rw [heq] at hb;cases hb) h
 ·rename_i heq;exact zB (λb v s hb he=>by unfold Ij at hb;rw [heq] at hb;cases hb) h
 ·
  rename_i f _ _ heq
  split at h
  ·rename_i Pw
   obtain ⟨v,s',h1,h2⟩:=zk h
   refine fin v s' (λb hb=>by unfold Ij at hb;rw [heq] at hb;cases hb) ?_ h2
   unfold evalOp;rw [heq];simp only [Pw];exact h1
  ·rename_i s Pw
   split at h
   ·rename_i SA
    obtain ⟨st1,hs,h⟩:=Cd.1 h
    obtain ⟨v,w',h1,h2,h3,h3',h4⟩:=jC (hw.to (Uv _ hs)) h
    refine ⟨v,w',?_,h3,h3',h4⟩
    have h1:Gf T Γ st1 o=some v:=h1
    have h2:w'.st=st1:=h2
    unfold evalOp
    rw [heq]
    simp only [Pw,SA,hs,h1,h2]
    rfl
   ·rename_i SA
    obtain ⟨v,w',h1,h2,h3,h3',h4⟩:=jC hw h
    refine ⟨v,w',?_,h3,h3',h4⟩
    unfold evalOp
    rw [heq]
    simp only [Pw,SA,h1,h2]
    rfl
  ·rename_i Bap Ao5
   obtain ⟨v,w',h1,h2,h3,h3',h4⟩:=jC hw h
   refine ⟨v,w',?_,h3,h3',h4⟩
   unfold evalOp
   rw [heq]
   simp only
   rw [h1,h2];rfl
 ·rename_i n1 n2 n3 n4 n5 n6 n7 n8 n9 n10 n11 n12 n13 n14
  obtain ⟨v,w',h1,h2,h3,h3',h4⟩:=jC hw h
  refine ⟨v,w',?_,h3,h3',h4⟩
  unfold evalOp
  split
  all_goals first
   |(rw [h1,h2];rfl)
   |(rename_i hq;exact absurd hq (by first|exact n1 _|exact n2 _|exact n3 _|exact n4 _|exact n5 _|exact n6 _|exact n7 _|exact n8 _|exact n9 _|exact n10 _|exact n11 _|exact n12 _|exact n13 _|exact n14 _))
   |(rename_i hq;exact absurd hq (by first|exact n1 _ _|exact n2 _ _|exact n3 _ _|exact n4 _ _|exact n5 _ _|exact n6 _ _|exact n7 _ _|exact n8 _ _|exact n9 _ _|exact n10 _ _|exact n11 _ _|exact n12 _ _|exact n13 _ _|exact n14 _ _))
   |(rename_i hq;exact absurd hq (by first|exact n1 _ _ _|exact n2 _ _ _|exact n3 _ _ _|exact n4 _ _ _|exact n5 _ _ _|exact n6 _ _ _|exact n7 _ _ _|exact n8 _ _ _|exact n9 _ _ _|exact n10 _ _ _|exact n11 _ _ _|exact n12 _ _ _|exact n13 _ _ _|exact n14 _ _ _))
   |(rename_i hq;exact absurd hq (by first|exact n1 _ _ _ _|exact n2 _ _ _ _|exact n3 _ _ _ _|exact n4 _ _ _ _|exact n5 _ _ _ _|exact n6 _ _ _ _|exact n7 _ _ _ _|exact n8 _ _ _ _|exact n9 _ _ _ _|exact n10 _ _ _ _|exact n11 _ _ _ _|exact n12 _ _ _ _|exact n13 _ _ _ _|exact n14 _ _ _ _))
theorem zE (st:St) (d:Nat) (v:AV):(st.put (some d) v).get d=v\/(st.put (some d) v).get d= .undef:=by
 simp only [St.put,St.get]
 rw [Rp]
 by_cases h:d<st.tmps.length
 ·exact .inl (by rw [Ab ⟨rfl,h⟩])
 ·refine .inr ?_
  rw [Ai (λhc=>h hc.2),Ak,Ei (by omega)]
  rfl
theorem WS.OK.wM {w:WS} (hw:w.OK) (o:Oper) (v:AV) (h: ∀b,Ij w.kn o=some b-> ∃fr,v= .at (.data fr .bool b)):(w.wM o v).OK/\(w.wM o v).st=w.st.put o.dst v:=by
 unfold WS.wM
 split
 ·rename_i d b hd hk
  split
  ·rename_i fr c hg
   refine ⟨?_,by rw [hd]⟩
   obtain ⟨Wt,hv⟩:=h b hk
   intro t b' hb
   simp only [oa] at hb
   split at hb
   ·rename_i ht
    injection hb with hb
    subst ht;subst hb
    refine ⟨Wt,?_⟩
    show (w.st.put (some d) v).get d=_
    cases zE w.st d v with
    |inl h1=>rw [h1,hv]
    |inr h1=>rw [h1] at hg;cases hg
   ·exact hw.put (some d) v t b' hb
  ·exact ⟨hw.put _ _,by rw [WS.uL,hd]⟩
 ·exact ⟨hw.put _ _,WS.uL _ _ _⟩
theorem rz {ops:Array Oper} {w:WS} (hw:w.OK) {o:Oper} {run:(AV->WS->Prop)->WS->Prop} {R:St->Option (AV×St)} {K:WS->Prop}
  (hr: ∀(k:AV->WS->Prop) (w:WS),w.OK->run k w-> ∃v w',R w.st=some (v,w'.st)/\w'.OK/\(∀b,Ij w'.kn o=some b-> ∃fr,v= .at (.data fr .bool b))/\k v w') (h:jW ops w o run K):
  ∃w',(match o.guard with
   |none=>(R w.st).map λr=>r.2.put o.dst r.1
   |some (j,want)=>match Yf w.st ((ops[j]?).bind (·.dst)) with
    |some (some b)=>if b==want then (R w.st).map λr=>r.2.put o.dst r.1 else some (w.st.put o.dst (.at .skip))
    |some none=>some (w.st.put o.dst (.at .skip))
    |none=>none)=some w'.st/\w'.OK/\K w':=by
 have go: ∀w:WS,w.OK->run (λv w'=>K (w'.wM o v)) w-> ∃w',((R w.st).map λr=>r.2.put o.dst r.1)=some w'.st/\w'.OK/\K w':=by
  intro w hw h
  obtain ⟨v,w',h1,h2,h3,h4⟩:=hr _ _ hw h
  obtain ⟨h5,h6⟩:=h2.wM o v h3
  exact ⟨w'.wM o v,by rw [h1,h6];rfl,h5,h4⟩
 unfold jW at h
 split at h
 ·rename_i hg
  rw [hg]
  exact go w hw h
 ·rename_i j want hg
  rw [hg]
  obtain ⟨t,h1,h⟩:=Cd.1 h
  simp only [h1]
  split at h
  ·rename_i hs
   have hsk:w.st.get t= .at .skip:=by
    unfold AV.Aax at hs
    split at hs
    ·assumption
    ·cases hs
   exact ⟨_,by simp only [Yf,hsk];rw [WS.uL],hw.put _ _,h⟩
  ·obtain ⟨fr,b,w',h2,h3,h4,h5⟩:=xw hw h
   have hb:Yf w.st (some t)=some (some b):=by simp only [Yf,h2]
   rw [hb]
   simp only
   cases b with
   |true=>
    cases want with
    |true=>rw [Ab (by decide),<-h3];exact go w' h4 h5
    |false=>exact ⟨_,by rw [Ai (by decide),<-h3,WS.uL],h4.put _ _,h5⟩
   |false=>
    cases want with
    |false=>rw [Ab (by decide),<-h3];exact go w' h4 h5
    |true=>exact ⟨_,by rw [Ai (by decide),<-h3,WS.uL],h4.put _ _,h5⟩
theorem cD {ops:Array Oper} {w:WS} (hw:w.OK) {o:Oper} {K:WS->Prop} (h:jW ops w o (λk w'=>opW T Γ w' o k) K): ∃w',Fz T Γ ops w.st o=some w'.st/\w'.OK/\K w':=by
 obtain ⟨w',h1,h2⟩:=rz hw (R:= λst=>evalOp T Γ st o) (λk w hw h=>by
  obtain ⟨v,w',h1,h2,h2',h3⟩:=VF hw h
  exact ⟨v,w',h1,h2,h2',h3⟩) h
 exact ⟨w',h1,h2⟩
theorem ZF {w:WS} (hw:w.OK) {o:Oper} {K:AV->WS->Prop} (h:bW T Γ w o K):
  ∃v w',Xz T Γ w.st o=some v/\w'.st=w.st/\w'.OK/\(∀b,Ij w'.kn o=some b-> ∃fr,v= .at (.data fr .bool b))/\K v w':=by
 unfold bW at h
 split at h
 ·rename_i t len parts sr
  obtain ⟨v,h1,h2⟩:=Cd.1 h
  exact ⟨v,w,by unfold Xz;rw [sr];exact h1,rfl,hw,λb hb=>by simp [Ij,sr] at hb,h2⟩
 ·rename_i t parts sr
  obtain ⟨v,h1,h2⟩:=Cd.1 h
  exact ⟨v,w,by unfold Xz;rw [sr];exact h1,rfl,hw,λb hb=>by simp [Ij,sr] at hb,h2⟩
 ·rename_i n1 n2
  obtain ⟨v,w',h1,h2⟩:=jC hw h
  refine ⟨v,w',?_,h2⟩
  rw [<-h1]
  unfold Xz
  split
  ·rename_i h9;exact absurd h9 (n1 _ _ _)
  ·rename_i h9;exact absurd h9 (n2 _ _)
  ·rfl
theorem Agj {ops:Array Oper} {w:WS} (hw:w.OK) {o:Oper} {K:WS->Prop} (h:jW ops w o (λk w'=>bW T Γ w' o k) K): ∃v w',Xv T Γ ops w.st o=some v/\w'.st=w.st.put o.dst v/\w'.OK/\K w':=by
 obtain ⟨w',h1,h2,h3⟩:=rz hw (R:= λst=>(Xz T Γ st o).map λv=>(v,st)) (λk w hw h=>by
  obtain ⟨v,w',h1,h2,h3,h3',h4⟩:=ZF hw h
  exact ⟨v,w',by simp only [h1,h2];rfl,h3,h3',h4⟩) h
 have key: ∀u:Option AV,((u.map λv=>(v,w.st)).map λr=>r.2.put o.dst r.1)=some w'.st-> ∃v,u=some v/\w'.st=w.st.put o.dst v:=by
  intro u hu
  cases u with
  |none=>cases hu
  |some v=>injection hu with hu;exact ⟨v,rfl,hu.symm⟩
 unfold Xv
 split at h1
 ·rename_i hg
  obtain ⟨v,h4,h5⟩:=key _ h1
  exact ⟨v,w',by rw [hg];exact h4,h5,h2,h3⟩
 ·rename_i j want hg
  rw [hg]
  split at h1
  ·rename_i b hb
   simp only [hb]
   split at h1
   ·rename_i LZ
    obtain ⟨v,h4,h5⟩:=key _ h1
    exact ⟨v,w',by rw [Ab LZ];exact h4,h5,h2,h3⟩
   ·rename_i LZ
    injection h1 with h1
    exact ⟨_,w',by rw [Ai LZ],h1.symm,h2,h3⟩
  ·rename_i hb
   simp only [hb]
   injection h1 with h1
   exact ⟨_,w',rfl,h1.symm,h2,h3⟩
  ·cases h1
theorem uw {ops:Array Oper} : ∀(l:List Oper) {w:WS} (_:w.OK) {K:WS->Prop},Akx T Γ ops l w K-> ∃w',aZ T Γ ops l w.st=some w'.st/\w'.OK/\K w'
 | [],w,hw,K,h=>⟨w,rfl,hw,h⟩
 |o::r,w,hw,K,h=>by
  obtain ⟨w1,h1,h2,h3⟩:=cD hw h
  obtain ⟨w2,h4,h5⟩:=uw r h2 h3
  exact ⟨w2,by simp only [aZ];rw [h1];exact h4,h5⟩
theorem fE {ops:Array Oper} : ∀(l:List Nat) {w:WS} (_:w.OK) {K:WS->Prop},Aao T Γ ops l w K-> ∃w',Nu T Γ ops l w.st=some w'.st/\w'.OK/\K w'
 | [],w,hw,K,h=>⟨w,rfl,hw,h⟩
 |i::r,w,hw,K,h=>by
  obtain ⟨o,h0,h⟩:=Cd.1 h
  obtain ⟨w1,h1,h2,h3⟩:=cD hw h
  obtain ⟨w2,h4,h5⟩:=fE r h2 h3
  exact ⟨w2,by simp only [Nu];rw [h0];simp only [h1];exact h4,h5⟩
theorem Oo {ops:Array Oper} : ∀(l:List Nat) {w:WS} (_:w.OK) {K:WS->Prop},ll T Γ ops l w K-> ∃w',Hb T Γ ops l w.st=some w'.st/\w'.OK/\K w'
 | [],w,hw,K,h=>⟨w,rfl,hw,h⟩
 |i::r,w,hw,K,h=>by
  obtain ⟨o,h0,h⟩:=Cd.1 h
  obtain ⟨v,w1,h1,h1',h2,h3⟩:=Agj hw h
  obtain ⟨w2,h4,h5⟩:=Oo r h2 h3
  exact ⟨w2,by simp only [Hb];rw [h0];simp only [h1];rw [<-h1'];exact h4,h5⟩
theorem nm {P:Nat->Prop} : ∀(l:List Nat),ZB l P-> ∀i∈l,P i
 | [],_,i,hi=>by cases hi
 | [k],h,i,hi=>by rw [Ad.1 hi];exact h
 |k::j::r,h,i,hi=>by
  rcases Bb.1 hi with rfl|hi
  ·exact h.1
  ·exact nm (j::r) h.2 i hi
theorem m4 {ops:Array Oper} {K:WS->Prop} : ∀(f:Nat) (Ag:Array Bool) {w:WS} (_:w.OK),TO T Γ ops f Ag w K->anyS T Γ ops (λs=> ∃w':WS,w'.st=s/\w'.OK/\K w') f Ag w.st
 |0,Ag,w,hw,h=>by
  unfold TO at h
  split at h
  ·rename_i hr;exact ⟨hr,w,rfl,hw,h⟩
  ·cases h
 |f+1,Ag,w,hw,h=>by
  unfold TO at h
  split at h
  ·cases h
  ·rename_i i r hr
   refine ⟨by rw [hr];simp,λk hk=>?_⟩
   rw [hr] at hk
   obtain ⟨o,h0,h1⟩:=Cd.1 (nm _ h k hk)
   obtain ⟨w1,h2,h3,h4⟩:=cD hw h1
   exact ⟨o,w1.st,h0,h2,m4 f _ h3 h4⟩
theorem dT: ∀(l:List Oper) (d:Nat),d∈Ln l-> ∃o∈l,o.dst=some d
 | [],d,h=>by simp [Ln] at h
 |o::r,d,h=>by
  simp only [Ln] at h
  cases ho:o.dst with
  |none=>
   rw [ho] at h
   obtain ⟨o',h1,h2⟩:=dT r d (by simpa using h)
   exact ⟨o',Ap _ h1,h2⟩
  |some e=>
   rw [ho] at h
   rcases Bb.1 (by simpa using h) with h|h
   ·exact ⟨o,by simp,by rw [ho,h]⟩
   ·obtain ⟨o',h1,h2⟩:=dT r d h
    exact ⟨o',Ap _ h1,h2⟩
theorem nN {ops:Array Oper} {K:WS->Prop} : ∀(f:Nat) (Ag:Array Bool) {w:WS} (_:w.OK),c7 T Γ ops f Ag w K-> ∃w':WS,Gs (λt=>Tm ops t=true) w.st w'.st/\w'.OK/\K w'
 |0,Ag,w,hw,h=>by
  simp only [c7] at h
  split at h
  ·exact ⟨w,λ_ _ _ _ _ hx=>hx,hw,h⟩
  ·exact h.elim
 |f+1,Ag,w,hw,h=>by
  simp only [c7] at h
  split at h
  ·exact h.elim
  ·obtain ⟨o,ho,h1⟩:=Cd.1 h
   obtain ⟨w',h2,h3,h4⟩:=cD hw h1
   obtain ⟨w2,g1,g2⟩:=nN f _ h3 h4
   refine ⟨w2,((bZ h2).mono λt ht hd=>?_).trans g1,g2⟩
   unfold Tm Zj at ht
   have:(ops.toList.any λo=>o.dst==some t)=true:=Eh.2 ⟨o,pV ho,by rw [hd];exact beq_self_eq_true _⟩
   rw [this] at ht
   cases ht
theorem mE (p:Nat->Bool): ∀(i:Nat) (l0 l1:List AV),(∀t,(l0.getD t .undef).Yu=true->p (i+t)=true->l1.getD t .undef=l0.getD t .undef)->
  Wa (Lj p i l0) l0 (Uo (Lj p i l0) l1)=l1
 |_,[],l1,_=>by simp [Lj,Uo,Wa]
 |i,a::r,[],_=>by
  simp only [Lj]
  cases (a.Yu&&p i)<;>simp [Uo,Wa]
 |i,a::r,b::s,h=>by
  have hr:=mE p (i+1) r s λt h1 h2=>by
   have:=h (t+1) (by simpa using h1) (by rw [show i+(t+1)=i+1+t by omega];exact h2)
   simpa using this
  simp only [Lj]
  cases hc:(a.Yu&&p i) with
  |false=>simp only [Uo,Wa];rw [hr]
  |true=>
   simp only [Uo,Wa]
   rw [hr]
   simp only [Ah] at hc
   have:=h 0 (by simpa using hc.1) hc.2
   simp only [Yd] at this
   rw [this]
theorem fL: ∀(f:List Bool) (l:List AV),(Uo f l).length=l.length
 | [],l=>by simp [Uo]
 |true::f,[]=>by simp [Uo]
 |false::f,[]=>by simp [Uo]
 |true::f,a::l=>by simp [Uo,fL f l]
 |false::f,a::l=>by simp [Uo,fL f l]
theorem UA {p:Nat->Bool} {w1 s0 s:St} (h1:Gs (λt=>p t=true) w1 s0) (h2:Gs (λt=>p t=true) w1 s) (h:eqM (Lj p 0 w1.tmps) s0 s):s=s0:=by
 have e:=ef h
 simp only [St.mask,St.mk.injEq] at e
 have key: ∀ {a:St},Gs (λt=>p t=true) w1 a->Wa (Lj p 0 w1.tmps) w1.tmps (Uo (Lj p 0 w1.tmps) a.tmps)=a.tmps:= λ {a} ha=>mE p 0 _ _ λt ht hp=>by
  rw [Bt] at hp
  cases hc:w1.tmps.getD t .undef with
  | «at»c=>
   cases c with
   |data fr τ x=>exact ha t fr τ x hp hc
   |_=>rw [hc] at ht;cases ht
  |_=>rw [hc] at ht;cases ht
 have e1:=key h1
 have e2:=key h2
 rw [e.1,e1] at e2
 obtain ⟨_,e4⟩:=e
 cases s;cases s0
 simp only at e2 e4
 rw [e4,e2]
theorem bb {ops:Array Oper} {K:WS->Prop} : ∀(f:Nat) (Ag:Array Bool) {w:WS} (_:w.OK),c7 T Γ ops f Ag w K-> ∃w':WS,w'.OK/\K w'
 |0,Ag,w,hw,h=>by
  simp only [c7] at h
  split at h
  ·exact ⟨w,hw,h⟩
  ·exact h.elim
 |f+1,Ag,w,hw,h=>by
  simp only [c7] at h
  split at h
  ·exact h.elim
  ·obtain ⟨o,ho,h1⟩:=Cd.1 h
   obtain ⟨w',h2,h3,h4⟩:=cD hw h1
   exact bb f _ h3 h4
theorem qA {P:List (Nat×Nat×AV×OB)} {ops:Array Oper} {K:WS->Prop} : ∀(f:Nat) (Ag:Array Bool) {w:WS} (_:w.OK),EC T Γ P ops f Ag w K->Aiw T Γ ops P (λs=> ∃w':WS,w'.st=s/\w'.OK/\K w') f Ag w.st
 |0,Ag,w,hw,h=>by
  unfold EC at h
  split at h
  ·rename_i hr;exact ⟨hr,w,rfl,hw,h⟩
  ·cases h
 |f+1,Ag,w,hw,h=>by
  unfold EC at h
  split at h
  ·cases h
  ·rename_i i r hr
   refine ⟨by rw [hr];simp,λk hk=>?_⟩
   rw [hr] at hk
   obtain ⟨o,h0,h1⟩:=Cd.1 (nm _ h k hk)
   split at h1
   ·rename_i gO
    obtain ⟨w1,h2,h3,h4⟩:=cD hw h1
    exact ⟨o,w1.st,h0,gO,h2,qA f _ h3 h4⟩
   ·cases h1
theorem HJ {α:Type} (f:α->Nat) {l:List α} (h:aD (l.map f)=true):l.Pairwise λa c=>f a≠f c:=List.pairwise_map.1 (Yv h)
theorem dt {ops:Array Oper} {E:List Nat} {Ag:Array Bool} {w:WS} (hw:w.OK): ∀(R:List Nat) {K:Prop},yT T Γ ops E Ag w R K->K/\ ∀r∈R,sA ops E Ag r=true\/ ∃o v,ops[r]?=some o/\Xv T Γ ops w.st o=some v/\ ∀d,o.dst=some d->w.st.get d=v
 | [],K,h=>⟨h,λr hr=>by cases hr⟩
 |r::R,K,h=>by
  unfold yT at h
  split at h
  ·rename_i hwt
   obtain ⟨h1,h2⟩:=dt hw R h
   refine ⟨h1,λq hq=>?_⟩
   rcases Bb.1 hq with rfl|hq
   ·exact .inl hwt
   ·exact h2 q hq
  ·obtain ⟨h0,h⟩:=h
   obtain ⟨h1,h2⟩:=dt hw R h
   refine ⟨h1,λq hq=>?_⟩
   rcases Bb.1 hq with rfl|hq
   ·refine .inr ?_
    obtain ⟨w',g1,_,g3⟩:=Oo _ hw h0
    obtain ⟨d,hd,g4⟩:=Cd.1 g3
    simp only [Hb] at g1
    split at g1
    ·cases g1
    rename_i o ho
    split at g1
    rotate_left
    ·cases g1
    rename_i v hv
    refine ⟨o,v,ho,hv,λd' KK=>?_⟩
    rw [ho] at hd
    have hdd:o.dst=some d:=hd
    rw [KK] at hdd
    cases hdd
    split at g4
    ·rename_i hl
     have e:=ef g4
     have e1:w'.st.get d=w.st.get d:=by
      have:=Et (λs:St=>s.tmps) e
      simpa using this
     rw [<-e1]
     have e2:w.st.put o.dst v=w'.st:=Bd g1
     rw [<-e2,show o.dst=some d from hd]
     show (Tk w.st.tmps d v).getD d .undef=v
     rw [Rp,Ab ⟨rfl,by simpa [Oc] using hl⟩]
    ·cases g4
   ·exact h2 q hq
theorem cO {ops:Array Oper} {E:List Nat} {K:WS->Prop} : ∀(f:Nat) (Ag:Array Bool) {w:WS} (_:w.OK),sK T Γ ops E f Ag w K->rK T Γ ops E (λs=> ∃w':WS,w'.st=s/\w'.OK/\K w') f Ag w.st
 |0,Ag,w,hw,h=>by
  unfold sK at h
  obtain ⟨h,hs⟩:=dt hw _ h
  split at h
  ·rename_i hr;exact ⟨hs,hr,w,rfl,hw,h⟩
  ·cases h
 |f+1,Ag,w,hw,h=>by
  unfold sK at h
  obtain ⟨h,hs⟩:=dt hw _ h
  split at h
  ·cases h
  ·rename_i i r hr
   refine ⟨hs,by rw [hr];simp,λk hk=>?_⟩
   rw [hr] at hk
   obtain ⟨o,h0,h1⟩:=Cd.1 (nm _ h k hk)
   obtain ⟨w1,h2,h3,h4⟩:=cD hw h1
   exact ⟨o,w1.st,h0,h2,cO f _ h3 h4⟩
theorem BK {ops:Array Oper} {E:List Nat} {L0:Array Bool} {n:Nat} {w:WS} (hw:w.OK) {K:WS->Prop} (h:OE T Γ E n L0 ops w K):Aed T Γ ops (λs=> ∃w':WS,w'.st=s/\w'.OK/\K w') n L0 w.st:=by
 unfold OE at h
 split at h
 ·rename_i hb
  simp only [Ah] at hb
  obtain ⟨b1,b2,b3⟩:=hb
  obtain ⟨w1,h1,h2,h3⟩:=Oo _ hw h
  have h3:=Pe.1 h3
  obtain ⟨w0,g1,g2⟩:=bb _ _ h2 h3
  obtain ⟨g3,g4⟩:=Pe.1 g2
  refine ⟨E,w1.st,b1,Nat.le_of_ble_eq_true b2,h1,br (λs hs=>?_) _ _ _ (cO _ _ h2 g4)⟩
  obtain ⟨w',h5,_,h6⟩:=hs
  exact ⟨w0,((h5.symm.trans (ef (Pe.1 h6))).symm),g1,g3⟩
 ·cases h
theorem dQ {ops:Array Oper} {t:Nat} :Tm ops t=true->t∉Ln ops.toList:= λh hm=>by
 obtain ⟨o,ho,hd⟩:=dT _ _ hm
 unfold Tm Zj at h
 have:(ops.toList.any λo=>o.dst==some t)=true:=Eh.2 ⟨o,ho,by rw [hd];exact beq_self_eq_true _⟩
 rw [this] at h
 cases h
theorem ED {ops:Array Oper} {E:List Nat} {K:St->Prop} (s0:St) (f:Nat) (Ag:Array Bool) (st:St) (hk:Gs (λt=>Tm ops t=true) s0 st) (h:rK T Γ ops E K f Ag st):
  rK T Γ ops E (λs=>K s/\Gs (λt=>Tm ops t=true) s0 s) f Ag st:=by
 have h1:=lZ (draw:=true) st f Ag st (λ_ _ _ _ _ hx=>hx) h
 exact br (λs hs=>⟨hs.1,hk.trans (hs.2.mono λt ht=>dQ ht)⟩) _ _ _ h1
theorem WS.OK.Re {w:WS} (hw:w.OK) (dead:List Nat):(w.Re dead).OK:=by
 intro t b hb
 have key: ∀(l:List (Nat×Bool)),oa (l.filter λp=>!dead.contains p.1) t=some b->dead.contains t=false/\oa l t=some b:=by
  intro l
  induction l with
  |nil=>intro h;cases h
  |cons q r ih=>
   intro h
   obtain ⟨k,c⟩:=q
   by_cases hk:dead.contains k=true
   ·rw [List.filter_cons_of_neg (by rw [hk];decide)] at h
    obtain ⟨h1,h2⟩:=ih h
    refine ⟨h1,?_⟩
    unfold oa
    rw [Ai (λe=>by subst e;rw [h1] at hk;cases hk)]
    exact h2
   ·have hk:dead.contains k=false:=by simpa using hk
    rw [List.filter_cons_of_pos (by rw [hk];rfl)] at h
    unfold oa at h⊢
    split at h
    ·rename_i e
     subst e
     rw [Ab rfl]
     exact ⟨hk,h⟩
    ·rename_i e
     rw [Ai e]
     exact ih h
 obtain ⟨h1,h2⟩:=key _ hb
 obtain ⟨fr,h3⟩:=hw t b h2
 refine ⟨fr,?_⟩
 show (w.st.Re dead).get t=_
 unfold St.Re
 refine Uu _ _ t fr _ _ ?_
 show (Jf _ 0 w.st.tmps).getD t .undef=_
 rw [Wq _ 0 w.st.tmps t ?_]
 ·exact h3
 ·refine Cf.2 ⟨Ff.2 ?_,by rw [Bt,h1];rfl⟩
  refine Bp λhn=>?_
  have:w.st.get t= .undef:=by
   unfold St.get
   rw [Ak,Ei (by omega)];rfl
  rw [h3] at this
  cases this
theorem HN {ops:Array Oper} {dead E:List Nat} (b3:dead.all (Zj ops)=true) {L0:Array Bool} {n:Nat} {w:WS} (hw:w.OK) {K:WS->Prop} (h:Abi T Γ dead E n L0 ops w K):Aed T Γ ops (λs=> ∃w':WS,w'.st=s.Re dead/\w'.OK/\K w') n L0 w.st:=by
 unfold Abi at h
 split at h
 ·rename_i hb
  simp only [Ah] at hb
  obtain ⟨b1,b2⟩:=hb
  obtain ⟨w1,h1,h2,h3⟩:=Oo _ hw h
  have h3:=Pe.1 h3
  refine ⟨E,w1.st,b1,Nat.le_of_ble_eq_true b2,h1,?_⟩
  split at h3
  ·refine br (λs hs=>?_) _ _ _ (cO _ _ h2 h3)
   obtain ⟨w',h5,h6,h7⟩:=hs
   exact ⟨w'.Re dead,by rw [<-h5];rfl,h6.Re _,h7⟩
  ·rw [fz] at h3
   obtain ⟨w0,g0,g1,g2⟩:=nN _ _ h2 h3
   obtain ⟨g3,g4⟩:=Pe.1 g2
   refine br (λs hs=>?_) _ _ _ (ED w1.st _ _ _ (λ_ _ _ _ _ hx=>hx) (cO _ _ h2 g4))
   obtain ⟨⟨w',h5,_,h6⟩,h7⟩:=hs
   have h6:=Pe.1 h6
   have k1:Gs (λt=>Tm ops t=true) w1.st (w0.Re dead).st:=g0.trans ((jn b3 w0.st).mono λt ht=>dQ ht)
   have k2:Gs (λt=>Tm ops t=true) w1.st (w'.Re dead).st:=by
    show Gs _ w1.st (w'.st.Re dead)
    rw [h5]
    exact h7.trans ((jn b3 s).mono λt ht=>dQ ht)
   have e:=UA k1 k2 h6
   refine ⟨w0.Re dead,?_,g1.Re _,g3⟩
   rw [<-e,<-h5]
   rfl
 ·cases h
theorem vZ {ops:Array Oper} {L0:Array Bool} {n:Nat} {w:WS} (hw:w.OK) {K:WS->Prop} (hc:Us ops L0) (h:zj T Γ (Zy T ops L0) n L0 ops w K):anyS T Γ ops (λs=> ∃w':WS,w'.st=s/\w'.OK/\K w') n L0 w.st\/Aed T Γ ops (λs=> ∃w':WS,w'.st=s/\w'.OK/\K w') n L0 w.st:=by
 unfold zj at h
 split at h
 ·rename_i hb
  simp only [Ah] at hb
  obtain ⟨⟨b1,b2⟩,b3,b4,b5⟩:=hb
  have hm: ∀a∈Zy T ops L0,a.1∈Region.ready .any ops L0/\ ∃o,ops[a.1]?=some o/\fj T o=some a.2:= λa ha=>ze ha
  have p1:=HJ (λa:Nat×Nat×AV×OB=>a.1) b1
  have p2:=HJ (λa:Nat×Nat×AV×OB=>a.2.1) b2
  have hlen:(Zy T ops L0).length<=n:=Nat.le_of_ble_eq_true b4
  obtain ⟨w1,h1,h2,h3⟩:=fE _ hw h
  have h3:=Pe.1 h3
  obtain ⟨w0,g1,g2⟩:=bb _ _ h2 h3
  obtain ⟨g3,g4⟩:=Pe.1 g2
  have hp:=IC (Γ:=Γ) _ w.st w1.st (λa ha=>(hm a ha).2) (λa ha=>uq (Bc.1 b3 a ha)) p2 h1
  refine .inl (ki (λs hs=>?_) _ _ _ (TN (λa ha=>(hm a ha).2) n (n-(Zy T ops L0).length) (Zy T ops L0) _ L0 w1.st w.st (by omega) (qA _ _ h2 g4) hp
   (Aeg (ops:=ops) λi hi=>by obtain ⟨a,ha,rfl⟩:=Bf.1 hi;exact (hm a ha).1) (λa ha=>ha) (p2.and p1) hc λa ha x hx=>dg (hm a ha).1 hx))
  obtain ⟨w',h5,_,h6⟩:=hs
  exact ⟨w0,((h5.symm.trans (ef h6)).symm),g1,g3⟩
 ·exact .inr (BK hw h)
theorem lC {ops:Array Oper} {draw:Bool} {w:WS} (hw:w.OK) {K:WS->Prop} (h:sx T Γ ops draw w K):kZ T Γ ops draw w.st (λs=> ∃w':WS,w'.st=s/\w'.OK/\K w'):=by
 unfold sx at h
 split at h
 ·split at h
  ·rename_i ho
   obtain ⟨w1,h1,h2,h3⟩:=Oo _ hw h
   obtain ⟨w2,h4,h5⟩:=fE _ h2 h3
   exact .inl ⟨w2.st,by simp only [Sr,Pl];rw [Ab ho,h1];exact h4,w2,rfl,h5⟩
  ·rename_i ho
   split at h
   ·rename_i ho2
    obtain ⟨w1,h1,h2,h3⟩:=Oo _ hw h
    obtain ⟨w2,h4,h5⟩:=fE _ h2 h3
    exact .inl ⟨w2.st,by simp only [Sr,Pl];rw [Ai (by rw [ho];decide),Ab ho2,h1];exact h4,w2,rfl,h5⟩
   ·split at h
    ·rename_i hc
     simp only [Ah] at hc
     obtain ⟨w1,h1,h2,h3⟩:=Oo _ hw h
     split at h3
     ·exact .inr ⟨rfl,hc.1,w1.st,h1, .inl (m4 _ _ h2 h3)⟩
     ·obtain ⟨w0,g1,g2⟩:=bb _ _ h2 h3
      obtain ⟨g3,g4⟩:=Pe.1 g2
      exact .inr ⟨rfl,hc.1,w1.st,h1, .inl (ki (λs hs=>by
       obtain ⟨w',h5,_,h6⟩:=hs
       exact ⟨w0,((h5.symm.trans (ef h6)).symm),g1,g3⟩) _ _ _ (m4 _ _ h2 g4))⟩
    ·split at h
     ·rename_i SA
      obtain ⟨w1,h1,h2,h3⟩:=Oo _ hw h
      exact .inr ⟨rfl,SA,w1.st,h1,vZ h2 (aW _ _ _ qD) h3⟩
     ·cases h
 ·obtain ⟨w1,h1,h2⟩:=uw _ hw h
  exact .inl ⟨w1.st,by simp only [Sr];rw [Ai (by simp)];exact h1,w1,rfl,h2⟩
theorem wN {ops:Array Oper} {draw:Bool} {w:WS} (hw:w.OK) {K:WS->Prop} (h:BN T Γ ops draw w K):za T Γ ops draw w.st (λs=> ∃w':WS,w'.st=s/\w'.OK/\K w'):=by
 unfold BN at h
 split at h
 ·rename_i hb
  have b3:=(Cx.1 hb).2
  refine .inr ⟨vL ops,b3,?_⟩
  split at h
  ·rename_i hc
   simp only [Ah,Abh] at hc
   obtain ⟨w1,h1,h2,h3⟩:=Oo _ hw h
   exact .inr ⟨hc.1,hc.2.2.1,w1.st,h1, .inr (HN b3 h2 h3)⟩
  ·exact (lC hw h).mono λs ⟨w',h1,h2,h3⟩=>⟨w'.Re (vL ops),by rw [<-h1];rfl,h2.Re _,h3⟩
 ·exact .inl (lC hw h)
end
end Go.Proofs.YtkkdpknjohcekaaGreat
