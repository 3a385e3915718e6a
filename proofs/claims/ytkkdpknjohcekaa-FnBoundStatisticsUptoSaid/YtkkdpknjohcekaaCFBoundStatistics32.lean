/-
  Part 33 of the proof that the statement FnBoundStatistics holds.
-/
import Derived.Test.YtkkdpknjohcekaaCFBoundStatistics31
namespace Go.Proofs.Ytkkdpknjohcekaa
open Go.RowKit
section
variable {T:Tab} {Γ:Env}
def WS.OK (w:WS):Prop:= ∀t b,nI w.kn t=some b-> ∃fr,w.st.get t= .at (.data fr .bool b)
theorem mb: ∀(l:List (Nat×Bool)) (d t:Nat) (b:Bool),nI (xq l d) t=some b->t≠d/\nI l t=some b
 | [],_,_,_,h=>by cases h
 |(k,c)::r,d,t,b,h=>by
  simp only [xq] at h
  split at h
  ·rename_i hk
   have:=mb r d t b h
   refine ⟨this.1,?_⟩
   simp only [nI]
   rw [Ak (by rw [hk];exact λh=>this.1 h.symm)]
   exact this.2
  ·rename_i hk
   simp only [nI] at h⊢
   split at h
   ·rename_i hkt
    exact ⟨by rw [<-hkt];exact hk,by rw [Ac hkt];exact h⟩
   ·rename_i hkt
    rw [Ak hkt]
    exact mb r d t b h
theorem WS.OK.put {w:WS} (h:w.OK) (dst:Option Tmp) (v:AV):(w.put dst v).OK:=by
 cases dst with
 |none=>exact h
 |some d=>
  intro t b hb
  obtain ⟨h1,h2⟩:=mb _ _ _ _ hb
  obtain ⟨fr,h3⟩:=h t b h2
  exact ⟨fr,by show (w.st.put (some d) v).get t=_;rw [bN _ _ h1];exact h3⟩
theorem WS.ug (w:WS) (dst:Option Tmp) (v:AV):(w.put dst v).st=w.st.put dst v:=by cases dst<;>rfl
theorem WS.OK.to {w:WS} (h:w.OK) {s:St} (hs:Co w.st s):(w.to s).OK:=by
 intro t b hb
 obtain ⟨fr,h3⟩:=h t b hb
 exact ⟨fr,hs t fr _ _ h3⟩
theorem wY {w:WS} (hw:w.OK) {t:Nat} {K:Bool->WS->Prop} (h:brT w t K):
  ∃fr b w',w.st.get t= .at (.data fr .bool b)/\w'.st=w.st/\w'.OK/\K b w':=by
 unfold brT at h
 split at h
 ·rename_i b hb
  obtain ⟨fr,h1⟩:=hw t b hb
  exact ⟨fr,b,w,h1,rfl,hw,h⟩
 ·split at h
  ·rename_i fr b hb
   obtain ⟨h1,h2⟩:=h
   have ok: ∀c:Bool,b=c->WS.OK {kn:=(t,c)::w.kn,st:=w.st} :=by
    intro c hc t' b' h'
    simp only [nI] at h'
    split at h'
    ·rename_i ht
     injection h' with h'
     exact ⟨fr,by rw [<-ht,<-h',<-hc];exact hb⟩
    ·exact hw t' b' h'
   cases b with
   |true=>exact ⟨fr,true, {kn:=(t,true)::w.kn,st:=w.st},hb,rfl,ok true rfl,h1 rfl⟩
   |false=>exact ⟨fr,false, {kn:=(t,false)::w.kn,st:=w.st},hb,rfl,ok false rfl,h2 rfl⟩
  ·cases h
theorem wX {w:WS} (hw:w.OK) {c:Operand} {K:Bool->WS->Prop} (h:brO w c K):
  ∃fr b w',w.st.ev c= .at (.data fr .bool b)/\w'.st=w.st/\w'.OK/\K b w':=by
 unfold brO at h
 split at h
 ·exact wY hw h
 ·exact ⟨true,_,w,rfl,rfl,hw,h⟩
 ·cases h
theorem JR {op:BinOp} {t:TypeId} {x y:AV} {K:AV->Prop} (h:Ah0 T op t x y K): ∃v,Tx T op t x y=some v/\K v:=by
 unfold Ah0 at h
 split at h
 ·split at h
  ·rename_i hk
   exact ⟨_,by simp only [Tx,evalBin,tF];rw [Ac hk,Ak h.1];rfl,h.2⟩
  ·cases h
 ·split at h
  ·rename_i hk
   exact ⟨_,by simp only [Tx,evalBin,tF];rw [Ac hk,Ak h.1];rfl,h.2⟩
  ·cases h
 ·exact ⟨_,by simp only [Tx,evalBin];rw [Ak h.1];rfl,h.2⟩
 ·exact ⟨_,by simp only [Tx,evalBin];rw [Ak h.1];rfl,h.2⟩
 ·exact ⟨_,by simp only [Tx,evalBin];rw [Ac h.1],h.2⟩
 ·exact Ca.1 h
theorem FD {st:St} {t:TypeId} {p:AV} {K:AV->Prop} (h:ZO T st t p K): ∃v,Qm T st t p=some v/\K v:=by
 unfold ZO at h
 split at h
 ·obtain ⟨τ,h1,h2⟩:=Ca.1 h
  split at h2
  ·rename_i hb
   split at h2
   ·rename_i he
    obtain ⟨x,h3,h4⟩:=h2
    exact ⟨_,by simp only [Qm,h1,hb,Ac he,h3];rfl,h4⟩
   ·cases h2
  ·rename_i hb
   split at h2
   ·rename_i he
    obtain ⟨x,h3,h4⟩:=h2
    exact ⟨_,by simp only [Qm,h1,hb,Ac he,h3];rfl,h4⟩
   ·cases h2
  ·rename_i hb
   split at h2
   ·cases h2
   ·rename_i he
    exact ⟨_,by simp only [Qm,h1,hb,Ak he],h2⟩
  ·cases h2
 ·obtain ⟨τ,h1,h2⟩:=Ca.1 h
  split at h2
  ·rename_i he
   obtain ⟨y,h3,h4⟩:=h2
   subst h3
   exact ⟨_,by simp only [Qm,h1,Ac he],h4⟩
  ·cases h2
 ·exact Ca.1 h
theorem oW {s:TypeId} {x:AV} {f:Nat} {K:AV->Prop} (h:lW T s x f K): ∃v,Og T s x f=some v/\K v:=by
 unfold lW at h
 split at h
 ·obtain ⟨y,h1,h2⟩:=h
  subst h1
  obtain ⟨v,h3,h4⟩:=Ca.1 h2
  refine ⟨v,?_,h4⟩
  rw [<-h3]
  unfold Og
  cases T.off s f<;>rfl
 ·exact Ca.1 h
theorem AE {st:St} {t:TypeId} {x:AV} {lo hi:Option AV} {K:AV->Prop} (h:NM T st t x lo hi K): ∃v,dY T st t x lo hi=some v/\K v:=by
 unfold NM at h
 obtain ⟨n,h1,h⟩:=Ca.1 h
 obtain ⟨l,h2,h⟩:=Ca.1 h
 obtain ⟨hh,h3,hc,h⟩:=Ca.1 h
 obtain ⟨v,h4,h5⟩:=Ca.1 h
 refine ⟨v,?_,h5⟩
 simp only [dY,h1,h2,h3,Ac hc]
 exact h4
theorem p9 {st:St} {t:TypeId} {x i:AV} {K:AV->Prop} (h:m8 T st t x i K): ∃v,Kv T st t x i=some v/\K v:=by
 unfold m8 at h
 split at h
 ·split at h
  ·rename_i he
   obtain ⟨x,h3,h4⟩:=h
   exact ⟨_,by simp only [Kv,Ac he,h3];rfl,h4⟩
  ·cases h
 ·split at h
  ·rename_i hb
   split at h
   ·rename_i he
    obtain ⟨h3,h4⟩:=h
    exact ⟨_,by simp only [Kv,hb];rw [Ac ⟨he.1,he.2,Ui.2 h3⟩],h4⟩
   ·cases h
  ·rename_i hb
   split at h
   ·rename_i he
    obtain ⟨h3,h4⟩:=h
    exact ⟨_,by simp only [Kv,hb];rw [Ac ⟨he.1,he.2,Ui.2 h3⟩],h4⟩
   ·cases h
  ·rename_i hb
   split at h
   ·rename_i he
    obtain ⟨h3,h4⟩:=h
    exact ⟨_,by simp only [Kv,hb];rw [Ac ⟨he.1,he.2,Ui.2 h3⟩],h4⟩
   ·cases h
  ·cases h
 ·split at h
  ·rename_i hb
   split at h
   ·rename_i he
    obtain ⟨h3,h4⟩:=h
    exact ⟨_,by simp only [Kv,hb];rw [Ac ⟨he,Ui.2 h3⟩],h4⟩
   ·cases h
  ·cases h
 ·cases h
theorem zb {t:TypeId} {x i:AV} {K:AV->Prop} (h:LF T t x i K): ∃v,jM T t x i=some v/\K v:=by
 unfold LF at h
 split at h
 ·split at h
  ·rename_i he
   obtain ⟨h1,b,h3,h4⟩:=h
   exact ⟨_,by simp only [jM,Ac he,Ac h1,h3];rfl,h4⟩
  ·cases h
 ·cases h
theorem cv {st:St} {f:FuncId} {args:List AV} {K:AV->Prop} (h:wZ Γ st f args K): ∃v,Oy Γ st f args=some v/\K v:=by
 unfold wZ at h
 obtain ⟨s,h1,h⟩:=Ca.1 h
 have h1:Γ f=some (.q s):=by
  split at h1
  ·rename_i s' hs;injection h1 with h1;rw [hs,h1]
  ·cases h1
 split at h
 ·rename_i hf
  obtain ⟨p,h2,y,h3,h4⟩:=Ca.1 h
  refine ⟨_,?_,h4⟩
  simp only [Oy,h1]
  rw [Ac hf,h2]
  simp only [h3]
  rfl
 ·cases h
theorem yG {st:St} {v:AV} {args:List AV} {K:AV->Prop} (h:JU Γ st v args K): ∃u,Yh Γ st v args=some u/\K u:=by
 unfold JU at h
 split at h
 ·split at h
  ·rename_i hc
   split at h
   ·rename_i hf
    obtain ⟨u,h1,h2⟩:=cv h
    exact ⟨u,by simp only [Yh];rw [Ac hc,Ac (by simpa using hf)];exact h1,h2⟩
   ·rename_i hf
    obtain ⟨u,h1,h2⟩:=cv h
    exact ⟨u,by simp only [Yh];rw [Ac hc,Ak (λhx=>by rw [show Nat.blt _ 1000000000=true from by simpa using hx] at hf;cases hf)];exact h1,h2⟩
  ·cases h
 ·exact cv h
 ·cases h
theorem Ps {w:WS} (hw:w.OK) {x:Operand} {b:Bool} (hk:Wr w.kn x=some b): ∃fr,w.st.ev x= .at (.data fr .bool b):=by
 unfold Wr at hk
 split at hk
 ·injection hk with hk;subst hk;exact ⟨true,rfl⟩
 ·exact hw _ _ hk
 ·cases hk
theorem vX {w:WS} (hw:w.OK) {o:Oper} {b:Bool} (hk:Hk w.kn o=some b) {v:AV} (he:Fa T Γ w.st o=some v): ∃fr,v= .at (.data fr .bool b):=by
 unfold Hk at hk
 split at hk
 ·rename_i heq;unfold Fa at he;rw [heq] at he;injection he with he;obtain ⟨fr,h⟩:=Ps hw hk;exact ⟨fr,he.symm.trans h⟩
 ·rename_i heq;unfold Fa at he;rw [heq] at he;injection he with he;obtain ⟨fr,h⟩:=Ps hw hk;exact ⟨fr,he.symm.trans h⟩
 ·rename_i x heq
  cases hx:Wr w.kn x with
  |none=>rw [hx] at hk;cases hk
  |some c=>
   rw [hx] at hk
   injection hk with hk
   obtain ⟨fr,h⟩:=Ps hw hx
   unfold Fa at he;rw [heq] at he
   simp only [h,yP,Pk] at he
   injection he with he
   exact ⟨true,by rw [<-he,<-hk]⟩
 ·rename_i c x y heq
  unfold Fa at he;rw [heq] at he
  split at hk
  ·rename_i hc
   obtain ⟨fr,h⟩:=Ps hw hc
   simp only [h,dX,Po] at he
   injection he with he
   obtain ⟨fr,h⟩:=Ps hw hk
   exact ⟨fr,he.symm.trans h⟩
  ·rename_i hc
   obtain ⟨fr,h⟩:=Ps hw hc
   simp only [h,dX,Dc,Rn] at he
   injection he with he
   obtain ⟨fr,h⟩:=Ps hw hk
   exact ⟨fr,he.symm.trans h⟩
  ·cases hk
 ·cases hk
theorem tZ {w:WS} (hw:w.OK) {o:Oper} {x:Operand} (ho:o.op= .assign x) {b:Bool} (hk:Hk w.kn o=some b) {v:AV} {s:St} (he:evalOp T Γ w.st o=some (v,s)): ∃fr,v= .at (.data fr .bool b):=by
 unfold Hk at hk
 rw [ho] at hk
 obtain ⟨fr,h⟩:=Ps hw hk
 unfold evalOp at he;rw [ho] at he
 simp only [h] at he
 injection he with he;injection he with he;exact ⟨fr,he.symm⟩
theorem je {w:WS} (hw:w.OK) {o:Oper} {K:AV->WS->Prop} (h:qW T Γ w o K):
  ∃v w',Fa T Γ w.st o=some v/\w'.st=w.st/\w'.OK/\(∀b,Hk w'.kn o=some b-> ∃fr,v= .at (.data fr .bool b))/\K v w':=by
 have fin:(∃v w',Fa T Γ w.st o=some v/\w'.st=w.st/\w'.OK/\K v w')-> ∃v w',Fa T Γ w.st o=some v/\w'.st=w.st/\w'.OK/\(∀b,Hk w'.kn o=some b-> ∃fr,v= .at (.data fr .bool b))/\K v w':=by
  rintro ⟨v,w',h1,h2,h3,h4⟩
  exact ⟨v,w',h1,h2,h3,λb hb=>vX h3 hb (by rw [h2];exact h1),h4⟩
 refine fin ?_
 unfold qW at h
 split at h
 ·rename_i c a b heq
  obtain ⟨fr,t,w',h1,h2,h3,h4⟩:=wX hw h
  cases t with
  |true=>exact ⟨_,w',by unfold Fa;rw [heq];simp only [h1,dX,Po];rw [<-h2],h2,h3,h4⟩
  |false=>exact ⟨_,w',by unfold Fa;rw [heq];simp only [h1,dX];rw [<-h2];simp,h2,h3,h4⟩
 ·rename_i heq
  obtain ⟨v,h1,h2⟩:=FD h
  exact ⟨v,w,by unfold Fa;rw [heq];exact h1,rfl,hw,h2⟩
 ·rename_i heq
  obtain ⟨v,h1,h2⟩:=JR h
  exact ⟨v,w,by unfold Fa;rw [heq];exact h1,rfl,hw,h2⟩
 ·rename_i heq
  split at h
  ·obtain ⟨v,h1,h2⟩:=AE h
   exact ⟨v,w,by unfold Fa;rw [heq];simpa using h1,rfl,hw,h2⟩
  ·cases h
 ·rename_i heq
  obtain ⟨v,h1,h2⟩:=p9 h
  exact ⟨v,w,by unfold Fa;rw [heq];exact h1,rfl,hw,h2⟩
 ·rename_i heq
  obtain ⟨v,h1,h2⟩:=zb h
  exact ⟨v,w,by unfold Fa;rw [heq];exact h1,rfl,hw,h2⟩
 ·rename_i heq
  obtain ⟨v,h1,h2⟩:=cv h
  exact ⟨v,w,by unfold Fa;rw [heq];exact h1,rfl,hw,h2⟩
 ·rename_i heq
  obtain ⟨v,h1,h2⟩:=yG h
  exact ⟨v,w,by unfold Fa;rw [heq];exact h1,rfl,hw,h2⟩
 ·rename_i heq
  obtain ⟨v,h1,h2⟩:=oW h
  exact ⟨v,w,by unfold Fa;rw [heq];exact h1,rfl,hw,h2⟩
 ·rename_i x heq
  unfold xC at h
  split at h
  ·rename_i fr τ z hx
   obtain ⟨y,h1,h2⟩:=h
   subst h1
   exact ⟨_,w,by unfold Fa;rw [heq];simp only [hx],rfl,hw,h2⟩
  ·obtain ⟨v,h1,h2⟩:=Ca.1 h
   exact ⟨v,w,h1,rfl,hw,h2⟩
 ·obtain ⟨v,h1,h2⟩:=Ca.1 h
  exact ⟨v,w,h1,rfl,hw,h2⟩
theorem AU {st:St} {t:TypeId} {p v:AV} {K:St->Prop} (h:NY T st t p v K): ∃s,Vc T st t p v=some s/\K s:=by
 unfold NY at h
 split at h
 ·obtain ⟨τ,h1,h⟩:=Ca.1 h
  obtain ⟨q,h2,h⟩:=Ca.1 h
  split at h
  ·rename_i hb
   obtain ⟨u,h3,h⟩:=Ca.1 h
   split at h
   ·rename_i hc
    obtain ⟨h4,h5⟩:=h
    obtain ⟨q1,q2⟩:=q
    obtain ⟨u1,u2⟩:=u
    exact ⟨_,by simp only [Vc,h1,h2,hb,h3];rw [Jf hc,Ac h4],h5⟩
   ·cases h
  ·cases h
 ·exact Ca.1 h
theorem wz {st:St} {t:TypeId} {p v:AV} {K:St->Prop} (h:AQ T st t p v K): ∃s,Py T st t p v=some s/\K s:=by
 unfold AQ at h
 unfold Py
 split at h
 rotate_left
 ·rename_i hg;rw [hg];exact AU h
 rename_i hg
 rw [hg]
 simp only
 unfold RG at h
 split at h
 ·obtain ⟨τ,h1,h⟩:=Ca.1 h
  obtain ⟨q,h2,h⟩:=Ca.1 h
  split at h
  ·rename_i hb
   obtain ⟨u,h3,h⟩:=Ca.1 h
   split at h
   ·rename_i hc
    obtain ⟨q1,q2⟩:=q
    obtain ⟨u1,u2⟩:=u
    exact ⟨_,by simp only [bJ,h1,h2,hb,h3];rw [Jf hc],h⟩
   ·cases h
  ·cases h
 ·rename_i l j
  obtain ⟨τ,h1,h⟩:=Ca.1 h
  split at h
  ·rename_i e te rows out kp m off len hl _
   split at h
   ·rename_i fr tr e' tid xs hm
    split at h
    ·rename_i hc
     obtain ⟨h2,h3,h4,h5⟩:=h
     have h4:out=none\/out=some j:=by
      cases out with
      |none=>exact .inl rfl
      |some i=>exact .inr (Gc some h4)
     exact ⟨_,by simp only [bJ,h1,hl,hm];rw [Jf ⟨hc.1,hc.2,h2,h3,h4⟩],h5⟩
    ·cases h
   ·cases h
  ·cases h
 ·cases h
theorem Zi {st:St} {d:Nat} {t:TypeId} {x y:Operand} {K:AV->St->Prop} (h:mK T st d t x y K): ∃v s,Of T st d t x y=some (v,s)/\K v s:=by
 unfold mK at h
 obtain ⟨te,h1,h⟩:=Ca.1 h
 obtain ⟨e,h2,h⟩:=Ca.1 h
 obtain ⟨q,h3,h⟩:=Ca.1 h
 obtain ⟨u,h4,h⟩:=Ca.1 h
 obtain ⟨q1,q2⟩:=q
 obtain ⟨u1,u2⟩:=u
 split at h
 ·rename_i hx
  split at h
  ·rename_i hd
   obtain ⟨h5,h6⟩:=h
   refine ⟨_,_,?_,h6⟩
   simp only [Of,h1,h2,h3,h4]
   rw [hx]
   simp only
   rw [Ac ⟨h5,by simpa [Nn] using hd⟩]
   simp
  ·cases h
 ·rename_i l off len hx
  split at h
  ·rename_i fr tr e' tid xs hb
   split at h
   ·rename_i hc
    obtain ⟨h5,h6,h7,h8⟩:=h
    refine ⟨_,_,?_,h8⟩
    simp only [Of,h1,h2,h3,h4]
    rw [hx]
    simp only [hb]
    rw [Jf ⟨hc.1,hc.2.1⟩,Ac ⟨h7,by simpa [Nn] using hc.2.2⟩]
    obtain ⟨hc1,hc2,hc3⟩:=hc
    subst hc1
    subst h5
    simp only [Dj,h6,Aw,Au]
   ·cases h
  ·cases h
 ·cases h
theorem sx {st:St} {d:Nat} {t:TypeId} {x y:Operand} {K:AV->St->Prop} (h:sw T st d t x y K): ∃v s,Rt T st d t x y=some (v,s)/\K v s:=by
 unfold sw at h
 cases x with
 |tmp tx=>
  simp only at h
  unfold Rt
  simp only
  cases hg:st.get tx with
  | «at»c=>
   rw [hg] at h
   cases c with
   |sub l i c=>
    simp only at h⊢
    obtain ⟨tid,h1,h⟩:=Ca.1 h
    split at h
    ·rename_i hl
     split at h
     ·rename_i hc
      obtain ⟨v,s,h2,h3⟩:=Zi h
      refine ⟨v,s,?_,h3⟩
      simp only [hl,h1]
      rw [Ac hc]
      exact h2
     ·cases h
    ·cases h
   |_=>exact Zi h
  |_=>rw [hg] at h;exact Zi h
 |_=>exact Zi h
theorem FJ {st:St} {d:Nat} {t:TypeId} {l c:AV} {K:AV->St->Prop} (h:ZT T st d t l c K): ∃v s,bH T st d t l c=some (v,s)/\K v s:=by
 unfold ZT at h
 split at h
 ·obtain ⟨te,h1,h⟩:=Ca.1 h
  obtain ⟨e,h2,h⟩:=Ca.1 h
  split at h
  ·rename_i hz
   obtain ⟨h3,h4,h5⟩:=h
   refine ⟨_,_,?_,h5⟩
   simp only [Af] at hz
   simp only [bH,h1,h2]
   rw [Ac ⟨Ui.2 (by exact_mod_cast h3),h4,hz.1,by simpa [Nn] using hz.2⟩]
   simp
  ·cases h
 ·cases h
theorem zw {st:St} {d:Nat} {t:TypeId} {l c:AV} {K:AV->St->Prop} (h:LW T st d t l c K): ∃v s,Yi T st d t l c=some (v,s)/\K v s:=by
 unfold LW at h
 unfold Yi
 cases hg:e8 T t with
 |none=>rw [hg] at h;exact FJ h
 |some p=>
  obtain ⟨te,e⟩:=p
  rw [hg] at h
  simp only at h⊢
  split at h
  ·split at h
   ·rename_i hd
    obtain ⟨h3,h4,h5⟩:=h
    refine ⟨_,_,?_,h5⟩
    simp only
    rw [Ac ⟨Ui.2 (by exact_mod_cast h3),h4,by simpa [Nn] using hd⟩]
    simp
   ·cases h
  ·cases h
theorem lT {st:St} {d:Nat} {t:TypeId} {len:Nat} {parts:Array (Nat×Operand)} {K:AV->St->Prop} (h:eV T st d t len parts K): ∃v s,Jg T st d t len parts=some (v,s)/\K v s:=by
 unfold eV at h
 unfold Jg
 cases hg:e8 T t with
 |none=>
  rw [hg] at h
  obtain ⟨r,h1,h2⟩:=Ca.1 h
  exact ⟨r.1,r.2,h1,h2⟩
 |some p=>
  obtain ⟨te,e⟩:=p
  rw [hg] at h
  simp only at h⊢
  split at h
  ·rename_i x hp
   split at h
   ·rename_i m off ln hx
    split at h
    ·rename_i hm
     split at h
     ·rename_i hc
      obtain ⟨h1,h2,h3⟩:=h
      refine ⟨_,_,?_,h3⟩
      simp only [hp,hx,hm]
      rw [Jf ⟨hc.1,hc.2,h1,h2⟩]
     ·cases h
    ·cases h
   ·cases h
  ·cases h
theorem sA {st:St} {d:Nat} {t:TypeId} {x y:Operand} {K:AV->St->Prop} (h:sy T st d t x y K): ∃v s,Ru T st d t x y=some (v,s)/\K v s:=by
 unfold sy at h
 unfold Ru
 cases hg:e8 T t with
 |none=>rw [hg] at h;exact sx h
 |some p=>
  obtain ⟨te,e⟩:=p
  rw [hg] at h
  simp only at h⊢
  split at h
  ·rename_i l off len m Aa1 tN hx hy
   split at h
   ·rename_i hl hm
    split at h
    ·rename_i hc
     obtain ⟨h1,h2,h3,h4,h5⟩:=h
     obtain ⟨⟨rfl,rfl⟩,hc⟩:=hc
     refine ⟨_,_,?_,h5⟩
     simp only [hx,hy,hl,hm]
     rw [Jf (⟨⟨trivial,trivial⟩,hc,h1,h2,h3,h4⟩)]
     simp
    ·cases h
   ·cases h
  ·cases h
theorem BF {st:St} {io:Bool} {k:Nat} {c:CK} {a:AC} {K:c.den->List (Nat×Loc)->Prop} (h:fR st io k c a K): ∃x t,Mg st io k c a=some (x,t)/\K x t:=by
 cases c with
 |Fy τ=>
  cases a with
  |own l off len=>
   obtain ⟨p,h1,h2⟩:=Ca.1 h
   exact ⟨_,_,by simp only [Mg];rw [h1];rfl,h2⟩
  |clo g Ee=>
   simp only [fR] at h
   split at h
   ·rename_i hc
    obtain ⟨p,h1,h2⟩:=Ca.1 h
    exact ⟨_,_,by simp only [Mg];rw [Ac hc,h1];rfl,h2⟩
   ·cases h
  |Hj l i=>
   simp only [fR] at h
   split at h
   ·rename_i hc
    obtain ⟨p,h1,h2⟩:=Ca.1 h
    exact ⟨_,_,by simp only [Mg];rw [Ac hc,h1];rfl,h2⟩
   ·cases h
  |sub l i c=>
   obtain ⟨p,h1,h2⟩:=Ca.1 h
   exact ⟨_,_,by simp only [Mg];rw [h1];rfl,h2⟩
  |_=>
   simp only [fR] at h
   split at h
   ·rename_i hc
    obtain ⟨p,h1,h2⟩:=Ca.1 h
    exact ⟨_,_,by simp only [Mg];rw [Ac hc,h1];rfl,h2⟩
   ·cases h
 |row e te=>
  cases a<;>simp only [fR] at h<;>first|(cases h;done)|skip
  ·exact ⟨_,_,rfl,h⟩
  ·split at h
   ·rename_i hl
    split at h
    ·rename_i hc
     obtain ⟨h1,h2,h3⟩:=h
     exact ⟨_,_,by simp only [Mg,hl];rw [Jf ⟨hc.1,hc.2,h1,h2⟩],h3⟩
    ·cases h
   ·cases h
  ·split at h
   ·rename_i hl
    split at h
    ·rename_i hc
     obtain ⟨y,h1,h2⟩:=h
     exact ⟨_,_,by simp only [Mg,hl];rw [Jf hc,h1];rfl,h2⟩
    ·cases h
   ·cases h
 |Hw e te=>
  cases a<;>simp only [fR] at h<;>first|(cases h;done)|skip
  ·exact ⟨_,_,rfl,h⟩
  ·split at h
   ·rename_i hl
    split at h
    ·rename_i hc
     obtain ⟨h1,h2,h3⟩:=h
     exact ⟨_,_,by simp only [Mg,hl];rw [Jf ⟨hc.1,hc.2,h1,h2⟩],h3⟩
    ·cases h
   ·cases h
  ·split at h
   ·rename_i hl
    split at h
    ·rename_i hc
     obtain ⟨y,h1,h2⟩:=h
     exact ⟨_,_,by simp only [Mg,hl];rw [Jf hc,h1];rfl,h2⟩
    ·cases h
   ·cases h
 |part e te=>
  cases a<;>simp only [fR] at h<;>first|(cases h;done)|skip
  split at h
  ·rename_i hl
   split at h
   ·rename_i hc
    exact ⟨_,_,by simp only [Mg,hl];rw [Jf hc],h⟩
   ·cases h
  ·cases h
 |Bl e te kp=>
  cases a<;>simp only [fR] at h<;>first|(cases h;done)|skip
  split at h
  ·rename_i hl
   split at h
   ·rename_i hc
    obtain ⟨h1,h2,h3⟩:=h
    exact ⟨_,_,by simp only [Mg,hl];rw [Jf ⟨hc.1,hc.2.1,h1,h2,hc.2.2⟩],h3⟩
   ·cases h
  ·cases h
theorem GY {st:St} {e:Ty} {ys:List e.den} {a:AC} {K:St->Prop} (h:Aam st e ys a K): ∃s,MY st e ys a=some s/\K s:=by
 cases a<;>simp only [Aam] at h<;>first|(cases h;done)|skip
 split at h
 ·rename_i hl
  split at h
  ·rename_i hc
   obtain ⟨h1,h3⟩:=h
   exact ⟨_,by simp only [MY,hl];rw [Jf ⟨hc,h1⟩],h3⟩
  ·cases h
 ·cases h
theorem lx {st:St} : ∀(cs:List (Bool×CK)) (k:Nat) (as:List AC) (K:Ins.den cs->List (Nat×Loc)->Prop),BG st k cs as K-> ∃x t,fS st k cs as=some (x,t)/\K x t
 | [],_,[],_,h=>⟨_,_,rfl,h⟩
 | [],_,_::_,_,h=>h.elim
 |_::_,_,[],_,h=>h.elim
 |p::r,k,a::as,K,h=>by
  obtain ⟨x,t1,h1,h2⟩:=BF h
  obtain ⟨y,t2,h3,h4⟩:=lx r (k+1) as _ h2
  exact ⟨_,_,by simp only [fS,h1,h3],h4⟩
theorem qJ {st:St} {c:CK} {ys:c.den} {a:AC} {K:St->Prop} (h:qI st c ys a K): ∃s,cp st c ys a=some s/\K s:=by
 cases c with
 |Fy τ=>cases a<;>simp only [qI] at h<;>first|(cases h;done)|exact ⟨_,rfl,h⟩
 |row e te=>
  cases a<;>simp only [qI] at h<;>first|(cases h;done)|skip
  ·exact ⟨_,rfl,h⟩
  ·split at h
   ·rename_i hl
    split at h
    ·rename_i hc
     obtain ⟨h1,h3⟩:=h
     exact ⟨_,by simp only [cp,hl];rw [Jf ⟨hc,h1⟩],h3⟩
    ·cases h
   ·cases h
  ·split at h
   ·rename_i hl
    split at h
    ·rename_i hc
     obtain ⟨y,h1,h2,h3⟩:=h
     exact ⟨_,by simp only [cp,hl,Jf hc,h1];rw [Ac h2],h3⟩
    ·cases h
   ·cases h
 |Hw e te=>
  cases a<;>simp only [qI] at h<;>first|(cases h;done)|skip
  ·exact ⟨_,rfl,h⟩
  ·split at h
   ·rename_i hl
    split at h
    ·rename_i hc
     obtain ⟨h1,h3⟩:=h
     exact ⟨_,by simp only [cp,hl];rw [Jf ⟨hc,h1⟩],h3⟩
    ·cases h
   ·cases h
  ·split at h
   ·rename_i hl
    split at h
    ·rename_i hc
     obtain ⟨y,h1,h2,h3⟩:=h
     exact ⟨_,by simp only [cp,hl,Jf hc,h1];rw [Ac h2],h3⟩
    ·cases h
   ·cases h
 |part e te=>cases a<;>simp only [qI] at h<;>first|(cases h;done)|exact ⟨_,rfl,h⟩
 |Bl e te kp=>cases a<;>simp only [qI] at h<;>first|(cases h;done)|exact ⟨_,rfl,h⟩
theorem Qc: ∀(cs:List (Bool×CK)) (o:IOs.den cs) (as:List AC) (st:St) (K:St->Prop),jd cs o as st K-> ∃s,Ih cs o as st=some s/\K s
 | [],_,_,st,K,h=>⟨st,rfl,h⟩
 |(true, .Fy _)::r,o,[],st,K,h=>h.elim
 |(true, .row _ _)::r,o,[],st,K,h=>h.elim
 |(true, .Hw _ _)::r,o,[],st,K,h=>h.elim
 |(true, .part _ _)::r,o,[],st,K,h=>h.elim
 |(true, .Bl _ _ _)::r,o,[],st,K,h=>h.elim
 |(true, .Bl _ _ _)::r,o,a::as,st,K,h=>by
  obtain ⟨s,h1,h2⟩:=Qc r o as st K h
  exact ⟨s,by simp only [Ih];exact h1,h2⟩
 |(false,_)::r,o,[],st,K,h=>h.elim
 |(true, .Fy _)::r,o,a::as,st,K,h=>by
  obtain ⟨s,h1,h2⟩:=Qc r o as st K h
  exact ⟨s,by simp only [Ih];exact h1,h2⟩
 |(false,_)::r,o,a::as,st,K,h=>by
  obtain ⟨s,h1,h2⟩:=Qc r o as st K h
  exact ⟨s,by simp only [Ih];exact h1,h2⟩
 |(true, .row _ _)::r,o,a::as,st,K,h=>by
  obtain ⟨s1,h1,h2⟩:=qJ h
  obtain ⟨s,h3,h4⟩:=Qc r o.2 as s1 K h2
  exact ⟨s,by simp only [Ih,h1];exact h3,h4⟩
 |(true, .part _ _)::r,o,a::as,st,K,h=>by
  obtain ⟨s1,h1,h2⟩:=GY h
  obtain ⟨s,h3,h4⟩:=Qc r o.2 as s1 K h2
  exact ⟨s,by simp only [Ih,h1];exact h3,h4⟩
 |(true, .Hw _ _)::r,o,a::as,st,K,h=>by
  obtain ⟨s1,h1,h2⟩:=qJ h
  obtain ⟨s,h3,h4⟩:=Qc r o.2 as s1 K h2
  exact ⟨s,by simp only [Ih,h1];exact h3,h4⟩
theorem qT {H:List (Nat×OB)} {ls:List Nat} {n:Nat} {K:Prop} : ∀(l:List AV),uS H ls n l K->dA H ls n l=true/\K
 | [],h=>⟨rfl,h⟩
 |a::r,h=>by
  have go:uS H ls n r K->dA H ls n r=true/\K:=qT r
  cases a with
  | «at»c=>
   cases c with
   |sub l i c=>
    simp only [uS] at h
    simp only [dA]
    split at h
    ·rename_i hc
     obtain ⟨⟨h1,h2⟩,h3⟩:=h
     obtain ⟨g1,g2⟩:=go h3
     exact ⟨by simp only [hc,g1,Bool.and_true,Bool.not_true,Xi,Af,Nn];exact ⟨h1,h2⟩,g2⟩
    ·rename_i hc
     obtain ⟨g1,g2⟩:=go h
     exact ⟨by simp only [hc,g1,Bool.not_false,Bool.true_or,Bool.and_true],g2⟩
   |_=>exact go h
  |_=>exact go h
theorem yF {st:St} {d:Option Nat} {s:MSpec} {args:List AV} {K:AV->St->Prop} (h:JT st d s args K): ∃v s',Yg st d s args=some (v,s')/\K v s':=by
 unfold JT at h
 obtain ⟨⟨pl,cells,rest⟩,h0,h⟩:=Ca.1 h
 obtain ⟨as,h1,h⟩:=Ca.1 h
 obtain ⟨x,tks,h2,h⟩:=lx s.ins 0 (cells++as) _ h
 split at h
 ·rename_i hc
  obtain ⟨⟨r,o⟩,h3,h⟩:=h
  obtain ⟨st1,h4,h⟩:=Qc s.ins o (cells++as) st _ h
  obtain ⟨v,h5,h6⟩:=Ca.1 h
  obtain ⟨h7,h6⟩:=qT _ h6
  refine ⟨v,_,?_,h6⟩
  unfold Yg
  simp only [h0,h1,h2]
  rw [Ac hc]
  simp only [h3,h4,h5]
  rw [Ac h7]
 ·cases h
theorem TN {w:WS} (hw:w.OK) {o:Oper} {K:AV->WS->Prop} (h:opW T Γ w o K):
  ∃v w',evalOp T Γ w.st o=some (v,w'.st)/\w'.OK/\(∀b,Hk w'.kn o=some b-> ∃fr,v= .at (.data fr .bool b))/\K v w':=by
 have fin: ∀v s,(∀b,Hk w.kn o=some b-> ∃fr,v= .at (.data fr .bool b))->evalOp T Γ w.st o=some (v,s)->K v (w.to s)-> ∃v w',evalOp T Γ w.st o=some (v,w'.st)/\w'.OK/\(∀b,Hk w'.kn o=some b-> ∃fr,v= .at (.data fr .bool b))/\K v w':=
  fun v s hk h1 h2=>⟨v,w.to s,h1,hw.to (nc h1),hk,h2⟩
 have yR:(∀b v s,Hk w.kn o=some b->evalOp T Γ w.st o=some (v,s)-> ∃fr,v= .at (.data fr .bool b))->Hz (evalOp T Γ w.st o) (λr=>K r.1 (w.to r.2))-> ∃v w',evalOp T Γ w.st o=some (v,w'.st)/\w'.OK/\(∀b,Hk w'.kn o=some b-> ∃fr,v= .at (.data fr .bool b))/\K v w':=by
  intro hk h
  obtain ⟨r,h1,h2⟩:=Ca.1 h
  exact fin r.1 r.2 (λb hb=>hk b _ _ hb h1) h1 h2
 unfold opW at h
 split at h
 ·rename_i heq
  obtain ⟨s,h1,h2⟩:=wz h
  refine fin _ _ (λb hb=>by unfold Hk at hb;rw [heq] at hb;cases hb) ?_ h2
  unfold evalOp;rw [heq];simp only [h1];rfl
 ·rename_i heq
  obtain ⟨d,h1,h⟩:=Ca.1 h
  obtain ⟨v,s,h2,h3⟩:=zw h
  refine fin _ _ (λb hb=>by unfold Hk at hb;rw [heq] at hb;cases hb) ?_ h3
  unfold evalOp;rw [heq];simp only [h1,h2]
 ·rename_i heq
  split at h
  ·rename_i hd ha ht
   split at h
   ·rename_i Vg
    obtain ⟨v,s,h2,h3⟩:=sA h
    refine fin _ _ (λb hb=>by unfold Hk at hb;rw [heq] at hb;cases hb) ?_ h3
    unfold evalOp;rw [heq];simp only [hd,ha,ht,Ac Vg,h2]
   ·cases h
  ·cases h
 ·rename_i heq;exact yR (λb v s hb he=>tZ hw heq hb he) h
 ·rename_i heq;exact yR (λb v s hb he=>by unfold Hk at hb;rw [heq] at hb;cases hb) h
 ·rename_i heq;exact yR (λb v s hb he=>by unfold Hk at hb;rw [heq] at hb;cases hb) h
 ·rename_i heq
  obtain ⟨d,h1,h⟩:=Ca.1 h
  obtain ⟨v,s,h2,h3⟩:=lT h
  refine fin _ _ (λb hb=>by unfold Hk at hb;rw [heq] at hb;cases hb) ?_ h3
  unfold evalOp;rw [heq];simp only [h1,h2]
 ·rename_i heq;exact yR (λb v s hb he=>by unfold Hk at hb;rw [heq] at hb;cases hb) h
 ·rename_i heq;exact yR (λb v s hb he=>by unfold Hk at hb;rw [heq] at hb;cases hb) h
 ·rename_i heq;exact yR (λb v s hb he=>by unfold Hk at hb;rw [heq] at hb;cases hb) h
 ·rename_i heq;exact yR (λb v s hb he=>by unfold Hk at hb;rw [heq] at hb;cases hb) h
 ·rename_i heq;exact yR (λb v s hb he=>by unfold Hk at hb;rw [heq] at hb;cases hb) h
 ·rename_i heq;exact yR (λb v s hb he=>by unfold Hk at hb;rw [heq] at hb;cases hb) h
 ·
  rename_i f _ _ heq
  split at h
  ·rename_i Pb
   obtain ⟨v,s',h1,h2⟩:=yF h
   refine fin v s' (λb hb=>by unfold Hk at hb;rw [heq] at hb;cases hb) ?_ h2
   unfold evalOp;rw [heq];simp only [Pb];exact h1
  ·rename_i s Pb
   split at h
   ·rename_i QG
    obtain ⟨st1,hs,h⟩:=Ca.1 h
    obtain ⟨v,w',h1,h2,h3,h3',h4⟩:=je (hw.to (Uk _ hs)) h
    refine ⟨v,w',?_,h3,h3',h4⟩
    have h1:Fa T Γ st1 o=some v:=h1
    have h2:w'.st=st1:=h2
    unfold evalOp
    rw [heq]
    simp only [Pb,QG,hs,h1,h2]
    rfl
   ·rename_i QG
    obtain ⟨v,w',h1,h2,h3,h3',h4⟩:=je hw h
    refine ⟨v,w',?_,h3,h3',h4⟩
    unfold evalOp
    rw [heq]
    simp only [Pb,QG,h1,h2]
    rfl
  ·rename_i Awy Aly
   obtain ⟨v,w',h1,h2,h3,h3',h4⟩:=je hw h
   refine ⟨v,w',?_,h3,h3',h4⟩
   unfold evalOp
   rw [heq]
   simp only
   rw [h1,h2];rfl
 ·rename_i n1 n2 n3 n4 n5 n6 n7 n8 n9 n10 n11 n12 n13 n14
  obtain ⟨v,w',h1,h2,h3,h3',h4⟩:=je hw h
  refine ⟨v,w',?_,h3,h3',h4⟩
  unfold evalOp
  split
  all_goals first
   |(rw [h1,h2];rfl)
   |(rename_i hq;exact absurd hq (by first|exact n1 _|exact n2 _|exact n3 _|exact n4 _|exact n5 _|exact n6 _|exact n7 _|exact n8 _|exact n9 _|exact n10 _|exact n11 _|exact n12 _|exact n13 _|exact n14 _))
   |(rename_i hq;exact absurd hq (by first|exact n1 _ _|exact n2 _ _|exact n3 _ _|exact n4 _ _|exact n5 _ _|exact n6 _ _|exact n7 _ _|exact n8 _ _|exact n9 _ _|exact n10 _ _|exact n11 _ _|exact n12 _ _|exact n13 _ _|exact n14 _ _))
   |(rename_i hq;exact absurd hq (by first|exact n1 _ _ _|exact n2 _ _ _|exact n3 _ _ _|exact n4 _ _ _|exact n5 _ _ _|exact n6 _ _ _|exact n7 _ _ _|exact n8 _ _ _|exact n9 _ _ _|exact n10 _ _ _|exact n11 _ _ _|exact n12 _ _ _|exact n13 _ _ _|exact n14 _ _ _))
   |(rename_i hq;exact absurd hq (by first|exact n1 _ _ _ _|exact n2 _ _ _ _|exact n3 _ _ _ _|exact n4 _ _ _ _|exact n5 _ _ _ _|exact n6 _ _ _ _|exact n7 _ _ _ _|exact n8 _ _ _ _|exact n9 _ _ _ _|exact n10 _ _ _ _|exact n11 _ _ _ _|exact n12 _ _ _ _|exact n13 _ _ _ _|exact n14 _ _ _ _))
theorem yU (st:St) (d:Nat) (v:AV):(st.put (some d) v).get d=v\/(st.put (some d) v).get d= .undef:=by
 simp only [St.put,St.get]
 rw [Rb]
 by_cases h:d<st.tmps.length
 ·exact .inl (by rw [Ac ⟨rfl,h⟩])
 ·refine .inr ?_
  rw [Ak (λhc=>h hc.2),Ah,Dy (by omega)]
  rfl
theorem WS.OK.wg {w:WS} (hw:w.OK) (o:Oper) (v:AV) (h: ∀b,Hk w.kn o=some b-> ∃fr,v= .at (.data fr .bool b)):(w.wg o v).OK/\(w.wg o v).st=w.st.put o.dst v:=by
 unfold WS.wg
 split
 ·rename_i d b hd hk
  split
  ·rename_i fr c hg
   refine ⟨?_,by rw [hd]⟩
   obtain ⟨Wh,hv⟩:=h b hk
   intro t b' hb
   simp only [nI] at hb
   split at hb
   ·rename_i ht
    injection hb with hb
    subst ht;subst hb
    refine ⟨Wh,?_⟩
    show (w.st.put (some d) v).get d=_
    cases yU w.st d v with
    |inl h1=>rw [h1,hv]
    |inr h1=>rw [h1] at hg;cases hg
   ·exact hw.put (some d) v t b' hb
  ·exact ⟨hw.put _ _,by rw [WS.ug,hd]⟩
 ·exact ⟨hw.put _ _,WS.ug _ _ _⟩
theorem qS {ops:Array Oper} {w:WS} (hw:w.OK) {o:Oper} {run:(AV->WS->Prop)->WS->Prop} {R:St->Option (AV×St)} {K:WS->Prop}
  (hr: ∀(k:AV->WS->Prop) (w:WS),w.OK->run k w-> ∃v w',R w.st=some (v,w'.st)/\w'.OK/\(∀b,Hk w'.kn o=some b-> ∃fr,v= .at (.data fr .bool b))/\k v w') (h:jy ops w o run K):
  ∃w',(match o.guard with
   |none=>(R w.st).map λr=>r.2.put o.dst r.1
   |some (j,want)=>match Xz w.st ((ops[j]?).bind (·.dst)) with
    |some (some b)=>if b==want then (R w.st).map λr=>r.2.put o.dst r.1 else some (w.st.put o.dst (.at .skip))
    |some none=>some (w.st.put o.dst (.at .skip))
    |none=>none)=some w'.st/\w'.OK/\K w':=by
 have go: ∀w:WS,w.OK->run (λv w'=>K (w'.wg o v)) w-> ∃w',((R w.st).map λr=>r.2.put o.dst r.1)=some w'.st/\w'.OK/\K w':=by
  intro w hw h
  obtain ⟨v,w',h1,h2,h3,h4⟩:=hr _ _ hw h
  obtain ⟨h5,h6⟩:=h2.wg o v h3
  exact ⟨w'.wg o v,by rw [h1,h6];rfl,h5,h4⟩
 unfold jy at h
 split at h
 ·rename_i hg
  rw [hg]
  exact go w hw h
 ·rename_i j want hg
  rw [hg]
  obtain ⟨t,h1,h⟩:=Ca.1 h
  simp only [h1]
  split at h
  ·rename_i hs
   have hsk:w.st.get t= .at .skip:=by
    unfold AV.ZJ at hs
    split at hs
    ·assumption
    ·cases hs
   exact ⟨_,by simp only [Xz,hsk];rw [WS.ug],hw.put _ _,h⟩
  ·obtain ⟨fr,b,w',h2,h3,h4,h5⟩:=wY hw h
   have hb:Xz w.st (some t)=some (some b):=by simp only [Xz,h2]
   rw [hb]
   simp only
   cases b with
   |true=>
    cases want with
    |true=>rw [Ac (by decide),<-h3];exact go w' h4 h5
    |false=>exact ⟨_,by rw [Ak (by decide),<-h3,WS.ug],h4.put _ _,h5⟩
   |false=>
    cases want with
    |false=>rw [Ac (by decide),<-h3];exact go w' h4 h5
    |true=>exact ⟨_,by rw [Ak (by decide),<-h3,WS.ug],h4.put _ _,h5⟩
theorem cc {ops:Array Oper} {w:WS} (hw:w.OK) {o:Oper} {K:WS->Prop} (h:jy ops w o (λk w'=>opW T Γ w' o k) K): ∃w',Eu T Γ ops w.st o=some w'.st/\w'.OK/\K w':=by
 obtain ⟨w',h1,h2⟩:=qS hw (R:= λst=>evalOp T Γ st o) (λk w hw h=>by
  obtain ⟨v,w',h1,h2,h2',h3⟩:=TN hw h
  exact ⟨v,w',h1,h2,h2',h3⟩) h
 exact ⟨w',h1,h2⟩
theorem XC {w:WS} (hw:w.OK) {o:Oper} {K:AV->WS->Prop} (h:bW T Γ w o K):
  ∃v w',Xr T Γ w.st o=some v/\w'.st=w.st/\w'.OK/\(∀b,Hk w'.kn o=some b-> ∃fr,v= .at (.data fr .bool b))/\K v w':=by
 unfold bW at h
 split at h
 ·rename_i t len parts sa
  obtain ⟨v,h1,h2⟩:=Ca.1 h
  exact ⟨v,w,by unfold Xr;rw [sa];exact h1,rfl,hw,λb hb=>by simp [Hk,sa] at hb,h2⟩
 ·rename_i t parts sa
  obtain ⟨v,h1,h2⟩:=Ca.1 h
  exact ⟨v,w,by unfold Xr;rw [sa];exact h1,rfl,hw,λb hb=>by simp [Hk,sa] at hb,h2⟩
 ·rename_i n1 n2
  obtain ⟨v,w',h1,h2⟩:=je hw h
  refine ⟨v,w',?_,h2⟩
  rw [<-h1]
  unfold Xr
  split
  ·rename_i h9;exact absurd h9 (n1 _ _ _)
  ·rename_i h9;exact absurd h9 (n2 _ _)
  ·rfl
theorem Aei {ops:Array Oper} {w:WS} (hw:w.OK) {o:Oper} {K:WS->Prop} (h:jy ops w o (λk w'=>bW T Γ w' o k) K): ∃v w',Xq T Γ ops w.st o=some v/\w'.st=w.st.put o.dst v/\w'.OK/\K w':=by
 obtain ⟨w',h1,h2,h3⟩:=qS hw (R:= λst=>(Xr T Γ st o).map λv=>(v,st)) (λk w hw h=>by
  obtain ⟨v,w',h1,h2,h3,h3',h4⟩:=XC hw h
  exact ⟨v,w',by simp only [h1,h2];rfl,h3,h3',h4⟩) h
 have key: ∀u:Option AV,((u.map λv=>(v,w.st)).map λr=>r.2.put o.dst r.1)=some w'.st-> ∃v,u=some v/\w'.st=w.st.put o.dst v:=by
  intro u hu
  cases u with
  |none=>cases hu
  |some v=>injection hu with hu;exact ⟨v,rfl,hu.symm⟩
 unfold Xq
 split at h1
 ·rename_i hg
  obtain ⟨v,h4,h5⟩:=key _ h1
  exact ⟨v,w',by rw [hg];exact h4,h5,h2,h3⟩
 ·rename_i j want hg
  rw [hg]
  split at h1
  ·rename_i b hb
   simp only [hb]
   split at h1
   ·rename_i KO
    obtain ⟨v,h4,h5⟩:=key _ h1
    exact ⟨v,w',by rw [Ac KO];exact h4,h5,h2,h3⟩
   ·rename_i KO
    injection h1 with h1
    exact ⟨_,w',by rw [Ak KO],h1.symm,h2,h3⟩
  ·rename_i hb
   simp only [hb]
   injection h1 with h1
   exact ⟨_,w',rfl,h1.symm,h2,h3⟩
  ·cases h1
theorem u5 {ops:Array Oper} : ∀(l:List Oper) {w:WS} (_:w.OK) {K:WS->Prop},Aj1 T Γ ops l w K-> ∃w',aO T Γ ops l w.st=some w'.st/\w'.OK/\K w'
 | [],w,hw,K,h=>⟨w,rfl,hw,h⟩
 |o::r,w,hw,K,h=>by
  obtain ⟨w1,h1,h2,h3⟩:=cc hw h
  obtain ⟨w2,h4,h5⟩:=u5 r h2 h3
  exact ⟨w2,by simp only [aO];rw [h1];exact h4,h5⟩
theorem ff {ops:Array Oper} : ∀(l:List Nat) {w:WS} (_:w.OK) {K:WS->Prop},ZB T Γ ops l w K-> ∃w',Mz T Γ ops l w.st=some w'.st/\w'.OK/\K w'
 | [],w,hw,K,h=>⟨w,rfl,hw,h⟩
 |i::r,w,hw,K,h=>by
  obtain ⟨o,h0,h⟩:=Ca.1 h
  obtain ⟨w1,h1,h2,h3⟩:=cc hw h
  obtain ⟨w2,h4,h5⟩:=ff r h2 h3
  exact ⟨w2,by simp only [Mz];rw [h0];simp only [h1];exact h4,h5⟩
theorem Nv {ops:Array Oper} : ∀(l:List Nat) {w:WS} (_:w.OK) {K:WS->Prop},kX T Γ ops l w K-> ∃w',Ge T Γ ops l w.st=some w'.st/\w'.OK/\K w'
 | [],w,hw,K,h=>⟨w,rfl,hw,h⟩
 |i::r,w,hw,K,h=>by
  obtain ⟨o,h0,h⟩:=Ca.1 h
  obtain ⟨v,w1,h1,h1',h2,h3⟩:=Aei hw h
  obtain ⟨w2,h4,h5⟩:=Nv r h2 h3
  exact ⟨w2,by simp only [Ge];rw [h0];simp only [h1];rw [<-h1'];exact h4,h5⟩
theorem mJ {P:Nat->Prop} : ∀(l:List Nat),WZ l P-> ∀i∈l,P i
 | [],_,i,hi=>by cases hi
 | [k],h,i,hi=>by rw [Ad.1 hi];exact h
 |k::j::r,h,i,hi=>by
  rcases Bc.1 hi with rfl|hi
  ·exact h.1
  ·exact mJ (j::r) h.2 i hi
theorem lP {ops:Array Oper} {K:WS->Prop} : ∀(f:Nat) (Ag:Array Bool) {w:WS} (_:w.OK),RS T Γ ops f Ag w K->anyS T Γ ops (λs=> ∃w':WS,w'.st=s/\w'.OK/\K w') f Ag w.st
 |0,Ag,w,hw,h=>by
  unfold RS at h
  split at h
  ·rename_i hr;exact ⟨hr,w,rfl,hw,h⟩
  ·cases h
 |f+1,Ag,w,hw,h=>by
  unfold RS at h
  split at h
  ·cases h
  ·rename_i i r hr
   refine ⟨by rw [hr];simp,λk hk=>?_⟩
   rw [hr] at hk
   obtain ⟨o,h0,h1⟩:=Ca.1 (mJ _ h k hk)
   obtain ⟨w1,h2,h3,h4⟩:=cc hw h1
   exact ⟨o,w1.st,h0,h2,lP f _ h3 h4⟩
theorem dE: ∀(l:List Oper) (d:Nat),d∈Ku l-> ∃o∈l,o.dst=some d
 | [],d,h=>by simp [Ku] at h
 |o::r,d,h=>by
  simp only [Ku] at h
  cases ho:o.dst with
  |none=>
   rw [ho] at h
   obtain ⟨o',h1,h2⟩:=dE r d (by simpa using h)
   exact ⟨o',Aq _ h1,h2⟩
  |some e=>
   rw [ho] at h
   rcases Bc.1 (by simpa using h) with h|h
   ·exact ⟨o,by simp,by rw [ho,h]⟩
   ·obtain ⟨o',h1,h2⟩:=dE r d h
    exact ⟨o',Aq _ h1,h2⟩
theorem ng {ops:Array Oper} {K:WS->Prop} : ∀(f:Nat) (Ag:Array Bool) {w:WS} (_:w.OK),bK T Γ ops f Ag w K-> ∃w':WS,Fl (λt=>Ta ops t=true) w.st w'.st/\w'.OK/\K w'
 |0,Ag,w,hw,h=>by
  simp only [bK] at h
  split at h
  ·exact ⟨w,λ_ _ _ _ _ hx=>hx,hw,h⟩
  ·exact h.elim
 |f+1,Ag,w,hw,h=>by
  simp only [bK] at h
  split at h
  ·exact h.elim
  ·obtain ⟨o,ho,h1⟩:=Ca.1 h
   obtain ⟨w',h2,h3,h4⟩:=cc hw h1
   obtain ⟨w2,g1,g2⟩:=ng f _ h3 h4
   refine ⟨w2,((bI h2).mono λt ht hd=>?_).trans g1,g2⟩
   unfold Ta Zg at ht
   have:(ops.toList.any λo=>o.dst==some t)=true:=Ir.2 ⟨o,pk ho,by rw [hd];exact beq_self_eq_true _⟩
   rw [this] at ht
   cases ht
theorem mj (p:Nat->Bool): ∀(i:Nat) (l0 l1:List AV),(∀t,(l0.getD t .undef).Yn=true->p (i+t)=true->l1.getD t .undef=l0.getD t .undef)->
  Vi (Kr p i l0) l0 (Ub (Kr p i l0) l1)=l1
 |_,[],l1,_=>by simp [Kr,Ub,Vi]
 |i,a::r,[],_=>by
  simp only [Kr]
  cases (a.Yn&&p i)<;>simp [Ub,Vi]
 |i,a::r,b::s,h=>by
  have hr:=mj p (i+1) r s λt h1 h2=>by
   have:=h (t+1) (by simpa using h1) (by rw [show i+(t+1)=i+1+t by omega];exact h2)
   simpa using this
  simp only [Kr]
  cases hc:(a.Yn&&p i) with
  |false=>simp only [Ub,Vi];rw [hr]
  |true=>
   simp only [Ub,Vi]
   rw [hr]
   simp only [Af] at hc
   have:=h 0 (by simpa using hc.1) hc.2
   simp only [Xv] at this
   rw [this]
theorem fp: ∀(f:List Bool) (l:List AV),(Ub f l).length=l.length
 | [],l=>by simp [Ub]
 |true::f,[]=>by simp [Ub]
 |false::f,[]=>by simp [Ub]
 |true::f,a::l=>by simp [Ub,fp f l]
 |false::f,a::l=>by simp [Ub,fp f l]
theorem SF {p:Nat->Bool} {w1 s0 s:St} (h1:Fl (λt=>p t=true) w1 s0) (h2:Fl (λt=>p t=true) w1 s) (h:eqM (Kr p 0 w1.tmps) s0 s):s=s0:=by
 have e:=dT h
 simp only [St.mask,St.mk.injEq] at e
 have key: ∀ {a:St},Fl (λt=>p t=true) w1 a->Vi (Kr p 0 w1.tmps) w1.tmps (Ub (Kr p 0 w1.tmps) a.tmps)=a.tmps:= λ {a} ha=>mj p 0 _ _ λt ht hp=>by
  rw [Bo] at hp
  cases hc:w1.tmps.getD t .undef with
  | «at»c=>
   cases c with
   |data fr τ x=>exact ha t fr τ x hp hc
   |_=>rw [hc] at ht;cases ht
  |_=>rw [hc] at ht;cases ht
 have e1:=key h1
 have e2:=key h2
 rw [e.1,e1] at e2
 obtain ⟨_,e4⟩:=e
 cases s;cases s0
 simp only at e2 e4
 rw [e4,e2]
theorem aP {ops:Array Oper} {K:WS->Prop} : ∀(f:Nat) (Ag:Array Bool) {w:WS} (_:w.OK),bK T Γ ops f Ag w K-> ∃w':WS,w'.OK/\K w'
 |0,Ag,w,hw,h=>by
  simp only [bK] at h
  split at h
  ·exact ⟨w,hw,h⟩
  ·exact h.elim
 |f+1,Ag,w,hw,h=>by
  simp only [bK] at h
  split at h
  ·exact h.elim
  ·obtain ⟨o,ho,h1⟩:=Ca.1 h
   obtain ⟨w',h2,h3,h4⟩:=cc hw h1
   exact aP f _ h3 h4
theorem pY {P:List (Nat×Nat×AV×OB)} {ops:Array Oper} {K:WS->Prop} : ∀(f:Nat) (Ag:Array Bool) {w:WS} (_:w.OK),CM T Γ P ops f Ag w K->Agz T Γ ops P (λs=> ∃w':WS,w'.st=s/\w'.OK/\K w') f Ag w.st
 |0,Ag,w,hw,h=>by
  unfold CM at h
  split at h
  ·rename_i hr;exact ⟨hr,w,rfl,hw,h⟩
  ·cases h
 |f+1,Ag,w,hw,h=>by
  unfold CM at h
  split at h
  ·cases h
  ·rename_i i r hr
   refine ⟨by rw [hr];simp,λk hk=>?_⟩
   rw [hr] at hk
   obtain ⟨o,h0,h1⟩:=Ca.1 (mJ _ h k hk)
   split at h1
   ·rename_i ee
    obtain ⟨w1,h2,h3,h4⟩:=cc hw h1
    exact ⟨o,w1.st,h0,ee,h2,pY f _ h3 h4⟩
   ·cases h1
theorem FW {α:Type} (f:α->Nat) {l:List α} (h:aq (l.map f)=true):l.Pairwise λa c=>f a≠f c:=List.pairwise_map.1 (Yp h)
theorem cY {ops:Array Oper} {E:List Nat} {Ag:Array Bool} {w:WS} (hw:w.OK): ∀(R:List Nat) {K:Prop},yg T Γ ops E Ag w R K->K/\ ∀r∈R,sk ops E Ag r=true\/ ∃o v,ops[r]?=some o/\Xq T Γ ops w.st o=some v/\ ∀d,o.dst=some d->w.st.get d=v
 | [],K,h=>⟨h,λr hr=>by cases hr⟩
 |r::R,K,h=>by
  unfold yg at h
  split at h
  ·rename_i hwt
   obtain ⟨h1,h2⟩:=cY hw R h
   refine ⟨h1,λq hq=>?_⟩
   rcases Bc.1 hq with rfl|hq
   ·exact .inl hwt
   ·exact h2 q hq
  ·obtain ⟨h0,h⟩:=h
   obtain ⟨h1,h2⟩:=cY hw R h
   refine ⟨h1,λq hq=>?_⟩
   rcases Bc.1 hq with rfl|hq
   ·refine .inr ?_
    obtain ⟨w',g1,_,g3⟩:=Nv _ hw h0
    obtain ⟨d,hd,g4⟩:=Ca.1 g3
    simp only [Ge] at g1
    split at g1
    ·cases g1
    rename_i o ho
    split at g1
    rotate_left
    ·cases g1
    rename_i v hv
    refine ⟨o,v,ho,hv,λd' SL=>?_⟩
    rw [ho] at hd
    have hdd:o.dst=some d:=hd
    rw [SL] at hdd
    cases hdd
    split at g4
    ·rename_i hl
     have e:=dT g4
     have e1:w'.st.get d=w.st.get d:=by
      have:=Gc (λs:St=>s.tmps) e
      simpa using this
     rw [<-e1]
     have e2:w.st.put o.dst v=w'.st:=Bb g1
     rw [<-e2,show o.dst=some d from hd]
     show (Sz w.st.tmps d v).getD d .undef=v
     rw [Rb,Ac ⟨rfl,by simpa [Nn] using hl⟩]
    ·cases g4
   ·exact h2 q hq
theorem ct {ops:Array Oper} {E:List Nat} {K:WS->Prop} : ∀(f:Nat) (Ag:Array Bool) {w:WS} (_:w.OK),su T Γ ops E f Ag w K->r8 T Γ ops E (λs=> ∃w':WS,w'.st=s/\w'.OK/\K w') f Ag w.st
 |0,Ag,w,hw,h=>by
  unfold su at h
  obtain ⟨h,hs⟩:=cY hw _ h
  split at h
  ·rename_i hr;exact ⟨hs,hr,w,rfl,hw,h⟩
  ·cases h
 |f+1,Ag,w,hw,h=>by
  unfold su at h
  obtain ⟨h,hs⟩:=cY hw _ h
  split at h
  ·cases h
  ·rename_i i r hr
   refine ⟨hs,by rw [hr];simp,λk hk=>?_⟩
   rw [hr] at hk
   obtain ⟨o,h0,h1⟩:=Ca.1 (mJ _ h k hk)
   obtain ⟨w1,h2,h3,h4⟩:=cc hw h1
   exact ⟨o,w1.st,h0,h2,ct f _ h3 h4⟩
theorem zP {ops:Array Oper} {E:List Nat} {L0:Array Bool} {n:Nat} {w:WS} (hw:w.OK) {K:WS->Prop} (h:MZ T Γ E n L0 ops w K):Acs T Γ ops (λs=> ∃w':WS,w'.st=s/\w'.OK/\K w') n L0 w.st:=by
 unfold MZ at h
 split at h
 ·rename_i hb
  simp only [Af] at hb
  obtain ⟨b1,b2,b3⟩:=hb
  obtain ⟨w1,h1,h2,h3⟩:=Nv _ hw h
  have h3:=Oh.1 h3
  obtain ⟨w0,g1,g2⟩:=aP _ _ h2 h3
  obtain ⟨g3,g4⟩:=Oh.1 g2
  refine ⟨E,w1.st,b1,Nat.le_of_ble_eq_true b2,h1,bd (λs hs=>?_) _ _ _ (ct _ _ h2 g4)⟩
  obtain ⟨w',h5,_,h6⟩:=hs
  exact ⟨w0,((h5.symm.trans (dT (Oh.1 h6))).symm),g1,g3⟩
 ·cases h
theorem dC {ops:Array Oper} {t:Nat} :Ta ops t=true->t∉Ku ops.toList:= λh hm=>by
 obtain ⟨o,ho,hd⟩:=dE _ _ hm
 unfold Ta Zg at h
 have:(ops.toList.any λo=>o.dst==some t)=true:=Ir.2 ⟨o,ho,by rw [hd];exact beq_self_eq_true _⟩
 rw [this] at h
 cases h
theorem CN {ops:Array Oper} {E:List Nat} {K:St->Prop} (s0:St) (f:Nat) (Ag:Array Bool) (st:St) (hk:Fl (λt=>Ta ops t=true) s0 st) (h:r8 T Γ ops E K f Ag st):
  r8 T Γ ops E (λs=>K s/\Fl (λt=>Ta ops t=true) s0 s) f Ag st:=by
 have h1:=lO (draw:=true) st f Ag st (λ_ _ _ _ _ hx=>hx) h
 exact bd (λs hs=>⟨hs.1,hk.trans (hs.2.mono λt ht=>dC ht)⟩) _ _ _ h1
theorem WS.OK.Qq {w:WS} (hw:w.OK) (dead:List Nat):(w.Qq dead).OK:=by
 intro t b hb
 have key: ∀(l:List (Nat×Bool)),nI (l.filter λp=>!dead.contains p.1) t=some b->dead.contains t=false/\nI l t=some b:=by
  intro l
  induction l with
  |nil=>intro h;cases h
  |cons q r ih=>
   intro h
   obtain ⟨k,c⟩:=q
   by_cases hk:dead.contains k=true
   ·rw [List.filter_cons_of_neg (by rw [hk];decide)] at h
    obtain ⟨h1,h2⟩:=ih h
    refine ⟨h1,?_⟩
    unfold nI
    rw [Ak (λe=>by subst e;rw [h1] at hk;cases hk)]
    exact h2
   ·have hk:dead.contains k=false:=by simpa using hk
    rw [List.filter_cons_of_pos (by rw [hk];rfl)] at h
    unfold nI at h⊢
    split at h
    ·rename_i e
     subst e
     rw [Ac rfl]
     exact ⟨hk,h⟩
    ·rename_i e
     rw [Ak e]
     exact ih h
 obtain ⟨h1,h2⟩:=key _ hb
 obtain ⟨fr,h3⟩:=hw t b h2
 refine ⟨fr,?_⟩
 show (w.st.Qq dead).get t=_
 unfold St.Qq
 refine Uj _ _ t fr _ _ ?_
 show (Im _ 0 w.st.tmps).getD t .undef=_
 rw [Wd _ 0 w.st.tmps t ?_]
 ·exact h3
 ·refine Cg.2 ⟨Dn.2 ?_,by rw [Bo,h1];rfl⟩
  refine Bj λhn=>?_
  have:w.st.get t= .undef:=by
   unfold St.get
   rw [Ah,Dy (by omega)];rfl
  rw [h3] at this
  cases this
theorem FZ {ops:Array Oper} {dead E:List Nat} (b3:dead.all (Zg ops)=true) {L0:Array Bool} {n:Nat} {w:WS} (hw:w.OK) {K:WS->Prop} (h:Aa3 T Γ dead E n L0 ops w K):Acs T Γ ops (λs=> ∃w':WS,w'.st=s.Qq dead/\w'.OK/\K w') n L0 w.st:=by
 unfold Aa3 at h
 split at h
 ·rename_i hb
  simp only [Af] at hb
  obtain ⟨b1,b2⟩:=hb
  obtain ⟨w1,h1,h2,h3⟩:=Nv _ hw h
  have h3:=Oh.1 h3
  refine ⟨E,w1.st,b1,Nat.le_of_ble_eq_true b2,h1,?_⟩
  split at h3
  ·refine bd (λs hs=>?_) _ _ _ (ct _ _ h2 h3)
   obtain ⟨w',h5,h6,h7⟩:=hs
   exact ⟨w'.Qq dead,by rw [<-h5];rfl,h6.Qq _,h7⟩
  ·rw [fc] at h3
   obtain ⟨w0,g0,g1,g2⟩:=ng _ _ h2 h3
   obtain ⟨g3,g4⟩:=Oh.1 g2
   refine bd (λs hs=>?_) _ _ _ (CN w1.st _ _ _ (λ_ _ _ _ _ hx=>hx) (ct _ _ h2 g4))
   obtain ⟨⟨w',h5,_,h6⟩,h7⟩:=hs
   have h6:=Oh.1 h6
   have k1:Fl (λt=>Ta ops t=true) w1.st (w0.Qq dead).st:=g0.trans ((iU b3 w0.st).mono λt ht=>dC ht)
   have k2:Fl (λt=>Ta ops t=true) w1.st (w'.Qq dead).st:=by
    show Fl _ w1.st (w'.st.Qq dead)
    rw [h5]
    exact h7.trans ((iU b3 s).mono λt ht=>dC ht)
   have e:=SF k1 k2 h6
   refine ⟨w0.Qq dead,?_,g1.Qq _,g3⟩
   rw [<-e,<-h5]
   rfl
 ·cases h
theorem vC {ops:Array Oper} {L0:Array Bool} {n:Nat} {w:WS} (hw:w.OK) {K:WS->Prop} (hc:Ug ops L0) (h:yE T Γ (Zt T ops L0) n L0 ops w K):anyS T Γ ops (λs=> ∃w':WS,w'.st=s/\w'.OK/\K w') n L0 w.st\/Acs T Γ ops (λs=> ∃w':WS,w'.st=s/\w'.OK/\K w') n L0 w.st:=by
 unfold yE at h
 split at h
 ·rename_i hb
  simp only [Af] at hb
  obtain ⟨⟨b1,b2⟩,b3,b4,b5⟩:=hb
  have hm: ∀a∈Zt T ops L0,a.1∈Region.ready .any ops L0/\ ∃o,ops[a.1]?=some o/\eS T o=some a.2:= λa ha=>yz ha
  have p1:=FW (λa:Nat×Nat×AV×OB=>a.1) b1
  have p2:=FW (λa:Nat×Nat×AV×OB=>a.2.1) b2
  have hlen:(Zt T ops L0).length<=n:=Nat.le_of_ble_eq_true b4
  obtain ⟨w1,h1,h2,h3⟩:=ff _ hw h
  have h3:=Oh.1 h3
  obtain ⟨w0,g1,g2⟩:=aP _ _ h2 h3
  obtain ⟨g3,g4⟩:=Oh.1 g2
  have hp:=GS (Γ:=Γ) _ w.st w1.st (λa ha=>(hm a ha).2) (λa ha=>tX (Ba.1 b3 a ha)) p2 h1
  refine .inl (jK (λs hs=>?_) _ _ _ (RR (λa ha=>(hm a ha).2) n (n-(Zt T ops L0).length) (Zt T ops L0) _ L0 w1.st w.st (by omega) (pY _ _ h2 g4) hp
   (Acw (ops:=ops) λi hi=>by obtain ⟨a,ha,rfl⟩:=Ay.1 hi;exact (hm a ha).1) (λa ha=>ha) (p2.and p1) hc λa ha x hx=>cQ (hm a ha).1 hx))
  obtain ⟨w',h5,_,h6⟩:=hs
  exact ⟨w0,((h5.symm.trans (dT h6)).symm),g1,g3⟩
 ·exact .inr (zP hw h)
theorem ll {ops:Array Oper} {draw:Bool} {w:WS} (hw:w.OK) {K:WS->Prop} (h:sf T Γ ops draw w K):kL T Γ ops draw w.st (λs=> ∃w':WS,w'.st=s/\w'.OK/\K w'):=by
 unfold sf at h
 split at h
 ·split at h
  ·rename_i ho
   obtain ⟨w1,h1,h2,h3⟩:=Nv _ hw h
   obtain ⟨w2,h4,h5⟩:=ff _ h2 h3
   exact .inl ⟨w2.st,by simp only [Rw,Po];rw [Ac ho,h1];exact h4,w2,rfl,h5⟩
  ·rename_i ho
   split at h
   ·rename_i ho2
    obtain ⟨w1,h1,h2,h3⟩:=Nv _ hw h
    obtain ⟨w2,h4,h5⟩:=ff _ h2 h3
    exact .inl ⟨w2.st,by simp only [Rw,Po];rw [Ak (by rw [ho];decide),Ac ho2,h1];exact h4,w2,rfl,h5⟩
   ·split at h
    ·rename_i hc
     simp only [Af] at hc
     obtain ⟨w1,h1,h2,h3⟩:=Nv _ hw h
     split at h3
     ·exact .inr ⟨rfl,hc.1,w1.st,h1, .inl (lP _ _ h2 h3)⟩
     ·obtain ⟨w0,g1,g2⟩:=aP _ _ h2 h3
      obtain ⟨g3,g4⟩:=Oh.1 g2
      exact .inr ⟨rfl,hc.1,w1.st,h1, .inl (jK (λs hs=>by
       obtain ⟨w',h5,_,h6⟩:=hs
       exact ⟨w0,((h5.symm.trans (dT h6)).symm),g1,g3⟩) _ _ _ (lP _ _ h2 g4))⟩
    ·split at h
     ·rename_i QG
      obtain ⟨w1,h1,h2,h3⟩:=Nv _ hw h
      exact .inr ⟨rfl,QG,w1.st,h1,vC h2 (aM _ _ _ q8) h3⟩
     ·cases h
 ·obtain ⟨w1,h1,h2⟩:=u5 _ hw h
  exact .inl ⟨w1.st,by simp only [Rw];rw [Ak (by simp)];exact h1,w1,rfl,h2⟩
theorem wi {ops:Array Oper} {draw:Bool} {w:WS} (hw:w.OK) {K:WS->Prop} (h:zS T Γ ops draw w K):yr T Γ ops draw w.st (λs=> ∃w':WS,w'.st=s/\w'.OK/\K w'):=by
 unfold zS at h
 split at h
 ·rename_i hb
  have b3:=(Ce.1 hb).2
  refine .inr ⟨ve ops,b3,?_⟩
  split at h
  ·rename_i hc
   simp only [Af,Aa2] at hc
   obtain ⟨w1,h1,h2,h3⟩:=Nv _ hw h
   exact .inr ⟨hc.1,hc.2.2.1,w1.st,h1, .inr (FZ b3 h2 h3)⟩
  ·exact (ll hw h).mono λs ⟨w',h1,h2,h3⟩=>⟨w'.Qq (ve ops),by rw [<-h1];rfl,h2.Qq _,h3⟩
 ·exact .inl (ll hw h)
end
end Go.Proofs.Ytkkdpknjohcekaa
