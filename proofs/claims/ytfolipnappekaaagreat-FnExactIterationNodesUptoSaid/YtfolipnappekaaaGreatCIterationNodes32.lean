/-
  Part 33 of the proof that the statement FnExactIterationNodes holds.
-/
import Derived.Test.YtfolipnappekaaaGreatCIterationNodes31
namespace Go.Proofs.YtfolipnappekaaaGreat
open Go.RowKit
section
variable {T:Tab} {Γ:Env}
def WS.OK (w:WS):Prop:= ∀t b,x4 w.kn t=some b-> ∃fr,w.st.get t= .at (.data fr .bool b)
theorem mw: ∀(l:List (Nat×Bool)) (d t:Nat) (b:Bool),x4 (yL l d) t=some b->t≠d/\x4 l t=some b
 | [],_,_,_,h=>by cases h
 |(k,c)::r,d,t,b,h=>by
  simp only [yL] at h
  split at h
  ·rename_i hk
   have:=mw r d t b h
   refine ⟨this.1,?_⟩
   simp only [x4]
   rw [Ag (by rw [hk];exact λh=>this.1 h.symm)]
   exact this.2
  ·rename_i hk
   simp only [x4] at h⊢
   split at h
   ·rename_i hkt
    exact ⟨by rw [<-hkt];exact hk,by rw [Ab hkt];exact h⟩
   ·rename_i hkt
    rw [Ag hkt]
    exact mw r d t b h
theorem WS.OK.put {w:WS} (h:w.OK) (dst:Option Tmp) (v:AV):(w.put dst v).OK:=by
 cases dst with
 |none=>exact h
 |some d=>
  intro t b hb
  obtain ⟨h1,h2⟩:=mw _ _ _ _ hb
  obtain ⟨fr,h3⟩:=h t b h2
  exact ⟨fr,by show (w.st.put (some d) v).get t=_;rw [bZ _ _ h1];exact h3⟩
theorem WS.vg (w:WS) (dst:Option Tmp) (v:AV):(w.put dst v).st=w.st.put dst v:=by cases dst<;>rfl
theorem WS.OK.to {w:WS} (h:w.OK) {s:St} (hs:Cp w.st s):(w.to s).OK:=by
 intro t b hb
 obtain ⟨fr,h3⟩:=h t b hb
 exact ⟨fr,hs t fr _ _ h3⟩
theorem yl {w:WS} (hw:w.OK) {t:Nat} {K:Bool->WS->Prop} (h:brT w t K):
  ∃fr b w',w.st.get t= .at (.data fr .bool b)/\w'.st=w.st/\w'.OK/\K b w':=by
 unfold brT at h
 split at h
 ·rename_i b hb
  obtain ⟨fr,h1⟩:=hw t b hb
  exact ⟨fr,b,w,h1,rfl,hw,h⟩
 ·split at h
  ·rename_i fr b hb
   obtain ⟨h1,h2⟩:=h
   have ok: ∀c:Bool,b=c->WS.OK {kn:=(t,c)::w.kn,st:=w.st} :=by
    intro c hc t' b' h'
    simp only [x4] at h'
    split at h'
    ·rename_i ht
     injection h' with h'
     exact ⟨fr,by rw [<-ht,<-h',<-hc];exact hb⟩
    ·exact hw t' b' h'
   cases b with
   |true=>exact ⟨fr,true, {kn:=(t,true)::w.kn,st:=w.st},hb,rfl,ok true rfl,h1 rfl⟩
   |false=>exact ⟨fr,false, {kn:=(t,false)::w.kn,st:=w.st},hb,rfl,ok false rfl,h2 rfl⟩
  ·cases h
theorem yk {w:WS} (hw:w.OK) {c:Operand} {K:Bool->WS->Prop} (h:brO w c K):
  ∃fr b w',w.st.ev c= .at (.data fr .bool b)/\w'.st=w.st/\w'.OK/\K b w':=by
 unfold brO at h
 split at h
 ·exact yl hw h
 ·exact ⟨true,_,w,rfl,rfl,hw,h⟩
 ·cases h
theorem MA {op:BinOp} {t:TypeId} {x y:AV} {K:AV->Prop} (h:Ail T op t x y K): ∃v,Tx T op t x y=some v/\K v:=by
 unfold Ail at h
 split at h
 ·split at h
  ·rename_i hk
   exact ⟨_,by simp only [Tx,evalBin,uy];rw [Ab hk,Ag h.1];rfl,h.2⟩
  ·cases h
 ·split at h
  ·rename_i hk
   exact ⟨_,by simp only [Tx,evalBin,uy];rw [Ab hk,Ag h.1];rfl,h.2⟩
  ·cases h
 ·exact ⟨_,by simp only [Tx,evalBin];rw [Ag h.1];rfl,h.2⟩
 ·exact ⟨_,by simp only [Tx,evalBin];rw [Ag h.1];rfl,h.2⟩
 ·exact ⟨_,by simp only [Tx,evalBin];rw [Ab h.1],h.2⟩
 ·exact Cg.1 h
theorem HI {st:St} {t:TypeId} {p:AV} {K:AV->Prop} (h:Aba T st t p K): ∃v,Qh T st t p=some v/\K v:=by
 unfold Aba at h
 split at h
 ·obtain ⟨τ,h1,h2⟩:=Cg.1 h
  split at h2
  ·rename_i hb
   split at h2
   ·rename_i he
    obtain ⟨x,h3,h4⟩:=h2
    exact ⟨_,by simp only [Qh,h1,hb,Ab he,h3];rfl,h4⟩
   ·cases h2
  ·rename_i hb
   split at h2
   ·rename_i he
    obtain ⟨x,h3,h4⟩:=h2
    exact ⟨_,by simp only [Qh,h1,hb,Ab he,h3];rfl,h4⟩
   ·cases h2
  ·rename_i hb
   split at h2
   ·cases h2
   ·rename_i he
    exact ⟨_,by simp only [Qh,h1,hb,Ag he],h2⟩
  ·cases h2
 ·obtain ⟨τ,h1,h2⟩:=Cg.1 h
  split at h2
  ·rename_i he
   obtain ⟨y,h3,h4⟩:=h2
   subst h3
   exact ⟨_,by simp only [Qh,h1,Ab he],h4⟩
  ·cases h2
 ·exact Cg.1 h
theorem pw {s:TypeId} {x:AV} {f:Nat} {K:AV->Prop} (h:ma T s x f K): ∃v,Oa T s x f=some v/\K v:=by
 unfold ma at h
 split at h
 ·obtain ⟨y,h1,h2⟩:=h
  subst h1
  obtain ⟨v,h3,h4⟩:=Cg.1 h2
  refine ⟨v,?_,h4⟩
  rw [<-h3]
  unfold Oa
  cases T.off s f<;>rfl
 ·exact Cg.1 h
theorem CN {st:St} {t:TypeId} {x:AV} {lo hi:Option AV} {K:AV->Prop} (h:PX T st t x lo hi K): ∃v,dZ T st t x lo hi=some v/\K v:=by
 unfold PX at h
 obtain ⟨n,h1,h⟩:=Cg.1 h
 obtain ⟨l,h2,h⟩:=Cg.1 h
 obtain ⟨hh,h3,hc,h⟩:=Cg.1 h
 obtain ⟨v,h4,h5⟩:=Cg.1 h
 refine ⟨v,?_,h5⟩
 simp only [dZ,h1,h2,h3,Ab hc]
 exact h4
theorem pD {st:St} {t:TypeId} {x i:AV} {K:AV->Prop} (h:mo T st t x i K): ∃v,Kl T st t x i=some v/\K v:=by
 unfold mo at h
 split at h
 ·split at h
  ·rename_i he
   obtain ⟨x,h3,h4⟩:=h
   exact ⟨_,by simp only [Kl,Ab he,h3];rfl,h4⟩
  ·cases h
 ·split at h
  ·rename_i hb
   split at h
   ·rename_i he
    obtain ⟨h3,h4⟩:=h
    exact ⟨_,by simp only [Kl,hb];rw [Ab ⟨he.1,he.2,Uh.2 h3⟩],h4⟩
   ·cases h
  ·rename_i hb
   split at h
   ·rename_i he
    obtain ⟨h3,h4⟩:=h
    exact ⟨_,by simp only [Kl,hb];rw [Ab ⟨he.1,he.2,Uh.2 h3⟩],h4⟩
   ·cases h
  ·rename_i hb
   split at h
   ·rename_i he
    obtain ⟨h3,h4⟩:=h
    exact ⟨_,by simp only [Kl,hb];rw [Ab ⟨he.1,he.2,Uh.2 h3⟩],h4⟩
   ·cases h
  ·cases h
 ·split at h
  ·rename_i hb
   split at h
   ·rename_i he
    obtain ⟨h3,h4⟩:=h
    exact ⟨_,by simp only [Kl,hb];rw [Ab ⟨he,Uh.2 h3⟩],h4⟩
   ·cases h
  ·cases h
 ·cases h
theorem AJ {t:TypeId} {x i:AV} {K:AV->Prop} (h:NM T t x i K): ∃v,jZ T t x i=some v/\K v:=by
 unfold NM at h
 split at h
 ·split at h
  ·rename_i he
   obtain ⟨h1,b,h3,h4⟩:=h
   exact ⟨_,by simp only [jZ,Ab he,Ab h1,h3];rfl,h4⟩
  ·cases h
 ·cases h
theorem cI {st:St} {f:FuncId} {args:List AV} {K:AV->Prop} (h:ym Γ st f args K): ∃v,Ow Γ st f args=some v/\K v:=by
 unfold ym at h
 obtain ⟨s,h1,h⟩:=Cg.1 h
 have h1:Γ f=some (.q s):=by
  split at h1
  ·rename_i s' hs;injection h1 with h1;rw [hs,h1]
  ·cases h1
 split at h
 ·rename_i hf
  obtain ⟨p,h2,y,h3,h4⟩:=Cg.1 h
  refine ⟨_,?_,h4⟩
  simp only [Ow,h1]
  rw [Ab hf,h2]
  simp only [h3]
  rfl
 ·cases h
theorem zM {st:St} {v:AV} {args:List AV} {K:AV->Prop} (h:ME Γ st v args K): ∃u,Ya Γ st v args=some u/\K u:=by
 unfold ME at h
 split at h
 ·split at h
  ·rename_i hc
   split at h
   ·rename_i hf
    obtain ⟨u,h1,h2⟩:=cI h
    exact ⟨u,by simp only [Ya];rw [Ab hc,Ab (by simpa using hf)];exact h1,h2⟩
   ·rename_i hf
    obtain ⟨u,h1,h2⟩:=cI h
    exact ⟨u,by simp only [Ya];rw [Ab hc,Ag (λhx=>by rw [show Nat.blt _ 1000000000=true from by simpa using hx] at hf;cases hf)];exact h1,h2⟩
  ·cases h
 ·exact cI h
 ·cases h
theorem Ps {w:WS} (hw:w.OK) {x:Operand} {b:Bool} (hk:Wo w.kn x=some b): ∃fr,w.st.ev x= .at (.data fr .bool b):=by
 unfold Wo at hk
 split at hk
 ·injection hk with hk;subst hk;exact ⟨true,rfl⟩
 ·exact hw _ _ hk
 ·cases hk
theorem x9 {w:WS} (hw:w.OK) {o:Oper} {b:Bool} (hk:Hi w.kn o=some b) {v:AV} (he:Fa T Γ w.st o=some v): ∃fr,v= .at (.data fr .bool b):=by
 unfold Hi at hk
 split at hk
 ·rename_i heq;unfold Fa at he;rw [heq] at he;injection he with he;obtain ⟨fr,h⟩:=Ps hw hk;exact ⟨fr,he.symm.trans h⟩
 ·rename_i heq;unfold Fa at he;rw [heq] at he;injection he with he;obtain ⟨fr,h⟩:=Ps hw hk;exact ⟨fr,he.symm.trans h⟩
 ·rename_i x heq
  cases hx:Wo w.kn x with
  |none=>rw [hx] at hk;cases hk
  |some c=>
   rw [hx] at hk
   injection hk with hk
   obtain ⟨fr,h⟩:=Ps hw hx
   unfold Fa at he;rw [heq] at he
   simp only [h,zU,Ph] at he
   injection he with he
   exact ⟨true,by rw [<-he,<-hk]⟩
 ·rename_i c x y heq
  unfold Fa at he;rw [heq] at he
  split at hk
  ·rename_i hc
   obtain ⟨fr,h⟩:=Ps hw hc
   simp only [h,dY,Pn] at he
   injection he with he
   obtain ⟨fr,h⟩:=Ps hw hk
   exact ⟨fr,he.symm.trans h⟩
  ·rename_i hc
   obtain ⟨fr,h⟩:=Ps hw hc
   simp only [h,dY,Dh,Tt] at he
   injection he with he
   obtain ⟨fr,h⟩:=Ps hw hk
   exact ⟨fr,he.symm.trans h⟩
  ·cases hk
 ·cases hk
theorem uQ {w:WS} (hw:w.OK) {o:Oper} {x:Operand} (ho:o.op= .assign x) {b:Bool} (hk:Hi w.kn o=some b) {v:AV} {s:St} (he:evalOp T Γ w.st o=some (v,s)): ∃fr,v= .at (.data fr .bool b):=by
 unfold Hi at hk
 rw [ho] at hk
 obtain ⟨fr,h⟩:=Ps hw hk
 unfold evalOp at he;rw [ho] at he
 simp only [h] at he
 injection he with he;injection he with he;exact ⟨fr,he.symm⟩
theorem jl {w:WS} (hw:w.OK) {o:Oper} {K:AV->WS->Prop} (h:qW T Γ w o K):
  ∃v w',Fa T Γ w.st o=some v/\w'.st=w.st/\w'.OK/\(∀b,Hi w'.kn o=some b-> ∃fr,v= .at (.data fr .bool b))/\K v w':=by
 have fin:(∃v w',Fa T Γ w.st o=some v/\w'.st=w.st/\w'.OK/\K v w')-> ∃v w',Fa T Γ w.st o=some v/\w'.st=w.st/\w'.OK/\(∀b,Hi w'.kn o=some b-> ∃fr,v= .at (.data fr .bool b))/\K v w':=by
  rintro ⟨v,w',h1,h2,h3,h4⟩
  exact ⟨v,w',h1,h2,h3,λb hb=>x9 h3 hb (by rw [h2];exact h1),h4⟩
 refine fin ?_
 unfold qW at h
 split at h
 ·rename_i c a b heq
  obtain ⟨fr,t,w',h1,h2,h3,h4⟩:=yk hw h
  cases t with
  |true=>exact ⟨_,w',by unfold Fa;rw [heq];simp only [h1,dY,Pn];rw [<-h2],h2,h3,h4⟩
  |false=>exact ⟨_,w',by unfold Fa;rw [heq];simp only [h1,dY];rw [<-h2];simp,h2,h3,h4⟩
 ·rename_i heq
  obtain ⟨v,h1,h2⟩:=HI h
  exact ⟨v,w,by unfold Fa;rw [heq];exact h1,rfl,hw,h2⟩
 ·rename_i heq
  obtain ⟨v,h1,h2⟩:=MA h
  exact ⟨v,w,by unfold Fa;rw [heq];exact h1,rfl,hw,h2⟩
 ·rename_i heq
  split at h
  ·obtain ⟨v,h1,h2⟩:=CN h
   exact ⟨v,w,by unfold Fa;rw [heq];simpa using h1,rfl,hw,h2⟩
  ·cases h
 ·rename_i heq
  obtain ⟨v,h1,h2⟩:=pD h
  exact ⟨v,w,by unfold Fa;rw [heq];exact h1,rfl,hw,h2⟩
 ·rename_i heq
  obtain ⟨v,h1,h2⟩:=AJ h
  exact ⟨v,w,by unfold Fa;rw [heq];exact h1,rfl,hw,h2⟩
 ·rename_i heq
  obtain ⟨v,h1,h2⟩:=cI h
  exact ⟨v,w,by unfold Fa;rw [heq];exact h1,rfl,hw,h2⟩
 ·rename_i heq
  obtain ⟨v,h1,h2⟩:=zM h
  exact ⟨v,w,by unfold Fa;rw [heq];exact h1,rfl,hw,h2⟩
 ·rename_i heq
  obtain ⟨v,h1,h2⟩:=pw h
  exact ⟨v,w,by unfold Fa;rw [heq];exact h1,rfl,hw,h2⟩
 ·rename_i x heq
  unfold yT at h
  split at h
  ·rename_i fr τ z hx
   obtain ⟨y,h1,h2⟩:=h
   subst h1
   exact ⟨_,w,by unfold Fa;rw [heq];simp only [hx],rfl,hw,h2⟩
  ·obtain ⟨v,h1,h2⟩:=Cg.1 h
   exact ⟨v,w,h1,rfl,hw,h2⟩
 ·obtain ⟨v,h1,h2⟩:=Cg.1 h
  exact ⟨v,w,h1,rfl,hw,h2⟩
theorem DC {st:St} {t:TypeId} {p v:AV} {K:St->Prop} (h:QO T st t p v K): ∃s,Ve T st t p v=some s/\K s:=by
 unfold QO at h
 split at h
 ·obtain ⟨τ,h1,h⟩:=Cg.1 h
  obtain ⟨q,h2,h⟩:=Cg.1 h
  split at h
  ·rename_i hb
   obtain ⟨u,h3,h⟩:=Cg.1 h
   split at h
   ·rename_i hc
    obtain ⟨h4,h5⟩:=h
    obtain ⟨q1,q2⟩:=q
    obtain ⟨u1,u2⟩:=u
    exact ⟨_,by simp only [Ve,h1,h2,hb,h3];rw [Iy hc,Ab h4],h5⟩
   ·cases h
  ·cases h
 ·exact Cg.1 h
theorem xK {st:St} {t:TypeId} {p v:AV} {K:St->Prop} (h:CY T st t p v K): ∃s,Py T st t p v=some s/\K s:=by
 unfold CY at h
 unfold Py
 split at h
 rotate_left
 ·rename_i hg;rw [hg];exact DC h
 rename_i hg
 rw [hg]
 simp only
 unfold TO at h
 split at h
 ·obtain ⟨τ,h1,h⟩:=Cg.1 h
  obtain ⟨q,h2,h⟩:=Cg.1 h
  split at h
  ·rename_i hb
   obtain ⟨u,h3,h⟩:=Cg.1 h
   split at h
   ·rename_i hc
    obtain ⟨q1,q2⟩:=q
    obtain ⟨u1,u2⟩:=u
    exact ⟨_,by simp only [bX,h1,h2,hb,h3];rw [Iy hc],h⟩
   ·cases h
  ·cases h
 ·rename_i l j
  obtain ⟨τ,h1,h⟩:=Cg.1 h
  split at h
  ·rename_i e te rows out kp m off len hl _
   split at h
   ·rename_i fr tr e' tid xs hm
    split at h
    ·rename_i hc
     obtain ⟨h2,h3,h4,h5⟩:=h
     have h4:out=none\/out=some j:=by
      cases out with
      |none=>exact .inl rfl
      |some i=>exact .inr (Mf some h4)
     exact ⟨_,by simp only [bX,h1,hl,hm];rw [Iy ⟨hc.1,hc.2,h2,h3,h4⟩],h5⟩
    ·cases h
   ·cases h
  ·cases h
 ·cases h
theorem Zh {st:St} {d:Nat} {t:TypeId} {x y:Operand} {K:AV->St->Prop} (h:nb T st d t x y K): ∃v s,Nz T st d t x y=some (v,s)/\K v s:=by
 unfold nb at h
 obtain ⟨te,h1,h⟩:=Cg.1 h
 obtain ⟨e,h2,h⟩:=Cg.1 h
 obtain ⟨q,h3,h⟩:=Cg.1 h
 obtain ⟨u,h4,h⟩:=Cg.1 h
 obtain ⟨q1,q2⟩:=q
 obtain ⟨u1,u2⟩:=u
 split at h
 ·rename_i hx
  split at h
  ·rename_i hd
   obtain ⟨h5,h6⟩:=h
   refine ⟨_,_,?_,h6⟩
   simp only [Nz,h1,h2,h3,h4]
   rw [hx]
   simp only
   rw [Ab ⟨h5,by simpa [Ni] using hd⟩]
   simp
  ·cases h
 ·rename_i l off len hx
  split at h
  ·rename_i fr tr e' tid xs hb
   split at h
   ·rename_i hc
    obtain ⟨h5,h6,h7,h8⟩:=h
    refine ⟨_,_,?_,h8⟩
    simp only [Nz,h1,h2,h3,h4]
    rw [hx]
    simp only [hb]
    rw [Iy ⟨hc.1,hc.2.1⟩,Ab ⟨h7,by simpa [Ni] using hc.2.2⟩]
    obtain ⟨hc1,hc2,hc3⟩:=hc
    subst hc1
    subst h5
    simp only [Dn,h6,Ap,Ax]
   ·cases h
  ·cases h
 ·cases h
theorem tw {st:St} {d:Nat} {t:TypeId} {x y:Operand} {K:AV->St->Prop} (h:tv T st d t x y K): ∃v s,Rk T st d t x y=some (v,s)/\K v s:=by
 unfold tv at h
 cases x with
 |tmp tx=>
  simp only at h
  unfold Rk
  simp only
  cases hg:st.get tx with
  | «at»c=>
   rw [hg] at h
   cases c with
   |sub l i c=>
    simp only at h⊢
    obtain ⟨tid,h1,h⟩:=Cg.1 h
    split at h
    ·rename_i hl
     split at h
     ·rename_i hc
      obtain ⟨v,s,h2,h3⟩:=Zh h
      refine ⟨v,s,?_,h3⟩
      simp only [hl,h1]
      rw [Ab hc]
      exact h2
     ·cases h
    ·cases h
   |_=>exact Zh h
  |_=>rw [hg] at h;exact Zh h
 |_=>exact Zh h
theorem HO {st:St} {d:Nat} {t:TypeId} {l c:AV} {K:AV->St->Prop} (h:Abh T st d t l c K): ∃v s,bV T st d t l c=some (v,s)/\K v s:=by
 unfold Abh at h
 split at h
 ·obtain ⟨te,h1,h⟩:=Cg.1 h
  obtain ⟨e,h2,h⟩:=Cg.1 h
  split at h
  ·rename_i hz
   obtain ⟨h3,h4,h5⟩:=h
   refine ⟨_,_,?_,h5⟩
   simp only [Af] at hz
   simp only [bV,h1,h2]
   rw [Ab ⟨Uh.2 (by exact_mod_cast h3),h4,hz.1,by simpa [Ni] using hz.2⟩]
   simp
  ·cases h
 ·cases h
theorem BE {st:St} {d:Nat} {t:TypeId} {l c:AV} {K:AV->St->Prop} (h:NZ T st d t l c K): ∃v s,Yb T st d t l c=some (v,s)/\K v s:=by
 unfold NZ at h
 unfold Yb
 cases hg:ec T t with
 |none=>rw [hg] at h;exact HO h
 |some p=>
  obtain ⟨te,e⟩:=p
  rw [hg] at h
  simp only at h⊢
  split at h
  ·split at h
   ·rename_i hd
    obtain ⟨h3,h4,h5⟩:=h
    refine ⟨_,_,?_,h5⟩
    simp only
    rw [Ab ⟨Uh.2 (by exact_mod_cast h3),h4,by simpa [Ni] using hd⟩]
    simp
   ·cases h
  ·cases h
theorem m8 {st:St} {d:Nat} {t:TypeId} {len:Nat} {parts:Array (Nat×Operand)} {K:AV->St->Prop} (h:eZ T st d t len parts K): ∃v s,Iz T st d t len parts=some (v,s)/\K v s:=by
 unfold eZ at h
 unfold Iz
 cases hg:ec T t with
 |none=>
  rw [hg] at h
  obtain ⟨r,h1,h2⟩:=Cg.1 h
  exact ⟨r.1,r.2,h1,h2⟩
 |some p=>
  obtain ⟨te,e⟩:=p
  rw [hg] at h
  simp only at h⊢
  split at h
  ·rename_i x hp
   split at h
   ·rename_i m off ln hx
    split at h
    ·rename_i hm
     split at h
     ·rename_i hc
      obtain ⟨h1,h2,h3⟩:=h
      refine ⟨_,_,?_,h3⟩
      simp only [hp,hx,hm]
      rw [Iy ⟨hc.1,hc.2,h1,h2⟩]
     ·cases h
    ·cases h
   ·cases h
  ·cases h
theorem tA {st:St} {d:Nat} {t:TypeId} {x y:Operand} {K:AV->St->Prop} (h:tz T st d t x y K): ∃v s,Rl T st d t x y=some (v,s)/\K v s:=by
 unfold tz at h
 unfold Rl
 cases hg:ec T t with
 |none=>rw [hg] at h;exact tw h
 |some p=>
  obtain ⟨te,e⟩:=p
  rw [hg] at h
  simp only at h⊢
  split at h
  ·rename_i l off len m Abp uH hx hy
   split at h
   ·rename_i hl hm
    split at h
    ·rename_i hc
     obtain ⟨h1,h2,h3,h4,h5⟩:=h
     obtain ⟨⟨rfl,rfl⟩,hc⟩:=hc
     refine ⟨_,_,?_,h5⟩
     simp only [hx,hy,hl,hm]
     rw [Iy (⟨⟨trivial,trivial⟩,hc,h1,h2,h3,h4⟩)]
     simp
    ·cases h
   ·cases h
  ·cases h
theorem DI {st:St} {io:Bool} {k:Nat} {c:CK} {a:AC} {K:c.den->List (Nat×Loc)->Prop} (h:fX st io k c a K): ∃x t,Lx st io k c a=some (x,t)/\K x t:=by
 cases c with
 |Fm τ=>
  cases a with
  |own l off len=>
   obtain ⟨p,h1,h2⟩:=Cg.1 h
   exact ⟨_,_,by simp only [Lx];rw [h1];rfl,h2⟩
  |clo g Ee=>
   simp only [fX] at h
   split at h
   ·rename_i hc
    obtain ⟨p,h1,h2⟩:=Cg.1 h
    exact ⟨_,_,by simp only [Lx];rw [Ab hc,h1];rfl,h2⟩
   ·cases h
  |Hj l i=>
   simp only [fX] at h
   split at h
   ·rename_i hc
    obtain ⟨p,h1,h2⟩:=Cg.1 h
    exact ⟨_,_,by simp only [Lx];rw [Ab hc,h1];rfl,h2⟩
   ·cases h
  |sub l i c=>
   obtain ⟨p,h1,h2⟩:=Cg.1 h
   exact ⟨_,_,by simp only [Lx];rw [h1];rfl,h2⟩
  |_=>
   simp only [fX] at h
   split at h
   ·rename_i hc
    obtain ⟨p,h1,h2⟩:=Cg.1 h
    exact ⟨_,_,by simp only [Lx];rw [Ab hc,h1];rfl,h2⟩
   ·cases h
 |row e te=>
  cases a<;>simp only [fX] at h<;>first|(cases h;done)|skip
  ·exact ⟨_,_,rfl,h⟩
  ·split at h
   ·rename_i hl
    split at h
    ·rename_i hc
     obtain ⟨h1,h2,h3⟩:=h
     exact ⟨_,_,by simp only [Lx,hl];rw [Iy ⟨hc.1,hc.2,h1,h2⟩],h3⟩
    ·cases h
   ·cases h
  ·split at h
   ·rename_i hl
    split at h
    ·rename_i hc
     obtain ⟨y,h1,h2⟩:=h
     exact ⟨_,_,by simp only [Lx,hl];rw [Iy hc,h1];rfl,h2⟩
    ·cases h
   ·cases h
 |Hk e te=>
  cases a<;>simp only [fX] at h<;>first|(cases h;done)|skip
  ·exact ⟨_,_,rfl,h⟩
  ·split at h
   ·rename_i hl
    split at h
    ·rename_i hc
     obtain ⟨h1,h2,h3⟩:=h
     exact ⟨_,_,by simp only [Lx,hl];rw [Iy ⟨hc.1,hc.2,h1,h2⟩],h3⟩
    ·cases h
   ·cases h
  ·split at h
   ·rename_i hl
    split at h
    ·rename_i hc
     obtain ⟨y,h1,h2⟩:=h
     exact ⟨_,_,by simp only [Lx,hl];rw [Iy hc,h1];rfl,h2⟩
    ·cases h
   ·cases h
 |part e te=>
  cases a<;>simp only [fX] at h<;>first|(cases h;done)|skip
  split at h
  ·rename_i hl
   split at h
   ·rename_i hc
    exact ⟨_,_,by simp only [Lx,hl];rw [Iy hc],h⟩
   ·cases h
  ·cases h
 |Bm e te kp=>
  cases a<;>simp only [fX] at h<;>first|(cases h;done)|skip
  split at h
  ·rename_i hl
   split at h
   ·rename_i hc
    obtain ⟨h1,h2,h3⟩:=h
    exact ⟨_,_,by simp only [Lx,hl];rw [Iy ⟨hc.1,hc.2.1,h1,h2,hc.2.2⟩],h3⟩
   ·cases h
  ·cases h
theorem IY {st:St} {e:Ty} {ys:List e.den} {a:AC} {K:St->Prop} (h:Ac4 st e ys a K): ∃s,PE st e ys a=some s/\K s:=by
 cases a<;>simp only [Ac4] at h<;>first|(cases h;done)|skip
 split at h
 ·rename_i hl
  split at h
  ·rename_i hc
   obtain ⟨h1,h3⟩:=h
   exact ⟨_,by simp only [PE,hl];rw [Iy ⟨hc,h1⟩],h3⟩
  ·cases h
 ·cases h
theorem lN {st:St} : ∀(cs:List (Bool×CK)) (k:Nat) (as:List AC) (K:Ins.den cs->List (Nat×Loc)->Prop),DJ st k cs as K-> ∃x t,fY st k cs as=some (x,t)/\K x t
 | [],_,[],_,h=>⟨_,_,rfl,h⟩
 | [],_,_::_,_,h=>h.elim
 |_::_,_,[],_,h=>h.elim
 |p::r,k,a::as,K,h=>by
  obtain ⟨x,t1,h1,h2⟩:=DI h
  obtain ⟨y,t2,h3,h4⟩:=lN r (k+1) as _ h2
  exact ⟨_,_,by simp only [fY,h1,h3],h4⟩
theorem rq {st:St} {c:CK} {ys:c.den} {a:AC} {K:St->Prop} (h:rn st c ys a K): ∃s,cF st c ys a=some s/\K s:=by
 cases c with
 |Fm τ=>cases a<;>simp only [rn] at h<;>first|(cases h;done)|exact ⟨_,rfl,h⟩
 |row e te=>
  cases a<;>simp only [rn] at h<;>first|(cases h;done)|skip
  ·exact ⟨_,rfl,h⟩
  ·split at h
   ·rename_i hl
    split at h
    ·rename_i hc
     obtain ⟨h1,h3⟩:=h
     exact ⟨_,by simp only [cF,hl];rw [Iy ⟨hc,h1⟩],h3⟩
    ·cases h
   ·cases h
  ·split at h
   ·rename_i hl
    split at h
    ·rename_i hc
     obtain ⟨y,h1,h2,h3⟩:=h
     exact ⟨_,by simp only [cF,hl,Iy hc,h1];rw [Ab h2],h3⟩
    ·cases h
   ·cases h
 |Hk e te=>
  cases a<;>simp only [rn] at h<;>first|(cases h;done)|skip
  ·exact ⟨_,rfl,h⟩
  ·split at h
   ·rename_i hl
    split at h
    ·rename_i hc
     obtain ⟨h1,h3⟩:=h
     exact ⟨_,by simp only [cF,hl];rw [Iy ⟨hc,h1⟩],h3⟩
    ·cases h
   ·cases h
  ·split at h
   ·rename_i hl
    split at h
    ·rename_i hc
     obtain ⟨y,h1,h2,h3⟩:=h
     exact ⟨_,by simp only [cF,hl,Iy hc,h1];rw [Ab h2],h3⟩
    ·cases h
   ·cases h
 |part e te=>cases a<;>simp only [rn] at h<;>first|(cases h;done)|exact ⟨_,rfl,h⟩
 |Bm e te kp=>cases a<;>simp only [rn] at h<;>first|(cases h;done)|exact ⟨_,rfl,h⟩
theorem Qc: ∀(cs:List (Bool×CK)) (o:IOs.den cs) (as:List AC) (st:St) (K:St->Prop),jk cs o as st K-> ∃s,Hz cs o as st=some s/\K s
 | [],_,_,st,K,h=>⟨st,rfl,h⟩
 |(true, .Fm _)::r,o,[],st,K,h=>h.elim
 |(true, .row _ _)::r,o,[],st,K,h=>h.elim
 |(true, .Hk _ _)::r,o,[],st,K,h=>h.elim
 |(true, .part _ _)::r,o,[],st,K,h=>h.elim
 |(true, .Bm _ _ _)::r,o,[],st,K,h=>h.elim
 |(true, .Bm _ _ _)::r,o,a::as,st,K,h=>by
  obtain ⟨s,h1,h2⟩:=Qc r o as st K h
  exact ⟨s,by simp only [Hz];exact h1,h2⟩
 |(false,_)::r,o,[],st,K,h=>h.elim
 |(true, .Fm _)::r,o,a::as,st,K,h=>by
  obtain ⟨s,h1,h2⟩:=Qc r o as st K h
  exact ⟨s,by simp only [Hz];exact h1,h2⟩
 |(false,_)::r,o,a::as,st,K,h=>by
  obtain ⟨s,h1,h2⟩:=Qc r o as st K h
  exact ⟨s,by simp only [Hz];exact h1,h2⟩
 |(true, .row _ _)::r,o,a::as,st,K,h=>by
  obtain ⟨s1,h1,h2⟩:=rq h
  obtain ⟨s,h3,h4⟩:=Qc r o.2 as s1 K h2
  exact ⟨s,by simp only [Hz,h1];exact h3,h4⟩
 |(true, .part _ _)::r,o,a::as,st,K,h=>by
  obtain ⟨s1,h1,h2⟩:=IY h
  obtain ⟨s,h3,h4⟩:=Qc r o.2 as s1 K h2
  exact ⟨s,by simp only [Hz,h1];exact h3,h4⟩
 |(true, .Hk _ _)::r,o,a::as,st,K,h=>by
  obtain ⟨s1,h1,h2⟩:=rq h
  obtain ⟨s,h3,h4⟩:=Qc r o.2 as s1 K h2
  exact ⟨s,by simp only [Hz,h1];exact h3,h4⟩
theorem rJ {H:List (Nat×OB)} {ls:List Nat} {n:Nat} {K:Prop} : ∀(l:List AV),wg H ls n l K->dH H ls n l=true/\K
 | [],h=>⟨rfl,h⟩
 |a::r,h=>by
  have go:wg H ls n r K->dH H ls n r=true/\K:=rJ r
  cases a with
  | «at»c=>
   cases c with
   |sub l i c=>
    simp only [wg] at h
    simp only [dH]
    split at h
    ·rename_i hc
     obtain ⟨⟨h1,h2⟩,h3⟩:=h
     obtain ⟨g1,g2⟩:=go h3
     exact ⟨by simp only [hc,g1,Bool.and_true,Bool.not_true,Pg,Af,Ni];exact ⟨h1,h2⟩,g2⟩
    ·rename_i hc
     obtain ⟨g1,g2⟩:=go h
     exact ⟨by simp only [hc,g1,Bool.not_false,Bool.true_or,Bool.and_true],g2⟩
   |_=>exact go h
  |_=>exact go h
theorem zL {st:St} {d:Option Nat} {s:MSpec} {args:List AV} {K:AV->St->Prop} (h:MD st d s args K): ∃v s',Xz st d s args=some (v,s')/\K v s':=by
 unfold MD at h
 obtain ⟨⟨pl,cells,rest⟩,h0,h⟩:=Cg.1 h
 obtain ⟨as,h1,h⟩:=Cg.1 h
 obtain ⟨x,tks,h2,h⟩:=lN s.ins 0 (cells++as) _ h
 split at h
 ·rename_i hc
  obtain ⟨⟨r,o⟩,h3,h⟩:=h
  obtain ⟨st1,h4,h⟩:=Qc s.ins o (cells++as) st _ h
  obtain ⟨v,h5,h6⟩:=Cg.1 h
  obtain ⟨h7,h6⟩:=rJ _ h6
  refine ⟨v,_,?_,h6⟩
  unfold Xz
  simp only [h0,h1,h2]
  rw [Ab hc]
  simp only [h3,h4,h5]
  rw [Ab h7]
 ·cases h
theorem VR {w:WS} (hw:w.OK) {o:Oper} {K:AV->WS->Prop} (h:opW T Γ w o K):
  ∃v w',evalOp T Γ w.st o=some (v,w'.st)/\w'.OK/\(∀b,Hi w'.kn o=some b-> ∃fr,v= .at (.data fr .bool b))/\K v w':=by
 have fin: ∀v s,(∀b,Hi w.kn o=some b-> ∃fr,v= .at (.data fr .bool b))->evalOp T Γ w.st o=some (v,s)->K v (w.to s)-> ∃v w',evalOp T Γ w.st o=some (v,w'.st)/\w'.OK/\(∀b,Hi w'.kn o=some b-> ∃fr,v= .at (.data fr .bool b))/\K v w':=
  fun v s hk h1 h2=>⟨v,w.to s,h1,hw.to (nz h1),hk,h2⟩
 have zW:(∀b v s,Hi w.kn o=some b->evalOp T Γ w.st o=some (v,s)-> ∃fr,v= .at (.data fr .bool b))->Ht (evalOp T Γ w.st o) (λr=>K r.1 (w.to r.2))-> ∃v w',evalOp T Γ w.st o=some (v,w'.st)/\w'.OK/\(∀b,Hi w'.kn o=some b-> ∃fr,v= .at (.data fr .bool b))/\K v w':=by
  intro hk h
  obtain ⟨r,h1,h2⟩:=Cg.1 h
  exact fin r.1 r.2 (λb hb=>hk b _ _ hb h1) h1 h2
 unfold opW at h
 split at h
 ·rename_i heq
  obtain ⟨s,h1,h2⟩:=xK h
  refine fin _ _ (λb hb=>by unfold Hi at hb;rw [heq] at hb;cases hb) ?_ h2
  unfold evalOp;rw [heq];simp only [h1];rfl
 ·rename_i heq
  obtain ⟨d,h1,h⟩:=Cg.1 h
  obtain ⟨v,s,h2,h3⟩:=BE h
  refine fin _ _ (λb hb=>by unfold Hi at hb;rw [heq] at hb;cases hb) ?_ h3
  unfold evalOp;rw [heq];simp only [h1,h2]
 ·rename_i heq
  split at h
  ·rename_i hd ha ht
   split at h
   ·rename_i Vx
    obtain ⟨v,s,h2,h3⟩:=tA h
    refine fin _ _ (λb hb=>by unfold Hi at hb;rw [heq] at hb;cases hb) ?_ h3
    unfold evalOp;rw [heq];simp only [hd,ha,ht,Ab Vx,h2]
   ·cases h
  ·cases h
 ·rename_i heq;exact zW (λb v s hb he=>uQ hw heq hb he) h
 ·rename_i heq;exact zW (λb v s hb he=>by unfold Hi at hb;rw [heq] at hb;cases hb) h
 ·rename_i heq;exact zW (λb v s hb he=>by unfold Hi at hb;rw [heq] at hb;cases hb) h
 ·rename_i heq
  obtain ⟨d,h1,h⟩:=Cg.1 h
  obtain ⟨v,s,h2,h3⟩:=m8 h
  refine fin _ _ (λb hb=>by unfold Hi at hb;rw [heq] at hb;cases hb) ?_ h3
  unfold evalOp;rw [heq];simp only [h1,h2]
 ·rename_i heq;exact zW (λb v s hb he=>by unfold Hi at hb;rw [heq] at hb;cases hb) h
 ·rename_i heq;exact zW (λb v s hb he=>by unfold Hi at hb;rw [heq] at hb;cases hb) h
 ·rename_i heq;exact zW (λb v s hb he=>by unfold Hi at hb;rw [heq] at hb;cases hb) h
 ·rename_i heq;exact zW (λb v s hb he=>by unfold Hi at hb;rw [heq] at hb;cases hb) h
 ·rename_i heq;exact zW (λb v s hb he=>by unfold Hi at hb;rw [heq] at hb;cases hb) h
 ·rename_i heq;exact zW (λb v s hb he=>by unfold Hi at hb;rw [heq] at hb;cases hb) h
 ·
  rename_i f _ _ heq
  split at h
  ·rename_i Pl
   obtain ⟨v,s',h1,h2⟩:=zL h
   refine fin v s' (λb hb=>by unfold Hi at hb;rw [heq] at hb;cases hb) ?_ h2
   unfold evalOp;rw [heq];simp only [Pl];exact h1
  ·rename_i s Pl
   split at h
   ·rename_i SO
    obtain ⟨st1,hs,h⟩:=Cg.1 h
    obtain ⟨v,w',h1,h2,h3,h3',h4⟩:=jl (hw.to (aB _ hs)) h
    refine ⟨v,w',?_,h3,h3',h4⟩
    have h1:Fa T Γ st1 o=some v:=h1
    have h2:w'.st=st1:=h2
    unfold evalOp
    rw [heq]
    simp only [Pl,SO,hs,h1,h2]
    rfl
   ·rename_i SO
    obtain ⟨v,w',h1,h2,h3,h3',h4⟩:=jl hw h
    refine ⟨v,w',?_,h3,h3',h4⟩
    unfold evalOp
    rw [heq]
    simp only [Pl,SO,h1,h2]
    rfl
  ·rename_i Ayx Ant
   obtain ⟨v,w',h1,h2,h3,h3',h4⟩:=jl hw h
   refine ⟨v,w',?_,h3,h3',h4⟩
   unfold evalOp
   rw [heq]
   simp only
   rw [h1,h2];rfl
 ·rename_i n1 n2 n3 n4 n5 n6 n7 n8 n9 n10 n11 n12 n13 n14
  obtain ⟨v,w',h1,h2,h3,h3',h4⟩:=jl hw h
  refine ⟨v,w',?_,h3,h3',h4⟩
  unfold evalOp
  split
  all_goals first
   |(rw [h1,h2];rfl)
   |(rename_i hq;exact absurd hq (by first|exact n1 _|exact n2 _|exact n3 _|exact n4 _|exact n5 _|exact n6 _|exact n7 _|exact n8 _|exact n9 _|exact n10 _|exact n11 _|exact n12 _|exact n13 _|exact n14 _))
   |(rename_i hq;exact absurd hq (by first|exact n1 _ _|exact n2 _ _|exact n3 _ _|exact n4 _ _|exact n5 _ _|exact n6 _ _|exact n7 _ _|exact n8 _ _|exact n9 _ _|exact n10 _ _|exact n11 _ _|exact n12 _ _|exact n13 _ _|exact n14 _ _))
   |(rename_i hq;exact absurd hq (by first|exact n1 _ _ _|exact n2 _ _ _|exact n3 _ _ _|exact n4 _ _ _|exact n5 _ _ _|exact n6 _ _ _|exact n7 _ _ _|exact n8 _ _ _|exact n9 _ _ _|exact n10 _ _ _|exact n11 _ _ _|exact n12 _ _ _|exact n13 _ _ _|exact n14 _ _ _))
   |(rename_i hq;exact absurd hq (by first|exact n1 _ _ _ _|exact n2 _ _ _ _|exact n3 _ _ _ _|exact n4 _ _ _ _|exact n5 _ _ _ _|exact n6 _ _ _ _|exact n7 _ _ _ _|exact n8 _ _ _ _|exact n9 _ _ _ _|exact n10 _ _ _ _|exact n11 _ _ _ _|exact n12 _ _ _ _|exact n13 _ _ _ _|exact n14 _ _ _ _))
theorem zZ (st:St) (d:Nat) (v:AV):(st.put (some d) v).get d=v\/(st.put (some d) v).get d= .undef:=by
 simp only [St.put,St.get]
 rw [Qs]
 by_cases h:d<st.tmps.length
 ·exact .inl (by rw [Ab ⟨rfl,h⟩])
 ·refine .inr ?_
  rw [Ag (λhc=>h hc.2),Ak,Fy (by omega)]
  rfl
theorem WS.OK.xp {w:WS} (hw:w.OK) (o:Oper) (v:AV) (h: ∀b,Hi w.kn o=some b-> ∃fr,v= .at (.data fr .bool b)):(w.xp o v).OK/\(w.xp o v).st=w.st.put o.dst v:=by
 unfold WS.xp
 split
 ·rename_i d b hd hk
  split
  ·rename_i fr c hg
   refine ⟨?_,by rw [hd]⟩
   obtain ⟨Wf,hv⟩:=h b hk
   intro t b' hb
   simp only [x4] at hb
   split at hb
   ·rename_i ht
    injection hb with hb
    subst ht;subst hb
    refine ⟨Wf,?_⟩
    show (w.st.put (some d) v).get d=_
    cases zZ w.st d v with
    |inl h1=>rw [h1,hv]
    |inr h1=>rw [h1] at hg;cases hg
   ·exact hw.put (some d) v t b' hb
  ·exact ⟨hw.put _ _,by rw [WS.vg,hd]⟩
 ·exact ⟨hw.put _ _,WS.vg _ _ _⟩
theorem rI {ops:Array Oper} {w:WS} (hw:w.OK) {o:Oper} {run:(AV->WS->Prop)->WS->Prop} {R:St->Option (AV×St)} {K:WS->Prop}
  (hr: ∀(k:AV->WS->Prop) (w:WS),w.OK->run k w-> ∃v w',R w.st=some (v,w'.st)/\w'.OK/\(∀b,Hi w'.kn o=some b-> ∃fr,v= .at (.data fr .bool b))/\k v w') (h:jF ops w o run K):
  ∃w',(match o.guard with
   |none=>(R w.st).map λr=>r.2.put o.dst r.1
   |some (j,want)=>match Xs w.st ((ops[j]?).bind (·.dst)) with
    |some (some b)=>if b==want then (R w.st).map λr=>r.2.put o.dst r.1 else some (w.st.put o.dst (.at .skip))
    |some none=>some (w.st.put o.dst (.at .skip))
    |none=>none)=some w'.st/\w'.OK/\K w':=by
 have go: ∀w:WS,w.OK->run (λv w'=>K (w'.xp o v)) w-> ∃w',((R w.st).map λr=>r.2.put o.dst r.1)=some w'.st/\w'.OK/\K w':=by
  intro w hw h
  obtain ⟨v,w',h1,h2,h3,h4⟩:=hr _ _ hw h
  obtain ⟨h5,h6⟩:=h2.xp o v h3
  exact ⟨w'.xp o v,by rw [h1,h6];rfl,h5,h4⟩
 unfold jF at h
 split at h
 ·rename_i hg
  rw [hg]
  exact go w hw h
 ·rename_i j want hg
  rw [hg]
  obtain ⟨t,h1,h⟩:=Cg.1 h
  simp only [h1]
  split at h
  ·rename_i hs
   have hsk:w.st.get t= .at .skip:=by
    unfold AV.Ab5 at hs
    split at hs
    ·assumption
    ·cases hs
   exact ⟨_,by simp only [Xs,hsk];rw [WS.vg],hw.put _ _,h⟩
  ·obtain ⟨fr,b,w',h2,h3,h4,h5⟩:=yl hw h
   have hb:Xs w.st (some t)=some (some b):=by simp only [Xs,h2]
   rw [hb]
   simp only
   cases b with
   |true=>
    cases want with
    |true=>rw [Ab (by decide),<-h3];exact go w' h4 h5
    |false=>exact ⟨_,by rw [Ag (by decide),<-h3,WS.vg],h4.put _ _,h5⟩
   |false=>
    cases want with
    |false=>rw [Ab (by decide),<-h3];exact go w' h4 h5
    |true=>exact ⟨_,by rw [Ag (by decide),<-h3,WS.vg],h4.put _ _,h5⟩
theorem eM {ops:Array Oper} {w:WS} (hw:w.OK) {o:Oper} {K:WS->Prop} (h:jF ops w o (λk w'=>opW T Γ w' o k) K): ∃w',Er T Γ ops w.st o=some w'.st/\w'.OK/\K w':=by
 obtain ⟨w',h1,h2⟩:=rI hw (R:= λst=>evalOp T Γ st o) (λk w hw h=>by
  obtain ⟨v,w',h1,h2,h2',h3⟩:=VR hw h
  exact ⟨v,w',h1,h2,h2',h3⟩) h
 exact ⟨w',h1,h2⟩
theorem ZN {w:WS} (hw:w.OK) {o:Oper} {K:AV->WS->Prop} (h:bW T Γ w o K):
  ∃v w',Xl T Γ w.st o=some v/\w'.st=w.st/\w'.OK/\(∀b,Hi w'.kn o=some b-> ∃fr,v= .at (.data fr .bool b))/\K v w':=by
 unfold bW at h
 split at h
 ·rename_i t len parts sQ
  obtain ⟨v,h1,h2⟩:=Cg.1 h
  exact ⟨v,w,by unfold Xl;rw [sQ];exact h1,rfl,hw,λb hb=>by simp [Hi,sQ] at hb,h2⟩
 ·rename_i t parts sQ
  obtain ⟨v,h1,h2⟩:=Cg.1 h
  exact ⟨v,w,by unfold Xl;rw [sQ];exact h1,rfl,hw,λb hb=>by simp [Hi,sQ] at hb,h2⟩
 ·rename_i n1 n2
  obtain ⟨v,w',h1,h2⟩:=jl hw h
  refine ⟨v,w',?_,h2⟩
  rw [<-h1]
  unfold Xl
  split
  ·rename_i h9;exact absurd h9 (n1 _ _ _)
  ·rename_i h9;exact absurd h9 (n2 _ _)
  ·rfl
theorem Afw {ops:Array Oper} {w:WS} (hw:w.OK) {o:Oper} {K:WS->Prop} (h:jF ops w o (λk w'=>bW T Γ w' o k) K): ∃v w',Xi T Γ ops w.st o=some v/\w'.st=w.st.put o.dst v/\w'.OK/\K w':=by
 obtain ⟨w',h1,h2,h3⟩:=rI hw (R:= λst=>(Xl T Γ st o).map λv=>(v,st)) (λk w hw h=>by
  obtain ⟨v,w',h1,h2,h3,h3',h4⟩:=ZN hw h
  exact ⟨v,w',by simp only [h1,h2];rfl,h3,h3',h4⟩) h
 have key: ∀u:Option AV,((u.map λv=>(v,w.st)).map λr=>r.2.put o.dst r.1)=some w'.st-> ∃v,u=some v/\w'.st=w.st.put o.dst v:=by
  intro u hu
  cases u with
  |none=>cases hu
  |some v=>injection hu with hu;exact ⟨v,rfl,hu.symm⟩
 unfold Xi
 split at h1
 ·rename_i hg
  obtain ⟨v,h4,h5⟩:=key _ h1
  exact ⟨v,w',by rw [hg];exact h4,h5,h2,h3⟩
 ·rename_i j want hg
  rw [hg]
  split at h1
  ·rename_i b hb
   simp only [hb]
   split at h1
   ·rename_i hbw
    obtain ⟨v,h4,h5⟩:=key _ h1
    exact ⟨v,w',by rw [Ab hbw];exact h4,h5,h2,h3⟩
   ·rename_i hbw
    injection h1 with h1
    exact ⟨_,w',by rw [Ag hbw],h1.symm,h2,h3⟩
  ·rename_i hb
   simp only [hb]
   injection h1 with h1
   exact ⟨_,w',rfl,h1.symm,h2,h3⟩
  ·cases h1
theorem uR {ops:Array Oper} : ∀(l:List Oper) {w:WS} (_:w.OK) {K:WS->Prop},Ako T Γ ops l w K-> ∃w',aY T Γ ops l w.st=some w'.st/\w'.OK/\K w'
 | [],w,hw,K,h=>⟨w,rfl,hw,h⟩
 |o::r,w,hw,K,h=>by
  obtain ⟨w1,h1,h2,h3⟩:=eM hw h
  obtain ⟨w2,h4,h5⟩:=uR r h2 h3
  exact ⟨w2,by simp only [aY];rw [h1];exact h4,h5⟩
theorem fk {ops:Array Oper} : ∀(l:List Nat) {w:WS} (_:w.OK) {K:WS->Prop},Aaw T Γ ops l w K-> ∃w',Mv T Γ ops l w.st=some w'.st/\w'.OK/\K w'
 | [],w,hw,K,h=>⟨w,rfl,hw,h⟩
 |i::r,w,hw,K,h=>by
  obtain ⟨o,h0,h⟩:=Cg.1 h
  obtain ⟨w1,h1,h2,h3⟩:=eM hw h
  obtain ⟨w2,h4,h5⟩:=fk r h2 h3
  exact ⟨w2,by simp only [Mv];rw [h0];simp only [h1];exact h4,h5⟩
theorem Rq {ops:Array Oper} : ∀(l:List Nat) {w:WS} (_:w.OK) {K:WS->Prop},qR T Γ ops l w K-> ∃w',Ga T Γ ops l w.st=some w'.st/\w'.OK/\K w'
 | [],w,hw,K,h=>⟨w,rfl,hw,h⟩
 |i::r,w,hw,K,h=>by
  obtain ⟨o,h0,h⟩:=Cg.1 h
  obtain ⟨v,w1,h1,h1',h2,h3⟩:=Afw hw h
  obtain ⟨w2,h4,h5⟩:=Rq r h2 h3
  exact ⟨w2,by simp only [Ga];rw [h0];simp only [h1];rw [<-h1'];exact h4,h5⟩
theorem mZ {P:Nat->Prop} : ∀(l:List Nat),ZK l P-> ∀i∈l,P i
 | [],_,i,hi=>by cases hi
 | [k],h,i,hi=>by rw [Ae.1 hi];exact h
 |k::j::r,h,i,hi=>by
  rcases Be.1 hi with rfl|hi
  ·exact h.1
  ·exact mZ (j::r) h.2 i hi
theorem m6 {ops:Array Oper} {K:WS->Prop} : ∀(f:Nat) (Ah:Array Bool) {w:WS} (_:w.OK),UC T Γ ops f Ah w K->anyS T Γ ops (λs=> ∃w':WS,w'.st=s/\w'.OK/\K w') f Ah w.st
 |0,Ah,w,hw,h=>by
  unfold UC at h
  split at h
  ·rename_i hr;exact ⟨hr,w,rfl,hw,h⟩
  ·cases h
 |f+1,Ah,w,hw,h=>by
  unfold UC at h
  split at h
  ·cases h
  ·rename_i i r hr
   refine ⟨by rw [hr];simp,λk hk=>?_⟩
   rw [hr] at hk
   obtain ⟨o,h0,h1⟩:=Cg.1 (mZ _ h k hk)
   obtain ⟨w1,h2,h3,h4⟩:=eM hw h1
   exact ⟨o,w1.st,h0,h2,m6 f _ h3 h4⟩
theorem aZ {ops:Array Oper} {K:WS->Prop} : ∀(f:Nat) (Ah:Array Bool) {w:WS} (_:w.OK),mb T Γ ops f Ah w K-> ∃w':WS,w'.OK/\K w'
 |0,Ah,w,hw,h=>by
  simp only [mb] at h
  split at h
  ·exact ⟨w,hw,h⟩
  ·exact h.elim
 |f+1,Ah,w,hw,h=>by
  simp only [mb] at h
  split at h
  ·exact h.elim
  ·obtain ⟨o,ho,h1⟩:=Cg.1 h
   obtain ⟨w',h2,h3,h4⟩:=eM hw h1
   exact aZ f _ h3 h4
theorem qB {P:List (Nat×Nat×AV×OB)} {ops:Array Oper} {K:WS->Prop} : ∀(f:Nat) (Ah:Array Bool) {w:WS} (_:w.OK),ER T Γ P ops f Ah w K->Aij T Γ ops P (λs=> ∃w':WS,w'.st=s/\w'.OK/\K w') f Ah w.st
 |0,Ah,w,hw,h=>by
  unfold ER at h
  split at h
  ·rename_i hr;exact ⟨hr,w,rfl,hw,h⟩
  ·cases h
 |f+1,Ah,w,hw,h=>by
  unfold ER at h
  split at h
  ·cases h
  ·rename_i i r hr
   refine ⟨by rw [hr];simp,λk hk=>?_⟩
   rw [hr] at hk
   obtain ⟨o,h0,h1⟩:=Cg.1 (mZ _ h k hk)
   split at h1
   ·rename_i iY
    obtain ⟨w1,h2,h3,h4⟩:=eM hw h1
    exact ⟨o,w1.st,h0,iY,h2,qB f _ h3 h4⟩
   ·cases h1
theorem HY {α:Type} (f:α->Nat) {l:List α} (h:aC (l.map f)=true):l.Pairwise λa c=>f a≠f c:=List.pairwise_map.1 (Yi h)
theorem dh {ops:Array Oper} {E:List Nat} {Ah:Array Bool} {w:WS} (hw:w.OK): ∀(R:List Nat) {K:Prop},zo T Γ ops E Ah w R K->K/\ ∀r∈R,tf ops E Ah r=true\/ ∃o v,ops[r]?=some o/\Xi T Γ ops w.st o=some v/\ ∀d,o.dst=some d->w.st.get d=v
 | [],K,h=>⟨h,λr hr=>by cases hr⟩
 |r::R,K,h=>by
  unfold zo at h
  split at h
  ·rename_i hwt
   obtain ⟨h1,h2⟩:=dh hw R h
   refine ⟨h1,λq hq=>?_⟩
   rcases Be.1 hq with rfl|hq
   ·exact .inl hwt
   ·exact h2 q hq
  ·obtain ⟨h0,h⟩:=h
   obtain ⟨h1,h2⟩:=dh hw R h
   refine ⟨h1,λq hq=>?_⟩
   rcases Be.1 hq with rfl|hq
   ·refine .inr ?_
    obtain ⟨w',g1,_,g3⟩:=Rq _ hw h0
    obtain ⟨d,hd,g4⟩:=Cg.1 g3
    simp only [Ga] at g1
    split at g1
    ·cases g1
    rename_i o ho
    split at g1
    rotate_left
    ·cases g1
    rename_i v hv
    refine ⟨o,v,ho,hv,λd' hd'=>?_⟩
    rw [ho] at hd
    have hdd:o.dst=some d:=hd
    rw [hd'] at hdd
    cases hdd
    split at g4
    ·rename_i hl
     have e:=jY g4
     have e1:w'.st.get d=w.st.get d:=by
      have:=Mf (λs:St=>s.tmps) e
      simpa using this
     rw [<-e1]
     have e2:w.st.put o.dst v=w'.st:=Ba g1
     rw [<-e2,show o.dst=some d from hd]
     show (Su w.st.tmps d v).getD d .undef=v
     rw [Qs,Ab ⟨rfl,by simpa [Ni] using hl⟩]
    ·cases g4
   ·exact h2 q hq
theorem qC {ops:Array Oper} {E:List Nat} {K:WS->Prop} : ∀(f:Nat) (Ah:Array Bool) {w:WS} (_:w.OK),ES T Γ ops E f Ah w K->wH T Γ ops E (λs=> ∃w':WS,w'.st=s/\w'.OK/\K w') f Ah w.st
 |0,Ah,w,hw,h=>by
  unfold ES at h
  obtain ⟨h,hs⟩:=dh hw _ h
  split at h
  ·rename_i hr;exact ⟨hs,hr,w,rfl,hw,h⟩
  ·cases h
 |f+1,Ah,w,hw,h=>by
  unfold ES at h
  obtain ⟨h,hs⟩:=dh hw _ h
  split at h
  ·cases h
  ·rename_i i r hr
   refine ⟨hs,by rw [hr];simp,λk hk=>?_⟩
   rw [hr] at hk
   obtain ⟨o,h0,h1⟩:=Cg.1 (mZ _ h k hk)
   obtain ⟨w1,h2,h3,h4⟩:=eM hw h1
   exact ⟨o,w1.st,h0,h2,qC f _ h3 h4⟩
theorem BZ {ops:Array Oper} {E:List Nat} {L0:Array Bool} {n:Nat} {w:WS} (hw:w.OK) {K:WS->Prop} (h:PI T Γ E n L0 ops w K):Aik T Γ ops (λs=> ∃w':WS,w'.st=s/\w'.OK/\K w') n L0 w.st:=by
 unfold PI at h
 split at h
 ·rename_i hb
  simp only [Af] at hb
  obtain ⟨b1,b2,b3⟩:=hb
  obtain ⟨w1,h1,h2,h3⟩:=Rq _ hw h
  have h3:=Yd.1 h3
  obtain ⟨w0,g1,g2⟩:=aZ _ _ h2 h3
  obtain ⟨g3,g4⟩:=Yd.1 g2
  refine ⟨E,w1.st,b1,Nat.le_of_ble_eq_true b2,h1,pe (λs hs=>?_) _ _ _ (qC _ _ h2 g4)⟩
  obtain ⟨w',h5,_,h6⟩:=hs
  exact ⟨w0,((h5.symm.trans (jY h6)).symm),g1,g3⟩
 ·cases h
theorem wJ {ops:Array Oper} {L0:Array Bool} {n:Nat} {w:WS} (hw:w.OK) {K:WS->Prop} (hc:Ue ops L0) (h:zK T Γ (Zt T ops L0) n L0 ops w K):anyS T Γ ops (λs=> ∃w':WS,w'.st=s/\w'.OK/\K w') n L0 w.st\/Aik T Γ ops (λs=> ∃w':WS,w'.st=s/\w'.OK/\K w') n L0 w.st:=by
 unfold zK at h
 split at h
 ·rename_i hb
  simp only [Af] at hb
  obtain ⟨⟨b1,b2⟩,b3,b4,b5⟩:=hb
  have hm: ∀a∈Zt T ops L0,a.1∈Region.ready .any ops L0/\ ∃o,ops[a.1]?=some o/\eW T o=some a.2:= λa ha=>zG ha
  have p1:=HY (λa:Nat×Nat×AV×OB=>a.1) b1
  have p2:=HY (λa:Nat×Nat×AV×OB=>a.2.1) b2
  have hlen:(Zt T ops L0).length<=n:=Nat.le_of_ble_eq_true b4
  obtain ⟨w1,h1,h2,h3⟩:=fk _ hw h
  have h3:=Yd.1 h3
  obtain ⟨w0,g1,g2⟩:=aZ _ _ h2 h3
  obtain ⟨g3,g4⟩:=Yd.1 g2
  have hp:=IW (Γ:=Γ) _ w.st w1.st (λa ha=>(hm a ha).2) (λa ha=>uO (Bd.1 b3 a ha)) p2 h1
  refine .inl (jW (λs hs=>?_) _ _ _ (UB (λa ha=>(hm a ha).2) n (n-(Zt T ops L0).length) (Zt T ops L0) _ L0 w1.st w.st (by omega) (qB _ _ h2 g4) hp
   (Ae9 (ops:=ops) λi hi=>by obtain ⟨a,ha,rfl⟩:=Bj.1 hi;exact (hm a ha).1) (λa ha=>ha) (p2.and p1) hc λa ha x hx=>cY (hm a ha).1 hx))
  obtain ⟨w',h5,_,h6⟩:=hs
  exact ⟨w0,((h5.symm.trans (jY h6)).symm),g1,g3⟩
 ·exact .inr (BZ hw h)
theorem xq {ops:Array Oper} {draw:Bool} {w:WS} (hw:w.OK) {K:WS->Prop} (h:CC T Γ ops draw w K):zA T Γ ops draw w.st (λs=> ∃w':WS,w'.st=s/\w'.OK/\K w'):=by
 unfold CC at h
 split at h
 ·split at h
  ·rename_i ho
   obtain ⟨w1,h1,h2,h3⟩:=Rq _ hw h
   obtain ⟨w2,h4,h5⟩:=fk _ h2 h3
   exact .inl ⟨w2.st,by simp only [Ro,Pn];rw [Ab ho,h1];exact h4,w2,rfl,h5⟩
  ·rename_i ho
   split at h
   ·rename_i ho2
    obtain ⟨w1,h1,h2,h3⟩:=Rq _ hw h
    obtain ⟨w2,h4,h5⟩:=fk _ h2 h3
    exact .inl ⟨w2.st,by simp only [Ro,Pn];rw [Ag (by rw [ho];decide),Ab ho2,h1];exact h4,w2,rfl,h5⟩
   ·split at h
    ·rename_i hc
     simp only [Af] at hc
     obtain ⟨w1,h1,h2,h3⟩:=Rq _ hw h
     split at h3
     ·exact .inr ⟨rfl,hc.1,w1.st,h1, .inl (m6 _ _ h2 h3)⟩
     ·obtain ⟨w0,g1,g2⟩:=aZ _ _ h2 h3
      obtain ⟨g3,g4⟩:=Yd.1 g2
      exact .inr ⟨rfl,hc.1,w1.st,h1, .inl (jW (λs hs=>by
       obtain ⟨w',h5,_,h6⟩:=hs
       exact ⟨w0,((h5.symm.trans (jY h6)).symm),g1,g3⟩) _ _ _ (m6 _ _ h2 g4))⟩
    ·split at h
     ·rename_i SO
      obtain ⟨w1,h1,h2,h3⟩:=Rq _ hw h
      exact .inr ⟨rfl,SO,w1.st,h1,wJ h2 (aW _ _ _ qG) h3⟩
     ·cases h
 ·obtain ⟨w1,h1,h2⟩:=uR _ hw h
  exact .inl ⟨w1.st,by simp only [Ro];rw [Ag (by simp)];exact h1,w1,rfl,h2⟩
end
end Go.Proofs.YtfolipnappekaaaGreat
