/-
  Part 33 of the proof that the statement FnLowerBounds holds.
-/
import Derived.Test.YtkkdpknjohcekaaGreatCFLowerBounds31
namespace Go.Proofs.YtkkdpknjohcekaaGreat
open Go.RowKit
section
variable {T:Tab} {Γ:Env}
def WS.OK (w:WS):Prop:= ∀t b,nN w.kn t=some b-> ∃fr,w.st.get t= .at (.data fr .bool b)
theorem me: ∀(l:List (Nat×Bool)) (d t:Nat) (b:Bool),nN (xj l d) t=some b->t≠d/\nN l t=some b
 | [],_,_,_,h=>by cases h
 |(k,c)::r,d,t,b,h=>by
  simp only [xj] at h
  split at h
  ·rename_i hk
   have:=me r d t b h
   refine ⟨this.1,?_⟩
   simp only [nN]
   rw [Aj (by rw [hk];exact λh=>this.1 h.symm)]
   exact this.2
  ·rename_i hk
   simp only [nN] at h⊢
   split at h
   ·rename_i hkt
    exact ⟨by rw [<-hkt];exact hk,by rw [Ab hkt];exact h⟩
   ·rename_i hkt
    rw [Aj hkt]
    exact me r d t b h
theorem WS.OK.put {w:WS} (h:w.OK) (dst:Option Tmp) (v:AV):(w.put dst v).OK:=by
 cases dst with
 |none=>exact h
 |some d=>
  intro t b hb
  obtain ⟨h1,h2⟩:=me _ _ _ _ hb
  obtain ⟨fr,h3⟩:=h t b h2
  exact ⟨fr,by show (w.st.put (some d) v).get t=_;rw [bY _ _ h1];exact h3⟩
theorem WS.tY (w:WS) (dst:Option Tmp) (v:AV):(w.put dst v).st=w.st.put dst v:=by cases dst<;>rfl
theorem WS.OK.to {w:WS} (h:w.OK) {s:St} (hs:Ck w.st s):(w.to s).OK:=by
 intro t b hb
 obtain ⟨fr,h3⟩:=h t b hb
 exact ⟨fr,hs t fr _ _ h3⟩
theorem wW {w:WS} (hw:w.OK) {t:Nat} {K:Bool->WS->Prop} (h:brT w t K):
  ∃fr b w',w.st.get t= .at (.data fr .bool b)/\w'.st=w.st/\w'.OK/\K b w':=by
 unfold brT at h
 split at h
 ·rename_i b hb
  obtain ⟨fr,h1⟩:=hw t b hb
  exact ⟨fr,b,w,h1,rfl,hw,h⟩
 ·split at h
  ·rename_i fr b hb
   obtain ⟨h1,h2⟩:=h
   have ok: ∀c:Bool,b=c->WS.OK {kn:=(t,c)::w.kn,st:=w.st} :=by
    intro c hc t' b' h'
    simp only [nN] at h'
    split at h'
    ·rename_i ht
     injection h' with h'
     exact ⟨fr,by rw [<-ht,<-h',<-hc];exact hb⟩
    ·exact hw t' b' h'
   cases b with
   |true=>exact ⟨fr,true, {kn:=(t,true)::w.kn,st:=w.st},hb,rfl,ok true rfl,h1 rfl⟩
   |false=>exact ⟨fr,false, {kn:=(t,false)::w.kn,st:=w.st},hb,rfl,ok false rfl,h2 rfl⟩
  ·cases h
theorem wV {w:WS} (hw:w.OK) {c:Operand} {K:Bool->WS->Prop} (h:brO w c K):
  ∃fr b w',w.st.ev c= .at (.data fr .bool b)/\w'.st=w.st/\w'.OK/\K b w':=by
 unfold brO at h
 split at h
 ·exact wW hw h
 ·exact ⟨true,_,w,rfl,rfl,hw,h⟩
 ·cases h
theorem IS {op:BinOp} {t:TypeId} {x y:AV} {K:AV->Prop} (h:Ag1 T op t x y K): ∃v,Ut T op t x y=some v/\K v:=by
 unfold Ag1 at h
 split at h
 ·split at h
  ·rename_i hk
   exact ⟨_,by simp only [Ut,evalBin,tj];rw [Ab hk,Aj h.1];rfl,h.2⟩
  ·cases h
 ·split at h
  ·rename_i hk
   exact ⟨_,by simp only [Ut,evalBin,tj];rw [Ab hk,Aj h.1];rfl,h.2⟩
  ·cases h
 ·exact ⟨_,by simp only [Ut,evalBin];rw [Aj h.1];rfl,h.2⟩
 ·exact ⟨_,by simp only [Ut,evalBin];rw [Aj h.1];rfl,h.2⟩
 ·exact ⟨_,by simp only [Ut,evalBin];rw [Ab h.1],h.2⟩
 ·exact Bx.1 h
theorem EF {st:St} {t:TypeId} {p:AV} {K:AV->Prop} (h:YM T st t p K): ∃v,Re T st t p=some v/\K v:=by
 unfold YM at h
 split at h
 ·obtain ⟨τ,h1,h2⟩:=Bx.1 h
  split at h2
  ·rename_i hb
   split at h2
   ·rename_i he
    obtain ⟨x,h3,h4⟩:=h2
    exact ⟨_,by simp only [Re,h1,hb,Ab he,h3];rfl,h4⟩
   ·cases h2
  ·rename_i hb
   split at h2
   ·rename_i he
    obtain ⟨x,h3,h4⟩:=h2
    exact ⟨_,by simp only [Re,h1,hb,Ab he,h3];rfl,h4⟩
   ·cases h2
  ·rename_i hb
   split at h2
   ·cases h2
   ·rename_i he
    exact ⟨_,by simp only [Re,h1,hb,Aj he],h2⟩
  ·cases h2
 ·obtain ⟨τ,h1,h2⟩:=Bx.1 h
  split at h2
  ·rename_i he
   obtain ⟨y,h3,h4⟩:=h2
   subst h3
   exact ⟨_,by simp only [Re,h1,Ab he],h4⟩
  ·cases h2
 ·exact Bx.1 h
theorem oW {s:TypeId} {x:AV} {f:Nat} {K:AV->Prop} (h:lZ T s x f K): ∃v,Ot T s x f=some v/\K v:=by
 unfold lZ at h
 split at h
 ·obtain ⟨y,h1,h2⟩:=h
  subst h1
  obtain ⟨v,h3,h4⟩:=Bx.1 h2
  refine ⟨v,?_,h4⟩
  rw [<-h3]
  unfold Ot
  cases T.off s f<;>rfl
 ·exact Bx.1 h
theorem zT {st:St} {t:TypeId} {x:AV} {lo hi:Option AV} {K:AV->Prop} (h:MM T st t x lo hi K): ∃v,ef T st t x lo hi=some v/\K v:=by
 unfold MM at h
 obtain ⟨n,h1,h⟩:=Bx.1 h
 obtain ⟨l,h2,h⟩:=Bx.1 h
 obtain ⟨hh,h3,hc,h⟩:=Bx.1 h
 obtain ⟨v,h4,h5⟩:=Bx.1 h
 refine ⟨v,?_,h5⟩
 simp only [ef,h1,h2,h3,Ab hc]
 exact h4
theorem p8 {st:St} {t:TypeId} {x i:AV} {K:AV->Prop} (h:ma T st t x i K): ∃v,Lh T st t x i=some v/\K v:=by
 unfold ma at h
 split at h
 ·split at h
  ·rename_i he
   obtain ⟨x,h3,h4⟩:=h
   exact ⟨_,by simp only [Lh,Ab he,h3];rfl,h4⟩
  ·cases h
 ·split at h
  ·rename_i hb
   split at h
   ·rename_i he
    obtain ⟨h3,h4⟩:=h
    exact ⟨_,by simp only [Lh,hb];rw [Ab ⟨he.1,he.2,Vb.2 h3⟩],h4⟩
   ·cases h
  ·rename_i hb
   split at h
   ·rename_i he
    obtain ⟨h3,h4⟩:=h
    exact ⟨_,by simp only [Lh,hb];rw [Ab ⟨he.1,he.2,Vb.2 h3⟩],h4⟩
   ·cases h
  ·rename_i hb
   split at h
   ·rename_i he
    obtain ⟨h3,h4⟩:=h
    exact ⟨_,by simp only [Lh,hb];rw [Ab ⟨he.1,he.2,Vb.2 h3⟩],h4⟩
   ·cases h
  ·cases h
 ·split at h
  ·rename_i hb
   split at h
   ·rename_i he
    obtain ⟨h3,h4⟩:=h
    exact ⟨_,by simp only [Lh,hb];rw [Ab ⟨he,Vb.2 h3⟩],h4⟩
   ·cases h
  ·cases h
 ·cases h
theorem yU {t:TypeId} {x i:AV} {K:AV->Prop} (h:KC T t x i K): ∃v,jN T t x i=some v/\K v:=by
 unfold KC at h
 split at h
 ·split at h
  ·rename_i he
   obtain ⟨h1,b,h3,h4⟩:=h
   exact ⟨_,by simp only [jN,Ab he,Ab h1,h3];rfl,h4⟩
  ·cases h
 ·cases h
theorem cJ {st:St} {f:FuncId} {args:List AV} {K:AV->Prop} (h:wX Γ st f args K): ∃v,Pr Γ st f args=some v/\K v:=by
 unfold wX at h
 obtain ⟨s,h1,h⟩:=Bx.1 h
 have h1:Γ f=some (.q s):=by
  split at h1
  ·rename_i s' hs;injection h1 with h1;rw [hs,h1]
  ·cases h1
 split at h
 ·rename_i hf
  obtain ⟨p,h2,y,h3,h4⟩:=Bx.1 h
  refine ⟨_,?_,h4⟩
  simp only [Pr,h1]
  rw [Ab hf,h2]
  simp only [h3]
  rfl
 ·cases h
theorem yy {st:St} {v:AV} {args:List AV} {K:AV->Prop} (h:IW Γ st v args K): ∃u,Yr Γ st v args=some u/\K u:=by
 unfold IW at h
 split at h
 ·split at h
  ·rename_i hc
   split at h
   ·rename_i hf
    obtain ⟨u,h1,h2⟩:=cJ h
    exact ⟨u,by simp only [Yr];rw [Ab hc,Ab (by simpa using hf)];exact h1,h2⟩
   ·rename_i hf
    obtain ⟨u,h1,h2⟩:=cJ h
    exact ⟨u,by simp only [Yr];rw [Ab hc,Aj (λhx=>by rw [show Nat.blt _ 1000000000=true from by simpa using hx] at hf;cases hf)];exact h1,h2⟩
  ·cases h
 ·exact cJ h
 ·cases h
theorem Qn {w:WS} (hw:w.OK) {x:Operand} {b:Bool} (hk:Xg w.kn x=some b): ∃fr,w.st.ev x= .at (.data fr .bool b):=by
 unfold Xg at hk
 split at hk
 ·injection hk with hk;subst hk;exact ⟨true,rfl⟩
 ·exact hw _ _ hk
 ·cases hk
theorem vN {w:WS} (hw:w.OK) {o:Oper} {b:Bool} (hk:Hw w.kn o=some b) {v:AV} (he:Fh T Γ w.st o=some v): ∃fr,v= .at (.data fr .bool b):=by
 unfold Hw at hk
 split at hk
 ·rename_i heq;unfold Fh at he;rw [heq] at he;injection he with he;obtain ⟨fr,h⟩:=Qn hw hk;exact ⟨fr,he.symm.trans h⟩
 ·rename_i heq;unfold Fh at he;rw [heq] at he;injection he with he;obtain ⟨fr,h⟩:=Qn hw hk;exact ⟨fr,he.symm.trans h⟩
 ·rename_i x heq
  cases hx:Xg w.kn x with
  |none=>rw [hx] at hk;cases hk
  |some c=>
   rw [hx] at hk
   injection hk with hk
   obtain ⟨fr,h⟩:=Qn hw hx
   unfold Fh at he;rw [heq] at he
   simp only [h,yG,Qf] at he
   injection he with he
   exact ⟨true,by rw [<-he,<-hk]⟩
 ·rename_i c x y heq
  unfold Fh at he;rw [heq] at he
  split at hk
  ·rename_i hc
   obtain ⟨fr,h⟩:=Qn hw hc
   simp only [h,ee,Qi] at he
   injection he with he
   obtain ⟨fr,h⟩:=Qn hw hk
   exact ⟨fr,he.symm.trans h⟩
  ·rename_i hc
   obtain ⟨fr,h⟩:=Qn hw hc
   simp only [h,ee,Cz,Sm] at he
   injection he with he
   obtain ⟨fr,h⟩:=Qn hw hk
   exact ⟨fr,he.symm.trans h⟩
  ·cases hk
 ·cases hk
theorem tM {w:WS} (hw:w.OK) {o:Oper} {x:Operand} (ho:o.op= .assign x) {b:Bool} (hk:Hw w.kn o=some b) {v:AV} {s:St} (he:evalOp T Γ w.st o=some (v,s)): ∃fr,v= .at (.data fr .bool b):=by
 unfold Hw at hk
 rw [ho] at hk
 obtain ⟨fr,h⟩:=Qn hw hk
 unfold evalOp at he;rw [ho] at he
 simp only [h] at he
 injection he with he;injection he with he;exact ⟨fr,he.symm⟩
theorem jh {w:WS} (hw:w.OK) {o:Oper} {K:AV->WS->Prop} (h:qW T Γ w o K):
  ∃v w',Fh T Γ w.st o=some v/\w'.st=w.st/\w'.OK/\(∀b,Hw w'.kn o=some b-> ∃fr,v= .at (.data fr .bool b))/\K v w':=by
 have fin:(∃v w',Fh T Γ w.st o=some v/\w'.st=w.st/\w'.OK/\K v w')-> ∃v w',Fh T Γ w.st o=some v/\w'.st=w.st/\w'.OK/\(∀b,Hw w'.kn o=some b-> ∃fr,v= .at (.data fr .bool b))/\K v w':=by
  rintro ⟨v,w',h1,h2,h3,h4⟩
  exact ⟨v,w',h1,h2,h3,λb hb=>vN h3 hb (by rw [h2];exact h1),h4⟩
 refine fin ?_
 unfold qW at h
 split at h
 ·rename_i c a b heq
  obtain ⟨fr,t,w',h1,h2,h3,h4⟩:=wV hw h
  cases t with
  |true=>exact ⟨_,w',by unfold Fh;rw [heq];simp only [h1,ee,Qi];rw [<-h2],h2,h3,h4⟩
  |false=>exact ⟨_,w',by unfold Fh;rw [heq];simp only [h1,ee];rw [<-h2];simp,h2,h3,h4⟩
 ·rename_i heq
  obtain ⟨v,h1,h2⟩:=EF h
  exact ⟨v,w,by unfold Fh;rw [heq];exact h1,rfl,hw,h2⟩
 ·rename_i heq
  obtain ⟨v,h1,h2⟩:=IS h
  exact ⟨v,w,by unfold Fh;rw [heq];exact h1,rfl,hw,h2⟩
 ·rename_i heq
  split at h
  ·obtain ⟨v,h1,h2⟩:=zT h
   exact ⟨v,w,by unfold Fh;rw [heq];simpa using h1,rfl,hw,h2⟩
  ·cases h
 ·rename_i heq
  obtain ⟨v,h1,h2⟩:=p8 h
  exact ⟨v,w,by unfold Fh;rw [heq];exact h1,rfl,hw,h2⟩
 ·rename_i heq
  obtain ⟨v,h1,h2⟩:=yU h
  exact ⟨v,w,by unfold Fh;rw [heq];exact h1,rfl,hw,h2⟩
 ·rename_i heq
  obtain ⟨v,h1,h2⟩:=cJ h
  exact ⟨v,w,by unfold Fh;rw [heq];exact h1,rfl,hw,h2⟩
 ·rename_i heq
  obtain ⟨v,h1,h2⟩:=yy h
  exact ⟨v,w,by unfold Fh;rw [heq];exact h1,rfl,hw,h2⟩
 ·rename_i heq
  obtain ⟨v,h1,h2⟩:=oW h
  exact ⟨v,w,by unfold Fh;rw [heq];exact h1,rfl,hw,h2⟩
 ·rename_i x heq
  unfold xw at h
  split at h
  ·rename_i fr τ z hx
   obtain ⟨y,h1,h2⟩:=h
   subst h1
   exact ⟨_,w,by unfold Fh;rw [heq];simp only [hx],rfl,hw,h2⟩
  ·obtain ⟨v,h1,h2⟩:=Bx.1 h
   exact ⟨v,w,h1,rfl,hw,h2⟩
 ·obtain ⟨v,h1,h2⟩:=Bx.1 h
  exact ⟨v,w,h1,rfl,hw,h2⟩
theorem AJ {st:St} {t:TypeId} {p v:AV} {K:St->Prop} (h:MZ T st t p v K): ∃s,Vs T st t p v=some s/\K s:=by
 unfold MZ at h
 split at h
 ·obtain ⟨τ,h1,h⟩:=Bx.1 h
  obtain ⟨q,h2,h⟩:=Bx.1 h
  split at h
  ·rename_i hb
   obtain ⟨u,h3,h⟩:=Bx.1 h
   split at h
   ·rename_i hc
    obtain ⟨h4,h5⟩:=h
    obtain ⟨q1,q2⟩:=q
    obtain ⟨u1,u2⟩:=u
    exact ⟨_,by simp only [Vs,h1,h2,hb,h3];rw [Jo hc,Ab h4],h5⟩
   ·cases h
  ·cases h
 ·exact Bx.1 h
theorem wq {st:St} {t:TypeId} {p v:AV} {K:St->Prop} (h:AF T st t p v K): ∃s,Qq T st t p v=some s/\K s:=by
 unfold AF at h
 unfold Qq
 split at h
 rotate_left
 ·rename_i hg;rw [hg];exact AJ h
 rename_i hg
 rw [hg]
 simp only
 unfold QJ at h
 split at h
 ·obtain ⟨τ,h1,h⟩:=Bx.1 h
  obtain ⟨q,h2,h⟩:=Bx.1 h
  split at h
  ·rename_i hb
   obtain ⟨u,h3,h⟩:=Bx.1 h
   split at h
   ·rename_i hc
    obtain ⟨q1,q2⟩:=q
    obtain ⟨u1,u2⟩:=u
    exact ⟨_,by simp only [bV,h1,h2,hb,h3];rw [Jo hc],h⟩
   ·cases h
  ·cases h
 ·rename_i l j
  obtain ⟨τ,h1,h⟩:=Bx.1 h
  split at h
  ·rename_i e te rows out kp m off len hl _
   split at h
   ·rename_i fr tr e' tid xs hm
    split at h
    ·rename_i hc
     obtain ⟨h2,h3,h4,h5⟩:=h
     have h4:out=none\/out=some j:=by
      cases out with
      |none=>exact .inl rfl
      |some i=>exact .inr (Dk some h4)
     exact ⟨_,by simp only [bV,h1,hl,hm];rw [Jo ⟨hc.1,hc.2,h2,h3,h4⟩],h5⟩
    ·cases h
   ·cases h
  ·cases h
 ·cases h
theorem Zr {st:St} {d:Nat} {t:TypeId} {x y:Operand} {K:AV->St->Prop} (h:mN T st d t x y K): ∃v s,Oq T st d t x y=some (v,s)/\K v s:=by
 unfold mN at h
 obtain ⟨te,h1,h⟩:=Bx.1 h
 obtain ⟨e,h2,h⟩:=Bx.1 h
 obtain ⟨q,h3,h⟩:=Bx.1 h
 obtain ⟨u,h4,h⟩:=Bx.1 h
 obtain ⟨q1,q2⟩:=q
 obtain ⟨u1,u2⟩:=u
 split at h
 ·rename_i hx
  split at h
  ·rename_i hd
   obtain ⟨h5,h6⟩:=h
   refine ⟨_,_,?_,h6⟩
   simp only [Oq,h1,h2,h3,h4]
   rw [hx]
   simp only
   rw [Ab ⟨h5,by simpa [Nt] using hd⟩]
   simp
  ·cases h
 ·rename_i l off len hx
  split at h
  ·rename_i fr tr e' tid xs hb
   split at h
   ·rename_i hc
    obtain ⟨h5,h6,h7,h8⟩:=h
    refine ⟨_,_,?_,h8⟩
    simp only [Oq,h1,h2,h3,h4]
    rw [hx]
    simp only [hb]
    rw [Jo ⟨hc.1,hc.2.1⟩,Ab ⟨h7,by simpa [Nt] using hc.2.2⟩]
    obtain ⟨hc1,hc2,hc3⟩:=hc
    subst hc1
    subst h5
    simp only [Ds,h6,Ax,Av]
   ·cases h
  ·cases h
 ·cases h
theorem sn {st:St} {d:Nat} {t:TypeId} {x y:Operand} {K:AV->St->Prop} (h:sm T st d t x y K): ∃v s,Sq T st d t x y=some (v,s)/\K v s:=by
 unfold sm at h
 cases x with
 |tmp tx=>
  simp only at h
  unfold Sq
  simp only
  cases hg:st.get tx with
  | «at»c=>
   rw [hg] at h
   cases c with
   |sub l i c=>
    simp only at h⊢
    obtain ⟨tid,h1,h⟩:=Bx.1 h
    split at h
    ·rename_i hl
     split at h
     ·rename_i hc
      obtain ⟨v,s,h2,h3⟩:=Zr h
      refine ⟨v,s,?_,h3⟩
      simp only [hl,h1]
      rw [Ab hc]
      exact h2
     ·cases h
    ·cases h
   |_=>exact Zr h
  |_=>rw [hg] at h;exact Zr h
 |_=>exact Zr h
theorem EK {st:St} {d:Nat} {t:TypeId} {l c:AV} {K:AV->St->Prop} (h:YU T st d t l c K): ∃v s,bT T st d t l c=some (v,s)/\K v s:=by
 unfold YU at h
 split at h
 ·obtain ⟨te,h1,h⟩:=Bx.1 h
  obtain ⟨e,h2,h⟩:=Bx.1 h
  split at h
  ·rename_i hz
   obtain ⟨h3,h4,h5⟩:=h
   refine ⟨_,_,?_,h5⟩
   simp only [Af] at hz
   simp only [bT,h1,h2]
   rw [Ab ⟨Vb.2 (by exact_mod_cast h3),h4,hz.1,by simpa [Nt] using hz.2⟩]
   simp
  ·cases h
 ·cases h
theorem zi {st:St} {d:Nat} {t:TypeId} {l c:AV} {K:AV->St->Prop} (h:KR T st d t l c K): ∃v s,Ys T st d t l c=some (v,s)/\K v s:=by
 unfold KR at h
 unfold Ys
 cases hg:ej T t with
 |none=>rw [hg] at h;exact EK h
 |some p=>
  obtain ⟨te,e⟩:=p
  rw [hg] at h
  simp only at h⊢
  split at h
  ·split at h
   ·rename_i hd
    obtain ⟨h3,h4,h5⟩:=h
    refine ⟨_,_,?_,h5⟩
    simp only
    rw [Ab ⟨Vb.2 (by exact_mod_cast h3),h4,by simpa [Nt] using hd⟩]
    simp
   ·cases h
  ·cases h
theorem lT {st:St} {d:Nat} {t:TypeId} {len:Nat} {parts:Array (Nat×Operand)} {K:AV->St->Prop} (h:fg T st d t len parts K): ∃v s,Jq T st d t len parts=some (v,s)/\K v s:=by
 unfold fg at h
 unfold Jq
 cases hg:ej T t with
 |none=>
  rw [hg] at h
  obtain ⟨r,h1,h2⟩:=Bx.1 h
  exact ⟨r.1,r.2,h1,h2⟩
 |some p=>
  obtain ⟨te,e⟩:=p
  rw [hg] at h
  simp only at h⊢
  split at h
  ·rename_i x hp
   split at h
   ·rename_i m off ln hx
    split at h
    ·rename_i hm
     split at h
     ·rename_i hc
      obtain ⟨h1,h2,h3⟩:=h
      refine ⟨_,_,?_,h3⟩
      simp only [hp,hx,hm]
      rw [Jo ⟨hc.1,hc.2,h1,h2⟩]
     ·cases h
    ·cases h
   ·cases h
  ·cases h
theorem sq {st:St} {d:Nat} {t:TypeId} {x y:Operand} {K:AV->St->Prop} (h:so T st d t x y K): ∃v s,Sr T st d t x y=some (v,s)/\K v s:=by
 unfold so at h
 unfold Sr
 cases hg:ej T t with
 |none=>rw [hg] at h;exact sn h
 |some p=>
  obtain ⟨te,e⟩:=p
  rw [hg] at h
  simp only at h⊢
  split at h
  ·rename_i l off len m ZB tu hx hy
   split at h
   ·rename_i hl hm
    split at h
    ·rename_i hc
     obtain ⟨h1,h2,h3,h4,h5⟩:=h
     obtain ⟨⟨rfl,rfl⟩,hc⟩:=hc
     refine ⟨_,_,?_,h5⟩
     simp only [hx,hy,hl,hm]
     rw [Jo (⟨⟨trivial,trivial⟩,hc,h1,h2,h3,h4⟩)]
     simp
    ·cases h
   ·cases h
  ·cases h
theorem AP {st:St} {io:Bool} {k:Nat} {c:CK} {a:AC} {K:c.den->List (Nat×Loc)->Prop} (h:gh st io k c a K): ∃x t,Ms st io k c a=some (x,t)/\K x t:=by
 cases c with
 |Ft τ=>
  cases a with
  |own l off len=>
   obtain ⟨p,h1,h2⟩:=Bx.1 h
   exact ⟨_,_,by simp only [Ms];rw [h1];rfl,h2⟩
  |clo g Eh=>
   simp only [gh] at h
   split at h
   ·rename_i hc
    obtain ⟨p,h1,h2⟩:=Bx.1 h
    exact ⟨_,_,by simp only [Ms];rw [Ab hc,h1];rfl,h2⟩
   ·cases h
  |Hv l i=>
   simp only [gh] at h
   split at h
   ·rename_i hc
    obtain ⟨p,h1,h2⟩:=Bx.1 h
    exact ⟨_,_,by simp only [Ms];rw [Ab hc,h1];rfl,h2⟩
   ·cases h
  |sub l i c=>
   obtain ⟨p,h1,h2⟩:=Bx.1 h
   exact ⟨_,_,by simp only [Ms];rw [h1];rfl,h2⟩
  |_=>
   simp only [gh] at h
   split at h
   ·rename_i hc
    obtain ⟨p,h1,h2⟩:=Bx.1 h
    exact ⟨_,_,by simp only [Ms];rw [Ab hc,h1];rfl,h2⟩
   ·cases h
 |row e te=>
  cases a<;>simp only [gh] at h<;>first|(cases h;done)|skip
  ·exact ⟨_,_,rfl,h⟩
  ·split at h
   ·rename_i hl
    split at h
    ·rename_i hc
     obtain ⟨h1,h2,h3⟩:=h
     exact ⟨_,_,by simp only [Ms,hl];rw [Jo ⟨hc.1,hc.2,h1,h2⟩],h3⟩
    ·cases h
   ·cases h
  ·split at h
   ·rename_i hl
    split at h
    ·rename_i hc
     obtain ⟨y,h1,h2⟩:=h
     exact ⟨_,_,by simp only [Ms,hl];rw [Jo hc,h1];rfl,h2⟩
    ·cases h
   ·cases h
 |Ii e te=>
  cases a<;>simp only [gh] at h<;>first|(cases h;done)|skip
  ·exact ⟨_,_,rfl,h⟩
  ·split at h
   ·rename_i hl
    split at h
    ·rename_i hc
     obtain ⟨h1,h2,h3⟩:=h
     exact ⟨_,_,by simp only [Ms,hl];rw [Jo ⟨hc.1,hc.2,h1,h2⟩],h3⟩
    ·cases h
   ·cases h
  ·split at h
   ·rename_i hl
    split at h
    ·rename_i hc
     obtain ⟨y,h1,h2⟩:=h
     exact ⟨_,_,by simp only [Ms,hl];rw [Jo hc,h1];rfl,h2⟩
    ·cases h
   ·cases h
 |part e te=>
  cases a<;>simp only [gh] at h<;>first|(cases h;done)|skip
  split at h
  ·rename_i hl
   split at h
   ·rename_i hc
    exact ⟨_,_,by simp only [Ms,hl];rw [Jo hc],h⟩
   ·cases h
  ·cases h
 |Bp e te kp=>
  cases a<;>simp only [gh] at h<;>first|(cases h;done)|skip
  split at h
  ·rename_i hl
   split at h
   ·rename_i hc
    obtain ⟨h1,h2,h3⟩:=h
    exact ⟨_,_,by simp only [Ms,hl];rw [Jo ⟨hc.1,hc.2.1,h1,h2,hc.2.2⟩],h3⟩
   ·cases h
  ·cases h
theorem GC {st:St} {e:Ty} {ys:List e.den} {a:AC} {K:St->Prop} (h:ZV st e ys a K): ∃s,LX st e ys a=some s/\K s:=by
 cases a<;>simp only [ZV] at h<;>first|(cases h;done)|skip
 split at h
 ·rename_i hl
  split at h
  ·rename_i hc
   obtain ⟨h1,h3⟩:=h
   exact ⟨_,by simp only [LX,hl];rw [Jo ⟨hc,h1⟩],h3⟩
  ·cases h
 ·cases h
theorem lx {st:St} : ∀(cs:List (Bool×CK)) (k:Nat) (as:List AC) (K:Ins.den cs->List (Nat×Loc)->Prop),AQ st k cs as K-> ∃x t,gi st k cs as=some (x,t)/\K x t
 | [],_,[],_,h=>⟨_,_,rfl,h⟩
 | [],_,_::_,_,h=>h.elim
 |_::_,_,[],_,h=>h.elim
 |p::r,k,a::as,K,h=>by
  obtain ⟨x,t1,h1,h2⟩:=AP h
  obtain ⟨y,t2,h3,h4⟩:=lx r (k+1) as _ h2
  exact ⟨_,_,by simp only [gi,h1,h3],h4⟩
theorem qz {st:St} {c:CK} {ys:c.den} {a:AC} {K:St->Prop} (h:qy st c ys a K): ∃s,cH st c ys a=some s/\K s:=by
 cases c with
 |Ft τ=>cases a<;>simp only [qy] at h<;>first|(cases h;done)|exact ⟨_,rfl,h⟩
 |row e te=>
  cases a<;>simp only [qy] at h<;>first|(cases h;done)|skip
  ·exact ⟨_,rfl,h⟩
  ·split at h
   ·rename_i hl
    split at h
    ·rename_i hc
     obtain ⟨h1,h3⟩:=h
     exact ⟨_,by simp only [cH,hl];rw [Jo ⟨hc,h1⟩],h3⟩
    ·cases h
   ·cases h
  ·split at h
   ·rename_i hl
    split at h
    ·rename_i hc
     obtain ⟨y,h1,h2,h3⟩:=h
     exact ⟨_,by simp only [cH,hl,Jo hc,h1];rw [Ab h2],h3⟩
    ·cases h
   ·cases h
 |Ii e te=>
  cases a<;>simp only [qy] at h<;>first|(cases h;done)|skip
  ·exact ⟨_,rfl,h⟩
  ·split at h
   ·rename_i hl
    split at h
    ·rename_i hc
     obtain ⟨h1,h3⟩:=h
     exact ⟨_,by simp only [cH,hl];rw [Jo ⟨hc,h1⟩],h3⟩
    ·cases h
   ·cases h
  ·split at h
   ·rename_i hl
    split at h
    ·rename_i hc
     obtain ⟨y,h1,h2,h3⟩:=h
     exact ⟨_,by simp only [cH,hl,Jo hc,h1];rw [Ab h2],h3⟩
    ·cases h
   ·cases h
 |part e te=>cases a<;>simp only [qy] at h<;>first|(cases h;done)|exact ⟨_,rfl,h⟩
 |Bp e te kp=>cases a<;>simp only [qy] at h<;>first|(cases h;done)|exact ⟨_,rfl,h⟩
theorem Qu: ∀(cs:List (Bool×CK)) (o:IOs.den cs) (as:List AC) (st:St) (K:St->Prop),jg cs o as st K-> ∃s,Iu cs o as st=some s/\K s
 | [],_,_,st,K,h=>⟨st,rfl,h⟩
 |(true, .Ft _)::r,o,[],st,K,h=>h.elim
 |(true, .row _ _)::r,o,[],st,K,h=>h.elim
 |(true, .Ii _ _)::r,o,[],st,K,h=>h.elim
 |(true, .part _ _)::r,o,[],st,K,h=>h.elim
 |(true, .Bp _ _ _)::r,o,[],st,K,h=>h.elim
 |(true, .Bp _ _ _)::r,o,a::as,st,K,h=>by
  obtain ⟨s,h1,h2⟩:=Qu r o as st K h
  exact ⟨s,by simp only [Iu];exact h1,h2⟩
 |(false,_)::r,o,[],st,K,h=>h.elim
 |(true, .Ft _)::r,o,a::as,st,K,h=>by
  obtain ⟨s,h1,h2⟩:=Qu r o as st K h
  exact ⟨s,by simp only [Iu];exact h1,h2⟩
 |(false,_)::r,o,a::as,st,K,h=>by
  obtain ⟨s,h1,h2⟩:=Qu r o as st K h
  exact ⟨s,by simp only [Iu];exact h1,h2⟩
 |(true, .row _ _)::r,o,a::as,st,K,h=>by
  obtain ⟨s1,h1,h2⟩:=qz h
  obtain ⟨s,h3,h4⟩:=Qu r o.2 as s1 K h2
  exact ⟨s,by simp only [Iu,h1];exact h3,h4⟩
 |(true, .part _ _)::r,o,a::as,st,K,h=>by
  obtain ⟨s1,h1,h2⟩:=GC h
  obtain ⟨s,h3,h4⟩:=Qu r o.2 as s1 K h2
  exact ⟨s,by simp only [Iu,h1];exact h3,h4⟩
 |(true, .Ii _ _)::r,o,a::as,st,K,h=>by
  obtain ⟨s1,h1,h2⟩:=qz h
  obtain ⟨s,h3,h4⟩:=Qu r o.2 as s1 K h2
  exact ⟨s,by simp only [Iu,h1];exact h3,h4⟩
theorem qL {H:List (Nat×OB)} {ls:List Nat} {n:Nat} {K:Prop} : ∀(l:List AV),uJ H ls n l K->dK H ls n l=true/\K
 | [],h=>⟨rfl,h⟩
 |a::r,h=>by
  have go:uJ H ls n r K->dK H ls n r=true/\K:=qL r
  cases a with
  | «at»c=>
   cases c with
   |sub l i c=>
    simp only [uJ] at h
    simp only [dK]
    split at h
    ·rename_i hc
     obtain ⟨⟨h1,h2⟩,h3⟩:=h
     obtain ⟨g1,g2⟩:=go h3
     exact ⟨by simp only [hc,g1,Bool.and_true,Bool.not_true,Xu,Af,Nt];exact ⟨h1,h2⟩,g2⟩
    ·rename_i hc
     obtain ⟨g1,g2⟩:=go h
     exact ⟨by simp only [hc,g1,Bool.not_false,Bool.true_or,Bool.and_true],g2⟩
   |_=>exact go h
  |_=>exact go h
theorem yx {st:St} {d:Option Nat} {s:MSpec} {args:List AV} {K:AV->St->Prop} (h:IV st d s args K): ∃v s',Yq st d s args=some (v,s')/\K v s':=by
 unfold IV at h
 obtain ⟨⟨pl,cells,rest⟩,h0,h⟩:=Bx.1 h
 obtain ⟨as,h1,h⟩:=Bx.1 h
 obtain ⟨x,tks,h2,h⟩:=lx s.ins 0 (cells++as) _ h
 split at h
 ·rename_i hc
  obtain ⟨⟨r,o⟩,h3,h⟩:=h
  obtain ⟨st1,h4,h⟩:=Qu s.ins o (cells++as) st _ h
  obtain ⟨v,h5,h6⟩:=Bx.1 h
  obtain ⟨h7,h6⟩:=qL _ h6
  refine ⟨v,_,?_,h6⟩
  unfold Yq
  simp only [h0,h1,h2]
  rw [Ab hc]
  simp only [h3,h4,h5]
  rw [Ab h7]
 ·cases h
theorem SN {w:WS} (hw:w.OK) {o:Oper} {K:AV->WS->Prop} (h:opW T Γ w o K):
  ∃v w',evalOp T Γ w.st o=some (v,w'.st)/\w'.OK/\(∀b,Hw w'.kn o=some b-> ∃fr,v= .at (.data fr .bool b))/\K v w':=by
 have fin: ∀v s,(∀b,Hw w.kn o=some b-> ∃fr,v= .at (.data fr .bool b))->evalOp T Γ w.st o=some (v,s)->K v (w.to s)-> ∃v w',evalOp T Γ w.st o=some (v,w'.st)/\w'.OK/\(∀b,Hw w'.kn o=some b-> ∃fr,v= .at (.data fr .bool b))/\K v w':=
  fun v s hk h1 h2=>⟨v,w.to s,h1,hw.to (nj h1),hk,h2⟩
 have yI:(∀b v s,Hw w.kn o=some b->evalOp T Γ w.st o=some (v,s)-> ∃fr,v= .at (.data fr .bool b))->Io (evalOp T Γ w.st o) (λr=>K r.1 (w.to r.2))-> ∃v w',evalOp T Γ w.st o=some (v,w'.st)/\w'.OK/\(∀b,Hw w'.kn o=some b-> ∃fr,v= .at (.data fr .bool b))/\K v w':=by
  intro hk h
  obtain ⟨r,h1,h2⟩:=Bx.1 h
  exact fin r.1 r.2 (λb hb=>hk b _ _ hb h1) h1 h2
 unfold opW at h
 split at h
 ·rename_i heq
  obtain ⟨s,h1,h2⟩:=wq h
  refine fin _ _ (λb hb=>by unfold Hw at hb;rw [heq] at hb;cases hb) ?_ h2
  unfold evalOp;rw [heq];simp only [h1];rfl
 ·rename_i heq
  obtain ⟨d,h1,h⟩:=Bx.1 h
  obtain ⟨v,s,h2,h3⟩:=zi h
  refine fin _ _ (λb hb=>by unfold Hw at hb;rw [heq] at hb;cases hb) ?_ h3
  unfold evalOp;rw [heq];simp only [h1,h2]
 ·rename_i heq
  split at h
  ·rename_i hd ha ht
   split at h
   ·rename_i Tj
    obtain ⟨v,s,h2,h3⟩:=sq h
    refine fin _ _ (λb hb=>by unfold Hw at hb;rw [heq] at hb;cases hb) ?_ h3
    unfold evalOp;rw [heq];simp only [hd,ha,ht,Ab Tj,h2]
   ·cases h
  ·cases h
 ·rename_i heq;exact yI (λb v s hb he=>tM hw heq hb he) h
 ·rename_i heq;exact yI (λb v s hb he=>by unfold Hw at hb;rw [heq] at hb;cases hb) h
 ·rename_i heq;exact yI (λb v s hb he=>by unfold Hw at hb;rw [heq] at hb;cases hb) h
 ·rename_i heq
  obtain ⟨d,h1,h⟩:=Bx.1 h
  obtain ⟨v,s,h2,h3⟩:=lT h
  refine fin _ _ (λb hb=>by unfold Hw at hb;rw [heq] at hb;cases hb) ?_ h3
  unfold evalOp;rw [heq];simp only [h1,h2]
 ·rename_i heq;exact yI (λb v s hb he=>by unfold Hw at hb;rw [heq] at hb;cases hb) h
 ·rename_i heq;exact yI (λb v s hb he=>by unfold Hw at hb;rw [heq] at hb;cases hb) h
 ·rename_i heq;exact yI (λb v s hb he=>by unfold Hw at hb;rw [heq] at hb;cases hb) h
 ·rename_i heq;exact yI (λb v s hb he=>by unfold Hw at hb;rw [heq] at hb;cases hb) h
 ·rename_i heq;exact yI (λb v s hb he=>by unfold Hw at hb;rw [heq] at hb;cases hb) h
 ·rename_i heq;exact yI (λb v s hb he=>by unfold Hw at hb;rw [heq] at hb;cases hb) h
 ·
  rename_i f _ _ heq
  split at h
  ·rename_i Pu
   obtain ⟨v,s',h1,h2⟩:=yx h
   refine fin v s' (λb hb=>by unfold Hw at hb;rw [heq] at hb;cases hb) ?_ h2
   unfold evalOp;rw [heq];simp only [Pu];exact h1
  ·rename_i s Pu
   split at h
   ·rename_i PE
    obtain ⟨st1,hs,h⟩:=Bx.1 h
    obtain ⟨v,w',h1,h2,h3,h3',h4⟩:=jh (hw.to (Vd _ hs)) h
    refine ⟨v,w',?_,h3,h3',h4⟩
    have h1:Fh T Γ st1 o=some v:=h1
    have h2:w'.st=st1:=h2
    unfold evalOp
    rw [heq]
    simp only [Pu,PE,hs,h1,h2]
    rfl
   ·rename_i PE
    obtain ⟨v,w',h1,h2,h3,h3',h4⟩:=jh hw h
    refine ⟨v,w',?_,h3,h3',h4⟩
    unfold evalOp
    rw [heq]
    simp only [Pu,PE,h1,h2]
    rfl
  ·rename_i Awb Al3
   obtain ⟨v,w',h1,h2,h3,h3',h4⟩:=jh hw h
   refine ⟨v,w',?_,h3,h3',h4⟩
   unfold evalOp
   rw [heq]
   simp only
   rw [h1,h2];rfl
 ·rename_i n1 n2 n3 n4 n5 n6 n7 n8 n9 n10 n11 n12 n13 n14
  obtain ⟨v,w',h1,h2,h3,h3',h4⟩:=jh hw h
  refine ⟨v,w',?_,h3,h3',h4⟩
  unfold evalOp
  split
  all_goals first
   |(rw [h1,h2];rfl)
   |(rename_i hq;exact absurd hq (by first|exact n1 _|exact n2 _|exact n3 _|exact n4 _|exact n5 _|exact n6 _|exact n7 _|exact n8 _|exact n9 _|exact n10 _|exact n11 _|exact n12 _|exact n13 _|exact n14 _))
   |(rename_i hq;exact absurd hq (by first|exact n1 _ _|exact n2 _ _|exact n3 _ _|exact n4 _ _|exact n5 _ _|exact n6 _ _|exact n7 _ _|exact n8 _ _|exact n9 _ _|exact n10 _ _|exact n11 _ _|exact n12 _ _|exact n13 _ _|exact n14 _ _))
   |(rename_i hq;exact absurd hq (by first|exact n1 _ _ _|exact n2 _ _ _|exact n3 _ _ _|exact n4 _ _ _|exact n5 _ _ _|exact n6 _ _ _|exact n7 _ _ _|exact n8 _ _ _|exact n9 _ _ _|exact n10 _ _ _|exact n11 _ _ _|exact n12 _ _ _|exact n13 _ _ _|exact n14 _ _ _))
   |(rename_i hq;exact absurd hq (by first|exact n1 _ _ _ _|exact n2 _ _ _ _|exact n3 _ _ _ _|exact n4 _ _ _ _|exact n5 _ _ _ _|exact n6 _ _ _ _|exact n7 _ _ _ _|exact n8 _ _ _ _|exact n9 _ _ _ _|exact n10 _ _ _ _|exact n11 _ _ _ _|exact n12 _ _ _ _|exact n13 _ _ _ _|exact n14 _ _ _ _))
theorem yL (st:St) (d:Nat) (v:AV):(st.put (some d) v).get d=v\/(st.put (some d) v).get d= .undef:=by
 simp only [St.put,St.get]
 rw [Ru]
 by_cases h:d<st.tmps.length
 ·exact .inl (by rw [Ab ⟨rfl,h⟩])
 ·refine .inr ?_
  rw [Aj (λhc=>h hc.2),Ah,Eb (by omega)]
  rfl
theorem WS.OK.w5 {w:WS} (hw:w.OK) (o:Oper) (v:AV) (h: ∀b,Hw w.kn o=some b-> ∃fr,v= .at (.data fr .bool b)):(w.w5 o v).OK/\(w.w5 o v).st=w.st.put o.dst v:=by
 unfold WS.w5
 split
 ·rename_i d b hd hk
  split
  ·rename_i fr c hg
   refine ⟨?_,by rw [hd]⟩
   obtain ⟨Ww,hv⟩:=h b hk
   intro t b' hb
   simp only [nN] at hb
   split at hb
   ·rename_i ht
    injection hb with hb
    subst ht;subst hb
    refine ⟨Ww,?_⟩
    show (w.st.put (some d) v).get d=_
    cases yL w.st d v with
    |inl h1=>rw [h1,hv]
    |inr h1=>rw [h1] at hg;cases hg
   ·exact hw.put (some d) v t b' hb
  ·exact ⟨hw.put _ _,by rw [WS.tY,hd]⟩
 ·exact ⟨hw.put _ _,WS.tY _ _ _⟩
theorem qK {ops:Array Oper} {w:WS} (hw:w.OK) {o:Oper} {run:(AV->WS->Prop)->WS->Prop} {R:St->Option (AV×St)} {K:WS->Prop}
  (hr: ∀(k:AV->WS->Prop) (w:WS),w.OK->run k w-> ∃v w',R w.st=some (v,w'.st)/\w'.OK/\(∀b,Hw w'.kn o=some b-> ∃fr,v= .at (.data fr .bool b))/\k v w') (h:jC ops w o run K):
  ∃w',(match o.guard with
   |none=>(R w.st).map λr=>r.2.put o.dst r.1
   |some (j,want)=>match Yk w.st ((ops[j]?).bind (·.dst)) with
    |some (some b)=>if b==want then (R w.st).map λr=>r.2.put o.dst r.1 else some (w.st.put o.dst (.at .skip))
    |some none=>some (w.st.put o.dst (.at .skip))
    |none=>none)=some w'.st/\w'.OK/\K w':=by
 have go: ∀w:WS,w.OK->run (λv w'=>K (w'.w5 o v)) w-> ∃w',((R w.st).map λr=>r.2.put o.dst r.1)=some w'.st/\w'.OK/\K w':=by
  intro w hw h
  obtain ⟨v,w',h1,h2,h3,h4⟩:=hr _ _ hw h
  obtain ⟨h5,h6⟩:=h2.w5 o v h3
  exact ⟨w'.w5 o v,by rw [h1,h6];rfl,h5,h4⟩
 unfold jC at h
 split at h
 ·rename_i hg
  rw [hg]
  exact go w hw h
 ·rename_i j want hg
  rw [hg]
  obtain ⟨t,h1,h⟩:=Bx.1 h
  simp only [h1]
  split at h
  ·rename_i hs
   have hsk:w.st.get t= .at .skip:=by
    unfold AV.YI at hs
    split at hs
    ·assumption
    ·cases hs
   exact ⟨_,by simp only [Yk,hsk];rw [WS.tY],hw.put _ _,h⟩
  ·obtain ⟨fr,b,w',h2,h3,h4,h5⟩:=wW hw h
   have hb:Yk w.st (some t)=some (some b):=by simp only [Yk,h2]
   rw [hb]
   simp only
   cases b with
   |true=>
    cases want with
    |true=>rw [Ab (by decide),<-h3];exact go w' h4 h5
    |false=>exact ⟨_,by rw [Aj (by decide),<-h3,WS.tY],h4.put _ _,h5⟩
   |false=>
    cases want with
    |false=>rw [Ab (by decide),<-h3];exact go w' h4 h5
    |true=>exact ⟨_,by rw [Aj (by decide),<-h3,WS.tY],h4.put _ _,h5⟩
theorem cw {ops:Array Oper} {w:WS} (hw:w.OK) {o:Oper} {K:WS->Prop} (h:jC ops w o (λk w'=>opW T Γ w' o k) K): ∃w',Fb T Γ ops w.st o=some w'.st/\w'.OK/\K w':=by
 obtain ⟨w',h1,h2⟩:=qK hw (R:= λst=>evalOp T Γ st o) (λk w hw h=>by
  obtain ⟨v,w',h1,h2,h2',h3⟩:=SN hw h
  exact ⟨v,w',h1,h2,h2',h3⟩) h
 exact ⟨w',h1,h2⟩
theorem WB {w:WS} (hw:w.OK) {o:Oper} {K:AV->WS->Prop} (h:bW T Γ w o K):
  ∃v w',Yc T Γ w.st o=some v/\w'.st=w.st/\w'.OK/\(∀b,Hw w'.kn o=some b-> ∃fr,v= .at (.data fr .bool b))/\K v w':=by
 unfold bW at h
 split at h
 ·rename_i t len parts rW
  obtain ⟨v,h1,h2⟩:=Bx.1 h
  exact ⟨v,w,by unfold Yc;rw [rW];exact h1,rfl,hw,λb hb=>by simp [Hw,rW] at hb,h2⟩
 ·rename_i t parts rW
  obtain ⟨v,h1,h2⟩:=Bx.1 h
  exact ⟨v,w,by unfold Yc;rw [rW];exact h1,rfl,hw,λb hb=>by simp [Hw,rW] at hb,h2⟩
 ·rename_i n1 n2
  obtain ⟨v,w',h1,h2⟩:=jh hw h
  refine ⟨v,w',?_,h2⟩
  rw [<-h1]
  unfold Yc
  split
  ·rename_i h9;exact absurd h9 (n1 _ _ _)
  ·rename_i h9;exact absurd h9 (n2 _ _)
  ·rfl
theorem Adq {ops:Array Oper} {w:WS} (hw:w.OK) {o:Oper} {K:WS->Prop} (h:jC ops w o (λk w'=>bW T Γ w' o k) K): ∃v w',Xz T Γ ops w.st o=some v/\w'.st=w.st.put o.dst v/\w'.OK/\K w':=by
 obtain ⟨w',h1,h2,h3⟩:=qK hw (R:= λst=>(Yc T Γ st o).map λv=>(v,st)) (λk w hw h=>by
  obtain ⟨v,w',h1,h2,h3,h3',h4⟩:=WB hw h
  exact ⟨v,w',by simp only [h1,h2];rfl,h3,h3',h4⟩) h
 have key: ∀u:Option AV,((u.map λv=>(v,w.st)).map λr=>r.2.put o.dst r.1)=some w'.st-> ∃v,u=some v/\w'.st=w.st.put o.dst v:=by
  intro u hu
  cases u with
  |none=>cases hu
  |some v=>injection hu with hu;exact ⟨v,rfl,hu.symm⟩
 unfold Xz
 split at h1
 ·rename_i hg
  obtain ⟨v,h4,h5⟩:=key _ h1
  exact ⟨v,w',by rw [hg];exact h4,h5,h2,h3⟩
 ·rename_i j want hg
  rw [hg]
  split at h1
  ·rename_i b hb
   simp only [hb]
   split at h1
   ·rename_i JQ
    obtain ⟨v,h4,h5⟩:=key _ h1
    exact ⟨v,w',by rw [Ab JQ];exact h4,h5,h2,h3⟩
   ·rename_i JQ
    injection h1 with h1
    exact ⟨_,w',by rw [Aj JQ],h1.symm,h2,h3⟩
  ·rename_i hb
   simp only [hb]
   injection h1 with h1
   exact ⟨_,w',rfl,h1.symm,h2,h3⟩
  ·cases h1
theorem tN {ops:Array Oper} : ∀(l:List Oper) {w:WS} (_:w.OK) {K:WS->Prop},Ai1 T Γ ops l w K-> ∃w',aX T Γ ops l w.st=some w'.st/\w'.OK/\K w'
 | [],w,hw,K,h=>⟨w,rfl,hw,h⟩
 |o::r,w,hw,K,h=>by
  obtain ⟨w1,h1,h2,h3⟩:=cw hw h
  obtain ⟨w2,h4,h5⟩:=tN r h2 h3
  exact ⟨w2,by simp only [aX];rw [h1];exact h4,h5⟩
theorem fv {ops:Array Oper} : ∀(l:List Nat) {w:WS} (_:w.OK) {K:WS->Prop},YA T Γ ops l w K-> ∃w',Nj T Γ ops l w.st=some w'.st/\w'.OK/\K w'
 | [],w,hw,K,h=>⟨w,rfl,hw,h⟩
 |i::r,w,hw,K,h=>by
  obtain ⟨o,h0,h⟩:=Bx.1 h
  obtain ⟨w1,h1,h2,h3⟩:=cw hw h
  obtain ⟨w2,h4,h5⟩:=fv r h2 h3
  exact ⟨w2,by simp only [Nj];rw [h0];simp only [h1];exact h4,h5⟩
theorem Od {ops:Array Oper} : ∀(l:List Nat) {w:WS} (_:w.OK) {K:WS->Prop},kX T Γ ops l w K-> ∃w',Gj T Γ ops l w.st=some w'.st/\w'.OK/\K w'
 | [],w,hw,K,h=>⟨w,rfl,hw,h⟩
 |i::r,w,hw,K,h=>by
  obtain ⟨o,h0,h⟩:=Bx.1 h
  obtain ⟨v,w1,h1,h1',h2,h3⟩:=Adq hw h
  obtain ⟨w2,h4,h5⟩:=Od r h2 h3
  exact ⟨w2,by simp only [Gj];rw [h0];simp only [h1];rw [<-h1'];exact h4,h5⟩
theorem mM {P:Nat->Prop} : ∀(l:List Nat),VY l P-> ∀i∈l,P i
 | [],_,i,hi=>by cases hi
 | [k],h,i,hi=>by rw [Ad.1 hi];exact h
 |k::j::r,h,i,hi=>by
  rcases Bd.1 hi with rfl|hi
  ·exact h.1
  ·exact mM (j::r) h.2 i hi
theorem lQ {ops:Array Oper} {K:WS->Prop} : ∀(f:Nat) (Ag:Array Bool) {w:WS} (_:w.OK),QW T Γ ops f Ag w K->anyS T Γ ops (λs=> ∃w':WS,w'.st=s/\w'.OK/\K w') f Ag w.st
 |0,Ag,w,hw,h=>by
  unfold QW at h
  split at h
  ·rename_i hr;exact ⟨hr,w,rfl,hw,h⟩
  ·cases h
 |f+1,Ag,w,hw,h=>by
  unfold QW at h
  split at h
  ·cases h
  ·rename_i i r hr
   refine ⟨by rw [hr];simp,λk hk=>?_⟩
   rw [hr] at hk
   obtain ⟨o,h0,h1⟩:=Bx.1 (mM _ h k hk)
   obtain ⟨w1,h2,h3,h4⟩:=cw hw h1
   exact ⟨o,w1.st,h0,h2,lQ f _ h3 h4⟩
theorem dP: ∀(l:List Oper) (d:Nat),d∈Lg l-> ∃o∈l,o.dst=some d
 | [],d,h=>by simp [Lg] at h
 |o::r,d,h=>by
  simp only [Lg] at h
  cases ho:o.dst with
  |none=>
   rw [ho] at h
   obtain ⟨o',h1,h2⟩:=dP r d (by simpa using h)
   exact ⟨o',An _ h1,h2⟩
  |some e=>
   rw [ho] at h
   rcases Bd.1 (by simpa using h) with h|h
   ·exact ⟨o,by simp,by rw [ho,h]⟩
   ·obtain ⟨o',h1,h2⟩:=dP r d h
    exact ⟨o',An _ h1,h2⟩
theorem np {ops:Array Oper} {K:WS->Prop} : ∀(f:Nat) (Ag:Array Bool) {w:WS} (_:w.OK),bX T Γ ops f Ag w K-> ∃w':WS,Ga (λt=>Tv ops t=true) w.st w'.st/\w'.OK/\K w'
 |0,Ag,w,hw,h=>by
  simp only [bX] at h
  split at h
  ·exact ⟨w,λ_ _ _ _ _ hx=>hx,hw,h⟩
  ·exact h.elim
 |f+1,Ag,w,hw,h=>by
  simp only [bX] at h
  split at h
  ·exact h.elim
  ·obtain ⟨o,ho,h1⟩:=Bx.1 h
   obtain ⟨w',h2,h3,h4⟩:=cw hw h1
   obtain ⟨w2,g1,g2⟩:=np f _ h3 h4
   refine ⟨w2,((bU h2).mono λt ht hd=>?_).trans g1,g2⟩
   unfold Tv Zp at ht
   have:(ops.toList.any λo=>o.dst==some t)=true:=Gh.2 ⟨o,pk ho,by rw [hd];exact beq_self_eq_true _⟩
   rw [this] at ht
   cases ht
theorem mo (p:Nat->Bool): ∀(i:Nat) (l0 l1:List AV),(∀t,(l0.getD t .undef).Yz=true->p (i+t)=true->l1.getD t .undef=l0.getD t .undef)->
  Vz (Lb p i l0) l0 (Uw (Lb p i l0) l1)=l1
 |_,[],l1,_=>by simp [Lb,Uw,Vz]
 |i,a::r,[],_=>by
  simp only [Lb]
  cases (a.Yz&&p i)<;>simp [Uw,Vz]
 |i,a::r,b::s,h=>by
  have hr:=mo p (i+1) r s λt h1 h2=>by
   have:=h (t+1) (by simpa using h1) (by rw [show i+(t+1)=i+1+t by omega];exact h2)
   simpa using this
  simp only [Lb]
  cases hc:(a.Yz&&p i) with
  |false=>simp only [Uw,Vz];rw [hr]
  |true=>
   simp only [Uw,Vz]
   rw [hr]
   simp only [Af] at hc
   have:=h 0 (by simpa using hc.1) hc.2
   simp only [Yg] at this
   rw [this]
theorem fE: ∀(f:List Bool) (l:List AV),(Uw f l).length=l.length
 | [],l=>by simp [Uw]
 |true::f,[]=>by simp [Uw]
 |false::f,[]=>by simp [Uw]
 |true::f,a::l=>by simp [Uw,fE f l]
 |false::f,a::l=>by simp [Uw,fE f l]
theorem RI {p:Nat->Bool} {w1 s0 s:St} (h1:Ga (λt=>p t=true) w1 s0) (h2:Ga (λt=>p t=true) w1 s) (h:eqM (Lb p 0 w1.tmps) s0 s):s=s0:=by
 have e:=dZ h
 simp only [St.mask,St.mk.injEq] at e
 have key: ∀ {a:St},Ga (λt=>p t=true) w1 a->Vz (Lb p 0 w1.tmps) w1.tmps (Uw (Lb p 0 w1.tmps) a.tmps)=a.tmps:= λ {a} ha=>mo p 0 _ _ λt ht hp=>by
  rw [Bu] at hp
  cases hc:w1.tmps.getD t .undef with
  | «at»c=>
   cases c with
   |data fr τ x=>exact ha t fr τ x hp hc
   |_=>rw [hc] at ht;cases ht
  |_=>rw [hc] at ht;cases ht
 have e1:=key h1
 have e2:=key h2
 rw [e.1,e1] at e2
 obtain ⟨_,e4⟩:=e
 cases s;cases s0
 simp only at e2 e4
 rw [e4,e2]
theorem aZ {ops:Array Oper} {K:WS->Prop} : ∀(f:Nat) (Ag:Array Bool) {w:WS} (_:w.OK),bX T Γ ops f Ag w K-> ∃w':WS,w'.OK/\K w'
 |0,Ag,w,hw,h=>by
  simp only [bX] at h
  split at h
  ·exact ⟨w,hw,h⟩
  ·exact h.elim
 |f+1,Ag,w,hw,h=>by
  simp only [bX] at h
  split at h
  ·exact h.elim
  ·obtain ⟨o,ho,h1⟩:=Bx.1 h
   obtain ⟨w',h2,h3,h4⟩:=cw hw h1
   exact aZ f _ h3 h4
theorem pU {P:List (Nat×Nat×AV×OB)} {ops:Array Oper} {K:WS->Prop} : ∀(f:Nat) (Ag:Array Bool) {w:WS} (_:w.OK),BR T Γ P ops f Ag w K->Ag0 T Γ ops P (λs=> ∃w':WS,w'.st=s/\w'.OK/\K w') f Ag w.st
 |0,Ag,w,hw,h=>by
  unfold BR at h
  split at h
  ·rename_i hr;exact ⟨hr,w,rfl,hw,h⟩
  ·cases h
 |f+1,Ag,w,hw,h=>by
  unfold BR at h
  split at h
  ·cases h
  ·rename_i i r hr
   refine ⟨by rw [hr];simp,λk hk=>?_⟩
   rw [hr] at hk
   obtain ⟨o,h0,h1⟩:=Bx.1 (mM _ h k hk)
   split at h1
   ·rename_i eU
    obtain ⟨w1,h2,h3,h4⟩:=cw hw h1
    exact ⟨o,w1.st,h0,eU,h2,pU f _ h3 h4⟩
   ·cases h1
theorem EY {α:Type} (f:α->Nat) {l:List α} (h:aC (l.map f)=true):l.Pairwise λa c=>f a≠f c:=List.pairwise_map.1 (Zb h)
theorem di {ops:Array Oper} {E:List Nat} {Ag:Array Bool} {w:WS} (hw:w.OK): ∀(R:List Nat) {K:Prop},ya T Γ ops E Ag w R K->K/\ ∀r∈R,s8 ops E Ag r=true\/ ∃o v,ops[r]?=some o/\Xz T Γ ops w.st o=some v/\ ∀d,o.dst=some d->w.st.get d=v
 | [],K,h=>⟨h,λr hr=>by cases hr⟩
 |r::R,K,h=>by
  unfold ya at h
  split at h
  ·rename_i hwt
   obtain ⟨h1,h2⟩:=di hw R h
   refine ⟨h1,λq hq=>?_⟩
   rcases Bd.1 hq with rfl|hq
   ·exact .inl hwt
   ·exact h2 q hq
  ·obtain ⟨h0,h⟩:=h
   obtain ⟨h1,h2⟩:=di hw R h
   refine ⟨h1,λq hq=>?_⟩
   rcases Bd.1 hq with rfl|hq
   ·refine .inr ?_
    obtain ⟨w',g1,_,g3⟩:=Od _ hw h0
    obtain ⟨d,hd,g4⟩:=Bx.1 g3
    simp only [Gj] at g1
    split at g1
    ·cases g1
    rename_i o ho
    split at g1
    rotate_left
    ·cases g1
    rename_i v hv
    refine ⟨o,v,ho,hv,λd' IB=>?_⟩
    rw [ho] at hd
    have hdd:o.dst=some d:=hd
    rw [IB] at hdd
    cases hdd
    split at g4
    ·rename_i hl
     have e:=dZ g4
     have e1:w'.st.get d=w.st.get d:=by
      have:=Dk (λs:St=>s.tmps) e
      simpa using this
     rw [<-e1]
     have e2:w.st.put o.dst v=w'.st:=Bc g1
     rw [<-e2,show o.dst=some d from hd]
     show (Ts w.st.tmps d v).getD d .undef=v
     rw [Ru,Ab ⟨rfl,by simpa [Nt] using hl⟩]
    ·cases g4
   ·exact h2 q hq
theorem cI {ops:Array Oper} {E:List Nat} {K:WS->Prop} : ∀(f:Nat) (Ag:Array Bool) {w:WS} (_:w.OK),sk T Γ ops E f Ag w K->qU T Γ ops E (λs=> ∃w':WS,w'.st=s/\w'.OK/\K w') f Ag w.st
 |0,Ag,w,hw,h=>by
  unfold sk at h
  obtain ⟨h,hs⟩:=di hw _ h
  split at h
  ·rename_i hr;exact ⟨hs,hr,w,rfl,hw,h⟩
  ·cases h
 |f+1,Ag,w,hw,h=>by
  unfold sk at h
  obtain ⟨h,hs⟩:=di hw _ h
  split at h
  ·cases h
  ·rename_i i r hr
   refine ⟨hs,by rw [hr];simp,λk hk=>?_⟩
   rw [hr] at hk
   obtain ⟨o,h0,h1⟩:=Bx.1 (mM _ h k hk)
   obtain ⟨w1,h2,h3,h4⟩:=cw hw h1
   exact ⟨o,w1.st,h0,h2,cI f _ h3 h4⟩
theorem zG {ops:Array Oper} {E:List Nat} {L0:Array Bool} {n:Nat} {w:WS} (hw:w.OK) {K:WS->Prop} (h:LZ T Γ E n L0 ops w K):Abz T Γ ops (λs=> ∃w':WS,w'.st=s/\w'.OK/\K w') n L0 w.st:=by
 unfold LZ at h
 split at h
 ·rename_i hb
  simp only [Af] at hb
  obtain ⟨b1,b2,b3⟩:=hb
  obtain ⟨w1,h1,h2,h3⟩:=Od _ hw h
  have h3:=Ou.1 h3
  obtain ⟨w0,g1,g2⟩:=aZ _ _ h2 h3
  obtain ⟨g3,g4⟩:=Ou.1 g2
  refine ⟨E,w1.st,b1,Nat.le_of_ble_eq_true b2,h1,bp (λs hs=>?_) _ _ _ (cI _ _ h2 g4)⟩
  obtain ⟨w',h5,_,h6⟩:=hs
  exact ⟨w0,((h5.symm.trans (dZ (Ou.1 h6))).symm),g1,g3⟩
 ·cases h
theorem dM {ops:Array Oper} {t:Nat} :Tv ops t=true->t∉Lg ops.toList:= λh hm=>by
 obtain ⟨o,ho,hd⟩:=dP _ _ hm
 unfold Tv Zp at h
 have:(ops.toList.any λo=>o.dst==some t)=true:=Gh.2 ⟨o,ho,by rw [hd];exact beq_self_eq_true _⟩
 rw [this] at h
 cases h
theorem BS {ops:Array Oper} {E:List Nat} {K:St->Prop} (s0:St) (f:Nat) (Ag:Array Bool) (st:St) (hk:Ga (λt=>Tv ops t=true) s0 st) (h:qU T Γ ops E K f Ag st):
  qU T Γ ops E (λs=>K s/\Ga (λt=>Tv ops t=true) s0 s) f Ag st:=by
 have h1:=lP (draw:=true) st f Ag st (λ_ _ _ _ _ hx=>hx) h
 exact bp (λs hs=>⟨hs.1,hk.trans (hs.2.mono λt ht=>dM ht)⟩) _ _ _ h1
theorem WS.OK.Ri {w:WS} (hw:w.OK) (dead:List Nat):(w.Ri dead).OK:=by
 intro t b hb
 have key: ∀(l:List (Nat×Bool)),nN (l.filter λp=>!dead.contains p.1) t=some b->dead.contains t=false/\nN l t=some b:=by
  intro l
  induction l with
  |nil=>intro h;cases h
  |cons q r ih=>
   intro h
   obtain ⟨k,c⟩:=q
   by_cases hk:dead.contains k=true
   ·rw [List.filter_cons_of_neg (by rw [hk];decide)] at h
    obtain ⟨h1,h2⟩:=ih h
    refine ⟨h1,?_⟩
    unfold nN
    rw [Aj (λe=>by subst e;rw [h1] at hk;cases hk)]
    exact h2
   ·have hk:dead.contains k=false:=by simpa using hk
    rw [List.filter_cons_of_pos (by rw [hk];rfl)] at h
    unfold nN at h⊢
    split at h
    ·rename_i e
     subst e
     rw [Ab rfl]
     exact ⟨hk,h⟩
    ·rename_i e
     rw [Aj e]
     exact ih h
 obtain ⟨h1,h2⟩:=key _ hb
 obtain ⟨fr,h3⟩:=hw t b h2
 refine ⟨fr,?_⟩
 show (w.st.Ri dead).get t=_
 unfold St.Ri
 refine Vc _ _ t fr _ _ ?_
 show (Iz _ 0 w.st.tmps).getD t .undef=_
 rw [Wr _ 0 w.st.tmps t ?_]
 ·exact h3
 ·refine Ce.2 ⟨Et.2 ?_,by rw [Bu,h1];rfl⟩
  refine Bo λhn=>?_
  have:w.st.get t= .undef:=by
   unfold St.get
   rw [Ah,Eb (by omega)];rfl
  rw [h3] at this
  cases this
theorem FC {ops:Array Oper} {dead E:List Nat} (b3:dead.all (Zp ops)=true) {L0:Array Bool} {n:Nat} {w:WS} (hw:w.OK) {K:WS->Prop} (h:ZD T Γ dead E n L0 ops w K):Abz T Γ ops (λs=> ∃w':WS,w'.st=s.Ri dead/\w'.OK/\K w') n L0 w.st:=by
 unfold ZD at h
 split at h
 ·rename_i hb
  simp only [Af] at hb
  obtain ⟨b1,b2⟩:=hb
  obtain ⟨w1,h1,h2,h3⟩:=Od _ hw h
  have h3:=Ou.1 h3
  refine ⟨E,w1.st,b1,Nat.le_of_ble_eq_true b2,h1,?_⟩
  split at h3
  ·refine bp (λs hs=>?_) _ _ _ (cI _ _ h2 h3)
   obtain ⟨w',h5,h6,h7⟩:=hs
   exact ⟨w'.Ri dead,by rw [<-h5];rfl,h6.Ri _,h7⟩
  ·rw [fp] at h3
   obtain ⟨w0,g0,g1,g2⟩:=np _ _ h2 h3
   obtain ⟨g3,g4⟩:=Ou.1 g2
   refine bp (λs hs=>?_) _ _ _ (BS w1.st _ _ _ (λ_ _ _ _ _ hx=>hx) (cI _ _ h2 g4))
   obtain ⟨⟨w',h5,_,h6⟩,h7⟩:=hs
   have h6:=Ou.1 h6
   have k1:Ga (λt=>Tv ops t=true) w1.st (w0.Ri dead).st:=g0.trans ((j0 b3 w0.st).mono λt ht=>dM ht)
   have k2:Ga (λt=>Tv ops t=true) w1.st (w'.Ri dead).st:=by
    show Ga _ w1.st (w'.st.Ri dead)
    rw [h5]
    exact h7.trans ((j0 b3 s).mono λt ht=>dM ht)
   have e:=RI k1 k2 h6
   refine ⟨w0.Ri dead,?_,g1.Ri _,g3⟩
   rw [<-e,<-h5]
   rfl
 ·cases h
theorem vo {ops:Array Oper} {L0:Array Bool} {n:Nat} {w:WS} (hw:w.OK) {K:WS->Prop} (hc:Va ops L0) (h:yw T Γ (a7 T ops L0) n L0 ops w K):anyS T Γ ops (λs=> ∃w':WS,w'.st=s/\w'.OK/\K w') n L0 w.st\/Abz T Γ ops (λs=> ∃w':WS,w'.st=s/\w'.OK/\K w') n L0 w.st:=by
 unfold yw at h
 split at h
 ·rename_i hb
  simp only [Af] at hb
  obtain ⟨⟨b1,b2⟩,b3,b4,b5⟩:=hb
  have hm: ∀a∈a7 T ops L0,a.1∈Region.ready .any ops L0/\ ∃o,ops[a.1]?=some o/\fb T o=some a.2:= λa ha=>yp ha
  have p1:=EY (λa:Nat×Nat×AV×OB=>a.1) b1
  have p2:=EY (λa:Nat×Nat×AV×OB=>a.2.1) b2
  have hlen:(a7 T ops L0).length<=n:=Nat.le_of_ble_eq_true b4
  obtain ⟨w1,h1,h2,h3⟩:=fv _ hw h
  have h3:=Ou.1 h3
  obtain ⟨w0,g1,g2⟩:=aZ _ _ h2 h3
  obtain ⟨g3,g4⟩:=Ou.1 g2
  have hp:=FW (Γ:=Γ) _ w.st w1.st (λa ha=>(hm a ha).2) (λa ha=>tJ (Bb.1 b3 a ha)) p2 h1
  refine .inl (jL (λs hs=>?_) _ _ _ (QV (λa ha=>(hm a ha).2) n (n-(a7 T ops L0).length) (a7 T ops L0) _ L0 w1.st w.st (by omega) (pU _ _ h2 g4) hp
   (Ac3 (ops:=ops) λi hi=>by obtain ⟨a,ha,rfl⟩:=Be.1 hi;exact (hm a ha).1) (λa ha=>ha) (p2.and p1) hc λa ha x hx=>cZ (hm a ha).1 hx))
  obtain ⟨w',h5,_,h6⟩:=hs
  exact ⟨w0,((h5.symm.trans (dZ h6)).symm),g1,g3⟩
 ·exact .inr (zG hw h)
theorem ll {ops:Array Oper} {draw:Bool} {w:WS} (hw:w.OK) {K:WS->Prop} (h:s6 T Γ ops draw w K):kJ T Γ ops draw w.st (λs=> ∃w':WS,w'.st=s/\w'.OK/\K w'):=by
 unfold s6 at h
 split at h
 ·split at h
  ·rename_i ho
   obtain ⟨w1,h1,h2,h3⟩:=Od _ hw h
   obtain ⟨w2,h4,h5⟩:=fv _ h2 h3
   exact .inl ⟨w2.st,by simp only [Su,Qi];rw [Ab ho,h1];exact h4,w2,rfl,h5⟩
  ·rename_i ho
   split at h
   ·rename_i ho2
    obtain ⟨w1,h1,h2,h3⟩:=Od _ hw h
    obtain ⟨w2,h4,h5⟩:=fv _ h2 h3
    exact .inl ⟨w2.st,by simp only [Su,Qi];rw [Aj (by rw [ho];decide),Ab ho2,h1];exact h4,w2,rfl,h5⟩
   ·split at h
    ·rename_i hc
     simp only [Af] at hc
     obtain ⟨w1,h1,h2,h3⟩:=Od _ hw h
     split at h3
     ·exact .inr ⟨rfl,hc.1,w1.st,h1, .inl (lQ _ _ h2 h3)⟩
     ·obtain ⟨w0,g1,g2⟩:=aZ _ _ h2 h3
      obtain ⟨g3,g4⟩:=Ou.1 g2
      exact .inr ⟨rfl,hc.1,w1.st,h1, .inl (jL (λs hs=>by
       obtain ⟨w',h5,_,h6⟩:=hs
       exact ⟨w0,((h5.symm.trans (dZ h6)).symm),g1,g3⟩) _ _ _ (lQ _ _ h2 g4))⟩
    ·split at h
     ·rename_i PE
      obtain ⟨w1,h1,h2,h3⟩:=Od _ hw h
      exact .inr ⟨rfl,PE,w1.st,h1,vo h2 (aV _ _ _ pY) h3⟩
     ·cases h
 ·obtain ⟨w1,h1,h2⟩:=tN _ hw h
  exact .inl ⟨w1.st,by simp only [Su];rw [Aj (by simp)];exact h1,w1,rfl,h2⟩
theorem w6 {ops:Array Oper} {draw:Bool} {w:WS} (hw:w.OK) {K:WS->Prop} (h:zJ T Γ ops draw w K):yk T Γ ops draw w.st (λs=> ∃w':WS,w'.st=s/\w'.OK/\K w'):=by
 unfold zJ at h
 split at h
 ·rename_i hb
  have b3:=(Bt.1 hb).2
  refine .inr ⟨uU ops,b3,?_⟩
  split at h
  ·rename_i hc
   simp only [Af,ZC] at hc
   obtain ⟨w1,h1,h2,h3⟩:=Od _ hw h
   exact .inr ⟨hc.1,hc.2.2.1,w1.st,h1, .inr (FC b3 h2 h3)⟩
  ·exact (ll hw h).mono λs ⟨w',h1,h2,h3⟩=>⟨w'.Ri (uU ops),by rw [<-h1];rfl,h2.Ri _,h3⟩
 ·exact .inl (ll hw h)
end
end Go.Proofs.YtkkdpknjohcekaaGreat
