/-
  Part 33 of the proof that the statement FnPatterns holds.
-/
import Derived.Test.YtkkdpknjohcekaaGreatCFPatterns31
namespace Go.Proofs.YtkkdpknjohcekaaGreat
open Go.RowKit
section
variable {T:Tab} {Γ:Env}
def WS.OK (w:WS):Prop:= ∀t b,nK w.kn t=some b-> ∃fr,w.st.get t= .at (.data fr .bool b)
theorem ma: ∀(l:List (Nat×Bool)) (d t:Nat) (b:Bool),nK (xK l d) t=some b->t≠d/\nK l t=some b
 | [],_,_,_,h=>by cases h
 |(k,c)::r,d,t,b,h=>by
  simp only [xK] at h
  split at h
  ·rename_i hk
   have:=ma r d t b h
   refine ⟨this.1,?_⟩
   simp only [nK]
   rw [Ak (by rw [hk];exact λh=>this.1 h.symm)]
   exact this.2
  ·rename_i hk
   simp only [nK] at h⊢
   split at h
   ·rename_i hkt
    exact ⟨by rw [<-hkt];exact hk,by rw [Ab hkt];exact h⟩
   ·rename_i hkt
    rw [Ak hkt]
    exact ma r d t b h
theorem WS.OK.put {w:WS} (h:w.OK) (dst:Option Tmp) (v:AV):(w.put dst v).OK:=by
 cases dst with
 |none=>exact h
 |some d=>
  intro t b hb
  obtain ⟨h1,h2⟩:=ma _ _ _ _ hb
  obtain ⟨fr,h3⟩:=h t b h2
  exact ⟨fr,by show (w.st.put (some d) v).get t=_;rw [bO _ _ h1];exact h3⟩
theorem WS.uk (w:WS) (dst:Option Tmp) (v:AV):(w.put dst v).st=w.st.put dst v:=by cases dst<;>rfl
theorem WS.OK.to {w:WS} (h:w.OK) {s:St} (hs:Cn w.st s):(w.to s).OK:=by
 intro t b hb
 obtain ⟨fr,h3⟩:=h t b hb
 exact ⟨fr,hs t fr _ _ h3⟩
theorem xl {w:WS} (hw:w.OK) {t:Nat} {K:Bool->WS->Prop} (h:brT w t K):
  ∃fr b w',w.st.get t= .at (.data fr .bool b)/\w'.st=w.st/\w'.OK/\K b w':=by
 unfold brT at h
 split at h
 ·rename_i b hb
  obtain ⟨fr,h1⟩:=hw t b hb
  exact ⟨fr,b,w,h1,rfl,hw,h⟩
 ·split at h
  ·rename_i fr b hb
   obtain ⟨h1,h2⟩:=h
   have ok: ∀c:Bool,b=c->WS.OK {kn:=(t,c)::w.kn,st:=w.st} :=by
    intro c hc t' b' h'
    simp only [nK] at h'
    split at h'
    ·rename_i ht
     injection h' with h'
     exact ⟨fr,by rw [<-ht,<-h',<-hc];exact hb⟩
    ·exact hw t' b' h'
   cases b with
   |true=>exact ⟨fr,true, {kn:=(t,true)::w.kn,st:=w.st},hb,rfl,ok true rfl,h1 rfl⟩
   |false=>exact ⟨fr,false, {kn:=(t,false)::w.kn,st:=w.st},hb,rfl,ok false rfl,h2 rfl⟩
  ·cases h
theorem xk {w:WS} (hw:w.OK) {c:Operand} {K:Bool->WS->Prop} (h:brO w c K):
  ∃fr b w',w.st.ev c= .at (.data fr .bool b)/\w'.st=w.st/\w'.OK/\K b w':=by
 unfold brO at h
 split at h
 ·exact xl hw h
 ·exact ⟨true,_,w,rfl,rfl,hw,h⟩
 ·cases h
theorem KQ {op:BinOp} {t:TypeId} {x y:AV} {K:AV->Prop} (h:Ai1 T op t x y K): ∃v,Tw T op t x y=some v/\K v:=by
 unfold Ai1 at h
 split at h
 ·split at h
  ·rename_i hk
   exact ⟨_,by simp only [Tw,evalBin,tz];rw [Ab hk,Ak h.1];rfl,h.2⟩
  ·cases h
 ·split at h
  ·rename_i hk
   exact ⟨_,by simp only [Tw,evalBin,tz];rw [Ab hk,Ak h.1];rfl,h.2⟩
  ·cases h
 ·exact ⟨_,by simp only [Tw,evalBin];rw [Ak h.1];rfl,h.2⟩
 ·exact ⟨_,by simp only [Tw,evalBin];rw [Ak h.1];rfl,h.2⟩
 ·exact ⟨_,by simp only [Tw,evalBin];rw [Ab h.1],h.2⟩
 ·exact Cc.1 h
theorem GJ {st:St} {t:TypeId} {p:AV} {K:AV->Prop} (h:Aap T st t p K): ∃v,Qe T st t p=some v/\K v:=by
 unfold Aap at h
 split at h
 ·obtain ⟨τ,h1,h2⟩:=Cc.1 h
  split at h2
  ·rename_i hb
   split at h2
   ·rename_i he
    obtain ⟨x,h3,h4⟩:=h2
    exact ⟨_,by simp only [Qe,h1,hb,Ab he,h3];rfl,h4⟩
   ·cases h2
  ·rename_i hb
   split at h2
   ·rename_i he
    obtain ⟨x,h3,h4⟩:=h2
    exact ⟨_,by simp only [Qe,h1,hb,Ab he,h3];rfl,h4⟩
   ·cases h2
  ·rename_i hb
   split at h2
   ·cases h2
   ·rename_i he
    exact ⟨_,by simp only [Qe,h1,hb,Ak he],h2⟩
  ·cases h2
 ·obtain ⟨τ,h1,h2⟩:=Cc.1 h
  split at h2
  ·rename_i he
   obtain ⟨y,h3,h4⟩:=h2
   subst h3
   exact ⟨_,by simp only [Qe,h1,Ab he],h4⟩
  ·cases h2
 ·exact Cc.1 h
theorem oV {s:TypeId} {x:AV} {f:Nat} {K:AV->Prop} (h:lV T s x f K): ∃v,Nz T s x f=some v/\K v:=by
 unfold lV at h
 split at h
 ·obtain ⟨y,h1,h2⟩:=h
  subst h1
  obtain ⟨v,h3,h4⟩:=Cc.1 h2
  refine ⟨v,?_,h4⟩
  rw [<-h3]
  unfold Nz
  cases T.off s f<;>rfl
 ·exact Cc.1 h
theorem BH {st:St} {t:TypeId} {x:AV} {lo hi:Option AV} {K:AV->Prop} (h:OR T st t x lo hi K): ∃v,eh T st t x lo hi=some v/\K v:=by
 unfold OR at h
 obtain ⟨n,h1,h⟩:=Cc.1 h
 obtain ⟨l,h2,h⟩:=Cc.1 h
 obtain ⟨hh,h3,hc,h⟩:=Cc.1 h
 obtain ⟨v,h4,h5⟩:=Cc.1 h
 refine ⟨v,?_,h5⟩
 simp only [eh,h1,h2,h3,Ab hc]
 exact h4
theorem p8 {st:St} {t:TypeId} {x i:AV} {K:AV->Prop} (h:m7 T st t x i K): ∃v,Kt T st t x i=some v/\K v:=by
 unfold m7 at h
 split at h
 ·split at h
  ·rename_i he
   obtain ⟨x,h3,h4⟩:=h
   exact ⟨_,by simp only [Kt,Ab he,h3];rfl,h4⟩
  ·cases h
 ·split at h
  ·rename_i hb
   split at h
   ·rename_i he
    obtain ⟨h3,h4⟩:=h
    exact ⟨_,by simp only [Kt,hb];rw [Ab ⟨he.1,he.2,Ui.2 h3⟩],h4⟩
   ·cases h
  ·rename_i hb
   split at h
   ·rename_i he
    obtain ⟨h3,h4⟩:=h
    exact ⟨_,by simp only [Kt,hb];rw [Ab ⟨he.1,he.2,Ui.2 h3⟩],h4⟩
   ·cases h
  ·rename_i hb
   split at h
   ·rename_i he
    obtain ⟨h3,h4⟩:=h
    exact ⟨_,by simp only [Kt,hb];rw [Ab ⟨he.1,he.2,Ui.2 h3⟩],h4⟩
   ·cases h
  ·cases h
 ·split at h
  ·rename_i hb
   split at h
   ·rename_i he
    obtain ⟨h3,h4⟩:=h
    exact ⟨_,by simp only [Kt,hb];rw [Ab ⟨he,Ui.2 h3⟩],h4⟩
   ·cases h
  ·cases h
 ·cases h
theorem zA {t:TypeId} {x i:AV} {K:AV->Prop} (h:MF T t x i K): ∃v,jP T t x i=some v/\K v:=by
 unfold MF at h
 split at h
 ·split at h
  ·rename_i he
   obtain ⟨h1,b,h3,h4⟩:=h
   exact ⟨_,by simp only [jP,Ab he,Ab h1,h3];rfl,h4⟩
  ·cases h
 ·cases h
theorem cC {st:St} {f:FuncId} {args:List AV} {K:AV->Prop} (h:xm Γ st f args K): ∃v,Oo Γ st f args=some v/\K v:=by
 unfold xm at h
 obtain ⟨s,h1,h⟩:=Cc.1 h
 have h1:Γ f=some (.q s):=by
  split at h1
  ·rename_i s' hs;injection h1 with h1;rw [hs,h1]
  ·cases h1
 split at h
 ·rename_i hf
  obtain ⟨p,h2,y,h3,h4⟩:=Cc.1 h
  refine ⟨_,?_,h4⟩
  simp only [Oo,h1]
  rw [Ab hf,h2]
  simp only [h3]
  rfl
 ·cases h
theorem z0 {st:St} {v:AV} {args:List AV} {K:AV->Prop} (h:KT Γ st v args K): ∃u,Yd Γ st v args=some u/\K u:=by
 unfold KT at h
 split at h
 ·split at h
  ·rename_i hc
   split at h
   ·rename_i hf
    obtain ⟨u,h1,h2⟩:=cC h
    exact ⟨u,by simp only [Yd];rw [Ab hc,Ab (by simpa using hf)];exact h1,h2⟩
   ·rename_i hf
    obtain ⟨u,h1,h2⟩:=cC h
    exact ⟨u,by simp only [Yd];rw [Ab hc,Ak (λhx=>by rw [show Nat.blt _ 1000000000=true from by simpa using hx] at hf;cases hf)];exact h1,h2⟩
  ·cases h
 ·exact cC h
 ·cases h
theorem Pl {w:WS} (hw:w.OK) {x:Operand} {b:Bool} (hk:Wp w.kn x=some b): ∃fr,w.st.ev x= .at (.data fr .bool b):=by
 unfold Wp at hk
 split at hk
 ·injection hk with hk;subst hk;exact ⟨true,rfl⟩
 ·exact hw _ _ hk
 ·cases hk
theorem wi {w:WS} (hw:w.OK) {o:Oper} {b:Bool} (hk:Hs w.kn o=some b) {v:AV} (he:Fh T Γ w.st o=some v): ∃fr,v= .at (.data fr .bool b):=by
 unfold Hs at hk
 split at hk
 ·rename_i heq;unfold Fh at he;rw [heq] at he;injection he with he;obtain ⟨fr,h⟩:=Pl hw hk;exact ⟨fr,he.symm.trans h⟩
 ·rename_i heq;unfold Fh at he;rw [heq] at he;injection he with he;obtain ⟨fr,h⟩:=Pl hw hk;exact ⟨fr,he.symm.trans h⟩
 ·rename_i x heq
  cases hx:Wp w.kn x with
  |none=>rw [hx] at hk;cases hk
  |some c=>
   rw [hx] at hk
   injection hk with hk
   obtain ⟨fr,h⟩:=Pl hw hx
   unfold Fh at he;rw [heq] at he
   simp only [h,zg,Pe] at he
   injection he with he
   exact ⟨true,by rw [<-he,<-hk]⟩
 ·rename_i c x y heq
  unfold Fh at he;rw [heq] at he
  split at hk
  ·rename_i hc
   obtain ⟨fr,h⟩:=Pl hw hc
   simp only [h,ef,Ph] at he
   injection he with he
   obtain ⟨fr,h⟩:=Pl hw hk
   exact ⟨fr,he.symm.trans h⟩
  ·rename_i hc
   obtain ⟨fr,h⟩:=Pl hw hc
   simp only [h,ef,Dd,Rl] at he
   injection he with he
   obtain ⟨fr,h⟩:=Pl hw hk
   exact ⟨fr,he.symm.trans h⟩
  ·cases hk
 ·cases hk
theorem u5 {w:WS} (hw:w.OK) {o:Oper} {x:Operand} (ho:o.op= .assign x) {b:Bool} (hk:Hs w.kn o=some b) {v:AV} {s:St} (he:evalOp T Γ w.st o=some (v,s)): ∃fr,v= .at (.data fr .bool b):=by
 unfold Hs at hk
 rw [ho] at hk
 obtain ⟨fr,h⟩:=Pl hw hk
 unfold evalOp at he;rw [ho] at he
 simp only [h] at he
 injection he with he;injection he with he;exact ⟨fr,he.symm⟩
theorem jg {w:WS} (hw:w.OK) {o:Oper} {K:AV->WS->Prop} (h:qW T Γ w o K):
  ∃v w',Fh T Γ w.st o=some v/\w'.st=w.st/\w'.OK/\(∀b,Hs w'.kn o=some b-> ∃fr,v= .at (.data fr .bool b))/\K v w':=by
 have fin:(∃v w',Fh T Γ w.st o=some v/\w'.st=w.st/\w'.OK/\K v w')-> ∃v w',Fh T Γ w.st o=some v/\w'.st=w.st/\w'.OK/\(∀b,Hs w'.kn o=some b-> ∃fr,v= .at (.data fr .bool b))/\K v w':=by
  rintro ⟨v,w',h1,h2,h3,h4⟩
  exact ⟨v,w',h1,h2,h3,λb hb=>wi h3 hb (by rw [h2];exact h1),h4⟩
 refine fin ?_
 unfold qW at h
 split at h
 ·rename_i c a b heq
  obtain ⟨fr,t,w',h1,h2,h3,h4⟩:=xk hw h
  cases t with
  |true=>exact ⟨_,w',by unfold Fh;rw [heq];simp only [h1,ef,Ph];rw [<-h2],h2,h3,h4⟩
  |false=>exact ⟨_,w',by unfold Fh;rw [heq];simp only [h1,ef];rw [<-h2];simp,h2,h3,h4⟩
 ·rename_i heq
  obtain ⟨v,h1,h2⟩:=GJ h
  exact ⟨v,w,by unfold Fh;rw [heq];exact h1,rfl,hw,h2⟩
 ·rename_i heq
  obtain ⟨v,h1,h2⟩:=KQ h
  exact ⟨v,w,by unfold Fh;rw [heq];exact h1,rfl,hw,h2⟩
 ·rename_i heq
  split at h
  ·obtain ⟨v,h1,h2⟩:=BH h
   exact ⟨v,w,by unfold Fh;rw [heq];simpa using h1,rfl,hw,h2⟩
  ·cases h
 ·rename_i heq
  obtain ⟨v,h1,h2⟩:=p8 h
  exact ⟨v,w,by unfold Fh;rw [heq];exact h1,rfl,hw,h2⟩
 ·rename_i heq
  obtain ⟨v,h1,h2⟩:=zA h
  exact ⟨v,w,by unfold Fh;rw [heq];exact h1,rfl,hw,h2⟩
 ·rename_i heq
  obtain ⟨v,h1,h2⟩:=cC h
  exact ⟨v,w,by unfold Fh;rw [heq];exact h1,rfl,hw,h2⟩
 ·rename_i heq
  obtain ⟨v,h1,h2⟩:=z0 h
  exact ⟨v,w,by unfold Fh;rw [heq];exact h1,rfl,hw,h2⟩
 ·rename_i heq
  obtain ⟨v,h1,h2⟩:=oV h
  exact ⟨v,w,by unfold Fh;rw [heq];exact h1,rfl,hw,h2⟩
 ·rename_i x heq
  unfold xU at h
  split at h
  ·rename_i fr τ z hx
   obtain ⟨y,h1,h2⟩:=h
   subst h1
   exact ⟨_,w,by unfold Fh;rw [heq];simp only [hx],rfl,hw,h2⟩
  ·obtain ⟨v,h1,h2⟩:=Cc.1 h
   exact ⟨v,w,h1,rfl,hw,h2⟩
 ·obtain ⟨v,h1,h2⟩:=Cc.1 h
  exact ⟨v,w,h1,rfl,hw,h2⟩
theorem BX {st:St} {t:TypeId} {p v:AV} {K:St->Prop} (h:PB T st t p v K): ∃s,Vf T st t p v=some s/\K s:=by
 unfold PB at h
 split at h
 ·obtain ⟨τ,h1,h⟩:=Cc.1 h
  obtain ⟨q,h2,h⟩:=Cc.1 h
  split at h
  ·rename_i hb
   obtain ⟨u,h3,h⟩:=Cc.1 h
   split at h
   ·rename_i hc
    obtain ⟨h4,h5⟩:=h
    obtain ⟨q1,q2⟩:=q
    obtain ⟨u1,u2⟩:=u
    exact ⟨_,by simp only [Vf,h1,h2,hb,h3];rw [Jg hc,Ab h4],h5⟩
   ·cases h
  ·cases h
 ·exact Cc.1 h
theorem wT {st:St} {t:TypeId} {p v:AV} {K:St->Prop} (h:BT T st t p v K): ∃s,Pq T st t p v=some s/\K s:=by
 unfold BT at h
 unfold Pq
 split at h
 rotate_left
 ·rename_i hg;rw [hg];exact BX h
 rename_i hg
 rw [hg]
 simp only
 unfold SR at h
 split at h
 ·obtain ⟨τ,h1,h⟩:=Cc.1 h
  obtain ⟨q,h2,h⟩:=Cc.1 h
  split at h
  ·rename_i hb
   obtain ⟨u,h3,h⟩:=Cc.1 h
   split at h
   ·rename_i hc
    obtain ⟨q1,q2⟩:=q
    obtain ⟨u1,u2⟩:=u
    exact ⟨_,by simp only [bL,h1,h2,hb,h3];rw [Jg hc],h⟩
   ·cases h
  ·cases h
 ·rename_i l j
  obtain ⟨τ,h1,h⟩:=Cc.1 h
  split at h
  ·rename_i e te rows out kp m off len hl _
   split at h
   ·rename_i fr tr e' tid xs hm
    split at h
    ·rename_i hc
     obtain ⟨h2,h3,h4,h5⟩:=h
     have h4:out=none\/out=some j:=by
      cases out with
      |none=>exact .inl rfl
      |some i=>exact .inr (Fq some h4)
     exact ⟨_,by simp only [bL,h1,hl,hm];rw [Jg ⟨hc.1,hc.2,h2,h3,h4⟩],h5⟩
    ·cases h
   ·cases h
  ·cases h
 ·cases h
theorem Zf {st:St} {d:Nat} {t:TypeId} {x y:Operand} {K:AV->St->Prop} (h:mM T st d t x y K): ∃v s,Ny T st d t x y=some (v,s)/\K v s:=by
 unfold mM at h
 obtain ⟨te,h1,h⟩:=Cc.1 h
 obtain ⟨e,h2,h⟩:=Cc.1 h
 obtain ⟨q,h3,h⟩:=Cc.1 h
 obtain ⟨u,h4,h⟩:=Cc.1 h
 obtain ⟨q1,q2⟩:=q
 obtain ⟨u1,u2⟩:=u
 split at h
 ·rename_i hx
  split at h
  ·rename_i hd
   obtain ⟨h5,h6⟩:=h
   refine ⟨_,_,?_,h6⟩
   simp only [Ny,h1,h2,h3,h4]
   rw [hx]
   simp only
   rw [Ab ⟨h5,by simpa [Nf] using hd⟩]
   simp
  ·cases h
 ·rename_i l off len hx
  split at h
  ·rename_i fr tr e' tid xs hb
   split at h
   ·rename_i hc
    obtain ⟨h5,h6,h7,h8⟩:=h
    refine ⟨_,_,?_,h8⟩
    simp only [Ny,h1,h2,h3,h4]
    rw [hx]
    simp only [hb]
    rw [Jg ⟨hc.1,hc.2.1⟩,Ab ⟨h7,by simpa [Nf] using hc.2.2⟩]
    obtain ⟨hc1,hc2,hc3⟩:=hc
    subst hc1
    subst h5
    simp only [Ea,h6,Ay,Au]
   ·cases h
  ·cases h
 ·cases h
theorem so {st:St} {d:Nat} {t:TypeId} {x y:Operand} {K:AV->St->Prop} (h:sn T st d t x y K): ∃v s,Rq T st d t x y=some (v,s)/\K v s:=by
 unfold sn at h
 cases x with
 |tmp tx=>
  simp only at h
  unfold Rq
  simp only
  cases hg:st.get tx with
  | «at»c=>
   rw [hg] at h
   cases c with
   |sub l i c=>
    simp only at h⊢
    obtain ⟨tid,h1,h⟩:=Cc.1 h
    split at h
    ·rename_i hl
     split at h
     ·rename_i hc
      obtain ⟨v,s,h2,h3⟩:=Zf h
      refine ⟨v,s,?_,h3⟩
      simp only [hl,h1]
      rw [Ab hc]
      exact h2
     ·cases h
    ·cases h
   |_=>exact Zf h
  |_=>rw [hg] at h;exact Zf h
 |_=>exact Zf h
theorem GN {st:St} {d:Nat} {t:TypeId} {l c:AV} {K:AV->St->Prop} (h:Aau T st d t l c K): ∃v s,bJ T st d t l c=some (v,s)/\K v s:=by
 unfold Aau at h
 split at h
 ·obtain ⟨te,h1,h⟩:=Cc.1 h
  obtain ⟨e,h2,h⟩:=Cc.1 h
  split at h
  ·rename_i hz
   obtain ⟨h3,h4,h5⟩:=h
   refine ⟨_,_,?_,h5⟩
   simp only [Ag] at hz
   simp only [bJ,h1,h2]
   rw [Ab ⟨Ui.2 (by exact_mod_cast h3),h4,hz.1,by simpa [Nf] using hz.2⟩]
   simp
  ·cases h
 ·cases h
theorem zS {st:St} {d:Nat} {t:TypeId} {l c:AV} {K:AV->St->Prop} (h:MT T st d t l c K): ∃v s,Ye T st d t l c=some (v,s)/\K v s:=by
 unfold MT at h
 unfold Ye
 cases hg:eo T t with
 |none=>rw [hg] at h;exact GN h
 |some p=>
  obtain ⟨te,e⟩:=p
  rw [hg] at h
  simp only at h⊢
  split at h
  ·split at h
   ·rename_i hd
    obtain ⟨h3,h4,h5⟩:=h
    refine ⟨_,_,?_,h5⟩
    simp only
    rw [Ab ⟨Ui.2 (by exact_mod_cast h3),h4,by simpa [Nf] using hd⟩]
    simp
   ·cases h
  ·cases h
theorem lR {st:St} {d:Nat} {t:TypeId} {len:Nat} {parts:Array (Nat×Operand)} {K:AV->St->Prop} (h:fe T st d t len parts K): ∃v s,Jh T st d t len parts=some (v,s)/\K v s:=by
 unfold fe at h
 unfold Jh
 cases hg:eo T t with
 |none=>
  rw [hg] at h
  obtain ⟨r,h1,h2⟩:=Cc.1 h
  exact ⟨r.1,r.2,h1,h2⟩
 |some p=>
  obtain ⟨te,e⟩:=p
  rw [hg] at h
  simp only at h⊢
  split at h
  ·rename_i x hp
   split at h
   ·rename_i m off ln hx
    split at h
    ·rename_i hm
     split at h
     ·rename_i hc
      obtain ⟨h1,h2,h3⟩:=h
      refine ⟨_,_,?_,h3⟩
      simp only [hp,hx,hm]
      rw [Jg ⟨hc.1,hc.2,h1,h2⟩]
     ·cases h
    ·cases h
   ·cases h
  ·cases h
theorem sr {st:St} {d:Nat} {t:TypeId} {x y:Operand} {K:AV->St->Prop} (h:sq T st d t x y K): ∃v s,Rr T st d t x y=some (v,s)/\K v s:=by
 unfold sq at h
 unfold Rr
 cases hg:eo T t with
 |none=>rw [hg] at h;exact so h
 |some p=>
  obtain ⟨te,e⟩:=p
  rw [hg] at h
  simp only at h⊢
  split at h
  ·rename_i l off len m Ab3 tH hx hy
   split at h
   ·rename_i hl hm
    split at h
    ·rename_i hc
     obtain ⟨h1,h2,h3,h4,h5⟩:=h
     obtain ⟨⟨rfl,rfl⟩,hc⟩:=hc
     refine ⟨_,_,?_,h5⟩
     simp only [hx,hy,hl,hm]
     rw [Jg (⟨⟨trivial,trivial⟩,hc,h1,h2,h3,h4⟩)]
     simp
    ·cases h
   ·cases h
  ·cases h
theorem CF {st:St} {io:Bool} {k:Nat} {c:CK} {a:AC} {K:c.den->List (Nat×Loc)->Prop} (h:ga st io k c a K): ∃x t,Mh st io k c a=some (x,t)/\K x t:=by
 cases c with
 |Fz τ=>
  cases a with
  |own l off len=>
   obtain ⟨p,h1,h2⟩:=Cc.1 h
   exact ⟨_,_,by simp only [Mh];rw [h1];rfl,h2⟩
  |clo g Ef=>
   simp only [ga] at h
   split at h
   ·rename_i hc
    obtain ⟨p,h1,h2⟩:=Cc.1 h
    exact ⟨_,_,by simp only [Mh];rw [Ab hc,h1];rfl,h2⟩
   ·cases h
  |Hr l i=>
   simp only [ga] at h
   split at h
   ·rename_i hc
    obtain ⟨p,h1,h2⟩:=Cc.1 h
    exact ⟨_,_,by simp only [Mh];rw [Ab hc,h1];rfl,h2⟩
   ·cases h
  |sub l i c=>
   obtain ⟨p,h1,h2⟩:=Cc.1 h
   exact ⟨_,_,by simp only [Mh];rw [h1];rfl,h2⟩
  |_=>
   simp only [ga] at h
   split at h
   ·rename_i hc
    obtain ⟨p,h1,h2⟩:=Cc.1 h
    exact ⟨_,_,by simp only [Mh];rw [Ab hc,h1];rfl,h2⟩
   ·cases h
 |row e te=>
  cases a<;>simp only [ga] at h<;>first|(cases h;done)|skip
  ·exact ⟨_,_,rfl,h⟩
  ·split at h
   ·rename_i hl
    split at h
    ·rename_i hc
     obtain ⟨h1,h2,h3⟩:=h
     exact ⟨_,_,by simp only [Mh,hl];rw [Jg ⟨hc.1,hc.2,h1,h2⟩],h3⟩
    ·cases h
   ·cases h
  ·split at h
   ·rename_i hl
    split at h
    ·rename_i hc
     obtain ⟨y,h1,h2⟩:=h
     exact ⟨_,_,by simp only [Mh,hl];rw [Jg hc,h1];rfl,h2⟩
    ·cases h
   ·cases h
 |Hz e te=>
  cases a<;>simp only [ga] at h<;>first|(cases h;done)|skip
  ·exact ⟨_,_,rfl,h⟩
  ·split at h
   ·rename_i hl
    split at h
    ·rename_i hc
     obtain ⟨h1,h2,h3⟩:=h
     exact ⟨_,_,by simp only [Mh,hl];rw [Jg ⟨hc.1,hc.2,h1,h2⟩],h3⟩
    ·cases h
   ·cases h
  ·split at h
   ·rename_i hl
    split at h
    ·rename_i hc
     obtain ⟨y,h1,h2⟩:=h
     exact ⟨_,_,by simp only [Mh,hl];rw [Jg hc,h1];rfl,h2⟩
    ·cases h
   ·cases h
 |part e te=>
  cases a<;>simp only [ga] at h<;>first|(cases h;done)|skip
  split at h
  ·rename_i hl
   split at h
   ·rename_i hc
    exact ⟨_,_,by simp only [Mh,hl];rw [Jg hc],h⟩
   ·cases h
  ·cases h
 |Bl e te kp=>
  cases a<;>simp only [ga] at h<;>first|(cases h;done)|skip
  split at h
  ·rename_i hl
   split at h
   ·rename_i hc
    obtain ⟨h1,h2,h3⟩:=h
    exact ⟨_,_,by simp only [Mh,hl];rw [Jg ⟨hc.1,hc.2.1,h1,h2,hc.2.2⟩],h3⟩
   ·cases h
  ·cases h
theorem HY {st:St} {e:Ty} {ys:List e.den} {a:AC} {K:St->Prop} (h:Abp st e ys a K): ∃s,OD st e ys a=some s/\K s:=by
 cases a<;>simp only [Abp] at h<;>first|(cases h;done)|skip
 split at h
 ·rename_i hl
  split at h
  ·rename_i hc
   obtain ⟨h1,h3⟩:=h
   exact ⟨_,by simp only [OD,hl];rw [Jg ⟨hc,h1⟩],h3⟩
  ·cases h
 ·cases h
theorem lr {st:St} : ∀(cs:List (Bool×CK)) (k:Nat) (as:List AC) (K:Ins.den cs->List (Nat×Loc)->Prop),CG st k cs as K-> ∃x t,gf st k cs as=some (x,t)/\K x t
 | [],_,[],_,h=>⟨_,_,rfl,h⟩
 | [],_,_::_,_,h=>h.elim
 |_::_,_,[],_,h=>h.elim
 |p::r,k,a::as,K,h=>by
  obtain ⟨x,t1,h1,h2⟩:=CF h
  obtain ⟨y,t2,h3,h4⟩:=lr r (k+1) as _ h2
  exact ⟨_,_,by simp only [gf,h1,h3],h4⟩
theorem qJ {st:St} {c:CK} {ys:c.den} {a:AC} {K:St->Prop} (h:qI st c ys a K): ∃s,cy st c ys a=some s/\K s:=by
 cases c with
 |Fz τ=>cases a<;>simp only [qI] at h<;>first|(cases h;done)|exact ⟨_,rfl,h⟩
 |row e te=>
  cases a<;>simp only [qI] at h<;>first|(cases h;done)|skip
  ·exact ⟨_,rfl,h⟩
  ·split at h
   ·rename_i hl
    split at h
    ·rename_i hc
     obtain ⟨h1,h3⟩:=h
     exact ⟨_,by simp only [cy,hl];rw [Jg ⟨hc,h1⟩],h3⟩
    ·cases h
   ·cases h
  ·split at h
   ·rename_i hl
    split at h
    ·rename_i hc
     obtain ⟨y,h1,h2,h3⟩:=h
     exact ⟨_,by simp only [cy,hl,Jg hc,h1];rw [Ab h2],h3⟩
    ·cases h
   ·cases h
 |Hz e te=>
  cases a<;>simp only [qI] at h<;>first|(cases h;done)|skip
  ·exact ⟨_,rfl,h⟩
  ·split at h
   ·rename_i hl
    split at h
    ·rename_i hc
     obtain ⟨h1,h3⟩:=h
     exact ⟨_,by simp only [cy,hl];rw [Jg ⟨hc,h1⟩],h3⟩
    ·cases h
   ·cases h
  ·split at h
   ·rename_i hl
    split at h
    ·rename_i hc
     obtain ⟨y,h1,h2,h3⟩:=h
     exact ⟨_,by simp only [cy,hl,Jg hc,h1];rw [Ab h2],h3⟩
    ·cases h
   ·cases h
 |part e te=>cases a<;>simp only [qI] at h<;>first|(cases h;done)|exact ⟨_,rfl,h⟩
 |Bl e te kp=>cases a<;>simp only [qI] at h<;>first|(cases h;done)|exact ⟨_,rfl,h⟩
theorem Py: ∀(cs:List (Bool×CK)) (o:IOs.den cs) (as:List AC) (st:St) (K:St->Prop),jf cs o as st K-> ∃s,Ij cs o as st=some s/\K s
 | [],_,_,st,K,h=>⟨st,rfl,h⟩
 |(true, .Fz _)::r,o,[],st,K,h=>h.elim
 |(true, .row _ _)::r,o,[],st,K,h=>h.elim
 |(true, .Hz _ _)::r,o,[],st,K,h=>h.elim
 |(true, .part _ _)::r,o,[],st,K,h=>h.elim
 |(true, .Bl _ _ _)::r,o,[],st,K,h=>h.elim
 |(true, .Bl _ _ _)::r,o,a::as,st,K,h=>by
  obtain ⟨s,h1,h2⟩:=Py r o as st K h
  exact ⟨s,by simp only [Ij];exact h1,h2⟩
 |(false,_)::r,o,[],st,K,h=>h.elim
 |(true, .Fz _)::r,o,a::as,st,K,h=>by
  obtain ⟨s,h1,h2⟩:=Py r o as st K h
  exact ⟨s,by simp only [Ij];exact h1,h2⟩
 |(false,_)::r,o,a::as,st,K,h=>by
  obtain ⟨s,h1,h2⟩:=Py r o as st K h
  exact ⟨s,by simp only [Ij];exact h1,h2⟩
 |(true, .row _ _)::r,o,a::as,st,K,h=>by
  obtain ⟨s1,h1,h2⟩:=qJ h
  obtain ⟨s,h3,h4⟩:=Py r o.2 as s1 K h2
  exact ⟨s,by simp only [Ij,h1];exact h3,h4⟩
 |(true, .part _ _)::r,o,a::as,st,K,h=>by
  obtain ⟨s1,h1,h2⟩:=HY h
  obtain ⟨s,h3,h4⟩:=Py r o.2 as s1 K h2
  exact ⟨s,by simp only [Ij,h1];exact h3,h4⟩
 |(true, .Hz _ _)::r,o,a::as,st,K,h=>by
  obtain ⟨s1,h1,h2⟩:=qJ h
  obtain ⟨s,h3,h4⟩:=Py r o.2 as s1 K h2
  exact ⟨s,by simp only [Ij,h1];exact h3,h4⟩
theorem qS {H:List (Nat×OB)} {ls:List Nat} {n:Nat} {K:Prop} : ∀(l:List AV),vg H ls n l K->dG H ls n l=true/\K
 | [],h=>⟨rfl,h⟩
 |a::r,h=>by
  have go:vg H ls n r K->dG H ls n r=true/\K:=qS r
  cases a with
  | «at»c=>
   cases c with
   |sub l i c=>
    simp only [vg] at h
    simp only [dG]
    split at h
    ·rename_i hc
     obtain ⟨⟨h1,h2⟩,h3⟩:=h
     obtain ⟨g1,g2⟩:=go h3
     exact ⟨by simp only [hc,g1,Bool.and_true,Bool.not_true,bz,Ag,Nf];exact ⟨h1,h2⟩,g2⟩
    ·rename_i hc
     obtain ⟨g1,g2⟩:=go h
     exact ⟨by simp only [hc,g1,Bool.not_false,Bool.true_or,Bool.and_true],g2⟩
   |_=>exact go h
  |_=>exact go h
theorem yZ {st:St} {d:Option Nat} {s:MSpec} {args:List AV} {K:AV->St->Prop} (h:KS st d s args K): ∃v s',Yc st d s args=some (v,s')/\K v s':=by
 unfold KS at h
 obtain ⟨⟨pl,cells,rest⟩,h0,h⟩:=Cc.1 h
 obtain ⟨as,h1,h⟩:=Cc.1 h
 obtain ⟨x,tks,h2,h⟩:=lr s.ins 0 (cells++as) _ h
 split at h
 ·rename_i hc
  obtain ⟨⟨r,o⟩,h3,h⟩:=h
  obtain ⟨st1,h4,h⟩:=Py s.ins o (cells++as) st _ h
  obtain ⟨v,h5,h6⟩:=Cc.1 h
  obtain ⟨h7,h6⟩:=qS _ h6
  refine ⟨v,_,?_,h6⟩
  unfold Yc
  simp only [h0,h1,h2]
  rw [Ab hc]
  simp only [h3,h4,h5]
  rw [Ab h7]
 ·cases h
theorem UX {w:WS} (hw:w.OK) {o:Oper} {K:AV->WS->Prop} (h:opW T Γ w o K):
  ∃v w',evalOp T Γ w.st o=some (v,w'.st)/\w'.OK/\(∀b,Hs w'.kn o=some b-> ∃fr,v= .at (.data fr .bool b))/\K v w':=by
 have fin: ∀v s,(∀b,Hs w.kn o=some b-> ∃fr,v= .at (.data fr .bool b))->evalOp T Γ w.st o=some (v,s)->K v (w.to s)-> ∃v w',evalOp T Γ w.st o=some (v,w'.st)/\w'.OK/\(∀b,Hs w'.kn o=some b-> ∃fr,v= .at (.data fr .bool b))/\K v w':=
  fun v s hk h1 h2=>⟨v,w.to s,h1,hw.to (ng h1),hk,h2⟩
 have zi:(∀b v s,Hs w.kn o=some b->evalOp T Γ w.st o=some (v,s)-> ∃fr,v= .at (.data fr .bool b))->Ie (evalOp T Γ w.st o) (λr=>K r.1 (w.to r.2))-> ∃v w',evalOp T Γ w.st o=some (v,w'.st)/\w'.OK/\(∀b,Hs w'.kn o=some b-> ∃fr,v= .at (.data fr .bool b))/\K v w':=by
  intro hk h
  obtain ⟨r,h1,h2⟩:=Cc.1 h
  exact fin r.1 r.2 (λb hb=>hk b _ _ hb h1) h1 h2
 unfold opW at h
 split at h
 ·rename_i heq
  obtain ⟨s,h1,h2⟩:=wT h
  refine fin _ _ (λb hb=>by unfold Hs at hb;rw [heq] at hb;cases hb) ?_ h2
  unfold evalOp;rw [heq];simp only [h1];rfl
 ·rename_i heq
  obtain ⟨d,h1,h⟩:=Cc.1 h
  obtain ⟨v,s,h2,h3⟩:=zS h
  refine fin _ _ (λb hb=>by unfold Hs at hb;rw [heq] at hb;cases hb) ?_ h3
  unfold evalOp;rw [heq];simp only [h1,h2]
 ·rename_i heq
  split at h
  ·rename_i hd ha ht
   split at h
   ·rename_i Vz
    obtain ⟨v,s,h2,h3⟩:=sr h
    refine fin _ _ (λb hb=>by unfold Hs at hb;rw [heq] at hb;cases hb) ?_ h3
    unfold evalOp;rw [heq];simp only [hd,ha,ht,Ab Vz,h2]
   ·cases h
  ·cases h
 ·rename_i heq;exact zi (λb v s hb he=>u5 hw heq hb he) h
 ·rename_i heq;exact zi (λb v s hb he=>by unfold Hs at hb;rw [heq] at hb;cases hb) h
 ·rename_i heq;exact zi (λb v s hb he=>by unfold Hs at hb;rw [heq] at hb;cases hb) h
 ·rename_i heq
  obtain ⟨d,h1,h⟩:=Cc.1 h
  obtain ⟨v,s,h2,h3⟩:=lR h
  refine fin _ _ (λb hb=>by unfold Hs at hb;rw [heq] at hb;cases hb) ?_ h3
  unfold evalOp;rw [heq];simp only [h1,h2]
 ·rename_i heq;exact zi (λb v s hb he=>by unfold Hs at hb;rw [heq] at hb;cases hb) h
 ·rename_i heq;exact zi (λb v s hb he=>by unfold Hs at hb;rw [heq] at hb;cases hb) h
 ·rename_i heq;exact zi (λb v s hb he=>by unfold Hs at hb;rw [heq] at hb;cases hb) h
 ·rename_i heq;exact zi (λb v s hb he=>by unfold Hs at hb;rw [heq] at hb;cases hb) h
 ·rename_i heq;exact zi (λb v s hb he=>by unfold Hs at hb;rw [heq] at hb;cases hb) h
 ·rename_i heq;exact zi (λb v s hb he=>by unfold Hs at hb;rw [heq] at hb;cases hb) h
 ·
  rename_i f _ _ heq
  split at h
  ·rename_i Ot
   obtain ⟨v,s',h1,h2⟩:=yZ h
   refine fin v s' (λb hb=>by unfold Hs at hb;rw [heq] at hb;cases hb) ?_ h2
   unfold evalOp;rw [heq];simp only [Ot];exact h1
  ·rename_i s Ot
   split at h
   ·rename_i RS
    obtain ⟨st1,hs,h⟩:=Cc.1 h
    obtain ⟨v,w',h1,h2,h3,h3',h4⟩:=jg (hw.to (Uk _ hs)) h
    refine ⟨v,w',?_,h3,h3',h4⟩
    have h1:Fh T Γ st1 o=some v:=h1
    have h2:w'.st=st1:=h2
    unfold evalOp
    rw [heq]
    simp only [Ot,RS,hs,h1,h2]
    rfl
   ·rename_i RS
    obtain ⟨v,w',h1,h2,h3,h3',h4⟩:=jg hw h
    refine ⟨v,w',?_,h3,h3',h4⟩
    unfold evalOp
    rw [heq]
    simp only [Ot,RS,h1,h2]
    rfl
  ·rename_i Ayd Amw
   obtain ⟨v,w',h1,h2,h3,h3',h4⟩:=jg hw h
   refine ⟨v,w',?_,h3,h3',h4⟩
   unfold evalOp
   rw [heq]
   simp only
   rw [h1,h2];rfl
 ·rename_i n1 n2 n3 n4 n5 n6 n7 n8 n9 n10 n11 n12 n13 n14
  obtain ⟨v,w',h1,h2,h3,h3',h4⟩:=jg hw h
  refine ⟨v,w',?_,h3,h3',h4⟩
  unfold evalOp
  split
  all_goals first
   |(rw [h1,h2];rfl)
   |(rename_i hq;exact absurd hq (by first|exact n1 _|exact n2 _|exact n3 _|exact n4 _|exact n5 _|exact n6 _|exact n7 _|exact n8 _|exact n9 _|exact n10 _|exact n11 _|exact n12 _|exact n13 _|exact n14 _))
   |(rename_i hq;exact absurd hq (by first|exact n1 _ _|exact n2 _ _|exact n3 _ _|exact n4 _ _|exact n5 _ _|exact n6 _ _|exact n7 _ _|exact n8 _ _|exact n9 _ _|exact n10 _ _|exact n11 _ _|exact n12 _ _|exact n13 _ _|exact n14 _ _))
   |(rename_i hq;exact absurd hq (by first|exact n1 _ _ _|exact n2 _ _ _|exact n3 _ _ _|exact n4 _ _ _|exact n5 _ _ _|exact n6 _ _ _|exact n7 _ _ _|exact n8 _ _ _|exact n9 _ _ _|exact n10 _ _ _|exact n11 _ _ _|exact n12 _ _ _|exact n13 _ _ _|exact n14 _ _ _))
   |(rename_i hq;exact absurd hq (by first|exact n1 _ _ _ _|exact n2 _ _ _ _|exact n3 _ _ _ _|exact n4 _ _ _ _|exact n5 _ _ _ _|exact n6 _ _ _ _|exact n7 _ _ _ _|exact n8 _ _ _ _|exact n9 _ _ _ _|exact n10 _ _ _ _|exact n11 _ _ _ _|exact n12 _ _ _ _|exact n13 _ _ _ _|exact n14 _ _ _ _))
theorem zl (st:St) (d:Nat) (v:AV):(st.put (some d) v).get d=v\/(st.put (some d) v).get d= .undef:=by
 simp only [St.put,St.get]
 rw [Qu]
 by_cases h:d<st.tmps.length
 ·exact .inl (by rw [Ab ⟨rfl,h⟩])
 ·refine .inr ?_
  rw [Ak (λhc=>h hc.2),Ai,Dz (by omega)]
  rfl
theorem WS.OK.wE {w:WS} (hw:w.OK) (o:Oper) (v:AV) (h: ∀b,Hs w.kn o=some b-> ∃fr,v= .at (.data fr .bool b)):(w.wE o v).OK/\(w.wE o v).st=w.st.put o.dst v:=by
 unfold WS.wE
 split
 ·rename_i d b hd hk
  split
  ·rename_i fr c hg
   refine ⟨?_,by rw [hd]⟩
   obtain ⟨Wh,hv⟩:=h b hk
   intro t b' hb
   simp only [nK] at hb
   split at hb
   ·rename_i ht
    injection hb with hb
    subst ht;subst hb
    refine ⟨Wh,?_⟩
    show (w.st.put (some d) v).get d=_
    cases zl w.st d v with
    |inl h1=>rw [h1,hv]
    |inr h1=>rw [h1] at hg;cases hg
   ·exact hw.put (some d) v t b' hb
  ·exact ⟨hw.put _ _,by rw [WS.uk,hd]⟩
 ·exact ⟨hw.put _ _,WS.uk _ _ _⟩
theorem qR {ops:Array Oper} {w:WS} (hw:w.OK) {o:Oper} {run:(AV->WS->Prop)->WS->Prop} {R:St->Option (AV×St)} {K:WS->Prop}
  (hr: ∀(k:AV->WS->Prop) (w:WS),w.OK->run k w-> ∃v w',R w.st=some (v,w'.st)/\w'.OK/\(∀b,Hs w'.kn o=some b-> ∃fr,v= .at (.data fr .bool b))/\k v w') (h:jB ops w o run K):
  ∃w',(match o.guard with
   |none=>(R w.st).map λr=>r.2.put o.dst r.1
   |some (j,want)=>match Xv w.st ((ops[j]?).bind (·.dst)) with
    |some (some b)=>if b==want then (R w.st).map λr=>r.2.put o.dst r.1 else some (w.st.put o.dst (.at .skip))
    |some none=>some (w.st.put o.dst (.at .skip))
    |none=>none)=some w'.st/\w'.OK/\K w':=by
 have go: ∀w:WS,w.OK->run (λv w'=>K (w'.wE o v)) w-> ∃w',((R w.st).map λr=>r.2.put o.dst r.1)=some w'.st/\w'.OK/\K w':=by
  intro w hw h
  obtain ⟨v,w',h1,h2,h3,h4⟩:=hr _ _ hw h
  obtain ⟨h5,h6⟩:=h2.wE o v h3
  exact ⟨w'.wE o v,by rw [h1,h6];rfl,h5,h4⟩
 unfold jB at h
 split at h
 ·rename_i hg
  rw [hg]
  exact go w hw h
 ·rename_i j want hg
  rw [hg]
  obtain ⟨t,h1,h⟩:=Cc.1 h
  simp only [h1]
  split at h
  ·rename_i hs
   have hsk:w.st.get t= .at .skip:=by
    unfold AV.Aak at hs
    split at hs
    ·assumption
    ·cases hs
   exact ⟨_,by simp only [Xv,hsk];rw [WS.uk],hw.put _ _,h⟩
  ·obtain ⟨fr,b,w',h2,h3,h4,h5⟩:=xl hw h
   have hb:Xv w.st (some t)=some (some b):=by simp only [Xv,h2]
   rw [hb]
   simp only
   cases b with
   |true=>
    cases want with
    |true=>rw [Ab (by decide),<-h3];exact go w' h4 h5
    |false=>exact ⟨_,by rw [Ak (by decide),<-h3,WS.uk],h4.put _ _,h5⟩
   |false=>
    cases want with
    |false=>rw [Ab (by decide),<-h3];exact go w' h4 h5
    |true=>exact ⟨_,by rw [Ak (by decide),<-h3,WS.uk],h4.put _ _,h5⟩
theorem cg {ops:Array Oper} {w:WS} (hw:w.OK) {o:Oper} {K:WS->Prop} (h:jB ops w o (λk w'=>opW T Γ w' o k) K): ∃w',Fc T Γ ops w.st o=some w'.st/\w'.OK/\K w':=by
 obtain ⟨w',h1,h2⟩:=qR hw (R:= λst=>evalOp T Γ st o) (λk w hw h=>by
  obtain ⟨v,w',h1,h2,h2',h3⟩:=UX hw h
  exact ⟨v,w',h1,h2,h2',h3⟩) h
 exact ⟨w',h1,h2⟩
theorem YW {w:WS} (hw:w.OK) {o:Oper} {K:AV->WS->Prop} (h:bW T Γ w o K):
  ∃v w',Xn T Γ w.st o=some v/\w'.st=w.st/\w'.OK/\(∀b,Hs w'.kn o=some b-> ∃fr,v= .at (.data fr .bool b))/\K v w':=by
 unfold bW at h
 split at h
 ·rename_i t len parts rT
  obtain ⟨v,h1,h2⟩:=Cc.1 h
  exact ⟨v,w,by unfold Xn;rw [rT];exact h1,rfl,hw,λb hb=>by simp [Hs,rT] at hb,h2⟩
 ·rename_i t parts rT
  obtain ⟨v,h1,h2⟩:=Cc.1 h
  exact ⟨v,w,by unfold Xn;rw [rT];exact h1,rfl,hw,λb hb=>by simp [Hs,rT] at hb,h2⟩
 ·rename_i n1 n2
  obtain ⟨v,w',h1,h2⟩:=jg hw h
  refine ⟨v,w',?_,h2⟩
  rw [<-h1]
  unfold Xn
  split
  ·rename_i h9;exact absurd h9 (n1 _ _ _)
  ·rename_i h9;exact absurd h9 (n2 _ _)
  ·rfl
theorem Afj {ops:Array Oper} {w:WS} (hw:w.OK) {o:Oper} {K:WS->Prop} (h:jB ops w o (λk w'=>bW T Γ w' o k) K): ∃v w',Xl T Γ ops w.st o=some v/\w'.st=w.st.put o.dst v/\w'.OK/\K w':=by
 obtain ⟨w',h1,h2,h3⟩:=qR hw (R:= λst=>(Xn T Γ st o).map λv=>(v,st)) (λk w hw h=>by
  obtain ⟨v,w',h1,h2,h3,h3',h4⟩:=YW hw h
  exact ⟨v,w',by simp only [h1,h2];rfl,h3,h3',h4⟩) h
 have key: ∀u:Option AV,((u.map λv=>(v,w.st)).map λr=>r.2.put o.dst r.1)=some w'.st-> ∃v,u=some v/\w'.st=w.st.put o.dst v:=by
  intro u hu
  cases u with
  |none=>cases hu
  |some v=>injection hu with hu;exact ⟨v,rfl,hu.symm⟩
 unfold Xl
 split at h1
 ·rename_i hg
  obtain ⟨v,h4,h5⟩:=key _ h1
  exact ⟨v,w',by rw [hg];exact h4,h5,h2,h3⟩
 ·rename_i j want hg
  rw [hg]
  split at h1
  ·rename_i b hb
   simp only [hb]
   split at h1
   ·rename_i LO
    obtain ⟨v,h4,h5⟩:=key _ h1
    exact ⟨v,w',by rw [Ab LO];exact h4,h5,h2,h3⟩
   ·rename_i LO
    injection h1 with h1
    exact ⟨_,w',by rw [Ak LO],h1.symm,h2,h3⟩
  ·rename_i hb
   simp only [hb]
   injection h1 with h1
   exact ⟨_,w',rfl,h1.symm,h2,h3⟩
  ·cases h1
theorem u6 {ops:Array Oper} : ∀(l:List Oper) {w:WS} (_:w.OK) {K:WS->Prop},Ajy T Γ ops l w K-> ∃w',aO T Γ ops l w.st=some w'.st/\w'.OK/\K w'
 | [],w,hw,K,h=>⟨w,rfl,hw,h⟩
 |o::r,w,hw,K,h=>by
  obtain ⟨w1,h1,h2,h3⟩:=cg hw h
  obtain ⟨w2,h4,h5⟩:=u6 r h2 h3
  exact ⟨w2,by simp only [aO];rw [h1];exact h4,h5⟩
theorem fu {ops:Array Oper} : ∀(l:List Nat) {w:WS} (_:w.OK) {K:WS->Prop},Aad T Γ ops l w K-> ∃w',Mx T Γ ops l w.st=some w'.st/\w'.OK/\K w'
 | [],w,hw,K,h=>⟨w,rfl,hw,h⟩
 |i::r,w,hw,K,h=>by
  obtain ⟨o,h0,h⟩:=Cc.1 h
  obtain ⟨w1,h1,h2,h3⟩:=cg hw h
  obtain ⟨w2,h4,h5⟩:=fu r h2 h3
  exact ⟨w2,by simp only [Mx];rw [h0];simp only [h1];exact h4,h5⟩
theorem Nq {ops:Array Oper} : ∀(l:List Nat) {w:WS} (_:w.OK) {K:WS->Prop},kV T Γ ops l w K-> ∃w',Gj T Γ ops l w.st=some w'.st/\w'.OK/\K w'
 | [],w,hw,K,h=>⟨w,rfl,hw,h⟩
 |i::r,w,hw,K,h=>by
  obtain ⟨o,h0,h⟩:=Cc.1 h
  obtain ⟨v,w1,h1,h1',h2,h3⟩:=Afj hw h
  obtain ⟨w2,h4,h5⟩:=Nq r h2 h3
  exact ⟨w2,by simp only [Gj];rw [h0];simp only [h1];rw [<-h1'];exact h4,h5⟩
theorem mL {P:Nat->Prop} : ∀(l:List Nat),YT l P-> ∀i∈l,P i
 | [],_,i,hi=>by cases hi
 | [k],h,i,hi=>by rw [Ad.1 hi];exact h
 |k::j::r,h,i,hi=>by
  rcases Be.1 hi with rfl|hi
  ·exact h.1
  ·exact mL (j::r) h.2 i hi
theorem lN {ops:Array Oper} {K:WS->Prop} : ∀(f:Nat) (Ah:Array Bool) {w:WS} (_:w.OK),TE T Γ ops f Ah w K->anyS T Γ ops (λs=> ∃w':WS,w'.st=s/\w'.OK/\K w') f Ah w.st
 |0,Ah,w,hw,h=>by
  unfold TE at h
  split at h
  ·rename_i hr;exact ⟨hr,w,rfl,hw,h⟩
  ·cases h
 |f+1,Ah,w,hw,h=>by
  unfold TE at h
  split at h
  ·cases h
  ·rename_i i r hr
   refine ⟨by rw [hr];simp,λk hk=>?_⟩
   rw [hr] at hk
   obtain ⟨o,h0,h1⟩:=Cc.1 (mL _ h k hk)
   obtain ⟨w1,h2,h3,h4⟩:=cg hw h1
   exact ⟨o,w1.st,h0,h2,lN f _ h3 h4⟩
theorem dL: ∀(l:List Oper) (d:Nat),d∈Ks l-> ∃o∈l,o.dst=some d
 | [],d,h=>by simp [Ks] at h
 |o::r,d,h=>by
  simp only [Ks] at h
  cases ho:o.dst with
  |none=>
   rw [ho] at h
   obtain ⟨o',h1,h2⟩:=dL r d (by simpa using h)
   exact ⟨o',Aq _ h1,h2⟩
  |some e=>
   rw [ho] at h
   rcases Be.1 (by simpa using h) with h|h
   ·exact ⟨o,by simp,by rw [ho,h]⟩
   ·obtain ⟨o',h1,h2⟩:=dL r d h
    exact ⟨o',Aq _ h1,h2⟩
theorem nk {ops:Array Oper} {K:WS->Prop} : ∀(f:Nat) (Ah:Array Bool) {w:WS} (_:w.OK),bM T Γ ops f Ah w K-> ∃w':WS,Fw (λt=>Sv ops t=true) w.st w'.st/\w'.OK/\K w'
 |0,Ah,w,hw,h=>by
  simp only [bM] at h
  split at h
  ·exact ⟨w,λ_ _ _ _ _ hx=>hx,hw,h⟩
  ·exact h.elim
 |f+1,Ah,w,hw,h=>by
  simp only [bM] at h
  split at h
  ·exact h.elim
  ·obtain ⟨o,ho,h1⟩:=Cc.1 h
   obtain ⟨w',h2,h3,h4⟩:=cg hw h1
   obtain ⟨w2,g1,g2⟩:=nk f _ h3 h4
   refine ⟨w2,((bK h2).mono λt ht hd=>?_).trans g1,g2⟩
   unfold Sv Zd at ht
   have:(ops.toList.any λo=>o.dst==some t)=true:=Ey.2 ⟨o,po ho,by rw [hd];exact beq_self_eq_true _⟩
   rw [this] at ht
   cases ht
theorem mo (p:Nat->Bool): ∀(i:Nat) (l0 l1:List AV),(∀t,(l0.getD t .undef).Yj=true->p (i+t)=true->l1.getD t .undef=l0.getD t .undef)->
  Vm (Kp p i l0) l0 (Ua (Kp p i l0) l1)=l1
 |_,[],l1,_=>by simp [Kp,Ua,Vm]
 |i,a::r,[],_=>by
  simp only [Kp]
  cases (a.Yj&&p i)<;>simp [Ua,Vm]
 |i,a::r,b::s,h=>by
  have hr:=mo p (i+1) r s λt h1 h2=>by
   have:=h (t+1) (by simpa using h1) (by rw [show i+(t+1)=i+1+t by omega];exact h2)
   simpa using this
  simp only [Kp]
  cases hc:(a.Yj&&p i) with
  |false=>simp only [Ua,Vm];rw [hr]
  |true=>
   simp only [Ua,Vm]
   rw [hr]
   simp only [Ag] at hc
   have:=h 0 (by simpa using hc.1) hc.2
   simp only [Xr] at this
   rw [this]
theorem fD: ∀(f:List Bool) (l:List AV),(Ua f l).length=l.length
 | [],l=>by simp [Ua]
 |true::f,[]=>by simp [Ua]
 |false::f,[]=>by simp [Ua]
 |true::f,a::l=>by simp [Ua,fD f l]
 |false::f,a::l=>by simp [Ua,fD f l]
theorem TQ {p:Nat->Bool} {w1 s0 s:St} (h1:Fw (λt=>p t=true) w1 s0) (h2:Fw (λt=>p t=true) w1 s) (h:eqM (Kp p 0 w1.tmps) s0 s):s=s0:=by
 have e:=eb h
 simp only [St.mask,St.mk.injEq] at e
 have key: ∀ {a:St},Fw (λt=>p t=true) w1 a->Vm (Kp p 0 w1.tmps) w1.tmps (Ua (Kp p 0 w1.tmps) a.tmps)=a.tmps:= λ {a} ha=>mo p 0 _ _ λt ht hp=>by
  rw [Bo] at hp
  cases hc:w1.tmps.getD t .undef with
  | «at»c=>
   cases c with
   |data fr τ x=>exact ha t fr τ x hp hc
   |_=>rw [hc] at ht;cases ht
  |_=>rw [hc] at ht;cases ht
 have e1:=key h1
 have e2:=key h2
 rw [e.1,e1] at e2
 obtain ⟨_,e4⟩:=e
 cases s;cases s0
 simp only at e2 e4
 rw [e4,e2]
theorem aQ {ops:Array Oper} {K:WS->Prop} : ∀(f:Nat) (Ah:Array Bool) {w:WS} (_:w.OK),bM T Γ ops f Ah w K-> ∃w':WS,w'.OK/\K w'
 |0,Ah,w,hw,h=>by
  simp only [bM] at h
  split at h
  ·exact ⟨w,hw,h⟩
  ·exact h.elim
 |f+1,Ah,w,hw,h=>by
  simp only [bM] at h
  split at h
  ·exact h.elim
  ·obtain ⟨o,ho,h1⟩:=Cc.1 h
   obtain ⟨w',h2,h3,h4⟩:=cg hw h1
   exact aQ f _ h3 h4
theorem pX {P:List (Nat×Nat×AV×OB)} {ops:Array Oper} {K:WS->Prop} : ∀(f:Nat) (Ah:Array Bool) {w:WS} (_:w.OK),DQ T Γ P ops f Ah w K->Ai0 T Γ ops P (λs=> ∃w':WS,w'.st=s/\w'.OK/\K w') f Ah w.st
 |0,Ah,w,hw,h=>by
  unfold DQ at h
  split at h
  ·rename_i hr;exact ⟨hr,w,rfl,hw,h⟩
  ·cases h
 |f+1,Ah,w,hw,h=>by
  unfold DQ at h
  split at h
  ·cases h
  ·rename_i i r hr
   refine ⟨by rw [hr];simp,λk hk=>?_⟩
   rw [hr] at hk
   obtain ⟨o,h0,h1⟩:=Cc.1 (mL _ h k hk)
   split at h1
   ·rename_i l4
    obtain ⟨w1,h2,h3,h4⟩:=cg hw h1
    exact ⟨o,w1.st,h0,l4,h2,pX f _ h3 h4⟩
   ·cases h1
theorem HB {α:Type} (f:α->Nat) {l:List α} (h:ao (l.map f)=true):l.Pairwise λa c=>f a≠f c:=List.pairwise_map.1 (Yl h)
theorem de {ops:Array Oper} {E:List Nat} {Ah:Array Bool} {w:WS} (hw:w.OK): ∀(R:List Nat) {K:Prop},yE T Γ ops E Ah w R K->K/\ ∀r∈R,rZ ops E Ah r=true\/ ∃o v,ops[r]?=some o/\Xl T Γ ops w.st o=some v/\ ∀d,o.dst=some d->w.st.get d=v
 | [],K,h=>⟨h,λr hr=>by cases hr⟩
 |r::R,K,h=>by
  unfold yE at h
  split at h
  ·rename_i hwt
   obtain ⟨h1,h2⟩:=de hw R h
   refine ⟨h1,λq hq=>?_⟩
   rcases Be.1 hq with rfl|hq
   ·exact .inl hwt
   ·exact h2 q hq
  ·obtain ⟨h0,h⟩:=h
   obtain ⟨h1,h2⟩:=de hw R h
   refine ⟨h1,λq hq=>?_⟩
   rcases Be.1 hq with rfl|hq
   ·refine .inr ?_
    obtain ⟨w',g1,_,g3⟩:=Nq _ hw h0
    obtain ⟨d,hd,g4⟩:=Cc.1 g3
    simp only [Gj] at g1
    split at g1
    ·cases g1
    rename_i o ho
    split at g1
    rotate_left
    ·cases g1
    rename_i v hv
    refine ⟨o,v,ho,hv,λd' KA=>?_⟩
    rw [ho] at hd
    have hdd:o.dst=some d:=hd
    rw [KA] at hdd
    cases hdd
    split at g4
    ·rename_i hl
     have e:=eb g4
     have e1:w'.st.get d=w.st.get d:=by
      have:=Fq (λs:St=>s.tmps) e
      simpa using this
     rw [<-e1]
     have e2:w.st.put o.dst v=w'.st:=Bd g1
     rw [<-e2,show o.dst=some d from hd]
     show (Sr w.st.tmps d v).getD d .undef=v
     rw [Qu,Ab ⟨rfl,by simpa [Nf] using hl⟩]
    ·cases g4
   ·exact h2 q hq
theorem cB {ops:Array Oper} {E:List Nat} {K:WS->Prop} : ∀(f:Nat) (Ah:Array Bool) {w:WS} (_:w.OK),sl T Γ ops E f Ah w K->r7 T Γ ops E (λs=> ∃w':WS,w'.st=s/\w'.OK/\K w') f Ah w.st
 |0,Ah,w,hw,h=>by
  unfold sl at h
  obtain ⟨h,hs⟩:=de hw _ h
  split at h
  ·rename_i hr;exact ⟨hs,hr,w,rfl,hw,h⟩
  ·cases h
 |f+1,Ah,w,hw,h=>by
  unfold sl at h
  obtain ⟨h,hs⟩:=de hw _ h
  split at h
  ·cases h
  ·rename_i i r hr
   refine ⟨hs,by rw [hr];simp,λk hk=>?_⟩
   rw [hr] at hk
   obtain ⟨o,h0,h1⟩:=Cc.1 (mL _ h k hk)
   obtain ⟨w1,h2,h3,h4⟩:=cg hw h1
   exact ⟨o,w1.st,h0,h2,cB f _ h3 h4⟩
theorem AS {ops:Array Oper} {E:List Nat} {L0:Array Bool} {n:Nat} {w:WS} (hw:w.OK) {K:WS->Prop} (h:OE T Γ E n L0 ops w K):Adv T Γ ops (λs=> ∃w':WS,w'.st=s/\w'.OK/\K w') n L0 w.st:=by
 unfold OE at h
 split at h
 ·rename_i hb
  simp only [Ag] at hb
  obtain ⟨b1,b2,b3⟩:=hb
  obtain ⟨w1,h1,h2,h3⟩:=Nq _ hw h
  have h3:=Oa.1 h3
  obtain ⟨w0,g1,g2⟩:=aQ _ _ h2 h3
  obtain ⟨g3,g4⟩:=Oa.1 g2
  refine ⟨E,w1.st,b1,Nat.le_of_ble_eq_true b2,h1,bd (λs hs=>?_) _ _ _ (cB _ _ h2 g4)⟩
  obtain ⟨w',h5,_,h6⟩:=hs
  exact ⟨w0,((h5.symm.trans (eb (Oa.1 h6))).symm),g1,g3⟩
 ·cases h
theorem dJ {ops:Array Oper} {t:Nat} :Sv ops t=true->t∉Ks ops.toList:= λh hm=>by
 obtain ⟨o,ho,hd⟩:=dL _ _ hm
 unfold Sv Zd at h
 have:(ops.toList.any λo=>o.dst==some t)=true:=Ey.2 ⟨o,ho,by rw [hd];exact beq_self_eq_true _⟩
 rw [this] at h
 cases h
theorem DR {ops:Array Oper} {E:List Nat} {K:St->Prop} (s0:St) (f:Nat) (Ah:Array Bool) (st:St) (hk:Fw (λt=>Sv ops t=true) s0 st) (h:r7 T Γ ops E K f Ah st):
  r7 T Γ ops E (λs=>K s/\Fw (λt=>Sv ops t=true) s0 s) f Ah st:=by
 have h1:=lM (draw:=true) st f Ah st (λ_ _ _ _ _ hx=>hx) h
 exact bd (λs hs=>⟨hs.1,hk.trans (hs.2.mono λt ht=>dJ ht)⟩) _ _ _ h1
theorem WS.OK.Qk {w:WS} (hw:w.OK) (dead:List Nat):(w.Qk dead).OK:=by
 intro t b hb
 have key: ∀(l:List (Nat×Bool)),nK (l.filter λp=>!dead.contains p.1) t=some b->dead.contains t=false/\nK l t=some b:=by
  intro l
  induction l with
  |nil=>intro h;cases h
  |cons q r ih=>
   intro h
   obtain ⟨k,c⟩:=q
   by_cases hk:dead.contains k=true
   ·rw [List.filter_cons_of_neg (by rw [hk];decide)] at h
    obtain ⟨h1,h2⟩:=ih h
    refine ⟨h1,?_⟩
    unfold nK
    rw [Ak (λe=>by subst e;rw [h1] at hk;cases hk)]
    exact h2
   ·have hk:dead.contains k=false:=by simpa using hk
    rw [List.filter_cons_of_pos (by rw [hk];rfl)] at h
    unfold nK at h⊢
    split at h
    ·rename_i e
     subst e
     rw [Ab rfl]
     exact ⟨hk,h⟩
    ·rename_i e
     rw [Ak e]
     exact ih h
 obtain ⟨h1,h2⟩:=key _ hb
 obtain ⟨fr,h3⟩:=hw t b h2
 refine ⟨fr,?_⟩
 show (w.st.Qk dead).get t=_
 unfold St.Qk
 refine Uj _ _ t fr _ _ ?_
 show (Iq _ 0 w.st.tmps).getD t .undef=_
 rw [Wc _ 0 w.st.tmps t ?_]
 ·exact h3
 ·refine Bt.2 ⟨Eu.2 ?_,by rw [Bo,h1];rfl⟩
  refine Bk λhn=>?_
  have:w.st.get t= .undef:=by
   unfold St.get
   rw [Ai,Dz (by omega)];rfl
  rw [h3] at this
  cases this
theorem HE {ops:Array Oper} {dead E:List Nat} (b3:dead.all (Zd ops)=true) {L0:Array Bool} {n:Nat} {w:WS} (hw:w.OK) {K:WS->Prop} (h:Ab5 T Γ dead E n L0 ops w K):Adv T Γ ops (λs=> ∃w':WS,w'.st=s.Qk dead/\w'.OK/\K w') n L0 w.st:=by
 unfold Ab5 at h
 split at h
 ·rename_i hb
  simp only [Ag] at hb
  obtain ⟨b1,b2⟩:=hb
  obtain ⟨w1,h1,h2,h3⟩:=Nq _ hw h
  have h3:=Oa.1 h3
  refine ⟨E,w1.st,b1,Nat.le_of_ble_eq_true b2,h1,?_⟩
  split at h3
  ·refine bd (λs hs=>?_) _ _ _ (cB _ _ h2 h3)
   obtain ⟨w',h5,h6,h7⟩:=hs
   exact ⟨w'.Qk dead,by rw [<-h5];rfl,h6.Qk _,h7⟩
  ·rw [fo] at h3
   obtain ⟨w0,g0,g1,g2⟩:=nk _ _ h2 h3
   obtain ⟨g3,g4⟩:=Oa.1 g2
   refine bd (λs hs=>?_) _ _ _ (DR w1.st _ _ _ (λ_ _ _ _ _ hx=>hx) (cB _ _ h2 g4))
   obtain ⟨⟨w',h5,_,h6⟩,h7⟩:=hs
   have h6:=Oa.1 h6
   have k1:Fw (λt=>Sv ops t=true) w1.st (w0.Qk dead).st:=g0.trans ((iZ b3 w0.st).mono λt ht=>dJ ht)
   have k2:Fw (λt=>Sv ops t=true) w1.st (w'.Qk dead).st:=by
    show Fw _ w1.st (w'.st.Qk dead)
    rw [h5]
    exact h7.trans ((iZ b3 s).mono λt ht=>dJ ht)
   have e:=TQ k1 k2 h6
   refine ⟨w0.Qk dead,?_,g1.Qk _,g3⟩
   rw [<-e,<-h5]
   rfl
 ·cases h
theorem vQ {ops:Array Oper} {L0:Array Bool} {n:Nat} {w:WS} (hw:w.OK) {K:WS->Prop} (hc:Uf ops L0) (h:yY T Γ (Zr T ops L0) n L0 ops w K):anyS T Γ ops (λs=> ∃w':WS,w'.st=s/\w'.OK/\K w') n L0 w.st\/Adv T Γ ops (λs=> ∃w':WS,w'.st=s/\w'.OK/\K w') n L0 w.st:=by
 unfold yY at h
 split at h
 ·rename_i hb
  simp only [Ag] at hb
  obtain ⟨⟨b1,b2⟩,b3,b4,b5⟩:=hb
  have hm: ∀a∈Zr T ops L0,a.1∈Region.ready .any ops L0/\ ∃o,ops[a.1]?=some o/\fa T o=some a.2:= λa ha=>yS ha
  have p1:=HB (λa:Nat×Nat×AV×OB=>a.1) b1
  have p2:=HB (λa:Nat×Nat×AV×OB=>a.2.1) b2
  have hlen:(Zr T ops L0).length<=n:=Nat.le_of_ble_eq_true b4
  obtain ⟨w1,h1,h2,h3⟩:=fu _ hw h
  have h3:=Oa.1 h3
  obtain ⟨w0,g1,g2⟩:=aQ _ _ h2 h3
  obtain ⟨g3,g4⟩:=Oa.1 g2
  have hp:=HU (Γ:=Γ) _ w.st w1.st (λa ha=>(hm a ha).2) (λa ha=>tY (Bf.1 b3 a ha)) p2 h1
  refine .inl (jN (λs hs=>?_) _ _ _ (TD (λa ha=>(hm a ha).2) n (n-(Zr T ops L0).length) (Zr T ops L0) _ L0 w1.st w.st (by omega) (pX _ _ h2 g4) hp
   (Ady (ops:=ops) λi hi=>by obtain ⟨a,ha,rfl⟩:=Bg.1 hi;exact (hm a ha).1) (λa ha=>ha) (p2.and p1) hc λa ha x hx=>cW (hm a ha).1 hx))
  obtain ⟨w',h5,_,h6⟩:=hs
  exact ⟨w0,((h5.symm.trans (eb h6)).symm),g1,g3⟩
 ·exact .inr (AS hw h)
theorem lh {ops:Array Oper} {draw:Bool} {w:WS} (hw:w.OK) {K:WS->Prop} (h:rW T Γ ops draw w K):kK T Γ ops draw w.st (λs=> ∃w':WS,w'.st=s/\w'.OK/\K w'):=by
 unfold rW at h
 split at h
 ·split at h
  ·rename_i ho
   obtain ⟨w1,h1,h2,h3⟩:=Nq _ hw h
   obtain ⟨w2,h4,h5⟩:=fu _ h2 h3
   exact .inl ⟨w2.st,by simp only [Ru,Ph];rw [Ab ho,h1];exact h4,w2,rfl,h5⟩
  ·rename_i ho
   split at h
   ·rename_i ho2
    obtain ⟨w1,h1,h2,h3⟩:=Nq _ hw h
    obtain ⟨w2,h4,h5⟩:=fu _ h2 h3
    exact .inl ⟨w2.st,by simp only [Ru,Ph];rw [Ak (by rw [ho];decide),Ab ho2,h1];exact h4,w2,rfl,h5⟩
   ·split at h
    ·rename_i hc
     simp only [Ag] at hc
     obtain ⟨w1,h1,h2,h3⟩:=Nq _ hw h
     split at h3
     ·exact .inr ⟨rfl,hc.1,w1.st,h1, .inl (lN _ _ h2 h3)⟩
     ·obtain ⟨w0,g1,g2⟩:=aQ _ _ h2 h3
      obtain ⟨g3,g4⟩:=Oa.1 g2
      exact .inr ⟨rfl,hc.1,w1.st,h1, .inl (jN (λs hs=>by
       obtain ⟨w',h5,_,h6⟩:=hs
       exact ⟨w0,((h5.symm.trans (eb h6)).symm),g1,g3⟩) _ _ _ (lN _ _ h2 g4))⟩
    ·split at h
     ·rename_i RS
      obtain ⟨w1,h1,h2,h3⟩:=Nq _ hw h
      exact .inr ⟨rfl,RS,w1.st,h1,vQ h2 (aM _ _ _ q8) h3⟩
     ·cases h
 ·obtain ⟨w1,h1,h2⟩:=u6 _ hw h
  exact .inl ⟨w1.st,by simp only [Ru];rw [Ak (by simp)];exact h1,w1,rfl,h2⟩
theorem wF {ops:Array Oper} {draw:Bool} {w:WS} (hw:w.OK) {K:WS->Prop} (h:AW T Γ ops draw w K):yN T Γ ops draw w.st (λs=> ∃w':WS,w'.st=s/\w'.OK/\K w'):=by
 unfold AW at h
 split at h
 ·rename_i hb
  have b3:=(Bc.1 hb).2
  refine .inr ⟨vA ops,b3,?_⟩
  split at h
  ·rename_i hc
   simp only [Ag,Ab4] at hc
   obtain ⟨w1,h1,h2,h3⟩:=Nq _ hw h
   exact .inr ⟨hc.1,hc.2.2.1,w1.st,h1, .inr (HE b3 h2 h3)⟩
  ·exact (lh hw h).mono λs ⟨w',h1,h2,h3⟩=>⟨w'.Qk (vA ops),by rw [<-h1];rfl,h2.Qk _,h3⟩
 ·exact .inl (lh hw h)
end
end Go.Proofs.YtkkdpknjohcekaaGreat
