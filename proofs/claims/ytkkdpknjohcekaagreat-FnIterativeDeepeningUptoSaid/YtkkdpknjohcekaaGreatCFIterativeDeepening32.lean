/-
  Part 33 of the proof that the statement FnIterativeDeepening holds.
-/
import Derived.Test.YtkkdpknjohcekaaGreatCFIterativeDeepening31
namespace Go.Proofs.YtkkdpknjohcekaaGreat
open Go.RowKit
section
variable {T:Tab} {Γ:Env}
def WS.OK (w:WS):Prop:= ∀t b,nG w.kn t=some b-> ∃fr,w.st.get t= .at (.data fr .bool b)
theorem m8: ∀(l:List (Nat×Bool)) (d t:Nat) (b:Bool),nG (xm l d) t=some b->t≠d/\nG l t=some b
 | [],_,_,_,h=>by cases h
 |(k,c)::r,d,t,b,h=>by
  simp only [xm] at h
  split at h
  ·rename_i hk
   have:=m8 r d t b h
   refine ⟨this.1,?_⟩
   simp only [nG]
   rw [Ai (by rw [hk];exact λh=>this.1 h.symm)]
   exact this.2
  ·rename_i hk
   simp only [nG] at h⊢
   split at h
   ·rename_i hkt
    exact ⟨by rw [<-hkt];exact hk,by rw [Ab hkt];exact h⟩
   ·rename_i hkt
    rw [Ai hkt]
    exact m8 r d t b h
theorem WS.OK.put {w:WS} (h:w.OK) (dst:Option Tmp) (v:AV):(w.put dst v).OK:=by
 cases dst with
 |none=>exact h
 |some d=>
  intro t b hb
  obtain ⟨h1,h2⟩:=m8 _ _ _ _ hb
  obtain ⟨fr,h3⟩:=h t b h2
  exact ⟨fr,by show (w.st.put (some d) v).get t=_;rw [bL _ _ h1];exact h3⟩
theorem WS.ud (w:WS) (dst:Option Tmp) (v:AV):(w.put dst v).st=w.st.put dst v:=by cases dst<;>rfl
theorem WS.OK.to {w:WS} (h:w.OK) {s:St} (hs:Ci w.st s):(w.to s).OK:=by
 intro t b hb
 obtain ⟨fr,h3⟩:=h t b hb
 exact ⟨fr,hs t fr _ _ h3⟩
theorem wY {w:WS} (hw:w.OK) {t:Nat} {K:Bool->WS->Prop} (h:brT w t K):
  ∃fr b w',w.st.get t= .at (.data fr .bool b)/\w'.st=w.st/\w'.OK/\K b w':=by
 unfold brT at h
 split at h
 ·rename_i b hb
  obtain ⟨fr,h1⟩:=hw t b hb
  exact ⟨fr,b,w,h1,rfl,hw,h⟩
 ·split at h
  ·rename_i fr b hb
   obtain ⟨h1,h2⟩:=h
   have ok: ∀c:Bool,b=c->WS.OK {kn:=(t,c)::w.kn,st:=w.st} :=by
    intro c hc t' b' h'
    simp only [nG] at h'
    split at h'
    ·rename_i ht
     injection h' with h'
     exact ⟨fr,by rw [<-ht,<-h',<-hc];exact hb⟩
    ·exact hw t' b' h'
   cases b with
   |true=>exact ⟨fr,true, {kn:=(t,true)::w.kn,st:=w.st},hb,rfl,ok true rfl,h1 rfl⟩
   |false=>exact ⟨fr,false, {kn:=(t,false)::w.kn,st:=w.st},hb,rfl,ok false rfl,h2 rfl⟩
  ·cases h
theorem wX {w:WS} (hw:w.OK) {c:Operand} {K:Bool->WS->Prop} (h:brO w c K):
  ∃fr b w',w.st.ev c= .at (.data fr .bool b)/\w'.st=w.st/\w'.OK/\K b w':=by
 unfold brO at h
 split at h
 ·exact wY hw h
 ·exact ⟨true,_,w,rfl,rfl,hw,h⟩
 ·cases h
theorem IQ {op:BinOp} {t:TypeId} {x y:AV} {K:AV->Prop} (h:Agp T op t x y K): ∃v,Uf T op t x y=some v/\K v:=by
 unfold Agp at h
 split at h
 ·split at h
  ·rename_i hk
   exact ⟨_,by simp only [Uf,evalBin,tq];rw [Ab hk,Ai h.1];rfl,h.2⟩
  ·cases h
 ·split at h
  ·rename_i hk
   exact ⟨_,by simp only [Uf,evalBin,tq];rw [Ab hk,Ai h.1];rfl,h.2⟩
  ·cases h
 ·exact ⟨_,by simp only [Uf,evalBin];rw [Ai h.1];rfl,h.2⟩
 ·exact ⟨_,by simp only [Uf,evalBin];rw [Ai h.1];rfl,h.2⟩
 ·exact ⟨_,by simp only [Uf,evalBin];rw [Ab h.1],h.2⟩
 ·exact Bx.1 h
theorem EL {st:St} {t:TypeId} {p:AV} {K:AV->Prop} (h:ZL T st t p K): ∃v,Qr T st t p=some v/\K v:=by
 unfold ZL at h
 split at h
 ·obtain ⟨τ,h1,h2⟩:=Bx.1 h
  split at h2
  ·rename_i hb
   split at h2
   ·rename_i he
    obtain ⟨x,h3,h4⟩:=h2
    exact ⟨_,by simp only [Qr,h1,hb,Ab he,h3];rfl,h4⟩
   ·cases h2
  ·rename_i hb
   split at h2
   ·rename_i he
    obtain ⟨x,h3,h4⟩:=h2
    exact ⟨_,by simp only [Qr,h1,hb,Ab he,h3];rfl,h4⟩
   ·cases h2
  ·rename_i hb
   split at h2
   ·cases h2
   ·rename_i he
    exact ⟨_,by simp only [Qr,h1,hb,Ai he],h2⟩
  ·cases h2
 ·obtain ⟨τ,h1,h2⟩:=Bx.1 h
  split at h2
  ·rename_i he
   obtain ⟨y,h3,h4⟩:=h2
   subst h3
   exact ⟨_,by simp only [Qr,h1,Ab he],h4⟩
  ·cases h2
 ·exact Bx.1 h
theorem oV {s:TypeId} {x:AV} {f:Nat} {K:AV->Prop} (h:lT T s x f K): ∃v,Oj T s x f=some v/\K v:=by
 unfold lT at h
 split at h
 ·obtain ⟨y,h1,h2⟩:=h
  subst h1
  obtain ⟨v,h3,h4⟩:=Bx.1 h2
  refine ⟨v,?_,h4⟩
  rw [<-h3]
  unfold Oj
  cases T.off s f<;>rfl
 ·exact Bx.1 h
theorem zS {st:St} {t:TypeId} {x:AV} {lo hi:Option AV} {K:AV->Prop} (h:MK T st t x lo hi K): ∃v,dX T st t x lo hi=some v/\K v:=by
 unfold MK at h
 obtain ⟨n,h1,h⟩:=Bx.1 h
 obtain ⟨l,h2,h⟩:=Bx.1 h
 obtain ⟨hh,h3,hc,h⟩:=Bx.1 h
 obtain ⟨v,h4,h5⟩:=Bx.1 h
 refine ⟨v,?_,h5⟩
 simp only [dX,h1,h2,h3,Ab hc]
 exact h4
theorem pb {st:St} {t:TypeId} {x i:AV} {K:AV->Prop} (h:m5 T st t x i K): ∃v,Lh T st t x i=some v/\K v:=by
 unfold m5 at h
 split at h
 ·split at h
  ·rename_i he
   obtain ⟨x,h3,h4⟩:=h
   exact ⟨_,by simp only [Lh,Ab he,h3];rfl,h4⟩
  ·cases h
 ·split at h
  ·rename_i hb
   split at h
   ·rename_i he
    obtain ⟨h3,h4⟩:=h
    exact ⟨_,by simp only [Lh,hb];rw [Ab ⟨he.1,he.2,Um.2 h3⟩],h4⟩
   ·cases h
  ·rename_i hb
   split at h
   ·rename_i he
    obtain ⟨h3,h4⟩:=h
    exact ⟨_,by simp only [Lh,hb];rw [Ab ⟨he.1,he.2,Um.2 h3⟩],h4⟩
   ·cases h
  ·rename_i hb
   split at h
   ·rename_i he
    obtain ⟨h3,h4⟩:=h
    exact ⟨_,by simp only [Lh,hb];rw [Ab ⟨he.1,he.2,Um.2 h3⟩],h4⟩
   ·cases h
  ·cases h
 ·split at h
  ·rename_i hb
   split at h
   ·rename_i he
    obtain ⟨h3,h4⟩:=h
    exact ⟨_,by simp only [Lh,hb];rw [Ab ⟨he,Um.2 h3⟩],h4⟩
   ·cases h
  ·cases h
 ·cases h
theorem yW {t:TypeId} {x i:AV} {K:AV->Prop} (h:KA T t x i K): ∃v,jM T t x i=some v/\K v:=by
 unfold KA at h
 split at h
 ·split at h
  ·rename_i he
   obtain ⟨h1,b,h3,h4⟩:=h
   exact ⟨_,by simp only [jM,Ab he,Ab h1,h3];rfl,h4⟩
  ·cases h
 ·cases h
theorem cB {st:St} {f:FuncId} {args:List AV} {K:AV->Prop} (h:wZ Γ st f args K): ∃v,Pf Γ st f args=some v/\K v:=by
 unfold wZ at h
 obtain ⟨s,h1,h⟩:=Bx.1 h
 have h1:Γ f=some (.q s):=by
  split at h1
  ·rename_i s' hs;injection h1 with h1;rw [hs,h1]
  ·cases h1
 split at h
 ·rename_i hf
  obtain ⟨p,h2,y,h3,h4⟩:=Bx.1 h
  refine ⟨_,?_,h4⟩
  simp only [Pf,h1]
  rw [Ab hf,h2]
  simp only [h3]
  rfl
 ·cases h
theorem yu {st:St} {v:AV} {args:List AV} {K:AV->Prop} (h:IV Γ st v args K): ∃u,Ya Γ st v args=some u/\K u:=by
 unfold IV at h
 split at h
 ·split at h
  ·rename_i hc
   split at h
   ·rename_i hf
    obtain ⟨u,h1,h2⟩:=cB h
    exact ⟨u,by simp only [Ya];rw [Ab hc,Ab (by simpa using hf)];exact h1,h2⟩
   ·rename_i hf
    obtain ⟨u,h1,h2⟩:=cB h
    exact ⟨u,by simp only [Ya];rw [Ab hc,Ai (λhx=>by rw [show Nat.blt _ 1000000000=true from by simpa using hx] at hf;cases hf)];exact h1,h2⟩
  ·cases h
 ·exact cB h
 ·cases h
theorem Qc {w:WS} (hw:w.OK) {x:Operand} {b:Bool} (hk:Wq w.kn x=some b): ∃fr,w.st.ev x= .at (.data fr .bool b):=by
 unfold Wq at hk
 split at hk
 ·injection hk with hk;subst hk;exact ⟨true,rfl⟩
 ·exact hw _ _ hk
 ·cases hk
theorem vS {w:WS} (hw:w.OK) {o:Oper} {b:Bool} (hk:Hu w.kn o=some b) {v:AV} (he:Fh T Γ w.st o=some v): ∃fr,v= .at (.data fr .bool b):=by
 unfold Hu at hk
 split at hk
 ·rename_i heq;unfold Fh at he;rw [heq] at he;injection he with he;obtain ⟨fr,h⟩:=Qc hw hk;exact ⟨fr,he.symm.trans h⟩
 ·rename_i heq;unfold Fh at he;rw [heq] at he;injection he with he;obtain ⟨fr,h⟩:=Qc hw hk;exact ⟨fr,he.symm.trans h⟩
 ·rename_i x heq
  cases hx:Wq w.kn x with
  |none=>rw [hx] at hk;cases hk
  |some c=>
   rw [hx] at hk
   injection hk with hk
   obtain ⟨fr,h⟩:=Qc hw hx
   unfold Fh at he;rw [heq] at he
   simp only [h,yE,Pw] at he
   injection he with he
   exact ⟨true,by rw [<-he,<-hk]⟩
 ·rename_i c x y heq
  unfold Fh at he;rw [heq] at he
  split at hk
  ·rename_i hc
   obtain ⟨fr,h⟩:=Qc hw hc
   simp only [h,dW,Py] at he
   injection he with he
   obtain ⟨fr,h⟩:=Qc hw hk
   exact ⟨fr,he.symm.trans h⟩
  ·rename_i hc
   obtain ⟨fr,h⟩:=Qc hw hc
   simp only [h,dW,Cz,Ry] at he
   injection he with he
   obtain ⟨fr,h⟩:=Qc hw hk
   exact ⟨fr,he.symm.trans h⟩
  ·cases hk
 ·cases hk
theorem tV {w:WS} (hw:w.OK) {o:Oper} {x:Operand} (ho:o.op= .assign x) {b:Bool} (hk:Hu w.kn o=some b) {v:AV} {s:St} (he:evalOp T Γ w.st o=some (v,s)): ∃fr,v= .at (.data fr .bool b):=by
 unfold Hu at hk
 rw [ho] at hk
 obtain ⟨fr,h⟩:=Qc hw hk
 unfold evalOp at he;rw [ho] at he
 simp only [h] at he
 injection he with he;injection he with he;exact ⟨fr,he.symm⟩
theorem jc {w:WS} (hw:w.OK) {o:Oper} {K:AV->WS->Prop} (h:qW T Γ w o K):
  ∃v w',Fh T Γ w.st o=some v/\w'.st=w.st/\w'.OK/\(∀b,Hu w'.kn o=some b-> ∃fr,v= .at (.data fr .bool b))/\K v w':=by
 have fin:(∃v w',Fh T Γ w.st o=some v/\w'.st=w.st/\w'.OK/\K v w')-> ∃v w',Fh T Γ w.st o=some v/\w'.st=w.st/\w'.OK/\(∀b,Hu w'.kn o=some b-> ∃fr,v= .at (.data fr .bool b))/\K v w':=by
  rintro ⟨v,w',h1,h2,h3,h4⟩
  exact ⟨v,w',h1,h2,h3,λb hb=>vS h3 hb (by rw [h2];exact h1),h4⟩
 refine fin ?_
 unfold qW at h
 split at h
 ·rename_i c a b heq
  obtain ⟨fr,t,w',h1,h2,h3,h4⟩:=wX hw h
  cases t with
  |true=>exact ⟨_,w',by unfold Fh;rw [heq];simp only [h1,dW,Py];rw [<-h2],h2,h3,h4⟩
  |false=>exact ⟨_,w',by unfold Fh;rw [heq];simp only [h1,dW];rw [<-h2];simp,h2,h3,h4⟩
 ·rename_i heq
  obtain ⟨v,h1,h2⟩:=EL h
  exact ⟨v,w,by unfold Fh;rw [heq];exact h1,rfl,hw,h2⟩
 ·rename_i heq
  obtain ⟨v,h1,h2⟩:=IQ h
  exact ⟨v,w,by unfold Fh;rw [heq];exact h1,rfl,hw,h2⟩
 ·rename_i heq
  split at h
  ·obtain ⟨v,h1,h2⟩:=zS h
   exact ⟨v,w,by unfold Fh;rw [heq];simpa using h1,rfl,hw,h2⟩
  ·cases h
 ·rename_i heq
  obtain ⟨v,h1,h2⟩:=pb h
  exact ⟨v,w,by unfold Fh;rw [heq];exact h1,rfl,hw,h2⟩
 ·rename_i heq
  obtain ⟨v,h1,h2⟩:=yW h
  exact ⟨v,w,by unfold Fh;rw [heq];exact h1,rfl,hw,h2⟩
 ·rename_i heq
  obtain ⟨v,h1,h2⟩:=cB h
  exact ⟨v,w,by unfold Fh;rw [heq];exact h1,rfl,hw,h2⟩
 ·rename_i heq
  obtain ⟨v,h1,h2⟩:=yu h
  exact ⟨v,w,by unfold Fh;rw [heq];exact h1,rfl,hw,h2⟩
 ·rename_i heq
  obtain ⟨v,h1,h2⟩:=oV h
  exact ⟨v,w,by unfold Fh;rw [heq];exact h1,rfl,hw,h2⟩
 ·rename_i x heq
  unfold xx at h
  split at h
  ·rename_i fr τ z hx
   obtain ⟨y,h1,h2⟩:=h
   subst h1
   exact ⟨_,w,by unfold Fh;rw [heq];simp only [hx],rfl,hw,h2⟩
  ·obtain ⟨v,h1,h2⟩:=Bx.1 h
   exact ⟨v,w,h1,rfl,hw,h2⟩
 ·obtain ⟨v,h1,h2⟩:=Bx.1 h
  exact ⟨v,w,h1,rfl,hw,h2⟩
theorem AK {st:St} {t:TypeId} {p v:AV} {K:St->Prop} (h:MZ T st t p v K): ∃s,Vg T st t p v=some s/\K s:=by
 unfold MZ at h
 split at h
 ·obtain ⟨τ,h1,h⟩:=Bx.1 h
  obtain ⟨q,h2,h⟩:=Bx.1 h
  split at h
  ·rename_i hb
   obtain ⟨u,h3,h⟩:=Bx.1 h
   split at h
   ·rename_i hc
    obtain ⟨h4,h5⟩:=h
    obtain ⟨q1,q2⟩:=q
    obtain ⟨u1,u2⟩:=u
    exact ⟨_,by simp only [Vg,h1,h2,hb,h3];rw [Js hc,Ab h4],h5⟩
   ·cases h
  ·cases h
 ·exact Bx.1 h
theorem wy {st:St} {t:TypeId} {p v:AV} {K:St->Prop} (h:AG T st t p v K): ∃s,Qe T st t p v=some s/\K s:=by
 unfold AG at h
 unfold Qe
 split at h
 rotate_left
 ·rename_i hg;rw [hg];exact AK h
 rename_i hg
 rw [hg]
 simp only
 unfold QO at h
 split at h
 ·obtain ⟨τ,h1,h⟩:=Bx.1 h
  obtain ⟨q,h2,h⟩:=Bx.1 h
  split at h
  ·rename_i hb
   obtain ⟨u,h3,h⟩:=Bx.1 h
   split at h
   ·rename_i hc
    obtain ⟨q1,q2⟩:=q
    obtain ⟨u1,u2⟩:=u
    exact ⟨_,by simp only [bJ,h1,h2,hb,h3];rw [Js hc],h⟩
   ·cases h
  ·cases h
 ·rename_i l j
  obtain ⟨τ,h1,h⟩:=Bx.1 h
  split at h
  ·rename_i e te rows out kp m off len hl _
   split at h
   ·rename_i fr tr e' tid xs hm
    split at h
    ·rename_i hc
     obtain ⟨h2,h3,h4,h5⟩:=h
     have h4:out=none\/out=some j:=by
      cases out with
      |none=>exact .inl rfl
      |some i=>exact .inr (Gz some h4)
     exact ⟨_,by simp only [bJ,h1,hl,hm];rw [Js ⟨hc.1,hc.2,h2,h3,h4⟩],h5⟩
    ·cases h
   ·cases h
  ·cases h
 ·cases h
theorem Zh {st:St} {d:Nat} {t:TypeId} {x y:Operand} {K:AV->St->Prop} (h:mM T st d t x y K): ∃v s,Oi T st d t x y=some (v,s)/\K v s:=by
 unfold mM at h
 obtain ⟨te,h1,h⟩:=Bx.1 h
 obtain ⟨e,h2,h⟩:=Bx.1 h
 obtain ⟨q,h3,h⟩:=Bx.1 h
 obtain ⟨u,h4,h⟩:=Bx.1 h
 obtain ⟨q1,q2⟩:=q
 obtain ⟨u1,u2⟩:=u
 split at h
 ·rename_i hx
  split at h
  ·rename_i hd
   obtain ⟨h5,h6⟩:=h
   refine ⟨_,_,?_,h6⟩
   simp only [Oi,h1,h2,h3,h4]
   rw [hx]
   simp only
   rw [Ab ⟨h5,by simpa [Ns] using hd⟩]
   simp
  ·cases h
 ·rename_i l off len hx
  split at h
  ·rename_i fr tr e' tid xs hb
   split at h
   ·rename_i hc
    obtain ⟨h5,h6,h7,h8⟩:=h
    refine ⟨_,_,?_,h8⟩
    simp only [Oi,h1,h2,h3,h4]
    rw [hx]
    simp only [hb]
    rw [Js ⟨hc.1,hc.2.1⟩,Ab ⟨h7,by simpa [Ns] using hc.2.2⟩]
    obtain ⟨hc1,hc2,VY⟩:=hc
    subst hc1
    subst h5
    simp only [Fy,h6,Bc,Au]
   ·cases h
  ·cases h
 ·cases h
theorem ss {st:St} {d:Nat} {t:TypeId} {x y:Operand} {K:AV->St->Prop} (h:sr T st d t x y K): ∃v s,Se T st d t x y=some (v,s)/\K v s:=by
 unfold sr at h
 cases x with
 |tmp tx=>
  simp only at h
  unfold Se
  simp only
  cases hg:st.get tx with
  | «at»c=>
   rw [hg] at h
   cases c with
   |sub l i c=>
    simp only at h⊢
    obtain ⟨tid,h1,h⟩:=Bx.1 h
    split at h
    ·rename_i hl
     split at h
     ·rename_i hc
      obtain ⟨v,s,h2,h3⟩:=Zh h
      refine ⟨v,s,?_,h3⟩
      simp only [hl,h1]
      rw [Ab hc]
      exact h2
     ·cases h
    ·cases h
   |_=>exact Zh h
  |_=>rw [hg] at h;exact Zh h
 |_=>exact Zh h
theorem ER {st:St} {d:Nat} {t:TypeId} {l c:AV} {K:AV->St->Prop} (h:ZQ T st d t l c K): ∃v s,bH T st d t l c=some (v,s)/\K v s:=by
 unfold ZQ at h
 split at h
 ·obtain ⟨te,h1,h⟩:=Bx.1 h
  obtain ⟨e,h2,h⟩:=Bx.1 h
  split at h
  ·rename_i hz
   obtain ⟨h3,h4,h5⟩:=h
   refine ⟨_,_,?_,h5⟩
   simp only [Ag] at hz
   simp only [bH,h1,h2]
   rw [Ab ⟨Um.2 (by exact_mod_cast h3),h4,hz.1,by simpa [Ns] using hz.2⟩]
   simp
  ·cases h
 ·cases h
theorem zk {st:St} {d:Nat} {t:TypeId} {l c:AV} {K:AV->St->Prop} (h:KO T st d t l c K): ∃v s,Yb T st d t l c=some (v,s)/\K v s:=by
 unfold KO at h
 unfold Yb
 cases hg:eb T t with
 |none=>rw [hg] at h;exact ER h
 |some p=>
  obtain ⟨te,e⟩:=p
  rw [hg] at h
  simp only at h⊢
  split at h
  ·split at h
   ·rename_i hd
    obtain ⟨h3,h4,h5⟩:=h
    refine ⟨_,_,?_,h5⟩
    simp only
    rw [Ab ⟨Um.2 (by exact_mod_cast h3),h4,by simpa [Ns] using hd⟩]
    simp
   ·cases h
  ·cases h
theorem lM {st:St} {d:Nat} {t:TypeId} {len:Nat} {parts:Array (Nat×Operand)} {K:AV->St->Prop} (h:fa T st d t len parts K): ∃v s,Jt T st d t len parts=some (v,s)/\K v s:=by
 unfold fa at h
 unfold Jt
 cases hg:eb T t with
 |none=>
  rw [hg] at h
  obtain ⟨r,h1,h2⟩:=Bx.1 h
  exact ⟨r.1,r.2,h1,h2⟩
 |some p=>
  obtain ⟨te,e⟩:=p
  rw [hg] at h
  simp only at h⊢
  split at h
  ·rename_i x hp
   split at h
   ·rename_i m off ln hx
    split at h
    ·rename_i hm
     split at h
     ·rename_i hc
      obtain ⟨h1,h2,h3⟩:=h
      refine ⟨_,_,?_,h3⟩
      simp only [hp,hx,hm]
      rw [Js ⟨hc.1,hc.2,h1,h2⟩]
     ·cases h
    ·cases h
   ·cases h
  ·cases h
theorem sv {st:St} {d:Nat} {t:TypeId} {x y:Operand} {K:AV->St->Prop} (h:su T st d t x y K): ∃v s,Sf T st d t x y=some (v,s)/\K v s:=by
 unfold su at h
 unfold Sf
 cases hg:eb T t with
 |none=>rw [hg] at h;exact ss h
 |some p=>
  obtain ⟨te,e⟩:=p
  rw [hg] at h
  simp only at h⊢
  split at h
  ·rename_i l off len m ZW tD hx hy
   split at h
   ·rename_i hl hm
    split at h
    ·rename_i hc
     obtain ⟨h1,h2,h3,h4,h5⟩:=h
     obtain ⟨⟨rfl,rfl⟩,hc⟩:=hc
     refine ⟨_,_,?_,h5⟩
     simp only [hx,hy,hl,hm]
     rw [Js (⟨⟨trivial,trivial⟩,hc,h1,h2,h3,h4⟩)]
     simp
    ·cases h
   ·cases h
  ·cases h
theorem AP {st:St} {io:Bool} {k:Nat} {c:CK} {a:AC} {K:c.den->List (Nat×Loc)->Prop} (h:fY st io k c a K): ∃x t,Mr st io k c a=some (x,t)/\K x t:=by
 cases c with
 |Eh τ=>
  cases a with
  |own l off len=>
   obtain ⟨p,h1,h2⟩:=Bx.1 h
   exact ⟨_,_,by simp only [Mr];rw [h1];rfl,h2⟩
  |clo g Ec=>
   simp only [fY] at h
   split at h
   ·rename_i hc
    obtain ⟨p,h1,h2⟩:=Bx.1 h
    exact ⟨_,_,by simp only [Mr];rw [Ab hc,h1];rfl,h2⟩
   ·cases h
  |Hs l i=>
   simp only [fY] at h
   split at h
   ·rename_i hc
    obtain ⟨p,h1,h2⟩:=Bx.1 h
    exact ⟨_,_,by simp only [Mr];rw [Ab hc,h1];rfl,h2⟩
   ·cases h
  |sub l i c=>
   obtain ⟨p,h1,h2⟩:=Bx.1 h
   exact ⟨_,_,by simp only [Mr];rw [h1];rfl,h2⟩
  |_=>
   simp only [fY] at h
   split at h
   ·rename_i hc
    obtain ⟨p,h1,h2⟩:=Bx.1 h
    exact ⟨_,_,by simp only [Mr];rw [Ab hc,h1];rfl,h2⟩
   ·cases h
 |row e te=>
  cases a<;>simp only [fY] at h<;>first|(cases h;done)|skip
  ·exact ⟨_,_,rfl,h⟩
  ·split at h
   ·rename_i hl
    split at h
    ·rename_i hc
     obtain ⟨h1,h2,h3⟩:=h
     exact ⟨_,_,by simp only [Mr,hl];rw [Js ⟨hc.1,hc.2,h1,h2⟩],h3⟩
    ·cases h
   ·cases h
  ·split at h
   ·rename_i hl
    split at h
    ·rename_i hc
     obtain ⟨y,h1,h2⟩:=h
     exact ⟨_,_,by simp only [Mr,hl];rw [Js hc,h1];rfl,h2⟩
    ·cases h
   ·cases h
 |Ij e te=>
  cases a<;>simp only [fY] at h<;>first|(cases h;done)|skip
  ·exact ⟨_,_,rfl,h⟩
  ·split at h
   ·rename_i hl
    split at h
    ·rename_i hc
     obtain ⟨h1,h2,h3⟩:=h
     exact ⟨_,_,by simp only [Mr,hl];rw [Js ⟨hc.1,hc.2,h1,h2⟩],h3⟩
    ·cases h
   ·cases h
  ·split at h
   ·rename_i hl
    split at h
    ·rename_i hc
     obtain ⟨y,h1,h2⟩:=h
     exact ⟨_,_,by simp only [Mr,hl];rw [Js hc,h1];rfl,h2⟩
    ·cases h
   ·cases h
 |part e te=>
  cases a<;>simp only [fY] at h<;>first|(cases h;done)|skip
  split at h
  ·rename_i hl
   split at h
   ·rename_i hc
    exact ⟨_,_,by simp only [Mr,hl];rw [Js hc],h⟩
   ·cases h
  ·cases h
 |Bn e te kp=>
  cases a<;>simp only [fY] at h<;>first|(cases h;done)|skip
  split at h
  ·rename_i hl
   split at h
   ·rename_i hc
    obtain ⟨h1,h2,h3⟩:=h
    exact ⟨_,_,by simp only [Mr,hl];rw [Js ⟨hc.1,hc.2.1,h1,h2,hc.2.2⟩],h3⟩
   ·cases h
  ·cases h
theorem GF {st:St} {e:Ty} {ys:List e.den} {a:AC} {K:St->Prop} (h:Aah st e ys a K): ∃s,LV st e ys a=some s/\K s:=by
 cases a<;>simp only [Aah] at h<;>first|(cases h;done)|skip
 split at h
 ·rename_i hl
  split at h
  ·rename_i hc
   obtain ⟨h1,h3⟩:=h
   exact ⟨_,by simp only [LV,hl];rw [Js ⟨hc,h1⟩],h3⟩
  ·cases h
 ·cases h
theorem lp {st:St} : ∀(cs:List (Bool×CK)) (k:Nat) (as:List AC) (K:Ins.den cs->List (Nat×Loc)->Prop),AQ st k cs as K-> ∃x t,fZ st k cs as=some (x,t)/\K x t
 | [],_,[],_,h=>⟨_,_,rfl,h⟩
 | [],_,_::_,_,h=>h.elim
 |_::_,_,[],_,h=>h.elim
 |p::r,k,a::as,K,h=>by
  obtain ⟨x,t1,h1,h2⟩:=AP h
  obtain ⟨y,t2,h3,h4⟩:=lp r (k+1) as _ h2
  exact ⟨_,_,by simp only [fZ,h1,h3],h4⟩
theorem qz {st:St} {c:CK} {ys:c.den} {a:AC} {K:St->Prop} (h:qy st c ys a K): ∃s,cy st c ys a=some s/\K s:=by
 cases c with
 |Eh τ=>cases a<;>simp only [qy] at h<;>first|(cases h;done)|exact ⟨_,rfl,h⟩
 |row e te=>
  cases a<;>simp only [qy] at h<;>first|(cases h;done)|skip
  ·exact ⟨_,rfl,h⟩
  ·split at h
   ·rename_i hl
    split at h
    ·rename_i hc
     obtain ⟨h1,h3⟩:=h
     exact ⟨_,by simp only [cy,hl];rw [Js ⟨hc,h1⟩],h3⟩
    ·cases h
   ·cases h
  ·split at h
   ·rename_i hl
    split at h
    ·rename_i hc
     obtain ⟨y,h1,h2,h3⟩:=h
     exact ⟨_,by simp only [cy,hl,Js hc,h1];rw [Ab h2],h3⟩
    ·cases h
   ·cases h
 |Ij e te=>
  cases a<;>simp only [qy] at h<;>first|(cases h;done)|skip
  ·exact ⟨_,rfl,h⟩
  ·split at h
   ·rename_i hl
    split at h
    ·rename_i hc
     obtain ⟨h1,h3⟩:=h
     exact ⟨_,by simp only [cy,hl];rw [Js ⟨hc,h1⟩],h3⟩
    ·cases h
   ·cases h
  ·split at h
   ·rename_i hl
    split at h
    ·rename_i hc
     obtain ⟨y,h1,h2,h3⟩:=h
     exact ⟨_,by simp only [cy,hl,Js hc,h1];rw [Ab h2],h3⟩
    ·cases h
   ·cases h
 |part e te=>cases a<;>simp only [qy] at h<;>first|(cases h;done)|exact ⟨_,rfl,h⟩
 |Bn e te kp=>cases a<;>simp only [qy] at h<;>first|(cases h;done)|exact ⟨_,rfl,h⟩
theorem Qi: ∀(cs:List (Bool×CK)) (o:IOs.den cs) (as:List AC) (st:St) (K:St->Prop),jb cs o as st K-> ∃s,Iv cs o as st=some s/\K s
 | [],_,_,st,K,h=>⟨st,rfl,h⟩
 |(true, .Eh _)::r,o,[],st,K,h=>h.elim
 |(true, .row _ _)::r,o,[],st,K,h=>h.elim
 |(true, .Ij _ _)::r,o,[],st,K,h=>h.elim
 |(true, .part _ _)::r,o,[],st,K,h=>h.elim
 |(true, .Bn _ _ _)::r,o,[],st,K,h=>h.elim
 |(true, .Bn _ _ _)::r,o,a::as,st,K,h=>by
  obtain ⟨s,h1,h2⟩:=Qi r o as st K h
  exact ⟨s,by simp only [Iv];exact h1,h2⟩
 |(false,_)::r,o,[],st,K,h=>h.elim
 |(true, .Eh _)::r,o,a::as,st,K,h=>by
  obtain ⟨s,h1,h2⟩:=Qi r o as st K h
  exact ⟨s,by simp only [Iv];exact h1,h2⟩
 |(false,_)::r,o,a::as,st,K,h=>by
  obtain ⟨s,h1,h2⟩:=Qi r o as st K h
  exact ⟨s,by simp only [Iv];exact h1,h2⟩
 |(true, .row _ _)::r,o,a::as,st,K,h=>by
  obtain ⟨s1,h1,h2⟩:=qz h
  obtain ⟨s,h3,h4⟩:=Qi r o.2 as s1 K h2
  exact ⟨s,by simp only [Iv,h1];exact h3,h4⟩
 |(true, .part _ _)::r,o,a::as,st,K,h=>by
  obtain ⟨s1,h1,h2⟩:=GF h
  obtain ⟨s,h3,h4⟩:=Qi r o.2 as s1 K h2
  exact ⟨s,by simp only [Iv,h1];exact h3,h4⟩
 |(true, .Ij _ _)::r,o,a::as,st,K,h=>by
  obtain ⟨s1,h1,h2⟩:=qz h
  obtain ⟨s,h3,h4⟩:=Qi r o.2 as s1 K h2
  exact ⟨s,by simp only [Iv,h1];exact h3,h4⟩
theorem qL {H:List (Nat×OB)} {ls:List Nat} {n:Nat} {K:Prop} : ∀(l:List AV),uS H ls n l K->dC H ls n l=true/\K
 | [],h=>⟨rfl,h⟩
 |a::r,h=>by
  have go:uS H ls n r K->dC H ls n r=true/\K:=qL r
  cases a with
  | «at»c=>
   cases c with
   |sub l i c=>
    simp only [uS] at h
    simp only [dC]
    split at h
    ·rename_i hc
     obtain ⟨⟨h1,h2⟩,h3⟩:=h
     obtain ⟨g1,g2⟩:=go h3
     exact ⟨by simp only [hc,g1,Bool.and_true,Bool.not_true,Sw,Ag,Ns];exact ⟨h1,h2⟩,g2⟩
    ·rename_i hc
     obtain ⟨g1,g2⟩:=go h
     exact ⟨by simp only [hc,g1,Bool.not_false,Bool.true_or,Bool.and_true],g2⟩
   |_=>exact go h
  |_=>exact go h
theorem yt {st:St} {d:Option Nat} {s:MSpec} {args:List AV} {K:AV->St->Prop} (h:IU st d s args K): ∃v s',Xz st d s args=some (v,s')/\K v s':=by
 unfold IU at h
 obtain ⟨⟨pl,cells,rest⟩,h0,h⟩:=Bx.1 h
 obtain ⟨as,h1,h⟩:=Bx.1 h
 obtain ⟨x,tks,h2,h⟩:=lp s.ins 0 (cells++as) _ h
 split at h
 ·rename_i hc
  obtain ⟨⟨r,o⟩,h3,h⟩:=h
  obtain ⟨st1,h4,h⟩:=Qi s.ins o (cells++as) st _ h
  obtain ⟨v,h5,h6⟩:=Bx.1 h
  obtain ⟨h7,h6⟩:=qL _ h6
  refine ⟨v,_,?_,h6⟩
  unfold Xz
  simp only [h0,h1,h2]
  rw [Ab hc]
  simp only [h3,h4,h5]
  rw [Ab h7]
 ·cases h
theorem TD {w:WS} (hw:w.OK) {o:Oper} {K:AV->WS->Prop} (h:opW T Γ w o K):
  ∃v w',evalOp T Γ w.st o=some (v,w'.st)/\w'.OK/\(∀b,Hu w'.kn o=some b-> ∃fr,v= .at (.data fr .bool b))/\K v w':=by
 have fin: ∀v s,(∀b,Hu w.kn o=some b-> ∃fr,v= .at (.data fr .bool b))->evalOp T Γ w.st o=some (v,s)->K v (w.to s)-> ∃v w',evalOp T Γ w.st o=some (v,w'.st)/\w'.OK/\(∀b,Hu w'.kn o=some b-> ∃fr,v= .at (.data fr .bool b))/\K v w':=
  fun v s hk h1 h2=>⟨v,w.to s,h1,hw.to (nf h1),hk,h2⟩
 have yG:(∀b v s,Hu w.kn o=some b->evalOp T Γ w.st o=some (v,s)-> ∃fr,v= .at (.data fr .bool b))->Il (evalOp T Γ w.st o) (λr=>K r.1 (w.to r.2))-> ∃v w',evalOp T Γ w.st o=some (v,w'.st)/\w'.OK/\(∀b,Hu w'.kn o=some b-> ∃fr,v= .at (.data fr .bool b))/\K v w':=by
  intro hk h
  obtain ⟨r,h1,h2⟩:=Bx.1 h
  exact fin r.1 r.2 (λb hb=>hk b _ _ hb h1) h1 h2
 unfold opW at h
 split at h
 ·rename_i heq
  obtain ⟨s,h1,h2⟩:=wy h
  refine fin _ _ (λb hb=>by unfold Hu at hb;rw [heq] at hb;cases hb) ?_ h2
  unfold evalOp;rw [heq];simp only [h1];rfl
 ·rename_i heq
  obtain ⟨d,h1,h⟩:=Bx.1 h
  obtain ⟨v,s,h2,h3⟩:=zk h
  refine fin _ _ (λb hb=>by unfold Hu at hb;rw [heq] at hb;cases hb) ?_ h3
  unfold evalOp;rw [heq];simp only [h1,h2]
 ·rename_i heq
  split at h
  ·rename_i hd ha ht
   split at h
   ·rename_i Vk
    obtain ⟨v,s,h2,h3⟩:=sv h
    refine fin _ _ (λb hb=>by unfold Hu at hb;rw [heq] at hb;cases hb) ?_ h3
    unfold evalOp;rw [heq];simp only [hd,ha,ht,Ab Vk,h2]
   ·cases h
  ·cases h
 ·rename_i heq;exact yG (λb v s hb he=>tV hw heq hb he) h
 ·rename_i heq;exact yG (λb v s hb he=>by unfold Hu at hb;rw [heq] at hb;cases hb) h
 ·rename_i heq;exact yG (λb v s hb he=>by unfold Hu at hb;rw [heq] at hb;cases hb) h
 ·rename_i heq
  obtain ⟨d,h1,h⟩:=Bx.1 h
  obtain ⟨v,s,h2,h3⟩:=lM h
  refine fin _ _ (λb hb=>by unfold Hu at hb;rw [heq] at hb;cases hb) ?_ h3
  unfold evalOp;rw [heq];simp only [h1,h2]
 ·rename_i heq;exact yG (λb v s hb he=>by unfold Hu at hb;rw [heq] at hb;cases hb) h
 ·rename_i heq;exact yG (λb v s hb he=>by unfold Hu at hb;rw [heq] at hb;cases hb) h
 ·rename_i heq;exact yG (λb v s hb he=>by unfold Hu at hb;rw [heq] at hb;cases hb) h
 ·rename_i heq;exact yG (λb v s hb he=>by unfold Hu at hb;rw [heq] at hb;cases hb) h
 ·rename_i heq;exact yG (λb v s hb he=>by unfold Hu at hb;rw [heq] at hb;cases hb) h
 ·rename_i heq;exact yG (λb v s hb he=>by unfold Hu at hb;rw [heq] at hb;cases hb) h
 ·
  rename_i f _ _ heq
  split at h
  ·rename_i Pk
   obtain ⟨v,s',h1,h2⟩:=yt h
   refine fin v s' (λb hb=>by unfold Hu at hb;rw [heq] at hb;cases hb) ?_ h2
   unfold evalOp;rw [heq];simp only [Pk];exact h1
  ·rename_i s Pk
   split at h
   ·rename_i PE
    obtain ⟨st1,hs,h⟩:=Bx.1 h
    obtain ⟨v,w',h1,h2,h3,h3',h4⟩:=jc (hw.to (Uo _ hs)) h
    refine ⟨v,w',?_,h3,h3',h4⟩
    have h1:Fh T Γ st1 o=some v:=h1
    have h2:w'.st=st1:=h2
    unfold evalOp
    rw [heq]
    simp only [Pk,PE,hs,h1,h2]
    rfl
   ·rename_i PE
    obtain ⟨v,w',h1,h2,h3,h3',h4⟩:=jc hw h
    refine ⟨v,w',?_,h3,h3',h4⟩
    unfold evalOp
    rw [heq]
    simp only [Pk,PE,h1,h2]
    rfl
  ·rename_i Ax1 Alp
   obtain ⟨v,w',h1,h2,h3,h3',h4⟩:=jc hw h
   refine ⟨v,w',?_,h3,h3',h4⟩
   unfold evalOp
   rw [heq]
   simp only
   rw [h1,h2];rfl
 ·rename_i n1 n2 n3 n4 n5 n6 n7 n8 n9 n10 n11 n12 n13 n14
  obtain ⟨v,w',h1,h2,h3,h3',h4⟩:=jc hw h
  refine ⟨v,w',?_,h3,h3',h4⟩
  unfold evalOp
  split
  all_goals first
   |(rw [h1,h2];rfl)
   |(rename_i hq;exact absurd hq (by first|exact n1 _|exact n2 _|exact n3 _|exact n4 _|exact n5 _|exact n6 _|exact n7 _|exact n8 _|exact n9 _|exact n10 _|exact n11 _|exact n12 _|exact n13 _|exact n14 _))
   |(rename_i hq;exact absurd hq (by first|exact n1 _ _|exact n2 _ _|exact n3 _ _|exact n4 _ _|exact n5 _ _|exact n6 _ _|exact n7 _ _|exact n8 _ _|exact n9 _ _|exact n10 _ _|exact n11 _ _|exact n12 _ _|exact n13 _ _|exact n14 _ _))
   |(rename_i hq;exact absurd hq (by first|exact n1 _ _ _|exact n2 _ _ _|exact n3 _ _ _|exact n4 _ _ _|exact n5 _ _ _|exact n6 _ _ _|exact n7 _ _ _|exact n8 _ _ _|exact n9 _ _ _|exact n10 _ _ _|exact n11 _ _ _|exact n12 _ _ _|exact n13 _ _ _|exact n14 _ _ _))
   |(rename_i hq;exact absurd hq (by first|exact n1 _ _ _ _|exact n2 _ _ _ _|exact n3 _ _ _ _|exact n4 _ _ _ _|exact n5 _ _ _ _|exact n6 _ _ _ _|exact n7 _ _ _ _|exact n8 _ _ _ _|exact n9 _ _ _ _|exact n10 _ _ _ _|exact n11 _ _ _ _|exact n12 _ _ _ _|exact n13 _ _ _ _|exact n14 _ _ _ _))
theorem yJ (st:St) (d:Nat) (v:AV):(st.put (some d) v).get d=v\/(st.put (some d) v).get d= .undef:=by
 simp only [St.put,St.get]
 rw [Rg]
 by_cases h:d<st.tmps.length
 ·exact .inl (by rw [Ab ⟨rfl,h⟩])
 ·refine .inr ?_
  rw [Ai (λhc=>h hc.2),Aj,Dw (by omega)]
  rfl
theorem WS.OK.wa {w:WS} (hw:w.OK) (o:Oper) (v:AV) (h: ∀b,Hu w.kn o=some b-> ∃fr,v= .at (.data fr .bool b)):(w.wa o v).OK/\(w.wa o v).st=w.st.put o.dst v:=by
 unfold WS.wa
 split
 ·rename_i d b hd hk
  split
  ·rename_i fr c hg
   refine ⟨?_,by rw [hd]⟩
   obtain ⟨Wh,hv⟩:=h b hk
   intro t b' hb
   simp only [nG] at hb
   split at hb
   ·rename_i ht
    injection hb with hb
    subst ht;subst hb
    refine ⟨Wh,?_⟩
    show (w.st.put (some d) v).get d=_
    cases yJ w.st d v with
    |inl h1=>rw [h1,hv]
    |inr h1=>rw [h1] at hg;cases hg
   ·exact hw.put (some d) v t b' hb
  ·exact ⟨hw.put _ _,by rw [WS.ud,hd]⟩
 ·exact ⟨hw.put _ _,WS.ud _ _ _⟩
theorem qK {ops:Array Oper} {w:WS} (hw:w.OK) {o:Oper} {run:(AV->WS->Prop)->WS->Prop} {R:St->Option (AV×St)} {K:WS->Prop}
  (hr: ∀(k:AV->WS->Prop) (w:WS),w.OK->run k w-> ∃v w',R w.st=some (v,w'.st)/\w'.OK/\(∀b,Hu w'.kn o=some b-> ∃fr,v= .at (.data fr .bool b))/\k v w') (h:jx ops w o run K):
  ∃w',(match o.guard with
   |none=>(R w.st).map λr=>r.2.put o.dst r.1
   |some (j,want)=>match Xt w.st ((ops[j]?).bind (·.dst)) with
    |some (some b)=>if b==want then (R w.st).map λr=>r.2.put o.dst r.1 else some (w.st.put o.dst (.at .skip))
    |some none=>some (w.st.put o.dst (.at .skip))
    |none=>none)=some w'.st/\w'.OK/\K w':=by
 have go: ∀w:WS,w.OK->run (λv w'=>K (w'.wa o v)) w-> ∃w',((R w.st).map λr=>r.2.put o.dst r.1)=some w'.st/\w'.OK/\K w':=by
  intro w hw h
  obtain ⟨v,w',h1,h2,h3,h4⟩:=hr _ _ hw h
  obtain ⟨h5,h6⟩:=h2.wa o v h3
  exact ⟨w'.wa o v,by rw [h1,h6];rfl,h5,h4⟩
 unfold jx at h
 split at h
 ·rename_i hg
  rw [hg]
  exact go w hw h
 ·rename_i j want hg
  rw [hg]
  obtain ⟨t,h1,h⟩:=Bx.1 h
  simp only [h1]
  split at h
  ·rename_i hs
   have hsk:w.st.get t= .at .skip:=by
    unfold AV.ZH at hs
    split at hs
    ·assumption
    ·cases hs
   exact ⟨_,by simp only [Xt,hsk];rw [WS.ud],hw.put _ _,h⟩
  ·obtain ⟨fr,b,w',h2,h3,h4,h5⟩:=wY hw h
   have hb:Xt w.st (some t)=some (some b):=by simp only [Xt,h2]
   rw [hb]
   simp only
   cases b with
   |true=>
    cases want with
    |true=>rw [Ab (by decide),<-h3];exact go w' h4 h5
    |false=>exact ⟨_,by rw [Ai (by decide),<-h3,WS.ud],h4.put _ _,h5⟩
   |false=>
    cases want with
    |false=>rw [Ab (by decide),<-h3];exact go w' h4 h5
    |true=>exact ⟨_,by rw [Ai (by decide),<-h3,WS.ud],h4.put _ _,h5⟩
theorem cf {ops:Array Oper} {w:WS} (hw:w.OK) {o:Oper} {K:WS->Prop} (h:jx ops w o (λk w'=>opW T Γ w' o k) K): ∃w',Fa T Γ ops w.st o=some w'.st/\w'.OK/\K w':=by
 obtain ⟨w',h1,h2⟩:=qK hw (R:= λst=>evalOp T Γ st o) (λk w hw h=>by
  obtain ⟨v,w',h1,h2,h2',h3⟩:=TD hw h
  exact ⟨v,w',h1,h2,h2',h3⟩) h
 exact ⟨w',h1,h2⟩
theorem WX {w:WS} (hw:w.OK) {o:Oper} {K:AV->WS->Prop} (h:bW T Γ w o K):
  ∃v w',Xk T Γ w.st o=some v/\w'.st=w.st/\w'.OK/\(∀b,Hu w'.kn o=some b-> ∃fr,v= .at (.data fr .bool b))/\K v w':=by
 unfold bW at h
 split at h
 ·rename_i t len parts rW
  obtain ⟨v,h1,h2⟩:=Bx.1 h
  exact ⟨v,w,by unfold Xk;rw [rW];exact h1,rfl,hw,λb hb=>by simp [Hu,rW] at hb,h2⟩
 ·rename_i t parts rW
  obtain ⟨v,h1,h2⟩:=Bx.1 h
  exact ⟨v,w,by unfold Xk;rw [rW];exact h1,rfl,hw,λb hb=>by simp [Hu,rW] at hb,h2⟩
 ·rename_i n1 n2
  obtain ⟨v,w',h1,h2⟩:=jc hw h
  refine ⟨v,w',?_,h2⟩
  rw [<-h1]
  unfold Xk
  split
  ·rename_i h9;exact absurd h9 (n1 _ _ _)
  ·rename_i h9;exact absurd h9 (n2 _ _)
  ·rfl
theorem Aed {ops:Array Oper} {w:WS} (hw:w.OK) {o:Oper} {K:WS->Prop} (h:jx ops w o (λk w'=>bW T Γ w' o k) K): ∃v w',Xh T Γ ops w.st o=some v/\w'.st=w.st.put o.dst v/\w'.OK/\K w':=by
 obtain ⟨w',h1,h2,h3⟩:=qK hw (R:= λst=>(Xk T Γ st o).map λv=>(v,st)) (λk w hw h=>by
  obtain ⟨v,w',h1,h2,h3,h3',h4⟩:=WX hw h
  exact ⟨v,w',by simp only [h1,h2];rfl,h3,h3',h4⟩) h
 have key: ∀u:Option AV,((u.map λv=>(v,w.st)).map λr=>r.2.put o.dst r.1)=some w'.st-> ∃v,u=some v/\w'.st=w.st.put o.dst v:=by
  intro u hu
  cases u with
  |none=>cases hu
  |some v=>injection hu with hu;exact ⟨v,rfl,hu.symm⟩
 unfold Xh
 split at h1
 ·rename_i hg
  obtain ⟨v,h4,h5⟩:=key _ h1
  exact ⟨v,w',by rw [hg];exact h4,h5,h2,h3⟩
 ·rename_i j want hg
  rw [hg]
  split at h1
  ·rename_i b hb
   simp only [hb]
   split at h1
   ·rename_i XS
    obtain ⟨v,h4,h5⟩:=key _ h1
    exact ⟨v,w',by rw [Ab XS];exact h4,h5,h2,h3⟩
   ·rename_i XS
    injection h1 with h1
    exact ⟨_,w',by rw [Ai XS],h1.symm,h2,h3⟩
  ·rename_i hb
   simp only [hb]
   injection h1 with h1
   exact ⟨_,w',rfl,h1.symm,h2,h3⟩
  ·cases h1
theorem tW {ops:Array Oper} : ∀(l:List Oper) {w:WS} (_:w.OK) {K:WS->Prop},Aio T Γ ops l w K-> ∃w',aQ T Γ ops l w.st=some w'.st/\w'.OK/\K w'
 | [],w,hw,K,h=>⟨w,rfl,hw,h⟩
 |o::r,w,hw,K,h=>by
  obtain ⟨w1,h1,h2,h3⟩:=cf hw h
  obtain ⟨w2,h4,h5⟩:=tW r h2 h3
  exact ⟨w2,by simp only [aQ];rw [h1];exact h4,h5⟩
theorem fo {ops:Array Oper} : ∀(l:List Nat) {w:WS} (_:w.OK) {K:WS->Prop},YX T Γ ops l w K-> ∃w',Nh T Γ ops l w.st=some w'.st/\w'.OK/\K w'
 | [],w,hw,K,h=>⟨w,rfl,hw,h⟩
 |i::r,w,hw,K,h=>by
  obtain ⟨o,h0,h⟩:=Bx.1 h
  obtain ⟨w1,h1,h2,h3⟩:=cf hw h
  obtain ⟨w2,h4,h5⟩:=fo r h2 h3
  exact ⟨w2,by simp only [Nh];rw [h0];simp only [h1];exact h4,h5⟩
theorem Ny {ops:Array Oper} : ∀(l:List Nat) {w:WS} (_:w.OK) {K:WS->Prop},kS T Γ ops l w K-> ∃w',Gg T Γ ops l w.st=some w'.st/\w'.OK/\K w'
 | [],w,hw,K,h=>⟨w,rfl,hw,h⟩
 |i::r,w,hw,K,h=>by
  obtain ⟨o,h0,h⟩:=Bx.1 h
  obtain ⟨v,w1,h1,h1',h2,h3⟩:=Aed hw h
  obtain ⟨w2,h4,h5⟩:=Ny r h2 h3
  exact ⟨w2,by simp only [Gg];rw [h0];simp only [h1];rw [<-h1'];exact h4,h5⟩
theorem mK {P:Nat->Prop} : ∀(l:List Nat),WU l P-> ∀i∈l,P i
 | [],_,i,hi=>by cases hi
 | [k],h,i,hi=>by rw [Ad.1 hi];exact h
 |k::j::r,h,i,hi=>by
  rcases Bg.1 hi with rfl|hi
  ·exact h.1
  ·exact mK (j::r) h.2 i hi
theorem lJ {ops:Array Oper} {K:WS->Prop} : ∀(f:Nat) (Ah:Array Bool) {w:WS} (_:w.OK),RH T Γ ops f Ah w K->anyS T Γ ops (λs=> ∃w':WS,w'.st=s/\w'.OK/\K w') f Ah w.st
 |0,Ah,w,hw,h=>by
  unfold RH at h
  split at h
  ·rename_i hr;exact ⟨hr,w,rfl,hw,h⟩
  ·cases h
 |f+1,Ah,w,hw,h=>by
  unfold RH at h
  split at h
  ·cases h
  ·rename_i i r hr
   refine ⟨by rw [hr];simp,λk hk=>?_⟩
   rw [hr] at hk
   obtain ⟨o,h0,h1⟩:=Bx.1 (mK _ h k hk)
   obtain ⟨w1,h2,h3,h4⟩:=cf hw h1
   exact ⟨o,w1.st,h0,h2,lJ f _ h3 h4⟩
theorem dH: ∀(l:List Oper) (d:Nat),d∈Lf l-> ∃o∈l,o.dst=some d
 | [],d,h=>by simp [Lf] at h
 |o::r,d,h=>by
  simp only [Lf] at h
  cases ho:o.dst with
  |none=>
   rw [ho] at h
   obtain ⟨o',h1,h2⟩:=dH r d (by simpa using h)
   exact ⟨o',Ao _ h1,h2⟩
  |some e=>
   rw [ho] at h
   rcases Bg.1 (by simpa using h) with h|h
   ·exact ⟨o,by simp,by rw [ho,h]⟩
   ·obtain ⟨o',h1,h2⟩:=dH r d h
    exact ⟨o',Ao _ h1,h2⟩
theorem ni {ops:Array Oper} {K:WS->Prop} : ∀(f:Nat) (Ah:Array Bool) {w:WS} (_:w.OK),bK T Γ ops f Ah w K-> ∃w':WS,Fv (λt=>Th ops t=true) w.st w'.st/\w'.OK/\K w'
 |0,Ah,w,hw,h=>by
  simp only [bK] at h
  split at h
  ·exact ⟨w,λ_ _ _ _ _ hx=>hx,hw,h⟩
  ·exact h.elim
 |f+1,Ah,w,hw,h=>by
  simp only [bK] at h
  split at h
  ·exact h.elim
  ·obtain ⟨o,ho,h1⟩:=Bx.1 h
   obtain ⟨w',h2,h3,h4⟩:=cf hw h1
   obtain ⟨w2,g1,g2⟩:=ni f _ h3 h4
   refine ⟨w2,((bI h2).mono λt ht hd=>?_).trans g1,g2⟩
   unfold Th Zf at ht
   have:(ops.toList.any λo=>o.dst==some t)=true:=Gd.2 ⟨o,pn ho,by rw [hd];exact beq_self_eq_true _⟩
   rw [this] at ht
   cases ht
theorem mf (p:Nat->Bool): ∀(i:Nat) (l0 l1:List AV),(∀t,(l0.getD t .undef).Yi=true->p (i+t)=true->l1.getD t .undef=l0.getD t .undef)->
  Vo (La p i l0) l0 (Uh (La p i l0) l1)=l1
 |_,[],l1,_=>by simp [La,Uh,Vo]
 |i,a::r,[],_=>by
  simp only [La]
  cases (a.Yi&&p i)<;>simp [Uh,Vo]
 |i,a::r,b::s,h=>by
  have hr:=mf p (i+1) r s λt h1 h2=>by
   have:=h (t+1) (by simpa using h1) (by rw [show i+(t+1)=i+1+t by omega];exact h2)
   simpa using this
  simp only [La]
  cases hc:(a.Yi&&p i) with
  |false=>simp only [Uh,Vo];rw [hr]
  |true=>
   simp only [Uh,Vo]
   rw [hr]
   simp only [Ag] at hc
   have:=h 0 (by simpa using hc.1) hc.2
   simp only [Xq] at this
   rw [this]
theorem fw: ∀(f:List Bool) (l:List AV),(Uh f l).length=l.length
 | [],l=>by simp [Uh]
 |true::f,[]=>by simp [Uh]
 |false::f,[]=>by simp [Uh]
 |true::f,a::l=>by simp [Uh,fw f l]
 |false::f,a::l=>by simp [Uh,fw f l]
theorem RU {p:Nat->Bool} {w1 s0 s:St} (h1:Fv (λt=>p t=true) w1 s0) (h2:Fv (λt=>p t=true) w1 s) (h:eqM (La p 0 w1.tmps) s0 s):s=s0:=by
 have e:=dS h
 simp only [St.mask,St.mk.injEq] at e
 have key: ∀ {a:St},Fv (λt=>p t=true) w1 a->Vo (La p 0 w1.tmps) w1.tmps (Uh (La p 0 w1.tmps) a.tmps)=a.tmps:= λ {a} ha=>mf p 0 _ _ λt ht hp=>by
  rw [Cb] at hp
  cases hc:w1.tmps.getD t .undef with
  | «at»c=>
   cases c with
   |data fr τ x=>exact ha t fr τ x hp hc
   |_=>rw [hc] at ht;cases ht
  |_=>rw [hc] at ht;cases ht
 have e1:=key h1
 have e2:=key h2
 rw [e.1,e1] at e2
 obtain ⟨_,e4⟩:=e
 cases s;cases s0
 simp only at e2 e4
 rw [e4,e2]
theorem aS {ops:Array Oper} {K:WS->Prop} : ∀(f:Nat) (Ah:Array Bool) {w:WS} (_:w.OK),bK T Γ ops f Ah w K-> ∃w':WS,w'.OK/\K w'
 |0,Ah,w,hw,h=>by
  simp only [bK] at h
  split at h
  ·exact ⟨w,hw,h⟩
  ·exact h.elim
 |f+1,Ah,w,hw,h=>by
  simp only [bK] at h
  split at h
  ·exact h.elim
  ·obtain ⟨o,ho,h1⟩:=Bx.1 h
   obtain ⟨w',h2,h3,h4⟩:=cf hw h1
   exact aS f _ h3 h4
theorem pR {P:List (Nat×Nat×AV×OB)} {ops:Array Oper} {K:WS->Prop} : ∀(f:Nat) (Ah:Array Bool) {w:WS} (_:w.OK),BV T Γ P ops f Ah w K->Ago T Γ ops P (λs=> ∃w':WS,w'.st=s/\w'.OK/\K w') f Ah w.st
 |0,Ah,w,hw,h=>by
  unfold BV at h
  split at h
  ·rename_i hr;exact ⟨hr,w,rfl,hw,h⟩
  ·cases h
 |f+1,Ah,w,hw,h=>by
  unfold BV at h
  split at h
  ·cases h
  ·rename_i i r hr
   refine ⟨by rw [hr];simp,λk hk=>?_⟩
   rw [hr] at hk
   obtain ⟨o,h0,h1⟩:=Bx.1 (mK _ h k hk)
   split at h1
   ·rename_i bM
    obtain ⟨w1,h2,h3,h4⟩:=cf hw h1
    exact ⟨o,w1.st,h0,bM,h2,pR f _ h3 h4⟩
   ·cases h1
theorem FD {α:Type} (f:α->Nat) {l:List α} (h:ar (l.map f)=true):l.Pairwise λa c=>f a≠f c:=List.pairwise_map.1 (Yk h)
theorem cZ {ops:Array Oper} {E:List Nat} {Ah:Array Bool} {w:WS} (hw:w.OK): ∀(R:List Nat) {K:Prop},xY T Γ ops E Ah w R K->K/\ ∀r∈R,sd ops E Ah r=true\/ ∃o v,ops[r]?=some o/\Xh T Γ ops w.st o=some v/\ ∀d,o.dst=some d->w.st.get d=v
 | [],K,h=>⟨h,λr hr=>by cases hr⟩
 |r::R,K,h=>by
  unfold xY at h
  split at h
  ·rename_i hwt
   obtain ⟨h1,h2⟩:=cZ hw R h
   refine ⟨h1,λq hq=>?_⟩
   rcases Bg.1 hq with rfl|hq
   ·exact .inl hwt
   ·exact h2 q hq
  ·obtain ⟨h0,h⟩:=h
   obtain ⟨h1,h2⟩:=cZ hw R h
   refine ⟨h1,λq hq=>?_⟩
   rcases Bg.1 hq with rfl|hq
   ·refine .inr ?_
    obtain ⟨w',g1,_,g3⟩:=Ny _ hw h0
    obtain ⟨d,hd,g4⟩:=Bx.1 g3
    simp only [Gg] at g1
    split at g1
    ·cases g1
    rename_i o ho
    split at g1
    rotate_left
    ·cases g1
    rename_i v hv
    refine ⟨o,v,ho,hv,λd' xc=>?_⟩
    rw [ho] at hd
    have hdd:o.dst=some d:=hd
    rw [xc] at hdd
    cases hdd
    split at g4
    ·rename_i hl
     have e:=dS g4
     have e1:w'.st.get d=w.st.get d:=by
      have:=Gz (λs:St=>s.tmps) e
      simpa using this
     rw [<-e1]
     have e2:w.st.put o.dst v=w'.st:=Az g1
     rw [<-e2,show o.dst=some d from hd]
     show (Tg w.st.tmps d v).getD d .undef=v
     rw [Rg,Ab ⟨rfl,by simpa [Ns] using hl⟩]
    ·cases g4
   ·exact h2 q hq
theorem cA {ops:Array Oper} {E:List Nat} {K:WS->Prop} : ∀(f:Nat) (Ah:Array Bool) {w:WS} (_:w.OK),so T Γ ops E f Ah w K->qX T Γ ops E (λs=> ∃w':WS,w'.st=s/\w'.OK/\K w') f Ah w.st
 |0,Ah,w,hw,h=>by
  unfold so at h
  obtain ⟨h,hs⟩:=cZ hw _ h
  split at h
  ·rename_i hr;exact ⟨hs,hr,w,rfl,hw,h⟩
  ·cases h
 |f+1,Ah,w,hw,h=>by
  unfold so at h
  obtain ⟨h,hs⟩:=cZ hw _ h
  split at h
  ·cases h
  ·rename_i i r hr
   refine ⟨hs,by rw [hr];simp,λk hk=>?_⟩
   rw [hr] at hk
   obtain ⟨o,h0,h1⟩:=Bx.1 (mK _ h k hk)
   obtain ⟨w1,h2,h3,h4⟩:=cf hw h1
   exact ⟨o,w1.st,h0,h2,cA f _ h3 h4⟩
theorem zF {ops:Array Oper} {E:List Nat} {L0:Array Bool} {n:Nat} {w:WS} (hw:w.OK) {K:WS->Prop} (h:LX T Γ E n L0 ops w K):Aco T Γ ops (λs=> ∃w':WS,w'.st=s/\w'.OK/\K w') n L0 w.st:=by
 unfold LX at h
 split at h
 ·rename_i hb
  simp only [Ag] at hb
  obtain ⟨b1,b2,b3⟩:=hb
  obtain ⟨w1,h1,h2,h3⟩:=Ny _ hw h
  have h3:=Ok.1 h3
  obtain ⟨w0,g1,g2⟩:=aS _ _ h2 h3
  obtain ⟨g3,g4⟩:=Ok.1 g2
  refine ⟨E,w1.st,b1,Nat.le_of_ble_eq_true b2,h1,bh (λs hs=>?_) _ _ _ (cA _ _ h2 g4)⟩
  obtain ⟨w',h5,_,h6⟩:=hs
  exact ⟨w0,((h5.symm.trans (dS (Ok.1 h6))).symm),g1,g3⟩
 ·cases h
theorem dE {ops:Array Oper} {t:Nat} :Th ops t=true->t∉Lf ops.toList:= λh hm=>by
 obtain ⟨o,ho,hd⟩:=dH _ _ hm
 unfold Th Zf at h
 have:(ops.toList.any λo=>o.dst==some t)=true:=Gd.2 ⟨o,ho,by rw [hd];exact beq_self_eq_true _⟩
 rw [this] at h
 cases h
theorem BW {ops:Array Oper} {E:List Nat} {K:St->Prop} (s0:St) (f:Nat) (Ah:Array Bool) (st:St) (hk:Fv (λt=>Th ops t=true) s0 st) (h:qX T Γ ops E K f Ah st):
  qX T Γ ops E (λs=>K s/\Fv (λt=>Th ops t=true) s0 s) f Ah st:=by
 have h1:=lI (draw:=true) st f Ah st (λ_ _ _ _ _ hx=>hx) h
 exact bh (λs hs=>⟨hs.1,hk.trans (hs.2.mono λt ht=>dE ht)⟩) _ _ _ h1
theorem WS.OK.Qw {w:WS} (hw:w.OK) (dead:List Nat):(w.Qw dead).OK:=by
 intro t b hb
 have key: ∀(l:List (Nat×Bool)),nG (l.filter λp=>!dead.contains p.1) t=some b->dead.contains t=false/\nG l t=some b:=by
  intro l
  induction l with
  |nil=>intro h;cases h
  |cons q r ih=>
   intro h
   obtain ⟨k,c⟩:=q
   by_cases hk:dead.contains k=true
   ·rw [List.filter_cons_of_neg (by rw [hk];decide)] at h
    obtain ⟨h1,h2⟩:=ih h
    refine ⟨h1,?_⟩
    unfold nG
    rw [Ai (λe=>by subst e;rw [h1] at hk;cases hk)]
    exact h2
   ·have hk:dead.contains k=false:=by simpa using hk
    rw [List.filter_cons_of_pos (by rw [hk];rfl)] at h
    unfold nG at h⊢
    split at h
    ·rename_i e
     subst e
     rw [Ab rfl]
     exact ⟨hk,h⟩
    ·rename_i e
     rw [Ai e]
     exact ih h
 obtain ⟨h1,h2⟩:=key _ hb
 obtain ⟨fr,h3⟩:=hw t b h2
 refine ⟨fr,?_⟩
 show (w.st.Qw dead).get t=_
 unfold St.Qw
 refine Un _ _ t fr _ _ ?_
 show (Jb _ 0 w.st.tmps).getD t .undef=_
 rw [Wd _ 0 w.st.tmps t ?_]
 ·exact h3
 ·refine Bs.2 ⟨Es.2 ?_,by rw [Cb,h1];rfl⟩
  refine Bu λhn=>?_
  have:w.st.get t= .undef:=by
   unfold St.get
   rw [Aj,Dw (by omega)];rfl
  rw [h3] at this
  cases this
theorem FH {ops:Array Oper} {dead E:List Nat} (b3:dead.all (Zf ops)=true) {L0:Array Bool} {n:Nat} {w:WS} (hw:w.OK) {K:WS->Prop} (h:ZY T Γ dead E n L0 ops w K):Aco T Γ ops (λs=> ∃w':WS,w'.st=s.Qw dead/\w'.OK/\K w') n L0 w.st:=by
 unfold ZY at h
 split at h
 ·rename_i hb
  simp only [Ag] at hb
  obtain ⟨b1,b2⟩:=hb
  obtain ⟨w1,h1,h2,h3⟩:=Ny _ hw h
  have h3:=Ok.1 h3
  refine ⟨E,w1.st,b1,Nat.le_of_ble_eq_true b2,h1,?_⟩
  split at h3
  ·refine bh (λs hs=>?_) _ _ _ (cA _ _ h2 h3)
   obtain ⟨w',h5,h6,h7⟩:=hs
   exact ⟨w'.Qw dead,by rw [<-h5];rfl,h6.Qw _,h7⟩
  ·rw [fj] at h3
   obtain ⟨w0,g0,g1,g2⟩:=ni _ _ h2 h3
   obtain ⟨g3,g4⟩:=Ok.1 g2
   refine bh (λs hs=>?_) _ _ _ (BW w1.st _ _ _ (λ_ _ _ _ _ hx=>hx) (cA _ _ h2 g4))
   obtain ⟨⟨w',h5,_,h6⟩,h7⟩:=hs
   have h6:=Ok.1 h6
   have k1:Fv (λt=>Th ops t=true) w1.st (w0.Qw dead).st:=g0.trans ((iW b3 w0.st).mono λt ht=>dE ht)
   have k2:Fv (λt=>Th ops t=true) w1.st (w'.Qw dead).st:=by
    show Fv _ w1.st (w'.st.Qw dead)
    rw [h5]
    exact h7.trans ((iW b3 s).mono λt ht=>dE ht)
   have e:=RU k1 k2 h6
   refine ⟨w0.Qw dead,?_,g1.Qw _,g3⟩
   rw [<-e,<-h5]
   rfl
 ·cases h
theorem vB {ops:Array Oper} {L0:Array Bool} {n:Nat} {w:WS} (hw:w.OK) {K:WS->Prop} (hc:Ul ops L0) (h:yr T Γ (Zq T ops L0) n L0 ops w K):anyS T Γ ops (λs=> ∃w':WS,w'.st=s/\w'.OK/\K w') n L0 w.st\/Aco T Γ ops (λs=> ∃w':WS,w'.st=s/\w'.OK/\K w') n L0 w.st:=by
 unfold yr at h
 split at h
 ·rename_i hb
  simp only [Ag] at hb
  obtain ⟨⟨b1,b2⟩,b3,b4,b5⟩:=hb
  have hm: ∀a∈Zq T ops L0,a.1∈Region.ready .any ops L0/\ ∃o,ops[a.1]?=some o/\eW T o=some a.2:= λa ha=>yl ha
  have p1:=FD (λa:Nat×Nat×AV×OB=>a.1) b1
  have p2:=FD (λa:Nat×Nat×AV×OB=>a.2.1) b2
  have hlen:(Zq T ops L0).length<=n:=Nat.le_of_ble_eq_true b4
  obtain ⟨w1,h1,h2,h3⟩:=fo _ hw h
  have h3:=Ok.1 h3
  obtain ⟨w0,g1,g2⟩:=aS _ _ h2 h3
  obtain ⟨g3,g4⟩:=Ok.1 g2
  have hp:=FY (Γ:=Γ) _ w.st w1.st (λa ha=>(hm a ha).2) (λa ha=>tR (Bb.1 b3 a ha)) p2 h1
  refine .inl (jJ (λs hs=>?_) _ _ _ (RG (λa ha=>(hm a ha).2) n (n-(Zq T ops L0).length) (Zq T ops L0) _ L0 w1.st w.st (by omega) (pR _ _ h2 g4) hp
   (Acr (ops:=ops) λi hi=>by obtain ⟨a,ha,rfl⟩:=Bj.1 hi;exact (hm a ha).1) (λa ha=>ha) (p2.and p1) hc λa ha x hx=>cR (hm a ha).1 hx))
  obtain ⟨w',h5,_,h6⟩:=hs
  exact ⟨w0,((h5.symm.trans (dS h6)).symm),g1,g3⟩
 ·exact .inr (zF hw h)
theorem ld {ops:Array Oper} {draw:Bool} {w:WS} (hw:w.OK) {K:WS->Prop} (h:s5 T Γ ops draw w K):kC T Γ ops draw w.st (λs=> ∃w':WS,w'.st=s/\w'.OK/\K w'):=by
 unfold s5 at h
 split at h
 ·split at h
  ·rename_i ho
   obtain ⟨w1,h1,h2,h3⟩:=Ny _ hw h
   obtain ⟨w2,h4,h5⟩:=fo _ h2 h3
   exact .inl ⟨w2.st,by simp only [Si,Py];rw [Ab ho,h1];exact h4,w2,rfl,h5⟩
  ·rename_i ho
   split at h
   ·rename_i ho2
    obtain ⟨w1,h1,h2,h3⟩:=Ny _ hw h
    obtain ⟨w2,h4,h5⟩:=fo _ h2 h3
    exact .inl ⟨w2.st,by simp only [Si,Py];rw [Ai (by rw [ho];decide),Ab ho2,h1];exact h4,w2,rfl,h5⟩
   ·split at h
    ·rename_i hc
     simp only [Ag] at hc
     obtain ⟨w1,h1,h2,h3⟩:=Ny _ hw h
     split at h3
     ·exact .inr ⟨rfl,hc.1,w1.st,h1, .inl (lJ _ _ h2 h3)⟩
     ·obtain ⟨w0,g1,g2⟩:=aS _ _ h2 h3
      obtain ⟨g3,g4⟩:=Ok.1 g2
      exact .inr ⟨rfl,hc.1,w1.st,h1, .inl (jJ (λs hs=>by
       obtain ⟨w',h5,_,h6⟩:=hs
       exact ⟨w0,((h5.symm.trans (dS h6)).symm),g1,g3⟩) _ _ _ (lJ _ _ h2 g4))⟩
    ·split at h
     ·rename_i PE
      obtain ⟨w1,h1,h2,h3⟩:=Ny _ hw h
      exact .inr ⟨rfl,PE,w1.st,h1,vB h2 (aN _ _ _ pW) h3⟩
     ·cases h
 ·obtain ⟨w1,h1,h2⟩:=tW _ hw h
  exact .inl ⟨w1.st,by simp only [Si];rw [Ai (by simp)];exact h1,w1,rfl,h2⟩
theorem wb {ops:Array Oper} {draw:Bool} {w:WS} (hw:w.OK) {K:WS->Prop} (h:zI T Γ ops draw w K):yg T Γ ops draw w.st (λs=> ∃w':WS,w'.st=s/\w'.OK/\K w'):=by
 unfold zI at h
 split at h
 ·rename_i hb
  have b3:=(Bi.1 hb).2
  refine .inr ⟨uX ops,b3,?_⟩
  split at h
  ·rename_i hc
   simp only [Ag,ZX] at hc
   obtain ⟨w1,h1,h2,h3⟩:=Ny _ hw h
   exact .inr ⟨hc.1,hc.2.2.1,w1.st,h1, .inr (FH b3 h2 h3)⟩
  ·exact (ld hw h).mono λs ⟨w',h1,h2,h3⟩=>⟨w'.Qw (uX ops),by rw [<-h1];rfl,h2.Qw _,h3⟩
 ·exact .inl (ld hw h)
end
end Go.Proofs.YtkkdpknjohcekaaGreat
