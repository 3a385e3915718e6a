/-
  Part 33 of the proof that the statement FnCommutatorMacros holds.
-/
import Derived.Test.YtfgfigkbgecfnaaCFCommutatorMacros31
namespace Go.Proofs.Ytfgfigkbgecfnaa
open Go.RowKit
section
variable {T:Tab} {Γ:Env}
def WS.OK (w:WS):Prop:= ∀t b,ir w.kn t=some b-> ∃fr,w.st.get t= .at (.data fr .bool b)
theorem gg: ∀(l:List (Nat×Bool)) (d t:Nat) (b:Bool),ir (pf l d) t=some b->t≠d/\ir l t=some b
 | [],_,_,_,h=>by cases h
 |(k,c)::r,d,t,b,h=>by
  simp only [pf] at h
  split at h
  ·rename_i hk
   have:=gg r d t b h
   refine ⟨this.1,?_⟩
   simp only [ir]
   rw [Aj (by rw [hk];exact λh=>this.1 h.symm)]
   exact this.2
  ·rename_i hk
   simp only [ir] at h⊢
   split at h
   ·rename_i TF
    exact ⟨by rw [<-TF];exact hk,by rw [Af TF];exact h⟩
   ·rename_i TF
    rw [Aj TF]
    exact gg r d t b h
theorem WS.OK.put {w:WS} (h:w.OK) (dst:Option Tmp) (v:AV):(w.put dst v).OK:=by
 cases dst with
 |none=>exact h
 |some d=>
  intro t b hb
  obtain ⟨h1,h2⟩:=gg _ _ _ _ hb
  obtain ⟨fr,h3⟩:=h t b h2
  exact ⟨fr,by show (w.st.put (some d) v).get t=_;rw [Wx _ _ h1];exact h3⟩
theorem WS.mP (w:WS) (dst:Option Tmp) (v:AV):(w.put dst v).st=w.st.put dst v:=by cases dst<;>rfl
theorem WS.OK.to {w:WS} (h:w.OK) {s:St} (hs:Holds w.st s):(w.to s).OK:=by
 intro t b hb
 obtain ⟨fr,h3⟩:=h t b hb
 exact ⟨fr,hs t fr _ _ h3⟩
theorem oR {w:WS} (hw:w.OK) {t:Nat} {K:Bool->WS->Prop} (h:SJ w t K):
  ∃fr b w',w.st.get t= .at (.data fr .bool b)/\w'.st=w.st/\w'.OK/\K b w':=by
 unfold SJ at h
 split at h
 ·rename_i b hb
  obtain ⟨fr,h1⟩:=hw t b hb
  exact ⟨fr,b,w,h1,rfl,hw,h⟩
 ·split at h
  ·rename_i fr b hb
   obtain ⟨h1,h2⟩:=h
   have ok: ∀c:Bool,b=c->WS.OK {kn:=(t,c)::w.kn,st:=w.st} :=by
    intro c hc t' b' h'
    simp only [ir] at h'
    split at h'
    ·rename_i ht
     injection h' with h'
     exact ⟨fr,by rw [<-ht,<-h',<-hc];exact hb⟩
    ·exact hw t' b' h'
   cases b with
   |true=>exact ⟨fr,true, {kn:=(t,true)::w.kn,st:=w.st},hb,rfl,ok true rfl,h1 rfl⟩
   |false=>exact ⟨fr,false, {kn:=(t,false)::w.kn,st:=w.st},hb,rfl,ok false rfl,h2 rfl⟩
  ·cases h
theorem oQ {w:WS} (hw:w.OK) {c:Operand} {K:Bool->WS->Prop} (h:SI w c K):
  ∃fr b w',w.st.ev c= .at (.data fr .bool b)/\w'.st=w.st/\w'.OK/\K b w':=by
 unfold SI at h
 split at h
 ·exact oR hw h
 ·exact ⟨true,_,w,rfl,rfl,hw,h⟩
 ·cases h
theorem ve {op:BinOp} {t:TypeId} {x y:AV} {K:AV->Prop} (h:JZ T op t x y K): ∃v,Po T op t x y=some v/\K v:=by
 unfold JZ at h
 split at h
 ·split at h
  ·rename_i hk
   exact ⟨_,by simp only [Po,evalBin,mh];rw [Af hk,Aj h.1];rfl,h.2⟩
  ·cases h
 ·split at h
  ·rename_i hk
   exact ⟨_,by simp only [Po,evalBin,mh];rw [Af hk,Aj h.1];rfl,h.2⟩
  ·cases h
 ·exact ⟨_,by simp only [Po,evalBin];rw [Aj h.1];rfl,h.2⟩
 ·exact ⟨_,by simp only [Po,evalBin];rw [Aj h.1];rfl,h.2⟩
 ·exact ⟨_,by simp only [Po,evalBin];rw [Af h.1],h.2⟩
 ·exact Bh.1 h
theorem tK {st:St} {t:TypeId} {p:AV} {K:AV->Prop} (h:CM T st t p K): ∃v,Ms T st t p=some v/\K v:=by
 unfold CM at h
 split at h
 ·obtain ⟨τ,h1,h2⟩:=Bh.1 h
  split at h2
  ·rename_i hb
   split at h2
   ·rename_i he
    obtain ⟨x,h3,h4⟩:=h2
    exact ⟨_,by simp only [Ms,h1,hb,Af he,h3];rfl,h4⟩
   ·cases h2
  ·rename_i hb
   split at h2
   ·rename_i he
    obtain ⟨x,h3,h4⟩:=h2
    exact ⟨_,by simp only [Ms,h1,hb,Af he,h3];rfl,h4⟩
   ·cases h2
  ·rename_i hb
   split at h2
   ·cases h2
   ·rename_i he
    exact ⟨_,by simp only [Ms,h1,hb,Aj he],h2⟩
  ·cases h2
 ·obtain ⟨τ,h1,h2⟩:=Bh.1 h
  split at h2
  ·rename_i he
   obtain ⟨y,h3,h4⟩:=h2
   subst h3
   exact ⟨_,by simp only [Ms,h1,Af he],h4⟩
  ·cases h2
 ·exact Bh.1 h
theorem j6 {s:TypeId} {x:AV} {f:Nat} {K:AV->Prop} (h:fR T s x f K): ∃v,Lc T s x f=some v/\K v:=by
 unfold fR at h
 split at h
 ·obtain ⟨y,h1,h2⟩:=h
  subst h1
  obtain ⟨v,h3,h4⟩:=Bh.1 h2
  refine ⟨v,?_,h4⟩
  rw [<-h3]
  unfold Lc
  cases T.off s f<;>rfl
 ·exact Bh.1 h
theorem rM {st:St} {t:TypeId} {x:AV} {lo hi:Option AV} {K:AV->Prop} (h:wL T st t x lo hi K): ∃v,ab T st t x lo hi=some v/\K v:=by
 unfold wL at h
 obtain ⟨n,h1,h⟩:=Bh.1 h
 obtain ⟨l,h2,h⟩:=Bh.1 h
 obtain ⟨hh,h3,hc,h⟩:=Bh.1 h
 obtain ⟨v,h4,h5⟩:=Bh.1 h
 refine ⟨v,?_,h5⟩
 simp only [ab,h1,h2,h3,Af hc]
 exact h4
theorem jd {st:St} {t:TypeId} {x i:AV} {K:AV->Prop} (h:fZ T st t x i K): ∃v,Hz T st t x i=some v/\K v:=by
 unfold fZ at h
 split at h
 ·split at h
  ·rename_i he
   obtain ⟨x,h3,h4⟩:=h
   exact ⟨_,by simp only [Hz,Af he,h3];rfl,h4⟩
  ·cases h
 ·split at h
  ·rename_i hb
   split at h
   ·rename_i he
    obtain ⟨h3,h4⟩:=h
    exact ⟨_,by simp only [Hz,hb];rw [Af ⟨he.1,he.2,Pw.2 h3⟩],h4⟩
   ·cases h
  ·rename_i hb
   split at h
   ·rename_i he
    obtain ⟨h3,h4⟩:=h
    exact ⟨_,by simp only [Hz,hb];rw [Af ⟨he.1,he.2,Pw.2 h3⟩],h4⟩
   ·cases h
  ·rename_i hb
   split at h
   ·rename_i he
    obtain ⟨h3,h4⟩:=h
    exact ⟨_,by simp only [Hz,hb];rw [Af ⟨he.1,he.2,Pw.2 h3⟩],h4⟩
   ·cases h
  ·cases h
 ·split at h
  ·rename_i hb
   split at h
   ·rename_i he
    obtain ⟨h3,h4⟩:=h
    exact ⟨_,by simp only [Hz,hb];rw [Af ⟨he,Pw.2 h3⟩],h4⟩
   ·cases h
  ·cases h
 ·cases h
theorem qD {t:TypeId} {x i:AV} {K:AV->Prop} (h:vU T t x i K): ∃v,ef T t x i=some v/\K v:=by
 unfold vU at h
 split at h
 ·split at h
  ·rename_i he
   obtain ⟨h1,b,h3,h4⟩:=h
   exact ⟨_,by simp only [ef,Af he,Af h1,h3];rfl,h4⟩
  ·cases h
 ·cases h
theorem Xx {st:St} {f:FuncId} {args:List AV} {K:AV->Prop} (h:oS Γ st f args K): ∃v,Lq Γ st f args=some v/\K v:=by
 unfold oS at h
 obtain ⟨s,h1,h⟩:=Bh.1 h
 have h1:Γ f=some (.q s):=by
  split at h1
  ·rename_i s' hs;injection h1 with h1;rw [hs,h1]
  ·cases h1
 split at h
 ·rename_i hf
  obtain ⟨p,h2,y,h3,h4⟩:=Bh.1 h
  refine ⟨_,?_,h4⟩
  simp only [Lq,h1]
  rw [Af hf,h2]
  simp only [h3]
  rfl
 ·cases h
theorem qe {st:St} {v:AV} {args:List AV} {K:AV->Prop} (h:vg Γ st v args K): ∃u,Sq Γ st v args=some u/\K u:=by
 unfold vg at h
 split at h
 ·split at h
  ·rename_i hc
   split at h
   ·rename_i hf
    obtain ⟨u,h1,h2⟩:=Xx h
    exact ⟨u,by simp only [Sq];rw [Af hc,Af (by simpa using hf)];exact h1,h2⟩
   ·rename_i hf
    obtain ⟨u,h1,h2⟩:=Xx h
    exact ⟨u,by simp only [Sq];rw [Af hc,Aj (λhx=>by rw [show Nat.blt _ 1000000000=true from by simpa using hx] at hf;cases hf)];exact h1,h2⟩
  ·cases h
 ·exact Xx h
 ·cases h
theorem Mf {w:WS} (hw:w.OK) {x:Operand} {b:Bool} (hk:Rr w.kn x=some b): ∃fr,w.st.ev x= .at (.data fr .bool b):=by
 unfold Rr at hk
 split at hk
 ·injection hk with hk;subst hk;exact ⟨true,rfl⟩
 ·exact hw _ _ hk
 ·cases hk
theorem o1 {w:WS} (hw:w.OK) {o:Oper} {b:Bool} (hk:Fb w.kn o=some b) {v:AV} (he:Dq T Γ w.st o=some v): ∃fr,v= .at (.data fr .bool b):=by
 unfold Fb at hk
 split at hk
 ·rename_i heq;unfold Dq at he;rw [heq] at he;injection he with he;obtain ⟨fr,h⟩:=Mf hw hk;exact ⟨fr,he.symm.trans h⟩
 ·rename_i heq;unfold Dq at he;rw [heq] at he;injection he with he;obtain ⟨fr,h⟩:=Mf hw hk;exact ⟨fr,he.symm.trans h⟩
 ·rename_i x heq
  cases hx:Rr w.kn x with
  |none=>rw [hx] at hk;cases hk
  |some c=>
   rw [hx] at hk
   injection hk with hk
   obtain ⟨fr,h⟩:=Mf hw hx
   unfold Dq at he;rw [heq] at he
   simp only [h,qn,Mc] at he
   injection he with he
   exact ⟨true,by rw [<-he,<-hk]⟩
 ·rename_i c x y heq
  unfold Dq at he;rw [heq] at he
  split at hk
  ·rename_i hc
   obtain ⟨fr,h⟩:=Mf hw hc
   simp only [h,aa,Nh] at he
   injection he with he
   obtain ⟨fr,h⟩:=Mf hw hk
   exact ⟨fr,he.symm.trans h⟩
  ·rename_i hc
   obtain ⟨fr,h⟩:=Mf hw hc
   simp only [h,aa,Ci,Pk] at he
   injection he with he
   obtain ⟨fr,h⟩:=Mf hw hk
   exact ⟨fr,he.symm.trans h⟩
  ·cases hk
 ·cases hk
theorem mI {w:WS} (hw:w.OK) {o:Oper} {x:Operand} (ho:o.op= .assign x) {b:Bool} (hk:Fb w.kn o=some b) {v:AV} {s:St} (he:evalOp T Γ w.st o=some (v,s)): ∃fr,v= .at (.data fr .bool b):=by
 unfold Fb at hk
 rw [ho] at hk
 obtain ⟨fr,h⟩:=Mf hw hk
 unfold evalOp at he;rw [ho] at he
 simp only [h] at he
 injection he with he;injection he with he;exact ⟨fr,he.symm⟩
theorem dF {w:WS} (hw:w.OK) {o:Oper} {K:AV->WS->Prop} (h:qW T Γ w o K):
  ∃v w',Dq T Γ w.st o=some v/\w'.st=w.st/\w'.OK/\(∀b,Fb w'.kn o=some b-> ∃fr,v= .at (.data fr .bool b))/\K v w':=by
 have fin:(∃v w',Dq T Γ w.st o=some v/\w'.st=w.st/\w'.OK/\K v w')-> ∃v w',Dq T Γ w.st o=some v/\w'.st=w.st/\w'.OK/\(∀b,Fb w'.kn o=some b-> ∃fr,v= .at (.data fr .bool b))/\K v w':=by
  rintro ⟨v,w',h1,h2,h3,h4⟩
  exact ⟨v,w',h1,h2,h3,λb hb=>o1 h3 hb (by rw [h2];exact h1),h4⟩
 refine fin ?_
 unfold qW at h
 split at h
 ·rename_i c a b heq
  obtain ⟨fr,t,w',h1,h2,h3,h4⟩:=oQ hw h
  cases t with
  |true=>exact ⟨_,w',by unfold Dq;rw [heq];simp only [h1,aa,Nh];rw [<-h2],h2,h3,h4⟩
  |false=>exact ⟨_,w',by unfold Dq;rw [heq];simp only [h1,aa];rw [<-h2];simp,h2,h3,h4⟩
 ·rename_i heq
  obtain ⟨v,h1,h2⟩:=tK h
  exact ⟨v,w,by unfold Dq;rw [heq];exact h1,rfl,hw,h2⟩
 ·rename_i heq
  obtain ⟨v,h1,h2⟩:=ve h
  exact ⟨v,w,by unfold Dq;rw [heq];exact h1,rfl,hw,h2⟩
 ·rename_i heq
  split at h
  ·obtain ⟨v,h1,h2⟩:=rM h
   exact ⟨v,w,by unfold Dq;rw [heq];simpa using h1,rfl,hw,h2⟩
  ·cases h
 ·rename_i heq
  obtain ⟨v,h1,h2⟩:=jd h
  exact ⟨v,w,by unfold Dq;rw [heq];exact h1,rfl,hw,h2⟩
 ·rename_i heq
  obtain ⟨v,h1,h2⟩:=qD h
  exact ⟨v,w,by unfold Dq;rw [heq];exact h1,rfl,hw,h2⟩
 ·rename_i heq
  obtain ⟨v,h1,h2⟩:=Xx h
  exact ⟨v,w,by unfold Dq;rw [heq];exact h1,rfl,hw,h2⟩
 ·rename_i heq
  obtain ⟨v,h1,h2⟩:=qe h
  exact ⟨v,w,by unfold Dq;rw [heq];exact h1,rfl,hw,h2⟩
 ·rename_i heq
  obtain ⟨v,h1,h2⟩:=j6 h
  exact ⟨v,w,by unfold Dq;rw [heq];exact h1,rfl,hw,h2⟩
 ·rename_i x heq
  unfold pv at h
  split at h
  ·rename_i fr τ z hx
   obtain ⟨y,h1,h2⟩:=h
   subst h1
   exact ⟨_,w,by unfold Dq;rw [heq];simp only [hx],rfl,hw,h2⟩
  ·obtain ⟨v,h1,h2⟩:=Bh.1 h
   exact ⟨v,w,h1,rfl,hw,h2⟩
 ·obtain ⟨v,h1,h2⟩:=Bh.1 h
  exact ⟨v,w,h1,rfl,hw,h2⟩
theorem rY {st:St} {t:TypeId} {p v:AV} {K:St->Prop} (h:wT T st t p v K): ∃s,Qm T st t p v=some s/\K s:=by
 unfold wT at h
 split at h
 ·obtain ⟨τ,h1,h⟩:=Bh.1 h
  obtain ⟨q,h2,h⟩:=Bh.1 h
  split at h
  ·rename_i hb
   obtain ⟨u,h3,h⟩:=Bh.1 h
   split at h
   ·rename_i hc
    obtain ⟨h4,h5⟩:=h
    obtain ⟨q1,q2⟩:=q
    obtain ⟨u1,u2⟩:=u
    exact ⟨_,by simp only [Qm,h1,h2,hb,h3];rw [Gh hc,Af h4],h5⟩
   ·cases h
  ·cases h
 ·exact Bh.1 h
theorem oz {st:St} {t:TypeId} {p v:AV} {K:St->Prop} (h:rU T st t p v K): ∃s,Mh T st t p v=some s/\K s:=by
 unfold rU at h
 unfold Mh
 split at h
 rotate_left
 ·rename_i hg;rw [hg];exact rY h
 rename_i hg
 rw [hg]
 simp only
 unfold xY at h
 split at h
 ·obtain ⟨τ,h1,h⟩:=Bh.1 h
  obtain ⟨q,h2,h⟩:=Bh.1 h
  split at h
  ·rename_i hb
   obtain ⟨u,h3,h⟩:=Bh.1 h
   split at h
   ·rename_i hc
    obtain ⟨q1,q2⟩:=q
    obtain ⟨u1,u2⟩:=u
    exact ⟨_,by simp only [Wv,h1,h2,hb,h3];rw [Gh hc],h⟩
   ·cases h
  ·cases h
 ·rename_i l j
  obtain ⟨τ,h1,h⟩:=Bh.1 h
  split at h
  ·rename_i e te rows out kp m off len hl _
   split at h
   ·rename_i fr tr e' tid xs hm
    split at h
    ·rename_i hc
     obtain ⟨h2,h3,h4,h5⟩:=h
     have h4:out=none\/out=some j:=by
      cases out with
      |none=>exact .inl rfl
      |some i=>exact .inr (Fh some h4)
     exact ⟨_,by simp only [Wv,h1,hl,hm];rw [Gh ⟨hc.1,hc.2,h2,h3,h4⟩],h5⟩
    ·cases h
   ·cases h
  ·cases h
 ·cases h
theorem Tp {st:St} {d:Nat} {t:TypeId} {x y:Operand} {K:AV->St->Prop} (h:gD T st d t x y K): ∃v s,Lb T st d t x y=some (v,s)/\K v s:=by
 unfold gD at h
 obtain ⟨te,h1,h⟩:=Bh.1 h
 obtain ⟨e,h2,h⟩:=Bh.1 h
 obtain ⟨q,h3,h⟩:=Bh.1 h
 obtain ⟨u,h4,h⟩:=Bh.1 h
 obtain ⟨q1,q2⟩:=q
 obtain ⟨u1,u2⟩:=u
 split at h
 ·rename_i hx
  split at h
  ·rename_i hd
   obtain ⟨h5,h6⟩:=h
   refine ⟨_,_,?_,h6⟩
   simp only [Lb,h1,h2,h3,h4]
   rw [hx]
   simp only
   rw [Af ⟨h5,by simpa [Ki] using hd⟩]
   simp
  ·cases h
 ·rename_i l off len hx
  split at h
  ·rename_i fr tr e' tid xs hb
   split at h
   ·rename_i hc
    obtain ⟨h5,h6,h7,h8⟩:=h
    refine ⟨_,_,?_,h8⟩
    simp only [Lb,h1,h2,h3,h4]
    rw [hx]
    simp only [hb]
    rw [Gh ⟨hc.1,hc.2.1⟩,Af ⟨h7,by simpa [Ki] using hc.2.2⟩]
    obtain ⟨FZ,NI,IG⟩:=hc
    subst FZ
    subst h5
    simp only [Kg,h6,Bj,Cf]
   ·cases h
  ·cases h
 ·cases h
theorem lF {st:St} {d:Nat} {t:TypeId} {x y:Operand} {K:AV->St->Prop} (h:lE T st d t x y K): ∃v s,Nu T st d t x y=some (v,s)/\K v s:=by
 unfold lE at h
 cases x with
 |tmp tx=>
  simp only at h
  unfold Nu
  simp only
  cases hg:st.get tx with
  | «at»c=>
   rw [hg] at h
   cases c with
   |sub l i c=>
    simp only at h⊢
    obtain ⟨tid,h1,h⟩:=Bh.1 h
    split at h
    ·rename_i hl
     split at h
     ·rename_i hc
      obtain ⟨v,s,h2,h3⟩:=Tp h
      refine ⟨v,s,?_,h3⟩
      simp only [hl,h1]
      rw [Af hc]
      exact h2
     ·cases h
    ·cases h
   |_=>exact Tp h
  |_=>rw [hg] at h;exact Tp h
 |_=>exact Tp h
theorem tP {st:St} {d:Nat} {t:TypeId} {l c:AV} {K:AV->St->Prop} (h:CR T st d t l c K): ∃v s,Wt T st d t l c=some (v,s)/\K v s:=by
 unfold CR at h
 split at h
 ·obtain ⟨te,h1,h⟩:=Bh.1 h
  obtain ⟨e,h2,h⟩:=Bh.1 h
  split at h
  ·rename_i hz
   obtain ⟨h3,h4,h5⟩:=h
   refine ⟨_,_,?_,h5⟩
   simp only [Ag] at hz
   simp only [Wt,h1,h2]
   rw [Af ⟨Pw.2 (by exact_mod_cast h3),h4,hz.1,by simpa [Ki] using hz.2⟩]
   simp
  ·cases h
 ·cases h
theorem qV {st:St} {d:Nat} {t:TypeId} {l c:AV} {K:AV->St->Prop} (h:w5 T st d t l c K): ∃v s,Sr T st d t l c=some (v,s)/\K v s:=by
 unfold w5 at h
 unfold Sr
 cases hg:ag T t with
 |none=>rw [hg] at h;exact tP h
 |some p=>
  obtain ⟨te,e⟩:=p
  rw [hg] at h
  simp only at h⊢
  split at h
  ·split at h
   ·rename_i hd
    obtain ⟨h3,h4,h5⟩:=h
    refine ⟨_,_,?_,h5⟩
    simp only
    rw [Af ⟨Pw.2 (by exact_mod_cast h3),h4,by simpa [Ki] using hd⟩]
    simp
   ·cases h
  ·cases h
theorem fN {st:St} {d:Nat} {t:TypeId} {len:Nat} {parts:Array (Nat×Operand)} {K:AV->St->Prop} (h:aS T st d t len parts K): ∃v s,Gi T st d t len parts=some (v,s)/\K v s:=by
 unfold aS at h
 unfold Gi
 cases hg:ag T t with
 |none=>
  rw [hg] at h
  obtain ⟨r,h1,h2⟩:=Bh.1 h
  exact ⟨r.1,r.2,h1,h2⟩
 |some p=>
  obtain ⟨te,e⟩:=p
  rw [hg] at h
  simp only at h⊢
  split at h
  ·rename_i x hp
   split at h
   ·rename_i m off ln hx
    split at h
    ·rename_i hm
     split at h
     ·rename_i hc
      obtain ⟨h1,h2,h3⟩:=h
      refine ⟨_,_,?_,h3⟩
      simp only [hp,hx,hm]
      rw [Gh ⟨hc.1,hc.2,h1,h2⟩]
     ·cases h
    ·cases h
   ·cases h
  ·cases h
theorem lH {st:St} {d:Nat} {t:TypeId} {x y:Operand} {K:AV->St->Prop} (h:lG T st d t x y K): ∃v s,Nv T st d t x y=some (v,s)/\K v s:=by
 unfold lG at h
 unfold Nv
 cases hg:ag T t with
 |none=>rw [hg] at h;exact lF h
 |some p=>
  obtain ⟨te,e⟩:=p
  rw [hg] at h
  simp only at h⊢
  split at h
  ·rename_i l off len m CZ qQ hx hy
   split at h
   ·rename_i hl hm
    split at h
    ·rename_i hc
     obtain ⟨h1,h2,h3,h4,h5⟩:=h
     obtain ⟨⟨rfl,rfl⟩,hc⟩:=hc
     refine ⟨_,_,?_,h5⟩
     simp only [hx,hy,hl,hm]
     rw [Gh (⟨⟨trivial,trivial⟩,hc,h1,h2,h3,h4⟩)]
     simp
    ·cases h
   ·cases h
  ·cases h
theorem s7 {st:St} {io:Bool} {k:Nat} {c:CK} {a:AC} {K:c.den->List (Nat×Loc)->Prop} (h:bI st io k c a K): ∃x t,Jm st io k c a=some (x,t)/\K x t:=by
 cases c with
 |Ji τ=>
  cases a with
  |own l off len=>
   obtain ⟨p,h1,h2⟩:=Bh.1 h
   exact ⟨_,_,by simp only [Jm];rw [h1];rfl,h2⟩
  |clo g Cx=>
   simp only [bI] at h
   split at h
   ·rename_i hc
    obtain ⟨p,h1,h2⟩:=Bh.1 h
    exact ⟨_,_,by simp only [Jm];rw [Af hc,h1];rfl,h2⟩
   ·cases h
  |Ez l i=>
   simp only [bI] at h
   split at h
   ·rename_i hc
    obtain ⟨p,h1,h2⟩:=Bh.1 h
    exact ⟨_,_,by simp only [Jm];rw [Af hc,h1];rfl,h2⟩
   ·cases h
  |sub l i c=>
   obtain ⟨p,h1,h2⟩:=Bh.1 h
   exact ⟨_,_,by simp only [Jm];rw [h1];rfl,h2⟩
  |_=>
   simp only [bI] at h
   split at h
   ·rename_i hc
    obtain ⟨p,h1,h2⟩:=Bh.1 h
    exact ⟨_,_,by simp only [Jm];rw [Af hc,h1];rfl,h2⟩
   ·cases h
 |row e te=>
  cases a<;>simp only [bI] at h<;>first|(cases h;done)|skip
  ·exact ⟨_,_,rfl,h⟩
  ·split at h
   ·rename_i hl
    split at h
    ·rename_i hc
     obtain ⟨h1,h2,h3⟩:=h
     exact ⟨_,_,by simp only [Jm,hl];rw [Gh ⟨hc.1,hc.2,h1,h2⟩],h3⟩
    ·cases h
   ·cases h
  ·split at h
   ·rename_i hl
    split at h
    ·rename_i hc
     obtain ⟨y,h1,h2⟩:=h
     exact ⟨_,_,by simp only [Jm,hl];rw [Gh hc,h1];rfl,h2⟩
    ·cases h
   ·cases h
 |Fl e te=>
  cases a<;>simp only [bI] at h<;>first|(cases h;done)|skip
  ·exact ⟨_,_,rfl,h⟩
  ·split at h
   ·rename_i hl
    split at h
    ·rename_i hc
     obtain ⟨h1,h2,h3⟩:=h
     exact ⟨_,_,by simp only [Jm,hl];rw [Gh ⟨hc.1,hc.2,h1,h2⟩],h3⟩
    ·cases h
   ·cases h
  ·split at h
   ·rename_i hl
    split at h
    ·rename_i hc
     obtain ⟨y,h1,h2⟩:=h
     exact ⟨_,_,by simp only [Jm,hl];rw [Gh hc,h1];rfl,h2⟩
    ·cases h
   ·cases h
 |part e te=>
  cases a<;>simp only [bI] at h<;>first|(cases h;done)|skip
  split at h
  ·rename_i hl
   split at h
   ·rename_i hc
    exact ⟨_,_,by simp only [Jm,hl];rw [Gh hc],h⟩
   ·cases h
  ·cases h
 |Bc e te kp=>
  cases a<;>simp only [bI] at h<;>first|(cases h;done)|skip
  split at h
  ·rename_i hl
   split at h
   ·rename_i hc
    obtain ⟨h1,h2,h3⟩:=h
    exact ⟨_,_,by simp only [Jm,hl];rw [Gh ⟨hc.1,hc.2.1,h1,h2,hc.2.2⟩],h3⟩
   ·cases h
  ·cases h
theorem ud {st:St} {e:Ty} {ys:List e.den} {a:AC} {K:St->Prop} (h:DN st e ys a K): ∃s,wy st e ys a=some s/\K s:=by
 cases a<;>simp only [DN] at h<;>first|(cases h;done)|skip
 split at h
 ·rename_i hl
  split at h
  ·rename_i hc
   obtain ⟨h1,h3⟩:=h
   exact ⟨_,by simp only [wy,hl];rw [Gh ⟨hc,h1⟩],h3⟩
  ·cases h
 ·cases h
theorem fp {st:St} : ∀(cs:List (Bool×CK)) (k:Nat) (as:List AC) (K:Ins.den cs->List (Nat×Loc)->Prop),s8 st k cs as K-> ∃x t,bJ st k cs as=some (x,t)/\K x t
 | [],_,[],_,h=>⟨_,_,rfl,h⟩
 | [],_,_::_,_,h=>h.elim
 |_::_,_,[],_,h=>h.elim
 |p::r,k,a::as,K,h=>by
  obtain ⟨x,t1,h1,h2⟩:=s7 h
  obtain ⟨y,t2,h3,h4⟩:=fp r (k+1) as _ h2
  exact ⟨_,_,by simp only [bJ,h1,h3],h4⟩
theorem kq {st:St} {c:CK} {ys:c.den} {a:AC} {K:St->Prop} (h:ko st c ys a K): ∃s,Xv st c ys a=some s/\K s:=by
 cases c with
 |Ji τ=>cases a<;>simp only [ko] at h<;>first|(cases h;done)|exact ⟨_,rfl,h⟩
 |row e te=>
  cases a<;>simp only [ko] at h<;>first|(cases h;done)|skip
  ·exact ⟨_,rfl,h⟩
  ·split at h
   ·rename_i hl
    split at h
    ·rename_i hc
     obtain ⟨h1,h3⟩:=h
     exact ⟨_,by simp only [Xv,hl];rw [Gh ⟨hc,h1⟩],h3⟩
    ·cases h
   ·cases h
  ·split at h
   ·rename_i hl
    split at h
    ·rename_i hc
     obtain ⟨y,h1,h2,h3⟩:=h
     exact ⟨_,by simp only [Xv,hl,Gh hc,h1];rw [Af h2],h3⟩
    ·cases h
   ·cases h
 |Fl e te=>
  cases a<;>simp only [ko] at h<;>first|(cases h;done)|skip
  ·exact ⟨_,rfl,h⟩
  ·split at h
   ·rename_i hl
    split at h
    ·rename_i hc
     obtain ⟨h1,h3⟩:=h
     exact ⟨_,by simp only [Xv,hl];rw [Gh ⟨hc,h1⟩],h3⟩
    ·cases h
   ·cases h
  ·split at h
   ·rename_i hl
    split at h
    ·rename_i hc
     obtain ⟨y,h1,h2,h3⟩:=h
     exact ⟨_,by simp only [Xv,hl,Gh hc,h1];rw [Af h2],h3⟩
    ·cases h
   ·cases h
 |part e te=>cases a<;>simp only [ko] at h<;>first|(cases h;done)|exact ⟨_,rfl,h⟩
 |Bc e te kp=>cases a<;>simp only [ko] at h<;>first|(cases h;done)|exact ⟨_,rfl,h⟩
theorem Ml: ∀(cs:List (Bool×CK)) (o:IOs.den cs) (as:List AC) (st:St) (K:St->Prop),dE cs o as st K-> ∃s,Ft cs o as st=some s/\K s
 | [],_,_,st,K,h=>⟨st,rfl,h⟩
 |(true, .Ji _)::r,o,[],st,K,h=>h.elim
 |(true, .row _ _)::r,o,[],st,K,h=>h.elim
 |(true, .Fl _ _)::r,o,[],st,K,h=>h.elim
 |(true, .part _ _)::r,o,[],st,K,h=>h.elim
 |(true, .Bc _ _ _)::r,o,[],st,K,h=>h.elim
 |(true, .Bc _ _ _)::r,o,a::as,st,K,h=>by
  obtain ⟨s,h1,h2⟩:=Ml r o as st K h
  exact ⟨s,by simp only [Ft];exact h1,h2⟩
 |(false,_)::r,o,[],st,K,h=>h.elim
 |(true, .Ji _)::r,o,a::as,st,K,h=>by
  obtain ⟨s,h1,h2⟩:=Ml r o as st K h
  exact ⟨s,by simp only [Ft];exact h1,h2⟩
 |(false,_)::r,o,a::as,st,K,h=>by
  obtain ⟨s,h1,h2⟩:=Ml r o as st K h
  exact ⟨s,by simp only [Ft];exact h1,h2⟩
 |(true, .row _ _)::r,o,a::as,st,K,h=>by
  obtain ⟨s1,h1,h2⟩:=kq h
  obtain ⟨s,h3,h4⟩:=Ml r o.2 as s1 K h2
  exact ⟨s,by simp only [Ft,h1];exact h3,h4⟩
 |(true, .part _ _)::r,o,a::as,st,K,h=>by
  obtain ⟨s1,h1,h2⟩:=ud h
  obtain ⟨s,h3,h4⟩:=Ml r o.2 as s1 K h2
  exact ⟨s,by simp only [Ft,h1];exact h3,h4⟩
 |(true, .Fl _ _)::r,o,a::as,st,K,h=>by
  obtain ⟨s1,h1,h2⟩:=kq h
  obtain ⟨s,h3,h4⟩:=Ml r o.2 as s1 K h2
  exact ⟨s,by simp only [Ft,h1];exact h3,h4⟩
theorem kC {H:List (Nat×OB)} {ls:List Nat} {n:Nat} {K:Prop} : ∀(l:List AV),nt H ls n l K->Zl H ls n l=true/\K
 | [],h=>⟨rfl,h⟩
 |a::r,h=>by
  have go:nt H ls n r K->Zl H ls n r=true/\K:=kC r
  cases a with
  | «at»c=>
   cases c with
   |sub l i c=>
    simp only [nt] at h
    simp only [Zl]
    split at h
    ·rename_i hc
     obtain ⟨⟨h1,h2⟩,h3⟩:=h
     obtain ⟨g1,g2⟩:=go h3
     exact ⟨by simp only [hc,g1,Bool.and_true,Bool.not_true,Wj,Ag,Ki];exact ⟨h1,h2⟩,g2⟩
    ·rename_i hc
     obtain ⟨g1,g2⟩:=go h
     exact ⟨by simp only [hc,g1,Bool.not_false,Bool.true_or,Bool.and_true],g2⟩
   |_=>exact go h
  |_=>exact go h
theorem qd {st:St} {d:Option Nat} {s:MSpec} {args:List AV} {K:AV->St->Prop} (h:vf st d s args K): ∃v s',Sp st d s args=some (v,s')/\K v s':=by
 unfold vf at h
 obtain ⟨⟨pl,cells,rest⟩,h0,h⟩:=Bh.1 h
 obtain ⟨as,h1,h⟩:=Bh.1 h
 obtain ⟨x,tks,h2,h⟩:=fp s.ins 0 (cells++as) _ h
 split at h
 ·rename_i hc
  obtain ⟨⟨r,o⟩,h3,h⟩:=h
  obtain ⟨st1,h4,h⟩:=Ml s.ins o (cells++as) st _ h
  obtain ⟨v,h5,h6⟩:=Bh.1 h
  obtain ⟨h7,h6⟩:=kC _ h6
  refine ⟨v,_,?_,h6⟩
  unfold Sp
  simp only [h0,h1,h2]
  rw [Af hc]
  simp only [h3,h4,h5]
  rw [Af h7]
 ·cases h
theorem yW {w:WS} (hw:w.OK) {o:Oper} {K:AV->WS->Prop} (h:GY T Γ w o K):
  ∃v w',evalOp T Γ w.st o=some (v,w'.st)/\w'.OK/\(∀b,Fb w'.kn o=some b-> ∃fr,v= .at (.data fr .bool b))/\K v w':=by
 have fin: ∀v s,(∀b,Fb w.kn o=some b-> ∃fr,v= .at (.data fr .bool b))->evalOp T Γ w.st o=some (v,s)->K v (w.to s)-> ∃v w',evalOp T Γ w.st o=some (v,w'.st)/\w'.OK/\(∀b,Fb w'.kn o=some b-> ∃fr,v= .at (.data fr .bool b))/\K v w':=
  fun v s hk h1 h2=>⟨v,w.to s,h1,hw.to (gT h1),hk,h2⟩
 have qp:(∀b v s,Fb w.kn o=some b->evalOp T Γ w.st o=some (v,s)-> ∃fr,v= .at (.data fr .bool b))->Fk (evalOp T Γ w.st o) (λr=>K r.1 (w.to r.2))-> ∃v w',evalOp T Γ w.st o=some (v,w'.st)/\w'.OK/\(∀b,Fb w'.kn o=some b-> ∃fr,v= .at (.data fr .bool b))/\K v w':=by
  intro hk h
  obtain ⟨r,h1,h2⟩:=Bh.1 h
  exact fin r.1 r.2 (λb hb=>hk b _ _ hb h1) h1 h2
 unfold GY at h
 split at h
 ·rename_i heq
  obtain ⟨s,h1,h2⟩:=oz h
  refine fin _ _ (λb hb=>by unfold Fb at hb;rw [heq] at hb;cases hb) ?_ h2
  unfold evalOp;rw [heq];simp only [h1];rfl
 ·rename_i heq
  obtain ⟨d,h1,h⟩:=Bh.1 h
  obtain ⟨v,s,h2,h3⟩:=qV h
  refine fin _ _ (λb hb=>by unfold Fb at hb;rw [heq] at hb;cases hb) ?_ h3
  unfold evalOp;rw [heq];simp only [h1,h2]
 ·rename_i heq
  split at h
  ·rename_i hd ha ht
   split at h
   ·rename_i Rb
    obtain ⟨v,s,h2,h3⟩:=lH h
    refine fin _ _ (λb hb=>by unfold Fb at hb;rw [heq] at hb;cases hb) ?_ h3
    unfold evalOp;rw [heq];simp only [hd,ha,ht,Af Rb,h2]
   ·cases h
  ·cases h
 ·rename_i heq;exact qp (λb v s hb he=>mI hw heq hb he) h
 ·rename_i heq;exact qp (λb v s hb he=>by unfold Fb at hb;rw [heq] at hb;cases hb) h
 ·rename_i heq;exact qp (λb v s hb he=>by unfold Fb at hb;rw [heq] at hb;cases hb) h
 ·rename_i heq
  obtain ⟨d,h1,h⟩:=Bh.1 h
  obtain ⟨v,s,h2,h3⟩:=fN h
  refine fin _ _ (λb hb=>by unfold Fb at hb;rw [heq] at hb;cases hb) ?_ h3
  unfold evalOp;rw [heq];simp only [h1,h2]
 ·rename_i heq;exact qp (λb v s hb he=>by unfold Fb at hb;rw [heq] at hb;cases hb) h
 ·rename_i heq;exact qp (λb v s hb he=>by unfold Fb at hb;rw [heq] at hb;cases hb) h
 ·rename_i heq;exact qp (λb v s hb he=>by unfold Fb at hb;rw [heq] at hb;cases hb) h
 ·rename_i heq;exact qp (λb v s hb he=>by unfold Fb at hb;rw [heq] at hb;cases hb) h
 ·rename_i heq;exact qp (λb v s hb he=>by unfold Fb at hb;rw [heq] at hb;cases hb) h
 ·rename_i heq;exact qp (λb v s hb he=>by unfold Fb at hb;rw [heq] at hb;cases hb) h
 ·
  rename_i f _ _ heq
  split at h
  ·rename_i Ls
   obtain ⟨v,s',h1,h2⟩:=qd h
   refine fin v s' (λb hb=>by unfold Fb at hb;rw [heq] at hb;cases hb) ?_ h2
   unfold evalOp;rw [heq];simp only [Ls];exact h1
  ·rename_i s Ls
   split at h
   ·rename_i xC
    obtain ⟨st1,hs,h⟩:=Bh.1 h
    obtain ⟨v,w',h1,h2,h3,FU,h4⟩:=dF (hw.to (Py _ hs)) h
    refine ⟨v,w',?_,h3,FU,h4⟩
    have h1:Dq T Γ st1 o=some v:=h1
    have h2:w'.st=st1:=h2
    unfold evalOp
    rw [heq]
    simp only [Ls,xC,hs,h1,h2]
    rfl
   ·rename_i xC
    obtain ⟨v,w',h1,h2,h3,FU,h4⟩:=dF hw h
    refine ⟨v,w',?_,h3,FU,h4⟩
    unfold evalOp
    rw [heq]
    simp only [Ls,xC,h1,h2]
    rfl
  ·rename_i Abx PV
   obtain ⟨v,w',h1,h2,h3,FU,h4⟩:=dF hw h
   refine ⟨v,w',?_,h3,FU,h4⟩
   unfold evalOp
   rw [heq]
   simp only
   rw [h1,h2];rfl
 ·rename_i n1 n2 n3 n4 n5 n6 n7 n8 n9 TR TS TU TV TW
  obtain ⟨v,w',h1,h2,h3,FU,h4⟩:=dF hw h
  refine ⟨v,w',?_,h3,FU,h4⟩
  unfold evalOp
  split
  all_goals first
   |(rw [h1,h2];rfl)
   |(rename_i hq;exact absurd hq (by first|exact n1 _|exact n2 _|exact n3 _|exact n4 _|exact n5 _|exact n6 _|exact n7 _|exact n8 _|exact n9 _|exact TR _|exact TS _|exact TU _|exact TV _|exact TW _))
   |(rename_i hq;exact absurd hq (by first|exact n1 _ _|exact n2 _ _|exact n3 _ _|exact n4 _ _|exact n5 _ _|exact n6 _ _|exact n7 _ _|exact n8 _ _|exact n9 _ _|exact TR _ _|exact TS _ _|exact TU _ _|exact TV _ _|exact TW _ _))
   |(rename_i hq;exact absurd hq (by first|exact n1 _ _ _|exact n2 _ _ _|exact n3 _ _ _|exact n4 _ _ _|exact n5 _ _ _|exact n6 _ _ _|exact n7 _ _ _|exact n8 _ _ _|exact n9 _ _ _|exact TR _ _ _|exact TS _ _ _|exact TU _ _ _|exact TV _ _ _|exact TW _ _ _))
   |(rename_i hq;exact absurd hq (by first|exact n1 _ _ _ _|exact n2 _ _ _ _|exact n3 _ _ _ _|exact n4 _ _ _ _|exact n5 _ _ _ _|exact n6 _ _ _ _|exact n7 _ _ _ _|exact n8 _ _ _ _|exact n9 _ _ _ _|exact TR _ _ _ _|exact TS _ _ _ _|exact TU _ _ _ _|exact TV _ _ _ _|exact TW _ _ _ _))
theorem qt (st:St) (d:Nat) (v:AV):(st.put (some d) v).get d=v\/(st.put (some d) v).get d= .undef:=by
 simp only [St.put,St.get]
 rw [Ng]
 by_cases h:d<st.tmps.length
 ·exact .inl (by rw [Af ⟨rfl,h⟩])
 ·refine .inr ?_
  rw [Aj (λhc=>h hc.2),An,Ee (by omega)]
  rfl
theorem WS.OK.o9 {w:WS} (hw:w.OK) (o:Oper) (v:AV) (h: ∀b,Fb w.kn o=some b-> ∃fr,v= .at (.data fr .bool b)):(w.o9 o v).OK/\(w.o9 o v).st=w.st.put o.dst v:=by
 unfold WS.o9
 split
 ·rename_i d b hd hk
  split
  ·rename_i fr c hg
   refine ⟨?_,by rw [hd]⟩
   obtain ⟨Rj,hv⟩:=h b hk
   intro t b' hb
   simp only [ir] at hb
   split at hb
   ·rename_i ht
    injection hb with hb
    subst ht;subst hb
    refine ⟨Rj,?_⟩
    show (w.st.put (some d) v).get d=_
    cases qt w.st d v with
    |inl h1=>rw [h1,hv]
    |inr h1=>rw [h1] at hg;cases hg
   ·exact hw.put (some d) v t b' hb
  ·exact ⟨hw.put _ _,by rw [WS.mP,hd]⟩
 ·exact ⟨hw.put _ _,WS.mP _ _ _⟩
theorem kB {ops:Array Oper} {w:WS} (hw:w.OK) {o:Oper} {run:(AV->WS->Prop)->WS->Prop} {R:St->Option (AV×St)} {K:WS->Prop}
  (hr: ∀(k:AV->WS->Prop) (w:WS),w.OK->run k w-> ∃v w',R w.st=some (v,w'.st)/\w'.OK/\(∀b,Fb w'.kn o=some b-> ∃fr,v= .at (.data fr .bool b))/\k v w') (h:dU ops w o run K):
  ∃w',(match o.guard with
   |none=>(R w.st).map λr=>r.2.put o.dst r.1
   |some (j,want)=>match Si w.st ((ops[j]?).bind (·.dst)) with
    |some (some b)=>if b==want then (R w.st).map λr=>r.2.put o.dst r.1 else some (w.st.put o.dst (.at .skip))
    |some none=>some (w.st.put o.dst (.at .skip))
    |none=>none)=some w'.st/\w'.OK/\K w':=by
 have go: ∀w:WS,w.OK->run (λv w'=>K (w'.o9 o v)) w-> ∃w',((R w.st).map λr=>r.2.put o.dst r.1)=some w'.st/\w'.OK/\K w':=by
  intro w hw h
  obtain ⟨v,w',h1,h2,h3,h4⟩:=hr _ _ hw h
  obtain ⟨h5,h6⟩:=h2.o9 o v h3
  exact ⟨w'.o9 o v,by rw [h1,h6];rfl,h5,h4⟩
 unfold dU at h
 split at h
 ·rename_i hg
  rw [hg]
  exact go w hw h
 ·rename_i j want hg
  rw [hg]
  obtain ⟨t,h1,h⟩:=Bh.1 h
  simp only [h1]
  split at h
  ·rename_i hs
   have hsk:w.st.get t= .at .skip:=by
    unfold AV.CH at hs
    split at hs
    ·assumption
    ·cases hs
   exact ⟨_,by simp only [Si,hsk];rw [WS.mP],hw.put _ _,h⟩
  ·obtain ⟨fr,b,w',h2,h3,h4,h5⟩:=oR hw h
   have hb:Si w.st (some t)=some (some b):=by simp only [Si,h2]
   rw [hb]
   simp only
   cases b with
   |true=>
    cases want with
    |true=>rw [Af (by decide),<-h3];exact go w' h4 h5
    |false=>exact ⟨_,by rw [Aj (by decide),<-h3,WS.mP],h4.put _ _,h5⟩
   |false=>
    cases want with
    |false=>rw [Af (by decide),<-h3];exact go w' h4 h5
    |true=>exact ⟨_,by rw [Aj (by decide),<-h3,WS.mP],h4.put _ _,h5⟩
theorem Xm {ops:Array Oper} {w:WS} (hw:w.OK) {o:Oper} {K:WS->Prop} (h:dU ops w o (λk w'=>GY T Γ w' o k) K): ∃w',Dl T Γ ops w.st o=some w'.st/\w'.OK/\K w':=by
 obtain ⟨w',h1,h2⟩:=kB hw (R:= λst=>evalOp T Γ st o) (λk w hw h=>by
  obtain ⟨v,w',h1,h2,HZ,h3⟩:=yW hw h
  exact ⟨v,w',h1,h2,HZ,h3⟩) h
 exact ⟨w',h1,h2⟩
theorem AO {w:WS} (hw:w.OK) {o:Oper} {K:AV->WS->Prop} (h:bW T Γ w o K):
  ∃v w',Se T Γ w.st o=some v/\w'.st=w.st/\w'.OK/\(∀b,Fb w'.kn o=some b-> ∃fr,v= .at (.data fr .bool b))/\K v w':=by
 unfold bW at h
 split at h
 ·rename_i t len parts lh
  obtain ⟨v,h1,h2⟩:=Bh.1 h
  exact ⟨v,w,by unfold Se;rw [lh];exact h1,rfl,hw,λb hb=>by simp [Fb,lh] at hb,h2⟩
 ·rename_i t parts lh
  obtain ⟨v,h1,h2⟩:=Bh.1 h
  exact ⟨v,w,by unfold Se;rw [lh];exact h1,rfl,hw,λb hb=>by simp [Fb,lh] at hb,h2⟩
 ·rename_i n1 n2
  obtain ⟨v,w',h1,h2⟩:=dF hw h
  refine ⟨v,w',?_,h2⟩
  rw [<-h1]
  unfold Se
  split
  ·rename_i h9;exact absurd h9 (n1 _ _ _)
  ·rename_i h9;exact absurd h9 (n2 _ _)
  ·rfl
theorem HH {ops:Array Oper} {w:WS} (hw:w.OK) {o:Oper} {K:WS->Prop} (h:dU ops w o (λk w'=>bW T Γ w' o k) K): ∃v w',Sd T Γ ops w.st o=some v/\w'.st=w.st.put o.dst v/\w'.OK/\K w':=by
 obtain ⟨w',h1,h2,h3⟩:=kB hw (R:= λst=>(Se T Γ st o).map λv=>(v,st)) (λk w hw h=>by
  obtain ⟨v,w',h1,h2,h3,FU,h4⟩:=AO hw h
  exact ⟨v,w',by simp only [h1,h2];rfl,h3,FU,h4⟩) h
 have key: ∀u:Option AV,((u.map λv=>(v,w.st)).map λr=>r.2.put o.dst r.1)=some w'.st-> ∃v,u=some v/\w'.st=w.st.put o.dst v:=by
  intro u hu
  cases u with
  |none=>cases hu
  |some v=>injection hu with hu;exact ⟨v,rfl,hu.symm⟩
 unfold Sd
 split at h1
 ·rename_i hg
  obtain ⟨v,h4,h5⟩:=key _ h1
  exact ⟨v,w',by rw [hg];exact h4,h5,h2,h3⟩
 ·rename_i j want hg
  rw [hg]
  split at h1
  ·rename_i b hb
   simp only [hb]
   split at h1
   ·rename_i BB
    obtain ⟨v,h4,h5⟩:=key _ h1
    exact ⟨v,w',by rw [Af BB];exact h4,h5,h2,h3⟩
   ·rename_i BB
    injection h1 with h1
    exact ⟨_,w',by rw [Aj BB],h1.symm,h2,h3⟩
  ·rename_i hb
   simp only [hb]
   injection h1 with h1
   exact ⟨_,w',rfl,h1.symm,h2,h3⟩
  ·cases h1
theorem mJ {ops:Array Oper} : ∀(l:List Oper) {w:WS} (_:w.OK) {K:WS->Prop},MH T Γ ops l w K-> ∃w',Vl T Γ ops l w.st=some w'.st/\w'.OK/\K w'
 | [],w,hw,K,h=>⟨w,rfl,hw,h⟩
 |o::r,w,hw,K,h=>by
  obtain ⟨w1,h1,h2,h3⟩:=Xm hw h
  obtain ⟨w2,h4,h5⟩:=mJ r h2 h3
  exact ⟨w2,by simp only [Vl];rw [h1];exact h4,h5⟩
theorem bg {ops:Array Oper} : ∀(l:List Nat) {w:WS} (_:w.OK) {K:WS->Prop},CB T Γ ops l w K-> ∃w',Kb T Γ ops l w.st=some w'.st/\w'.OK/\K w'
 | [],w,hw,K,h=>⟨w,rfl,hw,h⟩
 |i::r,w,hw,K,h=>by
  obtain ⟨o,h0,h⟩:=Bh.1 h
  obtain ⟨w1,h1,h2,h3⟩:=Xm hw h
  obtain ⟨w2,h4,h5⟩:=bg r h2 h3
  exact ⟨w2,by simp only [Kb];rw [h0];simp only [h1];exact h4,h5⟩
theorem Kr {ops:Array Oper} : ∀(l:List Nat) {w:WS} (_:w.OK) {K:WS->Prop},eW T Γ ops l w K-> ∃w',Ef T Γ ops l w.st=some w'.st/\w'.OK/\K w'
 | [],w,hw,K,h=>⟨w,rfl,hw,h⟩
 |i::r,w,hw,K,h=>by
  obtain ⟨o,h0,h⟩:=Bh.1 h
  obtain ⟨v,w1,h1,h1',h2,h3⟩:=HH hw h
  obtain ⟨w2,h4,h5⟩:=Kr r h2 h3
  exact ⟨w2,by simp only [Ef];rw [h0];simp only [h1];rw [<-h1'];exact h4,h5⟩
theorem gC {P:Nat->Prop} : ∀(l:List Nat),AL l P-> ∀i∈l,P i
 | [],_,i,hi=>by cases hi
 | [k],h,i,hi=>by rw [Ad.1 hi];exact h
 |k::j::r,h,i,hi=>by
  rcases Ay.1 hi with rfl|hi
  ·exact h.1
  ·exact gC (j::r) h.2 i hi
theorem fL {ops:Array Oper} {K:WS->Prop} : ∀(f:Nat) (Ae:Array Bool) {w:WS} (_:w.OK),ye T Γ ops f Ae w K->anyS T Γ ops (λs=> ∃w':WS,w'.st=s/\w'.OK/\K w') f Ae w.st
 |0,Ae,w,hw,h=>by
  unfold ye at h
  split at h
  ·rename_i hr;exact ⟨hr,w,rfl,hw,h⟩
  ·cases h
 |f+1,Ae,w,hw,h=>by
  unfold ye at h
  split at h
  ·cases h
  ·rename_i i r hr
   refine ⟨by rw [hr];simp,λk hk=>?_⟩
   rw [hr] at hk
   obtain ⟨o,h0,h1⟩:=Bh.1 (gC _ h k hk)
   obtain ⟨w1,h2,h3,h4⟩:=Xm hw h1
   exact ⟨o,w1.st,h0,h2,fL f _ h3 h4⟩
theorem Zp: ∀(l:List Oper) (d:Nat),d∈Hx l-> ∃o∈l,o.dst=some d
 | [],d,h=>by simp [Hx] at h
 |o::r,d,h=>by
  simp only [Hx] at h
  cases ho:o.dst with
  |none=>
   rw [ho] at h
   obtain ⟨o',h1,h2⟩:=Zp r d (by simpa using h)
   exact ⟨o',Aq _ h1,h2⟩
  |some e=>
   rw [ho] at h
   rcases Ay.1 (by simpa using h) with h|h
   ·exact ⟨o,by simp,by rw [ho,h]⟩
   ·obtain ⟨o',h1,h2⟩:=Zp r d h
    exact ⟨o',Aq _ h1,h2⟩
theorem gW {ops:Array Oper} {K:WS->Prop} : ∀(f:Nat) (Ae:Array Bool) {w:WS} (_:w.OK),Ww T Γ ops f Ae w K-> ∃w':WS,Dy (λt=>Ot ops t=true) w.st w'.st/\w'.OK/\K w'
 |0,Ae,w,hw,h=>by
  simp only [Ww] at h
  split at h
  ·exact ⟨w,λ_ _ _ _ _ hx=>hx,hw,h⟩
  ·exact h.elim
 |f+1,Ae,w,hw,h=>by
  simp only [Ww] at h
  split at h
  ·exact h.elim
  ·obtain ⟨o,ho,h1⟩:=Bh.1 h
   obtain ⟨w',h2,h3,h4⟩:=Xm hw h1
   obtain ⟨w2,g1,g2⟩:=gW f _ h3 h4
   refine ⟨w2,((Wu h2).mono λt ht hd=>?_).trans g1,g2⟩
   unfold Ot Tm at ht
   have:(ops.toList.any λo=>o.dst==some t)=true:=Dv.2 ⟨o,jk ho,by rw [hd];exact beq_self_eq_true _⟩
   rw [this] at ht
   cases ht
theorem gm (p:Nat->Bool): ∀(i:Nat) (l0 l1:List AV),(∀t,(l0.getD t .undef).Sx=true->p (i+t)=true->l1.getD t .undef=l0.getD t .undef)->
  Qr (Hu p i l0) l0 (Pq (Hu p i l0) l1)=l1
 |_,[],l1,_=>by simp [Hu,Pq,Qr]
 |i,a::r,[],_=>by
  simp only [Hu]
  cases (a.Sx&&p i)<;>simp [Pq,Qr]
 |i,a::r,b::s,h=>by
  have hr:=gm p (i+1) r s λt h1 h2=>by
   have:=h (t+1) (by simpa using h1) (by rw [show i+(t+1)=i+1+t by omega];exact h2)
   simpa using this
  simp only [Hu]
  cases hc:(a.Sx&&p i) with
  |false=>simp only [Pq,Qr];rw [hr]
  |true=>
   simp only [Pq,Qr]
   rw [hr]
   simp only [Ag] at hc
   have:=h 0 (by simpa using hc.1) hc.2
   simp only [bO] at this
   rw [this]
theorem bl: ∀(f:List Bool) (l:List AV),(Pq f l).length=l.length
 | [],l=>by simp [Pq]
 |true::f,[]=>by simp [Pq]
 |false::f,[]=>by simp [Pq]
 |true::f,a::l=>by simp [Pq,bl f l]
 |false::f,a::l=>by simp [Pq,bl f l]
theorem yp {p:Nat->Bool} {w1 s0 s:St} (h1:Dy (λt=>p t=true) w1 s0) (h2:Dy (λt=>p t=true) w1 s) (h:YP (Hu p 0 w1.tmps) s0 s):s=s0:=by
 have e:=Zz h
 simp only [St.mask,St.mk.injEq] at e
 have key: ∀ {a:St},Dy (λt=>p t=true) w1 a->Qr (Hu p 0 w1.tmps) w1.tmps (Pq (Hu p 0 w1.tmps) a.tmps)=a.tmps:= λ {a} ha=>gm p 0 _ _ λt ht hp=>by
  rw [Dp] at hp
  cases hc:w1.tmps.getD t .undef with
  | «at»c=>
   cases c with
   |data fr τ x=>exact ha t fr τ x hp hc
   |_=>rw [hc] at ht;cases ht
  |_=>rw [hc] at ht;cases ht
 have e1:=key h1
 have e2:=key h2
 rw [e.1,e1] at e2
 obtain ⟨_,e4⟩:=e
 cases s;cases s0
 simp only at e2 e4
 rw [e4,e2]
theorem Vn {ops:Array Oper} {K:WS->Prop} : ∀(f:Nat) (Ae:Array Bool) {w:WS} (_:w.OK),Ww T Γ ops f Ae w K-> ∃w':WS,w'.OK/\K w'
 |0,Ae,w,hw,h=>by
  simp only [Ww] at h
  split at h
  ·exact ⟨w,hw,h⟩
  ·exact h.elim
 |f+1,Ae,w,hw,h=>by
  simp only [Ww] at h
  split at h
  ·exact h.elim
  ·obtain ⟨o,ho,h1⟩:=Bh.1 h
   obtain ⟨w',h2,h3,h4⟩:=Xm hw h1
   exact Vn f _ h3 h4
theorem jJ {P:List (Nat×Nat×AV×OB)} {ops:Array Oper} {K:WS->Prop} : ∀(f:Nat) (Ae:Array Bool) {w:WS} (_:w.OK),sA T Γ P ops f Ae w K->JY T Γ ops P (λs=> ∃w':WS,w'.st=s/\w'.OK/\K w') f Ae w.st
 |0,Ae,w,hw,h=>by
  unfold sA at h
  split at h
  ·rename_i hr;exact ⟨hr,w,rfl,hw,h⟩
  ·cases h
 |f+1,Ae,w,hw,h=>by
  unfold sA at h
  split at h
  ·cases h
  ·rename_i i r hr
   refine ⟨by rw [hr];simp,λk hk=>?_⟩
   rw [hr] at hk
   obtain ⟨o,h0,h1⟩:=Bh.1 (gC _ h k hk)
   split at h1
   ·rename_i kR
    obtain ⟨w1,h2,h3,h4⟩:=Xm hw h1
    exact ⟨o,w1.st,h0,kR,h2,jJ f _ h3 h4⟩
   ·cases h1
theorem u3 {α:Type} (f:α->Nat) {l:List α} (h:Uv (l.map f)=true):l.Pairwise λa c=>f a≠f c:=List.pairwise_map.1 (Sy h)
theorem Yv {ops:Array Oper} {E:List Nat} {Ae:Array Bool} {w:WS} (hw:w.OK): ∀(R:List Nat) {K:Prop},pP T Γ ops E Ae w R K->K/\ ∀r∈R,ll ops E Ae r=true\/ ∃o v,ops[r]?=some o/\Sd T Γ ops w.st o=some v/\ ∀d,o.dst=some d->w.st.get d=v
 | [],K,h=>⟨h,λr hr=>by cases hr⟩
 |r::R,K,h=>by
  unfold pP at h
  split at h
  ·rename_i XR
   obtain ⟨h1,h2⟩:=Yv hw R h
   refine ⟨h1,λq hq=>?_⟩
   rcases Ay.1 hq with rfl|hq
   ·exact .inl XR
   ·exact h2 q hq
  ·obtain ⟨h0,h⟩:=h
   obtain ⟨h1,h2⟩:=Yv hw R h
   refine ⟨h1,λq hq=>?_⟩
   rcases Ay.1 hq with rfl|hq
   ·refine .inr ?_
    obtain ⟨w',g1,_,g3⟩:=Kr _ hw h0
    obtain ⟨d,hd,g4⟩:=Bh.1 g3
    simp only [Ef] at g1
    split at g1
    ·cases g1
    rename_i o ho
    split at g1
    rotate_left
    ·cases g1
    rename_i v hv
    refine ⟨o,v,ho,hv,λd' yw=>?_⟩
    rw [ho] at hd
    have OZ:o.dst=some d:=hd
    rw [yw] at OZ
    cases OZ
    split at g4
    ·rename_i hl
     have e:=Zz g4
     have e1:w'.st.get d=w.st.get d:=by
      have:=Fh (λs:St=>s.tmps) e
      simpa using this
     rw [<-e1]
     have e2:w.st.put o.dst v=w'.st:=Aw g1
     rw [<-e2,show o.dst=some d from hd]
     show (Oo w.st.tmps d v).getD d .undef=v
     rw [Ng,Af ⟨rfl,by simpa [Ki] using hl⟩]
    ·cases g4
   ·exact h2 q hq
theorem Xw {ops:Array Oper} {E:List Nat} {K:WS->Prop} : ∀(f:Nat) (Ae:Array Bool) {w:WS} (_:w.OK),lC T Γ ops E f Ae w K->kJ T Γ ops E (λs=> ∃w':WS,w'.st=s/\w'.OK/\K w') f Ae w.st
 |0,Ae,w,hw,h=>by
  unfold lC at h
  obtain ⟨h,hs⟩:=Yv hw _ h
  split at h
  ·rename_i hr;exact ⟨hs,hr,w,rfl,hw,h⟩
  ·cases h
 |f+1,Ae,w,hw,h=>by
  unfold lC at h
  obtain ⟨h,hs⟩:=Yv hw _ h
  split at h
  ·cases h
  ·rename_i i r hr
   refine ⟨hs,by rw [hr];simp,λk hk=>?_⟩
   rw [hr] at hk
   obtain ⟨o,h0,h1⟩:=Bh.1 (gC _ h k hk)
   obtain ⟨w1,h2,h3,h4⟩:=Xm hw h1
   exact ⟨o,w1.st,h0,h2,Xw f _ h3 h4⟩
theorem rv {ops:Array Oper} {E:List Nat} {L0:Array Bool} {n:Nat} {w:WS} (hw:w.OK) {K:WS->Prop} (h:wz T Γ E n L0 ops w K):FL T Γ ops (λs=> ∃w':WS,w'.st=s/\w'.OK/\K w') n L0 w.st:=by
 unfold wz at h
 split at h
 ·rename_i hb
  simp only [Ag] at hb
  obtain ⟨b1,b2,b3⟩:=hb
  obtain ⟨w1,h1,h2,h3⟩:=Kr _ hw h
  have h3:=Ld.1 h3
  obtain ⟨w0,g1,g2⟩:=Vn _ _ h2 h3
  obtain ⟨g3,g4⟩:=Ld.1 g2
  refine ⟨E,w1.st,b1,Nat.le_of_ble_eq_true b2,h1,Vx (λs hs=>?_) _ _ _ (Xw _ _ h2 g4)⟩
  obtain ⟨w',h5,_,h6⟩:=hs
  exact ⟨w0,((h5.symm.trans (Zz (Ld.1 h6))).symm),g1,g3⟩
 ·cases h
theorem Zm {ops:Array Oper} {t:Nat} :Ot ops t=true->t∉Hx ops.toList:= λh hm=>by
 obtain ⟨o,ho,hd⟩:=Zp _ _ hm
 unfold Ot Tm at h
 have:(ops.toList.any λo=>o.dst==some t)=true:=Dv.2 ⟨o,ho,by rw [hd];exact beq_self_eq_true _⟩
 rw [this] at h
 cases h
theorem sB {ops:Array Oper} {E:List Nat} {K:St->Prop} (s0:St) (f:Nat) (Ae:Array Bool) (st:St) (hk:Dy (λt=>Ot ops t=true) s0 st) (h:kJ T Γ ops E K f Ae st):
  kJ T Γ ops E (λs=>K s/\Dy (λt=>Ot ops t=true) s0 s) f Ae st:=by
 have h1:=fK (draw:=true) st f Ae st (λ_ _ _ _ _ hx=>hx) h
 exact Vx (λs hs=>⟨hs.1,hk.trans (hs.2.mono λt ht=>Zm ht)⟩) _ _ _ h1
theorem WS.OK.Mw {w:WS} (hw:w.OK) (dead:List Nat):(w.Mw dead).OK:=by
 intro t b hb
 have key: ∀(l:List (Nat×Bool)),ir (l.filter λp=>!dead.contains p.1) t=some b->dead.contains t=false/\ir l t=some b:=by
  intro l
  induction l with
  |nil=>intro h;cases h
  |cons q r ih=>
   intro h
   obtain ⟨k,c⟩:=q
   by_cases hk:dead.contains k=true
   ·rw [List.filter_cons_of_neg (by rw [hk];decide)] at h
    obtain ⟨h1,h2⟩:=ih h
    refine ⟨h1,?_⟩
    unfold ir
    rw [Aj (λe=>by subst e;rw [h1] at hk;cases hk)]
    exact h2
   ·have hk:dead.contains k=false:=by simpa using hk
    rw [List.filter_cons_of_pos (by rw [hk];rfl)] at h
    unfold ir at h⊢
    split at h
    ·rename_i e
     subst e
     rw [Af rfl]
     exact ⟨hk,h⟩
    ·rename_i e
     rw [Aj e]
     exact ih h
 obtain ⟨h1,h2⟩:=key _ hb
 obtain ⟨fr,h3⟩:=hw t b h2
 refine ⟨fr,?_⟩
 show (w.st.Mw dead).get t=_
 unfold St.Mw
 refine Px _ _ t fr _ _ ?_
 show (Fy _ 0 w.st.tmps).getD t .undef=_
 rw [Rf _ 0 w.st.tmps t ?_]
 ·exact h3
 ·refine Bk.2 ⟨Ho.2 ?_,by rw [Dp,h1];rfl⟩
  refine Cd λhn=>?_
  have:w.st.get t= .undef:=by
   unfold St.get
   rw [An,Ee (by omega)];rfl
  rw [h3] at this
  cases this
theorem u6 {ops:Array Oper} {dead E:List Nat} (b3:dead.all (Tm ops)=true) {L0:Array Bool} {n:Nat} {w:WS} (hw:w.OK) {K:WS->Prop} (h:DC T Γ dead E n L0 ops w K):FL T Γ ops (λs=> ∃w':WS,w'.st=s.Mw dead/\w'.OK/\K w') n L0 w.st:=by
 unfold DC at h
 split at h
 ·rename_i hb
  simp only [Ag] at hb
  obtain ⟨b1,b2⟩:=hb
  obtain ⟨w1,h1,h2,h3⟩:=Kr _ hw h
  have h3:=Ld.1 h3
  refine ⟨E,w1.st,b1,Nat.le_of_ble_eq_true b2,h1,?_⟩
  split at h3
  ·refine Vx (λs hs=>?_) _ _ _ (Xw _ _ h2 h3)
   obtain ⟨w',h5,h6,h7⟩:=hs
   exact ⟨w'.Mw dead,by rw [<-h5];rfl,h6.Mw _,h7⟩
  ·rw [ba] at h3
   obtain ⟨w0,g0,g1,g2⟩:=gW _ _ h2 h3
   obtain ⟨g3,g4⟩:=Ld.1 g2
   refine Vx (λs hs=>?_) _ _ _ (sB w1.st _ _ _ (λ_ _ _ _ _ hx=>hx) (Xw _ _ h2 g4))
   obtain ⟨⟨w',h5,_,h6⟩,h7⟩:=hs
   have h6:=Ld.1 h6
   have k1:Dy (λt=>Ot ops t=true) w1.st (w0.Mw dead).st:=g0.trans ((dr b3 w0.st).mono λt ht=>Zm ht)
   have k2:Dy (λt=>Ot ops t=true) w1.st (w'.Mw dead).st:=by
    show Dy _ w1.st (w'.st.Mw dead)
    rw [h5]
    exact h7.trans ((dr b3 s).mono λt ht=>Zm ht)
   have e:=yp k1 k2 h6
   refine ⟨w0.Mw dead,?_,g1.Mw _,g3⟩
   rw [<-e,<-h5]
   rfl
 ·cases h
theorem nJ {ops:Array Oper} {L0:Array Bool} {n:Nat} {w:WS} (hw:w.OK) {K:WS->Prop} (hc:Pv ops L0) (h:qc T Γ (Uc T ops L0) n L0 ops w K):anyS T Γ ops (λs=> ∃w':WS,w'.st=s/\w'.OK/\K w') n L0 w.st\/FL T Γ ops (λs=> ∃w':WS,w'.st=s/\w'.OK/\K w') n L0 w.st:=by
 unfold qc at h
 split at h
 ·rename_i hb
  simp only [Ag] at hb
  obtain ⟨⟨b1,b2⟩,b3,b4,b5⟩:=hb
  have hm: ∀a∈Uc T ops L0,a.1∈Region.ready .any ops L0/\ ∃o,ops[a.1]?=some o/\aP T o=some a.2:= λa ha=>q9 ha
  have p1:=u3 (λa:Nat×Nat×AV×OB=>a.1) b1
  have p2:=u3 (λa:Nat×Nat×AV×OB=>a.2.1) b2
  have hlen:(Uc T ops L0).length<=n:=Nat.le_of_ble_eq_true b4
  obtain ⟨w1,h1,h2,h3⟩:=bg _ hw h
  have h3:=Ld.1 h3
  obtain ⟨w0,g1,g2⟩:=Vn _ _ h2 h3
  obtain ⟨g3,g4⟩:=Ld.1 g2
  have hp:=ub (Γ:=Γ) _ w.st w1.st (λa ha=>(hm a ha).2) (λa ha=>mG (Au.1 b3 a ha)) p2 h1
  refine .inl (ee (λs hs=>?_) _ _ _ (yd (λa ha=>(hm a ha).2) n (n-(Uc T ops L0).length) (Uc T ops L0) _ L0 w1.st w.st (by omega) (jJ _ _ h2 g4) hp
   (FO (ops:=ops) λi hi=>by obtain ⟨a,ha,rfl⟩:=Bq.1 hi;exact (hm a ha).1) (λa ha=>ha) (p2.and p1) hc λa ha x hx=>Yq (hm a ha).1 hx))
  obtain ⟨w',h5,_,h6⟩:=hs
  exact ⟨w0,((h5.symm.trans (Zz h6)).symm),g1,g3⟩
 ·exact .inr (rv hw h)
theorem fk {ops:Array Oper} {draw:Bool} {w:WS} (hw:w.OK) {K:WS->Prop} (h:lj T Γ ops draw w K):eJ T Γ ops draw w.st (λs=> ∃w':WS,w'.st=s/\w'.OK/\K w'):=by
 unfold lj at h
 split at h
 ·split at h
  ·rename_i ho
   obtain ⟨w1,h1,h2,h3⟩:=Kr _ hw h
   obtain ⟨w2,h4,h5⟩:=bg _ h2 h3
   exact .inl ⟨w2.st,by simp only [Nx,Nh];rw [Af ho,h1];exact h4,w2,rfl,h5⟩
  ·rename_i ho
   split at h
   ·rename_i WR
    obtain ⟨w1,h1,h2,h3⟩:=Kr _ hw h
    obtain ⟨w2,h4,h5⟩:=bg _ h2 h3
    exact .inl ⟨w2.st,by simp only [Nx,Nh];rw [Aj (by rw [ho];decide),Af WR,h1];exact h4,w2,rfl,h5⟩
   ·split at h
    ·rename_i hc
     simp only [Ag] at hc
     obtain ⟨w1,h1,h2,h3⟩:=Kr _ hw h
     split at h3
     ·exact .inr ⟨rfl,hc.1,w1.st,h1, .inl (fL _ _ h2 h3)⟩
     ·obtain ⟨w0,g1,g2⟩:=Vn _ _ h2 h3
      obtain ⟨g3,g4⟩:=Ld.1 g2
      exact .inr ⟨rfl,hc.1,w1.st,h1, .inl (ee (λs hs=>by
       obtain ⟨w',h5,_,h6⟩:=hs
       exact ⟨w0,((h5.symm.trans (Zz h6)).symm),g1,g3⟩) _ _ _ (fL _ _ h2 g4))⟩
    ·split at h
     ·rename_i xC
      obtain ⟨w1,h1,h2,h3⟩:=Kr _ hw h
      exact .inr ⟨rfl,xC,w1.st,h1,nJ h2 (Vj _ _ _ jM) h3⟩
     ·cases h
 ·obtain ⟨w1,h1,h2⟩:=mJ _ hw h
  exact .inl ⟨w1.st,by simp only [Nx];rw [Aj (by simp)];exact h1,w1,rfl,h2⟩
theorem oa {ops:Array Oper} {draw:Bool} {w:WS} (hw:w.OK) {K:WS->Prop} (h:rC T Γ ops draw w K):q6 T Γ ops draw w.st (λs=> ∃w':WS,w'.st=s/\w'.OK/\K w'):=by
 unfold rC at h
 split at h
 ·rename_i hb
  have b3:=(Fg.1 hb).2
  refine .inr ⟨nB ops,b3,?_⟩
  split at h
  ·rename_i hc
   simp only [Ag,DB] at hc
   obtain ⟨w1,h1,h2,h3⟩:=Kr _ hw h
   exact .inr ⟨hc.1,hc.2.2.1,w1.st,h1, .inr (u6 b3 h2 h3)⟩
  ·exact (fk hw h).mono λs ⟨w',h1,h2,h3⟩=>⟨w'.Mw (nB ops),by rw [<-h1];rfl,h2.Mw _,h3⟩
 ·exact .inl (fk hw h)
end
end Go.Proofs.Ytfgfigkbgecfnaa
