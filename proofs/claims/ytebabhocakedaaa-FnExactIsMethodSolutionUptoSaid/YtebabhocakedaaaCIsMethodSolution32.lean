/-
  Part 33 of the proof that the statement FnExactIsMethodSolution holds.
-/
import Derived.Test.YtebabhocakedaaaCIsMethodSolution31
namespace Go.Proofs.Ytebabhocakedaaa
open Go.RowKit
section
variable {T:Tab} {Γ:Env}
def WS.OK (w:WS):Prop:= ∀t b,Alc w.kn t=some b→ ∃fr,w.st.get t= .at (.data fr .bool b)
theorem Acj: ∀(l:List (Nat×Bool)) (d t:Nat) (b:Bool),Alc (An2 l d) t=some b→t≠d∧Alc l t=some b
 | [],_,_,_,h=>by cases h
 |(k,c)::r,d,t,b,h=>by
  simp only [An2] at h
  split at h
  ·rename_i hk
   have:=Acj r d t b h
   refine ⟨this.1,?_⟩
   simp only [Alc]
   rw [if_neg (by rw [hk];exact fun h=>this.1 h.symm)]
   exact this.2
  ·rename_i hk
   simp only [Alc] at h⊢
   split at h
   ·rename_i hkt
    exact ⟨by rw [←hkt];exact hk,by rw [if_pos hkt];exact h⟩
   ·rename_i hkt
    rw [if_neg hkt]
    exact Acj r d t b h
theorem WS.OK.put {w:WS} (h:w.OK) (dst:Option Tmp) (v:AV):(w.put dst v).OK:=by
 cases dst with
 |none=>exact h
 |some d=>
  intro t b hb
  obtain ⟨h1,h2⟩:=Acj _ _ _ _ hb
  obtain ⟨fr,h3⟩:=h t b h2
  exact ⟨fr,by show (w.st.put (some d) v).get t=_;rw [Rd _ _ h1];exact h3⟩
theorem WS.Ak0 (w:WS) (dst:Option Tmp) (v:AV):(w.put dst v).st=w.st.put dst v:=by cases dst<;>rfl
theorem WS.OK.to {w:WS} (h:w.OK) {s:St} (hs:Ba w.st s):(w.to s).OK:=by
 intro t b hb
 obtain ⟨fr,h3⟩:=h t b hb
 exact ⟨fr,hs t fr _ _ h3⟩
theorem Aml {w:WS} (hw:w.OK) {t:Nat} {K:Bool→WS→Prop} (h:brT w t K):
  ∃fr b w',w.st.get t= .at (.data fr .bool b)∧w'.st=w.st∧w'.OK∧K b w':=by
 unfold brT at h
 split at h
 ·rename_i b hb
  obtain ⟨fr,h1⟩:=hw t b hb
  exact ⟨fr,b,w,h1,rfl,hw,h⟩
 ·split at h
  ·rename_i fr b hb
   obtain ⟨h1,h2⟩:=h
   have ok: ∀c:Bool,b=c→WS.OK {kn:=(t,c)::w.kn,st:=w.st} :=by
    intro c hc t' b' h'
    simp only [Alc] at h'
    split at h'
    ·rename_i ht
     injection h' with h'
     exact ⟨fr,by rw [←ht,←h',←hc];exact hb⟩
    ·exact hw t' b' h'
   cases b with
   |true=>exact ⟨fr,true, {kn:=(t,true)::w.kn,st:=w.st},hb,rfl,ok true rfl,h1 rfl⟩
   |false=>exact ⟨fr,false, {kn:=(t,false)::w.kn,st:=w.st},hb,rfl,ok false rfl,h2 rfl⟩
  ·cases h
theorem Amk {w:WS} (hw:w.OK) {c:Operand} {K:Bool→WS→Prop} (h:brO w c K):
  ∃fr b w',w.st.ev c= .at (.data fr .bool b)∧w'.st=w.st∧w'.OK∧K b w':=by
 unfold brO at h
 split at h
 ·exact Aml hw h
 ·exact ⟨true,_,w,rfl,rfl,hw,h⟩
 ·cases h
theorem Av6 {op:BinOp} {t:TypeId} {x y:AV} {K:AV→Prop} (h:Bep T op t x y K): ∃v,Ks T op t x y=some v∧K v:=by
 unfold Bep at h
 split at h
 ·split at h
  ·rename_i hk
   exact ⟨_,by simp only [Ks,evalBin,Aj6];rw [if_pos hk,if_neg h.1];rfl,h.2⟩
  ·cases h
 ·split at h
  ·rename_i hk
   exact ⟨_,by simp only [Ks,evalBin,Aj6];rw [if_pos hk,if_neg h.1];rfl,h.2⟩
  ·cases h
 ·exact ⟨_,by simp only [Ks,evalBin];rw [if_neg h.1];rfl,h.2⟩
 ·exact ⟨_,by simp only [Ks,evalBin];rw [if_neg h.1];rfl,h.2⟩
 ·exact ⟨_,by simp only [Ks,evalBin];rw [if_pos h.1],h.2⟩
 ·exact An.1 h
theorem Ass {st:St} {t:TypeId} {p:AV} {K:AV→Prop} (h:Bbj T st t p K): ∃v,Iv T st t p=some v∧K v:=by
 unfold Bbj at h
 split at h
 ·obtain ⟨τ,h1,h2⟩:=An.1 h
  split at h2
  ·rename_i hb
   split at h2
   ·rename_i he
    obtain ⟨x,h3,h4⟩:=h2
    exact ⟨_,by simp only [Iv,h1,hb,if_pos he,h3];rfl,h4⟩
   ·cases h2
  ·rename_i hb
   split at h2
   ·rename_i he
    obtain ⟨x,h3,h4⟩:=h2
    exact ⟨_,by simp only [Iv,h1,hb,if_pos he,h3];rfl,h4⟩
   ·cases h2
  ·rename_i hb
   split at h2
   ·cases h2
   ·rename_i he
    exact ⟨_,by simp only [Iv,h1,hb,if_neg he],h2⟩
  ·cases h2
 ·obtain ⟨τ,h1,h2⟩:=An.1 h
  split at h2
  ·rename_i he
   obtain ⟨y,h3,h4⟩:=h2
   subst h3
   exact ⟨_,by simp only [Iv,h1,if_pos he],h4⟩
  ·cases h2
 ·exact An.1 h
theorem Af8 {s:TypeId} {x:AV} {f:Nat} {K:AV→Prop} (h:Aca T s x f K): ∃v,Hi T s x f=some v∧K v:=by
 unfold Aca at h
 split at h
 ·obtain ⟨y,h1,h2⟩:=h
  subst h1
  obtain ⟨v,h3,h4⟩:=An.1 h2
  refine ⟨v,?_,h4⟩
  rw [←h3]
  unfold Hi
  cases T.off s f<;>rfl
 ·exact An.1 h
theorem Aqd {st:St} {t:TypeId} {x:AV} {lo hi:Option AV} {K:AV→Prop} (h:Awy T st t x lo hi K): ∃v,Tz T st t x lo hi=some v∧K v:=by
 unfold Awy at h
 obtain ⟨n,h1,h⟩:=An.1 h
 obtain ⟨l,h2,h⟩:=An.1 h
 obtain ⟨hh,h3,hc,h⟩:=An.1 h
 obtain ⟨v,h4,h5⟩:=An.1 h
 refine ⟨v,?_,h5⟩
 simp only [Tz,h1,h2,h3,if_pos hc]
 exact h4
theorem Aff {st:St} {t:TypeId} {x i:AV} {K:AV→Prop} (h:Ach T st t x i K): ∃v,Ez T st t x i=some v∧K v:=by
 unfold Ach at h
 split at h
 ·split at h
  ·rename_i he
   obtain ⟨x,h3,h4⟩:=h
   exact ⟨_,by simp only [Ez,if_pos he,h3];rfl,h4⟩
  ·cases h
 ·split at h
  ·rename_i hb
   split at h
   ·rename_i he
    obtain ⟨h3,h4⟩:=h
    exact ⟨_,by simp only [Ez,hb];rw [if_pos ⟨he.1,he.2,La.2 h3⟩],h4⟩
   ·cases h
  ·rename_i hb
   split at h
   ·rename_i he
    obtain ⟨h3,h4⟩:=h
    exact ⟨_,by simp only [Ez,hb];rw [if_pos ⟨he.1,he.2,La.2 h3⟩],h4⟩
   ·cases h
  ·rename_i hb
   split at h
   ·rename_i he
    obtain ⟨h3,h4⟩:=h
    exact ⟨_,by simp only [Ez,hb];rw [if_pos ⟨he.1,he.2,La.2 h3⟩],h4⟩
   ·cases h
  ·cases h
 ·split at h
  ·rename_i hb
   split at h
   ·rename_i he
    obtain ⟨h3,h4⟩:=h
    exact ⟨_,by simp only [Ez,hb];rw [if_pos ⟨he,La.2 h3⟩],h4⟩
   ·cases h
  ·cases h
 ·cases h
theorem Ap0 {t:TypeId} {x i:AV} {K:AV→Prop} (h:Avm T t x i K): ∃v,Aab T t x i=some v∧K v:=by
 unfold Avm at h
 split at h
 ·split at h
  ·rename_i he
   obtain ⟨h1,b,h3,h4⟩:=h
   exact ⟨_,by simp only [Aab,if_pos he,if_pos h1,h3];rfl,h4⟩
  ·cases h
 ·cases h
theorem Ya {st:St} {f:FuncId} {args:List AV} {K:AV→Prop} (h:Arr Γ st f args K): ∃v,Iu Γ st f args=some v∧K v:=by
 unfold Arr at h
 obtain ⟨s,h1,h⟩:=An.1 h
 have h1:Γ f=some (.q s):=by
  split at h1
  ·rename_i s' hs;injection h1 with h1;rw [hs,h1]
  ·cases h1
 split at h
 ·rename_i hf
  obtain ⟨p,h2,y,h3,h4⟩:=An.1 h
  refine ⟨_,?_,h4⟩
  simp only [Iu,h1]
  rw [if_pos hf,h2]
  simp only [h3]
  rfl
 ·cases h
theorem Aop {st:St} {v:AV} {args:List AV} {K:AV→Prop} (h:Av9 Γ st v args K): ∃u,Qg Γ st v args=some u∧K u:=by
 unfold Av9 at h
 split at h
 ·split at h
  ·rename_i hc
   obtain ⟨u,h1,h2⟩:=Ya h
   exact ⟨u,by simp only [Qg];rw [if_pos hc];exact h1,h2⟩
  ·cases h
 ·exact Ya h
 ·cases h
theorem Ig {w:WS} (hw:w.OK) {x:Operand} {b:Bool} (hk:Mi w.kn x=some b): ∃fr,w.st.ev x= .at (.data fr .bool b):=by
 unfold Mi at hk
 split at hk
 ·injection hk with hk;subst hk;exact ⟨true,rfl⟩
 ·exact hw _ _ hk
 ·cases hk
theorem Alg {w:WS} (hw:w.OK) {o:Oper} {b:Bool} (hk:Cv w.kn o=some b) {v:AV} (he:Bz T Γ w.st o=some v): ∃fr,v= .at (.data fr .bool b):=by
 unfold Cv at hk
 split at hk
 ·rename_i heq;unfold Bz at he;rw [heq] at he;injection he with he;obtain ⟨fr,h⟩:=Ig hw hk;exact ⟨fr,he.symm.trans h⟩
 ·rename_i heq;unfold Bz at he;rw [heq] at he;injection he with he;obtain ⟨fr,h⟩:=Ig hw hk;exact ⟨fr,he.symm.trans h⟩
 ·rename_i x heq
  cases hx:Mi w.kn x with
  |none=>rw [hx] at hk;cases hk
  |some c=>
   rw [hx] at hk
   injection hk with hk
   obtain ⟨fr,h⟩:=Ig hw hx
   unfold Bz at he;rw [heq] at he
   simp only [h,Aow,Ib] at he
   injection he with he
   exact ⟨true,by rw [←he,←hk]⟩
 ·rename_i c x y heq
  unfold Bz at he;rw [heq] at he
  split at hk
  ·rename_i hc
   obtain ⟨fr,h⟩:=Ig hw hc
   simp only [h,Tx,if_true] at he
   injection he with he
   obtain ⟨fr,h⟩:=Ig hw hk
   exact ⟨fr,he.symm.trans h⟩
  ·rename_i hc
   obtain ⟨fr,h⟩:=Ig hw hc
   simp only [h,Tx,Bool.false_eq_true,if_false] at he
   injection he with he
   obtain ⟨fr,h⟩:=Ig hw hk
   exact ⟨fr,he.symm.trans h⟩
  ·cases hk
 ·cases hk
theorem Ajn {w:WS} (hw:w.OK) {o:Oper} {x:Operand} (ho:o.op= .assign x) {b:Bool} (hk:Cv w.kn o=some b) {v:AV} {s:St} (he:evalOp T Γ w.st o=some (v,s)): ∃fr,v= .at (.data fr .bool b):=by
 unfold Cv at hk
 rw [ho] at hk
 obtain ⟨fr,h⟩:=Ig hw hk
 unfold evalOp at he;rw [ho] at he
 simp only [h] at he
 injection he with he;injection he with he;exact ⟨fr,he.symm⟩
theorem Zg {w:WS} (hw:w.OK) {o:Oper} {K:AV→WS→Prop} (h:qW T Γ w o K):
  ∃v w',Bz T Γ w.st o=some v∧w'.st=w.st∧w'.OK∧(∀b,Cv w'.kn o=some b→ ∃fr,v= .at (.data fr .bool b))∧K v w':=by
 have fin:(∃v w',Bz T Γ w.st o=some v∧w'.st=w.st∧w'.OK∧K v w')→ ∃v w',Bz T Γ w.st o=some v∧w'.st=w.st∧w'.OK∧(∀b,Cv w'.kn o=some b→ ∃fr,v= .at (.data fr .bool b))∧K v w':=by
  rintro ⟨v,w',h1,h2,h3,h4⟩
  exact ⟨v,w',h1,h2,h3,fun b hb=>Alg h3 hb (by rw [h2];exact h1),h4⟩
 refine fin ?_
 unfold qW at h
 split at h
 ·rename_i c a b heq
  obtain ⟨fr,t,w',h1,h2,h3,h4⟩:=Amk hw h
  cases t with
  |true=>exact ⟨_,w',by unfold Bz;rw [heq];simp only [h1,Tx,if_true];rw [←h2],h2,h3,h4⟩
  |false=>exact ⟨_,w',by unfold Bz;rw [heq];simp only [h1,Tx];rw [←h2];simp,h2,h3,h4⟩
 ·rename_i heq
  obtain ⟨v,h1,h2⟩:=Ass h
  exact ⟨v,w,by unfold Bz;rw [heq];exact h1,rfl,hw,h2⟩
 ·rename_i heq
  obtain ⟨v,h1,h2⟩:=Av6 h
  exact ⟨v,w,by unfold Bz;rw [heq];exact h1,rfl,hw,h2⟩
 ·rename_i heq
  split at h
  ·obtain ⟨v,h1,h2⟩:=Aqd h
   exact ⟨v,w,by unfold Bz;rw [heq];simpa using h1,rfl,hw,h2⟩
  ·cases h
 ·rename_i heq
  obtain ⟨v,h1,h2⟩:=Aff h
  exact ⟨v,w,by unfold Bz;rw [heq];exact h1,rfl,hw,h2⟩
 ·rename_i heq
  obtain ⟨v,h1,h2⟩:=Ap0 h
  exact ⟨v,w,by unfold Bz;rw [heq];exact h1,rfl,hw,h2⟩
 ·rename_i heq
  obtain ⟨v,h1,h2⟩:=Ya h
  exact ⟨v,w,by unfold Bz;rw [heq];exact h1,rfl,hw,h2⟩
 ·rename_i heq
  obtain ⟨v,h1,h2⟩:=Aop h
  exact ⟨v,w,by unfold Bz;rw [heq];exact h1,rfl,hw,h2⟩
 ·rename_i heq
  obtain ⟨v,h1,h2⟩:=Af8 h
  exact ⟨v,w,by unfold Bz;rw [heq];exact h1,rfl,hw,h2⟩
 ·rename_i x heq
  unfold Anc at h
  split at h
  ·rename_i fr τ z hx
   obtain ⟨y,h1,h2⟩:=h
   subst h1
   exact ⟨_,w,by unfold Bz;rw [heq];simp only [hx],rfl,hw,h2⟩
  ·obtain ⟨v,h1,h2⟩:=An.1 h
   exact ⟨v,w,h1,rfl,hw,h2⟩
 ·obtain ⟨v,h1,h2⟩:=An.1 h
  exact ⟨v,w,h1,rfl,hw,h2⟩
theorem Aqm {st:St} {t:TypeId} {p v:AV} {K:St→Prop} (h:Ax6 T st t p v K): ∃s,Lp T st t p v=some s∧K s:=by
 unfold Ax6 at h
 split at h
 ·obtain ⟨τ,h1,h⟩:=An.1 h
  obtain ⟨q,h2,h⟩:=An.1 h
  split at h
  ·rename_i hb
   obtain ⟨u,h3,h⟩:=An.1 h
   split at h
   ·rename_i hc
    obtain ⟨h4,h5⟩:=h
    obtain ⟨q1,q2⟩:=q
    obtain ⟨u1,u2⟩:=u
    exact ⟨_,by simp only [Lp,h1,h2,hb,h3];rw [dif_pos hc,if_pos h4],h5⟩
   ·cases h
  ·cases h
 ·exact An.1 h
theorem Am6 {st:St} {t:TypeId} {p v:AV} {K:St→Prop} (h:Aqi T st t p v K): ∃s,Ih T st t p v=some s∧K s:=by
 unfold Aqi at h
 unfold Ih
 split at h
 rotate_left
 ·rename_i hg;rw [hg];exact Aqm h
 rename_i hg
 rw [hg]
 simp only
 unfold Aye at h
 split at h
 ·obtain ⟨τ,h1,h⟩:=An.1 h
  obtain ⟨q,h2,h⟩:=An.1 h
  split at h
  ·rename_i hb
   obtain ⟨u,h3,h⟩:=An.1 h
   split at h
   ·rename_i hc
    obtain ⟨q1,q2⟩:=q
    obtain ⟨u1,u2⟩:=u
    exact ⟨_,by simp only [Rc,h1,h2,hb,h3];rw [dif_pos hc],h⟩
   ·cases h
  ·cases h
 ·rename_i l j
  obtain ⟨τ,h1,h⟩:=An.1 h
  split at h
  ·rename_i e te rows out kp m off len hl _
   split at h
   ·rename_i fr tr e' tid xs hm
    split at h
    ·rename_i hc
     obtain ⟨h2,h3,h4,h5⟩:=h
     have h4:out=none∨out=some j:=by
      cases out with
      |none=>exact .inl rfl
      |some i=>exact .inr (congrArg some h4)
     exact ⟨_,by simp only [Rc,h1,hl,hm];rw [dif_pos ⟨hc.1,hc.2,h2,h3,h4⟩],h5⟩
    ·cases h
   ·cases h
  ·cases h
 ·cases h
theorem Nv {st:St} {d:Nat} {t:TypeId} {x y:Operand} {K:AV→St→Prop} (h:Ad9 T st d t x y K): ∃v s,Hg T st d t x y=some (v,s)∧K v s:=by
 unfold Ad9 at h
 obtain ⟨te,h1,h⟩:=An.1 h
 obtain ⟨e,h2,h⟩:=An.1 h
 obtain ⟨q,h3,h⟩:=An.1 h
 obtain ⟨u,h4,h⟩:=An.1 h
 obtain ⟨q1,q2⟩:=q
 obtain ⟨u1,u2⟩:=u
 split at h
 ·rename_i hx
  split at h
  ·rename_i hd
   obtain ⟨h5,h6⟩:=h
   refine ⟨_,_,?_,h6⟩
   simp only [Hg,h1,h2,h3,h4]
   rw [hx]
   simp only
   rw [if_pos ⟨h5,by simpa [Nat.blt_eq] using hd⟩]
   simp
  ·cases h
 ·rename_i l off len hx
  split at h
  ·rename_i fr tr e' tid xs hb
   split at h
   ·rename_i hc
    obtain ⟨h5,h6,h7,h8⟩:=h
    refine ⟨_,_,?_,h8⟩
    simp only [Hg,h1,h2,h3,h4]
    rw [hx]
    simp only [hb]
    rw [dif_pos ⟨hc.1,hc.2.1⟩,if_pos ⟨h7,by simpa [Nat.blt_eq] using hc.2.2⟩]
    obtain ⟨hc1,hc2,hc3⟩:=hc
    subst hc1
    subst h5
    simp only [List.drop_zero,h6,List.take_length,List.length_append]
   ·cases h
  ·cases h
 ·cases h
theorem Aif {st:St} {d:Nat} {t:TypeId} {x y:Operand} {K:AV→St→Prop} (h:Aie T st d t x y K): ∃v s,Jn T st d t x y=some (v,s)∧K v s:=by
 unfold Aie at h
 cases x with
 |tmp tx=>
  simp only at h
  unfold Jn
  simp only
  cases hg:st.get tx with
  | «at»c=>
   rw [hg] at h
   cases c with
   |sub l i c=>
    simp only at h⊢
    obtain ⟨tid,h1,h⟩:=An.1 h
    split at h
    ·rename_i hl
     split at h
     ·rename_i hc
      obtain ⟨v,s,h2,h3⟩:=Nv h
      refine ⟨v,s,?_,h3⟩
      simp only [hl,h1]
      rw [if_pos hc]
      exact h2
     ·cases h
    ·cases h
   |_=>exact Nv h
  |_=>rw [hg] at h;exact Nv h
 |_=>exact Nv h
theorem Asx {st:St} {d:Nat} {t:TypeId} {l c:AV} {K:AV→St→Prop} (h:Bbo T st d t l c K): ∃v s,Qz T st d t l c=some (v,s)∧K v s:=by
 unfold Bbo at h
 split at h
 ·obtain ⟨te,h1,h⟩:=An.1 h
  obtain ⟨e,h2,h⟩:=An.1 h
  split at h
  ·rename_i hz
   obtain ⟨h3,h4,h5⟩:=h
   refine ⟨_,_,?_,h5⟩
   simp only [Bool.and_eq_true] at hz
   simp only [Qz,h1,h2]
   rw [if_pos ⟨La.2 (by exact_mod_cast h3),h4,hz.1,by simpa [Nat.blt_eq] using hz.2⟩]
   simp
  ·cases h
 ·cases h
theorem Apg {st:St} {d:Nat} {t:TypeId} {l c:AV} {K:AV→St→Prop} (h:Avy T st d t l c K): ∃v s,Nb T st d t l c=some (v,s)∧K v s:=by
 unfold Avy at h
 unfold Nb
 cases hg:Uc T t with
 |none=>rw [hg] at h;exact Asx h
 |some p=>
  obtain ⟨te,e⟩:=p
  rw [hg] at h
  simp only at h⊢
  split at h
  ·split at h
   ·rename_i hd
    obtain ⟨h3,h4,h5⟩:=h
    refine ⟨_,_,?_,h5⟩
    simp only
    rw [if_pos ⟨La.2 (by exact_mod_cast h3),h4,by simpa [Nat.blt_eq] using hd⟩]
    simp
   ·cases h
  ·cases h
theorem Ac6 {st:St} {d:Nat} {t:TypeId} {len:Nat} {parts:Array (Nat×Operand)} {K:AV→St→Prop} (h:Ve T st d t len parts K): ∃v s,Dy T st d t len parts=some (v,s)∧K v s:=by
 unfold Ve at h
 unfold Dy
 cases hg:Uc T t with
 |none=>
  rw [hg] at h
  obtain ⟨r,h1,h2⟩:=An.1 h
  exact ⟨r.1,r.2,h1,h2⟩
 |some p=>
  obtain ⟨te,e⟩:=p
  rw [hg] at h
  simp only at h⊢
  split at h
  ·rename_i x hp
   split at h
   ·rename_i m off ln hx
    split at h
    ·rename_i hm
     split at h
     ·rename_i hc
      obtain ⟨h1,h2,h3⟩:=h
      refine ⟨_,_,?_,h3⟩
      simp only [hp,hx,hm]
      rw [dif_pos ⟨hc.1,hc.2,h1,h2⟩]
     ·cases h
    ·cases h
   ·cases h
  ·cases h
theorem Aih {st:St} {d:Nat} {t:TypeId} {x y:Operand} {K:AV→St→Prop} (h:Aig T st d t x y K): ∃v s,Jo T st d t x y=some (v,s)∧K v s:=by
 unfold Aig at h
 unfold Jo
 cases hg:Uc T t with
 |none=>rw [hg] at h;exact Aif h
 |some p=>
  obtain ⟨te,e⟩:=p
  rw [hg] at h
  simp only at h⊢
  split at h
  ·rename_i l off len m off2 Ajc hx hy
   split at h
   ·rename_i hl hm
    split at h
    ·rename_i hc
     obtain ⟨h1,h2,h3,h4,h5⟩:=h
     obtain ⟨⟨rfl,rfl⟩,hc⟩:=hc
     refine ⟨_,_,?_,h5⟩
     simp only [hx,hy,hl,hm]
     rw [dif_pos (⟨⟨trivial,trivial⟩,hc,h1,h2,h3,h4⟩)]
     simp
    ·cases h
   ·cases h
  ·cases h
theorem Aqp {st:St} {io:Bool} {k:Nat} {c:CK} {a:AC} {K:c.den→List (Nat×Loc)→Prop} (h:Wr st io k c a K): ∃x t,Fv st io k c a=some (x,t)∧K x t:=by
 cases c with
 |dat τ=>
  cases a with
  |own l off len=>
   obtain ⟨p,h1,h2⟩:=An.1 h
   exact ⟨_,_,by simp only [Fv];rw [h1];rfl,h2⟩
  |clo g caps=>
   simp only [Wr] at h
   split at h
   ·rename_i hc
    obtain ⟨p,h1,h2⟩:=An.1 h
    exact ⟨_,_,by simp only [Fv];rw [if_pos hc,h1];rfl,h2⟩
   ·cases h
  |vptr l i=>
   simp only [Wr] at h
   split at h
   ·rename_i hc
    obtain ⟨p,h1,h2⟩:=An.1 h
    exact ⟨_,_,by simp only [Fv];rw [if_pos hc,h1];rfl,h2⟩
   ·cases h
  |sub l i c=>
   obtain ⟨p,h1,h2⟩:=An.1 h
   exact ⟨_,_,by simp only [Fv];rw [h1];rfl,h2⟩
  |_=>
   simp only [Wr] at h
   split at h
   ·rename_i hc
    obtain ⟨p,h1,h2⟩:=An.1 h
    exact ⟨_,_,by simp only [Fv];rw [if_pos hc,h1];rfl,h2⟩
   ·cases h
 |row e te=>
  cases a<;>simp only [Wr] at h<;>first|(cases h;done)|skip
  ·exact ⟨_,_,rfl,h⟩
  ·split at h
   ·rename_i hl
    split at h
    ·rename_i hc
     obtain ⟨h1,h2,h3⟩:=h
     exact ⟨_,_,by simp only [Fv,hl];rw [dif_pos ⟨hc.1,hc.2,h1,h2⟩],h3⟩
    ·cases h
   ·cases h
  ·split at h
   ·rename_i hl
    split at h
    ·rename_i hc
     obtain ⟨y,h1,h2⟩:=h
     exact ⟨_,_,by simp only [Fv,hl];rw [dif_pos hc,h1];rfl,h2⟩
    ·cases h
   ·cases h
 |xrow e te=>
  cases a<;>simp only [Wr] at h<;>first|(cases h;done)|skip
  ·exact ⟨_,_,rfl,h⟩
  ·split at h
   ·rename_i hl
    split at h
    ·rename_i hc
     obtain ⟨h1,h2,h3⟩:=h
     exact ⟨_,_,by simp only [Fv,hl];rw [dif_pos ⟨hc.1,hc.2,h1,h2⟩],h3⟩
    ·cases h
   ·cases h
  ·split at h
   ·rename_i hl
    split at h
    ·rename_i hc
     obtain ⟨y,h1,h2⟩:=h
     exact ⟨_,_,by simp only [Fv,hl];rw [dif_pos hc,h1];rfl,h2⟩
    ·cases h
   ·cases h
 |part e te=>
  cases a<;>simp only [Wr] at h<;>first|(cases h;done)|skip
  split at h
  ·rename_i hl
   split at h
   ·rename_i hc
    exact ⟨_,_,by simp only [Fv,hl];rw [dif_pos hc],h⟩
   ·cases h
  ·cases h
 |grid e te kp=>
  cases a<;>simp only [Wr] at h<;>first|(cases h;done)|skip
  split at h
  ·rename_i hl
   split at h
   ·rename_i hc
    obtain ⟨h1,h2,h3⟩:=h
    exact ⟨_,_,by simp only [Fv,hl];rw [dif_pos ⟨hc.1,hc.2.1,h1,h2,hc.2.2⟩],h3⟩
   ·cases h
  ·cases h
theorem Atq {st:St} {e:Ty} {ys:List e.den} {a:AC} {K:St→Prop} (h:Bc5 st e ys a K): ∃s,Awk st e ys a=some s∧K s:=by
 cases a<;>simp only [Bc5] at h<;>first|(cases h;done)|skip
 split at h
 ·rename_i hl
  split at h
  ·rename_i hc
   obtain ⟨h1,h3⟩:=h
   exact ⟨_,by simp only [Awk,hl];rw [dif_pos ⟨hc,h1⟩],h3⟩
  ·cases h
 ·cases h
theorem Abn {st:St} : ∀(cs:List (Bool×CK)) (k:Nat) (as:List AC) (K:Ins.den cs→List (Nat×Loc)→Prop),Aqq st k cs as K→ ∃x t,Ws st k cs as=some (x,t)∧K x t
 | [],_,[],_,h=>⟨_,_,rfl,h⟩
 | [],_,_::_,_,h=>h.elim
 |_::_,_,[],_,h=>h.elim
 |p::r,k,a::as,K,h=>by
  obtain ⟨x,t1,h1,h2⟩:=Aqp h
  obtain ⟨y,t2,h3,h4⟩:=Abn r (k+1) as _ h2
  exact ⟨_,_,by simp only [Ws,h1,h3],h4⟩
theorem Ah4 {st:St} {c:CK} {ys:c.den} {a:AC} {K:St→Prop} (h:Ah3 st c ys a K): ∃s,Rx st c ys a=some s∧K s:=by
 cases c with
 |dat τ=>cases a<;>simp only [Ah3] at h<;>first|(cases h;done)|exact ⟨_,rfl,h⟩
 |row e te=>
  cases a<;>simp only [Ah3] at h<;>first|(cases h;done)|skip
  ·exact ⟨_,rfl,h⟩
  ·split at h
   ·rename_i hl
    split at h
    ·rename_i hc
     obtain ⟨h1,h3⟩:=h
     exact ⟨_,by simp only [Rx,hl];rw [dif_pos ⟨hc,h1⟩],h3⟩
    ·cases h
   ·cases h
  ·split at h
   ·rename_i hl
    split at h
    ·rename_i hc
     obtain ⟨y,h1,h2,h3⟩:=h
     exact ⟨_,by simp only [Rx,hl,dif_pos hc,h1];rw [if_pos h2],h3⟩
    ·cases h
   ·cases h
 |xrow e te=>
  cases a<;>simp only [Ah3] at h<;>first|(cases h;done)|skip
  ·exact ⟨_,rfl,h⟩
  ·split at h
   ·rename_i hl
    split at h
    ·rename_i hc
     obtain ⟨h1,h3⟩:=h
     exact ⟨_,by simp only [Rx,hl];rw [dif_pos ⟨hc,h1⟩],h3⟩
    ·cases h
   ·cases h
  ·split at h
   ·rename_i hl
    split at h
    ·rename_i hc
     obtain ⟨y,h1,h2,h3⟩:=h
     exact ⟨_,by simp only [Rx,hl,dif_pos hc,h1];rw [if_pos h2],h3⟩
    ·cases h
   ·cases h
 |part e te=>cases a<;>simp only [Ah3] at h<;>first|(cases h;done)|exact ⟨_,rfl,h⟩
 |grid e te kp=>cases a<;>simp only [Ah3] at h<;>first|(cases h;done)|exact ⟨_,rfl,h⟩
theorem Im: ∀(cs:List (Bool×CK)) (o:IOs.den cs) (as:List AC) (st:St) (K:St→Prop),Zf cs o as st K→ ∃s,Di cs o as st=some s∧K s
 | [],_,_,st,K,h=>⟨st,rfl,h⟩
 |(true, .dat _)::r,o,[],st,K,h=>h.elim
 |(true, .row _ _)::r,o,[],st,K,h=>h.elim
 |(true, .xrow _ _)::r,o,[],st,K,h=>h.elim
 |(true, .part _ _)::r,o,[],st,K,h=>h.elim
 |(true, .grid _ _ _)::r,o,[],st,K,h=>h.elim
 |(true, .grid _ _ _)::r,o,a::as,st,K,h=>by
  obtain ⟨s,h1,h2⟩:=Im r o as st K h
  exact ⟨s,by simp only [Di];exact h1,h2⟩
 |(false,_)::r,o,[],st,K,h=>h.elim
 |(true, .dat _)::r,o,a::as,st,K,h=>by
  obtain ⟨s,h1,h2⟩:=Im r o as st K h
  exact ⟨s,by simp only [Di];exact h1,h2⟩
 |(false,_)::r,o,a::as,st,K,h=>by
  obtain ⟨s,h1,h2⟩:=Im r o as st K h
  exact ⟨s,by simp only [Di];exact h1,h2⟩
 |(true, .row _ _)::r,o,a::as,st,K,h=>by
  obtain ⟨s1,h1,h2⟩:=Ah4 h
  obtain ⟨s,h3,h4⟩:=Im r o.2 as s1 K h2
  exact ⟨s,by simp only [Di,h1];exact h3,h4⟩
 |(true, .part _ _)::r,o,a::as,st,K,h=>by
  obtain ⟨s1,h1,h2⟩:=Atq h
  obtain ⟨s,h3,h4⟩:=Im r o.2 as s1 K h2
  exact ⟨s,by simp only [Di,h1];exact h3,h4⟩
 |(true, .xrow _ _)::r,o,a::as,st,K,h=>by
  obtain ⟨s1,h1,h2⟩:=Ah4 h
  obtain ⟨s,h3,h4⟩:=Im r o.2 as s1 K h2
  exact ⟨s,by simp only [Di,h1];exact h3,h4⟩
theorem Ahb {H:List (Nat×OB)} {ls:List Nat} {n:Nat} {K:Prop} : ∀(l:List AV),Akr H ls n l K→Tl H ls n l=true∧K
 | [],h=>⟨rfl,h⟩
 |a::r,h=>by
  have go:Akr H ls n r K→Tl H ls n r=true∧K:=Ahb r
  cases a with
  | «at»c=>
   cases c with
   |sub l i c=>
    simp only [Akr] at h
    simp only [Tl]
    split at h
    ·rename_i hc
     obtain ⟨⟨h1,h2⟩,h3⟩:=h
     obtain ⟨g1,g2⟩:=go h3
     exact ⟨by simp only [hc,g1,Bool.and_true,Bool.not_true,Bool.false_or,Bool.and_eq_true,Nat.blt_eq];exact ⟨h1,h2⟩,g2⟩
    ·rename_i hc
     obtain ⟨g1,g2⟩:=go h
     exact ⟨by simp only [hc,g1,Bool.not_false,Bool.true_or,Bool.and_true],g2⟩
   |_=>exact go h
  |_=>exact go h
theorem Aoo {st:St} {d:Option Nat} {s:Bp} {args:List AV} {K:AV→St→Prop} (h:Av8 st d s args K): ∃v s',Na st d s args=some (v,s')∧K v s':=by
 unfold Av8 at h
 obtain ⟨⟨pl,cells,rest⟩,h0,h⟩:=An.1 h
 obtain ⟨as,h1,h⟩:=An.1 h
 obtain ⟨x,tks,h2,h⟩:=Abn s.ins 0 (cells++as) _ h
 split at h
 ·rename_i hc
  obtain ⟨⟨r,o⟩,h3,h⟩:=h
  obtain ⟨st1,h4,h⟩:=Im s.ins o (cells++as) st _ h
  obtain ⟨v,h5,h6⟩:=An.1 h
  obtain ⟨h7,h6⟩:=Ahb _ h6
  refine ⟨v,_,?_,h6⟩
  unfold Na
  simp only [h0,h1,h2]
  rw [if_pos hc]
  simp only [h3,h4,h5]
  rw [if_pos h7]
 ·cases h
theorem Az6 {w:WS} (hw:w.OK) {o:Oper} {K:AV→WS→Prop} (h:opW T Γ w o K):
  ∃v w',evalOp T Γ w.st o=some (v,w'.st)∧w'.OK∧(∀b,Cv w'.kn o=some b→ ∃fr,v= .at (.data fr .bool b))∧K v w':=by
 have fin: ∀v s,(∀b,Cv w.kn o=some b→ ∃fr,v= .at (.data fr .bool b))→evalOp T Γ w.st o=some (v,s)→K v (w.to s)→ ∃v w',evalOp T Γ w.st o=some (v,w'.st)∧w'.OK∧(∀b,Cv w'.kn o=some b→ ∃fr,v= .at (.data fr .bool b))∧K v w':=
  fun v s hk h1 h2=>⟨v,w.to s,h1,hw.to (Adq h1),hk,h2⟩
 have fin2:(∀b v s,Cv w.kn o=some b→evalOp T Γ w.st o=some (v,s)→ ∃fr,v= .at (.data fr .bool b))→Dg (evalOp T Γ w.st o) (fun r=>K r.1 (w.to r.2))→ ∃v w',evalOp T Γ w.st o=some (v,w'.st)∧w'.OK∧(∀b,Cv w'.kn o=some b→ ∃fr,v= .at (.data fr .bool b))∧K v w':=by
  intro hk h
  obtain ⟨r,h1,h2⟩:=An.1 h
  exact fin r.1 r.2 (fun b hb=>hk b _ _ hb h1) h1 h2
 unfold opW at h
 split at h
 ·rename_i heq
  obtain ⟨s,h1,h2⟩:=Am6 h
  refine fin _ _ (fun b hb=>by unfold Cv at hb;rw [heq] at hb;cases hb) ?_ h2
  unfold evalOp;rw [heq];simp only [h1];rfl
 ·rename_i heq
  obtain ⟨d,h1,h⟩:=An.1 h
  obtain ⟨v,s,h2,h3⟩:=Apg h
  refine fin _ _ (fun b hb=>by unfold Cv at hb;rw [heq] at hb;cases hb) ?_ h3
  unfold evalOp;rw [heq];simp only [h1,h2]
 ·rename_i heq
  split at h
  ·rename_i hd ha ht
   split at h
   ·rename_i htt
    obtain ⟨v,s,h2,h3⟩:=Aih h
    refine fin _ _ (fun b hb=>by unfold Cv at hb;rw [heq] at hb;cases hb) ?_ h3
    unfold evalOp;rw [heq];simp only [hd,ha,ht,if_pos htt,h2]
   ·cases h
  ·cases h
 ·rename_i heq;exact fin2 (fun b v s hb he=>Ajn hw heq hb he) h
 ·rename_i heq;exact fin2 (fun b v s hb he=>by unfold Cv at hb;rw [heq] at hb;cases hb) h
 ·rename_i heq;exact fin2 (fun b v s hb he=>by unfold Cv at hb;rw [heq] at hb;cases hb) h
 ·rename_i heq
  obtain ⟨d,h1,h⟩:=An.1 h
  obtain ⟨v,s,h2,h3⟩:=Ac6 h
  refine fin _ _ (fun b hb=>by unfold Cv at hb;rw [heq] at hb;cases hb) ?_ h3
  unfold evalOp;rw [heq];simp only [h1,h2]
 ·rename_i heq;exact fin2 (fun b v s hb he=>by unfold Cv at hb;rw [heq] at hb;cases hb) h
 ·rename_i heq;exact fin2 (fun b v s hb he=>by unfold Cv at hb;rw [heq] at hb;cases hb) h
 ·rename_i heq;exact fin2 (fun b v s hb he=>by unfold Cv at hb;rw [heq] at hb;cases hb) h
 ·rename_i heq;exact fin2 (fun b v s hb he=>by unfold Cv at hb;rw [heq] at hb;cases hb) h
 ·rename_i heq;exact fin2 (fun b v s hb he=>by unfold Cv at hb;rw [heq] at hb;cases hb) h
 ·rename_i heq;exact fin2 (fun b v s hb he=>by unfold Cv at hb;rw [heq] at hb;cases hb) h
 ·
  rename_i f _ _ heq
  split at h
  ·rename_i hΓ
   obtain ⟨v,s',h1,h2⟩:=Aoo h
   refine fin v s' (fun b hb=>by unfold Cv at hb;rw [heq] at hb;cases hb) ?_ h2
   unfold evalOp;rw [heq];simp only [hΓ];exact h1
  ·rename_i s hΓ
   split at h
   ·rename_i hns
    obtain ⟨st1,hs,h⟩:=An.1 h
    obtain ⟨v,w',h1,h2,h3,h3',h4⟩:=Zg (hw.to (Pd _ hs)) h
    refine ⟨v,w',?_,h3,h3',h4⟩
    have h1:Bz T Γ st1 o=some v:=h1
    have h2:w'.st=st1:=h2
    unfold evalOp
    rw [heq]
    simp only [hΓ,hns,hs,h1,h2]
    rfl
   ·rename_i hns
    obtain ⟨v,w',h1,h2,h3,h3',h4⟩:=Zg hw h
    refine ⟨v,w',?_,h3,h3',h4⟩
    unfold evalOp
    rw [heq]
    simp only [hΓ,hns,h1,h2]
    rfl
  ·rename_i hne1 hne2
   obtain ⟨v,w',h1,h2,h3,h3',h4⟩:=Zg hw h
   refine ⟨v,w',?_,h3,h3',h4⟩
   unfold evalOp
   rw [heq]
   simp only
   rw [h1,h2];rfl
 ·rename_i n1 n2 n3 n4 n5 n6 n7 n8 n9 n10 n11 n12 n13 n14
  obtain ⟨v,w',h1,h2,h3,h3',h4⟩:=Zg hw h
  refine ⟨v,w',?_,h3,h3',h4⟩
  unfold evalOp
  split
  all_goals first
   |(rw [h1,h2];rfl)
   |(rename_i hq;exact absurd hq (by first|exact n1 _|exact n2 _|exact n3 _|exact n4 _|exact n5 _|exact n6 _|exact n7 _|exact n8 _|exact n9 _|exact n10 _|exact n11 _|exact n12 _|exact n13 _|exact n14 _))
   |(rename_i hq;exact absurd hq (by first|exact n1 _ _|exact n2 _ _|exact n3 _ _|exact n4 _ _|exact n5 _ _|exact n6 _ _|exact n7 _ _|exact n8 _ _|exact n9 _ _|exact n10 _ _|exact n11 _ _|exact n12 _ _|exact n13 _ _|exact n14 _ _))
   |(rename_i hq;exact absurd hq (by first|exact n1 _ _ _|exact n2 _ _ _|exact n3 _ _ _|exact n4 _ _ _|exact n5 _ _ _|exact n6 _ _ _|exact n7 _ _ _|exact n8 _ _ _|exact n9 _ _ _|exact n10 _ _ _|exact n11 _ _ _|exact n12 _ _ _|exact n13 _ _ _|exact n14 _ _ _))
   |(rename_i hq;exact absurd hq (by first|exact n1 _ _ _ _|exact n2 _ _ _ _|exact n3 _ _ _ _|exact n4 _ _ _ _|exact n5 _ _ _ _|exact n6 _ _ _ _|exact n7 _ _ _ _|exact n8 _ _ _ _|exact n9 _ _ _ _|exact n10 _ _ _ _|exact n11 _ _ _ _|exact n12 _ _ _ _|exact n13 _ _ _ _|exact n14 _ _ _ _))
theorem Aoz (st:St) (d:Nat) (v:AV):(st.put (some d) v).get d=v∨(st.put (some d) v).get d= .undef:=by
 simp only [St.put,St.get]
 rw [Qq]
 by_cases h:d<st.tmps.length
 ·exact .inl (by rw [if_pos ⟨rfl,h⟩])
 ·refine .inr ?_
  rw [if_neg (fun hc=>h hc.2),List.getD_eq_getElem?_getD,List.getElem?_eq_none (by omega)]
  rfl
theorem WS.OK.Alq {w:WS} (hw:w.OK) (o:Oper) (v:AV) (h: ∀b,Cv w.kn o=some b→ ∃fr,v= .at (.data fr .bool b)):(w.Alq o v).OK∧(w.Alq o v).st=w.st.put o.dst v:=by
 unfold WS.Alq
 split
 ·rename_i d b hd hk
  split
  ·rename_i fr c hg
   refine ⟨?_,by rw [hd]⟩
   obtain ⟨fr',hv⟩:=h b hk
   intro t b' hb
   simp only [Alc] at hb
   split at hb
   ·rename_i ht
    injection hb with hb
    subst ht;subst hb
    refine ⟨fr',?_⟩
    show (w.st.put (some d) v).get d=_
    cases Aoz w.st d v with
    |inl h1=>rw [h1,hv]
    |inr h1=>rw [h1] at hg;cases hg
   ·exact hw.put (some d) v t b' hb
  ·exact ⟨hw.put _ _,by rw [WS.Ak0,hd]⟩
 ·exact ⟨hw.put _ _,WS.Ak0 _ _ _⟩
theorem Aha {ops:Array Oper} {w:WS} (hw:w.OK) {o:Oper} {run:(AV→WS→Prop)→WS→Prop} {R:St→Option (AV×St)} {K:WS→Prop}
  (hr: ∀(k:AV→WS→Prop) (w:WS),w.OK→run k w→ ∃v w',R w.st=some (v,w'.st)∧w'.OK∧(∀b,Cv w'.kn o=some b→ ∃fr,v= .at (.data fr .bool b))∧k v w') (h:Abm ops w o run K):
  ∃w',(match o.guard with
   |none=>(R w.st).map fun r=>r.2.put o.dst r.1
   |some (j,want)=>match Mv w.st ((ops[j]?).bind (·.dst)) with
    |some (some b)=>if b==want then (R w.st).map fun r=>r.2.put o.dst r.1 else some (w.st.put o.dst (.at .skip))
    |some none=>some (w.st.put o.dst (.at .skip))
    |none=>none)=some w'.st∧w'.OK∧K w':=by
 have go: ∀w:WS,w.OK→run (fun v w'=>K (w'.Alq o v)) w→ ∃w',((R w.st).map fun r=>r.2.put o.dst r.1)=some w'.st∧w'.OK∧K w':=by
  intro w hw h
  obtain ⟨v,w',h1,h2,h3,h4⟩:=hr _ _ hw h
  obtain ⟨h5,h6⟩:=h2.Alq o v h3
  exact ⟨w'.Alq o v,by rw [h1,h6];rfl,h5,h4⟩
 unfold Abm at h
 split at h
 ·rename_i hg
  rw [hg]
  exact go w hw h
 ·rename_i j want hg
  rw [hg]
  obtain ⟨t,h1,h⟩:=An.1 h
  simp only [h1]
  split at h
  ·rename_i hs
   have hsk:w.st.get t= .at .skip:=by
    unfold AV.Bbg at hs
    split at hs
    ·assumption
    ·cases hs
   exact ⟨_,by simp only [Mv,hsk];rw [WS.Ak0],hw.put _ _,h⟩
  ·obtain ⟨fr,b,w',h2,h3,h4,h5⟩:=Aml hw h
   have hb:Mv w.st (some t)=some (some b):=by simp only [Mv,h2]
   rw [hb]
   simp only
   cases b with
   |true=>
    cases want with
    |true=>rw [if_pos (by decide),←h3];exact go w' h4 h5
    |false=>exact ⟨_,by rw [if_neg (by decide),←h3,WS.Ak0],h4.put _ _,h5⟩
   |false=>
    cases want with
    |false=>rw [if_pos (by decide),←h3];exact go w' h4 h5
    |true=>exact ⟨_,by rw [if_neg (by decide),←h3,WS.Ak0],h4.put _ _,h5⟩
theorem Zz {ops:Array Oper} {w:WS} (hw:w.OK) {o:Oper} {K:WS→Prop} (h:Abm ops w o (fun k w'=>opW T Γ w' o k) K): ∃w',Ca T Γ ops w.st o=some w'.st∧w'.OK∧K w':=by
 obtain ⟨w',h1,h2⟩:=Aha hw (R:=fun st=>evalOp T Γ st o) (fun k w hw h=>by
  obtain ⟨v,w',h1,h2,h2',h3⟩:=Az6 hw h
  exact ⟨v,w',h1,h2,h2',h3⟩) h
 exact ⟨w',h1,h2⟩
theorem Baz {w:WS} (hw:w.OK) {o:Oper} {K:AV→WS→Prop} (h:bW T Γ w o K):
  ∃v w',Oi T Γ w.st o=some v∧w'.st=w.st∧w'.OK∧(∀b,Cv w'.kn o=some b→ ∃fr,v= .at (.data fr .bool b))∧K v w':=by
 unfold bW at h
 split at h
 ·rename_i t len parts hop
  obtain ⟨v,h1,h2⟩:=An.1 h
  exact ⟨v,w,by unfold Oi;rw [hop];exact h1,rfl,hw,fun b hb=>by simp [Cv,hop] at hb,h2⟩
 ·rename_i t parts hop
  obtain ⟨v,h1,h2⟩:=An.1 h
  exact ⟨v,w,by unfold Oi;rw [hop];exact h1,rfl,hw,fun b hb=>by simp [Cv,hop] at hb,h2⟩
 ·rename_i n1 n2
  obtain ⟨v,w',h1,h2⟩:=Zg hw h
  refine ⟨v,w',?_,h2⟩
  rw [←h1]
  unfold Oi
  split
  ·rename_i h9;exact absurd h9 (n1 _ _ _)
  ·rename_i h9;exact absurd h9 (n2 _ _)
  ·rfl
theorem Bdv {ops:Array Oper} {w:WS} (hw:w.OK) {o:Oper} {K:WS→Prop} (h:Abm ops w o (fun k w'=>bW T Γ w' o k) K): ∃v w',Xq T Γ ops w.st o=some v∧w'.st=w.st.put o.dst v∧w'.OK∧K w':=by
 obtain ⟨w',h1,h2,h3⟩:=Aha hw (R:=fun st=>(Oi T Γ st o).map fun v=>(v,st)) (fun k w hw h=>by
  obtain ⟨v,w',h1,h2,h3,h3',h4⟩:=Baz hw h
  exact ⟨v,w',by simp only [h1,h2];rfl,h3,h3',h4⟩) h
 have key: ∀u:Option AV,((u.map fun v=>(v,w.st)).map fun r=>r.2.put o.dst r.1)=some w'.st→ ∃v,u=some v∧w'.st=w.st.put o.dst v:=by
  intro u hu
  cases u with
  |none=>cases hu
  |some v=>injection hu with hu;exact ⟨v,rfl,hu.symm⟩
 unfold Xq
 split at h1
 ·rename_i hg
  obtain ⟨v,h4,h5⟩:=key _ h1
  exact ⟨v,w',by rw [hg];exact h4,h5,h2,h3⟩
 ·rename_i j want hg
  rw [hg]
  split at h1
  ·rename_i b hb
   simp only [hb]
   split at h1
   ·rename_i hbw
    obtain ⟨v,h4,h5⟩:=key _ h1
    exact ⟨v,w',by rw [if_pos hbw];exact h4,h5,h2,h3⟩
   ·rename_i hbw
    injection h1 with h1
    exact ⟨_,w',by rw [if_neg hbw],h1.symm,h2,h3⟩
  ·rename_i hb
   simp only [hb]
   injection h1 with h1
   exact ⟨_,w',rfl,h1.symm,h2,h3⟩
  ·cases h1
theorem Ajo {ops:Array Oper} : ∀(l:List Oper) {w:WS} (_:w.OK) {K:WS→Prop},Bf0 T Γ ops l w K→ ∃w',Px T Γ ops l w.st=some w'.st∧w'.OK∧K w'
 | [],w,hw,K,h=>⟨w,rfl,hw,h⟩
 |o::r,w,hw,K,h=>by
  obtain ⟨w1,h1,h2,h3⟩:=Zz hw h
  obtain ⟨w2,h4,h5⟩:=Ajo r h2 h3
  exact ⟨w2,by simp only [Px];rw [h1];exact h4,h5⟩
theorem Vo {ops:Array Oper} : ∀(l:List Nat) {w:WS} (_:w.OK) {K:WS→Prop},Bb8 T Γ ops l w K→ ∃w',Hs T Γ ops l w.st=some w'.st∧w'.OK∧K w'
 | [],w,hw,K,h=>⟨w,rfl,hw,h⟩
 |i::r,w,hw,K,h=>by
  obtain ⟨o,h0,h⟩:=An.1 h
  obtain ⟨w1,h1,h2,h3⟩:=Zz hw h
  obtain ⟨w2,h4,h5⟩:=Vo r h2 h3
  exact ⟨w2,by simp only [Hs];rw [h0];simp only [h1];exact h4,h5⟩
theorem Om {ops:Array Oper} : ∀(l:List Nat) {w:WS} (_:w.OK) {K:WS→Prop},Amv T Γ ops l w K→ ∃w',Dh T Γ ops l w.st=some w'.st∧w'.OK∧K w'
 | [],w,hw,K,h=>⟨w,rfl,hw,h⟩
 |i::r,w,hw,K,h=>by
  obtain ⟨o,h0,h⟩:=An.1 h
  obtain ⟨v,w1,h1,h1',h2,h3⟩:=Bdv hw h
  obtain ⟨w2,h4,h5⟩:=Om r h2 h3
  exact ⟨w2,by simp only [Dh];rw [h0];simp only [h1];rw [←h1'];exact h4,h5⟩
theorem Aic {P:Nat→Prop} : ∀(l:List Nat),Bd2 l P→ ∀i∈l,P i
 | [],_,i,hi=>by cases hi
 | [k],h,i,hi=>by rw [List.mem_singleton.1 hi];exact h
 |k::j::r,h,i,hi=>by
  rcases List.mem_cons.1 hi with rfl|hi
  ·exact h.1
  ·exact Aic (j::r) h.2 i hi
theorem Ac4 {ops:Array Oper} {K:WS→Prop} : ∀(f:Nat) (listed:Array Bool) {w:WS} (_:w.OK),Ayj T Γ ops f listed w K→anyS T Γ ops (fun s=> ∃w':WS,w'.st=s∧w'.OK∧K w') f listed w.st
 |0,listed,w,hw,h=>by
  unfold Ayj at h
  split at h
  ·rename_i hr;exact ⟨hr,w,rfl,hw,h⟩
  ·cases h
 |f+1,listed,w,hw,h=>by
  unfold Ayj at h
  split at h
  ·cases h
  ·rename_i i r hr
   refine ⟨by rw [hr];simp,fun k hk=>?_⟩
   rw [hr] at hk
   obtain ⟨o,h0,h1⟩:=An.1 (Aic _ h k hk)
   obtain ⟨w1,h2,h3,h4⟩:=Zz hw h1
   exact ⟨o,w1.st,h0,h2,Ac4 f _ h3 h4⟩
theorem Vk {ops:Array Oper} {K:WS→Prop} : ∀(f:Nat) (listed:Array Bool) {w:WS} (_:w.OK),Af9 T Γ ops f listed w K→ ∃w':WS,w'.OK∧K w'
 |0,listed,w,hw,h=>by
  simp only [Af9] at h
  split at h
  ·exact ⟨w,hw,h⟩
  ·exact h.elim
 |f+1,listed,w,hw,h=>by
  simp only [Af9] at h
  split at h
  ·exact h.elim
  ·obtain ⟨o,ho,h1⟩:=An.1 h
   obtain ⟨w',h2,h3,h4⟩:=Zz hw h1
   exact Vk f _ h3 h4
theorem Age {P:List (Nat×Nat×AV×OB)} {ops:Array Oper} {K:WS→Prop} : ∀(f:Nat) (listed:Array Bool) {w:WS} (_:w.OK),Are T Γ P ops f listed w K→Ben T Γ ops P (fun s=> ∃w':WS,w'.st=s∧w'.OK∧K w') f listed w.st
 |0,listed,w,hw,h=>by
  unfold Are at h
  split at h
  ·rename_i hr;exact ⟨hr,w,rfl,hw,h⟩
  ·cases h
 |f+1,listed,w,hw,h=>by
  unfold Are at h
  split at h
  ·cases h
  ·rename_i i r hr
   refine ⟨by rw [hr];simp,fun k hk=>?_⟩
   rw [hr] at hk
   obtain ⟨o,h0,h1⟩:=An.1 (Aic _ h k hk)
   split at h1
   ·rename_i hok
    obtain ⟨w1,h2,h3,h4⟩:=Zz hw h1
    exact ⟨o,w1.st,h0,hok,h2,Age f _ h3 h4⟩
   ·cases h1
theorem At8 {α:Type} (f:α→Nat) {l:List α} (h:Pe (l.map f)=true):l.Pairwise fun a c=>f a≠f c:=List.pairwise_map.1 (Nj h)
theorem Al3 {ops:Array Oper} {L0:Array Bool} {n:Nat} {w:WS} (hw:w.OK) {K:WS→Prop} (hc:Pr ops L0) (h:Aon T Γ (Oh T ops L0) n L0 ops w K):anyS T Γ ops (fun s=> ∃w':WS,w'.st=s∧w'.OK∧K w') n L0 w.st:=by
 unfold Aon at h
 split at h
 ·rename_i hb
  simp only [Bool.and_eq_true] at hb
  obtain ⟨⟨b1,b2⟩,b3,b4,b5⟩:=hb
  have hm: ∀a∈Oh T ops L0,a.1∈Region.ready .any ops L0∧ ∃o,ops[a.1]?=some o∧Vb T o=some a.2:=fun a ha=>Aoj ha
  have p1:=At8 (fun a:Nat×Nat×AV×OB=>a.1) b1
  have p2:=At8 (fun a:Nat×Nat×AV×OB=>a.2.1) b2
  have hlen:(Oh T ops L0).length≤n:=Nat.le_of_ble_eq_true b4
  obtain ⟨w1,h1,h2,h3⟩:=Vo _ hw h
  have h3:=Vn.1 h3
  obtain ⟨w0,g1,g2⟩:=Vk _ _ h2 h3
  obtain ⟨g3,g4⟩:=Vn.1 g2
  have hp:=Atm (Γ:=Γ) _ w.st w1.st (fun a ha=>(hm a ha).2) (fun a ha=>Ajl (List.all_eq_true.1 b3 a ha)) p2 h1
  refine Aa8 (fun s hs=>?_) _ _ _ (Ayi (fun a ha=>(hm a ha).2) n (n-(Oh T ops L0).length) (Oh T ops L0) _ L0 w1.st w.st (by omega) (Age _ _ h2 g4) hp
   (Bd5 (ops:=ops) fun i hi=>by obtain ⟨a,ha,rfl⟩:=List.mem_map.1 hi;exact (hm a ha).1) (fun a ha=>ha) (p2.and p1) hc fun a ha x hx=>Zi (hm a ha).1 hx)
  obtain ⟨w',h5,_,h6⟩:=hs
  exact ⟨w0,((h5.symm.trans (Amp h6)).symm),g1,g3⟩
 ·cases h
theorem Alr {ops:Array Oper} {draw:Bool} {w:WS} (hw:w.OK) {K:WS→Prop} (h:Aq3 T Γ ops draw w K):Aof T Γ ops draw w.st (fun s=> ∃w':WS,w'.st=s∧w'.OK∧K w'):=by
 unfold Aq3 at h
 split at h
 ·split at h
  ·rename_i ho
   obtain ⟨w1,h1,h2,h3⟩:=Om _ hw h
   obtain ⟨w2,h4,h5⟩:=Vo _ h2 h3
   exact .inl ⟨w2.st,by simp only [Jp,if_true];rw [if_pos ho,h1];exact h4,w2,rfl,h5⟩
  ·rename_i ho
   split at h
   ·rename_i ho2
    obtain ⟨w1,h1,h2,h3⟩:=Om _ hw h
    obtain ⟨w2,h4,h5⟩:=Vo _ h2 h3
    exact .inl ⟨w2.st,by simp only [Jp,if_true];rw [if_neg (by rw [ho];decide),if_pos ho2,h1];exact h4,w2,rfl,h5⟩
   ·split at h
    ·rename_i hc
     simp only [Bool.and_eq_true] at hc
     obtain ⟨w1,h1,h2,h3⟩:=Om _ hw h
     split at h3
     ·exact .inr ⟨rfl,hc.1,w1.st,h1,Ac4 _ _ h2 h3⟩
     ·obtain ⟨w0,g1,g2⟩:=Vk _ _ h2 h3
      obtain ⟨g3,g4⟩:=Vn.1 g2
      exact .inr ⟨rfl,hc.1,w1.st,h1,Aa8 (fun s hs=>by
       obtain ⟨w',h5,_,h6⟩:=hs
       exact ⟨w0,((h5.symm.trans (Amp h6)).symm),g1,g3⟩) _ _ _ (Ac4 _ _ h2 g4)⟩
    ·split at h
     ·rename_i hns
      obtain ⟨w1,h1,h2,h3⟩:=Om _ hw h
      exact .inr ⟨rfl,hns,w1.st,h1,Al3 h2 (Vh _ _ _ Ars) h3⟩
     ·cases h
 ·obtain ⟨w1,h1,h2⟩:=Ajo _ hw h
  exact .inl ⟨w1.st,by simp only [Jp];rw [if_neg (by simp)];exact h1,w1,rfl,h2⟩
end
end Go.Proofs.Ytebabhocakedaaa
