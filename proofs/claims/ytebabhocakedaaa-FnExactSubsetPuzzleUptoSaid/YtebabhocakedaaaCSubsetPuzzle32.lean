/-
  Part 33 of the proof that the statement FnExactSubsetPuzzle holds.
-/
import Derived.Test.YtebabhocakedaaaCSubsetPuzzle31
namespace Go.Proofs.Ytebabhocakedaaa
open Go.RowKit
section
variable {T:Tab} {Γ:Env}
def WS.OK (w:WS):Prop:= ∀t b,Al6 w.kn t=some b→ ∃fr,w.st.get t= .at (.data fr .bool b)
theorem Ack: ∀(l:List (Nat×Bool)) (d t:Nat) (b:Bool),Al6 (Ams l d) t=some b→t≠d∧Al6 l t=some b
 | [],_,_,_,h=>by cases h
 |(k,c)::r,d,t,b,h=>by
  simp only [Ams] at h
  split at h
  ·rename_i hk
   have:=Ack r d t b h
   refine ⟨this.1,?_⟩
   simp only [Al6]
   rw [if_neg (by rw [hk];exact fun h=>this.1 h.symm)]
   exact this.2
  ·rename_i hk
   simp only [Al6] at h⊢
   split at h
   ·rename_i hkt
    exact ⟨by rw [←hkt];exact hk,by rw [if_pos hkt];exact h⟩
   ·rename_i hkt
    rw [if_neg hkt]
    exact Ack r d t b h
theorem WS.OK.put {w:WS} (h:w.OK) (dst:Option Tmp) (v:AV):(w.put dst v).OK:=by
 cases dst with
 |none=>exact h
 |some d=>
  intro t b hb
  obtain ⟨h1,h2⟩:=Ack _ _ _ _ hb
  obtain ⟨fr,h3⟩:=h t b h2
  exact ⟨fr,by show (w.st.put (some d) v).get t=_;rw [Qv _ _ h1];exact h3⟩
theorem WS.Ajz (w:WS) (dst:Option Tmp) (v:AV):(w.put dst v).st=w.st.put dst v:=by cases dst<;>rfl
theorem WS.OK.to {w:WS} (h:w.OK) {s:St} (hs:Aw w.st s):(w.to s).OK:=by
 intro t b hb
 obtain ⟨fr,h3⟩:=h t b hb
 exact ⟨fr,hs t fr _ _ h3⟩
theorem Amc {w:WS} (hw:w.OK) {t:Nat} {K:Bool→WS→Prop} (h:brT w t K):
  ∃fr b w',w.st.get t= .at (.data fr .bool b)∧w'.st=w.st∧w'.OK∧K b w':=by
 unfold brT at h
 split at h
 ·rename_i b hb
  obtain ⟨fr,h1⟩:=hw t b hb
  exact ⟨fr,b,w,h1,rfl,hw,h⟩
 ·split at h
  ·rename_i fr b hb
   obtain ⟨h1,h2⟩:=h
   have ok: ∀c:Bool,b=c→WS.OK {kn:=(t,c)::w.kn,st:=w.st} :=by
    intro c hc t' b' h'
    simp only [Al6] at h'
    split at h'
    ·rename_i ht
     injection h' with h'
     exact ⟨fr,by rw [←ht,←h',←hc];exact hb⟩
    ·exact hw t' b' h'
   cases b with
   |true=>exact ⟨fr,true, {kn:=(t,true)::w.kn,st:=w.st},hb,rfl,ok true rfl,h1 rfl⟩
   |false=>exact ⟨fr,false, {kn:=(t,false)::w.kn,st:=w.st},hb,rfl,ok false rfl,h2 rfl⟩
  ·cases h
theorem Amb {w:WS} (hw:w.OK) {c:Operand} {K:Bool→WS→Prop} (h:brO w c K):
  ∃fr b w',w.st.ev c= .at (.data fr .bool b)∧w'.st=w.st∧w'.OK∧K b w':=by
 unfold brO at h
 split at h
 ·exact Amc hw h
 ·exact ⟨true,_,w,rfl,rfl,hw,h⟩
 ·cases h
theorem Auv {op:BinOp} {t:TypeId} {x y:AV} {K:AV→Prop} (h:Bdu T op t x y K): ∃v,Kq T op t x y=some v∧K v:=by
 unfold Bdu at h
 split at h
 ·split at h
  ·rename_i hk
   exact ⟨_,by simp only [Kq,evalBin,Aj8];rw [if_pos hk,if_neg h.1];rfl,h.2⟩
  ·cases h
 ·split at h
  ·rename_i hk
   exact ⟨_,by simp only [Kq,evalBin,Aj8];rw [if_pos hk,if_neg h.1];rfl,h.2⟩
  ·cases h
 ·exact ⟨_,by simp only [Kq,evalBin];rw [if_neg h.1];rfl,h.2⟩
 ·exact ⟨_,by simp only [Kq,evalBin];rw [if_neg h.1];rfl,h.2⟩
 ·exact ⟨_,by simp only [Kq,evalBin];rw [if_pos h.1],h.2⟩
 ·exact Ak.1 h
theorem Asj {st:St} {t:TypeId} {p:AV} {K:AV→Prop} (h:Bas T st t p K): ∃v,Io T st t p=some v∧K v:=by
 unfold Bas at h
 split at h
 ·obtain ⟨τ,h1,h2⟩:=Ak.1 h
  split at h2
  ·rename_i hb
   split at h2
   ·rename_i he
    obtain ⟨x,h3,h4⟩:=h2
    exact ⟨_,by simp only [Io,h1,hb,if_pos he,h3];rfl,h4⟩
   ·cases h2
  ·rename_i hb
   split at h2
   ·rename_i he
    obtain ⟨x,h3,h4⟩:=h2
    exact ⟨_,by simp only [Io,h1,hb,if_pos he,h3];rfl,h4⟩
   ·cases h2
  ·rename_i hb
   split at h2
   ·cases h2
   ·rename_i he
    exact ⟨_,by simp only [Io,h1,hb,if_neg he],h2⟩
  ·cases h2
 ·obtain ⟨τ,h1,h2⟩:=Ak.1 h
  split at h2
  ·rename_i he
   obtain ⟨y,h3,h4⟩:=h2
   subst h3
   exact ⟨_,by simp only [Io,h1,if_pos he],h4⟩
  ·cases h2
 ·exact Ak.1 h
theorem Af4 {s:TypeId} {x:AV} {f:Nat} {K:AV→Prop} (h:Acb T s x f K): ∃v,Gv T s x f=some v∧K v:=by
 unfold Acb at h
 split at h
 ·obtain ⟨y,h1,h2⟩:=h
  subst h1
  obtain ⟨v,h3,h4⟩:=Ak.1 h2
  refine ⟨v,?_,h4⟩
  rw [←h3]
  unfold Gv
  cases T.off s f<;>rfl
 ·exact Ak.1 h
theorem Apw {st:St} {t:TypeId} {x:AV} {lo hi:Option AV} {K:AV→Prop} (h:Awk T st t x lo hi K): ∃v,Tu T st t x lo hi=some v∧K v:=by
 unfold Awk at h
 obtain ⟨n,h1,h⟩:=Ak.1 h
 obtain ⟨l,h2,h⟩:=Ak.1 h
 obtain ⟨hh,h3,hc,h⟩:=Ak.1 h
 obtain ⟨v,h4,h5⟩:=Ak.1 h
 refine ⟨v,?_,h5⟩
 simp only [Tu,h1,h2,h3,if_pos hc]
 exact h4
theorem Afa {st:St} {t:TypeId} {x i:AV} {K:AV→Prop} (h:Aci T st t x i K): ∃v,Er T st t x i=some v∧K v:=by
 unfold Aci at h
 split at h
 ·split at h
  ·rename_i he
   obtain ⟨x,h3,h4⟩:=h
   exact ⟨_,by simp only [Er,if_pos he,h3];rfl,h4⟩
  ·cases h
 ·split at h
  ·rename_i hb
   split at h
   ·rename_i he
    obtain ⟨h3,h4⟩:=h
    exact ⟨_,by simp only [Er,hb];rw [if_pos ⟨he.1,he.2,Kx.2 h3⟩],h4⟩
   ·cases h
  ·rename_i hb
   split at h
   ·rename_i he
    obtain ⟨h3,h4⟩:=h
    exact ⟨_,by simp only [Er,hb];rw [if_pos ⟨he.1,he.2,Kx.2 h3⟩],h4⟩
   ·cases h
  ·rename_i hb
   split at h
   ·rename_i he
    obtain ⟨h3,h4⟩:=h
    exact ⟨_,by simp only [Er,hb];rw [if_pos ⟨he.1,he.2,Kx.2 h3⟩],h4⟩
   ·cases h
  ·cases h
 ·split at h
  ·rename_i hb
   split at h
   ·rename_i he
    obtain ⟨h3,h4⟩:=h
    exact ⟨_,by simp only [Er,hb];rw [if_pos ⟨he,Kx.2 h3⟩],h4⟩
   ·cases h
  ·cases h
 ·cases h
theorem Aoi {t:TypeId} {x i:AV} {K:AV→Prop} (h:Avb T t x i K): ∃v,Aad T t x i=some v∧K v:=by
 unfold Avb at h
 split at h
 ·split at h
  ·rename_i he
   obtain ⟨h1,b,h3,h4⟩:=h
   exact ⟨_,by simp only [Aad,if_pos he,if_pos h1,h3];rfl,h4⟩
  ·cases h
 ·cases h
theorem Xy {st:St} {f:FuncId} {args:List AV} {K:AV→Prop} (h:Ari Γ st f args K): ∃v,Im Γ st f args=some v∧K v:=by
 unfold Ari at h
 obtain ⟨s,h1,h⟩:=Ak.1 h
 have h1:Γ f=some (.q s):=by
  split at h1
  ·rename_i s' hs;injection h1 with h1;rw [hs,h1]
  ·cases h1
 split at h
 ·rename_i hf
  obtain ⟨p,h2,y,h3,h4⟩:=Ak.1 h
  refine ⟨_,?_,h4⟩
  simp only [Im,h1]
  rw [if_pos hf,h2]
  simp only [h3]
  rfl
 ·cases h
theorem Ao7 {st:St} {v:AV} {args:List AV} {K:AV→Prop} (h:Auy Γ st v args K): ∃u,Qc Γ st v args=some u∧K u:=by
 unfold Auy at h
 split at h
 ·split at h
  ·rename_i hc
   obtain ⟨u,h1,h2⟩:=Xy h
   exact ⟨u,by simp only [Qc];rw [if_pos hc];exact h1,h2⟩
  ·cases h
 ·exact Xy h
 ·cases h
theorem Ht {w:WS} (hw:w.OK) {x:Operand} {b:Bool} (hk:Mj w.kn x=some b): ∃fr,w.st.ev x= .at (.data fr .bool b):=by
 unfold Mj at hk
 split at hk
 ·injection hk with hk;subst hk;exact ⟨true,rfl⟩
 ·exact hw _ _ hk
 ·cases hk
theorem Alc {w:WS} (hw:w.OK) {o:Oper} {b:Bool} (hk:Cv w.kn o=some b) {v:AV} (he:Bz T Γ w.st o=some v): ∃fr,v= .at (.data fr .bool b):=by
 unfold Cv at hk
 split at hk
 ·rename_i heq;unfold Bz at he;rw [heq] at he;injection he with he;obtain ⟨fr,h⟩:=Ht hw hk;exact ⟨fr,he.symm.trans h⟩
 ·rename_i heq;unfold Bz at he;rw [heq] at he;injection he with he;obtain ⟨fr,h⟩:=Ht hw hk;exact ⟨fr,he.symm.trans h⟩
 ·rename_i x heq
  cases hx:Mj w.kn x with
  |none=>rw [hx] at hk;cases hk
  |some c=>
   rw [hx] at hk
   injection hk with hk
   obtain ⟨fr,h⟩:=Ht hw hx
   unfold Bz at he;rw [heq] at he
   simp only [h,Aoe,Hq] at he
   injection he with he
   exact ⟨true,by rw [←he,←hk]⟩
 ·rename_i c x y heq
  unfold Bz at he;rw [heq] at he
  split at hk
  ·rename_i hc
   obtain ⟨fr,h⟩:=Ht hw hc
   simp only [h,Tt,if_true] at he
   injection he with he
   obtain ⟨fr,h⟩:=Ht hw hk
   exact ⟨fr,he.symm.trans h⟩
  ·rename_i hc
   obtain ⟨fr,h⟩:=Ht hw hc
   simp only [h,Tt,Bool.false_eq_true,if_false] at he
   injection he with he
   obtain ⟨fr,h⟩:=Ht hw hk
   exact ⟨fr,he.symm.trans h⟩
  ·cases hk
 ·cases hk
theorem Ajq {w:WS} (hw:w.OK) {o:Oper} {x:Operand} (ho:o.op= .assign x) {b:Bool} (hk:Cv w.kn o=some b) {v:AV} {s:St} (he:evalOp T Γ w.st o=some (v,s)): ∃fr,v= .at (.data fr .bool b):=by
 unfold Cv at hk
 rw [ho] at hk
 obtain ⟨fr,h⟩:=Ht hw hk
 unfold evalOp at he;rw [ho] at he
 simp only [h] at he
 injection he with he;injection he with he;exact ⟨fr,he.symm⟩
theorem Zi {w:WS} (hw:w.OK) {o:Oper} {K:AV→WS→Prop} (h:qW T Γ w o K):
  ∃v w',Bz T Γ w.st o=some v∧w'.st=w.st∧w'.OK∧(∀b,Cv w'.kn o=some b→ ∃fr,v= .at (.data fr .bool b))∧K v w':=by
 have fin:(∃v w',Bz T Γ w.st o=some v∧w'.st=w.st∧w'.OK∧K v w')→ ∃v w',Bz T Γ w.st o=some v∧w'.st=w.st∧w'.OK∧(∀b,Cv w'.kn o=some b→ ∃fr,v= .at (.data fr .bool b))∧K v w':=by
  rintro ⟨v,w',h1,h2,h3,h4⟩
  exact ⟨v,w',h1,h2,h3,fun b hb=>Alc h3 hb (by rw [h2];exact h1),h4⟩
 refine fin ?_
 unfold qW at h
 split at h
 ·rename_i c a b heq
  obtain ⟨fr,t,w',h1,h2,h3,h4⟩:=Amb hw h
  cases t with
  |true=>exact ⟨_,w',by unfold Bz;rw [heq];simp only [h1,Tt,if_true];rw [←h2],h2,h3,h4⟩
  |false=>exact ⟨_,w',by unfold Bz;rw [heq];simp only [h1,Tt];rw [←h2];simp,h2,h3,h4⟩
 ·rename_i heq
  obtain ⟨v,h1,h2⟩:=Asj h
  exact ⟨v,w,by unfold Bz;rw [heq];exact h1,rfl,hw,h2⟩
 ·rename_i heq
  obtain ⟨v,h1,h2⟩:=Auv h
  exact ⟨v,w,by unfold Bz;rw [heq];exact h1,rfl,hw,h2⟩
 ·rename_i heq
  split at h
  ·obtain ⟨v,h1,h2⟩:=Apw h
   exact ⟨v,w,by unfold Bz;rw [heq];simpa using h1,rfl,hw,h2⟩
  ·cases h
 ·rename_i heq
  obtain ⟨v,h1,h2⟩:=Afa h
  exact ⟨v,w,by unfold Bz;rw [heq];exact h1,rfl,hw,h2⟩
 ·rename_i heq
  obtain ⟨v,h1,h2⟩:=Aoi h
  exact ⟨v,w,by unfold Bz;rw [heq];exact h1,rfl,hw,h2⟩
 ·rename_i heq
  obtain ⟨v,h1,h2⟩:=Xy h
  exact ⟨v,w,by unfold Bz;rw [heq];exact h1,rfl,hw,h2⟩
 ·rename_i heq
  obtain ⟨v,h1,h2⟩:=Ao7 h
  exact ⟨v,w,by unfold Bz;rw [heq];exact h1,rfl,hw,h2⟩
 ·rename_i heq
  obtain ⟨v,h1,h2⟩:=Af4 h
  exact ⟨v,w,by unfold Bz;rw [heq];exact h1,rfl,hw,h2⟩
 ·rename_i x heq
  unfold An0 at h
  split at h
  ·rename_i fr τ z hx
   obtain ⟨y,h1,h2⟩:=h
   subst h1
   exact ⟨_,w,by unfold Bz;rw [heq];simp only [hx],rfl,hw,h2⟩
  ·obtain ⟨v,h1,h2⟩:=Ak.1 h
   exact ⟨v,w,h1,rfl,hw,h2⟩
 ·obtain ⟨v,h1,h2⟩:=Ak.1 h
  exact ⟨v,w,h1,rfl,hw,h2⟩
theorem Aqb {st:St} {t:TypeId} {p v:AV} {K:St→Prop} (h:Awu T st t p v K): ∃s,Lo T st t p v=some s∧K s:=by
 unfold Awu at h
 split at h
 ·obtain ⟨τ,h1,h⟩:=Ak.1 h
  obtain ⟨q,h2,h⟩:=Ak.1 h
  split at h
  ·rename_i hb
   obtain ⟨u,h3,h⟩:=Ak.1 h
   split at h
   ·rename_i hc
    obtain ⟨h4,h5⟩:=h
    obtain ⟨q1,q2⟩:=q
    obtain ⟨u1,u2⟩:=u
    exact ⟨_,by simp only [Lo,h1,h2,hb,h3];rw [dif_pos hc,if_pos h4],h5⟩
   ·cases h
  ·cases h
 ·exact Ak.1 h
theorem Alz {st:St} {t:TypeId} {p v:AV} {K:St→Prop} (h:Aq7 T st t p v K): ∃s,Hw T st t p v=some s∧K s:=by
 unfold Aq7 at h
 unfold Hw
 split at h
 rotate_left
 ·rename_i hg;rw [hg];exact Aqb h
 rename_i hg
 rw [hg]
 simp only
 unfold Axy at h
 split at h
 ·obtain ⟨τ,h1,h⟩:=Ak.1 h
  obtain ⟨q,h2,h⟩:=Ak.1 h
  split at h
  ·rename_i hb
   obtain ⟨u,h3,h⟩:=Ak.1 h
   split at h
   ·rename_i hc
    obtain ⟨q1,q2⟩:=q
    obtain ⟨u1,u2⟩:=u
    exact ⟨_,by simp only [Qu,h1,h2,hb,h3];rw [dif_pos hc],h⟩
   ·cases h
  ·cases h
 ·rename_i l j
  obtain ⟨τ,h1,h⟩:=Ak.1 h
  split at h
  ·rename_i e te rows out kp m off len hl _
   split at h
   ·rename_i fr tr e' tid xs hm
    split at h
    ·rename_i hc
     obtain ⟨h2,h3,h4,h5⟩:=h
     have h4:out=none∨out=some j:=by
      cases out with
      |none=>exact .inl rfl
      |some i=>exact .inr (congrArg some h4)
     exact ⟨_,by simp only [Qu,h1,hl,hm];rw [dif_pos ⟨hc.1,hc.2,h2,h3,h4⟩],h5⟩
    ·cases h
   ·cases h
  ·cases h
 ·cases h
theorem Nq {st:St} {d:Nat} {t:TypeId} {x y:Operand} {K:AV→St→Prop} (h:Ad6 T st d t x y K): ∃v s,Gu T st d t x y=some (v,s)∧K v s:=by
 unfold Ad6 at h
 obtain ⟨te,h1,h⟩:=Ak.1 h
 obtain ⟨e,h2,h⟩:=Ak.1 h
 obtain ⟨q,h3,h⟩:=Ak.1 h
 obtain ⟨u,h4,h⟩:=Ak.1 h
 obtain ⟨q1,q2⟩:=q
 obtain ⟨u1,u2⟩:=u
 split at h
 ·rename_i hx
  split at h
  ·rename_i hd
   obtain ⟨h5,h6⟩:=h
   refine ⟨_,_,?_,h6⟩
   simp only [Gu,h1,h2,h3,h4]
   rw [hx]
   simp only
   rw [if_pos ⟨h5,by simpa [Nat.blt_eq] using hd⟩]
   simp
  ·cases h
 ·rename_i l off len hx
  split at h
  ·rename_i fr tr e' tid xs hb
   split at h
   ·rename_i hc
    obtain ⟨h5,h6,h7,h8⟩:=h
    refine ⟨_,_,?_,h8⟩
    simp only [Gu,h1,h2,h3,h4]
    rw [hx]
    simp only [hb]
    rw [dif_pos ⟨hc.1,hc.2.1⟩,if_pos ⟨h7,by simpa [Nat.blt_eq] using hc.2.2⟩]
    obtain ⟨hc1,hc2,hc3⟩:=hc
    subst hc1
    subst h5
    simp only [List.drop_zero,h6,List.take_length,List.length_append]
   ·cases h
  ·cases h
 ·cases h
theorem Aii {st:St} {d:Nat} {t:TypeId} {x y:Operand} {K:AV→St→Prop} (h:Aih T st d t x y K): ∃v s,Jk T st d t x y=some (v,s)∧K v s:=by
 unfold Aih at h
 cases x with
 |tmp tx=>
  simp only at h
  unfold Jk
  simp only
  cases hg:st.get tx with
  | «at»c=>
   rw [hg] at h
   cases c with
   |sub l i c=>
    simp only at h⊢
    obtain ⟨tid,h1,h⟩:=Ak.1 h
    split at h
    ·rename_i hl
     split at h
     ·rename_i hc
      obtain ⟨v,s,h2,h3⟩:=Nq h
      refine ⟨v,s,?_,h3⟩
      simp only [hl,h1]
      rw [if_pos hc]
      exact h2
     ·cases h
    ·cases h
   |_=>exact Nq h
  |_=>rw [hg] at h;exact Nq h
 |_=>exact Nq h
theorem Asp {st:St} {d:Nat} {t:TypeId} {l c:AV} {K:AV→St→Prop} (h:Baw T st d t l c K): ∃v s,Qr T st d t l c=some (v,s)∧K v s:=by
 unfold Baw at h
 split at h
 ·obtain ⟨te,h1,h⟩:=Ak.1 h
  obtain ⟨e,h2,h⟩:=Ak.1 h
  split at h
  ·rename_i hz
   obtain ⟨h3,h4,h5⟩:=h
   refine ⟨_,_,?_,h5⟩
   simp only [Bool.and_eq_true] at hz
   simp only [Qr,h1,h2]
   rw [if_pos ⟨Kx.2 (by exact_mod_cast h3),h4,hz.1,by simpa [Nat.blt_eq] using hz.2⟩]
   simp
  ·cases h
 ·cases h
theorem Aoz {st:St} {d:Nat} {t:TypeId} {l c:AV} {K:AV→St→Prop} (h:Avm T st d t l c K): ∃v s,Nb T st d t l c=some (v,s)∧K v s:=by
 unfold Avm at h
 unfold Nb
 cases hg:Tx T t with
 |none=>rw [hg] at h;exact Asp h
 |some p=>
  obtain ⟨te,e⟩:=p
  rw [hg] at h
  simp only at h⊢
  split at h
  ·split at h
   ·rename_i hd
    obtain ⟨h3,h4,h5⟩:=h
    refine ⟨_,_,?_,h5⟩
    simp only
    rw [if_pos ⟨Kx.2 (by exact_mod_cast h3),h4,by simpa [Nat.blt_eq] using hd⟩]
    simp
   ·cases h
  ·cases h
theorem Ac7 {st:St} {d:Nat} {t:TypeId} {len:Nat} {parts:Array (Nat×Operand)} {K:AV→St→Prop} (h:Vg T st d t len parts K): ∃v s,Dt T st d t len parts=some (v,s)∧K v s:=by
 unfold Vg at h
 unfold Dt
 cases hg:Tx T t with
 |none=>
  rw [hg] at h
  obtain ⟨r,h1,h2⟩:=Ak.1 h
  exact ⟨r.1,r.2,h1,h2⟩
 |some p=>
  obtain ⟨te,e⟩:=p
  rw [hg] at h
  simp only at h⊢
  split at h
  ·rename_i x hp
   split at h
   ·rename_i m off ln hx
    split at h
    ·rename_i hm
     split at h
     ·rename_i hc
      obtain ⟨h1,h2,h3⟩:=h
      refine ⟨_,_,?_,h3⟩
      simp only [hp,hx,hm]
      rw [dif_pos ⟨hc.1,hc.2,h1,h2⟩]
     ·cases h
    ·cases h
   ·cases h
  ·cases h
theorem Aik {st:St} {d:Nat} {t:TypeId} {x y:Operand} {K:AV→St→Prop} (h:Aij T st d t x y K): ∃v s,Jl T st d t x y=some (v,s)∧K v s:=by
 unfold Aij at h
 unfold Jl
 cases hg:Tx T t with
 |none=>rw [hg] at h;exact Aii h
 |some p=>
  obtain ⟨te,e⟩:=p
  rw [hg] at h
  simp only at h⊢
  split at h
  ·rename_i l off len m off2 Aje hx hy
   split at h
   ·rename_i hl hm
    split at h
    ·rename_i hc
     obtain ⟨h1,h2,h3,h4,h5⟩:=h
     obtain ⟨⟨rfl,rfl⟩,hc⟩:=hc
     refine ⟨_,_,?_,h5⟩
     simp only [hx,hy,hl,hm]
     rw [dif_pos (⟨⟨trivial,trivial⟩,hc,h1,h2,h3,h4⟩)]
     simp
    ·cases h
   ·cases h
  ·cases h
theorem Aqg {st:St} {io:Bool} {k:Nat} {c:CK} {a:AC} {K:c.den→List (Nat×Loc)→Prop} (h:Wp st io k c a K): ∃x t,Fm st io k c a=some (x,t)∧K x t:=by
 cases c with
 |dat τ=>
  cases a with
  |own l off len=>
   obtain ⟨p,h1,h2⟩:=Ak.1 h
   exact ⟨_,_,by simp only [Fm];rw [h1];rfl,h2⟩
  |clo g caps=>
   simp only [Wp] at h
   split at h
   ·rename_i hc
    obtain ⟨p,h1,h2⟩:=Ak.1 h
    exact ⟨_,_,by simp only [Fm];rw [if_pos hc,h1];rfl,h2⟩
   ·cases h
  |vptr l i=>
   simp only [Wp] at h
   split at h
   ·rename_i hc
    obtain ⟨p,h1,h2⟩:=Ak.1 h
    exact ⟨_,_,by simp only [Fm];rw [if_pos hc,h1];rfl,h2⟩
   ·cases h
  |sub l i c=>
   obtain ⟨p,h1,h2⟩:=Ak.1 h
   exact ⟨_,_,by simp only [Fm];rw [h1];rfl,h2⟩
  |_=>
   simp only [Wp] at h
   split at h
   ·rename_i hc
    obtain ⟨p,h1,h2⟩:=Ak.1 h
    exact ⟨_,_,by simp only [Fm];rw [if_pos hc,h1];rfl,h2⟩
   ·cases h
 |row e te=>
  cases a<;>simp only [Wp] at h<;>first|(cases h;done)|skip
  ·exact ⟨_,_,rfl,h⟩
  ·split at h
   ·rename_i hl
    split at h
    ·rename_i hc
     obtain ⟨h1,h2,h3⟩:=h
     exact ⟨_,_,by simp only [Fm,hl];rw [dif_pos ⟨hc.1,hc.2,h1,h2⟩],h3⟩
    ·cases h
   ·cases h
  ·split at h
   ·rename_i hl
    split at h
    ·rename_i hc
     obtain ⟨y,h1,h2⟩:=h
     exact ⟨_,_,by simp only [Fm,hl];rw [dif_pos hc,h1];rfl,h2⟩
    ·cases h
   ·cases h
 |xrow e te=>
  cases a<;>simp only [Wp] at h<;>first|(cases h;done)|skip
  ·exact ⟨_,_,rfl,h⟩
  ·split at h
   ·rename_i hl
    split at h
    ·rename_i hc
     obtain ⟨h1,h2,h3⟩:=h
     exact ⟨_,_,by simp only [Fm,hl];rw [dif_pos ⟨hc.1,hc.2,h1,h2⟩],h3⟩
    ·cases h
   ·cases h
  ·split at h
   ·rename_i hl
    split at h
    ·rename_i hc
     obtain ⟨y,h1,h2⟩:=h
     exact ⟨_,_,by simp only [Fm,hl];rw [dif_pos hc,h1];rfl,h2⟩
    ·cases h
   ·cases h
 |part e te=>
  cases a<;>simp only [Wp] at h<;>first|(cases h;done)|skip
  split at h
  ·rename_i hl
   split at h
   ·rename_i hc
    exact ⟨_,_,by simp only [Fm,hl];rw [dif_pos hc],h⟩
   ·cases h
  ·cases h
 |grid e te kp=>
  cases a<;>simp only [Wp] at h<;>first|(cases h;done)|skip
  split at h
  ·rename_i hl
   split at h
   ·rename_i hc
    obtain ⟨h1,h2,h3⟩:=h
    exact ⟨_,_,by simp only [Fm,hl];rw [dif_pos ⟨hc.1,hc.2.1,h1,h2,hc.2.2⟩],h3⟩
   ·cases h
  ·cases h
theorem Ati {st:St} {e:Ty} {ys:List e.den} {a:AC} {K:St→Prop} (h:Bbf st e ys a K): ∃s,Aw5 st e ys a=some s∧K s:=by
 cases a<;>simp only [Bbf] at h<;>first|(cases h;done)|skip
 split at h
 ·rename_i hl
  split at h
  ·rename_i hc
   obtain ⟨h1,h3⟩:=h
   exact ⟨_,by simp only [Aw5,hl];rw [dif_pos ⟨hc,h1⟩],h3⟩
  ·cases h
 ·cases h
theorem Abo {st:St} : ∀(cs:List (Bool×CK)) (k:Nat) (as:List AC) (K:Ins.den cs→List (Nat×Loc)→Prop),Aqh st k cs as K→ ∃x t,Wq st k cs as=some (x,t)∧K x t
 | [],_,[],_,h=>⟨_,_,rfl,h⟩
 | [],_,_::_,_,h=>h.elim
 |_::_,_,[],_,h=>h.elim
 |p::r,k,a::as,K,h=>by
  obtain ⟨x,t1,h1,h2⟩:=Aqg h
  obtain ⟨y,t2,h3,h4⟩:=Abo r (k+1) as _ h2
  exact ⟨_,_,by simp only [Wq,h1,h3],h4⟩
theorem Ah4 {st:St} {c:CK} {ys:c.den} {a:AC} {K:St→Prop} (h:Ah3 st c ys a K): ∃s,Rq st c ys a=some s∧K s:=by
 cases c with
 |dat τ=>cases a<;>simp only [Ah3] at h<;>first|(cases h;done)|exact ⟨_,rfl,h⟩
 |row e te=>
  cases a<;>simp only [Ah3] at h<;>first|(cases h;done)|skip
  ·exact ⟨_,rfl,h⟩
  ·split at h
   ·rename_i hl
    split at h
    ·rename_i hc
     obtain ⟨h1,h3⟩:=h
     exact ⟨_,by simp only [Rq,hl];rw [dif_pos ⟨hc,h1⟩],h3⟩
    ·cases h
   ·cases h
  ·split at h
   ·rename_i hl
    split at h
    ·rename_i hc
     obtain ⟨y,h1,h2,h3⟩:=h
     exact ⟨_,by simp only [Rq,hl,dif_pos hc,h1];rw [if_pos h2],h3⟩
    ·cases h
   ·cases h
 |xrow e te=>
  cases a<;>simp only [Ah3] at h<;>first|(cases h;done)|skip
  ·exact ⟨_,rfl,h⟩
  ·split at h
   ·rename_i hl
    split at h
    ·rename_i hc
     obtain ⟨h1,h3⟩:=h
     exact ⟨_,by simp only [Rq,hl];rw [dif_pos ⟨hc,h1⟩],h3⟩
    ·cases h
   ·cases h
  ·split at h
   ·rename_i hl
    split at h
    ·rename_i hc
     obtain ⟨y,h1,h2,h3⟩:=h
     exact ⟨_,by simp only [Rq,hl,dif_pos hc,h1];rw [if_pos h2],h3⟩
    ·cases h
   ·cases h
 |part e te=>cases a<;>simp only [Ah3] at h<;>first|(cases h;done)|exact ⟨_,rfl,h⟩
 |grid e te kp=>cases a<;>simp only [Ah3] at h<;>first|(cases h;done)|exact ⟨_,rfl,h⟩
theorem Ib: ∀(cs:List (Bool×CK)) (o:IOs.den cs) (as:List AC) (st:St) (K:St→Prop),Zh cs o as st K→ ∃s,Dg cs o as st=some s∧K s
 | [],_,_,st,K,h=>⟨st,rfl,h⟩
 |(true, .dat _)::r,o,[],st,K,h=>h.elim
 |(true, .row _ _)::r,o,[],st,K,h=>h.elim
 |(true, .xrow _ _)::r,o,[],st,K,h=>h.elim
 |(true, .part _ _)::r,o,[],st,K,h=>h.elim
 |(true, .grid _ _ _)::r,o,[],st,K,h=>h.elim
 |(true, .grid _ _ _)::r,o,a::as,st,K,h=>by
  obtain ⟨s,h1,h2⟩:=Ib r o as st K h
  exact ⟨s,by simp only [Dg];exact h1,h2⟩
 |(false,_)::r,o,[],st,K,h=>h.elim
 |(true, .dat _)::r,o,a::as,st,K,h=>by
  obtain ⟨s,h1,h2⟩:=Ib r o as st K h
  exact ⟨s,by simp only [Dg];exact h1,h2⟩
 |(false,_)::r,o,a::as,st,K,h=>by
  obtain ⟨s,h1,h2⟩:=Ib r o as st K h
  exact ⟨s,by simp only [Dg];exact h1,h2⟩
 |(true, .row _ _)::r,o,a::as,st,K,h=>by
  obtain ⟨s1,h1,h2⟩:=Ah4 h
  obtain ⟨s,h3,h4⟩:=Ib r o.2 as s1 K h2
  exact ⟨s,by simp only [Dg,h1];exact h3,h4⟩
 |(true, .part _ _)::r,o,a::as,st,K,h=>by
  obtain ⟨s1,h1,h2⟩:=Ati h
  obtain ⟨s,h3,h4⟩:=Ib r o.2 as s1 K h2
  exact ⟨s,by simp only [Dg,h1];exact h3,h4⟩
 |(true, .xrow _ _)::r,o,a::as,st,K,h=>by
  obtain ⟨s1,h1,h2⟩:=Ah4 h
  obtain ⟨s,h3,h4⟩:=Ib r o.2 as s1 K h2
  exact ⟨s,by simp only [Dg,h1];exact h3,h4⟩
theorem Ahd {H:List (Nat×OB)} {ls:List Nat} {n:Nat} {K:Prop} : ∀(l:List AV),Akp H ls n l K→Tj H ls n l=true∧K
 | [],h=>⟨rfl,h⟩
 |a::r,h=>by
  have go:Akp H ls n r K→Tj H ls n r=true∧K:=Ahd r
  cases a with
  | «at»c=>
   cases c with
   |sub l i c=>
    simp only [Akp] at h
    simp only [Tj]
    split at h
    ·rename_i hc
     obtain ⟨⟨h1,h2⟩,h3⟩:=h
     obtain ⟨g1,g2⟩:=go h3
     exact ⟨by simp only [hc,g1,Bool.and_true,Bool.not_true,Bool.false_or,Bool.and_eq_true,Nat.blt_eq];exact ⟨h1,h2⟩,g2⟩
    ·rename_i hc
     obtain ⟨g1,g2⟩:=go h
     exact ⟨by simp only [hc,g1,Bool.not_false,Bool.true_or,Bool.and_true],g2⟩
   |_=>exact go h
  |_=>exact go h
theorem Ao6 {st:St} {d:Option Nat} {s:Be} {args:List AV} {K:AV→St→Prop} (h:Aux st d s args K): ∃v s',Na st d s args=some (v,s')∧K v s':=by
 unfold Aux at h
 obtain ⟨⟨pl,cells,rest⟩,h0,h⟩:=Ak.1 h
 obtain ⟨as,h1,h⟩:=Ak.1 h
 obtain ⟨x,tks,h2,h⟩:=Abo s.ins 0 (cells++as) _ h
 split at h
 ·rename_i hc
  obtain ⟨⟨r,o⟩,h3,h⟩:=h
  obtain ⟨st1,h4,h⟩:=Ib s.ins o (cells++as) st _ h
  obtain ⟨v,h5,h6⟩:=Ak.1 h
  obtain ⟨h7,h6⟩:=Ahd _ h6
  refine ⟨v,_,?_,h6⟩
  unfold Na
  simp only [h0,h1,h2]
  rw [if_pos hc]
  simp only [h3,h4,h5]
  rw [if_pos h7]
 ·cases h
theorem Ayq {w:WS} (hw:w.OK) {o:Oper} {K:AV→WS→Prop} (h:opW T Γ w o K):
  ∃v w',evalOp T Γ w.st o=some (v,w'.st)∧w'.OK∧(∀b,Cv w'.kn o=some b→ ∃fr,v= .at (.data fr .bool b))∧K v w':=by
 have fin: ∀v s,(∀b,Cv w.kn o=some b→ ∃fr,v= .at (.data fr .bool b))→evalOp T Γ w.st o=some (v,s)→K v (w.to s)→ ∃v w',evalOp T Γ w.st o=some (v,w'.st)∧w'.OK∧(∀b,Cv w'.kn o=some b→ ∃fr,v= .at (.data fr .bool b))∧K v w':=
  fun v s hk h1 h2=>⟨v,w.to s,h1,hw.to (Adm h1),hk,h2⟩
 have fin2:(∀b v s,Cv w.kn o=some b→evalOp T Γ w.st o=some (v,s)→ ∃fr,v= .at (.data fr .bool b))→Dd (evalOp T Γ w.st o) (fun r=>K r.1 (w.to r.2))→ ∃v w',evalOp T Γ w.st o=some (v,w'.st)∧w'.OK∧(∀b,Cv w'.kn o=some b→ ∃fr,v= .at (.data fr .bool b))∧K v w':=by
  intro hk h
  obtain ⟨r,h1,h2⟩:=Ak.1 h
  exact fin r.1 r.2 (fun b hb=>hk b _ _ hb h1) h1 h2
 unfold opW at h
 split at h
 ·rename_i heq
  obtain ⟨s,h1,h2⟩:=Alz h
  refine fin _ _ (fun b hb=>by unfold Cv at hb;rw [heq] at hb;cases hb) ?_ h2
  unfold evalOp;rw [heq];simp only [h1];rfl
 ·rename_i heq
  obtain ⟨d,h1,h⟩:=Ak.1 h
  obtain ⟨v,s,h2,h3⟩:=Aoz h
  refine fin _ _ (fun b hb=>by unfold Cv at hb;rw [heq] at hb;cases hb) ?_ h3
  unfold evalOp;rw [heq];simp only [h1,h2]
 ·rename_i heq
  split at h
  ·rename_i hd ha ht
   split at h
   ·rename_i htt
    obtain ⟨v,s,h2,h3⟩:=Aik h
    refine fin _ _ (fun b hb=>by unfold Cv at hb;rw [heq] at hb;cases hb) ?_ h3
    unfold evalOp;rw [heq];simp only [hd,ha,ht,if_pos htt,h2]
   ·cases h
  ·cases h
 ·rename_i heq;exact fin2 (fun b v s hb he=>Ajq hw heq hb he) h
 ·rename_i heq;exact fin2 (fun b v s hb he=>by unfold Cv at hb;rw [heq] at hb;cases hb) h
 ·rename_i heq;exact fin2 (fun b v s hb he=>by unfold Cv at hb;rw [heq] at hb;cases hb) h
 ·rename_i heq
  obtain ⟨d,h1,h⟩:=Ak.1 h
  obtain ⟨v,s,h2,h3⟩:=Ac7 h
  refine fin _ _ (fun b hb=>by unfold Cv at hb;rw [heq] at hb;cases hb) ?_ h3
  unfold evalOp;rw [heq];simp only [h1,h2]
 ·rename_i heq;exact fin2 (fun b v s hb he=>by unfold Cv at hb;rw [heq] at hb;cases hb) h
 ·rename_i heq;exact fin2 (fun b v s hb he=>by unfold Cv at hb;rw [heq] at hb;cases hb) h
 ·rename_i heq;exact fin2 (fun b v s hb he=>by unfold Cv at hb;rw [heq] at hb;cases hb) h
 ·rename_i heq;exact fin2 (fun b v s hb he=>by unfold Cv at hb;rw [heq] at hb;cases hb) h
 ·rename_i heq;exact fin2 (fun b v s hb he=>by unfold Cv at hb;rw [heq] at hb;cases hb) h
 ·rename_i heq;exact fin2 (fun b v s hb he=>by unfold Cv at hb;rw [heq] at hb;cases hb) h
 ·
  rename_i f _ _ heq
  split at h
  ·rename_i hΓ
   obtain ⟨v,s',h1,h2⟩:=Ao6 h
   refine fin v s' (fun b hb=>by unfold Cv at hb;rw [heq] at hb;cases hb) ?_ h2
   unfold evalOp;rw [heq];simp only [hΓ];exact h1
  ·rename_i s hΓ
   split at h
   ·rename_i hns
    obtain ⟨st1,hs,h⟩:=Ak.1 h
    obtain ⟨v,w',h1,h2,h3,h3',h4⟩:=Zi (hw.to (Ou _ hs)) h
    refine ⟨v,w',?_,h3,h3',h4⟩
    have h1:Bz T Γ st1 o=some v:=h1
    have h2:w'.st=st1:=h2
    unfold evalOp
    rw [heq]
    simp only [hΓ,hns,hs,h1,h2]
    rfl
   ·rename_i hns
    obtain ⟨v,w',h1,h2,h3,h3',h4⟩:=Zi hw h
    refine ⟨v,w',?_,h3,h3',h4⟩
    unfold evalOp
    rw [heq]
    simp only [hΓ,hns,h1,h2]
    rfl
  ·rename_i hne1 hne2
   obtain ⟨v,w',h1,h2,h3,h3',h4⟩:=Zi hw h
   refine ⟨v,w',?_,h3,h3',h4⟩
   unfold evalOp
   rw [heq]
   simp only
   rw [h1,h2];rfl
 ·rename_i n1 n2 n3 n4 n5 n6 n7 n8 n9 n10 n11 n12 n13 n14
  obtain ⟨v,w',h1,h2,h3,h3',h4⟩:=Zi hw h
  refine ⟨v,w',?_,h3,h3',h4⟩
  unfold evalOp
  split
  all_goals first
   |(rw [h1,h2];rfl)
   |(rename_i hq;exact absurd hq (by first|exact n1 _|exact n2 _|exact n3 _|exact n4 _|exact n5 _|exact n6 _|exact n7 _|exact n8 _|exact n9 _|exact n10 _|exact n11 _|exact n12 _|exact n13 _|exact n14 _))
   |(rename_i hq;exact absurd hq (by first|exact n1 _ _|exact n2 _ _|exact n3 _ _|exact n4 _ _|exact n5 _ _|exact n6 _ _|exact n7 _ _|exact n8 _ _|exact n9 _ _|exact n10 _ _|exact n11 _ _|exact n12 _ _|exact n13 _ _|exact n14 _ _))
   |(rename_i hq;exact absurd hq (by first|exact n1 _ _ _|exact n2 _ _ _|exact n3 _ _ _|exact n4 _ _ _|exact n5 _ _ _|exact n6 _ _ _|exact n7 _ _ _|exact n8 _ _ _|exact n9 _ _ _|exact n10 _ _ _|exact n11 _ _ _|exact n12 _ _ _|exact n13 _ _ _|exact n14 _ _ _))
   |(rename_i hq;exact absurd hq (by first|exact n1 _ _ _ _|exact n2 _ _ _ _|exact n3 _ _ _ _|exact n4 _ _ _ _|exact n5 _ _ _ _|exact n6 _ _ _ _|exact n7 _ _ _ _|exact n8 _ _ _ _|exact n9 _ _ _ _|exact n10 _ _ _ _|exact n11 _ _ _ _|exact n12 _ _ _ _|exact n13 _ _ _ _|exact n14 _ _ _ _))
theorem Aoh (st:St) (d:Nat) (v:AV):(st.put (some d) v).get d=v∨(st.put (some d) v).get d= .undef:=by
 simp only [St.put,St.get]
 rw [Qi]
 by_cases h:d<st.tmps.length
 ·exact .inl (by rw [if_pos ⟨rfl,h⟩])
 ·refine .inr ?_
  rw [if_neg (fun hc=>h hc.2),List.getD_eq_getElem?_getD,List.getElem?_eq_none (by omega)]
  rfl
theorem WS.OK.Alj {w:WS} (hw:w.OK) (o:Oper) (v:AV) (h: ∀b,Cv w.kn o=some b→ ∃fr,v= .at (.data fr .bool b)):(w.Alj o v).OK∧(w.Alj o v).st=w.st.put o.dst v:=by
 unfold WS.Alj
 split
 ·rename_i d b hd hk
  split
  ·rename_i fr c hg
   refine ⟨?_,by rw [hd]⟩
   obtain ⟨fr',hv⟩:=h b hk
   intro t b' hb
   simp only [Al6] at hb
   split at hb
   ·rename_i ht
    injection hb with hb
    subst ht;subst hb
    refine ⟨fr',?_⟩
    show (w.st.put (some d) v).get d=_
    cases Aoh w.st d v with
    |inl h1=>rw [h1,hv]
    |inr h1=>rw [h1] at hg;cases hg
   ·exact hw.put (some d) v t b' hb
  ·exact ⟨hw.put _ _,by rw [WS.Ajz,hd]⟩
 ·exact ⟨hw.put _ _,WS.Ajz _ _ _⟩
theorem Ahc {ops:Array Oper} {w:WS} (hw:w.OK) {o:Oper} {run:(AV→WS→Prop)→WS→Prop} {R:St→Option (AV×St)} {K:WS→Prop}
  (hr: ∀(k:AV→WS→Prop) (w:WS),w.OK→run k w→ ∃v w',R w.st=some (v,w'.st)∧w'.OK∧(∀b,Cv w'.kn o=some b→ ∃fr,v= .at (.data fr .bool b))∧k v w') (h:Abn ops w o run K):
  ∃w',(match o.guard with
   |none=>(R w.st).map fun r=>r.2.put o.dst r.1
   |some (j,want)=>match Mv w.st ((ops[j]?).bind (·.dst)) with
    |some (some b)=>if b==want then (R w.st).map fun r=>r.2.put o.dst r.1 else some (w.st.put o.dst (.at .skip))
    |some none=>some (w.st.put o.dst (.at .skip))
    |none=>none)=some w'.st∧w'.OK∧K w':=by
 have go: ∀w:WS,w.OK→run (fun v w'=>K (w'.Alj o v)) w→ ∃w',((R w.st).map fun r=>r.2.put o.dst r.1)=some w'.st∧w'.OK∧K w':=by
  intro w hw h
  obtain ⟨v,w',h1,h2,h3,h4⟩:=hr _ _ hw h
  obtain ⟨h5,h6⟩:=h2.Alj o v h3
  exact ⟨w'.Alj o v,by rw [h1,h6];rfl,h5,h4⟩
 unfold Abn at h
 split at h
 ·rename_i hg
  rw [hg]
  exact go w hw h
 ·rename_i j want hg
  rw [hg]
  obtain ⟨t,h1,h⟩:=Ak.1 h
  simp only [h1]
  split at h
  ·rename_i hs
   have hsk:w.st.get t= .at .skip:=by
    unfold AV.Baq at hs
    split at hs
    ·assumption
    ·cases hs
   exact ⟨_,by simp only [Mv,hsk];rw [WS.Ajz],hw.put _ _,h⟩
  ·obtain ⟨fr,b,w',h2,h3,h4,h5⟩:=Amc hw h
   have hb:Mv w.st (some t)=some (some b):=by simp only [Mv,h2]
   rw [hb]
   simp only
   cases b with
   |true=>
    cases want with
    |true=>rw [if_pos (by decide),←h3];exact go w' h4 h5
    |false=>exact ⟨_,by rw [if_neg (by decide),←h3,WS.Ajz],h4.put _ _,h5⟩
   |false=>
    cases want with
    |false=>rw [if_pos (by decide),←h3];exact go w' h4 h5
    |true=>exact ⟨_,by rw [if_neg (by decide),←h3,WS.Ajz],h4.put _ _,h5⟩
theorem Aa1 {ops:Array Oper} {w:WS} (hw:w.OK) {o:Oper} {K:WS→Prop} (h:Abn ops w o (fun k w'=>opW T Γ w' o k) K): ∃w',Ca T Γ ops w.st o=some w'.st∧w'.OK∧K w':=by
 obtain ⟨w',h1,h2⟩:=Ahc hw (R:=fun st=>evalOp T Γ st o) (fun k w hw h=>by
  obtain ⟨v,w',h1,h2,h2',h3⟩:=Ayq hw h
  exact ⟨v,w',h1,h2,h2',h3⟩) h
 exact ⟨w',h1,h2⟩
theorem Bab {w:WS} (hw:w.OK) {o:Oper} {K:AV→WS→Prop} (h:bW T Γ w o K):
  ∃v w',Oa T Γ w.st o=some v∧w'.st=w.st∧w'.OK∧(∀b,Cv w'.kn o=some b→ ∃fr,v= .at (.data fr .bool b))∧K v w':=by
 unfold bW at h
 split at h
 ·rename_i t len parts hop
  obtain ⟨v,h1,h2⟩:=Ak.1 h
  exact ⟨v,w,by unfold Oa;rw [hop];exact h1,rfl,hw,fun b hb=>by simp [Cv,hop] at hb,h2⟩
 ·rename_i t parts hop
  obtain ⟨v,h1,h2⟩:=Ak.1 h
  exact ⟨v,w,by unfold Oa;rw [hop];exact h1,rfl,hw,fun b hb=>by simp [Cv,hop] at hb,h2⟩
 ·rename_i n1 n2
  obtain ⟨v,w',h1,h2⟩:=Zi hw h
  refine ⟨v,w',?_,h2⟩
  rw [←h1]
  unfold Oa
  split
  ·rename_i h9;exact absurd h9 (n1 _ _ _)
  ·rename_i h9;exact absurd h9 (n2 _ _)
  ·rfl
theorem Bd0 {ops:Array Oper} {w:WS} (hw:w.OK) {o:Oper} {K:WS→Prop} (h:Abn ops w o (fun k w'=>bW T Γ w' o k) K): ∃v w',Xp T Γ ops w.st o=some v∧w'.st=w.st.put o.dst v∧w'.OK∧K w':=by
 obtain ⟨w',h1,h2,h3⟩:=Ahc hw (R:=fun st=>(Oa T Γ st o).map fun v=>(v,st)) (fun k w hw h=>by
  obtain ⟨v,w',h1,h2,h3,h3',h4⟩:=Bab hw h
  exact ⟨v,w',by simp only [h1,h2];rfl,h3,h3',h4⟩) h
 have key: ∀u:Option AV,((u.map fun v=>(v,w.st)).map fun r=>r.2.put o.dst r.1)=some w'.st→ ∃v,u=some v∧w'.st=w.st.put o.dst v:=by
  intro u hu
  cases u with
  |none=>cases hu
  |some v=>injection hu with hu;exact ⟨v,rfl,hu.symm⟩
 unfold Xp
 split at h1
 ·rename_i hg
  obtain ⟨v,h4,h5⟩:=key _ h1
  exact ⟨v,w',by rw [hg];exact h4,h5,h2,h3⟩
 ·rename_i j want hg
  rw [hg]
  split at h1
  ·rename_i b hb
   simp only [hb]
   split at h1
   ·rename_i hbw
    obtain ⟨v,h4,h5⟩:=key _ h1
    exact ⟨v,w',by rw [if_pos hbw];exact h4,h5,h2,h3⟩
   ·rename_i hbw
    injection h1 with h1
    exact ⟨_,w',by rw [if_neg hbw],h1.symm,h2,h3⟩
  ·rename_i hb
   simp only [hb]
   injection h1 with h1
   exact ⟨_,w',rfl,h1.symm,h2,h3⟩
  ·cases h1
theorem Ajr {ops:Array Oper} : ∀(l:List Oper) {w:WS} (_:w.OK) {K:WS→Prop},Be5 T Γ ops l w K→ ∃w',Po T Γ ops l w.st=some w'.st∧w'.OK∧K w'
 | [],w,hw,K,h=>⟨w,rfl,hw,h⟩
 |o::r,w,hw,K,h=>by
  obtain ⟨w1,h1,h2,h3⟩:=Aa1 hw h
  obtain ⟨w2,h4,h5⟩:=Ajr r h2 h3
  exact ⟨w2,by simp only [Po];rw [h1];exact h4,h5⟩
theorem Vq {ops:Array Oper} : ∀(l:List Nat) {w:WS} (_:w.OK) {K:WS→Prop},Bai T Γ ops l w K→ ∃w',Hd T Γ ops l w.st=some w'.st∧w'.OK∧K w'
 | [],w,hw,K,h=>⟨w,rfl,hw,h⟩
 |i::r,w,hw,K,h=>by
  obtain ⟨o,h0,h⟩:=Ak.1 h
  obtain ⟨w1,h1,h2,h3⟩:=Aa1 hw h
  obtain ⟨w2,h4,h5⟩:=Vq r h2 h3
  exact ⟨w2,by simp only [Hd];rw [h0];simp only [h1];exact h4,h5⟩
theorem Oe {ops:Array Oper} : ∀(l:List Nat) {w:WS} (_:w.OK) {K:WS→Prop},Aml T Γ ops l w K→ ∃w',Df T Γ ops l w.st=some w'.st∧w'.OK∧K w'
 | [],w,hw,K,h=>⟨w,rfl,hw,h⟩
 |i::r,w,hw,K,h=>by
  obtain ⟨o,h0,h⟩:=Ak.1 h
  obtain ⟨v,w1,h1,h1',h2,h3⟩:=Bd0 hw h
  obtain ⟨w2,h4,h5⟩:=Oe r h2 h3
  exact ⟨w2,by simp only [Df];rw [h0];simp only [h1];rw [←h1'];exact h4,h5⟩
theorem Aif {P:Nat→Prop} : ∀(l:List Nat),Bcd l P→ ∀i∈l,P i
 | [],_,i,hi=>by cases hi
 | [k],h,i,hi=>by rw [List.mem_singleton.1 hi];exact h
 |k::j::r,h,i,hi=>by
  rcases List.mem_cons.1 hi with rfl|hi
  ·exact h.1
  ·exact Aif (j::r) h.2 i hi
theorem Ac5 {ops:Array Oper} {K:WS→Prop} : ∀(f:Nat) (listed:Array Bool) {w:WS} (_:w.OK),Ay3 T Γ ops f listed w K→anyS T Γ ops (fun s=> ∃w':WS,w'.st=s∧w'.OK∧K w') f listed w.st
 |0,listed,w,hw,h=>by
  unfold Ay3 at h
  split at h
  ·rename_i hr;exact ⟨hr,w,rfl,hw,h⟩
  ·cases h
 |f+1,listed,w,hw,h=>by
  unfold Ay3 at h
  split at h
  ·cases h
  ·rename_i i r hr
   refine ⟨by rw [hr];simp,fun k hk=>?_⟩
   rw [hr] at hk
   obtain ⟨o,h0,h1⟩:=Ak.1 (Aif _ h k hk)
   obtain ⟨w1,h2,h3,h4⟩:=Aa1 hw h1
   exact ⟨o,w1.st,h0,h2,Ac5 f _ h3 h4⟩
theorem Vm {ops:Array Oper} {K:WS→Prop} : ∀(f:Nat) (listed:Array Bool) {w:WS} (_:w.OK),Af5 T Γ ops f listed w K→ ∃w':WS,w'.OK∧K w'
 |0,listed,w,hw,h=>by
  simp only [Af5] at h
  split at h
  ·exact ⟨w,hw,h⟩
  ·exact h.elim
 |f+1,listed,w,hw,h=>by
  simp only [Af5] at h
  split at h
  ·exact h.elim
  ·obtain ⟨o,ho,h1⟩:=Ak.1 h
   obtain ⟨w',h2,h3,h4⟩:=Aa1 hw h1
   exact Vm f _ h3 h4
theorem Agg {P:List (Nat×Nat×AV×OB)} {ops:Array Oper} {K:WS→Prop} : ∀(f:Nat) (listed:Array Bool) {w:WS} (_:w.OK),Ar5 T Γ P ops f listed w K→Bdr T Γ ops P (fun s=> ∃w':WS,w'.st=s∧w'.OK∧K w') f listed w.st
 |0,listed,w,hw,h=>by
  unfold Ar5 at h
  split at h
  ·rename_i hr;exact ⟨hr,w,rfl,hw,h⟩
  ·cases h
 |f+1,listed,w,hw,h=>by
  unfold Ar5 at h
  split at h
  ·cases h
  ·rename_i i r hr
   refine ⟨by rw [hr];simp,fun k hk=>?_⟩
   rw [hr] at hk
   obtain ⟨o,h0,h1⟩:=Ak.1 (Aif _ h k hk)
   split at h1
   ·rename_i hok
    obtain ⟨w1,h2,h3,h4⟩:=Aa1 hw h1
    exact ⟨o,w1.st,h0,hok,h2,Agg f _ h3 h4⟩
   ·cases h1
theorem At0 {α:Type} (f:α→Nat) {l:List α} (h:Ov (l.map f)=true):l.Pairwise fun a c=>f a≠f c:=List.pairwise_map.1 (Ng h)
theorem Aky {ops:Array Oper} {L0:Array Bool} {n:Nat} {w:WS} (hw:w.OK) {K:WS→Prop} (hc:Ph ops L0) (h:Ao5 T Γ (Nz T ops L0) n L0 ops w K):anyS T Γ ops (fun s=> ∃w':WS,w'.st=s∧w'.OK∧K w') n L0 w.st:=by
 unfold Ao5 at h
 split at h
 ·rename_i hb
  simp only [Bool.and_eq_true] at hb
  obtain ⟨⟨b1,b2⟩,b3,b4,b5⟩:=hb
  have hm: ∀a∈Nz T ops L0,a.1∈Region.ready .any ops L0∧ ∃o,ops[a.1]?=some o∧Vd T o=some a.2:=fun a ha=>Ao1 ha
  have p1:=At0 (fun a:Nat×Nat×AV×OB=>a.1) b1
  have p2:=At0 (fun a:Nat×Nat×AV×OB=>a.2.1) b2
  have hlen:(Nz T ops L0).length≤n:=Nat.le_of_ble_eq_true b4
  obtain ⟨w1,h1,h2,h3⟩:=Vq _ hw h
  have h3:=Vp.1 h3
  obtain ⟨w0,g1,g2⟩:=Vm _ _ h2 h3
  obtain ⟨g3,g4⟩:=Vp.1 g2
  have hp:=Ate (Γ:=Γ) _ w.st w1.st (fun a ha=>(hm a ha).2) (fun a ha=>Ajo (List.all_eq_true.1 b3 a ha)) p2 h1
  refine Aaa (fun s hs=>?_) _ _ _ (Ay2 (fun a ha=>(hm a ha).2) n (n-(Nz T ops L0).length) (Nz T ops L0) _ L0 w1.st w.st (by omega) (Agg _ _ h2 g4) hp
   (Bcg (ops:=ops) fun i hi=>by obtain ⟨a,ha,rfl⟩:=List.mem_map.1 hi;exact (hm a ha).1) (fun a ha=>ha) (p2.and p1) hc fun a ha x hx=>Zk (hm a ha).1 hx)
  obtain ⟨w',h5,_,h6⟩:=hs
  exact ⟨w0,((h5.symm.trans (Amg h6)).symm),g1,g3⟩
 ·cases h
theorem Alk {ops:Array Oper} {draw:Bool} {w:WS} (hw:w.OK) {K:WS→Prop} (h:Apk T Γ ops draw w K):Anw T Γ ops draw w.st (fun s=> ∃w':WS,w'.st=s∧w'.OK∧K w'):=by
 unfold Apk at h
 split at h
 ·split at h
  ·rename_i ho
   obtain ⟨w1,h1,h2,h3⟩:=Oe _ hw h
   obtain ⟨w2,h4,h5⟩:=Vq _ h2 h3
   exact .inl ⟨w2.st,by simp only [Jm,if_true];rw [if_pos ho,h1];exact h4,w2,rfl,h5⟩
  ·rename_i ho
   split at h
   ·rename_i ho2
    obtain ⟨w1,h1,h2,h3⟩:=Oe _ hw h
    obtain ⟨w2,h4,h5⟩:=Vq _ h2 h3
    exact .inl ⟨w2.st,by simp only [Jm,if_true];rw [if_neg (by rw [ho];decide),if_pos ho2,h1];exact h4,w2,rfl,h5⟩
   ·split at h
    ·rename_i hc
     simp only [Bool.and_eq_true] at hc
     obtain ⟨w1,h1,h2,h3⟩:=Oe _ hw h
     split at h3
     ·exact .inr ⟨rfl,hc.1,w1.st,h1,Ac5 _ _ h2 h3⟩
     ·obtain ⟨w0,g1,g2⟩:=Vm _ _ h2 h3
      obtain ⟨g3,g4⟩:=Vp.1 g2
      exact .inr ⟨rfl,hc.1,w1.st,h1,Aaa (fun s hs=>by
       obtain ⟨w',h5,_,h6⟩:=hs
       exact ⟨w0,((h5.symm.trans (Amg h6)).symm),g1,g3⟩) _ _ _ (Ac5 _ _ h2 g4)⟩
    ·split at h
     ·rename_i hns
      obtain ⟨w1,h1,h2,h3⟩:=Oe _ hw h
      exact .inr ⟨rfl,hns,w1.st,h1,Aky h2 (Vj _ _ _ Arj) h3⟩
     ·cases h
 ·obtain ⟨w1,h1,h2⟩:=Ajr _ hw h
  exact .inl ⟨w1.st,by simp only [Jm];rw [if_neg (by simp)];exact h1,w1,rfl,h2⟩
end
end Go.Proofs.Ytebabhocakedaaa
