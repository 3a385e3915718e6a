/-
  Part 33 of the proof that the statement FnExactSolutionsAtDepth holds.
-/
import Derived.Test.YtfolipnappekaaaGreatCSolutionsAtDepth31
namespace Go.Proofs.YtfolipnappekaaaGreat
open Go.RowKit
section
variable {T:Tab} {Γ:Env}
def WS.OK (w:WS):Prop:= ∀t b,sr w.kn t=some b-> ∃fr,w.st.get t= .at (.data fr .bool b)
theorem iM: ∀(l:List (Nat×Bool)) (d t:Nat) (b:Bool),sr (uj l d) t=some b->t≠d/\sr l t=some b
 | [],_,_,_,h=>by cases h
 |(k,c)::r,d,t,b,h=>by
  simp only [uj] at h
  split at h
  ·rename_i hk
   have:=iM r d t b h
   refine ⟨this.1,?_⟩
   simp only [sr]
   rw [if_neg (by rw [hk];exact λh=>this.1 h.symm)]
   exact this.2
  ·rename_i hk
   simp only [sr] at h⊢
   split at h
   ·rename_i WE
    exact ⟨by rw [<-WE];exact hk,by rw [if_pos WE];exact h⟩
   ·rename_i WE
    rw [if_neg WE]
    exact iM r d t b h
theorem WS.OK.put {w:WS} (h:w.OK) (dst:Option Tmp) (v:AV):(w.put dst v).OK:=by
 cases dst with
 |none=>exact h
 |some d=>
  intro t b hb
  obtain ⟨h1,h2⟩:=iM _ _ _ _ hb
  obtain ⟨fr,h3⟩:=h t b h2
  exact ⟨fr,by show (w.st.put (some d) v).get t=_;rw [Xg _ _ h1];exact h3⟩
theorem WS.qC (w:WS) (dst:Option Tmp) (v:AV):(w.put dst v).st=w.st.put dst v:=by cases dst<;>rfl
theorem WS.OK.to {w:WS} (h:w.OK) {s:St} (hs:Az w.st s):(w.to s).OK:=by
 intro t b hb
 obtain ⟨fr,h3⟩:=h t b hb
 exact ⟨fr,hs t fr _ _ h3⟩
theorem tR {w:WS} (hw:w.OK) {t:Nat} {K:Bool->WS->Prop} (h:brT w t K):
  ∃fr b w',w.st.get t= .at (.data fr .bool b)/\w'.st=w.st/\w'.OK/\K b w':=by
 unfold brT at h
 split at h
 ·rename_i b hb
  obtain ⟨fr,h1⟩:=hw t b hb
  exact ⟨fr,b,w,h1,rfl,hw,h⟩
 ·split at h
  ·rename_i fr b hb
   obtain ⟨h1,h2⟩:=h
   have ok: ∀c:Bool,b=c->WS.OK {kn:=(t,c)::w.kn,st:=w.st} :=by
    intro c hc t' b' h'
    simp only [sr] at h'
    split at h'
    ·rename_i ht
     injection h' with h'
     exact ⟨fr,by rw [<-ht,<-h',<-hc];exact hb⟩
    ·exact hw t' b' h'
   cases b with
   |true=>exact ⟨fr,true, {kn:=(t,true)::w.kn,st:=w.st},hb,rfl,ok true rfl,h1 rfl⟩
   |false=>exact ⟨fr,false, {kn:=(t,false)::w.kn,st:=w.st},hb,rfl,ok false rfl,h2 rfl⟩
  ·cases h
theorem tQ {w:WS} (hw:w.OK) {c:Operand} {K:Bool->WS->Prop} (h:brO w c K):
  ∃fr b w',w.st.ev c= .at (.data fr .bool b)/\w'.st=w.st/\w'.OK/\K b w':=by
 unfold brO at h
 split at h
 ·exact tR hw h
 ·exact ⟨true,_,w,rfl,rfl,hw,h⟩
 ·cases h
theorem CX {op:BinOp} {t:TypeId} {x y:AV} {K:AV->Prop} (h:Abg T op t x y K): ∃v,Of T op t x y=some v/\K v:=by
 unfold Abg at h
 split at h
 ·split at h
  ·rename_i hk
   exact ⟨_,by simp only [Of,evalBin,pV];rw [if_pos hk,if_neg h.1];rfl,h.2⟩
  ·cases h
 ·split at h
  ·rename_i hk
   exact ⟨_,by simp only [Of,evalBin,pV];rw [if_pos hk,if_neg h.1];rfl,h.2⟩
  ·cases h
 ·exact ⟨_,by simp only [Of,evalBin];rw [if_neg h.1];rfl,h.2⟩
 ·exact ⟨_,by simp only [Of,evalBin];rw [if_neg h.1];rfl,h.2⟩
 ·exact ⟨_,by simp only [Of,evalBin];rw [if_pos h.1],h.2⟩
 ·exact As.1 h
theorem zr {st:St} {t:TypeId} {p:AV} {K:AV->Prop} (h:SU T st t p K): ∃v,Le T st t p=some v/\K v:=by
 unfold SU at h
 split at h
 ·obtain ⟨τ,h1,h2⟩:=As.1 h
  split at h2
  ·rename_i hb
   split at h2
   ·rename_i he
    obtain ⟨x,h3,h4⟩:=h2
    exact ⟨_,by simp only [Le,h1,hb,if_pos he,h3];rfl,h4⟩
   ·cases h2
  ·rename_i hb
   split at h2
   ·rename_i he
    obtain ⟨x,h3,h4⟩:=h2
    exact ⟨_,by simp only [Le,h1,hb,if_pos he,h3];rfl,h4⟩
   ·cases h2
  ·rename_i hb
   split at h2
   ·cases h2
   ·rename_i he
    exact ⟨_,by simp only [Le,h1,hb,if_neg he],h2⟩
  ·cases h2
 ·obtain ⟨τ,h1,h2⟩:=As.1 h
  split at h2
  ·rename_i he
   obtain ⟨y,h3,h4⟩:=h2
   subst h3
   exact ⟨_,by simp only [Le,h1,if_pos he],h4⟩
  ·cases h2
 ·exact As.1 h
theorem lz {s:TypeId} {x:AV} {f:Nat} {K:AV->Prop} (h:iy T s x f K): ∃v,Ji T s x f=some v/\K v:=by
 unfold iy at h
 split at h
 ·obtain ⟨y,h1,h2⟩:=h
  subst h1
  obtain ⟨v,h3,h4⟩:=As.1 h2
  refine ⟨v,?_,h4⟩
  rw [<-h3]
  unfold Ji
  cases T.off s f<;>rfl
 ·exact As.1 h
theorem xd {st:St} {t:TypeId} {x:AV} {lo hi:Option AV} {K:AV->Prop} (h:GO T st t x lo hi K): ∃v,az T st t x lo hi=some v/\K v:=by
 unfold GO at h
 obtain ⟨n,h1,h⟩:=As.1 h
 obtain ⟨l,h2,h⟩:=As.1 h
 obtain ⟨hh,h3,hc,h⟩:=As.1 h
 obtain ⟨v,h4,h5⟩:=As.1 h
 refine ⟨v,?_,h5⟩
 simp only [az,h1,h2,h3,if_pos hc]
 exact h4
theorem lH {st:St} {t:TypeId} {x i:AV} {K:AV->Prop} (h:iJ T st t x i K): ∃v,Gf T st t x i=some v/\K v:=by
 unfold iJ at h
 split at h
 ·split at h
  ·rename_i he
   obtain ⟨x,h3,h4⟩:=h
   exact ⟨_,by simp only [Gf,if_pos he,h3];rfl,h4⟩
  ·cases h
 ·split at h
  ·rename_i hb
   split at h
   ·rename_i he
    obtain ⟨h3,h4⟩:=h
    exact ⟨_,by simp only [Gf,hb];rw [if_pos ⟨he.1,he.2,Oo.2 h3⟩],h4⟩
   ·cases h
  ·rename_i hb
   split at h
   ·rename_i he
    obtain ⟨h3,h4⟩:=h
    exact ⟨_,by simp only [Gf,hb];rw [if_pos ⟨he.1,he.2,Oo.2 h3⟩],h4⟩
   ·cases h
  ·rename_i hb
   split at h
   ·rename_i he
    obtain ⟨h3,h4⟩:=h
    exact ⟨_,by simp only [Gf,hb];rw [if_pos ⟨he.1,he.2,Oo.2 h3⟩],h4⟩
   ·cases h
  ·cases h
 ·split at h
  ·rename_i hb
   split at h
   ·rename_i he
    obtain ⟨h3,h4⟩:=h
    exact ⟨_,by simp only [Gf,hb];rw [if_pos ⟨he,Oo.2 h3⟩],h4⟩
   ·cases h
  ·cases h
 ·cases h
theorem we {t:TypeId} {x i:AV} {K:AV->Prop} (h:EG T t x i K): ∃v,fa T t x i=some v/\K v:=by
 unfold EG at h
 split at h
 ·split at h
  ·rename_i he
   obtain ⟨h1,b,h3,h4⟩:=h
   exact ⟨_,by simp only [fa,if_pos he,if_pos h1,h3];rfl,h4⟩
  ·cases h
 ·cases h
theorem Yk {st:St} {f:FuncId} {args:List AV} {K:AV->Prop} (h:tS Γ st f args K): ∃v,Ka Γ st f args=some v/\K v:=by
 unfold tS at h
 obtain ⟨s,h1,h⟩:=As.1 h
 have h1:Γ f=some (.q s):=by
  split at h1
  ·rename_i s' hs;injection h1 with h1;rw [hs,h1]
  ·cases h1
 split at h
 ·rename_i hf
  obtain ⟨p,h2,y,h3,h4⟩:=As.1 h
  refine ⟨_,?_,h4⟩
  simp only [Ka,h1]
  rw [if_pos hf,h2]
  simp only [h3]
  rfl
 ·cases h
theorem vJ {st:St} {v:AV} {args:List AV} {K:AV->Prop} (h:DB Γ st v args K): ∃u,Sj Γ st v args=some u/\K u:=by
 unfold DB at h
 split at h
 ·split at h
  ·rename_i hc
   split at h
   ·rename_i hf
    obtain ⟨u,h1,h2⟩:=Yk h
    exact ⟨u,by simp only [Sj];rw [if_pos hc,if_pos (by simpa using hf)];exact h1,h2⟩
   ·rename_i hf
    obtain ⟨u,h1,h2⟩:=Yk h
    exact ⟨u,by simp only [Sj];rw [if_pos hc,if_neg (λhx=>by rw [show Nat.blt _ 1000000000=true from by simpa using hx] at hf;cases hf)];exact h1,h2⟩
  ·cases h
 ·exact Yk h
 ·cases h
theorem Kq {w:WS} (hw:w.OK) {x:Operand} {b:Bool} (hk:Qz w.kn x=some b): ∃fr,w.st.ev x= .at (.data fr .bool b):=by
 unfold Qz at hk
 split at hk
 ·injection hk with hk;subst hk;exact ⟨true,rfl⟩
 ·exact hw _ _ hk
 ·cases hk
theorem sw {w:WS} (hw:w.OK) {o:Oper} {b:Bool} (hk:Dq w.kn o=some b) {v:AV} (he:Cm T Γ w.st o=some v): ∃fr,v= .at (.data fr .bool b):=by
 unfold Dq at hk
 split at hk
 ·rename_i heq;unfold Cm at he;rw [heq] at he;injection he with he;obtain ⟨fr,h⟩:=Kq hw hk;exact ⟨fr,he.symm.trans h⟩
 ·rename_i heq;unfold Cm at he;rw [heq] at he;injection he with he;obtain ⟨fr,h⟩:=Kq hw hk;exact ⟨fr,he.symm.trans h⟩
 ·rename_i x heq
  cases hx:Qz w.kn x with
  |none=>rw [hx] at hk;cases hk
  |some c=>
   rw [hx] at hk
   injection hk with hk
   obtain ⟨fr,h⟩:=Kq hw hx
   unfold Cm at he;rw [heq] at he
   simp only [h,vS,Ki] at he
   injection he with he
   exact ⟨true,by rw [<-he,<-hk]⟩
 ·rename_i c x y heq
  unfold Cm at he;rw [heq] at he
  split at hk
  ·rename_i hc
   obtain ⟨fr,h⟩:=Kq hw hc
   simp only [h,ay,if_true] at he
   injection he with he
   obtain ⟨fr,h⟩:=Kq hw hk
   exact ⟨fr,he.symm.trans h⟩
  ·rename_i hc
   obtain ⟨fr,h⟩:=Kq hw hc
   simp only [h,ay,Bool.false_eq_true,if_false] at he
   injection he with he
   obtain ⟨fr,h⟩:=Kq hw hk
   exact ⟨fr,he.symm.trans h⟩
  ·cases hk
 ·cases hk
theorem qk {w:WS} (hw:w.OK) {o:Oper} {x:Operand} (ho:o.op= .assign x) {b:Bool} (hk:Dq w.kn o=some b) {v:AV} {s:St} (he:evalOp T Γ w.st o=some (v,s)): ∃fr,v= .at (.data fr .bool b):=by
 unfold Dq at hk
 rw [ho] at hk
 obtain ⟨fr,h⟩:=Kq hw hk
 unfold evalOp at he;rw [ho] at he
 simp only [h] at he
 injection he with he;injection he with he;exact ⟨fr,he.symm⟩
theorem ed {w:WS} (hw:w.OK) {o:Oper} {K:AV->WS->Prop} (h:qW T Γ w o K):
  ∃v w',Cm T Γ w.st o=some v/\w'.st=w.st/\w'.OK/\(∀b,Dq w'.kn o=some b-> ∃fr,v= .at (.data fr .bool b))/\K v w':=by
 have fin:(∃v w',Cm T Γ w.st o=some v/\w'.st=w.st/\w'.OK/\K v w')-> ∃v w',Cm T Γ w.st o=some v/\w'.st=w.st/\w'.OK/\(∀b,Dq w'.kn o=some b-> ∃fr,v= .at (.data fr .bool b))/\K v w':=by
  rintro ⟨v,w',h1,h2,h3,h4⟩
  exact ⟨v,w',h1,h2,h3,λb hb=>sw h3 hb (by rw [h2];exact h1),h4⟩
 refine fin ?_
 unfold qW at h
 split at h
 ·rename_i c a b heq
  obtain ⟨fr,t,w',h1,h2,h3,h4⟩:=tQ hw h
  cases t with
  |true=>exact ⟨_,w',by unfold Cm;rw [heq];simp only [h1,ay,if_true];rw [<-h2],h2,h3,h4⟩
  |false=>exact ⟨_,w',by unfold Cm;rw [heq];simp only [h1,ay];rw [<-h2];simp,h2,h3,h4⟩
 ·rename_i heq
  obtain ⟨v,h1,h2⟩:=zr h
  exact ⟨v,w,by unfold Cm;rw [heq];exact h1,rfl,hw,h2⟩
 ·rename_i heq
  obtain ⟨v,h1,h2⟩:=CX h
  exact ⟨v,w,by unfold Cm;rw [heq];exact h1,rfl,hw,h2⟩
 ·rename_i heq
  split at h
  ·obtain ⟨v,h1,h2⟩:=xd h
   exact ⟨v,w,by unfold Cm;rw [heq];simpa using h1,rfl,hw,h2⟩
  ·cases h
 ·rename_i heq
  obtain ⟨v,h1,h2⟩:=lH h
  exact ⟨v,w,by unfold Cm;rw [heq];exact h1,rfl,hw,h2⟩
 ·rename_i heq
  obtain ⟨v,h1,h2⟩:=we h
  exact ⟨v,w,by unfold Cm;rw [heq];exact h1,rfl,hw,h2⟩
 ·rename_i heq
  obtain ⟨v,h1,h2⟩:=Yk h
  exact ⟨v,w,by unfold Cm;rw [heq];exact h1,rfl,hw,h2⟩
 ·rename_i heq
  obtain ⟨v,h1,h2⟩:=vJ h
  exact ⟨v,w,by unfold Cm;rw [heq];exact h1,rfl,hw,h2⟩
 ·rename_i heq
  obtain ⟨v,h1,h2⟩:=lz h
  exact ⟨v,w,by unfold Cm;rw [heq];exact h1,rfl,hw,h2⟩
 ·rename_i x heq
  unfold uy at h
  split at h
  ·rename_i fr τ z hx
   obtain ⟨y,h1,h2⟩:=h
   subst h1
   exact ⟨_,w,by unfold Cm;rw [heq];simp only [hx],rfl,hw,h2⟩
  ·obtain ⟨v,h1,h2⟩:=As.1 h
   exact ⟨v,w,h1,rfl,hw,h2⟩
 ·obtain ⟨v,h1,h2⟩:=As.1 h
  exact ⟨v,w,h1,rfl,hw,h2⟩
theorem xt {st:St} {t:TypeId} {p v:AV} {K:St->Prop} (h:HI T st t p v K): ∃s,Pq T st t p v=some s/\K s:=by
 unfold HI at h
 split at h
 ·obtain ⟨τ,h1,h⟩:=As.1 h
  obtain ⟨q,h2,h⟩:=As.1 h
  split at h
  ·rename_i hb
   obtain ⟨u,h3,h⟩:=As.1 h
   split at h
   ·rename_i hc
    obtain ⟨h4,h5⟩:=h
    obtain ⟨q1,q2⟩:=q
    obtain ⟨u1,u2⟩:=u
    exact ⟨_,by simp only [Pq,h1,h2,hb,h3];rw [dif_pos hc,if_pos h4],h5⟩
   ·cases h
  ·cases h
 ·exact As.1 h
theorem td {st:St} {t:TypeId} {p v:AV} {K:St->Prop} (h:xo T st t p v K): ∃s,Ku T st t p v=some s/\K s:=by
 unfold xo at h
 unfold Ku
 split at h
 rotate_left
 ·rename_i hg;rw [hg];exact xt h
 rename_i hg
 rw [hg]
 simp only
 unfold KI at h
 split at h
 ·obtain ⟨τ,h1,h⟩:=As.1 h
  obtain ⟨q,h2,h⟩:=As.1 h
  split at h
  ·rename_i hb
   obtain ⟨u,h3,h⟩:=As.1 h
   split at h
   ·rename_i hc
    obtain ⟨q1,q2⟩:=q
    obtain ⟨u1,u2⟩:=u
    exact ⟨_,by simp only [Xe,h1,h2,hb,h3];rw [dif_pos hc],h⟩
   ·cases h
  ·cases h
 ·rename_i l j
  obtain ⟨τ,h1,h⟩:=As.1 h
  split at h
  ·rename_i e te rows out kp m off len hl _
   split at h
   ·rename_i fr tr e' tid xs hm
    split at h
    ·rename_i hc
     obtain ⟨h2,h3,h4,h5⟩:=h
     have h4:out=none\/out=some j:=by
      cases out with
      |none=>exact .inl rfl
      |some i=>exact .inr (congrArg some h4)
     exact ⟨_,by simp only [Xe,h1,hl,hm];rw [dif_pos ⟨hc.1,hc.2,h2,h3,h4⟩],h5⟩
    ·cases h
   ·cases h
  ·cases h
 ·cases h
theorem Tn {st:St} {d:Nat} {t:TypeId} {x y:Operand} {K:AV->St->Prop} (h:jk T st d t x y K): ∃v s,Jh T st d t x y=some (v,s)/\K v s:=by
 unfold jk at h
 obtain ⟨te,h1,h⟩:=As.1 h
 obtain ⟨e,h2,h⟩:=As.1 h
 obtain ⟨q,h3,h⟩:=As.1 h
 obtain ⟨u,h4,h⟩:=As.1 h
 obtain ⟨q1,q2⟩:=q
 obtain ⟨u1,u2⟩:=u
 split at h
 ·rename_i hx
  split at h
  ·rename_i hd
   obtain ⟨h5,h6⟩:=h
   refine ⟨_,_,?_,h6⟩
   simp only [Jh,h1,h2,h3,h4]
   rw [hx]
   simp only
   rw [if_pos ⟨h5,by simpa [Nat.blt_eq] using hd⟩]
   simp
  ·cases h
 ·rename_i l off len hx
  split at h
  ·rename_i fr tr e' tid xs hb
   split at h
   ·rename_i hc
    obtain ⟨h5,h6,h7,h8⟩:=h
    refine ⟨_,_,?_,h8⟩
    simp only [Jh,h1,h2,h3,h4]
    rw [hx]
    simp only [hb]
    rw [dif_pos ⟨hc.1,hc.2.1⟩,if_pos ⟨h7,by simpa [Nat.blt_eq] using hc.2.2⟩]
    obtain ⟨XG,hc2,hc3⟩:=hc
    subst XG
    subst h5
    simp only [List.drop_zero,h6,List.take_length,List.length_append]
   ·cases h
  ·cases h
 ·cases h
theorem oY {st:St} {d:Nat} {t:TypeId} {x y:Operand} {K:AV->St->Prop} (h:oX T st d t x y K): ∃v s,Mh T st d t x y=some (v,s)/\K v s:=by
 unfold oX at h
 cases x with
 |tmp tx=>
  simp only at h
  unfold Mh
  simp only
  cases hg:st.get tx with
  | «at»c=>
   rw [hg] at h
   cases c with
   |sub l i c=>
    simp only at h⊢
    obtain ⟨tid,h1,h⟩:=As.1 h
    split at h
    ·rename_i hl
     split at h
     ·rename_i hc
      obtain ⟨v,s,h2,h3⟩:=Tn h
      refine ⟨v,s,?_,h3⟩
      simp only [hl,h1]
      rw [if_pos hc]
      exact h2
     ·cases h
    ·cases h
   |_=>exact Tn h
  |_=>rw [hg] at h;exact Tn h
 |_=>exact Tn h
theorem zw {st:St} {d:Nat} {t:TypeId} {l c:AV} {K:AV->St->Prop} (h:TA T st d t l c K): ∃v s,Xd T st d t l c=some (v,s)/\K v s:=by
 unfold TA at h
 split at h
 ·obtain ⟨te,h1,h⟩:=As.1 h
  obtain ⟨e,h2,h⟩:=As.1 h
  split at h
  ·rename_i hz
   obtain ⟨h3,h4,h5⟩:=h
   refine ⟨_,_,?_,h5⟩
   simp only [Bool.and_eq_true] at hz
   simp only [Xd,h1,h2]
   rw [if_pos ⟨Oo.2 (by exact_mod_cast h3),h4,hz.1,by simpa [Nat.blt_eq] using hz.2⟩]
   simp
  ·cases h
 ·cases h
theorem wD {st:St} {d:Nat} {t:TypeId} {l c:AV} {K:AV->St->Prop} (h:EV T st d t l c K): ∃v s,Sk T st d t l c=some (v,s)/\K v s:=by
 unfold EV at h
 unfold Sk
 cases hg:aC T t with
 |none=>rw [hg] at h;exact zw h
 |some p=>
  obtain ⟨te,e⟩:=p
  rw [hg] at h
  simp only at h⊢
  split at h
  ·split at h
   ·rename_i hd
    obtain ⟨h3,h4,h5⟩:=h
    refine ⟨_,_,?_,h5⟩
    simp only
    rw [if_pos ⟨Oo.2 (by exact_mod_cast h3),h4,by simpa [Nat.blt_eq] using hd⟩]
    simp
   ·cases h
  ·cases h
theorem iw {st:St} {d:Nat} {t:TypeId} {len:Nat} {parts:Array (Nat×Operand)} {K:AV->St->Prop} (h:bp T st d t len parts K): ∃v s,Eu T st d t len parts=some (v,s)/\K v s:=by
 unfold bp at h
 unfold Eu
 cases hg:aC T t with
 |none=>
  rw [hg] at h
  obtain ⟨r,h1,h2⟩:=As.1 h
  exact ⟨r.1,r.2,h1,h2⟩
 |some p=>
  obtain ⟨te,e⟩:=p
  rw [hg] at h
  simp only at h⊢
  split at h
  ·rename_i x hp
   split at h
   ·rename_i m off ln hx
    split at h
    ·rename_i hm
     split at h
     ·rename_i hc
      obtain ⟨h1,h2,h3⟩:=h
      refine ⟨_,_,?_,h3⟩
      simp only [hp,hx,hm]
      rw [dif_pos ⟨hc.1,hc.2,h1,h2⟩]
     ·cases h
    ·cases h
   ·cases h
  ·cases h
theorem p6 {st:St} {d:Nat} {t:TypeId} {x y:Operand} {K:AV->St->Prop} (h:oZ T st d t x y K): ∃v s,Mi T st d t x y=some (v,s)/\K v s:=by
 unfold oZ at h
 unfold Mi
 cases hg:aC T t with
 |none=>rw [hg] at h;exact oY h
 |some p=>
  obtain ⟨te,e⟩:=p
  rw [hg] at h
  simp only at h⊢
  split at h
  ·rename_i l off len m TJ q9 hx hy
   split at h
   ·rename_i hl hm
    split at h
    ·rename_i hc
     obtain ⟨h1,h2,h3,h4,h5⟩:=h
     obtain ⟨⟨rfl,rfl⟩,hc⟩:=hc
     refine ⟨_,_,?_,h5⟩
     simp only [hx,hy,hl,hm]
     rw [dif_pos (⟨⟨trivial,trivial⟩,hc,h1,h2,h3,h4⟩)]
     simp
    ·cases h
   ·cases h
  ·cases h
theorem xz {st:St} {io:Bool} {k:Nat} {c:CK} {a:AC} {K:c.den->List (Nat×Loc)->Prop} (h:cb st io k c a K): ∃x t,Hl st io k c a=some (x,t)/\K x t:=by
 cases c with
 |Dn τ=>
  cases a with
  |own l off len=>
   obtain ⟨p,h1,h2⟩:=As.1 h
   exact ⟨_,_,by simp only [Hl];rw [h1];rfl,h2⟩
  |clo g Ca=>
   simp only [cb] at h
   split at h
   ·rename_i hc
    obtain ⟨p,h1,h2⟩:=As.1 h
    exact ⟨_,_,by simp only [Hl];rw [if_pos hc,h1];rfl,h2⟩
   ·cases h
  |Du l i=>
   simp only [cb] at h
   split at h
   ·rename_i hc
    obtain ⟨p,h1,h2⟩:=As.1 h
    exact ⟨_,_,by simp only [Hl];rw [if_pos hc,h1];rfl,h2⟩
   ·cases h
  |sub l i c=>
   obtain ⟨p,h1,h2⟩:=As.1 h
   exact ⟨_,_,by simp only [Hl];rw [h1];rfl,h2⟩
  |_=>
   simp only [cb] at h
   split at h
   ·rename_i hc
    obtain ⟨p,h1,h2⟩:=As.1 h
    exact ⟨_,_,by simp only [Hl];rw [if_pos hc,h1];rfl,h2⟩
   ·cases h
 |row e te=>
  cases a<;>simp only [cb] at h<;>first|(cases h;done)|skip
  ·exact ⟨_,_,rfl,h⟩
  ·split at h
   ·rename_i hl
    split at h
    ·rename_i hc
     obtain ⟨h1,h2,h3⟩:=h
     exact ⟨_,_,by simp only [Hl,hl];rw [dif_pos ⟨hc.1,hc.2,h1,h2⟩],h3⟩
    ·cases h
   ·cases h
  ·split at h
   ·rename_i hl
    split at h
    ·rename_i hc
     obtain ⟨y,h1,h2⟩:=h
     exact ⟨_,_,by simp only [Hl,hl];rw [dif_pos hc,h1];rfl,h2⟩
    ·cases h
   ·cases h
 |Dv e te=>
  cases a<;>simp only [cb] at h<;>first|(cases h;done)|skip
  ·exact ⟨_,_,rfl,h⟩
  ·split at h
   ·rename_i hl
    split at h
    ·rename_i hc
     obtain ⟨h1,h2,h3⟩:=h
     exact ⟨_,_,by simp only [Hl,hl];rw [dif_pos ⟨hc.1,hc.2,h1,h2⟩],h3⟩
    ·cases h
   ·cases h
  ·split at h
   ·rename_i hl
    split at h
    ·rename_i hc
     obtain ⟨y,h1,h2⟩:=h
     exact ⟨_,_,by simp only [Hl,hl];rw [dif_pos hc,h1];rfl,h2⟩
    ·cases h
   ·cases h
 |part e te=>
  cases a<;>simp only [cb] at h<;>first|(cases h;done)|skip
  split at h
  ·rename_i hl
   split at h
   ·rename_i hc
    exact ⟨_,_,by simp only [Hl,hl];rw [dif_pos hc],h⟩
   ·cases h
  ·cases h
 |Al e te kp=>
  cases a<;>simp only [cb] at h<;>first|(cases h;done)|skip
  split at h
  ·rename_i hl
   split at h
   ·rename_i hc
    obtain ⟨h1,h2,h3⟩:=h
    exact ⟨_,_,by simp only [Hl,hl];rw [dif_pos ⟨hc.1,hc.2.1,h1,h2,hc.2.2⟩],h3⟩
   ·cases h
  ·cases h
theorem AD {st:St} {e:Ty} {ys:List e.den} {a:AC} {K:St->Prop} (h:TX st e ys a K): ∃s,FY st e ys a=some s/\K s:=by
 cases a<;>simp only [TX] at h<;>first|(cases h;done)|skip
 split at h
 ·rename_i hl
  split at h
  ·rename_i hc
   obtain ⟨h1,h3⟩:=h
   exact ⟨_,by simp only [FY,hl];rw [dif_pos ⟨hc,h1⟩],h3⟩
  ·cases h
 ·cases h
theorem gZ {st:St} : ∀(cs:List (Bool×CK)) (k:Nat) (as:List AC) (K:Ins.den cs->List (Nat×Loc)->Prop),xA st k cs as K-> ∃x t,cc st k cs as=some (x,t)/\K x t
 | [],_,[],_,h=>⟨_,_,rfl,h⟩
 | [],_,_::_,_,h=>h.elim
 |_::_,_,[],_,h=>h.elim
 |p::r,k,a::as,K,h=>by
  obtain ⟨x,t1,h1,h2⟩:=xz h
  obtain ⟨y,t2,h3,h4⟩:=gZ r (k+1) as _ h2
  exact ⟨_,_,by simp only [cc,h1,h3],h4⟩
theorem np {st:St} {c:CK} {ys:c.den} {a:AC} {K:St->Prop} (h:nm st c ys a K): ∃s,Yh st c ys a=some s/\K s:=by
 cases c with
 |Dn τ=>cases a<;>simp only [nm] at h<;>first|(cases h;done)|exact ⟨_,rfl,h⟩
 |row e te=>
  cases a<;>simp only [nm] at h<;>first|(cases h;done)|skip
  ·exact ⟨_,rfl,h⟩
  ·split at h
   ·rename_i hl
    split at h
    ·rename_i hc
     obtain ⟨h1,h3⟩:=h
     exact ⟨_,by simp only [Yh,hl];rw [dif_pos ⟨hc,h1⟩],h3⟩
    ·cases h
   ·cases h
  ·split at h
   ·rename_i hl
    split at h
    ·rename_i hc
     obtain ⟨y,h1,h2,h3⟩:=h
     exact ⟨_,by simp only [Yh,hl,dif_pos hc,h1];rw [if_pos h2],h3⟩
    ·cases h
   ·cases h
 |Dv e te=>
  cases a<;>simp only [nm] at h<;>first|(cases h;done)|skip
  ·exact ⟨_,rfl,h⟩
  ·split at h
   ·rename_i hl
    split at h
    ·rename_i hc
     obtain ⟨h1,h3⟩:=h
     exact ⟨_,by simp only [Yh,hl];rw [dif_pos ⟨hc,h1⟩],h3⟩
    ·cases h
   ·cases h
  ·split at h
   ·rename_i hl
    split at h
    ·rename_i hc
     obtain ⟨y,h1,h2,h3⟩:=h
     exact ⟨_,by simp only [Yh,hl,dif_pos hc,h1];rw [if_pos h2],h3⟩
    ·cases h
   ·cases h
 |part e te=>cases a<;>simp only [nm] at h<;>first|(cases h;done)|exact ⟨_,rfl,h⟩
 |Al e te kp=>cases a<;>simp only [nm] at h<;>first|(cases h;done)|exact ⟨_,rfl,h⟩
theorem Kz: ∀(cs:List (Bool×CK)) (o:IOs.den cs) (as:List AC) (st:St) (K:St->Prop),ec cs o as st K-> ∃s,Ef cs o as st=some s/\K s
 | [],_,_,st,K,h=>⟨st,rfl,h⟩
 |(true, .Dn _)::r,o,[],st,K,h=>h.elim
 |(true, .row _ _)::r,o,[],st,K,h=>h.elim
 |(true, .Dv _ _)::r,o,[],st,K,h=>h.elim
 |(true, .part _ _)::r,o,[],st,K,h=>h.elim
 |(true, .Al _ _ _)::r,o,[],st,K,h=>h.elim
 |(true, .Al _ _ _)::r,o,a::as,st,K,h=>by
  obtain ⟨s,h1,h2⟩:=Kz r o as st K h
  exact ⟨s,by simp only [Ef];exact h1,h2⟩
 |(false,_)::r,o,[],st,K,h=>h.elim
 |(true, .Dn _)::r,o,a::as,st,K,h=>by
  obtain ⟨s,h1,h2⟩:=Kz r o as st K h
  exact ⟨s,by simp only [Ef];exact h1,h2⟩
 |(false,_)::r,o,a::as,st,K,h=>by
  obtain ⟨s,h1,h2⟩:=Kz r o as st K h
  exact ⟨s,by simp only [Ef];exact h1,h2⟩
 |(true, .row _ _)::r,o,a::as,st,K,h=>by
  obtain ⟨s1,h1,h2⟩:=np h
  obtain ⟨s,h3,h4⟩:=Kz r o.2 as s1 K h2
  exact ⟨s,by simp only [Ef,h1];exact h3,h4⟩
 |(true, .part _ _)::r,o,a::as,st,K,h=>by
  obtain ⟨s1,h1,h2⟩:=AD h
  obtain ⟨s,h3,h4⟩:=Kz r o.2 as s1 K h2
  exact ⟨s,by simp only [Ef,h1];exact h3,h4⟩
 |(true, .Dv _ _)::r,o,a::as,st,K,h=>by
  obtain ⟨s1,h1,h2⟩:=np h
  obtain ⟨s,h3,h4⟩:=Kz r o.2 as s1 K h2
  exact ⟨s,by simp only [Ef,h1];exact h3,h4⟩
theorem nC {H:List (Nat×OB)} {ls:List Nat} {n:Nat} {K:Prop} : ∀(l:List AV),ry H ls n l K->aa H ls n l=true/\K
 | [],h=>⟨rfl,h⟩
 |a::r,h=>by
  have go:ry H ls n r K->aa H ls n r=true/\K:=nC r
  cases a with
  | «at»c=>
   cases c with
   |sub l i c=>
    simp only [ry] at h
    simp only [aa]
    split at h
    ·rename_i hc
     obtain ⟨⟨h1,h2⟩,h3⟩:=h
     obtain ⟨g1,g2⟩:=go h3
     exact ⟨by simp only [hc,g1,Bool.and_true,Bool.not_true,Bool.false_or,Bool.and_eq_true,Nat.blt_eq];exact ⟨h1,h2⟩,g2⟩
    ·rename_i hc
     obtain ⟨g1,g2⟩:=go h
     exact ⟨by simp only [hc,g1,Bool.not_false,Bool.true_or,Bool.and_true],g2⟩
   |_=>exact go h
  |_=>exact go h
theorem vI {st:St} {d:Option Nat} {s:MSpec} {args:List AV} {K:AV->St->Prop} (h:DA st d s args K): ∃v s',Si st d s args=some (v,s')/\K v s':=by
 unfold DA at h
 obtain ⟨⟨pl,cells,rest⟩,h0,h⟩:=As.1 h
 obtain ⟨as,h1,h⟩:=As.1 h
 obtain ⟨x,tks,h2,h⟩:=gZ s.ins 0 (cells++as) _ h
 split at h
 ·rename_i hc
  obtain ⟨⟨r,o⟩,h3,h⟩:=h
  obtain ⟨st1,h4,h⟩:=Kz s.ins o (cells++as) st _ h
  obtain ⟨v,h5,h6⟩:=As.1 h
  obtain ⟨h7,h6⟩:=nC _ h6
  refine ⟨v,_,?_,h6⟩
  unfold Si
  simp only [h0,h1,h2]
  rw [if_pos hc]
  simp only [h3,h4,h5]
  rw [if_pos h7]
 ·cases h
theorem MM {w:WS} (hw:w.OK) {o:Oper} {K:AV->WS->Prop} (h:YE T Γ w o K):
  ∃v w',evalOp T Γ w.st o=some (v,w'.st)/\w'.OK/\(∀b,Dq w'.kn o=some b-> ∃fr,v= .at (.data fr .bool b))/\K v w':=by
 have fin: ∀v s,(∀b,Dq w.kn o=some b-> ∃fr,v= .at (.data fr .bool b))->evalOp T Γ w.st o=some (v,s)->K v (w.to s)-> ∃v w',evalOp T Γ w.st o=some (v,w'.st)/\w'.OK/\(∀b,Dq w'.kn o=some b-> ∃fr,v= .at (.data fr .bool b))/\K v w':=
  fun v s hk h1 h2=>⟨v,w.to s,h1,hw.to (jC h1),hk,h2⟩
 have vU:(∀b v s,Dq w.kn o=some b->evalOp T Γ w.st o=some (v,s)-> ∃fr,v= .at (.data fr .bool b))->Ea (evalOp T Γ w.st o) (λr=>K r.1 (w.to r.2))-> ∃v w',evalOp T Γ w.st o=some (v,w'.st)/\w'.OK/\(∀b,Dq w'.kn o=some b-> ∃fr,v= .at (.data fr .bool b))/\K v w':=by
  intro hk h
  obtain ⟨r,h1,h2⟩:=As.1 h
  exact fin r.1 r.2 (λb hb=>hk b _ _ hb h1) h1 h2
 unfold YE at h
 split at h
 ·rename_i heq
  obtain ⟨s,h1,h2⟩:=td h
  refine fin _ _ (λb hb=>by unfold Dq at hb;rw [heq] at hb;cases hb) ?_ h2
  unfold evalOp;rw [heq];simp only [h1];rfl
 ·rename_i heq
  obtain ⟨d,h1,h⟩:=As.1 h
  obtain ⟨v,s,h2,h3⟩:=wD h
  refine fin _ _ (λb hb=>by unfold Dq at hb;rw [heq] at hb;cases hb) ?_ h3
  unfold evalOp;rw [heq];simp only [h1,h2]
 ·rename_i heq
  split at h
  ·rename_i hd ha ht
   split at h
   ·rename_i Qj
    obtain ⟨v,s,h2,h3⟩:=p6 h
    refine fin _ _ (λb hb=>by unfold Dq at hb;rw [heq] at hb;cases hb) ?_ h3
    unfold evalOp;rw [heq];simp only [hd,ha,ht,if_pos Qj,h2]
   ·cases h
  ·cases h
 ·rename_i heq;exact vU (λb v s hb he=>qk hw heq hb he) h
 ·rename_i heq;exact vU (λb v s hb he=>by unfold Dq at hb;rw [heq] at hb;cases hb) h
 ·rename_i heq;exact vU (λb v s hb he=>by unfold Dq at hb;rw [heq] at hb;cases hb) h
 ·rename_i heq
  obtain ⟨d,h1,h⟩:=As.1 h
  obtain ⟨v,s,h2,h3⟩:=iw h
  refine fin _ _ (λb hb=>by unfold Dq at hb;rw [heq] at hb;cases hb) ?_ h3
  unfold evalOp;rw [heq];simp only [h1,h2]
 ·rename_i heq;exact vU (λb v s hb he=>by unfold Dq at hb;rw [heq] at hb;cases hb) h
 ·rename_i heq;exact vU (λb v s hb he=>by unfold Dq at hb;rw [heq] at hb;cases hb) h
 ·rename_i heq;exact vU (λb v s hb he=>by unfold Dq at hb;rw [heq] at hb;cases hb) h
 ·rename_i heq;exact vU (λb v s hb he=>by unfold Dq at hb;rw [heq] at hb;cases hb) h
 ·rename_i heq;exact vU (λb v s hb he=>by unfold Dq at hb;rw [heq] at hb;cases hb) h
 ·rename_i heq;exact vU (λb v s hb he=>by unfold Dq at hb;rw [heq] at hb;cases hb) h
 ·
  rename_i f _ _ heq
  split at h
  ·rename_i Kl
   obtain ⟨v,s',h1,h2⟩:=vI h
   refine fin v s' (λb hb=>by unfold Dq at hb;rw [heq] at hb;cases hb) ?_ h2
   unfold evalOp;rw [heq];simp only [Kl];exact h1
  ·rename_i s Kl
   split at h
   ·rename_i JM
    obtain ⟨st1,hs,h⟩:=As.1 h
    obtain ⟨v,w',h1,h2,h3,WZ,h4⟩:=ed (hw.to (Va _ hs)) h
    refine ⟨v,w',?_,h3,WZ,h4⟩
    have h1:Cm T Γ st1 o=some v:=h1
    have h2:w'.st=st1:=h2
    unfold evalOp
    rw [heq]
    simp only [Kl,JM,hs,h1,h2]
    rfl
   ·rename_i JM
    obtain ⟨v,w',h1,h2,h3,WZ,h4⟩:=ed hw h
    refine ⟨v,w',?_,h3,WZ,h4⟩
    unfold evalOp
    rw [heq]
    simp only [Kl,JM,h1,h2]
    rfl
  ·rename_i Ara Agn
   obtain ⟨v,w',h1,h2,h3,WZ,h4⟩:=ed hw h
   refine ⟨v,w',?_,h3,WZ,h4⟩
   unfold evalOp
   rw [heq]
   simp only
   rw [h1,h2];rfl
 ·rename_i n1 n2 n3 n4 n5 n6 n7 n8 n9 n10 n11 n12 n13 n14
  obtain ⟨v,w',h1,h2,h3,WZ,h4⟩:=ed hw h
  refine ⟨v,w',?_,h3,WZ,h4⟩
  unfold evalOp
  split
  all_goals first
   |(rw [h1,h2];rfl)
   |(rename_i hq;exact absurd hq (by first|exact n1 _|exact n2 _|exact n3 _|exact n4 _|exact n5 _|exact n6 _|exact n7 _|exact n8 _|exact n9 _|exact n10 _|exact n11 _|exact n12 _|exact n13 _|exact n14 _))
   |(rename_i hq;exact absurd hq (by first|exact n1 _ _|exact n2 _ _|exact n3 _ _|exact n4 _ _|exact n5 _ _|exact n6 _ _|exact n7 _ _|exact n8 _ _|exact n9 _ _|exact n10 _ _|exact n11 _ _|exact n12 _ _|exact n13 _ _|exact n14 _ _))
   |(rename_i hq;exact absurd hq (by first|exact n1 _ _ _|exact n2 _ _ _|exact n3 _ _ _|exact n4 _ _ _|exact n5 _ _ _|exact n6 _ _ _|exact n7 _ _ _|exact n8 _ _ _|exact n9 _ _ _|exact n10 _ _ _|exact n11 _ _ _|exact n12 _ _ _|exact n13 _ _ _|exact n14 _ _ _))
   |(rename_i hq;exact absurd hq (by first|exact n1 _ _ _ _|exact n2 _ _ _ _|exact n3 _ _ _ _|exact n4 _ _ _ _|exact n5 _ _ _ _|exact n6 _ _ _ _|exact n7 _ _ _ _|exact n8 _ _ _ _|exact n9 _ _ _ _|exact n10 _ _ _ _|exact n11 _ _ _ _|exact n12 _ _ _ _|exact n13 _ _ _ _|exact n14 _ _ _ _))
theorem vX (st:St) (d:Nat) (v:AV):(st.put (some d) v).get d=v\/(st.put (some d) v).get d= .undef:=by
 simp only [St.put,St.get]
 rw [Lo]
 by_cases h:d<st.tmps.length
 ·exact .inl (by rw [if_pos ⟨rfl,h⟩])
 ·refine .inr ?_
  rw [if_neg (λhc=>h hc.2),List.getD_eq_getElem?_getD,List.getElem?_eq_none (by omega)]
  rfl
theorem WS.OK.sL {w:WS} (hw:w.OK) (o:Oper) (v:AV) (h: ∀b,Dq w.kn o=some b-> ∃fr,v= .at (.data fr .bool b)):(w.sL o v).OK/\(w.sL o v).st=w.st.put o.dst v:=by
 unfold WS.sL
 split
 ·rename_i d b hd hk
  split
  ·rename_i fr c hg
   refine ⟨?_,by rw [hd]⟩
   obtain ⟨Qs,hv⟩:=h b hk
   intro t b' hb
   simp only [sr] at hb
   split at hb
   ·rename_i ht
    injection hb with hb
    subst ht;subst hb
    refine ⟨Qs,?_⟩
    show (w.st.put (some d) v).get d=_
    cases vX w.st d v with
    |inl h1=>rw [h1,hv]
    |inr h1=>rw [h1] at hg;cases hg
   ·exact hw.put (some d) v t b' hb
  ·exact ⟨hw.put _ _,by rw [WS.qC,hd]⟩
 ·exact ⟨hw.put _ _,WS.qC _ _ _⟩
theorem nB {ops:Array Oper} {w:WS} (hw:w.OK) {o:Oper} {run:(AV->WS->Prop)->WS->Prop} {R:St->Option (AV×St)} {K:WS->Prop}
  (hr: ∀(k:AV->WS->Prop) (w:WS),w.OK->run k w-> ∃v w',R w.st=some (v,w'.st)/\w'.OK/\(∀b,Dq w'.kn o=some b-> ∃fr,v= .at (.data fr .bool b))/\k v w') (h:eF ops w o run K):
  ∃w',(match o.guard with
   |none=>(R w.st).map λr=>r.2.put o.dst r.1
   |some (j,want)=>match Sa w.st ((ops[j]?).bind (·.dst)) with
    |some (some b)=>if b==want then (R w.st).map λr=>r.2.put o.dst r.1 else some (w.st.put o.dst (.at .skip))
    |some none=>some (w.st.put o.dst (.at .skip))
    |none=>none)=some w'.st/\w'.OK/\K w':=by
 have go: ∀w:WS,w.OK->run (λv w'=>K (w'.sL o v)) w-> ∃w',((R w.st).map λr=>r.2.put o.dst r.1)=some w'.st/\w'.OK/\K w':=by
  intro w hw h
  obtain ⟨v,w',h1,h2,h3,h4⟩:=hr _ _ hw h
  obtain ⟨h5,h6⟩:=h2.sL o v h3
  exact ⟨w'.sL o v,by rw [h1,h6];rfl,h5,h4⟩
 unfold eF at h
 split at h
 ·rename_i hg
  rw [hg]
  exact go w hw h
 ·rename_i j want hg
  rw [hg]
  obtain ⟨t,h1,h⟩:=As.1 h
  simp only [h1]
  split at h
  ·rename_i hs
   have hsk:w.st.get t= .at .skip:=by
    unfold AV.SM at hs
    split at hs
    ·assumption
    ·cases hs
   exact ⟨_,by simp only [Sa,hsk];rw [WS.qC],hw.put _ _,h⟩
  ·obtain ⟨fr,b,w',h2,h3,h4,h5⟩:=tR hw h
   have hb:Sa w.st (some t)=some (some b):=by simp only [Sa,h2]
   rw [hb]
   simp only
   cases b with
   |true=>
    cases want with
    |true=>rw [if_pos (by decide),<-h3];exact go w' h4 h5
    |false=>exact ⟨_,by rw [if_neg (by decide),<-h3,WS.qC],h4.put _ _,h5⟩
   |false=>
    cases want with
    |false=>rw [if_pos (by decide),<-h3];exact go w' h4 h5
    |true=>exact ⟨_,by rw [if_neg (by decide),<-h3,WS.qC],h4.put _ _,h5⟩
theorem ba {ops:Array Oper} {w:WS} (hw:w.OK) {o:Oper} {K:WS->Prop} (h:eF ops w o (λk w'=>YE T Γ w' o k) K): ∃w',Ch T Γ ops w.st o=some w'.st/\w'.OK/\K w':=by
 obtain ⟨w',h1,h2⟩:=nB hw (R:= λst=>evalOp T Γ st o) (λk w hw h=>by
  obtain ⟨v,w',h1,h2,ZT,h3⟩:=MM hw h
  exact ⟨v,w',h1,h2,ZT,h3⟩) h
 exact ⟨w',h1,h2⟩
theorem QG {w:WS} (hw:w.OK) {o:Oper} {K:AV->WS->Prop} (h:bW T Γ w o K):
  ∃v w',Ru T Γ w.st o=some v/\w'.st=w.st/\w'.OK/\(∀b,Dq w'.kn o=some b-> ∃fr,v= .at (.data fr .bool b))/\K v w':=by
 unfold bW at h
 split at h
 ·rename_i t len parts oE
  obtain ⟨v,h1,h2⟩:=As.1 h
  exact ⟨v,w,by unfold Ru;rw [oE];exact h1,rfl,hw,λb hb=>by simp [Dq,oE] at hb,h2⟩
 ·rename_i t parts oE
  obtain ⟨v,h1,h2⟩:=As.1 h
  exact ⟨v,w,by unfold Ru;rw [oE];exact h1,rfl,hw,λb hb=>by simp [Dq,oE] at hb,h2⟩
 ·rename_i n1 n2
  obtain ⟨v,w',h1,h2⟩:=ed hw h
  refine ⟨v,w',?_,h2⟩
  rw [<-h1]
  unfold Ru
  split
  ·rename_i h9;exact absurd h9 (n1 _ _ _)
  ·rename_i h9;exact absurd h9 (n2 _ _)
  ·rfl
theorem YR {ops:Array Oper} {w:WS} (hw:w.OK) {o:Oper} {K:WS->Prop} (h:eF ops w o (λk w'=>bW T Γ w' o k) K): ∃v w',Rr T Γ ops w.st o=some v/\w'.st=w.st.put o.dst v/\w'.OK/\K w':=by
 obtain ⟨w',h1,h2,h3⟩:=nB hw (R:= λst=>(Ru T Γ st o).map λv=>(v,st)) (λk w hw h=>by
  obtain ⟨v,w',h1,h2,h3,WZ,h4⟩:=QG hw h
  exact ⟨v,w',by simp only [h1,h2];rfl,h3,WZ,h4⟩) h
 have key: ∀u:Option AV,((u.map λv=>(v,w.st)).map λr=>r.2.put o.dst r.1)=some w'.st-> ∃v,u=some v/\w'.st=w.st.put o.dst v:=by
  intro u hu
  cases u with
  |none=>cases hu
  |some v=>injection hu with hu;exact ⟨v,rfl,hu.symm⟩
 unfold Rr
 split at h1
 ·rename_i hg
  obtain ⟨v,h4,h5⟩:=key _ h1
  exact ⟨v,w',by rw [hg];exact h4,h5,h2,h3⟩
 ·rename_i j want hg
  rw [hg]
  split at h1
  ·rename_i b hb
   simp only [hb]
   split at h1
   ·rename_i QV
    obtain ⟨v,h4,h5⟩:=key _ h1
    exact ⟨v,w',by rw [if_pos QV];exact h4,h5,h2,h3⟩
   ·rename_i QV
    injection h1 with h1
    exact ⟨_,w',by rw [if_neg QV],h1.symm,h2,h3⟩
  ·rename_i hb
   simp only [hb]
   injection h1 with h1
   exact ⟨_,w',rfl,h1.symm,h2,h3⟩
  ·cases h1
theorem ql {ops:Array Oper} : ∀(l:List Oper) {w:WS} (_:w.OK) {K:WS->Prop},Adj T Γ ops l w K-> ∃w',Vv T Γ ops l w.st=some w'.st/\w'.OK/\K w'
 | [],w,hw,K,h=>⟨w,rfl,hw,h⟩
 |o::r,w,hw,K,h=>by
  obtain ⟨w1,h1,h2,h3⟩:=ba hw h
  obtain ⟨w2,h4,h5⟩:=ql r h2 h3
  exact ⟨w2,by simp only [Vv];rw [h1];exact h4,h5⟩
theorem bB {ops:Array Oper} : ∀(l:List Nat) {w:WS} (_:w.OK) {K:WS->Prop},SC T Γ ops l w K-> ∃w',Ij T Γ ops l w.st=some w'.st/\w'.OK/\K w'
 | [],w,hw,K,h=>⟨w,rfl,hw,h⟩
 |i::r,w,hw,K,h=>by
  obtain ⟨o,h0,h⟩:=As.1 h
  obtain ⟨w1,h1,h2,h3⟩:=ba hw h
  obtain ⟨w2,h4,h5⟩:=bB r h2 h3
  exact ⟨w2,by simp only [Ij];rw [h0];simp only [h1];exact h4,h5⟩
theorem Mm {ops:Array Oper} : ∀(l:List Nat) {w:WS} (_:w.OK) {K:WS->Prop},mS T Γ ops l w K-> ∃w',Cw T Γ ops l w.st=some w'.st/\w'.OK/\K w'
 | [],w,hw,K,h=>⟨w,rfl,hw,h⟩
 |i::r,w,hw,K,h=>by
  obtain ⟨o,h0,h⟩:=As.1 h
  obtain ⟨v,w1,h1,h1',h2,h3⟩:=YR hw h
  obtain ⟨w2,h4,h5⟩:=Mm r h2 h3
  exact ⟨w2,by simp only [Cw];rw [h0];simp only [h1];rw [<-h1'];exact h4,h5⟩
theorem jj {P:Nat->Prop} : ∀(l:List Nat),QD l P-> ∀i∈l,P i
 | [],_,i,hi=>by cases hi
 | [k],h,i,hi=>by rw [List.mem_singleton.1 hi];exact h
 |k::j::r,h,i,hi=>by
  rcases List.mem_cons.1 hi with rfl|hi
  ·exact h.1
  ·exact jj (j::r) h.2 i hi
theorem iu {ops:Array Oper} {K:WS->Prop} : ∀(f:Nat) (Aa:Array Bool) {w:WS} (_:w.OK),KV T Γ ops f Aa w K->anyS T Γ ops (λs=> ∃w':WS,w'.st=s/\w'.OK/\K w') f Aa w.st
 |0,Aa,w,hw,h=>by
  unfold KV at h
  split at h
  ·rename_i hr;exact ⟨hr,w,rfl,hw,h⟩
  ·cases h
 |f+1,Aa,w,hw,h=>by
  unfold KV at h
  split at h
  ·cases h
  ·rename_i i r hr
   refine ⟨by rw [hr];simp,λk hk=>?_⟩
   rw [hr] at hk
   obtain ⟨o,h0,h1⟩:=As.1 (jj _ h k hk)
   obtain ⟨w1,h2,h3,h4⟩:=ba hw h1
   exact ⟨o,w1.st,h0,h2,iu f _ h3 h4⟩
theorem Vw {ops:Array Oper} {K:WS->Prop} : ∀(f:Nat) (Aa:Array Bool) {w:WS} (_:w.OK),iz T Γ ops f Aa w K-> ∃w':WS,w'.OK/\K w'
 |0,Aa,w,hw,h=>by
  simp only [iz] at h
  split at h
  ·exact ⟨w,hw,h⟩
  ·exact h.elim
 |f+1,Aa,w,hw,h=>by
  simp only [iz] at h
  split at h
  ·exact h.elim
  ·obtain ⟨o,ho,h1⟩:=As.1 h
   obtain ⟨w',h2,h3,h4⟩:=ba hw h1
   exact Vw f _ h3 h4
theorem mD {P:List (Nat×Nat×AV×OB)} {ops:Array Oper} {K:WS->Prop} : ∀(f:Nat) (Aa:Array Bool) {w:WS} (_:w.OK),ye T Γ P ops f Aa w K->Abe T Γ ops P (λs=> ∃w':WS,w'.st=s/\w'.OK/\K w') f Aa w.st
 |0,Aa,w,hw,h=>by
  unfold ye at h
  split at h
  ·rename_i hr;exact ⟨hr,w,rfl,hw,h⟩
  ·cases h
 |f+1,Aa,w,hw,h=>by
  unfold ye at h
  split at h
  ·cases h
  ·rename_i i r hr
   refine ⟨by rw [hr];simp,λk hk=>?_⟩
   rw [hr] at hk
   obtain ⟨o,h0,h1⟩:=As.1 (jj _ h k hk)
   split at h1
   ·rename_i dK
    obtain ⟨w1,h2,h3,h4⟩:=ba hw h1
    exact ⟨o,w1.st,h0,dK,h2,mD f _ h3 h4⟩
   ·cases h1
theorem zG {α:Type} (f:α->Nat) {l:List α} (h:Vc (l.map f)=true):l.Pairwise λa c=>f a≠f c:=List.pairwise_map.1 (Sr h)
theorem Zj {ops:Array Oper} {E:List Nat} {Aa:Array Bool} {w:WS} (hw:w.OK): ∀(R:List Nat) {K:Prop},uZ T Γ ops E Aa w R K->K/\ ∀r∈R,oN ops E Aa r=true\/ ∃o v,ops[r]?=some o/\Rr T Γ ops w.st o=some v/\ ∀d,o.dst=some d->w.st.get d=v
 | [],K,h=>⟨h,λr hr=>by cases hr⟩
 |r::R,K,h=>by
  unfold uZ at h
  split at h
  ·rename_i hwt
   obtain ⟨h1,h2⟩:=Zj hw R h
   refine ⟨h1,λq hq=>?_⟩
   rcases List.mem_cons.1 hq with rfl|hq
   ·exact .inl hwt
   ·exact h2 q hq
  ·obtain ⟨h0,h⟩:=h
   obtain ⟨h1,h2⟩:=Zj hw R h
   refine ⟨h1,λq hq=>?_⟩
   rcases List.mem_cons.1 hq with rfl|hq
   ·refine .inr ?_
    obtain ⟨w',g1,_,g3⟩:=Mm _ hw h0
    obtain ⟨d,hd,g4⟩:=As.1 g3
    simp only [Cw] at g1
    split at g1
    ·cases g1
    rename_i o ho
    split at g1
    rotate_left
    ·cases g1
    rename_i v hv
    refine ⟨o,v,ho,hv,λd' QW=>?_⟩
    rw [ho] at hd
    have hdd:o.dst=some d:=hd
    rw [QW] at hdd
    cases hdd
    split at g4
    ·rename_i hl
     have e:=eZ g4
     have e1:w'.st.get d=w.st.get d:=by
      have:=congrArg (λs:St=>s.tmps) e
      simpa using this
     rw [<-e1]
     have e2:w.st.put o.dst v=w'.st:=Option.some.inj g1
     rw [<-e2,show o.dst=some d from hd]
     show (Nk w.st.tmps d v).getD d .undef=v
     rw [Lo,if_pos ⟨rfl,by simpa [Nat.blt_eq] using hl⟩]
    ·cases g4
   ·exact h2 q hq
theorem mE {ops:Array Oper} {E:List Nat} {K:WS->Prop} : ∀(f:Nat) (Aa:Array Bool) {w:WS} (_:w.OK),yf T Γ ops E f Aa w K->rW T Γ ops E (λs=> ∃w':WS,w'.st=s/\w'.OK/\K w') f Aa w.st
 |0,Aa,w,hw,h=>by
  unfold yf at h
  obtain ⟨h,hs⟩:=Zj hw _ h
  split at h
  ·rename_i hr;exact ⟨hs,hr,w,rfl,hw,h⟩
  ·cases h
 |f+1,Aa,w,hw,h=>by
  unfold yf at h
  obtain ⟨h,hs⟩:=Zj hw _ h
  split at h
  ·cases h
  ·rename_i i r hr
   refine ⟨hs,by rw [hr];simp,λk hk=>?_⟩
   rw [hr] at hk
   obtain ⟨o,h0,h1⟩:=As.1 (jj _ h k hk)
   obtain ⟨w1,h2,h3,h4⟩:=ba hw h1
   exact ⟨o,w1.st,h0,h2,mE f _ h3 h4⟩
theorem wW {ops:Array Oper} {E:List Nat} {L0:Array Bool} {n:Nat} {w:WS} (hw:w.OK) {K:WS->Prop} (h:GB T Γ E n L0 ops w K):Abf T Γ ops (λs=> ∃w':WS,w'.st=s/\w'.OK/\K w') n L0 w.st:=by
 unfold GB at h
 split at h
 ·rename_i hb
  simp only [Bool.and_eq_true] at hb
  obtain ⟨b1,b2,b3⟩:=hb
  obtain ⟨w1,h1,h2,h3⟩:=Mm _ hw h
  have h3:=Sm.1 h3
  obtain ⟨w0,g1,g2⟩:=Vw _ _ h2 h3
  obtain ⟨g3,g4⟩:=Sm.1 g2
  refine ⟨E,w1.st,b1,Nat.le_of_ble_eq_true b2,h1,lj (λs hs=>?_) _ _ _ (mE _ _ h2 g4)⟩
  obtain ⟨w',h5,_,h6⟩:=hs
  exact ⟨w0,((h5.symm.trans (eZ h6)).symm),g1,g3⟩
 ·cases h
theorem rY {ops:Array Oper} {L0:Array Bool} {n:Nat} {w:WS} (hw:w.OK) {K:WS->Prop} (hc:Ol ops L0) (h:vH T Γ (Ua T ops L0) n L0 ops w K):anyS T Γ ops (λs=> ∃w':WS,w'.st=s/\w'.OK/\K w') n L0 w.st\/Abf T Γ ops (λs=> ∃w':WS,w'.st=s/\w'.OK/\K w') n L0 w.st:=by
 unfold vH at h
 split at h
 ·rename_i hb
  simp only [Bool.and_eq_true] at hb
  obtain ⟨⟨b1,b2⟩,b3,b4,b5⟩:=hb
  have hm: ∀a∈Ua T ops L0,a.1∈Region.ready .any ops L0/\ ∃o,ops[a.1]?=some o/\bm T o=some a.2:= λa ha=>vD ha
  have p1:=zG (λa:Nat×Nat×AV×OB=>a.1) b1
  have p2:=zG (λa:Nat×Nat×AV×OB=>a.2.1) b2
  have hlen:(Ua T ops L0).length<=n:=Nat.le_of_ble_eq_true b4
  obtain ⟨w1,h1,h2,h3⟩:=bB _ hw h
  have h3:=Sm.1 h3
  obtain ⟨w0,g1,g2⟩:=Vw _ _ h2 h3
  obtain ⟨g3,g4⟩:=Sm.1 g2
  have hp:=AA (Γ:=Γ) _ w.st w1.st (λa ha=>(hm a ha).2) (λa ha=>qh (List.all_eq_true.1 b3 a ha)) p2 h1
  refine .inl (eX (λs hs=>?_) _ _ _ (KU (λa ha=>(hm a ha).2) n (n-(Ua T ops L0).length) (Ua T ops L0) _ L0 w1.st w.st (by omega) (mD _ _ h2 g4) hp
   (WT (ops:=ops) λi hi=>by obtain ⟨a,ha,rfl⟩:=List.mem_map.1 hi;exact (hm a ha).1) (λa ha=>ha) (p2.and p1) hc λa ha x hx=>Za (hm a ha).1 hx))
  obtain ⟨w',h5,_,h6⟩:=hs
  exact ⟨w0,((h5.symm.trans (eZ h6)).symm),g1,g3⟩
 ·exact .inr (wW hw h)
theorem sM {ops:Array Oper} {draw:Bool} {w:WS} (hw:w.OK) {K:WS->Prop} (h:wZ T Γ ops draw w K):vr T Γ ops draw w.st (λs=> ∃w':WS,w'.st=s/\w'.OK/\K w'):=by
 unfold wZ at h
 split at h
 ·split at h
  ·rename_i ho
   obtain ⟨w1,h1,h2,h3⟩:=Mm _ hw h
   obtain ⟨w2,h4,h5⟩:=bB _ h2 h3
   exact .inl ⟨w2.st,by simp only [Mk,if_true];rw [if_pos ho,h1];exact h4,w2,rfl,h5⟩
  ·rename_i ho
   split at h
   ·rename_i ho2
    obtain ⟨w1,h1,h2,h3⟩:=Mm _ hw h
    obtain ⟨w2,h4,h5⟩:=bB _ h2 h3
    exact .inl ⟨w2.st,by simp only [Mk,if_true];rw [if_neg (by rw [ho];decide),if_pos ho2,h1];exact h4,w2,rfl,h5⟩
   ·split at h
    ·rename_i hc
     simp only [Bool.and_eq_true] at hc
     obtain ⟨w1,h1,h2,h3⟩:=Mm _ hw h
     split at h3
     ·exact .inr ⟨rfl,hc.1,w1.st,h1, .inl (iu _ _ h2 h3)⟩
     ·obtain ⟨w0,g1,g2⟩:=Vw _ _ h2 h3
      obtain ⟨g3,g4⟩:=Sm.1 g2
      exact .inr ⟨rfl,hc.1,w1.st,h1, .inl (eX (λs hs=>by
       obtain ⟨w',h5,_,h6⟩:=hs
       exact ⟨w0,((h5.symm.trans (eZ h6)).symm),g1,g3⟩) _ _ _ (iu _ _ h2 g4))⟩
    ·split at h
     ·rename_i JM
      obtain ⟨w1,h1,h2,h3⟩:=Mm _ hw h
      exact .inr ⟨rfl,JM,w1.st,h1,rY h2 (Vt _ _ _ mI) h3⟩
     ·cases h
 ·obtain ⟨w1,h1,h2⟩:=ql _ hw h
  exact .inl ⟨w1.st,by simp only [Mk];rw [if_neg (by simp)];exact h1,w1,rfl,h2⟩
end
end Go.Proofs.YtfolipnappekaaaGreat
