/-
  Part 33 of the proof that the statement FnExactProvesNoSolutionWithin holds.
-/
import Derived.Test.YtfolipnappekaaaGreatCProvesNoSolutionWithin31
namespace Go.Proofs.YtfolipnappekaaaGreat
open Go.RowKit
section
variable {T:Tab} {Γ:Env}
def WS.OK (w:WS):Prop:= ∀t b,sB w.kn t=some b-> ∃fr,w.st.get t= .at (.data fr .bool b)
theorem iU: ∀(l:List (Nat×Bool)) (d t:Nat) (b:Bool),sB (uw l d) t=some b->t≠d/\sB l t=some b
 | [],_,_,_,h=>by cases h
 |(k,c)::r,d,t,b,h=>by
  simp only [uw] at h
  split at h
  ·rename_i hk
   have:=iU r d t b h
   refine ⟨this.1,?_⟩
   simp only [sB]
   rw [if_neg (by rw [hk];exact λh=>this.1 h.symm)]
   exact this.2
  ·rename_i hk
   simp only [sB] at h⊢
   split at h
   ·rename_i WQ
    exact ⟨by rw [<-WQ];exact hk,by rw [if_pos WQ];exact h⟩
   ·rename_i WQ
    rw [if_neg WQ]
    exact iU r d t b h
theorem WS.OK.put {w:WS} (h:w.OK) (dst:Option Tmp) (v:AV):(w.put dst v).OK:=by
 cases dst with
 |none=>exact h
 |some d=>
  intro t b hb
  obtain ⟨h1,h2⟩:=iU _ _ _ _ hb
  obtain ⟨fr,h3⟩:=h t b h2
  exact ⟨fr,by show (w.st.put (some d) v).get t=_;rw [Xl _ _ h1];exact h3⟩
theorem WS.qL (w:WS) (dst:Option Tmp) (v:AV):(w.put dst v).st=w.st.put dst v:=by cases dst<;>rfl
theorem WS.OK.to {w:WS} (h:w.OK) {s:St} (hs:Az w.st s):(w.to s).OK:=by
 intro t b hb
 obtain ⟨fr,h3⟩:=h t b hb
 exact ⟨fr,hs t fr _ _ h3⟩
theorem tZ {w:WS} (hw:w.OK) {t:Nat} {K:Bool->WS->Prop} (h:brT w t K):
  ∃fr b w',w.st.get t= .at (.data fr .bool b)/\w'.st=w.st/\w'.OK/\K b w':=by
 unfold brT at h
 split at h
 ·rename_i b hb
  obtain ⟨fr,h1⟩:=hw t b hb
  exact ⟨fr,b,w,h1,rfl,hw,h⟩
 ·split at h
  ·rename_i fr b hb
   obtain ⟨h1,h2⟩:=h
   have ok: ∀c:Bool,b=c->WS.OK {kn:=(t,c)::w.kn,st:=w.st} :=by
    intro c hc t' b' h'
    simp only [sB] at h'
    split at h'
    ·rename_i ht
     injection h' with h'
     exact ⟨fr,by rw [<-ht,<-h',<-hc];exact hb⟩
    ·exact hw t' b' h'
   cases b with
   |true=>exact ⟨fr,true, {kn:=(t,true)::w.kn,st:=w.st},hb,rfl,ok true rfl,h1 rfl⟩
   |false=>exact ⟨fr,false, {kn:=(t,false)::w.kn,st:=w.st},hb,rfl,ok false rfl,h2 rfl⟩
  ·cases h
theorem tY {w:WS} (hw:w.OK) {c:Operand} {K:Bool->WS->Prop} (h:brO w c K):
  ∃fr b w',w.st.ev c= .at (.data fr .bool b)/\w'.st=w.st/\w'.OK/\K b w':=by
 unfold brO at h
 split at h
 ·exact tZ hw h
 ·exact ⟨true,_,w,rfl,rfl,hw,h⟩
 ·cases h
theorem DG {op:BinOp} {t:TypeId} {x y:AV} {K:AV->Prop} (h:Abp T op t x y K): ∃v,Oh T op t x y=some v/\K v:=by
 unfold Abp at h
 split at h
 ·split at h
  ·rename_i hk
   exact ⟨_,by simp only [Oh,evalBin,qa];rw [if_pos hk,if_neg h.1];rfl,h.2⟩
  ·cases h
 ·split at h
  ·rename_i hk
   exact ⟨_,by simp only [Oh,evalBin,qa];rw [if_pos hk,if_neg h.1];rfl,h.2⟩
  ·cases h
 ·exact ⟨_,by simp only [Oh,evalBin];rw [if_neg h.1];rfl,h.2⟩
 ·exact ⟨_,by simp only [Oh,evalBin];rw [if_neg h.1];rfl,h.2⟩
 ·exact ⟨_,by simp only [Oh,evalBin];rw [if_pos h.1],h.2⟩
 ·exact As.1 h
theorem zD {st:St} {t:TypeId} {p:AV} {K:AV->Prop} (h:TE T st t p K): ∃v,Lg T st t p=some v/\K v:=by
 unfold TE at h
 split at h
 ·obtain ⟨τ,h1,h2⟩:=As.1 h
  split at h2
  ·rename_i hb
   split at h2
   ·rename_i he
    obtain ⟨x,h3,h4⟩:=h2
    exact ⟨_,by simp only [Lg,h1,hb,if_pos he,h3];rfl,h4⟩
   ·cases h2
  ·rename_i hb
   split at h2
   ·rename_i he
    obtain ⟨x,h3,h4⟩:=h2
    exact ⟨_,by simp only [Lg,h1,hb,if_pos he,h3];rfl,h4⟩
   ·cases h2
  ·rename_i hb
   split at h2
   ·cases h2
   ·rename_i he
    exact ⟨_,by simp only [Lg,h1,hb,if_neg he],h2⟩
  ·cases h2
 ·obtain ⟨τ,h1,h2⟩:=As.1 h
  split at h2
  ·rename_i he
   obtain ⟨y,h3,h4⟩:=h2
   subst h3
   exact ⟨_,by simp only [Lg,h1,if_pos he],h4⟩
  ·cases h2
 ·exact As.1 h
theorem lH {s:TypeId} {x:AV} {f:Nat} {K:AV->Prop} (h:iF T s x f K): ∃v,Jk T s x f=some v/\K v:=by
 unfold iF at h
 split at h
 ·obtain ⟨y,h1,h2⟩:=h
  subst h1
  obtain ⟨v,h3,h4⟩:=As.1 h2
  refine ⟨v,?_,h4⟩
  rw [<-h3]
  unfold Jk
  cases T.off s f<;>rfl
 ·exact As.1 h
theorem xo {st:St} {t:TypeId} {x:AV} {lo hi:Option AV} {K:AV->Prop} (h:GX T st t x lo hi K): ∃v,aD T st t x lo hi=some v/\K v:=by
 unfold GX at h
 obtain ⟨n,h1,h⟩:=As.1 h
 obtain ⟨l,h2,h⟩:=As.1 h
 obtain ⟨hh,h3,hc,h⟩:=As.1 h
 obtain ⟨v,h4,h5⟩:=As.1 h
 refine ⟨v,?_,h5⟩
 simp only [aD,h1,h2,h3,if_pos hc]
 exact h4
theorem lP {st:St} {t:TypeId} {x i:AV} {K:AV->Prop} (h:iR T st t x i K): ∃v,Gf T st t x i=some v/\K v:=by
 unfold iR at h
 split at h
 ·split at h
  ·rename_i he
   obtain ⟨x,h3,h4⟩:=h
   exact ⟨_,by simp only [Gf,if_pos he,h3];rfl,h4⟩
  ·cases h
 ·split at h
  ·rename_i hb
   split at h
   ·rename_i he
    obtain ⟨h3,h4⟩:=h
    exact ⟨_,by simp only [Gf,hb];rw [if_pos ⟨he.1,he.2,Ot.2 h3⟩],h4⟩
   ·cases h
  ·rename_i hb
   split at h
   ·rename_i he
    obtain ⟨h3,h4⟩:=h
    exact ⟨_,by simp only [Gf,hb];rw [if_pos ⟨he.1,he.2,Ot.2 h3⟩],h4⟩
   ·cases h
  ·rename_i hb
   split at h
   ·rename_i he
    obtain ⟨h3,h4⟩:=h
    exact ⟨_,by simp only [Gf,hb];rw [if_pos ⟨he.1,he.2,Ot.2 h3⟩],h4⟩
   ·cases h
  ·cases h
 ·split at h
  ·rename_i hb
   split at h
   ·rename_i he
    obtain ⟨h3,h4⟩:=h
    exact ⟨_,by simp only [Gf,hb];rw [if_pos ⟨he,Ot.2 h3⟩],h4⟩
   ·cases h
  ·cases h
 ·cases h
theorem wq {t:TypeId} {x i:AV} {K:AV->Prop} (h:EP T t x i K): ∃v,fe T t x i=some v/\K v:=by
 unfold EP at h
 split at h
 ·split at h
  ·rename_i he
   obtain ⟨h1,b,h3,h4⟩:=h
   exact ⟨_,by simp only [fe,if_pos he,if_pos h1,h3];rfl,h4⟩
  ·cases h
 ·cases h
theorem Yp {st:St} {f:FuncId} {args:List AV} {K:AV->Prop} (h:u5 Γ st f args K): ∃v,Kc Γ st f args=some v/\K v:=by
 unfold u5 at h
 obtain ⟨s,h1,h⟩:=As.1 h
 have h1:Γ f=some (.q s):=by
  split at h1
  ·rename_i s' hs;injection h1 with h1;rw [hs,h1]
  ·cases h1
 split at h
 ·rename_i hf
  obtain ⟨p,h2,y,h3,h4⟩:=As.1 h
  refine ⟨_,?_,h4⟩
  simp only [Kc,h1]
  rw [if_pos hf,h2]
  simp only [h3]
  rfl
 ·cases h
theorem vR {st:St} {v:AV} {args:List AV} {K:AV->Prop} (h:DK Γ st v args K): ∃u,Sm Γ st v args=some u/\K u:=by
 unfold DK at h
 split at h
 ·split at h
  ·rename_i hc
   split at h
   ·rename_i hf
    obtain ⟨u,h1,h2⟩:=Yp h
    exact ⟨u,by simp only [Sm];rw [if_pos hc,if_pos (by simpa using hf)];exact h1,h2⟩
   ·rename_i hf
    obtain ⟨u,h1,h2⟩:=Yp h
    exact ⟨u,by simp only [Sm];rw [if_pos hc,if_neg (λhx=>by rw [show Nat.blt _ 1000000000=true from by simpa using hx] at hf;cases hf)];exact h1,h2⟩
  ·cases h
 ·exact Yp h
 ·cases h
theorem Ks {w:WS} (hw:w.OK) {x:Operand} {b:Bool} (hk:Ra w.kn x=some b): ∃fr,w.st.ev x= .at (.data fr .bool b):=by
 unfold Ra at hk
 split at hk
 ·injection hk with hk;subst hk;exact ⟨true,rfl⟩
 ·exact hw _ _ hk
 ·cases hk
theorem sF {w:WS} (hw:w.OK) {o:Oper} {b:Bool} (hk:Dp w.kn o=some b) {v:AV} (he:Cm T Γ w.st o=some v): ∃fr,v= .at (.data fr .bool b):=by
 unfold Dp at hk
 split at hk
 ·rename_i heq;unfold Cm at he;rw [heq] at he;injection he with he;obtain ⟨fr,h⟩:=Ks hw hk;exact ⟨fr,he.symm.trans h⟩
 ·rename_i heq;unfold Cm at he;rw [heq] at he;injection he with he;obtain ⟨fr,h⟩:=Ks hw hk;exact ⟨fr,he.symm.trans h⟩
 ·rename_i x heq
  cases hx:Ra w.kn x with
  |none=>rw [hx] at hk;cases hk
  |some c=>
   rw [hx] at hk
   injection hk with hk
   obtain ⟨fr,h⟩:=Ks hw hx
   unfold Cm at he;rw [heq] at he
   simp only [h,vZ,Kk] at he
   injection he with he
   exact ⟨true,by rw [<-he,<-hk]⟩
 ·rename_i c x y heq
  unfold Cm at he;rw [heq] at he
  split at hk
  ·rename_i hc
   obtain ⟨fr,h⟩:=Ks hw hc
   simp only [h,aC,if_true] at he
   injection he with he
   obtain ⟨fr,h⟩:=Ks hw hk
   exact ⟨fr,he.symm.trans h⟩
  ·rename_i hc
   obtain ⟨fr,h⟩:=Ks hw hc
   simp only [h,aC,Bool.false_eq_true,if_false] at he
   injection he with he
   obtain ⟨fr,h⟩:=Ks hw hk
   exact ⟨fr,he.symm.trans h⟩
  ·cases hk
 ·cases hk
theorem qy {w:WS} (hw:w.OK) {o:Oper} {x:Operand} (ho:o.op= .assign x) {b:Bool} (hk:Dp w.kn o=some b) {v:AV} {s:St} (he:evalOp T Γ w.st o=some (v,s)): ∃fr,v= .at (.data fr .bool b):=by
 unfold Dp at hk
 rw [ho] at hk
 obtain ⟨fr,h⟩:=Ks hw hk
 unfold evalOp at he;rw [ho] at he
 simp only [h] at he
 injection he with he;injection he with he;exact ⟨fr,he.symm⟩
theorem ei {w:WS} (hw:w.OK) {o:Oper} {K:AV->WS->Prop} (h:qW T Γ w o K):
  ∃v w',Cm T Γ w.st o=some v/\w'.st=w.st/\w'.OK/\(∀b,Dp w'.kn o=some b-> ∃fr,v= .at (.data fr .bool b))/\K v w':=by
 have fin:(∃v w',Cm T Γ w.st o=some v/\w'.st=w.st/\w'.OK/\K v w')-> ∃v w',Cm T Γ w.st o=some v/\w'.st=w.st/\w'.OK/\(∀b,Dp w'.kn o=some b-> ∃fr,v= .at (.data fr .bool b))/\K v w':=by
  rintro ⟨v,w',h1,h2,h3,h4⟩
  exact ⟨v,w',h1,h2,h3,λb hb=>sF h3 hb (by rw [h2];exact h1),h4⟩
 refine fin ?_
 unfold qW at h
 split at h
 ·rename_i c a b heq
  obtain ⟨fr,t,w',h1,h2,h3,h4⟩:=tY hw h
  cases t with
  |true=>exact ⟨_,w',by unfold Cm;rw [heq];simp only [h1,aC,if_true];rw [<-h2],h2,h3,h4⟩
  |false=>exact ⟨_,w',by unfold Cm;rw [heq];simp only [h1,aC];rw [<-h2];simp,h2,h3,h4⟩
 ·rename_i heq
  obtain ⟨v,h1,h2⟩:=zD h
  exact ⟨v,w,by unfold Cm;rw [heq];exact h1,rfl,hw,h2⟩
 ·rename_i heq
  obtain ⟨v,h1,h2⟩:=DG h
  exact ⟨v,w,by unfold Cm;rw [heq];exact h1,rfl,hw,h2⟩
 ·rename_i heq
  split at h
  ·obtain ⟨v,h1,h2⟩:=xo h
   exact ⟨v,w,by unfold Cm;rw [heq];simpa using h1,rfl,hw,h2⟩
  ·cases h
 ·rename_i heq
  obtain ⟨v,h1,h2⟩:=lP h
  exact ⟨v,w,by unfold Cm;rw [heq];exact h1,rfl,hw,h2⟩
 ·rename_i heq
  obtain ⟨v,h1,h2⟩:=wq h
  exact ⟨v,w,by unfold Cm;rw [heq];exact h1,rfl,hw,h2⟩
 ·rename_i heq
  obtain ⟨v,h1,h2⟩:=Yp h
  exact ⟨v,w,by unfold Cm;rw [heq];exact h1,rfl,hw,h2⟩
 ·rename_i heq
  obtain ⟨v,h1,h2⟩:=vR h
  exact ⟨v,w,by unfold Cm;rw [heq];exact h1,rfl,hw,h2⟩
 ·rename_i heq
  obtain ⟨v,h1,h2⟩:=lH h
  exact ⟨v,w,by unfold Cm;rw [heq];exact h1,rfl,hw,h2⟩
 ·rename_i x heq
  unfold uG at h
  split at h
  ·rename_i fr τ z hx
   obtain ⟨y,h1,h2⟩:=h
   subst h1
   exact ⟨_,w,by unfold Cm;rw [heq];simp only [hx],rfl,hw,h2⟩
  ·obtain ⟨v,h1,h2⟩:=As.1 h
   exact ⟨v,w,h1,rfl,hw,h2⟩
 ·obtain ⟨v,h1,h2⟩:=As.1 h
  exact ⟨v,w,h1,rfl,hw,h2⟩
theorem xD {st:St} {t:TypeId} {p v:AV} {K:St->Prop} (h:HQ T st t p v K): ∃s,Pr T st t p v=some s/\K s:=by
 unfold HQ at h
 split at h
 ·obtain ⟨τ,h1,h⟩:=As.1 h
  obtain ⟨q,h2,h⟩:=As.1 h
  split at h
  ·rename_i hb
   obtain ⟨u,h3,h⟩:=As.1 h
   split at h
   ·rename_i hc
    obtain ⟨h4,h5⟩:=h
    obtain ⟨q1,q2⟩:=q
    obtain ⟨u1,u2⟩:=u
    exact ⟨_,by simp only [Pr,h1,h2,hb,h3];rw [dif_pos hc,if_pos h4],h5⟩
   ·cases h
  ·cases h
 ·exact As.1 h
theorem tt {st:St} {t:TypeId} {p v:AV} {K:St->Prop} (h:xz T st t p v K): ∃s,Kw T st t p v=some s/\K s:=by
 unfold xz at h
 unfold Kw
 split at h
 rotate_left
 ·rename_i hg;rw [hg];exact xD h
 rename_i hg
 rw [hg]
 simp only
 unfold KS at h
 split at h
 ·obtain ⟨τ,h1,h⟩:=As.1 h
  obtain ⟨q,h2,h⟩:=As.1 h
  split at h
  ·rename_i hb
   obtain ⟨u,h3,h⟩:=As.1 h
   split at h
   ·rename_i hc
    obtain ⟨q1,q2⟩:=q
    obtain ⟨u1,u2⟩:=u
    exact ⟨_,by simp only [Xj,h1,h2,hb,h3];rw [dif_pos hc],h⟩
   ·cases h
  ·cases h
 ·rename_i l j
  obtain ⟨τ,h1,h⟩:=As.1 h
  split at h
  ·rename_i e te rows out kp m off len hl _
   split at h
   ·rename_i fr tr e' tid xs hm
    split at h
    ·rename_i hc
     obtain ⟨h2,h3,h4,h5⟩:=h
     have h4:out=none\/out=some j:=by
      cases out with
      |none=>exact .inl rfl
      |some i=>exact .inr (congrArg some h4)
     exact ⟨_,by simp only [Xj,h1,hl,hm];rw [dif_pos ⟨hc.1,hc.2,h2,h3,h4⟩],h5⟩
    ·cases h
   ·cases h
  ·cases h
 ·cases h
theorem Tr {st:St} {d:Nat} {t:TypeId} {x y:Operand} {K:AV->St->Prop} (h:jt T st d t x y K): ∃v s,Jj T st d t x y=some (v,s)/\K v s:=by
 unfold jt at h
 obtain ⟨te,h1,h⟩:=As.1 h
 obtain ⟨e,h2,h⟩:=As.1 h
 obtain ⟨q,h3,h⟩:=As.1 h
 obtain ⟨u,h4,h⟩:=As.1 h
 obtain ⟨q1,q2⟩:=q
 obtain ⟨u1,u2⟩:=u
 split at h
 ·rename_i hx
  split at h
  ·rename_i hd
   obtain ⟨h5,h6⟩:=h
   refine ⟨_,_,?_,h6⟩
   simp only [Jj,h1,h2,h3,h4]
   rw [hx]
   simp only
   rw [if_pos ⟨h5,by simpa [Nat.blt_eq] using hd⟩]
   simp
  ·cases h
 ·rename_i l off len hx
  split at h
  ·rename_i fr tr e' tid xs hb
   split at h
   ·rename_i hc
    obtain ⟨h5,h6,h7,h8⟩:=h
    refine ⟨_,_,?_,h8⟩
    simp only [Jj,h1,h2,h3,h4]
    rw [hx]
    simp only [hb]
    rw [dif_pos ⟨hc.1,hc.2.1⟩,if_pos ⟨h7,by simpa [Nat.blt_eq] using hc.2.2⟩]
    obtain ⟨XQ,hc2,hc3⟩:=hc
    subst XQ
    subst h5
    simp only [List.drop_zero,h6,List.take_length,List.length_append]
   ·cases h
  ·cases h
 ·cases h
theorem pc {st:St} {d:Nat} {t:TypeId} {x y:Operand} {K:AV->St->Prop} (h:pb T st d t x y K): ∃v s,Mj T st d t x y=some (v,s)/\K v s:=by
 unfold pb at h
 cases x with
 |tmp tx=>
  simp only at h
  unfold Mj
  simp only
  cases hg:st.get tx with
  | «at»c=>
   rw [hg] at h
   cases c with
   |sub l i c=>
    simp only at h⊢
    obtain ⟨tid,h1,h⟩:=As.1 h
    split at h
    ·rename_i hl
     split at h
     ·rename_i hc
      obtain ⟨v,s,h2,h3⟩:=Tr h
      refine ⟨v,s,?_,h3⟩
      simp only [hl,h1]
      rw [if_pos hc]
      exact h2
     ·cases h
    ·cases h
   |_=>exact Tr h
  |_=>rw [hg] at h;exact Tr h
 |_=>exact Tr h
theorem zH {st:St} {d:Nat} {t:TypeId} {l c:AV} {K:AV->St->Prop} (h:TK T st d t l c K): ∃v s,Xi T st d t l c=some (v,s)/\K v s:=by
 unfold TK at h
 split at h
 ·obtain ⟨te,h1,h⟩:=As.1 h
  obtain ⟨e,h2,h⟩:=As.1 h
  split at h
  ·rename_i hz
   obtain ⟨h3,h4,h5⟩:=h
   refine ⟨_,_,?_,h5⟩
   simp only [Bool.and_eq_true] at hz
   simp only [Xi,h1,h2]
   rw [if_pos ⟨Ot.2 (by exact_mod_cast h3),h4,hz.1,by simpa [Nat.blt_eq] using hz.2⟩]
   simp
  ·cases h
 ·cases h
theorem wK {st:St} {d:Nat} {t:TypeId} {l c:AV} {K:AV->St->Prop} (h:FE T st d t l c K): ∃v s,Sn T st d t l c=some (v,s)/\K v s:=by
 unfold FE at h
 unfold Sn
 cases hg:aG T t with
 |none=>rw [hg] at h;exact zH h
 |some p=>
  obtain ⟨te,e⟩:=p
  rw [hg] at h
  simp only at h⊢
  split at h
  ·split at h
   ·rename_i hd
    obtain ⟨h3,h4,h5⟩:=h
    refine ⟨_,_,?_,h5⟩
    simp only
    rw [if_pos ⟨Ot.2 (by exact_mod_cast h3),h4,by simpa [Nat.blt_eq] using hd⟩]
    simp
   ·cases h
  ·cases h
theorem iD {st:St} {d:Nat} {t:TypeId} {len:Nat} {parts:Array (Nat×Operand)} {K:AV->St->Prop} (h:bu T st d t len parts K): ∃v s,Eu T st d t len parts=some (v,s)/\K v s:=by
 unfold bu at h
 unfold Eu
 cases hg:aG T t with
 |none=>
  rw [hg] at h
  obtain ⟨r,h1,h2⟩:=As.1 h
  exact ⟨r.1,r.2,h1,h2⟩
 |some p=>
  obtain ⟨te,e⟩:=p
  rw [hg] at h
  simp only at h⊢
  split at h
  ·rename_i x hp
   split at h
   ·rename_i m off ln hx
    split at h
    ·rename_i hm
     split at h
     ·rename_i hc
      obtain ⟨h1,h2,h3⟩:=h
      refine ⟨_,_,?_,h3⟩
      simp only [hp,hx,hm]
      rw [dif_pos ⟨hc.1,hc.2,h1,h2⟩]
     ·cases h
    ·cases h
   ·cases h
  ·cases h
theorem pe {st:St} {d:Nat} {t:TypeId} {x y:Operand} {K:AV->St->Prop} (h:pd T st d t x y K): ∃v s,Mk T st d t x y=some (v,s)/\K v s:=by
 unfold pd at h
 unfold Mk
 cases hg:aG T t with
 |none=>rw [hg] at h;exact pc h
 |some p=>
  obtain ⟨te,e⟩:=p
  rw [hg] at h
  simp only at h⊢
  split at h
  ·rename_i l off len m TU qh hx hy
   split at h
   ·rename_i hl hm
    split at h
    ·rename_i hc
     obtain ⟨h1,h2,h3,h4,h5⟩:=h
     obtain ⟨⟨rfl,rfl⟩,hc⟩:=hc
     refine ⟨_,_,?_,h5⟩
     simp only [hx,hy,hl,hm]
     rw [dif_pos (⟨⟨trivial,trivial⟩,hc,h1,h2,h3,h4⟩)]
     simp
    ·cases h
   ·cases h
  ·cases h
theorem xI {st:St} {io:Bool} {k:Nat} {c:CK} {a:AC} {K:c.den->List (Nat×Loc)->Prop} (h:cj st io k c a K): ∃x t,Hl st io k c a=some (x,t)/\K x t:=by
 cases c with
 |Dm τ=>
  cases a with
  |own l off len=>
   obtain ⟨p,h1,h2⟩:=As.1 h
   exact ⟨_,_,by simp only [Hl];rw [h1];rfl,h2⟩
  |clo g Ca=>
   simp only [cj] at h
   split at h
   ·rename_i hc
    obtain ⟨p,h1,h2⟩:=As.1 h
    exact ⟨_,_,by simp only [Hl];rw [if_pos hc,h1];rfl,h2⟩
   ·cases h
  |Dt l i=>
   simp only [cj] at h
   split at h
   ·rename_i hc
    obtain ⟨p,h1,h2⟩:=As.1 h
    exact ⟨_,_,by simp only [Hl];rw [if_pos hc,h1];rfl,h2⟩
   ·cases h
  |sub l i c=>
   obtain ⟨p,h1,h2⟩:=As.1 h
   exact ⟨_,_,by simp only [Hl];rw [h1];rfl,h2⟩
  |_=>
   simp only [cj] at h
   split at h
   ·rename_i hc
    obtain ⟨p,h1,h2⟩:=As.1 h
    exact ⟨_,_,by simp only [Hl];rw [if_pos hc,h1];rfl,h2⟩
   ·cases h
 |row e te=>
  cases a<;>simp only [cj] at h<;>first|(cases h;done)|skip
  ·exact ⟨_,_,rfl,h⟩
  ·split at h
   ·rename_i hl
    split at h
    ·rename_i hc
     obtain ⟨h1,h2,h3⟩:=h
     exact ⟨_,_,by simp only [Hl,hl];rw [dif_pos ⟨hc.1,hc.2,h1,h2⟩],h3⟩
    ·cases h
   ·cases h
  ·split at h
   ·rename_i hl
    split at h
    ·rename_i hc
     obtain ⟨y,h1,h2⟩:=h
     exact ⟨_,_,by simp only [Hl,hl];rw [dif_pos hc,h1];rfl,h2⟩
    ·cases h
   ·cases h
 |Du e te=>
  cases a<;>simp only [cj] at h<;>first|(cases h;done)|skip
  ·exact ⟨_,_,rfl,h⟩
  ·split at h
   ·rename_i hl
    split at h
    ·rename_i hc
     obtain ⟨h1,h2,h3⟩:=h
     exact ⟨_,_,by simp only [Hl,hl];rw [dif_pos ⟨hc.1,hc.2,h1,h2⟩],h3⟩
    ·cases h
   ·cases h
  ·split at h
   ·rename_i hl
    split at h
    ·rename_i hc
     obtain ⟨y,h1,h2⟩:=h
     exact ⟨_,_,by simp only [Hl,hl];rw [dif_pos hc,h1];rfl,h2⟩
    ·cases h
   ·cases h
 |part e te=>
  cases a<;>simp only [cj] at h<;>first|(cases h;done)|skip
  split at h
  ·rename_i hl
   split at h
   ·rename_i hc
    exact ⟨_,_,by simp only [Hl,hl];rw [dif_pos hc],h⟩
   ·cases h
  ·cases h
 |Al e te kp=>
  cases a<;>simp only [cj] at h<;>first|(cases h;done)|skip
  split at h
  ·rename_i hl
   split at h
   ·rename_i hc
    obtain ⟨h1,h2,h3⟩:=h
    exact ⟨_,_,by simp only [Hl,hl];rw [dif_pos ⟨hc.1,hc.2.1,h1,h2,hc.2.2⟩],h3⟩
   ·cases h
  ·cases h
theorem AN {st:St} {e:Ty} {ys:List e.den} {a:AC} {K:St->Prop} (h:UH st e ys a K): ∃s,GH st e ys a=some s/\K s:=by
 cases a<;>simp only [UH] at h<;>first|(cases h;done)|skip
 split at h
 ·rename_i hl
  split at h
  ·rename_i hc
   obtain ⟨h1,h3⟩:=h
   exact ⟨_,by simp only [GH,hl];rw [dif_pos ⟨hc,h1⟩],h3⟩
  ·cases h
 ·cases h
theorem ib {st:St} : ∀(cs:List (Bool×CK)) (k:Nat) (as:List AC) (K:Ins.den cs->List (Nat×Loc)->Prop),xJ st k cs as K-> ∃x t,ck st k cs as=some (x,t)/\K x t
 | [],_,[],_,h=>⟨_,_,rfl,h⟩
 | [],_,_::_,_,h=>h.elim
 |_::_,_,[],_,h=>h.elim
 |p::r,k,a::as,K,h=>by
  obtain ⟨x,t1,h1,h2⟩:=xI h
  obtain ⟨y,t2,h3,h4⟩:=ib r (k+1) as _ h2
  exact ⟨_,_,by simp only [ck,h1,h3],h4⟩
theorem nB {st:St} {c:CK} {ys:c.den} {a:AC} {K:St->Prop} (h:nA st c ys a K): ∃s,Ym st c ys a=some s/\K s:=by
 cases c with
 |Dm τ=>cases a<;>simp only [nA] at h<;>first|(cases h;done)|exact ⟨_,rfl,h⟩
 |row e te=>
  cases a<;>simp only [nA] at h<;>first|(cases h;done)|skip
  ·exact ⟨_,rfl,h⟩
  ·split at h
   ·rename_i hl
    split at h
    ·rename_i hc
     obtain ⟨h1,h3⟩:=h
     exact ⟨_,by simp only [Ym,hl];rw [dif_pos ⟨hc,h1⟩],h3⟩
    ·cases h
   ·cases h
  ·split at h
   ·rename_i hl
    split at h
    ·rename_i hc
     obtain ⟨y,h1,h2,h3⟩:=h
     exact ⟨_,by simp only [Ym,hl,dif_pos hc,h1];rw [if_pos h2],h3⟩
    ·cases h
   ·cases h
 |Du e te=>
  cases a<;>simp only [nA] at h<;>first|(cases h;done)|skip
  ·exact ⟨_,rfl,h⟩
  ·split at h
   ·rename_i hl
    split at h
    ·rename_i hc
     obtain ⟨h1,h3⟩:=h
     exact ⟨_,by simp only [Ym,hl];rw [dif_pos ⟨hc,h1⟩],h3⟩
    ·cases h
   ·cases h
  ·split at h
   ·rename_i hl
    split at h
    ·rename_i hc
     obtain ⟨y,h1,h2,h3⟩:=h
     exact ⟨_,by simp only [Ym,hl,dif_pos hc,h1];rw [if_pos h2],h3⟩
    ·cases h
   ·cases h
 |part e te=>cases a<;>simp only [nA] at h<;>first|(cases h;done)|exact ⟨_,rfl,h⟩
 |Al e te kp=>cases a<;>simp only [nA] at h<;>first|(cases h;done)|exact ⟨_,rfl,h⟩
theorem Lb: ∀(cs:List (Bool×CK)) (o:IOs.den cs) (as:List AC) (st:St) (K:St->Prop),eh cs o as st K-> ∃s,Ef cs o as st=some s/\K s
 | [],_,_,st,K,h=>⟨st,rfl,h⟩
 |(true, .Dm _)::r,o,[],st,K,h=>h.elim
 |(true, .row _ _)::r,o,[],st,K,h=>h.elim
 |(true, .Du _ _)::r,o,[],st,K,h=>h.elim
 |(true, .part _ _)::r,o,[],st,K,h=>h.elim
 |(true, .Al _ _ _)::r,o,[],st,K,h=>h.elim
 |(true, .Al _ _ _)::r,o,a::as,st,K,h=>by
  obtain ⟨s,h1,h2⟩:=Lb r o as st K h
  exact ⟨s,by simp only [Ef];exact h1,h2⟩
 |(false,_)::r,o,[],st,K,h=>h.elim
 |(true, .Dm _)::r,o,a::as,st,K,h=>by
  obtain ⟨s,h1,h2⟩:=Lb r o as st K h
  exact ⟨s,by simp only [Ef];exact h1,h2⟩
 |(false,_)::r,o,a::as,st,K,h=>by
  obtain ⟨s,h1,h2⟩:=Lb r o as st K h
  exact ⟨s,by simp only [Ef];exact h1,h2⟩
 |(true, .row _ _)::r,o,a::as,st,K,h=>by
  obtain ⟨s1,h1,h2⟩:=nB h
  obtain ⟨s,h3,h4⟩:=Lb r o.2 as s1 K h2
  exact ⟨s,by simp only [Ef,h1];exact h3,h4⟩
 |(true, .part _ _)::r,o,a::as,st,K,h=>by
  obtain ⟨s1,h1,h2⟩:=AN h
  obtain ⟨s,h3,h4⟩:=Lb r o.2 as s1 K h2
  exact ⟨s,by simp only [Ef,h1];exact h3,h4⟩
 |(true, .Du _ _)::r,o,a::as,st,K,h=>by
  obtain ⟨s1,h1,h2⟩:=nB h
  obtain ⟨s,h3,h4⟩:=Lb r o.2 as s1 K h2
  exact ⟨s,by simp only [Ef,h1];exact h3,h4⟩
theorem nL {H:List (Nat×OB)} {ls:List Nat} {n:Nat} {K:Prop} : ∀(l:List AV),rI H ls n l K->ak H ls n l=true/\K
 | [],h=>⟨rfl,h⟩
 |a::r,h=>by
  have go:rI H ls n r K->ak H ls n r=true/\K:=nL r
  cases a with
  | «at»c=>
   cases c with
   |sub l i c=>
    simp only [rI] at h
    simp only [ak]
    split at h
    ·rename_i hc
     obtain ⟨⟨h1,h2⟩,h3⟩:=h
     obtain ⟨g1,g2⟩:=go h3
     exact ⟨by simp only [hc,g1,Bool.and_true,Bool.not_true,Bool.false_or,Bool.and_eq_true,Nat.blt_eq];exact ⟨h1,h2⟩,g2⟩
    ·rename_i hc
     obtain ⟨g1,g2⟩:=go h
     exact ⟨by simp only [hc,g1,Bool.not_false,Bool.true_or,Bool.and_true],g2⟩
   |_=>exact go h
  |_=>exact go h
theorem vQ {st:St} {d:Option Nat} {s:MSpec} {args:List AV} {K:AV->St->Prop} (h:DJ st d s args K): ∃v s',Sl st d s args=some (v,s')/\K v s':=by
 unfold DJ at h
 obtain ⟨⟨pl,cells,rest⟩,h0,h⟩:=As.1 h
 obtain ⟨as,h1,h⟩:=As.1 h
 obtain ⟨x,tks,h2,h⟩:=ib s.ins 0 (cells++as) _ h
 split at h
 ·rename_i hc
  obtain ⟨⟨r,o⟩,h3,h⟩:=h
  obtain ⟨st1,h4,h⟩:=Lb s.ins o (cells++as) st _ h
  obtain ⟨v,h5,h6⟩:=As.1 h
  obtain ⟨h7,h6⟩:=nL _ h6
  refine ⟨v,_,?_,h6⟩
  unfold Sl
  simp only [h0,h1,h2]
  rw [if_pos hc]
  simp only [h3,h4,h5]
  rw [if_pos h7]
 ·cases h
theorem MW {w:WS} (hw:w.OK) {o:Oper} {K:AV->WS->Prop} (h:YO T Γ w o K):
  ∃v w',evalOp T Γ w.st o=some (v,w'.st)/\w'.OK/\(∀b,Dp w'.kn o=some b-> ∃fr,v= .at (.data fr .bool b))/\K v w':=by
 have fin: ∀v s,(∀b,Dp w.kn o=some b-> ∃fr,v= .at (.data fr .bool b))->evalOp T Γ w.st o=some (v,s)->K v (w.to s)-> ∃v w',evalOp T Γ w.st o=some (v,w'.st)/\w'.OK/\(∀b,Dp w'.kn o=some b-> ∃fr,v= .at (.data fr .bool b))/\K v w':=
  fun v s hk h1 h2=>⟨v,w.to s,h1,hw.to (jK h1),hk,h2⟩
 have w6:(∀b v s,Dp w.kn o=some b->evalOp T Γ w.st o=some (v,s)-> ∃fr,v= .at (.data fr .bool b))->Dz (evalOp T Γ w.st o) (λr=>K r.1 (w.to r.2))-> ∃v w',evalOp T Γ w.st o=some (v,w'.st)/\w'.OK/\(∀b,Dp w'.kn o=some b-> ∃fr,v= .at (.data fr .bool b))/\K v w':=by
  intro hk h
  obtain ⟨r,h1,h2⟩:=As.1 h
  exact fin r.1 r.2 (λb hb=>hk b _ _ hb h1) h1 h2
 unfold YO at h
 split at h
 ·rename_i heq
  obtain ⟨s,h1,h2⟩:=tt h
  refine fin _ _ (λb hb=>by unfold Dp at hb;rw [heq] at hb;cases hb) ?_ h2
  unfold evalOp;rw [heq];simp only [h1];rfl
 ·rename_i heq
  obtain ⟨d,h1,h⟩:=As.1 h
  obtain ⟨v,s,h2,h3⟩:=wK h
  refine fin _ _ (λb hb=>by unfold Dp at hb;rw [heq] at hb;cases hb) ?_ h3
  unfold evalOp;rw [heq];simp only [h1,h2]
 ·rename_i heq
  split at h
  ·rename_i hd ha ht
   split at h
   ·rename_i Qk
    obtain ⟨v,s,h2,h3⟩:=pe h
    refine fin _ _ (λb hb=>by unfold Dp at hb;rw [heq] at hb;cases hb) ?_ h3
    unfold evalOp;rw [heq];simp only [hd,ha,ht,if_pos Qk,h2]
   ·cases h
  ·cases h
 ·rename_i heq;exact w6 (λb v s hb he=>qy hw heq hb he) h
 ·rename_i heq;exact w6 (λb v s hb he=>by unfold Dp at hb;rw [heq] at hb;cases hb) h
 ·rename_i heq;exact w6 (λb v s hb he=>by unfold Dp at hb;rw [heq] at hb;cases hb) h
 ·rename_i heq
  obtain ⟨d,h1,h⟩:=As.1 h
  obtain ⟨v,s,h2,h3⟩:=iD h
  refine fin _ _ (λb hb=>by unfold Dp at hb;rw [heq] at hb;cases hb) ?_ h3
  unfold evalOp;rw [heq];simp only [h1,h2]
 ·rename_i heq;exact w6 (λb v s hb he=>by unfold Dp at hb;rw [heq] at hb;cases hb) h
 ·rename_i heq;exact w6 (λb v s hb he=>by unfold Dp at hb;rw [heq] at hb;cases hb) h
 ·rename_i heq;exact w6 (λb v s hb he=>by unfold Dp at hb;rw [heq] at hb;cases hb) h
 ·rename_i heq;exact w6 (λb v s hb he=>by unfold Dp at hb;rw [heq] at hb;cases hb) h
 ·rename_i heq;exact w6 (λb v s hb he=>by unfold Dp at hb;rw [heq] at hb;cases hb) h
 ·rename_i heq;exact w6 (λb v s hb he=>by unfold Dp at hb;rw [heq] at hb;cases hb) h
 ·
  rename_i f _ _ heq
  split at h
  ·rename_i Kn
   obtain ⟨v,s',h1,h2⟩:=vQ h
   refine fin v s' (λb hb=>by unfold Dp at hb;rw [heq] at hb;cases hb) ?_ h2
   unfold evalOp;rw [heq];simp only [Kn];exact h1
  ·rename_i s Kn
   split at h
   ·rename_i JU
    obtain ⟨st1,hs,h⟩:=As.1 h
    obtain ⟨v,w',h1,h2,h3,XJ,h4⟩:=ei (hw.to (Ve _ hs)) h
    refine ⟨v,w',?_,h3,XJ,h4⟩
    have h1:Cm T Γ st1 o=some v:=h1
    have h2:w'.st=st1:=h2
    unfold evalOp
    rw [heq]
    simp only [Kn,JU,hs,h1,h2]
    rfl
   ·rename_i JU
    obtain ⟨v,w',h1,h2,h3,XJ,h4⟩:=ei hw h
    refine ⟨v,w',?_,h3,XJ,h4⟩
    unfold evalOp
    rw [heq]
    simp only [Kn,JU,h1,h2]
    rfl
  ·rename_i Ark Agw
   obtain ⟨v,w',h1,h2,h3,XJ,h4⟩:=ei hw h
   refine ⟨v,w',?_,h3,XJ,h4⟩
   unfold evalOp
   rw [heq]
   simp only
   rw [h1,h2];rfl
 ·rename_i n1 n2 n3 n4 n5 n6 n7 n8 n9 n10 n11 n12 n13 n14
  obtain ⟨v,w',h1,h2,h3,XJ,h4⟩:=ei hw h
  refine ⟨v,w',?_,h3,XJ,h4⟩
  unfold evalOp
  split
  all_goals first
   |(rw [h1,h2];rfl)
   |(rename_i hq;exact absurd hq (by first|exact n1 _|exact n2 _|exact n3 _|exact n4 _|exact n5 _|exact n6 _|exact n7 _|exact n8 _|exact n9 _|exact n10 _|exact n11 _|exact n12 _|exact n13 _|exact n14 _))
   |(rename_i hq;exact absurd hq (by first|exact n1 _ _|exact n2 _ _|exact n3 _ _|exact n4 _ _|exact n5 _ _|exact n6 _ _|exact n7 _ _|exact n8 _ _|exact n9 _ _|exact n10 _ _|exact n11 _ _|exact n12 _ _|exact n13 _ _|exact n14 _ _))
   |(rename_i hq;exact absurd hq (by first|exact n1 _ _ _|exact n2 _ _ _|exact n3 _ _ _|exact n4 _ _ _|exact n5 _ _ _|exact n6 _ _ _|exact n7 _ _ _|exact n8 _ _ _|exact n9 _ _ _|exact n10 _ _ _|exact n11 _ _ _|exact n12 _ _ _|exact n13 _ _ _|exact n14 _ _ _))
   |(rename_i hq;exact absurd hq (by first|exact n1 _ _ _ _|exact n2 _ _ _ _|exact n3 _ _ _ _|exact n4 _ _ _ _|exact n5 _ _ _ _|exact n6 _ _ _ _|exact n7 _ _ _ _|exact n8 _ _ _ _|exact n9 _ _ _ _|exact n10 _ _ _ _|exact n11 _ _ _ _|exact n12 _ _ _ _|exact n13 _ _ _ _|exact n14 _ _ _ _))
theorem w9 (st:St) (d:Nat) (v:AV):(st.put (some d) v).get d=v\/(st.put (some d) v).get d= .undef:=by
 simp only [St.put,St.get]
 rw [Lr]
 by_cases h:d<st.tmps.length
 ·exact .inl (by rw [if_pos ⟨rfl,h⟩])
 ·refine .inr ?_
  rw [if_neg (λhc=>h hc.2),List.getD_eq_getElem?_getD,List.getElem?_eq_none (by omega)]
  rfl
theorem WS.OK.sT {w:WS} (hw:w.OK) (o:Oper) (v:AV) (h: ∀b,Dp w.kn o=some b-> ∃fr,v= .at (.data fr .bool b)):(w.sT o v).OK/\(w.sT o v).st=w.st.put o.dst v:=by
 unfold WS.sT
 split
 ·rename_i d b hd hk
  split
  ·rename_i fr c hg
   refine ⟨?_,by rw [hd]⟩
   obtain ⟨Qt,hv⟩:=h b hk
   intro t b' hb
   simp only [sB] at hb
   split at hb
   ·rename_i ht
    injection hb with hb
    subst ht;subst hb
    refine ⟨Qt,?_⟩
    show (w.st.put (some d) v).get d=_
    cases w9 w.st d v with
    |inl h1=>rw [h1,hv]
    |inr h1=>rw [h1] at hg;cases hg
   ·exact hw.put (some d) v t b' hb
  ·exact ⟨hw.put _ _,by rw [WS.qL,hd]⟩
 ·exact ⟨hw.put _ _,WS.qL _ _ _⟩
theorem nK {ops:Array Oper} {w:WS} (hw:w.OK) {o:Oper} {run:(AV->WS->Prop)->WS->Prop} {R:St->Option (AV×St)} {K:WS->Prop}
  (hr: ∀(k:AV->WS->Prop) (w:WS),w.OK->run k w-> ∃v w',R w.st=some (v,w'.st)/\w'.OK/\(∀b,Dp w'.kn o=some b-> ∃fr,v= .at (.data fr .bool b))/\k v w') (h:eK ops w o run K):
  ∃w',(match o.guard with
   |none=>(R w.st).map λr=>r.2.put o.dst r.1
   |some (j,want)=>match Sb w.st ((ops[j]?).bind (·.dst)) with
    |some (some b)=>if b==want then (R w.st).map λr=>r.2.put o.dst r.1 else some (w.st.put o.dst (.at .skip))
    |some none=>some (w.st.put o.dst (.at .skip))
    |none=>none)=some w'.st/\w'.OK/\K w':=by
 have go: ∀w:WS,w.OK->run (λv w'=>K (w'.sT o v)) w-> ∃w',((R w.st).map λr=>r.2.put o.dst r.1)=some w'.st/\w'.OK/\K w':=by
  intro w hw h
  obtain ⟨v,w',h1,h2,h3,h4⟩:=hr _ _ hw h
  obtain ⟨h5,h6⟩:=h2.sT o v h3
  exact ⟨w'.sT o v,by rw [h1,h6];rfl,h5,h4⟩
 unfold eK at h
 split at h
 ·rename_i hg
  rw [hg]
  exact go w hw h
 ·rename_i j want hg
  rw [hg]
  obtain ⟨t,h1,h⟩:=As.1 h
  simp only [h1]
  split at h
  ·rename_i hs
   have hsk:w.st.get t= .at .skip:=by
    unfold AV.SZ at hs
    split at hs
    ·assumption
    ·cases hs
   exact ⟨_,by simp only [Sb,hsk];rw [WS.qL],hw.put _ _,h⟩
  ·obtain ⟨fr,b,w',h2,h3,h4,h5⟩:=tZ hw h
   have hb:Sb w.st (some t)=some (some b):=by simp only [Sb,h2]
   rw [hb]
   simp only
   cases b with
   |true=>
    cases want with
    |true=>rw [if_pos (by decide),<-h3];exact go w' h4 h5
    |false=>exact ⟨_,by rw [if_neg (by decide),<-h3,WS.qL],h4.put _ _,h5⟩
   |false=>
    cases want with
    |false=>rw [if_pos (by decide),<-h3];exact go w' h4 h5
    |true=>exact ⟨_,by rw [if_neg (by decide),<-h3,WS.qL],h4.put _ _,h5⟩
theorem bg {ops:Array Oper} {w:WS} (hw:w.OK) {o:Oper} {K:WS->Prop} (h:eK ops w o (λk w'=>YO T Γ w' o k) K): ∃w',Ch T Γ ops w.st o=some w'.st/\w'.OK/\K w':=by
 obtain ⟨w',h1,h2⟩:=nK hw (R:= λst=>evalOp T Γ st o) (λk w hw h=>by
  obtain ⟨v,w',h1,h2,h2',h3⟩:=MW hw h
  exact ⟨v,w',h1,h2,h2',h3⟩) h
 exact ⟨w',h1,h2⟩
theorem QQ {w:WS} (hw:w.OK) {o:Oper} {K:AV->WS->Prop} (h:bW T Γ w o K):
  ∃v w',Rv T Γ w.st o=some v/\w'.st=w.st/\w'.OK/\(∀b,Dp w'.kn o=some b-> ∃fr,v= .at (.data fr .bool b))/\K v w':=by
 unfold bW at h
 split at h
 ·rename_i t len parts oM
  obtain ⟨v,h1,h2⟩:=As.1 h
  exact ⟨v,w,by unfold Rv;rw [oM];exact h1,rfl,hw,λb hb=>by simp [Dp,oM] at hb,h2⟩
 ·rename_i t parts oM
  obtain ⟨v,h1,h2⟩:=As.1 h
  exact ⟨v,w,by unfold Rv;rw [oM];exact h1,rfl,hw,λb hb=>by simp [Dp,oM] at hb,h2⟩
 ·rename_i n1 n2
  obtain ⟨v,w',h1,h2⟩:=ei hw h
  refine ⟨v,w',?_,h2⟩
  rw [<-h1]
  unfold Rv
  split
  ·rename_i h9;exact absurd h9 (n1 _ _ _)
  ·rename_i h9;exact absurd h9 (n2 _ _)
  ·rfl
theorem ZA {ops:Array Oper} {w:WS} (hw:w.OK) {o:Oper} {K:WS->Prop} (h:eK ops w o (λk w'=>bW T Γ w' o k) K): ∃v w',Rt T Γ ops w.st o=some v/\w'.st=w.st.put o.dst v/\w'.OK/\K w':=by
 obtain ⟨w',h1,h2,h3⟩:=nK hw (R:= λst=>(Rv T Γ st o).map λv=>(v,st)) (λk w hw h=>by
  obtain ⟨v,w',h1,h2,h3,XJ,h4⟩:=QQ hw h
  exact ⟨v,w',by simp only [h1,h2];rfl,h3,XJ,h4⟩) h
 have key: ∀u:Option AV,((u.map λv=>(v,w.st)).map λr=>r.2.put o.dst r.1)=some w'.st-> ∃v,u=some v/\w'.st=w.st.put o.dst v:=by
  intro u hu
  cases u with
  |none=>cases hu
  |some v=>injection hu with hu;exact ⟨v,rfl,hu.symm⟩
 unfold Rt
 split at h1
 ·rename_i hg
  obtain ⟨v,h4,h5⟩:=key _ h1
  exact ⟨v,w',by rw [hg];exact h4,h5,h2,h3⟩
 ·rename_i j want hg
  rw [hg]
  split at h1
  ·rename_i b hb
   simp only [hb]
   split at h1
   ·rename_i RI
    obtain ⟨v,h4,h5⟩:=key _ h1
    exact ⟨v,w',by rw [if_pos RI];exact h4,h5,h2,h3⟩
   ·rename_i RI
    injection h1 with h1
    exact ⟨_,w',by rw [if_neg RI],h1.symm,h2,h3⟩
  ·rename_i hb
   simp only [hb]
   injection h1 with h1
   exact ⟨_,w',rfl,h1.symm,h2,h3⟩
  ·cases h1
theorem qz {ops:Array Oper} : ∀(l:List Oper) {w:WS} (_:w.OK) {K:WS->Prop},Ads T Γ ops l w K-> ∃w',Vz T Γ ops l w.st=some w'.st/\w'.OK/\K w'
 | [],w,hw,K,h=>⟨w,rfl,hw,h⟩
 |o::r,w,hw,K,h=>by
  obtain ⟨w1,h1,h2,h3⟩:=bg hw h
  obtain ⟨w2,h4,h5⟩:=qz r h2 h3
  exact ⟨w2,by simp only [Vz];rw [h1];exact h4,h5⟩
theorem bF {ops:Array Oper} : ∀(l:List Nat) {w:WS} (_:w.OK) {K:WS->Prop},SN T Γ ops l w K-> ∃w',Ij T Γ ops l w.st=some w'.st/\w'.OK/\K w'
 | [],w,hw,K,h=>⟨w,rfl,hw,h⟩
 |i::r,w,hw,K,h=>by
  obtain ⟨o,h0,h⟩:=As.1 h
  obtain ⟨w1,h1,h2,h3⟩:=bg hw h
  obtain ⟨w2,h4,h5⟩:=bF r h2 h3
  exact ⟨w2,by simp only [Ij];rw [h0];simp only [h1];exact h4,h5⟩
theorem Mo {ops:Array Oper} : ∀(l:List Nat) {w:WS} (_:w.OK) {K:WS->Prop},nc T Γ ops l w K-> ∃w',Cw T Γ ops l w.st=some w'.st/\w'.OK/\K w'
 | [],w,hw,K,h=>⟨w,rfl,hw,h⟩
 |i::r,w,hw,K,h=>by
  obtain ⟨o,h0,h⟩:=As.1 h
  obtain ⟨v,w1,h1,h1',h2,h3⟩:=ZA hw h
  obtain ⟨w2,h4,h5⟩:=Mo r h2 h3
  exact ⟨w2,by simp only [Cw];rw [h0];simp only [h1];rw [<-h1'];exact h4,h5⟩
theorem js {P:Nat->Prop} : ∀(l:List Nat),QN l P-> ∀i∈l,P i
 | [],_,i,hi=>by cases hi
 | [k],h,i,hi=>by rw [List.mem_singleton.1 hi];exact h
 |k::j::r,h,i,hi=>by
  rcases List.mem_cons.1 hi with rfl|hi
  ·exact h.1
  ·exact js (j::r) h.2 i hi
theorem iB {ops:Array Oper} {K:WS->Prop} : ∀(f:Nat) (Aa:Array Bool) {w:WS} (_:w.OK),LH T Γ ops f Aa w K->anyS T Γ ops (λs=> ∃w':WS,w'.st=s/\w'.OK/\K w') f Aa w.st
 |0,Aa,w,hw,h=>by
  unfold LH at h
  split at h
  ·rename_i hr;exact ⟨hr,w,rfl,hw,h⟩
  ·cases h
 |f+1,Aa,w,hw,h=>by
  unfold LH at h
  split at h
  ·cases h
  ·rename_i i r hr
   refine ⟨by rw [hr];simp,λk hk=>?_⟩
   rw [hr] at hk
   obtain ⟨o,h0,h1⟩:=As.1 (js _ h k hk)
   obtain ⟨w1,h2,h3,h4⟩:=bg hw h1
   exact ⟨o,w1.st,h0,h2,iB f _ h3 h4⟩
theorem Wa {ops:Array Oper} {K:WS->Prop} : ∀(f:Nat) (Aa:Array Bool) {w:WS} (_:w.OK),iG T Γ ops f Aa w K-> ∃w':WS,w'.OK/\K w'
 |0,Aa,w,hw,h=>by
  simp only [iG] at h
  split at h
  ·exact ⟨w,hw,h⟩
  ·exact h.elim
 |f+1,Aa,w,hw,h=>by
  simp only [iG] at h
  split at h
  ·exact h.elim
  ·obtain ⟨o,ho,h1⟩:=As.1 h
   obtain ⟨w',h2,h3,h4⟩:=bg hw h1
   exact Wa f _ h3 h4
theorem mM {P:List (Nat×Nat×AV×OB)} {ops:Array Oper} {K:WS->Prop} : ∀(f:Nat) (Aa:Array Bool) {w:WS} (_:w.OK),yq T Γ P ops f Aa w K->Abn T Γ ops P (λs=> ∃w':WS,w'.st=s/\w'.OK/\K w') f Aa w.st
 |0,Aa,w,hw,h=>by
  unfold yq at h
  split at h
  ·rename_i hr;exact ⟨hr,w,rfl,hw,h⟩
  ·cases h
 |f+1,Aa,w,hw,h=>by
  unfold yq at h
  split at h
  ·cases h
  ·rename_i i r hr
   refine ⟨by rw [hr];simp,λk hk=>?_⟩
   rw [hr] at hk
   obtain ⟨o,h0,h1⟩:=As.1 (js _ h k hk)
   split at h1
   ·rename_i dP
    obtain ⟨w1,h2,h3,h4⟩:=bg hw h1
    exact ⟨o,w1.st,h0,dP,h2,mM f _ h3 h4⟩
   ·cases h1
theorem zR {α:Type} (f:α->Nat) {l:List α} (h:Vg (l.map f)=true):l.Pairwise λa c=>f a≠f c:=List.pairwise_map.1 (Sw h)
theorem Zo {ops:Array Oper} {E:List Nat} {Aa:Array Bool} {w:WS} (hw:w.OK): ∀(R:List Nat) {K:Prop},vn T Γ ops E Aa w R K->K/\ ∀r∈R,oV ops E Aa r=true\/ ∃o v,ops[r]?=some o/\Rt T Γ ops w.st o=some v/\ ∀d,o.dst=some d->w.st.get d=v
 | [],K,h=>⟨h,λr hr=>by cases hr⟩
 |r::R,K,h=>by
  unfold vn at h
  split at h
  ·rename_i hwt
   obtain ⟨h1,h2⟩:=Zo hw R h
   refine ⟨h1,λq hq=>?_⟩
   rcases List.mem_cons.1 hq with rfl|hq
   ·exact .inl hwt
   ·exact h2 q hq
  ·obtain ⟨h0,h⟩:=h
   obtain ⟨h1,h2⟩:=Zo hw R h
   refine ⟨h1,λq hq=>?_⟩
   rcases List.mem_cons.1 hq with rfl|hq
   ·refine .inr ?_
    obtain ⟨w',g1,_,g3⟩:=Mo _ hw h0
    obtain ⟨d,hd,g4⟩:=As.1 g3
    simp only [Cw] at g1
    split at g1
    ·cases g1
    rename_i o ho
    split at g1
    rotate_left
    ·cases g1
    rename_i v hv
    refine ⟨o,v,ho,hv,λd' RJ=>?_⟩
    rw [ho] at hd
    have hdd:o.dst=some d:=hd
    rw [RJ] at hdd
    cases hdd
    split at g4
    ·rename_i hl
     have e:=fc g4
     have e1:w'.st.get d=w.st.get d:=by
      have:=congrArg (λs:St=>s.tmps) e
      simpa using this
     rw [<-e1]
     have e2:w.st.put o.dst v=w'.st:=Option.some.inj g1
     rw [<-e2,show o.dst=some d from hd]
     show (Nm w.st.tmps d v).getD d .undef=v
     rw [Lr,if_pos ⟨rfl,by simpa [Nat.blt_eq] using hl⟩]
    ·cases g4
   ·exact h2 q hq
theorem mN {ops:Array Oper} {E:List Nat} {K:WS->Prop} : ∀(f:Nat) (Aa:Array Bool) {w:WS} (_:w.OK),yr T Γ ops E f Aa w K->se T Γ ops E (λs=> ∃w':WS,w'.st=s/\w'.OK/\K w') f Aa w.st
 |0,Aa,w,hw,h=>by
  unfold yr at h
  obtain ⟨h,hs⟩:=Zo hw _ h
  split at h
  ·rename_i hr;exact ⟨hs,hr,w,rfl,hw,h⟩
  ·cases h
 |f+1,Aa,w,hw,h=>by
  unfold yr at h
  obtain ⟨h,hs⟩:=Zo hw _ h
  split at h
  ·cases h
  ·rename_i i r hr
   refine ⟨hs,by rw [hr];simp,λk hk=>?_⟩
   rw [hr] at hk
   obtain ⟨o,h0,h1⟩:=As.1 (js _ h k hk)
   obtain ⟨w1,h2,h3,h4⟩:=bg hw h1
   exact ⟨o,w1.st,h0,h2,mN f _ h3 h4⟩
theorem x9 {ops:Array Oper} {E:List Nat} {L0:Array Bool} {n:Nat} {w:WS} (hw:w.OK) {K:WS->Prop} (h:GK T Γ E n L0 ops w K):Abo T Γ ops (λs=> ∃w':WS,w'.st=s/\w'.OK/\K w') n L0 w.st:=by
 unfold GK at h
 split at h
 ·rename_i hb
  simp only [Bool.and_eq_true] at hb
  obtain ⟨b1,b2,b3⟩:=hb
  obtain ⟨w1,h1,h2,h3⟩:=Mo _ hw h
  have h3:=Sp.1 h3
  obtain ⟨w0,g1,g2⟩:=Wa _ _ h2 h3
  obtain ⟨g3,g4⟩:=Sp.1 g2
  refine ⟨E,w1.st,b1,Nat.le_of_ble_eq_true b2,h1,lx (λs hs=>?_) _ _ _ (mN _ _ h2 g4)⟩
  obtain ⟨w',h5,_,h6⟩:=hs
  exact ⟨w0,((h5.symm.trans (fc h6)).symm),g1,g3⟩
 ·cases h
theorem si {ops:Array Oper} {L0:Array Bool} {n:Nat} {w:WS} (hw:w.OK) {K:WS->Prop} (hc:On ops L0) (h:vP T Γ (Ue T ops L0) n L0 ops w K):anyS T Γ ops (λs=> ∃w':WS,w'.st=s/\w'.OK/\K w') n L0 w.st\/Abo T Γ ops (λs=> ∃w':WS,w'.st=s/\w'.OK/\K w') n L0 w.st:=by
 unfold vP at h
 split at h
 ·rename_i hb
  simp only [Bool.and_eq_true] at hb
  obtain ⟨⟨b1,b2⟩,b3,b4,b5⟩:=hb
  have hm: ∀a∈Ue T ops L0,a.1∈Region.ready .any ops L0/\ ∃o,ops[a.1]?=some o/\bq T o=some a.2:= λa ha=>vK ha
  have p1:=zR (λa:Nat×Nat×AV×OB=>a.1) b1
  have p2:=zR (λa:Nat×Nat×AV×OB=>a.2.1) b2
  have hlen:(Ue T ops L0).length<=n:=Nat.le_of_ble_eq_true b4
  obtain ⟨w1,h1,h2,h3⟩:=bF _ hw h
  have h3:=Sp.1 h3
  obtain ⟨w0,g1,g2⟩:=Wa _ _ h2 h3
  obtain ⟨g3,g4⟩:=Sp.1 g2
  have hp:=AL (Γ:=Γ) _ w.st w1.st (λa ha=>(hm a ha).2) (λa ha=>qv (List.all_eq_true.1 b3 a ha)) p2 h1
  refine .inl (fa (λs hs=>?_) _ _ _ (LG (λa ha=>(hm a ha).2) n (n-(Ue T ops L0).length) (Ue T ops L0) _ L0 w1.st w.st (by omega) (mM _ _ h2 g4) hp
   (XD (ops:=ops) λi hi=>by obtain ⟨a,ha,rfl⟩:=List.mem_map.1 hi;exact (hm a ha).1) (λa ha=>ha) (p2.and p1) hc λa ha x hx=>Zf (hm a ha).1 hx))
  obtain ⟨w',h5,_,h6⟩:=hs
  exact ⟨w0,((h5.symm.trans (fc h6)).symm),g1,g3⟩
 ·exact .inr (x9 hw h)
theorem sU {ops:Array Oper} {draw:Bool} {w:WS} (hw:w.OK) {K:WS->Prop} (h:xc T Γ ops draw w K):vE T Γ ops draw w.st (λs=> ∃w':WS,w'.st=s/\w'.OK/\K w'):=by
 unfold xc at h
 split at h
 ·split at h
  ·rename_i ho
   obtain ⟨w1,h1,h2,h3⟩:=Mo _ hw h
   obtain ⟨w2,h4,h5⟩:=bF _ h2 h3
   exact .inl ⟨w2.st,by simp only [Mm,if_true];rw [if_pos ho,h1];exact h4,w2,rfl,h5⟩
  ·rename_i ho
   split at h
   ·rename_i ho2
    obtain ⟨w1,h1,h2,h3⟩:=Mo _ hw h
    obtain ⟨w2,h4,h5⟩:=bF _ h2 h3
    exact .inl ⟨w2.st,by simp only [Mm,if_true];rw [if_neg (by rw [ho];decide),if_pos ho2,h1];exact h4,w2,rfl,h5⟩
   ·split at h
    ·rename_i hc
     simp only [Bool.and_eq_true] at hc
     obtain ⟨w1,h1,h2,h3⟩:=Mo _ hw h
     split at h3
     ·exact .inr ⟨rfl,hc.1,w1.st,h1, .inl (iB _ _ h2 h3)⟩
     ·obtain ⟨w0,g1,g2⟩:=Wa _ _ h2 h3
      obtain ⟨g3,g4⟩:=Sp.1 g2
      exact .inr ⟨rfl,hc.1,w1.st,h1, .inl (fa (λs hs=>by
       obtain ⟨w',h5,_,h6⟩:=hs
       exact ⟨w0,((h5.symm.trans (fc h6)).symm),g1,g3⟩) _ _ _ (iB _ _ h2 g4))⟩
    ·split at h
     ·rename_i JU
      obtain ⟨w1,h1,h2,h3⟩:=Mo _ hw h
      exact .inr ⟨rfl,JU,w1.st,h1,si h2 (Vx _ _ _ mR) h3⟩
     ·cases h
 ·obtain ⟨w1,h1,h2⟩:=qz _ hw h
  exact .inl ⟨w1.st,by simp only [Mm];rw [if_neg (by simp)];exact h1,w1,rfl,h2⟩
end
end Go.Proofs.YtfolipnappekaaaGreat
