/-
  Part 33 of the proof that the statement FnExactSubgroupCosetCount holds.
-/
import Derived.Test.YtjbdmibbbpdnnaaCSubgroupCosetCount31
namespace Go.Proofs.Ytjbdmibbbpdnnaa
open Go.RowKit
section
variable {T:Tab} {Γ:Env}
def WS.OK (w:WS):Prop:= ∀t b,my w.kn t=some b-> ∃fr,w.st.get t= .at (.data fr .bool b)
theorem dN: ∀(l:List (Nat×Bool)) (d t:Nat) (b:Bool),my (nM l d) t=some b->t≠d/\my l t=some b
 | [],_,_,_,h=>by cases h
 |(k,c)::r,d,t,b,h=>by
  simp only [nM] at h
  split at h
  ·rename_i hk
   have:=dN r d t b h
   refine ⟨this.1,?_⟩
   simp only [my]
   rw [if_neg (by rw [hk];exact λh=>this.1 h.symm)]
   exact this.2
  ·rename_i hk
   simp only [my] at h⊢
   split at h
   ·rename_i JX
    exact ⟨by rw [<-JX];exact hk,by rw [if_pos JX];exact h⟩
   ·rename_i JX
    rw [if_neg JX]
    exact dN r d t b h
theorem WS.OK.put {w:WS} (h:w.OK) (dst:Option Tmp) (v:AV):(w.put dst v).OK:=by
 cases dst with
 |none=>exact h
 |some d=>
  intro t b hb
  obtain ⟨h1,h2⟩:=dN _ _ _ _ hb
  obtain ⟨fr,h3⟩:=h t b h2
  exact ⟨fr,by show (w.st.put (some d) v).get t=_;rw [Sx _ _ h1];exact h3⟩
theorem WS.l8 (w:WS) (dst:Option Tmp) (v:AV):(w.put dst v).st=w.st.put dst v:=by cases dst<;>rfl
theorem WS.OK.to {w:WS} (h:w.OK) {s:St} (hs:Av w.st s):(w.to s).OK:=by
 intro t b hb
 obtain ⟨fr,h3⟩:=h t b hb
 exact ⟨fr,hs t fr _ _ h3⟩
theorem nm {w:WS} (hw:w.OK) {t:Nat} {K:Bool->WS->Prop} (h:SG w t K):
  ∃fr b w',w.st.get t= .at (.data fr .bool b)/\w'.st=w.st/\w'.OK/\K b w':=by
 unfold SG at h
 split at h
 ·rename_i b hb
  obtain ⟨fr,h1⟩:=hw t b hb
  exact ⟨fr,b,w,h1,rfl,hw,h⟩
 ·split at h
  ·rename_i fr b hb
   obtain ⟨h1,h2⟩:=h
   have ok: ∀c:Bool,b=c->WS.OK {kn:=(t,c)::w.kn,st:=w.st} :=by
    intro c hc t' b' h'
    simp only [my] at h'
    split at h'
    ·rename_i ht
     injection h' with h'
     exact ⟨fr,by rw [<-ht,<-h',<-hc];exact hb⟩
    ·exact hw t' b' h'
   cases b with
   |true=>exact ⟨fr,true, {kn:=(t,true)::w.kn,st:=w.st},hb,rfl,ok true rfl,h1 rfl⟩
   |false=>exact ⟨fr,false, {kn:=(t,false)::w.kn,st:=w.st},hb,rfl,ok false rfl,h2 rfl⟩
  ·cases h
theorem nk {w:WS} (hw:w.OK) {c:Operand} {K:Bool->WS->Prop} (h:SF w c K):
  ∃fr b w',w.st.ev c= .at (.data fr .bool b)/\w'.st=w.st/\w'.OK/\K b w':=by
 unfold SF at h
 split at h
 ·exact nm hw h
 ·exact ⟨true,_,w,rfl,rfl,hw,h⟩
 ·cases h
theorem ur {op:BinOp} {t:TypeId} {x y:AV} {K:AV->Prop} (h:IV T op t x y K): ∃v,Lp T op t x y=some v/\K v:=by
 unfold IV at h
 split at h
 ·split at h
  ·rename_i hk
   exact ⟨_,by simp only [Lp,evalBin,kF];rw [if_pos hk,if_neg h.1];rfl,h.2⟩
  ·cases h
 ·split at h
  ·rename_i hk
   exact ⟨_,by simp only [Lp,evalBin,kF];rw [if_pos hk,if_neg h.1];rfl,h.2⟩
  ·cases h
 ·exact ⟨_,by simp only [Lp,evalBin];rw [if_neg h.1];rfl,h.2⟩
 ·exact ⟨_,by simp only [Lp,evalBin];rw [if_neg h.1];rfl,h.2⟩
 ·exact ⟨_,by simp only [Lp,evalBin];rw [if_pos h.1],h.2⟩
 ·exact An.1 h
theorem sv {st:St} {t:TypeId} {p:AV} {K:AV->Prop} (h:BD T st t p K): ∃v,Jh T st t p=some v/\K v:=by
 unfold BD at h
 split at h
 ·obtain ⟨τ,h1,h2⟩:=An.1 h
  split at h2
  ·rename_i hb
   split at h2
   ·rename_i he
    obtain ⟨x,h3,h4⟩:=h2
    exact ⟨_,by simp only [Jh,h1,hb,if_pos he,h3];rfl,h4⟩
   ·cases h2
  ·rename_i hb
   split at h2
   ·rename_i he
    obtain ⟨x,h3,h4⟩:=h2
    exact ⟨_,by simp only [Jh,h1,hb,if_pos he,h3];rfl,h4⟩
   ·cases h2
  ·rename_i hb
   split at h2
   ·cases h2
   ·rename_i he
    exact ⟨_,by simp only [Jh,h1,hb,if_neg he],h2⟩
  ·cases h2
 ·obtain ⟨τ,h1,h2⟩:=An.1 h
  split at h2
  ·rename_i he
   obtain ⟨y,h3,h4⟩:=h2
   subst h3
   exact ⟨_,by simp only [Jh,h1,if_pos he],h4⟩
  ·cases h2
 ·exact An.1 h
theorem fZ {s:TypeId} {x:AV} {f:Nat} {K:AV->Prop} (h:dA T s x f K): ∃v,Hq T s x f=some v/\K v:=by
 unfold dA at h
 split at h
 ·obtain ⟨y,h1,h2⟩:=h
  subst h1
  obtain ⟨v,h3,h4⟩:=An.1 h2
  refine ⟨v,?_,h4⟩
  rw [<-h3]
  unfold Hq
  cases T.off s f<;>rfl
 ·exact An.1 h
theorem qd {st:St} {t:TypeId} {x:AV} {lo hi:Option AV} {K:AV->Prop} (h:wb T st t x lo hi K): ∃v,Vu T st t x lo hi=some v/\K v:=by
 unfold wb at h
 obtain ⟨n,h1,h⟩:=An.1 h
 obtain ⟨l,h2,h⟩:=An.1 h
 obtain ⟨hh,h3,hc,h⟩:=An.1 h
 obtain ⟨v,h4,h5⟩:=An.1 h
 refine ⟨v,?_,h5⟩
 simp only [Vu,h1,h2,h3,if_pos hc]
 exact h4
theorem gm {st:St} {t:TypeId} {x i:AV} {K:AV->Prop} (h:dL T st t x i K): ∃v,Ff T st t x i=some v/\K v:=by
 unfold dL at h
 split at h
 ·split at h
  ·rename_i he
   obtain ⟨x,h3,h4⟩:=h
   exact ⟨_,by simp only [Ff,if_pos he,h3];rfl,h4⟩
  ·cases h
 ·split at h
  ·rename_i hb
   split at h
   ·rename_i he
    obtain ⟨h3,h4⟩:=h
    exact ⟨_,by simp only [Ff,hb];rw [if_pos ⟨he.1,he.2,Lw.2 h3⟩],h4⟩
   ·cases h
  ·rename_i hb
   split at h
   ·rename_i he
    obtain ⟨h3,h4⟩:=h
    exact ⟨_,by simp only [Ff,hb];rw [if_pos ⟨he.1,he.2,Lw.2 h3⟩],h4⟩
   ·cases h
  ·rename_i hb
   split at h
   ·rename_i he
    obtain ⟨h3,h4⟩:=h
    exact ⟨_,by simp only [Ff,hb];rw [if_pos ⟨he.1,he.2,Lw.2 h3⟩],h4⟩
   ·cases h
  ·cases h
 ·split at h
  ·rename_i hb
   split at h
   ·rename_i he
    obtain ⟨h3,h4⟩:=h
    exact ⟨_,by simp only [Ff,hb];rw [if_pos ⟨he,Lw.2 h3⟩],h4⟩
   ·cases h
  ·cases h
 ·cases h
theorem pc {t:TypeId} {x i:AV} {K:AV->Prop} (h:uZ T t x i K): ∃v,bQ T t x i=some v/\K v:=by
 unfold uZ at h
 split at h
 ·split at h
  ·rename_i he
   obtain ⟨h1,b,h3,h4⟩:=h
   exact ⟨_,by simp only [bQ,if_pos he,if_pos h1,h3];rfl,h4⟩
  ·cases h
 ·cases h
theorem Ts {st:St} {f:FuncId} {args:List AV} {K:AV->Prop} (h:nq Γ st f args K): ∃v,Ii Γ st f args=some v/\K v:=by
 unfold nq at h
 obtain ⟨s,h1,h⟩:=An.1 h
 have h1:Γ f=some (.q s):=by
  split at h1
  ·rename_i s' hs;injection h1 with h1;rw [hs,h1]
  ·cases h1
 split at h
 ·rename_i hf
  obtain ⟨p,h2,y,h3,h4⟩:=An.1 h
  refine ⟨_,?_,h4⟩
  simp only [Ii,h1]
  rw [if_pos hf,h2]
  simp only [h3]
  rfl
 ·cases h
theorem oM {st:St} {v:AV} {args:List AV} {K:AV->Prop} (h:uw Γ st v args K): ∃u,Om Γ st v args=some u/\K u:=by
 unfold uw at h
 split at h
 ·split at h
  ·rename_i hc
   split at h
   ·rename_i hf
    obtain ⟨u,h1,h2⟩:=Ts h
    exact ⟨u,by simp only [Om];rw [if_pos hc,if_pos (by simpa using hf)];exact h1,h2⟩
   ·rename_i hf
    obtain ⟨u,h1,h2⟩:=Ts h
    exact ⟨u,by simp only [Om];rw [if_pos hc,if_neg (λhx=>by rw [show Nat.blt _ 1000000000=true from by simpa using hx] at hf;cases hf)];exact h1,h2⟩
  ·cases h
 ·exact Ts h
 ·cases h
theorem It {w:WS} (hw:w.OK) {x:Operand} {b:Bool} (hk:Nn w.kn x=some b): ∃fr,w.st.ev x= .at (.data fr .bool b):=by
 unfold Nn at hk
 split at hk
 ·injection hk with hk;subst hk;exact ⟨true,rfl⟩
 ·exact hw _ _ hk
 ·cases hk
theorem mC {w:WS} (hw:w.OK) {o:Oper} {b:Bool} (hk:Cv w.kn o=some b) {v:AV} (he:Bz T Γ w.st o=some v): ∃fr,v= .at (.data fr .bool b):=by
 unfold Cv at hk
 split at hk
 ·rename_i heq;unfold Bz at he;rw [heq] at he;injection he with he;obtain ⟨fr,h⟩:=It hw hk;exact ⟨fr,he.symm.trans h⟩
 ·rename_i heq;unfold Bz at he;rw [heq] at he;injection he with he;obtain ⟨fr,h⟩:=It hw hk;exact ⟨fr,he.symm.trans h⟩
 ·rename_i x heq
  cases hx:Nn w.kn x with
  |none=>rw [hx] at hk;cases hk
  |some c=>
   rw [hx] at hk
   injection hk with hk
   obtain ⟨fr,h⟩:=It hw hx
   unfold Bz at he;rw [heq] at he
   simp only [h,oU,Iq] at he
   injection he with he
   exact ⟨true,by rw [<-he,<-hk]⟩
 ·rename_i c x y heq
  unfold Bz at he;rw [heq] at he
  split at hk
  ·rename_i hc
   obtain ⟨fr,h⟩:=It hw hc
   simp only [h,Vt,if_true] at he
   injection he with he
   obtain ⟨fr,h⟩:=It hw hk
   exact ⟨fr,he.symm.trans h⟩
  ·rename_i hc
   obtain ⟨fr,h⟩:=It hw hc
   simp only [h,Vt,Bool.false_eq_true,if_false] at he
   injection he with he
   obtain ⟨fr,h⟩:=It hw hk
   exact ⟨fr,he.symm.trans h⟩
  ·cases hk
 ·cases hk
theorem kV {w:WS} (hw:w.OK) {o:Oper} {x:Operand} (ho:o.op= .assign x) {b:Bool} (hk:Cv w.kn o=some b) {v:AV} {s:St} (he:evalOp T Γ w.st o=some (v,s)): ∃fr,v= .at (.data fr .bool b):=by
 unfold Cv at hk
 rw [ho] at hk
 obtain ⟨fr,h⟩:=It hw hk
 unfold evalOp at he;rw [ho] at he
 simp only [h] at he
 injection he with he;injection he with he;exact ⟨fr,he.symm⟩
theorem bd {w:WS} (hw:w.OK) {o:Oper} {K:AV->WS->Prop} (h:qW T Γ w o K):
  ∃v w',Bz T Γ w.st o=some v/\w'.st=w.st/\w'.OK/\(∀b,Cv w'.kn o=some b-> ∃fr,v= .at (.data fr .bool b))/\K v w':=by
 have fin:(∃v w',Bz T Γ w.st o=some v/\w'.st=w.st/\w'.OK/\K v w')-> ∃v w',Bz T Γ w.st o=some v/\w'.st=w.st/\w'.OK/\(∀b,Cv w'.kn o=some b-> ∃fr,v= .at (.data fr .bool b))/\K v w':=by
  rintro ⟨v,w',h1,h2,h3,h4⟩
  exact ⟨v,w',h1,h2,h3,λb hb=>mC h3 hb (by rw [h2];exact h1),h4⟩
 refine fin ?_
 unfold qW at h
 split at h
 ·rename_i c a b heq
  obtain ⟨fr,t,w',h1,h2,h3,h4⟩:=nk hw h
  cases t with
  |true=>exact ⟨_,w',by unfold Bz;rw [heq];simp only [h1,Vt,if_true];rw [<-h2],h2,h3,h4⟩
  |false=>exact ⟨_,w',by unfold Bz;rw [heq];simp only [h1,Vt];rw [<-h2];simp,h2,h3,h4⟩
 ·rename_i heq
  obtain ⟨v,h1,h2⟩:=sv h
  exact ⟨v,w,by unfold Bz;rw [heq];exact h1,rfl,hw,h2⟩
 ·rename_i heq
  obtain ⟨v,h1,h2⟩:=ur h
  exact ⟨v,w,by unfold Bz;rw [heq];exact h1,rfl,hw,h2⟩
 ·rename_i heq
  split at h
  ·obtain ⟨v,h1,h2⟩:=qd h
   exact ⟨v,w,by unfold Bz;rw [heq];simpa using h1,rfl,hw,h2⟩
  ·cases h
 ·rename_i heq
  obtain ⟨v,h1,h2⟩:=gm h
  exact ⟨v,w,by unfold Bz;rw [heq];exact h1,rfl,hw,h2⟩
 ·rename_i heq
  obtain ⟨v,h1,h2⟩:=pc h
  exact ⟨v,w,by unfold Bz;rw [heq];exact h1,rfl,hw,h2⟩
 ·rename_i heq
  obtain ⟨v,h1,h2⟩:=Ts h
  exact ⟨v,w,by unfold Bz;rw [heq];exact h1,rfl,hw,h2⟩
 ·rename_i heq
  obtain ⟨v,h1,h2⟩:=oM h
  exact ⟨v,w,by unfold Bz;rw [heq];exact h1,rfl,hw,h2⟩
 ·rename_i heq
  obtain ⟨v,h1,h2⟩:=fZ h
  exact ⟨v,w,by unfold Bz;rw [heq];exact h1,rfl,hw,h2⟩
 ·rename_i x heq
  unfold nU at h
  split at h
  ·rename_i fr τ z hx
   obtain ⟨y,h1,h2⟩:=h
   subst h1
   exact ⟨_,w,by unfold Bz;rw [heq];simp only [hx],rfl,hw,h2⟩
  ·obtain ⟨v,h1,h2⟩:=An.1 h
   exact ⟨v,w,h1,rfl,hw,h2⟩
 ·obtain ⟨v,h1,h2⟩:=An.1 h
  exact ⟨v,w,h1,rfl,hw,h2⟩
theorem qo {st:St} {t:TypeId} {p v:AV} {K:St->Prop} (h:wu T st t p v K): ∃s,Mm T st t p v=some s/\K s:=by
 unfold wu at h
 split at h
 ·obtain ⟨τ,h1,h⟩:=An.1 h
  obtain ⟨q,h2,h⟩:=An.1 h
  split at h
  ·rename_i hb
   obtain ⟨u,h3,h⟩:=An.1 h
   split at h
   ·rename_i hc
    obtain ⟨h4,h5⟩:=h
    obtain ⟨q1,q2⟩:=q
    obtain ⟨u1,u2⟩:=u
    exact ⟨_,by simp only [Mm,h1,h2,hb,h3];rw [dif_pos hc,if_pos h4],h5⟩
   ·cases h
  ·cases h
 ·exact An.1 h
theorem mU {st:St} {t:TypeId} {p v:AV} {K:St->Prop} (h:qj T st t p v K): ∃s,Iv T st t p v=some s/\K s:=by
 unfold qj at h
 unfold Iv
 split at h
 rotate_left
 ·rename_i hg;rw [hg];exact qo h
 rename_i hg
 rw [hg]
 simp only
 unfold xx at h
 split at h
 ·obtain ⟨τ,h1,h⟩:=An.1 h
  obtain ⟨q,h2,h⟩:=An.1 h
  split at h
  ·rename_i hb
   obtain ⟨u,h3,h⟩:=An.1 h
   split at h
   ·rename_i hc
    obtain ⟨q1,q2⟩:=q
    obtain ⟨u1,u2⟩:=u
    exact ⟨_,by simp only [Sw,h1,h2,hb,h3];rw [dif_pos hc],h⟩
   ·cases h
  ·cases h
 ·rename_i l j
  obtain ⟨τ,h1,h⟩:=An.1 h
  split at h
  ·rename_i e te rows out kp m off len hl _
   split at h
   ·rename_i fr tr e' tid xs hm
    split at h
    ·rename_i hc
     obtain ⟨h2,h3,h4,h5⟩:=h
     have h4:out=none\/out=some j:=by
      cases out with
      |none=>exact .inl rfl
      |some i=>exact .inr (congrArg some h4)
     exact ⟨_,by simp only [Sw,h1,hl,hm];rw [dif_pos ⟨hc.1,hc.2,h2,h3,h4⟩],h5⟩
    ·cases h
   ·cases h
  ·cases h
 ·cases h
theorem Pk {st:St} {d:Nat} {t:TypeId} {x y:Operand} {K:AV->St->Prop} (h:ek T st d t x y K): ∃v s,Hp T st d t x y=some (v,s)/\K v s:=by
 unfold ek at h
 obtain ⟨te,h1,h⟩:=An.1 h
 obtain ⟨e,h2,h⟩:=An.1 h
 obtain ⟨q,h3,h⟩:=An.1 h
 obtain ⟨u,h4,h⟩:=An.1 h
 obtain ⟨q1,q2⟩:=q
 obtain ⟨u1,u2⟩:=u
 split at h
 ·rename_i hx
  split at h
  ·rename_i hd
   obtain ⟨h5,h6⟩:=h
   refine ⟨_,_,?_,h6⟩
   simp only [Hp,h1,h2,h3,h4]
   rw [hx]
   simp only
   rw [if_pos ⟨h5,by simpa [Nat.blt_eq] using hd⟩]
   simp
  ·cases h
 ·rename_i l off len hx
  split at h
  ·rename_i fr tr e' tid xs hb
   split at h
   ·rename_i hc
    obtain ⟨h5,h6,h7,h8⟩:=h
    refine ⟨_,_,?_,h8⟩
    simp only [Hp,h1,h2,h3,h4]
    rw [hx]
    simp only [hb]
    rw [dif_pos ⟨hc.1,hc.2.1⟩,if_pos ⟨h7,by simpa [Nat.blt_eq] using hc.2.2⟩]
    obtain ⟨EG,MO,GZ⟩:=hc
    subst EG
    subst h5
    simp only [List.drop_zero,h6,List.take_length,List.length_append]
   ·cases h
  ·cases h
 ·cases h
theorem jM {st:St} {d:Nat} {t:TypeId} {x y:Operand} {K:AV->St->Prop} (h:jL T st d t x y K): ∃v s,Kf T st d t x y=some (v,s)/\K v s:=by
 unfold jL at h
 cases x with
 |tmp tx=>
  simp only at h
  unfold Kf
  simp only
  cases hg:st.get tx with
  | «at»c=>
   rw [hg] at h
   cases c with
   |sub l i c=>
    simp only at h⊢
    obtain ⟨tid,h1,h⟩:=An.1 h
    split at h
    ·rename_i hl
     split at h
     ·rename_i hc
      obtain ⟨v,s,h2,h3⟩:=Pk h
      refine ⟨v,s,?_,h3⟩
      simp only [hl,h1]
      rw [if_pos hc]
      exact h2
     ·cases h
    ·cases h
   |_=>exact Pk h
  |_=>rw [hg] at h;exact Pk h
 |_=>exact Pk h
theorem sy {st:St} {d:Nat} {t:TypeId} {l c:AV} {K:AV->St->Prop} (h:BH T st d t l c K): ∃v s,Ss T st d t l c=some (v,s)/\K v s:=by
 unfold BH at h
 split at h
 ·obtain ⟨te,h1,h⟩:=An.1 h
  obtain ⟨e,h2,h⟩:=An.1 h
  split at h
  ·rename_i hz
   obtain ⟨h3,h4,h5⟩:=h
   refine ⟨_,_,?_,h5⟩
   simp only [Bool.and_eq_true] at hz
   simp only [Ss,h1,h2]
   rw [if_pos ⟨Lw.2 (by exact_mod_cast h3),h4,hz.1,by simpa [Nat.blt_eq] using hz.2⟩]
   simp
  ·cases h
 ·cases h
theorem pC {st:St} {d:Nat} {t:TypeId} {l c:AV} {K:AV->St->Prop} (h:vz T st d t l c K): ∃v s,On T st d t l c=some (v,s)/\K v s:=by
 unfold vz at h
 unfold On
 cases hg:Vx T t with
 |none=>rw [hg] at h;exact sy h
 |some p=>
  obtain ⟨te,e⟩:=p
  rw [hg] at h
  simp only at h⊢
  split at h
  ·split at h
   ·rename_i hd
    obtain ⟨h3,h4,h5⟩:=h
    refine ⟨_,_,?_,h5⟩
    simp only
    rw [if_pos ⟨Lw.2 (by exact_mod_cast h3),h4,by simpa [Nat.blt_eq] using hd⟩]
    simp
   ·cases h
  ·cases h
theorem dw {st:St} {d:Nat} {t:TypeId} {len:Nat} {parts:Array (Nat×Operand)} {K:AV->St->Prop} (h:Xg T st d t len parts K): ∃v s,Ec T st d t len parts=some (v,s)/\K v s:=by
 unfold Xg at h
 unfold Ec
 cases hg:Vx T t with
 |none=>
  rw [hg] at h
  obtain ⟨r,h1,h2⟩:=An.1 h
  exact ⟨r.1,r.2,h1,h2⟩
 |some p=>
  obtain ⟨te,e⟩:=p
  rw [hg] at h
  simp only at h⊢
  split at h
  ·rename_i x hp
   split at h
   ·rename_i m off ln hx
    split at h
    ·rename_i hm
     split at h
     ·rename_i hc
      obtain ⟨h1,h2,h3⟩:=h
      refine ⟨_,_,?_,h3⟩
      simp only [hp,hx,hm]
      rw [dif_pos ⟨hc.1,hc.2,h1,h2⟩]
     ·cases h
    ·cases h
   ·cases h
  ·cases h
theorem jO {st:St} {d:Nat} {t:TypeId} {x y:Operand} {K:AV->St->Prop} (h:jN T st d t x y K): ∃v s,Kg T st d t x y=some (v,s)/\K v s:=by
 unfold jN at h
 unfold Kg
 cases hg:Vx T t with
 |none=>rw [hg] at h;exact jM h
 |some p=>
  obtain ⟨te,e⟩:=p
  rw [hg] at h
  simp only at h⊢
  split at h
  ·rename_i l off len m BL kL hx hy
   split at h
   ·rename_i hl hm
    split at h
    ·rename_i hc
     obtain ⟨h1,h2,h3,h4,h5⟩:=h
     obtain ⟨⟨rfl,rfl⟩,hc⟩:=hc
     refine ⟨_,_,?_,h5⟩
     simp only [hx,hy,hl,hm]
     rw [dif_pos (⟨⟨trivial,trivial⟩,hc,h1,h2,h3,h4⟩)]
     simp
    ·cases h
   ·cases h
  ·cases h
theorem qz {st:St} {io:Bool} {k:Nat} {c:CK} {a:AC} {K:c.den->List (Nat×Loc)->Prop} (h:Yr st io k c a K): ∃x t,Ge st io k c a=some (x,t)/\K x t:=by
 cases c with
 |Gd τ=>
  cases a with
  |own l off len=>
   obtain ⟨p,h1,h2⟩:=An.1 h
   exact ⟨_,_,by simp only [Ge];rw [h1];rfl,h2⟩
  |clo g Bn=>
   simp only [Yr] at h
   split at h
   ·rename_i hc
    obtain ⟨p,h1,h2⟩:=An.1 h
    exact ⟨_,_,by simp only [Ge];rw [if_pos hc,h1];rfl,h2⟩
   ·cases h
  |Df l i=>
   simp only [Yr] at h
   split at h
   ·rename_i hc
    obtain ⟨p,h1,h2⟩:=An.1 h
    exact ⟨_,_,by simp only [Ge];rw [if_pos hc,h1];rfl,h2⟩
   ·cases h
  |sub l i c=>
   obtain ⟨p,h1,h2⟩:=An.1 h
   exact ⟨_,_,by simp only [Ge];rw [h1];rfl,h2⟩
  |_=>
   simp only [Yr] at h
   split at h
   ·rename_i hc
    obtain ⟨p,h1,h2⟩:=An.1 h
    exact ⟨_,_,by simp only [Ge];rw [if_pos hc,h1];rfl,h2⟩
   ·cases h
 |row e te=>
  cases a<;>simp only [Yr] at h<;>first|(cases h;done)|skip
  ·exact ⟨_,_,rfl,h⟩
  ·split at h
   ·rename_i hl
    split at h
    ·rename_i hc
     obtain ⟨h1,h2,h3⟩:=h
     exact ⟨_,_,by simp only [Ge,hl];rw [dif_pos ⟨hc.1,hc.2,h1,h2⟩],h3⟩
    ·cases h
   ·cases h
  ·split at h
   ·rename_i hl
    split at h
    ·rename_i hc
     obtain ⟨y,h1,h2⟩:=h
     exact ⟨_,_,by simp only [Ge,hl];rw [dif_pos hc,h1];rfl,h2⟩
    ·cases h
   ·cases h
 |Dc e te=>
  cases a<;>simp only [Yr] at h<;>first|(cases h;done)|skip
  ·exact ⟨_,_,rfl,h⟩
  ·split at h
   ·rename_i hl
    split at h
    ·rename_i hc
     obtain ⟨h1,h2,h3⟩:=h
     exact ⟨_,_,by simp only [Ge,hl];rw [dif_pos ⟨hc.1,hc.2,h1,h2⟩],h3⟩
    ·cases h
   ·cases h
  ·split at h
   ·rename_i hl
    split at h
    ·rename_i hc
     obtain ⟨y,h1,h2⟩:=h
     exact ⟨_,_,by simp only [Ge,hl];rw [dif_pos hc,h1];rfl,h2⟩
    ·cases h
   ·cases h
 |part e te=>
  cases a<;>simp only [Yr] at h<;>first|(cases h;done)|skip
  split at h
  ·rename_i hl
   split at h
   ·rename_i hc
    exact ⟨_,_,by simp only [Ge,hl];rw [dif_pos hc],h⟩
   ·cases h
  ·cases h
 |Ah e te kp=>
  cases a<;>simp only [Yr] at h<;>first|(cases h;done)|skip
  split at h
  ·rename_i hl
   split at h
   ·rename_i hc
    obtain ⟨h1,h2,h3⟩:=h
    exact ⟨_,_,by simp only [Ge,hl];rw [dif_pos ⟨hc.1,hc.2.1,h1,h2,hc.2.2⟩],h3⟩
   ·cases h
  ·cases h
theorem td {st:St} {e:Ty} {ys:List e.den} {a:AC} {K:St->Prop} (h:BX st e ys a K): ∃s,vS st e ys a=some s/\K s:=by
 cases a<;>simp only [BX] at h<;>first|(cases h;done)|skip
 split at h
 ·rename_i hl
  split at h
  ·rename_i hc
   obtain ⟨h1,h3⟩:=h
   exact ⟨_,by simp only [vS,hl];rw [dif_pos ⟨hc,h1⟩],h3⟩
  ·cases h
 ·cases h
theorem cY {st:St} : ∀(cs:List (Bool×CK)) (k:Nat) (as:List AC) (K:Ins.den cs->List (Nat×Loc)->Prop),qA st k cs as K-> ∃x t,Ys st k cs as=some (x,t)/\K x t
 | [],_,[],_,h=>⟨_,_,rfl,h⟩
 | [],_,_::_,_,h=>h.elim
 |_::_,_,[],_,h=>h.elim
 |p::r,k,a::as,K,h=>by
  obtain ⟨x,t1,h1,h2⟩:=qz h
  obtain ⟨y,t2,h3,h4⟩:=cY r (k+1) as _ h2
  exact ⟨_,_,by simp only [Ys,h1,h3],h4⟩
theorem iN {st:St} {c:CK} {ys:c.den} {a:AC} {K:St->Prop} (h:iM st c ys a K): ∃s,Tr st c ys a=some s/\K s:=by
 cases c with
 |Gd τ=>cases a<;>simp only [iM] at h<;>first|(cases h;done)|exact ⟨_,rfl,h⟩
 |row e te=>
  cases a<;>simp only [iM] at h<;>first|(cases h;done)|skip
  ·exact ⟨_,rfl,h⟩
  ·split at h
   ·rename_i hl
    split at h
    ·rename_i hc
     obtain ⟨h1,h3⟩:=h
     exact ⟨_,by simp only [Tr,hl];rw [dif_pos ⟨hc,h1⟩],h3⟩
    ·cases h
   ·cases h
  ·split at h
   ·rename_i hl
    split at h
    ·rename_i hc
     obtain ⟨y,h1,h2,h3⟩:=h
     exact ⟨_,by simp only [Tr,hl,dif_pos hc,h1];rw [if_pos h2],h3⟩
    ·cases h
   ·cases h
 |Dc e te=>
  cases a<;>simp only [iM] at h<;>first|(cases h;done)|skip
  ·exact ⟨_,rfl,h⟩
  ·split at h
   ·rename_i hl
    split at h
    ·rename_i hc
     obtain ⟨h1,h3⟩:=h
     exact ⟨_,by simp only [Tr,hl];rw [dif_pos ⟨hc,h1⟩],h3⟩
    ·cases h
   ·cases h
  ·split at h
   ·rename_i hl
    split at h
    ·rename_i hc
     obtain ⟨y,h1,h2,h3⟩:=h
     exact ⟨_,by simp only [Tr,hl,dif_pos hc,h1];rw [if_pos h2],h3⟩
    ·cases h
   ·cases h
 |part e te=>cases a<;>simp only [iM] at h<;>first|(cases h;done)|exact ⟨_,rfl,h⟩
 |Ah e te kp=>cases a<;>simp only [iM] at h<;>first|(cases h;done)|exact ⟨_,rfl,h⟩
theorem Ja: ∀(cs:List (Bool×CK)) (o:IOs.den cs) (as:List AC) (st:St) (K:St->Prop),bb cs o as st K-> ∃s,Dl cs o as st=some s/\K s
 | [],_,_,st,K,h=>⟨st,rfl,h⟩
 |(true, .Gd _)::r,o,[],st,K,h=>h.elim
 |(true, .row _ _)::r,o,[],st,K,h=>h.elim
 |(true, .Dc _ _)::r,o,[],st,K,h=>h.elim
 |(true, .part _ _)::r,o,[],st,K,h=>h.elim
 |(true, .Ah _ _ _)::r,o,[],st,K,h=>h.elim
 |(true, .Ah _ _ _)::r,o,a::as,st,K,h=>by
  obtain ⟨s,h1,h2⟩:=Ja r o as st K h
  exact ⟨s,by simp only [Dl];exact h1,h2⟩
 |(false,_)::r,o,[],st,K,h=>h.elim
 |(true, .Gd _)::r,o,a::as,st,K,h=>by
  obtain ⟨s,h1,h2⟩:=Ja r o as st K h
  exact ⟨s,by simp only [Dl];exact h1,h2⟩
 |(false,_)::r,o,a::as,st,K,h=>by
  obtain ⟨s,h1,h2⟩:=Ja r o as st K h
  exact ⟨s,by simp only [Dl];exact h1,h2⟩
 |(true, .row _ _)::r,o,a::as,st,K,h=>by
  obtain ⟨s1,h1,h2⟩:=iN h
  obtain ⟨s,h3,h4⟩:=Ja r o.2 as s1 K h2
  exact ⟨s,by simp only [Dl,h1];exact h3,h4⟩
 |(true, .part _ _)::r,o,a::as,st,K,h=>by
  obtain ⟨s1,h1,h2⟩:=td h
  obtain ⟨s,h3,h4⟩:=Ja r o.2 as s1 K h2
  exact ⟨s,by simp only [Dl,h1];exact h3,h4⟩
 |(true, .Dc _ _)::r,o,a::as,st,K,h=>by
  obtain ⟨s1,h1,h2⟩:=iN h
  obtain ⟨s,h3,h4⟩:=Ja r o.2 as s1 K h2
  exact ⟨s,by simp only [Dl,h1];exact h3,h4⟩
theorem iU {H:List (Nat×OB)} {ls:List Nat} {n:Nat} {K:Prop} : ∀(l:List AV),lJ H ls n l K->Vh H ls n l=true/\K
 | [],h=>⟨rfl,h⟩
 |a::r,h=>by
  have go:lJ H ls n r K->Vh H ls n r=true/\K:=iU r
  cases a with
  | «at»c=>
   cases c with
   |sub l i c=>
    simp only [lJ] at h
    simp only [Vh]
    split at h
    ·rename_i hc
     obtain ⟨⟨h1,h2⟩,h3⟩:=h
     obtain ⟨g1,g2⟩:=go h3
     exact ⟨by simp only [hc,g1,Bool.and_true,Bool.not_true,Bool.false_or,Bool.and_eq_true,Nat.blt_eq];exact ⟨h1,h2⟩,g2⟩
    ·rename_i hc
     obtain ⟨g1,g2⟩:=go h
     exact ⟨by simp only [hc,g1,Bool.not_false,Bool.true_or,Bool.and_true],g2⟩
   |_=>exact go h
  |_=>exact go h
theorem oL {st:St} {d:Option Nat} {s:MSpec} {args:List AV} {K:AV->St->Prop} (h:uv st d s args K): ∃v s',Ol st d s args=some (v,s')/\K v s':=by
 unfold uv at h
 obtain ⟨⟨pl,cells,rest⟩,h0,h⟩:=An.1 h
 obtain ⟨as,h1,h⟩:=An.1 h
 obtain ⟨x,tks,h2,h⟩:=cY s.ins 0 (cells++as) _ h
 split at h
 ·rename_i hc
  obtain ⟨⟨r,o⟩,h3,h⟩:=h
  obtain ⟨st1,h4,h⟩:=Ja s.ins o (cells++as) st _ h
  obtain ⟨v,h5,h6⟩:=An.1 h
  obtain ⟨h7,h6⟩:=iU _ h6
  refine ⟨v,_,?_,h6⟩
  unfold Ol
  simp only [h0,h1,h2]
  rw [if_pos hc]
  simp only [h3,h4,h5]
  rw [if_pos h7]
 ·cases h
theorem yt {w:WS} (hw:w.OK) {o:Oper} {K:AV->WS->Prop} (h:IF T Γ w o K):
  ∃v w',evalOp T Γ w.st o=some (v,w'.st)/\w'.OK/\(∀b,Cv w'.kn o=some b-> ∃fr,v= .at (.data fr .bool b))/\K v w':=by
 have fin: ∀v s,(∀b,Cv w.kn o=some b-> ∃fr,v= .at (.data fr .bool b))->evalOp T Γ w.st o=some (v,s)->K v (w.to s)-> ∃v w',evalOp T Γ w.st o=some (v,w'.st)/\w'.OK/\(∀b,Cv w'.kn o=some b-> ∃fr,v= .at (.data fr .bool b))/\K v w':=
  fun v s hk h1 h2=>⟨v,w.to s,h1,hw.to (eI h1),hk,h2⟩
 have oV:(∀b v s,Cv w.kn o=some b->evalOp T Γ w.st o=some (v,s)-> ∃fr,v= .at (.data fr .bool b))->Dh (evalOp T Γ w.st o) (λr=>K r.1 (w.to r.2))-> ∃v w',evalOp T Γ w.st o=some (v,w'.st)/\w'.OK/\(∀b,Cv w'.kn o=some b-> ∃fr,v= .at (.data fr .bool b))/\K v w':=by
  intro hk h
  obtain ⟨r,h1,h2⟩:=An.1 h
  exact fin r.1 r.2 (λb hb=>hk b _ _ hb h1) h1 h2
 unfold IF at h
 split at h
 ·rename_i heq
  obtain ⟨s,h1,h2⟩:=mU h
  refine fin _ _ (λb hb=>by unfold Cv at hb;rw [heq] at hb;cases hb) ?_ h2
  unfold evalOp;rw [heq];simp only [h1];rfl
 ·rename_i heq
  obtain ⟨d,h1,h⟩:=An.1 h
  obtain ⟨v,s,h2,h3⟩:=pC h
  refine fin _ _ (λb hb=>by unfold Cv at hb;rw [heq] at hb;cases hb) ?_ h3
  unfold evalOp;rw [heq];simp only [h1,h2]
 ·rename_i heq
  split at h
  ·rename_i hd ha ht
   split at h
   ·rename_i Nb
    obtain ⟨v,s,h2,h3⟩:=jO h
    refine fin _ _ (λb hb=>by unfold Cv at hb;rw [heq] at hb;cases hb) ?_ h3
    unfold evalOp;rw [heq];simp only [hd,ha,ht,if_pos Nb,h2]
   ·cases h
  ·cases h
 ·rename_i heq;exact oV (λb v s hb he=>kV hw heq hb he) h
 ·rename_i heq;exact oV (λb v s hb he=>by unfold Cv at hb;rw [heq] at hb;cases hb) h
 ·rename_i heq;exact oV (λb v s hb he=>by unfold Cv at hb;rw [heq] at hb;cases hb) h
 ·rename_i heq
  obtain ⟨d,h1,h⟩:=An.1 h
  obtain ⟨v,s,h2,h3⟩:=dw h
  refine fin _ _ (λb hb=>by unfold Cv at hb;rw [heq] at hb;cases hb) ?_ h3
  unfold evalOp;rw [heq];simp only [h1,h2]
 ·rename_i heq;exact oV (λb v s hb he=>by unfold Cv at hb;rw [heq] at hb;cases hb) h
 ·rename_i heq;exact oV (λb v s hb he=>by unfold Cv at hb;rw [heq] at hb;cases hb) h
 ·rename_i heq;exact oV (λb v s hb he=>by unfold Cv at hb;rw [heq] at hb;cases hb) h
 ·rename_i heq;exact oV (λb v s hb he=>by unfold Cv at hb;rw [heq] at hb;cases hb) h
 ·rename_i heq;exact oV (λb v s hb he=>by unfold Cv at hb;rw [heq] at hb;cases hb) h
 ·rename_i heq;exact oV (λb v s hb he=>by unfold Cv at hb;rw [heq] at hb;cases hb) h
 ·
  rename_i f _ _ heq
  split at h
  ·rename_i La
   obtain ⟨v,s',h1,h2⟩:=oL h
   refine fin v s' (λb hb=>by unfold Cv at hb;rw [heq] at hb;cases hb) ?_ h2
   unfold evalOp;rw [heq];simp only [La];exact h1
  ·rename_i s La
   split at h
   ·rename_i xd
    obtain ⟨st1,hs,h⟩:=An.1 h
    obtain ⟨v,w',h1,h2,h3,EB,h4⟩:=bd (hw.to (Qr _ hs)) h
    refine ⟨v,w',?_,h3,EB,h4⟩
    have h1:Bz T Γ st1 o=some v:=h1
    have h2:w'.st=st1:=h2
    unfold evalOp
    rw [heq]
    simp only [La,xd,hs,h1,h2]
    rfl
   ·rename_i xd
    obtain ⟨v,w',h1,h2,h3,EB,h4⟩:=bd hw h
    refine ⟨v,w',?_,h3,EB,h4⟩
    unfold evalOp
    rw [heq]
    simp only [La,xd,h1,h2]
    rfl
  ·rename_i Abu OX
   obtain ⟨v,w',h1,h2,h3,EB,h4⟩:=bd hw h
   refine ⟨v,w',?_,h3,EB,h4⟩
   unfold evalOp
   rw [heq]
   simp only
   rw [h1,h2];rfl
 ·rename_i n1 n2 n3 n4 n5 n6 n7 n8 n9 TM TN TO TP TQ
  obtain ⟨v,w',h1,h2,h3,EB,h4⟩:=bd hw h
  refine ⟨v,w',?_,h3,EB,h4⟩
  unfold evalOp
  split
  all_goals first
   |(rw [h1,h2];rfl)
   |(rename_i hq;exact absurd hq (by first|exact n1 _|exact n2 _|exact n3 _|exact n4 _|exact n5 _|exact n6 _|exact n7 _|exact n8 _|exact n9 _|exact TM _|exact TN _|exact TO _|exact TP _|exact TQ _))
   |(rename_i hq;exact absurd hq (by first|exact n1 _ _|exact n2 _ _|exact n3 _ _|exact n4 _ _|exact n5 _ _|exact n6 _ _|exact n7 _ _|exact n8 _ _|exact n9 _ _|exact TM _ _|exact TN _ _|exact TO _ _|exact TP _ _|exact TQ _ _))
   |(rename_i hq;exact absurd hq (by first|exact n1 _ _ _|exact n2 _ _ _|exact n3 _ _ _|exact n4 _ _ _|exact n5 _ _ _|exact n6 _ _ _|exact n7 _ _ _|exact n8 _ _ _|exact n9 _ _ _|exact TM _ _ _|exact TN _ _ _|exact TO _ _ _|exact TP _ _ _|exact TQ _ _ _))
   |(rename_i hq;exact absurd hq (by first|exact n1 _ _ _ _|exact n2 _ _ _ _|exact n3 _ _ _ _|exact n4 _ _ _ _|exact n5 _ _ _ _|exact n6 _ _ _ _|exact n7 _ _ _ _|exact n8 _ _ _ _|exact n9 _ _ _ _|exact TM _ _ _ _|exact TN _ _ _ _|exact TO _ _ _ _|exact TP _ _ _ _|exact TQ _ _ _ _))
theorem oY (st:St) (d:Nat) (v:AV):(st.put (some d) v).get d=v\/(st.put (some d) v).get d= .undef:=by
 simp only [St.put,St.get]
 rw [Sf]
 by_cases h:d<st.tmps.length
 ·exact .inl (by rw [if_pos ⟨rfl,h⟩])
 ·refine .inr ?_
  rw [if_neg (λhc=>h hc.2),List.getD_eq_getElem?_getD,List.getElem?_eq_none (by omega)]
  rfl
theorem WS.OK.mJ {w:WS} (hw:w.OK) (o:Oper) (v:AV) (h: ∀b,Cv w.kn o=some b-> ∃fr,v= .at (.data fr .bool b)):(w.mJ o v).OK/\(w.mJ o v).st=w.st.put o.dst v:=by
 unfold WS.mJ
 split
 ·rename_i d b hd hk
  split
  ·rename_i fr c hg
   refine ⟨?_,by rw [hd]⟩
   obtain ⟨Nf,hv⟩:=h b hk
   intro t b' hb
   simp only [my] at hb
   split at hb
   ·rename_i ht
    injection hb with hb
    subst ht;subst hb
    refine ⟨Nf,?_⟩
    show (w.st.put (some d) v).get d=_
    cases oY w.st d v with
    |inl h1=>rw [h1,hv]
    |inr h1=>rw [h1] at hg;cases hg
   ·exact hw.put (some d) v t b' hb
  ·exact ⟨hw.put _ _,by rw [WS.l8,hd]⟩
 ·exact ⟨hw.put _ _,WS.l8 _ _ _⟩
theorem iT {ops:Array Oper} {w:WS} (hw:w.OK) {o:Oper} {run:(AV->WS->Prop)->WS->Prop} {R:St->Option (AV×St)} {K:WS->Prop}
  (hr: ∀(k:AV->WS->Prop) (w:WS),w.OK->run k w-> ∃v w',R w.st=some (v,w'.st)/\w'.OK/\(∀b,Cv w'.kn o=some b-> ∃fr,v= .at (.data fr .bool b))/\k v w') (h:cT ops w o run K):
  ∃w',(match o.guard with
   |none=>(R w.st).map λr=>r.2.put o.dst r.1
   |some (j,want)=>match Og w.st ((ops[j]?).bind (·.dst)) with
    |some (some b)=>if b==want then (R w.st).map λr=>r.2.put o.dst r.1 else some (w.st.put o.dst (.at .skip))
    |some none=>some (w.st.put o.dst (.at .skip))
    |none=>none)=some w'.st/\w'.OK/\K w':=by
 have go: ∀w:WS,w.OK->run (λv w'=>K (w'.mJ o v)) w-> ∃w',((R w.st).map λr=>r.2.put o.dst r.1)=some w'.st/\w'.OK/\K w':=by
  intro w hw h
  obtain ⟨v,w',h1,h2,h3,h4⟩:=hr _ _ hw h
  obtain ⟨h5,h6⟩:=h2.mJ o v h3
  exact ⟨w'.mJ o v,by rw [h1,h6];rfl,h5,h4⟩
 unfold cT at h
 split at h
 ·rename_i hg
  rw [hg]
  exact go w hw h
 ·rename_i j want hg
  rw [hg]
  obtain ⟨t,h1,h⟩:=An.1 h
  simp only [h1]
  split at h
  ·rename_i hs
   have hsk:w.st.get t= .at .skip:=by
    unfold AV.AZ at hs
    split at hs
    ·assumption
    ·cases hs
   exact ⟨_,by simp only [Og,hsk];rw [WS.l8],hw.put _ _,h⟩
  ·obtain ⟨fr,b,w',h2,h3,h4,h5⟩:=nm hw h
   have hb:Og w.st (some t)=some (some b):=by simp only [Og,h2]
   rw [hb]
   simp only
   cases b with
   |true=>
    cases want with
    |true=>rw [if_pos (by decide),<-h3];exact go w' h4 h5
    |false=>exact ⟨_,by rw [if_neg (by decide),<-h3,WS.l8],h4.put _ _,h5⟩
   |false=>
    cases want with
    |false=>rw [if_pos (by decide),<-h3];exact go w' h4 h5
    |true=>exact ⟨_,by rw [if_neg (by decide),<-h3,WS.l8],h4.put _ _,h5⟩
theorem bE {ops:Array Oper} {w:WS} (hw:w.OK) {o:Oper} {K:WS->Prop} (h:cT ops w o (λk w'=>IF T Γ w' o k) K): ∃w',Ca T Γ ops w.st o=some w'.st/\w'.OK/\K w':=by
 obtain ⟨w',h1,h2⟩:=iT hw (R:= λst=>evalOp T Γ st o) (λk w hw h=>by
  obtain ⟨v,w',h1,h2,GS,h3⟩:=yt hw h
  exact ⟨v,w',h1,h2,GS,h3⟩) h
 exact ⟨w',h1,h2⟩
theorem zK {w:WS} (hw:w.OK) {o:Oper} {K:AV->WS->Prop} (h:bW T Γ w o K):
  ∃v w',Py T Γ w.st o=some v/\w'.st=w.st/\w'.OK/\(∀b,Cv w'.kn o=some b-> ∃fr,v= .at (.data fr .bool b))/\K v w':=by
 unfold bW at h
 split at h
 ·rename_i t len parts nI
  obtain ⟨v,h1,h2⟩:=An.1 h
  exact ⟨v,w,by unfold Py;rw [nI];exact h1,rfl,hw,λb hb=>by simp [Cv,nI] at hb,h2⟩
 ·rename_i t parts nI
  obtain ⟨v,h1,h2⟩:=An.1 h
  exact ⟨v,w,by unfold Py;rw [nI];exact h1,rfl,hw,λb hb=>by simp [Cv,nI] at hb,h2⟩
 ·rename_i n1 n2
  obtain ⟨v,w',h1,h2⟩:=bd hw h
  refine ⟨v,w',?_,h2⟩
  rw [<-h1]
  unfold Py
  split
  ·rename_i h9;exact absurd h9 (n1 _ _ _)
  ·rename_i h9;exact absurd h9 (n2 _ _)
  ·rfl
theorem FR {ops:Array Oper} {w:WS} (hw:w.OK) {o:Oper} {K:WS->Prop} (h:cT ops w o (λk w'=>bW T Γ w' o k) K): ∃v w',Zz T Γ ops w.st o=some v/\w'.st=w.st.put o.dst v/\w'.OK/\K w':=by
 obtain ⟨w',h1,h2,h3⟩:=iT hw (R:= λst=>(Py T Γ st o).map λv=>(v,st)) (λk w hw h=>by
  obtain ⟨v,w',h1,h2,h3,EB,h4⟩:=zK hw h
  exact ⟨v,w',by simp only [h1,h2];rfl,h3,EB,h4⟩) h
 have key: ∀u:Option AV,((u.map λv=>(v,w.st)).map λr=>r.2.put o.dst r.1)=some w'.st-> ∃v,u=some v/\w'.st=w.st.put o.dst v:=by
  intro u hu
  cases u with
  |none=>cases hu
  |some v=>injection hu with hu;exact ⟨v,rfl,hu.symm⟩
 unfold Zz
 split at h1
 ·rename_i hg
  obtain ⟨v,h4,h5⟩:=key _ h1
  exact ⟨v,w',by rw [hg];exact h4,h5,h2,h3⟩
 ·rename_i j want hg
  rw [hg]
  split at h1
  ·rename_i b hb
   simp only [hb]
   split at h1
   ·rename_i uM
    obtain ⟨v,h4,h5⟩:=key _ h1
    exact ⟨v,w',by rw [if_pos uM];exact h4,h5,h2,h3⟩
   ·rename_i uM
    injection h1 with h1
    exact ⟨_,w',by rw [if_neg uM],h1.symm,h2,h3⟩
  ·rename_i hb
   simp only [hb]
   injection h1 with h1
   exact ⟨_,w',rfl,h1.symm,h2,h3⟩
  ·cases h1
theorem kW {ops:Array Oper} : ∀(l:List Oper) {w:WS} (_:w.OK) {K:WS->Prop},LG T Γ ops l w K-> ∃w',Rl T Γ ops l w.st=some w'.st/\w'.OK/\K w'
 | [],w,hw,K,h=>⟨w,rfl,hw,h⟩
 |o::r,w,hw,K,h=>by
  obtain ⟨w1,h1,h2,h3⟩:=bE hw h
  obtain ⟨w2,h4,h5⟩:=kW r h2 h3
  exact ⟨w2,by simp only [Rl];rw [h1];exact h4,h5⟩
theorem Xr {ops:Array Oper} : ∀(l:List Nat) {w:WS} (_:w.OK) {K:WS->Prop},AP T Γ ops l w K-> ∃w',Ic T Γ ops l w.st=some w'.st/\w'.OK/\K w'
 | [],w,hw,K,h=>⟨w,rfl,hw,h⟩
 |i::r,w,hw,K,h=>by
  obtain ⟨o,h0,h⟩:=An.1 h
  obtain ⟨w1,h1,h2,h3⟩:=bE hw h
  obtain ⟨w2,h4,h5⟩:=Xr r h2 h3
  exact ⟨w2,by simp only [Ic];rw [h0];simp only [h1];exact h4,h5⟩
theorem Qd {ops:Array Oper} : ∀(l:List Nat) {w:WS} (_:w.OK) {K:WS->Prop},nC T Γ ops l w K-> ∃w',Dk T Γ ops l w.st=some w'.st/\w'.OK/\K w'
 | [],w,hw,K,h=>⟨w,rfl,hw,h⟩
 |i::r,w,hw,K,h=>by
  obtain ⟨o,h0,h⟩:=An.1 h
  obtain ⟨v,w1,h1,h1',h2,h3⟩:=FR hw h
  obtain ⟨w2,h4,h5⟩:=Qd r h2 h3
  exact ⟨w2,by simp only [Dk];rw [h0];simp only [h1];rw [<-h1'];exact h4,h5⟩
theorem jJ {P:Nat->Prop} : ∀(l:List Nat),DT l P-> ∀i∈l,P i
 | [],_,i,hi=>by cases hi
 | [k],h,i,hi=>by rw [List.mem_singleton.1 hi];exact h
 |k::j::r,h,i,hi=>by
  rcases List.mem_cons.1 hi with rfl|hi
  ·exact h.1
  ·exact jJ (j::r) h.2 i hi
theorem du {ops:Array Oper} {K:WS->Prop} : ∀(f:Nat) (Aa:Array Bool) {w:WS} (_:w.OK),xG T Γ ops f Aa w K->anyS T Γ ops (λs=> ∃w':WS,w'.st=s/\w'.OK/\K w') f Aa w.st
 |0,Aa,w,hw,h=>by
  unfold xG at h
  split at h
  ·rename_i hr;exact ⟨hr,w,rfl,hw,h⟩
  ·cases h
 |f+1,Aa,w,hw,h=>by
  unfold xG at h
  split at h
  ·cases h
  ·rename_i i r hr
   refine ⟨by rw [hr];simp,λk hk=>?_⟩
   rw [hr] at hk
   obtain ⟨o,h0,h1⟩:=An.1 (jJ _ h k hk)
   obtain ⟨w1,h2,h3,h4⟩:=bE hw h1
   exact ⟨o,w1.st,h0,h2,du f _ h3 h4⟩
theorem Xl {ops:Array Oper} {K:WS->Prop} : ∀(f:Nat) (Aa:Array Bool) {w:WS} (_:w.OK),ga T Γ ops f Aa w K-> ∃w':WS,w'.OK/\K w'
 |0,Aa,w,hw,h=>by
  simp only [ga] at h
  split at h
  ·exact ⟨w,hw,h⟩
  ·exact h.elim
 |f+1,Aa,w,hw,h=>by
  simp only [ga] at h
  split at h
  ·exact h.elim
  ·obtain ⟨o,ho,h1⟩:=An.1 h
   obtain ⟨w',h2,h3,h4⟩:=bE hw h1
   exact Xl f _ h3 h4
theorem ie {P:List (Nat×Nat×AV×OB)} {ops:Array Oper} {K:WS->Prop} : ∀(f:Nat) (Aa:Array Bool) {w:WS} (_:w.OK),r8 T Γ P ops f Aa w K->IS T Γ ops P (λs=> ∃w':WS,w'.st=s/\w'.OK/\K w') f Aa w.st
 |0,Aa,w,hw,h=>by
  unfold r8 at h
  split at h
  ·rename_i hr;exact ⟨hr,w,rfl,hw,h⟩
  ·cases h
 |f+1,Aa,w,hw,h=>by
  unfold r8 at h
  split at h
  ·cases h
  ·rename_i i r hr
   refine ⟨by rw [hr];simp,λk hk=>?_⟩
   rw [hr] at hk
   obtain ⟨o,h0,h1⟩:=An.1 (jJ _ h k hk)
   split at h1
   ·rename_i jb
    obtain ⟨w1,h2,h3,h4⟩:=bE hw h1
    exact ⟨o,w1.st,h0,jb,h2,ie f _ h3 h4⟩
   ·cases h1
theorem sK {α:Type} (f:α->Nat) {l:List α} (h:Qt (l.map f)=true):l.Pairwise λa c=>f a≠f c:=List.pairwise_map.1 (Oy h)
theorem m6 {ops:Array Oper} {L0:Array Bool} {n:Nat} {w:WS} (hw:w.OK) {K:WS->Prop} (hc:Re ops L0) (h:oK T Γ (Px T ops L0) n L0 ops w K):anyS T Γ ops (λs=> ∃w':WS,w'.st=s/\w'.OK/\K w') n L0 w.st:=by
 unfold oK at h
 split at h
 ·rename_i hb
  simp only [Bool.and_eq_true] at hb
  obtain ⟨⟨b1,b2⟩,b3,b4,b5⟩:=hb
  have hm: ∀a∈Px T ops L0,a.1∈Region.ready .any ops L0/\ ∃o,ops[a.1]?=some o/\Xd T o=some a.2:= λa ha=>oG ha
  have p1:=sK (λa:Nat×Nat×AV×OB=>a.1) b1
  have p2:=sK (λa:Nat×Nat×AV×OB=>a.2.1) b2
  have hlen:(Px T ops L0).length<=n:=Nat.le_of_ble_eq_true b4
  obtain ⟨w1,h1,h2,h3⟩:=Xr _ hw h
  have h3:=Xp.1 h3
  obtain ⟨w0,g1,g2⟩:=Xl _ _ h2 h3
  obtain ⟨g3,g4⟩:=Xp.1 g2
  have hp:=sY (Γ:=Γ) _ w.st w1.st (λa ha=>(hm a ha).2) (λa ha=>kT (List.all_eq_true.1 b3 a ha)) p2 h1
  refine bN (λs hs=>?_) _ _ _ (xF (λa ha=>(hm a ha).2) n (n-(Px T ops L0).length) (Px T ops L0) _ L0 w1.st w.st (by omega) (ie _ _ h2 g4) hp
   (DW (ops:=ops) λi hi=>by obtain ⟨a,ha,rfl⟩:=List.mem_map.1 hi;exact (hm a ha).1) (λa ha=>ha) (p2.and p1) hc λa ha x hx=>bh (hm a ha).1 hx)
  obtain ⟨w',h5,_,h6⟩:=hs
  exact ⟨w0,((h5.symm.trans (nv h6)).symm),g1,g3⟩
 ·cases h
theorem mK {ops:Array Oper} {draw:Bool} {w:WS} (hw:w.OK) {K:WS->Prop} (h:pW T Γ ops draw w K):oC T Γ ops draw w.st (λs=> ∃w':WS,w'.st=s/\w'.OK/\K w'):=by
 unfold pW at h
 split at h
 ·split at h
  ·rename_i ho
   obtain ⟨w1,h1,h2,h3⟩:=Qd _ hw h
   obtain ⟨w2,h4,h5⟩:=Xr _ h2 h3
   exact .inl ⟨w2.st,by simp only [Kh,if_true];rw [if_pos ho,h1];exact h4,w2,rfl,h5⟩
  ·rename_i ho
   split at h
   ·rename_i WV
    obtain ⟨w1,h1,h2,h3⟩:=Qd _ hw h
    obtain ⟨w2,h4,h5⟩:=Xr _ h2 h3
    exact .inl ⟨w2.st,by simp only [Kh,if_true];rw [if_neg (by rw [ho];decide),if_pos WV,h1];exact h4,w2,rfl,h5⟩
   ·split at h
    ·rename_i hc
     simp only [Bool.and_eq_true] at hc
     obtain ⟨w1,h1,h2,h3⟩:=Qd _ hw h
     split at h3
     ·exact .inr ⟨rfl,hc.1,w1.st,h1,du _ _ h2 h3⟩
     ·obtain ⟨w0,g1,g2⟩:=Xl _ _ h2 h3
      obtain ⟨g3,g4⟩:=Xp.1 g2
      exact .inr ⟨rfl,hc.1,w1.st,h1,bN (λs hs=>by
       obtain ⟨w',h5,_,h6⟩:=hs
       exact ⟨w0,((h5.symm.trans (nv h6)).symm),g1,g3⟩) _ _ _ (du _ _ h2 g4)⟩
    ·split at h
     ·rename_i xd
      obtain ⟨w1,h1,h2,h3⟩:=Qd _ hw h
      exact .inr ⟨rfl,xd,w1.st,h1,m6 h2 (Xj _ _ _ rv) h3⟩
     ·cases h
 ·obtain ⟨w1,h1,h2⟩:=kW _ hw h
  exact .inl ⟨w1.st,by simp only [Kh];rw [if_neg (by simp)];exact h1,w1,rfl,h2⟩
end
end Go.Proofs.Ytjbdmibbbpdnnaa
