/-
  Part 33 of the proof that the statement FnNoShorterSolution holds.
-/
import Derived.Test.YtkkdpknjohcekaaGreatCFNoShorterSolution31
namespace Go.Proofs.YtkkdpknjohcekaaGreat
open Go.RowKit
section
variable {T:Tab} {Γ:Env}
def WS.OK (w:WS):Prop:= ∀t b,nW w.kn t=some b-> ∃fr,w.st.get t= .at (.data fr .bool b)
theorem mB: ∀(l:List (Nat×Bool)) (d t:Nat) (b:Bool),nW (xF l d) t=some b->t≠d/\nW l t=some b
 | [],_,_,_,h=>by cases h
 |(k,c)::r,d,t,b,h=>by
  simp only [xF] at h
  split at h
  ·rename_i hk
   have:=mB r d t b h
   refine ⟨this.1,?_⟩
   simp only [nW]
   rw [Ai (by rw [hk];exact λh=>this.1 h.symm)]
   exact this.2
  ·rename_i hk
   simp only [nW] at h⊢
   split at h
   ·rename_i hkt
    exact ⟨by rw [<-hkt];exact hk,by rw [Ab hkt];exact h⟩
   ·rename_i hkt
    rw [Ai hkt]
    exact mB r d t b h
theorem WS.OK.put {w:WS} (h:w.OK) (dst:Option Tmp) (v:AV):(w.put dst v).OK:=by
 cases dst with
 |none=>exact h
 |some d=>
  intro t b hb
  obtain ⟨h1,h2⟩:=mB _ _ _ _ hb
  obtain ⟨fr,h3⟩:=h t b h2
  exact ⟨fr,by show (w.st.put (some d) v).get t=_;rw [bV _ _ h1];exact h3⟩
theorem WS.uk (w:WS) (dst:Option Tmp) (v:AV):(w.put dst v).st=w.st.put dst v:=by cases dst<;>rfl
theorem WS.OK.to {w:WS} (h:w.OK) {s:St} (hs:Cj w.st s):(w.to s).OK:=by
 intro t b hb
 obtain ⟨fr,h3⟩:=h t b hb
 exact ⟨fr,hs t fr _ _ h3⟩
theorem xc {w:WS} (hw:w.OK) {t:Nat} {K:Bool->WS->Prop} (h:brT w t K):
  ∃fr b w',w.st.get t= .at (.data fr .bool b)/\w'.st=w.st/\w'.OK/\K b w':=by
 unfold brT at h
 split at h
 ·rename_i b hb
  obtain ⟨fr,h1⟩:=hw t b hb
  exact ⟨fr,b,w,h1,rfl,hw,h⟩
 ·split at h
  ·rename_i fr b hb
   obtain ⟨h1,h2⟩:=h
   have ok: ∀c:Bool,b=c->WS.OK {kn:=(t,c)::w.kn,st:=w.st} :=by
    intro c hc t' b' h'
    simp only [nW] at h'
    split at h'
    ·rename_i ht
     injection h' with h'
     exact ⟨fr,by rw [<-ht,<-h',<-hc];exact hb⟩
    ·exact hw t' b' h'
   cases b with
   |true=>exact ⟨fr,true, {kn:=(t,true)::w.kn,st:=w.st},hb,rfl,ok true rfl,h1 rfl⟩
   |false=>exact ⟨fr,false, {kn:=(t,false)::w.kn,st:=w.st},hb,rfl,ok false rfl,h2 rfl⟩
  ·cases h
theorem xb {w:WS} (hw:w.OK) {c:Operand} {K:Bool->WS->Prop} (h:brO w c K):
  ∃fr b w',w.st.ev c= .at (.data fr .bool b)/\w'.st=w.st/\w'.OK/\K b w':=by
 unfold brO at h
 split at h
 ·exact xc hw h
 ·exact ⟨true,_,w,rfl,rfl,hw,h⟩
 ·cases h
theorem JL {op:BinOp} {t:TypeId} {x y:AV} {K:AV->Prop} (h:Ah5 T op t x y K): ∃v,Uc T op t x y=some v/\K v:=by
 unfold Ah5 at h
 split at h
 ·split at h
  ·rename_i hk
   exact ⟨_,by simp only [Uc,evalBin,tF];rw [Ab hk,Ai h.1];rfl,h.2⟩
  ·cases h
 ·split at h
  ·rename_i hk
   exact ⟨_,by simp only [Uc,evalBin,tF];rw [Ab hk,Ai h.1];rfl,h.2⟩
  ·cases h
 ·exact ⟨_,by simp only [Uc,evalBin];rw [Ai h.1];rfl,h.2⟩
 ·exact ⟨_,by simp only [Uc,evalBin];rw [Ai h.1];rfl,h.2⟩
 ·exact ⟨_,by simp only [Uc,evalBin];rw [Ab h.1],h.2⟩
 ·exact By.1 h
theorem FE {st:St} {t:TypeId} {p:AV} {K:AV->Prop} (h:ZQ T st t p K): ∃v,Qu T st t p=some v/\K v:=by
 unfold ZQ at h
 split at h
 ·obtain ⟨τ,h1,h2⟩:=By.1 h
  split at h2
  ·rename_i hb
   split at h2
   ·rename_i he
    obtain ⟨x,h3,h4⟩:=h2
    exact ⟨_,by simp only [Qu,h1,hb,Ab he,h3];rfl,h4⟩
   ·cases h2
  ·rename_i hb
   split at h2
   ·rename_i he
    obtain ⟨x,h3,h4⟩:=h2
    exact ⟨_,by simp only [Qu,h1,hb,Ab he,h3];rfl,h4⟩
   ·cases h2
  ·rename_i hb
   split at h2
   ·cases h2
   ·rename_i he
    exact ⟨_,by simp only [Qu,h1,hb,Ai he],h2⟩
  ·cases h2
 ·obtain ⟨τ,h1,h2⟩:=By.1 h
  split at h2
  ·rename_i he
   obtain ⟨y,h3,h4⟩:=h2
   subst h3
   exact ⟨_,by simp only [Qu,h1,Ab he],h4⟩
  ·cases h2
 ·exact By.1 h
theorem pa {s:TypeId} {x:AV} {f:Nat} {K:AV->Prop} (h:mi T s x f K): ∃v,On T s x f=some v/\K v:=by
 unfold mi at h
 split at h
 ·obtain ⟨y,h1,h2⟩:=h
  subst h1
  obtain ⟨v,h3,h4⟩:=By.1 h2
  refine ⟨v,?_,h4⟩
  rw [<-h3]
  unfold On
  cases T.off s f<;>rfl
 ·exact By.1 h
theorem AH {st:St} {t:TypeId} {x:AV} {lo hi:Option AV} {K:AV->Prop} (h:NC T st t x lo hi K): ∃v,eo T st t x lo hi=some v/\K v:=by
 unfold NC at h
 obtain ⟨n,h1,h⟩:=By.1 h
 obtain ⟨l,h2,h⟩:=By.1 h
 obtain ⟨hh,h3,hc,h⟩:=By.1 h
 obtain ⟨v,h4,h5⟩:=By.1 h
 refine ⟨v,?_,h5⟩
 simp only [eo,h1,h2,h3,Ab hc]
 exact h4
theorem pj {st:St} {t:TypeId} {x i:AV} {K:AV->Prop} (h:my T st t x i K): ∃v,Lh T st t x i=some v/\K v:=by
 unfold my at h
 split at h
 ·split at h
  ·rename_i he
   obtain ⟨x,h3,h4⟩:=h
   exact ⟨_,by simp only [Lh,Ab he,h3];rfl,h4⟩
  ·cases h
 ·split at h
  ·rename_i hb
   split at h
   ·rename_i he
    obtain ⟨h3,h4⟩:=h
    exact ⟨_,by simp only [Lh,hb];rw [Ab ⟨he.1,he.2,Um.2 h3⟩],h4⟩
   ·cases h
  ·rename_i hb
   split at h
   ·rename_i he
    obtain ⟨h3,h4⟩:=h
    exact ⟨_,by simp only [Lh,hb];rw [Ab ⟨he.1,he.2,Um.2 h3⟩],h4⟩
   ·cases h
  ·rename_i hb
   split at h
   ·rename_i he
    obtain ⟨h3,h4⟩:=h
    exact ⟨_,by simp only [Lh,hb];rw [Ab ⟨he.1,he.2,Um.2 h3⟩],h4⟩
   ·cases h
  ·cases h
 ·split at h
  ·rename_i hb
   split at h
   ·rename_i he
    obtain ⟨h3,h4⟩:=h
    exact ⟨_,by simp only [Lh,hb];rw [Ab ⟨he,Um.2 h3⟩],h4⟩
   ·cases h
  ·cases h
 ·cases h
theorem zb {t:TypeId} {x i:AV} {K:AV->Prop} (h:KS T t x i K): ∃v,kr T t x i=some v/\K v:=by
 unfold KS at h
 split at h
 ·split at h
  ·rename_i he
   obtain ⟨h1,b,h3,h4⟩:=h
   exact ⟨_,by simp only [kr,Ab he,Ab h1,h3];rfl,h4⟩
  ·cases h
 ·cases h
theorem cH {st:St} {f:FuncId} {args:List AV} {K:AV->Prop} (h:xd Γ st f args K): ∃v,Pj Γ st f args=some v/\K v:=by
 unfold xd at h
 obtain ⟨s,h1,h⟩:=By.1 h
 have h1:Γ f=some (.q s):=by
  split at h1
  ·rename_i s' hs;injection h1 with h1;rw [hs,h1]
  ·cases h1
 split at h
 ·rename_i hf
  obtain ⟨p,h2,y,h3,h4⟩:=By.1 h
  refine ⟨_,?_,h4⟩
  simp only [Pj,h1]
  rw [Ab hf,h2]
  simp only [h3]
  rfl
 ·cases h
theorem yL {st:St} {v:AV} {args:List AV} {K:AV->Prop} (h:JO Γ st v args K): ∃u,Ye Γ st v args=some u/\K u:=by
 unfold JO at h
 split at h
 ·split at h
  ·rename_i hc
   split at h
   ·rename_i hf
    obtain ⟨u,h1,h2⟩:=cH h
    exact ⟨u,by simp only [Ye];rw [Ab hc,Ab (by simpa using hf)];exact h1,h2⟩
   ·rename_i hf
    obtain ⟨u,h1,h2⟩:=cH h
    exact ⟨u,by simp only [Ye];rw [Ab hc,Ai (λhx=>by rw [show Nat.blt _ 1000000000=true from by simpa using hx] at hf;cases hf)];exact h1,h2⟩
  ·cases h
 ·exact cH h
 ·cases h
theorem Qe {w:WS} (hw:w.OK) {x:Operand} {b:Bool} (hk:Wt w.kn x=some b): ∃fr,w.st.ev x= .at (.data fr .bool b):=by
 unfold Wt at hk
 split at hk
 ·injection hk with hk;subst hk;exact ⟨true,rfl⟩
 ·exact hw _ _ hk
 ·cases hk
theorem w6 {w:WS} (hw:w.OK) {o:Oper} {b:Bool} (hk:Hw w.kn o=some b) {v:AV} (he:Fc T Γ w.st o=some v): ∃fr,v= .at (.data fr .bool b):=by
 unfold Hw at hk
 split at hk
 ·rename_i heq;unfold Fc at he;rw [heq] at he;injection he with he;obtain ⟨fr,h⟩:=Qe hw hk;exact ⟨fr,he.symm.trans h⟩
 ·rename_i heq;unfold Fc at he;rw [heq] at he;injection he with he;obtain ⟨fr,h⟩:=Qe hw hk;exact ⟨fr,he.symm.trans h⟩
 ·rename_i x heq
  cases hx:Wt w.kn x with
  |none=>rw [hx] at hk;cases hk
  |some c=>
   rw [hx] at hk
   injection hk with hk
   obtain ⟨fr,h⟩:=Qe hw hx
   unfold Fc at he;rw [heq] at he
   simp only [h,yU,Py] at he
   injection he with he
   exact ⟨true,by rw [<-he,<-hk]⟩
 ·rename_i c x y heq
  unfold Fc at he;rw [heq] at he
  split at hk
  ·rename_i hc
   obtain ⟨fr,h⟩:=Qe hw hc
   simp only [h,ek,Qa] at he
   injection he with he
   obtain ⟨fr,h⟩:=Qe hw hk
   exact ⟨fr,he.symm.trans h⟩
  ·rename_i hc
   obtain ⟨fr,h⟩:=Qe hw hc
   simp only [h,ek,Cz,Ry] at he
   injection he with he
   obtain ⟨fr,h⟩:=Qe hw hk
   exact ⟨fr,he.symm.trans h⟩
  ·cases hk
 ·cases hk
theorem u9 {w:WS} (hw:w.OK) {o:Oper} {x:Operand} (ho:o.op= .assign x) {b:Bool} (hk:Hw w.kn o=some b) {v:AV} {s:St} (he:evalOp T Γ w.st o=some (v,s)): ∃fr,v= .at (.data fr .bool b):=by
 unfold Hw at hk
 rw [ho] at hk
 obtain ⟨fr,h⟩:=Qe hw hk
 unfold evalOp at he;rw [ho] at he
 simp only [h] at he
 injection he with he;injection he with he;exact ⟨fr,he.symm⟩
theorem jD {w:WS} (hw:w.OK) {o:Oper} {K:AV->WS->Prop} (h:qW T Γ w o K):
  ∃v w',Fc T Γ w.st o=some v/\w'.st=w.st/\w'.OK/\(∀b,Hw w'.kn o=some b-> ∃fr,v= .at (.data fr .bool b))/\K v w':=by
 have fin:(∃v w',Fc T Γ w.st o=some v/\w'.st=w.st/\w'.OK/\K v w')-> ∃v w',Fc T Γ w.st o=some v/\w'.st=w.st/\w'.OK/\(∀b,Hw w'.kn o=some b-> ∃fr,v= .at (.data fr .bool b))/\K v w':=by
  rintro ⟨v,w',h1,h2,h3,h4⟩
  exact ⟨v,w',h1,h2,h3,λb hb=>w6 h3 hb (by rw [h2];exact h1),h4⟩
 refine fin ?_
 unfold qW at h
 split at h
 ·rename_i c a b heq
  obtain ⟨fr,t,w',h1,h2,h3,h4⟩:=xb hw h
  cases t with
  |true=>exact ⟨_,w',by unfold Fc;rw [heq];simp only [h1,ek,Qa];rw [<-h2],h2,h3,h4⟩
  |false=>exact ⟨_,w',by unfold Fc;rw [heq];simp only [h1,ek];rw [<-h2];simp,h2,h3,h4⟩
 ·rename_i heq
  obtain ⟨v,h1,h2⟩:=FE h
  exact ⟨v,w,by unfold Fc;rw [heq];exact h1,rfl,hw,h2⟩
 ·rename_i heq
  obtain ⟨v,h1,h2⟩:=JL h
  exact ⟨v,w,by unfold Fc;rw [heq];exact h1,rfl,hw,h2⟩
 ·rename_i heq
  split at h
  ·obtain ⟨v,h1,h2⟩:=AH h
   exact ⟨v,w,by unfold Fc;rw [heq];simpa using h1,rfl,hw,h2⟩
  ·cases h
 ·rename_i heq
  obtain ⟨v,h1,h2⟩:=pj h
  exact ⟨v,w,by unfold Fc;rw [heq];exact h1,rfl,hw,h2⟩
 ·rename_i heq
  obtain ⟨v,h1,h2⟩:=zb h
  exact ⟨v,w,by unfold Fc;rw [heq];exact h1,rfl,hw,h2⟩
 ·rename_i heq
  obtain ⟨v,h1,h2⟩:=cH h
  exact ⟨v,w,by unfold Fc;rw [heq];exact h1,rfl,hw,h2⟩
 ·rename_i heq
  obtain ⟨v,h1,h2⟩:=yL h
  exact ⟨v,w,by unfold Fc;rw [heq];exact h1,rfl,hw,h2⟩
 ·rename_i heq
  obtain ⟨v,h1,h2⟩:=pa h
  exact ⟨v,w,by unfold Fc;rw [heq];exact h1,rfl,hw,h2⟩
 ·rename_i x heq
  unfold xM at h
  split at h
  ·rename_i fr τ z hx
   obtain ⟨y,h1,h2⟩:=h
   subst h1
   exact ⟨_,w,by unfold Fc;rw [heq];simp only [hx],rfl,hw,h2⟩
  ·obtain ⟨v,h1,h2⟩:=By.1 h
   exact ⟨v,w,h1,rfl,hw,h2⟩
 ·obtain ⟨v,h1,h2⟩:=By.1 h
  exact ⟨v,w,h1,rfl,hw,h2⟩
theorem BC {st:St} {t:TypeId} {p v:AV} {K:St->Prop} (h:NR T st t p v K): ∃s,Vg T st t p v=some s/\K s:=by
 unfold NR at h
 split at h
 ·obtain ⟨τ,h1,h⟩:=By.1 h
  obtain ⟨q,h2,h⟩:=By.1 h
  split at h
  ·rename_i hb
   obtain ⟨u,h3,h⟩:=By.1 h
   split at h
   ·rename_i hc
    obtain ⟨h4,h5⟩:=h
    obtain ⟨q1,q2⟩:=q
    obtain ⟨u1,u2⟩:=u
    exact ⟨_,by simp only [Vg,h1,h2,hb,h3];rw [Jq hc,Ab h4],h5⟩
   ·cases h
  ·cases h
 ·exact By.1 h
theorem wH {st:St} {t:TypeId} {p v:AV} {K:St->Prop} (h:AX T st t p v K): ∃s,Qh T st t p v=some s/\K s:=by
 unfold AX at h
 unfold Qh
 split at h
 rotate_left
 ·rename_i hg;rw [hg];exact BC h
 rename_i hg
 rw [hg]
 simp only
 unfold RD at h
 split at h
 ·obtain ⟨τ,h1,h⟩:=By.1 h
  obtain ⟨q,h2,h⟩:=By.1 h
  split at h
  ·rename_i hb
   obtain ⟨u,h3,h⟩:=By.1 h
   split at h
   ·rename_i hc
    obtain ⟨q1,q2⟩:=q
    obtain ⟨u1,u2⟩:=u
    exact ⟨_,by simp only [bT,h1,h2,hb,h3];rw [Jq hc],h⟩
   ·cases h
  ·cases h
 ·rename_i l j
  obtain ⟨τ,h1,h⟩:=By.1 h
  split at h
  ·rename_i e te rows out kp m off len hl _
   split at h
   ·rename_i fr tr e' tid xs hm
    split at h
    ·rename_i hc
     obtain ⟨h2,h3,h4,h5⟩:=h
     have h4:out=none\/out=some j:=by
      cases out with
      |none=>exact .inl rfl
      |some i=>exact .inr (Ga some h4)
     exact ⟨_,by simp only [bT,h1,hl,hm];rw [Jq ⟨hc.1,hc.2,h2,h3,h4⟩],h5⟩
    ·cases h
   ·cases h
  ·cases h
 ·cases h
theorem Zj {st:St} {d:Nat} {t:TypeId} {x y:Operand} {K:AV->St->Prop} (h:nd T st d t x y K): ∃v s,Om T st d t x y=some (v,s)/\K v s:=by
 unfold nd at h
 obtain ⟨te,h1,h⟩:=By.1 h
 obtain ⟨e,h2,h⟩:=By.1 h
 obtain ⟨q,h3,h⟩:=By.1 h
 obtain ⟨u,h4,h⟩:=By.1 h
 obtain ⟨q1,q2⟩:=q
 obtain ⟨u1,u2⟩:=u
 split at h
 ·rename_i hx
  split at h
  ·rename_i hd
   obtain ⟨h5,h6⟩:=h
   refine ⟨_,_,?_,h6⟩
   simp only [Om,h1,h2,h3,h4]
   rw [hx]
   simp only
   rw [Ab ⟨h5,by simpa [Nv] using hd⟩]
   simp
  ·cases h
 ·rename_i l off len hx
  split at h
  ·rename_i fr tr e' tid xs hb
   split at h
   ·rename_i hc
    obtain ⟨h5,h6,h7,h8⟩:=h
    refine ⟨_,_,?_,h8⟩
    simp only [Om,h1,h2,h3,h4]
    rw [hx]
    simp only [hb]
    rw [Jq ⟨hc.1,hc.2.1⟩,Ab ⟨h7,by simpa [Nv] using hc.2.2⟩]
    obtain ⟨hc1,hc2,hc3⟩:=hc
    subst hc1
    subst h5
    simp only [Fw,h6,Bd,As]
   ·cases h
  ·cases h
 ·cases h
theorem sC {st:St} {d:Nat} {t:TypeId} {x y:Operand} {K:AV->St->Prop} (h:sB T st d t x y K): ∃v s,Sd T st d t x y=some (v,s)/\K v s:=by
 unfold sB at h
 cases x with
 |tmp tx=>
  simp only at h
  unfold Sd
  simp only
  cases hg:st.get tx with
  | «at»c=>
   rw [hg] at h
   cases c with
   |sub l i c=>
    simp only at h⊢
    obtain ⟨tid,h1,h⟩:=By.1 h
    split at h
    ·rename_i hl
     split at h
     ·rename_i hc
      obtain ⟨v,s,h2,h3⟩:=Zj h
      refine ⟨v,s,?_,h3⟩
      simp only [hl,h1]
      rw [Ab hc]
      exact h2
     ·cases h
    ·cases h
   |_=>exact Zj h
  |_=>rw [hg] at h;exact Zj h
 |_=>exact Zj h
theorem FI {st:St} {d:Nat} {t:TypeId} {l c:AV} {K:AV->St->Prop} (h:ZV T st d t l c K): ∃v s,bR T st d t l c=some (v,s)/\K v s:=by
 unfold ZV at h
 split at h
 ·obtain ⟨te,h1,h⟩:=By.1 h
  obtain ⟨e,h2,h⟩:=By.1 h
  split at h
  ·rename_i hz
   obtain ⟨h3,h4,h5⟩:=h
   refine ⟨_,_,?_,h5⟩
   simp only [Af] at hz
   simp only [bR,h1,h2]
   rw [Ab ⟨Um.2 (by exact_mod_cast h3),h4,hz.1,by simpa [Nv] using hz.2⟩]
   simp
  ·cases h
 ·cases h
theorem zv {st:St} {d:Nat} {t:TypeId} {l c:AV} {K:AV->St->Prop} (h:LK T st d t l c K): ∃v s,Yf T st d t l c=some (v,s)/\K v s:=by
 unfold LK at h
 unfold Yf
 cases hg:eu T t with
 |none=>rw [hg] at h;exact FI h
 |some p=>
  obtain ⟨te,e⟩:=p
  rw [hg] at h
  simp only at h⊢
  split at h
  ·split at h
   ·rename_i hd
    obtain ⟨h3,h4,h5⟩:=h
    refine ⟨_,_,?_,h5⟩
    simp only
    rw [Ab ⟨Um.2 (by exact_mod_cast h3),h4,by simpa [Nv] using hd⟩]
    simp
   ·cases h
  ·cases h
theorem me {st:St} {d:Nat} {t:TypeId} {len:Nat} {parts:Array (Nat×Operand)} {K:AV->St->Prop} (h:fw T st d t len parts K): ∃v s,Js T st d t len parts=some (v,s)/\K v s:=by
 unfold fw at h
 unfold Js
 cases hg:eu T t with
 |none=>
  rw [hg] at h
  obtain ⟨r,h1,h2⟩:=By.1 h
  exact ⟨r.1,r.2,h1,h2⟩
 |some p=>
  obtain ⟨te,e⟩:=p
  rw [hg] at h
  simp only at h⊢
  split at h
  ·rename_i x hp
   split at h
   ·rename_i m off ln hx
    split at h
    ·rename_i hm
     split at h
     ·rename_i hc
      obtain ⟨h1,h2,h3⟩:=h
      refine ⟨_,_,?_,h3⟩
      simp only [hp,hx,hm]
      rw [Jq ⟨hc.1,hc.2,h1,h2⟩]
     ·cases h
    ·cases h
   ·cases h
  ·cases h
theorem sE {st:St} {d:Nat} {t:TypeId} {x y:Operand} {K:AV->St->Prop} (h:sD T st d t x y K): ∃v s,Se T st d t x y=some (v,s)/\K v s:=by
 unfold sD at h
 unfold Se
 cases hg:eu T t with
 |none=>rw [hg] at h;exact sC h
 |some p=>
  obtain ⟨te,e⟩:=p
  rw [hg] at h
  simp only at h⊢
  split at h
  ·rename_i l off len m Aa1 tQ hx hy
   split at h
   ·rename_i hl hm
    split at h
    ·rename_i hc
     obtain ⟨h1,h2,h3,h4,h5⟩:=h
     obtain ⟨⟨rfl,rfl⟩,hc⟩:=hc
     refine ⟨_,_,?_,h5⟩
     simp only [hx,hy,hl,hm]
     rw [Jq (⟨⟨trivial,trivial⟩,hc,h1,h2,h3,h4⟩)]
     simp
    ·cases h
   ·cases h
  ·cases h
theorem BH {st:St} {io:Bool} {k:Nat} {c:CK} {a:AC} {K:c.den->List (Nat×Loc)->Prop} (h:gC st io k c a K): ∃x t,Ms st io k c a=some (x,t)/\K x t:=by
 cases c with
 |Ec τ=>
  cases a with
  |own l off len=>
   obtain ⟨p,h1,h2⟩:=By.1 h
   exact ⟨_,_,by simp only [Ms];rw [h1];rfl,h2⟩
  |clo g Ee=>
   simp only [gC] at h
   split at h
   ·rename_i hc
    obtain ⟨p,h1,h2⟩:=By.1 h
    exact ⟨_,_,by simp only [Ms];rw [Ab hc,h1];rfl,h2⟩
   ·cases h
  |Hu l i=>
   simp only [gC] at h
   split at h
   ·rename_i hc
    obtain ⟨p,h1,h2⟩:=By.1 h
    exact ⟨_,_,by simp only [Ms];rw [Ab hc,h1];rfl,h2⟩
   ·cases h
  |sub l i c=>
   obtain ⟨p,h1,h2⟩:=By.1 h
   exact ⟨_,_,by simp only [Ms];rw [h1];rfl,h2⟩
  |_=>
   simp only [gC] at h
   split at h
   ·rename_i hc
    obtain ⟨p,h1,h2⟩:=By.1 h
    exact ⟨_,_,by simp only [Ms];rw [Ab hc,h1];rfl,h2⟩
   ·cases h
 |row e te=>
  cases a<;>simp only [gC] at h<;>first|(cases h;done)|skip
  ·exact ⟨_,_,rfl,h⟩
  ·split at h
   ·rename_i hl
    split at h
    ·rename_i hc
     obtain ⟨h1,h2,h3⟩:=h
     exact ⟨_,_,by simp only [Ms,hl];rw [Jq ⟨hc.1,hc.2,h1,h2⟩],h3⟩
    ·cases h
   ·cases h
  ·split at h
   ·rename_i hl
    split at h
    ·rename_i hc
     obtain ⟨y,h1,h2⟩:=h
     exact ⟨_,_,by simp only [Ms,hl];rw [Jq hc,h1];rfl,h2⟩
    ·cases h
   ·cases h
 |Ij e te=>
  cases a<;>simp only [gC] at h<;>first|(cases h;done)|skip
  ·exact ⟨_,_,rfl,h⟩
  ·split at h
   ·rename_i hl
    split at h
    ·rename_i hc
     obtain ⟨h1,h2,h3⟩:=h
     exact ⟨_,_,by simp only [Ms,hl];rw [Jq ⟨hc.1,hc.2,h1,h2⟩],h3⟩
    ·cases h
   ·cases h
  ·split at h
   ·rename_i hl
    split at h
    ·rename_i hc
     obtain ⟨y,h1,h2⟩:=h
     exact ⟨_,_,by simp only [Ms,hl];rw [Jq hc,h1];rfl,h2⟩
    ·cases h
   ·cases h
 |part e te=>
  cases a<;>simp only [gC] at h<;>first|(cases h;done)|skip
  split at h
  ·rename_i hl
   split at h
   ·rename_i hc
    exact ⟨_,_,by simp only [Ms,hl];rw [Jq hc],h⟩
   ·cases h
  ·cases h
 |Bo e te kp=>
  cases a<;>simp only [gC] at h<;>first|(cases h;done)|skip
  split at h
  ·rename_i hl
   split at h
   ·rename_i hc
    obtain ⟨h1,h2,h3⟩:=h
    exact ⟨_,_,by simp only [Ms,hl];rw [Jq ⟨hc.1,hc.2.1,h1,h2,hc.2.2⟩],h3⟩
   ·cases h
  ·cases h
theorem GY {st:St} {e:Ty} {ys:List e.den} {a:AC} {K:St->Prop} (h:Aap st e ys a K): ∃s,MN st e ys a=some s/\K s:=by
 cases a<;>simp only [Aap] at h<;>first|(cases h;done)|skip
 split at h
 ·rename_i hl
  split at h
  ·rename_i hc
   obtain ⟨h1,h3⟩:=h
   exact ⟨_,by simp only [MN,hl];rw [Jq ⟨hc,h1⟩],h3⟩
  ·cases h
 ·cases h
theorem lP {st:St} : ∀(cs:List (Bool×CK)) (k:Nat) (as:List AC) (K:Ins.den cs->List (Nat×Loc)->Prop),BI st k cs as K-> ∃x t,gD st k cs as=some (x,t)/\K x t
 | [],_,[],_,h=>⟨_,_,rfl,h⟩
 | [],_,_::_,_,h=>h.elim
 |_::_,_,[],_,h=>h.elim
 |p::r,k,a::as,K,h=>by
  obtain ⟨x,t1,h1,h2⟩:=BH h
  obtain ⟨y,t2,h3,h4⟩:=lP r (k+1) as _ h2
  exact ⟨_,_,by simp only [gD,h1,h3],h4⟩
theorem qG {st:St} {c:CK} {ys:c.den} {a:AC} {K:St->Prop} (h:qF st c ys a K): ∃s,cE st c ys a=some s/\K s:=by
 cases c with
 |Ec τ=>cases a<;>simp only [qF] at h<;>first|(cases h;done)|exact ⟨_,rfl,h⟩
 |row e te=>
  cases a<;>simp only [qF] at h<;>first|(cases h;done)|skip
  ·exact ⟨_,rfl,h⟩
  ·split at h
   ·rename_i hl
    split at h
    ·rename_i hc
     obtain ⟨h1,h3⟩:=h
     exact ⟨_,by simp only [cE,hl];rw [Jq ⟨hc,h1⟩],h3⟩
    ·cases h
   ·cases h
  ·split at h
   ·rename_i hl
    split at h
    ·rename_i hc
     obtain ⟨y,h1,h2,h3⟩:=h
     exact ⟨_,by simp only [cE,hl,Jq hc,h1];rw [Ab h2],h3⟩
    ·cases h
   ·cases h
 |Ij e te=>
  cases a<;>simp only [qF] at h<;>first|(cases h;done)|skip
  ·exact ⟨_,rfl,h⟩
  ·split at h
   ·rename_i hl
    split at h
    ·rename_i hc
     obtain ⟨h1,h3⟩:=h
     exact ⟨_,by simp only [cE,hl];rw [Jq ⟨hc,h1⟩],h3⟩
    ·cases h
   ·cases h
  ·split at h
   ·rename_i hl
    split at h
    ·rename_i hc
     obtain ⟨y,h1,h2,h3⟩:=h
     exact ⟨_,by simp only [cE,hl,Jq hc,h1];rw [Ab h2],h3⟩
    ·cases h
   ·cases h
 |part e te=>cases a<;>simp only [qF] at h<;>first|(cases h;done)|exact ⟨_,rfl,h⟩
 |Bo e te kp=>cases a<;>simp only [qF] at h<;>first|(cases h;done)|exact ⟨_,rfl,h⟩
theorem Qn: ∀(cs:List (Bool×CK)) (o:IOs.den cs) (as:List AC) (st:St) (K:St->Prop),jC cs o as st K-> ∃s,It cs o as st=some s/\K s
 | [],_,_,st,K,h=>⟨st,rfl,h⟩
 |(true, .Ec _)::r,o,[],st,K,h=>h.elim
 |(true, .row _ _)::r,o,[],st,K,h=>h.elim
 |(true, .Ij _ _)::r,o,[],st,K,h=>h.elim
 |(true, .part _ _)::r,o,[],st,K,h=>h.elim
 |(true, .Bo _ _ _)::r,o,[],st,K,h=>h.elim
 |(true, .Bo _ _ _)::r,o,a::as,st,K,h=>by
  obtain ⟨s,h1,h2⟩:=Qn r o as st K h
  exact ⟨s,by simp only [It];exact h1,h2⟩
 |(false,_)::r,o,[],st,K,h=>h.elim
 |(true, .Ec _)::r,o,a::as,st,K,h=>by
  obtain ⟨s,h1,h2⟩:=Qn r o as st K h
  exact ⟨s,by simp only [It];exact h1,h2⟩
 |(false,_)::r,o,a::as,st,K,h=>by
  obtain ⟨s,h1,h2⟩:=Qn r o as st K h
  exact ⟨s,by simp only [It];exact h1,h2⟩
 |(true, .row _ _)::r,o,a::as,st,K,h=>by
  obtain ⟨s1,h1,h2⟩:=qG h
  obtain ⟨s,h3,h4⟩:=Qn r o.2 as s1 K h2
  exact ⟨s,by simp only [It,h1];exact h3,h4⟩
 |(true, .part _ _)::r,o,a::as,st,K,h=>by
  obtain ⟨s1,h1,h2⟩:=GY h
  obtain ⟨s,h3,h4⟩:=Qn r o.2 as s1 K h2
  exact ⟨s,by simp only [It,h1];exact h3,h4⟩
 |(true, .Ij _ _)::r,o,a::as,st,K,h=>by
  obtain ⟨s1,h1,h2⟩:=qG h
  obtain ⟨s,h3,h4⟩:=Qn r o.2 as s1 K h2
  exact ⟨s,by simp only [It,h1];exact h3,h4⟩
theorem qR {H:List (Nat×OB)} {ls:List Nat} {n:Nat} {K:Prop} : ∀(l:List AV),uX H ls n l K->dP H ls n l=true/\K
 | [],h=>⟨rfl,h⟩
 |a::r,h=>by
  have go:uX H ls n r K->dP H ls n r=true/\K:=qR r
  cases a with
  | «at»c=>
   cases c with
   |sub l i c=>
    simp only [uX] at h
    simp only [dP]
    split at h
    ·rename_i hc
     obtain ⟨⟨h1,h2⟩,h3⟩:=h
     obtain ⟨g1,g2⟩:=go h3
     exact ⟨by simp only [hc,g1,Bool.and_true,Bool.not_true,Xh,Af,Nv];exact ⟨h1,h2⟩,g2⟩
    ·rename_i hc
     obtain ⟨g1,g2⟩:=go h
     exact ⟨by simp only [hc,g1,Bool.not_false,Bool.true_or,Bool.and_true],g2⟩
   |_=>exact go h
  |_=>exact go h
theorem yK {st:St} {d:Option Nat} {s:MSpec} {args:List AV} {K:AV->St->Prop} (h:JN st d s args K): ∃v s',Yd st d s args=some (v,s')/\K v s':=by
 unfold JN at h
 obtain ⟨⟨pl,cells,rest⟩,h0,h⟩:=By.1 h
 obtain ⟨as,h1,h⟩:=By.1 h
 obtain ⟨x,tks,h2,h⟩:=lP s.ins 0 (cells++as) _ h
 split at h
 ·rename_i hc
  obtain ⟨⟨r,o⟩,h3,h⟩:=h
  obtain ⟨st1,h4,h⟩:=Qn s.ins o (cells++as) st _ h
  obtain ⟨v,h5,h6⟩:=By.1 h
  obtain ⟨h7,h6⟩:=qR _ h6
  refine ⟨v,_,?_,h6⟩
  unfold Yd
  simp only [h0,h1,h2]
  rw [Ab hc]
  simp only [h3,h4,h5]
  rw [Ab h7]
 ·cases h
theorem TO {w:WS} (hw:w.OK) {o:Oper} {K:AV->WS->Prop} (h:opW T Γ w o K):
  ∃v w',evalOp T Γ w.st o=some (v,w'.st)/\w'.OK/\(∀b,Hw w'.kn o=some b-> ∃fr,v= .at (.data fr .bool b))/\K v w':=by
 have fin: ∀v s,(∀b,Hw w.kn o=some b-> ∃fr,v= .at (.data fr .bool b))->evalOp T Γ w.st o=some (v,s)->K v (w.to s)-> ∃v w',evalOp T Γ w.st o=some (v,w'.st)/\w'.OK/\(∀b,Hw w'.kn o=some b-> ∃fr,v= .at (.data fr .bool b))/\K v w':=
  fun v s hk h1 h2=>⟨v,w.to s,h1,hw.to (nC h1),hk,h2⟩
 have yW:(∀b v s,Hw w.kn o=some b->evalOp T Γ w.st o=some (v,s)-> ∃fr,v= .at (.data fr .bool b))->Ik (evalOp T Γ w.st o) (λr=>K r.1 (w.to r.2))-> ∃v w',evalOp T Γ w.st o=some (v,w'.st)/\w'.OK/\(∀b,Hw w'.kn o=some b-> ∃fr,v= .at (.data fr .bool b))/\K v w':=by
  intro hk h
  obtain ⟨r,h1,h2⟩:=By.1 h
  exact fin r.1 r.2 (λb hb=>hk b _ _ hb h1) h1 h2
 unfold opW at h
 split at h
 ·rename_i heq
  obtain ⟨s,h1,h2⟩:=wH h
  refine fin _ _ (λb hb=>by unfold Hw at hb;rw [heq] at hb;cases hb) ?_ h2
  unfold evalOp;rw [heq];simp only [h1];rfl
 ·rename_i heq
  obtain ⟨d,h1,h⟩:=By.1 h
  obtain ⟨v,s,h2,h3⟩:=zv h
  refine fin _ _ (λb hb=>by unfold Hw at hb;rw [heq] at hb;cases hb) ?_ h3
  unfold evalOp;rw [heq];simp only [h1,h2]
 ·rename_i heq
  split at h
  ·rename_i hd ha ht
   split at h
   ·rename_i Vj
    obtain ⟨v,s,h2,h3⟩:=sE h
    refine fin _ _ (λb hb=>by unfold Hw at hb;rw [heq] at hb;cases hb) ?_ h3
    unfold evalOp;rw [heq];simp only [hd,ha,ht,Ab Vj,h2]
   ·cases h
  ·cases h
 ·rename_i heq;exact yW (λb v s hb he=>u9 hw heq hb he) h
 ·rename_i heq;exact yW (λb v s hb he=>by unfold Hw at hb;rw [heq] at hb;cases hb) h
 ·rename_i heq;exact yW (λb v s hb he=>by unfold Hw at hb;rw [heq] at hb;cases hb) h
 ·rename_i heq
  obtain ⟨d,h1,h⟩:=By.1 h
  obtain ⟨v,s,h2,h3⟩:=me h
  refine fin _ _ (λb hb=>by unfold Hw at hb;rw [heq] at hb;cases hb) ?_ h3
  unfold evalOp;rw [heq];simp only [h1,h2]
 ·rename_i heq;exact yW (λb v s hb he=>by unfold Hw at hb;rw [heq] at hb;cases hb) h
 ·rename_i heq;exact yW (λb v s hb he=>by unfold Hw at hb;rw [heq] at hb;cases hb) h
 ·rename_i heq;exact yW (λb v s hb he=>by unfold Hw at hb;rw [heq] at hb;cases hb) h
 ·rename_i heq;exact yW (λb v s hb he=>by unfold Hw at hb;rw [heq] at hb;cases hb) h
 ·rename_i heq;exact yW (λb v s hb he=>by unfold Hw at hb;rw [heq] at hb;cases hb) h
 ·rename_i heq;exact yW (λb v s hb he=>by unfold Hw at hb;rw [heq] at hb;cases hb) h
 ·
  rename_i f _ _ heq
  split at h
  ·rename_i Po
   obtain ⟨v,s',h1,h2⟩:=yK h
   refine fin v s' (λb hb=>by unfold Hw at hb;rw [heq] at hb;cases hb) ?_ h2
   unfold evalOp;rw [heq];simp only [Po];exact h1
  ·rename_i s Po
   split at h
   ·rename_i QB
    obtain ⟨st1,hs,h⟩:=By.1 h
    obtain ⟨v,w',h1,h2,h3,h3',h4⟩:=jD (hw.to (Uo _ hs)) h
    refine ⟨v,w',?_,h3,h3',h4⟩
    have h1:Fc T Γ st1 o=some v:=h1
    have h2:w'.st=st1:=h2
    unfold evalOp
    rw [heq]
    simp only [Po,QB,hs,h1,h2]
    rfl
   ·rename_i QB
    obtain ⟨v,w',h1,h2,h3,h3',h4⟩:=jD hw h
    refine ⟨v,w',?_,h3,h3',h4⟩
    unfold evalOp
    rw [heq]
    simp only [Po,QB,h1,h2]
    rfl
  ·rename_i Axj Am8
   obtain ⟨v,w',h1,h2,h3,h3',h4⟩:=jD hw h
   refine ⟨v,w',?_,h3,h3',h4⟩
   unfold evalOp
   rw [heq]
   simp only
   rw [h1,h2];rfl
 ·rename_i n1 n2 n3 n4 n5 n6 n7 n8 n9 n10 n11 n12 n13 n14
  obtain ⟨v,w',h1,h2,h3,h3',h4⟩:=jD hw h
  refine ⟨v,w',?_,h3,h3',h4⟩
  unfold evalOp
  split
  all_goals first
   |(rw [h1,h2];rfl)
   |(rename_i hq;exact absurd hq (by first|exact n1 _|exact n2 _|exact n3 _|exact n4 _|exact n5 _|exact n6 _|exact n7 _|exact n8 _|exact n9 _|exact n10 _|exact n11 _|exact n12 _|exact n13 _|exact n14 _))
   |(rename_i hq;exact absurd hq (by first|exact n1 _ _|exact n2 _ _|exact n3 _ _|exact n4 _ _|exact n5 _ _|exact n6 _ _|exact n7 _ _|exact n8 _ _|exact n9 _ _|exact n10 _ _|exact n11 _ _|exact n12 _ _|exact n13 _ _|exact n14 _ _))
   |(rename_i hq;exact absurd hq (by first|exact n1 _ _ _|exact n2 _ _ _|exact n3 _ _ _|exact n4 _ _ _|exact n5 _ _ _|exact n6 _ _ _|exact n7 _ _ _|exact n8 _ _ _|exact n9 _ _ _|exact n10 _ _ _|exact n11 _ _ _|exact n12 _ _ _|exact n13 _ _ _|exact n14 _ _ _))
   |(rename_i hq;exact absurd hq (by first|exact n1 _ _ _ _|exact n2 _ _ _ _|exact n3 _ _ _ _|exact n4 _ _ _ _|exact n5 _ _ _ _|exact n6 _ _ _ _|exact n7 _ _ _ _|exact n8 _ _ _ _|exact n9 _ _ _ _|exact n10 _ _ _ _|exact n11 _ _ _ _|exact n12 _ _ _ _|exact n13 _ _ _ _|exact n14 _ _ _ _))
theorem yZ (st:St) (d:Nat) (v:AV):(st.put (some d) v).get d=v\/(st.put (some d) v).get d= .undef:=by
 simp only [St.put,St.get]
 rw [Rk]
 by_cases h:d<st.tmps.length
 ·exact .inl (by rw [Ab ⟨rfl,h⟩])
 ·refine .inr ?_
  rw [Ai (λhc=>h hc.2),Aj,Dm (by omega)]
  rfl
theorem WS.OK.wo {w:WS} (hw:w.OK) (o:Oper) (v:AV) (h: ∀b,Hw w.kn o=some b-> ∃fr,v= .at (.data fr .bool b)):(w.wo o v).OK/\(w.wo o v).st=w.st.put o.dst v:=by
 unfold WS.wo
 split
 ·rename_i d b hd hk
  split
  ·rename_i fr c hg
   refine ⟨?_,by rw [hd]⟩
   obtain ⟨Wh,hv⟩:=h b hk
   intro t b' hb
   simp only [nW] at hb
   split at hb
   ·rename_i ht
    injection hb with hb
    subst ht;subst hb
    refine ⟨Wh,?_⟩
    show (w.st.put (some d) v).get d=_
    cases yZ w.st d v with
    |inl h1=>rw [h1,hv]
    |inr h1=>rw [h1] at hg;cases hg
   ·exact hw.put (some d) v t b' hb
  ·exact ⟨hw.put _ _,by rw [WS.uk,hd]⟩
 ·exact ⟨hw.put _ _,WS.uk _ _ _⟩
theorem qQ {ops:Array Oper} {w:WS} (hw:w.OK) {o:Oper} {run:(AV->WS->Prop)->WS->Prop} {R:St->Option (AV×St)} {K:WS->Prop}
  (hr: ∀(k:AV->WS->Prop) (w:WS),w.OK->run k w-> ∃v w',R w.st=some (v,w'.st)/\w'.OK/\(∀b,Hw w'.kn o=some b-> ∃fr,v= .at (.data fr .bool b))/\k v w') (h:jX ops w o run K):
  ∃w',(match o.guard with
   |none=>(R w.st).map λr=>r.2.put o.dst r.1
   |some (j,want)=>match Xx w.st ((ops[j]?).bind (·.dst)) with
    |some (some b)=>if b==want then (R w.st).map λr=>r.2.put o.dst r.1 else some (w.st.put o.dst (.at .skip))
    |some none=>some (w.st.put o.dst (.at .skip))
    |none=>none)=some w'.st/\w'.OK/\K w':=by
 have go: ∀w:WS,w.OK->run (λv w'=>K (w'.wo o v)) w-> ∃w',((R w.st).map λr=>r.2.put o.dst r.1)=some w'.st/\w'.OK/\K w':=by
  intro w hw h
  obtain ⟨v,w',h1,h2,h3,h4⟩:=hr _ _ hw h
  obtain ⟨h5,h6⟩:=h2.wo o v h3
  exact ⟨w'.wo o v,by rw [h1,h6];rfl,h5,h4⟩
 unfold jX at h
 split at h
 ·rename_i hg
  rw [hg]
  exact go w hw h
 ·rename_i j want hg
  rw [hg]
  obtain ⟨t,h1,h⟩:=By.1 h
  simp only [h1]
  split at h
  ·rename_i hs
   have hsk:w.st.get t= .at .skip:=by
    unfold AV.ZM at hs
    split at hs
    ·assumption
    ·cases hs
   exact ⟨_,by simp only [Xx,hsk];rw [WS.uk],hw.put _ _,h⟩
  ·obtain ⟨fr,b,w',h2,h3,h4,h5⟩:=xc hw h
   have hb:Xx w.st (some t)=some (some b):=by simp only [Xx,h2]
   rw [hb]
   simp only
   cases b with
   |true=>
    cases want with
    |true=>rw [Ab (by decide),<-h3];exact go w' h4 h5
    |false=>exact ⟨_,by rw [Ai (by decide),<-h3,WS.uk],h4.put _ _,h5⟩
   |false=>
    cases want with
    |false=>rw [Ab (by decide),<-h3];exact go w' h4 h5
    |true=>exact ⟨_,by rw [Ai (by decide),<-h3,WS.uk],h4.put _ _,h5⟩
theorem ct {ops:Array Oper} {w:WS} (hw:w.OK) {o:Oper} {K:WS->Prop} (h:jX ops w o (λk w'=>opW T Γ w' o k) K): ∃w',Ey T Γ ops w.st o=some w'.st/\w'.OK/\K w':=by
 obtain ⟨w',h1,h2⟩:=qQ hw (R:= λst=>evalOp T Γ st o) (λk w hw h=>by
  obtain ⟨v,w',h1,h2,h2',h3⟩:=TO hw h
  exact ⟨v,w',h1,h2,h2',h3⟩) h
 exact ⟨w',h1,h2⟩
theorem XH {w:WS} (hw:w.OK) {o:Oper} {K:AV->WS->Prop} (h:bW T Γ w o K):
  ∃v w',Xn T Γ w.st o=some v/\w'.st=w.st/\w'.OK/\(∀b,Hw w'.kn o=some b-> ∃fr,v= .at (.data fr .bool b))/\K v w':=by
 unfold bW at h
 split at h
 ·rename_i t len parts sa
  obtain ⟨v,h1,h2⟩:=By.1 h
  exact ⟨v,w,by unfold Xn;rw [sa];exact h1,rfl,hw,λb hb=>by simp [Hw,sa] at hb,h2⟩
 ·rename_i t parts sa
  obtain ⟨v,h1,h2⟩:=By.1 h
  exact ⟨v,w,by unfold Xn;rw [sa];exact h1,rfl,hw,λb hb=>by simp [Hw,sa] at hb,h2⟩
 ·rename_i n1 n2
  obtain ⟨v,w',h1,h2⟩:=jD hw h
  refine ⟨v,w',?_,h2⟩
  rw [<-h1]
  unfold Xn
  split
  ·rename_i h9;exact absurd h9 (n1 _ _ _)
  ·rename_i h9;exact absurd h9 (n2 _ _)
  ·rfl
theorem Aeq {ops:Array Oper} {w:WS} (hw:w.OK) {o:Oper} {K:WS->Prop} (h:jX ops w o (λk w'=>bW T Γ w' o k) K): ∃v w',Xk T Γ ops w.st o=some v/\w'.st=w.st.put o.dst v/\w'.OK/\K w':=by
 obtain ⟨w',h1,h2,h3⟩:=qQ hw (R:= λst=>(Xn T Γ st o).map λv=>(v,st)) (λk w hw h=>by
  obtain ⟨v,w',h1,h2,h3,h3',h4⟩:=XH hw h
  exact ⟨v,w',by simp only [h1,h2];rfl,h3,h3',h4⟩) h
 have key: ∀u:Option AV,((u.map λv=>(v,w.st)).map λr=>r.2.put o.dst r.1)=some w'.st-> ∃v,u=some v/\w'.st=w.st.put o.dst v:=by
  intro u hu
  cases u with
  |none=>cases hu
  |some v=>injection hu with hu;exact ⟨v,rfl,hu.symm⟩
 unfold Xk
 split at h1
 ·rename_i hg
  obtain ⟨v,h4,h5⟩:=key _ h1
  exact ⟨v,w',by rw [hg];exact h4,h5,h2,h3⟩
 ·rename_i j want hg
  rw [hg]
  split at h1
  ·rename_i b hb
   simp only [hb]
   split at h1
   ·rename_i YA
    obtain ⟨v,h4,h5⟩:=key _ h1
    exact ⟨v,w',by rw [Ab YA];exact h4,h5,h2,h3⟩
   ·rename_i YA
    injection h1 with h1
    exact ⟨_,w',by rw [Ai YA],h1.symm,h2,h3⟩
  ·rename_i hb
   simp only [hb]
   injection h1 with h1
   exact ⟨_,w',rfl,h1.symm,h2,h3⟩
  ·cases h1
theorem ua {ops:Array Oper} : ∀(l:List Oper) {w:WS} (_:w.OK) {K:WS->Prop},Aj1 T Γ ops l w K-> ∃w',aU T Γ ops l w.st=some w'.st/\w'.OK/\K w'
 | [],w,hw,K,h=>⟨w,rfl,hw,h⟩
 |o::r,w,hw,K,h=>by
  obtain ⟨w1,h1,h2,h3⟩:=ct hw h
  obtain ⟨w2,h4,h5⟩:=ua r h2 h3
  exact ⟨w2,by simp only [aU];rw [h1];exact h4,h5⟩
theorem fN {ops:Array Oper} : ∀(l:List Nat) {w:WS} (_:w.OK) {K:WS->Prop},ZC T Γ ops l w K-> ∃w',Nj T Γ ops l w.st=some w'.st/\w'.OK/\K w'
 | [],w,hw,K,h=>⟨w,rfl,hw,h⟩
 |i::r,w,hw,K,h=>by
  obtain ⟨o,h0,h⟩:=By.1 h
  obtain ⟨w1,h1,h2,h3⟩:=ct hw h
  obtain ⟨w2,h4,h5⟩:=fN r h2 h3
  exact ⟨w2,by simp only [Nj];rw [h0];simp only [h1];exact h4,h5⟩
theorem Oc {ops:Array Oper} : ∀(l:List Nat) {w:WS} (_:w.OK) {K:WS->Prop},lk T Γ ops l w K-> ∃w',Ge T Γ ops l w.st=some w'.st/\w'.OK/\K w'
 | [],w,hw,K,h=>⟨w,rfl,hw,h⟩
 |i::r,w,hw,K,h=>by
  obtain ⟨o,h0,h⟩:=By.1 h
  obtain ⟨v,w1,h1,h1',h2,h3⟩:=Aeq hw h
  obtain ⟨w2,h4,h5⟩:=Oc r h2 h3
  exact ⟨w2,by simp only [Ge];rw [h0];simp only [h1];rw [<-h1'];exact h4,h5⟩
theorem nb {P:Nat->Prop} : ∀(l:List Nat),XE l P-> ∀i∈l,P i
 | [],_,i,hi=>by cases hi
 | [k],h,i,hi=>by rw [Ad.1 hi];exact h
 |k::j::r,h,i,hi=>by
  rcases Bg.1 hi with rfl|hi
  ·exact h.1
  ·exact nb (j::r) h.2 i hi
theorem ma {ops:Array Oper} {K:WS->Prop} : ∀(f:Nat) (Ah:Array Bool) {w:WS} (_:w.OK),RT T Γ ops f Ah w K->anyS T Γ ops (λs=> ∃w':WS,w'.st=s/\w'.OK/\K w') f Ah w.st
 |0,Ah,w,hw,h=>by
  unfold RT at h
  split at h
  ·rename_i hr;exact ⟨hr,w,rfl,hw,h⟩
  ·cases h
 |f+1,Ah,w,hw,h=>by
  unfold RT at h
  split at h
  ·cases h
  ·rename_i i r hr
   refine ⟨by rw [hr];simp,λk hk=>?_⟩
   rw [hr] at hk
   obtain ⟨o,h0,h1⟩:=By.1 (nb _ h k hk)
   obtain ⟨w1,h2,h3,h4⟩:=ct hw h1
   exact ⟨o,w1.st,h0,h2,ma f _ h3 h4⟩
theorem dU: ∀(l:List Oper) (d:Nat),d∈Lg l-> ∃o∈l,o.dst=some d
 | [],d,h=>by simp [Lg] at h
 |o::r,d,h=>by
  simp only [Lg] at h
  cases ho:o.dst with
  |none=>
   rw [ho] at h
   obtain ⟨o',h1,h2⟩:=dU r d (by simpa using h)
   exact ⟨o',Ao _ h1,h2⟩
  |some e=>
   rw [ho] at h
   rcases Bg.1 (by simpa using h) with h|h
   ·exact ⟨o,by simp,by rw [ho,h]⟩
   ·obtain ⟨o',h1,h2⟩:=dU r d h
    exact ⟨o',Ao _ h1,h2⟩
theorem nF {ops:Array Oper} {K:WS->Prop} : ∀(f:Nat) (Ah:Array Bool) {w:WS} (_:w.OK),bU T Γ ops f Ah w K-> ∃w':WS,Ft (λt=>Te ops t=true) w.st w'.st/\w'.OK/\K w'
 |0,Ah,w,hw,h=>by
  simp only [bU] at h
  split at h
  ·exact ⟨w,λ_ _ _ _ _ hx=>hx,hw,h⟩
  ·exact h.elim
 |f+1,Ah,w,hw,h=>by
  simp only [bU] at h
  split at h
  ·exact h.elim
  ·obtain ⟨o,ho,h1⟩:=By.1 h
   obtain ⟨w',h2,h3,h4⟩:=ct hw h1
   obtain ⟨w2,g1,g2⟩:=nF f _ h3 h4
   refine ⟨w2,((bS h2).mono λt ht hd=>?_).trans g1,g2⟩
   unfold Te Zg at ht
   have:(ops.toList.any λo=>o.dst==some t)=true:=Fh.2 ⟨o,pw ho,by rw [hd];exact beq_self_eq_true _⟩
   rw [this] at ht
   cases ht
theorem mH (p:Nat->Bool): ∀(i:Nat) (l0 l1:List AV),(∀t,(l0.getD t .undef).Ym=true->p (i+t)=true->l1.getD t .undef=l0.getD t .undef)->
  Vn (Lb p i l0) l0 (Uf (Lb p i l0) l1)=l1
 |_,[],l1,_=>by simp [Lb,Uf,Vn]
 |i,a::r,[],_=>by
  simp only [Lb]
  cases (a.Ym&&p i)<;>simp [Uf,Vn]
 |i,a::r,b::s,h=>by
  have hr:=mH p (i+1) r s λt h1 h2=>by
   have:=h (t+1) (by simpa using h1) (by rw [show i+(t+1)=i+1+t by omega];exact h2)
   simpa using this
  simp only [Lb]
  cases hc:(a.Ym&&p i) with
  |false=>simp only [Uf,Vn];rw [hr]
  |true=>
   simp only [Uf,Vn]
   rw [hr]
   simp only [Af] at hc
   have:=h 0 (by simpa using hc.1) hc.2
   simp only [Xt] at this
   rw [this]
theorem fS: ∀(f:List Bool) (l:List AV),(Uf f l).length=l.length
 | [],l=>by simp [Uf]
 |true::f,[]=>by simp [Uf]
 |false::f,[]=>by simp [Uf]
 |true::f,a::l=>by simp [Uf,fS f l]
 |false::f,a::l=>by simp [Uf,fS f l]
theorem SG {p:Nat->Bool} {w1 s0 s:St} (h1:Ft (λt=>p t=true) w1 s0) (h2:Ft (λt=>p t=true) w1 s) (h:eqM (Lb p 0 w1.tmps) s0 s):s=s0:=by
 have e:=eg h
 simp only [St.mask,St.mk.injEq] at e
 have key: ∀ {a:St},Ft (λt=>p t=true) w1 a->Vn (Lb p 0 w1.tmps) w1.tmps (Uf (Lb p 0 w1.tmps) a.tmps)=a.tmps:= λ {a} ha=>mH p 0 _ _ λt ht hp=>by
  rw [Ce] at hp
  cases hc:w1.tmps.getD t .undef with
  | «at»c=>
   cases c with
   |data fr τ x=>exact ha t fr τ x hp hc
   |_=>rw [hc] at ht;cases ht
  |_=>rw [hc] at ht;cases ht
 have e1:=key h1
 have e2:=key h2
 rw [e.1,e1] at e2
 obtain ⟨_,e4⟩:=e
 cases s;cases s0
 simp only at e2 e4
 rw [e4,e2]
theorem aW {ops:Array Oper} {K:WS->Prop} : ∀(f:Nat) (Ah:Array Bool) {w:WS} (_:w.OK),bU T Γ ops f Ah w K-> ∃w':WS,w'.OK/\K w'
 |0,Ah,w,hw,h=>by
  simp only [bU] at h
  split at h
  ·exact ⟨w,hw,h⟩
  ·exact h.elim
 |f+1,Ah,w,hw,h=>by
  simp only [bU] at h
  split at h
  ·exact h.elim
  ·obtain ⟨o,ho,h1⟩:=By.1 h
   obtain ⟨w',h2,h3,h4⟩:=ct hw h1
   exact aW f _ h3 h4
theorem q6 {P:List (Nat×Nat×AV×OB)} {ops:Array Oper} {K:WS->Prop} : ∀(f:Nat) (Ah:Array Bool) {w:WS} (_:w.OK),CN T Γ P ops f Ah w K->Ah4 T Γ ops P (λs=> ∃w':WS,w'.st=s/\w'.OK/\K w') f Ah w.st
 |0,Ah,w,hw,h=>by
  unfold CN at h
  split at h
  ·rename_i hr;exact ⟨hr,w,rfl,hw,h⟩
  ·cases h
 |f+1,Ah,w,hw,h=>by
  unfold CN at h
  split at h
  ·cases h
  ·rename_i i r hr
   refine ⟨by rw [hr];simp,λk hk=>?_⟩
   rw [hr] at hk
   obtain ⟨o,h0,h1⟩:=By.1 (nb _ h k hk)
   split at h1
   ·rename_i dX
    obtain ⟨w1,h2,h3,h4⟩:=ct hw h1
    exact ⟨o,w1.st,h0,dX,h2,q6 f _ h3 h4⟩
   ·cases h1
theorem FU {α:Type} (f:α->Nat) {l:List α} (h:az (l.map f)=true):l.Pairwise λa c=>f a≠f c:=List.pairwise_map.1 (Yo h)
theorem dh {ops:Array Oper} {E:List Nat} {Ah:Array Bool} {w:WS} (hw:w.OK): ∀(R:List Nat) {K:Prop},yo T Γ ops E Ah w R K->K/\ ∀r∈R,sn ops E Ah r=true\/ ∃o v,ops[r]?=some o/\Xk T Γ ops w.st o=some v/\ ∀d,o.dst=some d->w.st.get d=v
 | [],K,h=>⟨h,λr hr=>by cases hr⟩
 |r::R,K,h=>by
  unfold yo at h
  split at h
  ·rename_i hwt
   obtain ⟨h1,h2⟩:=dh hw R h
   refine ⟨h1,λq hq=>?_⟩
   rcases Bg.1 hq with rfl|hq
   ·exact .inl hwt
   ·exact h2 q hq
  ·obtain ⟨h0,h⟩:=h
   obtain ⟨h1,h2⟩:=dh hw R h
   refine ⟨h1,λq hq=>?_⟩
   rcases Bg.1 hq with rfl|hq
   ·refine .inr ?_
    obtain ⟨w',g1,_,g3⟩:=Oc _ hw h0
    obtain ⟨d,hd,g4⟩:=By.1 g3
    simp only [Ge] at g1
    split at g1
    ·cases g1
    rename_i o ho
    split at g1
    rotate_left
    ·cases g1
    rename_i v hv
    refine ⟨o,v,ho,hv,λd' xr=>?_⟩
    rw [ho] at hd
    have hdd:o.dst=some d:=hd
    rw [xr] at hdd
    cases hdd
    split at g4
    ·rename_i hl
     have e:=eg g4
     have e1:w'.st.get d=w.st.get d:=by
      have:=Ga (λs:St=>s.tmps) e
      simpa using this
     rw [<-e1]
     have e2:w.st.put o.dst v=w'.st:=Bc g1
     rw [<-e2,show o.dst=some d from hd]
     show (Td w.st.tmps d v).getD d .undef=v
     rw [Rk,Ab ⟨rfl,by simpa [Nv] using hl⟩]
    ·cases g4
   ·exact h2 q hq
theorem cG {ops:Array Oper} {E:List Nat} {K:WS->Prop} : ∀(f:Nat) (Ah:Array Bool) {w:WS} (_:w.OK),sy T Γ ops E f Ah w K->r8 T Γ ops E (λs=> ∃w':WS,w'.st=s/\w'.OK/\K w') f Ah w.st
 |0,Ah,w,hw,h=>by
  unfold sy at h
  obtain ⟨h,hs⟩:=dh hw _ h
  split at h
  ·rename_i hr;exact ⟨hs,hr,w,rfl,hw,h⟩
  ·cases h
 |f+1,Ah,w,hw,h=>by
  unfold sy at h
  obtain ⟨h,hs⟩:=dh hw _ h
  split at h
  ·cases h
  ·rename_i i r hr
   refine ⟨hs,by rw [hr];simp,λk hk=>?_⟩
   rw [hr] at hk
   obtain ⟨o,h0,h1⟩:=By.1 (nb _ h k hk)
   obtain ⟨w1,h2,h3,h4⟩:=ct hw h1
   exact ⟨o,w1.st,h0,h2,cG f _ h3 h4⟩
theorem zS {ops:Array Oper} {E:List Nat} {L0:Array Bool} {n:Nat} {w:WS} (hw:w.OK) {K:WS->Prop} (h:MP T Γ E n L0 ops w K):Ad4 T Γ ops (λs=> ∃w':WS,w'.st=s/\w'.OK/\K w') n L0 w.st:=by
 unfold MP at h
 split at h
 ·rename_i hb
  simp only [Af] at hb
  obtain ⟨b1,b2,b3⟩:=hb
  obtain ⟨w1,h1,h2,h3⟩:=Oc _ hw h
  have h3:=Oo.1 h3
  obtain ⟨w0,g1,g2⟩:=aW _ _ h2 h3
  obtain ⟨g3,g4⟩:=Oo.1 g2
  refine ⟨E,w1.st,b1,Nat.le_of_ble_eq_true b2,h1,bm (λs hs=>?_) _ _ _ (cG _ _ h2 g4)⟩
  obtain ⟨w',h5,_,h6⟩:=hs
  exact ⟨w0,((h5.symm.trans (eg (Oo.1 h6))).symm),g1,g3⟩
 ·cases h
theorem dS {ops:Array Oper} {t:Nat} :Te ops t=true->t∉Lg ops.toList:= λh hm=>by
 obtain ⟨o,ho,hd⟩:=dU _ _ hm
 unfold Te Zg at h
 have:(ops.toList.any λo=>o.dst==some t)=true:=Fh.2 ⟨o,ho,by rw [hd];exact beq_self_eq_true _⟩
 rw [this] at h
 cases h
theorem CO {ops:Array Oper} {E:List Nat} {K:St->Prop} (s0:St) (f:Nat) (Ah:Array Bool) (st:St) (hk:Ft (λt=>Te ops t=true) s0 st) (h:r8 T Γ ops E K f Ah st):
  r8 T Γ ops E (λs=>K s/\Ft (λt=>Te ops t=true) s0 s) f Ah st:=by
 have h1:=m9 (draw:=true) st f Ah st (λ_ _ _ _ _ hx=>hx) h
 exact bm (λs hs=>⟨hs.1,hk.trans (hs.2.mono λt ht=>dS ht)⟩) _ _ _ h1
theorem WS.OK.Rb {w:WS} (hw:w.OK) (dead:List Nat):(w.Rb dead).OK:=by
 intro t b hb
 have key: ∀(l:List (Nat×Bool)),nW (l.filter λp=>!dead.contains p.1) t=some b->dead.contains t=false/\nW l t=some b:=by
  intro l
  induction l with
  |nil=>intro h;cases h
  |cons q r ih=>
   intro h
   obtain ⟨k,c⟩:=q
   by_cases hk:dead.contains k=true
   ·rw [List.filter_cons_of_neg (by rw [hk];decide)] at h
    obtain ⟨h1,h2⟩:=ih h
    refine ⟨h1,?_⟩
    unfold nW
    rw [Ai (λe=>by subst e;rw [h1] at hk;cases hk)]
    exact h2
   ·have hk:dead.contains k=false:=by simpa using hk
    rw [List.filter_cons_of_pos (by rw [hk];rfl)] at h
    unfold nW at h⊢
    split at h
    ·rename_i e
     subst e
     rw [Ab rfl]
     exact ⟨hk,h⟩
    ·rename_i e
     rw [Ai e]
     exact ih h
 obtain ⟨h1,h2⟩:=key _ hb
 obtain ⟨fr,h3⟩:=hw t b h2
 refine ⟨fr,?_⟩
 show (w.st.Rb dead).get t=_
 unfold St.Rb
 refine Un _ _ t fr _ _ ?_
 show (Ja _ 0 w.st.tmps).getD t .undef=_
 rw [Wd _ 0 w.st.tmps t ?_]
 ·exact h3
 ·refine Bw.2 ⟨Dl.2 ?_,by rw [Ce,h1];rfl⟩
  refine Bx λhn=>?_
  have:w.st.get t= .undef:=by
   unfold St.get
   rw [Aj,Dm (by omega)];rfl
  rw [h3] at this
  cases this
theorem FY {ops:Array Oper} {dead E:List Nat} (b3:dead.all (Zg ops)=true) {L0:Array Bool} {n:Nat} {w:WS} (hw:w.OK) {K:WS->Prop} (h:Aa3 T Γ dead E n L0 ops w K):Ad4 T Γ ops (λs=> ∃w':WS,w'.st=s.Rb dead/\w'.OK/\K w') n L0 w.st:=by
 unfold Aa3 at h
 split at h
 ·rename_i hb
  simp only [Af] at hb
  obtain ⟨b1,b2⟩:=hb
  obtain ⟨w1,h1,h2,h3⟩:=Oc _ hw h
  have h3:=Oo.1 h3
  refine ⟨E,w1.st,b1,Nat.le_of_ble_eq_true b2,h1,?_⟩
  split at h3
  ·refine bm (λs hs=>?_) _ _ _ (cG _ _ h2 h3)
   obtain ⟨w',h5,h6,h7⟩:=hs
   exact ⟨w'.Rb dead,by rw [<-h5];rfl,h6.Rb _,h7⟩
  ·rw [fK] at h3
   obtain ⟨w0,g0,g1,g2⟩:=nF _ _ h2 h3
   obtain ⟨g3,g4⟩:=Oo.1 g2
   refine bm (λs hs=>?_) _ _ _ (CO w1.st _ _ _ (λ_ _ _ _ _ hx=>hx) (cG _ _ h2 g4))
   obtain ⟨⟨w',h5,_,h6⟩,h7⟩:=hs
   have h6:=Oo.1 h6
   have k1:Ft (λt=>Te ops t=true) w1.st (w0.Rb dead).st:=g0.trans ((jq b3 w0.st).mono λt ht=>dS ht)
   have k2:Ft (λt=>Te ops t=true) w1.st (w'.Rb dead).st:=by
    show Ft _ w1.st (w'.st.Rb dead)
    rw [h5]
    exact h7.trans ((jq b3 s).mono λt ht=>dS ht)
   have e:=SG k1 k2 h6
   refine ⟨w0.Rb dead,?_,g1.Rb _,g3⟩
   rw [<-e,<-h5]
   rfl
 ·cases h
theorem vD {ops:Array Oper} {L0:Array Bool} {n:Nat} {w:WS} (hw:w.OK) {K:WS->Prop} (hc:Ul ops L0) (h:yJ T Γ (Zt T ops L0) n L0 ops w K):anyS T Γ ops (λs=> ∃w':WS,w'.st=s/\w'.OK/\K w') n L0 w.st\/Ad4 T Γ ops (λs=> ∃w':WS,w'.st=s/\w'.OK/\K w') n L0 w.st:=by
 unfold yJ at h
 split at h
 ·rename_i hb
  simp only [Af] at hb
  obtain ⟨⟨b1,b2⟩,b3,b4,b5⟩:=hb
  have hm: ∀a∈Zt T ops L0,a.1∈Region.ready .any ops L0/\ ∃o,ops[a.1]?=some o/\fp T o=some a.2:= λa ha=>yE ha
  have p1:=FU (λa:Nat×Nat×AV×OB=>a.1) b1
  have p2:=FU (λa:Nat×Nat×AV×OB=>a.2.1) b2
  have hlen:(Zt T ops L0).length<=n:=Nat.le_of_ble_eq_true b4
  obtain ⟨w1,h1,h2,h3⟩:=fN _ hw h
  have h3:=Oo.1 h3
  obtain ⟨w0,g1,g2⟩:=aW _ _ h2 h3
  obtain ⟨g3,g4⟩:=Oo.1 g2
  have hp:=GR (Γ:=Γ) _ w.st w1.st (λa ha=>(hm a ha).2) (λa ha=>u5 (Az.1 b3 a ha)) p2 h1
  refine .inl (km (λs hs=>?_) _ _ _ (RS (λa ha=>(hm a ha).2) n (n-(Zt T ops L0).length) (Zt T ops L0) _ L0 w1.st w.st (by omega) (q6 _ _ h2 g4) hp
   (Ad7 (ops:=ops) λi hi=>by obtain ⟨a,ha,rfl⟩:=Bi.1 hi;exact (hm a ha).1) (λa ha=>ha) (p2.and p1) hc λa ha x hx=>cX (hm a ha).1 hx))
  obtain ⟨w',h5,_,h6⟩:=hs
  exact ⟨w0,((h5.symm.trans (eg h6)).symm),g1,g3⟩
 ·exact .inr (zS hw h)
theorem lH {ops:Array Oper} {draw:Bool} {w:WS} (hw:w.OK) {K:WS->Prop} (h:sk T Γ ops draw w K):kY T Γ ops draw w.st (λs=> ∃w':WS,w'.st=s/\w'.OK/\K w'):=by
 unfold sk at h
 split at h
 ·split at h
  ·rename_i ho
   obtain ⟨w1,h1,h2,h3⟩:=Oc _ hw h
   obtain ⟨w2,h4,h5⟩:=fN _ h2 h3
   exact .inl ⟨w2.st,by simp only [Sh,Qa];rw [Ab ho,h1];exact h4,w2,rfl,h5⟩
  ·rename_i ho
   split at h
   ·rename_i ho2
    obtain ⟨w1,h1,h2,h3⟩:=Oc _ hw h
    obtain ⟨w2,h4,h5⟩:=fN _ h2 h3
    exact .inl ⟨w2.st,by simp only [Sh,Qa];rw [Ai (by rw [ho];decide),Ab ho2,h1];exact h4,w2,rfl,h5⟩
   ·split at h
    ·rename_i hc
     simp only [Af] at hc
     obtain ⟨w1,h1,h2,h3⟩:=Oc _ hw h
     split at h3
     ·exact .inr ⟨rfl,hc.1,w1.st,h1, .inl (ma _ _ h2 h3)⟩
     ·obtain ⟨w0,g1,g2⟩:=aW _ _ h2 h3
      obtain ⟨g3,g4⟩:=Oo.1 g2
      exact .inr ⟨rfl,hc.1,w1.st,h1, .inl (km (λs hs=>by
       obtain ⟨w',h5,_,h6⟩:=hs
       exact ⟨w0,((h5.symm.trans (eg h6)).symm),g1,g3⟩) _ _ _ (ma _ _ h2 g4))⟩
    ·split at h
     ·rename_i QB
      obtain ⟨w1,h1,h2,h3⟩:=Oc _ hw h
      exact .inr ⟨rfl,QB,w1.st,h1,vD h2 (aS _ _ _ qb) h3⟩
     ·cases h
 ·obtain ⟨w1,h1,h2⟩:=ua _ hw h
  exact .inl ⟨w1.st,by simp only [Sh];rw [Ai (by simp)];exact h1,w1,rfl,h2⟩
theorem wq {ops:Array Oper} {draw:Bool} {w:WS} (hw:w.OK) {K:WS->Prop} (h:zV T Γ ops draw w K):yz T Γ ops draw w.st (λs=> ∃w':WS,w'.st=s/\w'.OK/\K w'):=by
 unfold zV at h
 split at h
 ·rename_i hb
  have b3:=(Bj.1 hb).2
  refine .inr ⟨vg ops,b3,?_⟩
  split at h
  ·rename_i hc
   simp only [Af,Aa2] at hc
   obtain ⟨w1,h1,h2,h3⟩:=Oc _ hw h
   exact .inr ⟨hc.1,hc.2.2.1,w1.st,h1, .inr (FY b3 h2 h3)⟩
  ·exact (lH hw h).mono λs ⟨w',h1,h2,h3⟩=>⟨w'.Rb (vg ops),by rw [<-h1];rfl,h2.Rb _,h3⟩
 ·exact .inl (lH hw h)
end
end Go.Proofs.YtkkdpknjohcekaaGreat
