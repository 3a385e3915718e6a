/-
  Part 33 of the proof that the statement FnTwoPhase holds.
-/
import Derived.Test.YtkkdpknjohcekaaCFTwoPhase31
namespace Go.Proofs.Ytkkdpknjohcekaa
open Go.RowKit
section
variable {T:Tab} {Γ:Env}
def WS.OK (w:WS):Prop:= ∀t b,o3 w.kn t=some b-> ∃fr,w.st.get t= .at (.data fr .bool b)
theorem mu: ∀(l:List (Nat×Bool)) (d t:Nat) (b:Bool),o3 (xE l d) t=some b->t≠d/\o3 l t=some b
 | [],_,_,_,h=>by cases h
 |(k,c)::r,d,t,b,h=>by
  simp only [xE] at h
  split at h
  ·rename_i hk
   have:=mu r d t b h
   refine ⟨this.1,?_⟩
   simp only [o3]
   rw [Ai (by rw [hk];exact λh=>this.1 h.symm)]
   exact this.2
  ·rename_i hk
   simp only [o3] at h⊢
   split at h
   ·rename_i hkt
    exact ⟨by rw [<-hkt];exact hk,by rw [Ab hkt];exact h⟩
   ·rename_i hkt
    rw [Ai hkt]
    exact mu r d t b h
theorem WS.OK.put {w:WS} (h:w.OK) (dst:Option Tmp) (v:AV):(w.put dst v).OK:=by
 cases dst with
 |none=>exact h
 |some d=>
  intro t b hb
  obtain ⟨h1,h2⟩:=mu _ _ _ _ hb
  obtain ⟨fr,h3⟩:=h t b h2
  exact ⟨fr,by show (w.st.put (some d) v).get t=_;rw [bS _ _ h1];exact h3⟩
theorem WS.uq (w:WS) (dst:Option Tmp) (v:AV):(w.put dst v).st=w.st.put dst v:=by cases dst<;>rfl
theorem WS.OK.to {w:WS} (h:w.OK) {s:St} (hs:Cr w.st s):(w.to s).OK:=by
 intro t b hb
 obtain ⟨fr,h3⟩:=h t b hb
 exact ⟨fr,hs t fr _ _ h3⟩
theorem xa {w:WS} (hw:w.OK) {t:Nat} {K:Bool->WS->Prop} (h:brT w t K):
  ∃fr b w',w.st.get t= .at (.data fr .bool b)/\w'.st=w.st/\w'.OK/\K b w':=by
 unfold brT at h
 split at h
 ·rename_i b hb
  obtain ⟨fr,h1⟩:=hw t b hb
  exact ⟨fr,b,w,h1,rfl,hw,h⟩
 ·split at h
  ·rename_i fr b hb
   obtain ⟨h1,h2⟩:=h
   have ok: ∀c:Bool,b=c->WS.OK {kn:=(t,c)::w.kn,st:=w.st} :=by
    intro c hc t' b' h'
    simp only [o3] at h'
    split at h'
    ·rename_i ht
     injection h' with h'
     exact ⟨fr,by rw [<-ht,<-h',<-hc];exact hb⟩
    ·exact hw t' b' h'
   cases b with
   |true=>exact ⟨fr,true, {kn:=(t,true)::w.kn,st:=w.st},hb,rfl,ok true rfl,h1 rfl⟩
   |false=>exact ⟨fr,false, {kn:=(t,false)::w.kn,st:=w.st},hb,rfl,ok false rfl,h2 rfl⟩
  ·cases h
theorem x9 {w:WS} (hw:w.OK) {c:Operand} {K:Bool->WS->Prop} (h:brO w c K):
  ∃fr b w',w.st.ev c= .at (.data fr .bool b)/\w'.st=w.st/\w'.OK/\K b w':=by
 unfold brO at h
 split at h
 ·exact xa hw h
 ·exact ⟨true,_,w,rfl,rfl,hw,h⟩
 ·cases h
theorem KO {op:BinOp} {t:TypeId} {x y:AV} {K:AV->Prop} (h:Aib T op t x y K): ∃v,Ud T op t x y=some v/\K v:=by
 unfold Aib at h
 split at h
 ·split at h
  ·rename_i hk
   exact ⟨_,by simp only [Ud,evalBin,tF];rw [Ab hk,Ai h.1];rfl,h.2⟩
  ·cases h
 ·split at h
  ·rename_i hk
   exact ⟨_,by simp only [Ud,evalBin,tF];rw [Ab hk,Ai h.1];rfl,h.2⟩
  ·cases h
 ·exact ⟨_,by simp only [Ud,evalBin];rw [Ai h.1];rfl,h.2⟩
 ·exact ⟨_,by simp only [Ud,evalBin];rw [Ai h.1];rfl,h.2⟩
 ·exact ⟨_,by simp only [Ud,evalBin];rw [Ab h.1],h.2⟩
 ·exact Ch.1 h
theorem GA {st:St} {t:TypeId} {p:AV} {K:AV->Prop} (h:Aal T st t p K): ∃v,Qi T st t p=some v/\K v:=by
 unfold Aal at h
 split at h
 ·obtain ⟨τ,h1,h2⟩:=Ch.1 h
  split at h2
  ·rename_i hb
   split at h2
   ·rename_i he
    obtain ⟨x,h3,h4⟩:=h2
    exact ⟨_,by simp only [Qi,h1,hb,Ab he,h3];rfl,h4⟩
   ·cases h2
  ·rename_i hb
   split at h2
   ·rename_i he
    obtain ⟨x,h3,h4⟩:=h2
    exact ⟨_,by simp only [Qi,h1,hb,Ab he,h3];rfl,h4⟩
   ·cases h2
  ·rename_i hb
   split at h2
   ·cases h2
   ·rename_i he
    exact ⟨_,by simp only [Qi,h1,hb,Ai he],h2⟩
  ·cases h2
 ·obtain ⟨τ,h1,h2⟩:=Ch.1 h
  split at h2
  ·rename_i he
   obtain ⟨y,h3,h4⟩:=h2
   subst h3
   exact ⟨_,by simp only [Qi,h1,Ab he],h4⟩
  ·cases h2
 ·exact Ch.1 h
theorem pa {s:TypeId} {x:AV} {f:Nat} {K:AV->Prop} (h:mf T s x f K): ∃v,Oo T s x f=some v/\K v:=by
 unfold mf at h
 split at h
 ·obtain ⟨y,h1,h2⟩:=h
  subst h1
  obtain ⟨v,h3,h4⟩:=Ch.1 h2
  refine ⟨v,?_,h4⟩
  rw [<-h3]
  unfold Oo
  cases T.off s f<;>rfl
 ·exact Ch.1 h
theorem AZ {st:St} {t:TypeId} {x:AV} {lo hi:Option AV} {K:AV->Prop} (h:OG T st t x lo hi K): ∃v,eg T st t x lo hi=some v/\K v:=by
 unfold OG at h
 obtain ⟨n,h1,h⟩:=Ch.1 h
 obtain ⟨l,h2,h⟩:=Ch.1 h
 obtain ⟨hh,h3,hc,h⟩:=Ch.1 h
 obtain ⟨v,h4,h5⟩:=Ch.1 h
 refine ⟨v,?_,h5⟩
 simp only [eg,h1,h2,h3,Ab hc]
 exact h4
theorem pj {st:St} {t:TypeId} {x i:AV} {K:AV->Prop} (h:mo T st t x i K): ∃v,Lf T st t x i=some v/\K v:=by
 unfold mo at h
 split at h
 ·split at h
  ·rename_i he
   obtain ⟨x,h3,h4⟩:=h
   exact ⟨_,by simp only [Lf,Ab he,h3];rfl,h4⟩
  ·cases h
 ·split at h
  ·rename_i hb
   split at h
   ·rename_i he
    obtain ⟨h3,h4⟩:=h
    exact ⟨_,by simp only [Lf,hb];rw [Ab ⟨he.1,he.2,Up.2 h3⟩],h4⟩
   ·cases h
  ·rename_i hb
   split at h
   ·rename_i he
    obtain ⟨h3,h4⟩:=h
    exact ⟨_,by simp only [Lf,hb];rw [Ab ⟨he.1,he.2,Up.2 h3⟩],h4⟩
   ·cases h
  ·rename_i hb
   split at h
   ·rename_i he
    obtain ⟨h3,h4⟩:=h
    exact ⟨_,by simp only [Lf,hb];rw [Ab ⟨he.1,he.2,Up.2 h3⟩],h4⟩
   ·cases h
  ·cases h
 ·split at h
  ·rename_i hb
   split at h
   ·rename_i he
    obtain ⟨h3,h4⟩:=h
    exact ⟨_,by simp only [Lf,hb];rw [Ab ⟨he,Up.2 h3⟩],h4⟩
   ·cases h
  ·cases h
 ·cases h
theorem zu {t:TypeId} {x i:AV} {K:AV->Prop} (h:MC T t x i K): ∃v,kc T t x i=some v/\K v:=by
 unfold MC at h
 split at h
 ·split at h
  ·rename_i he
   obtain ⟨h1,b,h3,h4⟩:=h
   exact ⟨_,by simp only [kc,Ab he,Ab h1,h3];rfl,h4⟩
  ·cases h
 ·cases h
theorem cC {st:St} {f:FuncId} {args:List AV} {K:AV->Prop} (h:xc Γ st f args K): ∃v,Pj Γ st f args=some v/\K v:=by
 unfold xc at h
 obtain ⟨s,h1,h⟩:=Ch.1 h
 have h1:Γ f=some (.q s):=by
  split at h1
  ·rename_i s' hs;injection h1 with h1;rw [hs,h1]
  ·cases h1
 split at h
 ·rename_i hf
  obtain ⟨p,h2,y,h3,h4⟩:=Ch.1 h
  refine ⟨_,?_,h4⟩
  simp only [Pj,h1]
  rw [Ab hf,h2]
  simp only [h3]
  rfl
 ·cases h
theorem yS {st:St} {v:AV} {args:List AV} {K:AV->Prop} (h:KQ Γ st v args K): ∃u,Yg Γ st v args=some u/\K u:=by
 unfold KQ at h
 split at h
 ·split at h
  ·rename_i hc
   split at h
   ·rename_i hf
    obtain ⟨u,h1,h2⟩:=cC h
    exact ⟨u,by simp only [Yg];rw [Ab hc,Ab (by simpa using hf)];exact h1,h2⟩
   ·rename_i hf
    obtain ⟨u,h1,h2⟩:=cC h
    exact ⟨u,by simp only [Yg];rw [Ab hc,Ai (λhx=>by rw [show Nat.blt _ 1000000000=true from by simpa using hx] at hf;cases hf)];exact h1,h2⟩
  ·cases h
 ·exact cC h
 ·cases h
theorem Pv {w:WS} (hw:w.OK) {x:Operand} {b:Bool} (hk:Ww w.kn x=some b): ∃fr,w.st.ev x= .at (.data fr .bool b):=by
 unfold Ww at hk
 split at hk
 ·injection hk with hk;subst hk;exact ⟨true,rfl⟩
 ·exact hw _ _ hk
 ·cases hk
theorem we {w:WS} (hw:w.OK) {o:Oper} {b:Bool} (hk:Hq w.kn o=some b) {v:AV} (he:Ft T Γ w.st o=some v): ∃fr,v= .at (.data fr .bool b):=by
 unfold Hq at hk
 split at hk
 ·rename_i heq;unfold Ft at he;rw [heq] at he;injection he with he;obtain ⟨fr,h⟩:=Pv hw hk;exact ⟨fr,he.symm.trans h⟩
 ·rename_i heq;unfold Ft at he;rw [heq] at he;injection he with he;obtain ⟨fr,h⟩:=Pv hw hk;exact ⟨fr,he.symm.trans h⟩
 ·rename_i x heq
  cases hx:Ww w.kn x with
  |none=>rw [hx] at hk;cases hk
  |some c=>
   rw [hx] at hk
   injection hk with hk
   obtain ⟨fr,h⟩:=Pv hw hx
   unfold Ft at he;rw [heq] at he
   simp only [h,zb,Pr] at he
   injection he with he
   exact ⟨true,by rw [<-he,<-hk]⟩
 ·rename_i c x y heq
  unfold Ft at he;rw [heq] at he
  split at hk
  ·rename_i hc
   obtain ⟨fr,h⟩:=Pv hw hc
   simp only [h,ef,Oz] at he
   injection he with he
   obtain ⟨fr,h⟩:=Pv hw hk
   exact ⟨fr,he.symm.trans h⟩
  ·rename_i hc
   obtain ⟨fr,h⟩:=Pv hw hc
   simp only [h,ef,Di,Rt] at he
   injection he with he
   obtain ⟨fr,h⟩:=Pv hw hk
   exact ⟨fr,he.symm.trans h⟩
  ·cases hk
 ·cases hk
theorem ud {w:WS} (hw:w.OK) {o:Oper} {x:Operand} (ho:o.op= .assign x) {b:Bool} (hk:Hq w.kn o=some b) {v:AV} {s:St} (he:evalOp T Γ w.st o=some (v,s)): ∃fr,v= .at (.data fr .bool b):=by
 unfold Hq at hk
 rw [ho] at hk
 obtain ⟨fr,h⟩:=Pv hw hk
 unfold evalOp at he;rw [ho] at he
 simp only [h] at he
 injection he with he;injection he with he;exact ⟨fr,he.symm⟩
theorem jn {w:WS} (hw:w.OK) {o:Oper} {K:AV->WS->Prop} (h:qW T Γ w o K):
  ∃v w',Ft T Γ w.st o=some v/\w'.st=w.st/\w'.OK/\(∀b,Hq w'.kn o=some b-> ∃fr,v= .at (.data fr .bool b))/\K v w':=by
 have fin:(∃v w',Ft T Γ w.st o=some v/\w'.st=w.st/\w'.OK/\K v w')-> ∃v w',Ft T Γ w.st o=some v/\w'.st=w.st/\w'.OK/\(∀b,Hq w'.kn o=some b-> ∃fr,v= .at (.data fr .bool b))/\K v w':=by
  rintro ⟨v,w',h1,h2,h3,h4⟩
  exact ⟨v,w',h1,h2,h3,λb hb=>we h3 hb (by rw [h2];exact h1),h4⟩
 refine fin ?_
 unfold qW at h
 split at h
 ·rename_i c a b heq
  obtain ⟨fr,t,w',h1,h2,h3,h4⟩:=x9 hw h
  cases t with
  |true=>exact ⟨_,w',by unfold Ft;rw [heq];simp only [h1,ef,Oz];rw [<-h2],h2,h3,h4⟩
  |false=>exact ⟨_,w',by unfold Ft;rw [heq];simp only [h1,ef];rw [<-h2];simp,h2,h3,h4⟩
 ·rename_i heq
  obtain ⟨v,h1,h2⟩:=GA h
  exact ⟨v,w,by unfold Ft;rw [heq];exact h1,rfl,hw,h2⟩
 ·rename_i heq
  obtain ⟨v,h1,h2⟩:=KO h
  exact ⟨v,w,by unfold Ft;rw [heq];exact h1,rfl,hw,h2⟩
 ·rename_i heq
  split at h
  ·obtain ⟨v,h1,h2⟩:=AZ h
   exact ⟨v,w,by unfold Ft;rw [heq];simpa using h1,rfl,hw,h2⟩
  ·cases h
 ·rename_i heq
  obtain ⟨v,h1,h2⟩:=pj h
  exact ⟨v,w,by unfold Ft;rw [heq];exact h1,rfl,hw,h2⟩
 ·rename_i heq
  obtain ⟨v,h1,h2⟩:=zu h
  exact ⟨v,w,by unfold Ft;rw [heq];exact h1,rfl,hw,h2⟩
 ·rename_i heq
  obtain ⟨v,h1,h2⟩:=cC h
  exact ⟨v,w,by unfold Ft;rw [heq];exact h1,rfl,hw,h2⟩
 ·rename_i heq
  obtain ⟨v,h1,h2⟩:=yS h
  exact ⟨v,w,by unfold Ft;rw [heq];exact h1,rfl,hw,h2⟩
 ·rename_i heq
  obtain ⟨v,h1,h2⟩:=pa h
  exact ⟨v,w,by unfold Ft;rw [heq];exact h1,rfl,hw,h2⟩
 ·rename_i x heq
  unfold xQ at h
  split at h
  ·rename_i fr τ z hx
   obtain ⟨y,h1,h2⟩:=h
   subst h1
   exact ⟨_,w,by unfold Ft;rw [heq];simp only [hx],rfl,hw,h2⟩
  ·obtain ⟨v,h1,h2⟩:=Ch.1 h
   exact ⟨v,w,h1,rfl,hw,h2⟩
 ·obtain ⟨v,h1,h2⟩:=Ch.1 h
  exact ⟨v,w,h1,rfl,hw,h2⟩
theorem BS {st:St} {t:TypeId} {p v:AV} {K:St->Prop} (h:OU T st t p v K): ∃s,Vl T st t p v=some s/\K s:=by
 unfold OU at h
 split at h
 ·obtain ⟨τ,h1,h⟩:=Ch.1 h
  obtain ⟨q,h2,h⟩:=Ch.1 h
  split at h
  ·rename_i hb
   obtain ⟨u,h3,h⟩:=Ch.1 h
   split at h
   ·rename_i hc
    obtain ⟨h4,h5⟩:=h
    obtain ⟨q1,q2⟩:=q
    obtain ⟨u1,u2⟩:=u
    exact ⟨_,by simp only [Vl,h1,h2,hb,h3];rw [Jk hc,Ab h4],h5⟩
   ·cases h
  ·cases h
 ·exact Ch.1 h
theorem wL {st:St} {t:TypeId} {p v:AV} {K:St->Prop} (h:BO T st t p v K): ∃s,Py T st t p v=some s/\K s:=by
 unfold BO at h
 unfold Py
 split at h
 rotate_left
 ·rename_i hg;rw [hg];exact BS h
 rename_i hg
 rw [hg]
 simp only
 unfold SH at h
 split at h
 ·obtain ⟨τ,h1,h⟩:=Ch.1 h
  obtain ⟨q,h2,h⟩:=Ch.1 h
  split at h
  ·rename_i hb
   obtain ⟨u,h3,h⟩:=Ch.1 h
   split at h
   ·rename_i hc
    obtain ⟨q1,q2⟩:=q
    obtain ⟨u1,u2⟩:=u
    exact ⟨_,by simp only [bQ,h1,h2,hb,h3];rw [Jk hc],h⟩
   ·cases h
  ·cases h
 ·rename_i l j
  obtain ⟨τ,h1,h⟩:=Ch.1 h
  split at h
  ·rename_i e te rows out kp m off len hl _
   split at h
   ·rename_i fr tr e' tid xs hm
    split at h
    ·rename_i hc
     obtain ⟨h2,h3,h4,h5⟩:=h
     have h4:out=none\/out=some j:=by
      cases out with
      |none=>exact .inl rfl
      |some i=>exact .inr (Dm some h4)
     exact ⟨_,by simp only [bQ,h1,hl,hm];rw [Jk ⟨hc.1,hc.2,h2,h3,h4⟩],h5⟩
    ·cases h
   ·cases h
  ·cases h
 ·cases h
theorem Zj {st:St} {d:Nat} {t:TypeId} {x y:Operand} {K:AV->St->Prop} (h:ng T st d t x y K): ∃v s,On T st d t x y=some (v,s)/\K v s:=by
 unfold ng at h
 obtain ⟨te,h1,h⟩:=Ch.1 h
 obtain ⟨e,h2,h⟩:=Ch.1 h
 obtain ⟨q,h3,h⟩:=Ch.1 h
 obtain ⟨u,h4,h⟩:=Ch.1 h
 obtain ⟨q1,q2⟩:=q
 obtain ⟨u1,u2⟩:=u
 split at h
 ·rename_i hx
  split at h
  ·rename_i hd
   obtain ⟨h5,h6⟩:=h
   refine ⟨_,_,?_,h6⟩
   simp only [On,h1,h2,h3,h4]
   rw [hx]
   simp only
   rw [Ab ⟨h5,by simpa [Nr] using hd⟩]
   simp
  ·cases h
 ·rename_i l off len hx
  split at h
  ·rename_i fr tr e' tid xs hb
   split at h
   ·rename_i hc
    obtain ⟨h5,h6,h7,h8⟩:=h
    refine ⟨_,_,?_,h8⟩
    simp only [On,h1,h2,h3,h4]
    rw [hx]
    simp only [hb]
    rw [Jk ⟨hc.1,hc.2.1⟩,Ab ⟨h7,by simpa [Nr] using hc.2.2⟩]
    obtain ⟨XJ,hc2,hc3⟩:=hc
    subst XJ
    subst h5
    simp only [Du,h6,Bh,Ax]
   ·cases h
  ·cases h
 ·cases h
theorem sD {st:St} {d:Nat} {t:TypeId} {x y:Operand} {K:AV->St->Prop} (h:sC T st d t x y K): ∃v s,Rx T st d t x y=some (v,s)/\K v s:=by
 unfold sC at h
 cases x with
 |tmp tx=>
  simp only at h
  unfold Rx
  simp only
  cases hg:st.get tx with
  | «at»c=>
   rw [hg] at h
   cases c with
   |sub l i c=>
    simp only at h⊢
    obtain ⟨tid,h1,h⟩:=Ch.1 h
    split at h
    ·rename_i hl
     split at h
     ·rename_i hc
      obtain ⟨v,s,h2,h3⟩:=Zj h
      refine ⟨v,s,?_,h3⟩
      simp only [hl,h1]
      rw [Ab hc]
      exact h2
     ·cases h
    ·cases h
   |_=>exact Zj h
  |_=>rw [hg] at h;exact Zj h
 |_=>exact Zj h
theorem GI {st:St} {d:Nat} {t:TypeId} {l c:AV} {K:AV->St->Prop} (h:Aas T st d t l c K): ∃v s,bO T st d t l c=some (v,s)/\K v s:=by
 unfold Aas at h
 split at h
 ·obtain ⟨te,h1,h⟩:=Ch.1 h
  obtain ⟨e,h2,h⟩:=Ch.1 h
  split at h
  ·rename_i hz
   obtain ⟨h3,h4,h5⟩:=h
   refine ⟨_,_,?_,h5⟩
   simp only [Aj] at hz
   simp only [bO,h1,h2]
   rw [Ab ⟨Up.2 (by exact_mod_cast h3),h4,hz.1,by simpa [Nr] using hz.2⟩]
   simp
  ·cases h
 ·cases h
theorem zO {st:St} {d:Nat} {t:TypeId} {l c:AV} {K:AV->St->Prop} (h:MO T st d t l c K): ∃v s,Yh T st d t l c=some (v,s)/\K v s:=by
 unfold MO at h
 unfold Yh
 cases hg:ej T t with
 |none=>rw [hg] at h;exact GI h
 |some p=>
  obtain ⟨te,e⟩:=p
  rw [hg] at h
  simp only at h⊢
  split at h
  ·split at h
   ·rename_i hd
    obtain ⟨h3,h4,h5⟩:=h
    refine ⟨_,_,?_,h5⟩
    simp only
    rw [Ab ⟨Up.2 (by exact_mod_cast h3),h4,by simpa [Nr] using hd⟩]
    simp
   ·cases h
  ·cases h
theorem m8 {st:St} {d:Nat} {t:TypeId} {len:Nat} {parts:Array (Nat×Operand)} {K:AV->St->Prop} (h:fi T st d t len parts K): ∃v s,Jl T st d t len parts=some (v,s)/\K v s:=by
 unfold fi at h
 unfold Jl
 cases hg:ej T t with
 |none=>
  rw [hg] at h
  obtain ⟨r,h1,h2⟩:=Ch.1 h
  exact ⟨r.1,r.2,h1,h2⟩
 |some p=>
  obtain ⟨te,e⟩:=p
  rw [hg] at h
  simp only at h⊢
  split at h
  ·rename_i x hp
   split at h
   ·rename_i m off ln hx
    split at h
    ·rename_i hm
     split at h
     ·rename_i hc
      obtain ⟨h1,h2,h3⟩:=h
      refine ⟨_,_,?_,h3⟩
      simp only [hp,hx,hm]
      rw [Jk ⟨hc.1,hc.2,h1,h2⟩]
     ·cases h
    ·cases h
   ·cases h
  ·cases h
theorem sF {st:St} {d:Nat} {t:TypeId} {x y:Operand} {K:AV->St->Prop} (h:sE T st d t x y K): ∃v s,Ry T st d t x y=some (v,s)/\K v s:=by
 unfold sE at h
 unfold Ry
 cases hg:ej T t with
 |none=>rw [hg] at h;exact sD h
 |some p=>
  obtain ⟨te,e⟩:=p
  rw [hg] at h
  simp only at h⊢
  split at h
  ·rename_i l off len m Aay tP hx hy
   split at h
   ·rename_i hl hm
    split at h
    ·rename_i hc
     obtain ⟨h1,h2,h3,h4,h5⟩:=h
     obtain ⟨⟨rfl,rfl⟩,hc⟩:=hc
     refine ⟨_,_,?_,h5⟩
     simp only [hx,hy,hl,hm]
     rw [Jk (⟨⟨trivial,trivial⟩,hc,h1,h2,h3,h4⟩)]
     simp
    ·cases h
   ·cases h
  ·cases h
theorem CD {st:St} {io:Bool} {k:Nat} {c:CK} {a:AC} {K:c.den->List (Nat×Loc)->Prop} (h:gn st io k c a K): ∃x t,Mn st io k c a=some (x,t)/\K x t:=by
 cases c with
 |Gw τ=>
  cases a with
  |own l off len=>
   obtain ⟨p,h1,h2⟩:=Ch.1 h
   exact ⟨_,_,by simp only [Mn];rw [h1];rfl,h2⟩
  |clo g Ew=>
   simp only [gn] at h
   split at h
   ·rename_i hc
    obtain ⟨p,h1,h2⟩:=Ch.1 h
    exact ⟨_,_,by simp only [Mn];rw [Ab hc,h1];rfl,h2⟩
   ·cases h
  |Ho l i=>
   simp only [gn] at h
   split at h
   ·rename_i hc
    obtain ⟨p,h1,h2⟩:=Ch.1 h
    exact ⟨_,_,by simp only [Mn];rw [Ab hc,h1];rfl,h2⟩
   ·cases h
  |sub l i c=>
   obtain ⟨p,h1,h2⟩:=Ch.1 h
   exact ⟨_,_,by simp only [Mn];rw [h1];rfl,h2⟩
  |_=>
   simp only [gn] at h
   split at h
   ·rename_i hc
    obtain ⟨p,h1,h2⟩:=Ch.1 h
    exact ⟨_,_,by simp only [Mn];rw [Ab hc,h1];rfl,h2⟩
   ·cases h
 |row e te=>
  cases a<;>simp only [gn] at h<;>first|(cases h;done)|skip
  ·exact ⟨_,_,rfl,h⟩
  ·split at h
   ·rename_i hl
    split at h
    ·rename_i hc
     obtain ⟨h1,h2,h3⟩:=h
     exact ⟨_,_,by simp only [Mn,hl];rw [Jk ⟨hc.1,hc.2,h1,h2⟩],h3⟩
    ·cases h
   ·cases h
  ·split at h
   ·rename_i hl
    split at h
    ·rename_i hc
     obtain ⟨y,h1,h2⟩:=h
     exact ⟨_,_,by simp only [Mn,hl];rw [Jk hc,h1];rfl,h2⟩
    ·cases h
   ·cases h
 |Ie e te=>
  cases a<;>simp only [gn] at h<;>first|(cases h;done)|skip
  ·exact ⟨_,_,rfl,h⟩
  ·split at h
   ·rename_i hl
    split at h
    ·rename_i hc
     obtain ⟨h1,h2,h3⟩:=h
     exact ⟨_,_,by simp only [Mn,hl];rw [Jk ⟨hc.1,hc.2,h1,h2⟩],h3⟩
    ·cases h
   ·cases h
  ·split at h
   ·rename_i hl
    split at h
    ·rename_i hc
     obtain ⟨y,h1,h2⟩:=h
     exact ⟨_,_,by simp only [Mn,hl];rw [Jk hc,h1];rfl,h2⟩
    ·cases h
   ·cases h
 |part e te=>
  cases a<;>simp only [gn] at h<;>first|(cases h;done)|skip
  split at h
  ·rename_i hl
   split at h
   ·rename_i hc
    exact ⟨_,_,by simp only [Mn,hl];rw [Jk hc],h⟩
   ·cases h
  ·cases h
 |Bu e te kp=>
  cases a<;>simp only [gn] at h<;>first|(cases h;done)|skip
  split at h
  ·rename_i hl
   split at h
   ·rename_i hc
    obtain ⟨h1,h2,h3⟩:=h
    exact ⟨_,_,by simp only [Mn,hl];rw [Jk ⟨hc.1,hc.2.1,h1,h2,hc.2.2⟩],h3⟩
   ·cases h
  ·cases h
theorem HW {st:St} {e:Ty} {ys:List e.den} {a:AC} {K:St->Prop} (h:Abo st e ys a K): ∃s,NR st e ys a=some s/\K s:=by
 cases a<;>simp only [Abo] at h<;>first|(cases h;done)|skip
 split at h
 ·rename_i hl
  split at h
  ·rename_i hc
   obtain ⟨h1,h3⟩:=h
   exact ⟨_,by simp only [NR,hl];rw [Jk ⟨hc,h1⟩],h3⟩
  ·cases h
 ·cases h
theorem lI {st:St} : ∀(cs:List (Bool×CK)) (k:Nat) (as:List AC) (K:Ins.den cs->List (Nat×Loc)->Prop),CE st k cs as K-> ∃x t,gp st k cs as=some (x,t)/\K x t
 | [],_,[],_,h=>⟨_,_,rfl,h⟩
 | [],_,_::_,_,h=>h.elim
 |_::_,_,[],_,h=>h.elim
 |p::r,k,a::as,K,h=>by
  obtain ⟨x,t1,h1,h2⟩:=CD h
  obtain ⟨y,t2,h3,h4⟩:=lI r (k+1) as _ h2
  exact ⟨_,_,by simp only [gp,h1,h3],h4⟩
theorem qO {st:St} {c:CK} {ys:c.den} {a:AC} {K:St->Prop} (h:qN st c ys a K): ∃s,cA st c ys a=some s/\K s:=by
 cases c with
 |Gw τ=>cases a<;>simp only [qN] at h<;>first|(cases h;done)|exact ⟨_,rfl,h⟩
 |row e te=>
  cases a<;>simp only [qN] at h<;>first|(cases h;done)|skip
  ·exact ⟨_,rfl,h⟩
  ·split at h
   ·rename_i hl
    split at h
    ·rename_i hc
     obtain ⟨h1,h3⟩:=h
     exact ⟨_,by simp only [cA,hl];rw [Jk ⟨hc,h1⟩],h3⟩
    ·cases h
   ·cases h
  ·split at h
   ·rename_i hl
    split at h
    ·rename_i hc
     obtain ⟨y,h1,h2,h3⟩:=h
     exact ⟨_,by simp only [cA,hl,Jk hc,h1];rw [Ab h2],h3⟩
    ·cases h
   ·cases h
 |Ie e te=>
  cases a<;>simp only [qN] at h<;>first|(cases h;done)|skip
  ·exact ⟨_,rfl,h⟩
  ·split at h
   ·rename_i hl
    split at h
    ·rename_i hc
     obtain ⟨h1,h3⟩:=h
     exact ⟨_,by simp only [cA,hl];rw [Jk ⟨hc,h1⟩],h3⟩
    ·cases h
   ·cases h
  ·split at h
   ·rename_i hl
    split at h
    ·rename_i hc
     obtain ⟨y,h1,h2,h3⟩:=h
     exact ⟨_,by simp only [cA,hl,Jk hc,h1];rw [Ab h2],h3⟩
    ·cases h
   ·cases h
 |part e te=>cases a<;>simp only [qN] at h<;>first|(cases h;done)|exact ⟨_,rfl,h⟩
 |Bu e te kp=>cases a<;>simp only [qN] at h<;>first|(cases h;done)|exact ⟨_,rfl,h⟩
theorem Qb: ∀(cs:List (Bool×CK)) (o:IOs.den cs) (as:List AC) (st:St) (K:St->Prop),jm cs o as st K-> ∃s,Ik cs o as st=some s/\K s
 | [],_,_,st,K,h=>⟨st,rfl,h⟩
 |(true, .Gw _)::r,o,[],st,K,h=>h.elim
 |(true, .row _ _)::r,o,[],st,K,h=>h.elim
 |(true, .Ie _ _)::r,o,[],st,K,h=>h.elim
 |(true, .part _ _)::r,o,[],st,K,h=>h.elim
 |(true, .Bu _ _ _)::r,o,[],st,K,h=>h.elim
 |(true, .Bu _ _ _)::r,o,a::as,st,K,h=>by
  obtain ⟨s,h1,h2⟩:=Qb r o as st K h
  exact ⟨s,by simp only [Ik];exact h1,h2⟩
 |(false,_)::r,o,[],st,K,h=>h.elim
 |(true, .Gw _)::r,o,a::as,st,K,h=>by
  obtain ⟨s,h1,h2⟩:=Qb r o as st K h
  exact ⟨s,by simp only [Ik];exact h1,h2⟩
 |(false,_)::r,o,a::as,st,K,h=>by
  obtain ⟨s,h1,h2⟩:=Qb r o as st K h
  exact ⟨s,by simp only [Ik];exact h1,h2⟩
 |(true, .row _ _)::r,o,a::as,st,K,h=>by
  obtain ⟨s1,h1,h2⟩:=qO h
  obtain ⟨s,h3,h4⟩:=Qb r o.2 as s1 K h2
  exact ⟨s,by simp only [Ik,h1];exact h3,h4⟩
 |(true, .part _ _)::r,o,a::as,st,K,h=>by
  obtain ⟨s1,h1,h2⟩:=HW h
  obtain ⟨s,h3,h4⟩:=Qb r o.2 as s1 K h2
  exact ⟨s,by simp only [Ik,h1];exact h3,h4⟩
 |(true, .Ie _ _)::r,o,a::as,st,K,h=>by
  obtain ⟨s1,h1,h2⟩:=qO h
  obtain ⟨s,h3,h4⟩:=Qb r o.2 as s1 K h2
  exact ⟨s,by simp only [Ik,h1];exact h3,h4⟩
theorem r8 {H:List (Nat×OB)} {ls:List Nat} {n:Nat} {K:Prop} : ∀(l:List AV),vf H ls n l K->dJ H ls n l=true/\K
 | [],h=>⟨rfl,h⟩
 |a::r,h=>by
  have go:vf H ls n r K->dJ H ls n r=true/\K:=r8 r
  cases a with
  | «at»c=>
   cases c with
   |sub l i c=>
    simp only [vf] at h
    simp only [dJ]
    split at h
    ·rename_i hc
     obtain ⟨⟨h1,h2⟩,h3⟩:=h
     obtain ⟨g1,g2⟩:=go h3
     exact ⟨by simp only [hc,g1,Bool.and_true,Bool.not_true,bD,Aj,Nr];exact ⟨h1,h2⟩,g2⟩
    ·rename_i hc
     obtain ⟨g1,g2⟩:=go h
     exact ⟨by simp only [hc,g1,Bool.not_false,Bool.true_or,Bool.and_true],g2⟩
   |_=>exact go h
  |_=>exact go h
theorem yR {st:St} {d:Option Nat} {s:MSpec} {args:List AV} {K:AV->St->Prop} (h:KP st d s args K): ∃v s',Yf st d s args=some (v,s')/\K v s':=by
 unfold KP at h
 obtain ⟨⟨pl,cells,rest⟩,h0,h⟩:=Ch.1 h
 obtain ⟨as,h1,h⟩:=Ch.1 h
 obtain ⟨x,tks,h2,h⟩:=lI s.ins 0 (cells++as) _ h
 split at h
 ·rename_i hc
  obtain ⟨⟨r,o⟩,h3,h⟩:=h
  obtain ⟨st1,h4,h⟩:=Qb s.ins o (cells++as) st _ h
  obtain ⟨v,h5,h6⟩:=Ch.1 h
  obtain ⟨h7,h6⟩:=r8 _ h6
  refine ⟨v,_,?_,h6⟩
  unfold Yf
  simp only [h0,h1,h2]
  rw [Ab hc]
  simp only [h3,h4,h5]
  rw [Ab h7]
 ·cases h
theorem UO {w:WS} (hw:w.OK) {o:Oper} {K:AV->WS->Prop} (h:opW T Γ w o K):
  ∃v w',evalOp T Γ w.st o=some (v,w'.st)/\w'.OK/\(∀b,Hq w'.kn o=some b-> ∃fr,v= .at (.data fr .bool b))/\K v w':=by
 have fin: ∀v s,(∀b,Hq w.kn o=some b-> ∃fr,v= .at (.data fr .bool b))->evalOp T Γ w.st o=some (v,s)->K v (w.to s)-> ∃v w',evalOp T Γ w.st o=some (v,w'.st)/\w'.OK/\(∀b,Hq w'.kn o=some b-> ∃fr,v= .at (.data fr .bool b))/\K v w':=
  fun v s hk h1 h2=>⟨v,w.to s,h1,hw.to (nG h1),hk,h2⟩
 have zd:(∀b v s,Hq w.kn o=some b->evalOp T Γ w.st o=some (v,s)-> ∃fr,v= .at (.data fr .bool b))->Ic (evalOp T Γ w.st o) (λr=>K r.1 (w.to r.2))-> ∃v w',evalOp T Γ w.st o=some (v,w'.st)/\w'.OK/\(∀b,Hq w'.kn o=some b-> ∃fr,v= .at (.data fr .bool b))/\K v w':=by
  intro hk h
  obtain ⟨r,h1,h2⟩:=Ch.1 h
  exact fin r.1 r.2 (λb hb=>hk b _ _ hb h1) h1 h2
 unfold opW at h
 split at h
 ·rename_i heq
  obtain ⟨s,h1,h2⟩:=wL h
  refine fin _ _ (λb hb=>by unfold Hq at hb;rw [heq] at hb;cases hb) ?_ h2
  unfold evalOp;rw [heq];simp only [h1];rfl
 ·rename_i heq
  obtain ⟨d,h1,h⟩:=Ch.1 h
  obtain ⟨v,s,h2,h3⟩:=zO h
  refine fin _ _ (λb hb=>by unfold Hq at hb;rw [heq] at hb;cases hb) ?_ h3
  unfold evalOp;rw [heq];simp only [h1,h2]
 ·rename_i heq
  split at h
  ·rename_i hd ha ht
   split at h
   ·rename_i Wg
    obtain ⟨v,s,h2,h3⟩:=sF h
    refine fin _ _ (λb hb=>by unfold Hq at hb;rw [heq] at hb;cases hb) ?_ h3
    unfold evalOp;rw [heq];simp only [hd,ha,ht,Ab Wg,h2]
   ·cases h
  ·cases h
 ·rename_i heq;exact zd (λb v s hb he=>ud hw heq hb he) h
 ·rename_i heq;exact zd (λb v s hb he=>by unfold Hq at hb;rw [heq] at hb;cases hb) h
 ·rename_i heq;exact zd (λb v s hb he=>by unfold Hq at hb;rw [heq] at hb;cases hb) h
 ·rename_i heq
  obtain ⟨d,h1,h⟩:=Ch.1 h
  obtain ⟨v,s,h2,h3⟩:=m8 h
  refine fin _ _ (λb hb=>by unfold Hq at hb;rw [heq] at hb;cases hb) ?_ h3
  unfold evalOp;rw [heq];simp only [h1,h2]
 ·rename_i heq;exact zd (λb v s hb he=>by unfold Hq at hb;rw [heq] at hb;cases hb) h
 ·rename_i heq;exact zd (λb v s hb he=>by unfold Hq at hb;rw [heq] at hb;cases hb) h
 ·rename_i heq;exact zd (λb v s hb he=>by unfold Hq at hb;rw [heq] at hb;cases hb) h
 ·rename_i heq;exact zd (λb v s hb he=>by unfold Hq at hb;rw [heq] at hb;cases hb) h
 ·rename_i heq;exact zd (λb v s hb he=>by unfold Hq at hb;rw [heq] at hb;cases hb) h
 ·rename_i heq;exact zd (λb v s hb he=>by unfold Hq at hb;rw [heq] at hb;cases hb) h
 ·
  rename_i f _ _ heq
  split at h
  ·rename_i Pl
   obtain ⟨v,s',h1,h2⟩:=yR h
   refine fin v s' (λb hb=>by unfold Hq at hb;rw [heq] at hb;cases hb) ?_ h2
   unfold evalOp;rw [heq];simp only [Pl];exact h1
  ·rename_i s Pl
   split at h
   ·rename_i RC
    obtain ⟨st1,hs,h⟩:=Ch.1 h
    obtain ⟨v,w',h1,h2,h3,h3',h4⟩:=jn (hw.to (Ur _ hs)) h
    refine ⟨v,w',?_,h3,h3',h4⟩
    have h1:Ft T Γ st1 o=some v:=h1
    have h2:w'.st=st1:=h2
    unfold evalOp
    rw [heq]
    simp only [Pl,RC,hs,h1,h2]
    rfl
   ·rename_i RC
    obtain ⟨v,w',h1,h2,h3,h3',h4⟩:=jn hw h
    refine ⟨v,w',?_,h3,h3',h4⟩
    unfold evalOp
    rw [heq]
    simp only [Pl,RC,h1,h2]
    rfl
  ·rename_i Ba3 Anv
   obtain ⟨v,w',h1,h2,h3,h3',h4⟩:=jn hw h
   refine ⟨v,w',?_,h3,h3',h4⟩
   unfold evalOp
   rw [heq]
   simp only
   rw [h1,h2];rfl
 ·rename_i n1 n2 n3 n4 n5 n6 n7 n8 n9 n10 n11 n12 n13 n14
  obtain ⟨v,w',h1,h2,h3,h3',h4⟩:=jn hw h
  refine ⟨v,w',?_,h3,h3',h4⟩
  unfold evalOp
  split
  all_goals first
   |(rw [h1,h2];rfl)
   |(rename_i hq;exact absurd hq (by first|exact n1 _|exact n2 _|exact n3 _|exact n4 _|exact n5 _|exact n6 _|exact n7 _|exact n8 _|exact n9 _|exact n10 _|exact n11 _|exact n12 _|exact n13 _|exact n14 _))
   |(rename_i hq;exact absurd hq (by first|exact n1 _ _|exact n2 _ _|exact n3 _ _|exact n4 _ _|exact n5 _ _|exact n6 _ _|exact n7 _ _|exact n8 _ _|exact n9 _ _|exact n10 _ _|exact n11 _ _|exact n12 _ _|exact n13 _ _|exact n14 _ _))
   |(rename_i hq;exact absurd hq (by first|exact n1 _ _ _|exact n2 _ _ _|exact n3 _ _ _|exact n4 _ _ _|exact n5 _ _ _|exact n6 _ _ _|exact n7 _ _ _|exact n8 _ _ _|exact n9 _ _ _|exact n10 _ _ _|exact n11 _ _ _|exact n12 _ _ _|exact n13 _ _ _|exact n14 _ _ _))
   |(rename_i hq;exact absurd hq (by first|exact n1 _ _ _ _|exact n2 _ _ _ _|exact n3 _ _ _ _|exact n4 _ _ _ _|exact n5 _ _ _ _|exact n6 _ _ _ _|exact n7 _ _ _ _|exact n8 _ _ _ _|exact n9 _ _ _ _|exact n10 _ _ _ _|exact n11 _ _ _ _|exact n12 _ _ _ _|exact n13 _ _ _ _|exact n14 _ _ _ _))
theorem zg (st:St) (d:Nat) (v:AV):(st.put (some d) v).get d=v\/(st.put (some d) v).get d= .undef:=by
 simp only [St.put,St.get]
 rw [Qy]
 by_cases h:d<st.tmps.length
 ·exact .inl (by rw [Ab ⟨rfl,h⟩])
 ·refine .inr ?_
  rw [Ai (λhc=>h hc.2),Al,Ds (by omega)]
  rfl
theorem WS.OK.wv {w:WS} (hw:w.OK) (o:Oper) (v:AV) (h: ∀b,Hq w.kn o=some b-> ∃fr,v= .at (.data fr .bool b)):(w.wv o v).OK/\(w.wv o v).st=w.st.put o.dst v:=by
 unfold WS.wv
 split
 ·rename_i d b hd hk
  split
  ·rename_i fr c hg
   refine ⟨?_,by rw [hd]⟩
   obtain ⟨Wm,hv⟩:=h b hk
   intro t b' hb
   simp only [o3] at hb
   split at hb
   ·rename_i ht
    injection hb with hb
    subst ht;subst hb
    refine ⟨Wm,?_⟩
    show (w.st.put (some d) v).get d=_
    cases zg w.st d v with
    |inl h1=>rw [h1,hv]
    |inr h1=>rw [h1] at hg;cases hg
   ·exact hw.put (some d) v t b' hb
  ·exact ⟨hw.put _ _,by rw [WS.uq,hd]⟩
 ·exact ⟨hw.put _ _,WS.uq _ _ _⟩
theorem r7 {ops:Array Oper} {w:WS} (hw:w.OK) {o:Oper} {run:(AV->WS->Prop)->WS->Prop} {R:St->Option (AV×St)} {K:WS->Prop}
  (hr: ∀(k:AV->WS->Prop) (w:WS),w.OK->run k w-> ∃v w',R w.st=some (v,w'.st)/\w'.OK/\(∀b,Hq w'.kn o=some b-> ∃fr,v= .at (.data fr .bool b))/\k v w') (h:jN ops w o run K):
  ∃w',(match o.guard with
   |none=>(R w.st).map λr=>r.2.put o.dst r.1
   |some (j,want)=>match Xz w.st ((ops[j]?).bind (·.dst)) with
    |some (some b)=>if b==want then (R w.st).map λr=>r.2.put o.dst r.1 else some (w.st.put o.dst (.at .skip))
    |some none=>some (w.st.put o.dst (.at .skip))
    |none=>none)=some w'.st/\w'.OK/\K w':=by
 have go: ∀w:WS,w.OK->run (λv w'=>K (w'.wv o v)) w-> ∃w',((R w.st).map λr=>r.2.put o.dst r.1)=some w'.st/\w'.OK/\K w':=by
  intro w hw h
  obtain ⟨v,w',h1,h2,h3,h4⟩:=hr _ _ hw h
  obtain ⟨h5,h6⟩:=h2.wv o v h3
  exact ⟨w'.wv o v,by rw [h1,h6];rfl,h5,h4⟩
 unfold jN at h
 split at h
 ·rename_i hg
  rw [hg]
  exact go w hw h
 ·rename_i j want hg
  rw [hg]
  obtain ⟨t,h1,h⟩:=Ch.1 h
  simp only [h1]
  split at h
  ·rename_i hs
   have hsk:w.st.get t= .at .skip:=by
    unfold AV.Aah at hs
    split at hs
    ·assumption
    ·cases hs
   exact ⟨_,by simp only [Xz,hsk];rw [WS.uq],hw.put _ _,h⟩
  ·obtain ⟨fr,b,w',h2,h3,h4,h5⟩:=xa hw h
   have hb:Xz w.st (some t)=some (some b):=by simp only [Xz,h2]
   rw [hb]
   simp only
   cases b with
   |true=>
    cases want with
    |true=>rw [Ab (by decide),<-h3];exact go w' h4 h5
    |false=>exact ⟨_,by rw [Ai (by decide),<-h3,WS.uq],h4.put _ _,h5⟩
   |false=>
    cases want with
    |false=>rw [Ab (by decide),<-h3];exact go w' h4 h5
    |true=>exact ⟨_,by rw [Ai (by decide),<-h3,WS.uq],h4.put _ _,h5⟩
theorem cq {ops:Array Oper} {w:WS} (hw:w.OK) {o:Oper} {K:WS->Prop} (h:jN ops w o (λk w'=>opW T Γ w' o k) K): ∃w',Fm T Γ ops w.st o=some w'.st/\w'.OK/\K w':=by
 obtain ⟨w',h1,h2⟩:=r7 hw (R:= λst=>evalOp T Γ st o) (λk w hw h=>by
  obtain ⟨v,w',h1,h2,h2',h3⟩:=UO hw h
  exact ⟨v,w',h1,h2,h2',h3⟩) h
 exact ⟨w',h1,h2⟩
theorem YI {w:WS} (hw:w.OK) {o:Oper} {K:AV->WS->Prop} (h:bW T Γ w o K):
  ∃v w',Xt T Γ w.st o=some v/\w'.st=w.st/\w'.OK/\(∀b,Hq w'.kn o=some b-> ∃fr,v= .at (.data fr .bool b))/\K v w':=by
 unfold bW at h
 split at h
 ·rename_i t len parts qy
  obtain ⟨v,h1,h2⟩:=Ch.1 h
  exact ⟨v,w,by unfold Xt;rw [qy];exact h1,rfl,hw,λb hb=>by simp [Hq,qy] at hb,h2⟩
 ·rename_i t parts qy
  obtain ⟨v,h1,h2⟩:=Ch.1 h
  exact ⟨v,w,by unfold Xt;rw [qy];exact h1,rfl,hw,λb hb=>by simp [Hq,qy] at hb,h2⟩
 ·rename_i n1 n2
  obtain ⟨v,w',h1,h2⟩:=jn hw h
  refine ⟨v,w',?_,h2⟩
  rw [<-h1]
  unfold Xt
  split
  ·rename_i h9;exact absurd h9 (n1 _ _ _)
  ·rename_i h9;exact absurd h9 (n2 _ _)
  ·rfl
theorem Afr {ops:Array Oper} {w:WS} (hw:w.OK) {o:Oper} {K:WS->Prop} (h:jN ops w o (λk w'=>bW T Γ w' o k) K): ∃v w',Xo T Γ ops w.st o=some v/\w'.st=w.st.put o.dst v/\w'.OK/\K w':=by
 obtain ⟨w',h1,h2,h3⟩:=r7 hw (R:= λst=>(Xt T Γ st o).map λv=>(v,st)) (λk w hw h=>by
  obtain ⟨v,w',h1,h2,h3,h3',h4⟩:=YI hw h
  exact ⟨v,w',by simp only [h1,h2];rfl,h3,h3',h4⟩) h
 have key: ∀u:Option AV,((u.map λv=>(v,w.st)).map λr=>r.2.put o.dst r.1)=some w'.st-> ∃v,u=some v/\w'.st=w.st.put o.dst v:=by
  intro u hu
  cases u with
  |none=>cases hu
  |some v=>injection hu with hu;exact ⟨v,rfl,hu.symm⟩
 unfold Xo
 split at h1
 ·rename_i hg
  obtain ⟨v,h4,h5⟩:=key _ h1
  exact ⟨v,w',by rw [hg];exact h4,h5,h2,h3⟩
 ·rename_i j want hg
  rw [hg]
  split at h1
  ·rename_i b hb
   simp only [hb]
   split at h1
   ·rename_i FD
    obtain ⟨v,h4,h5⟩:=key _ h1
    exact ⟨v,w',by rw [Ab FD];exact h4,h5,h2,h3⟩
   ·rename_i FD
    injection h1 with h1
    exact ⟨_,w',by rw [Ai FD],h1.symm,h2,h3⟩
  ·rename_i hb
   simp only [hb]
   injection h1 with h1
   exact ⟨_,w',rfl,h1.symm,h2,h3⟩
  ·cases h1
theorem ue {ops:Array Oper} : ∀(l:List Oper) {w:WS} (_:w.OK) {K:WS->Prop},Aka T Γ ops l w K-> ∃w',aU T Γ ops l w.st=some w'.st/\w'.OK/\K w'
 | [],w,hw,K,h=>⟨w,rfl,hw,h⟩
 |o::r,w,hw,K,h=>by
  obtain ⟨w1,h1,h2,h3⟩:=cq hw h
  obtain ⟨w2,h4,h5⟩:=ue r h2 h3
  exact ⟨w2,by simp only [aU];rw [h1];exact h4,h5⟩
theorem fw {ops:Array Oper} : ∀(l:List Nat) {w:WS} (_:w.OK) {K:WS->Prop},Aa8 T Γ ops l w K-> ∃w',Ni T Γ ops l w.st=some w'.st/\w'.OK/\K w'
 | [],w,hw,K,h=>⟨w,rfl,hw,h⟩
 |i::r,w,hw,K,h=>by
  obtain ⟨o,h0,h⟩:=Ch.1 h
  obtain ⟨w1,h1,h2,h3⟩:=cq hw h
  obtain ⟨w2,h4,h5⟩:=fw r h2 h3
  exact ⟨w2,by simp only [Ni];rw [h0];simp only [h1];exact h4,h5⟩
theorem Ob {ops:Array Oper} : ∀(l:List Nat) {w:WS} (_:w.OK) {K:WS->Prop},lh T Γ ops l w K-> ∃w',Gl T Γ ops l w.st=some w'.st/\w'.OK/\K w'
 | [],w,hw,K,h=>⟨w,rfl,hw,h⟩
 |i::r,w,hw,K,h=>by
  obtain ⟨o,h0,h⟩:=Ch.1 h
  obtain ⟨v,w1,h1,h1',h2,h3⟩:=Afr hw h
  obtain ⟨w2,h4,h5⟩:=Ob r h2 h3
  exact ⟨w2,by simp only [Gl];rw [h0];simp only [h1];rw [<-h1'];exact h4,h5⟩
theorem nf {P:Nat->Prop} : ∀(l:List Nat),YE l P-> ∀i∈l,P i
 | [],_,i,hi=>by cases hi
 | [k],h,i,hi=>by rw [Af.1 hi];exact h
 |k::j::r,h,i,hi=>by
  rcases Bb.1 hi with rfl|hi
  ·exact h.1
  ·exact nf (j::r) h.2 i hi
theorem m4 {ops:Array Oper} {K:WS->Prop} : ∀(f:Nat) (Ah:Array Bool) {w:WS} (_:w.OK),SX T Γ ops f Ah w K->anyS T Γ ops (λs=> ∃w':WS,w'.st=s/\w'.OK/\K w') f Ah w.st
 |0,Ah,w,hw,h=>by
  unfold SX at h
  split at h
  ·rename_i hr;exact ⟨hr,w,rfl,hw,h⟩
  ·cases h
 |f+1,Ah,w,hw,h=>by
  unfold SX at h
  split at h
  ·cases h
  ·rename_i i r hr
   refine ⟨by rw [hr];simp,λk hk=>?_⟩
   rw [hr] at hk
   obtain ⟨o,h0,h1⟩:=Ch.1 (nf _ h k hk)
   obtain ⟨w1,h2,h3,h4⟩:=cq hw h1
   exact ⟨o,w1.st,h0,h2,m4 f _ h3 h4⟩
theorem dN: ∀(l:List Oper) (d:Nat),d∈Ld l-> ∃o∈l,o.dst=some d
 | [],d,h=>by simp [Ld] at h
 |o::r,d,h=>by
  simp only [Ld] at h
  cases ho:o.dst with
  |none=>
   rw [ho] at h
   obtain ⟨o',h1,h2⟩:=dN r d (by simpa using h)
   exact ⟨o',As _ h1,h2⟩
  |some e=>
   rw [ho] at h
   rcases Bb.1 (by simpa using h) with h|h
   ·exact ⟨o,by simp,by rw [ho,h]⟩
   ·obtain ⟨o',h1,h2⟩:=dN r d h
    exact ⟨o',As _ h1,h2⟩
theorem nK {ops:Array Oper} {K:WS->Prop} : ∀(f:Nat) (Ah:Array Bool) {w:WS} (_:w.OK),bR T Γ ops f Ah w K-> ∃w':WS,Gd (λt=>Tc ops t=true) w.st w'.st/\w'.OK/\K w'
 |0,Ah,w,hw,h=>by
  simp only [bR] at h
  split at h
  ·exact ⟨w,λ_ _ _ _ _ hx=>hx,hw,h⟩
  ·exact h.elim
 |f+1,Ah,w,hw,h=>by
  simp only [bR] at h
  split at h
  ·exact h.elim
  ·obtain ⟨o,ho,h1⟩:=Ch.1 h
   obtain ⟨w',h2,h3,h4⟩:=cq hw h1
   obtain ⟨w2,g1,g2⟩:=nK f _ h3 h4
   refine ⟨w2,((bP h2).mono λt ht hd=>?_).trans g1,g2⟩
   unfold Tc Ze at ht
   have:(ops.toList.any λo=>o.dst==some t)=true:=Eo.2 ⟨o,pC ho,by rw [hd];exact beq_self_eq_true _⟩
   rw [this] at ht
   cases ht
theorem mE (p:Nat->Bool): ∀(i:Nat) (l0 l1:List AV),(∀t,(l0.getD t .undef).Ym=true->p (i+t)=true->l1.getD t .undef=l0.getD t .undef)->
  Vs (Kv p i l0) l0 (Uf (Kv p i l0) l1)=l1
 |_,[],l1,_=>by simp [Kv,Uf,Vs]
 |i,a::r,[],_=>by
  simp only [Kv]
  cases (a.Ym&&p i)<;>simp [Uf,Vs]
 |i,a::r,b::s,h=>by
  have hr:=mE p (i+1) r s λt h1 h2=>by
   have:=h (t+1) (by simpa using h1) (by rw [show i+(t+1)=i+1+t by omega];exact h2)
   simpa using this
  simp only [Kv]
  cases hc:(a.Ym&&p i) with
  |false=>simp only [Uf,Vs];rw [hr]
  |true=>
   simp only [Uf,Vs]
   rw [hr]
   simp only [Aj] at hc
   have:=h 0 (by simpa using hc.1) hc.2
   simp only [Xx] at this
   rw [this]
theorem fH: ∀(f:List Bool) (l:List AV),(Uf f l).length=l.length
 | [],l=>by simp [Uf]
 |true::f,[]=>by simp [Uf]
 |false::f,[]=>by simp [Uf]
 |true::f,a::l=>by simp [Uf,fH f l]
 |false::f,a::l=>by simp [Uf,fH f l]
theorem TH {p:Nat->Bool} {w1 s0 s:St} (h1:Gd (λt=>p t=true) w1 s0) (h2:Gd (λt=>p t=true) w1 s) (h:eqM (Kv p 0 w1.tmps) s0 s):s=s0:=by
 have e:=eb h
 simp only [St.mask,St.mk.injEq] at e
 have key: ∀ {a:St},Gd (λt=>p t=true) w1 a->Vs (Kv p 0 w1.tmps) w1.tmps (Uf (Kv p 0 w1.tmps) a.tmps)=a.tmps:= λ {a} ha=>mE p 0 _ _ λt ht hp=>by
  rw [Bk] at hp
  cases hc:w1.tmps.getD t .undef with
  | «at»c=>
   cases c with
   |data fr τ x=>exact ha t fr τ x hp hc
   |_=>rw [hc] at ht;cases ht
  |_=>rw [hc] at ht;cases ht
 have e1:=key h1
 have e2:=key h2
 rw [e.1,e1] at e2
 obtain ⟨_,e4⟩:=e
 cases s;cases s0
 simp only at e2 e4
 rw [e4,e2]
theorem aW {ops:Array Oper} {K:WS->Prop} : ∀(f:Nat) (Ah:Array Bool) {w:WS} (_:w.OK),bR T Γ ops f Ah w K-> ∃w':WS,w'.OK/\K w'
 |0,Ah,w,hw,h=>by
  simp only [bR] at h
  split at h
  ·exact ⟨w,hw,h⟩
  ·exact h.elim
 |f+1,Ah,w,hw,h=>by
  simp only [bR] at h
  split at h
  ·exact h.elim
  ·obtain ⟨o,ho,h1⟩:=Ch.1 h
   obtain ⟨w',h2,h3,h4⟩:=cq hw h1
   exact aW f _ h3 h4
theorem qd {P:List (Nat×Nat×AV×OB)} {ops:Array Oper} {K:WS->Prop} : ∀(f:Nat) (Ah:Array Bool) {w:WS} (_:w.OK),DJ T Γ P ops f Ah w K->Ai9 T Γ ops P (λs=> ∃w':WS,w'.st=s/\w'.OK/\K w') f Ah w.st
 |0,Ah,w,hw,h=>by
  unfold DJ at h
  split at h
  ·rename_i hr;exact ⟨hr,w,rfl,hw,h⟩
  ·cases h
 |f+1,Ah,w,hw,h=>by
  unfold DJ at h
  split at h
  ·cases h
  ·rename_i i r hr
   refine ⟨by rw [hr];simp,λk hk=>?_⟩
   rw [hr] at hk
   obtain ⟨o,h0,h1⟩:=Ch.1 (nf _ h k hk)
   split at h1
   ·rename_i mW
    obtain ⟨w1,h2,h3,h4⟩:=cq hw h1
    exact ⟨o,w1.st,h0,mW,h2,qd f _ h3 h4⟩
   ·cases h1
theorem GW {α:Type} (f:α->Nat) {l:List α} (h:aw (l.map f)=true):l.Pairwise λa c=>f a≠f c:=List.pairwise_map.1 (Yq h)
theorem df {ops:Array Oper} {E:List Nat} {Ah:Array Bool} {w:WS} (hw:w.OK): ∀(R:List Nat) {K:Prop},yr T Γ ops E Ah w R K->K/\ ∀r∈R,sn ops E Ah r=true\/ ∃o v,ops[r]?=some o/\Xo T Γ ops w.st o=some v/\ ∀d,o.dst=some d->w.st.get d=v
 | [],K,h=>⟨h,λr hr=>by cases hr⟩
 |r::R,K,h=>by
  unfold yr at h
  split at h
  ·rename_i hwt
   obtain ⟨h1,h2⟩:=df hw R h
   refine ⟨h1,λq hq=>?_⟩
   rcases Bb.1 hq with rfl|hq
   ·exact .inl hwt
   ·exact h2 q hq
  ·obtain ⟨h0,h⟩:=h
   obtain ⟨h1,h2⟩:=df hw R h
   refine ⟨h1,λq hq=>?_⟩
   rcases Bb.1 hq with rfl|hq
   ·refine .inr ?_
    obtain ⟨w',g1,_,g3⟩:=Ob _ hw h0
    obtain ⟨d,hd,g4⟩:=Ch.1 g3
    simp only [Gl] at g1
    split at g1
    ·cases g1
    rename_i o ho
    split at g1
    rotate_left
    ·cases g1
    rename_i v hv
    refine ⟨o,v,ho,hv,λd' JS=>?_⟩
    rw [ho] at hd
    have hdd:o.dst=some d:=hd
    rw [JS] at hdd
    cases hdd
    split at g4
    ·rename_i hl
     have e:=eb g4
     have e1:w'.st.get d=w.st.get d:=by
      have:=Dm (λs:St=>s.tmps) e
      simpa using this
     rw [<-e1]
     have e2:w.st.put o.dst v=w'.st:=Bd g1
     rw [<-e2,show o.dst=some d from hd]
     show (Ta w.st.tmps d v).getD d .undef=v
     rw [Qy,Ab ⟨rfl,by simpa [Nr] using hl⟩]
    ·cases g4
   ·exact h2 q hq
theorem cB {ops:Array Oper} {E:List Nat} {K:WS->Prop} : ∀(f:Nat) (Ah:Array Bool) {w:WS} (_:w.OK),sA T Γ ops E f Ah w K->ru T Γ ops E (λs=> ∃w':WS,w'.st=s/\w'.OK/\K w') f Ah w.st
 |0,Ah,w,hw,h=>by
  unfold sA at h
  obtain ⟨h,hs⟩:=df hw _ h
  split at h
  ·rename_i hr;exact ⟨hs,hr,w,rfl,hw,h⟩
  ·cases h
 |f+1,Ah,w,hw,h=>by
  unfold sA at h
  obtain ⟨h,hs⟩:=df hw _ h
  split at h
  ·cases h
  ·rename_i i r hr
   refine ⟨hs,by rw [hr];simp,λk hk=>?_⟩
   rw [hr] at hk
   obtain ⟨o,h0,h1⟩:=Ch.1 (nf _ h k hk)
   obtain ⟨w1,h2,h3,h4⟩:=cq hw h1
   exact ⟨o,w1.st,h0,h2,cB f _ h3 h4⟩
theorem AL {ops:Array Oper} {E:List Nat} {L0:Array Bool} {n:Nat} {w:WS} (hw:w.OK) {K:WS->Prop} (h:NS T Γ E n L0 ops w K):Adv T Γ ops (λs=> ∃w':WS,w'.st=s/\w'.OK/\K w') n L0 w.st:=by
 unfold NS at h
 split at h
 ·rename_i hb
  simp only [Aj] at hb
  obtain ⟨b1,b2,b3⟩:=hb
  obtain ⟨w1,h1,h2,h3⟩:=Ob _ hw h
  have h3:=Oq.1 h3
  obtain ⟨w0,g1,g2⟩:=aW _ _ h2 h3
  obtain ⟨g3,g4⟩:=Oq.1 g2
  refine ⟨E,w1.st,b1,Nat.le_of_ble_eq_true b2,h1,bn (λs hs=>?_) _ _ _ (cB _ _ h2 g4)⟩
  obtain ⟨w',h5,_,h6⟩:=hs
  exact ⟨w0,((h5.symm.trans (eb (Oq.1 h6))).symm),g1,g3⟩
 ·cases h
theorem dK {ops:Array Oper} {t:Nat} :Tc ops t=true->t∉Ld ops.toList:= λh hm=>by
 obtain ⟨o,ho,hd⟩:=dN _ _ hm
 unfold Tc Ze at h
 have:(ops.toList.any λo=>o.dst==some t)=true:=Eo.2 ⟨o,ho,by rw [hd];exact beq_self_eq_true _⟩
 rw [this] at h
 cases h
theorem DK {ops:Array Oper} {E:List Nat} {K:St->Prop} (s0:St) (f:Nat) (Ah:Array Bool) (st:St) (hk:Gd (λt=>Tc ops t=true) s0 st) (h:ru T Γ ops E K f Ah st):
  ru T Γ ops E (λs=>K s/\Gd (λt=>Tc ops t=true) s0 s) f Ah st:=by
 have h1:=lZ (draw:=true) st f Ah st (λ_ _ _ _ _ hx=>hx) h
 exact bn (λs hs=>⟨hs.1,hk.trans (hs.2.mono λt ht=>dK ht)⟩) _ _ _ h1
theorem WS.OK.Qn {w:WS} (hw:w.OK) (dead:List Nat):(w.Qn dead).OK:=by
 intro t b hb
 have key: ∀(l:List (Nat×Bool)),o3 (l.filter λp=>!dead.contains p.1) t=some b->dead.contains t=false/\o3 l t=some b:=by
  intro l
  induction l with
  |nil=>intro h;cases h
  |cons q r ih=>
   intro h
   obtain ⟨k,c⟩:=q
   by_cases hk:dead.contains k=true
   ·rw [List.filter_cons_of_neg (by rw [hk];decide)] at h
    obtain ⟨h1,h2⟩:=ih h
    refine ⟨h1,?_⟩
    unfold o3
    rw [Ai (λe=>by subst e;rw [h1] at hk;cases hk)]
    exact h2
   ·have hk:dead.contains k=false:=by simpa using hk
    rw [List.filter_cons_of_pos (by rw [hk];rfl)] at h
    unfold o3 at h⊢
    split at h
    ·rename_i e
     subst e
     rw [Ab rfl]
     exact ⟨hk,h⟩
    ·rename_i e
     rw [Ai e]
     exact ih h
 obtain ⟨h1,h2⟩:=key _ hb
 obtain ⟨fr,h3⟩:=hw t b h2
 refine ⟨fr,?_⟩
 show (w.st.Qn dead).get t=_
 unfold St.Qn
 refine Uq _ _ t fr _ _ ?_
 show (It _ 0 w.st.tmps).getD t .undef=_
 rw [Wi _ 0 w.st.tmps t ?_]
 ·exact h3
 ·refine Cl.2 ⟨Fb.2 ?_,by rw [Bk,h1];rfl⟩
  refine Bs λhn=>?_
  have:w.st.get t= .undef:=by
   unfold St.get
   rw [Al,Ds (by omega)];rfl
  rw [h3] at this
  cases this
theorem HB {ops:Array Oper} {dead E:List Nat} (b3:dead.all (Ze ops)=true) {L0:Array Bool} {n:Nat} {w:WS} (hw:w.OK) {K:WS->Prop} (h:Ab0 T Γ dead E n L0 ops w K):Adv T Γ ops (λs=> ∃w':WS,w'.st=s.Qn dead/\w'.OK/\K w') n L0 w.st:=by
 unfold Ab0 at h
 split at h
 ·rename_i hb
  simp only [Aj] at hb
  obtain ⟨b1,b2⟩:=hb
  obtain ⟨w1,h1,h2,h3⟩:=Ob _ hw h
  have h3:=Oq.1 h3
  refine ⟨E,w1.st,b1,Nat.le_of_ble_eq_true b2,h1,?_⟩
  split at h3
  ·refine bn (λs hs=>?_) _ _ _ (cB _ _ h2 h3)
   obtain ⟨w',h5,h6,h7⟩:=hs
   exact ⟨w'.Qn dead,by rw [<-h5];rfl,h6.Qn _,h7⟩
  ·rw [fu] at h3
   obtain ⟨w0,g0,g1,g2⟩:=nK _ _ h2 h3
   obtain ⟨g3,g4⟩:=Oq.1 g2
   refine bn (λs hs=>?_) _ _ _ (DK w1.st _ _ _ (λ_ _ _ _ _ hx=>hx) (cB _ _ h2 g4))
   obtain ⟨⟨w',h5,_,h6⟩,h7⟩:=hs
   have h6:=Oq.1 h6
   have k1:Gd (λt=>Tc ops t=true) w1.st (w0.Qn dead).st:=g0.trans ((j8 b3 w0.st).mono λt ht=>dK ht)
   have k2:Gd (λt=>Tc ops t=true) w1.st (w'.Qn dead).st:=by
    show Gd _ w1.st (w'.st.Qn dead)
    rw [h5]
    exact h7.trans ((j8 b3 s).mono λt ht=>dK ht)
   have e:=TH k1 k2 h6
   refine ⟨w0.Qn dead,?_,g1.Qn _,g3⟩
   rw [<-e,<-h5]
   rfl
 ·cases h
theorem vM {ops:Array Oper} {L0:Array Bool} {n:Nat} {w:WS} (hw:w.OK) {K:WS->Prop} (hc:Un ops L0) (h:yQ T Γ (Zu T ops L0) n L0 ops w K):anyS T Γ ops (λs=> ∃w':WS,w'.st=s/\w'.OK/\K w') n L0 w.st\/Adv T Γ ops (λs=> ∃w':WS,w'.st=s/\w'.OK/\K w') n L0 w.st:=by
 unfold yQ at h
 split at h
 ·rename_i hb
  simp only [Aj] at hb
  obtain ⟨⟨b1,b2⟩,b3,b4,b5⟩:=hb
  have hm: ∀a∈Zu T ops L0,a.1∈Region.ready .any ops L0/\ ∃o,ops[a.1]?=some o/\ff T o=some a.2:= λa ha=>yM ha
  have p1:=GW (λa:Nat×Nat×AV×OB=>a.1) b1
  have p2:=GW (λa:Nat×Nat×AV×OB=>a.2.1) b2
  have hlen:(Zu T ops L0).length<=n:=Nat.le_of_ble_eq_true b4
  obtain ⟨w1,h1,h2,h3⟩:=fw _ hw h
  have h3:=Oq.1 h3
  obtain ⟨w0,g1,g2⟩:=aW _ _ h2 h3
  obtain ⟨g3,g4⟩:=Oq.1 g2
  have hp:=HQ (Γ:=Γ) _ w.st w1.st (λa ha=>(hm a ha).2) (λa ha=>ub (Bg.1 b3 a ha)) p2 h1
  refine .inl (jZ (λs hs=>?_) _ _ _ (SW (λa ha=>(hm a ha).2) n (n-(Zu T ops L0).length) (Zu T ops L0) _ L0 w1.st w.st (by omega) (qd _ _ h2 g4) hp
   (Adz (ops:=ops) λi hi=>by obtain ⟨a,ha,rfl⟩:=Be.1 hi;exact (hm a ha).1) (λa ha=>ha) (p2.and p1) hc λa ha x hx=>cX (hm a ha).1 hx))
  obtain ⟨w',h5,_,h6⟩:=hs
  exact ⟨w0,((h5.symm.trans (eb h6)).symm),g1,g3⟩
 ·exact .inr (AL hw h)
theorem lC {ops:Array Oper} {draw:Bool} {w:WS} (hw:w.OK) {K:WS->Prop} (h:sl T Γ ops draw w K):kV T Γ ops draw w.st (λs=> ∃w':WS,w'.st=s/\w'.OK/\K w'):=by
 unfold sl at h
 split at h
 ·split at h
  ·rename_i ho
   obtain ⟨w1,h1,h2,h3⟩:=Ob _ hw h
   obtain ⟨w2,h4,h5⟩:=fw _ h2 h3
   exact .inl ⟨w2.st,by simp only [Sa,Oz];rw [Ab ho,h1];exact h4,w2,rfl,h5⟩
  ·rename_i ho
   split at h
   ·rename_i ho2
    obtain ⟨w1,h1,h2,h3⟩:=Ob _ hw h
    obtain ⟨w2,h4,h5⟩:=fw _ h2 h3
    exact .inl ⟨w2.st,by simp only [Sa,Oz];rw [Ai (by rw [ho];decide),Ab ho2,h1];exact h4,w2,rfl,h5⟩
   ·split at h
    ·rename_i hc
     simp only [Aj] at hc
     obtain ⟨w1,h1,h2,h3⟩:=Ob _ hw h
     split at h3
     ·exact .inr ⟨rfl,hc.1,w1.st,h1, .inl (m4 _ _ h2 h3)⟩
     ·obtain ⟨w0,g1,g2⟩:=aW _ _ h2 h3
      obtain ⟨g3,g4⟩:=Oq.1 g2
      exact .inr ⟨rfl,hc.1,w1.st,h1, .inl (jZ (λs hs=>by
       obtain ⟨w',h5,_,h6⟩:=hs
       exact ⟨w0,((h5.symm.trans (eb h6)).symm),g1,g3⟩) _ _ _ (m4 _ _ h2 g4))⟩
    ·split at h
     ·rename_i RC
      obtain ⟨w1,h1,h2,h3⟩:=Ob _ hw h
      exact .inr ⟨rfl,RC,w1.st,h1,vM h2 (aR _ _ _ qh) h3⟩
     ·cases h
 ·obtain ⟨w1,h1,h2⟩:=ue _ hw h
  exact .inl ⟨w1.st,by simp only [Sa];rw [Ai (by simp)];exact h1,w1,rfl,h2⟩
theorem wx {ops:Array Oper} {draw:Bool} {w:WS} (hw:w.OK) {K:WS->Prop} (h:AO T Γ ops draw w K):yI T Γ ops draw w.st (λs=> ∃w':WS,w'.st=s/\w'.OK/\K w'):=by
 unfold AO at h
 split at h
 ·rename_i hb
  have b3:=(Dp.1 hb).2
  refine .inr ⟨vC ops,b3,?_⟩
  split at h
  ·rename_i hc
   simp only [Aj,Aaz] at hc
   obtain ⟨w1,h1,h2,h3⟩:=Ob _ hw h
   exact .inr ⟨hc.1,hc.2.2.1,w1.st,h1, .inr (HB b3 h2 h3)⟩
  ·exact (lC hw h).mono λs ⟨w',h1,h2,h3⟩=>⟨w'.Qn (vC ops),by rw [<-h1];rfl,h2.Qn _,h3⟩
 ·exact .inl (lC hw h)
end
end Go.Proofs.Ytkkdpknjohcekaa
