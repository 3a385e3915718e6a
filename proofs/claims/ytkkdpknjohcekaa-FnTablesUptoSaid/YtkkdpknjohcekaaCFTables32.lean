/-
  Part 33 of the proof that the statement FnTables holds.
-/
import Derived.Test.YtkkdpknjohcekaaCFTables31
namespace Go.Proofs.Ytkkdpknjohcekaa
open Go.RowKit
section
variable {T:Tab} {Γ:Env}
def WS.OK (w:WS):Prop:= ∀t b,lv w.kn t=some b-> ∃fr,w.st.get t= .at (.data fr .bool b)
theorem kb: ∀(l:List (Nat×Bool)) (d t:Nat) (b:Bool),lv (uj l d) t=some b->t≠d/\lv l t=some b
 | [],_,_,_,h=>by cases h
 |(k,c)::r,d,t,b,h=>by
  simp only [uj] at h
  split at h
  ·rename_i hk
   have:=kb r d t b h
   refine ⟨this.1,?_⟩
   simp only [lv]
   rw [Al (by rw [hk];exact λh=>this.1 h.symm)]
   exact this.2
  ·rename_i hk
   simp only [lv] at h⊢
   split at h
   ·rename_i hkt
    exact ⟨by rw [<-hkt];exact hk,by rw [Ab hkt];exact h⟩
   ·rename_i hkt
    rw [Al hkt]
    exact kb r d t b h
theorem WS.OK.put {w:WS} (h:w.OK) (dst:Option Tmp) (v:AV):(w.put dst v).OK:=by
 cases dst with
 |none=>exact h
 |some d=>
  intro t b hb
  obtain ⟨h1,h2⟩:=kb _ _ _ _ hb
  obtain ⟨fr,h3⟩:=h t b h2
  exact ⟨fr,by show (w.st.put (some d) v).get t=_;rw [ai _ _ h1];exact h3⟩
theorem WS.rf (w:WS) (dst:Option Tmp) (v:AV):(w.put dst v).st=w.st.put dst v:=by cases dst<;>rfl
theorem WS.OK.to {w:WS} (h:w.OK) {s:St} (hs:By w.st s):(w.to s).OK:=by
 intro t b hb
 obtain ⟨fr,h3⟩:=h t b hb
 exact ⟨fr,hs t fr _ _ h3⟩
theorem tT {w:WS} (hw:w.OK) {t:Nat} {K:Bool->WS->Prop} (h:brT w t K):
  ∃fr b w',w.st.get t= .at (.data fr .bool b)/\w'.st=w.st/\w'.OK/\K b w':=by
 unfold brT at h
 split at h
 ·rename_i b hb
  obtain ⟨fr,h1⟩:=hw t b hb
  exact ⟨fr,b,w,h1,rfl,hw,h⟩
 ·split at h
  ·rename_i fr b hb
   obtain ⟨h1,h2⟩:=h
   have ok: ∀c:Bool,b=c->WS.OK {kn:=(t,c)::w.kn,st:=w.st} :=by
    intro c hc t' b' h'
    simp only [lv] at h'
    split at h'
    ·rename_i ht
     injection h' with h'
     exact ⟨fr,by rw [<-ht,<-h',<-hc];exact hb⟩
    ·exact hw t' b' h'
   cases b with
   |true=>exact ⟨fr,true, {kn:=(t,true)::w.kn,st:=w.st},hb,rfl,ok true rfl,h1 rfl⟩
   |false=>exact ⟨fr,false, {kn:=(t,false)::w.kn,st:=w.st},hb,rfl,ok false rfl,h2 rfl⟩
  ·cases h
theorem tS {w:WS} (hw:w.OK) {c:Operand} {K:Bool->WS->Prop} (h:brO w c K):
  ∃fr b w',w.st.ev c= .at (.data fr .bool b)/\w'.st=w.st/\w'.OK/\K b w':=by
 unfold brO at h
 split at h
 ·exact tT hw h
 ·exact ⟨true,_,w,rfl,rfl,hw,h⟩
 ·cases h
theorem BX {op:BinOp} {t:TypeId} {x y:AV} {K:AV->Prop} (h:ZE T op t x y K): ∃v,Se T op t x y=some v/\K v:=by
 unfold ZE at h
 split at h
 ·split at h
  ·rename_i hk
   exact ⟨_,by simp only [Se,evalBin,qx];rw [Ab hk,Al h.1];rfl,h.2⟩
  ·cases h
 ·split at h
  ·rename_i hk
   exact ⟨_,by simp only [Se,evalBin,qx];rw [Ab hk,Al h.1];rfl,h.2⟩
  ·cases h
 ·exact ⟨_,by simp only [Se,evalBin];rw [Al h.1];rfl,h.2⟩
 ·exact ⟨_,by simp only [Se,evalBin];rw [Al h.1];rfl,h.2⟩
 ·exact ⟨_,by simp only [Se,evalBin];rw [Ab h.1],h.2⟩
 ·exact Bq.1 h
theorem zg {st:St} {t:TypeId} {p:AV} {K:AV->Prop} (h:QO T st t p K): ∃v,Pe T st t p=some v/\K v:=by
 unfold QO at h
 split at h
 ·obtain ⟨τ,h1,h2⟩:=Bq.1 h
  split at h2
  ·rename_i hb
   split at h2
   ·rename_i he
    obtain ⟨x,h3,h4⟩:=h2
    exact ⟨_,by simp only [Pe,h1,hb,Ab he,h3];rfl,h4⟩
   ·cases h2
  ·rename_i hb
   split at h2
   ·rename_i he
    obtain ⟨x,h3,h4⟩:=h2
    exact ⟨_,by simp only [Pe,h1,hb,Ab he,h3];rfl,h4⟩
   ·cases h2
  ·rename_i hb
   split at h2
   ·cases h2
   ·rename_i he
    exact ⟨_,by simp only [Pe,h1,hb,Al he],h2⟩
  ·cases h2
 ·obtain ⟨τ,h1,h2⟩:=Bq.1 h
  split at h2
  ·rename_i he
   obtain ⟨y,h3,h4⟩:=h2
   subst h3
   exact ⟨_,by simp only [Pe,h1,Ab he],h4⟩
  ·cases h2
 ·exact Bq.1 h
theorem mj {s:TypeId} {x:AV} {f:Nat} {K:AV->Prop} (h:jS T s x f K): ∃v,Nc T s x f=some v/\K v:=by
 unfold jS at h
 split at h
 ·obtain ⟨y,h1,h2⟩:=h
  subst h1
  obtain ⟨v,h3,h4⟩:=Bq.1 h2
  refine ⟨v,?_,h4⟩
  rw [<-h3]
  unfold Nc
  cases T.off s f<;>rfl
 ·exact Bq.1 h
theorem xh {st:St} {t:TypeId} {x:AV} {lo hi:Option AV} {K:AV->Prop} (h:FE T st t x lo hi K): ∃v,cm T st t x lo hi=some v/\K v:=by
 unfold FE at h
 obtain ⟨n,h1,h⟩:=Bq.1 h
 obtain ⟨l,h2,h⟩:=Bq.1 h
 obtain ⟨hh,h3,hc,h⟩:=Bq.1 h
 obtain ⟨v,h4,h5⟩:=Bq.1 h
 refine ⟨v,?_,h5⟩
 simp only [cm,h1,h2,h3,Ab hc]
 exact h4
theorem my {st:St} {t:TypeId} {x i:AV} {K:AV->Prop} (h:jY T st t x i K): ∃v,Ka T st t x i=some v/\K v:=by
 unfold jY at h
 split at h
 ·split at h
  ·rename_i he
   obtain ⟨x,h3,h4⟩:=h
   exact ⟨_,by simp only [Ka,Ab he,h3];rfl,h4⟩
  ·cases h
 ·split at h
  ·rename_i hb
   split at h
   ·rename_i he
    obtain ⟨h3,h4⟩:=h
    exact ⟨_,by simp only [Ka,hb];rw [Ab ⟨he.1,he.2,So.2 h3⟩],h4⟩
   ·cases h
  ·rename_i hb
   split at h
   ·rename_i he
    obtain ⟨h3,h4⟩:=h
    exact ⟨_,by simp only [Ka,hb];rw [Ab ⟨he.1,he.2,So.2 h3⟩],h4⟩
   ·cases h
  ·rename_i hb
   split at h
   ·rename_i he
    obtain ⟨h3,h4⟩:=h
    exact ⟨_,by simp only [Ka,hb];rw [Ab ⟨he.1,he.2,So.2 h3⟩],h4⟩
   ·cases h
  ·cases h
 ·split at h
  ·rename_i hb
   split at h
   ·rename_i he
    obtain ⟨h3,h4⟩:=h
    exact ⟨_,by simp only [Ka,hb];rw [Ab ⟨he,So.2 h3⟩],h4⟩
   ·cases h
  ·cases h
 ·cases h
theorem wc {t:TypeId} {x i:AV} {K:AV->Prop} (h:DD T t x i K): ∃v,ic T t x i=some v/\K v:=by
 unfold DD at h
 split at h
 ·split at h
  ·rename_i he
   obtain ⟨h1,b,h3,h4⟩:=h
   exact ⟨_,by simp only [ic,Ab he,Ab h1,h3];rfl,h4⟩
  ·cases h
 ·cases h
theorem aR {st:St} {f:FuncId} {args:List AV} {K:AV->Prop} (h:tU Γ st f args K): ∃v,Nq Γ st f args=some v/\K v:=by
 unfold tU at h
 obtain ⟨s,h1,h⟩:=Bq.1 h
 have h1:Γ f=some (.q s):=by
  split at h1
  ·rename_i s' hs;injection h1 with h1;rw [hs,h1]
  ·cases h1
 split at h
 ·rename_i hf
  obtain ⟨p,h2,y,h3,h4⟩:=Bq.1 h
  refine ⟨_,?_,h4⟩
  simp only [Nq,h1]
  rw [Ab hf,h2]
  simp only [h3]
  rfl
 ·cases h
theorem vJ {st:St} {v:AV} {args:List AV} {K:AV->Prop} (h:BZ Γ st v args K): ∃u,Wb Γ st v args=some u/\K u:=by
 unfold BZ at h
 split at h
 ·split at h
  ·rename_i hc
   split at h
   ·rename_i hf
    obtain ⟨u,h1,h2⟩:=aR h
    exact ⟨u,by simp only [Wb];rw [Ab hc,Ab (by simpa using hf)];exact h1,h2⟩
   ·rename_i hf
    obtain ⟨u,h1,h2⟩:=aR h
    exact ⟨u,by simp only [Wb];rw [Ab hc,Al (λhx=>by rw [show Nat.blt _ 1000000000=true from by simpa using hx] at hf;cases hf)];exact h1,h2⟩
  ·cases h
 ·exact aR h
 ·cases h
theorem Om {w:WS} (hw:w.OK) {x:Operand} {b:Bool} (hk:Uw w.kn x=some b): ∃fr,w.st.ev x= .at (.data fr .bool b):=by
 unfold Uw at hk
 split at hk
 ·injection hk with hk;subst hk;exact ⟨true,rfl⟩
 ·exact hw _ _ hk
 ·cases hk
theorem sL {w:WS} (hw:w.OK) {o:Oper} {b:Bool} (hk:Gu w.kn o=some b) {v:AV} (he:Es T Γ w.st o=some v): ∃fr,v= .at (.data fr .bool b):=by
 unfold Gu at hk
 split at hk
 ·rename_i heq;unfold Es at he;rw [heq] at he;injection he with he;obtain ⟨fr,h⟩:=Om hw hk;exact ⟨fr,he.symm.trans h⟩
 ·rename_i heq;unfold Es at he;rw [heq] at he;injection he with he;obtain ⟨fr,h⟩:=Om hw hk;exact ⟨fr,he.symm.trans h⟩
 ·rename_i x heq
  cases hx:Uw w.kn x with
  |none=>rw [hx] at hk;cases hk
  |some c=>
   rw [hx] at hk
   injection hk with hk
   obtain ⟨fr,h⟩:=Om hw hx
   unfold Es at he;rw [heq] at he
   simp only [h,vS,Oh] at he
   injection he with he
   exact ⟨true,by rw [<-he,<-hk]⟩
 ·rename_i c x y heq
  unfold Es at he;rw [heq] at he
  split at hk
  ·rename_i hc
   obtain ⟨fr,h⟩:=Om hw hc
   simp only [h,ck,Pw] at he
   injection he with he
   obtain ⟨fr,h⟩:=Om hw hk
   exact ⟨fr,he.symm.trans h⟩
  ·rename_i hc
   obtain ⟨fr,h⟩:=Om hw hc
   simp only [h,ck,Cy,Sa] at he
   injection he with he
   obtain ⟨fr,h⟩:=Om hw hk
   exact ⟨fr,he.symm.trans h⟩
  ·cases hk
 ·cases hk
theorem qV {w:WS} (hw:w.OK) {o:Oper} {x:Operand} (ho:o.op= .assign x) {b:Bool} (hk:Gu w.kn o=some b) {v:AV} {s:St} (he:evalOp T Γ w.st o=some (v,s)): ∃fr,v= .at (.data fr .bool b):=by
 unfold Gu at hk
 rw [ho] at hk
 obtain ⟨fr,h⟩:=Om hw hk
 unfold evalOp at he;rw [ho] at he
 simp only [h] at he
 injection he with he;injection he with he;exact ⟨fr,he.symm⟩
theorem gD {w:WS} (hw:w.OK) {o:Oper} {K:AV->WS->Prop} (h:qW T Γ w o K):
  ∃v w',Es T Γ w.st o=some v/\w'.st=w.st/\w'.OK/\(∀b,Gu w'.kn o=some b-> ∃fr,v= .at (.data fr .bool b))/\K v w':=by
 have fin:(∃v w',Es T Γ w.st o=some v/\w'.st=w.st/\w'.OK/\K v w')-> ∃v w',Es T Γ w.st o=some v/\w'.st=w.st/\w'.OK/\(∀b,Gu w'.kn o=some b-> ∃fr,v= .at (.data fr .bool b))/\K v w':=by
  rintro ⟨v,w',h1,h2,h3,h4⟩
  exact ⟨v,w',h1,h2,h3,λb hb=>sL h3 hb (by rw [h2];exact h1),h4⟩
 refine fin ?_
 unfold qW at h
 split at h
 ·rename_i c a b heq
  obtain ⟨fr,t,w',h1,h2,h3,h4⟩:=tS hw h
  cases t with
  |true=>exact ⟨_,w',by unfold Es;rw [heq];simp only [h1,ck,Pw];rw [<-h2],h2,h3,h4⟩
  |false=>exact ⟨_,w',by unfold Es;rw [heq];simp only [h1,ck];rw [<-h2];simp,h2,h3,h4⟩
 ·rename_i heq
  obtain ⟨v,h1,h2⟩:=zg h
  exact ⟨v,w,by unfold Es;rw [heq];exact h1,rfl,hw,h2⟩
 ·rename_i heq
  obtain ⟨v,h1,h2⟩:=BX h
  exact ⟨v,w,by unfold Es;rw [heq];exact h1,rfl,hw,h2⟩
 ·rename_i heq
  split at h
  ·obtain ⟨v,h1,h2⟩:=xh h
   exact ⟨v,w,by unfold Es;rw [heq];simpa using h1,rfl,hw,h2⟩
  ·cases h
 ·rename_i heq
  obtain ⟨v,h1,h2⟩:=my h
  exact ⟨v,w,by unfold Es;rw [heq];exact h1,rfl,hw,h2⟩
 ·rename_i heq
  obtain ⟨v,h1,h2⟩:=wc h
  exact ⟨v,w,by unfold Es;rw [heq];exact h1,rfl,hw,h2⟩
 ·rename_i heq
  obtain ⟨v,h1,h2⟩:=aR h
  exact ⟨v,w,by unfold Es;rw [heq];exact h1,rfl,hw,h2⟩
 ·rename_i heq
  obtain ⟨v,h1,h2⟩:=vJ h
  exact ⟨v,w,by unfold Es;rw [heq];exact h1,rfl,hw,h2⟩
 ·rename_i heq
  obtain ⟨v,h1,h2⟩:=mj h
  exact ⟨v,w,by unfold Es;rw [heq];exact h1,rfl,hw,h2⟩
 ·rename_i x heq
  unfold uw at h
  split at h
  ·rename_i fr τ z hx
   obtain ⟨y,h1,h2⟩:=h
   subst h1
   exact ⟨_,w,by unfold Es;rw [heq];simp only [hx],rfl,hw,h2⟩
  ·obtain ⟨v,h1,h2⟩:=Bq.1 h
   exact ⟨v,w,h1,rfl,hw,h2⟩
 ·obtain ⟨v,h1,h2⟩:=Bq.1 h
  exact ⟨v,w,h1,rfl,hw,h2⟩
theorem xz {st:St} {t:TypeId} {p v:AV} {K:St->Prop} (h:FK T st t p v K): ∃s,Ti T st t p v=some s/\K s:=by
 unfold FK at h
 split at h
 ·obtain ⟨τ,h1,h⟩:=Bq.1 h
  obtain ⟨q,h2,h⟩:=Bq.1 h
  split at h
  ·rename_i hb
   obtain ⟨u,h3,h⟩:=Bq.1 h
   split at h
   ·rename_i hc
    obtain ⟨h4,h5⟩:=h
    obtain ⟨q1,q2⟩:=q
    obtain ⟨u1,u2⟩:=u
    exact ⟨_,by simp only [Ti,h1,h2,hb,h3];rw [Ik hc,Ab h4],h5⟩
   ·cases h
  ·cases h
 ·exact Bq.1 h
theorem tn {st:St} {t:TypeId} {p v:AV} {K:St->Prop} (h:xu T st t p v K): ∃s,Oo T st t p v=some s/\K s:=by
 unfold xu at h
 unfold Oo
 split at h
 rotate_left
 ·rename_i hg;rw [hg];exact xz h
 rename_i hg
 rw [hg]
 simp only
 unfold IN at h
 split at h
 ·obtain ⟨τ,h1,h⟩:=Bq.1 h
  obtain ⟨q,h2,h⟩:=Bq.1 h
  split at h
  ·rename_i hb
   obtain ⟨u,h3,h⟩:=Bq.1 h
   split at h
   ·rename_i hc
    obtain ⟨q1,q2⟩:=q
    obtain ⟨u1,u2⟩:=u
    exact ⟨_,by simp only [ag,h1,h2,hb,h3];rw [Ik hc],h⟩
   ·cases h
  ·cases h
 ·rename_i l j
  obtain ⟨τ,h1,h⟩:=Bq.1 h
  split at h
  ·rename_i e te rows out kp m off len hl _
   split at h
   ·rename_i fr tr e' tid xs hm
    split at h
    ·rename_i hc
     obtain ⟨h2,h3,h4,h5⟩:=h
     have h4:out=none\/out=some j:=by
      cases out with
      |none=>exact .inl rfl
      |some i=>exact .inr (Hv some h4)
     exact ⟨_,by simp only [ag,h1,hl,hm];rw [Ik ⟨hc.1,hc.2,h2,h3,h4⟩],h5⟩
    ·cases h
   ·cases h
  ·cases h
 ·cases h
theorem Wx {st:St} {d:Nat} {t:TypeId} {x y:Operand} {K:AV->St->Prop} (h:kI T st d t x y K): ∃v s,Nb T st d t x y=some (v,s)/\K v s:=by
 unfold kI at h
 obtain ⟨te,h1,h⟩:=Bq.1 h
 obtain ⟨e,h2,h⟩:=Bq.1 h
 obtain ⟨q,h3,h⟩:=Bq.1 h
 obtain ⟨u,h4,h⟩:=Bq.1 h
 obtain ⟨q1,q2⟩:=q
 obtain ⟨u1,u2⟩:=u
 split at h
 ·rename_i hx
  split at h
  ·rename_i hd
   obtain ⟨h5,h6⟩:=h
   refine ⟨_,_,?_,h6⟩
   simp only [Nb,h1,h2,h3,h4]
   rw [hx]
   simp only
   rw [Ab ⟨h5,by simpa [Ml] using hd⟩]
   simp
  ·cases h
 ·rename_i l off len hx
  split at h
  ·rename_i fr tr e' tid xs hb
   split at h
   ·rename_i hc
    obtain ⟨h5,h6,h7,h8⟩:=h
    refine ⟨_,_,?_,h8⟩
    simp only [Nb,h1,h2,h3,h4]
    rw [hx]
    simp only [hb]
    rw [Ik ⟨hc.1,hc.2.1⟩,Ab ⟨h7,by simpa [Ml] using hc.2.2⟩]
    obtain ⟨UX,hc2,XN⟩:=hc
    subst UX
    subst h5
    simp only [Jo,h6,Bp,Au]
   ·cases h
  ·cases h
 ·cases h
theorem pI {st:St} {d:Nat} {t:TypeId} {x y:Operand} {K:AV->St->Prop} (h:pH T st d t x y K): ∃v s,Qk T st d t x y=some (v,s)/\K v s:=by
 unfold pH at h
 cases x with
 |tmp tx=>
  simp only at h
  unfold Qk
  simp only
  cases hg:st.get tx with
  | «at»c=>
   rw [hg] at h
   cases c with
   |sub l i c=>
    simp only at h⊢
    obtain ⟨tid,h1,h⟩:=Bq.1 h
    split at h
    ·rename_i hl
     split at h
     ·rename_i hc
      obtain ⟨v,s,h2,h3⟩:=Wx h
      refine ⟨v,s,?_,h3⟩
      simp only [hl,h1]
      rw [Ab hc]
      exact h2
     ·cases h
    ·cases h
   |_=>exact Wx h
  |_=>rw [hg] at h;exact Wx h
 |_=>exact Wx h
theorem zk {st:St} {d:Nat} {t:TypeId} {l c:AV} {K:AV->St->Prop} (h:QT T st d t l c K): ∃v s,ab T st d t l c=some (v,s)/\K v s:=by
 unfold QT at h
 split at h
 ·obtain ⟨te,h1,h⟩:=Bq.1 h
  obtain ⟨e,h2,h⟩:=Bq.1 h
  split at h
  ·rename_i hz
   obtain ⟨h3,h4,h5⟩:=h
   refine ⟨_,_,?_,h5⟩
   simp only [Ag] at hz
   simp only [ab,h1,h2]
   rw [Ab ⟨So.2 (by exact_mod_cast h3),h4,hz.1,by simpa [Ml] using hz.2⟩]
   simp
  ·cases h
 ·cases h
theorem wD {st:St} {d:Nat} {t:TypeId} {l c:AV} {K:AV->St->Prop} (h:DP T st d t l c K): ∃v s,Wc T st d t l c=some (v,s)/\K v s:=by
 unfold DP at h
 unfold Wc
 cases hg:cq T t with
 |none=>rw [hg] at h;exact zk h
 |some p=>
  obtain ⟨te,e⟩:=p
  rw [hg] at h
  simp only at h⊢
  split at h
  ·split at h
   ·rename_i hd
    obtain ⟨h3,h4,h5⟩:=h
    refine ⟨_,_,?_,h5⟩
    simp only
    rw [Ab ⟨So.2 (by exact_mod_cast h3),h4,by simpa [Ml] using hd⟩]
    simp
   ·cases h
  ·cases h
theorem jO {st:St} {d:Nat} {t:TypeId} {len:Nat} {parts:Array (Nat×Operand)} {K:AV->St->Prop} (h:cX T st d t len parts K): ∃v s,Il T st d t len parts=some (v,s)/\K v s:=by
 unfold cX at h
 unfold Il
 cases hg:cq T t with
 |none=>
  rw [hg] at h
  obtain ⟨r,h1,h2⟩:=Bq.1 h
  exact ⟨r.1,r.2,h1,h2⟩
 |some p=>
  obtain ⟨te,e⟩:=p
  rw [hg] at h
  simp only at h⊢
  split at h
  ·rename_i x hp
   split at h
   ·rename_i m off ln hx
    split at h
    ·rename_i hm
     split at h
     ·rename_i hc
      obtain ⟨h1,h2,h3⟩:=h
      refine ⟨_,_,?_,h3⟩
      simp only [hp,hx,hm]
      rw [Ik ⟨hc.1,hc.2,h1,h2⟩]
     ·cases h
    ·cases h
   ·cases h
  ·cases h
theorem pK {st:St} {d:Nat} {t:TypeId} {x y:Operand} {K:AV->St->Prop} (h:pJ T st d t x y K): ∃v s,Ql T st d t x y=some (v,s)/\K v s:=by
 unfold pJ at h
 unfold Ql
 cases hg:cq T t with
 |none=>rw [hg] at h;exact pI h
 |some p=>
  obtain ⟨te,e⟩:=p
  rw [hg] at h
  simp only at h⊢
  split at h
  ·rename_i l off len m RC qE hx hy
   split at h
   ·rename_i hl hm
    split at h
    ·rename_i hc
     obtain ⟨h1,h2,h3,h4,h5⟩:=h
     obtain ⟨⟨rfl,rfl⟩,hc⟩:=hc
     refine ⟨_,_,?_,h5⟩
     simp only [hx,hy,hl,hm]
     rw [Ik (⟨⟨trivial,trivial⟩,hc,h1,h2,h3,h4⟩)]
     simp
    ·cases h
   ·cases h
  ·cases h
theorem xE {st:St} {io:Bool} {k:Nat} {c:CK} {a:AC} {K:c.den->List (Nat×Loc)->Prop} (h:dT st io k c a K): ∃x t,Lj st io k c a=some (x,t)/\K x t:=by
 cases c with
 |Fp τ=>
  cases a with
  |own l off len=>
   obtain ⟨p,h1,h2⟩:=Bq.1 h
   exact ⟨_,_,by simp only [Lj];rw [h1];rfl,h2⟩
  |clo g Dy=>
   simp only [dT] at h
   split at h
   ·rename_i hc
    obtain ⟨p,h1,h2⟩:=Bq.1 h
    exact ⟨_,_,by simp only [Lj];rw [Ab hc,h1];rfl,h2⟩
   ·cases h
  |Gs l i=>
   simp only [dT] at h
   split at h
   ·rename_i hc
    obtain ⟨p,h1,h2⟩:=Bq.1 h
    exact ⟨_,_,by simp only [Lj];rw [Ab hc,h1];rfl,h2⟩
   ·cases h
  |sub l i c=>
   obtain ⟨p,h1,h2⟩:=Bq.1 h
   exact ⟨_,_,by simp only [Lj];rw [h1];rfl,h2⟩
  |_=>
   simp only [dT] at h
   split at h
   ·rename_i hc
    obtain ⟨p,h1,h2⟩:=Bq.1 h
    exact ⟨_,_,by simp only [Lj];rw [Ab hc,h1];rfl,h2⟩
   ·cases h
 |row e te=>
  cases a<;>simp only [dT] at h<;>first|(cases h;done)|skip
  ·exact ⟨_,_,rfl,h⟩
  ·split at h
   ·rename_i hl
    split at h
    ·rename_i hc
     obtain ⟨h1,h2,h3⟩:=h
     exact ⟨_,_,by simp only [Lj,hl];rw [Ik ⟨hc.1,hc.2,h1,h2⟩],h3⟩
    ·cases h
   ·cases h
  ·split at h
   ·rename_i hl
    split at h
    ·rename_i hc
     obtain ⟨y,h1,h2⟩:=h
     exact ⟨_,_,by simp only [Lj,hl];rw [Ik hc,h1];rfl,h2⟩
    ·cases h
   ·cases h
 |Hb e te=>
  cases a<;>simp only [dT] at h<;>first|(cases h;done)|skip
  ·exact ⟨_,_,rfl,h⟩
  ·split at h
   ·rename_i hl
    split at h
    ·rename_i hc
     obtain ⟨h1,h2,h3⟩:=h
     exact ⟨_,_,by simp only [Lj,hl];rw [Ik ⟨hc.1,hc.2,h1,h2⟩],h3⟩
    ·cases h
   ·cases h
  ·split at h
   ·rename_i hl
    split at h
    ·rename_i hc
     obtain ⟨y,h1,h2⟩:=h
     exact ⟨_,_,by simp only [Lj,hl];rw [Ik hc,h1];rfl,h2⟩
    ·cases h
   ·cases h
 |part e te=>
  cases a<;>simp only [dT] at h<;>first|(cases h;done)|skip
  split at h
  ·rename_i hl
   split at h
   ·rename_i hc
    exact ⟨_,_,by simp only [Lj,hl];rw [Ik hc],h⟩
   ·cases h
  ·cases h
 |Bm e te kp=>
  cases a<;>simp only [dT] at h<;>first|(cases h;done)|skip
  split at h
  ·rename_i hl
   split at h
   ·rename_i hc
    obtain ⟨h1,h2,h3⟩:=h
    exact ⟨_,_,by simp only [Lj,hl];rw [Ik ⟨hc.1,hc.2.1,h1,h2,hc.2.2⟩],h3⟩
   ·cases h
  ·cases h
theorem zR {st:St} {e:Ty} {ys:List e.den} {a:AC} {K:St->Prop} (h:RY st e ys a K): ∃s,EP st e ys a=some s/\K s:=by
 cases a<;>simp only [RY] at h<;>first|(cases h;done)|skip
 split at h
 ·rename_i hl
  split at h
  ·rename_i hc
   obtain ⟨h1,h3⟩:=h
   exact ⟨_,by simp only [EP,hl];rw [Ik ⟨hc,h1⟩],h3⟩
  ·cases h
 ·cases h
theorem jr {st:St} : ∀(cs:List (Bool×CK)) (k:Nat) (as:List AC) (K:Ins.den cs->List (Nat×Loc)->Prop),xF st k cs as K-> ∃x t,dU st k cs as=some (x,t)/\K x t
 | [],_,[],_,h=>⟨_,_,rfl,h⟩
 | [],_,_::_,_,h=>h.elim
 |_::_,_,[],_,h=>h.elim
 |p::r,k,a::as,K,h=>by
  obtain ⟨x,t1,h1,h2⟩:=xE h
  obtain ⟨y,t2,h3,h4⟩:=jr r (k+1) as _ h2
  exact ⟨_,_,by simp only [dU,h1,h3],h4⟩
theorem nW {st:St} {c:CK} {ys:c.den} {a:AC} {K:St->Prop} (h:nV st c ys a K): ∃s,aP st c ys a=some s/\K s:=by
 cases c with
 |Fp τ=>cases a<;>simp only [nV] at h<;>first|(cases h;done)|exact ⟨_,rfl,h⟩
 |row e te=>
  cases a<;>simp only [nV] at h<;>first|(cases h;done)|skip
  ·exact ⟨_,rfl,h⟩
  ·split at h
   ·rename_i hl
    split at h
    ·rename_i hc
     obtain ⟨h1,h3⟩:=h
     exact ⟨_,by simp only [aP,hl];rw [Ik ⟨hc,h1⟩],h3⟩
    ·cases h
   ·cases h
  ·split at h
   ·rename_i hl
    split at h
    ·rename_i hc
     obtain ⟨y,h1,h2,h3⟩:=h
     exact ⟨_,by simp only [aP,hl,Ik hc,h1];rw [Ab h2],h3⟩
    ·cases h
   ·cases h
 |Hb e te=>
  cases a<;>simp only [nV] at h<;>first|(cases h;done)|skip
  ·exact ⟨_,rfl,h⟩
  ·split at h
   ·rename_i hl
    split at h
    ·rename_i hc
     obtain ⟨h1,h3⟩:=h
     exact ⟨_,by simp only [aP,hl];rw [Ik ⟨hc,h1⟩],h3⟩
    ·cases h
   ·cases h
  ·split at h
   ·rename_i hl
    split at h
    ·rename_i hc
     obtain ⟨y,h1,h2,h3⟩:=h
     exact ⟨_,by simp only [aP,hl,Ik hc,h1];rw [Ab h2],h3⟩
    ·cases h
   ·cases h
 |part e te=>cases a<;>simp only [nV] at h<;>first|(cases h;done)|exact ⟨_,rfl,h⟩
 |Bm e te kp=>cases a<;>simp only [nV] at h<;>first|(cases h;done)|exact ⟨_,rfl,h⟩
theorem Ox: ∀(cs:List (Bool×CK)) (o:IOs.den cs) (as:List AC) (st:St) (K:St->Prop),gC cs o as st K-> ∃s,Hk cs o as st=some s/\K s
 | [],_,_,st,K,h=>⟨st,rfl,h⟩
 |(true, .Fp _)::r,o,[],st,K,h=>h.elim
 |(true, .row _ _)::r,o,[],st,K,h=>h.elim
 |(true, .Hb _ _)::r,o,[],st,K,h=>h.elim
 |(true, .part _ _)::r,o,[],st,K,h=>h.elim
 |(true, .Bm _ _ _)::r,o,[],st,K,h=>h.elim
 |(true, .Bm _ _ _)::r,o,a::as,st,K,h=>by
  obtain ⟨s,h1,h2⟩:=Ox r o as st K h
  exact ⟨s,by simp only [Hk];exact h1,h2⟩
 |(false,_)::r,o,[],st,K,h=>h.elim
 |(true, .Fp _)::r,o,a::as,st,K,h=>by
  obtain ⟨s,h1,h2⟩:=Ox r o as st K h
  exact ⟨s,by simp only [Hk];exact h1,h2⟩
 |(false,_)::r,o,a::as,st,K,h=>by
  obtain ⟨s,h1,h2⟩:=Ox r o as st K h
  exact ⟨s,by simp only [Hk];exact h1,h2⟩
 |(true, .row _ _)::r,o,a::as,st,K,h=>by
  obtain ⟨s1,h1,h2⟩:=nW h
  obtain ⟨s,h3,h4⟩:=Ox r o.2 as s1 K h2
  exact ⟨s,by simp only [Hk,h1];exact h3,h4⟩
 |(true, .part _ _)::r,o,a::as,st,K,h=>by
  obtain ⟨s1,h1,h2⟩:=zR h
  obtain ⟨s,h3,h4⟩:=Ox r o.2 as s1 K h2
  exact ⟨s,by simp only [Hk,h1];exact h3,h4⟩
 |(true, .Hb _ _)::r,o,a::as,st,K,h=>by
  obtain ⟨s1,h1,h2⟩:=nW h
  obtain ⟨s,h3,h4⟩:=Ox r o.2 as s1 K h2
  exact ⟨s,by simp only [Hk,h1];exact h3,h4⟩
theorem o7 {H:List (Nat×OB)} {ls:List Nat} {n:Nat} {K:Prop} : ∀(l:List AV),rY H ls n l K->bT H ls n l=true/\K
 | [],h=>⟨rfl,h⟩
 |a::r,h=>by
  have go:rY H ls n r K->bT H ls n r=true/\K:=o7 r
  cases a with
  | «at»c=>
   cases c with
   |sub l i c=>
    simp only [rY] at h
    simp only [bT]
    split at h
    ·rename_i hc
     obtain ⟨⟨h1,h2⟩,h3⟩:=h
     obtain ⟨g1,g2⟩:=go h3
     exact ⟨by simp only [hc,g1,Bool.and_true,Bool.not_true,Zx,Ag,Ml];exact ⟨h1,h2⟩,g2⟩
    ·rename_i hc
     obtain ⟨g1,g2⟩:=go h
     exact ⟨by simp only [hc,g1,Bool.not_false,Bool.true_or,Bool.and_true],g2⟩
   |_=>exact go h
  |_=>exact go h
theorem vI {st:St} {d:Option Nat} {s:MSpec} {args:List AV} {K:AV->St->Prop} (h:BY st d s args K): ∃v s',Wa st d s args=some (v,s')/\K v s':=by
 unfold BY at h
 obtain ⟨⟨pl,cells,rest⟩,h0,h⟩:=Bq.1 h
 obtain ⟨as,h1,h⟩:=Bq.1 h
 obtain ⟨x,tks,h2,h⟩:=jr s.ins 0 (cells++as) _ h
 split at h
 ·rename_i hc
  obtain ⟨⟨r,o⟩,h3,h⟩:=h
  obtain ⟨st1,h4,h⟩:=Ox s.ins o (cells++as) st _ h
  obtain ⟨v,h5,h6⟩:=Bq.1 h
  obtain ⟨h7,h6⟩:=o7 _ h6
  refine ⟨v,_,?_,h6⟩
  unfold Wa
  simp only [h0,h1,h2]
  rw [Ab hc]
  simp only [h3,h4,h5]
  rw [Ab h7]
 ·cases h
theorem KS {w:WS} (hw:w.OK) {o:Oper} {K:AV->WS->Prop} (h:VX T Γ w o K):
  ∃v w',evalOp T Γ w.st o=some (v,w'.st)/\w'.OK/\(∀b,Gu w'.kn o=some b-> ∃fr,v= .at (.data fr .bool b))/\K v w':=by
 have fin: ∀v s,(∀b,Gu w.kn o=some b-> ∃fr,v= .at (.data fr .bool b))->evalOp T Γ w.st o=some (v,s)->K v (w.to s)-> ∃v w',evalOp T Γ w.st o=some (v,w'.st)/\w'.OK/\(∀b,Gu w'.kn o=some b-> ∃fr,v= .at (.data fr .bool b))/\K v w':=
  fun v s hk h1 h2=>⟨v,w.to s,h1,hw.to (kZ h1),hk,h2⟩
 have vU:(∀b v s,Gu w.kn o=some b->evalOp T Γ w.st o=some (v,s)-> ∃fr,v= .at (.data fr .bool b))->Hc (evalOp T Γ w.st o) (λr=>K r.1 (w.to r.2))-> ∃v w',evalOp T Γ w.st o=some (v,w'.st)/\w'.OK/\(∀b,Gu w'.kn o=some b-> ∃fr,v= .at (.data fr .bool b))/\K v w':=by
  intro hk h
  obtain ⟨r,h1,h2⟩:=Bq.1 h
  exact fin r.1 r.2 (λb hb=>hk b _ _ hb h1) h1 h2
 unfold VX at h
 split at h
 ·rename_i heq
  obtain ⟨s,h1,h2⟩:=tn h
  refine fin _ _ (λb hb=>by unfold Gu at hb;rw [heq] at hb;cases hb) ?_ h2
  unfold evalOp;rw [heq];simp only [h1];rfl
 ·rename_i heq
  obtain ⟨d,h1,h⟩:=Bq.1 h
  obtain ⟨v,s,h2,h3⟩:=wD h
  refine fin _ _ (λb hb=>by unfold Gu at hb;rw [heq] at hb;cases hb) ?_ h3
  unfold evalOp;rw [heq];simp only [h1,h2]
 ·rename_i heq
  split at h
  ·rename_i hd ha ht
   split at h
   ·rename_i Uf
    obtain ⟨v,s,h2,h3⟩:=pK h
    refine fin _ _ (λb hb=>by unfold Gu at hb;rw [heq] at hb;cases hb) ?_ h3
    unfold evalOp;rw [heq];simp only [hd,ha,ht,Ab Uf,h2]
   ·cases h
  ·cases h
 ·rename_i heq;exact vU (λb v s hb he=>qV hw heq hb he) h
 ·rename_i heq;exact vU (λb v s hb he=>by unfold Gu at hb;rw [heq] at hb;cases hb) h
 ·rename_i heq;exact vU (λb v s hb he=>by unfold Gu at hb;rw [heq] at hb;cases hb) h
 ·rename_i heq
  obtain ⟨d,h1,h⟩:=Bq.1 h
  obtain ⟨v,s,h2,h3⟩:=jO h
  refine fin _ _ (λb hb=>by unfold Gu at hb;rw [heq] at hb;cases hb) ?_ h3
  unfold evalOp;rw [heq];simp only [h1,h2]
 ·rename_i heq;exact vU (λb v s hb he=>by unfold Gu at hb;rw [heq] at hb;cases hb) h
 ·rename_i heq;exact vU (λb v s hb he=>by unfold Gu at hb;rw [heq] at hb;cases hb) h
 ·rename_i heq;exact vU (λb v s hb he=>by unfold Gu at hb;rw [heq] at hb;cases hb) h
 ·rename_i heq;exact vU (λb v s hb he=>by unfold Gu at hb;rw [heq] at hb;cases hb) h
 ·rename_i heq;exact vU (λb v s hb he=>by unfold Gu at hb;rw [heq] at hb;cases hb) h
 ·rename_i heq;exact vU (λb v s hb he=>by unfold Gu at hb;rw [heq] at hb;cases hb) h
 ·
  rename_i f _ _ heq
  split at h
  ·rename_i Nt
   obtain ⟨v,s',h1,h2⟩:=vI h
   refine fin v s' (λb hb=>by unfold Gu at hb;rw [heq] at hb;cases hb) ?_ h2
   unfold evalOp;rw [heq];simp only [Nt];exact h1
  ·rename_i s Nt
   split at h
   ·rename_i HP
    obtain ⟨st1,hs,h⟩:=Bq.1 h
    obtain ⟨v,w',h1,h2,h3,NL,h4⟩:=gD (hw.to (Sq _ hs)) h
    refine ⟨v,w',?_,h3,NL,h4⟩
    have h1:Es T Γ st1 o=some v:=h1
    have h2:w'.st=st1:=h2
    unfold evalOp
    rw [heq]
    simp only [Nt,HP,hs,h1,h2]
    rfl
   ·rename_i HP
    obtain ⟨v,w',h1,h2,h3,NL,h4⟩:=gD hw h
    refine ⟨v,w',?_,h3,NL,h4⟩
    unfold evalOp
    rw [heq]
    simp only [Nt,HP,h1,h2]
    rfl
  ·rename_i Aoo Adi
   obtain ⟨v,w',h1,h2,h3,NL,h4⟩:=gD hw h
   refine ⟨v,w',?_,h3,NL,h4⟩
   unfold evalOp
   rw [heq]
   simp only
   rw [h1,h2];rfl
 ·rename_i n1 n2 n3 n4 n5 n6 n7 n8 n9 n10 n11 n12 n13 n14
  obtain ⟨v,w',h1,h2,h3,NL,h4⟩:=gD hw h
  refine ⟨v,w',?_,h3,NL,h4⟩
  unfold evalOp
  split
  all_goals first
   |(rw [h1,h2];rfl)
   |(rename_i hq;exact absurd hq (by first|exact n1 _|exact n2 _|exact n3 _|exact n4 _|exact n5 _|exact n6 _|exact n7 _|exact n8 _|exact n9 _|exact n10 _|exact n11 _|exact n12 _|exact n13 _|exact n14 _))
   |(rename_i hq;exact absurd hq (by first|exact n1 _ _|exact n2 _ _|exact n3 _ _|exact n4 _ _|exact n5 _ _|exact n6 _ _|exact n7 _ _|exact n8 _ _|exact n9 _ _|exact n10 _ _|exact n11 _ _|exact n12 _ _|exact n13 _ _|exact n14 _ _))
   |(rename_i hq;exact absurd hq (by first|exact n1 _ _ _|exact n2 _ _ _|exact n3 _ _ _|exact n4 _ _ _|exact n5 _ _ _|exact n6 _ _ _|exact n7 _ _ _|exact n8 _ _ _|exact n9 _ _ _|exact n10 _ _ _|exact n11 _ _ _|exact n12 _ _ _|exact n13 _ _ _|exact n14 _ _ _))
   |(rename_i hq;exact absurd hq (by first|exact n1 _ _ _ _|exact n2 _ _ _ _|exact n3 _ _ _ _|exact n4 _ _ _ _|exact n5 _ _ _ _|exact n6 _ _ _ _|exact n7 _ _ _ _|exact n8 _ _ _ _|exact n9 _ _ _ _|exact n10 _ _ _ _|exact n11 _ _ _ _|exact n12 _ _ _ _|exact n13 _ _ _ _|exact n14 _ _ _ _))
theorem vY (st:St) (d:Nat) (v:AV):(st.put (some d) v).get d=v\/(st.put (some d) v).get d= .undef:=by
 simp only [St.put,St.get]
 rw [Ps]
 by_cases h:d<st.tmps.length
 ·exact .inl (by rw [Ab ⟨rfl,h⟩])
 ·refine .inr ?_
  rw [Al (λhc=>h hc.2),Ah,Ev (by omega)]
  rfl
theorem WS.OK.sW {w:WS} (hw:w.OK) (o:Oper) (v:AV) (h: ∀b,Gu w.kn o=some b-> ∃fr,v= .at (.data fr .bool b)):(w.sW o v).OK/\(w.sW o v).st=w.st.put o.dst v:=by
 unfold WS.sW
 split
 ·rename_i d b hd hk
  split
  ·rename_i fr c hg
   refine ⟨?_,by rw [hd]⟩
   obtain ⟨Um,hv⟩:=h b hk
   intro t b' hb
   simp only [lv] at hb
   split at hb
   ·rename_i ht
    injection hb with hb
    subst ht;subst hb
    refine ⟨Um,?_⟩
    show (w.st.put (some d) v).get d=_
    cases vY w.st d v with
    |inl h1=>rw [h1,hv]
    |inr h1=>rw [h1] at hg;cases hg
   ·exact hw.put (some d) v t b' hb
  ·exact ⟨hw.put _ _,by rw [WS.rf,hd]⟩
 ·exact ⟨hw.put _ _,WS.rf _ _ _⟩
theorem o6 {ops:Array Oper} {w:WS} (hw:w.OK) {o:Oper} {run:(AV->WS->Prop)->WS->Prop} {R:St->Option (AV×St)} {K:WS->Prop}
  (hr: ∀(k:AV->WS->Prop) (w:WS),w.OK->run k w-> ∃v w',R w.st=some (v,w'.st)/\w'.OK/\(∀b,Gu w'.kn o=some b-> ∃fr,v= .at (.data fr .bool b))/\k v w') (h:gU ops w o run K):
  ∃w',(match o.guard with
   |none=>(R w.st).map λr=>r.2.put o.dst r.1
   |some (j,want)=>match Vt w.st ((ops[j]?).bind (·.dst)) with
    |some (some b)=>if b==want then (R w.st).map λr=>r.2.put o.dst r.1 else some (w.st.put o.dst (.at .skip))
    |some none=>some (w.st.put o.dst (.at .skip))
    |none=>none)=some w'.st/\w'.OK/\K w':=by
 have go: ∀w:WS,w.OK->run (λv w'=>K (w'.sW o v)) w-> ∃w',((R w.st).map λr=>r.2.put o.dst r.1)=some w'.st/\w'.OK/\K w':=by
  intro w hw h
  obtain ⟨v,w',h1,h2,h3,h4⟩:=hr _ _ hw h
  obtain ⟨h5,h6⟩:=h2.sW o v h3
  exact ⟨w'.sW o v,by rw [h1,h6];rfl,h5,h4⟩
 unfold gU at h
 split at h
 ·rename_i hg
  rw [hg]
  exact go w hw h
 ·rename_i j want hg
  rw [hg]
  obtain ⟨t,h1,h⟩:=Bq.1 h
  simp only [h1]
  split at h
  ·rename_i hs
   have hsk:w.st.get t= .at .skip:=by
    unfold AV.QK at hs
    split at hs
    ·assumption
    ·cases hs
   exact ⟨_,by simp only [Vt,hsk];rw [WS.rf],hw.put _ _,h⟩
  ·obtain ⟨fr,b,w',h2,h3,h4,h5⟩:=tT hw h
   have hb:Vt w.st (some t)=some (some b):=by simp only [Vt,h2]
   rw [hb]
   simp only
   cases b with
   |true=>
    cases want with
    |true=>rw [Ab (by decide),<-h3];exact go w' h4 h5
    |false=>exact ⟨_,by rw [Al (by decide),<-h3,WS.rf],h4.put _ _,h5⟩
   |false=>
    cases want with
    |false=>rw [Ab (by decide),<-h3];exact go w' h4 h5
    |true=>exact ⟨_,by rw [Al (by decide),<-h3,WS.rf],h4.put _ _,h5⟩
theorem aG {ops:Array Oper} {w:WS} (hw:w.OK) {o:Oper} {K:WS->Prop} (h:gU ops w o (λk w'=>VX T Γ w' o k) K): ∃w',En T Γ ops w.st o=some w'.st/\w'.OK/\K w':=by
 obtain ⟨w',h1,h2⟩:=o6 hw (R:= λst=>evalOp T Γ st o) (λk w hw h=>by
  obtain ⟨v,w',h1,h2,TY,h3⟩:=KS hw h
  exact ⟨v,w',h1,h2,TY,h3⟩) h
 exact ⟨w',h1,h2⟩
theorem OF {w:WS} (hw:w.OK) {o:Oper} {K:AV->WS->Prop} (h:bW T Γ w o K):
  ∃v w',Vo T Γ w.st o=some v/\w'.st=w.st/\w'.OK/\(∀b,Gu w'.kn o=some b-> ∃fr,v= .at (.data fr .bool b))/\K v w':=by
 unfold bW at h
 split at h
 ·rename_i t len parts pe
  obtain ⟨v,h1,h2⟩:=Bq.1 h
  exact ⟨v,w,by unfold Vo;rw [pe];exact h1,rfl,hw,λb hb=>by simp [Gu,pe] at hb,h2⟩
 ·rename_i t parts pe
  obtain ⟨v,h1,h2⟩:=Bq.1 h
  exact ⟨v,w,by unfold Vo;rw [pe];exact h1,rfl,hw,λb hb=>by simp [Gu,pe] at hb,h2⟩
 ·rename_i n1 n2
  obtain ⟨v,w',h1,h2⟩:=gD hw h
  refine ⟨v,w',?_,h2⟩
  rw [<-h1]
  unfold Vo
  split
  ·rename_i h9;exact absurd h9 (n1 _ _ _)
  ·rename_i h9;exact absurd h9 (n2 _ _)
  ·rfl
theorem WK {ops:Array Oper} {w:WS} (hw:w.OK) {o:Oper} {K:WS->Prop} (h:gU ops w o (λk w'=>bW T Γ w' o k) K): ∃v w',Vn T Γ ops w.st o=some v/\w'.st=w.st.put o.dst v/\w'.OK/\K w':=by
 obtain ⟨w',h1,h2,h3⟩:=o6 hw (R:= λst=>(Vo T Γ st o).map λv=>(v,st)) (λk w hw h=>by
  obtain ⟨v,w',h1,h2,h3,NL,h4⟩:=OF hw h
  exact ⟨v,w',by simp only [h1,h2];rfl,h3,NL,h4⟩) h
 have key: ∀u:Option AV,((u.map λv=>(v,w.st)).map λr=>r.2.put o.dst r.1)=some w'.st-> ∃v,u=some v/\w'.st=w.st.put o.dst v:=by
  intro u hu
  cases u with
  |none=>cases hu
  |some v=>injection hu with hu;exact ⟨v,rfl,hu.symm⟩
 unfold Vn
 split at h1
 ·rename_i hg
  obtain ⟨v,h4,h5⟩:=key _ h1
  exact ⟨v,w',by rw [hg];exact h4,h5,h2,h3⟩
 ·rename_i j want hg
  rw [hg]
  split at h1
  ·rename_i b hb
   simp only [hb]
   split at h1
   ·rename_i OZ
    obtain ⟨v,h4,h5⟩:=key _ h1
    exact ⟨v,w',by rw [Ab OZ];exact h4,h5,h2,h3⟩
   ·rename_i OZ
    injection h1 with h1
    exact ⟨_,w',by rw [Al OZ],h1.symm,h2,h3⟩
  ·rename_i hb
   simp only [hb]
   injection h1 with h1
   exact ⟨_,w',rfl,h1.symm,h2,h3⟩
  ·cases h1
theorem qX {ops:Array Oper} : ∀(l:List Oper) {w:WS} (_:w.OK) {K:WS->Prop},Ab4 T Γ ops l w K-> ∃w',Za T Γ ops l w.st=some w'.st/\w'.OK/\K w'
 | [],w,hw,K,h=>⟨w,rfl,hw,h⟩
 |o::r,w,hw,K,h=>by
  obtain ⟨w1,h1,h2,h3⟩:=aG hw h
  obtain ⟨w2,h4,h5⟩:=qX r h2 h3
  exact ⟨w2,by simp only [Za];rw [h1];exact h4,h5⟩
theorem dk {ops:Array Oper} : ∀(l:List Nat) {w:WS} (_:w.OK) {K:WS->Prop},QD T Γ ops l w K-> ∃w',Me T Γ ops l w.st=some w'.st/\w'.OK/\K w'
 | [],w,hw,K,h=>⟨w,rfl,hw,h⟩
 |i::r,w,hw,K,h=>by
  obtain ⟨o,h0,h⟩:=Bq.1 h
  obtain ⟨w1,h1,h2,h3⟩:=aG hw h
  obtain ⟨w2,h4,h5⟩:=dk r h2 h3
  exact ⟨w2,by simp only [Me];rw [h0];simp only [h1];exact h4,h5⟩
theorem Ms {ops:Array Oper} : ∀(l:List Nat) {w:WS} (_:w.OK) {K:WS->Prop},j5 T Γ ops l w K-> ∃w',Fl T Γ ops l w.st=some w'.st/\w'.OK/\K w'
 | [],w,hw,K,h=>⟨w,rfl,hw,h⟩
 |i::r,w,hw,K,h=>by
  obtain ⟨o,h0,h⟩:=Bq.1 h
  obtain ⟨v,w1,h1,h1',h2,h3⟩:=WK hw h
  obtain ⟨w2,h4,h5⟩:=Ms r h2 h3
  exact ⟨w2,by simp only [Fl];rw [h0];simp only [h1];rw [<-h1'];exact h4,h5⟩
theorem kH {P:Nat->Prop} : ∀(l:List Nat),OC l P-> ∀i∈l,P i
 | [],_,i,hi=>by cases hi
 | [k],h,i,hi=>by rw [Ad.1 hi];exact h
 |k::j::r,h,i,hi=>by
  rcases Bb.1 hi with rfl|hi
  ·exact h.1
  ·exact kH (j::r) h.2 i hi
theorem jK {ops:Array Oper} {K:WS->Prop} : ∀(f:Nat) (Af:Array Bool) {w:WS} (_:w.OK),JB T Γ ops f Af w K->anyS T Γ ops (λs=> ∃w':WS,w'.st=s/\w'.OK/\K w') f Af w.st
 |0,Af,w,hw,h=>by
  unfold JB at h
  split at h
  ·rename_i hr;exact ⟨hr,w,rfl,hw,h⟩
  ·cases h
 |f+1,Af,w,hw,h=>by
  unfold JB at h
  split at h
  ·cases h
  ·rename_i i r hr
   refine ⟨by rw [hr];simp,λk hk=>?_⟩
   rw [hr] at hk
   obtain ⟨o,h0,h1⟩:=Bq.1 (kH _ h k hk)
   obtain ⟨w1,h2,h3,h4⟩:=aG hw h1
   exact ⟨o,w1.st,h0,h2,jK f _ h3 h4⟩
theorem bY: ∀(l:List Oper) (d:Nat),d∈Jz l-> ∃o∈l,o.dst=some d
 | [],d,h=>by simp [Jz] at h
 |o::r,d,h=>by
  simp only [Jz] at h
  cases ho:o.dst with
  |none=>
   rw [ho] at h
   obtain ⟨o',h1,h2⟩:=bY r d (by simpa using h)
   exact ⟨o',An _ h1,h2⟩
  |some e=>
   rw [ho] at h
   rcases Bb.1 (by simpa using h) with h|h
   ·exact ⟨o,by simp,by rw [ho,h]⟩
   ·obtain ⟨o',h1,h2⟩:=bY r d h
    exact ⟨o',An _ h1,h2⟩
theorem l6 {ops:Array Oper} {K:WS->Prop} : ∀(f:Nat) (Af:Array Bool) {w:WS} (_:w.OK),ah T Γ ops f Af w K-> ∃w':WS,Fb (λt=>Ri ops t=true) w.st w'.st/\w'.OK/\K w'
 |0,Af,w,hw,h=>by
  simp only [ah] at h
  split at h
  ·exact ⟨w,λ_ _ _ _ _ hx=>hx,hw,h⟩
  ·exact h.elim
 |f+1,Af,w,hw,h=>by
  simp only [ah] at h
  split at h
  ·exact h.elim
  ·obtain ⟨o,ho,h1⟩:=Bq.1 h
   obtain ⟨w',h2,h3,h4⟩:=aG hw h1
   obtain ⟨w2,g1,g2⟩:=l6 f _ h3 h4
   refine ⟨w2,((ae h2).mono λt ht hd=>?_).trans g1,g2⟩
   unfold Ri Wv at ht
   have:(ops.toList.any λo=>o.dst==some t)=true:=Ej.2 ⟨o,mH ho,by rw [hd];exact beq_self_eq_true _⟩
   rw [this] at ht
   cases ht
theorem ki (p:Nat->Bool): ∀(i:Nat) (l0 l1:List AV),(∀t,(l0.getD t .undef).Wh=true->p (i+t)=true->l1.getD t .undef=l0.getD t .undef)->
  Tp (Ju p i l0) l0 (Sh (Ju p i l0) l1)=l1
 |_,[],l1,_=>by simp [Ju,Sh,Tp]
 |i,a::r,[],_=>by
  simp only [Ju]
  cases (a.Wh&&p i)<;>simp [Sh,Tp]
 |i,a::r,b::s,h=>by
  have hr:=ki p (i+1) r s λt h1 h2=>by
   have:=h (t+1) (by simpa using h1) (by rw [show i+(t+1)=i+1+t by omega];exact h2)
   simpa using this
  simp only [Ju]
  cases hc:(a.Wh&&p i) with
  |false=>simp only [Sh,Tp];rw [hr]
  |true=>
   simp only [Sh,Tp]
   rw [hr]
   simp only [Ag] at hc
   have:=h 0 (by simpa using hc.1) hc.2
   simp only [eb] at this
   rw [this]
theorem dt: ∀(f:List Bool) (l:List AV),(Sh f l).length=l.length
 | [],l=>by simp [Sh]
 |true::f,[]=>by simp [Sh]
 |false::f,[]=>by simp [Sh]
 |true::f,a::l=>by simp [Sh,dt f l]
 |false::f,a::l=>by simp [Sh,dt f l]
theorem JL {p:Nat->Bool} {w1 s0 s:St} (h1:Fb (λt=>p t=true) w1 s0) (h2:Fb (λt=>p t=true) w1 s) (h:eqM (Ju p 0 w1.tmps) s0 s):s=s0:=by
 have e:=cd h
 simp only [St.mask,St.mk.injEq] at e
 have key: ∀ {a:St},Fb (λt=>p t=true) w1 a->Tp (Ju p 0 w1.tmps) w1.tmps (Sh (Ju p 0 w1.tmps) a.tmps)=a.tmps:= λ {a} ha=>ki p 0 _ _ λt ht hp=>by
  rw [Cf] at hp
  cases hc:w1.tmps.getD t .undef with
  | «at»c=>
   cases c with
   |data fr τ x=>exact ha t fr τ x hp hc
   |_=>rw [hc] at ht;cases ht
  |_=>rw [hc] at ht;cases ht
 have e1:=key h1
 have e2:=key h2
 rw [e.1,e1] at e2
 obtain ⟨_,e4⟩:=e
 cases s;cases s0
 simp only at e2 e4
 rw [e4,e2]
theorem Zb {ops:Array Oper} {K:WS->Prop} : ∀(f:Nat) (Af:Array Bool) {w:WS} (_:w.OK),ah T Γ ops f Af w K-> ∃w':WS,w'.OK/\K w'
 |0,Af,w,hw,h=>by
  simp only [ah] at h
  split at h
  ·exact ⟨w,hw,h⟩
  ·exact h.elim
 |f+1,Af,w,hw,h=>by
  simp only [ah] at h
  split at h
  ·exact h.elim
  ·obtain ⟨o,ho,h1⟩:=Bq.1 h
   obtain ⟨w',h2,h3,h4⟩:=aG hw h1
   exact Zb f _ h3 h4
theorem nu {P:List (Nat×Nat×AV×OB)} {ops:Array Oper} {K:WS->Prop} : ∀(f:Nat) (Af:Array Bool) {w:WS} (_:w.OK),yd T Γ P ops f Af w K->ZC T Γ ops P (λs=> ∃w':WS,w'.st=s/\w'.OK/\K w') f Af w.st
 |0,Af,w,hw,h=>by
  unfold yd at h
  split at h
  ·rename_i hr;exact ⟨hr,w,rfl,hw,h⟩
  ·cases h
 |f+1,Af,w,hw,h=>by
  unfold yd at h
  split at h
  ·cases h
  ·rename_i i r hr
   refine ⟨by rw [hr];simp,λk hk=>?_⟩
   rw [hr] at hk
   obtain ⟨o,h0,h1⟩:=Bq.1 (kH _ h k hk)
   split at h1
   ·rename_i df
    obtain ⟨w1,h2,h3,h4⟩:=aG hw h1
    exact ⟨o,w1.st,h0,df,h2,nu f _ h3 h4⟩
   ·cases h1
theorem zw {α:Type} (f:α->Nat) {l:List α} (h:Yh (l.map f)=true):l.Pairwise λa c=>f a≠f c:=List.pairwise_map.1 (Wi h)
theorem bw {ops:Array Oper} {E:List Nat} {Af:Array Bool} {w:WS} (hw:w.OK): ∀(R:List Nat) {K:Prop},uY T Γ ops E Af w R K->K/\ ∀r∈R,pq ops E Af r=true\/ ∃o v,ops[r]?=some o/\Vn T Γ ops w.st o=some v/\ ∀d,o.dst=some d->w.st.get d=v
 | [],K,h=>⟨h,λr hr=>by cases hr⟩
 |r::R,K,h=>by
  unfold uY at h
  split at h
  ·rename_i hwt
   obtain ⟨h1,h2⟩:=bw hw R h
   refine ⟨h1,λq hq=>?_⟩
   rcases Bb.1 hq with rfl|hq
   ·exact .inl hwt
   ·exact h2 q hq
  ·obtain ⟨h0,h⟩:=h
   obtain ⟨h1,h2⟩:=bw hw R h
   refine ⟨h1,λq hq=>?_⟩
   rcases Bb.1 hq with rfl|hq
   ·refine .inr ?_
    obtain ⟨w',g1,_,g3⟩:=Ms _ hw h0
    obtain ⟨d,hd,g4⟩:=Bq.1 g3
    simp only [Fl] at g1
    split at g1
    ·cases g1
    rename_i o ho
    split at g1
    rotate_left
    ·cases g1
    rename_i v hv
    refine ⟨o,v,ho,hv,λd' BN=>?_⟩
    rw [ho] at hd
    have hdd:o.dst=some d:=hd
    rw [BN] at hdd
    cases hdd
    split at g4
    ·rename_i hl
     have e:=cd g4
     have e1:w'.st.get d=w.st.get d:=by
      have:=Hv (λs:St=>s.tmps) e
      simpa using this
     rw [<-e1]
     have e2:w.st.put o.dst v=w'.st:=Ba g1
     rw [<-e2,show o.dst=some d from hd]
     show (Rg w.st.tmps d v).getD d .undef=v
     rw [Ps,Ab ⟨rfl,by simpa [Ml] using hl⟩]
    ·cases g4
   ·exact h2 q hq
theorem aQ {ops:Array Oper} {E:List Nat} {K:WS->Prop} : ∀(f:Nat) (Af:Array Bool) {w:WS} (_:w.OK),pF T Γ ops E f Af w K->om T Γ ops E (λs=> ∃w':WS,w'.st=s/\w'.OK/\K w') f Af w.st
 |0,Af,w,hw,h=>by
  unfold pF at h
  obtain ⟨h,hs⟩:=bw hw _ h
  split at h
  ·rename_i hr;exact ⟨hs,hr,w,rfl,hw,h⟩
  ·cases h
 |f+1,Af,w,hw,h=>by
  unfold pF at h
  obtain ⟨h,hs⟩:=bw hw _ h
  split at h
  ·cases h
  ·rename_i i r hr
   refine ⟨hs,by rw [hr];simp,λk hk=>?_⟩
   rw [hr] at hk
   obtain ⟨o,h0,h1⟩:=Bq.1 (kH _ h k hk)
   obtain ⟨w1,h2,h3,h4⟩:=aG hw h1
   exact ⟨o,w1.st,h0,h2,aQ f _ h3 h4⟩
theorem x5 {ops:Array Oper} {E:List Nat} {L0:Array Bool} {n:Nat} {w:WS} (hw:w.OK) {K:WS->Prop} (h:ER T Γ E n L0 ops w K):UK T Γ ops (λs=> ∃w':WS,w'.st=s/\w'.OK/\K w') n L0 w.st:=by
 unfold ER at h
 split at h
 ·rename_i hb
  simp only [Ag] at hb
  obtain ⟨b1,b2,b3⟩:=hb
  obtain ⟨w1,h1,h2,h3⟩:=Ms _ hw h
  have h3:=Nd.1 h3
  obtain ⟨w0,g1,g2⟩:=Zb _ _ h2 h3
  obtain ⟨g3,g4⟩:=Nd.1 g2
  refine ⟨E,w1.st,b1,Nat.le_of_ble_eq_true b2,h1,Zk (λs hs=>?_) _ _ _ (aQ _ _ h2 g4)⟩
  obtain ⟨w',h5,_,h6⟩:=hs
  exact ⟨w0,((h5.symm.trans (cd (Nd.1 h6))).symm),g1,g3⟩
 ·cases h
theorem bU {ops:Array Oper} {t:Nat} :Ri ops t=true->t∉Jz ops.toList:= λh hm=>by
 obtain ⟨o,ho,hd⟩:=bY _ _ hm
 unfold Ri Wv at h
 have:(ops.toList.any λo=>o.dst==some t)=true:=Ej.2 ⟨o,ho,by rw [hd];exact beq_self_eq_true _⟩
 rw [this] at h
 cases h
theorem ye {ops:Array Oper} {E:List Nat} {K:St->Prop} (s0:St) (f:Nat) (Af:Array Bool) (st:St) (hk:Fb (λt=>Ri ops t=true) s0 st) (h:om T Γ ops E K f Af st):
  om T Γ ops E (λs=>K s/\Fb (λt=>Ri ops t=true) s0 s) f Af st:=by
 have h1:=jJ (draw:=true) st f Af st (λ_ _ _ _ _ hx=>hx) h
 exact Zk (λs hs=>⟨hs.1,hk.trans (hs.2.mono λt ht=>bU ht)⟩) _ _ _ h1
theorem WS.OK.Pk {w:WS} (hw:w.OK) (dead:List Nat):(w.Pk dead).OK:=by
 intro t b hb
 have key: ∀(l:List (Nat×Bool)),lv (l.filter λp=>!dead.contains p.1) t=some b->dead.contains t=false/\lv l t=some b:=by
  intro l
  induction l with
  |nil=>intro h;cases h
  |cons q r ih=>
   intro h
   obtain ⟨k,c⟩:=q
   by_cases hk:dead.contains k=true
   ·rw [List.filter_cons_of_neg (by rw [hk];decide)] at h
    obtain ⟨h1,h2⟩:=ih h
    refine ⟨h1,?_⟩
    unfold lv
    rw [Al (λe=>by subst e;rw [h1] at hk;cases hk)]
    exact h2
   ·have hk:dead.contains k=false:=by simpa using hk
    rw [List.filter_cons_of_pos (by rw [hk];rfl)] at h
    unfold lv at h⊢
    split at h
    ·rename_i e
     subst e
     rw [Ab rfl]
     exact ⟨hk,h⟩
    ·rename_i e
     rw [Al e]
     exact ih h
 obtain ⟨h1,h2⟩:=key _ hb
 obtain ⟨fr,h3⟩:=hw t b h2
 refine ⟨fr,?_⟩
 show (w.st.Pk dead).get t=_
 unfold St.Pk
 refine Sp _ _ t fr _ _ ?_
 show (Hr _ 0 w.st.tmps).getD t .undef=_
 rw [Ui _ 0 w.st.tmps t ?_]
 ·exact h3
 ·refine Da.2 ⟨Hu.2 ?_,by rw [Cf,h1];rfl⟩
  refine Cs λhn=>?_
  have:w.st.get t= .undef:=by
   unfold St.get
   rw [Ah,Ev (by omega)];rfl
  rw [h3] at this
  cases this
theorem zz {ops:Array Oper} {dead E:List Nat} (b3:dead.all (Wv ops)=true) {L0:Array Bool} {n:Nat} {w:WS} (hw:w.OK) {K:WS->Prop} (h:RE T Γ dead E n L0 ops w K):UK T Γ ops (λs=> ∃w':WS,w'.st=s.Pk dead/\w'.OK/\K w') n L0 w.st:=by
 unfold RE at h
 split at h
 ·rename_i hb
  simp only [Ag] at hb
  obtain ⟨b1,b2⟩:=hb
  obtain ⟨w1,h1,h2,h3⟩:=Ms _ hw h
  have h3:=Nd.1 h3
  refine ⟨E,w1.st,b1,Nat.le_of_ble_eq_true b2,h1,?_⟩
  split at h3
  ·refine Zk (λs hs=>?_) _ _ _ (aQ _ _ h2 h3)
   obtain ⟨w',h5,h6,h7⟩:=hs
   exact ⟨w'.Pk dead,by rw [<-h5];rfl,h6.Pk _,h7⟩
  ·rw [de] at h3
   obtain ⟨w0,g0,g1,g2⟩:=l6 _ _ h2 h3
   obtain ⟨g3,g4⟩:=Nd.1 g2
   refine Zk (λs hs=>?_) _ _ _ (ye w1.st _ _ _ (λ_ _ _ _ _ hx=>hx) (aQ _ _ h2 g4))
   obtain ⟨⟨w',h5,_,h6⟩,h7⟩:=hs
   have h6:=Nd.1 h6
   have k1:Fb (λt=>Ri ops t=true) w1.st (w0.Pk dead).st:=g0.trans ((gf b3 w0.st).mono λt ht=>bU ht)
   have k2:Fb (λt=>Ri ops t=true) w1.st (w'.Pk dead).st:=by
    show Fb _ w1.st (w'.st.Pk dead)
    rw [h5]
    exact h7.trans ((gf b3 s).mono λt ht=>bU ht)
   have e:=JL k1 k2 h6
   refine ⟨w0.Pk dead,?_,g1.Pk _,g3⟩
   rw [<-e,<-h5]
   rfl
 ·cases h
theorem so {ops:Array Oper} {L0:Array Bool} {n:Nat} {w:WS} (hw:w.OK) {K:WS->Prop} (hc:Sn ops L0) (h:vG T Γ (Xi T ops L0) n L0 ops w K):anyS T Γ ops (λs=> ∃w':WS,w'.st=s/\w'.OK/\K w') n L0 w.st\/UK T Γ ops (λs=> ∃w':WS,w'.st=s/\w'.OK/\K w') n L0 w.st:=by
 unfold vG at h
 split at h
 ·rename_i hb
  simp only [Ag] at hb
  obtain ⟨⟨b1,b2⟩,b3,b4,b5⟩:=hb
  have hm: ∀a∈Xi T ops L0,a.1∈Region.ready .any ops L0/\ ∃o,ops[a.1]?=some o/\cU T o=some a.2:= λa ha=>vA ha
  have p1:=zw (λa:Nat×Nat×AV×OB=>a.1) b1
  have p2:=zw (λa:Nat×Nat×AV×OB=>a.2.1) b2
  have hlen:(Xi T ops L0).length<=n:=Nat.le_of_ble_eq_true b4
  obtain ⟨w1,h1,h2,h3⟩:=dk _ hw h
  have h3:=Nd.1 h3
  obtain ⟨w0,g1,g2⟩:=Zb _ _ h2 h3
  obtain ⟨g3,g4⟩:=Nd.1 g2
  have hp:=zN (Γ:=Γ) _ w.st w1.st (λa ha=>(hm a ha).2) (λa ha=>qT (At.1 b3 a ha)) p2 h1
  refine .inl (ia (λs hs=>?_) _ _ _ (JA (λa ha=>(hm a ha).2) n (n-(Xi T ops L0).length) (Xi T ops L0) _ L0 w1.st w.st (by omega) (nu _ _ h2 g4) hp
   (UN (ops:=ops) λi hi=>by obtain ⟨a,ha,rfl⟩:=Bo.1 hi;exact (hm a ha).1) (λa ha=>ha) (p2.and p1) hc λa ha x hx=>bm (hm a ha).1 hx))
  obtain ⟨w',h5,_,h6⟩:=hs
  exact ⟨w0,((h5.symm.trans (cd h6)).symm),g1,g3⟩
 ·exact .inr (x5 hw h)
theorem ji {ops:Array Oper} {draw:Bool} {w:WS} (hw:w.OK) {K:WS->Prop} (h:pn T Γ ops draw w K):iP T Γ ops draw w.st (λs=> ∃w':WS,w'.st=s/\w'.OK/\K w'):=by
 unfold pn at h
 split at h
 ·split at h
  ·rename_i ho
   obtain ⟨w1,h1,h2,h3⟩:=Ms _ hw h
   obtain ⟨w2,h4,h5⟩:=dk _ h2 h3
   exact .inl ⟨w2.st,by simp only [Qn,Pw];rw [Ab ho,h1];exact h4,w2,rfl,h5⟩
  ·rename_i ho
   split at h
   ·rename_i ho2
    obtain ⟨w1,h1,h2,h3⟩:=Ms _ hw h
    obtain ⟨w2,h4,h5⟩:=dk _ h2 h3
    exact .inl ⟨w2.st,by simp only [Qn,Pw];rw [Al (by rw [ho];decide),Ab ho2,h1];exact h4,w2,rfl,h5⟩
   ·split at h
    ·rename_i hc
     simp only [Ag] at hc
     obtain ⟨w1,h1,h2,h3⟩:=Ms _ hw h
     split at h3
     ·exact .inr ⟨rfl,hc.1,w1.st,h1, .inl (jK _ _ h2 h3)⟩
     ·obtain ⟨w0,g1,g2⟩:=Zb _ _ h2 h3
      obtain ⟨g3,g4⟩:=Nd.1 g2
      exact .inr ⟨rfl,hc.1,w1.st,h1, .inl (ia (λs hs=>by
       obtain ⟨w',h5,_,h6⟩:=hs
       exact ⟨w0,((h5.symm.trans (cd h6)).symm),g1,g3⟩) _ _ _ (jK _ _ h2 g4))⟩
    ·split at h
     ·rename_i HP
      obtain ⟨w1,h1,h2,h3⟩:=Ms _ hw h
      exact .inr ⟨rfl,HP,w1.st,h1,so h2 (Yy _ _ _ nz) h3⟩
     ·cases h
 ·obtain ⟨w1,h1,h2⟩:=qX _ hw h
  exact .inl ⟨w1.st,by simp only [Qn];rw [Al (by simp)];exact h1,w1,rfl,h2⟩
theorem sX {ops:Array Oper} {draw:Bool} {w:WS} (hw:w.OK) {K:WS->Prop} (h:x8 T Γ ops draw w K):vu T Γ ops draw w.st (λs=> ∃w':WS,w'.st=s/\w'.OK/\K w'):=by
 unfold x8 at h
 split at h
 ·rename_i hb
  have b3:=(Bj.1 hb).2
  refine .inr ⟨s9 ops,b3,?_⟩
  split at h
  ·rename_i hc
   simp only [Ag,RD] at hc
   obtain ⟨w1,h1,h2,h3⟩:=Ms _ hw h
   exact .inr ⟨hc.1,hc.2.2.1,w1.st,h1, .inr (zz b3 h2 h3)⟩
  ·exact (ji hw h).mono λs ⟨w',h1,h2,h3⟩=>⟨w'.Pk (s9 ops),by rw [<-h1];rfl,h2.Pk _,h3⟩
 ·exact .inl (ji hw h)
end
end Go.Proofs.Ytkkdpknjohcekaa
