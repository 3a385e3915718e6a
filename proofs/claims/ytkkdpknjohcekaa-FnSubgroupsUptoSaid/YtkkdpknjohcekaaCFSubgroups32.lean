/-
  Part 33 of the proof that the statement FnSubgroups holds.
-/
import Derived.Test.YtkkdpknjohcekaaCFSubgroups31
namespace Go.Proofs.Ytkkdpknjohcekaa
open Go.RowKit
section
variable {T:Tab} {Γ:Env}
def WS.OK (w:WS):Prop:= ∀t b,o9 w.kn t=some b-> ∃fr,w.st.get t= .at (.data fr .bool b)
theorem mD: ∀(l:List (Nat×Bool)) (d t:Nat) (b:Bool),o9 (xE l d) t=some b->t≠d/\o9 l t=some b
 | [],_,_,_,h=>by cases h
 |(k,c)::r,d,t,b,h=>by
  simp only [xE] at h
  split at h
  ·rename_i hk
   have:=mD r d t b h
   refine ⟨this.1,?_⟩
   simp only [o9]
   rw [Ak (by rw [hk];exact λh=>this.1 h.symm)]
   exact this.2
  ·rename_i hk
   simp only [o9] at h⊢
   split at h
   ·rename_i hkt
    exact ⟨by rw [<-hkt];exact hk,by rw [Ab hkt];exact h⟩
   ·rename_i hkt
    rw [Ak hkt]
    exact mD r d t b h
theorem WS.OK.put {w:WS} (h:w.OK) (dst:Option Tmp) (v:AV):(w.put dst v).OK:=by
 cases dst with
 |none=>exact h
 |some d=>
  intro t b hb
  obtain ⟨h1,h2⟩:=mD _ _ _ _ hb
  obtain ⟨fr,h3⟩:=h t b h2
  exact ⟨fr,by show (w.st.put (some d) v).get t=_;rw [bK _ _ h1];exact h3⟩
theorem WS.uw (w:WS) (dst:Option Tmp) (v:AV):(w.put dst v).st=w.st.put dst v:=by cases dst<;>rfl
theorem WS.OK.to {w:WS} (h:w.OK) {s:St} (hs:Cq w.st s):(w.to s).OK:=by
 intro t b hb
 obtain ⟨fr,h3⟩:=h t b hb
 exact ⟨fr,hs t fr _ _ h3⟩
theorem xb {w:WS} (hw:w.OK) {t:Nat} {K:Bool->WS->Prop} (h:brT w t K):
  ∃fr b w',w.st.get t= .at (.data fr .bool b)/\w'.st=w.st/\w'.OK/\K b w':=by
 unfold brT at h
 split at h
 ·rename_i b hb
  obtain ⟨fr,h1⟩:=hw t b hb
  exact ⟨fr,b,w,h1,rfl,hw,h⟩
 ·split at h
  ·rename_i fr b hb
   obtain ⟨h1,h2⟩:=h
   have ok: ∀c:Bool,b=c->WS.OK {kn:=(t,c)::w.kn,st:=w.st} :=by
    intro c hc t' b' h'
    simp only [o9] at h'
    split at h'
    ·rename_i ht
     injection h' with h'
     exact ⟨fr,by rw [<-ht,<-h',<-hc];exact hb⟩
    ·exact hw t' b' h'
   cases b with
   |true=>exact ⟨fr,true, {kn:=(t,true)::w.kn,st:=w.st},hb,rfl,ok true rfl,h1 rfl⟩
   |false=>exact ⟨fr,false, {kn:=(t,false)::w.kn,st:=w.st},hb,rfl,ok false rfl,h2 rfl⟩
  ·cases h
theorem xa {w:WS} (hw:w.OK) {c:Operand} {K:Bool->WS->Prop} (h:brO w c K):
  ∃fr b w',w.st.ev c= .at (.data fr .bool b)/\w'.st=w.st/\w'.OK/\K b w':=by
 unfold brO at h
 split at h
 ·exact xb hw h
 ·exact ⟨true,_,w,rfl,rfl,hw,h⟩
 ·cases h
theorem KQ {op:BinOp} {t:TypeId} {x y:AV} {K:AV->Prop} (h:Aiq T op t x y K): ∃v,Tr T op t x y=some v/\K v:=by
 unfold Aiq at h
 split at h
 ·split at h
  ·rename_i hk
   exact ⟨_,by simp only [Tr,evalBin,tN];rw [Ab hk,Ak h.1];rfl,h.2⟩
  ·cases h
 ·split at h
  ·rename_i hk
   exact ⟨_,by simp only [Tr,evalBin,tN];rw [Ab hk,Ak h.1];rfl,h.2⟩
  ·cases h
 ·exact ⟨_,by simp only [Tr,evalBin];rw [Ak h.1];rfl,h.2⟩
 ·exact ⟨_,by simp only [Tr,evalBin];rw [Ak h.1];rfl,h.2⟩
 ·exact ⟨_,by simp only [Tr,evalBin];rw [Ab h.1],h.2⟩
 ·exact Cc.1 h
theorem GL {st:St} {t:TypeId} {p:AV} {K:AV->Prop} (h:Aak T st t p K): ∃v,Px T st t p=some v/\K v:=by
 unfold Aak at h
 split at h
 ·obtain ⟨τ,h1,h2⟩:=Cc.1 h
  split at h2
  ·rename_i hb
   split at h2
   ·rename_i he
    obtain ⟨x,h3,h4⟩:=h2
    exact ⟨_,by simp only [Px,h1,hb,Ab he,h3];rfl,h4⟩
   ·cases h2
  ·rename_i hb
   split at h2
   ·rename_i he
    obtain ⟨x,h3,h4⟩:=h2
    exact ⟨_,by simp only [Px,h1,hb,Ab he,h3];rfl,h4⟩
   ·cases h2
  ·rename_i hb
   split at h2
   ·cases h2
   ·rename_i he
    exact ⟨_,by simp only [Px,h1,hb,Ak he],h2⟩
  ·cases h2
 ·obtain ⟨τ,h1,h2⟩:=Cc.1 h
  split at h2
  ·rename_i he
   obtain ⟨y,h3,h4⟩:=h2
   subst h3
   exact ⟨_,by simp only [Px,h1,Ab he],h4⟩
  ·cases h2
 ·exact Cc.1 h
theorem pv {s:TypeId} {x:AV} {f:Nat} {K:AV->Prop} (h:mj T s x f K): ∃v,Nq T s x f=some v/\K v:=by
 unfold mj at h
 split at h
 ·obtain ⟨y,h1,h2⟩:=h
  subst h1
  obtain ⟨v,h3,h4⟩:=Cc.1 h2
  refine ⟨v,?_,h4⟩
  rw [<-h3]
  unfold Nq
  cases T.off s f<;>rfl
 ·exact Cc.1 h
theorem BC {st:St} {t:TypeId} {x:AV} {lo hi:Option AV} {K:AV->Prop} (h:OF T st t x lo hi K): ∃v,ej T st t x lo hi=some v/\K v:=by
 unfold OF at h
 obtain ⟨n,h1,h⟩:=Cc.1 h
 obtain ⟨l,h2,h⟩:=Cc.1 h
 obtain ⟨hh,h3,hc,h⟩:=Cc.1 h
 obtain ⟨v,h4,h5⟩:=Cc.1 h
 refine ⟨v,?_,h5⟩
 simp only [ej,h1,h2,h3,Ab hc]
 exact h4
theorem pC {st:St} {t:TypeId} {x i:AV} {K:AV->Prop} (h:mA T st t x i K): ∃v,Kn T st t x i=some v/\K v:=by
 unfold mA at h
 split at h
 ·split at h
  ·rename_i he
   obtain ⟨x,h3,h4⟩:=h
   exact ⟨_,by simp only [Kn,Ab he,h3];rfl,h4⟩
  ·cases h
 ·split at h
  ·rename_i hb
   split at h
   ·rename_i he
    obtain ⟨h3,h4⟩:=h
    exact ⟨_,by simp only [Kn,hb];rw [Ab ⟨he.1,he.2,Ug.2 h3⟩],h4⟩
   ·cases h
  ·rename_i hb
   split at h
   ·rename_i he
    obtain ⟨h3,h4⟩:=h
    exact ⟨_,by simp only [Kn,hb];rw [Ab ⟨he.1,he.2,Ug.2 h3⟩],h4⟩
   ·cases h
  ·rename_i hb
   split at h
   ·rename_i he
    obtain ⟨h3,h4⟩:=h
    exact ⟨_,by simp only [Kn,hb];rw [Ab ⟨he.1,he.2,Ug.2 h3⟩],h4⟩
   ·cases h
  ·cases h
 ·split at h
  ·rename_i hb
   split at h
   ·rename_i he
    obtain ⟨h3,h4⟩:=h
    exact ⟨_,by simp only [Kn,hb];rw [Ab ⟨he,Ug.2 h3⟩],h4⟩
   ·cases h
  ·cases h
 ·cases h
theorem zv {t:TypeId} {x i:AV} {K:AV->Prop} (h:MB T t x i K): ∃v,kh T t x i=some v/\K v:=by
 unfold MB at h
 split at h
 ·split at h
  ·rename_i he
   obtain ⟨h1,b,h3,h4⟩:=h
   exact ⟨_,by simp only [kh,Ab he,Ab h1,h3];rfl,h4⟩
  ·cases h
 ·cases h
theorem cB {st:St} {f:FuncId} {args:List AV} {K:AV->Prop} (h:xc Γ st f args K): ∃v,Ok Γ st f args=some v/\K v:=by
 unfold xc at h
 obtain ⟨s,h1,h⟩:=Cc.1 h
 have h1:Γ f=some (.q s):=by
  split at h1
  ·rename_i s' hs;injection h1 with h1;rw [hs,h1]
  ·cases h1
 split at h
 ·rename_i hf
  obtain ⟨p,h2,y,h3,h4⟩:=Cc.1 h
  refine ⟨_,?_,h4⟩
  simp only [Ok,h1]
  rw [Ab hf,h2]
  simp only [h3]
  rfl
 ·cases h
theorem yU {st:St} {v:AV} {args:List AV} {K:AV->Prop} (h:KS Γ st v args K): ∃u,Xs Γ st v args=some u/\K u:=by
 unfold KS at h
 split at h
 ·split at h
  ·rename_i hc
   split at h
   ·rename_i hf
    obtain ⟨u,h1,h2⟩:=cB h
    exact ⟨u,by simp only [Xs];rw [Ab hc,Ab (by simpa using hf)];exact h1,h2⟩
   ·rename_i hf
    obtain ⟨u,h1,h2⟩:=cB h
    exact ⟨u,by simp only [Xs];rw [Ab hc,Ak (λhx=>by rw [show Nat.blt _ 1000000000=true from by simpa using hx] at hf;cases hf)];exact h1,h2⟩
  ·cases h
 ·exact cB h
 ·cases h
theorem Pd {w:WS} (hw:w.OK) {x:Operand} {b:Bool} (hk:Wm w.kn x=some b): ∃fr,w.st.ev x= .at (.data fr .bool b):=by
 unfold Wm at hk
 split at hk
 ·injection hk with hk;subst hk;exact ⟨true,rfl⟩
 ·exact hw _ _ hk
 ·cases hk
theorem wk {w:WS} (hw:w.OK) {o:Oper} {b:Bool} (hk:Hf w.kn o=some b) {v:AV} (he:Fl T Γ w.st o=some v): ∃fr,v= .at (.data fr .bool b):=by
 unfold Hf at hk
 split at hk
 ·rename_i heq;unfold Fl at he;rw [heq] at he;injection he with he;obtain ⟨fr,h⟩:=Pd hw hk;exact ⟨fr,he.symm.trans h⟩
 ·rename_i heq;unfold Fl at he;rw [heq] at he;injection he with he;obtain ⟨fr,h⟩:=Pd hw hk;exact ⟨fr,he.symm.trans h⟩
 ·rename_i x heq
  cases hx:Wm w.kn x with
  |none=>rw [hx] at hk;cases hk
  |some c=>
   rw [hx] at hk
   injection hk with hk
   obtain ⟨fr,h⟩:=Pd hw hx
   unfold Fl at he;rw [heq] at he
   simp only [h,zc,Oy] at he
   injection he with he
   exact ⟨true,by rw [<-he,<-hk]⟩
 ·rename_i c x y heq
  unfold Fl at he;rw [heq] at he
  split at hk
  ·rename_i hc
   obtain ⟨fr,h⟩:=Pd hw hc
   simp only [h,eh,Ny] at he
   injection he with he
   obtain ⟨fr,h⟩:=Pd hw hk
   exact ⟨fr,he.symm.trans h⟩
  ·rename_i hc
   obtain ⟨fr,h⟩:=Pd hw hc
   simp only [h,eh,Df,Rb] at he
   injection he with he
   obtain ⟨fr,h⟩:=Pd hw hk
   exact ⟨fr,he.symm.trans h⟩
  ·cases hk
 ·cases hk
theorem ug {w:WS} (hw:w.OK) {o:Oper} {x:Operand} (ho:o.op= .assign x) {b:Bool} (hk:Hf w.kn o=some b) {v:AV} {s:St} (he:evalOp T Γ w.st o=some (v,s)): ∃fr,v= .at (.data fr .bool b):=by
 unfold Hf at hk
 rw [ho] at hk
 obtain ⟨fr,h⟩:=Pd hw hk
 unfold evalOp at he;rw [ho] at he
 simp only [h] at he
 injection he with he;injection he with he;exact ⟨fr,he.symm⟩
theorem jx {w:WS} (hw:w.OK) {o:Oper} {K:AV->WS->Prop} (h:qW T Γ w o K):
  ∃v w',Fl T Γ w.st o=some v/\w'.st=w.st/\w'.OK/\(∀b,Hf w'.kn o=some b-> ∃fr,v= .at (.data fr .bool b))/\K v w':=by
 have fin:(∃v w',Fl T Γ w.st o=some v/\w'.st=w.st/\w'.OK/\K v w')-> ∃v w',Fl T Γ w.st o=some v/\w'.st=w.st/\w'.OK/\(∀b,Hf w'.kn o=some b-> ∃fr,v= .at (.data fr .bool b))/\K v w':=by
  rintro ⟨v,w',h1,h2,h3,h4⟩
  exact ⟨v,w',h1,h2,h3,λb hb=>wk h3 hb (by rw [h2];exact h1),h4⟩
 refine fin ?_
 unfold qW at h
 split at h
 ·rename_i c a b heq
  obtain ⟨fr,t,w',h1,h2,h3,h4⟩:=xa hw h
  cases t with
  |true=>exact ⟨_,w',by unfold Fl;rw [heq];simp only [h1,eh,Ny];rw [<-h2],h2,h3,h4⟩
  |false=>exact ⟨_,w',by unfold Fl;rw [heq];simp only [h1,eh];rw [<-h2];simp,h2,h3,h4⟩
 ·rename_i heq
  obtain ⟨v,h1,h2⟩:=GL h
  exact ⟨v,w,by unfold Fl;rw [heq];exact h1,rfl,hw,h2⟩
 ·rename_i heq
  obtain ⟨v,h1,h2⟩:=KQ h
  exact ⟨v,w,by unfold Fl;rw [heq];exact h1,rfl,hw,h2⟩
 ·rename_i heq
  split at h
  ·obtain ⟨v,h1,h2⟩:=BC h
   exact ⟨v,w,by unfold Fl;rw [heq];simpa using h1,rfl,hw,h2⟩
  ·cases h
 ·rename_i heq
  obtain ⟨v,h1,h2⟩:=pC h
  exact ⟨v,w,by unfold Fl;rw [heq];exact h1,rfl,hw,h2⟩
 ·rename_i heq
  obtain ⟨v,h1,h2⟩:=zv h
  exact ⟨v,w,by unfold Fl;rw [heq];exact h1,rfl,hw,h2⟩
 ·rename_i heq
  obtain ⟨v,h1,h2⟩:=cB h
  exact ⟨v,w,by unfold Fl;rw [heq];exact h1,rfl,hw,h2⟩
 ·rename_i heq
  obtain ⟨v,h1,h2⟩:=yU h
  exact ⟨v,w,by unfold Fl;rw [heq];exact h1,rfl,hw,h2⟩
 ·rename_i heq
  obtain ⟨v,h1,h2⟩:=pv h
  exact ⟨v,w,by unfold Fl;rw [heq];exact h1,rfl,hw,h2⟩
 ·rename_i x heq
  unfold xQ at h
  split at h
  ·rename_i fr τ z hx
   obtain ⟨y,h1,h2⟩:=h
   subst h1
   exact ⟨_,w,by unfold Fl;rw [heq];simp only [hx],rfl,hw,h2⟩
  ·obtain ⟨v,h1,h2⟩:=Cc.1 h
   exact ⟨v,w,h1,rfl,hw,h2⟩
 ·obtain ⟨v,h1,h2⟩:=Cc.1 h
  exact ⟨v,w,h1,rfl,hw,h2⟩
theorem BW {st:St} {t:TypeId} {p v:AV} {K:St->Prop} (h:OT T st t p v K): ∃s,Vb T st t p v=some s/\K s:=by
 unfold OT at h
 split at h
 ·obtain ⟨τ,h1,h⟩:=Cc.1 h
  obtain ⟨q,h2,h⟩:=Cc.1 h
  split at h
  ·rename_i hb
   obtain ⟨u,h3,h⟩:=Cc.1 h
   split at h
   ·rename_i hc
    obtain ⟨h4,h5⟩:=h
    obtain ⟨q1,q2⟩:=q
    obtain ⟨u1,u2⟩:=u
    exact ⟨_,by simp only [Vb,h1,h2,hb,h3];rw [Ip hc,Ab h4],h5⟩
   ·cases h
  ·cases h
 ·exact Cc.1 h
theorem wP {st:St} {t:TypeId} {p v:AV} {K:St->Prop} (h:BS T st t p v K): ∃s,Ph T st t p v=some s/\K s:=by
 unfold BS at h
 unfold Ph
 split at h
 rotate_left
 ·rename_i hg;rw [hg];exact BW h
 rename_i hg
 rw [hg]
 simp only
 unfold SM at h
 split at h
 ·obtain ⟨τ,h1,h⟩:=Cc.1 h
  obtain ⟨q,h2,h⟩:=Cc.1 h
  split at h
  ·rename_i hb
   obtain ⟨u,h3,h⟩:=Cc.1 h
   split at h
   ·rename_i hc
    obtain ⟨q1,q2⟩:=q
    obtain ⟨u1,u2⟩:=u
    exact ⟨_,by simp only [bH,h1,h2,hb,h3];rw [Ip hc],h⟩
   ·cases h
  ·cases h
 ·rename_i l j
  obtain ⟨τ,h1,h⟩:=Cc.1 h
  split at h
  ·rename_i e te rows out kp m off len hl _
   split at h
   ·rename_i fr tr e' tid xs hm
    split at h
    ·rename_i hc
     obtain ⟨h2,h3,h4,h5⟩:=h
     have h4:out=none\/out=some j:=by
      cases out with
      |none=>exact .inl rfl
      |some i=>exact .inr (Cx some h4)
     exact ⟨_,by simp only [bH,h1,hl,hm];rw [Ip ⟨hc.1,hc.2,h2,h3,h4⟩],h5⟩
    ·cases h
   ·cases h
  ·cases h
 ·cases h
theorem Zb {st:St} {d:Nat} {t:TypeId} {x y:Operand} {K:AV->St->Prop} (h:nq T st d t x y K): ∃v s,Np T st d t x y=some (v,s)/\K v s:=by
 unfold nq at h
 obtain ⟨te,h1,h⟩:=Cc.1 h
 obtain ⟨e,h2,h⟩:=Cc.1 h
 obtain ⟨q,h3,h⟩:=Cc.1 h
 obtain ⟨u,h4,h⟩:=Cc.1 h
 obtain ⟨q1,q2⟩:=q
 obtain ⟨u1,u2⟩:=u
 split at h
 ·rename_i hx
  split at h
  ·rename_i hd
   obtain ⟨h5,h6⟩:=h
   refine ⟨_,_,?_,h6⟩
   simp only [Np,h1,h2,h3,h4]
   rw [hx]
   simp only
   rw [Ab ⟨h5,by simpa [Mw] using hd⟩]
   simp
  ·cases h
 ·rename_i l off len hx
  split at h
  ·rename_i fr tr e' tid xs hb
   split at h
   ·rename_i hc
    obtain ⟨h5,h6,h7,h8⟩:=h
    refine ⟨_,_,?_,h8⟩
    simp only [Np,h1,h2,h3,h4]
    rw [hx]
    simp only [hb]
    rw [Ip ⟨hc.1,hc.2.1⟩,Ab ⟨h7,by simpa [Mw] using hc.2.2⟩]
    obtain ⟨XN,hc2,hc3⟩:=hc
    subst XN
    subst h5
    simp only [Dy,h6,Bg,Ay]
   ·cases h
  ·cases h
 ·cases h
theorem sI {st:St} {d:Nat} {t:TypeId} {x y:Operand} {K:AV->St->Prop} (h:sH T st d t x y K): ∃v s,Re T st d t x y=some (v,s)/\K v s:=by
 unfold sH at h
 cases x with
 |tmp tx=>
  simp only at h
  unfold Re
  simp only
  cases hg:st.get tx with
  | «at»c=>
   rw [hg] at h
   cases c with
   |sub l i c=>
    simp only at h⊢
    obtain ⟨tid,h1,h⟩:=Cc.1 h
    split at h
    ·rename_i hl
     split at h
     ·rename_i hc
      obtain ⟨v,s,h2,h3⟩:=Zb h
      refine ⟨v,s,?_,h3⟩
      simp only [hl,h1]
      rw [Ab hc]
      exact h2
     ·cases h
    ·cases h
   |_=>exact Zb h
  |_=>rw [hg] at h;exact Zb h
 |_=>exact Zb h
theorem GR {st:St} {d:Nat} {t:TypeId} {l c:AV} {K:AV->St->Prop} (h:Aaq T st d t l c K): ∃v s,bF T st d t l c=some (v,s)/\K v s:=by
 unfold Aaq at h
 split at h
 ·obtain ⟨te,h1,h⟩:=Cc.1 h
  obtain ⟨e,h2,h⟩:=Cc.1 h
  split at h
  ·rename_i hz
   obtain ⟨h3,h4,h5⟩:=h
   refine ⟨_,_,?_,h5⟩
   simp only [Ai] at hz
   simp only [bF,h1,h2]
   rw [Ab ⟨Ug.2 (by exact_mod_cast h3),h4,hz.1,by simpa [Mw] using hz.2⟩]
   simp
  ·cases h
 ·cases h
theorem zO {st:St} {d:Nat} {t:TypeId} {l c:AV} {K:AV->St->Prop} (h:MN T st d t l c K): ∃v s,Xt T st d t l c=some (v,s)/\K v s:=by
 unfold MN at h
 unfold Xt
 cases hg:eo T t with
 |none=>rw [hg] at h;exact GR h
 |some p=>
  obtain ⟨te,e⟩:=p
  rw [hg] at h
  simp only at h⊢
  split at h
  ·split at h
   ·rename_i hd
    obtain ⟨h3,h4,h5⟩:=h
    refine ⟨_,_,?_,h5⟩
    simp only
    rw [Ab ⟨Ug.2 (by exact_mod_cast h3),h4,by simpa [Mw] using hd⟩]
    simp
   ·cases h
  ·cases h
theorem mc {st:St} {d:Nat} {t:TypeId} {len:Nat} {parts:Array (Nat×Operand)} {K:AV->St->Prop} (h:fh T st d t len parts K): ∃v s,Iq T st d t len parts=some (v,s)/\K v s:=by
 unfold fh at h
 unfold Iq
 cases hg:eo T t with
 |none=>
  rw [hg] at h
  obtain ⟨r,h1,h2⟩:=Cc.1 h
  exact ⟨r.1,r.2,h1,h2⟩
 |some p=>
  obtain ⟨te,e⟩:=p
  rw [hg] at h
  simp only at h⊢
  split at h
  ·rename_i x hp
   split at h
   ·rename_i m off ln hx
    split at h
    ·rename_i hm
     split at h
     ·rename_i hc
      obtain ⟨h1,h2,h3⟩:=h
      refine ⟨_,_,?_,h3⟩
      simp only [hp,hx,hm]
      rw [Ip ⟨hc.1,hc.2,h1,h2⟩]
     ·cases h
    ·cases h
   ·cases h
  ·cases h
theorem sK {st:St} {d:Nat} {t:TypeId} {x y:Operand} {K:AV->St->Prop} (h:sJ T st d t x y K): ∃v s,Rf T st d t x y=some (v,s)/\K v s:=by
 unfold sJ at h
 unfold Rf
 cases hg:eo T t with
 |none=>rw [hg] at h;exact sI h
 |some p=>
  obtain ⟨te,e⟩:=p
  rw [hg] at h
  simp only at h⊢
  split at h
  ·rename_i l off len m Aay GC hx hy
   split at h
   ·rename_i hl hm
    split at h
    ·rename_i hc
     obtain ⟨h1,h2,h3,h4,h5⟩:=h
     obtain ⟨⟨rfl,rfl⟩,hc⟩:=hc
     refine ⟨_,_,?_,h5⟩
     simp only [hx,hy,hl,hm]
     rw [Ip (⟨⟨trivial,trivial⟩,hc,h1,h2,h3,h4⟩)]
     simp
    ·cases h
   ·cases h
  ·cases h
theorem CG {st:St} {io:Bool} {k:Nat} {c:CK} {a:AC} {K:c.den->List (Nat×Loc)->Prop} (h:gm st io k c a K): ∃x t,Lx st io k c a=some (x,t)/\K x t:=by
 cases c with
 |Fe τ=>
  cases a with
  |own l off len=>
   obtain ⟨p,h1,h2⟩:=Cc.1 h
   exact ⟨_,_,by simp only [Lx];rw [h1];rfl,h2⟩
  |clo g Ek=>
   simp only [gm] at h
   split at h
   ·rename_i hc
    obtain ⟨p,h1,h2⟩:=Cc.1 h
    exact ⟨_,_,by simp only [Lx];rw [Ab hc,h1];rfl,h2⟩
   ·cases h
  |He l i=>
   simp only [gm] at h
   split at h
   ·rename_i hc
    obtain ⟨p,h1,h2⟩:=Cc.1 h
    exact ⟨_,_,by simp only [Lx];rw [Ab hc,h1];rfl,h2⟩
   ·cases h
  |sub l i c=>
   obtain ⟨p,h1,h2⟩:=Cc.1 h
   exact ⟨_,_,by simp only [Lx];rw [h1];rfl,h2⟩
  |_=>
   simp only [gm] at h
   split at h
   ·rename_i hc
    obtain ⟨p,h1,h2⟩:=Cc.1 h
    exact ⟨_,_,by simp only [Lx];rw [Ab hc,h1];rfl,h2⟩
   ·cases h
 |row e te=>
  cases a<;>simp only [gm] at h<;>first|(cases h;done)|skip
  ·exact ⟨_,_,rfl,h⟩
  ·split at h
   ·rename_i hl
    split at h
    ·rename_i hc
     obtain ⟨h1,h2,h3⟩:=h
     exact ⟨_,_,by simp only [Lx,hl];rw [Ip ⟨hc.1,hc.2,h1,h2⟩],h3⟩
    ·cases h
   ·cases h
  ·split at h
   ·rename_i hl
    split at h
    ·rename_i hc
     obtain ⟨y,h1,h2⟩:=h
     exact ⟨_,_,by simp only [Lx,hl];rw [Ip hc,h1];rfl,h2⟩
    ·cases h
   ·cases h
 |Ho e te=>
  cases a<;>simp only [gm] at h<;>first|(cases h;done)|skip
  ·exact ⟨_,_,rfl,h⟩
  ·split at h
   ·rename_i hl
    split at h
    ·rename_i hc
     obtain ⟨h1,h2,h3⟩:=h
     exact ⟨_,_,by simp only [Lx,hl];rw [Ip ⟨hc.1,hc.2,h1,h2⟩],h3⟩
    ·cases h
   ·cases h
  ·split at h
   ·rename_i hl
    split at h
    ·rename_i hc
     obtain ⟨y,h1,h2⟩:=h
     exact ⟨_,_,by simp only [Lx,hl];rw [Ip hc,h1];rfl,h2⟩
    ·cases h
   ·cases h
 |part e te=>
  cases a<;>simp only [gm] at h<;>first|(cases h;done)|skip
  split at h
  ·rename_i hl
   split at h
   ·rename_i hc
    exact ⟨_,_,by simp only [Lx,hl];rw [Ip hc],h⟩
   ·cases h
  ·cases h
 |Bo e te kp=>
  cases a<;>simp only [gm] at h<;>first|(cases h;done)|skip
  split at h
  ·rename_i hl
   split at h
   ·rename_i hc
    obtain ⟨h1,h2,h3⟩:=h
    exact ⟨_,_,by simp only [Lx,hl];rw [Ip ⟨hc.1,hc.2.1,h1,h2,hc.2.2⟩],h3⟩
   ·cases h
  ·cases h
theorem IA {st:St} {e:Ty} {ys:List e.den} {a:AC} {K:St->Prop} (h:Abn st e ys a K): ∃s,NR st e ys a=some s/\K s:=by
 cases a<;>simp only [Abn] at h<;>first|(cases h;done)|skip
 split at h
 ·rename_i hl
  split at h
  ·rename_i hc
   obtain ⟨h1,h3⟩:=h
   exact ⟨_,by simp only [NR,hl];rw [Ip ⟨hc,h1⟩],h3⟩
  ·cases h
 ·cases h
theorem lL {st:St} : ∀(cs:List (Bool×CK)) (k:Nat) (as:List AC) (K:Ins.den cs->List (Nat×Loc)->Prop),CH st k cs as K-> ∃x t,gp st k cs as=some (x,t)/\K x t
 | [],_,[],_,h=>⟨_,_,rfl,h⟩
 | [],_,_::_,_,h=>h.elim
 |_::_,_,[],_,h=>h.elim
 |p::r,k,a::as,K,h=>by
  obtain ⟨x,t1,h1,h2⟩:=CG h
  obtain ⟨y,t2,h3,h4⟩:=lL r (k+1) as _ h2
  exact ⟨_,_,by simp only [gp,h1,h3],h4⟩
theorem rf {st:St} {c:CK} {ys:c.den} {a:AC} {K:St->Prop} (h:re st c ys a K): ∃s,cw st c ys a=some s/\K s:=by
 cases c with
 |Fe τ=>cases a<;>simp only [re] at h<;>first|(cases h;done)|exact ⟨_,rfl,h⟩
 |row e te=>
  cases a<;>simp only [re] at h<;>first|(cases h;done)|skip
  ·exact ⟨_,rfl,h⟩
  ·split at h
   ·rename_i hl
    split at h
    ·rename_i hc
     obtain ⟨h1,h3⟩:=h
     exact ⟨_,by simp only [cw,hl];rw [Ip ⟨hc,h1⟩],h3⟩
    ·cases h
   ·cases h
  ·split at h
   ·rename_i hl
    split at h
    ·rename_i hc
     obtain ⟨y,h1,h2,h3⟩:=h
     exact ⟨_,by simp only [cw,hl,Ip hc,h1];rw [Ab h2],h3⟩
    ·cases h
   ·cases h
 |Ho e te=>
  cases a<;>simp only [re] at h<;>first|(cases h;done)|skip
  ·exact ⟨_,rfl,h⟩
  ·split at h
   ·rename_i hl
    split at h
    ·rename_i hc
     obtain ⟨h1,h3⟩:=h
     exact ⟨_,by simp only [cw,hl];rw [Ip ⟨hc,h1⟩],h3⟩
    ·cases h
   ·cases h
  ·split at h
   ·rename_i hl
    split at h
    ·rename_i hc
     obtain ⟨y,h1,h2,h3⟩:=h
     exact ⟨_,by simp only [cw,hl,Ip hc,h1];rw [Ab h2],h3⟩
    ·cases h
   ·cases h
 |part e te=>cases a<;>simp only [re] at h<;>first|(cases h;done)|exact ⟨_,rfl,h⟩
 |Bo e te kp=>cases a<;>simp only [re] at h<;>first|(cases h;done)|exact ⟨_,rfl,h⟩
theorem Po: ∀(cs:List (Bool×CK)) (o:IOs.den cs) (as:List AC) (st:St) (K:St->Prop),jw cs o as st K-> ∃s,Hv cs o as st=some s/\K s
 | [],_,_,st,K,h=>⟨st,rfl,h⟩
 |(true, .Fe _)::r,o,[],st,K,h=>h.elim
 |(true, .row _ _)::r,o,[],st,K,h=>h.elim
 |(true, .Ho _ _)::r,o,[],st,K,h=>h.elim
 |(true, .part _ _)::r,o,[],st,K,h=>h.elim
 |(true, .Bo _ _ _)::r,o,[],st,K,h=>h.elim
 |(true, .Bo _ _ _)::r,o,a::as,st,K,h=>by
  obtain ⟨s,h1,h2⟩:=Po r o as st K h
  exact ⟨s,by simp only [Hv];exact h1,h2⟩
 |(false,_)::r,o,[],st,K,h=>h.elim
 |(true, .Fe _)::r,o,a::as,st,K,h=>by
  obtain ⟨s,h1,h2⟩:=Po r o as st K h
  exact ⟨s,by simp only [Hv];exact h1,h2⟩
 |(false,_)::r,o,a::as,st,K,h=>by
  obtain ⟨s,h1,h2⟩:=Po r o as st K h
  exact ⟨s,by simp only [Hv];exact h1,h2⟩
 |(true, .row _ _)::r,o,a::as,st,K,h=>by
  obtain ⟨s1,h1,h2⟩:=rf h
  obtain ⟨s,h3,h4⟩:=Po r o.2 as s1 K h2
  exact ⟨s,by simp only [Hv,h1];exact h3,h4⟩
 |(true, .part _ _)::r,o,a::as,st,K,h=>by
  obtain ⟨s1,h1,h2⟩:=IA h
  obtain ⟨s,h3,h4⟩:=Po r o.2 as s1 K h2
  exact ⟨s,by simp only [Hv,h1];exact h3,h4⟩
 |(true, .Ho _ _)::r,o,a::as,st,K,h=>by
  obtain ⟨s1,h1,h2⟩:=rf h
  obtain ⟨s,h3,h4⟩:=Po r o.2 as s1 K h2
  exact ⟨s,by simp only [Hv,h1];exact h3,h4⟩
theorem rz {H:List (Nat×OB)} {ls:List Nat} {n:Nat} {K:Prop} : ∀(l:List AV),vo H ls n l K->dF H ls n l=true/\K
 | [],h=>⟨rfl,h⟩
 |a::r,h=>by
  have go:vo H ls n r K->dF H ls n r=true/\K:=rz r
  cases a with
  | «at»c=>
   cases c with
   |sub l i c=>
    simp only [vo] at h
    simp only [dF]
    split at h
    ·rename_i hc
     obtain ⟨⟨h1,h2⟩,h3⟩:=h
     obtain ⟨g1,g2⟩:=go h3
     exact ⟨by simp only [hc,g1,Bool.and_true,Bool.not_true,br,Ai,Mw];exact ⟨h1,h2⟩,g2⟩
    ·rename_i hc
     obtain ⟨g1,g2⟩:=go h
     exact ⟨by simp only [hc,g1,Bool.not_false,Bool.true_or,Bool.and_true],g2⟩
   |_=>exact go h
  |_=>exact go h
theorem yT {st:St} {d:Option Nat} {s:MSpec} {args:List AV} {K:AV->St->Prop} (h:KR st d s args K): ∃v s',Xr st d s args=some (v,s')/\K v s':=by
 unfold KR at h
 obtain ⟨⟨pl,cells,rest⟩,h0,h⟩:=Cc.1 h
 obtain ⟨as,h1,h⟩:=Cc.1 h
 obtain ⟨x,tks,h2,h⟩:=lL s.ins 0 (cells++as) _ h
 split at h
 ·rename_i hc
  obtain ⟨⟨r,o⟩,h3,h⟩:=h
  obtain ⟨st1,h4,h⟩:=Po s.ins o (cells++as) st _ h
  obtain ⟨v,h5,h6⟩:=Cc.1 h
  obtain ⟨h7,h6⟩:=rz _ h6
  refine ⟨v,_,?_,h6⟩
  unfold Xr
  simp only [h0,h1,h2]
  rw [Ab hc]
  simp only [h3,h4,h5]
  rw [Ab h7]
 ·cases h
theorem US {w:WS} (hw:w.OK) {o:Oper} {K:AV->WS->Prop} (h:opW T Γ w o K):
  ∃v w',evalOp T Γ w.st o=some (v,w'.st)/\w'.OK/\(∀b,Hf w'.kn o=some b-> ∃fr,v= .at (.data fr .bool b))/\K v w':=by
 have fin: ∀v s,(∀b,Hf w.kn o=some b-> ∃fr,v= .at (.data fr .bool b))->evalOp T Γ w.st o=some (v,s)->K v (w.to s)-> ∃v w',evalOp T Γ w.st o=some (v,w'.st)/\w'.OK/\(∀b,Hf w'.kn o=some b-> ∃fr,v= .at (.data fr .bool b))/\K v w':=
  fun v s hk h1 h2=>⟨v,w.to s,h1,hw.to (nJ h1),hk,h2⟩
 have ze:(∀b v s,Hf w.kn o=some b->evalOp T Γ w.st o=some (v,s)-> ∃fr,v= .at (.data fr .bool b))->Hr (evalOp T Γ w.st o) (λr=>K r.1 (w.to r.2))-> ∃v w',evalOp T Γ w.st o=some (v,w'.st)/\w'.OK/\(∀b,Hf w'.kn o=some b-> ∃fr,v= .at (.data fr .bool b))/\K v w':=by
  intro hk h
  obtain ⟨r,h1,h2⟩:=Cc.1 h
  exact fin r.1 r.2 (λb hb=>hk b _ _ hb h1) h1 h2
 unfold opW at h
 split at h
 ·rename_i heq
  obtain ⟨s,h1,h2⟩:=wP h
  refine fin _ _ (λb hb=>by unfold Hf at hb;rw [heq] at hb;cases hb) ?_ h2
  unfold evalOp;rw [heq];simp only [h1];rfl
 ·rename_i heq
  obtain ⟨d,h1,h⟩:=Cc.1 h
  obtain ⟨v,s,h2,h3⟩:=zO h
  refine fin _ _ (λb hb=>by unfold Hf at hb;rw [heq] at hb;cases hb) ?_ h3
  unfold evalOp;rw [heq];simp only [h1,h2]
 ·rename_i heq
  split at h
  ·rename_i hd ha ht
   split at h
   ·rename_i Vv
    obtain ⟨v,s,h2,h3⟩:=sK h
    refine fin _ _ (λb hb=>by unfold Hf at hb;rw [heq] at hb;cases hb) ?_ h3
    unfold evalOp;rw [heq];simp only [hd,ha,ht,Ab Vv,h2]
   ·cases h
  ·cases h
 ·rename_i heq;exact ze (λb v s hb he=>ug hw heq hb he) h
 ·rename_i heq;exact ze (λb v s hb he=>by unfold Hf at hb;rw [heq] at hb;cases hb) h
 ·rename_i heq;exact ze (λb v s hb he=>by unfold Hf at hb;rw [heq] at hb;cases hb) h
 ·rename_i heq
  obtain ⟨d,h1,h⟩:=Cc.1 h
  obtain ⟨v,s,h2,h3⟩:=mc h
  refine fin _ _ (λb hb=>by unfold Hf at hb;rw [heq] at hb;cases hb) ?_ h3
  unfold evalOp;rw [heq];simp only [h1,h2]
 ·rename_i heq;exact ze (λb v s hb he=>by unfold Hf at hb;rw [heq] at hb;cases hb) h
 ·rename_i heq;exact ze (λb v s hb he=>by unfold Hf at hb;rw [heq] at hb;cases hb) h
 ·rename_i heq;exact ze (λb v s hb he=>by unfold Hf at hb;rw [heq] at hb;cases hb) h
 ·rename_i heq;exact ze (λb v s hb he=>by unfold Hf at hb;rw [heq] at hb;cases hb) h
 ·rename_i heq;exact ze (λb v s hb he=>by unfold Hf at hb;rw [heq] at hb;cases hb) h
 ·rename_i heq;exact ze (λb v s hb he=>by unfold Hf at hb;rw [heq] at hb;cases hb) h
 ·
  rename_i f _ _ heq
  split at h
  ·rename_i Om
   obtain ⟨v,s',h1,h2⟩:=yT h
   refine fin v s' (λb hb=>by unfold Hf at hb;rw [heq] at hb;cases hb) ?_ h2
   unfold evalOp;rw [heq];simp only [Om];exact h1
  ·rename_i s Om
   split at h
   ·rename_i RH
    obtain ⟨st1,hs,h⟩:=Cc.1 h
    obtain ⟨v,w',h1,h2,h3,h3',h4⟩:=jx (hw.to (Ui _ hs)) h
    refine ⟨v,w',?_,h3,h3',h4⟩
    have h1:Fl T Γ st1 o=some v:=h1
    have h2:w'.st=st1:=h2
    unfold evalOp
    rw [heq]
    simp only [Om,RH,hs,h1,h2]
    rfl
   ·rename_i RH
    obtain ⟨v,w',h1,h2,h3,h3',h4⟩:=jx hw h
    refine ⟨v,w',?_,h3,h3',h4⟩
    unfold evalOp
    rw [heq]
    simp only [Om,RH,h1,h2]
    rfl
  ·rename_i Aza Ao6
   obtain ⟨v,w',h1,h2,h3,h3',h4⟩:=jx hw h
   refine ⟨v,w',?_,h3,h3',h4⟩
   unfold evalOp
   rw [heq]
   simp only
   rw [h1,h2];rfl
 ·rename_i n1 n2 n3 n4 n5 n6 n7 n8 n9 n10 n11 n12 n13 n14
  obtain ⟨v,w',h1,h2,h3,h3',h4⟩:=jx hw h
  refine ⟨v,w',?_,h3,h3',h4⟩
  unfold evalOp
  split
  all_goals first
   |(rw [h1,h2];rfl)
   |(rename_i hq;exact absurd hq (by first|exact n1 _|exact n2 _|exact n3 _|exact n4 _|exact n5 _|exact n6 _|exact n7 _|exact n8 _|exact n9 _|exact n10 _|exact n11 _|exact n12 _|exact n13 _|exact n14 _))
   |(rename_i hq;exact absurd hq (by first|exact n1 _ _|exact n2 _ _|exact n3 _ _|exact n4 _ _|exact n5 _ _|exact n6 _ _|exact n7 _ _|exact n8 _ _|exact n9 _ _|exact n10 _ _|exact n11 _ _|exact n12 _ _|exact n13 _ _|exact n14 _ _))
   |(rename_i hq;exact absurd hq (by first|exact n1 _ _ _|exact n2 _ _ _|exact n3 _ _ _|exact n4 _ _ _|exact n5 _ _ _|exact n6 _ _ _|exact n7 _ _ _|exact n8 _ _ _|exact n9 _ _ _|exact n10 _ _ _|exact n11 _ _ _|exact n12 _ _ _|exact n13 _ _ _|exact n14 _ _ _))
   |(rename_i hq;exact absurd hq (by first|exact n1 _ _ _ _|exact n2 _ _ _ _|exact n3 _ _ _ _|exact n4 _ _ _ _|exact n5 _ _ _ _|exact n6 _ _ _ _|exact n7 _ _ _ _|exact n8 _ _ _ _|exact n9 _ _ _ _|exact n10 _ _ _ _|exact n11 _ _ _ _|exact n12 _ _ _ _|exact n13 _ _ _ _|exact n14 _ _ _ _))
theorem zh (st:St) (d:Nat) (v:AV):(st.put (some d) v).get d=v\/(st.put (some d) v).get d= .undef:=by
 simp only [St.put,St.get]
 rw [Qo]
 by_cases h:d<st.tmps.length
 ·exact .inl (by rw [Ab ⟨rfl,h⟩])
 ·refine .inr ?_
  rw [Ak (λhc=>h hc.2),Al,Ee (by omega)]
  rfl
theorem WS.OK.wz {w:WS} (hw:w.OK) (o:Oper) (v:AV) (h: ∀b,Hf w.kn o=some b-> ∃fr,v= .at (.data fr .bool b)):(w.wz o v).OK/\(w.wz o v).st=w.st.put o.dst v:=by
 unfold WS.wz
 split
 ·rename_i d b hd hk
  split
  ·rename_i fr c hg
   refine ⟨?_,by rw [hd]⟩
   obtain ⟨Wd,hv⟩:=h b hk
   intro t b' hb
   simp only [o9] at hb
   split at hb
   ·rename_i ht
    injection hb with hb
    subst ht;subst hb
    refine ⟨Wd,?_⟩
    show (w.st.put (some d) v).get d=_
    cases zh w.st d v with
    |inl h1=>rw [h1,hv]
    |inr h1=>rw [h1] at hg;cases hg
   ·exact hw.put (some d) v t b' hb
  ·exact ⟨hw.put _ _,by rw [WS.uw,hd]⟩
 ·exact ⟨hw.put _ _,WS.uw _ _ _⟩
theorem ry {ops:Array Oper} {w:WS} (hw:w.OK) {o:Oper} {run:(AV->WS->Prop)->WS->Prop} {R:St->Option (AV×St)} {K:WS->Prop}
  (hr: ∀(k:AV->WS->Prop) (w:WS),w.OK->run k w-> ∃v w',R w.st=some (v,w'.st)/\w'.OK/\(∀b,Hf w'.kn o=some b-> ∃fr,v= .at (.data fr .bool b))/\k v w') (h:jQ ops w o run K):
  ∃w',(match o.guard with
   |none=>(R w.st).map λr=>r.2.put o.dst r.1
   |some (j,want)=>match Xj w.st ((ops[j]?).bind (·.dst)) with
    |some (some b)=>if b==want then (R w.st).map λr=>r.2.put o.dst r.1 else some (w.st.put o.dst (.at .skip))
    |some none=>some (w.st.put o.dst (.at .skip))
    |none=>none)=some w'.st/\w'.OK/\K w':=by
 have go: ∀w:WS,w.OK->run (λv w'=>K (w'.wz o v)) w-> ∃w',((R w.st).map λr=>r.2.put o.dst r.1)=some w'.st/\w'.OK/\K w':=by
  intro w hw h
  obtain ⟨v,w',h1,h2,h3,h4⟩:=hr _ _ hw h
  obtain ⟨h5,h6⟩:=h2.wz o v h3
  exact ⟨w'.wz o v,by rw [h1,h6];rfl,h5,h4⟩
 unfold jQ at h
 split at h
 ·rename_i hg
  rw [hg]
  exact go w hw h
 ·rename_i j want hg
  rw [hg]
  obtain ⟨t,h1,h⟩:=Cc.1 h
  simp only [h1]
  split at h
  ·rename_i hs
   have hsk:w.st.get t= .at .skip:=by
    unfold AV.Aaf at hs
    split at hs
    ·assumption
    ·cases hs
   exact ⟨_,by simp only [Xj,hsk];rw [WS.uw],hw.put _ _,h⟩
  ·obtain ⟨fr,b,w',h2,h3,h4,h5⟩:=xb hw h
   have hb:Xj w.st (some t)=some (some b):=by simp only [Xj,h2]
   rw [hb]
   simp only
   cases b with
   |true=>
    cases want with
    |true=>rw [Ab (by decide),<-h3];exact go w' h4 h5
    |false=>exact ⟨_,by rw [Ak (by decide),<-h3,WS.uw],h4.put _ _,h5⟩
   |false=>
    cases want with
    |false=>rw [Ab (by decide),<-h3];exact go w' h4 h5
    |true=>exact ⟨_,by rw [Ak (by decide),<-h3,WS.uw],h4.put _ _,h5⟩
theorem cf {ops:Array Oper} {w:WS} (hw:w.OK) {o:Oper} {K:WS->Prop} (h:jQ ops w o (λk w'=>opW T Γ w' o k) K): ∃w',Ff T Γ ops w.st o=some w'.st/\w'.OK/\K w':=by
 obtain ⟨w',h1,h2⟩:=ry hw (R:= λst=>evalOp T Γ st o) (λk w hw h=>by
  obtain ⟨v,w',h1,h2,h2',h3⟩:=US hw h
  exact ⟨v,w',h1,h2,h2',h3⟩) h
 exact ⟨w',h1,h2⟩
theorem YM {w:WS} (hw:w.OK) {o:Oper} {K:AV->WS->Prop} (h:bW T Γ w o K):
  ∃v w',Xf T Γ w.st o=some v/\w'.st=w.st/\w'.OK/\(∀b,Hf w'.kn o=some b-> ∃fr,v= .at (.data fr .bool b))/\K v w':=by
 unfold bW at h
 split at h
 ·rename_i t len parts qO
  obtain ⟨v,h1,h2⟩:=Cc.1 h
  exact ⟨v,w,by unfold Xf;rw [qO];exact h1,rfl,hw,λb hb=>by simp [Hf,qO] at hb,h2⟩
 ·rename_i t parts qO
  obtain ⟨v,h1,h2⟩:=Cc.1 h
  exact ⟨v,w,by unfold Xf;rw [qO];exact h1,rfl,hw,λb hb=>by simp [Hf,qO] at hb,h2⟩
 ·rename_i n1 n2
  obtain ⟨v,w',h1,h2⟩:=jx hw h
  refine ⟨v,w',?_,h2⟩
  rw [<-h1]
  unfold Xf
  split
  ·rename_i h9;exact absurd h9 (n1 _ _ _)
  ·rename_i h9;exact absurd h9 (n2 _ _)
  ·rfl
theorem Ag3 {ops:Array Oper} {w:WS} (hw:w.OK) {o:Oper} {K:WS->Prop} (h:jQ ops w o (λk w'=>bW T Γ w' o k) K): ∃v w',Xd T Γ ops w.st o=some v/\w'.st=w.st.put o.dst v/\w'.OK/\K w':=by
 obtain ⟨w',h1,h2,h3⟩:=ry hw (R:= λst=>(Xf T Γ st o).map λv=>(v,st)) (λk w hw h=>by
  obtain ⟨v,w',h1,h2,h3,h3',h4⟩:=YM hw h
  exact ⟨v,w',by simp only [h1,h2];rfl,h3,h3',h4⟩) h
 have key: ∀u:Option AV,((u.map λv=>(v,w.st)).map λr=>r.2.put o.dst r.1)=some w'.st-> ∃v,u=some v/\w'.st=w.st.put o.dst v:=by
  intro u hu
  cases u with
  |none=>cases hu
  |some v=>injection hu with hu;exact ⟨v,rfl,hu.symm⟩
 unfold Xd
 split at h1
 ·rename_i hg
  obtain ⟨v,h4,h5⟩:=key _ h1
  exact ⟨v,w',by rw [hg];exact h4,h5,h2,h3⟩
 ·rename_i j want hg
  rw [hg]
  split at h1
  ·rename_i b hb
   simp only [hb]
   split at h1
   ·rename_i LN
    obtain ⟨v,h4,h5⟩:=key _ h1
    exact ⟨v,w',by rw [Ab LN];exact h4,h5,h2,h3⟩
   ·rename_i LN
    injection h1 with h1
    exact ⟨_,w',by rw [Ak LN],h1.symm,h2,h3⟩
  ·rename_i hb
   simp only [hb]
   injection h1 with h1
   exact ⟨_,w',rfl,h1.symm,h2,h3⟩
  ·cases h1
theorem uh {ops:Array Oper} : ∀(l:List Oper) {w:WS} (_:w.OK) {K:WS->Prop},Akm T Γ ops l w K-> ∃w',aR T Γ ops l w.st=some w'.st/\w'.OK/\K w'
 | [],w,hw,K,h=>⟨w,rfl,hw,h⟩
 |o::r,w,hw,K,h=>by
  obtain ⟨w1,h1,h2,h3⟩:=cf hw h
  obtain ⟨w2,h4,h5⟩:=uh r h2 h3
  exact ⟨w2,by simp only [aR];rw [h1];exact h4,h5⟩
theorem fz {ops:Array Oper} : ∀(l:List Nat) {w:WS} (_:w.OK) {K:WS->Prop},Aa9 T Γ ops l w K-> ∃w',Mq T Γ ops l w.st=some w'.st/\w'.OK/\K w'
 | [],w,hw,K,h=>⟨w,rfl,hw,h⟩
 |i::r,w,hw,K,h=>by
  obtain ⟨o,h0,h⟩:=Cc.1 h
  obtain ⟨w1,h1,h2,h3⟩:=cf hw h
  obtain ⟨w2,h4,h5⟩:=fz r h2 h3
  exact ⟨w2,by simp only [Mq];rw [h0];simp only [h1];exact h4,h5⟩
theorem Nf {ops:Array Oper} : ∀(l:List Nat) {w:WS} (_:w.OK) {K:WS->Prop},lh T Γ ops l w K-> ∃w',Gc T Γ ops l w.st=some w'.st/\w'.OK/\K w'
 | [],w,hw,K,h=>⟨w,rfl,hw,h⟩
 |i::r,w,hw,K,h=>by
  obtain ⟨o,h0,h⟩:=Cc.1 h
  obtain ⟨v,w1,h1,h1',h2,h3⟩:=Ag3 hw h
  obtain ⟨w2,h4,h5⟩:=Nf r h2 h3
  exact ⟨w2,by simp only [Gc];rw [h0];simp only [h1];rw [<-h1'];exact h4,h5⟩
theorem np {P:Nat->Prop} : ∀(l:List Nat),YI l P-> ∀i∈l,P i
 | [],_,i,hi=>by cases hi
 | [k],h,i,hi=>by rw [Ae.1 hi];exact h
 |k::j::r,h,i,hi=>by
  rcases Bc.1 hi with rfl|hi
  ·exact h.1
  ·exact np (j::r) h.2 i hi
theorem m9 {ops:Array Oper} {K:WS->Prop} : ∀(f:Nat) (Aj:Array Bool) {w:WS} (_:w.OK),SZ T Γ ops f Aj w K->anyS T Γ ops (λs=> ∃w':WS,w'.st=s/\w'.OK/\K w') f Aj w.st
 |0,Aj,w,hw,h=>by
  unfold SZ at h
  split at h
  ·rename_i hr;exact ⟨hr,w,rfl,hw,h⟩
  ·cases h
 |f+1,Aj,w,hw,h=>by
  unfold SZ at h
  split at h
  ·cases h
  ·rename_i i r hr
   refine ⟨by rw [hr];simp,λk hk=>?_⟩
   rw [hr] at hk
   obtain ⟨o,h0,h1⟩:=Cc.1 (np _ h k hk)
   obtain ⟨w1,h2,h3,h4⟩:=cf hw h1
   exact ⟨o,w1.st,h0,h2,m9 f _ h3 h4⟩
theorem dL: ∀(l:List Oper) (d:Nat),d∈Km l-> ∃o∈l,o.dst=some d
 | [],d,h=>by simp [Km] at h
 |o::r,d,h=>by
  simp only [Km] at h
  cases ho:o.dst with
  |none=>
   rw [ho] at h
   obtain ⟨o',h1,h2⟩:=dL r d (by simpa using h)
   exact ⟨o',Ar _ h1,h2⟩
  |some e=>
   rw [ho] at h
   rcases Bc.1 (by simpa using h) with h|h
   ·exact ⟨o,by simp,by rw [ho,h]⟩
   ·obtain ⟨o',h1,h2⟩:=dL r d h
    exact ⟨o',Ar _ h1,h2⟩
theorem nN {ops:Array Oper} {K:WS->Prop} : ∀(f:Nat) (Aj:Array Bool) {w:WS} (_:w.OK),bI T Γ ops f Aj w K-> ∃w':WS,Fu (λt=>Sq ops t=true) w.st w'.st/\w'.OK/\K w'
 |0,Aj,w,hw,h=>by
  simp only [bI] at h
  split at h
  ·exact ⟨w,λ_ _ _ _ _ hx=>hx,hw,h⟩
  ·exact h.elim
 |f+1,Aj,w,hw,h=>by
  simp only [bI] at h
  split at h
  ·exact h.elim
  ·obtain ⟨o,ho,h1⟩:=Cc.1 h
   obtain ⟨w',h2,h3,h4⟩:=cf hw h1
   obtain ⟨w2,g1,g2⟩:=nN f _ h3 h4
   refine ⟨w2,((bG h2).mono λt ht hd=>?_).trans g1,g2⟩
   unfold Sq Yy at ht
   have:(ops.toList.any λo=>o.dst==some t)=true:=Ep.2 ⟨o,pO ho,by rw [hd];exact beq_self_eq_true _⟩
   rw [this] at ht
   cases ht
theorem mN (p:Nat->Bool): ∀(i:Nat) (l0 l1:List AV),(∀t,(l0.getD t .undef).Xy=true->p (i+t)=true->l1.getD t .undef=l0.getD t .undef)->
  Vh (Kd p i l0) l0 (Tt (Kd p i l0) l1)=l1
 |_,[],l1,_=>by simp [Kd,Tt,Vh]
 |i,a::r,[],_=>by
  simp only [Kd]
  cases (a.Xy&&p i)<;>simp [Tt,Vh]
 |i,a::r,b::s,h=>by
  have hr:=mN p (i+1) r s λt h1 h2=>by
   have:=h (t+1) (by simpa using h1) (by rw [show i+(t+1)=i+1+t by omega];exact h2)
   simpa using this
  simp only [Kd]
  cases hc:(a.Xy&&p i) with
  |false=>simp only [Tt,Vh];rw [hr]
  |true=>
   simp only [Tt,Vh]
   rw [hr]
   simp only [Ai] at hc
   have:=h 0 (by simpa using hc.1) hc.2
   simp only [Xh] at this
   rw [this]
theorem fG: ∀(f:List Bool) (l:List AV),(Tt f l).length=l.length
 | [],l=>by simp [Tt]
 |true::f,[]=>by simp [Tt]
 |false::f,[]=>by simp [Tt]
 |true::f,a::l=>by simp [Tt,fG f l]
 |false::f,a::l=>by simp [Tt,fG f l]
theorem TL {p:Nat->Bool} {w1 s0 s:St} (h1:Fu (λt=>p t=true) w1 s0) (h2:Fu (λt=>p t=true) w1 s) (h:eqM (Kd p 0 w1.tmps) s0 s):s=s0:=by
 have e:=ec h
 simp only [St.mask,St.mk.injEq] at e
 have key: ∀ {a:St},Fu (λt=>p t=true) w1 a->Vh (Kd p 0 w1.tmps) w1.tmps (Tt (Kd p 0 w1.tmps) a.tmps)=a.tmps:= λ {a} ha=>mN p 0 _ _ λt ht hp=>by
  rw [Bn] at hp
  cases hc:w1.tmps.getD t .undef with
  | «at»c=>
   cases c with
   |data fr τ x=>exact ha t fr τ x hp hc
   |_=>rw [hc] at ht;cases ht
  |_=>rw [hc] at ht;cases ht
 have e1:=key h1
 have e2:=key h2
 rw [e.1,e1] at e2
 obtain ⟨_,e4⟩:=e
 cases s;cases s0
 simp only at e2 e4
 rw [e4,e2]
theorem aS {ops:Array Oper} {K:WS->Prop} : ∀(f:Nat) (Aj:Array Bool) {w:WS} (_:w.OK),bI T Γ ops f Aj w K-> ∃w':WS,w'.OK/\K w'
 |0,Aj,w,hw,h=>by
  simp only [bI] at h
  split at h
  ·exact ⟨w,hw,h⟩
  ·exact h.elim
 |f+1,Aj,w,hw,h=>by
  simp only [bI] at h
  split at h
  ·exact h.elim
  ·obtain ⟨o,ho,h1⟩:=Cc.1 h
   obtain ⟨w',h2,h3,h4⟩:=cf hw h1
   exact aS f _ h3 h4
theorem qx {P:List (Nat×Nat×AV×OB)} {ops:Array Oper} {K:WS->Prop} : ∀(f:Nat) (Aj:Array Bool) {w:WS} (_:w.OK),DP T Γ P ops f Aj w K->Aio T Γ ops P (λs=> ∃w':WS,w'.st=s/\w'.OK/\K w') f Aj w.st
 |0,Aj,w,hw,h=>by
  unfold DP at h
  split at h
  ·rename_i hr;exact ⟨hr,w,rfl,hw,h⟩
  ·cases h
 |f+1,Aj,w,hw,h=>by
  unfold DP at h
  split at h
  ·cases h
  ·rename_i i r hr
   refine ⟨by rw [hr];simp,λk hk=>?_⟩
   rw [hr] at hk
   obtain ⟨o,h0,h1⟩:=Cc.1 (np _ h k hk)
   split at h1
   ·rename_i nh
    obtain ⟨w1,h2,h3,h4⟩:=cf hw h1
    exact ⟨o,w1.st,h0,nh,h2,qx f _ h3 h4⟩
   ·cases h1
theorem HG {α:Type} (f:α->Nat) {l:List α} (h:au (l.map f)=true):l.Pairwise λa c=>f a≠f c:=List.pairwise_map.1 (Ya h)
theorem de {ops:Array Oper} {E:List Nat} {Aj:Array Bool} {w:WS} (hw:w.OK): ∀(R:List Nat) {K:Prop},yy T Γ ops E Aj w R K->K/\ ∀r∈R,sv ops E Aj r=true\/ ∃o v,ops[r]?=some o/\Xd T Γ ops w.st o=some v/\ ∀d,o.dst=some d->w.st.get d=v
 | [],K,h=>⟨h,λr hr=>by cases hr⟩
 |r::R,K,h=>by
  unfold yy at h
  split at h
  ·rename_i hwt
   obtain ⟨h1,h2⟩:=de hw R h
   refine ⟨h1,λq hq=>?_⟩
   rcases Bc.1 hq with rfl|hq
   ·exact .inl hwt
   ·exact h2 q hq
  ·obtain ⟨h0,h⟩:=h
   obtain ⟨h1,h2⟩:=de hw R h
   refine ⟨h1,λq hq=>?_⟩
   rcases Bc.1 hq with rfl|hq
   ·refine .inr ?_
    obtain ⟨w',g1,_,g3⟩:=Nf _ hw h0
    obtain ⟨d,hd,g4⟩:=Cc.1 g3
    simp only [Gc] at g1
    split at g1
    ·cases g1
    rename_i o ho
    split at g1
    rotate_left
    ·cases g1
    rename_i v hv
    refine ⟨o,v,ho,hv,λd' JX=>?_⟩
    rw [ho] at hd
    have hdd:o.dst=some d:=hd
    rw [JX] at hdd
    cases hdd
    split at g4
    ·rename_i hl
     have e:=ec g4
     have e1:w'.st.get d=w.st.get d:=by
      have:=Cx (λs:St=>s.tmps) e
      simpa using this
     rw [<-e1]
     have e2:w.st.put o.dst v=w'.st:=Bd g1
     rw [<-e2,show o.dst=some d from hd]
     show (Sn w.st.tmps d v).getD d .undef=v
     rw [Qo,Ab ⟨rfl,by simpa [Mw] using hl⟩]
    ·cases g4
   ·exact h2 q hq
theorem cA {ops:Array Oper} {E:List Nat} {K:WS->Prop} : ∀(f:Nat) (Aj:Array Bool) {w:WS} (_:w.OK),sF T Γ ops E f Aj w K->rK T Γ ops E (λs=> ∃w':WS,w'.st=s/\w'.OK/\K w') f Aj w.st
 |0,Aj,w,hw,h=>by
  unfold sF at h
  obtain ⟨h,hs⟩:=de hw _ h
  split at h
  ·rename_i hr;exact ⟨hs,hr,w,rfl,hw,h⟩
  ·cases h
 |f+1,Aj,w,hw,h=>by
  unfold sF at h
  obtain ⟨h,hs⟩:=de hw _ h
  split at h
  ·cases h
  ·rename_i i r hr
   refine ⟨hs,by rw [hr];simp,λk hk=>?_⟩
   rw [hr] at hk
   obtain ⟨o,h0,h1⟩:=Cc.1 (np _ h k hk)
   obtain ⟨w1,h2,h3,h4⟩:=cf hw h1
   exact ⟨o,w1.st,h0,h2,cA f _ h3 h4⟩
theorem AM {ops:Array Oper} {E:List Nat} {L0:Array Bool} {n:Nat} {w:WS} (hw:w.OK) {K:WS->Prop} (h:NS T Γ E n L0 ops w K):Ae1 T Γ ops (λs=> ∃w':WS,w'.st=s/\w'.OK/\K w') n L0 w.st:=by
 unfold NS at h
 split at h
 ·rename_i hb
  simp only [Ai] at hb
  obtain ⟨b1,b2,b3⟩:=hb
  obtain ⟨w1,h1,h2,h3⟩:=Nf _ hw h
  have h3:=Nr.1 h3
  obtain ⟨w0,g1,g2⟩:=aS _ _ h2 h3
  obtain ⟨g3,g4⟩:=Nr.1 g2
  refine ⟨E,w1.st,b1,Nat.le_of_ble_eq_true b2,h1,bd (λs hs=>?_) _ _ _ (cA _ _ h2 g4)⟩
  obtain ⟨w',h5,_,h6⟩:=hs
  exact ⟨w0,((h5.symm.trans (ec (Nr.1 h6))).symm),g1,g3⟩
 ·cases h
theorem dH {ops:Array Oper} {t:Nat} :Sq ops t=true->t∉Km ops.toList:= λh hm=>by
 obtain ⟨o,ho,hd⟩:=dL _ _ hm
 unfold Sq Yy at h
 have:(ops.toList.any λo=>o.dst==some t)=true:=Ep.2 ⟨o,ho,by rw [hd];exact beq_self_eq_true _⟩
 rw [this] at h
 cases h
theorem DR {ops:Array Oper} {E:List Nat} {K:St->Prop} (s0:St) (f:Nat) (Aj:Array Bool) (st:St) (hk:Fu (λt=>Sq ops t=true) s0 st) (h:rK T Γ ops E K f Aj st):
  rK T Γ ops E (λs=>K s/\Fu (λt=>Sq ops t=true) s0 s) f Aj st:=by
 have h1:=m8 (draw:=true) st f Aj st (λ_ _ _ _ _ hx=>hx) h
 exact bd (λs hs=>⟨hs.1,hk.trans (hs.2.mono λt ht=>dH ht)⟩) _ _ _ h1
theorem WS.OK.Qc {w:WS} (hw:w.OK) (dead:List Nat):(w.Qc dead).OK:=by
 intro t b hb
 have key: ∀(l:List (Nat×Bool)),o9 (l.filter λp=>!dead.contains p.1) t=some b->dead.contains t=false/\o9 l t=some b:=by
  intro l
  induction l with
  |nil=>intro h;cases h
  |cons q r ih=>
   intro h
   obtain ⟨k,c⟩:=q
   by_cases hk:dead.contains k=true
   ·rw [List.filter_cons_of_neg (by rw [hk];decide)] at h
    obtain ⟨h1,h2⟩:=ih h
    refine ⟨h1,?_⟩
    unfold o9
    rw [Ak (λe=>by subst e;rw [h1] at hk;cases hk)]
    exact h2
   ·have hk:dead.contains k=false:=by simpa using hk
    rw [List.filter_cons_of_pos (by rw [hk];rfl)] at h
    unfold o9 at h⊢
    split at h
    ·rename_i e
     subst e
     rw [Ab rfl]
     exact ⟨hk,h⟩
    ·rename_i e
     rw [Ak e]
     exact ih h
 obtain ⟨h1,h2⟩:=key _ hb
 obtain ⟨fr,h3⟩:=hw t b h2
 refine ⟨fr,?_⟩
 show (w.st.Qc dead).get t=_
 unfold St.Qc
 refine Uh _ _ t fr _ _ ?_
 show (Ia _ 0 w.st.tmps).getD t .undef=_
 rw [Vz _ 0 w.st.tmps t ?_]
 ·exact h3
 ·refine Bm.2 ⟨Es.2 ?_,by rw [Bn,h1];rfl⟩
  refine Bk λhn=>?_
  have:w.st.get t= .undef:=by
   unfold St.get
   rw [Al,Ee (by omega)];rfl
  rw [h3] at this
  cases this
theorem HJ {ops:Array Oper} {dead E:List Nat} (b3:dead.all (Yy ops)=true) {L0:Array Bool} {n:Nat} {w:WS} (hw:w.OK) {K:WS->Prop} (h:Ab0 T Γ dead E n L0 ops w K):Ae1 T Γ ops (λs=> ∃w':WS,w'.st=s.Qc dead/\w'.OK/\K w') n L0 w.st:=by
 unfold Ab0 at h
 split at h
 ·rename_i hb
  simp only [Ai] at hb
  obtain ⟨b1,b2⟩:=hb
  obtain ⟨w1,h1,h2,h3⟩:=Nf _ hw h
  have h3:=Nr.1 h3
  refine ⟨E,w1.st,b1,Nat.le_of_ble_eq_true b2,h1,?_⟩
  split at h3
  ·refine bd (λs hs=>?_) _ _ _ (cA _ _ h2 h3)
   obtain ⟨w',h5,h6,h7⟩:=hs
   exact ⟨w'.Qc dead,by rw [<-h5];rfl,h6.Qc _,h7⟩
  ·rw [fu] at h3
   obtain ⟨w0,g0,g1,g2⟩:=nN _ _ h2 h3
   obtain ⟨g3,g4⟩:=Nr.1 g2
   refine bd (λs hs=>?_) _ _ _ (DR w1.st _ _ _ (λ_ _ _ _ _ hx=>hx) (cA _ _ h2 g4))
   obtain ⟨⟨w',h5,_,h6⟩,h7⟩:=hs
   have h6:=Nr.1 h6
   have k1:Fu (λt=>Sq ops t=true) w1.st (w0.Qc dead).st:=g0.trans ((jd b3 w0.st).mono λt ht=>dH ht)
   have k2:Fu (λt=>Sq ops t=true) w1.st (w'.Qc dead).st:=by
    show Fu _ w1.st (w'.st.Qc dead)
    rw [h5]
    exact h7.trans ((jd b3 s).mono λt ht=>dH ht)
   have e:=TL k1 k2 h6
   refine ⟨w0.Qc dead,?_,g1.Qc _,g3⟩
   rw [<-e,<-h5]
   rfl
 ·cases h
theorem vS {ops:Array Oper} {L0:Array Bool} {n:Nat} {w:WS} (hw:w.OK) {K:WS->Prop} (hc:Uc ops L0) (h:yS T Γ (Zp T ops L0) n L0 ops w K):anyS T Γ ops (λs=> ∃w':WS,w'.st=s/\w'.OK/\K w') n L0 w.st\/Ae1 T Γ ops (λs=> ∃w':WS,w'.st=s/\w'.OK/\K w') n L0 w.st:=by
 unfold yS at h
 split at h
 ·rename_i hb
  simp only [Ai] at hb
  obtain ⟨⟨b1,b2⟩,b3,b4,b5⟩:=hb
  have hm: ∀a∈Zp T ops L0,a.1∈Region.ready .any ops L0/\ ∃o,ops[a.1]?=some o/\fe T o=some a.2:= λa ha=>yP ha
  have p1:=HG (λa:Nat×Nat×AV×OB=>a.1) b1
  have p2:=HG (λa:Nat×Nat×AV×OB=>a.2.1) b2
  have hlen:(Zp T ops L0).length<=n:=Nat.le_of_ble_eq_true b4
  obtain ⟨w1,h1,h2,h3⟩:=fz _ hw h
  have h3:=Nr.1 h3
  obtain ⟨w0,g1,g2⟩:=aS _ _ h2 h3
  obtain ⟨g3,g4⟩:=Nr.1 g2
  have hp:=HV (Γ:=Γ) _ w.st w1.st (λa ha=>(hm a ha).2) (λa ha=>ue (Bf.1 b3 a ha)) p2 h1
  refine .inl (ke (λs hs=>?_) _ _ _ (SY (λa ha=>(hm a ha).2) n (n-(Zp T ops L0).length) (Zp T ops L0) _ L0 w1.st w.st (by omega) (qx _ _ h2 g4) hp
   (Ae5 (ops:=ops) λi hi=>by obtain ⟨a,ha,rfl⟩:=Ba.1 hi;exact (hm a ha).1) (λa ha=>ha) (p2.and p1) hc λa ha x hx=>cV (hm a ha).1 hx))
  obtain ⟨w',h5,_,h6⟩:=hs
  exact ⟨w0,((h5.symm.trans (ec h6)).symm),g1,g3⟩
 ·exact .inr (AM hw h)
theorem lD {ops:Array Oper} {draw:Bool} {w:WS} (hw:w.OK) {K:WS->Prop} (h:sr T Γ ops draw w K):kY T Γ ops draw w.st (λs=> ∃w':WS,w'.st=s/\w'.OK/\K w'):=by
 unfold sr at h
 split at h
 ·split at h
  ·rename_i ho
   obtain ⟨w1,h1,h2,h3⟩:=Nf _ hw h
   obtain ⟨w2,h4,h5⟩:=fz _ h2 h3
   exact .inl ⟨w2.st,by simp only [Rh,Ny];rw [Ab ho,h1];exact h4,w2,rfl,h5⟩
  ·rename_i ho
   split at h
   ·rename_i ho2
    obtain ⟨w1,h1,h2,h3⟩:=Nf _ hw h
    obtain ⟨w2,h4,h5⟩:=fz _ h2 h3
    exact .inl ⟨w2.st,by simp only [Rh,Ny];rw [Ak (by rw [ho];decide),Ab ho2,h1];exact h4,w2,rfl,h5⟩
   ·split at h
    ·rename_i hc
     simp only [Ai] at hc
     obtain ⟨w1,h1,h2,h3⟩:=Nf _ hw h
     split at h3
     ·exact .inr ⟨rfl,hc.1,w1.st,h1, .inl (m9 _ _ h2 h3)⟩
     ·obtain ⟨w0,g1,g2⟩:=aS _ _ h2 h3
      obtain ⟨g3,g4⟩:=Nr.1 g2
      exact .inr ⟨rfl,hc.1,w1.st,h1, .inl (ke (λs hs=>by
       obtain ⟨w',h5,_,h6⟩:=hs
       exact ⟨w0,((h5.symm.trans (ec h6)).symm),g1,g3⟩) _ _ _ (m9 _ _ h2 g4))⟩
    ·split at h
     ·rename_i RH
      obtain ⟨w1,h1,h2,h3⟩:=Nf _ hw h
      exact .inr ⟨rfl,RH,w1.st,h1,vS h2 (aO _ _ _ qC) h3⟩
     ·cases h
 ·obtain ⟨w1,h1,h2⟩:=uh _ hw h
  exact .inl ⟨w1.st,by simp only [Rh];rw [Ak (by simp)];exact h1,w1,rfl,h2⟩
theorem wA {ops:Array Oper} {draw:Bool} {w:WS} (hw:w.OK) {K:WS->Prop} (h:AP T Γ ops draw w K):yK T Γ ops draw w.st (λs=> ∃w':WS,w'.st=s/\w'.OK/\K w'):=by
 unfold AP at h
 split at h
 ·rename_i hb
  have b3:=(Ct.1 hb).2
  refine .inr ⟨vD ops,b3,?_⟩
  split at h
  ·rename_i hc
   simp only [Ai,Aaz] at hc
   obtain ⟨w1,h1,h2,h3⟩:=Nf _ hw h
   exact .inr ⟨hc.1,hc.2.2.1,w1.st,h1, .inr (HJ b3 h2 h3)⟩
  ·exact (lD hw h).mono λs ⟨w',h1,h2,h3⟩=>⟨w'.Qc (vD ops),by rw [<-h1];rfl,h2.Qc _,h3⟩
 ·exact .inl (lD hw h)
end
end Go.Proofs.Ytkkdpknjohcekaa
