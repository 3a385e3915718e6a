/-
  Part 33 of the proof that the statement FnSymmetries holds.
-/
import Derived.Test.YtkkdpknjohcekaaCFSymmetries31
namespace Go.Proofs.Ytkkdpknjohcekaa
open Go.RowKit
section
variable {T:Tab} {Γ:Env}
def WS.OK (w:WS):Prop:= ∀t b,lk w.kn t=some b-> ∃fr,w.st.get t= .at (.data fr .bool b)
theorem jO: ∀(l:List (Nat×Bool)) (d t:Nat) (b:Bool),lk (tS l d) t=some b->t≠d/\lk l t=some b
 | [],_,_,_,h=>by cases h
 |(k,c)::r,d,t,b,h=>by
  simp only [tS] at h
  split at h
  ·rename_i hk
   have:=jO r d t b h
   refine ⟨this.1,?_⟩
   simp only [lk]
   rw [Ai (by rw [hk];exact λh=>this.1 h.symm)]
   exact this.2
  ·rename_i hk
   simp only [lk] at h⊢
   split at h
   ·rename_i hkt
    exact ⟨by rw [<-hkt];exact hk,by rw [Ab hkt];exact h⟩
   ·rename_i hkt
    rw [Ai hkt]
    exact jO r d t b h
theorem WS.OK.put {w:WS} (h:w.OK) (dst:Option Tmp) (v:AV):(w.put dst v).OK:=by
 cases dst with
 |none=>exact h
 |some d=>
  intro t b hb
  obtain ⟨h1,h2⟩:=jO _ _ _ _ hb
  obtain ⟨fr,h3⟩:=h t b h2
  exact ⟨fr,by show (w.st.put (some d) v).get t=_;rw [aw _ _ h1];exact h3⟩
theorem WS.qF (w:WS) (dst:Option Tmp) (v:AV):(w.put dst v).st=w.st.put dst v:=by cases dst<;>rfl
theorem WS.OK.to {w:WS} (h:w.OK) {s:St} (hs:Cb w.st s):(w.to s).OK:=by
 intro t b hb
 obtain ⟨fr,h3⟩:=h t b hb
 exact ⟨fr,hs t fr _ _ h3⟩
theorem th {w:WS} (hw:w.OK) {t:Nat} {K:Bool->WS->Prop} (h:brT w t K):
  ∃fr b w',w.st.get t= .at (.data fr .bool b)/\w'.st=w.st/\w'.OK/\K b w':=by
 unfold brT at h
 split at h
 ·rename_i b hb
  obtain ⟨fr,h1⟩:=hw t b hb
  exact ⟨fr,b,w,h1,rfl,hw,h⟩
 ·split at h
  ·rename_i fr b hb
   obtain ⟨h1,h2⟩:=h
   have ok: ∀c:Bool,b=c->WS.OK {kn:=(t,c)::w.kn,st:=w.st} :=by
    intro c hc t' b' h'
    simp only [lk] at h'
    split at h'
    ·rename_i ht
     injection h' with h'
     exact ⟨fr,by rw [<-ht,<-h',<-hc];exact hb⟩
    ·exact hw t' b' h'
   cases b with
   |true=>exact ⟨fr,true, {kn:=(t,true)::w.kn,st:=w.st},hb,rfl,ok true rfl,h1 rfl⟩
   |false=>exact ⟨fr,false, {kn:=(t,false)::w.kn,st:=w.st},hb,rfl,ok false rfl,h2 rfl⟩
  ·cases h
theorem tf {w:WS} (hw:w.OK) {c:Operand} {K:Bool->WS->Prop} (h:brO w c K):
  ∃fr b w',w.st.ev c= .at (.data fr .bool b)/\w'.st=w.st/\w'.OK/\K b w':=by
 unfold brO at h
 split at h
 ·exact th hw h
 ·exact ⟨true,_,w,rfl,rfl,hw,h⟩
 ·cases h
theorem BJ {op:BinOp} {t:TypeId} {x y:AV} {K:AV->Prop} (h:YI T op t x y K): ∃v,Sp T op t x y=some v/\K v:=by
 unfold YI at h
 split at h
 ·split at h
  ·rename_i hk
   exact ⟨_,by simp only [Sp,evalBin,q7];rw [Ab hk,Ai h.1];rfl,h.2⟩
  ·cases h
 ·split at h
  ·rename_i hk
   exact ⟨_,by simp only [Sp,evalBin,q7];rw [Ab hk,Ai h.1];rfl,h.2⟩
  ·cases h
 ·exact ⟨_,by simp only [Sp,evalBin];rw [Ai h.1];rfl,h.2⟩
 ·exact ⟨_,by simp only [Sp,evalBin];rw [Ai h.1];rfl,h.2⟩
 ·exact ⟨_,by simp only [Sp,evalBin];rw [Ab h.1],h.2⟩
 ·exact Bp.1 h
theorem yW {st:St} {t:TypeId} {p:AV} {K:AV->Prop} (h:PS T st t p K): ∃v,Po T st t p=some v/\K v:=by
 unfold PS at h
 split at h
 ·obtain ⟨τ,h1,h2⟩:=Bp.1 h
  split at h2
  ·rename_i hb
   split at h2
   ·rename_i he
    obtain ⟨x,h3,h4⟩:=h2
    exact ⟨_,by simp only [Po,h1,hb,Ab he,h3];rfl,h4⟩
   ·cases h2
  ·rename_i hb
   split at h2
   ·rename_i he
    obtain ⟨x,h3,h4⟩:=h2
    exact ⟨_,by simp only [Po,h1,hb,Ab he,h3];rfl,h4⟩
   ·cases h2
  ·rename_i hb
   split at h2
   ·cases h2
   ·rename_i he
    exact ⟨_,by simp only [Po,h1,hb,Ai he],h2⟩
  ·cases h2
 ·obtain ⟨τ,h1,h2⟩:=Bp.1 h
  split at h2
  ·rename_i he
   obtain ⟨y,h3,h4⟩:=h2
   subst h3
   exact ⟨_,by simp only [Po,h1,Ab he],h4⟩
  ·cases h2
 ·exact Bp.1 h
theorem mu {s:TypeId} {x:AV} {f:Nat} {K:AV->Prop} (h:jD T s x f K): ∃v,Nl T s x f=some v/\K v:=by
 unfold jD at h
 split at h
 ·obtain ⟨y,h1,h2⟩:=h
  subst h1
  obtain ⟨v,h3,h4⟩:=Bp.1 h2
  refine ⟨v,?_,h4⟩
  rw [<-h3]
  unfold Nl
  cases T.off s f<;>rfl
 ·exact Bp.1 h
theorem wR {st:St} {t:TypeId} {x:AV} {lo hi:Option AV} {K:AV->Prop} (h:EO T st t x lo hi K): ∃v,cm T st t x lo hi=some v/\K v:=by
 unfold EO at h
 obtain ⟨n,h1,h⟩:=Bp.1 h
 obtain ⟨l,h2,h⟩:=Bp.1 h
 obtain ⟨hh,h3,hc,h⟩:=Bp.1 h
 obtain ⟨v,h4,h5⟩:=Bp.1 h
 refine ⟨v,?_,h5⟩
 simp only [cm,h1,h2,h3,Ab hc]
 exact h4
theorem mD {st:St} {t:TypeId} {x i:AV} {K:AV->Prop} (h:jL T st t x i K): ∃v,Ki T st t x i=some v/\K v:=by
 unfold jL at h
 split at h
 ·split at h
  ·rename_i he
   obtain ⟨x,h3,h4⟩:=h
   exact ⟨_,by simp only [Ki,Ab he,h3];rfl,h4⟩
  ·cases h
 ·split at h
  ·rename_i hb
   split at h
   ·rename_i he
    obtain ⟨h3,h4⟩:=h
    exact ⟨_,by simp only [Ki,hb];rw [Ab ⟨he.1,he.2,Tc.2 h3⟩],h4⟩
   ·cases h
  ·rename_i hb
   split at h
   ·rename_i he
    obtain ⟨h3,h4⟩:=h
    exact ⟨_,by simp only [Ki,hb];rw [Ab ⟨he.1,he.2,Tc.2 h3⟩],h4⟩
   ·cases h
  ·rename_i hb
   split at h
   ·rename_i he
    obtain ⟨h3,h4⟩:=h
    exact ⟨_,by simp only [Ki,hb];rw [Ab ⟨he.1,he.2,Tc.2 h3⟩],h4⟩
   ·cases h
  ·cases h
 ·split at h
  ·rename_i hb
   split at h
   ·rename_i he
    obtain ⟨h3,h4⟩:=h
    exact ⟨_,by simp only [Ki,hb];rw [Ab ⟨he,Tc.2 h3⟩],h4⟩
   ·cases h
  ·cases h
 ·cases h
theorem vL {t:TypeId} {x i:AV} {K:AV->Prop} (h:CQ T t x i K): ∃v,gR T t x i=some v/\K v:=by
 unfold CQ at h
 split at h
 ·split at h
  ·rename_i he
   obtain ⟨h1,b,h3,h4⟩:=h
   exact ⟨_,by simp only [gR,Ab he,Ab h1,h3];rfl,h4⟩
  ·cases h
 ·cases h
theorem ba {st:St} {f:FuncId} {args:List AV} {K:AV->Prop} (h:tj Γ st f args K): ∃v,Od Γ st f args=some v/\K v:=by
 unfold tj at h
 obtain ⟨s,h1,h⟩:=Bp.1 h
 have h1:Γ f=some (.q s):=by
  split at h1
  ·rename_i s' hs;injection h1 with h1;rw [hs,h1]
  ·cases h1
 split at h
 ·rename_i hf
  obtain ⟨p,h2,y,h3,h4⟩:=Bp.1 h
  refine ⟨_,?_,h4⟩
  simp only [Od,h1]
  rw [Ab hf,h2]
  simp only [h3]
  rfl
 ·cases h
theorem uZ {st:St} {v:AV} {args:List AV} {K:AV->Prop} (h:BL Γ st v args K): ∃u,Wm Γ st v args=some u/\K u:=by
 unfold BL at h
 split at h
 ·split at h
  ·rename_i hc
   split at h
   ·rename_i hf
    obtain ⟨u,h1,h2⟩:=ba h
    exact ⟨u,by simp only [Wm];rw [Ab hc,Ab (by simpa using hf)];exact h1,h2⟩
   ·rename_i hf
    obtain ⟨u,h1,h2⟩:=ba h
    exact ⟨u,by simp only [Wm];rw [Ab hc,Ai (λhx=>by rw [show Nat.blt _ 1000000000=true from by simpa using hx] at hf;cases hf)];exact h1,h2⟩
  ·cases h
 ·exact ba h
 ·cases h
theorem Oz {w:WS} (hw:w.OK) {x:Operand} {b:Bool} (hk:Vh w.kn x=some b): ∃fr,w.st.ev x= .at (.data fr .bool b):=by
 unfold Vh at hk
 split at hk
 ·injection hk with hk;subst hk;exact ⟨true,rfl⟩
 ·exact hw _ _ hk
 ·cases hk
theorem si {w:WS} (hw:w.OK) {o:Oper} {b:Bool} (hk:Gs w.kn o=some b) {v:AV} (he:Ep T Γ w.st o=some v): ∃fr,v= .at (.data fr .bool b):=by
 unfold Gs at hk
 split at hk
 ·rename_i heq;unfold Ep at he;rw [heq] at he;injection he with he;obtain ⟨fr,h⟩:=Oz hw hk;exact ⟨fr,he.symm.trans h⟩
 ·rename_i heq;unfold Ep at he;rw [heq] at he;injection he with he;obtain ⟨fr,h⟩:=Oz hw hk;exact ⟨fr,he.symm.trans h⟩
 ·rename_i x heq
  cases hx:Vh w.kn x with
  |none=>rw [hx] at hk;cases hk
  |some c=>
   rw [hx] at hk
   injection hk with hk
   obtain ⟨fr,h⟩:=Oz hw hx
   unfold Ep at he;rw [heq] at he
   simp only [h,vu,Ov] at he
   injection he with he
   exact ⟨true,by rw [<-he,<-hk]⟩
 ·rename_i c x y heq
  unfold Ep at he;rw [heq] at he
  split at hk
  ·rename_i hc
   obtain ⟨fr,h⟩:=Oz hw hc
   simp only [h,ck,Qf] at he
   injection he with he
   obtain ⟨fr,h⟩:=Oz hw hk
   exact ⟨fr,he.symm.trans h⟩
  ·rename_i hc
   obtain ⟨fr,h⟩:=Oz hw hc
   simp only [h,ck,Cy,Sl] at he
   injection he with he
   obtain ⟨fr,h⟩:=Oz hw hk
   exact ⟨fr,he.symm.trans h⟩
  ·cases hk
 ·cases hk
theorem qw {w:WS} (hw:w.OK) {o:Oper} {x:Operand} (ho:o.op= .assign x) {b:Bool} (hk:Gs w.kn o=some b) {v:AV} {s:St} (he:evalOp T Γ w.st o=some (v,s)): ∃fr,v= .at (.data fr .bool b):=by
 unfold Gs at hk
 rw [ho] at hk
 obtain ⟨fr,h⟩:=Oz hw hk
 unfold evalOp at he;rw [ho] at he
 simp only [h] at he
 injection he with he;injection he with he;exact ⟨fr,he.symm⟩
theorem gp {w:WS} (hw:w.OK) {o:Oper} {K:AV->WS->Prop} (h:qW T Γ w o K):
  ∃v w',Ep T Γ w.st o=some v/\w'.st=w.st/\w'.OK/\(∀b,Gs w'.kn o=some b-> ∃fr,v= .at (.data fr .bool b))/\K v w':=by
 have fin:(∃v w',Ep T Γ w.st o=some v/\w'.st=w.st/\w'.OK/\K v w')-> ∃v w',Ep T Γ w.st o=some v/\w'.st=w.st/\w'.OK/\(∀b,Gs w'.kn o=some b-> ∃fr,v= .at (.data fr .bool b))/\K v w':=by
  rintro ⟨v,w',h1,h2,h3,h4⟩
  exact ⟨v,w',h1,h2,h3,λb hb=>si h3 hb (by rw [h2];exact h1),h4⟩
 refine fin ?_
 unfold qW at h
 split at h
 ·rename_i c a b heq
  obtain ⟨fr,t,w',h1,h2,h3,h4⟩:=tf hw h
  cases t with
  |true=>exact ⟨_,w',by unfold Ep;rw [heq];simp only [h1,ck,Qf];rw [<-h2],h2,h3,h4⟩
  |false=>exact ⟨_,w',by unfold Ep;rw [heq];simp only [h1,ck];rw [<-h2];simp,h2,h3,h4⟩
 ·rename_i heq
  obtain ⟨v,h1,h2⟩:=yW h
  exact ⟨v,w,by unfold Ep;rw [heq];exact h1,rfl,hw,h2⟩
 ·rename_i heq
  obtain ⟨v,h1,h2⟩:=BJ h
  exact ⟨v,w,by unfold Ep;rw [heq];exact h1,rfl,hw,h2⟩
 ·rename_i heq
  split at h
  ·obtain ⟨v,h1,h2⟩:=wR h
   exact ⟨v,w,by unfold Ep;rw [heq];simpa using h1,rfl,hw,h2⟩
  ·cases h
 ·rename_i heq
  obtain ⟨v,h1,h2⟩:=mD h
  exact ⟨v,w,by unfold Ep;rw [heq];exact h1,rfl,hw,h2⟩
 ·rename_i heq
  obtain ⟨v,h1,h2⟩:=vL h
  exact ⟨v,w,by unfold Ep;rw [heq];exact h1,rfl,hw,h2⟩
 ·rename_i heq
  obtain ⟨v,h1,h2⟩:=ba h
  exact ⟨v,w,by unfold Ep;rw [heq];exact h1,rfl,hw,h2⟩
 ·rename_i heq
  obtain ⟨v,h1,h2⟩:=uZ h
  exact ⟨v,w,by unfold Ep;rw [heq];exact h1,rfl,hw,h2⟩
 ·rename_i heq
  obtain ⟨v,h1,h2⟩:=mu h
  exact ⟨v,w,by unfold Ep;rw [heq];exact h1,rfl,hw,h2⟩
 ·rename_i x heq
  unfold u4 at h
  split at h
  ·rename_i fr τ z hx
   obtain ⟨y,h1,h2⟩:=h
   subst h1
   exact ⟨_,w,by unfold Ep;rw [heq];simp only [hx],rfl,hw,h2⟩
  ·obtain ⟨v,h1,h2⟩:=Bp.1 h
   exact ⟨v,w,h1,rfl,hw,h2⟩
 ·obtain ⟨v,h1,h2⟩:=Bp.1 h
  exact ⟨v,w,h1,rfl,hw,h2⟩
theorem xb {st:St} {t:TypeId} {p v:AV} {K:St->Prop} (h:EW T st t p v K): ∃s,Tw T st t p v=some s/\K s:=by
 unfold EW at h
 split at h
 ·obtain ⟨τ,h1,h⟩:=Bp.1 h
  obtain ⟨q,h2,h⟩:=Bp.1 h
  split at h
  ·rename_i hb
   obtain ⟨u,h3,h⟩:=Bp.1 h
   split at h
   ·rename_i hc
    obtain ⟨h4,h5⟩:=h
    obtain ⟨q1,q2⟩:=q
    obtain ⟨u1,u2⟩:=u
    exact ⟨_,by simp only [Tw,h1,h2,hb,h3];rw [Ih hc,Ab h4],h5⟩
   ·cases h
  ·cases h
 ·exact Bp.1 h
theorem sI {st:St} {t:TypeId} {p v:AV} {K:St->Prop} (h:x7 T st t p v K): ∃s,Pb T st t p v=some s/\K s:=by
 unfold x7 at h
 unfold Pb
 split at h
 rotate_left
 ·rename_i hg;rw [hg];exact xb h
 rename_i hg
 rw [hg]
 simp only
 unfold HS at h
 split at h
 ·obtain ⟨τ,h1,h⟩:=Bp.1 h
  obtain ⟨q,h2,h⟩:=Bp.1 h
  split at h
  ·rename_i hb
   obtain ⟨u,h3,h⟩:=Bp.1 h
   split at h
   ·rename_i hc
    obtain ⟨q1,q2⟩:=q
    obtain ⟨u1,u2⟩:=u
    exact ⟨_,by simp only [ar,h1,h2,hb,h3];rw [Ih hc],h⟩
   ·cases h
  ·cases h
 ·rename_i l j
  obtain ⟨τ,h1,h⟩:=Bp.1 h
  split at h
  ·rename_i e te rows out kp m off len hl _
   split at h
   ·rename_i fr tr e' tid xs hm
    split at h
    ·rename_i hc
     obtain ⟨h2,h3,h4,h5⟩:=h
     have h4:out=none\/out=some j:=by
      cases out with
      |none=>exact .inl rfl
      |some i=>exact .inr (Jt some h4)
     exact ⟨_,by simp only [ar,h1,hl,hm];rw [Ih ⟨hc.1,hc.2,h2,h3,h4⟩],h5⟩
    ·cases h
   ·cases h
  ·cases h
 ·cases h
theorem Xi {st:St} {d:Nat} {t:TypeId} {x y:Operand} {K:AV->St->Prop} (h:kv T st d t x y K): ∃v s,Nk T st d t x y=some (v,s)/\K v s:=by
 unfold kv at h
 obtain ⟨te,h1,h⟩:=Bp.1 h
 obtain ⟨e,h2,h⟩:=Bp.1 h
 obtain ⟨q,h3,h⟩:=Bp.1 h
 obtain ⟨u,h4,h⟩:=Bp.1 h
 obtain ⟨q1,q2⟩:=q
 obtain ⟨u1,u2⟩:=u
 split at h
 ·rename_i hx
  split at h
  ·rename_i hd
   obtain ⟨h5,h6⟩:=h
   refine ⟨_,_,?_,h6⟩
   simp only [Nk,h1,h2,h3,h4]
   rw [hx]
   simp only
   rw [Ab ⟨h5,by simpa [Ms] using hd⟩]
   simp
  ·cases h
 ·rename_i l off len hx
  split at h
  ·rename_i fr tr e' tid xs hb
   split at h
   ·rename_i hc
    obtain ⟨h5,h6,h7,h8⟩:=h
    refine ⟨_,_,?_,h8⟩
    simp only [Nk,h1,h2,h3,h4]
    rw [hx]
    simp only [hb]
    rw [Ih ⟨hc.1,hc.2.1⟩,Ab ⟨h7,by simpa [Ms] using hc.2.2⟩]
    obtain ⟨UE,hc2,WT⟩:=hc
    subst UE
    subst h5
    simp only [Im,h6,Ca,Ay]
   ·cases h
  ·cases h
 ·cases h
theorem pk {st:St} {d:Nat} {t:TypeId} {x y:Operand} {K:AV->St->Prop} (h:pj T st d t x y K): ∃v s,Qs T st d t x y=some (v,s)/\K v s:=by
 unfold pj at h
 cases x with
 |tmp tx=>
  simp only at h
  unfold Qs
  simp only
  cases hg:st.get tx with
  | «at»c=>
   rw [hg] at h
   cases c with
   |sub l i c=>
    simp only at h⊢
    obtain ⟨tid,h1,h⟩:=Bp.1 h
    split at h
    ·rename_i hl
     split at h
     ·rename_i hc
      obtain ⟨v,s,h2,h3⟩:=Xi h
      refine ⟨v,s,?_,h3⟩
      simp only [hl,h1]
      rw [Ab hc]
      exact h2
     ·cases h
    ·cases h
   |_=>exact Xi h
  |_=>rw [hg] at h;exact Xi h
 |_=>exact Xi h
theorem z0 {st:St} {d:Nat} {t:TypeId} {l c:AV} {K:AV->St->Prop} (h:PV T st d t l c K): ∃v s,ao T st d t l c=some (v,s)/\K v s:=by
 unfold PV at h
 split at h
 ·obtain ⟨te,h1,h⟩:=Bp.1 h
  obtain ⟨e,h2,h⟩:=Bp.1 h
  split at h
  ·rename_i hz
   obtain ⟨h3,h4,h5⟩:=h
   refine ⟨_,_,?_,h5⟩
   simp only [Ag] at hz
   simp only [ao,h1,h2]
   rw [Ab ⟨Tc.2 (by exact_mod_cast h3),h4,hz.1,by simpa [Ms] using hz.2⟩]
   simp
  ·cases h
 ·cases h
theorem w6 {st:St} {d:Nat} {t:TypeId} {l c:AV} {K:AV->St->Prop} (h:DB T st d t l c K): ∃v s,Wn T st d t l c=some (v,s)/\K v s:=by
 unfold DB at h
 unfold Wn
 cases hg:cq T t with
 |none=>rw [hg] at h;exact z0 h
 |some p=>
  obtain ⟨te,e⟩:=p
  rw [hg] at h
  simp only at h⊢
  split at h
  ·split at h
   ·rename_i hd
    obtain ⟨h3,h4,h5⟩:=h
    refine ⟨_,_,?_,h5⟩
    simp only
    rw [Ab ⟨Tc.2 (by exact_mod_cast h3),h4,by simpa [Ms] using hd⟩]
    simp
   ·cases h
  ·cases h
theorem jz {st:St} {d:Nat} {t:TypeId} {len:Nat} {parts:Array (Nat×Operand)} {K:AV->St->Prop} (h:dd T st d t len parts K): ∃v s,Ii T st d t len parts=some (v,s)/\K v s:=by
 unfold dd at h
 unfold Ii
 cases hg:cq T t with
 |none=>
  rw [hg] at h
  obtain ⟨r,h1,h2⟩:=Bp.1 h
  exact ⟨r.1,r.2,h1,h2⟩
 |some p=>
  obtain ⟨te,e⟩:=p
  rw [hg] at h
  simp only at h⊢
  split at h
  ·rename_i x hp
   split at h
   ·rename_i m off ln hx
    split at h
    ·rename_i hm
     split at h
     ·rename_i hc
      obtain ⟨h1,h2,h3⟩:=h
      refine ⟨_,_,?_,h3⟩
      simp only [hp,hx,hm]
      rw [Ih ⟨hc.1,hc.2,h1,h2⟩]
     ·cases h
    ·cases h
   ·cases h
  ·cases h
theorem po {st:St} {d:Nat} {t:TypeId} {x y:Operand} {K:AV->St->Prop} (h:pn T st d t x y K): ∃v s,Qt T st d t x y=some (v,s)/\K v s:=by
 unfold pn at h
 unfold Qt
 cases hg:cq T t with
 |none=>rw [hg] at h;exact pk h
 |some p=>
  obtain ⟨te,e⟩:=p
  rw [hg] at h
  simp only at h⊢
  split at h
  ·rename_i l off len m QC qc hx hy
   split at h
   ·rename_i hl hm
    split at h
    ·rename_i hc
     obtain ⟨h1,h2,h3,h4,h5⟩:=h
     obtain ⟨⟨rfl,rfl⟩,hc⟩:=hc
     refine ⟨_,_,?_,h5⟩
     simp only [hx,hy,hl,hm]
     rw [Ih (⟨⟨trivial,trivial⟩,hc,h1,h2,h3,h4⟩)]
     simp
    ·cases h
   ·cases h
  ·cases h
theorem xh {st:St} {io:Bool} {k:Nat} {c:CK} {a:AC} {K:c.den->List (Nat×Loc)->Prop} (h:dX st io k c a K): ∃x t,Lu st io k c a=some (x,t)/\K x t:=by
 cases c with
 |Gb τ=>
  cases a with
  |own l off len=>
   obtain ⟨p,h1,h2⟩:=Bp.1 h
   exact ⟨_,_,by simp only [Lu];rw [h1];rfl,h2⟩
  |clo g Eb=>
   simp only [dX] at h
   split at h
   ·rename_i hc
    obtain ⟨p,h1,h2⟩:=Bp.1 h
    exact ⟨_,_,by simp only [Lu];rw [Ab hc,h1];rfl,h2⟩
   ·cases h
  |Gr l i=>
   simp only [dX] at h
   split at h
   ·rename_i hc
    obtain ⟨p,h1,h2⟩:=Bp.1 h
    exact ⟨_,_,by simp only [Lu];rw [Ab hc,h1];rfl,h2⟩
   ·cases h
  |sub l i c=>
   obtain ⟨p,h1,h2⟩:=Bp.1 h
   exact ⟨_,_,by simp only [Lu];rw [h1];rfl,h2⟩
  |_=>
   simp only [dX] at h
   split at h
   ·rename_i hc
    obtain ⟨p,h1,h2⟩:=Bp.1 h
    exact ⟨_,_,by simp only [Lu];rw [Ab hc,h1];rfl,h2⟩
   ·cases h
 |row e te=>
  cases a<;>simp only [dX] at h<;>first|(cases h;done)|skip
  ·exact ⟨_,_,rfl,h⟩
  ·split at h
   ·rename_i hl
    split at h
    ·rename_i hc
     obtain ⟨h1,h2,h3⟩:=h
     exact ⟨_,_,by simp only [Lu,hl];rw [Ih ⟨hc.1,hc.2,h1,h2⟩],h3⟩
    ·cases h
   ·cases h
  ·split at h
   ·rename_i hl
    split at h
    ·rename_i hc
     obtain ⟨y,h1,h2⟩:=h
     exact ⟨_,_,by simp only [Lu,hl];rw [Ih hc,h1];rfl,h2⟩
    ·cases h
   ·cases h
 |Ha e te=>
  cases a<;>simp only [dX] at h<;>first|(cases h;done)|skip
  ·exact ⟨_,_,rfl,h⟩
  ·split at h
   ·rename_i hl
    split at h
    ·rename_i hc
     obtain ⟨h1,h2,h3⟩:=h
     exact ⟨_,_,by simp only [Lu,hl];rw [Ih ⟨hc.1,hc.2,h1,h2⟩],h3⟩
    ·cases h
   ·cases h
  ·split at h
   ·rename_i hl
    split at h
    ·rename_i hc
     obtain ⟨y,h1,h2⟩:=h
     exact ⟨_,_,by simp only [Lu,hl];rw [Ih hc,h1];rfl,h2⟩
    ·cases h
   ·cases h
 |part e te=>
  cases a<;>simp only [dX] at h<;>first|(cases h;done)|skip
  split at h
  ·rename_i hl
   split at h
   ·rename_i hc
    exact ⟨_,_,by simp only [Lu,hl];rw [Ih hc],h⟩
   ·cases h
  ·cases h
 |Bj e te kp=>
  cases a<;>simp only [dX] at h<;>first|(cases h;done)|skip
  split at h
  ·rename_i hl
   split at h
   ·rename_i hc
    obtain ⟨h1,h2,h3⟩:=h
    exact ⟨_,_,by simp only [Lu,hl];rw [Ih ⟨hc.1,hc.2.1,h1,h2,hc.2.2⟩],h3⟩
   ·cases h
  ·cases h
theorem zA {st:St} {e:Ty} {ys:List e.den} {a:AC} {K:St->Prop} (h:QW st e ys a K): ∃s,EB st e ys a=some s/\K s:=by
 cases a<;>simp only [QW] at h<;>first|(cases h;done)|skip
 split at h
 ·rename_i hl
  split at h
  ·rename_i hc
   obtain ⟨h1,h3⟩:=h
   exact ⟨_,by simp only [EB,hl];rw [Ih ⟨hc,h1⟩],h3⟩
  ·cases h
 ·cases h
theorem jc {st:St} : ∀(cs:List (Bool×CK)) (k:Nat) (as:List AC) (K:Ins.den cs->List (Nat×Loc)->Prop),xj st k cs as K-> ∃x t,dY st k cs as=some (x,t)/\K x t
 | [],_,[],_,h=>⟨_,_,rfl,h⟩
 | [],_,_::_,_,h=>h.elim
 |_::_,_,[],_,h=>h.elim
 |p::r,k,a::as,K,h=>by
  obtain ⟨x,t1,h1,h2⟩:=xh h
  obtain ⟨y,t2,h3,h4⟩:=jc r (k+1) as _ h2
  exact ⟨_,_,by simp only [dY,h1,h3],h4⟩
theorem nT {st:St} {c:CK} {ys:c.den} {a:AC} {K:St->Prop} (h:nS st c ys a K): ∃s,aY st c ys a=some s/\K s:=by
 cases c with
 |Gb τ=>cases a<;>simp only [nS] at h<;>first|(cases h;done)|exact ⟨_,rfl,h⟩
 |row e te=>
  cases a<;>simp only [nS] at h<;>first|(cases h;done)|skip
  ·exact ⟨_,rfl,h⟩
  ·split at h
   ·rename_i hl
    split at h
    ·rename_i hc
     obtain ⟨h1,h3⟩:=h
     exact ⟨_,by simp only [aY,hl];rw [Ih ⟨hc,h1⟩],h3⟩
    ·cases h
   ·cases h
  ·split at h
   ·rename_i hl
    split at h
    ·rename_i hc
     obtain ⟨y,h1,h2,h3⟩:=h
     exact ⟨_,by simp only [aY,hl,Ih hc,h1];rw [Ab h2],h3⟩
    ·cases h
   ·cases h
 |Ha e te=>
  cases a<;>simp only [nS] at h<;>first|(cases h;done)|skip
  ·exact ⟨_,rfl,h⟩
  ·split at h
   ·rename_i hl
    split at h
    ·rename_i hc
     obtain ⟨h1,h3⟩:=h
     exact ⟨_,by simp only [aY,hl];rw [Ih ⟨hc,h1⟩],h3⟩
    ·cases h
   ·cases h
  ·split at h
   ·rename_i hl
    split at h
    ·rename_i hc
     obtain ⟨y,h1,h2,h3⟩:=h
     exact ⟨_,by simp only [aY,hl,Ih hc,h1];rw [Ab h2],h3⟩
    ·cases h
   ·cases h
 |part e te=>cases a<;>simp only [nS] at h<;>first|(cases h;done)|exact ⟨_,rfl,h⟩
 |Bj e te kp=>cases a<;>simp only [nS] at h<;>first|(cases h;done)|exact ⟨_,rfl,h⟩
theorem Pf: ∀(cs:List (Bool×CK)) (o:IOs.den cs) (as:List AC) (st:St) (K:St->Prop),gn cs o as st K-> ∃s,Hm cs o as st=some s/\K s
 | [],_,_,st,K,h=>⟨st,rfl,h⟩
 |(true, .Gb _)::r,o,[],st,K,h=>h.elim
 |(true, .row _ _)::r,o,[],st,K,h=>h.elim
 |(true, .Ha _ _)::r,o,[],st,K,h=>h.elim
 |(true, .part _ _)::r,o,[],st,K,h=>h.elim
 |(true, .Bj _ _ _)::r,o,[],st,K,h=>h.elim
 |(true, .Bj _ _ _)::r,o,a::as,st,K,h=>by
  obtain ⟨s,h1,h2⟩:=Pf r o as st K h
  exact ⟨s,by simp only [Hm];exact h1,h2⟩
 |(false,_)::r,o,[],st,K,h=>h.elim
 |(true, .Gb _)::r,o,a::as,st,K,h=>by
  obtain ⟨s,h1,h2⟩:=Pf r o as st K h
  exact ⟨s,by simp only [Hm];exact h1,h2⟩
 |(false,_)::r,o,a::as,st,K,h=>by
  obtain ⟨s,h1,h2⟩:=Pf r o as st K h
  exact ⟨s,by simp only [Hm];exact h1,h2⟩
 |(true, .row _ _)::r,o,a::as,st,K,h=>by
  obtain ⟨s1,h1,h2⟩:=nT h
  obtain ⟨s,h3,h4⟩:=Pf r o.2 as s1 K h2
  exact ⟨s,by simp only [Hm,h1];exact h3,h4⟩
 |(true, .part _ _)::r,o,a::as,st,K,h=>by
  obtain ⟨s1,h1,h2⟩:=zA h
  obtain ⟨s,h3,h4⟩:=Pf r o.2 as s1 K h2
  exact ⟨s,by simp only [Hm,h1];exact h3,h4⟩
 |(true, .Ha _ _)::r,o,a::as,st,K,h=>by
  obtain ⟨s1,h1,h2⟩:=nT h
  obtain ⟨s,h3,h4⟩:=Pf r o.2 as s1 K h2
  exact ⟨s,by simp only [Hm,h1];exact h3,h4⟩
theorem o5 {H:List (Nat×OB)} {ls:List Nat} {n:Nat} {K:Prop} : ∀(l:List AV),rj H ls n l K->bT H ls n l=true/\K
 | [],h=>⟨rfl,h⟩
 |a::r,h=>by
  have go:rj H ls n r K->bT H ls n r=true/\K:=o5 r
  cases a with
  | «at»c=>
   cases c with
   |sub l i c=>
    simp only [rj] at h
    simp only [bT]
    split at h
    ·rename_i hc
     obtain ⟨⟨h1,h2⟩,h3⟩:=h
     obtain ⟨g1,g2⟩:=go h3
     exact ⟨by simp only [hc,g1,Bool.and_true,Bool.not_true,ab,Ag,Ms];exact ⟨h1,h2⟩,g2⟩
    ·rename_i hc
     obtain ⟨g1,g2⟩:=go h
     exact ⟨by simp only [hc,g1,Bool.not_false,Bool.true_or,Bool.and_true],g2⟩
   |_=>exact go h
  |_=>exact go h
theorem uY {st:St} {d:Option Nat} {s:MSpec} {args:List AV} {K:AV->St->Prop} (h:BK st d s args K): ∃v s',Wl st d s args=some (v,s')/\K v s':=by
 unfold BK at h
 obtain ⟨⟨pl,cells,rest⟩,h0,h⟩:=Bp.1 h
 obtain ⟨as,h1,h⟩:=Bp.1 h
 obtain ⟨x,tks,h2,h⟩:=jc s.ins 0 (cells++as) _ h
 split at h
 ·rename_i hc
  obtain ⟨⟨r,o⟩,h3,h⟩:=h
  obtain ⟨st1,h4,h⟩:=Pf s.ins o (cells++as) st _ h
  obtain ⟨v,h5,h6⟩:=Bp.1 h
  obtain ⟨h7,h6⟩:=o5 _ h6
  refine ⟨v,_,?_,h6⟩
  unfold Wl
  simp only [h0,h1,h2]
  rw [Ab hc]
  simp only [h3,h4,h5]
  rw [Ab h7]
 ·cases h
theorem JT {w:WS} (hw:w.OK) {o:Oper} {K:AV->WS->Prop} (h:VC T Γ w o K):
  ∃v w',evalOp T Γ w.st o=some (v,w'.st)/\w'.OK/\(∀b,Gs w'.kn o=some b-> ∃fr,v= .at (.data fr .bool b))/\K v w':=by
 have fin: ∀v s,(∀b,Gs w.kn o=some b-> ∃fr,v= .at (.data fr .bool b))->evalOp T Γ w.st o=some (v,s)->K v (w.to s)-> ∃v w',evalOp T Γ w.st o=some (v,w'.st)/\w'.OK/\(∀b,Gs w'.kn o=some b-> ∃fr,v= .at (.data fr .bool b))/\K v w':=
  fun v s hk h1 h2=>⟨v,w.to s,h1,hw.to (kP h1),hk,h2⟩
 have vz:(∀b v s,Gs w.kn o=some b->evalOp T Γ w.st o=some (v,s)-> ∃fr,v= .at (.data fr .bool b))->He (evalOp T Γ w.st o) (λr=>K r.1 (w.to r.2))-> ∃v w',evalOp T Γ w.st o=some (v,w'.st)/\w'.OK/\(∀b,Gs w'.kn o=some b-> ∃fr,v= .at (.data fr .bool b))/\K v w':=by
  intro hk h
  obtain ⟨r,h1,h2⟩:=Bp.1 h
  exact fin r.1 r.2 (λb hb=>hk b _ _ hb h1) h1 h2
 unfold VC at h
 split at h
 ·rename_i heq
  obtain ⟨s,h1,h2⟩:=sI h
  refine fin _ _ (λb hb=>by unfold Gs at hb;rw [heq] at hb;cases hb) ?_ h2
  unfold evalOp;rw [heq];simp only [h1];rfl
 ·rename_i heq
  obtain ⟨d,h1,h⟩:=Bp.1 h
  obtain ⟨v,s,h2,h3⟩:=w6 h
  refine fin _ _ (λb hb=>by unfold Gs at hb;rw [heq] at hb;cases hb) ?_ h3
  unfold evalOp;rw [heq];simp only [h1,h2]
 ·rename_i heq
  split at h
  ·rename_i hd ha ht
   split at h
   ·rename_i Uq
    obtain ⟨v,s,h2,h3⟩:=po h
    refine fin _ _ (λb hb=>by unfold Gs at hb;rw [heq] at hb;cases hb) ?_ h3
    unfold evalOp;rw [heq];simp only [hd,ha,ht,Ab Uq,h2]
   ·cases h
  ·cases h
 ·rename_i heq;exact vz (λb v s hb he=>qw hw heq hb he) h
 ·rename_i heq;exact vz (λb v s hb he=>by unfold Gs at hb;rw [heq] at hb;cases hb) h
 ·rename_i heq;exact vz (λb v s hb he=>by unfold Gs at hb;rw [heq] at hb;cases hb) h
 ·rename_i heq
  obtain ⟨d,h1,h⟩:=Bp.1 h
  obtain ⟨v,s,h2,h3⟩:=jz h
  refine fin _ _ (λb hb=>by unfold Gs at hb;rw [heq] at hb;cases hb) ?_ h3
  unfold evalOp;rw [heq];simp only [h1,h2]
 ·rename_i heq;exact vz (λb v s hb he=>by unfold Gs at hb;rw [heq] at hb;cases hb) h
 ·rename_i heq;exact vz (λb v s hb he=>by unfold Gs at hb;rw [heq] at hb;cases hb) h
 ·rename_i heq;exact vz (λb v s hb he=>by unfold Gs at hb;rw [heq] at hb;cases hb) h
 ·rename_i heq;exact vz (λb v s hb he=>by unfold Gs at hb;rw [heq] at hb;cases hb) h
 ·rename_i heq;exact vz (λb v s hb he=>by unfold Gs at hb;rw [heq] at hb;cases hb) h
 ·rename_i heq;exact vz (λb v s hb he=>by unfold Gs at hb;rw [heq] at hb;cases hb) h
 ·
  rename_i f _ _ heq
  split at h
  ·rename_i Of
   obtain ⟨v,s',h1,h2⟩:=uY h
   refine fin v s' (λb hb=>by unfold Gs at hb;rw [heq] at hb;cases hb) ?_ h2
   unfold evalOp;rw [heq];simp only [Of];exact h1
  ·rename_i s Of
   split at h
   ·rename_i GU
    obtain ⟨st1,hs,h⟩:=Bp.1 h
    obtain ⟨v,w',h1,h2,h3,TY,h4⟩:=gp (hw.to (Te _ hs)) h
    refine ⟨v,w',?_,h3,TY,h4⟩
    have h1:Ep T Γ st1 o=some v:=h1
    have h2:w'.st=st1:=h2
    unfold evalOp
    rw [heq]
    simp only [Of,GU,hs,h1,h2]
    rfl
   ·rename_i GU
    obtain ⟨v,w',h1,h2,h3,TY,h4⟩:=gp hw h
    refine ⟨v,w',?_,h3,TY,h4⟩
    unfold evalOp
    rw [heq]
    simp only [Of,GU,h1,h2]
    rfl
  ·rename_i Ao5 Ade
   obtain ⟨v,w',h1,h2,h3,TY,h4⟩:=gp hw h
   refine ⟨v,w',?_,h3,TY,h4⟩
   unfold evalOp
   rw [heq]
   simp only
   rw [h1,h2];rfl
 ·rename_i n1 n2 n3 n4 n5 n6 n7 n8 n9 n10 n11 n12 n13 n14
  obtain ⟨v,w',h1,h2,h3,TY,h4⟩:=gp hw h
  refine ⟨v,w',?_,h3,TY,h4⟩
  unfold evalOp
  split
  all_goals first
   |(rw [h1,h2];rfl)
   |(rename_i hq;exact absurd hq (by first|exact n1 _|exact n2 _|exact n3 _|exact n4 _|exact n5 _|exact n6 _|exact n7 _|exact n8 _|exact n9 _|exact n10 _|exact n11 _|exact n12 _|exact n13 _|exact n14 _))
   |(rename_i hq;exact absurd hq (by first|exact n1 _ _|exact n2 _ _|exact n3 _ _|exact n4 _ _|exact n5 _ _|exact n6 _ _|exact n7 _ _|exact n8 _ _|exact n9 _ _|exact n10 _ _|exact n11 _ _|exact n12 _ _|exact n13 _ _|exact n14 _ _))
   |(rename_i hq;exact absurd hq (by first|exact n1 _ _ _|exact n2 _ _ _|exact n3 _ _ _|exact n4 _ _ _|exact n5 _ _ _|exact n6 _ _ _|exact n7 _ _ _|exact n8 _ _ _|exact n9 _ _ _|exact n10 _ _ _|exact n11 _ _ _|exact n12 _ _ _|exact n13 _ _ _|exact n14 _ _ _))
   |(rename_i hq;exact absurd hq (by first|exact n1 _ _ _ _|exact n2 _ _ _ _|exact n3 _ _ _ _|exact n4 _ _ _ _|exact n5 _ _ _ _|exact n6 _ _ _ _|exact n7 _ _ _ _|exact n8 _ _ _ _|exact n9 _ _ _ _|exact n10 _ _ _ _|exact n11 _ _ _ _|exact n12 _ _ _ _|exact n13 _ _ _ _|exact n14 _ _ _ _))
theorem vC (st:St) (d:Nat) (v:AV):(st.put (some d) v).get d=v\/(st.put (some d) v).get d= .undef:=by
 simp only [St.put,St.get]
 rw [Qe]
 by_cases h:d<st.tmps.length
 ·exact .inl (by rw [Ab ⟨rfl,h⟩])
 ·refine .inr ?_
  rw [Ai (λhc=>h hc.2),Al,Er (by omega)]
  rfl
theorem WS.OK.su {w:WS} (hw:w.OK) (o:Oper) (v:AV) (h: ∀b,Gs w.kn o=some b-> ∃fr,v= .at (.data fr .bool b)):(w.su o v).OK/\(w.su o v).st=w.st.put o.dst v:=by
 unfold WS.su
 split
 ·rename_i d b hd hk
  split
  ·rename_i fr c hg
   refine ⟨?_,by rw [hd]⟩
   obtain ⟨Uz,hv⟩:=h b hk
   intro t b' hb
   simp only [lk] at hb
   split at hb
   ·rename_i ht
    injection hb with hb
    subst ht;subst hb
    refine ⟨Uz,?_⟩
    show (w.st.put (some d) v).get d=_
    cases vC w.st d v with
    |inl h1=>rw [h1,hv]
    |inr h1=>rw [h1] at hg;cases hg
   ·exact hw.put (some d) v t b' hb
  ·exact ⟨hw.put _ _,by rw [WS.qF,hd]⟩
 ·exact ⟨hw.put _ _,WS.qF _ _ _⟩
theorem o4 {ops:Array Oper} {w:WS} (hw:w.OK) {o:Oper} {run:(AV->WS->Prop)->WS->Prop} {R:St->Option (AV×St)} {K:WS->Prop}
  (hr: ∀(k:AV->WS->Prop) (w:WS),w.OK->run k w-> ∃v w',R w.st=some (v,w'.st)/\w'.OK/\(∀b,Gs w'.kn o=some b-> ∃fr,v= .at (.data fr .bool b))/\k v w') (h:gG ops w o run K):
  ∃w',(match o.guard with
   |none=>(R w.st).map λr=>r.2.put o.dst r.1
   |some (j,want)=>match Wf w.st ((ops[j]?).bind (·.dst)) with
    |some (some b)=>if b==want then (R w.st).map λr=>r.2.put o.dst r.1 else some (w.st.put o.dst (.at .skip))
    |some none=>some (w.st.put o.dst (.at .skip))
    |none=>none)=some w'.st/\w'.OK/\K w':=by
 have go: ∀w:WS,w.OK->run (λv w'=>K (w'.su o v)) w-> ∃w',((R w.st).map λr=>r.2.put o.dst r.1)=some w'.st/\w'.OK/\K w':=by
  intro w hw h
  obtain ⟨v,w',h1,h2,h3,h4⟩:=hr _ _ hw h
  obtain ⟨h5,h6⟩:=h2.su o v h3
  exact ⟨w'.su o v,by rw [h1,h6];rfl,h5,h4⟩
 unfold gG at h
 split at h
 ·rename_i hg
  rw [hg]
  exact go w hw h
 ·rename_i j want hg
  rw [hg]
  obtain ⟨t,h1,h⟩:=Bp.1 h
  simp only [h1]
  split at h
  ·rename_i hs
   have hsk:w.st.get t= .at .skip:=by
    unfold AV.PM at hs
    split at hs
    ·assumption
    ·cases hs
   exact ⟨_,by simp only [Wf,hsk];rw [WS.qF],hw.put _ _,h⟩
  ·obtain ⟨fr,b,w',h2,h3,h4,h5⟩:=th hw h
   have hb:Wf w.st (some t)=some (some b):=by simp only [Wf,h2]
   rw [hb]
   simp only
   cases b with
   |true=>
    cases want with
    |true=>rw [Ab (by decide),<-h3];exact go w' h4 h5
    |false=>exact ⟨_,by rw [Ai (by decide),<-h3,WS.qF],h4.put _ _,h5⟩
   |false=>
    cases want with
    |false=>rw [Ab (by decide),<-h3];exact go w' h4 h5
    |true=>exact ⟨_,by rw [Ai (by decide),<-h3,WS.qF],h4.put _ _,h5⟩
theorem aR {ops:Array Oper} {w:WS} (hw:w.OK) {o:Oper} {K:WS->Prop} (h:gG ops w o (λk w'=>VC T Γ w' o k) K): ∃w',Em T Γ ops w.st o=some w'.st/\w'.OK/\K w':=by
 obtain ⟨w',h1,h2⟩:=o4 hw (R:= λst=>evalOp T Γ st o) (λk w hw h=>by
  obtain ⟨v,w',h1,h2,WK,h3⟩:=JT hw h
  exact ⟨v,w',h1,h2,WK,h3⟩) h
 exact ⟨w',h1,h2⟩
theorem NC {w:WS} (hw:w.OK) {o:Oper} {K:AV->WS->Prop} (h:bW T Γ w o K):
  ∃v w',Vz T Γ w.st o=some v/\w'.st=w.st/\w'.OK/\(∀b,Gs w'.kn o=some b-> ∃fr,v= .at (.data fr .bool b))/\K v w':=by
 unfold bW at h
 split at h
 ·rename_i t len parts oV
  obtain ⟨v,h1,h2⟩:=Bp.1 h
  exact ⟨v,w,by unfold Vz;rw [oV];exact h1,rfl,hw,λb hb=>by simp [Gs,oV] at hb,h2⟩
 ·rename_i t parts oV
  obtain ⟨v,h1,h2⟩:=Bp.1 h
  exact ⟨v,w,by unfold Vz;rw [oV];exact h1,rfl,hw,λb hb=>by simp [Gs,oV] at hb,h2⟩
 ·rename_i n1 n2
  obtain ⟨v,w',h1,h2⟩:=gp hw h
  refine ⟨v,w',?_,h2⟩
  rw [<-h1]
  unfold Vz
  split
  ·rename_i h9;exact absurd h9 (n1 _ _ _)
  ·rename_i h9;exact absurd h9 (n2 _ _)
  ·rfl
theorem VP {ops:Array Oper} {w:WS} (hw:w.OK) {o:Oper} {K:WS->Prop} (h:gG ops w o (λk w'=>bW T Γ w' o k) K): ∃v w',Vy T Γ ops w.st o=some v/\w'.st=w.st.put o.dst v/\w'.OK/\K w':=by
 obtain ⟨w',h1,h2,h3⟩:=o4 hw (R:= λst=>(Vz T Γ st o).map λv=>(v,st)) (λk w hw h=>by
  obtain ⟨v,w',h1,h2,h3,TY,h4⟩:=NC hw h
  exact ⟨v,w',by simp only [h1,h2];rfl,h3,TY,h4⟩) h
 have key: ∀u:Option AV,((u.map λv=>(v,w.st)).map λr=>r.2.put o.dst r.1)=some w'.st-> ∃v,u=some v/\w'.st=w.st.put o.dst v:=by
  intro u hu
  cases u with
  |none=>cases hu
  |some v=>injection hu with hu;exact ⟨v,rfl,hu.symm⟩
 unfold Vy
 split at h1
 ·rename_i hg
  obtain ⟨v,h4,h5⟩:=key _ h1
  exact ⟨v,w',by rw [hg];exact h4,h5,h2,h3⟩
 ·rename_i j want hg
  rw [hg]
  split at h1
  ·rename_i b hb
   simp only [hb]
   split at h1
   ·rename_i OC
    obtain ⟨v,h4,h5⟩:=key _ h1
    exact ⟨v,w',by rw [Ab OC];exact h4,h5,h2,h3⟩
   ·rename_i OC
    injection h1 with h1
    exact ⟨_,w',by rw [Ai OC],h1.symm,h2,h3⟩
  ·rename_i hb
   simp only [hb]
   injection h1 with h1
   exact ⟨_,w',rfl,h1.symm,h2,h3⟩
  ·cases h1
theorem qx {ops:Array Oper} : ∀(l:List Oper) {w:WS} (_:w.OK) {K:WS->Prop},Aag T Γ ops l w K-> ∃w',Zk T Γ ops l w.st=some w'.st/\w'.OK/\K w'
 | [],w,hw,K,h=>⟨w,rfl,hw,h⟩
 |o::r,w,hw,K,h=>by
  obtain ⟨w1,h1,h2,h3⟩:=aR hw h
  obtain ⟨w2,h4,h5⟩:=qx r h2 h3
  exact ⟨w2,by simp only [Zk];rw [h1];exact h4,h5⟩
theorem dt {ops:Array Oper} : ∀(l:List Nat) {w:WS} (_:w.OK) {K:WS->Prop},PD T Γ ops l w K-> ∃w',Mk T Γ ops l w.st=some w'.st/\w'.OK/\K w'
 | [],w,hw,K,h=>⟨w,rfl,hw,h⟩
 |i::r,w,hw,K,h=>by
  obtain ⟨o,h0,h⟩:=Bp.1 h
  obtain ⟨w1,h1,h2,h3⟩:=aR hw h
  obtain ⟨w2,h4,h5⟩:=dt r h2 h3
  exact ⟨w2,by simp only [Mk];rw [h0];simp only [h1];exact h4,h5⟩
theorem My {ops:Array Oper} : ∀(l:List Nat) {w:WS} (_:w.OK) {K:WS->Prop},iO T Γ ops l w K-> ∃w',Fh T Γ ops l w.st=some w'.st/\w'.OK/\K w'
 | [],w,hw,K,h=>⟨w,rfl,hw,h⟩
 |i::r,w,hw,K,h=>by
  obtain ⟨o,h0,h⟩:=Bp.1 h
  obtain ⟨v,w1,h1,h1',h2,h3⟩:=VP hw h
  obtain ⟨w2,h4,h5⟩:=My r h2 h3
  exact ⟨w2,by simp only [Fh];rw [h0];simp only [h1];rw [<-h1'];exact h4,h5⟩
theorem ku {P:Nat->Prop} : ∀(l:List Nat),MZ l P-> ∀i∈l,P i
 | [],_,i,hi=>by cases hi
 | [k],h,i,hi=>by rw [Ae.1 hi];exact h
 |k::j::r,h,i,hi=>by
  rcases Ba.1 hi with rfl|hi
  ·exact h.1
  ·exact ku (j::r) h.2 i hi
theorem jw {ops:Array Oper} {K:WS->Prop} : ∀(f:Nat) (Af:Array Bool) {w:WS} (_:w.OK),IB T Γ ops f Af w K->anyS T Γ ops (λs=> ∃w':WS,w'.st=s/\w'.OK/\K w') f Af w.st
 |0,Af,w,hw,h=>by
  unfold IB at h
  split at h
  ·rename_i hr;exact ⟨hr,w,rfl,hw,h⟩
  ·cases h
 |f+1,Af,w,hw,h=>by
  unfold IB at h
  split at h
  ·cases h
  ·rename_i i r hr
   refine ⟨by rw [hr];simp,λk hk=>?_⟩
   rw [hr] at hk
   obtain ⟨o,h0,h1⟩:=Bp.1 (ku _ h k hk)
   obtain ⟨w1,h2,h3,h4⟩:=aR hw h1
   exact ⟨o,w1.st,h0,h2,jw f _ h3 h4⟩
theorem bX: ∀(l:List Oper) (d:Nat),d∈Kf l-> ∃o∈l,o.dst=some d
 | [],d,h=>by simp [Kf] at h
 |o::r,d,h=>by
  simp only [Kf] at h
  cases ho:o.dst with
  |none=>
   rw [ho] at h
   obtain ⟨o',h1,h2⟩:=bX r d (by simpa using h)
   exact ⟨o',Am _ h1,h2⟩
  |some e=>
   rw [ho] at h
   rcases Ba.1 (by simpa using h) with h|h
   ·exact ⟨o,by simp,by rw [ho,h]⟩
   ·obtain ⟨o',h1,h2⟩:=bX r d h
    exact ⟨o',Am _ h1,h2⟩
theorem kS {ops:Array Oper} {K:WS->Prop} : ∀(f:Nat) (Af:Array Bool) {w:WS} (_:w.OK),au T Γ ops f Af w K-> ∃w':WS,Ex (λt=>Rt ops t=true) w.st w'.st/\w'.OK/\K w'
 |0,Af,w,hw,h=>by
  simp only [au] at h
  split at h
  ·exact ⟨w,λ_ _ _ _ _ hx=>hx,hw,h⟩
  ·exact h.elim
 |f+1,Af,w,hw,h=>by
  simp only [au] at h
  split at h
  ·exact h.elim
  ·obtain ⟨o,ho,h1⟩:=Bp.1 h
   obtain ⟨w',h2,h3,h4⟩:=aR hw h1
   obtain ⟨w2,g1,g2⟩:=kS f _ h3 h4
   refine ⟨w2,((aq h2).mono λt ht hd=>?_).trans g1,g2⟩
   unfold Rt Xf at ht
   have:(ops.toList.any λo=>o.dst==some t)=true:=Eu.2 ⟨o,mK ho,by rw [hd];exact beq_self_eq_true _⟩
   rw [this] at ht
   cases ht
theorem jU (p:Nat->Bool): ∀(i:Nat) (l0 l1:List AV),(∀t,(l0.getD t .undef).Ws=true->p (i+t)=true->l1.getD t .undef=l0.getD t .undef)->
  Ud (Jy p i l0) l0 (Sv (Jy p i l0) l1)=l1
 |_,[],l1,_=>by simp [Jy,Sv,Ud]
 |i,a::r,[],_=>by
  simp only [Jy]
  cases (a.Ws&&p i)<;>simp [Sv,Ud]
 |i,a::r,b::s,h=>by
  have hr:=jU p (i+1) r s λt h1 h2=>by
   have:=h (t+1) (by simpa using h1) (by rw [show i+(t+1)=i+1+t by omega];exact h2)
   simpa using this
  simp only [Jy]
  cases hc:(a.Ws&&p i) with
  |false=>simp only [Sv,Ud];rw [hr]
  |true=>
   simp only [Sv,Ud]
   rw [hr]
   simp only [Ag] at hc
   have:=h 0 (by simpa using hc.1) hc.2
   simp only [eg] at this
   rw [this]
theorem dx: ∀(f:List Bool) (l:List AV),(Sv f l).length=l.length
 | [],l=>by simp [Sv]
 |true::f,[]=>by simp [Sv]
 |false::f,[]=>by simp [Sv]
 |true::f,a::l=>by simp [Sv,dx f l]
 |false::f,a::l=>by simp [Sv,dx f l]
theorem IK {p:Nat->Bool} {w1 s0 s:St} (h1:Ex (λt=>p t=true) w1 s0) (h2:Ex (λt=>p t=true) w1 s) (h:eqM (Jy p 0 w1.tmps) s0 s):s=s0:=by
 have e:=cd h
 simp only [St.mask,St.mk.injEq] at e
 have key: ∀ {a:St},Ex (λt=>p t=true) w1 a->Ud (Jy p 0 w1.tmps) w1.tmps (Sv (Jy p 0 w1.tmps) a.tmps)=a.tmps:= λ {a} ha=>jU p 0 _ _ λt ht hp=>by
  rw [Db] at hp
  cases hc:w1.tmps.getD t .undef with
  | «at»c=>
   cases c with
   |data fr τ x=>exact ha t fr τ x hp hc
   |_=>rw [hc] at ht;cases ht
  |_=>rw [hc] at ht;cases ht
 have e1:=key h1
 have e2:=key h2
 rw [e.1,e1] at e2
 obtain ⟨_,e4⟩:=e
 cases s;cases s0
 simp only at e2 e4
 rw [e4,e2]
theorem Zl {ops:Array Oper} {K:WS->Prop} : ∀(f:Nat) (Af:Array Bool) {w:WS} (_:w.OK),au T Γ ops f Af w K-> ∃w':WS,w'.OK/\K w'
 |0,Af,w,hw,h=>by
  simp only [au] at h
  split at h
  ·exact ⟨w,hw,h⟩
  ·exact h.elim
 |f+1,Af,w,hw,h=>by
  simp only [au] at h
  split at h
  ·exact h.elim
  ·obtain ⟨o,ho,h1⟩:=Bp.1 h
   obtain ⟨w',h2,h3,h4⟩:=aR hw h1
   exact Zl f _ h3 h4
theorem nt {P:List (Nat×Nat×AV×OB)} {ops:Array Oper} {K:WS->Prop} : ∀(f:Nat) (Af:Array Bool) {w:WS} (_:w.OK),xO T Γ P ops f Af w K->YH T Γ ops P (λs=> ∃w':WS,w'.st=s/\w'.OK/\K w') f Af w.st
 |0,Af,w,hw,h=>by
  unfold xO at h
  split at h
  ·rename_i hr;exact ⟨hr,w,rfl,hw,h⟩
  ·cases h
 |f+1,Af,w,hw,h=>by
  unfold xO at h
  split at h
  ·cases h
  ·rename_i i r hr
   refine ⟨by rw [hr];simp,λk hk=>?_⟩
   rw [hr] at hk
   obtain ⟨o,h0,h1⟩:=Bp.1 (ku _ h k hk)
   split at h1
   ·rename_i fT
    obtain ⟨w1,h2,h3,h4⟩:=aR hw h1
    exact ⟨o,w1.st,h0,fT,h2,nt f _ h3 h4⟩
   ·cases h1
theorem zg {α:Type} (f:α->Nat) {l:List α} (h:Yp (l.map f)=true):l.Pairwise λa c=>f a≠f c:=List.pairwise_map.1 (Wt h)
theorem bE {ops:Array Oper} {E:List Nat} {Af:Array Bool} {w:WS} (hw:w.OK): ∀(R:List Nat) {K:Prop},uz T Γ ops E Af w R K->K/\ ∀r∈R,oZ ops E Af r=true\/ ∃o v,ops[r]?=some o/\Vy T Γ ops w.st o=some v/\ ∀d,o.dst=some d->w.st.get d=v
 | [],K,h=>⟨h,λr hr=>by cases hr⟩
 |r::R,K,h=>by
  unfold uz at h
  split at h
  ·rename_i hwt
   obtain ⟨h1,h2⟩:=bE hw R h
   refine ⟨h1,λq hq=>?_⟩
   rcases Ba.1 hq with rfl|hq
   ·exact .inl hwt
   ·exact h2 q hq
  ·obtain ⟨h0,h⟩:=h
   obtain ⟨h1,h2⟩:=bE hw R h
   refine ⟨h1,λq hq=>?_⟩
   rcases Ba.1 hq with rfl|hq
   ·refine .inr ?_
    obtain ⟨w',g1,_,g3⟩:=My _ hw h0
    obtain ⟨d,hd,g4⟩:=Bp.1 g3
    simp only [Fh] at g1
    split at g1
    ·cases g1
    rename_i o ho
    split at g1
    rotate_left
    ·cases g1
    rename_i v hv
    refine ⟨o,v,ho,hv,λd' AZ=>?_⟩
    rw [ho] at hd
    have hdd:o.dst=some d:=hd
    rw [AZ] at hdd
    cases hdd
    split at g4
    ·rename_i hl
     have e:=cd g4
     have e1:w'.st.get d=w.st.get d:=by
      have:=Jt (λs:St=>s.tmps) e
      simpa using this
     rw [<-e1]
     have e2:w.st.put o.dst v=w'.st:=Aw g1
     rw [<-e2,show o.dst=some d from hd]
     show (Rr w.st.tmps d v).getD d .undef=v
     rw [Qe,Ab ⟨rfl,by simpa [Ms] using hl⟩]
    ·cases g4
   ·exact h2 q hq
theorem aZ {ops:Array Oper} {E:List Nat} {K:WS->Prop} : ∀(f:Nat) (Af:Array Bool) {w:WS} (_:w.OK),pf T Γ ops E f Af w K->og T Γ ops E (λs=> ∃w':WS,w'.st=s/\w'.OK/\K w') f Af w.st
 |0,Af,w,hw,h=>by
  unfold pf at h
  obtain ⟨h,hs⟩:=bE hw _ h
  split at h
  ·rename_i hr;exact ⟨hs,hr,w,rfl,hw,h⟩
  ·cases h
 |f+1,Af,w,hw,h=>by
  unfold pf at h
  obtain ⟨h,hs⟩:=bE hw _ h
  split at h
  ·cases h
  ·rename_i i r hr
   refine ⟨hs,by rw [hr];simp,λk hk=>?_⟩
   rw [hr] at hk
   obtain ⟨o,h0,h1⟩:=Bp.1 (ku _ h k hk)
   obtain ⟨w1,h2,h3,h4⟩:=aR hw h1
   exact ⟨o,w1.st,h0,h2,aZ f _ h3 h4⟩
theorem wE {ops:Array Oper} {E:List Nat} {L0:Array Bool} {n:Nat} {w:WS} (hw:w.OK) {K:WS->Prop} (h:EC T Γ E n L0 ops w K):TL T Γ ops (λs=> ∃w':WS,w'.st=s/\w'.OK/\K w') n L0 w.st:=by
 unfold EC at h
 split at h
 ·rename_i hb
  simp only [Ag] at hb
  obtain ⟨b1,b2,b3⟩:=hb
  obtain ⟨w1,h1,h2,h3⟩:=My _ hw h
  have h3:=Nm.1 h3
  obtain ⟨w0,g1,g2⟩:=Zl _ _ h2 h3
  obtain ⟨g3,g4⟩:=Nm.1 g2
  refine ⟨E,w1.st,b1,Nat.le_of_ble_eq_true b2,h1,Zv (λs hs=>?_) _ _ _ (aZ _ _ h2 g4)⟩
  obtain ⟨w',h5,_,h6⟩:=hs
  exact ⟨w0,((h5.symm.trans (cd (Nm.1 h6))).symm),g1,g3⟩
 ·cases h
theorem bU {ops:Array Oper} {t:Nat} :Rt ops t=true->t∉Kf ops.toList:= λh hm=>by
 obtain ⟨o,ho,hd⟩:=bX _ _ hm
 unfold Rt Xf at h
 have:(ops.toList.any λo=>o.dst==some t)=true:=Eu.2 ⟨o,ho,by rw [hd];exact beq_self_eq_true _⟩
 rw [this] at h
 cases h
theorem xP {ops:Array Oper} {E:List Nat} {K:St->Prop} (s0:St) (f:Nat) (Af:Array Bool) (st:St) (hk:Ex (λt=>Rt ops t=true) s0 st) (h:og T Γ ops E K f Af st):
  og T Γ ops E (λs=>K s/\Ex (λt=>Rt ops t=true) s0 s) f Af st:=by
 have h1:=jv (draw:=true) st f Af st (λ_ _ _ _ _ hx=>hx) h
 exact Zv (λs hs=>⟨hs.1,hk.trans (hs.2.mono λt ht=>bU ht)⟩) _ _ _ h1
theorem WS.OK.Pv {w:WS} (hw:w.OK) (dead:List Nat):(w.Pv dead).OK:=by
 intro t b hb
 have key: ∀(l:List (Nat×Bool)),lk (l.filter λp=>!dead.contains p.1) t=some b->dead.contains t=false/\lk l t=some b:=by
  intro l
  induction l with
  |nil=>intro h;cases h
  |cons q r ih=>
   intro h
   obtain ⟨k,c⟩:=q
   by_cases hk:dead.contains k=true
   ·rw [List.filter_cons_of_neg (by rw [hk];decide)] at h
    obtain ⟨h1,h2⟩:=ih h
    refine ⟨h1,?_⟩
    unfold lk
    rw [Ai (λe=>by subst e;rw [h1] at hk;cases hk)]
    exact h2
   ·have hk:dead.contains k=false:=by simpa using hk
    rw [List.filter_cons_of_pos (by rw [hk];rfl)] at h
    unfold lk at h⊢
    split at h
    ·rename_i e
     subst e
     rw [Ab rfl]
     exact ⟨hk,h⟩
    ·rename_i e
     rw [Ai e]
     exact ih h
 obtain ⟨h1,h2⟩:=key _ hb
 obtain ⟨fr,h3⟩:=hw t b h2
 refine ⟨fr,?_⟩
 show (w.st.Pv dead).get t=_
 unfold St.Pv
 refine Td _ _ t fr _ _ ?_
 show (Hs _ 0 w.st.tmps).getD t .undef=_
 rw [Uu _ 0 w.st.tmps t ?_]
 ·exact h3
 ·refine Bv.2 ⟨Io.2 ?_,by rw [Db,h1];rfl⟩
  refine Cd λhn=>?_
  have:w.st.get t= .undef:=by
   unfold St.get
   rw [Al,Er (by omega)];rfl
  rw [h3] at this
  cases this
theorem zj {ops:Array Oper} {dead E:List Nat} (b3:dead.all (Xf ops)=true) {L0:Array Bool} {n:Nat} {w:WS} (hw:w.OK) {K:WS->Prop} (h:QE T Γ dead E n L0 ops w K):TL T Γ ops (λs=> ∃w':WS,w'.st=s.Pv dead/\w'.OK/\K w') n L0 w.st:=by
 unfold QE at h
 split at h
 ·rename_i hb
  simp only [Ag] at hb
  obtain ⟨b1,b2⟩:=hb
  obtain ⟨w1,h1,h2,h3⟩:=My _ hw h
  have h3:=Nm.1 h3
  refine ⟨E,w1.st,b1,Nat.le_of_ble_eq_true b2,h1,?_⟩
  split at h3
  ·refine Zv (λs hs=>?_) _ _ _ (aZ _ _ h2 h3)
   obtain ⟨w',h5,h6,h7⟩:=hs
   exact ⟨w'.Pv dead,by rw [<-h5];rfl,h6.Pv _,h7⟩
  ·rw [dk] at h3
   obtain ⟨w0,g0,g1,g2⟩:=kS _ _ h2 h3
   obtain ⟨g3,g4⟩:=Nm.1 g2
   refine Zv (λs hs=>?_) _ _ _ (xP w1.st _ _ _ (λ_ _ _ _ _ hx=>hx) (aZ _ _ h2 g4))
   obtain ⟨⟨w',h5,_,h6⟩,h7⟩:=hs
   have h6:=Nm.1 h6
   have k1:Ex (λt=>Rt ops t=true) w1.st (w0.Pv dead).st:=g0.trans ((fY b3 w0.st).mono λt ht=>bU ht)
   have k2:Ex (λt=>Rt ops t=true) w1.st (w'.Pv dead).st:=by
    show Ex _ w1.st (w'.st.Pv dead)
    rw [h5]
    exact h7.trans ((fY b3 s).mono λt ht=>bU ht)
   have e:=IK k1 k2 h6
   refine ⟨w0.Pv dead,?_,g1.Pv _,g3⟩
   rw [<-e,<-h5]
   rfl
 ·cases h
theorem rP {ops:Array Oper} {L0:Array Bool} {n:Nat} {w:WS} (hw:w.OK) {K:WS->Prop} (hc:Tb ops L0) (h:uX T Γ (Xt T ops L0) n L0 ops w K):anyS T Γ ops (λs=> ∃w':WS,w'.st=s/\w'.OK/\K w') n L0 w.st\/TL T Γ ops (λs=> ∃w':WS,w'.st=s/\w'.OK/\K w') n L0 w.st:=by
 unfold uX at h
 split at h
 ·rename_i hb
  simp only [Ag] at hb
  obtain ⟨⟨b1,b2⟩,b3,b4,b5⟩:=hb
  have hm: ∀a∈Xt T ops L0,a.1∈Region.ready .any ops L0/\ ∃o,ops[a.1]?=some o/\da T o=some a.2:= λa ha=>uT ha
  have p1:=zg (λa:Nat×Nat×AV×OB=>a.1) b1
  have p2:=zg (λa:Nat×Nat×AV×OB=>a.2.1) b2
  have hlen:(Xt T ops L0).length<=n:=Nat.le_of_ble_eq_true b4
  obtain ⟨w1,h1,h2,h3⟩:=dt _ hw h
  have h3:=Nm.1 h3
  obtain ⟨w0,g1,g2⟩:=Zl _ _ h2 h3
  obtain ⟨g3,g4⟩:=Nm.1 g2
  have hp:=zv (Γ:=Γ) _ w.st w1.st (λa ha=>(hm a ha).2) (λa ha=>qu (Ax.1 b3 a ha)) p2 h1
  refine .inl (gP (λs hs=>?_) _ _ _ (IA (λa ha=>(hm a ha).2) n (n-(Xt T ops L0).length) (Xt T ops L0) _ L0 w1.st w.st (by omega) (nt _ _ h2 g4) hp
   (TP (ops:=ops) λi hi=>by obtain ⟨a,ha,rfl⟩:=Bo.1 hi;exact (hm a ha).1) (λa ha=>ha) (p2.and p1) hc λa ha x hx=>bt (hm a ha).1 hx))
  obtain ⟨w',h5,_,h6⟩:=hs
  exact ⟨w0,((h5.symm.trans (cd h6)).symm),g1,g3⟩
 ·exact .inr (wE hw h)
theorem j4 {ops:Array Oper} {draw:Bool} {w:WS} (hw:w.OK) {K:WS->Prop} (h:oW T Γ ops draw w K):iC T Γ ops draw w.st (λs=> ∃w':WS,w'.st=s/\w'.OK/\K w'):=by
 unfold oW at h
 split at h
 ·split at h
  ·rename_i ho
   obtain ⟨w1,h1,h2,h3⟩:=My _ hw h
   obtain ⟨w2,h4,h5⟩:=dt _ h2 h3
   exact .inl ⟨w2.st,by simp only [Qv,Qf];rw [Ab ho,h1];exact h4,w2,rfl,h5⟩
  ·rename_i ho
   split at h
   ·rename_i ho2
    obtain ⟨w1,h1,h2,h3⟩:=My _ hw h
    obtain ⟨w2,h4,h5⟩:=dt _ h2 h3
    exact .inl ⟨w2.st,by simp only [Qv,Qf];rw [Ai (by rw [ho];decide),Ab ho2,h1];exact h4,w2,rfl,h5⟩
   ·split at h
    ·rename_i hc
     simp only [Ag] at hc
     obtain ⟨w1,h1,h2,h3⟩:=My _ hw h
     split at h3
     ·exact .inr ⟨rfl,hc.1,w1.st,h1, .inl (jw _ _ h2 h3)⟩
     ·obtain ⟨w0,g1,g2⟩:=Zl _ _ h2 h3
      obtain ⟨g3,g4⟩:=Nm.1 g2
      exact .inr ⟨rfl,hc.1,w1.st,h1, .inl (gP (λs hs=>by
       obtain ⟨w',h5,_,h6⟩:=hs
       exact ⟨w0,((h5.symm.trans (cd h6)).symm),g1,g3⟩) _ _ _ (jw _ _ h2 g4))⟩
    ·split at h
     ·rename_i GU
      obtain ⟨w1,h1,h2,h3⟩:=My _ hw h
      exact .inr ⟨rfl,GU,w1.st,h1,rP h2 (Zi _ _ _ nz) h3⟩
     ·cases h
 ·obtain ⟨w1,h1,h2⟩:=qx _ hw h
  exact .inl ⟨w1.st,by simp only [Qv];rw [Ai (by simp)];exact h1,w1,rfl,h2⟩
theorem sv {ops:Array Oper} {draw:Bool} {w:WS} (hw:w.OK) {K:WS->Prop} (h:wH T Γ ops draw w K):uQ T Γ ops draw w.st (λs=> ∃w':WS,w'.st=s/\w'.OK/\K w'):=by
 unfold wH at h
 split at h
 ·rename_i hb
  have b3:=(Bm.1 hb).2
  refine .inr ⟨rv ops,b3,?_⟩
  split at h
  ·rename_i hc
   simp only [Ag,QD] at hc
   obtain ⟨w1,h1,h2,h3⟩:=My _ hw h
   exact .inr ⟨hc.1,hc.2.2.1,w1.st,h1, .inr (zj b3 h2 h3)⟩
  ·exact (j4 hw h).mono λs ⟨w',h1,h2,h3⟩=>⟨w'.Pv (rv ops),by rw [<-h1];rfl,h2.Pv _,h3⟩
 ·exact .inl (j4 hw h)
end
end Go.Proofs.Ytkkdpknjohcekaa
