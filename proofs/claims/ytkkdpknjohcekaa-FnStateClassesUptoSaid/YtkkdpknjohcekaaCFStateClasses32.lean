/-
  Part 33 of the proof that the statement FnStateClasses holds.
-/
import Derived.Test.YtkkdpknjohcekaaCFStateClasses31
namespace Go.Proofs.Ytkkdpknjohcekaa
open Go.RowKit
section
variable {T:Tab} {Γ:Env}
def WS.OK (w:WS):Prop:= ∀t b,m8 w.kn t=some b-> ∃fr,w.st.get t= .at (.data fr .bool b)
theorem kF: ∀(l:List (Nat×Bool)) (d t:Nat) (b:Bool),m8 (vd l d) t=some b->t≠d/\m8 l t=some b
 | [],_,_,_,h=>by cases h
 |(k,c)::r,d,t,b,h=>by
  simp only [vd] at h
  split at h
  ·rename_i hk
   have:=kF r d t b h
   refine ⟨this.1,?_⟩
   simp only [m8]
   rw [Ai (by rw [hk];exact λh=>this.1 h.symm)]
   exact this.2
  ·rename_i hk
   simp only [m8] at h⊢
   split at h
   ·rename_i hkt
    exact ⟨by rw [<-hkt];exact hk,by rw [Ac hkt];exact h⟩
   ·rename_i hkt
    rw [Ai hkt]
    exact kF r d t b h
theorem WS.OK.put {w:WS} (h:w.OK) (dst:Option Tmp) (v:AV):(w.put dst v).OK:=by
 cases dst with
 |none=>exact h
 |some d=>
  intro t b hb
  obtain ⟨h1,h2⟩:=kF _ _ _ _ hb
  obtain ⟨fr,h3⟩:=h t b h2
  exact ⟨fr,by show (w.st.put (some d) v).get t=_;rw [aO _ _ h1];exact h3⟩
theorem WS.rV (w:WS) (dst:Option Tmp) (v:AV):(w.put dst v).st=w.st.put dst v:=by cases dst<;>rfl
theorem WS.OK.to {w:WS} (h:w.OK) {s:St} (hs:Ch w.st s):(w.to s).OK:=by
 intro t b hb
 obtain ⟨fr,h3⟩:=h t b hb
 exact ⟨fr,hs t fr _ _ h3⟩
theorem uz {w:WS} (hw:w.OK) {t:Nat} {K:Bool->WS->Prop} (h:brT w t K):
  ∃fr b w',w.st.get t= .at (.data fr .bool b)/\w'.st=w.st/\w'.OK/\K b w':=by
 unfold brT at h
 split at h
 ·rename_i b hb
  obtain ⟨fr,h1⟩:=hw t b hb
  exact ⟨fr,b,w,h1,rfl,hw,h⟩
 ·split at h
  ·rename_i fr b hb
   obtain ⟨h1,h2⟩:=h
   have ok: ∀c:Bool,b=c->WS.OK {kn:=(t,c)::w.kn,st:=w.st} :=by
    intro c hc t' b' h'
    simp only [m8] at h'
    split at h'
    ·rename_i ht
     injection h' with h'
     exact ⟨fr,by rw [<-ht,<-h',<-hc];exact hb⟩
    ·exact hw t' b' h'
   cases b with
   |true=>exact ⟨fr,true, {kn:=(t,true)::w.kn,st:=w.st},hb,rfl,ok true rfl,h1 rfl⟩
   |false=>exact ⟨fr,false, {kn:=(t,false)::w.kn,st:=w.st},hb,rfl,ok false rfl,h2 rfl⟩
  ·cases h
theorem uy {w:WS} (hw:w.OK) {c:Operand} {K:Bool->WS->Prop} (h:brO w c K):
  ∃fr b w',w.st.ev c= .at (.data fr .bool b)/\w'.st=w.st/\w'.OK/\K b w':=by
 unfold brO at h
 split at h
 ·exact uz hw h
 ·exact ⟨true,_,w,rfl,rfl,hw,h⟩
 ·cases h
theorem FA {op:BinOp} {t:TypeId} {x y:AV} {K:AV->Prop} (h:Ac6 T op t x y K): ∃v,Sy T op t x y=some v/\K v:=by
 unfold Ac6 at h
 split at h
 ·split at h
  ·rename_i hk
   exact ⟨_,by simp only [Sy,evalBin,r9];rw [Ac hk,Ai h.1];rfl,h.2⟩
  ·cases h
 ·split at h
  ·rename_i hk
   exact ⟨_,by simp only [Sy,evalBin,r9];rw [Ac hk,Ai h.1];rfl,h.2⟩
  ·cases h
 ·exact ⟨_,by simp only [Sy,evalBin];rw [Ai h.1];rfl,h.2⟩
 ·exact ⟨_,by simp only [Sy,evalBin];rw [Ai h.1];rfl,h.2⟩
 ·exact ⟨_,by simp only [Sy,evalBin];rw [Ac h.1],h.2⟩
 ·exact Bu.1 h
theorem AX {st:St} {t:TypeId} {p:AV} {K:AV->Prop} (h:TZ T st t p K): ∃v,Pq T st t p=some v/\K v:=by
 unfold TZ at h
 split at h
 ·obtain ⟨τ,h1,h2⟩:=Bu.1 h
  split at h2
  ·rename_i hb
   split at h2
   ·rename_i he
    obtain ⟨x,h3,h4⟩:=h2
    exact ⟨_,by simp only [Pq,h1,hb,Ac he,h3];rfl,h4⟩
   ·cases h2
  ·rename_i hb
   split at h2
   ·rename_i he
    obtain ⟨x,h3,h4⟩:=h2
    exact ⟨_,by simp only [Pq,h1,hb,Ac he,h3];rfl,h4⟩
   ·cases h2
  ·rename_i hb
   split at h2
   ·cases h2
   ·rename_i he
    exact ⟨_,by simp only [Pq,h1,hb,Ai he],h2⟩
  ·cases h2
 ·obtain ⟨τ,h1,h2⟩:=Bu.1 h
  split at h2
  ·rename_i he
   obtain ⟨y,h3,h4⟩:=h2
   subst h3
   exact ⟨_,by simp only [Pq,h1,Ac he],h4⟩
  ·cases h2
 ·exact Bu.1 h
theorem mY {s:TypeId} {x:AV} {f:Nat} {K:AV->Prop} (h:kv T s x f K): ∃v,Nr T s x f=some v/\K v:=by
 unfold kv at h
 split at h
 ·obtain ⟨y,h1,h2⟩:=h
  subst h1
  obtain ⟨v,h3,h4⟩:=Bu.1 h2
  refine ⟨v,?_,h4⟩
  rw [<-h3]
  unfold Nr
  cases T.off s f<;>rfl
 ·exact Bu.1 h
theorem yb {st:St} {t:TypeId} {x:AV} {lo hi:Option AV} {K:AV->Prop} (h:IS T st t x lo hi K): ∃v,cM T st t x lo hi=some v/\K v:=by
 unfold IS at h
 obtain ⟨n,h1,h⟩:=Bu.1 h
 obtain ⟨l,h2,h⟩:=Bu.1 h
 obtain ⟨hh,h3,hc,h⟩:=Bu.1 h
 obtain ⟨v,h4,h5⟩:=Bu.1 h
 refine ⟨v,?_,h5⟩
 simp only [cM,h1,h2,h3,Ac hc]
 exact h4
theorem nh {st:St} {t:TypeId} {x i:AV} {K:AV->Prop} (h:kC T st t x i K): ∃v,Kc T st t x i=some v/\K v:=by
 unfold kC at h
 split at h
 ·split at h
  ·rename_i he
   obtain ⟨x,h3,h4⟩:=h
   exact ⟨_,by simp only [Kc,Ac he,h3];rfl,h4⟩
  ·cases h
 ·split at h
  ·rename_i hb
   split at h
   ·rename_i he
    obtain ⟨h3,h4⟩:=h
    exact ⟨_,by simp only [Kc,hb];rw [Ac ⟨he.1,he.2,Tf.2 h3⟩],h4⟩
   ·cases h
  ·rename_i hb
   split at h
   ·rename_i he
    obtain ⟨h3,h4⟩:=h
    exact ⟨_,by simp only [Kc,hb];rw [Ac ⟨he.1,he.2,Tf.2 h3⟩],h4⟩
   ·cases h
  ·rename_i hb
   split at h
   ·rename_i he
    obtain ⟨h3,h4⟩:=h
    exact ⟨_,by simp only [Kc,hb];rw [Ac ⟨he.1,he.2,Tf.2 h3⟩],h4⟩
   ·cases h
  ·cases h
 ·split at h
  ·rename_i hb
   split at h
   ·rename_i he
    obtain ⟨h3,h4⟩:=h
    exact ⟨_,by simp only [Kc,hb];rw [Ac ⟨he,Tf.2 h3⟩],h4⟩
   ·cases h
  ·cases h
 ·cases h
theorem x5 {t:TypeId} {x i:AV} {K:AV->Prop} (h:GN T t x i K): ∃v,iE T t x i=some v/\K v:=by
 unfold GN at h
 split at h
 ·split at h
  ·rename_i he
   obtain ⟨h1,b,h3,h4⟩:=h
   exact ⟨_,by simp only [iE,Ac he,Ac h1,h3];rfl,h4⟩
  ·cases h
 ·cases h
theorem bt {st:St} {f:FuncId} {args:List AV} {K:AV->Prop} (h:uC Γ st f args K): ∃v,Of Γ st f args=some v/\K v:=by
 unfold uC at h
 obtain ⟨s,h1,h⟩:=Bu.1 h
 have h1:Γ f=some (.q s):=by
  split at h1
  ·rename_i s' hs;injection h1 with h1;rw [hs,h1]
  ·cases h1
 split at h
 ·rename_i hf
  obtain ⟨p,h2,y,h3,h4⟩:=Bu.1 h
  refine ⟨_,?_,h4⟩
  simp only [Of,h1]
  rw [Ac hf,h2]
  simp only [h3]
  rfl
 ·cases h
theorem wD {st:St} {v:AV} {args:List AV} {K:AV->Prop} (h:FC Γ st v args K): ∃u,Ws Γ st v args=some u/\K u:=by
 unfold FC at h
 split at h
 ·split at h
  ·rename_i hc
   split at h
   ·rename_i hf
    obtain ⟨u,h1,h2⟩:=bt h
    exact ⟨u,by simp only [Ws];rw [Ac hc,Ac (by simpa using hf)];exact h1,h2⟩
   ·rename_i hf
    obtain ⟨u,h1,h2⟩:=bt h
    exact ⟨u,by simp only [Ws];rw [Ac hc,Ai (λhx=>by rw [show Nat.blt _ 1000000000=true from by simpa using hx] at hf;cases hf)];exact h1,h2⟩
  ·cases h
 ·exact bt h
 ·cases h
theorem Pb {w:WS} (hw:w.OK) {x:Operand} {b:Bool} (hk:Vm w.kn x=some b): ∃fr,w.st.ev x= .at (.data fr .bool b):=by
 unfold Vm at hk
 split at hk
 ·injection hk with hk;subst hk;exact ⟨true,rfl⟩
 ·exact hw _ _ hk
 ·cases hk
theorem tG {w:WS} (hw:w.OK) {o:Oper} {b:Bool} (hk:Gq w.kn o=some b) {v:AV} (he:Eu T Γ w.st o=some v): ∃fr,v= .at (.data fr .bool b):=by
 unfold Gq at hk
 split at hk
 ·rename_i heq;unfold Eu at he;rw [heq] at he;injection he with he;obtain ⟨fr,h⟩:=Pb hw hk;exact ⟨fr,he.symm.trans h⟩
 ·rename_i heq;unfold Eu at he;rw [heq] at he;injection he with he;obtain ⟨fr,h⟩:=Pb hw hk;exact ⟨fr,he.symm.trans h⟩
 ·rename_i x heq
  cases hx:Vm w.kn x with
  |none=>rw [hx] at hk;cases hk
  |some c=>
   rw [hx] at hk
   injection hk with hk
   obtain ⟨fr,h⟩:=Pb hw hx
   unfold Eu at he;rw [heq] at he
   simp only [h,wO,Ow] at he
   injection he with he
   exact ⟨true,by rw [<-he,<-hk]⟩
 ·rename_i c x y heq
  unfold Eu at he;rw [heq] at he
  split at hk
  ·rename_i hc
   obtain ⟨fr,h⟩:=Pb hw hc
   simp only [h,cL,Oy] at he
   injection he with he
   obtain ⟨fr,h⟩:=Pb hw hk
   exact ⟨fr,he.symm.trans h⟩
  ·rename_i hc
   obtain ⟨fr,h⟩:=Pb hw hc
   simp only [h,cL,Cx,Qu] at he
   injection he with he
   obtain ⟨fr,h⟩:=Pb hw hk
   exact ⟨fr,he.symm.trans h⟩
  ·cases hk
 ·cases hk
theorem rM {w:WS} (hw:w.OK) {o:Oper} {x:Operand} (ho:o.op= .assign x) {b:Bool} (hk:Gq w.kn o=some b) {v:AV} {s:St} (he:evalOp T Γ w.st o=some (v,s)): ∃fr,v= .at (.data fr .bool b):=by
 unfold Gq at hk
 rw [ho] at hk
 obtain ⟨fr,h⟩:=Pb hw hk
 unfold evalOp at he;rw [ho] at he
 simp only [h] at he
 injection he with he;injection he with he;exact ⟨fr,he.symm⟩
theorem gT {w:WS} (hw:w.OK) {o:Oper} {K:AV->WS->Prop} (h:qW T Γ w o K):
  ∃v w',Eu T Γ w.st o=some v/\w'.st=w.st/\w'.OK/\(∀b,Gq w'.kn o=some b-> ∃fr,v= .at (.data fr .bool b))/\K v w':=by
 have fin:(∃v w',Eu T Γ w.st o=some v/\w'.st=w.st/\w'.OK/\K v w')-> ∃v w',Eu T Γ w.st o=some v/\w'.st=w.st/\w'.OK/\(∀b,Gq w'.kn o=some b-> ∃fr,v= .at (.data fr .bool b))/\K v w':=by
  rintro ⟨v,w',h1,h2,h3,h4⟩
  exact ⟨v,w',h1,h2,h3,λb hb=>tG h3 hb (by rw [h2];exact h1),h4⟩
 refine fin ?_
 unfold qW at h
 split at h
 ·rename_i c a b heq
  obtain ⟨fr,t,w',h1,h2,h3,h4⟩:=uy hw h
  cases t with
  |true=>exact ⟨_,w',by unfold Eu;rw [heq];simp only [h1,cL,Oy];rw [<-h2],h2,h3,h4⟩
  |false=>exact ⟨_,w',by unfold Eu;rw [heq];simp only [h1,cL];rw [<-h2];simp,h2,h3,h4⟩
 ·rename_i heq
  obtain ⟨v,h1,h2⟩:=AX h
  exact ⟨v,w,by unfold Eu;rw [heq];exact h1,rfl,hw,h2⟩
 ·rename_i heq
  obtain ⟨v,h1,h2⟩:=FA h
  exact ⟨v,w,by unfold Eu;rw [heq];exact h1,rfl,hw,h2⟩
 ·rename_i heq
  split at h
  ·obtain ⟨v,h1,h2⟩:=yb h
   exact ⟨v,w,by unfold Eu;rw [heq];simpa using h1,rfl,hw,h2⟩
  ·cases h
 ·rename_i heq
  obtain ⟨v,h1,h2⟩:=nh h
  exact ⟨v,w,by unfold Eu;rw [heq];exact h1,rfl,hw,h2⟩
 ·rename_i heq
  obtain ⟨v,h1,h2⟩:=x5 h
  exact ⟨v,w,by unfold Eu;rw [heq];exact h1,rfl,hw,h2⟩
 ·rename_i heq
  obtain ⟨v,h1,h2⟩:=bt h
  exact ⟨v,w,by unfold Eu;rw [heq];exact h1,rfl,hw,h2⟩
 ·rename_i heq
  obtain ⟨v,h1,h2⟩:=wD h
  exact ⟨v,w,by unfold Eu;rw [heq];exact h1,rfl,hw,h2⟩
 ·rename_i heq
  obtain ⟨v,h1,h2⟩:=mY h
  exact ⟨v,w,by unfold Eu;rw [heq];exact h1,rfl,hw,h2⟩
 ·rename_i x heq
  unfold vz at h
  split at h
  ·rename_i fr τ z hx
   obtain ⟨y,h1,h2⟩:=h
   subst h1
   exact ⟨_,w,by unfold Eu;rw [heq];simp only [hx],rfl,hw,h2⟩
  ·obtain ⟨v,h1,h2⟩:=Bu.1 h
   exact ⟨v,w,h1,rfl,hw,h2⟩
 ·obtain ⟨v,h1,h2⟩:=Bu.1 h
  exact ⟨v,w,h1,rfl,hw,h2⟩
theorem yy {st:St} {t:TypeId} {p v:AV} {K:St->Prop} (h:JB T st t p v K): ∃s,Tz T st t p v=some s/\K s:=by
 unfold JB at h
 split at h
 ·obtain ⟨τ,h1,h⟩:=Bu.1 h
  obtain ⟨q,h2,h⟩:=Bu.1 h
  split at h
  ·rename_i hb
   obtain ⟨u,h3,h⟩:=Bu.1 h
   split at h
   ·rename_i hc
    obtain ⟨h4,h5⟩:=h
    obtain ⟨q1,q2⟩:=q
    obtain ⟨u1,u2⟩:=u
    exact ⟨_,by simp only [Tz,h1,h2,hb,h3];rw [Im hc,Ac h4],h5⟩
   ·cases h
  ·cases h
 ·exact Bu.1 h
theorem ua {st:St} {t:TypeId} {p v:AV} {K:St->Prop} (h:yt T st t p v K): ∃s,Pe T st t p v=some s/\K s:=by
 unfold yt at h
 unfold Pe
 split at h
 rotate_left
 ·rename_i hg;rw [hg];exact yy h
 rename_i hg
 rw [hg]
 simp only
 unfold LZ at h
 split at h
 ·obtain ⟨τ,h1,h⟩:=Bu.1 h
  obtain ⟨q,h2,h⟩:=Bu.1 h
  split at h
  ·rename_i hb
   obtain ⟨u,h3,h⟩:=Bu.1 h
   split at h
   ·rename_i hc
    obtain ⟨q1,q2⟩:=q
    obtain ⟨u1,u2⟩:=u
    exact ⟨_,by simp only [aM,h1,h2,hb,h3];rw [Im hc],h⟩
   ·cases h
  ·cases h
 ·rename_i l j
  obtain ⟨τ,h1,h⟩:=Bu.1 h
  split at h
  ·rename_i e te rows out kp m off len hl _
   split at h
   ·rename_i fr tr e' tid xs hm
    split at h
    ·rename_i hc
     obtain ⟨h2,h3,h4,h5⟩:=h
     have h4:out=none\/out=some j:=by
      cases out with
      |none=>exact .inl rfl
      |some i=>exact .inr (Ma some h4)
     exact ⟨_,by simp only [aM,h1,hl,hm];rw [Im ⟨hc.1,hc.2,h2,h3,h4⟩],h5⟩
    ·cases h
   ·cases h
  ·cases h
 ·cases h
theorem Xu {st:St} {d:Nat} {t:TypeId} {x y:Operand} {K:AV->St->Prop} (h:l9 T st d t x y K): ∃v s,Nq T st d t x y=some (v,s)/\K v s:=by
 unfold l9 at h
 obtain ⟨te,h1,h⟩:=Bu.1 h
 obtain ⟨e,h2,h⟩:=Bu.1 h
 obtain ⟨q,h3,h⟩:=Bu.1 h
 obtain ⟨u,h4,h⟩:=Bu.1 h
 obtain ⟨q1,q2⟩:=q
 obtain ⟨u1,u2⟩:=u
 split at h
 ·rename_i hx
  split at h
  ·rename_i hd
   obtain ⟨h5,h6⟩:=h
   refine ⟨_,_,?_,h6⟩
   simp only [Nq,h1,h2,h3,h4]
   rw [hx]
   simp only
   rw [Ac ⟨h5,by simpa [Ms] using hd⟩]
   simp
  ·cases h
 ·rename_i l off len hx
  split at h
  ·rename_i fr tr e' tid xs hb
   split at h
   ·rename_i hc
    obtain ⟨h5,h6,h7,h8⟩:=h
    refine ⟨_,_,?_,h8⟩
    simp only [Nq,h1,h2,h3,h4]
    rw [hx]
    simp only [hb]
    rw [Im ⟨hc.1,hc.2.1⟩,Ac ⟨h7,by simpa [Ms] using hc.2.2⟩]
    obtain ⟨YG,hc2,hc3⟩:=hc
    subst YG
    subst h5
    simp only [Du,h6,Bb,Au]
   ·cases h
  ·cases h
 ·cases h
theorem qb {st:St} {d:Nat} {t:TypeId} {x y:Operand} {K:AV->St->Prop} (h:qa T st d t x y K): ∃v s,Qy T st d t x y=some (v,s)/\K v s:=by
 unfold qa at h
 cases x with
 |tmp tx=>
  simp only at h
  unfold Qy
  simp only
  cases hg:st.get tx with
  | «at»c=>
   rw [hg] at h
   cases c with
   |sub l i c=>
    simp only at h⊢
    obtain ⟨tid,h1,h⟩:=Bu.1 h
    split at h
    ·rename_i hl
     split at h
     ·rename_i hc
      obtain ⟨v,s,h2,h3⟩:=Xu h
      refine ⟨v,s,?_,h3⟩
      simp only [hl,h1]
      rw [Ac hc]
      exact h2
     ·cases h
    ·cases h
   |_=>exact Xu h
  |_=>rw [hg] at h;exact Xu h
 |_=>exact Xu h
theorem BB {st:St} {d:Nat} {t:TypeId} {l c:AV} {K:AV->St->Prop} (h:UC T st d t l c K): ∃v s,aK T st d t l c=some (v,s)/\K v s:=by
 unfold UC at h
 split at h
 ·obtain ⟨te,h1,h⟩:=Bu.1 h
  obtain ⟨e,h2,h⟩:=Bu.1 h
  split at h
  ·rename_i hz
   obtain ⟨h3,h4,h5⟩:=h
   refine ⟨_,_,?_,h5⟩
   simp only [Ag] at hz
   simp only [aK,h1,h2]
   rw [Ac ⟨Tf.2 (by exact_mod_cast h3),h4,hz.1,by simpa [Ms] using hz.2⟩]
   simp
  ·cases h
 ·cases h
theorem xq {st:St} {d:Nat} {t:TypeId} {l c:AV} {K:AV->St->Prop} (h:HD T st d t l c K): ∃v s,Wt T st d t l c=some (v,s)/\K v s:=by
 unfold HD at h
 unfold Wt
 cases hg:cO T t with
 |none=>rw [hg] at h;exact BB h
 |some p=>
  obtain ⟨te,e⟩:=p
  rw [hg] at h
  simp only at h⊢
  split at h
  ·split at h
   ·rename_i hd
    obtain ⟨h3,h4,h5⟩:=h
    refine ⟨_,_,?_,h5⟩
    simp only
    rw [Ac ⟨Tf.2 (by exact_mod_cast h3),h4,by simpa [Ms] using hd⟩]
    simp
   ·cases h
  ·cases h
theorem km {st:St} {d:Nat} {t:TypeId} {len:Nat} {parts:Array (Nat×Operand)} {K:AV->St->Prop} (h:dF T st d t len parts K): ∃v s,Io T st d t len parts=some (v,s)/\K v s:=by
 unfold dF at h
 unfold Io
 cases hg:cO T t with
 |none=>
  rw [hg] at h
  obtain ⟨r,h1,h2⟩:=Bu.1 h
  exact ⟨r.1,r.2,h1,h2⟩
 |some p=>
  obtain ⟨te,e⟩:=p
  rw [hg] at h
  simp only at h⊢
  split at h
  ·rename_i x hp
   split at h
   ·rename_i m off ln hx
    split at h
    ·rename_i hm
     split at h
     ·rename_i hc
      obtain ⟨h1,h2,h3⟩:=h
      refine ⟨_,_,?_,h3⟩
      simp only [hp,hx,hm]
      rw [Im ⟨hc.1,hc.2,h1,h2⟩]
     ·cases h
    ·cases h
   ·cases h
  ·cases h
theorem qd {st:St} {d:Nat} {t:TypeId} {x y:Operand} {K:AV->St->Prop} (h:qc T st d t x y K): ∃v s,Qz T st d t x y=some (v,s)/\K v s:=by
 unfold qc at h
 unfold Qz
 cases hg:cO T t with
 |none=>rw [hg] at h;exact qb h
 |some p=>
  obtain ⟨te,e⟩:=p
  rw [hg] at h
  simp only at h⊢
  split at h
  ·rename_i l off len m UJ rj hx hy
   split at h
   ·rename_i hl hm
    split at h
    ·rename_i hc
     obtain ⟨h1,h2,h3,h4,h5⟩:=h
     obtain ⟨⟨rfl,rfl⟩,hc⟩:=hc
     refine ⟨_,_,?_,h5⟩
     simp only [hx,hy,hl,hm]
     rw [Im (⟨⟨trivial,trivial⟩,hc,h1,h2,h3,h4⟩)]
     simp
    ·cases h
   ·cases h
  ·cases h
theorem yH {st:St} {io:Bool} {k:Nat} {c:CK} {a:AC} {K:c.den->List (Nat×Loc)->Prop} (h:eF st io k c a K): ∃x t,Lt st io k c a=some (x,t)/\K x t:=by
 cases c with
 |Hx τ=>
  cases a with
  |own l off len=>
   obtain ⟨p,h1,h2⟩:=Bu.1 h
   exact ⟨_,_,by simp only [Lt];rw [h1];rfl,h2⟩
  |clo g Dz=>
   simp only [eF] at h
   split at h
   ·rename_i hc
    obtain ⟨p,h1,h2⟩:=Bu.1 h
    exact ⟨_,_,by simp only [Lt];rw [Ac hc,h1];rfl,h2⟩
   ·cases h
  |Gp l i=>
   simp only [eF] at h
   split at h
   ·rename_i hc
    obtain ⟨p,h1,h2⟩:=Bu.1 h
    exact ⟨_,_,by simp only [Lt];rw [Ac hc,h1];rfl,h2⟩
   ·cases h
  |sub l i c=>
   obtain ⟨p,h1,h2⟩:=Bu.1 h
   exact ⟨_,_,by simp only [Lt];rw [h1];rfl,h2⟩
  |_=>
   simp only [eF] at h
   split at h
   ·rename_i hc
    obtain ⟨p,h1,h2⟩:=Bu.1 h
    exact ⟨_,_,by simp only [Lt];rw [Ac hc,h1];rfl,h2⟩
   ·cases h
 |row e te=>
  cases a<;>simp only [eF] at h<;>first|(cases h;done)|skip
  ·exact ⟨_,_,rfl,h⟩
  ·split at h
   ·rename_i hl
    split at h
    ·rename_i hc
     obtain ⟨h1,h2,h3⟩:=h
     exact ⟨_,_,by simp only [Lt,hl];rw [Im ⟨hc.1,hc.2,h1,h2⟩],h3⟩
    ·cases h
   ·cases h
  ·split at h
   ·rename_i hl
    split at h
    ·rename_i hc
     obtain ⟨y,h1,h2⟩:=h
     exact ⟨_,_,by simp only [Lt,hl];rw [Im hc,h1];rfl,h2⟩
    ·cases h
   ·cases h
 |Gz e te=>
  cases a<;>simp only [eF] at h<;>first|(cases h;done)|skip
  ·exact ⟨_,_,rfl,h⟩
  ·split at h
   ·rename_i hl
    split at h
    ·rename_i hc
     obtain ⟨h1,h2,h3⟩:=h
     exact ⟨_,_,by simp only [Lt,hl];rw [Im ⟨hc.1,hc.2,h1,h2⟩],h3⟩
    ·cases h
   ·cases h
  ·split at h
   ·rename_i hl
    split at h
    ·rename_i hc
     obtain ⟨y,h1,h2⟩:=h
     exact ⟨_,_,by simp only [Lt,hl];rw [Im hc,h1];rfl,h2⟩
    ·cases h
   ·cases h
 |part e te=>
  cases a<;>simp only [eF] at h<;>first|(cases h;done)|skip
  split at h
  ·rename_i hl
   split at h
   ·rename_i hc
    exact ⟨_,_,by simp only [Lt,hl];rw [Im hc],h⟩
   ·cases h
  ·cases h
 |Bo e te kp=>
  cases a<;>simp only [eF] at h<;>first|(cases h;done)|skip
  split at h
  ·rename_i hl
   split at h
   ·rename_i hc
    obtain ⟨h1,h2,h3⟩:=h
    exact ⟨_,_,by simp only [Lt,hl];rw [Im ⟨hc.1,hc.2.1,h1,h2,hc.2.2⟩],h3⟩
   ·cases h
  ·cases h
theorem CL {st:St} {e:Ty} {ys:List e.den} {a:AC} {K:St->Prop} (h:VD st e ys a K): ∃s,IC st e ys a=some s/\K s:=by
 cases a<;>simp only [VD] at h<;>first|(cases h;done)|skip
 split at h
 ·rename_i hl
  split at h
  ·rename_i hc
   obtain ⟨h1,h3⟩:=h
   exact ⟨_,by simp only [IC,hl];rw [Im ⟨hc,h1⟩],h3⟩
  ·cases h
 ·cases h
theorem jP {st:St} : ∀(cs:List (Bool×CK)) (k:Nat) (as:List AC) (K:Ins.den cs->List (Nat×Loc)->Prop),yI st k cs as K-> ∃x t,eG st k cs as=some (x,t)/\K x t
 | [],_,[],_,h=>⟨_,_,rfl,h⟩
 | [],_,_::_,_,h=>h.elim
 |_::_,_,[],_,h=>h.elim
 |p::r,k,a::as,K,h=>by
  obtain ⟨x,t1,h1,h2⟩:=yH h
  obtain ⟨y,t2,h3,h4⟩:=jP r (k+1) as _ h2
  exact ⟨_,_,by simp only [eG,h1,h3],h4⟩
theorem oH {st:St} {c:CK} {ys:c.den} {a:AC} {K:St->Prop} (h:oG st c ys a K): ∃s,bq st c ys a=some s/\K s:=by
 cases c with
 |Hx τ=>cases a<;>simp only [oG] at h<;>first|(cases h;done)|exact ⟨_,rfl,h⟩
 |row e te=>
  cases a<;>simp only [oG] at h<;>first|(cases h;done)|skip
  ·exact ⟨_,rfl,h⟩
  ·split at h
   ·rename_i hl
    split at h
    ·rename_i hc
     obtain ⟨h1,h3⟩:=h
     exact ⟨_,by simp only [bq,hl];rw [Im ⟨hc,h1⟩],h3⟩
    ·cases h
   ·cases h
  ·split at h
   ·rename_i hl
    split at h
    ·rename_i hc
     obtain ⟨y,h1,h2,h3⟩:=h
     exact ⟨_,by simp only [bq,hl,Im hc,h1];rw [Ac h2],h3⟩
    ·cases h
   ·cases h
 |Gz e te=>
  cases a<;>simp only [oG] at h<;>first|(cases h;done)|skip
  ·exact ⟨_,rfl,h⟩
  ·split at h
   ·rename_i hl
    split at h
    ·rename_i hc
     obtain ⟨h1,h3⟩:=h
     exact ⟨_,by simp only [bq,hl];rw [Im ⟨hc,h1⟩],h3⟩
    ·cases h
   ·cases h
  ·split at h
   ·rename_i hl
    split at h
    ·rename_i hc
     obtain ⟨y,h1,h2,h3⟩:=h
     exact ⟨_,by simp only [bq,hl,Im hc,h1];rw [Ac h2],h3⟩
    ·cases h
   ·cases h
 |part e te=>cases a<;>simp only [oG] at h<;>first|(cases h;done)|exact ⟨_,rfl,h⟩
 |Bo e te kp=>cases a<;>simp only [oG] at h<;>first|(cases h;done)|exact ⟨_,rfl,h⟩
theorem Pj: ∀(cs:List (Bool×CK)) (o:IOs.den cs) (as:List AC) (st:St) (K:St->Prop),gS cs o as st K-> ∃s,Hi cs o as st=some s/\K s
 | [],_,_,st,K,h=>⟨st,rfl,h⟩
 |(true, .Hx _)::r,o,[],st,K,h=>h.elim
 |(true, .row _ _)::r,o,[],st,K,h=>h.elim
 |(true, .Gz _ _)::r,o,[],st,K,h=>h.elim
 |(true, .part _ _)::r,o,[],st,K,h=>h.elim
 |(true, .Bo _ _ _)::r,o,[],st,K,h=>h.elim
 |(true, .Bo _ _ _)::r,o,a::as,st,K,h=>by
  obtain ⟨s,h1,h2⟩:=Pj r o as st K h
  exact ⟨s,by simp only [Hi];exact h1,h2⟩
 |(false,_)::r,o,[],st,K,h=>h.elim
 |(true, .Hx _)::r,o,a::as,st,K,h=>by
  obtain ⟨s,h1,h2⟩:=Pj r o as st K h
  exact ⟨s,by simp only [Hi];exact h1,h2⟩
 |(false,_)::r,o,a::as,st,K,h=>by
  obtain ⟨s,h1,h2⟩:=Pj r o as st K h
  exact ⟨s,by simp only [Hi];exact h1,h2⟩
 |(true, .row _ _)::r,o,a::as,st,K,h=>by
  obtain ⟨s1,h1,h2⟩:=oH h
  obtain ⟨s,h3,h4⟩:=Pj r o.2 as s1 K h2
  exact ⟨s,by simp only [Hi,h1];exact h3,h4⟩
 |(true, .part _ _)::r,o,a::as,st,K,h=>by
  obtain ⟨s1,h1,h2⟩:=CL h
  obtain ⟨s,h3,h4⟩:=Pj r o.2 as s1 K h2
  exact ⟨s,by simp only [Hi,h1];exact h3,h4⟩
 |(true, .Gz _ _)::r,o,a::as,st,K,h=>by
  obtain ⟨s1,h1,h2⟩:=oH h
  obtain ⟨s,h3,h4⟩:=Pj r o.2 as s1 K h2
  exact ⟨s,by simp only [Hi,h1];exact h3,h4⟩
theorem oS {H:List (Nat×OB)} {ls:List Nat} {n:Nat} {K:Prop} : ∀(l:List AV),sC H ls n l K->cr H ls n l=true/\K
 | [],h=>⟨rfl,h⟩
 |a::r,h=>by
  have go:sC H ls n r K->cr H ls n r=true/\K:=oS r
  cases a with
  | «at»c=>
   cases c with
   |sub l i c=>
    simp only [sC] at h
    simp only [cr]
    split at h
    ·rename_i hc
     obtain ⟨⟨h1,h2⟩,h3⟩:=h
     obtain ⟨g1,g2⟩:=go h3
     exact ⟨by simp only [hc,g1,Bool.and_true,Bool.not_true,az,Ag,Ms];exact ⟨h1,h2⟩,g2⟩
    ·rename_i hc
     obtain ⟨g1,g2⟩:=go h
     exact ⟨by simp only [hc,g1,Bool.not_false,Bool.true_or,Bool.and_true],g2⟩
   |_=>exact go h
  |_=>exact go h
theorem wC {st:St} {d:Option Nat} {s:MSpec} {args:List AV} {K:AV->St->Prop} (h:FB st d s args K): ∃v s',Wr st d s args=some (v,s')/\K v s':=by
 unfold FB at h
 obtain ⟨⟨pl,cells,rest⟩,h0,h⟩:=Bu.1 h
 obtain ⟨as,h1,h⟩:=Bu.1 h
 obtain ⟨x,tks,h2,h⟩:=jP s.ins 0 (cells++as) _ h
 split at h
 ·rename_i hc
  obtain ⟨⟨r,o⟩,h3,h⟩:=h
  obtain ⟨st1,h4,h⟩:=Pj s.ins o (cells++as) st _ h
  obtain ⟨v,h5,h6⟩:=Bu.1 h
  obtain ⟨h7,h6⟩:=oS _ h6
  refine ⟨v,_,?_,h6⟩
  unfold Wr
  simp only [h0,h1,h2]
  rw [Ac hc]
  simp only [h3,h4,h5]
  rw [Ac h7]
 ·cases h
theorem OD {w:WS} (hw:w.OK) {o:Oper} {K:AV->WS->Prop} (h:ZF T Γ w o K):
  ∃v w',evalOp T Γ w.st o=some (v,w'.st)/\w'.OK/\(∀b,Gq w'.kn o=some b-> ∃fr,v= .at (.data fr .bool b))/\K v w':=by
 have fin: ∀v s,(∀b,Gq w.kn o=some b-> ∃fr,v= .at (.data fr .bool b))->evalOp T Γ w.st o=some (v,s)->K v (w.to s)-> ∃v w',evalOp T Γ w.st o=some (v,w'.st)/\w'.OK/\(∀b,Gq w'.kn o=some b-> ∃fr,v= .at (.data fr .bool b))/\K v w':=
  fun v s hk h1 h2=>⟨v,w.to s,h1,hw.to (lB h1),hk,h2⟩
 have wQ:(∀b v s,Gq w.kn o=some b->evalOp T Γ w.st o=some (v,s)-> ∃fr,v= .at (.data fr .bool b))->Ha (evalOp T Γ w.st o) (λr=>K r.1 (w.to r.2))-> ∃v w',evalOp T Γ w.st o=some (v,w'.st)/\w'.OK/\(∀b,Gq w'.kn o=some b-> ∃fr,v= .at (.data fr .bool b))/\K v w':=by
  intro hk h
  obtain ⟨r,h1,h2⟩:=Bu.1 h
  exact fin r.1 r.2 (λb hb=>hk b _ _ hb h1) h1 h2
 unfold ZF at h
 split at h
 ·rename_i heq
  obtain ⟨s,h1,h2⟩:=ua h
  refine fin _ _ (λb hb=>by unfold Gq at hb;rw [heq] at hb;cases hb) ?_ h2
  unfold evalOp;rw [heq];simp only [h1];rfl
 ·rename_i heq
  obtain ⟨d,h1,h⟩:=Bu.1 h
  obtain ⟨v,s,h2,h3⟩:=xq h
  refine fin _ _ (λb hb=>by unfold Gq at hb;rw [heq] at hb;cases hb) ?_ h3
  unfold evalOp;rw [heq];simp only [h1,h2]
 ·rename_i heq
  split at h
  ·rename_i hd ha ht
   split at h
   ·rename_i Uu
    obtain ⟨v,s,h2,h3⟩:=qd h
    refine fin _ _ (λb hb=>by unfold Gq at hb;rw [heq] at hb;cases hb) ?_ h3
    unfold evalOp;rw [heq];simp only [hd,ha,ht,Ac Uu,h2]
   ·cases h
  ·cases h
 ·rename_i heq;exact wQ (λb v s hb he=>rM hw heq hb he) h
 ·rename_i heq;exact wQ (λb v s hb he=>by unfold Gq at hb;rw [heq] at hb;cases hb) h
 ·rename_i heq;exact wQ (λb v s hb he=>by unfold Gq at hb;rw [heq] at hb;cases hb) h
 ·rename_i heq
  obtain ⟨d,h1,h⟩:=Bu.1 h
  obtain ⟨v,s,h2,h3⟩:=km h
  refine fin _ _ (λb hb=>by unfold Gq at hb;rw [heq] at hb;cases hb) ?_ h3
  unfold evalOp;rw [heq];simp only [h1,h2]
 ·rename_i heq;exact wQ (λb v s hb he=>by unfold Gq at hb;rw [heq] at hb;cases hb) h
 ·rename_i heq;exact wQ (λb v s hb he=>by unfold Gq at hb;rw [heq] at hb;cases hb) h
 ·rename_i heq;exact wQ (λb v s hb he=>by unfold Gq at hb;rw [heq] at hb;cases hb) h
 ·rename_i heq;exact wQ (λb v s hb he=>by unfold Gq at hb;rw [heq] at hb;cases hb) h
 ·rename_i heq;exact wQ (λb v s hb he=>by unfold Gq at hb;rw [heq] at hb;cases hb) h
 ·rename_i heq;exact wQ (λb v s hb he=>by unfold Gq at hb;rw [heq] at hb;cases hb) h
 ·
  rename_i f _ _ heq
  split at h
  ·rename_i Oh
   obtain ⟨v,s',h1,h2⟩:=wC h
   refine fin v s' (λb hb=>by unfold Gq at hb;rw [heq] at hb;cases hb) ?_ h2
   unfold evalOp;rw [heq];simp only [Oh];exact h1
  ·rename_i s Oh
   split at h
   ·rename_i KW
    obtain ⟨st1,hs,h⟩:=Bu.1 h
    obtain ⟨v,w',h1,h2,h3,YB,h4⟩:=gT (hw.to (Th _ hs)) h
    refine ⟨v,w',?_,h3,YB,h4⟩
    have h1:Eu T Γ st1 o=some v:=h1
    have h2:w'.st=st1:=h2
    unfold evalOp
    rw [heq]
    simp only [Oh,KW,hs,h1,h2]
    rfl
   ·rename_i KW
    obtain ⟨v,w',h1,h2,h3,YB,h4⟩:=gT hw h
    refine ⟨v,w',?_,h3,YB,h4⟩
    unfold evalOp
    rw [heq]
    simp only [Oh,KW,h1,h2]
    rfl
  ·rename_i Arl Agv
   obtain ⟨v,w',h1,h2,h3,YB,h4⟩:=gT hw h
   refine ⟨v,w',?_,h3,YB,h4⟩
   unfold evalOp
   rw [heq]
   simp only
   rw [h1,h2];rfl
 ·rename_i n1 n2 n3 n4 n5 n6 n7 n8 n9 n10 n11 n12 n13 n14
  obtain ⟨v,w',h1,h2,h3,YB,h4⟩:=gT hw h
  refine ⟨v,w',?_,h3,YB,h4⟩
  unfold evalOp
  split
  all_goals first
   |(rw [h1,h2];rfl)
   |(rename_i hq;exact absurd hq (by first|exact n1 _|exact n2 _|exact n3 _|exact n4 _|exact n5 _|exact n6 _|exact n7 _|exact n8 _|exact n9 _|exact n10 _|exact n11 _|exact n12 _|exact n13 _|exact n14 _))
   |(rename_i hq;exact absurd hq (by first|exact n1 _ _|exact n2 _ _|exact n3 _ _|exact n4 _ _|exact n5 _ _|exact n6 _ _|exact n7 _ _|exact n8 _ _|exact n9 _ _|exact n10 _ _|exact n11 _ _|exact n12 _ _|exact n13 _ _|exact n14 _ _))
   |(rename_i hq;exact absurd hq (by first|exact n1 _ _ _|exact n2 _ _ _|exact n3 _ _ _|exact n4 _ _ _|exact n5 _ _ _|exact n6 _ _ _|exact n7 _ _ _|exact n8 _ _ _|exact n9 _ _ _|exact n10 _ _ _|exact n11 _ _ _|exact n12 _ _ _|exact n13 _ _ _|exact n14 _ _ _))
   |(rename_i hq;exact absurd hq (by first|exact n1 _ _ _ _|exact n2 _ _ _ _|exact n3 _ _ _ _|exact n4 _ _ _ _|exact n5 _ _ _ _|exact n6 _ _ _ _|exact n7 _ _ _ _|exact n8 _ _ _ _|exact n9 _ _ _ _|exact n10 _ _ _ _|exact n11 _ _ _ _|exact n12 _ _ _ _|exact n13 _ _ _ _|exact n14 _ _ _ _))
theorem wT (st:St) (d:Nat) (v:AV):(st.put (some d) v).get d=v\/(st.put (some d) v).get d= .undef:=by
 simp only [St.put,St.get]
 rw [Qh]
 by_cases h:d<st.tmps.length
 ·exact .inl (by rw [Ac ⟨rfl,h⟩])
 ·refine .inr ?_
  rw [Ai (λhc=>h hc.2),Ah,Ds (by omega)]
  rfl
theorem WS.OK.tS {w:WS} (hw:w.OK) (o:Oper) (v:AV) (h: ∀b,Gq w.kn o=some b-> ∃fr,v= .at (.data fr .bool b)):(w.tS o v).OK/\(w.tS o v).st=w.st.put o.dst v:=by
 unfold WS.tS
 split
 ·rename_i d b hd hk
  split
  ·rename_i fr c hg
   refine ⟨?_,by rw [hd]⟩
   obtain ⟨Vc,hv⟩:=h b hk
   intro t b' hb
   simp only [m8] at hb
   split at hb
   ·rename_i ht
    injection hb with hb
    subst ht;subst hb
    refine ⟨Vc,?_⟩
    show (w.st.put (some d) v).get d=_
    cases wT w.st d v with
    |inl h1=>rw [h1,hv]
    |inr h1=>rw [h1] at hg;cases hg
   ·exact hw.put (some d) v t b' hb
  ·exact ⟨hw.put _ _,by rw [WS.rV,hd]⟩
 ·exact ⟨hw.put _ _,WS.rV _ _ _⟩
theorem oR {ops:Array Oper} {w:WS} (hw:w.OK) {o:Oper} {run:(AV->WS->Prop)->WS->Prop} {R:St->Option (AV×St)} {K:WS->Prop}
  (hr: ∀(k:AV->WS->Prop) (w:WS),w.OK->run k w-> ∃v w',R w.st=some (v,w'.st)/\w'.OK/\(∀b,Gq w'.kn o=some b-> ∃fr,v= .at (.data fr .bool b))/\k v w') (h:im ops w o run K):
  ∃w',(match o.guard with
   |none=>(R w.st).map λr=>r.2.put o.dst r.1
   |some (j,want)=>match Wk w.st ((ops[j]?).bind (·.dst)) with
    |some (some b)=>if b==want then (R w.st).map λr=>r.2.put o.dst r.1 else some (w.st.put o.dst (.at .skip))
    |some none=>some (w.st.put o.dst (.at .skip))
    |none=>none)=some w'.st/\w'.OK/\K w':=by
 have go: ∀w:WS,w.OK->run (λv w'=>K (w'.tS o v)) w-> ∃w',((R w.st).map λr=>r.2.put o.dst r.1)=some w'.st/\w'.OK/\K w':=by
  intro w hw h
  obtain ⟨v,w',h1,h2,h3,h4⟩:=hr _ _ hw h
  obtain ⟨h5,h6⟩:=h2.tS o v h3
  exact ⟨w'.tS o v,by rw [h1,h6];rfl,h5,h4⟩
 unfold im at h
 split at h
 ·rename_i hg
  rw [hg]
  exact go w hw h
 ·rename_i j want hg
  rw [hg]
  obtain ⟨t,h1,h⟩:=Bu.1 h
  simp only [h1]
  split at h
  ·rename_i hs
   have hsk:w.st.get t= .at .skip:=by
    unfold AV.TV at hs
    split at hs
    ·assumption
    ·cases hs
   exact ⟨_,by simp only [Wk,hsk];rw [WS.rV],hw.put _ _,h⟩
  ·obtain ⟨fr,b,w',h2,h3,h4,h5⟩:=uz hw h
   have hb:Wk w.st (some t)=some (some b):=by simp only [Wk,h2]
   rw [hb]
   simp only
   cases b with
   |true=>
    cases want with
    |true=>rw [Ac (by decide),<-h3];exact go w' h4 h5
    |false=>exact ⟨_,by rw [Ai (by decide),<-h3,WS.rV],h4.put _ _,h5⟩
   |false=>
    cases want with
    |false=>rw [Ac (by decide),<-h3];exact go w' h4 h5
    |true=>exact ⟨_,by rw [Ai (by decide),<-h3,WS.rV],h4.put _ _,h5⟩
theorem bh {ops:Array Oper} {w:WS} (hw:w.OK) {o:Oper} {K:WS->Prop} (h:im ops w o (λk w'=>ZF T Γ w' o k) K): ∃w',Er T Γ ops w.st o=some w'.st/\w'.OK/\K w':=by
 obtain ⟨w',h1,h2⟩:=oR hw (R:= λst=>evalOp T Γ st o) (λk w hw h=>by
  obtain ⟨v,w',h1,h2,h2',h3⟩:=OD hw h
  exact ⟨v,w',h1,h2,h2',h3⟩) h
 exact ⟨w',h1,h2⟩
theorem RN {w:WS} (hw:w.OK) {o:Oper} {K:AV->WS->Prop} (h:bW T Γ w o K):
  ∃v w',Wc T Γ w.st o=some v/\w'.st=w.st/\w'.OK/\(∀b,Gq w'.kn o=some b-> ∃fr,v= .at (.data fr .bool b))/\K v w':=by
 unfold bW at h
 split at h
 ·rename_i t len parts pO
  obtain ⟨v,h1,h2⟩:=Bu.1 h
  exact ⟨v,w,by unfold Wc;rw [pO];exact h1,rfl,hw,λb hb=>by simp [Gq,pO] at hb,h2⟩
 ·rename_i t parts pO
  obtain ⟨v,h1,h2⟩:=Bu.1 h
  exact ⟨v,w,by unfold Wc;rw [pO];exact h1,rfl,hw,λb hb=>by simp [Gq,pO] at hb,h2⟩
 ·rename_i n1 n2
  obtain ⟨v,w',h1,h2⟩:=gT hw h
  refine ⟨v,w',?_,h2⟩
  rw [<-h1]
  unfold Wc
  split
  ·rename_i h9;exact absurd h9 (n1 _ _ _)
  ·rename_i h9;exact absurd h9 (n2 _ _)
  ·rfl
theorem ZU {ops:Array Oper} {w:WS} (hw:w.OK) {o:Oper} {K:WS->Prop} (h:im ops w o (λk w'=>bW T Γ w' o k) K): ∃v w',Vz T Γ ops w.st o=some v/\w'.st=w.st.put o.dst v/\w'.OK/\K w':=by
 obtain ⟨w',h1,h2,h3⟩:=oR hw (R:= λst=>(Wc T Γ st o).map λv=>(v,st)) (λk w hw h=>by
  obtain ⟨v,w',h1,h2,h3,YB,h4⟩:=RN hw h
  exact ⟨v,w',by simp only [h1,h2];rfl,h3,YB,h4⟩) h
 have key: ∀u:Option AV,((u.map λv=>(v,w.st)).map λr=>r.2.put o.dst r.1)=some w'.st-> ∃v,u=some v/\w'.st=w.st.put o.dst v:=by
  intro u hu
  cases u with
  |none=>cases hu
  |some v=>injection hu with hu;exact ⟨v,rfl,hu.symm⟩
 unfold Vz
 split at h1
 ·rename_i hg
  obtain ⟨v,h4,h5⟩:=key _ h1
  exact ⟨v,w',by rw [hg];exact h4,h5,h2,h3⟩
 ·rename_i j want hg
  rw [hg]
  split at h1
  ·rename_i b hb
   simp only [hb]
   split at h1
   ·rename_i FW
    obtain ⟨v,h4,h5⟩:=key _ h1
    exact ⟨v,w',by rw [Ac FW];exact h4,h5,h2,h3⟩
   ·rename_i FW
    injection h1 with h1
    exact ⟨_,w',by rw [Ai FW],h1.symm,h2,h3⟩
  ·rename_i hb
   simp only [hb]
   injection h1 with h1
   exact ⟨_,w',rfl,h1.symm,h2,h3⟩
  ·cases h1
theorem rO {ops:Array Oper} : ∀(l:List Oper) {w:WS} (_:w.OK) {K:WS->Prop},Ae2 T Γ ops l w K-> ∃w',Zx T Γ ops l w.st=some w'.st/\w'.OK/\K w'
 | [],w,hw,K,h=>⟨w,rfl,hw,h⟩
 |o::r,w,hw,K,h=>by
  obtain ⟨w1,h1,h2,h3⟩:=bh hw h
  obtain ⟨w2,h4,h5⟩:=rO r h2 h3
  exact ⟨w2,by simp only [Zx];rw [h1];exact h4,h5⟩
theorem dS {ops:Array Oper} : ∀(l:List Nat) {w:WS} (_:w.OK) {K:WS->Prop},TN T Γ ops l w K-> ∃w',Mk T Γ ops l w.st=some w'.st/\w'.OK/\K w'
 | [],w,hw,K,h=>⟨w,rfl,hw,h⟩
 |i::r,w,hw,K,h=>by
  obtain ⟨o,h0,h⟩:=Bu.1 h
  obtain ⟨w1,h1,h2,h3⟩:=bh hw h
  obtain ⟨w2,h4,h5⟩:=dS r h2 h3
  exact ⟨w2,by simp only [Mk];rw [h0];simp only [h1];exact h4,h5⟩
theorem Nd {ops:Array Oper} : ∀(l:List Nat) {w:WS} (_:w.OK) {K:WS->Prop},jv T Γ ops l w K-> ∃w',Fq T Γ ops l w.st=some w'.st/\w'.OK/\K w'
 | [],w,hw,K,h=>⟨w,rfl,hw,h⟩
 |i::r,w,hw,K,h=>by
  obtain ⟨o,h0,h⟩:=Bu.1 h
  obtain ⟨v,w1,h1,h1',h2,h3⟩:=ZU hw h
  obtain ⟨w2,h4,h5⟩:=Nd r h2 h3
  exact ⟨w2,by simp only [Fq];rw [h0];simp only [h1];rw [<-h1'];exact h4,h5⟩
theorem l8 {P:Nat->Prop} : ∀(l:List Nat),RK l P-> ∀i∈l,P i
 | [],_,i,hi=>by cases hi
 | [k],h,i,hi=>by rw [Ae.1 hi];exact h
 |k::j::r,h,i,hi=>by
  rcases Ay.1 hi with rfl|hi
  ·exact h.1
  ·exact l8 (j::r) h.2 i hi
theorem kh {ops:Array Oper} {K:WS->Prop} : ∀(f:Nat) (Af:Array Bool) {w:WS} (_:w.OK),MI T Γ ops f Af w K->anyS T Γ ops (λs=> ∃w':WS,w'.st=s/\w'.OK/\K w') f Af w.st
 |0,Af,w,hw,h=>by
  unfold MI at h
  split at h
  ·rename_i hr;exact ⟨hr,w,rfl,hw,h⟩
  ·cases h
 |f+1,Af,w,hw,h=>by
  unfold MI at h
  split at h
  ·cases h
  ·rename_i i r hr
   refine ⟨by rw [hr];simp,λk hk=>?_⟩
   rw [hr] at hk
   obtain ⟨o,h0,h1⟩:=Bu.1 (l8 _ h k hk)
   obtain ⟨w1,h2,h3,h4⟩:=bh hw h1
   exact ⟨o,w1.st,h0,h2,kh f _ h3 h4⟩
theorem cw: ∀(l:List Oper) (d:Nat),d∈Jx l-> ∃o∈l,o.dst=some d
 | [],d,h=>by simp [Jx] at h
 |o::r,d,h=>by
  simp only [Jx] at h
  cases ho:o.dst with
  |none=>
   rw [ho] at h
   obtain ⟨o',h1,h2⟩:=cw r d (by simpa using h)
   exact ⟨o',An _ h1,h2⟩
  |some e=>
   rw [ho] at h
   rcases Ay.1 (by simpa using h) with h|h
   ·exact ⟨o,by simp,by rw [ho,h]⟩
   ·obtain ⟨o',h1,h2⟩:=cw r d h
    exact ⟨o',An _ h1,h2⟩
theorem lE {ops:Array Oper} {K:WS->Prop} : ∀(f:Nat) (Af:Array Bool) {w:WS} (_:w.OK),aN T Γ ops f Af w K-> ∃w':WS,Fe (λt=>Sa ops t=true) w.st w'.st/\w'.OK/\K w'
 |0,Af,w,hw,h=>by
  simp only [aN] at h
  split at h
  ·exact ⟨w,λ_ _ _ _ _ hx=>hx,hw,h⟩
  ·exact h.elim
 |f+1,Af,w,hw,h=>by
  simp only [aN] at h
  split at h
  ·exact h.elim
  ·obtain ⟨o,ho,h1⟩:=Bu.1 h
   obtain ⟨w',h2,h3,h4⟩:=bh hw h1
   obtain ⟨w2,g1,g2⟩:=lE f _ h3 h4
   refine ⟨w2,((aL h2).mono λt ht hd=>?_).trans g1,g2⟩
   unfold Sa Xs at ht
   have:(ops.toList.any λo=>o.dst==some t)=true:=Ht.2 ⟨o,nw ho,by rw [hd];exact beq_self_eq_true _⟩
   rw [this] at ht
   cases ht
theorem kM (p:Nat->Bool): ∀(i:Nat) (l0 l1:List AV),(∀t,(l0.getD t .undef).Xb=true->p (i+t)=true->l1.getD t .undef=l0.getD t .undef)->
  Uf (Js p i l0) l0 (Ta (Js p i l0) l1)=l1
 |_,[],l1,_=>by simp [Js,Ta,Uf]
 |i,a::r,[],_=>by
  simp only [Js]
  cases (a.Xb&&p i)<;>simp [Ta,Uf]
 |i,a::r,b::s,h=>by
  have hr:=kM p (i+1) r s λt h1 h2=>by
   have:=h (t+1) (by simpa using h1) (by rw [show i+(t+1)=i+1+t by omega];exact h2)
   simpa using this
  simp only [Js]
  cases hc:(a.Xb&&p i) with
  |false=>simp only [Ta,Uf];rw [hr]
  |true=>
   simp only [Ta,Uf]
   rw [hr]
   simp only [Ag] at hc
   have:=h 0 (by simpa using hc.1) hc.2
   simp only [Wg] at this
   rw [this]
theorem dX: ∀(f:List Bool) (l:List AV),(Ta f l).length=l.length
 | [],l=>by simp [Ta]
 |true::f,[]=>by simp [Ta]
 |false::f,[]=>by simp [Ta]
 |true::f,a::l=>by simp [Ta,dX f l]
 |false::f,a::l=>by simp [Ta,dX f l]
theorem MR {p:Nat->Bool} {w1 s0 s:St} (h1:Fe (λt=>p t=true) w1 s0) (h2:Fe (λt=>p t=true) w1 s) (h:eqM (Js p 0 w1.tmps) s0 s):s=s0:=by
 have e:=cH h
 simp only [St.mask,St.mk.injEq] at e
 have key: ∀ {a:St},Fe (λt=>p t=true) w1 a->Uf (Js p 0 w1.tmps) w1.tmps (Ta (Js p 0 w1.tmps) a.tmps)=a.tmps:= λ {a} ha=>kM p 0 _ _ λt ht hp=>by
  rw [Cj] at hp
  cases hc:w1.tmps.getD t .undef with
  | «at»c=>
   cases c with
   |data fr τ x=>exact ha t fr τ x hp hc
   |_=>rw [hc] at ht;cases ht
  |_=>rw [hc] at ht;cases ht
 have e1:=key h1
 have e2:=key h2
 rw [e.1,e1] at e2
 obtain ⟨_,e4⟩:=e
 cases s;cases s0
 simp only at e2 e4
 rw [e4,e2]
theorem Zy {ops:Array Oper} {K:WS->Prop} : ∀(f:Nat) (Af:Array Bool) {w:WS} (_:w.OK),aN T Γ ops f Af w K-> ∃w':WS,w'.OK/\K w'
 |0,Af,w,hw,h=>by
  simp only [aN] at h
  split at h
  ·exact ⟨w,hw,h⟩
  ·exact h.elim
 |f+1,Af,w,hw,h=>by
  simp only [aN] at h
  split at h
  ·exact h.elim
  ·obtain ⟨o,ho,h1⟩:=Bu.1 h
   obtain ⟨w',h2,h3,h4⟩:=bh hw h1
   exact Zy f _ h3 h4
theorem o0 {P:List (Nat×Nat×AV×OB)} {ops:Array Oper} {K:WS->Prop} : ∀(f:Nat) (Af:Array Bool) {w:WS} (_:w.OK),zh T Γ P ops f Af w K->Ac5 T Γ ops P (λs=> ∃w':WS,w'.st=s/\w'.OK/\K w') f Af w.st
 |0,Af,w,hw,h=>by
  unfold zh at h
  split at h
  ·rename_i hr;exact ⟨hr,w,rfl,hw,h⟩
  ·cases h
 |f+1,Af,w,hw,h=>by
  unfold zh at h
  split at h
  ·cases h
  ·rename_i i r hr
   refine ⟨by rw [hr];simp,λk hk=>?_⟩
   rw [hr] at hk
   obtain ⟨o,h0,h1⟩:=Bu.1 (l8 _ h k hk)
   split at h1
   ·rename_i lR
    obtain ⟨w1,h2,h3,h4⟩:=bh hw h1
    exact ⟨o,w1.st,h0,lR,h2,o0 f _ h3 h4⟩
   ·cases h1
theorem BM {α:Type} (f:α->Nat) {l:List α} (h:Zc (l.map f)=true):l.Pairwise λa c=>f a≠f c:=bp.1 (Xd h)
theorem bY {ops:Array Oper} {E:List Nat} {Af:Array Bool} {w:WS} (hw:w.OK): ∀(R:List Nat) {K:Prop},vZ T Γ ops E Af w R K->K/\ ∀r∈R,pT ops E Af r=true\/ ∃o v,ops[r]?=some o/\Vz T Γ ops w.st o=some v/\ ∀d,o.dst=some d->w.st.get d=v
 | [],K,h=>⟨h,λr hr=>by cases hr⟩
 |r::R,K,h=>by
  unfold vZ at h
  split at h
  ·rename_i hwt
   obtain ⟨h1,h2⟩:=bY hw R h
   refine ⟨h1,λq hq=>?_⟩
   rcases Ay.1 hq with rfl|hq
   ·exact .inl hwt
   ·exact h2 q hq
  ·obtain ⟨h0,h⟩:=h
   obtain ⟨h1,h2⟩:=bY hw R h
   refine ⟨h1,λq hq=>?_⟩
   rcases Ay.1 hq with rfl|hq
   ·refine .inr ?_
    obtain ⟨w',g1,_,g3⟩:=Nd _ hw h0
    obtain ⟨d,hd,g4⟩:=Bu.1 g3
    simp only [Fq] at g1
    split at g1
    ·cases g1
    rename_i o ho
    split at g1
    rotate_left
    ·cases g1
    rename_i v hv
    refine ⟨o,v,ho,hv,λd' MZ=>?_⟩
    rw [ho] at hd
    have hdd:o.dst=some d:=hd
    rw [MZ] at hdd
    cases hdd
    split at g4
    ·rename_i hl
     have e:=cH g4
     have e1:w'.st.get d=w.st.get d:=by
      have:=Ma (λs:St=>s.tmps) e
      simpa using this
     rw [<-e1]
     have e2:w.st.put o.dst v=w'.st:=Ax g1
     rw [<-e2,show o.dst=some d from hd]
     show (Rx w.st.tmps d v).getD d .undef=v
     rw [Qh,Ac ⟨rfl,by simpa [Ms] using hl⟩]
    ·cases g4
   ·exact h2 q hq
theorem br {ops:Array Oper} {E:List Nat} {K:WS->Prop} : ∀(f:Nat) (Af:Array Bool) {w:WS} (_:w.OK),q8 T Γ ops E f Af w K->p8 T Γ ops E (λs=> ∃w':WS,w'.st=s/\w'.OK/\K w') f Af w.st
 |0,Af,w,hw,h=>by
  unfold q8 at h
  obtain ⟨h,hs⟩:=bY hw _ h
  split at h
  ·rename_i hr;exact ⟨hs,hr,w,rfl,hw,h⟩
  ·cases h
 |f+1,Af,w,hw,h=>by
  unfold q8 at h
  obtain ⟨h,hs⟩:=bY hw _ h
  split at h
  ·cases h
  ·rename_i i r hr
   refine ⟨hs,by rw [hr];simp,λk hk=>?_⟩
   rw [hr] at hk
   obtain ⟨o,h0,h1⟩:=Bu.1 (l8 _ h k hk)
   obtain ⟨w1,h2,h3,h4⟩:=bh hw h1
   exact ⟨o,w1.st,h0,h2,br f _ h3 h4⟩
theorem xO {ops:Array Oper} {E:List Nat} {L0:Array Bool} {n:Nat} {w:WS} (hw:w.OK) {K:WS->Prop} (h:ID T Γ E n L0 ops w K):XP T Γ ops (λs=> ∃w':WS,w'.st=s/\w'.OK/\K w') n L0 w.st:=by
 unfold ID at h
 split at h
 ·rename_i hb
  simp only [Ag] at hb
  obtain ⟨b1,b2,b3⟩:=hb
  obtain ⟨w1,h1,h2,h3⟩:=Nd _ hw h
  have h3:=Ns.1 h3
  obtain ⟨w0,g1,g2⟩:=Zy _ _ h2 h3
  obtain ⟨g3,g4⟩:=Ns.1 g2
  refine ⟨E,w1.st,b1,Nat.le_of_ble_eq_true b2,h1,ai (λs hs=>?_) _ _ _ (br _ _ h2 g4)⟩
  obtain ⟨w',h5,_,h6⟩:=hs
  exact ⟨w0,((h5.symm.trans (cH (Ns.1 h6))).symm),g1,g3⟩
 ·cases h
theorem ct {ops:Array Oper} {t:Nat} :Sa ops t=true->t∉Jx ops.toList:= λh hm=>by
 obtain ⟨o,ho,hd⟩:=cw _ _ hm
 unfold Sa Xs at h
 have:(ops.toList.any λo=>o.dst==some t)=true:=Ht.2 ⟨o,ho,by rw [hd];exact beq_self_eq_true _⟩
 rw [this] at h
 cases h
theorem zi {ops:Array Oper} {E:List Nat} {K:St->Prop} (s0:St) (f:Nat) (Af:Array Bool) (st:St) (hk:Fe (λt=>Sa ops t=true) s0 st) (h:p8 T Γ ops E K f Af st):
  p8 T Γ ops E (λs=>K s/\Fe (λt=>Sa ops t=true) s0 s) f Af st:=by
 have h1:=kf (draw:=true) st f Af st (λ_ _ _ _ _ hx=>hx) h
 exact ai (λs hs=>⟨hs.1,hk.trans (hs.2.mono λt ht=>ct ht)⟩) _ _ _ h1
theorem WS.OK.Pv {w:WS} (hw:w.OK) (dead:List Nat):(w.Pv dead).OK:=by
 intro t b hb
 have key: ∀(l:List (Nat×Bool)),m8 (l.filter λp=>!dead.contains p.1) t=some b->dead.contains t=false/\m8 l t=some b:=by
  intro l
  induction l with
  |nil=>intro h;cases h
  |cons q r ih=>
   intro h
   obtain ⟨k,c⟩:=q
   by_cases hk:dead.contains k=true
   ·rw [List.filter_cons_of_neg (by rw [hk];decide)] at h
    obtain ⟨h1,h2⟩:=ih h
    refine ⟨h1,?_⟩
    unfold m8
    rw [Ai (λe=>by subst e;rw [h1] at hk;cases hk)]
    exact h2
   ·have hk:dead.contains k=false:=by simpa using hk
    rw [List.filter_cons_of_pos (by rw [hk];rfl)] at h
    unfold m8 at h⊢
    split at h
    ·rename_i e
     subst e
     rw [Ac rfl]
     exact ⟨hk,h⟩
    ·rename_i e
     rw [Ai e]
     exact ih h
 obtain ⟨h1,h2⟩:=key _ hb
 obtain ⟨fr,h3⟩:=hw t b h2
 refine ⟨fr,?_⟩
 show (w.st.Pv dead).get t=_
 unfold St.Pv
 refine Tg _ _ t fr _ _ ?_
 show (Hp _ 0 w.st.tmps).getD t .undef=_
 rw [Uw _ 0 w.st.tmps t ?_]
 ·exact h3
 ·refine Bd.2 ⟨Ej.2 ?_,by rw [Cj,h1];rfl⟩
  refine Bf λhn=>?_
  have:w.st.get t= .undef:=by
   unfold St.get
   rw [Ah,Ds (by omega)];rfl
  rw [h3] at this
  cases this
theorem BQ {ops:Array Oper} {dead E:List Nat} (b3:dead.all (Xs ops)=true) {L0:Array Bool} {n:Nat} {w:WS} (hw:w.OK) {K:WS->Prop} (h:UL T Γ dead E n L0 ops w K):XP T Γ ops (λs=> ∃w':WS,w'.st=s.Pv dead/\w'.OK/\K w') n L0 w.st:=by
 unfold UL at h
 split at h
 ·rename_i hb
  simp only [Ag] at hb
  obtain ⟨b1,b2⟩:=hb
  obtain ⟨w1,h1,h2,h3⟩:=Nd _ hw h
  have h3:=Ns.1 h3
  refine ⟨E,w1.st,b1,Nat.le_of_ble_eq_true b2,h1,?_⟩
  split at h3
  ·refine ai (λs hs=>?_) _ _ _ (br _ _ h2 h3)
   obtain ⟨w',h5,h6,h7⟩:=hs
   exact ⟨w'.Pv dead,by rw [<-h5];rfl,h6.Pv _,h7⟩
  ·rw [dN] at h3
   obtain ⟨w0,g0,g1,g2⟩:=lE _ _ h2 h3
   obtain ⟨g3,g4⟩:=Ns.1 g2
   refine ai (λs hs=>?_) _ _ _ (zi w1.st _ _ _ (λ_ _ _ _ _ hx=>hx) (br _ _ h2 g4))
   obtain ⟨⟨w',h5,_,h6⟩,h7⟩:=hs
   have h6:=Ns.1 h6
   have k1:Fe (λt=>Sa ops t=true) w1.st (w0.Pv dead).st:=g0.trans ((gH b3 w0.st).mono λt ht=>ct ht)
   have k2:Fe (λt=>Sa ops t=true) w1.st (w'.Pv dead).st:=by
    show Fe _ w1.st (w'.st.Pv dead)
    rw [h5]
    exact h7.trans ((gH b3 s).mono λt ht=>ct ht)
   have e:=MR k1 k2 h6
   refine ⟨w0.Pv dead,?_,g1.Pv _,g3⟩
   rw [<-e,<-h5]
   rfl
 ·cases h
theorem td {ops:Array Oper} {L0:Array Bool} {n:Nat} {w:WS} (hw:w.OK) {K:WS->Prop} (hc:Te ops L0) (h:wB T Γ (Yg T ops L0) n L0 ops w K):anyS T Γ ops (λs=> ∃w':WS,w'.st=s/\w'.OK/\K w') n L0 w.st\/XP T Γ ops (λs=> ∃w':WS,w'.st=s/\w'.OK/\K w') n L0 w.st:=by
 unfold wB at h
 split at h
 ·rename_i hb
  simp only [Ag] at hb
  obtain ⟨⟨b1,b2⟩,b3,b4,b5⟩:=hb
  have hm: ∀a∈Yg T ops L0,a.1∈Region.ready .any ops L0/\ ∃o,ops[a.1]?=some o/\dC T o=some a.2:= λa ha=>wx ha
  have p1:=BM (λa:Nat×Nat×AV×OB=>a.1) b1
  have p2:=BM (λa:Nat×Nat×AV×OB=>a.2.1) b2
  have hlen:(Yg T ops L0).length<=n:=Nat.le_of_ble_eq_true b4
  obtain ⟨w1,h1,h2,h3⟩:=dS _ hw h
  have h3:=Ns.1 h3
  obtain ⟨w0,g1,g2⟩:=Zy _ _ h2 h3
  obtain ⟨g3,g4⟩:=Ns.1 g2
  have hp:=CF (Γ:=Γ) _ w.st w1.st (λa ha=>(hm a ha).2) (λa ha=>rJ (Ba.1 b3 a ha)) p2 h1
  refine .inl (iA (λs hs=>?_) _ _ _ (MH (λa ha=>(hm a ha).2) n (n-(Yg T ops L0).length) (Yg T ops L0) _ L0 w1.st w.st (by omega) (o0 _ _ h2 g4) hp
   (XT (ops:=ops) λi hi=>by obtain ⟨a,ha,rfl⟩:=Be.1 hi;exact (hm a ha).1) (λa ha=>ha) (p2.and p1) hc λa ha x hx=>bN (hm a ha).1 hx))
  obtain ⟨w',h5,_,h6⟩:=hs
  exact ⟨w0,((h5.symm.trans (cH h6)).symm),g1,g3⟩
 ·exact .inr (xO hw h)
theorem jI {ops:Array Oper} {draw:Bool} {w:WS} (hw:w.OK) {K:WS->Prop} (h:pQ T Γ ops draw w K):je T Γ ops draw w.st (λs=> ∃w':WS,w'.st=s/\w'.OK/\K w'):=by
 unfold pQ at h
 split at h
 ·split at h
  ·rename_i ho
   obtain ⟨w1,h1,h2,h3⟩:=Nd _ hw h
   obtain ⟨w2,h4,h5⟩:=dS _ h2 h3
   exact .inl ⟨w2.st,by simp only [Rb,Oy];rw [Ac ho,h1];exact h4,w2,rfl,h5⟩
  ·rename_i ho
   split at h
   ·rename_i ho2
    obtain ⟨w1,h1,h2,h3⟩:=Nd _ hw h
    obtain ⟨w2,h4,h5⟩:=dS _ h2 h3
    exact .inl ⟨w2.st,by simp only [Rb,Oy];rw [Ai (by rw [ho];decide),Ac ho2,h1];exact h4,w2,rfl,h5⟩
   ·split at h
    ·rename_i hc
     simp only [Ag] at hc
     obtain ⟨w1,h1,h2,h3⟩:=Nd _ hw h
     split at h3
     ·exact .inr ⟨rfl,hc.1,w1.st,h1, .inl (kh _ _ h2 h3)⟩
     ·obtain ⟨w0,g1,g2⟩:=Zy _ _ h2 h3
      obtain ⟨g3,g4⟩:=Ns.1 g2
      exact .inr ⟨rfl,hc.1,w1.st,h1, .inl (iA (λs hs=>by
       obtain ⟨w',h5,_,h6⟩:=hs
       exact ⟨w0,((h5.symm.trans (cH h6)).symm),g1,g3⟩) _ _ _ (kh _ _ h2 g4))⟩
    ·split at h
     ·rename_i KW
      obtain ⟨w1,h1,h2,h3⟩:=Nd _ hw h
      exact .inr ⟨rfl,KW,w1.st,h1,td h2 (Zv _ _ _ o4) h3⟩
     ·cases h
 ·obtain ⟨w1,h1,h2⟩:=rO _ hw h
  exact .inl ⟨w1.st,by simp only [Rb];rw [Ai (by simp)];exact h1,w1,rfl,h2⟩
theorem tT {ops:Array Oper} {draw:Bool} {w:WS} (hw:w.OK) {K:WS->Prop} (h:xR T Γ ops draw w K):wo T Γ ops draw w.st (λs=> ∃w':WS,w'.st=s/\w'.OK/\K w'):=by
 unfold xR at h
 split at h
 ·rename_i hb
  have b3:=(Db.1 hb).2
  refine .inr ⟨sM ops,b3,?_⟩
  split at h
  ·rename_i hc
   simp only [Ag,UK] at hc
   obtain ⟨w1,h1,h2,h3⟩:=Nd _ hw h
   exact .inr ⟨hc.1,hc.2.2.1,w1.st,h1, .inr (BQ b3 h2 h3)⟩
  ·exact (jI hw h).mono λs ⟨w',h1,h2,h3⟩=>⟨w'.Pv (sM ops),by rw [<-h1];rfl,h2.Pv _,h3⟩
 ·exact .inl (jI hw h)
end
end Go.Proofs.Ytkkdpknjohcekaa
