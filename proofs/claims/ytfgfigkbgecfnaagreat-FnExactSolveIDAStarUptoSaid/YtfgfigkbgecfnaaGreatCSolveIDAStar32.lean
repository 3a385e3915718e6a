/-
  Part 33 of the proof that the statement FnExactSolveIDAStar holds.
-/
import Derived.Test.YtfgfigkbgecfnaaGreatCSolveIDAStar31
namespace Go.Proofs.YtfgfigkbgecfnaaGreat
open Go.RowKit
section
variable {T:Tab} {Γ:Env}
def WS.OK (w:WS):Prop:= ∀t b,oP w.kn t=some b-> ∃fr,w.st.get t= .at (.data fr .bool b)
theorem nj: ∀(l:List (Nat×Bool)) (d t:Nat) (b:Bool),oP (zG l d) t=some b->t≠d/\oP l t=some b
 | [],_,_,_,h=>by cases h
 |(k,c)::r,d,t,b,h=>by
  simp only [zG] at h
  split at h
  ·rename_i hk
   have:=nj r d t b h
   refine ⟨this.1,?_⟩
   simp only [oP]
   rw [Ag (by rw [hk];exact λh=>this.1 h.symm)]
   exact this.2
  ·rename_i hk
   simp only [oP] at h⊢
   split at h
   ·rename_i hkt
    exact ⟨by rw [<-hkt];exact hk,by rw [Ab hkt];exact h⟩
   ·rename_i hkt
    rw [Ag hkt]
    exact nj r d t b h
theorem WS.OK.put {w:WS} (h:w.OK) (dst:Option Tmp) (v:AV):(w.put dst v).OK:=by
 cases dst with
 |none=>exact h
 |some d=>
  intro t b hb
  obtain ⟨h1,h2⟩:=nj _ _ _ _ hb
  obtain ⟨fr,h3⟩:=h t b h2
  exact ⟨fr,by show (w.st.put (some d) v).get t=_;rw [cC _ _ h1];exact h3⟩
theorem WS.wx (w:WS) (dst:Option Tmp) (v:AV):(w.put dst v).st=w.st.put dst v:=by cases dst<;>rfl
theorem WS.OK.to {w:WS} (h:w.OK) {s:St} (hs:Cj w.st s):(w.to s).OK:=by
 intro t b hb
 obtain ⟨fr,h3⟩:=h t b hb
 exact ⟨fr,hs t fr _ _ h3⟩
theorem zi {w:WS} (hw:w.OK) {t:Nat} {K:Bool->WS->Prop} (h:brT w t K):
  ∃fr b w',w.st.get t= .at (.data fr .bool b)/\w'.st=w.st/\w'.OK/\K b w':=by
 unfold brT at h
 split at h
 ·rename_i b hb
  obtain ⟨fr,h1⟩:=hw t b hb
  exact ⟨fr,b,w,h1,rfl,hw,h⟩
 ·split at h
  ·rename_i fr b hb
   obtain ⟨h1,h2⟩:=h
   have ok: ∀c:Bool,b=c->WS.OK {kn:=(t,c)::w.kn,st:=w.st} :=by
    intro c hc t' b' h'
    simp only [oP] at h'
    split at h'
    ·rename_i ht
     injection h' with h'
     exact ⟨fr,by rw [<-ht,<-h',<-hc];exact hb⟩
    ·exact hw t' b' h'
   cases b with
   |true=>exact ⟨fr,true, {kn:=(t,true)::w.kn,st:=w.st},hb,rfl,ok true rfl,h1 rfl⟩
   |false=>exact ⟨fr,false, {kn:=(t,false)::w.kn,st:=w.st},hb,rfl,ok false rfl,h2 rfl⟩
  ·cases h
theorem zh {w:WS} (hw:w.OK) {c:Operand} {K:Bool->WS->Prop} (h:brO w c K):
  ∃fr b w',w.st.ev c= .at (.data fr .bool b)/\w'.st=w.st/\w'.OK/\K b w':=by
 unfold brO at h
 split at h
 ·exact zi hw h
 ·exact ⟨true,_,w,rfl,rfl,hw,h⟩
 ·cases h
theorem OT {op:BinOp} {t:TypeId} {x y:AV} {K:AV->Prop} (h:Al4 T op t x y K): ∃v,Up T op t x y=some v/\K v:=by
 unfold Al4 at h
 split at h
 ·split at h
  ·rename_i hk
   exact ⟨_,by simp only [Up,evalBin,vL];rw [Ab hk,Ag h.1];rfl,h.2⟩
  ·cases h
 ·split at h
  ·rename_i hk
   exact ⟨_,by simp only [Up,evalBin,vL];rw [Ab hk,Ag h.1];rfl,h.2⟩
  ·cases h
 ·exact ⟨_,by simp only [Up,evalBin];rw [Ag h.1];rfl,h.2⟩
 ·exact ⟨_,by simp only [Up,evalBin];rw [Ag h.1];rfl,h.2⟩
 ·exact ⟨_,by simp only [Up,evalBin];rw [Ab h.1],h.2⟩
 ·exact Cg.1 h
theorem JP {st:St} {t:TypeId} {p:AV} {K:AV->Prop} (h:Adq T st t p K): ∃v,Qu T st t p=some v/\K v:=by
 unfold Adq at h
 split at h
 ·obtain ⟨τ,h1,h2⟩:=Cg.1 h
  split at h2
  ·rename_i hb
   split at h2
   ·rename_i he
    obtain ⟨x,h3,h4⟩:=h2
    exact ⟨_,by simp only [Qu,h1,hb,Ab he,h3];rfl,h4⟩
   ·cases h2
  ·rename_i hb
   split at h2
   ·rename_i he
    obtain ⟨x,h3,h4⟩:=h2
    exact ⟨_,by simp only [Qu,h1,hb,Ab he,h3];rfl,h4⟩
   ·cases h2
  ·rename_i hb
   split at h2
   ·cases h2
   ·rename_i he
    exact ⟨_,by simp only [Qu,h1,hb,Ag he],h2⟩
  ·cases h2
 ·obtain ⟨τ,h1,h2⟩:=Cg.1 h
  split at h2
  ·rename_i he
   obtain ⟨y,h3,h4⟩:=h2
   subst h3
   exact ⟨_,by simp only [Qu,h1,Ab he],h4⟩
  ·cases h2
 ·exact Cg.1 h
theorem qn {s:TypeId} {x:AV} {f:Nat} {K:AV->Prop} (h:mW T s x f K): ∃v,Oh T s x f=some v/\K v:=by
 unfold mW at h
 split at h
 ·obtain ⟨y,h1,h2⟩:=h
  subst h1
  obtain ⟨v,h3,h4⟩:=Cg.1 h2
  refine ⟨v,?_,h4⟩
  rw [<-h3]
  unfold Oh
  cases T.off s f<;>rfl
 ·exact Cg.1 h
theorem EP {st:St} {t:TypeId} {x:AV} {lo hi:Option AV} {K:AV->Prop} (h:SQ T st t x lo hi K): ∃v,eS T st t x lo hi=some v/\K v:=by
 unfold SQ at h
 obtain ⟨n,h1,h⟩:=Cg.1 h
 obtain ⟨l,h2,h⟩:=Cg.1 h
 obtain ⟨hh,h3,hc,h⟩:=Cg.1 h
 obtain ⟨v,h4,h5⟩:=Cg.1 h
 refine ⟨v,?_,h5⟩
 simp only [eS,h1,h2,h3,Ab hc]
 exact h4
theorem qy {st:St} {t:TypeId} {x i:AV} {K:AV->Prop} (h:ng T st t x i K): ∃v,Kx T st t x i=some v/\K v:=by
 unfold ng at h
 split at h
 ·split at h
  ·rename_i he
   obtain ⟨x,h3,h4⟩:=h
   exact ⟨_,by simp only [Kx,Ab he,h3];rfl,h4⟩
  ·cases h
 ·split at h
  ·rename_i hb
   split at h
   ·rename_i he
    obtain ⟨h3,h4⟩:=h
    exact ⟨_,by simp only [Kx,hb];rw [Ab ⟨he.1,he.2,Uz.2 h3⟩],h4⟩
   ·cases h
  ·rename_i hb
   split at h
   ·rename_i he
    obtain ⟨h3,h4⟩:=h
    exact ⟨_,by simp only [Kx,hb];rw [Ab ⟨he.1,he.2,Uz.2 h3⟩],h4⟩
   ·cases h
  ·rename_i hb
   split at h
   ·rename_i he
    obtain ⟨h3,h4⟩:=h
    exact ⟨_,by simp only [Kx,hb];rw [Ab ⟨he.1,he.2,Uz.2 h3⟩],h4⟩
   ·cases h
  ·cases h
 ·split at h
  ·rename_i hb
   split at h
   ·rename_i he
    obtain ⟨h3,h4⟩:=h
    exact ⟨_,by simp only [Kx,hb];rw [Ab ⟨he,Uz.2 h3⟩],h4⟩
   ·cases h
  ·cases h
 ·cases h
theorem CN {t:TypeId} {x i:AV} {K:AV->Prop} (h:QI T t x i K): ∃v,kU T t x i=some v/\K v:=by
 unfold QI at h
 split at h
 ·split at h
  ·rename_i he
   obtain ⟨h1,b,h3,h4⟩:=h
   exact ⟨_,by simp only [kU,Ab he,Ab h1,h3];rfl,h4⟩
  ·cases h
 ·cases h
theorem dk {st:St} {f:FuncId} {args:List AV} {K:AV->Prop} (h:zj Γ st f args K): ∃v,Pf Γ st f args=some v/\K v:=by
 unfold zj at h
 obtain ⟨s,h1,h⟩:=Cg.1 h
 have h1:Γ f=some (.q s):=by
  split at h1
  ·rename_i s' hs;injection h1 with h1;rw [hs,h1]
  ·cases h1
 split at h
 ·rename_i hf
  obtain ⟨p,h2,y,h3,h4⟩:=Cg.1 h
  refine ⟨_,?_,h4⟩
  simp only [Pf,h1]
  rw [Ab hf,h2]
  simp only [h3]
  rfl
 ·cases h
theorem BQ {st:St} {v:AV} {args:List AV} {K:AV->Prop} (h:OX Γ st v args K): ∃u,Yt Γ st v args=some u/\K u:=by
 unfold OX at h
 split at h
 ·split at h
  ·rename_i hc
   split at h
   ·rename_i hf
    obtain ⟨u,h1,h2⟩:=dk h
    exact ⟨u,by simp only [Yt];rw [Ab hc,Ab (by simpa using hf)];exact h1,h2⟩
   ·rename_i hf
    obtain ⟨u,h1,h2⟩:=dk h
    exact ⟨u,by simp only [Yt];rw [Ab hc,Ag (λhx=>by rw [show Nat.blt _ 1000000000=true from by simpa using hx] at hf;cases hf)];exact h1,h2⟩
  ·cases h
 ·exact dk h
 ·cases h
theorem Pz {w:WS} (hw:w.OK) {x:Operand} {b:Bool} (hk:Xh w.kn x=some b): ∃fr,w.st.ev x= .at (.data fr .bool b):=by
 unfold Xh at hk
 split at hk
 ·injection hk with hk;subst hk;exact ⟨true,rfl⟩
 ·exact hw _ _ hk
 ·cases hk
theorem yd {w:WS} (hw:w.OK) {o:Oper} {b:Bool} (hk:Ho w.kn o=some b) {v:AV} (he:Fl T Γ w.st o=some v): ∃fr,v= .at (.data fr .bool b):=by
 unfold Ho at hk
 split at hk
 ·rename_i heq;unfold Fl at he;rw [heq] at he;injection he with he;obtain ⟨fr,h⟩:=Pz hw hk;exact ⟨fr,he.symm.trans h⟩
 ·rename_i heq;unfold Fl at he;rw [heq] at he;injection he with he;obtain ⟨fr,h⟩:=Pz hw hk;exact ⟨fr,he.symm.trans h⟩
 ·rename_i x heq
  cases hx:Xh w.kn x with
  |none=>rw [hx] at hk;cases hk
  |some c=>
   rw [hx] at hk
   injection hk with hk
   obtain ⟨fr,h⟩:=Pz hw hx
   unfold Fl at he;rw [heq] at he
   simp only [h,BY,Pr] at he
   injection he with he
   exact ⟨true,by rw [<-he,<-hk]⟩
 ·rename_i c x y heq
  unfold Fl at he;rw [heq] at he
  split at hk
  ·rename_i hc
   obtain ⟨fr,h⟩:=Pz hw hc
   simp only [h,eR,Pv] at he
   injection he with he
   obtain ⟨fr,h⟩:=Pz hw hk
   exact ⟨fr,he.symm.trans h⟩
  ·rename_i hc
   obtain ⟨fr,h⟩:=Pz hw hc
   simp only [h,eR,Dj,Ul] at he
   injection he with he
   obtain ⟨fr,h⟩:=Pz hw hk
   exact ⟨fr,he.symm.trans h⟩
  ·cases hk
 ·cases hk
theorem wa {w:WS} (hw:w.OK) {o:Oper} {x:Operand} (ho:o.op= .assign x) {b:Bool} (hk:Ho w.kn o=some b) {v:AV} {s:St} (he:evalOp T Γ w.st o=some (v,s)): ∃fr,v= .at (.data fr .bool b):=by
 unfold Ho at hk
 rw [ho] at hk
 obtain ⟨fr,h⟩:=Pz hw hk
 unfold evalOp at he;rw [ho] at he
 simp only [h] at he
 injection he with he;injection he with he;exact ⟨fr,he.symm⟩
theorem ka {w:WS} (hw:w.OK) {o:Oper} {K:AV->WS->Prop} (h:qW T Γ w o K):
  ∃v w',Fl T Γ w.st o=some v/\w'.st=w.st/\w'.OK/\(∀b,Ho w'.kn o=some b-> ∃fr,v= .at (.data fr .bool b))/\K v w':=by
 have fin:(∃v w',Fl T Γ w.st o=some v/\w'.st=w.st/\w'.OK/\K v w')-> ∃v w',Fl T Γ w.st o=some v/\w'.st=w.st/\w'.OK/\(∀b,Ho w'.kn o=some b-> ∃fr,v= .at (.data fr .bool b))/\K v w':=by
  rintro ⟨v,w',h1,h2,h3,h4⟩
  exact ⟨v,w',h1,h2,h3,λb hb=>yd h3 hb (by rw [h2];exact h1),h4⟩
 refine fin ?_
 unfold qW at h
 split at h
 ·rename_i c a b heq
  obtain ⟨fr,t,w',h1,h2,h3,h4⟩:=zh hw h
  cases t with
  |true=>exact ⟨_,w',by unfold Fl;rw [heq];simp only [h1,eR,Pv];rw [<-h2],h2,h3,h4⟩
  |false=>exact ⟨_,w',by unfold Fl;rw [heq];simp only [h1,eR];rw [<-h2];simp,h2,h3,h4⟩
 ·rename_i heq
  obtain ⟨v,h1,h2⟩:=JP h
  exact ⟨v,w,by unfold Fl;rw [heq];exact h1,rfl,hw,h2⟩
 ·rename_i heq
  obtain ⟨v,h1,h2⟩:=OT h
  exact ⟨v,w,by unfold Fl;rw [heq];exact h1,rfl,hw,h2⟩
 ·rename_i heq
  split at h
  ·obtain ⟨v,h1,h2⟩:=EP h
   exact ⟨v,w,by unfold Fl;rw [heq];simpa using h1,rfl,hw,h2⟩
  ·cases h
 ·rename_i heq
  obtain ⟨v,h1,h2⟩:=qy h
  exact ⟨v,w,by unfold Fl;rw [heq];exact h1,rfl,hw,h2⟩
 ·rename_i heq
  obtain ⟨v,h1,h2⟩:=CN h
  exact ⟨v,w,by unfold Fl;rw [heq];exact h1,rfl,hw,h2⟩
 ·rename_i heq
  obtain ⟨v,h1,h2⟩:=dk h
  exact ⟨v,w,by unfold Fl;rw [heq];exact h1,rfl,hw,h2⟩
 ·rename_i heq
  obtain ⟨v,h1,h2⟩:=BQ h
  exact ⟨v,w,by unfold Fl;rw [heq];exact h1,rfl,hw,h2⟩
 ·rename_i heq
  obtain ⟨v,h1,h2⟩:=qn h
  exact ⟨v,w,by unfold Fl;rw [heq];exact h1,rfl,hw,h2⟩
 ·rename_i x heq
  unfold zO at h
  split at h
  ·rename_i fr τ z hx
   obtain ⟨y,h1,h2⟩:=h
   subst h1
   exact ⟨_,w,by unfold Fl;rw [heq];simp only [hx],rfl,hw,h2⟩
  ·obtain ⟨v,h1,h2⟩:=Cg.1 h
   exact ⟨v,w,h1,rfl,hw,h2⟩
 ·obtain ⟨v,h1,h2⟩:=Cg.1 h
  exact ⟨v,w,h1,rfl,hw,h2⟩
theorem FF {st:St} {t:TypeId} {p v:AV} {K:St->Prop} (h:TK T st t p v K): ∃s,Vv T st t p v=some s/\K s:=by
 unfold TK at h
 split at h
 ·obtain ⟨τ,h1,h⟩:=Cg.1 h
  obtain ⟨q,h2,h⟩:=Cg.1 h
  split at h
  ·rename_i hb
   obtain ⟨u,h3,h⟩:=Cg.1 h
   split at h
   ·rename_i hc
    obtain ⟨h4,h5⟩:=h
    obtain ⟨q1,q2⟩:=q
    obtain ⟨u1,u2⟩:=u
    exact ⟨_,by simp only [Vv,h1,h2,hb,h3];rw [Jf hc,Ab h4],h5⟩
   ·cases h
  ·cases h
 ·exact Cg.1 h
theorem yN {st:St} {t:TypeId} {p v:AV} {K:St->Prop} (h:FB T st t p v K): ∃s,Qf T st t p v=some s/\K s:=by
 unfold FB at h
 unfold Qf
 split at h
 rotate_left
 ·rename_i hg;rw [hg];exact FF h
 rename_i hg
 rw [hg]
 simp only
 unfold WI at h
 split at h
 ·obtain ⟨τ,h1,h⟩:=Cg.1 h
  obtain ⟨q,h2,h⟩:=Cg.1 h
  split at h
  ·rename_i hb
   obtain ⟨u,h3,h⟩:=Cg.1 h
   split at h
   ·rename_i hc
    obtain ⟨q1,q2⟩:=q
    obtain ⟨u1,u2⟩:=u
    exact ⟨_,by simp only [cz,h1,h2,hb,h3];rw [Jf hc],h⟩
   ·cases h
  ·cases h
 ·rename_i l j
  obtain ⟨τ,h1,h⟩:=Cg.1 h
  split at h
  ·rename_i e te rows out kp m off len hl _
   split at h
   ·rename_i fr tr e' tid xs hm
    split at h
    ·rename_i hc
     obtain ⟨h2,h3,h4,h5⟩:=h
     have h4:out=none\/out=some j:=by
      cases out with
      |none=>exact .inl rfl
      |some i=>exact .inr (Lr some h4)
     exact ⟨_,by simp only [cz,h1,hl,hm];rw [Jf ⟨hc.1,hc.2,h2,h3,h4⟩],h5⟩
    ·cases h
   ·cases h
  ·cases h
 ·cases h
theorem Zz {st:St} {d:Nat} {t:TypeId} {x y:Operand} {K:AV->St->Prop} (h:nU T st d t x y K): ∃v s,Og T st d t x y=some (v,s)/\K v s:=by
 unfold nU at h
 obtain ⟨te,h1,h⟩:=Cg.1 h
 obtain ⟨e,h2,h⟩:=Cg.1 h
 obtain ⟨q,h3,h⟩:=Cg.1 h
 obtain ⟨u,h4,h⟩:=Cg.1 h
 obtain ⟨q1,q2⟩:=q
 obtain ⟨u1,u2⟩:=u
 split at h
 ·rename_i hx
  split at h
  ·rename_i hd
   obtain ⟨h5,h6⟩:=h
   refine ⟨_,_,?_,h6⟩
   simp only [Og,h1,h2,h3,h4]
   rw [hx]
   simp only
   rw [Ab ⟨h5,by simpa [Nm] using hd⟩]
   simp
  ·cases h
 ·rename_i l off len hx
  split at h
  ·rename_i fr tr e' tid xs hb
   split at h
   ·rename_i hc
    obtain ⟨h5,h6,h7,h8⟩:=h
    refine ⟨_,_,?_,h8⟩
    simp only [Og,h1,h2,h3,h4]
    rw [hx]
    simp only [hb]
    rw [Jf ⟨hc.1,hc.2.1⟩,Ab ⟨h7,by simpa [Nm] using hc.2.2⟩]
    obtain ⟨hc1,hc2,hc3⟩:=hc
    subst hc1
    subst h5
    simp only [Dp,h6,Ap,Ax]
   ·cases h
  ·cases h
 ·cases h
theorem uz {st:St} {d:Nat} {t:TypeId} {x y:Operand} {K:AV->St->Prop} (h:uy T st d t x y K): ∃v s,Sb T st d t x y=some (v,s)/\K v s:=by
 unfold uy at h
 cases x with
 |tmp tx=>
  simp only at h
  unfold Sb
  simp only
  cases hg:st.get tx with
  | «at»c=>
   rw [hg] at h
   cases c with
   |sub l i c=>
    simp only at h⊢
    obtain ⟨tid,h1,h⟩:=Cg.1 h
    split at h
    ·rename_i hl
     split at h
     ·rename_i hc
      obtain ⟨v,s,h2,h3⟩:=Zz h
      refine ⟨v,s,?_,h3⟩
      simp only [hl,h1]
      rw [Ab hc]
      exact h2
     ·cases h
    ·cases h
   |_=>exact Zz h
  |_=>rw [hg] at h;exact Zz h
 |_=>exact Zz h
theorem JV {st:St} {d:Nat} {t:TypeId} {l c:AV} {K:AV->St->Prop} (h:Adw T st d t l c K): ∃v s,cw T st d t l c=some (v,s)/\K v s:=by
 unfold Adw at h
 split at h
 ·obtain ⟨te,h1,h⟩:=Cg.1 h
  obtain ⟨e,h2,h⟩:=Cg.1 h
  split at h
  ·rename_i hz
   obtain ⟨h3,h4,h5⟩:=h
   refine ⟨_,_,?_,h5⟩
   simp only [Af] at hz
   simp only [cw,h1,h2]
   rw [Ab ⟨Uz.2 (by exact_mod_cast h3),h4,hz.1,by simpa [Nm] using hz.2⟩]
   simp
  ·cases h
 ·cases h
theorem DG {st:St} {d:Nat} {t:TypeId} {l c:AV} {K:AV->St->Prop} (h:QX T st d t l c K): ∃v s,Yu T st d t l c=some (v,s)/\K v s:=by
 unfold QX at h
 unfold Yu
 cases hg:eU T t with
 |none=>rw [hg] at h;exact JV h
 |some p=>
  obtain ⟨te,e⟩:=p
  rw [hg] at h
  simp only at h⊢
  split at h
  ·split at h
   ·rename_i hd
    obtain ⟨h3,h4,h5⟩:=h
    refine ⟨_,_,?_,h5⟩
    simp only
    rw [Ab ⟨Uz.2 (by exact_mod_cast h3),h4,by simpa [Nm] using hd⟩]
    simp
   ·cases h
  ·cases h
theorem mT {st:St} {d:Nat} {t:TypeId} {len:Nat} {parts:Array (Nat×Operand)} {K:AV->St->Prop} (h:fR T st d t len parts K): ∃v s,Jg T st d t len parts=some (v,s)/\K v s:=by
 unfold fR at h
 unfold Jg
 cases hg:eU T t with
 |none=>
  rw [hg] at h
  obtain ⟨r,h1,h2⟩:=Cg.1 h
  exact ⟨r.1,r.2,h1,h2⟩
 |some p=>
  obtain ⟨te,e⟩:=p
  rw [hg] at h
  simp only at h⊢
  split at h
  ·rename_i x hp
   split at h
   ·rename_i m off ln hx
    split at h
    ·rename_i hm
     split at h
     ·rename_i hc
      obtain ⟨h1,h2,h3⟩:=h
      refine ⟨_,_,?_,h3⟩
      simp only [hp,hx,hm]
      rw [Jf ⟨hc.1,hc.2,h1,h2⟩]
     ·cases h
    ·cases h
   ·cases h
  ·cases h
theorem uD {st:St} {d:Nat} {t:TypeId} {x y:Operand} {K:AV->St->Prop} (h:uC T st d t x y K): ∃v s,Sd T st d t x y=some (v,s)/\K v s:=by
 unfold uC at h
 unfold Sd
 cases hg:eU T t with
 |none=>rw [hg] at h;exact uz h
 |some p=>
  obtain ⟨te,e⟩:=p
  rw [hg] at h
  simp only at h⊢
  split at h
  ·rename_i l off len m Ae4 vV hx hy
   split at h
   ·rename_i hl hm
    split at h
    ·rename_i hc
     obtain ⟨h1,h2,h3,h4,h5⟩:=h
     obtain ⟨⟨rfl,rfl⟩,hc⟩:=hc
     refine ⟨_,_,?_,h5⟩
     simp only [hx,hy,hl,hm]
     rw [Jf (⟨⟨trivial,trivial⟩,hc,h1,h2,h3,h4⟩)]
     simp
    ·cases h
   ·cases h
  ·cases h
theorem FL {st:St} {io:Bool} {k:Nat} {c:CK} {a:AC} {K:c.den->List (Nat×Loc)->Prop} (h:gT st io k c a K): ∃x t,Mi st io k c a=some (x,t)/\K x t:=by
 cases c with
 |Em τ=>
  cases a with
  |own l off len=>
   obtain ⟨p,h1,h2⟩:=Cg.1 h
   exact ⟨_,_,by simp only [Mi];rw [h1];rfl,h2⟩
  |clo g Eg=>
   simp only [gT] at h
   split at h
   ·rename_i hc
    obtain ⟨p,h1,h2⟩:=Cg.1 h
    exact ⟨_,_,by simp only [Mi];rw [Ab hc,h1];rfl,h2⟩
   ·cases h
  |Gy l i=>
   simp only [gT] at h
   split at h
   ·rename_i hc
    obtain ⟨p,h1,h2⟩:=Cg.1 h
    exact ⟨_,_,by simp only [Mi];rw [Ab hc,h1];rfl,h2⟩
   ·cases h
  |sub l i c=>
   obtain ⟨p,h1,h2⟩:=Cg.1 h
   exact ⟨_,_,by simp only [Mi];rw [h1];rfl,h2⟩
  |_=>
   simp only [gT] at h
   split at h
   ·rename_i hc
    obtain ⟨p,h1,h2⟩:=Cg.1 h
    exact ⟨_,_,by simp only [Mi];rw [Ab hc,h1];rfl,h2⟩
   ·cases h
 |row e te=>
  cases a<;>simp only [gT] at h<;>first|(cases h;done)|skip
  ·exact ⟨_,_,rfl,h⟩
  ·split at h
   ·rename_i hl
    split at h
    ·rename_i hc
     obtain ⟨h1,h2,h3⟩:=h
     exact ⟨_,_,by simp only [Mi,hl];rw [Jf ⟨hc.1,hc.2,h1,h2⟩],h3⟩
    ·cases h
   ·cases h
  ·split at h
   ·rename_i hl
    split at h
    ·rename_i hc
     obtain ⟨y,h1,h2⟩:=h
     exact ⟨_,_,by simp only [Mi,hl];rw [Jf hc,h1];rfl,h2⟩
    ·cases h
   ·cases h
 |Hp e te=>
  cases a<;>simp only [gT] at h<;>first|(cases h;done)|skip
  ·exact ⟨_,_,rfl,h⟩
  ·split at h
   ·rename_i hl
    split at h
    ·rename_i hc
     obtain ⟨h1,h2,h3⟩:=h
     exact ⟨_,_,by simp only [Mi,hl];rw [Jf ⟨hc.1,hc.2,h1,h2⟩],h3⟩
    ·cases h
   ·cases h
  ·split at h
   ·rename_i hl
    split at h
    ·rename_i hc
     obtain ⟨y,h1,h2⟩:=h
     exact ⟨_,_,by simp only [Mi,hl];rw [Jf hc,h1];rfl,h2⟩
    ·cases h
   ·cases h
 |part e te=>
  cases a<;>simp only [gT] at h<;>first|(cases h;done)|skip
  split at h
  ·rename_i hl
   split at h
   ·rename_i hc
    exact ⟨_,_,by simp only [Mi,hl];rw [Jf hc],h⟩
   ·cases h
  ·cases h
 |Bp e te kp=>
  cases a<;>simp only [gT] at h<;>first|(cases h;done)|skip
  split at h
  ·rename_i hl
   split at h
   ·rename_i hc
    obtain ⟨h1,h2,h3⟩:=h
    exact ⟨_,_,by simp only [Mi,hl];rw [Jf ⟨hc.1,hc.2.1,h1,h2,hc.2.2⟩],h3⟩
   ·cases h
  ·cases h
theorem LL {st:St} {e:Ty} {ys:List e.den} {a:AC} {K:St->Prop} (h:Aek st e ys a K): ∃s,SB st e ys a=some s/\K s:=by
 cases a<;>simp only [Aek] at h<;>first|(cases h;done)|skip
 split at h
 ·rename_i hl
  split at h
  ·rename_i hc
   obtain ⟨h1,h3⟩:=h
   exact ⟨_,by simp only [SB,hl];rw [Jf ⟨hc,h1⟩],h3⟩
  ·cases h
 ·cases h
theorem mB {st:St} : ∀(cs:List (Bool×CK)) (k:Nat) (as:List AC) (K:Ins.den cs->List (Nat×Loc)->Prop),FM st k cs as K-> ∃x t,gU st k cs as=some (x,t)/\K x t
 | [],_,[],_,h=>⟨_,_,rfl,h⟩
 | [],_,_::_,_,h=>h.elim
 |_::_,_,[],_,h=>h.elim
 |p::r,k,a::as,K,h=>by
  obtain ⟨x,t1,h1,h2⟩:=FL h
  obtain ⟨y,t2,h3,h4⟩:=mB r (k+1) as _ h2
  exact ⟨_,_,by simp only [gU,h1,h3],h4⟩
theorem sq {st:St} {c:CK} {ys:c.den} {a:AC} {K:St->Prop} (h:so st c ys a K): ∃s,df st c ys a=some s/\K s:=by
 cases c with
 |Em τ=>cases a<;>simp only [so] at h<;>first|(cases h;done)|exact ⟨_,rfl,h⟩
 |row e te=>
  cases a<;>simp only [so] at h<;>first|(cases h;done)|skip
  ·exact ⟨_,rfl,h⟩
  ·split at h
   ·rename_i hl
    split at h
    ·rename_i hc
     obtain ⟨h1,h3⟩:=h
     exact ⟨_,by simp only [df,hl];rw [Jf ⟨hc,h1⟩],h3⟩
    ·cases h
   ·cases h
  ·split at h
   ·rename_i hl
    split at h
    ·rename_i hc
     obtain ⟨y,h1,h2,h3⟩:=h
     exact ⟨_,by simp only [df,hl,Jf hc,h1];rw [Ab h2],h3⟩
    ·cases h
   ·cases h
 |Hp e te=>
  cases a<;>simp only [so] at h<;>first|(cases h;done)|skip
  ·exact ⟨_,rfl,h⟩
  ·split at h
   ·rename_i hl
    split at h
    ·rename_i hc
     obtain ⟨h1,h3⟩:=h
     exact ⟨_,by simp only [df,hl];rw [Jf ⟨hc,h1⟩],h3⟩
    ·cases h
   ·cases h
  ·split at h
   ·rename_i hl
    split at h
    ·rename_i hc
     obtain ⟨y,h1,h2,h3⟩:=h
     exact ⟨_,by simp only [df,hl,Jf hc,h1];rw [Ab h2],h3⟩
    ·cases h
   ·cases h
 |part e te=>cases a<;>simp only [so] at h<;>first|(cases h;done)|exact ⟨_,rfl,h⟩
 |Bp e te kp=>cases a<;>simp only [so] at h<;>first|(cases h;done)|exact ⟨_,rfl,h⟩
theorem Qm: ∀(cs:List (Bool×CK)) (o:IOs.den cs) (as:List AC) (st:St) (K:St->Prop),jZ cs o as st K-> ∃s,Ii cs o as st=some s/\K s
 | [],_,_,st,K,h=>⟨st,rfl,h⟩
 |(true, .Em _)::r,o,[],st,K,h=>h.elim
 |(true, .row _ _)::r,o,[],st,K,h=>h.elim
 |(true, .Hp _ _)::r,o,[],st,K,h=>h.elim
 |(true, .part _ _)::r,o,[],st,K,h=>h.elim
 |(true, .Bp _ _ _)::r,o,[],st,K,h=>h.elim
 |(true, .Bp _ _ _)::r,o,a::as,st,K,h=>by
  obtain ⟨s,h1,h2⟩:=Qm r o as st K h
  exact ⟨s,by simp only [Ii];exact h1,h2⟩
 |(false,_)::r,o,[],st,K,h=>h.elim
 |(true, .Em _)::r,o,a::as,st,K,h=>by
  obtain ⟨s,h1,h2⟩:=Qm r o as st K h
  exact ⟨s,by simp only [Ii];exact h1,h2⟩
 |(false,_)::r,o,a::as,st,K,h=>by
  obtain ⟨s,h1,h2⟩:=Qm r o as st K h
  exact ⟨s,by simp only [Ii];exact h1,h2⟩
 |(true, .row _ _)::r,o,a::as,st,K,h=>by
  obtain ⟨s1,h1,h2⟩:=sq h
  obtain ⟨s,h3,h4⟩:=Qm r o.2 as s1 K h2
  exact ⟨s,by simp only [Ii,h1];exact h3,h4⟩
 |(true, .part _ _)::r,o,a::as,st,K,h=>by
  obtain ⟨s1,h1,h2⟩:=LL h
  obtain ⟨s,h3,h4⟩:=Qm r o.2 as s1 K h2
  exact ⟨s,by simp only [Ii,h1];exact h3,h4⟩
 |(true, .Hp _ _)::r,o,a::as,st,K,h=>by
  obtain ⟨s1,h1,h2⟩:=sq h
  obtain ⟨s,h3,h4⟩:=Qm r o.2 as s1 K h2
  exact ⟨s,by simp only [Ii,h1];exact h3,h4⟩
theorem sF {H:List (Nat×OB)} {ls:List Nat} {n:Nat} {K:Prop} : ∀(l:List AV),xf H ls n l K->ey H ls n l=true/\K
 | [],h=>⟨rfl,h⟩
 |a::r,h=>by
  have go:xf H ls n r K->ey H ls n r=true/\K:=sF r
  cases a with
  | «at»c=>
   cases c with
   |sub l i c=>
    simp only [xf] at h
    simp only [ey]
    split at h
    ·rename_i hc
     obtain ⟨⟨h1,h2⟩,h3⟩:=h
     obtain ⟨g1,g2⟩:=go h3
     exact ⟨by simp only [hc,g1,Bool.and_true,Bool.not_true,Pq,Af,Nm];exact ⟨h1,h2⟩,g2⟩
    ·rename_i hc
     obtain ⟨g1,g2⟩:=go h
     exact ⟨by simp only [hc,g1,Bool.not_false,Bool.true_or,Bool.and_true],g2⟩
   |_=>exact go h
  |_=>exact go h
theorem BP {st:St} {d:Option Nat} {s:MSpec} {args:List AV} {K:AV->St->Prop} (h:OW st d s args K): ∃v s',Ys st d s args=some (v,s')/\K v s':=by
 unfold OW at h
 obtain ⟨⟨pl,cells,rest⟩,h0,h⟩:=Cg.1 h
 obtain ⟨as,h1,h⟩:=Cg.1 h
 obtain ⟨x,tks,h2,h⟩:=mB s.ins 0 (cells++as) _ h
 split at h
 ·rename_i hc
  obtain ⟨⟨r,o⟩,h3,h⟩:=h
  obtain ⟨st1,h4,h⟩:=Qm s.ins o (cells++as) st _ h
  obtain ⟨v,h5,h6⟩:=Cg.1 h
  obtain ⟨h7,h6⟩:=sF _ h6
  refine ⟨v,_,?_,h6⟩
  unfold Ys
  simp only [h0,h1,h2]
  rw [Ab hc]
  simp only [h3,h4,h5]
  rw [Ab h7]
 ·cases h
theorem YQ {w:WS} (hw:w.OK) {o:Oper} {K:AV->WS->Prop} (h:opW T Γ w o K):
  ∃v w',evalOp T Γ w.st o=some (v,w'.st)/\w'.OK/\(∀b,Ho w'.kn o=some b-> ∃fr,v= .at (.data fr .bool b))/\K v w':=by
 have fin: ∀v s,(∀b,Ho w.kn o=some b-> ∃fr,v= .at (.data fr .bool b))->evalOp T Γ w.st o=some (v,s)->K v (w.to s)-> ∃v w',evalOp T Γ w.st o=some (v,w'.st)/\w'.OK/\(∀b,Ho w'.kn o=some b-> ∃fr,v= .at (.data fr .bool b))/\K v w':=
  fun v s hk h1 h2=>⟨v,w.to s,h1,hw.to (og h1),hk,h2⟩
 have CA:(∀b v s,Ho w.kn o=some b->evalOp T Γ w.st o=some (v,s)-> ∃fr,v= .at (.data fr .bool b))->Hy (evalOp T Γ w.st o) (λr=>K r.1 (w.to r.2))-> ∃v w',evalOp T Γ w.st o=some (v,w'.st)/\w'.OK/\(∀b,Ho w'.kn o=some b-> ∃fr,v= .at (.data fr .bool b))/\K v w':=by
  intro hk h
  obtain ⟨r,h1,h2⟩:=Cg.1 h
  exact fin r.1 r.2 (λb hb=>hk b _ _ hb h1) h1 h2
 unfold opW at h
 split at h
 ·rename_i heq
  obtain ⟨s,h1,h2⟩:=yN h
  refine fin _ _ (λb hb=>by unfold Ho at hb;rw [heq] at hb;cases hb) ?_ h2
  unfold evalOp;rw [heq];simp only [h1];rfl
 ·rename_i heq
  obtain ⟨d,h1,h⟩:=Cg.1 h
  obtain ⟨v,s,h2,h3⟩:=DG h
  refine fin _ _ (λb hb=>by unfold Ho at hb;rw [heq] at hb;cases hb) ?_ h3
  unfold evalOp;rw [heq];simp only [h1,h2]
 ·rename_i heq
  split at h
  ·rename_i hd ha ht
   split at h
   ·rename_i Wp
    obtain ⟨v,s,h2,h3⟩:=uD h
    refine fin _ _ (λb hb=>by unfold Ho at hb;rw [heq] at hb;cases hb) ?_ h3
    unfold evalOp;rw [heq];simp only [hd,ha,ht,Ab Wp,h2]
   ·cases h
  ·cases h
 ·rename_i heq;exact CA (λb v s hb he=>wa hw heq hb he) h
 ·rename_i heq;exact CA (λb v s hb he=>by unfold Ho at hb;rw [heq] at hb;cases hb) h
 ·rename_i heq;exact CA (λb v s hb he=>by unfold Ho at hb;rw [heq] at hb;cases hb) h
 ·rename_i heq
  obtain ⟨d,h1,h⟩:=Cg.1 h
  obtain ⟨v,s,h2,h3⟩:=mT h
  refine fin _ _ (λb hb=>by unfold Ho at hb;rw [heq] at hb;cases hb) ?_ h3
  unfold evalOp;rw [heq];simp only [h1,h2]
 ·rename_i heq;exact CA (λb v s hb he=>by unfold Ho at hb;rw [heq] at hb;cases hb) h
 ·rename_i heq;exact CA (λb v s hb he=>by unfold Ho at hb;rw [heq] at hb;cases hb) h
 ·rename_i heq;exact CA (λb v s hb he=>by unfold Ho at hb;rw [heq] at hb;cases hb) h
 ·rename_i heq;exact CA (λb v s hb he=>by unfold Ho at hb;rw [heq] at hb;cases hb) h
 ·rename_i heq;exact CA (λb v s hb he=>by unfold Ho at hb;rw [heq] at hb;cases hb) h
 ·rename_i heq;exact CA (λb v s hb he=>by unfold Ho at hb;rw [heq] at hb;cases hb) h
 ·
  rename_i f _ _ heq
  split at h
  ·rename_i Ph
   obtain ⟨v,s',h1,h2⟩:=BP h
   refine fin v s' (λb hb=>by unfold Ho at hb;rw [heq] at hb;cases hb) ?_ h2
   unfold evalOp;rw [heq];simp only [Ph];exact h1
  ·rename_i s Ph
   split at h
   ·rename_i VI
    obtain ⟨st1,hs,h⟩:=Cg.1 h
    obtain ⟨v,w',h1,h2,h3,h3',h4⟩:=ka (hw.to (Vb _ hs)) h
    refine ⟨v,w',?_,h3,h3',h4⟩
    have h1:Fl T Γ st1 o=some v:=h1
    have h2:w'.st=st1:=h2
    unfold evalOp
    rw [heq]
    simp only [Ph,VI,hs,h1,h2]
    rfl
   ·rename_i VI
    obtain ⟨v,w',h1,h2,h3,h3',h4⟩:=ka hw h
    refine ⟨v,w',?_,h3,h3',h4⟩
    unfold evalOp
    rw [heq]
    simp only [Ph,VI,h1,h2]
    rfl
  ·rename_i Bbr Aqe
   obtain ⟨v,w',h1,h2,h3,h3',h4⟩:=ka hw h
   refine ⟨v,w',?_,h3,h3',h4⟩
   unfold evalOp
   rw [heq]
   simp only
   rw [h1,h2];rfl
 ·rename_i n1 n2 n3 n4 n5 n6 n7 n8 n9 n10 n11 n12 n13 n14
  obtain ⟨v,w',h1,h2,h3,h3',h4⟩:=ka hw h
  refine ⟨v,w',?_,h3,h3',h4⟩
  unfold evalOp
  split
  all_goals first
   |(rw [h1,h2];rfl)
   |(rename_i hq;exact absurd hq (by first|exact n1 _|exact n2 _|exact n3 _|exact n4 _|exact n5 _|exact n6 _|exact n7 _|exact n8 _|exact n9 _|exact n10 _|exact n11 _|exact n12 _|exact n13 _|exact n14 _))
   |(rename_i hq;exact absurd hq (by first|exact n1 _ _|exact n2 _ _|exact n3 _ _|exact n4 _ _|exact n5 _ _|exact n6 _ _|exact n7 _ _|exact n8 _ _|exact n9 _ _|exact n10 _ _|exact n11 _ _|exact n12 _ _|exact n13 _ _|exact n14 _ _))
   |(rename_i hq;exact absurd hq (by first|exact n1 _ _ _|exact n2 _ _ _|exact n3 _ _ _|exact n4 _ _ _|exact n5 _ _ _|exact n6 _ _ _|exact n7 _ _ _|exact n8 _ _ _|exact n9 _ _ _|exact n10 _ _ _|exact n11 _ _ _|exact n12 _ _ _|exact n13 _ _ _|exact n14 _ _ _))
   |(rename_i hq;exact absurd hq (by first|exact n1 _ _ _ _|exact n2 _ _ _ _|exact n3 _ _ _ _|exact n4 _ _ _ _|exact n5 _ _ _ _|exact n6 _ _ _ _|exact n7 _ _ _ _|exact n8 _ _ _ _|exact n9 _ _ _ _|exact n10 _ _ _ _|exact n11 _ _ _ _|exact n12 _ _ _ _|exact n13 _ _ _ _|exact n14 _ _ _ _))
theorem CD (st:St) (d:Nat) (v:AV):(st.put (some d) v).get d=v\/(st.put (some d) v).get d= .undef:=by
 simp only [St.put,St.get]
 rw [Rh]
 by_cases h:d<st.tmps.length
 ·exact .inl (by rw [Ab ⟨rfl,h⟩])
 ·refine .inr ?_
  rw [Ag (λhc=>h hc.2),Aj,Ec (by omega)]
  rfl
theorem WS.OK.yt {w:WS} (hw:w.OK) (o:Oper) (v:AV) (h: ∀b,Ho w.kn o=some b-> ∃fr,v= .at (.data fr .bool b)):(w.yt o v).OK/\(w.yt o v).st=w.st.put o.dst v:=by
 unfold WS.yt
 split
 ·rename_i d b hd hk
  split
  ·rename_i fr c hg
   refine ⟨?_,by rw [hd]⟩
   obtain ⟨Ww,hv⟩:=h b hk
   intro t b' hb
   simp only [oP] at hb
   split at hb
   ·rename_i ht
    injection hb with hb
    subst ht;subst hb
    refine ⟨Ww,?_⟩
    show (w.st.put (some d) v).get d=_
    cases CD w.st d v with
    |inl h1=>rw [h1,hv]
    |inr h1=>rw [h1] at hg;cases hg
   ·exact hw.put (some d) v t b' hb
  ·exact ⟨hw.put _ _,by rw [WS.wx,hd]⟩
 ·exact ⟨hw.put _ _,WS.wx _ _ _⟩
theorem sE {ops:Array Oper} {w:WS} (hw:w.OK) {o:Oper} {run:(AV->WS->Prop)->WS->Prop} {R:St->Option (AV×St)} {K:WS->Prop}
  (hr: ∀(k:AV->WS->Prop) (w:WS),w.OK->run k w-> ∃v w',R w.st=some (v,w'.st)/\w'.OK/\(∀b,Ho w'.kn o=some b-> ∃fr,v= .at (.data fr .bool b))/\k v w') (h:kC ops w o run K):
  ∃w',(match o.guard with
   |none=>(R w.st).map λr=>r.2.put o.dst r.1
   |some (j,want)=>match Yl w.st ((ops[j]?).bind (·.dst)) with
    |some (some b)=>if b==want then (R w.st).map λr=>r.2.put o.dst r.1 else some (w.st.put o.dst (.at .skip))
    |some none=>some (w.st.put o.dst (.at .skip))
    |none=>none)=some w'.st/\w'.OK/\K w':=by
 have go: ∀w:WS,w.OK->run (λv w'=>K (w'.yt o v)) w-> ∃w',((R w.st).map λr=>r.2.put o.dst r.1)=some w'.st/\w'.OK/\K w':=by
  intro w hw h
  obtain ⟨v,w',h1,h2,h3,h4⟩:=hr _ _ hw h
  obtain ⟨h5,h6⟩:=h2.yt o v h3
  exact ⟨w'.yt o v,by rw [h1,h6];rfl,h5,h4⟩
 unfold kC at h
 split at h
 ·rename_i hg
  rw [hg]
  exact go w hw h
 ·rename_i j want hg
  rw [hg]
  obtain ⟨t,h1,h⟩:=Cg.1 h
  simp only [h1]
  split at h
  ·rename_i hs
   have hsk:w.st.get t= .at .skip:=by
    unfold AV.Adk at hs
    split at hs
    ·assumption
    ·cases hs
   exact ⟨_,by simp only [Yl,hsk];rw [WS.wx],hw.put _ _,h⟩
  ·obtain ⟨fr,b,w',h2,h3,h4,h5⟩:=zi hw h
   have hb:Yl w.st (some t)=some (some b):=by simp only [Yl,h2]
   rw [hb]
   simp only
   cases b with
   |true=>
    cases want with
    |true=>rw [Ab (by decide),<-h3];exact go w' h4 h5
    |false=>exact ⟨_,by rw [Ag (by decide),<-h3,WS.wx],h4.put _ _,h5⟩
   |false=>
    cases want with
    |false=>rw [Ab (by decide),<-h3];exact go w' h4 h5
    |true=>exact ⟨_,by rw [Ag (by decide),<-h3,WS.wx],h4.put _ _,h5⟩
theorem cU {ops:Array Oper} {w:WS} (hw:w.OK) {o:Oper} {K:WS->Prop} (h:kC ops w o (λk w'=>opW T Γ w' o k) K): ∃w',Ez T Γ ops w.st o=some w'.st/\w'.OK/\K w':=by
 obtain ⟨w',h1,h2⟩:=sE hw (R:= λst=>evalOp T Γ st o) (λk w hw h=>by
  obtain ⟨v,w',h1,h2,h2',h3⟩:=YQ hw h
  exact ⟨v,w',h1,h2,h2',h3⟩) h
 exact ⟨w',h1,h2⟩
theorem Abt {w:WS} (hw:w.OK) {o:Oper} {K:AV->WS->Prop} (h:bW T Γ w o K):
  ∃v w',Ye T Γ w.st o=some v/\w'.st=w.st/\w'.OK/\(∀b,Ho w'.kn o=some b-> ∃fr,v= .at (.data fr .bool b))/\K v w':=by
 unfold bW at h
 split at h
 ·rename_i t len parts tV
  obtain ⟨v,h1,h2⟩:=Cg.1 h
  exact ⟨v,w,by unfold Ye;rw [tV];exact h1,rfl,hw,λb hb=>by simp [Ho,tV] at hb,h2⟩
 ·rename_i t parts tV
  obtain ⟨v,h1,h2⟩:=Cg.1 h
  exact ⟨v,w,by unfold Ye;rw [tV];exact h1,rfl,hw,λb hb=>by simp [Ho,tV] at hb,h2⟩
 ·rename_i n1 n2
  obtain ⟨v,w',h1,h2⟩:=ka hw h
  refine ⟨v,w',?_,h2⟩
  rw [<-h1]
  unfold Ye
  split
  ·rename_i h9;exact absurd h9 (n1 _ _ _)
  ·rename_i h9;exact absurd h9 (n2 _ _)
  ·rfl
theorem Aig {ops:Array Oper} {w:WS} (hw:w.OK) {o:Oper} {K:WS->Prop} (h:kC ops w o (λk w'=>bW T Γ w' o k) K): ∃v w',Yb T Γ ops w.st o=some v/\w'.st=w.st.put o.dst v/\w'.OK/\K w':=by
 obtain ⟨w',h1,h2,h3⟩:=sE hw (R:= λst=>(Ye T Γ st o).map λv=>(v,st)) (λk w hw h=>by
  obtain ⟨v,w',h1,h2,h3,h3',h4⟩:=Abt hw h
  exact ⟨v,w',by simp only [h1,h2];rfl,h3,h3',h4⟩) h
 have key: ∀u:Option AV,((u.map λv=>(v,w.st)).map λr=>r.2.put o.dst r.1)=some w'.st-> ∃v,u=some v/\w'.st=w.st.put o.dst v:=by
  intro u hu
  cases u with
  |none=>cases hu
  |some v=>injection hu with hu;exact ⟨v,rfl,hu.symm⟩
 unfold Yb
 split at h1
 ·rename_i hg
  obtain ⟨v,h4,h5⟩:=key _ h1
  exact ⟨v,w',by rw [hg];exact h4,h5,h2,h3⟩
 ·rename_i j want hg
  rw [hg]
  split at h1
  ·rename_i b hb
   simp only [hb]
   split at h1
   ·rename_i hbw
    obtain ⟨v,h4,h5⟩:=key _ h1
    exact ⟨v,w',by rw [Ab hbw];exact h4,h5,h2,h3⟩
   ·rename_i hbw
    injection h1 with h1
    exact ⟨_,w',by rw [Ag hbw],h1.symm,h2,h3⟩
  ·rename_i hb
   simp only [hb]
   injection h1 with h1
   exact ⟨_,w',rfl,h1.symm,h2,h3⟩
  ·cases h1
theorem wb {ops:Array Oper} : ∀(l:List Oper) {w:WS} (_:w.OK) {K:WS->Prop},Ana T Γ ops l w K-> ∃w',bz T Γ ops l w.st=some w'.st/\w'.OK/\K w'
 | [],w,hw,K,h=>⟨w,rfl,hw,h⟩
 |o::r,w,hw,K,h=>by
  obtain ⟨w1,h1,h2,h3⟩:=cU hw h
  obtain ⟨w2,h4,h5⟩:=wb r h2 h3
  exact ⟨w2,by simp only [bz];rw [h1];exact h4,h5⟩
theorem gf {ops:Array Oper} : ∀(l:List Nat) {w:WS} (_:w.OK) {K:WS->Prop},Ada T Γ ops l w K-> ∃w',Nc T Γ ops l w.st=some w'.st/\w'.OK/\K w'
 | [],w,hw,K,h=>⟨w,rfl,hw,h⟩
 |i::r,w,hw,K,h=>by
  obtain ⟨o,h0,h⟩:=Cg.1 h
  obtain ⟨w1,h1,h2,h3⟩:=cU hw h
  obtain ⟨w2,h4,h5⟩:=gf r h2 h3
  exact ⟨w2,by simp only [Nc];rw [h0];simp only [h1];exact h4,h5⟩
theorem Nx {ops:Array Oper} : ∀(l:List Nat) {w:WS} (_:w.OK) {K:WS->Prop},m6 T Γ ops l w K-> ∃w',Gh T Γ ops l w.st=some w'.st/\w'.OK/\K w'
 | [],w,hw,K,h=>⟨w,rfl,hw,h⟩
 |i::r,w,hw,K,h=>by
  obtain ⟨o,h0,h⟩:=Cg.1 h
  obtain ⟨v,w1,h1,h1',h2,h3⟩:=Aig hw h
  obtain ⟨w2,h4,h5⟩:=Nx r h2 h3
  exact ⟨w2,by simp only [Gh];rw [h0];simp only [h1];rw [<-h1'];exact h4,h5⟩
theorem nT {P:Nat->Prop} : ∀(l:List Nat),Abq l P-> ∀i∈l,P i
 | [],_,i,hi=>by cases hi
 | [k],h,i,hi=>by rw [Ad.1 hi];exact h
 |k::j::r,h,i,hi=>by
  rcases Be.1 hi with rfl|hi
  ·exact h.1
  ·exact nT (j::r) h.2 i hi
theorem mQ {ops:Array Oper} {K:WS->Prop} : ∀(f:Nat) (Ah:Array Bool) {w:WS} (_:w.OK),WX T Γ ops f Ah w K->anyS T Γ ops (λs=> ∃w':WS,w'.st=s/\w'.OK/\K w') f Ah w.st
 |0,Ah,w,hw,h=>by
  unfold WX at h
  split at h
  ·rename_i hr;exact ⟨hr,w,rfl,hw,h⟩
  ·cases h
 |f+1,Ah,w,hw,h=>by
  unfold WX at h
  split at h
  ·cases h
  ·rename_i i r hr
   refine ⟨by rw [hr];simp,λk hk=>?_⟩
   rw [hr] at hk
   obtain ⟨o,h0,h1⟩:=Cg.1 (nT _ h k hk)
   obtain ⟨w1,h2,h3,h4⟩:=cU hw h1
   exact ⟨o,w1.st,h0,h2,mQ f _ h3 h4⟩
theorem eB: ∀(l:List Oper) (d:Nat),d∈Ku l-> ∃o∈l,o.dst=some d
 | [],d,h=>by simp [Ku] at h
 |o::r,d,h=>by
  simp only [Ku] at h
  cases ho:o.dst with
  |none=>
   rw [ho] at h
   obtain ⟨o',h1,h2⟩:=eB r d (by simpa using h)
   exact ⟨o',Ar _ h1,h2⟩
  |some e=>
   rw [ho] at h
   rcases Be.1 (by simpa using h) with h|h
   ·exact ⟨o,by simp,by rw [ho,h]⟩
   ·obtain ⟨o',h1,h2⟩:=eB r d h
    exact ⟨o',Ar _ h1,h2⟩
theorem oo {ops:Array Oper} {K:WS->Prop} : ∀(f:Nat) (Ah:Array Bool) {w:WS} (_:w.OK),cA T Γ ops f Ah w K-> ∃w':WS,Fz (λt=>Tn ops t=true) w.st w'.st/\w'.OK/\K w'
 |0,Ah,w,hw,h=>by
  simp only [cA] at h
  split at h
  ·exact ⟨w,λ_ _ _ _ _ hx=>hx,hw,h⟩
  ·exact h.elim
 |f+1,Ah,w,hw,h=>by
  simp only [cA] at h
  split at h
  ·exact h.elim
  ·obtain ⟨o,ho,h1⟩:=Cg.1 h
   obtain ⟨w',h2,h3,h4⟩:=cU hw h1
   obtain ⟨w2,g1,g2⟩:=oo f _ h3 h4
   refine ⟨w2,((cy h2).mono λt ht hd=>?_).trans g1,g2⟩
   unfold Tn Zx at ht
   have:(ops.toList.any λo=>o.dst==some t)=true:=Hq.2 ⟨o,qI ho,by rw [hd];exact beq_self_eq_true _⟩
   rw [this] at ht
   cases ht
theorem ny (p:Nat->Bool): ∀(i:Nat) (l0 l1:List AV),(∀t,(l0.getD t .undef).Yz=true->p (i+t)=true->l1.getD t .undef=l0.getD t .undef)->
  Wd (Ko p i l0) l0 (Ur (Ko p i l0) l1)=l1
 |_,[],l1,_=>by simp [Ko,Ur,Wd]
 |i,a::r,[],_=>by
  simp only [Ko]
  cases (a.Yz&&p i)<;>simp [Ur,Wd]
 |i,a::r,b::s,h=>by
  have hr:=ny p (i+1) r s λt h1 h2=>by
   have:=h (t+1) (by simpa using h1) (by rw [show i+(t+1)=i+1+t by omega];exact h2)
   simpa using this
  simp only [Ko]
  cases hc:(a.Yz&&p i) with
  |false=>simp only [Ur,Wd];rw [hr]
  |true=>
   simp only [Ur,Wd]
   rw [hr]
   simp only [Af] at hc
   have:=h 0 (by simpa using hc.1) hc.2
   simp only [Yj] at this
   rw [this]
theorem gq: ∀(f:List Bool) (l:List AV),(Ur f l).length=l.length
 | [],l=>by simp [Ur]
 |true::f,[]=>by simp [Ur]
 |false::f,[]=>by simp [Ur]
 |true::f,a::l=>by simp [Ur,gq f l]
 |false::f,a::l=>by simp [Ur,gq f l]
theorem XI {p:Nat->Bool} {w1 s0 s:St} (h1:Fz (λt=>p t=true) w1 s0) (h2:Fz (λt=>p t=true) w1 s) (h:eqM (Ko p 0 w1.tmps) s0 s):s=s0:=by
 have e:=eN h
 simp only [St.mask,St.mk.injEq] at e
 have key: ∀ {a:St},Fz (λt=>p t=true) w1 a->Wd (Ko p 0 w1.tmps) w1.tmps (Ur (Ko p 0 w1.tmps) a.tmps)=a.tmps:= λ {a} ha=>ny p 0 _ _ λt ht hp=>by
  rw [Bo] at hp
  cases hc:w1.tmps.getD t .undef with
  | «at»c=>
   cases c with
   |data fr τ x=>exact ha t fr τ x hp hc
   |_=>rw [hc] at ht;cases ht
  |_=>rw [hc] at ht;cases ht
 have e1:=key h1
 have e2:=key h2
 rw [e.1,e1] at e2
 obtain ⟨_,e4⟩:=e
 cases s;cases s0
 simp only at e2 e4
 rw [e4,e2]
theorem bA {ops:Array Oper} {K:WS->Prop} : ∀(f:Nat) (Ah:Array Bool) {w:WS} (_:w.OK),cA T Γ ops f Ah w K-> ∃w':WS,w'.OK/\K w'
 |0,Ah,w,hw,h=>by
  simp only [cA] at h
  split at h
  ·exact ⟨w,hw,h⟩
  ·exact h.elim
 |f+1,Ah,w,hw,h=>by
  simp only [cA] at h
  split at h
  ·exact h.elim
  ·obtain ⟨o,ho,h1⟩:=Cg.1 h
   obtain ⟨w',h2,h3,h4⟩:=cU hw h1
   exact bA f _ h3 h4
theorem rG {P:List (Nat×Nat×AV×OB)} {ops:Array Oper} {K:WS->Prop} : ∀(f:Nat) (Ah:Array Bool) {w:WS} (_:w.OK),GV T Γ P ops f Ah w K->Al3 T Γ ops P (λs=> ∃w':WS,w'.st=s/\w'.OK/\K w') f Ah w.st
 |0,Ah,w,hw,h=>by
  unfold GV at h
  split at h
  ·rename_i hr;exact ⟨hr,w,rfl,hw,h⟩
  ·cases h
 |f+1,Ah,w,hw,h=>by
  unfold GV at h
  split at h
  ·cases h
  ·rename_i i r hr
   refine ⟨by rw [hr];simp,λk hk=>?_⟩
   rw [hr] at hk
   obtain ⟨o,h0,h1⟩:=Cg.1 (nT _ h k hk)
   split at h1
   ·rename_i jE
    obtain ⟨w1,h2,h3,h4⟩:=cU hw h1
    exact ⟨o,w1.st,h0,jE,h2,rG f _ h3 h4⟩
   ·cases h1
theorem KG {α:Type} (f:α->Nat) {l:List α} (h:aW (l.map f)=true):l.Pairwise λa c=>f a≠f c:=List.pairwise_map.1 (Za h)
theorem dP {ops:Array Oper} {E:List Nat} {Ah:Array Bool} {w:WS} (hw:w.OK): ∀(R:List Nat) {K:Prop},AQ T Γ ops E Ah w R K->K/\ ∀r∈R,uh ops E Ah r=true\/ ∃o v,ops[r]?=some o/\Yb T Γ ops w.st o=some v/\ ∀d,o.dst=some d->w.st.get d=v
 | [],K,h=>⟨h,λr hr=>by cases hr⟩
 |r::R,K,h=>by
  unfold AQ at h
  split at h
  ·rename_i hwt
   obtain ⟨h1,h2⟩:=dP hw R h
   refine ⟨h1,λq hq=>?_⟩
   rcases Be.1 hq with rfl|hq
   ·exact .inl hwt
   ·exact h2 q hq
  ·obtain ⟨h0,h⟩:=h
   obtain ⟨h1,h2⟩:=dP hw R h
   refine ⟨h1,λq hq=>?_⟩
   rcases Be.1 hq with rfl|hq
   ·refine .inr ?_
    obtain ⟨w',g1,_,g3⟩:=Nx _ hw h0
    obtain ⟨d,hd,g4⟩:=Cg.1 g3
    simp only [Gh] at g1
    split at g1
    ·cases g1
    rename_i o ho
    split at g1
    rotate_left
    ·cases g1
    rename_i v hv
    refine ⟨o,v,ho,hv,λd' hd'=>?_⟩
    rw [ho] at hd
    have hdd:o.dst=some d:=hd
    rw [hd'] at hdd
    cases hdd
    split at g4
    ·rename_i hl
     have e:=eN g4
     have e1:w'.st.get d=w.st.get d:=by
      have:=Lr (λs:St=>s.tmps) e
      simpa using this
     rw [<-e1]
     have e2:w.st.put o.dst v=w'.st:=Ba g1
     rw [<-e2,show o.dst=some d from hd]
     show (Tj w.st.tmps d v).getD d .undef=v
     rw [Rh,Ab ⟨rfl,by simpa [Nm] using hl⟩]
    ·cases g4
   ·exact h2 q hq
theorem dj {ops:Array Oper} {E:List Nat} {K:WS->Prop} : ∀(f:Nat) (Ah:Array Bool) {w:WS} (_:w.OK),uw T Γ ops E f Ah w K->sQ T Γ ops E (λs=> ∃w':WS,w'.st=s/\w'.OK/\K w') f Ah w.st
 |0,Ah,w,hw,h=>by
  unfold uw at h
  obtain ⟨h,hs⟩:=dP hw _ h
  split at h
  ·rename_i hr;exact ⟨hs,hr,w,rfl,hw,h⟩
  ·cases h
 |f+1,Ah,w,hw,h=>by
  unfold uw at h
  obtain ⟨h,hs⟩:=dP hw _ h
  split at h
  ·cases h
  ·rename_i i r hr
   refine ⟨hs,by rw [hr];simp,λk hk=>?_⟩
   rw [hr] at hk
   obtain ⟨o,h0,h1⟩:=Cg.1 (nT _ h k hk)
   obtain ⟨w1,h2,h3,h4⟩:=cU hw h1
   exact ⟨o,w1.st,h0,h2,dj f _ h3 h4⟩
theorem ED {ops:Array Oper} {E:List Nat} {L0:Array Bool} {n:Nat} {w:WS} (hw:w.OK) {K:WS->Prop} (h:SE T Γ E n L0 ops w K):Agn T Γ ops (λs=> ∃w':WS,w'.st=s/\w'.OK/\K w') n L0 w.st:=by
 unfold SE at h
 split at h
 ·rename_i hb
  simp only [Af] at hb
  obtain ⟨b1,b2,b3⟩:=hb
  obtain ⟨w1,h1,h2,h3⟩:=Nx _ hw h
  have h3:=Oi.1 h3
  obtain ⟨w0,g1,g2⟩:=bA _ _ h2 h3
  obtain ⟨g3,g4⟩:=Oi.1 g2
  refine ⟨E,w1.st,b1,Nat.le_of_ble_eq_true b2,h1,bS (λs hs=>?_) _ _ _ (dj _ _ h2 g4)⟩
  obtain ⟨w',h5,_,h6⟩:=hs
  exact ⟨w0,((h5.symm.trans (eN (Oi.1 h6))).symm),g1,g3⟩
 ·cases h
theorem ez {ops:Array Oper} {t:Nat} :Tn ops t=true->t∉Ku ops.toList:= λh hm=>by
 obtain ⟨o,ho,hd⟩:=eB _ _ hm
 unfold Tn Zx at h
 have:(ops.toList.any λo=>o.dst==some t)=true:=Hq.2 ⟨o,ho,by rw [hd];exact beq_self_eq_true _⟩
 rw [this] at h
 cases h
theorem GW {ops:Array Oper} {E:List Nat} {K:St->Prop} (s0:St) (f:Nat) (Ah:Array Bool) (st:St) (hk:Fz (λt=>Tn ops t=true) s0 st) (h:sQ T Γ ops E K f Ah st):
  sQ T Γ ops E (λs=>K s/\Fz (λt=>Tn ops t=true) s0 s) f Ah st:=by
 have h1:=mP (draw:=true) st f Ah st (λ_ _ _ _ _ hx=>hx) h
 exact bS (λs hs=>⟨hs.1,hk.trans (hs.2.mono λt ht=>ez ht)⟩) _ _ _ h1
theorem WS.OK.Qz {w:WS} (hw:w.OK) (dead:List Nat):(w.Qz dead).OK:=by
 intro t b hb
 have key: ∀(l:List (Nat×Bool)),oP (l.filter λp=>!dead.contains p.1) t=some b->dead.contains t=false/\oP l t=some b:=by
  intro l
  induction l with
  |nil=>intro h;cases h
  |cons q r ih=>
   intro h
   obtain ⟨k,c⟩:=q
   by_cases hk:dead.contains k=true
   ·rw [List.filter_cons_of_neg (by rw [hk];decide)] at h
    obtain ⟨h1,h2⟩:=ih h
    refine ⟨h1,?_⟩
    unfold oP
    rw [Ag (λe=>by subst e;rw [h1] at hk;cases hk)]
    exact h2
   ·have hk:dead.contains k=false:=by simpa using hk
    rw [List.filter_cons_of_pos (by rw [hk];rfl)] at h
    unfold oP at h⊢
    split at h
    ·rename_i e
     subst e
     rw [Ab rfl]
     exact ⟨hk,h⟩
    ·rename_i e
     rw [Ag e]
     exact ih h
 obtain ⟨h1,h2⟩:=key _ hb
 obtain ⟨fr,h3⟩:=hw t b h2
 refine ⟨fr,?_⟩
 show (w.st.Qz dead).get t=_
 unfold St.Qz
 refine Va _ _ t fr _ _ ?_
 show (Iq _ 0 w.st.tmps).getD t .undef=_
 rw [Wt _ 0 w.st.tmps t ?_]
 ·exact h3
 ·refine Ch.2 ⟨Eo.2 ?_,by rw [Bo,h1];rfl⟩
  refine Bw λhn=>?_
  have:w.st.get t= .undef:=by
   unfold St.get
   rw [Aj,Ec (by omega)];rfl
  rw [h3] at this
  cases this
theorem KK {ops:Array Oper} {dead E:List Nat} (b3:dead.all (Zx ops)=true) {L0:Array Bool} {n:Nat} {w:WS} (hw:w.OK) {K:WS->Prop} (h:Ae6 T Γ dead E n L0 ops w K):Agn T Γ ops (λs=> ∃w':WS,w'.st=s.Qz dead/\w'.OK/\K w') n L0 w.st:=by
 unfold Ae6 at h
 split at h
 ·rename_i hb
  simp only [Af] at hb
  obtain ⟨b1,b2⟩:=hb
  obtain ⟨w1,h1,h2,h3⟩:=Nx _ hw h
  have h3:=Oi.1 h3
  refine ⟨E,w1.st,b1,Nat.le_of_ble_eq_true b2,h1,?_⟩
  split at h3
  ·refine bS (λs hs=>?_) _ _ _ (dj _ _ h2 h3)
   obtain ⟨w',h5,h6,h7⟩:=hs
   exact ⟨w'.Qz dead,by rw [<-h5];rfl,h6.Qz _,h7⟩
  ·rw [fY] at h3
   obtain ⟨w0,g0,g1,g2⟩:=oo _ _ h2 h3
   obtain ⟨g3,g4⟩:=Oi.1 g2
   refine bS (λs hs=>?_) _ _ _ (GW w1.st _ _ _ (λ_ _ _ _ _ hx=>hx) (dj _ _ h2 g4))
   obtain ⟨⟨w',h5,_,h6⟩,h7⟩:=hs
   have h6:=Oi.1 h6
   have k1:Fz (λt=>Tn ops t=true) w1.st (w0.Qz dead).st:=g0.trans ((jK b3 w0.st).mono λt ht=>ez ht)
   have k2:Fz (λt=>Tn ops t=true) w1.st (w'.Qz dead).st:=by
    show Fz _ w1.st (w'.st.Qz dead)
    rw [h5]
    exact h7.trans ((jK b3 s).mono λt ht=>ez ht)
   have e:=XI k1 k2 h6
   refine ⟨w0.Qz dead,?_,g1.Qz _,g3⟩
   rw [<-e,<-h5]
   rfl
 ·cases h
theorem xI {ops:Array Oper} {L0:Array Bool} {n:Nat} {w:WS} (hw:w.OK) {K:WS->Prop} (hc:Uw ops L0) (h:BO T Γ (aq T ops L0) n L0 ops w K):anyS T Γ ops (λs=> ∃w':WS,w'.st=s/\w'.OK/\K w') n L0 w.st\/Agn T Γ ops (λs=> ∃w':WS,w'.st=s/\w'.OK/\K w') n L0 w.st:=by
 unfold BO at h
 split at h
 ·rename_i hb
  simp only [Af] at hb
  obtain ⟨⟨b1,b2⟩,b3,b4,b5⟩:=hb
  have hm: ∀a∈aq T ops L0,a.1∈Region.ready .any ops L0/\ ∃o,ops[a.1]?=some o/\fO T o=some a.2:= λa ha=>BK ha
  have p1:=KG (λa:Nat×Nat×AV×OB=>a.1) b1
  have p2:=KG (λa:Nat×Nat×AV×OB=>a.2.1) b2
  have hlen:(aq T ops L0).length<=n:=Nat.le_of_ble_eq_true b4
  obtain ⟨w1,h1,h2,h3⟩:=gf _ hw h
  have h3:=Oi.1 h3
  obtain ⟨w0,g1,g2⟩:=bA _ _ h2 h3
  obtain ⟨g3,g4⟩:=Oi.1 g2
  have hp:=LI (Γ:=Γ) _ w.st w1.st (λa ha=>(hm a ha).2) (λa ha=>w8 (Bc.1 b3 a ha)) p2 h1
  refine .inl (kS (λs hs=>?_) _ _ _ (WW (λa ha=>(hm a ha).2) n (n-(aq T ops L0).length) (aq T ops L0) _ L0 w1.st w.st (by omega) (rG _ _ h2 g4) hp
   (Agq (ops:=ops) λi hi=>by obtain ⟨a,ha,rfl⟩:=Bi.1 hi;exact (hm a ha).1) (λa ha=>ha) (p2.and p1) hc λa ha x hx=>dG (hm a ha).1 hx))
  obtain ⟨w',h5,_,h6⟩:=hs
  exact ⟨w0,((h5.symm.trans (eN h6)).symm),g1,g3⟩
 ·exact .inr (ED hw h)
theorem mq {ops:Array Oper} {draw:Bool} {w:WS} (hw:w.OK) {K:WS->Prop} (h:ub T Γ ops draw w K):lP T Γ ops draw w.st (λs=> ∃w':WS,w'.st=s/\w'.OK/\K w'):=by
 unfold ub at h
 split at h
 ·split at h
  ·rename_i ho
   obtain ⟨w1,h1,h2,h3⟩:=Nx _ hw h
   obtain ⟨w2,h4,h5⟩:=gf _ h2 h3
   exact .inl ⟨w2.st,by simp only [Sf,Pv];rw [Ab ho,h1];exact h4,w2,rfl,h5⟩
  ·rename_i ho
   split at h
   ·rename_i ho2
    obtain ⟨w1,h1,h2,h3⟩:=Nx _ hw h
    obtain ⟨w2,h4,h5⟩:=gf _ h2 h3
    exact .inl ⟨w2.st,by simp only [Sf,Pv];rw [Ag (by rw [ho];decide),Ab ho2,h1];exact h4,w2,rfl,h5⟩
   ·split at h
    ·rename_i hc
     simp only [Af] at hc
     obtain ⟨w1,h1,h2,h3⟩:=Nx _ hw h
     split at h3
     ·exact .inr ⟨rfl,hc.1,w1.st,h1, .inl (mQ _ _ h2 h3)⟩
     ·obtain ⟨w0,g1,g2⟩:=bA _ _ h2 h3
      obtain ⟨g3,g4⟩:=Oi.1 g2
      exact .inr ⟨rfl,hc.1,w1.st,h1, .inl (kS (λs hs=>by
       obtain ⟨w',h5,_,h6⟩:=hs
       exact ⟨w0,((h5.symm.trans (eN h6)).symm),g1,g3⟩) _ _ _ (mQ _ _ h2 g4))⟩
    ·split at h
     ·rename_i VI
      obtain ⟨w1,h1,h2,h3⟩:=Nx _ hw h
      exact .inr ⟨rfl,VI,w1.st,h1,xI h2 (bw _ _ _ rK) h3⟩
     ·cases h
 ·obtain ⟨w1,h1,h2⟩:=wb _ hw h
  exact .inl ⟨w1.st,by simp only [Sf];rw [Ag (by simp)];exact h1,w1,rfl,h2⟩
theorem yu {ops:Array Oper} {draw:Bool} {w:WS} (hw:w.OK) {K:WS->Prop} (h:EG T Γ ops draw w K):BE T Γ ops draw w.st (λs=> ∃w':WS,w'.st=s/\w'.OK/\K w'):=by
 unfold EG at h
 split at h
 ·rename_i hb
  have b3:=(Dz.1 hb).2
  refine .inr ⟨xt ops,b3,?_⟩
  split at h
  ·rename_i hc
   simp only [Af,Ae5] at hc
   obtain ⟨w1,h1,h2,h3⟩:=Nx _ hw h
   exact .inr ⟨hc.1,hc.2.2.1,w1.st,h1, .inr (KK b3 h2 h3)⟩
  ·exact (mq hw h).mono λs ⟨w',h1,h2,h3⟩=>⟨w'.Qz (xt ops),by rw [<-h1];rfl,h2.Qz _,h3⟩
 ·exact .inl (mq hw h)
end
end Go.Proofs.YtfgfigkbgecfnaaGreat
