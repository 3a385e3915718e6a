/-
  Part 33 of the proof that the statement FnExactBoundGap holds.
-/
import Derived.Test.YtfolipnappekaaaGreatCBoundGap31
namespace Go.Proofs.YtfolipnappekaaaGreat
open Go.RowKit
section
variable {T:Tab} {Γ:Env}
def WS.OK (w:WS):Prop:= ∀t b,ri w.kn t=some b-> ∃fr,w.st.get t= .at (.data fr .bool b)
theorem gW: ∀(l:List (Nat×Bool)) (d t:Nat) (b:Bool),ri (tn l d) t=some b->t≠d/\ri l t=some b
 | [],_,_,_,h=>by cases h
 |(k,c)::r,d,t,b,h=>by
  simp only [tn] at h
  split at h
  ·rename_i hk
   have:=gW r d t b h
   refine ⟨this.1,?_⟩
   simp only [ri]
   rw [if_neg (by rw [hk];exact λh=>this.1 h.symm)]
   exact this.2
  ·rename_i hk
   simp only [ri] at h⊢
   split at h
   ·rename_i TR
    exact ⟨by rw [<-TR];exact hk,by rw [if_pos TR];exact h⟩
   ·rename_i TR
    rw [if_neg TR]
    exact gW r d t b h
theorem WS.OK.put {w:WS} (h:w.OK) (dst:Option Tmp) (v:AV):(w.put dst v).OK:=by
 cases dst with
 |none=>exact h
 |some d=>
  intro t b hb
  obtain ⟨h1,h2⟩:=gW _ _ _ _ hb
  obtain ⟨fr,h3⟩:=h t b h2
  exact ⟨fr,by show (w.st.put (some d) v).get t=_;rw [Wl _ _ h1];exact h3⟩
theorem WS.pD (w:WS) (dst:Option Tmp) (v:AV):(w.put dst v).st=w.st.put dst v:=by cases dst<;>rfl
theorem WS.OK.to {w:WS} (h:w.OK) {s:St} (hs:Ay w.st s):(w.to s).OK:=by
 intro t b hb
 obtain ⟨fr,h3⟩:=h t b hb
 exact ⟨fr,hs t fr _ _ h3⟩
theorem sI {w:WS} (hw:w.OK) {t:Nat} {K:Bool->WS->Prop} (h:brT w t K):
  ∃fr b w',w.st.get t= .at (.data fr .bool b)/\w'.st=w.st/\w'.OK/\K b w':=by
 unfold brT at h
 split at h
 ·rename_i b hb
  obtain ⟨fr,h1⟩:=hw t b hb
  exact ⟨fr,b,w,h1,rfl,hw,h⟩
 ·split at h
  ·rename_i fr b hb
   obtain ⟨h1,h2⟩:=h
   have ok: ∀c:Bool,b=c->WS.OK {kn:=(t,c)::w.kn,st:=w.st} :=by
    intro c hc t' b' h'
    simp only [ri] at h'
    split at h'
    ·rename_i ht
     injection h' with h'
     exact ⟨fr,by rw [<-ht,<-h',<-hc];exact hb⟩
    ·exact hw t' b' h'
   cases b with
   |true=>exact ⟨fr,true, {kn:=(t,true)::w.kn,st:=w.st},hb,rfl,ok true rfl,h1 rfl⟩
   |false=>exact ⟨fr,false, {kn:=(t,false)::w.kn,st:=w.st},hb,rfl,ok false rfl,h2 rfl⟩
  ·cases h
theorem sH {w:WS} (hw:w.OK) {c:Operand} {K:Bool->WS->Prop} (h:brO w c K):
  ∃fr b w',w.st.ev c= .at (.data fr .bool b)/\w'.st=w.st/\w'.OK/\K b w':=by
 unfold brO at h
 split at h
 ·exact sI hw h
 ·exact ⟨true,_,w,rfl,rfl,hw,h⟩
 ·cases h
theorem AU {op:BinOp} {t:TypeId} {x y:AV} {K:AV->Prop} (h:ZJ T op t x y K): ∃v,Ob T op t x y=some v/\K v:=by
 unfold ZJ at h
 split at h
 ·split at h
  ·rename_i hk
   exact ⟨_,by simp only [Ob,evalBin,oR];rw [if_pos hk,if_neg h.1];rfl,h.2⟩
  ·cases h
 ·split at h
  ·rename_i hk
   exact ⟨_,by simp only [Ob,evalBin,oR];rw [if_pos hk,if_neg h.1];rfl,h.2⟩
  ·cases h
 ·exact ⟨_,by simp only [Ob,evalBin];rw [if_neg h.1];rfl,h.2⟩
 ·exact ⟨_,by simp only [Ob,evalBin];rw [if_neg h.1];rfl,h.2⟩
 ·exact ⟨_,by simp only [Ob,evalBin];rw [if_pos h.1],h.2⟩
 ·exact At.1 h
theorem yF {st:St} {t:TypeId} {p:AV} {K:AV->Prop} (h:QC T st t p K): ∃v,Kz T st t p=some v/\K v:=by
 unfold QC at h
 split at h
 ·obtain ⟨τ,h1,h2⟩:=At.1 h
  split at h2
  ·rename_i hb
   split at h2
   ·rename_i he
    obtain ⟨x,h3,h4⟩:=h2
    exact ⟨_,by simp only [Kz,h1,hb,if_pos he,h3];rfl,h4⟩
   ·cases h2
  ·rename_i hb
   split at h2
   ·rename_i he
    obtain ⟨x,h3,h4⟩:=h2
    exact ⟨_,by simp only [Kz,h1,hb,if_pos he,h3];rfl,h4⟩
   ·cases h2
  ·rename_i hb
   split at h2
   ·cases h2
   ·rename_i he
    exact ⟨_,by simp only [Kz,h1,hb,if_neg he],h2⟩
  ·cases h2
 ·obtain ⟨τ,h1,h2⟩:=At.1 h
  split at h2
  ·rename_i he
   obtain ⟨y,h3,h4⟩:=h2
   subst h3
   exact ⟨_,by simp only [Kz,h1,if_pos he],h4⟩
  ·cases h2
 ·exact At.1 h
theorem kr {s:TypeId} {x:AV} {f:Nat} {K:AV->Prop} (h:gK T s x f K): ∃v,Je T s x f=some v/\K v:=by
 unfold gK at h
 split at h
 ·obtain ⟨y,h1,h2⟩:=h
  subst h1
  obtain ⟨v,h3,h4⟩:=At.1 h2
  refine ⟨v,?_,h4⟩
  rw [<-h3]
  unfold Je
  cases T.off s f<;>rfl
 ·exact At.1 h
theorem wg {st:St} {t:TypeId} {x:AV} {lo hi:Option AV} {K:AV->Prop} (h:EK T st t x lo hi K): ∃v,Zw T st t x lo hi=some v/\K v:=by
 unfold EK at h
 obtain ⟨n,h1,h⟩:=At.1 h
 obtain ⟨l,h2,h⟩:=At.1 h
 obtain ⟨hh,h3,hc,h⟩:=At.1 h
 obtain ⟨v,h4,h5⟩:=At.1 h
 refine ⟨v,?_,h5⟩
 simp only [Zw,h1,h2,h3,if_pos hc]
 exact h4
theorem kF {st:St} {t:TypeId} {x i:AV} {K:AV->Prop} (h:gT T st t x i K): ∃v,Gp T st t x i=some v/\K v:=by
 unfold gT at h
 split at h
 ·split at h
  ·rename_i he
   obtain ⟨x,h3,h4⟩:=h
   exact ⟨_,by simp only [Gp,if_pos he,h3];rfl,h4⟩
  ·cases h
 ·split at h
  ·rename_i hb
   split at h
   ·rename_i he
    obtain ⟨h3,h4⟩:=h
    exact ⟨_,by simp only [Gp,hb];rw [if_pos ⟨he.1,he.2,Oi.2 h3⟩],h4⟩
   ·cases h
  ·rename_i hb
   split at h
   ·rename_i he
    obtain ⟨h3,h4⟩:=h
    exact ⟨_,by simp only [Gp,hb];rw [if_pos ⟨he.1,he.2,Oi.2 h3⟩],h4⟩
   ·cases h
  ·rename_i hb
   split at h
   ·rename_i he
    obtain ⟨h3,h4⟩:=h
    exact ⟨_,by simp only [Gp,hb];rw [if_pos ⟨he.1,he.2,Oi.2 h3⟩],h4⟩
   ·cases h
  ·cases h
 ·split at h
  ·rename_i hb
   split at h
   ·rename_i he
    obtain ⟨h3,h4⟩:=h
    exact ⟨_,by simp only [Gp,hb];rw [if_pos ⟨he,Oi.2 h3⟩],h4⟩
   ·cases h
  ·cases h
 ·cases h
theorem uZ {t:TypeId} {x i:AV} {K:AV->Prop} (h:CG T t x i K): ∃v,ez T t x i=some v/\K v:=by
 unfold CG at h
 split at h
 ·split at h
  ·rename_i he
   obtain ⟨h1,b,h3,h4⟩:=h
   exact ⟨_,by simp only [ez,if_pos he,if_pos h1,h3];rfl,h4⟩
  ·cases h
 ·cases h
theorem Xp {st:St} {f:FuncId} {args:List AV} {K:AV->Prop} (h:sJ Γ st f args K): ∃v,Ju Γ st f args=some v/\K v:=by
 unfold sJ at h
 obtain ⟨s,h1,h⟩:=At.1 h
 have h1:Γ f=some (.q s):=by
  split at h1
  ·rename_i s' hs;injection h1 with h1;rw [hs,h1]
  ·cases h1
 split at h
 ·rename_i hf
  obtain ⟨p,h2,y,h3,h4⟩:=At.1 h
  refine ⟨_,?_,h4⟩
  simp only [Ju,h1]
  rw [if_pos hf,h2]
  simp only [h3]
  rfl
 ·cases h
theorem uy {st:St} {v:AV} {args:List AV} {K:AV->Prop} (h:AZ Γ st v args K): ∃u,Rv Γ st v args=some u/\K u:=by
 unfold AZ at h
 split at h
 ·split at h
  ·rename_i hc
   split at h
   ·rename_i hf
    obtain ⟨u,h1,h2⟩:=Xp h
    exact ⟨u,by simp only [Rv];rw [if_pos hc,if_pos (by simpa using hf)];exact h1,h2⟩
   ·rename_i hf
    obtain ⟨u,h1,h2⟩:=Xp h
    exact ⟨u,by simp only [Rv];rw [if_pos hc,if_neg (λhx=>by rw [show Nat.blt _ 1000000000=true from by simpa using hx] at hf;cases hf)];exact h1,h2⟩
  ·cases h
 ·exact Xp h
 ·cases h
theorem Kk {w:WS} (hw:w.OK) {x:Operand} {b:Bool} (hk:Qr w.kn x=some b): ∃fr,w.st.ev x= .at (.data fr .bool b):=by
 unfold Qr at hk
 split at hk
 ·injection hk with hk;subst hk;exact ⟨true,rfl⟩
 ·exact hw _ _ hk
 ·cases hk
theorem rq {w:WS} (hw:w.OK) {o:Oper} {b:Bool} (hk:Dw w.kn o=some b) {v:AV} (he:Cq T Γ w.st o=some v): ∃fr,v= .at (.data fr .bool b):=by
 unfold Dw at hk
 split at hk
 ·rename_i heq;unfold Cq at he;rw [heq] at he;injection he with he;obtain ⟨fr,h⟩:=Kk hw hk;exact ⟨fr,he.symm.trans h⟩
 ·rename_i heq;unfold Cq at he;rw [heq] at he;injection he with he;obtain ⟨fr,h⟩:=Kk hw hk;exact ⟨fr,he.symm.trans h⟩
 ·rename_i x heq
  cases hx:Qr w.kn x with
  |none=>rw [hx] at hk;cases hk
  |some c=>
   rw [hx] at hk
   injection hk with hk
   obtain ⟨fr,h⟩:=Kk hw hx
   unfold Cq at he;rw [heq] at he
   simp only [h,uJ,Kd] at he
   injection he with he
   exact ⟨true,by rw [<-he,<-hk]⟩
 ·rename_i c x y heq
  unfold Cq at he;rw [heq] at he
  split at hk
  ·rename_i hc
   obtain ⟨fr,h⟩:=Kk hw hc
   simp only [h,Zv,if_true] at he
   injection he with he
   obtain ⟨fr,h⟩:=Kk hw hk
   exact ⟨fr,he.symm.trans h⟩
  ·rename_i hc
   obtain ⟨fr,h⟩:=Kk hw hc
   simp only [h,Zv,Bool.false_eq_true,if_false] at he
   injection he with he
   obtain ⟨fr,h⟩:=Kk hw hk
   exact ⟨fr,he.symm.trans h⟩
  ·cases hk
 ·cases hk
theorem pj {w:WS} (hw:w.OK) {o:Oper} {x:Operand} (ho:o.op= .assign x) {b:Bool} (hk:Dw w.kn o=some b) {v:AV} {s:St} (he:evalOp T Γ w.st o=some (v,s)): ∃fr,v= .at (.data fr .bool b):=by
 unfold Dw at hk
 rw [ho] at hk
 obtain ⟨fr,h⟩:=Kk hw hk
 unfold evalOp at he;rw [ho] at he
 simp only [h] at he
 injection he with he;injection he with he;exact ⟨fr,he.symm⟩
theorem dL {w:WS} (hw:w.OK) {o:Oper} {K:AV->WS->Prop} (h:qW T Γ w o K):
  ∃v w',Cq T Γ w.st o=some v/\w'.st=w.st/\w'.OK/\(∀b,Dw w'.kn o=some b-> ∃fr,v= .at (.data fr .bool b))/\K v w':=by
 have fin:(∃v w',Cq T Γ w.st o=some v/\w'.st=w.st/\w'.OK/\K v w')-> ∃v w',Cq T Γ w.st o=some v/\w'.st=w.st/\w'.OK/\(∀b,Dw w'.kn o=some b-> ∃fr,v= .at (.data fr .bool b))/\K v w':=by
  rintro ⟨v,w',h1,h2,h3,h4⟩
  exact ⟨v,w',h1,h2,h3,λb hb=>rq h3 hb (by rw [h2];exact h1),h4⟩
 refine fin ?_
 unfold qW at h
 split at h
 ·rename_i c a b heq
  obtain ⟨fr,t,w',h1,h2,h3,h4⟩:=sH hw h
  cases t with
  |true=>exact ⟨_,w',by unfold Cq;rw [heq];simp only [h1,Zv,if_true];rw [<-h2],h2,h3,h4⟩
  |false=>exact ⟨_,w',by unfold Cq;rw [heq];simp only [h1,Zv];rw [<-h2];simp,h2,h3,h4⟩
 ·rename_i heq
  obtain ⟨v,h1,h2⟩:=yF h
  exact ⟨v,w,by unfold Cq;rw [heq];exact h1,rfl,hw,h2⟩
 ·rename_i heq
  obtain ⟨v,h1,h2⟩:=AU h
  exact ⟨v,w,by unfold Cq;rw [heq];exact h1,rfl,hw,h2⟩
 ·rename_i heq
  split at h
  ·obtain ⟨v,h1,h2⟩:=wg h
   exact ⟨v,w,by unfold Cq;rw [heq];simpa using h1,rfl,hw,h2⟩
  ·cases h
 ·rename_i heq
  obtain ⟨v,h1,h2⟩:=kF h
  exact ⟨v,w,by unfold Cq;rw [heq];exact h1,rfl,hw,h2⟩
 ·rename_i heq
  obtain ⟨v,h1,h2⟩:=uZ h
  exact ⟨v,w,by unfold Cq;rw [heq];exact h1,rfl,hw,h2⟩
 ·rename_i heq
  obtain ⟨v,h1,h2⟩:=Xp h
  exact ⟨v,w,by unfold Cq;rw [heq];exact h1,rfl,hw,h2⟩
 ·rename_i heq
  obtain ⟨v,h1,h2⟩:=uy h
  exact ⟨v,w,by unfold Cq;rw [heq];exact h1,rfl,hw,h2⟩
 ·rename_i heq
  obtain ⟨v,h1,h2⟩:=kr h
  exact ⟨v,w,by unfold Cq;rw [heq];exact h1,rfl,hw,h2⟩
 ·rename_i x heq
  unfold tC at h
  split at h
  ·rename_i fr τ z hx
   obtain ⟨y,h1,h2⟩:=h
   subst h1
   exact ⟨_,w,by unfold Cq;rw [heq];simp only [hx],rfl,hw,h2⟩
  ·obtain ⟨v,h1,h2⟩:=At.1 h
   exact ⟨v,w,h1,rfl,hw,h2⟩
 ·obtain ⟨v,h1,h2⟩:=At.1 h
  exact ⟨v,w,h1,rfl,hw,h2⟩
theorem wB {st:St} {t:TypeId} {p v:AV} {K:St->Prop} (h:FC T st t p v K): ∃s,Ph T st t p v=some s/\K s:=by
 unfold FC at h
 split at h
 ·obtain ⟨τ,h1,h⟩:=At.1 h
  obtain ⟨q,h2,h⟩:=At.1 h
  split at h
  ·rename_i hb
   obtain ⟨u,h3,h⟩:=At.1 h
   split at h
   ·rename_i hc
    obtain ⟨h4,h5⟩:=h
    obtain ⟨q1,q2⟩:=q
    obtain ⟨u1,u2⟩:=u
    exact ⟨_,by simp only [Ph,h1,h2,hb,h3];rw [dif_pos hc,if_pos h4],h5⟩
   ·cases h
  ·cases h
 ·exact At.1 h
theorem sf {st:St} {t:TypeId} {p v:AV} {K:St->Prop} (h:wx T st t p v K): ∃s,Ko T st t p v=some s/\K s:=by
 unfold wx at h
 unfold Ko
 split at h
 rotate_left
 ·rename_i hg;rw [hg];exact wB h
 rename_i hg
 rw [hg]
 simp only
 unfold HT at h
 split at h
 ·obtain ⟨τ,h1,h⟩:=At.1 h
  obtain ⟨q,h2,h⟩:=At.1 h
  split at h
  ·rename_i hb
   obtain ⟨u,h3,h⟩:=At.1 h
   split at h
   ·rename_i hc
    obtain ⟨q1,q2⟩:=q
    obtain ⟨u1,u2⟩:=u
    exact ⟨_,by simp only [Wj,h1,h2,hb,h3];rw [dif_pos hc],h⟩
   ·cases h
  ·cases h
 ·rename_i l j
  obtain ⟨τ,h1,h⟩:=At.1 h
  split at h
  ·rename_i e te rows out kp m off len hl _
   split at h
   ·rename_i fr tr e' tid xs hm
    split at h
    ·rename_i hc
     obtain ⟨h2,h3,h4,h5⟩:=h
     have h4:out=none\/out=some j:=by
      cases out with
      |none=>exact .inl rfl
      |some i=>exact .inr (congrArg some h4)
     exact ⟨_,by simp only [Wj,h1,hl,hm];rw [dif_pos ⟨hc.1,hc.2,h2,h3,h4⟩],h5⟩
    ·cases h
   ·cases h
  ·cases h
 ·cases h
theorem Sv {st:St} {d:Nat} {t:TypeId} {x y:Operand} {K:AV->St->Prop} (h:iB T st d t x y K): ∃v s,Jd T st d t x y=some (v,s)/\K v s:=by
 unfold iB at h
 obtain ⟨te,h1,h⟩:=At.1 h
 obtain ⟨e,h2,h⟩:=At.1 h
 obtain ⟨q,h3,h⟩:=At.1 h
 obtain ⟨u,h4,h⟩:=At.1 h
 obtain ⟨q1,q2⟩:=q
 obtain ⟨u1,u2⟩:=u
 split at h
 ·rename_i hx
  split at h
  ·rename_i hd
   obtain ⟨h5,h6⟩:=h
   refine ⟨_,_,?_,h6⟩
   simp only [Jd,h1,h2,h3,h4]
   rw [hx]
   simp only
   rw [if_pos ⟨h5,by simpa [Nat.blt_eq] using hd⟩]
   simp
  ·cases h
 ·rename_i l off len hx
  split at h
  ·rename_i fr tr e' tid xs hb
   split at h
   ·rename_i hc
    obtain ⟨h5,h6,h7,h8⟩:=h
    refine ⟨_,_,?_,h8⟩
    simp only [Jd,h1,h2,h3,h4]
    rw [hx]
    simp only [hb]
    rw [dif_pos ⟨hc.1,hc.2.1⟩,if_pos ⟨h7,by simpa [Nat.blt_eq] using hc.2.2⟩]
    obtain ⟨UR,hc2,XO⟩:=hc
    subst UR
    subst h5
    simp only [List.drop_zero,h6,List.take_length,List.length_append]
   ·cases h
  ·cases h
 ·cases h
theorem nU {st:St} {d:Nat} {t:TypeId} {x y:Operand} {K:AV->St->Prop} (h:nT T st d t x y K): ∃v s,Lz T st d t x y=some (v,s)/\K v s:=by
 unfold nT at h
 cases x with
 |tmp tx=>
  simp only at h
  unfold Lz
  simp only
  cases hg:st.get tx with
  | «at»c=>
   rw [hg] at h
   cases c with
   |sub l i c=>
    simp only at h⊢
    obtain ⟨tid,h1,h⟩:=At.1 h
    split at h
    ·rename_i hl
     split at h
     ·rename_i hc
      obtain ⟨v,s,h2,h3⟩:=Sv h
      refine ⟨v,s,?_,h3⟩
      simp only [hl,h1]
      rw [if_pos hc]
      exact h2
     ·cases h
    ·cases h
   |_=>exact Sv h
  |_=>rw [hg] at h;exact Sv h
 |_=>exact Sv h
theorem yJ {st:St} {d:Nat} {t:TypeId} {l c:AV} {K:AV->St->Prop} (h:QJ T st d t l c K): ∃v s,Wg T st d t l c=some (v,s)/\K v s:=by
 unfold QJ at h
 split at h
 ·obtain ⟨te,h1,h⟩:=At.1 h
  obtain ⟨e,h2,h⟩:=At.1 h
  split at h
  ·rename_i hz
   obtain ⟨h3,h4,h5⟩:=h
   refine ⟨_,_,?_,h5⟩
   simp only [Bool.and_eq_true] at hz
   simp only [Wg,h1,h2]
   rw [if_pos ⟨Oi.2 (by exact_mod_cast h3),h4,hz.1,by simpa [Nat.blt_eq] using hz.2⟩]
   simp
  ·cases h
 ·cases h
theorem vF {st:St} {d:Nat} {t:TypeId} {l c:AV} {K:AV->St->Prop} (h:CW T st d t l c K): ∃v s,Rw T st d t l c=some (v,s)/\K v s:=by
 unfold CW at h
 unfold Rw
 cases hg:Zz T t with
 |none=>rw [hg] at h;exact yJ h
 |some p=>
  obtain ⟨te,e⟩:=p
  rw [hg] at h
  simp only at h⊢
  split at h
  ·split at h
   ·rename_i hd
    obtain ⟨h3,h4,h5⟩:=h
    refine ⟨_,_,?_,h5⟩
    simp only
    rw [if_pos ⟨Oi.2 (by exact_mod_cast h3),h4,by simpa [Nat.blt_eq] using hd⟩]
    simp
   ·cases h
  ·cases h
theorem gH {st:St} {d:Nat} {t:TypeId} {len:Nat} {parts:Array (Nat×Operand)} {K:AV->St->Prop} (h:aP T st d t len parts K): ∃v s,Ey T st d t len parts=some (v,s)/\K v s:=by
 unfold aP at h
 unfold Ey
 cases hg:Zz T t with
 |none=>
  rw [hg] at h
  obtain ⟨r,h1,h2⟩:=At.1 h
  exact ⟨r.1,r.2,h1,h2⟩
 |some p=>
  obtain ⟨te,e⟩:=p
  rw [hg] at h
  simp only at h⊢
  split at h
  ·rename_i x hp
   split at h
   ·rename_i m off ln hx
    split at h
    ·rename_i hm
     split at h
     ·rename_i hc
      obtain ⟨h1,h2,h3⟩:=h
      refine ⟨_,_,?_,h3⟩
      simp only [hp,hx,hm]
      rw [dif_pos ⟨hc.1,hc.2,h1,h2⟩]
     ·cases h
    ·cases h
   ·cases h
  ·cases h
theorem nW {st:St} {d:Nat} {t:TypeId} {x y:Operand} {K:AV->St->Prop} (h:nV T st d t x y K): ∃v s,Ma T st d t x y=some (v,s)/\K v s:=by
 unfold nV at h
 unfold Ma
 cases hg:Zz T t with
 |none=>rw [hg] at h;exact nU h
 |some p=>
  obtain ⟨te,e⟩:=p
  rw [hg] at h
  simp only at h⊢
  split at h
  ·rename_i l off len m QR oX hx hy
   split at h
   ·rename_i hl hm
    split at h
    ·rename_i hc
     obtain ⟨h1,h2,h3,h4,h5⟩:=h
     obtain ⟨⟨rfl,rfl⟩,hc⟩:=hc
     refine ⟨_,_,?_,h5⟩
     simp only [hx,hy,hl,hm]
     rw [dif_pos (⟨⟨trivial,trivial⟩,hc,h1,h2,h3,h4⟩)]
     simp
    ·cases h
   ·cases h
  ·cases h
theorem wG {st:St} {io:Bool} {k:Nat} {c:CK} {a:AC} {K:c.den->List (Nat×Loc)->Prop} (h:bJ st io k c a K): ∃x t,Hr st io k c a=some (x,t)/\K x t:=by
 cases c with
 |Er τ=>
  cases a with
  |own l off len=>
   obtain ⟨p,h1,h2⟩:=At.1 h
   exact ⟨_,_,by simp only [Hr];rw [h1];rfl,h2⟩
  |clo g Bz=>
   simp only [bJ] at h
   split at h
   ·rename_i hc
    obtain ⟨p,h1,h2⟩:=At.1 h
    exact ⟨_,_,by simp only [Hr];rw [if_pos hc,h1];rfl,h2⟩
   ·cases h
  |Ea l i=>
   simp only [bJ] at h
   split at h
   ·rename_i hc
    obtain ⟨p,h1,h2⟩:=At.1 h
    exact ⟨_,_,by simp only [Hr];rw [if_pos hc,h1];rfl,h2⟩
   ·cases h
  |sub l i c=>
   obtain ⟨p,h1,h2⟩:=At.1 h
   exact ⟨_,_,by simp only [Hr];rw [h1];rfl,h2⟩
  |_=>
   simp only [bJ] at h
   split at h
   ·rename_i hc
    obtain ⟨p,h1,h2⟩:=At.1 h
    exact ⟨_,_,by simp only [Hr];rw [if_pos hc,h1];rfl,h2⟩
   ·cases h
 |row e te=>
  cases a<;>simp only [bJ] at h<;>first|(cases h;done)|skip
  ·exact ⟨_,_,rfl,h⟩
  ·split at h
   ·rename_i hl
    split at h
    ·rename_i hc
     obtain ⟨h1,h2,h3⟩:=h
     exact ⟨_,_,by simp only [Hr,hl];rw [dif_pos ⟨hc.1,hc.2,h1,h2⟩],h3⟩
    ·cases h
   ·cases h
  ·split at h
   ·rename_i hl
    split at h
    ·rename_i hc
     obtain ⟨y,h1,h2⟩:=h
     exact ⟨_,_,by simp only [Hr,hl];rw [dif_pos hc,h1];rfl,h2⟩
    ·cases h
   ·cases h
 |Eb e te=>
  cases a<;>simp only [bJ] at h<;>first|(cases h;done)|skip
  ·exact ⟨_,_,rfl,h⟩
  ·split at h
   ·rename_i hl
    split at h
    ·rename_i hc
     obtain ⟨h1,h2,h3⟩:=h
     exact ⟨_,_,by simp only [Hr,hl];rw [dif_pos ⟨hc.1,hc.2,h1,h2⟩],h3⟩
    ·cases h
   ·cases h
  ·split at h
   ·rename_i hl
    split at h
    ·rename_i hc
     obtain ⟨y,h1,h2⟩:=h
     exact ⟨_,_,by simp only [Hr,hl];rw [dif_pos hc,h1];rfl,h2⟩
    ·cases h
   ·cases h
 |part e te=>
  cases a<;>simp only [bJ] at h<;>first|(cases h;done)|skip
  split at h
  ·rename_i hl
   split at h
   ·rename_i hc
    exact ⟨_,_,by simp only [Hr,hl];rw [dif_pos hc],h⟩
   ·cases h
  ·cases h
 |Ak e te kp=>
  cases a<;>simp only [bJ] at h<;>first|(cases h;done)|skip
  split at h
  ·rename_i hl
   split at h
   ·rename_i hc
    obtain ⟨h1,h2,h3⟩:=h
    exact ⟨_,_,by simp only [Hr,hl];rw [dif_pos ⟨hc.1,hc.2.1,h1,h2,hc.2.2⟩],h3⟩
   ·cases h
  ·cases h
theorem zi {st:St} {e:Ty} {ys:List e.den} {a:AC} {K:St->Prop} (h:RK st e ys a K): ∃s,DX st e ys a=some s/\K s:=by
 cases a<;>simp only [RK] at h<;>first|(cases h;done)|skip
 split at h
 ·rename_i hl
  split at h
  ·rename_i hc
   obtain ⟨h1,h3⟩:=h
   exact ⟨_,by simp only [DX,hl];rw [dif_pos ⟨hc,h1⟩],h3⟩
  ·cases h
 ·cases h
theorem gi {st:St} : ∀(cs:List (Bool×CK)) (k:Nat) (as:List AC) (K:Ins.den cs->List (Nat×Loc)->Prop),wH st k cs as K-> ∃x t,bK st k cs as=some (x,t)/\K x t
 | [],_,[],_,h=>⟨_,_,rfl,h⟩
 | [],_,_::_,_,h=>h.elim
 |_::_,_,[],_,h=>h.elim
 |p::r,k,a::as,K,h=>by
  obtain ⟨x,t1,h1,h2⟩:=wG h
  obtain ⟨y,t2,h3,h4⟩:=gi r (k+1) as _ h2
  exact ⟨_,_,by simp only [bK,h1,h3],h4⟩
theorem mh {st:St} {c:CK} {ys:c.den} {a:AC} {K:St->Prop} (h:mg st c ys a K): ∃s,Xn st c ys a=some s/\K s:=by
 cases c with
 |Er τ=>cases a<;>simp only [mg] at h<;>first|(cases h;done)|exact ⟨_,rfl,h⟩
 |row e te=>
  cases a<;>simp only [mg] at h<;>first|(cases h;done)|skip
  ·exact ⟨_,rfl,h⟩
  ·split at h
   ·rename_i hl
    split at h
    ·rename_i hc
     obtain ⟨h1,h3⟩:=h
     exact ⟨_,by simp only [Xn,hl];rw [dif_pos ⟨hc,h1⟩],h3⟩
    ·cases h
   ·cases h
  ·split at h
   ·rename_i hl
    split at h
    ·rename_i hc
     obtain ⟨y,h1,h2,h3⟩:=h
     exact ⟨_,by simp only [Xn,hl,dif_pos hc,h1];rw [if_pos h2],h3⟩
    ·cases h
   ·cases h
 |Eb e te=>
  cases a<;>simp only [mg] at h<;>first|(cases h;done)|skip
  ·exact ⟨_,rfl,h⟩
  ·split at h
   ·rename_i hl
    split at h
    ·rename_i hc
     obtain ⟨h1,h3⟩:=h
     exact ⟨_,by simp only [Xn,hl];rw [dif_pos ⟨hc,h1⟩],h3⟩
    ·cases h
   ·cases h
  ·split at h
   ·rename_i hl
    split at h
    ·rename_i hc
     obtain ⟨y,h1,h2,h3⟩:=h
     exact ⟨_,by simp only [Xn,hl,dif_pos hc,h1];rw [if_pos h2],h3⟩
    ·cases h
   ·cases h
 |part e te=>cases a<;>simp only [mg] at h<;>first|(cases h;done)|exact ⟨_,rfl,h⟩
 |Ak e te kp=>cases a<;>simp only [mg] at h<;>first|(cases h;done)|exact ⟨_,rfl,h⟩
theorem Kt: ∀(cs:List (Bool×CK)) (o:IOs.den cs) (as:List AC) (st:St) (K:St->Prop),dK cs o as st K-> ∃s,Em cs o as st=some s/\K s
 | [],_,_,st,K,h=>⟨st,rfl,h⟩
 |(true, .Er _)::r,o,[],st,K,h=>h.elim
 |(true, .row _ _)::r,o,[],st,K,h=>h.elim
 |(true, .Eb _ _)::r,o,[],st,K,h=>h.elim
 |(true, .part _ _)::r,o,[],st,K,h=>h.elim
 |(true, .Ak _ _ _)::r,o,[],st,K,h=>h.elim
 |(true, .Ak _ _ _)::r,o,a::as,st,K,h=>by
  obtain ⟨s,h1,h2⟩:=Kt r o as st K h
  exact ⟨s,by simp only [Em];exact h1,h2⟩
 |(false,_)::r,o,[],st,K,h=>h.elim
 |(true, .Er _)::r,o,a::as,st,K,h=>by
  obtain ⟨s,h1,h2⟩:=Kt r o as st K h
  exact ⟨s,by simp only [Em];exact h1,h2⟩
 |(false,_)::r,o,a::as,st,K,h=>by
  obtain ⟨s,h1,h2⟩:=Kt r o as st K h
  exact ⟨s,by simp only [Em];exact h1,h2⟩
 |(true, .row _ _)::r,o,a::as,st,K,h=>by
  obtain ⟨s1,h1,h2⟩:=mh h
  obtain ⟨s,h3,h4⟩:=Kt r o.2 as s1 K h2
  exact ⟨s,by simp only [Em,h1];exact h3,h4⟩
 |(true, .part _ _)::r,o,a::as,st,K,h=>by
  obtain ⟨s1,h1,h2⟩:=zi h
  obtain ⟨s,h3,h4⟩:=Kt r o.2 as s1 K h2
  exact ⟨s,by simp only [Em,h1];exact h3,h4⟩
 |(true, .Eb _ _)::r,o,a::as,st,K,h=>by
  obtain ⟨s1,h1,h2⟩:=mh h
  obtain ⟨s,h3,h4⟩:=Kt r o.2 as s1 K h2
  exact ⟨s,by simp only [Em,h1];exact h3,h4⟩
theorem mz {H:List (Nat×OB)} {ls:List Nat} {n:Nat} {K:Prop} : ∀(l:List AV),qj H ls n l K->Zh H ls n l=true/\K
 | [],h=>⟨rfl,h⟩
 |a::r,h=>by
  have go:qj H ls n r K->Zh H ls n r=true/\K:=mz r
  cases a with
  | «at»c=>
   cases c with
   |sub l i c=>
    simp only [qj] at h
    simp only [Zh]
    split at h
    ·rename_i hc
     obtain ⟨⟨h1,h2⟩,h3⟩:=h
     obtain ⟨g1,g2⟩:=go h3
     exact ⟨by simp only [hc,g1,Bool.and_true,Bool.not_true,Bool.false_or,Bool.and_eq_true,Nat.blt_eq];exact ⟨h1,h2⟩,g2⟩
    ·rename_i hc
     obtain ⟨g1,g2⟩:=go h
     exact ⟨by simp only [hc,g1,Bool.not_false,Bool.true_or,Bool.and_true],g2⟩
   |_=>exact go h
  |_=>exact go h
theorem ux {st:St} {d:Option Nat} {s:MSpec} {args:List AV} {K:AV->St->Prop} (h:AY st d s args K): ∃v s',Ru st d s args=some (v,s')/\K v s':=by
 unfold AY at h
 obtain ⟨⟨pl,cells,rest⟩,h0,h⟩:=At.1 h
 obtain ⟨as,h1,h⟩:=At.1 h
 obtain ⟨x,tks,h2,h⟩:=gi s.ins 0 (cells++as) _ h
 split at h
 ·rename_i hc
  obtain ⟨⟨r,o⟩,h3,h⟩:=h
  obtain ⟨st1,h4,h⟩:=Kt s.ins o (cells++as) st _ h
  obtain ⟨v,h5,h6⟩:=At.1 h
  obtain ⟨h7,h6⟩:=mz _ h6
  refine ⟨v,_,?_,h6⟩
  unfold Ru
  simp only [h0,h1,h2]
  rw [if_pos hc]
  simp only [h3,h4,h5]
  rw [if_pos h7]
 ·cases h
theorem JU {w:WS} (hw:w.OK) {o:Oper} {K:AV->WS->Prop} (h:YT T Γ w o K):
  ∃v w',evalOp T Γ w.st o=some (v,w'.st)/\w'.OK/\(∀b,Dw w'.kn o=some b-> ∃fr,v= .at (.data fr .bool b))/\K v w':=by
 have fin: ∀v s,(∀b,Dw w.kn o=some b-> ∃fr,v= .at (.data fr .bool b))->evalOp T Γ w.st o=some (v,s)->K v (w.to s)-> ∃v w',evalOp T Γ w.st o=some (v,w'.st)/\w'.OK/\(∀b,Dw w'.kn o=some b-> ∃fr,v= .at (.data fr .bool b))/\K v w':=
  fun v s hk h1 h2=>⟨v,w.to s,h1,hw.to (iR h1),hk,h2⟩
 have uL:(∀b v s,Dw w.kn o=some b->evalOp T Γ w.st o=some (v,s)-> ∃fr,v= .at (.data fr .bool b))->Ei (evalOp T Γ w.st o) (λr=>K r.1 (w.to r.2))-> ∃v w',evalOp T Γ w.st o=some (v,w'.st)/\w'.OK/\(∀b,Dw w'.kn o=some b-> ∃fr,v= .at (.data fr .bool b))/\K v w':=by
  intro hk h
  obtain ⟨r,h1,h2⟩:=At.1 h
  exact fin r.1 r.2 (λb hb=>hk b _ _ hb h1) h1 h2
 unfold YT at h
 split at h
 ·rename_i heq
  obtain ⟨s,h1,h2⟩:=sf h
  refine fin _ _ (λb hb=>by unfold Dw at hb;rw [heq] at hb;cases hb) ?_ h2
  unfold evalOp;rw [heq];simp only [h1];rfl
 ·rename_i heq
  obtain ⟨d,h1,h⟩:=At.1 h
  obtain ⟨v,s,h2,h3⟩:=vF h
  refine fin _ _ (λb hb=>by unfold Dw at hb;rw [heq] at hb;cases hb) ?_ h3
  unfold evalOp;rw [heq];simp only [h1,h2]
 ·rename_i heq
  split at h
  ·rename_i hd ha ht
   split at h
   ·rename_i Qe
    obtain ⟨v,s,h2,h3⟩:=nW h
    refine fin _ _ (λb hb=>by unfold Dw at hb;rw [heq] at hb;cases hb) ?_ h3
    unfold evalOp;rw [heq];simp only [hd,ha,ht,if_pos Qe,h2]
   ·cases h
  ·cases h
 ·rename_i heq;exact uL (λb v s hb he=>pj hw heq hb he) h
 ·rename_i heq;exact uL (λb v s hb he=>by unfold Dw at hb;rw [heq] at hb;cases hb) h
 ·rename_i heq;exact uL (λb v s hb he=>by unfold Dw at hb;rw [heq] at hb;cases hb) h
 ·rename_i heq
  obtain ⟨d,h1,h⟩:=At.1 h
  obtain ⟨v,s,h2,h3⟩:=gH h
  refine fin _ _ (λb hb=>by unfold Dw at hb;rw [heq] at hb;cases hb) ?_ h3
  unfold evalOp;rw [heq];simp only [h1,h2]
 ·rename_i heq;exact uL (λb v s hb he=>by unfold Dw at hb;rw [heq] at hb;cases hb) h
 ·rename_i heq;exact uL (λb v s hb he=>by unfold Dw at hb;rw [heq] at hb;cases hb) h
 ·rename_i heq;exact uL (λb v s hb he=>by unfold Dw at hb;rw [heq] at hb;cases hb) h
 ·rename_i heq;exact uL (λb v s hb he=>by unfold Dw at hb;rw [heq] at hb;cases hb) h
 ·rename_i heq;exact uL (λb v s hb he=>by unfold Dw at hb;rw [heq] at hb;cases hb) h
 ·rename_i heq;exact uL (λb v s hb he=>by unfold Dw at hb;rw [heq] at hb;cases hb) h
 ·
  rename_i f _ _ heq
  split at h
  ·rename_i Ni
   obtain ⟨v,s',h1,h2⟩:=ux h
   refine fin v s' (λb hb=>by unfold Dw at hb;rw [heq] at hb;cases hb) ?_ h2
   unfold evalOp;rw [heq];simp only [Ni];exact h1
  ·rename_i s Ni
   split at h
   ·rename_i HC
    obtain ⟨st1,hs,h⟩:=At.1 h
    obtain ⟨v,w',h1,h2,h3,UK,h4⟩:=dL (hw.to (Uc _ hs)) h
    refine ⟨v,w',?_,h3,UK,h4⟩
    have h1:Cq T Γ st1 o=some v:=h1
    have h2:w'.st=st1:=h2
    unfold evalOp
    rw [heq]
    simp only [Ni,HC,hs,h1,h2]
    rfl
   ·rename_i HC
    obtain ⟨v,w',h1,h2,h3,UK,h4⟩:=dL hw h
    refine ⟨v,w',?_,h3,UK,h4⟩
    unfold evalOp
    rw [heq]
    simp only [Ni,HC,h1,h2]
    rfl
  ·rename_i Aol Aef
   obtain ⟨v,w',h1,h2,h3,UK,h4⟩:=dL hw h
   refine ⟨v,w',?_,h3,UK,h4⟩
   unfold evalOp
   rw [heq]
   simp only
   rw [h1,h2];rfl
 ·rename_i n1 n2 n3 n4 n5 n6 n7 n8 n9 n10 n11 n12 n13 n14
  obtain ⟨v,w',h1,h2,h3,UK,h4⟩:=dL hw h
  refine ⟨v,w',?_,h3,UK,h4⟩
  unfold evalOp
  split
  all_goals first
   |(rw [h1,h2];rfl)
   |(rename_i hq;exact absurd hq (by first|exact n1 _|exact n2 _|exact n3 _|exact n4 _|exact n5 _|exact n6 _|exact n7 _|exact n8 _|exact n9 _|exact n10 _|exact n11 _|exact n12 _|exact n13 _|exact n14 _))
   |(rename_i hq;exact absurd hq (by first|exact n1 _ _|exact n2 _ _|exact n3 _ _|exact n4 _ _|exact n5 _ _|exact n6 _ _|exact n7 _ _|exact n8 _ _|exact n9 _ _|exact n10 _ _|exact n11 _ _|exact n12 _ _|exact n13 _ _|exact n14 _ _))
   |(rename_i hq;exact absurd hq (by first|exact n1 _ _ _|exact n2 _ _ _|exact n3 _ _ _|exact n4 _ _ _|exact n5 _ _ _|exact n6 _ _ _|exact n7 _ _ _|exact n8 _ _ _|exact n9 _ _ _|exact n10 _ _ _|exact n11 _ _ _|exact n12 _ _ _|exact n13 _ _ _|exact n14 _ _ _))
   |(rename_i hq;exact absurd hq (by first|exact n1 _ _ _ _|exact n2 _ _ _ _|exact n3 _ _ _ _|exact n4 _ _ _ _|exact n5 _ _ _ _|exact n6 _ _ _ _|exact n7 _ _ _ _|exact n8 _ _ _ _|exact n9 _ _ _ _|exact n10 _ _ _ _|exact n11 _ _ _ _|exact n12 _ _ _ _|exact n13 _ _ _ _|exact n14 _ _ _ _))
theorem uO (st:St) (d:Nat) (v:AV):(st.put (some d) v).get d=v\/(st.put (some d) v).get d= .undef:=by
 simp only [St.put,St.get]
 rw [Vs]
 by_cases h:d<st.tmps.length
 ·exact .inl (by rw [if_pos ⟨rfl,h⟩])
 ·refine .inr ?_
  rw [if_neg (λhc=>h hc.2),List.getD_eq_getElem?_getD,List.getElem?_eq_none (by omega)]
  rfl
theorem WS.OK.rK {w:WS} (hw:w.OK) (o:Oper) (v:AV) (h: ∀b,Dw w.kn o=some b-> ∃fr,v= .at (.data fr .bool b)):(w.rK o v).OK/\(w.rK o v).st=w.st.put o.dst v:=by
 unfold WS.rK
 split
 ·rename_i d b hd hk
  split
  ·rename_i fr c hg
   refine ⟨?_,by rw [hd]⟩
   obtain ⟨Qk,hv⟩:=h b hk
   intro t b' hb
   simp only [ri] at hb
   split at hb
   ·rename_i ht
    injection hb with hb
    subst ht;subst hb
    refine ⟨Qk,?_⟩
    show (w.st.put (some d) v).get d=_
    cases uO w.st d v with
    |inl h1=>rw [h1,hv]
    |inr h1=>rw [h1] at hg;cases hg
   ·exact hw.put (some d) v t b' hb
  ·exact ⟨hw.put _ _,by rw [WS.pD,hd]⟩
 ·exact ⟨hw.put _ _,WS.pD _ _ _⟩
theorem my {ops:Array Oper} {w:WS} (hw:w.OK) {o:Oper} {run:(AV->WS->Prop)->WS->Prop} {R:St->Option (AV×St)} {K:WS->Prop}
  (hr: ∀(k:AV->WS->Prop) (w:WS),w.OK->run k w-> ∃v w',R w.st=some (v,w'.st)/\w'.OK/\(∀b,Dw w'.kn o=some b-> ∃fr,v= .at (.data fr .bool b))/\k v w') (h:gf ops w o run K):
  ∃w',(match o.guard with
   |none=>(R w.st).map λr=>r.2.put o.dst r.1
   |some (j,want)=>match Rn w.st ((ops[j]?).bind (·.dst)) with
    |some (some b)=>if b==want then (R w.st).map λr=>r.2.put o.dst r.1 else some (w.st.put o.dst (.at .skip))
    |some none=>some (w.st.put o.dst (.at .skip))
    |none=>none)=some w'.st/\w'.OK/\K w':=by
 have go: ∀w:WS,w.OK->run (λv w'=>K (w'.rK o v)) w-> ∃w',((R w.st).map λr=>r.2.put o.dst r.1)=some w'.st/\w'.OK/\K w':=by
  intro w hw h
  obtain ⟨v,w',h1,h2,h3,h4⟩:=hr _ _ hw h
  obtain ⟨h5,h6⟩:=h2.rK o v h3
  exact ⟨w'.rK o v,by rw [h1,h6];rfl,h5,h4⟩
 unfold gf at h
 split at h
 ·rename_i hg
  rw [hg]
  exact go w hw h
 ·rename_i j want hg
  rw [hg]
  obtain ⟨t,h1,h⟩:=At.1 h
  simp only [h1]
  split at h
  ·rename_i hs
   have hsk:w.st.get t= .at .skip:=by
    unfold AV.PX at hs
    split at hs
    ·assumption
    ·cases hs
   exact ⟨_,by simp only [Rn,hsk];rw [WS.pD],hw.put _ _,h⟩
  ·obtain ⟨fr,b,w',h2,h3,h4,h5⟩:=sI hw h
   have hb:Rn w.st (some t)=some (some b):=by simp only [Rn,h2]
   rw [hb]
   simp only
   cases b with
   |true=>
    cases want with
    |true=>rw [if_pos (by decide),<-h3];exact go w' h4 h5
    |false=>exact ⟨_,by rw [if_neg (by decide),<-h3,WS.pD],h4.put _ _,h5⟩
   |false=>
    cases want with
    |false=>rw [if_pos (by decide),<-h3];exact go w' h4 h5
    |true=>exact ⟨_,by rw [if_neg (by decide),<-h3,WS.pD],h4.put _ _,h5⟩
theorem ed {ops:Array Oper} {w:WS} (hw:w.OK) {o:Oper} {K:WS->Prop} (h:gf ops w o (λk w'=>YT T Γ w' o k) K): ∃w',Cr T Γ ops w.st o=some w'.st/\w'.OK/\K w':=by
 obtain ⟨w',h1,h2⟩:=my hw (R:= λst=>evalOp T Γ st o) (λk w hw h=>by
  obtain ⟨v,w',h1,h2,XJ,h3⟩:=JU hw h
  exact ⟨v,w',h1,h2,XJ,h3⟩) h
 exact ⟨w',h1,h2⟩
theorem NQ {w:WS} (hw:w.OK) {o:Oper} {K:AV->WS->Prop} (h:bW T Γ w o K):
  ∃v w',Tf T Γ w.st o=some v/\w'.st=w.st/\w'.OK/\(∀b,Dw w'.kn o=some b-> ∃fr,v= .at (.data fr .bool b))/\K v w':=by
 unfold bW at h
 split at h
 ·rename_i t len parts nB
  obtain ⟨v,h1,h2⟩:=At.1 h
  exact ⟨v,w,by unfold Tf;rw [nB];exact h1,rfl,hw,λb hb=>by simp [Dw,nB] at hb,h2⟩
 ·rename_i t parts nB
  obtain ⟨v,h1,h2⟩:=At.1 h
  exact ⟨v,w,by unfold Tf;rw [nB];exact h1,rfl,hw,λb hb=>by simp [Dw,nB] at hb,h2⟩
 ·rename_i n1 n2
  obtain ⟨v,w',h1,h2⟩:=dL hw h
  refine ⟨v,w',?_,h2⟩
  rw [<-h1]
  unfold Tf
  split
  ·rename_i h9;exact absurd h9 (n1 _ _ _)
  ·rename_i h9;exact absurd h9 (n2 _ _)
  ·rfl
theorem WE {ops:Array Oper} {w:WS} (hw:w.OK) {o:Oper} {K:WS->Prop} (h:gf ops w o (λk w'=>bW T Γ w' o k) K): ∃v w',cB T Γ ops w.st o=some v/\w'.st=w.st.put o.dst v/\w'.OK/\K w':=by
 obtain ⟨w',h1,h2,h3⟩:=my hw (R:= λst=>(Tf T Γ st o).map λv=>(v,st)) (λk w hw h=>by
  obtain ⟨v,w',h1,h2,h3,UK,h4⟩:=NQ hw h
  exact ⟨v,w',by simp only [h1,h2];rfl,h3,UK,h4⟩) h
 have key: ∀u:Option AV,((u.map λv=>(v,w.st)).map λr=>r.2.put o.dst r.1)=some w'.st-> ∃v,u=some v/\w'.st=w.st.put o.dst v:=by
  intro u hu
  cases u with
  |none=>cases hu
  |some v=>injection hu with hu;exact ⟨v,rfl,hu.symm⟩
 unfold cB
 split at h1
 ·rename_i hg
  obtain ⟨v,h4,h5⟩:=key _ h1
  exact ⟨v,w',by rw [hg];exact h4,h5,h2,h3⟩
 ·rename_i j want hg
  rw [hg]
  split at h1
  ·rename_i b hb
   simp only [hb]
   split at h1
   ·rename_i BS
    obtain ⟨v,h4,h5⟩:=key _ h1
    exact ⟨v,w',by rw [if_pos BS];exact h4,h5,h2,h3⟩
   ·rename_i BS
    injection h1 with h1
    exact ⟨_,w',by rw [if_neg BS],h1.symm,h2,h3⟩
  ·rename_i hb
   simp only [hb]
   injection h1 with h1
   exact ⟨_,w',rfl,h1.symm,h2,h3⟩
  ·cases h1
theorem pk {ops:Array Oper} : ∀(l:List Oper) {w:WS} (_:w.OK) {K:WS->Prop},Abg T Γ ops l w K-> ∃w',Uv T Γ ops l w.st=some w'.st/\w'.OK/\K w'
 | [],w,hw,K,h=>⟨w,rfl,hw,h⟩
 |o::r,w,hw,K,h=>by
  obtain ⟨w1,h1,h2,h3⟩:=ed hw h
  obtain ⟨w2,h4,h5⟩:=pk r h2 h3
  exact ⟨w2,by simp only [Uv];rw [h1];exact h4,h5⟩
theorem ba {ops:Array Oper} : ∀(l:List Nat) {w:WS} (_:w.OK) {K:WS->Prop},PM T Γ ops l w K-> ∃w',Jm T Γ ops l w.st=some w'.st/\w'.OK/\K w'
 | [],w,hw,K,h=>⟨w,rfl,hw,h⟩
 |i::r,w,hw,K,h=>by
  obtain ⟨o,h0,h⟩:=At.1 h
  obtain ⟨w1,h1,h2,h3⟩:=ed hw h
  obtain ⟨w2,h4,h5⟩:=ba r h2 h3
  exact ⟨w2,by simp only [Jm];rw [h0];simp only [h1];exact h4,h5⟩
theorem Tj {ops:Array Oper} : ∀(l:List Nat) {w:WS} (_:w.OK) {K:WS->Prop},sV T Γ ops l w K-> ∃w',El T Γ ops l w.st=some w'.st/\w'.OK/\K w'
 | [],w,hw,K,h=>⟨w,rfl,hw,h⟩
 |i::r,w,hw,K,h=>by
  obtain ⟨o,h0,h⟩:=At.1 h
  obtain ⟨v,w1,h1,h1',h2,h3⟩:=WE hw h
  obtain ⟨w2,h4,h5⟩:=Tj r h2 h3
  exact ⟨w2,by simp only [El];rw [h0];simp only [h1];rw [<-h1'];exact h4,h5⟩
theorem nR {P:Nat->Prop} : ∀(l:List Nat),UB l P-> ∀i∈l,P i
 | [],_,i,hi=>by cases hi
 | [k],h,i,hi=>by rw [List.mem_singleton.1 hi];exact h
 |k::j::r,h,i,hi=>by
  rcases List.mem_cons.1 hi with rfl|hi
  ·exact h.1
  ·exact nR (j::r) h.2 i hi
theorem gF {ops:Array Oper} {K:WS->Prop} : ∀(f:Nat) (Ac:Array Bool) {w:WS} (_:w.OK),IE T Γ ops f Ac w K->anyS T Γ ops (λs=> ∃w':WS,w'.st=s/\w'.OK/\K w') f Ac w.st
 |0,Ac,w,hw,h=>by
  unfold IE at h
  split at h
  ·rename_i hr;exact ⟨hr,w,rfl,hw,h⟩
  ·cases h
 |f+1,Ac,w,hw,h=>by
  unfold IE at h
  split at h
  ·cases h
  ·rename_i i r hr
   refine ⟨by rw [hr];simp,λk hk=>?_⟩
   rw [hr] at hk
   obtain ⟨o,h0,h1⟩:=At.1 (nR _ h k hk)
   obtain ⟨w1,h2,h3,h4⟩:=ed hw h1
   exact ⟨o,w1.st,h0,h2,gF f _ h3 h4⟩
theorem aU {ops:Array Oper} {K:WS->Prop} : ∀(f:Nat) (Ac:Array Bool) {w:WS} (_:w.OK),ku T Γ ops f Ac w K-> ∃w':WS,w'.OK/\K w'
 |0,Ac,w,hw,h=>by
  simp only [ku] at h
  split at h
  ·exact ⟨w,hw,h⟩
  ·exact h.elim
 |f+1,Ac,w,hw,h=>by
  simp only [ku] at h
  split at h
  ·exact h.elim
  ·obtain ⟨o,ho,h1⟩:=At.1 h
   obtain ⟨w',h2,h3,h4⟩:=ed hw h1
   exact aU f _ h3 h4
theorem lI {P:List (Nat×Nat×AV×OB)} {ops:Array Oper} {K:WS->Prop} : ∀(f:Nat) (Ac:Array Bool) {w:WS} (_:w.OK),xk T Γ P ops f Ac w K->ZI T Γ ops P (λs=> ∃w':WS,w'.st=s/\w'.OK/\K w') f Ac w.st
 |0,Ac,w,hw,h=>by
  unfold xk at h
  split at h
  ·rename_i hr;exact ⟨hr,w,rfl,hw,h⟩
  ·cases h
 |f+1,Ac,w,hw,h=>by
  unfold xk at h
  split at h
  ·cases h
  ·rename_i i r hr
   refine ⟨by rw [hr];simp,λk hk=>?_⟩
   rw [hr] at hk
   obtain ⟨o,h0,h1⟩:=At.1 (nR _ h k hk)
   split at h1
   ·rename_i bY
    obtain ⟨w1,h2,h3,h4⟩:=ed hw h1
    exact ⟨o,w1.st,h0,bY,h2,lI f _ h3 h4⟩
   ·cases h1
theorem yU {α:Type} (f:α->Nat) {l:List α} (h:Ue (l.map f)=true):l.Pairwise λa c=>f a≠f c:=List.pairwise_map.1 (Sd h)
theorem qP {ops:Array Oper} {L0:Array Bool} {n:Nat} {w:WS} (hw:w.OK) {K:WS->Prop} (hc:Up ops L0) (h:uw T Γ (Te T ops L0) n L0 ops w K):anyS T Γ ops (λs=> ∃w':WS,w'.st=s/\w'.OK/\K w') n L0 w.st:=by
 unfold uw at h
 split at h
 ·rename_i hb
  simp only [Bool.and_eq_true] at hb
  obtain ⟨⟨b1,b2⟩,b3,b4,b5⟩:=hb
  have hm: ∀a∈Te T ops L0,a.1∈Region.ready .any ops L0/\ ∃o,ops[a.1]?=some o/\aM T o=some a.2:= λa ha=>uo ha
  have p1:=yU (λa:Nat×Nat×AV×OB=>a.1) b1
  have p2:=yU (λa:Nat×Nat×AV×OB=>a.2.1) b2
  have hlen:(Te T ops L0).length<=n:=Nat.le_of_ble_eq_true b4
  obtain ⟨w1,h1,h2,h3⟩:=ba _ hw h
  have h3:=aX.1 h3
  obtain ⟨w0,g1,g2⟩:=aU _ _ h2 h3
  obtain ⟨g3,g4⟩:=aX.1 g2
  have hp:=zg (Γ:=Γ) _ w.st w1.st (λa ha=>(hm a ha).2) (λa ha=>pe (List.all_eq_true.1 b3 a ha)) p2 h1
  refine ew (λs hs=>?_) _ _ _ (ID (λa ha=>(hm a ha).2) n (n-(Te T ops L0).length) (Te T ops L0) _ L0 w1.st w.st (by omega) (lI _ _ h2 g4) hp
   (UE (ops:=ops) λi hi=>by obtain ⟨a,ha,rfl⟩:=List.mem_map.1 hi;exact (hm a ha).1) (λa ha=>ha) (p2.and p1) hc λa ha x hx=>dN (hm a ha).1 hx)
  obtain ⟨w',h5,_,h6⟩:=hs
  exact ⟨w0,((h5.symm.trans (sN h6)).symm),g1,g3⟩
 ·cases h
theorem rM {ops:Array Oper} {draw:Bool} {w:WS} (hw:w.OK) {K:WS->Prop} (h:vZ T Γ ops draw w K):uh T Γ ops draw w.st (λs=> ∃w':WS,w'.st=s/\w'.OK/\K w'):=by
 unfold vZ at h
 split at h
 ·split at h
  ·rename_i ho
   obtain ⟨w1,h1,h2,h3⟩:=Tj _ hw h
   obtain ⟨w2,h4,h5⟩:=ba _ h2 h3
   exact .inl ⟨w2.st,by simp only [Mb,if_true];rw [if_pos ho,h1];exact h4,w2,rfl,h5⟩
  ·rename_i ho
   split at h
   ·rename_i ho2
    obtain ⟨w1,h1,h2,h3⟩:=Tj _ hw h
    obtain ⟨w2,h4,h5⟩:=ba _ h2 h3
    exact .inl ⟨w2.st,by simp only [Mb,if_true];rw [if_neg (by rw [ho];decide),if_pos ho2,h1];exact h4,w2,rfl,h5⟩
   ·split at h
    ·rename_i hc
     simp only [Bool.and_eq_true] at hc
     obtain ⟨w1,h1,h2,h3⟩:=Tj _ hw h
     split at h3
     ·exact .inr ⟨rfl,hc.1,w1.st,h1,gF _ _ h2 h3⟩
     ·obtain ⟨w0,g1,g2⟩:=aU _ _ h2 h3
      obtain ⟨g3,g4⟩:=aX.1 g2
      exact .inr ⟨rfl,hc.1,w1.st,h1,ew (λs hs=>by
       obtain ⟨w',h5,_,h6⟩:=hs
       exact ⟨w0,((h5.symm.trans (sN h6)).symm),g1,g3⟩) _ _ _ (gF _ _ h2 g4)⟩
    ·split at h
     ·rename_i HC
      obtain ⟨w1,h1,h2,h3⟩:=Tj _ hw h
      exact .inr ⟨rfl,HC,w1.st,h1,qP h2 (aS _ _ _ xB) h3⟩
     ·cases h
 ·obtain ⟨w1,h1,h2⟩:=pk _ hw h
  exact .inl ⟨w1.st,by simp only [Mb];rw [if_neg (by simp)];exact h1,w1,rfl,h2⟩
end
end Go.Proofs.YtfolipnappekaaaGreat
