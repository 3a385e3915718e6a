/-
  Part 33 of the proof that the statement FnExactSolveTwoPhaseWithin holds.
-/
import Derived.Test.YtfgfigkbgecfnaaCSolveTwoPhaseWithin31
namespace Go.Proofs.Ytfgfigkbgecfnaa
open Go.RowKit
section
variable {T:Tab} {Γ:Env}
def WS.OK (w:WS):Prop:= ∀t b,oh w.kn t=some b-> ∃fr,w.st.get t= .at (.data fr .bool b)
theorem mN: ∀(l:List (Nat×Bool)) (d t:Nat) (b:Bool),oh (ye l d) t=some b->t≠d/\oh l t=some b
 | [],_,_,_,h=>by cases h
 |(k,c)::r,d,t,b,h=>by
  simp only [ye] at h;split at h
  ·rename_i hk;have:=mN r d t b h;refine ⟨this.1,?_⟩;simp only [oh];rw [Ai (by rw [hk];exact λh=>this.1 h.symm)];exact this.2
  ·rename_i hk;simp only [oh] at h⊢;split at h
   ·rename_i hkt;exact ⟨by rw [<-hkt];exact hk,by rw [Ac hkt];exact h⟩
   ·rename_i hkt;rw [Ai hkt];exact mN r d t b h
theorem WS.OK.put {w:WS} (h:w.OK) (dst:Option Tmp) (v:AV):(w.put dst v).OK:=by
 cases dst with
 |none=>exact h
 |some d=>
  intro t b hb;obtain ⟨h1,h2⟩:=mN _ _ _ _ hb;obtain ⟨fr,h3⟩:=h t b h2;exact ⟨fr,by show (w.st.put (some d) v).get t=_;rw [c9 _ _ h1];exact h3⟩
theorem WS.uT (w:WS) (dst:Option Tmp) (v:AV):(w.put dst v).st=w.st.put dst v:=by cases dst<;>rfl
theorem WS.OK.to {w:WS} (h:w.OK) {s:St} (hs:Cu w.st s):(w.to s).OK:=by
 intro t b hb;obtain ⟨fr,h3⟩:=h t b hb;exact ⟨fr,hs t fr _ _ h3⟩
theorem xK {w:WS} (hw:w.OK) {t:Nat} {K:Bool->WS->Prop} (h:brT w t K):
  ∃fr b w',w.st.get t= .at (.data fr .bool b)/\w'.st=w.st/\w'.OK/\K b w':=by
 unfold brT at h;split at h
 ·rename_i b hb;obtain ⟨fr,h1⟩:=hw t b hb;exact ⟨fr,b,w,h1,rfl,hw,h⟩
 ·split at h
  ·rename_i fr b hb;obtain ⟨h1,h2⟩:=h
   have ok: ∀c:Bool,b=c->WS.OK {kn:=(t,c)::w.kn,st:=w.st} :=by
    intro c hc t' b' h';simp only [oh] at h';split at h'
    ·rename_i ht
     injection h' with h'
     exact ⟨fr,by rw [<-ht,<-h',<-hc];exact hb⟩
    ·exact hw t' b' h'
   cases b with
   |true=>exact ⟨fr,true, {kn:=(t,true)::w.kn,st:=w.st},hb,rfl,ok true rfl,h1 rfl⟩
   |false=>exact ⟨fr,false, {kn:=(t,false)::w.kn,st:=w.st},hb,rfl,ok false rfl,h2 rfl⟩
  ·cases h
theorem xJ {w:WS} (hw:w.OK) {c:Operand} {K:Bool->WS->Prop} (h:brO w c K):
  ∃fr b w',w.st.ev c= .at (.data fr .bool b)/\w'.st=w.st/\w'.OK/\K b w':=by
 unfold brO at h;split at h
 ·exact xK hw h
 ·exact ⟨true,_,w,rfl,rfl,hw,h⟩
 ·cases h
theorem LZ {op:BinOp} {t:TypeId} {x y:AV} {K:AV->Prop} (h:Ajo T op t x y K): ∃v,Uo T op t x y=some v/\K v:=by
 unfold Ajo at h;split at h
 ·split at h
  ·rename_i hk;exact ⟨_,by simp only [Uo,evalBin,uh];rw [Ac hk,Ai h.1];rfl,h.2⟩
  ·cases h
 ·split at h
  ·rename_i hk;exact ⟨_,by simp only [Uo,evalBin,uh];rw [Ac hk,Ai h.1];rfl,h.2⟩
  ·cases h
 ·exact ⟨_,by simp only [Uo,evalBin];rw [Ai h.1];rfl,h.2⟩
 ·exact ⟨_,by simp only [Uo,evalBin];rw [Ai h.1];rfl,h.2⟩
 ·exact ⟨_,by simp only [Uo,evalBin];rw [Ac h.1],h.2⟩
 ·exact Ch.1 h
theorem HC {st:St} {t:TypeId} {p:AV} {K:AV->Prop} (h:Abh T st t p K): ∃v,Qr T st t p=some v/\K v:=by
 unfold Abh at h;split at h
 ·obtain ⟨τ,h1,h2⟩:=Ch.1 h;split at h2
  ·rename_i hb;split at h2
   ·rename_i he;obtain ⟨x,h3,h4⟩:=h2;exact ⟨_,by simp only [Qr,h1,hb,Ac he,h3];rfl,h4⟩
   ·cases h2
  ·rename_i hb;split at h2
   ·rename_i he;obtain ⟨x,h3,h4⟩:=h2;exact ⟨_,by simp only [Qr,h1,hb,Ac he,h3];rfl,h4⟩
   ·cases h2
  ·rename_i hb;split at h2
   ·cases h2
   ·rename_i he;exact ⟨_,by simp only [Qr,h1,hb,Ai he],h2⟩
  ·cases h2
 ·obtain ⟨τ,h1,h2⟩:=Ch.1 h;split at h2
  ·rename_i he;obtain ⟨y,h3,h4⟩:=h2;subst h3;exact ⟨_,by simp only [Qr,h1,Ac he],h4⟩
  ·cases h2
 ·exact Ch.1 h
theorem pF {s:TypeId} {x:AV} {f:Nat} {K:AV->Prop} (h:mB T s x f K): ∃v,Oq T s x f=some v/\K v:=by
 unfold mB at h;split at h
 ·obtain ⟨y,h1,h2⟩:=h;subst h1;obtain ⟨v,h3,h4⟩:=Ch.1 h2;refine ⟨v,?_,h4⟩;rw [<-h3];unfold Oq
  cases T.off s f<;>rfl
 ·exact Ch.1 h
theorem BZ {st:St} {t:TypeId} {x:AV} {lo hi:Option AV} {K:AV->Prop} (h:PT T st t x lo hi K): ∃v,eJ T st t x lo hi=some v/\K v:=by
 unfold PT at h;obtain ⟨n,h1,h⟩:=Ch.1 h;obtain ⟨l,h2,h⟩:=Ch.1 h;obtain ⟨hh,h3,hc,h⟩:=Ch.1 h;obtain ⟨v,h4,h5⟩:=Ch.1 h;refine ⟨v,?_,h5⟩;simp only [eJ,h1,h2,h3,Ac hc];exact h4
theorem pL {st:St} {t:TypeId} {x i:AV} {K:AV->Prop} (h:mK T st t x i K): ∃v,Lh T st t x i=some v/\K v:=by
 unfold mK at h;split at h
 ·split at h
  ·rename_i he;obtain ⟨x,h3,h4⟩:=h;exact ⟨_,by simp only [Lh,Ac he,h3];rfl,h4⟩
  ·cases h
 ·split at h
  ·rename_i hb;split at h
   ·rename_i he;obtain ⟨h3,h4⟩:=h;exact ⟨_,by simp only [Lh,hb];rw [Ac ⟨he.1,he.2,Uz.2 h3⟩],h4⟩
   ·cases h
  ·rename_i hb;split at h
   ·rename_i he;obtain ⟨h3,h4⟩:=h;exact ⟨_,by simp only [Lh,hb];rw [Ac ⟨he.1,he.2,Uz.2 h3⟩],h4⟩
   ·cases h
  ·rename_i hb;split at h
   ·rename_i he;obtain ⟨h3,h4⟩:=h;exact ⟨_,by simp only [Lh,hb];rw [Ac ⟨he.1,he.2,Uz.2 h3⟩],h4⟩
   ·cases h
  ·cases h
 ·split at h
  ·rename_i hb;split at h
   ·rename_i he;obtain ⟨h3,h4⟩:=h;exact ⟨_,by simp only [Lh,hb];rw [Ac ⟨he,Uz.2 h3⟩],h4⟩
   ·cases h
  ·cases h
 ·cases h
theorem zT {t:TypeId} {x i:AV} {K:AV->Prop} (h:NM T t x i K): ∃v,kB T t x i=some v/\K v:=by
 unfold NM at h;split at h
 ·split at h
  ·rename_i he;obtain ⟨h1,b,h3,h4⟩:=h;exact ⟨_,by simp only [kB,Ac he,Ac h1,h3];rfl,h4⟩
  ·cases h
 ·cases h
theorem da {st:St} {f:FuncId} {args:List AV} {K:AV->Prop} (h:xM Γ st f args K): ∃v,Pk Γ st f args=some v/\K v:=by
 unfold xM at h;obtain ⟨s,h1,h⟩:=Ch.1 h
 have h1:Γ f=some (.q s):=by
  split at h1
  ·rename_i s' hs;injection h1 with h1;rw [hs,h1]
  ·cases h1
 split at h
 ·rename_i hf;obtain ⟨p,h2,y,h3,h4⟩:=Ch.1 h;refine ⟨_,?_,h4⟩;simp only [Pk,h1];rw [Ac hf,h2];simp only [h3];rfl
 ·cases h
theorem zq {st:St} {v:AV} {args:List AV} {K:AV->Prop} (h:MC Γ st v args K): ∃u,Yr Γ st v args=some u/\K u:=by
 unfold MC at h;split at h
 ·split at h
  ·rename_i hc;split at h
   ·rename_i hf;obtain ⟨u,h1,h2⟩:=da h;exact ⟨u,by simp only [Yr];rw [Ac hc,Ac (by simpa using hf)];exact h1,h2⟩
   ·rename_i hf;obtain ⟨u,h1,h2⟩:=da h;exact ⟨u,by simp only [Yr];rw [Ac hc,Ai (λhx=>by rw [show Nat.blt _ 1000000000=true from by simpa using hx] at hf;cases hf)];exact h1,h2⟩
  ·cases h
 ·exact da h
 ·cases h
theorem Px {w:WS} (hw:w.OK) {x:Operand} {b:Bool} (hk:Xg w.kn x=some b): ∃fr,w.st.ev x= .at (.data fr .bool b):=by
 unfold Xg at hk;split at hk
 ·injection hk with hk;subst hk;exact ⟨true,rfl⟩
 ·exact hw _ _ hk
 ·cases hk
theorem wU {w:WS} (hw:w.OK) {o:Oper} {b:Bool} (hk:Ht w.kn o=some b) {v:AV} (he:Fv T Γ w.st o=some v): ∃fr,v= .at (.data fr .bool b):=by
 unfold Ht at hk;split at hk
 ·rename_i heq;unfold Fv at he;rw [heq] at he;injection he with he;obtain ⟨fr,h⟩:=Px hw hk;exact ⟨fr,he.symm.trans h⟩
 ·rename_i heq;unfold Fv at he;rw [heq] at he;injection he with he;obtain ⟨fr,h⟩:=Px hw hk;exact ⟨fr,he.symm.trans h⟩
 ·rename_i x heq
  cases hx:Xg w.kn x with
  |none=>rw [hx] at hk;cases hk
  |some c=>
   rw [hx] at hk
   injection hk with hk
   obtain ⟨fr,h⟩:=Px hw hx;unfold Fv at he;rw [heq] at he;simp only [h,zD,Pu] at he
   injection he with he
   exact ⟨true,by rw [<-he,<-hk]⟩
 ·rename_i c x y heq;unfold Fv at he;rw [heq] at he;split at hk
  ·rename_i hc;obtain ⟨fr,h⟩:=Px hw hc;simp only [h,eI,Oz] at he
   injection he with he
   obtain ⟨fr,h⟩:=Px hw hk;exact ⟨fr,he.symm.trans h⟩
  ·rename_i hc;obtain ⟨fr,h⟩:=Px hw hc;simp only [h,eI,Dt,Uk] at he
   injection he with he
   obtain ⟨fr,h⟩:=Px hw hk;exact ⟨fr,he.symm.trans h⟩
  ·cases hk
 ·cases hk
theorem uI {w:WS} (hw:w.OK) {o:Oper} {x:Operand} (ho:o.op= .assign x) {b:Bool} (hk:Ht w.kn o=some b) {v:AV} {s:St} (he:evalOp T Γ w.st o=some (v,s)): ∃fr,v= .at (.data fr .bool b):=by
 unfold Ht at hk;rw [ho] at hk;obtain ⟨fr,h⟩:=Px hw hk;unfold evalOp at he;rw [ho] at he;simp only [h] at he
 injection he with he;injection he with he;exact ⟨fr,he.symm⟩
theorem jH {w:WS} (hw:w.OK) {o:Oper} {K:AV->WS->Prop} (h:qW T Γ w o K):
  ∃v w',Fv T Γ w.st o=some v/\w'.st=w.st/\w'.OK/\(∀b,Ht w'.kn o=some b-> ∃fr,v= .at (.data fr .bool b))/\K v w':=by
 have fin:(∃v w',Fv T Γ w.st o=some v/\w'.st=w.st/\w'.OK/\K v w')-> ∃v w',Fv T Γ w.st o=some v/\w'.st=w.st/\w'.OK/\(∀b,Ht w'.kn o=some b-> ∃fr,v= .at (.data fr .bool b))/\K v w':=by
  rintro ⟨v,w',h1,h2,h3,h4⟩;exact ⟨v,w',h1,h2,h3,λb hb=>wU h3 hb (by rw [h2];exact h1),h4⟩
 refine fin ?_;unfold qW at h;split at h
 ·rename_i c a b heq;obtain ⟨fr,t,w',h1,h2,h3,h4⟩:=xJ hw h
  cases t with
  |true=>exact ⟨_,w',by unfold Fv;rw [heq];simp only [h1,eI,Oz];rw [<-h2],h2,h3,h4⟩
  |false=>exact ⟨_,w',by unfold Fv;rw [heq];simp only [h1,eI];rw [<-h2];simp,h2,h3,h4⟩
 ·rename_i heq;obtain ⟨v,h1,h2⟩:=HC h;exact ⟨v,w,by unfold Fv;rw [heq];exact h1,rfl,hw,h2⟩
 ·rename_i heq;obtain ⟨v,h1,h2⟩:=LZ h;exact ⟨v,w,by unfold Fv;rw [heq];exact h1,rfl,hw,h2⟩
 ·rename_i heq;split at h
  ·obtain ⟨v,h1,h2⟩:=BZ h;exact ⟨v,w,by unfold Fv;rw [heq];simpa using h1,rfl,hw,h2⟩
  ·cases h
 ·rename_i heq;obtain ⟨v,h1,h2⟩:=pL h;exact ⟨v,w,by unfold Fv;rw [heq];exact h1,rfl,hw,h2⟩
 ·rename_i heq;obtain ⟨v,h1,h2⟩:=zT h;exact ⟨v,w,by unfold Fv;rw [heq];exact h1,rfl,hw,h2⟩
 ·rename_i heq;obtain ⟨v,h1,h2⟩:=da h;exact ⟨v,w,by unfold Fv;rw [heq];exact h1,rfl,hw,h2⟩
 ·rename_i heq;obtain ⟨v,h1,h2⟩:=zq h;exact ⟨v,w,by unfold Fv;rw [heq];exact h1,rfl,hw,h2⟩
 ·rename_i heq;obtain ⟨v,h1,h2⟩:=pF h;exact ⟨v,w,by unfold Fv;rw [heq];exact h1,rfl,hw,h2⟩
 ·rename_i x heq;unfold yr at h;split at h
  ·rename_i fr τ z hx;obtain ⟨y,h1,h2⟩:=h;subst h1;exact ⟨_,w,by unfold Fv;rw [heq];simp only [hx],rfl,hw,h2⟩
  ·obtain ⟨v,h1,h2⟩:=Ch.1 h;exact ⟨v,w,h1,rfl,hw,h2⟩
 ·obtain ⟨v,h1,h2⟩:=Ch.1 h;exact ⟨v,w,h1,rfl,hw,h2⟩
theorem CR {st:St} {t:TypeId} {p v:AV} {K:St->Prop} (h:QI T st t p v K): ∃s,Vw T st t p v=some s/\K s:=by
 unfold QI at h;split at h
 ·obtain ⟨τ,h1,h⟩:=Ch.1 h;obtain ⟨q,h2,h⟩:=Ch.1 h;split at h
  ·rename_i hb;obtain ⟨u,h3,h⟩:=Ch.1 h;split at h
   ·rename_i hc;obtain ⟨h4,h5⟩:=h;obtain ⟨q1,q2⟩:=q;obtain ⟨u1,u2⟩:=u;exact ⟨_,by simp only [Vw,h1,h2,hb,h3];rw [Jj hc,Ac h4],h5⟩
   ·cases h
  ·cases h
 ·exact Ch.1 h
theorem xp {st:St} {t:TypeId} {p v:AV} {K:St->Prop} (h:CN T st t p v K): ∃s,Qb T st t p v=some s/\K s:=by
 unfold CN at h;unfold Qb;split at h
 rotate_left
 ·rename_i hg;rw [hg];exact CR h
 rename_i hg;rw [hg];simp only;unfold TO at h;split at h
 ·obtain ⟨τ,h1,h⟩:=Ch.1 h;obtain ⟨q,h2,h⟩:=Ch.1 h;split at h
  ·rename_i hb;obtain ⟨u,h3,h⟩:=Ch.1 h;split at h
   ·rename_i hc;obtain ⟨q1,q2⟩:=q;obtain ⟨u1,u2⟩:=u;exact ⟨_,by simp only [c7,h1,h2,hb,h3];rw [Jj hc],h⟩
   ·cases h
  ·cases h
 ·rename_i l j;obtain ⟨τ,h1,h⟩:=Ch.1 h;split at h
  ·rename_i e te rows out kp m off len hl _;split at h
   ·rename_i fr tr e' tid xs hm;split at h
    ·rename_i hc;obtain ⟨h2,h3,h4,h5⟩:=h
     have h4:out=none\/out=some j:=by
      cases out with
      |none=>exact .inl rfl
      |some i=>exact .inr (Dz some h4)
     exact ⟨_,by simp only [c7,h1,hl,hm];rw [Jj ⟨hc.1,hc.2,h2,h3,h4⟩],h5⟩
    ·cases h
   ·cases h
  ·cases h
 ·cases h
theorem Zu {st:St} {d:Nat} {t:TypeId} {x y:Operand} {K:AV->St->Prop} (h:nA T st d t x y K): ∃v s,Oo T st d t x y=some (v,s)/\K v s:=by
 unfold nA at h;obtain ⟨te,h1,h⟩:=Ch.1 h;obtain ⟨e,h2,h⟩:=Ch.1 h;obtain ⟨q,h3,h⟩:=Ch.1 h;obtain ⟨u,h4,h⟩:=Ch.1 h;obtain ⟨q1,q2⟩:=q;obtain ⟨u1,u2⟩:=u;split at h
 ·rename_i hx;split at h
  ·rename_i hd;obtain ⟨h5,h6⟩:=h;refine ⟨_,_,?_,h6⟩;simp only [Oo,h1,h2,h3,h4];rw [hx];simp only;rw [Ac ⟨h5,by simpa [Nv] using hd⟩];simp
  ·cases h
 ·rename_i l off len hx;split at h
  ·rename_i fr tr e' tid xs hb;split at h
   ·rename_i hc;obtain ⟨h5,h6,h7,h8⟩:=h;refine ⟨_,_,?_,h8⟩;simp only [Oo,h1,h2,h3,h4];rw [hx];simp only [hb];rw [Jj ⟨hc.1,hc.2.1⟩,Ac ⟨h7,by simpa [Nv] using hc.2.2⟩];obtain ⟨FZ,hc2,hc3⟩:=hc;subst FZ;subst h5;simp only [Cw,h6,Az,Av]
   ·cases h
  ·cases h
 ·cases h
theorem td {st:St} {d:Nat} {t:TypeId} {x y:Operand} {K:AV->St->Prop} (h:tb T st d t x y K): ∃v s,Si T st d t x y=some (v,s)/\K v s:=by
 unfold tb at h
 cases x with
 |tmp tx=>
  simp only at h;unfold Si;simp only
  cases hg:st.get tx with
  | «at»c=>
   rw [hg] at h
   cases c with
   |sub l i c=>
    simp only at h⊢;obtain ⟨tid,h1,h⟩:=Ch.1 h;split at h
    ·rename_i hl;split at h
     ·rename_i hc;obtain ⟨v,s,h2,h3⟩:=Zu h;refine ⟨v,s,?_,h3⟩;simp only [hl,h1];rw [Ac hc];exact h2
     ·cases h
    ·cases h
   |_=>exact Zu h
  |_=>rw [hg] at h;exact Zu h
 |_=>exact Zu h
theorem HJ {st:St} {d:Nat} {t:TypeId} {l c:AV} {K:AV->St->Prop} (h:Abo T st d t l c K): ∃v s,bZ T st d t l c=some (v,s)/\K v s:=by
 unfold Abo at h;split at h
 ·obtain ⟨te,h1,h⟩:=Ch.1 h;obtain ⟨e,h2,h⟩:=Ch.1 h;split at h
  ·rename_i hz;obtain ⟨h3,h4,h5⟩:=h;refine ⟨_,_,?_,h5⟩;simp only [Ak] at hz;simp only [bZ,h1,h2];rw [Ac ⟨Uz.2 (by exact_mod_cast h3),h4,hz.1,by simpa [Nv] using hz.2⟩];simp
  ·cases h
 ·cases h
theorem AP {st:St} {d:Nat} {t:TypeId} {l c:AV} {K:AV->St->Prop} (h:OA T st d t l c K): ∃v s,Ys T st d t l c=some (v,s)/\K v s:=by
 unfold OA at h;unfold Ys
 cases hg:eM T t with
 |none=>rw [hg] at h;exact HJ h
 |some p=>
  obtain ⟨te,e⟩:=p;rw [hg] at h;simp only at h⊢;split at h
  ·split at h
   ·rename_i hd;obtain ⟨h3,h4,h5⟩:=h;refine ⟨_,_,?_,h5⟩;simp only;rw [Ac ⟨Uz.2 (by exact_mod_cast h3),h4,by simpa [Nv] using hd⟩];simp
   ·cases h
  ·cases h
theorem mr {st:St} {d:Nat} {t:TypeId} {len:Nat} {parts:Array (Nat×Operand)} {K:AV->St->Prop} (h:fL T st d t len parts K): ∃v s,Jk T st d t len parts=some (v,s)/\K v s:=by
 unfold fL at h;unfold Jk
 cases hg:eM T t with
 |none=>
  rw [hg] at h;obtain ⟨r,h1,h2⟩:=Ch.1 h;exact ⟨r.1,r.2,h1,h2⟩
 |some p=>
  obtain ⟨te,e⟩:=p;rw [hg] at h;simp only at h⊢;split at h
  ·rename_i x hp;split at h
   ·rename_i m off ln hx;split at h
    ·rename_i hm;split at h
     ·rename_i hc;obtain ⟨h1,h2,h3⟩:=h;refine ⟨_,_,?_,h3⟩;simp only [hp,hx,hm];rw [Jj ⟨hc.1,hc.2,h1,h2⟩]
     ·cases h
    ·cases h
   ·cases h
  ·cases h
theorem th {st:St} {d:Nat} {t:TypeId} {x y:Operand} {K:AV->St->Prop} (h:tf T st d t x y K): ∃v s,Sj T st d t x y=some (v,s)/\K v s:=by
 unfold tf at h;unfold Sj
 cases hg:eM T t with
 |none=>rw [hg] at h;exact td h
 |some p=>
  obtain ⟨te,e⟩:=p;rw [hg] at h;simp only at h⊢;split at h
  ·rename_i l off len m Abt uq hx hy;split at h
   ·rename_i hl hm;split at h
    ·rename_i hc;obtain ⟨h1,h2,h3,h4,h5⟩:=h;obtain ⟨⟨rfl,rfl⟩,hc⟩:=hc;refine ⟨_,_,?_,h5⟩;simp only [hx,hy,hl,hm];rw [Jj (⟨⟨trivial,trivial⟩,hc,h1,h2,h3,h4⟩)];simp
    ·cases h
   ·cases h
  ·cases h
theorem CX {st:St} {io:Bool} {k:Nat} {c:CK} {a:AC} {K:c.den->List (Nat×Loc)->Prop} (h:gO st io k c a K): ∃x t,Mt st io k c a=some (x,t)/\K x t:=by
 cases c with
 |Ia τ=>
  cases a with
  |own l off len=>
   obtain ⟨p,h1,h2⟩:=Ch.1 h;exact ⟨_,_,by simp only [Mt];rw [h1];rfl,h2⟩
  |clo g En=>
   simp only [gO] at h;split at h
   ·rename_i hc;obtain ⟨p,h1,h2⟩:=Ch.1 h;exact ⟨_,_,by simp only [Mt];rw [Ac hc,h1];rfl,h2⟩
   ·cases h
  |Hs l i=>
   simp only [gO] at h;split at h
   ·rename_i hc;obtain ⟨p,h1,h2⟩:=Ch.1 h;exact ⟨_,_,by simp only [Mt];rw [Ac hc,h1];rfl,h2⟩
   ·cases h
  |sub l i c=>
   obtain ⟨p,h1,h2⟩:=Ch.1 h;exact ⟨_,_,by simp only [Mt];rw [h1];rfl,h2⟩
  |_=>
   simp only [gO] at h;split at h
   ·rename_i hc;obtain ⟨p,h1,h2⟩:=Ch.1 h;exact ⟨_,_,by simp only [Mt];rw [Ac hc,h1];rfl,h2⟩
   ·cases h
 |row e te=>
  cases a<;>simp only [gO] at h<;>first|(cases h;done)|skip
  ·exact ⟨_,_,rfl,h⟩
  ·split at h
   ·rename_i hl;split at h
    ·rename_i hc;obtain ⟨h1,h2,h3⟩:=h;exact ⟨_,_,by simp only [Mt,hl];rw [Jj ⟨hc.1,hc.2,h1,h2⟩],h3⟩
    ·cases h
   ·cases h
  ·split at h
   ·rename_i hl;split at h
    ·rename_i hc;obtain ⟨y,h1,h2⟩:=h;exact ⟨_,_,by simp only [Mt,hl];rw [Jj hc,h1];rfl,h2⟩
    ·cases h
   ·cases h
 |Hz e te=>
  cases a<;>simp only [gO] at h<;>first|(cases h;done)|skip
  ·exact ⟨_,_,rfl,h⟩
  ·split at h
   ·rename_i hl;split at h
    ·rename_i hc;obtain ⟨h1,h2,h3⟩:=h;exact ⟨_,_,by simp only [Mt,hl];rw [Jj ⟨hc.1,hc.2,h1,h2⟩],h3⟩
    ·cases h
   ·cases h
  ·split at h
   ·rename_i hl;split at h
    ·rename_i hc;obtain ⟨y,h1,h2⟩:=h;exact ⟨_,_,by simp only [Mt,hl];rw [Jj hc,h1];rfl,h2⟩
    ·cases h
   ·cases h
 |part e te=>
  cases a<;>simp only [gO] at h<;>first|(cases h;done)|skip
  split at h
  ·rename_i hl;split at h
   ·rename_i hc;exact ⟨_,_,by simp only [Mt,hl];rw [Jj hc],h⟩
   ·cases h
  ·cases h
 |Ca e te kp=>
  cases a<;>simp only [gO] at h<;>first|(cases h;done)|skip
  split at h
  ·rename_i hl;split at h
   ·rename_i hc;obtain ⟨h1,h2,h3⟩:=h;exact ⟨_,_,by simp only [Mt,hl];rw [Jj ⟨hc.1,hc.2.1,h1,h2,hc.2.2⟩],h3⟩
   ·cases h
  ·cases h
theorem IV {st:St} {e:Ty} {ys:List e.den} {a:AC} {K:St->Prop} (h:Acj st e ys a K): ∃s,OY st e ys a=some s/\K s:=by
 cases a<;>simp only [Acj] at h<;>first|(cases h;done)|skip
 split at h
 ·rename_i hl;split at h
  ·rename_i hc;obtain ⟨h1,h3⟩:=h;exact ⟨_,by simp only [OY,hl];rw [Jj ⟨hc,h1⟩],h3⟩
  ·cases h
 ·cases h
theorem lY {st:St} : ∀(cs:List (Bool×CK)) (k:Nat) (as:List AC) (K:Ins.den cs->List (Nat×Loc)->Prop),CY st k cs as K-> ∃x t,gP st k cs as=some (x,t)/\K x t
 | [],_,[],_,h=>⟨_,_,rfl,h⟩
 | [],_,_::_,_,h=>h.elim
 |_::_,_,[],_,h=>h.elim
 |p::r,k,a::as,K,h=>by
  obtain ⟨x,t1,h1,h2⟩:=CX h;obtain ⟨y,t2,h3,h4⟩:=lY r (k+1) as _ h2;exact ⟨_,_,by simp only [gP,h1,h3],h4⟩
theorem rv {st:St} {c:CK} {ys:c.den} {a:AC} {K:St->Prop} (h:ru st c ys a K): ∃s,cX st c ys a=some s/\K s:=by
 cases c with
 |Ia τ=>cases a<;>simp only [ru] at h<;>first|(cases h;done)|exact ⟨_,rfl,h⟩
 |row e te=>
  cases a<;>simp only [ru] at h<;>first|(cases h;done)|skip
  ·exact ⟨_,rfl,h⟩
  ·split at h
   ·rename_i hl;split at h
    ·rename_i hc;obtain ⟨h1,h3⟩:=h;exact ⟨_,by simp only [cX,hl];rw [Jj ⟨hc,h1⟩],h3⟩
    ·cases h
   ·cases h
  ·split at h
   ·rename_i hl;split at h
    ·rename_i hc;obtain ⟨y,h1,h2,h3⟩:=h;exact ⟨_,by simp only [cX,hl,Jj hc,h1];rw [Ac h2],h3⟩
    ·cases h
   ·cases h
 |Hz e te=>
  cases a<;>simp only [ru] at h<;>first|(cases h;done)|skip
  ·exact ⟨_,rfl,h⟩
  ·split at h
   ·rename_i hl;split at h
    ·rename_i hc;obtain ⟨h1,h3⟩:=h;exact ⟨_,by simp only [cX,hl];rw [Jj ⟨hc,h1⟩],h3⟩
    ·cases h
   ·cases h
  ·split at h
   ·rename_i hl;split at h
    ·rename_i hc;obtain ⟨y,h1,h2,h3⟩:=h;exact ⟨_,by simp only [cX,hl,Jj hc,h1];rw [Ac h2],h3⟩
    ·cases h
   ·cases h
 |part e te=>cases a<;>simp only [ru] at h<;>first|(cases h;done)|exact ⟨_,rfl,h⟩
 |Ca e te kp=>cases a<;>simp only [ru] at h<;>first|(cases h;done)|exact ⟨_,rfl,h⟩
theorem Qh: ∀(cs:List (Bool×CK)) (o:IOs.den cs) (as:List AC) (st:St) (K:St->Prop),jG cs o as st K-> ∃s,Il cs o as st=some s/\K s
 | [],_,_,st,K,h=>⟨st,rfl,h⟩
 |(true, .Ia _)::r,o,[],st,K,h=>h.elim
 |(true, .row _ _)::r,o,[],st,K,h=>h.elim
 |(true, .Hz _ _)::r,o,[],st,K,h=>h.elim
 |(true, .part _ _)::r,o,[],st,K,h=>h.elim
 |(true, .Ca _ _ _)::r,o,[],st,K,h=>h.elim
 |(true, .Ca _ _ _)::r,o,a::as,st,K,h=>by
  obtain ⟨s,h1,h2⟩:=Qh r o as st K h;exact ⟨s,by simp only [Il];exact h1,h2⟩
 |(false,_)::r,o,[],st,K,h=>h.elim
 |(true, .Ia _)::r,o,a::as,st,K,h=>by
  obtain ⟨s,h1,h2⟩:=Qh r o as st K h;exact ⟨s,by simp only [Il];exact h1,h2⟩
 |(false,_)::r,o,a::as,st,K,h=>by
  obtain ⟨s,h1,h2⟩:=Qh r o as st K h;exact ⟨s,by simp only [Il];exact h1,h2⟩
 |(true, .row _ _)::r,o,a::as,st,K,h=>by
  obtain ⟨s1,h1,h2⟩:=rv h;obtain ⟨s,h3,h4⟩:=Qh r o.2 as s1 K h2;exact ⟨s,by simp only [Il,h1];exact h3,h4⟩
 |(true, .part _ _)::r,o,a::as,st,K,h=>by
  obtain ⟨s1,h1,h2⟩:=IV h;obtain ⟨s,h3,h4⟩:=Qh r o.2 as s1 K h2;exact ⟨s,by simp only [Il,h1];exact h3,h4⟩
 |(true, .Hz _ _)::r,o,a::as,st,K,h=>by
  obtain ⟨s1,h1,h2⟩:=rv h;obtain ⟨s,h3,h4⟩:=Qh r o.2 as s1 K h2;exact ⟨s,by simp only [Il,h1];exact h3,h4⟩
theorem rP {H:List (Nat×OB)} {ls:List Nat} {n:Nat} {K:Prop} : ∀(l:List AV),vO H ls n l K->eg H ls n l=true/\K
 | [],h=>⟨rfl,h⟩
 |a::r,h=>by
  have go:vO H ls n r K->eg H ls n r=true/\K:=rP r
  cases a with
  | «at»c=>
   cases c with
   |sub l i c=>
    simp only [vO] at h;simp only [eg];split at h
    ·rename_i hc;obtain ⟨⟨h1,h2⟩,h3⟩:=h;obtain ⟨g1,g2⟩:=go h3;exact ⟨by simp only [hc,g1,Bool.and_true,Bool.not_true,bM,Ak,Nv];exact ⟨h1,h2⟩,g2⟩
    ·rename_i hc;obtain ⟨g1,g2⟩:=go h;exact ⟨by simp only [hc,g1,Bool.not_false,Bool.true_or,Bool.and_true],g2⟩
   |_=>exact go h
  |_=>exact go h
theorem zp {st:St} {d:Option Nat} {s:MSpec} {args:List AV} {K:AV->St->Prop} (h:MB st d s args K): ∃v s',Yq st d s args=some (v,s')/\K v s':=by
 unfold MB at h;obtain ⟨⟨pl,cells,rest⟩,h0,h⟩:=Ch.1 h;obtain ⟨as,h1,h⟩:=Ch.1 h;obtain ⟨x,tks,h2,h⟩:=lY s.ins 0 (cells++as) _ h;split at h
 ·rename_i hc;obtain ⟨⟨r,o⟩,h3,h⟩:=h;obtain ⟨st1,h4,h⟩:=Qh s.ins o (cells++as) st _ h;obtain ⟨v,h5,h6⟩:=Ch.1 h;obtain ⟨h7,h6⟩:=rP _ h6;refine ⟨v,_,?_,h6⟩;unfold Yq;simp only [h0,h1,h2];rw [Ac hc];simp only [h3,h4,h5];rw [Ac h7]
 ·cases h
theorem VU {w:WS} (hw:w.OK) {o:Oper} {K:AV->WS->Prop} (h:opW T Γ w o K):
  ∃v w',evalOp T Γ w.st o=some (v,w'.st)/\w'.OK/\(∀b,Ht w'.kn o=some b-> ∃fr,v= .at (.data fr .bool b))/\K v w':=by
 have fin: ∀v s,(∀b,Ht w.kn o=some b-> ∃fr,v= .at (.data fr .bool b))->evalOp T Γ w.st o=some (v,s)->K v (w.to s)-> ∃v w',evalOp T Γ w.st o=some (v,w'.st)/\w'.OK/\(∀b,Ht w'.kn o=some b-> ∃fr,v= .at (.data fr .bool b))/\K v w':=
  fun v s hk h1 h2=>⟨v,w.to s,h1,hw.to (nT h1),hk,h2⟩
 have zF:(∀b v s,Ht w.kn o=some b->evalOp T Γ w.st o=some (v,s)-> ∃fr,v= .at (.data fr .bool b))->Ig (evalOp T Γ w.st o) (λr=>K r.1 (w.to r.2))-> ∃v w',evalOp T Γ w.st o=some (v,w'.st)/\w'.OK/\(∀b,Ht w'.kn o=some b-> ∃fr,v= .at (.data fr .bool b))/\K v w':=by
  intro hk h;obtain ⟨r,h1,h2⟩:=Ch.1 h;exact fin r.1 r.2 (λb hb=>hk b _ _ hb h1) h1 h2
 unfold opW at h;split at h
 ·rename_i heq;obtain ⟨s,h1,h2⟩:=xp h;refine fin _ _ (λb hb=>by unfold Ht at hb;rw [heq] at hb;cases hb) ?_ h2;unfold evalOp;rw [heq];simp only [h1];rfl
 ·rename_i heq;obtain ⟨d,h1,h⟩:=Ch.1 h;obtain ⟨v,s,h2,h3⟩:=AP h;refine fin _ _ (λb hb=>by unfold Ht at hb;rw [heq] at hb;cases hb) ?_ h3;unfold evalOp;rw [heq];simp only [h1,h2]
 ·rename_i heq;split at h
  ·rename_i hd ha ht;split at h
   ·rename_i Wp;obtain ⟨v,s,h2,h3⟩:=th h;refine fin _ _ (λb hb=>by unfold Ht at hb;rw [heq] at hb;cases hb) ?_ h3;unfold evalOp;rw [heq];simp only [hd,ha,ht,Ac Wp,h2]
   ·cases h
  ·cases h
 ·rename_i heq;exact zF (λb v s hb he=>uI hw heq hb he) h
 ·rename_i heq;exact zF (λb v s hb he=>by unfold Ht at hb;rw [heq] at hb;cases hb) h
 ·rename_i heq;exact zF (λb v s hb he=>by unfold Ht at hb;rw [heq] at hb;cases hb) h
 ·rename_i heq;obtain ⟨d,h1,h⟩:=Ch.1 h;obtain ⟨v,s,h2,h3⟩:=mr h;refine fin _ _ (λb hb=>by unfold Ht at hb;rw [heq] at hb;cases hb) ?_ h3;unfold evalOp;rw [heq];simp only [h1,h2]
 ·rename_i heq;exact zF (λb v s hb he=>by unfold Ht at hb;rw [heq] at hb;cases hb) h
 ·rename_i heq;exact zF (λb v s hb he=>by unfold Ht at hb;rw [heq] at hb;cases hb) h
 ·rename_i heq;exact zF (λb v s hb he=>by unfold Ht at hb;rw [heq] at hb;cases hb) h
 ·rename_i heq;exact zF (λb v s hb he=>by unfold Ht at hb;rw [heq] at hb;cases hb) h
 ·rename_i heq;exact zF (λb v s hb he=>by unfold Ht at hb;rw [heq] at hb;cases hb) h
 ·rename_i heq;exact zF (λb v s hb he=>by unfold Ht at hb;rw [heq] at hb;cases hb) h
 ·
  rename_i f _ _ heq;split at h
  ·rename_i Pn;obtain ⟨v,s',h1,h2⟩:=zp h;refine fin v s' (λb hb=>by unfold Ht at hb;rw [heq] at hb;cases hb) ?_ h2;unfold evalOp;rw [heq];simp only [Pn];exact h1
  ·rename_i s Pn;split at h
   ·rename_i SF;obtain ⟨st1,hs,h⟩:=Ch.1 h;obtain ⟨v,w',h1,h2,h3,h3',h4⟩:=jH (hw.to (Vb _ hs)) h;refine ⟨v,w',?_,h3,h3',h4⟩;have h1:Fv T Γ st1 o=some v:=h1;have h2:w'.st=st1:=h2;unfold evalOp;rw [heq];simp only [Pn,SF,hs,h1,h2];rfl
   ·rename_i SF;obtain ⟨v,w',h1,h2,h3,h3',h4⟩:=jH hw h;refine ⟨v,w',?_,h3,h3',h4⟩;unfold evalOp;rw [heq];simp only [Pn,SF,h1,h2];rfl
  ·rename_i Bbx Aph;obtain ⟨v,w',h1,h2,h3,h3',h4⟩:=jH hw h;refine ⟨v,w',?_,h3,h3',h4⟩;unfold evalOp;rw [heq];simp only;rw [h1,h2];rfl
 ·rename_i n1 n2 n3 n4 n5 n6 n7 n8 n9 n10 n11 n12 n13 n14;obtain ⟨v,w',h1,h2,h3,h3',h4⟩:=jH hw h;refine ⟨v,w',?_,h3,h3',h4⟩;unfold evalOp;split
  all_goals first
   |(rw [h1,h2];rfl)
   |(rename_i hq;exact absurd hq (by first|exact n1 _|exact n2 _|exact n3 _|exact n4 _|exact n5 _|exact n6 _|exact n7 _|exact n8 _|exact n9 _|exact n10 _|exact n11 _|exact n12 _|exact n13 _|exact n14 _))
   |(rename_i hq;exact absurd hq (by first|exact n1 _ _|exact n2 _ _|exact n3 _ _|exact n4 _ _|exact n5 _ _|exact n6 _ _|exact n7 _ _|exact n8 _ _|exact n9 _ _|exact n10 _ _|exact n11 _ _|exact n12 _ _|exact n13 _ _|exact n14 _ _))
   |(rename_i hq;exact absurd hq (by first|exact n1 _ _ _|exact n2 _ _ _|exact n3 _ _ _|exact n4 _ _ _|exact n5 _ _ _|exact n6 _ _ _|exact n7 _ _ _|exact n8 _ _ _|exact n9 _ _ _|exact n10 _ _ _|exact n11 _ _ _|exact n12 _ _ _|exact n13 _ _ _|exact n14 _ _ _))
   |(rename_i hq;exact absurd hq (by first|exact n1 _ _ _ _|exact n2 _ _ _ _|exact n3 _ _ _ _|exact n4 _ _ _ _|exact n5 _ _ _ _|exact n6 _ _ _ _|exact n7 _ _ _ _|exact n8 _ _ _ _|exact n9 _ _ _ _|exact n10 _ _ _ _|exact n11 _ _ _ _|exact n12 _ _ _ _|exact n13 _ _ _ _|exact n14 _ _ _ _))
theorem zI (st:St) (d:Nat) (v:AV):(st.put (some d) v).get d=v\/(st.put (some d) v).get d= .undef:=by
 simp only [St.put,St.get];rw [Ri]
 by_cases h:d<st.tmps.length
 ·exact .inl (by rw [Ac ⟨rfl,h⟩])
 ·refine .inr ?_;rw [Ai (λhc=>h hc.2),Al,Dv (by omega)];rfl
theorem WS.OK.x6 {w:WS} (hw:w.OK) (o:Oper) (v:AV) (h: ∀b,Ht w.kn o=some b-> ∃fr,v= .at (.data fr .bool b)):(w.x6 o v).OK/\(w.x6 o v).st=w.st.put o.dst v:=by
 unfold WS.x6;split
 ·rename_i d b hd hk;split
  ·rename_i fr c hg;refine ⟨?_,by rw [hd]⟩;obtain ⟨Ww,hv⟩:=h b hk;intro t b' hb;simp only [oh] at hb;split at hb
   ·rename_i ht
    injection hb with hb
    subst ht;subst hb;refine ⟨Ww,?_⟩;show (w.st.put (some d) v).get d=_
    cases zI w.st d v with
    |inl h1=>rw [h1,hv]
    |inr h1=>rw [h1] at hg;cases hg
   ·exact hw.put (some d) v t b' hb
  ·exact ⟨hw.put _ _,by rw [WS.uT,hd]⟩
 ·exact ⟨hw.put _ _,WS.uT _ _ _⟩
theorem rO {ops:Array Oper} {w:WS} (hw:w.OK) {o:Oper} {run:(AV->WS->Prop)->WS->Prop} {R:St->Option (AV×St)} {K:WS->Prop}
  (hr: ∀(k:AV->WS->Prop) (w:WS),w.OK->run k w-> ∃v w',R w.st=some (v,w'.st)/\w'.OK/\(∀b,Ht w'.kn o=some b-> ∃fr,v= .at (.data fr .bool b))/\k v w') (h:kd ops w o run K):
  ∃w',(match o.guard with
   |none=>(R w.st).map λr=>r.2.put o.dst r.1
   |some (j,want)=>match Yj w.st ((ops[j]?).bind (·.dst)) with
    |some (some b)=>if b==want then (R w.st).map λr=>r.2.put o.dst r.1 else some (w.st.put o.dst (.at .skip))
    |some none=>some (w.st.put o.dst (.at .skip))
    |none=>none)=some w'.st/\w'.OK/\K w':=by
 have go: ∀w:WS,w.OK->run (λv w'=>K (w'.x6 o v)) w-> ∃w',((R w.st).map λr=>r.2.put o.dst r.1)=some w'.st/\w'.OK/\K w':=by
  intro w hw h;obtain ⟨v,w',h1,h2,h3,h4⟩:=hr _ _ hw h;obtain ⟨h5,h6⟩:=h2.x6 o v h3;exact ⟨w'.x6 o v,by rw [h1,h6];rfl,h5,h4⟩
 unfold kd at h;split at h
 ·rename_i hg;rw [hg];exact go w hw h
 ·rename_i j want hg;rw [hg];obtain ⟨t,h1,h⟩:=Ch.1 h;simp only [h1];split at h
  ·rename_i hs
   have hsk:w.st.get t= .at .skip:=by
    unfold AV.Abd at hs;split at hs
    ·assumption
    ·cases hs
   exact ⟨_,by simp only [Yj,hsk];rw [WS.uT],hw.put _ _,h⟩
  ·obtain ⟨fr,b,w',h2,h3,h4,h5⟩:=xK hw h
   have hb:Yj w.st (some t)=some (some b):=by simp only [Yj,h2]
   rw [hb];simp only
   cases b with
   |true=>
    cases want with
    |true=>rw [Ac (by decide),<-h3];exact go w' h4 h5
    |false=>exact ⟨_,by rw [Ai (by decide),<-h3,WS.uT],h4.put _ _,h5⟩
   |false=>
    cases want with
    |false=>rw [Ac (by decide),<-h3];exact go w' h4 h5
    |true=>exact ⟨_,by rw [Ai (by decide),<-h3,WS.uT],h4.put _ _,h5⟩
theorem cJ {ops:Array Oper} {w:WS} (hw:w.OK) {o:Oper} {K:WS->Prop} (h:kd ops w o (λk w'=>opW T Γ w' o k) K): ∃w',Fl T Γ ops w.st o=some w'.st/\w'.OK/\K w':=by
 obtain ⟨w',h1,h2⟩:=rO hw (R:= λst=>evalOp T Γ st o) (λk w hw h=>by
  obtain ⟨v,w',h1,h2,h2',h3⟩:=VU hw h
  exact ⟨v,w',h1,h2,h2',h3⟩) h
 exact ⟨w',h1,h2⟩
theorem ZP {w:WS} (hw:w.OK) {o:Oper} {K:AV->WS->Prop} (h:bW T Γ w o K):
  ∃v w',Yb T Γ w.st o=some v/\w'.st=w.st/\w'.OK/\(∀b,Ht w'.kn o=some b-> ∃fr,v= .at (.data fr .bool b))/\K v w':=by
 unfold bW at h;split at h
 ·rename_i t len parts qZ;obtain ⟨v,h1,h2⟩:=Ch.1 h;exact ⟨v,w,by unfold Yb;rw [qZ];exact h1,rfl,hw,λb hb=>by simp [Ht,qZ] at hb,h2⟩
 ·rename_i t parts qZ;obtain ⟨v,h1,h2⟩:=Ch.1 h;exact ⟨v,w,by unfold Yb;rw [qZ];exact h1,rfl,hw,λb hb=>by simp [Ht,qZ] at hb,h2⟩
 ·rename_i n1 n2;obtain ⟨v,w',h1,h2⟩:=jH hw h;refine ⟨v,w',?_,h2⟩;rw [<-h1];unfold Yb;split
  ·rename_i h9;exact absurd h9 (n1 _ _ _)
  ·rename_i h9;exact absurd h9 (n2 _ _)
  ·rfl
theorem Agw {ops:Array Oper} {w:WS} (hw:w.OK) {o:Oper} {K:WS->Prop} (h:kd ops w o (λk w'=>bW T Γ w' o k) K): ∃v w',Xx T Γ ops w.st o=some v/\w'.st=w.st.put o.dst v/\w'.OK/\K w':=by
 obtain ⟨w',h1,h2,h3⟩:=rO hw (R:= λst=>(Yb T Γ st o).map λv=>(v,st)) (λk w hw h=>by
  obtain ⟨v,w',h1,h2,h3,h3',h4⟩:=ZP hw h
  exact ⟨v,w',by simp only [h1,h2];rfl,h3,h3',h4⟩) h
 have key: ∀u:Option AV,((u.map λv=>(v,w.st)).map λr=>r.2.put o.dst r.1)=some w'.st-> ∃v,u=some v/\w'.st=w.st.put o.dst v:=by
  intro u hu
  cases u with
  |none=>cases hu
  |some v=>injection hu with hu;exact ⟨v,rfl,hu.symm⟩
 unfold Xx;split at h1
 ·rename_i hg;obtain ⟨v,h4,h5⟩:=key _ h1;exact ⟨v,w',by rw [hg];exact h4,h5,h2,h3⟩
 ·rename_i j want hg;rw [hg];split at h1
  ·rename_i b hb;simp only [hb];split at h1
   ·rename_i MW;obtain ⟨v,h4,h5⟩:=key _ h1;exact ⟨v,w',by rw [Ac MW];exact h4,h5,h2,h3⟩
   ·rename_i MW
    injection h1 with h1
    exact ⟨_,w',by rw [Ai MW],h1.symm,h2,h3⟩
  ·rename_i hb;simp only [hb]
   injection h1 with h1
   exact ⟨_,w',rfl,h1.symm,h2,h3⟩
  ·cases h1
theorem uJ {ops:Array Oper} : ∀(l:List Oper) {w:WS} (_:w.OK) {K:WS->Prop},Alp T Γ ops l w K-> ∃w',bg T Γ ops l w.st=some w'.st/\w'.OK/\K w'
 | [],w,hw,K,h=>⟨w,rfl,hw,h⟩
 |o::r,w,hw,K,h=>by
  obtain ⟨w1,h1,h2,h3⟩:=cJ hw h;obtain ⟨w2,h4,h5⟩:=uJ r h2 h3;exact ⟨w2,by simp only [bg];rw [h1];exact h4,h5⟩
theorem fW {ops:Array Oper} : ∀(l:List Nat) {w:WS} (_:w.OK) {K:WS->Prop},Ab4 T Γ ops l w K-> ∃w',Nk T Γ ops l w.st=some w'.st/\w'.OK/\K w'
 | [],w,hw,K,h=>⟨w,rfl,hw,h⟩
 |i::r,w,hw,K,h=>by
  obtain ⟨o,h0,h⟩:=Ch.1 h;obtain ⟨w1,h1,h2,h3⟩:=cJ hw h;obtain ⟨w2,h4,h5⟩:=fW r h2 h3;exact ⟨w2,by simp only [Nk];rw [h0];simp only [h1];exact h4,h5⟩
theorem Og {ops:Array Oper} : ∀(l:List Nat) {w:WS} (_:w.OK) {K:WS->Prop},lF T Γ ops l w K-> ∃w',Gt T Γ ops l w.st=some w'.st/\w'.OK/\K w'
 | [],w,hw,K,h=>⟨w,rfl,hw,h⟩
 |i::r,w,hw,K,h=>by
  obtain ⟨o,h0,h⟩:=Ch.1 h;obtain ⟨v,w1,h1,h1',h2,h3⟩:=Agw hw h;obtain ⟨w2,h4,h5⟩:=Og r h2 h3;exact ⟨w2,by simp only [Gt];rw [h0];simp only [h1];rw [<-h1'];exact h4,h5⟩
theorem ny {P:Nat->Prop} : ∀(l:List Nat),ZL l P-> ∀i∈l,P i
 | [],_,i,hi=>by cases hi
 | [k],h,i,hi=>by rw [Af.1 hi];exact h
 |k::j::r,h,i,hi=>by
  rcases Bd.1 hi with rfl|hi
  ·exact h.1
  ·exact ny (j::r) h.2 i hi
theorem mo {ops:Array Oper} {K:WS->Prop} : ∀(f:Nat) (Aj:Array Bool) {w:WS} (_:w.OK),UB T Γ ops f Aj w K->anyS T Γ ops (λs=> ∃w':WS,w'.st=s/\w'.OK/\K w') f Aj w.st
 |0,Aj,w,hw,h=>by
  unfold UB at h;split at h
  ·rename_i hr;exact ⟨hr,w,rfl,hw,h⟩
  ·cases h
 |f+1,Aj,w,hw,h=>by
  unfold UB at h;split at h
  ·cases h
  ·rename_i i r hr;refine ⟨by rw [hr];simp,λk hk=>?_⟩;rw [hr] at hk;obtain ⟨o,h0,h1⟩:=Ch.1 (ny _ h k hk);obtain ⟨w1,h2,h3,h4⟩:=cJ hw h1;exact ⟨o,w1.st,h0,h2,mo f _ h3 h4⟩
theorem ek: ∀(l:List Oper) (d:Nat),d∈Lg l-> ∃o∈l,o.dst=some d
 | [],d,h=>by simp [Lg] at h
 |o::r,d,h=>by
  simp only [Lg] at h
  cases ho:o.dst with
  |none=>
   rw [ho] at h;obtain ⟨o',h1,h2⟩:=ek r d (by simpa using h);exact ⟨o',At _ h1,h2⟩
  |some e=>
   rw [ho] at h;rcases Bd.1 (by simpa using h) with h|h
   ·exact ⟨o,by simp,by rw [ho,h]⟩
   ·obtain ⟨o',h1,h2⟩:=ek r d h;exact ⟨o',At _ h1,h2⟩
theorem nX {ops:Array Oper} {K:WS->Prop} : ∀(f:Nat) (Aj:Array Bool) {w:WS} (_:w.OK),c8 T Γ ops f Aj w K-> ∃w':WS,Gg (λt=>To ops t=true) w.st w'.st/\w'.OK/\K w'
 |0,Aj,w,hw,h=>by
  simp only [c8] at h;split at h
  ·exact ⟨w,λ_ _ _ _ _ hx=>hx,hw,h⟩
  ·exact h.elim
 |f+1,Aj,w,hw,h=>by
  simp only [c8] at h;split at h
  ·exact h.elim
  ·obtain ⟨o,ho,h1⟩:=Ch.1 h;obtain ⟨w',h2,h3,h4⟩:=cJ hw h1;obtain ⟨w2,g1,g2⟩:=nX f _ h3 h4;refine ⟨w2,((c6 h2).mono λt ht hd=>?_).trans g1,g2⟩;unfold To Zp at ht;have:(ops.toList.any λo=>o.dst==some t)=true:=Eu.2 ⟨o,pX ho,by rw [hd];exact beq_self_eq_true _⟩;rw [this] at ht;cases ht
theorem mV (p:Nat->Bool): ∀(i:Nat) (l0 l1:List AV),(∀t,(l0.getD t .undef).Yv=true->p (i+t)=true->l1.getD t .undef=l0.getD t .undef)->
  Wd (Lb p i l0) l0 (Ut (Lb p i l0) l1)=l1
 |_,[],l1,_=>by simp [Lb,Ut,Wd]
 |i,a::r,[],_=>by
  simp only [Lb]
  cases (a.Yv&&p i)<;>simp [Ut,Wd]
 |i,a::r,b::s,h=>by
  have hr:=mV p (i+1) r s λt h1 h2=>by
   have:=h (t+1) (by simpa using h1) (by rw [show i+(t+1)=i+1+t by omega];exact h2);simpa using this
  simp only [Lb]
  cases hc:(a.Yv&&p i) with
  |false=>simp only [Ut,Wd];rw [hr]
  |true=>
   simp only [Ut,Wd];rw [hr];simp only [Ak] at hc;have:=h 0 (by simpa using hc.1) hc.2;simp only [Yg] at this;rw [this]
theorem gh: ∀(f:List Bool) (l:List AV),(Ut f l).length=l.length
 | [],l=>by simp [Ut]
 |true::f,[]=>by simp [Ut]
 |false::f,[]=>by simp [Ut]
 |true::f,a::l=>by simp [Ut,gh f l]
 |false::f,a::l=>by simp [Ut,gh f l]
theorem UJ {p:Nat->Bool} {w1 s0 s:St} (h1:Gg (λt=>p t=true) w1 s0) (h2:Gg (λt=>p t=true) w1 s) (h:eqM (Lb p 0 w1.tmps) s0 s):s=s0:=by
 have e:=eE h;simp only [St.mask,St.mk.injEq] at e
 have key: ∀ {a:St},Gg (λt=>p t=true) w1 a->Wd (Lb p 0 w1.tmps) w1.tmps (Ut (Lb p 0 w1.tmps) a.tmps)=a.tmps:= λ {a} ha=>mV p 0 _ _ λt ht hp=>by
  rw [Bl] at hp
  cases hc:w1.tmps.getD t .undef with
  | «at»c=>
   cases c with
   |data fr τ x=>exact ha t fr τ x hp hc
   |_=>rw [hc] at ht;cases ht
  |_=>rw [hc] at ht;cases ht
 have e1:=key h1;have e2:=key h2;rw [e.1,e1] at e2;obtain ⟨_,e4⟩:=e;cases s;cases s0;simp only at e2 e4;rw [e4,e2]
theorem bk {ops:Array Oper} {K:WS->Prop} : ∀(f:Nat) (Aj:Array Bool) {w:WS} (_:w.OK),c8 T Γ ops f Aj w K-> ∃w':WS,w'.OK/\K w'
 |0,Aj,w,hw,h=>by
  simp only [c8] at h;split at h
  ·exact ⟨w,hw,h⟩
  ·exact h.elim
 |f+1,Aj,w,hw,h=>by
  simp only [c8] at h;split at h
  ·exact h.elim
  ·obtain ⟨o,ho,h1⟩:=Ch.1 h;obtain ⟨w',h2,h3,h4⟩:=cJ hw h1;exact bk f _ h3 h4
theorem qH {P:List (Nat×Nat×AV×OB)} {ops:Array Oper} {K:WS->Prop} : ∀(f:Nat) (Aj:Array Bool) {w:WS} (_:w.OK),EG T Γ P ops f Aj w K->Ajm T Γ ops P (λs=> ∃w':WS,w'.st=s/\w'.OK/\K w') f Aj w.st
 |0,Aj,w,hw,h=>by
  unfold EG at h;split at h
  ·rename_i hr;exact ⟨hr,w,rfl,hw,h⟩
  ·cases h
 |f+1,Aj,w,hw,h=>by
  unfold EG at h;split at h
  ·cases h
  ·rename_i i r hr;refine ⟨by rw [hr];simp,λk hk=>?_⟩;rw [hr] at hk;obtain ⟨o,h0,h1⟩:=Ch.1 (ny _ h k hk);split at h1
   ·rename_i jr;obtain ⟨w1,h2,h3,h4⟩:=cJ hw h1;exact ⟨o,w1.st,h0,jr,h2,qH f _ h3 h4⟩
   ·cases h1
theorem HW {α:Type} (f:α->Nat) {l:List α} (h:aL (l.map f)=true):l.Pairwise λa c=>f a≠f c:=List.pairwise_map.1 (Za h)
theorem dD {ops:Array Oper} {E:List Nat} {Aj:Array Bool} {w:WS} (hw:w.OK): ∀(R:List Nat) {K:Prop},yW T Γ ops E Aj w R K->K/\ ∀r∈R,sP ops E Aj r=true\/ ∃o v,ops[r]?=some o/\Xx T Γ ops w.st o=some v/\ ∀d,o.dst=some d->w.st.get d=v
 | [],K,h=>⟨h,λr hr=>by cases hr⟩
 |r::R,K,h=>by
  unfold yW at h;split at h
  ·rename_i hwt;obtain ⟨h1,h2⟩:=dD hw R h;refine ⟨h1,λq hq=>?_⟩;rcases Bd.1 hq with rfl|hq
   ·exact .inl hwt
   ·exact h2 q hq
  ·obtain ⟨h0,h⟩:=h;obtain ⟨h1,h2⟩:=dD hw R h;refine ⟨h1,λq hq=>?_⟩;rcases Bd.1 hq with rfl|hq
   ·refine .inr ?_;obtain ⟨w',g1,_,g3⟩:=Og _ hw h0;obtain ⟨d,hd,g4⟩:=Ch.1 g3;simp only [Gt] at g1;split at g1
    ·cases g1
    rename_i o ho;split at g1
    rotate_left
    ·cases g1
    rename_i v hv;refine ⟨o,v,ho,hv,λd' hd'=>?_⟩;rw [ho] at hd;have hdd:o.dst=some d:=hd;rw [hd'] at hdd;cases hdd;split at g4
    ·rename_i hl;have e:=eE g4
     have e1:w'.st.get d=w.st.get d:=by
      have:=Dz (λs:St=>s.tmps) e;simpa using this
     rw [<-e1];have e2:w.st.put o.dst v=w'.st:=Bi g1;rw [<-e2,show o.dst=some d from hd];show (Tm w.st.tmps d v).getD d .undef=v;rw [Ri,Ac ⟨rfl,by simpa [Nv] using hl⟩]
    ·cases g4
   ·exact h2 q hq
theorem cZ {ops:Array Oper} {E:List Nat} {K:WS->Prop} : ∀(f:Nat) (Aj:Array Bool) {w:WS} (_:w.OK),sZ T Γ ops E f Aj w K->rZ T Γ ops E (λs=> ∃w':WS,w'.st=s/\w'.OK/\K w') f Aj w.st
 |0,Aj,w,hw,h=>by
  unfold sZ at h;obtain ⟨h,hs⟩:=dD hw _ h;split at h
  ·rename_i hr;exact ⟨hs,hr,w,rfl,hw,h⟩
  ·cases h
 |f+1,Aj,w,hw,h=>by
  unfold sZ at h;obtain ⟨h,hs⟩:=dD hw _ h;split at h
  ·cases h
  ·rename_i i r hr;refine ⟨hs,by rw [hr];simp,λk hk=>?_⟩;rw [hr] at hk;obtain ⟨o,h0,h1⟩:=Ch.1 (ny _ h k hk);obtain ⟨w1,h2,h3,h4⟩:=cJ hw h1;exact ⟨o,w1.st,h0,h2,cZ f _ h3 h4⟩
theorem BM {ops:Array Oper} {E:List Nat} {L0:Array Bool} {n:Nat} {w:WS} (hw:w.OK) {K:WS->Prop} (h:PB T Γ E n L0 ops w K):Aex T Γ ops (λs=> ∃w':WS,w'.st=s/\w'.OK/\K w') n L0 w.st:=by
 unfold PB at h;split at h
 ·rename_i hb;simp only [Ak] at hb;obtain ⟨b1,b2,b3⟩:=hb;obtain ⟨w1,h1,h2,h3⟩:=Og _ hw h;have h3:=Ot.1 h3;obtain ⟨w0,g1,g2⟩:=bk _ _ h2 h3;obtain ⟨g3,g4⟩:=Ot.1 g2;refine ⟨E,w1.st,b1,Nat.le_of_ble_eq_true b2,h1,bA (λs hs=>?_) _ _ _ (cZ _ _ h2 g4)⟩;obtain ⟨w',h5,_,h6⟩:=hs;exact ⟨w0,((h5.symm.trans (eE (Ot.1 h6))).symm),g1,g3⟩
 ·cases h
theorem eh {ops:Array Oper} {t:Nat} :To ops t=true->t∉Lg ops.toList:= λh hm=>by
 obtain ⟨o,ho,hd⟩:=ek _ _ hm;unfold To Zp at h;have:(ops.toList.any λo=>o.dst==some t)=true:=Eu.2 ⟨o,ho,by rw [hd];exact beq_self_eq_true _⟩;rw [this] at h;cases h
theorem EH {ops:Array Oper} {E:List Nat} {K:St->Prop} (s0:St) (f:Nat) (Aj:Array Bool) (st:St) (hk:Gg (λt=>To ops t=true) s0 st) (h:rZ T Γ ops E K f Aj st):
  rZ T Γ ops E (λs=>K s/\Gg (λt=>To ops t=true) s0 s) f Aj st:=by
 have h1:=mn (draw:=true) st f Aj st (λ_ _ _ _ _ hx=>hx) h;exact bA (λs hs=>⟨hs.1,hk.trans (hs.2.mono λt ht=>eh ht)⟩) _ _ _ h1
theorem WS.OK.Qx {w:WS} (hw:w.OK) (dead:List Nat):(w.Qx dead).OK:=by
 intro t b hb
 have key: ∀(l:List (Nat×Bool)),oh (l.filter λp=>!dead.contains p.1) t=some b->dead.contains t=false/\oh l t=some b:=by
  intro l
  induction l with
  |nil=>intro h;cases h
  |cons q r ih=>
   intro h;obtain ⟨k,c⟩:=q
   by_cases hk:dead.contains k=true
   ·rw [List.filter_cons_of_neg (by rw [hk];decide)] at h;obtain ⟨h1,h2⟩:=ih h;refine ⟨h1,?_⟩;unfold oh;rw [Ai (λe=>by subst e;rw [h1] at hk;cases hk)];exact h2
   ·have hk:dead.contains k=false:=by simpa using hk
    rw [List.filter_cons_of_pos (by rw [hk];rfl)] at h;unfold oh at h⊢;split at h
    ·rename_i e;subst e;rw [Ac rfl];exact ⟨hk,h⟩
    ·rename_i e;rw [Ai e];exact ih h
 obtain ⟨h1,h2⟩:=key _ hb;obtain ⟨fr,h3⟩:=hw t b h2;refine ⟨fr,?_⟩;show (w.st.Qx dead).get t=_;unfold St.Qx;refine Va _ _ t fr _ _ ?_;show (Iq _ 0 w.st.tmps).getD t .undef=_;rw [Ws _ 0 w.st.tmps t ?_]
 ·exact h3
 ·refine Ck.2 ⟨Ev.2 ?_,by rw [Bl,h1];rfl⟩;refine Bz λhn=>?_
  have:w.st.get t= .undef:=by
   unfold St.get;rw [Al,Dv (by omega)];rfl
  rw [h3] at this;cases this
theorem IB {ops:Array Oper} {dead E:List Nat} (b3:dead.all (Zp ops)=true) {L0:Array Bool} {n:Nat} {w:WS} (hw:w.OK) {K:WS->Prop} (h:Abv T Γ dead E n L0 ops w K):Aex T Γ ops (λs=> ∃w':WS,w'.st=s.Qx dead/\w'.OK/\K w') n L0 w.st:=by
 unfold Abv at h;split at h
 ·rename_i hb;simp only [Ak] at hb;obtain ⟨b1,b2⟩:=hb;obtain ⟨w1,h1,h2,h3⟩:=Og _ hw h;have h3:=Ot.1 h3;refine ⟨E,w1.st,b1,Nat.le_of_ble_eq_true b2,h1,?_⟩;split at h3
  ·refine bA (λs hs=>?_) _ _ _ (cZ _ _ h2 h3);obtain ⟨w',h5,h6,h7⟩:=hs;exact ⟨w'.Qx dead,by rw [<-h5];rfl,h6.Qx _,h7⟩
  ·rw [fT] at h3;obtain ⟨w0,g0,g1,g2⟩:=nX _ _ h2 h3;obtain ⟨g3,g4⟩:=Ot.1 g2;refine bA (λs hs=>?_) _ _ _ (EH w1.st _ _ _ (λ_ _ _ _ _ hx=>hx) (cZ _ _ h2 g4));obtain ⟨⟨w',h5,_,h6⟩,h7⟩:=hs;have h6:=Ot.1 h6;have k1:Gg (λt=>To ops t=true) w1.st (w0.Qx dead).st:=g0.trans ((jw b3 w0.st).mono λt ht=>eh ht)
   have k2:Gg (λt=>To ops t=true) w1.st (w'.Qx dead).st:=by
    show Gg _ w1.st (w'.st.Qx dead);rw [h5];exact h7.trans ((jw b3 s).mono λt ht=>eh ht)
   have e:=UJ k1 k2 h6;refine ⟨w0.Qx dead,?_,g1.Qx _,g3⟩;rw [<-e,<-h5];rfl
 ·cases h
theorem wz {ops:Array Oper} {L0:Array Bool} {n:Nat} {w:WS} (hw:w.OK) {K:WS->Prop} (hc:Uy ops L0) (h:zm T Γ (ae T ops L0) n L0 ops w K):anyS T Γ ops (λs=> ∃w':WS,w'.st=s/\w'.OK/\K w') n L0 w.st\/Aex T Γ ops (λs=> ∃w':WS,w'.st=s/\w'.OK/\K w') n L0 w.st:=by
 unfold zm at h;split at h
 ·rename_i hb;simp only [Ak] at hb;obtain ⟨⟨b1,b2⟩,b3,b4,b5⟩:=hb;have hm: ∀a∈ae T ops L0,a.1∈Region.ready .any ops L0/\ ∃o,ops[a.1]?=some o/\fH T o=some a.2:= λa ha=>zi ha;have p1:=HW (λa:Nat×Nat×AV×OB=>a.1) b1;have p2:=HW (λa:Nat×Nat×AV×OB=>a.2.1) b2;have hlen:(ae T ops L0).length<=n:=Nat.le_of_ble_eq_true b4;obtain ⟨w1,h1,h2,h3⟩:=fW _ hw h;have h3:=Ot.1 h3;obtain ⟨w0,g1,g2⟩:=bk _ _ h2 h3;obtain ⟨g3,g4⟩:=Ot.1 g2;have hp:=IQ (Γ:=Γ) _ w.st w1.st (λa ha=>(hm a ha).2) (λa ha=>uG (Bk.1 b3 a ha)) p2 h1
  refine .inl (ky (λs hs=>?_) _ _ _ (UA (λa ha=>(hm a ha).2) n (n-(ae T ops L0).length) (ae T ops L0) _ L0 w1.st w.st (by omega) (qH _ _ h2 g4) hp
   (Af1 (ops:=ops) λi hi=>by obtain ⟨a,ha,rfl⟩:=Bh.1 hi;exact (hm a ha).1) (λa ha=>ha) (p2.and p1) hc λa ha x hx=>dw (hm a ha).1 hx))
  obtain ⟨w',h5,_,h6⟩:=hs;exact ⟨w0,((h5.symm.trans (eE h6)).symm),g1,g3⟩
 ·exact .inr (BM hw h)
theorem lT {ops:Array Oper} {draw:Bool} {w:WS} (hw:w.OK) {K:WS->Prop} (h:sM T Γ ops draw w K):lj T Γ ops draw w.st (λs=> ∃w':WS,w'.st=s/\w'.OK/\K w'):=by
 unfold sM at h;split at h
 ·split at h
  ·rename_i ho;obtain ⟨w1,h1,h2,h3⟩:=Og _ hw h;obtain ⟨w2,h4,h5⟩:=fW _ h2 h3;exact .inl ⟨w2.st,by simp only [Sl,Oz];rw [Ac ho,h1];exact h4,w2,rfl,h5⟩
  ·rename_i ho;split at h
   ·rename_i ho2;obtain ⟨w1,h1,h2,h3⟩:=Og _ hw h;obtain ⟨w2,h4,h5⟩:=fW _ h2 h3;exact .inl ⟨w2.st,by simp only [Sl,Oz];rw [Ai (by rw [ho];decide),Ac ho2,h1];exact h4,w2,rfl,h5⟩
   ·split at h
    ·rename_i hc;simp only [Ak] at hc;obtain ⟨w1,h1,h2,h3⟩:=Og _ hw h;split at h3
     ·exact .inr ⟨rfl,hc.1,w1.st,h1, .inl (mo _ _ h2 h3)⟩
     ·obtain ⟨w0,g1,g2⟩:=bk _ _ h2 h3;obtain ⟨g3,g4⟩:=Ot.1 g2
      exact .inr ⟨rfl,hc.1,w1.st,h1, .inl (ky (λs hs=>by
       obtain ⟨w',h5,_,h6⟩:=hs
       exact ⟨w0,((h5.symm.trans (eE h6)).symm),g1,g3⟩) _ _ _ (mo _ _ h2 g4))⟩
    ·split at h
     ·rename_i SF;obtain ⟨w1,h1,h2,h3⟩:=Og _ hw h;exact .inr ⟨rfl,SF,w1.st,h1,wz h2 (bb _ _ _ qK) h3⟩
     ·cases h
 ·obtain ⟨w1,h1,h2⟩:=uJ _ hw h;exact .inl ⟨w1.st,by simp only [Sl];rw [Ai (by simp)];exact h1,w1,rfl,h2⟩
theorem x7 {ops:Array Oper} {draw:Bool} {w:WS} (hw:w.OK) {K:WS->Prop} (h:BP T Γ ops draw w K):ze T Γ ops draw w.st (λs=> ∃w':WS,w'.st=s/\w'.OK/\K w'):=by
 unfold BP at h;split at h
 ·rename_i hb;have b3:=(Hc.1 hb).2;refine .inr ⟨w9 ops,b3,?_⟩;split at h
  ·rename_i hc;simp only [Ak,Abu] at hc;obtain ⟨w1,h1,h2,h3⟩:=Og _ hw h;exact .inr ⟨hc.1,hc.2.2.1,w1.st,h1, .inr (IB b3 h2 h3)⟩
  ·exact (lT hw h).mono λs ⟨w',h1,h2,h3⟩=>⟨w'.Qx (w9 ops),by rw [<-h1];rfl,h2.Qx _,h3⟩
 ·exact .inl (lT hw h)
end
end Go.Proofs.Ytfgfigkbgecfnaa
