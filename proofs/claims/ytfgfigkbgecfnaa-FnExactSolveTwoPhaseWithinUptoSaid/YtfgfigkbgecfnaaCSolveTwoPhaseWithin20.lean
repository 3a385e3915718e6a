/-
  Part 21 of the proof that the statement FnExactSolveTwoPhaseWithin holds.
-/
import Derived.Test.YtfgfigkbgecfnaaCSolveTwoPhaseWithin19
namespace Go.Proofs.Ytfgfigkbgecfnaa
open Go.RowKit
section
variable {P:Program} {T:Tab} {X:Ctx} {w w':World} {π π':Pi} {H H':List (Nat×OB)}
theorem QF {l i j:Nat} {v:Value} (h:Hw X w π H (.Kl l i j) v) (hk:Ll π π' H H') {b:OB} (hb:Ay H' l=some b):Hw X w π' H' (.Kl l i j) v:=by
 obtain ⟨r,b0,n,sz,g,o,len,cap,h1,h0,h2,h3,h4,h5,h6⟩:=h;obtain ⟨k1,b',f,k2,k3⟩:=hk l b hb;rw [h1] at k2;cases k2
 exact ⟨r,b,n,sz,g,o,len,cap,hb,by rw [k3,<-h0];cases b0<;>rfl,k1.trans h2,h3,h4,h5,h6⟩
theorem pD (hT:Ec P T) {st:St} {a:Act} (h:Bs X π st a w) (t:TypeId) (p x:AV) (vp vx:Value) (hp:Bx X w π st.heap p vp) (hx:Bx X w π st.heap x vx) (st':St)
  (he:Qb T st t p x=some st'): ∃w' π',(Instr.storeAt t vp vx).run P w= .ok () w'/\Bs X π' st' a w':=by
 unfold Qb at he;split at he
 rotate_left
 ·exact s9 hT h t p x vp vx hp hx st' he
 rename_i tY;clear tY;unfold c7 at he;split at he
 ·rename_i τ l i j ht;split at he
  ·rename_i x' st1 hs;obtain ⟨cN,h1,h2,h3,h4,h5⟩:=cF h hx hs;split at he
   ·rename_i e te rows kp Ww y hl hv;split at he
    ·rename_i lL;subst lL;simp only [Aa] at he;subst he;unfold St.at at hl;have hy:=Ni _ x' vx Ww y h3 h2 hv;obtain ⟨w',q1,q2⟩:=CP hT h1 ht hl (QF hp h4 hl) (fr:=false) (x:=y) (hy.Jg λk _ hk=>hk.imp id (Or.imp id λ⟨h1,_⟩=>by cases h1)) rfl;exact ⟨w',cN,q1,q2⟩
    ·cases he
   ·cases he
  ·cases he
 ·rename_i τ l j ht;split at he
  ·rename_i e te rows out kp m off len hl;split at he
   ·rename_i fr tr e' tid xs hm;split at he
    ·rename_i hc;obtain ⟨rfl,hc,rfl,rfl,ho⟩:=hc;simp only [Ak,Nv,Fy] at hc
     have l8:m≠l:= λe=>by rw [e,Nat.beq_refl] at hc;cases hc.2.1
     simp only [Aa] at he;subst he;unfold St.at at hl hm;obtain ⟨w',π',q1,q2⟩:=LO hT h ht hc.2.2 hl ho l8 hm hc.1 hp hx;exact ⟨w',π',q1,q2⟩
    ·cases he
   ·cases he
  ·cases he
 ·cases he
end
end Go.Proofs.Ytfgfigkbgecfnaa
