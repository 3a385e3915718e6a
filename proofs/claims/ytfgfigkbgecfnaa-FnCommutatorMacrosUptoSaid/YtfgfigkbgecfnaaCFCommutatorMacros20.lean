/-
  Part 21 of the proof that the statement FnCommutatorMacros holds.
-/
import Derived.Test.YtfgfigkbgecfnaaCFCommutatorMacros19
namespace Go.Proofs.Ytfgfigkbgecfnaa
open Go.RowKit
section
variable {P:Program} {T:Tab} {X:Ctx} {w w':World} {π π':Pi} {H H':List (Nat×OB)}
theorem wP {l i j:Nat} {v:Value} (h:Fe X w π H (.Hf l i j) v) (hk:Ic π π' H H') {b:OB} (hb:Ap H' l=some b):Fe X w π' H' (.Hf l i j) v:=by
 obtain ⟨r,b0,n,sz,g,o,len,cap,h1,h0,h2,h3,h4,h5,h6⟩:=h
 obtain ⟨k1,b',f,k2,k3⟩:=hk l b hb
 rw [h1] at k2;cases k2
 exact ⟨r,b,n,sz,g,o,len,cap,hb,by rw [k3,<-h0];cases b0<;>rfl,k1.trans h2,h3,h4,h5,h6⟩
theorem j5 (hT:De P T) {st:St} {a:Act} (h:Ax X π st a w) (t:TypeId) (p x:AV) (vp vx:Value) (hp:Ba X w π st.heap p vp) (hx:Ba X w π st.heap x vx) (st':St)
  (he:Mh T st t p x=some st'): ∃w' π',(Instr.storeAt t vp vx).run P w= .ok () w'/\Ax X π' st' a w':=by
 unfold Mh at he
 split at he
 rotate_left
 ·exact kN hT h t p x vp vx hp hx st' he
 rename_i ma;clear ma
 unfold Wv at he
 split at he
 ·rename_i τ l i j ht
  split at he
  ·rename_i x' st1 hs
   obtain ⟨Xp,h1,h2,h3,h4,h5⟩:=Xk h hx hs
   split at he
   ·rename_i e te rows kp Rj y hl hv
    split at he
    ·rename_i fb;subst fb
     simp only [Aa] at he;subst he
     unfold St.at at hl
     have hy:=Jz _ x' vx Rj y h3 h2 hv
     obtain ⟨w',q1,q2⟩:=rW hT h1 ht hl (wP hp h4 hl) (fr:=false) (x:=y) (hy.Gj λk _ hk=>hk.imp id (Or.imp id λ⟨h1,_⟩=>by cases h1)) rfl
     exact ⟨w',Xp,q1,q2⟩
    ·cases he
   ·cases he
  ·cases he
 ·rename_i τ l j ht
  split at he
  ·rename_i e te rows out kp m off len hl
   split at he
   ·rename_i fr tr e' tid xs hm
    split at he
    ·rename_i hc
     obtain ⟨rfl,hc,rfl,rfl,ho⟩:=hc
     simp only [Ag,Ki,Ds] at hc
     have cB:m≠l:= λe=>by rw [e,Nat.beq_refl] at hc;cases hc.2.1
     simp only [Aa] at he;subst he
     unfold St.at at hl hm
     obtain ⟨w',π',q1,q2⟩:=uZ hT h ht hc.2.2 hl ho cB hm hc.1 hp hx
     exact ⟨w',π',q1,q2⟩
    ·cases he
   ·cases he
  ·cases he
 ·cases he
end
end Go.Proofs.Ytfgfigkbgecfnaa
