/-
  Part 21 of the proof that the statement FnExactLowerBoundWithInverse holds.
-/
import Derived.Test.YtfolipnappekaaaGreatCLowerBoundWithInverse19
namespace Go.Proofs.YtfolipnappekaaaGreat
open Go.RowKit
section
variable {P:Program} {T:Tab} {X:Ctx} {w w':World} {π π':Pi} {H H':List (Nat×OB)}
theorem BN {l i j:Nat} {v:Value} (h:Dr X w π H (.Fl l i j) v) (hk:Gd π π' H H') {b:OB} (hb:Ad H' l=some b):Dr X w π' H' (.Fl l i j) v:=by
 obtain ⟨r,b0,n,sz,g,o,len,cap,h1,h0,h2,h3,h4,h5,h6⟩:=h
 obtain ⟨k1,b',f,k2,k3⟩:=hk l b hb
 rw [h1] at k2;cases k2
 exact ⟨r,b,n,sz,g,o,len,cap,hb,by rw [k3,<-h0];cases b0<;>rfl,k1.trans h2,h3,h4,h5,h6⟩
theorem jt (hT:Bz P T) {st:St} {a:Act} (h:Aj X π st a w) (t:TypeId) (p x:AV) (vp vx:Value) (hp:Am X w π st.heap p vp) (hx:Am X w π st.heap x vx) (st':St)
  (he:Jy T st t p x=some st'): ∃w' π',(Instr.storeAt t vp vx).run P w= .ok () w'/\Aj X π' st' a w':=by
 unfold Jy at he
 split at he
 rotate_left
 ·exact lz hT h t p x vp vx hp hx st' he
 rename_i ng;clear ng
 unfold Va at he
 split at he
 ·rename_i τ l i j ht
  split at he
  ·rename_i x' st1 hs
   obtain ⟨Vz,h1,h2,h3,h4,h5⟩:=Vs h hx hs
   split at he
   ·rename_i e te rows kp Ow y hl hv
    split at he
    ·rename_i eN;subst eN
     simp only [Option.some.injEq] at he;subst he
     unfold St.at at hl
     have hy:=Jn _ x' vx Ow y h3 h2 hv
     obtain ⟨w',q1,q2⟩:=uH hT h1 ht hl (BN hp h4 hl) (fr:=false) (x:=y) (hy.El λk _ hk=>hk.imp id (Or.imp id λ⟨h1,_⟩=>by cases h1)) rfl
     exact ⟨w',Vz,q1,q2⟩
    ·cases he
   ·cases he
  ·cases he
 ·rename_i τ l j ht
  split at he
  ·rename_i e te rows out kp m off len hl
   split at he
   ·rename_i fr tr e' tid xs hm
    split at he
    ·rename_i hc
     obtain ⟨rfl,hc,rfl,rfl,ho⟩:=hc
     simp only [Bool.and_eq_true,Nat.blt_eq,Bool.not_eq_true'] at hc
     have eg:m≠l:= λe=>by rw [e,Nat.beq_refl] at hc;cases hc.2.1
     simp only [Option.some.injEq] at he;subst he
     unfold St.at at hl hm
     obtain ⟨w',π',q1,q2⟩:=yK hT h ht hc.2.2 hl ho eg hm hc.1 hp hx
     exact ⟨w',π',q1,q2⟩
    ·cases he
   ·cases he
  ·cases he
 ·cases he
end
end Go.Proofs.YtfolipnappekaaaGreat
