/-
  Part 21 of the proof that the statement FnExactLowerBounds holds.
-/
import Derived.Test.YtfolipnappekaaaGreatCLowerBounds19
namespace Go.Proofs.YtfolipnappekaaaGreat
open Go.RowKit
section
variable {P:Program} {T:Tab} {X:Ctx} {w w':World} {π π':Pi} {H H':List (Nat×OB)}
theorem DQ {l i j:Nat} {v:Value} (h:Dw X w π H (.Fp l i j) v) (hk:Gf π π' H H') {b:OB} (hb:Ad H' l=some b):Dw X w π' H' (.Fp l i j) v:=by
 obtain ⟨r,b0,n,sz,g,o,len,cap,h1,h0,h2,h3,h4,h5,h6⟩:=h
 obtain ⟨k1,b',f,k2,k3⟩:=hk l b hb
 rw [h1] at k2;cases k2
 exact ⟨r,b,n,sz,g,o,len,cap,hb,by rw [k3,<-h0];cases b0<;>rfl,k1.trans h2,h3,h4,h5,h6⟩
theorem jY (hT:Ca P T) {st:St} {a:Act} (h:Al X π st a w) (t:TypeId) (p x:AV) (vp vx:Value) (hp:An X w π st.heap p vp) (hx:An X w π st.heap x vx) (st':St)
  (he:Kf T st t p x=some st'): ∃w' π',(Instr.storeAt t vp vx).run P w= .ok () w'/\Al X π' st' a w':=by
 unfold Kf at he
 split at he
 rotate_left
 ·exact mb hT h t p x vp vx hp hx st' he
 rename_i o5;clear o5
 unfold Vw at he
 split at he
 ·rename_i τ l i j ht
  split at he
  ·rename_i x' st1 hs
   obtain ⟨Wv,h1,h2,h3,h4,h5⟩:=Wn h hx hs
   split at he
   ·rename_i e te rows kp Pk y hl hv
    split at he
    ·rename_i fq;subst fq
     simp only [Option.some.injEq] at he;subst he
     unfold St.at at hl
     have hy:=Jt _ x' vx Pk y h3 h2 hv
     obtain ⟨w',q1,q2⟩:=vO hT h1 ht hl (DQ hp h4 hl) (fr:=false) (x:=y) (hy.Ep λk _ hk=>hk.imp id (Or.imp id λ⟨h1,_⟩=>by cases h1)) rfl
     exact ⟨w',Wv,q1,q2⟩
    ·cases he
   ·cases he
  ·cases he
 ·rename_i τ l j ht
  split at he
  ·rename_i e te rows out kp m off len hl
   split at he
   ·rename_i fr tr e' tid xs hm
    split at he
    ·rename_i hc
     obtain ⟨rfl,hc,rfl,rfl,ho⟩:=hc
     simp only [Bool.and_eq_true,Nat.blt_eq,Bool.not_eq_true'] at hc
     have eQ:m≠l:= λe=>by rw [e,Nat.beq_refl] at hc;cases hc.2.1
     simp only [Option.some.injEq] at he;subst he
     unfold St.at at hl hm
     obtain ⟨w',π',q1,q2⟩:=zJ hT h ht hc.2.2 hl ho eQ hm hc.1 hp hx
     exact ⟨w',π',q1,q2⟩
    ·cases he
   ·cases he
  ·cases he
 ·cases he
end
end Go.Proofs.YtfolipnappekaaaGreat
