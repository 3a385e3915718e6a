/-
  Part 21 of the proof that the statement FnExactProvesNoSolutionWithin holds.
-/
import Derived.Test.YtfolipnappekaaaGreatCProvesNoSolutionWithin19
namespace Go.Proofs.YtfolipnappekaaaGreat
open Go.RowKit
section
variable {P:Program} {T:Tab} {X:Ctx} {w w':World} {π π':Pi} {H H':List (Nat×OB)}
theorem HN {l i j:Nat} {v:Value} (h:Dv X w π H (.Fu l i j) v) (hk:Gh π π' H H') {b:OB} (hb:Ad H' l=some b):Dv X w π' H' (.Fu l i j) v:=by
 obtain ⟨r,b0,n,sz,g,o,len,cap,h1,h0,h2,h3,h4,h5,h6⟩:=h
 obtain ⟨k1,b',f,k2,k3⟩:=hk l b hb
 rw [h1] at k2;cases k2
 exact ⟨r,b,n,sz,g,o,len,cap,hb,by rw [k3,<-h0];cases b0<;>rfl,k1.trans h2,h3,h4,h5,h6⟩
theorem lG (hT:By P T) {st:St} {a:Act} (h:Ak X π st a w) (t:TypeId) (p x:AV) (vp vx:Value) (hp:Ao X w π st.heap p vp) (hx:Ao X w π st.heap x vx) (st':St)
  (he:Kw T st t p x=some st'): ∃w' π',(Instr.storeAt t vp vx).run P w= .ok () w'/\Ak X π' st' a w':=by
 unfold Kw at he
 split at he
 rotate_left
 ·exact nY hT h t p x vp vx hp hx st' he
 rename_i pS;clear pS
 unfold Xj at he
 split at he
 ·rename_i τ l i j ht
  split at he
  ·rename_i x' st1 hs
   obtain ⟨Yi,h1,h2,h3,h4,h5⟩:=Yb h hx hs
   split at he
   ·rename_i e te rows kp Qt y hl hv
    split at he
    ·rename_i gO;subst gO
     simp only [Option.some.injEq] at he;subst he
     unfold St.at at hl
     have hy:=Kj _ x' vx Qt y h3 h2 hv
     obtain ⟨w',q1,q2⟩:=xB hT h1 ht hl (HN hp h4 hl) (fr:=false) (x:=y) (hy.En λk _ hk=>hk.imp id (Or.imp id λ⟨h1,_⟩=>by cases h1)) rfl
     exact ⟨w',Yi,q1,q2⟩
    ·cases he
   ·cases he
  ·cases he
 ·rename_i τ l j ht
  split at he
  ·rename_i e te rows out kp m off len hl
   split at he
   ·rename_i fr tr e' tid xs hm
    split at he
    ·rename_i hc
     obtain ⟨rfl,hc,rfl,rfl,ho⟩:=hc
     simp only [Bool.and_eq_true,Nat.blt_eq,Bool.not_eq_true'] at hc
     have gg:m≠l:= λe=>by rw [e,Nat.beq_refl] at hc;cases hc.2.1
     simp only [Option.some.injEq] at he;subst he
     unfold St.at at hl hm
     obtain ⟨w',π',q1,q2⟩:=CX hT h ht hc.2.2 hl ho gg hm hc.1 hp hx
     exact ⟨w',π',q1,q2⟩
    ·cases he
   ·cases he
  ·cases he
 ·cases he
end
end Go.Proofs.YtfolipnappekaaaGreat
