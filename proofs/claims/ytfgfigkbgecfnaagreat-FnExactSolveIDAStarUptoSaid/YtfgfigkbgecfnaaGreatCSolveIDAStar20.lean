/-
  Part 21 of the proof that the statement FnExactSolveIDAStar holds.
-/
import Derived.Test.YtfgfigkbgecfnaaGreatCSolveIDAStar19
namespace Go.Proofs.YtfgfigkbgecfnaaGreat
open Go.RowKit
section
variable {P:Program} {T:Tab} {X:Ctx} {w w':World} {π π':Pi} {H H':List (Nat×OB)}
theorem TH {l i j:Nat} {v:Value} (h:Hk X w π H (.Kd l i j) v) (hk:Kz π π' H H') {b:OB} (hb:Au H' l=some b):Hk X w π' H' (.Kd l i j) v:=by
 obtain ⟨r,b0,n,sz,g,o,len,cap,h1,h0,h2,h3,h4,h5,h6⟩:=h
 obtain ⟨k1,b',f,k2,k3⟩:=hk l b hb
 rw [h1] at k2;cases k2
 exact ⟨r,b,n,sz,g,o,len,cap,hb,by rw [k3,<-h0];cases b0<;>rfl,k1.trans h2,h3,h4,h5,h6⟩
theorem ql (hT:Ed P T) {st:St} {a:Act} (h:Bk X π st a w) (t:TypeId) (p x:AV) (vp vx:Value) (hp:Bs X w π st.heap p vp) (hx:Bs X w π st.heap x vx) (st':St)
  (he:Qf T st t p x=some st'): ∃w' π',(Instr.storeAt t vp vx).run P w= .ok () w'/\Bk X π' st' a w':=by
 unfold Qf at he
 split at he
 rotate_left
 ·exact sU hT h t p x vp vx hp hx st' he
 rename_i vA;clear vA
 unfold cz at he
 split at he
 ·rename_i τ l i j ht
  split at he
  ·rename_i x' st1 hs
   obtain ⟨cY,h1,h2,h3,h4,h5⟩:=cP h hx hs
   split at he
   ·rename_i e te rows kp Ww y hl hv
    split at he
    ·rename_i mb;subst mb
     simp only [Aa] at he;subst he
     unfold St.at at hl
     have hy:=Na _ x' vx Ww y h3 h2 hv
     obtain ⟨w',q1,q2⟩:=FD hT h1 ht hl (TH hp h4 hl) (fr:=false) (x:=y) (hy.Iv λk _ hk=>hk.imp id (Or.imp id λ⟨h1,_⟩=>by cases h1)) rfl
     exact ⟨w',cY,q1,q2⟩
    ·cases he
   ·cases he
  ·cases he
 ·rename_i τ l j ht
  split at he
  ·rename_i e te rows out kp m off len hl
   split at he
   ·rename_i fr tr e' tid xs hm
    split at he
    ·rename_i hc
     obtain ⟨rfl,hc,rfl,rfl,ho⟩:=hc
     simp only [Af,Nm,Ei] at hc
     have lG:m≠l:= λe=>by rw [e,Nat.beq_refl] at hc;cases hc.2.1
     simp only [Aa] at he;subst he
     unfold St.at at hl hm
     obtain ⟨w',π',q1,q2⟩:=OJ hT h ht hc.2.2 hl ho lG hm hc.1 hp hx
     exact ⟨w',π',q1,q2⟩
    ·cases he
   ·cases he
  ·cases he
 ·cases he
end
end Go.Proofs.YtfgfigkbgecfnaaGreat
