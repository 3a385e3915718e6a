/-
  Part 21 of the proof that the statement FnPatterns holds.
-/
import Derived.Test.YtkkdpknjohcekaaGreatCFPatterns19
namespace Go.Proofs.YtkkdpknjohcekaaGreat
open Go.RowKit
section
variable {P:Program} {T:Tab} {X:Ctx} {w w':World} {π π':Pi} {H H':List (Nat×OB)}
theorem OZ {l i j:Nat} {v:Value} (h:Hv X w π H (.Kf l i j) v) (hk:Kw π π' H H') {b:OB} (hb:At H' l=some b):Hv X w π' H' (.Kf l i j) v:=by
 obtain ⟨r,b0,n,sz,g,o,len,cap,h1,h0,h2,h3,h4,h5,h6⟩:=h
 obtain ⟨k1,b',f,k2,k3⟩:=hk l b hb
 rw [h1] at k2;cases k2
 exact ⟨r,b,n,sz,g,o,len,cap,hb,by rw [k3,<-h0];cases b0<;>rfl,k1.trans h2,h3,h4,h5,h6⟩
theorem oU (hT:Eb P T) {st:St} {a:Act} (h:Bi X π st a w) (t:TypeId) (p x:AV) (vp vx:Value) (hp:Bs X w π st.heap p vp) (hx:Bs X w π st.heap x vx) (st':St)
  (he:Pq T st t p x=some st'): ∃w' π',(Instr.storeAt t vp vx).run P w= .ok () w'/\Bi X π' st' a w':=by
 unfold Pq at he
 split at he
 rotate_left
 ·exact rf hT h t p x vp vx hp hx st' he
 rename_i tf;clear tf
 unfold bL at he
 split at he
 ·rename_i τ l i j ht
  split at he
  ·rename_i x' st1 hs
   obtain ⟨cn,h1,h2,h3,h4,h5⟩:=cb h hx hs
   split at he
   ·rename_i e te rows kp Wh y hl hv
    split at he
    ·rename_i l5;subst l5
     simp only [Aa] at he;subst he
     unfold St.at at hl
     have hy:=Mv _ x' vx Wh y h3 h2 hv
     obtain ⟨w',q1,q2⟩:=BV hT h1 ht hl (OZ hp h4 hl) (fr:=false) (x:=y) (hy.It λk _ hk=>hk.imp id (Or.imp id λ⟨h1,_⟩=>by cases h1)) rfl
     exact ⟨w',cn,q1,q2⟩
    ·cases he
   ·cases he
  ·cases he
 ·rename_i τ l j ht
  split at he
  ·rename_i e te rows out kp m off len hl
   split at he
   ·rename_i fr tr e' tid xs hm
    split at he
    ·rename_i hc
     obtain ⟨rfl,hc,rfl,rfl,ho⟩:=hc
     simp only [Ag,Nf,Es] at hc
     have iV:m≠l:= λe=>by rw [e,Nat.beq_refl] at hc;cases hc.2.1
     simp only [Aa] at he;subst he
     unfold St.at at hl hm
     obtain ⟨w',π',q1,q2⟩:=KI hT h ht hc.2.2 hl ho iV hm hc.1 hp hx
     exact ⟨w',π',q1,q2⟩
    ·cases he
   ·cases he
  ·cases he
 ·cases he
end
end Go.Proofs.YtkkdpknjohcekaaGreat
