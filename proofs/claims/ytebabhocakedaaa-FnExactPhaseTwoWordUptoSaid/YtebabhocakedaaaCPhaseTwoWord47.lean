/-
  Part 48 of the proof that the statement FnExactPhaseTwoWord holds.
-/
import Derived.Test.YtebabhocakedaaaCPhaseTwoWord46
namespace Go.Proofs.Ytebabhocakedaaa
open Go.RowKit
theorem Em {α:Type} {xs ys:List α} {i:Nat} {d:α} (h:i<xs.length):(xs++ys).getD i d=xs.getD i d:=by
 rw [List.getD_eq_getElem?_getD,List.getD_eq_getElem?_getD,List.getElem?_append_left h]
theorem Abp {α:Type} {xs:List α} {x d:α} :(xs++ [x]).getD xs.length d=x:=by
 rw [List.getD_eq_getElem?_getD,List.getElem?_append_right (Nat.le_refl _),Nat.sub_self];rfl
theorem Cv {α:Type} {xs:List α} {i:Nat} {d:α} (h:i<xs.length):xs.getD i d=xs[i]:=by
 rw [List.getD_eq_getElem?_getD,List.getElem?_eq_getElem h];rfl
structure Lv (g:List (List Int)) (ls:List Int) (k:Nat) (L:List (List Int)) (D:List Int):Prop where
 len:D.length=L.length
 pos:0<L.length
 mono: ∀i j,i≤j→j<L.length→D.getD i 0≤D.getD j 0
 Bax:k<L.length→ ∀j,j<L.length→D.getD j 0≤D.getD k 0+1
 par: ∀j,0<j→j<L.length→ ∃i l,i<j∧l∈ls∧L.getD j []=Aa (L.getD i []) (Af g l)∧D.getD j 0=D.getD i 0+1
 zero:D.getD 0 0=0
theorem Lv.add {g:List (List Int)} {ls:List Int} {k:Nat} {L:List (List Int)} {D:List Int} (h:Lv g ls k L D) (hk:k<L.length) {l:Int} (hl:l∈ls):
  Lv g ls k (L++ [Aa (L.getD k []) (Af g l)]) (D++ [D.getD k 0+1]):=by
 have hlen:=h.len
 have hD: ∀i,i<L.length→(D++ [D.getD k 0+1]).getD i 0=D.getD i 0:=fun i hi=>Em (by omega)
 have hDl:(D++ [D.getD k 0+1]).getD L.length 0=D.getD k 0+1:=by rw [←hlen];exact Abp
 refine ⟨by simp [hlen],by simp,fun i j hij hj=>?_,fun _ j hj=>?_,fun j h0 hj=>?_,?_⟩
 ·rw [List.length_append,List.length_singleton] at hj
  by_cases e:j=L.length
  ·subst e
   rw [hDl]
   by_cases e':i=L.length
   ·subst e';rw [hDl];exact Int.le_refl _
   ·rw [hD i (by omega)]
    exact h.Bax hk i (by omega)
  ·rw [hD i (by omega),hD j (by omega)]
   exact h.mono i j hij (by omega)
 ·rw [List.length_append,List.length_singleton] at hj
  rw [hD k hk]
  by_cases e:j=L.length
  ·subst e;rw [hDl];exact Int.le_refl _
  ·rw [hD j (by omega)];exact h.Bax hk j (by omega)
 ·rw [List.length_append,List.length_singleton] at hj
  by_cases e:j=L.length
  ·subst e
   exact ⟨k,l,hk,hl,by rw [Abp,Em hk],by rw [hDl,hD k hk]⟩
  ·obtain ⟨i,l',h1,h2,h3,h4⟩:=h.par j h0 (by omega)
   exact ⟨i,l',h1,h2,by rw [Em (by omega),Em (by omega)];exact h3,by rw [hD j (by omega),hD i (by omega)];exact h4⟩
 ·rw [hD 0 h.pos];exact h.zero
theorem Ak7 {g:List (List Int)} {ls:List Int} {k:Nat} : ∀(ls':List Int) (L:List (List Int)) (D:List Int),(∀l∈ls',l∈ls)→Lv g ls k L D→k<L.length→ ∀ {x:List Int} {d:Int},x=L.getD k []→d=D.getD k 0→
  Lv g ls k (Eg g x d ls' L D).1 (Eg g x d ls' L D).2.1∧(∃A,(Eg g x d ls' L D).1=L++A)∧(∃A,(Eg g x d ls' L D).2.1=D++A)∧
  ((Eg g x d ls' L D).2.2=true→ ∀l∈ls',∃j,j<(Eg g x d ls' L D).1.length∧(Eg g x d ls' L D).1.getD j []=Aa x (Af g l)∧(Eg g x d ls' L D).2.1.getD j 0≤d+1)
 | [],L,D,_,h,_,x,d,_,_=>⟨h,⟨[],by simp [Eg]⟩,⟨[],by simp [Eg]⟩,fun _ l hl=>by cases hl⟩
 |l::ls',L,D,hs,h,hk,x,d,hx,hd=>by
  have hs': ∀l∈ls',l∈ls:=fun l' h'=>hs l' (List.mem_cons_of_mem _ h')
  have hlen:=h.len
  simp only [Eg]
  split
  ·rename_i hm
   obtain ⟨a1,⟨A,a2⟩,⟨A',a3⟩,a4⟩:=Ak7 ls' L D hs' h hk hx hd
   refine ⟨a1,⟨A,a2⟩,⟨A',a3⟩,fun e l' hl'=>?_⟩
   rcases List.mem_cons.1 hl' with rfl|hl'
   ·obtain ⟨j,hj,hjx⟩:=List.mem_iff_getElem.1 hm
    refine ⟨j,by rw [a2,List.length_append];omega,by rw [a2,Em hj,Cv hj];exact hjx,?_⟩
    rw [a3,Em (by omega),hd]
    exact h.Bax hk j hj
   ·exact a4 e l' hl'
  ·split
   ·exact ⟨h,⟨[],by simp⟩,⟨[],by simp⟩,fun e=>by cases e⟩
   ·have hadd:=h.add hk (hs l (by simp))
    rw [←hx,←hd] at hadd
    obtain ⟨a1,⟨A,a2⟩,⟨A',a3⟩,a4⟩:=Ak7 ls' (L++ [Aa x (Af g l)]) (D++ [d+1]) hs' hadd (by rw [List.length_append];omega) (x:=x) (d:=d) (by rw [Em hk];exact hx) (by rw [Em (by omega)];exact hd)
    refine ⟨a1,⟨_::A,by rw [a2,List.append_assoc];rfl⟩,⟨_::A',by rw [a3,List.append_assoc];rfl⟩,fun e l' hl'=>?_⟩
    rcases List.mem_cons.1 hl' with rfl|hl'
    ·refine ⟨L.length,by rw [a2,List.length_append,List.length_append];simp only [List.length_singleton];omega,?_,?_⟩
     ·rw [a2,Em (by simp),Abp]
     ·rw [a3,Em (by simp [hlen]),←hlen,Abp]
      exact Int.le_refl _
    ·exact a4 e l' hl'
structure Ajt (g:List (List Int)) (ls:List Int) (L:List (List Int)) (D:List Int):Prop where
 len:D.length=L.length
 pos:0<L.length
 zero:D.getD 0 0=0
 par: ∀j,0<j→j<L.length→ ∃i l,i<j∧l∈ls∧L.getD j []=Aa (L.getD i []) (Af g l)∧D.getD j 0=D.getD i 0+1
 step: ∀i,i<L.length→ ∀l∈ls,∃j,j<L.length∧L.getD j []=Aa (L.getD i []) (Af g l)∧D.getD j 0≤D.getD i 0+1
theorem At5 {g:List (List Int)} {ls:List Int} : ∀(f k:Nat) (L:List (List Int)) (D:List Int),3001≤f+k→Lv g ls k L D→k≤L.length→
  (∀i,i<k→ ∀l∈ls,∃j,j<L.length∧L.getD j []=Aa (L.getD i []) (Af g l)∧D.getD j 0≤D.getD i 0+1)→
  (Fu g ls f k L D).2.2=true→(Fu g ls f k L D).1.length≤3000→Ajt g ls (Fu g ls f k L D).1 (Fu g ls f k L D).2.1
 |0,k,L,D,hf,h,hkL,hc,hw,h3=>by
  simp only [Fu] at h3⊢
  omega
 |f+1,k,L,D,hf,h,hkL,hc,hw,h3=>by
  simp only [Fu] at hw h3⊢
  split
  ·rename_i hk
   rw [if_pos hk] at hw h3
   obtain ⟨a1,⟨A,a2⟩,⟨A',a3⟩,a4⟩:=Ak7 (x:=L.getD k []) (d:=D.getD k 0) ls L D (fun _ h=>h) h hk rfl rfl
   have hlen:=h.len
   split
   ·rename_i L' D' he
    rw [he] at a1 a2 a3 a4
    simp only [he] at hw h3
    have a2:L'=L++A:=a2
    have a3:D'=D++A':=a3
    have a4:=a4 rfl
    dsimp only at a4
    have hLl:L.length≤L'.length:=by rw [a2,List.length_append];omega
    refine At5 f (k+1) L' D' (by omega) ⟨a1.len,a1.pos,a1.mono,fun hk1 j hj=>?_,a1.par,a1.zero⟩ (by omega) (fun i hi l hl=>?_) hw h3
    ·have h1:D'.getD j 0≤D'.getD k 0+1:=a1.Bax (show k<L'.length by omega) j hj
     have h2:D'.getD k 0≤D'.getD (k+1) 0:=a1.mono k (k+1) (by omega) hk1
     omega
    ·by_cases e:i=k
     ·subst e
      obtain ⟨j,b1,b2,b3⟩:=a4 l hl
      refine ⟨j,b1,?_,?_⟩
      ·rw [b2,a2,Em (by omega)]
      ·rw [show D'.getD i 0=D.getD i 0 by rw [a3,Em (by omega)]];exact b3
     ·obtain ⟨j,b1,b2,b3⟩:=hc i (by omega) l hl
      refine ⟨j,by omega,?_,?_⟩
      ·rw [a2,Em (by omega),Em (by omega)];exact b2
      ·rw [a3,Em (by omega),Em (by omega)];exact b3
   ·rename_i L' D' he
    simp only [he] at hw
    cases hw
  ·rename_i hk
   exact ⟨h.len,h.pos,h.zero,h.par,fun i hi=>hc i (by have hi:i<L.length:=hi;omega)⟩
theorem Ak8 {p:PP} {s:List Int} (hv:Bg p=true) (hs:s.length≤20) (hr: ∀y∈s,0≤y∧y<p.1) (hw:(Ev p.2.2.1 s).2.2=true):
  Ajt p.2.2.1 (Ae p.2.2.1.length) (Ev p.2.2.1 s).1 (Ev p.2.2.1 s).2.1:=by
 have hb:=(Bcv hv hs hr).1.ok.few
 refine At5 3001 0 [s] [0] (by omega) ⟨rfl,by simp,fun i j hij hj=>?_,fun _ j hj=>?_,fun j h0 hj=>?_,rfl⟩ (Nat.zero_le _) (fun i hi=>absurd hi (Nat.not_lt_zero _)) hw hb
 ·have:j=0:=by simpa using hj
  subst this
  have:i=0:=by omega
  subst this
  exact Int.le_refl _
 ·have:j=0:=by simpa using hj
  subst this
  simp
 ·have:j=0:=by simpa using hj
  omega
theorem Ai7 {p:PP} (hV:Valid p) {x:List Int} (hx: ∀y∈x,0≤y∧y<p.1) {l:Int} (hl:l∈Ae p.2.2.1.length):
  -l∈Ae p.2.2.1.length∧Aa (Aa x (Af p.2.2.1 l)) (Af p.2.2.1 (-l))=x:=by
 obtain ⟨k,hk,hkl⟩:=Na (Gh hl)
 have hg:=Ae5 (hV.perm _ (List.getElem_mem hk))
 have hgl:=hV.len _ (List.getElem_mem hk)
 have hn:=hV.n
 have hp:Pm p.1.toNat (p.2.2.1[k]):=⟨by omega,hg⟩
 have key: ∀q r:List Int,Pm p.1.toNat q→Pm p.1.toNat r→Aa q r=upto p.1.toNat→Aa (Aa x q) r=x:=fun q r hq hr he=>by
  refine List.ext_getElem (by rw [Mi,Mi]) fun i h1 h2=>?_
  have hxi:=hx _ (List.getElem_mem h2)
  obtain ⟨xi,hxe⟩:=Int.eq_ofNat_of_zero_le hxi.1
  have hxn:xi<p.1.toNat:=by omega
  have e1:ap (Aa q r) xi=ap (upto p.1.toNat) xi:=congrArg (fun z=>ap z xi) he
  rw [Ez hq hr hxn,Ac9 hxn] at e1
  simp only [Aa,List.getElem_map,hxe]
  have h3:=(hq.at' hxn).1
  have h4:=(hr.at' (hq.lt hxn)).1
  rw [h3,h4,e1]
 rcases hkl with rfl|rfl
 ·refine ⟨(Tr hk).2,?_⟩
  rw [Ma hk,Lz hk]
  exact key _ _ hp hp.inv (Zt hp)
 ·refine ⟨by rw [Int.neg_neg];exact (Tr hk).1,?_⟩
  rw [Int.neg_neg,Ma hk,Lz hk]
  exact key _ _ hp.inv hp (Sm hp)
structure Iv (g:List (List Int)) (ls:List Int) (L:List (List Int)) (S:List Int→Prop) (d:List Int→Int):Prop where
 nn: ∀x∈L,0≤d x
 zero: ∀x∈L,d x=0↔S x
 step: ∀x∈L,∀l∈ls,d (Aa x (Af g l))≤d x+1
 down: ∀x∈L,0<d x→ ∃l∈ls,d (Aa x (Af g l))=d x-1
structure Ajq (g:List (List Int)) (ls:List Int) (L:List (List Int)):Prop where
 next: ∀x∈L,∀l∈ls,Aa x (Af g l)∈L
 back: ∀x∈L,∀l∈ls,-l∈ls∧Aa (Aa x (Af g l)) (Af g (-l))=x
theorem Iv.le {g:List (List Int)} {ls:List Int} {L:List (List Int)} {S:List Int→Prop} {d d':List Int→Int} (hc:Ajq g ls L) (h:Iv g ls L S d) (h':Iv g ls L S d'):
  ∀(n:Nat) (x:List Int),x∈L→d' x=n→d x≤n
 |0,x,hx,e=>by
  have:=(h.zero x hx).2 ((h'.zero x hx).1 e)
  omega
 |n+1,x,hx,e=>by
  obtain ⟨l,hl,hd⟩:=h'.down x hx (by omega)
  obtain ⟨b1,b2⟩:=hc.back x hx l hl
  have h1:=Iv.le hc h h' n _ (hc.next x hx l hl) (by omega)
  have h2:=h.step _ (hc.next x hx l hl) _ b1
  rw [b2] at h2
  omega
theorem Iv.eq {g:List (List Int)} {ls:List Int} {L:List (List Int)} {S:List Int→Prop} {d d':List Int→Int} (hc:Ajq g ls L) (h:Iv g ls L S d) (h':Iv g ls L S d') {x:List Int} (hx:x∈L):d x=d' x:=by
 have n1:=h.nn x hx
 have n2:=h'.nn x hx
 have h1:=Iv.le hc h h' (d' x).toNat x hx (by omega)
 have h2:=Iv.le hc h' h (d x).toNat x hx (by omega)
 omega
theorem Iv.Bax {g:List (List Int)} {ls:List Int} {L:List (List Int)} {S:List Int→Prop} {d:List Int→Int} (hc:Ajq g ls L) (h:Iv g ls L S d) {x:List Int} (hx:x∈L) {l:Int} (hl:l∈ls):
  d x-1≤d (Aa x (Af g l)):=by
 obtain ⟨b1,b2⟩:=hc.back x hx l hl
 have h2:=h.step _ (hc.next x hx l hl) _ b1
 rw [b2] at h2
 omega
def Fw (L:List (List Int)) (D:List Int) (x:List Int):Int:=if x∈L then D.getD (L.idxOf x) 0 else-1
theorem Ly {L:List (List Int)} (hn:L.Nodup) {j:Nat} (hj:j<L.length):L.idxOf (L.getD j [])=j:=by
 rw [Cv hj]
 exact hn.idxOf_getElem j hj
theorem Sj {L:List (List Int)} {j:Nat} (hj:j<L.length):L.getD j []∈L:=by rw [Cv hj];exact List.getElem_mem hj
theorem Ado {L:List (List Int)} {D:List Int} (hn:L.Nodup) {j:Nat} (hj:j<L.length):Fw L D (L.getD j [])=D.getD j 0:=by
 unfold Fw
 rw [if_pos (Sj hj),Ly hn hj]
theorem Amw {p:PP} (hV:Valid p) {m:Nat} {L:List (List Int)} {D:List Int} (hb:Ns p m L D) (h:Ajt p.2.2.1 (Ae p.2.2.1.length) L D):Ajq p.2.2.1 (Ae p.2.2.1.length) L where
 next x hx l hl:=by
  obtain ⟨i,hi,rfl⟩:=List.mem_iff_getElem.1 hx
  obtain ⟨j,h1,h2,_⟩:=h.step i hi l hl
  rw [Cv hi] at h2
  rw [←h2]
  exact Sj h1
 back x hx l hl:=Ai7 hV (hb.row x hx) hl
theorem Auc {p:PP} (hV:Valid p) {m:Nat} {L:List (List Int)} {D:List Int} (hb:Ns p m L D) (h:Ajt p.2.2.1 (Ae p.2.2.1.length) L D):
  Iv p.2.2.1 (Ae p.2.2.1.length) L (fun x=>x=L.getD 0 []) (Fw L D) where
 nn x hx:=by
  obtain ⟨i,hi,rfl⟩:=List.mem_iff_getElem.1 hx
  rw [←Cv (d:= []) hi,Ado hb.ok.nodup hi]
  have:=hb.dep i (by rw [hb.len];exact hi)
  rw [Cv (by rw [hb.len];exact hi)]
  omega
 zero x hx:=by
  obtain ⟨i,hi,rfl⟩:=List.mem_iff_getElem.1 hx
  rw [←Cv (d:= []) hi,Ado hb.ok.nodup hi]
  constructor
  ·intro h0
   by_cases e:i=0
   ·rw [e]
   ·obtain ⟨k,l,h1,_,_,h4⟩:=h.par i (by omega) hi
    have hk:k<D.length:=by rw [hb.len];omega
    have:=hb.dep k hk
    rw [←Cv (d:=0) hk] at this
    omega
  ·intro e
   have:i=0:=by
    have h1:=Ly hb.ok.nodup hi
    have h2:=Ly hb.ok.nodup h.pos
    rw [e,h2] at h1
    exact h1.symm
   rw [this]
   exact h.zero
 step x hx l hl:=by
  obtain ⟨i,hi,rfl⟩:=List.mem_iff_getElem.1 hx
  rw [←Cv (d:= []) hi,Ado hb.ok.nodup hi]
  obtain ⟨j,h1,h2,h3⟩:=h.step i hi l hl
  rw [←h2,Ado hb.ok.nodup h1]
  exact h3
 down x hx h0:=by
  obtain ⟨i,hi,rfl⟩:=List.mem_iff_getElem.1 hx
  rw [←Cv (d:= []) hi,Ado hb.ok.nodup hi] at h0⊢
  have hi0:0<i:=by
   rcases Nat.eq_zero_or_pos i with e|e
   ·subst e;rw [h.zero] at h0;omega
   ·exact e
  obtain ⟨k,l,h1,h2,h3,h4⟩:=h.par i hi0 hi
  have hk:k<L.length:=by omega
  obtain ⟨b1,b2⟩:=Ai7 hV (hb.row _ (Sj hk)) h2
  refine ⟨-l,b1,?_⟩
  rw [h3,b2,Ado hb.ok.nodup hk]
  omega
end Go.Proofs.Ytebabhocakedaaa
