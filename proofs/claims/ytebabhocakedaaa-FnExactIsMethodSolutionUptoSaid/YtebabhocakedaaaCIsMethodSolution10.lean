/-
  Part 11 of the proof that the statement FnExactIsMethodSolution holds.
-/
import Derived.Test.YtebabhocakedaaaCIsMethodSolution09
namespace Go.Proofs.Ytebabhocakedaaa
open Go.RowKit
section
variable {P:Program} {T:Tab} {X:Ctx} {w w':World} {π:Pi} {H:List (Nat×OB)}
theorem OB.map_map (f g:AC→AC) (b:OB):OB.map g (OB.map f b)=OB.map (fun c=>g (f c)) b:=by
 cases b with
 |var t vs=>simp [OB.map,Function.comp_def]
 |_=>rfl
theorem OB.At0 (b:OB):OB.map (fun c=>c) b=b:=by
 cases b with
 |var t vs=>simp [OB.map]
 |_=>rfl
def Fb (π π':Pi) (H H':List (Nat×OB)):Prop:= ∀l b',Ac H' l=some b'→π' l=π l∧ ∃b f,Ac H l=some b∧b'=OB.map f b
theorem Fb.refl (π:Pi) (H:List (Nat×OB)):Fb π π H H:=fun _ b h=>⟨rfl,b,fun c=>c,h,(OB.At0 b).symm⟩
theorem Fb.trans {π1 π2 π3:Pi} {H1 H2 H3:List (Nat×OB)} (h:Fb π1 π2 H1 H2) (h':Fb π2 π3 H2 H3):Fb π1 π3 H1 H3:=fun l b hb=>by
 obtain ⟨e1,b1,f1,h1,rfl⟩:=h' l b hb
 obtain ⟨e2,b2,f2,h2,rfl⟩:=h l b1 h1
 exact ⟨e1.trans e2,b2,_,h2,OB.map_map f2 f1 b2⟩
theorem Fb.freeze (st:St) (l:Nat) (fr:Bool) (e:Ty) (xs:List e.den):Fb π (upd π l none) st.heap (st.freeze l fr e xs).heap:=fun k b hb=>by
 by_cases hk:k=l
 ·subst hk;rw [St.Fy] at hb;cases hb
 ·rw [St.Jq st l k fr e xs hk] at hb
  cases h0:Ac st.heap k with
  |none=>rw [h0] at hb;cases hb
  |some b0=>
   rw [h0] at hb
   simp only [Option.map_some,Option.some.injEq] at hb
   exact ⟨Co π none hk,b0,_,rfl,hb.symm⟩
theorem Fb.Dt (st:St) (l:Nat) (v:Ty) (m:ByteArray→Option v.den):Fb π (upd π l none) st.heap (st.Dt l v m).heap:=fun k b hb=>by
 by_cases hk:k=l
 ·subst hk;rw [St.Ki] at hb;cases hb
 ·rw [St.Ji st l k v m hk] at hb
  cases h0:Ac st.heap k with
  |none=>rw [h0] at hb;cases hb
  |some b0=>
   rw [h0] at hb
   simp only [Option.map_some,Option.some.injEq] at hb
   exact ⟨Co π none hk,b0,_,rfl,hb.symm⟩
theorem Fb.gone {π':Pi} {H':List (Nat×OB)} (k:Fb π π' H H') {l:Nat} (h:Ac H l=none):Ac H' l=none:=by
 cases hb:Ac H' l with
 |none=>rfl
 |some b=>
  obtain ⟨_,b0,f,h1,_⟩:=k l b hb
  rw [h] at h1;cases h1
def Bh (st:St):AC→AC
 | .own l off len=>match st.at l with
  |some (.arr fr _ e _ xs)=> .data fr (.slice e) ((xs.drop off).take len)
  |some (.xarr e _ xs)=> .data false (.slice e) ((xs.drop off).take len)
  |_=> .own l off len
 | .mapr l=>match st.at l with
  |some (.smp v m)=> .data false (.smap v) m
  |_=> .mapr l
 |c=>c
theorem Km {st:St} {c:AC} (h:c.settled=true):Bh st c=c:=by
 cases c<;>simp [AC.settled] at h<;>rfl
theorem Alx {st st':St} {f:AC→AC} {l:Nat} (hH: ∀m,m≠l→Ac st'.heap m=(Ac st.heap m).map (OB.map f)) {c:AC} (hc: ∀k∈c.refs,k≠l):Bh st' c=Bh st c:=by
 cases c with
 |own k off len=>
  have hk:k≠l:=hc k (by simp [AC.refs])
  simp only [Bh,St.at,hH k hk]
  cases Ac st.heap k with
  |none=>rfl
  |some b=>cases b<;>rfl
 |mapr k=>
  have hk:k≠l:=hc k (by simp [AC.refs])
  simp only [Bh,St.at,hH k hk]
  cases Ac st.heap k with
  |none=>rfl
  |some b=>cases b<;>rfl
 |_=>rfl
theorem Xk {a:Act} : ∀(n:Nat) (st:St) (π:Pi) (cs:List AC) (us:List Value) (cs':List AC) (st':St),Af X π st a w→Cl X w π st.heap cs us→
  Da n st cs=some (cs',st')→ ∃π',Af X π' st' a w∧Cl X w π' st'.heap cs' us∧cs'.all (·.settled)=true∧Fb π π' st.heap st'.heap∧cs'=cs.map (Bh st)∧
   (∀k,k∈cs.flatMap AC.refs→Ac st'.heap k=none)
 |0,st,π,cs,us,cs',st',h,hr,he=>by
  simp only [Da] at he
  split at he
  ·rename_i hs
   simp only [Option.some.injEq,Prod.mk.injEq] at he
   obtain ⟨rfl,rfl⟩:=he
   have hs':=List.all_eq_true.1 hs
   exact ⟨π,h,hr,hs,Fb.refl _ _,((List.map_congr_left fun c hc=>Km (hs' c hc)).trans (List.map_id'' (fun _=>rfl) cs)).symm,fun k hk=>by
    obtain ⟨c,hc,hkc⟩:=List.mem_flatMap.1 hk
    have:=hs' c hc
    cases c<;>simp [AC.settled] at this<;>simp [AC.refs] at hkc⟩
  ·cases he
 |n+1,st,π,cs,us,cs',st',h,hr,he=>by
  simp only [Da] at he
  have step: ∀(f:AC→AC) (l:Nat) (st1:St),Af X (upd π l none) st1 a w→Move X w w π (upd π l none) st.heap st1.heap f→Ac st1.heap l=none→(∀m,m≠l→Ac st1.heap m=(Ac st.heap m).map (OB.map f))→
    Fb π (upd π l none) st.heap st1.heap→(∀c∈cs,(∀k∈c.refs,k≠l)→f c=c)→(∀c∈cs,l∈c.refs→(f c).refs= []∧(Bh st1 (f c)).settled=true→f c=Bh st c)→
    (∀c∈cs,l∈c.refs→(f c).refs= [])→Da n st1 (cs.map f)=some (cs',st')→
    ∃π',Af X π' st' a w∧Cl X w π' st'.heap cs' us∧cs'.all (·.settled)=true∧Fb π π' st.heap st'.heap∧cs'=cs.map (Bh st)∧(∀k,k∈cs.flatMap AC.refs→Ac st'.heap k=none):=by
   intro f l st1 h1 m hl hH hK hf0 hf1 hf2 he
   obtain ⟨π',h2,h3,h4,h5,h6,h7⟩:=Xk n st1 _ (cs.map f) us cs' st' h1 (m.acs hr) he
   refine ⟨π',h2,h3,h4,hK.trans h5,?_,fun k hk=>?_⟩
   ·rw [h6,List.map_map]
    refine List.map_congr_left fun c hc=>?_
    simp only [Function.comp]
    by_cases hlc:l∈c.refs
    ·have hall:=List.all_eq_true.1 h4
     have hmem:Bh st1 (f c)∈cs':=by rw [h6];exact List.mem_map.2 ⟨f c,List.mem_map.2 ⟨c,hc,rfl⟩,rfl⟩
     have hs:=hall _ hmem
     have h8:=hf1 c hc hlc ⟨hf2 c hc hlc,hs⟩
     have h9:Bh st1 (f c)=f c:=by
      have:=hf2 c hc hlc
      cases hfc:f c<;>rw [hfc] at this<;>first|(simp [AC.refs] at this;done)|rfl
     rw [h9,h8]
    ·have hne: ∀k∈c.refs,k≠l:=fun k hk e=>hlc (e▸hk)
     rw [hf0 c hc hne]
     exact Alx hH hne
   ·obtain ⟨c,hc,hkc⟩:=List.mem_flatMap.1 hk
    by_cases hkl:k=l
    ·subst hkl;exact h5.gone hl
    ·by_cases hlc:l∈c.refs
     ·
      have hall:=List.all_eq_true.1 h4
      have hmem:Bh st1 (f c)∈cs':=by rw [h6];exact List.mem_map.2 ⟨f c,List.mem_map.2 ⟨c,hc,rfl⟩,rfl⟩
      have hs:=hall _ hmem
      have h8:=hf1 c hc hlc ⟨hf2 c hc hlc,hs⟩
      have h9:Bh st1 (f c)=f c:=by
       have:=hf2 c hc hlc
       cases hfc:f c<;>rw [hfc] at this<;>first|(simp [AC.refs] at this;done)|rfl
      rw [h9,h8] at hs
      cases c with
      |clo g caps=>simp [Bh,AC.settled] at hs
      |own k' _ _=>simp [AC.refs] at hlc hkc;exact absurd (hkc.trans hlc.symm) hkl
      |mapr k'=>simp [AC.refs] at hlc hkc;exact absurd (hkc.trans hlc.symm) hkl
      |vptr k' _=>simp [AC.refs] at hlc hkc;exact absurd (hkc.trans hlc.symm) hkl
      |eptr k' _=>simp [AC.refs] at hlc hkc;exact absurd (hkc.trans hlc.symm) hkl
      |sub k' _ _=>simp [AC.refs] at hlc hkc;exact absurd (hkc.trans hlc.symm) hkl
      |sptr k' _ _=>simp [AC.refs] at hlc hkc;exact absurd (hkc.trans hlc.symm) hkl
      |_=>simp [AC.refs] at hkc
     ·have hne: ∀k∈c.refs,k≠l:=fun k hk e=>hlc (e▸hk)
      exact h7 k (List.mem_flatMap.2 ⟨f c,List.mem_map.2 ⟨c,hc,rfl⟩,by rw [hf0 c hc hne];exact hkc⟩)
  have und: ∀(st1:St) (c:AC),(Bh st1 c).settled=true→c≠ .undef:=fun st1 c hs e=>by rw [e] at hs;simp [Bh,AC.settled] at hs
  split at he
  ·rename_i hf
   simp only [Option.some.injEq,Prod.mk.injEq] at he
   obtain ⟨rfl,rfl⟩:=he
   have hs': ∀c∈cs,c.settled=true:=fun c hc=>by have:=List.find?_eq_none.1 hf c hc;simpa using this
   exact ⟨π,h,hr,List.all_eq_true.2 hs',Fb.refl _ _,((List.map_congr_left fun c hc=>Km (hs' c hc)).trans (List.map_id'' (fun _=>rfl) cs)).symm,fun k hk=>by
    obtain ⟨c,hc,hkc⟩:=List.mem_flatMap.1 hk
    have:=hs' c hc
    cases c<;>simp [AC.settled] at this<;>simp [AC.refs] at hkc⟩
  ·rename_i l off len hf
   split at he
   ·rename_i fr tr e tid xs hl
    unfold St.at at hl
    obtain ⟨h1,m⟩:=h.freeze (fr:=fr) (.inl ⟨tr,tid,hl⟩)
    refine step _ l _ h1 m (St.Fy st l fr e xs) (fun m hm=>St.Jq st l m fr e xs hm) (Fb.freeze st l fr e xs) (fun c _ hc=>Ys hc) (fun c _ hlc hs=>?_) (fun c _ hlc=>?_) he
    ·cases c with
     |own k o n=>have:k=l:=(List.mem_singleton.1 hlc).symm
                 subst this;simp only [Ax,if_pos,Bh,St.at,hl]
     |vptr k o=>have:k=l:=(List.mem_singleton.1 hlc).symm
                subst this;simp only [Ax,if_pos] at hs;exact absurd rfl (und _ _ hs.2)
     |eptr k o=>have:k=l:=(List.mem_singleton.1 hlc).symm
                subst this;simp only [Ax,if_pos] at hs;exact absurd rfl (und _ _ hs.2)
     |sub k o o2=>have:k=l:=(List.mem_singleton.1 hlc).symm
                  subst this;simp only [Ax,if_pos] at hs;exact absurd rfl (und _ _ hs.2)
     |sptr k o o2=>have:k=l:=(List.mem_singleton.1 hlc).symm
                   subst this;simp only [Ax,if_pos] at hs;exact absurd rfl (und _ _ hs.2)
     |mapr k=>have:k=l:=(List.mem_singleton.1 hlc).symm
              subst this;simp only [Ax,if_pos] at hs;exact absurd rfl (und _ _ hs.2)
     |clo g caps=>
      simp only [Ax] at hs
      rw [if_pos (by simpa [AC.refs] using hlc)] at hs
      exact absurd rfl (und _ _ hs.2)
     |_=>simp [AC.refs] at hlc
    ·cases c with
     |own k o n=>have:k=l:=(List.mem_singleton.1 hlc).symm
                 subst this;simp only [Ax,if_pos];rfl
     |vptr k o=>have:k=l:=(List.mem_singleton.1 hlc).symm
                subst this;simp only [Ax,if_pos];rfl
     |eptr k o=>have:k=l:=(List.mem_singleton.1 hlc).symm
                subst this;simp only [Ax,if_pos];rfl
     |sub k o o2=>have:k=l:=(List.mem_singleton.1 hlc).symm
                  subst this;simp only [Ax,if_pos];rfl
     |sptr k o o2=>have:k=l:=(List.mem_singleton.1 hlc).symm
                   subst this;simp only [Ax,if_pos];rfl
     |mapr k=>have:k=l:=(List.mem_singleton.1 hlc).symm
              subst this;simp only [Ax,if_pos];rfl
     |clo g caps=>simp only [Ax];rw [if_pos (by simpa [AC.refs] using hlc)];rfl
     |_=>simp [AC.refs] at hlc
   ·rename_i e tid xs hl
    unfold St.at at hl
    obtain ⟨h1,m⟩:=h.freeze (fr:=false) (.inr ⟨rfl,tid,hl⟩)
    refine step _ l _ h1 m (St.Fy st l false e xs) (fun m hm=>St.Jq st l m false e xs hm) (Fb.freeze st l false e xs) (fun c _ hc=>Ys hc) (fun c _ hlc hs=>?_) (fun c _ hlc=>?_) he
    ·cases c with
     |own k o n=>have:k=l:=(List.mem_singleton.1 hlc).symm
                 subst this;simp only [Ax,if_pos,Bh,St.at,hl]
     |vptr k o=>have:k=l:=(List.mem_singleton.1 hlc).symm
                subst this;simp only [Ax,if_pos] at hs;exact absurd rfl (und _ _ hs.2)
     |eptr k o=>have:k=l:=(List.mem_singleton.1 hlc).symm
                subst this;simp only [Ax,if_pos] at hs;exact absurd rfl (und _ _ hs.2)
     |sub k o o2=>have:k=l:=(List.mem_singleton.1 hlc).symm
                  subst this;simp only [Ax,if_pos] at hs;exact absurd rfl (und _ _ hs.2)
     |sptr k o o2=>have:k=l:=(List.mem_singleton.1 hlc).symm
                   subst this;simp only [Ax,if_pos] at hs;exact absurd rfl (und _ _ hs.2)
     |mapr k=>have:k=l:=(List.mem_singleton.1 hlc).symm
              subst this;simp only [Ax,if_pos] at hs;exact absurd rfl (und _ _ hs.2)
     |clo g caps=>
      simp only [Ax] at hs
      rw [if_pos (by simpa [AC.refs] using hlc)] at hs
      exact absurd rfl (und _ _ hs.2)
     |_=>simp [AC.refs] at hlc
    ·cases c with
     |own k o n=>have:k=l:=(List.mem_singleton.1 hlc).symm
                 subst this;simp only [Ax,if_pos];rfl
     |vptr k o=>have:k=l:=(List.mem_singleton.1 hlc).symm
                subst this;simp only [Ax,if_pos];rfl
     |eptr k o=>have:k=l:=(List.mem_singleton.1 hlc).symm
                subst this;simp only [Ax,if_pos];rfl
     |sub k o o2=>have:k=l:=(List.mem_singleton.1 hlc).symm
                  subst this;simp only [Ax,if_pos];rfl
     |sptr k o o2=>have:k=l:=(List.mem_singleton.1 hlc).symm
                   subst this;simp only [Ax,if_pos];rfl
     |mapr k=>have:k=l:=(List.mem_singleton.1 hlc).symm
              subst this;simp only [Ax,if_pos];rfl
     |clo g caps=>simp only [Ax];rw [if_pos (by simpa [AC.refs] using hlc)];rfl
     |_=>simp [AC.refs] at hlc
   ·cases he
  ·rename_i l hf
   split at he
   ·rename_i v mm hl
    unfold St.at at hl
    obtain ⟨h1,m⟩:=h.Dt hl
    refine step _ l _ h1 m (St.Ki st l v mm) (fun m hm=>St.Ji st l m v mm hm) (Fb.Dt st l v mm) (fun c _ hc=>Aj0 hc) (fun c _ hlc hs=>?_) (fun c _ hlc=>?_) he
    ·cases c with
     |mapr k=>have:k=l:=(List.mem_singleton.1 hlc).symm
              subst this;simp only [Cs,if_pos,Bh,St.at,hl]
     |vptr k o=>have:k=l:=(List.mem_singleton.1 hlc).symm
                subst this;simp only [Cs,if_pos] at hs;exact absurd rfl (und _ _ hs.2)
     |eptr k o=>have:k=l:=(List.mem_singleton.1 hlc).symm
                subst this;simp only [Cs,if_pos] at hs;exact absurd rfl (und _ _ hs.2)
     |sub k o o2=>have:k=l:=(List.mem_singleton.1 hlc).symm
                  subst this;simp only [Cs,if_pos] at hs;exact absurd rfl (und _ _ hs.2)
     |sptr k o o2=>have:k=l:=(List.mem_singleton.1 hlc).symm
                   subst this;simp only [Cs,if_pos] at hs;exact absurd rfl (und _ _ hs.2)
     |own k o n=>have:k=l:=(List.mem_singleton.1 hlc).symm
                 subst this;simp only [Cs,if_pos] at hs;exact absurd rfl (und _ _ hs.2)
     |clo g caps=>
      simp only [Cs] at hs
      rw [if_pos (by simpa [AC.refs] using hlc)] at hs
      exact absurd rfl (und _ _ hs.2)
     |_=>simp [AC.refs] at hlc
    ·cases c with
     |own k o n=>have:k=l:=(List.mem_singleton.1 hlc).symm
                 subst this;simp only [Cs,if_pos];rfl
     |vptr k o=>have:k=l:=(List.mem_singleton.1 hlc).symm
                subst this;simp only [Cs,if_pos];rfl
     |eptr k o=>have:k=l:=(List.mem_singleton.1 hlc).symm
                subst this;simp only [Cs,if_pos];rfl
     |sub k o o2=>have:k=l:=(List.mem_singleton.1 hlc).symm
                  subst this;simp only [Cs,if_pos];rfl
     |sptr k o o2=>have:k=l:=(List.mem_singleton.1 hlc).symm
                   subst this;simp only [Cs,if_pos];rfl
     |mapr k=>have:k=l:=(List.mem_singleton.1 hlc).symm
              subst this;simp only [Cs,if_pos];rfl
     |clo g caps=>simp only [Cs];rw [if_pos (by simpa [AC.refs] using hlc)];rfl
     |_=>simp [AC.refs] at hlc
   ·cases he
  ·cases he
def Xr (X:Ctx) (w:World) (π:Pi) (F:List Nat):Prop:=F.Nodup∧ ∀b∈F,(X.w0.heap.size≤b∨X.gv b)∧b<w.heap.size∧ ∀l r,π l=some r→ ¬r.cl b
theorem Nc {S:Nat→Prop} : ∀(e:Ty) (es:List Value) (x:e.den),e.flat=true→Cells w S e es x→Bd w [] e es x
 | .int k,cs,n,_,h=>⟨rfl,h⟩
 | .bool,cs,n,_,h=>⟨rfl,h⟩
 | .str,cs,n,_,h=>⟨rfl,h⟩
 | .unit,cs,n,_,h=>⟨rfl,h⟩
 | .pair a r,cs,x,hf,h=>by
  simp only [Ty.flat,Bool.and_eq_true] at hf
  simp only [Cells] at h
  simp only [Bd]
  obtain ⟨c1,c2,h1,h2,h3⟩:=h
  exact ⟨c1,c2,[],[],h1,rfl,Nc a c1 x.1 hf.1 h2,Nc r c2 x.2 hf.2 h3⟩
 | .slice _,_,_,hf,_=>by simp [Ty.flat] at hf
 | .oslice _,_,_,hf,_=>by simp [Ty.flat] at hf
 | .ptr _,_,_,hf,_=>by simp [Ty.flat] at hf
 | .optr _,_,_,hf,_=>by simp [Ty.flat] at hf
 | .smap _,_,_,hf,_=>by simp [Ty.flat] at hf
 | .clo _ _,_,_,hf,_=>by simp [Ty.flat] at hf
theorem Jy {Fs:List (List Nat)} (off len:Nat) (b:Nat) (h:b∈List.flatten ((Fs.drop off).take len)):b∈List.flatten Fs:=by
 obtain ⟨F,hF,hb⟩:=List.mem_flatten.1 h
 exact List.mem_flatten.2 ⟨F,List.mem_of_mem_drop (List.mem_of_mem_take hF),hb⟩
theorem Xl {α:Type} {a b:List (List α)} (h:a.Sublist b):(List.flatten a).Sublist (List.flatten b):=by
 induction h with
 |slnil=>exact List.Sublist.refl _
 |cons c _ ih=>simp only [List.flatten_cons];exact ih.trans (List.sublist_append_right _ _)
 |cons_cons c _ ih=>simp only [List.flatten_cons];exact List.Sublist.append (List.Sublist.refl _) ih
theorem Acn {Fs:List (List Nat)} (off len:Nat) (h:(List.flatten Fs).Nodup):(List.flatten ((Fs.drop off).take len)).Nodup:=by
 have h1:((Fs.drop off).take len).Sublist Fs:=(List.take_sublist len _).trans (List.drop_sublist off Fs)
 exact h.sublist (Xl h1)
theorem Aav {P:Nat→Prop} {r:Real} {off len:Nat} {v:Value} {e:Ty} {tid:TypeId} {xs:List e.den} {cur:Array Value} (h2:w.heap[r.g]?=some (.cells cur tid (0,0))) (hsz:cur.size=(r.o+r.cap)*e.size) (hcap:r.cap≤maxLen)
  (hlen:off+len≤xs.length) (hv:De (some r) e.size off len v) (ht:Mu w P r.g r.o cur e xs) (hg:P r.g):
  ∃F,Bd w F (.slice e) [v] ((xs.drop off).take len)∧F.Nodup∧ ∀b∈F,P b:=by
 have hll:((xs.drop off).take len).length=len:=by simp;omega
 obtain ⟨ad,rfl,hc,ha⟩:=hv
 obtain ⟨Fs,t1,t2,t3,t4⟩:=ht
 ·refine ⟨r.g::List.flatten ((Fs.drop off).take len),⟨some ad,len,r.cap-off,rfl,hll.symm,by omega, .inr ⟨ad,r.g,(r.o+off)*e.size,_,rfl,fun h0=>ha (by omega),⟨cur,tid,r.o+off,h2,rfl,by rw [hsz];congr 1;omega,by omega⟩,rfl,by simp;omega,fun i x F hx hF=>?_⟩⟩,?_,fun b hb=>?_⟩
  ·have hi:i<len:=by
    have:=(List.getElem?_eq_some_iff.1 hx).1
    rw [hll] at this;exact this
   have hx':xs[off+i]?=some x:=by rw [List.getElem?_take,if_pos hi,List.getElem?_drop] at hx;exact hx
   have hF':Fs[off+i]?=some F:=by rw [List.getElem?_take,if_pos hi,List.getElem?_drop] at hF;exact hF
   obtain ⟨es,he,hj,hcs⟩:=t4 (off+i) x F hx' hF'
   refine ⟨es,he,fun j u hu=>?_,hcs⟩
   rw [cellOf h2]
   have:=hj j u hu
   rw [←this]
   congr 1
   rw [←Nat.add_assoc,Nat.add_mul (r.o+off) i]
  ·have:=List.nodup_cons.1 t2
   exact List.nodup_cons.2 ⟨fun hm=>this.1 (Jy off len _ hm),Acn off len this.2⟩
  ·rcases List.mem_cons.1 hb with rfl|hb
   ·exact hg
   ·exact t3 b (Jy off len b hb)
theorem Aev {st:St} (h:Gj X w π st.heap) {c:AC} {v:Value} (hc:Df X w π st.heap c v) (ht:Jt st c=true) (τ:Ty) (fr:Bool) (x:τ.den) (hτ:τ.Ab=false) (hone:τ.tree=true)
  (hv:Bj st τ (Bh st c)=some (fr,x)): ∃F,Bd w F τ [v] x∧F.Nodup∧ ∀b∈F,∃l r,l∈c.refs∧π l=some r∧r.cl b:=by
 cases c with
 |data fr' τ' y=>
  simp only [Jt] at ht
  simp only [Bh,He] at hv
  split at hv
  ·rename_i he;subst he
   simp only [Option.some.injEq,Prod.mk.injEq] at hv
   obtain ⟨_,rfl⟩:=hv
   exact ⟨[],Nc τ' _ _ ht (Bc.Kv hτ hc),List.nodup_nil,fun b hb=>by cases hb⟩
  ·unfold Yh at hv
   split at hv
   ·simp [Ty.flat] at ht
   ·simp [Ty.flat] at ht
   ·cases hv
 |nilv=>
  have hc:v= .slice none 0 0:=hc
  subst hc
  cases τ with
  |slice e=>
   simp only [Bh,Bj,Option.some.injEq,Prod.mk.injEq] at hv
   obtain ⟨_,rfl⟩:=hv
   exact ⟨[],⟨none,0,0,rfl,rfl,Nat.le_refl _, .inl ⟨rfl,rfl,rfl,rfl⟩⟩,List.nodup_nil,fun b hb=>by cases hb⟩
  |oslice e=>simp [Ty.tree] at hone
  |_=>simp [Bh,Bj] at hv
 |own l off len=>
  simp only [Jt] at ht
  split at ht
  ·rename_i fr' tr e tid xs hl
   have hl':=hl
   unfold St.at at hl
   simp only [Bh,hl',He] at hv
   split at hv
   ·rename_i he;subst he
    simp only [Option.some.injEq,Prod.mk.injEq] at hv
    obtain ⟨_,rfl⟩:=hv
    obtain ⟨h2,h3⟩:=Ht hc hl
    have hb:=(h.heap l).blk hl
    simp only [Aq,El] at hb
    cases hp:π l with
    |none=>
     rw [hp] at h3
     obtain ⟨rfl,rfl,rfl⟩:=h3
     exact ⟨[],⟨none,0,0,rfl,by simp,Nat.le_refl _, .inl ⟨by simp,rfl,rfl,rfl⟩⟩,List.nodup_nil,fun b hb=>by cases hb⟩
    |some r=>
     rw [hp] at hb h3
     obtain ⟨k1,cur,_,k2,k3,k4,k5,k6,k7⟩:=hb
     have htree:Mu w r.cl r.g r.o cur e xs:=by
      simp only [Bool.or_eq_true] at ht
      rcases ht with ht|ht
      ·exact k7 ht
      ·refine ⟨List.replicate xs.length [],by simp,by simp,by simp,fun i x F hx hF=>?_⟩
       obtain ⟨es,e1,e2,e3⟩:=k6 i x hx
       have:F= []:=by
        have:=List.mem_of_getElem? hF
        exact List.eq_of_mem_replicate this
       subst this
       exact ⟨es,e1,e2,Nc e es x ht e3⟩
     obtain ⟨F,f1,f2,f3⟩:=Aav k2 k3 k4 h2 h3 htree (h.sub l r _ hp k1.1)
     exact ⟨F,f1,f2,fun b hb=>⟨l,r,by simp [AC.refs],hp,f3 b hb⟩⟩
   ·cases τ<;>simp [Yh] at hv
  ·rename_i e tid xs hl
   have hl':=hl
   unfold St.at at hl
   simp only [Bh,hl',He] at hv
   split at hv
   ·rename_i he;subst he
    simp only [Option.some.injEq,Prod.mk.injEq] at hv
    obtain ⟨_,rfl⟩:=hv
    obtain ⟨h2,h3⟩:=Ro hc hl
    have hb:=(h.heap l).blk hl
    simp only [Aq,Hf] at hb
    cases hp:π l with
    |none=>
     rw [hp] at h3
     obtain ⟨rfl,rfl,rfl⟩:=h3
     exact ⟨[],⟨none,0,0,rfl,by simp,Nat.le_refl _, .inl ⟨by simp,rfl,rfl,rfl⟩⟩,List.nodup_nil,fun b hb=>by cases hb⟩
    |some r=>
     rw [hp] at hb h3
     obtain ⟨k1,cur,_,k2,k3,k4,k5,k7⟩:=hb
     obtain ⟨F,f1,f2,f3⟩:=Aav k2 k3 k4 h2 h3 k7 k1
     exact ⟨F,f1,f2,fun b hb=>⟨l,r,by simp [AC.refs],hp,h.sub l r b hp (f3 b hb)⟩⟩
   ·cases τ<;>simp [Yh] at hv
  ·cases ht
 |_=>simp [Jt] at ht
theorem Nj: ∀ {l:List Nat},Pe l=true→l.Nodup
 | [],_=>List.nodup_nil
 |a::r,h=>by
  simp only [Pe,Bool.and_eq_true,Bool.not_eq_true',List.contains_eq_mem,decide_eq_false_iff_not] at h
  exact List.nodup_cons.2 ⟨h.1,Nj h.2⟩
theorem Qe {st st':St} {τ:Ty} {c:AC} (h:c.settled=true):Bj st' τ c=Bj st τ c:=by
 cases c<;>simp [AC.settled] at h<;>cases τ<;>rfl
theorem Am8 {st st':St} (h:Gj X w π st.heap): ∀(τ:Ty) (cs:List AC) (us:List Value) (fr:Bool) (x:τ.den),Cl X w π st.heap cs us→cs.all (Jt st)=true→(cs.flatMap AC.refs).Nodup→
  (cs.map (Bh st)).all (·.settled)=true→τ.tree=true→Ce st' τ (cs.map (Bh st))=some (fr,x)→ ∃F,Bd w F τ us x∧F.Nodup∧ ∀b∈F,∃l r,l∈cs.flatMap AC.refs∧π l=some r∧r.cl b:=by
 have one: ∀(τ:Ty) (cs:List AC) (us:List Value) (fr:Bool) (x:τ.den),τ.Ab=false→Cl X w π st.heap cs us→cs.all (Jt st)=true→
   (cs.map (Bh st)).all (·.settled)=true→τ.tree=true→Ce st' τ (cs.map (Bh st))=some (fr,x)→ ∃F,Bd w F τ us x∧F.Nodup∧ ∀b∈F,∃l r,l∈cs.flatMap AC.refs∧π l=some r∧r.cl b:=by
  intro τ cs us fr x hτ hr ht hs htt hv
  rw [Kz hτ] at hv
  rcases cs with _|⟨c,_|⟨d,cs⟩⟩
  ·cases hv
  ·simp only [List.map_cons,List.map_nil] at hv
   obtain ⟨u,hu,_,hc⟩:=hr.2 0 c rfl
   have hl:us.length=1:=hr.1
   obtain ⟨u',rfl⟩:=List.length_eq_one_iff.1 hl
   simp at hu;subst hu
   rw [Qe (st:=st) (by simpa using hs)] at hv
   obtain ⟨F,f1,f2,f3⟩:=Aev h hc (by simpa using ht) τ fr x hτ htt hv
   exact ⟨F,f1,f2,fun b hb=>by obtain ⟨l,r,g1,g2⟩:=f3 b hb;exact ⟨l,r,by simpa using g1,g2⟩⟩
  ·cases hv
 intro τ
 induction τ with
 |unit=>
  intro cs us fr x hr ht hd hs htt hv
  cases cs with
  |nil=>have:us= []:=List.eq_nil_of_length_eq_zero hr.1;subst this;exact ⟨[],⟨rfl,rfl⟩,List.nodup_nil,fun b hb=>by cases hb⟩
  |cons c cs=>simp [Ce] at hv
 |pair a r iha ihr=>
  intro cs us fr x hr ht hd hs htt hv
  simp only [Ty.tree,Bool.and_eq_true] at htt
  simp only [Ce] at hv
  split at hv
  ·rename_i f1 y f2 z h1 h2
   simp only [Option.some.injEq,Prod.mk.injEq] at hv
   obtain ⟨rfl,rfl⟩:=hv
   have hr1:Cl X w π st.heap (cs.take a.size) (us.take a.size):=by have:=Ow hr 0 a.size;simpa using this
   have hr2:Cl X w π st.heap (cs.drop a.size) (us.drop a.size):=
    ⟨by simp [hr.1],fun i c hc=>by
     rw [List.getElem?_drop] at hc⊢
     exact hr.2 _ c hc⟩
   have sub1: ∀ {p:AC→Bool} {l:List AC} (n:Nat),l.all p=true→(l.take n).all p=true:=fun n hl=>List.all_eq_true.2 fun c hc=>List.all_eq_true.1 hl c (List.mem_of_mem_take hc)
   have sub2: ∀ {p:AC→Bool} {l:List AC} (n:Nat),l.all p=true→(l.drop n).all p=true:=fun n hl=>List.all_eq_true.2 fun c hc=>List.all_eq_true.1 hl c (List.mem_of_mem_drop hc)
   have hdd:((cs.take a.size++cs.drop a.size).flatMap AC.refs).Nodup:=by rw [List.take_append_drop];exact hd
   rw [List.flatMap_append] at hdd
   obtain ⟨d1,d2,d3⟩:=List.nodup_append.1 hdd
   rw [←List.map_take] at h1
   rw [←List.map_drop] at h2
   obtain ⟨F1,t1,n1,c1⟩:=iha _ _ f1 y hr1 (sub1 _ ht) d1 (by rw [List.map_take];exact sub1 _ hs) htt.1 h1
   obtain ⟨F2,t2,n2,c2⟩:=ihr _ _ f2 z hr2 (sub2 _ ht) d2 (by rw [List.map_drop];exact sub2 _ hs) htt.2 h2
   refine ⟨F1++F2,⟨us.take a.size,us.drop a.size,F1,F2,(List.take_append_drop _ _).symm,rfl,t1,t2⟩,List.nodup_append.2 ⟨n1,n2,fun b hb b' hb' e=>?_⟩,fun b hb=>?_⟩
   ·subst e
    obtain ⟨l1,r1,g1,g2,g3⟩:=c1 b hb
    obtain ⟨l2,r2,g4,g5,g6⟩:=c2 b hb'
    exact d3 l1 g1 l2 g4 (h.inj l1 l2 r1 r2 b g2 g5 g3 g6)
   ·have hall: ∀l,(l∈(cs.take a.size).flatMap AC.refs∨l∈(cs.drop a.size).flatMap AC.refs)→l∈cs.flatMap AC.refs:=fun l hl=>by
     rw [←List.mem_append,←List.flatMap_append,List.take_append_drop] at hl;exact hl
    rcases List.mem_append.1 hb with hb|hb
    ·obtain ⟨l1,r1,g1,g2⟩:=c1 b hb;exact ⟨l1,r1,hall l1 (.inl g1),g2⟩
    ·obtain ⟨l1,r1,g1,g2⟩:=c2 b hb;exact ⟨l1,r1,hall l1 (.inr g1),g2⟩
  ·cases hv
 |_=>exact fun cs us fr x hr ht _ hs htt hv=>one _ cs us fr x rfl hr ht hs htt hv
theorem Axx {π':Pi} {st st':St} {a:Act} (h:Af X π st a w) (h':Af X π' st' a w) (k:Fb π π' st.heap st'.heap) {ls:List Nat} (hg: ∀l∈ls,Ac st'.heap l=none) {F:List Nat} (hF:F.Nodup)
  (hc: ∀b∈F,∃l r,l∈ls∧π l=some r∧r.cl b):Xr X w π' F:=by
 refine ⟨hF,fun b hb=>?_⟩
 obtain ⟨l,r,h1,h2,h3⟩:=hc b hb
 have hp:=h.1.place l r b h2 h3
 refine ⟨hp.1,hp.2,fun l2 r2 h4 h5=>?_⟩
 cases hh:Ac st'.heap l2 with
 |none=>rw [(h'.1.heap l2).emp hh] at h4;cases h4
 |some b'=>
  have h6:=(k l2 b' hh).1
  rw [h6] at h4
  have:=h.1.inj l l2 r r2 b h2 h4 h3 h5
  subst this
  rw [hg l h1] at hh;cases hh
theorem Rp {st:St} {a:Act} (h:Af X π st a w) {c:AV} {v:Value} (hc:Ai X w π st.heap c v) {c':AV} {st':St} (he:settle st c=some (c',st')):
  ∃π',Af X π' st' a w∧Ai X w π' st'.heap c' v∧c'.settled=true∧Fb π π' st.heap st'.heap∧
   (Ko st c=true→ ∀(τ:Ty) (fr:Bool) (x:τ.den),τ.tree=true→Ci st' τ c'=some (fr,x)→ ∃F us,Bd w F τ us x∧v=Ap τ us∧Xr X w π' F∧ ∀b∈F,∃l r,π l=some r∧r.cl b):=by
 have cell: ∀(a0:AC) (st':St) (π':Pi),Df X w π st.heap a0 v→Af X π' st' a w→(Bh st a0).settled=true→Fb π π' st.heap st'.heap→(∀l∈a0.refs,Ac st'.heap l=none)→
   Jt st a0=true→ ∀(τ:Ty) (fr:Bool) (x:τ.den),τ.tree=true→Ci st' τ (.at (Bh st a0))=some (fr,x)→ ∃F us,Bd w F τ us x∧v=Ap τ us∧Xr X w π' F∧ ∀b∈F,∃l r,π l=some r∧r.cl b:=by
  intro a0 st1 π1 hr h1 hs hk hg ht τ fr x htt hv
  by_cases hτ:τ.Ab=true
  ·
   cases hsa:Bh st a0 with
   |data fr' τ' y=>
    rw [hsa,Su] at hv
    split at hv
    ·rename_i het;subst het
     simp only [Option.some.injEq,Prod.mk.injEq] at hv
     obtain ⟨_,rfl⟩:=hv
     cases a0 with
     |data fr2 τ2 z=>
      simp only [Bh,AC.data.injEq] at hsa
      obtain ⟨rfl,rfl,hz⟩:=hsa
      have hz:=eq_of_heq hz
      subst hz
      obtain ⟨cs,hcs,rfl⟩:=hr
      exact ⟨[],cs,Nc _ cs _ ht hcs,rfl,⟨List.nodup_nil,fun b hb=>by cases hb⟩,fun b hb=>by cases hb⟩
     |own l off len=>
      simp only [Bh] at hsa
      split at hsa
      ·simp only [AC.data.injEq] at hsa;obtain ⟨_,h2,_⟩:=hsa;subst h2;simp [Ty.Ab] at hτ
      ·simp only [AC.data.injEq] at hsa;obtain ⟨_,h2,_⟩:=hsa;subst h2;simp [Ty.Ab] at hτ
      ·cases hsa
     |mapr l=>simp [Jt] at ht
     |_=>simp [Bh] at hsa
    ·cases hv
   |_=>rw [hsa] at hv;simp only [Ci,hτ,if_true] at hv;cases hv
  ·simp only [Bool.not_eq_true] at hτ
   have hv':Bj st τ (Bh st a0)=some (fr,x):=by
    rw [←Qe (st:=st) (st':=st1) hs]
    cases hsa:Bh st a0 with
    |data fr' τ' y=>
     rw [hsa,Su] at hv
     rw [He]
     split at hv
     ·rename_i het;rw [dif_pos het];exact hv
     ·rename_i het
      rw [dif_neg het]
      simp only [hτ,Bool.false_eq_true,if_false,Aqt,He] at hv
      rw [dif_neg het] at hv
      exact hv
    |nilv=>rw [hsa] at hv;simp only [Ci,hτ,Bool.false_eq_true,if_false] at hv;rw [Jb rfl] at hv;exact hv
    |nilp=>rw [hsa] at hv;simp only [Ci,hτ,Bool.false_eq_true,if_false] at hv;rw [Jb rfl] at hv;exact hv
    |_=>rw [hsa] at hs;simp [AC.settled] at hs
   obtain ⟨F,f1,f2,f3⟩:=Aev h.1 hr ht τ fr x hτ htt hv'
   exact ⟨F,[v],f1,by simp [Ap,hτ],Axx h h1 hk hg f2 f3,fun b hb=>let ⟨l,r,_,q⟩:=f3 b hb;⟨l,r,q⟩⟩
 unfold settle at he
 split at he
 ·rename_i l off len
  split at he
  ·rename_i fr tr e tid xs hl
   simp only [Option.some.injEq,Prod.mk.injEq] at he
   obtain ⟨rfl,rfl⟩:=he
   obtain ⟨h1,m⟩:=h.freeze (fr:=fr) (.inl ⟨tr,tid,hl⟩)
   have:=m.ac (.own l off len) v hc
   simp only [Ax,if_true] at this
   have hs1:Bh st (.own l off len)= .data fr (.slice e) ((xs.drop off).take len):=by simp only [Bh,hl]
   refine ⟨_,h1,this,rfl,Fb.freeze st l fr e xs,fun ht=>?_⟩
   have:=cell (.own l off len) _ _ hc h1 (by rw [hs1];rfl) (Fb.freeze st l fr e xs) (fun k hk=>by rw [List.mem_singleton.1 hk];exact St.Fy st l fr e xs) ht
   rw [hs1] at this
   exact this
  ·rename_i e tid xs hl
   simp only [Option.some.injEq,Prod.mk.injEq] at he
   obtain ⟨rfl,rfl⟩:=he
   obtain ⟨h1,m⟩:=h.freeze (fr:=false) (.inr ⟨rfl,tid,hl⟩)
   have:=m.ac (.own l off len) v hc
   simp only [Ax,if_true] at this
   have hs1:Bh st (.own l off len)= .data false (.slice e) ((xs.drop off).take len):=by simp only [Bh,hl]
   refine ⟨_,h1,this,rfl,Fb.freeze st l false e xs,fun ht=>?_⟩
   have:=cell (.own l off len) _ _ hc h1 (by rw [hs1];rfl) (Fb.freeze st l false e xs) (fun k hk=>by rw [List.mem_singleton.1 hk];exact St.Fy st l false e xs) ht
   rw [hs1] at this
   exact this
  ·cases he
 ·rename_i l
  split at he
  ·rename_i vt mm hl
   simp only [Option.some.injEq,Prod.mk.injEq] at he
   obtain ⟨rfl,rfl⟩:=he
   obtain ⟨h1,m⟩:=h.Dt hl
   have:=m.ac (.mapr l) v hc
   simp only [Cs,if_true] at this
   exact ⟨_,h1,this,rfl,Fb.Dt st l vt mm,fun ht=>by simp [Ko,Jt] at ht⟩
  ·cases he
 ·rename_i a0 _ _
  split at he
  ·rename_i hs
   simp only [Option.some.injEq,Prod.mk.injEq] at he
   obtain ⟨rfl,rfl⟩:=he
   refine ⟨π,h,hc,hs,Fb.refl _ _,fun ht=>?_⟩
   have hs1:=Km (st:=st) hs
   have:=cell a0 st π hc h (by rw [hs1];exact hs) (Fb.refl _ _) (fun k hk=>by
    cases a0<;>simp [AC.settled] at hs<;>simp [AC.refs] at hk) ht
   rw [hs1] at this
   exact this
  ·cases he
 ·rename_i cs
  cases hsc:Da cs.length st cs with
  |none=>rw [hsc] at he;cases he
  |some p=>
   rw [hsc] at he
   simp only [Option.map_some,Option.some.injEq,Prod.mk.injEq] at he
   obtain ⟨rfl,rfl⟩:=he
   obtain ⟨us,rfl,hr⟩:=hc
   obtain ⟨π',h2,h3,h4,h5,h6,h7⟩:=Xk cs.length st π cs us p.1 p.2 h hr hsc
   refine ⟨π',h2,⟨us,rfl,h3⟩,h4,h5,fun ht τ fr x htt hv=>?_⟩
   simp only [Ko,Bool.and_eq_true] at ht
   simp only [Ci] at hv
   split at hv
   ·rename_i hτ
    rw [h6] at hv h4
    obtain ⟨F,f1,f2,f3⟩:=Am8 h.1 τ cs us fr x hr ht.1 (Nj ht.2) h4 htt hv
    exact ⟨F,us,f1,by simp [Ap,hτ],Axx h h2 h5 h7 f2 f3,fun b hb=>let ⟨l,r,_,q⟩:=f3 b hb;⟨l,r,q⟩⟩
   ·cases hv
 ·simp only [Option.some.injEq,Prod.mk.injEq] at he
  obtain ⟨rfl,rfl⟩:=he
  exact ⟨π,h,hc,rfl,Fb.refl _ _,fun ht=>by simp [Ko] at ht⟩
 ·cases he
theorem Xw {o i j s p:Nat} (hne:i≠j) (hp:p<s):(o+i)*s+p<(o+j)*s∨(o+j)*s+s≤(o+i)*s+p:=by
 rcases Nat.lt_or_gt_of_ne hne with h|h
 ·left
  have:(o+i+1)*s≤(o+j)*s:=Nat.mul_le_mul_right _ (by omega)
  rw [Nat.add_mul,Nat.one_mul] at this
  omega
 ·right
  have:(o+j+1)*s≤(o+i)*s:=Nat.mul_le_mul_right _ (by omega)
  rw [Nat.add_mul,Nat.one_mul] at this
  omega
theorem Dl {α:Type} (l ys:List α) (i k:Nat) (h:i+ys.length≤l.length):(Bl l i ys)[k]?=if k<i then l[k]? else if k<i+ys.length then ys[k-i]? else l[k]?:=by
 unfold Bl
 have t1:(l.take i).length=i:=by simp;omega
 split
 ·rename_i hk
  rw [List.append_assoc,List.getElem?_append_left (by omega),List.getElem?_take,if_pos hk]
 ·split
  ·rename_i hk
   rw [List.append_assoc,List.getElem?_append_right (by omega),t1,List.getElem?_append_left (by omega)]
  ·rw [List.getElem?_append_right (by simp;omega),List.getElem?_drop]
   congr 1
   simp;omega
theorem Dx {α:Type} (l ys:List α) (i:Nat) (h:i+ys.length≤l.length):(Bl l i ys).length=l.length:=by
 unfold Bl;simp;omega
theorem Aqj (hT:Bt P T) {st:St} {a:Act} (h:Af X π st a w) {t:TypeId} {e:Ty} (ht:T.ty t=some e) {l j:Nat} {r:Real} {vx:Value} {tid:TypeId} {fr fr':Bool} {xs:List e.den} {x:e.den}
  (hp:π l=some r) {tr:Bool} (hl:Ac st.heap l=some (.arr fr tr e tid xs)) (hj:j<xs.length) (hx:Bc w (Bb X.w0.heap.size X.Sc π fr') e vx x):
  ∃w',(Instr.storeAt t (.pointer (some ⟨r.g,(r.o+j)*e.size,none⟩)) vx).run P w= .ok () w'∧Af X π (st.Ew l (.arr (fr&&fr') false e tid (xs.set j x))) a w':=by
 have hb:=(h.1.heap l).blk hl
 simp only [Aq,El,hp] at hb
 obtain ⟨h1,cur,ti,h2,h3,h4,h5,h6,_⟩:=hb
 obtain ⟨es,hes,hv⟩:=hx
 have hel:=Cells.len e es x hes
 have hfit:(r.o+j)*e.size+es.length≤cur.size:=by
  have:(r.o+j+1)*e.size≤(r.o+r.cap)*e.size:=Nat.mul_le_mul_right _ (by omega)
  rw [Nat.add_mul (r.o+j) 1,Nat.one_mul] at this
  omega
 have hfit':(r.o+j)*e.size+es.length≤cur.toList.length:=by simpa using hfit
 have hrun:=Ml (P:=P) (w:=w) (hT.ty _ _ ht) r.g ((r.o+j)*e.size) vx es (by rw [hv];exact Fe e es x hes) hel (Cells.plain e es x hes) cur ti h2 hfit
 refine ⟨_,by simp only [Instr.storeAt,Instr.sureAddr];simpa using hrun,?_⟩
 refine h.set hl (b:= .arr (fr&&fr') false e tid (xs.set j x)) ⟨rfl,by simp⟩ (by rw [hp];exact Gw w r.g _) fun m=>?_
 simp only [Aq,El,hp]
 refine ⟨⟨h1.1,h1.2.1,fun hf=>h1.2.2 (by simp only [Bool.and_eq_true] at hf;exact hf.1)⟩,_,_,setRow_heap w r.g cur _ ti _ h2,by rw [List.size_toArray,Dx _ _ _ hfit'];simpa using h3,h4,by simpa using h5,fun i y hy=>?_,fun hf=>by cases hf⟩
 rw [List.getElem?_set] at hy
 split at hy
 ·rename_i hji;subst hji
  simp only [Option.some.injEq] at hy;subst hy
  refine ⟨es,hel,fun k u hu=>?_,(m.cells fr' e es x hes).and_right⟩
  have hk:k<es.length:=(List.getElem?_eq_some_iff.1 hu).1
  rw [List.getElem?_toArray,Dl _ _ _ _ hfit',if_neg (by omega),if_pos (by omega)]
  rw [show (r.o+j)*e.size+k-(r.o+j)*e.size=k by omega];exact hu
 ·rename_i hji
  obtain ⟨es',he',hk',hc'⟩:=h6 i y hy
  refine ⟨es',he',fun k u hu=>?_,(m.cells fr e es' y hc').and_left⟩
  have hk:k<es'.length:=(List.getElem?_eq_some_iff.1 hu).1
  have:=hk' k u hu
  rw [List.getElem?_toArray,Dl _ _ _ _ hfit']
  rcases Xw (o:=r.o) (i:=i) (j:=j) (s:=e.size) (p:=k) (Ne.symm hji) (by omega) with hlt|hge
  ·rw [if_pos hlt];simpa using this
  ·rw [if_neg (by omega),if_neg (by omega)];simpa using this
theorem Abg: ∀(Fs:List (List Nat)) (i:Nat) (F':List Nat),(List.flatten Fs).Nodup→F'.Nodup→(∀b∈F',b∉List.flatten Fs)→(List.flatten (Fs.set i F')).Nodup∧ ∀b∈List.flatten (Fs.set i F'),b∈List.flatten Fs∨b∈F'
 | [],i,F',_,_,_=>by simp
 |G::Fs,0,F',hn,hn',hs=>by
  simp only [List.set_cons_zero,List.flatten_cons] at hn hs⊢
  obtain ⟨n1,n2,n3⟩:=List.nodup_append.1 hn
  refine ⟨List.nodup_append.2 ⟨hn',n2,fun a ha b hb e=>hs a ha (List.mem_append_right _ (e▸hb))⟩,fun b hb=>?_⟩
  rcases List.mem_append.1 hb with hb|hb
  ·exact .inr hb
  ·exact .inl (List.mem_append_right _ hb)
 |G::Fs,i+1,F',hn,hn',hs=>by
  simp only [List.set_cons_succ,List.flatten_cons] at hn hs⊢
  obtain ⟨n1,n2,n3⟩:=List.nodup_append.1 hn
  obtain ⟨m1,m2⟩:=Abg Fs i F' n2 hn' fun b hb hm=>hs b hb (List.mem_append_right _ hm)
  refine ⟨List.nodup_append.2 ⟨n1,m1,fun a ha b hb e=>?_⟩,fun b hb=>?_⟩
  ·subst e
   rcases m2 a hb with h|h
   ·exact n3 a ha a h rfl
   ·exact hs a h (List.mem_append_left _ ha)
  ·rcases List.mem_append.1 hb with hb|hb
   ·exact .inl (List.mem_append_left _ hb)
   ·exact (m2 b hb).imp (List.mem_append_right _) id
theorem Am7 (hT:Bt P T) {st:St} {a:Act} (h:Af X π st a w) {t:TypeId} {e:Ty} (ht:T.ty t=some e) {l j:Nat} {r:Real} {vx:Value} {tid:TypeId} {fr fr':Bool} {xs:List e.den} {x:e.den}
  (hp:π l=some r) (hl:Ac st.heap l=some (.arr fr true e tid xs)) (hj:j<xs.length) (hx:Bc w (Bb X.w0.heap.size X.Sc π fr') e vx x) {F:List Nat} {us:List Value} (hF:Bd w F e us x) (hus:vx=Ap e us) (hfree:Xr X w π F):
  ∃w',(Instr.storeAt t (.pointer (some ⟨r.g,(r.o+j)*e.size,none⟩)) vx).run P w= .ok () w'∧Af X (upd π l (some (r.plus F))) (st.Ew l (.arr (fr&&fr') true e tid (xs.set j x))) a w':=by
 have hb:=(h.1.heap l).blk hl
 simp only [Aq,El,hp] at hb
 obtain ⟨h1,cur,ti,h2,h3,h4,h5,h6,h7⟩:=hb
 obtain ⟨Fs,t1,t2,t3,t4⟩:=h7 trivial
 obtain ⟨es,hes,hv⟩:=hx
 have hel:=Cells.len e es x hes
 have hues:us=es:=by
  have c1:=Fe e us x (Bd.cells (S:=fun _=>False) F e us x hF fun _ _ h=>h)
  have c2:=Fe e es x hes
  rw [←hus,hv,c2] at c1
  simpa using c1.symm
 subst hues
 have hfit:(r.o+j)*e.size+us.length≤cur.size:=by
  have:(r.o+j+1)*e.size≤(r.o+r.cap)*e.size:=Nat.mul_le_mul_right _ (by omega)
  rw [Nat.add_mul (r.o+j) 1,Nat.one_mul] at this
  omega
 have hfit':(r.o+j)*e.size+us.length≤cur.toList.length:=by simpa using hfit
 have hrun:=Ml (P:=P) (w:=w) (hT.ty _ _ ht) r.g ((r.o+j)*e.size) vx us (by rw [hv];exact Fe e us x hes) hel (Cells.plain e us x hes) cur ti h2 hfit
 have hcl:r.cl r.g:=h.1.sub l r _ hp h1.1
 have hng: ∀b∈F,b≠r.g:=fun b hb e=>(hfree.2 b hb).2.2 l r hp (e▸hcl)
 have hns:=Abg Fs j F (List.nodup_cons.1 t2).2 hfree.1 fun b hb hm=>(hfree.2 b hb).2.2 l r hp (t3 b hm)
 refine ⟨_,by simp only [Instr.storeAt,Instr.sureAddr];simpa using hrun,?_⟩
 refine h.Bgy hl (b:= .arr (fr&&fr') true e tid (xs.set j x)) ⟨rfl,by simp⟩ hp (fun c hc=>⟨(hfree.2 c hc).1,(hfree.2 c hc).2.1,fun m r0 _=>(hfree.2 c hc).2.2 m r0⟩) (Gw w r.g _) fun m=>?_
 simp only [Aq,El]
 have cell: ∀(i:Nat) (es':List Value),i≠j→es'.length=e.size→(∀k u,es'[k]?=some u→cur[(r.o+i)*e.size+k]?=some u)→ ∀k u,es'[k]?=some u→(Bl cur.toList ((r.o+j)*e.size) us).toArray[(r.o+i)*e.size+k]?=some u:=by
  intro i es' hij he' hk' k u hu
  have hk:k<es'.length:=(List.getElem?_eq_some_iff.1 hu).1
  have:=hk' k u hu
  rw [List.getElem?_toArray,Dl _ _ _ _ hfit']
  rcases Xw (o:=r.o) (i:=i) (j:=j) (s:=e.size) (p:=k) hij (by omega) with hlt|hge
  ·rw [if_pos hlt];simpa using this
  ·rw [if_neg (by omega),if_neg (by omega)];simpa using this
 have cellj: ∀k u,us[k]?=some u→(Bl cur.toList ((r.o+j)*e.size) us).toArray[(r.o+j)*e.size+k]?=some u:=by
  intro k u hu
  have hk:k<us.length:=(List.getElem?_eq_some_iff.1 hu).1
  rw [List.getElem?_toArray,Dl _ _ _ _ hfit',if_neg (by omega),if_pos (by omega)]
  rw [show (r.o+j)*e.size+k-(r.o+j)*e.size=k by omega];exact hu
 refine ⟨⟨h1.1,h1.2.1,fun hf=>h1.2.2 (by simp only [Bool.and_eq_true] at hf;exact hf.1)⟩,_,_,setRow_heap w r.g cur _ ti _ h2,by rw [List.size_toArray,Dx _ _ _ hfit',Array.length_toList];exact h3,h4,by rw [List.length_set];exact h5,fun i y hy=>?_,fun _=>?_⟩
 ·rw [List.getElem?_set] at hy
  split at hy
  ·rename_i hji;subst hji
   simp only [Option.some.injEq] at hy;subst hy
   exact ⟨us,hel,cellj,(m.cells fr' e us x hes).and_right⟩
  ·rename_i hji
   obtain ⟨es',he',hk',hc'⟩:=h6 i y hy
   exact ⟨es',he',cell i es' (Ne.symm hji) he' hk',(m.cells fr e es' y hc').and_left⟩
 ·refine ⟨Fs.set j F,by simp [t1],List.nodup_cons.2 ⟨fun hm=>?_,hns.1⟩,fun b hb=>?_,fun i y G hy hG=>?_⟩
  ·rcases hns.2 _ hm with h8|h8
   ·exact (List.nodup_cons.1 t2).1 h8
   ·exact hng _ h8 rfl
  ·exact (hns.2 b hb).imp (t3 b) id
  ·rw [List.getElem?_set] at hy hG
   split at hy
   ·rename_i hji;subst hji
    rw [if_pos rfl] at hG
    rw [if_pos (by omega)] at hG
    simp only [Option.some.injEq] at hy hG;subst hy;subst hG
    exact ⟨us,hel,cellj,hF.Ch _ _ _ _ (by simp) fun b hb=>setRow_other w r.g b _ (hng b hb)⟩
   ·rename_i hji
    rw [if_neg hji] at hG
    obtain ⟨es',he',hk',hc'⟩:=t4 i y G hy hG
    exact ⟨es',he',cell i es' (Ne.symm hji) he' hk',hc'.Ch _ _ _ _ (by simp) fun b hb=>setRow_other w r.g b _ fun e=>(List.nodup_cons.1 t2).1 (List.mem_flatten.2 ⟨G,List.mem_of_getElem? hG,e▸hb⟩)⟩
theorem Ahl (hT:Bt P T) {st:St} {a:Act} (h:Af X π st a w) (t:TypeId) (p x:AV) (vp vx:Value) (hp:Ai X w π st.heap p vp) (hx:Ai X w π st.heap x vx) (st':St)
  (he:Lp T st t p x=some st'): ∃w' π',(Instr.storeAt t vp vx).run P w= .ok () w'∧Af X π' st' a w':=by
 unfold Lp at he
 split at he
 ·rename_i τ l i ht
  split at he
  ·rename_i tid vs cs hl hc
   split at he
   ·rename_i hle
    simp only [Option.some.injEq] at he
    obtain ⟨w',h1,h2⟩:=Aql hT h ht hp hx hl hc hle
    split at he
    ·rename_i hcond
     simp only [Bool.and_eq_true,Nat.blt_eq] at hcond
     subst he
     obtain ⟨π2,h3⟩:=Wb (T:=T) l i t τ cs.length 0 _ π (by omega) h2
     exact ⟨w',π2,h1,h3⟩
    ·subst he
     exact ⟨w',π,h1,h2⟩
   ·cases he
  ·cases he
 ·rename_i τ l j ht
  split at he
  ·rename_i x' st1 hs
   obtain ⟨π1,h1,h2,h3,h4,h5⟩:=Rp h hx hs
   split at he
   ·rename_i fr tr e tid xs fr' y hl hv
    split at he
    ·rename_i hte;subst hte
     split at he
     ·rename_i hj
      simp only [Option.some.injEq] at he;subst he
      obtain ⟨r,b,sz,n,g1,g0,g2,g3,rfl⟩:=hp
      obtain ⟨k1,b',f,k2,k3⟩:=h4 l _ hl
      rw [g1] at k2;cases k2
      have g4:=congrArg OB.row k3
      rw [show (OB.map f b).row=b.row by cases b<;>rfl,g0] at g4
      simp only [OB.row,Option.some.injEq,Prod.mk.injEq] at g4
      obtain ⟨rfl,rfl⟩:=g4
      cases htr:(tr&&(Ko st x&&τ.tree)) with
      |false=>
       obtain ⟨w',q1,q2⟩:=Aqj hT h1 ht (k1.trans g3) hl hj (Ia _ x' vx fr' y h3 h2 hv)
       exact ⟨w',π1,q1,q2⟩
      |true=>
       simp only [Bool.and_eq_true] at htr
       obtain ⟨rfl,htv,hte⟩:=htr
       obtain ⟨F,us,f1,f2,f3,_⟩:=h5 htv τ fr' y hte hv
       obtain ⟨w',q1,q2⟩:=Am7 hT h1 ht (k1.trans g3) hl hj (Ia _ x' vx fr' y h3 h2 hv) f1 f2 f3
       exact ⟨w',_,q1,q2⟩
     ·cases he
    ·cases he
   ·cases he
  ·cases he
 ·cases he
theorem Ak9 {S:Nat→Prop} {e:Ty} {v:Value} {ys:List e.den} (h:Cells w S (.slice e) [v] ys):
  ∃ad c,v= .slice ad ys.length c∧(ys= []∨ ∃g o,ad=some ⟨g,o,none⟩∧ ∃news:List Value,news.length=ys.length*e.size∧(∀j u,news[j]?=some u→w.cell? ⟨g,o+j,none⟩=some u)∧(∀u∈news,u.oneCell'=true)∧(∀j u,j<ys.length*e.size→w.cell? ⟨g,o+j,none⟩=some u→news[j]?=some u)∧
   ∀(i:Nat) (y:e.den),ys[i]?=some y→ ∃es:List Value,es.length=e.size∧(∀j u,es[j]?=some u→news[i*e.size+j]?=some u)∧Cells w S e es y):=by
 simp only [Cells] at h
 obtain ⟨ad,len,cap,hv,hl,hcap,hor⟩:=h
 simp only [List.cons.injEq,and_true] at hv
 subst hl
 refine ⟨ad,cap,hv,?_⟩
 rcases hor with h0|⟨g,o,rfl,hg,hn,hall⟩
 ·exact .inl h0
 ·right
  refine ⟨g,o,rfl,(List.range (ys.length*e.size)).map fun j=>(w.cell? ⟨g,o+j,none⟩).getD undef,by simp,?_⟩
  have key: ∀k,k<ys.length*e.size→ ∃u,w.cell? ⟨g,o+k,none⟩=some u∧u.oneCell'=true:=by
   intro k hk
   have hs:0<e.size:=by
    rcases Nat.eq_zero_or_pos e.size with h|h
    ·rw [h] at hk;simp at hk
    ·exact h
   have hi:k/e.size<ys.length:=(Nat.div_lt_iff_lt_mul hs).2 hk
   obtain ⟨es,hes,hc,hrec⟩:=hall (k/e.size) _ (List.getElem?_eq_getElem hi)
   have hm:k%e.size<es.length:=by rw [hes];exact Nat.mod_lt _ hs
   have:=hc (k%e.size) _ (List.getElem?_eq_getElem hm)
   rw [Nat.add_assoc,show k/e.size*e.size+k%e.size=k by rw [Nat.mul_comm];exact Nat.div_add_mod k e.size] at this
   exact ⟨_,this,Cells.plain e es _ hrec _ (List.getElem_mem hm)⟩
  refine ⟨fun j u hu=>?_,fun u hu=>?_,fun j u hj hu=>by rw [List.getElem?_map,List.getElem?_range hj];simp [hu],fun i y hy=>?_⟩
  ·rw [List.getElem?_map] at hu
   have hj:j<ys.length*e.size:=by
    by_cases hj:j<ys.length*e.size
    ·exact hj
    ·rw [List.getElem?_eq_none (by simpa using hj)] at hu;cases hu
   rw [List.getElem?_range hj] at hu
   obtain ⟨u',hu',_⟩:=key j hj
   simp only [Option.map_some,hu',Option.getD_some,Option.some.injEq] at hu
   rw [hu',hu]
  ·obtain ⟨j,hj,rfl⟩:=List.mem_map.1 hu
   obtain ⟨u',hu',h1⟩:=key j (List.mem_range.1 hj)
   rw [hu'];exact h1
  ·obtain ⟨es,hes,hc,hrec⟩:=hall i y hy
   refine ⟨es,hes,fun j u hu=>?_,hrec⟩
   have hi:=(List.getElem?_eq_some_iff.1 hy).1
   have hj:=(List.getElem?_eq_some_iff.1 hu).1
   have hlt:i*e.size+j<ys.length*e.size:=by
    have:(i+1)*e.size≤ys.length*e.size:=Nat.mul_le_mul_right _ (by omega)
    rw [Nat.add_mul,Nat.one_mul] at this
    omega
   rw [List.getElem?_map,List.getElem?_range hlt]
   have:=hc j u hu
   rw [Nat.add_assoc] at this
   simp [this]
end
end Go.Proofs.Ytebabhocakedaaa
