/-
  Part 11 of the proof that the statement FnExactLongestMethodSolution holds.
-/
import Derived.Test.YtjbdmibbbpdnnaaCLongestMethodSolution09
namespace Go.Proofs.Ytjbdmibbbpdnnaa
open Go.RowKit
section
variable {P:Program} {T:Tab} {X:Ctx} {w w':World} {π:Pi} {H:List (Nat×OB)}
theorem OB.map_map (f g:AC->AC) (b:OB):OB.map g (OB.map f b)=OB.map (λc=>g (f c)) b:=by
 cases b with
 |var t vs=>simp [OB.map,Function.comp_def]
 |_=>rfl
theorem OB.vM (b:OB):OB.map (λc=>c) b=b:=by
 cases b with
 |var t vs=>simp [OB.map]
 |_=>rfl
def Gf (π π':Pi) (H H':List (Nat×OB)):Prop:= ∀l b',Ae H' l=some b'->π' l=π l/\ ∃b f,Ae H l=some b/\b'=OB.map f b
theorem Gf.refl (π:Pi) (H:List (Nat×OB)):Gf π π H H:= λ_ b h=>⟨rfl,b,λc=>c,h,(OB.vM b).symm⟩
theorem Gf.trans {Vj FW π3:Pi} {H1 H2 H3:List (Nat×OB)} (h:Gf Vj FW H1 H2) (h':Gf FW π3 H2 H3):Gf Vj π3 H1 H3:= λl b hb=>by
 obtain ⟨e1,b1,f1,h1,rfl⟩:=h' l b hb
 obtain ⟨e2,b2,f2,h2,rfl⟩:=h l b1 h1
 exact ⟨e1.trans e2,b2,_,h2,OB.map_map f2 f1 b2⟩
theorem Gf.freeze (st:St) (l:Nat) (fr:Bool) (e:Ty) (xs:List e.den):Gf π (Pl π l none) st.heap (st.freeze l fr e xs).heap:= λk b hb=>by
 by_cases hk:k=l
 ·subst hk;rw [St.Hg] at hb;cases hb
 ·rw [St.Lg st l k fr e xs hk] at hb
  cases h0:Ae st.heap k with
  |none=>rw [h0] at hb;cases hb
  |some b0=>
   rw [h0] at hb
   simp only [Option.map_some,Option.some.injEq] at hb
   exact ⟨De π none hk,b0,_,rfl,hb.symm⟩
theorem Gf.Ek (st:St) (l:Nat) (v:Ty) (m:ByteArray->Option v.den):Gf π (Pl π l none) st.heap (st.Ek l v m).heap:= λk b hb=>by
 by_cases hk:k=l
 ·subst hk;rw [St.Mh] at hb;cases hb
 ·rw [St.Kv st l k v m hk] at hb
  cases h0:Ae st.heap k with
  |none=>rw [h0] at hb;cases hb
  |some b0=>
   rw [h0] at hb
   simp only [Option.map_some,Option.some.injEq] at hb
   exact ⟨De π none hk,b0,_,rfl,hb.symm⟩
theorem Gf.gone {π':Pi} {H':List (Nat×OB)} (k:Gf π π' H H') {l:Nat} (h:Ae H l=none):Ae H' l=none:=by
 cases hb:Ae H' l with
 |none=>rfl
 |some b=>
  obtain ⟨_,b0,f,h1,_⟩:=k l b hb
  rw [h] at h1;cases h1
def Bk (st:St):AC->AC
 | .own l off len=>match st.at l with
  |some (.arr fr _ e _ xs)=> .data fr (.slice e) ((xs.drop off).take len)
  |some (.Dh e _ xs)=> .data false (.slice e) ((xs.drop off).take len)
  |_=> .own l off len
 | .Gi l=>match st.at l with
  |some (.Oh v m)=> .data false (.smap v) m
  |_=> .Gi l
 |c=>c
theorem Ml {st:St} {c:AC} (h:c.settled=true):Bk st c=c:=by
 cases c<;>simp [AC.settled] at h<;>rfl
theorem pa {st st':St} {f:AC->AC} {l:Nat} (hH: ∀m,m≠l->Ae st'.heap m=(Ae st.heap m).map (OB.map f)) {c:AC} (hc: ∀k∈c.refs,k≠l):Bk st' c=Bk st c:=by
 cases c with
 |own k off len=>
  have hk:k≠l:=hc k (by simp [AC.refs])
  simp only [Bk,St.at,hH k hk]
  cases Ae st.heap k with
  |none=>rfl
  |some b=>cases b<;>rfl
 |Gi k=>
  have hk:k≠l:=hc k (by simp [AC.refs])
  simp only [Bk,St.at,hH k hk]
  cases Ae st.heap k with
  |none=>rfl
  |some b=>cases b<;>rfl
 |_=>rfl
theorem aV {a:Act} : ∀(n:Nat) (st:St) (π:Pi) (cs:List AC) (us:List Value) (bN:List AC) (st':St),Ai X π st a w->Cx X w π st.heap cs us->
  Dq n st cs=some (bN,st')-> ∃π',Ai X π' st' a w/\Cx X w π' st'.heap bN us/\bN.all (·.settled)=true/\Gf π π' st.heap st'.heap/\bN=cs.map (Bk st)/\
   (∀k,k∈cs.flatMap AC.refs->Ae st'.heap k=none)
 |0,st,π,cs,us,bN,st',h,hr,he=>by
  simp only [Dq] at he
  split at he
  ·rename_i hs
   simp only [Option.some.injEq,Prod.mk.injEq] at he
   obtain ⟨rfl,rfl⟩:=he
   have pX:=List.all_eq_true.1 hs
   exact ⟨π,h,hr,hs,Gf.refl _ _,((List.map_congr_left λc hc=>Ml (pX c hc)).trans (List.map_id'' (λ_=>rfl) cs)).symm,λk hk=>by
    obtain ⟨c,hc,tQ⟩:=List.mem_flatMap.1 hk
    have:=pX c hc
    cases c<;>simp [AC.settled] at this<;>simp [AC.refs] at tQ⟩
  ·cases he
 |n+1,st,π,cs,us,bN,st',h,hr,he=>by
  simp only [Dq] at he
  have step: ∀(f:AC->AC) (l:Nat) (st1:St),Ai X (Pl π l none) st1 a w->Move X w w π (Pl π l none) st.heap st1.heap f->Ae st1.heap l=none->(∀m,m≠l->Ae st1.heap m=(Ae st.heap m).map (OB.map f))->
    Gf π (Pl π l none) st.heap st1.heap->(∀c∈cs,(∀k∈c.refs,k≠l)->f c=c)->(∀c∈cs,l∈c.refs->(f c).refs= []/\(Bk st1 (f c)).settled=true->f c=Bk st c)->
    (∀c∈cs,l∈c.refs->(f c).refs= [])->Dq n st1 (cs.map f)=some (bN,st')->
    ∃π',Ai X π' st' a w/\Cx X w π' st'.heap bN us/\bN.all (·.settled)=true/\Gf π π' st.heap st'.heap/\bN=cs.map (Bk st)/\(∀k,k∈cs.flatMap AC.refs->Ae st'.heap k=none):=by
   intro f l st1 h1 m hl hH hK hf0 hf1 TD he
   obtain ⟨π',h2,h3,h4,h5,h6,h7⟩:=aV n st1 _ (cs.map f) us bN st' h1 (m.ML hr) he
   refine ⟨π',h2,h3,h4,hK.trans h5,?_,λk hk=>?_⟩
   ·rw [h6,List.map_map]
    refine List.map_congr_left λc hc=>?_
    simp only [Function.comp]
    by_cases Kt:l∈c.refs
    ·have Gz:=List.all_eq_true.1 h4
     have j5:Bk st1 (f c)∈bN:=by rw [h6];exact List.mem_map.2 ⟨f c,List.mem_map.2 ⟨c,hc,rfl⟩,rfl⟩
     have hs:=Gz _ j5
     have h8:=hf1 c hc Kt ⟨TD c hc Kt,hs⟩
     have h9:Bk st1 (f c)=f c:=by
      have:=TD c hc Kt
      cases hfc:f c<;>rw [hfc] at this<;>first|(simp [AC.refs] at this;done)|rfl
     rw [h9,h8]
    ·have Er: ∀k∈c.refs,k≠l:= λk hk e=>Kt (e▸hk)
     rw [hf0 c hc Er]
     exact pa hH Er
   ·obtain ⟨c,hc,tQ⟩:=List.mem_flatMap.1 hk
    by_cases Iv:k=l
    ·subst Iv;exact h5.gone hl
    ·by_cases Kt:l∈c.refs
     ·
      have Gz:=List.all_eq_true.1 h4
      have j5:Bk st1 (f c)∈bN:=by rw [h6];exact List.mem_map.2 ⟨f c,List.mem_map.2 ⟨c,hc,rfl⟩,rfl⟩
      have hs:=Gz _ j5
      have h8:=hf1 c hc Kt ⟨TD c hc Kt,hs⟩
      have h9:Bk st1 (f c)=f c:=by
       have:=TD c hc Kt
       cases hfc:f c<;>rw [hfc] at this<;>first|(simp [AC.refs] at this;done)|rfl
      rw [h9,h8] at hs
      cases c with
      |clo g Bx=>simp [Bk,AC.settled] at hs
      |own k' _ _=>simp [AC.refs] at Kt tQ;exact absurd (tQ.trans Kt.symm) Iv
      |Gi k'=>simp [AC.refs] at Kt tQ;exact absurd (tQ.trans Kt.symm) Iv
      |Dx k' _=>simp [AC.refs] at Kt tQ;exact absurd (tQ.trans Kt.symm) Iv
      |Fy k' _=>simp [AC.refs] at Kt tQ;exact absurd (tQ.trans Kt.symm) Iv
      |sub k' _ _=>simp [AC.refs] at Kt tQ;exact absurd (tQ.trans Kt.symm) Iv
      |Fv k' _ _=>simp [AC.refs] at Kt tQ;exact absurd (tQ.trans Kt.symm) Iv
      |_=>simp [AC.refs] at tQ
     ·have Er: ∀k∈c.refs,k≠l:= λk hk e=>Kt (e▸hk)
      exact h7 k (List.mem_flatMap.2 ⟨f c,List.mem_map.2 ⟨c,hc,rfl⟩,by rw [hf0 c hc Er];exact tQ⟩)
  have tS: ∀(st1:St) (c:AC),(Bk st1 c).settled=true->c≠ .undef:= λst1 c hs e=>by rw [e] at hs;simp [Bk,AC.settled] at hs
  split at he
  ·rename_i hf
   simp only [Option.some.injEq,Prod.mk.injEq] at he
   obtain ⟨rfl,rfl⟩:=he
   have pX: ∀c∈cs,c.settled=true:= λc hc=>by have:=List.find?_eq_none.1 hf c hc;simpa using this
   exact ⟨π,h,hr,List.all_eq_true.2 pX,Gf.refl _ _,((List.map_congr_left λc hc=>Ml (pX c hc)).trans (List.map_id'' (λ_=>rfl) cs)).symm,λk hk=>by
    obtain ⟨c,hc,tQ⟩:=List.mem_flatMap.1 hk
    have:=pX c hc
    cases c<;>simp [AC.settled] at this<;>simp [AC.refs] at tQ⟩
  ·rename_i l off len hf
   split at he
   ·rename_i fr tr e tid xs hl
    unfold St.at at hl
    obtain ⟨h1,m⟩:=h.freeze (fr:=fr) (.inl ⟨tr,tid,hl⟩)
    refine step _ l _ h1 m (St.Hg st l fr e xs) (λm hm=>St.Lg st l m fr e xs hm) (Gf.freeze st l fr e xs) (λc _ hc=>c7 hc) (λc _ Kt hs=>?_) (λc _ Kt=>?_) he
    ·cases c with
     |own k o n=>have:k=l:=(List.mem_singleton.1 Kt).symm
                 subst this;simp only [Ba,if_pos,Bk,St.at,hl]
     |Dx k o=>have:k=l:=(List.mem_singleton.1 Kt).symm
              subst this;simp only [Ba,if_pos] at hs;exact absurd rfl (tS _ _ hs.2)
     |Fy k o=>have:k=l:=(List.mem_singleton.1 Kt).symm
              subst this;simp only [Ba,if_pos] at hs;exact absurd rfl (tS _ _ hs.2)
     |sub k o o2=>have:k=l:=(List.mem_singleton.1 Kt).symm
                  subst this;simp only [Ba,if_pos] at hs;exact absurd rfl (tS _ _ hs.2)
     |Fv k o o2=>have:k=l:=(List.mem_singleton.1 Kt).symm
                 subst this;simp only [Ba,if_pos] at hs;exact absurd rfl (tS _ _ hs.2)
     |Gi k=>have:k=l:=(List.mem_singleton.1 Kt).symm
            subst this;simp only [Ba,if_pos] at hs;exact absurd rfl (tS _ _ hs.2)
     |clo g Bx=>
      simp only [Ba] at hs
      rw [if_pos (by simpa [AC.refs] using Kt)] at hs
      exact absurd rfl (tS _ _ hs.2)
     |_=>simp [AC.refs] at Kt
    ·cases c with
     |own k o n=>have:k=l:=(List.mem_singleton.1 Kt).symm
                 subst this;simp only [Ba,if_pos];rfl
     |Dx k o=>have:k=l:=(List.mem_singleton.1 Kt).symm
              subst this;simp only [Ba,if_pos];rfl
     |Fy k o=>have:k=l:=(List.mem_singleton.1 Kt).symm
              subst this;simp only [Ba,if_pos];rfl
     |sub k o o2=>have:k=l:=(List.mem_singleton.1 Kt).symm
                  subst this;simp only [Ba,if_pos];rfl
     |Fv k o o2=>have:k=l:=(List.mem_singleton.1 Kt).symm
                 subst this;simp only [Ba,if_pos];rfl
     |Gi k=>have:k=l:=(List.mem_singleton.1 Kt).symm
            subst this;simp only [Ba,if_pos];rfl
     |clo g Bx=>simp only [Ba];rw [if_pos (by simpa [AC.refs] using Kt)];rfl
     |_=>simp [AC.refs] at Kt
   ·rename_i e tid xs hl
    unfold St.at at hl
    obtain ⟨h1,m⟩:=h.freeze (fr:=false) (.inr ⟨rfl,tid,hl⟩)
    refine step _ l _ h1 m (St.Hg st l false e xs) (λm hm=>St.Lg st l m false e xs hm) (Gf.freeze st l false e xs) (λc _ hc=>c7 hc) (λc _ Kt hs=>?_) (λc _ Kt=>?_) he
    ·cases c with
     |own k o n=>have:k=l:=(List.mem_singleton.1 Kt).symm
                 subst this;simp only [Ba,if_pos,Bk,St.at,hl]
     |Dx k o=>have:k=l:=(List.mem_singleton.1 Kt).symm
              subst this;simp only [Ba,if_pos] at hs;exact absurd rfl (tS _ _ hs.2)
     |Fy k o=>have:k=l:=(List.mem_singleton.1 Kt).symm
              subst this;simp only [Ba,if_pos] at hs;exact absurd rfl (tS _ _ hs.2)
     |sub k o o2=>have:k=l:=(List.mem_singleton.1 Kt).symm
                  subst this;simp only [Ba,if_pos] at hs;exact absurd rfl (tS _ _ hs.2)
     |Fv k o o2=>have:k=l:=(List.mem_singleton.1 Kt).symm
                 subst this;simp only [Ba,if_pos] at hs;exact absurd rfl (tS _ _ hs.2)
     |Gi k=>have:k=l:=(List.mem_singleton.1 Kt).symm
            subst this;simp only [Ba,if_pos] at hs;exact absurd rfl (tS _ _ hs.2)
     |clo g Bx=>
      simp only [Ba] at hs
      rw [if_pos (by simpa [AC.refs] using Kt)] at hs
      exact absurd rfl (tS _ _ hs.2)
     |_=>simp [AC.refs] at Kt
    ·cases c with
     |own k o n=>have:k=l:=(List.mem_singleton.1 Kt).symm
                 subst this;simp only [Ba,if_pos];rfl
     |Dx k o=>have:k=l:=(List.mem_singleton.1 Kt).symm
              subst this;simp only [Ba,if_pos];rfl
     |Fy k o=>have:k=l:=(List.mem_singleton.1 Kt).symm
              subst this;simp only [Ba,if_pos];rfl
     |sub k o o2=>have:k=l:=(List.mem_singleton.1 Kt).symm
                  subst this;simp only [Ba,if_pos];rfl
     |Fv k o o2=>have:k=l:=(List.mem_singleton.1 Kt).symm
                 subst this;simp only [Ba,if_pos];rfl
     |Gi k=>have:k=l:=(List.mem_singleton.1 Kt).symm
            subst this;simp only [Ba,if_pos];rfl
     |clo g Bx=>simp only [Ba];rw [if_pos (by simpa [AC.refs] using Kt)];rfl
     |_=>simp [AC.refs] at Kt
   ·cases he
  ·rename_i l hf
   split at he
   ·rename_i v mm hl
    unfold St.at at hl
    obtain ⟨h1,m⟩:=h.Ek hl
    refine step _ l _ h1 m (St.Mh st l v mm) (λm hm=>St.Kv st l m v mm hm) (Gf.Ek st l v mm) (λc _ hc=>m9 hc) (λc _ Kt hs=>?_) (λc _ Kt=>?_) he
    ·cases c with
     |Gi k=>have:k=l:=(List.mem_singleton.1 Kt).symm
            subst this;simp only [Dk,if_pos,Bk,St.at,hl]
     |Dx k o=>have:k=l:=(List.mem_singleton.1 Kt).symm
              subst this;simp only [Dk,if_pos] at hs;exact absurd rfl (tS _ _ hs.2)
     |Fy k o=>have:k=l:=(List.mem_singleton.1 Kt).symm
              subst this;simp only [Dk,if_pos] at hs;exact absurd rfl (tS _ _ hs.2)
     |sub k o o2=>have:k=l:=(List.mem_singleton.1 Kt).symm
                  subst this;simp only [Dk,if_pos] at hs;exact absurd rfl (tS _ _ hs.2)
     |Fv k o o2=>have:k=l:=(List.mem_singleton.1 Kt).symm
                 subst this;simp only [Dk,if_pos] at hs;exact absurd rfl (tS _ _ hs.2)
     |own k o n=>have:k=l:=(List.mem_singleton.1 Kt).symm
                 subst this;simp only [Dk,if_pos] at hs;exact absurd rfl (tS _ _ hs.2)
     |clo g Bx=>
      simp only [Dk] at hs
      rw [if_pos (by simpa [AC.refs] using Kt)] at hs
      exact absurd rfl (tS _ _ hs.2)
     |_=>simp [AC.refs] at Kt
    ·cases c with
     |own k o n=>have:k=l:=(List.mem_singleton.1 Kt).symm
                 subst this;simp only [Dk,if_pos];rfl
     |Dx k o=>have:k=l:=(List.mem_singleton.1 Kt).symm
              subst this;simp only [Dk,if_pos];rfl
     |Fy k o=>have:k=l:=(List.mem_singleton.1 Kt).symm
              subst this;simp only [Dk,if_pos];rfl
     |sub k o o2=>have:k=l:=(List.mem_singleton.1 Kt).symm
                  subst this;simp only [Dk,if_pos];rfl
     |Fv k o o2=>have:k=l:=(List.mem_singleton.1 Kt).symm
                 subst this;simp only [Dk,if_pos];rfl
     |Gi k=>have:k=l:=(List.mem_singleton.1 Kt).symm
            subst this;simp only [Dk,if_pos];rfl
     |clo g Bx=>simp only [Dk];rw [if_pos (by simpa [AC.refs] using Kt)];rfl
     |_=>simp [AC.refs] at Kt
   ·cases he
  ·cases he
def bt (X:Ctx) (w:World) (π:Pi) (F:List Nat):Prop:=F.Nodup/\ ∀b∈F,(X.w0.heap.size<=b\/X.gv b)/\b<w.heap.size/\ ∀l r,π l=some r-> ¬r.cl b
theorem Qa {S:Nat->Prop} : ∀(e:Ty) (es:List Value) (x:e.den),e.flat=true->Cells w S e es x->Be w [] e es x
 | .int k,cs,n,_,h=>⟨rfl,h⟩
 | .bool,cs,n,_,h=>⟨rfl,h⟩
 | .str,cs,n,_,h=>⟨rfl,h⟩
 | .unit,cs,n,_,h=>⟨rfl,h⟩
 | .pair a r,cs,x,hf,h=>by
  simp only [Ty.flat,Bool.and_eq_true] at hf
  simp only [Cells] at h
  simp only [Be]
  obtain ⟨c1,c2,h1,h2,h3⟩:=h
  exact ⟨c1,c2,[],[],h1,rfl,Qa a c1 x.1 hf.1 h2,Qa r c2 x.2 hf.2 h3⟩
 | .slice _,_,_,hf,_=>by simp [Ty.flat] at hf
 | .oslice _,_,_,hf,_=>by simp [Ty.flat] at hf
 | .ptr _,_,_,hf,_=>by simp [Ty.flat] at hf
 | .optr _,_,_,hf,_=>by simp [Ty.flat] at hf
 | .smap _,_,_,hf,_=>by simp [Ty.flat] at hf
 | .clo _ _,_,_,hf,_=>by simp [Ty.flat] at hf
theorem Lt {Fs:List (List Nat)} (off len:Nat) (b:Nat) (h:b∈List.flatten ((Fs.drop off).take len)):b∈List.flatten Fs:=by
 obtain ⟨F,hF,hb⟩:=List.mem_flatten.1 h
 exact List.mem_flatten.2 ⟨F,List.mem_of_mem_drop (List.mem_of_mem_take hF),hb⟩
theorem aZ {α:Type} {a b:List (List α)} (h:a.Sublist b):(List.flatten a).Sublist (List.flatten b):=by
 induction h with
 |slnil=>exact List.Sublist.refl _
 |cons c _ ih=>simp only [List.flatten_cons];exact ih.trans (List.sublist_append_right _ _)
 |cons_cons c _ ih=>simp only [List.flatten_cons];exact List.Sublist.append (List.Sublist.refl _) ih
theorem fF {Fs:List (List Nat)} (off len:Nat) (h:(List.flatten Fs).Nodup):(List.flatten ((Fs.drop off).take len)).Nodup:=by
 have h1:((Fs.drop off).take len).Sublist Fs:=(List.take_sublist len _).trans (List.drop_sublist off Fs)
 exact h.sublist (aZ h1)
theorem dJ {P:Nat->Prop} {r:Real} {off len:Nat} {v:Value} {e:Ty} {tid:TypeId} {xs:List e.den} {cur:Array Value} (h2:w.heap[r.g]?=some (.cells cur tid (0,0))) (Vv:cur.size=(r.o+r.cap)*e.size) (mg:r.cap<=maxLen)
  (hlen:off+len<=xs.length) (hv:Dw (some r) e.size off len v) (ht:Pq w P r.g r.o cur e xs) (hg:P r.g):
  ∃F,Be w F (.slice e) [v] ((xs.drop off).take len)/\F.Nodup/\ ∀b∈F,P b:=by
 have MF:((xs.drop off).take len).length=len:=by simp;omega
 obtain ⟨ad,rfl,hc,ha⟩:=hv
 obtain ⟨Fs,t1,t2,t3,t4⟩:=ht
 ·refine ⟨r.g::List.flatten ((Fs.drop off).take len),⟨some ad,len,r.cap-off,rfl,MF.symm,by omega, .inr ⟨ad,r.g,(r.o+off)*e.size,_,rfl,λh0=>ha (by omega),⟨cur,tid,r.o+off,h2,rfl,by rw [Vv];congr 1;omega,by omega⟩,rfl,by simp;omega,λi x F hx hF=>?_⟩⟩,?_,λb hb=>?_⟩
  ·have hi:i<len:=by
    have:=(List.getElem?_eq_some_iff.1 hx).1
    rw [MF] at this;exact this
   have UK:xs[off+i]?=some x:=by rw [List.getElem?_take,if_pos hi,List.getElem?_drop] at hx;exact hx
   have YB:Fs[off+i]?=some F:=by rw [List.getElem?_take,if_pos hi,List.getElem?_drop] at hF;exact hF
   obtain ⟨es,he,hj,rH⟩:=t4 (off+i) x F UK YB
   refine ⟨es,he,λj u hu=>?_,rH⟩
   rw [cellOf h2]
   have:=hj j u hu
   rw [<-this]
   congr 1
   rw [<-Nat.add_assoc,Nat.add_mul (r.o+off) i]
  ·have:=List.nodup_cons.1 t2
   exact List.nodup_cons.2 ⟨λhm=>this.1 (Lt off len _ hm),fF off len this.2⟩
  ·rcases List.mem_cons.1 hb with rfl|hb
   ·exact hg
   ·exact t3 b (Lt off len b hb)
theorem iA {st:St} (h:Hx X w π st.heap) {c:AC} {v:Value} (hc:Dy X w π st.heap c v) (ht:Lp st c=true) (τ:Ty) (fr:Bool) (x:τ.den) (Ms:τ.Ac=false) (CA:τ.tree=true)
  (hv:Bl st τ (Bk st c)=some (fr,x)): ∃F,Be w F τ [v] x/\F.Nodup/\ ∀b∈F,∃l r,l∈c.refs/\π l=some r/\r.cl b:=by
 cases c with
 |data Oo Jb y=>
  simp only [Lp] at ht
  simp only [Bk,Iq] at hv
  split at hv
  ·rename_i he;subst he
   simp only [Option.some.injEq,Prod.mk.injEq] at hv
   obtain ⟨_,rfl⟩:=hv
   exact ⟨[],Qa Jb _ _ ht (Bc.Lm Ms hc),List.nodup_nil,λb hb=>by cases hb⟩
  ·unfold bM at hv
   split at hv
   ·simp [Ty.flat] at ht
   ·simp [Ty.flat] at ht
   ·cases hv
 |Hq=>
  have hc:v= .slice none 0 0:=hc
  subst hc
  cases τ with
  |slice e=>
   simp only [Bk,Bl,Option.some.injEq,Prod.mk.injEq] at hv
   obtain ⟨_,rfl⟩:=hv
   exact ⟨[],⟨none,0,0,rfl,rfl,Nat.le_refl _, .inl ⟨rfl,rfl,rfl,rfl⟩⟩,List.nodup_nil,λb hb=>by cases hb⟩
  |oslice e=>simp [Ty.tree] at CA
  |_=>simp [Bk,Bl] at hv
 |own l off len=>
  simp only [Lp] at ht
  split at ht
  ·rename_i Oo tr e tid xs hl
   have Hc:=hl
   unfold St.at at hl
   simp only [Bk,Hc,Iq] at hv
   split at hv
   ·rename_i he;subst he
    simp only [Option.some.injEq,Prod.mk.injEq] at hv
    obtain ⟨_,rfl⟩:=hv
    obtain ⟨h2,h3⟩:=Jf hc hl
    have hb:=(h.heap l).Mc hl
    simp only [Au,Fk] at hb
    cases hp:π l with
    |none=>
     rw [hp] at h3
     obtain ⟨rfl,rfl,rfl⟩:=h3
     exact ⟨[],⟨none,0,0,rfl,by simp,Nat.le_refl _, .inl ⟨by simp,rfl,rfl,rfl⟩⟩,List.nodup_nil,λb hb=>by cases hb⟩
    |some r=>
     rw [hp] at hb h3
     obtain ⟨k1,cur,_,k2,k3,k4,k5,k6,k7⟩:=hb
     have AM:Pq w r.cl r.g r.o cur e xs:=by
      simp only [Bool.or_eq_true] at ht
      rcases ht with ht|ht
      ·exact k7 ht
      ·refine ⟨List.replicate xs.length [],by simp,by simp,by simp,λi x F hx hF=>?_⟩
       obtain ⟨es,e1,e2,e3⟩:=k6 i x hx
       have:F= []:=by
        have:=List.mem_of_getElem? hF
        exact List.eq_of_mem_replicate this
       subst this
       exact ⟨es,e1,e2,Qa e es x ht e3⟩
     obtain ⟨F,f1,f2,f3⟩:=dJ k2 k3 k4 h2 h3 AM (h.sub l r _ hp k1.1)
     exact ⟨F,f1,f2,λb hb=>⟨l,r,by simp [AC.refs],hp,f3 b hb⟩⟩
   ·cases τ<;>simp [bM] at hv
  ·rename_i e tid xs hl
   have Hc:=hl
   unfold St.at at hl
   simp only [Bk,Hc,Iq] at hv
   split at hv
   ·rename_i he;subst he
    simp only [Option.some.injEq,Prod.mk.injEq] at hv
    obtain ⟨_,rfl⟩:=hv
    obtain ⟨h2,h3⟩:=Uy hc hl
    have hb:=(h.heap l).Mc hl
    simp only [Au,Is] at hb
    cases hp:π l with
    |none=>
     rw [hp] at h3
     obtain ⟨rfl,rfl,rfl⟩:=h3
     exact ⟨[],⟨none,0,0,rfl,by simp,Nat.le_refl _, .inl ⟨by simp,rfl,rfl,rfl⟩⟩,List.nodup_nil,λb hb=>by cases hb⟩
    |some r=>
     rw [hp] at hb h3
     obtain ⟨k1,cur,_,k2,k3,k4,k5,k7⟩:=hb
     obtain ⟨F,f1,f2,f3⟩:=dJ k2 k3 k4 h2 h3 k7 k1
     exact ⟨F,f1,f2,λb hb=>⟨l,r,by simp [AC.refs],hp,h.sub l r b hp (f3 b hb)⟩⟩
   ·cases τ<;>simp [bM] at hv
  ·cases ht
 |_=>simp [Lp] at ht
theorem Qj: ∀ {l:List Nat},Sf l=true->l.Nodup
 | [],_=>List.nodup_nil
 |a::r,h=>by
  simp only [Sf,Bool.and_eq_true,Bool.not_eq_true',List.contains_eq_mem,decide_eq_false_iff_not] at h
  exact List.nodup_cons.2 ⟨h.1,Qj h.2⟩
theorem Ti {st st':St} {τ:Ty} {c:AC} (h:c.settled=true):Bl st' τ c=Bl st τ c:=by
 cases c<;>simp [AC.settled] at h<;>cases τ<;>rfl
theorem pw {st st':St} (h:Hx X w π st.heap): ∀(τ:Ty) (cs:List AC) (us:List Value) (fr:Bool) (x:τ.den),Cx X w π st.heap cs us->cs.all (Lp st)=true->(cs.flatMap AC.refs).Nodup->
  (cs.map (Bk st)).all (·.settled)=true->τ.tree=true->Cp st' τ (cs.map (Bk st))=some (fr,x)-> ∃F,Be w F τ us x/\F.Nodup/\ ∀b∈F,∃l r,l∈cs.flatMap AC.refs/\π l=some r/\r.cl b:=by
 have one: ∀(τ:Ty) (cs:List AC) (us:List Value) (fr:Bool) (x:τ.den),τ.Ac=false->Cx X w π st.heap cs us->cs.all (Lp st)=true->
   (cs.map (Bk st)).all (·.settled)=true->τ.tree=true->Cp st' τ (cs.map (Bk st))=some (fr,x)-> ∃F,Be w F τ us x/\F.Nodup/\ ∀b∈F,∃l r,l∈cs.flatMap AC.refs/\π l=some r/\r.cl b:=by
  intro τ cs us fr x Ms hr ht hs Ok hv
  rw [Mv Ms] at hv
  rcases cs with _|⟨c,_|⟨d,cs⟩⟩
  ·cases hv
  ·simp only [List.map_cons,List.map_nil] at hv
   obtain ⟨u,hu,_,hc⟩:=hr.2 0 c rfl
   have hl:us.length=1:=hr.1
   obtain ⟨u',rfl⟩:=List.length_eq_one_iff.1 hl
   simp at hu;subst hu
   rw [Ti (st:=st) (by simpa using hs)] at hv
   obtain ⟨F,f1,f2,f3⟩:=iA h hc (by simpa using ht) τ fr x Ms Ok hv
   exact ⟨F,f1,f2,λb hb=>by obtain ⟨l,r,g1,g2⟩:=f3 b hb;exact ⟨l,r,by simpa using g1,g2⟩⟩
  ·cases hv
 intro τ
 induction τ with
 |unit=>
  intro cs us fr x hr ht hd hs Ok hv
  cases cs with
  |nil=>have:us= []:=List.eq_nil_of_length_eq_zero hr.1;subst this;exact ⟨[],⟨rfl,rfl⟩,List.nodup_nil,λb hb=>by cases hb⟩
  |cons c cs=>simp [Cp] at hv
 |pair a r gf dt=>
  intro cs us fr x hr ht hd hs Ok hv
  simp only [Ty.tree,Bool.and_eq_true] at Ok
  simp only [Cp] at hv
  split at hv
  ·rename_i f1 y f2 z h1 h2
   simp only [Option.some.injEq,Prod.mk.injEq] at hv
   obtain ⟨rfl,rfl⟩:=hv
   have NY:Cx X w π st.heap (cs.take a.size) (us.take a.size):=by have:=Rx hr 0 a.size;simpa using this
   have RP:Cx X w π st.heap (cs.drop a.size) (us.drop a.size):=
    ⟨by simp [hr.1],λi c hc=>by
     rw [List.getElem?_drop] at hc⊢
     exact hr.2 _ c hc⟩
   have Aba: ∀ {p:AC->Bool} {l:List AC} (n:Nat),l.all p=true->(l.take n).all p=true:= λn hl=>List.all_eq_true.2 λc hc=>List.all_eq_true.1 hl c (List.mem_of_mem_take hc)
   have Abb: ∀ {p:AC->Bool} {l:List AC} (n:Nat),l.all p=true->(l.drop n).all p=true:= λn hl=>List.all_eq_true.2 λc hc=>List.all_eq_true.1 hl c (List.mem_of_mem_drop hc)
   have hdd:((cs.take a.size++cs.drop a.size).flatMap AC.refs).Nodup:=by rw [List.take_append_drop];exact hd
   rw [List.flatMap_append] at hdd
   obtain ⟨d1,d2,d3⟩:=List.nodup_append.1 hdd
   rw [<-List.map_take] at h1
   rw [<-List.map_drop] at h2
   obtain ⟨F1,t1,n1,c1⟩:=gf _ _ f1 y NY (Aba _ ht) d1 (by rw [List.map_take];exact Aba _ hs) Ok.1 h1
   obtain ⟨F2,t2,n2,c2⟩:=dt _ _ f2 z RP (Abb _ ht) d2 (by rw [List.map_drop];exact Abb _ hs) Ok.2 h2
   refine ⟨F1++F2,⟨us.take a.size,us.drop a.size,F1,F2,(List.take_append_drop _ _).symm,rfl,t1,t2⟩,List.nodup_append.2 ⟨n1,n2,λb hb b' og e=>?_⟩,λb hb=>?_⟩
   ·subst e
    obtain ⟨l1,r1,g1,g2,g3⟩:=c1 b hb
    obtain ⟨l2,r2,g4,g5,g6⟩:=c2 b og
    exact d3 l1 g1 l2 g4 (h.inj l1 l2 r1 r2 b g2 g5 g3 g6)
   ·have Gz: ∀l,(l∈(cs.take a.size).flatMap AC.refs\/l∈(cs.drop a.size).flatMap AC.refs)->l∈cs.flatMap AC.refs:= λl hl=>by
     rw [<-List.mem_append,<-List.flatMap_append,List.take_append_drop] at hl;exact hl
    rcases List.mem_append.1 hb with hb|hb
    ·obtain ⟨l1,r1,g1,g2⟩:=c1 b hb;exact ⟨l1,r1,Gz l1 (.inl g1),g2⟩
    ·obtain ⟨l1,r1,g1,g2⟩:=c2 b hb;exact ⟨l1,r1,Gz l1 (.inr g1),g2⟩
  ·cases hv
 |_=>exact λcs us fr x hr ht _ hs Ok hv=>one _ cs us fr x rfl hr ht hs Ok hv
theorem zS {π':Pi} {st st':St} {a:Act} (h:Ai X π st a w) (h':Ai X π' st' a w) (k:Gf π π' st.heap st'.heap) {ls:List Nat} (hg: ∀l∈ls,Ae st'.heap l=none) {F:List Nat} (hF:F.Nodup)
  (hc: ∀b∈F,∃l r,l∈ls/\π l=some r/\r.cl b):bt X w π' F:=by
 refine ⟨hF,λb hb=>?_⟩
 obtain ⟨l,r,h1,h2,h3⟩:=hc b hb
 have hp:=h.1.place l r b h2 h3
 refine ⟨hp.1,hp.2,λl2 r2 h4 h5=>?_⟩
 cases hh:Ae st'.heap l2 with
 |none=>rw [(h'.1.heap l2).emp hh] at h4;cases h4
 |some b'=>
  have h6:=(k l2 b' hh).1
  rw [h6] at h4
  have:=h.1.inj l l2 r r2 b h2 h4 h3 h5
  subst this
  rw [hg l h1] at hh;cases hh
theorem Vc {st:St} {a:Act} (h:Ai X π st a w) {c:AV} {v:Value} (hc:Ao X w π st.heap c v) {c':AV} {st':St} (he:settle st c=some (c',st')):
  ∃π',Ai X π' st' a w/\Ao X w π' st'.heap c' v/\c'.settled=true/\Gf π π' st.heap st'.heap/\
   (Mn st c=true-> ∀(τ:Ty) (fr:Bool) (x:τ.den),τ.tree=true->Cr st' τ c'=some (fr,x)-> ∃F us,Be w F τ us x/\v=Ar τ us/\bt X w π' F/\ ∀b∈F,∃l r,π l=some r/\r.cl b):=by
 have cell: ∀(a0:AC) (st':St) (π':Pi),Dy X w π st.heap a0 v->Ai X π' st' a w->(Bk st a0).settled=true->Gf π π' st.heap st'.heap->(∀l∈a0.refs,Ae st'.heap l=none)->
   Lp st a0=true-> ∀(τ:Ty) (fr:Bool) (x:τ.den),τ.tree=true->Cr st' τ (.at (Bk st a0))=some (fr,x)-> ∃F us,Be w F τ us x/\v=Ar τ us/\bt X w π' F/\ ∀b∈F,∃l r,π l=some r/\r.cl b:=by
  intro a0 st1 Vj hr h1 hs hk hg ht τ fr x Ok hv
  by_cases Ms:τ.Ac=true
  ·
   cases vd:Bk st a0 with
   |data Oo Jb y=>
    rw [vd,Wk] at hv
    split at hv
    ·rename_i het;subst het
     simp only [Option.some.injEq,Prod.mk.injEq] at hv
     obtain ⟨_,rfl⟩:=hv
     cases a0 with
     |data lh τ2 z=>
      simp only [Bk,AC.data.injEq] at vd
      obtain ⟨rfl,rfl,hz⟩:=vd
      have hz:=eq_of_heq hz
      subst hz
      obtain ⟨cs,rH,rfl⟩:=hr
      exact ⟨[],cs,Qa _ cs _ ht rH,rfl,⟨List.nodup_nil,λb hb=>by cases hb⟩,λb hb=>by cases hb⟩
     |own l off len=>
      simp only [Bk] at vd
      split at vd
      ·simp only [AC.data.injEq] at vd;obtain ⟨_,h2,_⟩:=vd;subst h2;simp [Ty.Ac] at Ms
      ·simp only [AC.data.injEq] at vd;obtain ⟨_,h2,_⟩:=vd;subst h2;simp [Ty.Ac] at Ms
      ·cases vd
     |Gi l=>simp [Lp] at ht
     |_=>simp [Bk] at vd
    ·cases hv
   |_=>rw [vd] at hv;simp only [Cr,Ms,if_true] at hv;cases hv
  ·simp only [Bool.not_eq_true] at Ms
   have rS:Bl st τ (Bk st a0)=some (fr,x):=by
    rw [<-Ti (st:=st) (st':=st1) hs]
    cases vd:Bk st a0 with
    |data Oo Jb y=>
     rw [vd,Wk] at hv
     rw [Iq]
     split at hv
     ·rename_i het;rw [dif_pos het];exact hv
     ·rename_i het
      rw [dif_neg het]
      simp only [Ms,Bool.false_eq_true,if_false,tB,Iq] at hv
      rw [dif_neg het] at hv
      exact hv
    |Hq=>rw [vd] at hv;simp only [Cr,Ms,Bool.false_eq_true,if_false] at hv;rw [Km rfl] at hv;exact hv
    |Qi=>rw [vd] at hv;simp only [Cr,Ms,Bool.false_eq_true,if_false] at hv;rw [Km rfl] at hv;exact hv
    |_=>rw [vd] at hs;simp [AC.settled] at hs
   obtain ⟨F,f1,f2,f3⟩:=iA h.1 hr ht τ fr x Ms Ok rS
   exact ⟨F,[v],f1,by simp [Ar,Ms],zS h h1 hk hg f2 f3,λb hb=>let ⟨l,r,_,q⟩:=f3 b hb;⟨l,r,q⟩⟩
 unfold settle at he
 split at he
 ·rename_i l off len
  split at he
  ·rename_i fr tr e tid xs hl
   simp only [Option.some.injEq,Prod.mk.injEq] at he
   obtain ⟨rfl,rfl⟩:=he
   obtain ⟨h1,m⟩:=h.freeze (fr:=fr) (.inl ⟨tr,tid,hl⟩)
   have:=m.ac (.own l off len) v hc
   simp only [Ba,if_true] at this
   have kb:Bk st (.own l off len)= .data fr (.slice e) ((xs.drop off).take len):=by simp only [Bk,hl]
   refine ⟨_,h1,this,rfl,Gf.freeze st l fr e xs,λht=>?_⟩
   have:=cell (.own l off len) _ _ hc h1 (by rw [kb];rfl) (Gf.freeze st l fr e xs) (λk hk=>by rw [List.mem_singleton.1 hk];exact St.Hg st l fr e xs) ht
   rw [kb] at this
   exact this
  ·rename_i e tid xs hl
   simp only [Option.some.injEq,Prod.mk.injEq] at he
   obtain ⟨rfl,rfl⟩:=he
   obtain ⟨h1,m⟩:=h.freeze (fr:=false) (.inr ⟨rfl,tid,hl⟩)
   have:=m.ac (.own l off len) v hc
   simp only [Ba,if_true] at this
   have kb:Bk st (.own l off len)= .data false (.slice e) ((xs.drop off).take len):=by simp only [Bk,hl]
   refine ⟨_,h1,this,rfl,Gf.freeze st l false e xs,λht=>?_⟩
   have:=cell (.own l off len) _ _ hc h1 (by rw [kb];rfl) (Gf.freeze st l false e xs) (λk hk=>by rw [List.mem_singleton.1 hk];exact St.Hg st l false e xs) ht
   rw [kb] at this
   exact this
  ·cases he
 ·rename_i l
  split at he
  ·rename_i vt mm hl
   simp only [Option.some.injEq,Prod.mk.injEq] at he
   obtain ⟨rfl,rfl⟩:=he
   obtain ⟨h1,m⟩:=h.Ek hl
   have:=m.ac (.Gi l) v hc
   simp only [Dk,if_true] at this
   exact ⟨_,h1,this,rfl,Gf.Ek st l vt mm,λht=>by simp [Mn,Lp] at ht⟩
  ·cases he
 ·rename_i a0 _ _
  split at he
  ·rename_i hs
   simp only [Option.some.injEq,Prod.mk.injEq] at he
   obtain ⟨rfl,rfl⟩:=he
   refine ⟨π,h,hc,hs,Gf.refl _ _,λht=>?_⟩
   have kb:=Ml (st:=st) hs
   have:=cell a0 st π hc h (by rw [kb];exact hs) (Gf.refl _ _) (λk hk=>by
    cases a0<;>simp [AC.settled] at hs<;>simp [AC.refs] at hk) ht
   rw [kb] at this
   exact this
  ·cases he
 ·rename_i cs
  cases hsc:Dq cs.length st cs with
  |none=>rw [hsc] at he;cases he
  |some p=>
   rw [hsc] at he
   simp only [Option.map_some,Option.some.injEq,Prod.mk.injEq] at he
   obtain ⟨rfl,rfl⟩:=he
   obtain ⟨us,rfl,hr⟩:=hc
   obtain ⟨π',h2,h3,h4,h5,h6,h7⟩:=aV cs.length st π cs us p.1 p.2 h hr hsc
   refine ⟨π',h2,⟨us,rfl,h3⟩,h4,h5,λht τ fr x Ok hv=>?_⟩
   simp only [Mn,Bool.and_eq_true] at ht
   simp only [Cr] at hv
   split at hv
   ·rename_i Ms
    rw [h6] at hv h4
    obtain ⟨F,f1,f2,f3⟩:=pw h.1 τ cs us fr x hr ht.1 (Qj ht.2) h4 Ok hv
    exact ⟨F,us,f1,by simp [Ar,Ms],zS h h2 h5 h7 f2 f3,λb hb=>let ⟨l,r,_,q⟩:=f3 b hb;⟨l,r,q⟩⟩
   ·cases hv
 ·simp only [Option.some.injEq,Prod.mk.injEq] at he
  obtain ⟨rfl,rfl⟩:=he
  exact ⟨π,h,hc,rfl,Gf.refl _ _,λht=>by simp [Mn] at ht⟩
 ·cases he
theorem bB {o i j s p:Nat} (Er:i≠j) (hp:p<s):(o+i)*s+p<(o+j)*s\/(o+j)*s+s<=(o+i)*s+p:=by
 rcases Nat.lt_or_gt_of_ne Er with h|h
 ·left
  have:(o+i+1)*s<=(o+j)*s:=Nat.mul_le_mul_right _ (by omega)
  rw [Nat.add_mul,Nat.one_mul] at this
  omega
 ·right
  have:(o+j+1)*s<=(o+i)*s:=Nat.mul_le_mul_right _ (by omega)
  rw [Nat.add_mul,Nat.one_mul] at this
  omega
theorem Ef {α:Type} (l ys:List α) (i k:Nat) (h:i+ys.length<=l.length):(Bg l i ys)[k]?=if k<i then l[k]? else if k<i+ys.length then ys[k-i]? else l[k]?:=by
 unfold Bg
 have t1:(l.take i).length=i:=by simp;omega
 split
 ·rename_i hk
  rw [List.append_assoc,List.getElem?_append_left (by omega),List.getElem?_take,if_pos hk]
 ·split
  ·rename_i hk
   rw [List.append_assoc,List.getElem?_append_right (by omega),t1,List.getElem?_append_left (by omega)]
  ·rw [List.getElem?_append_right (by simp;omega),List.getElem?_drop]
   congr 1
   simp;omega
theorem Eo {α:Type} (l ys:List α) (i:Nat) (h:i+ys.length<=l.length):(Bg l i ys).length=l.length:=by
 unfold Bg;simp;omega
theorem td (hT:Cd P T) {st:St} {a:Act} (h:Ai X π st a w) {t:TypeId} {e:Ty} (ht:T.ty t=some e) {l j:Nat} {r:Real} {vx:Value} {tid:TypeId} {fr Oo:Bool} {xs:List e.den} {x:e.den}
  (hp:π l=some r) {tr:Bool} (hl:Ae st.heap l=some (.arr fr tr e tid xs)) (hj:j<xs.length) (hx:Bc w (Bd X.w0.heap.size X.Sc π Oo) e vx x):
  ∃w',(Instr.storeAt t (.pointer (some ⟨r.g,(r.o+j)*e.size,none⟩)) vx).run P w= .ok () w'/\Ai X π (st.Ga l (.arr (fr&&Oo) false e tid (xs.set j x))) a w':=by
 have hb:=(h.1.heap l).Mc hl
 simp only [Au,Fk,hp] at hb
 obtain ⟨h1,cur,ti,h2,h3,h4,h5,h6,_⟩:=hb
 obtain ⟨es,bq,hv⟩:=hx
 have ee:=Cells.len e es x bq
 have Qb:(r.o+j)*e.size+es.length<=cur.size:=by
  have:(r.o+j+1)*e.size<=(r.o+r.cap)*e.size:=Nat.mul_le_mul_right _ (by omega)
  rw [Nat.add_mul (r.o+j) 1,Nat.one_mul] at this
  omega
 have Rq:(r.o+j)*e.size+es.length<=cur.toList.length:=by simpa using Qb
 have Of:=Pc (P:=P) (w:=w) (hT.ty _ _ ht) r.g ((r.o+j)*e.size) vx es (by rw [hv];exact Gj e es x bq) ee (Cells.plain e es x bq) cur ti h2 Qb
 refine ⟨_,by simp only [Instr.storeAt,Instr.sureAddr];simpa using Of,?_⟩
 refine h.set hl (b:= .arr (fr&&Oo) false e tid (xs.set j x)) ⟨rfl,by simp⟩ (by rw [hp];exact Ii w r.g _) λm=>?_
 simp only [Au,Fk,hp]
 refine ⟨⟨h1.1,h1.2.1,λhf=>h1.2.2 (by simp only [Bool.and_eq_true] at hf;exact hf.1)⟩,_,_,setRow_heap w r.g cur _ ti _ h2,by rw [List.size_toArray,Eo _ _ _ Rq];simpa using h3,h4,by simpa using h5,λi y hy=>?_,λhf=>by cases hf⟩
 rw [List.getElem?_set] at hy
 split at hy
 ·rename_i oE;subst oE
  simp only [Option.some.injEq] at hy;subst hy
  refine ⟨es,ee,λk u hu=>?_,(m.cells Oo e es x bq).and_right⟩
  have hk:k<es.length:=(List.getElem?_eq_some_iff.1 hu).1
  rw [List.getElem?_toArray,Ef _ _ _ _ Rq,if_neg (by omega),if_pos (by omega)]
  rw [show (r.o+j)*e.size+k-(r.o+j)*e.size=k by omega];exact hu
 ·rename_i oE
  obtain ⟨iF,LY,mj,uV⟩:=h6 i y hy
  refine ⟨iF,LY,λk u hu=>?_,(m.cells fr e iF y uV).and_left⟩
  have hk:k<iF.length:=(List.getElem?_eq_some_iff.1 hu).1
  have:=mj k u hu
  rw [List.getElem?_toArray,Ef _ _ _ _ Rq]
  rcases bB (o:=r.o) (i:=i) (j:=j) (s:=e.size) (p:=k) (Ne.symm oE) (by omega) with Ho|oD
  ·rw [if_pos Ho];simpa using this
  ·rw [if_neg (by omega),if_neg (by omega)];simpa using this
theorem ew: ∀(Fs:List (List Nat)) (i:Nat) (F':List Nat),(List.flatten Fs).Nodup->F'.Nodup->(∀b∈F',b∉List.flatten Fs)->(List.flatten (Fs.set i F')).Nodup/\ ∀b∈List.flatten (Fs.set i F'),b∈List.flatten Fs\/b∈F'
 | [],i,F',_,_,_=>by simp
 |G::Fs,0,F',hn,lq,hs=>by
  simp only [List.set_cons_zero,List.flatten_cons] at hn hs⊢
  obtain ⟨n1,n2,n3⟩:=List.nodup_append.1 hn
  refine ⟨List.nodup_append.2 ⟨lq,n2,λa ha b hb e=>hs a ha (List.mem_append_right _ (e▸hb))⟩,λb hb=>?_⟩
  rcases List.mem_append.1 hb with hb|hb
  ·exact .inr hb
  ·exact .inl (List.mem_append_right _ hb)
 |G::Fs,i+1,F',hn,lq,hs=>by
  simp only [List.set_cons_succ,List.flatten_cons] at hn hs⊢
  obtain ⟨n1,n2,n3⟩:=List.nodup_append.1 hn
  obtain ⟨m1,m2⟩:=ew Fs i F' n2 lq λb hb hm=>hs b hb (List.mem_append_right _ hm)
  refine ⟨List.nodup_append.2 ⟨n1,m1,λa ha b hb e=>?_⟩,λb hb=>?_⟩
  ·subst e
   rcases m2 a hb with h|h
   ·exact n3 a ha a h rfl
   ·exact hs a h (List.mem_append_left _ ha)
  ·rcases List.mem_append.1 hb with hb|hb
   ·exact .inl (List.mem_append_left _ hb)
   ·exact (m2 b hb).imp (List.mem_append_right _) id
theorem pt (hT:Cd P T) {st:St} {a:Act} (h:Ai X π st a w) {t:TypeId} {e:Ty} (ht:T.ty t=some e) {l j:Nat} {r:Real} {vx:Value} {tid:TypeId} {fr Oo:Bool} {xs:List e.den} {x:e.den}
  (hp:π l=some r) (hl:Ae st.heap l=some (.arr fr true e tid xs)) (hj:j<xs.length) (hx:Bc w (Bd X.w0.heap.size X.Sc π Oo) e vx x) {F:List Nat} {us:List Value} (hF:Be w F e us x) (IH:vx=Ar e us) (gL:bt X w π F):
  ∃w',(Instr.storeAt t (.pointer (some ⟨r.g,(r.o+j)*e.size,none⟩)) vx).run P w= .ok () w'/\Ai X (Pl π l (some (r.plus F))) (st.Ga l (.arr (fr&&Oo) true e tid (xs.set j x))) a w':=by
 have hb:=(h.1.heap l).Mc hl
 simp only [Au,Fk,hp] at hb
 obtain ⟨h1,cur,ti,h2,h3,h4,h5,h6,h7⟩:=hb
 obtain ⟨Fs,t1,t2,t3,t4⟩:=h7 trivial
 obtain ⟨es,bq,hv⟩:=hx
 have ee:=Cells.len e es x bq
 have Ag1:us=es:=by
  have c1:=Gj e us x (Be.cells (S:= λ_=>False) F e us x hF λ_ _ h=>h)
  have c2:=Gj e es x bq
  rw [<-IH,hv,c2] at c1
  simpa using c1.symm
 subst Ag1
 have Qb:(r.o+j)*e.size+us.length<=cur.size:=by
  have:(r.o+j+1)*e.size<=(r.o+r.cap)*e.size:=Nat.mul_le_mul_right _ (by omega)
  rw [Nat.add_mul (r.o+j) 1,Nat.one_mul] at this
  omega
 have Rq:(r.o+j)*e.size+us.length<=cur.toList.length:=by simpa using Qb
 have Of:=Pc (P:=P) (w:=w) (hT.ty _ _ ht) r.g ((r.o+j)*e.size) vx us (by rw [hv];exact Gj e us x bq) ee (Cells.plain e us x bq) cur ti h2 Qb
 have Ns:r.cl r.g:=h.1.sub l r _ hp h1.1
 have XA: ∀b∈F,b≠r.g:= λb hb e=>(gL.2 b hb).2.2 l r hp (e▸Ns)
 have AG:=ew Fs j F (List.nodup_cons.1 t2).2 gL.1 λb hb hm=>(gL.2 b hb).2.2 l r hp (t3 b hm)
 refine ⟨_,by simp only [Instr.storeAt,Instr.sureAddr];simpa using Of,?_⟩
 refine h.Agh hl (b:= .arr (fr&&Oo) true e tid (xs.set j x)) ⟨rfl,by simp⟩ hp (λc hc=>⟨(gL.2 c hc).1,(gL.2 c hc).2.1,λm r0 _=>(gL.2 c hc).2.2 m r0⟩) (Ii w r.g _) λm=>?_
 simp only [Au,Fk]
 have cell: ∀(i:Nat) (iF:List Value),i≠j->iF.length=e.size->(∀k u,iF[k]?=some u->cur[(r.o+i)*e.size+k]?=some u)-> ∀k u,iF[k]?=some u->(Bg cur.toList ((r.o+j)*e.size) us).toArray[(r.o+i)*e.size+k]?=some u:=by
  intro i iF j4 LY mj k u hu
  have hk:k<iF.length:=(List.getElem?_eq_some_iff.1 hu).1
  have:=mj k u hu
  rw [List.getElem?_toArray,Ef _ _ _ _ Rq]
  rcases bB (o:=r.o) (i:=i) (j:=j) (s:=e.size) (p:=k) j4 (by omega) with Ho|oD
  ·rw [if_pos Ho];simpa using this
  ·rw [if_neg (by omega),if_neg (by omega)];simpa using this
 have QG: ∀k u,us[k]?=some u->(Bg cur.toList ((r.o+j)*e.size) us).toArray[(r.o+j)*e.size+k]?=some u:=by
  intro k u hu
  have hk:k<us.length:=(List.getElem?_eq_some_iff.1 hu).1
  rw [List.getElem?_toArray,Ef _ _ _ _ Rq,if_neg (by omega),if_pos (by omega)]
  rw [show (r.o+j)*e.size+k-(r.o+j)*e.size=k by omega];exact hu
 refine ⟨⟨h1.1,h1.2.1,λhf=>h1.2.2 (by simp only [Bool.and_eq_true] at hf;exact hf.1)⟩,_,_,setRow_heap w r.g cur _ ti _ h2,by rw [List.size_toArray,Eo _ _ _ Rq,Array.length_toList];exact h3,h4,by rw [List.length_set];exact h5,λi y hy=>?_,λ_=>?_⟩
 ·rw [List.getElem?_set] at hy
  split at hy
  ·rename_i oE;subst oE
   simp only [Option.some.injEq] at hy;subst hy
   exact ⟨us,ee,QG,(m.cells Oo e us x bq).and_right⟩
  ·rename_i oE
   obtain ⟨iF,LY,mj,uV⟩:=h6 i y hy
   exact ⟨iF,LY,cell i iF (Ne.symm oE) LY mj,(m.cells fr e iF y uV).and_left⟩
 ·refine ⟨Fs.set j F,by simp [t1],List.nodup_cons.2 ⟨λhm=>?_,AG.1⟩,λb hb=>?_,λi y G hy hG=>?_⟩
  ·rcases AG.2 _ hm with h8|h8
   ·exact (List.nodup_cons.1 t2).1 h8
   ·exact XA _ h8 rfl
  ·exact (AG.2 b hb).imp (t3 b) id
  ·rw [List.getElem?_set] at hy hG
   split at hy
   ·rename_i oE;subst oE
    rw [if_pos rfl] at hG
    rw [if_pos (by omega)] at hG
    simp only [Option.some.injEq] at hy hG;subst hy;subst hG
    exact ⟨us,ee,QG,hF.Ct _ _ _ _ (by simp) λb hb=>setRow_other w r.g b _ (XA b hb)⟩
   ·rename_i oE
    rw [if_neg oE] at hG
    obtain ⟨iF,LY,mj,uV⟩:=t4 i y G hy hG
    exact ⟨iF,LY,cell i iF (Ne.symm oE) LY mj,uV.Ct _ _ _ _ (by simp) λb hb=>setRow_other w r.g b _ λe=>(List.nodup_cons.1 t2).1 (List.mem_flatten.2 ⟨G,List.mem_of_getElem? hG,e▸hb⟩)⟩
theorem kS (hT:Cd P T) {st:St} {a:Act} (h:Ai X π st a w) (t:TypeId) (p x:AV) (vp vx:Value) (hp:Ao X w π st.heap p vp) (hx:Ao X w π st.heap x vx) (st':St)
  (he:Nq T st t p x=some st'): ∃w' π',(Instr.storeAt t vp vx).run P w= .ok () w'/\Ai X π' st' a w':=by
 unfold Nq at he
 split at he
 ·rename_i τ l i ht
  split at he
  ·rename_i tid vs cs hl hc
   split at he
   ·rename_i hle
    simp only [Option.some.injEq] at he
    obtain ⟨w',h1,h2⟩:=tg hT h ht hp hx hl hc hle
    split at he
    ·rename_i Ff
     simp only [Bool.and_eq_true,Nat.blt_eq] at Ff
     subst he
     obtain ⟨FW,h3⟩:=a9 (T:=T) l i t τ cs.length 0 _ π (by omega) h2
     exact ⟨w',FW,h1,h3⟩
    ·subst he
     exact ⟨w',π,h1,h2⟩
   ·cases he
  ·cases he
 ·rename_i τ l j ht
  split at he
  ·rename_i x' st1 hs
   obtain ⟨Vj,h1,h2,h3,h4,h5⟩:=Vc h hx hs
   split at he
   ·rename_i fr tr e tid xs Oo y hl hv
    split at he
    ·rename_i ei;subst ei
     split at he
     ·rename_i hj
      simp only [Option.some.injEq] at he;subst he
      obtain ⟨r,b,sz,n,g1,g0,g2,g3,rfl⟩:=hp
      obtain ⟨k1,b',f,k2,k3⟩:=h4 l _ hl
      rw [g1] at k2;cases k2
      have g4:=congrArg OB.row k3
      rw [show (OB.map f b).row=b.row by cases b<;>rfl,g0] at g4
      simp only [OB.row,Option.some.injEq,Prod.mk.injEq] at g4
      obtain ⟨rfl,rfl⟩:=g4
      cases gN:(tr&&(Mn st x&&τ.tree)) with
      |false=>
       obtain ⟨w',q1,q2⟩:=td hT h1 ht (k1.trans g3) hl hj (Jp _ x' vx Oo y h3 h2 hv)
       exact ⟨w',Vj,q1,q2⟩
      |true=>
       simp only [Bool.and_eq_true] at gN
       obtain ⟨rfl,htv,ei⟩:=gN
       obtain ⟨F,us,f1,f2,f3,_⟩:=h5 htv τ Oo y ei hv
       obtain ⟨w',q1,q2⟩:=pt hT h1 ht (k1.trans g3) hl hj (Jp _ x' vx Oo y h3 h2 hv) f1 f2 f3
       exact ⟨w',_,q1,q2⟩
     ·cases he
    ·cases he
   ·cases he
  ·cases he
 ·cases he
theorem nw {S:Nat->Prop} {e:Ty} {v:Value} {ys:List e.den} (h:Cells w S (.slice e) [v] ys):
  ∃ad c,v= .slice ad ys.length c/\(ys= []\/ ∃g o,ad=some ⟨g,o,none⟩/\ ∃news:List Value,news.length=ys.length*e.size/\(∀j u,news[j]?=some u->w.cell? ⟨g,o+j,none⟩=some u)/\(∀u∈news,u.oneCell'=true)/\(∀j u,j<ys.length*e.size->w.cell? ⟨g,o+j,none⟩=some u->news[j]?=some u)/\
   ∀(i:Nat) (y:e.den),ys[i]?=some y-> ∃es:List Value,es.length=e.size/\(∀j u,es[j]?=some u->news[i*e.size+j]?=some u)/\Cells w S e es y):=by
 simp only [Cells] at h
 obtain ⟨ad,len,cap,hv,hl,mg,xV⟩:=h
 simp only [List.cons.injEq,and_true] at hv
 subst hl
 refine ⟨ad,cap,hv,?_⟩
 rcases xV with h0|⟨g,o,rfl,hg,hn,Gz⟩
 ·exact .inl h0
 ·right
  refine ⟨g,o,rfl,(List.range (ys.length*e.size)).map λj=>(w.cell? ⟨g,o+j,none⟩).getD undef,by simp,?_⟩
  have key: ∀k,k<ys.length*e.size-> ∃u,w.cell? ⟨g,o+k,none⟩=some u/\u.oneCell'=true:=by
   intro k hk
   have hs:0<e.size:=by
    rcases Nat.eq_zero_or_pos e.size with h|h
    ·rw [h] at hk;simp at hk
    ·exact h
   have hi:k/e.size<ys.length:=(Nat.div_lt_iff_lt_mul hs).2 hk
   obtain ⟨es,bq,hc,Ul⟩:=Gz (k/e.size) _ (List.getElem?_eq_getElem hi)
   have hm:k%e.size<es.length:=by rw [bq];exact Nat.mod_lt _ hs
   have:=hc (k%e.size) _ (List.getElem?_eq_getElem hm)
   rw [Nat.add_assoc,show k/e.size*e.size+k%e.size=k by rw [Nat.mul_comm];exact Nat.div_add_mod k e.size] at this
   exact ⟨_,this,Cells.plain e es _ Ul _ (List.getElem_mem hm)⟩
  refine ⟨λj u hu=>?_,λu hu=>?_,λj u hj hu=>by rw [List.getElem?_map,List.getElem?_range hj];simp [hu],λi y hy=>?_⟩
  ·rw [List.getElem?_map] at hu
   have hj:j<ys.length*e.size:=by
    by_cases hj:j<ys.length*e.size
    ·exact hj
    ·rw [List.getElem?_eq_none (by simpa using hj)] at hu;cases hu
   rw [List.getElem?_range hj] at hu
   obtain ⟨u',bn,_⟩:=key j hj
   simp only [Option.map_some,bn,Option.getD_some,Option.some.injEq] at hu
   rw [bn,hu]
  ·obtain ⟨j,hj,rfl⟩:=List.mem_map.1 hu
   obtain ⟨u',bn,h1⟩:=key j (List.mem_range.1 hj)
   rw [bn];exact h1
  ·obtain ⟨es,bq,hc,Ul⟩:=Gz i y hy
   refine ⟨es,bq,λj u hu=>?_,Ul⟩
   have hi:=(List.getElem?_eq_some_iff.1 hy).1
   have hj:=(List.getElem?_eq_some_iff.1 hu).1
   have Ho:i*e.size+j<ys.length*e.size:=by
    have:(i+1)*e.size<=ys.length*e.size:=Nat.mul_le_mul_right _ (by omega)
    rw [Nat.add_mul,Nat.one_mul] at this
    omega
   rw [List.getElem?_map,List.getElem?_range Ho]
   have:=hc j u hu
   rw [Nat.add_assoc] at this
   simp [this]
end
end Go.Proofs.Ytjbdmibbbpdnnaa
