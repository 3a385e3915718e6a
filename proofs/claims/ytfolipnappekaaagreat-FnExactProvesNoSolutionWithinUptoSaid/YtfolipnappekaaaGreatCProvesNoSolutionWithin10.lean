/-
  Part 11 of the proof that the statement FnExactProvesNoSolutionWithin holds.
-/
import Derived.Test.YtfolipnappekaaaGreatCProvesNoSolutionWithin09
namespace Go.Proofs.YtfolipnappekaaaGreat
open Go.RowKit
section
variable {P:Program} {T:Tab} {X:Ctx} {w w':World} {π:Pi} {H:List (Nat×OB)}
theorem OB.map_map (f g:AC->AC) (b:OB):OB.map g (OB.map f b)=OB.map (λc=>g (f c)) b:=by
 cases b with
 |var t vs=>simp [OB.map,Function.comp_def]
 |_=>rfl
theorem OB.zK (b:OB):OB.map (λc=>c) b=b:=by
 cases b with
 |var t vs=>simp [OB.map]
 |_=>rfl
def Gh (π π':Pi) (H H':List (Nat×OB)):Prop:= ∀l b',Ad H' l=some b'->π' l=π l/\ ∃b f,Ad H l=some b/\b'=OB.map f b
theorem Gh.refl (π:Pi) (H:List (Nat×OB)):Gh π π H H:= λ_ b h=>⟨rfl,b,λc=>c,h,(OB.zK b).symm⟩
theorem Gh.trans {Yi PQ π3:Pi} {H1 H2 H3:List (Nat×OB)} (h:Gh Yi PQ H1 H2) (h':Gh PQ π3 H2 H3):Gh Yi π3 H1 H3:= λl b hb=>by
 obtain ⟨e1,b1,f1,h1,rfl⟩:=h' l b hb
 obtain ⟨e2,b2,f2,h2,rfl⟩:=h l b1 h1
 exact ⟨e1.trans e2,b2,_,h2,OB.map_map f2 f1 b2⟩
theorem Gh.freeze (st:St) (l:Nat) (fr:Bool) (e:Ty) (xs:List e.den):Gh π (Rl π l none) st.heap (st.freeze l fr e xs).heap:= λk b hb=>by
 by_cases hk:k=l
 ·subst hk;rw [St.Hp] at hb;cases hb
 ·rw [St.Mn st l k fr e xs hk] at hb
  cases h0:Ad st.heap k with
  |none=>rw [h0] at hb;cases hb
  |some b0=>
   rw [h0] at hb
   simp only [Option.map_some,Option.some.injEq] at hb
   exact ⟨Cy π none hk,b0,_,rfl,hb.symm⟩
theorem Gh.Eo (st:St) (l:Nat) (v:Ty) (m:ByteArray->Option v.den):Gh π (Rl π l none) st.heap (st.Eo l v m).heap:= λk b hb=>by
 by_cases hk:k=l
 ·subst hk;rw [St.Nt] at hb;cases hb
 ·rw [St.Ly st l k v m hk] at hb
  cases h0:Ad st.heap k with
  |none=>rw [h0] at hb;cases hb
  |some b0=>
   rw [h0] at hb
   simp only [Option.map_some,Option.some.injEq] at hb
   exact ⟨Cy π none hk,b0,_,rfl,hb.symm⟩
theorem Gh.gone {π':Pi} {H':List (Nat×OB)} (k:Gh π π' H H') {l:Nat} (h:Ad H l=none):Ad H' l=none:=by
 cases hb:Ad H' l with
 |none=>rfl
 |some b=>
  obtain ⟨_,b0,f,h1,_⟩:=k l b hb
  rw [h] at h1;cases h1
def Bo (st:St):AC->AC
 | .own l off len=>match st.at l with
  |some (.arr fr _ e _ xs)=> .data fr (.slice e) ((xs.drop off).take len)
  |some (.Dg e _ xs)=> .data false (.slice e) ((xs.drop off).take len)
  |_=> .own l off len
 | .Gd l=>match st.at l with
  |some (.Qi v m)=> .data false (.smap v) m
  |_=> .Gd l
 |c=>c
theorem Nz {st:St} {c:AC} (h:c.settled=true):Bo st c=c:=by
 cases c<;>simp [AC.settled] at h<;>rfl
theorem sY {st st':St} {f:AC->AC} {l:Nat} (hH: ∀m,m≠l->Ad st'.heap m=(Ad st.heap m).map (OB.map f)) {c:AC} (hc: ∀k∈c.refs,k≠l):Bo st' c=Bo st c:=by
 cases c with
 |own k off len=>
  have hk:k≠l:=hc k (by simp [AC.refs])
  simp only [Bo,St.at,hH k hk]
  cases Ad st.heap k with
  |none=>rfl
  |some b=>cases b<;>rfl
 |Gd k=>
  have hk:k≠l:=hc k (by simp [AC.refs])
  simp only [Bo,St.at,hH k hk]
  cases Ad st.heap k with
  |none=>rfl
  |some b=>cases b<;>rfl
 |_=>rfl
theorem cO {a:Act} : ∀(n:Nat) (st:St) (π:Pi) (cs:List AC) (us:List Value) (dx:List AC) (st':St),Ak X π st a w->Da X w π st.heap cs us->
  Dr n st cs=some (dx,st')-> ∃π',Ak X π' st' a w/\Da X w π' st'.heap dx us/\dx.all (·.settled)=true/\Gh π π' st.heap st'.heap/\dx=cs.map (Bo st)/\
   (∀k,k∈cs.flatMap AC.refs->Ad st'.heap k=none)
 |0,st,π,cs,us,dx,st',h,hr,he=>by
  simp only [Dr] at he
  split at he
  ·rename_i hs
   simp only [Option.some.injEq,Prod.mk.injEq] at he
   obtain ⟨rfl,rfl⟩:=he
   have zi:=List.all_eq_true.1 hs
   exact ⟨π,h,hr,hs,Gh.refl _ _,((List.map_congr_left λc hc=>Nz (zi c hc)).trans (List.map_id'' (λ_=>rfl) cs)).symm,λk hk=>by
    obtain ⟨c,hc,yd⟩:=List.mem_flatMap.1 hk
    have:=zi c hc
    cases c<;>simp [AC.settled] at this<;>simp [AC.refs] at yd⟩
  ·cases he
 |n+1,st,π,cs,us,dx,st',h,hr,he=>by
  simp only [Dr] at he
  have step: ∀(f:AC->AC) (l:Nat) (st1:St),Ak X (Rl π l none) st1 a w->Move X w w π (Rl π l none) st.heap st1.heap f->Ad st1.heap l=none->(∀m,m≠l->Ad st1.heap m=(Ad st.heap m).map (OB.map f))->
    Gh π (Rl π l none) st.heap st1.heap->(∀c∈cs,(∀k∈c.refs,k≠l)->f c=c)->(∀c∈cs,l∈c.refs->(f c).refs= []/\(Bo st1 (f c)).settled=true->f c=Bo st c)->
    (∀c∈cs,l∈c.refs->(f c).refs= [])->Dr n st1 (cs.map f)=some (dx,st')->
    ∃π',Ak X π' st' a w/\Da X w π' st'.heap dx us/\dx.all (·.settled)=true/\Gh π π' st.heap st'.heap/\dx=cs.map (Bo st)/\(∀k,k∈cs.flatMap AC.refs->Ad st'.heap k=none):=by
   intro f l st1 h1 m hl hH hK hf0 hf1 hf2 he
   obtain ⟨π',h2,h3,h4,h5,h6,h7⟩:=cO n st1 _ (cs.map f) us dx st' h1 (m.WZ hr) he
   refine ⟨π',h2,h3,h4,hK.trans h5,?_,λk hk=>?_⟩
   ·rw [h6,List.map_map]
    refine List.map_congr_left λc hc=>?_
    simp only [Function.comp]
    by_cases Lw:l∈c.refs
    ·have Fh:=List.all_eq_true.1 h4
     have jW:Bo st1 (f c)∈dx:=by rw [h6];exact List.mem_map.2 ⟨f c,List.mem_map.2 ⟨c,hc,rfl⟩,rfl⟩
     have hs:=Fh _ jW
     have h8:=hf1 c hc Lw ⟨hf2 c hc Lw,hs⟩
     have h9:Bo st1 (f c)=f c:=by
      have:=hf2 c hc Lw
      cases hfc:f c<;>rw [hfc] at this<;>first|(simp [AC.refs] at this;done)|rfl
     rw [h9,h8]
    ·have Ek: ∀k∈c.refs,k≠l:= λk hk e=>Lw (e▸hk)
     rw [hf0 c hc Ek]
     exact sY hH Ek
   ·obtain ⟨c,hc,yd⟩:=List.mem_flatMap.1 hk
    by_cases Na:k=l
    ·subst Na;exact h5.gone hl
    ·by_cases Lw:l∈c.refs
     ·
      have Fh:=List.all_eq_true.1 h4
      have jW:Bo st1 (f c)∈dx:=by rw [h6];exact List.mem_map.2 ⟨f c,List.mem_map.2 ⟨c,hc,rfl⟩,rfl⟩
      have hs:=Fh _ jW
      have h8:=hf1 c hc Lw ⟨hf2 c hc Lw,hs⟩
      have h9:Bo st1 (f c)=f c:=by
       have:=hf2 c hc Lw
       cases hfc:f c<;>rw [hfc] at this<;>first|(simp [AC.refs] at this;done)|rfl
      rw [h9,h8] at hs
      cases c with
      |clo g Ca=>simp [Bo,AC.settled] at hs
      |own k' _ _=>simp [AC.refs] at Lw yd;exact absurd (yd.trans Lw.symm) Na
      |Gd k'=>simp [AC.refs] at Lw yd;exact absurd (yd.trans Lw.symm) Na
      |Dt k' _=>simp [AC.refs] at Lw yd;exact absurd (yd.trans Lw.symm) Na
      |Fy k' _=>simp [AC.refs] at Lw yd;exact absurd (yd.trans Lw.symm) Na
      |sub k' _ _=>simp [AC.refs] at Lw yd;exact absurd (yd.trans Lw.symm) Na
      |Fu k' _ _=>simp [AC.refs] at Lw yd;exact absurd (yd.trans Lw.symm) Na
      |_=>simp [AC.refs] at yd
     ·have Ek: ∀k∈c.refs,k≠l:= λk hk e=>Lw (e▸hk)
      exact h7 k (List.mem_flatMap.2 ⟨f c,List.mem_map.2 ⟨c,hc,rfl⟩,by rw [hf0 c hc Ek];exact yd⟩)
  have ye: ∀(st1:St) (c:AC),(Bo st1 c).settled=true->c≠ .undef:= λst1 c hs e=>by rw [e] at hs;simp [Bo,AC.settled] at hs
  split at he
  ·rename_i hf
   simp only [Option.some.injEq,Prod.mk.injEq] at he
   obtain ⟨rfl,rfl⟩:=he
   have zi: ∀c∈cs,c.settled=true:= λc hc=>by have:=List.find?_eq_none.1 hf c hc;simpa using this
   exact ⟨π,h,hr,List.all_eq_true.2 zi,Gh.refl _ _,((List.map_congr_left λc hc=>Nz (zi c hc)).trans (List.map_id'' (λ_=>rfl) cs)).symm,λk hk=>by
    obtain ⟨c,hc,yd⟩:=List.mem_flatMap.1 hk
    have:=zi c hc
    cases c<;>simp [AC.settled] at this<;>simp [AC.refs] at yd⟩
  ·rename_i l off len hf
   split at he
   ·rename_i fr tr e tid xs hl
    unfold St.at at hl
    obtain ⟨h1,m⟩:=h.freeze (fr:=fr) (.inl ⟨tr,tid,hl⟩)
    refine step _ l _ h1 m (St.Hp st l fr e xs) (λm hm=>St.Mn st l m fr e xs hm) (Gh.freeze st l fr e xs) (λc _ hc=>dL hc) (λc _ Lw hs=>?_) (λc _ Lw=>?_) he
    ·cases c with
     |own k o n=>have:k=l:=(List.mem_singleton.1 Lw).symm
                 subst this;simp only [Bh,if_pos,Bo,St.at,hl]
     |Dt k o=>have:k=l:=(List.mem_singleton.1 Lw).symm
              subst this;simp only [Bh,if_pos] at hs;exact absurd rfl (ye _ _ hs.2)
     |Fy k o=>have:k=l:=(List.mem_singleton.1 Lw).symm
              subst this;simp only [Bh,if_pos] at hs;exact absurd rfl (ye _ _ hs.2)
     |sub k o o2=>have:k=l:=(List.mem_singleton.1 Lw).symm
                  subst this;simp only [Bh,if_pos] at hs;exact absurd rfl (ye _ _ hs.2)
     |Fu k o o2=>have:k=l:=(List.mem_singleton.1 Lw).symm
                 subst this;simp only [Bh,if_pos] at hs;exact absurd rfl (ye _ _ hs.2)
     |Gd k=>have:k=l:=(List.mem_singleton.1 Lw).symm
            subst this;simp only [Bh,if_pos] at hs;exact absurd rfl (ye _ _ hs.2)
     |clo g Ca=>
      simp only [Bh] at hs
      rw [if_pos (by simpa [AC.refs] using Lw)] at hs
      exact absurd rfl (ye _ _ hs.2)
     |_=>simp [AC.refs] at Lw
    ·cases c with
     |own k o n=>have:k=l:=(List.mem_singleton.1 Lw).symm
                 subst this;simp only [Bh,if_pos];rfl
     |Dt k o=>have:k=l:=(List.mem_singleton.1 Lw).symm
              subst this;simp only [Bh,if_pos];rfl
     |Fy k o=>have:k=l:=(List.mem_singleton.1 Lw).symm
              subst this;simp only [Bh,if_pos];rfl
     |sub k o o2=>have:k=l:=(List.mem_singleton.1 Lw).symm
                  subst this;simp only [Bh,if_pos];rfl
     |Fu k o o2=>have:k=l:=(List.mem_singleton.1 Lw).symm
                 subst this;simp only [Bh,if_pos];rfl
     |Gd k=>have:k=l:=(List.mem_singleton.1 Lw).symm
            subst this;simp only [Bh,if_pos];rfl
     |clo g Ca=>simp only [Bh];rw [if_pos (by simpa [AC.refs] using Lw)];rfl
     |_=>simp [AC.refs] at Lw
   ·rename_i e tid xs hl
    unfold St.at at hl
    obtain ⟨h1,m⟩:=h.freeze (fr:=false) (.inr ⟨rfl,tid,hl⟩)
    refine step _ l _ h1 m (St.Hp st l false e xs) (λm hm=>St.Mn st l m false e xs hm) (Gh.freeze st l false e xs) (λc _ hc=>dL hc) (λc _ Lw hs=>?_) (λc _ Lw=>?_) he
    ·cases c with
     |own k o n=>have:k=l:=(List.mem_singleton.1 Lw).symm
                 subst this;simp only [Bh,if_pos,Bo,St.at,hl]
     |Dt k o=>have:k=l:=(List.mem_singleton.1 Lw).symm
              subst this;simp only [Bh,if_pos] at hs;exact absurd rfl (ye _ _ hs.2)
     |Fy k o=>have:k=l:=(List.mem_singleton.1 Lw).symm
              subst this;simp only [Bh,if_pos] at hs;exact absurd rfl (ye _ _ hs.2)
     |sub k o o2=>have:k=l:=(List.mem_singleton.1 Lw).symm
                  subst this;simp only [Bh,if_pos] at hs;exact absurd rfl (ye _ _ hs.2)
     |Fu k o o2=>have:k=l:=(List.mem_singleton.1 Lw).symm
                 subst this;simp only [Bh,if_pos] at hs;exact absurd rfl (ye _ _ hs.2)
     |Gd k=>have:k=l:=(List.mem_singleton.1 Lw).symm
            subst this;simp only [Bh,if_pos] at hs;exact absurd rfl (ye _ _ hs.2)
     |clo g Ca=>
      simp only [Bh] at hs
      rw [if_pos (by simpa [AC.refs] using Lw)] at hs
      exact absurd rfl (ye _ _ hs.2)
     |_=>simp [AC.refs] at Lw
    ·cases c with
     |own k o n=>have:k=l:=(List.mem_singleton.1 Lw).symm
                 subst this;simp only [Bh,if_pos];rfl
     |Dt k o=>have:k=l:=(List.mem_singleton.1 Lw).symm
              subst this;simp only [Bh,if_pos];rfl
     |Fy k o=>have:k=l:=(List.mem_singleton.1 Lw).symm
              subst this;simp only [Bh,if_pos];rfl
     |sub k o o2=>have:k=l:=(List.mem_singleton.1 Lw).symm
                  subst this;simp only [Bh,if_pos];rfl
     |Fu k o o2=>have:k=l:=(List.mem_singleton.1 Lw).symm
                 subst this;simp only [Bh,if_pos];rfl
     |Gd k=>have:k=l:=(List.mem_singleton.1 Lw).symm
            subst this;simp only [Bh,if_pos];rfl
     |clo g Ca=>simp only [Bh];rw [if_pos (by simpa [AC.refs] using Lw)];rfl
     |_=>simp [AC.refs] at Lw
   ·cases he
  ·rename_i l hf
   split at he
   ·rename_i v mm hl
    unfold St.at at hl
    obtain ⟨h1,m⟩:=h.Eo hl
    refine step _ l _ h1 m (St.Nt st l v mm) (λm hm=>St.Ly st l m v mm hm) (Gh.Eo st l v mm) (λc _ hc=>pL hc) (λc _ Lw hs=>?_) (λc _ Lw=>?_) he
    ·cases c with
     |Gd k=>have:k=l:=(List.mem_singleton.1 Lw).symm
            subst this;simp only [Dl,if_pos,Bo,St.at,hl]
     |Dt k o=>have:k=l:=(List.mem_singleton.1 Lw).symm
              subst this;simp only [Dl,if_pos] at hs;exact absurd rfl (ye _ _ hs.2)
     |Fy k o=>have:k=l:=(List.mem_singleton.1 Lw).symm
              subst this;simp only [Dl,if_pos] at hs;exact absurd rfl (ye _ _ hs.2)
     |sub k o o2=>have:k=l:=(List.mem_singleton.1 Lw).symm
                  subst this;simp only [Dl,if_pos] at hs;exact absurd rfl (ye _ _ hs.2)
     |Fu k o o2=>have:k=l:=(List.mem_singleton.1 Lw).symm
                 subst this;simp only [Dl,if_pos] at hs;exact absurd rfl (ye _ _ hs.2)
     |own k o n=>have:k=l:=(List.mem_singleton.1 Lw).symm
                 subst this;simp only [Dl,if_pos] at hs;exact absurd rfl (ye _ _ hs.2)
     |clo g Ca=>
      simp only [Dl] at hs
      rw [if_pos (by simpa [AC.refs] using Lw)] at hs
      exact absurd rfl (ye _ _ hs.2)
     |_=>simp [AC.refs] at Lw
    ·cases c with
     |own k o n=>have:k=l:=(List.mem_singleton.1 Lw).symm
                 subst this;simp only [Dl,if_pos];rfl
     |Dt k o=>have:k=l:=(List.mem_singleton.1 Lw).symm
              subst this;simp only [Dl,if_pos];rfl
     |Fy k o=>have:k=l:=(List.mem_singleton.1 Lw).symm
              subst this;simp only [Dl,if_pos];rfl
     |sub k o o2=>have:k=l:=(List.mem_singleton.1 Lw).symm
                  subst this;simp only [Dl,if_pos];rfl
     |Fu k o o2=>have:k=l:=(List.mem_singleton.1 Lw).symm
                 subst this;simp only [Dl,if_pos];rfl
     |Gd k=>have:k=l:=(List.mem_singleton.1 Lw).symm
            subst this;simp only [Dl,if_pos];rfl
     |clo g Ca=>simp only [Dl];rw [if_pos (by simpa [AC.refs] using Lw)];rfl
     |_=>simp [AC.refs] at Lw
   ·cases he
  ·cases he
def dc (X:Ctx) (w:World) (π:Pi) (F:List Nat):Prop:=F.Nodup/\ ∀b∈F,(X.w0.heap.size<=b\/X.gv b)/\b<w.heap.size/\ ∀l r,π l=some r-> ¬r.cl b
theorem So {S:Nat->Prop} : ∀(e:Ty) (es:List Value) (x:e.den),e.flat=true->Cells w S e es x->Ax w [] e es x
 | .int k,cs,n,_,h=>⟨rfl,h⟩
 | .bool,cs,n,_,h=>⟨rfl,h⟩
 | .str,cs,n,_,h=>⟨rfl,h⟩
 | .unit,cs,n,_,h=>⟨rfl,h⟩
 | .pair a r,cs,x,hf,h=>by
  simp only [Ty.flat,Bool.and_eq_true] at hf
  simp only [Cells] at h
  simp only [Ax]
  obtain ⟨c1,c2,h1,h2,h3⟩:=h
  exact ⟨c1,c2,[],[],h1,rfl,So a c1 x.1 hf.1 h2,So r c2 x.2 hf.2 h3⟩
 | .slice _,_,_,hf,_=>by simp [Ty.flat] at hf
 | .oslice _,_,_,hf,_=>by simp [Ty.flat] at hf
 | .ptr _,_,_,hf,_=>by simp [Ty.flat] at hf
 | .optr _,_,_,hf,_=>by simp [Ty.flat] at hf
 | .smap _,_,_,hf,_=>by simp [Ty.flat] at hf
 | .clo _ _,_,_,hf,_=>by simp [Ty.flat] at hf
theorem Ng {Fs:List (List Nat)} (off len:Nat) (b:Nat) (h:b∈List.flatten ((Fs.drop off).take len)):b∈List.flatten Fs:=by
 obtain ⟨F,hF,hb⟩:=List.mem_flatten.1 h
 exact List.mem_flatten.2 ⟨F,List.mem_of_mem_drop (List.mem_of_mem_take hF),hb⟩
theorem Vj {α:Type} {a b:List (List α)} (h:a.Sublist b):(List.flatten a).Sublist (List.flatten b):=by
 induction h with
 |slnil=>exact List.Sublist.refl _
 |cons c _ ih=>simp only [List.flatten_cons];exact ih.trans (List.sublist_append_right _ _)
 |cons_cons c _ ih=>simp only [List.flatten_cons];exact List.Sublist.append (List.Sublist.refl _) ih
theorem j0 {Fs:List (List Nat)} (off len:Nat) (h:(List.flatten Fs).Nodup):(List.flatten ((Fs.drop off).take len)).Nodup:=by
 have h1:((Fs.drop off).take len).Sublist Fs:=(List.take_sublist len _).trans (List.drop_sublist off Fs)
 exact h.sublist (Vj h1)
theorem fT {P:Nat->Prop} {r:Real} {off len:Nat} {v:Value} {e:Ty} {tid:TypeId} {xs:List e.den} {cur:Array Value} (h2:w.heap[r.g]?=some (.cells cur tid (0,0))) (Vp:cur.size=(r.o+r.cap)*e.size) (pR:r.cap<=maxLen)
  (hlen:off+len<=xs.length) (hv:Ec (some r) e.size off len v) (ht:Sa w P r.g r.o cur e xs) (hg:P r.g):
  ∃F,Ax w F (.slice e) [v] ((xs.drop off).take len)/\F.Nodup/\ ∀b∈F,P b:=by
 have WT:((xs.drop off).take len).length=len:=by simp;omega
 obtain ⟨ad,rfl,hc,ha⟩:=hv
 obtain ⟨Fs,t1,t2,t3,t4⟩:=ht
 ·refine ⟨r.g::List.flatten ((Fs.drop off).take len),⟨some ad,len,r.cap-off,rfl,WT.symm,by omega, .inr ⟨ad,r.g,(r.o+off)*e.size,_,rfl,λh0=>ha (by omega),⟨cur,tid,r.o+off,h2,rfl,by rw [Vp];congr 1;omega,by omega⟩,rfl,by simp;omega,λi x F hx hF=>?_⟩⟩,?_,λb hb=>?_⟩
  ·have hi:i<len:=by
    have:=(List.getElem?_eq_some_iff.1 hx).1
    rw [WT] at this;exact this
   have hx':xs[off+i]?=some x:=by rw [List.getElem?_take,if_pos hi,List.getElem?_drop] at hx;exact hx
   have hF':Fs[off+i]?=some F:=by rw [List.getElem?_take,if_pos hi,List.getElem?_drop] at hF;exact hF
   obtain ⟨es,he,hj,wa⟩:=t4 (off+i) x F hx' hF'
   refine ⟨es,he,λj u hu=>?_,wa⟩
   rw [cellOf h2]
   have:=hj j u hu
   rw [<-this]
   congr 1
   rw [<-Nat.add_assoc,Nat.add_mul (r.o+off) i]
  ·have:=List.nodup_cons.1 t2
   exact List.nodup_cons.2 ⟨λhm=>this.1 (Ng off len _ hm),j0 off len this.2⟩
  ·rcases List.mem_cons.1 hb with rfl|hb
   ·exact hg
   ·exact t3 b (Ng off len b hb)
theorem l7 {st:St} (h:Im X w π st.heap) {c:AC} {v:Value} (hc:Dv X w π st.heap c v) (ht:Mz st c=true) (τ:Ty) (fr:Bool) (x:τ.den) (Oi:τ.Ac=false) (LZ:τ.tree=true)
  (hv:Bp st τ (Bo st c)=some (fr,x)): ∃F,Ax w F τ [v] x/\F.Nodup/\ ∀b∈F,∃l r,l∈c.refs/\π l=some r/\r.cl b:=by
 cases c with
 |data Qt Jr y=>
  simp only [Mz] at ht
  simp only [Bo,Jh] at hv
  split at hv
  ·rename_i he;subst he
   simp only [Option.some.injEq,Prod.mk.injEq] at hv
   obtain ⟨_,rfl⟩:=hv
   exact ⟨[],So Jr _ _ ht (Bc.Mv Oi hc),List.nodup_nil,λb hb=>by cases hb⟩
  ·unfold dw at hv
   split at hv
   ·simp [Ty.flat] at ht
   ·simp [Ty.flat] at ht
   ·cases hv
 |Hr=>
  have hc:v= .slice none 0 0:=hc
  subst hc
  cases τ with
  |slice e=>
   simp only [Bo,Bp,Option.some.injEq,Prod.mk.injEq] at hv
   obtain ⟨_,rfl⟩:=hv
   exact ⟨[],⟨none,0,0,rfl,rfl,Nat.le_refl _, .inl ⟨rfl,rfl,rfl,rfl⟩⟩,List.nodup_nil,λb hb=>by cases hb⟩
  |oslice e=>simp [Ty.tree] at LZ
  |_=>simp [Bo,Bp] at hv
 |own l off len=>
  simp only [Mz] at ht
  split at ht
  ·rename_i Qt tr e tid xs hl
   have Gt:=hl
   unfold St.at at hl
   simp only [Bo,Gt,Jh] at hv
   split at hv
   ·rename_i he;subst he
    simp only [Option.some.injEq,Prod.mk.injEq] at hv
    obtain ⟨_,rfl⟩:=hv
    obtain ⟨h2,h3⟩:=Jv hc hl
    have hb:=(h.heap l).Md hl
    simp only [Av,Fv] at hb
    cases hp:π l with
    |none=>
     rw [hp] at h3
     obtain ⟨rfl,rfl,rfl⟩:=h3
     exact ⟨[],⟨none,0,0,rfl,by simp,Nat.le_refl _, .inl ⟨by simp,rfl,rfl,rfl⟩⟩,List.nodup_nil,λb hb=>by cases hb⟩
    |some r=>
     rw [hp] at hb h3
     obtain ⟨k1,cur,_,k2,k3,k4,k5,k6,k7⟩:=hb
     have JY:Sa w r.cl r.g r.o cur e xs:=by
      simp only [Bool.or_eq_true] at ht
      rcases ht with ht|ht
      ·exact k7 ht
      ·refine ⟨List.replicate xs.length [],by simp,by simp,by simp,λi x F hx hF=>?_⟩
       obtain ⟨es,e1,e2,e3⟩:=k6 i x hx
       have:F= []:=by
        have:=List.mem_of_getElem? hF
        exact List.eq_of_mem_replicate this
       subst this
       exact ⟨es,e1,e2,So e es x ht e3⟩
     obtain ⟨F,f1,f2,f3⟩:=fT k2 k3 k4 h2 h3 JY (h.sub l r _ hp k1.1)
     exact ⟨F,f1,f2,λb hb=>⟨l,r,by simp [AC.refs],hp,f3 b hb⟩⟩
   ·cases τ<;>simp [dw] at hv
  ·rename_i e tid xs hl
   have Gt:=hl
   unfold St.at at hl
   simp only [Bo,Gt,Jh] at hv
   split at hv
   ·rename_i he;subst he
    simp only [Option.some.injEq,Prod.mk.injEq] at hv
    obtain ⟨_,rfl⟩:=hv
    obtain ⟨h2,h3⟩:=Xy hc hl
    have hb:=(h.heap l).Md hl
    simp only [Av,Ji] at hb
    cases hp:π l with
    |none=>
     rw [hp] at h3
     obtain ⟨rfl,rfl,rfl⟩:=h3
     exact ⟨[],⟨none,0,0,rfl,by simp,Nat.le_refl _, .inl ⟨by simp,rfl,rfl,rfl⟩⟩,List.nodup_nil,λb hb=>by cases hb⟩
    |some r=>
     rw [hp] at hb h3
     obtain ⟨k1,cur,_,k2,k3,k4,k5,k7⟩:=hb
     obtain ⟨F,f1,f2,f3⟩:=fT k2 k3 k4 h2 h3 k7 k1
     exact ⟨F,f1,f2,λb hb=>⟨l,r,by simp [AC.refs],hp,h.sub l r b hp (f3 b hb)⟩⟩
   ·cases τ<;>simp [dw] at hv
  ·cases ht
 |_=>simp [Mz] at ht
theorem Sw: ∀ {l:List Nat},Vg l=true->l.Nodup
 | [],_=>List.nodup_nil
 |a::r,h=>by
  simp only [Vg,Bool.and_eq_true,Bool.not_eq_true',List.contains_eq_mem,decide_eq_false_iff_not] at h
  exact List.nodup_cons.2 ⟨h.1,Sw h.2⟩
theorem Wm {st st':St} {τ:Ty} {c:AC} (h:c.settled=true):Bp st' τ c=Bp st τ c:=by
 cases c<;>simp [AC.settled] at h<;>cases τ<;>rfl
theorem tz {st st':St} (h:Im X w π st.heap): ∀(τ:Ty) (cs:List AC) (us:List Value) (fr:Bool) (x:τ.den),Da X w π st.heap cs us->cs.all (Mz st)=true->(cs.flatMap AC.refs).Nodup->
  (cs.map (Bo st)).all (·.settled)=true->τ.tree=true->Cu st' τ (cs.map (Bo st))=some (fr,x)-> ∃F,Ax w F τ us x/\F.Nodup/\ ∀b∈F,∃l r,l∈cs.flatMap AC.refs/\π l=some r/\r.cl b:=by
 have one: ∀(τ:Ty) (cs:List AC) (us:List Value) (fr:Bool) (x:τ.den),τ.Ac=false->Da X w π st.heap cs us->cs.all (Mz st)=true->
   (cs.map (Bo st)).all (·.settled)=true->τ.tree=true->Cu st' τ (cs.map (Bo st))=some (fr,x)-> ∃F,Ax w F τ us x/\F.Nodup/\ ∀b∈F,∃l r,l∈cs.flatMap AC.refs/\π l=some r/\r.cl b:=by
  intro τ cs us fr x Oi hr ht hs Qk hv
  rw [Ok Oi] at hv
  rcases cs with _|⟨c,_|⟨d,cs⟩⟩
  ·cases hv
  ·simp only [List.map_cons,List.map_nil] at hv
   obtain ⟨u,hu,_,hc⟩:=hr.2 0 c rfl
   have hl:us.length=1:=hr.1
   obtain ⟨u',rfl⟩:=List.length_eq_one_iff.1 hl
   simp at hu;subst hu
   rw [Wm (st:=st) (by simpa using hs)] at hv
   obtain ⟨F,f1,f2,f3⟩:=l7 h hc (by simpa using ht) τ fr x Oi Qk hv
   exact ⟨F,f1,f2,λb hb=>by obtain ⟨l,r,g1,g2⟩:=f3 b hb;exact ⟨l,r,by simpa using g1,g2⟩⟩
  ·cases hv
 intro τ
 induction τ with
 |unit=>
  intro cs us fr x hr ht hd hs Qk hv
  cases cs with
  |nil=>have:us= []:=List.eq_nil_of_length_eq_zero hr.1;subst this;exact ⟨[],⟨rfl,rfl⟩,List.nodup_nil,λb hb=>by cases hb⟩
  |cons c cs=>simp [Cu] at hv
 |pair a r jm fv=>
  intro cs us fr x hr ht hd hs Qk hv
  simp only [Ty.tree,Bool.and_eq_true] at Qk
  simp only [Cu] at hv
  split at hv
  ·rename_i f1 y f2 z h1 h2
   simp only [Option.some.injEq,Prod.mk.injEq] at hv
   obtain ⟨rfl,rfl⟩:=hv
   have MG:Da X w π st.heap (cs.take a.size) (us.take a.size):=by have:=Ur hr 0 a.size;simpa using this
   have SC:Da X w π st.heap (cs.drop a.size) (us.drop a.size):=
    ⟨by simp [hr.1],λi c hc=>by
     rw [List.getElem?_drop] at hc⊢
     exact hr.2 _ c hc⟩
   have Ait: ∀ {p:AC->Bool} {l:List AC} (n:Nat),l.all p=true->(l.take n).all p=true:= λn hl=>List.all_eq_true.2 λc hc=>List.all_eq_true.1 hl c (List.mem_of_mem_take hc)
   have Aiu: ∀ {p:AC->Bool} {l:List AC} (n:Nat),l.all p=true->(l.drop n).all p=true:= λn hl=>List.all_eq_true.2 λc hc=>List.all_eq_true.1 hl c (List.mem_of_mem_drop hc)
   have hdd:((cs.take a.size++cs.drop a.size).flatMap AC.refs).Nodup:=by rw [List.take_append_drop];exact hd
   rw [List.flatMap_append] at hdd
   obtain ⟨d1,d2,d3⟩:=List.nodup_append.1 hdd
   rw [<-List.map_take] at h1
   rw [<-List.map_drop] at h2
   obtain ⟨F1,t1,n1,c1⟩:=jm _ _ f1 y MG (Ait _ ht) d1 (by rw [List.map_take];exact Ait _ hs) Qk.1 h1
   obtain ⟨F2,t2,n2,c2⟩:=fv _ _ f2 z SC (Aiu _ ht) d2 (by rw [List.map_drop];exact Aiu _ hs) Qk.2 h2
   refine ⟨F1++F2,⟨us.take a.size,us.drop a.size,F1,F2,(List.take_append_drop _ _).symm,rfl,t1,t2⟩,List.nodup_append.2 ⟨n1,n2,λb hb b' rZ e=>?_⟩,λb hb=>?_⟩
   ·subst e
    obtain ⟨l1,r1,g1,g2,g3⟩:=c1 b hb
    obtain ⟨l2,r2,g4,g5,g6⟩:=c2 b rZ
    exact d3 l1 g1 l2 g4 (h.inj l1 l2 r1 r2 b g2 g5 g3 g6)
   ·have Fh: ∀l,(l∈(cs.take a.size).flatMap AC.refs\/l∈(cs.drop a.size).flatMap AC.refs)->l∈cs.flatMap AC.refs:= λl hl=>by
     rw [<-List.mem_append,<-List.flatMap_append,List.take_append_drop] at hl;exact hl
    rcases List.mem_append.1 hb with hb|hb
    ·obtain ⟨l1,r1,g1,g2⟩:=c1 b hb;exact ⟨l1,r1,Fh l1 (.inl g1),g2⟩
    ·obtain ⟨l1,r1,g1,g2⟩:=c2 b hb;exact ⟨l1,r1,Fh l1 (.inr g1),g2⟩
  ·cases hv
 |_=>exact λcs us fr x hr ht _ hs Qk hv=>one _ cs us fr x rfl hr ht hs Qk hv
theorem JH {π':Pi} {st st':St} {a:Act} (h:Ak X π st a w) (h':Ak X π' st' a w) (k:Gh π π' st.heap st'.heap) {ls:List Nat} (hg: ∀l∈ls,Ad st'.heap l=none) {F:List Nat} (hF:F.Nodup)
  (hc: ∀b∈F,∃l r,l∈ls/\π l=some r/\r.cl b):dc X w π' F:=by
 refine ⟨hF,λb hb=>?_⟩
 obtain ⟨l,r,h1,h2,h3⟩:=hc b hb
 have hp:=h.1.place l r b h2 h3
 refine ⟨hp.1,hp.2,λl2 r2 h4 h5=>?_⟩
 cases hh:Ad st'.heap l2 with
 |none=>rw [(h'.1.heap l2).emp hh] at h4;cases h4
 |some b'=>
  have h6:=(k l2 b' hh).1
  rw [h6] at h4
  have:=h.1.inj l l2 r r2 b h2 h4 h3 h5
  subst this
  rw [hg l h1] at hh;cases hh
theorem Yb {st:St} {a:Act} (h:Ak X π st a w) {c:AV} {v:Value} (hc:Ao X w π st.heap c v) {c':AV} {st':St} (he:settle st c=some (c',st')):
  ∃π',Ak X π' st' a w/\Ao X w π' st'.heap c' v/\c'.settled=true/\Gh π π' st.heap st'.heap/\
   (Oc st c=true-> ∀(τ:Ty) (fr:Bool) (x:τ.den),τ.tree=true->Cv st' τ c'=some (fr,x)-> ∃F us,Ax w F τ us x/\v=Au τ us/\dc X w π' F/\ ∀b∈F,∃l r,π l=some r/\r.cl b):=by
 have cell: ∀(a0:AC) (st':St) (π':Pi),Dv X w π st.heap a0 v->Ak X π' st' a w->(Bo st a0).settled=true->Gh π π' st.heap st'.heap->(∀l∈a0.refs,Ad st'.heap l=none)->
   Mz st a0=true-> ∀(τ:Ty) (fr:Bool) (x:τ.den),τ.tree=true->Cv st' τ (.at (Bo st a0))=some (fr,x)-> ∃F us,Ax w F τ us x/\v=Au τ us/\dc X w π' F/\ ∀b∈F,∃l r,π l=some r/\r.cl b:=by
  intro a0 st1 Yi hr h1 hs hk hg ht τ fr x Qk hv
  by_cases Oi:τ.Ac=true
  ·
   cases zj:Bo st a0 with
   |data Qt Jr y=>
    rw [zj,Zs] at hv
    split at hv
    ·rename_i het;subst het
     simp only [Option.some.injEq,Prod.mk.injEq] at hv
     obtain ⟨_,rfl⟩:=hv
     cases a0 with
     |data oI τ2 z=>
      simp only [Bo,AC.data.injEq] at zj
      obtain ⟨rfl,rfl,hz⟩:=zj
      have hz:=eq_of_heq hz
      subst hz
      obtain ⟨cs,wa,rfl⟩:=hr
      exact ⟨[],cs,So _ cs _ ht wa,rfl,⟨List.nodup_nil,λb hb=>by cases hb⟩,λb hb=>by cases hb⟩
     |own l off len=>
      simp only [Bo] at zj
      split at zj
      ·simp only [AC.data.injEq] at zj;obtain ⟨_,h2,_⟩:=zj;subst h2;simp [Ty.Ac] at Oi
      ·simp only [AC.data.injEq] at zj;obtain ⟨_,h2,_⟩:=zj;subst h2;simp [Ty.Ac] at Oi
      ·cases zj
     |Gd l=>simp [Mz] at ht
     |_=>simp [Bo] at zj
    ·cases hv
   |_=>rw [zj] at hv;simp only [Cv,Oi,if_true] at hv;cases hv
  ·simp only [Bool.not_eq_true] at Oi
   have zm:Bp st τ (Bo st a0)=some (fr,x):=by
    rw [<-Wm (st:=st) (st':=st1) hs]
    cases zj:Bo st a0 with
    |data Qt Jr y=>
     rw [zj,Zs] at hv
     rw [Jh]
     split at hv
     ·rename_i het;rw [dif_pos het];exact hv
     ·rename_i het
      rw [dif_neg het]
      simp only [Oi,Bool.false_eq_true,if_false,xN,Jh] at hv
      rw [dif_neg het] at hv
      exact hv
    |Hr=>rw [zj] at hv;simp only [Cv,Oi,Bool.false_eq_true,if_false] at hv;rw [Ll rfl] at hv;exact hv
    |Rp=>rw [zj] at hv;simp only [Cv,Oi,Bool.false_eq_true,if_false] at hv;rw [Ll rfl] at hv;exact hv
    |_=>rw [zj] at hs;simp [AC.settled] at hs
   obtain ⟨F,f1,f2,f3⟩:=l7 h.1 hr ht τ fr x Oi Qk zm
   exact ⟨F,[v],f1,by simp [Au,Oi],JH h h1 hk hg f2 f3,λb hb=>let ⟨l,r,_,q⟩:=f3 b hb;⟨l,r,q⟩⟩
 unfold settle at he
 split at he
 ·rename_i l off len
  split at he
  ·rename_i fr tr e tid xs hl
   simp only [Option.some.injEq,Prod.mk.injEq] at he
   obtain ⟨rfl,rfl⟩:=he
   obtain ⟨h1,m⟩:=h.freeze (fr:=fr) (.inl ⟨tr,tid,hl⟩)
   have:=m.ac (.own l off len) v hc
   simp only [Bh,if_true] at this
   have bD:Bo st (.own l off len)= .data fr (.slice e) ((xs.drop off).take len):=by simp only [Bo,hl]
   refine ⟨_,h1,this,rfl,Gh.freeze st l fr e xs,λht=>?_⟩
   have:=cell (.own l off len) _ _ hc h1 (by rw [bD];rfl) (Gh.freeze st l fr e xs) (λk hk=>by rw [List.mem_singleton.1 hk];exact St.Hp st l fr e xs) ht
   rw [bD] at this
   exact this
  ·rename_i e tid xs hl
   simp only [Option.some.injEq,Prod.mk.injEq] at he
   obtain ⟨rfl,rfl⟩:=he
   obtain ⟨h1,m⟩:=h.freeze (fr:=false) (.inr ⟨rfl,tid,hl⟩)
   have:=m.ac (.own l off len) v hc
   simp only [Bh,if_true] at this
   have bD:Bo st (.own l off len)= .data false (.slice e) ((xs.drop off).take len):=by simp only [Bo,hl]
   refine ⟨_,h1,this,rfl,Gh.freeze st l false e xs,λht=>?_⟩
   have:=cell (.own l off len) _ _ hc h1 (by rw [bD];rfl) (Gh.freeze st l false e xs) (λk hk=>by rw [List.mem_singleton.1 hk];exact St.Hp st l false e xs) ht
   rw [bD] at this
   exact this
  ·cases he
 ·rename_i l
  split at he
  ·rename_i vt mm hl
   simp only [Option.some.injEq,Prod.mk.injEq] at he
   obtain ⟨rfl,rfl⟩:=he
   obtain ⟨h1,m⟩:=h.Eo hl
   have:=m.ac (.Gd l) v hc
   simp only [Dl,if_true] at this
   exact ⟨_,h1,this,rfl,Gh.Eo st l vt mm,λht=>by simp [Oc,Mz] at ht⟩
  ·cases he
 ·rename_i a0 _ _
  split at he
  ·rename_i hs
   simp only [Option.some.injEq,Prod.mk.injEq] at he
   obtain ⟨rfl,rfl⟩:=he
   refine ⟨π,h,hc,hs,Gh.refl _ _,λht=>?_⟩
   have bD:=Nz (st:=st) hs
   have:=cell a0 st π hc h (by rw [bD];exact hs) (Gh.refl _ _) (λk hk=>by
    cases a0<;>simp [AC.settled] at hs<;>simp [AC.refs] at hk) ht
   rw [bD] at this
   exact this
  ·cases he
 ·rename_i cs
  cases hsc:Dr cs.length st cs with
  |none=>rw [hsc] at he;cases he
  |some p=>
   rw [hsc] at he
   simp only [Option.map_some,Option.some.injEq,Prod.mk.injEq] at he
   obtain ⟨rfl,rfl⟩:=he
   obtain ⟨us,rfl,hr⟩:=hc
   obtain ⟨π',h2,h3,h4,h5,h6,h7⟩:=cO cs.length st π cs us p.1 p.2 h hr hsc
   refine ⟨π',h2,⟨us,rfl,h3⟩,h4,h5,λht τ fr x Qk hv=>?_⟩
   simp only [Oc,Bool.and_eq_true] at ht
   simp only [Cv] at hv
   split at hv
   ·rename_i Oi
    rw [h6] at hv h4
    obtain ⟨F,f1,f2,f3⟩:=tz h.1 τ cs us fr x hr ht.1 (Sw ht.2) h4 Qk hv
    exact ⟨F,us,f1,by simp [Au,Oi],JH h h2 h5 h7 f2 f3,λb hb=>let ⟨l,r,_,q⟩:=f3 b hb;⟨l,r,q⟩⟩
   ·cases hv
 ·simp only [Option.some.injEq,Prod.mk.injEq] at he
  obtain ⟨rfl,rfl⟩:=he
  exact ⟨π,h,hc,rfl,Gh.refl _ _,λht=>by simp [Oc] at ht⟩
 ·cases he
theorem di {o i j s p:Nat} (Ek:i≠j) (hp:p<s):(o+i)*s+p<(o+j)*s\/(o+j)*s+s<=(o+i)*s+p:=by
 rcases Nat.lt_or_gt_of_ne Ek with h|h
 ·left
  have:(o+i+1)*s<=(o+j)*s:=Nat.mul_le_mul_right _ (by omega)
  rw [Nat.add_mul,Nat.one_mul] at this
  omega
 ·right
  have:(o+j+1)*s<=(o+i)*s:=Nat.mul_le_mul_right _ (by omega)
  rw [Nat.add_mul,Nat.one_mul] at this
  omega
theorem Ei {α:Type} (l ys:List α) (i k:Nat) (h:i+ys.length<=l.length):(Bs l i ys)[k]?=if k<i then l[k]? else if k<i+ys.length then ys[k-i]? else l[k]?:=by
 unfold Bs
 have t1:(l.take i).length=i:=by simp;omega
 split
 ·rename_i hk
  rw [List.append_assoc,List.getElem?_append_left (by omega),List.getElem?_take,if_pos hk]
 ·split
  ·rename_i hk
   rw [List.append_assoc,List.getElem?_append_right (by omega),t1,List.getElem?_append_left (by omega)]
  ·rw [List.getElem?_append_right (by simp;omega),List.getElem?_drop]
   congr 1
   simp;omega
theorem Et {α:Type} (l ys:List α) (i:Nat) (h:i+ys.length<=l.length):(Bs l i ys).length=l.length:=by
 unfold Bs;simp;omega
theorem xA (hT:By P T) {st:St} {a:Act} (h:Ak X π st a w) {t:TypeId} {e:Ty} (ht:T.ty t=some e) {l j:Nat} {r:Real} {vx:Value} {tid:TypeId} {fr Qt:Bool} {xs:List e.den} {x:e.den}
  (hp:π l=some r) {tr:Bool} (hl:Ad st.heap l=some (.arr fr tr e tid xs)) (hj:j<xs.length) (hx:Bc w (Bj X.w0.heap.size X.Sc π Qt) e vx x):
  ∃w',(Instr.storeAt t (.pointer (some ⟨r.g,(r.o+j)*e.size,none⟩)) vx).run P w= .ok () w'/\Ak X π (st.Ft l (.arr (fr&&Qt) false e tid (xs.set j x))) a w':=by
 have hb:=(h.1.heap l).Md hl
 simp only [Av,Fv,hp] at hb
 obtain ⟨h1,cur,ti,h2,h3,h4,h5,h6,_⟩:=hb
 obtain ⟨es,da,hv⟩:=hx
 have gL:=Cells.len e es x da
 have Sq:(r.o+j)*e.size+es.length<=cur.size:=by
  have:(r.o+j+1)*e.size<=(r.o+r.cap)*e.size:=Nat.mul_le_mul_right _ (by omega)
  rw [Nat.add_mul (r.o+j) 1,Nat.one_mul] at this
  omega
 have Uj:(r.o+j)*e.size+es.length<=cur.toList.length:=by simpa using Sq
 have Qh:=Rd (P:=P) (w:=w) (hT.ty _ _ ht) r.g ((r.o+j)*e.size) vx es (by rw [hv];exact Gm e es x da) gL (Cells.plain e es x da) cur ti h2 Sq
 refine ⟨_,by simp only [Instr.storeAt,Instr.sureAddr];simpa using Qh,?_⟩
 refine h.set hl (b:= .arr (fr&&Qt) false e tid (xs.set j x)) ⟨rfl,by simp⟩ (by rw [hp];exact Jb w r.g _) λm=>?_
 simp only [Av,Fv,hp]
 refine ⟨⟨h1.1,h1.2.1,λhf=>h1.2.2 (by simp only [Bool.and_eq_true] at hf;exact hf.1)⟩,_,_,setRow_heap w r.g cur _ ti _ h2,by rw [List.size_toArray,Et _ _ _ Uj];simpa using h3,h4,by simpa using h5,λi y hy=>?_,λhf=>by cases hf⟩
 rw [List.getElem?_set] at hy
 split at hy
 ·rename_i sr;subst sr
  simp only [Option.some.injEq] at hy;subst hy
  refine ⟨es,gL,λk u hu=>?_,(m.cells Qt e es x da).and_right⟩
  have hk:k<es.length:=(List.getElem?_eq_some_iff.1 hu).1
  rw [List.getElem?_toArray,Ei _ _ _ _ Uj,if_neg (by omega),if_pos (by omega)]
  rw [show (r.o+j)*e.size+k-(r.o+j)*e.size=k by omega];exact hu
 ·rename_i sr
  obtain ⟨lf,WL,pV,z8⟩:=h6 i y hy
  refine ⟨lf,WL,λk u hu=>?_,(m.cells fr e lf y z8).and_left⟩
  have hk:k<lf.length:=(List.getElem?_eq_some_iff.1 hu).1
  have:=pV k u hu
  rw [List.getElem?_toArray,Ei _ _ _ _ Uj]
  rcases di (o:=r.o) (i:=i) (j:=j) (s:=e.size) (p:=k) (Ne.symm sr) (by omega) with Ey|lh
  ·rw [if_pos Ey];simpa using this
  ·rw [if_neg (by omega),if_neg (by omega)];simpa using this
theorem gU: ∀(Fs:List (List Nat)) (i:Nat) (F':List Nat),(List.flatten Fs).Nodup->F'.Nodup->(∀b∈F',b∉List.flatten Fs)->(List.flatten (Fs.set i F')).Nodup/\ ∀b∈List.flatten (Fs.set i F'),b∈List.flatten Fs\/b∈F'
 | [],i,F',_,_,_=>by simp
 |G::Fs,0,F',hn,oL,hs=>by
  simp only [List.set_cons_zero,List.flatten_cons] at hn hs⊢
  obtain ⟨n1,n2,n3⟩:=List.nodup_append.1 hn
  refine ⟨List.nodup_append.2 ⟨oL,n2,λa ha b hb e=>hs a ha (List.mem_append_right _ (e▸hb))⟩,λb hb=>?_⟩
  rcases List.mem_append.1 hb with hb|hb
  ·exact .inr hb
  ·exact .inl (List.mem_append_right _ hb)
 |G::Fs,i+1,F',hn,oL,hs=>by
  simp only [List.set_cons_succ,List.flatten_cons] at hn hs⊢
  obtain ⟨n1,n2,n3⟩:=List.nodup_append.1 hn
  obtain ⟨m1,m2⟩:=gU Fs i F' n2 oL λb hb hm=>hs b hb (List.mem_append_right _ hm)
  refine ⟨List.nodup_append.2 ⟨n1,m1,λa ha b hb e=>?_⟩,λb hb=>?_⟩
  ·subst e
   rcases m2 a hb with h|h
   ·exact n3 a ha a h rfl
   ·exact hs a h (List.mem_append_left _ ha)
  ·rcases List.mem_append.1 hb with hb|hb
   ·exact .inl (List.mem_append_left _ hb)
   ·exact (m2 b hb).imp (List.mem_append_right _) id
theorem tu (hT:By P T) {st:St} {a:Act} (h:Ak X π st a w) {t:TypeId} {e:Ty} (ht:T.ty t=some e) {l j:Nat} {r:Real} {vx:Value} {tid:TypeId} {fr Qt:Bool} {xs:List e.den} {x:e.den}
  (hp:π l=some r) (hl:Ad st.heap l=some (.arr fr true e tid xs)) (hj:j<xs.length) (hx:Bc w (Bj X.w0.heap.size X.Sc π Qt) e vx x) {F:List Nat} {us:List Value} (hF:Ax w F e us x) (SG:vx=Au e us) (jT:dc X w π F):
  ∃w',(Instr.storeAt t (.pointer (some ⟨r.g,(r.o+j)*e.size,none⟩)) vx).run P w= .ok () w'/\Ak X (Rl π l (some (r.plus F))) (st.Ft l (.arr (fr&&Qt) true e tid (xs.set j x))) a w':=by
 have hb:=(h.1.heap l).Md hl
 simp only [Av,Fv,hp] at hb
 obtain ⟨h1,cur,ti,h2,h3,h4,h5,h6,h7⟩:=hb
 obtain ⟨Fs,t1,t2,t3,t4⟩:=h7 trivial
 obtain ⟨es,da,hv⟩:=hx
 have gL:=Cells.len e es x da
 have An7:us=es:=by
  have c1:=Gm e us x (Ax.cells (S:= λ_=>False) F e us x hF λ_ _ h=>h)
  have c2:=Gm e es x da
  rw [<-SG,hv,c2] at c1
  simpa using c1.symm
 subst An7
 have Sq:(r.o+j)*e.size+us.length<=cur.size:=by
  have:(r.o+j+1)*e.size<=(r.o+r.cap)*e.size:=Nat.mul_le_mul_right _ (by omega)
  rw [Nat.add_mul (r.o+j) 1,Nat.one_mul] at this
  omega
 have Uj:(r.o+j)*e.size+us.length<=cur.toList.length:=by simpa using Sq
 have Qh:=Rd (P:=P) (w:=w) (hT.ty _ _ ht) r.g ((r.o+j)*e.size) vx us (by rw [hv];exact Gm e us x da) gL (Cells.plain e us x da) cur ti h2 Sq
 have Ky:r.cl r.g:=h.1.sub l r _ hp h1.1
 have hng: ∀b∈F,b≠r.g:= λb hb e=>(jT.2 b hb).2.2 l r hp (e▸Ky)
 have JU:=gU Fs j F (List.nodup_cons.1 t2).2 jT.1 λb hb hm=>(jT.2 b hb).2.2 l r hp (t3 b hm)
 refine ⟨_,by simp only [Instr.storeAt,Instr.sureAddr];simpa using Qh,?_⟩
 refine h.Anw hl (b:= .arr (fr&&Qt) true e tid (xs.set j x)) ⟨rfl,by simp⟩ hp (λc hc=>⟨(jT.2 c hc).1,(jT.2 c hc).2.1,λm r0 _=>(jT.2 c hc).2.2 m r0⟩) (Jb w r.g _) λm=>?_
 simp only [Av,Fv]
 have cell: ∀(i:Nat) (lf:List Value),i≠j->lf.length=e.size->(∀k u,lf[k]?=some u->cur[(r.o+i)*e.size+k]?=some u)-> ∀k u,lf[k]?=some u->(Bs cur.toList ((r.o+j)*e.size) us).toArray[(r.o+i)*e.size+k]?=some u:=by
  intro i lf dN WL pV k u hu
  have hk:k<lf.length:=(List.getElem?_eq_some_iff.1 hu).1
  have:=pV k u hu
  rw [List.getElem?_toArray,Ei _ _ _ _ Uj]
  rcases di (o:=r.o) (i:=i) (j:=j) (s:=e.size) (p:=k) dN (by omega) with Ey|lh
  ·rw [if_pos Ey];simpa using this
  ·rw [if_neg (by omega),if_neg (by omega)];simpa using this
 have ZV: ∀k u,us[k]?=some u->(Bs cur.toList ((r.o+j)*e.size) us).toArray[(r.o+j)*e.size+k]?=some u:=by
  intro k u hu
  have hk:k<us.length:=(List.getElem?_eq_some_iff.1 hu).1
  rw [List.getElem?_toArray,Ei _ _ _ _ Uj,if_neg (by omega),if_pos (by omega)]
  rw [show (r.o+j)*e.size+k-(r.o+j)*e.size=k by omega];exact hu
 refine ⟨⟨h1.1,h1.2.1,λhf=>h1.2.2 (by simp only [Bool.and_eq_true] at hf;exact hf.1)⟩,_,_,setRow_heap w r.g cur _ ti _ h2,by rw [List.size_toArray,Et _ _ _ Uj,Array.length_toList];exact h3,h4,by rw [List.length_set];exact h5,λi y hy=>?_,λ_=>?_⟩
 ·rw [List.getElem?_set] at hy
  split at hy
  ·rename_i sr;subst sr
   simp only [Option.some.injEq] at hy;subst hy
   exact ⟨us,gL,ZV,(m.cells Qt e us x da).and_right⟩
  ·rename_i sr
   obtain ⟨lf,WL,pV,z8⟩:=h6 i y hy
   exact ⟨lf,WL,cell i lf (Ne.symm sr) WL pV,(m.cells fr e lf y z8).and_left⟩
 ·refine ⟨Fs.set j F,by simp [t1],List.nodup_cons.2 ⟨λhm=>?_,JU.1⟩,λb hb=>?_,λi y G hy hG=>?_⟩
  ·rcases JU.2 _ hm with h8|h8
   ·exact (List.nodup_cons.1 t2).1 h8
   ·exact hng _ h8 rfl
  ·exact (JU.2 b hb).imp (t3 b) id
  ·rw [List.getElem?_set] at hy hG
   split at hy
   ·rename_i sr;subst sr
    rw [if_pos rfl] at hG
    rw [if_pos (by omega)] at hG
    simp only [Option.some.injEq] at hy hG;subst hy;subst hG
    exact ⟨us,gL,ZV,hF.Cn _ _ _ _ (by simp) λb hb=>setRow_other w r.g b _ (hng b hb)⟩
   ·rename_i sr
    rw [if_neg sr] at hG
    obtain ⟨lf,WL,pV,z8⟩:=t4 i y G hy hG
    exact ⟨lf,WL,cell i lf (Ne.symm sr) WL pV,z8.Cn _ _ _ _ (by simp) λb hb=>setRow_other w r.g b _ λe=>(List.nodup_cons.1 t2).1 (List.mem_flatten.2 ⟨G,List.mem_of_getElem? hG,e▸hb⟩)⟩
theorem nY (hT:By P T) {st:St} {a:Act} (h:Ak X π st a w) (t:TypeId) (p x:AV) (vp vx:Value) (hp:Ao X w π st.heap p vp) (hx:Ao X w π st.heap x vx) (st':St)
  (he:Pr T st t p x=some st'): ∃w' π',(Instr.storeAt t vp vx).run P w= .ok () w'/\Ak X π' st' a w':=by
 unfold Pr at he
 split at he
 ·rename_i τ l i ht
  split at he
  ·rename_i tid vs cs hl hc
   split at he
   ·rename_i hle
    simp only [Option.some.injEq] at he
    obtain ⟨w',h1,h2⟩:=xC hT h ht hp hx hl hc hle
    split at he
    ·rename_i Fk
     simp only [Bool.and_eq_true,Nat.blt_eq] at Fk
     subst he
     obtain ⟨PQ,h3⟩:=bT (T:=T) l i t τ cs.length 0 _ π (by omega) h2
     exact ⟨w',PQ,h1,h3⟩
    ·subst he
     exact ⟨w',π,h1,h2⟩
   ·cases he
  ·cases he
 ·rename_i τ l j ht
  split at he
  ·rename_i x' st1 hs
   obtain ⟨Yi,h1,h2,h3,h4,h5⟩:=Yb h hx hs
   split at he
   ·rename_i fr tr e tid xs Qt y hl hv
    split at he
    ·rename_i gO;subst gO
     split at he
     ·rename_i hj
      simp only [Option.some.injEq] at he;subst he
      obtain ⟨r,b,sz,n,g1,g0,g2,g3,rfl⟩:=hp
      obtain ⟨k1,b',f,k2,k3⟩:=h4 l _ hl
      rw [g1] at k2;cases k2
      have g4:=congrArg OB.row k3
      rw [show (OB.map f b).row=b.row by cases b<;>rfl,g0] at g4
      simp only [OB.row,Option.some.injEq,Prod.mk.injEq] at g4
      obtain ⟨rfl,rfl⟩:=g4
      cases jY:(tr&&(Oc st x&&τ.tree)) with
      |false=>
       obtain ⟨w',q1,q2⟩:=xA hT h1 ht (k1.trans g3) hl hj (Kj _ x' vx Qt y h3 h2 hv)
       exact ⟨w',Yi,q1,q2⟩
      |true=>
       simp only [Bool.and_eq_true] at jY
       obtain ⟨rfl,htv,gO⟩:=jY
       obtain ⟨F,us,f1,f2,f3,_⟩:=h5 htv τ Qt y gO hv
       obtain ⟨w',q1,q2⟩:=tu hT h1 ht (k1.trans g3) hl hj (Kj _ x' vx Qt y h3 h2 hv) f1 f2 f3
       exact ⟨w',_,q1,q2⟩
     ·cases he
    ·cases he
   ·cases he
  ·cases he
 ·cases he
theorem r8 {S:Nat->Prop} {e:Ty} {v:Value} {ys:List e.den} (h:Cells w S (.slice e) [v] ys):
  ∃ad c,v= .slice ad ys.length c/\(ys= []\/ ∃g o,ad=some ⟨g,o,none⟩/\ ∃news:List Value,news.length=ys.length*e.size/\(∀j u,news[j]?=some u->w.cell? ⟨g,o+j,none⟩=some u)/\(∀u∈news,u.oneCell'=true)/\(∀j u,j<ys.length*e.size->w.cell? ⟨g,o+j,none⟩=some u->news[j]?=some u)/\
   ∀(i:Nat) (y:e.den),ys[i]?=some y-> ∃es:List Value,es.length=e.size/\(∀j u,es[j]?=some u->news[i*e.size+j]?=some u)/\Cells w S e es y):=by
 simp only [Cells] at h
 obtain ⟨ad,len,cap,hv,hl,pR,EF⟩:=h
 simp only [List.cons.injEq,and_true] at hv
 subst hl
 refine ⟨ad,cap,hv,?_⟩
 rcases EF with h0|⟨g,o,rfl,hg,hn,Fh⟩
 ·exact .inl h0
 ·right
  refine ⟨g,o,rfl,(List.range (ys.length*e.size)).map λj=>(w.cell? ⟨g,o+j,none⟩).getD undef,by simp,?_⟩
  have key: ∀k,k<ys.length*e.size-> ∃u,w.cell? ⟨g,o+k,none⟩=some u/\u.oneCell'=true:=by
   intro k hk
   have hs:0<e.size:=by
    rcases Nat.eq_zero_or_pos e.size with h|h
    ·rw [h] at hk;simp at hk
    ·exact h
   have hi:k/e.size<ys.length:=(Nat.div_lt_iff_lt_mul hs).2 hk
   obtain ⟨es,da,hc,Xm⟩:=Fh (k/e.size) _ (List.getElem?_eq_getElem hi)
   have hm:k%e.size<es.length:=by rw [da];exact Nat.mod_lt _ hs
   have:=hc (k%e.size) _ (List.getElem?_eq_getElem hm)
   rw [Nat.add_assoc,show k/e.size*e.size+k%e.size=k by rw [Nat.mul_comm];exact Nat.div_add_mod k e.size] at this
   exact ⟨_,this,Cells.plain e es _ Xm _ (List.getElem_mem hm)⟩
  refine ⟨λj u hu=>?_,λu hu=>?_,λj u hj hu=>by rw [List.getElem?_map,List.getElem?_range hj];simp [hu],λi y hy=>?_⟩
  ·rw [List.getElem?_map] at hu
   have hj:j<ys.length*e.size:=by
    by_cases hj:j<ys.length*e.size
    ·exact hj
    ·rw [List.getElem?_eq_none (by simpa using hj)] at hu;cases hu
   rw [List.getElem?_range hj] at hu
   obtain ⟨u',bE,_⟩:=key j hj
   simp only [Option.map_some,bE,Option.getD_some,Option.some.injEq] at hu
   rw [bE,hu]
  ·obtain ⟨j,hj,rfl⟩:=List.mem_map.1 hu
   obtain ⟨u',bE,h1⟩:=key j (List.mem_range.1 hj)
   rw [bE];exact h1
  ·obtain ⟨es,da,hc,Xm⟩:=Fh i y hy
   refine ⟨es,da,λj u hu=>?_,Xm⟩
   have hi:=(List.getElem?_eq_some_iff.1 hy).1
   have hj:=(List.getElem?_eq_some_iff.1 hu).1
   have Ey:i*e.size+j<ys.length*e.size:=by
    have:(i+1)*e.size<=ys.length*e.size:=Nat.mul_le_mul_right _ (by omega)
    rw [Nat.add_mul,Nat.one_mul] at this
    omega
   rw [List.getElem?_map,List.getElem?_range Ey]
   have:=hc j u hu
   rw [Nat.add_assoc] at this
   simp [this]
end
end Go.Proofs.YtfolipnappekaaaGreat
