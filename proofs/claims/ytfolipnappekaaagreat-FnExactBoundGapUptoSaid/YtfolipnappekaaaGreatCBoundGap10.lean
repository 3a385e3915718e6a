/-
  Part 11 of the proof that the statement FnExactBoundGap holds.
-/
import Derived.Test.YtfolipnappekaaaGreatCBoundGap09
namespace Go.Proofs.YtfolipnappekaaaGreat
open Go.RowKit
section
variable {P:Program} {T:Tab} {X:Ctx} {w w':World} {π:Pi} {H:List (Nat×OB)}
theorem OB.map_map (f g:AC->AC) (b:OB):OB.map g (OB.map f b)=OB.map (λc=>g (f c)) b:=by
 cases b with
 |var t vs=>simp [OB.map,Function.comp_def]
 |_=>rfl
theorem OB.yM (b:OB):OB.map (λc=>c) b=b:=by
 cases b with
 |var t vs=>simp [OB.map]
 |_=>rfl
def Gt (π π':Pi) (H H':List (Nat×OB)):Prop:= ∀l b',Ad H' l=some b'->π' l=π l/\ ∃b f,Ad H l=some b/\b'=OB.map f b
theorem Gt.refl (π:Pi) (H:List (Nat×OB)):Gt π π H H:= λ_ b h=>⟨rfl,b,λc=>c,h,(OB.yM b).symm⟩
theorem Gt.trans {Xl MU π3:Pi} {H1 H2 H3:List (Nat×OB)} (h:Gt Xl MU H1 H2) (h':Gt MU π3 H2 H3):Gt Xl π3 H1 H3:= λl b hb=>by
 obtain ⟨e1,b1,f1,h1,rfl⟩:=h' l b hb
 obtain ⟨e2,b2,f2,h2,rfl⟩:=h l b1 h1
 exact ⟨e1.trans e2,b2,_,h2,OB.map_map f2 f1 b2⟩
theorem Gt.freeze (st:St) (l:Nat) (fr:Bool) (e:Ty) (xs:List e.den):Gt π (Rd π l none) st.heap (st.freeze l fr e xs).heap:= λk b hb=>by
 by_cases hk:k=l
 ·subst hk;rw [St.Hu] at hb;cases hb
 ·rw [St.Mc st l k fr e xs hk] at hb
  cases h0:Ad st.heap k with
  |none=>rw [h0] at hb;cases hb
  |some b0=>
   rw [h0] at hb
   simp only [Option.map_some,Option.some.injEq] at hb
   exact ⟨Da π none hk,b0,_,rfl,hb.symm⟩
theorem Gt.Eu (st:St) (l:Nat) (v:Ty) (m:ByteArray->Option v.den):Gt π (Rd π l none) st.heap (st.Eu l v m).heap:= λk b hb=>by
 by_cases hk:k=l
 ·subst hk;rw [St.Nn] at hb;cases hb
 ·rw [St.Lp st l k v m hk] at hb
  cases h0:Ad st.heap k with
  |none=>rw [h0] at hb;cases hb
  |some b0=>
   rw [h0] at hb
   simp only [Option.map_some,Option.some.injEq] at hb
   exact ⟨Da π none hk,b0,_,rfl,hb.symm⟩
theorem Gt.gone {π':Pi} {H':List (Nat×OB)} (k:Gt π π' H H') {l:Nat} (h:Ad H l=none):Ad H' l=none:=by
 cases hb:Ad H' l with
 |none=>rfl
 |some b=>
  obtain ⟨_,b0,f,h1,_⟩:=k l b hb
  rw [h] at h1;cases h1
def Bn (st:St):AC->AC
 | .own l off len=>match st.at l with
  |some (.arr fr _ e _ xs)=> .data fr (.slice e) ((xs.drop off).take len)
  |some (.Dn e _ xs)=> .data false (.slice e) ((xs.drop off).take len)
  |_=> .own l off len
 | .Gm l=>match st.at l with
  |some (.Qc v m)=> .data false (.smap v) m
  |_=> .Gm l
 |c=>c
theorem Nt {st:St} {c:AC} (h:c.settled=true):Bn st c=c:=by
 cases c<;>simp [AC.settled] at h<;>rfl
theorem rR {st st':St} {f:AC->AC} {l:Nat} (hH: ∀m,m≠l->Ad st'.heap m=(Ad st.heap m).map (OB.map f)) {c:AC} (hc: ∀k∈c.refs,k≠l):Bn st' c=Bn st c:=by
 cases c with
 |own k off len=>
  have hk:k≠l:=hc k (by simp [AC.refs])
  simp only [Bn,St.at,hH k hk]
  cases Ad st.heap k with
  |none=>rfl
  |some b=>cases b<;>rfl
 |Gm k=>
  have hk:k≠l:=hc k (by simp [AC.refs])
  simp only [Bn,St.at,hH k hk]
  cases Ad st.heap k with
  |none=>rfl
  |some b=>cases b<;>rfl
 |_=>rfl
theorem cg {a:Act} : ∀(n:Nat) (st:St) (π:Pi) (cs:List AC) (us:List Value) (cZ:List AC) (st':St),Al X π st a w->Df X w π st.heap cs us->
  Dy n st cs=some (cZ,st')-> ∃π',Al X π' st' a w/\Df X w π' st'.heap cZ us/\cZ.all (·.settled)=true/\Gt π π' st.heap st'.heap/\cZ=cs.map (Bn st)/\
   (∀k,k∈cs.flatMap AC.refs->Ad st'.heap k=none)
 |0,st,π,cs,us,cZ,st',h,hr,he=>by
  simp only [Dy] at he
  split at he
  ·rename_i hs
   simp only [Option.some.injEq,Prod.mk.injEq] at he
   obtain ⟨rfl,rfl⟩:=he
   have yi:=List.all_eq_true.1 hs
   exact ⟨π,h,hr,hs,Gt.refl _ _,((List.map_congr_left λc hc=>Nt (yi c hc)).trans (List.map_id'' (λ_=>rfl) cs)).symm,λk hk=>by
    obtain ⟨c,hc,x6⟩:=List.mem_flatMap.1 hk
    have:=yi c hc
    cases c<;>simp [AC.settled] at this<;>simp [AC.refs] at x6⟩
  ·cases he
 |n+1,st,π,cs,us,cZ,st',h,hr,he=>by
  simp only [Dy] at he
  have step: ∀(f:AC->AC) (l:Nat) (st1:St),Al X (Rd π l none) st1 a w->Move X w w π (Rd π l none) st.heap st1.heap f->Ad st1.heap l=none->(∀m,m≠l->Ad st1.heap m=(Ad st.heap m).map (OB.map f))->
    Gt π (Rd π l none) st.heap st1.heap->(∀c∈cs,(∀k∈c.refs,k≠l)->f c=c)->(∀c∈cs,l∈c.refs->(f c).refs= []/\(Bn st1 (f c)).settled=true->f c=Bn st c)->
    (∀c∈cs,l∈c.refs->(f c).refs= [])->Dy n st1 (cs.map f)=some (cZ,st')->
    ∃π',Al X π' st' a w/\Df X w π' st'.heap cZ us/\cZ.all (·.settled)=true/\Gt π π' st.heap st'.heap/\cZ=cs.map (Bn st)/\(∀k,k∈cs.flatMap AC.refs->Ad st'.heap k=none):=by
   intro f l st1 h1 m hl hH hK hf0 hf1 hf2 he
   obtain ⟨π',h2,h3,h4,h5,h6,h7⟩:=cg n st1 _ (cs.map f) us cZ st' h1 (m.TZ hr) he
   refine ⟨π',h2,h3,h4,hK.trans h5,?_,λk hk=>?_⟩
   ·rw [h6,List.map_map]
    refine List.map_congr_left λc hc=>?_
    simp only [Function.comp]
    by_cases Lm:l∈c.refs
    ·have Hm:=List.all_eq_true.1 h4
     have j6:Bn st1 (f c)∈cZ:=by rw [h6];exact List.mem_map.2 ⟨f c,List.mem_map.2 ⟨c,hc,rfl⟩,rfl⟩
     have hs:=Hm _ j6
     have h8:=hf1 c hc Lm ⟨hf2 c hc Lm,hs⟩
     have h9:Bn st1 (f c)=f c:=by
      have:=hf2 c hc Lm
      cases hfc:f c<;>rw [hfc] at this<;>first|(simp [AC.refs] at this;done)|rfl
     rw [h9,h8]
    ·have Ff: ∀k∈c.refs,k≠l:= λk hk e=>Lm (e▸hk)
     rw [hf0 c hc Ff]
     exact rR hH Ff
   ·obtain ⟨c,hc,x6⟩:=List.mem_flatMap.1 hk
    by_cases Mp:k=l
    ·subst Mp;exact h5.gone hl
    ·by_cases Lm:l∈c.refs
     ·
      have Hm:=List.all_eq_true.1 h4
      have j6:Bn st1 (f c)∈cZ:=by rw [h6];exact List.mem_map.2 ⟨f c,List.mem_map.2 ⟨c,hc,rfl⟩,rfl⟩
      have hs:=Hm _ j6
      have h8:=hf1 c hc Lm ⟨hf2 c hc Lm,hs⟩
      have h9:Bn st1 (f c)=f c:=by
       have:=hf2 c hc Lm
       cases hfc:f c<;>rw [hfc] at this<;>first|(simp [AC.refs] at this;done)|rfl
      rw [h9,h8] at hs
      cases c with
      |clo g Bz=>simp [Bn,AC.settled] at hs
      |own k' _ _=>simp [AC.refs] at Lm x6;exact absurd (x6.trans Lm.symm) Mp
      |Gm k'=>simp [AC.refs] at Lm x6;exact absurd (x6.trans Lm.symm) Mp
      |Ea k' _=>simp [AC.refs] at Lm x6;exact absurd (x6.trans Lm.symm) Mp
      |Gi k' _=>simp [AC.refs] at Lm x6;exact absurd (x6.trans Lm.symm) Mp
      |sub k' _ _=>simp [AC.refs] at Lm x6;exact absurd (x6.trans Lm.symm) Mp
      |Gf k' _ _=>simp [AC.refs] at Lm x6;exact absurd (x6.trans Lm.symm) Mp
      |_=>simp [AC.refs] at x6
     ·have Ff: ∀k∈c.refs,k≠l:= λk hk e=>Lm (e▸hk)
      exact h7 k (List.mem_flatMap.2 ⟨f c,List.mem_map.2 ⟨c,hc,rfl⟩,by rw [hf0 c hc Ff];exact x6⟩)
  have x8: ∀(st1:St) (c:AC),(Bn st1 c).settled=true->c≠ .undef:= λst1 c hs e=>by rw [e] at hs;simp [Bn,AC.settled] at hs
  split at he
  ·rename_i hf
   simp only [Option.some.injEq,Prod.mk.injEq] at he
   obtain ⟨rfl,rfl⟩:=he
   have yi: ∀c∈cs,c.settled=true:= λc hc=>by have:=List.find?_eq_none.1 hf c hc;simpa using this
   exact ⟨π,h,hr,List.all_eq_true.2 yi,Gt.refl _ _,((List.map_congr_left λc hc=>Nt (yi c hc)).trans (List.map_id'' (λ_=>rfl) cs)).symm,λk hk=>by
    obtain ⟨c,hc,x6⟩:=List.mem_flatMap.1 hk
    have:=yi c hc
    cases c<;>simp [AC.settled] at this<;>simp [AC.refs] at x6⟩
  ·rename_i l off len hf
   split at he
   ·rename_i fr tr e tid xs hl
    unfold St.at at hl
    obtain ⟨h1,m⟩:=h.freeze (fr:=fr) (.inl ⟨tr,tid,hl⟩)
    refine step _ l _ h1 m (St.Hu st l fr e xs) (λm hm=>St.Mc st l m fr e xs hm) (Gt.freeze st l fr e xs) (λc _ hc=>dm hc) (λc _ Lm hs=>?_) (λc _ Lm=>?_) he
    ·cases c with
     |own k o n=>have:k=l:=(List.mem_singleton.1 Lm).symm
                 subst this;simp only [Be,if_pos,Bn,St.at,hl]
     |Ea k o=>have:k=l:=(List.mem_singleton.1 Lm).symm
              subst this;simp only [Be,if_pos] at hs;exact absurd rfl (x8 _ _ hs.2)
     |Gi k o=>have:k=l:=(List.mem_singleton.1 Lm).symm
              subst this;simp only [Be,if_pos] at hs;exact absurd rfl (x8 _ _ hs.2)
     |sub k o o2=>have:k=l:=(List.mem_singleton.1 Lm).symm
                  subst this;simp only [Be,if_pos] at hs;exact absurd rfl (x8 _ _ hs.2)
     |Gf k o o2=>have:k=l:=(List.mem_singleton.1 Lm).symm
                 subst this;simp only [Be,if_pos] at hs;exact absurd rfl (x8 _ _ hs.2)
     |Gm k=>have:k=l:=(List.mem_singleton.1 Lm).symm
            subst this;simp only [Be,if_pos] at hs;exact absurd rfl (x8 _ _ hs.2)
     |clo g Bz=>
      simp only [Be] at hs
      rw [if_pos (by simpa [AC.refs] using Lm)] at hs
      exact absurd rfl (x8 _ _ hs.2)
     |_=>simp [AC.refs] at Lm
    ·cases c with
     |own k o n=>have:k=l:=(List.mem_singleton.1 Lm).symm
                 subst this;simp only [Be,if_pos];rfl
     |Ea k o=>have:k=l:=(List.mem_singleton.1 Lm).symm
              subst this;simp only [Be,if_pos];rfl
     |Gi k o=>have:k=l:=(List.mem_singleton.1 Lm).symm
              subst this;simp only [Be,if_pos];rfl
     |sub k o o2=>have:k=l:=(List.mem_singleton.1 Lm).symm
                  subst this;simp only [Be,if_pos];rfl
     |Gf k o o2=>have:k=l:=(List.mem_singleton.1 Lm).symm
                 subst this;simp only [Be,if_pos];rfl
     |Gm k=>have:k=l:=(List.mem_singleton.1 Lm).symm
            subst this;simp only [Be,if_pos];rfl
     |clo g Bz=>simp only [Be];rw [if_pos (by simpa [AC.refs] using Lm)];rfl
     |_=>simp [AC.refs] at Lm
   ·rename_i e tid xs hl
    unfold St.at at hl
    obtain ⟨h1,m⟩:=h.freeze (fr:=false) (.inr ⟨rfl,tid,hl⟩)
    refine step _ l _ h1 m (St.Hu st l false e xs) (λm hm=>St.Mc st l m false e xs hm) (Gt.freeze st l false e xs) (λc _ hc=>dm hc) (λc _ Lm hs=>?_) (λc _ Lm=>?_) he
    ·cases c with
     |own k o n=>have:k=l:=(List.mem_singleton.1 Lm).symm
                 subst this;simp only [Be,if_pos,Bn,St.at,hl]
     |Ea k o=>have:k=l:=(List.mem_singleton.1 Lm).symm
              subst this;simp only [Be,if_pos] at hs;exact absurd rfl (x8 _ _ hs.2)
     |Gi k o=>have:k=l:=(List.mem_singleton.1 Lm).symm
              subst this;simp only [Be,if_pos] at hs;exact absurd rfl (x8 _ _ hs.2)
     |sub k o o2=>have:k=l:=(List.mem_singleton.1 Lm).symm
                  subst this;simp only [Be,if_pos] at hs;exact absurd rfl (x8 _ _ hs.2)
     |Gf k o o2=>have:k=l:=(List.mem_singleton.1 Lm).symm
                 subst this;simp only [Be,if_pos] at hs;exact absurd rfl (x8 _ _ hs.2)
     |Gm k=>have:k=l:=(List.mem_singleton.1 Lm).symm
            subst this;simp only [Be,if_pos] at hs;exact absurd rfl (x8 _ _ hs.2)
     |clo g Bz=>
      simp only [Be] at hs
      rw [if_pos (by simpa [AC.refs] using Lm)] at hs
      exact absurd rfl (x8 _ _ hs.2)
     |_=>simp [AC.refs] at Lm
    ·cases c with
     |own k o n=>have:k=l:=(List.mem_singleton.1 Lm).symm
                 subst this;simp only [Be,if_pos];rfl
     |Ea k o=>have:k=l:=(List.mem_singleton.1 Lm).symm
              subst this;simp only [Be,if_pos];rfl
     |Gi k o=>have:k=l:=(List.mem_singleton.1 Lm).symm
              subst this;simp only [Be,if_pos];rfl
     |sub k o o2=>have:k=l:=(List.mem_singleton.1 Lm).symm
                  subst this;simp only [Be,if_pos];rfl
     |Gf k o o2=>have:k=l:=(List.mem_singleton.1 Lm).symm
                 subst this;simp only [Be,if_pos];rfl
     |Gm k=>have:k=l:=(List.mem_singleton.1 Lm).symm
            subst this;simp only [Be,if_pos];rfl
     |clo g Bz=>simp only [Be];rw [if_pos (by simpa [AC.refs] using Lm)];rfl
     |_=>simp [AC.refs] at Lm
   ·cases he
  ·rename_i l hf
   split at he
   ·rename_i v mm hl
    unfold St.at at hl
    obtain ⟨h1,m⟩:=h.Eu hl
    refine step _ l _ h1 m (St.Nn st l v mm) (λm hm=>St.Lp st l m v mm hm) (Gt.Eu st l v mm) (λc _ hc=>ov hc) (λc _ Lm hs=>?_) (λc _ Lm=>?_) he
    ·cases c with
     |Gm k=>have:k=l:=(List.mem_singleton.1 Lm).symm
            subst this;simp only [Ds,if_pos,Bn,St.at,hl]
     |Ea k o=>have:k=l:=(List.mem_singleton.1 Lm).symm
              subst this;simp only [Ds,if_pos] at hs;exact absurd rfl (x8 _ _ hs.2)
     |Gi k o=>have:k=l:=(List.mem_singleton.1 Lm).symm
              subst this;simp only [Ds,if_pos] at hs;exact absurd rfl (x8 _ _ hs.2)
     |sub k o o2=>have:k=l:=(List.mem_singleton.1 Lm).symm
                  subst this;simp only [Ds,if_pos] at hs;exact absurd rfl (x8 _ _ hs.2)
     |Gf k o o2=>have:k=l:=(List.mem_singleton.1 Lm).symm
                 subst this;simp only [Ds,if_pos] at hs;exact absurd rfl (x8 _ _ hs.2)
     |own k o n=>have:k=l:=(List.mem_singleton.1 Lm).symm
                 subst this;simp only [Ds,if_pos] at hs;exact absurd rfl (x8 _ _ hs.2)
     |clo g Bz=>
      simp only [Ds] at hs
      rw [if_pos (by simpa [AC.refs] using Lm)] at hs
      exact absurd rfl (x8 _ _ hs.2)
     |_=>simp [AC.refs] at Lm
    ·cases c with
     |own k o n=>have:k=l:=(List.mem_singleton.1 Lm).symm
                 subst this;simp only [Ds,if_pos];rfl
     |Ea k o=>have:k=l:=(List.mem_singleton.1 Lm).symm
              subst this;simp only [Ds,if_pos];rfl
     |Gi k o=>have:k=l:=(List.mem_singleton.1 Lm).symm
              subst this;simp only [Ds,if_pos];rfl
     |sub k o o2=>have:k=l:=(List.mem_singleton.1 Lm).symm
                  subst this;simp only [Ds,if_pos];rfl
     |Gf k o o2=>have:k=l:=(List.mem_singleton.1 Lm).symm
                 subst this;simp only [Ds,if_pos];rfl
     |Gm k=>have:k=l:=(List.mem_singleton.1 Lm).symm
            subst this;simp only [Ds,if_pos];rfl
     |clo g Bz=>simp only [Ds];rw [if_pos (by simpa [AC.refs] using Lm)];rfl
     |_=>simp [AC.refs] at Lm
   ·cases he
  ·cases he
def cG (X:Ctx) (w:World) (π:Pi) (F:List Nat):Prop:=F.Nodup/\ ∀b∈F,(X.w0.heap.size<=b\/X.gv b)/\b<w.heap.size/\ ∀l r,π l=some r-> ¬r.cl b
theorem Rx {S:Nat->Prop} : ∀(e:Ty) (es:List Value) (x:e.den),e.flat=true->Cells w S e es x->Bi w [] e es x
 | .int k,cs,n,_,h=>⟨rfl,h⟩
 | .bool,cs,n,_,h=>⟨rfl,h⟩
 | .str,cs,n,_,h=>⟨rfl,h⟩
 | .unit,cs,n,_,h=>⟨rfl,h⟩
 | .pair a r,cs,x,hf,h=>by
  simp only [Ty.flat,Bool.and_eq_true] at hf
  simp only [Cells] at h
  simp only [Bi]
  obtain ⟨c1,c2,h1,h2,h3⟩:=h
  exact ⟨c1,c2,[],[],h1,rfl,Rx a c1 x.1 hf.1 h2,Rx r c2 x.2 hf.2 h3⟩
 | .slice _,_,_,hf,_=>by simp [Ty.flat] at hf
 | .oslice _,_,_,hf,_=>by simp [Ty.flat] at hf
 | .ptr _,_,_,hf,_=>by simp [Ty.flat] at hf
 | .optr _,_,_,hf,_=>by simp [Ty.flat] at hf
 | .smap _,_,_,hf,_=>by simp [Ty.flat] at hf
 | .clo _ _,_,_,hf,_=>by simp [Ty.flat] at hf
theorem Mt {Fs:List (List Nat)} (off len:Nat) (b:Nat) (h:b∈List.flatten ((Fs.drop off).take len)):b∈List.flatten Fs:=by
 obtain ⟨F,hF,hb⟩:=List.mem_flatten.1 h
 exact List.mem_flatten.2 ⟨F,List.mem_of_mem_drop (List.mem_of_mem_take hF),hb⟩
theorem cm {α:Type} {a b:List (List α)} (h:a.Sublist b):(List.flatten a).Sublist (List.flatten b):=by
 induction h with
 |slnil=>exact List.Sublist.refl _
 |cons c _ ih=>simp only [List.flatten_cons];exact ih.trans (List.sublist_append_right _ _)
 |cons_cons c _ ih=>simp only [List.flatten_cons];exact List.Sublist.append (List.Sublist.refl _) ih
theorem hJ {Fs:List (List Nat)} (off len:Nat) (h:(List.flatten Fs).Nodup):(List.flatten ((Fs.drop off).take len)).Nodup:=by
 have h1:((Fs.drop off).take len).Sublist Fs:=(List.take_sublist len _).trans (List.drop_sublist off Fs)
 exact h.sublist (cm h1)
theorem fe {P:Nat->Prop} {r:Real} {off len:Nat} {v:Value} {e:Ty} {tid:TypeId} {xs:List e.den} {cur:Array Value} (h2:w.heap[r.g]?=some (.cells cur tid (0,0))) (Xz:cur.size=(r.o+r.cap)*e.size) (oD:r.cap<=maxLen)
  (hlen:off+len<=xs.length) (hv:Eh (some r) e.size off len v) (ht:Rl w P r.g r.o cur e xs) (hg:P r.g):
  ∃F,Bi w F (.slice e) [v] ((xs.drop off).take len)/\F.Nodup/\ ∀b∈F,P b:=by
 have OV:((xs.drop off).take len).length=len:=by simp;omega
 obtain ⟨ad,rfl,hc,ha⟩:=hv
 obtain ⟨Fs,t1,t2,t3,t4⟩:=ht
 ·refine ⟨r.g::List.flatten ((Fs.drop off).take len),⟨some ad,len,r.cap-off,rfl,OV.symm,by omega, .inr ⟨ad,r.g,(r.o+off)*e.size,_,rfl,λh0=>ha (by omega),⟨cur,tid,r.o+off,h2,rfl,by rw [Xz];congr 1;omega,by omega⟩,rfl,by simp;omega,λi x F hx hF=>?_⟩⟩,?_,λb hb=>?_⟩
  ·have hi:i<len:=by
    have:=(List.getElem?_eq_some_iff.1 hx).1
    rw [OV] at this;exact this
   have hx':xs[off+i]?=some x:=by rw [List.getElem?_take,if_pos hi,List.getElem?_drop] at hx;exact hx
   have hF':Fs[off+i]?=some F:=by rw [List.getElem?_take,if_pos hi,List.getElem?_drop] at hF;exact hF
   obtain ⟨es,he,hj,uP⟩:=t4 (off+i) x F hx' hF'
   refine ⟨es,he,λj u hu=>?_,uP⟩
   rw [cellOf h2]
   have:=hj j u hu
   rw [<-this]
   congr 1
   rw [<-Nat.add_assoc,Nat.add_mul (r.o+off) i]
  ·have:=List.nodup_cons.1 t2
   exact List.nodup_cons.2 ⟨λhm=>this.1 (Mt off len _ hm),hJ off len this.2⟩
  ·rcases List.mem_cons.1 hb with rfl|hb
   ·exact hg
   ·exact t3 b (Mt off len b hb)
theorem jO {st:St} (h:Iq X w π st.heap) {c:AC} {v:Value} (hc:Ec X w π st.heap c v) (ht:Mn st c=true) (τ:Ty) (fr:Bool) (x:τ.den) (Od:τ.Ab=false) (IY:τ.tree=true)
  (hv:Bo st τ (Bn st c)=some (fr,x)): ∃F,Bi w F τ [v] x/\F.Nodup/\ ∀b∈F,∃l r,l∈c.refs/\π l=some r/\r.cl b:=by
 cases c with
 |data Qk Jj y=>
  simp only [Mn] at ht
  simp only [Bn,Jb] at hv
  split at hv
  ·rename_i he;subst he
   simp only [Option.some.injEq,Prod.mk.injEq] at hv
   obtain ⟨_,rfl⟩:=hv
   exact ⟨[],Rx Jj _ _ ht (Bd.Mi Od hc),List.nodup_nil,λb hb=>by cases hb⟩
  ·unfold cY at hv
   split at hv
   ·simp [Ty.flat] at ht
   ·simp [Ty.flat] at ht
   ·cases hv
 |Hx=>
  have hc:v= .slice none 0 0:=hc
  subst hc
  cases τ with
  |slice e=>
   simp only [Bn,Bo,Option.some.injEq,Prod.mk.injEq] at hv
   obtain ⟨_,rfl⟩:=hv
   exact ⟨[],⟨none,0,0,rfl,rfl,Nat.le_refl _, .inl ⟨rfl,rfl,rfl,rfl⟩⟩,List.nodup_nil,λb hb=>by cases hb⟩
  |oslice e=>simp [Ty.tree] at IY
  |_=>simp [Bn,Bo] at hv
 |own l off len=>
  simp only [Mn] at ht
  split at ht
  ·rename_i Qk tr e tid xs hl
   have Gd:=hl
   unfold St.at at hl
   simp only [Bn,Gd,Jb] at hv
   split at hv
   ·rename_i he;subst he
    simp only [Option.some.injEq,Prod.mk.injEq] at hv
    obtain ⟨_,rfl⟩:=hv
    obtain ⟨h2,h3⟩:=Jp hc hl
    have hb:=(h.heap l).Lx hl
    simp only [Aw,Gg] at hb
    cases hp:π l with
    |none=>
     rw [hp] at h3
     obtain ⟨rfl,rfl,rfl⟩:=h3
     exact ⟨[],⟨none,0,0,rfl,by simp,Nat.le_refl _, .inl ⟨by simp,rfl,rfl,rfl⟩⟩,List.nodup_nil,λb hb=>by cases hb⟩
    |some r=>
     rw [hp] at hb h3
     obtain ⟨k1,cur,_,k2,k3,k4,k5,k6,k7⟩:=hb
     have HF:Rl w r.cl r.g r.o cur e xs:=by
      simp only [Bool.or_eq_true] at ht
      rcases ht with ht|ht
      ·exact k7 ht
      ·refine ⟨List.replicate xs.length [],by simp,by simp,by simp,λi x F hx hF=>?_⟩
       obtain ⟨es,e1,e2,e3⟩:=k6 i x hx
       have:F= []:=by
        have:=List.mem_of_getElem? hF
        exact List.eq_of_mem_replicate this
       subst this
       exact ⟨es,e1,e2,Rx e es x ht e3⟩
     obtain ⟨F,f1,f2,f3⟩:=fe k2 k3 k4 h2 h3 HF (h.sub l r _ hp k1.1)
     exact ⟨F,f1,f2,λb hb=>⟨l,r,by simp [AC.refs],hp,f3 b hb⟩⟩
   ·cases τ<;>simp [cY] at hv
  ·rename_i e tid xs hl
   have Gd:=hl
   unfold St.at at hl
   simp only [Bn,Gd,Jb] at hv
   split at hv
   ·rename_i he;subst he
    simp only [Option.some.injEq,Prod.mk.injEq] at hv
    obtain ⟨_,rfl⟩:=hv
    obtain ⟨h2,h3⟩:=Xa hc hl
    have hb:=(h.heap l).Lx hl
    simp only [Aw,Jc] at hb
    cases hp:π l with
    |none=>
     rw [hp] at h3
     obtain ⟨rfl,rfl,rfl⟩:=h3
     exact ⟨[],⟨none,0,0,rfl,by simp,Nat.le_refl _, .inl ⟨by simp,rfl,rfl,rfl⟩⟩,List.nodup_nil,λb hb=>by cases hb⟩
    |some r=>
     rw [hp] at hb h3
     obtain ⟨k1,cur,_,k2,k3,k4,k5,k7⟩:=hb
     obtain ⟨F,f1,f2,f3⟩:=fe k2 k3 k4 h2 h3 k7 k1
     exact ⟨F,f1,f2,λb hb=>⟨l,r,by simp [AC.refs],hp,h.sub l r b hp (f3 b hb)⟩⟩
   ·cases τ<;>simp [cY] at hv
  ·cases ht
 |_=>simp [Mn] at ht
theorem Sd: ∀ {l:List Nat},Ue l=true->l.Nodup
 | [],_=>List.nodup_nil
 |a::r,h=>by
  simp only [Ue,Bool.and_eq_true,Bool.not_eq_true',List.contains_eq_mem,decide_eq_false_iff_not] at h
  exact List.nodup_cons.2 ⟨h.1,Sd h.2⟩
theorem Vd {st st':St} {τ:Ty} {c:AC} (h:c.settled=true):Bo st' τ c=Bo st τ c:=by
 cases c<;>simp [AC.settled] at h<;>cases τ<;>rfl
theorem sk {st st':St} (h:Iq X w π st.heap): ∀(τ:Ty) (cs:List AC) (us:List Value) (fr:Bool) (x:τ.den),Df X w π st.heap cs us->cs.all (Mn st)=true->(cs.flatMap AC.refs).Nodup->
  (cs.map (Bn st)).all (·.settled)=true->τ.tree=true->Cw st' τ (cs.map (Bn st))=some (fr,x)-> ∃F,Bi w F τ us x/\F.Nodup/\ ∀b∈F,∃l r,l∈cs.flatMap AC.refs/\π l=some r/\r.cl b:=by
 have one: ∀(τ:Ty) (cs:List AC) (us:List Value) (fr:Bool) (x:τ.den),τ.Ab=false->Df X w π st.heap cs us->cs.all (Mn st)=true->
   (cs.map (Bn st)).all (·.settled)=true->τ.tree=true->Cw st' τ (cs.map (Bn st))=some (fr,x)-> ∃F,Bi w F τ us x/\F.Nodup/\ ∀b∈F,∃l r,l∈cs.flatMap AC.refs/\π l=some r/\r.cl b:=by
  intro τ cs us fr x Od hr ht hs Qe hv
  rw [Of Od] at hv
  rcases cs with _|⟨c,_|⟨d,cs⟩⟩
  ·cases hv
  ·simp only [List.map_cons,List.map_nil] at hv
   obtain ⟨u,hu,_,hc⟩:=hr.2 0 c rfl
   have hl:us.length=1:=hr.1
   obtain ⟨u',rfl⟩:=List.length_eq_one_iff.1 hl
   simp at hu;subst hu
   rw [Vd (st:=st) (by simpa using hs)] at hv
   obtain ⟨F,f1,f2,f3⟩:=jO h hc (by simpa using ht) τ fr x Od Qe hv
   exact ⟨F,f1,f2,λb hb=>by obtain ⟨l,r,g1,g2⟩:=f3 b hb;exact ⟨l,r,by simpa using g1,g2⟩⟩
  ·cases hv
 intro τ
 induction τ with
 |unit=>
  intro cs us fr x hr ht hd hs Qe hv
  cases cs with
  |nil=>have:us= []:=List.eq_nil_of_length_eq_zero hr.1;subst this;exact ⟨[],⟨rfl,rfl⟩,List.nodup_nil,λb hb=>by cases hb⟩
  |cons c cs=>simp [Cw] at hv
 |pair a r iw eK=>
  intro cs us fr x hr ht hd hs Qe hv
  simp only [Ty.tree,Bool.and_eq_true] at Qe
  simp only [Cw] at hv
  split at hv
  ·rename_i f1 y f2 z h1 h2
   simp only [Option.some.injEq,Prod.mk.injEq] at hv
   obtain ⟨rfl,rfl⟩:=hv
   have VE:Df X w π st.heap (cs.take a.size) (us.take a.size):=by have:=Tq hr 0 a.size;simpa using this
   have YI:Df X w π st.heap (cs.drop a.size) (us.drop a.size):=
    ⟨by simp [hr.1],λi c hc=>by
     rw [List.getElem?_drop] at hc⊢
     exact hr.2 _ c hc⟩
   have Ag6: ∀ {p:AC->Bool} {l:List AC} (n:Nat),l.all p=true->(l.take n).all p=true:= λn hl=>List.all_eq_true.2 λc hc=>List.all_eq_true.1 hl c (List.mem_of_mem_take hc)
   have Ag7: ∀ {p:AC->Bool} {l:List AC} (n:Nat),l.all p=true->(l.drop n).all p=true:= λn hl=>List.all_eq_true.2 λc hc=>List.all_eq_true.1 hl c (List.mem_of_mem_drop hc)
   have hdd:((cs.take a.size++cs.drop a.size).flatMap AC.refs).Nodup:=by rw [List.take_append_drop];exact hd
   rw [List.flatMap_append] at hdd
   obtain ⟨d1,d2,d3⟩:=List.nodup_append.1 hdd
   rw [<-List.map_take] at h1
   rw [<-List.map_drop] at h2
   obtain ⟨F1,t1,n1,c1⟩:=iw _ _ f1 y VE (Ag6 _ ht) d1 (by rw [List.map_take];exact Ag6 _ hs) Qe.1 h1
   obtain ⟨F2,t2,n2,c2⟩:=eK _ _ f2 z YI (Ag7 _ ht) d2 (by rw [List.map_drop];exact Ag7 _ hs) Qe.2 h2
   refine ⟨F1++F2,⟨us.take a.size,us.drop a.size,F1,F2,(List.take_append_drop _ _).symm,rfl,t1,t2⟩,List.nodup_append.2 ⟨n1,n2,λb hb b' qI e=>?_⟩,λb hb=>?_⟩
   ·subst e
    obtain ⟨l1,r1,g1,g2,g3⟩:=c1 b hb
    obtain ⟨l2,r2,g4,g5,g6⟩:=c2 b qI
    exact d3 l1 g1 l2 g4 (h.inj l1 l2 r1 r2 b g2 g5 g3 g6)
   ·have Hm: ∀l,(l∈(cs.take a.size).flatMap AC.refs\/l∈(cs.drop a.size).flatMap AC.refs)->l∈cs.flatMap AC.refs:= λl hl=>by
     rw [<-List.mem_append,<-List.flatMap_append,List.take_append_drop] at hl;exact hl
    rcases List.mem_append.1 hb with hb|hb
    ·obtain ⟨l1,r1,g1,g2⟩:=c1 b hb;exact ⟨l1,r1,Hm l1 (.inl g1),g2⟩
    ·obtain ⟨l1,r1,g1,g2⟩:=c2 b hb;exact ⟨l1,r1,Hm l1 (.inr g1),g2⟩
  ·cases hv
 |_=>exact λcs us fr x hr ht _ hs Qe hv=>one _ cs us fr x rfl hr ht hs Qe hv
theorem GO {π':Pi} {st st':St} {a:Act} (h:Al X π st a w) (h':Al X π' st' a w) (k:Gt π π' st.heap st'.heap) {ls:List Nat} (hg: ∀l∈ls,Ad st'.heap l=none) {F:List Nat} (hF:F.Nodup)
  (hc: ∀b∈F,∃l r,l∈ls/\π l=some r/\r.cl b):cG X w π' F:=by
 refine ⟨hF,λb hb=>?_⟩
 obtain ⟨l,r,h1,h2,h3⟩:=hc b hb
 have hp:=h.1.place l r b h2 h3
 refine ⟨hp.1,hp.2,λl2 r2 h4 h5=>?_⟩
 cases hh:Ad st'.heap l2 with
 |none=>rw [(h'.1.heap l2).emp hh] at h4;cases h4
 |some b'=>
  have h6:=(k l2 b' hh).1
  rw [h6] at h4
  have:=h.1.inj l l2 r r2 b h2 h4 h3 h5
  subst this
  rw [hg l h1] at hh;cases hh
theorem Xd {st:St} {a:Act} (h:Al X π st a w) {c:AV} {v:Value} (hc:Ao X w π st.heap c v) {c':AV} {st':St} (he:settle st c=some (c',st')):
  ∃π',Al X π' st' a w/\Ao X w π' st'.heap c' v/\c'.settled=true/\Gt π π' st.heap st'.heap/\
   (Nw st c=true-> ∀(τ:Ty) (fr:Bool) (x:τ.den),τ.tree=true->Cx st' τ c'=some (fr,x)-> ∃F us,Bi w F τ us x/\v=Ar τ us/\cG X w π' F/\ ∀b∈F,∃l r,π l=some r/\r.cl b):=by
 have cell: ∀(a0:AC) (st':St) (π':Pi),Ec X w π st.heap a0 v->Al X π' st' a w->(Bn st a0).settled=true->Gt π π' st.heap st'.heap->(∀l∈a0.refs,Ad st'.heap l=none)->
   Mn st a0=true-> ∀(τ:Ty) (fr:Bool) (x:τ.den),τ.tree=true->Cx st' τ (.at (Bn st a0))=some (fr,x)-> ∃F us,Bi w F τ us x/\v=Ar τ us/\cG X w π' F/\ ∀b∈F,∃l r,π l=some r/\r.cl b:=by
  intro a0 st1 Xl hr h1 hs hk hg ht τ fr x Qe hv
  by_cases Od:τ.Ab=true
  ·
   cases yj:Bn st a0 with
   |data Qk Jj y=>
    rw [yj,Yq] at hv
    split at hv
    ·rename_i het;subst het
     simp only [Option.some.injEq,Prod.mk.injEq] at hv
     obtain ⟨_,rfl⟩:=hv
     cases a0 with
     |data nw τ2 z=>
      simp only [Bn,AC.data.injEq] at yj
      obtain ⟨rfl,rfl,hz⟩:=yj
      have hz:=eq_of_heq hz
      subst hz
      obtain ⟨cs,uP,rfl⟩:=hr
      exact ⟨[],cs,Rx _ cs _ ht uP,rfl,⟨List.nodup_nil,λb hb=>by cases hb⟩,λb hb=>by cases hb⟩
     |own l off len=>
      simp only [Bn] at yj
      split at yj
      ·simp only [AC.data.injEq] at yj;obtain ⟨_,h2,_⟩:=yj;subst h2;simp [Ty.Ab] at Od
      ·simp only [AC.data.injEq] at yj;obtain ⟨_,h2,_⟩:=yj;subst h2;simp [Ty.Ab] at Od
      ·cases yj
     |Gm l=>simp [Mn] at ht
     |_=>simp [Bn] at yj
    ·cases hv
   |_=>rw [yj] at hv;simp only [Cx,Od,if_true] at hv;cases hv
  ·simp only [Bool.not_eq_true] at Od
   have JG:Bo st τ (Bn st a0)=some (fr,x):=by
    rw [<-Vd (st:=st) (st':=st1) hs]
    cases yj:Bn st a0 with
    |data Qk Jj y=>
     rw [yj,Yq] at hv
     rw [Jb]
     split at hv
     ·rename_i het;rw [dif_pos het];exact hv
     ·rename_i het
      rw [dif_neg het]
      simp only [Od,Bool.false_eq_true,if_false,wL,Jb] at hv
      rw [dif_neg het] at hv
      exact hv
    |Hx=>rw [yj] at hv;simp only [Cx,Od,Bool.false_eq_true,if_false] at hv;rw [Ld rfl] at hv;exact hv
    |Rg=>rw [yj] at hv;simp only [Cx,Od,Bool.false_eq_true,if_false] at hv;rw [Ld rfl] at hv;exact hv
    |_=>rw [yj] at hs;simp [AC.settled] at hs
   obtain ⟨F,f1,f2,f3⟩:=jO h.1 hr ht τ fr x Od Qe JG
   exact ⟨F,[v],f1,by simp [Ar,Od],GO h h1 hk hg f2 f3,λb hb=>let ⟨l,r,_,q⟩:=f3 b hb;⟨l,r,q⟩⟩
 unfold settle at he
 split at he
 ·rename_i l off len
  split at he
  ·rename_i fr tr e tid xs hl
   simp only [Option.some.injEq,Prod.mk.injEq] at he
   obtain ⟨rfl,rfl⟩:=he
   obtain ⟨h1,m⟩:=h.freeze (fr:=fr) (.inl ⟨tr,tid,hl⟩)
   have:=m.ac (.own l off len) v hc
   simp only [Be,if_true] at this
   have iv:Bn st (.own l off len)= .data fr (.slice e) ((xs.drop off).take len):=by simp only [Bn,hl]
   refine ⟨_,h1,this,rfl,Gt.freeze st l fr e xs,λht=>?_⟩
   have:=cell (.own l off len) _ _ hc h1 (by rw [iv];rfl) (Gt.freeze st l fr e xs) (λk hk=>by rw [List.mem_singleton.1 hk];exact St.Hu st l fr e xs) ht
   rw [iv] at this
   exact this
  ·rename_i e tid xs hl
   simp only [Option.some.injEq,Prod.mk.injEq] at he
   obtain ⟨rfl,rfl⟩:=he
   obtain ⟨h1,m⟩:=h.freeze (fr:=false) (.inr ⟨rfl,tid,hl⟩)
   have:=m.ac (.own l off len) v hc
   simp only [Be,if_true] at this
   have iv:Bn st (.own l off len)= .data false (.slice e) ((xs.drop off).take len):=by simp only [Bn,hl]
   refine ⟨_,h1,this,rfl,Gt.freeze st l false e xs,λht=>?_⟩
   have:=cell (.own l off len) _ _ hc h1 (by rw [iv];rfl) (Gt.freeze st l false e xs) (λk hk=>by rw [List.mem_singleton.1 hk];exact St.Hu st l false e xs) ht
   rw [iv] at this
   exact this
  ·cases he
 ·rename_i l
  split at he
  ·rename_i vt mm hl
   simp only [Option.some.injEq,Prod.mk.injEq] at he
   obtain ⟨rfl,rfl⟩:=he
   obtain ⟨h1,m⟩:=h.Eu hl
   have:=m.ac (.Gm l) v hc
   simp only [Ds,if_true] at this
   exact ⟨_,h1,this,rfl,Gt.Eu st l vt mm,λht=>by simp [Nw,Mn] at ht⟩
  ·cases he
 ·rename_i a0 _ _
  split at he
  ·rename_i hs
   simp only [Option.some.injEq,Prod.mk.injEq] at he
   obtain ⟨rfl,rfl⟩:=he
   refine ⟨π,h,hc,hs,Gt.refl _ _,λht=>?_⟩
   have iv:=Nt (st:=st) hs
   have:=cell a0 st π hc h (by rw [iv];exact hs) (Gt.refl _ _) (λk hk=>by
    cases a0<;>simp [AC.settled] at hs<;>simp [AC.refs] at hk) ht
   rw [iv] at this
   exact this
  ·cases he
 ·rename_i cs
  cases hsc:Dy cs.length st cs with
  |none=>rw [hsc] at he;cases he
  |some p=>
   rw [hsc] at he
   simp only [Option.map_some,Option.some.injEq,Prod.mk.injEq] at he
   obtain ⟨rfl,rfl⟩:=he
   obtain ⟨us,rfl,hr⟩:=hc
   obtain ⟨π',h2,h3,h4,h5,h6,h7⟩:=cg cs.length st π cs us p.1 p.2 h hr hsc
   refine ⟨π',h2,⟨us,rfl,h3⟩,h4,h5,λht τ fr x Qe hv=>?_⟩
   simp only [Nw,Bool.and_eq_true] at ht
   simp only [Cx] at hv
   split at hv
   ·rename_i Od
    rw [h6] at hv h4
    obtain ⟨F,f1,f2,f3⟩:=sk h.1 τ cs us fr x hr ht.1 (Sd ht.2) h4 Qe hv
    exact ⟨F,us,f1,by simp [Ar,Od],GO h h2 h5 h7 f2 f3,λb hb=>let ⟨l,r,_,q⟩:=f3 b hb;⟨l,r,q⟩⟩
   ·cases hv
 ·simp only [Option.some.injEq,Prod.mk.injEq] at he
  obtain ⟨rfl,rfl⟩:=he
  exact ⟨π,h,hc,rfl,Gt.refl _ _,λht=>by simp [Nw] at ht⟩
 ·cases he
theorem cN {o i j s p:Nat} (Ff:i≠j) (hp:p<s):(o+i)*s+p<(o+j)*s\/(o+j)*s+s<=(o+i)*s+p:=by
 rcases Nat.lt_or_gt_of_ne Ff with h|h
 ·left
  have:(o+i+1)*s<=(o+j)*s:=Nat.mul_le_mul_right _ (by omega)
  rw [Nat.add_mul,Nat.one_mul] at this
  omega
 ·right
  have:(o+j+1)*s<=(o+i)*s:=Nat.mul_le_mul_right _ (by omega)
  rw [Nat.add_mul,Nat.one_mul] at this
  omega
theorem En {α:Type} (l ys:List α) (i k:Nat) (h:i+ys.length<=l.length):(Bt l i ys)[k]?=if k<i then l[k]? else if k<i+ys.length then ys[k-i]? else l[k]?:=by
 unfold Bt
 have t1:(l.take i).length=i:=by simp;omega
 split
 ·rename_i hk
  rw [List.append_assoc,List.getElem?_append_left (by omega),List.getElem?_take,if_pos hk]
 ·split
  ·rename_i hk
   rw [List.append_assoc,List.getElem?_append_right (by omega),t1,List.getElem?_append_left (by omega)]
  ·rw [List.getElem?_append_right (by simp;omega),List.getElem?_drop]
   congr 1
   simp;omega
theorem Ew {α:Type} (l ys:List α) (i:Nat) (h:i+ys.length<=l.length):(Bt l i ys).length=l.length:=by
 unfold Bt;simp;omega
theorem wy (hT:Ce P T) {st:St} {a:Act} (h:Al X π st a w) {t:TypeId} {e:Ty} (ht:T.ty t=some e) {l j:Nat} {r:Real} {vx:Value} {tid:TypeId} {fr Qk:Bool} {xs:List e.den} {x:e.den}
  (hp:π l=some r) {tr:Bool} (hl:Ad st.heap l=some (.arr fr tr e tid xs)) (hj:j<xs.length) (hx:Bd w (Bf X.w0.heap.size X.Sc π Qk) e vx x):
  ∃w',(Instr.storeAt t (.pointer (some ⟨r.g,(r.o+j)*e.size,none⟩)) vx).run P w= .ok () w'/\Al X π (st.Ge l (.arr (fr&&Qk) false e tid (xs.set j x))) a w':=by
 have hb:=(h.1.heap l).Lx hl
 simp only [Aw,Gg,hp] at hb
 obtain ⟨h1,cur,ti,h2,h3,h4,h5,h6,_⟩:=hb
 obtain ⟨es,cC,hv⟩:=hx
 have j0:=Cells.len e es x cC
 have Ry:(r.o+j)*e.size+es.length<=cur.size:=by
  have:(r.o+j+1)*e.size<=(r.o+r.cap)*e.size:=Nat.mul_le_mul_right _ (by omega)
  rw [Nat.add_mul (r.o+j) 1,Nat.one_mul] at this
  omega
 have Tk:(r.o+j)*e.size+es.length<=cur.toList.length:=by simpa using Ry
 have Qb:=Qu (P:=P) (w:=w) (hT.ty _ _ ht) r.g ((r.o+j)*e.size) vx es (by rw [hv];exact Gw e es x cC) j0 (Cells.plain e es x cC) cur ti h2 Ry
 refine ⟨_,by simp only [Instr.storeAt,Instr.sureAddr];simpa using Qb,?_⟩
 refine h.set hl (b:= .arr (fr&&Qk) false e tid (xs.set j x)) ⟨rfl,by simp⟩ (by rw [hp];exact Iy w r.g _) λm=>?_
 simp only [Aw,Gg,hp]
 refine ⟨⟨h1.1,h1.2.1,λhf=>h1.2.2 (by simp only [Bool.and_eq_true] at hf;exact hf.1)⟩,_,_,setRow_heap w r.g cur _ ti _ h2,by rw [List.size_toArray,Ew _ _ _ Tk];simpa using h3,h4,by simpa using h5,λi y hy=>?_,λhf=>by cases hf⟩
 rw [List.getElem?_set] at hy
 split at hy
 ·rename_i qY;subst qY
  simp only [Option.some.injEq] at hy;subst hy
  refine ⟨es,j0,λk u hu=>?_,(m.cells Qk e es x cC).and_right⟩
  have hk:k<es.length:=(List.getElem?_eq_some_iff.1 hu).1
  rw [List.getElem?_toArray,En _ _ _ _ Tk,if_neg (by omega),if_pos (by omega)]
  rw [show (r.o+j)*e.size+k-(r.o+j)*e.size=k by omega];exact hu
 ·rename_i qY
  obtain ⟨jT,TO,oH,y0⟩:=h6 i y hy
  refine ⟨jT,TO,λk u hu=>?_,(m.cells fr e jT y y0).and_left⟩
  have hk:k<jT.length:=(List.getElem?_eq_some_iff.1 hu).1
  have:=oH k u hu
  rw [List.getElem?_toArray,En _ _ _ _ Tk]
  rcases cN (o:=r.o) (i:=i) (j:=j) (s:=e.size) (p:=k) (Ne.symm qY) (by omega) with Gc|jV
  ·rw [if_pos Gc];simpa using this
  ·rw [if_neg (by omega),if_neg (by omega)];simpa using this
theorem fV: ∀(Fs:List (List Nat)) (i:Nat) (F':List Nat),(List.flatten Fs).Nodup->F'.Nodup->(∀b∈F',b∉List.flatten Fs)->(List.flatten (Fs.set i F')).Nodup/\ ∀b∈List.flatten (Fs.set i F'),b∈List.flatten Fs\/b∈F'
 | [],i,F',_,_,_=>by simp
 |G::Fs,0,F',hn,nA,hs=>by
  simp only [List.set_cons_zero,List.flatten_cons] at hn hs⊢
  obtain ⟨n1,n2,n3⟩:=List.nodup_append.1 hn
  refine ⟨List.nodup_append.2 ⟨nA,n2,λa ha b hb e=>hs a ha (List.mem_append_right _ (e▸hb))⟩,λb hb=>?_⟩
  rcases List.mem_append.1 hb with hb|hb
  ·exact .inr hb
  ·exact .inl (List.mem_append_right _ hb)
 |G::Fs,i+1,F',hn,nA,hs=>by
  simp only [List.set_cons_succ,List.flatten_cons] at hn hs⊢
  obtain ⟨n1,n2,n3⟩:=List.nodup_append.1 hn
  obtain ⟨m1,m2⟩:=fV Fs i F' n2 nA λb hb hm=>hs b hb (List.mem_append_right _ hm)
  refine ⟨List.nodup_append.2 ⟨n1,m1,λa ha b hb e=>?_⟩,λb hb=>?_⟩
  ·subst e
   rcases m2 a hb with h|h
   ·exact n3 a ha a h rfl
   ·exact hs a h (List.mem_append_left _ ha)
  ·rcases List.mem_append.1 hb with hb|hb
   ·exact .inl (List.mem_append_left _ hb)
   ·exact (m2 b hb).imp (List.mem_append_right _) id
theorem si (hT:Ce P T) {st:St} {a:Act} (h:Al X π st a w) {t:TypeId} {e:Ty} (ht:T.ty t=some e) {l j:Nat} {r:Real} {vx:Value} {tid:TypeId} {fr Qk:Bool} {xs:List e.den} {x:e.den}
  (hp:π l=some r) (hl:Ad st.heap l=some (.arr fr true e tid xs)) (hj:j<xs.length) (hx:Bd w (Bf X.w0.heap.size X.Sc π Qk) e vx x) {F:List Nat} {us:List Value} (hF:Bi w F e us x) (PD:vx=Ar e us) (j4:cG X w π F):
  ∃w',(Instr.storeAt t (.pointer (some ⟨r.g,(r.o+j)*e.size,none⟩)) vx).run P w= .ok () w'/\Al X (Rd π l (some (r.plus F))) (st.Ge l (.arr (fr&&Qk) true e tid (xs.set j x))) a w':=by
 have hb:=(h.1.heap l).Lx hl
 simp only [Aw,Gg,hp] at hb
 obtain ⟨h1,cur,ti,h2,h3,h4,h5,h6,h7⟩:=hb
 obtain ⟨Fs,t1,t2,t3,t4⟩:=h7 trivial
 obtain ⟨es,cC,hv⟩:=hx
 have j0:=Cells.len e es x cC
 have Akk:us=es:=by
  have c1:=Gw e us x (Bi.cells (S:= λ_=>False) F e us x hF λ_ _ h=>h)
  have c2:=Gw e es x cC
  rw [<-PD,hv,c2] at c1
  simpa using c1.symm
 subst Akk
 have Ry:(r.o+j)*e.size+us.length<=cur.size:=by
  have:(r.o+j+1)*e.size<=(r.o+r.cap)*e.size:=Nat.mul_le_mul_right _ (by omega)
  rw [Nat.add_mul (r.o+j) 1,Nat.one_mul] at this
  omega
 have Tk:(r.o+j)*e.size+us.length<=cur.toList.length:=by simpa using Ry
 have Qb:=Qu (P:=P) (w:=w) (hT.ty _ _ ht) r.g ((r.o+j)*e.size) vx us (by rw [hv];exact Gw e us x cC) j0 (Cells.plain e us x cC) cur ti h2 Ry
 have Mu:r.cl r.g:=h.1.sub l r _ hp h1.1
 have hng: ∀b∈F,b≠r.g:= λb hb e=>(j4.2 b hb).2.2 l r hp (e▸Mu)
 have HC:=fV Fs j F (List.nodup_cons.1 t2).2 j4.1 λb hb hm=>(j4.2 b hb).2.2 l r hp (t3 b hm)
 refine ⟨_,by simp only [Instr.storeAt,Instr.sureAddr];simpa using Qb,?_⟩
 refine h.Al4 hl (b:= .arr (fr&&Qk) true e tid (xs.set j x)) ⟨rfl,by simp⟩ hp (λc hc=>⟨(j4.2 c hc).1,(j4.2 c hc).2.1,λm r0 _=>(j4.2 c hc).2.2 m r0⟩) (Iy w r.g _) λm=>?_
 simp only [Aw,Gg]
 have cell: ∀(i:Nat) (jT:List Value),i≠j->jT.length=e.size->(∀k u,jT[k]?=some u->cur[(r.o+i)*e.size+k]?=some u)-> ∀k u,jT[k]?=some u->(Bt cur.toList ((r.o+j)*e.size) us).toArray[(r.o+i)*e.size+k]?=some u:=by
  intro i jT kE TO oH k u hu
  have hk:k<jT.length:=(List.getElem?_eq_some_iff.1 hu).1
  have:=oH k u hu
  rw [List.getElem?_toArray,En _ _ _ _ Tk]
  rcases cN (o:=r.o) (i:=i) (j:=j) (s:=e.size) (p:=k) kE (by omega) with Gc|jV
  ·rw [if_pos Gc];simpa using this
  ·rw [if_neg (by omega),if_neg (by omega)];simpa using this
 have XE: ∀k u,us[k]?=some u->(Bt cur.toList ((r.o+j)*e.size) us).toArray[(r.o+j)*e.size+k]?=some u:=by
  intro k u hu
  have hk:k<us.length:=(List.getElem?_eq_some_iff.1 hu).1
  rw [List.getElem?_toArray,En _ _ _ _ Tk,if_neg (by omega),if_pos (by omega)]
  rw [show (r.o+j)*e.size+k-(r.o+j)*e.size=k by omega];exact hu
 refine ⟨⟨h1.1,h1.2.1,λhf=>h1.2.2 (by simp only [Bool.and_eq_true] at hf;exact hf.1)⟩,_,_,setRow_heap w r.g cur _ ti _ h2,by rw [List.size_toArray,Ew _ _ _ Tk,Array.length_toList];exact h3,h4,by rw [List.length_set];exact h5,λi y hy=>?_,λ_=>?_⟩
 ·rw [List.getElem?_set] at hy
  split at hy
  ·rename_i qY;subst qY
   simp only [Option.some.injEq] at hy;subst hy
   exact ⟨us,j0,XE,(m.cells Qk e us x cC).and_right⟩
  ·rename_i qY
   obtain ⟨jT,TO,oH,y0⟩:=h6 i y hy
   exact ⟨jT,TO,cell i jT (Ne.symm qY) TO oH,(m.cells fr e jT y y0).and_left⟩
 ·refine ⟨Fs.set j F,by simp [t1],List.nodup_cons.2 ⟨λhm=>?_,HC.1⟩,λb hb=>?_,λi y G hy hG=>?_⟩
  ·rcases HC.2 _ hm with h8|h8
   ·exact (List.nodup_cons.1 t2).1 h8
   ·exact hng _ h8 rfl
  ·exact (HC.2 b hb).imp (t3 b) id
  ·rw [List.getElem?_set] at hy hG
   split at hy
   ·rename_i qY;subst qY
    rw [if_pos rfl] at hG
    rw [if_pos (by omega)] at hG
    simp only [Option.some.injEq] at hy hG;subst hy;subst hG
    exact ⟨us,j0,XE,hF.Cs _ _ _ _ (by simp) λb hb=>setRow_other w r.g b _ (hng b hb)⟩
   ·rename_i qY
    rw [if_neg qY] at hG
    obtain ⟨jT,TO,oH,y0⟩:=t4 i y G hy hG
    exact ⟨jT,TO,cell i jT (Ne.symm qY) TO oH,y0.Cs _ _ _ _ (by simp) λb hb=>setRow_other w r.g b _ λe=>(List.nodup_cons.1 t2).1 (List.mem_flatten.2 ⟨G,List.mem_of_getElem? hG,e▸hb⟩)⟩
theorem mL (hT:Ce P T) {st:St} {a:Act} (h:Al X π st a w) (t:TypeId) (p x:AV) (vp vx:Value) (hp:Ao X w π st.heap p vp) (hx:Ao X w π st.heap x vx) (st':St)
  (he:Ph T st t p x=some st'): ∃w' π',(Instr.storeAt t vp vx).run P w= .ok () w'/\Al X π' st' a w':=by
 unfold Ph at he
 split at he
 ·rename_i τ l i ht
  split at he
  ·rename_i tid vs cs hl hc
   split at he
   ·rename_i hle
    simp only [Option.some.injEq] at he
    obtain ⟨w',h1,h2⟩:=wA hT h ht hp hx hl hc hle
    split at he
    ·rename_i Fu
     simp only [Bool.and_eq_true,Nat.blt_eq] at Fu
     subst he
     obtain ⟨MU,h3⟩:=br (T:=T) l i t τ cs.length 0 _ π (by omega) h2
     exact ⟨w',MU,h1,h3⟩
    ·subst he
     exact ⟨w',π,h1,h2⟩
   ·cases he
  ·cases he
 ·rename_i τ l j ht
  split at he
  ·rename_i x' st1 hs
   obtain ⟨Xl,h1,h2,h3,h4,h5⟩:=Xd h hx hs
   split at he
   ·rename_i fr tr e tid xs Qk y hl hv
    split at he
    ·rename_i fN;subst fN
     split at he
     ·rename_i hj
      simp only [Option.some.injEq] at he;subst he
      obtain ⟨r,b,sz,n,g1,g0,g2,g3,rfl⟩:=hp
      obtain ⟨k1,b',f,k2,k3⟩:=h4 l _ hl
      rw [g1] at k2;cases k2
      have g4:=congrArg OB.row k3
      rw [show (OB.map f b).row=b.row by cases b<;>rfl,g0] at g4
      simp only [OB.row,Option.some.injEq,Prod.mk.injEq] at g4
      obtain ⟨rfl,rfl⟩:=g4
      cases j8:(tr&&(Nw st x&&τ.tree)) with
      |false=>
       obtain ⟨w',q1,q2⟩:=wy hT h1 ht (k1.trans g3) hl hj (Kc _ x' vx Qk y h3 h2 hv)
       exact ⟨w',Xl,q1,q2⟩
      |true=>
       simp only [Bool.and_eq_true] at j8
       obtain ⟨rfl,htv,fN⟩:=j8
       obtain ⟨F,us,f1,f2,f3,_⟩:=h5 htv τ Qk y fN hv
       obtain ⟨w',q1,q2⟩:=si hT h1 ht (k1.trans g3) hl hj (Kc _ x' vx Qk y h3 h2 hv) f1 f2 f3
       exact ⟨w',_,q1,q2⟩
     ·cases he
    ·cases he
   ·cases he
  ·cases he
 ·cases he
theorem pS {S:Nat->Prop} {e:Ty} {v:Value} {ys:List e.den} (h:Cells w S (.slice e) [v] ys):
  ∃ad c,v= .slice ad ys.length c/\(ys= []\/ ∃g o,ad=some ⟨g,o,none⟩/\ ∃news:List Value,news.length=ys.length*e.size/\(∀j u,news[j]?=some u->w.cell? ⟨g,o+j,none⟩=some u)/\(∀u∈news,u.oneCell'=true)/\(∀j u,j<ys.length*e.size->w.cell? ⟨g,o+j,none⟩=some u->news[j]?=some u)/\
   ∀(i:Nat) (y:e.den),ys[i]?=some y-> ∃es:List Value,es.length=e.size/\(∀j u,es[j]?=some u->news[i*e.size+j]?=some u)/\Cells w S e es y):=by
 simp only [Cells] at h
 obtain ⟨ad,len,cap,hv,hl,oD,BY⟩:=h
 simp only [List.cons.injEq,and_true] at hv
 subst hl
 refine ⟨ad,cap,hv,?_⟩
 rcases BY with h0|⟨g,o,rfl,hg,hn,Hm⟩
 ·exact .inl h0
 ·right
  refine ⟨g,o,rfl,(List.range (ys.length*e.size)).map λj=>(w.cell? ⟨g,o+j,none⟩).getD undef,by simp,?_⟩
  have key: ∀k,k<ys.length*e.size-> ∃u,w.cell? ⟨g,o+k,none⟩=some u/\u.oneCell'=true:=by
   intro k hk
   have hs:0<e.size:=by
    rcases Nat.eq_zero_or_pos e.size with h|h
    ·rw [h] at hk;simp at hk
    ·exact h
   have hi:k/e.size<ys.length:=(Nat.div_lt_iff_lt_mul hs).2 hk
   obtain ⟨es,cC,hc,Wn⟩:=Hm (k/e.size) _ (List.getElem?_eq_getElem hi)
   have hm:k%e.size<es.length:=by rw [cC];exact Nat.mod_lt _ hs
   have:=hc (k%e.size) _ (List.getElem?_eq_getElem hm)
   rw [Nat.add_assoc,show k/e.size*e.size+k%e.size=k by rw [Nat.mul_comm];exact Nat.div_add_mod k e.size] at this
   exact ⟨_,this,Cells.plain e es _ Wn _ (List.getElem_mem hm)⟩
  refine ⟨λj u hu=>?_,λu hu=>?_,λj u hj hu=>by rw [List.getElem?_map,List.getElem?_range hj];simp [hu],λi y hy=>?_⟩
  ·rw [List.getElem?_map] at hu
   have hj:j<ys.length*e.size:=by
    by_cases hj:j<ys.length*e.size
    ·exact hj
    ·rw [List.getElem?_eq_none (by simpa using hj)] at hu;cases hu
   rw [List.getElem?_range hj] at hu
   obtain ⟨u',cz,_⟩:=key j hj
   simp only [Option.map_some,cz,Option.getD_some,Option.some.injEq] at hu
   rw [cz,hu]
  ·obtain ⟨j,hj,rfl⟩:=List.mem_map.1 hu
   obtain ⟨u',cz,h1⟩:=key j (List.mem_range.1 hj)
   rw [cz];exact h1
  ·obtain ⟨es,cC,hc,Wn⟩:=Hm i y hy
   refine ⟨es,cC,λj u hu=>?_,Wn⟩
   have hi:=(List.getElem?_eq_some_iff.1 hy).1
   have hj:=(List.getElem?_eq_some_iff.1 hu).1
   have Gc:i*e.size+j<ys.length*e.size:=by
    have:(i+1)*e.size<=ys.length*e.size:=Nat.mul_le_mul_right _ (by omega)
    rw [Nat.add_mul,Nat.one_mul] at this
    omega
   rw [List.getElem?_map,List.getElem?_range Gc]
   have:=hc j u hu
   rw [Nat.add_assoc] at this
   simp [this]
end
end Go.Proofs.YtfolipnappekaaaGreat
