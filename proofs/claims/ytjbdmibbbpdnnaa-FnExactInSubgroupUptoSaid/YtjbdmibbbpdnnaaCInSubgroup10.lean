/-
  Part 11 of the proof that the statement FnExactInSubgroup holds.
-/
import Derived.Test.YtjbdmibbbpdnnaaCInSubgroup09
namespace Go.Proofs.Ytjbdmibbbpdnnaa
open Go.RowKit
section
variable {P:Program} {T:Tab} {X:Ctx} {w w':World} {π:Pi} {H:List (Nat×OB)}
theorem OB.map_map (f g:AC->AC) (b:OB):OB.map g (OB.map f b)=OB.map (λc=>g (f c)) b:=by
 cases b with
 |var t vs=>simp [OB.map,Function.comp_def]
 |_=>rfl
theorem OB.sV (b:OB):OB.map (λc=>c) b=b:=by
 cases b with
 |var t vs=>simp [OB.map]
 |_=>rfl
def Fm (π π':Pi) (H H':List (Nat×OB)):Prop:= ∀l b',Ad H' l=some b'->π' l=π l/\ ∃b f,Ad H l=some b/\b'=OB.map f b
theorem Fm.refl (π:Pi) (H:List (Nat×OB)):Fm π π H H:= λ_ b h=>⟨rfl,b,λc=>c,h,(OB.sV b).symm⟩
theorem Fm.trans {Uc zM π3:Pi} {H1 H2 H3:List (Nat×OB)} (h:Fm Uc zM H1 H2) (h':Fm zM π3 H2 H3):Fm Uc π3 H1 H3:= λl b hb=>by
 obtain ⟨e1,b1,f1,h1,rfl⟩:=h' l b hb
 obtain ⟨e2,b2,f2,h2,rfl⟩:=h l b1 h1
 exact ⟨e1.trans e2,b2,_,h2,OB.map_map f2 f1 b2⟩
theorem Fm.freeze (st:St) (l:Nat) (fr:Bool) (e:Ty) (xs:List e.den):Fm π (Oe π l none) st.heap (st.freeze l fr e xs).heap:= λk b hb=>by
 by_cases hk:k=l
 ·subst hk;rw [St.Gl] at hb;cases hb
 ·rw [St.Kj st l k fr e xs hk] at hb
  cases h0:Ad st.heap k with
  |none=>rw [h0] at hb;cases hb
  |some b0=>
   rw [h0] at hb
   simp only [Option.map_some,Option.some.injEq] at hb
   exact ⟨Cs π none hk,b0,_,rfl,hb.symm⟩
theorem Fm.Eb (st:St) (l:Nat) (v:Ty) (m:ByteArray->Option v.den):Fm π (Oe π l none) st.heap (st.Eb l v m).heap:= λk b hb=>by
 by_cases hk:k=l
 ·subst hk;rw [St.Lh] at hb;cases hb
 ·rw [St.Jy st l k v m hk] at hb
  cases h0:Ad st.heap k with
  |none=>rw [h0] at hb;cases hb
  |some b0=>
   rw [h0] at hb
   simp only [Option.map_some,Option.some.injEq] at hb
   exact ⟨Cs π none hk,b0,_,rfl,hb.symm⟩
theorem Fm.gone {π':Pi} {H':List (Nat×OB)} (k:Fm π π' H H') {l:Nat} (h:Ad H l=none):Ad H' l=none:=by
 cases hb:Ad H' l with
 |none=>rfl
 |some b=>
  obtain ⟨_,b0,f,h1,_⟩:=k l b hb
  rw [h] at h1;cases h1
def Bg (st:St):AC->AC
 | .own l off len=>match st.at l with
  |some (.arr fr _ e _ xs)=> .data fr (.slice e) ((xs.drop off).take len)
  |some (.Cu e _ xs)=> .data false (.slice e) ((xs.drop off).take len)
  |_=> .own l off len
 | .Fq l=>match st.at l with
  |some (.Nd v m)=> .data false (.smap v) m
  |_=> .Fq l
 |c=>c
theorem Lm {st:St} {c:AC} (h:c.settled=true):Bg st c=c:=by
 cases c<;>simp [AC.settled] at h<;>rfl
theorem ni {st st':St} {f:AC->AC} {l:Nat} (hH: ∀m,m≠l->Ad st'.heap m=(Ad st.heap m).map (OB.map f)) {c:AC} (hc: ∀k∈c.refs,k≠l):Bg st' c=Bg st c:=by
 cases c with
 |own k off len=>
  have hk:k≠l:=hc k (by simp [AC.refs])
  simp only [Bg,St.at,hH k hk]
  cases Ad st.heap k with
  |none=>rfl
  |some b=>cases b<;>rfl
 |Fq k=>
  have hk:k≠l:=hc k (by simp [AC.refs])
  simp only [Bg,St.at,hH k hk]
  cases Ad st.heap k with
  |none=>rfl
  |some b=>cases b<;>rfl
 |_=>rfl
theorem a5 {a:Act} : ∀(n:Nat) (st:St) (π:Pi) (cs:List AC) (us:List Value) (aH:List AC) (st':St),Af X π st a w->Cl X w π st.heap cs us->
  Dd n st cs=some (aH,st')-> ∃π',Af X π' st' a w/\Cl X w π' st'.heap aH us/\aH.all (·.settled)=true/\Fm π π' st.heap st'.heap/\aH=cs.map (Bg st)/\
   (∀k,k∈cs.flatMap AC.refs->Ad st'.heap k=none)
 |0,st,π,cs,us,aH,st',h,hr,he=>by
  simp only [Dd] at he
  split at he
  ·rename_i hs
   simp only [Option.some.injEq,Prod.mk.injEq] at he
   obtain ⟨rfl,rfl⟩:=he
   have zT:=List.all_eq_true.1 hs
   exact ⟨π,h,hr,hs,Fm.refl _ _,((List.map_congr_left λc hc=>Lm (zT c hc)).trans (List.map_id'' (λ_=>rfl) cs)).symm,λk hk=>by
    obtain ⟨c,hc,rj⟩:=List.mem_flatMap.1 hk
    have:=zT c hc
    cases c<;>simp [AC.settled] at this<;>simp [AC.refs] at rj⟩
  ·cases he
 |n+1,st,π,cs,us,aH,st',h,hr,he=>by
  simp only [Dd] at he
  have step: ∀(f:AC->AC) (l:Nat) (st1:St),Af X (Oe π l none) st1 a w->Move X w w π (Oe π l none) st.heap st1.heap f->Ad st1.heap l=none->(∀m,m≠l->Ad st1.heap m=(Ad st.heap m).map (OB.map f))->
    Fm π (Oe π l none) st.heap st1.heap->(∀c∈cs,(∀k∈c.refs,k≠l)->f c=c)->(∀c∈cs,l∈c.refs->(f c).refs= []/\(Bg st1 (f c)).settled=true->f c=Bg st c)->
    (∀c∈cs,l∈c.refs->(f c).refs= [])->Dd n st1 (cs.map f)=some (aH,st')->
    ∃π',Af X π' st' a w/\Cl X w π' st'.heap aH us/\aH.all (·.settled)=true/\Fm π π' st.heap st'.heap/\aH=cs.map (Bg st)/\(∀k,k∈cs.flatMap AC.refs->Ad st'.heap k=none):=by
   intro f l st1 h1 m hl hH hK UL UM KU he
   obtain ⟨π',h2,h3,h4,h5,h6,h7⟩:=a5 n st1 _ (cs.map f) us aH st' h1 (m.FD hr) he
   refine ⟨π',h2,h3,h4,hK.trans h5,?_,λk hk=>?_⟩
   ·rw [h6,List.map_map]
    refine List.map_congr_left λc hc=>?_
    simp only [Function.comp]
    by_cases Jw:l∈c.refs
    ·have Hf:=List.all_eq_true.1 h4
     have kP:Bg st1 (f c)∈aH:=by rw [h6];exact List.mem_map.2 ⟨f c,List.mem_map.2 ⟨c,hc,rfl⟩,rfl⟩
     have hs:=Hf _ kP
     have h8:=UM c hc Jw ⟨KU c hc Jw,hs⟩
     have h9:Bg st1 (f c)=f c:=by
      have:=KU c hc Jw
      cases XJ:f c<;>rw [XJ] at this<;>first|(simp [AC.refs] at this;done)|rfl
     rw [h9,h8]
    ·have Ev: ∀k∈c.refs,k≠l:= λk hk e=>Jw (e▸hk)
     rw [UL c hc Ev]
     exact ni hH Ev
   ·obtain ⟨c,hc,rj⟩:=List.mem_flatMap.1 hk
    by_cases Lt:k=l
    ·subst Lt;exact h5.gone hl
    ·by_cases Jw:l∈c.refs
     ·
      have Hf:=List.all_eq_true.1 h4
      have kP:Bg st1 (f c)∈aH:=by rw [h6];exact List.mem_map.2 ⟨f c,List.mem_map.2 ⟨c,hc,rfl⟩,rfl⟩
      have hs:=Hf _ kP
      have h8:=UM c hc Jw ⟨KU c hc Jw,hs⟩
      have h9:Bg st1 (f c)=f c:=by
       have:=KU c hc Jw
       cases XJ:f c<;>rw [XJ] at this<;>first|(simp [AC.refs] at this;done)|rfl
      rw [h9,h8] at hs
      cases c with
      |clo g Bp=>simp [Bg,AC.settled] at hs
      |own k' _ _=>simp [AC.refs] at Jw rj;exact absurd (rj.trans Jw.symm) Lt
      |Fq k'=>simp [AC.refs] at Jw rj;exact absurd (rj.trans Jw.symm) Lt
      |Dj k' _=>simp [AC.refs] at Jw rj;exact absurd (rj.trans Jw.symm) Lt
      |Fc k' _=>simp [AC.refs] at Jw rj;exact absurd (rj.trans Jw.symm) Lt
      |sub k' _ _=>simp [AC.refs] at Jw rj;exact absurd (rj.trans Jw.symm) Lt
      |Fa k' _ _=>simp [AC.refs] at Jw rj;exact absurd (rj.trans Jw.symm) Lt
      |_=>simp [AC.refs] at rj
     ·have Ev: ∀k∈c.refs,k≠l:= λk hk e=>Jw (e▸hk)
      exact h7 k (List.mem_flatMap.2 ⟨f c,List.mem_map.2 ⟨c,hc,rfl⟩,by rw [UL c hc Ev];exact rj⟩)
  have rn: ∀(st1:St) (c:AC),(Bg st1 c).settled=true->c≠ .undef:= λst1 c hs e=>by rw [e] at hs;simp [Bg,AC.settled] at hs
  split at he
  ·rename_i hf
   simp only [Option.some.injEq,Prod.mk.injEq] at he
   obtain ⟨rfl,rfl⟩:=he
   have zT: ∀c∈cs,c.settled=true:= λc hc=>by have:=List.find?_eq_none.1 hf c hc;simpa using this
   exact ⟨π,h,hr,List.all_eq_true.2 zT,Fm.refl _ _,((List.map_congr_left λc hc=>Lm (zT c hc)).trans (List.map_id'' (λ_=>rfl) cs)).symm,λk hk=>by
    obtain ⟨c,hc,rj⟩:=List.mem_flatMap.1 hk
    have:=zT c hc
    cases c<;>simp [AC.settled] at this<;>simp [AC.refs] at rj⟩
  ·rename_i l off len hf
   split at he
   ·rename_i fr tr e tid xs hl
    unfold St.at at hl
    obtain ⟨h1,m⟩:=h.freeze (fr:=fr) (.inl ⟨tr,tid,hl⟩)
    refine step _ l _ h1 m (St.Gl st l fr e xs) (λm hm=>St.Kj st l m fr e xs hm) (Fm.freeze st l fr e xs) (λc _ hc=>aS hc) (λc _ Jw hs=>?_) (λc _ Jw=>?_) he
    ·cases c with
     |own k o n=>have:k=l:=(List.mem_singleton.1 Jw).symm
                 subst this;simp only [At,if_pos,Bg,St.at,hl]
     |Dj k o=>have:k=l:=(List.mem_singleton.1 Jw).symm
              subst this;simp only [At,if_pos] at hs;exact absurd rfl (rn _ _ hs.2)
     |Fc k o=>have:k=l:=(List.mem_singleton.1 Jw).symm
              subst this;simp only [At,if_pos] at hs;exact absurd rfl (rn _ _ hs.2)
     |sub k o o2=>have:k=l:=(List.mem_singleton.1 Jw).symm
                  subst this;simp only [At,if_pos] at hs;exact absurd rfl (rn _ _ hs.2)
     |Fa k o o2=>have:k=l:=(List.mem_singleton.1 Jw).symm
                 subst this;simp only [At,if_pos] at hs;exact absurd rfl (rn _ _ hs.2)
     |Fq k=>have:k=l:=(List.mem_singleton.1 Jw).symm
            subst this;simp only [At,if_pos] at hs;exact absurd rfl (rn _ _ hs.2)
     |clo g Bp=>
      simp only [At] at hs
      rw [if_pos (by simpa [AC.refs] using Jw)] at hs
      exact absurd rfl (rn _ _ hs.2)
     |_=>simp [AC.refs] at Jw
    ·cases c with
     |own k o n=>have:k=l:=(List.mem_singleton.1 Jw).symm
                 subst this;simp only [At,if_pos];rfl
     |Dj k o=>have:k=l:=(List.mem_singleton.1 Jw).symm
              subst this;simp only [At,if_pos];rfl
     |Fc k o=>have:k=l:=(List.mem_singleton.1 Jw).symm
              subst this;simp only [At,if_pos];rfl
     |sub k o o2=>have:k=l:=(List.mem_singleton.1 Jw).symm
                  subst this;simp only [At,if_pos];rfl
     |Fa k o o2=>have:k=l:=(List.mem_singleton.1 Jw).symm
                 subst this;simp only [At,if_pos];rfl
     |Fq k=>have:k=l:=(List.mem_singleton.1 Jw).symm
            subst this;simp only [At,if_pos];rfl
     |clo g Bp=>simp only [At];rw [if_pos (by simpa [AC.refs] using Jw)];rfl
     |_=>simp [AC.refs] at Jw
   ·rename_i e tid xs hl
    unfold St.at at hl
    obtain ⟨h1,m⟩:=h.freeze (fr:=false) (.inr ⟨rfl,tid,hl⟩)
    refine step _ l _ h1 m (St.Gl st l false e xs) (λm hm=>St.Kj st l m false e xs hm) (Fm.freeze st l false e xs) (λc _ hc=>aS hc) (λc _ Jw hs=>?_) (λc _ Jw=>?_) he
    ·cases c with
     |own k o n=>have:k=l:=(List.mem_singleton.1 Jw).symm
                 subst this;simp only [At,if_pos,Bg,St.at,hl]
     |Dj k o=>have:k=l:=(List.mem_singleton.1 Jw).symm
              subst this;simp only [At,if_pos] at hs;exact absurd rfl (rn _ _ hs.2)
     |Fc k o=>have:k=l:=(List.mem_singleton.1 Jw).symm
              subst this;simp only [At,if_pos] at hs;exact absurd rfl (rn _ _ hs.2)
     |sub k o o2=>have:k=l:=(List.mem_singleton.1 Jw).symm
                  subst this;simp only [At,if_pos] at hs;exact absurd rfl (rn _ _ hs.2)
     |Fa k o o2=>have:k=l:=(List.mem_singleton.1 Jw).symm
                 subst this;simp only [At,if_pos] at hs;exact absurd rfl (rn _ _ hs.2)
     |Fq k=>have:k=l:=(List.mem_singleton.1 Jw).symm
            subst this;simp only [At,if_pos] at hs;exact absurd rfl (rn _ _ hs.2)
     |clo g Bp=>
      simp only [At] at hs
      rw [if_pos (by simpa [AC.refs] using Jw)] at hs
      exact absurd rfl (rn _ _ hs.2)
     |_=>simp [AC.refs] at Jw
    ·cases c with
     |own k o n=>have:k=l:=(List.mem_singleton.1 Jw).symm
                 subst this;simp only [At,if_pos];rfl
     |Dj k o=>have:k=l:=(List.mem_singleton.1 Jw).symm
              subst this;simp only [At,if_pos];rfl
     |Fc k o=>have:k=l:=(List.mem_singleton.1 Jw).symm
              subst this;simp only [At,if_pos];rfl
     |sub k o o2=>have:k=l:=(List.mem_singleton.1 Jw).symm
                  subst this;simp only [At,if_pos];rfl
     |Fa k o o2=>have:k=l:=(List.mem_singleton.1 Jw).symm
                 subst this;simp only [At,if_pos];rfl
     |Fq k=>have:k=l:=(List.mem_singleton.1 Jw).symm
            subst this;simp only [At,if_pos];rfl
     |clo g Bp=>simp only [At];rw [if_pos (by simpa [AC.refs] using Jw)];rfl
     |_=>simp [AC.refs] at Jw
   ·cases he
  ·rename_i l hf
   split at he
   ·rename_i v mm hl
    unfold St.at at hl
    obtain ⟨h1,m⟩:=h.Eb hl
    refine step _ l _ h1 m (St.Lh st l v mm) (λm hm=>St.Jy st l m v mm hm) (Fm.Eb st l v mm) (λc _ hc=>kE hc) (λc _ Jw hs=>?_) (λc _ Jw=>?_) he
    ·cases c with
     |Fq k=>have:k=l:=(List.mem_singleton.1 Jw).symm
            subst this;simp only [Cw,if_pos,Bg,St.at,hl]
     |Dj k o=>have:k=l:=(List.mem_singleton.1 Jw).symm
              subst this;simp only [Cw,if_pos] at hs;exact absurd rfl (rn _ _ hs.2)
     |Fc k o=>have:k=l:=(List.mem_singleton.1 Jw).symm
              subst this;simp only [Cw,if_pos] at hs;exact absurd rfl (rn _ _ hs.2)
     |sub k o o2=>have:k=l:=(List.mem_singleton.1 Jw).symm
                  subst this;simp only [Cw,if_pos] at hs;exact absurd rfl (rn _ _ hs.2)
     |Fa k o o2=>have:k=l:=(List.mem_singleton.1 Jw).symm
                 subst this;simp only [Cw,if_pos] at hs;exact absurd rfl (rn _ _ hs.2)
     |own k o n=>have:k=l:=(List.mem_singleton.1 Jw).symm
                 subst this;simp only [Cw,if_pos] at hs;exact absurd rfl (rn _ _ hs.2)
     |clo g Bp=>
      simp only [Cw] at hs
      rw [if_pos (by simpa [AC.refs] using Jw)] at hs
      exact absurd rfl (rn _ _ hs.2)
     |_=>simp [AC.refs] at Jw
    ·cases c with
     |own k o n=>have:k=l:=(List.mem_singleton.1 Jw).symm
                 subst this;simp only [Cw,if_pos];rfl
     |Dj k o=>have:k=l:=(List.mem_singleton.1 Jw).symm
              subst this;simp only [Cw,if_pos];rfl
     |Fc k o=>have:k=l:=(List.mem_singleton.1 Jw).symm
              subst this;simp only [Cw,if_pos];rfl
     |sub k o o2=>have:k=l:=(List.mem_singleton.1 Jw).symm
                  subst this;simp only [Cw,if_pos];rfl
     |Fa k o o2=>have:k=l:=(List.mem_singleton.1 Jw).symm
                 subst this;simp only [Cw,if_pos];rfl
     |Fq k=>have:k=l:=(List.mem_singleton.1 Jw).symm
            subst this;simp only [Cw,if_pos];rfl
     |clo g Bp=>simp only [Cw];rw [if_pos (by simpa [AC.refs] using Jw)];rfl
     |_=>simp [AC.refs] at Jw
   ·cases he
  ·cases he
def ak (X:Ctx) (w:World) (π:Pi) (F:List Nat):Prop:=F.Nodup/\ ∀b∈F,(X.w0.heap.size<=b\/X.gv b)/\b<w.heap.size/\ ∀l r,π l=some r-> ¬r.cl b
theorem Oy {S:Nat->Prop} : ∀(e:Ty) (es:List Value) (x:e.den),e.flat=true->Cells w S e es x->Az w [] e es x
 | .int k,cs,n,_,h=>⟨rfl,h⟩
 | .bool,cs,n,_,h=>⟨rfl,h⟩
 | .str,cs,n,_,h=>⟨rfl,h⟩
 | .unit,cs,n,_,h=>⟨rfl,h⟩
 | .pair a r,cs,x,hf,h=>by
  simp only [Ty.flat,Bool.and_eq_true] at hf
  simp only [Cells] at h
  simp only [Az]
  obtain ⟨c1,c2,h1,h2,h3⟩:=h
  exact ⟨c1,c2,[],[],h1,rfl,Oy a c1 x.1 hf.1 h2,Oy r c2 x.2 hf.2 h3⟩
 | .slice _,_,_,hf,_=>by simp [Ty.flat] at hf
 | .oslice _,_,_,hf,_=>by simp [Ty.flat] at hf
 | .ptr _,_,_,hf,_=>by simp [Ty.flat] at hf
 | .optr _,_,_,hf,_=>by simp [Ty.flat] at hf
 | .smap _,_,_,hf,_=>by simp [Ty.flat] at hf
 | .clo _ _,_,_,hf,_=>by simp [Ty.flat] at hf
theorem Kt {Fs:List (List Nat)} (off len:Nat) (b:Nat) (h:b∈List.flatten ((Fs.drop off).take len)):b∈List.flatten Fs:=by
 obtain ⟨F,hF,hb⟩:=List.mem_flatten.1 h
 exact List.mem_flatten.2 ⟨F,List.mem_of_mem_drop (List.mem_of_mem_take hF),hb⟩
theorem a8 {α:Type} {a b:List (List α)} (h:a.Sublist b):(List.flatten a).Sublist (List.flatten b):=by
 induction h with
 |slnil=>exact List.Sublist.refl _
 |cons c _ ih=>simp only [List.flatten_cons];exact ih.trans (List.sublist_append_right _ _)
 |cons_cons c _ ih=>simp only [List.flatten_cons];exact List.Sublist.append (List.Sublist.refl _) ih
theorem e8 {Fs:List (List Nat)} (off len:Nat) (h:(List.flatten Fs).Nodup):(List.flatten ((Fs.drop off).take len)).Nodup:=by
 have h1:((Fs.drop off).take len).Sublist Fs:=(List.take_sublist len _).trans (List.drop_sublist off Fs)
 exact h.sublist (a8 h1)
theorem cw {P:Nat->Prop} {r:Real} {off len:Nat} {v:Value} {e:Ty} {tid:TypeId} {xs:List e.den} {cur:Array Value} (h2:w.heap[r.g]?=some (.cells cur tid (0,0))) (Od:cur.size=(r.o+r.cap)*e.size) (kK:r.cap<=maxLen)
  (hlen:off+len<=xs.length) (hv:Di (some r) e.size off len v) (ht:Ol w P r.g r.o cur e xs) (hg:P r.g):
  ∃F,Az w F (.slice e) [v] ((xs.drop off).take len)/\F.Nodup/\ ∀b∈F,P b:=by
 have EW:((xs.drop off).take len).length=len:=by simp;omega
 obtain ⟨ad,rfl,hc,ha⟩:=hv
 obtain ⟨Fs,t1,t2,t3,t4⟩:=ht
 ·refine ⟨r.g::List.flatten ((Fs.drop off).take len),⟨some ad,len,r.cap-off,rfl,EW.symm,by omega, .inr ⟨ad,r.g,(r.o+off)*e.size,_,rfl,λh0=>ha (by omega),⟨cur,tid,r.o+off,h2,rfl,by rw [Od];congr 1;omega,by omega⟩,rfl,by simp;omega,λi x F hx hF=>?_⟩⟩,?_,λb hb=>?_⟩
  ·have hi:i<len:=by
    have:=(List.getElem?_eq_some_iff.1 hx).1
    rw [EW] at this;exact this
   have MC:xs[off+i]?=some x:=by rw [List.getElem?_take,if_pos hi,List.getElem?_drop] at hx;exact hx
   have PK:Fs[off+i]?=some F:=by rw [List.getElem?_take,if_pos hi,List.getElem?_drop] at hF;exact hF
   obtain ⟨es,he,hj,pz⟩:=t4 (off+i) x F MC PK
   refine ⟨es,he,λj u hu=>?_,pz⟩
   rw [cellOf h2]
   have:=hj j u hu
   rw [<-this]
   congr 1
   rw [<-Nat.add_assoc,Nat.add_mul (r.o+off) i]
  ·have:=List.nodup_cons.1 t2
   exact List.nodup_cons.2 ⟨λhm=>this.1 (Kt off len _ hm),e8 off len this.2⟩
  ·rcases List.mem_cons.1 hb with rfl|hb
   ·exact hg
   ·exact t3 b (Kt off len b hb)
theorem fV {st:St} (h:Hb X w π st.heap) {c:AC} {v:Value} (hc:Dk X w π st.heap c v) (ht:Kp st c=true) (τ:Ty) (fr:Bool) (x:τ.den) (Lu:τ.Ab=false) (yt:τ.tree=true)
  (hv:Bh st τ (Bg st c)=some (fr,x)): ∃F,Az w F τ [v] x/\F.Nodup/\ ∀b∈F,∃l r,l∈c.refs/\π l=some r/\r.cl b:=by
 cases c with
 |data Nj Ie y=>
  simp only [Kp] at ht
  simp only [Bg,Hr] at hv
  split at hv
  ·rename_i he;subst he
   simp only [Option.some.injEq,Prod.mk.injEq] at hv
   obtain ⟨_,rfl⟩:=hv
   exact ⟨[],Oy Ie _ _ ht (Aw.Km Lu hc),List.nodup_nil,λb hb=>by cases hb⟩
  ·unfold aG at hv
   split at hv
   ·simp [Ty.flat] at ht
   ·simp [Ty.flat] at ht
   ·cases hv
 |Gw=>
  have hc:v= .slice none 0 0:=hc
  subst hc
  cases τ with
  |slice e=>
   simp only [Bg,Bh,Option.some.injEq,Prod.mk.injEq] at hv
   obtain ⟨_,rfl⟩:=hv
   exact ⟨[],⟨none,0,0,rfl,rfl,Nat.le_refl _, .inl ⟨rfl,rfl,rfl,rfl⟩⟩,List.nodup_nil,λb hb=>by cases hb⟩
  |oslice e=>simp [Ty.tree] at yt
  |_=>simp [Bg,Bh] at hv
 |own l off len=>
  simp only [Kp] at ht
  split at ht
  ·rename_i Nj tr e tid xs hl
   have Ic:=hl
   unfold St.at at hl
   simp only [Bg,Ic,Hr] at hv
   split at hv
   ·rename_i he;subst he
    simp only [Option.some.injEq,Prod.mk.injEq] at hv
    obtain ⟨_,rfl⟩:=hv
    obtain ⟨h2,h3⟩:=Ij hc hl
    have hb:=(h.heap l).La hl
    simp only [Ao,Ew] at hb
    cases hp:π l with
    |none=>
     rw [hp] at h3
     obtain ⟨rfl,rfl,rfl⟩:=h3
     exact ⟨[],⟨none,0,0,rfl,by simp,Nat.le_refl _, .inl ⟨by simp,rfl,rfl,rfl⟩⟩,List.nodup_nil,λb hb=>by cases hb⟩
    |some r=>
     rw [hp] at hb h3
     obtain ⟨k1,cur,_,k2,k3,k4,k5,k6,k7⟩:=hb
     have xG:Ol w r.cl r.g r.o cur e xs:=by
      simp only [Bool.or_eq_true] at ht
      rcases ht with ht|ht
      ·exact k7 ht
      ·refine ⟨List.replicate xs.length [],by simp,by simp,by simp,λi x F hx hF=>?_⟩
       obtain ⟨es,e1,e2,e3⟩:=k6 i x hx
       have:F= []:=by
        have:=List.mem_of_getElem? hF
        exact List.eq_of_mem_replicate this
       subst this
       exact ⟨es,e1,e2,Oy e es x ht e3⟩
     obtain ⟨F,f1,f2,f3⟩:=cw k2 k3 k4 h2 h3 xG (h.sub l r _ hp k1.1)
     exact ⟨F,f1,f2,λb hb=>⟨l,r,by simp [AC.refs],hp,f3 b hb⟩⟩
   ·cases τ<;>simp [aG] at hv
  ·rename_i e tid xs hl
   have Ic:=hl
   unfold St.at at hl
   simp only [Bg,Ic,Hr] at hv
   split at hv
   ·rename_i he;subst he
    simp only [Option.some.injEq,Prod.mk.injEq] at hv
    obtain ⟨_,rfl⟩:=hv
    obtain ⟨h2,h3⟩:=Tv hc hl
    have hb:=(h.heap l).La hl
    simp only [Ao,Hs] at hb
    cases hp:π l with
    |none=>
     rw [hp] at h3
     obtain ⟨rfl,rfl,rfl⟩:=h3
     exact ⟨[],⟨none,0,0,rfl,by simp,Nat.le_refl _, .inl ⟨by simp,rfl,rfl,rfl⟩⟩,List.nodup_nil,λb hb=>by cases hb⟩
    |some r=>
     rw [hp] at hb h3
     obtain ⟨k1,cur,_,k2,k3,k4,k5,k7⟩:=hb
     obtain ⟨F,f1,f2,f3⟩:=cw k2 k3 k4 h2 h3 k7 k1
     exact ⟨F,f1,f2,λb hb=>⟨l,r,by simp [AC.refs],hp,h.sub l r b hp (f3 b hb)⟩⟩
   ·cases τ<;>simp [aG] at hv
  ·cases ht
 |_=>simp [Kp] at ht
theorem Pg: ∀ {l:List Nat},Rd l=true->l.Nodup
 | [],_=>List.nodup_nil
 |a::r,h=>by
  simp only [Rd,Bool.and_eq_true,Bool.not_eq_true',List.contains_eq_mem,decide_eq_false_iff_not] at h
  exact List.nodup_cons.2 ⟨h.1,Pg h.2⟩
theorem Sk {st st':St} {τ:Ty} {c:AC} (h:c.settled=true):Bh st' τ c=Bh st τ c:=by
 cases c<;>simp [AC.settled] at h<;>cases τ<;>rfl
theorem ny {st st':St} (h:Hb X w π st.heap): ∀(τ:Ty) (cs:List AC) (us:List Value) (fr:Bool) (x:τ.den),Cl X w π st.heap cs us->cs.all (Kp st)=true->(cs.flatMap AC.refs).Nodup->
  (cs.map (Bg st)).all (·.settled)=true->τ.tree=true->Cg st' τ (cs.map (Bg st))=some (fr,x)-> ∃F,Az w F τ us x/\F.Nodup/\ ∀b∈F,∃l r,l∈cs.flatMap AC.refs/\π l=some r/\r.cl b:=by
 have one: ∀(τ:Ty) (cs:List AC) (us:List Value) (fr:Bool) (x:τ.den),τ.Ab=false->Cl X w π st.heap cs us->cs.all (Kp st)=true->
   (cs.map (Bg st)).all (·.settled)=true->τ.tree=true->Cg st' τ (cs.map (Bg st))=some (fr,x)-> ∃F,Az w F τ us x/\F.Nodup/\ ∀b∈F,∃l r,l∈cs.flatMap AC.refs/\π l=some r/\r.cl b:=by
  intro τ cs us fr x Lu hr ht hs Ng hv
  rw [Lz Lu] at hv
  rcases cs with _|⟨c,_|⟨d,cs⟩⟩
  ·cases hv
  ·simp only [List.map_cons,List.map_nil] at hv
   obtain ⟨u,hu,_,hc⟩:=hr.2 0 c rfl
   have hl:us.length=1:=hr.1
   obtain ⟨u',rfl⟩:=List.length_eq_one_iff.1 hl
   simp at hu;subst hu
   rw [Sk (st:=st) (by simpa using hs)] at hv
   obtain ⟨F,f1,f2,f3⟩:=fV h hc (by simpa using ht) τ fr x Lu Ng hv
   exact ⟨F,f1,f2,λb hb=>by obtain ⟨l,r,g1,g2⟩:=f3 b hb;exact ⟨l,r,by simpa using g1,g2⟩⟩
  ·cases hv
 intro τ
 induction τ with
 |unit=>
  intro cs us fr x hr ht hd hs Ng hv
  cases cs with
  |nil=>have:us= []:=List.eq_nil_of_length_eq_zero hr.1;subst this;exact ⟨[],⟨rfl,rfl⟩,List.nodup_nil,λb hb=>by cases hb⟩
  |cons c cs=>simp [Cg] at hv
 |pair a r ey cf=>
  intro cs us fr x hr ht hd hs Ng hv
  simp only [Ty.tree,Bool.and_eq_true] at Ng
  simp only [Cg] at hv
  split at hv
  ·rename_i f1 y f2 z h1 h2
   simp only [Option.some.injEq,Prod.mk.injEq] at hv
   obtain ⟨rfl,rfl⟩:=hv
   have GK:Cl X w π st.heap (cs.take a.size) (us.take a.size):=by have:=Qv hr 0 a.size;simpa using this
   have JI:Cl X w π st.heap (cs.drop a.size) (us.drop a.size):=
    ⟨by simp [hr.1],λi c hc=>by
     rw [List.getElem?_drop] at hc⊢
     exact hr.2 _ c hc⟩
   have TG: ∀ {p:AC->Bool} {l:List AC} (n:Nat),l.all p=true->(l.take n).all p=true:= λn hl=>List.all_eq_true.2 λc hc=>List.all_eq_true.1 hl c (List.mem_of_mem_take hc)
   have TH: ∀ {p:AC->Bool} {l:List AC} (n:Nat),l.all p=true->(l.drop n).all p=true:= λn hl=>List.all_eq_true.2 λc hc=>List.all_eq_true.1 hl c (List.mem_of_mem_drop hc)
   have hdd:((cs.take a.size++cs.drop a.size).flatMap AC.refs).Nodup:=by rw [List.take_append_drop];exact hd
   rw [List.flatMap_append] at hdd
   obtain ⟨d1,d2,d3⟩:=List.nodup_append.1 hdd
   rw [<-List.map_take] at h1
   rw [<-List.map_drop] at h2
   obtain ⟨F1,t1,n1,c1⟩:=ey _ _ f1 y GK (TG _ ht) d1 (by rw [List.map_take];exact TG _ hs) Ng.1 h1
   obtain ⟨F2,t2,n2,c2⟩:=cf _ _ f2 z JI (TH _ ht) d2 (by rw [List.map_drop];exact TH _ hs) Ng.2 h2
   refine ⟨F1++F2,⟨us.take a.size,us.drop a.size,F1,F2,(List.take_append_drop _ _).symm,rfl,t1,t2⟩,List.nodup_append.2 ⟨n1,n2,λb hb b' mj e=>?_⟩,λb hb=>?_⟩
   ·subst e
    obtain ⟨l1,r1,g1,g2,g3⟩:=c1 b hb
    obtain ⟨l2,r2,g4,g5,g6⟩:=c2 b mj
    exact d3 l1 g1 l2 g4 (h.inj l1 l2 r1 r2 b g2 g5 g3 g6)
   ·have Hf: ∀l,(l∈(cs.take a.size).flatMap AC.refs\/l∈(cs.drop a.size).flatMap AC.refs)->l∈cs.flatMap AC.refs:= λl hl=>by
     rw [<-List.mem_append,<-List.flatMap_append,List.take_append_drop] at hl;exact hl
    rcases List.mem_append.1 hb with hb|hb
    ·obtain ⟨l1,r1,g1,g2⟩:=c1 b hb;exact ⟨l1,r1,Hf l1 (.inl g1),g2⟩
    ·obtain ⟨l1,r1,g1,g2⟩:=c2 b hb;exact ⟨l1,r1,Hf l1 (.inr g1),g2⟩
  ·cases hv
 |_=>exact λcs us fr x hr ht _ hs Ng hv=>one _ cs us fr x rfl hr ht hs Ng hv
theorem xm {π':Pi} {st st':St} {a:Act} (h:Af X π st a w) (h':Af X π' st' a w) (k:Fm π π' st.heap st'.heap) {ls:List Nat} (hg: ∀l∈ls,Ad st'.heap l=none) {F:List Nat} (hF:F.Nodup)
  (hc: ∀b∈F,∃l r,l∈ls/\π l=some r/\r.cl b):ak X w π' F:=by
 refine ⟨hF,λb hb=>?_⟩
 obtain ⟨l,r,h1,h2,h3⟩:=hc b hb
 have hp:=h.1.place l r b h2 h3
 refine ⟨hp.1,hp.2,λl2 r2 h4 h5=>?_⟩
 cases hh:Ad st'.heap l2 with
 |none=>rw [(h'.1.heap l2).emp hh] at h4;cases h4
 |some b'=>
  have h6:=(k l2 b' hh).1
  rw [h6] at h4
  have:=h.1.inj l l2 r r2 b h2 h4 h3 h5
  subst this
  rw [hg l h1] at hh;cases hh
theorem Tw {st:St} {a:Act} (h:Af X π st a w) {c:AV} {v:Value} (hc:Ak X w π st.heap c v) {c':AV} {st':St} (he:settle st c=some (c',st')):
  ∃π',Af X π' st' a w/\Ak X w π' st'.heap c' v/\c'.settled=true/\Fm π π' st.heap st'.heap/\
   (Lo st c=true-> ∀(τ:Ty) (fr:Bool) (x:τ.den),τ.tree=true->Ci st' τ c'=some (fr,x)-> ∃F us,Az w F τ us x/\v=Am τ us/\ak X w π' F/\ ∀b∈F,∃l r,π l=some r/\r.cl b):=by
 have cell: ∀(a0:AC) (st':St) (π':Pi),Dk X w π st.heap a0 v->Af X π' st' a w->(Bg st a0).settled=true->Fm π π' st.heap st'.heap->(∀l∈a0.refs,Ad st'.heap l=none)->
   Kp st a0=true-> ∀(τ:Ty) (fr:Bool) (x:τ.den),τ.tree=true->Ci st' τ (.at (Bg st a0))=some (fr,x)-> ∃F us,Az w F τ us x/\v=Am τ us/\ak X w π' F/\ ∀b∈F,∃l r,π l=some r/\r.cl b:=by
  intro a0 st1 Uc hr h1 hs hk hg ht τ fr x Ng hv
  by_cases Lu:τ.Ab=true
  ·
   cases sx:Bg st a0 with
   |data Nj Ie y=>
    rw [sx,Uz] at hv
    split at hv
    ·rename_i het;subst het
     simp only [Option.some.injEq,Prod.mk.injEq] at hv
     obtain ⟨_,rfl⟩:=hv
     cases a0 with
     |data jI τ2 z=>
      simp only [Bg,AC.data.injEq] at sx
      obtain ⟨rfl,rfl,hz⟩:=sx
      have hz:=eq_of_heq hz
      subst hz
      obtain ⟨cs,pz,rfl⟩:=hr
      exact ⟨[],cs,Oy _ cs _ ht pz,rfl,⟨List.nodup_nil,λb hb=>by cases hb⟩,λb hb=>by cases hb⟩
     |own l off len=>
      simp only [Bg] at sx
      split at sx
      ·simp only [AC.data.injEq] at sx;obtain ⟨_,h2,_⟩:=sx;subst h2;simp [Ty.Ab] at Lu
      ·simp only [AC.data.injEq] at sx;obtain ⟨_,h2,_⟩:=sx;subst h2;simp [Ty.Ab] at Lu
      ·cases sx
     |Fq l=>simp [Kp] at ht
     |_=>simp [Bg] at sx
    ·cases hv
   |_=>rw [sx] at hv;simp only [Ci,Lu,if_true] at hv;cases hv
  ·simp only [Bool.not_eq_true] at Lu
   have ux:Bh st τ (Bg st a0)=some (fr,x):=by
    rw [<-Sk (st:=st) (st':=st1) hs]
    cases sx:Bg st a0 with
    |data Nj Ie y=>
     rw [sx,Uz] at hv
     rw [Hr]
     split at hv
     ·rename_i het;rw [dif_pos het];exact hv
     ·rename_i het
      rw [dif_neg het]
      simp only [Lu,Bool.false_eq_true,if_false,qV,Hr] at hv
      rw [dif_neg het] at hv
      exact hv
    |Gw=>rw [sx] at hv;simp only [Ci,Lu,Bool.false_eq_true,if_false] at hv;rw [Jo rfl] at hv;exact hv
    |Pf=>rw [sx] at hv;simp only [Ci,Lu,Bool.false_eq_true,if_false] at hv;rw [Jo rfl] at hv;exact hv
    |_=>rw [sx] at hs;simp [AC.settled] at hs
   obtain ⟨F,f1,f2,f3⟩:=fV h.1 hr ht τ fr x Lu Ng ux
   exact ⟨F,[v],f1,by simp [Am,Lu],xm h h1 hk hg f2 f3,λb hb=>let ⟨l,r,_,q⟩:=f3 b hb;⟨l,r,q⟩⟩
 unfold settle at he
 split at he
 ·rename_i l off len
  split at he
  ·rename_i fr tr e tid xs hl
   simp only [Option.some.injEq,Prod.mk.injEq] at he
   obtain ⟨rfl,rfl⟩:=he
   obtain ⟨h1,m⟩:=h.freeze (fr:=fr) (.inl ⟨tr,tid,hl⟩)
   have:=m.ac (.own l off len) v hc
   simp only [At,if_true] at this
   have jN:Bg st (.own l off len)= .data fr (.slice e) ((xs.drop off).take len):=by simp only [Bg,hl]
   refine ⟨_,h1,this,rfl,Fm.freeze st l fr e xs,λht=>?_⟩
   have:=cell (.own l off len) _ _ hc h1 (by rw [jN];rfl) (Fm.freeze st l fr e xs) (λk hk=>by rw [List.mem_singleton.1 hk];exact St.Gl st l fr e xs) ht
   rw [jN] at this
   exact this
  ·rename_i e tid xs hl
   simp only [Option.some.injEq,Prod.mk.injEq] at he
   obtain ⟨rfl,rfl⟩:=he
   obtain ⟨h1,m⟩:=h.freeze (fr:=false) (.inr ⟨rfl,tid,hl⟩)
   have:=m.ac (.own l off len) v hc
   simp only [At,if_true] at this
   have jN:Bg st (.own l off len)= .data false (.slice e) ((xs.drop off).take len):=by simp only [Bg,hl]
   refine ⟨_,h1,this,rfl,Fm.freeze st l false e xs,λht=>?_⟩
   have:=cell (.own l off len) _ _ hc h1 (by rw [jN];rfl) (Fm.freeze st l false e xs) (λk hk=>by rw [List.mem_singleton.1 hk];exact St.Gl st l false e xs) ht
   rw [jN] at this
   exact this
  ·cases he
 ·rename_i l
  split at he
  ·rename_i vt mm hl
   simp only [Option.some.injEq,Prod.mk.injEq] at he
   obtain ⟨rfl,rfl⟩:=he
   obtain ⟨h1,m⟩:=h.Eb hl
   have:=m.ac (.Fq l) v hc
   simp only [Cw,if_true] at this
   exact ⟨_,h1,this,rfl,Fm.Eb st l vt mm,λht=>by simp [Lo,Kp] at ht⟩
  ·cases he
 ·rename_i a0 _ _
  split at he
  ·rename_i hs
   simp only [Option.some.injEq,Prod.mk.injEq] at he
   obtain ⟨rfl,rfl⟩:=he
   refine ⟨π,h,hc,hs,Fm.refl _ _,λht=>?_⟩
   have jN:=Lm (st:=st) hs
   have:=cell a0 st π hc h (by rw [jN];exact hs) (Fm.refl _ _) (λk hk=>by
    cases a0<;>simp [AC.settled] at hs<;>simp [AC.refs] at hk) ht
   rw [jN] at this
   exact this
  ·cases he
 ·rename_i cs
  cases YY:Dd cs.length st cs with
  |none=>rw [YY] at he;cases he
  |some p=>
   rw [YY] at he
   simp only [Option.map_some,Option.some.injEq,Prod.mk.injEq] at he
   obtain ⟨rfl,rfl⟩:=he
   obtain ⟨us,rfl,hr⟩:=hc
   obtain ⟨π',h2,h3,h4,h5,h6,h7⟩:=a5 cs.length st π cs us p.1 p.2 h hr YY
   refine ⟨π',h2,⟨us,rfl,h3⟩,h4,h5,λht τ fr x Ng hv=>?_⟩
   simp only [Lo,Bool.and_eq_true] at ht
   simp only [Ci] at hv
   split at hv
   ·rename_i Lu
    rw [h6] at hv h4
    obtain ⟨F,f1,f2,f3⟩:=ny h.1 τ cs us fr x hr ht.1 (Pg ht.2) h4 Ng hv
    exact ⟨F,us,f1,by simp [Am,Lu],xm h h2 h5 h7 f2 f3,λb hb=>let ⟨l,r,_,q⟩:=f3 b hb;⟨l,r,q⟩⟩
   ·cases hv
 ·simp only [Option.some.injEq,Prod.mk.injEq] at he
  obtain ⟨rfl,rfl⟩:=he
  exact ⟨π,h,hc,rfl,Fm.refl _ _,λht=>by simp [Lo] at ht⟩
 ·cases he
theorem au {o i j s p:Nat} (Ev:i≠j) (hp:p<s):(o+i)*s+p<(o+j)*s\/(o+j)*s+s<=(o+i)*s+p:=by
 rcases Nat.lt_or_gt_of_ne Ev with h|h
 ·left
  have:(o+i+1)*s<=(o+j)*s:=Nat.mul_le_mul_right _ (by omega)
  rw [Nat.add_mul,Nat.one_mul] at this
  omega
 ·right
  have:(o+j+1)*s<=(o+i)*s:=Nat.mul_le_mul_right _ (by omega)
  rw [Nat.add_mul,Nat.one_mul] at this
  omega
theorem Ds {α:Type} (l ys:List α) (i k:Nat) (h:i+ys.length<=l.length):(Bk l i ys)[k]?=if k<i then l[k]? else if k<i+ys.length then ys[k-i]? else l[k]?:=by
 unfold Bk
 have t1:(l.take i).length=i:=by simp;omega
 split
 ·rename_i hk
  rw [List.append_assoc,List.getElem?_append_left (by omega),List.getElem?_take,if_pos hk]
 ·split
  ·rename_i hk
   rw [List.append_assoc,List.getElem?_append_right (by omega),t1,List.getElem?_append_left (by omega)]
  ·rw [List.getElem?_append_right (by simp;omega),List.getElem?_drop]
   congr 1
   simp;omega
theorem Eg {α:Type} (l ys:List α) (i:Nat) (h:i+ys.length<=l.length):(Bk l i ys).length=l.length:=by
 unfold Bk;simp;omega
theorem qI (hT:Bu P T) {st:St} {a:Act} (h:Af X π st a w) {t:TypeId} {e:Ty} (ht:T.ty t=some e) {l j:Nat} {r:Real} {vx:Value} {tid:TypeId} {fr Nj:Bool} {xs:List e.den} {x:e.den}
  (hp:π l=some r) {tr:Bool} (hl:Ad st.heap l=some (.arr fr tr e tid xs)) (hj:j<xs.length) (hx:Aw w (Ay X.w0.heap.size X.Sc π Nj) e vx x):
  ∃w',(Instr.storeAt t (.pointer (some ⟨r.g,(r.o+j)*e.size,none⟩)) vx).run P w= .ok () w'/\Af X π (st.Ff l (.arr (fr&&Nj) false e tid (xs.set j x))) a w':=by
 have hb:=(h.1.heap l).La hl
 simp only [Ao,Ew,hp] at hb
 obtain ⟨h1,cur,ti,h2,h3,h4,h5,h6,_⟩:=hb
 obtain ⟨es,Xf,hv⟩:=hx
 have fb:=Cells.len e es x Xf
 have Pb:(r.o+j)*e.size+es.length<=cur.size:=by
  have:(r.o+j+1)*e.size<=(r.o+r.cap)*e.size:=Nat.mul_le_mul_right _ (by omega)
  rw [Nat.add_mul (r.o+j) 1,Nat.one_mul] at this
  omega
 have Qp:(r.o+j)*e.size+es.length<=cur.toList.length:=by simpa using Pb
 have Nc:=Nw (P:=P) (w:=w) (hT.ty _ _ ht) r.g ((r.o+j)*e.size) vx es (by rw [hv];exact Ft e es x Xf) fb (Cells.plain e es x Xf) cur ti h2 Pb
 refine ⟨_,by simp only [Instr.storeAt,Instr.sureAddr];simpa using Nc,?_⟩
 refine h.set hl (b:= .arr (fr&&Nj) false e tid (xs.set j x)) ⟨rfl,by simp⟩ (by rw [hp];exact Hl w r.g _) λm=>?_
 simp only [Ao,Ew,hp]
 refine ⟨⟨h1.1,h1.2.1,λhf=>h1.2.2 (by simp only [Bool.and_eq_true] at hf;exact hf.1)⟩,_,_,setRow_heap w r.g cur _ ti _ h2,by rw [List.size_toArray,Eg _ _ _ Qp];simpa using h3,h4,by simpa using h5,λi y hy=>?_,λhf=>by cases hf⟩
 rw [List.getElem?_set] at hy
 split at hy
 ·rename_i mE;subst mE
  simp only [Option.some.injEq] at hy;subst hy
  refine ⟨es,fb,λk u hu=>?_,(m.cells Nj e es x Xf).and_right⟩
  have hk:k<es.length:=(List.getElem?_eq_some_iff.1 hu).1
  rw [List.getElem?_toArray,Ds _ _ _ _ Qp,if_neg (by omega),if_pos (by omega)]
  rw [show (r.o+j)*e.size+k-(r.o+j)*e.size=k by omega];exact hu
 ·rename_i mE
  obtain ⟨fZ,ES,ew,sq⟩:=h6 i y hy
  refine ⟨fZ,ES,λk u hu=>?_,(m.cells fr e fZ y sq).and_left⟩
  have hk:k<fZ.length:=(List.getElem?_eq_some_iff.1 hu).1
  have:=ew k u hu
  rw [List.getElem?_toArray,Ds _ _ _ _ Qp]
  rcases au (o:=r.o) (i:=i) (j:=j) (s:=e.size) (p:=k) (Ne.symm mE) (by omega) with Gu|mD
  ·rw [if_pos Gu];simpa using this
  ·rw [if_neg (by omega),if_neg (by omega)];simpa using this
theorem cZ: ∀(Fs:List (List Nat)) (i:Nat) (F':List Nat),(List.flatten Fs).Nodup->F'.Nodup->(∀b∈F',b∉List.flatten Fs)->(List.flatten (Fs.set i F')).Nodup/\ ∀b∈List.flatten (Fs.set i F'),b∈List.flatten Fs\/b∈F'
 | [],i,F',_,_,_=>by simp
 |G::Fs,0,F',hn,jM,hs=>by
  simp only [List.set_cons_zero,List.flatten_cons] at hn hs⊢
  obtain ⟨n1,n2,n3⟩:=List.nodup_append.1 hn
  refine ⟨List.nodup_append.2 ⟨jM,n2,λa ha b hb e=>hs a ha (List.mem_append_right _ (e▸hb))⟩,λb hb=>?_⟩
  rcases List.mem_append.1 hb with hb|hb
  ·exact .inr hb
  ·exact .inl (List.mem_append_right _ hb)
 |G::Fs,i+1,F',hn,jM,hs=>by
  simp only [List.set_cons_succ,List.flatten_cons] at hn hs⊢
  obtain ⟨n1,n2,n3⟩:=List.nodup_append.1 hn
  obtain ⟨m1,m2⟩:=cZ Fs i F' n2 jM λb hb hm=>hs b hb (List.mem_append_right _ hm)
  refine ⟨List.nodup_append.2 ⟨n1,m1,λa ha b hb e=>?_⟩,λb hb=>?_⟩
  ·subst e
   rcases m2 a hb with h|h
   ·exact n3 a ha a h rfl
   ·exact hs a h (List.mem_append_left _ ha)
  ·rcases List.mem_append.1 hb with hb|hb
   ·exact .inl (List.mem_append_left _ hb)
   ·exact (m2 b hb).imp (List.mem_append_right _) id
theorem nv (hT:Bu P T) {st:St} {a:Act} (h:Af X π st a w) {t:TypeId} {e:Ty} (ht:T.ty t=some e) {l j:Nat} {r:Real} {vx:Value} {tid:TypeId} {fr Nj:Bool} {xs:List e.den} {x:e.den}
  (hp:π l=some r) (hl:Ad st.heap l=some (.arr fr true e tid xs)) (hj:j<xs.length) (hx:Aw w (Ay X.w0.heap.size X.Sc π Nj) e vx x) {F:List Nat} {us:List Value} (hF:Az w F e us x) (BO:vx=Am e us) (fc:ak X w π F):
  ∃w',(Instr.storeAt t (.pointer (some ⟨r.g,(r.o+j)*e.size,none⟩)) vx).run P w= .ok () w'/\Af X (Oe π l (some (r.plus F))) (st.Ff l (.arr (fr&&Nj) true e tid (xs.set j x))) a w':=by
 have hb:=(h.1.heap l).La hl
 simp only [Ao,Ew,hp] at hb
 obtain ⟨h1,cur,ti,h2,h3,h4,h5,h6,h7⟩:=hb
 obtain ⟨Fs,t1,t2,t3,t4⟩:=h7 trivial
 obtain ⟨es,Xf,hv⟩:=hx
 have fb:=Cells.len e es x Xf
 have ZF:us=es:=by
  have c1:=Ft e us x (Az.cells (S:= λ_=>False) F e us x hF λ_ _ h=>h)
  have c2:=Ft e es x Xf
  rw [<-BO,hv,c2] at c1
  simpa using c1.symm
 subst ZF
 have Pb:(r.o+j)*e.size+us.length<=cur.size:=by
  have:(r.o+j+1)*e.size<=(r.o+r.cap)*e.size:=Nat.mul_le_mul_right _ (by omega)
  rw [Nat.add_mul (r.o+j) 1,Nat.one_mul] at this
  omega
 have Qp:(r.o+j)*e.size+us.length<=cur.toList.length:=by simpa using Pb
 have Nc:=Nw (P:=P) (w:=w) (hT.ty _ _ ht) r.g ((r.o+j)*e.size) vx us (by rw [hv];exact Ft e us x Xf) fb (Cells.plain e us x Xf) cur ti h2 Pb
 have Of:r.cl r.g:=h.1.sub l r _ hp h1.1
 have QT: ∀b∈F,b≠r.g:= λb hb e=>(fc.2 b hb).2.2 l r hp (e▸Of)
 have xB:=cZ Fs j F (List.nodup_cons.1 t2).2 fc.1 λb hb hm=>(fc.2 b hb).2.2 l r hp (t3 b hm)
 refine ⟨_,by simp only [Instr.storeAt,Instr.sureAddr];simpa using Nc,?_⟩
 refine h.ZV hl (b:= .arr (fr&&Nj) true e tid (xs.set j x)) ⟨rfl,by simp⟩ hp (λc hc=>⟨(fc.2 c hc).1,(fc.2 c hc).2.1,λm r0 _=>(fc.2 c hc).2.2 m r0⟩) (Hl w r.g _) λm=>?_
 simp only [Ao,Ew]
 have cell: ∀(i:Nat) (fZ:List Value),i≠j->fZ.length=e.size->(∀k u,fZ[k]?=some u->cur[(r.o+i)*e.size+k]?=some u)-> ∀k u,fZ[k]?=some u->(Bk cur.toList ((r.o+j)*e.size) us).toArray[(r.o+i)*e.size+k]?=some u:=by
  intro i fZ dR ES ew k u hu
  have hk:k<fZ.length:=(List.getElem?_eq_some_iff.1 hu).1
  have:=ew k u hu
  rw [List.getElem?_toArray,Ds _ _ _ _ Qp]
  rcases au (o:=r.o) (i:=i) (j:=j) (s:=e.size) (p:=k) dR (by omega) with Gu|mD
  ·rw [if_pos Gu];simpa using this
  ·rw [if_neg (by omega),if_neg (by omega)];simpa using this
 have IB: ∀k u,us[k]?=some u->(Bk cur.toList ((r.o+j)*e.size) us).toArray[(r.o+j)*e.size+k]?=some u:=by
  intro k u hu
  have hk:k<us.length:=(List.getElem?_eq_some_iff.1 hu).1
  rw [List.getElem?_toArray,Ds _ _ _ _ Qp,if_neg (by omega),if_pos (by omega)]
  rw [show (r.o+j)*e.size+k-(r.o+j)*e.size=k by omega];exact hu
 refine ⟨⟨h1.1,h1.2.1,λhf=>h1.2.2 (by simp only [Bool.and_eq_true] at hf;exact hf.1)⟩,_,_,setRow_heap w r.g cur _ ti _ h2,by rw [List.size_toArray,Eg _ _ _ Qp,Array.length_toList];exact h3,h4,by rw [List.length_set];exact h5,λi y hy=>?_,λ_=>?_⟩
 ·rw [List.getElem?_set] at hy
  split at hy
  ·rename_i mE;subst mE
   simp only [Option.some.injEq] at hy;subst hy
   exact ⟨us,fb,IB,(m.cells Nj e us x Xf).and_right⟩
  ·rename_i mE
   obtain ⟨fZ,ES,ew,sq⟩:=h6 i y hy
   exact ⟨fZ,ES,cell i fZ (Ne.symm mE) ES ew,(m.cells fr e fZ y sq).and_left⟩
 ·refine ⟨Fs.set j F,by simp [t1],List.nodup_cons.2 ⟨λhm=>?_,xB.1⟩,λb hb=>?_,λi y G hy hG=>?_⟩
  ·rcases xB.2 _ hm with h8|h8
   ·exact (List.nodup_cons.1 t2).1 h8
   ·exact QT _ h8 rfl
  ·exact (xB.2 b hb).imp (t3 b) id
  ·rw [List.getElem?_set] at hy hG
   split at hy
   ·rename_i mE;subst mE
    rw [if_pos rfl] at hG
    rw [if_pos (by omega)] at hG
    simp only [Option.some.injEq] at hy hG;subst hy;subst hG
    exact ⟨us,fb,IB,hF.Cj _ _ _ _ (by simp) λb hb=>setRow_other w r.g b _ (QT b hb)⟩
   ·rename_i mE
    rw [if_neg mE] at hG
    obtain ⟨fZ,ES,ew,sq⟩:=t4 i y G hy hG
    exact ⟨fZ,ES,cell i fZ (Ne.symm mE) ES ew,sq.Cj _ _ _ _ (by simp) λb hb=>setRow_other w r.g b _ λe=>(List.nodup_cons.1 t2).1 (List.mem_flatten.2 ⟨G,List.mem_of_getElem? hG,e▸hb⟩)⟩
theorem jn (hT:Bu P T) {st:St} {a:Act} (h:Af X π st a w) (t:TypeId) (p x:AV) (vp vx:Value) (hp:Ak X w π st.heap p vp) (hx:Ak X w π st.heap x vx) (st':St)
  (he:Mr T st t p x=some st'): ∃w' π',(Instr.storeAt t vp vx).run P w= .ok () w'/\Af X π' st' a w':=by
 unfold Mr at he
 split at he
 ·rename_i τ l i ht
  split at he
  ·rename_i tid vs cs hl hc
   split at he
   ·rename_i hle
    simp only [Option.some.injEq] at he
    obtain ⟨w',h1,h2⟩:=qK hT h ht hp hx hl hc hle
    split at he
    ·rename_i Et
     simp only [Bool.and_eq_true,Nat.blt_eq] at Et
     subst he
     obtain ⟨zM,h3⟩:=Yn (T:=T) l i t τ cs.length 0 _ π (by omega) h2
     exact ⟨w',zM,h1,h3⟩
    ·subst he
     exact ⟨w',π,h1,h2⟩
   ·cases he
  ·cases he
 ·rename_i τ l j ht
  split at he
  ·rename_i x' st1 hs
   obtain ⟨Uc,h1,h2,h3,h4,h5⟩:=Tw h hx hs
   split at he
   ·rename_i fr tr e tid xs Nj y hl hv
    split at he
    ·rename_i cT;subst cT
     split at he
     ·rename_i hj
      simp only [Option.some.injEq] at he;subst he
      obtain ⟨r,b,sz,n,g1,g0,g2,g3,rfl⟩:=hp
      obtain ⟨k1,b',f,k2,k3⟩:=h4 l _ hl
      rw [g1] at k2;cases k2
      have g4:=congrArg OB.row k3
      rw [show (OB.map f b).row=b.row by cases b<;>rfl,g0] at g4
      simp only [OB.row,Option.some.injEq,Prod.mk.injEq] at g4
      obtain ⟨rfl,rfl⟩:=g4
      cases ff:(tr&&(Lo st x&&τ.tree)) with
      |false=>
       obtain ⟨w',q1,q2⟩:=qI hT h1 ht (k1.trans g3) hl hj (Is _ x' vx Nj y h3 h2 hv)
       exact ⟨w',Uc,q1,q2⟩
      |true=>
       simp only [Bool.and_eq_true] at ff
       obtain ⟨rfl,htv,cT⟩:=ff
       obtain ⟨F,us,f1,f2,f3,_⟩:=h5 htv τ Nj y cT hv
       obtain ⟨w',q1,q2⟩:=nv hT h1 ht (k1.trans g3) hl hj (Is _ x' vx Nj y h3 h2 hv) f1 f2 f3
       exact ⟨w',_,q1,q2⟩
     ·cases he
    ·cases he
   ·cases he
  ·cases he
 ·cases he
theorem lE {S:Nat->Prop} {e:Ty} {v:Value} {ys:List e.den} (h:Cells w S (.slice e) [v] ys):
  ∃ad c,v= .slice ad ys.length c/\(ys= []\/ ∃g o,ad=some ⟨g,o,none⟩/\ ∃news:List Value,news.length=ys.length*e.size/\(∀j u,news[j]?=some u->w.cell? ⟨g,o+j,none⟩=some u)/\(∀u∈news,u.oneCell'=true)/\(∀j u,j<ys.length*e.size->w.cell? ⟨g,o+j,none⟩=some u->news[j]?=some u)/\
   ∀(i:Nat) (y:e.den),ys[i]?=some y-> ∃es:List Value,es.length=e.size/\(∀j u,es[j]?=some u->news[i*e.size+j]?=some u)/\Cells w S e es y):=by
 simp only [Cells] at h
 obtain ⟨ad,len,cap,hv,hl,kK,vq⟩:=h
 simp only [List.cons.injEq,and_true] at hv
 subst hl
 refine ⟨ad,cap,hv,?_⟩
 rcases vq with h0|⟨g,o,rfl,hg,hn,Hf⟩
 ·exact .inl h0
 ·right
  refine ⟨g,o,rfl,(List.range (ys.length*e.size)).map λj=>(w.cell? ⟨g,o+j,none⟩).getD undef,by simp,?_⟩
  have key: ∀k,k<ys.length*e.size-> ∃u,w.cell? ⟨g,o+k,none⟩=some u/\u.oneCell'=true:=by
   intro k hk
   have hs:0<e.size:=by
    rcases Nat.eq_zero_or_pos e.size with h|h
    ·rw [h] at hk;simp at hk
    ·exact h
   have hi:k/e.size<ys.length:=(Nat.div_lt_iff_lt_mul hs).2 hk
   obtain ⟨es,Xf,hc,Tj⟩:=Hf (k/e.size) _ (List.getElem?_eq_getElem hi)
   have hm:k%e.size<es.length:=by rw [Xf];exact Nat.mod_lt _ hs
   have:=hc (k%e.size) _ (List.getElem?_eq_getElem hm)
   rw [Nat.add_assoc,show k/e.size*e.size+k%e.size=k by rw [Nat.mul_comm];exact Nat.div_add_mod k e.size] at this
   exact ⟨_,this,Cells.plain e es _ Tj _ (List.getElem_mem hm)⟩
  refine ⟨λj u hu=>?_,λu hu=>?_,λj u hj hu=>by rw [List.getElem?_map,List.getElem?_range hj];simp [hu],λi y hy=>?_⟩
  ·rw [List.getElem?_map] at hu
   have hj:j<ys.length*e.size:=by
    by_cases hj:j<ys.length*e.size
    ·exact hj
    ·rw [List.getElem?_eq_none (by simpa using hj)] at hu;cases hu
   rw [List.getElem?_range hj] at hu
   obtain ⟨u',ah,_⟩:=key j hj
   simp only [Option.map_some,ah,Option.getD_some,Option.some.injEq] at hu
   rw [ah,hu]
  ·obtain ⟨j,hj,rfl⟩:=List.mem_map.1 hu
   obtain ⟨u',ah,h1⟩:=key j (List.mem_range.1 hj)
   rw [ah];exact h1
  ·obtain ⟨es,Xf,hc,Tj⟩:=Hf i y hy
   refine ⟨es,Xf,λj u hu=>?_,Tj⟩
   have hi:=(List.getElem?_eq_some_iff.1 hy).1
   have hj:=(List.getElem?_eq_some_iff.1 hu).1
   have Gu:i*e.size+j<ys.length*e.size:=by
    have:(i+1)*e.size<=ys.length*e.size:=Nat.mul_le_mul_right _ (by omega)
    rw [Nat.add_mul,Nat.one_mul] at this
    omega
   rw [List.getElem?_map,List.getElem?_range Gu]
   have:=hc j u hu
   rw [Nat.add_assoc] at this
   simp [this]
end
end Go.Proofs.Ytjbdmibbbpdnnaa
