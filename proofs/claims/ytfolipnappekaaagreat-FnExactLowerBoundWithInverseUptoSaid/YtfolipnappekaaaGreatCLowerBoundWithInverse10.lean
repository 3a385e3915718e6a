/-
  Part 11 of the proof that the statement FnExactLowerBoundWithInverse holds.
-/
import Derived.Test.YtfolipnappekaaaGreatCLowerBoundWithInverse09
namespace Go.Proofs.YtfolipnappekaaaGreat
open Go.RowKit
section
variable {P:Program} {T:Tab} {X:Ctx} {w w':World} {π:Pi} {H:List (Nat×OB)}
theorem OB.map_map (f g:AC->AC) (b:OB):OB.map g (OB.map f b)=OB.map (λc=>g (f c)) b:=by
 cases b with
 |var t vs=>simp [OB.map,Function.comp_def]
 |_=>rfl
theorem OB.xd (b:OB):OB.map (λc=>c) b=b:=by
 cases b with
 |var t vs=>simp [OB.map]
 |_=>rfl
def Gd (π π':Pi) (H H':List (Nat×OB)):Prop:= ∀l b',Ad H' l=some b'->π' l=π l/\ ∃b f,Ad H l=some b/\b'=OB.map f b
theorem Gd.refl (π:Pi) (H:List (Nat×OB)):Gd π π H H:= λ_ b h=>⟨rfl,b,λc=>c,h,(OB.xd b).symm⟩
theorem Gd.trans {Vz IS π3:Pi} {H1 H2 H3:List (Nat×OB)} (h:Gd Vz IS H1 H2) (h':Gd IS π3 H2 H3):Gd Vz π3 H1 H3:= λl b hb=>by
 obtain ⟨e1,b1,f1,h1,rfl⟩:=h' l b hb
 obtain ⟨e2,b2,f2,h2,rfl⟩:=h l b1 h1
 exact ⟨e1.trans e2,b2,_,h2,OB.map_map f2 f1 b2⟩
theorem Gd.freeze (st:St) (l:Nat) (fr:Bool) (e:Ty) (xs:List e.den):Gd π (Pn π l none) st.heap (st.freeze l fr e xs).heap:= λk b hb=>by
 by_cases hk:k=l
 ·subst hk;rw [St.Hf] at hb;cases hb
 ·rw [St.Li st l k fr e xs hk] at hb
  cases h0:Ad st.heap k with
  |none=>rw [h0] at hb;cases hb
  |some b0=>
   rw [h0] at hb
   simp only [Option.map_some,Option.some.injEq] at hb
   exact ⟨Cs π none hk,b0,_,rfl,hb.symm⟩
theorem Gd.Eh (st:St) (l:Nat) (v:Ty) (m:ByteArray->Option v.den):Gd π (Pn π l none) st.heap (st.Eh l v m).heap:= λk b hb=>by
 by_cases hk:k=l
 ·subst hk;rw [St.Mk] at hb;cases hb
 ·rw [St.Ku st l k v m hk] at hb
  cases h0:Ad st.heap k with
  |none=>rw [h0] at hb;cases hb
  |some b0=>
   rw [h0] at hb
   simp only [Option.map_some,Option.some.injEq] at hb
   exact ⟨Cs π none hk,b0,_,rfl,hb.symm⟩
theorem Gd.gone {π':Pi} {H':List (Nat×OB)} (k:Gd π π' H H') {l:Nat} (h:Ad H l=none):Ad H' l=none:=by
 cases hb:Ad H' l with
 |none=>rfl
 |some b=>
  obtain ⟨_,b0,f,h1,_⟩:=k l b hb
  rw [h] at h1;cases h1
def Bk (st:St):AC->AC
 | .own l off len=>match st.at l with
  |some (.arr fr _ e _ xs)=> .data fr (.slice e) ((xs.drop off).take len)
  |some (.Da e _ xs)=> .data false (.slice e) ((xs.drop off).take len)
  |_=> .own l off len
 | .Fw l=>match st.at l with
  |some (.Ok v m)=> .data false (.smap v) m
  |_=> .Fw l
 |c=>c
theorem Mp {st:St} {c:AC} (h:c.settled=true):Bk st c=c:=by
 cases c<;>simp [AC.settled] at h<;>rfl
theorem qj {st st':St} {f:AC->AC} {l:Nat} (hH: ∀m,m≠l->Ad st'.heap m=(Ad st.heap m).map (OB.map f)) {c:AC} (hc: ∀k∈c.refs,k≠l):Bk st' c=Bk st c:=by
 cases c with
 |own k off len=>
  have hk:k≠l:=hc k (by simp [AC.refs])
  simp only [Bk,St.at,hH k hk]
  cases Ad st.heap k with
  |none=>rfl
  |some b=>cases b<;>rfl
 |Fw k=>
  have hk:k≠l:=hc k (by simp [AC.refs])
  simp only [Bk,St.at,hH k hk]
  cases Ad st.heap k with
  |none=>rfl
  |some b=>cases b<;>rfl
 |_=>rfl
theorem bw {a:Act} : ∀(n:Nat) (st:St) (π:Pi) (cs:List AC) (us:List Value) (cb:List AC) (st':St),Aj X π st a w->Cu X w π st.heap cs us->
  Dm n st cs=some (cb,st')-> ∃π',Aj X π' st' a w/\Cu X w π' st'.heap cb us/\cb.all (·.settled)=true/\Gd π π' st.heap st'.heap/\cb=cs.map (Bk st)/\
   (∀k,k∈cs.flatMap AC.refs->Ad st'.heap k=none)
 |0,st,π,cs,us,cb,st',h,hr,he=>by
  simp only [Dm] at he
  split at he
  ·rename_i hs
   simp only [Option.some.injEq,Prod.mk.injEq] at he
   obtain ⟨rfl,rfl⟩:=he
   have wJ:=List.all_eq_true.1 hs
   exact ⟨π,h,hr,hs,Gd.refl _ _,((List.map_congr_left λc hc=>Mp (wJ c hc)).trans (List.map_id'' (λ_=>rfl) cs)).symm,λk hk=>by
    obtain ⟨c,hc,vq⟩:=List.mem_flatMap.1 hk
    have:=wJ c hc
    cases c<;>simp [AC.settled] at this<;>simp [AC.refs] at vq⟩
  ·cases he
 |n+1,st,π,cs,us,cb,st',h,hr,he=>by
  simp only [Dm] at he
  have step: ∀(f:AC->AC) (l:Nat) (st1:St),Aj X (Pn π l none) st1 a w->Move X w w π (Pn π l none) st.heap st1.heap f->Ad st1.heap l=none->(∀m,m≠l->Ad st1.heap m=(Ad st.heap m).map (OB.map f))->
    Gd π (Pn π l none) st.heap st1.heap->(∀c∈cs,(∀k∈c.refs,k≠l)->f c=c)->(∀c∈cs,l∈c.refs->(f c).refs= []/\(Bk st1 (f c)).settled=true->f c=Bk st c)->
    (∀c∈cs,l∈c.refs->(f c).refs= [])->Dm n st1 (cs.map f)=some (cb,st')->
    ∃π',Aj X π' st' a w/\Cu X w π' st'.heap cb us/\cb.all (·.settled)=true/\Gd π π' st.heap st'.heap/\cb=cs.map (Bk st)/\(∀k,k∈cs.flatMap AC.refs->Ad st'.heap k=none):=by
   intro f l st1 h1 m hl hH hK hf0 hf1 VH he
   obtain ⟨π',h2,h3,h4,h5,h6,h7⟩:=bw n st1 _ (cs.map f) us cb st' h1 (m.PF hr) he
   refine ⟨π',h2,h3,h4,hK.trans h5,?_,λk hk=>?_⟩
   ·rw [h6,List.map_map]
    refine List.map_congr_left λc hc=>?_
    simp only [Function.comp]
    by_cases Ks:l∈c.refs
    ·have Gy:=List.all_eq_true.1 h4
     have lC:Bk st1 (f c)∈cb:=by rw [h6];exact List.mem_map.2 ⟨f c,List.mem_map.2 ⟨c,hc,rfl⟩,rfl⟩
     have hs:=Gy _ lC
     have h8:=hf1 c hc Ks ⟨VH c hc Ks,hs⟩
     have h9:Bk st1 (f c)=f c:=by
      have:=VH c hc Ks
      cases hfc:f c<;>rw [hfc] at this<;>first|(simp [AC.refs] at this;done)|rfl
     rw [h9,h8]
    ·have Ey: ∀k∈c.refs,k≠l:= λk hk e=>Ks (e▸hk)
     rw [hf0 c hc Ey]
     exact qj hH Ey
   ·obtain ⟨c,hc,vq⟩:=List.mem_flatMap.1 hk
    by_cases Ls:k=l
    ·subst Ls;exact h5.gone hl
    ·by_cases Ks:l∈c.refs
     ·
      have Gy:=List.all_eq_true.1 h4
      have lC:Bk st1 (f c)∈cb:=by rw [h6];exact List.mem_map.2 ⟨f c,List.mem_map.2 ⟨c,hc,rfl⟩,rfl⟩
      have hs:=Gy _ lC
      have h8:=hf1 c hc Ks ⟨VH c hc Ks,hs⟩
      have h9:Bk st1 (f c)=f c:=by
       have:=VH c hc Ks
       cases hfc:f c<;>rw [hfc] at this<;>first|(simp [AC.refs] at this;done)|rfl
      rw [h9,h8] at hs
      cases c with
      |clo g Bv=>simp [Bk,AC.settled] at hs
      |own k' _ _=>simp [AC.refs] at Ks vq;exact absurd (vq.trans Ks.symm) Ls
      |Fw k'=>simp [AC.refs] at Ks vq;exact absurd (vq.trans Ks.symm) Ls
      |Dp k' _=>simp [AC.refs] at Ks vq;exact absurd (vq.trans Ks.symm) Ls
      |Fp k' _=>simp [AC.refs] at Ks vq;exact absurd (vq.trans Ks.symm) Ls
      |sub k' _ _=>simp [AC.refs] at Ks vq;exact absurd (vq.trans Ks.symm) Ls
      |Fl k' _ _=>simp [AC.refs] at Ks vq;exact absurd (vq.trans Ks.symm) Ls
      |_=>simp [AC.refs] at vq
     ·have Ey: ∀k∈c.refs,k≠l:= λk hk e=>Ks (e▸hk)
      exact h7 k (List.mem_flatMap.2 ⟨f c,List.mem_map.2 ⟨c,hc,rfl⟩,by rw [hf0 c hc Ey];exact vq⟩)
  have vz: ∀(st1:St) (c:AC),(Bk st1 c).settled=true->c≠ .undef:= λst1 c hs e=>by rw [e] at hs;simp [Bk,AC.settled] at hs
  split at he
  ·rename_i hf
   simp only [Option.some.injEq,Prod.mk.injEq] at he
   obtain ⟨rfl,rfl⟩:=he
   have wJ: ∀c∈cs,c.settled=true:= λc hc=>by have:=List.find?_eq_none.1 hf c hc;simpa using this
   exact ⟨π,h,hr,List.all_eq_true.2 wJ,Gd.refl _ _,((List.map_congr_left λc hc=>Mp (wJ c hc)).trans (List.map_id'' (λ_=>rfl) cs)).symm,λk hk=>by
    obtain ⟨c,hc,vq⟩:=List.mem_flatMap.1 hk
    have:=wJ c hc
    cases c<;>simp [AC.settled] at this<;>simp [AC.refs] at vq⟩
  ·rename_i l off len hf
   split at he
   ·rename_i fr tr e tid xs hl
    unfold St.at at hl
    obtain ⟨h1,m⟩:=h.freeze (fr:=fr) (.inl ⟨tr,tid,hl⟩)
    refine step _ l _ h1 m (St.Hf st l fr e xs) (λm hm=>St.Li st l m fr e xs hm) (Gd.freeze st l fr e xs) (λc _ hc=>ct hc) (λc _ Ks hs=>?_) (λc _ Ks=>?_) he
    ·cases c with
     |own k o n=>have:k=l:=(List.mem_singleton.1 Ks).symm
                 subst this;simp only [Bc,if_pos,Bk,St.at,hl]
     |Dp k o=>have:k=l:=(List.mem_singleton.1 Ks).symm
              subst this;simp only [Bc,if_pos] at hs;exact absurd rfl (vz _ _ hs.2)
     |Fp k o=>have:k=l:=(List.mem_singleton.1 Ks).symm
              subst this;simp only [Bc,if_pos] at hs;exact absurd rfl (vz _ _ hs.2)
     |sub k o o2=>have:k=l:=(List.mem_singleton.1 Ks).symm
                  subst this;simp only [Bc,if_pos] at hs;exact absurd rfl (vz _ _ hs.2)
     |Fl k o o2=>have:k=l:=(List.mem_singleton.1 Ks).symm
                 subst this;simp only [Bc,if_pos] at hs;exact absurd rfl (vz _ _ hs.2)
     |Fw k=>have:k=l:=(List.mem_singleton.1 Ks).symm
            subst this;simp only [Bc,if_pos] at hs;exact absurd rfl (vz _ _ hs.2)
     |clo g Bv=>
      simp only [Bc] at hs
      rw [if_pos (by simpa [AC.refs] using Ks)] at hs
      exact absurd rfl (vz _ _ hs.2)
     |_=>simp [AC.refs] at Ks
    ·cases c with
     |own k o n=>have:k=l:=(List.mem_singleton.1 Ks).symm
                 subst this;simp only [Bc,if_pos];rfl
     |Dp k o=>have:k=l:=(List.mem_singleton.1 Ks).symm
              subst this;simp only [Bc,if_pos];rfl
     |Fp k o=>have:k=l:=(List.mem_singleton.1 Ks).symm
              subst this;simp only [Bc,if_pos];rfl
     |sub k o o2=>have:k=l:=(List.mem_singleton.1 Ks).symm
                  subst this;simp only [Bc,if_pos];rfl
     |Fl k o o2=>have:k=l:=(List.mem_singleton.1 Ks).symm
                 subst this;simp only [Bc,if_pos];rfl
     |Fw k=>have:k=l:=(List.mem_singleton.1 Ks).symm
            subst this;simp only [Bc,if_pos];rfl
     |clo g Bv=>simp only [Bc];rw [if_pos (by simpa [AC.refs] using Ks)];rfl
     |_=>simp [AC.refs] at Ks
   ·rename_i e tid xs hl
    unfold St.at at hl
    obtain ⟨h1,m⟩:=h.freeze (fr:=false) (.inr ⟨rfl,tid,hl⟩)
    refine step _ l _ h1 m (St.Hf st l false e xs) (λm hm=>St.Li st l m false e xs hm) (Gd.freeze st l false e xs) (λc _ hc=>ct hc) (λc _ Ks hs=>?_) (λc _ Ks=>?_) he
    ·cases c with
     |own k o n=>have:k=l:=(List.mem_singleton.1 Ks).symm
                 subst this;simp only [Bc,if_pos,Bk,St.at,hl]
     |Dp k o=>have:k=l:=(List.mem_singleton.1 Ks).symm
              subst this;simp only [Bc,if_pos] at hs;exact absurd rfl (vz _ _ hs.2)
     |Fp k o=>have:k=l:=(List.mem_singleton.1 Ks).symm
              subst this;simp only [Bc,if_pos] at hs;exact absurd rfl (vz _ _ hs.2)
     |sub k o o2=>have:k=l:=(List.mem_singleton.1 Ks).symm
                  subst this;simp only [Bc,if_pos] at hs;exact absurd rfl (vz _ _ hs.2)
     |Fl k o o2=>have:k=l:=(List.mem_singleton.1 Ks).symm
                 subst this;simp only [Bc,if_pos] at hs;exact absurd rfl (vz _ _ hs.2)
     |Fw k=>have:k=l:=(List.mem_singleton.1 Ks).symm
            subst this;simp only [Bc,if_pos] at hs;exact absurd rfl (vz _ _ hs.2)
     |clo g Bv=>
      simp only [Bc] at hs
      rw [if_pos (by simpa [AC.refs] using Ks)] at hs
      exact absurd rfl (vz _ _ hs.2)
     |_=>simp [AC.refs] at Ks
    ·cases c with
     |own k o n=>have:k=l:=(List.mem_singleton.1 Ks).symm
                 subst this;simp only [Bc,if_pos];rfl
     |Dp k o=>have:k=l:=(List.mem_singleton.1 Ks).symm
              subst this;simp only [Bc,if_pos];rfl
     |Fp k o=>have:k=l:=(List.mem_singleton.1 Ks).symm
              subst this;simp only [Bc,if_pos];rfl
     |sub k o o2=>have:k=l:=(List.mem_singleton.1 Ks).symm
                  subst this;simp only [Bc,if_pos];rfl
     |Fl k o o2=>have:k=l:=(List.mem_singleton.1 Ks).symm
                 subst this;simp only [Bc,if_pos];rfl
     |Fw k=>have:k=l:=(List.mem_singleton.1 Ks).symm
            subst this;simp only [Bc,if_pos];rfl
     |clo g Bv=>simp only [Bc];rw [if_pos (by simpa [AC.refs] using Ks)];rfl
     |_=>simp [AC.refs] at Ks
   ·cases he
  ·rename_i l hf
   split at he
   ·rename_i v mm hl
    unfold St.at at hl
    obtain ⟨h1,m⟩:=h.Eh hl
    refine step _ l _ h1 m (St.Mk st l v mm) (λm hm=>St.Ku st l m v mm hm) (Gd.Eh st l v mm) (λc _ hc=>mZ hc) (λc _ Ks hs=>?_) (λc _ Ks=>?_) he
    ·cases c with
     |Fw k=>have:k=l:=(List.mem_singleton.1 Ks).symm
            subst this;simp only [Df,if_pos,Bk,St.at,hl]
     |Dp k o=>have:k=l:=(List.mem_singleton.1 Ks).symm
              subst this;simp only [Df,if_pos] at hs;exact absurd rfl (vz _ _ hs.2)
     |Fp k o=>have:k=l:=(List.mem_singleton.1 Ks).symm
              subst this;simp only [Df,if_pos] at hs;exact absurd rfl (vz _ _ hs.2)
     |sub k o o2=>have:k=l:=(List.mem_singleton.1 Ks).symm
                  subst this;simp only [Df,if_pos] at hs;exact absurd rfl (vz _ _ hs.2)
     |Fl k o o2=>have:k=l:=(List.mem_singleton.1 Ks).symm
                 subst this;simp only [Df,if_pos] at hs;exact absurd rfl (vz _ _ hs.2)
     |own k o n=>have:k=l:=(List.mem_singleton.1 Ks).symm
                 subst this;simp only [Df,if_pos] at hs;exact absurd rfl (vz _ _ hs.2)
     |clo g Bv=>
      simp only [Df] at hs
      rw [if_pos (by simpa [AC.refs] using Ks)] at hs
      exact absurd rfl (vz _ _ hs.2)
     |_=>simp [AC.refs] at Ks
    ·cases c with
     |own k o n=>have:k=l:=(List.mem_singleton.1 Ks).symm
                 subst this;simp only [Df,if_pos];rfl
     |Dp k o=>have:k=l:=(List.mem_singleton.1 Ks).symm
              subst this;simp only [Df,if_pos];rfl
     |Fp k o=>have:k=l:=(List.mem_singleton.1 Ks).symm
              subst this;simp only [Df,if_pos];rfl
     |sub k o o2=>have:k=l:=(List.mem_singleton.1 Ks).symm
                  subst this;simp only [Df,if_pos];rfl
     |Fl k o o2=>have:k=l:=(List.mem_singleton.1 Ks).symm
                 subst this;simp only [Df,if_pos];rfl
     |Fw k=>have:k=l:=(List.mem_singleton.1 Ks).symm
            subst this;simp only [Df,if_pos];rfl
     |clo g Bv=>simp only [Df];rw [if_pos (by simpa [AC.refs] using Ks)];rfl
     |_=>simp [AC.refs] at Ks
   ·cases he
  ·cases he
def bN (X:Ctx) (w:World) (π:Pi) (F:List Nat):Prop:=F.Nodup/\ ∀b∈F,(X.w0.heap.size<=b\/X.gv b)/\b<w.heap.size/\ ∀l r,π l=some r-> ¬r.cl b
theorem Qg {S:Nat->Prop} : ∀(e:Ty) (es:List Value) (x:e.den),e.flat=true->Cells w S e es x->Be w [] e es x
 | .int k,cs,n,_,h=>⟨rfl,h⟩
 | .bool,cs,n,_,h=>⟨rfl,h⟩
 | .str,cs,n,_,h=>⟨rfl,h⟩
 | .unit,cs,n,_,h=>⟨rfl,h⟩
 | .pair a r,cs,x,hf,h=>by
  simp only [Ty.flat,Bool.and_eq_true] at hf
  simp only [Cells] at h
  simp only [Be]
  obtain ⟨c1,c2,h1,h2,h3⟩:=h
  exact ⟨c1,c2,[],[],h1,rfl,Qg a c1 x.1 hf.1 h2,Qg r c2 x.2 hf.2 h3⟩
 | .slice _,_,_,hf,_=>by simp [Ty.flat] at hf
 | .oslice _,_,_,hf,_=>by simp [Ty.flat] at hf
 | .ptr _,_,_,hf,_=>by simp [Ty.flat] at hf
 | .optr _,_,_,hf,_=>by simp [Ty.flat] at hf
 | .smap _,_,_,hf,_=>by simp [Ty.flat] at hf
 | .clo _ _,_,_,hf,_=>by simp [Ty.flat] at hf
theorem Lx {Fs:List (List Nat)} (off len:Nat) (b:Nat) (h:b∈List.flatten ((Fs.drop off).take len)):b∈List.flatten Fs:=by
 obtain ⟨F,hF,hb⟩:=List.mem_flatten.1 h
 exact List.mem_flatten.2 ⟨F,List.mem_of_mem_drop (List.mem_of_mem_take hF),hb⟩
theorem bz {α:Type} {a b:List (List α)} (h:a.Sublist b):(List.flatten a).Sublist (List.flatten b):=by
 induction h with
 |slnil=>exact List.Sublist.refl _
 |cons c _ ih=>simp only [List.flatten_cons];exact ih.trans (List.sublist_append_right _ _)
 |cons_cons c _ ih=>simp only [List.flatten_cons];exact List.Sublist.append (List.Sublist.refl _) ih
theorem fX {Fs:List (List Nat)} (off len:Nat) (h:(List.flatten Fs).Nodup):(List.flatten ((Fs.drop off).take len)).Nodup:=by
 have h1:((Fs.drop off).take len).Sublist Fs:=(List.take_sublist len _).trans (List.drop_sublist off Fs)
 exact h.sublist (bz h1)
theorem dZ {P:Nat->Prop} {r:Real} {off len:Nat} {v:Value} {e:Ty} {tid:TypeId} {xs:List e.den} {cur:Array Value} (h2:w.heap[r.g]?=some (.cells cur tid (0,0))) (Wq:cur.size=(r.o+r.cap)*e.size) (nf:r.cap<=maxLen)
  (hlen:off+len<=xs.length) (hv:Dw (some r) e.size off len v) (ht:Pw w P r.g r.o cur e xs) (hg:P r.g):
  ∃F,Be w F (.slice e) [v] ((xs.drop off).take len)/\F.Nodup/\ ∀b∈F,P b:=by
 have OX:((xs.drop off).take len).length=len:=by simp;omega
 obtain ⟨ad,rfl,hc,ha⟩:=hv
 obtain ⟨Fs,t1,t2,t3,t4⟩:=ht
 ·refine ⟨r.g::List.flatten ((Fs.drop off).take len),⟨some ad,len,r.cap-off,rfl,OX.symm,by omega, .inr ⟨ad,r.g,(r.o+off)*e.size,_,rfl,λh0=>ha (by omega),⟨cur,tid,r.o+off,h2,rfl,by rw [Wq];congr 1;omega,by omega⟩,rfl,by simp;omega,λi x F hx hF=>?_⟩⟩,?_,λb hb=>?_⟩
  ·have hi:i<len:=by
    have:=(List.getElem?_eq_some_iff.1 hx).1
    rw [OX] at this;exact this
   have WR:xs[off+i]?=some x:=by rw [List.getElem?_take,if_pos hi,List.getElem?_drop] at hx;exact hx
   have hF':Fs[off+i]?=some F:=by rw [List.getElem?_take,if_pos hi,List.getElem?_drop] at hF;exact hF
   obtain ⟨es,he,hj,tb⟩:=t4 (off+i) x F WR hF'
   refine ⟨es,he,λj u hu=>?_,tb⟩
   rw [cellOf h2]
   have:=hj j u hu
   rw [<-this]
   congr 1
   rw [<-Nat.add_assoc,Nat.add_mul (r.o+off) i]
  ·have:=List.nodup_cons.1 t2
   exact List.nodup_cons.2 ⟨λhm=>this.1 (Lx off len _ hm),fX off len this.2⟩
  ·rcases List.mem_cons.1 hb with rfl|hb
   ·exact hg
   ·exact t3 b (Lx off len b hb)
theorem j6 {st:St} (h:Hz X w π st.heap) {c:AC} {v:Value} (hc:Dr X w π st.heap c v) (ht:Lr st c=true) (τ:Ty) (fr:Bool) (x:τ.den) (My:τ.Ab=false) (FD:τ.tree=true)
  (hv:Bl st τ (Bk st c)=some (fr,x)): ∃F,Be w F τ [v] x/\F.Nodup/\ ∀b∈F,∃l r,l∈c.refs/\π l=some r/\r.cl b:=by
 cases c with
 |data Ow Iw y=>
  simp only [Lr] at ht
  simp only [Bk,Io] at hv
  split at hv
  ·rename_i he;subst he
   simp only [Option.some.injEq,Prod.mk.injEq] at hv
   obtain ⟨_,rfl⟩:=hv
   exact ⟨[],Qg Iw _ _ ht (Bb.Ln My hc),List.nodup_nil,λb hb=>by cases hb⟩
  ·unfold ca at hv
   split at hv
   ·simp [Ty.flat] at ht
   ·simp [Ty.flat] at ht
   ·cases hv
 |Hi=>
  have hc:v= .slice none 0 0:=hc
  subst hc
  cases τ with
  |slice e=>
   simp only [Bk,Bl,Option.some.injEq,Prod.mk.injEq] at hv
   obtain ⟨_,rfl⟩:=hv
   exact ⟨[],⟨none,0,0,rfl,rfl,Nat.le_refl _, .inl ⟨rfl,rfl,rfl,rfl⟩⟩,List.nodup_nil,λb hb=>by cases hb⟩
  |oslice e=>simp [Ty.tree] at FD
  |_=>simp [Bk,Bl] at hv
 |own l off len=>
  simp only [Lr] at ht
  split at ht
  ·rename_i Ow tr e tid xs hl
   have Gm:=hl
   unfold St.at at hl
   simp only [Bk,Gm,Io] at hv
   split at hv
   ·rename_i he;subst he
    simp only [Option.some.injEq,Prod.mk.injEq] at hv
    obtain ⟨_,rfl⟩:=hv
    obtain ⟨h2,h3⟩:=Jb hc hl
    have hb:=(h.heap l).Ld hl
    simp only [Au,Fm] at hb
    cases hp:π l with
    |none=>
     rw [hp] at h3
     obtain ⟨rfl,rfl,rfl⟩:=h3
     exact ⟨[],⟨none,0,0,rfl,by simp,Nat.le_refl _, .inl ⟨by simp,rfl,rfl,rfl⟩⟩,List.nodup_nil,λb hb=>by cases hb⟩
    |some r=>
     rw [hp] at hb h3
     obtain ⟨k1,cur,_,k2,k3,k4,k5,k6,k7⟩:=hb
     have DR:Pw w r.cl r.g r.o cur e xs:=by
      simp only [Bool.or_eq_true] at ht
      rcases ht with ht|ht
      ·exact k7 ht
      ·refine ⟨List.replicate xs.length [],by simp,by simp,by simp,λi x F hx hF=>?_⟩
       obtain ⟨es,e1,e2,e3⟩:=k6 i x hx
       have:F= []:=by
        have:=List.mem_of_getElem? hF
        exact List.eq_of_mem_replicate this
       subst this
       exact ⟨es,e1,e2,Qg e es x ht e3⟩
     obtain ⟨F,f1,f2,f3⟩:=dZ k2 k3 k4 h2 h3 DR (h.sub l r _ hp k1.1)
     exact ⟨F,f1,f2,λb hb=>⟨l,r,by simp [AC.refs],hp,f3 b hb⟩⟩
   ·cases τ<;>simp [ca] at hv
  ·rename_i e tid xs hl
   have Gm:=hl
   unfold St.at at hl
   simp only [Bk,Gm,Io] at hv
   split at hv
   ·rename_i he;subst he
    simp only [Option.some.injEq,Prod.mk.injEq] at hv
    obtain ⟨_,rfl⟩:=hv
    obtain ⟨h2,h3⟩:=Vp hc hl
    have hb:=(h.heap l).Ld hl
    simp only [Au,Ip] at hb
    cases hp:π l with
    |none=>
     rw [hp] at h3
     obtain ⟨rfl,rfl,rfl⟩:=h3
     exact ⟨[],⟨none,0,0,rfl,by simp,Nat.le_refl _, .inl ⟨by simp,rfl,rfl,rfl⟩⟩,List.nodup_nil,λb hb=>by cases hb⟩
    |some r=>
     rw [hp] at hb h3
     obtain ⟨k1,cur,_,k2,k3,k4,k5,k7⟩:=hb
     obtain ⟨F,f1,f2,f3⟩:=dZ k2 k3 k4 h2 h3 k7 k1
     exact ⟨F,f1,f2,λb hb=>⟨l,r,by simp [AC.refs],hp,h.sub l r b hp (f3 b hb)⟩⟩
   ·cases τ<;>simp [ca] at hv
  ·cases ht
 |_=>simp [Lr] at ht
theorem Qn: ∀ {l:List Nat},Su l=true->l.Nodup
 | [],_=>List.nodup_nil
 |a::r,h=>by
  simp only [Su,Bool.and_eq_true,Bool.not_eq_true',List.contains_eq_mem,decide_eq_false_iff_not] at h
  exact List.nodup_cons.2 ⟨h.1,Qn h.2⟩
theorem Tz {st st':St} {τ:Ty} {c:AC} (h:c.settled=true):Bl st' τ c=Bl st τ c:=by
 cases c<;>simp [AC.settled] at h<;>cases τ<;>rfl
theorem qD {st st':St} (h:Hz X w π st.heap): ∀(τ:Ty) (cs:List AC) (us:List Value) (fr:Bool) (x:τ.den),Cu X w π st.heap cs us->cs.all (Lr st)=true->(cs.flatMap AC.refs).Nodup->
  (cs.map (Bk st)).all (·.settled)=true->τ.tree=true->Cn st' τ (cs.map (Bk st))=some (fr,x)-> ∃F,Be w F τ us x/\F.Nodup/\ ∀b∈F,∃l r,l∈cs.flatMap AC.refs/\π l=some r/\r.cl b:=by
 have one: ∀(τ:Ty) (cs:List AC) (us:List Value) (fr:Bool) (x:τ.den),τ.Ab=false->Cu X w π st.heap cs us->cs.all (Lr st)=true->
   (cs.map (Bk st)).all (·.settled)=true->τ.tree=true->Cn st' τ (cs.map (Bk st))=some (fr,x)-> ∃F,Be w F τ us x/\F.Nodup/\ ∀b∈F,∃l r,l∈cs.flatMap AC.refs/\π l=some r/\r.cl b:=by
  intro τ cs us fr x My hr ht hs Om hv
  rw [Na My] at hv
  rcases cs with _|⟨c,_|⟨d,cs⟩⟩
  ·cases hv
  ·simp only [List.map_cons,List.map_nil] at hv
   obtain ⟨u,hu,_,hc⟩:=hr.2 0 c rfl
   have hl:us.length=1:=hr.1
   obtain ⟨u',rfl⟩:=List.length_eq_one_iff.1 hl
   simp at hu;subst hu
   rw [Tz (st:=st) (by simpa using hs)] at hv
   obtain ⟨F,f1,f2,f3⟩:=j6 h hc (by simpa using ht) τ fr x My Om hv
   exact ⟨F,f1,f2,λb hb=>by obtain ⟨l,r,g1,g2⟩:=f3 b hb;exact ⟨l,r,by simpa using g1,g2⟩⟩
  ·cases hv
 intro τ
 induction τ with
 |unit=>
  intro cs us fr x hr ht hd hs Om hv
  cases cs with
  |nil=>have:us= []:=List.eq_nil_of_length_eq_zero hr.1;subst this;exact ⟨[],⟨rfl,rfl⟩,List.nodup_nil,λb hb=>by cases hb⟩
  |cons c cs=>simp [Cn] at hv
 |pair a r gC dL=>
  intro cs us fr x hr ht hd hs Om hv
  simp only [Ty.tree,Bool.and_eq_true] at Om
  simp only [Cn] at hv
  split at hv
  ·rename_i f1 y f2 z h1 h2
   simp only [Option.some.injEq,Prod.mk.injEq] at hv
   obtain ⟨rfl,rfl⟩:=hv
   have QK:Cu X w π st.heap (cs.take a.size) (us.take a.size):=by have:=Sj hr 0 a.size;simpa using this
   have TL:Cu X w π st.heap (cs.drop a.size) (us.drop a.size):=
    ⟨by simp [hr.1],λi c hc=>by
     rw [List.getElem?_drop] at hc⊢
     exact hr.2 _ c hc⟩
   have Aci: ∀ {p:AC->Bool} {l:List AC} (n:Nat),l.all p=true->(l.take n).all p=true:= λn hl=>List.all_eq_true.2 λc hc=>List.all_eq_true.1 hl c (List.mem_of_mem_take hc)
   have Acj: ∀ {p:AC->Bool} {l:List AC} (n:Nat),l.all p=true->(l.drop n).all p=true:= λn hl=>List.all_eq_true.2 λc hc=>List.all_eq_true.1 hl c (List.mem_of_mem_drop hc)
   have hdd:((cs.take a.size++cs.drop a.size).flatMap AC.refs).Nodup:=by rw [List.take_append_drop];exact hd
   rw [List.flatMap_append] at hdd
   obtain ⟨d1,d2,d3⟩:=List.nodup_append.1 hdd
   rw [<-List.map_take] at h1
   rw [<-List.map_drop] at h2
   obtain ⟨F1,t1,n1,c1⟩:=gC _ _ f1 y QK (Aci _ ht) d1 (by rw [List.map_take];exact Aci _ hs) Om.1 h1
   obtain ⟨F2,t2,n2,c2⟩:=dL _ _ f2 z TL (Acj _ ht) d2 (by rw [List.map_drop];exact Acj _ hs) Om.2 h2
   refine ⟨F1++F2,⟨us.take a.size,us.drop a.size,F1,F2,(List.take_append_drop _ _).symm,rfl,t1,t2⟩,List.nodup_append.2 ⟨n1,n2,λb hb b' pn e=>?_⟩,λb hb=>?_⟩
   ·subst e
    obtain ⟨l1,r1,g1,g2,g3⟩:=c1 b hb
    obtain ⟨l2,r2,g4,g5,g6⟩:=c2 b pn
    exact d3 l1 g1 l2 g4 (h.inj l1 l2 r1 r2 b g2 g5 g3 g6)
   ·have Gy: ∀l,(l∈(cs.take a.size).flatMap AC.refs\/l∈(cs.drop a.size).flatMap AC.refs)->l∈cs.flatMap AC.refs:= λl hl=>by
     rw [<-List.mem_append,<-List.flatMap_append,List.take_append_drop] at hl;exact hl
    rcases List.mem_append.1 hb with hb|hb
    ·obtain ⟨l1,r1,g1,g2⟩:=c1 b hb;exact ⟨l1,r1,Gy l1 (.inl g1),g2⟩
    ·obtain ⟨l1,r1,g1,g2⟩:=c2 b hb;exact ⟨l1,r1,Gy l1 (.inr g1),g2⟩
  ·cases hv
 |_=>exact λcs us fr x hr ht _ hs Om hv=>one _ cs us fr x rfl hr ht hs Om hv
theorem DB {π':Pi} {st st':St} {a:Act} (h:Aj X π st a w) (h':Aj X π' st' a w) (k:Gd π π' st.heap st'.heap) {ls:List Nat} (hg: ∀l∈ls,Ad st'.heap l=none) {F:List Nat} (hF:F.Nodup)
  (hc: ∀b∈F,∃l r,l∈ls/\π l=some r/\r.cl b):bN X w π' F:=by
 refine ⟨hF,λb hb=>?_⟩
 obtain ⟨l,r,h1,h2,h3⟩:=hc b hb
 have hp:=h.1.place l r b h2 h3
 refine ⟨hp.1,hp.2,λl2 r2 h4 h5=>?_⟩
 cases hh:Ad st'.heap l2 with
 |none=>rw [(h'.1.heap l2).emp hh] at h4;cases h4
 |some b'=>
  have h6:=(k l2 b' hh).1
  rw [h6] at h4
  have:=h.1.inj l l2 r r2 b h2 h4 h3 h5
  subst this
  rw [hg l h1] at hh;cases hh
theorem Vs {st:St} {a:Act} (h:Aj X π st a w) {c:AV} {v:Value} (hc:Am X w π st.heap c v) {c':AV} {st':St} (he:settle st c=some (c',st')):
  ∃π',Aj X π' st' a w/\Am X w π' st'.heap c' v/\c'.settled=true/\Gd π π' st.heap st'.heap/\
   (Ms st c=true-> ∀(τ:Ty) (fr:Bool) (x:τ.den),τ.tree=true->Cq st' τ c'=some (fr,x)-> ∃F us,Be w F τ us x/\v=Ar τ us/\bN X w π' F/\ ∀b∈F,∃l r,π l=some r/\r.cl b):=by
 have cell: ∀(a0:AC) (st':St) (π':Pi),Dr X w π st.heap a0 v->Aj X π' st' a w->(Bk st a0).settled=true->Gd π π' st.heap st'.heap->(∀l∈a0.refs,Ad st'.heap l=none)->
   Lr st a0=true-> ∀(τ:Ty) (fr:Bool) (x:τ.den),τ.tree=true->Cq st' τ (.at (Bk st a0))=some (fr,x)-> ∃F us,Be w F τ us x/\v=Ar τ us/\bN X w π' F/\ ∀b∈F,∃l r,π l=some r/\r.cl b:=by
  intro a0 st1 Vz hr h1 hs hk hg ht τ fr x Om hv
  by_cases My:τ.Ab=true
  ·
   cases wK:Bk st a0 with
   |data Ow Iw y=>
    rw [wK,Xj] at hv
    split at hv
    ·rename_i het;subst het
     simp only [Option.some.injEq,Prod.mk.injEq] at hv
     obtain ⟨_,rfl⟩:=hv
     cases a0 with
     |data m7 τ2 z=>
      simp only [Bk,AC.data.injEq] at wK
      obtain ⟨rfl,rfl,hz⟩:=wK
      have hz:=eq_of_heq hz
      subst hz
      obtain ⟨cs,tb,rfl⟩:=hr
      exact ⟨[],cs,Qg _ cs _ ht tb,rfl,⟨List.nodup_nil,λb hb=>by cases hb⟩,λb hb=>by cases hb⟩
     |own l off len=>
      simp only [Bk] at wK
      split at wK
      ·simp only [AC.data.injEq] at wK;obtain ⟨_,h2,_⟩:=wK;subst h2;simp [Ty.Ab] at My
      ·simp only [AC.data.injEq] at wK;obtain ⟨_,h2,_⟩:=wK;subst h2;simp [Ty.Ab] at My
      ·cases wK
     |Fw l=>simp [Lr] at ht
     |_=>simp [Bk] at wK
    ·cases hv
   |_=>rw [wK] at hv;simp only [Cq,My,if_true] at hv;cases hv
  ·simp only [Bool.not_eq_true] at My
   have FL:Bl st τ (Bk st a0)=some (fr,x):=by
    rw [<-Tz (st:=st) (st':=st1) hs]
    cases wK:Bk st a0 with
    |data Ow Iw y=>
     rw [wK,Xj] at hv
     rw [Io]
     split at hv
     ·rename_i het;rw [dif_pos het];exact hv
     ·rename_i het
      rw [dif_neg het]
      simp only [My,Bool.false_eq_true,if_false,uT,Io] at hv
      rw [dif_neg het] at hv
      exact hv
    |Hi=>rw [wK] at hv;simp only [Cq,My,Bool.false_eq_true,if_false] at hv;rw [Km rfl] at hv;exact hv
    |Pq=>rw [wK] at hv;simp only [Cq,My,Bool.false_eq_true,if_false] at hv;rw [Km rfl] at hv;exact hv
    |_=>rw [wK] at hs;simp [AC.settled] at hs
   obtain ⟨F,f1,f2,f3⟩:=j6 h.1 hr ht τ fr x My Om FL
   exact ⟨F,[v],f1,by simp [Ar,My],DB h h1 hk hg f2 f3,λb hb=>let ⟨l,r,_,q⟩:=f3 b hb;⟨l,r,q⟩⟩
 unfold settle at he
 split at he
 ·rename_i l off len
  split at he
  ·rename_i fr tr e tid xs hl
   simp only [Option.some.injEq,Prod.mk.injEq] at he
   obtain ⟨rfl,rfl⟩:=he
   obtain ⟨h1,m⟩:=h.freeze (fr:=fr) (.inl ⟨tr,tid,hl⟩)
   have:=m.ac (.own l off len) v hc
   simp only [Bc,if_true] at this
   have gB:Bk st (.own l off len)= .data fr (.slice e) ((xs.drop off).take len):=by simp only [Bk,hl]
   refine ⟨_,h1,this,rfl,Gd.freeze st l fr e xs,λht=>?_⟩
   have:=cell (.own l off len) _ _ hc h1 (by rw [gB];rfl) (Gd.freeze st l fr e xs) (λk hk=>by rw [List.mem_singleton.1 hk];exact St.Hf st l fr e xs) ht
   rw [gB] at this
   exact this
  ·rename_i e tid xs hl
   simp only [Option.some.injEq,Prod.mk.injEq] at he
   obtain ⟨rfl,rfl⟩:=he
   obtain ⟨h1,m⟩:=h.freeze (fr:=false) (.inr ⟨rfl,tid,hl⟩)
   have:=m.ac (.own l off len) v hc
   simp only [Bc,if_true] at this
   have gB:Bk st (.own l off len)= .data false (.slice e) ((xs.drop off).take len):=by simp only [Bk,hl]
   refine ⟨_,h1,this,rfl,Gd.freeze st l false e xs,λht=>?_⟩
   have:=cell (.own l off len) _ _ hc h1 (by rw [gB];rfl) (Gd.freeze st l false e xs) (λk hk=>by rw [List.mem_singleton.1 hk];exact St.Hf st l false e xs) ht
   rw [gB] at this
   exact this
  ·cases he
 ·rename_i l
  split at he
  ·rename_i vt mm hl
   simp only [Option.some.injEq,Prod.mk.injEq] at he
   obtain ⟨rfl,rfl⟩:=he
   obtain ⟨h1,m⟩:=h.Eh hl
   have:=m.ac (.Fw l) v hc
   simp only [Df,if_true] at this
   exact ⟨_,h1,this,rfl,Gd.Eh st l vt mm,λht=>by simp [Ms,Lr] at ht⟩
  ·cases he
 ·rename_i a0 _ _
  split at he
  ·rename_i hs
   simp only [Option.some.injEq,Prod.mk.injEq] at he
   obtain ⟨rfl,rfl⟩:=he
   refine ⟨π,h,hc,hs,Gd.refl _ _,λht=>?_⟩
   have gB:=Mp (st:=st) hs
   have:=cell a0 st π hc h (by rw [gB];exact hs) (Gd.refl _ _) (λk hk=>by
    cases a0<;>simp [AC.settled] at hs<;>simp [AC.refs] at hk) ht
   rw [gB] at this
   exact this
  ·cases he
 ·rename_i cs
  cases hsc:Dm cs.length st cs with
  |none=>rw [hsc] at he;cases he
  |some p=>
   rw [hsc] at he
   simp only [Option.map_some,Option.some.injEq,Prod.mk.injEq] at he
   obtain ⟨rfl,rfl⟩:=he
   obtain ⟨us,rfl,hr⟩:=hc
   obtain ⟨π',h2,h3,h4,h5,h6,h7⟩:=bw cs.length st π cs us p.1 p.2 h hr hsc
   refine ⟨π',h2,⟨us,rfl,h3⟩,h4,h5,λht τ fr x Om hv=>?_⟩
   simp only [Ms,Bool.and_eq_true] at ht
   simp only [Cq] at hv
   split at hv
   ·rename_i My
    rw [h6] at hv h4
    obtain ⟨F,f1,f2,f3⟩:=qD h.1 τ cs us fr x hr ht.1 (Qn ht.2) h4 Om hv
    exact ⟨F,us,f1,by simp [Ar,My],DB h h2 h5 h7 f2 f3,λb hb=>let ⟨l,r,_,q⟩:=f3 b hb;⟨l,r,q⟩⟩
   ·cases hv
 ·simp only [Option.some.injEq,Prod.mk.injEq] at he
  obtain ⟨rfl,rfl⟩:=he
  exact ⟨π,h,hc,rfl,Gd.refl _ _,λht=>by simp [Ms] at ht⟩
 ·cases he
theorem bU {o i j s p:Nat} (Ey:i≠j) (hp:p<s):(o+i)*s+p<(o+j)*s\/(o+j)*s+s<=(o+i)*s+p:=by
 rcases Nat.lt_or_gt_of_ne Ey with h|h
 ·left
  have:(o+i+1)*s<=(o+j)*s:=Nat.mul_le_mul_right _ (by omega)
  rw [Nat.add_mul,Nat.one_mul] at this
  omega
 ·right
  have:(o+j+1)*s<=(o+i)*s:=Nat.mul_le_mul_right _ (by omega)
  rw [Nat.add_mul,Nat.one_mul] at this
  omega
theorem Eb {α:Type} (l ys:List α) (i k:Nat) (h:i+ys.length<=l.length):(Bo l i ys)[k]?=if k<i then l[k]? else if k<i+ys.length then ys[k-i]? else l[k]?:=by
 unfold Bo
 have t1:(l.take i).length=i:=by simp;omega
 split
 ·rename_i hk
  rw [List.append_assoc,List.getElem?_append_left (by omega),List.getElem?_take,if_pos hk]
 ·split
  ·rename_i hk
   rw [List.append_assoc,List.getElem?_append_right (by omega),t1,List.getElem?_append_left (by omega)]
  ·rw [List.getElem?_append_right (by simp;omega),List.getElem?_drop]
   congr 1
   simp;omega
theorem Ek {α:Type} (l ys:List α) (i:Nat) (h:i+ys.length<=l.length):(Bo l i ys).length=l.length:=by
 unfold Bo;simp;omega
theorem uG (hT:Bz P T) {st:St} {a:Act} (h:Aj X π st a w) {t:TypeId} {e:Ty} (ht:T.ty t=some e) {l j:Nat} {r:Real} {vx:Value} {tid:TypeId} {fr Ow:Bool} {xs:List e.den} {x:e.den}
  (hp:π l=some r) {tr:Bool} (hl:Ad st.heap l=some (.arr fr tr e tid xs)) (hj:j<xs.length) (hx:Bb w (Bd X.w0.heap.size X.Sc π Ow) e vx x):
  ∃w',(Instr.storeAt t (.pointer (some ⟨r.g,(r.o+j)*e.size,none⟩)) vx).run P w= .ok () w'/\Aj X π (st.Fk l (.arr (fr&&Ow) false e tid (xs.set j x))) a w':=by
 have hb:=(h.1.heap l).Ld hl
 simp only [Au,Fm,hp] at hb
 obtain ⟨h1,cur,ti,h2,h3,h4,h5,h6,_⟩:=hb
 obtain ⟨es,bL,hv⟩:=hx
 have ic:=Cells.len e es x bL
 have Qh:(r.o+j)*e.size+es.length<=cur.size:=by
  have:(r.o+j+1)*e.size<=(r.o+r.cap)*e.size:=Nat.mul_le_mul_right _ (by omega)
  rw [Nat.add_mul (r.o+j) 1,Nat.one_mul] at this
  omega
 have Sa:(r.o+j)*e.size+es.length<=cur.toList.length:=by simpa using Qh
 have Oj:=Pg (P:=P) (w:=w) (hT.ty _ _ ht) r.g ((r.o+j)*e.size) vx es (by rw [hv];exact Gi e es x bL) ic (Cells.plain e es x bL) cur ti h2 Qh
 refine ⟨_,by simp only [Instr.storeAt,Instr.sureAddr];simpa using Oj,?_⟩
 refine h.set hl (b:= .arr (fr&&Ow) false e tid (xs.set j x)) ⟨rfl,by simp⟩ (by rw [hp];exact Ij w r.g _) λm=>?_
 simp only [Au,Fm,hp]
 refine ⟨⟨h1.1,h1.2.1,λhf=>h1.2.2 (by simp only [Bool.and_eq_true] at hf;exact hf.1)⟩,_,_,setRow_heap w r.g cur _ ti _ h2,by rw [List.size_toArray,Ek _ _ _ Sa];simpa using h3,h4,by simpa using h5,λi y hy=>?_,λhf=>by cases hf⟩
 rw [List.getElem?_set] at hy
 split at hy
 ·rename_i pH;subst pH
  simp only [Option.some.injEq] at hy;subst hy
  refine ⟨es,ic,λk u hu=>?_,(m.cells Ow e es x bL).and_right⟩
  have hk:k<es.length:=(List.getElem?_eq_some_iff.1 hu).1
  rw [List.getElem?_toArray,Eb _ _ _ _ Sa,if_neg (by omega),if_pos (by omega)]
  rw [show (r.o+j)*e.size+k-(r.o+j)*e.size=k by omega];exact hu
 ·rename_i pH
  obtain ⟨jb,OR,nj,wA⟩:=h6 i y hy
  refine ⟨jb,OR,λk u hu=>?_,(m.cells fr e jb y wA).and_left⟩
  have hk:k<jb.length:=(List.getElem?_eq_some_iff.1 hu).1
  have:=nj k u hu
  rw [List.getElem?_toArray,Eb _ _ _ _ Sa]
  rcases bU (o:=r.o) (i:=i) (j:=j) (s:=e.size) (p:=k) (Ne.symm pH) (by omega) with Fh|jd
  ·rw [if_pos Fh];simpa using this
  ·rw [if_neg (by omega),if_neg (by omega)];simpa using this
theorem eU: ∀(Fs:List (List Nat)) (i:Nat) (F':List Nat),(List.flatten Fs).Nodup->F'.Nodup->(∀b∈F',b∉List.flatten Fs)->(List.flatten (Fs.set i F')).Nodup/\ ∀b∈List.flatten (Fs.set i F'),b∈List.flatten Fs\/b∈F'
 | [],i,F',_,_,_=>by simp
 |G::Fs,0,F',hn,ma,hs=>by
  simp only [List.set_cons_zero,List.flatten_cons] at hn hs⊢
  obtain ⟨n1,n2,n3⟩:=List.nodup_append.1 hn
  refine ⟨List.nodup_append.2 ⟨ma,n2,λa ha b hb e=>hs a ha (List.mem_append_right _ (e▸hb))⟩,λb hb=>?_⟩
  rcases List.mem_append.1 hb with hb|hb
  ·exact .inr hb
  ·exact .inl (List.mem_append_right _ hb)
 |G::Fs,i+1,F',hn,ma,hs=>by
  simp only [List.set_cons_succ,List.flatten_cons] at hn hs⊢
  obtain ⟨n1,n2,n3⟩:=List.nodup_append.1 hn
  obtain ⟨m1,m2⟩:=eU Fs i F' n2 ma λb hb hm=>hs b hb (List.mem_append_right _ hm)
  refine ⟨List.nodup_append.2 ⟨n1,m1,λa ha b hb e=>?_⟩,λb hb=>?_⟩
  ·subst e
   rcases m2 a hb with h|h
   ·exact n3 a ha a h rfl
   ·exact hs a h (List.mem_append_left _ ha)
  ·rcases List.mem_append.1 hb with hb|hb
   ·exact .inl (List.mem_append_left _ hb)
   ·exact (m2 b hb).imp (List.mem_append_right _) id
theorem qB (hT:Bz P T) {st:St} {a:Act} (h:Aj X π st a w) {t:TypeId} {e:Ty} (ht:T.ty t=some e) {l j:Nat} {r:Real} {vx:Value} {tid:TypeId} {fr Ow:Bool} {xs:List e.den} {x:e.den}
  (hp:π l=some r) (hl:Ad st.heap l=some (.arr fr true e tid xs)) (hj:j<xs.length) (hx:Bb w (Bd X.w0.heap.size X.Sc π Ow) e vx x) {F:List Nat} {us:List Value} (hF:Be w F e us x) (KU:vx=Ar e us) (ie:bN X w π F):
  ∃w',(Instr.storeAt t (.pointer (some ⟨r.g,(r.o+j)*e.size,none⟩)) vx).run P w= .ok () w'/\Aj X (Pn π l (some (r.plus F))) (st.Fk l (.arr (fr&&Ow) true e tid (xs.set j x))) a w':=by
 have hb:=(h.1.heap l).Ld hl
 simp only [Au,Fm,hp] at hb
 obtain ⟨h1,cur,ti,h2,h3,h4,h5,h6,h7⟩:=hb
 obtain ⟨Fs,t1,t2,t3,t4⟩:=h7 trivial
 obtain ⟨es,bL,hv⟩:=hx
 have ic:=Cells.len e es x bL
 have Agv:us=es:=by
  have c1:=Gi e us x (Be.cells (S:= λ_=>False) F e us x hF λ_ _ h=>h)
  have c2:=Gi e es x bL
  rw [<-KU,hv,c2] at c1
  simpa using c1.symm
 subst Agv
 have Qh:(r.o+j)*e.size+us.length<=cur.size:=by
  have:(r.o+j+1)*e.size<=(r.o+r.cap)*e.size:=Nat.mul_le_mul_right _ (by omega)
  rw [Nat.add_mul (r.o+j) 1,Nat.one_mul] at this
  omega
 have Sa:(r.o+j)*e.size+us.length<=cur.toList.length:=by simpa using Qh
 have Oj:=Pg (P:=P) (w:=w) (hT.ty _ _ ht) r.g ((r.o+j)*e.size) vx us (by rw [hv];exact Gi e us x bL) ic (Cells.plain e us x bL) cur ti h2 Qh
 have Ly:r.cl r.g:=h.1.sub l r _ hp h1.1
 have hng: ∀b∈F,b≠r.g:= λb hb e=>(ie.2 b hb).2.2 l r hp (e▸Ly)
 have DO:=eU Fs j F (List.nodup_cons.1 t2).2 ie.1 λb hb hm=>(ie.2 b hb).2.2 l r hp (t3 b hm)
 refine ⟨_,by simp only [Instr.storeAt,Instr.sureAddr];simpa using Oj,?_⟩
 refine h.Ahe hl (b:= .arr (fr&&Ow) true e tid (xs.set j x)) ⟨rfl,by simp⟩ hp (λc hc=>⟨(ie.2 c hc).1,(ie.2 c hc).2.1,λm r0 _=>(ie.2 c hc).2.2 m r0⟩) (Ij w r.g _) λm=>?_
 simp only [Au,Fm]
 have cell: ∀(i:Nat) (jb:List Value),i≠j->jb.length=e.size->(∀k u,jb[k]?=some u->cur[(r.o+i)*e.size+k]?=some u)-> ∀k u,jb[k]?=some u->(Bo cur.toList ((r.o+j)*e.size) us).toArray[(r.o+i)*e.size+k]?=some u:=by
  intro i jb jC OR nj k u hu
  have hk:k<jb.length:=(List.getElem?_eq_some_iff.1 hu).1
  have:=nj k u hu
  rw [List.getElem?_toArray,Eb _ _ _ _ Sa]
  rcases bU (o:=r.o) (i:=i) (j:=j) (s:=e.size) (p:=k) jC (by omega) with Fh|jd
  ·rw [if_pos Fh];simpa using this
  ·rw [if_neg (by omega),if_neg (by omega)];simpa using this
 have SB: ∀k u,us[k]?=some u->(Bo cur.toList ((r.o+j)*e.size) us).toArray[(r.o+j)*e.size+k]?=some u:=by
  intro k u hu
  have hk:k<us.length:=(List.getElem?_eq_some_iff.1 hu).1
  rw [List.getElem?_toArray,Eb _ _ _ _ Sa,if_neg (by omega),if_pos (by omega)]
  rw [show (r.o+j)*e.size+k-(r.o+j)*e.size=k by omega];exact hu
 refine ⟨⟨h1.1,h1.2.1,λhf=>h1.2.2 (by simp only [Bool.and_eq_true] at hf;exact hf.1)⟩,_,_,setRow_heap w r.g cur _ ti _ h2,by rw [List.size_toArray,Ek _ _ _ Sa,Array.length_toList];exact h3,h4,by rw [List.length_set];exact h5,λi y hy=>?_,λ_=>?_⟩
 ·rw [List.getElem?_set] at hy
  split at hy
  ·rename_i pH;subst pH
   simp only [Option.some.injEq] at hy;subst hy
   exact ⟨us,ic,SB,(m.cells Ow e us x bL).and_right⟩
  ·rename_i pH
   obtain ⟨jb,OR,nj,wA⟩:=h6 i y hy
   exact ⟨jb,OR,cell i jb (Ne.symm pH) OR nj,(m.cells fr e jb y wA).and_left⟩
 ·refine ⟨Fs.set j F,by simp [t1],List.nodup_cons.2 ⟨λhm=>?_,DO.1⟩,λb hb=>?_,λi y G hy hG=>?_⟩
  ·rcases DO.2 _ hm with h8|h8
   ·exact (List.nodup_cons.1 t2).1 h8
   ·exact hng _ h8 rfl
  ·exact (DO.2 b hb).imp (t3 b) id
  ·rw [List.getElem?_set] at hy hG
   split at hy
   ·rename_i pH;subst pH
    rw [if_pos rfl] at hG
    rw [if_pos (by omega)] at hG
    simp only [Option.some.injEq] at hy hG;subst hy;subst hG
    exact ⟨us,ic,SB,hF.Cj _ _ _ _ (by simp) λb hb=>setRow_other w r.g b _ (hng b hb)⟩
   ·rename_i pH
    rw [if_neg pH] at hG
    obtain ⟨jb,OR,nj,wA⟩:=t4 i y G hy hG
    exact ⟨jb,OR,cell i jb (Ne.symm pH) OR nj,wA.Cj _ _ _ _ (by simp) λb hb=>setRow_other w r.g b _ λe=>(List.nodup_cons.1 t2).1 (List.mem_flatten.2 ⟨G,List.mem_of_getElem? hG,e▸hb⟩)⟩
theorem lz (hT:Bz P T) {st:St} {a:Act} (h:Aj X π st a w) (t:TypeId) (p x:AV) (vp vx:Value) (hp:Am X w π st.heap p vp) (hx:Am X w π st.heap x vx) (st':St)
  (he:Nv T st t p x=some st'): ∃w' π',(Instr.storeAt t vp vx).run P w= .ok () w'/\Aj X π' st' a w':=by
 unfold Nv at he
 split at he
 ·rename_i τ l i ht
  split at he
  ·rename_i tid vs cs hl hc
   split at he
   ·rename_i hle
    simp only [Option.some.injEq] at he
    obtain ⟨w',h1,h2⟩:=uI hT h ht hp hx hl hc hle
    split at he
    ·rename_i Ez
     simp only [Bool.and_eq_true,Nat.blt_eq] at Ez
     subst he
     obtain ⟨IS,h3⟩:=aB (T:=T) l i t τ cs.length 0 _ π (by omega) h2
     exact ⟨w',IS,h1,h3⟩
    ·subst he
     exact ⟨w',π,h1,h2⟩
   ·cases he
  ·cases he
 ·rename_i τ l j ht
  split at he
  ·rename_i x' st1 hs
   obtain ⟨Vz,h1,h2,h3,h4,h5⟩:=Vs h hx hs
   split at he
   ·rename_i fr tr e tid xs Ow y hl hv
    split at he
    ·rename_i eN;subst eN
     split at he
     ·rename_i hj
      simp only [Option.some.injEq] at he;subst he
      obtain ⟨r,b,sz,n,g1,g0,g2,g3,rfl⟩:=hp
      obtain ⟨k1,b',f,k2,k3⟩:=h4 l _ hl
      rw [g1] at k2;cases k2
      have g4:=congrArg OB.row k3
      rw [show (OB.map f b).row=b.row by cases b<;>rfl,g0] at g4
      simp only [OB.row,Option.some.injEq,Prod.mk.injEq] at g4
      obtain ⟨rfl,rfl⟩:=g4
      cases ik:(tr&&(Ms st x&&τ.tree)) with
      |false=>
       obtain ⟨w',q1,q2⟩:=uG hT h1 ht (k1.trans g3) hl hj (Jn _ x' vx Ow y h3 h2 hv)
       exact ⟨w',Vz,q1,q2⟩
      |true=>
       simp only [Bool.and_eq_true] at ik
       obtain ⟨rfl,htv,eN⟩:=ik
       obtain ⟨F,us,f1,f2,f3,_⟩:=h5 htv τ Ow y eN hv
       obtain ⟨w',q1,q2⟩:=qB hT h1 ht (k1.trans g3) hl hj (Jn _ x' vx Ow y h3 h2 hv) f1 f2 f3
       exact ⟨w',_,q1,q2⟩
     ·cases he
    ·cases he
   ·cases he
  ·cases he
 ·cases he
theorem ow {S:Nat->Prop} {e:Ty} {v:Value} {ys:List e.den} (h:Cells w S (.slice e) [v] ys):
  ∃ad c,v= .slice ad ys.length c/\(ys= []\/ ∃g o,ad=some ⟨g,o,none⟩/\ ∃news:List Value,news.length=ys.length*e.size/\(∀j u,news[j]?=some u->w.cell? ⟨g,o+j,none⟩=some u)/\(∀u∈news,u.oneCell'=true)/\(∀j u,j<ys.length*e.size->w.cell? ⟨g,o+j,none⟩=some u->news[j]?=some u)/\
   ∀(i:Nat) (y:e.den),ys[i]?=some y-> ∃es:List Value,es.length=e.size/\(∀j u,es[j]?=some u->news[i*e.size+j]?=some u)/\Cells w S e es y):=by
 simp only [Cells] at h
 obtain ⟨ad,len,cap,hv,hl,nf,zl⟩:=h
 simp only [List.cons.injEq,and_true] at hv
 subst hl
 refine ⟨ad,cap,hv,?_⟩
 rcases zl with h0|⟨g,o,rfl,hg,hn,Gy⟩
 ·exact .inl h0
 ·right
  refine ⟨g,o,rfl,(List.range (ys.length*e.size)).map λj=>(w.cell? ⟨g,o+j,none⟩).getD undef,by simp,?_⟩
  have key: ∀k,k<ys.length*e.size-> ∃u,w.cell? ⟨g,o+k,none⟩=some u/\u.oneCell'=true:=by
   intro k hk
   have hs:0<e.size:=by
    rcases Nat.eq_zero_or_pos e.size with h|h
    ·rw [h] at hk;simp at hk
    ·exact h
   have hi:k/e.size<ys.length:=(Nat.div_lt_iff_lt_mul hs).2 hk
   obtain ⟨es,bL,hc,Ve⟩:=Gy (k/e.size) _ (List.getElem?_eq_getElem hi)
   have hm:k%e.size<es.length:=by rw [bL];exact Nat.mod_lt _ hs
   have:=hc (k%e.size) _ (List.getElem?_eq_getElem hm)
   rw [Nat.add_assoc,show k/e.size*e.size+k%e.size=k by rw [Nat.mul_comm];exact Nat.div_add_mod k e.size] at this
   exact ⟨_,this,Cells.plain e es _ Ve _ (List.getElem_mem hm)⟩
  refine ⟨λj u hu=>?_,λu hu=>?_,λj u hj hu=>by rw [List.getElem?_map,List.getElem?_range hj];simp [hu],λi y hy=>?_⟩
  ·rw [List.getElem?_map] at hu
   have hj:j<ys.length*e.size:=by
    by_cases hj:j<ys.length*e.size
    ·exact hj
    ·rw [List.getElem?_eq_none (by simpa using hj)] at hu;cases hu
   rw [List.getElem?_range hj] at hu
   obtain ⟨u',bI,_⟩:=key j hj
   simp only [Option.map_some,bI,Option.getD_some,Option.some.injEq] at hu
   rw [bI,hu]
  ·obtain ⟨j,hj,rfl⟩:=List.mem_map.1 hu
   obtain ⟨u',bI,h1⟩:=key j (List.mem_range.1 hj)
   rw [bI];exact h1
  ·obtain ⟨es,bL,hc,Ve⟩:=Gy i y hy
   refine ⟨es,bL,λj u hu=>?_,Ve⟩
   have hi:=(List.getElem?_eq_some_iff.1 hy).1
   have hj:=(List.getElem?_eq_some_iff.1 hu).1
   have Fh:i*e.size+j<ys.length*e.size:=by
    have:(i+1)*e.size<=ys.length*e.size:=Nat.mul_le_mul_right _ (by omega)
    rw [Nat.add_mul,Nat.one_mul] at this
    omega
   rw [List.getElem?_map,List.getElem?_range Fh]
   have:=hc j u hu
   rw [Nat.add_assoc] at this
   simp [this]
end
end Go.Proofs.YtfolipnappekaaaGreat
