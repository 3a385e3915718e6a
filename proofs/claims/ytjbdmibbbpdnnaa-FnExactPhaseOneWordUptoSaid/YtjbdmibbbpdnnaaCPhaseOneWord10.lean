/-
  Part 11 of the proof that the statement FnExactPhaseOneWord holds.
-/
import Derived.Test.YtjbdmibbbpdnnaaCPhaseOneWord09
namespace Go.Proofs.Ytjbdmibbbpdnnaa
open Go.RowKit
section
variable {P:Program} {T:Tab} {X:Ctx} {w w':World} {π:Pi} {H:List (Nat×OB)}
theorem OB.map_map (f g:AC->AC) (b:OB):OB.map g (OB.map f b)=OB.map (λc=>g (f c)) b:=by
 cases b with
 |var t vs=>simp [OB.map,Function.comp_def]
 |_=>rfl
theorem OB.wc (b:OB):OB.map (λc=>c) b=b:=by
 cases b with
 |var t vs=>simp [OB.map]
 |_=>rfl
def Gg (π π':Pi) (H H':List (Nat×OB)):Prop:= ∀l b',Ae H' l=some b'->π' l=π l/\ ∃b f,Ae H l=some b/\b'=OB.map f b
theorem Gg.refl (π:Pi) (H:List (Nat×OB)):Gg π π H H:= λ_ b h=>⟨rfl,b,λc=>c,h,(OB.wc b).symm⟩
theorem Gg.trans {Vo GG π3:Pi} {H1 H2 H3:List (Nat×OB)} (h:Gg Vo GG H1 H2) (h':Gg GG π3 H2 H3):Gg Vo π3 H1 H3:= λl b hb=>by
 obtain ⟨e1,b1,f1,h1,rfl⟩:=h' l b hb
 obtain ⟨e2,b2,f2,h2,rfl⟩:=h l b1 h1
 exact ⟨e1.trans e2,b2,_,h2,OB.map_map f2 f1 b2⟩
theorem Gg.freeze (st:St) (l:Nat) (fr:Bool) (e:Ty) (xs:List e.den):Gg π (Pu π l none) st.heap (st.freeze l fr e xs).heap:= λk b hb=>by
 by_cases hk:k=l
 ·subst hk;rw [St.He] at hb;cases hb
 ·rw [St.Li st l k fr e xs hk] at hb
  cases h0:Ae st.heap k with
  |none=>rw [h0] at hb;cases hb
  |some b0=>
   rw [h0] at hb
   simp only [Option.map_some,Option.some.injEq] at hb
   exact ⟨De π none hk,b0,_,rfl,hb.symm⟩
theorem Gg.Ek (st:St) (l:Nat) (v:Ty) (m:ByteArray->Option v.den):Gg π (Pu π l none) st.heap (st.Ek l v m).heap:= λk b hb=>by
 by_cases hk:k=l
 ·subst hk;rw [St.Mh] at hb;cases hb
 ·rw [St.Kx st l k v m hk] at hb
  cases h0:Ae st.heap k with
  |none=>rw [h0] at hb;cases hb
  |some b0=>
   rw [h0] at hb
   simp only [Option.map_some,Option.some.injEq] at hb
   exact ⟨De π none hk,b0,_,rfl,hb.symm⟩
theorem Gg.gone {π':Pi} {H':List (Nat×OB)} (k:Gg π π' H H') {l:Nat} (h:Ae H l=none):Ae H' l=none:=by
 cases hb:Ae H' l with
 |none=>rfl
 |some b=>
  obtain ⟨_,b0,f,h1,_⟩:=k l b hb
  rw [h] at h1;cases h1
def Bk (st:St):AC->AC
 | .own l off len=>match st.at l with
  |some (.arr fr _ e _ xs)=> .data fr (.slice e) ((xs.drop off).take len)
  |some (.Dg e _ xs)=> .data false (.slice e) ((xs.drop off).take len)
  |_=> .own l off len
 | .Gi l=>match st.at l with
  |some (.Oh v m)=> .data false (.smap v) m
  |_=> .Gi l
 |c=>c
theorem Mn {st:St} {c:AC} (h:c.settled=true):Bk st c=c:=by
 cases c<;>simp [AC.settled] at h<;>rfl
theorem px {st st':St} {f:AC->AC} {l:Nat} (hH: ∀m,m≠l->Ae st'.heap m=(Ae st.heap m).map (OB.map f)) {c:AC} (hc: ∀k∈c.refs,k≠l):Bk st' c=Bk st c:=by
 cases c with
 |own k off len=>
  have hk:k≠l:=hc k (by simp [AC.refs])
  simp only [Bk,St.at,hH k hk]
  cases Ae st.heap k with
  |none=>rfl
  |some b=>cases b<;>rfl
 |Gi k=>
  have hk:k≠l:=hc k (by simp [AC.refs])
  simp only [Bk,St.at,hH k hk]
  cases Ae st.heap k with
  |none=>rfl
  |some b=>cases b<;>rfl
 |_=>rfl
theorem bb {a:Act} : ∀(n:Nat) (st:St) (π:Pi) (cs:List AC) (us:List Value) (bP:List AC) (st':St),Ai X π st a w->Cw X w π st.heap cs us->
  Dq n st cs=some (bP,st')-> ∃π',Ai X π' st' a w/\Cw X w π' st'.heap bP us/\bP.all (·.settled)=true/\Gg π π' st.heap st'.heap/\bP=cs.map (Bk st)/\
   (∀k,k∈cs.flatMap AC.refs->Ae st'.heap k=none)
 |0,st,π,cs,us,bP,st',h,hr,he=>by
  simp only [Dq] at he
  split at he
  ·rename_i hs
   simp only [Option.some.injEq,Prod.mk.injEq] at he
   obtain ⟨rfl,rfl⟩:=he
   have um:=List.all_eq_true.1 hs
   exact ⟨π,h,hr,hs,Gg.refl _ _,((List.map_congr_left λc hc=>Mn (um c hc)).trans (List.map_id'' (λ_=>rfl) cs)).symm,λk hk=>by
    obtain ⟨c,hc,ui⟩:=List.mem_flatMap.1 hk
    have:=um c hc
    cases c<;>simp [AC.settled] at this<;>simp [AC.refs] at ui⟩
  ·cases he
 |n+1,st,π,cs,us,bP,st',h,hr,he=>by
  simp only [Dq] at he
  have step: ∀(f:AC->AC) (l:Nat) (st1:St),Ai X (Pu π l none) st1 a w->Move X w w π (Pu π l none) st.heap st1.heap f->Ae st1.heap l=none->(∀m,m≠l->Ae st1.heap m=(Ae st.heap m).map (OB.map f))->
    Gg π (Pu π l none) st.heap st1.heap->(∀c∈cs,(∀k∈c.refs,k≠l)->f c=c)->(∀c∈cs,l∈c.refs->(f c).refs= []/\(Bk st1 (f c)).settled=true->f c=Bk st c)->
    (∀c∈cs,l∈c.refs->(f c).refs= [])->Dq n st1 (cs.map f)=some (bP,st')->
    ∃π',Ai X π' st' a w/\Cw X w π' st'.heap bP us/\bP.all (·.settled)=true/\Gg π π' st.heap st'.heap/\bP=cs.map (Bk st)/\(∀k,k∈cs.flatMap AC.refs->Ae st'.heap k=none):=by
   intro f l st1 h1 m hl hH hK hf0 hf1 TK he
   obtain ⟨π',h2,h3,h4,h5,h6,h7⟩:=bb n st1 _ (cs.map f) us bP st' h1 (m.MZ hr) he
   refine ⟨π',h2,h3,h4,hK.trans h5,?_,λk hk=>?_⟩
   ·rw [h6,List.map_map]
    refine List.map_congr_left λc hc=>?_
    simp only [Function.comp]
    by_cases Kv:l∈c.refs
    ·have Hz:=List.all_eq_true.1 h4
     have fz:Bk st1 (f c)∈bP:=by rw [h6];exact List.mem_map.2 ⟨f c,List.mem_map.2 ⟨c,hc,rfl⟩,rfl⟩
     have hs:=Hz _ fz
     have h8:=hf1 c hc Kv ⟨TK c hc Kv,hs⟩
     have h9:Bk st1 (f c)=f c:=by
      have:=TK c hc Kv
      cases hfc:f c<;>rw [hfc] at this<;>first|(simp [AC.refs] at this;done)|rfl
     rw [h9,h8]
    ·have El: ∀k∈c.refs,k≠l:= λk hk e=>Kv (e▸hk)
     rw [hf0 c hc El]
     exact px hH El
   ·obtain ⟨c,hc,ui⟩:=List.mem_flatMap.1 hk
    by_cases Ht:k=l
    ·subst Ht;exact h5.gone hl
    ·by_cases Kv:l∈c.refs
     ·
      have Hz:=List.all_eq_true.1 h4
      have fz:Bk st1 (f c)∈bP:=by rw [h6];exact List.mem_map.2 ⟨f c,List.mem_map.2 ⟨c,hc,rfl⟩,rfl⟩
      have hs:=Hz _ fz
      have h8:=hf1 c hc Kv ⟨TK c hc Kv,hs⟩
      have h9:Bk st1 (f c)=f c:=by
       have:=TK c hc Kv
       cases hfc:f c<;>rw [hfc] at this<;>first|(simp [AC.refs] at this;done)|rfl
      rw [h9,h8] at hs
      cases c with
      |clo g Bv=>simp [Bk,AC.settled] at hs
      |own k' _ _=>simp [AC.refs] at Kv ui;exact absurd (ui.trans Kv.symm) Ht
      |Gi k'=>simp [AC.refs] at Kv ui;exact absurd (ui.trans Kv.symm) Ht
      |Dw k' _=>simp [AC.refs] at Kv ui;exact absurd (ui.trans Kv.symm) Ht
      |Fz k' _=>simp [AC.refs] at Kv ui;exact absurd (ui.trans Kv.symm) Ht
      |sub k' _ _=>simp [AC.refs] at Kv ui;exact absurd (ui.trans Kv.symm) Ht
      |Fw k' _ _=>simp [AC.refs] at Kv ui;exact absurd (ui.trans Kv.symm) Ht
      |_=>simp [AC.refs] at ui
     ·have El: ∀k∈c.refs,k≠l:= λk hk e=>Kv (e▸hk)
      exact h7 k (List.mem_flatMap.2 ⟨f c,List.mem_map.2 ⟨c,hc,rfl⟩,by rw [hf0 c hc El];exact ui⟩)
  have uq: ∀(st1:St) (c:AC),(Bk st1 c).settled=true->c≠ .undef:= λst1 c hs e=>by rw [e] at hs;simp [Bk,AC.settled] at hs
  split at he
  ·rename_i hf
   simp only [Option.some.injEq,Prod.mk.injEq] at he
   obtain ⟨rfl,rfl⟩:=he
   have um: ∀c∈cs,c.settled=true:= λc hc=>by have:=List.find?_eq_none.1 hf c hc;simpa using this
   exact ⟨π,h,hr,List.all_eq_true.2 um,Gg.refl _ _,((List.map_congr_left λc hc=>Mn (um c hc)).trans (List.map_id'' (λ_=>rfl) cs)).symm,λk hk=>by
    obtain ⟨c,hc,ui⟩:=List.mem_flatMap.1 hk
    have:=um c hc
    cases c<;>simp [AC.settled] at this<;>simp [AC.refs] at ui⟩
  ·rename_i l off len hf
   split at he
   ·rename_i fr tr e tid xs hl
    unfold St.at at hl
    obtain ⟨h1,m⟩:=h.freeze (fr:=fr) (.inl ⟨tr,tid,hl⟩)
    refine step _ l _ h1 m (St.He st l fr e xs) (λm hm=>St.Li st l m fr e xs hm) (Gg.freeze st l fr e xs) (λc _ hc=>c7 hc) (λc _ Kv hs=>?_) (λc _ Kv=>?_) he
    ·cases c with
     |own k o n=>have:k=l:=(List.mem_singleton.1 Kv).symm
                 subst this;simp only [Bb,if_pos,Bk,St.at,hl]
     |Dw k o=>have:k=l:=(List.mem_singleton.1 Kv).symm
              subst this;simp only [Bb,if_pos] at hs;exact absurd rfl (uq _ _ hs.2)
     |Fz k o=>have:k=l:=(List.mem_singleton.1 Kv).symm
              subst this;simp only [Bb,if_pos] at hs;exact absurd rfl (uq _ _ hs.2)
     |sub k o o2=>have:k=l:=(List.mem_singleton.1 Kv).symm
                  subst this;simp only [Bb,if_pos] at hs;exact absurd rfl (uq _ _ hs.2)
     |Fw k o o2=>have:k=l:=(List.mem_singleton.1 Kv).symm
                 subst this;simp only [Bb,if_pos] at hs;exact absurd rfl (uq _ _ hs.2)
     |Gi k=>have:k=l:=(List.mem_singleton.1 Kv).symm
            subst this;simp only [Bb,if_pos] at hs;exact absurd rfl (uq _ _ hs.2)
     |clo g Bv=>
      simp only [Bb] at hs
      rw [if_pos (by simpa [AC.refs] using Kv)] at hs
      exact absurd rfl (uq _ _ hs.2)
     |_=>simp [AC.refs] at Kv
    ·cases c with
     |own k o n=>have:k=l:=(List.mem_singleton.1 Kv).symm
                 subst this;simp only [Bb,if_pos];rfl
     |Dw k o=>have:k=l:=(List.mem_singleton.1 Kv).symm
              subst this;simp only [Bb,if_pos];rfl
     |Fz k o=>have:k=l:=(List.mem_singleton.1 Kv).symm
              subst this;simp only [Bb,if_pos];rfl
     |sub k o o2=>have:k=l:=(List.mem_singleton.1 Kv).symm
                  subst this;simp only [Bb,if_pos];rfl
     |Fw k o o2=>have:k=l:=(List.mem_singleton.1 Kv).symm
                 subst this;simp only [Bb,if_pos];rfl
     |Gi k=>have:k=l:=(List.mem_singleton.1 Kv).symm
            subst this;simp only [Bb,if_pos];rfl
     |clo g Bv=>simp only [Bb];rw [if_pos (by simpa [AC.refs] using Kv)];rfl
     |_=>simp [AC.refs] at Kv
   ·rename_i e tid xs hl
    unfold St.at at hl
    obtain ⟨h1,m⟩:=h.freeze (fr:=false) (.inr ⟨rfl,tid,hl⟩)
    refine step _ l _ h1 m (St.He st l false e xs) (λm hm=>St.Li st l m false e xs hm) (Gg.freeze st l false e xs) (λc _ hc=>c7 hc) (λc _ Kv hs=>?_) (λc _ Kv=>?_) he
    ·cases c with
     |own k o n=>have:k=l:=(List.mem_singleton.1 Kv).symm
                 subst this;simp only [Bb,if_pos,Bk,St.at,hl]
     |Dw k o=>have:k=l:=(List.mem_singleton.1 Kv).symm
              subst this;simp only [Bb,if_pos] at hs;exact absurd rfl (uq _ _ hs.2)
     |Fz k o=>have:k=l:=(List.mem_singleton.1 Kv).symm
              subst this;simp only [Bb,if_pos] at hs;exact absurd rfl (uq _ _ hs.2)
     |sub k o o2=>have:k=l:=(List.mem_singleton.1 Kv).symm
                  subst this;simp only [Bb,if_pos] at hs;exact absurd rfl (uq _ _ hs.2)
     |Fw k o o2=>have:k=l:=(List.mem_singleton.1 Kv).symm
                 subst this;simp only [Bb,if_pos] at hs;exact absurd rfl (uq _ _ hs.2)
     |Gi k=>have:k=l:=(List.mem_singleton.1 Kv).symm
            subst this;simp only [Bb,if_pos] at hs;exact absurd rfl (uq _ _ hs.2)
     |clo g Bv=>
      simp only [Bb] at hs
      rw [if_pos (by simpa [AC.refs] using Kv)] at hs
      exact absurd rfl (uq _ _ hs.2)
     |_=>simp [AC.refs] at Kv
    ·cases c with
     |own k o n=>have:k=l:=(List.mem_singleton.1 Kv).symm
                 subst this;simp only [Bb,if_pos];rfl
     |Dw k o=>have:k=l:=(List.mem_singleton.1 Kv).symm
              subst this;simp only [Bb,if_pos];rfl
     |Fz k o=>have:k=l:=(List.mem_singleton.1 Kv).symm
              subst this;simp only [Bb,if_pos];rfl
     |sub k o o2=>have:k=l:=(List.mem_singleton.1 Kv).symm
                  subst this;simp only [Bb,if_pos];rfl
     |Fw k o o2=>have:k=l:=(List.mem_singleton.1 Kv).symm
                 subst this;simp only [Bb,if_pos];rfl
     |Gi k=>have:k=l:=(List.mem_singleton.1 Kv).symm
            subst this;simp only [Bb,if_pos];rfl
     |clo g Bv=>simp only [Bb];rw [if_pos (by simpa [AC.refs] using Kv)];rfl
     |_=>simp [AC.refs] at Kv
   ·cases he
  ·rename_i l hf
   split at he
   ·rename_i v mm hl
    unfold St.at at hl
    obtain ⟨h1,m⟩:=h.Ek hl
    refine step _ l _ h1 m (St.Mh st l v mm) (λm hm=>St.Kx st l m v mm hm) (Gg.Ek st l v mm) (λc _ hc=>mz hc) (λc _ Kv hs=>?_) (λc _ Kv=>?_) he
    ·cases c with
     |Gi k=>have:k=l:=(List.mem_singleton.1 Kv).symm
            subst this;simp only [Dj,if_pos,Bk,St.at,hl]
     |Dw k o=>have:k=l:=(List.mem_singleton.1 Kv).symm
              subst this;simp only [Dj,if_pos] at hs;exact absurd rfl (uq _ _ hs.2)
     |Fz k o=>have:k=l:=(List.mem_singleton.1 Kv).symm
              subst this;simp only [Dj,if_pos] at hs;exact absurd rfl (uq _ _ hs.2)
     |sub k o o2=>have:k=l:=(List.mem_singleton.1 Kv).symm
                  subst this;simp only [Dj,if_pos] at hs;exact absurd rfl (uq _ _ hs.2)
     |Fw k o o2=>have:k=l:=(List.mem_singleton.1 Kv).symm
                 subst this;simp only [Dj,if_pos] at hs;exact absurd rfl (uq _ _ hs.2)
     |own k o n=>have:k=l:=(List.mem_singleton.1 Kv).symm
                 subst this;simp only [Dj,if_pos] at hs;exact absurd rfl (uq _ _ hs.2)
     |clo g Bv=>
      simp only [Dj] at hs
      rw [if_pos (by simpa [AC.refs] using Kv)] at hs
      exact absurd rfl (uq _ _ hs.2)
     |_=>simp [AC.refs] at Kv
    ·cases c with
     |own k o n=>have:k=l:=(List.mem_singleton.1 Kv).symm
                 subst this;simp only [Dj,if_pos];rfl
     |Dw k o=>have:k=l:=(List.mem_singleton.1 Kv).symm
              subst this;simp only [Dj,if_pos];rfl
     |Fz k o=>have:k=l:=(List.mem_singleton.1 Kv).symm
              subst this;simp only [Dj,if_pos];rfl
     |sub k o o2=>have:k=l:=(List.mem_singleton.1 Kv).symm
                  subst this;simp only [Dj,if_pos];rfl
     |Fw k o o2=>have:k=l:=(List.mem_singleton.1 Kv).symm
                 subst this;simp only [Dj,if_pos];rfl
     |Gi k=>have:k=l:=(List.mem_singleton.1 Kv).symm
            subst this;simp only [Dj,if_pos];rfl
     |clo g Bv=>simp only [Dj];rw [if_pos (by simpa [AC.refs] using Kv)];rfl
     |_=>simp [AC.refs] at Kv
   ·cases he
  ·cases he
def bu (X:Ctx) (w:World) (π:Pi) (F:List Nat):Prop:=F.Nodup/\ ∀b∈F,(X.w0.heap.size<=b\/X.gv b)/\b<w.heap.size/\ ∀l r,π l=some r-> ¬r.cl b
theorem Ql {S:Nat->Prop} : ∀(e:Ty) (es:List Value) (x:e.den),e.flat=true->Cells w S e es x->Bf w [] e es x
 | .int k,cs,n,_,h=>⟨rfl,h⟩
 | .bool,cs,n,_,h=>⟨rfl,h⟩
 | .str,cs,n,_,h=>⟨rfl,h⟩
 | .unit,cs,n,_,h=>⟨rfl,h⟩
 | .pair a r,cs,x,hf,h=>by
  simp only [Ty.flat,Bool.and_eq_true] at hf
  simp only [Cells] at h
  simp only [Bf]
  obtain ⟨c1,c2,h1,h2,h3⟩:=h
  exact ⟨c1,c2,[],[],h1,rfl,Ql a c1 x.1 hf.1 h2,Ql r c2 x.2 hf.2 h3⟩
 | .slice _,_,_,hf,_=>by simp [Ty.flat] at hf
 | .oslice _,_,_,hf,_=>by simp [Ty.flat] at hf
 | .ptr _,_,_,hf,_=>by simp [Ty.flat] at hf
 | .optr _,_,_,hf,_=>by simp [Ty.flat] at hf
 | .smap _,_,_,hf,_=>by simp [Ty.flat] at hf
 | .clo _ _,_,_,hf,_=>by simp [Ty.flat] at hf
theorem Lr {Fs:List (List Nat)} (off len:Nat) (b:Nat) (h:b∈List.flatten ((Fs.drop off).take len)):b∈List.flatten Fs:=by
 obtain ⟨F,hF,hb⟩:=List.mem_flatten.1 h
 exact List.mem_flatten.2 ⟨F,List.mem_of_mem_drop (List.mem_of_mem_take hF),hb⟩
theorem bg {α:Type} {a b:List (List α)} (h:a.Sublist b):(List.flatten a).Sublist (List.flatten b):=by
 induction h with
 |slnil=>exact List.Sublist.refl _
 |cons c _ ih=>simp only [List.flatten_cons];exact ih.trans (List.sublist_append_right _ _)
 |cons_cons c _ ih=>simp only [List.flatten_cons];exact List.Sublist.append (List.Sublist.refl _) ih
theorem fN {Fs:List (List Nat)} (off len:Nat) (h:(List.flatten Fs).Nodup):(List.flatten ((Fs.drop off).take len)).Nodup:=by
 have h1:((Fs.drop off).take len).Sublist Fs:=(List.take_sublist len _).trans (List.drop_sublist off Fs)
 exact h.sublist (bg h1)
theorem dN {P:Nat->Prop} {r:Real} {off len:Nat} {v:Value} {e:Ty} {tid:TypeId} {xs:List e.den} {cur:Array Value} (h2:w.heap[r.g]?=some (.cells cur tid (0,0))) (Ps:cur.size=(r.o+r.cap)*e.size) (mF:r.cap<=maxLen)
  (hlen:off+len<=xs.length) (hv:Dv (some r) e.size off len v) (ht:Qc w P r.g r.o cur e xs) (hg:P r.g):
  ∃F,Bf w F (.slice e) [v] ((xs.drop off).take len)/\F.Nodup/\ ∀b∈F,P b:=by
 have MR:((xs.drop off).take len).length=len:=by simp;omega
 obtain ⟨ad,rfl,hc,ha⟩:=hv
 obtain ⟨Fs,t1,t2,t3,t4⟩:=ht
 ·refine ⟨r.g::List.flatten ((Fs.drop off).take len),⟨some ad,len,r.cap-off,rfl,MR.symm,by omega, .inr ⟨ad,r.g,(r.o+off)*e.size,_,rfl,λh0=>ha (by omega),⟨cur,tid,r.o+off,h2,rfl,by rw [Ps];congr 1;omega,by omega⟩,rfl,by simp;omega,λi x F hx hF=>?_⟩⟩,?_,λb hb=>?_⟩
  ·have hi:i<len:=by
    have:=(List.getElem?_eq_some_iff.1 hx).1
    rw [MR] at this;exact this
   have UT:xs[off+i]?=some x:=by rw [List.getElem?_take,if_pos hi,List.getElem?_drop] at hx;exact hx
   have YT:Fs[off+i]?=some F:=by rw [List.getElem?_take,if_pos hi,List.getElem?_drop] at hF;exact hF
   obtain ⟨es,he,hj,s5⟩:=t4 (off+i) x F UT YT
   refine ⟨es,he,λj u hu=>?_,s5⟩
   rw [cellOf h2]
   have:=hj j u hu
   rw [<-this]
   congr 1
   rw [<-Nat.add_assoc,Nat.add_mul (r.o+off) i]
  ·have:=List.nodup_cons.1 t2
   exact List.nodup_cons.2 ⟨λhm=>this.1 (Lr off len _ hm),fN off len this.2⟩
  ·rcases List.mem_cons.1 hb with rfl|hb
   ·exact hg
   ·exact t3 b (Lr off len b hb)
theorem iJ {st:St} (h:Hw X w π st.heap) {c:AC} {v:Value} (hc:Dx X w π st.heap c v) (ht:Ln st c=true) (τ:Ty) (fr:Bool) (x:τ.den) (Mu:τ.Ac=false) (se:τ.tree=true)
  (hv:Bm st τ (Bk st c)=some (fr,x)): ∃F,Bf w F τ [v] x/\F.Nodup/\ ∀b∈F,∃l r,l∈c.refs/\π l=some r/\r.cl b:=by
 cases c with
 |data On Iy y=>
  simp only [Ln] at ht
  simp only [Bk,Ip] at hv
  split at hv
  ·rename_i he;subst he
   simp only [Option.some.injEq,Prod.mk.injEq] at hv
   obtain ⟨_,rfl⟩:=hv
   exact ⟨[],Ql Iy _ _ ht (Bd.Ll Mu hc),List.nodup_nil,λb hb=>by cases hb⟩
  ·unfold bO at hv
   split at hv
   ·simp [Ty.flat] at ht
   ·simp [Ty.flat] at ht
   ·cases hv
 |Hp=>
  have hc:v= .slice none 0 0:=hc
  subst hc
  cases τ with
  |slice e=>
   simp only [Bk,Bm,Option.some.injEq,Prod.mk.injEq] at hv
   obtain ⟨_,rfl⟩:=hv
   exact ⟨[],⟨none,0,0,rfl,rfl,Nat.le_refl _, .inl ⟨rfl,rfl,rfl,rfl⟩⟩,List.nodup_nil,λb hb=>by cases hb⟩
  |oslice e=>simp [Ty.tree] at se
  |_=>simp [Bk,Bm] at hv
 |own l off len=>
  simp only [Ln] at ht
  split at ht
  ·rename_i On tr e tid xs hl
   have Hg:=hl
   unfold St.at at hl
   simp only [Bk,Hg,Ip] at hv
   split at hv
   ·rename_i he;subst he
    simp only [Option.some.injEq,Prod.mk.injEq] at hv
    obtain ⟨_,rfl⟩:=hv
    obtain ⟨h2,h3⟩:=Jc hc hl
    have hb:=(h.heap l).Ma hl
    simp only [Au,Fl] at hb
    cases hp:π l with
    |none=>
     rw [hp] at h3
     obtain ⟨rfl,rfl,rfl⟩:=h3
     exact ⟨[],⟨none,0,0,rfl,by simp,Nat.le_refl _, .inl ⟨by simp,rfl,rfl,rfl⟩⟩,List.nodup_nil,λb hb=>by cases hb⟩
    |some r=>
     rw [hp] at hb h3
     obtain ⟨k1,cur,_,k2,k3,k4,k5,k6,k7⟩:=hb
     have BF:Qc w r.cl r.g r.o cur e xs:=by
      simp only [Bool.or_eq_true] at ht
      rcases ht with ht|ht
      ·exact k7 ht
      ·refine ⟨List.replicate xs.length [],by simp,by simp,by simp,λi x F hx hF=>?_⟩
       obtain ⟨es,e1,e2,e3⟩:=k6 i x hx
       have:F= []:=by
        have:=List.mem_of_getElem? hF
        exact List.eq_of_mem_replicate this
       subst this
       exact ⟨es,e1,e2,Ql e es x ht e3⟩
     obtain ⟨F,f1,f2,f3⟩:=dN k2 k3 k4 h2 h3 BF (h.sub l r _ hp k1.1)
     exact ⟨F,f1,f2,λb hb=>⟨l,r,by simp [AC.refs],hp,f3 b hb⟩⟩
   ·cases τ<;>simp [bO] at hv
  ·rename_i e tid xs hl
   have Hg:=hl
   unfold St.at at hl
   simp only [Bk,Hg,Ip] at hv
   split at hv
   ·rename_i he;subst he
    simp only [Option.some.injEq,Prod.mk.injEq] at hv
    obtain ⟨_,rfl⟩:=hv
    obtain ⟨h2,h3⟩:=Vi hc hl
    have hb:=(h.heap l).Ma hl
    simp only [Au,Iq] at hb
    cases hp:π l with
    |none=>
     rw [hp] at h3
     obtain ⟨rfl,rfl,rfl⟩:=h3
     exact ⟨[],⟨none,0,0,rfl,by simp,Nat.le_refl _, .inl ⟨by simp,rfl,rfl,rfl⟩⟩,List.nodup_nil,λb hb=>by cases hb⟩
    |some r=>
     rw [hp] at hb h3
     obtain ⟨k1,cur,_,k2,k3,k4,k5,k7⟩:=hb
     obtain ⟨F,f1,f2,f3⟩:=dN k2 k3 k4 h2 h3 k7 k1
     exact ⟨F,f1,f2,λb hb=>⟨l,r,by simp [AC.refs],hp,h.sub l r b hp (f3 b hb)⟩⟩
   ·cases τ<;>simp [bO] at hv
  ·cases ht
 |_=>simp [Ln] at ht
theorem Qt: ∀ {l:List Nat},Sv l=true->l.Nodup
 | [],_=>List.nodup_nil
 |a::r,h=>by
  simp only [Sv,Bool.and_eq_true,Bool.not_eq_true',List.contains_eq_mem,decide_eq_false_iff_not] at h
  exact List.nodup_cons.2 ⟨h.1,Qt h.2⟩
theorem Tw {st st':St} {τ:Ty} {c:AC} (h:c.settled=true):Bm st' τ c=Bm st τ c:=by
 cases c<;>simp [AC.settled] at h<;>cases τ<;>rfl
theorem pL {st st':St} (h:Hw X w π st.heap): ∀(τ:Ty) (cs:List AC) (us:List Value) (fr:Bool) (x:τ.den),Cw X w π st.heap cs us->cs.all (Ln st)=true->(cs.flatMap AC.refs).Nodup->
  (cs.map (Bk st)).all (·.settled)=true->τ.tree=true->Cm st' τ (cs.map (Bk st))=some (fr,x)-> ∃F,Bf w F τ us x/\F.Nodup/\ ∀b∈F,∃l r,l∈cs.flatMap AC.refs/\π l=some r/\r.cl b:=by
 have one: ∀(τ:Ty) (cs:List AC) (us:List Value) (fr:Bool) (x:τ.den),τ.Ac=false->Cw X w π st.heap cs us->cs.all (Ln st)=true->
   (cs.map (Bk st)).all (·.settled)=true->τ.tree=true->Cm st' τ (cs.map (Bk st))=some (fr,x)-> ∃F,Bf w F τ us x/\F.Nodup/\ ∀b∈F,∃l r,l∈cs.flatMap AC.refs/\π l=some r/\r.cl b:=by
  intro τ cs us fr x Mu hr ht hs Oj hv
  rw [Mx Mu] at hv
  rcases cs with _|⟨c,_|⟨d,cs⟩⟩
  ·cases hv
  ·simp only [List.map_cons,List.map_nil] at hv
   obtain ⟨u,hu,_,hc⟩:=hr.2 0 c rfl
   have hl:us.length=1:=hr.1
   obtain ⟨u',rfl⟩:=List.length_eq_one_iff.1 hl
   simp at hu;subst hu
   rw [Tw (st:=st) (by simpa using hs)] at hv
   obtain ⟨F,f1,f2,f3⟩:=iJ h hc (by simpa using ht) τ fr x Mu Oj hv
   exact ⟨F,f1,f2,λb hb=>by obtain ⟨l,r,g1,g2⟩:=f3 b hb;exact ⟨l,r,by simpa using g1,g2⟩⟩
  ·cases hv
 intro τ
 induction τ with
 |unit=>
  intro cs us fr x hr ht hd hs Oj hv
  cases cs with
  |nil=>have:us= []:=List.eq_nil_of_length_eq_zero hr.1;subst this;exact ⟨[],⟨rfl,rfl⟩,List.nodup_nil,λb hb=>by cases hb⟩
  |cons c cs=>simp [Cm] at hv
 |pair a r gk dz=>
  intro cs us fr x hr ht hd hs Oj hv
  simp only [Ty.tree,Bool.and_eq_true] at Oj
  simp only [Cm] at hv
  split at hv
  ·rename_i f1 y f2 z h1 h2
   simp only [Option.some.injEq,Prod.mk.injEq] at hv
   obtain ⟨rfl,rfl⟩:=hv
   have OM:Cw X w π st.heap (cs.take a.size) (us.take a.size):=by have:=Sm hr 0 a.size;simpa using this
   have RW:Cw X w π st.heap (cs.drop a.size) (us.drop a.size):=
    ⟨by simp [hr.1],λi c hc=>by
     rw [List.getElem?_drop] at hc⊢
     exact hr.2 _ c hc⟩
   have Abp: ∀ {p:AC->Bool} {l:List AC} (n:Nat),l.all p=true->(l.take n).all p=true:= λn hl=>List.all_eq_true.2 λc hc=>List.all_eq_true.1 hl c (List.mem_of_mem_take hc)
   have Abq: ∀ {p:AC->Bool} {l:List AC} (n:Nat),l.all p=true->(l.drop n).all p=true:= λn hl=>List.all_eq_true.2 λc hc=>List.all_eq_true.1 hl c (List.mem_of_mem_drop hc)
   have hdd:((cs.take a.size++cs.drop a.size).flatMap AC.refs).Nodup:=by rw [List.take_append_drop];exact hd
   rw [List.flatMap_append] at hdd
   obtain ⟨d1,d2,d3⟩:=List.nodup_append.1 hdd
   rw [<-List.map_take] at h1
   rw [<-List.map_drop] at h2
   obtain ⟨F1,t1,n1,c1⟩:=gk _ _ f1 y OM (Abp _ ht) d1 (by rw [List.map_take];exact Abp _ hs) Oj.1 h1
   obtain ⟨F2,t2,n2,c2⟩:=dz _ _ f2 z RW (Abq _ ht) d2 (by rw [List.map_drop];exact Abq _ hs) Oj.2 h2
   refine ⟨F1++F2,⟨us.take a.size,us.drop a.size,F1,F2,(List.take_append_drop _ _).symm,rfl,t1,t2⟩,List.nodup_append.2 ⟨n1,n2,λb hb b' oC e=>?_⟩,λb hb=>?_⟩
   ·subst e
    obtain ⟨l1,r1,g1,g2,g3⟩:=c1 b hb
    obtain ⟨l2,r2,g4,g5,g6⟩:=c2 b oC
    exact d3 l1 g1 l2 g4 (h.inj l1 l2 r1 r2 b g2 g5 g3 g6)
   ·have Hz: ∀l,(l∈(cs.take a.size).flatMap AC.refs\/l∈(cs.drop a.size).flatMap AC.refs)->l∈cs.flatMap AC.refs:= λl hl=>by
     rw [<-List.mem_append,<-List.flatMap_append,List.take_append_drop] at hl;exact hl
    rcases List.mem_append.1 hb with hb|hb
    ·obtain ⟨l1,r1,g1,g2⟩:=c1 b hb;exact ⟨l1,r1,Hz l1 (.inl g1),g2⟩
    ·obtain ⟨l1,r1,g1,g2⟩:=c2 b hb;exact ⟨l1,r1,Hz l1 (.inr g1),g2⟩
  ·cases hv
 |_=>exact λcs us fr x hr ht _ hs Oj hv=>one _ cs us fr x rfl hr ht hs Oj hv
theorem AM {π':Pi} {st st':St} {a:Act} (h:Ai X π st a w) (h':Ai X π' st' a w) (k:Gg π π' st.heap st'.heap) {ls:List Nat} (hg: ∀l∈ls,Ae st'.heap l=none) {F:List Nat} (hF:F.Nodup)
  (hc: ∀b∈F,∃l r,l∈ls/\π l=some r/\r.cl b):bu X w π' F:=by
 refine ⟨hF,λb hb=>?_⟩
 obtain ⟨l,r,h1,h2,h3⟩:=hc b hb
 have hp:=h.1.place l r b h2 h3
 refine ⟨hp.1,hp.2,λl2 r2 h4 h5=>?_⟩
 cases hh:Ae st'.heap l2 with
 |none=>rw [(h'.1.heap l2).emp hh] at h4;cases h4
 |some b'=>
  have h6:=(k l2 b' hh).1
  rw [h6] at h4
  have:=h.1.inj l l2 r r2 b h2 h4 h3 h5
  subst this
  rw [hg l h1] at hh;cases hh
theorem Vj {st:St} {a:Act} (h:Ai X π st a w) {c:AV} {v:Value} (hc:Am X w π st.heap c v) {c':AV} {st':St} (he:settle st c=some (c',st')):
  ∃π',Ai X π' st' a w/\Am X w π' st'.heap c' v/\c'.settled=true/\Gg π π' st.heap st'.heap/\
   (Mp st c=true-> ∀(τ:Ty) (fr:Bool) (x:τ.den),τ.tree=true->Cq st' τ c'=some (fr,x)-> ∃F us,Bf w F τ us x/\v=Ar τ us/\bu X w π' F/\ ∀b∈F,∃l r,π l=some r/\r.cl b):=by
 have cell: ∀(a0:AC) (st':St) (π':Pi),Dx X w π st.heap a0 v->Ai X π' st' a w->(Bk st a0).settled=true->Gg π π' st.heap st'.heap->(∀l∈a0.refs,Ae st'.heap l=none)->
   Ln st a0=true-> ∀(τ:Ty) (fr:Bool) (x:τ.den),τ.tree=true->Cq st' τ (.at (Bk st a0))=some (fr,x)-> ∃F us,Bf w F τ us x/\v=Ar τ us/\bu X w π' F/\ ∀b∈F,∃l r,π l=some r/\r.cl b:=by
  intro a0 st1 Vo hr h1 hs hk hg ht τ fr x Oj hv
  by_cases Mu:τ.Ac=true
  ·
   cases vK:Bk st a0 with
   |data On Iy y=>
    rw [vK,Wo] at hv
    split at hv
    ·rename_i het;subst het
     simp only [Option.some.injEq,Prod.mk.injEq] at hv
     obtain ⟨_,rfl⟩:=hv
     cases a0 with
     |data lD τ2 z=>
      simp only [Bk,AC.data.injEq] at vK
      obtain ⟨rfl,rfl,hz⟩:=vK
      have hz:=eq_of_heq hz
      subst hz
      obtain ⟨cs,s5,rfl⟩:=hr
      exact ⟨[],cs,Ql _ cs _ ht s5,rfl,⟨List.nodup_nil,λb hb=>by cases hb⟩,λb hb=>by cases hb⟩
     |own l off len=>
      simp only [Bk] at vK
      split at vK
      ·simp only [AC.data.injEq] at vK;obtain ⟨_,h2,_⟩:=vK;subst h2;simp [Ty.Ac] at Mu
      ·simp only [AC.data.injEq] at vK;obtain ⟨_,h2,_⟩:=vK;subst h2;simp [Ty.Ac] at Mu
      ·cases vK
     |Gi l=>simp [Ln] at ht
     |_=>simp [Bk] at vK
    ·cases hv
   |_=>rw [vK] at hv;simp only [Cq,Mu,if_true] at hv;cases hv
  ·simp only [Bool.not_eq_true] at Mu
   have xE:Bm st τ (Bk st a0)=some (fr,x):=by
    rw [<-Tw (st:=st) (st':=st1) hs]
    cases vK:Bk st a0 with
    |data On Iy y=>
     rw [vK,Wo] at hv
     rw [Ip]
     split at hv
     ·rename_i het;rw [dif_pos het];exact hv
     ·rename_i het
      rw [dif_neg het]
      simp only [Mu,Bool.false_eq_true,if_false,tY,Ip] at hv
      rw [dif_neg het] at hv
      exact hv
    |Hp=>rw [vK] at hv;simp only [Cq,Mu,Bool.false_eq_true,if_false] at hv;rw [Kl rfl] at hv;exact hv
    |Qs=>rw [vK] at hv;simp only [Cq,Mu,Bool.false_eq_true,if_false] at hv;rw [Kl rfl] at hv;exact hv
    |_=>rw [vK] at hs;simp [AC.settled] at hs
   obtain ⟨F,f1,f2,f3⟩:=iJ h.1 hr ht τ fr x Mu Oj xE
   exact ⟨F,[v],f1,by simp [Ar,Mu],AM h h1 hk hg f2 f3,λb hb=>let ⟨l,r,_,q⟩:=f3 b hb;⟨l,r,q⟩⟩
 unfold settle at he
 split at he
 ·rename_i l off len
  split at he
  ·rename_i fr tr e tid xs hl
   simp only [Option.some.injEq,Prod.mk.injEq] at he
   obtain ⟨rfl,rfl⟩:=he
   obtain ⟨h1,m⟩:=h.freeze (fr:=fr) (.inl ⟨tr,tid,hl⟩)
   have:=m.ac (.own l off len) v hc
   simp only [Bb,if_true] at this
   have lI:Bk st (.own l off len)= .data fr (.slice e) ((xs.drop off).take len):=by simp only [Bk,hl]
   refine ⟨_,h1,this,rfl,Gg.freeze st l fr e xs,λht=>?_⟩
   have:=cell (.own l off len) _ _ hc h1 (by rw [lI];rfl) (Gg.freeze st l fr e xs) (λk hk=>by rw [List.mem_singleton.1 hk];exact St.He st l fr e xs) ht
   rw [lI] at this
   exact this
  ·rename_i e tid xs hl
   simp only [Option.some.injEq,Prod.mk.injEq] at he
   obtain ⟨rfl,rfl⟩:=he
   obtain ⟨h1,m⟩:=h.freeze (fr:=false) (.inr ⟨rfl,tid,hl⟩)
   have:=m.ac (.own l off len) v hc
   simp only [Bb,if_true] at this
   have lI:Bk st (.own l off len)= .data false (.slice e) ((xs.drop off).take len):=by simp only [Bk,hl]
   refine ⟨_,h1,this,rfl,Gg.freeze st l false e xs,λht=>?_⟩
   have:=cell (.own l off len) _ _ hc h1 (by rw [lI];rfl) (Gg.freeze st l false e xs) (λk hk=>by rw [List.mem_singleton.1 hk];exact St.He st l false e xs) ht
   rw [lI] at this
   exact this
  ·cases he
 ·rename_i l
  split at he
  ·rename_i vt mm hl
   simp only [Option.some.injEq,Prod.mk.injEq] at he
   obtain ⟨rfl,rfl⟩:=he
   obtain ⟨h1,m⟩:=h.Ek hl
   have:=m.ac (.Gi l) v hc
   simp only [Dj,if_true] at this
   exact ⟨_,h1,this,rfl,Gg.Ek st l vt mm,λht=>by simp [Mp,Ln] at ht⟩
  ·cases he
 ·rename_i a0 _ _
  split at he
  ·rename_i hs
   simp only [Option.some.injEq,Prod.mk.injEq] at he
   obtain ⟨rfl,rfl⟩:=he
   refine ⟨π,h,hc,hs,Gg.refl _ _,λht=>?_⟩
   have lI:=Mn (st:=st) hs
   have:=cell a0 st π hc h (by rw [lI];exact hs) (Gg.refl _ _) (λk hk=>by
    cases a0<;>simp [AC.settled] at hs<;>simp [AC.refs] at hk) ht
   rw [lI] at this
   exact this
  ·cases he
 ·rename_i cs
  cases hsc:Dq cs.length st cs with
  |none=>rw [hsc] at he;cases he
  |some p=>
   rw [hsc] at he
   simp only [Option.map_some,Option.some.injEq,Prod.mk.injEq] at he
   obtain ⟨rfl,rfl⟩:=he
   obtain ⟨us,rfl,hr⟩:=hc
   obtain ⟨π',h2,h3,h4,h5,h6,h7⟩:=bb cs.length st π cs us p.1 p.2 h hr hsc
   refine ⟨π',h2,⟨us,rfl,h3⟩,h4,h5,λht τ fr x Oj hv=>?_⟩
   simp only [Mp,Bool.and_eq_true] at ht
   simp only [Cq] at hv
   split at hv
   ·rename_i Mu
    rw [h6] at hv h4
    obtain ⟨F,f1,f2,f3⟩:=pL h.1 τ cs us fr x hr ht.1 (Qt ht.2) h4 Oj hv
    exact ⟨F,us,f1,by simp [Ar,Mu],AM h h2 h5 h7 f2 f3,λb hb=>let ⟨l,r,_,q⟩:=f3 b hb;⟨l,r,q⟩⟩
   ·cases hv
 ·simp only [Option.some.injEq,Prod.mk.injEq] at he
  obtain ⟨rfl,rfl⟩:=he
  exact ⟨π,h,hc,rfl,Gg.refl _ _,λht=>by simp [Mp] at ht⟩
 ·cases he
theorem bC {o i j s p:Nat} (El:i≠j) (hp:p<s):(o+i)*s+p<(o+j)*s\/(o+j)*s+s<=(o+i)*s+p:=by
 rcases Nat.lt_or_gt_of_ne El with h|h
 ·left
  have:(o+i+1)*s<=(o+j)*s:=Nat.mul_le_mul_right _ (by omega)
  rw [Nat.add_mul,Nat.one_mul] at this
  omega
 ·right
  have:(o+j+1)*s<=(o+i)*s:=Nat.mul_le_mul_right _ (by omega)
  rw [Nat.add_mul,Nat.one_mul] at this
  omega
theorem Ec {α:Type} (l ys:List α) (i k:Nat) (h:i+ys.length<=l.length):(Bi l i ys)[k]?=if k<i then l[k]? else if k<i+ys.length then ys[k-i]? else l[k]?:=by
 unfold Bi
 have t1:(l.take i).length=i:=by simp;omega
 split
 ·rename_i hk
  rw [List.append_assoc,List.getElem?_append_left (by omega),List.getElem?_take,if_pos hk]
 ·split
  ·rename_i hk
   rw [List.append_assoc,List.getElem?_append_right (by omega),t1,List.getElem?_append_left (by omega)]
  ·rw [List.getElem?_append_right (by simp;omega),List.getElem?_drop]
   congr 1
   simp;omega
theorem Ep {α:Type} (l ys:List α) (i:Nat) (h:i+ys.length<=l.length):(Bi l i ys).length=l.length:=by
 unfold Bi;simp;omega
theorem tF (hT:Ca P T) {st:St} {a:Act} (h:Ai X π st a w) {t:TypeId} {e:Ty} (ht:T.ty t=some e) {l j:Nat} {r:Real} {vx:Value} {tid:TypeId} {fr On:Bool} {xs:List e.den} {x:e.den}
  (hp:π l=some r) {tr:Bool} (hl:Ae st.heap l=some (.arr fr tr e tid xs)) (hj:j<xs.length) (hx:Bd w (Be X.w0.heap.size X.Sc π On) e vx x):
  ∃w',(Instr.storeAt t (.pointer (some ⟨r.g,(r.o+j)*e.size,none⟩)) vx).run P w= .ok () w'/\Ai X π (st.Gb l (.arr (fr&&On) false e tid (xs.set j x))) a w':=by
 have hb:=(h.1.heap l).Ma hl
 simp only [Au,Fl,hp] at hb
 obtain ⟨h1,cur,ti,h2,h3,h4,h5,h6,_⟩:=hb
 obtain ⟨es,Zc,hv⟩:=hx
 have gR:=Cells.len e es x Zc
 have Ou:(r.o+j)*e.size+es.length<=cur.size:=by
  have:(r.o+j+1)*e.size<=(r.o+r.cap)*e.size:=Nat.mul_le_mul_right _ (by omega)
  rw [Nat.add_mul (r.o+j) 1,Nat.one_mul] at this
  omega
 have Se:(r.o+j)*e.size+es.length<=cur.toList.length:=by simpa using Ou
 have Og:=Pg (P:=P) (w:=w) (hT.ty _ _ ht) r.g ((r.o+j)*e.size) vx es (by rw [hv];exact Gj e es x Zc) gR (Cells.plain e es x Zc) cur ti h2 Ou
 refine ⟨_,by simp only [Instr.storeAt,Instr.sureAddr];simpa using Og,?_⟩
 refine h.set hl (b:= .arr (fr&&On) false e tid (xs.set j x)) ⟨rfl,by simp⟩ (by rw [hp];exact Ih w r.g _) λm=>?_
 simp only [Au,Fl,hp]
 refine ⟨⟨h1.1,h1.2.1,λhf=>h1.2.2 (by simp only [Bool.and_eq_true] at hf;exact hf.1)⟩,_,_,setRow_heap w r.g cur _ ti _ h2,by rw [List.size_toArray,Ep _ _ _ Se];simpa using h3,h4,by simpa using h5,λi y hy=>?_,λhf=>by cases hf⟩
 rw [List.getElem?_set] at hy
 split at hy
 ·rename_i oO;subst oO
  simp only [Option.some.injEq] at hy;subst hy
  refine ⟨es,gR,λk u hu=>?_,(m.cells On e es x Zc).and_right⟩
  have hk:k<es.length:=(List.getElem?_eq_some_iff.1 hu).1
  rw [List.getElem?_toArray,Ec _ _ _ _ Se,if_neg (by omega),if_pos (by omega)]
  rw [show (r.o+j)*e.size+k-(r.o+j)*e.size=k by omega];exact hu
 ·rename_i oO
  obtain ⟨iP,CR,gi,vE⟩:=h6 i y hy
  refine ⟨iP,CR,λk u hu=>?_,(m.cells fr e iP y vE).and_left⟩
  have hk:k<iP.length:=(List.getElem?_eq_some_iff.1 hu).1
  have:=gi k u hu
  rw [List.getElem?_toArray,Ec _ _ _ _ Se]
  rcases bC (o:=r.o) (i:=i) (j:=j) (s:=e.size) (p:=k) (Ne.symm oO) (by omega) with Ho|oN
  ·rw [if_pos Ho];simpa using this
  ·rw [if_neg (by omega),if_neg (by omega)];simpa using this
theorem eD: ∀(Fs:List (List Nat)) (i:Nat) (F':List Nat),(List.flatten Fs).Nodup->F'.Nodup->(∀b∈F',b∉List.flatten Fs)->(List.flatten (Fs.set i F')).Nodup/\ ∀b∈List.flatten (Fs.set i F'),b∈List.flatten Fs\/b∈F'
 | [],i,F',_,_,_=>by simp
 |G::Fs,0,F',hn,iQ,hs=>by
  simp only [List.set_cons_zero,List.flatten_cons] at hn hs⊢
  obtain ⟨n1,n2,n3⟩:=List.nodup_append.1 hn
  refine ⟨List.nodup_append.2 ⟨iQ,n2,λa ha b hb e=>hs a ha (List.mem_append_right _ (e▸hb))⟩,λb hb=>?_⟩
  rcases List.mem_append.1 hb with hb|hb
  ·exact .inr hb
  ·exact .inl (List.mem_append_right _ hb)
 |G::Fs,i+1,F',hn,iQ,hs=>by
  simp only [List.set_cons_succ,List.flatten_cons] at hn hs⊢
  obtain ⟨n1,n2,n3⟩:=List.nodup_append.1 hn
  obtain ⟨m1,m2⟩:=eD Fs i F' n2 iQ λb hb hm=>hs b hb (List.mem_append_right _ hm)
  refine ⟨List.nodup_append.2 ⟨n1,m1,λa ha b hb e=>?_⟩,λb hb=>?_⟩
  ·subst e
   rcases m2 a hb with h|h
   ·exact n3 a ha a h rfl
   ·exact hs a h (List.mem_append_left _ ha)
  ·rcases List.mem_append.1 hb with hb|hb
   ·exact .inl (List.mem_append_left _ hb)
   ·exact (m2 b hb).imp (List.mem_append_right _) id
theorem pJ (hT:Ca P T) {st:St} {a:Act} (h:Ai X π st a w) {t:TypeId} {e:Ty} (ht:T.ty t=some e) {l j:Nat} {r:Real} {vx:Value} {tid:TypeId} {fr On:Bool} {xs:List e.den} {x:e.den}
  (hp:π l=some r) (hl:Ae st.heap l=some (.arr fr true e tid xs)) (hj:j<xs.length) (hx:Bd w (Be X.w0.heap.size X.Sc π On) e vx x) {F:List Nat} {us:List Value} (hF:Bf w F e us x) (IS:vx=Ar e us) (gS:bu X w π F):
  ∃w',(Instr.storeAt t (.pointer (some ⟨r.g,(r.o+j)*e.size,none⟩)) vx).run P w= .ok () w'/\Ai X (Pu π l (some (r.plus F))) (st.Gb l (.arr (fr&&On) true e tid (xs.set j x))) a w':=by
 have hb:=(h.1.heap l).Ma hl
 simp only [Au,Fl,hp] at hb
 obtain ⟨h1,cur,ti,h2,h3,h4,h5,h6,h7⟩:=hb
 obtain ⟨Fs,t1,t2,t3,t4⟩:=h7 trivial
 obtain ⟨es,Zc,hv⟩:=hx
 have gR:=Cells.len e es x Zc
 have Age:us=es:=by
  have c1:=Gj e us x (Bf.cells (S:= λ_=>False) F e us x hF λ_ _ h=>h)
  have c2:=Gj e es x Zc
  rw [<-IS,hv,c2] at c1
  simpa using c1.symm
 subst Age
 have Ou:(r.o+j)*e.size+us.length<=cur.size:=by
  have:(r.o+j+1)*e.size<=(r.o+r.cap)*e.size:=Nat.mul_le_mul_right _ (by omega)
  rw [Nat.add_mul (r.o+j) 1,Nat.one_mul] at this
  omega
 have Se:(r.o+j)*e.size+us.length<=cur.toList.length:=by simpa using Ou
 have Og:=Pg (P:=P) (w:=w) (hT.ty _ _ ht) r.g ((r.o+j)*e.size) vx us (by rw [hv];exact Gj e us x Zc) gR (Cells.plain e us x Zc) cur ti h2 Ou
 have Oq:r.cl r.g:=h.1.sub l r _ hp h1.1
 have UE: ∀b∈F,b≠r.g:= λb hb e=>(gS.2 b hb).2.2 l r hp (e▸Oq)
 have BA:=eD Fs j F (List.nodup_cons.1 t2).2 gS.1 λb hb hm=>(gS.2 b hb).2.2 l r hp (t3 b hm)
 refine ⟨_,by simp only [Instr.storeAt,Instr.sureAddr];simpa using Og,?_⟩
 refine h.Agw hl (b:= .arr (fr&&On) true e tid (xs.set j x)) ⟨rfl,by simp⟩ hp (λc hc=>⟨(gS.2 c hc).1,(gS.2 c hc).2.1,λm r0 _=>(gS.2 c hc).2.2 m r0⟩) (Ih w r.g _) λm=>?_
 simp only [Au,Fl]
 have cell: ∀(i:Nat) (iP:List Value),i≠j->iP.length=e.size->(∀k u,iP[k]?=some u->cur[(r.o+i)*e.size+k]?=some u)-> ∀k u,iP[k]?=some u->(Bi cur.toList ((r.o+j)*e.size) us).toArray[(r.o+i)*e.size+k]?=some u:=by
  intro i iP ei CR gi k u hu
  have hk:k<iP.length:=(List.getElem?_eq_some_iff.1 hu).1
  have:=gi k u hu
  rw [List.getElem?_toArray,Ec _ _ _ _ Se]
  rcases bC (o:=r.o) (i:=i) (j:=j) (s:=e.size) (p:=k) ei (by omega) with Ho|oN
  ·rw [if_pos Ho];simpa using this
  ·rw [if_neg (by omega),if_neg (by omega)];simpa using this
 have QN: ∀k u,us[k]?=some u->(Bi cur.toList ((r.o+j)*e.size) us).toArray[(r.o+j)*e.size+k]?=some u:=by
  intro k u hu
  have hk:k<us.length:=(List.getElem?_eq_some_iff.1 hu).1
  rw [List.getElem?_toArray,Ec _ _ _ _ Se,if_neg (by omega),if_pos (by omega)]
  rw [show (r.o+j)*e.size+k-(r.o+j)*e.size=k by omega];exact hu
 refine ⟨⟨h1.1,h1.2.1,λhf=>h1.2.2 (by simp only [Bool.and_eq_true] at hf;exact hf.1)⟩,_,_,setRow_heap w r.g cur _ ti _ h2,by rw [List.size_toArray,Ep _ _ _ Se,Array.length_toList];exact h3,h4,by rw [List.length_set];exact h5,λi y hy=>?_,λ_=>?_⟩
 ·rw [List.getElem?_set] at hy
  split at hy
  ·rename_i oO;subst oO
   simp only [Option.some.injEq] at hy;subst hy
   exact ⟨us,gR,QN,(m.cells On e us x Zc).and_right⟩
  ·rename_i oO
   obtain ⟨iP,CR,gi,vE⟩:=h6 i y hy
   exact ⟨iP,CR,cell i iP (Ne.symm oO) CR gi,(m.cells fr e iP y vE).and_left⟩
 ·refine ⟨Fs.set j F,by simp [t1],List.nodup_cons.2 ⟨λhm=>?_,BA.1⟩,λb hb=>?_,λi y G hy hG=>?_⟩
  ·rcases BA.2 _ hm with h8|h8
   ·exact (List.nodup_cons.1 t2).1 h8
   ·exact UE _ h8 rfl
  ·exact (BA.2 b hb).imp (t3 b) id
  ·rw [List.getElem?_set] at hy hG
   split at hy
   ·rename_i oO;subst oO
    rw [if_pos rfl] at hG
    rw [if_pos (by omega)] at hG
    simp only [Option.some.injEq] at hy hG;subst hy;subst hG
    exact ⟨us,gR,QN,hF.Cr _ _ _ _ (by simp) λb hb=>setRow_other w r.g b _ (UE b hb)⟩
   ·rename_i oO
    rw [if_neg oO] at hG
    obtain ⟨iP,CR,gi,vE⟩:=t4 i y G hy hG
    exact ⟨iP,CR,cell i iP (Ne.symm oO) CR gi,vE.Cr _ _ _ _ (by simp) λb hb=>setRow_other w r.g b _ λe=>(List.nodup_cons.1 t2).1 (List.mem_flatten.2 ⟨G,List.mem_of_getElem? hG,e▸hb⟩)⟩
theorem ld (hT:Ca P T) {st:St} {a:Act} (h:Ai X π st a w) (t:TypeId) (p x:AV) (vp vx:Value) (hp:Am X w π st.heap p vp) (hx:Am X w π st.heap x vx) (st':St)
  (he:Nu T st t p x=some st'): ∃w' π',(Instr.storeAt t vp vx).run P w= .ok () w'/\Ai X π' st' a w':=by
 unfold Nu at he
 split at he
 ·rename_i τ l i ht
  split at he
  ·rename_i tid vs cs hl hc
   split at he
   ·rename_i hle
    simp only [Option.some.injEq] at he
    obtain ⟨w',h1,h2⟩:=tH hT h ht hp hx hl hc hle
    split at he
    ·rename_i Ff
     simp only [Bool.and_eq_true,Nat.blt_eq] at Ff
     subst he
     obtain ⟨GG,h3⟩:=ai (T:=T) l i t τ cs.length 0 _ π (by omega) h2
     exact ⟨w',GG,h1,h3⟩
    ·subst he
     exact ⟨w',π,h1,h2⟩
   ·cases he
  ·cases he
 ·rename_i τ l j ht
  split at he
  ·rename_i x' st1 hs
   obtain ⟨Vo,h1,h2,h3,h4,h5⟩:=Vj h hx hs
   split at he
   ·rename_i fr tr e tid xs On y hl hv
    split at he
    ·rename_i er;subst er
     split at he
     ·rename_i hj
      simp only [Option.some.injEq] at he;subst he
      obtain ⟨r,b,sz,n,g1,g0,g2,g3,rfl⟩:=hp
      obtain ⟨k1,b',f,k2,k3⟩:=h4 l _ hl
      rw [g1] at k2;cases k2
      have g4:=congrArg OB.row k3
      rw [show (OB.map f b).row=b.row by cases b<;>rfl,g0] at g4
      simp only [OB.row,Option.some.injEq,Prod.mk.injEq] at g4
      obtain ⟨rfl,rfl⟩:=g4
      cases gT:(tr&&(Mp st x&&τ.tree)) with
      |false=>
       obtain ⟨w',q1,q2⟩:=tF hT h1 ht (k1.trans g3) hl hj (Jn _ x' vx On y h3 h2 hv)
       exact ⟨w',Vo,q1,q2⟩
      |true=>
       simp only [Bool.and_eq_true] at gT
       obtain ⟨rfl,htv,er⟩:=gT
       obtain ⟨F,us,f1,f2,f3,_⟩:=h5 htv τ On y er hv
       obtain ⟨w',q1,q2⟩:=pJ hT h1 ht (k1.trans g3) hl hj (Jn _ x' vx On y h3 h2 hv) f1 f2 f3
       exact ⟨w',_,q1,q2⟩
     ·cases he
    ·cases he
   ·cases he
  ·cases he
 ·cases he
theorem nM {S:Nat->Prop} {e:Ty} {v:Value} {ys:List e.den} (h:Cells w S (.slice e) [v] ys):
  ∃ad c,v= .slice ad ys.length c/\(ys= []\/ ∃g o,ad=some ⟨g,o,none⟩/\ ∃news:List Value,news.length=ys.length*e.size/\(∀j u,news[j]?=some u->w.cell? ⟨g,o+j,none⟩=some u)/\(∀u∈news,u.oneCell'=true)/\(∀j u,j<ys.length*e.size->w.cell? ⟨g,o+j,none⟩=some u->news[j]?=some u)/\
   ∀(i:Nat) (y:e.den),ys[i]?=some y-> ∃es:List Value,es.length=e.size/\(∀j u,es[j]?=some u->news[i*e.size+j]?=some u)/\Cells w S e es y):=by
 simp only [Cells] at h
 obtain ⟨ad,len,cap,hv,hl,mF,yr⟩:=h
 simp only [List.cons.injEq,and_true] at hv
 subst hl
 refine ⟨ad,cap,hv,?_⟩
 rcases yr with h0|⟨g,o,rfl,hg,hn,Hz⟩
 ·exact .inl h0
 ·right
  refine ⟨g,o,rfl,(List.range (ys.length*e.size)).map λj=>(w.cell? ⟨g,o+j,none⟩).getD undef,by simp,?_⟩
  have key: ∀k,k<ys.length*e.size-> ∃u,w.cell? ⟨g,o+k,none⟩=some u/\u.oneCell'=true:=by
   intro k hk
   have hs:0<e.size:=by
    rcases Nat.eq_zero_or_pos e.size with h|h
    ·rw [h] at hk;simp at hk
    ·exact h
   have hi:k/e.size<ys.length:=(Nat.div_lt_iff_lt_mul hs).2 hk
   obtain ⟨es,Zc,hc,Uw⟩:=Hz (k/e.size) _ (List.getElem?_eq_getElem hi)
   have hm:k%e.size<es.length:=by rw [Zc];exact Nat.mod_lt _ hs
   have:=hc (k%e.size) _ (List.getElem?_eq_getElem hm)
   rw [Nat.add_assoc,show k/e.size*e.size+k%e.size=k by rw [Nat.mul_comm];exact Nat.div_add_mod k e.size] at this
   exact ⟨_,this,Cells.plain e es _ Uw _ (List.getElem_mem hm)⟩
  refine ⟨λj u hu=>?_,λu hu=>?_,λj u hj hu=>by rw [List.getElem?_map,List.getElem?_range hj];simp [hu],λi y hy=>?_⟩
  ·rw [List.getElem?_map] at hu
   have hj:j<ys.length*e.size:=by
    by_cases hj:j<ys.length*e.size
    ·exact hj
    ·rw [List.getElem?_eq_none (by simpa using hj)] at hu;cases hu
   rw [List.getElem?_range hj] at hu
   obtain ⟨u',bp,_⟩:=key j hj
   simp only [Option.map_some,bp,Option.getD_some,Option.some.injEq] at hu
   rw [bp,hu]
  ·obtain ⟨j,hj,rfl⟩:=List.mem_map.1 hu
   obtain ⟨u',bp,h1⟩:=key j (List.mem_range.1 hj)
   rw [bp];exact h1
  ·obtain ⟨es,Zc,hc,Uw⟩:=Hz i y hy
   refine ⟨es,Zc,λj u hu=>?_,Uw⟩
   have hi:=(List.getElem?_eq_some_iff.1 hy).1
   have hj:=(List.getElem?_eq_some_iff.1 hu).1
   have Ho:i*e.size+j<ys.length*e.size:=by
    have:(i+1)*e.size<=ys.length*e.size:=Nat.mul_le_mul_right _ (by omega)
    rw [Nat.add_mul,Nat.one_mul] at this
    omega
   rw [List.getElem?_map,List.getElem?_range Ho]
   have:=hc j u hu
   rw [Nat.add_assoc] at this
   simp [this]
end
end Go.Proofs.Ytjbdmibbbpdnnaa
