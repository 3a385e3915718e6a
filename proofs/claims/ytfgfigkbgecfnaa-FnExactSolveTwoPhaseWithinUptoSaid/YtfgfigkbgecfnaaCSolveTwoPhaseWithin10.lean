/-
  Part 11 of the proof that the statement FnExactSolveTwoPhaseWithin holds.
-/
import Derived.Test.YtfgfigkbgecfnaaCSolveTwoPhaseWithin09
namespace Go.Proofs.Ytfgfigkbgecfnaa
open Go.RowKit
section
variable {P:Program} {T:Tab} {X:Ctx} {w w':World} {π:Pi} {H:List (Nat×OB)}
theorem OB.map_map (f g:AC->AC) (b:OB):OB.map g (OB.map f b)=OB.map (λc=>g (f c)) b:=by
 cases b with
 |var t vs=>simp [OB.map,Function.comp_def]
 |_=>rfl
theorem OB.HM (b:OB):OB.map (λc=>c) b=b:=by
 cases b with
 |var t vs=>simp [OB.map]
 |_=>rfl
def Ll (π π':Pi) (H H':List (Nat×OB)):Prop:= ∀l b',Ay H' l=some b'->π' l=π l/\ ∃b f,Ay H l=some b/\b'=OB.map f b
theorem Ll.refl (π:Pi) (H:List (Nat×OB)):Ll π π H H:= λ_ b h=>⟨rfl,b,λc=>c,h,(OB.HM b).symm⟩
theorem Ll.trans {cN YI π3:Pi} {H1 H2 H3:List (Nat×OB)} (h:Ll cN YI H1 H2) (h':Ll YI π3 H2 H3):Ll cN π3 H1 H3:= λl b hb=>by
 obtain ⟨e1,b1,f1,h1,rfl⟩:=h' l b hb;obtain ⟨e2,b2,f2,h2,rfl⟩:=h l b1 h1;exact ⟨e1.trans e2,b2,_,h2,OB.map_map f2 f1 b2⟩
theorem Ll.freeze (st:St) (l:Nat) (fr:Bool) (e:Ty) (xs:List e.den):Ll π (Xp π l none) st.heap (st.freeze l fr e xs).heap:= λk b hb=>by
 by_cases hk:k=l
 ·subst hk;rw [St.Mv] at hb;cases hb
 ·rw [St.Sm st l k fr e xs hk] at hb
  cases h0:Ay st.heap k with
  |none=>rw [h0] at hb;cases hb
  |some b0=>
   rw [h0] at hb;simp only [An,Aa] at hb;exact ⟨Gw π none hk,b0,_,rfl,hb.symm⟩
theorem Ll.Ja (st:St) (l:Nat) (v:Ty) (m:ByteArray->Option v.den):Ll π (Xp π l none) st.heap (st.Ja l v m).heap:= λk b hb=>by
 by_cases hk:k=l
 ·subst hk;rw [St.Tu] at hb;cases hb
 ·rw [St.Rp st l k v m hk] at hb
  cases h0:Ay st.heap k with
  |none=>rw [h0] at hb;cases hb
  |some b0=>
   rw [h0] at hb;simp only [An,Aa] at hb;exact ⟨Gw π none hk,b0,_,rfl,hb.symm⟩
theorem Ll.gone {π':Pi} {H':List (Nat×OB)} (k:Ll π π' H H') {l:Nat} (h:Ay H l=none):Ay H' l=none:=by
 cases hb:Ay H' l with
 |none=>rfl
 |some b=>
  obtain ⟨_,b0,f,h1,_⟩:=k l b hb;rw [h] at h1;cases h1
def Dw (st:St):AC->AC
 | .own l off len=>match st.at l with
  |some (.arr fr _ e _ xs)=> .data fr (.slice e) ((xs.drop off).take len)
  |some (.Hl e _ xs)=> .data false (.slice e) ((xs.drop off).take len)
  |_=> .own l off len
 | .Le l=>match st.at l with
  |some (.Wl v m)=> .data false (.smap v) m
  |_=> .Le l
 |c=>c
theorem Ub {st:St} {c:AC} (h:c.settled=true):Dw st c=c:=by
 cases c<;>simp [AC.settled] at h<;>rfl
theorem xb {st st':St} {f:AC->AC} {l:Nat} (hH: ∀m,m≠l->Ay st'.heap m=(Ay st.heap m).map (OB.map f)) {c:AC} (hc: ∀k∈c.refs,k≠l):Dw st' c=Dw st c:=by
 cases c with
 |own k off len=>
  have hk:k≠l:=hc k (by simp [AC.refs]);simp only [Dw,St.at,hH k hk]
  cases Ay st.heap k with
  |none=>rfl
  |some b=>cases b<;>rfl
 |Le k=>
  have hk:k≠l:=hc k (by simp [AC.refs]);simp only [Dw,St.at,hH k hk]
  cases Ay st.heap k with
  |none=>rfl
  |some b=>cases b<;>rfl
 |_=>rfl
theorem iu {a:Act} : ∀(n:Nat) (st:St) (π:Pi) (cs:List AC) (us:List Value) (j9:List AC) (st':St),Bs X π st a w->Gq X w π st.heap cs us->
  Hx n st cs=some (j9,st')-> ∃π',Bs X π' st' a w/\Gq X w π' st'.heap j9 us/\j9.all (·.settled)=true/\Ll π π' st.heap st'.heap/\j9=cs.map (Dw st)/\
   (∀k,k∈cs.flatMap AC.refs->Ay st'.heap k=none)
 |0,st,π,cs,us,j9,st',h,hr,he=>by
  simp only [Hx] at he;split at he
  ·rename_i hs;simp only [Aa,Ag] at he;obtain ⟨rfl,rfl⟩:=he;have DV:=Bk.1 hs
   exact ⟨π,h,hr,hs,Ll.refl _ _,((Er λc hc=>Ub (DV c hc)).trans (List.map_id'' (λ_=>rfl) cs)).symm,λk hk=>by
    obtain ⟨c,hc,DU⟩:=Hg.1 hk;have:=DV c hc
    cases c<;>simp [AC.settled] at this<;>simp [AC.refs] at DU⟩
  ·cases he
 |n+1,st,π,cs,us,j9,st',h,hr,he=>by
  simp only [Hx] at he
  have step: ∀(f:AC->AC) (l:Nat) (st1:St),Bs X (Xp π l none) st1 a w->Move X w w π (Xp π l none) st.heap st1.heap f->Ay st1.heap l=none->(∀m,m≠l->Ay st1.heap m=(Ay st.heap m).map (OB.map f))->
    Ll π (Xp π l none) st.heap st1.heap->(∀c∈cs,(∀k∈c.refs,k≠l)->f c=c)->(∀c∈cs,l∈c.refs->(f c).refs= []/\(Dw st1 (f c)).settled=true->f c=Dw st c)->
    (∀c∈cs,l∈c.refs->(f c).refs= [])->Hx n st1 (cs.map f)=some (j9,st')->
    ∃π',Bs X π' st' a w/\Gq X w π' st'.heap j9 us/\j9.all (·.settled)=true/\Ll π π' st.heap st'.heap/\j9=cs.map (Dw st)/\(∀k,k∈cs.flatMap AC.refs->Ay st'.heap k=none):=by
   intro f l st1 h1 m hl hH hK hf0 hf1 hf2 he;obtain ⟨π',h2,h3,h4,h5,h6,h7⟩:=iu n st1 _ (cs.map f) us j9 st' h1 (m.acs hr) he;refine ⟨π',h2,h3,h4,hK.trans h5,?_,λk hk=>?_⟩
   ·rw [h6,List.map_map];refine Er λc hc=>?_;simp only [Function.comp]
    by_cases Rn:l∈c.refs
    ·have Ma:=Bk.1 h4
     have jq:Dw st1 (f c)∈j9:=by rw [h6];exact Bh.2 ⟨f c,Bh.2 ⟨c,hc,rfl⟩,rfl⟩
     have hs:=Ma _ jq;have h8:=hf1 c hc Rn ⟨hf2 c hc Rn,hs⟩
     have h9:Dw st1 (f c)=f c:=by
      have:=hf2 c hc Rn
      cases hfc:f c<;>rw [hfc] at this<;>first|(simp [AC.refs] at this;done)|rfl
     rw [h9,h8]
    ·have Ii: ∀k∈c.refs,k≠l:= λk hk e=>Rn (e▸hk);rw [hf0 c hc Ii];exact xb hH Ii
   ·obtain ⟨c,hc,DU⟩:=Hg.1 hk
    by_cases Ml:k=l
    ·subst Ml;exact h5.gone hl
    ·by_cases Rn:l∈c.refs
     ·
      have Ma:=Bk.1 h4
      have jq:Dw st1 (f c)∈j9:=by rw [h6];exact Bh.2 ⟨f c,Bh.2 ⟨c,hc,rfl⟩,rfl⟩
      have hs:=Ma _ jq;have h8:=hf1 c hc Rn ⟨hf2 c hc Rn,hs⟩
      have h9:Dw st1 (f c)=f c:=by
       have:=hf2 c hc Rn
       cases hfc:f c<;>rw [hfc] at this<;>first|(simp [AC.refs] at this;done)|rfl
      rw [h9,h8] at hs
      cases c with
      |clo g En=>simp [Dw,AC.settled] at hs
      |own k' _ _=>simp [AC.refs] at Rn DU;exact absurd (DU.trans Rn.symm) Ml
      |Le k'=>simp [AC.refs] at Rn DU;exact absurd (DU.trans Rn.symm) Ml
      |Hs k' _=>simp [AC.refs] at Rn DU;exact absurd (DU.trans Rn.symm) Ml
      |Kq k' _=>simp [AC.refs] at Rn DU;exact absurd (DU.trans Rn.symm) Ml
      |sub k' _ _=>simp [AC.refs] at Rn DU;exact absurd (DU.trans Rn.symm) Ml
      |Kl k' _ _=>simp [AC.refs] at Rn DU;exact absurd (DU.trans Rn.symm) Ml
      |_=>simp [AC.refs] at DU
     ·have Ii: ∀k∈c.refs,k≠l:= λk hk e=>Rn (e▸hk);exact h7 k (Hg.2 ⟨f c,Bh.2 ⟨c,hc,rfl⟩,by rw [hf0 c hc Ii];exact DU⟩)
  have DY: ∀(st1:St) (c:AC),(Dw st1 c).settled=true->c≠ .undef:= λst1 c hs e=>by rw [e] at hs;simp [Dw,AC.settled] at hs
  split at he
  ·rename_i hf;simp only [Aa,Ag] at he;obtain ⟨rfl,rfl⟩:=he
   have DV: ∀c∈cs,c.settled=true:= λc hc=>by have:=List.find?_eq_none.1 hf c hc;simpa using this
   exact ⟨π,h,hr,Bk.2 DV,Ll.refl _ _,((Er λc hc=>Ub (DV c hc)).trans (List.map_id'' (λ_=>rfl) cs)).symm,λk hk=>by
    obtain ⟨c,hc,DU⟩:=Hg.1 hk;have:=DV c hc
    cases c<;>simp [AC.settled] at this<;>simp [AC.refs] at DU⟩
  ·rename_i l off len hf;split at he
   ·rename_i fr tr e tid xs hl;unfold St.at at hl;obtain ⟨h1,m⟩:=h.freeze (fr:=fr) (.inl ⟨tr,tid,hl⟩);refine step _ l _ h1 m (St.Mv st l fr e xs) (λm hm=>St.Sm st l m fr e xs hm) (Ll.freeze st l fr e xs) (λc _ hc=>jl hc) (λc _ Rn hs=>?_) (λc _ Rn=>?_) he
    ·cases c with
     |own k o n=>have:k=l:=(Af.1 Rn).symm
                 subst this;simp only [Dj,Ac,Dw,St.at,hl]
     |Hs k o=>have:k=l:=(Af.1 Rn).symm
              subst this;simp only [Dj,Ac] at hs;exact absurd rfl (DY _ _ hs.2)
     |Kq k o=>have:k=l:=(Af.1 Rn).symm
              subst this;simp only [Dj,Ac] at hs;exact absurd rfl (DY _ _ hs.2)
     |sub k o o2=>have:k=l:=(Af.1 Rn).symm
                  subst this;simp only [Dj,Ac] at hs;exact absurd rfl (DY _ _ hs.2)
     |Kl k o o2=>have:k=l:=(Af.1 Rn).symm
                 subst this;simp only [Dj,Ac] at hs;exact absurd rfl (DY _ _ hs.2)
     |Le k=>have:k=l:=(Af.1 Rn).symm
            subst this;simp only [Dj,Ac] at hs;exact absurd rfl (DY _ _ hs.2)
     |clo g En=>
      simp only [Dj] at hs;rw [Ac (by simpa [AC.refs] using Rn)] at hs;exact absurd rfl (DY _ _ hs.2)
     |_=>simp [AC.refs] at Rn
    ·cases c with
     |own k o n=>have:k=l:=(Af.1 Rn).symm
                 subst this;simp only [Dj,Ac];rfl
     |Hs k o=>have:k=l:=(Af.1 Rn).symm
              subst this;simp only [Dj,Ac];rfl
     |Kq k o=>have:k=l:=(Af.1 Rn).symm
              subst this;simp only [Dj,Ac];rfl
     |sub k o o2=>have:k=l:=(Af.1 Rn).symm
                  subst this;simp only [Dj,Ac];rfl
     |Kl k o o2=>have:k=l:=(Af.1 Rn).symm
                 subst this;simp only [Dj,Ac];rfl
     |Le k=>have:k=l:=(Af.1 Rn).symm
            subst this;simp only [Dj,Ac];rfl
     |clo g En=>simp only [Dj];rw [Ac (by simpa [AC.refs] using Rn)];rfl
     |_=>simp [AC.refs] at Rn
   ·rename_i e tid xs hl;unfold St.at at hl;obtain ⟨h1,m⟩:=h.freeze (fr:=false) (.inr ⟨rfl,tid,hl⟩);refine step _ l _ h1 m (St.Mv st l false e xs) (λm hm=>St.Sm st l m false e xs hm) (Ll.freeze st l false e xs) (λc _ hc=>jl hc) (λc _ Rn hs=>?_) (λc _ Rn=>?_) he
    ·cases c with
     |own k o n=>have:k=l:=(Af.1 Rn).symm
                 subst this;simp only [Dj,Ac,Dw,St.at,hl]
     |Hs k o=>have:k=l:=(Af.1 Rn).symm
              subst this;simp only [Dj,Ac] at hs;exact absurd rfl (DY _ _ hs.2)
     |Kq k o=>have:k=l:=(Af.1 Rn).symm
              subst this;simp only [Dj,Ac] at hs;exact absurd rfl (DY _ _ hs.2)
     |sub k o o2=>have:k=l:=(Af.1 Rn).symm
                  subst this;simp only [Dj,Ac] at hs;exact absurd rfl (DY _ _ hs.2)
     |Kl k o o2=>have:k=l:=(Af.1 Rn).symm
                 subst this;simp only [Dj,Ac] at hs;exact absurd rfl (DY _ _ hs.2)
     |Le k=>have:k=l:=(Af.1 Rn).symm
            subst this;simp only [Dj,Ac] at hs;exact absurd rfl (DY _ _ hs.2)
     |clo g En=>
      simp only [Dj] at hs;rw [Ac (by simpa [AC.refs] using Rn)] at hs;exact absurd rfl (DY _ _ hs.2)
     |_=>simp [AC.refs] at Rn
    ·cases c with
     |own k o n=>have:k=l:=(Af.1 Rn).symm
                 subst this;simp only [Dj,Ac];rfl
     |Hs k o=>have:k=l:=(Af.1 Rn).symm
              subst this;simp only [Dj,Ac];rfl
     |Kq k o=>have:k=l:=(Af.1 Rn).symm
              subst this;simp only [Dj,Ac];rfl
     |sub k o o2=>have:k=l:=(Af.1 Rn).symm
                  subst this;simp only [Dj,Ac];rfl
     |Kl k o o2=>have:k=l:=(Af.1 Rn).symm
                 subst this;simp only [Dj,Ac];rfl
     |Le k=>have:k=l:=(Af.1 Rn).symm
            subst this;simp only [Dj,Ac];rfl
     |clo g En=>simp only [Dj];rw [Ac (by simpa [AC.refs] using Rn)];rfl
     |_=>simp [AC.refs] at Rn
   ·cases he
  ·rename_i l hf;split at he
   ·rename_i v mm hl;unfold St.at at hl;obtain ⟨h1,m⟩:=h.Ja hl;refine step _ l _ h1 m (St.Tu st l v mm) (λm hm=>St.Rp st l m v mm hm) (Ll.Ja st l v mm) (λc _ hc=>tP hc) (λc _ Rn hs=>?_) (λc _ Rn=>?_) he
    ·cases c with
     |Le k=>have:k=l:=(Af.1 Rn).symm
            subst this;simp only [Hp,Ac,Dw,St.at,hl]
     |Hs k o=>have:k=l:=(Af.1 Rn).symm
              subst this;simp only [Hp,Ac] at hs;exact absurd rfl (DY _ _ hs.2)
     |Kq k o=>have:k=l:=(Af.1 Rn).symm
              subst this;simp only [Hp,Ac] at hs;exact absurd rfl (DY _ _ hs.2)
     |sub k o o2=>have:k=l:=(Af.1 Rn).symm
                  subst this;simp only [Hp,Ac] at hs;exact absurd rfl (DY _ _ hs.2)
     |Kl k o o2=>have:k=l:=(Af.1 Rn).symm
                 subst this;simp only [Hp,Ac] at hs;exact absurd rfl (DY _ _ hs.2)
     |own k o n=>have:k=l:=(Af.1 Rn).symm
                 subst this;simp only [Hp,Ac] at hs;exact absurd rfl (DY _ _ hs.2)
     |clo g En=>
      simp only [Hp] at hs;rw [Ac (by simpa [AC.refs] using Rn)] at hs;exact absurd rfl (DY _ _ hs.2)
     |_=>simp [AC.refs] at Rn
    ·cases c with
     |own k o n=>have:k=l:=(Af.1 Rn).symm
                 subst this;simp only [Hp,Ac];rfl
     |Hs k o=>have:k=l:=(Af.1 Rn).symm
              subst this;simp only [Hp,Ac];rfl
     |Kq k o=>have:k=l:=(Af.1 Rn).symm
              subst this;simp only [Hp,Ac];rfl
     |sub k o o2=>have:k=l:=(Af.1 Rn).symm
                  subst this;simp only [Hp,Ac];rfl
     |Kl k o o2=>have:k=l:=(Af.1 Rn).symm
                 subst this;simp only [Hp,Ac];rfl
     |Le k=>have:k=l:=(Af.1 Rn).symm
            subst this;simp only [Hp,Ac];rfl
     |clo g En=>simp only [Hp];rw [Ac (by simpa [AC.refs] using Rn)];rfl
     |_=>simp [AC.refs] at Rn
   ·cases he
  ·cases he
def iN (X:Ctx) (w:World) (π:Pi) (F:List Nat):Prop:=F.Nodup/\ ∀b∈F,(X.w0.heap.size<=b\/X.gv b)/\b<w.heap.size/\ ∀l r,π l=some r-> ¬r.cl b
theorem Yt {S:Nat->Prop} : ∀(e:Ty) (es:List Value) (x:e.den),e.flat=true->Cells w S e es x->Dn w [] e es x
 | .int k,cs,n,_,h=>⟨rfl,h⟩
 | .bool,cs,n,_,h=>⟨rfl,h⟩
 | .str,cs,n,_,h=>⟨rfl,h⟩
 | .unit,cs,n,_,h=>⟨rfl,h⟩
 | .pair a r,cs,x,hf,h=>by
  simp only [Ty.flat,Ak] at hf;simp only [Cells] at h;simp only [Dn];obtain ⟨c1,c2,h1,h2,h3⟩:=h;exact ⟨c1,c2,[],[],h1,rfl,Yt a c1 x.1 hf.1 h2,Yt r c2 x.2 hf.2 h3⟩
 | .slice _,_,_,hf,_=>by simp [Ty.flat] at hf
 | .oslice _,_,_,hf,_=>by simp [Ty.flat] at hf
 | .ptr _,_,_,hf,_=>by simp [Ty.flat] at hf
 | .optr _,_,_,hf,_=>by simp [Ty.flat] at hf
 | .smap _,_,_,hf,_=>by simp [Ty.flat] at hf
 | .clo _ _,_,_,hf,_=>by simp [Ty.flat] at hf
theorem Te {Fs:List (List Nat)} (off len:Nat) (b:Nat) (h:b∈List.flatten ((Fs.drop off).take len)):b∈List.flatten Fs:=by
 obtain ⟨F,hF,hb⟩:=Hv.1 h;exact Hv.2 ⟨F,er (Gl hF),hb⟩
theorem iw {α:Type} {a b:List (List α)} (h:a.Sublist b):(List.flatten a).Sublist (List.flatten b):=by
 induction h with
 |slnil=>exact List.Sublist.refl _
 |cons c _ ih=>simp only [Ls];exact ih.trans (List.sublist_append_right _ _)
 |cons_cons c _ ih=>simp only [Ls];exact List.Sublist.append (List.Sublist.refl _) ih
theorem mT {Fs:List (List Nat)} (off len:Nat) (h:(List.flatten Fs).Nodup):(List.flatten ((Fs.drop off).take len)).Nodup:=by
 have h1:((Fs.drop off).take len).Sublist Fs:=(List.take_sublist len _).trans (List.drop_sublist off Fs);exact h.sublist (iw h1)
theorem kZ {P:Nat->Prop} {r:Real} {off len:Nat} {v:Value} {e:Ty} {tid:TypeId} {xs:List e.den} {cur:Array Value} (h2:w.heap[r.g]?=some (.cells cur tid (0,0))) (Uj:cur.size=(r.o+r.cap)*e.size) (tX:r.cap<=maxLen)
  (hlen:off+len<=xs.length) (hv:Ih (some r) e.size off len v) (ht:Yh w P r.g r.o cur e xs) (hg:P r.g):
  ∃F,Dn w F (.slice e) [v] ((xs.drop off).take len)/\F.Nodup/\ ∀b∈F,P b:=by
 have LF:((xs.drop off).take len).length=len:=by simp;omega
 obtain ⟨ad,rfl,hc,ha⟩:=hv;obtain ⟨Fs,t1,t2,t3,t4⟩:=ht
 ·refine ⟨r.g::List.flatten ((Fs.drop off).take len),⟨some ad,len,r.cap-off,rfl,LF.symm,by omega, .inr ⟨ad,r.g,(r.o+off)*e.size,_,rfl,λh0=>ha (by omega),⟨cur,tid,r.o+off,h2,rfl,by rw [Uj];congr 1;omega,by omega⟩,rfl,by simp;omega,λi x F hx hF=>?_⟩⟩,?_,λb hb=>?_⟩
  ·have hi:i<len:=by
    have:=(Ao.1 hx).1;rw [LF] at this;exact this
   have hx':xs[off+i]?=some x:=by rw [Di,Ac hi,Cp] at hx;exact hx
   have hF':Fs[off+i]?=some F:=by rw [Di,Ac hi,Cp] at hF;exact hF
   obtain ⟨es,he,hj,zJ⟩:=t4 (off+i) x F hx' hF';refine ⟨es,he,λj u hu=>?_,zJ⟩;rw [cellOf h2];have:=hj j u hu;rw [<-this]
   congr 1
   rw [<-He,Dr (r.o+off) i]
  ·have:=Cn.1 t2;exact Cn.2 ⟨λhm=>this.1 (Te off len _ hm),mT off len this.2⟩
  ·rcases Bd.1 hb with rfl|hb
   ·exact hg
   ·exact t3 b (Te off len b hb)
theorem p8 {st:St} (h:Nm X w π st.heap) {c:AC} {v:Value} (hc:Hw X w π st.heap c v) (ht:Sz st c=true) (τ:Ty) (fr:Bool) (x:τ.den) (Up:τ.Ar=false) (UW:τ.tree=true)
  (hv:Dy st τ (Dw st c)=some (fr,x)): ∃F,Dn w F τ [v] x/\F.Nodup/\ ∀b∈F,∃l r,l∈c.refs/\π l=some r/\r.cl b:=by
 cases c with
 |data Ww Ow y=>
  simp only [Sz] at ht;simp only [Dw,Ol] at hv;split at hv
  ·rename_i he;subst he;simp only [Aa,Ag] at hv;obtain ⟨_,rfl⟩:=hv;exact ⟨[],Yt Ow _ _ ht (Dd.Sw Up hc),Mc,λb hb=>by cases hb⟩
  ·unfold j8 at hv;split at hv
   ·simp [Ty.flat] at ht
   ·simp [Ty.flat] at ht
   ·cases hv
 |Mn=>
  have hc:v= .slice none 0 0:=hc;subst hc
  cases τ with
  |slice e=>
   simp only [Dw,Dy,Aa,Ag] at hv;obtain ⟨_,rfl⟩:=hv;exact ⟨[],⟨none,0,0,rfl,rfl,Ap _, .inl ⟨rfl,rfl,rfl,rfl⟩⟩,Mc,λb hb=>by cases hb⟩
  |oslice e=>simp [Ty.tree] at UW
  |_=>simp [Dw,Dy] at hv
 |own l off len=>
  simp only [Sz] at ht;split at ht
  ·rename_i Ww tr e tid xs hl;have Mr:=hl;unfold St.at at hl;simp only [Dw,Mr,Ol] at hv;split at hv
   ·rename_i he;subst he;simp only [Aa,Ag] at hv;obtain ⟨_,rfl⟩:=hv;obtain ⟨h2,h3⟩:=Pe hc hl;have hb:=(h.heap l).Se hl;simp only [Cq,Km] at hb
    cases hp:π l with
    |none=>
     rw [hp] at h3;obtain ⟨rfl,rfl,rfl⟩:=h3;exact ⟨[],⟨none,0,0,rfl,by simp,Ap _, .inl ⟨by simp,rfl,rfl,rfl⟩⟩,Mc,λb hb=>by cases hb⟩
    |some r=>
     rw [hp] at hb h3;obtain ⟨k1,cur,_,k2,k3,k4,k5,k6,k7⟩:=hb
     have SO:Yh w r.cl r.g r.o cur e xs:=by
      simp only [Kx] at ht;rcases ht with ht|ht
      ·exact k7 ht
      ·refine ⟨List.replicate xs.length [],by simp,by simp,by simp,λi x F hx hF=>?_⟩;obtain ⟨es,e1,e2,e3⟩:=k6 i x hx
       have:F= []:=by
        have:=Cs hF;exact Gf this
       subst this;exact ⟨es,e1,e2,Yt e es x ht e3⟩
     obtain ⟨F,f1,f2,f3⟩:=kZ k2 k3 k4 h2 h3 SO (h.sub l r _ hp k1.1);exact ⟨F,f1,f2,λb hb=>⟨l,r,by simp [AC.refs],hp,f3 b hb⟩⟩
   ·cases τ<;>simp [j8] at hv
  ·rename_i e tid xs hl;have Mr:=hl;unfold St.at at hl;simp only [Dw,Mr,Ol] at hv;split at hv
   ·rename_i he;subst he;simp only [Aa,Ag] at hv;obtain ⟨_,rfl⟩:=hv;obtain ⟨h2,h3⟩:=cB hc hl;have hb:=(h.heap l).Se hl;simp only [Cq,On] at hb
    cases hp:π l with
    |none=>
     rw [hp] at h3;obtain ⟨rfl,rfl,rfl⟩:=h3;exact ⟨[],⟨none,0,0,rfl,by simp,Ap _, .inl ⟨by simp,rfl,rfl,rfl⟩⟩,Mc,λb hb=>by cases hb⟩
    |some r=>
     rw [hp] at hb h3;obtain ⟨k1,cur,_,k2,k3,k4,k5,k7⟩:=hb;obtain ⟨F,f1,f2,f3⟩:=kZ k2 k3 k4 h2 h3 k7 k1;exact ⟨F,f1,f2,λb hb=>⟨l,r,by simp [AC.refs],hp,h.sub l r b hp (f3 b hb)⟩⟩
   ·cases τ<;>simp [j8] at hv
  ·cases ht
 |_=>simp [Sz] at ht
theorem Za: ∀ {l:List Nat},aL l=true->l.Nodup
 | [],_=>Mc
 |a::r,h=>by
  simp only [aL,Ak,Fy,List.contains_eq_mem,decide_eq_false_iff_not] at h;exact Cn.2 ⟨h.1,Za h.2⟩
theorem bw {st st':St} {τ:Ty} {c:AC} (h:c.settled=true):Dy st' τ c=Dy st τ c:=by
 cases c<;>simp [AC.settled] at h<;>cases τ<;>rfl
theorem xt {st st':St} (h:Nm X w π st.heap): ∀(τ:Ty) (cs:List AC) (us:List Value) (fr:Bool) (x:τ.den),Gq X w π st.heap cs us->cs.all (Sz st)=true->(cs.flatMap AC.refs).Nodup->
  (cs.map (Dw st)).all (·.settled)=true->τ.tree=true->Fq st' τ (cs.map (Dw st))=some (fr,x)-> ∃F,Dn w F τ us x/\F.Nodup/\ ∀b∈F,∃l r,l∈cs.flatMap AC.refs/\π l=some r/\r.cl b:=by
 have one: ∀(τ:Ty) (cs:List AC) (us:List Value) (fr:Bool) (x:τ.den),τ.Ar=false->Gq X w π st.heap cs us->cs.all (Sz st)=true->
   (cs.map (Dw st)).all (·.settled)=true->τ.tree=true->Fq st' τ (cs.map (Dw st))=some (fr,x)-> ∃F,Dn w F τ us x/\F.Nodup/\ ∀b∈F,∃l r,l∈cs.flatMap AC.refs/\π l=some r/\r.cl b:=by
  intro τ cs us fr x Up hr ht hs Wp hv;rw [Uw Up] at hv;rcases cs with _|⟨c,_|⟨d,cs⟩⟩
  ·cases hv
  ·simp only [Cb,List.map_nil] at hv;obtain ⟨u,hu,_,hc⟩:=hr.2 0 c rfl;have hl:us.length=1:=hr.1;obtain ⟨u',rfl⟩:=Ek.1 hl;simp at hu;subst hu;rw [bw (st:=st) (by simpa using hs)] at hv;obtain ⟨F,f1,f2,f3⟩:=p8 h hc (by simpa using ht) τ fr x Up Wp hv;exact ⟨F,f1,f2,λb hb=>by obtain ⟨l,r,g1,g2⟩:=f3 b hb;exact ⟨l,r,by simpa using g1,g2⟩⟩
  ·cases hv
 intro τ
 induction τ with
 |unit=>
  intro cs us fr x hr ht hd hs Wp hv
  cases cs with
  |nil=>have:us= []:=Cr hr.1;subst this;exact ⟨[],⟨rfl,rfl⟩,Mc,λb hb=>by cases hb⟩
  |cons c cs=>simp [Fq] at hv
 |pair a r iL iH=>
  intro cs us fr x hr ht hd hs Wp hv;simp only [Ty.tree,Ak] at Wp;simp only [Fq] at hv;split at hv
  ·rename_i f1 y f2 z h1 h2;simp only [Aa,Ag] at hv;obtain ⟨rfl,rfl⟩:=hv
   have SK:Gq X w π st.heap (cs.take a.size) (us.take a.size):=by have:=aw hr 0 a.size;simpa using this
   have YV:Gq X w π st.heap (cs.drop a.size) (us.drop a.size):=
    ⟨by simp [hr.1],λi c hc=>by
     rw [Cp] at hc⊢
     exact hr.2 _ c hc⟩
   have Arl: ∀ {p:AC->Bool} {l:List AC} (n:Nat),l.all p=true->(l.take n).all p=true:= λn hl=>Bk.2 λc hc=>Bk.1 hl c (Gl hc);have Arm: ∀ {p:AC->Bool} {l:List AC} (n:Nat),l.all p=true->(l.drop n).all p=true:= λn hl=>Bk.2 λc hc=>Bk.1 hl c (er hc)
   have hdd:((cs.take a.size++cs.drop a.size).flatMap AC.refs).Nodup:=by rw [Ip];exact hd
   rw [List.flatMap_append] at hdd;obtain ⟨d1,d2,d3⟩:=Ee.1 hdd;rw [<-List.map_take] at h1;rw [<-List.map_drop] at h2;obtain ⟨F1,t1,n1,c1⟩:=iL _ _ f1 y SK (Arl _ ht) d1 (by rw [List.map_take];exact Arl _ hs) Wp.1 h1;obtain ⟨F2,t2,n2,c2⟩:=iH _ _ f2 z YV (Arm _ ht) d2 (by rw [List.map_drop];exact Arm _ hs) Wp.2 h2;refine ⟨F1++F2,⟨us.take a.size,us.drop a.size,F1,F2,(Ip _ _).symm,rfl,t1,t2⟩,Ee.2 ⟨n1,n2,λb hb b' sD e=>?_⟩,λb hb=>?_⟩
   ·subst e;obtain ⟨l1,r1,g1,g2,g3⟩:=c1 b hb;obtain ⟨l2,r2,g4,g5,g6⟩:=c2 b sD;exact d3 l1 g1 l2 g4 (h.inj l1 l2 r1 r2 b g2 g5 g3 g6)
   ·have Ma: ∀l,(l∈(cs.take a.size).flatMap AC.refs\/l∈(cs.drop a.size).flatMap AC.refs)->l∈cs.flatMap AC.refs:= λl hl=>by
     rw [<-Be,<-List.flatMap_append,Ip] at hl;exact hl
    rcases Be.1 hb with hb|hb
    ·obtain ⟨l1,r1,g1,g2⟩:=c1 b hb;exact ⟨l1,r1,Ma l1 (.inl g1),g2⟩
    ·obtain ⟨l1,r1,g1,g2⟩:=c2 b hb;exact ⟨l1,r1,Ma l1 (.inr g1),g2⟩
  ·cases hv
 |_=>exact λcs us fr x hr ht _ hs Wp hv=>one _ cs us fr x rfl hr ht hs Wp hv
theorem RS {π':Pi} {st st':St} {a:Act} (h:Bs X π st a w) (h':Bs X π' st' a w) (k:Ll π π' st.heap st'.heap) {ls:List Nat} (hg: ∀l∈ls,Ay st'.heap l=none) {F:List Nat} (hF:F.Nodup)
  (hc: ∀b∈F,∃l r,l∈ls/\π l=some r/\r.cl b):iN X w π' F:=by
 refine ⟨hF,λb hb=>?_⟩;obtain ⟨l,r,h1,h2,h3⟩:=hc b hb;have hp:=h.1.place l r b h2 h3;refine ⟨hp.1,hp.2,λl2 r2 h4 h5=>?_⟩
 cases hh:Ay st'.heap l2 with
 |none=>rw [(h'.1.heap l2).emp hh] at h4;cases h4
 |some b'=>
  have h6:=(k l2 b' hh).1;rw [h6] at h4;have:=h.1.inj l l2 r r2 b h2 h4 h3 h5;subst this;rw [hg l h1] at hh;cases hh
theorem cF {st:St} {a:Act} (h:Bs X π st a w) {c:AV} {v:Value} (hc:Bx X w π st.heap c v) {c':AV} {st':St} (he:settle st c=some (c',st')):
  ∃π',Bs X π' st' a w/\Bx X w π' st'.heap c' v/\c'.settled=true/\Ll π π' st.heap st'.heap/\
   (Ud st c=true-> ∀(τ:Ty) (fr:Bool) (x:τ.den),τ.tree=true->Gk st' τ c'=some (fr,x)-> ∃F us,Dn w F τ us x/\v=Cj τ us/\iN X w π' F/\ ∀b∈F,∃l r,π l=some r/\r.cl b):=by
 have cell: ∀(a0:AC) (st':St) (π':Pi),Hw X w π st.heap a0 v->Bs X π' st' a w->(Dw st a0).settled=true->Ll π π' st.heap st'.heap->(∀l∈a0.refs,Ay st'.heap l=none)->
   Sz st a0=true-> ∀(τ:Ty) (fr:Bool) (x:τ.den),τ.tree=true->Gk st' τ (.at (Dw st a0))=some (fr,x)-> ∃F us,Dn w F τ us x/\v=Cj τ us/\iN X w π' F/\ ∀b∈F,∃l r,π l=some r/\r.cl b:=by
  intro a0 st1 cN hr h1 hs hk hg ht τ fr x Wp hv
  by_cases Up:τ.Ar=true
  ·
   cases GH:Dw st a0 with
   |data Ww Ow y=>
    rw [GH,dH] at hv;split at hv
    ·rename_i het;subst het;simp only [Aa,Ag] at hv;obtain ⟨_,rfl⟩:=hv
     cases a0 with
     |data sA τ2 z=>
      simp only [Dw,AC.data.injEq] at GH;obtain ⟨rfl,rfl,hz⟩:=GH;have hz:=eq_of_heq hz;subst hz;obtain ⟨cs,zJ,rfl⟩:=hr;exact ⟨[],cs,Yt _ cs _ ht zJ,rfl,⟨Mc,λb hb=>by cases hb⟩,λb hb=>by cases hb⟩
     |own l off len=>
      simp only [Dw] at GH;split at GH
      ·simp only [AC.data.injEq] at GH;obtain ⟨_,h2,_⟩:=GH;subst h2;simp [Ty.Ar] at Up
      ·simp only [AC.data.injEq] at GH;obtain ⟨_,h2,_⟩:=GH;subst h2;simp [Ty.Ar] at Up
      ·cases GH
     |Le l=>simp [Sz] at ht
     |_=>simp [Dw] at GH
    ·cases hv
   |_=>rw [GH] at hv;simp only [Gk,Up,Oz] at hv;cases hv
  ·simp only [Gb] at Up
   have ya:Dy st τ (Dw st a0)=some (fr,x):=by
    rw [<-bw (st:=st) (st':=st1) hs]
    cases GH:Dw st a0 with
    |data Ww Ow y=>
     rw [GH,dH] at hv;rw [Ol];split at hv
     ·rename_i het;rw [Jj het];exact hv
     ·rename_i het;rw [dif_neg het];simp only [Up,Dt,Uk,DD,Ol] at hv;rw [dif_neg het] at hv;exact hv
    |Mn=>rw [GH] at hv;simp only [Gk,Up,Dt,Uk] at hv;rw [Qz rfl] at hv;exact hv
    |Wk=>rw [GH] at hv;simp only [Gk,Up,Dt,Uk] at hv;rw [Qz rfl] at hv;exact hv
    |_=>rw [GH] at hs;simp [AC.settled] at hs
   obtain ⟨F,f1,f2,f3⟩:=p8 h.1 hr ht τ fr x Up Wp ya;exact ⟨F,[v],f1,by simp [Cj,Up],RS h h1 hk hg f2 f3,λb hb=>let ⟨l,r,_,q⟩:=f3 b hb;⟨l,r,q⟩⟩
 unfold settle at he;split at he
 ·rename_i l off len;split at he
  ·rename_i fr tr e tid xs hl;simp only [Aa,Ag] at he;obtain ⟨rfl,rfl⟩:=he;obtain ⟨h1,m⟩:=h.freeze (fr:=fr) (.inl ⟨tr,tid,hl⟩);have:=m.ac (.own l off len) v hc;simp only [Dj,Oz] at this
   have ld:Dw st (.own l off len)= .data fr (.slice e) ((xs.drop off).take len):=by simp only [Dw,hl]
   refine ⟨_,h1,this,rfl,Ll.freeze st l fr e xs,λht=>?_⟩;have:=cell (.own l off len) _ _ hc h1 (by rw [ld];rfl) (Ll.freeze st l fr e xs) (λk hk=>by rw [Af.1 hk];exact St.Mv st l fr e xs) ht;rw [ld] at this;exact this
  ·rename_i e tid xs hl;simp only [Aa,Ag] at he;obtain ⟨rfl,rfl⟩:=he;obtain ⟨h1,m⟩:=h.freeze (fr:=false) (.inr ⟨rfl,tid,hl⟩);have:=m.ac (.own l off len) v hc;simp only [Dj,Oz] at this
   have ld:Dw st (.own l off len)= .data false (.slice e) ((xs.drop off).take len):=by simp only [Dw,hl]
   refine ⟨_,h1,this,rfl,Ll.freeze st l false e xs,λht=>?_⟩;have:=cell (.own l off len) _ _ hc h1 (by rw [ld];rfl) (Ll.freeze st l false e xs) (λk hk=>by rw [Af.1 hk];exact St.Mv st l false e xs) ht;rw [ld] at this;exact this
  ·cases he
 ·rename_i l;split at he
  ·rename_i vt mm hl;simp only [Aa,Ag] at he;obtain ⟨rfl,rfl⟩:=he;obtain ⟨h1,m⟩:=h.Ja hl;have:=m.ac (.Le l) v hc;simp only [Hp,Oz] at this;exact ⟨_,h1,this,rfl,Ll.Ja st l vt mm,λht=>by simp [Ud,Sz] at ht⟩
  ·cases he
 ·rename_i a0 _ _;split at he
  ·rename_i hs;simp only [Aa,Ag] at he;obtain ⟨rfl,rfl⟩:=he;refine ⟨π,h,hc,hs,Ll.refl _ _,λht=>?_⟩;have ld:=Ub (st:=st) hs
   have:=cell a0 st π hc h (by rw [ld];exact hs) (Ll.refl _ _) (λk hk=>by
    cases a0<;>simp [AC.settled] at hs<;>simp [AC.refs] at hk) ht
   rw [ld] at this;exact this
  ·cases he
 ·rename_i cs
  cases hsc:Hx cs.length st cs with
  |none=>rw [hsc] at he;cases he
  |some p=>
   rw [hsc] at he;simp only [An,Aa,Ag] at he;obtain ⟨rfl,rfl⟩:=he;obtain ⟨us,rfl,hr⟩:=hc;obtain ⟨π',h2,h3,h4,h5,h6,h7⟩:=iu cs.length st π cs us p.1 p.2 h hr hsc;refine ⟨π',h2,⟨us,rfl,h3⟩,h4,h5,λht τ fr x Wp hv=>?_⟩;simp only [Ud,Ak] at ht;simp only [Gk] at hv;split at hv
   ·rename_i Up;rw [h6] at hv h4;obtain ⟨F,f1,f2,f3⟩:=xt h.1 τ cs us fr x hr ht.1 (Za ht.2) h4 Wp hv;exact ⟨F,us,f1,by simp [Cj,Up],RS h h2 h5 h7 f2 f3,λb hb=>let ⟨l,r,_,q⟩:=f3 b hb;⟨l,r,q⟩⟩
   ·cases hv
 ·simp only [Aa,Ag] at he;obtain ⟨rfl,rfl⟩:=he;exact ⟨π,h,hc,rfl,Ll.refl _ _,λht=>by simp [Ud] at ht⟩
 ·cases he
theorem iV {o i j s p:Nat} (Ii:i≠j) (hp:p<s):(o+i)*s+p<(o+j)*s\/(o+j)*s+s<=(o+i)*s+p:=by
 rcases Nat.lt_or_gt_of_ne Ii with h|h
 ·left
  have:(o+i+1)*s<=(o+j)*s:=Fk _ (by omega);rw [Dr,Wm] at this;omega
 ·right
  have:(o+j+1)*s<=(o+i)*s:=Fk _ (by omega);rw [Dr,Wm] at this;omega
theorem Im {α:Type} (l ys:List α) (i k:Nat) (h:i+ys.length<=l.length):(Du l i ys)[k]?=if k<i then l[k]? else if k<i+ys.length then ys[k-i]? else l[k]?:=by
 unfold Du
 have t1:(l.take i).length=i:=by simp;omega
 split
 ·rename_i hk;rw [Bn,Au (by omega),Di,Ac hk]
 ·split
  ·rename_i hk;rw [Bn,As (by omega),t1,Au (by omega)]
  ·rw [As (by simp;omega),Cp]
   congr 1
   simp;omega
theorem Jf {α:Type} (l ys:List α) (i:Nat) (h:i+ys.length<=l.length):(Du l i ys).length=l.length:=by
 unfold Du;simp;omega
theorem CO (hT:Ec P T) {st:St} {a:Act} (h:Bs X π st a w) {t:TypeId} {e:Ty} (ht:T.ty t=some e) {l j:Nat} {r:Real} {vx:Value} {tid:TypeId} {fr Ww:Bool} {xs:List e.den} {x:e.den}
  (hp:π l=some r) {tr:Bool} (hl:Ay st.heap l=some (.arr fr tr e tid xs)) (hj:j<xs.length) (hx:Dd w (Dk X.w0.heap.size X.Sc π Ww) e vx x):
  ∃w',(Instr.storeAt t (.pointer (some ⟨r.g,(r.o+j)*e.size,none⟩)) vx).run P w= .ok () w'/\Bs X π (st.Kk l (.arr (fr&&Ww) false e tid (xs.set j x))) a w':=by
 have hb:=(h.1.heap l).Se hl;simp only [Cq,Km,hp] at hb;obtain ⟨h1,cur,ti,h2,h3,h4,h5,h6,_⟩:=hb;obtain ⟨es,fy,hv⟩:=hx;have lI:=Cells.len e es x fy
 have Wz:(r.o+j)*e.size+es.length<=cur.size:=by
  have:(r.o+j+1)*e.size<=(r.o+r.cap)*e.size:=Fk _ (by omega);rw [Dr (r.o+j) 1,Wm] at this;omega
 have ak:(r.o+j)*e.size+es.length<=cur.toList.length:=by simpa using Wz
 have Wj:=Xi (P:=P) (w:=w) (hT.ty _ _ ht) r.g ((r.o+j)*e.size) vx es (by rw [hv];exact Lp e es x fy) lI (Cells.plain e es x fy) cur ti h2 Wz;refine ⟨_,by simp only [Instr.storeAt,Instr.sureAddr];simpa using Wj,?_⟩;refine h.set hl (b:= .arr (fr&&Ww) false e tid (xs.set j x)) ⟨rfl,by simp⟩ (by rw [hp];exact Oe w r.g _) λm=>?_;simp only [Cq,Km,hp];refine ⟨⟨h1.1,h1.2.1,λhf=>h1.2.2 (by simp only [Ak] at hf;exact hf.1)⟩,_,_,setRow_heap w r.g cur _ ti _ h2,by rw [Hk,Jf _ _ _ ak];simpa using h3,h4,by simpa using h5,λi y hy=>?_,λhf=>by cases hf⟩;rw [Fb] at hy;split at hy
 ·rename_i nt;subst nt;simp only [Aa] at hy;subst hy;refine ⟨es,lI,λk u hu=>?_,(m.cells Ww e es x fy).and_right⟩;have hk:k<es.length:=(Ao.1 hu).1;rw [Io,Im _ _ _ _ ak,Ai (by omega),Ac (by omega)];rw [show (r.o+j)*e.size+k-(r.o+j)*e.size=k by omega];exact hu
 ·rename_i nt;obtain ⟨pd,US,lJ,FY⟩:=h6 i y hy;refine ⟨pd,US,λk u hu=>?_,(m.cells fr e pd y FY).and_left⟩;have hk:k<pd.length:=(Ao.1 hu).1;have:=lJ k u hu;rw [Io,Im _ _ _ _ ak];rcases iV (o:=r.o) (i:=i) (j:=j) (s:=e.size) (p:=k) (Ha nt) (by omega) with Kr|wG
  ·rw [Ac Kr];simpa using this
  ·rw [Ai (by omega),Ai (by omega)];simpa using this
theorem lR: ∀(Fs:List (List Nat)) (i:Nat) (F':List Nat),(List.flatten Fs).Nodup->F'.Nodup->(∀b∈F',b∉List.flatten Fs)->(List.flatten (Fs.set i F')).Nodup/\ ∀b∈List.flatten (Fs.set i F'),b∈List.flatten Fs\/b∈F'
 | [],i,F',_,_,_=>by simp
 |G::Fs,0,F',hn,lK,hs=>by
  simp only [List.set_cons_zero,Ls] at hn hs⊢;obtain ⟨n1,n2,n3⟩:=Ee.1 hn;refine ⟨Ee.2 ⟨lK,n2,λa ha b hb e=>hs a ha (Cm _ (e▸hb))⟩,λb hb=>?_⟩;rcases Be.1 hb with hb|hb
  ·exact .inr hb
  ·exact .inl (Cm _ hb)
 |G::Fs,i+1,F',hn,lK,hs=>by
  simp only [List.set_cons_succ,Ls] at hn hs⊢;obtain ⟨n1,n2,n3⟩:=Ee.1 hn;obtain ⟨m1,m2⟩:=lR Fs i F' n2 lK λb hb hm=>hs b hb (Cm _ hm);refine ⟨Ee.2 ⟨n1,m1,λa ha b hb e=>?_⟩,λb hb=>?_⟩
  ·subst e;rcases m2 a hb with h|h
   ·exact n3 a ha a h rfl
   ·exact hs a h (Bo _ ha)
  ·rcases Be.1 hb with hb|hb
   ·exact .inl (Bo _ hb)
   ·exact (m2 b hb).imp (Cm _) id
theorem xq (hT:Ec P T) {st:St} {a:Act} (h:Bs X π st a w) {t:TypeId} {e:Ty} (ht:T.ty t=some e) {l j:Nat} {r:Real} {vx:Value} {tid:TypeId} {fr Ww:Bool} {xs:List e.den} {x:e.den}
  (hp:π l=some r) (hl:Ay st.heap l=some (.arr fr true e tid xs)) (hj:j<xs.length) (hx:Dd w (Dk X.w0.heap.size X.Sc π Ww) e vx x) {F:List Nat} {us:List Value} (hF:Dn w F e us x) (hus:vx=Cj e us) (o6:iN X w π F):
  ∃w',(Instr.storeAt t (.pointer (some ⟨r.g,(r.o+j)*e.size,none⟩)) vx).run P w= .ok () w'/\Bs X (Xp π l (some (r.plus F))) (st.Kk l (.arr (fr&&Ww) true e tid (xs.set j x))) a w':=by
 have hb:=(h.1.heap l).Se hl;simp only [Cq,Km,hp] at hb;obtain ⟨h1,cur,ti,h2,h3,h4,h5,h6,h7⟩:=hb;obtain ⟨Fs,t1,t2,t3,t4⟩:=h7 trivial;obtain ⟨es,fy,hv⟩:=hx;have lI:=Cells.len e es x fy
 have Awt:us=es:=by
  have c1:=Lp e us x (Dn.cells (S:= λ_=>False) F e us x hF λ_ _ h=>h);have c2:=Lp e es x fy;rw [<-hus,hv,c2] at c1;simpa using c1.symm
 subst Awt
 have Wz:(r.o+j)*e.size+us.length<=cur.size:=by
  have:(r.o+j+1)*e.size<=(r.o+r.cap)*e.size:=Fk _ (by omega);rw [Dr (r.o+j) 1,Wm] at this;omega
 have ak:(r.o+j)*e.size+us.length<=cur.toList.length:=by simpa using Wz
 have Wj:=Xi (P:=P) (w:=w) (hT.ty _ _ ht) r.g ((r.o+j)*e.size) vx us (by rw [hv];exact Lp e us x fy) lI (Cells.plain e us x fy) cur ti h2 Wz;have Ra:r.cl r.g:=h.1.sub l r _ hp h1.1;have hng: ∀b∈F,b≠r.g:= λb hb e=>(o6.2 b hb).2.2 l r hp (e▸Ra);have SF:=lR Fs j F (Cn.1 t2).2 o6.1 λb hb hm=>(o6.2 b hb).2.2 l r hp (t3 b hm);refine ⟨_,by simp only [Instr.storeAt,Instr.sureAddr];simpa using Wj,?_⟩;refine h.Axd hl (b:= .arr (fr&&Ww) true e tid (xs.set j x)) ⟨rfl,by simp⟩ hp (λc hc=>⟨(o6.2 c hc).1,(o6.2 c hc).2.1,λm r0 _=>(o6.2 c hc).2.2 m r0⟩) (Oe w r.g _) λm=>?_;simp only [Cq,Km]
 have cell: ∀(i:Nat) (pd:List Value),i≠j->pd.length=e.size->(∀k u,pd[k]?=some u->cur[(r.o+i)*e.size+k]?=some u)-> ∀k u,pd[k]?=some u->(Du cur.toList ((r.o+j)*e.size) us).toArray[(r.o+i)*e.size+k]?=some u:=by
  intro i pd fU US lJ k u hu;have hk:k<pd.length:=(Ao.1 hu).1;have:=lJ k u hu;rw [Io,Im _ _ _ _ ak];rcases iV (o:=r.o) (i:=i) (j:=j) (s:=e.size) (p:=k) fU (by omega) with Kr|wG
  ·rw [Ac Kr];simpa using this
  ·rw [Ai (by omega),Ai (by omega)];simpa using this
 have Ahm: ∀k u,us[k]?=some u->(Du cur.toList ((r.o+j)*e.size) us).toArray[(r.o+j)*e.size+k]?=some u:=by
  intro k u hu;have hk:k<us.length:=(Ao.1 hu).1;rw [Io,Im _ _ _ _ ak,Ai (by omega),Ac (by omega)];rw [show (r.o+j)*e.size+k-(r.o+j)*e.size=k by omega];exact hu
 refine ⟨⟨h1.1,h1.2.1,λhf=>h1.2.2 (by simp only [Ak] at hf;exact hf.1)⟩,_,_,setRow_heap w r.g cur _ ti _ h2,by rw [Hk,Jf _ _ _ ak,Yf];exact h3,h4,by rw [Bb];exact h5,λi y hy=>?_,λ_=>?_⟩
 ·rw [Fb] at hy;split at hy
  ·rename_i nt;subst nt;simp only [Aa] at hy;subst hy;exact ⟨us,lI,Ahm,(m.cells Ww e us x fy).and_right⟩
  ·rename_i nt;obtain ⟨pd,US,lJ,FY⟩:=h6 i y hy;exact ⟨pd,US,cell i pd (Ha nt) US lJ,(m.cells fr e pd y FY).and_left⟩
 ·refine ⟨Fs.set j F,by simp [t1],Cn.2 ⟨λhm=>?_,SF.1⟩,λb hb=>?_,λi y G hy hG=>?_⟩
  ·rcases SF.2 _ hm with h8|h8
   ·exact (Cn.1 t2).1 h8
   ·exact hng _ h8 rfl
  ·exact (SF.2 b hb).imp (t3 b) id
  ·rw [Fb] at hy hG;split at hy
   ·rename_i nt;subst nt;rw [Ac rfl] at hG;rw [Ac (by omega)] at hG;simp only [Aa] at hy hG;subst hy;subst hG;exact ⟨us,lI,Ahm,hF.Gd _ _ _ _ (by simp) λb hb=>setRow_other w r.g b _ (hng b hb)⟩
   ·rename_i nt;rw [Ai nt] at hG;obtain ⟨pd,US,lJ,FY⟩:=t4 i y G hy hG;exact ⟨pd,US,cell i pd (Ha nt) US lJ,FY.Gd _ _ _ _ (by simp) λb hb=>setRow_other w r.g b _ λe=>(Cn.1 t2).1 (Hv.2 ⟨G,Cs hG,e▸hb⟩)⟩
theorem UH {st:St} {a:Act} (h:Bs X π st a w) {τ:Ty} {l:Nat} {x:AV} {vx:Value} (hx:Bx X w π st.heap x vx):Bx X w π st.heap (ZX T st τ l x) vx:=by
 unfold ZX;split
 ·rename_i hc;split
  ·rename_i p hp;have:=Ni τ x vx p.1 p.2 (Hc.1 hc).2 hx hp;exact Dd.Jg this λb _ hA=>hA.imp id (Or.imp id λ⟨h1,_⟩=>by cases h1)
  ·exact hx
 ·exact hx
theorem s9 (hT:Ec P T) {st:St} {a:Act} (h:Bs X π st a w) (t:TypeId) (p x:AV) (vp vx:Value) (hp:Bx X w π st.heap p vp) (hx:Bx X w π st.heap x vx) (st':St)
  (he:Vw T st t p x=some st'): ∃w' π',(Instr.storeAt t vp vx).run P w= .ok () w'/\Bs X π' st' a w':=by
 unfold Vw at he;split at he
 ·rename_i τ l i ht;split at he
  ·rename_i tid vs cs hl hc;split at he
   ·rename_i hle;simp only [Aa] at he;obtain ⟨w',h1,h2⟩:=CQ hT h ht hp (UH h hx) hl hc hle;split at he
    ·rename_i Kg;simp only [Ak,Nv] at Kg;subst he;obtain ⟨YI,h3⟩:=gq (T:=T) l i t τ cs.length 0 _ π (by omega) h2;exact ⟨w',YI,h1,h3⟩
    ·subst he;exact ⟨w',π,h1,h2⟩
   ·cases he
  ·cases he
 ·rename_i τ l j ht;split at he
  ·rename_i x' st1 hs;obtain ⟨cN,h1,h2,h3,h4,h5⟩:=cF h hx hs;split at he
   ·rename_i fr tr e tid xs Ww y hl hv;split at he
    ·rename_i lL;subst lL;split at he
     ·rename_i hj;simp only [Aa] at he;subst he;obtain ⟨r,b,sz,n,g1,g0,g2,g3,rfl⟩:=hp;obtain ⟨k1,b',f,k2,k3⟩:=h4 l _ hl;rw [g1] at k2;cases k2;have g4:=Dz OB.row k3
      rw [show (OB.map f b).row=b.row by cases b<;>rfl,g0] at g4
      simp only [OB.row,Aa,Ag] at g4;obtain ⟨rfl,rfl⟩:=g4
      cases o7:(tr&&(Ud st x&&τ.tree)) with
      |false=>
       obtain ⟨w',q1,q2⟩:=CO hT h1 ht (k1.trans g3) hl hj (Ni _ x' vx Ww y h3 h2 hv);exact ⟨w',cN,q1,q2⟩
      |true=>
       simp only [Ak] at o7;obtain ⟨rfl,htv,lL⟩:=o7;obtain ⟨F,us,f1,f2,f3,_⟩:=h5 htv τ Ww y lL hv;obtain ⟨w',q1,q2⟩:=xq hT h1 ht (k1.trans g3) hl hj (Ni _ x' vx Ww y h3 h2 hv) f1 f2 f3;exact ⟨w',_,q1,q2⟩
     ·cases he
    ·cases he
   ·cases he
  ·cases he
 ·cases he
theorem vn {S:Nat->Prop} {e:Ty} {v:Value} {ys:List e.den} (h:Cells w S (.slice e) [v] ys):
  ∃ad c,v= .slice ad ys.length c/\(ys= []\/ ∃g o,ad=some ⟨g,o,none⟩/\ ∃news:List Value,news.length=ys.length*e.size/\(∀j u,news[j]?=some u->w.cell? ⟨g,o+j,none⟩=some u)/\(∀u∈news,u.oneCell'=true)/\(∀j u,j<ys.length*e.size->w.cell? ⟨g,o+j,none⟩=some u->news[j]?=some u)/\
   ∀(i:Nat) (y:e.den),ys[i]?=some y-> ∃es:List Value,es.length=e.size/\(∀j u,es[j]?=some u->news[i*e.size+j]?=some u)/\Cells w S e es y):=by
 simp only [Cells] at h;obtain ⟨ad,len,cap,hv,hl,tX,ND⟩:=h;simp only [Hi,bz] at hv;subst hl;refine ⟨ad,cap,hv,?_⟩;rcases ND with h0|⟨g,o,rfl,hg,hn,Ma⟩
 ·exact .inl h0
 ·right
  refine ⟨g,o,rfl,(List.range (ys.length*e.size)).map λj=>(w.cell? ⟨g,o+j,none⟩).getD undef,by simp,?_⟩
  have key: ∀k,k<ys.length*e.size-> ∃u,w.cell? ⟨g,o+k,none⟩=some u/\u.oneCell'=true:=by
   intro k hk
   have hs:0<e.size:=by
    rcases Uh e.size with h|h
    ·rw [h] at hk;simp at hk
    ·exact h
   have hi:k/e.size<ys.length:=(Nat.div_lt_iff_lt_mul hs).2 hk;obtain ⟨es,fy,hc,ca⟩:=Ma (k/e.size) _ (Ad hi)
   have hm:k%e.size<es.length:=by rw [fy];exact Nat.mod_lt _ hs
   have:=hc (k%e.size) _ (Ad hm);rw [He,show k/e.size*e.size+k%e.size=k by rw [Nat.mul_comm];exact Nat.div_add_mod k e.size] at this;exact ⟨_,this,Cells.plain e es _ ca _ (Ah hm)⟩
  refine ⟨λj u hu=>?_,λu hu=>?_,λj u hj hu=>by rw [Fa,Rz hj];simp [hu],λi y hy=>?_⟩
  ·rw [Fa] at hu
   have hj:j<ys.length*e.size:=by
    by_cases hj:j<ys.length*e.size
    ·exact hj
    ·rw [Dv (by simpa using hj)] at hu;cases hu
   rw [Rz hj] at hu;obtain ⟨u',iG,_⟩:=key j hj;simp only [An,iG,Dm,Aa] at hu;rw [iG,hu]
  ·obtain ⟨j,hj,rfl⟩:=Bh.1 hu;obtain ⟨u',iG,h1⟩:=key j (Ev.1 hj);rw [iG];exact h1
  ·obtain ⟨es,fy,hc,ca⟩:=Ma i y hy;refine ⟨es,fy,λj u hu=>?_,ca⟩;have hi:=(Ao.1 hy).1;have hj:=(Ao.1 hu).1
   have Kr:i*e.size+j<ys.length*e.size:=by
    have:(i+1)*e.size<=ys.length*e.size:=Fk _ (by omega);rw [Dr,Wm] at this;omega
   rw [Fa,Rz Kr];have:=hc j u hu;rw [He] at this;simp [this]
end
end Go.Proofs.Ytfgfigkbgecfnaa
