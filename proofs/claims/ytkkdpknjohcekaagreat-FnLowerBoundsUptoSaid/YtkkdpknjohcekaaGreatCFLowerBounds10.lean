/-
  Part 11 of the proof that the statement FnLowerBounds holds.
-/
import Derived.Test.YtkkdpknjohcekaaGreatCFLowerBounds09
namespace Go.Proofs.YtkkdpknjohcekaaGreat
open Go.RowKit
section
variable {P:Program} {T:Tab} {X:Ctx} {w w':World} {π:Pi} {H:List (Nat×OB)}
theorem OB.map_map (f g:AC->AC) (b:OB):OB.map g (OB.map f b)=OB.map (λc=>g (f c)) b:=by
 cases b with
 |var t vs=>simp [OB.map,Function.comp_def]
 |_=>rfl
theorem OB.EN (b:OB):OB.map (λc=>c) b=b:=by
 cases b with
 |var t vs=>simp [OB.map]
 |_=>rfl
def Lk (π π':Pi) (H H':List (Nat×OB)):Prop:= ∀l b',At H' l=some b'->π' l=π l/\ ∃b f,At H l=some b/\b'=OB.map f b
theorem Lk.refl (π:Pi) (H:List (Nat×OB)):Lk π π H H:= λ_ b h=>⟨rfl,b,λc=>c,h,(OB.EN b).symm⟩
theorem Lk.trans {cB VH π3:Pi} {H1 H2 H3:List (Nat×OB)} (h:Lk cB VH H1 H2) (h':Lk VH π3 H2 H3):Lk cB π3 H1 H3:= λl b hb=>by
 obtain ⟨e1,b1,f1,h1,rfl⟩:=h' l b hb
 obtain ⟨e2,b2,f2,h2,rfl⟩:=h l b1 h1
 exact ⟨e1.trans e2,b2,_,h2,OB.map_map f2 f1 b2⟩
theorem Lk.freeze (st:St) (l:Nat) (fr:Bool) (e:Ty) (xs:List e.den):Lk π (Xs π l none) st.heap (st.freeze l fr e xs).heap:= λk b hb=>by
 by_cases hk:k=l
 ·subst hk;rw [St.Mu] at hb;cases hb
 ·rw [St.Sv st l k fr e xs hk] at hb
  cases h0:At st.heap k with
  |none=>rw [h0] at hb;cases hb
  |some b0=>
   rw [h0] at hb
   simp only [Al,Aa] at hb
   exact ⟨Gs π none hk,b0,_,rfl,hb.symm⟩
theorem Lk.Jg (st:St) (l:Nat) (v:Ty) (m:ByteArray->Option v.den):Lk π (Xs π l none) st.heap (st.Jg l v m).heap:= λk b hb=>by
 by_cases hk:k=l
 ·subst hk;rw [St.Ue] at hb;cases hb
 ·rw [St.Ry st l k v m hk] at hb
  cases h0:At st.heap k with
  |none=>rw [h0] at hb;cases hb
  |some b0=>
   rw [h0] at hb
   simp only [Al,Aa] at hb
   exact ⟨Gs π none hk,b0,_,rfl,hb.symm⟩
theorem Lk.gone {π':Pi} {H':List (Nat×OB)} (k:Lk π π' H H') {l:Nat} (h:At H l=none):At H' l=none:=by
 cases hb:At H' l with
 |none=>rfl
 |some b=>
  obtain ⟨_,b0,f,h1,_⟩:=k l b hb
  rw [h] at h1;cases h1
def Dn (st:St):AC->AC
 | .own l off len=>match st.at l with
  |some (.arr fr _ e _ xs)=> .data fr (.slice e) ((xs.drop off).take len)
  |some (.Hi e _ xs)=> .data false (.slice e) ((xs.drop off).take len)
  |_=> .own l off len
 | .Ld l=>match st.at l with
  |some (.Wm v m)=> .data false (.smap v) m
  |_=> .Ld l
 |c=>c
theorem Uj {st:St} {c:AC} (h:c.settled=true):Dn st c=c:=by
 cases c<;>simp [AC.settled] at h<;>rfl
theorem w9 {st st':St} {f:AC->AC} {l:Nat} (hH: ∀m,m≠l->At st'.heap m=(At st.heap m).map (OB.map f)) {c:AC} (hc: ∀k∈c.refs,k≠l):Dn st' c=Dn st c:=by
 cases c with
 |own k off len=>
  have hk:k≠l:=hc k (by simp [AC.refs])
  simp only [Dn,St.at,hH k hk]
  cases At st.heap k with
  |none=>rfl
  |some b=>cases b<;>rfl
 |Ld k=>
  have hk:k≠l:=hc k (by simp [AC.refs])
  simp only [Dn,St.at,hH k hk]
  cases At st.heap k with
  |none=>rfl
  |some b=>cases b<;>rfl
 |_=>rfl
theorem gK {a:Act} : ∀(n:Nat) (st:St) (π:Pi) (cs:List AC) (us:List Value) (iG:List AC) (st':St),Bh X π st a w->Gf X w π st.heap cs us->
  Ic n st cs=some (iG,st')-> ∃π',Bh X π' st' a w/\Gf X w π' st'.heap iG us/\iG.all (·.settled)=true/\Lk π π' st.heap st'.heap/\iG=cs.map (Dn st)/\
   (∀k,k∈cs.flatMap AC.refs->At st'.heap k=none)
 |0,st,π,cs,us,iG,st',h,hr,he=>by
  simp only [Ic] at he
  split at he
  ·rename_i hs
   simp only [Aa,Ae] at he
   obtain ⟨rfl,rfl⟩:=he
   have DO:=Bb.1 hs
   exact ⟨π,h,hr,hs,Lk.refl _ _,((Ev λc hc=>Uj (DO c hc)).trans (List.map_id'' (λ_=>rfl) cs)).symm,λk hk=>by
    obtain ⟨c,hc,BH⟩:=He.1 hk
    have:=DO c hc
    cases c<;>simp [AC.settled] at this<;>simp [AC.refs] at BH⟩
  ·cases he
 |n+1,st,π,cs,us,iG,st',h,hr,he=>by
  simp only [Ic] at he
  have step: ∀(f:AC->AC) (l:Nat) (st1:St),Bh X (Xs π l none) st1 a w->Move X w w π (Xs π l none) st.heap st1.heap f->At st1.heap l=none->(∀m,m≠l->At st1.heap m=(At st.heap m).map (OB.map f))->
    Lk π (Xs π l none) st.heap st1.heap->(∀c∈cs,(∀k∈c.refs,k≠l)->f c=c)->(∀c∈cs,l∈c.refs->(f c).refs= []/\(Dn st1 (f c)).settled=true->f c=Dn st c)->
    (∀c∈cs,l∈c.refs->(f c).refs= [])->Ic n st1 (cs.map f)=some (iG,st')->
    ∃π',Bh X π' st' a w/\Gf X w π' st'.heap iG us/\iG.all (·.settled)=true/\Lk π π' st.heap st'.heap/\iG=cs.map (Dn st)/\(∀k,k∈cs.flatMap AC.refs->At st'.heap k=none):=by
   intro f l st1 h1 m hl hH hK hf0 hf1 hf2 he
   obtain ⟨π',h2,h3,h4,h5,h6,h7⟩:=gK n st1 _ (cs.map f) us iG st' h1 (m.acs hr) he
   refine ⟨π',h2,h3,h4,hK.trans h5,?_,λk hk=>?_⟩
   ·rw [h6,List.map_map]
    refine Ev λc hc=>?_
    simp only [Function.comp]
    by_cases Rn:l∈c.refs
    ·have Lc:=Bb.1 h4
     have nE:Dn st1 (f c)∈iG:=by rw [h6];exact Be.2 ⟨f c,Be.2 ⟨c,hc,rfl⟩,rfl⟩
     have hs:=Lc _ nE
     have h8:=hf1 c hc Rn ⟨hf2 c hc Rn,hs⟩
     have h9:Dn st1 (f c)=f c:=by
      have:=hf2 c hc Rn
      cases hfc:f c<;>rw [hfc] at this<;>first|(simp [AC.refs] at this;done)|rfl
     rw [h9,h8]
    ·have Jd: ∀k∈c.refs,k≠l:= λk hk e=>Rn (e▸hk)
     rw [hf0 c hc Jd]
     exact w9 hH Jd
   ·obtain ⟨c,hc,BH⟩:=He.1 hk
    by_cases To:k=l
    ·subst To;exact h5.gone hl
    ·by_cases Rn:l∈c.refs
     ·
      have Lc:=Bb.1 h4
      have nE:Dn st1 (f c)∈iG:=by rw [h6];exact Be.2 ⟨f c,Be.2 ⟨c,hc,rfl⟩,rfl⟩
      have hs:=Lc _ nE
      have h8:=hf1 c hc Rn ⟨hf2 c hc Rn,hs⟩
      have h9:Dn st1 (f c)=f c:=by
       have:=hf2 c hc Rn
       cases hfc:f c<;>rw [hfc] at this<;>first|(simp [AC.refs] at this;done)|rfl
      rw [h9,h8] at hs
      cases c with
      |clo g Eh=>simp [Dn,AC.settled] at hs
      |own k' _ _=>simp [AC.refs] at Rn BH;exact absurd (BH.trans Rn.symm) To
      |Ld k'=>simp [AC.refs] at Rn BH;exact absurd (BH.trans Rn.symm) To
      |Hv k' _=>simp [AC.refs] at Rn BH;exact absurd (BH.trans Rn.symm) To
      |Kw k' _=>simp [AC.refs] at Rn BH;exact absurd (BH.trans Rn.symm) To
      |sub k' _ _=>simp [AC.refs] at Rn BH;exact absurd (BH.trans Rn.symm) To
      |Ks k' _ _=>simp [AC.refs] at Rn BH;exact absurd (BH.trans Rn.symm) To
      |_=>simp [AC.refs] at BH
     ·have Jd: ∀k∈c.refs,k≠l:= λk hk e=>Rn (e▸hk)
      exact h7 k (He.2 ⟨f c,Be.2 ⟨c,hc,rfl⟩,by rw [hf0 c hc Jd];exact BH⟩)
  have BJ: ∀(st1:St) (c:AC),(Dn st1 c).settled=true->c≠ .undef:= λst1 c hs e=>by rw [e] at hs;simp [Dn,AC.settled] at hs
  split at he
  ·rename_i hf
   simp only [Aa,Ae] at he
   obtain ⟨rfl,rfl⟩:=he
   have DO: ∀c∈cs,c.settled=true:= λc hc=>by have:=List.find?_eq_none.1 hf c hc;simpa using this
   exact ⟨π,h,hr,Bb.2 DO,Lk.refl _ _,((Ev λc hc=>Uj (DO c hc)).trans (List.map_id'' (λ_=>rfl) cs)).symm,λk hk=>by
    obtain ⟨c,hc,BH⟩:=He.1 hk
    have:=DO c hc
    cases c<;>simp [AC.settled] at this<;>simp [AC.refs] at BH⟩
  ·rename_i l off len hf
   split at he
   ·rename_i fr tr e tid xs hl
    unfold St.at at hl
    obtain ⟨h1,m⟩:=h.freeze (fr:=fr) (.inl ⟨tr,tid,hl⟩)
    refine step _ l _ h1 m (St.Mu st l fr e xs) (λm hm=>St.Sv st l m fr e xs hm) (Lk.freeze st l fr e xs) (λc _ hc=>iR hc) (λc _ Rn hs=>?_) (λc _ Rn=>?_) he
    ·cases c with
     |own k o n=>have:k=l:=(Ad.1 Rn).symm
                 subst this;simp only [Cw,Ab,Dn,St.at,hl]
     |Hv k o=>have:k=l:=(Ad.1 Rn).symm
              subst this;simp only [Cw,Ab] at hs;exact absurd rfl (BJ _ _ hs.2)
     |Kw k o=>have:k=l:=(Ad.1 Rn).symm
              subst this;simp only [Cw,Ab] at hs;exact absurd rfl (BJ _ _ hs.2)
     |sub k o o2=>have:k=l:=(Ad.1 Rn).symm
                  subst this;simp only [Cw,Ab] at hs;exact absurd rfl (BJ _ _ hs.2)
     |Ks k o o2=>have:k=l:=(Ad.1 Rn).symm
                 subst this;simp only [Cw,Ab] at hs;exact absurd rfl (BJ _ _ hs.2)
     |Ld k=>have:k=l:=(Ad.1 Rn).symm
            subst this;simp only [Cw,Ab] at hs;exact absurd rfl (BJ _ _ hs.2)
     |clo g Eh=>
      simp only [Cw] at hs
      rw [Ab (by simpa [AC.refs] using Rn)] at hs
      exact absurd rfl (BJ _ _ hs.2)
     |_=>simp [AC.refs] at Rn
    ·cases c with
     |own k o n=>have:k=l:=(Ad.1 Rn).symm
                 subst this;simp only [Cw,Ab];rfl
     |Hv k o=>have:k=l:=(Ad.1 Rn).symm
              subst this;simp only [Cw,Ab];rfl
     |Kw k o=>have:k=l:=(Ad.1 Rn).symm
              subst this;simp only [Cw,Ab];rfl
     |sub k o o2=>have:k=l:=(Ad.1 Rn).symm
                  subst this;simp only [Cw,Ab];rfl
     |Ks k o o2=>have:k=l:=(Ad.1 Rn).symm
                 subst this;simp only [Cw,Ab];rfl
     |Ld k=>have:k=l:=(Ad.1 Rn).symm
            subst this;simp only [Cw,Ab];rfl
     |clo g Eh=>simp only [Cw];rw [Ab (by simpa [AC.refs] using Rn)];rfl
     |_=>simp [AC.refs] at Rn
   ·rename_i e tid xs hl
    unfold St.at at hl
    obtain ⟨h1,m⟩:=h.freeze (fr:=false) (.inr ⟨rfl,tid,hl⟩)
    refine step _ l _ h1 m (St.Mu st l false e xs) (λm hm=>St.Sv st l m false e xs hm) (Lk.freeze st l false e xs) (λc _ hc=>iR hc) (λc _ Rn hs=>?_) (λc _ Rn=>?_) he
    ·cases c with
     |own k o n=>have:k=l:=(Ad.1 Rn).symm
                 subst this;simp only [Cw,Ab,Dn,St.at,hl]
     |Hv k o=>have:k=l:=(Ad.1 Rn).symm
              subst this;simp only [Cw,Ab] at hs;exact absurd rfl (BJ _ _ hs.2)
     |Kw k o=>have:k=l:=(Ad.1 Rn).symm
              subst this;simp only [Cw,Ab] at hs;exact absurd rfl (BJ _ _ hs.2)
     |sub k o o2=>have:k=l:=(Ad.1 Rn).symm
                  subst this;simp only [Cw,Ab] at hs;exact absurd rfl (BJ _ _ hs.2)
     |Ks k o o2=>have:k=l:=(Ad.1 Rn).symm
                 subst this;simp only [Cw,Ab] at hs;exact absurd rfl (BJ _ _ hs.2)
     |Ld k=>have:k=l:=(Ad.1 Rn).symm
            subst this;simp only [Cw,Ab] at hs;exact absurd rfl (BJ _ _ hs.2)
     |clo g Eh=>
      simp only [Cw] at hs
      rw [Ab (by simpa [AC.refs] using Rn)] at hs
      exact absurd rfl (BJ _ _ hs.2)
     |_=>simp [AC.refs] at Rn
    ·cases c with
     |own k o n=>have:k=l:=(Ad.1 Rn).symm
                 subst this;simp only [Cw,Ab];rfl
     |Hv k o=>have:k=l:=(Ad.1 Rn).symm
              subst this;simp only [Cw,Ab];rfl
     |Kw k o=>have:k=l:=(Ad.1 Rn).symm
              subst this;simp only [Cw,Ab];rfl
     |sub k o o2=>have:k=l:=(Ad.1 Rn).symm
                  subst this;simp only [Cw,Ab];rfl
     |Ks k o o2=>have:k=l:=(Ad.1 Rn).symm
                 subst this;simp only [Cw,Ab];rfl
     |Ld k=>have:k=l:=(Ad.1 Rn).symm
            subst this;simp only [Cw,Ab];rfl
     |clo g Eh=>simp only [Cw];rw [Ab (by simpa [AC.refs] using Rn)];rfl
     |_=>simp [AC.refs] at Rn
   ·cases he
  ·rename_i l hf
   split at he
   ·rename_i v mm hl
    unfold St.at at hl
    obtain ⟨h1,m⟩:=h.Jg hl
    refine step _ l _ h1 m (St.Ue st l v mm) (λm hm=>St.Ry st l m v mm hm) (Lk.Jg st l v mm) (λc _ hc=>sN hc) (λc _ Rn hs=>?_) (λc _ Rn=>?_) he
    ·cases c with
     |Ld k=>have:k=l:=(Ad.1 Rn).symm
            subst this;simp only [Ho,Ab,Dn,St.at,hl]
     |Hv k o=>have:k=l:=(Ad.1 Rn).symm
              subst this;simp only [Ho,Ab] at hs;exact absurd rfl (BJ _ _ hs.2)
     |Kw k o=>have:k=l:=(Ad.1 Rn).symm
              subst this;simp only [Ho,Ab] at hs;exact absurd rfl (BJ _ _ hs.2)
     |sub k o o2=>have:k=l:=(Ad.1 Rn).symm
                  subst this;simp only [Ho,Ab] at hs;exact absurd rfl (BJ _ _ hs.2)
     |Ks k o o2=>have:k=l:=(Ad.1 Rn).symm
                 subst this;simp only [Ho,Ab] at hs;exact absurd rfl (BJ _ _ hs.2)
     |own k o n=>have:k=l:=(Ad.1 Rn).symm
                 subst this;simp only [Ho,Ab] at hs;exact absurd rfl (BJ _ _ hs.2)
     |clo g Eh=>
      simp only [Ho] at hs
      rw [Ab (by simpa [AC.refs] using Rn)] at hs
      exact absurd rfl (BJ _ _ hs.2)
     |_=>simp [AC.refs] at Rn
    ·cases c with
     |own k o n=>have:k=l:=(Ad.1 Rn).symm
                 subst this;simp only [Ho,Ab];rfl
     |Hv k o=>have:k=l:=(Ad.1 Rn).symm
              subst this;simp only [Ho,Ab];rfl
     |Kw k o=>have:k=l:=(Ad.1 Rn).symm
              subst this;simp only [Ho,Ab];rfl
     |sub k o o2=>have:k=l:=(Ad.1 Rn).symm
                  subst this;simp only [Ho,Ab];rfl
     |Ks k o o2=>have:k=l:=(Ad.1 Rn).symm
                 subst this;simp only [Ho,Ab];rfl
     |Ld k=>have:k=l:=(Ad.1 Rn).symm
            subst this;simp only [Ho,Ab];rfl
     |clo g Eh=>simp only [Ho];rw [Ab (by simpa [AC.refs] using Rn)];rfl
     |_=>simp [AC.refs] at Rn
   ·cases he
  ·cases he
def ie (X:Ctx) (w:World) (π:Pi) (F:List Nat):Prop:=F.Nodup/\ ∀b∈F,(X.w0.heap.size<=b\/X.gv b)/\b<w.heap.size/\ ∀l r,π l=some r-> ¬r.cl b
theorem Yt {S:Nat->Prop} : ∀(e:Ty) (es:List Value) (x:e.den),e.flat=true->Cells w S e es x->Db w [] e es x
 | .int k,cs,n,_,h=>⟨rfl,h⟩
 | .bool,cs,n,_,h=>⟨rfl,h⟩
 | .str,cs,n,_,h=>⟨rfl,h⟩
 | .unit,cs,n,_,h=>⟨rfl,h⟩
 | .pair a r,cs,x,hf,h=>by
  simp only [Ty.flat,Af] at hf
  simp only [Cells] at h
  simp only [Db]
  obtain ⟨c1,c2,h1,h2,h3⟩:=h
  exact ⟨c1,c2,[],[],h1,rfl,Yt a c1 x.1 hf.1 h2,Yt r c2 x.2 hf.2 h3⟩
 | .slice _,_,_,hf,_=>by simp [Ty.flat] at hf
 | .oslice _,_,_,hf,_=>by simp [Ty.flat] at hf
 | .ptr _,_,_,hf,_=>by simp [Ty.flat] at hf
 | .optr _,_,_,hf,_=>by simp [Ty.flat] at hf
 | .smap _,_,_,hf,_=>by simp [Ty.flat] at hf
 | .clo _ _,_,_,hf,_=>by simp [Ty.flat] at hf
theorem Tn {Fs:List (List Nat)} (off len:Nat) (b:Nat) (h:b∈List.flatten ((Fs.drop off).take len)):b∈List.flatten Fs:=by
 obtain ⟨F,hF,hb⟩:=Hz.1 h
 exact Hz.2 ⟨F,dQ (Ij hF),hb⟩
theorem gQ {α:Type} {a b:List (List α)} (h:a.Sublist b):(List.flatten a).Sublist (List.flatten b):=by
 induction h with
 |slnil=>exact List.Sublist.refl _
 |cons c _ ih=>simp only [Lr];exact ih.trans (List.sublist_append_right _ _)
 |cons_cons c _ ih=>simp only [Lr];exact List.Sublist.append (List.Sublist.refl _) ih
theorem mj {Fs:List (List Nat)} (off len:Nat) (h:(List.flatten Fs).Nodup):(List.flatten ((Fs.drop off).take len)).Nodup:=by
 have h1:((Fs.drop off).take len).Sublist Fs:=(List.take_sublist len _).trans (List.drop_sublist off Fs)
 exact h.sublist (gQ h1)
theorem kx {P:Nat->Prop} {r:Real} {off len:Nat} {v:Value} {e:Ty} {tid:TypeId} {xs:List e.den} {cur:Array Value} (h2:w.heap[r.g]?=some (.cells cur tid (0,0))) (aM:cur.size=(r.o+r.cap)*e.size) (sU:r.cap<=maxLen)
  (hlen:off+len<=xs.length) (hv:Ir (some r) e.size off len v) (ht:Yi w P r.g r.o cur e xs) (hg:P r.g):
  ∃F,Db w F (.slice e) [v] ((xs.drop off).take len)/\F.Nodup/\ ∀b∈F,P b:=by
 have XK:((xs.drop off).take len).length=len:=by simp;omega
 obtain ⟨ad,rfl,hc,ha⟩:=hv
 obtain ⟨Fs,t1,t2,t3,t4⟩:=ht
 ·refine ⟨r.g::List.flatten ((Fs.drop off).take len),⟨some ad,len,r.cap-off,rfl,XK.symm,by omega, .inr ⟨ad,r.g,(r.o+off)*e.size,_,rfl,λh0=>ha (by omega),⟨cur,tid,r.o+off,h2,rfl,by rw [aM];congr 1;omega,by omega⟩,rfl,by simp;omega,λi x F hx hF=>?_⟩⟩,?_,λb hb=>?_⟩
  ·have hi:i<len:=by
    have:=(Am.1 hx).1
    rw [XK] at this;exact this
   have hx':xs[off+i]?=some x:=by rw [Cs,Ab hi,Da] at hx;exact hx
   have hF':Fs[off+i]?=some F:=by rw [Cs,Ab hi,Da] at hF;exact hF
   obtain ⟨es,he,hj,yM⟩:=t4 (off+i) x F hx' hF'
   refine ⟨es,he,λj u hu=>?_,yM⟩
   rw [cellOf h2]
   have:=hj j u hu
   rw [<-this]
   congr 1
   rw [<-Ha,Df (r.o+off) i]
  ·have:=Cb.1 t2
   exact Cb.2 ⟨λhm=>this.1 (Tn off len _ hm),mj off len this.2⟩
  ·rcases Bd.1 hb with rfl|hb
   ·exact hg
   ·exact t3 b (Tn off len b hb)
theorem oB {st:St} (h:Nm X w π st.heap) {c:AC} {v:Value} (hc:Ia X w π st.heap c v) (ht:Th st c=true) (τ:Ty) (fr:Bool) (x:τ.den) (Uv:τ.Ao=false) (RQ:τ.tree=true)
  (hv:Dr st τ (Dn st c)=some (fr,x)): ∃F,Db w F τ [v] x/\F.Nodup/\ ∀b∈F,∃l r,l∈c.refs/\π l=some r/\r.cl b:=by
 cases c with
 |data Ww Pb y=>
  simp only [Th] at ht
  simp only [Dn,Ol] at hv
  split at hv
  ·rename_i he;subst he
   simp only [Aa,Ae] at hv
   obtain ⟨_,rfl⟩:=hv
   exact ⟨[],Yt Pb _ _ ht (Cu.Tc Uv hc),Ns,λb hb=>by cases hb⟩
  ·unfold iF at hv
   split at hv
   ·simp [Ty.flat] at ht
   ·simp [Ty.flat] at ht
   ·cases hv
 |Mm=>
  have hc:v= .slice none 0 0:=hc
  subst hc
  cases τ with
  |slice e=>
   simp only [Dn,Dr,Aa,Ae] at hv
   obtain ⟨_,rfl⟩:=hv
   exact ⟨[],⟨none,0,0,rfl,rfl,Ap _, .inl ⟨rfl,rfl,rfl,rfl⟩⟩,Ns,λb hb=>by cases hb⟩
  |oslice e=>simp [Ty.tree] at RQ
  |_=>simp [Dn,Dr] at hv
 |own l off len=>
  simp only [Th] at ht
  split at ht
  ·rename_i Ww tr e tid xs hl
   have Mb:=hl
   unfold St.at at hl
   simp only [Dn,Mb,Ol] at hv
   split at hv
   ·rename_i he;subst he
    simp only [Aa,Ae] at hv
    obtain ⟨_,rfl⟩:=hv
    obtain ⟨h2,h3⟩:=Pg hc hl
    have hb:=(h.heap l).Sn hl
    simp only [Cg,Kt] at hb
    cases hp:π l with
    |none=>
     rw [hp] at h3
     obtain ⟨rfl,rfl,rfl⟩:=h3
     exact ⟨[],⟨none,0,0,rfl,by simp,Ap _, .inl ⟨by simp,rfl,rfl,rfl⟩⟩,Ns,λb hb=>by cases hb⟩
    |some r=>
     rw [hp] at hb h3
     obtain ⟨k1,cur,_,k2,k3,k4,k5,k6,k7⟩:=hb
     have PK:Yi w r.cl r.g r.o cur e xs:=by
      simp only [Mh] at ht
      rcases ht with ht|ht
      ·exact k7 ht
      ·refine ⟨List.replicate xs.length [],by simp,by simp,by simp,λi x F hx hF=>?_⟩
       obtain ⟨es,e1,e2,e3⟩:=k6 i x hx
       have:F= []:=by
        have:=Cj hF
        exact Fy this
       subst this
       exact ⟨es,e1,e2,Yt e es x ht e3⟩
     obtain ⟨F,f1,f2,f3⟩:=kx k2 k3 k4 h2 h3 PK (h.sub l r _ hp k1.1)
     exact ⟨F,f1,f2,λb hb=>⟨l,r,by simp [AC.refs],hp,f3 b hb⟩⟩
   ·cases τ<;>simp [iF] at hv
  ·rename_i e tid xs hl
   have Mb:=hl
   unfold St.at at hl
   simp only [Dn,Mb,Ol] at hv
   split at hv
   ·rename_i he;subst he
    simp only [Aa,Ae] at hv
    obtain ⟨_,rfl⟩:=hv
    obtain ⟨h2,h3⟩:=ck hc hl
    have hb:=(h.heap l).Sn hl
    simp only [Cg,Oo] at hb
    cases hp:π l with
    |none=>
     rw [hp] at h3
     obtain ⟨rfl,rfl,rfl⟩:=h3
     exact ⟨[],⟨none,0,0,rfl,by simp,Ap _, .inl ⟨by simp,rfl,rfl,rfl⟩⟩,Ns,λb hb=>by cases hb⟩
    |some r=>
     rw [hp] at hb h3
     obtain ⟨k1,cur,_,k2,k3,k4,k5,k7⟩:=hb
     obtain ⟨F,f1,f2,f3⟩:=kx k2 k3 k4 h2 h3 k7 k1
     exact ⟨F,f1,f2,λb hb=>⟨l,r,by simp [AC.refs],hp,h.sub l r b hp (f3 b hb)⟩⟩
   ·cases τ<;>simp [iF] at hv
  ·cases ht
 |_=>simp [Th] at ht
theorem Zb: ∀ {l:List Nat},aC l=true->l.Nodup
 | [],_=>Ns
 |a::r,h=>by
  simp only [aC,Af,Es,List.contains_eq_mem,decide_eq_false_iff_not] at h
  exact Cb.2 ⟨h.1,Zb h.2⟩
theorem bl {st st':St} {τ:Ty} {c:AC} (h:c.settled=true):Dr st' τ c=Dr st τ c:=by
 cases c<;>simp [AC.settled] at h<;>cases τ<;>rfl
theorem wx {st st':St} (h:Nm X w π st.heap): ∀(τ:Ty) (cs:List AC) (us:List Value) (fr:Bool) (x:τ.den),Gf X w π st.heap cs us->cs.all (Th st)=true->(cs.flatMap AC.refs).Nodup->
  (cs.map (Dn st)).all (·.settled)=true->τ.tree=true->Ff st' τ (cs.map (Dn st))=some (fr,x)-> ∃F,Db w F τ us x/\F.Nodup/\ ∀b∈F,∃l r,l∈cs.flatMap AC.refs/\π l=some r/\r.cl b:=by
 have one: ∀(τ:Ty) (cs:List AC) (us:List Value) (fr:Bool) (x:τ.den),τ.Ao=false->Gf X w π st.heap cs us->cs.all (Th st)=true->
   (cs.map (Dn st)).all (·.settled)=true->τ.tree=true->Ff st' τ (cs.map (Dn st))=some (fr,x)-> ∃F,Db w F τ us x/\F.Nodup/\ ∀b∈F,∃l r,l∈cs.flatMap AC.refs/\π l=some r/\r.cl b:=by
  intro τ cs us fr x Uv hr ht hs Tj hv
  rw [Uz Uv] at hv
  rcases cs with _|⟨c,_|⟨d,cs⟩⟩
  ·cases hv
  ·simp only [Bz,List.map_nil] at hv
   obtain ⟨u,hu,_,hc⟩:=hr.2 0 c rfl
   have hl:us.length=1:=hr.1
   obtain ⟨u',rfl⟩:=Ee.1 hl
   simp at hu;subst hu
   rw [bl (st:=st) (by simpa using hs)] at hv
   obtain ⟨F,f1,f2,f3⟩:=oB h hc (by simpa using ht) τ fr x Uv Tj hv
   exact ⟨F,f1,f2,λb hb=>by obtain ⟨l,r,g1,g2⟩:=f3 b hb;exact ⟨l,r,by simpa using g1,g2⟩⟩
  ·cases hv
 intro τ
 induction τ with
 |unit=>
  intro cs us fr x hr ht hd hs Tj hv
  cases cs with
  |nil=>have:us= []:=Ci hr.1;subst this;exact ⟨[],⟨rfl,rfl⟩,Ns,λb hb=>by cases hb⟩
  |cons c cs=>simp [Ff] at hv
 |pair a r ib hJ=>
  intro cs us fr x hr ht hd hs Tj hv
  simp only [Ty.tree,Af] at Tj
  simp only [Ff] at hv
  split at hv
  ·rename_i f1 y f2 z h1 h2
   simp only [Aa,Ae] at hv
   obtain ⟨rfl,rfl⟩:=hv
   have hr1:Gf X w π st.heap (cs.take a.size) (us.take a.size):=by have:=ak hr 0 a.size;simpa using this
   have hr2:Gf X w π st.heap (cs.drop a.size) (us.drop a.size):=
    ⟨by simp [hr.1],λi c hc=>by
     rw [Da] at hc⊢
     exact hr.2 _ c hc⟩
   have An6: ∀ {p:AC->Bool} {l:List AC} (n:Nat),l.all p=true->(l.take n).all p=true:= λn hl=>Bb.2 λc hc=>Bb.1 hl c (Ij hc)
   have An7: ∀ {p:AC->Bool} {l:List AC} (n:Nat),l.all p=true->(l.drop n).all p=true:= λn hl=>Bb.2 λc hc=>Bb.1 hl c (dQ hc)
   have hdd:((cs.take a.size++cs.drop a.size).flatMap AC.refs).Nodup:=by rw [Kf];exact hd
   rw [List.flatMap_append] at hdd
   obtain ⟨d1,d2,d3⟩:=Du.1 hdd
   rw [<-List.map_take] at h1
   rw [<-List.map_drop] at h2
   obtain ⟨F1,t1,n1,c1⟩:=ib _ _ f1 y hr1 (An6 _ ht) d1 (by rw [List.map_take];exact An6 _ hs) Tj.1 h1
   obtain ⟨F2,t2,n2,c2⟩:=hJ _ _ f2 z hr2 (An7 _ ht) d2 (by rw [List.map_drop];exact An7 _ hs) Tj.2 h2
   refine ⟨F1++F2,⟨us.take a.size,us.drop a.size,F1,F2,(Kf _ _).symm,rfl,t1,t2⟩,Du.2 ⟨n1,n2,λb hb b' ve e=>?_⟩,λb hb=>?_⟩
   ·subst e
    obtain ⟨l1,r1,g1,g2,g3⟩:=c1 b hb
    obtain ⟨l2,r2,g4,g5,g6⟩:=c2 b ve
    exact d3 l1 g1 l2 g4 (h.inj l1 l2 r1 r2 b g2 g5 g3 g6)
   ·have Lc: ∀l,(l∈(cs.take a.size).flatMap AC.refs\/l∈(cs.drop a.size).flatMap AC.refs)->l∈cs.flatMap AC.refs:= λl hl=>by
     rw [<-Az,<-List.flatMap_append,Kf] at hl;exact hl
    rcases Az.1 hb with hb|hb
    ·obtain ⟨l1,r1,g1,g2⟩:=c1 b hb;exact ⟨l1,r1,Lc l1 (.inl g1),g2⟩
    ·obtain ⟨l1,r1,g1,g2⟩:=c2 b hb;exact ⟨l1,r1,Lc l1 (.inr g1),g2⟩
  ·cases hv
 |_=>exact λcs us fr x hr ht _ hs Tj hv=>one _ cs us fr x rfl hr ht hs Tj hv
theorem OQ {π':Pi} {st st':St} {a:Act} (h:Bh X π st a w) (h':Bh X π' st' a w) (k:Lk π π' st.heap st'.heap) {ls:List Nat} (hg: ∀l∈ls,At st'.heap l=none) {F:List Nat} (hF:F.Nodup)
  (hc: ∀b∈F,∃l r,l∈ls/\π l=some r/\r.cl b):ie X w π' F:=by
 refine ⟨hF,λb hb=>?_⟩
 obtain ⟨l,r,h1,h2,h3⟩:=hc b hb
 have hp:=h.1.place l r b h2 h3
 refine ⟨hp.1,hp.2,λl2 r2 h4 h5=>?_⟩
 cases hh:At st'.heap l2 with
 |none=>rw [(h'.1.heap l2).emp hh] at h4;cases h4
 |some b'=>
  have h6:=(k l2 b' hh).1
  rw [h6] at h4
  have:=h.1.inj l l2 r r2 b h2 h4 h3 h5
  subst this
  rw [hg l h1] at hh;cases hh
theorem cn {st:St} {a:Act} (h:Bh X π st a w) {c:AV} {v:Value} (hc:Bl X w π st.heap c v) {c':AV} {st':St} (he:settle st c=some (c',st')):
  ∃π',Bh X π' st' a w/\Bl X w π' st'.heap c' v/\c'.settled=true/\Lk π π' st.heap st'.heap/\
   (Um st c=true-> ∀(τ:Ty) (fr:Bool) (x:τ.den),τ.tree=true->Gc st' τ c'=some (fr,x)-> ∃F us,Db w F τ us x/\v=Ca τ us/\ie X w π' F/\ ∀b∈F,∃l r,π l=some r/\r.cl b):=by
 have cell: ∀(a0:AC) (st':St) (π':Pi),Ia X w π st.heap a0 v->Bh X π' st' a w->(Dn st a0).settled=true->Lk π π' st.heap st'.heap->(∀l∈a0.refs,At st'.heap l=none)->
   Th st a0=true-> ∀(τ:Ty) (fr:Bool) (x:τ.den),τ.tree=true->Gc st' τ (.at (Dn st a0))=some (fr,x)-> ∃F us,Db w F τ us x/\v=Ca τ us/\ie X w π' F/\ ∀b∈F,∃l r,π l=some r/\r.cl b:=by
  intro a0 st1 cB hr h1 hs hk hg ht τ fr x Tj hv
  by_cases Uv:τ.Ao=true
  ·
   cases DP:Dn st a0 with
   |data Ww Pb y=>
    rw [DP,dq] at hv
    split at hv
    ·rename_i het;subst het
     simp only [Aa,Ae] at hv
     obtain ⟨_,rfl⟩:=hv
     cases a0 with
     |data rP τ2 z=>
      simp only [Dn,AC.data.injEq] at DP
      obtain ⟨rfl,rfl,hz⟩:=DP
      have hz:=eq_of_heq hz
      subst hz
      obtain ⟨cs,yM,rfl⟩:=hr
      exact ⟨[],cs,Yt _ cs _ ht yM,rfl,⟨Ns,λb hb=>by cases hb⟩,λb hb=>by cases hb⟩
     |own l off len=>
      simp only [Dn] at DP
      split at DP
      ·simp only [AC.data.injEq] at DP;obtain ⟨_,h2,_⟩:=DP;subst h2;simp [Ty.Ao] at Uv
      ·simp only [AC.data.injEq] at DP;obtain ⟨_,h2,_⟩:=DP;subst h2;simp [Ty.Ao] at Uv
      ·cases DP
     |Ld l=>simp [Th] at ht
     |_=>simp [Dn] at DP
    ·cases hv
   |_=>rw [DP] at hv;simp only [Gc,Uv,Qi] at hv;cases hv
  ·simp only [Hc] at Uv
   have DQ:Dr st τ (Dn st a0)=some (fr,x):=by
    rw [<-bl (st:=st) (st':=st1) hs]
    cases DP:Dn st a0 with
    |data Ww Pb y=>
     rw [DP,dq] at hv
     rw [Ol]
     split at hv
     ·rename_i het;rw [Jo het];exact hv
     ·rename_i het
      rw [dif_neg het]
      simp only [Uv,Cz,Sm,AT,Ol] at hv
      rw [dif_neg het] at hv
      exact hv
    |Mm=>rw [DP] at hv;simp only [Gc,Uv,Cz,Sm] at hv;rw [Rk rfl] at hv;exact hv
    |Wl=>rw [DP] at hv;simp only [Gc,Uv,Cz,Sm] at hv;rw [Rk rfl] at hv;exact hv
    |_=>rw [DP] at hs;simp [AC.settled] at hs
   obtain ⟨F,f1,f2,f3⟩:=oB h.1 hr ht τ fr x Uv Tj DQ
   exact ⟨F,[v],f1,by simp [Ca,Uv],OQ h h1 hk hg f2 f3,λb hb=>let ⟨l,r,_,q⟩:=f3 b hb;⟨l,r,q⟩⟩
 unfold settle at he
 split at he
 ·rename_i l off len
  split at he
  ·rename_i fr tr e tid xs hl
   simp only [Aa,Ae] at he
   obtain ⟨rfl,rfl⟩:=he
   obtain ⟨h1,m⟩:=h.freeze (fr:=fr) (.inl ⟨tr,tid,hl⟩)
   have:=m.ac (.own l off len) v hc
   simp only [Cw,Qi] at this
   have gY:Dn st (.own l off len)= .data fr (.slice e) ((xs.drop off).take len):=by simp only [Dn,hl]
   refine ⟨_,h1,this,rfl,Lk.freeze st l fr e xs,λht=>?_⟩
   have:=cell (.own l off len) _ _ hc h1 (by rw [gY];rfl) (Lk.freeze st l fr e xs) (λk hk=>by rw [Ad.1 hk];exact St.Mu st l fr e xs) ht
   rw [gY] at this
   exact this
  ·rename_i e tid xs hl
   simp only [Aa,Ae] at he
   obtain ⟨rfl,rfl⟩:=he
   obtain ⟨h1,m⟩:=h.freeze (fr:=false) (.inr ⟨rfl,tid,hl⟩)
   have:=m.ac (.own l off len) v hc
   simp only [Cw,Qi] at this
   have gY:Dn st (.own l off len)= .data false (.slice e) ((xs.drop off).take len):=by simp only [Dn,hl]
   refine ⟨_,h1,this,rfl,Lk.freeze st l false e xs,λht=>?_⟩
   have:=cell (.own l off len) _ _ hc h1 (by rw [gY];rfl) (Lk.freeze st l false e xs) (λk hk=>by rw [Ad.1 hk];exact St.Mu st l false e xs) ht
   rw [gY] at this
   exact this
  ·cases he
 ·rename_i l
  split at he
  ·rename_i vt mm hl
   simp only [Aa,Ae] at he
   obtain ⟨rfl,rfl⟩:=he
   obtain ⟨h1,m⟩:=h.Jg hl
   have:=m.ac (.Ld l) v hc
   simp only [Ho,Qi] at this
   exact ⟨_,h1,this,rfl,Lk.Jg st l vt mm,λht=>by simp [Um,Th] at ht⟩
  ·cases he
 ·rename_i a0 _ _
  split at he
  ·rename_i hs
   simp only [Aa,Ae] at he
   obtain ⟨rfl,rfl⟩:=he
   refine ⟨π,h,hc,hs,Lk.refl _ _,λht=>?_⟩
   have gY:=Uj (st:=st) hs
   have:=cell a0 st π hc h (by rw [gY];exact hs) (Lk.refl _ _) (λk hk=>by
    cases a0<;>simp [AC.settled] at hs<;>simp [AC.refs] at hk) ht
   rw [gY] at this
   exact this
  ·cases he
 ·rename_i cs
  cases hsc:Ic cs.length st cs with
  |none=>rw [hsc] at he;cases he
  |some p=>
   rw [hsc] at he
   simp only [Al,Aa,Ae] at he
   obtain ⟨rfl,rfl⟩:=he
   obtain ⟨us,rfl,hr⟩:=hc
   obtain ⟨π',h2,h3,h4,h5,h6,h7⟩:=gK cs.length st π cs us p.1 p.2 h hr hsc
   refine ⟨π',h2,⟨us,rfl,h3⟩,h4,h5,λht τ fr x Tj hv=>?_⟩
   simp only [Um,Af] at ht
   simp only [Gc] at hv
   split at hv
   ·rename_i Uv
    rw [h6] at hv h4
    obtain ⟨F,f1,f2,f3⟩:=wx h.1 τ cs us fr x hr ht.1 (Zb ht.2) h4 Tj hv
    exact ⟨F,us,f1,by simp [Ca,Uv],OQ h h2 h5 h7 f2 f3,λb hb=>let ⟨l,r,_,q⟩:=f3 b hb;⟨l,r,q⟩⟩
   ·cases hv
 ·simp only [Aa,Ae] at he
  obtain ⟨rfl,rfl⟩:=he
  exact ⟨π,h,hc,rfl,Lk.refl _ _,λht=>by simp [Um] at ht⟩
 ·cases he
theorem iu {o i j s p:Nat} (Jd:i≠j) (hp:p<s):(o+i)*s+p<(o+j)*s\/(o+j)*s+s<=(o+i)*s+p:=by
 rcases Nat.lt_or_gt_of_ne Jd with h|h
 ·left
  have:(o+i+1)*s<=(o+j)*s:=Fa _ (by omega)
  rw [Df,Wn] at this
  omega
 ·right
  have:(o+j+1)*s<=(o+i)*s:=Fa _ (by omega)
  rw [Df,Wn] at this
  omega
theorem Iv {α:Type} (l ys:List α) (i k:Nat) (h:i+ys.length<=l.length):(Dy l i ys)[k]?=if k<i then l[k]? else if k<i+ys.length then ys[k-i]? else l[k]?:=by
 unfold Dy
 have t1:(l.take i).length=i:=by simp;omega
 split
 ·rename_i hk
  rw [Co,As (by omega),Cs,Ab hk]
 ·split
  ·rename_i hk
   rw [Co,Ar (by omega),t1,As (by omega)]
  ·rw [Ar (by simp;omega),Da]
   congr 1
   simp;omega
theorem Jm {α:Type} (l ys:List α) (i:Nat) (h:i+ys.length<=l.length):(Dy l i ys).length=l.length:=by
 unfold Dy;simp;omega
theorem AG (hT:Eg P T) {st:St} {a:Act} (h:Bh X π st a w) {t:TypeId} {e:Ty} (ht:T.ty t=some e) {l j:Nat} {r:Real} {vx:Value} {tid:TypeId} {fr Ww:Bool} {xs:List e.den} {x:e.den}
  (hp:π l=some r) {tr:Bool} (hl:At st.heap l=some (.arr fr tr e tid xs)) (hj:j<xs.length) (hx:Cu w (Cx X.w0.heap.size X.Sc π Ww) e vx x):
  ∃w',(Instr.storeAt t (.pointer (some ⟨r.g,(r.o+j)*e.size,none⟩)) vx).run P w= .ok () w'/\Bh X π (st.Kr l (.arr (fr&&Ww) false e tid (xs.set j x))) a w':=by
 have hb:=(h.1.heap l).Sn hl
 simp only [Cg,Kt,hp] at hb
 obtain ⟨h1,cur,ti,h2,h3,h4,h5,h6,_⟩:=hb
 obtain ⟨es,gW,hv⟩:=hx
 have l4:=Cells.len e es x gW
 have Yv:(r.o+j)*e.size+es.length<=cur.size:=by
  have:(r.o+j+1)*e.size<=(r.o+r.cap)*e.size:=Fa _ (by omega)
  rw [Df (r.o+j) 1,Wn] at this
  omega
 have aa:(r.o+j)*e.size+es.length<=cur.toList.length:=by simpa using Yv
 have Wk:=Xi (P:=P) (w:=w) (hT.ty _ _ ht) r.g ((r.o+j)*e.size) vx es (by rw [hv];exact Lo e es x gW) l4 (Cells.plain e es x gW) cur ti h2 Yv
 refine ⟨_,by simp only [Instr.storeAt,Instr.sureAddr];simpa using Wk,?_⟩
 refine h.set hl (b:= .arr (fr&&Ww) false e tid (xs.set j x)) ⟨rfl,by simp⟩ (by rw [hp];exact Oc w r.g _) λm=>?_
 simp only [Cg,Kt,hp]
 refine ⟨⟨h1.1,h1.2.1,λhf=>h1.2.2 (by simp only [Af] at hf;exact hf.1)⟩,_,_,setRow_heap w r.g cur _ ti _ h2,by rw [Hg,Jm _ _ _ aa];simpa using h3,h4,by simpa using h5,λi y hy=>?_,λhf=>by cases hf⟩
 rw [Ej] at hy
 split at hy
 ·rename_i rT;subst rT
  simp only [Aa] at hy;subst hy
  refine ⟨es,l4,λk u hu=>?_,(m.cells Ww e es x gW).and_right⟩
  have hk:k<es.length:=(Am.1 hu).1
  rw [Iw,Iv _ _ _ _ aa,Aj (by omega),Ab (by omega)]
  rw [show (r.o+j)*e.size+k-(r.o+j)*e.size=k by omega];exact hu
 ·rename_i rT
  obtain ⟨nc,he',sX,x9⟩:=h6 i y hy
  refine ⟨nc,he',λk u hu=>?_,(m.cells fr e nc y x9).and_left⟩
  have hk:k<nc.length:=(Am.1 hu).1
  have:=sX k u hu
  rw [Iw,Iv _ _ _ _ aa]
  rcases iu (o:=r.o) (i:=i) (j:=j) (s:=e.size) (p:=k) (Hm rT) (by omega) with Lq|vD
  ·rw [Ab Lq];simpa using this
  ·rw [Aj (by omega),Aj (by omega)];simpa using this
theorem lj: ∀(Fs:List (List Nat)) (i:Nat) (F':List Nat),(List.flatten Fs).Nodup->F'.Nodup->(∀b∈F',b∉List.flatten Fs)->(List.flatten (Fs.set i F')).Nodup/\ ∀b∈List.flatten (Fs.set i F'),b∈List.flatten Fs\/b∈F'
 | [],i,F',_,_,_=>by simp
 |G::Fs,0,F',hn,rV,hs=>by
  simp only [List.set_cons_zero,Lr] at hn hs⊢
  obtain ⟨n1,n2,n3⟩:=Du.1 hn
  refine ⟨Du.2 ⟨rV,n2,λa ha b hb e=>hs a ha (Cf _ (e▸hb))⟩,λb hb=>?_⟩
  rcases Az.1 hb with hb|hb
  ·exact .inr hb
  ·exact .inl (Cf _ hb)
 |G::Fs,i+1,F',hn,rV,hs=>by
  simp only [List.set_cons_succ,Lr] at hn hs⊢
  obtain ⟨n1,n2,n3⟩:=Du.1 hn
  obtain ⟨m1,m2⟩:=lj Fs i F' n2 rV λb hb hm=>hs b hb (Cf _ hm)
  refine ⟨Du.2 ⟨n1,m1,λa ha b hb e=>?_⟩,λb hb=>?_⟩
  ·subst e
   rcases m2 a hb with h|h
   ·exact n3 a ha a h rfl
   ·exact hs a h (Bj _ ha)
  ·rcases Az.1 hb with hb|hb
   ·exact .inl (Bj _ hb)
   ·exact (m2 b hb).imp (Cf _) id
theorem wu (hT:Eg P T) {st:St} {a:Act} (h:Bh X π st a w) {t:TypeId} {e:Ty} (ht:T.ty t=some e) {l j:Nat} {r:Real} {vx:Value} {tid:TypeId} {fr Ww:Bool} {xs:List e.den} {x:e.den}
  (hp:π l=some r) (hl:At st.heap l=some (.arr fr true e tid xs)) (hj:j<xs.length) (hx:Cu w (Cx X.w0.heap.size X.Sc π Ww) e vx x) {F:List Nat} {us:List Value} (hF:Db w F e us x) (XV:vx=Ca e us) (nC:ie X w π F):
  ∃w',(Instr.storeAt t (.pointer (some ⟨r.g,(r.o+j)*e.size,none⟩)) vx).run P w= .ok () w'/\Bh X (Xs π l (some (r.plus F))) (st.Kr l (.arr (fr&&Ww) true e tid (xs.set j x))) a w':=by
 have hb:=(h.1.heap l).Sn hl
 simp only [Cg,Kt,hp] at hb
 obtain ⟨h1,cur,ti,h2,h3,h4,h5,h6,h7⟩:=hb
 obtain ⟨Fs,t1,t2,t3,t4⟩:=h7 trivial
 obtain ⟨es,gW,hv⟩:=hx
 have l4:=Cells.len e es x gW
 have Ars:us=es:=by
  have c1:=Lo e us x (Db.cells (S:= λ_=>False) F e us x hF λ_ _ h=>h)
  have c2:=Lo e es x gW
  rw [<-XV,hv,c2] at c1
  simpa using c1.symm
 subst Ars
 have Yv:(r.o+j)*e.size+us.length<=cur.size:=by
  have:(r.o+j+1)*e.size<=(r.o+r.cap)*e.size:=Fa _ (by omega)
  rw [Df (r.o+j) 1,Wn] at this
  omega
 have aa:(r.o+j)*e.size+us.length<=cur.toList.length:=by simpa using Yv
 have Wk:=Xi (P:=P) (w:=w) (hT.ty _ _ ht) r.g ((r.o+j)*e.size) vx us (by rw [hv];exact Lo e us x gW) l4 (Cells.plain e us x gW) cur ti h2 Yv
 have Rc:r.cl r.g:=h.1.sub l r _ hp h1.1
 have hng: ∀b∈F,b≠r.g:= λb hb e=>(nC.2 b hb).2.2 l r hp (e▸Rc)
 have PE:=lj Fs j F (Cb.1 t2).2 nC.1 λb hb hm=>(nC.2 b hb).2.2 l r hp (t3 b hm)
 refine ⟨_,by simp only [Instr.storeAt,Instr.sureAddr];simpa using Wk,?_⟩
 refine h.Asg hl (b:= .arr (fr&&Ww) true e tid (xs.set j x)) ⟨rfl,by simp⟩ hp (λc hc=>⟨(nC.2 c hc).1,(nC.2 c hc).2.1,λm r0 _=>(nC.2 c hc).2.2 m r0⟩) (Oc w r.g _) λm=>?_
 simp only [Cg,Kt]
 have cell: ∀(i:Nat) (nc:List Value),i≠j->nc.length=e.size->(∀k u,nc[k]?=some u->cur[(r.o+i)*e.size+k]?=some u)-> ∀k u,nc[k]?=some u->(Dy cur.toList ((r.o+j)*e.size) us).toArray[(r.o+i)*e.size+k]?=some u:=by
  intro i nc kD he' sX k u hu
  have hk:k<nc.length:=(Am.1 hu).1
  have:=sX k u hu
  rw [Iw,Iv _ _ _ _ aa]
  rcases iu (o:=r.o) (i:=i) (j:=j) (s:=e.size) (p:=k) kD (by omega) with Lq|vD
  ·rw [Ab Lq];simpa using this
  ·rw [Aj (by omega),Aj (by omega)];simpa using this
 have Aec: ∀k u,us[k]?=some u->(Dy cur.toList ((r.o+j)*e.size) us).toArray[(r.o+j)*e.size+k]?=some u:=by
  intro k u hu
  have hk:k<us.length:=(Am.1 hu).1
  rw [Iw,Iv _ _ _ _ aa,Aj (by omega),Ab (by omega)]
  rw [show (r.o+j)*e.size+k-(r.o+j)*e.size=k by omega];exact hu
 refine ⟨⟨h1.1,h1.2.1,λhf=>h1.2.2 (by simp only [Af] at hf;exact hf.1)⟩,_,_,setRow_heap w r.g cur _ ti _ h2,by rw [Hg,Jm _ _ _ aa,Yf];exact h3,h4,by rw [Dg];exact h5,λi y hy=>?_,λ_=>?_⟩
 ·rw [Ej] at hy
  split at hy
  ·rename_i rT;subst rT
   simp only [Aa] at hy;subst hy
   exact ⟨us,l4,Aec,(m.cells Ww e us x gW).and_right⟩
  ·rename_i rT
   obtain ⟨nc,he',sX,x9⟩:=h6 i y hy
   exact ⟨nc,he',cell i nc (Hm rT) he' sX,(m.cells fr e nc y x9).and_left⟩
 ·refine ⟨Fs.set j F,by simp [t1],Cb.2 ⟨λhm=>?_,PE.1⟩,λb hb=>?_,λi y G hy hG=>?_⟩
  ·rcases PE.2 _ hm with h8|h8
   ·exact (Cb.1 t2).1 h8
   ·exact hng _ h8 rfl
  ·exact (PE.2 b hb).imp (t3 b) id
  ·rw [Ej] at hy hG
   split at hy
   ·rename_i rT;subst rT
    rw [Ab rfl] at hG
    rw [Ab (by omega)] at hG
    simp only [Aa] at hy hG;subst hy;subst hG
    exact ⟨us,l4,Aec,hF.Fw _ _ _ _ (by simp) λb hb=>setRow_other w r.g b _ (hng b hb)⟩
   ·rename_i rT
    rw [Aj rT] at hG
    obtain ⟨nc,he',sX,x9⟩:=t4 i y G hy hG
    exact ⟨nc,he',cell i nc (Hm rT) he' sX,x9.Fw _ _ _ _ (by simp) λb hb=>setRow_other w r.g b _ λe=>(Cb.1 t2).1 (Hz.2 ⟨G,Cj hG,e▸hb⟩)⟩
theorem RH {st:St} {a:Act} (h:Bh X π st a w) {τ:Ty} {l:Nat} {x:AV} {vx:Value} (hx:Bl X w π st.heap x vx):Bl X w π st.heap (WJ T st τ l x) vx:=by
 unfold WJ
 split
 ·rename_i hc
  split
  ·rename_i p hp
   have:=Nh τ x vx p.1 p.2 (Bt.1 hc).2 hx hp
   exact Cu.Jn this λb _ hA=>hA.imp id (Or.imp id λ⟨h1,_⟩=>by cases h1)
  ·exact hx
 ·exact hx
theorem qZ (hT:Eg P T) {st:St} {a:Act} (h:Bh X π st a w) (t:TypeId) (p x:AV) (vp vx:Value) (hp:Bl X w π st.heap p vp) (hx:Bl X w π st.heap x vx) (st':St)
  (he:Vs T st t p x=some st'): ∃w' π',(Instr.storeAt t vp vx).run P w= .ok () w'/\Bh X π' st' a w':=by
 unfold Vs at he
 split at he
 ·rename_i τ l i ht
  split at he
  ·rename_i tid vs cs hl hc
   split at he
   ·rename_i hle
    simp only [Aa] at he
    obtain ⟨w',h1,h2⟩:=AI hT h ht hp (RH h hx) hl hc hle
    split at he
    ·rename_i Kk
     simp only [Af,Nt] at Kk
     subst he
     obtain ⟨VH,h3⟩:=fM (T:=T) l i t τ cs.length 0 _ π (by omega) h2
     exact ⟨w',VH,h1,h3⟩
    ·subst he
     exact ⟨w',π,h1,h2⟩
   ·cases he
  ·cases he
 ·rename_i τ l j ht
  split at he
  ·rename_i x' st1 hs
   obtain ⟨cB,h1,h2,h3,h4,h5⟩:=cn h hx hs
   split at he
   ·rename_i fr tr e tid xs Ww y hl hv
    split at he
    ·rename_i l5;subst l5
     split at he
     ·rename_i hj
      simp only [Aa] at he;subst he
      obtain ⟨r,b,sz,n,g1,g0,g2,g3,rfl⟩:=hp
      obtain ⟨k1,b',f,k2,k3⟩:=h4 l _ hl
      rw [g1] at k2;cases k2
      have g4:=Dk OB.row k3
      rw [show (OB.map f b).row=b.row by cases b<;>rfl,g0] at g4
      simp only [OB.row,Aa,Ae] at g4
      obtain ⟨rfl,rfl⟩:=g4
      cases nF:(tr&&(Um st x&&τ.tree)) with
      |false=>
       obtain ⟨w',q1,q2⟩:=AG hT h1 ht (k1.trans g3) hl hj (Nh _ x' vx Ww y h3 h2 hv)
       exact ⟨w',cB,q1,q2⟩
      |true=>
       simp only [Af] at nF
       obtain ⟨rfl,htv,l5⟩:=nF
       obtain ⟨F,us,f1,f2,f3,_⟩:=h5 htv τ Ww y l5 hv
       obtain ⟨w',q1,q2⟩:=wu hT h1 ht (k1.trans g3) hl hj (Nh _ x' vx Ww y h3 h2 hv) f1 f2 f3
       exact ⟨w',_,q1,q2⟩
     ·cases he
    ·cases he
   ·cases he
  ·cases he
 ·cases he
theorem um {S:Nat->Prop} {e:Ty} {v:Value} {ys:List e.den} (h:Cells w S (.slice e) [v] ys):
  ∃ad c,v= .slice ad ys.length c/\(ys= []\/ ∃g o,ad=some ⟨g,o,none⟩/\ ∃news:List Value,news.length=ys.length*e.size/\(∀j u,news[j]?=some u->w.cell? ⟨g,o+j,none⟩=some u)/\(∀u∈news,u.oneCell'=true)/\(∀j u,j<ys.length*e.size->w.cell? ⟨g,o+j,none⟩=some u->news[j]?=some u)/\
   ∀(i:Nat) (y:e.den),ys[i]?=some y-> ∃es:List Value,es.length=e.size/\(∀j u,es[j]?=some u->news[i*e.size+j]?=some u)/\Cells w S e es y):=by
 simp only [Cells] at h
 obtain ⟨ad,len,cap,hv,hl,sU,JV⟩:=h
 simp only [Hf,bo] at hv
 subst hl
 refine ⟨ad,cap,hv,?_⟩
 rcases JV with h0|⟨g,o,rfl,hg,hn,Lc⟩
 ·exact .inl h0
 ·right
  refine ⟨g,o,rfl,(List.range (ys.length*e.size)).map λj=>(w.cell? ⟨g,o+j,none⟩).getD undef,by simp,?_⟩
  have key: ∀k,k<ys.length*e.size-> ∃u,w.cell? ⟨g,o+k,none⟩=some u/\u.oneCell'=true:=by
   intro k hk
   have hs:0<e.size:=by
    rcases Up e.size with h|h
    ·rw [h] at hk;simp at hk
    ·exact h
   have hi:k/e.size<ys.length:=(Nat.div_lt_iff_lt_mul hs).2 hk
   obtain ⟨es,gW,hc,bZ⟩:=Lc (k/e.size) _ (Ac hi)
   have hm:k%e.size<es.length:=by rw [gW];exact Nat.mod_lt _ hs
   have:=hc (k%e.size) _ (Ac hm)
   rw [Ha,show k/e.size*e.size+k%e.size=k by rw [Nat.mul_comm];exact Nat.div_add_mod k e.size] at this
   exact ⟨_,this,Cells.plain e es _ bZ _ (Ak hm)⟩
  refine ⟨λj u hu=>?_,λu hu=>?_,λj u hj hu=>by rw [Fl,Yh hj];simp [hu],λi y hy=>?_⟩
  ·rw [Fl] at hu
   have hj:j<ys.length*e.size:=by
    by_cases hj:j<ys.length*e.size
    ·exact hj
    ·rw [Eb (by simpa using hj)] at hu;cases hu
   rw [Yh hj] at hu
   obtain ⟨u',gZ,_⟩:=key j hj
   simp only [Al,gZ,Ct,Aa] at hu
   rw [gZ,hu]
  ·obtain ⟨j,hj,rfl⟩:=Be.1 hu
   obtain ⟨u',gZ,h1⟩:=key j (Et.1 hj)
   rw [gZ];exact h1
  ·obtain ⟨es,gW,hc,bZ⟩:=Lc i y hy
   refine ⟨es,gW,λj u hu=>?_,bZ⟩
   have hi:=(Am.1 hy).1
   have hj:=(Am.1 hu).1
   have Lq:i*e.size+j<ys.length*e.size:=by
    have:(i+1)*e.size<=ys.length*e.size:=Fa _ (by omega)
    rw [Df,Wn] at this
    omega
   rw [Fl,Yh Lq]
   have:=hc j u hu
   rw [Ha] at this
   simp [this]
end
end Go.Proofs.YtkkdpknjohcekaaGreat
