/-
  Part 11 of the proof that the statement FnPatterns holds.
-/
import Derived.Test.YtkkdpknjohcekaaGreatCFPatterns09
namespace Go.Proofs.YtkkdpknjohcekaaGreat
open Go.RowKit
section
variable {P:Program} {T:Tab} {X:Ctx} {w w':World} {π:Pi} {H:List (Nat×OB)}
theorem OB.map_map (f g:AC->AC) (b:OB):OB.map g (OB.map f b)=OB.map (λc=>g (f c)) b:=by
 cases b with
 |var t vs=>simp [OB.map,Function.comp_def]
 |_=>rfl
theorem OB.GQ (b:OB):OB.map (λc=>c) b=b:=by
 cases b with
 |var t vs=>simp [OB.map]
 |_=>rfl
def Kw (π π':Pi) (H H':List (Nat×OB)):Prop:= ∀l b',At H' l=some b'->π' l=π l/\ ∃b f,At H l=some b/\b'=OB.map f b
theorem Kw.refl (π:Pi) (H:List (Nat×OB)):Kw π π H H:= λ_ b h=>⟨rfl,b,λc=>c,h,(OB.GQ b).symm⟩
theorem Kw.trans {cn XY π3:Pi} {H1 H2 H3:List (Nat×OB)} (h:Kw cn XY H1 H2) (h':Kw XY π3 H2 H3):Kw cn π3 H1 H3:= λl b hb=>by
 obtain ⟨e1,b1,f1,h1,rfl⟩:=h' l b hb
 obtain ⟨e2,b2,f2,h2,rfl⟩:=h l b1 h1
 exact ⟨e1.trans e2,b2,_,h2,OB.map_map f2 f1 b2⟩
theorem Kw.freeze (st:St) (l:Nat) (fr:Bool) (e:Ty) (xs:List e.den):Kw π (Xb π l none) st.heap (st.freeze l fr e xs).heap:= λk b hb=>by
 by_cases hk:k=l
 ·subst hk;rw [St.Mk] at hb;cases hb
 ·rw [St.Rv st l k fr e xs hk] at hb
  cases h0:At st.heap k with
  |none=>rw [h0] at hb;cases hb
  |some b0=>
   rw [h0] at hb
   simp only [Am,Aa] at hb
   exact ⟨Gr π none hk,b0,_,rfl,hb.symm⟩
theorem Kw.Jb (st:St) (l:Nat) (v:Ty) (m:ByteArray->Option v.den):Kw π (Xb π l none) st.heap (st.Jb l v m).heap:= λk b hb=>by
 by_cases hk:k=l
 ·subst hk;rw [St.Td] at hb;cases hb
 ·rw [St.Qy st l k v m hk] at hb
  cases h0:At st.heap k with
  |none=>rw [h0] at hb;cases hb
  |some b0=>
   rw [h0] at hb
   simp only [Am,Aa] at hb
   exact ⟨Gr π none hk,b0,_,rfl,hb.symm⟩
theorem Kw.gone {π':Pi} {H':List (Nat×OB)} (k:Kw π π' H H') {l:Nat} (h:At H l=none):At H' l=none:=by
 cases hb:At H' l with
 |none=>rfl
 |some b=>
  obtain ⟨_,b0,f,h1,_⟩:=k l b hb
  rw [h] at h1;cases h1
def Dq (st:St):AC->AC
 | .own l off len=>match st.at l with
  |some (.arr fr _ e _ xs)=> .data fr (.slice e) ((xs.drop off).take len)
  |some (.Hf e _ xs)=> .data false (.slice e) ((xs.drop off).take len)
  |_=> .own l off len
 | .Kq l=>match st.at l with
  |some (.Vw v m)=> .data false (.smap v) m
  |_=> .Kq l
 |c=>c
theorem Ti {st:St} {c:AC} (h:c.settled=true):Dq st c=c:=by
 cases c<;>simp [AC.settled] at h<;>rfl
theorem wI {st st':St} {f:AC->AC} {l:Nat} (hH: ∀m,m≠l->At st'.heap m=(At st.heap m).map (OB.map f)) {c:AC} (hc: ∀k∈c.refs,k≠l):Dq st' c=Dq st c:=by
 cases c with
 |own k off len=>
  have hk:k≠l:=hc k (by simp [AC.refs])
  simp only [Dq,St.at,hH k hk]
  cases At st.heap k with
  |none=>rfl
  |some b=>cases b<;>rfl
 |Kq k=>
  have hk:k≠l:=hc k (by simp [AC.refs])
  simp only [Dq,St.at,hH k hk]
  cases At st.heap k with
  |none=>rfl
  |some b=>cases b<;>rfl
 |_=>rfl
theorem gN {a:Act} : ∀(n:Nat) (st:St) (π:Pi) (cs:List AC) (us:List Value) (iH:List AC) (st':St),Bi X π st a w->Gc X w π st.heap cs us->
  Hw n st cs=some (iH,st')-> ∃π',Bi X π' st' a w/\Gc X w π' st'.heap iH us/\iH.all (·.settled)=true/\Kw π π' st.heap st'.heap/\iH=cs.map (Dq st)/\
   (∀k,k∈cs.flatMap AC.refs->At st'.heap k=none)
 |0,st,π,cs,us,iH,st',h,hr,he=>by
  simp only [Hw] at he
  split at he
  ·rename_i hs
   simp only [Aa,Ae] at he
   obtain ⟨rfl,rfl⟩:=he
   have zw:=Bf.1 hs
   exact ⟨π,h,hr,hs,Kw.refl _ _,((Ei λc hc=>Ti (zw c hc)).trans (List.map_id'' (λ_=>rfl) cs)).symm,λk hk=>by
    obtain ⟨c,hc,DD⟩:=Gf.1 hk
    have:=zw c hc
    cases c<;>simp [AC.settled] at this<;>simp [AC.refs] at DD⟩
  ·cases he
 |n+1,st,π,cs,us,iH,st',h,hr,he=>by
  simp only [Hw] at he
  have step: ∀(f:AC->AC) (l:Nat) (st1:St),Bi X (Xb π l none) st1 a w->Move X w w π (Xb π l none) st.heap st1.heap f->At st1.heap l=none->(∀m,m≠l->At st1.heap m=(At st.heap m).map (OB.map f))->
    Kw π (Xb π l none) st.heap st1.heap->(∀c∈cs,(∀k∈c.refs,k≠l)->f c=c)->(∀c∈cs,l∈c.refs->(f c).refs= []/\(Dq st1 (f c)).settled=true->f c=Dq st c)->
    (∀c∈cs,l∈c.refs->(f c).refs= [])->Hw n st1 (cs.map f)=some (iH,st')->
    ∃π',Bi X π' st' a w/\Gc X w π' st'.heap iH us/\iH.all (·.settled)=true/\Kw π π' st.heap st'.heap/\iH=cs.map (Dq st)/\(∀k,k∈cs.flatMap AC.refs->At st'.heap k=none):=by
   intro f l st1 h1 m hl hH hK hf0 hf1 hf2 he
   obtain ⟨π',h2,h3,h4,h5,h6,h7⟩:=gN n st1 _ (cs.map f) us iH st' h1 (m.acs hr) he
   refine ⟨π',h2,h3,h4,hK.trans h5,?_,λk hk=>?_⟩
   ·rw [h6,List.map_map]
    refine Ei λc hc=>?_
    simp only [Function.comp]
    by_cases Qo:l∈c.refs
    ·have Ky:=Bf.1 h4
     have nz:Dq st1 (f c)∈iH:=by rw [h6];exact Bg.2 ⟨f c,Bg.2 ⟨c,hc,rfl⟩,rfl⟩
     have hs:=Ky _ nz
     have h8:=hf1 c hc Qo ⟨hf2 c hc Qo,hs⟩
     have h9:Dq st1 (f c)=f c:=by
      have:=hf2 c hc Qo
      cases hfc:f c<;>rw [hfc] at this<;>first|(simp [AC.refs] at this;done)|rfl
     rw [h9,h8]
    ·have Iz: ∀k∈c.refs,k≠l:= λk hk e=>Qo (e▸hk)
     rw [hf0 c hc Iz]
     exact wI hH Iz
   ·obtain ⟨c,hc,DD⟩:=Gf.1 hk
    by_cases Rk:k=l
    ·subst Rk;exact h5.gone hl
    ·by_cases Qo:l∈c.refs
     ·
      have Ky:=Bf.1 h4
      have nz:Dq st1 (f c)∈iH:=by rw [h6];exact Bg.2 ⟨f c,Bg.2 ⟨c,hc,rfl⟩,rfl⟩
      have hs:=Ky _ nz
      have h8:=hf1 c hc Qo ⟨hf2 c hc Qo,hs⟩
      have h9:Dq st1 (f c)=f c:=by
       have:=hf2 c hc Qo
       cases hfc:f c<;>rw [hfc] at this<;>first|(simp [AC.refs] at this;done)|rfl
      rw [h9,h8] at hs
      cases c with
      |clo g Ef=>simp [Dq,AC.settled] at hs
      |own k' _ _=>simp [AC.refs] at Qo DD;exact absurd (DD.trans Qo.symm) Rk
      |Kq k'=>simp [AC.refs] at Qo DD;exact absurd (DD.trans Qo.symm) Rk
      |Hr k' _=>simp [AC.refs] at Qo DD;exact absurd (DD.trans Qo.symm) Rk
      |Ki k' _=>simp [AC.refs] at Qo DD;exact absurd (DD.trans Qo.symm) Rk
      |sub k' _ _=>simp [AC.refs] at Qo DD;exact absurd (DD.trans Qo.symm) Rk
      |Kf k' _ _=>simp [AC.refs] at Qo DD;exact absurd (DD.trans Qo.symm) Rk
      |_=>simp [AC.refs] at DD
     ·have Iz: ∀k∈c.refs,k≠l:= λk hk e=>Qo (e▸hk)
      exact h7 k (Gf.2 ⟨f c,Bg.2 ⟨c,hc,rfl⟩,by rw [hf0 c hc Iz];exact DD⟩)
  have DF: ∀(st1:St) (c:AC),(Dq st1 c).settled=true->c≠ .undef:= λst1 c hs e=>by rw [e] at hs;simp [Dq,AC.settled] at hs
  split at he
  ·rename_i hf
   simp only [Aa,Ae] at he
   obtain ⟨rfl,rfl⟩:=he
   have zw: ∀c∈cs,c.settled=true:= λc hc=>by have:=List.find?_eq_none.1 hf c hc;simpa using this
   exact ⟨π,h,hr,Bf.2 zw,Kw.refl _ _,((Ei λc hc=>Ti (zw c hc)).trans (List.map_id'' (λ_=>rfl) cs)).symm,λk hk=>by
    obtain ⟨c,hc,DD⟩:=Gf.1 hk
    have:=zw c hc
    cases c<;>simp [AC.settled] at this<;>simp [AC.refs] at DD⟩
  ·rename_i l off len hf
   split at he
   ·rename_i fr tr e tid xs hl
    unfold St.at at hl
    obtain ⟨h1,m⟩:=h.freeze (fr:=fr) (.inl ⟨tr,tid,hl⟩)
    refine step _ l _ h1 m (St.Mk st l fr e xs) (λm hm=>St.Rv st l m fr e xs hm) (Kw.freeze st l fr e xs) (λc _ hc=>iT hc) (λc _ Qo hs=>?_) (λc _ Qo=>?_) he
    ·cases c with
     |own k o n=>have:k=l:=(Ad.1 Qo).symm
                 subst this;simp only [Cz,Ab,Dq,St.at,hl]
     |Hr k o=>have:k=l:=(Ad.1 Qo).symm
              subst this;simp only [Cz,Ab] at hs;exact absurd rfl (DF _ _ hs.2)
     |Ki k o=>have:k=l:=(Ad.1 Qo).symm
              subst this;simp only [Cz,Ab] at hs;exact absurd rfl (DF _ _ hs.2)
     |sub k o o2=>have:k=l:=(Ad.1 Qo).symm
                  subst this;simp only [Cz,Ab] at hs;exact absurd rfl (DF _ _ hs.2)
     |Kf k o o2=>have:k=l:=(Ad.1 Qo).symm
                 subst this;simp only [Cz,Ab] at hs;exact absurd rfl (DF _ _ hs.2)
     |Kq k=>have:k=l:=(Ad.1 Qo).symm
            subst this;simp only [Cz,Ab] at hs;exact absurd rfl (DF _ _ hs.2)
     |clo g Ef=>
      simp only [Cz] at hs
      rw [Ab (by simpa [AC.refs] using Qo)] at hs
      exact absurd rfl (DF _ _ hs.2)
     |_=>simp [AC.refs] at Qo
    ·cases c with
     |own k o n=>have:k=l:=(Ad.1 Qo).symm
                 subst this;simp only [Cz,Ab];rfl
     |Hr k o=>have:k=l:=(Ad.1 Qo).symm
              subst this;simp only [Cz,Ab];rfl
     |Ki k o=>have:k=l:=(Ad.1 Qo).symm
              subst this;simp only [Cz,Ab];rfl
     |sub k o o2=>have:k=l:=(Ad.1 Qo).symm
                  subst this;simp only [Cz,Ab];rfl
     |Kf k o o2=>have:k=l:=(Ad.1 Qo).symm
                 subst this;simp only [Cz,Ab];rfl
     |Kq k=>have:k=l:=(Ad.1 Qo).symm
            subst this;simp only [Cz,Ab];rfl
     |clo g Ef=>simp only [Cz];rw [Ab (by simpa [AC.refs] using Qo)];rfl
     |_=>simp [AC.refs] at Qo
   ·rename_i e tid xs hl
    unfold St.at at hl
    obtain ⟨h1,m⟩:=h.freeze (fr:=false) (.inr ⟨rfl,tid,hl⟩)
    refine step _ l _ h1 m (St.Mk st l false e xs) (λm hm=>St.Rv st l m false e xs hm) (Kw.freeze st l false e xs) (λc _ hc=>iT hc) (λc _ Qo hs=>?_) (λc _ Qo=>?_) he
    ·cases c with
     |own k o n=>have:k=l:=(Ad.1 Qo).symm
                 subst this;simp only [Cz,Ab,Dq,St.at,hl]
     |Hr k o=>have:k=l:=(Ad.1 Qo).symm
              subst this;simp only [Cz,Ab] at hs;exact absurd rfl (DF _ _ hs.2)
     |Ki k o=>have:k=l:=(Ad.1 Qo).symm
              subst this;simp only [Cz,Ab] at hs;exact absurd rfl (DF _ _ hs.2)
     |sub k o o2=>have:k=l:=(Ad.1 Qo).symm
                  subst this;simp only [Cz,Ab] at hs;exact absurd rfl (DF _ _ hs.2)
     |Kf k o o2=>have:k=l:=(Ad.1 Qo).symm
                 subst this;simp only [Cz,Ab] at hs;exact absurd rfl (DF _ _ hs.2)
     |Kq k=>have:k=l:=(Ad.1 Qo).symm
            subst this;simp only [Cz,Ab] at hs;exact absurd rfl (DF _ _ hs.2)
     |clo g Ef=>
      simp only [Cz] at hs
      rw [Ab (by simpa [AC.refs] using Qo)] at hs
      exact absurd rfl (DF _ _ hs.2)
     |_=>simp [AC.refs] at Qo
    ·cases c with
     |own k o n=>have:k=l:=(Ad.1 Qo).symm
                 subst this;simp only [Cz,Ab];rfl
     |Hr k o=>have:k=l:=(Ad.1 Qo).symm
              subst this;simp only [Cz,Ab];rfl
     |Ki k o=>have:k=l:=(Ad.1 Qo).symm
              subst this;simp only [Cz,Ab];rfl
     |sub k o o2=>have:k=l:=(Ad.1 Qo).symm
                  subst this;simp only [Cz,Ab];rfl
     |Kf k o o2=>have:k=l:=(Ad.1 Qo).symm
                 subst this;simp only [Cz,Ab];rfl
     |Kq k=>have:k=l:=(Ad.1 Qo).symm
            subst this;simp only [Cz,Ab];rfl
     |clo g Ef=>simp only [Cz];rw [Ab (by simpa [AC.refs] using Qo)];rfl
     |_=>simp [AC.refs] at Qo
   ·cases he
  ·rename_i l hf
   split at he
   ·rename_i v mm hl
    unfold St.at at hl
    obtain ⟨h1,m⟩:=h.Jb hl
    refine step _ l _ h1 m (St.Td st l v mm) (λm hm=>St.Qy st l m v mm hm) (Kw.Jb st l v mm) (λc _ hc=>sU hc) (λc _ Qo hs=>?_) (λc _ Qo=>?_) he
    ·cases c with
     |Kq k=>have:k=l:=(Ad.1 Qo).symm
            subst this;simp only [Hl,Ab,Dq,St.at,hl]
     |Hr k o=>have:k=l:=(Ad.1 Qo).symm
              subst this;simp only [Hl,Ab] at hs;exact absurd rfl (DF _ _ hs.2)
     |Ki k o=>have:k=l:=(Ad.1 Qo).symm
              subst this;simp only [Hl,Ab] at hs;exact absurd rfl (DF _ _ hs.2)
     |sub k o o2=>have:k=l:=(Ad.1 Qo).symm
                  subst this;simp only [Hl,Ab] at hs;exact absurd rfl (DF _ _ hs.2)
     |Kf k o o2=>have:k=l:=(Ad.1 Qo).symm
                 subst this;simp only [Hl,Ab] at hs;exact absurd rfl (DF _ _ hs.2)
     |own k o n=>have:k=l:=(Ad.1 Qo).symm
                 subst this;simp only [Hl,Ab] at hs;exact absurd rfl (DF _ _ hs.2)
     |clo g Ef=>
      simp only [Hl] at hs
      rw [Ab (by simpa [AC.refs] using Qo)] at hs
      exact absurd rfl (DF _ _ hs.2)
     |_=>simp [AC.refs] at Qo
    ·cases c with
     |own k o n=>have:k=l:=(Ad.1 Qo).symm
                 subst this;simp only [Hl,Ab];rfl
     |Hr k o=>have:k=l:=(Ad.1 Qo).symm
              subst this;simp only [Hl,Ab];rfl
     |Ki k o=>have:k=l:=(Ad.1 Qo).symm
              subst this;simp only [Hl,Ab];rfl
     |sub k o o2=>have:k=l:=(Ad.1 Qo).symm
                  subst this;simp only [Hl,Ab];rfl
     |Kf k o o2=>have:k=l:=(Ad.1 Qo).symm
                 subst this;simp only [Hl,Ab];rfl
     |Kq k=>have:k=l:=(Ad.1 Qo).symm
            subst this;simp only [Hl,Ab];rfl
     |clo g Ef=>simp only [Hl];rw [Ab (by simpa [AC.refs] using Qo)];rfl
     |_=>simp [AC.refs] at Qo
   ·cases he
  ·cases he
def ie (X:Ctx) (w:World) (π:Pi) (F:List Nat):Prop:=F.Nodup/\ ∀b∈F,(X.w0.heap.size<=b\/X.gv b)/\b<w.heap.size/\ ∀l r,π l=some r-> ¬r.cl b
theorem Yf {S:Nat->Prop} : ∀(e:Ty) (es:List Value) (x:e.den),e.flat=true->Cells w S e es x->Dg w [] e es x
 | .int k,cs,n,_,h=>⟨rfl,h⟩
 | .bool,cs,n,_,h=>⟨rfl,h⟩
 | .str,cs,n,_,h=>⟨rfl,h⟩
 | .unit,cs,n,_,h=>⟨rfl,h⟩
 | .pair a r,cs,x,hf,h=>by
  simp only [Ty.flat,Ag] at hf
  simp only [Cells] at h
  simp only [Dg]
  obtain ⟨c1,c2,h1,h2,h3⟩:=h
  exact ⟨c1,c2,[],[],h1,rfl,Yf a c1 x.1 hf.1 h2,Yf r c2 x.2 hf.2 h3⟩
 | .slice _,_,_,hf,_=>by simp [Ty.flat] at hf
 | .oslice _,_,_,hf,_=>by simp [Ty.flat] at hf
 | .ptr _,_,_,hf,_=>by simp [Ty.flat] at hf
 | .optr _,_,_,hf,_=>by simp [Ty.flat] at hf
 | .smap _,_,_,hf,_=>by simp [Ty.flat] at hf
 | .clo _ _,_,_,hf,_=>by simp [Ty.flat] at hf
theorem Sl {Fs:List (List Nat)} (off len:Nat) (b:Nat) (h:b∈List.flatten ((Fs.drop off).take len)):b∈List.flatten Fs:=by
 obtain ⟨F,hF,hb⟩:=Hu.1 h
 exact Hu.2 ⟨F,dM (En hF),hb⟩
theorem gO {α:Type} {a b:List (List α)} (h:a.Sublist b):(List.flatten a).Sublist (List.flatten b):=by
 induction h with
 |slnil=>exact List.Sublist.refl _
 |cons c _ ih=>simp only [Lf];exact ih.trans (List.sublist_append_right _ _)
 |cons_cons c _ ih=>simp only [Lf];exact List.Sublist.append (List.Sublist.refl _) ih
theorem mj {Fs:List (List Nat)} (off len:Nat) (h:(List.flatten Fs).Nodup):(List.flatten ((Fs.drop off).take len)).Nodup:=by
 have h1:((Fs.drop off).take len).Sublist Fs:=(List.take_sublist len _).trans (List.drop_sublist off Fs)
 exact h.sublist (gO h1)
theorem kA {P:Nat->Prop} {r:Real} {off len:Nat} {v:Value} {e:Ty} {tid:TypeId} {xs:List e.den} {cur:Array Value} (h2:w.heap[r.g]?=some (.cells cur tid (0,0))) (aB:cur.size=(r.o+r.cap)*e.size) (tb:r.cap<=maxLen)
  (hlen:off+len<=xs.length) (hv:Ih (some r) e.size off len v) (ht:Xt w P r.g r.o cur e xs) (hg:P r.g):
  ∃F,Dg w F (.slice e) [v] ((xs.drop off).take len)/\F.Nodup/\ ∀b∈F,P b:=by
 have hll:((xs.drop off).take len).length=len:=by simp;omega
 obtain ⟨ad,rfl,hc,ha⟩:=hv
 obtain ⟨Fs,t1,t2,t3,t4⟩:=ht
 ·refine ⟨r.g::List.flatten ((Fs.drop off).take len),⟨some ad,len,r.cap-off,rfl,hll.symm,by omega, .inr ⟨ad,r.g,(r.o+off)*e.size,_,rfl,λh0=>ha (by omega),⟨cur,tid,r.o+off,h2,rfl,by rw [aB];congr 1;omega,by omega⟩,rfl,by simp;omega,λi x F hx hF=>?_⟩⟩,?_,λb hb=>?_⟩
  ·have hi:i<len:=by
    have:=(An.1 hx).1
    rw [hll] at this;exact this
   have hx':xs[off+i]?=some x:=by rw [Cx,Ab hi,De] at hx;exact hx
   have hF':Fs[off+i]?=some F:=by rw [Cx,Ab hi,De] at hF;exact hF
   obtain ⟨es,he,hj,zo⟩:=t4 (off+i) x F hx' hF'
   refine ⟨es,he,λj u hu=>?_,zo⟩
   rw [cellOf h2]
   have:=hj j u hu
   rw [<-this]
   congr 1
   rw [<-Ha,Dj (r.o+off) i]
  ·have:=Ce.1 t2
   exact Ce.2 ⟨λhm=>this.1 (Sl off len _ hm),mj off len this.2⟩
  ·rcases Be.1 hb with rfl|hb
   ·exact hg
   ·exact t3 b (Sl off len b hb)
theorem ou {st:St} (h:Mz X w π st.heap) {c:AC} {v:Value} (hc:Hv X w π st.heap c v) (ht:Sd st c=true) (τ:Ty) (fr:Bool) (x:τ.den) (Tz:τ.Ap=false) (TZ:τ.tree=true)
  (hv:Dr st τ (Dq st c)=some (fr,x)): ∃F,Dg w F τ [v] x/\F.Nodup/\ ∀b∈F,∃l r,l∈c.refs/\π l=some r/\r.cl b:=by
 cases c with
 |data Wh Oe y=>
  simp only [Sd] at ht
  simp only [Dq,Nw] at hv
  split at hv
  ·rename_i he;subst he
   simp only [Aa,Ae] at hv
   obtain ⟨_,rfl⟩:=hv
   exact ⟨[],Yf Oe _ _ ht (Cw.Rz Tz hc),Nd,λb hb=>by cases hb⟩
  ·unfold iG at hv
   split at hv
   ·simp [Ty.flat] at ht
   ·simp [Ty.flat] at ht
   ·cases hv
 |Ma=>
  have hc:v= .slice none 0 0:=hc
  subst hc
  cases τ with
  |slice e=>
   simp only [Dq,Dr,Aa,Ae] at hv
   obtain ⟨_,rfl⟩:=hv
   exact ⟨[],⟨none,0,0,rfl,rfl,Ao _, .inl ⟨rfl,rfl,rfl,rfl⟩⟩,Nd,λb hb=>by cases hb⟩
  |oslice e=>simp [Ty.tree] at TZ
  |_=>simp [Dq,Dr] at hv
 |own l off len=>
  simp only [Sd] at ht
  split at ht
  ·rename_i Wh tr e tid xs hl
   have Jv:=hl
   unfold St.at at hl
   simp only [Dq,Jv,Nw] at hv
   split at hv
   ·rename_i he;subst he
    simp only [Aa,Ae] at hv
    obtain ⟨_,rfl⟩:=hv
    obtain ⟨h2,h3⟩:=Oi hc hl
    have hb:=(h.heap l).Ro hl
    simp only [Cj,Kg] at hb
    cases hp:π l with
    |none=>
     rw [hp] at h3
     obtain ⟨rfl,rfl,rfl⟩:=h3
     exact ⟨[],⟨none,0,0,rfl,by simp,Ao _, .inl ⟨by simp,rfl,rfl,rfl⟩⟩,Nd,λb hb=>by cases hb⟩
    |some r=>
     rw [hp] at hb h3
     obtain ⟨k1,cur,_,k2,k3,k4,k5,k6,k7⟩:=hb
     have RW:Xt w r.cl r.g r.o cur e xs:=by
      simp only [Kn] at ht
      rcases ht with ht|ht
      ·exact k7 ht
      ·refine ⟨List.replicate xs.length [],by simp,by simp,by simp,λi x F hx hF=>?_⟩
       obtain ⟨es,e1,e2,e3⟩:=k6 i x hx
       have:F= []:=by
        have:=Cl hF
        exact Fv this
       subst this
       exact ⟨es,e1,e2,Yf e es x ht e3⟩
     obtain ⟨F,f1,f2,f3⟩:=kA k2 k3 k4 h2 h3 RW (h.sub l r _ hp k1.1)
     exact ⟨F,f1,f2,λb hb=>⟨l,r,by simp [AC.refs],hp,f3 b hb⟩⟩
   ·cases τ<;>simp [iG] at hv
  ·rename_i e tid xs hl
   have Jv:=hl
   unfold St.at at hl
   simp only [Dq,Jv,Nw] at hv
   split at hv
   ·rename_i he;subst he
    simp only [Aa,Ae] at hv
    obtain ⟨_,rfl⟩:=hv
    obtain ⟨h2,h3⟩:=c7 hc hl
    have hb:=(h.heap l).Ro hl
    simp only [Cj,Nx] at hb
    cases hp:π l with
    |none=>
     rw [hp] at h3
     obtain ⟨rfl,rfl,rfl⟩:=h3
     exact ⟨[],⟨none,0,0,rfl,by simp,Ao _, .inl ⟨by simp,rfl,rfl,rfl⟩⟩,Nd,λb hb=>by cases hb⟩
    |some r=>
     rw [hp] at hb h3
     obtain ⟨k1,cur,_,k2,k3,k4,k5,k7⟩:=hb
     obtain ⟨F,f1,f2,f3⟩:=kA k2 k3 k4 h2 h3 k7 k1
     exact ⟨F,f1,f2,λb hb=>⟨l,r,by simp [AC.refs],hp,h.sub l r b hp (f3 b hb)⟩⟩
   ·cases τ<;>simp [iG] at hv
  ·cases ht
 |_=>simp [Sd] at ht
theorem Yl: ∀ {l:List Nat},ao l=true->l.Nodup
 | [],_=>Nd
 |a::r,h=>by
  simp only [ao,Ag,Es,List.contains_eq_mem,decide_eq_false_iff_not] at h
  exact Ce.2 ⟨h.1,Yl h.2⟩
theorem ba {st st':St} {τ:Ty} {c:AC} (h:c.settled=true):Dr st' τ c=Dr st τ c:=by
 cases c<;>simp [AC.settled] at h<;>cases τ<;>rfl
theorem wW {st st':St} (h:Mz X w π st.heap): ∀(τ:Ty) (cs:List AC) (us:List Value) (fr:Bool) (x:τ.den),Gc X w π st.heap cs us->cs.all (Sd st)=true->(cs.flatMap AC.refs).Nodup->
  (cs.map (Dq st)).all (·.settled)=true->τ.tree=true->Fg st' τ (cs.map (Dq st))=some (fr,x)-> ∃F,Dg w F τ us x/\F.Nodup/\ ∀b∈F,∃l r,l∈cs.flatMap AC.refs/\π l=some r/\r.cl b:=by
 have one: ∀(τ:Ty) (cs:List AC) (us:List Value) (fr:Bool) (x:τ.den),τ.Ap=false->Gc X w π st.heap cs us->cs.all (Sd st)=true->
   (cs.map (Dq st)).all (·.settled)=true->τ.tree=true->Fg st' τ (cs.map (Dq st))=some (fr,x)-> ∃F,Dg w F τ us x/\F.Nodup/\ ∀b∈F,∃l r,l∈cs.flatMap AC.refs/\π l=some r/\r.cl b:=by
  intro τ cs us fr x Tz hr ht hs Vz hv
  rw [Ud Tz] at hv
  rcases cs with _|⟨c,_|⟨d,cs⟩⟩
  ·cases hv
  ·simp only [Bu,List.map_nil] at hv
   obtain ⟨u,hu,_,hc⟩:=hr.2 0 c rfl
   have hl:us.length=1:=hr.1
   obtain ⟨u',rfl⟩:=Ed.1 hl
   simp at hu;subst hu
   rw [ba (st:=st) (by simpa using hs)] at hv
   obtain ⟨F,f1,f2,f3⟩:=ou h hc (by simpa using ht) τ fr x Tz Vz hv
   exact ⟨F,f1,f2,λb hb=>by obtain ⟨l,r,g1,g2⟩:=f3 b hb;exact ⟨l,r,by simpa using g1,g2⟩⟩
  ·cases hv
 intro τ
 induction τ with
 |unit=>
  intro cs us fr x hr ht hd hs Vz hv
  cases cs with
  |nil=>have:us= []:=Ck hr.1;subst this;exact ⟨[],⟨rfl,rfl⟩,Nd,λb hb=>by cases hb⟩
  |cons c cs=>simp [Fg] at hv
 |pair a r ib gZ=>
  intro cs us fr x hr ht hd hs Vz hv
  simp only [Ty.tree,Ag] at Vz
  simp only [Fg] at hv
  split at hv
  ·rename_i f1 y f2 z h1 h2
   simp only [Aa,Ae] at hv
   obtain ⟨rfl,rfl⟩:=hv
   have hr1:Gc X w π st.heap (cs.take a.size) (us.take a.size):=by have:=a8 hr 0 a.size;simpa using this
   have hr2:Gc X w π st.heap (cs.drop a.size) (us.drop a.size):=
    ⟨by simp [hr.1],λi c hc=>by
     rw [De] at hc⊢
     exact hr.2 _ c hc⟩
   have Ap2: ∀ {p:AC->Bool} {l:List AC} (n:Nat),l.all p=true->(l.take n).all p=true:= λn hl=>Bf.2 λc hc=>Bf.1 hl c (En hc)
   have Ap3: ∀ {p:AC->Bool} {l:List AC} (n:Nat),l.all p=true->(l.drop n).all p=true:= λn hl=>Bf.2 λc hc=>Bf.1 hl c (dM hc)
   have hdd:((cs.take a.size++cs.drop a.size).flatMap AC.refs).Nodup:=by rw [Jt];exact hd
   rw [List.flatMap_append] at hdd
   obtain ⟨d1,d2,d3⟩:=Dv.1 hdd
   rw [<-List.map_take] at h1
   rw [<-List.map_drop] at h2
   obtain ⟨F1,t1,n1,c1⟩:=ib _ _ f1 y hr1 (Ap2 _ ht) d1 (by rw [List.map_take];exact Ap2 _ hs) Vz.1 h1
   obtain ⟨F2,t2,n2,c2⟩:=gZ _ _ f2 z hr2 (Ap3 _ ht) d2 (by rw [List.map_drop];exact Ap3 _ hs) Vz.2 h2
   refine ⟨F1++F2,⟨us.take a.size,us.drop a.size,F1,F2,(Jt _ _).symm,rfl,t1,t2⟩,Dv.2 ⟨n1,n2,λb hb b' vG e=>?_⟩,λb hb=>?_⟩
   ·subst e
    obtain ⟨l1,r1,g1,g2,g3⟩:=c1 b hb
    obtain ⟨l2,r2,g4,g5,g6⟩:=c2 b vG
    exact d3 l1 g1 l2 g4 (h.inj l1 l2 r1 r2 b g2 g5 g3 g6)
   ·have Ky: ∀l,(l∈(cs.take a.size).flatMap AC.refs\/l∈(cs.drop a.size).flatMap AC.refs)->l∈cs.flatMap AC.refs:= λl hl=>by
     rw [<-Az,<-List.flatMap_append,Jt] at hl;exact hl
    rcases Az.1 hb with hb|hb
    ·obtain ⟨l1,r1,g1,g2⟩:=c1 b hb;exact ⟨l1,r1,Ky l1 (.inl g1),g2⟩
    ·obtain ⟨l1,r1,g1,g2⟩:=c2 b hb;exact ⟨l1,r1,Ky l1 (.inr g1),g2⟩
  ·cases hv
 |_=>exact λcs us fr x hr ht _ hs Vz hv=>one _ cs us fr x rfl hr ht hs Vz hv
theorem RD {π':Pi} {st st':St} {a:Act} (h:Bi X π st a w) (h':Bi X π' st' a w) (k:Kw π π' st.heap st'.heap) {ls:List Nat} (hg: ∀l∈ls,At st'.heap l=none) {F:List Nat} (hF:F.Nodup)
  (hc: ∀b∈F,∃l r,l∈ls/\π l=some r/\r.cl b):ie X w π' F:=by
 refine ⟨hF,λb hb=>?_⟩
 obtain ⟨l,r,h1,h2,h3⟩:=hc b hb
 have hp:=h.1.place l r b h2 h3
 refine ⟨hp.1,hp.2,λl2 r2 h4 h5=>?_⟩
 cases hh:At st'.heap l2 with
 |none=>rw [(h'.1.heap l2).emp hh] at h4;cases h4
 |some b'=>
  have h6:=(k l2 b' hh).1
  rw [h6] at h4
  have:=h.1.inj l l2 r r2 b h2 h4 h3 h5
  subst this
  rw [hg l h1] at hh;cases hh
theorem cb {st:St} {a:Act} (h:Bi X π st a w) {c:AV} {v:Value} (hc:Bs X w π st.heap c v) {c':AV} {st':St} (he:settle st c=some (c',st')):
  ∃π',Bi X π' st' a w/\Bs X w π' st'.heap c' v/\c'.settled=true/\Kw π π' st.heap st'.heap/\
   (Tn st c=true-> ∀(τ:Ty) (fr:Bool) (x:τ.den),τ.tree=true->Ga st' τ c'=some (fr,x)-> ∃F us,Dg w F τ us x/\v=Cd τ us/\ie X w π' F/\ ∀b∈F,∃l r,π l=some r/\r.cl b):=by
 have cell: ∀(a0:AC) (st':St) (π':Pi),Hv X w π st.heap a0 v->Bi X π' st' a w->(Dq st a0).settled=true->Kw π π' st.heap st'.heap->(∀l∈a0.refs,At st'.heap l=none)->
   Sd st a0=true-> ∀(τ:Ty) (fr:Bool) (x:τ.den),τ.tree=true->Ga st' τ (.at (Dq st a0))=some (fr,x)-> ∃F us,Dg w F τ us x/\v=Cd τ us/\ie X w π' F/\ ∀b∈F,∃l r,π l=some r/\r.cl b:=by
  intro a0 st1 cn hr h1 hs hk hg ht τ fr x Vz hv
  by_cases Tz:τ.Ap=true
  ·
   cases FO:Dq st a0 with
   |data Wh Oe y=>
    rw [FO,di] at hv
    split at hv
    ·rename_i het;subst het
     simp only [Aa,Ae] at hv
     obtain ⟨_,rfl⟩:=hv
     cases a0 with
     |data rO τ2 z=>
      simp only [Dq,AC.data.injEq] at FO
      obtain ⟨rfl,rfl,hz⟩:=FO
      have hz:=eq_of_heq hz
      subst hz
      obtain ⟨cs,zo,rfl⟩:=hr
      exact ⟨[],cs,Yf _ cs _ ht zo,rfl,⟨Nd,λb hb=>by cases hb⟩,λb hb=>by cases hb⟩
     |own l off len=>
      simp only [Dq] at FO
      split at FO
      ·simp only [AC.data.injEq] at FO;obtain ⟨_,h2,_⟩:=FO;subst h2;simp [Ty.Ap] at Tz
      ·simp only [AC.data.injEq] at FO;obtain ⟨_,h2,_⟩:=FO;subst h2;simp [Ty.Ap] at Tz
      ·cases FO
     |Kq l=>simp [Sd] at ht
     |_=>simp [Dq] at FO
    ·cases hv
   |_=>rw [FO] at hv;simp only [Ga,Tz,Ph] at hv;cases hv
  ·simp only [Ge] at Tz
   have FT:Dr st τ (Dq st a0)=some (fr,x):=by
    rw [<-ba (st:=st) (st':=st1) hs]
    cases FO:Dq st a0 with
    |data Wh Oe y=>
     rw [FO,di] at hv
     rw [Nw]
     split at hv
     ·rename_i het;rw [Jg het];exact hv
     ·rename_i het
      rw [dif_neg het]
      simp only [Tz,Dd,Rl,CL,Nw] at hv
      rw [dif_neg het] at hv
      exact hv
    |Ma=>rw [FO] at hv;simp only [Ga,Tz,Dd,Rl] at hv;rw [Qm rfl] at hv;exact hv
    |Vv=>rw [FO] at hv;simp only [Ga,Tz,Dd,Rl] at hv;rw [Qm rfl] at hv;exact hv
    |_=>rw [FO] at hs;simp [AC.settled] at hs
   obtain ⟨F,f1,f2,f3⟩:=ou h.1 hr ht τ fr x Tz Vz FT
   exact ⟨F,[v],f1,by simp [Cd,Tz],RD h h1 hk hg f2 f3,λb hb=>let ⟨l,r,_,q⟩:=f3 b hb;⟨l,r,q⟩⟩
 unfold settle at he
 split at he
 ·rename_i l off len
  split at he
  ·rename_i fr tr e tid xs hl
   simp only [Aa,Ae] at he
   obtain ⟨rfl,rfl⟩:=he
   obtain ⟨h1,m⟩:=h.freeze (fr:=fr) (.inl ⟨tr,tid,hl⟩)
   have:=m.ac (.own l off len) v hc
   simp only [Cz,Ph] at this
   have kG:Dq st (.own l off len)= .data fr (.slice e) ((xs.drop off).take len):=by simp only [Dq,hl]
   refine ⟨_,h1,this,rfl,Kw.freeze st l fr e xs,λht=>?_⟩
   have:=cell (.own l off len) _ _ hc h1 (by rw [kG];rfl) (Kw.freeze st l fr e xs) (λk hk=>by rw [Ad.1 hk];exact St.Mk st l fr e xs) ht
   rw [kG] at this
   exact this
  ·rename_i e tid xs hl
   simp only [Aa,Ae] at he
   obtain ⟨rfl,rfl⟩:=he
   obtain ⟨h1,m⟩:=h.freeze (fr:=false) (.inr ⟨rfl,tid,hl⟩)
   have:=m.ac (.own l off len) v hc
   simp only [Cz,Ph] at this
   have kG:Dq st (.own l off len)= .data false (.slice e) ((xs.drop off).take len):=by simp only [Dq,hl]
   refine ⟨_,h1,this,rfl,Kw.freeze st l false e xs,λht=>?_⟩
   have:=cell (.own l off len) _ _ hc h1 (by rw [kG];rfl) (Kw.freeze st l false e xs) (λk hk=>by rw [Ad.1 hk];exact St.Mk st l false e xs) ht
   rw [kG] at this
   exact this
  ·cases he
 ·rename_i l
  split at he
  ·rename_i vt mm hl
   simp only [Aa,Ae] at he
   obtain ⟨rfl,rfl⟩:=he
   obtain ⟨h1,m⟩:=h.Jb hl
   have:=m.ac (.Kq l) v hc
   simp only [Hl,Ph] at this
   exact ⟨_,h1,this,rfl,Kw.Jb st l vt mm,λht=>by simp [Tn,Sd] at ht⟩
  ·cases he
 ·rename_i a0 _ _
  split at he
  ·rename_i hs
   simp only [Aa,Ae] at he
   obtain ⟨rfl,rfl⟩:=he
   refine ⟨π,h,hc,hs,Kw.refl _ _,λht=>?_⟩
   have kG:=Ti (st:=st) hs
   have:=cell a0 st π hc h (by rw [kG];exact hs) (Kw.refl _ _) (λk hk=>by
    cases a0<;>simp [AC.settled] at hs<;>simp [AC.refs] at hk) ht
   rw [kG] at this
   exact this
  ·cases he
 ·rename_i cs
  cases hsc:Hw cs.length st cs with
  |none=>rw [hsc] at he;cases he
  |some p=>
   rw [hsc] at he
   simp only [Am,Aa,Ae] at he
   obtain ⟨rfl,rfl⟩:=he
   obtain ⟨us,rfl,hr⟩:=hc
   obtain ⟨π',h2,h3,h4,h5,h6,h7⟩:=gN cs.length st π cs us p.1 p.2 h hr hsc
   refine ⟨π',h2,⟨us,rfl,h3⟩,h4,h5,λht τ fr x Vz hv=>?_⟩
   simp only [Tn,Ag] at ht
   simp only [Ga] at hv
   split at hv
   ·rename_i Tz
    rw [h6] at hv h4
    obtain ⟨F,f1,f2,f3⟩:=wW h.1 τ cs us fr x hr ht.1 (Yl ht.2) h4 Vz hv
    exact ⟨F,us,f1,by simp [Cd,Tz],RD h h2 h5 h7 f2 f3,λb hb=>let ⟨l,r,_,q⟩:=f3 b hb;⟨l,r,q⟩⟩
   ·cases hv
 ·simp only [Aa,Ae] at he
  obtain ⟨rfl,rfl⟩:=he
  exact ⟨π,h,hc,rfl,Kw.refl _ _,λht=>by simp [Tn] at ht⟩
 ·cases he
theorem iw {o i j s p:Nat} (Iz:i≠j) (hp:p<s):(o+i)*s+p<(o+j)*s\/(o+j)*s+s<=(o+i)*s+p:=by
 rcases Nat.lt_or_gt_of_ne Iz with h|h
 ·left
  have:(o+i+1)*s<=(o+j)*s:=Eo _ (by omega)
  rw [Dj,Sh] at this
  omega
 ·right
  have:(o+j+1)*s<=(o+i)*s:=Eo _ (by omega)
  rw [Dj,Sh] at this
  omega
theorem Im {α:Type} (l ys:List α) (i k:Nat) (h:i+ys.length<=l.length):(Dw l i ys)[k]?=if k<i then l[k]? else if k<i+ys.length then ys[k-i]? else l[k]?:=by
 unfold Dw
 have t1:(l.take i).length=i:=by simp;omega
 split
 ·rename_i hk
  rw [Ct,As (by omega),Cx,Ab hk]
 ·split
  ·rename_i hk
   rw [Ct,Ar (by omega),t1,As (by omega)]
  ·rw [Ar (by simp;omega),De]
   congr 1
   simp;omega
theorem Je {α:Type} (l ys:List α) (i:Nat) (h:i+ys.length<=l.length):(Dw l i ys).length=l.length:=by
 unfold Dw;simp;omega
theorem BU (hT:Eb P T) {st:St} {a:Act} (h:Bi X π st a w) {t:TypeId} {e:Ty} (ht:T.ty t=some e) {l j:Nat} {r:Real} {vx:Value} {tid:TypeId} {fr Wh:Bool} {xs:List e.den} {x:e.den}
  (hp:π l=some r) {tr:Bool} (hl:At st.heap l=some (.arr fr tr e tid xs)) (hj:j<xs.length) (hx:Cw w (Da X.w0.heap.size X.Sc π Wh) e vx x):
  ∃w',(Instr.storeAt t (.pointer (some ⟨r.g,(r.o+j)*e.size,none⟩)) vx).run P w= .ok () w'/\Bi X π (st.Ke l (.arr (fr&&Wh) false e tid (xs.set j x))) a w':=by
 have hb:=(h.1.heap l).Ro hl
 simp only [Cj,Kg,hp] at hb
 obtain ⟨h1,cur,ti,h2,h3,h4,h5,h6,_⟩:=hb
 obtain ⟨es,gV,hv⟩:=hx
 have kY:=Cells.len e es x gV
 have Yg:(r.o+j)*e.size+es.length<=cur.size:=by
  have:(r.o+j+1)*e.size<=(r.o+r.cap)*e.size:=Eo _ (by omega)
  rw [Dj (r.o+j) 1,Sh] at this
  omega
 have Zv:(r.o+j)*e.size+es.length<=cur.toList.length:=by simpa using Yg
 have Vu:=Wr (P:=P) (w:=w) (hT.ty _ _ ht) r.g ((r.o+j)*e.size) vx es (by rw [hv];exact Ld e es x gV) kY (Cells.plain e es x gV) cur ti h2 Yg
 refine ⟨_,by simp only [Instr.storeAt,Instr.sureAddr];simpa using Vu,?_⟩
 refine h.set hl (b:= .arr (fr&&Wh) false e tid (xs.set j x)) ⟨rfl,by simp⟩ (by rw [hp];exact Np w r.g _) λm=>?_
 simp only [Cj,Kg,hp]
 refine ⟨⟨h1.1,h1.2.1,λhf=>h1.2.2 (by simp only [Ag] at hf;exact hf.1)⟩,_,_,setRow_heap w r.g cur _ ti _ h2,by rw [Hc,Je _ _ _ Zv];simpa using h3,h4,by simpa using h5,λi y hy=>?_,λhf=>by cases hf⟩
 rw [Eh] at hy
 split at hy
 ·rename_i rR;subst rR
  simp only [Aa] at hy;subst hy
  refine ⟨es,kY,λk u hu=>?_,(m.cells Wh e es x gV).and_right⟩
  have hk:k<es.length:=(An.1 hu).1
  rw [Ip,Im _ _ _ _ Zv,Ak (by omega),Ab (by omega)]
  rw [show (r.o+j)*e.size+k-(r.o+j)*e.size=k by omega];exact hu
 ·rename_i rR
  obtain ⟨mX,he',tm,xz⟩:=h6 i y hy
  refine ⟨mX,he',λk u hu=>?_,(m.cells fr e mX y xz).and_left⟩
  have hk:k<mX.length:=(An.1 hu).1
  have:=tm k u hu
  rw [Ip,Im _ _ _ _ Zv]
  rcases iw (o:=r.o) (i:=i) (j:=j) (s:=e.size) (p:=k) (Gg rR) (by omega) with Jj|oD
  ·rw [Ab Jj];simpa using this
  ·rw [Ak (by omega),Ak (by omega)];simpa using this
theorem lf: ∀(Fs:List (List Nat)) (i:Nat) (F':List Nat),(List.flatten Fs).Nodup->F'.Nodup->(∀b∈F',b∉List.flatten Fs)->(List.flatten (Fs.set i F')).Nodup/\ ∀b∈List.flatten (Fs.set i F'),b∈List.flatten Fs\/b∈F'
 | [],i,F',_,_,_=>by simp
 |G::Fs,0,F',hn,rS,hs=>by
  simp only [List.set_cons_zero,Lf] at hn hs⊢
  obtain ⟨n1,n2,n3⟩:=Dv.1 hn
  refine ⟨Dv.2 ⟨rS,n2,λa ha b hb e=>hs a ha (Ci _ (e▸hb))⟩,λb hb=>?_⟩
  rcases Az.1 hb with hb|hb
  ·exact .inr hb
  ·exact .inl (Ci _ hb)
 |G::Fs,i+1,F',hn,rS,hs=>by
  simp only [List.set_cons_succ,Lf] at hn hs⊢
  obtain ⟨n1,n2,n3⟩:=Dv.1 hn
  obtain ⟨m1,m2⟩:=lf Fs i F' n2 rS λb hb hm=>hs b hb (Ci _ hm)
  refine ⟨Dv.2 ⟨n1,m1,λa ha b hb e=>?_⟩,λb hb=>?_⟩
  ·subst e
   rcases m2 a hb with h|h
   ·exact n3 a ha a h rfl
   ·exact hs a h (Bj _ ha)
  ·rcases Az.1 hb with hb|hb
   ·exact .inl (Bj _ hb)
   ·exact (m2 b hb).imp (Ci _) id
theorem wU (hT:Eb P T) {st:St} {a:Act} (h:Bi X π st a w) {t:TypeId} {e:Ty} (ht:T.ty t=some e) {l j:Nat} {r:Real} {vx:Value} {tid:TypeId} {fr Wh:Bool} {xs:List e.den} {x:e.den}
  (hp:π l=some r) (hl:At st.heap l=some (.arr fr true e tid xs)) (hj:j<xs.length) (hx:Cw w (Da X.w0.heap.size X.Sc π Wh) e vx x) {F:List Nat} {us:List Value} (hF:Dg w F e us x) (hus:vx=Cd e us) (nw:ie X w π F):
  ∃w',(Instr.storeAt t (.pointer (some ⟨r.g,(r.o+j)*e.size,none⟩)) vx).run P w= .ok () w'/\Bi X (Xb π l (some (r.plus F))) (st.Ke l (.arr (fr&&Wh) true e tid (xs.set j x))) a w':=by
 have hb:=(h.1.heap l).Ro hl
 simp only [Cj,Kg,hp] at hb
 obtain ⟨h1,cur,ti,h2,h3,h4,h5,h6,h7⟩:=hb
 obtain ⟨Fs,t1,t2,t3,t4⟩:=h7 trivial
 obtain ⟨es,gV,hv⟩:=hx
 have kY:=Cells.len e es x gV
 have Atq:us=es:=by
  have c1:=Ld e us x (Dg.cells (S:= λ_=>False) F e us x hF λ_ _ h=>h)
  have c2:=Ld e es x gV
  rw [<-hus,hv,c2] at c1
  simpa using c1.symm
 subst Atq
 have Yg:(r.o+j)*e.size+us.length<=cur.size:=by
  have:(r.o+j+1)*e.size<=(r.o+r.cap)*e.size:=Eo _ (by omega)
  rw [Dj (r.o+j) 1,Sh] at this
  omega
 have Zv:(r.o+j)*e.size+us.length<=cur.toList.length:=by simpa using Yg
 have Vu:=Wr (P:=P) (w:=w) (hT.ty _ _ ht) r.g ((r.o+j)*e.size) vx us (by rw [hv];exact Ld e us x gV) kY (Cells.plain e us x gV) cur ti h2 Yg
 have Pc:r.cl r.g:=h.1.sub l r _ hp h1.1
 have hng: ∀b∈F,b≠r.g:= λb hb e=>(nw.2 b hb).2.2 l r hp (e▸Pc)
 have RS:=lf Fs j F (Ce.1 t2).2 nw.1 λb hb hm=>(nw.2 b hb).2.2 l r hp (t3 b hm)
 refine ⟨_,by simp only [Instr.storeAt,Instr.sureAddr];simpa using Vu,?_⟩
 refine h.Auc hl (b:= .arr (fr&&Wh) true e tid (xs.set j x)) ⟨rfl,by simp⟩ hp (λc hc=>⟨(nw.2 c hc).1,(nw.2 c hc).2.1,λm r0 _=>(nw.2 c hc).2.2 m r0⟩) (Np w r.g _) λm=>?_
 simp only [Cj,Kg]
 have cell: ∀(i:Nat) (mX:List Value),i≠j->mX.length=e.size->(∀k u,mX[k]?=some u->cur[(r.o+i)*e.size+k]?=some u)-> ∀k u,mX[k]?=some u->(Dw cur.toList ((r.o+j)*e.size) us).toArray[(r.o+i)*e.size+k]?=some u:=by
  intro i mX jZ he' tm k u hu
  have hk:k<mX.length:=(An.1 hu).1
  have:=tm k u hu
  rw [Ip,Im _ _ _ _ Zv]
  rcases iw (o:=r.o) (i:=i) (j:=j) (s:=e.size) (p:=k) jZ (by omega) with Jj|oD
  ·rw [Ab Jj];simpa using this
  ·rw [Ak (by omega),Ak (by omega)];simpa using this
 have Ag8: ∀k u,us[k]?=some u->(Dw cur.toList ((r.o+j)*e.size) us).toArray[(r.o+j)*e.size+k]?=some u:=by
  intro k u hu
  have hk:k<us.length:=(An.1 hu).1
  rw [Ip,Im _ _ _ _ Zv,Ak (by omega),Ab (by omega)]
  rw [show (r.o+j)*e.size+k-(r.o+j)*e.size=k by omega];exact hu
 refine ⟨⟨h1.1,h1.2.1,λhf=>h1.2.2 (by simp only [Ag] at hf;exact hf.1)⟩,_,_,setRow_heap w r.g cur _ ti _ h2,by rw [Hc,Je _ _ _ Zv,Xq];exact h3,h4,by rw [Cm];exact h5,λi y hy=>?_,λ_=>?_⟩
 ·rw [Eh] at hy
  split at hy
  ·rename_i rR;subst rR
   simp only [Aa] at hy;subst hy
   exact ⟨us,kY,Ag8,(m.cells Wh e us x gV).and_right⟩
  ·rename_i rR
   obtain ⟨mX,he',tm,xz⟩:=h6 i y hy
   exact ⟨mX,he',cell i mX (Gg rR) he' tm,(m.cells fr e mX y xz).and_left⟩
 ·refine ⟨Fs.set j F,by simp [t1],Ce.2 ⟨λhm=>?_,RS.1⟩,λb hb=>?_,λi y G hy hG=>?_⟩
  ·rcases RS.2 _ hm with h8|h8
   ·exact (Ce.1 t2).1 h8
   ·exact hng _ h8 rfl
  ·exact (RS.2 b hb).imp (t3 b) id
  ·rw [Eh] at hy hG
   split at hy
   ·rename_i rR;subst rR
    rw [Ab rfl] at hG
    rw [Ab (by omega)] at hG
    simp only [Aa] at hy hG;subst hy;subst hG
    exact ⟨us,kY,Ag8,hF.Fk _ _ _ _ (by simp) λb hb=>setRow_other w r.g b _ (hng b hb)⟩
   ·rename_i rR
    rw [Ak rR] at hG
    obtain ⟨mX,he',tm,xz⟩:=t4 i y G hy hG
    exact ⟨mX,he',cell i mX (Gg rR) he' tm,xz.Fk _ _ _ _ (by simp) λb hb=>setRow_other w r.g b _ λe=>(Ce.1 t2).1 (Hu.2 ⟨G,Cl hG,e▸hb⟩)⟩
theorem TO {st:St} {a:Act} (h:Bi X π st a w) {τ:Ty} {l:Nat} {x:AV} {vx:Value} (hx:Bs X w π st.heap x vx):Bs X w π st.heap (ZD T st τ l x) vx:=by
 unfold ZD
 split
 ·rename_i hc
  split
  ·rename_i p hp
   have:=Mv τ x vx p.1 p.2 (Bc.1 hc).2 hx hp
   exact Cw.It this λb _ hA=>hA.imp id (Or.imp id λ⟨h1,_⟩=>by cases h1)
  ·exact hx
 ·exact hx
theorem rf (hT:Eb P T) {st:St} {a:Act} (h:Bi X π st a w) (t:TypeId) (p x:AV) (vp vx:Value) (hp:Bs X w π st.heap p vp) (hx:Bs X w π st.heap x vx) (st':St)
  (he:Vf T st t p x=some st'): ∃w' π',(Instr.storeAt t vp vx).run P w= .ok () w'/\Bi X π' st' a w':=by
 unfold Vf at he
 split at he
 ·rename_i τ l i ht
  split at he
  ·rename_i tid vs cs hl hc
   split at he
   ·rename_i hle
    simp only [Aa] at he
    obtain ⟨w',h1,h2⟩:=BW hT h ht hp (TO h hx) hl hc hle
    split at he
    ·rename_i Jx
     simp only [Ag,Nf] at Jx
     subst he
     obtain ⟨XY,h3⟩:=fL (T:=T) l i t τ cs.length 0 _ π (by omega) h2
     exact ⟨w',XY,h1,h3⟩
    ·subst he
     exact ⟨w',π,h1,h2⟩
   ·cases he
  ·cases he
 ·rename_i τ l j ht
  split at he
  ·rename_i x' st1 hs
   obtain ⟨cn,h1,h2,h3,h4,h5⟩:=cb h hx hs
   split at he
   ·rename_i fr tr e tid xs Wh y hl hv
    split at he
    ·rename_i l5;subst l5
     split at he
     ·rename_i hj
      simp only [Aa] at he;subst he
      obtain ⟨r,b,sz,n,g1,g0,g2,g3,rfl⟩:=hp
      obtain ⟨k1,b',f,k2,k3⟩:=h4 l _ hl
      rw [g1] at k2;cases k2
      have g4:=Fq OB.row k3
      rw [show (OB.map f b).row=b.row by cases b<;>rfl,g0] at g4
      simp only [OB.row,Aa,Ae] at g4
      obtain ⟨rfl,rfl⟩:=g4
      cases nB:(tr&&(Tn st x&&τ.tree)) with
      |false=>
       obtain ⟨w',q1,q2⟩:=BU hT h1 ht (k1.trans g3) hl hj (Mv _ x' vx Wh y h3 h2 hv)
       exact ⟨w',cn,q1,q2⟩
      |true=>
       simp only [Ag] at nB
       obtain ⟨rfl,htv,l5⟩:=nB
       obtain ⟨F,us,f1,f2,f3,_⟩:=h5 htv τ Wh y l5 hv
       obtain ⟨w',q1,q2⟩:=wU hT h1 ht (k1.trans g3) hl hj (Mv _ x' vx Wh y h3 h2 hv) f1 f2 f3
       exact ⟨w',_,q1,q2⟩
     ·cases he
    ·cases he
   ·cases he
  ·cases he
 ·cases he
theorem uJ {S:Nat->Prop} {e:Ty} {v:Value} {ys:List e.den} (h:Cells w S (.slice e) [v] ys):
  ∃ad c,v= .slice ad ys.length c/\(ys= []\/ ∃g o,ad=some ⟨g,o,none⟩/\ ∃news:List Value,news.length=ys.length*e.size/\(∀j u,news[j]?=some u->w.cell? ⟨g,o+j,none⟩=some u)/\(∀u∈news,u.oneCell'=true)/\(∀j u,j<ys.length*e.size->w.cell? ⟨g,o+j,none⟩=some u->news[j]?=some u)/\
   ∀(i:Nat) (y:e.den),ys[i]?=some y-> ∃es:List Value,es.length=e.size/\(∀j u,es[j]?=some u->news[i*e.size+j]?=some u)/\Cells w S e es y):=by
 simp only [Cells] at h
 obtain ⟨ad,len,cap,hv,hl,tb,LX⟩:=h
 simp only [Hb,Oh] at hv
 subst hl
 refine ⟨ad,cap,hv,?_⟩
 rcases LX with h0|⟨g,o,rfl,hg,hn,Ky⟩
 ·exact .inl h0
 ·right
  refine ⟨g,o,rfl,(List.range (ys.length*e.size)).map λj=>(w.cell? ⟨g,o+j,none⟩).getD undef,by simp,?_⟩
  have key: ∀k,k<ys.length*e.size-> ∃u,w.cell? ⟨g,o+k,none⟩=some u/\u.oneCell'=true:=by
   intro k hk
   have hs:0<e.size:=by
    rcases Tq e.size with h|h
    ·rw [h] at hk;simp at hk
    ·exact h
   have hi:k/e.size<ys.length:=(Nat.div_lt_iff_lt_mul hs).2 hk
   obtain ⟨es,gV,hc,bP⟩:=Ky (k/e.size) _ (Ac hi)
   have hm:k%e.size<es.length:=by rw [gV];exact Nat.mod_lt _ hs
   have:=hc (k%e.size) _ (Ac hm)
   rw [Ha,show k/e.size*e.size+k%e.size=k by rw [Nat.mul_comm];exact Nat.div_add_mod k e.size] at this
   exact ⟨_,this,Cells.plain e es _ bP _ (Al hm)⟩
  refine ⟨λj u hu=>?_,λu hu=>?_,λj u hj hu=>by rw [Et,Xs hj];simp [hu],λi y hy=>?_⟩
  ·rw [Et] at hu
   have hj:j<ys.length*e.size:=by
    by_cases hj:j<ys.length*e.size
    ·exact hj
    ·rw [Dz (by simpa using hj)] at hu;cases hu
   rw [Xs hj] at hu
   obtain ⟨u',gY,_⟩:=key j hj
   simp only [Am,gY,Bq,Aa] at hu
   rw [gY,hu]
  ·obtain ⟨j,hj,rfl⟩:=Bg.1 hu
   obtain ⟨u',gY,h1⟩:=key j (Eu.1 hj)
   rw [gY];exact h1
  ·obtain ⟨es,gV,hc,bP⟩:=Ky i y hy
   refine ⟨es,gV,λj u hu=>?_,bP⟩
   have hi:=(An.1 hy).1
   have hj:=(An.1 hu).1
   have Jj:i*e.size+j<ys.length*e.size:=by
    have:(i+1)*e.size<=ys.length*e.size:=Eo _ (by omega)
    rw [Dj,Sh] at this
    omega
   rw [Et,Xs Jj]
   have:=hc j u hu
   rw [Ha] at this
   simp [this]
end
end Go.Proofs.YtkkdpknjohcekaaGreat
