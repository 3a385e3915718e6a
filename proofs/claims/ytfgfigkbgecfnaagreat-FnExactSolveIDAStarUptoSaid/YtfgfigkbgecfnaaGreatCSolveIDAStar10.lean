/-
  Part 11 of the proof that the statement FnExactSolveIDAStar holds.
-/
import Derived.Test.YtfgfigkbgecfnaaGreatCSolveIDAStar09
namespace Go.Proofs.YtfgfigkbgecfnaaGreat
open Go.RowKit
section
variable {P:Program} {T:Tab} {X:Ctx} {w w':World} {π:Pi} {H:List (Nat×OB)}
theorem OB.map_map (f g:AC->AC) (b:OB):OB.map g (OB.map f b)=OB.map (λc=>g (f c)) b:=by
 cases b with
 |var t vs=>simp [OB.map,Function.comp_def]
 |_=>rfl
theorem OB.JY (b:OB):OB.map (λc=>c) b=b:=by
 cases b with
 |var t vs=>simp [OB.map]
 |_=>rfl
def Kz (π π':Pi) (H H':List (Nat×OB)):Prop:= ∀l b',Au H' l=some b'->π' l=π l/\ ∃b f,Au H l=some b/\b'=OB.map f b
theorem Kz.refl (π:Pi) (H:List (Nat×OB)):Kz π π H H:= λ_ b h=>⟨rfl,b,λc=>c,h,(OB.JY b).symm⟩
theorem Kz.trans {cY π2 π3:Pi} {H1 H2 H3:List (Nat×OB)} (h:Kz cY π2 H1 H2) (h':Kz π2 π3 H2 H3):Kz cY π3 H1 H3:= λl b hb=>by
 obtain ⟨e1,b1,f1,h1,rfl⟩:=h' l b hb
 obtain ⟨e2,b2,f2,h2,rfl⟩:=h l b1 h1
 exact ⟨e1.trans e2,b2,_,h2,OB.map_map f2 f1 b2⟩
theorem Kz.freeze (st:St) (l:Nat) (fr:Bool) (e:Ty) (xs:List e.den):Kz π (Xt π l none) st.heap (st.freeze l fr e xs).heap:= λk b hb=>by
 by_cases hk:k=l
 ·subst hk;rw [St.Mk] at hb;cases hb
 ·rw [St.Sh st l k fr e xs hk] at hb
  cases h0:Au st.heap k with
  |none=>rw [h0] at hb;cases hb
  |some b0=>
   rw [h0] at hb
   simp only [Am,Aa] at hb
   exact ⟨Gp π none hk,b0,_,rfl,hb.symm⟩
theorem Kz.Ix (st:St) (l:Nat) (v:Ty) (m:ByteArray->Option v.den):Kz π (Xt π l none) st.heap (st.Ix l v m).heap:= λk b hb=>by
 by_cases hk:k=l
 ·subst hk;rw [St.Tv] at hb;cases hb
 ·rw [St.Rn st l k v m hk] at hb
  cases h0:Au st.heap k with
  |none=>rw [h0] at hb;cases hb
  |some b0=>
   rw [h0] at hb
   simp only [Am,Aa] at hb
   exact ⟨Gp π none hk,b0,_,rfl,hb.symm⟩
theorem Kz.gone {π':Pi} {H':List (Nat×OB)} (k:Kz π π' H H') {l:Nat} (h:Au H l=none):Au H' l=none:=by
 cases hb:Au H' l with
 |none=>rfl
 |some b=>
  obtain ⟨_,b0,f,h1,_⟩:=k l b hb
  rw [h] at h1;cases h1
def Du (st:St):AC->AC
 | .own l off len=>match st.at l with
  |some (.arr fr _ e _ xs)=> .data fr (.slice e) ((xs.drop off).take len)
  |some (.Gz e _ xs)=> .data false (.slice e) ((xs.drop off).take len)
  |_=> .own l off len
 | .Kr l=>match st.at l with
  |some (.Wo v m)=> .data false (.smap v) m
  |_=> .Kr l
 |c=>c
theorem Uc {st:St} {c:AC} (h:c.settled=true):Du st c=c:=by
 cases c<;>simp [AC.settled] at h<;>rfl
theorem yz {st st':St} {f:AC->AC} {l:Nat} (hH: ∀m,m≠l->Au st'.heap m=(Au st.heap m).map (OB.map f)) {c:AC} (hc: ∀k∈c.refs,k≠l):Du st' c=Du st c:=by
 cases c with
 |own k off len=>
  have hk:k≠l:=hc k (by simp [AC.refs])
  simp only [Du,St.at,hH k hk]
  cases Au st.heap k with
  |none=>rfl
  |some b=>cases b<;>rfl
 |Kr k=>
  have hk:k≠l:=hc k (by simp [AC.refs])
  simp only [Du,St.at,hH k hk]
  cases Au st.heap k with
  |none=>rfl
  |some b=>cases b<;>rfl
 |_=>rfl
theorem iF {a:Act} : ∀(n:Nat) (st:St) (π:Pi) (cs:List AC) (us:List Value) (jl:List AC) (st':St),Bk X π st a w->Fv X w π st.heap cs us->
  Ht n st cs=some (jl,st')-> ∃π',Bk X π' st' a w/\Fv X w π' st'.heap jl us/\jl.all (·.settled)=true/\Kz π π' st.heap st'.heap/\jl=cs.map (Du st)/\
   (∀k,k∈cs.flatMap AC.refs->Au st'.heap k=none)
 |0,st,π,cs,us,jl,st',h,hr,he=>by
  simp only [Ht] at he
  split at he
  ·rename_i hs
   simp only [Aa,Ae] at he
   obtain ⟨rfl,rfl⟩:=he
   have IW:=Bc.1 hs
   exact ⟨π,h,hr,hs,Kz.refl _ _,((Ev λc hc=>Uc (IW c hc)).trans (List.map_id'' (λ_=>rfl) cs)).symm,λk hk=>by
    obtain ⟨c,hc,GI⟩:=Hs.1 hk
    have:=IW c hc
    cases c<;>simp [AC.settled] at this<;>simp [AC.refs] at GI⟩
  ·cases he
 |n+1,st,π,cs,us,jl,st',h,hr,he=>by
  simp only [Ht] at he
  have step: ∀(f:AC->AC) (l:Nat) (st1:St),Bk X (Xt π l none) st1 a w->Move X w w π (Xt π l none) st.heap st1.heap f->Au st1.heap l=none->(∀m,m≠l->Au st1.heap m=(Au st.heap m).map (OB.map f))->
    Kz π (Xt π l none) st.heap st1.heap->(∀c∈cs,(∀k∈c.refs,k≠l)->f c=c)->(∀c∈cs,l∈c.refs->(f c).refs= []/\(Du st1 (f c)).settled=true->f c=Du st c)->
    (∀c∈cs,l∈c.refs->(f c).refs= [])->Ht n st1 (cs.map f)=some (jl,st')->
    ∃π',Bk X π' st' a w/\Fv X w π' st'.heap jl us/\jl.all (·.settled)=true/\Kz π π' st.heap st'.heap/\jl=cs.map (Du st)/\(∀k,k∈cs.flatMap AC.refs->Au st'.heap k=none):=by
   intro f l st1 h1 m hl hH hK hf0 hf1 hf2 he
   obtain ⟨π',h2,h3,h4,h5,h6,h7⟩:=iF n st1 _ (cs.map f) us jl st' h1 (m.acs hr) he
   refine ⟨π',h2,h3,h4,hK.trans h5,?_,λk hk=>?_⟩
   ·rw [h6,List.map_map]
    refine Ev λc hc=>?_
    simp only [Function.comp]
    by_cases Rk:l∈c.refs
    ·have Js:=Bc.1 h4
     have oF:Du st1 (f c)∈jl:=by rw [h6];exact Bi.2 ⟨f c,Bi.2 ⟨c,hc,rfl⟩,rfl⟩
     have hs:=Js _ oF
     have h8:=hf1 c hc Rk ⟨hf2 c hc Rk,hs⟩
     have h9:Du st1 (f c)=f c:=by
      have:=hf2 c hc Rk
      cases hfc:f c<;>rw [hfc] at this<;>first|(simp [AC.refs] at this;done)|rfl
     rw [h9,h8]
    ·have Ih: ∀k∈c.refs,k≠l:= λk hk e=>Rk (e▸hk)
     rw [hf0 c hc Ih]
     exact yz hH Ih
   ·obtain ⟨c,hc,GI⟩:=Hs.1 hk
    by_cases Rz:k=l
    ·subst Rz;exact h5.gone hl
    ·by_cases Rk:l∈c.refs
     ·
      have Js:=Bc.1 h4
      have oF:Du st1 (f c)∈jl:=by rw [h6];exact Bi.2 ⟨f c,Bi.2 ⟨c,hc,rfl⟩,rfl⟩
      have hs:=Js _ oF
      have h8:=hf1 c hc Rk ⟨hf2 c hc Rk,hs⟩
      have h9:Du st1 (f c)=f c:=by
       have:=hf2 c hc Rk
       cases hfc:f c<;>rw [hfc] at this<;>first|(simp [AC.refs] at this;done)|rfl
      rw [h9,h8] at hs
      cases c with
      |clo g Eg=>simp [Du,AC.settled] at hs
      |own k' _ _=>simp [AC.refs] at Rk GI;exact absurd (GI.trans Rk.symm) Rz
      |Kr k'=>simp [AC.refs] at Rk GI;exact absurd (GI.trans Rk.symm) Rz
      |Gy k' _=>simp [AC.refs] at Rk GI;exact absurd (GI.trans Rk.symm) Rz
      |Kh k' _=>simp [AC.refs] at Rk GI;exact absurd (GI.trans Rk.symm) Rz
      |sub k' _ _=>simp [AC.refs] at Rk GI;exact absurd (GI.trans Rk.symm) Rz
      |Kd k' _ _=>simp [AC.refs] at Rk GI;exact absurd (GI.trans Rk.symm) Rz
      |_=>simp [AC.refs] at GI
     ·have Ih: ∀k∈c.refs,k≠l:= λk hk e=>Rk (e▸hk)
      exact h7 k (Hs.2 ⟨f c,Bi.2 ⟨c,hc,rfl⟩,by rw [hf0 c hc Ih];exact GI⟩)
  have GJ: ∀(st1:St) (c:AC),(Du st1 c).settled=true->c≠ .undef:= λst1 c hs e=>by rw [e] at hs;simp [Du,AC.settled] at hs
  split at he
  ·rename_i hf
   simp only [Aa,Ae] at he
   obtain ⟨rfl,rfl⟩:=he
   have IW: ∀c∈cs,c.settled=true:= λc hc=>by have:=List.find?_eq_none.1 hf c hc;simpa using this
   exact ⟨π,h,hr,Bc.2 IW,Kz.refl _ _,((Ev λc hc=>Uc (IW c hc)).trans (List.map_id'' (λ_=>rfl) cs)).symm,λk hk=>by
    obtain ⟨c,hc,GI⟩:=Hs.1 hk
    have:=IW c hc
    cases c<;>simp [AC.settled] at this<;>simp [AC.refs] at GI⟩
  ·rename_i l off len hf
   split at he
   ·rename_i fr tr e tid xs hl
    unfold St.at at hl
    obtain ⟨h1,m⟩:=h.freeze (fr:=fr) (.inl ⟨tr,tid,hl⟩)
    refine step _ l _ h1 m (St.Mk st l fr e xs) (λm hm=>St.Sh st l m fr e xs hm) (Kz.freeze st l fr e xs) (λc _ hc=>jz hc) (λc _ Rk hs=>?_) (λc _ Rk=>?_) he
    ·cases c with
     |own k o n=>have:k=l:=(Ad.1 Rk).symm
                 subst this;simp only [Dc,Ab,Du,St.at,hl]
     |Gy k o=>have:k=l:=(Ad.1 Rk).symm
              subst this;simp only [Dc,Ab] at hs;exact absurd rfl (GJ _ _ hs.2)
     |Kh k o=>have:k=l:=(Ad.1 Rk).symm
              subst this;simp only [Dc,Ab] at hs;exact absurd rfl (GJ _ _ hs.2)
     |sub k o o2=>have:k=l:=(Ad.1 Rk).symm
                  subst this;simp only [Dc,Ab] at hs;exact absurd rfl (GJ _ _ hs.2)
     |Kd k o o2=>have:k=l:=(Ad.1 Rk).symm
                 subst this;simp only [Dc,Ab] at hs;exact absurd rfl (GJ _ _ hs.2)
     |Kr k=>have:k=l:=(Ad.1 Rk).symm
            subst this;simp only [Dc,Ab] at hs;exact absurd rfl (GJ _ _ hs.2)
     |clo g Eg=>
      simp only [Dc] at hs
      rw [Ab (by simpa [AC.refs] using Rk)] at hs
      exact absurd rfl (GJ _ _ hs.2)
     |_=>simp [AC.refs] at Rk
    ·cases c with
     |own k o n=>have:k=l:=(Ad.1 Rk).symm
                 subst this;simp only [Dc,Ab];rfl
     |Gy k o=>have:k=l:=(Ad.1 Rk).symm
              subst this;simp only [Dc,Ab];rfl
     |Kh k o=>have:k=l:=(Ad.1 Rk).symm
              subst this;simp only [Dc,Ab];rfl
     |sub k o o2=>have:k=l:=(Ad.1 Rk).symm
                  subst this;simp only [Dc,Ab];rfl
     |Kd k o o2=>have:k=l:=(Ad.1 Rk).symm
                 subst this;simp only [Dc,Ab];rfl
     |Kr k=>have:k=l:=(Ad.1 Rk).symm
            subst this;simp only [Dc,Ab];rfl
     |clo g Eg=>simp only [Dc];rw [Ab (by simpa [AC.refs] using Rk)];rfl
     |_=>simp [AC.refs] at Rk
   ·rename_i e tid xs hl
    unfold St.at at hl
    obtain ⟨h1,m⟩:=h.freeze (fr:=false) (.inr ⟨rfl,tid,hl⟩)
    refine step _ l _ h1 m (St.Mk st l false e xs) (λm hm=>St.Sh st l m false e xs hm) (Kz.freeze st l false e xs) (λc _ hc=>jz hc) (λc _ Rk hs=>?_) (λc _ Rk=>?_) he
    ·cases c with
     |own k o n=>have:k=l:=(Ad.1 Rk).symm
                 subst this;simp only [Dc,Ab,Du,St.at,hl]
     |Gy k o=>have:k=l:=(Ad.1 Rk).symm
              subst this;simp only [Dc,Ab] at hs;exact absurd rfl (GJ _ _ hs.2)
     |Kh k o=>have:k=l:=(Ad.1 Rk).symm
              subst this;simp only [Dc,Ab] at hs;exact absurd rfl (GJ _ _ hs.2)
     |sub k o o2=>have:k=l:=(Ad.1 Rk).symm
                  subst this;simp only [Dc,Ab] at hs;exact absurd rfl (GJ _ _ hs.2)
     |Kd k o o2=>have:k=l:=(Ad.1 Rk).symm
                 subst this;simp only [Dc,Ab] at hs;exact absurd rfl (GJ _ _ hs.2)
     |Kr k=>have:k=l:=(Ad.1 Rk).symm
            subst this;simp only [Dc,Ab] at hs;exact absurd rfl (GJ _ _ hs.2)
     |clo g Eg=>
      simp only [Dc] at hs
      rw [Ab (by simpa [AC.refs] using Rk)] at hs
      exact absurd rfl (GJ _ _ hs.2)
     |_=>simp [AC.refs] at Rk
    ·cases c with
     |own k o n=>have:k=l:=(Ad.1 Rk).symm
                 subst this;simp only [Dc,Ab];rfl
     |Gy k o=>have:k=l:=(Ad.1 Rk).symm
              subst this;simp only [Dc,Ab];rfl
     |Kh k o=>have:k=l:=(Ad.1 Rk).symm
              subst this;simp only [Dc,Ab];rfl
     |sub k o o2=>have:k=l:=(Ad.1 Rk).symm
                  subst this;simp only [Dc,Ab];rfl
     |Kd k o o2=>have:k=l:=(Ad.1 Rk).symm
                 subst this;simp only [Dc,Ab];rfl
     |Kr k=>have:k=l:=(Ad.1 Rk).symm
            subst this;simp only [Dc,Ab];rfl
     |clo g Eg=>simp only [Dc];rw [Ab (by simpa [AC.refs] using Rk)];rfl
     |_=>simp [AC.refs] at Rk
   ·cases he
  ·rename_i l hf
   split at he
   ·rename_i v mm hl
    unfold St.at at hl
    obtain ⟨h1,m⟩:=h.Ix hl
    refine step _ l _ h1 m (St.Tv st l v mm) (λm hm=>St.Rn st l m v mm hm) (Kz.Ix st l v mm) (λc _ hc=>vh hc) (λc _ Rk hs=>?_) (λc _ Rk=>?_) he
    ·cases c with
     |Kr k=>have:k=l:=(Ad.1 Rk).symm
            subst this;simp only [Hi,Ab,Du,St.at,hl]
     |Gy k o=>have:k=l:=(Ad.1 Rk).symm
              subst this;simp only [Hi,Ab] at hs;exact absurd rfl (GJ _ _ hs.2)
     |Kh k o=>have:k=l:=(Ad.1 Rk).symm
              subst this;simp only [Hi,Ab] at hs;exact absurd rfl (GJ _ _ hs.2)
     |sub k o o2=>have:k=l:=(Ad.1 Rk).symm
                  subst this;simp only [Hi,Ab] at hs;exact absurd rfl (GJ _ _ hs.2)
     |Kd k o o2=>have:k=l:=(Ad.1 Rk).symm
                 subst this;simp only [Hi,Ab] at hs;exact absurd rfl (GJ _ _ hs.2)
     |own k o n=>have:k=l:=(Ad.1 Rk).symm
                 subst this;simp only [Hi,Ab] at hs;exact absurd rfl (GJ _ _ hs.2)
     |clo g Eg=>
      simp only [Hi] at hs
      rw [Ab (by simpa [AC.refs] using Rk)] at hs
      exact absurd rfl (GJ _ _ hs.2)
     |_=>simp [AC.refs] at Rk
    ·cases c with
     |own k o n=>have:k=l:=(Ad.1 Rk).symm
                 subst this;simp only [Hi,Ab];rfl
     |Gy k o=>have:k=l:=(Ad.1 Rk).symm
              subst this;simp only [Hi,Ab];rfl
     |Kh k o=>have:k=l:=(Ad.1 Rk).symm
              subst this;simp only [Hi,Ab];rfl
     |sub k o o2=>have:k=l:=(Ad.1 Rk).symm
                  subst this;simp only [Hi,Ab];rfl
     |Kd k o o2=>have:k=l:=(Ad.1 Rk).symm
                 subst this;simp only [Hi,Ab];rfl
     |Kr k=>have:k=l:=(Ad.1 Rk).symm
            subst this;simp only [Hi,Ab];rfl
     |clo g Eg=>simp only [Hi];rw [Ab (by simpa [AC.refs] using Rk)];rfl
     |_=>simp [AC.refs] at Rk
   ·cases he
  ·cases he
def j0 (X:Ctx) (w:World) (π:Pi) (F:List Nat):Prop:=F.Nodup/\ ∀b∈F,(X.w0.heap.size<=b\/X.gv b)/\b<w.heap.size/\ ∀l r,π l=some r-> ¬r.cl b
theorem Yv {S:Nat->Prop} : ∀(e:Ty) (es:List Value) (x:e.den),e.flat=true->Cells w S e es x->Ci w [] e es x
 | .int k,cs,n,_,h=>⟨rfl,h⟩
 | .bool,cs,n,_,h=>⟨rfl,h⟩
 | .str,cs,n,_,h=>⟨rfl,h⟩
 | .unit,cs,n,_,h=>⟨rfl,h⟩
 | .pair a r,cs,x,hf,h=>by
  simp only [Ty.flat,Af] at hf
  simp only [Cells] at h
  simp only [Ci]
  obtain ⟨c1,c2,h1,h2,h3⟩:=h
  exact ⟨c1,c2,[],[],h1,rfl,Yv a c1 x.1 hf.1 h2,Yv r c2 x.2 hf.2 h3⟩
 | .slice _,_,_,hf,_=>by simp [Ty.flat] at hf
 | .oslice _,_,_,hf,_=>by simp [Ty.flat] at hf
 | .ptr _,_,_,hf,_=>by simp [Ty.flat] at hf
 | .optr _,_,_,hf,_=>by simp [Ty.flat] at hf
 | .smap _,_,_,hf,_=>by simp [Ty.flat] at hf
 | .clo _ _,_,_,hf,_=>by simp [Ty.flat] at hf
theorem Td {Fs:List (List Nat)} (off len:Nat) (b:Nat) (h:b∈List.flatten ((Fs.drop off).take len)):b∈List.flatten Fs:=by
 obtain ⟨F,hF,hb⟩:=Fq.1 h
 exact Fq.2 ⟨F,eC (El hF),hb⟩
theorem aZ {α:Type} {a b:List (List α)} (h:a.Sublist b):(List.flatten a).Sublist (List.flatten b):=by
 induction h with
 |slnil=>exact List.Sublist.refl _
 |cons c _ ih=>simp only [Lf];exact ih.trans (List.sublist_append_right _ _)
 |cons_cons c _ ih=>simp only [Lf];exact List.Sublist.append (List.Sublist.refl _) ih
theorem nv {Fs:List (List Nat)} (off len:Nat) (h:(List.flatten Fs).Nodup):(List.flatten ((Fs.drop off).take len)).Nodup:=by
 have h1:((Fs.drop off).take len).Sublist Fs:=(List.take_sublist len _).trans (List.drop_sublist off Fs)
 exact h.sublist (aZ h1)
theorem lz {P:Nat->Prop} {r:Real} {off len:Nat} {v:Value} {e:Ty} {tid:TypeId} {xs:List e.den} {cur:Array Value} (h2:w.heap[r.g]?=some (.cells cur tid (0,0))) (bm:cur.size=(r.o+r.cap)*e.size) (vz:r.cap<=maxLen)
  (hlen:off+len<=xs.length) (hv:Ib (some r) e.size off len v) (ht:Yk w P r.g r.o cur e xs) (hg:P r.g):
  ∃F,Ci w F (.slice e) [v] ((xs.drop off).take len)/\F.Nodup/\ ∀b∈F,P b:=by
 have hll:((xs.drop off).take len).length=len:=by simp;omega
 obtain ⟨ad,rfl,hc,ha⟩:=hv
 obtain ⟨Fs,t1,t2,t3,t4⟩:=ht
 ·refine ⟨r.g::List.flatten ((Fs.drop off).take len),⟨some ad,len,r.cap-off,rfl,hll.symm,by omega, .inr ⟨ad,r.g,(r.o+off)*e.size,_,rfl,λh0=>ha (by omega),⟨cur,tid,r.o+off,h2,rfl,by rw [bm];congr 1;omega,by omega⟩,rfl,by simp;omega,λi x F hx hF=>?_⟩⟩,?_,λb hb=>?_⟩
  ·have hi:i<len:=by
    have:=(An.1 hx).1
    rw [hll] at this;exact this
   have hx':xs[off+i]?=some x:=by rw [Da,Ab hi,Cz] at hx;exact hx
   have hF':Fs[off+i]?=some F:=by rw [Da,Ab hi,Cz] at hF;exact hF
   obtain ⟨es,he,hj,sW⟩:=t4 (off+i) x F hx' hF'
   refine ⟨es,he,λj u hu=>?_,sW⟩
   rw [cellOf h2]
   have:=hj j u hu
   rw [<-this]
   congr 1
   rw [<-Gv,Df (r.o+off) i]
  ·have:=Cd.1 t2
   exact Cd.2 ⟨λhm=>this.1 (Td off len _ hm),nv off len this.2⟩
  ·rcases Be.1 hb with rfl|hb
   ·exact hg
   ·exact t3 b (Td off len b hb)
theorem pP {st:St} (h:Nf X w π st.heap) {c:AC} {v:Value} (hc:Hk X w π st.heap c v) (ht:Sw st c=true) (τ:Ty) (fr:Bool) (x:τ.den) (Uq:τ.Aq=false) (XR:τ.tree=true)
  (hv:Dv st τ (Du st c)=some (fr,x)): ∃F,Ci w F τ [v] x/\F.Nodup/\ ∀b∈F,∃l r,l∈c.refs/\π l=some r/\r.cl b:=by
 cases c with
 |data Ww Oq y=>
  simp only [Sw] at ht
  simp only [Du,Od] at hv
  split at hv
  ·rename_i he;subst he
   simp only [Aa,Ae] at hv
   obtain ⟨_,rfl⟩:=hv
   exact ⟨[],Yv Oq _ _ ht (Cw.Sq Uq hc),Nl,λb hb=>by cases hb⟩
  ·unfold jk at hv
   split at hv
   ·simp [Ty.flat] at ht
   ·simp [Ty.flat] at ht
   ·cases hv
 |Lm=>
  have hc:v= .slice none 0 0:=hc
  subst hc
  cases τ with
  |slice e=>
   simp only [Du,Dv,Aa,Ae] at hv
   obtain ⟨_,rfl⟩:=hv
   exact ⟨[],⟨none,0,0,rfl,rfl,Ao _, .inl ⟨rfl,rfl,rfl,rfl⟩⟩,Nl,λb hb=>by cases hb⟩
  |oslice e=>simp [Ty.tree] at XR
  |_=>simp [Du,Dv] at hv
 |own l off len=>
  simp only [Sw] at ht
  split at ht
  ·rename_i Ww tr e tid xs hl
   have Kp:=hl
   unfold St.at at hl
   simp only [Du,Kp,Od] at hv
   split at hv
   ·rename_i he;subst he
    simp only [Aa,Ae] at hv
    obtain ⟨_,rfl⟩:=hv
    obtain ⟨h2,h3⟩:=Oy hc hl
    have hb:=(h.heap l).Qs hl
    simp only [Cm,Ke] at hb
    cases hp:π l with
    |none=>
     rw [hp] at h3
     obtain ⟨rfl,rfl,rfl⟩:=h3
     exact ⟨[],⟨none,0,0,rfl,by simp,Ao _, .inl ⟨by simp,rfl,rfl,rfl⟩⟩,Nl,λb hb=>by cases hb⟩
    |some r=>
     rw [hp] at hb h3
     obtain ⟨k1,cur,_,k2,k3,k4,k5,k6,k7⟩:=hb
     have VM:Yk w r.cl r.g r.o cur e xs:=by
      simp only [Kj] at ht
      rcases ht with ht|ht
      ·exact k7 ht
      ·refine ⟨List.replicate xs.length [],by simp,by simp,by simp,λi x F hx hF=>?_⟩
       obtain ⟨es,e1,e2,e3⟩:=k6 i x hx
       have:F= []:=by
        have:=Bv hF
        exact Fy this
       subst this
       exact ⟨es,e1,e2,Yv e es x ht e3⟩
     obtain ⟨F,f1,f2,f3⟩:=lz k2 k3 k4 h2 h3 VM (h.sub l r _ hp k1.1)
     exact ⟨F,f1,f2,λb hb=>⟨l,r,by simp [AC.refs],hp,f3 b hb⟩⟩
   ·cases τ<;>simp [jk] at hv
  ·rename_i e tid xs hl
   have Kp:=hl
   unfold St.at at hl
   simp only [Du,Kp,Od] at hv
   split at hv
   ·rename_i he;subst he
    simp only [Aa,Ae] at hv
    obtain ⟨_,rfl⟩:=hv
    obtain ⟨h2,h3⟩:=cN hc hl
    have hb:=(h.heap l).Qs hl
    simp only [Cm,Of] at hb
    cases hp:π l with
    |none=>
     rw [hp] at h3
     obtain ⟨rfl,rfl,rfl⟩:=h3
     exact ⟨[],⟨none,0,0,rfl,by simp,Ao _, .inl ⟨by simp,rfl,rfl,rfl⟩⟩,Nl,λb hb=>by cases hb⟩
    |some r=>
     rw [hp] at hb h3
     obtain ⟨k1,cur,_,k2,k3,k4,k5,k7⟩:=hb
     obtain ⟨F,f1,f2,f3⟩:=lz k2 k3 k4 h2 h3 k7 k1
     exact ⟨F,f1,f2,λb hb=>⟨l,r,by simp [AC.refs],hp,h.sub l r b hp (f3 b hb)⟩⟩
   ·cases τ<;>simp [jk] at hv
  ·cases ht
 |_=>simp [Sw] at ht
theorem Za: ∀ {l:List Nat},aW l=true->l.Nodup
 | [],_=>Nl
 |a::r,h=>by
  simp only [aW,Af,Ei,List.contains_eq_mem,decide_eq_false_iff_not] at h
  exact Cd.2 ⟨h.1,Za h.2⟩
theorem bQ {st st':St} {τ:Ty} {c:AC} (h:c.settled=true):Dv st' τ c=Dv st τ c:=by
 cases c<;>simp [AC.settled] at h<;>cases τ<;>rfl
theorem yQ {st st':St} (h:Nf X w π st.heap): ∀(τ:Ty) (cs:List AC) (us:List Value) (fr:Bool) (x:τ.den),Fv X w π st.heap cs us->cs.all (Sw st)=true->(cs.flatMap AC.refs).Nodup->
  (cs.map (Du st)).all (·.settled)=true->τ.tree=true->Ff st' τ (cs.map (Du st))=some (fr,x)-> ∃F,Ci w F τ us x/\F.Nodup/\ ∀b∈F,∃l r,l∈cs.flatMap AC.refs/\π l=some r/\r.cl b:=by
 have one: ∀(τ:Ty) (cs:List AC) (us:List Value) (fr:Bool) (x:τ.den),τ.Aq=false->Fv X w π st.heap cs us->cs.all (Sw st)=true->
   (cs.map (Du st)).all (·.settled)=true->τ.tree=true->Ff st' τ (cs.map (Du st))=some (fr,x)-> ∃F,Ci w F τ us x/\F.Nodup/\ ∀b∈F,∃l r,l∈cs.flatMap AC.refs/\π l=some r/\r.cl b:=by
  intro τ cs us fr x Uq hr ht hs Wp hv
  rw [Uu Uq] at hv
  rcases cs with _|⟨c,_|⟨d,cs⟩⟩
  ·cases hv
  ·simp only [Ce,List.map_nil] at hv
   obtain ⟨u,hu,_,hc⟩:=hr.2 0 c rfl
   have hl:us.length=1:=hr.1
   obtain ⟨u',rfl⟩:=Dg.1 hl
   simp at hu;subst hu
   rw [bQ (st:=st) (by simpa using hs)] at hv
   obtain ⟨F,f1,f2,f3⟩:=pP h hc (by simpa using ht) τ fr x Uq Wp hv
   exact ⟨F,f1,f2,λb hb=>by obtain ⟨l,r,g1,g2⟩:=f3 b hb;exact ⟨l,r,by simpa using g1,g2⟩⟩
  ·cases hv
 intro τ
 induction τ with
 |unit=>
  intro cs us fr x hr ht hd hs Wp hv
  cases cs with
  |nil=>have:us= []:=Cn hr.1;subst this;exact ⟨[],⟨rfl,rfl⟩,Nl,λb hb=>by cases hb⟩
  |cons c cs=>simp [Ff] at hv
 |pair a r iX iR=>
  intro cs us fr x hr ht hd hs Wp hv
  simp only [Ty.tree,Af] at Wp
  simp only [Ff] at hv
  split at hv
  ·rename_i f1 y f2 z h1 h2
   simp only [Aa,Ae] at hv
   obtain ⟨rfl,rfl⟩:=hv
   have XY:Fv X w π st.heap (cs.take a.size) (us.take a.size):=by have:=aL hr 0 a.size;simpa using this
   have hr2:Fv X w π st.heap (cs.drop a.size) (us.drop a.size):=
    ⟨by simp [hr.1],λi c hc=>by
     rw [Cz] at hc⊢
     exact hr.2 _ c hc⟩
   have Asb: ∀ {p:AC->Bool} {l:List AC} (n:Nat),l.all p=true->(l.take n).all p=true:= λn hl=>Bc.2 λc hc=>Bc.1 hl c (El hc)
   have Asd: ∀ {p:AC->Bool} {l:List AC} (n:Nat),l.all p=true->(l.drop n).all p=true:= λn hl=>Bc.2 λc hc=>Bc.1 hl c (eC hc)
   have hdd:((cs.take a.size++cs.drop a.size).flatMap AC.refs).Nodup:=by rw [Io];exact hd
   rw [List.flatMap_append] at hdd
   obtain ⟨d1,d2,d3⟩:=Cv.1 hdd
   rw [<-List.map_take] at h1
   rw [<-List.map_drop] at h2
   obtain ⟨F1,t1,n1,c1⟩:=iX _ _ f1 y XY (Asb _ ht) d1 (by rw [List.map_take];exact Asb _ hs) Wp.1 h1
   obtain ⟨F2,t2,n2,c2⟩:=iR _ _ f2 z hr2 (Asd _ ht) d2 (by rw [List.map_drop];exact Asd _ hs) Wp.2 h2
   refine ⟨F1++F2,⟨us.take a.size,us.drop a.size,F1,F2,(Io _ _).symm,rfl,t1,t2⟩,Cv.2 ⟨n1,n2,λb hb b' jB e=>?_⟩,λb hb=>?_⟩
   ·subst e
    obtain ⟨l1,r1,g1,g2,g3⟩:=c1 b hb
    obtain ⟨l2,r2,g4,g5,g6⟩:=c2 b jB
    exact d3 l1 g1 l2 g4 (h.inj l1 l2 r1 r2 b g2 g5 g3 g6)
   ·have Js: ∀l,(l∈(cs.take a.size).flatMap AC.refs\/l∈(cs.drop a.size).flatMap AC.refs)->l∈cs.flatMap AC.refs:= λl hl=>by
     rw [<-Az,<-List.flatMap_append,Io] at hl;exact hl
    rcases Az.1 hb with hb|hb
    ·obtain ⟨l1,r1,g1,g2⟩:=c1 b hb;exact ⟨l1,r1,Js l1 (.inl g1),g2⟩
    ·obtain ⟨l1,r1,g1,g2⟩:=c2 b hb;exact ⟨l1,r1,Js l1 (.inr g1),g2⟩
  ·cases hv
 |_=>exact λcs us fr x hr ht _ hs Wp hv=>one _ cs us fr x rfl hr ht hs Wp hv
theorem UU {π':Pi} {st st':St} {a:Act} (h:Bk X π st a w) (h':Bk X π' st' a w) (k:Kz π π' st.heap st'.heap) {ls:List Nat} (hg: ∀l∈ls,Au st'.heap l=none) {F:List Nat} (hF:F.Nodup)
  (hc: ∀b∈F,∃l r,l∈ls/\π l=some r/\r.cl b):j0 X w π' F:=by
 refine ⟨hF,λb hb=>?_⟩
 obtain ⟨l,r,h1,h2,h3⟩:=hc b hb
 have hp:=h.1.place l r b h2 h3
 refine ⟨hp.1,hp.2,λl2 r2 h4 h5=>?_⟩
 cases hh:Au st'.heap l2 with
 |none=>rw [(h'.1.heap l2).emp hh] at h4;cases h4
 |some b'=>
  have h6:=(k l2 b' hh).1
  rw [h6] at h4
  have:=h.1.inj l l2 r r2 b h2 h4 h3 h5
  subst this
  rw [hg l h1] at hh;cases hh
theorem cP {st:St} {a:Act} (h:Bk X π st a w) {c:AV} {v:Value} (hc:Bs X w π st.heap c v) {c':AV} {st':St} (he:settle st c=some (c',st')):
  ∃π',Bk X π' st' a w/\Bs X w π' st'.heap c' v/\c'.settled=true/\Kz π π' st.heap st'.heap/\
   (Ug st c=true-> ∀(τ:Ty) (fr:Bool) (x:τ.den),τ.tree=true->Gc st' τ c'=some (fr,x)-> ∃F us,Ci w F τ us x/\v=Cf τ us/\j0 X w π' F/\ ∀b∈F,∃l r,π l=some r/\r.cl b):=by
 have cell: ∀(a0:AC) (st':St) (π':Pi),Hk X w π st.heap a0 v->Bk X π' st' a w->(Du st a0).settled=true->Kz π π' st.heap st'.heap->(∀l∈a0.refs,Au st'.heap l=none)->
   Sw st a0=true-> ∀(τ:Ty) (fr:Bool) (x:τ.den),τ.tree=true->Gc st' τ (.at (Du st a0))=some (fr,x)-> ∃F us,Ci w F τ us x/\v=Cf τ us/\j0 X w π' F/\ ∀b∈F,∃l r,π l=some r/\r.cl b:=by
  intro a0 st1 cY hr h1 hs hk hg ht τ fr x Wp hv
  by_cases Uq:τ.Aq=true
  ·
   cases IX:Du st a0 with
   |data Ww Oq y=>
    rw [IX,dU] at hv
    split at hv
    ·rename_i het;subst het
     simp only [Aa,Ae] at hv
     obtain ⟨_,rfl⟩:=hv
     cases a0 with
     |data tR τ2 z=>
      simp only [Du,AC.data.injEq] at IX
      obtain ⟨rfl,rfl,hz⟩:=IX
      have hz:=eq_of_heq hz
      subst hz
      obtain ⟨cs,sW,rfl⟩:=hr
      exact ⟨[],cs,Yv _ cs _ ht sW,rfl,⟨Nl,λb hb=>by cases hb⟩,λb hb=>by cases hb⟩
     |own l off len=>
      simp only [Du] at IX
      split at IX
      ·simp only [AC.data.injEq] at IX;obtain ⟨_,h2,_⟩:=IX;subst h2;simp [Ty.Aq] at Uq
      ·simp only [AC.data.injEq] at IX;obtain ⟨_,h2,_⟩:=IX;subst h2;simp [Ty.Aq] at Uq
      ·cases IX
     |Kr l=>simp [Sw] at ht
     |_=>simp [Du] at IX
    ·cases hv
   |_=>rw [IX] at hv;simp only [Gc,Uq,Pv] at hv;cases hv
  ·simp only [Ir] at Uq
   have xS:Dv st τ (Du st a0)=some (fr,x):=by
    rw [<-bQ (st:=st) (st':=st1) hs]
    cases IX:Du st a0 with
    |data Ww Oq y=>
     rw [IX,dU] at hv
     rw [Od]
     split at hv
     ·rename_i het;rw [Jf het];exact hv
     ·rename_i het
      rw [dif_neg het]
      simp only [Uq,Dj,Ul,FR,Od] at hv
      rw [dif_neg het] at hv
      exact hv
    |Lm=>rw [IX] at hv;simp only [Gc,Uq,Dj,Ul] at hv;rw [Rb rfl] at hv;exact hv
    |Vo=>rw [IX] at hv;simp only [Gc,Uq,Dj,Ul] at hv;rw [Rb rfl] at hv;exact hv
    |_=>rw [IX] at hs;simp [AC.settled] at hs
   obtain ⟨F,f1,f2,f3⟩:=pP h.1 hr ht τ fr x Uq Wp xS
   exact ⟨F,[v],f1,by simp [Cf,Uq],UU h h1 hk hg f2 f3,λb hb=>let ⟨l,r,_,q⟩:=f3 b hb;⟨l,r,q⟩⟩
 unfold settle at he
 split at he
 ·rename_i l off len
  split at he
  ·rename_i fr tr e tid xs hl
   simp only [Aa,Ae] at he
   obtain ⟨rfl,rfl⟩:=he
   obtain ⟨h1,m⟩:=h.freeze (fr:=fr) (.inl ⟨tr,tid,hl⟩)
   have:=m.ac (.own l off len) v hc
   simp only [Dc,Pv] at this
   have eY:Du st (.own l off len)= .data fr (.slice e) ((xs.drop off).take len):=by simp only [Du,hl]
   refine ⟨_,h1,this,rfl,Kz.freeze st l fr e xs,λht=>?_⟩
   have:=cell (.own l off len) _ _ hc h1 (by rw [eY];rfl) (Kz.freeze st l fr e xs) (λk hk=>by rw [Ad.1 hk];exact St.Mk st l fr e xs) ht
   rw [eY] at this
   exact this
  ·rename_i e tid xs hl
   simp only [Aa,Ae] at he
   obtain ⟨rfl,rfl⟩:=he
   obtain ⟨h1,m⟩:=h.freeze (fr:=false) (.inr ⟨rfl,tid,hl⟩)
   have:=m.ac (.own l off len) v hc
   simp only [Dc,Pv] at this
   have eY:Du st (.own l off len)= .data false (.slice e) ((xs.drop off).take len):=by simp only [Du,hl]
   refine ⟨_,h1,this,rfl,Kz.freeze st l false e xs,λht=>?_⟩
   have:=cell (.own l off len) _ _ hc h1 (by rw [eY];rfl) (Kz.freeze st l false e xs) (λk hk=>by rw [Ad.1 hk];exact St.Mk st l false e xs) ht
   rw [eY] at this
   exact this
  ·cases he
 ·rename_i l
  split at he
  ·rename_i vt mm hl
   simp only [Aa,Ae] at he
   obtain ⟨rfl,rfl⟩:=he
   obtain ⟨h1,m⟩:=h.Ix hl
   have:=m.ac (.Kr l) v hc
   simp only [Hi,Pv] at this
   exact ⟨_,h1,this,rfl,Kz.Ix st l vt mm,λht=>by simp [Ug,Sw] at ht⟩
  ·cases he
 ·rename_i a0 _ _
  split at he
  ·rename_i hs
   simp only [Aa,Ae] at he
   obtain ⟨rfl,rfl⟩:=he
   refine ⟨π,h,hc,hs,Kz.refl _ _,λht=>?_⟩
   have eY:=Uc (st:=st) hs
   have:=cell a0 st π hc h (by rw [eY];exact hs) (Kz.refl _ _) (λk hk=>by
    cases a0<;>simp [AC.settled] at hs<;>simp [AC.refs] at hk) ht
   rw [eY] at this
   exact this
  ·cases he
 ·rename_i cs
  cases hsc:Ht cs.length st cs with
  |none=>rw [hsc] at he;cases he
  |some p=>
   rw [hsc] at he
   simp only [Am,Aa,Ae] at he
   obtain ⟨rfl,rfl⟩:=he
   obtain ⟨us,rfl,hr⟩:=hc
   obtain ⟨π',h2,h3,h4,h5,h6,h7⟩:=iF cs.length st π cs us p.1 p.2 h hr hsc
   refine ⟨π',h2,⟨us,rfl,h3⟩,h4,h5,λht τ fr x Wp hv=>?_⟩
   simp only [Ug,Af] at ht
   simp only [Gc] at hv
   split at hv
   ·rename_i Uq
    rw [h6] at hv h4
    obtain ⟨F,f1,f2,f3⟩:=yQ h.1 τ cs us fr x hr ht.1 (Za ht.2) h4 Wp hv
    exact ⟨F,us,f1,by simp [Cf,Uq],UU h h2 h5 h7 f2 f3,λb hb=>let ⟨l,r,_,q⟩:=f3 b hb;⟨l,r,q⟩⟩
   ·cases hv
 ·simp only [Aa,Ae] at he
  obtain ⟨rfl,rfl⟩:=he
  exact ⟨π,h,hc,rfl,Kz.refl _ _,λht=>by simp [Ug] at ht⟩
 ·cases he
theorem jc {o i j s p:Nat} (Ih:i≠j) (hp:p<s):(o+i)*s+p<(o+j)*s\/(o+j)*s+s<=(o+i)*s+p:=by
 rcases Nat.lt_or_gt_of_ne Ih with h|h
 ·left
  have:(o+i+1)*s<=(o+j)*s:=Ey _ (by omega)
  rw [Df,Sz] at this
  omega
 ·right
  have:(o+j+1)*s<=(o+i)*s:=Ey _ (by omega)
  rw [Df,Sz] at this
  omega
theorem Ik {α:Type} (l ys:List α) (i k:Nat) (h:i+ys.length<=l.length):(Ea l i ys)[k]?=if k<i then l[k]? else if k<i+ys.length then ys[k-i]? else l[k]?:=by
 unfold Ea
 have t1:(l.take i).length=i:=by simp;omega
 split
 ·rename_i hk
  rw [Dh,At (by omega),Da,Ab hk]
 ·split
  ·rename_i hk
   rw [Dh,As (by omega),t1,At (by omega)]
  ·rw [As (by simp;omega),Cz]
   congr 1
   simp;omega
theorem Jb {α:Type} (l ys:List α) (i:Nat) (h:i+ys.length<=l.length):(Ea l i ys).length=l.length:=by
 unfold Ea;simp;omega
theorem FC (hT:Ed P T) {st:St} {a:Act} (h:Bk X π st a w) {t:TypeId} {e:Ty} (ht:T.ty t=some e) {l j:Nat} {r:Real} {vx:Value} {tid:TypeId} {fr Ww:Bool} {xs:List e.den} {x:e.den}
  (hp:π l=some r) {tr:Bool} (hl:Au st.heap l=some (.arr fr tr e tid xs)) (hj:j<xs.length) (hx:Cw w (Dd X.w0.heap.size X.Sc π Ww) e vx x):
  ∃w',(Instr.storeAt t (.pointer (some ⟨r.g,(r.o+j)*e.size,none⟩)) vx).run P w= .ok () w'/\Bk X π (st.Kc l (.arr (fr&&Ww) false e tid (xs.set j x))) a w':=by
 have hb:=(h.1.heap l).Qs hl
 simp only [Cm,Ke,hp] at hb
 obtain ⟨h1,cur,ti,h2,h3,h4,h5,h6,_⟩:=hb
 obtain ⟨es,iW,hv⟩:=hx
 have m9:=Cells.len e es x iW
 have Yw:(r.o+j)*e.size+es.length<=cur.size:=by
  have:(r.o+j+1)*e.size<=(r.o+r.cap)*e.size:=Ey _ (by omega)
  rw [Df (r.o+j) 1,Sz] at this
  omega
 have az:(r.o+j)*e.size+es.length<=cur.toList.length:=by simpa using Yw
 have Vl:=Xl (P:=P) (w:=w) (hT.ty _ _ ht) r.g ((r.o+j)*e.size) vx es (by rw [hv];exact Lc e es x iW) m9 (Cells.plain e es x iW) cur ti h2 Yw
 refine ⟨_,by simp only [Instr.storeAt,Instr.sureAddr];simpa using Vl,?_⟩
 refine h.set hl (b:= .arr (fr&&Ww) false e tid (xs.set j x)) ⟨rfl,by simp⟩ (by rw [hp];exact Nw w r.g _) λm=>?_
 simp only [Cm,Ke,hp]
 refine ⟨⟨h1.1,h1.2.1,λhf=>h1.2.2 (by simp only [Af] at hf;exact hf.1)⟩,_,_,setRow_heap w r.g cur _ ti _ h2,by rw [Gw,Jb _ _ _ az];simpa using h3,h4,by simpa using h5,λi y hy=>?_,λhf=>by cases hf⟩
 rw [Fo] at hy
 split at hy
 ·rename_i xP;subst xP
  simp only [Aa] at hy;subst hy
  refine ⟨es,m9,λk u hu=>?_,(m.cells Ww e es x iW).and_right⟩
  have hk:k<es.length:=(An.1 hu).1
  rw [Im,Ik _ _ _ _ az,Ag (by omega),Ab (by omega)]
  rw [show (r.o+j)*e.size+k-(r.o+j)*e.size=k by omega];exact hu
 ·rename_i xP
  obtain ⟨pV,he',oE,II⟩:=h6 i y hy
  refine ⟨pV,he',λk u hu=>?_,(m.cells fr e pV y II).and_left⟩
  have hk:k<pV.length:=(An.1 hu).1
  have:=oE k u hu
  rw [Im,Ik _ _ _ _ az]
  rcases jc (o:=r.o) (i:=i) (j:=j) (s:=e.size) (p:=k) (Gl xP) (by omega) with Iz|pX
  ·rw [Ab Iz];simpa using this
  ·rw [Ag (by omega),Ag (by omega)];simpa using this
theorem mn: ∀(Fs:List (List Nat)) (i:Nat) (F':List Nat),(List.flatten Fs).Nodup->F'.Nodup->(∀b∈F',b∉List.flatten Fs)->(List.flatten (Fs.set i F')).Nodup/\ ∀b∈List.flatten (Fs.set i F'),b∈List.flatten Fs\/b∈F'
 | [],i,F',_,_,_=>by simp
 |G::Fs,0,F',hn,tU,hs=>by
  simp only [List.set_cons_zero,Lf] at hn hs⊢
  obtain ⟨n1,n2,n3⟩:=Cv.1 hn
  refine ⟨Cv.2 ⟨tU,n2,λa ha b hb e=>hs a ha (Bx _ (e▸hb))⟩,λb hb=>?_⟩
  rcases Az.1 hb with hb|hb
  ·exact .inr hb
  ·exact .inl (Bx _ hb)
 |G::Fs,i+1,F',hn,tU,hs=>by
  simp only [List.set_cons_succ,Lf] at hn hs⊢
  obtain ⟨n1,n2,n3⟩:=Cv.1 hn
  obtain ⟨m1,m2⟩:=mn Fs i F' n2 tU λb hb hm=>hs b hb (Bx _ hm)
  refine ⟨Cv.2 ⟨n1,m1,λa ha b hb e=>?_⟩,λb hb=>?_⟩
  ·subst e
   rcases m2 a hb with h|h
   ·exact n3 a ha a h rfl
   ·exact hs a h (Bd _ ha)
  ·rcases Az.1 hb with hb|hb
   ·exact .inl (Bd _ hb)
   ·exact (m2 b hb).imp (Bx _) id
theorem yO (hT:Ed P T) {st:St} {a:Act} (h:Bk X π st a w) {t:TypeId} {e:Ty} (ht:T.ty t=some e) {l j:Nat} {r:Real} {vx:Value} {tid:TypeId} {fr Ww:Bool} {xs:List e.den} {x:e.den}
  (hp:π l=some r) (hl:Au st.heap l=some (.arr fr true e tid xs)) (hj:j<xs.length) (hx:Cw w (Dd X.w0.heap.size X.Sc π Ww) e vx x) {F:List Nat} {us:List Value} (hF:Ci w F e us x) (hus:vx=Cf e us) (oB:j0 X w π F):
  ∃w',(Instr.storeAt t (.pointer (some ⟨r.g,(r.o+j)*e.size,none⟩)) vx).run P w= .ok () w'/\Bk X (Xt π l (some (r.plus F))) (st.Kc l (.arr (fr&&Ww) true e tid (xs.set j x))) a w':=by
 have hb:=(h.1.heap l).Qs hl
 simp only [Cm,Ke,hp] at hb
 obtain ⟨h1,cur,ti,h2,h3,h4,h5,h6,h7⟩:=hb
 obtain ⟨Fs,t1,t2,t3,t4⟩:=h7 trivial
 obtain ⟨es,iW,hv⟩:=hx
 have m9:=Cells.len e es x iW
 have Awx:us=es:=by
  have c1:=Lc e us x (Ci.cells (S:= λ_=>False) F e us x hF λ_ _ h=>h)
  have c2:=Lc e es x iW
  rw [<-hus,hv,c2] at c1
  simpa using c1.symm
 subst Awx
 have Yw:(r.o+j)*e.size+us.length<=cur.size:=by
  have:(r.o+j+1)*e.size<=(r.o+r.cap)*e.size:=Ey _ (by omega)
  rw [Df (r.o+j) 1,Sz] at this
  omega
 have az:(r.o+j)*e.size+us.length<=cur.toList.length:=by simpa using Yw
 have Vl:=Xl (P:=P) (w:=w) (hT.ty _ _ ht) r.g ((r.o+j)*e.size) vx us (by rw [hv];exact Lc e us x iW) m9 (Cells.plain e us x iW) cur ti h2 Yw
 have Ox:r.cl r.g:=h.1.sub l r _ hp h1.1
 have hng: ∀b∈F,b≠r.g:= λb hb e=>(oB.2 b hb).2.2 l r hp (e▸Ox)
 have VI:=mn Fs j F (Cd.1 t2).2 oB.1 λb hb hm=>(oB.2 b hb).2.2 l r hp (t3 b hm)
 refine ⟨_,by simp only [Instr.storeAt,Instr.sureAddr];simpa using Vl,?_⟩
 refine h.Axn hl (b:= .arr (fr&&Ww) true e tid (xs.set j x)) ⟨rfl,by simp⟩ hp (λc hc=>⟨(oB.2 c hc).1,(oB.2 c hc).2.1,λm r0 _=>(oB.2 c hc).2.2 m r0⟩) (Nw w r.g _) λm=>?_
 simp only [Cm,Ke]
 have cell: ∀(i:Nat) (pV:List Value),i≠j->pV.length=e.size->(∀k u,pV[k]?=some u->cur[(r.o+i)*e.size+k]?=some u)-> ∀k u,pV[k]?=some u->(Ea cur.toList ((r.o+j)*e.size) us).toArray[(r.o+i)*e.size+k]?=some u:=by
  intro i pV jC he' oE k u hu
  have hk:k<pV.length:=(An.1 hu).1
  have:=oE k u hu
  rw [Im,Ik _ _ _ _ az]
  rcases jc (o:=r.o) (i:=i) (j:=j) (s:=e.size) (p:=k) jC (by omega) with Iz|pX
  ·rw [Ab Iz];simpa using this
  ·rw [Ag (by omega),Ag (by omega)];simpa using this
 have Aj9: ∀k u,us[k]?=some u->(Ea cur.toList ((r.o+j)*e.size) us).toArray[(r.o+j)*e.size+k]?=some u:=by
  intro k u hu
  have hk:k<us.length:=(An.1 hu).1
  rw [Im,Ik _ _ _ _ az,Ag (by omega),Ab (by omega)]
  rw [show (r.o+j)*e.size+k-(r.o+j)*e.size=k by omega];exact hu
 refine ⟨⟨h1.1,h1.2.1,λhf=>h1.2.2 (by simp only [Af] at hf;exact hf.1)⟩,_,_,setRow_heap w r.g cur _ ti _ h2,by rw [Gw,Jb _ _ _ az,Nt];exact h3,h4,by rw [Bj];exact h5,λi y hy=>?_,λ_=>?_⟩
 ·rw [Fo] at hy
  split at hy
  ·rename_i xP;subst xP
   simp only [Aa] at hy;subst hy
   exact ⟨us,m9,Aj9,(m.cells Ww e us x iW).and_right⟩
  ·rename_i xP
   obtain ⟨pV,he',oE,II⟩:=h6 i y hy
   exact ⟨pV,he',cell i pV (Gl xP) he' oE,(m.cells fr e pV y II).and_left⟩
 ·refine ⟨Fs.set j F,by simp [t1],Cd.2 ⟨λhm=>?_,VI.1⟩,λb hb=>?_,λi y G hy hG=>?_⟩
  ·rcases VI.2 _ hm with h8|h8
   ·exact (Cd.1 t2).1 h8
   ·exact hng _ h8 rfl
  ·exact (VI.2 b hb).imp (t3 b) id
  ·rw [Fo] at hy hG
   split at hy
   ·rename_i xP;subst xP
    rw [Ab rfl] at hG
    rw [Ab (by omega)] at hG
    simp only [Aa] at hy hG;subst hy;subst hG
    exact ⟨us,m9,Aj9,hF.Fg _ _ _ _ (by simp) λb hb=>setRow_other w r.g b _ (hng b hb)⟩
   ·rename_i xP
    rw [Ag xP] at hG
    obtain ⟨pV,he',oE,II⟩:=t4 i y G hy hG
    exact ⟨pV,he',cell i pV (Gl xP) he' oE,II.Fg _ _ _ _ (by simp) λb hb=>setRow_other w r.g b _ λe=>(Cd.1 t2).1 (Fq.2 ⟨G,Bv hG,e▸hb⟩)⟩
theorem XG {st:St} {a:Act} (h:Bk X π st a w) {τ:Ty} {l:Nat} {x:AV} {vx:Value} (hx:Bs X w π st.heap x vx):Bs X w π st.heap (Ac1 T st τ l x) vx:=by
 unfold Ac1
 split
 ·rename_i hc
  split
  ·rename_i p hp
   have:=Na τ x vx p.1 p.2 (Dz.1 hc).2 hx hp
   exact Cw.Iv this λb _ hA=>hA.imp id (Or.imp id λ⟨h1,_⟩=>by cases h1)
  ·exact hx
 ·exact hx
theorem sU (hT:Ed P T) {st:St} {a:Act} (h:Bk X π st a w) (t:TypeId) (p x:AV) (vp vx:Value) (hp:Bs X w π st.heap p vp) (hx:Bs X w π st.heap x vx) (st':St)
  (he:Vv T st t p x=some st'): ∃w' π',(Instr.storeAt t vp vx).run P w= .ok () w'/\Bk X π' st' a w':=by
 unfold Vv at he
 split at he
 ·rename_i τ l i ht
  split at he
  ·rename_i tid vs cs hl hc
   split at he
   ·rename_i hle
    simp only [Aa] at he
    obtain ⟨w',h1,h2⟩:=FE hT h ht hp (XG h hx) hl hc hle
    split at he
    ·rename_i Ju
     simp only [Af,Nm] at Ju
     subst he
     obtain ⟨π2,h3⟩:=gA (T:=T) l i t τ cs.length 0 _ π (by omega) h2
     exact ⟨w',π2,h1,h3⟩
    ·subst he
     exact ⟨w',π,h1,h2⟩
   ·cases he
  ·cases he
 ·rename_i τ l j ht
  split at he
  ·rename_i x' st1 hs
   obtain ⟨cY,h1,h2,h3,h4,h5⟩:=cP h hx hs
   split at he
   ·rename_i fr tr e tid xs Ww y hl hv
    split at he
    ·rename_i mb;subst mb
     split at he
     ·rename_i hj
      simp only [Aa] at he;subst he
      obtain ⟨r,b,sz,n,g1,g0,g2,g3,rfl⟩:=hp
      obtain ⟨k1,b',f,k2,k3⟩:=h4 l _ hl
      rw [g1] at k2;cases k2
      have g4:=Lr OB.row k3
      rw [show (OB.map f b).row=b.row by cases b<;>rfl,g0] at g4
      simp only [OB.row,Aa,Ae] at g4
      obtain ⟨rfl,rfl⟩:=g4
      cases oH:(tr&&(Ug st x&&τ.tree)) with
      |false=>
       obtain ⟨w',q1,q2⟩:=FC hT h1 ht (k1.trans g3) hl hj (Na _ x' vx Ww y h3 h2 hv)
       exact ⟨w',cY,q1,q2⟩
      |true=>
       simp only [Af] at oH
       obtain ⟨rfl,htv,mb⟩:=oH
       obtain ⟨F,us,f1,f2,f3,_⟩:=h5 htv τ Ww y mb hv
       obtain ⟨w',q1,q2⟩:=yO hT h1 ht (k1.trans g3) hl hj (Na _ x' vx Ww y h3 h2 hv) f1 f2 f3
       exact ⟨w',_,q1,q2⟩
     ·cases he
    ·cases he
   ·cases he
  ·cases he
 ·cases he
theorem wO {S:Nat->Prop} {e:Ty} {v:Value} {ys:List e.den} (h:Cells w S (.slice e) [v] ys):
  ∃ad c,v= .slice ad ys.length c/\(ys= []\/ ∃g o,ad=some ⟨g,o,none⟩/\ ∃news:List Value,news.length=ys.length*e.size/\(∀j u,news[j]?=some u->w.cell? ⟨g,o+j,none⟩=some u)/\(∀u∈news,u.oneCell'=true)/\(∀j u,j<ys.length*e.size->w.cell? ⟨g,o+j,none⟩=some u->news[j]?=some u)/\
   ∀(i:Nat) (y:e.den),ys[i]?=some y-> ∃es:List Value,es.length=e.size/\(∀j u,es[j]?=some u->news[i*e.size+j]?=some u)/\Cells w S e es y):=by
 simp only [Cells] at h
 obtain ⟨ad,len,cap,hv,hl,vz,PY⟩:=h
 simp only [Gj,Ow] at hv
 subst hl
 refine ⟨ad,cap,hv,?_⟩
 rcases PY with h0|⟨g,o,rfl,hg,hn,Js⟩
 ·exact .inl h0
 ·right
  refine ⟨g,o,rfl,(List.range (ys.length*e.size)).map λj=>(w.cell? ⟨g,o+j,none⟩).getD undef,by simp,?_⟩
  have key: ∀k,k<ys.length*e.size-> ∃u,w.cell? ⟨g,o+k,none⟩=some u/\u.oneCell'=true:=by
   intro k hk
   have hs:0<e.size:=by
    rcases bh e.size with h|h
    ·rw [h] at hk;simp at hk
    ·exact h
   have hi:k/e.size<ys.length:=(Nat.div_lt_iff_lt_mul hs).2 hk
   obtain ⟨es,iW,hc,cD⟩:=Js (k/e.size) _ (Ac hi)
   have hm:k%e.size<es.length:=by rw [iW];exact Nat.mod_lt _ hs
   have:=hc (k%e.size) _ (Ac hm)
   rw [Gv,show k/e.size*e.size+k%e.size=k by rw [Nat.mul_comm];exact Nat.div_add_mod k e.size] at this
   exact ⟨_,this,Cells.plain e es _ cD _ (Ak hm)⟩
  refine ⟨λj u hu=>?_,λu hu=>?_,λj u hj hu=>by rw [Fm,hZ hj];simp [hu],λi y hy=>?_⟩
  ·rw [Fm] at hu
   have hj:j<ys.length*e.size:=by
    by_cases hj:j<ys.length*e.size
    ·exact hj
    ·rw [Ec (by simpa using hj)] at hu;cases hu
   rw [hZ hj] at hu
   obtain ⟨u',ga,_⟩:=key j hj
   simp only [Am,ga,Cc,Aa] at hu
   rw [ga,hu]
  ·obtain ⟨j,hj,rfl⟩:=Bi.1 hu
   obtain ⟨u',ga,h1⟩:=key j (Eo.1 hj)
   rw [ga];exact h1
  ·obtain ⟨es,iW,hc,cD⟩:=Js i y hy
   refine ⟨es,iW,λj u hu=>?_,cD⟩
   have hi:=(An.1 hy).1
   have hj:=(An.1 hu).1
   have Iz:i*e.size+j<ys.length*e.size:=by
    have:(i+1)*e.size<=ys.length*e.size:=Ey _ (by omega)
    rw [Df,Sz] at this
    omega
   rw [Fm,hZ Iz]
   have:=hc j u hu
   rw [Gv] at this
   simp [this]
end
end Go.Proofs.YtfgfigkbgecfnaaGreat
