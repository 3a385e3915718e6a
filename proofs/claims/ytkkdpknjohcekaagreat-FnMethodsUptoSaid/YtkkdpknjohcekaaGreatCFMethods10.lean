/-
  Part 11 of the proof that the statement FnMethods holds.
-/
import Derived.Test.YtkkdpknjohcekaaGreatCFMethods09
namespace Go.Proofs.YtkkdpknjohcekaaGreat
open Go.RowKit
section
variable {P:Program} {T:Tab} {X:Ctx} {w w':World} {π:Pi} {H:List (Nat×OB)}
theorem OB.map_map (f g:AC->AC) (b:OB):OB.map g (OB.map f b)=OB.map (λc=>g (f c)) b:=by
 cases b with
 |var t vs=>simp [OB.map,Function.comp_def]
 |_=>rfl
theorem OB.GY (b:OB):OB.map (λc=>c) b=b:=by
 cases b with
 |var t vs=>simp [OB.map]
 |_=>rfl
def Ls (π π':Pi) (H H':List (Nat×OB)):Prop:= ∀l b',Av H' l=some b'->π' l=π l/\ ∃b f,Av H l=some b/\b'=OB.map f b
theorem Ls.refl (π:Pi) (H:List (Nat×OB)):Ls π π H H:= λ_ b h=>⟨rfl,b,λc=>c,h,(OB.GY b).symm⟩
theorem Ls.trans {cG YF π3:Pi} {H1 H2 H3:List (Nat×OB)} (h:Ls cG YF H1 H2) (h':Ls YF π3 H2 H3):Ls cG π3 H1 H3:= λl b hb=>by
 obtain ⟨e1,b1,f1,h1,rfl⟩:=h' l b hb
 obtain ⟨e2,b2,f2,h2,rfl⟩:=h l b1 h1
 exact ⟨e1.trans e2,b2,_,h2,OB.map_map f2 f1 b2⟩
theorem Ls.freeze (st:St) (l:Nat) (fr:Bool) (e:Ty) (xs:List e.den):Ls π (Xo π l none) st.heap (st.freeze l fr e xs).heap:= λk b hb=>by
 by_cases hk:k=l
 ·subst hk;rw [St.Nc] at hb;cases hb
 ·rw [St.Ss st l k fr e xs hk] at hb
  cases h0:Av st.heap k with
  |none=>rw [h0] at hb;cases hb
  |some b0=>
   rw [h0] at hb
   simp only [An,Aa] at hb
   exact ⟨Hg π none hk,b0,_,rfl,hb.symm⟩
theorem Ls.Jp (st:St) (l:Nat) (v:Ty) (m:ByteArray->Option v.den):Ls π (Xo π l none) st.heap (st.Jp l v m).heap:= λk b hb=>by
 by_cases hk:k=l
 ·subst hk;rw [St.Ts] at hb;cases hb
 ·rw [St.Rx st l k v m hk] at hb
  cases h0:Av st.heap k with
  |none=>rw [h0] at hb;cases hb
  |some b0=>
   rw [h0] at hb
   simp only [An,Aa] at hb
   exact ⟨Hg π none hk,b0,_,rfl,hb.symm⟩
theorem Ls.gone {π':Pi} {H':List (Nat×OB)} (k:Ls π π' H H') {l:Nat} (h:Av H l=none):Av H' l=none:=by
 cases hb:Av H' l with
 |none=>rfl
 |some b=>
  obtain ⟨_,b0,f,h1,_⟩:=k l b hb
  rw [h] at h1;cases h1
def Eb (st:St):AC->AC
 | .own l off len=>match st.at l with
  |some (.arr fr _ e _ xs)=> .data fr (.slice e) ((xs.drop off).take len)
  |some (.Hs e _ xs)=> .data false (.slice e) ((xs.drop off).take len)
  |_=> .own l off len
 | .Lk l=>match st.at l with
  |some (.Wi v m)=> .data false (.smap v) m
  |_=> .Lk l
 |c=>c
theorem Tx {st:St} {c:AC} (h:c.settled=true):Eb st c=c:=by
 cases c<;>simp [AC.settled] at h<;>rfl
theorem wQ {st st':St} {f:AC->AC} {l:Nat} (hH: ∀m,m≠l->Av st'.heap m=(Av st.heap m).map (OB.map f)) {c:AC} (hc: ∀k∈c.refs,k≠l):Eb st' c=Eb st c:=by
 cases c with
 |own k off len=>
  have hk:k≠l:=hc k (by simp [AC.refs])
  simp only [Eb,St.at,hH k hk]
  cases Av st.heap k with
  |none=>rfl
  |some b=>cases b<;>rfl
 |Lk k=>
  have hk:k≠l:=hc k (by simp [AC.refs])
  simp only [Eb,St.at,hH k hk]
  cases Av st.heap k with
  |none=>rfl
  |some b=>cases b<;>rfl
 |_=>rfl
theorem hJ {a:Act} : ∀(n:Nat) (st:St) (π:Pi) (cs:List AC) (us:List Value) (iX:List AC) (st':St),Bh X π st a w->Gv X w π st.heap cs us->
  Ir n st cs=some (iX,st')-> ∃π',Bh X π' st' a w/\Gv X w π' st'.heap iX us/\iX.all (·.settled)=true/\Ls π π' st.heap st'.heap/\iX=cs.map (Eb st)/\
   (∀k,k∈cs.flatMap AC.refs->Av st'.heap k=none)
 |0,st,π,cs,us,iX,st',h,hr,he=>by
  simp only [Ir] at he
  split at he
  ·rename_i hs
   simp only [Aa,Af] at he
   obtain ⟨rfl,rfl⟩:=he
   have xP:=Bc.1 hs
   exact ⟨π,h,hr,hs,Ls.refl _ _,((Ft λc hc=>Tx (xP c hc)).trans (List.map_id'' (λ_=>rfl) cs)).symm,λk hk=>by
    obtain ⟨c,hc,DS⟩:=Gy.1 hk
    have:=xP c hc
    cases c<;>simp [AC.settled] at this<;>simp [AC.refs] at DS⟩
  ·cases he
 |n+1,st,π,cs,us,iX,st',h,hr,he=>by
  simp only [Ir] at he
  have step: ∀(f:AC->AC) (l:Nat) (st1:St),Bh X (Xo π l none) st1 a w->Move X w w π (Xo π l none) st.heap st1.heap f->Av st1.heap l=none->(∀m,m≠l->Av st1.heap m=(Av st.heap m).map (OB.map f))->
    Ls π (Xo π l none) st.heap st1.heap->(∀c∈cs,(∀k∈c.refs,k≠l)->f c=c)->(∀c∈cs,l∈c.refs->(f c).refs= []/\(Eb st1 (f c)).settled=true->f c=Eb st c)->
    (∀c∈cs,l∈c.refs->(f c).refs= [])->Ir n st1 (cs.map f)=some (iX,st')->
    ∃π',Bh X π' st' a w/\Gv X w π' st'.heap iX us/\iX.all (·.settled)=true/\Ls π π' st.heap st'.heap/\iX=cs.map (Eb st)/\(∀k,k∈cs.flatMap AC.refs->Av st'.heap k=none):=by
   intro f l st1 h1 m hl hH hK hf0 hf1 hf2 he
   obtain ⟨π',h2,h3,h4,h5,h6,h7⟩:=hJ n st1 _ (cs.map f) us iX st' h1 (m.acs hr) he
   refine ⟨π',h2,h3,h4,hK.trans h5,?_,λk hk=>?_⟩
   ·rw [h6,List.map_map]
    refine Ft λc hc=>?_
    simp only [Function.comp]
    by_cases Ri:l∈c.refs
    ·have Le:=Bc.1 h4
     have tR:Eb st1 (f c)∈iX:=by rw [h6];exact Bf.2 ⟨f c,Bf.2 ⟨c,hc,rfl⟩,rfl⟩
     have hs:=Le _ tR
     have h8:=hf1 c hc Ri ⟨hf2 c hc Ri,hs⟩
     have h9:Eb st1 (f c)=f c:=by
      have:=hf2 c hc Ri
      cases hfc:f c<;>rw [hfc] at this<;>first|(simp [AC.refs] at this;done)|rfl
     rw [h9,h8]
    ·have Jd: ∀k∈c.refs,k≠l:= λk hk e=>Ri (e▸hk)
     rw [hf0 c hc Jd]
     exact wQ hH Jd
   ·obtain ⟨c,hc,DS⟩:=Gy.1 hk
    by_cases Pf:k=l
    ·subst Pf;exact h5.gone hl
    ·by_cases Ri:l∈c.refs
     ·
      have Le:=Bc.1 h4
      have tR:Eb st1 (f c)∈iX:=by rw [h6];exact Bf.2 ⟨f c,Bf.2 ⟨c,hc,rfl⟩,rfl⟩
      have hs:=Le _ tR
      have h8:=hf1 c hc Ri ⟨hf2 c hc Ri,hs⟩
      have h9:Eb st1 (f c)=f c:=by
       have:=hf2 c hc Ri
       cases hfc:f c<;>rw [hfc] at this<;>first|(simp [AC.refs] at this;done)|rfl
      rw [h9,h8] at hs
      cases c with
      |clo g Ev=>simp [Eb,AC.settled] at hs
      |own k' _ _=>simp [AC.refs] at Ri DS;exact absurd (DS.trans Ri.symm) Pf
      |Lk k'=>simp [AC.refs] at Ri DS;exact absurd (DS.trans Ri.symm) Pf
      |Ii k' _=>simp [AC.refs] at Ri DS;exact absurd (DS.trans Ri.symm) Pf
      |Ld k' _=>simp [AC.refs] at Ri DS;exact absurd (DS.trans Ri.symm) Pf
      |sub k' _ _=>simp [AC.refs] at Ri DS;exact absurd (DS.trans Ri.symm) Pf
      |Ky k' _ _=>simp [AC.refs] at Ri DS;exact absurd (DS.trans Ri.symm) Pf
      |_=>simp [AC.refs] at DS
     ·have Jd: ∀k∈c.refs,k≠l:= λk hk e=>Ri (e▸hk)
      exact h7 k (Gy.2 ⟨f c,Bf.2 ⟨c,hc,rfl⟩,by rw [hf0 c hc Jd];exact DS⟩)
  have DT: ∀(st1:St) (c:AC),(Eb st1 c).settled=true->c≠ .undef:= λst1 c hs e=>by rw [e] at hs;simp [Eb,AC.settled] at hs
  split at he
  ·rename_i hf
   simp only [Aa,Af] at he
   obtain ⟨rfl,rfl⟩:=he
   have xP: ∀c∈cs,c.settled=true:= λc hc=>by have:=List.find?_eq_none.1 hf c hc;simpa using this
   exact ⟨π,h,hr,Bc.2 xP,Ls.refl _ _,((Ft λc hc=>Tx (xP c hc)).trans (List.map_id'' (λ_=>rfl) cs)).symm,λk hk=>by
    obtain ⟨c,hc,DS⟩:=Gy.1 hk
    have:=xP c hc
    cases c<;>simp [AC.settled] at this<;>simp [AC.refs] at DS⟩
  ·rename_i l off len hf
   split at he
   ·rename_i fr tr e tid xs hl
    unfold St.at at hl
    obtain ⟨h1,m⟩:=h.freeze (fr:=fr) (.inl ⟨tr,tid,hl⟩)
    refine step _ l _ h1 m (St.Nc st l fr e xs) (λm hm=>St.Ss st l m fr e xs hm) (Ls.freeze st l fr e xs) (λc _ hc=>jd hc) (λc _ Ri hs=>?_) (λc _ Ri=>?_) he
    ·cases c with
     |own k o n=>have:k=l:=(Ad.1 Ri).symm
                 subst this;simp only [Da,Ab,Eb,St.at,hl]
     |Ii k o=>have:k=l:=(Ad.1 Ri).symm
              subst this;simp only [Da,Ab] at hs;exact absurd rfl (DT _ _ hs.2)
     |Ld k o=>have:k=l:=(Ad.1 Ri).symm
              subst this;simp only [Da,Ab] at hs;exact absurd rfl (DT _ _ hs.2)
     |sub k o o2=>have:k=l:=(Ad.1 Ri).symm
                  subst this;simp only [Da,Ab] at hs;exact absurd rfl (DT _ _ hs.2)
     |Ky k o o2=>have:k=l:=(Ad.1 Ri).symm
                 subst this;simp only [Da,Ab] at hs;exact absurd rfl (DT _ _ hs.2)
     |Lk k=>have:k=l:=(Ad.1 Ri).symm
            subst this;simp only [Da,Ab] at hs;exact absurd rfl (DT _ _ hs.2)
     |clo g Ev=>
      simp only [Da] at hs
      rw [Ab (by simpa [AC.refs] using Ri)] at hs
      exact absurd rfl (DT _ _ hs.2)
     |_=>simp [AC.refs] at Ri
    ·cases c with
     |own k o n=>have:k=l:=(Ad.1 Ri).symm
                 subst this;simp only [Da,Ab];rfl
     |Ii k o=>have:k=l:=(Ad.1 Ri).symm
              subst this;simp only [Da,Ab];rfl
     |Ld k o=>have:k=l:=(Ad.1 Ri).symm
              subst this;simp only [Da,Ab];rfl
     |sub k o o2=>have:k=l:=(Ad.1 Ri).symm
                  subst this;simp only [Da,Ab];rfl
     |Ky k o o2=>have:k=l:=(Ad.1 Ri).symm
                 subst this;simp only [Da,Ab];rfl
     |Lk k=>have:k=l:=(Ad.1 Ri).symm
            subst this;simp only [Da,Ab];rfl
     |clo g Ev=>simp only [Da];rw [Ab (by simpa [AC.refs] using Ri)];rfl
     |_=>simp [AC.refs] at Ri
   ·rename_i e tid xs hl
    unfold St.at at hl
    obtain ⟨h1,m⟩:=h.freeze (fr:=false) (.inr ⟨rfl,tid,hl⟩)
    refine step _ l _ h1 m (St.Nc st l false e xs) (λm hm=>St.Ss st l m false e xs hm) (Ls.freeze st l false e xs) (λc _ hc=>jd hc) (λc _ Ri hs=>?_) (λc _ Ri=>?_) he
    ·cases c with
     |own k o n=>have:k=l:=(Ad.1 Ri).symm
                 subst this;simp only [Da,Ab,Eb,St.at,hl]
     |Ii k o=>have:k=l:=(Ad.1 Ri).symm
              subst this;simp only [Da,Ab] at hs;exact absurd rfl (DT _ _ hs.2)
     |Ld k o=>have:k=l:=(Ad.1 Ri).symm
              subst this;simp only [Da,Ab] at hs;exact absurd rfl (DT _ _ hs.2)
     |sub k o o2=>have:k=l:=(Ad.1 Ri).symm
                  subst this;simp only [Da,Ab] at hs;exact absurd rfl (DT _ _ hs.2)
     |Ky k o o2=>have:k=l:=(Ad.1 Ri).symm
                 subst this;simp only [Da,Ab] at hs;exact absurd rfl (DT _ _ hs.2)
     |Lk k=>have:k=l:=(Ad.1 Ri).symm
            subst this;simp only [Da,Ab] at hs;exact absurd rfl (DT _ _ hs.2)
     |clo g Ev=>
      simp only [Da] at hs
      rw [Ab (by simpa [AC.refs] using Ri)] at hs
      exact absurd rfl (DT _ _ hs.2)
     |_=>simp [AC.refs] at Ri
    ·cases c with
     |own k o n=>have:k=l:=(Ad.1 Ri).symm
                 subst this;simp only [Da,Ab];rfl
     |Ii k o=>have:k=l:=(Ad.1 Ri).symm
              subst this;simp only [Da,Ab];rfl
     |Ld k o=>have:k=l:=(Ad.1 Ri).symm
              subst this;simp only [Da,Ab];rfl
     |sub k o o2=>have:k=l:=(Ad.1 Ri).symm
                  subst this;simp only [Da,Ab];rfl
     |Ky k o o2=>have:k=l:=(Ad.1 Ri).symm
                 subst this;simp only [Da,Ab];rfl
     |Lk k=>have:k=l:=(Ad.1 Ri).symm
            subst this;simp only [Da,Ab];rfl
     |clo g Ev=>simp only [Da];rw [Ab (by simpa [AC.refs] using Ri)];rfl
     |_=>simp [AC.refs] at Ri
   ·cases he
  ·rename_i l hf
   split at he
   ·rename_i v mm hl
    unfold St.at at hl
    obtain ⟨h1,m⟩:=h.Jp hl
    refine step _ l _ h1 m (St.Ts st l v mm) (λm hm=>St.Rx st l m v mm hm) (Ls.Jp st l v mm) (λc _ hc=>tt hc) (λc _ Ri hs=>?_) (λc _ Ri=>?_) he
    ·cases c with
     |Lk k=>have:k=l:=(Ad.1 Ri).symm
            subst this;simp only [Hx,Ab,Eb,St.at,hl]
     |Ii k o=>have:k=l:=(Ad.1 Ri).symm
              subst this;simp only [Hx,Ab] at hs;exact absurd rfl (DT _ _ hs.2)
     |Ld k o=>have:k=l:=(Ad.1 Ri).symm
              subst this;simp only [Hx,Ab] at hs;exact absurd rfl (DT _ _ hs.2)
     |sub k o o2=>have:k=l:=(Ad.1 Ri).symm
                  subst this;simp only [Hx,Ab] at hs;exact absurd rfl (DT _ _ hs.2)
     |Ky k o o2=>have:k=l:=(Ad.1 Ri).symm
                 subst this;simp only [Hx,Ab] at hs;exact absurd rfl (DT _ _ hs.2)
     |own k o n=>have:k=l:=(Ad.1 Ri).symm
                 subst this;simp only [Hx,Ab] at hs;exact absurd rfl (DT _ _ hs.2)
     |clo g Ev=>
      simp only [Hx] at hs
      rw [Ab (by simpa [AC.refs] using Ri)] at hs
      exact absurd rfl (DT _ _ hs.2)
     |_=>simp [AC.refs] at Ri
    ·cases c with
     |own k o n=>have:k=l:=(Ad.1 Ri).symm
                 subst this;simp only [Hx,Ab];rfl
     |Ii k o=>have:k=l:=(Ad.1 Ri).symm
              subst this;simp only [Hx,Ab];rfl
     |Ld k o=>have:k=l:=(Ad.1 Ri).symm
              subst this;simp only [Hx,Ab];rfl
     |sub k o o2=>have:k=l:=(Ad.1 Ri).symm
                  subst this;simp only [Hx,Ab];rfl
     |Ky k o o2=>have:k=l:=(Ad.1 Ri).symm
                 subst this;simp only [Hx,Ab];rfl
     |Lk k=>have:k=l:=(Ad.1 Ri).symm
            subst this;simp only [Hx,Ab];rfl
     |clo g Ev=>simp only [Hx];rw [Ab (by simpa [AC.refs] using Ri)];rfl
     |_=>simp [AC.refs] at Ri
   ·cases he
  ·cases he
def iE (X:Ctx) (w:World) (π:Pi) (F:List Nat):Prop:=F.Nodup/\ ∀b∈F,(X.w0.heap.size<=b\/X.gv b)/\b<w.heap.size/\ ∀l r,π l=some r-> ¬r.cl b
theorem Yp {S:Nat->Prop} : ∀(e:Ty) (es:List Value) (x:e.den),e.flat=true->Cells w S e es x->Di w [] e es x
 | .int k,cs,n,_,h=>⟨rfl,h⟩
 | .bool,cs,n,_,h=>⟨rfl,h⟩
 | .str,cs,n,_,h=>⟨rfl,h⟩
 | .unit,cs,n,_,h=>⟨rfl,h⟩
 | .pair a r,cs,x,hf,h=>by
  simp only [Ty.flat,Ah] at hf
  simp only [Cells] at h
  simp only [Di]
  obtain ⟨c1,c2,h1,h2,h3⟩:=h
  exact ⟨c1,c2,[],[],h1,rfl,Yp a c1 x.1 hf.1 h2,Yp r c2 x.2 hf.2 h3⟩
 | .slice _,_,_,hf,_=>by simp [Ty.flat] at hf
 | .oslice _,_,_,hf,_=>by simp [Ty.flat] at hf
 | .ptr _,_,_,hf,_=>by simp [Ty.flat] at hf
 | .optr _,_,_,hf,_=>by simp [Ty.flat] at hf
 | .smap _,_,_,hf,_=>by simp [Ty.flat] at hf
 | .clo _ _,_,_,hf,_=>by simp [Ty.flat] at hf
theorem Te {Fs:List (List Nat)} (off len:Nat) (b:Nat) (h:b∈List.flatten ((Fs.drop off).take len)):b∈List.flatten Fs:=by
 obtain ⟨F,hF,hb⟩:=Ip.1 h
 exact Ip.2 ⟨F,dU (De hF),hb⟩
theorem hZ {α:Type} {a b:List (List α)} (h:a.Sublist b):(List.flatten a).Sublist (List.flatten b):=by
 induction h with
 |slnil=>exact List.Sublist.refl _
 |cons c _ ih=>simp only [Mb];exact ih.trans (List.sublist_append_right _ _)
 |cons_cons c _ ih=>simp only [Mb];exact List.Sublist.append (List.Sublist.refl _) ih
theorem mC {Fs:List (List Nat)} (off len:Nat) (h:(List.flatten Fs).Nodup):(List.flatten ((Fs.drop off).take len)).Nodup:=by
 have h1:((Fs.drop off).take len).Sublist Fs:=(List.take_sublist len _).trans (List.drop_sublist off Fs)
 exact h.sublist (hZ h1)
theorem kS {P:Nat->Prop} {r:Real} {off len:Nat} {v:Value} {e:Ty} {tid:TypeId} {xs:List e.den} {cur:Array Value} (h2:w.heap[r.g]?=some (.cells cur tid (0,0))) (aN:cur.size=(r.o+r.cap)*e.size) (tE:r.cap<=maxLen)
  (hlen:off+len<=xs.length) (hv:Ib (some r) e.size off len v) (ht:Ye w P r.g r.o cur e xs) (hg:P r.g):
  ∃F,Di w F (.slice e) [v] ((xs.drop off).take len)/\F.Nodup/\ ∀b∈F,P b:=by
 have hll:((xs.drop off).take len).length=len:=by simp;omega
 obtain ⟨ad,rfl,hc,ha⟩:=hv
 obtain ⟨Fs,t1,t2,t3,t4⟩:=ht
 ·refine ⟨r.g::List.flatten ((Fs.drop off).take len),⟨some ad,len,r.cap-off,rfl,hll.symm,by omega, .inr ⟨ad,r.g,(r.o+off)*e.size,_,rfl,λh0=>ha (by omega),⟨cur,tid,r.o+off,h2,rfl,by rw [aN];congr 1;omega,by omega⟩,rfl,by simp;omega,λi x F hx hF=>?_⟩⟩,?_,λb hb=>?_⟩
  ·have hi:i<len:=by
    have:=(Ao.1 hx).1
    rw [hll] at this;exact this
   have MK:xs[off+i]?=some x:=by rw [Cv,Ab hi,Cz] at hx;exact hx
   have hF':Fs[off+i]?=some F:=by rw [Cv,Ab hi,Cz] at hF;exact hF
   obtain ⟨es,he,hj,tF⟩:=t4 (off+i) x F MK hF'
   refine ⟨es,he,λj u hu=>?_,tF⟩
   rw [cellOf h2]
   have:=hj j u hu
   rw [<-this]
   congr 1
   rw [<-Hp,Dq (r.o+off) i]
  ·have:=Cg.1 t2
   exact Cg.2 ⟨λhm=>this.1 (Te off len _ hm),mC off len this.2⟩
  ·rcases Bb.1 hb with rfl|hb
   ·exact hg
   ·exact t3 b (Te off len b hb)
theorem oV {st:St} (h:Nw X w π st.heap) {c:AC} {v:Value} (hc:Iq X w π st.heap c v) (ht:Sz st c=true) (τ:Ty) (fr:Bool) (x:τ.den) (Um:τ.Ar=false) (UK:τ.tree=true)
  (hv:Ec st τ (Eb st c)=some (fr,x)): ∃F,Di w F τ [v] x/\F.Nodup/\ ∀b∈F,∃l r,l∈c.refs/\π l=some r/\r.cl b:=by
 cases c with
 |data Wt Pj y=>
  simp only [Sz] at ht
  simp only [Eb,Oy] at hv
  split at hv
  ·rename_i he;subst he
   simp only [Aa,Af] at hv
   obtain ⟨_,rfl⟩:=hv
   exact ⟨[],Yp Pj _ _ ht (Dg.Sx Um hc),Ob,λb hb=>by cases hb⟩
  ·unfold iW at hv
   split at hv
   ·simp [Ty.flat] at ht
   ·simp [Ty.flat] at ht
   ·cases hv
 |Mx=>
  have hc:v= .slice none 0 0:=hc
  subst hc
  cases τ with
  |slice e=>
   simp only [Eb,Ec,Aa,Af] at hv
   obtain ⟨_,rfl⟩:=hv
   exact ⟨[],⟨none,0,0,rfl,rfl,Aq _, .inl ⟨rfl,rfl,rfl,rfl⟩⟩,Ob,λb hb=>by cases hb⟩
  |oslice e=>simp [Ty.tree] at UK
  |_=>simp [Eb,Ec] at hv
 |own l off len=>
  simp only [Sz] at ht
  split at ht
  ·rename_i Wt tr e tid xs hl
   have Lq:=hl
   unfold St.at at hl
   simp only [Eb,Lq,Oy] at hv
   split at hv
   ·rename_i he;subst he
    simp only [Aa,Af] at hv
    obtain ⟨_,rfl⟩:=hv
    obtain ⟨h2,h3⟩:=Po hc hl
    have hb:=(h.heap l).Sl hl
    simp only [Cl,Kz] at hb
    cases hp:π l with
    |none=>
     rw [hp] at h3
     obtain ⟨rfl,rfl,rfl⟩:=h3
     exact ⟨[],⟨none,0,0,rfl,by simp,Aq _, .inl ⟨by simp,rfl,rfl,rfl⟩⟩,Ob,λb hb=>by cases hb⟩
    |some r=>
     rw [hp] at hb h3
     obtain ⟨k1,cur,_,k2,k3,k4,k5,k6,k7⟩:=hb
     have SG:Ye w r.cl r.g r.o cur e xs:=by
      simp only [Lh] at ht
      rcases ht with ht|ht
      ·exact k7 ht
      ·refine ⟨List.replicate xs.length [],by simp,by simp,by simp,λi x F hx hF=>?_⟩
       obtain ⟨es,e1,e2,e3⟩:=k6 i x hx
       have:F= []:=by
        have:=Cn hF
        exact Gr this
       subst this
       exact ⟨es,e1,e2,Yp e es x ht e3⟩
     obtain ⟨F,f1,f2,f3⟩:=kS k2 k3 k4 h2 h3 SG (h.sub l r _ hp k1.1)
     exact ⟨F,f1,f2,λb hb=>⟨l,r,by simp [AC.refs],hp,f3 b hb⟩⟩
   ·cases τ<;>simp [iW] at hv
  ·rename_i e tid xs hl
   have Lq:=hl
   unfold St.at at hl
   simp only [Eb,Lq,Oy] at hv
   split at hv
   ·rename_i he;subst he
    simp only [Aa,Af] at hv
    obtain ⟨_,rfl⟩:=hv
    obtain ⟨h2,h3⟩:=ct hc hl
    have hb:=(h.heap l).Sl hl
    simp only [Cl,Pb] at hb
    cases hp:π l with
    |none=>
     rw [hp] at h3
     obtain ⟨rfl,rfl,rfl⟩:=h3
     exact ⟨[],⟨none,0,0,rfl,by simp,Aq _, .inl ⟨by simp,rfl,rfl,rfl⟩⟩,Ob,λb hb=>by cases hb⟩
    |some r=>
     rw [hp] at hb h3
     obtain ⟨k1,cur,_,k2,k3,k4,k5,k7⟩:=hb
     obtain ⟨F,f1,f2,f3⟩:=kS k2 k3 k4 h2 h3 k7 k1
     exact ⟨F,f1,f2,λb hb=>⟨l,r,by simp [AC.refs],hp,h.sub l r b hp (f3 b hb)⟩⟩
   ·cases τ<;>simp [iW] at hv
  ·cases ht
 |_=>simp [Sz] at ht
theorem Yv: ∀ {l:List Nat},aD l=true->l.Nodup
 | [],_=>Ob
 |a::r,h=>by
  simp only [aD,Ah,Fm,List.contains_eq_mem,decide_eq_false_iff_not] at h
  exact Cg.2 ⟨h.1,Yv h.2⟩
theorem bn {st st':St} {τ:Ty} {c:AC} (h:c.settled=true):Ec st' τ c=Ec st τ c:=by
 cases c<;>simp [AC.settled] at h<;>cases τ<;>rfl
theorem x6 {st st':St} (h:Nw X w π st.heap): ∀(τ:Ty) (cs:List AC) (us:List Value) (fr:Bool) (x:τ.den),Gv X w π st.heap cs us->cs.all (Sz st)=true->(cs.flatMap AC.refs).Nodup->
  (cs.map (Eb st)).all (·.settled)=true->τ.tree=true->Ge st' τ (cs.map (Eb st))=some (fr,x)-> ∃F,Di w F τ us x/\F.Nodup/\ ∀b∈F,∃l r,l∈cs.flatMap AC.refs/\π l=some r/\r.cl b:=by
 have one: ∀(τ:Ty) (cs:List AC) (us:List Value) (fr:Bool) (x:τ.den),τ.Ar=false->Gv X w π st.heap cs us->cs.all (Sz st)=true->
   (cs.map (Eb st)).all (·.settled)=true->τ.tree=true->Ge st' τ (cs.map (Eb st))=some (fr,x)-> ∃F,Di w F τ us x/\F.Nodup/\ ∀b∈F,∃l r,l∈cs.flatMap AC.refs/\π l=some r/\r.cl b:=by
  intro τ cs us fr x Um hr ht hs Wm hv
  rw [Uq Um] at hv
  rcases cs with _|⟨c,_|⟨d,cs⟩⟩
  ·cases hv
  ·simp only [Bz,List.map_nil] at hv
   obtain ⟨u,hu,_,hc⟩:=hr.2 0 c rfl
   have hl:us.length=1:=hr.1
   obtain ⟨u',rfl⟩:=En.1 hl
   simp at hu;subst hu
   rw [bn (st:=st) (by simpa using hs)] at hv
   obtain ⟨F,f1,f2,f3⟩:=oV h hc (by simpa using ht) τ fr x Um Wm hv
   exact ⟨F,f1,f2,λb hb=>by obtain ⟨l,r,g1,g2⟩:=f3 b hb;exact ⟨l,r,by simpa using g1,g2⟩⟩
  ·cases hv
 intro τ
 induction τ with
 |unit=>
  intro cs us fr x hr ht hd hs Wm hv
  cases cs with
  |nil=>have:us= []:=Cm hr.1;subst this;exact ⟨[],⟨rfl,rfl⟩,Ob,λb hb=>by cases hb⟩
  |cons c cs=>simp [Ge] at hv
 |pair a r iC iw=>
  intro cs us fr x hr ht hd hs Wm hv
  simp only [Ty.tree,Ah] at Wm
  simp only [Ge] at hv
  split at hv
  ·rename_i f1 y f2 z h1 h2
   simp only [Aa,Af] at hv
   obtain ⟨rfl,rfl⟩:=hv
   have hr1:Gv X w π st.heap (cs.take a.size) (us.take a.size):=by have:=an hr 0 a.size;simpa using this
   have hr2:Gv X w π st.heap (cs.drop a.size) (us.drop a.size):=
    ⟨by simp [hr.1],λi c hc=>by
     rw [Cz] at hc⊢
     exact hr.2 _ c hc⟩
   have Aqi: ∀ {p:AC->Bool} {l:List AC} (n:Nat),l.all p=true->(l.take n).all p=true:= λn hl=>Bc.2 λc hc=>Bc.1 hl c (De hc)
   have Aqj: ∀ {p:AC->Bool} {l:List AC} (n:Nat),l.all p=true->(l.drop n).all p=true:= λn hl=>Bc.2 λc hc=>Bc.1 hl c (dU hc)
   have hdd:((cs.take a.size++cs.drop a.size).flatMap AC.refs).Nodup:=by rw [Jc];exact hd
   rw [List.flatMap_append] at hdd
   obtain ⟨d1,d2,d3⟩:=Ef.1 hdd
   rw [<-List.map_take] at h1
   rw [<-List.map_drop] at h2
   obtain ⟨F1,t1,n1,c1⟩:=iC _ _ f1 y hr1 (Aqi _ ht) d1 (by rw [List.map_take];exact Aqi _ hs) Wm.1 h1
   obtain ⟨F2,t2,n2,c2⟩:=iw _ _ f2 z hr2 (Aqj _ ht) d2 (by rw [List.map_drop];exact Aqj _ hs) Wm.2 h2
   refine ⟨F1++F2,⟨us.take a.size,us.drop a.size,F1,F2,(Jc _ _).symm,rfl,t1,t2⟩,Ef.2 ⟨n1,n2,λb hb b' vT e=>?_⟩,λb hb=>?_⟩
   ·subst e
    obtain ⟨l1,r1,g1,g2,g3⟩:=c1 b hb
    obtain ⟨l2,r2,g4,g5,g6⟩:=c2 b vT
    exact d3 l1 g1 l2 g4 (h.inj l1 l2 r1 r2 b g2 g5 g3 g6)
   ·have Le: ∀l,(l∈(cs.take a.size).flatMap AC.refs\/l∈(cs.drop a.size).flatMap AC.refs)->l∈cs.flatMap AC.refs:= λl hl=>by
     rw [<-Ba,<-List.flatMap_append,Jc] at hl;exact hl
    rcases Ba.1 hb with hb|hb
    ·obtain ⟨l1,r1,g1,g2⟩:=c1 b hb;exact ⟨l1,r1,Le l1 (.inl g1),g2⟩
    ·obtain ⟨l1,r1,g1,g2⟩:=c2 b hb;exact ⟨l1,r1,Le l1 (.inr g1),g2⟩
  ·cases hv
 |_=>exact λcs us fr x hr ht _ hs Wm hv=>one _ cs us fr x rfl hr ht hs Wm hv
theorem RL {π':Pi} {st st':St} {a:Act} (h:Bh X π st a w) (h':Bh X π' st' a w) (k:Ls π π' st.heap st'.heap) {ls:List Nat} (hg: ∀l∈ls,Av st'.heap l=none) {F:List Nat} (hF:F.Nodup)
  (hc: ∀b∈F,∃l r,l∈ls/\π l=some r/\r.cl b):iE X w π' F:=by
 refine ⟨hF,λb hb=>?_⟩
 obtain ⟨l,r,h1,h2,h3⟩:=hc b hb
 have hp:=h.1.place l r b h2 h3
 refine ⟨hp.1,hp.2,λl2 r2 h4 h5=>?_⟩
 cases hh:Av st'.heap l2 with
 |none=>rw [(h'.1.heap l2).emp hh] at h4;cases h4
 |some b'=>
  have h6:=(k l2 b' hh).1
  rw [h6] at h4
  have:=h.1.inj l l2 r r2 b h2 h4 h3 h5
  subst this
  rw [hg l h1] at hh;cases hh
theorem cy {st:St} {a:Act} (h:Bh X π st a w) {c:AV} {v:Value} (hc:Bs X w π st.heap c v) {c':AV} {st':St} (he:settle st c=some (c',st')):
  ∃π',Bh X π' st' a w/\Bs X w π' st'.heap c' v/\c'.settled=true/\Ls π π' st.heap st'.heap/\
   (Ua st c=true-> ∀(τ:Ty) (fr:Bool) (x:τ.den),τ.tree=true->Gt st' τ c'=some (fr,x)-> ∃F us,Di w F τ us x/\v=Ce τ us/\iE X w π' F/\ ∀b∈F,∃l r,π l=some r/\r.cl b):=by
 have cell: ∀(a0:AC) (st':St) (π':Pi),Iq X w π st.heap a0 v->Bh X π' st' a w->(Eb st a0).settled=true->Ls π π' st.heap st'.heap->(∀l∈a0.refs,Av st'.heap l=none)->
   Sz st a0=true-> ∀(τ:Ty) (fr:Bool) (x:τ.den),τ.tree=true->Gt st' τ (.at (Eb st a0))=some (fr,x)-> ∃F us,Di w F τ us x/\v=Ce τ us/\iE X w π' F/\ ∀b∈F,∃l r,π l=some r/\r.cl b:=by
  intro a0 st1 cG hr h1 hs hk hg ht τ fr x Wm hv
  by_cases Um:τ.Ar=true
  ·
   cases FZ:Eb st a0 with
   |data Wt Pj y=>
    rw [FZ,dw] at hv
    split at hv
    ·rename_i het;subst het
     simp only [Aa,Af] at hv
     obtain ⟨_,rfl⟩:=hv
     cases a0 with
     |data sk τ2 z=>
      simp only [Eb,AC.data.injEq] at FZ
      obtain ⟨rfl,rfl,hz⟩:=FZ
      have hz:=eq_of_heq hz
      subst hz
      obtain ⟨cs,tF,rfl⟩:=hr
      exact ⟨[],cs,Yp _ cs _ ht tF,rfl,⟨Ob,λb hb=>by cases hb⟩,λb hb=>by cases hb⟩
     |own l off len=>
      simp only [Eb] at FZ
      split at FZ
      ·simp only [AC.data.injEq] at FZ;obtain ⟨_,h2,_⟩:=FZ;subst h2;simp [Ty.Ar] at Um
      ·simp only [AC.data.injEq] at FZ;obtain ⟨_,h2,_⟩:=FZ;subst h2;simp [Ty.Ar] at Um
      ·cases FZ
     |Lk l=>simp [Sz] at ht
     |_=>simp [Eb] at FZ
    ·cases hv
   |_=>rw [FZ] at hv;simp only [Gt,Um,Pl] at hv;cases hv
  ·simp only [Fc] at Um
   have tV:Ec st τ (Eb st a0)=some (fr,x):=by
    rw [<-bn (st:=st) (st':=st1) hs]
    cases FZ:Eb st a0 with
    |data Wt Pj y=>
     rw [FZ,dw] at hv
     rw [Oy]
     split at hv
     ·rename_i het;rw [Jw het];exact hv
     ·rename_i het
      rw [dif_neg het]
      simp only [Um,Dh,Si,DB,Oy] at hv
      rw [dif_neg het] at hv
      exact hv
    |Mx=>rw [FZ] at hv;simp only [Gt,Um,Dh,Si] at hv;rw [Rg rfl] at hv;exact hv
    |Wh=>rw [FZ] at hv;simp only [Gt,Um,Dh,Si] at hv;rw [Rg rfl] at hv;exact hv
    |_=>rw [FZ] at hs;simp [AC.settled] at hs
   obtain ⟨F,f1,f2,f3⟩:=oV h.1 hr ht τ fr x Um Wm tV
   exact ⟨F,[v],f1,by simp [Ce,Um],RL h h1 hk hg f2 f3,λb hb=>let ⟨l,r,_,q⟩:=f3 b hb;⟨l,r,q⟩⟩
 unfold settle at he
 split at he
 ·rename_i l off len
  split at he
  ·rename_i fr tr e tid xs hl
   simp only [Aa,Af] at he
   obtain ⟨rfl,rfl⟩:=he
   obtain ⟨h1,m⟩:=h.freeze (fr:=fr) (.inl ⟨tr,tid,hl⟩)
   have:=m.ac (.own l off len) v hc
   simp only [Da,Pl] at this
   have ca:Eb st (.own l off len)= .data fr (.slice e) ((xs.drop off).take len):=by simp only [Eb,hl]
   refine ⟨_,h1,this,rfl,Ls.freeze st l fr e xs,λht=>?_⟩
   have:=cell (.own l off len) _ _ hc h1 (by rw [ca];rfl) (Ls.freeze st l fr e xs) (λk hk=>by rw [Ad.1 hk];exact St.Nc st l fr e xs) ht
   rw [ca] at this
   exact this
  ·rename_i e tid xs hl
   simp only [Aa,Af] at he
   obtain ⟨rfl,rfl⟩:=he
   obtain ⟨h1,m⟩:=h.freeze (fr:=false) (.inr ⟨rfl,tid,hl⟩)
   have:=m.ac (.own l off len) v hc
   simp only [Da,Pl] at this
   have ca:Eb st (.own l off len)= .data false (.slice e) ((xs.drop off).take len):=by simp only [Eb,hl]
   refine ⟨_,h1,this,rfl,Ls.freeze st l false e xs,λht=>?_⟩
   have:=cell (.own l off len) _ _ hc h1 (by rw [ca];rfl) (Ls.freeze st l false e xs) (λk hk=>by rw [Ad.1 hk];exact St.Nc st l false e xs) ht
   rw [ca] at this
   exact this
  ·cases he
 ·rename_i l
  split at he
  ·rename_i vt mm hl
   simp only [Aa,Af] at he
   obtain ⟨rfl,rfl⟩:=he
   obtain ⟨h1,m⟩:=h.Jp hl
   have:=m.ac (.Lk l) v hc
   simp only [Hx,Pl] at this
   exact ⟨_,h1,this,rfl,Ls.Jp st l vt mm,λht=>by simp [Ua,Sz] at ht⟩
  ·cases he
 ·rename_i a0 _ _
  split at he
  ·rename_i hs
   simp only [Aa,Af] at he
   obtain ⟨rfl,rfl⟩:=he
   refine ⟨π,h,hc,hs,Ls.refl _ _,λht=>?_⟩
   have ca:=Tx (st:=st) hs
   have:=cell a0 st π hc h (by rw [ca];exact hs) (Ls.refl _ _) (λk hk=>by
    cases a0<;>simp [AC.settled] at hs<;>simp [AC.refs] at hk) ht
   rw [ca] at this
   exact this
  ·cases he
 ·rename_i cs
  cases hsc:Ir cs.length st cs with
  |none=>rw [hsc] at he;cases he
  |some p=>
   rw [hsc] at he
   simp only [An,Aa,Af] at he
   obtain ⟨rfl,rfl⟩:=he
   obtain ⟨us,rfl,hr⟩:=hc
   obtain ⟨π',h2,h3,h4,h5,h6,h7⟩:=hJ cs.length st π cs us p.1 p.2 h hr hsc
   refine ⟨π',h2,⟨us,rfl,h3⟩,h4,h5,λht τ fr x Wm hv=>?_⟩
   simp only [Ua,Ah] at ht
   simp only [Gt] at hv
   split at hv
   ·rename_i Um
    rw [h6] at hv h4
    obtain ⟨F,f1,f2,f3⟩:=x6 h.1 τ cs us fr x hr ht.1 (Yv ht.2) h4 Wm hv
    exact ⟨F,us,f1,by simp [Ce,Um],RL h h2 h5 h7 f2 f3,λb hb=>let ⟨l,r,_,q⟩:=f3 b hb;⟨l,r,q⟩⟩
   ·cases hv
 ·simp only [Aa,Af] at he
  obtain ⟨rfl,rfl⟩:=he
  exact ⟨π,h,hc,rfl,Ls.refl _ _,λht=>by simp [Ua] at ht⟩
 ·cases he
theorem iN {o i j s p:Nat} (Jd:i≠j) (hp:p<s):(o+i)*s+p<(o+j)*s\/(o+j)*s+s<=(o+i)*s+p:=by
 rcases Nat.lt_or_gt_of_ne Jd with h|h
 ·left
  have:(o+i+1)*s<=(o+j)*s:=Fv _ (by omega)
  rw [Dq,Wk] at this
  omega
 ·right
  have:(o+j+1)*s<=(o+i)*s:=Fv _ (by omega)
  rw [Dq,Wk] at this
  omega
theorem Ja {α:Type} (l ys:List α) (i k:Nat) (h:i+ys.length<=l.length):(Dt l i ys)[k]?=if k<i then l[k]? else if k<i+ys.length then ys[k-i]? else l[k]?:=by
 unfold Dt
 have t1:(l.take i).length=i:=by simp;omega
 split
 ·rename_i hk
  rw [Bm,At (by omega),Cv,Ab hk]
 ·split
  ·rename_i hk
   rw [Bm,As (by omega),t1,At (by omega)]
  ·rw [As (by simp;omega),Cz]
   congr 1
   simp;omega
theorem Ju {α:Type} (l ys:List α) (i:Nat) (h:i+ys.length<=l.length):(Dt l i ys).length=l.length:=by
 unfold Dt;simp;omega
theorem CL (hT:Ep P T) {st:St} {a:Act} (h:Bh X π st a w) {t:TypeId} {e:Ty} (ht:T.ty t=some e) {l j:Nat} {r:Real} {vx:Value} {tid:TypeId} {fr Wt:Bool} {xs:List e.den} {x:e.den}
  (hp:π l=some r) {tr:Bool} (hl:Av st.heap l=some (.arr fr tr e tid xs)) (hj:j<xs.length) (hx:Dg w (Dc X.w0.heap.size X.Sc π Wt) e vx x):
  ∃w',(Instr.storeAt t (.pointer (some ⟨r.g,(r.o+j)*e.size,none⟩)) vx).run P w= .ok () w'/\Bh X π (st.Kx l (.arr (fr&&Wt) false e tid (xs.set j x))) a w':=by
 have hb:=(h.1.heap l).Sl hl
 simp only [Cl,Kz,hp] at hb
 obtain ⟨h1,cur,ti,h2,h3,h4,h5,h6,_⟩:=hb
 obtain ⟨es,ir,hv⟩:=hx
 have jg:=Cells.len e es x ir
 have Wx:(r.o+j)*e.size+es.length<=cur.size:=by
  have:(r.o+j+1)*e.size<=(r.o+r.cap)*e.size:=Fv _ (by omega)
  rw [Dq (r.o+j) 1,Wk] at this
  omega
 have a7:(r.o+j)*e.size+es.length<=cur.toList.length:=by simpa using Wx
 have Wg:=Xg (P:=P) (w:=w) (hT.ty _ _ ht) r.g ((r.o+j)*e.size) vx es (by rw [hv];exact Ly e es x ir) jg (Cells.plain e es x ir) cur ti h2 Wx
 refine ⟨_,by simp only [Instr.storeAt,Instr.sureAddr];simpa using Wg,?_⟩
 refine h.set hl (b:= .arr (fr&&Wt) false e tid (xs.set j x)) ⟨rfl,by simp⟩ (by rw [hp];exact Om w r.g _) λm=>?_
 simp only [Cl,Kz,hp]
 refine ⟨⟨h1.1,h1.2.1,λhf=>h1.2.2 (by simp only [Ah] at hf;exact hf.1)⟩,_,_,setRow_heap w r.g cur _ ti _ h2,by rw [Gz,Ju _ _ _ a7];simpa using h3,h4,by simpa using h5,λi y hy=>?_,λhf=>by cases hf⟩
 rw [Ex] at hy
 split at hy
 ·rename_i so;subst so
  simp only [Aa] at hy;subst hy
  refine ⟨es,jg,λk u hu=>?_,(m.cells Wt e es x ir).and_right⟩
  have hk:k<es.length:=(Ao.1 hu).1
  rw [Jb,Ja _ _ _ _ a7,Ai (by omega),Ab (by omega)]
  rw [show (r.o+j)*e.size+k-(r.o+j)*e.size=k by omega];exact hu
 ·rename_i so
  obtain ⟨nE,he',tK,xG⟩:=h6 i y hy
  refine ⟨nE,he',λk u hu=>?_,(m.cells fr e nE y xG).and_left⟩
  have hk:k<nE.length:=(Ao.1 hu).1
  have:=tK k u hu
  rw [Jb,Ja _ _ _ _ a7]
  rcases iN (o:=r.o) (i:=i) (j:=j) (s:=e.size) (p:=k) (Hv so) (by omega) with Me|wc
  ·rw [Ab Me];simpa using this
  ·rw [Ai (by omega),Ai (by omega)];simpa using this
theorem lA: ∀(Fs:List (List Nat)) (i:Nat) (F':List Nat),(List.flatten Fs).Nodup->F'.Nodup->(∀b∈F',b∉List.flatten Fs)->(List.flatten (Fs.set i F')).Nodup/\ ∀b∈List.flatten (Fs.set i F'),b∈List.flatten Fs\/b∈F'
 | [],i,F',_,_,_=>by simp
 |G::Fs,0,F',hn,sq,hs=>by
  simp only [List.set_cons_zero,Mb] at hn hs⊢
  obtain ⟨n1,n2,n3⟩:=Ef.1 hn
  refine ⟨Ef.2 ⟨sq,n2,λa ha b hb e=>hs a ha (Ck _ (e▸hb))⟩,λb hb=>?_⟩
  rcases Ba.1 hb with hb|hb
  ·exact .inr hb
  ·exact .inl (Ck _ hb)
 |G::Fs,i+1,F',hn,sq,hs=>by
  simp only [List.set_cons_succ,Mb] at hn hs⊢
  obtain ⟨n1,n2,n3⟩:=Ef.1 hn
  obtain ⟨m1,m2⟩:=lA Fs i F' n2 sq λb hb hm=>hs b hb (Ck _ hm)
  refine ⟨Ef.2 ⟨n1,m1,λa ha b hb e=>?_⟩,λb hb=>?_⟩
  ·subst e
   rcases m2 a hb with h|h
   ·exact n3 a ha a h rfl
   ·exact hs a h (Bi _ ha)
  ·rcases Ba.1 hb with hb|hb
   ·exact .inl (Bi _ hb)
   ·exact (m2 b hb).imp (Ck _) id
theorem x4 (hT:Ep P T) {st:St} {a:Act} (h:Bh X π st a w) {t:TypeId} {e:Ty} (ht:T.ty t=some e) {l j:Nat} {r:Real} {vx:Value} {tid:TypeId} {fr Wt:Bool} {xs:List e.den} {x:e.den}
  (hp:π l=some r) (hl:Av st.heap l=some (.arr fr true e tid xs)) (hj:j<xs.length) (hx:Dg w (Dc X.w0.heap.size X.Sc π Wt) e vx x) {F:List Nat} {us:List Value} (hF:Di w F e us x) (hus:vx=Ce e us) (nW:iE X w π F):
  ∃w',(Instr.storeAt t (.pointer (some ⟨r.g,(r.o+j)*e.size,none⟩)) vx).run P w= .ok () w'/\Bh X (Xo π l (some (r.plus F))) (st.Kx l (.arr (fr&&Wt) true e tid (xs.set j x))) a w':=by
 have hb:=(h.1.heap l).Sl hl
 simp only [Cl,Kz,hp] at hb
 obtain ⟨h1,cur,ti,h2,h3,h4,h5,h6,h7⟩:=hb
 obtain ⟨Fs,t1,t2,t3,t4⟩:=h7 trivial
 obtain ⟨es,ir,hv⟩:=hx
 have jg:=Cells.len e es x ir
 have Avm:us=es:=by
  have c1:=Ly e us x (Di.cells (S:= λ_=>False) F e us x hF λ_ _ h=>h)
  have c2:=Ly e es x ir
  rw [<-hus,hv,c2] at c1
  simpa using c1.symm
 subst Avm
 have Wx:(r.o+j)*e.size+us.length<=cur.size:=by
  have:(r.o+j+1)*e.size<=(r.o+r.cap)*e.size:=Fv _ (by omega)
  rw [Dq (r.o+j) 1,Wk] at this
  omega
 have a7:(r.o+j)*e.size+us.length<=cur.toList.length:=by simpa using Wx
 have Wg:=Xg (P:=P) (w:=w) (hT.ty _ _ ht) r.g ((r.o+j)*e.size) vx us (by rw [hv];exact Ly e us x ir) jg (Cells.plain e us x ir) cur ti h2 Wx
 have Sa:r.cl r.g:=h.1.sub l r _ hp h1.1
 have hng: ∀b∈F,b≠r.g:= λb hb e=>(nW.2 b hb).2.2 l r hp (e▸Sa)
 have SA:=lA Fs j F (Cg.1 t2).2 nW.1 λb hb hm=>(nW.2 b hb).2.2 l r hp (t3 b hm)
 refine ⟨_,by simp only [Instr.storeAt,Instr.sureAddr];simpa using Wg,?_⟩
 refine h.Aw7 hl (b:= .arr (fr&&Wt) true e tid (xs.set j x)) ⟨rfl,by simp⟩ hp (λc hc=>⟨(nW.2 c hc).1,(nW.2 c hc).2.1,λm r0 _=>(nW.2 c hc).2.2 m r0⟩) (Om w r.g _) λm=>?_
 simp only [Cl,Kz]
 have cell: ∀(i:Nat) (nE:List Value),i≠j->nE.length=e.size->(∀k u,nE[k]?=some u->cur[(r.o+i)*e.size+k]?=some u)-> ∀k u,nE[k]?=some u->(Dt cur.toList ((r.o+j)*e.size) us).toArray[(r.o+i)*e.size+k]?=some u:=by
  intro i nE kA he' tK k u hu
  have hk:k<nE.length:=(Ao.1 hu).1
  have:=tK k u hu
  rw [Jb,Ja _ _ _ _ a7]
  rcases iN (o:=r.o) (i:=i) (j:=j) (s:=e.size) (p:=k) kA (by omega) with Me|wc
  ·rw [Ab Me];simpa using this
  ·rw [Ai (by omega),Ai (by omega)];simpa using this
 have Ah7: ∀k u,us[k]?=some u->(Dt cur.toList ((r.o+j)*e.size) us).toArray[(r.o+j)*e.size+k]?=some u:=by
  intro k u hu
  have hk:k<us.length:=(Ao.1 hu).1
  rw [Jb,Ja _ _ _ _ a7,Ai (by omega),Ab (by omega)]
  rw [show (r.o+j)*e.size+k-(r.o+j)*e.size=k by omega];exact hu
 refine ⟨⟨h1.1,h1.2.1,λhf=>h1.2.2 (by simp only [Ah] at hf;exact hf.1)⟩,_,_,setRow_heap w r.g cur _ ti _ h2,by rw [Gz,Ju _ _ _ a7,Ma];exact h3,h4,by rw [Co];exact h5,λi y hy=>?_,λ_=>?_⟩
 ·rw [Ex] at hy
  split at hy
  ·rename_i so;subst so
   simp only [Aa] at hy;subst hy
   exact ⟨us,jg,Ah7,(m.cells Wt e us x ir).and_right⟩
  ·rename_i so
   obtain ⟨nE,he',tK,xG⟩:=h6 i y hy
   exact ⟨nE,he',cell i nE (Hv so) he' tK,(m.cells fr e nE y xG).and_left⟩
 ·refine ⟨Fs.set j F,by simp [t1],Cg.2 ⟨λhm=>?_,SA.1⟩,λb hb=>?_,λi y G hy hG=>?_⟩
  ·rcases SA.2 _ hm with h8|h8
   ·exact (Cg.1 t2).1 h8
   ·exact hng _ h8 rfl
  ·exact (SA.2 b hb).imp (t3 b) id
  ·rw [Ex] at hy hG
   split at hy
   ·rename_i so;subst so
    rw [Ab rfl] at hG
    rw [Ab (by omega)] at hG
    simp only [Aa] at hy hG;subst hy;subst hG
    exact ⟨us,jg,Ah7,hF.Gj _ _ _ _ (by simp) λb hb=>setRow_other w r.g b _ (hng b hb)⟩
   ·rename_i so
    rw [Ai so] at hG
    obtain ⟨nE,he',tK,xG⟩:=t4 i y G hy hG
    exact ⟨nE,he',cell i nE (Hv so) he' tK,xG.Gj _ _ _ _ (by simp) λb hb=>setRow_other w r.g b _ λe=>(Cg.1 t2).1 (Ip.2 ⟨G,Cn hG,e▸hb⟩)⟩
theorem TX {st:St} {a:Act} (h:Bh X π st a w) {τ:Ty} {l:Nat} {x:AV} {vx:Value} (hx:Bs X w π st.heap x vx):Bs X w π st.heap (ZN T st τ l x) vx:=by
 unfold ZN
 split
 ·rename_i hc
  split
  ·rename_i p hp
   have:=Ns τ x vx p.1 p.2 (Cx.1 hc).2 hx hp
   exact Dg.Jv this λb _ hA=>hA.imp id (Or.imp id λ⟨h1,_⟩=>by cases h1)
  ·exact hx
 ·exact hx
theorem rQ (hT:Ep P T) {st:St} {a:Act} (h:Bh X π st a w) (t:TypeId) (p x:AV) (vp vx:Value) (hp:Bs X w π st.heap p vp) (hx:Bs X w π st.heap x vx) (st':St)
  (he:Vq T st t p x=some st'): ∃w' π',(Instr.storeAt t vp vx).run P w= .ok () w'/\Bh X π' st' a w':=by
 unfold Vq at he
 split at he
 ·rename_i τ l i ht
  split at he
  ·rename_i tid vs cs hl hc
   split at he
   ·rename_i hle
    simp only [Aa] at he
    obtain ⟨w',h1,h2⟩:=CN hT h ht hp (TX h hx) hl hc hle
    split at he
    ·rename_i Kt
     simp only [Ah,Oc] at Kt
     subst he
     obtain ⟨YF,h3⟩:=fU (T:=T) l i t τ cs.length 0 _ π (by omega) h2
     exact ⟨w',YF,h1,h3⟩
    ·subst he
     exact ⟨w',π,h1,h2⟩
   ·cases he
  ·cases he
 ·rename_i τ l j ht
  split at he
  ·rename_i x' st1 hs
   obtain ⟨cG,h1,h2,h3,h4,h5⟩:=cy h hx hs
   split at he
   ·rename_i fr tr e tid xs Wt y hl hv
    split at he
    ·rename_i lr;subst lr
     split at he
     ·rename_i hj
      simp only [Aa] at he;subst he
      obtain ⟨r,b,sz,n,g1,g0,g2,g3,rfl⟩:=hp
      obtain ⟨k1,b',f,k2,k3⟩:=h4 l _ hl
      rw [g1] at k2;cases k2
      have g4:=Et OB.row k3
      rw [show (OB.map f b).row=b.row by cases b<;>rfl,g0] at g4
      simp only [OB.row,Aa,Af] at g4
      obtain ⟨rfl,rfl⟩:=g4
      cases o0:(tr&&(Ua st x&&τ.tree)) with
      |false=>
       obtain ⟨w',q1,q2⟩:=CL hT h1 ht (k1.trans g3) hl hj (Ns _ x' vx Wt y h3 h2 hv)
       exact ⟨w',cG,q1,q2⟩
      |true=>
       simp only [Ah] at o0
       obtain ⟨rfl,htv,lr⟩:=o0
       obtain ⟨F,us,f1,f2,f3,_⟩:=h5 htv τ Wt y lr hv
       obtain ⟨w',q1,q2⟩:=x4 hT h1 ht (k1.trans g3) hl hj (Ns _ x' vx Wt y h3 h2 hv) f1 f2 f3
       exact ⟨w',_,q1,q2⟩
     ·cases he
    ·cases he
   ·cases he
  ·cases he
 ·cases he
theorem uZ {S:Nat->Prop} {e:Ty} {v:Value} {ys:List e.den} (h:Cells w S (.slice e) [v] ys):
  ∃ad c,v= .slice ad ys.length c/\(ys= []\/ ∃g o,ad=some ⟨g,o,none⟩/\ ∃news:List Value,news.length=ys.length*e.size/\(∀j u,news[j]?=some u->w.cell? ⟨g,o+j,none⟩=some u)/\(∀u∈news,u.oneCell'=true)/\(∀j u,j<ys.length*e.size->w.cell? ⟨g,o+j,none⟩=some u->news[j]?=some u)/\
   ∀(i:Nat) (y:e.den),ys[i]?=some y-> ∃es:List Value,es.length=e.size/\(∀j u,es[j]?=some u->news[i*e.size+j]?=some u)/\Cells w S e es y):=by
 simp only [Cells] at h
 obtain ⟨ad,len,cap,hv,hl,tE,MF⟩:=h
 simp only [Hq,bq] at hv
 subst hl
 refine ⟨ad,cap,hv,?_⟩
 rcases MF with h0|⟨g,o,rfl,hg,hn,Le⟩
 ·exact .inl h0
 ·right
  refine ⟨g,o,rfl,(List.range (ys.length*e.size)).map λj=>(w.cell? ⟨g,o+j,none⟩).getD undef,by simp,?_⟩
  have key: ∀k,k<ys.length*e.size-> ∃u,w.cell? ⟨g,o+k,none⟩=some u/\u.oneCell'=true:=by
   intro k hk
   have hs:0<e.size:=by
    rcases Ue e.size with h|h
    ·rw [h] at hk;simp at hk
    ·exact h
   have hi:k/e.size<ys.length:=(Nat.div_lt_iff_lt_mul hs).2 hk
   obtain ⟨es,ir,hc,c9⟩:=Le (k/e.size) _ (Ac hi)
   have hm:k%e.size<es.length:=by rw [ir];exact Nat.mod_lt _ hs
   have:=hc (k%e.size) _ (Ac hm)
   rw [Hp,show k/e.size*e.size+k%e.size=k by rw [Nat.mul_comm];exact Nat.div_add_mod k e.size] at this
   exact ⟨_,this,Cells.plain e es _ c9 _ (Am hm)⟩
  refine ⟨λj u hu=>?_,λu hu=>?_,λj u hj hu=>by rw [Fo,Sh hj];simp [hu],λi y hy=>?_⟩
  ·rw [Fo] at hu
   have hj:j<ys.length*e.size:=by
    by_cases hj:j<ys.length*e.size
    ·exact hj
    ·rw [Ei (by simpa using hj)] at hu;cases hu
   rw [Sh hj] at hu
   obtain ⟨u',iv,_⟩:=key j hj
   simp only [An,iv,Df,Aa] at hu
   rw [iv,hu]
  ·obtain ⟨j,hj,rfl⟩:=Bf.1 hu
   obtain ⟨u',iv,h1⟩:=key j (Ff.1 hj)
   rw [iv];exact h1
  ·obtain ⟨es,ir,hc,c9⟩:=Le i y hy
   refine ⟨es,ir,λj u hu=>?_,c9⟩
   have hi:=(Ao.1 hy).1
   have hj:=(Ao.1 hu).1
   have Me:i*e.size+j<ys.length*e.size:=by
    have:(i+1)*e.size<=ys.length*e.size:=Fv _ (by omega)
    rw [Dq,Wk] at this
    omega
   rw [Fo,Sh Me]
   have:=hc j u hu
   rw [Hp] at this
   simp [this]
end
end Go.Proofs.YtkkdpknjohcekaaGreat
