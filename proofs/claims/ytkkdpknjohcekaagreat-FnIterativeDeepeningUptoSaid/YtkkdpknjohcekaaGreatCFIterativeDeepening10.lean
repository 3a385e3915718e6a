/-
  Part 11 of the proof that the statement FnIterativeDeepening holds.
-/
import Derived.Test.YtkkdpknjohcekaaGreatCFIterativeDeepening09
namespace Go.Proofs.YtkkdpknjohcekaaGreat
open Go.RowKit
section
variable {P:Program} {T:Tab} {X:Ctx} {w w':World} {π:Pi} {H:List (Nat×OB)}
theorem OB.map_map (f g:AC->AC) (b:OB):OB.map g (OB.map f b)=OB.map (λc=>g (f c)) b:=by
 cases b with
 |var t vs=>simp [OB.map,Function.comp_def]
 |_=>rfl
theorem OB.EU (b:OB):OB.map (λc=>c) b=b:=by
 cases b with
 |var t vs=>simp [OB.map]
 |_=>rfl
def Lk (π π':Pi) (H H':List (Nat×OB)):Prop:= ∀l b',Av H' l=some b'->π' l=π l/\ ∃b f,Av H l=some b/\b'=OB.map f b
theorem Lk.refl (π:Pi) (H:List (Nat×OB)):Lk π π H H:= λ_ b h=>⟨rfl,b,λc=>c,h,(OB.EU b).symm⟩
theorem Lk.trans {cn VV π3:Pi} {H1 H2 H3:List (Nat×OB)} (h:Lk cn VV H1 H2) (h':Lk VV π3 H2 H3):Lk cn π3 H1 H3:= λl b hb=>by
 obtain ⟨e1,b1,f1,h1,rfl⟩:=h' l b hb
 obtain ⟨e2,b2,f2,h2,rfl⟩:=h l b1 h1
 exact ⟨e1.trans e2,b2,_,h2,OB.map_map f2 f1 b2⟩
theorem Lk.freeze (st:St) (l:Nat) (fr:Bool) (e:Ty) (xs:List e.den):Lk π (Xc π l none) st.heap (st.freeze l fr e xs).heap:= λk b hb=>by
 by_cases hk:k=l
 ·subst hk;rw [St.Mt] at hb;cases hb
 ·rw [St.Sj st l k fr e xs hk] at hb
  cases h0:Av st.heap k with
  |none=>rw [h0] at hb;cases hb
  |some b0=>
   rw [h0] at hb
   simp only [Ak,Aa] at hb
   exact ⟨Gl π none hk,b0,_,rfl,hb.symm⟩
theorem Lk.Jn (st:St) (l:Nat) (v:Ty) (m:ByteArray->Option v.den):Lk π (Xc π l none) st.heap (st.Jn l v m).heap:= λk b hb=>by
 by_cases hk:k=l
 ·subst hk;rw [St.To] at hb;cases hb
 ·rw [St.Rl st l k v m hk] at hb
  cases h0:Av st.heap k with
  |none=>rw [h0] at hb;cases hb
  |some b0=>
   rw [h0] at hb
   simp only [Ak,Aa] at hb
   exact ⟨Gl π none hk,b0,_,rfl,hb.symm⟩
theorem Lk.gone {π':Pi} {H':List (Nat×OB)} (k:Lk π π' H H') {l:Nat} (h:Av H l=none):Av H' l=none:=by
 cases hb:Av H' l with
 |none=>rfl
 |some b=>
  obtain ⟨_,b0,f,h1,_⟩:=k l b hb
  rw [h] at h1;cases h1
def Dm (st:St):AC->AC
 | .own l off len=>match st.at l with
  |some (.arr fr _ e _ xs)=> .data fr (.slice e) ((xs.drop off).take len)
  |some (.Hf e _ xs)=> .data false (.slice e) ((xs.drop off).take len)
  |_=> .own l off len
 | .Lb l=>match st.at l with
  |some (.Vx v m)=> .data false (.smap v) m
  |_=> .Lb l
 |c=>c
theorem Tu {st:St} {c:AC} (h:c.settled=true):Dm st c=c:=by
 cases c<;>simp [AC.settled] at h<;>rfl
theorem wg {st st':St} {f:AC->AC} {l:Nat} (hH: ∀m,m≠l->Av st'.heap m=(Av st.heap m).map (OB.map f)) {c:AC} (hc: ∀k∈c.refs,k≠l):Dm st' c=Dm st c:=by
 cases c with
 |own k off len=>
  have hk:k≠l:=hc k (by simp [AC.refs])
  simp only [Dm,St.at,hH k hk]
  cases Av st.heap k with
  |none=>rfl
  |some b=>cases b<;>rfl
 |Lb k=>
  have hk:k≠l:=hc k (by simp [AC.refs])
  simp only [Dm,St.at,hH k hk]
  cases Av st.heap k with
  |none=>rfl
  |some b=>cases b<;>rfl
 |_=>rfl
theorem gI {a:Act} : ∀(n:Nat) (st:St) (π:Pi) (cs:List AC) (us:List Value) (iB:List AC) (st':St),Bh X π st a w->Gb X w π st.heap cs us->
  Ic n st cs=some (iB,st')-> ∃π',Bh X π' st' a w/\Gb X w π' st'.heap iB us/\iB.all (·.settled)=true/\Lk π π' st.heap st'.heap/\iB=cs.map (Dm st)/\
   (∀k,k∈cs.flatMap AC.refs->Av st'.heap k=none)
 |0,st,π,cs,us,iB,st',h,hr,he=>by
  simp only [Ic] at he
  split at he
  ·rename_i hs
   simp only [Aa,Ae] at he
   obtain ⟨rfl,rfl⟩:=he
   have DU:=Bb.1 hs
   exact ⟨π,h,hr,hs,Lk.refl _ _,((Eu λc hc=>Tu (DU c hc)).trans (List.map_id'' (λ_=>rfl) cs)).symm,λk hk=>by
    obtain ⟨c,hc,BH⟩:=Hy.1 hk
    have:=DU c hc
    cases c<;>simp [AC.settled] at this<;>simp [AC.refs] at BH⟩
  ·cases he
 |n+1,st,π,cs,us,iB,st',h,hr,he=>by
  simp only [Ic] at he
  have step: ∀(f:AC->AC) (l:Nat) (st1:St),Bh X (Xc π l none) st1 a w->Move X w w π (Xc π l none) st.heap st1.heap f->Av st1.heap l=none->(∀m,m≠l->Av st1.heap m=(Av st.heap m).map (OB.map f))->
    Lk π (Xc π l none) st.heap st1.heap->(∀c∈cs,(∀k∈c.refs,k≠l)->f c=c)->(∀c∈cs,l∈c.refs->(f c).refs= []/\(Dm st1 (f c)).settled=true->f c=Dm st c)->
    (∀c∈cs,l∈c.refs->(f c).refs= [])->Ic n st1 (cs.map f)=some (iB,st')->
    ∃π',Bh X π' st' a w/\Gb X w π' st'.heap iB us/\iB.all (·.settled)=true/\Lk π π' st.heap st'.heap/\iB=cs.map (Dm st)/\(∀k,k∈cs.flatMap AC.refs->Av st'.heap k=none):=by
   intro f l st1 h1 m hl hH hK hf0 hf1 hf2 he
   obtain ⟨π',h2,h3,h4,h5,h6,h7⟩:=gI n st1 _ (cs.map f) us iB st' h1 (m.acs hr) he
   refine ⟨π',h2,h3,h4,hK.trans h5,?_,λk hk=>?_⟩
   ·rw [h6,List.map_map]
    refine Eu λc hc=>?_
    simp only [Function.comp]
    by_cases Rb:l∈c.refs
    ·have Jh:=Bb.1 h4
     have ny:Dm st1 (f c)∈iB:=by rw [h6];exact Bj.2 ⟨f c,Bj.2 ⟨c,hc,rfl⟩,rfl⟩
     have hs:=Jh _ ny
     have h8:=hf1 c hc Rb ⟨hf2 c hc Rb,hs⟩
     have h9:Dm st1 (f c)=f c:=by
      have:=hf2 c hc Rb
      cases hfc:f c<;>rw [hfc] at this<;>first|(simp [AC.refs] at this;done)|rfl
     rw [h9,h8]
    ·have Jl: ∀k∈c.refs,k≠l:= λk hk e=>Rb (e▸hk)
     rw [hf0 c hc Jl]
     exact wg hH Jl
   ·obtain ⟨c,hc,BH⟩:=Hy.1 hk
    by_cases Tc:k=l
    ·subst Tc;exact h5.gone hl
    ·by_cases Rb:l∈c.refs
     ·
      have Jh:=Bb.1 h4
      have ny:Dm st1 (f c)∈iB:=by rw [h6];exact Bj.2 ⟨f c,Bj.2 ⟨c,hc,rfl⟩,rfl⟩
      have hs:=Jh _ ny
      have h8:=hf1 c hc Rb ⟨hf2 c hc Rb,hs⟩
      have h9:Dm st1 (f c)=f c:=by
       have:=hf2 c hc Rb
       cases hfc:f c<;>rw [hfc] at this<;>first|(simp [AC.refs] at this;done)|rfl
      rw [h9,h8] at hs
      cases c with
      |clo g Ec=>simp [Dm,AC.settled] at hs
      |own k' _ _=>simp [AC.refs] at Rb BH;exact absurd (BH.trans Rb.symm) Tc
      |Lb k'=>simp [AC.refs] at Rb BH;exact absurd (BH.trans Rb.symm) Tc
      |Hs k' _=>simp [AC.refs] at Rb BH;exact absurd (BH.trans Rb.symm) Tc
      |Ku k' _=>simp [AC.refs] at Rb BH;exact absurd (BH.trans Rb.symm) Tc
      |sub k' _ _=>simp [AC.refs] at Rb BH;exact absurd (BH.trans Rb.symm) Tc
      |Kr k' _ _=>simp [AC.refs] at Rb BH;exact absurd (BH.trans Rb.symm) Tc
      |_=>simp [AC.refs] at BH
     ·have Jl: ∀k∈c.refs,k≠l:= λk hk e=>Rb (e▸hk)
      exact h7 k (Hy.2 ⟨f c,Bj.2 ⟨c,hc,rfl⟩,by rw [hf0 c hc Jl];exact BH⟩)
  have BL: ∀(st1:St) (c:AC),(Dm st1 c).settled=true->c≠ .undef:= λst1 c hs e=>by rw [e] at hs;simp [Dm,AC.settled] at hs
  split at he
  ·rename_i hf
   simp only [Aa,Ae] at he
   obtain ⟨rfl,rfl⟩:=he
   have DU: ∀c∈cs,c.settled=true:= λc hc=>by have:=List.find?_eq_none.1 hf c hc;simpa using this
   exact ⟨π,h,hr,Bb.2 DU,Lk.refl _ _,((Eu λc hc=>Tu (DU c hc)).trans (List.map_id'' (λ_=>rfl) cs)).symm,λk hk=>by
    obtain ⟨c,hc,BH⟩:=Hy.1 hk
    have:=DU c hc
    cases c<;>simp [AC.settled] at this<;>simp [AC.refs] at BH⟩
  ·rename_i l off len hf
   split at he
   ·rename_i fr tr e tid xs hl
    unfold St.at at hl
    obtain ⟨h1,m⟩:=h.freeze (fr:=fr) (.inl ⟨tr,tid,hl⟩)
    refine step _ l _ h1 m (St.Mt st l fr e xs) (λm hm=>St.Sj st l m fr e xs hm) (Lk.freeze st l fr e xs) (λc _ hc=>iM hc) (λc _ Rb hs=>?_) (λc _ Rb=>?_) he
    ·cases c with
     |own k o n=>have:k=l:=(Ad.1 Rb).symm
                 subst this;simp only [Cv,Ab,Dm,St.at,hl]
     |Hs k o=>have:k=l:=(Ad.1 Rb).symm
              subst this;simp only [Cv,Ab] at hs;exact absurd rfl (BL _ _ hs.2)
     |Ku k o=>have:k=l:=(Ad.1 Rb).symm
              subst this;simp only [Cv,Ab] at hs;exact absurd rfl (BL _ _ hs.2)
     |sub k o o2=>have:k=l:=(Ad.1 Rb).symm
                  subst this;simp only [Cv,Ab] at hs;exact absurd rfl (BL _ _ hs.2)
     |Kr k o o2=>have:k=l:=(Ad.1 Rb).symm
                 subst this;simp only [Cv,Ab] at hs;exact absurd rfl (BL _ _ hs.2)
     |Lb k=>have:k=l:=(Ad.1 Rb).symm
            subst this;simp only [Cv,Ab] at hs;exact absurd rfl (BL _ _ hs.2)
     |clo g Ec=>
      simp only [Cv] at hs
      rw [Ab (by simpa [AC.refs] using Rb)] at hs
      exact absurd rfl (BL _ _ hs.2)
     |_=>simp [AC.refs] at Rb
    ·cases c with
     |own k o n=>have:k=l:=(Ad.1 Rb).symm
                 subst this;simp only [Cv,Ab];rfl
     |Hs k o=>have:k=l:=(Ad.1 Rb).symm
              subst this;simp only [Cv,Ab];rfl
     |Ku k o=>have:k=l:=(Ad.1 Rb).symm
              subst this;simp only [Cv,Ab];rfl
     |sub k o o2=>have:k=l:=(Ad.1 Rb).symm
                  subst this;simp only [Cv,Ab];rfl
     |Kr k o o2=>have:k=l:=(Ad.1 Rb).symm
                 subst this;simp only [Cv,Ab];rfl
     |Lb k=>have:k=l:=(Ad.1 Rb).symm
            subst this;simp only [Cv,Ab];rfl
     |clo g Ec=>simp only [Cv];rw [Ab (by simpa [AC.refs] using Rb)];rfl
     |_=>simp [AC.refs] at Rb
   ·rename_i e tid xs hl
    unfold St.at at hl
    obtain ⟨h1,m⟩:=h.freeze (fr:=false) (.inr ⟨rfl,tid,hl⟩)
    refine step _ l _ h1 m (St.Mt st l false e xs) (λm hm=>St.Sj st l m false e xs hm) (Lk.freeze st l false e xs) (λc _ hc=>iM hc) (λc _ Rb hs=>?_) (λc _ Rb=>?_) he
    ·cases c with
     |own k o n=>have:k=l:=(Ad.1 Rb).symm
                 subst this;simp only [Cv,Ab,Dm,St.at,hl]
     |Hs k o=>have:k=l:=(Ad.1 Rb).symm
              subst this;simp only [Cv,Ab] at hs;exact absurd rfl (BL _ _ hs.2)
     |Ku k o=>have:k=l:=(Ad.1 Rb).symm
              subst this;simp only [Cv,Ab] at hs;exact absurd rfl (BL _ _ hs.2)
     |sub k o o2=>have:k=l:=(Ad.1 Rb).symm
                  subst this;simp only [Cv,Ab] at hs;exact absurd rfl (BL _ _ hs.2)
     |Kr k o o2=>have:k=l:=(Ad.1 Rb).symm
                 subst this;simp only [Cv,Ab] at hs;exact absurd rfl (BL _ _ hs.2)
     |Lb k=>have:k=l:=(Ad.1 Rb).symm
            subst this;simp only [Cv,Ab] at hs;exact absurd rfl (BL _ _ hs.2)
     |clo g Ec=>
      simp only [Cv] at hs
      rw [Ab (by simpa [AC.refs] using Rb)] at hs
      exact absurd rfl (BL _ _ hs.2)
     |_=>simp [AC.refs] at Rb
    ·cases c with
     |own k o n=>have:k=l:=(Ad.1 Rb).symm
                 subst this;simp only [Cv,Ab];rfl
     |Hs k o=>have:k=l:=(Ad.1 Rb).symm
              subst this;simp only [Cv,Ab];rfl
     |Ku k o=>have:k=l:=(Ad.1 Rb).symm
              subst this;simp only [Cv,Ab];rfl
     |sub k o o2=>have:k=l:=(Ad.1 Rb).symm
                  subst this;simp only [Cv,Ab];rfl
     |Kr k o o2=>have:k=l:=(Ad.1 Rb).symm
                 subst this;simp only [Cv,Ab];rfl
     |Lb k=>have:k=l:=(Ad.1 Rb).symm
            subst this;simp only [Cv,Ab];rfl
     |clo g Ec=>simp only [Cv];rw [Ab (by simpa [AC.refs] using Rb)];rfl
     |_=>simp [AC.refs] at Rb
   ·cases he
  ·rename_i l hf
   split at he
   ·rename_i v mm hl
    unfold St.at at hl
    obtain ⟨h1,m⟩:=h.Jn hl
    refine step _ l _ h1 m (St.To st l v mm) (λm hm=>St.Rl st l m v mm hm) (Lk.Jn st l v mm) (λc _ hc=>sR hc) (λc _ Rb hs=>?_) (λc _ Rb=>?_) he
    ·cases c with
     |Lb k=>have:k=l:=(Ad.1 Rb).symm
            subst this;simp only [Hp,Ab,Dm,St.at,hl]
     |Hs k o=>have:k=l:=(Ad.1 Rb).symm
              subst this;simp only [Hp,Ab] at hs;exact absurd rfl (BL _ _ hs.2)
     |Ku k o=>have:k=l:=(Ad.1 Rb).symm
              subst this;simp only [Hp,Ab] at hs;exact absurd rfl (BL _ _ hs.2)
     |sub k o o2=>have:k=l:=(Ad.1 Rb).symm
                  subst this;simp only [Hp,Ab] at hs;exact absurd rfl (BL _ _ hs.2)
     |Kr k o o2=>have:k=l:=(Ad.1 Rb).symm
                 subst this;simp only [Hp,Ab] at hs;exact absurd rfl (BL _ _ hs.2)
     |own k o n=>have:k=l:=(Ad.1 Rb).symm
                 subst this;simp only [Hp,Ab] at hs;exact absurd rfl (BL _ _ hs.2)
     |clo g Ec=>
      simp only [Hp] at hs
      rw [Ab (by simpa [AC.refs] using Rb)] at hs
      exact absurd rfl (BL _ _ hs.2)
     |_=>simp [AC.refs] at Rb
    ·cases c with
     |own k o n=>have:k=l:=(Ad.1 Rb).symm
                 subst this;simp only [Hp,Ab];rfl
     |Hs k o=>have:k=l:=(Ad.1 Rb).symm
              subst this;simp only [Hp,Ab];rfl
     |Ku k o=>have:k=l:=(Ad.1 Rb).symm
              subst this;simp only [Hp,Ab];rfl
     |sub k o o2=>have:k=l:=(Ad.1 Rb).symm
                  subst this;simp only [Hp,Ab];rfl
     |Kr k o o2=>have:k=l:=(Ad.1 Rb).symm
                 subst this;simp only [Hp,Ab];rfl
     |Lb k=>have:k=l:=(Ad.1 Rb).symm
            subst this;simp only [Hp,Ab];rfl
     |clo g Ec=>simp only [Hp];rw [Ab (by simpa [AC.refs] using Rb)];rfl
     |_=>simp [AC.refs] at Rb
   ·cases he
  ·cases he
def hJ (X:Ctx) (w:World) (π:Pi) (F:List Nat):Prop:=F.Nodup/\ ∀b∈F,(X.w0.heap.size<=b\/X.gv b)/\b<w.heap.size/\ ∀l r,π l=some r-> ¬r.cl b
theorem Yc {S:Nat->Prop} : ∀(e:Ty) (es:List Value) (x:e.den),e.flat=true->Cells w S e es x->Db w [] e es x
 | .int k,cs,n,_,h=>⟨rfl,h⟩
 | .bool,cs,n,_,h=>⟨rfl,h⟩
 | .str,cs,n,_,h=>⟨rfl,h⟩
 | .unit,cs,n,_,h=>⟨rfl,h⟩
 | .pair a r,cs,x,hf,h=>by
  simp only [Ty.flat,Ag] at hf
  simp only [Cells] at h
  simp only [Db]
  obtain ⟨c1,c2,h1,h2,h3⟩:=h
  exact ⟨c1,c2,[],[],h1,rfl,Yc a c1 x.1 hf.1 h2,Yc r c2 x.2 hf.2 h3⟩
 | .slice _,_,_,hf,_=>by simp [Ty.flat] at hf
 | .oslice _,_,_,hf,_=>by simp [Ty.flat] at hf
 | .ptr _,_,_,hf,_=>by simp [Ty.flat] at hf
 | .optr _,_,_,hf,_=>by simp [Ty.flat] at hf
 | .smap _,_,_,hf,_=>by simp [Ty.flat] at hf
 | .clo _ _,_,_,hf,_=>by simp [Ty.flat] at hf
theorem Tb {Fs:List (List Nat)} (off len:Nat) (b:Nat) (h:b∈List.flatten ((Fs.drop off).take len)):b∈List.flatten Fs:=by
 obtain ⟨F,hF,hb⟩:=Hz.1 h
 exact Hz.2 ⟨F,dJ (Ey hF),hb⟩
theorem gK {α:Type} {a b:List (List α)} (h:a.Sublist b):(List.flatten a).Sublist (List.flatten b):=by
 induction h with
 |slnil=>exact List.Sublist.refl _
 |cons c _ ih=>simp only [Ls];exact ih.trans (List.sublist_append_right _ _)
 |cons_cons c _ ih=>simp only [Ls];exact List.Sublist.append (List.Sublist.refl _) ih
theorem mc {Fs:List (List Nat)} (off len:Nat) (h:(List.flatten Fs).Nodup):(List.flatten ((Fs.drop off).take len)).Nodup:=by
 have h1:((Fs.drop off).take len).Sublist Fs:=(List.take_sublist len _).trans (List.drop_sublist off Fs)
 exact h.sublist (gK h1)
theorem ki {P:Nat->Prop} {r:Real} {off len:Nat} {v:Value} {e:Ty} {tid:TypeId} {xs:List e.den} {cur:Array Value} (h2:w.heap[r.g]?=some (.cells cur tid (0,0))) (aE:cur.size=(r.o+r.cap)*e.size) (sZ:r.cap<=maxLen)
  (hlen:off+len<=xs.length) (hv:Ip (some r) e.size off len v) (ht:Xs w P r.g r.o cur e xs) (hg:P r.g):
  ∃F,Db w F (.slice e) [v] ((xs.drop off).take len)/\F.Nodup/\ ∀b∈F,P b:=by
 have hll:((xs.drop off).take len).length=len:=by simp;omega
 obtain ⟨ad,rfl,hc,ha⟩:=hv
 obtain ⟨Fs,t1,t2,t3,t4⟩:=ht
 ·refine ⟨r.g::List.flatten ((Fs.drop off).take len),⟨some ad,len,r.cap-off,rfl,hll.symm,by omega, .inr ⟨ad,r.g,(r.o+off)*e.size,_,rfl,λh0=>ha (by omega),⟨cur,tid,r.o+off,h2,rfl,by rw [aE];congr 1;omega,by omega⟩,rfl,by simp;omega,λi x F hx hF=>?_⟩⟩,?_,λb hb=>?_⟩
  ·have hi:i<len:=by
    have:=(An.1 hx).1
    rw [hll] at this;exact this
   have hx':xs[off+i]?=some x:=by rw [Cs,Ab hi,Da] at hx;exact hx
   have hF':Fs[off+i]?=some F:=by rw [Cs,Ab hi,Da] at hF;exact hF
   obtain ⟨es,he,hj,yK⟩:=t4 (off+i) x F hx' hF'
   refine ⟨es,he,λj u hu=>?_,yK⟩
   rw [cellOf h2]
   have:=hj j u hu
   rw [<-this]
   congr 1
   rw [<-Gy,De (r.o+off) i]
  ·have:=Ce.1 t2
   exact Ce.2 ⟨λhm=>this.1 (Tb off len _ hm),mc off len this.2⟩
  ·rcases Bg.1 hb with rfl|hb
   ·exact hg
   ·exact t3 b (Tb off len b hb)
theorem ow {st:St} (h:Nj X w π st.heap) {c:AC} {v:Value} (hc:Ia X w π st.heap c v) (ht:Su st c=true) (τ:Ty) (fr:Bool) (x:τ.den) (Ug:τ.Aq=false) (DR:τ.tree=true)
  (hv:Dn st τ (Dm st c)=some (fr,x)): ∃F,Db w F τ [v] x/\F.Nodup/\ ∀b∈F,∃l r,l∈c.refs/\π l=some r/\r.cl b:=by
 cases c with
 |data Wh Ov y=>
  simp only [Su] at ht
  simp only [Dm,Of] at hv
  split at hv
  ·rename_i he;subst he
   simp only [Aa,Ae] at hv
   obtain ⟨_,rfl⟩:=hv
   exact ⟨[],Yc Ov _ _ ht (Ct.So Ug hc),Nr,λb hb=>by cases hb⟩
  ·unfold iA at hv
   split at hv
   ·simp [Ty.flat] at ht
   ·simp [Ty.flat] at ht
   ·cases hv
 |Mo=>
  have hc:v= .slice none 0 0:=hc
  subst hc
  cases τ with
  |slice e=>
   simp only [Dm,Dn,Aa,Ae] at hv
   obtain ⟨_,rfl⟩:=hv
   exact ⟨[],⟨none,0,0,rfl,rfl,Ap _, .inl ⟨rfl,rfl,rfl,rfl⟩⟩,Nr,λb hb=>by cases hb⟩
  |oslice e=>simp [Ty.tree] at DR
  |_=>simp [Dm,Dn] at hv
 |own l off len=>
  simp only [Su] at ht
  split at ht
  ·rename_i Wh tr e tid xs hl
   have Mb:=hl
   unfold St.at at hl
   simp only [Dm,Mb,Of] at hv
   split at hv
   ·rename_i he;subst he
    simp only [Aa,Ae] at hv
    obtain ⟨_,rfl⟩:=hv
    obtain ⟨h2,h3⟩:=Oy hc hl
    have hb:=(h.heap l).Rz hl
    simp only [Cg,Ks] at hb
    cases hp:π l with
    |none=>
     rw [hp] at h3
     obtain ⟨rfl,rfl,rfl⟩:=h3
     exact ⟨[],⟨none,0,0,rfl,by simp,Ap _, .inl ⟨by simp,rfl,rfl,rfl⟩⟩,Nr,λb hb=>by cases hb⟩
    |some r=>
     rw [hp] at hb h3
     obtain ⟨k1,cur,_,k2,k3,k4,k5,k6,k7⟩:=hb
     have PK:Xs w r.cl r.g r.o cur e xs:=by
      simp only [Mi] at ht
      rcases ht with ht|ht
      ·exact k7 ht
      ·refine ⟨List.replicate xs.length [],by simp,by simp,by simp,λi x F hx hF=>?_⟩
       obtain ⟨es,e1,e2,e3⟩:=k6 i x hx
       have:F= []:=by
        have:=Cd hF
        exact Fu this
       subst this
       exact ⟨es,e1,e2,Yc e es x ht e3⟩
     obtain ⟨F,f1,f2,f3⟩:=ki k2 k3 k4 h2 h3 PK (h.sub l r _ hp k1.1)
     exact ⟨F,f1,f2,λb hb=>⟨l,r,by simp [AC.refs],hp,f3 b hb⟩⟩
   ·cases τ<;>simp [iA] at hv
  ·rename_i e tid xs hl
   have Mb:=hl
   unfold St.at at hl
   simp only [Dm,Mb,Of] at hv
   split at hv
   ·rename_i he;subst he
    simp only [Aa,Ae] at hv
    obtain ⟨_,rfl⟩:=hv
    obtain ⟨h2,h3⟩:=c5 hc hl
    have hb:=(h.heap l).Rz hl
    simp only [Cg,Oh] at hb
    cases hp:π l with
    |none=>
     rw [hp] at h3
     obtain ⟨rfl,rfl,rfl⟩:=h3
     exact ⟨[],⟨none,0,0,rfl,by simp,Ap _, .inl ⟨by simp,rfl,rfl,rfl⟩⟩,Nr,λb hb=>by cases hb⟩
    |some r=>
     rw [hp] at hb h3
     obtain ⟨k1,cur,_,k2,k3,k4,k5,k7⟩:=hb
     obtain ⟨F,f1,f2,f3⟩:=ki k2 k3 k4 h2 h3 k7 k1
     exact ⟨F,f1,f2,λb hb=>⟨l,r,by simp [AC.refs],hp,h.sub l r b hp (f3 b hb)⟩⟩
   ·cases τ<;>simp [iA] at hv
  ·cases ht
 |_=>simp [Su] at ht
theorem Yk: ∀ {l:List Nat},ar l=true->l.Nodup
 | [],_=>Nr
 |a::r,h=>by
  simp only [ar,Ag,Er,List.contains_eq_mem,decide_eq_false_iff_not] at h
  exact Ce.2 ⟨h.1,Yk h.2⟩
theorem bd {st st':St} {τ:Ty} {c:AC} (h:c.settled=true):Dn st' τ c=Dn st τ c:=by
 cases c<;>simp [AC.settled] at h<;>cases τ<;>rfl
theorem wB {st st':St} (h:Nj X w π st.heap): ∀(τ:Ty) (cs:List AC) (us:List Value) (fr:Bool) (x:τ.den),Gb X w π st.heap cs us->cs.all (Su st)=true->(cs.flatMap AC.refs).Nodup->
  (cs.map (Dm st)).all (·.settled)=true->τ.tree=true->Ff st' τ (cs.map (Dm st))=some (fr,x)-> ∃F,Db w F τ us x/\F.Nodup/\ ∀b∈F,∃l r,l∈cs.flatMap AC.refs/\π l=some r/\r.cl b:=by
 have one: ∀(τ:Ty) (cs:List AC) (us:List Value) (fr:Bool) (x:τ.den),τ.Aq=false->Gb X w π st.heap cs us->cs.all (Su st)=true->
   (cs.map (Dm st)).all (·.settled)=true->τ.tree=true->Ff st' τ (cs.map (Dm st))=some (fr,x)-> ∃F,Db w F τ us x/\F.Nodup/\ ∀b∈F,∃l r,l∈cs.flatMap AC.refs/\π l=some r/\r.cl b:=by
  intro τ cs us fr x Ug hr ht hs Vk hv
  rw [Uk Ug] at hv
  rcases cs with _|⟨c,_|⟨d,cs⟩⟩
  ·cases hv
  ·simp only [Cc,List.map_nil] at hv
   obtain ⟨u,hu,_,hc⟩:=hr.2 0 c rfl
   have hl:us.length=1:=hr.1
   obtain ⟨u',rfl⟩:=Dz.1 hl
   simp at hu;subst hu
   rw [bd (st:=st) (by simpa using hs)] at hv
   obtain ⟨F,f1,f2,f3⟩:=ow h hc (by simpa using ht) τ fr x Ug Vk hv
   exact ⟨F,f1,f2,λb hb=>by obtain ⟨l,r,g1,g2⟩:=f3 b hb;exact ⟨l,r,by simpa using g1,g2⟩⟩
  ·cases hv
 intro τ
 induction τ with
 |unit=>
  intro cs us fr x hr ht hd hs Vk hv
  cases cs with
  |nil=>have:us= []:=Ch hr.1;subst this;exact ⟨[],⟨rfl,rfl⟩,Nr,λb hb=>by cases hb⟩
  |cons c cs=>simp [Ff] at hv
 |pair a r gX gT=>
  intro cs us fr x hr ht hd hs Vk hv
  simp only [Ty.tree,Ag] at Vk
  simp only [Ff] at hv
  split at hv
  ·rename_i f1 y f2 z h1 h2
   simp only [Aa,Ae] at hv
   obtain ⟨rfl,rfl⟩:=hv
   have SH:Gb X w π st.heap (cs.take a.size) (us.take a.size):=by have:=a6 hr 0 a.size;simpa using this
   have YM:Gb X w π st.heap (cs.drop a.size) (us.drop a.size):=
    ⟨by simp [hr.1],λi c hc=>by
     rw [Da] at hc⊢
     exact hr.2 _ c hc⟩
   have Anv: ∀ {p:AC->Bool} {l:List AC} (n:Nat),l.all p=true->(l.take n).all p=true:= λn hl=>Bb.2 λc hc=>Bb.1 hl c (Ey hc)
   have Anw: ∀ {p:AC->Bool} {l:List AC} (n:Nat),l.all p=true->(l.drop n).all p=true:= λn hl=>Bb.2 λc hc=>Bb.1 hl c (dJ hc)
   have hdd:((cs.take a.size++cs.drop a.size).flatMap AC.refs).Nodup:=by rw [Kf];exact hd
   rw [List.flatMap_append] at hdd
   obtain ⟨d1,d2,d3⟩:=Dr.1 hdd
   rw [<-List.map_take] at h1
   rw [<-List.map_drop] at h2
   obtain ⟨F1,t1,n1,c1⟩:=gX _ _ f1 y SH (Anv _ ht) d1 (by rw [List.map_take];exact Anv _ hs) Vk.1 h1
   obtain ⟨F2,t2,n2,c2⟩:=gT _ _ f2 z YM (Anw _ ht) d2 (by rw [List.map_drop];exact Anw _ hs) Vk.2 h2
   refine ⟨F1++F2,⟨us.take a.size,us.drop a.size,F1,F2,(Kf _ _).symm,rfl,t1,t2⟩,Dr.2 ⟨n1,n2,λb hb b' vo e=>?_⟩,λb hb=>?_⟩
   ·subst e
    obtain ⟨l1,r1,g1,g2,g3⟩:=c1 b hb
    obtain ⟨l2,r2,g4,g5,g6⟩:=c2 b vo
    exact d3 l1 g1 l2 g4 (h.inj l1 l2 r1 r2 b g2 g5 g3 g6)
   ·have Jh: ∀l,(l∈(cs.take a.size).flatMap AC.refs\/l∈(cs.drop a.size).flatMap AC.refs)->l∈cs.flatMap AC.refs:= λl hl=>by
     rw [<-Ay,<-List.flatMap_append,Kf] at hl;exact hl
    rcases Ay.1 hb with hb|hb
    ·obtain ⟨l1,r1,g1,g2⟩:=c1 b hb;exact ⟨l1,r1,Jh l1 (.inl g1),g2⟩
    ·obtain ⟨l1,r1,g1,g2⟩:=c2 b hb;exact ⟨l1,r1,Jh l1 (.inr g1),g2⟩
  ·cases hv
 |_=>exact λcs us fr x hr ht _ hs Vk hv=>one _ cs us fr x rfl hr ht hs Vk hv
theorem OQ {π':Pi} {st st':St} {a:Act} (h:Bh X π st a w) (h':Bh X π' st' a w) (k:Lk π π' st.heap st'.heap) {ls:List Nat} (hg: ∀l∈ls,Av st'.heap l=none) {F:List Nat} (hF:F.Nodup)
  (hc: ∀b∈F,∃l r,l∈ls/\π l=some r/\r.cl b):hJ X w π' F:=by
 refine ⟨hF,λb hb=>?_⟩
 obtain ⟨l,r,h1,h2,h3⟩:=hc b hb
 have hp:=h.1.place l r b h2 h3
 refine ⟨hp.1,hp.2,λl2 r2 h4 h5=>?_⟩
 cases hh:Av st'.heap l2 with
 |none=>rw [(h'.1.heap l2).emp hh] at h4;cases h4
 |some b'=>
  have h6:=(k l2 b' hh).1
  rw [h6] at h4
  have:=h.1.inj l l2 r r2 b h2 h4 h3 h5
  subst this
  rw [hg l h1] at hh;cases hh
theorem c7 {st:St} {a:Act} (h:Bh X π st a w) {c:AV} {v:Value} (hc:Bm X w π st.heap c v) {c':AV} {st':St} (he:settle st c=some (c',st')):
  ∃π',Bh X π' st' a w/\Bm X w π' st'.heap c' v/\c'.settled=true/\Lk π π' st.heap st'.heap/\
   (Tw st c=true-> ∀(τ:Ty) (fr:Bool) (x:τ.den),τ.tree=true->Fw st' τ c'=some (fr,x)-> ∃F us,Db w F τ us x/\v=By τ us/\hJ X w π' F/\ ∀b∈F,∃l r,π l=some r/\r.cl b):=by
 have cell: ∀(a0:AC) (st':St) (π':Pi),Ia X w π st.heap a0 v->Bh X π' st' a w->(Dm st a0).settled=true->Lk π π' st.heap st'.heap->(∀l∈a0.refs,Av st'.heap l=none)->
   Su st a0=true-> ∀(τ:Ty) (fr:Bool) (x:τ.den),τ.tree=true->Fw st' τ (.at (Dm st a0))=some (fr,x)-> ∃F us,Db w F τ us x/\v=By τ us/\hJ X w π' F/\ ∀b∈F,∃l r,π l=some r/\r.cl b:=by
  intro a0 st1 cn hr h1 hs hk hg ht τ fr x Vk hv
  by_cases Ug:τ.Aq=true
  ·
   cases DV:Dm st a0 with
   |data Wh Ov y=>
    rw [DV,de] at hv
    split at hv
    ·rename_i het;subst het
     simp only [Aa,Ae] at hv
     obtain ⟨_,rfl⟩:=hv
     cases a0 with
     |data rR τ2 z=>
      simp only [Dm,AC.data.injEq] at DV
      obtain ⟨rfl,rfl,hz⟩:=DV
      have hz:=eq_of_heq hz
      subst hz
      obtain ⟨cs,yK,rfl⟩:=hr
      exact ⟨[],cs,Yc _ cs _ ht yK,rfl,⟨Nr,λb hb=>by cases hb⟩,λb hb=>by cases hb⟩
     |own l off len=>
      simp only [Dm] at DV
      split at DV
      ·simp only [AC.data.injEq] at DV;obtain ⟨_,h2,_⟩:=DV;subst h2;simp [Ty.Aq] at Ug
      ·simp only [AC.data.injEq] at DV;obtain ⟨_,h2,_⟩:=DV;subst h2;simp [Ty.Aq] at Ug
      ·cases DV
     |Lb l=>simp [Su] at ht
     |_=>simp [Dm] at DV
    ·cases hv
   |_=>rw [DV] at hv;simp only [Fw,Ug,Py] at hv;cases hv
  ·simp only [Hx] at Ug
   have yU:Dn st τ (Dm st a0)=some (fr,x):=by
    rw [<-bd (st:=st) (st':=st1) hs]
    cases DV:Dm st a0 with
    |data Wh Ov y=>
     rw [DV,de] at hv
     rw [Of]
     split at hv
     ·rename_i het;rw [Js het];exact hv
     ·rename_i het
      rw [dif_neg het]
      simp only [Ug,Cz,Ry,AU,Of] at hv
      rw [dif_neg het] at hv
      exact hv
    |Mo=>rw [DV] at hv;simp only [Fw,Ug,Cz,Ry] at hv;rw [Qy rfl] at hv;exact hv
    |Vw=>rw [DV] at hv;simp only [Fw,Ug,Cz,Ry] at hv;rw [Qy rfl] at hv;exact hv
    |_=>rw [DV] at hs;simp [AC.settled] at hs
   obtain ⟨F,f1,f2,f3⟩:=ow h.1 hr ht τ fr x Ug Vk yU
   exact ⟨F,[v],f1,by simp [By,Ug],OQ h h1 hk hg f2 f3,λb hb=>let ⟨l,r,_,q⟩:=f3 b hb;⟨l,r,q⟩⟩
 unfold settle at he
 split at he
 ·rename_i l off len
  split at he
  ·rename_i fr tr e tid xs hl
   simp only [Aa,Ae] at he
   obtain ⟨rfl,rfl⟩:=he
   obtain ⟨h1,m⟩:=h.freeze (fr:=fr) (.inl ⟨tr,tid,hl⟩)
   have:=m.ac (.own l off len) v hc
   simp only [Cv,Py] at this
   have iR:Dm st (.own l off len)= .data fr (.slice e) ((xs.drop off).take len):=by simp only [Dm,hl]
   refine ⟨_,h1,this,rfl,Lk.freeze st l fr e xs,λht=>?_⟩
   have:=cell (.own l off len) _ _ hc h1 (by rw [iR];rfl) (Lk.freeze st l fr e xs) (λk hk=>by rw [Ad.1 hk];exact St.Mt st l fr e xs) ht
   rw [iR] at this
   exact this
  ·rename_i e tid xs hl
   simp only [Aa,Ae] at he
   obtain ⟨rfl,rfl⟩:=he
   obtain ⟨h1,m⟩:=h.freeze (fr:=false) (.inr ⟨rfl,tid,hl⟩)
   have:=m.ac (.own l off len) v hc
   simp only [Cv,Py] at this
   have iR:Dm st (.own l off len)= .data false (.slice e) ((xs.drop off).take len):=by simp only [Dm,hl]
   refine ⟨_,h1,this,rfl,Lk.freeze st l false e xs,λht=>?_⟩
   have:=cell (.own l off len) _ _ hc h1 (by rw [iR];rfl) (Lk.freeze st l false e xs) (λk hk=>by rw [Ad.1 hk];exact St.Mt st l false e xs) ht
   rw [iR] at this
   exact this
  ·cases he
 ·rename_i l
  split at he
  ·rename_i vt mm hl
   simp only [Aa,Ae] at he
   obtain ⟨rfl,rfl⟩:=he
   obtain ⟨h1,m⟩:=h.Jn hl
   have:=m.ac (.Lb l) v hc
   simp only [Hp,Py] at this
   exact ⟨_,h1,this,rfl,Lk.Jn st l vt mm,λht=>by simp [Tw,Su] at ht⟩
  ·cases he
 ·rename_i a0 _ _
  split at he
  ·rename_i hs
   simp only [Aa,Ae] at he
   obtain ⟨rfl,rfl⟩:=he
   refine ⟨π,h,hc,hs,Lk.refl _ _,λht=>?_⟩
   have iR:=Tu (st:=st) hs
   have:=cell a0 st π hc h (by rw [iR];exact hs) (Lk.refl _ _) (λk hk=>by
    cases a0<;>simp [AC.settled] at hs<;>simp [AC.refs] at hk) ht
   rw [iR] at this
   exact this
  ·cases he
 ·rename_i cs
  cases hsc:Ic cs.length st cs with
  |none=>rw [hsc] at he;cases he
  |some p=>
   rw [hsc] at he
   simp only [Ak,Aa,Ae] at he
   obtain ⟨rfl,rfl⟩:=he
   obtain ⟨us,rfl,hr⟩:=hc
   obtain ⟨π',h2,h3,h4,h5,h6,h7⟩:=gI cs.length st π cs us p.1 p.2 h hr hsc
   refine ⟨π',h2,⟨us,rfl,h3⟩,h4,h5,λht τ fr x Vk hv=>?_⟩
   simp only [Tw,Ag] at ht
   simp only [Fw] at hv
   split at hv
   ·rename_i Ug
    rw [h6] at hv h4
    obtain ⟨F,f1,f2,f3⟩:=wB h.1 τ cs us fr x hr ht.1 (Yk ht.2) h4 Vk hv
    exact ⟨F,us,f1,by simp [By,Ug],OQ h h2 h5 h7 f2 f3,λb hb=>let ⟨l,r,_,q⟩:=f3 b hb;⟨l,r,q⟩⟩
   ·cases hv
 ·simp only [Aa,Ae] at he
  obtain ⟨rfl,rfl⟩:=he
  exact ⟨π,h,hc,rfl,Lk.refl _ _,λht=>by simp [Tw] at ht⟩
 ·cases he
theorem il {o i j s p:Nat} (Jl:i≠j) (hp:p<s):(o+i)*s+p<(o+j)*s\/(o+j)*s+s<=(o+i)*s+p:=by
 rcases Nat.lt_or_gt_of_ne Jl with h|h
 ·left
  have:(o+i+1)*s<=(o+j)*s:=Fz _ (by omega)
  rw [De,Vz] at this
  omega
 ·right
  have:(o+j+1)*s<=(o+i)*s:=Fz _ (by omega)
  rw [De,Vz] at this
  omega
theorem Iw {α:Type} (l ys:List α) (i k:Nat) (h:i+ys.length<=l.length):(Dt l i ys)[k]?=if k<i then l[k]? else if k<i+ys.length then ys[k-i]? else l[k]?:=by
 unfold Dt
 have t1:(l.take i).length=i:=by simp;omega
 split
 ·rename_i hk
  rw [Co,At (by omega),Cs,Ab hk]
 ·split
  ·rename_i hk
   rw [Co,As (by omega),t1,At (by omega)]
  ·rw [As (by simp;omega),Da]
   congr 1
   simp;omega
theorem Jq {α:Type} (l ys:List α) (i:Nat) (h:i+ys.length<=l.length):(Dt l i ys).length=l.length:=by
 unfold Dt;simp;omega
theorem AH (hT:Eb P T) {st:St} {a:Act} (h:Bh X π st a w) {t:TypeId} {e:Ty} (ht:T.ty t=some e) {l j:Nat} {r:Real} {vx:Value} {tid:TypeId} {fr Wh:Bool} {xs:List e.den} {x:e.den}
  (hp:π l=some r) {tr:Bool} (hl:Av st.heap l=some (.arr fr tr e tid xs)) (hj:j<xs.length) (hx:Ct w (Cx X.w0.heap.size X.Sc π Wh) e vx x):
  ∃w',(Instr.storeAt t (.pointer (some ⟨r.g,(r.o+j)*e.size,none⟩)) vx).run P w= .ok () w'/\Bh X π (st.Kq l (.arr (fr&&Wh) false e tid (xs.set j x))) a w':=by
 have hb:=(h.1.heap l).Rz hl
 simp only [Cg,Ks,hp] at hb
 obtain ⟨h1,cur,ti,h2,h3,h4,h5,h6,_⟩:=hb
 obtain ⟨es,gQ,hv⟩:=hx
 have kV:=Cells.len e es x gQ
 have Ye:(r.o+j)*e.size+es.length<=cur.size:=by
  have:(r.o+j+1)*e.size<=(r.o+r.cap)*e.size:=Fz _ (by omega)
  rw [De (r.o+j) 1,Vz] at this
  omega
 have Zt:(r.o+j)*e.size+es.length<=cur.toList.length:=by simpa using Ye
 have Vv:=Ws (P:=P) (w:=w) (hT.ty _ _ ht) r.g ((r.o+j)*e.size) vx es (by rw [hv];exact Lp e es x gQ) kV (Cells.plain e es x gQ) cur ti h2 Ye
 refine ⟨_,by simp only [Instr.storeAt,Instr.sureAddr];simpa using Vv,?_⟩
 refine h.set hl (b:= .arr (fr&&Wh) false e tid (xs.set j x)) ⟨rfl,by simp⟩ (by rw [hp];exact Nx w r.g _) λm=>?_
 simp only [Cg,Ks,hp]
 refine ⟨⟨h1.1,h1.2.1,λhf=>h1.2.2 (by simp only [Ag] at hf;exact hf.1)⟩,_,_,setRow_heap w r.g cur _ ti _ h2,by rw [Hc,Jq _ _ _ Zt];simpa using h3,h4,by simpa using h5,λi y hy=>?_,λhf=>by cases hf⟩
 rw [Eg] at hy
 split at hy
 ·rename_i rV;subst rV
  simp only [Aa] at hy;subst hy
  refine ⟨es,kV,λk u hu=>?_,(m.cells Wh e es x gQ).and_right⟩
  have hk:k<es.length:=(An.1 hu).1
  rw [Iz,Iw _ _ _ _ Zt,Ai (by omega),Ab (by omega)]
  rw [show (r.o+j)*e.size+k-(r.o+j)*e.size=k by omega];exact hu
 ·rename_i rV
  obtain ⟨mX,he',qg,xb⟩:=h6 i y hy
  refine ⟨mX,he',λk u hu=>?_,(m.cells fr e mX y xb).and_left⟩
  have hk:k<mX.length:=(An.1 hu).1
  have:=qg k u hu
  rw [Iz,Iw _ _ _ _ Zt]
  rcases il (o:=r.o) (i:=i) (j:=j) (s:=e.size) (p:=k) (Hr rV) (by omega) with Lr|vI
  ·rw [Ab Lr];simpa using this
  ·rw [Ai (by omega),Ai (by omega)];simpa using this
theorem l9: ∀(Fs:List (List Nat)) (i:Nat) (F':List Nat),(List.flatten Fs).Nodup->F'.Nodup->(∀b∈F',b∉List.flatten Fs)->(List.flatten (Fs.set i F')).Nodup/\ ∀b∈List.flatten (Fs.set i F'),b∈List.flatten Fs\/b∈F'
 | [],i,F',_,_,_=>by simp
 |G::Fs,0,F',hn,oE,hs=>by
  simp only [List.set_cons_zero,Ls] at hn hs⊢
  obtain ⟨n1,n2,n3⟩:=Dr.1 hn
  refine ⟨Dr.2 ⟨oE,n2,λa ha b hb e=>hs a ha (Cf _ (e▸hb))⟩,λb hb=>?_⟩
  rcases Ay.1 hb with hb|hb
  ·exact .inr hb
  ·exact .inl (Cf _ hb)
 |G::Fs,i+1,F',hn,oE,hs=>by
  simp only [List.set_cons_succ,Ls] at hn hs⊢
  obtain ⟨n1,n2,n3⟩:=Dr.1 hn
  obtain ⟨m1,m2⟩:=l9 Fs i F' n2 oE λb hb hm=>hs b hb (Cf _ hm)
  refine ⟨Dr.2 ⟨n1,m1,λa ha b hb e=>?_⟩,λb hb=>?_⟩
  ·subst e
   rcases m2 a hb with h|h
   ·exact n3 a ha a h rfl
   ·exact hs a h (Bk _ ha)
  ·rcases Ay.1 hb with hb|hb
   ·exact .inl (Bk _ hb)
   ·exact (m2 b hb).imp (Cf _) id
theorem wz (hT:Eb P T) {st:St} {a:Act} (h:Bh X π st a w) {t:TypeId} {e:Ty} (ht:T.ty t=some e) {l j:Nat} {r:Real} {vx:Value} {tid:TypeId} {fr Wh:Bool} {xs:List e.den} {x:e.den}
  (hp:π l=some r) (hl:Av st.heap l=some (.arr fr true e tid xs)) (hj:j<xs.length) (hx:Ct w (Cx X.w0.heap.size X.Sc π Wh) e vx x) {F:List Nat} {us:List Value} (hF:Db w F e us x) (YS:vx=By e us) (nv:hJ X w π F):
  ∃w',(Instr.storeAt t (.pointer (some ⟨r.g,(r.o+j)*e.size,none⟩)) vx).run P w= .ok () w'/\Bh X (Xc π l (some (r.plus F))) (st.Kq l (.arr (fr&&Wh) true e tid (xs.set j x))) a w':=by
 have hb:=(h.1.heap l).Rz hl
 simp only [Cg,Ks,hp] at hb
 obtain ⟨h1,cur,ti,h2,h3,h4,h5,h6,h7⟩:=hb
 obtain ⟨Fs,t1,t2,t3,t4⟩:=h7 trivial
 obtain ⟨es,gQ,hv⟩:=hx
 have kV:=Cells.len e es x gQ
 have Asj:us=es:=by
  have c1:=Lp e us x (Db.cells (S:= λ_=>False) F e us x hF λ_ _ h=>h)
  have c2:=Lp e es x gQ
  rw [<-YS,hv,c2] at c1
  simpa using c1.symm
 subst Asj
 have Ye:(r.o+j)*e.size+us.length<=cur.size:=by
  have:(r.o+j+1)*e.size<=(r.o+r.cap)*e.size:=Fz _ (by omega)
  rw [De (r.o+j) 1,Vz] at this
  omega
 have Zt:(r.o+j)*e.size+us.length<=cur.toList.length:=by simpa using Ye
 have Vv:=Ws (P:=P) (w:=w) (hT.ty _ _ ht) r.g ((r.o+j)*e.size) vx us (by rw [hv];exact Lp e us x gQ) kV (Cells.plain e us x gQ) cur ti h2 Ye
 have Qo:r.cl r.g:=h.1.sub l r _ hp h1.1
 have hng: ∀b∈F,b≠r.g:= λb hb e=>(nv.2 b hb).2.2 l r hp (e▸Qo)
 have PE:=l9 Fs j F (Ce.1 t2).2 nv.1 λb hb hm=>(nv.2 b hb).2.2 l r hp (t3 b hm)
 refine ⟨_,by simp only [Instr.storeAt,Instr.sureAddr];simpa using Vv,?_⟩
 refine h.Atb hl (b:= .arr (fr&&Wh) true e tid (xs.set j x)) ⟨rfl,by simp⟩ hp (λc hc=>⟨(nv.2 c hc).1,(nv.2 c hc).2.1,λm r0 _=>(nv.2 c hc).2.2 m r0⟩) (Nx w r.g _) λm=>?_
 simp only [Cg,Ks]
 have cell: ∀(i:Nat) (mX:List Value),i≠j->mX.length=e.size->(∀k u,mX[k]?=some u->cur[(r.o+i)*e.size+k]?=some u)-> ∀k u,mX[k]?=some u->(Dt cur.toList ((r.o+j)*e.size) us).toArray[(r.o+i)*e.size+k]?=some u:=by
  intro i mX jT he' qg k u hu
  have hk:k<mX.length:=(An.1 hu).1
  have:=qg k u hu
  rw [Iz,Iw _ _ _ _ Zt]
  rcases il (o:=r.o) (i:=i) (j:=j) (s:=e.size) (p:=k) jT (by omega) with Lr|vI
  ·rw [Ab Lr];simpa using this
  ·rw [Ai (by omega),Ai (by omega)];simpa using this
 have Aex: ∀k u,us[k]?=some u->(Dt cur.toList ((r.o+j)*e.size) us).toArray[(r.o+j)*e.size+k]?=some u:=by
  intro k u hu
  have hk:k<us.length:=(An.1 hu).1
  rw [Iz,Iw _ _ _ _ Zt,Ai (by omega),Ab (by omega)]
  rw [show (r.o+j)*e.size+k-(r.o+j)*e.size=k by omega];exact hu
 refine ⟨⟨h1.1,h1.2.1,λhf=>h1.2.2 (by simp only [Ag] at hf;exact hf.1)⟩,_,_,setRow_heap w r.g cur _ ti _ h2,by rw [Hc,Jq _ _ _ Zt,Xp];exact h3,h4,by rw [Dg];exact h5,λi y hy=>?_,λ_=>?_⟩
 ·rw [Eg] at hy
  split at hy
  ·rename_i rV;subst rV
   simp only [Aa] at hy;subst hy
   exact ⟨us,kV,Aex,(m.cells Wh e us x gQ).and_right⟩
  ·rename_i rV
   obtain ⟨mX,he',qg,xb⟩:=h6 i y hy
   exact ⟨mX,he',cell i mX (Hr rV) he' qg,(m.cells fr e mX y xb).and_left⟩
 ·refine ⟨Fs.set j F,by simp [t1],Ce.2 ⟨λhm=>?_,PE.1⟩,λb hb=>?_,λi y G hy hG=>?_⟩
  ·rcases PE.2 _ hm with h8|h8
   ·exact (Ce.1 t2).1 h8
   ·exact hng _ h8 rfl
  ·exact (PE.2 b hb).imp (t3 b) id
  ·rw [Eg] at hy hG
   split at hy
   ·rename_i rV;subst rV
    rw [Ab rfl] at hG
    rw [Ab (by omega)] at hG
    simp only [Aa] at hy hG;subst hy;subst hG
    exact ⟨us,kV,Aex,hF.Ft _ _ _ _ (by simp) λb hb=>setRow_other w r.g b _ (hng b hb)⟩
   ·rename_i rV
    rw [Ai rV] at hG
    obtain ⟨mX,he',qg,xb⟩:=t4 i y G hy hG
    exact ⟨mX,he',cell i mX (Hr rV) he' qg,xb.Ft _ _ _ _ (by simp) λb hb=>setRow_other w r.g b _ λe=>(Ce.1 t2).1 (Hz.2 ⟨G,Cd hG,e▸hb⟩)⟩
theorem RT {st:St} {a:Act} (h:Bh X π st a w) {τ:Ty} {l:Nat} {x:AV} {vx:Value} (hx:Bm X w π st.heap x vx):Bm X w π st.heap (XD T st τ l x) vx:=by
 unfold XD
 split
 ·rename_i hc
  split
  ·rename_i p hp
   have:=Nf τ x vx p.1 p.2 (Bi.1 hc).2 hx hp
   exact Ct.Jr this λb _ hA=>hA.imp id (Or.imp id λ⟨h1,_⟩=>by cases h1)
  ·exact hx
 ·exact hx
theorem r7 (hT:Eb P T) {st:St} {a:Act} (h:Bh X π st a w) (t:TypeId) (p x:AV) (vp vx:Value) (hp:Bm X w π st.heap p vp) (hx:Bm X w π st.heap x vx) (st':St)
  (he:Vg T st t p x=some st'): ∃w' π',(Instr.storeAt t vp vx).run P w= .ok () w'/\Bh X π' st' a w':=by
 unfold Vg at he
 split at he
 ·rename_i τ l i ht
  split at he
  ·rename_i tid vs cs hl hc
   split at he
   ·rename_i hle
    simp only [Aa] at he
    obtain ⟨w',h1,h2⟩:=AJ hT h ht hp (RT h hx) hl hc hle
    split at he
    ·rename_i Ki
     simp only [Ag,Ns] at Ki
     subst he
     obtain ⟨VV,h3⟩:=fH (T:=T) l i t τ cs.length 0 _ π (by omega) h2
     exact ⟨w',VV,h1,h3⟩
    ·subst he
     exact ⟨w',π,h1,h2⟩
   ·cases he
  ·cases he
 ·rename_i τ l j ht
  split at he
  ·rename_i x' st1 hs
   obtain ⟨cn,h1,h2,h3,h4,h5⟩:=c7 h hx hs
   split at he
   ·rename_i fr tr e tid xs Wh y hl hv
    split at he
    ·rename_i kX;subst kX
     split at he
     ·rename_i hj
      simp only [Aa] at he;subst he
      obtain ⟨r,b,sz,n,g1,g0,g2,g3,rfl⟩:=hp
      obtain ⟨k1,b',f,k2,k3⟩:=h4 l _ hl
      rw [g1] at k2;cases k2
      have g4:=Gz OB.row k3
      rw [show (OB.map f b).row=b.row by cases b<;>rfl,g0] at g4
      simp only [OB.row,Aa,Ae] at g4
      obtain ⟨rfl,rfl⟩:=g4
      cases nz:(tr&&(Tw st x&&τ.tree)) with
      |false=>
       obtain ⟨w',q1,q2⟩:=AH hT h1 ht (k1.trans g3) hl hj (Nf _ x' vx Wh y h3 h2 hv)
       exact ⟨w',cn,q1,q2⟩
      |true=>
       simp only [Ag] at nz
       obtain ⟨rfl,htv,kX⟩:=nz
       obtain ⟨F,us,f1,f2,f3,_⟩:=h5 htv τ Wh y kX hv
       obtain ⟨w',q1,q2⟩:=wz hT h1 ht (k1.trans g3) hl hj (Nf _ x' vx Wh y h3 h2 hv) f1 f2 f3
       exact ⟨w',_,q1,q2⟩
     ·cases he
    ·cases he
   ·cases he
  ·cases he
 ·cases he
theorem ux {S:Nat->Prop} {e:Ty} {v:Value} {ys:List e.den} (h:Cells w S (.slice e) [v] ys):
  ∃ad c,v= .slice ad ys.length c/\(ys= []\/ ∃g o,ad=some ⟨g,o,none⟩/\ ∃news:List Value,news.length=ys.length*e.size/\(∀j u,news[j]?=some u->w.cell? ⟨g,o+j,none⟩=some u)/\(∀u∈news,u.oneCell'=true)/\(∀j u,j<ys.length*e.size->w.cell? ⟨g,o+j,none⟩=some u->news[j]?=some u)/\
   ∀(i:Nat) (y:e.den),ys[i]?=some y-> ∃es:List Value,es.length=e.size/\(∀j u,es[j]?=some u->news[i*e.size+j]?=some u)/\Cells w S e es y):=by
 simp only [Cells] at h
 obtain ⟨ad,len,cap,hv,hl,sZ,JQ⟩:=h
 simp only [Hb,bg] at hv
 subst hl
 refine ⟨ad,cap,hv,?_⟩
 rcases JQ with h0|⟨g,o,rfl,hg,hn,Jh⟩
 ·exact .inl h0
 ·right
  refine ⟨g,o,rfl,(List.range (ys.length*e.size)).map λj=>(w.cell? ⟨g,o+j,none⟩).getD undef,by simp,?_⟩
  have key: ∀k,k<ys.length*e.size-> ∃u,w.cell? ⟨g,o+k,none⟩=some u/\u.oneCell'=true:=by
   intro k hk
   have hs:0<e.size:=by
    rcases Ua e.size with h|h
    ·rw [h] at hk;simp at hk
    ·exact h
   have hi:k/e.size<ys.length:=(Nat.div_lt_iff_lt_mul hs).2 hk
   obtain ⟨es,gQ,hc,bN⟩:=Jh (k/e.size) _ (Ac hi)
   have hm:k%e.size<es.length:=by rw [gQ];exact Nat.mod_lt _ hs
   have:=hc (k%e.size) _ (Ac hm)
   rw [Gy,show k/e.size*e.size+k%e.size=k by rw [Nat.mul_comm];exact Nat.div_add_mod k e.size] at this
   exact ⟨_,this,Cells.plain e es _ bN _ (Al hm)⟩
  refine ⟨λj u hu=>?_,λu hu=>?_,λj u hj hu=>by rw [Fk,Xr hj];simp [hu],λi y hy=>?_⟩
  ·rw [Fk] at hu
   have hj:j<ys.length*e.size:=by
    by_cases hj:j<ys.length*e.size
    ·exact hj
    ·rw [Dw (by simpa using hj)] at hu;cases hu
   rw [Xr hj] at hu
   obtain ⟨u',fm,_⟩:=key j hj
   simp only [Ak,fm,Dd,Aa] at hu
   rw [fm,hu]
  ·obtain ⟨j,hj,rfl⟩:=Bj.1 hu
   obtain ⟨u',fm,h1⟩:=key j (Es.1 hj)
   rw [fm];exact h1
  ·obtain ⟨es,gQ,hc,bN⟩:=Jh i y hy
   refine ⟨es,gQ,λj u hu=>?_,bN⟩
   have hi:=(An.1 hy).1
   have hj:=(An.1 hu).1
   have Lr:i*e.size+j<ys.length*e.size:=by
    have:(i+1)*e.size<=ys.length*e.size:=Fz _ (by omega)
    rw [De,Vz] at this
    omega
   rw [Fk,Xr Lr]
   have:=hc j u hu
   rw [Gy] at this
   simp [this]
end
end Go.Proofs.YtkkdpknjohcekaaGreat
