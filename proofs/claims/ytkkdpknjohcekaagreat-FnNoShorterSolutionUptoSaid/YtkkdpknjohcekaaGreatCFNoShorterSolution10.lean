/-
  Part 11 of the proof that the statement FnNoShorterSolution holds.
-/
import Derived.Test.YtkkdpknjohcekaaGreatCFNoShorterSolution09
namespace Go.Proofs.YtkkdpknjohcekaaGreat
open Go.RowKit
section
variable {P:Program} {T:Tab} {X:Ctx} {w w':World} {π:Pi} {H:List (Nat×OB)}
theorem OB.map_map (f g:AC->AC) (b:OB):OB.map g (OB.map f b)=OB.map (λc=>g (f c)) b:=by
 cases b with
 |var t vs=>simp [OB.map,Function.comp_def]
 |_=>rfl
theorem OB.FL (b:OB):OB.map (λc=>c) b=b:=by
 cases b with
 |var t vs=>simp [OB.map]
 |_=>rfl
def Lm (π π':Pi) (H H':List (Nat×OB)):Prop:= ∀l b',Aw H' l=some b'->π' l=π l/\ ∃b f,Aw H l=some b/\b'=OB.map f b
theorem Lm.refl (π:Pi) (H:List (Nat×OB)):Lm π π H H:= λ_ b h=>⟨rfl,b,λc=>c,h,(OB.FL b).symm⟩
theorem Lm.trans {cz WG π3:Pi} {H1 H2 H3:List (Nat×OB)} (h:Lm cz WG H1 H2) (h':Lm WG π3 H2 H3):Lm cz π3 H1 H3:= λl b hb=>by
 obtain ⟨e1,b1,f1,h1,rfl⟩:=h' l b hb
 obtain ⟨e2,b2,f2,h2,rfl⟩:=h l b1 h1
 exact ⟨e1.trans e2,b2,_,h2,OB.map_map f2 f1 b2⟩
theorem Lm.freeze (st:St) (l:Nat) (fr:Bool) (e:Ty) (xs:List e.den):Lm π (Xe π l none) st.heap (st.freeze l fr e xs).heap:= λk b hb=>by
 by_cases hk:k=l
 ·subst hk;rw [St.Mu] at hb;cases hb
 ·rw [St.Sj st l k fr e xs hk] at hb
  cases h0:Aw st.heap k with
  |none=>rw [h0] at hb;cases hb
  |some b0=>
   rw [h0] at hb
   simp only [Al,Aa] at hb
   exact ⟨Gk π none hk,b0,_,rfl,hb.symm⟩
theorem Lm.Jj (st:St) (l:Nat) (v:Ty) (m:ByteArray->Option v.den):Lm π (Xe π l none) st.heap (st.Jj l v m).heap:= λk b hb=>by
 by_cases hk:k=l
 ·subst hk;rw [St.Tk] at hb;cases hb
 ·rw [St.Rp st l k v m hk] at hb
  cases h0:Aw st.heap k with
  |none=>rw [h0] at hb;cases hb
  |some b0=>
   rw [h0] at hb
   simp only [Al,Aa] at hb
   exact ⟨Gk π none hk,b0,_,rfl,hb.symm⟩
theorem Lm.gone {π':Pi} {H':List (Nat×OB)} (k:Lm π π' H H') {l:Nat} (h:Aw H l=none):Aw H' l=none:=by
 cases hb:Aw H' l with
 |none=>rfl
 |some b=>
  obtain ⟨_,b0,f,h1,_⟩:=k l b hb
  rw [h] at h1;cases h1
def Dp (st:St):AC->AC
 | .own l off len=>match st.at l with
  |some (.arr fr _ e _ xs)=> .data fr (.slice e) ((xs.drop off).take len)
  |some (.He e _ xs)=> .data false (.slice e) ((xs.drop off).take len)
  |_=> .own l off len
 | .Lc l=>match st.at l with
  |some (.Vy v m)=> .data false (.smap v) m
  |_=> .Lc l
 |c=>c
theorem Tp {st:St} {c:AC} (h:c.settled=true):Dp st c=c:=by
 cases c<;>simp [AC.settled] at h<;>rfl
theorem wx {st st':St} {f:AC->AC} {l:Nat} (hH: ∀m,m≠l->Aw st'.heap m=(Aw st.heap m).map (OB.map f)) {c:AC} (hc: ∀k∈c.refs,k≠l):Dp st' c=Dp st c:=by
 cases c with
 |own k off len=>
  have hk:k≠l:=hc k (by simp [AC.refs])
  simp only [Dp,St.at,hH k hk]
  cases Aw st.heap k with
  |none=>rfl
  |some b=>cases b<;>rfl
 |Lc k=>
  have hk:k≠l:=hc k (by simp [AC.refs])
  simp only [Dp,St.at,hH k hk]
  cases Aw st.heap k with
  |none=>rfl
  |some b=>cases b<;>rfl
 |_=>rfl
theorem hZ {a:Act} : ∀(n:Nat) (st:St) (π:Pi) (cs:List AC) (us:List Value) (j0:List AC) (st':St),Bh X π st a w->Gd X w π st.heap cs us->
  Ie n st cs=some (j0,st')-> ∃π',Bh X π' st' a w/\Gd X w π' st'.heap j0 us/\j0.all (·.settled)=true/\Lm π π' st.heap st'.heap/\j0=cs.map (Dp st)/\
   (∀k,k∈cs.flatMap AC.refs->Aw st'.heap k=none)
 |0,st,π,cs,us,j0,st',h,hr,he=>by
  simp only [Ie] at he
  split at he
  ·rename_i hs
   simp only [Aa,Ae] at he
   obtain ⟨rfl,rfl⟩:=he
   have EM:=Az.1 hs
   exact ⟨π,h,hr,hs,Lm.refl _ _,((Eu λc hc=>Tp (EM c hc)).trans (List.map_id'' (λ_=>rfl) cs)).symm,λk hk=>by
    obtain ⟨c,hc,CA⟩:=Hz.1 hk
    have:=EM c hc
    cases c<;>simp [AC.settled] at this<;>simp [AC.refs] at CA⟩
  ·cases he
 |n+1,st,π,cs,us,j0,st',h,hr,he=>by
  simp only [Ie] at he
  have step: ∀(f:AC->AC) (l:Nat) (st1:St),Bh X (Xe π l none) st1 a w->Move X w w π (Xe π l none) st.heap st1.heap f->Aw st1.heap l=none->(∀m,m≠l->Aw st1.heap m=(Aw st.heap m).map (OB.map f))->
    Lm π (Xe π l none) st.heap st1.heap->(∀c∈cs,(∀k∈c.refs,k≠l)->f c=c)->(∀c∈cs,l∈c.refs->(f c).refs= []/\(Dp st1 (f c)).settled=true->f c=Dp st c)->
    (∀c∈cs,l∈c.refs->(f c).refs= [])->Ie n st1 (cs.map f)=some (j0,st')->
    ∃π',Bh X π' st' a w/\Gd X w π' st'.heap j0 us/\j0.all (·.settled)=true/\Lm π π' st.heap st'.heap/\j0=cs.map (Dp st)/\(∀k,k∈cs.flatMap AC.refs->Aw st'.heap k=none):=by
   intro f l st1 h1 m hl hH hK hf0 hf1 hf2 he
   obtain ⟨π',h2,h3,h4,h5,h6,h7⟩:=hZ n st1 _ (cs.map f) us j0 st' h1 (m.acs hr) he
   refine ⟨π',h2,h3,h4,hK.trans h5,?_,λk hk=>?_⟩
   ·rw [h6,List.map_map]
    refine Eu λc hc=>?_
    simp only [Function.comp]
    by_cases Rf:l∈c.refs
    ·have Jt:=Az.1 h4
     have rm:Dp st1 (f c)∈j0:=by rw [h6];exact Bi.2 ⟨f c,Bi.2 ⟨c,hc,rfl⟩,rfl⟩
     have hs:=Jt _ rm
     have h8:=hf1 c hc Rf ⟨hf2 c hc Rf,hs⟩
     have h9:Dp st1 (f c)=f c:=by
      have:=hf2 c hc Rf
      cases hfc:f c<;>rw [hfc] at this<;>first|(simp [AC.refs] at this;done)|rfl
     rw [h9,h8]
    ·have Jr: ∀k∈c.refs,k≠l:= λk hk e=>Rf (e▸hk)
     rw [hf0 c hc Jr]
     exact wx hH Jr
   ·obtain ⟨c,hc,CA⟩:=Hz.1 hk
    by_cases Tb:k=l
    ·subst Tb;exact h5.gone hl
    ·by_cases Rf:l∈c.refs
     ·
      have Jt:=Az.1 h4
      have rm:Dp st1 (f c)∈j0:=by rw [h6];exact Bi.2 ⟨f c,Bi.2 ⟨c,hc,rfl⟩,rfl⟩
      have hs:=Jt _ rm
      have h8:=hf1 c hc Rf ⟨hf2 c hc Rf,hs⟩
      have h9:Dp st1 (f c)=f c:=by
       have:=hf2 c hc Rf
       cases hfc:f c<;>rw [hfc] at this<;>first|(simp [AC.refs] at this;done)|rfl
      rw [h9,h8] at hs
      cases c with
      |clo g Ee=>simp [Dp,AC.settled] at hs
      |own k' _ _=>simp [AC.refs] at Rf CA;exact absurd (CA.trans Rf.symm) Tb
      |Lc k'=>simp [AC.refs] at Rf CA;exact absurd (CA.trans Rf.symm) Tb
      |Hu k' _=>simp [AC.refs] at Rf CA;exact absurd (CA.trans Rf.symm) Tb
      |Kw k' _=>simp [AC.refs] at Rf CA;exact absurd (CA.trans Rf.symm) Tb
      |sub k' _ _=>simp [AC.refs] at Rf CA;exact absurd (CA.trans Rf.symm) Tb
      |Kq k' _ _=>simp [AC.refs] at Rf CA;exact absurd (CA.trans Rf.symm) Tb
      |_=>simp [AC.refs] at CA
     ·have Jr: ∀k∈c.refs,k≠l:= λk hk e=>Rf (e▸hk)
      exact h7 k (Hz.2 ⟨f c,Bi.2 ⟨c,hc,rfl⟩,by rw [hf0 c hc Jr];exact CA⟩)
  have CC: ∀(st1:St) (c:AC),(Dp st1 c).settled=true->c≠ .undef:= λst1 c hs e=>by rw [e] at hs;simp [Dp,AC.settled] at hs
  split at he
  ·rename_i hf
   simp only [Aa,Ae] at he
   obtain ⟨rfl,rfl⟩:=he
   have EM: ∀c∈cs,c.settled=true:= λc hc=>by have:=List.find?_eq_none.1 hf c hc;simpa using this
   exact ⟨π,h,hr,Az.2 EM,Lm.refl _ _,((Eu λc hc=>Tp (EM c hc)).trans (List.map_id'' (λ_=>rfl) cs)).symm,λk hk=>by
    obtain ⟨c,hc,CA⟩:=Hz.1 hk
    have:=EM c hc
    cases c<;>simp [AC.settled] at this<;>simp [AC.refs] at CA⟩
  ·rename_i l off len hf
   split at he
   ·rename_i fr tr e tid xs hl
    unfold St.at at hl
    obtain ⟨h1,m⟩:=h.freeze (fr:=fr) (.inl ⟨tr,tid,hl⟩)
    refine step _ l _ h1 m (St.Mu st l fr e xs) (λm hm=>St.Sj st l m fr e xs hm) (Lm.freeze st l fr e xs) (λc _ hc=>je hc) (λc _ Rf hs=>?_) (λc _ Rf=>?_) he
    ·cases c with
     |own k o n=>have:k=l:=(Ad.1 Rf).symm
                 subst this;simp only [Cx,Ab,Dp,St.at,hl]
     |Hu k o=>have:k=l:=(Ad.1 Rf).symm
              subst this;simp only [Cx,Ab] at hs;exact absurd rfl (CC _ _ hs.2)
     |Kw k o=>have:k=l:=(Ad.1 Rf).symm
              subst this;simp only [Cx,Ab] at hs;exact absurd rfl (CC _ _ hs.2)
     |sub k o o2=>have:k=l:=(Ad.1 Rf).symm
                  subst this;simp only [Cx,Ab] at hs;exact absurd rfl (CC _ _ hs.2)
     |Kq k o o2=>have:k=l:=(Ad.1 Rf).symm
                 subst this;simp only [Cx,Ab] at hs;exact absurd rfl (CC _ _ hs.2)
     |Lc k=>have:k=l:=(Ad.1 Rf).symm
            subst this;simp only [Cx,Ab] at hs;exact absurd rfl (CC _ _ hs.2)
     |clo g Ee=>
      simp only [Cx] at hs
      rw [Ab (by simpa [AC.refs] using Rf)] at hs
      exact absurd rfl (CC _ _ hs.2)
     |_=>simp [AC.refs] at Rf
    ·cases c with
     |own k o n=>have:k=l:=(Ad.1 Rf).symm
                 subst this;simp only [Cx,Ab];rfl
     |Hu k o=>have:k=l:=(Ad.1 Rf).symm
              subst this;simp only [Cx,Ab];rfl
     |Kw k o=>have:k=l:=(Ad.1 Rf).symm
              subst this;simp only [Cx,Ab];rfl
     |sub k o o2=>have:k=l:=(Ad.1 Rf).symm
                  subst this;simp only [Cx,Ab];rfl
     |Kq k o o2=>have:k=l:=(Ad.1 Rf).symm
                 subst this;simp only [Cx,Ab];rfl
     |Lc k=>have:k=l:=(Ad.1 Rf).symm
            subst this;simp only [Cx,Ab];rfl
     |clo g Ee=>simp only [Cx];rw [Ab (by simpa [AC.refs] using Rf)];rfl
     |_=>simp [AC.refs] at Rf
   ·rename_i e tid xs hl
    unfold St.at at hl
    obtain ⟨h1,m⟩:=h.freeze (fr:=false) (.inr ⟨rfl,tid,hl⟩)
    refine step _ l _ h1 m (St.Mu st l false e xs) (λm hm=>St.Sj st l m false e xs hm) (Lm.freeze st l false e xs) (λc _ hc=>je hc) (λc _ Rf hs=>?_) (λc _ Rf=>?_) he
    ·cases c with
     |own k o n=>have:k=l:=(Ad.1 Rf).symm
                 subst this;simp only [Cx,Ab,Dp,St.at,hl]
     |Hu k o=>have:k=l:=(Ad.1 Rf).symm
              subst this;simp only [Cx,Ab] at hs;exact absurd rfl (CC _ _ hs.2)
     |Kw k o=>have:k=l:=(Ad.1 Rf).symm
              subst this;simp only [Cx,Ab] at hs;exact absurd rfl (CC _ _ hs.2)
     |sub k o o2=>have:k=l:=(Ad.1 Rf).symm
                  subst this;simp only [Cx,Ab] at hs;exact absurd rfl (CC _ _ hs.2)
     |Kq k o o2=>have:k=l:=(Ad.1 Rf).symm
                 subst this;simp only [Cx,Ab] at hs;exact absurd rfl (CC _ _ hs.2)
     |Lc k=>have:k=l:=(Ad.1 Rf).symm
            subst this;simp only [Cx,Ab] at hs;exact absurd rfl (CC _ _ hs.2)
     |clo g Ee=>
      simp only [Cx] at hs
      rw [Ab (by simpa [AC.refs] using Rf)] at hs
      exact absurd rfl (CC _ _ hs.2)
     |_=>simp [AC.refs] at Rf
    ·cases c with
     |own k o n=>have:k=l:=(Ad.1 Rf).symm
                 subst this;simp only [Cx,Ab];rfl
     |Hu k o=>have:k=l:=(Ad.1 Rf).symm
              subst this;simp only [Cx,Ab];rfl
     |Kw k o=>have:k=l:=(Ad.1 Rf).symm
              subst this;simp only [Cx,Ab];rfl
     |sub k o o2=>have:k=l:=(Ad.1 Rf).symm
                  subst this;simp only [Cx,Ab];rfl
     |Kq k o o2=>have:k=l:=(Ad.1 Rf).symm
                 subst this;simp only [Cx,Ab];rfl
     |Lc k=>have:k=l:=(Ad.1 Rf).symm
            subst this;simp only [Cx,Ab];rfl
     |clo g Ee=>simp only [Cx];rw [Ab (by simpa [AC.refs] using Rf)];rfl
     |_=>simp [AC.refs] at Rf
   ·cases he
  ·rename_i l hf
   split at he
   ·rename_i v mm hl
    unfold St.at at hl
    obtain ⟨h1,m⟩:=h.Jj hl
    refine step _ l _ h1 m (St.Tk st l v mm) (λm hm=>St.Rp st l m v mm hm) (Lm.Jj st l v mm) (λc _ hc=>tb hc) (λc _ Rf hs=>?_) (λc _ Rf=>?_) he
    ·cases c with
     |Lc k=>have:k=l:=(Ad.1 Rf).symm
            subst this;simp only [Hl,Ab,Dp,St.at,hl]
     |Hu k o=>have:k=l:=(Ad.1 Rf).symm
              subst this;simp only [Hl,Ab] at hs;exact absurd rfl (CC _ _ hs.2)
     |Kw k o=>have:k=l:=(Ad.1 Rf).symm
              subst this;simp only [Hl,Ab] at hs;exact absurd rfl (CC _ _ hs.2)
     |sub k o o2=>have:k=l:=(Ad.1 Rf).symm
                  subst this;simp only [Hl,Ab] at hs;exact absurd rfl (CC _ _ hs.2)
     |Kq k o o2=>have:k=l:=(Ad.1 Rf).symm
                 subst this;simp only [Hl,Ab] at hs;exact absurd rfl (CC _ _ hs.2)
     |own k o n=>have:k=l:=(Ad.1 Rf).symm
                 subst this;simp only [Hl,Ab] at hs;exact absurd rfl (CC _ _ hs.2)
     |clo g Ee=>
      simp only [Hl] at hs
      rw [Ab (by simpa [AC.refs] using Rf)] at hs
      exact absurd rfl (CC _ _ hs.2)
     |_=>simp [AC.refs] at Rf
    ·cases c with
     |own k o n=>have:k=l:=(Ad.1 Rf).symm
                 subst this;simp only [Hl,Ab];rfl
     |Hu k o=>have:k=l:=(Ad.1 Rf).symm
              subst this;simp only [Hl,Ab];rfl
     |Kw k o=>have:k=l:=(Ad.1 Rf).symm
              subst this;simp only [Hl,Ab];rfl
     |sub k o o2=>have:k=l:=(Ad.1 Rf).symm
                  subst this;simp only [Hl,Ab];rfl
     |Kq k o o2=>have:k=l:=(Ad.1 Rf).symm
                 subst this;simp only [Hl,Ab];rfl
     |Lc k=>have:k=l:=(Ad.1 Rf).symm
            subst this;simp only [Hl,Ab];rfl
     |clo g Ee=>simp only [Hl];rw [Ab (by simpa [AC.refs] using Rf)];rfl
     |_=>simp [AC.refs] at Rf
   ·cases he
  ·cases he
def iD (X:Ctx) (w:World) (π:Pi) (F:List Nat):Prop:=F.Nodup/\ ∀b∈F,(X.w0.heap.size<=b\/X.gv b)/\b<w.heap.size/\ ∀l r,π l=some r-> ¬r.cl b
theorem Yg {S:Nat->Prop} : ∀(e:Ty) (es:List Value) (x:e.den),e.flat=true->Cells w S e es x->Db w [] e es x
 | .int k,cs,n,_,h=>⟨rfl,h⟩
 | .bool,cs,n,_,h=>⟨rfl,h⟩
 | .str,cs,n,_,h=>⟨rfl,h⟩
 | .unit,cs,n,_,h=>⟨rfl,h⟩
 | .pair a r,cs,x,hf,h=>by
  simp only [Ty.flat,Af] at hf
  simp only [Cells] at h
  simp only [Db]
  obtain ⟨c1,c2,h1,h2,h3⟩:=h
  exact ⟨c1,c2,[],[],h1,rfl,Yg a c1 x.1 hf.1 h2,Yg r c2 x.2 hf.2 h3⟩
 | .slice _,_,_,hf,_=>by simp [Ty.flat] at hf
 | .oslice _,_,_,hf,_=>by simp [Ty.flat] at hf
 | .ptr _,_,_,hf,_=>by simp [Ty.flat] at hf
 | .optr _,_,_,hf,_=>by simp [Ty.flat] at hf
 | .smap _,_,_,hf,_=>by simp [Ty.flat] at hf
 | .clo _ _,_,_,hf,_=>by simp [Ty.flat] at hf
theorem Ta {Fs:List (List Nat)} (off len:Nat) (b:Nat) (h:b∈List.flatten ((Fs.drop off).take len)):b∈List.flatten Fs:=by
 obtain ⟨F,hF,hb⟩:=Ia.1 h
 exact Ia.2 ⟨F,dV (Fy hF),hb⟩
theorem ic {α:Type} {a b:List (List α)} (h:a.Sublist b):(List.flatten a).Sublist (List.flatten b):=by
 induction h with
 |slnil=>exact List.Sublist.refl _
 |cons c _ ih=>simp only [Lu];exact ih.trans (List.sublist_append_right _ _)
 |cons_cons c _ ih=>simp only [Lu];exact List.Sublist.append (List.Sublist.refl _) ih
theorem mF {Fs:List (List Nat)} (off len:Nat) (h:(List.flatten Fs).Nodup):(List.flatten ((Fs.drop off).take len)).Nodup:=by
 have h1:((Fs.drop off).take len).Sublist Fs:=(List.take_sublist len _).trans (List.drop_sublist off Fs)
 exact h.sublist (ic h1)
theorem kM {P:Nat->Prop} {r:Real} {off len:Nat} {v:Value} {e:Ty} {tid:TypeId} {xs:List e.den} {cur:Array Value} (h2:w.heap[r.g]?=some (.cells cur tid (0,0))) (aH:cur.size=(r.o+r.cap)*e.size) (tp:r.cap<=maxLen)
  (hlen:off+len<=xs.length) (hv:Im (some r) e.size off len v) (ht:Xv w P r.g r.o cur e xs) (hg:P r.g):
  ∃F,Db w F (.slice e) [v] ((xs.drop off).take len)/\F.Nodup/\ ∀b∈F,P b:=by
 have YM:((xs.drop off).take len).length=len:=by simp;omega
 obtain ⟨ad,rfl,hc,ha⟩:=hv
 obtain ⟨Fs,t1,t2,t3,t4⟩:=ht
 ·refine ⟨r.g::List.flatten ((Fs.drop off).take len),⟨some ad,len,r.cap-off,rfl,YM.symm,by omega, .inr ⟨ad,r.g,(r.o+off)*e.size,_,rfl,λh0=>ha (by omega),⟨cur,tid,r.o+off,h2,rfl,by rw [aH];congr 1;omega,by omega⟩,rfl,by simp;omega,λi x F hx hF=>?_⟩⟩,?_,λb hb=>?_⟩
  ·have hi:i<len:=by
    have:=(Am.1 hx).1
    rw [YM] at this;exact this
   have hx':xs[off+i]?=some x:=by rw [Ct,Ab hi,Da] at hx;exact hx
   have hF':Fs[off+i]?=some F:=by rw [Ct,Ab hi,Da] at hF;exact hF
   obtain ⟨es,he,hj,vL⟩:=t4 (off+i) x F hx' hF'
   refine ⟨es,he,λj u hu=>?_,vL⟩
   rw [cellOf h2]
   have:=hj j u hu
   rw [<-this]
   congr 1
   rw [<-Gy,De (r.o+off) i]
  ·have:=Cd.1 t2
   exact Cd.2 ⟨λhm=>this.1 (Ta off len _ hm),mF off len this.2⟩
  ·rcases Bg.1 hb with rfl|hb
   ·exact hg
   ·exact t3 b (Ta off len b hb)
theorem oK {st:St} (h:Nm X w π st.heap) {c:AC} {v:Value} (hc:Ib X w π st.heap c v) (ht:Sv st c=true) (τ:Ty) (fr:Bool) (x:τ.den) (Ud:τ.Aq=false) (vR:τ.tree=true)
  (hv:Dr st τ (Dp st c)=some (fr,x)): ∃F,Db w F τ [v] x/\F.Nodup/\ ∀b∈F,∃l r,l∈c.refs/\π l=some r/\r.cl b:=by
 cases c with
 |data Wh Ox y=>
  simp only [Sv] at ht
  simp only [Dp,Oj] at hv
  split at hv
  ·rename_i he;subst he
   simp only [Aa,Ae] at hv
   obtain ⟨_,rfl⟩:=hv
   exact ⟨[],Yg Ox _ _ ht (Cu.Sp Ud hc),Nu,λb hb=>by cases hb⟩
  ·unfold iY at hv
   split at hv
   ·simp [Ty.flat] at ht
   ·simp [Ty.flat] at ht
   ·cases hv
 |Mp=>
  have hc:v= .slice none 0 0:=hc
  subst hc
  cases τ with
  |slice e=>
   simp only [Dp,Dr,Aa,Ae] at hv
   obtain ⟨_,rfl⟩:=hv
   exact ⟨[],⟨none,0,0,rfl,rfl,Ap _, .inl ⟨rfl,rfl,rfl,rfl⟩⟩,Nu,λb hb=>by cases hb⟩
  |oslice e=>simp [Ty.tree] at vR
  |_=>simp [Dp,Dr] at hv
 |own l off len=>
  simp only [Sv] at ht
  split at ht
  ·rename_i Wh tr e tid xs hl
   have Mc:=hl
   unfold St.at at hl
   simp only [Dp,Mc,Oj] at hv
   split at hv
   ·rename_i he;subst he
    simp only [Aa,Ae] at hv
    obtain ⟨_,rfl⟩:=hv
    obtain ⟨h2,h3⟩:=Pa hc hl
    have hb:=(h.heap l).Rz hl
    simp only [Ch,Kr] at hb
    cases hp:π l with
    |none=>
     rw [hp] at h3
     obtain ⟨rfl,rfl,rfl⟩:=h3
     exact ⟨[],⟨none,0,0,rfl,by simp,Ap _, .inl ⟨by simp,rfl,rfl,rfl⟩⟩,Nu,λb hb=>by cases hb⟩
    |some r=>
     rw [hp] at hb h3
     obtain ⟨k1,cur,_,k2,k3,k4,k5,k6,k7⟩:=hb
     have QG:Xv w r.cl r.g r.o cur e xs:=by
      simp only [Mi] at ht
      rcases ht with ht|ht
      ·exact k7 ht
      ·refine ⟨List.replicate xs.length [],by simp,by simp,by simp,λi x F hx hF=>?_⟩
       obtain ⟨es,e1,e2,e3⟩:=k6 i x hx
       have:F= []:=by
        have:=Cb hF
        exact Fq this
       subst this
       exact ⟨es,e1,e2,Yg e es x ht e3⟩
     obtain ⟨F,f1,f2,f3⟩:=kM k2 k3 k4 h2 h3 QG (h.sub l r _ hp k1.1)
     exact ⟨F,f1,f2,λb hb=>⟨l,r,by simp [AC.refs],hp,f3 b hb⟩⟩
   ·cases τ<;>simp [iY] at hv
  ·rename_i e tid xs hl
   have Mc:=hl
   unfold St.at at hl
   simp only [Dp,Mc,Oj] at hv
   split at hv
   ·rename_i he;subst he
    simp only [Aa,Ae] at hv
    obtain ⟨_,rfl⟩:=hv
    obtain ⟨h2,h3⟩:=cj hc hl
    have hb:=(h.heap l).Rz hl
    simp only [Ch,Ol] at hb
    cases hp:π l with
    |none=>
     rw [hp] at h3
     obtain ⟨rfl,rfl,rfl⟩:=h3
     exact ⟨[],⟨none,0,0,rfl,by simp,Ap _, .inl ⟨by simp,rfl,rfl,rfl⟩⟩,Nu,λb hb=>by cases hb⟩
    |some r=>
     rw [hp] at hb h3
     obtain ⟨k1,cur,_,k2,k3,k4,k5,k7⟩:=hb
     obtain ⟨F,f1,f2,f3⟩:=kM k2 k3 k4 h2 h3 k7 k1
     exact ⟨F,f1,f2,λb hb=>⟨l,r,by simp [AC.refs],hp,h.sub l r b hp (f3 b hb)⟩⟩
   ·cases τ<;>simp [iY] at hv
  ·cases ht
 |_=>simp [Sv] at ht
theorem Yo: ∀ {l:List Nat},az l=true->l.Nodup
 | [],_=>Nu
 |a::r,h=>by
  simp only [az,Af,Es,List.contains_eq_mem,decide_eq_false_iff_not] at h
  exact Cd.2 ⟨h.1,Yo h.2⟩
theorem bj {st st':St} {τ:Ty} {c:AC} (h:c.settled=true):Dr st' τ c=Dr st τ c:=by
 cases c<;>simp [AC.settled] at h<;>cases τ<;>rfl
theorem wK {st st':St} (h:Nm X w π st.heap): ∀(τ:Ty) (cs:List AC) (us:List Value) (fr:Bool) (x:τ.den),Gd X w π st.heap cs us->cs.all (Sv st)=true->(cs.flatMap AC.refs).Nodup->
  (cs.map (Dp st)).all (·.settled)=true->τ.tree=true->Fb st' τ (cs.map (Dp st))=some (fr,x)-> ∃F,Db w F τ us x/\F.Nodup/\ ∀b∈F,∃l r,l∈cs.flatMap AC.refs/\π l=some r/\r.cl b:=by
 have one: ∀(τ:Ty) (cs:List AC) (us:List Value) (fr:Bool) (x:τ.den),τ.Aq=false->Gd X w π st.heap cs us->cs.all (Sv st)=true->
   (cs.map (Dp st)).all (·.settled)=true->τ.tree=true->Fb st' τ (cs.map (Dp st))=some (fr,x)-> ∃F,Db w F τ us x/\F.Nodup/\ ∀b∈F,∃l r,l∈cs.flatMap AC.refs/\π l=some r/\r.cl b:=by
  intro τ cs us fr x Ud hr ht hs Vj hv
  rw [Uk Ud] at hv
  rcases cs with _|⟨c,_|⟨d,cs⟩⟩
  ·cases hv
  ·simp only [Ca,List.map_nil] at hv
   obtain ⟨u,hu,_,hc⟩:=hr.2 0 c rfl
   have hl:us.length=1:=hr.1
   obtain ⟨u',rfl⟩:=Ea.1 hl
   simp at hu;subst hu
   rw [bj (st:=st) (by simpa using hs)] at hv
   obtain ⟨F,f1,f2,f3⟩:=oK h hc (by simpa using ht) τ fr x Ud Vj hv
   exact ⟨F,f1,f2,λb hb=>by obtain ⟨l,r,g1,g2⟩:=f3 b hb;exact ⟨l,r,by simpa using g1,g2⟩⟩
  ·cases hv
 intro τ
 induction τ with
 |unit=>
  intro cs us fr x hr ht hd hs Vj hv
  cases cs with
  |nil=>have:us= []:=Ci hr.1;subst this;exact ⟨[],⟨rfl,rfl⟩,Nu,λb hb=>by cases hb⟩
  |cons c cs=>simp [Fb] at hv
 |pair a r iA iw=>
  intro cs us fr x hr ht hd hs Vj hv
  simp only [Ty.tree,Af] at Vj
  simp only [Fb] at hv
  split at hv
  ·rename_i f1 y f2 z h1 h2
   simp only [Aa,Ae] at hv
   obtain ⟨rfl,rfl⟩:=hv
   have SV:Gd X w π st.heap (cs.take a.size) (us.take a.size):=by have:=a9 hr 0 a.size;simpa using this
   have YT:Gd X w π st.heap (cs.drop a.size) (us.drop a.size):=
    ⟨by simp [hr.1],λi c hc=>by
     rw [Da] at hc⊢
     exact hr.2 _ c hc⟩
   have Aof: ∀ {p:AC->Bool} {l:List AC} (n:Nat),l.all p=true->(l.take n).all p=true:= λn hl=>Az.2 λc hc=>Az.1 hl c (Fy hc)
   have Aog: ∀ {p:AC->Bool} {l:List AC} (n:Nat),l.all p=true->(l.drop n).all p=true:= λn hl=>Az.2 λc hc=>Az.1 hl c (dV hc)
   have hdd:((cs.take a.size++cs.drop a.size).flatMap AC.refs).Nodup:=by rw [Kf];exact hd
   rw [List.flatMap_append] at hdd
   obtain ⟨d1,d2,d3⟩:=Du.1 hdd
   rw [<-List.map_take] at h1
   rw [<-List.map_drop] at h2
   obtain ⟨F1,t1,n1,c1⟩:=iA _ _ f1 y SV (Aof _ ht) d1 (by rw [List.map_take];exact Aof _ hs) Vj.1 h1
   obtain ⟨F2,t2,n2,c2⟩:=iw _ _ f2 z YT (Aog _ ht) d2 (by rw [List.map_drop];exact Aog _ hs) Vj.2 h2
   refine ⟨F1++F2,⟨us.take a.size,us.drop a.size,F1,F2,(Kf _ _).symm,rfl,t1,t2⟩,Du.2 ⟨n1,n2,λb hb b' vz e=>?_⟩,λb hb=>?_⟩
   ·subst e
    obtain ⟨l1,r1,g1,g2,g3⟩:=c1 b hb
    obtain ⟨l2,r2,g4,g5,g6⟩:=c2 b vz
    exact d3 l1 g1 l2 g4 (h.inj l1 l2 r1 r2 b g2 g5 g3 g6)
   ·have Jt: ∀l,(l∈(cs.take a.size).flatMap AC.refs\/l∈(cs.drop a.size).flatMap AC.refs)->l∈cs.flatMap AC.refs:= λl hl=>by
     rw [<-Bb,<-List.flatMap_append,Kf] at hl;exact hl
    rcases Bb.1 hb with hb|hb
    ·obtain ⟨l1,r1,g1,g2⟩:=c1 b hb;exact ⟨l1,r1,Jt l1 (.inl g1),g2⟩
    ·obtain ⟨l1,r1,g1,g2⟩:=c2 b hb;exact ⟨l1,r1,Jt l1 (.inr g1),g2⟩
  ·cases hv
 |_=>exact λcs us fr x hr ht _ hs Vj hv=>one _ cs us fr x rfl hr ht hs Vj hv
theorem PI {π':Pi} {st st':St} {a:Act} (h:Bh X π st a w) (h':Bh X π' st' a w) (k:Lm π π' st.heap st'.heap) {ls:List Nat} (hg: ∀l∈ls,Aw st'.heap l=none) {F:List Nat} (hF:F.Nodup)
  (hc: ∀b∈F,∃l r,l∈ls/\π l=some r/\r.cl b):iD X w π' F:=by
 refine ⟨hF,λb hb=>?_⟩
 obtain ⟨l,r,h1,h2,h3⟩:=hc b hb
 have hp:=h.1.place l r b h2 h3
 refine ⟨hp.1,hp.2,λl2 r2 h4 h5=>?_⟩
 cases hh:Aw st'.heap l2 with
 |none=>rw [(h'.1.heap l2).emp hh] at h4;cases h4
 |some b'=>
  have h6:=(k l2 b' hh).1
  rw [h6] at h4
  have:=h.1.inj l l2 r r2 b h2 h4 h3 h5
  subst this
  rw [hg l h1] at hh;cases hh
theorem cn {st:St} {a:Act} (h:Bh X π st a w) {c:AV} {v:Value} (hc:Bm X w π st.heap c v) {c':AV} {st':St} (he:settle st c=some (c',st')):
  ∃π',Bh X π' st' a w/\Bm X w π' st'.heap c' v/\c'.settled=true/\Lm π π' st.heap st'.heap/\
   (Ts st c=true-> ∀(τ:Ty) (fr:Bool) (x:τ.den),τ.tree=true->Fv st' τ c'=some (fr,x)-> ∃F us,Db w F τ us x/\v=Bz τ us/\iD X w π' F/\ ∀b∈F,∃l r,π l=some r/\r.cl b):=by
 have cell: ∀(a0:AC) (st':St) (π':Pi),Ib X w π st.heap a0 v->Bh X π' st' a w->(Dp st a0).settled=true->Lm π π' st.heap st'.heap->(∀l∈a0.refs,Aw st'.heap l=none)->
   Sv st a0=true-> ∀(τ:Ty) (fr:Bool) (x:τ.den),τ.tree=true->Fv st' τ (.at (Dp st a0))=some (fr,x)-> ∃F us,Db w F τ us x/\v=Bz τ us/\iD X w π' F/\ ∀b∈F,∃l r,π l=some r/\r.cl b:=by
  intro a0 st1 cz hr h1 hs hk hg ht τ fr x Vj hv
  by_cases Ud:τ.Aq=true
  ·
   cases EN:Dp st a0 with
   |data Wh Ox y=>
    rw [EN,dq] at hv
    split at hv
    ·rename_i het;subst het
     simp only [Aa,Ae] at hv
     obtain ⟨_,rfl⟩:=hv
     cases a0 with
     |data rY τ2 z=>
      simp only [Dp,AC.data.injEq] at EN
      obtain ⟨rfl,rfl,hz⟩:=EN
      have hz:=eq_of_heq hz
      subst hz
      obtain ⟨cs,vL,rfl⟩:=hr
      exact ⟨[],cs,Yg _ cs _ ht vL,rfl,⟨Nu,λb hb=>by cases hb⟩,λb hb=>by cases hb⟩
     |own l off len=>
      simp only [Dp] at EN
      split at EN
      ·simp only [AC.data.injEq] at EN;obtain ⟨_,h2,_⟩:=EN;subst h2;simp [Ty.Aq] at Ud
      ·simp only [AC.data.injEq] at EN;obtain ⟨_,h2,_⟩:=EN;subst h2;simp [Ty.Aq] at Ud
      ·cases EN
     |Lc l=>simp [Sv] at ht
     |_=>simp [Dp] at EN
    ·cases hv
   |_=>rw [EN] at hv;simp only [Fv,Ud,Qa] at hv;cases hv
  ·simp only [Hy] at Ud
   have EO:Dr st τ (Dp st a0)=some (fr,x):=by
    rw [<-bj (st:=st) (st':=st1) hs]
    cases EN:Dp st a0 with
    |data Wh Ox y=>
     rw [EN,dq] at hv
     rw [Oj]
     split at hv
     ·rename_i het;rw [Jq het];exact hv
     ·rename_i het
      rw [dif_neg het]
      simp only [Ud,Cz,Ry,BN,Oj] at hv
      rw [dif_neg het] at hv
      exact hv
    |Mp=>rw [EN] at hv;simp only [Fv,Ud,Cz,Ry] at hv;rw [Rd rfl] at hv;exact hv
    |Vx=>rw [EN] at hv;simp only [Fv,Ud,Cz,Ry] at hv;rw [Rd rfl] at hv;exact hv
    |_=>rw [EN] at hs;simp [AC.settled] at hs
   obtain ⟨F,f1,f2,f3⟩:=oK h.1 hr ht τ fr x Ud Vj EO
   exact ⟨F,[v],f1,by simp [Bz,Ud],PI h h1 hk hg f2 f3,λb hb=>let ⟨l,r,_,q⟩:=f3 b hb;⟨l,r,q⟩⟩
 unfold settle at he
 split at he
 ·rename_i l off len
  split at he
  ·rename_i fr tr e tid xs hl
   simp only [Aa,Ae] at he
   obtain ⟨rfl,rfl⟩:=he
   obtain ⟨h1,m⟩:=h.freeze (fr:=fr) (.inl ⟨tr,tid,hl⟩)
   have:=m.ac (.own l off len) v hc
   simp only [Cx,Qa] at this
   have jk:Dp st (.own l off len)= .data fr (.slice e) ((xs.drop off).take len):=by simp only [Dp,hl]
   refine ⟨_,h1,this,rfl,Lm.freeze st l fr e xs,λht=>?_⟩
   have:=cell (.own l off len) _ _ hc h1 (by rw [jk];rfl) (Lm.freeze st l fr e xs) (λk hk=>by rw [Ad.1 hk];exact St.Mu st l fr e xs) ht
   rw [jk] at this
   exact this
  ·rename_i e tid xs hl
   simp only [Aa,Ae] at he
   obtain ⟨rfl,rfl⟩:=he
   obtain ⟨h1,m⟩:=h.freeze (fr:=false) (.inr ⟨rfl,tid,hl⟩)
   have:=m.ac (.own l off len) v hc
   simp only [Cx,Qa] at this
   have jk:Dp st (.own l off len)= .data false (.slice e) ((xs.drop off).take len):=by simp only [Dp,hl]
   refine ⟨_,h1,this,rfl,Lm.freeze st l false e xs,λht=>?_⟩
   have:=cell (.own l off len) _ _ hc h1 (by rw [jk];rfl) (Lm.freeze st l false e xs) (λk hk=>by rw [Ad.1 hk];exact St.Mu st l false e xs) ht
   rw [jk] at this
   exact this
  ·cases he
 ·rename_i l
  split at he
  ·rename_i vt mm hl
   simp only [Aa,Ae] at he
   obtain ⟨rfl,rfl⟩:=he
   obtain ⟨h1,m⟩:=h.Jj hl
   have:=m.ac (.Lc l) v hc
   simp only [Hl,Qa] at this
   exact ⟨_,h1,this,rfl,Lm.Jj st l vt mm,λht=>by simp [Ts,Sv] at ht⟩
  ·cases he
 ·rename_i a0 _ _
  split at he
  ·rename_i hs
   simp only [Aa,Ae] at he
   obtain ⟨rfl,rfl⟩:=he
   refine ⟨π,h,hc,hs,Lm.refl _ _,λht=>?_⟩
   have jk:=Tp (st:=st) hs
   have:=cell a0 st π hc h (by rw [jk];exact hs) (Lm.refl _ _) (λk hk=>by
    cases a0<;>simp [AC.settled] at hs<;>simp [AC.refs] at hk) ht
   rw [jk] at this
   exact this
  ·cases he
 ·rename_i cs
  cases hsc:Ie cs.length st cs with
  |none=>rw [hsc] at he;cases he
  |some p=>
   rw [hsc] at he
   simp only [Al,Aa,Ae] at he
   obtain ⟨rfl,rfl⟩:=he
   obtain ⟨us,rfl,hr⟩:=hc
   obtain ⟨π',h2,h3,h4,h5,h6,h7⟩:=hZ cs.length st π cs us p.1 p.2 h hr hsc
   refine ⟨π',h2,⟨us,rfl,h3⟩,h4,h5,λht τ fr x Vj hv=>?_⟩
   simp only [Ts,Af] at ht
   simp only [Fv] at hv
   split at hv
   ·rename_i Ud
    rw [h6] at hv h4
    obtain ⟨F,f1,f2,f3⟩:=wK h.1 τ cs us fr x hr ht.1 (Yo ht.2) h4 Vj hv
    exact ⟨F,us,f1,by simp [Bz,Ud],PI h h2 h5 h7 f2 f3,λb hb=>let ⟨l,r,_,q⟩:=f3 b hb;⟨l,r,q⟩⟩
   ·cases hv
 ·simp only [Aa,Ae] at he
  obtain ⟨rfl,rfl⟩:=he
  exact ⟨π,h,hc,rfl,Lm.refl _ _,λht=>by simp [Ts] at ht⟩
 ·cases he
theorem iO {o i j s p:Nat} (Jr:i≠j) (hp:p<s):(o+i)*s+p<(o+j)*s\/(o+j)*s+s<=(o+i)*s+p:=by
 rcases Nat.lt_or_gt_of_ne Jr with h|h
 ·left
  have:(o+i+1)*s<=(o+j)*s:=Fz _ (by omega)
  rw [De,Vz] at this
  omega
 ·right
  have:(o+j+1)*s<=(o+i)*s:=Fz _ (by omega)
  rw [De,Vz] at this
  omega
theorem Iv {α:Type} (l ys:List α) (i k:Nat) (h:i+ys.length<=l.length):(Dv l i ys)[k]?=if k<i then l[k]? else if k<i+ys.length then ys[k-i]? else l[k]?:=by
 unfold Dv
 have t1:(l.take i).length=i:=by simp;omega
 split
 ·rename_i hk
  rw [Cv,At (by omega),Ct,Ab hk]
 ·split
  ·rename_i hk
   rw [Cv,Ar (by omega),t1,At (by omega)]
  ·rw [Ar (by simp;omega),Da]
   congr 1
   simp;omega
theorem Jo {α:Type} (l ys:List α) (i:Nat) (h:i+ys.length<=l.length):(Dv l i ys).length=l.length:=by
 unfold Dv;simp;omega
theorem AY (hT:Ed P T) {st:St} {a:Act} (h:Bh X π st a w) {t:TypeId} {e:Ty} (ht:T.ty t=some e) {l j:Nat} {r:Real} {vx:Value} {tid:TypeId} {fr Wh:Bool} {xs:List e.den} {x:e.den}
  (hp:π l=some r) {tr:Bool} (hl:Aw st.heap l=some (.arr fr tr e tid xs)) (hj:j<xs.length) (hx:Cu w (Cy X.w0.heap.size X.Sc π Wh) e vx x):
  ∃w',(Instr.storeAt t (.pointer (some ⟨r.g,(r.o+j)*e.size,none⟩)) vx).run P w= .ok () w'/\Bh X π (st.Kp l (.arr (fr&&Wh) false e tid (xs.set j x))) a w':=by
 have hb:=(h.1.heap l).Rz hl
 simp only [Ch,Kr,hp] at hb
 obtain ⟨h1,cur,ti,h2,h3,h4,h5,h6,_⟩:=hb
 obtain ⟨es,ir,hv⟩:=hx
 have lq:=Cells.len e es x ir
 have Yi:(r.o+j)*e.size+es.length<=cur.size:=by
  have:(r.o+j+1)*e.size<=(r.o+r.cap)*e.size:=Fz _ (by omega)
  rw [De (r.o+j) 1,Vz] at this
  omega
 have Zw:(r.o+j)*e.size+es.length<=cur.toList.length:=by simpa using Yi
 have Vw:=Wv (P:=P) (w:=w) (hT.ty _ _ ht) r.g ((r.o+j)*e.size) vx es (by rw [hv];exact Lq e es x ir) lq (Cells.plain e es x ir) cur ti h2 Yi
 refine ⟨_,by simp only [Instr.storeAt,Instr.sureAddr];simpa using Vw,?_⟩
 refine h.set hl (b:= .arr (fr&&Wh) false e tid (xs.set j x)) ⟨rfl,by simp⟩ (by rw [hp];exact Ob w r.g _) λm=>?_
 simp only [Ch,Kr,hp]
 refine ⟨⟨h1.1,h1.2.1,λhf=>h1.2.2 (by simp only [Af] at hf;exact hf.1)⟩,_,_,setRow_heap w r.g cur _ ti _ h2,by rw [Ha,Jo _ _ _ Zw];simpa using h3,h4,by simpa using h5,λi y hy=>?_,λhf=>by cases hf⟩
 rw [Ei] at hy
 split at hy
 ·rename_i s7;subst s7
  simp only [Aa] at hy;subst hy
  refine ⟨es,lq,λk u hu=>?_,(m.cells Wh e es x ir).and_right⟩
  have hk:k<es.length:=(Am.1 hu).1
  rw [Ix,Iv _ _ _ _ Zw,Ai (by omega),Ab (by omega)]
  rw [show (r.o+j)*e.size+k-(r.o+j)*e.size=k by omega];exact hu
 ·rename_i s7
  obtain ⟨nv,he',tu,xq⟩:=h6 i y hy
  refine ⟨nv,he',λk u hu=>?_,(m.cells fr e nv y xq).and_left⟩
  have hk:k<nv.length:=(Am.1 hu).1
  have:=tu k u hu
  rw [Ix,Iv _ _ _ _ Zw]
  rcases iO (o:=r.o) (i:=i) (j:=j) (s:=e.size) (p:=k) (Hs s7) (by omega) with Li|vM
  ·rw [Ab Li];simpa using this
  ·rw [Ai (by omega),Ai (by omega)];simpa using this
theorem lF: ∀(Fs:List (List Nat)) (i:Nat) (F':List Nat),(List.flatten Fs).Nodup->F'.Nodup->(∀b∈F',b∉List.flatten Fs)->(List.flatten (Fs.set i F')).Nodup/\ ∀b∈List.flatten (Fs.set i F'),b∈List.flatten Fs\/b∈F'
 | [],i,F',_,_,_=>by simp
 |G::Fs,0,F',hn,s8,hs=>by
  simp only [List.set_cons_zero,Lu] at hn hs⊢
  obtain ⟨n1,n2,n3⟩:=Du.1 hn
  refine ⟨Du.2 ⟨s8,n2,λa ha b hb e=>hs a ha (Cg _ (e▸hb))⟩,λb hb=>?_⟩
  rcases Bb.1 hb with hb|hb
  ·exact .inr hb
  ·exact .inl (Cg _ hb)
 |G::Fs,i+1,F',hn,s8,hs=>by
  simp only [List.set_cons_succ,Lu] at hn hs⊢
  obtain ⟨n1,n2,n3⟩:=Du.1 hn
  obtain ⟨m1,m2⟩:=lF Fs i F' n2 s8 λb hb hm=>hs b hb (Cg _ hm)
  refine ⟨Du.2 ⟨n1,m1,λa ha b hb e=>?_⟩,λb hb=>?_⟩
  ·subst e
   rcases m2 a hb with h|h
   ·exact n3 a ha a h rfl
   ·exact hs a h (Bk _ ha)
  ·rcases Bb.1 hb with hb|hb
   ·exact .inl (Bk _ hb)
   ·exact (m2 b hb).imp (Cg _) id
theorem wI (hT:Ed P T) {st:St} {a:Act} (h:Bh X π st a w) {t:TypeId} {e:Ty} (ht:T.ty t=some e) {l j:Nat} {r:Real} {vx:Value} {tid:TypeId} {fr Wh:Bool} {xs:List e.den} {x:e.den}
  (hp:π l=some r) (hl:Aw st.heap l=some (.arr fr true e tid xs)) (hj:j<xs.length) (hx:Cu w (Cy X.w0.heap.size X.Sc π Wh) e vx x) {F:List Nat} {us:List Value} (hF:Db w F e us x) (YX:vx=Bz e us) (nN:iD X w π F):
  ∃w',(Instr.storeAt t (.pointer (some ⟨r.g,(r.o+j)*e.size,none⟩)) vx).run P w= .ok () w'/\Bh X (Xe π l (some (r.plus F))) (st.Kp l (.arr (fr&&Wh) true e tid (xs.set j x))) a w':=by
 have hb:=(h.1.heap l).Rz hl
 simp only [Ch,Kr,hp] at hb
 obtain ⟨h1,cur,ti,h2,h3,h4,h5,h6,h7⟩:=hb
 obtain ⟨Fs,t1,t2,t3,t4⟩:=h7 trivial
 obtain ⟨es,ir,hv⟩:=hx
 have lq:=Cells.len e es x ir
 have At2:us=es:=by
  have c1:=Lq e us x (Db.cells (S:= λ_=>False) F e us x hF λ_ _ h=>h)
  have c2:=Lq e es x ir
  rw [<-YX,hv,c2] at c1
  simpa using c1.symm
 subst At2
 have Yi:(r.o+j)*e.size+us.length<=cur.size:=by
  have:(r.o+j+1)*e.size<=(r.o+r.cap)*e.size:=Fz _ (by omega)
  rw [De (r.o+j) 1,Vz] at this
  omega
 have Zw:(r.o+j)*e.size+us.length<=cur.toList.length:=by simpa using Yi
 have Vw:=Wv (P:=P) (w:=w) (hT.ty _ _ ht) r.g ((r.o+j)*e.size) vx us (by rw [hv];exact Lq e us x ir) lq (Cells.plain e us x ir) cur ti h2 Yi
 have Qj:r.cl r.g:=h.1.sub l r _ hp h1.1
 have hng: ∀b∈F,b≠r.g:= λb hb e=>(nN.2 b hb).2.2 l r hp (e▸Qj)
 have QB:=lF Fs j F (Cd.1 t2).2 nN.1 λb hb hm=>(nN.2 b hb).2.2 l r hp (t3 b hm)
 refine ⟨_,by simp only [Instr.storeAt,Instr.sureAddr];simpa using Vw,?_⟩
 refine h.Ats hl (b:= .arr (fr&&Wh) true e tid (xs.set j x)) ⟨rfl,by simp⟩ hp (λc hc=>⟨(nN.2 c hc).1,(nN.2 c hc).2.1,λm r0 _=>(nN.2 c hc).2.2 m r0⟩) (Ob w r.g _) λm=>?_
 simp only [Ch,Kr]
 have cell: ∀(i:Nat) (nv:List Value),i≠j->nv.length=e.size->(∀k u,nv[k]?=some u->cur[(r.o+i)*e.size+k]?=some u)-> ∀k u,nv[k]?=some u->(Dv cur.toList ((r.o+j)*e.size) us).toArray[(r.o+i)*e.size+k]?=some u:=by
  intro i nv jh he' tu k u hu
  have hk:k<nv.length:=(Am.1 hu).1
  have:=tu k u hu
  rw [Ix,Iv _ _ _ _ Zw]
  rcases iO (o:=r.o) (i:=i) (j:=j) (s:=e.size) (p:=k) jh (by omega) with Li|vM
  ·rw [Ab Li];simpa using this
  ·rw [Ai (by omega),Ai (by omega)];simpa using this
 have Afa: ∀k u,us[k]?=some u->(Dv cur.toList ((r.o+j)*e.size) us).toArray[(r.o+j)*e.size+k]?=some u:=by
  intro k u hu
  have hk:k<us.length:=(Am.1 hu).1
  rw [Ix,Iv _ _ _ _ Zw,Ai (by omega),Ab (by omega)]
  rw [show (r.o+j)*e.size+k-(r.o+j)*e.size=k by omega];exact hu
 refine ⟨⟨h1.1,h1.2.1,λhf=>h1.2.2 (by simp only [Af] at hf;exact hf.1)⟩,_,_,setRow_heap w r.g cur _ ti _ h2,by rw [Ha,Jo _ _ _ Zw,Xs];exact h3,h4,by rw [Df];exact h5,λi y hy=>?_,λ_=>?_⟩
 ·rw [Ei] at hy
  split at hy
  ·rename_i s7;subst s7
   simp only [Aa] at hy;subst hy
   exact ⟨us,lq,Afa,(m.cells Wh e us x ir).and_right⟩
  ·rename_i s7
   obtain ⟨nv,he',tu,xq⟩:=h6 i y hy
   exact ⟨nv,he',cell i nv (Hs s7) he' tu,(m.cells fr e nv y xq).and_left⟩
 ·refine ⟨Fs.set j F,by simp [t1],Cd.2 ⟨λhm=>?_,QB.1⟩,λb hb=>?_,λi y G hy hG=>?_⟩
  ·rcases QB.2 _ hm with h8|h8
   ·exact (Cd.1 t2).1 h8
   ·exact hng _ h8 rfl
  ·exact (QB.2 b hb).imp (t3 b) id
  ·rw [Ei] at hy hG
   split at hy
   ·rename_i s7;subst s7
    rw [Ab rfl] at hG
    rw [Ab (by omega)] at hG
    simp only [Aa] at hy hG;subst hy;subst hG
    exact ⟨us,lq,Afa,hF.Fp _ _ _ _ (by simp) λb hb=>setRow_other w r.g b _ (hng b hb)⟩
   ·rename_i s7
    rw [Ai s7] at hG
    obtain ⟨nv,he',tu,xq⟩:=t4 i y G hy hG
    exact ⟨nv,he',cell i nv (Hs s7) he' tu,xq.Fp _ _ _ _ (by simp) λb hb=>setRow_other w r.g b _ λe=>(Cd.1 t2).1 (Ia.2 ⟨G,Cb hG,e▸hb⟩)⟩
theorem SF {st:St} {a:Act} (h:Bh X π st a w) {τ:Ty} {l:Nat} {x:AV} {vx:Value} (hx:Bm X w π st.heap x vx):Bm X w π st.heap (XN T st τ l x) vx:=by
 unfold XN
 split
 ·rename_i hc
  split
  ·rename_i p hp
   have:=Nh τ x vx p.1 p.2 (Bj.1 hc).2 hx hp
   exact Cu.Jp this λb _ hA=>hA.imp id (Or.imp id λ⟨h1,_⟩=>by cases h1)
  ·exact hx
 ·exact hx
theorem rh (hT:Ed P T) {st:St} {a:Act} (h:Bh X π st a w) (t:TypeId) (p x:AV) (vp vx:Value) (hp:Bm X w π st.heap p vp) (hx:Bm X w π st.heap x vx) (st':St)
  (he:Vg T st t p x=some st'): ∃w' π',(Instr.storeAt t vp vx).run P w= .ok () w'/\Bh X π' st' a w':=by
 unfold Vg at he
 split at he
 ·rename_i τ l i ht
  split at he
  ·rename_i tid vs cs hl hc
   split at he
   ·rename_i hle
    simp only [Aa] at he
    obtain ⟨w',h1,h2⟩:=BA hT h ht hp (SF h hx) hl hc hle
    split at he
    ·rename_i Ki
     simp only [Af,Nv] at Ki
     subst he
     obtain ⟨WG,h3⟩:=ga (T:=T) l i t τ cs.length 0 _ π (by omega) h2
     exact ⟨w',WG,h1,h3⟩
    ·subst he
     exact ⟨w',π,h1,h2⟩
   ·cases he
  ·cases he
 ·rename_i τ l j ht
  split at he
  ·rename_i x' st1 hs
   obtain ⟨cz,h1,h2,h3,h4,h5⟩:=cn h hx hs
   split at he
   ·rename_i fr tr e tid xs Wh y hl hv
    split at he
    ·rename_i lx;subst lx
     split at he
     ·rename_i hj
      simp only [Aa] at he;subst he
      obtain ⟨r,b,sz,n,g1,g0,g2,g3,rfl⟩:=hp
      obtain ⟨k1,b',f,k2,k3⟩:=h4 l _ hl
      rw [g1] at k2;cases k2
      have g4:=Ga OB.row k3
      rw [show (OB.map f b).row=b.row by cases b<;>rfl,g0] at g4
      simp only [OB.row,Aa,Ae] at g4
      obtain ⟨rfl,rfl⟩:=g4
      cases nP:(tr&&(Ts st x&&τ.tree)) with
      |false=>
       obtain ⟨w',q1,q2⟩:=AY hT h1 ht (k1.trans g3) hl hj (Nh _ x' vx Wh y h3 h2 hv)
       exact ⟨w',cz,q1,q2⟩
      |true=>
       simp only [Af] at nP
       obtain ⟨rfl,htv,lx⟩:=nP
       obtain ⟨F,us,f1,f2,f3,_⟩:=h5 htv τ Wh y lx hv
       obtain ⟨w',q1,q2⟩:=wI hT h1 ht (k1.trans g3) hl hj (Nh _ x' vx Wh y h3 h2 hv) f1 f2 f3
       exact ⟨w',_,q1,q2⟩
     ·cases he
    ·cases he
   ·cases he
  ·cases he
 ·cases he
theorem uH {S:Nat->Prop} {e:Ty} {v:Value} {ys:List e.den} (h:Cells w S (.slice e) [v] ys):
  ∃ad c,v= .slice ad ys.length c/\(ys= []\/ ∃g o,ad=some ⟨g,o,none⟩/\ ∃news:List Value,news.length=ys.length*e.size/\(∀j u,news[j]?=some u->w.cell? ⟨g,o+j,none⟩=some u)/\(∀u∈news,u.oneCell'=true)/\(∀j u,j<ys.length*e.size->w.cell? ⟨g,o+j,none⟩=some u->news[j]?=some u)/\
   ∀(i:Nat) (y:e.den),ys[i]?=some y-> ∃es:List Value,es.length=e.size/\(∀j u,es[j]?=some u->news[i*e.size+j]?=some u)/\Cells w S e es y):=by
 simp only [Cells] at h
 obtain ⟨ad,len,cap,hv,hl,tp,KJ⟩:=h
 simp only [Gz,bl] at hv
 subst hl
 refine ⟨ad,cap,hv,?_⟩
 rcases KJ with h0|⟨g,o,rfl,hg,hn,Jt⟩
 ·exact .inl h0
 ·right
  refine ⟨g,o,rfl,(List.range (ys.length*e.size)).map λj=>(w.cell? ⟨g,o+j,none⟩).getD undef,by simp,?_⟩
  have key: ∀k,k<ys.length*e.size-> ∃u,w.cell? ⟨g,o+k,none⟩=some u/\u.oneCell'=true:=by
   intro k hk
   have hs:0<e.size:=by
    rcases Tv e.size with h|h
    ·rw [h] at hk;simp at hk
    ·exact h
   have hi:k/e.size<ys.length:=(Nat.div_lt_iff_lt_mul hs).2 hk
   obtain ⟨es,ir,hc,bX⟩:=Jt (k/e.size) _ (Ac hi)
   have hm:k%e.size<es.length:=by rw [ir];exact Nat.mod_lt _ hs
   have:=hc (k%e.size) _ (Ac hm)
   rw [Gy,show k/e.size*e.size+k%e.size=k by rw [Nat.mul_comm];exact Nat.div_add_mod k e.size] at this
   exact ⟨_,this,Cells.plain e es _ bX _ (Ak hm)⟩
  refine ⟨λj u hu=>?_,λu hu=>?_,λj u hj hu=>by rw [Ff,Xu hj];simp [hu],λi y hy=>?_⟩
  ·rw [Ff] at hu
   have hj:j<ys.length*e.size:=by
    by_cases hj:j<ys.length*e.size
    ·exact hj
    ·rw [Dm (by simpa using hj)] at hu;cases hu
   rw [Xu hj] at hu
   obtain ⟨u',fM,_⟩:=key j hj
   simp only [Al,fM,Dd,Aa] at hu
   rw [fM,hu]
  ·obtain ⟨j,hj,rfl⟩:=Bi.1 hu
   obtain ⟨u',fM,h1⟩:=key j (Dl.1 hj)
   rw [fM];exact h1
  ·obtain ⟨es,ir,hc,bX⟩:=Jt i y hy
   refine ⟨es,ir,λj u hu=>?_,bX⟩
   have hi:=(Am.1 hy).1
   have hj:=(Am.1 hu).1
   have Li:i*e.size+j<ys.length*e.size:=by
    have:(i+1)*e.size<=ys.length*e.size:=Fz _ (by omega)
    rw [De,Vz] at this
    omega
   rw [Ff,Xu Li]
   have:=hc j u hu
   rw [Gy] at this
   simp [this]
end
end Go.Proofs.YtkkdpknjohcekaaGreat
