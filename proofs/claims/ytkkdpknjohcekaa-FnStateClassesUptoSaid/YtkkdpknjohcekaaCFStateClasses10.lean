/-
  Part 11 of the proof that the statement FnStateClasses holds.
-/
import Derived.Test.YtkkdpknjohcekaaCFStateClasses09
namespace Go.Proofs.Ytkkdpknjohcekaa
open Go.RowKit
section
variable {P:Program} {T:Tab} {X:Ctx} {w w':World} {π:Pi} {H:List (Nat×OB)}
theorem OB.map_map (f g:AC->AC) (b:OB):OB.map g (OB.map f b)=OB.map (λc=>g (f c)) b:=by
 cases b with
 |var t vs=>simp [OB.map,Function.comp_def]
 |_=>rfl
theorem OB.BE (b:OB):OB.map (λc=>c) b=b:=by
 cases b with
 |var t vs=>simp [OB.map]
 |_=>rfl
def Kj (π π':Pi) (H H':List (Nat×OB)):Prop:= ∀l b',At H' l=some b'->π' l=π l/\ ∃b f,At H l=some b/\b'=OB.map f b
theorem Kj.refl (π:Pi) (H:List (Nat×OB)):Kj π π H H:= λ_ b h=>⟨rfl,b,λc=>c,h,(OB.BE b).symm⟩
theorem Kj.trans {bl QQ π3:Pi} {H1 H2 H3:List (Nat×OB)} (h:Kj bl QQ H1 H2) (h':Kj QQ π3 H2 H3):Kj bl π3 H1 H3:= λl b hb=>by
 obtain ⟨e1,b1,f1,h1,rfl⟩:=h' l b hb
 obtain ⟨e2,b2,f2,h2,rfl⟩:=h l b1 h1
 exact ⟨e1.trans e2,b2,_,h2,OB.map_map f2 f1 b2⟩
theorem Kj.freeze (st:St) (l:Nat) (fr:Bool) (e:Ty) (xs:List e.den):Kj π (Vs π l none) st.heap (st.freeze l fr e xs).heap:= λk b hb=>by
 by_cases hk:k=l
 ·subst hk;rw [St.Lx] at hb;cases hb
 ·rw [St.Rc st l k fr e xs hk] at hb
  cases h0:At st.heap k with
  |none=>rw [h0] at hb;cases hb
  |some b0=>
   rw [h0] at hb
   simp only [Ak,Aa] at hb
   exact ⟨Fy π none hk,b0,_,rfl,hb.symm⟩
theorem Kj.Ie (st:St) (l:Nat) (v:Ty) (m:ByteArray->Option v.den):Kj π (Vs π l none) st.heap (st.Ie l v m).heap:= λk b hb=>by
 by_cases hk:k=l
 ·subst hk;rw [St.Sj] at hb;cases hb
 ·rw [St.Qi st l k v m hk] at hb
  cases h0:At st.heap k with
  |none=>rw [h0] at hb;cases hb
  |some b0=>
   rw [h0] at hb
   simp only [Ak,Aa] at hb
   exact ⟨Fy π none hk,b0,_,rfl,hb.symm⟩
theorem Kj.gone {π':Pi} {H':List (Nat×OB)} (k:Kj π π' H H') {l:Nat} (h:At H l=none):At H' l=none:=by
 cases hb:At H' l with
 |none=>rfl
 |some b=>
  obtain ⟨_,b0,f,h1,_⟩:=k l b hb
  rw [h] at h1;cases h1
def Dj (st:St):AC->AC
 | .own l off len=>match st.at l with
  |some (.arr fr _ e _ xs)=> .data fr (.slice e) ((xs.drop off).take len)
  |some (.Gg e _ xs)=> .data false (.slice e) ((xs.drop off).take len)
  |_=> .own l off len
 | .Jt l=>match st.at l with
  |some (.Ur v m)=> .data false (.smap v) m
  |_=> .Jt l
 |c=>c
theorem So {st:St} {c:AC} (h:c.settled=true):Dj st c=c:=by
 cases c<;>simp [AC.settled] at h<;>rfl
theorem tW {st st':St} {f:AC->AC} {l:Nat} (hH: ∀m,m≠l->At st'.heap m=(At st.heap m).map (OB.map f)) {c:AC} (hc: ∀k∈c.refs,k≠l):Dj st' c=Dj st c:=by
 cases c with
 |own k off len=>
  have hk:k≠l:=hc k (by simp [AC.refs])
  simp only [Dj,St.at,hH k hk]
  cases At st.heap k with
  |none=>rfl
  |some b=>cases b<;>rfl
 |Jt k=>
  have hk:k≠l:=hc k (by simp [AC.refs])
  simp only [Dj,St.at,hH k hk]
  cases At st.heap k with
  |none=>rfl
  |some b=>cases b<;>rfl
 |_=>rfl
theorem fi {a:Act} : ∀(n:Nat) (st:St) (π:Pi) (cs:List AC) (us:List Value) (gh:List AC) (st':St),Bg X π st a w->Fg X w π st.heap cs us->
  Gx n st cs=some (gh,st')-> ∃π',Bg X π' st' a w/\Fg X w π' st'.heap gh us/\gh.all (·.settled)=true/\Kj π π' st.heap st'.heap/\gh=cs.map (Dj st)/\
   (∀k,k∈cs.flatMap AC.refs->At st'.heap k=none)
 |0,st,π,cs,us,gh,st',h,hr,he=>by
  simp only [Gx] at he
  split at he
  ·rename_i hs
   simp only [Aa,Ad] at he
   obtain ⟨rfl,rfl⟩:=he
   have GI:=Ba.1 hs
   exact ⟨π,h,hr,hs,Kj.refl _ _,((Fz λc hc=>So (GI c hc)).trans (List.map_id'' (λ_=>rfl) cs)).symm,λk hk=>by
    obtain ⟨c,hc,z6⟩:=Ey.1 hk
    have:=GI c hc
    cases c<;>simp [AC.settled] at this<;>simp [AC.refs] at z6⟩
  ·cases he
 |n+1,st,π,cs,us,gh,st',h,hr,he=>by
  simp only [Gx] at he
  have step: ∀(f:AC->AC) (l:Nat) (st1:St),Bg X (Vs π l none) st1 a w->Move X w w π (Vs π l none) st.heap st1.heap f->At st1.heap l=none->(∀m,m≠l->At st1.heap m=(At st.heap m).map (OB.map f))->
    Kj π (Vs π l none) st.heap st1.heap->(∀c∈cs,(∀k∈c.refs,k≠l)->f c=c)->(∀c∈cs,l∈c.refs->(f c).refs= []/\(Dj st1 (f c)).settled=true->f c=Dj st c)->
    (∀c∈cs,l∈c.refs->(f c).refs= [])->Gx n st1 (cs.map f)=some (gh,st')->
    ∃π',Bg X π' st' a w/\Fg X w π' st'.heap gh us/\gh.all (·.settled)=true/\Kj π π' st.heap st'.heap/\gh=cs.map (Dj st)/\(∀k,k∈cs.flatMap AC.refs->At st'.heap k=none):=by
   intro f l st1 h1 m hl hH hK hf0 hf1 hf2 he
   obtain ⟨π',h2,h3,h4,h5,h6,h7⟩:=fi n st1 _ (cs.map f) us gh st' h1 (m.XA hr) he
   refine ⟨π',h2,h3,h4,hK.trans h5,?_,λk hk=>?_⟩
   ·rw [h6,List.map_map]
    refine Fz λc hc=>?_
    simp only [Function.comp]
    by_cases Qa:l∈c.refs
    ·have Kl:=Ba.1 h4
     have r6:Dj st1 (f c)∈gh:=by rw [h6];exact Be.2 ⟨f c,Be.2 ⟨c,hc,rfl⟩,rfl⟩
     have hs:=Kl _ r6
     have h8:=hf1 c hc Qa ⟨hf2 c hc Qa,hs⟩
     have h9:Dj st1 (f c)=f c:=by
      have:=hf2 c hc Qa
      cases hfc:f c<;>rw [hfc] at this<;>first|(simp [AC.refs] at this;done)|rfl
     rw [h9,h8]
    ·have Hq: ∀k∈c.refs,k≠l:= λk hk e=>Qa (e▸hk)
     rw [hf0 c hc Hq]
     exact tW hH Hq
   ·obtain ⟨c,hc,z6⟩:=Ey.1 hk
    by_cases Rq:k=l
    ·subst Rq;exact h5.gone hl
    ·by_cases Qa:l∈c.refs
     ·
      have Kl:=Ba.1 h4
      have r6:Dj st1 (f c)∈gh:=by rw [h6];exact Be.2 ⟨f c,Be.2 ⟨c,hc,rfl⟩,rfl⟩
      have hs:=Kl _ r6
      have h8:=hf1 c hc Qa ⟨hf2 c hc Qa,hs⟩
      have h9:Dj st1 (f c)=f c:=by
       have:=hf2 c hc Qa
       cases hfc:f c<;>rw [hfc] at this<;>first|(simp [AC.refs] at this;done)|rfl
      rw [h9,h8] at hs
      cases c with
      |clo g Dz=>simp [Dj,AC.settled] at hs
      |own k' _ _=>simp [AC.refs] at Qa z6;exact absurd (z6.trans Qa.symm) Rq
      |Jt k'=>simp [AC.refs] at Qa z6;exact absurd (z6.trans Qa.symm) Rq
      |Gp k' _=>simp [AC.refs] at Qa z6;exact absurd (z6.trans Qa.symm) Rq
      |Jm k' _=>simp [AC.refs] at Qa z6;exact absurd (z6.trans Qa.symm) Rq
      |sub k' _ _=>simp [AC.refs] at Qa z6;exact absurd (z6.trans Qa.symm) Rq
      |Jj k' _ _=>simp [AC.refs] at Qa z6;exact absurd (z6.trans Qa.symm) Rq
      |_=>simp [AC.refs] at z6
     ·have Hq: ∀k∈c.refs,k≠l:= λk hk e=>Qa (e▸hk)
      exact h7 k (Ey.2 ⟨f c,Be.2 ⟨c,hc,rfl⟩,by rw [hf0 c hc Hq];exact z6⟩)
  have z9: ∀(st1:St) (c:AC),(Dj st1 c).settled=true->c≠ .undef:= λst1 c hs e=>by rw [e] at hs;simp [Dj,AC.settled] at hs
  split at he
  ·rename_i hf
   simp only [Aa,Ad] at he
   obtain ⟨rfl,rfl⟩:=he
   have GI: ∀c∈cs,c.settled=true:= λc hc=>by have:=List.find?_eq_none.1 hf c hc;simpa using this
   exact ⟨π,h,hr,Ba.2 GI,Kj.refl _ _,((Fz λc hc=>So (GI c hc)).trans (List.map_id'' (λ_=>rfl) cs)).symm,λk hk=>by
    obtain ⟨c,hc,z6⟩:=Ey.1 hk
    have:=GI c hc
    cases c<;>simp [AC.settled] at this<;>simp [AC.refs] at z6⟩
  ·rename_i l off len hf
   split at he
   ·rename_i fr tr e tid xs hl
    unfold St.at at hl
    obtain ⟨h1,m⟩:=h.freeze (fr:=fr) (.inl ⟨tr,tid,hl⟩)
    refine step _ l _ h1 m (St.Lx st l fr e xs) (λm hm=>St.Rc st l m fr e xs hm) (Kj.freeze st l fr e xs) (λc _ hc=>gy hc) (λc _ Qa hs=>?_) (λc _ Qa=>?_) he
    ·cases c with
     |own k o n=>have:k=l:=(Ae.1 Qa).symm
                 subst this;simp only [Cu,Ac,Dj,St.at,hl]
     |Gp k o=>have:k=l:=(Ae.1 Qa).symm
              subst this;simp only [Cu,Ac] at hs;exact absurd rfl (z9 _ _ hs.2)
     |Jm k o=>have:k=l:=(Ae.1 Qa).symm
              subst this;simp only [Cu,Ac] at hs;exact absurd rfl (z9 _ _ hs.2)
     |sub k o o2=>have:k=l:=(Ae.1 Qa).symm
                  subst this;simp only [Cu,Ac] at hs;exact absurd rfl (z9 _ _ hs.2)
     |Jj k o o2=>have:k=l:=(Ae.1 Qa).symm
                 subst this;simp only [Cu,Ac] at hs;exact absurd rfl (z9 _ _ hs.2)
     |Jt k=>have:k=l:=(Ae.1 Qa).symm
            subst this;simp only [Cu,Ac] at hs;exact absurd rfl (z9 _ _ hs.2)
     |clo g Dz=>
      simp only [Cu] at hs
      rw [Ac (by simpa [AC.refs] using Qa)] at hs
      exact absurd rfl (z9 _ _ hs.2)
     |_=>simp [AC.refs] at Qa
    ·cases c with
     |own k o n=>have:k=l:=(Ae.1 Qa).symm
                 subst this;simp only [Cu,Ac];rfl
     |Gp k o=>have:k=l:=(Ae.1 Qa).symm
              subst this;simp only [Cu,Ac];rfl
     |Jm k o=>have:k=l:=(Ae.1 Qa).symm
              subst this;simp only [Cu,Ac];rfl
     |sub k o o2=>have:k=l:=(Ae.1 Qa).symm
                  subst this;simp only [Cu,Ac];rfl
     |Jj k o o2=>have:k=l:=(Ae.1 Qa).symm
                 subst this;simp only [Cu,Ac];rfl
     |Jt k=>have:k=l:=(Ae.1 Qa).symm
            subst this;simp only [Cu,Ac];rfl
     |clo g Dz=>simp only [Cu];rw [Ac (by simpa [AC.refs] using Qa)];rfl
     |_=>simp [AC.refs] at Qa
   ·rename_i e tid xs hl
    unfold St.at at hl
    obtain ⟨h1,m⟩:=h.freeze (fr:=false) (.inr ⟨rfl,tid,hl⟩)
    refine step _ l _ h1 m (St.Lx st l false e xs) (λm hm=>St.Rc st l m false e xs hm) (Kj.freeze st l false e xs) (λc _ hc=>gy hc) (λc _ Qa hs=>?_) (λc _ Qa=>?_) he
    ·cases c with
     |own k o n=>have:k=l:=(Ae.1 Qa).symm
                 subst this;simp only [Cu,Ac,Dj,St.at,hl]
     |Gp k o=>have:k=l:=(Ae.1 Qa).symm
              subst this;simp only [Cu,Ac] at hs;exact absurd rfl (z9 _ _ hs.2)
     |Jm k o=>have:k=l:=(Ae.1 Qa).symm
              subst this;simp only [Cu,Ac] at hs;exact absurd rfl (z9 _ _ hs.2)
     |sub k o o2=>have:k=l:=(Ae.1 Qa).symm
                  subst this;simp only [Cu,Ac] at hs;exact absurd rfl (z9 _ _ hs.2)
     |Jj k o o2=>have:k=l:=(Ae.1 Qa).symm
                 subst this;simp only [Cu,Ac] at hs;exact absurd rfl (z9 _ _ hs.2)
     |Jt k=>have:k=l:=(Ae.1 Qa).symm
            subst this;simp only [Cu,Ac] at hs;exact absurd rfl (z9 _ _ hs.2)
     |clo g Dz=>
      simp only [Cu] at hs
      rw [Ac (by simpa [AC.refs] using Qa)] at hs
      exact absurd rfl (z9 _ _ hs.2)
     |_=>simp [AC.refs] at Qa
    ·cases c with
     |own k o n=>have:k=l:=(Ae.1 Qa).symm
                 subst this;simp only [Cu,Ac];rfl
     |Gp k o=>have:k=l:=(Ae.1 Qa).symm
              subst this;simp only [Cu,Ac];rfl
     |Jm k o=>have:k=l:=(Ae.1 Qa).symm
              subst this;simp only [Cu,Ac];rfl
     |sub k o o2=>have:k=l:=(Ae.1 Qa).symm
                  subst this;simp only [Cu,Ac];rfl
     |Jj k o o2=>have:k=l:=(Ae.1 Qa).symm
                 subst this;simp only [Cu,Ac];rfl
     |Jt k=>have:k=l:=(Ae.1 Qa).symm
            subst this;simp only [Cu,Ac];rfl
     |clo g Dz=>simp only [Cu];rw [Ac (by simpa [AC.refs] using Qa)];rfl
     |_=>simp [AC.refs] at Qa
   ·cases he
  ·rename_i l hf
   split at he
   ·rename_i v mm hl
    unfold St.at at hl
    obtain ⟨h1,m⟩:=h.Ie hl
    refine step _ l _ h1 m (St.Sj st l v mm) (λm hm=>St.Qi st l m v mm hm) (Kj.Ie st l v mm) (λc _ hc=>qJ hc) (λc _ Qa hs=>?_) (λc _ Qa=>?_) he
    ·cases c with
     |Jt k=>have:k=l:=(Ae.1 Qa).symm
            subst this;simp only [Gj,Ac,Dj,St.at,hl]
     |Gp k o=>have:k=l:=(Ae.1 Qa).symm
              subst this;simp only [Gj,Ac] at hs;exact absurd rfl (z9 _ _ hs.2)
     |Jm k o=>have:k=l:=(Ae.1 Qa).symm
              subst this;simp only [Gj,Ac] at hs;exact absurd rfl (z9 _ _ hs.2)
     |sub k o o2=>have:k=l:=(Ae.1 Qa).symm
                  subst this;simp only [Gj,Ac] at hs;exact absurd rfl (z9 _ _ hs.2)
     |Jj k o o2=>have:k=l:=(Ae.1 Qa).symm
                 subst this;simp only [Gj,Ac] at hs;exact absurd rfl (z9 _ _ hs.2)
     |own k o n=>have:k=l:=(Ae.1 Qa).symm
                 subst this;simp only [Gj,Ac] at hs;exact absurd rfl (z9 _ _ hs.2)
     |clo g Dz=>
      simp only [Gj] at hs
      rw [Ac (by simpa [AC.refs] using Qa)] at hs
      exact absurd rfl (z9 _ _ hs.2)
     |_=>simp [AC.refs] at Qa
    ·cases c with
     |own k o n=>have:k=l:=(Ae.1 Qa).symm
                 subst this;simp only [Gj,Ac];rfl
     |Gp k o=>have:k=l:=(Ae.1 Qa).symm
              subst this;simp only [Gj,Ac];rfl
     |Jm k o=>have:k=l:=(Ae.1 Qa).symm
              subst this;simp only [Gj,Ac];rfl
     |sub k o o2=>have:k=l:=(Ae.1 Qa).symm
                  subst this;simp only [Gj,Ac];rfl
     |Jj k o o2=>have:k=l:=(Ae.1 Qa).symm
                 subst this;simp only [Gj,Ac];rfl
     |Jt k=>have:k=l:=(Ae.1 Qa).symm
            subst this;simp only [Gj,Ac];rfl
     |clo g Dz=>simp only [Gj];rw [Ac (by simpa [AC.refs] using Qa)];rfl
     |_=>simp [AC.refs] at Qa
   ·cases he
  ·cases he
def fK (X:Ctx) (w:World) (π:Pi) (F:List Nat):Prop:=F.Nodup/\ ∀b∈F,(X.w0.heap.size<=b\/X.gv b)/\b<w.heap.size/\ ∀l r,π l=some r-> ¬r.cl b
theorem Wu {S:Nat->Prop} : ∀(e:Ty) (es:List Value) (x:e.den),e.flat=true->Cells w S e es x->Cy w [] e es x
 | .int k,cs,n,_,h=>⟨rfl,h⟩
 | .bool,cs,n,_,h=>⟨rfl,h⟩
 | .str,cs,n,_,h=>⟨rfl,h⟩
 | .unit,cs,n,_,h=>⟨rfl,h⟩
 | .pair a r,cs,x,hf,h=>by
  simp only [Ty.flat,Ag] at hf
  simp only [Cells] at h
  simp only [Cy]
  obtain ⟨c1,c2,h1,h2,h3⟩:=h
  exact ⟨c1,c2,[],[],h1,rfl,Wu a c1 x.1 hf.1 h2,Wu r c2 x.2 hf.2 h3⟩
 | .slice _,_,_,hf,_=>by simp [Ty.flat] at hf
 | .oslice _,_,_,hf,_=>by simp [Ty.flat] at hf
 | .ptr _,_,_,hf,_=>by simp [Ty.flat] at hf
 | .optr _,_,_,hf,_=>by simp [Ty.flat] at hf
 | .smap _,_,_,hf,_=>by simp [Ty.flat] at hf
 | .clo _ _,_,_,hf,_=>by simp [Ty.flat] at hf
theorem Rp {Fs:List (List Nat)} (off len:Nat) (b:Nat) (h:b∈List.flatten ((Fs.drop off).take len)):b∈List.flatten Fs:=by
 obtain ⟨F,hF,hb⟩:=Gt.1 h
 exact Gt.2 ⟨F,cz (Ib hF),hb⟩
theorem fo {α:Type} {a b:List (List α)} (h:a.Sublist b):(List.flatten a).Sublist (List.flatten b):=by
 induction h with
 |slnil=>exact List.Sublist.refl _
 |cons c _ ih=>simp only [Ks];exact ih.trans (List.sublist_append_right _ _)
 |cons_cons c _ ih=>simp only [Ks];exact List.Sublist.append (List.Sublist.refl _) ih
theorem kK {Fs:List (List Nat)} (off len:Nat) (h:(List.flatten Fs).Nodup):(List.flatten ((Fs.drop off).take len)).Nodup:=by
 have h1:((Fs.drop off).take len).Sublist Fs:=(List.take_sublist len _).trans (List.drop_sublist off Fs)
 exact h.sublist (fo h1)
theorem j0 {P:Nat->Prop} {r:Real} {off len:Nat} {v:Value} {e:Ty} {tid:TypeId} {xs:List e.den} {cur:Array Value} (h2:w.heap[r.g]?=some (.cells cur tid (0,0))) (Zl:cur.size=(r.o+r.cap)*e.size) (qR:r.cap<=maxLen)
  (hlen:off+len<=xs.length) (hv:He (some r) e.size off len v) (ht:Wi w P r.g r.o cur e xs) (hg:P r.g):
  ∃F,Cy w F (.slice e) [v] ((xs.drop off).take len)/\F.Nodup/\ ∀b∈F,P b:=by
 have GA:((xs.drop off).take len).length=len:=by simp;omega
 obtain ⟨ad,rfl,hc,ha⟩:=hv
 obtain ⟨Fs,t1,t2,t3,t4⟩:=ht
 ·refine ⟨r.g::List.flatten ((Fs.drop off).take len),⟨some ad,len,r.cap-off,rfl,GA.symm,by omega, .inr ⟨ad,r.g,(r.o+off)*e.size,_,rfl,λh0=>ha (by omega),⟨cur,tid,r.o+off,h2,rfl,by rw [Zl];congr 1;omega,by omega⟩,rfl,by simp;omega,λi x F hx hF=>?_⟩⟩,?_,λb hb=>?_⟩
  ·have hi:i<len:=by
    have:=(Am.1 hx).1
    rw [GA] at this;exact this
   have hx':xs[off+i]?=some x:=by rw [Cr,Ac hi,Co] at hx;exact hx
   have hF':Fs[off+i]?=some F:=by rw [Cr,Ac hi,Co] at hF;exact hF
   obtain ⟨es,he,hj,pK⟩:=t4 (off+i) x F hx' hF'
   refine ⟨es,he,λj u hu=>?_,pK⟩
   rw [cellOf h2]
   have:=hj j u hu
   rw [<-this]
   congr 1
   rw [<-Gd,Dc (r.o+off) i]
  ·have:=Ca.1 t2
   exact Ca.2 ⟨λhm=>this.1 (Rp off len _ hm),kK off len this.2⟩
  ·rcases Ay.1 hb with rfl|hb
   ·exact hg
   ·exact t3 b (Rp off len b hb)
theorem mG {st:St} (h:Mm X w π st.heap) {c:AC} {v:Value} (hc:Gu X w π st.heap c v) (ht:Rk st c=true) (τ:Ty) (fr:Bool) (x:τ.den) (Sz:τ.Ap=false) (NC:τ.tree=true)
  (hv:Dk st τ (Dj st c)=some (fr,x)): ∃F,Cy w F τ [v] x/\F.Nodup/\ ∀b∈F,∃l r,l∈c.refs/\π l=some r/\r.cl b:=by
 cases c with
 |data Vc Nx y=>
  simp only [Rk] at ht
  simp only [Dj,Nl] at hv
  split at hv
  ·rename_i he;subst he
   simp only [Aa,Ad] at hv
   obtain ⟨_,rfl⟩:=hv
   exact ⟨[],Wu Nx _ _ ht (Ct.Rh Sz hc),Lb,λb hb=>by cases hb⟩
  ·unfold gg at hv
   split at hv
   ·simp [Ty.flat] at ht
   ·simp [Ty.flat] at ht
   ·cases hv
 |Ln=>
  have hc:v= .slice none 0 0:=hc
  subst hc
  cases τ with
  |slice e=>
   simp only [Dj,Dk,Aa,Ad] at hv
   obtain ⟨_,rfl⟩:=hv
   exact ⟨[],⟨none,0,0,rfl,rfl,Ao _, .inl ⟨rfl,rfl,rfl,rfl⟩⟩,Lb,λb hb=>by cases hb⟩
  |oslice e=>simp [Ty.tree] at NC
  |_=>simp [Dj,Dk] at hv
 |own l off len=>
  simp only [Rk] at ht
  split at ht
  ·rename_i Vc tr e tid xs hl
   have Ll:=hl
   unfold St.at at hl
   simp only [Dj,Ll,Nl] at hv
   split at hv
   ·rename_i he;subst he
    simp only [Aa,Ad] at hv
    obtain ⟨_,rfl⟩:=hv
    obtain ⟨h2,h3⟩:=Oa hc hl
    have hb:=(h.heap l).Qw hl
    simp only [Cd,Jk] at hb
    cases hp:π l with
    |none=>
     rw [hp] at h3
     obtain ⟨rfl,rfl,rfl⟩:=h3
     exact ⟨[],⟨none,0,0,rfl,by simp,Ao _, .inl ⟨by simp,rfl,rfl,rfl⟩⟩,Lb,λb hb=>by cases hb⟩
    |some r=>
     rw [hp] at hb h3
     obtain ⟨k1,cur,_,k2,k3,k4,k5,k6,k7⟩:=hb
     have LD:Wi w r.cl r.g r.o cur e xs:=by
      simp only [Li] at ht
      rcases ht with ht|ht
      ·exact k7 ht
      ·refine ⟨List.replicate xs.length [],by simp,by simp,by simp,λi x F hx hF=>?_⟩
       obtain ⟨es,e1,e2,e3⟩:=k6 i x hx
       have:F= []:=by
        have:=Cf hF
        exact Fc this
       subst this
       exact ⟨es,e1,e2,Wu e es x ht e3⟩
     obtain ⟨F,f1,f2,f3⟩:=j0 k2 k3 k4 h2 h3 LD (h.sub l r _ hp k1.1)
     exact ⟨F,f1,f2,λb hb=>⟨l,r,by simp [AC.refs],hp,f3 b hb⟩⟩
   ·cases τ<;>simp [gg] at hv
  ·rename_i e tid xs hl
   have Ll:=hl
   unfold St.at at hl
   simp only [Dj,Ll,Nl] at hv
   split at hv
   ·rename_i he;subst he
    simp only [Aa,Ad] at hv
    obtain ⟨_,rfl⟩:=hv
    obtain ⟨h2,h3⟩:=bb hc hl
    have hb:=(h.heap l).Qw hl
    simp only [Cd,Np] at hb
    cases hp:π l with
    |none=>
     rw [hp] at h3
     obtain ⟨rfl,rfl,rfl⟩:=h3
     exact ⟨[],⟨none,0,0,rfl,by simp,Ao _, .inl ⟨by simp,rfl,rfl,rfl⟩⟩,Lb,λb hb=>by cases hb⟩
    |some r=>
     rw [hp] at hb h3
     obtain ⟨k1,cur,_,k2,k3,k4,k5,k7⟩:=hb
     obtain ⟨F,f1,f2,f3⟩:=j0 k2 k3 k4 h2 h3 k7 k1
     exact ⟨F,f1,f2,λb hb=>⟨l,r,by simp [AC.refs],hp,h.sub l r b hp (f3 b hb)⟩⟩
   ·cases τ<;>simp [gg] at hv
  ·cases ht
 |_=>simp [Rk] at ht
theorem Xd: ∀ {l:List Nat},Zc l=true->l.Nodup
 | [],_=>Lb
 |a::r,h=>by
  simp only [Zc,Ag,Fk,List.contains_eq_mem,decide_eq_false_iff_not] at h
  exact Ca.2 ⟨h.1,Xd h.2⟩
theorem ae {st st':St} {τ:Ty} {c:AC} (h:c.settled=true):Dk st' τ c=Dk st τ c:=by
 cases c<;>simp [AC.settled] at h<;>cases τ<;>rfl
theorem ud {st st':St} (h:Mm X w π st.heap): ∀(τ:Ty) (cs:List AC) (us:List Value) (fr:Bool) (x:τ.den),Fg X w π st.heap cs us->cs.all (Rk st)=true->(cs.flatMap AC.refs).Nodup->
  (cs.map (Dj st)).all (·.settled)=true->τ.tree=true->Et st' τ (cs.map (Dj st))=some (fr,x)-> ∃F,Cy w F τ us x/\F.Nodup/\ ∀b∈F,∃l r,l∈cs.flatMap AC.refs/\π l=some r/\r.cl b:=by
 have one: ∀(τ:Ty) (cs:List AC) (us:List Value) (fr:Bool) (x:τ.den),τ.Ap=false->Fg X w π st.heap cs us->cs.all (Rk st)=true->
   (cs.map (Dj st)).all (·.settled)=true->τ.tree=true->Et st' τ (cs.map (Dj st))=some (fr,x)-> ∃F,Cy w F τ us x/\F.Nodup/\ ∀b∈F,∃l r,l∈cs.flatMap AC.refs/\π l=some r/\r.cl b:=by
  intro τ cs us fr x Sz hr ht hs Uu hv
  rw [Tc Sz] at hv
  rcases cs with _|⟨c,_|⟨d,cs⟩⟩
  ·cases hv
  ·simp only [Bk,List.map_nil] at hv
   obtain ⟨u,hu,_,hc⟩:=hr.2 0 c rfl
   have hl:us.length=1:=hr.1
   obtain ⟨u',rfl⟩:=Dw.1 hl
   simp at hu;subst hu
   rw [ae (st:=st) (by simpa using hs)] at hv
   obtain ⟨F,f1,f2,f3⟩:=mG h hc (by simpa using ht) τ fr x Sz Uu hv
   exact ⟨F,f1,f2,λb hb=>by obtain ⟨l,r,g1,g2⟩:=f3 b hb;exact ⟨l,r,by simpa using g1,g2⟩⟩
  ·cases hv
 intro τ
 induction τ with
 |unit=>
  intro cs us fr x hr ht hd hs Uu hv
  cases cs with
  |nil=>have:us= []:=Ce hr.1;subst this;exact ⟨[],⟨rfl,rfl⟩,Lb,λb hb=>by cases hb⟩
  |cons c cs=>simp [Et] at hv
 |pair a r fH fF=>
  intro cs us fr x hr ht hd hs Uu hv
  simp only [Ty.tree,Ag] at Uu
  simp only [Et] at hv
  split at hv
  ·rename_i f1 y f2 z h1 h2
   simp only [Aa,Ad] at hv
   obtain ⟨rfl,rfl⟩:=hv
   have YU:Fg X w π st.heap (cs.take a.size) (us.take a.size):=by have:=Ys hr 0 a.size;simpa using this
   have XK:Fg X w π st.heap (cs.drop a.size) (us.drop a.size):=
    ⟨by simp [hr.1],λi c hc=>by
     rw [Co] at hc⊢
     exact hr.2 _ c hc⟩
   have Aiq: ∀ {p:AC->Bool} {l:List AC} (n:Nat),l.all p=true->(l.take n).all p=true:= λn hl=>Ba.2 λc hc=>Ba.1 hl c (Ib hc)
   have Air: ∀ {p:AC->Bool} {l:List AC} (n:Nat),l.all p=true->(l.drop n).all p=true:= λn hl=>Ba.2 λc hc=>Ba.1 hl c (cz hc)
   have hdd:((cs.take a.size++cs.drop a.size).flatMap AC.refs).Nodup:=by rw [Fo];exact hd
   rw [List.flatMap_append] at hdd
   obtain ⟨d1,d2,d3⟩:=Dg.1 hdd
   rw [<-List.map_take] at h1
   rw [<-List.map_drop] at h2
   obtain ⟨F1,t1,n1,c1⟩:=fH _ _ f1 y YU (Aiq _ ht) d1 (by rw [List.map_take];exact Aiq _ hs) Uu.1 h1
   obtain ⟨F2,t2,n2,c2⟩:=fF _ _ f2 z XK (Air _ ht) d2 (by rw [List.map_drop];exact Air _ hs) Uu.2 h2
   refine ⟨F1++F2,⟨us.take a.size,us.drop a.size,F1,F2,(Fo _ _).symm,rfl,t1,t2⟩,Dg.2 ⟨n1,n2,λb hb b' sT e=>?_⟩,λb hb=>?_⟩
   ·subst e
    obtain ⟨l1,r1,g1,g2,g3⟩:=c1 b hb
    obtain ⟨l2,r2,g4,g5,g6⟩:=c2 b sT
    exact d3 l1 g1 l2 g4 (h.inj l1 l2 r1 r2 b g2 g5 g3 g6)
   ·have Kl: ∀l,(l∈(cs.take a.size).flatMap AC.refs\/l∈(cs.drop a.size).flatMap AC.refs)->l∈cs.flatMap AC.refs:= λl hl=>by
     rw [<-Az,<-List.flatMap_append,Fo] at hl;exact hl
    rcases Az.1 hb with hb|hb
    ·obtain ⟨l1,r1,g1,g2⟩:=c1 b hb;exact ⟨l1,r1,Kl l1 (.inl g1),g2⟩
    ·obtain ⟨l1,r1,g1,g2⟩:=c2 b hb;exact ⟨l1,r1,Kl l1 (.inr g1),g2⟩
  ·cases hv
 |_=>exact λcs us fr x hr ht _ hs Uu hv=>one _ cs us fr x rfl hr ht hs Uu hv
theorem KH {π':Pi} {st st':St} {a:Act} (h:Bg X π st a w) (h':Bg X π' st' a w) (k:Kj π π' st.heap st'.heap) {ls:List Nat} (hg: ∀l∈ls,At st'.heap l=none) {F:List Nat} (hF:F.Nodup)
  (hc: ∀b∈F,∃l r,l∈ls/\π l=some r/\r.cl b):fK X w π' F:=by
 refine ⟨hF,λb hb=>?_⟩
 obtain ⟨l,r,h1,h2,h3⟩:=hc b hb
 have hp:=h.1.place l r b h2 h3
 refine ⟨hp.1,hp.2,λl2 r2 h4 h5=>?_⟩
 cases hh:At st'.heap l2 with
 |none=>rw [(h'.1.heap l2).emp hh] at h4;cases h4
 |some b'=>
  have h6:=(k l2 b' hh).1
  rw [h6] at h4
  have:=h.1.inj l l2 r r2 b h2 h4 h3 h5
  subst this
  rw [hg l h1] at hh;cases hh
theorem bd {st:St} {a:Act} (h:Bg X π st a w) {c:AV} {v:Value} (hc:Bn X w π st.heap c v) {c':AV} {st':St} (he:settle st c=some (c',st')):
  ∃π',Bg X π' st' a w/\Bn X w π' st'.heap c' v/\c'.settled=true/\Kj π π' st.heap st'.heap/\
   (Sr st c=true-> ∀(τ:Ty) (fr:Bool) (x:τ.den),τ.tree=true->Ff st' τ c'=some (fr,x)-> ∃F us,Cy w F τ us x/\v=Bv τ us/\fK X w π' F/\ ∀b∈F,∃l r,π l=some r/\r.cl b):=by
 have cell: ∀(a0:AC) (st':St) (π':Pi),Gu X w π st.heap a0 v->Bg X π' st' a w->(Dj st a0).settled=true->Kj π π' st.heap st'.heap->(∀l∈a0.refs,At st'.heap l=none)->
   Rk st a0=true-> ∀(τ:Ty) (fr:Bool) (x:τ.den),τ.tree=true->Ff st' τ (.at (Dj st a0))=some (fr,x)-> ∃F us,Cy w F τ us x/\v=Bv τ us/\fK X w π' F/\ ∀b∈F,∃l r,π l=some r/\r.cl b:=by
  intro a0 st1 bl hr h1 hs hk hg ht τ fr x Uu hv
  by_cases Sz:τ.Ap=true
  ·
   cases AF:Dj st a0 with
   |data Vc Nx y=>
    rw [AF,c5] at hv
    split at hv
    ·rename_i het;subst het
     simp only [Aa,Ad] at hv
     obtain ⟨_,rfl⟩:=hv
     cases a0 with
     |data pH τ2 z=>
      simp only [Dj,AC.data.injEq] at AF
      obtain ⟨rfl,rfl,hz⟩:=AF
      have hz:=eq_of_heq hz
      subst hz
      obtain ⟨cs,pK,rfl⟩:=hr
      exact ⟨[],cs,Wu _ cs _ ht pK,rfl,⟨Lb,λb hb=>by cases hb⟩,λb hb=>by cases hb⟩
     |own l off len=>
      simp only [Dj] at AF
      split at AF
      ·simp only [AC.data.injEq] at AF;obtain ⟨_,h2,_⟩:=AF;subst h2;simp [Ty.Ap] at Sz
      ·simp only [AC.data.injEq] at AF;obtain ⟨_,h2,_⟩:=AF;subst h2;simp [Ty.Ap] at Sz
      ·cases AF
     |Jt l=>simp [Rk] at ht
     |_=>simp [Dj] at AF
    ·cases hv
   |_=>rw [AF] at hv;simp only [Ff,Sz,Oy] at hv;cases hv
  ·simp only [Hs] at Sz
   have lU:Dk st τ (Dj st a0)=some (fr,x):=by
    rw [<-ae (st:=st) (st':=st1) hs]
    cases AF:Dj st a0 with
    |data Vc Nx y=>
     rw [AF,c5] at hv
     rw [Nl]
     split at hv
     ·rename_i het;rw [Im het];exact hv
     ·rename_i het
      rw [dif_neg het]
      simp only [Sz,Cx,Qu,yL,Nl] at hv
      rw [dif_neg het] at hv
      exact hv
    |Ln=>rw [AF] at hv;simp only [Ff,Sz,Cx,Qu] at hv;rw [Px rfl] at hv;exact hv
    |Up=>rw [AF] at hv;simp only [Ff,Sz,Cx,Qu] at hv;rw [Px rfl] at hv;exact hv
    |_=>rw [AF] at hs;simp [AC.settled] at hs
   obtain ⟨F,f1,f2,f3⟩:=mG h.1 hr ht τ fr x Sz Uu lU
   exact ⟨F,[v],f1,by simp [Bv,Sz],KH h h1 hk hg f2 f3,λb hb=>let ⟨l,r,_,q⟩:=f3 b hb;⟨l,r,q⟩⟩
 unfold settle at he
 split at he
 ·rename_i l off len
  split at he
  ·rename_i fr tr e tid xs hl
   simp only [Aa,Ad] at he
   obtain ⟨rfl,rfl⟩:=he
   obtain ⟨h1,m⟩:=h.freeze (fr:=fr) (.inl ⟨tr,tid,hl⟩)
   have:=m.ac (.own l off len) v hc
   simp only [Cu,Oy] at this
   have jb:Dj st (.own l off len)= .data fr (.slice e) ((xs.drop off).take len):=by simp only [Dj,hl]
   refine ⟨_,h1,this,rfl,Kj.freeze st l fr e xs,λht=>?_⟩
   have:=cell (.own l off len) _ _ hc h1 (by rw [jb];rfl) (Kj.freeze st l fr e xs) (λk hk=>by rw [Ae.1 hk];exact St.Lx st l fr e xs) ht
   rw [jb] at this
   exact this
  ·rename_i e tid xs hl
   simp only [Aa,Ad] at he
   obtain ⟨rfl,rfl⟩:=he
   obtain ⟨h1,m⟩:=h.freeze (fr:=false) (.inr ⟨rfl,tid,hl⟩)
   have:=m.ac (.own l off len) v hc
   simp only [Cu,Oy] at this
   have jb:Dj st (.own l off len)= .data false (.slice e) ((xs.drop off).take len):=by simp only [Dj,hl]
   refine ⟨_,h1,this,rfl,Kj.freeze st l false e xs,λht=>?_⟩
   have:=cell (.own l off len) _ _ hc h1 (by rw [jb];rfl) (Kj.freeze st l false e xs) (λk hk=>by rw [Ae.1 hk];exact St.Lx st l false e xs) ht
   rw [jb] at this
   exact this
  ·cases he
 ·rename_i l
  split at he
  ·rename_i vt mm hl
   simp only [Aa,Ad] at he
   obtain ⟨rfl,rfl⟩:=he
   obtain ⟨h1,m⟩:=h.Ie hl
   have:=m.ac (.Jt l) v hc
   simp only [Gj,Oy] at this
   exact ⟨_,h1,this,rfl,Kj.Ie st l vt mm,λht=>by simp [Sr,Rk] at ht⟩
  ·cases he
 ·rename_i a0 _ _
  split at he
  ·rename_i hs
   simp only [Aa,Ad] at he
   obtain ⟨rfl,rfl⟩:=he
   refine ⟨π,h,hc,hs,Kj.refl _ _,λht=>?_⟩
   have jb:=So (st:=st) hs
   have:=cell a0 st π hc h (by rw [jb];exact hs) (Kj.refl _ _) (λk hk=>by
    cases a0<;>simp [AC.settled] at hs<;>simp [AC.refs] at hk) ht
   rw [jb] at this
   exact this
  ·cases he
 ·rename_i cs
  cases hsc:Gx cs.length st cs with
  |none=>rw [hsc] at he;cases he
  |some p=>
   rw [hsc] at he
   simp only [Ak,Aa,Ad] at he
   obtain ⟨rfl,rfl⟩:=he
   obtain ⟨us,rfl,hr⟩:=hc
   obtain ⟨π',h2,h3,h4,h5,h6,h7⟩:=fi cs.length st π cs us p.1 p.2 h hr hsc
   refine ⟨π',h2,⟨us,rfl,h3⟩,h4,h5,λht τ fr x Uu hv=>?_⟩
   simp only [Sr,Ag] at ht
   simp only [Ff] at hv
   split at hv
   ·rename_i Sz
    rw [h6] at hv h4
    obtain ⟨F,f1,f2,f3⟩:=ud h.1 τ cs us fr x hr ht.1 (Xd ht.2) h4 Uu hv
    exact ⟨F,us,f1,by simp [Bv,Sz],KH h h2 h5 h7 f2 f3,λb hb=>let ⟨l,r,_,q⟩:=f3 b hb;⟨l,r,q⟩⟩
   ·cases hv
 ·simp only [Aa,Ad] at he
  obtain ⟨rfl,rfl⟩:=he
  exact ⟨π,h,hc,rfl,Kj.refl _ _,λht=>by simp [Sr] at ht⟩
 ·cases he
theorem fT {o i j s p:Nat} (Hq:i≠j) (hp:p<s):(o+i)*s+p<(o+j)*s\/(o+j)*s+s<=(o+i)*s+p:=by
 rcases Nat.lt_or_gt_of_ne Hq with h|h
 ·left
  have:(o+i+1)*s<=(o+j)*s:=Eg _ (by omega)
  rw [Dc,Us] at this
  omega
 ·right
  have:(o+j+1)*s<=(o+i)*s:=Eg _ (by omega)
  rw [Dc,Us] at this
  omega
theorem Hj {α:Type} (l ys:List α) (i k:Nat) (h:i+ys.length<=l.length):(Dp l i ys)[k]?=if k<i then l[k]? else if k<i+ys.length then ys[k-i]? else l[k]?:=by
 unfold Dp
 have t1:(l.take i).length=i:=by simp;omega
 split
 ·rename_i hk
  rw [Ck,Ar (by omega),Cr,Ac hk]
 ·split
  ·rename_i hk
   rw [Ck,Aq (by omega),t1,Ar (by omega)]
  ·rw [Aq (by simp;omega),Co]
   congr 1
   simp;omega
theorem Ii {α:Type} (l ys:List α) (i:Nat) (h:i+ys.length<=l.length):(Dp l i ys).length=l.length:=by
 unfold Dp;simp;omega
theorem yu (hT:Dn P T) {st:St} {a:Act} (h:Bg X π st a w) {t:TypeId} {e:Ty} (ht:T.ty t=some e) {l j:Nat} {r:Real} {vx:Value} {tid:TypeId} {fr Vc:Bool} {xs:List e.den} {x:e.den}
  (hp:π l=some r) {tr:Bool} (hl:At st.heap l=some (.arr fr tr e tid xs)) (hj:j<xs.length) (hx:Ct w (Cv X.w0.heap.size X.Sc π Vc) e vx x):
  ∃w',(Instr.storeAt t (.pointer (some ⟨r.g,(r.o+j)*e.size,none⟩)) vx).run P w= .ok () w'/\Bg X π (st.Ji l (.arr (fr&&Vc) false e tid (xs.set j x))) a w':=by
 have hb:=(h.1.heap l).Qw hl
 simp only [Cd,Jk,hp] at hb
 obtain ⟨h1,cur,ti,h2,h3,h4,h5,h6,_⟩:=hb
 obtain ⟨es,fz,hv⟩:=hx
 have jy:=Cells.len e es x fz
 have Ww:(r.o+j)*e.size+es.length<=cur.size:=by
  have:(r.o+j+1)*e.size<=(r.o+r.cap)*e.size:=Eg _ (by omega)
  rw [Dc (r.o+j) 1,Us] at this
  omega
 have Yl:(r.o+j)*e.size+es.length<=cur.toList.length:=by simpa using Ww
 have Rd:=Vo (P:=P) (w:=w) (hT.ty _ _ ht) r.g ((r.o+j)*e.size) vx es (by rw [hv];exact Ko e es x fz) jy (Cells.plain e es x fz) cur ti h2 Ww
 refine ⟨_,by simp only [Instr.storeAt,Instr.sureAddr];simpa using Rd,?_⟩
 refine h.set hl (b:= .arr (fr&&Vc) false e tid (xs.set j x)) ⟨rfl,by simp⟩ (by rw [hp];exact Nb w r.g _) λm=>?_
 simp only [Cd,Jk,hp]
 refine ⟨⟨h1.1,h1.2.1,λhf=>h1.2.2 (by simp only [Ag] at hf;exact hf.1)⟩,_,_,setRow_heap w r.g cur _ ti _ h2,by rw [Gf,Ii _ _ _ Yl];simpa using h3,h4,by simpa using h5,λi y hy=>?_,λhf=>by cases hf⟩
 rw [Eb] at hy
 split at hy
 ·rename_i pM;subst pM
  simp only [Aa] at hy;subst hy
  refine ⟨es,jy,λk u hu=>?_,(m.cells Vc e es x fz).and_right⟩
  have hk:k<es.length:=(Am.1 hu).1
  rw [Hl,Hj _ _ _ _ Yl,Ai (by omega),Ac (by omega)]
  rw [show (r.o+j)*e.size+k-(r.o+j)*e.size=k by omega];exact hu
 ·rename_i pM
  obtain ⟨lu,XE,oq,uM⟩:=h6 i y hy
  refine ⟨lu,XE,λk u hu=>?_,(m.cells fr e lu y uM).and_left⟩
  have hk:k<lu.length:=(Am.1 hu).1
  have:=oq k u hu
  rw [Hl,Hj _ _ _ _ Yl]
  rcases fT (o:=r.o) (i:=i) (j:=j) (s:=e.size) (p:=k) (Fv pM) (by omega) with Jl|qT
  ·rw [Ac Jl];simpa using this
  ·rw [Ai (by omega),Ai (by omega)];simpa using this
theorem jG: ∀(Fs:List (List Nat)) (i:Nat) (F':List Nat),(List.flatten Fs).Nodup->F'.Nodup->(∀b∈F',b∉List.flatten Fs)->(List.flatten (Fs.set i F')).Nodup/\ ∀b∈List.flatten (Fs.set i F'),b∈List.flatten Fs\/b∈F'
 | [],i,F',_,_,_=>by simp
 |G::Fs,0,F',hn,pN,hs=>by
  simp only [List.set_cons_zero,Ks] at hn hs⊢
  obtain ⟨n1,n2,n3⟩:=Dg.1 hn
  refine ⟨Dg.2 ⟨pN,n2,λa ha b hb e=>hs a ha (Cc _ (e▸hb))⟩,λb hb=>?_⟩
  rcases Az.1 hb with hb|hb
  ·exact .inr hb
  ·exact .inl (Cc _ hb)
 |G::Fs,i+1,F',hn,pN,hs=>by
  simp only [List.set_cons_succ,Ks] at hn hs⊢
  obtain ⟨n1,n2,n3⟩:=Dg.1 hn
  obtain ⟨m1,m2⟩:=jG Fs i F' n2 pN λb hb hm=>hs b hb (Cc _ hm)
  refine ⟨Dg.2 ⟨n1,m1,λa ha b hb e=>?_⟩,λb hb=>?_⟩
  ·subst e
   rcases m2 a hb with h|h
   ·exact n3 a ha a h rfl
   ·exact hs a h (Bj _ ha)
  ·rcases Az.1 hb with hb|hb
   ·exact .inl (Bj _ hb)
   ·exact (m2 b hb).imp (Cc _) id
theorem ub (hT:Dn P T) {st:St} {a:Act} (h:Bg X π st a w) {t:TypeId} {e:Ty} (ht:T.ty t=some e) {l j:Nat} {r:Real} {vx:Value} {tid:TypeId} {fr Vc:Bool} {xs:List e.den} {x:e.den}
  (hp:π l=some r) (hl:At st.heap l=some (.arr fr true e tid xs)) (hj:j<xs.length) (hx:Ct w (Cv X.w0.heap.size X.Sc π Vc) e vx x) {F:List Nat} {us:List Value} (hF:Cy w F e us x) (TH:vx=Bv e us) (lN:fK X w π F):
  ∃w',(Instr.storeAt t (.pointer (some ⟨r.g,(r.o+j)*e.size,none⟩)) vx).run P w= .ok () w'/\Bg X (Vs π l (some (r.plus F))) (st.Ji l (.arr (fr&&Vc) true e tid (xs.set j x))) a w':=by
 have hb:=(h.1.heap l).Qw hl
 simp only [Cd,Jk,hp] at hb
 obtain ⟨h1,cur,ti,h2,h3,h4,h5,h6,h7⟩:=hb
 obtain ⟨Fs,t1,t2,t3,t4⟩:=h7 trivial
 obtain ⟨es,fz,hv⟩:=hx
 have jy:=Cells.len e es x fz
 have An5:us=es:=by
  have c1:=Ko e us x (Cy.cells (S:= λ_=>False) F e us x hF λ_ _ h=>h)
  have c2:=Ko e es x fz
  rw [<-TH,hv,c2] at c1
  simpa using c1.symm
 subst An5
 have Ww:(r.o+j)*e.size+us.length<=cur.size:=by
  have:(r.o+j+1)*e.size<=(r.o+r.cap)*e.size:=Eg _ (by omega)
  rw [Dc (r.o+j) 1,Us] at this
  omega
 have Yl:(r.o+j)*e.size+us.length<=cur.toList.length:=by simpa using Ww
 have Rd:=Vo (P:=P) (w:=w) (hT.ty _ _ ht) r.g ((r.o+j)*e.size) vx us (by rw [hv];exact Ko e us x fz) jy (Cells.plain e us x fz) cur ti h2 Ww
 have Py:r.cl r.g:=h.1.sub l r _ hp h1.1
 have hng: ∀b∈F,b≠r.g:= λb hb e=>(lN.2 b hb).2.2 l r hp (e▸Py)
 have KW:=jG Fs j F (Ca.1 t2).2 lN.1 λb hb hm=>(lN.2 b hb).2.2 l r hp (t3 b hm)
 refine ⟨_,by simp only [Instr.storeAt,Instr.sureAddr];simpa using Rd,?_⟩
 refine h.Ans hl (b:= .arr (fr&&Vc) true e tid (xs.set j x)) ⟨rfl,by simp⟩ hp (λc hc=>⟨(lN.2 c hc).1,(lN.2 c hc).2.1,λm r0 _=>(lN.2 c hc).2.2 m r0⟩) (Nb w r.g _) λm=>?_
 simp only [Cd,Jk]
 have cell: ∀(i:Nat) (lu:List Value),i≠j->lu.length=e.size->(∀k u,lu[k]?=some u->cur[(r.o+i)*e.size+k]?=some u)-> ∀k u,lu[k]?=some u->(Dp cur.toList ((r.o+j)*e.size) us).toArray[(r.o+i)*e.size+k]?=some u:=by
  intro i lu dO XE oq k u hu
  have hk:k<lu.length:=(Am.1 hu).1
  have:=oq k u hu
  rw [Hl,Hj _ _ _ _ Yl]
  rcases fT (o:=r.o) (i:=i) (j:=j) (s:=e.size) (p:=k) dO (by omega) with Jl|qT
  ·rw [Ac Jl];simpa using this
  ·rw [Ai (by omega),Ai (by omega)];simpa using this
 have Aag: ∀k u,us[k]?=some u->(Dp cur.toList ((r.o+j)*e.size) us).toArray[(r.o+j)*e.size+k]?=some u:=by
  intro k u hu
  have hk:k<us.length:=(Am.1 hu).1
  rw [Hl,Hj _ _ _ _ Yl,Ai (by omega),Ac (by omega)]
  rw [show (r.o+j)*e.size+k-(r.o+j)*e.size=k by omega];exact hu
 refine ⟨⟨h1.1,h1.2.1,λhf=>h1.2.2 (by simp only [Ag] at hf;exact hf.1)⟩,_,_,setRow_heap w r.g cur _ ti _ h2,by rw [Gf,Ii _ _ _ Yl,Wf];exact h3,h4,by rw [Bt];exact h5,λi y hy=>?_,λ_=>?_⟩
 ·rw [Eb] at hy
  split at hy
  ·rename_i pM;subst pM
   simp only [Aa] at hy;subst hy
   exact ⟨us,jy,Aag,(m.cells Vc e us x fz).and_right⟩
  ·rename_i pM
   obtain ⟨lu,XE,oq,uM⟩:=h6 i y hy
   exact ⟨lu,XE,cell i lu (Fv pM) XE oq,(m.cells fr e lu y uM).and_left⟩
 ·refine ⟨Fs.set j F,by simp [t1],Ca.2 ⟨λhm=>?_,KW.1⟩,λb hb=>?_,λi y G hy hG=>?_⟩
  ·rcases KW.2 _ hm with h8|h8
   ·exact (Ca.1 t2).1 h8
   ·exact hng _ h8 rfl
  ·exact (KW.2 b hb).imp (t3 b) id
  ·rw [Eb] at hy hG
   split at hy
   ·rename_i pM;subst pM
    rw [Ac rfl] at hG
    rw [Ac (by omega)] at hG
    simp only [Aa] at hy hG;subst hy;subst hG
    exact ⟨us,jy,Aag,hF.Fb _ _ _ _ (by simp) λb hb=>setRow_other w r.g b _ (hng b hb)⟩
   ·rename_i pM
    rw [Ai pM] at hG
    obtain ⟨lu,XE,oq,uM⟩:=t4 i y G hy hG
    exact ⟨lu,XE,cell i lu (Fv pM) XE oq,uM.Fb _ _ _ _ (by simp) λb hb=>setRow_other w r.g b _ λe=>(Ca.1 t2).1 (Gt.2 ⟨G,Cf hG,e▸hb⟩)⟩
theorem MQ {st:St} {a:Act} (h:Bg X π st a w) {τ:Ty} {l:Nat} {x:AV} {vx:Value} (hx:Bn X w π st.heap x vx):Bn X w π st.heap (SA T st τ l x) vx:=by
 unfold SA
 split
 ·rename_i hc
  split
  ·rename_i p hp
   have:=Mi τ x vx p.1 p.2 (Db.1 hc).2 hx hp
   exact Ct.Ij this λb _ hA=>hA.imp id (Or.imp id λ⟨h1,_⟩=>by cases h1)
  ·exact hx
 ·exact hx
theorem pc (hT:Dn P T) {st:St} {a:Act} (h:Bg X π st a w) (t:TypeId) (p x:AV) (vp vx:Value) (hp:Bn X w π st.heap p vp) (hx:Bn X w π st.heap x vx) (st':St)
  (he:Tz T st t p x=some st'): ∃w' π',(Instr.storeAt t vp vx).run P w= .ok () w'/\Bg X π' st' a w':=by
 unfold Tz at he
 split at he
 ·rename_i τ l i ht
  split at he
  ·rename_i tid vs cs hl hc
   split at he
   ·rename_i hle
    simp only [Aa] at he
    obtain ⟨w',h1,h2⟩:=yx hT h ht hp (MQ h hx) hl hc hle
    split at he
    ·rename_i Je
     simp only [Ag,Ms] at Je
     subst he
     obtain ⟨QQ,h3⟩:=ef (T:=T) l i t τ cs.length 0 _ π (by omega) h2
     exact ⟨w',QQ,h1,h3⟩
    ·subst he
     exact ⟨w',π,h1,h2⟩
   ·cases he
  ·cases he
 ·rename_i τ l j ht
  split at he
  ·rename_i x' st1 hs
   obtain ⟨bl,h1,h2,h3,h4,h5⟩:=bd h hx hs
   split at he
   ·rename_i fr tr e tid xs Vc y hl hv
    split at he
    ·rename_i jz;subst jz
     split at he
     ·rename_i hj
      simp only [Aa] at he;subst he
      obtain ⟨r,b,sz,n,g1,g0,g2,g3,rfl⟩:=hp
      obtain ⟨k1,b',f,k2,k3⟩:=h4 l _ hl
      rw [g1] at k2;cases k2
      have g4:=Ma OB.row k3
      rw [show (OB.map f b).row=b.row by cases b<;>rfl,g0] at g4
      simp only [OB.row,Aa,Ad] at g4
      obtain ⟨rfl,rfl⟩:=g4
      cases lT:(tr&&(Sr st x&&τ.tree)) with
      |false=>
       obtain ⟨w',q1,q2⟩:=yu hT h1 ht (k1.trans g3) hl hj (Mi _ x' vx Vc y h3 h2 hv)
       exact ⟨w',bl,q1,q2⟩
      |true=>
       simp only [Ag] at lT
       obtain ⟨rfl,htv,jz⟩:=lT
       obtain ⟨F,us,f1,f2,f3,_⟩:=h5 htv τ Vc y jz hv
       obtain ⟨w',q1,q2⟩:=ub hT h1 ht (k1.trans g3) hl hj (Mi _ x' vx Vc y h3 h2 hv) f1 f2 f3
       exact ⟨w',_,q1,q2⟩
     ·cases he
    ·cases he
   ·cases he
  ·cases he
 ·cases he
theorem sf {S:Nat->Prop} {e:Ty} {v:Value} {ys:List e.den} (h:Cells w S (.slice e) [v] ys):
  ∃ad c,v= .slice ad ys.length c/\(ys= []\/ ∃g o,ad=some ⟨g,o,none⟩/\ ∃news:List Value,news.length=ys.length*e.size/\(∀j u,news[j]?=some u->w.cell? ⟨g,o+j,none⟩=some u)/\(∀u∈news,u.oneCell'=true)/\(∀j u,j<ys.length*e.size->w.cell? ⟨g,o+j,none⟩=some u->news[j]?=some u)/\
   ∀(i:Nat) (y:e.den),ys[i]?=some y-> ∃es:List Value,es.length=e.size/\(∀j u,es[j]?=some u->news[i*e.size+j]?=some u)/\Cells w S e es y):=by
 simp only [Cells] at h
 obtain ⟨ad,len,cap,hv,hl,qR,GC⟩:=h
 simp only [Ge,ah] at hv
 subst hl
 refine ⟨ad,cap,hv,?_⟩
 rcases GC with h0|⟨g,o,rfl,hg,hn,Kl⟩
 ·exact .inl h0
 ·right
  refine ⟨g,o,rfl,(List.range (ys.length*e.size)).map λj=>(w.cell? ⟨g,o+j,none⟩).getD undef,by simp,?_⟩
  have key: ∀k,k<ys.length*e.size-> ∃u,w.cell? ⟨g,o+k,none⟩=some u/\u.oneCell'=true:=by
   intro k hk
   have hs:0<e.size:=by
    rcases Zi e.size with h|h
    ·rw [h] at hk;simp at hk
    ·exact h
   have hi:k/e.size<ys.length:=(Nat.div_lt_iff_lt_mul hs).2 hk
   obtain ⟨es,fz,hc,aP⟩:=Kl (k/e.size) _ (Ab hi)
   have hm:k%e.size<es.length:=by rw [fz];exact Nat.mod_lt _ hs
   have:=hc (k%e.size) _ (Ab hm)
   rw [Gd,show k/e.size*e.size+k%e.size=k by rw [Nat.mul_comm];exact Nat.div_add_mod k e.size] at this
   exact ⟨_,this,Cells.plain e es _ aP _ (Al hm)⟩
  refine ⟨λj u hu=>?_,λu hu=>?_,λj u hj hu=>by rw [Fl,Wh hj];simp [hu],λi y hy=>?_⟩
  ·rw [Fl] at hu
   have hj:j<ys.length*e.size:=by
    by_cases hj:j<ys.length*e.size
    ·exact hj
    ·rw [Ds (by simpa using hj)] at hu;cases hu
   rw [Wh hj] at hu
   obtain ⟨u',fE,_⟩:=key j hj
   simp only [Ak,fE,Cw,Aa] at hu
   rw [fE,hu]
  ·obtain ⟨j,hj,rfl⟩:=Be.1 hu
   obtain ⟨u',fE,h1⟩:=key j (Ej.1 hj)
   rw [fE];exact h1
  ·obtain ⟨es,fz,hc,aP⟩:=Kl i y hy
   refine ⟨es,fz,λj u hu=>?_,aP⟩
   have hi:=(Am.1 hy).1
   have hj:=(Am.1 hu).1
   have Jl:i*e.size+j<ys.length*e.size:=by
    have:(i+1)*e.size<=ys.length*e.size:=Eg _ (by omega)
    rw [Dc,Us] at this
    omega
   rw [Fl,Wh Jl]
   have:=hc j u hu
   rw [Gd] at this
   simp [this]
end
end Go.Proofs.Ytkkdpknjohcekaa
