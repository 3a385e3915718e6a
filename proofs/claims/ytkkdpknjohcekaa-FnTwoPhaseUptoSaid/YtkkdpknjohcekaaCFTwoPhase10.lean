/-
  Part 11 of the proof that the statement FnTwoPhase holds.
-/
import Derived.Test.YtkkdpknjohcekaaCFTwoPhase09
namespace Go.Proofs.Ytkkdpknjohcekaa
open Go.RowKit
section
variable {P:Program} {T:Tab} {X:Ctx} {w w':World} {π:Pi} {H:List (Nat×OB)}
theorem OB.map_map (f g:AC->AC) (b:OB):OB.map g (OB.map f b)=OB.map (λc=>g (f c)) b:=by
 cases b with
 |var t vs=>simp [OB.map,Function.comp_def]
 |_=>rfl
theorem OB.GL (b:OB):OB.map (λc=>c) b=b:=by
 cases b with
 |var t vs=>simp [OB.map]
 |_=>rfl
def Lj (π π':Pi) (H H':List (Nat×OB)):Prop:= ∀l b',Ay H' l=some b'->π' l=π l/\ ∃b f,Ay H l=some b/\b'=OB.map f b
theorem Lj.refl (π:Pi) (H:List (Nat×OB)):Lj π π H H:= λ_ b h=>⟨rfl,b,λc=>c,h,(OB.GL b).symm⟩
theorem Lj.trans {cv XE π3:Pi} {H1 H2 H3:List (Nat×OB)} (h:Lj cv XE H1 H2) (h':Lj XE π3 H2 H3):Lj cv π3 H1 H3:= λl b hb=>by
 obtain ⟨e1,b1,f1,h1,rfl⟩:=h' l b hb
 obtain ⟨e2,b2,f2,h2,rfl⟩:=h l b1 h1
 exact ⟨e1.trans e2,b2,_,h2,OB.map_map f2 f1 b2⟩
theorem Lj.freeze (st:St) (l:Nat) (fr:Bool) (e:Ty) (xs:List e.den):Lj π (Xh π l none) st.heap (st.freeze l fr e xs).heap:= λk b hb=>by
 by_cases hk:k=l
 ·subst hk;rw [St.Mp] at hb;cases hb
 ·rw [St.Sb st l k fr e xs hk] at hb
  cases h0:Ay st.heap k with
  |none=>rw [h0] at hb;cases hb
  |some b0=>
   rw [h0] at hb
   simp only [An,Aa] at hb
   exact ⟨Gq π none hk,b0,_,rfl,hb.symm⟩
theorem Lj.Jb (st:St) (l:Nat) (v:Ty) (m:ByteArray->Option v.den):Lj π (Xh π l none) st.heap (st.Jb l v m).heap:= λk b hb=>by
 by_cases hk:k=l
 ·subst hk;rw [St.Tl] at hb;cases hb
 ·rw [St.Rf st l k v m hk] at hb
  cases h0:Ay st.heap k with
  |none=>rw [h0] at hb;cases hb
  |some b0=>
   rw [h0] at hb
   simp only [An,Aa] at hb
   exact ⟨Gq π none hk,b0,_,rfl,hb.symm⟩
theorem Lj.gone {π':Pi} {H':List (Nat×OB)} (k:Lj π π' H H') {l:Nat} (h:Ay H l=none):Ay H' l=none:=by
 cases hb:Ay H' l with
 |none=>rfl
 |some b=>
  obtain ⟨_,b0,f,h1,_⟩:=k l b hb
  rw [h] at h1;cases h1
def Eb (st:St):AC->AC
 | .own l off len=>match st.at l with
  |some (.arr fr _ e _ xs)=> .data fr (.slice e) ((xs.drop off).take len)
  |some (.Hc e _ xs)=> .data false (.slice e) ((xs.drop off).take len)
  |_=> .own l off len
 | .Ky l=>match st.at l with
  |some (.Wb v m)=> .data false (.smap v) m
  |_=> .Ky l
 |c=>c
theorem Tq {st:St} {c:AC} (h:c.settled=true):Eb st c=c:=by
 cases c<;>simp [AC.settled] at h<;>rfl
theorem wA {st st':St} {f:AC->AC} {l:Nat} (hH: ∀m,m≠l->Ay st'.heap m=(Ay st.heap m).map (OB.map f)) {c:AC} (hc: ∀k∈c.refs,k≠l):Eb st' c=Eb st c:=by
 cases c with
 |own k off len=>
  have hk:k≠l:=hc k (by simp [AC.refs])
  simp only [Eb,St.at,hH k hk]
  cases Ay st.heap k with
  |none=>rfl
  |some b=>cases b<;>rfl
 |Ky k=>
  have hk:k≠l:=hc k (by simp [AC.refs])
  simp only [Eb,St.at,hH k hk]
  cases Ay st.heap k with
  |none=>rfl
  |some b=>cases b<;>rfl
 |_=>rfl
theorem gS {a:Act} : ∀(n:Nat) (st:St) (π:Pi) (cs:List AC) (us:List Value) (iL:List AC) (st':St),Bm X π st a w->Gh X w π st.heap cs us->
  Hv n st cs=some (iL,st')-> ∃π',Bm X π' st' a w/\Gh X w π' st'.heap iL us/\iL.all (·.settled)=true/\Lj π π' st.heap st'.heap/\iL=cs.map (Eb st)/\
   (∀k,k∈cs.flatMap AC.refs->Ay st'.heap k=none)
 |0,st,π,cs,us,iL,st',h,hr,he=>by
  simp only [Hv] at he
  split at he
  ·rename_i hs
   simp only [Aa,Ag] at he
   obtain ⟨rfl,rfl⟩:=he
   have CZ:=Bg.1 hs
   exact ⟨π,h,hr,hs,Lj.refl _ _,((Hl λc hc=>Tq (CZ c hc)).trans (List.map_id'' (λ_=>rfl) cs)).symm,λk hk=>by
    obtain ⟨c,hc,CY⟩:=Gj.1 hk
    have:=CZ c hc
    cases c<;>simp [AC.settled] at this<;>simp [AC.refs] at CY⟩
  ·cases he
 |n+1,st,π,cs,us,iL,st',h,hr,he=>by
  simp only [Hv] at he
  have step: ∀(f:AC->AC) (l:Nat) (st1:St),Bm X (Xh π l none) st1 a w->Move X w w π (Xh π l none) st.heap st1.heap f->Ay st1.heap l=none->(∀m,m≠l->Ay st1.heap m=(Ay st.heap m).map (OB.map f))->
    Lj π (Xh π l none) st.heap st1.heap->(∀c∈cs,(∀k∈c.refs,k≠l)->f c=c)->(∀c∈cs,l∈c.refs->(f c).refs= []/\(Eb st1 (f c)).settled=true->f c=Eb st c)->
    (∀c∈cs,l∈c.refs->(f c).refs= [])->Hv n st1 (cs.map f)=some (iL,st')->
    ∃π',Bm X π' st' a w/\Gh X w π' st'.heap iL us/\iL.all (·.settled)=true/\Lj π π' st.heap st'.heap/\iL=cs.map (Eb st)/\(∀k,k∈cs.flatMap AC.refs->Ay st'.heap k=none):=by
   intro f l st1 h1 m hl hH hK hf0 hf1 hf2 he
   obtain ⟨π',h2,h3,h4,h5,h6,h7⟩:=gS n st1 _ (cs.map f) us iL st' h1 (m.acs hr) he
   refine ⟨π',h2,h3,h4,hK.trans h5,?_,λk hk=>?_⟩
   ·rw [h6,List.map_map]
    refine Hl λc hc=>?_
    simp only [Function.comp]
    by_cases Qr:l∈c.refs
    ·have Ly:=Bg.1 h4
     have tA:Eb st1 (f c)∈iL:=by rw [h6];exact Be.2 ⟨f c,Be.2 ⟨c,hc,rfl⟩,rfl⟩
     have hs:=Ly _ tA
     have h8:=hf1 c hc Qr ⟨hf2 c hc Qr,hs⟩
     have h9:Eb st1 (f c)=f c:=by
      have:=hf2 c hc Qr
      cases hfc:f c<;>rw [hfc] at this<;>first|(simp [AC.refs] at this;done)|rfl
     rw [h9,h8]
    ·have Ip: ∀k∈c.refs,k≠l:= λk hk e=>Qr (e▸hk)
     rw [hf0 c hc Ip]
     exact wA hH Ip
   ·obtain ⟨c,hc,CY⟩:=Gj.1 hk
    by_cases Nn:k=l
    ·subst Nn;exact h5.gone hl
    ·by_cases Qr:l∈c.refs
     ·
      have Ly:=Bg.1 h4
      have tA:Eb st1 (f c)∈iL:=by rw [h6];exact Be.2 ⟨f c,Be.2 ⟨c,hc,rfl⟩,rfl⟩
      have hs:=Ly _ tA
      have h8:=hf1 c hc Qr ⟨hf2 c hc Qr,hs⟩
      have h9:Eb st1 (f c)=f c:=by
       have:=hf2 c hc Qr
       cases hfc:f c<;>rw [hfc] at this<;>first|(simp [AC.refs] at this;done)|rfl
      rw [h9,h8] at hs
      cases c with
      |clo g Ew=>simp [Eb,AC.settled] at hs
      |own k' _ _=>simp [AC.refs] at Qr CY;exact absurd (CY.trans Qr.symm) Nn
      |Ky k'=>simp [AC.refs] at Qr CY;exact absurd (CY.trans Qr.symm) Nn
      |Ho k' _=>simp [AC.refs] at Qr CY;exact absurd (CY.trans Qr.symm) Nn
      |Kp k' _=>simp [AC.refs] at Qr CY;exact absurd (CY.trans Qr.symm) Nn
      |sub k' _ _=>simp [AC.refs] at Qr CY;exact absurd (CY.trans Qr.symm) Nn
      |Km k' _ _=>simp [AC.refs] at Qr CY;exact absurd (CY.trans Qr.symm) Nn
      |_=>simp [AC.refs] at CY
     ·have Ip: ∀k∈c.refs,k≠l:= λk hk e=>Qr (e▸hk)
      exact h7 k (Gj.2 ⟨f c,Be.2 ⟨c,hc,rfl⟩,by rw [hf0 c hc Ip];exact CY⟩)
  have DA: ∀(st1:St) (c:AC),(Eb st1 c).settled=true->c≠ .undef:= λst1 c hs e=>by rw [e] at hs;simp [Eb,AC.settled] at hs
  split at he
  ·rename_i hf
   simp only [Aa,Ag] at he
   obtain ⟨rfl,rfl⟩:=he
   have CZ: ∀c∈cs,c.settled=true:= λc hc=>by have:=List.find?_eq_none.1 hf c hc;simpa using this
   exact ⟨π,h,hr,Bg.2 CZ,Lj.refl _ _,((Hl λc hc=>Tq (CZ c hc)).trans (List.map_id'' (λ_=>rfl) cs)).symm,λk hk=>by
    obtain ⟨c,hc,CY⟩:=Gj.1 hk
    have:=CZ c hc
    cases c<;>simp [AC.settled] at this<;>simp [AC.refs] at CY⟩
  ·rename_i l off len hf
   split at he
   ·rename_i fr tr e tid xs hl
    unfold St.at at hl
    obtain ⟨h1,m⟩:=h.freeze (fr:=fr) (.inl ⟨tr,tid,hl⟩)
    refine step _ l _ h1 m (St.Mp st l fr e xs) (λm hm=>St.Sb st l m fr e xs hm) (Lj.freeze st l fr e xs) (λc _ hc=>iW hc) (λc _ Qr hs=>?_) (λc _ Qr=>?_) he
    ·cases c with
     |own k o n=>have:k=l:=(Af.1 Qr).symm
                 subst this;simp only [De,Ab,Eb,St.at,hl]
     |Ho k o=>have:k=l:=(Af.1 Qr).symm
              subst this;simp only [De,Ab] at hs;exact absurd rfl (DA _ _ hs.2)
     |Kp k o=>have:k=l:=(Af.1 Qr).symm
              subst this;simp only [De,Ab] at hs;exact absurd rfl (DA _ _ hs.2)
     |sub k o o2=>have:k=l:=(Af.1 Qr).symm
                  subst this;simp only [De,Ab] at hs;exact absurd rfl (DA _ _ hs.2)
     |Km k o o2=>have:k=l:=(Af.1 Qr).symm
                 subst this;simp only [De,Ab] at hs;exact absurd rfl (DA _ _ hs.2)
     |Ky k=>have:k=l:=(Af.1 Qr).symm
            subst this;simp only [De,Ab] at hs;exact absurd rfl (DA _ _ hs.2)
     |clo g Ew=>
      simp only [De] at hs
      rw [Ab (by simpa [AC.refs] using Qr)] at hs
      exact absurd rfl (DA _ _ hs.2)
     |_=>simp [AC.refs] at Qr
    ·cases c with
     |own k o n=>have:k=l:=(Af.1 Qr).symm
                 subst this;simp only [De,Ab];rfl
     |Ho k o=>have:k=l:=(Af.1 Qr).symm
              subst this;simp only [De,Ab];rfl
     |Kp k o=>have:k=l:=(Af.1 Qr).symm
              subst this;simp only [De,Ab];rfl
     |sub k o o2=>have:k=l:=(Af.1 Qr).symm
                  subst this;simp only [De,Ab];rfl
     |Km k o o2=>have:k=l:=(Af.1 Qr).symm
                 subst this;simp only [De,Ab];rfl
     |Ky k=>have:k=l:=(Af.1 Qr).symm
            subst this;simp only [De,Ab];rfl
     |clo g Ew=>simp only [De];rw [Ab (by simpa [AC.refs] using Qr)];rfl
     |_=>simp [AC.refs] at Qr
   ·rename_i e tid xs hl
    unfold St.at at hl
    obtain ⟨h1,m⟩:=h.freeze (fr:=false) (.inr ⟨rfl,tid,hl⟩)
    refine step _ l _ h1 m (St.Mp st l false e xs) (λm hm=>St.Sb st l m false e xs hm) (Lj.freeze st l false e xs) (λc _ hc=>iW hc) (λc _ Qr hs=>?_) (λc _ Qr=>?_) he
    ·cases c with
     |own k o n=>have:k=l:=(Af.1 Qr).symm
                 subst this;simp only [De,Ab,Eb,St.at,hl]
     |Ho k o=>have:k=l:=(Af.1 Qr).symm
              subst this;simp only [De,Ab] at hs;exact absurd rfl (DA _ _ hs.2)
     |Kp k o=>have:k=l:=(Af.1 Qr).symm
              subst this;simp only [De,Ab] at hs;exact absurd rfl (DA _ _ hs.2)
     |sub k o o2=>have:k=l:=(Af.1 Qr).symm
                  subst this;simp only [De,Ab] at hs;exact absurd rfl (DA _ _ hs.2)
     |Km k o o2=>have:k=l:=(Af.1 Qr).symm
                 subst this;simp only [De,Ab] at hs;exact absurd rfl (DA _ _ hs.2)
     |Ky k=>have:k=l:=(Af.1 Qr).symm
            subst this;simp only [De,Ab] at hs;exact absurd rfl (DA _ _ hs.2)
     |clo g Ew=>
      simp only [De] at hs
      rw [Ab (by simpa [AC.refs] using Qr)] at hs
      exact absurd rfl (DA _ _ hs.2)
     |_=>simp [AC.refs] at Qr
    ·cases c with
     |own k o n=>have:k=l:=(Af.1 Qr).symm
                 subst this;simp only [De,Ab];rfl
     |Ho k o=>have:k=l:=(Af.1 Qr).symm
              subst this;simp only [De,Ab];rfl
     |Kp k o=>have:k=l:=(Af.1 Qr).symm
              subst this;simp only [De,Ab];rfl
     |sub k o o2=>have:k=l:=(Af.1 Qr).symm
                  subst this;simp only [De,Ab];rfl
     |Km k o o2=>have:k=l:=(Af.1 Qr).symm
                 subst this;simp only [De,Ab];rfl
     |Ky k=>have:k=l:=(Af.1 Qr).symm
            subst this;simp only [De,Ab];rfl
     |clo g Ew=>simp only [De];rw [Ab (by simpa [AC.refs] using Qr)];rfl
     |_=>simp [AC.refs] at Qr
   ·cases he
  ·rename_i l hf
   split at he
   ·rename_i v mm hl
    unfold St.at at hl
    obtain ⟨h1,m⟩:=h.Jb hl
    refine step _ l _ h1 m (St.Tl st l v mm) (λm hm=>St.Rf st l m v mm hm) (Lj.Jb st l v mm) (λc _ hc=>td hc) (λc _ Qr hs=>?_) (λc _ Qr=>?_) he
    ·cases c with
     |Ky k=>have:k=l:=(Af.1 Qr).symm
            subst this;simp only [Hi,Ab,Eb,St.at,hl]
     |Ho k o=>have:k=l:=(Af.1 Qr).symm
              subst this;simp only [Hi,Ab] at hs;exact absurd rfl (DA _ _ hs.2)
     |Kp k o=>have:k=l:=(Af.1 Qr).symm
              subst this;simp only [Hi,Ab] at hs;exact absurd rfl (DA _ _ hs.2)
     |sub k o o2=>have:k=l:=(Af.1 Qr).symm
                  subst this;simp only [Hi,Ab] at hs;exact absurd rfl (DA _ _ hs.2)
     |Km k o o2=>have:k=l:=(Af.1 Qr).symm
                 subst this;simp only [Hi,Ab] at hs;exact absurd rfl (DA _ _ hs.2)
     |own k o n=>have:k=l:=(Af.1 Qr).symm
                 subst this;simp only [Hi,Ab] at hs;exact absurd rfl (DA _ _ hs.2)
     |clo g Ew=>
      simp only [Hi] at hs
      rw [Ab (by simpa [AC.refs] using Qr)] at hs
      exact absurd rfl (DA _ _ hs.2)
     |_=>simp [AC.refs] at Qr
    ·cases c with
     |own k o n=>have:k=l:=(Af.1 Qr).symm
                 subst this;simp only [Hi,Ab];rfl
     |Ho k o=>have:k=l:=(Af.1 Qr).symm
              subst this;simp only [Hi,Ab];rfl
     |Kp k o=>have:k=l:=(Af.1 Qr).symm
              subst this;simp only [Hi,Ab];rfl
     |sub k o o2=>have:k=l:=(Af.1 Qr).symm
                  subst this;simp only [Hi,Ab];rfl
     |Km k o o2=>have:k=l:=(Af.1 Qr).symm
                 subst this;simp only [Hi,Ab];rfl
     |Ky k=>have:k=l:=(Af.1 Qr).symm
            subst this;simp only [Hi,Ab];rfl
     |clo g Ew=>simp only [Hi];rw [Ab (by simpa [AC.refs] using Qr)];rfl
     |_=>simp [AC.refs] at Qr
   ·cases he
  ·cases he
def iq (X:Ctx) (w:World) (π:Pi) (F:List Nat):Prop:=F.Nodup/\ ∀b∈F,(X.w0.heap.size<=b\/X.gv b)/\b<w.heap.size/\ ∀l r,π l=some r-> ¬r.cl b
theorem Yi {S:Nat->Prop} : ∀(e:Ty) (es:List Value) (x:e.den),e.flat=true->Cells w S e es x->Dj w [] e es x
 | .int k,cs,n,_,h=>⟨rfl,h⟩
 | .bool,cs,n,_,h=>⟨rfl,h⟩
 | .str,cs,n,_,h=>⟨rfl,h⟩
 | .unit,cs,n,_,h=>⟨rfl,h⟩
 | .pair a r,cs,x,hf,h=>by
  simp only [Ty.flat,Aj] at hf
  simp only [Cells] at h
  simp only [Dj]
  obtain ⟨c1,c2,h1,h2,h3⟩:=h
  exact ⟨c1,c2,[],[],h1,rfl,Yi a c1 x.1 hf.1 h2,Yi r c2 x.2 hf.2 h3⟩
 | .slice _,_,_,hf,_=>by simp [Ty.flat] at hf
 | .oslice _,_,_,hf,_=>by simp [Ty.flat] at hf
 | .ptr _,_,_,hf,_=>by simp [Ty.flat] at hf
 | .optr _,_,_,hf,_=>by simp [Ty.flat] at hf
 | .smap _,_,_,hf,_=>by simp [Ty.flat] at hf
 | .clo _ _,_,_,hf,_=>by simp [Ty.flat] at hf
theorem Ss {Fs:List (List Nat)} (off len:Nat) (b:Nat) (h:b∈List.flatten ((Fs.drop off).take len)):b∈List.flatten Fs:=by
 obtain ⟨F,hF,hb⟩:=Ht.1 h
 exact Ht.2 ⟨F,dQ (Gf hF),hb⟩
theorem gV {α:Type} {a b:List (List α)} (h:a.Sublist b):(List.flatten a).Sublist (List.flatten b):=by
 induction h with
 |slnil=>exact List.Sublist.refl _
 |cons c _ ih=>simp only [Ls];exact ih.trans (List.sublist_append_right _ _)
 |cons_cons c _ ih=>simp only [Ls];exact List.Sublist.append (List.Sublist.refl _) ih
theorem mC {Fs:List (List Nat)} (off len:Nat) (h:(List.flatten Fs).Nodup):(List.flatten ((Fs.drop off).take len)).Nodup:=by
 have h1:((Fs.drop off).take len).Sublist Fs:=(List.take_sublist len _).trans (List.drop_sublist off Fs)
 exact h.sublist (gV h1)
theorem kI {P:Nat->Prop} {r:Real} {off len:Nat} {v:Value} {e:Ty} {tid:TypeId} {xs:List e.den} {cur:Array Value} (h2:w.heap[r.g]?=some (.cells cur tid (0,0))) (Uo:cur.size=(r.o+r.cap)*e.size) (tq:r.cap<=maxLen)
  (hlen:off+len<=xs.length) (hv:Ig (some r) e.size off len v) (ht:Xy w P r.g r.o cur e xs) (hg:P r.g):
  ∃F,Dj w F (.slice e) [v] ((xs.drop off).take len)/\F.Nodup/\ ∀b∈F,P b:=by
 have JV:((xs.drop off).take len).length=len:=by simp;omega
 obtain ⟨ad,rfl,hc,ha⟩:=hv
 obtain ⟨Fs,t1,t2,t3,t4⟩:=ht
 ·refine ⟨r.g::List.flatten ((Fs.drop off).take len),⟨some ad,len,r.cap-off,rfl,JV.symm,by omega, .inr ⟨ad,r.g,(r.o+off)*e.size,_,rfl,λh0=>ha (by omega),⟨cur,tid,r.o+off,h2,rfl,by rw [Uo];congr 1;omega,by omega⟩,rfl,by simp;omega,λi x F hx hF=>?_⟩⟩,?_,λb hb=>?_⟩
  ·have hi:i<len:=by
    have:=(Ap.1 hx).1
    rw [JV] at this;exact this
   have hx':xs[off+i]?=some x:=by rw [Db,Ab hi,Cs] at hx;exact hx
   have hF':Fs[off+i]?=some F:=by rw [Db,Ab hi,Cs] at hF;exact hF
   obtain ⟨es,he,hj,zh⟩:=t4 (off+i) x F hx' hF'
   refine ⟨es,he,λj u hu=>?_,zh⟩
   rw [cellOf h2]
   have:=hj j u hu
   rw [<-this]
   congr 1
   rw [<-Gx,Dq (r.o+off) i]
  ·have:=Cm.1 t2
   exact Cm.2 ⟨λhm=>this.1 (Ss off len _ hm),mC off len this.2⟩
  ·rcases Bb.1 hb with rfl|hb
   ·exact hg
   ·exact t3 b (Ss off len b hb)
theorem oJ {st:St} (h:Nk X w π st.heap) {c:AC} {v:Value} (hc:Hu X w π st.heap c v) (ht:So st c=true) (τ:Ty) (fr:Bool) (x:τ.den) (Ue:τ.Ar=false) (TR:τ.tree=true)
  (hv:Ee st τ (Eb st c)=some (fr,x)): ∃F,Dj w F τ [v] x/\F.Nodup/\ ∀b∈F,∃l r,l∈c.refs/\π l=some r/\r.cl b:=by
 cases c with
 |data Wm Ox y=>
  simp only [So] at ht
  simp only [Eb,Oi] at hv
  split at hv
  ·rename_i he;subst he
   simp only [Aa,Ag] at hv
   obtain ⟨_,rfl⟩:=hv
   exact ⟨[],Yi Ox _ _ ht (Dc.Sj Ue hc),Mc,λb hb=>by cases hb⟩
  ·unfold iK at hv
   split at hv
   ·simp [Ty.flat] at ht
   ·simp [Ty.flat] at ht
   ·cases hv
 |Mj=>
  have hc:v= .slice none 0 0:=hc
  subst hc
  cases τ with
  |slice e=>
   simp only [Eb,Ee,Aa,Ag] at hv
   obtain ⟨_,rfl⟩:=hv
   exact ⟨[],⟨none,0,0,rfl,rfl,Aq _, .inl ⟨rfl,rfl,rfl,rfl⟩⟩,Mc,λb hb=>by cases hb⟩
  |oslice e=>simp [Ty.tree] at TR
  |_=>simp [Eb,Ee] at hv
 |own l off len=>
  simp only [So] at ht
  split at ht
  ·rename_i Wm tr e tid xs hl
   have Ll:=hl
   unfold St.at at hl
   simp only [Eb,Ll,Oi] at hv
   split at hv
   ·rename_i he;subst he
    simp only [Aa,Ag] at hv
    obtain ⟨_,rfl⟩:=hv
    obtain ⟨h2,h3⟩:=Pd hc hl
    have hb:=(h.heap l).Ru hl
    simp only [Co,Kn] at hb
    cases hp:π l with
    |none=>
     rw [hp] at h3
     obtain ⟨rfl,rfl,rfl⟩:=h3
     exact ⟨[],⟨none,0,0,rfl,by simp,Aq _, .inl ⟨by simp,rfl,rfl,rfl⟩⟩,Mc,λb hb=>by cases hb⟩
    |some r=>
     rw [hp] at hb h3
     obtain ⟨k1,cur,_,k2,k3,k4,k5,k6,k7⟩:=hb
     have RG:Xy w r.cl r.g r.o cur e xs:=by
      simp only [Ks] at ht
      rcases ht with ht|ht
      ·exact k7 ht
      ·refine ⟨List.replicate xs.length [],by simp,by simp,by simp,λi x F hx hF=>?_⟩
       obtain ⟨es,e1,e2,e3⟩:=k6 i x hx
       have:F= []:=by
        have:=Cq hF
        exact Gc this
       subst this
       exact ⟨es,e1,e2,Yi e es x ht e3⟩
     obtain ⟨F,f1,f2,f3⟩:=kI k2 k3 k4 h2 h3 RG (h.sub l r _ hp k1.1)
     exact ⟨F,f1,f2,λb hb=>⟨l,r,by simp [AC.refs],hp,f3 b hb⟩⟩
   ·cases τ<;>simp [iK] at hv
  ·rename_i e tid xs hl
   have Ll:=hl
   unfold St.at at hl
   simp only [Eb,Ll,Oi] at hv
   split at hv
   ·rename_i he;subst he
    simp only [Aa,Ag] at hv
    obtain ⟨_,rfl⟩:=hv
    obtain ⟨h2,h3⟩:=cg hc hl
    have hb:=(h.heap l).Ru hl
    simp only [Co,Om] at hb
    cases hp:π l with
    |none=>
     rw [hp] at h3
     obtain ⟨rfl,rfl,rfl⟩:=h3
     exact ⟨[],⟨none,0,0,rfl,by simp,Aq _, .inl ⟨by simp,rfl,rfl,rfl⟩⟩,Mc,λb hb=>by cases hb⟩
    |some r=>
     rw [hp] at hb h3
     obtain ⟨k1,cur,_,k2,k3,k4,k5,k7⟩:=hb
     obtain ⟨F,f1,f2,f3⟩:=kI k2 k3 k4 h2 h3 k7 k1
     exact ⟨F,f1,f2,λb hb=>⟨l,r,by simp [AC.refs],hp,h.sub l r b hp (f3 b hb)⟩⟩
   ·cases τ<;>simp [iK] at hv
  ·cases ht
 |_=>simp [So] at ht
theorem Yq: ∀ {l:List Nat},aw l=true->l.Nodup
 | [],_=>Mc
 |a::r,h=>by
  simp only [aw,Aj,Fg,List.contains_eq_mem,decide_eq_false_iff_not] at h
  exact Cm.2 ⟨h.1,Yq h.2⟩
theorem bj {st st':St} {τ:Ty} {c:AC} (h:c.settled=true):Ee st' τ c=Ee st τ c:=by
 cases c<;>simp [AC.settled] at h<;>cases τ<;>rfl
theorem wO {st st':St} (h:Nk X w π st.heap): ∀(τ:Ty) (cs:List AC) (us:List Value) (fr:Bool) (x:τ.den),Gh X w π st.heap cs us->cs.all (So st)=true->(cs.flatMap AC.refs).Nodup->
  (cs.map (Eb st)).all (·.settled)=true->τ.tree=true->Fq st' τ (cs.map (Eb st))=some (fr,x)-> ∃F,Dj w F τ us x/\F.Nodup/\ ∀b∈F,∃l r,l∈cs.flatMap AC.refs/\π l=some r/\r.cl b:=by
 have one: ∀(τ:Ty) (cs:List AC) (us:List Value) (fr:Bool) (x:τ.den),τ.Ar=false->Gh X w π st.heap cs us->cs.all (So st)=true->
   (cs.map (Eb st)).all (·.settled)=true->τ.tree=true->Fq st' τ (cs.map (Eb st))=some (fr,x)-> ∃F,Dj w F τ us x/\F.Nodup/\ ∀b∈F,∃l r,l∈cs.flatMap AC.refs/\π l=some r/\r.cl b:=by
  intro τ cs us fr x Ue hr ht hs Wg hv
  rw [Ul Ue] at hv
  rcases cs with _|⟨c,_|⟨d,cs⟩⟩
  ·cases hv
  ·simp only [Ca,List.map_nil] at hv
   obtain ⟨u,hu,_,hc⟩:=hr.2 0 c rfl
   have hl:us.length=1:=hr.1
   obtain ⟨u',rfl⟩:=Es.1 hl
   simp at hu;subst hu
   rw [bj (st:=st) (by simpa using hs)] at hv
   obtain ⟨F,f1,f2,f3⟩:=oJ h hc (by simpa using ht) τ fr x Ue Wg hv
   exact ⟨F,f1,f2,λb hb=>by obtain ⟨l,r,g1,g2⟩:=f3 b hb;exact ⟨l,r,by simpa using g1,g2⟩⟩
  ·cases hv
 intro τ
 induction τ with
 |unit=>
  intro cs us fr x hr ht hd hs Wg hv
  cases cs with
  |nil=>have:us= []:=Cp hr.1;subst this;exact ⟨[],⟨rfl,rfl⟩,Mc,λb hb=>by cases hb⟩
  |cons c cs=>simp [Fq] at hv
 |pair a r il ie=>
  intro cs us fr x hr ht hd hs Wg hv
  simp only [Ty.tree,Aj] at Wg
  simp only [Fq] at hv
  split at hv
  ·rename_i f1 y f2 z h1 h2
   simp only [Aa,Ag] at hv
   obtain ⟨rfl,rfl⟩:=hv
   have hr1:Gh X w π st.heap (cs.take a.size) (us.take a.size):=by have:=ae hr 0 a.size;simpa using this
   have hr2:Gh X w π st.heap (cs.drop a.size) (us.drop a.size):=
    ⟨by simp [hr.1],λi c hc=>by
     rw [Cs] at hc⊢
     exact hr.2 _ c hc⟩
   have Apz: ∀ {p:AC->Bool} {l:List AC} (n:Nat),l.all p=true->(l.take n).all p=true:= λn hl=>Bg.2 λc hc=>Bg.1 hl c (Gf hc)
   have Aq0: ∀ {p:AC->Bool} {l:List AC} (n:Nat),l.all p=true->(l.drop n).all p=true:= λn hl=>Bg.2 λc hc=>Bg.1 hl c (dQ hc)
   have hdd:((cs.take a.size++cs.drop a.size).flatMap AC.refs).Nodup:=by rw [Ka];exact hd
   rw [List.flatMap_append] at hdd
   obtain ⟨d1,d2,d3⟩:=Dz.1 hdd
   rw [<-List.map_take] at h1
   rw [<-List.map_drop] at h2
   obtain ⟨F1,t1,n1,c1⟩:=il _ _ f1 y hr1 (Apz _ ht) d1 (by rw [List.map_take];exact Apz _ hs) Wg.1 h1
   obtain ⟨F2,t2,n2,c2⟩:=ie _ _ f2 z hr2 (Aq0 _ ht) d2 (by rw [List.map_drop];exact Aq0 _ hs) Wg.2 h2
   refine ⟨F1++F2,⟨us.take a.size,us.drop a.size,F1,F2,(Ka _ _).symm,rfl,t1,t2⟩,Dz.2 ⟨n1,n2,λb hb b' se e=>?_⟩,λb hb=>?_⟩
   ·subst e
    obtain ⟨l1,r1,g1,g2,g3⟩:=c1 b hb
    obtain ⟨l2,r2,g4,g5,g6⟩:=c2 b se
    exact d3 l1 g1 l2 g4 (h.inj l1 l2 r1 r2 b g2 g5 g3 g6)
   ·have Ly: ∀l,(l∈(cs.take a.size).flatMap AC.refs\/l∈(cs.drop a.size).flatMap AC.refs)->l∈cs.flatMap AC.refs:= λl hl=>by
     rw [<-Az,<-List.flatMap_append,Ka] at hl;exact hl
    rcases Az.1 hb with hb|hb
    ·obtain ⟨l1,r1,g1,g2⟩:=c1 b hb;exact ⟨l1,r1,Ly l1 (.inl g1),g2⟩
    ·obtain ⟨l1,r1,g1,g2⟩:=c2 b hb;exact ⟨l1,r1,Ly l1 (.inr g1),g2⟩
  ·cases hv
 |_=>exact λcs us fr x hr ht _ hs Wg hv=>one _ cs us fr x rfl hr ht hs Wg hv
theorem QN {π':Pi} {st st':St} {a:Act} (h:Bm X π st a w) (h':Bm X π' st' a w) (k:Lj π π' st.heap st'.heap) {ls:List Nat} (hg: ∀l∈ls,Ay st'.heap l=none) {F:List Nat} (hF:F.Nodup)
  (hc: ∀b∈F,∃l r,l∈ls/\π l=some r/\r.cl b):iq X w π' F:=by
 refine ⟨hF,λb hb=>?_⟩
 obtain ⟨l,r,h1,h2,h3⟩:=hc b hb
 have hp:=h.1.place l r b h2 h3
 refine ⟨hp.1,hp.2,λl2 r2 h4 h5=>?_⟩
 cases hh:Ay st'.heap l2 with
 |none=>rw [(h'.1.heap l2).emp hh] at h4;cases h4
 |some b'=>
  have h6:=(k l2 b' hh).1
  rw [h6] at h4
  have:=h.1.inj l l2 r r2 b h2 h4 h3 h5
  subst this
  rw [hg l h1] at hh;cases hh
theorem ck {st:St} {a:Act} (h:Bm X π st a w) {c:AV} {v:Value} (hc:Bt X w π st.heap c v) {c':AV} {st':St} (he:settle st c=some (c',st')):
  ∃π',Bm X π' st' a w/\Bt X w π' st'.heap c' v/\c'.settled=true/\Lj π π' st.heap st'.heap/\
   (Ts st c=true-> ∀(τ:Ty) (fr:Bool) (x:τ.den),τ.tree=true->Ge st' τ c'=some (fr,x)-> ∃F us,Dj w F τ us x/\v=Ci τ us/\iq X w π' F/\ ∀b∈F,∃l r,π l=some r/\r.cl b):=by
 have cell: ∀(a0:AC) (st':St) (π':Pi),Hu X w π st.heap a0 v->Bm X π' st' a w->(Eb st a0).settled=true->Lj π π' st.heap st'.heap->(∀l∈a0.refs,Ay st'.heap l=none)->
   So st a0=true-> ∀(τ:Ty) (fr:Bool) (x:τ.den),τ.tree=true->Ge st' τ (.at (Eb st a0))=some (fr,x)-> ∃F us,Dj w F τ us x/\v=Ci τ us/\iq X w π' F/\ ∀b∈F,∃l r,π l=some r/\r.cl b:=by
  intro a0 st1 cv hr h1 hs hk hg ht τ fr x Wg hv
  by_cases Ue:τ.Ar=true
  ·
   cases FJ:Eb st a0 with
   |data Wm Ox y=>
    rw [FJ,dk] at hv
    split at hv
    ·rename_i het;subst het
     simp only [Aa,Ag] at hv
     obtain ⟨_,rfl⟩:=hv
     cases a0 with
     |data s9 τ2 z=>
      simp only [Eb,AC.data.injEq] at FJ
      obtain ⟨rfl,rfl,hz⟩:=FJ
      have hz:=eq_of_heq hz
      subst hz
      obtain ⟨cs,zh,rfl⟩:=hr
      exact ⟨[],cs,Yi _ cs _ ht zh,rfl,⟨Mc,λb hb=>by cases hb⟩,λb hb=>by cases hb⟩
     |own l off len=>
      simp only [Eb] at FJ
      split at FJ
      ·simp only [AC.data.injEq] at FJ;obtain ⟨_,h2,_⟩:=FJ;subst h2;simp [Ty.Ar] at Ue
      ·simp only [AC.data.injEq] at FJ;obtain ⟨_,h2,_⟩:=FJ;subst h2;simp [Ty.Ar] at Ue
      ·cases FJ
     |Ky l=>simp [So] at ht
     |_=>simp [Eb] at FJ
    ·cases hv
   |_=>rw [FJ] at hv;simp only [Ge,Ue,Oz] at hv;cases hv
  ·simp only [En] at Ue
   have xy:Ee st τ (Eb st a0)=some (fr,x):=by
    rw [<-bj (st:=st) (st':=st1) hs]
    cases FJ:Eb st a0 with
    |data Wm Ox y=>
     rw [FJ,dk] at hv
     rw [Oi]
     split at hv
     ·rename_i het;rw [Jk het];exact hv
     ·rename_i het
      rw [dif_neg het]
      simp only [Ue,Di,Rt,CJ,Oi] at hv
      rw [dif_neg het] at hv
      exact hv
    |Mj=>rw [FJ] at hv;simp only [Ge,Ue,Di,Rt] at hv;rw [Qp rfl] at hv;exact hv
    |Wa=>rw [FJ] at hv;simp only [Ge,Ue,Di,Rt] at hv;rw [Qp rfl] at hv;exact hv
    |_=>rw [FJ] at hs;simp [AC.settled] at hs
   obtain ⟨F,f1,f2,f3⟩:=oJ h.1 hr ht τ fr x Ue Wg xy
   exact ⟨F,[v],f1,by simp [Ci,Ue],QN h h1 hk hg f2 f3,λb hb=>let ⟨l,r,_,q⟩:=f3 b hb;⟨l,r,q⟩⟩
 unfold settle at he
 split at he
 ·rename_i l off len
  split at he
  ·rename_i fr tr e tid xs hl
   simp only [Aa,Ag] at he
   obtain ⟨rfl,rfl⟩:=he
   obtain ⟨h1,m⟩:=h.freeze (fr:=fr) (.inl ⟨tr,tid,hl⟩)
   have:=m.ac (.own l off len) v hc
   simp only [De,Oz] at this
   have kS:Eb st (.own l off len)= .data fr (.slice e) ((xs.drop off).take len):=by simp only [Eb,hl]
   refine ⟨_,h1,this,rfl,Lj.freeze st l fr e xs,λht=>?_⟩
   have:=cell (.own l off len) _ _ hc h1 (by rw [kS];rfl) (Lj.freeze st l fr e xs) (λk hk=>by rw [Af.1 hk];exact St.Mp st l fr e xs) ht
   rw [kS] at this
   exact this
  ·rename_i e tid xs hl
   simp only [Aa,Ag] at he
   obtain ⟨rfl,rfl⟩:=he
   obtain ⟨h1,m⟩:=h.freeze (fr:=false) (.inr ⟨rfl,tid,hl⟩)
   have:=m.ac (.own l off len) v hc
   simp only [De,Oz] at this
   have kS:Eb st (.own l off len)= .data false (.slice e) ((xs.drop off).take len):=by simp only [Eb,hl]
   refine ⟨_,h1,this,rfl,Lj.freeze st l false e xs,λht=>?_⟩
   have:=cell (.own l off len) _ _ hc h1 (by rw [kS];rfl) (Lj.freeze st l false e xs) (λk hk=>by rw [Af.1 hk];exact St.Mp st l false e xs) ht
   rw [kS] at this
   exact this
  ·cases he
 ·rename_i l
  split at he
  ·rename_i vt mm hl
   simp only [Aa,Ag] at he
   obtain ⟨rfl,rfl⟩:=he
   obtain ⟨h1,m⟩:=h.Jb hl
   have:=m.ac (.Ky l) v hc
   simp only [Hi,Oz] at this
   exact ⟨_,h1,this,rfl,Lj.Jb st l vt mm,λht=>by simp [Ts,So] at ht⟩
  ·cases he
 ·rename_i a0 _ _
  split at he
  ·rename_i hs
   simp only [Aa,Ag] at he
   obtain ⟨rfl,rfl⟩:=he
   refine ⟨π,h,hc,hs,Lj.refl _ _,λht=>?_⟩
   have kS:=Tq (st:=st) hs
   have:=cell a0 st π hc h (by rw [kS];exact hs) (Lj.refl _ _) (λk hk=>by
    cases a0<;>simp [AC.settled] at hs<;>simp [AC.refs] at hk) ht
   rw [kS] at this
   exact this
  ·cases he
 ·rename_i cs
  cases hsc:Hv cs.length st cs with
  |none=>rw [hsc] at he;cases he
  |some p=>
   rw [hsc] at he
   simp only [An,Aa,Ag] at he
   obtain ⟨rfl,rfl⟩:=he
   obtain ⟨us,rfl,hr⟩:=hc
   obtain ⟨π',h2,h3,h4,h5,h6,h7⟩:=gS cs.length st π cs us p.1 p.2 h hr hsc
   refine ⟨π',h2,⟨us,rfl,h3⟩,h4,h5,λht τ fr x Wg hv=>?_⟩
   simp only [Ts,Aj] at ht
   simp only [Ge] at hv
   split at hv
   ·rename_i Ue
    rw [h6] at hv h4
    obtain ⟨F,f1,f2,f3⟩:=wO h.1 τ cs us fr x hr ht.1 (Yq ht.2) h4 Wg hv
    exact ⟨F,us,f1,by simp [Ci,Ue],QN h h2 h5 h7 f2 f3,λb hb=>let ⟨l,r,_,q⟩:=f3 b hb;⟨l,r,q⟩⟩
   ·cases hv
 ·simp only [Aa,Ag] at he
  obtain ⟨rfl,rfl⟩:=he
  exact ⟨π,h,hc,rfl,Lj.refl _ _,λht=>by simp [Ts] at ht⟩
 ·cases he
theorem iA {o i j s p:Nat} (Ip:i≠j) (hp:p<s):(o+i)*s+p<(o+j)*s\/(o+j)*s+s<=(o+i)*s+p:=by
 rcases Nat.lt_or_gt_of_ne Ip with h|h
 ·left
  have:(o+i+1)*s<=(o+j)*s:=Fl _ (by omega)
  rw [Dq,We] at this
  omega
 ·right
  have:(o+j+1)*s<=(o+i)*s:=Fl _ (by omega)
  rw [Dq,We] at this
  omega
theorem Im {α:Type} (l ys:List α) (i k:Nat) (h:i+ys.length<=l.length):(Dw l i ys)[k]?=if k<i then l[k]? else if k<i+ys.length then ys[k-i]? else l[k]?:=by
 unfold Dw
 have t1:(l.take i).length=i:=by simp;omega
 split
 ·rename_i hk
  rw [Bo,Au (by omega),Db,Ab hk]
 ·split
  ·rename_i hk
   rw [Bo,At (by omega),t1,Au (by omega)]
  ·rw [At (by simp;omega),Cs]
   congr 1
   simp;omega
theorem Jg {α:Type} (l ys:List α) (i:Nat) (h:i+ys.length<=l.length):(Dw l i ys).length=l.length:=by
 unfold Dw;simp;omega
theorem BP (hT:Eh P T) {st:St} {a:Act} (h:Bm X π st a w) {t:TypeId} {e:Ty} (ht:T.ty t=some e) {l j:Nat} {r:Real} {vx:Value} {tid:TypeId} {fr Wm:Bool} {xs:List e.den} {x:e.den}
  (hp:π l=some r) {tr:Bool} (hl:Ay st.heap l=some (.arr fr tr e tid xs)) (hj:j<xs.length) (hx:Dc w (Df X.w0.heap.size X.Sc π Wm) e vx x):
  ∃w',(Instr.storeAt t (.pointer (some ⟨r.g,(r.o+j)*e.size,none⟩)) vx).run P w= .ok () w'/\Bm X π (st.Kl l (.arr (fr&&Wm) false e tid (xs.set j x))) a w':=by
 have hb:=(h.1.heap l).Ru hl
 simp only [Co,Kn,hp] at hb
 obtain ⟨h1,cur,ti,h2,h3,h4,h5,h6,_⟩:=hb
 obtain ⟨es,eu,hv⟩:=hx
 have ll:=Cells.len e es x eu
 have Yj:(r.o+j)*e.size+es.length<=cur.size:=by
  have:(r.o+j+1)*e.size<=(r.o+r.cap)*e.size:=Fl _ (by omega)
  rw [Dq (r.o+j) 1,We] at this
  omega
 have Zy:(r.o+j)*e.size+es.length<=cur.toList.length:=by simpa using Yj
 have Vz:=Wz (P:=P) (w:=w) (hT.ty _ _ ht) r.g ((r.o+j)*e.size) vx es (by rw [hv];exact Lp e es x eu) ll (Cells.plain e es x eu) cur ti h2 Yj
 refine ⟨_,by simp only [Instr.storeAt,Instr.sureAddr];simpa using Vz,?_⟩
 refine h.set hl (b:= .arr (fr&&Wm) false e tid (xs.set j x)) ⟨rfl,by simp⟩ (by rw [hp];exact Nz w r.g _) λm=>?_
 simp only [Co,Kn,hp]
 refine ⟨⟨h1.1,h1.2.1,λhf=>h1.2.2 (by simp only [Aj] at hf;exact hf.1)⟩,_,_,setRow_heap w r.g cur _ ti _ h2,by rw [Hb,Jg _ _ _ Zy];simpa using h3,h4,by simpa using h5,λi y hy=>?_,λhf=>by cases hf⟩
 rw [Ei] at hy
 split at hy
 ·rename_i mT;subst mT
  simp only [Aa] at hy;subst hy
  refine ⟨es,ll,λk u hu=>?_,(m.cells Wm e es x eu).and_right⟩
  have hk:k<es.length:=(Ap.1 hu).1
  rw [Io,Im _ _ _ _ Zy,Ai (by omega),Ab (by omega)]
  rw [show (r.o+j)*e.size+k-(r.o+j)*e.size=k by omega];exact hu
 ·rename_i mT
  obtain ⟨nA,FF,mU,xo⟩:=h6 i y hy
  refine ⟨nA,FF,λk u hu=>?_,(m.cells fr e nA y xo).and_left⟩
  have hk:k<nA.length:=(Ap.1 hu).1
  have:=mU k u hu
  rw [Io,Im _ _ _ _ Zy]
  rcases iA (o:=r.o) (i:=i) (j:=j) (s:=e.size) (p:=k) (Gv mT) (by omega) with Lg|vT
  ·rw [Ab Lg];simpa using this
  ·rw [Ai (by omega),Ai (by omega)];simpa using this
theorem lA: ∀(Fs:List (List Nat)) (i:Nat) (F':List Nat),(List.flatten Fs).Nodup->F'.Nodup->(∀b∈F',b∉List.flatten Fs)->(List.flatten (Fs.set i F')).Nodup/\ ∀b∈List.flatten (Fs.set i F'),b∈List.flatten Fs\/b∈F'
 | [],i,F',_,_,_=>by simp
 |G::Fs,0,F',hn,lp,hs=>by
  simp only [List.set_cons_zero,Ls] at hn hs⊢
  obtain ⟨n1,n2,n3⟩:=Dz.1 hn
  refine ⟨Dz.2 ⟨lp,n2,λa ha b hb e=>hs a ha (Cn _ (e▸hb))⟩,λb hb=>?_⟩
  rcases Az.1 hb with hb|hb
  ·exact .inr hb
  ·exact .inl (Cn _ hb)
 |G::Fs,i+1,F',hn,lp,hs=>by
  simp only [List.set_cons_succ,Ls] at hn hs⊢
  obtain ⟨n1,n2,n3⟩:=Dz.1 hn
  obtain ⟨m1,m2⟩:=lA Fs i F' n2 lp λb hb hm=>hs b hb (Cn _ hm)
  refine ⟨Dz.2 ⟨n1,m1,λa ha b hb e=>?_⟩,λb hb=>?_⟩
  ·subst e
   rcases m2 a hb with h|h
   ·exact n3 a ha a h rfl
   ·exact hs a h (Bj _ ha)
  ·rcases Az.1 hb with hb|hb
   ·exact .inl (Bj _ hb)
   ·exact (m2 b hb).imp (Cn _) id
theorem wM (hT:Eh P T) {st:St} {a:Act} (h:Bm X π st a w) {t:TypeId} {e:Ty} (ht:T.ty t=some e) {l j:Nat} {r:Real} {vx:Value} {tid:TypeId} {fr Wm:Bool} {xs:List e.den} {x:e.den}
  (hp:π l=some r) (hl:Ay st.heap l=some (.arr fr true e tid xs)) (hj:j<xs.length) (hx:Dc w (Df X.w0.heap.size X.Sc π Wm) e vx x) {F:List Nat} {us:List Value} (hF:Dj w F e us x) (hus:vx=Ci e us) (nR:iq X w π F):
  ∃w',(Instr.storeAt t (.pointer (some ⟨r.g,(r.o+j)*e.size,none⟩)) vx).run P w= .ok () w'/\Bm X (Xh π l (some (r.plus F))) (st.Kl l (.arr (fr&&Wm) true e tid (xs.set j x))) a w':=by
 have hb:=(h.1.heap l).Ru hl
 simp only [Co,Kn,hp] at hb
 obtain ⟨h1,cur,ti,h2,h3,h4,h5,h6,h7⟩:=hb
 obtain ⟨Fs,t1,t2,t3,t4⟩:=h7 trivial
 obtain ⟨es,eu,hv⟩:=hx
 have ll:=Cells.len e es x eu
 have Aux:us=es:=by
  have c1:=Lp e us x (Dj.cells (S:= λ_=>False) F e us x hF λ_ _ h=>h)
  have c2:=Lp e es x eu
  rw [<-hus,hv,c2] at c1
  simpa using c1.symm
 subst Aux
 have Yj:(r.o+j)*e.size+us.length<=cur.size:=by
  have:(r.o+j+1)*e.size<=(r.o+r.cap)*e.size:=Fl _ (by omega)
  rw [Dq (r.o+j) 1,We] at this
  omega
 have Zy:(r.o+j)*e.size+us.length<=cur.toList.length:=by simpa using Yj
 have Vz:=Wz (P:=P) (w:=w) (hT.ty _ _ ht) r.g ((r.o+j)*e.size) vx us (by rw [hv];exact Lp e us x eu) ll (Cells.plain e us x eu) cur ti h2 Yj
 have Rn:r.cl r.g:=h.1.sub l r _ hp h1.1
 have hng: ∀b∈F,b≠r.g:= λb hb e=>(nR.2 b hb).2.2 l r hp (e▸Rn)
 have RC:=lA Fs j F (Cm.1 t2).2 nR.1 λb hb hm=>(nR.2 b hb).2.2 l r hp (t3 b hm)
 refine ⟨_,by simp only [Instr.storeAt,Instr.sureAddr];simpa using Vz,?_⟩
 refine h.Avj hl (b:= .arr (fr&&Wm) true e tid (xs.set j x)) ⟨rfl,by simp⟩ hp (λc hc=>⟨(nR.2 c hc).1,(nR.2 c hc).2.1,λm r0 _=>(nR.2 c hc).2.2 m r0⟩) (Nz w r.g _) λm=>?_
 simp only [Co,Kn]
 have cell: ∀(i:Nat) (nA:List Value),i≠j->nA.length=e.size->(∀k u,nA[k]?=some u->cur[(r.o+i)*e.size+k]?=some u)-> ∀k u,nA[k]?=some u->(Dw cur.toList ((r.o+j)*e.size) us).toArray[(r.o+i)*e.size+k]?=some u:=by
  intro i nA eX FF mU k u hu
  have hk:k<nA.length:=(Ap.1 hu).1
  have:=mU k u hu
  rw [Io,Im _ _ _ _ Zy]
  rcases iA (o:=r.o) (i:=i) (j:=j) (s:=e.size) (p:=k) eX (by omega) with Lg|vT
  ·rw [Ab Lg];simpa using this
  ·rw [Ai (by omega),Ai (by omega)];simpa using this
 have Agf: ∀k u,us[k]?=some u->(Dw cur.toList ((r.o+j)*e.size) us).toArray[(r.o+j)*e.size+k]?=some u:=by
  intro k u hu
  have hk:k<us.length:=(Ap.1 hu).1
  rw [Io,Im _ _ _ _ Zy,Ai (by omega),Ab (by omega)]
  rw [show (r.o+j)*e.size+k-(r.o+j)*e.size=k by omega];exact hu
 refine ⟨⟨h1.1,h1.2.1,λhf=>h1.2.2 (by simp only [Aj] at hf;exact hf.1)⟩,_,_,setRow_heap w r.g cur _ ti _ h2,by rw [Hb,Jg _ _ _ Zy,Xw];exact h3,h4,by rw [Bv];exact h5,λi y hy=>?_,λ_=>?_⟩
 ·rw [Ei] at hy
  split at hy
  ·rename_i mT;subst mT
   simp only [Aa] at hy;subst hy
   exact ⟨us,ll,Agf,(m.cells Wm e us x eu).and_right⟩
  ·rename_i mT
   obtain ⟨nA,FF,mU,xo⟩:=h6 i y hy
   exact ⟨nA,FF,cell i nA (Gv mT) FF mU,(m.cells fr e nA y xo).and_left⟩
 ·refine ⟨Fs.set j F,by simp [t1],Cm.2 ⟨λhm=>?_,RC.1⟩,λb hb=>?_,λi y G hy hG=>?_⟩
  ·rcases RC.2 _ hm with h8|h8
   ·exact (Cm.1 t2).1 h8
   ·exact hng _ h8 rfl
  ·exact (RC.2 b hb).imp (t3 b) id
  ·rw [Ei] at hy hG
   split at hy
   ·rename_i mT;subst mT
    rw [Ab rfl] at hG
    rw [Ab (by omega)] at hG
    simp only [Aa] at hy hG;subst hy;subst hG
    exact ⟨us,ll,Agf,hF.Fz _ _ _ _ (by simp) λb hb=>setRow_other w r.g b _ (hng b hb)⟩
   ·rename_i mT
    rw [Ai mT] at hG
    obtain ⟨nA,FF,mU,xo⟩:=t4 i y G hy hG
    exact ⟨nA,FF,cell i nA (Gv mT) FF mU,xo.Fz _ _ _ _ (by simp) λb hb=>setRow_other w r.g b _ λe=>(Cm.1 t2).1 (Ht.2 ⟨G,Cq hG,e▸hb⟩)⟩
theorem TG {st:St} {a:Act} (h:Bm X π st a w) {τ:Ty} {l:Nat} {x:AV} {vx:Value} (hx:Bt X w π st.heap x vx):Bt X w π st.heap (YT T st τ l x) vx:=by
 unfold YT
 split
 ·rename_i hc
  split
  ·rename_i p hp
   have:=Ng τ x vx p.1 p.2 (Dp.1 hc).2 hx hp
   exact Dc.Jh this λb _ hA=>hA.imp id (Or.imp id λ⟨h1,_⟩=>by cases h1)
  ·exact hx
 ·exact hx
theorem rC (hT:Eh P T) {st:St} {a:Act} (h:Bm X π st a w) (t:TypeId) (p x:AV) (vp vx:Value) (hp:Bt X w π st.heap p vp) (hx:Bt X w π st.heap x vx) (st':St)
  (he:Vl T st t p x=some st'): ∃w' π',(Instr.storeAt t vp vx).run P w= .ok () w'/\Bm X π' st' a w':=by
 unfold Vl at he
 split at he
 ·rename_i τ l i ht
  split at he
  ·rename_i tid vs cs hl hc
   split at he
   ·rename_i hle
    simp only [Aa] at he
    obtain ⟨w',h1,h2⟩:=BR hT h ht hp (TG h hx) hl hc hle
    split at he
    ·rename_i Kh
     simp only [Aj,Nr] at Kh
     subst he
     obtain ⟨XE,h3⟩:=fP (T:=T) l i t τ cs.length 0 _ π (by omega) h2
     exact ⟨w',XE,h1,h3⟩
    ·subst he
     exact ⟨w',π,h1,h2⟩
   ·cases he
  ·cases he
 ·rename_i τ l j ht
  split at he
  ·rename_i x' st1 hs
   obtain ⟨cv,h1,h2,h3,h4,h5⟩:=ck h hx hs
   split at he
   ·rename_i fr tr e tid xs Wm y hl hv
    split at he
    ·rename_i lr;subst lr
     split at he
     ·rename_i hj
      simp only [Aa] at he;subst he
      obtain ⟨r,b,sz,n,g1,g0,g2,g3,rfl⟩:=hp
      obtain ⟨k1,b',f,k2,k3⟩:=h4 l _ hl
      rw [g1] at k2;cases k2
      have g4:=Dm OB.row k3
      rw [show (OB.map f b).row=b.row by cases b<;>rfl,g0] at g4
      simp only [OB.row,Aa,Ag] at g4
      obtain ⟨rfl,rfl⟩:=g4
      cases nT:(tr&&(Ts st x&&τ.tree)) with
      |false=>
       obtain ⟨w',q1,q2⟩:=BP hT h1 ht (k1.trans g3) hl hj (Ng _ x' vx Wm y h3 h2 hv)
       exact ⟨w',cv,q1,q2⟩
      |true=>
       simp only [Aj] at nT
       obtain ⟨rfl,htv,lr⟩:=nT
       obtain ⟨F,us,f1,f2,f3,_⟩:=h5 htv τ Wm y lr hv
       obtain ⟨w',q1,q2⟩:=wM hT h1 ht (k1.trans g3) hl hj (Ng _ x' vx Wm y h3 h2 hv) f1 f2 f3
       exact ⟨w',_,q1,q2⟩
     ·cases he
    ·cases he
   ·cases he
  ·cases he
 ·cases he
theorem uG {S:Nat->Prop} {e:Ty} {v:Value} {ys:List e.den} (h:Cells w S (.slice e) [v] ys):
  ∃ad c,v= .slice ad ys.length c/\(ys= []\/ ∃g o,ad=some ⟨g,o,none⟩/\ ∃news:List Value,news.length=ys.length*e.size/\(∀j u,news[j]?=some u->w.cell? ⟨g,o+j,none⟩=some u)/\(∀u∈news,u.oneCell'=true)/\(∀j u,j<ys.length*e.size->w.cell? ⟨g,o+j,none⟩=some u->news[j]?=some u)/\
   ∀(i:Nat) (y:e.den),ys[i]?=some y-> ∃es:List Value,es.length=e.size/\(∀j u,es[j]?=some u->news[i*e.size+j]?=some u)/\Cells w S e es y):=by
 simp only [Cells] at h
 obtain ⟨ad,len,cap,hv,hl,tq,LV⟩:=h
 simp only [Ha,bm] at hv
 subst hl
 refine ⟨ad,cap,hv,?_⟩
 rcases LV with h0|⟨g,o,rfl,hg,hn,Ly⟩
 ·exact .inl h0
 ·right
  refine ⟨g,o,rfl,(List.range (ys.length*e.size)).map λj=>(w.cell? ⟨g,o+j,none⟩).getD undef,by simp,?_⟩
  have key: ∀k,k<ys.length*e.size-> ∃u,w.cell? ⟨g,o+k,none⟩=some u/\u.oneCell'=true:=by
   intro k hk
   have hs:0<e.size:=by
    rcases Tw e.size with h|h
    ·rw [h] at hk;simp at hk
    ·exact h
   have hi:k/e.size<ys.length:=(Nat.div_lt_iff_lt_mul hs).2 hk
   obtain ⟨es,eu,hc,bT⟩:=Ly (k/e.size) _ (Ad hi)
   have hm:k%e.size<es.length:=by rw [eu];exact Nat.mod_lt _ hs
   have:=hc (k%e.size) _ (Ad hm)
   rw [Gx,show k/e.size*e.size+k%e.size=k by rw [Nat.mul_comm];exact Nat.div_add_mod k e.size] at this
   exact ⟨_,this,Cells.plain e es _ bT _ (Am hm)⟩
  refine ⟨λj u hu=>?_,λu hu=>?_,λj u hj hu=>by rw [Fv,Rq hj];simp [hu],λi y hy=>?_⟩
  ·rw [Fv] at hu
   have hj:j<ys.length*e.size:=by
    by_cases hj:j<ys.length*e.size
    ·exact hj
    ·rw [Ds (by simpa using hj)] at hu;cases hu
   rw [Rq hj] at hu
   obtain ⟨u',ic,_⟩:=key j hj
   simp only [An,ic,Dh,Aa] at hu
   rw [ic,hu]
  ·obtain ⟨j,hj,rfl⟩:=Be.1 hu
   obtain ⟨u',ic,h1⟩:=key j (Fb.1 hj)
   rw [ic];exact h1
  ·obtain ⟨es,eu,hc,bT⟩:=Ly i y hy
   refine ⟨es,eu,λj u hu=>?_,bT⟩
   have hi:=(Ap.1 hy).1
   have hj:=(Ap.1 hu).1
   have Lg:i*e.size+j<ys.length*e.size:=by
    have:(i+1)*e.size<=ys.length*e.size:=Fl _ (by omega)
    rw [Dq,We] at this
    omega
   rw [Fv,Rq Lg]
   have:=hc j u hu
   rw [Gx] at this
   simp [this]
end
end Go.Proofs.Ytkkdpknjohcekaa
