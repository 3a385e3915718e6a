/-
  Part 11 of the proof that the statement FnExactIterationNodes holds.
-/
import Derived.Test.YtfolipnappekaaaGreatCIterationNodes09
namespace Go.Proofs.YtfolipnappekaaaGreat
open Go.RowKit
section
variable {P:Program} {T:Tab} {X:Ctx} {w w':World} {π:Pi} {H:List (Nat×OB)}
theorem OB.map_map (f g:AC->AC) (b:OB):OB.map g (OB.map f b)=OB.map (λc=>g (f c)) b:=by
 cases b with
 |var t vs=>simp [OB.map,Function.comp_def]
 |_=>rfl
theorem OB.HR (b:OB):OB.map (λc=>c) b=b:=by
 cases b with
 |var t vs=>simp [OB.map]
 |_=>rfl
def Ko (π π':Pi) (H H':List (Nat×OB)):Prop:= ∀l b',Au H' l=some b'->π' l=π l/\ ∃b f,Au H l=some b/\b'=OB.map f b
theorem Ko.refl (π:Pi) (H:List (Nat×OB)):Ko π π H H:= λ_ b h=>⟨rfl,b,λc=>c,h,(OB.HR b).symm⟩
theorem Ko.trans {cz YM π3:Pi} {H1 H2 H3:List (Nat×OB)} (h:Ko cz YM H1 H2) (h':Ko YM π3 H2 H3):Ko cz π3 H1 H3:= λl b hb=>by
 obtain ⟨e1,b1,f1,h1,rfl⟩:=h' l b hb
 obtain ⟨e2,b2,f2,h2,rfl⟩:=h l b1 h1
 exact ⟨e1.trans e2,b2,_,h2,OB.map_map f2 f1 b2⟩
theorem Ko.freeze (st:St) (l:Nat) (fr:Bool) (e:Ty) (xs:List e.den):Ko π (Xa π l none) st.heap (st.freeze l fr e xs).heap:= λk b hb=>by
 by_cases hk:k=l
 ·subst hk;rw [St.Ma] at hb;cases hb
 ·rw [St.Rp st l k fr e xs hk] at hb
  cases h0:Au st.heap k with
  |none=>rw [h0] at hb;cases hb
  |some b0=>
   rw [h0] at hb
   simp only [Am,Aa] at hb
   exact ⟨Gg π none hk,b0,_,rfl,hb.symm⟩
theorem Ko.Ir (st:St) (l:Nat) (v:Ty) (m:ByteArray->Option v.den):Ko π (Xa π l none) st.heap (st.Ir l v m).heap:= λk b hb=>by
 by_cases hk:k=l
 ·subst hk;rw [St.Td] at hb;cases hb
 ·rw [St.Qz st l k v m hk] at hb
  cases h0:Au st.heap k with
  |none=>rw [h0] at hb;cases hb
  |some b0=>
   rw [h0] at hb
   simp only [Am,Aa] at hb
   exact ⟨Gg π none hk,b0,_,rfl,hb.symm⟩
theorem Ko.gone {π':Pi} {H':List (Nat×OB)} (k:Ko π π' H H') {l:Nat} (h:Au H l=none):Au H' l=none:=by
 cases hb:Au H' l with
 |none=>rfl
 |some b=>
  obtain ⟨_,b0,f,h1,_⟩:=k l b hb
  rw [h] at h1;cases h1
def Dt (st:St):AC->AC
 | .own l off len=>match st.at l with
  |some (.arr fr _ e _ xs)=> .data fr (.slice e) ((xs.drop off).take len)
  |some (.Gu e _ xs)=> .data false (.slice e) ((xs.drop off).take len)
  |_=> .own l off len
 | .Kh l=>match st.at l with
  |some (.Vv v m)=> .data false (.smap v) m
  |_=> .Kh l
 |c=>c
theorem Tj {st:St} {c:AC} (h:c.settled=true):Dt st c=c:=by
 cases c<;>simp [AC.settled] at h<;>rfl
theorem xw {st st':St} {f:AC->AC} {l:Nat} (hH: ∀m,m≠l->Au st'.heap m=(Au st.heap m).map (OB.map f)) {c:AC} (hc: ∀k∈c.refs,k≠l):Dt st' c=Dt st c:=by
 cases c with
 |own k off len=>
  have hk:k≠l:=hc k (by simp [AC.refs])
  simp only [Dt,St.at,hH k hk]
  cases Au st.heap k with
  |none=>rfl
  |some b=>cases b<;>rfl
 |Kh k=>
  have hk:k≠l:=hc k (by simp [AC.refs])
  simp only [Dt,St.at,hH k hk]
  cases Au st.heap k with
  |none=>rfl
  |some b=>cases b<;>rfl
 |_=>rfl
theorem gK {a:Act} : ∀(n:Nat) (st:St) (π:Pi) (cs:List AC) (us:List Value) (iD:List AC) (st':St),Bl X π st a w->Fv X w π st.heap cs us->
  Ho n st cs=some (iD,st')-> ∃π',Bl X π' st' a w/\Fv X w π' st'.heap iD us/\iD.all (·.settled)=true/\Ko π π' st.heap st'.heap/\iD=cs.map (Dt st)/\
   (∀k,k∈cs.flatMap AC.refs->Au st'.heap k=none)
 |0,st,π,cs,us,iD,st',h,hr,he=>by
  simp only [Ho] at he
  split at he
  ·rename_i hs
   simp only [Aa,Ad] at he
   obtain ⟨rfl,rfl⟩:=he
   have GN:=Bd.1 hs
   exact ⟨π,h,hr,hs,Ko.refl _ _,((El λc hc=>Tj (GN c hc)).trans (List.map_id'' (λ_=>rfl) cs)).symm,λk hk=>by
    obtain ⟨c,hc,EE⟩:=Hl.1 hk
    have:=GN c hc
    cases c<;>simp [AC.settled] at this<;>simp [AC.refs] at EE⟩
  ·cases he
 |n+1,st,π,cs,us,iD,st',h,hr,he=>by
  simp only [Ho] at he
  have step: ∀(f:AC->AC) (l:Nat) (st1:St),Bl X (Xa π l none) st1 a w->Move X w w π (Xa π l none) st.heap st1.heap f->Au st1.heap l=none->(∀m,m≠l->Au st1.heap m=(Au st.heap m).map (OB.map f))->
    Ko π (Xa π l none) st.heap st1.heap->(∀c∈cs,(∀k∈c.refs,k≠l)->f c=c)->(∀c∈cs,l∈c.refs->(f c).refs= []/\(Dt st1 (f c)).settled=true->f c=Dt st c)->
    (∀c∈cs,l∈c.refs->(f c).refs= [])->Ho n st1 (cs.map f)=some (iD,st')->
    ∃π',Bl X π' st' a w/\Fv X w π' st'.heap iD us/\iD.all (·.settled)=true/\Ko π π' st.heap st'.heap/\iD=cs.map (Dt st)/\(∀k,k∈cs.flatMap AC.refs->Au st'.heap k=none):=by
   intro f l st1 h1 m hl hH hK hf0 hf1 hf2 he
   obtain ⟨π',h2,h3,h4,h5,h6,h7⟩:=gK n st1 _ (cs.map f) us iD st' h1 (m.acs hr) he
   refine ⟨π',h2,h3,h4,hK.trans h5,?_,λk hk=>?_⟩
   ·rw [h6,List.map_map]
    refine El λc hc=>?_
    simp only [Function.comp]
    by_cases Qw:l∈c.refs
    ·have Kf:=Bd.1 h4
     have nL:Dt st1 (f c)∈iD:=by rw [h6];exact Bj.2 ⟨f c,Bj.2 ⟨c,hc,rfl⟩,rfl⟩
     have hs:=Kf _ nL
     have h8:=hf1 c hc Qw ⟨hf2 c hc Qw,hs⟩
     have h9:Dt st1 (f c)=f c:=by
      have:=hf2 c hc Qw
      cases hfc:f c<;>rw [hfc] at this<;>first|(simp [AC.refs] at this;done)|rfl
     rw [h9,h8]
    ·have Ik: ∀k∈c.refs,k≠l:= λk hk e=>Qw (e▸hk)
     rw [hf0 c hc Ik]
     exact xw hH Ik
   ·obtain ⟨c,hc,EE⟩:=Hl.1 hk
    by_cases Se:k=l
    ·subst Se;exact h5.gone hl
    ·by_cases Qw:l∈c.refs
     ·
      have Kf:=Bd.1 h4
      have nL:Dt st1 (f c)∈iD:=by rw [h6];exact Bj.2 ⟨f c,Bj.2 ⟨c,hc,rfl⟩,rfl⟩
      have hs:=Kf _ nL
      have h8:=hf1 c hc Qw ⟨hf2 c hc Qw,hs⟩
      have h9:Dt st1 (f c)=f c:=by
       have:=hf2 c hc Qw
       cases hfc:f c<;>rw [hfc] at this<;>first|(simp [AC.refs] at this;done)|rfl
      rw [h9,h8] at hs
      cases c with
      |clo g Ee=>simp [Dt,AC.settled] at hs
      |own k' _ _=>simp [AC.refs] at Qw EE;exact absurd (EE.trans Qw.symm) Se
      |Kh k'=>simp [AC.refs] at Qw EE;exact absurd (EE.trans Qw.symm) Se
      |Hj k' _=>simp [AC.refs] at Qw EE;exact absurd (EE.trans Qw.symm) Se
      |Jz k' _=>simp [AC.refs] at Qw EE;exact absurd (EE.trans Qw.symm) Se
      |sub k' _ _=>simp [AC.refs] at Qw EE;exact absurd (EE.trans Qw.symm) Se
      |Jv k' _ _=>simp [AC.refs] at Qw EE;exact absurd (EE.trans Qw.symm) Se
      |_=>simp [AC.refs] at EE
     ·have Ik: ∀k∈c.refs,k≠l:= λk hk e=>Qw (e▸hk)
      exact h7 k (Hl.2 ⟨f c,Bj.2 ⟨c,hc,rfl⟩,by rw [hf0 c hc Ik];exact EE⟩)
  have EF: ∀(st1:St) (c:AC),(Dt st1 c).settled=true->c≠ .undef:= λst1 c hs e=>by rw [e] at hs;simp [Dt,AC.settled] at hs
  split at he
  ·rename_i hf
   simp only [Aa,Ad] at he
   obtain ⟨rfl,rfl⟩:=he
   have GN: ∀c∈cs,c.settled=true:= λc hc=>by have:=List.find?_eq_none.1 hf c hc;simpa using this
   exact ⟨π,h,hr,Bd.2 GN,Ko.refl _ _,((El λc hc=>Tj (GN c hc)).trans (List.map_id'' (λ_=>rfl) cs)).symm,λk hk=>by
    obtain ⟨c,hc,EE⟩:=Hl.1 hk
    have:=GN c hc
    cases c<;>simp [AC.settled] at this<;>simp [AC.refs] at EE⟩
  ·rename_i l off len hf
   split at he
   ·rename_i fr tr e tid xs hl
    unfold St.at at hl
    obtain ⟨h1,m⟩:=h.freeze (fr:=fr) (.inl ⟨tr,tid,hl⟩)
    refine step _ l _ h1 m (St.Ma st l fr e xs) (λm hm=>St.Rp st l m fr e xs hm) (Ko.freeze st l fr e xs) (λc _ hc=>iS hc) (λc _ Qw hs=>?_) (λc _ Qw=>?_) he
    ·cases c with
     |own k o n=>have:k=l:=(Ae.1 Qw).symm
                 subst this;simp only [Da,Ab,Dt,St.at,hl]
     |Hj k o=>have:k=l:=(Ae.1 Qw).symm
              subst this;simp only [Da,Ab] at hs;exact absurd rfl (EF _ _ hs.2)
     |Jz k o=>have:k=l:=(Ae.1 Qw).symm
              subst this;simp only [Da,Ab] at hs;exact absurd rfl (EF _ _ hs.2)
     |sub k o o2=>have:k=l:=(Ae.1 Qw).symm
                  subst this;simp only [Da,Ab] at hs;exact absurd rfl (EF _ _ hs.2)
     |Jv k o o2=>have:k=l:=(Ae.1 Qw).symm
                 subst this;simp only [Da,Ab] at hs;exact absurd rfl (EF _ _ hs.2)
     |Kh k=>have:k=l:=(Ae.1 Qw).symm
            subst this;simp only [Da,Ab] at hs;exact absurd rfl (EF _ _ hs.2)
     |clo g Ee=>
      simp only [Da] at hs
      rw [Ab (by simpa [AC.refs] using Qw)] at hs
      exact absurd rfl (EF _ _ hs.2)
     |_=>simp [AC.refs] at Qw
    ·cases c with
     |own k o n=>have:k=l:=(Ae.1 Qw).symm
                 subst this;simp only [Da,Ab];rfl
     |Hj k o=>have:k=l:=(Ae.1 Qw).symm
              subst this;simp only [Da,Ab];rfl
     |Jz k o=>have:k=l:=(Ae.1 Qw).symm
              subst this;simp only [Da,Ab];rfl
     |sub k o o2=>have:k=l:=(Ae.1 Qw).symm
                  subst this;simp only [Da,Ab];rfl
     |Jv k o o2=>have:k=l:=(Ae.1 Qw).symm
                 subst this;simp only [Da,Ab];rfl
     |Kh k=>have:k=l:=(Ae.1 Qw).symm
            subst this;simp only [Da,Ab];rfl
     |clo g Ee=>simp only [Da];rw [Ab (by simpa [AC.refs] using Qw)];rfl
     |_=>simp [AC.refs] at Qw
   ·rename_i e tid xs hl
    unfold St.at at hl
    obtain ⟨h1,m⟩:=h.freeze (fr:=false) (.inr ⟨rfl,tid,hl⟩)
    refine step _ l _ h1 m (St.Ma st l false e xs) (λm hm=>St.Rp st l m false e xs hm) (Ko.freeze st l false e xs) (λc _ hc=>iS hc) (λc _ Qw hs=>?_) (λc _ Qw=>?_) he
    ·cases c with
     |own k o n=>have:k=l:=(Ae.1 Qw).symm
                 subst this;simp only [Da,Ab,Dt,St.at,hl]
     |Hj k o=>have:k=l:=(Ae.1 Qw).symm
              subst this;simp only [Da,Ab] at hs;exact absurd rfl (EF _ _ hs.2)
     |Jz k o=>have:k=l:=(Ae.1 Qw).symm
              subst this;simp only [Da,Ab] at hs;exact absurd rfl (EF _ _ hs.2)
     |sub k o o2=>have:k=l:=(Ae.1 Qw).symm
                  subst this;simp only [Da,Ab] at hs;exact absurd rfl (EF _ _ hs.2)
     |Jv k o o2=>have:k=l:=(Ae.1 Qw).symm
                 subst this;simp only [Da,Ab] at hs;exact absurd rfl (EF _ _ hs.2)
     |Kh k=>have:k=l:=(Ae.1 Qw).symm
            subst this;simp only [Da,Ab] at hs;exact absurd rfl (EF _ _ hs.2)
     |clo g Ee=>
      simp only [Da] at hs
      rw [Ab (by simpa [AC.refs] using Qw)] at hs
      exact absurd rfl (EF _ _ hs.2)
     |_=>simp [AC.refs] at Qw
    ·cases c with
     |own k o n=>have:k=l:=(Ae.1 Qw).symm
                 subst this;simp only [Da,Ab];rfl
     |Hj k o=>have:k=l:=(Ae.1 Qw).symm
              subst this;simp only [Da,Ab];rfl
     |Jz k o=>have:k=l:=(Ae.1 Qw).symm
              subst this;simp only [Da,Ab];rfl
     |sub k o o2=>have:k=l:=(Ae.1 Qw).symm
                  subst this;simp only [Da,Ab];rfl
     |Jv k o o2=>have:k=l:=(Ae.1 Qw).symm
                 subst this;simp only [Da,Ab];rfl
     |Kh k=>have:k=l:=(Ae.1 Qw).symm
            subst this;simp only [Da,Ab];rfl
     |clo g Ee=>simp only [Da];rw [Ab (by simpa [AC.refs] using Qw)];rfl
     |_=>simp [AC.refs] at Qw
   ·cases he
  ·rename_i l hf
   split at he
   ·rename_i v mm hl
    unfold St.at at hl
    obtain ⟨h1,m⟩:=h.Ir hl
    refine step _ l _ h1 m (St.Td st l v mm) (λm hm=>St.Qz st l m v mm hm) (Ko.Ir st l v mm) (λc _ hc=>ua hc) (λc _ Qw hs=>?_) (λc _ Qw=>?_) he
    ·cases c with
     |Kh k=>have:k=l:=(Ae.1 Qw).symm
            subst this;simp only [Hb,Ab,Dt,St.at,hl]
     |Hj k o=>have:k=l:=(Ae.1 Qw).symm
              subst this;simp only [Hb,Ab] at hs;exact absurd rfl (EF _ _ hs.2)
     |Jz k o=>have:k=l:=(Ae.1 Qw).symm
              subst this;simp only [Hb,Ab] at hs;exact absurd rfl (EF _ _ hs.2)
     |sub k o o2=>have:k=l:=(Ae.1 Qw).symm
                  subst this;simp only [Hb,Ab] at hs;exact absurd rfl (EF _ _ hs.2)
     |Jv k o o2=>have:k=l:=(Ae.1 Qw).symm
                 subst this;simp only [Hb,Ab] at hs;exact absurd rfl (EF _ _ hs.2)
     |own k o n=>have:k=l:=(Ae.1 Qw).symm
                 subst this;simp only [Hb,Ab] at hs;exact absurd rfl (EF _ _ hs.2)
     |clo g Ee=>
      simp only [Hb] at hs
      rw [Ab (by simpa [AC.refs] using Qw)] at hs
      exact absurd rfl (EF _ _ hs.2)
     |_=>simp [AC.refs] at Qw
    ·cases c with
     |own k o n=>have:k=l:=(Ae.1 Qw).symm
                 subst this;simp only [Hb,Ab];rfl
     |Hj k o=>have:k=l:=(Ae.1 Qw).symm
              subst this;simp only [Hb,Ab];rfl
     |Jz k o=>have:k=l:=(Ae.1 Qw).symm
              subst this;simp only [Hb,Ab];rfl
     |sub k o o2=>have:k=l:=(Ae.1 Qw).symm
                  subst this;simp only [Hb,Ab];rfl
     |Jv k o o2=>have:k=l:=(Ae.1 Qw).symm
                 subst this;simp only [Hb,Ab];rfl
     |Kh k=>have:k=l:=(Ae.1 Qw).symm
            subst this;simp only [Hb,Ab];rfl
     |clo g Ee=>simp only [Hb];rw [Ab (by simpa [AC.refs] using Qw)];rfl
     |_=>simp [AC.refs] at Qw
   ·cases he
  ·cases he
def ic (X:Ctx) (w:World) (π:Pi) (F:List Nat):Prop:=F.Nodup/\ ∀b∈F,(X.w0.heap.size<=b\/X.gv b)/\b<w.heap.size/\ ∀l r,π l=some r-> ¬r.cl b
theorem Yc {S:Nat->Prop} : ∀(e:Ty) (es:List Value) (x:e.den),e.flat=true->Cells w S e es x->Ch w [] e es x
 | .int k,cs,n,_,h=>⟨rfl,h⟩
 | .bool,cs,n,_,h=>⟨rfl,h⟩
 | .str,cs,n,_,h=>⟨rfl,h⟩
 | .unit,cs,n,_,h=>⟨rfl,h⟩
 | .pair a r,cs,x,hf,h=>by
  simp only [Ty.flat,Af] at hf
  simp only [Cells] at h
  simp only [Ch]
  obtain ⟨c1,c2,h1,h2,h3⟩:=h
  exact ⟨c1,c2,[],[],h1,rfl,Yc a c1 x.1 hf.1 h2,Yc r c2 x.2 hf.2 h3⟩
 | .slice _,_,_,hf,_=>by simp [Ty.flat] at hf
 | .oslice _,_,_,hf,_=>by simp [Ty.flat] at hf
 | .ptr _,_,_,hf,_=>by simp [Ty.flat] at hf
 | .optr _,_,_,hf,_=>by simp [Ty.flat] at hf
 | .smap _,_,_,hf,_=>by simp [Ty.flat] at hf
 | .clo _ _,_,_,hf,_=>by simp [Ty.flat] at hf
theorem Sm {Fs:List (List Nat)} (off len:Nat) (b:Nat) (h:b∈List.flatten ((Fs.drop off).take len)):b∈List.flatten Fs:=by
 obtain ⟨F,hF,hb⟩:=Fg.1 h
 exact Fg.2 ⟨F,dK (Gp hF),hb⟩
theorem aF {α:Type} {a b:List (List α)} (h:a.Sublist b):(List.flatten a).Sublist (List.flatten b):=by
 induction h with
 |slnil=>exact List.Sublist.refl _
 |cons c _ ih=>simp only [Kw];exact ih.trans (List.sublist_append_right _ _)
 |cons_cons c _ ih=>simp only [Kw];exact List.Sublist.append (List.Sublist.refl _) ih
theorem mD {Fs:List (List Nat)} (off len:Nat) (h:(List.flatten Fs).Nodup):(List.flatten ((Fs.drop off).take len)).Nodup:=by
 have h1:((Fs.drop off).take len).Sublist Fs:=(List.take_sublist len _).trans (List.drop_sublist off Fs)
 exact h.sublist (aF h1)
theorem kL {P:Nat->Prop} {r:Real} {off len:Nat} {v:Value} {e:Ty} {tid:TypeId} {xs:List e.den} {cur:Array Value} (h2:w.heap[r.g]?=some (.cells cur tid (0,0))) (aO:cur.size=(r.o+r.cap)*e.size) (ug:r.cap<=maxLen)
  (hlen:off+len<=xs.length) (hv:Hw (some r) e.size off len v) (ht:Xr w P r.g r.o cur e xs) (hg:P r.g):
  ∃F,Ch w F (.slice e) [v] ((xs.drop off).take len)/\F.Nodup/\ ∀b∈F,P b:=by
 have hll:((xs.drop off).take len).length=len:=by simp;omega
 obtain ⟨ad,rfl,hc,ha⟩:=hv
 obtain ⟨Fs,t1,t2,t3,t4⟩:=ht
 ·refine ⟨r.g::List.flatten ((Fs.drop off).take len),⟨some ad,len,r.cap-off,rfl,hll.symm,by omega, .inr ⟨ad,r.g,(r.o+off)*e.size,_,rfl,λh0=>ha (by omega),⟨cur,tid,r.o+off,h2,rfl,by rw [aO];congr 1;omega,by omega⟩,rfl,by simp;omega,λi x F hx hF=>?_⟩⟩,?_,λb hb=>?_⟩
  ·have hi:i<len:=by
    have:=(An.1 hx).1
    rw [hll] at this;exact this
   have hx':xs[off+i]?=some x:=by rw [Cx,Ab hi,Cw] at hx;exact hx
   have hF':Fs[off+i]?=some F:=by rw [Cx,Ab hi,Cw] at hF;exact hF
   obtain ⟨es,he,hj,s9⟩:=t4 (off+i) x F hx' hF'
   refine ⟨es,he,λj u hu=>?_,s9⟩
   rw [cellOf h2]
   have:=hj j u hu
   rw [<-this]
   congr 1
   rw [<-Gq,Dd (r.o+off) i]
  ·have:=Cd.1 t2
   exact Cd.2 ⟨λhm=>this.1 (Sm off len _ hm),mD off len this.2⟩
  ·rcases Be.1 hb with rfl|hb
   ·exact hg
   ·exact t3 b (Sm off len b hb)
theorem oS {st:St} (h:Mx X w π st.heap) {c:AC} {v:Value} (hc:Hm X w π st.heap c v) (ht:Sd st c=true) (τ:Ty) (fr:Bool) (x:τ.den) (Tz:τ.Aq=false) (UT:τ.tree=true)
  (hv:Du st τ (Dt st c)=some (fr,x)): ∃F,Ch w F τ [v] x/\F.Nodup/\ ∀b∈F,∃l r,l∈c.refs/\π l=some r/\r.cl b:=by
 cases c with
 |data Wf Oh y=>
  simp only [Sd] at ht
  simp only [Dt,Nw] at hv
  split at hv
  ·rename_i he;subst he
   simp only [Aa,Ad] at hv
   obtain ⟨_,rfl⟩:=hv
   exact ⟨[],Yc Oh _ _ ht (Ct.Ry Tz hc),Nh,λb hb=>by cases hb⟩
  ·unfold iC at hv
   split at hv
   ·simp [Ty.flat] at ht
   ·simp [Ty.flat] at ht
   ·cases hv
 |Lr=>
  have hc:v= .slice none 0 0:=hc
  subst hc
  cases τ with
  |slice e=>
   simp only [Dt,Du,Aa,Ad] at hv
   obtain ⟨_,rfl⟩:=hv
   exact ⟨[],⟨none,0,0,rfl,rfl,Ao _, .inl ⟨rfl,rfl,rfl,rfl⟩⟩,Nh,λb hb=>by cases hb⟩
  |oslice e=>simp [Ty.tree] at UT
  |_=>simp [Dt,Du] at hv
 |own l off len=>
  simp only [Sd] at ht
  split at ht
  ·rename_i Wf tr e tid xs hl
   have Kn:=hl
   unfold St.at at hl
   simp only [Dt,Kn,Nw] at hv
   split at hv
   ·rename_i he;subst he
    simp only [Aa,Ad] at hv
    obtain ⟨_,rfl⟩:=hv
    obtain ⟨h2,h3⟩:=On hc hl
    have hb:=(h.heap l).Qm hl
    simp only [Cj,Jw] at hb
    cases hp:π l with
    |none=>
     rw [hp] at h3
     obtain ⟨rfl,rfl,rfl⟩:=h3
     exact ⟨[],⟨none,0,0,rfl,by simp,Ao _, .inl ⟨by simp,rfl,rfl,rfl⟩⟩,Nh,λb hb=>by cases hb⟩
    |some r=>
     rw [hp] at hb h3
     obtain ⟨k1,cur,_,k2,k3,k4,k5,k6,k7⟩:=hb
     have SV:Xr w r.cl r.g r.o cur e xs:=by
      simp only [Kb] at ht
      rcases ht with ht|ht
      ·exact k7 ht
      ·refine ⟨List.replicate xs.length [],by simp,by simp,by simp,λi x F hx hF=>?_⟩
       obtain ⟨es,e1,e2,e3⟩:=k6 i x hx
       have:F= []:=by
        have:=Bs hF
        exact Fl this
       subst this
       exact ⟨es,e1,e2,Yc e es x ht e3⟩
     obtain ⟨F,f1,f2,f3⟩:=kL k2 k3 k4 h2 h3 SV (h.sub l r _ hp k1.1)
     exact ⟨F,f1,f2,λb hb=>⟨l,r,by simp [AC.refs],hp,f3 b hb⟩⟩
   ·cases τ<;>simp [iC] at hv
  ·rename_i e tid xs hl
   have Kn:=hl
   unfold St.at at hl
   simp only [Dt,Kn,Nw] at hv
   split at hv
   ·rename_i he;subst he
    simp only [Aa,Ad] at hv
    obtain ⟨_,rfl⟩:=hv
    obtain ⟨h2,h3⟩:=ck hc hl
    have hb:=(h.heap l).Qm hl
    simp only [Cj,Ny] at hb
    cases hp:π l with
    |none=>
     rw [hp] at h3
     obtain ⟨rfl,rfl,rfl⟩:=h3
     exact ⟨[],⟨none,0,0,rfl,by simp,Ao _, .inl ⟨by simp,rfl,rfl,rfl⟩⟩,Nh,λb hb=>by cases hb⟩
    |some r=>
     rw [hp] at hb h3
     obtain ⟨k1,cur,_,k2,k3,k4,k5,k7⟩:=hb
     obtain ⟨F,f1,f2,f3⟩:=kL k2 k3 k4 h2 h3 k7 k1
     exact ⟨F,f1,f2,λb hb=>⟨l,r,by simp [AC.refs],hp,h.sub l r b hp (f3 b hb)⟩⟩
   ·cases τ<;>simp [iC] at hv
  ·cases ht
 |_=>simp [Sd] at ht
theorem Yi: ∀ {l:List Nat},aC l=true->l.Nodup
 | [],_=>Nh
 |a::r,h=>by
  simp only [aC,Af,Eg,List.contains_eq_mem,decide_eq_false_iff_not] at h
  exact Cd.2 ⟨h.1,Yi h.2⟩
theorem br {st st':St} {τ:Ty} {c:AC} (h:c.settled=true):Du st' τ c=Du st τ c:=by
 cases c<;>simp [AC.settled] at h<;>cases τ<;>rfl
theorem xN {st st':St} (h:Mx X w π st.heap): ∀(τ:Ty) (cs:List AC) (us:List Value) (fr:Bool) (x:τ.den),Fv X w π st.heap cs us->cs.all (Sd st)=true->(cs.flatMap AC.refs).Nodup->
  (cs.map (Dt st)).all (·.settled)=true->τ.tree=true->Ew st' τ (cs.map (Dt st))=some (fr,x)-> ∃F,Ch w F τ us x/\F.Nodup/\ ∀b∈F,∃l r,l∈cs.flatMap AC.refs/\π l=some r/\r.cl b:=by
 have one: ∀(τ:Ty) (cs:List AC) (us:List Value) (fr:Bool) (x:τ.den),τ.Aq=false->Fv X w π st.heap cs us->cs.all (Sd st)=true->
   (cs.map (Dt st)).all (·.settled)=true->τ.tree=true->Ew st' τ (cs.map (Dt st))=some (fr,x)-> ∃F,Ch w F τ us x/\F.Nodup/\ ∀b∈F,∃l r,l∈cs.flatMap AC.refs/\π l=some r/\r.cl b:=by
  intro τ cs us fr x Tz hr ht hs Vx hv
  rw [Uc Tz] at hv
  rcases cs with _|⟨c,_|⟨d,cs⟩⟩
  ·cases hv
  ·simp only [Cc,List.map_nil] at hv
   obtain ⟨u,hu,_,hc⟩:=hr.2 0 c rfl
   have hl:us.length=1:=hr.1
   obtain ⟨u',rfl⟩:=Df.1 hl
   simp at hu;subst hu
   rw [br (st:=st) (by simpa using hs)] at hv
   obtain ⟨F,f1,f2,f3⟩:=oS h hc (by simpa using ht) τ fr x Tz Vx hv
   exact ⟨F,f1,f2,λb hb=>by obtain ⟨l,r,g1,g2⟩:=f3 b hb;exact ⟨l,r,by simpa using g1,g2⟩⟩
  ·cases hv
 intro τ
 induction τ with
 |unit=>
  intro cs us fr x hr ht hd hs Vx hv
  cases cs with
  |nil=>have:us= []:=Ck hr.1;subst this;exact ⟨[],⟨rfl,rfl⟩,Nh,λb hb=>by cases hb⟩
  |cons c cs=>simp [Ew] at hv
 |pair a r hZ gW=>
  intro cs us fr x hr ht hd hs Vx hv
  simp only [Ty.tree,Af] at Vx
  simp only [Ew] at hv
  split at hv
  ·rename_i f1 y f2 z h1 h2
   simp only [Aa,Ad] at hv
   obtain ⟨rfl,rfl⟩:=hv
   have VB:Fv X w π st.heap (cs.take a.size) (us.take a.size):=by have:=ak hr 0 a.size;simpa using this
   have hr2:Fv X w π st.heap (cs.drop a.size) (us.drop a.size):=
    ⟨by simp [hr.1],λi c hc=>by
     rw [Cw] at hc⊢
     exact hr.2 _ c hc⟩
   have Aps: ∀ {p:AC->Bool} {l:List AC} (n:Nat),l.all p=true->(l.take n).all p=true:= λn hl=>Bd.2 λc hc=>Bd.1 hl c (Gp hc)
   have Apt: ∀ {p:AC->Bool} {l:List AC} (n:Nat),l.all p=true->(l.drop n).all p=true:= λn hl=>Bd.2 λc hc=>Bd.1 hl c (dK hc)
   have hdd:((cs.take a.size++cs.drop a.size).flatMap AC.refs).Nodup:=by rw [Ie];exact hd
   rw [List.flatMap_append] at hdd
   obtain ⟨d1,d2,d3⟩:=Cy.1 hdd
   rw [<-List.map_take] at h1
   rw [<-List.map_drop] at h2
   obtain ⟨F1,t1,n1,c1⟩:=hZ _ _ f1 y VB (Aps _ ht) d1 (by rw [List.map_take];exact Aps _ hs) Vx.1 h1
   obtain ⟨F2,t2,n2,c2⟩:=gW _ _ f2 z hr2 (Apt _ ht) d2 (by rw [List.map_drop];exact Apt _ hs) Vx.2 h2
   refine ⟨F1++F2,⟨us.take a.size,us.drop a.size,F1,F2,(Ie _ _).symm,rfl,t1,t2⟩,Cy.2 ⟨n1,n2,λb hb b' iV e=>?_⟩,λb hb=>?_⟩
   ·subst e
    obtain ⟨l1,r1,g1,g2,g3⟩:=c1 b hb
    obtain ⟨l2,r2,g4,g5,g6⟩:=c2 b iV
    exact d3 l1 g1 l2 g4 (h.inj l1 l2 r1 r2 b g2 g5 g3 g6)
   ·have Kf: ∀l,(l∈(cs.take a.size).flatMap AC.refs\/l∈(cs.drop a.size).flatMap AC.refs)->l∈cs.flatMap AC.refs:= λl hl=>by
     rw [<-Bb,<-List.flatMap_append,Ie] at hl;exact hl
    rcases Bb.1 hb with hb|hb
    ·obtain ⟨l1,r1,g1,g2⟩:=c1 b hb;exact ⟨l1,r1,Kf l1 (.inl g1),g2⟩
    ·obtain ⟨l1,r1,g1,g2⟩:=c2 b hb;exact ⟨l1,r1,Kf l1 (.inr g1),g2⟩
  ·cases hv
 |_=>exact λcs us fr x hr ht _ hs Vx hv=>one _ cs us fr x rfl hr ht hs Vx hv
theorem SB {π':Pi} {st st':St} {a:Act} (h:Bl X π st a w) (h':Bl X π' st' a w) (k:Ko π π' st.heap st'.heap) {ls:List Nat} (hg: ∀l∈ls,Au st'.heap l=none) {F:List Nat} (hF:F.Nodup)
  (hc: ∀b∈F,∃l r,l∈ls/\π l=some r/\r.cl b):ic X w π' F:=by
 refine ⟨hF,λb hb=>?_⟩
 obtain ⟨l,r,h1,h2,h3⟩:=hc b hb
 have hp:=h.1.place l r b h2 h3
 refine ⟨hp.1,hp.2,λl2 r2 h4 h5=>?_⟩
 cases hh:Au st'.heap l2 with
 |none=>rw [(h'.1.heap l2).emp hh] at h4;cases h4
 |some b'=>
  have h6:=(k l2 b' hh).1
  rw [h6] at h4
  have:=h.1.inj l l2 r r2 b h2 h4 h3 h5
  subst this
  rw [hg l h1] at hh;cases hh
theorem cn {st:St} {a:Act} (h:Bl X π st a w) {c:AV} {v:Value} (hc:Bp X w π st.heap c v) {c':AV} {st':St} (he:settle st c=some (c',st')):
  ∃π',Bl X π' st' a w/\Bp X w π' st'.heap c' v/\c'.settled=true/\Ko π π' st.heap st'.heap/\
   (Tn st c=true-> ∀(τ:Ty) (fr:Bool) (x:τ.den),τ.tree=true->Fq st' τ c'=some (fr,x)-> ∃F us,Ch w F τ us x/\v=Cf τ us/\ic X w π' F/\ ∀b∈F,∃l r,π l=some r/\r.cl b):=by
 have cell: ∀(a0:AC) (st':St) (π':Pi),Hm X w π st.heap a0 v->Bl X π' st' a w->(Dt st a0).settled=true->Ko π π' st.heap st'.heap->(∀l∈a0.refs,Au st'.heap l=none)->
   Sd st a0=true-> ∀(τ:Ty) (fr:Bool) (x:τ.den),τ.tree=true->Fq st' τ (.at (Dt st a0))=some (fr,x)-> ∃F us,Ch w F τ us x/\v=Cf τ us/\ic X w π' F/\ ∀b∈F,∃l r,π l=some r/\r.cl b:=by
  intro a0 st1 cz hr h1 hs hk hg ht τ fr x Vx hv
  by_cases Tz:τ.Aq=true
  ·
   cases GO:Dt st a0 with
   |data Wf Oh y=>
    rw [GO,dm] at hv
    split at hv
    ·rename_i het;subst het
     simp only [Aa,Ad] at hv
     obtain ⟨_,rfl⟩:=hv
     cases a0 with
     |data sM τ2 z=>
      simp only [Dt,AC.data.injEq] at GO
      obtain ⟨rfl,rfl,hz⟩:=GO
      have hz:=eq_of_heq hz
      subst hz
      obtain ⟨cs,s9,rfl⟩:=hr
      exact ⟨[],cs,Yc _ cs _ ht s9,rfl,⟨Nh,λb hb=>by cases hb⟩,λb hb=>by cases hb⟩
     |own l off len=>
      simp only [Dt] at GO
      split at GO
      ·simp only [AC.data.injEq] at GO;obtain ⟨_,h2,_⟩:=GO;subst h2;simp [Ty.Aq] at Tz
      ·simp only [AC.data.injEq] at GO;obtain ⟨_,h2,_⟩:=GO;subst h2;simp [Ty.Aq] at Tz
      ·cases GO
     |Kh l=>simp [Sd] at ht
     |_=>simp [Dt] at GO
    ·cases hv
   |_=>rw [GO] at hv;simp only [Fq,Tz,Pn] at hv;cases hv
  ·simp only [Ii] at Tz
   have wU:Du st τ (Dt st a0)=some (fr,x):=by
    rw [<-br (st:=st) (st':=st1) hs]
    cases GO:Dt st a0 with
    |data Wf Oh y=>
     rw [GO,dm] at hv
     rw [Nw]
     split at hv
     ·rename_i het;rw [Iy het];exact hv
     ·rename_i het
      rw [dif_neg het]
      simp only [Tz,Dh,Tt,DO,Nw] at hv
      rw [dif_neg het] at hv
      exact hv
    |Lr=>rw [GO] at hv;simp only [Fq,Tz,Dh,Tt] at hv;rw [Ql rfl] at hv;exact hv
    |Vu=>rw [GO] at hv;simp only [Fq,Tz,Dh,Tt] at hv;rw [Ql rfl] at hv;exact hv
    |_=>rw [GO] at hs;simp [AC.settled] at hs
   obtain ⟨F,f1,f2,f3⟩:=oS h.1 hr ht τ fr x Tz Vx wU
   exact ⟨F,[v],f1,by simp [Cf,Tz],SB h h1 hk hg f2 f3,λb hb=>let ⟨l,r,_,q⟩:=f3 b hb;⟨l,r,q⟩⟩
 unfold settle at he
 split at he
 ·rename_i l off len
  split at he
  ·rename_i fr tr e tid xs hl
   simp only [Aa,Ad] at he
   obtain ⟨rfl,rfl⟩:=he
   obtain ⟨h1,m⟩:=h.freeze (fr:=fr) (.inl ⟨tr,tid,hl⟩)
   have:=m.ac (.own l off len) v hc
   simp only [Da,Pn] at this
   have fi:Dt st (.own l off len)= .data fr (.slice e) ((xs.drop off).take len):=by simp only [Dt,hl]
   refine ⟨_,h1,this,rfl,Ko.freeze st l fr e xs,λht=>?_⟩
   have:=cell (.own l off len) _ _ hc h1 (by rw [fi];rfl) (Ko.freeze st l fr e xs) (λk hk=>by rw [Ae.1 hk];exact St.Ma st l fr e xs) ht
   rw [fi] at this
   exact this
  ·rename_i e tid xs hl
   simp only [Aa,Ad] at he
   obtain ⟨rfl,rfl⟩:=he
   obtain ⟨h1,m⟩:=h.freeze (fr:=false) (.inr ⟨rfl,tid,hl⟩)
   have:=m.ac (.own l off len) v hc
   simp only [Da,Pn] at this
   have fi:Dt st (.own l off len)= .data false (.slice e) ((xs.drop off).take len):=by simp only [Dt,hl]
   refine ⟨_,h1,this,rfl,Ko.freeze st l false e xs,λht=>?_⟩
   have:=cell (.own l off len) _ _ hc h1 (by rw [fi];rfl) (Ko.freeze st l false e xs) (λk hk=>by rw [Ae.1 hk];exact St.Ma st l false e xs) ht
   rw [fi] at this
   exact this
  ·cases he
 ·rename_i l
  split at he
  ·rename_i vt mm hl
   simp only [Aa,Ad] at he
   obtain ⟨rfl,rfl⟩:=he
   obtain ⟨h1,m⟩:=h.Ir hl
   have:=m.ac (.Kh l) v hc
   simp only [Hb,Pn] at this
   exact ⟨_,h1,this,rfl,Ko.Ir st l vt mm,λht=>by simp [Tn,Sd] at ht⟩
  ·cases he
 ·rename_i a0 _ _
  split at he
  ·rename_i hs
   simp only [Aa,Ad] at he
   obtain ⟨rfl,rfl⟩:=he
   refine ⟨π,h,hc,hs,Ko.refl _ _,λht=>?_⟩
   have fi:=Tj (st:=st) hs
   have:=cell a0 st π hc h (by rw [fi];exact hs) (Ko.refl _ _) (λk hk=>by
    cases a0<;>simp [AC.settled] at hs<;>simp [AC.refs] at hk) ht
   rw [fi] at this
   exact this
  ·cases he
 ·rename_i cs
  cases hsc:Ho cs.length st cs with
  |none=>rw [hsc] at he;cases he
  |some p=>
   rw [hsc] at he
   simp only [Am,Aa,Ad] at he
   obtain ⟨rfl,rfl⟩:=he
   obtain ⟨us,rfl,hr⟩:=hc
   obtain ⟨π',h2,h3,h4,h5,h6,h7⟩:=gK cs.length st π cs us p.1 p.2 h hr hsc
   refine ⟨π',h2,⟨us,rfl,h3⟩,h4,h5,λht τ fr x Vx hv=>?_⟩
   simp only [Tn,Af] at ht
   simp only [Fq] at hv
   split at hv
   ·rename_i Tz
    rw [h6] at hv h4
    obtain ⟨F,f1,f2,f3⟩:=xN h.1 τ cs us fr x hr ht.1 (Yi ht.2) h4 Vx hv
    exact ⟨F,us,f1,by simp [Cf,Tz],SB h h2 h5 h7 f2 f3,λb hb=>let ⟨l,r,_,q⟩:=f3 b hb;⟨l,r,q⟩⟩
   ·cases hv
 ·simp only [Aa,Ad] at he
  obtain ⟨rfl,rfl⟩:=he
  exact ⟨π,h,hc,rfl,Ko.refl _ _,λht=>by simp [Tn] at ht⟩
 ·cases he
theorem ir {o i j s p:Nat} (Ik:i≠j) (hp:p<s):(o+i)*s+p<(o+j)*s\/(o+j)*s+s<=(o+i)*s+p:=by
 rcases Nat.lt_or_gt_of_ne Ik with h|h
 ·left
  have:(o+i+1)*s<=(o+j)*s:=Eo _ (by omega)
  rw [Dd,Si] at this
  omega
 ·right
  have:(o+j+1)*s<=(o+i)*s:=Eo _ (by omega)
  rw [Dd,Si] at this
  omega
theorem Ib {α:Type} (l ys:List α) (i k:Nat) (h:i+ys.length<=l.length):(Dw l i ys)[k]?=if k<i then l[k]? else if k<i+ys.length then ys[k-i]? else l[k]?:=by
 unfold Dw
 have t1:(l.take i).length=i:=by simp;omega
 split
 ·rename_i hk
  rw [Dg,As (by omega),Cx,Ab hk]
 ·split
  ·rename_i hk
   rw [Dg,Ar (by omega),t1,As (by omega)]
  ·rw [Ar (by simp;omega),Cw]
   congr 1
   simp;omega
theorem Iv {α:Type} (l ys:List α) (i:Nat) (h:i+ys.length<=l.length):(Dw l i ys).length=l.length:=by
 unfold Dw;simp;omega
theorem CZ (hT:Eb P T) {st:St} {a:Act} (h:Bl X π st a w) {t:TypeId} {e:Ty} (ht:T.ty t=some e) {l j:Nat} {r:Real} {vx:Value} {tid:TypeId} {fr Wf:Bool} {xs:List e.den} {x:e.den}
  (hp:π l=some r) {tr:Bool} (hl:Au st.heap l=some (.arr fr tr e tid xs)) (hj:j<xs.length) (hx:Ct w (Dc X.w0.heap.size X.Sc π Wf) e vx x):
  ∃w',(Instr.storeAt t (.pointer (some ⟨r.g,(r.o+j)*e.size,none⟩)) vx).run P w= .ok () w'/\Bl X π (st.Ju l (.arr (fr&&Wf) false e tid (xs.set j x))) a w':=by
 have hb:=(h.1.heap l).Qm hl
 simp only [Cj,Jw,hp] at hb
 obtain ⟨h1,cur,ti,h2,h3,h4,h5,h6,_⟩:=hb
 obtain ⟨es,hY,hv⟩:=hx
 have lq:=Cells.len e es x hY
 have Ye:(r.o+j)*e.size+es.length<=cur.size:=by
  have:(r.o+j+1)*e.size<=(r.o+r.cap)*e.size:=Eo _ (by omega)
  rw [Dd (r.o+j) 1,Si] at this
  omega
 have Zy:(r.o+j)*e.size+es.length<=cur.toList.length:=by simpa using Ye
 have Vt:=Wr (P:=P) (w:=w) (hT.ty _ _ ht) r.g ((r.o+j)*e.size) vx es (by rw [hv];exact Kt e es x hY) lq (Cells.plain e es x hY) cur ti h2 Ye
 refine ⟨_,by simp only [Instr.storeAt,Instr.sureAddr];simpa using Vt,?_⟩
 refine h.set hl (b:= .arr (fr&&Wf) false e tid (xs.set j x)) ⟨rfl,by simp⟩ (by rw [hp];exact Nr w r.g _) λm=>?_
 simp only [Cj,Jw,hp]
 refine ⟨⟨h1.1,h1.2.1,λhf=>h1.2.2 (by simp only [Af] at hf;exact hf.1)⟩,_,_,setRow_heap w r.g cur _ ti _ h2,by rw [Gs,Iv _ _ _ Zy];simpa using h3,h4,by simpa using h5,λi y hy=>?_,λhf=>by cases hf⟩
 rw [Fe] at hy
 split at hy
 ·rename_i wR;subst wR
  simp only [Aa] at hy;subst hy
  refine ⟨es,lq,λk u hu=>?_,(m.cells Wf e es x hY).and_right⟩
  have hk:k<es.length:=(An.1 hu).1
  rw [Ic,Ib _ _ _ _ Zy,Ag (by omega),Ab (by omega)]
  rw [show (r.o+j)*e.size+k-(r.o+j)*e.size=k by omega];exact hu
 ·rename_i wR
  obtain ⟨oX,he',uk,GD⟩:=h6 i y hy
  refine ⟨oX,he',λk u hu=>?_,(m.cells fr e oX y GD).and_left⟩
  have hk:k<oX.length:=(An.1 hu).1
  have:=uk k u hu
  rw [Ic,Ib _ _ _ _ Zy]
  rcases ir (o:=r.o) (i:=i) (j:=j) (s:=e.size) (p:=k) (Gf wR) (by omega) with It|oZ
  ·rw [Ab It];simpa using this
  ·rw [Ag (by omega),Ag (by omega)];simpa using this
theorem lF: ∀(Fs:List (List Nat)) (i:Nat) (F':List Nat),(List.flatten Fs).Nodup->F'.Nodup->(∀b∈F',b∉List.flatten Fs)->(List.flatten (Fs.set i F')).Nodup/\ ∀b∈List.flatten (Fs.set i F'),b∈List.flatten Fs\/b∈F'
 | [],i,F',_,_,_=>by simp
 |G::Fs,0,F',hn,sP,hs=>by
  simp only [List.set_cons_zero,Kw] at hn hs⊢
  obtain ⟨n1,n2,n3⟩:=Cy.1 hn
  refine ⟨Cy.2 ⟨sP,n2,λa ha b hb e=>hs a ha (Bu _ (e▸hb))⟩,λb hb=>?_⟩
  rcases Bb.1 hb with hb|hb
  ·exact .inr hb
  ·exact .inl (Bu _ hb)
 |G::Fs,i+1,F',hn,sP,hs=>by
  simp only [List.set_cons_succ,Kw] at hn hs⊢
  obtain ⟨n1,n2,n3⟩:=Cy.1 hn
  obtain ⟨m1,m2⟩:=lF Fs i F' n2 sP λb hb hm=>hs b hb (Bu _ hm)
  refine ⟨Cy.2 ⟨n1,m1,λa ha b hb e=>?_⟩,λb hb=>?_⟩
  ·subst e
   rcases m2 a hb with h|h
   ·exact n3 a ha a h rfl
   ·exact hs a h (Bc _ ha)
  ·rcases Bb.1 hb with hb|hb
   ·exact .inl (Bc _ hb)
   ·exact (m2 b hb).imp (Bu _) id
theorem xL (hT:Eb P T) {st:St} {a:Act} (h:Bl X π st a w) {t:TypeId} {e:Ty} (ht:T.ty t=some e) {l j:Nat} {r:Real} {vx:Value} {tid:TypeId} {fr Wf:Bool} {xs:List e.den} {x:e.den}
  (hp:π l=some r) (hl:Au st.heap l=some (.arr fr true e tid xs)) (hj:j<xs.length) (hx:Ct w (Dc X.w0.heap.size X.Sc π Wf) e vx x) {F:List Nat} {us:List Value} (hF:Ch w F e us x) (hus:vx=Cf e us) (nI:ic X w π F):
  ∃w',(Instr.storeAt t (.pointer (some ⟨r.g,(r.o+j)*e.size,none⟩)) vx).run P w= .ok () w'/\Bl X (Xa π l (some (r.plus F))) (st.Ju l (.arr (fr&&Wf) true e tid (xs.set j x))) a w':=by
 have hb:=(h.1.heap l).Qm hl
 simp only [Cj,Jw,hp] at hb
 obtain ⟨h1,cur,ti,h2,h3,h4,h5,h6,h7⟩:=hb
 obtain ⟨Fs,t1,t2,t3,t4⟩:=h7 trivial
 obtain ⟨es,hY,hv⟩:=hx
 have lq:=Cells.len e es x hY
 have Au7:us=es:=by
  have c1:=Kt e us x (Ch.cells (S:= λ_=>False) F e us x hF λ_ _ h=>h)
  have c2:=Kt e es x hY
  rw [<-hus,hv,c2] at c1
  simpa using c1.symm
 subst Au7
 have Ye:(r.o+j)*e.size+us.length<=cur.size:=by
  have:(r.o+j+1)*e.size<=(r.o+r.cap)*e.size:=Eo _ (by omega)
  rw [Dd (r.o+j) 1,Si] at this
  omega
 have Zy:(r.o+j)*e.size+us.length<=cur.toList.length:=by simpa using Ye
 have Vt:=Wr (P:=P) (w:=w) (hT.ty _ _ ht) r.g ((r.o+j)*e.size) vx us (by rw [hv];exact Kt e us x hY) lq (Cells.plain e us x hY) cur ti h2 Ye
 have Pe:r.cl r.g:=h.1.sub l r _ hp h1.1
 have hng: ∀b∈F,b≠r.g:= λb hb e=>(nI.2 b hb).2.2 l r hp (e▸Pe)
 have SO:=lF Fs j F (Cd.1 t2).2 nI.1 λb hb hm=>(nI.2 b hb).2.2 l r hp (t3 b hm)
 refine ⟨_,by simp only [Instr.storeAt,Instr.sureAddr];simpa using Vt,?_⟩
 refine h.Aux hl (b:= .arr (fr&&Wf) true e tid (xs.set j x)) ⟨rfl,by simp⟩ hp (λc hc=>⟨(nI.2 c hc).1,(nI.2 c hc).2.1,λm r0 _=>(nI.2 c hc).2.2 m r0⟩) (Nr w r.g _) λm=>?_
 simp only [Cj,Jw]
 have cell: ∀(i:Nat) (oX:List Value),i≠j->oX.length=e.size->(∀k u,oX[k]?=some u->cur[(r.o+i)*e.size+k]?=some u)-> ∀k u,oX[k]?=some u->(Dw cur.toList ((r.o+j)*e.size) us).toArray[(r.o+i)*e.size+k]?=some u:=by
  intro i oX iW he' uk k u hu
  have hk:k<oX.length:=(An.1 hu).1
  have:=uk k u hu
  rw [Ic,Ib _ _ _ _ Zy]
  rcases ir (o:=r.o) (i:=i) (j:=j) (s:=e.size) (p:=k) iW (by omega) with It|oZ
  ·rw [Ab It];simpa using this
  ·rw [Ag (by omega),Ag (by omega)];simpa using this
 have Ago: ∀k u,us[k]?=some u->(Dw cur.toList ((r.o+j)*e.size) us).toArray[(r.o+j)*e.size+k]?=some u:=by
  intro k u hu
  have hk:k<us.length:=(An.1 hu).1
  rw [Ic,Ib _ _ _ _ Zy,Ag (by omega),Ab (by omega)]
  rw [show (r.o+j)*e.size+k-(r.o+j)*e.size=k by omega];exact hu
 refine ⟨⟨h1.1,h1.2.1,λhf=>h1.2.2 (by simp only [Af] at hf;exact hf.1)⟩,_,_,setRow_heap w r.g cur _ ti _ h2,by rw [Gs,Iv _ _ _ Zy,Xp];exact h3,h4,by rw [Bi];exact h5,λi y hy=>?_,λ_=>?_⟩
 ·rw [Fe] at hy
  split at hy
  ·rename_i wR;subst wR
   simp only [Aa] at hy;subst hy
   exact ⟨us,lq,Ago,(m.cells Wf e us x hY).and_right⟩
  ·rename_i wR
   obtain ⟨oX,he',uk,GD⟩:=h6 i y hy
   exact ⟨oX,he',cell i oX (Gf wR) he' uk,(m.cells fr e oX y GD).and_left⟩
 ·refine ⟨Fs.set j F,by simp [t1],Cd.2 ⟨λhm=>?_,SO.1⟩,λb hb=>?_,λi y G hy hG=>?_⟩
  ·rcases SO.2 _ hm with h8|h8
   ·exact (Cd.1 t2).1 h8
   ·exact hng _ h8 rfl
  ·exact (SO.2 b hb).imp (t3 b) id
  ·rw [Fe] at hy hG
   split at hy
   ·rename_i wR;subst wR
    rw [Ab rfl] at hG
    rw [Ab (by omega)] at hG
    simp only [Aa] at hy hG;subst hy;subst hG
    exact ⟨us,lq,Ago,hF.Ex _ _ _ _ (by simp) λb hb=>setRow_other w r.g b _ (hng b hb)⟩
   ·rename_i wR
    rw [Ag wR] at hG
    obtain ⟨oX,he',uk,GD⟩:=t4 i y G hy hG
    exact ⟨oX,he',cell i oX (Gf wR) he' uk,GD.Ex _ _ _ _ (by simp) λb hb=>setRow_other w r.g b _ λe=>(Cd.1 t2).1 (Fg.2 ⟨G,Bs hG,e▸hb⟩)⟩
theorem UL {st:St} {a:Act} (h:Bl X π st a w) {τ:Ty} {l:Nat} {x:AV} {vx:Value} (hx:Bp X w π st.heap x vx):Bp X w π st.heap (ZT T st τ l x) vx:=by
 unfold ZT
 split
 ·rename_i hc
  split
  ·rename_i p hp
   have:=Mt τ x vx p.1 p.2 (Gm.1 hc).2 hx hp
   exact Ct.Im this λb _ hA=>hA.imp id (Or.imp id λ⟨h1,_⟩=>by cases h1)
  ·exact hx
 ·exact hx
theorem rZ (hT:Eb P T) {st:St} {a:Act} (h:Bl X π st a w) (t:TypeId) (p x:AV) (vp vx:Value) (hp:Bp X w π st.heap p vp) (hx:Bp X w π st.heap x vx) (st':St)
  (he:Ve T st t p x=some st'): ∃w' π',(Instr.storeAt t vp vx).run P w= .ok () w'/\Bl X π' st' a w':=by
 unfold Ve at he
 split at he
 ·rename_i τ l i ht
  split at he
  ·rename_i tid vs cs hl hc
   split at he
   ·rename_i hle
    simp only [Aa] at he
    obtain ⟨w',h1,h2⟩:=DB hT h ht hp (UL h hx) hl hc hle
    split at he
    ·rename_i Jn
     simp only [Af,Ni] at Jn
     subst he
     obtain ⟨YM,h3⟩:=fH (T:=T) l i t τ cs.length 0 _ π (by omega) h2
     exact ⟨w',YM,h1,h3⟩
    ·subst he
     exact ⟨w',π,h1,h2⟩
   ·cases he
  ·cases he
 ·rename_i τ l j ht
  split at he
  ·rename_i x' st1 hs
   obtain ⟨cz,h1,h2,h3,h4,h5⟩:=cn h hx hs
   split at he
   ·rename_i fr tr e tid xs Wf y hl hv
    split at he
    ·rename_i lv;subst lv
     split at he
     ·rename_i hj
      simp only [Aa] at he;subst he
      obtain ⟨r,b,sz,n,g1,g0,g2,g3,rfl⟩:=hp
      obtain ⟨k1,b',f,k2,k3⟩:=h4 l _ hl
      rw [g1] at k2;cases k2
      have g4:=Mf OB.row k3
      rw [show (OB.map f b).row=b.row by cases b<;>rfl,g0] at g4
      simp only [OB.row,Aa,Ad] at g4
      obtain ⟨rfl,rfl⟩:=g4
      cases nN:(tr&&(Tn st x&&τ.tree)) with
      |false=>
       obtain ⟨w',q1,q2⟩:=CZ hT h1 ht (k1.trans g3) hl hj (Mt _ x' vx Wf y h3 h2 hv)
       exact ⟨w',cz,q1,q2⟩
      |true=>
       simp only [Af] at nN
       obtain ⟨rfl,htv,lv⟩:=nN
       obtain ⟨F,us,f1,f2,f3,_⟩:=h5 htv τ Wf y lv hv
       obtain ⟨w',q1,q2⟩:=xL hT h1 ht (k1.trans g3) hl hj (Mt _ x' vx Wf y h3 h2 hv) f1 f2 f3
       exact ⟨w',_,q1,q2⟩
     ·cases he
    ·cases he
   ·cases he
  ·cases he
 ·cases he
theorem vJ {S:Nat->Prop} {e:Ty} {v:Value} {ys:List e.den} (h:Cells w S (.slice e) [v] ys):
  ∃ad c,v= .slice ad ys.length c/\(ys= []\/ ∃g o,ad=some ⟨g,o,none⟩/\ ∃news:List Value,news.length=ys.length*e.size/\(∀j u,news[j]?=some u->w.cell? ⟨g,o+j,none⟩=some u)/\(∀u∈news,u.oneCell'=true)/\(∀j u,j<ys.length*e.size->w.cell? ⟨g,o+j,none⟩=some u->news[j]?=some u)/\
   ∀(i:Nat) (y:e.den),ys[i]?=some y-> ∃es:List Value,es.length=e.size/\(∀j u,es[j]?=some u->news[i*e.size+j]?=some u)/\Cells w S e es y):=by
 simp only [Cells] at h
 obtain ⟨ad,len,cap,hv,hl,ug,NB⟩:=h
 simp only [Gc,Ol] at hv
 subst hl
 refine ⟨ad,cap,hv,?_⟩
 rcases NB with h0|⟨g,o,rfl,hg,hn,Kf⟩
 ·exact .inl h0
 ·right
  refine ⟨g,o,rfl,(List.range (ys.length*e.size)).map λj=>(w.cell? ⟨g,o+j,none⟩).getD undef,by simp,?_⟩
  have key: ∀k,k<ys.length*e.size-> ∃u,w.cell? ⟨g,o+k,none⟩=some u/\u.oneCell'=true:=by
   intro k hk
   have hs:0<e.size:=by
    rcases aL e.size with h|h
    ·rw [h] at hk;simp at hk
    ·exact h
   have hi:k/e.size<ys.length:=(Nat.div_lt_iff_lt_mul hs).2 hk
   obtain ⟨es,hY,hc,c5⟩:=Kf (k/e.size) _ (Ac hi)
   have hm:k%e.size<es.length:=by rw [hY];exact Nat.mod_lt _ hs
   have:=hc (k%e.size) _ (Ac hm)
   rw [Gq,show k/e.size*e.size+k%e.size=k by rw [Nat.mul_comm];exact Nat.div_add_mod k e.size] at this
   exact ⟨_,this,Cells.plain e es _ c5 _ (Aj hm)⟩
  refine ⟨λj u hu=>?_,λu hu=>?_,λj u hj hu=>by rw [Fc,gh hj];simp [hu],λi y hy=>?_⟩
  ·rw [Fc] at hu
   have hj:j<ys.length*e.size:=by
    by_cases hj:j<ys.length*e.size
    ·exact hj
    ·rw [Fy (by simpa using hj)] at hu;cases hu
   rw [gh hj] at hu
   obtain ⟨u',fj,_⟩:=key j hj
   simp only [Am,fj,Bz,Aa] at hu
   rw [fj,hu]
  ·obtain ⟨j,hj,rfl⟩:=Bj.1 hu
   obtain ⟨u',fj,h1⟩:=key j (Gh.1 hj)
   rw [fj];exact h1
  ·obtain ⟨es,hY,hc,c5⟩:=Kf i y hy
   refine ⟨es,hY,λj u hu=>?_,c5⟩
   have hi:=(An.1 hy).1
   have hj:=(An.1 hu).1
   have It:i*e.size+j<ys.length*e.size:=by
    have:(i+1)*e.size<=ys.length*e.size:=Eo _ (by omega)
    rw [Dd,Si] at this
    omega
   rw [Fc,gh It]
   have:=hc j u hu
   rw [Gq] at this
   simp [this]
end
end Go.Proofs.YtfolipnappekaaaGreat
