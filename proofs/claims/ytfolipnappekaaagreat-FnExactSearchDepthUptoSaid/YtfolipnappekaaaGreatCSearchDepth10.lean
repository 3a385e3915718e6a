/-
  Part 11 of the proof that the statement FnExactSearchDepth holds.
-/
import Derived.Test.YtfolipnappekaaaGreatCSearchDepth09
namespace Go.Proofs.YtfolipnappekaaaGreat
open Go.RowKit
section
variable {P:Program} {T:Tab} {X:Ctx} {w w':World} {π:Pi} {H:List (Nat×OB)}
theorem OB.map_map (f g:AC->AC) (b:OB):OB.map g (OB.map f b)=OB.map (λc=>g (f c)) b:=by
 cases b with
 |var t vs=>simp [OB.map,Function.comp_def]
 |_=>rfl
theorem OB.GS (b:OB):OB.map (λc=>c) b=b:=by
 cases b with
 |var t vs=>simp [OB.map]
 |_=>rfl
def Kn (π π':Pi) (H H':List (Nat×OB)):Prop:= ∀l b',Au H' l=some b'->π' l=π l/\ ∃b f,Au H l=some b/\b'=OB.map f b
theorem Kn.refl (π:Pi) (H:List (Nat×OB)):Kn π π H H:= λ_ b h=>⟨rfl,b,λc=>c,h,(OB.GS b).symm⟩
theorem Kn.trans {cj XJ π3:Pi} {H1 H2 H3:List (Nat×OB)} (h:Kn cj XJ H1 H2) (h':Kn XJ π3 H2 H3):Kn cj π3 H1 H3:= λl b hb=>by
 obtain ⟨e1,b1,f1,h1,rfl⟩:=h' l b hb
 obtain ⟨e2,b2,f2,h2,rfl⟩:=h l b1 h1
 exact ⟨e1.trans e2,b2,_,h2,OB.map_map f2 f1 b2⟩
theorem Kn.freeze (st:St) (l:Nat) (fr:Bool) (e:Ty) (xs:List e.den):Kn π (Wy π l none) st.heap (st.freeze l fr e xs).heap:= λk b hb=>by
 by_cases hk:k=l
 ·subst hk;rw [St.Lu] at hb;cases hb
 ·rw [St.Rk st l k fr e xs hk] at hb
  cases h0:Au st.heap k with
  |none=>rw [h0] at hb;cases hb
  |some b0=>
   rw [h0] at hb
   simp only [Am,Aa] at hb
   exact ⟨Gf π none hk,b0,_,rfl,hb.symm⟩
theorem Kn.Ir (st:St) (l:Nat) (v:Ty) (m:ByteArray->Option v.den):Kn π (Wy π l none) st.heap (st.Ir l v m).heap:= λk b hb=>by
 by_cases hk:k=l
 ·subst hk;rw [St.Tb] at hb;cases hb
 ·rw [St.Qv st l k v m hk] at hb
  cases h0:Au st.heap k with
  |none=>rw [h0] at hb;cases hb
  |some b0=>
   rw [h0] at hb
   simp only [Am,Aa] at hb
   exact ⟨Gf π none hk,b0,_,rfl,hb.symm⟩
theorem Kn.gone {π':Pi} {H':List (Nat×OB)} (k:Kn π π' H H') {l:Nat} (h:Au H l=none):Au H' l=none:=by
 cases hb:Au H' l with
 |none=>rfl
 |some b=>
  obtain ⟨_,b0,f,h1,_⟩:=k l b hb
  rw [h] at h1;cases h1
def Ds (st:St):AC->AC
 | .own l off len=>match st.at l with
  |some (.arr fr _ e _ xs)=> .data fr (.slice e) ((xs.drop off).take len)
  |some (.Gt e _ xs)=> .data false (.slice e) ((xs.drop off).take len)
  |_=> .own l off len
 | .Kg l=>match st.at l with
  |some (.Vs v m)=> .data false (.smap v) m
  |_=> .Kg l
 |c=>c
theorem Th {st:St} {c:AC} (h:c.settled=true):Ds st c=c:=by
 cases c<;>simp [AC.settled] at h<;>rfl
theorem x5 {st st':St} {f:AC->AC} {l:Nat} (hH: ∀m,m≠l->Au st'.heap m=(Au st.heap m).map (OB.map f)) {c:AC} (hc: ∀k∈c.refs,k≠l):Ds st' c=Ds st c:=by
 cases c with
 |own k off len=>
  have hk:k≠l:=hc k (by simp [AC.refs])
  simp only [Ds,St.at,hH k hk]
  cases Au st.heap k with
  |none=>rfl
  |some b=>cases b<;>rfl
 |Kg k=>
  have hk:k≠l:=hc k (by simp [AC.refs])
  simp only [Ds,St.at,hH k hk]
  cases Au st.heap k with
  |none=>rfl
  |some b=>cases b<;>rfl
 |_=>rfl
theorem gB {a:Act} : ∀(n:Nat) (st:St) (π:Pi) (cs:List AC) (us:List Value) (ir:List AC) (st':St),Bl X π st a w->Gi X w π st.heap cs us->
  Hk n st cs=some (ir,st')-> ∃π',Bl X π' st' a w/\Gi X w π' st'.heap ir us/\ir.all (·.settled)=true/\Kn π π' st.heap st'.heap/\ir=cs.map (Ds st)/\
   (∀k,k∈cs.flatMap AC.refs->Au st'.heap k=none)
 |0,st,π,cs,us,ir,st',h,hr,he=>by
  simp only [Hk] at he
  split at he
  ·rename_i hs
   simp only [Aa,Ad] at he
   obtain ⟨rfl,rfl⟩:=he
   have FO:=Bd.1 hs
   exact ⟨π,h,hr,hs,Kn.refl _ _,((Ek λc hc=>Th (FO c hc)).trans (List.map_id'' (λ_=>rfl) cs)).symm,λk hk=>by
    obtain ⟨c,hc,DG⟩:=Hj.1 hk
    have:=FO c hc
    cases c<;>simp [AC.settled] at this<;>simp [AC.refs] at DG⟩
  ·cases he
 |n+1,st,π,cs,us,ir,st',h,hr,he=>by
  simp only [Hk] at he
  have step: ∀(f:AC->AC) (l:Nat) (st1:St),Bl X (Wy π l none) st1 a w->Move X w w π (Wy π l none) st.heap st1.heap f->Au st1.heap l=none->(∀m,m≠l->Au st1.heap m=(Au st.heap m).map (OB.map f))->
    Kn π (Wy π l none) st.heap st1.heap->(∀c∈cs,(∀k∈c.refs,k≠l)->f c=c)->(∀c∈cs,l∈c.refs->(f c).refs= []/\(Ds st1 (f c)).settled=true->f c=Ds st c)->
    (∀c∈cs,l∈c.refs->(f c).refs= [])->Hk n st1 (cs.map f)=some (ir,st')->
    ∃π',Bl X π' st' a w/\Gi X w π' st'.heap ir us/\ir.all (·.settled)=true/\Kn π π' st.heap st'.heap/\ir=cs.map (Ds st)/\(∀k,k∈cs.flatMap AC.refs->Au st'.heap k=none):=by
   intro f l st1 h1 m hl hH hK hf0 hf1 hf2 he
   obtain ⟨π',h2,h3,h4,h5,h6,h7⟩:=gB n st1 _ (cs.map f) us ir st' h1 (m.acs hr) he
   refine ⟨π',h2,h3,h4,hK.trans h5,?_,λk hk=>?_⟩
   ·rw [h6,List.map_map]
    refine Ek λc hc=>?_
    simp only [Function.comp]
    by_cases Qt:l∈c.refs
    ·have Ke:=Bd.1 h4
     have nA:Ds st1 (f c)∈ir:=by rw [h6];exact Bj.2 ⟨f c,Bj.2 ⟨c,hc,rfl⟩,rfl⟩
     have hs:=Ke _ nA
     have h8:=hf1 c hc Qt ⟨hf2 c hc Qt,hs⟩
     have h9:Ds st1 (f c)=f c:=by
      have:=hf2 c hc Qt
      cases hfc:f c<;>rw [hfc] at this<;>first|(simp [AC.refs] at this;done)|rfl
     rw [h9,h8]
    ·have Ik: ∀k∈c.refs,k≠l:= λk hk e=>Qt (e▸hk)
     rw [hf0 c hc Ik]
     exact x5 hH Ik
   ·obtain ⟨c,hc,DG⟩:=Hj.1 hk
    by_cases Sa:k=l
    ·subst Sa;exact h5.gone hl
    ·by_cases Qt:l∈c.refs
     ·
      have Ke:=Bd.1 h4
      have nA:Ds st1 (f c)∈ir:=by rw [h6];exact Bj.2 ⟨f c,Bj.2 ⟨c,hc,rfl⟩,rfl⟩
      have hs:=Ke _ nA
      have h8:=hf1 c hc Qt ⟨hf2 c hc Qt,hs⟩
      have h9:Ds st1 (f c)=f c:=by
       have:=hf2 c hc Qt
       cases hfc:f c<;>rw [hfc] at this<;>first|(simp [AC.refs] at this;done)|rfl
      rw [h9,h8] at hs
      cases c with
      |clo g Ec=>simp [Ds,AC.settled] at hs
      |own k' _ _=>simp [AC.refs] at Qt DG;exact absurd (DG.trans Qt.symm) Sa
      |Kg k'=>simp [AC.refs] at Qt DG;exact absurd (DG.trans Qt.symm) Sa
      |Hm k' _=>simp [AC.refs] at Qt DG;exact absurd (DG.trans Qt.symm) Sa
      |Jy k' _=>simp [AC.refs] at Qt DG;exact absurd (DG.trans Qt.symm) Sa
      |sub k' _ _=>simp [AC.refs] at Qt DG;exact absurd (DG.trans Qt.symm) Sa
      |Jv k' _ _=>simp [AC.refs] at Qt DG;exact absurd (DG.trans Qt.symm) Sa
      |_=>simp [AC.refs] at DG
     ·have Ik: ∀k∈c.refs,k≠l:= λk hk e=>Qt (e▸hk)
      exact h7 k (Hj.2 ⟨f c,Bj.2 ⟨c,hc,rfl⟩,by rw [hf0 c hc Ik];exact DG⟩)
  have DH: ∀(st1:St) (c:AC),(Ds st1 c).settled=true->c≠ .undef:= λst1 c hs e=>by rw [e] at hs;simp [Ds,AC.settled] at hs
  split at he
  ·rename_i hf
   simp only [Aa,Ad] at he
   obtain ⟨rfl,rfl⟩:=he
   have FO: ∀c∈cs,c.settled=true:= λc hc=>by have:=List.find?_eq_none.1 hf c hc;simpa using this
   exact ⟨π,h,hr,Bd.2 FO,Kn.refl _ _,((Ek λc hc=>Th (FO c hc)).trans (List.map_id'' (λ_=>rfl) cs)).symm,λk hk=>by
    obtain ⟨c,hc,DG⟩:=Hj.1 hk
    have:=FO c hc
    cases c<;>simp [AC.settled] at this<;>simp [AC.refs] at DG⟩
  ·rename_i l off len hf
   split at he
   ·rename_i fr tr e tid xs hl
    unfold St.at at hl
    obtain ⟨h1,m⟩:=h.freeze (fr:=fr) (.inl ⟨tr,tid,hl⟩)
    refine step _ l _ h1 m (St.Lu st l fr e xs) (λm hm=>St.Rk st l m fr e xs hm) (Kn.freeze st l fr e xs) (λc _ hc=>iH hc) (λc _ Qt hs=>?_) (λc _ Qt=>?_) he
    ·cases c with
     |own k o n=>have:k=l:=(Ae.1 Qt).symm
                 subst this;simp only [Cz,Ab,Ds,St.at,hl]
     |Hm k o=>have:k=l:=(Ae.1 Qt).symm
              subst this;simp only [Cz,Ab] at hs;exact absurd rfl (DH _ _ hs.2)
     |Jy k o=>have:k=l:=(Ae.1 Qt).symm
              subst this;simp only [Cz,Ab] at hs;exact absurd rfl (DH _ _ hs.2)
     |sub k o o2=>have:k=l:=(Ae.1 Qt).symm
                  subst this;simp only [Cz,Ab] at hs;exact absurd rfl (DH _ _ hs.2)
     |Jv k o o2=>have:k=l:=(Ae.1 Qt).symm
                 subst this;simp only [Cz,Ab] at hs;exact absurd rfl (DH _ _ hs.2)
     |Kg k=>have:k=l:=(Ae.1 Qt).symm
            subst this;simp only [Cz,Ab] at hs;exact absurd rfl (DH _ _ hs.2)
     |clo g Ec=>
      simp only [Cz] at hs
      rw [Ab (by simpa [AC.refs] using Qt)] at hs
      exact absurd rfl (DH _ _ hs.2)
     |_=>simp [AC.refs] at Qt
    ·cases c with
     |own k o n=>have:k=l:=(Ae.1 Qt).symm
                 subst this;simp only [Cz,Ab];rfl
     |Hm k o=>have:k=l:=(Ae.1 Qt).symm
              subst this;simp only [Cz,Ab];rfl
     |Jy k o=>have:k=l:=(Ae.1 Qt).symm
              subst this;simp only [Cz,Ab];rfl
     |sub k o o2=>have:k=l:=(Ae.1 Qt).symm
                  subst this;simp only [Cz,Ab];rfl
     |Jv k o o2=>have:k=l:=(Ae.1 Qt).symm
                 subst this;simp only [Cz,Ab];rfl
     |Kg k=>have:k=l:=(Ae.1 Qt).symm
            subst this;simp only [Cz,Ab];rfl
     |clo g Ec=>simp only [Cz];rw [Ab (by simpa [AC.refs] using Qt)];rfl
     |_=>simp [AC.refs] at Qt
   ·rename_i e tid xs hl
    unfold St.at at hl
    obtain ⟨h1,m⟩:=h.freeze (fr:=false) (.inr ⟨rfl,tid,hl⟩)
    refine step _ l _ h1 m (St.Lu st l false e xs) (λm hm=>St.Rk st l m false e xs hm) (Kn.freeze st l false e xs) (λc _ hc=>iH hc) (λc _ Qt hs=>?_) (λc _ Qt=>?_) he
    ·cases c with
     |own k o n=>have:k=l:=(Ae.1 Qt).symm
                 subst this;simp only [Cz,Ab,Ds,St.at,hl]
     |Hm k o=>have:k=l:=(Ae.1 Qt).symm
              subst this;simp only [Cz,Ab] at hs;exact absurd rfl (DH _ _ hs.2)
     |Jy k o=>have:k=l:=(Ae.1 Qt).symm
              subst this;simp only [Cz,Ab] at hs;exact absurd rfl (DH _ _ hs.2)
     |sub k o o2=>have:k=l:=(Ae.1 Qt).symm
                  subst this;simp only [Cz,Ab] at hs;exact absurd rfl (DH _ _ hs.2)
     |Jv k o o2=>have:k=l:=(Ae.1 Qt).symm
                 subst this;simp only [Cz,Ab] at hs;exact absurd rfl (DH _ _ hs.2)
     |Kg k=>have:k=l:=(Ae.1 Qt).symm
            subst this;simp only [Cz,Ab] at hs;exact absurd rfl (DH _ _ hs.2)
     |clo g Ec=>
      simp only [Cz] at hs
      rw [Ab (by simpa [AC.refs] using Qt)] at hs
      exact absurd rfl (DH _ _ hs.2)
     |_=>simp [AC.refs] at Qt
    ·cases c with
     |own k o n=>have:k=l:=(Ae.1 Qt).symm
                 subst this;simp only [Cz,Ab];rfl
     |Hm k o=>have:k=l:=(Ae.1 Qt).symm
              subst this;simp only [Cz,Ab];rfl
     |Jy k o=>have:k=l:=(Ae.1 Qt).symm
              subst this;simp only [Cz,Ab];rfl
     |sub k o o2=>have:k=l:=(Ae.1 Qt).symm
                  subst this;simp only [Cz,Ab];rfl
     |Jv k o o2=>have:k=l:=(Ae.1 Qt).symm
                 subst this;simp only [Cz,Ab];rfl
     |Kg k=>have:k=l:=(Ae.1 Qt).symm
            subst this;simp only [Cz,Ab];rfl
     |clo g Ec=>simp only [Cz];rw [Ab (by simpa [AC.refs] using Qt)];rfl
     |_=>simp [AC.refs] at Qt
   ·cases he
  ·rename_i l hf
   split at he
   ·rename_i v mm hl
    unfold St.at at hl
    obtain ⟨h1,m⟩:=h.Ir hl
    refine step _ l _ h1 m (St.Tb st l v mm) (λm hm=>St.Qv st l m v mm hm) (Kn.Ir st l v mm) (λc _ hc=>tJ hc) (λc _ Qt hs=>?_) (λc _ Qt=>?_) he
    ·cases c with
     |Kg k=>have:k=l:=(Ae.1 Qt).symm
            subst this;simp only [Ha,Ab,Ds,St.at,hl]
     |Hm k o=>have:k=l:=(Ae.1 Qt).symm
              subst this;simp only [Ha,Ab] at hs;exact absurd rfl (DH _ _ hs.2)
     |Jy k o=>have:k=l:=(Ae.1 Qt).symm
              subst this;simp only [Ha,Ab] at hs;exact absurd rfl (DH _ _ hs.2)
     |sub k o o2=>have:k=l:=(Ae.1 Qt).symm
                  subst this;simp only [Ha,Ab] at hs;exact absurd rfl (DH _ _ hs.2)
     |Jv k o o2=>have:k=l:=(Ae.1 Qt).symm
                 subst this;simp only [Ha,Ab] at hs;exact absurd rfl (DH _ _ hs.2)
     |own k o n=>have:k=l:=(Ae.1 Qt).symm
                 subst this;simp only [Ha,Ab] at hs;exact absurd rfl (DH _ _ hs.2)
     |clo g Ec=>
      simp only [Ha] at hs
      rw [Ab (by simpa [AC.refs] using Qt)] at hs
      exact absurd rfl (DH _ _ hs.2)
     |_=>simp [AC.refs] at Qt
    ·cases c with
     |own k o n=>have:k=l:=(Ae.1 Qt).symm
                 subst this;simp only [Ha,Ab];rfl
     |Hm k o=>have:k=l:=(Ae.1 Qt).symm
              subst this;simp only [Ha,Ab];rfl
     |Jy k o=>have:k=l:=(Ae.1 Qt).symm
              subst this;simp only [Ha,Ab];rfl
     |sub k o o2=>have:k=l:=(Ae.1 Qt).symm
                  subst this;simp only [Ha,Ab];rfl
     |Jv k o o2=>have:k=l:=(Ae.1 Qt).symm
                 subst this;simp only [Ha,Ab];rfl
     |Kg k=>have:k=l:=(Ae.1 Qt).symm
            subst this;simp only [Ha,Ab];rfl
     |clo g Ec=>simp only [Ha];rw [Ab (by simpa [AC.refs] using Qt)];rfl
     |_=>simp [AC.refs] at Qt
   ·cases he
  ·cases he
def gV (X:Ctx) (w:World) (π:Pi) (F:List Nat):Prop:=F.Nodup/\ ∀b∈F,(X.w0.heap.size<=b\/X.gv b)/\b<w.heap.size/\ ∀l r,π l=some r-> ¬r.cl b
theorem Xw {S:Nat->Prop} : ∀(e:Ty) (es:List Value) (x:e.den),e.flat=true->Cells w S e es x->Cg w [] e es x
 | .int k,cs,n,_,h=>⟨rfl,h⟩
 | .bool,cs,n,_,h=>⟨rfl,h⟩
 | .str,cs,n,_,h=>⟨rfl,h⟩
 | .unit,cs,n,_,h=>⟨rfl,h⟩
 | .pair a r,cs,x,hf,h=>by
  simp only [Ty.flat,Af] at hf
  simp only [Cells] at h
  simp only [Cg]
  obtain ⟨c1,c2,h1,h2,h3⟩:=h
  exact ⟨c1,c2,[],[],h1,rfl,Xw a c1 x.1 hf.1 h2,Xw r c2 x.2 hf.2 h3⟩
 | .slice _,_,_,hf,_=>by simp [Ty.flat] at hf
 | .oslice _,_,_,hf,_=>by simp [Ty.flat] at hf
 | .ptr _,_,_,hf,_=>by simp [Ty.flat] at hf
 | .optr _,_,_,hf,_=>by simp [Ty.flat] at hf
 | .smap _,_,_,hf,_=>by simp [Ty.flat] at hf
 | .clo _ _,_,_,hf,_=>by simp [Ty.flat] at hf
theorem Sk {Fs:List (List Nat)} (off len:Nat) (b:Nat) (h:b∈List.flatten ((Fs.drop off).take len)):b∈List.flatten Fs:=by
 obtain ⟨F,hF,hb⟩:=Fg.1 h
 exact Fg.2 ⟨F,dA (Gl hF),hb⟩
theorem aw {α:Type} {a b:List (List α)} (h:a.Sublist b):(List.flatten a).Sublist (List.flatten b):=by
 induction h with
 |slnil=>exact List.Sublist.refl _
 |cons c _ ih=>simp only [Kv];exact ih.trans (List.sublist_append_right _ _)
 |cons_cons c _ ih=>simp only [Kv];exact List.Sublist.append (List.Sublist.refl _) ih
theorem mg {Fs:List (List Nat)} (off len:Nat) (h:(List.flatten Fs).Nodup):(List.flatten ((Fs.drop off).take len)).Nodup:=by
 have h1:((Fs.drop off).take len).Sublist Fs:=(List.take_sublist len _).trans (List.drop_sublist off Fs)
 exact h.sublist (aw h1)
theorem kx {P:Nat->Prop} {r:Real} {off len:Nat} {v:Value} {e:Ty} {tid:TypeId} {xs:List e.den} {cur:Array Value} (h2:w.heap[r.g]?=some (.cells cur tid (0,0))) (aG:cur.size=(r.o+r.cap)*e.size) (tR:r.cap<=maxLen)
  (hlen:off+len<=xs.length) (hv:Hw (some r) e.size off len v) (ht:Xm w P r.g r.o cur e xs) (hg:P r.g):
  ∃F,Cg w F (.slice e) [v] ((xs.drop off).take len)/\F.Nodup/\ ∀b∈F,P b:=by
 have hll:((xs.drop off).take len).length=len:=by simp;omega
 obtain ⟨ad,rfl,hc,ha⟩:=hv
 obtain ⟨Fs,t1,t2,t3,t4⟩:=ht
 ·refine ⟨r.g::List.flatten ((Fs.drop off).take len),⟨some ad,len,r.cap-off,rfl,hll.symm,by omega, .inr ⟨ad,r.g,(r.o+off)*e.size,_,rfl,λh0=>ha (by omega),⟨cur,tid,r.o+off,h2,rfl,by rw [aG];congr 1;omega,by omega⟩,rfl,by simp;omega,λi x F hx hF=>?_⟩⟩,?_,λb hb=>?_⟩
  ·have hi:i<len:=by
    have:=(An.1 hx).1
    rw [hll] at this;exact this
   have hx':xs[off+i]?=some x:=by rw [Cx,Ab hi,Cw] at hx;exact hx
   have hF':Fs[off+i]?=some F:=by rw [Cx,Ab hi,Cw] at hF;exact hF
   obtain ⟨es,he,hj,rJ⟩:=t4 (off+i) x F hx' hF'
   refine ⟨es,he,λj u hu=>?_,rJ⟩
   rw [cellOf h2]
   have:=hj j u hu
   rw [<-this]
   congr 1
   rw [<-Gm,Dc (r.o+off) i]
  ·have:=Cb.1 t2
   exact Cb.2 ⟨λhm=>this.1 (Sk off len _ hm),mg off len this.2⟩
  ·rcases Be.1 hb with rfl|hb
   ·exact hg
   ·exact t3 b (Sk off len b hb)
theorem oI {st:St} (h:Mv X w π st.heap) {c:AC} {v:Value} (hc:Hp X w π st.heap c v) (ht:Rz st c=true) (τ:Ty) (fr:Bool) (x:τ.den) (Tw:τ.Aq=false) (TU:τ.tree=true)
  (hv:Dt st τ (Ds st c)=some (fr,x)): ∃F,Cg w F τ [v] x/\F.Nodup/\ ∀b∈F,∃l r,l∈c.refs/\π l=some r/\r.cl b:=by
 cases c with
 |data Wb Oe y=>
  simp only [Rz] at ht
  simp only [Ds,Ns] at hv
  split at hv
  ·rename_i he;subst he
   simp only [Aa,Ad] at hv
   obtain ⟨_,rfl⟩:=hv
   exact ⟨[],Xw Oe _ _ ht (Cs.Ru Tw hc),Nc,λb hb=>by cases hb⟩
  ·unfold iq at hv
   split at hv
   ·simp [Ty.flat] at ht
   ·simp [Ty.flat] at ht
   ·cases hv
 |Ly=>
  have hc:v= .slice none 0 0:=hc
  subst hc
  cases τ with
  |slice e=>
   simp only [Ds,Dt,Aa,Ad] at hv
   obtain ⟨_,rfl⟩:=hv
   exact ⟨[],⟨none,0,0,rfl,rfl,Ao _, .inl ⟨rfl,rfl,rfl,rfl⟩⟩,Nc,λb hb=>by cases hb⟩
  |oslice e=>simp [Ty.tree] at TU
  |_=>simp [Ds,Dt] at hv
 |own l off len=>
  simp only [Rz] at ht
  split at ht
  ·rename_i Wb tr e tid xs hl
   have Km:=hl
   unfold St.at at hl
   simp only [Ds,Km,Ns] at hv
   split at hv
   ·rename_i he;subst he
    simp only [Aa,Ad] at hv
    obtain ⟨_,rfl⟩:=hv
    obtain ⟨h2,h3⟩:=Ok hc hl
    have hb:=(h.heap l).Qi hl
    simp only [Cj,Jw] at hb
    cases hp:π l with
    |none=>
     rw [hp] at h3
     obtain ⟨rfl,rfl,rfl⟩:=h3
     exact ⟨[],⟨none,0,0,rfl,by simp,Ao _, .inl ⟨by simp,rfl,rfl,rfl⟩⟩,Nc,λb hb=>by cases hb⟩
    |some r=>
     rw [hp] at hb h3
     obtain ⟨k1,cur,_,k2,k3,k4,k5,k6,k7⟩:=hb
     have RV:Xm w r.cl r.g r.o cur e xs:=by
      simp only [Ka] at ht
      rcases ht with ht|ht
      ·exact k7 ht
      ·refine ⟨List.replicate xs.length [],by simp,by simp,by simp,λi x F hx hF=>?_⟩
       obtain ⟨es,e1,e2,e3⟩:=k6 i x hx
       have:F= []:=by
        have:=Bq hF
        exact Fk this
       subst this
       exact ⟨es,e1,e2,Xw e es x ht e3⟩
     obtain ⟨F,f1,f2,f3⟩:=kx k2 k3 k4 h2 h3 RV (h.sub l r _ hp k1.1)
     exact ⟨F,f1,f2,λb hb=>⟨l,r,by simp [AC.refs],hp,f3 b hb⟩⟩
   ·cases τ<;>simp [iq] at hv
  ·rename_i e tid xs hl
   have Km:=hl
   unfold St.at at hl
   simp only [Ds,Km,Ns] at hv
   split at hv
   ·rename_i he;subst he
    simp only [Aa,Ad] at hv
    obtain ⟨_,rfl⟩:=hv
    obtain ⟨h2,h3⟩:=c5 hc hl
    have hb:=(h.heap l).Qi hl
    simp only [Cj,Nu] at hb
    cases hp:π l with
    |none=>
     rw [hp] at h3
     obtain ⟨rfl,rfl,rfl⟩:=h3
     exact ⟨[],⟨none,0,0,rfl,by simp,Ao _, .inl ⟨by simp,rfl,rfl,rfl⟩⟩,Nc,λb hb=>by cases hb⟩
    |some r=>
     rw [hp] at hb h3
     obtain ⟨k1,cur,_,k2,k3,k4,k5,k7⟩:=hb
     obtain ⟨F,f1,f2,f3⟩:=kx k2 k3 k4 h2 h3 k7 k1
     exact ⟨F,f1,f2,λb hb=>⟨l,r,by simp [AC.refs],hp,h.sub l r b hp (f3 b hb)⟩⟩
   ·cases τ<;>simp [iq] at hv
  ·cases ht
 |_=>simp [Rz] at ht
theorem Yc: ∀ {l:List Nat},aq l=true->l.Nodup
 | [],_=>Nc
 |a::r,h=>by
  simp only [aq,Af,Ef,List.contains_eq_mem,decide_eq_false_iff_not] at h
  exact Cb.2 ⟨h.1,Yc h.2⟩
theorem bg {st st':St} {τ:Ty} {c:AC} (h:c.settled=true):Dt st' τ c=Dt st τ c:=by
 cases c<;>simp [AC.settled] at h<;>cases τ<;>rfl
theorem xl {st st':St} (h:Mv X w π st.heap): ∀(τ:Ty) (cs:List AC) (us:List Value) (fr:Bool) (x:τ.den),Gi X w π st.heap cs us->cs.all (Rz st)=true->(cs.flatMap AC.refs).Nodup->
  (cs.map (Ds st)).all (·.settled)=true->τ.tree=true->Fp st' τ (cs.map (Ds st))=some (fr,x)-> ∃F,Cg w F τ us x/\F.Nodup/\ ∀b∈F,∃l r,l∈cs.flatMap AC.refs/\π l=some r/\r.cl b:=by
 have one: ∀(τ:Ty) (cs:List AC) (us:List Value) (fr:Bool) (x:τ.den),τ.Aq=false->Gi X w π st.heap cs us->cs.all (Rz st)=true->
   (cs.map (Ds st)).all (·.settled)=true->τ.tree=true->Fp st' τ (cs.map (Ds st))=some (fr,x)-> ∃F,Cg w F τ us x/\F.Nodup/\ ∀b∈F,∃l r,l∈cs.flatMap AC.refs/\π l=some r/\r.cl b:=by
  intro τ cs us fr x Tw hr ht hs Vu hv
  rw [Ua Tw] at hv
  rcases cs with _|⟨c,_|⟨d,cs⟩⟩
  ·cases hv
  ·simp only [Ca,List.map_nil] at hv
   obtain ⟨u,hu,_,hc⟩:=hr.2 0 c rfl
   have hl:us.length=1:=hr.1
   obtain ⟨u',rfl⟩:=De.1 hl
   simp at hu;subst hu
   rw [bg (st:=st) (by simpa using hs)] at hv
   obtain ⟨F,f1,f2,f3⟩:=oI h hc (by simpa using ht) τ fr x Tw Vu hv
   exact ⟨F,f1,f2,λb hb=>by obtain ⟨l,r,g1,g2⟩:=f3 b hb;exact ⟨l,r,by simpa using g1,g2⟩⟩
  ·cases hv
 intro τ
 induction τ with
 |unit=>
  intro cs us fr x hr ht hd hs Vu hv
  cases cs with
  |nil=>have:us= []:=Ck hr.1;subst this;exact ⟨[],⟨rfl,rfl⟩,Nc,λb hb=>by cases hb⟩
  |cons c cs=>simp [Fp] at hv
 |pair a r mI jX=>
  intro cs us fr x hr ht hd hs Vu hv
  simp only [Ty.tree,Af] at Vu
  simp only [Fp] at hv
  split at hv
  ·rename_i f1 y f2 z h1 h2
   simp only [Aa,Ad] at hv
   obtain ⟨rfl,rfl⟩:=hv
   have UB:Gi X w π st.heap (cs.take a.size) (us.take a.size):=by have:=Zz hr 0 a.size;simpa using this
   have ZT:Gi X w π st.heap (cs.drop a.size) (us.drop a.size):=
    ⟨by simp [hr.1],λi c hc=>by
     rw [Cw] at hc⊢
     exact hr.2 _ c hc⟩
   have Ap1: ∀ {p:AC->Bool} {l:List AC} (n:Nat),l.all p=true->(l.take n).all p=true:= λn hl=>Bd.2 λc hc=>Bd.1 hl c (Gl hc)
   have Ap2: ∀ {p:AC->Bool} {l:List AC} (n:Nat),l.all p=true->(l.drop n).all p=true:= λn hl=>Bd.2 λc hc=>Bd.1 hl c (dA hc)
   have hdd:((cs.take a.size++cs.drop a.size).flatMap AC.refs).Nodup:=by rw [Ig];exact hd
   rw [List.flatMap_append] at hdd
   obtain ⟨d1,d2,d3⟩:=Cy.1 hdd
   rw [<-List.map_take] at h1
   rw [<-List.map_drop] at h2
   obtain ⟨F1,t1,n1,c1⟩:=mI _ _ f1 y UB (Ap1 _ ht) d1 (by rw [List.map_take];exact Ap1 _ hs) Vu.1 h1
   obtain ⟨F2,t2,n2,c2⟩:=jX _ _ f2 z ZT (Ap2 _ ht) d2 (by rw [List.map_drop];exact Ap2 _ hs) Vu.2 h2
   refine ⟨F1++F2,⟨us.take a.size,us.drop a.size,F1,F2,(Ig _ _).symm,rfl,t1,t2⟩,Cy.2 ⟨n1,n2,λb hb b' iJ e=>?_⟩,λb hb=>?_⟩
   ·subst e
    obtain ⟨l1,r1,g1,g2,g3⟩:=c1 b hb
    obtain ⟨l2,r2,g4,g5,g6⟩:=c2 b iJ
    exact d3 l1 g1 l2 g4 (h.inj l1 l2 r1 r2 b g2 g5 g3 g6)
   ·have Ke: ∀l,(l∈(cs.take a.size).flatMap AC.refs\/l∈(cs.drop a.size).flatMap AC.refs)->l∈cs.flatMap AC.refs:= λl hl=>by
     rw [<-Bb,<-List.flatMap_append,Ig] at hl;exact hl
    rcases Bb.1 hb with hb|hb
    ·obtain ⟨l1,r1,g1,g2⟩:=c1 b hb;exact ⟨l1,r1,Ke l1 (.inl g1),g2⟩
    ·obtain ⟨l1,r1,g1,g2⟩:=c2 b hb;exact ⟨l1,r1,Ke l1 (.inr g1),g2⟩
  ·cases hv
 |_=>exact λcs us fr x hr ht _ hs Vu hv=>one _ cs us fr x rfl hr ht hs Vu hv
theorem RE {π':Pi} {st st':St} {a:Act} (h:Bl X π st a w) (h':Bl X π' st' a w) (k:Kn π π' st.heap st'.heap) {ls:List Nat} (hg: ∀l∈ls,Au st'.heap l=none) {F:List Nat} (hF:F.Nodup)
  (hc: ∀b∈F,∃l r,l∈ls/\π l=some r/\r.cl b):gV X w π' F:=by
 refine ⟨hF,λb hb=>?_⟩
 obtain ⟨l,r,h1,h2,h3⟩:=hc b hb
 have hp:=h.1.place l r b h2 h3
 refine ⟨hp.1,hp.2,λl2 r2 h4 h5=>?_⟩
 cases hh:Au st'.heap l2 with
 |none=>rw [(h'.1.heap l2).emp hh] at h4;cases h4
 |some b'=>
  have h6:=(k l2 b' hh).1
  rw [h6] at h4
  have:=h.1.inj l l2 r r2 b h2 h4 h3 h5
  subst this
  rw [hg l h1] at hh;cases hh
theorem c8 {st:St} {a:Act} (h:Bl X π st a w) {c:AV} {v:Value} (hc:Bu X w π st.heap c v) {c':AV} {st':St} (he:settle st c=some (c',st')):
  ∃π',Bl X π' st' a w/\Bu X w π' st'.heap c' v/\c'.settled=true/\Kn π π' st.heap st'.heap/\
   (Tl st c=true-> ∀(τ:Ty) (fr:Bool) (x:τ.den),τ.tree=true->Fu st' τ c'=some (fr,x)-> ∃F us,Cg w F τ us x/\v=Ci τ us/\gV X w π' F/\ ∀b∈F,∃l r,π l=some r/\r.cl b):=by
 have cell: ∀(a0:AC) (st':St) (π':Pi),Hp X w π st.heap a0 v->Bl X π' st' a w->(Ds st a0).settled=true->Kn π π' st.heap st'.heap->(∀l∈a0.refs,Au st'.heap l=none)->
   Rz st a0=true-> ∀(τ:Ty) (fr:Bool) (x:τ.den),τ.tree=true->Fu st' τ (.at (Ds st a0))=some (fr,x)-> ∃F us,Cg w F τ us x/\v=Ci τ us/\gV X w π' F/\ ∀b∈F,∃l r,π l=some r/\r.cl b:=by
  intro a0 st1 cj hr h1 hs hk hg ht τ fr x Vu hv
  by_cases Tw:τ.Aq=true
  ·
   cases FP:Ds st a0 with
   |data Wb Oe y=>
    rw [FP,dc] at hv
    split at hv
    ·rename_i het;subst het
     simp only [Aa,Ad] at hv
     obtain ⟨_,rfl⟩:=hv
     cases a0 with
     |data sw τ2 z=>
      simp only [Ds,AC.data.injEq] at FP
      obtain ⟨rfl,rfl,hz⟩:=FP
      have hz:=eq_of_heq hz
      subst hz
      obtain ⟨cs,rJ,rfl⟩:=hr
      exact ⟨[],cs,Xw _ cs _ ht rJ,rfl,⟨Nc,λb hb=>by cases hb⟩,λb hb=>by cases hb⟩
     |own l off len=>
      simp only [Ds] at FP
      split at FP
      ·simp only [AC.data.injEq] at FP;obtain ⟨_,h2,_⟩:=FP;subst h2;simp [Ty.Aq] at Tw
      ·simp only [AC.data.injEq] at FP;obtain ⟨_,h2,_⟩:=FP;subst h2;simp [Ty.Aq] at Tw
      ·cases FP
     |Kg l=>simp [Rz] at ht
     |_=>simp [Ds] at FP
    ·cases hv
   |_=>rw [FP] at hv;simp only [Fu,Tw,Ph] at hv;cases hv
  ·simp only [Ii] at Tw
   have FT:Dt st τ (Ds st a0)=some (fr,x):=by
    rw [<-bg (st:=st) (st':=st1) hs]
    cases FP:Ds st a0 with
    |data Wb Oe y=>
     rw [FP,dc] at hv
     rw [Ns]
     split at hv
     ·rename_i het;rw [Iy het];exact hv
     ·rename_i het
      rw [dif_neg het]
      simp only [Tw,Dh,Tr,CR,Ns] at hv
      rw [dif_neg het] at hv
      exact hv
    |Ly=>rw [FP] at hv;simp only [Fu,Tw,Dh,Tr] at hv;rw [Qh rfl] at hv;exact hv
    |Xa=>rw [FP] at hv;simp only [Fu,Tw,Dh,Tr] at hv;rw [Qh rfl] at hv;exact hv
    |_=>rw [FP] at hs;simp [AC.settled] at hs
   obtain ⟨F,f1,f2,f3⟩:=oI h.1 hr ht τ fr x Tw Vu FT
   exact ⟨F,[v],f1,by simp [Ci,Tw],RE h h1 hk hg f2 f3,λb hb=>let ⟨l,r,_,q⟩:=f3 b hb;⟨l,r,q⟩⟩
 unfold settle at he
 split at he
 ·rename_i l off len
  split at he
  ·rename_i fr tr e tid xs hl
   simp only [Aa,Ad] at he
   obtain ⟨rfl,rfl⟩:=he
   obtain ⟨h1,m⟩:=h.freeze (fr:=fr) (.inl ⟨tr,tid,hl⟩)
   have:=m.ac (.own l off len) v hc
   simp only [Cz,Ph] at this
   have eW:Ds st (.own l off len)= .data fr (.slice e) ((xs.drop off).take len):=by simp only [Ds,hl]
   refine ⟨_,h1,this,rfl,Kn.freeze st l fr e xs,λht=>?_⟩
   have:=cell (.own l off len) _ _ hc h1 (by rw [eW];rfl) (Kn.freeze st l fr e xs) (λk hk=>by rw [Ae.1 hk];exact St.Lu st l fr e xs) ht
   rw [eW] at this
   exact this
  ·rename_i e tid xs hl
   simp only [Aa,Ad] at he
   obtain ⟨rfl,rfl⟩:=he
   obtain ⟨h1,m⟩:=h.freeze (fr:=false) (.inr ⟨rfl,tid,hl⟩)
   have:=m.ac (.own l off len) v hc
   simp only [Cz,Ph] at this
   have eW:Ds st (.own l off len)= .data false (.slice e) ((xs.drop off).take len):=by simp only [Ds,hl]
   refine ⟨_,h1,this,rfl,Kn.freeze st l false e xs,λht=>?_⟩
   have:=cell (.own l off len) _ _ hc h1 (by rw [eW];rfl) (Kn.freeze st l false e xs) (λk hk=>by rw [Ae.1 hk];exact St.Lu st l false e xs) ht
   rw [eW] at this
   exact this
  ·cases he
 ·rename_i l
  split at he
  ·rename_i vt mm hl
   simp only [Aa,Ad] at he
   obtain ⟨rfl,rfl⟩:=he
   obtain ⟨h1,m⟩:=h.Ir hl
   have:=m.ac (.Kg l) v hc
   simp only [Ha,Ph] at this
   exact ⟨_,h1,this,rfl,Kn.Ir st l vt mm,λht=>by simp [Tl,Rz] at ht⟩
  ·cases he
 ·rename_i a0 _ _
  split at he
  ·rename_i hs
   simp only [Aa,Ad] at he
   obtain ⟨rfl,rfl⟩:=he
   refine ⟨π,h,hc,hs,Kn.refl _ _,λht=>?_⟩
   have eW:=Th (st:=st) hs
   have:=cell a0 st π hc h (by rw [eW];exact hs) (Kn.refl _ _) (λk hk=>by
    cases a0<;>simp [AC.settled] at hs<;>simp [AC.refs] at hk) ht
   rw [eW] at this
   exact this
  ·cases he
 ·rename_i cs
  cases hsc:Hk cs.length st cs with
  |none=>rw [hsc] at he;cases he
  |some p=>
   rw [hsc] at he
   simp only [Am,Aa,Ad] at he
   obtain ⟨rfl,rfl⟩:=he
   obtain ⟨us,rfl,hr⟩:=hc
   obtain ⟨π',h2,h3,h4,h5,h6,h7⟩:=gB cs.length st π cs us p.1 p.2 h hr hsc
   refine ⟨π',h2,⟨us,rfl,h3⟩,h4,h5,λht τ fr x Vu hv=>?_⟩
   simp only [Tl,Af] at ht
   simp only [Fu] at hv
   split at hv
   ·rename_i Tw
    rw [h6] at hv h4
    obtain ⟨F,f1,f2,f3⟩:=xl h.1 τ cs us fr x hr ht.1 (Yc ht.2) h4 Vu hv
    exact ⟨F,us,f1,by simp [Ci,Tw],RE h h2 h5 h7 f2 f3,λb hb=>let ⟨l,r,_,q⟩:=f3 b hb;⟨l,r,q⟩⟩
   ·cases hv
 ·simp only [Aa,Ad] at he
  obtain ⟨rfl,rfl⟩:=he
  exact ⟨π,h,hc,rfl,Kn.refl _ _,λht=>by simp [Tl] at ht⟩
 ·cases he
theorem ia {o i j s p:Nat} (Ik:i≠j) (hp:p<s):(o+i)*s+p<(o+j)*s\/(o+j)*s+s<=(o+i)*s+p:=by
 rcases Nat.lt_or_gt_of_ne Ik with h|h
 ·left
  have:(o+i+1)*s<=(o+j)*s:=Em _ (by omega)
  rw [Dc,Sf] at this
  omega
 ·right
  have:(o+j+1)*s<=(o+i)*s:=Em _ (by omega)
  rw [Dc,Sf] at this
  omega
theorem Ic {α:Type} (l ys:List α) (i k:Nat) (h:i+ys.length<=l.length):(Dv l i ys)[k]?=if k<i then l[k]? else if k<i+ys.length then ys[k-i]? else l[k]?:=by
 unfold Dv
 have t1:(l.take i).length=i:=by simp;omega
 split
 ·rename_i hk
  rw [Dg,At (by omega),Cx,Ab hk]
 ·split
  ·rename_i hk
   rw [Dg,Ar (by omega),t1,At (by omega)]
  ·rw [Ar (by simp;omega),Cw]
   congr 1
   simp;omega
theorem Iv {α:Type} (l ys:List α) (i:Nat) (h:i+ys.length<=l.length):(Dv l i ys).length=l.length:=by
 unfold Dv;simp;omega
theorem CA (hT:Dz P T) {st:St} {a:Act} (h:Bl X π st a w) {t:TypeId} {e:Ty} (ht:T.ty t=some e) {l j:Nat} {r:Real} {vx:Value} {tid:TypeId} {fr Wb:Bool} {xs:List e.den} {x:e.den}
  (hp:π l=some r) {tr:Bool} (hl:Au st.heap l=some (.arr fr tr e tid xs)) (hj:j<xs.length) (hx:Cs w (Da X.w0.heap.size X.Sc π Wb) e vx x):
  ∃w',(Instr.storeAt t (.pointer (some ⟨r.g,(r.o+j)*e.size,none⟩)) vx).run P w= .ok () w'/\Bl X π (st.Ju l (.arr (fr&&Wb) false e tid (xs.set j x))) a w':=by
 have hb:=(h.1.heap l).Qi hl
 simp only [Cj,Jw,hp] at hb
 obtain ⟨h1,cur,ti,h2,h3,h4,h5,h6,_⟩:=hb
 obtain ⟨es,gR,hv⟩:=hx
 have l7:=Cells.len e es x gR
 have Xy:(r.o+j)*e.size+es.length<=cur.size:=by
  have:(r.o+j+1)*e.size<=(r.o+r.cap)*e.size:=Em _ (by omega)
  rw [Dc (r.o+j) 1,Sf] at this
  omega
 have Zp:(r.o+j)*e.size+es.length<=cur.toList.length:=by simpa using Xy
 have Vr:=Wm (P:=P) (w:=w) (hT.ty _ _ ht) r.g ((r.o+j)*e.size) vx es (by rw [hv];exact Ks e es x gR) l7 (Cells.plain e es x gR) cur ti h2 Xy
 refine ⟨_,by simp only [Instr.storeAt,Instr.sureAddr];simpa using Vr,?_⟩
 refine h.set hl (b:= .arr (fr&&Wb) false e tid (xs.set j x)) ⟨rfl,by simp⟩ (by rw [hp];exact Nn w r.g _) λm=>?_
 simp only [Cj,Jw,hp]
 refine ⟨⟨h1.1,h1.2.1,λhf=>h1.2.2 (by simp only [Af] at hf;exact hf.1)⟩,_,_,setRow_heap w r.g cur _ ti _ h2,by rw [Gr,Iv _ _ _ Zp];simpa using h3,h4,by simpa using h5,λi y hy=>?_,λhf=>by cases hf⟩
 rw [Fe] at hy
 split at hy
 ·rename_i wu;subst wu
  simp only [Aa] at hy;subst hy
  refine ⟨es,l7,λk u hu=>?_,(m.cells Wb e es x gR).and_right⟩
  have hk:k<es.length:=(An.1 hu).1
  rw [Ie,Ic _ _ _ _ Zp,Ag (by omega),Ab (by omega)]
  rw [show (r.o+j)*e.size+k-(r.o+j)*e.size=k by omega];exact hu
 ·rename_i wu
  obtain ⟨oN,he',tV,FF⟩:=h6 i y hy
  refine ⟨oN,he',λk u hu=>?_,(m.cells fr e oN y FF).and_left⟩
  have hk:k<oN.length:=(An.1 hu).1
  have:=tV k u hu
  rw [Ie,Ic _ _ _ _ Zp]
  rcases ia (o:=r.o) (i:=i) (j:=j) (s:=e.size) (p:=k) (Ge wu) (by omega) with It|oP
  ·rw [Ab It];simpa using this
  ·rw [Ag (by omega),Ag (by omega)];simpa using this
theorem ll: ∀(Fs:List (List Nat)) (i:Nat) (F':List Nat),(List.flatten Fs).Nodup->F'.Nodup->(∀b∈F',b∉List.flatten Fs)->(List.flatten (Fs.set i F')).Nodup/\ ∀b∈List.flatten (Fs.set i F'),b∈List.flatten Fs\/b∈F'
 | [],i,F',_,_,_=>by simp
 |G::Fs,0,F',hn,sA,hs=>by
  simp only [List.set_cons_zero,Kv] at hn hs⊢
  obtain ⟨n1,n2,n3⟩:=Cy.1 hn
  refine ⟨Cy.2 ⟨sA,n2,λa ha b hb e=>hs a ha (Bt _ (e▸hb))⟩,λb hb=>?_⟩
  rcases Bb.1 hb with hb|hb
  ·exact .inr hb
  ·exact .inl (Bt _ hb)
 |G::Fs,i+1,F',hn,sA,hs=>by
  simp only [List.set_cons_succ,Kv] at hn hs⊢
  obtain ⟨n1,n2,n3⟩:=Cy.1 hn
  obtain ⟨m1,m2⟩:=ll Fs i F' n2 sA λb hb hm=>hs b hb (Bt _ hm)
  refine ⟨Cy.2 ⟨n1,m1,λa ha b hb e=>?_⟩,λb hb=>?_⟩
  ·subst e
   rcases m2 a hb with h|h
   ·exact n3 a ha a h rfl
   ·exact hs a h (Bc _ ha)
  ·rcases Bb.1 hb with hb|hb
   ·exact .inl (Bc _ hb)
   ·exact (m2 b hb).imp (Bt _) id
theorem xj (hT:Dz P T) {st:St} {a:Act} (h:Bl X π st a w) {t:TypeId} {e:Ty} (ht:T.ty t=some e) {l j:Nat} {r:Real} {vx:Value} {tid:TypeId} {fr Wb:Bool} {xs:List e.den} {x:e.den}
  (hp:π l=some r) (hl:Au st.heap l=some (.arr fr true e tid xs)) (hj:j<xs.length) (hx:Cs w (Da X.w0.heap.size X.Sc π Wb) e vx x) {F:List Nat} {us:List Value} (hF:Cg w F e us x) (ZW:vx=Ci e us) (nw:gV X w π F):
  ∃w',(Instr.storeAt t (.pointer (some ⟨r.g,(r.o+j)*e.size,none⟩)) vx).run P w= .ok () w'/\Bl X (Wy π l (some (r.plus F))) (st.Ju l (.arr (fr&&Wb) true e tid (xs.set j x))) a w':=by
 have hb:=(h.1.heap l).Qi hl
 simp only [Cj,Jw,hp] at hb
 obtain ⟨h1,cur,ti,h2,h3,h4,h5,h6,h7⟩:=hb
 obtain ⟨Fs,t1,t2,t3,t4⟩:=h7 trivial
 obtain ⟨es,gR,hv⟩:=hx
 have l7:=Cells.len e es x gR
 have Ati:us=es:=by
  have c1:=Ks e us x (Cg.cells (S:= λ_=>False) F e us x hF λ_ _ h=>h)
  have c2:=Ks e es x gR
  rw [<-ZW,hv,c2] at c1
  simpa using c1.symm
 subst Ati
 have Xy:(r.o+j)*e.size+us.length<=cur.size:=by
  have:(r.o+j+1)*e.size<=(r.o+r.cap)*e.size:=Em _ (by omega)
  rw [Dc (r.o+j) 1,Sf] at this
  omega
 have Zp:(r.o+j)*e.size+us.length<=cur.toList.length:=by simpa using Xy
 have Vr:=Wm (P:=P) (w:=w) (hT.ty _ _ ht) r.g ((r.o+j)*e.size) vx us (by rw [hv];exact Ks e us x gR) l7 (Cells.plain e us x gR) cur ti h2 Xy
 have Pw:r.cl r.g:=h.1.sub l r _ hp h1.1
 have hng: ∀b∈F,b≠r.g:= λb hb e=>(nw.2 b hb).2.2 l r hp (e▸Pw)
 have RR:=ll Fs j F (Cb.1 t2).2 nw.1 λb hb hm=>(nw.2 b hb).2.2 l r hp (t3 b hm)
 refine ⟨_,by simp only [Instr.storeAt,Instr.sureAddr];simpa using Vr,?_⟩
 refine h.Au7 hl (b:= .arr (fr&&Wb) true e tid (xs.set j x)) ⟨rfl,by simp⟩ hp (λc hc=>⟨(nw.2 c hc).1,(nw.2 c hc).2.1,λm r0 _=>(nw.2 c hc).2.2 m r0⟩) (Nn w r.g _) λm=>?_
 simp only [Cj,Jw]
 have cell: ∀(i:Nat) (oN:List Value),i≠j->oN.length=e.size->(∀k u,oN[k]?=some u->cur[(r.o+i)*e.size+k]?=some u)-> ∀k u,oN[k]?=some u->(Dv cur.toList ((r.o+j)*e.size) us).toArray[(r.o+i)*e.size+k]?=some u:=by
  intro i oN iK he' tV k u hu
  have hk:k<oN.length:=(An.1 hu).1
  have:=tV k u hu
  rw [Ie,Ic _ _ _ _ Zp]
  rcases ia (o:=r.o) (i:=i) (j:=j) (s:=e.size) (p:=k) iK (by omega) with It|oP
  ·rw [Ab It];simpa using this
  ·rw [Ag (by omega),Ag (by omega)];simpa using this
 have Afx: ∀k u,us[k]?=some u->(Dv cur.toList ((r.o+j)*e.size) us).toArray[(r.o+j)*e.size+k]?=some u:=by
  intro k u hu
  have hk:k<us.length:=(An.1 hu).1
  rw [Ie,Ic _ _ _ _ Zp,Ag (by omega),Ab (by omega)]
  rw [show (r.o+j)*e.size+k-(r.o+j)*e.size=k by omega];exact hu
 refine ⟨⟨h1.1,h1.2.1,λhf=>h1.2.2 (by simp only [Af] at hf;exact hf.1)⟩,_,_,setRow_heap w r.g cur _ ti _ h2,by rw [Gr,Iv _ _ _ Zp,Xk];exact h3,h4,by rw [Bi];exact h5,λi y hy=>?_,λ_=>?_⟩
 ·rw [Fe] at hy
  split at hy
  ·rename_i wu;subst wu
   simp only [Aa] at hy;subst hy
   exact ⟨us,l7,Afx,(m.cells Wb e us x gR).and_right⟩
  ·rename_i wu
   obtain ⟨oN,he',tV,FF⟩:=h6 i y hy
   exact ⟨oN,he',cell i oN (Ge wu) he' tV,(m.cells fr e oN y FF).and_left⟩
 ·refine ⟨Fs.set j F,by simp [t1],Cb.2 ⟨λhm=>?_,RR.1⟩,λb hb=>?_,λi y G hy hG=>?_⟩
  ·rcases RR.2 _ hm with h8|h8
   ·exact (Cb.1 t2).1 h8
   ·exact hng _ h8 rfl
  ·exact (RR.2 b hb).imp (t3 b) id
  ·rw [Fe] at hy hG
   split at hy
   ·rename_i wu;subst wu
    rw [Ab rfl] at hG
    rw [Ab (by omega)] at hG
    simp only [Aa] at hy hG;subst hy;subst hG
    exact ⟨us,l7,Afx,hF.Ez _ _ _ _ (by simp) λb hb=>setRow_other w r.g b _ (hng b hb)⟩
   ·rename_i wu
    rw [Ag wu] at hG
    obtain ⟨oN,he',tV,FF⟩:=t4 i y G hy hG
    exact ⟨oN,he',cell i oN (Ge wu) he' tV,FF.Ez _ _ _ _ (by simp) λb hb=>setRow_other w r.g b _ λe=>(Cb.1 t2).1 (Fg.2 ⟨G,Bq hG,e▸hb⟩)⟩
theorem rH (hT:Dz P T) {st:St} {a:Act} (h:Bl X π st a w) (t:TypeId) (p x:AV) (vp vx:Value) (hp:Bu X w π st.heap p vp) (hx:Bu X w π st.heap x vx) (st':St)
  (he:Va T st t p x=some st'): ∃w' π',(Instr.storeAt t vp vx).run P w= .ok () w'/\Bl X π' st' a w':=by
 unfold Va at he
 split at he
 ·rename_i τ l i ht
  split at he
  ·rename_i tid vs cs hl hc
   split at he
   ·rename_i hle
    simp only [Aa] at he
    obtain ⟨w',h1,h2⟩:=CC hT h ht hp hx hl hc hle
    split at he
    ·rename_i Jn
     simp only [Af,Nd] at Jn
     subst he
     obtain ⟨XJ,h3⟩:=fp (T:=T) l i t τ cs.length 0 _ π (by omega) h2
     exact ⟨w',XJ,h1,h3⟩
    ·subst he
     exact ⟨w',π,h1,h2⟩
   ·cases he
  ·cases he
 ·rename_i τ l j ht
  split at he
  ·rename_i x' st1 hs
   obtain ⟨cj,h1,h2,h3,h4,h5⟩:=c8 h hx hs
   split at he
   ·rename_i fr tr e tid xs Wb y hl hv
    split at he
    ·rename_i lb;subst lb
     split at he
     ·rename_i hj
      simp only [Aa] at he;subst he
      obtain ⟨r,b,sz,n,g1,g0,g2,g3,rfl⟩:=hp
      obtain ⟨k1,b',f,k2,k3⟩:=h4 l _ hl
      rw [g1] at k2;cases k2
      have g4:=Mc OB.row k3
      rw [show (OB.map f b).row=b.row by cases b<;>rfl,g0] at g4
      simp only [OB.row,Aa,Ad] at g4
      obtain ⟨rfl,rfl⟩:=g4
      cases nC:(tr&&(Tl st x&&τ.tree)) with
      |false=>
       obtain ⟨w',q1,q2⟩:=CA hT h1 ht (k1.trans g3) hl hj (Pa _ x' vx Wb y h3 h2 hv)
       exact ⟨w',cj,q1,q2⟩
      |true=>
       simp only [Af] at nC
       obtain ⟨rfl,htv,lb⟩:=nC
       obtain ⟨F,us,f1,f2,f3,_⟩:=h5 htv τ Wb y lb hv
       obtain ⟨w',q1,q2⟩:=xj hT h1 ht (k1.trans g3) hl hj (Pa _ x' vx Wb y h3 h2 hv) f1 f2 f3
       exact ⟨w',_,q1,q2⟩
     ·cases he
    ·cases he
   ·cases he
  ·cases he
 ·cases he
theorem vd {S:Nat->Prop} {e:Ty} {v:Value} {ys:List e.den} (h:Cells w S (.slice e) [v] ys):
  ∃ad c,v= .slice ad ys.length c/\(ys= []\/ ∃g o,ad=some ⟨g,o,none⟩/\ ∃news:List Value,news.length=ys.length*e.size/\(∀j u,news[j]?=some u->w.cell? ⟨g,o+j,none⟩=some u)/\(∀u∈news,u.oneCell'=true)/\(∀j u,j<ys.length*e.size->w.cell? ⟨g,o+j,none⟩=some u->news[j]?=some u)/\
   ∀(i:Nat) (y:e.den),ys[i]?=some y-> ∃es:List Value,es.length=e.size/\(∀j u,es[j]?=some u->news[i*e.size+j]?=some u)/\Cells w S e es y):=by
 simp only [Cells] at h
 obtain ⟨ad,len,cap,hv,hl,tR,MF⟩:=h
 simp only [Gb,Oi] at hv
 subst hl
 refine ⟨ad,cap,hv,?_⟩
 rcases MF with h0|⟨g,o,rfl,hg,hn,Ke⟩
 ·exact .inl h0
 ·right
  refine ⟨g,o,rfl,(List.range (ys.length*e.size)).map λj=>(w.cell? ⟨g,o+j,none⟩).getD undef,by simp,?_⟩
  have key: ∀k,k<ys.length*e.size-> ∃u,w.cell? ⟨g,o+k,none⟩=some u/\u.oneCell'=true:=by
   intro k hk
   have hs:0<e.size:=by
    rcases aD e.size with h|h
    ·rw [h] at hk;simp at hk
    ·exact h
   have hi:k/e.size<ys.length:=(Nat.div_lt_iff_lt_mul hs).2 hk
   obtain ⟨es,gR,hc,bN⟩:=Ke (k/e.size) _ (Ac hi)
   have hm:k%e.size<es.length:=by rw [gR];exact Nat.mod_lt _ hs
   have:=hc (k%e.size) _ (Ac hm)
   rw [Gm,show k/e.size*e.size+k%e.size=k by rw [Nat.mul_comm];exact Nat.div_add_mod k e.size] at this
   exact ⟨_,this,Cells.plain e es _ bN _ (Aj hm)⟩
  refine ⟨λj u hu=>?_,λu hu=>?_,λj u hj hu=>by rw [Fc,fT hj];simp [hu],λi y hy=>?_⟩
  ·rw [Fc] at hu
   have hj:j<ys.length*e.size:=by
    by_cases hj:j<ys.length*e.size
    ·exact hj
    ·rw [Fw (by simpa using hj)] at hu;cases hu
   rw [fT hj] at hu
   obtain ⟨u',eX,_⟩:=key j hj
   simp only [Am,eX,Bx,Aa] at hu
   rw [eX,hu]
  ·obtain ⟨j,hj,rfl⟩:=Bj.1 hu
   obtain ⟨u',eX,h1⟩:=key j (Gg.1 hj)
   rw [eX];exact h1
  ·obtain ⟨es,gR,hc,bN⟩:=Ke i y hy
   refine ⟨es,gR,λj u hu=>?_,bN⟩
   have hi:=(An.1 hy).1
   have hj:=(An.1 hu).1
   have It:i*e.size+j<ys.length*e.size:=by
    have:(i+1)*e.size<=ys.length*e.size:=Em _ (by omega)
    rw [Dc,Sf] at this
    omega
   rw [Fc,fT It]
   have:=hc j u hu
   rw [Gm] at this
   simp [this]
end
end Go.Proofs.YtfolipnappekaaaGreat
