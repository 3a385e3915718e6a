/-
  Part 11 of the proof that the statement FnSymmetries holds.
-/
import Derived.Test.YtkkdpknjohcekaaCFSymmetries09
namespace Go.Proofs.Ytkkdpknjohcekaa
open Go.RowKit
section
variable {P:Program} {T:Tab} {X:Ctx} {w w':World} {π:Pi} {H:List (Nat×OB)}
theorem OB.map_map (f g:AC->AC) (b:OB):OB.map g (OB.map f b)=OB.map (λc=>g (f c)) b:=by
 cases b with
 |var t vs=>simp [OB.map,Function.comp_def]
 |_=>rfl
theorem OB.z8 (b:OB):OB.map (λc=>c) b=b:=by
 cases b with
 |var t vs=>simp [OB.map]
 |_=>rfl
def Km (π π':Pi) (H H':List (Nat×OB)):Prop:= ∀l b',As H' l=some b'->π' l=π l/\ ∃b f,As H l=some b/\b'=OB.map f b
theorem Km.refl (π:Pi) (H:List (Nat×OB)):Km π π H H:= λ_ b h=>⟨rfl,b,λc=>c,h,(OB.z8 b).symm⟩
theorem Km.trans {aV MG π3:Pi} {H1 H2 H3:List (Nat×OB)} (h:Km aV MG H1 H2) (h':Km MG π3 H2 H3):Km aV π3 H1 H3:= λl b hb=>by
 obtain ⟨e1,b1,f1,h1,rfl⟩:=h' l b hb
 obtain ⟨e2,b2,f2,h2,rfl⟩:=h l b1 h1
 exact ⟨e1.trans e2,b2,_,h2,OB.map_map f2 f1 b2⟩
theorem Km.freeze (st:St) (l:Nat) (fr:Bool) (e:Ty) (xs:List e.den):Km π (Vr π l none) st.heap (st.freeze l fr e xs).heap:= λk b hb=>by
 by_cases hk:k=l
 ·subst hk;rw [St.Lx] at hb;cases hb
 ·rw [St.Qx st l k fr e xs hk] at hb
  cases h0:As st.heap k with
  |none=>rw [h0] at hb;cases hb
  |some b0=>
   rw [h0] at hb
   simp only [Ah,Aa] at hb
   exact ⟨Fo π none hk,b0,_,rfl,hb.symm⟩
theorem Km.Hy (st:St) (l:Nat) (v:Ty) (m:ByteArray->Option v.den):Km π (Vr π l none) st.heap (st.Hy l v m).heap:= λk b hb=>by
 by_cases hk:k=l
 ·subst hk;rw [St.Rz] at hb;cases hb
 ·rw [St.Qi st l k v m hk] at hb
  cases h0:As st.heap k with
  |none=>rw [h0] at hb;cases hb
  |some b0=>
   rw [h0] at hb
   simp only [Ah,Aa] at hb
   exact ⟨Fo π none hk,b0,_,rfl,hb.symm⟩
theorem Km.gone {π':Pi} {H':List (Nat×OB)} (k:Km π π' H H') {l:Nat} (h:As H l=none):As H' l=none:=by
 cases hb:As H' l with
 |none=>rfl
 |some b=>
  obtain ⟨_,b0,f,h1,_⟩:=k l b hb
  rw [h] at h1;cases h1
def Dl (st:St):AC->AC
 | .own l off len=>match st.at l with
  |some (.arr fr _ e _ xs)=> .data fr (.slice e) ((xs.drop off).take len)
  |some (.Gg e _ xs)=> .data false (.slice e) ((xs.drop off).take len)
  |_=> .own l off len
 | .Ka l=>match st.at l with
  |some (.Ul v m)=> .data false (.smap v) m
  |_=> .Ka l
 |c=>c
theorem Se {st:St} {c:AC} (h:c.settled=true):Dl st c=c:=by
 cases c<;>simp [AC.settled] at h<;>rfl
theorem sx {st st':St} {f:AC->AC} {l:Nat} (hH: ∀m,m≠l->As st'.heap m=(As st.heap m).map (OB.map f)) {c:AC} (hc: ∀k∈c.refs,k≠l):Dl st' c=Dl st c:=by
 cases c with
 |own k off len=>
  have hk:k≠l:=hc k (by simp [AC.refs])
  simp only [Dl,St.at,hH k hk]
  cases As st.heap k with
  |none=>rfl
  |some b=>cases b<;>rfl
 |Ka k=>
  have hk:k≠l:=hc k (by simp [AC.refs])
  simp only [Dl,St.at,hH k hk]
  cases As st.heap k with
  |none=>rfl
  |some b=>cases b<;>rfl
 |_=>rfl
theorem eI {a:Act} : ∀(n:Nat) (st:St) (π:Pi) (cs:List AC) (us:List Value) (fD:List AC) (st':St),Bb X π st a w->Fc X w π st.heap cs us->
  Gz n st cs=some (fD,st')-> ∃π',Bb X π' st' a w/\Fc X w π' st'.heap fD us/\fD.all (·.settled)=true/\Km π π' st.heap st'.heap/\fD=cs.map (Dl st)/\
   (∀k,k∈cs.flatMap AC.refs->As st'.heap k=none)
 |0,st,π,cs,us,fD,st',h,hr,he=>by
  simp only [Gz] at he
  split at he
  ·rename_i hs
   simp only [Aa,Ad] at he
   obtain ⟨rfl,rfl⟩:=he
   have OW:=Ax.1 hs
   exact ⟨π,h,hr,hs,Km.refl _ _,((Hq λc hc=>Se (OW c hc)).trans (List.map_id'' (λ_=>rfl) cs)).symm,λk hk=>by
    obtain ⟨c,hc,xG⟩:=Kh.1 hk
    have:=OW c hc
    cases c<;>simp [AC.settled] at this<;>simp [AC.refs] at xG⟩
  ·cases he
 |n+1,st,π,cs,us,fD,st',h,hr,he=>by
  simp only [Gz] at he
  have step: ∀(f:AC->AC) (l:Nat) (st1:St),Bb X (Vr π l none) st1 a w->Move X w w π (Vr π l none) st.heap st1.heap f->As st1.heap l=none->(∀m,m≠l->As st1.heap m=(As st.heap m).map (OB.map f))->
    Km π (Vr π l none) st.heap st1.heap->(∀c∈cs,(∀k∈c.refs,k≠l)->f c=c)->(∀c∈cs,l∈c.refs->(f c).refs= []/\(Dl st1 (f c)).settled=true->f c=Dl st c)->
    (∀c∈cs,l∈c.refs->(f c).refs= [])->Gz n st1 (cs.map f)=some (fD,st')->
    ∃π',Bb X π' st' a w/\Fc X w π' st'.heap fD us/\fD.all (·.settled)=true/\Km π π' st.heap st'.heap/\fD=cs.map (Dl st)/\(∀k,k∈cs.flatMap AC.refs->As st'.heap k=none):=by
   intro f l st1 h1 m hl hH hK hf0 hf1 ZB he
   obtain ⟨π',h2,h3,h4,h5,h6,h7⟩:=eI n st1 _ (cs.map f) us fD st' h1 (m.SW hr) he
   refine ⟨π',h2,h3,h4,hK.trans h5,?_,λk hk=>?_⟩
   ·rw [h6,List.map_map]
    refine Hq λc hc=>?_
    simp only [Function.comp]
    by_cases Pz:l∈c.refs
    ·have Kp:=Ax.1 h4
     have pY:Dl st1 (f c)∈fD:=by rw [h6];exact Bo.2 ⟨f c,Bo.2 ⟨c,hc,rfl⟩,rfl⟩
     have hs:=Kp _ pY
     have h8:=hf1 c hc Pz ⟨ZB c hc Pz,hs⟩
     have h9:Dl st1 (f c)=f c:=by
      have:=ZB c hc Pz
      cases hfc:f c<;>rw [hfc] at this<;>first|(simp [AC.refs] at this;done)|rfl
     rw [h9,h8]
    ·have Is: ∀k∈c.refs,k≠l:= λk hk e=>Pz (e▸hk)
     rw [hf0 c hc Is]
     exact sx hH Is
   ·obtain ⟨c,hc,xG⟩:=Kh.1 hk
    by_cases Rl:k=l
    ·subst Rl;exact h5.gone hl
    ·by_cases Pz:l∈c.refs
     ·
      have Kp:=Ax.1 h4
      have pY:Dl st1 (f c)∈fD:=by rw [h6];exact Bo.2 ⟨f c,Bo.2 ⟨c,hc,rfl⟩,rfl⟩
      have hs:=Kp _ pY
      have h8:=hf1 c hc Pz ⟨ZB c hc Pz,hs⟩
      have h9:Dl st1 (f c)=f c:=by
       have:=ZB c hc Pz
       cases hfc:f c<;>rw [hfc] at this<;>first|(simp [AC.refs] at this;done)|rfl
      rw [h9,h8] at hs
      cases c with
      |clo g Eb=>simp [Dl,AC.settled] at hs
      |own k' _ _=>simp [AC.refs] at Pz xG;exact absurd (xG.trans Pz.symm) Rl
      |Ka k'=>simp [AC.refs] at Pz xG;exact absurd (xG.trans Pz.symm) Rl
      |Gr k' _=>simp [AC.refs] at Pz xG;exact absurd (xG.trans Pz.symm) Rl
      |Jp k' _=>simp [AC.refs] at Pz xG;exact absurd (xG.trans Pz.symm) Rl
      |sub k' _ _=>simp [AC.refs] at Pz xG;exact absurd (xG.trans Pz.symm) Rl
      |Jn k' _ _=>simp [AC.refs] at Pz xG;exact absurd (xG.trans Pz.symm) Rl
      |_=>simp [AC.refs] at xG
     ·have Is: ∀k∈c.refs,k≠l:= λk hk e=>Pz (e▸hk)
      exact h7 k (Kh.2 ⟨f c,Bo.2 ⟨c,hc,rfl⟩,by rw [hf0 c hc Is];exact xG⟩)
  have xI: ∀(st1:St) (c:AC),(Dl st1 c).settled=true->c≠ .undef:= λst1 c hs e=>by rw [e] at hs;simp [Dl,AC.settled] at hs
  split at he
  ·rename_i hf
   simp only [Aa,Ad] at he
   obtain ⟨rfl,rfl⟩:=he
   have OW: ∀c∈cs,c.settled=true:= λc hc=>by have:=List.find?_eq_none.1 hf c hc;simpa using this
   exact ⟨π,h,hr,Ax.2 OW,Km.refl _ _,((Hq λc hc=>Se (OW c hc)).trans (List.map_id'' (λ_=>rfl) cs)).symm,λk hk=>by
    obtain ⟨c,hc,xG⟩:=Kh.1 hk
    have:=OW c hc
    cases c<;>simp [AC.settled] at this<;>simp [AC.refs] at xG⟩
  ·rename_i l off len hf
   split at he
   ·rename_i fr tr e tid xs hl
    unfold St.at at hl
    obtain ⟨h1,m⟩:=h.freeze (fr:=fr) (.inl ⟨tr,tid,hl⟩)
    refine step _ l _ h1 m (St.Lx st l fr e xs) (λm hm=>St.Qx st l m fr e xs hm) (Km.freeze st l fr e xs) (λc _ hc=>fQ hc) (λc _ Pz hs=>?_) (λc _ Pz=>?_) he
    ·cases c with
     |own k o n=>have:k=l:=(Ae.1 Pz).symm
                 subst this;simp only [Cq,Ab,Dl,St.at,hl]
     |Gr k o=>have:k=l:=(Ae.1 Pz).symm
              subst this;simp only [Cq,Ab] at hs;exact absurd rfl (xI _ _ hs.2)
     |Jp k o=>have:k=l:=(Ae.1 Pz).symm
              subst this;simp only [Cq,Ab] at hs;exact absurd rfl (xI _ _ hs.2)
     |sub k o o2=>have:k=l:=(Ae.1 Pz).symm
                  subst this;simp only [Cq,Ab] at hs;exact absurd rfl (xI _ _ hs.2)
     |Jn k o o2=>have:k=l:=(Ae.1 Pz).symm
                 subst this;simp only [Cq,Ab] at hs;exact absurd rfl (xI _ _ hs.2)
     |Ka k=>have:k=l:=(Ae.1 Pz).symm
            subst this;simp only [Cq,Ab] at hs;exact absurd rfl (xI _ _ hs.2)
     |clo g Eb=>
      simp only [Cq] at hs
      rw [Ab (by simpa [AC.refs] using Pz)] at hs
      exact absurd rfl (xI _ _ hs.2)
     |_=>simp [AC.refs] at Pz
    ·cases c with
     |own k o n=>have:k=l:=(Ae.1 Pz).symm
                 subst this;simp only [Cq,Ab];rfl
     |Gr k o=>have:k=l:=(Ae.1 Pz).symm
              subst this;simp only [Cq,Ab];rfl
     |Jp k o=>have:k=l:=(Ae.1 Pz).symm
              subst this;simp only [Cq,Ab];rfl
     |sub k o o2=>have:k=l:=(Ae.1 Pz).symm
                  subst this;simp only [Cq,Ab];rfl
     |Jn k o o2=>have:k=l:=(Ae.1 Pz).symm
                 subst this;simp only [Cq,Ab];rfl
     |Ka k=>have:k=l:=(Ae.1 Pz).symm
            subst this;simp only [Cq,Ab];rfl
     |clo g Eb=>simp only [Cq];rw [Ab (by simpa [AC.refs] using Pz)];rfl
     |_=>simp [AC.refs] at Pz
   ·rename_i e tid xs hl
    unfold St.at at hl
    obtain ⟨h1,m⟩:=h.freeze (fr:=false) (.inr ⟨rfl,tid,hl⟩)
    refine step _ l _ h1 m (St.Lx st l false e xs) (λm hm=>St.Qx st l m false e xs hm) (Km.freeze st l false e xs) (λc _ hc=>fQ hc) (λc _ Pz hs=>?_) (λc _ Pz=>?_) he
    ·cases c with
     |own k o n=>have:k=l:=(Ae.1 Pz).symm
                 subst this;simp only [Cq,Ab,Dl,St.at,hl]
     |Gr k o=>have:k=l:=(Ae.1 Pz).symm
              subst this;simp only [Cq,Ab] at hs;exact absurd rfl (xI _ _ hs.2)
     |Jp k o=>have:k=l:=(Ae.1 Pz).symm
              subst this;simp only [Cq,Ab] at hs;exact absurd rfl (xI _ _ hs.2)
     |sub k o o2=>have:k=l:=(Ae.1 Pz).symm
                  subst this;simp only [Cq,Ab] at hs;exact absurd rfl (xI _ _ hs.2)
     |Jn k o o2=>have:k=l:=(Ae.1 Pz).symm
                 subst this;simp only [Cq,Ab] at hs;exact absurd rfl (xI _ _ hs.2)
     |Ka k=>have:k=l:=(Ae.1 Pz).symm
            subst this;simp only [Cq,Ab] at hs;exact absurd rfl (xI _ _ hs.2)
     |clo g Eb=>
      simp only [Cq] at hs
      rw [Ab (by simpa [AC.refs] using Pz)] at hs
      exact absurd rfl (xI _ _ hs.2)
     |_=>simp [AC.refs] at Pz
    ·cases c with
     |own k o n=>have:k=l:=(Ae.1 Pz).symm
                 subst this;simp only [Cq,Ab];rfl
     |Gr k o=>have:k=l:=(Ae.1 Pz).symm
              subst this;simp only [Cq,Ab];rfl
     |Jp k o=>have:k=l:=(Ae.1 Pz).symm
              subst this;simp only [Cq,Ab];rfl
     |sub k o o2=>have:k=l:=(Ae.1 Pz).symm
                  subst this;simp only [Cq,Ab];rfl
     |Jn k o o2=>have:k=l:=(Ae.1 Pz).symm
                 subst this;simp only [Cq,Ab];rfl
     |Ka k=>have:k=l:=(Ae.1 Pz).symm
            subst this;simp only [Cq,Ab];rfl
     |clo g Eb=>simp only [Cq];rw [Ab (by simpa [AC.refs] using Pz)];rfl
     |_=>simp [AC.refs] at Pz
   ·cases he
  ·rename_i l hf
   split at he
   ·rename_i v mm hl
    unfold St.at at hl
    obtain ⟨h1,m⟩:=h.Hy hl
    refine step _ l _ h1 m (St.Rz st l v mm) (λm hm=>St.Qi st l m v mm hm) (Km.Hy st l v mm) (λc _ hc=>pN hc) (λc _ Pz hs=>?_) (λc _ Pz=>?_) he
    ·cases c with
     |Ka k=>have:k=l:=(Ae.1 Pz).symm
            subst this;simp only [Gm,Ab,Dl,St.at,hl]
     |Gr k o=>have:k=l:=(Ae.1 Pz).symm
              subst this;simp only [Gm,Ab] at hs;exact absurd rfl (xI _ _ hs.2)
     |Jp k o=>have:k=l:=(Ae.1 Pz).symm
              subst this;simp only [Gm,Ab] at hs;exact absurd rfl (xI _ _ hs.2)
     |sub k o o2=>have:k=l:=(Ae.1 Pz).symm
                  subst this;simp only [Gm,Ab] at hs;exact absurd rfl (xI _ _ hs.2)
     |Jn k o o2=>have:k=l:=(Ae.1 Pz).symm
                 subst this;simp only [Gm,Ab] at hs;exact absurd rfl (xI _ _ hs.2)
     |own k o n=>have:k=l:=(Ae.1 Pz).symm
                 subst this;simp only [Gm,Ab] at hs;exact absurd rfl (xI _ _ hs.2)
     |clo g Eb=>
      simp only [Gm] at hs
      rw [Ab (by simpa [AC.refs] using Pz)] at hs
      exact absurd rfl (xI _ _ hs.2)
     |_=>simp [AC.refs] at Pz
    ·cases c with
     |own k o n=>have:k=l:=(Ae.1 Pz).symm
                 subst this;simp only [Gm,Ab];rfl
     |Gr k o=>have:k=l:=(Ae.1 Pz).symm
              subst this;simp only [Gm,Ab];rfl
     |Jp k o=>have:k=l:=(Ae.1 Pz).symm
              subst this;simp only [Gm,Ab];rfl
     |sub k o o2=>have:k=l:=(Ae.1 Pz).symm
                  subst this;simp only [Gm,Ab];rfl
     |Jn k o o2=>have:k=l:=(Ae.1 Pz).symm
                 subst this;simp only [Gm,Ab];rfl
     |Ka k=>have:k=l:=(Ae.1 Pz).symm
            subst this;simp only [Gm,Ab];rfl
     |clo g Eb=>simp only [Gm];rw [Ab (by simpa [AC.refs] using Pz)];rfl
     |_=>simp [AC.refs] at Pz
   ·cases he
  ·cases he
def fc (X:Ctx) (w:World) (π:Pi) (F:List Nat):Prop:=F.Nodup/\ ∀b∈F,(X.w0.heap.size<=b\/X.gv b)/\b<w.heap.size/\ ∀l r,π l=some r-> ¬r.cl b
theorem Wo {S:Nat->Prop} : ∀(e:Ty) (es:List Value) (x:e.den),e.flat=true->Cells w S e es x->Cp w [] e es x
 | .int k,cs,n,_,h=>⟨rfl,h⟩
 | .bool,cs,n,_,h=>⟨rfl,h⟩
 | .str,cs,n,_,h=>⟨rfl,h⟩
 | .unit,cs,n,_,h=>⟨rfl,h⟩
 | .pair a r,cs,x,hf,h=>by
  simp only [Ty.flat,Ag] at hf
  simp only [Cells] at h
  simp only [Cp]
  obtain ⟨c1,c2,h1,h2,h3⟩:=h
  exact ⟨c1,c2,[],[],h1,rfl,Wo a c1 x.1 hf.1 h2,Wo r c2 x.2 hf.2 h3⟩
 | .slice _,_,_,hf,_=>by simp [Ty.flat] at hf
 | .oslice _,_,_,hf,_=>by simp [Ty.flat] at hf
 | .ptr _,_,_,hf,_=>by simp [Ty.flat] at hf
 | .optr _,_,_,hf,_=>by simp [Ty.flat] at hf
 | .smap _,_,_,hf,_=>by simp [Ty.flat] at hf
 | .clo _ _,_,_,hf,_=>by simp [Ty.flat] at hf
theorem Rk {Fs:List (List Nat)} (off len:Nat) (b:Nat) (h:b∈List.flatten ((Fs.drop off).take len)):b∈List.flatten Fs:=by
 obtain ⟨F,hF,hb⟩:=Gx.1 h
 exact Gx.2 ⟨F,bZ (Ma hF),hb⟩
theorem eL {α:Type} {a b:List (List α)} (h:a.Sublist b):(List.flatten a).Sublist (List.flatten b):=by
 induction h with
 |slnil=>exact List.Sublist.refl _
 |cons c _ ih=>simp only [Kv];exact ih.trans (List.sublist_append_right _ _)
 |cons_cons c _ ih=>simp only [Kv];exact List.Sublist.append (List.Sublist.refl _) ih
theorem jS {Fs:List (List Nat)} (off len:Nat) (h:(List.flatten Fs).Nodup):(List.flatten ((Fs.drop off).take len)).Nodup:=by
 have h1:((Fs.drop off).take len).Sublist Fs:=(List.take_sublist len _).trans (List.drop_sublist off Fs)
 exact h.sublist (eL h1)
theorem im {P:Nat->Prop} {r:Real} {off len:Nat} {v:Value} {e:Ty} {tid:TypeId} {xs:List e.den} {cur:Array Value} (h2:w.heap[r.g]?=some (.cells cur tid (0,0))) (Yz:cur.size=(r.o+r.cap)*e.size) (pT:r.cap<=maxLen)
  (hlen:off+len<=xs.length) (hv:Hf (some r) e.size off len v) (ht:Wd w P r.g r.o cur e xs) (hg:P r.g):
  ∃F,Cp w F (.slice e) [v] ((xs.drop off).take len)/\F.Nodup/\ ∀b∈F,P b:=by
 have IS:((xs.drop off).take len).length=len:=by simp;omega
 obtain ⟨ad,rfl,hc,ha⟩:=hv
 obtain ⟨Fs,t1,t2,t3,t4⟩:=ht
 ·refine ⟨r.g::List.flatten ((Fs.drop off).take len),⟨some ad,len,r.cap-off,rfl,IS.symm,by omega, .inr ⟨ad,r.g,(r.o+off)*e.size,_,rfl,λh0=>ha (by omega),⟨cur,tid,r.o+off,h2,rfl,by rw [Yz];congr 1;omega,by omega⟩,rfl,by simp;omega,λi x F hx hF=>?_⟩⟩,?_,λb hb=>?_⟩
  ·have hi:i<len:=by
    have:=(Aj.1 hx).1
    rw [IS] at this;exact this
   have hx':xs[off+i]?=some x:=by rw [Cn,Ab hi,Ci] at hx;exact hx
   have hF':Fs[off+i]?=some F:=by rw [Cn,Ab hi,Ci] at hF;exact hF
   obtain ⟨es,he,hj,rI⟩:=t4 (off+i) x F hx' hF'
   refine ⟨es,he,λj u hu=>?_,rI⟩
   rw [cellOf h2]
   have:=hj j u hu
   rw [<-this]
   congr 1
   rw [<-Fy,Cw (r.o+off) i]
  ·have:=Cf.1 t2
   exact Cf.2 ⟨λhm=>this.1 (Rk off len _ hm),jS off len this.2⟩
  ·rcases Ba.1 hb with rfl|hb
   ·exact hg
   ·exact t3 b (Rk off len b hb)
theorem lY {st:St} (h:Mm X w π st.heap) {c:AC} {v:Value} (hc:Gy X w π st.heap c v) (ht:Rf st c=true) (τ:Ty) (fr:Bool) (x:τ.den) (Sq:τ.Ap=false) (IT:τ.tree=true)
  (hv:Dm st τ (Dl st c)=some (fr,x)): ∃F,Cp w F τ [v] x/\F.Nodup/\ ∀b∈F,∃l r,l∈c.refs/\π l=some r/\r.cl b:=by
 cases c with
 |data Uz Nr y=>
  simp only [Rf] at ht
  simp only [Dl,Ng] at hv
  split at hv
  ·rename_i he;subst he
   simp only [Aa,Ad] at hv
   obtain ⟨_,rfl⟩:=hv
   exact ⟨[],Wo Nr _ _ ht (Cz.Rc Sq hc),Mr,λb hb=>by cases hb⟩
  ·unfold fC at hv
   split at hv
   ·simp [Ty.flat] at ht
   ·simp [Ty.flat] at ht
   ·cases hv
 |Lo=>
  have hc:v= .slice none 0 0:=hc
  subst hc
  cases τ with
  |slice e=>
   simp only [Dl,Dm,Aa,Ad] at hv
   obtain ⟨_,rfl⟩:=hv
   exact ⟨[],⟨none,0,0,rfl,rfl,Ar _, .inl ⟨rfl,rfl,rfl,rfl⟩⟩,Mr,λb hb=>by cases hb⟩
  |oslice e=>simp [Ty.tree] at IT
  |_=>simp [Dl,Dm] at hv
 |own l off len=>
  simp only [Rf] at ht
  split at ht
  ·rename_i Uz tr e tid xs hl
   have Nt:=hl
   unfold St.at at hl
   simp only [Dl,Nt,Ng] at hv
   split at hv
   ·rename_i he;subst he
    simp only [Aa,Ad] at hv
    obtain ⟨_,rfl⟩:=hv
    obtain ⟨h2,h3⟩:=Nx hc hl
    have hb:=(h.heap l).Qq hl
    simp only [By,Jo] at hb
    cases hp:π l with
    |none=>
     rw [hp] at h3
     obtain ⟨rfl,rfl,rfl⟩:=h3
     exact ⟨[],⟨none,0,0,rfl,by simp,Ar _, .inl ⟨by simp,rfl,rfl,rfl⟩⟩,Mr,λb hb=>by cases hb⟩
    |some r=>
     rw [hp] at hb h3
     obtain ⟨k1,cur,_,k2,k3,k4,k5,k6,k7⟩:=hb
     have GX:Wd w r.cl r.g r.o cur e xs:=by
      simp only [Lk] at ht
      rcases ht with ht|ht
      ·exact k7 ht
      ·refine ⟨List.replicate xs.length [],by simp,by simp,by simp,λi x F hx hF=>?_⟩
       obtain ⟨es,e1,e2,e3⟩:=k6 i x hx
       have:F= []:=by
        have:=Bz hF
        exact Ew this
       subst this
       exact ⟨es,e1,e2,Wo e es x ht e3⟩
     obtain ⟨F,f1,f2,f3⟩:=im k2 k3 k4 h2 h3 GX (h.sub l r _ hp k1.1)
     exact ⟨F,f1,f2,λb hb=>⟨l,r,by simp [AC.refs],hp,f3 b hb⟩⟩
   ·cases τ<;>simp [fC] at hv
  ·rename_i e tid xs hl
   have Nt:=hl
   unfold St.at at hl
   simp only [Dl,Nt,Ng] at hv
   split at hv
   ·rename_i he;subst he
    simp only [Aa,Ad] at hv
    obtain ⟨_,rfl⟩:=hv
    obtain ⟨h2,h3⟩:=aM hc hl
    have hb:=(h.heap l).Qq hl
    simp only [By,Nj] at hb
    cases hp:π l with
    |none=>
     rw [hp] at h3
     obtain ⟨rfl,rfl,rfl⟩:=h3
     exact ⟨[],⟨none,0,0,rfl,by simp,Ar _, .inl ⟨by simp,rfl,rfl,rfl⟩⟩,Mr,λb hb=>by cases hb⟩
    |some r=>
     rw [hp] at hb h3
     obtain ⟨k1,cur,_,k2,k3,k4,k5,k7⟩:=hb
     obtain ⟨F,f1,f2,f3⟩:=im k2 k3 k4 h2 h3 k7 k1
     exact ⟨F,f1,f2,λb hb=>⟨l,r,by simp [AC.refs],hp,h.sub l r b hp (f3 b hb)⟩⟩
   ·cases τ<;>simp [fC] at hv
  ·cases ht
 |_=>simp [Rf] at ht
theorem Wt: ∀ {l:List Nat},Yp l=true->l.Nodup
 | [],_=>Mr
 |a::r,h=>by
  simp only [Yp,Ag,Eg,List.contains_eq_mem,decide_eq_false_iff_not] at h
  exact Cf.2 ⟨h.1,Wt h.2⟩
theorem Zs {st st':St} {τ:Ty} {c:AC} (h:c.settled=true):Dm st' τ c=Dm st τ c:=by
 cases c<;>simp [AC.settled] at h<;>cases τ<;>rfl
theorem sL {st st':St} (h:Mm X w π st.heap): ∀(τ:Ty) (cs:List AC) (us:List Value) (fr:Bool) (x:τ.den),Fc X w π st.heap cs us->cs.all (Rf st)=true->(cs.flatMap AC.refs).Nodup->
  (cs.map (Dl st)).all (·.settled)=true->τ.tree=true->Eo st' τ (cs.map (Dl st))=some (fr,x)-> ∃F,Cp w F τ us x/\F.Nodup/\ ∀b∈F,∃l r,l∈cs.flatMap AC.refs/\π l=some r/\r.cl b:=by
 have one: ∀(τ:Ty) (cs:List AC) (us:List Value) (fr:Bool) (x:τ.den),τ.Ap=false->Fc X w π st.heap cs us->cs.all (Rf st)=true->
   (cs.map (Dl st)).all (·.settled)=true->τ.tree=true->Eo st' τ (cs.map (Dl st))=some (fr,x)-> ∃F,Cp w F τ us x/\F.Nodup/\ ∀b∈F,∃l r,l∈cs.flatMap AC.refs/\π l=some r/\r.cl b:=by
  intro τ cs us fr x Sq hr ht hs Uq hv
  rw [Sz Sq] at hv
  rcases cs with _|⟨c,_|⟨d,cs⟩⟩
  ·cases hv
  ·simp only [Bw,List.map_nil] at hv
   obtain ⟨u,hu,_,hc⟩:=hr.2 0 c rfl
   have hl:us.length=1:=hr.1
   obtain ⟨u',rfl⟩:=Dy.1 hl
   simp at hu;subst hu
   rw [Zs (st:=st) (by simpa using hs)] at hv
   obtain ⟨F,f1,f2,f3⟩:=lY h hc (by simpa using ht) τ fr x Sq Uq hv
   exact ⟨F,f1,f2,λb hb=>by obtain ⟨l,r,g1,g2⟩:=f3 b hb;exact ⟨l,r,by simpa using g1,g2⟩⟩
  ·cases hv
 intro τ
 induction τ with
 |unit=>
  intro cs us fr x hr ht hd hs Uq hv
  cases cs with
  |nil=>have:us= []:=Dd hr.1;subst this;exact ⟨[],⟨rfl,rfl⟩,Mr,λb hb=>by cases hb⟩
  |cons c cs=>simp [Eo] at hv
 |pair a r eZ eV=>
  intro cs us fr x hr ht hd hs Uq hv
  simp only [Ty.tree,Ag] at Uq
  simp only [Eo] at hv
  split at hv
  ·rename_i f1 y f2 z h1 h2
   simp only [Aa,Ad] at hv
   obtain ⟨rfl,rfl⟩:=hv
   have UQ:Fc X w π st.heap (cs.take a.size) (us.take a.size):=by have:=Yg hr 0 a.size;simpa using this
   have TG:Fc X w π st.heap (cs.drop a.size) (us.drop a.size):=
    ⟨by simp [hr.1],λi c hc=>by
     rw [Ci] at hc⊢
     exact hr.2 _ c hc⟩
   have Af4: ∀ {p:AC->Bool} {l:List AC} (n:Nat),l.all p=true->(l.take n).all p=true:= λn hl=>Ax.2 λc hc=>Ax.1 hl c (Ma hc)
   have Af5: ∀ {p:AC->Bool} {l:List AC} (n:Nat),l.all p=true->(l.drop n).all p=true:= λn hl=>Ax.2 λc hc=>Ax.1 hl c (bZ hc)
   have hdd:((cs.take a.size++cs.drop a.size).flatMap AC.refs).Nodup:=by rw [Gk];exact hd
   rw [List.flatMap_append] at hdd
   obtain ⟨d1,d2,d3⟩:=Dp.1 hdd
   rw [<-List.map_take] at h1
   rw [<-List.map_drop] at h2
   obtain ⟨F1,t1,n1,c1⟩:=eZ _ _ f1 y UQ (Af4 _ ht) d1 (by rw [List.map_take];exact Af4 _ hs) Uq.1 h1
   obtain ⟨F2,t2,n2,c2⟩:=eV _ _ f2 z TG (Af5 _ ht) d2 (by rw [List.map_drop];exact Af5 _ hs) Uq.2 h2
   refine ⟨F1++F2,⟨us.take a.size,us.drop a.size,F1,F2,(Gk _ _).symm,rfl,t1,t2⟩,Dp.2 ⟨n1,n2,λb hb b' rH e=>?_⟩,λb hb=>?_⟩
   ·subst e
    obtain ⟨l1,r1,g1,g2,g3⟩:=c1 b hb
    obtain ⟨l2,r2,g4,g5,g6⟩:=c2 b rH
    exact d3 l1 g1 l2 g4 (h.inj l1 l2 r1 r2 b g2 g5 g3 g6)
   ·have Kp: ∀l,(l∈(cs.take a.size).flatMap AC.refs\/l∈(cs.drop a.size).flatMap AC.refs)->l∈cs.flatMap AC.refs:= λl hl=>by
     rw [<-Az,<-List.flatMap_append,Gk] at hl;exact hl
    rcases Az.1 hb with hb|hb
    ·obtain ⟨l1,r1,g1,g2⟩:=c1 b hb;exact ⟨l1,r1,Kp l1 (.inl g1),g2⟩
    ·obtain ⟨l1,r1,g1,g2⟩:=c2 b hb;exact ⟨l1,r1,Kp l1 (.inr g1),g2⟩
  ·cases hv
 |_=>exact λcs us fr x hr ht _ hs Uq hv=>one _ cs us fr x rfl hr ht hs Uq hv
theorem GG {π':Pi} {st st':St} {a:Act} (h:Bb X π st a w) (h':Bb X π' st' a w) (k:Km π π' st.heap st'.heap) {ls:List Nat} (hg: ∀l∈ls,As st'.heap l=none) {F:List Nat} (hF:F.Nodup)
  (hc: ∀b∈F,∃l r,l∈ls/\π l=some r/\r.cl b):fc X w π' F:=by
 refine ⟨hF,λb hb=>?_⟩
 obtain ⟨l,r,h1,h2,h3⟩:=hc b hb
 have hp:=h.1.place l r b h2 h3
 refine ⟨hp.1,hp.2,λl2 r2 h4 h5=>?_⟩
 cases hh:As st'.heap l2 with
 |none=>rw [(h'.1.heap l2).emp hh] at h4;cases h4
 |some b'=>
  have h6:=(k l2 b' hh).1
  rw [h6] at h4
  have:=h.1.inj l l2 r r2 b h2 h4 h3 h5
  subst this
  rw [hg l h1] at hh;cases hh
theorem aO {st:St} {a:Act} (h:Bb X π st a w) {c:AV} {v:Value} (hc:Bf X w π st.heap c v) {c':AV} {st':St} (he:settle st c=some (c',st')):
  ∃π',Bb X π' st' a w/\Bf X w π' st'.heap c' v/\c'.settled=true/\Km π π' st.heap st'.heap/\
   (Sh st c=true-> ∀(τ:Ty) (fr:Bool) (x:τ.den),τ.tree=true->Ez st' τ c'=some (fr,x)-> ∃F us,Cp w F τ us x/\v=Bs τ us/\fc X w π' F/\ ∀b∈F,∃l r,π l=some r/\r.cl b):=by
 have cell: ∀(a0:AC) (st':St) (π':Pi),Gy X w π st.heap a0 v->Bb X π' st' a w->(Dl st a0).settled=true->Km π π' st.heap st'.heap->(∀l∈a0.refs,As st'.heap l=none)->
   Rf st a0=true-> ∀(τ:Ty) (fr:Bool) (x:τ.den),τ.tree=true->Ez st' τ (.at (Dl st a0))=some (fr,x)-> ∃F us,Cp w F τ us x/\v=Bs τ us/\fc X w π' F/\ ∀b∈F,∃l r,π l=some r/\r.cl b:=by
  intro a0 st1 aV hr h1 hs hk hg ht τ fr x Uq hv
  by_cases Sq:τ.Ap=true
  ·
   cases yF:Dl st a0 with
   |data Uz Nr y=>
    rw [yF,bH] at hv
    split at hv
    ·rename_i het;subst het
     simp only [Aa,Ad] at hv
     obtain ⟨_,rfl⟩:=hv
     cases a0 with
     |data oO τ2 z=>
      simp only [Dl,AC.data.injEq] at yF
      obtain ⟨rfl,rfl,hz⟩:=yF
      have hz:=eq_of_heq hz
      subst hz
      obtain ⟨cs,rI,rfl⟩:=hr
      exact ⟨[],cs,Wo _ cs _ ht rI,rfl,⟨Mr,λb hb=>by cases hb⟩,λb hb=>by cases hb⟩
     |own l off len=>
      simp only [Dl] at yF
      split at yF
      ·simp only [AC.data.injEq] at yF;obtain ⟨_,h2,_⟩:=yF;subst h2;simp [Ty.Ap] at Sq
      ·simp only [AC.data.injEq] at yF;obtain ⟨_,h2,_⟩:=yF;subst h2;simp [Ty.Ap] at Sq
      ·cases yF
     |Ka l=>simp [Rf] at ht
     |_=>simp [Dl] at yF
    ·cases hv
   |_=>rw [yF] at hv;simp only [Ez,Sq,Qf] at hv;cases hv
  ·simp only [Gw] at Sq
   have l7:Dm st τ (Dl st a0)=some (fr,x):=by
    rw [<-Zs (st:=st) (st':=st1) hs]
    cases yF:Dl st a0 with
    |data Uz Nr y=>
     rw [yF,bH] at hv
     rw [Ng]
     split at hv
     ·rename_i het;rw [Ih het];exact hv
     ·rename_i het
      rw [dif_neg het]
      simp only [Sq,Cy,Sl,xm,Ng] at hv
      rw [dif_neg het] at hv
      exact hv
    |Lo=>rw [yF] at hv;simp only [Ez,Sq,Cy,Sl] at hv;rw [Px rfl] at hv;exact hv
    |Uk=>rw [yF] at hv;simp only [Ez,Sq,Cy,Sl] at hv;rw [Px rfl] at hv;exact hv
    |_=>rw [yF] at hs;simp [AC.settled] at hs
   obtain ⟨F,f1,f2,f3⟩:=lY h.1 hr ht τ fr x Sq Uq l7
   exact ⟨F,[v],f1,by simp [Bs,Sq],GG h h1 hk hg f2 f3,λb hb=>let ⟨l,r,_,q⟩:=f3 b hb;⟨l,r,q⟩⟩
 unfold settle at he
 split at he
 ·rename_i l off len
  split at he
  ·rename_i fr tr e tid xs hl
   simp only [Aa,Ad] at he
   obtain ⟨rfl,rfl⟩:=he
   obtain ⟨h1,m⟩:=h.freeze (fr:=fr) (.inl ⟨tr,tid,hl⟩)
   have:=m.ac (.own l off len) v hc
   simp only [Cq,Qf] at this
   have jI:Dl st (.own l off len)= .data fr (.slice e) ((xs.drop off).take len):=by simp only [Dl,hl]
   refine ⟨_,h1,this,rfl,Km.freeze st l fr e xs,λht=>?_⟩
   have:=cell (.own l off len) _ _ hc h1 (by rw [jI];rfl) (Km.freeze st l fr e xs) (λk hk=>by rw [Ae.1 hk];exact St.Lx st l fr e xs) ht
   rw [jI] at this
   exact this
  ·rename_i e tid xs hl
   simp only [Aa,Ad] at he
   obtain ⟨rfl,rfl⟩:=he
   obtain ⟨h1,m⟩:=h.freeze (fr:=false) (.inr ⟨rfl,tid,hl⟩)
   have:=m.ac (.own l off len) v hc
   simp only [Cq,Qf] at this
   have jI:Dl st (.own l off len)= .data false (.slice e) ((xs.drop off).take len):=by simp only [Dl,hl]
   refine ⟨_,h1,this,rfl,Km.freeze st l false e xs,λht=>?_⟩
   have:=cell (.own l off len) _ _ hc h1 (by rw [jI];rfl) (Km.freeze st l false e xs) (λk hk=>by rw [Ae.1 hk];exact St.Lx st l false e xs) ht
   rw [jI] at this
   exact this
  ·cases he
 ·rename_i l
  split at he
  ·rename_i vt mm hl
   simp only [Aa,Ad] at he
   obtain ⟨rfl,rfl⟩:=he
   obtain ⟨h1,m⟩:=h.Hy hl
   have:=m.ac (.Ka l) v hc
   simp only [Gm,Qf] at this
   exact ⟨_,h1,this,rfl,Km.Hy st l vt mm,λht=>by simp [Sh,Rf] at ht⟩
  ·cases he
 ·rename_i a0 _ _
  split at he
  ·rename_i hs
   simp only [Aa,Ad] at he
   obtain ⟨rfl,rfl⟩:=he
   refine ⟨π,h,hc,hs,Km.refl _ _,λht=>?_⟩
   have jI:=Se (st:=st) hs
   have:=cell a0 st π hc h (by rw [jI];exact hs) (Km.refl _ _) (λk hk=>by
    cases a0<;>simp [AC.settled] at hs<;>simp [AC.refs] at hk) ht
   rw [jI] at this
   exact this
  ·cases he
 ·rename_i cs
  cases hsc:Gz cs.length st cs with
  |none=>rw [hsc] at he;cases he
  |some p=>
   rw [hsc] at he
   simp only [Ah,Aa,Ad] at he
   obtain ⟨rfl,rfl⟩:=he
   obtain ⟨us,rfl,hr⟩:=hc
   obtain ⟨π',h2,h3,h4,h5,h6,h7⟩:=eI cs.length st π cs us p.1 p.2 h hr hsc
   refine ⟨π',h2,⟨us,rfl,h3⟩,h4,h5,λht τ fr x Uq hv=>?_⟩
   simp only [Sh,Ag] at ht
   simp only [Ez] at hv
   split at hv
   ·rename_i Sq
    rw [h6] at hv h4
    obtain ⟨F,f1,f2,f3⟩:=sL h.1 τ cs us fr x hr ht.1 (Wt ht.2) h4 Uq hv
    exact ⟨F,us,f1,by simp [Bs,Sq],GG h h2 h5 h7 f2 f3,λb hb=>let ⟨l,r,_,q⟩:=f3 b hb;⟨l,r,q⟩⟩
   ·cases hv
 ·simp only [Aa,Ad] at he
  obtain ⟨rfl,rfl⟩:=he
  exact ⟨π,h,hc,rfl,Km.refl _ _,λht=>by simp [Sh] at ht⟩
 ·cases he
theorem fm {o i j s p:Nat} (Is:i≠j) (hp:p<s):(o+i)*s+p<(o+j)*s\/(o+j)*s+s<=(o+i)*s+p:=by
 rcases Nat.lt_or_gt_of_ne Is with h|h
 ·left
  have:(o+i+1)*s<=(o+j)*s:=Fa _ (by omega)
  rw [Cw,Um] at this
  omega
 ·right
  have:(o+j+1)*s<=(o+i)*s:=Fa _ (by omega)
  rw [Cw,Um] at this
  omega
theorem Ho {α:Type} (l ys:List α) (i k:Nat) (h:i+ys.length<=l.length):(Dq l i ys)[k]?=if k<i then l[k]? else if k<i+ys.length then ys[k-i]? else l[k]?:=by
 unfold Dq
 have t1:(l.take i).length=i:=by simp;omega
 split
 ·rename_i hk
  rw [Ct,Aq (by omega),Cn,Ab hk]
 ·split
  ·rename_i hk
   rw [Ct,Ao (by omega),t1,Aq (by omega)]
  ·rw [Ao (by simp;omega),Ci]
   congr 1
   simp;omega
theorem Ie {α:Type} (l ys:List α) (i:Nat) (h:i+ys.length<=l.length):(Dq l i ys).length=l.length:=by
 unfold Dq;simp;omega
theorem x8 (hT:Du P T) {st:St} {a:Act} (h:Bb X π st a w) {t:TypeId} {e:Ty} (ht:T.ty t=some e) {l j:Nat} {r:Real} {vx:Value} {tid:TypeId} {fr Uz:Bool} {xs:List e.den} {x:e.den}
  (hp:π l=some r) {tr:Bool} (hl:As st.heap l=some (.arr fr tr e tid xs)) (hj:j<xs.length) (hx:Cz w (Cr X.w0.heap.size X.Sc π Uz) e vx x):
  ∃w',(Instr.storeAt t (.pointer (some ⟨r.g,(r.o+j)*e.size,none⟩)) vx).run P w= .ok () w'/\Bb X π (st.Jm l (.arr (fr&&Uz) false e tid (xs.set j x))) a w':=by
 have hb:=(h.1.heap l).Qq hl
 simp only [By,Jo,hp] at hb
 obtain ⟨h1,cur,ti,h2,h3,h4,h5,h6,_⟩:=hb
 obtain ⟨es,eR,hv⟩:=hx
 have iR:=Cells.len e es x eR
 have Wp:(r.o+j)*e.size+es.length<=cur.size:=by
  have:(r.o+j+1)*e.size<=(r.o+r.cap)*e.size:=Fa _ (by omega)
  rw [Cw (r.o+j) 1,Um] at this
  omega
 have Xy:(r.o+j)*e.size+es.length<=cur.toList.length:=by simpa using Wp
 have Qy:=Vj (P:=P) (w:=w) (hT.ty _ _ ht) r.g ((r.o+j)*e.size) vx es (by rw [hv];exact Ks e es x eR) iR (Cells.plain e es x eR) cur ti h2 Wp
 refine ⟨_,by simp only [Instr.storeAt,Instr.sureAddr];simpa using Qy,?_⟩
 refine h.set hl (b:= .arr (fr&&Uz) false e tid (xs.set j x)) ⟨rfl,by simp⟩ (by rw [hp];exact Mx w r.g _) λm=>?_
 simp only [By,Jo,hp]
 refine ⟨⟨h1.1,h1.2.1,λhf=>h1.2.2 (by simp only [Ag] at hf;exact hf.1)⟩,_,_,setRow_heap w r.g cur _ ti _ h2,by rw [Gf,Ie _ _ _ Xy];simpa using h3,h4,by simpa using h5,λi y hy=>?_,λhf=>by cases hf⟩
 rw [Eh] at hy
 split at hy
 ·rename_i oT;subst oT
  simp only [Aa] at hy;subst hy
  refine ⟨es,iR,λk u hu=>?_,(m.cells Uz e es x eR).and_right⟩
  have hk:k<es.length:=(Aj.1 hu).1
  rw [Hp,Ho _ _ _ _ Xy,Ai (by omega),Ab (by omega)]
  rw [show (r.o+j)*e.size+k-(r.o+j)*e.size=k by omega];exact hu
 ·rename_i oT
  obtain ⟨kJ,SZ,pW,tA⟩:=h6 i y hy
  refine ⟨kJ,SZ,λk u hu=>?_,(m.cells fr e kJ y tA).and_left⟩
  have hk:k<kJ.length:=(Aj.1 hu).1
  have:=pW k u hu
  rw [Hp,Ho _ _ _ _ Xy]
  rcases fm (o:=r.o) (i:=i) (j:=j) (s:=e.size) (p:=k) (Gl oT) (by omega) with Jx|GN
  ·rw [Ab Jx];simpa using this
  ·rw [Ai (by omega),Ai (by omega)];simpa using this
theorem iZ: ∀(Fs:List (List Nat)) (i:Nat) (F':List Nat),(List.flatten Fs).Nodup->F'.Nodup->(∀b∈F',b∉List.flatten Fs)->(List.flatten (Fs.set i F')).Nodup/\ ∀b∈List.flatten (Fs.set i F'),b∈List.flatten Fs\/b∈F'
 | [],i,F',_,_,_=>by simp
 |G::Fs,0,F',hn,oU,hs=>by
  simp only [List.set_cons_zero,Kv] at hn hs⊢
  obtain ⟨n1,n2,n3⟩:=Dp.1 hn
  refine ⟨Dp.2 ⟨oU,n2,λa ha b hb e=>hs a ha (Bx _ (e▸hb))⟩,λb hb=>?_⟩
  rcases Az.1 hb with hb|hb
  ·exact .inr hb
  ·exact .inl (Bx _ hb)
 |G::Fs,i+1,F',hn,oU,hs=>by
  simp only [List.set_cons_succ,Kv] at hn hs⊢
  obtain ⟨n1,n2,n3⟩:=Dp.1 hn
  obtain ⟨m1,m2⟩:=iZ Fs i F' n2 oU λb hb hm=>hs b hb (Bx _ hm)
  refine ⟨Dp.2 ⟨n1,m1,λa ha b hb e=>?_⟩,λb hb=>?_⟩
  ·subst e
   rcases m2 a hb with h|h
   ·exact n3 a ha a h rfl
   ·exact hs a h (Bn _ ha)
  ·rcases Az.1 hb with hb|hb
   ·exact .inl (Bn _ hb)
   ·exact (m2 b hb).imp (Bx _) id
theorem sJ (hT:Du P T) {st:St} {a:Act} (h:Bb X π st a w) {t:TypeId} {e:Ty} (ht:T.ty t=some e) {l j:Nat} {r:Real} {vx:Value} {tid:TypeId} {fr Uz:Bool} {xs:List e.den} {x:e.den}
  (hp:π l=some r) (hl:As st.heap l=some (.arr fr true e tid xs)) (hj:j<xs.length) (hx:Cz w (Cr X.w0.heap.size X.Sc π Uz) e vx x) {F:List Nat} {us:List Value} (hF:Cp w F e us x) (OY:vx=Bs e us) (kY:fc X w π F):
  ∃w',(Instr.storeAt t (.pointer (some ⟨r.g,(r.o+j)*e.size,none⟩)) vx).run P w= .ok () w'/\Bb X (Vr π l (some (r.plus F))) (st.Jm l (.arr (fr&&Uz) true e tid (xs.set j x))) a w':=by
 have hb:=(h.1.heap l).Qq hl
 simp only [By,Jo,hp] at hb
 obtain ⟨h1,cur,ti,h2,h3,h4,h5,h6,h7⟩:=hb
 obtain ⟨Fs,t1,t2,t3,t4⟩:=h7 trivial
 obtain ⟨es,eR,hv⟩:=hx
 have iR:=Cells.len e es x eR
 have Ajg:us=es:=by
  have c1:=Ks e us x (Cp.cells (S:= λ_=>False) F e us x hF λ_ _ h=>h)
  have c2:=Ks e es x eR
  rw [<-OY,hv,c2] at c1
  simpa using c1.symm
 subst Ajg
 have Wp:(r.o+j)*e.size+us.length<=cur.size:=by
  have:(r.o+j+1)*e.size<=(r.o+r.cap)*e.size:=Fa _ (by omega)
  rw [Cw (r.o+j) 1,Um] at this
  omega
 have Xy:(r.o+j)*e.size+us.length<=cur.toList.length:=by simpa using Wp
 have Qy:=Vj (P:=P) (w:=w) (hT.ty _ _ ht) r.g ((r.o+j)*e.size) vx us (by rw [hv];exact Ks e us x eR) iR (Cells.plain e us x eR) cur ti h2 Wp
 have Qp:r.cl r.g:=h.1.sub l r _ hp h1.1
 have hng: ∀b∈F,b≠r.g:= λb hb e=>(kY.2 b hb).2.2 l r hp (e▸Qp)
 have GU:=iZ Fs j F (Cf.1 t2).2 kY.1 λb hb hm=>(kY.2 b hb).2.2 l r hp (t3 b hm)
 refine ⟨_,by simp only [Instr.storeAt,Instr.sureAddr];simpa using Qy,?_⟩
 refine h.Ajy hl (b:= .arr (fr&&Uz) true e tid (xs.set j x)) ⟨rfl,by simp⟩ hp (λc hc=>⟨(kY.2 c hc).1,(kY.2 c hc).2.1,λm r0 _=>(kY.2 c hc).2.2 m r0⟩) (Mx w r.g _) λm=>?_
 simp only [By,Jo]
 have cell: ∀(i:Nat) (kJ:List Value),i≠j->kJ.length=e.size->(∀k u,kJ[k]?=some u->cur[(r.o+i)*e.size+k]?=some u)-> ∀k u,kJ[k]?=some u->(Dq cur.toList ((r.o+j)*e.size) us).toArray[(r.o+i)*e.size+k]?=some u:=by
  intro i kJ dm SZ pW k u hu
  have hk:k<kJ.length:=(Aj.1 hu).1
  have:=pW k u hu
  rw [Hp,Ho _ _ _ _ Xy]
  rcases fm (o:=r.o) (i:=i) (j:=j) (s:=e.size) (p:=k) dm (by omega) with Jx|GN
  ·rw [Ab Jx];simpa using this
  ·rw [Ai (by omega),Ai (by omega)];simpa using this
 have WD: ∀k u,us[k]?=some u->(Dq cur.toList ((r.o+j)*e.size) us).toArray[(r.o+j)*e.size+k]?=some u:=by
  intro k u hu
  have hk:k<us.length:=(Aj.1 hu).1
  rw [Hp,Ho _ _ _ _ Xy,Ai (by omega),Ab (by omega)]
  rw [show (r.o+j)*e.size+k-(r.o+j)*e.size=k by omega];exact hu
 refine ⟨⟨h1.1,h1.2.1,λhf=>h1.2.2 (by simp only [Ag] at hf;exact hf.1)⟩,_,_,setRow_heap w r.g cur _ ti _ h2,by rw [Gf,Ie _ _ _ Xy,Wc];exact h3,h4,by rw [Ce];exact h5,λi y hy=>?_,λ_=>?_⟩
 ·rw [Eh] at hy
  split at hy
  ·rename_i oT;subst oT
   simp only [Aa] at hy;subst hy
   exact ⟨us,iR,WD,(m.cells Uz e us x eR).and_right⟩
  ·rename_i oT
   obtain ⟨kJ,SZ,pW,tA⟩:=h6 i y hy
   exact ⟨kJ,SZ,cell i kJ (Gl oT) SZ pW,(m.cells fr e kJ y tA).and_left⟩
 ·refine ⟨Fs.set j F,by simp [t1],Cf.2 ⟨λhm=>?_,GU.1⟩,λb hb=>?_,λi y G hy hG=>?_⟩
  ·rcases GU.2 _ hm with h8|h8
   ·exact (Cf.1 t2).1 h8
   ·exact hng _ h8 rfl
  ·exact (GU.2 b hb).imp (t3 b) id
  ·rw [Eh] at hy hG
   split at hy
   ·rename_i oT;subst oT
    rw [Ab rfl] at hG
    rw [Ab (by omega)] at hG
    simp only [Aa] at hy hG;subst hy;subst hG
    exact ⟨us,iR,WD,hF.Fw _ _ _ _ (by simp) λb hb=>setRow_other w r.g b _ (hng b hb)⟩
   ·rename_i oT
    rw [Ai oT] at hG
    obtain ⟨kJ,SZ,pW,tA⟩:=t4 i y G hy hG
    exact ⟨kJ,SZ,cell i kJ (Gl oT) SZ pW,tA.Fw _ _ _ _ (by simp) λb hb=>setRow_other w r.g b _ λe=>(Cf.1 t2).1 (Gx.2 ⟨G,Bz hG,e▸hb⟩)⟩
theorem IJ {st:St} {a:Act} (h:Bb X π st a w) {τ:Ty} {l:Nat} {x:AV} {vx:Value} (hx:Bf X w π st.heap x vx):Bf X w π st.heap (NP T st τ l x) vx:=by
 unfold NP
 split
 ·rename_i hc
  split
  ·rename_i p hp
   have:=Mi τ x vx p.1 p.2 (Bm.1 hc).2 hx hp
   exact Cz.Ig this λb _ hA=>hA.imp id (Or.imp id λ⟨h1,_⟩=>by cases h1)
  ·exact hx
 ·exact hx
theorem oq (hT:Du P T) {st:St} {a:Act} (h:Bb X π st a w) (t:TypeId) (p x:AV) (vp vx:Value) (hp:Bf X w π st.heap p vp) (hx:Bf X w π st.heap x vx) (st':St)
  (he:Tw T st t p x=some st'): ∃w' π',(Instr.storeAt t vp vx).run P w= .ok () w'/\Bb X π' st' a w':=by
 unfold Tw at he
 split at he
 ·rename_i τ l i ht
  split at he
  ·rename_i tid vs cs hl hc
   split at he
   ·rename_i hle
    simp only [Aa] at he
    obtain ⟨w',h1,h2⟩:=xa hT h ht hp (IJ h hx) hl hc hle
    split at he
    ·rename_i Jg
     simp only [Ag,Ms] at Jg
     subst he
     obtain ⟨MG,h3⟩:=dD (T:=T) l i t τ cs.length 0 _ π (by omega) h2
     exact ⟨w',MG,h1,h3⟩
    ·subst he
     exact ⟨w',π,h1,h2⟩
   ·cases he
  ·cases he
 ·rename_i τ l j ht
  split at he
  ·rename_i x' st1 hs
   obtain ⟨aV,h1,h2,h3,h4,h5⟩:=aO h hx hs
   split at he
   ·rename_i fr tr e tid xs Uz y hl hv
    split at he
    ·rename_i iS;subst iS
     split at he
     ·rename_i hj
      simp only [Aa] at he;subst he
      obtain ⟨r,b,sz,n,g1,g0,g2,g3,rfl⟩:=hp
      obtain ⟨k1,b',f,k2,k3⟩:=h4 l _ hl
      rw [g1] at k2;cases k2
      have g4:=Jt OB.row k3
      rw [show (OB.map f b).row=b.row by cases b<;>rfl,g0] at g4
      simp only [OB.row,Aa,Ad] at g4
      obtain ⟨rfl,rfl⟩:=g4
      cases l6:(tr&&(Sh st x&&τ.tree)) with
      |false=>
       obtain ⟨w',q1,q2⟩:=x8 hT h1 ht (k1.trans g3) hl hj (Mi _ x' vx Uz y h3 h2 hv)
       exact ⟨w',aV,q1,q2⟩
      |true=>
       simp only [Ag] at l6
       obtain ⟨rfl,htv,iS⟩:=l6
       obtain ⟨F,us,f1,f2,f3,_⟩:=h5 htv τ Uz y iS hv
       obtain ⟨w',q1,q2⟩:=sJ hT h1 ht (k1.trans g3) hl hj (Mi _ x' vx Uz y h3 h2 hv) f1 f2 f3
       exact ⟨w',_,q1,q2⟩
     ·cases he
    ·cases he
   ·cases he
  ·cases he
 ·cases he
theorem qS {S:Nat->Prop} {e:Ty} {v:Value} {ys:List e.den} (h:Cells w S (.slice e) [v] ys):
  ∃ad c,v= .slice ad ys.length c/\(ys= []\/ ∃g o,ad=some ⟨g,o,none⟩/\ ∃news:List Value,news.length=ys.length*e.size/\(∀j u,news[j]?=some u->w.cell? ⟨g,o+j,none⟩=some u)/\(∀u∈news,u.oneCell'=true)/\(∀j u,j<ys.length*e.size->w.cell? ⟨g,o+j,none⟩=some u->news[j]?=some u)/\
   ∀(i:Nat) (y:e.den),ys[i]?=some y-> ∃es:List Value,es.length=e.size/\(∀j u,es[j]?=some u->news[i*e.size+j]?=some u)/\Cells w S e es y):=by
 simp only [Cells] at h
 obtain ⟨ad,len,cap,hv,hl,pT,CJ⟩:=h
 simp only [Gd,eY] at hv
 subst hl
 refine ⟨ad,cap,hv,?_⟩
 rcases CJ with h0|⟨g,o,rfl,hg,hn,Kp⟩
 ·exact .inl h0
 ·right
  refine ⟨g,o,rfl,(List.range (ys.length*e.size)).map λj=>(w.cell? ⟨g,o+j,none⟩).getD undef,by simp,?_⟩
  have key: ∀k,k<ys.length*e.size-> ∃u,w.cell? ⟨g,o+k,none⟩=some u/\u.oneCell'=true:=by
   intro k hk
   have hs:0<e.size:=by
    rcases Sk e.size with h|h
    ·rw [h] at hk;simp at hk
    ·exact h
   have hi:k/e.size<ys.length:=(Nat.div_lt_iff_lt_mul hs).2 hk
   obtain ⟨es,eR,hc,ay⟩:=Kp (k/e.size) _ (Ac hi)
   have hm:k%e.size<es.length:=by rw [eR];exact Nat.mod_lt _ hs
   have:=hc (k%e.size) _ (Ac hm)
   rw [Fy,show k/e.size*e.size+k%e.size=k by rw [Nat.mul_comm];exact Nat.div_add_mod k e.size] at this
   exact ⟨_,this,Cells.plain e es _ ay _ (Ak hm)⟩
  refine ⟨λj u hu=>?_,λu hu=>?_,λj u hj hu=>by rw [Ge,eh hj];simp [hu],λi y hy=>?_⟩
  ·rw [Ge] at hu
   have hj:j<ys.length*e.size:=by
    by_cases hj:j<ys.length*e.size
    ·exact hj
    ·rw [Er (by simpa using hj)] at hu;cases hu
   rw [eh hj] at hu
   obtain ⟨u',eU,_⟩:=key j hj
   simp only [Ah,eU,Option.getD_some,Aa] at hu
   rw [eU,hu]
  ·obtain ⟨j,hj,rfl⟩:=Bo.1 hu
   obtain ⟨u',eU,h1⟩:=key j (Io.1 hj)
   rw [eU];exact h1
  ·obtain ⟨es,eR,hc,ay⟩:=Kp i y hy
   refine ⟨es,eR,λj u hu=>?_,ay⟩
   have hi:=(Aj.1 hy).1
   have hj:=(Aj.1 hu).1
   have Jx:i*e.size+j<ys.length*e.size:=by
    have:(i+1)*e.size<=ys.length*e.size:=Fa _ (by omega)
    rw [Cw,Um] at this
    omega
   rw [Ge,eh Jx]
   have:=hc j u hu
   rw [Fy] at this
   simp [this]
end
end Go.Proofs.Ytkkdpknjohcekaa
