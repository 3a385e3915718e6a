/-
  Part 11 of the proof that the statement FnSubgroups holds.
-/
import Derived.Test.YtkkdpknjohcekaaCFSubgroups09
namespace Go.Proofs.Ytkkdpknjohcekaa
open Go.RowKit
section
variable {P:Program} {T:Tab} {X:Ctx} {w w':World} {π:Pi} {H:List (Nat×OB)}
theorem OB.map_map (f g:AC->AC) (b:OB):OB.map g (OB.map f b)=OB.map (λc=>g (f c)) b:=by
 cases b with
 |var t vs=>simp [OB.map,Function.comp_def]
 |_=>rfl
theorem OB.GV (b:OB):OB.map (λc=>c) b=b:=by
 cases b with
 |var t vs=>simp [OB.map]
 |_=>rfl
def Kr (π π':Pi) (H H':List (Nat×OB)):Prop:= ∀l b',Aw H' l=some b'->π' l=π l/\ ∃b f,Aw H l=some b/\b'=OB.map f b
theorem Kr.refl (π:Pi) (H:List (Nat×OB)):Kr π π H H:= λ_ b h=>⟨rfl,b,λc=>c,h,(OB.GV b).symm⟩
theorem Kr.trans {cm XJ π3:Pi} {H1 H2 H3:List (Nat×OB)} (h:Kr cm XJ H1 H2) (h':Kr XJ π3 H2 H3):Kr cm π3 H1 H3:= λl b hb=>by
 obtain ⟨e1,b1,f1,h1,rfl⟩:=h' l b hb
 obtain ⟨e2,b2,f2,h2,rfl⟩:=h l b1 h1
 exact ⟨e1.trans e2,b2,_,h2,OB.map_map f2 f1 b2⟩
theorem Kr.freeze (st:St) (l:Nat) (fr:Bool) (e:Ty) (xs:List e.den):Kr π (Ww π l none) st.heap (st.freeze l fr e xs).heap:= λk b hb=>by
 by_cases hk:k=l
 ·subst hk;rw [St.Lz] at hb;cases hb
 ·rw [St.Ri st l k fr e xs hk] at hb
  cases h0:Aw st.heap k with
  |none=>rw [h0] at hb;cases hb
  |some b0=>
   rw [h0] at hb
   simp only [Am,Aa] at hb
   exact ⟨Gi π none hk,b0,_,rfl,hb.symm⟩
theorem Kr.Ik (st:St) (l:Nat) (v:Ty) (m:ByteArray->Option v.den):Kr π (Ww π l none) st.heap (st.Ik l v m).heap:= λk b hb=>by
 by_cases hk:k=l
 ·subst hk;rw [St.Sy] at hb;cases hb
 ·rw [St.Qr st l k v m hk] at hb
  cases h0:Aw st.heap k with
  |none=>rw [h0] at hb;cases hb
  |some b0=>
   rw [h0] at hb
   simp only [Am,Aa] at hb
   exact ⟨Gi π none hk,b0,_,rfl,hb.symm⟩
theorem Kr.gone {π':Pi} {H':List (Nat×OB)} (k:Kr π π' H H') {l:Nat} (h:Aw H l=none):Aw H' l=none:=by
 cases hb:Aw H' l with
 |none=>rfl
 |some b=>
  obtain ⟨_,b0,f,h1,_⟩:=k l b hb
  rw [h] at h1;cases h1
def Du (st:St):AC->AC
 | .own l off len=>match st.at l with
  |some (.arr fr _ e _ xs)=> .data fr (.slice e) ((xs.drop off).take len)
  |some (.Gx e _ xs)=> .data false (.slice e) ((xs.drop off).take len)
  |_=> .own l off len
 | .Kh l=>match st.at l with
  |some (.Vq v m)=> .data false (.smap v) m
  |_=> .Kh l
 |c=>c
theorem Te {st:St} {c:AC} (h:c.settled=true):Du st c=c:=by
 cases c<;>simp [AC.settled] at h<;>rfl
theorem wD {st st':St} {f:AC->AC} {l:Nat} (hH: ∀m,m≠l->Aw st'.heap m=(Aw st.heap m).map (OB.map f)) {c:AC} (hc: ∀k∈c.refs,k≠l):Du st' c=Du st c:=by
 cases c with
 |own k off len=>
  have hk:k≠l:=hc k (by simp [AC.refs])
  simp only [Du,St.at,hH k hk]
  cases Aw st.heap k with
  |none=>rfl
  |some b=>cases b<;>rfl
 |Kh k=>
  have hk:k≠l:=hc k (by simp [AC.refs])
  simp only [Du,St.at,hH k hk]
  cases Aw st.heap k with
  |none=>rfl
  |some b=>cases b<;>rfl
 |_=>rfl
theorem gT {a:Act} : ∀(n:Nat) (st:St) (π:Pi) (cs:List AC) (us:List Value) (iP:List AC) (st':St),Bl X π st a w->Fw X w π st.heap cs us->
  Hk n st cs=some (iP,st')-> ∃π',Bl X π' st' a w/\Fw X w π' st'.heap iP us/\iP.all (·.settled)=true/\Kr π π' st.heap st'.heap/\iP=cs.map (Du st)/\
   (∀k,k∈cs.flatMap AC.refs->Aw st'.heap k=none)
 |0,st,π,cs,us,iP,st',h,hr,he=>by
  simp only [Hk] at he
  split at he
  ·rename_i hs
   simp only [Aa,Ah] at he
   obtain ⟨rfl,rfl⟩:=he
   have xy:=Bf.1 hs
   exact ⟨π,h,hr,hs,Kr.refl _ _,((Gj λc hc=>Te (xy c hc)).trans (List.map_id'' (λ_=>rfl) cs)).symm,λk hk=>by
    obtain ⟨c,hc,DC⟩:=Fz.1 hk
    have:=xy c hc
    cases c<;>simp [AC.settled] at this<;>simp [AC.refs] at DC⟩
  ·cases he
 |n+1,st,π,cs,us,iP,st',h,hr,he=>by
  simp only [Hk] at he
  have step: ∀(f:AC->AC) (l:Nat) (st1:St),Bl X (Ww π l none) st1 a w->Move X w w π (Ww π l none) st.heap st1.heap f->Aw st1.heap l=none->(∀m,m≠l->Aw st1.heap m=(Aw st.heap m).map (OB.map f))->
    Kr π (Ww π l none) st.heap st1.heap->(∀c∈cs,(∀k∈c.refs,k≠l)->f c=c)->(∀c∈cs,l∈c.refs->(f c).refs= []/\(Du st1 (f c)).settled=true->f c=Du st c)->
    (∀c∈cs,l∈c.refs->(f c).refs= [])->Hk n st1 (cs.map f)=some (iP,st')->
    ∃π',Bl X π' st' a w/\Fw X w π' st'.heap iP us/\iP.all (·.settled)=true/\Kr π π' st.heap st'.heap/\iP=cs.map (Du st)/\(∀k,k∈cs.flatMap AC.refs->Aw st'.heap k=none):=by
   intro f l st1 h1 m hl hH hK hf0 hf1 hf2 he
   obtain ⟨π',h2,h3,h4,h5,h6,h7⟩:=gT n st1 _ (cs.map f) us iP st' h1 (m.acs hr) he
   refine ⟨π',h2,h3,h4,hK.trans h5,?_,λk hk=>?_⟩
   ·rw [h6,List.map_map]
    refine Gj λc hc=>?_
    simp only [Function.comp]
    by_cases Qh:l∈c.refs
    ·have Kf:=Bf.1 h4
     have zm:Du st1 (f c)∈iP:=by rw [h6];exact Ba.2 ⟨f c,Ba.2 ⟨c,hc,rfl⟩,rfl⟩
     have hs:=Kf _ zm
     have h8:=hf1 c hc Qh ⟨hf2 c hc Qh,hs⟩
     have h9:Du st1 (f c)=f c:=by
      have:=hf2 c hc Qh
      cases hfc:f c<;>rw [hfc] at this<;>first|(simp [AC.refs] at this;done)|rfl
     rw [h9,h8]
    ·have Ig: ∀k∈c.refs,k≠l:= λk hk e=>Qh (e▸hk)
     rw [hf0 c hc Ig]
     exact wD hH Ig
   ·obtain ⟨c,hc,DC⟩:=Fz.1 hk
    by_cases My:k=l
    ·subst My;exact h5.gone hl
    ·by_cases Qh:l∈c.refs
     ·
      have Kf:=Bf.1 h4
      have zm:Du st1 (f c)∈iP:=by rw [h6];exact Ba.2 ⟨f c,Ba.2 ⟨c,hc,rfl⟩,rfl⟩
      have hs:=Kf _ zm
      have h8:=hf1 c hc Qh ⟨hf2 c hc Qh,hs⟩
      have h9:Du st1 (f c)=f c:=by
       have:=hf2 c hc Qh
       cases hfc:f c<;>rw [hfc] at this<;>first|(simp [AC.refs] at this;done)|rfl
      rw [h9,h8] at hs
      cases c with
      |clo g Ek=>simp [Du,AC.settled] at hs
      |own k' _ _=>simp [AC.refs] at Qh DC;exact absurd (DC.trans Qh.symm) My
      |Kh k'=>simp [AC.refs] at Qh DC;exact absurd (DC.trans Qh.symm) My
      |He k' _=>simp [AC.refs] at Qh DC;exact absurd (DC.trans Qh.symm) My
      |Jv k' _=>simp [AC.refs] at Qh DC;exact absurd (DC.trans Qh.symm) My
      |sub k' _ _=>simp [AC.refs] at Qh DC;exact absurd (DC.trans Qh.symm) My
      |Js k' _ _=>simp [AC.refs] at Qh DC;exact absurd (DC.trans Qh.symm) My
      |_=>simp [AC.refs] at DC
     ·have Ig: ∀k∈c.refs,k≠l:= λk hk e=>Qh (e▸hk)
      exact h7 k (Fz.2 ⟨f c,Ba.2 ⟨c,hc,rfl⟩,by rw [hf0 c hc Ig];exact DC⟩)
  have DD: ∀(st1:St) (c:AC),(Du st1 c).settled=true->c≠ .undef:= λst1 c hs e=>by rw [e] at hs;simp [Du,AC.settled] at hs
  split at he
  ·rename_i hf
   simp only [Aa,Ah] at he
   obtain ⟨rfl,rfl⟩:=he
   have xy: ∀c∈cs,c.settled=true:= λc hc=>by have:=List.find?_eq_none.1 hf c hc;simpa using this
   exact ⟨π,h,hr,Bf.2 xy,Kr.refl _ _,((Gj λc hc=>Te (xy c hc)).trans (List.map_id'' (λ_=>rfl) cs)).symm,λk hk=>by
    obtain ⟨c,hc,DC⟩:=Fz.1 hk
    have:=xy c hc
    cases c<;>simp [AC.settled] at this<;>simp [AC.refs] at DC⟩
  ·rename_i l off len hf
   split at he
   ·rename_i fr tr e tid xs hl
    unfold St.at at hl
    obtain ⟨h1,m⟩:=h.freeze (fr:=fr) (.inl ⟨tr,tid,hl⟩)
    refine step _ l _ h1 m (St.Lz st l fr e xs) (λm hm=>St.Ri st l m fr e xs hm) (Kr.freeze st l fr e xs) (λc _ hc=>j4 hc) (λc _ Qh hs=>?_) (λc _ Qh=>?_) he
    ·cases c with
     |own k o n=>have:k=l:=(Ae.1 Qh).symm
                 subst this;simp only [Dd,Ab,Du,St.at,hl]
     |He k o=>have:k=l:=(Ae.1 Qh).symm
              subst this;simp only [Dd,Ab] at hs;exact absurd rfl (DD _ _ hs.2)
     |Jv k o=>have:k=l:=(Ae.1 Qh).symm
              subst this;simp only [Dd,Ab] at hs;exact absurd rfl (DD _ _ hs.2)
     |sub k o o2=>have:k=l:=(Ae.1 Qh).symm
                  subst this;simp only [Dd,Ab] at hs;exact absurd rfl (DD _ _ hs.2)
     |Js k o o2=>have:k=l:=(Ae.1 Qh).symm
                 subst this;simp only [Dd,Ab] at hs;exact absurd rfl (DD _ _ hs.2)
     |Kh k=>have:k=l:=(Ae.1 Qh).symm
            subst this;simp only [Dd,Ab] at hs;exact absurd rfl (DD _ _ hs.2)
     |clo g Ek=>
      simp only [Dd] at hs
      rw [Ab (by simpa [AC.refs] using Qh)] at hs
      exact absurd rfl (DD _ _ hs.2)
     |_=>simp [AC.refs] at Qh
    ·cases c with
     |own k o n=>have:k=l:=(Ae.1 Qh).symm
                 subst this;simp only [Dd,Ab];rfl
     |He k o=>have:k=l:=(Ae.1 Qh).symm
              subst this;simp only [Dd,Ab];rfl
     |Jv k o=>have:k=l:=(Ae.1 Qh).symm
              subst this;simp only [Dd,Ab];rfl
     |sub k o o2=>have:k=l:=(Ae.1 Qh).symm
                  subst this;simp only [Dd,Ab];rfl
     |Js k o o2=>have:k=l:=(Ae.1 Qh).symm
                 subst this;simp only [Dd,Ab];rfl
     |Kh k=>have:k=l:=(Ae.1 Qh).symm
            subst this;simp only [Dd,Ab];rfl
     |clo g Ek=>simp only [Dd];rw [Ab (by simpa [AC.refs] using Qh)];rfl
     |_=>simp [AC.refs] at Qh
   ·rename_i e tid xs hl
    unfold St.at at hl
    obtain ⟨h1,m⟩:=h.freeze (fr:=false) (.inr ⟨rfl,tid,hl⟩)
    refine step _ l _ h1 m (St.Lz st l false e xs) (λm hm=>St.Ri st l m false e xs hm) (Kr.freeze st l false e xs) (λc _ hc=>j4 hc) (λc _ Qh hs=>?_) (λc _ Qh=>?_) he
    ·cases c with
     |own k o n=>have:k=l:=(Ae.1 Qh).symm
                 subst this;simp only [Dd,Ab,Du,St.at,hl]
     |He k o=>have:k=l:=(Ae.1 Qh).symm
              subst this;simp only [Dd,Ab] at hs;exact absurd rfl (DD _ _ hs.2)
     |Jv k o=>have:k=l:=(Ae.1 Qh).symm
              subst this;simp only [Dd,Ab] at hs;exact absurd rfl (DD _ _ hs.2)
     |sub k o o2=>have:k=l:=(Ae.1 Qh).symm
                  subst this;simp only [Dd,Ab] at hs;exact absurd rfl (DD _ _ hs.2)
     |Js k o o2=>have:k=l:=(Ae.1 Qh).symm
                 subst this;simp only [Dd,Ab] at hs;exact absurd rfl (DD _ _ hs.2)
     |Kh k=>have:k=l:=(Ae.1 Qh).symm
            subst this;simp only [Dd,Ab] at hs;exact absurd rfl (DD _ _ hs.2)
     |clo g Ek=>
      simp only [Dd] at hs
      rw [Ab (by simpa [AC.refs] using Qh)] at hs
      exact absurd rfl (DD _ _ hs.2)
     |_=>simp [AC.refs] at Qh
    ·cases c with
     |own k o n=>have:k=l:=(Ae.1 Qh).symm
                 subst this;simp only [Dd,Ab];rfl
     |He k o=>have:k=l:=(Ae.1 Qh).symm
              subst this;simp only [Dd,Ab];rfl
     |Jv k o=>have:k=l:=(Ae.1 Qh).symm
              subst this;simp only [Dd,Ab];rfl
     |sub k o o2=>have:k=l:=(Ae.1 Qh).symm
                  subst this;simp only [Dd,Ab];rfl
     |Js k o o2=>have:k=l:=(Ae.1 Qh).symm
                 subst this;simp only [Dd,Ab];rfl
     |Kh k=>have:k=l:=(Ae.1 Qh).symm
            subst this;simp only [Dd,Ab];rfl
     |clo g Ek=>simp only [Dd];rw [Ab (by simpa [AC.refs] using Qh)];rfl
     |_=>simp [AC.refs] at Qh
   ·cases he
  ·rename_i l hf
   split at he
   ·rename_i v mm hl
    unfold St.at at hl
    obtain ⟨h1,m⟩:=h.Ik hl
    refine step _ l _ h1 m (St.Sy st l v mm) (λm hm=>St.Qr st l m v mm hm) (Kr.Ik st l v mm) (λc _ hc=>tt hc) (λc _ Qh hs=>?_) (λc _ Qh=>?_) he
    ·cases c with
     |Kh k=>have:k=l:=(Ae.1 Qh).symm
            subst this;simp only [Ha,Ab,Du,St.at,hl]
     |He k o=>have:k=l:=(Ae.1 Qh).symm
              subst this;simp only [Ha,Ab] at hs;exact absurd rfl (DD _ _ hs.2)
     |Jv k o=>have:k=l:=(Ae.1 Qh).symm
              subst this;simp only [Ha,Ab] at hs;exact absurd rfl (DD _ _ hs.2)
     |sub k o o2=>have:k=l:=(Ae.1 Qh).symm
                  subst this;simp only [Ha,Ab] at hs;exact absurd rfl (DD _ _ hs.2)
     |Js k o o2=>have:k=l:=(Ae.1 Qh).symm
                 subst this;simp only [Ha,Ab] at hs;exact absurd rfl (DD _ _ hs.2)
     |own k o n=>have:k=l:=(Ae.1 Qh).symm
                 subst this;simp only [Ha,Ab] at hs;exact absurd rfl (DD _ _ hs.2)
     |clo g Ek=>
      simp only [Ha] at hs
      rw [Ab (by simpa [AC.refs] using Qh)] at hs
      exact absurd rfl (DD _ _ hs.2)
     |_=>simp [AC.refs] at Qh
    ·cases c with
     |own k o n=>have:k=l:=(Ae.1 Qh).symm
                 subst this;simp only [Ha,Ab];rfl
     |He k o=>have:k=l:=(Ae.1 Qh).symm
              subst this;simp only [Ha,Ab];rfl
     |Jv k o=>have:k=l:=(Ae.1 Qh).symm
              subst this;simp only [Ha,Ab];rfl
     |sub k o o2=>have:k=l:=(Ae.1 Qh).symm
                  subst this;simp only [Ha,Ab];rfl
     |Js k o o2=>have:k=l:=(Ae.1 Qh).symm
                 subst this;simp only [Ha,Ab];rfl
     |Kh k=>have:k=l:=(Ae.1 Qh).symm
            subst this;simp only [Ha,Ab];rfl
     |clo g Ek=>simp only [Ha];rw [Ab (by simpa [AC.refs] using Qh)];rfl
     |_=>simp [AC.refs] at Qh
   ·cases he
  ·cases he
def iw (X:Ctx) (w:World) (π:Pi) (F:List Nat):Prop:=F.Nodup/\ ∀b∈F,(X.w0.heap.size<=b\/X.gv b)/\b<w.heap.size/\ ∀l r,π l=some r-> ¬r.cl b
theorem Xu {S:Nat->Prop} : ∀(e:Ty) (es:List Value) (x:e.den),e.flat=true->Cells w S e es x->Dg w [] e es x
 | .int k,cs,n,_,h=>⟨rfl,h⟩
 | .bool,cs,n,_,h=>⟨rfl,h⟩
 | .str,cs,n,_,h=>⟨rfl,h⟩
 | .unit,cs,n,_,h=>⟨rfl,h⟩
 | .pair a r,cs,x,hf,h=>by
  simp only [Ty.flat,Ai] at hf
  simp only [Cells] at h
  simp only [Dg]
  obtain ⟨c1,c2,h1,h2,h3⟩:=h
  exact ⟨c1,c2,[],[],h1,rfl,Xu a c1 x.1 hf.1 h2,Xu r c2 x.2 hf.2 h3⟩
 | .slice _,_,_,hf,_=>by simp [Ty.flat] at hf
 | .oslice _,_,_,hf,_=>by simp [Ty.flat] at hf
 | .ptr _,_,_,hf,_=>by simp [Ty.flat] at hf
 | .optr _,_,_,hf,_=>by simp [Ty.flat] at hf
 | .smap _,_,_,hf,_=>by simp [Ty.flat] at hf
 | .clo _ _,_,_,hf,_=>by simp [Ty.flat] at hf
theorem Sb {Fs:List (List Nat)} (off len:Nat) (b:Nat) (h:b∈List.flatten ((Fs.drop off).take len)):b∈List.flatten Fs:=by
 obtain ⟨F,hF,hb⟩:=Hi.1 h
 exact Hi.2 ⟨F,dM (Er hF),hb⟩
theorem gV {α:Type} {a b:List (List α)} (h:a.Sublist b):(List.flatten a).Sublist (List.flatten b):=by
 induction h with
 |slnil=>exact List.Sublist.refl _
 |cons c _ ih=>simp only [Ky];exact ih.trans (List.sublist_append_right _ _)
 |cons_cons c _ ih=>simp only [Ky];exact List.Sublist.append (List.Sublist.refl _) ih
theorem mK {Fs:List (List Nat)} (off len:Nat) (h:(List.flatten Fs).Nodup):(List.flatten ((Fs.drop off).take len)).Nodup:=by
 have h1:((Fs.drop off).take len).Sublist Fs:=(List.take_sublist len _).trans (List.drop_sublist off Fs)
 exact h.sublist (gV h1)
theorem kN {P:Nat->Prop} {r:Real} {off len:Nat} {v:Value} {e:Ty} {tid:TypeId} {xs:List e.den} {cur:Array Value} (h2:w.heap[r.g]?=some (.cells cur tid (0,0))) (Uf:cur.size=(r.o+r.cap)*e.size) (tz:r.cap<=maxLen)
  (hlen:off+len<=xs.length) (hv:Hs (some r) e.size off len v) (ht:Xi w P r.g r.o cur e xs) (hg:P r.g):
  ∃F,Dg w F (.slice e) [v] ((xs.drop off).take len)/\F.Nodup/\ ∀b∈F,P b:=by
 have hll:((xs.drop off).take len).length=len:=by simp;omega
 obtain ⟨ad,rfl,hc,ha⟩:=hv
 obtain ⟨Fs,t1,t2,t3,t4⟩:=ht
 ·refine ⟨r.g::List.flatten ((Fs.drop off).take len),⟨some ad,len,r.cap-off,rfl,hll.symm,by omega, .inr ⟨ad,r.g,(r.o+off)*e.size,_,rfl,λh0=>ha (by omega),⟨cur,tid,r.o+off,h2,rfl,by rw [Uf];congr 1;omega,by omega⟩,rfl,by simp;omega,λi x F hx hF=>?_⟩⟩,?_,λb hb=>?_⟩
  ·have hi:i<len:=by
    have:=(Ao.1 hx).1
    rw [hll] at this;exact this
   have hx':xs[off+i]?=some x:=by rw [Dc,Ab hi,Db] at hx;exact hx
   have hF':Fs[off+i]?=some F:=by rw [Dc,Ab hi,Db] at hF;exact hF
   obtain ⟨es,he,hj,zi⟩:=t4 (off+i) x F hx' hF'
   refine ⟨es,he,λj u hu=>?_,zi⟩
   rw [cellOf h2]
   have:=hj j u hu
   rw [<-this]
   congr 1
   rw [<-Gs,Dh (r.o+off) i]
  ·have:=Cg.1 t2
   exact Cg.2 ⟨λhm=>this.1 (Sb off len _ hm),mK off len this.2⟩
  ·rcases Bc.1 hb with rfl|hb
   ·exact hg
   ·exact t3 b (Sb off len b hb)
theorem oP {st:St} (h:Mr X w π st.heap) {c:AC} {v:Value} (hc:Hj X w π st.heap c v) (ht:Ru st c=true) (τ:Ty) (fr:Bool) (x:τ.den) (Ts:τ.Ap=false) (FM:τ.tree=true)
  (hv:Dx st τ (Du st c)=some (fr,x)): ∃F,Dg w F τ [v] x/\F.Nodup/\ ∀b∈F,∃l r,l∈c.refs/\π l=some r/\r.cl b:=by
 cases c with
 |data Wd Nv y=>
  simp only [Ru] at ht
  simp only [Du,Nl] at hv
  split at hv
  ·rename_i he;subst he
   simp only [Aa,Ah] at hv
   obtain ⟨_,rfl⟩:=hv
   exact ⟨[],Xu Nv _ _ ht (Da.Rr Ts hc),Mv,λb hb=>by cases hb⟩
  ·unfold iO at hv
   split at hv
   ·simp [Ty.flat] at ht
   ·simp [Ty.flat] at ht
   ·cases hv
 |Lp=>
  have hc:v= .slice none 0 0:=hc
  subst hc
  cases τ with
  |slice e=>
   simp only [Du,Dx,Aa,Ah] at hv
   obtain ⟨_,rfl⟩:=hv
   exact ⟨[],⟨none,0,0,rfl,rfl,Aq _, .inl ⟨rfl,rfl,rfl,rfl⟩⟩,Mv,λb hb=>by cases hb⟩
  |oslice e=>simp [Ty.tree] at FM
  |_=>simp [Du,Dx] at hv
 |own l off len=>
  simp only [Ru] at ht
  split at ht
  ·rename_i Wd tr e tid xs hl
   have Jg:=hl
   unfold St.at at hl
   simp only [Du,Jg,Nl] at hv
   split at hv
   ·rename_i he;subst he
    simp only [Aa,Ah] at hv
    obtain ⟨_,rfl⟩:=hv
    obtain ⟨h2,h3⟩:=Oc hc hl
    have hb:=(h.heap l).Rc hl
    simp only [Cn,Jt] at hb
    cases hp:π l with
    |none=>
     rw [hp] at h3
     obtain ⟨rfl,rfl,rfl⟩:=h3
     exact ⟨[],⟨none,0,0,rfl,by simp,Aq _, .inl ⟨by simp,rfl,rfl,rfl⟩⟩,Mv,λb hb=>by cases hb⟩
    |some r=>
     rw [hp] at hb h3
     obtain ⟨k1,cur,_,k2,k3,k4,k5,k6,k7⟩:=hb
     have RM:Xi w r.cl r.g r.o cur e xs:=by
      simp only [Jz] at ht
      rcases ht with ht|ht
      ·exact k7 ht
      ·refine ⟨List.replicate xs.length [],by simp,by simp,by simp,λi x F hx hF=>?_⟩
       obtain ⟨es,e1,e2,e3⟩:=k6 i x hx
       have:F= []:=by
        have:=Cp hF
        exact Ft this
       subst this
       exact ⟨es,e1,e2,Xu e es x ht e3⟩
     obtain ⟨F,f1,f2,f3⟩:=kN k2 k3 k4 h2 h3 RM (h.sub l r _ hp k1.1)
     exact ⟨F,f1,f2,λb hb=>⟨l,r,by simp [AC.refs],hp,f3 b hb⟩⟩
   ·cases τ<;>simp [iO] at hv
  ·rename_i e tid xs hl
   have Jg:=hl
   unfold St.at at hl
   simp only [Du,Jg,Nl] at hv
   split at hv
   ·rename_i he;subst he
    simp only [Aa,Ah] at hv
    obtain ⟨_,rfl⟩:=hv
    obtain ⟨h2,h3⟩:=bZ hc hl
    have hb:=(h.heap l).Rc hl
    simp only [Cn,No] at hb
    cases hp:π l with
    |none=>
     rw [hp] at h3
     obtain ⟨rfl,rfl,rfl⟩:=h3
     exact ⟨[],⟨none,0,0,rfl,by simp,Aq _, .inl ⟨by simp,rfl,rfl,rfl⟩⟩,Mv,λb hb=>by cases hb⟩
    |some r=>
     rw [hp] at hb h3
     obtain ⟨k1,cur,_,k2,k3,k4,k5,k7⟩:=hb
     obtain ⟨F,f1,f2,f3⟩:=kN k2 k3 k4 h2 h3 k7 k1
     exact ⟨F,f1,f2,λb hb=>⟨l,r,by simp [AC.refs],hp,h.sub l r b hp (f3 b hb)⟩⟩
   ·cases τ<;>simp [iO] at hv
  ·cases ht
 |_=>simp [Ru] at ht
theorem Ya: ∀ {l:List Nat},au l=true->l.Nodup
 | [],_=>Mv
 |a::r,h=>by
  simp only [au,Ai,Ew,List.contains_eq_mem,decide_eq_false_iff_not] at h
  exact Cg.2 ⟨h.1,Ya h.2⟩
theorem aZ {st st':St} {τ:Ty} {c:AC} (h:c.settled=true):Dx st' τ c=Dx st τ c:=by
 cases c<;>simp [AC.settled] at h<;>cases τ<;>rfl
theorem wS {st st':St} (h:Mr X w π st.heap): ∀(τ:Ty) (cs:List AC) (us:List Value) (fr:Bool) (x:τ.den),Fw X w π st.heap cs us->cs.all (Ru st)=true->(cs.flatMap AC.refs).Nodup->
  (cs.map (Du st)).all (·.settled)=true->τ.tree=true->Fh st' τ (cs.map (Du st))=some (fr,x)-> ∃F,Dg w F τ us x/\F.Nodup/\ ∀b∈F,∃l r,l∈cs.flatMap AC.refs/\π l=some r/\r.cl b:=by
 have one: ∀(τ:Ty) (cs:List AC) (us:List Value) (fr:Bool) (x:τ.den),τ.Ap=false->Fw X w π st.heap cs us->cs.all (Ru st)=true->
   (cs.map (Du st)).all (·.settled)=true->τ.tree=true->Fh st' τ (cs.map (Du st))=some (fr,x)-> ∃F,Dg w F τ us x/\F.Nodup/\ ∀b∈F,∃l r,l∈cs.flatMap AC.refs/\π l=some r/\r.cl b:=by
  intro τ cs us fr x Ts hr ht hs Vv hv
  rw [Ua Ts] at hv
  rcases cs with _|⟨c,_|⟨d,cs⟩⟩
  ·cases hv
  ·simp only [Ca,List.map_nil] at hv
   obtain ⟨u,hu,_,hc⟩:=hr.2 0 c rfl
   have hl:us.length=1:=hr.1
   obtain ⟨u',rfl⟩:=Eh.1 hl
   simp at hu;subst hu
   rw [aZ (st:=st) (by simpa using hs)] at hv
   obtain ⟨F,f1,f2,f3⟩:=oP h hc (by simpa using ht) τ fr x Ts Vv hv
   exact ⟨F,f1,f2,λb hb=>by obtain ⟨l,r,g1,g2⟩:=f3 b hb;exact ⟨l,r,by simpa using g1,g2⟩⟩
  ·cases hv
 intro τ
 induction τ with
 |unit=>
  intro cs us fr x hr ht hd hs Vv hv
  cases cs with
  |nil=>have:us= []:=Co hr.1;subst this;exact ⟨[],⟨rfl,rfl⟩,Mv,λb hb=>by cases hb⟩
  |cons c cs=>simp [Fh] at hv
 |pair a r iq ie=>
  intro cs us fr x hr ht hd hs Vv hv
  simp only [Ty.tree,Ai] at Vv
  simp only [Fh] at hv
  split at hv
  ·rename_i f1 y f2 z h1 h2
   simp only [Aa,Ah] at hv
   obtain ⟨rfl,rfl⟩:=hv
   have hr1:Fw X w π st.heap (cs.take a.size) (us.take a.size):=by have:=a7 hr 0 a.size;simpa using this
   have hr2:Fw X w π st.heap (cs.drop a.size) (us.drop a.size):=
    ⟨by simp [hr.1],λi c hc=>by
     rw [Db] at hc⊢
     exact hr.2 _ c hc⟩
   have Aq6: ∀ {p:AC->Bool} {l:List AC} (n:Nat),l.all p=true->(l.take n).all p=true:= λn hl=>Bf.2 λc hc=>Bf.1 hl c (Er hc)
   have Aq7: ∀ {p:AC->Bool} {l:List AC} (n:Nat),l.all p=true->(l.drop n).all p=true:= λn hl=>Bf.2 λc hc=>Bf.1 hl c (dM hc)
   have hdd:((cs.take a.size++cs.drop a.size).flatMap AC.refs).Nodup:=by rw [Lc];exact hd
   rw [List.flatMap_append] at hdd
   obtain ⟨d1,d2,d3⟩:=Eb.1 hdd
   rw [<-List.map_take] at h1
   rw [<-List.map_drop] at h2
   obtain ⟨F1,t1,n1,c1⟩:=iq _ _ f1 y hr1 (Aq6 _ ht) d1 (by rw [List.map_take];exact Aq6 _ hs) Vv.1 h1
   obtain ⟨F2,t2,n2,c2⟩:=ie _ _ f2 z hr2 (Aq7 _ ht) d2 (by rw [List.map_drop];exact Aq7 _ hs) Vv.2 h2
   refine ⟨F1++F2,⟨us.take a.size,us.drop a.size,F1,F2,(Lc _ _).symm,rfl,t1,t2⟩,Eb.2 ⟨n1,n2,λb hb b' vL e=>?_⟩,λb hb=>?_⟩
   ·subst e
    obtain ⟨l1,r1,g1,g2,g3⟩:=c1 b hb
    obtain ⟨l2,r2,g4,g5,g6⟩:=c2 b vL
    exact d3 l1 g1 l2 g4 (h.inj l1 l2 r1 r2 b g2 g5 g3 g6)
   ·have Kf: ∀l,(l∈(cs.take a.size).flatMap AC.refs\/l∈(cs.drop a.size).flatMap AC.refs)->l∈cs.flatMap AC.refs:= λl hl=>by
     rw [<-Az,<-List.flatMap_append,Lc] at hl;exact hl
    rcases Az.1 hb with hb|hb
    ·obtain ⟨l1,r1,g1,g2⟩:=c1 b hb;exact ⟨l1,r1,Kf l1 (.inl g1),g2⟩
    ·obtain ⟨l1,r1,g1,g2⟩:=c2 b hb;exact ⟨l1,r1,Kf l1 (.inr g1),g2⟩
  ·cases hv
 |_=>exact λcs us fr x hr ht _ hs Vv hv=>one _ cs us fr x rfl hr ht hs Vv hv
theorem QR {π':Pi} {st st':St} {a:Act} (h:Bl X π st a w) (h':Bl X π' st' a w) (k:Kr π π' st.heap st'.heap) {ls:List Nat} (hg: ∀l∈ls,Aw st'.heap l=none) {F:List Nat} (hF:F.Nodup)
  (hc: ∀b∈F,∃l r,l∈ls/\π l=some r/\r.cl b):iw X w π' F:=by
 refine ⟨hF,λb hb=>?_⟩
 obtain ⟨l,r,h1,h2,h3⟩:=hc b hb
 have hp:=h.1.place l r b h2 h3
 refine ⟨hp.1,hp.2,λl2 r2 h4 h5=>?_⟩
 cases hh:Aw st'.heap l2 with
 |none=>rw [(h'.1.heap l2).emp hh] at h4;cases h4
 |some b'=>
  have h6:=(k l2 b' hh).1
  rw [h6] at h4
  have:=h.1.inj l l2 r r2 b h2 h4 h3 h5
  subst this
  rw [hg l h1] at hh;cases hh
theorem c7 {st:St} {a:Act} (h:Bl X π st a w) {c:AV} {v:Value} (hc:Bq X w π st.heap c v) {c':AV} {st':St} (he:settle st c=some (c',st')):
  ∃π',Bl X π' st' a w/\Bq X w π' st'.heap c' v/\c'.settled=true/\Kr π π' st.heap st'.heap/\
   (Th st c=true-> ∀(τ:Ty) (fr:Bool) (x:τ.den),τ.tree=true->Fv st' τ c'=some (fr,x)-> ∃F us,Dg w F τ us x/\v=Ce τ us/\iw X w π' F/\ ∀b∈F,∃l r,π l=some r/\r.cl b):=by
 have cell: ∀(a0:AC) (st':St) (π':Pi),Hj X w π st.heap a0 v->Bl X π' st' a w->(Du st a0).settled=true->Kr π π' st.heap st'.heap->(∀l∈a0.refs,Aw st'.heap l=none)->
   Ru st a0=true-> ∀(τ:Ty) (fr:Bool) (x:τ.den),τ.tree=true->Fv st' τ (.at (Du st a0))=some (fr,x)-> ∃F us,Dg w F τ us x/\v=Ce τ us/\iw X w π' F/\ ∀b∈F,∃l r,π l=some r/\r.cl b:=by
  intro a0 st1 cm hr h1 hs hk hg ht τ fr x Vv hv
  by_cases Ts:τ.Ap=true
  ·
   cases FP:Du st a0 with
   |data Wd Nv y=>
    rw [FP,dh] at hv
    split at hv
    ·rename_i het;subst het
     simp only [Aa,Ah] at hv
     obtain ⟨_,rfl⟩:=hv
     cases a0 with
     |data sm τ2 z=>
      simp only [Du,AC.data.injEq] at FP
      obtain ⟨rfl,rfl,hz⟩:=FP
      have hz:=eq_of_heq hz
      subst hz
      obtain ⟨cs,zi,rfl⟩:=hr
      exact ⟨[],cs,Xu _ cs _ ht zi,rfl,⟨Mv,λb hb=>by cases hb⟩,λb hb=>by cases hb⟩
     |own l off len=>
      simp only [Du] at FP
      split at FP
      ·simp only [AC.data.injEq] at FP;obtain ⟨_,h2,_⟩:=FP;subst h2;simp [Ty.Ap] at Ts
      ·simp only [AC.data.injEq] at FP;obtain ⟨_,h2,_⟩:=FP;subst h2;simp [Ty.Ap] at Ts
      ·cases FP
     |Kh l=>simp [Ru] at ht
     |_=>simp [Du] at FP
    ·cases hv
   |_=>rw [FP] at hv;simp only [Fv,Ts,Ny] at hv;cases hv
  ·simp only [Fa] at Ts
   have tJ:Dx st τ (Du st a0)=some (fr,x):=by
    rw [<-aZ (st:=st) (st':=st1) hs]
    cases FP:Du st a0 with
    |data Wd Nv y=>
     rw [FP,dh] at hv
     rw [Nl]
     split at hv
     ·rename_i het;rw [Ip het];exact hv
     ·rename_i het
      rw [dif_neg het]
      simp only [Ts,Df,Rb,CM,Nl] at hv
      rw [dif_neg het] at hv
      exact hv
    |Lp=>rw [FP] at hv;simp only [Fv,Ts,Df,Rb] at hv;rw [Qe rfl] at hv;exact hv
    |Vp=>rw [FP] at hv;simp only [Fv,Ts,Df,Rb] at hv;rw [Qe rfl] at hv;exact hv
    |_=>rw [FP] at hs;simp [AC.settled] at hs
   obtain ⟨F,f1,f2,f3⟩:=oP h.1 hr ht τ fr x Ts Vv tJ
   exact ⟨F,[v],f1,by simp [Ce,Ts],QR h h1 hk hg f2 f3,λb hb=>let ⟨l,r,_,q⟩:=f3 b hb;⟨l,r,q⟩⟩
 unfold settle at he
 split at he
 ·rename_i l off len
  split at he
  ·rename_i fr tr e tid xs hl
   simp only [Aa,Ah] at he
   obtain ⟨rfl,rfl⟩:=he
   obtain ⟨h1,m⟩:=h.freeze (fr:=fr) (.inl ⟨tr,tid,hl⟩)
   have:=m.ac (.own l off len) v hc
   simp only [Dd,Ny] at this
   have kS:Du st (.own l off len)= .data fr (.slice e) ((xs.drop off).take len):=by simp only [Du,hl]
   refine ⟨_,h1,this,rfl,Kr.freeze st l fr e xs,λht=>?_⟩
   have:=cell (.own l off len) _ _ hc h1 (by rw [kS];rfl) (Kr.freeze st l fr e xs) (λk hk=>by rw [Ae.1 hk];exact St.Lz st l fr e xs) ht
   rw [kS] at this
   exact this
  ·rename_i e tid xs hl
   simp only [Aa,Ah] at he
   obtain ⟨rfl,rfl⟩:=he
   obtain ⟨h1,m⟩:=h.freeze (fr:=false) (.inr ⟨rfl,tid,hl⟩)
   have:=m.ac (.own l off len) v hc
   simp only [Dd,Ny] at this
   have kS:Du st (.own l off len)= .data false (.slice e) ((xs.drop off).take len):=by simp only [Du,hl]
   refine ⟨_,h1,this,rfl,Kr.freeze st l false e xs,λht=>?_⟩
   have:=cell (.own l off len) _ _ hc h1 (by rw [kS];rfl) (Kr.freeze st l false e xs) (λk hk=>by rw [Ae.1 hk];exact St.Lz st l false e xs) ht
   rw [kS] at this
   exact this
  ·cases he
 ·rename_i l
  split at he
  ·rename_i vt mm hl
   simp only [Aa,Ah] at he
   obtain ⟨rfl,rfl⟩:=he
   obtain ⟨h1,m⟩:=h.Ik hl
   have:=m.ac (.Kh l) v hc
   simp only [Ha,Ny] at this
   exact ⟨_,h1,this,rfl,Kr.Ik st l vt mm,λht=>by simp [Th,Ru] at ht⟩
  ·cases he
 ·rename_i a0 _ _
  split at he
  ·rename_i hs
   simp only [Aa,Ah] at he
   obtain ⟨rfl,rfl⟩:=he
   refine ⟨π,h,hc,hs,Kr.refl _ _,λht=>?_⟩
   have kS:=Te (st:=st) hs
   have:=cell a0 st π hc h (by rw [kS];exact hs) (Kr.refl _ _) (λk hk=>by
    cases a0<;>simp [AC.settled] at hs<;>simp [AC.refs] at hk) ht
   rw [kS] at this
   exact this
  ·cases he
 ·rename_i cs
  cases hsc:Hk cs.length st cs with
  |none=>rw [hsc] at he;cases he
  |some p=>
   rw [hsc] at he
   simp only [Am,Aa,Ah] at he
   obtain ⟨rfl,rfl⟩:=he
   obtain ⟨us,rfl,hr⟩:=hc
   obtain ⟨π',h2,h3,h4,h5,h6,h7⟩:=gT cs.length st π cs us p.1 p.2 h hr hsc
   refine ⟨π',h2,⟨us,rfl,h3⟩,h4,h5,λht τ fr x Vv hv=>?_⟩
   simp only [Th,Ai] at ht
   simp only [Fv] at hv
   split at hv
   ·rename_i Ts
    rw [h6] at hv h4
    obtain ⟨F,f1,f2,f3⟩:=wS h.1 τ cs us fr x hr ht.1 (Ya ht.2) h4 Vv hv
    exact ⟨F,us,f1,by simp [Ce,Ts],QR h h2 h5 h7 f2 f3,λb hb=>let ⟨l,r,_,q⟩:=f3 b hb;⟨l,r,q⟩⟩
   ·cases hv
 ·simp only [Aa,Ah] at he
  obtain ⟨rfl,rfl⟩:=he
  exact ⟨π,h,hc,rfl,Kr.refl _ _,λht=>by simp [Th] at ht⟩
 ·cases he
theorem iF {o i j s p:Nat} (Ig:i≠j) (hp:p<s):(o+i)*s+p<(o+j)*s\/(o+j)*s+s<=(o+i)*s+p:=by
 rcases Nat.lt_or_gt_of_ne Ig with h|h
 ·left
  have:(o+i+1)*s<=(o+j)*s:=Et _ (by omega)
  rw [Dh,Rx] at this
  omega
 ·right
  have:(o+j+1)*s<=(o+i)*s:=Et _ (by omega)
  rw [Dh,Rx] at this
  omega
theorem Hx {α:Type} (l ys:List α) (i k:Nat) (h:i+ys.length<=l.length):(Dw l i ys)[k]?=if k<i then l[k]? else if k<i+ys.length then ys[k-i]? else l[k]?:=by
 unfold Dw
 have t1:(l.take i).length=i:=by simp;omega
 split
 ·rename_i hk
  rw [Ck,At (by omega),Dc,Ab hk]
 ·split
  ·rename_i hk
   rw [Ck,As (by omega),t1,At (by omega)]
  ·rw [As (by simp;omega),Db]
   congr 1
   simp;omega
theorem Io {α:Type} (l ys:List α) (i:Nat) (h:i+ys.length<=l.length):(Dw l i ys).length=l.length:=by
 unfold Dw;simp;omega
theorem BT (hT:Ef P T) {st:St} {a:Act} (h:Bl X π st a w) {t:TypeId} {e:Ty} (ht:T.ty t=some e) {l j:Nat} {r:Real} {vx:Value} {tid:TypeId} {fr Wd:Bool} {xs:List e.den} {x:e.den}
  (hp:π l=some r) {tr:Bool} (hl:Aw st.heap l=some (.arr fr tr e tid xs)) (hj:j<xs.length) (hx:Da w (De X.w0.heap.size X.Sc π Wd) e vx x):
  ∃w',(Instr.storeAt t (.pointer (some ⟨r.g,(r.o+j)*e.size,none⟩)) vx).run P w= .ok () w'/\Bl X π (st.Jr l (.arr (fr&&Wd) false e tid (xs.set j x))) a w':=by
 have hb:=(h.1.heap l).Rc hl
 simp only [Cn,Jt,hp] at hb
 obtain ⟨h1,cur,ti,h2,h3,h4,h5,h6,_⟩:=hb
 obtain ⟨es,fv,hv⟩:=hx
 have ll:=Cells.len e es x fv
 have Xv:(r.o+j)*e.size+es.length<=cur.size:=by
  have:(r.o+j+1)*e.size<=(r.o+r.cap)*e.size:=Et _ (by omega)
  rw [Dh (r.o+j) 1,Rx] at this
  omega
 have Zt:(r.o+j)*e.size+es.length<=cur.toList.length:=by simpa using Xv
 have Vo:=Wp (P:=P) (w:=w) (hT.ty _ _ ht) r.g ((r.o+j)*e.size) vx es (by rw [hv];exact Kw e es x fv) ll (Cells.plain e es x fv) cur ti h2 Xv
 refine ⟨_,by simp only [Instr.storeAt,Instr.sureAddr];simpa using Vo,?_⟩
 refine h.set hl (b:= .arr (fr&&Wd) false e tid (xs.set j x)) ⟨rfl,by simp⟩ (by rw [hp];exact Nd w r.g _) λm=>?_
 simp only [Cn,Jt,hp]
 refine ⟨⟨h1.1,h1.2.1,λhf=>h1.2.2 (by simp only [Ai] at hf;exact hf.1)⟩,_,_,setRow_heap w r.g cur _ ti _ h2,by rw [Gv,Io _ _ _ Zt];simpa using h3,h4,by simpa using h5,λi y hy=>?_,λhf=>by cases hf⟩
 rw [Em] at hy
 split at hy
 ·rename_i nf;subst nf
  simp only [Aa] at hy;subst hy
  refine ⟨es,ll,λk u hu=>?_,(m.cells Wd e es x fv).and_right⟩
  have hk:k<es.length:=(Ao.1 hu).1
  rw [Hy,Hx _ _ _ _ Zt,Ak (by omega),Ab (by omega)]
  rw [show (r.o+j)*e.size+k-(r.o+j)*e.size=k by omega];exact hu
 ·rename_i nf
  obtain ⟨nD,TS,ng,xp⟩:=h6 i y hy
  refine ⟨nD,TS,λk u hu=>?_,(m.cells fr e nD y xp).and_left⟩
  have hk:k<nD.length:=(Ao.1 hu).1
  have:=ng k u hu
  rw [Hy,Hx _ _ _ _ Zt]
  rcases iF (o:=r.o) (i:=i) (j:=j) (s:=e.size) (p:=k) (Gb nf) (by omega) with Jc|oY
  ·rw [Ab Jc];simpa using this
  ·rw [Ak (by omega),Ak (by omega)];simpa using this
theorem lB: ∀(Fs:List (List Nat)) (i:Nat) (F':List Nat),(List.flatten Fs).Nodup->F'.Nodup->(∀b∈F',b∉List.flatten Fs)->(List.flatten (Fs.set i F')).Nodup/\ ∀b∈List.flatten (Fs.set i F'),b∈List.flatten Fs\/b∈F'
 | [],i,F',_,_,_=>by simp
 |G::Fs,0,F',hn,oZ,hs=>by
  simp only [List.set_cons_zero,Ky] at hn hs⊢
  obtain ⟨n1,n2,n3⟩:=Eb.1 hn
  refine ⟨Eb.2 ⟨oZ,n2,λa ha b hb e=>hs a ha (Cm _ (e▸hb))⟩,λb hb=>?_⟩
  rcases Az.1 hb with hb|hb
  ·exact .inr hb
  ·exact .inl (Cm _ hb)
 |G::Fs,i+1,F',hn,oZ,hs=>by
  simp only [List.set_cons_succ,Ky] at hn hs⊢
  obtain ⟨n1,n2,n3⟩:=Eb.1 hn
  obtain ⟨m1,m2⟩:=lB Fs i F' n2 oZ λb hb hm=>hs b hb (Cm _ hm)
  refine ⟨Eb.2 ⟨n1,m1,λa ha b hb e=>?_⟩,λb hb=>?_⟩
  ·subst e
   rcases m2 a hb with h|h
   ·exact n3 a ha a h rfl
   ·exact hs a h (Bi _ ha)
  ·rcases Az.1 hb with hb|hb
   ·exact .inl (Bi _ hb)
   ·exact (m2 b hb).imp (Cm _) id
theorem wQ (hT:Ef P T) {st:St} {a:Act} (h:Bl X π st a w) {t:TypeId} {e:Ty} (ht:T.ty t=some e) {l j:Nat} {r:Real} {vx:Value} {tid:TypeId} {fr Wd:Bool} {xs:List e.den} {x:e.den}
  (hp:π l=some r) (hl:Aw st.heap l=some (.arr fr true e tid xs)) (hj:j<xs.length) (hx:Da w (De X.w0.heap.size X.Sc π Wd) e vx x) {F:List Nat} {us:List Value} (hF:Dg w F e us x) (hus:vx=Ce e us) (nV:iw X w π F):
  ∃w',(Instr.storeAt t (.pointer (some ⟨r.g,(r.o+j)*e.size,none⟩)) vx).run P w= .ok () w'/\Bl X (Ww π l (some (r.plus F))) (st.Jr l (.arr (fr&&Wd) true e tid (xs.set j x))) a w':=by
 have hb:=(h.1.heap l).Rc hl
 simp only [Cn,Jt,hp] at hb
 obtain ⟨h1,cur,ti,h2,h3,h4,h5,h6,h7⟩:=hb
 obtain ⟨Fs,t1,t2,t3,t4⟩:=h7 trivial
 obtain ⟨es,fv,hv⟩:=hx
 have ll:=Cells.len e es x fv
 have Aur:us=es:=by
  have c1:=Kw e us x (Dg.cells (S:= λ_=>False) F e us x hF λ_ _ h=>h)
  have c2:=Kw e es x fv
  rw [<-hus,hv,c2] at c1
  simpa using c1.symm
 subst Aur
 have Xv:(r.o+j)*e.size+us.length<=cur.size:=by
  have:(r.o+j+1)*e.size<=(r.o+r.cap)*e.size:=Et _ (by omega)
  rw [Dh (r.o+j) 1,Rx] at this
  omega
 have Zt:(r.o+j)*e.size+us.length<=cur.toList.length:=by simpa using Xv
 have Vo:=Wp (P:=P) (w:=w) (hT.ty _ _ ht) r.g ((r.o+j)*e.size) vx us (by rw [hv];exact Kw e us x fv) ll (Cells.plain e us x fv) cur ti h2 Xv
 have Qf:r.cl r.g:=h.1.sub l r _ hp h1.1
 have hng: ∀b∈F,b≠r.g:= λb hb e=>(nV.2 b hb).2.2 l r hp (e▸Qf)
 have RH:=lB Fs j F (Cg.1 t2).2 nV.1 λb hb hm=>(nV.2 b hb).2.2 l r hp (t3 b hm)
 refine ⟨_,by simp only [Instr.storeAt,Instr.sureAddr];simpa using Vo,?_⟩
 refine h.Avd hl (b:= .arr (fr&&Wd) true e tid (xs.set j x)) ⟨rfl,by simp⟩ hp (λc hc=>⟨(nV.2 c hc).1,(nV.2 c hc).2.1,λm r0 _=>(nV.2 c hc).2.2 m r0⟩) (Nd w r.g _) λm=>?_
 simp only [Cn,Jt]
 have cell: ∀(i:Nat) (nD:List Value),i≠j->nD.length=e.size->(∀k u,nD[k]?=some u->cur[(r.o+i)*e.size+k]?=some u)-> ∀k u,nD[k]?=some u->(Dw cur.toList ((r.o+j)*e.size) us).toArray[(r.o+i)*e.size+k]?=some u:=by
  intro i nD fw TS ng k u hu
  have hk:k<nD.length:=(Ao.1 hu).1
  have:=ng k u hu
  rw [Hy,Hx _ _ _ _ Zt]
  rcases iF (o:=r.o) (i:=i) (j:=j) (s:=e.size) (p:=k) fw (by omega) with Jc|oY
  ·rw [Ab Jc];simpa using this
  ·rw [Ak (by omega),Ak (by omega)];simpa using this
 have Agu: ∀k u,us[k]?=some u->(Dw cur.toList ((r.o+j)*e.size) us).toArray[(r.o+j)*e.size+k]?=some u:=by
  intro k u hu
  have hk:k<us.length:=(Ao.1 hu).1
  rw [Hy,Hx _ _ _ _ Zt,Ak (by omega),Ab (by omega)]
  rw [show (r.o+j)*e.size+k-(r.o+j)*e.size=k by omega];exact hu
 refine ⟨⟨h1.1,h1.2.1,λhf=>h1.2.2 (by simp only [Ai] at hf;exact hf.1)⟩,_,_,setRow_heap w r.g cur _ ti _ h2,by rw [Gv,Io _ _ _ Zt,Xg];exact h3,h4,by rw [Bv];exact h5,λi y hy=>?_,λ_=>?_⟩
 ·rw [Em] at hy
  split at hy
  ·rename_i nf;subst nf
   simp only [Aa] at hy;subst hy
   exact ⟨us,ll,Agu,(m.cells Wd e us x fv).and_right⟩
  ·rename_i nf
   obtain ⟨nD,TS,ng,xp⟩:=h6 i y hy
   exact ⟨nD,TS,cell i nD (Gb nf) TS ng,(m.cells fr e nD y xp).and_left⟩
 ·refine ⟨Fs.set j F,by simp [t1],Cg.2 ⟨λhm=>?_,RH.1⟩,λb hb=>?_,λi y G hy hG=>?_⟩
  ·rcases RH.2 _ hm with h8|h8
   ·exact (Cg.1 t2).1 h8
   ·exact hng _ h8 rfl
  ·exact (RH.2 b hb).imp (t3 b) id
  ·rw [Em] at hy hG
   split at hy
   ·rename_i nf;subst nf
    rw [Ab rfl] at hG
    rw [Ab (by omega)] at hG
    simp only [Aa] at hy hG;subst hy;subst hG
    exact ⟨us,ll,Agu,hF.Fm _ _ _ _ (by simp) λb hb=>setRow_other w r.g b _ (hng b hb)⟩
   ·rename_i nf
    rw [Ak nf] at hG
    obtain ⟨nD,TS,ng,xp⟩:=t4 i y G hy hG
    exact ⟨nD,TS,cell i nD (Gb nf) TS ng,xp.Fm _ _ _ _ (by simp) λb hb=>setRow_other w r.g b _ λe=>(Cg.1 t2).1 (Hi.2 ⟨G,Cp hG,e▸hb⟩)⟩
theorem TI {st:St} {a:Act} (h:Bl X π st a w) {τ:Ty} {l:Nat} {x:AV} {vx:Value} (hx:Bq X w π st.heap x vx):Bq X w π st.heap (YV T st τ l x) vx:=by
 unfold YV
 split
 ·rename_i hc
  split
  ·rename_i p hp
   have:=Mo τ x vx p.1 p.2 (Ct.1 hc).2 hx hp
   exact Da.Ii this λb _ hA=>hA.imp id (Or.imp id λ⟨h1,_⟩=>by cases h1)
  ·exact hx
 ·exact hx
theorem rP (hT:Ef P T) {st:St} {a:Act} (h:Bl X π st a w) (t:TypeId) (p x:AV) (vp vx:Value) (hp:Bq X w π st.heap p vp) (hx:Bq X w π st.heap x vx) (st':St)
  (he:Vb T st t p x=some st'): ∃w' π',(Instr.storeAt t vp vx).run P w= .ok () w'/\Bl X π' st' a w':=by
 unfold Vb at he
 split at he
 ·rename_i τ l i ht
  split at he
  ·rename_i tid vs cs hl hc
   split at he
   ·rename_i hle
    simp only [Aa] at he
    obtain ⟨w',h1,h2⟩:=BV hT h ht hp (TI h hx) hl hc hle
    split at he
    ·rename_i Jk
     simp only [Ai,Mw] at Jk
     subst he
     obtain ⟨XJ,h3⟩:=fO (T:=T) l i t τ cs.length 0 _ π (by omega) h2
     exact ⟨w',XJ,h1,h3⟩
    ·subst he
     exact ⟨w',π,h1,h2⟩
   ·cases he
  ·cases he
 ·rename_i τ l j ht
  split at he
  ·rename_i x' st1 hs
   obtain ⟨cm,h1,h2,h3,h4,h5⟩:=c7 h hx hs
   split at he
   ·rename_i fr tr e tid xs Wd y hl hv
    split at he
    ·rename_i lu;subst lu
     split at he
     ·rename_i hj
      simp only [Aa] at he;subst he
      obtain ⟨r,b,sz,n,g1,g0,g2,g3,rfl⟩:=hp
      obtain ⟨k1,b',f,k2,k3⟩:=h4 l _ hl
      rw [g1] at k2;cases k2
      have g4:=Cx OB.row k3
      rw [show (OB.map f b).row=b.row by cases b<;>rfl,g0] at g4
      simp only [OB.row,Aa,Ah] at g4
      obtain ⟨rfl,rfl⟩:=g4
      cases nX:(tr&&(Th st x&&τ.tree)) with
      |false=>
       obtain ⟨w',q1,q2⟩:=BT hT h1 ht (k1.trans g3) hl hj (Mo _ x' vx Wd y h3 h2 hv)
       exact ⟨w',cm,q1,q2⟩
      |true=>
       simp only [Ai] at nX
       obtain ⟨rfl,htv,lu⟩:=nX
       obtain ⟨F,us,f1,f2,f3,_⟩:=h5 htv τ Wd y lu hv
       obtain ⟨w',q1,q2⟩:=wQ hT h1 ht (k1.trans g3) hl hj (Mo _ x' vx Wd y h3 h2 hv) f1 f2 f3
       exact ⟨w',_,q1,q2⟩
     ·cases he
    ·cases he
   ·cases he
  ·cases he
 ·cases he
theorem uN {S:Nat->Prop} {e:Ty} {v:Value} {ys:List e.den} (h:Cells w S (.slice e) [v] ys):
  ∃ad c,v= .slice ad ys.length c/\(ys= []\/ ∃g o,ad=some ⟨g,o,none⟩/\ ∃news:List Value,news.length=ys.length*e.size/\(∀j u,news[j]?=some u->w.cell? ⟨g,o+j,none⟩=some u)/\(∀u∈news,u.oneCell'=true)/\(∀j u,j<ys.length*e.size->w.cell? ⟨g,o+j,none⟩=some u->news[j]?=some u)/\
   ∀(i:Nat) (y:e.den),ys[i]?=some y-> ∃es:List Value,es.length=e.size/\(∀j u,es[j]?=some u->news[i*e.size+j]?=some u)/\Cells w S e es y):=by
 simp only [Cells] at h
 obtain ⟨ad,len,cap,hv,hl,tz,LV⟩:=h
 simp only [Gu,Oa] at hv
 subst hl
 refine ⟨ad,cap,hv,?_⟩
 rcases LV with h0|⟨g,o,rfl,hg,hn,Kf⟩
 ·exact .inl h0
 ·right
  refine ⟨g,o,rfl,(List.range (ys.length*e.size)).map λj=>(w.cell? ⟨g,o+j,none⟩).getD undef,by simp,?_⟩
  have key: ∀k,k<ys.length*e.size-> ∃u,w.cell? ⟨g,o+k,none⟩=some u/\u.oneCell'=true:=by
   intro k hk
   have hs:0<e.size:=by
    rcases Tl e.size with h|h
    ·rw [h] at hk;simp at hk
    ·exact h
   have hi:k/e.size<ys.length:=(Nat.div_lt_iff_lt_mul hs).2 hk
   obtain ⟨es,fv,hc,bM⟩:=Kf (k/e.size) _ (Ad hi)
   have hm:k%e.size<es.length:=by rw [fv];exact Nat.mod_lt _ hs
   have:=hc (k%e.size) _ (Ad hm)
   rw [Gs,show k/e.size*e.size+k%e.size=k by rw [Nat.mul_comm];exact Nat.div_add_mod k e.size] at this
   exact ⟨_,this,Cells.plain e es _ bM _ (An hm)⟩
  refine ⟨λj u hu=>?_,λu hu=>?_,λj u hj hu=>by rw [Ex,Qz hj];simp [hu],λi y hy=>?_⟩
  ·rw [Ex] at hu
   have hj:j<ys.length*e.size:=by
    by_cases hj:j<ys.length*e.size
    ·exact hj
    ·rw [Ee (by simpa using hj)] at hu;cases hu
   rw [Qz hj] at hu
   obtain ⟨u',ic,_⟩:=key j hj
   simp only [Am,ic,Bx,Aa] at hu
   rw [ic,hu]
  ·obtain ⟨j,hj,rfl⟩:=Ba.1 hu
   obtain ⟨u',ic,h1⟩:=key j (Es.1 hj)
   rw [ic];exact h1
  ·obtain ⟨es,fv,hc,bM⟩:=Kf i y hy
   refine ⟨es,fv,λj u hu=>?_,bM⟩
   have hi:=(Ao.1 hy).1
   have hj:=(Ao.1 hu).1
   have Jc:i*e.size+j<ys.length*e.size:=by
    have:(i+1)*e.size<=ys.length*e.size:=Et _ (by omega)
    rw [Dh,Rx] at this
    omega
   rw [Ex,Qz Jc]
   have:=hc j u hu
   rw [Gs] at this
   simp [this]
end
end Go.Proofs.Ytkkdpknjohcekaa
