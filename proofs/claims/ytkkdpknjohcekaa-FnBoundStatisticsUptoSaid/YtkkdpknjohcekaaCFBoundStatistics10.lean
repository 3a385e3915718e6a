/-
  Part 11 of the proof that the statement FnBoundStatistics holds.
-/
import Derived.Test.YtkkdpknjohcekaaCFBoundStatistics09
namespace Go.Proofs.Ytkkdpknjohcekaa
open Go.RowKit
section
variable {P:Program} {T:Tab} {X:Ctx} {w w':World} {π:Pi} {H:List (Nat×OB)}
theorem OB.map_map (f g:AC->AC) (b:OB):OB.map g (OB.map f b)=OB.map (λc=>g (f c)) b:=by
 cases b with
 |var t vs=>simp [OB.map,Function.comp_def]
 |_=>rfl
theorem OB.FM (b:OB):OB.map (λc=>c) b=b:=by
 cases b with
 |var t vs=>simp [OB.map]
 |_=>rfl
def Ky (π π':Pi) (H H':List (Nat×OB)):Prop:= ∀l b',At H' l=some b'->π' l=π l/\ ∃b f,At H l=some b/\b'=OB.map f b
theorem Ky.refl (π:Pi) (H:List (Nat×OB)):Ky π π H H:= λ_ b h=>⟨rfl,b,λc=>c,h,(OB.FM b).symm⟩
theorem Ky.trans {cj WC π3:Pi} {H1 H2 H3:List (Nat×OB)} (h:Ky cj WC H1 H2) (h':Ky WC π3 H2 H3):Ky cj π3 H1 H3:= λl b hb=>by
 obtain ⟨e1,b1,f1,h1,rfl⟩:=h' l b hb
 obtain ⟨e2,b2,f2,h2,rfl⟩:=h l b1 h1
 exact ⟨e1.trans e2,b2,_,h2,OB.map_map f2 f1 b2⟩
theorem Ky.freeze (st:St) (l:Nat) (fr:Bool) (e:Ty) (xs:List e.den):Ky π (Xg π l none) st.heap (st.freeze l fr e xs).heap:= λk b hb=>by
 by_cases hk:k=l
 ·subst hk;rw [St.Mi] at hb;cases hb
 ·rw [St.Rx st l k fr e xs hk] at hb
  cases h0:At st.heap k with
  |none=>rw [h0] at hb;cases hb
  |some b0=>
   rw [h0] at hb
   simp only [Am,Aa] at hb
   exact ⟨Gj π none hk,b0,_,rfl,hb.symm⟩
theorem Ky.Jb (st:St) (l:Nat) (v:Ty) (m:ByteArray->Option v.den):Ky π (Xg π l none) st.heap (st.Jb l v m).heap:= λk b hb=>by
 by_cases hk:k=l
 ·subst hk;rw [St.Tg] at hb;cases hb
 ·rw [St.Re st l k v m hk] at hb
  cases h0:At st.heap k with
  |none=>rw [h0] at hb;cases hb
  |some b0=>
   rw [h0] at hb
   simp only [Am,Aa] at hb
   exact ⟨Gj π none hk,b0,_,rfl,hb.symm⟩
theorem Ky.gone {π':Pi} {H':List (Nat×OB)} (k:Ky π π' H H') {l:Nat} (h:At H l=none):At H' l=none:=by
 cases hb:At H' l with
 |none=>rfl
 |some b=>
  obtain ⟨_,b0,f,h1,_⟩:=k l b hb
  rw [h] at h1;cases h1
def Dk (st:St):AC->AC
 | .own l off len=>match st.at l with
  |some (.arr fr _ e _ xs)=> .data fr (.slice e) ((xs.drop off).take len)
  |some (.Gu e _ xs)=> .data false (.slice e) ((xs.drop off).take len)
  |_=> .own l off len
 | .Ks l=>match st.at l with
  |some (.Vu v m)=> .data false (.smap v) m
  |_=> .Ks l
 |c=>c
theorem Tl {st:St} {c:AC} (h:c.settled=true):Dk st c=c:=by
 cases c<;>simp [AC.settled] at h<;>rfl
theorem wm {st st':St} {f:AC->AC} {l:Nat} (hH: ∀m,m≠l->At st'.heap m=(At st.heap m).map (OB.map f)) {c:AC} (hc: ∀k∈c.refs,k≠l):Dk st' c=Dk st c:=by
 cases c with
 |own k off len=>
  have hk:k≠l:=hc k (by simp [AC.refs])
  simp only [Dk,St.at,hH k hk]
  cases At st.heap k with
  |none=>rfl
  |some b=>cases b<;>rfl
 |Ks k=>
  have hk:k≠l:=hc k (by simp [AC.refs])
  simp only [Dk,St.at,hH k hk]
  cases At st.heap k with
  |none=>rfl
  |some b=>cases b<;>rfl
 |_=>rfl
theorem gC {a:Act} : ∀(n:Nat) (st:St) (π:Pi) (cs:List AC) (us:List Value) (iz:List AC) (st':St),Bh X π st a w->Fw X w π st.heap cs us->
  Hs n st cs=some (iz,st')-> ∃π',Bh X π' st' a w/\Fw X w π' st'.heap iz us/\iz.all (·.settled)=true/\Ky π π' st.heap st'.heap/\iz=cs.map (Dk st)/\
   (∀k,k∈cs.flatMap AC.refs->At st'.heap k=none)
 |0,st,π,cs,us,iz,st',h,hr,he=>by
  simp only [Hs] at he
  split at he
  ·rename_i hs
   simp only [Aa,Ae] at he
   obtain ⟨rfl,rfl⟩:=he
   have z7:=Ba.1 hs
   exact ⟨π,h,hr,hs,Ky.refl _ _,((Eh λc hc=>Tl (z7 c hc)).trans (List.map_id'' (λ_=>rfl) cs)).symm,λk hk=>by
    obtain ⟨c,hc,BZ⟩:=Ga.1 hk
    have:=z7 c hc
    cases c<;>simp [AC.settled] at this<;>simp [AC.refs] at BZ⟩
  ·cases he
 |n+1,st,π,cs,us,iz,st',h,hr,he=>by
  simp only [Hs] at he
  have step: ∀(f:AC->AC) (l:Nat) (st1:St),Bh X (Xg π l none) st1 a w->Move X w w π (Xg π l none) st.heap st1.heap f->At st1.heap l=none->(∀m,m≠l->At st1.heap m=(At st.heap m).map (OB.map f))->
    Ky π (Xg π l none) st.heap st1.heap->(∀c∈cs,(∀k∈c.refs,k≠l)->f c=c)->(∀c∈cs,l∈c.refs->(f c).refs= []/\(Dk st1 (f c)).settled=true->f c=Dk st c)->
    (∀c∈cs,l∈c.refs->(f c).refs= [])->Hs n st1 (cs.map f)=some (iz,st')->
    ∃π',Bh X π' st' a w/\Fw X w π' st'.heap iz us/\iz.all (·.settled)=true/\Ky π π' st.heap st'.heap/\iz=cs.map (Dk st)/\(∀k,k∈cs.flatMap AC.refs->At st'.heap k=none):=by
   intro f l st1 h1 m hl hH hK hf0 hf1 hf2 he
   obtain ⟨π',h2,h3,h4,h5,h6,h7⟩:=gC n st1 _ (cs.map f) us iz st' h1 (m.acs hr) he
   refine ⟨π',h2,h3,h4,hK.trans h5,?_,λk hk=>?_⟩
   ·rw [h6,List.map_map]
    refine Eh λc hc=>?_
    simp only [Function.comp]
    by_cases Qu:l∈c.refs
    ·have Kl:=Ba.1 h4
     have nw:Dk st1 (f c)∈iz:=by rw [h6];exact Ay.2 ⟨f c,Ay.2 ⟨c,hc,rfl⟩,rfl⟩
     have hs:=Kl _ nw
     have h8:=hf1 c hc Qu ⟨hf2 c hc Qu,hs⟩
     have h9:Dk st1 (f c)=f c:=by
      have:=hf2 c hc Qu
      cases hfc:f c<;>rw [hfc] at this<;>first|(simp [AC.refs] at this;done)|rfl
     rw [h9,h8]
    ·have Iv: ∀k∈c.refs,k≠l:= λk hk e=>Qu (e▸hk)
     rw [hf0 c hc Iv]
     exact wm hH Iv
   ·obtain ⟨c,hc,BZ⟩:=Ga.1 hk
    by_cases Rl:k=l
    ·subst Rl;exact h5.gone hl
    ·by_cases Qu:l∈c.refs
     ·
      have Kl:=Ba.1 h4
      have nw:Dk st1 (f c)∈iz:=by rw [h6];exact Ay.2 ⟨f c,Ay.2 ⟨c,hc,rfl⟩,rfl⟩
      have hs:=Kl _ nw
      have h8:=hf1 c hc Qu ⟨hf2 c hc Qu,hs⟩
      have h9:Dk st1 (f c)=f c:=by
       have:=hf2 c hc Qu
       cases hfc:f c<;>rw [hfc] at this<;>first|(simp [AC.refs] at this;done)|rfl
      rw [h9,h8] at hs
      cases c with
      |clo g Ee=>simp [Dk,AC.settled] at hs
      |own k' _ _=>simp [AC.refs] at Qu BZ;exact absurd (BZ.trans Qu.symm) Rl
      |Ks k'=>simp [AC.refs] at Qu BZ;exact absurd (BZ.trans Qu.symm) Rl
      |Hj k' _=>simp [AC.refs] at Qu BZ;exact absurd (BZ.trans Qu.symm) Rl
      |Kk k' _=>simp [AC.refs] at Qu BZ;exact absurd (BZ.trans Qu.symm) Rl
      |sub k' _ _=>simp [AC.refs] at Qu BZ;exact absurd (BZ.trans Qu.symm) Rl
      |Kh k' _ _=>simp [AC.refs] at Qu BZ;exact absurd (BZ.trans Qu.symm) Rl
      |_=>simp [AC.refs] at BZ
     ·have Iv: ∀k∈c.refs,k≠l:= λk hk e=>Qu (e▸hk)
      exact h7 k (Ga.2 ⟨f c,Ay.2 ⟨c,hc,rfl⟩,by rw [hf0 c hc Iv];exact BZ⟩)
  have CB: ∀(st1:St) (c:AC),(Dk st1 c).settled=true->c≠ .undef:= λst1 c hs e=>by rw [e] at hs;simp [Dk,AC.settled] at hs
  split at he
  ·rename_i hf
   simp only [Aa,Ae] at he
   obtain ⟨rfl,rfl⟩:=he
   have z7: ∀c∈cs,c.settled=true:= λc hc=>by have:=List.find?_eq_none.1 hf c hc;simpa using this
   exact ⟨π,h,hr,Ba.2 z7,Ky.refl _ _,((Eh λc hc=>Tl (z7 c hc)).trans (List.map_id'' (λ_=>rfl) cs)).symm,λk hk=>by
    obtain ⟨c,hc,BZ⟩:=Ga.1 hk
    have:=z7 c hc
    cases c<;>simp [AC.settled] at this<;>simp [AC.refs] at BZ⟩
  ·rename_i l off len hf
   split at he
   ·rename_i fr tr e tid xs hl
    unfold St.at at hl
    obtain ⟨h1,m⟩:=h.freeze (fr:=fr) (.inl ⟨tr,tid,hl⟩)
    refine step _ l _ h1 m (St.Mi st l fr e xs) (λm hm=>St.Rx st l m fr e xs hm) (Ky.freeze st l fr e xs) (λc _ hc=>iM hc) (λc _ Qu hs=>?_) (λc _ Qu=>?_) he
    ·cases c with
     |own k o n=>have:k=l:=(Ad.1 Qu).symm
                 subst this;simp only [Cz,Ac,Dk,St.at,hl]
     |Hj k o=>have:k=l:=(Ad.1 Qu).symm
              subst this;simp only [Cz,Ac] at hs;exact absurd rfl (CB _ _ hs.2)
     |Kk k o=>have:k=l:=(Ad.1 Qu).symm
              subst this;simp only [Cz,Ac] at hs;exact absurd rfl (CB _ _ hs.2)
     |sub k o o2=>have:k=l:=(Ad.1 Qu).symm
                  subst this;simp only [Cz,Ac] at hs;exact absurd rfl (CB _ _ hs.2)
     |Kh k o o2=>have:k=l:=(Ad.1 Qu).symm
                 subst this;simp only [Cz,Ac] at hs;exact absurd rfl (CB _ _ hs.2)
     |Ks k=>have:k=l:=(Ad.1 Qu).symm
            subst this;simp only [Cz,Ac] at hs;exact absurd rfl (CB _ _ hs.2)
     |clo g Ee=>
      simp only [Cz] at hs
      rw [Ac (by simpa [AC.refs] using Qu)] at hs
      exact absurd rfl (CB _ _ hs.2)
     |_=>simp [AC.refs] at Qu
    ·cases c with
     |own k o n=>have:k=l:=(Ad.1 Qu).symm
                 subst this;simp only [Cz,Ac];rfl
     |Hj k o=>have:k=l:=(Ad.1 Qu).symm
              subst this;simp only [Cz,Ac];rfl
     |Kk k o=>have:k=l:=(Ad.1 Qu).symm
              subst this;simp only [Cz,Ac];rfl
     |sub k o o2=>have:k=l:=(Ad.1 Qu).symm
                  subst this;simp only [Cz,Ac];rfl
     |Kh k o o2=>have:k=l:=(Ad.1 Qu).symm
                 subst this;simp only [Cz,Ac];rfl
     |Ks k=>have:k=l:=(Ad.1 Qu).symm
            subst this;simp only [Cz,Ac];rfl
     |clo g Ee=>simp only [Cz];rw [Ac (by simpa [AC.refs] using Qu)];rfl
     |_=>simp [AC.refs] at Qu
   ·rename_i e tid xs hl
    unfold St.at at hl
    obtain ⟨h1,m⟩:=h.freeze (fr:=false) (.inr ⟨rfl,tid,hl⟩)
    refine step _ l _ h1 m (St.Mi st l false e xs) (λm hm=>St.Rx st l m false e xs hm) (Ky.freeze st l false e xs) (λc _ hc=>iM hc) (λc _ Qu hs=>?_) (λc _ Qu=>?_) he
    ·cases c with
     |own k o n=>have:k=l:=(Ad.1 Qu).symm
                 subst this;simp only [Cz,Ac,Dk,St.at,hl]
     |Hj k o=>have:k=l:=(Ad.1 Qu).symm
              subst this;simp only [Cz,Ac] at hs;exact absurd rfl (CB _ _ hs.2)
     |Kk k o=>have:k=l:=(Ad.1 Qu).symm
              subst this;simp only [Cz,Ac] at hs;exact absurd rfl (CB _ _ hs.2)
     |sub k o o2=>have:k=l:=(Ad.1 Qu).symm
                  subst this;simp only [Cz,Ac] at hs;exact absurd rfl (CB _ _ hs.2)
     |Kh k o o2=>have:k=l:=(Ad.1 Qu).symm
                 subst this;simp only [Cz,Ac] at hs;exact absurd rfl (CB _ _ hs.2)
     |Ks k=>have:k=l:=(Ad.1 Qu).symm
            subst this;simp only [Cz,Ac] at hs;exact absurd rfl (CB _ _ hs.2)
     |clo g Ee=>
      simp only [Cz] at hs
      rw [Ac (by simpa [AC.refs] using Qu)] at hs
      exact absurd rfl (CB _ _ hs.2)
     |_=>simp [AC.refs] at Qu
    ·cases c with
     |own k o n=>have:k=l:=(Ad.1 Qu).symm
                 subst this;simp only [Cz,Ac];rfl
     |Hj k o=>have:k=l:=(Ad.1 Qu).symm
              subst this;simp only [Cz,Ac];rfl
     |Kk k o=>have:k=l:=(Ad.1 Qu).symm
              subst this;simp only [Cz,Ac];rfl
     |sub k o o2=>have:k=l:=(Ad.1 Qu).symm
                  subst this;simp only [Cz,Ac];rfl
     |Kh k o o2=>have:k=l:=(Ad.1 Qu).symm
                 subst this;simp only [Cz,Ac];rfl
     |Ks k=>have:k=l:=(Ad.1 Qu).symm
            subst this;simp only [Cz,Ac];rfl
     |clo g Ee=>simp only [Cz];rw [Ac (by simpa [AC.refs] using Qu)];rfl
     |_=>simp [AC.refs] at Qu
   ·cases he
  ·rename_i l hf
   split at he
   ·rename_i v mm hl
    unfold St.at at hl
    obtain ⟨h1,m⟩:=h.Jb hl
    refine step _ l _ h1 m (St.Tg st l v mm) (λm hm=>St.Re st l m v mm hm) (Ky.Jb st l v mm) (λc _ hc=>sY hc) (λc _ Qu hs=>?_) (λc _ Qu=>?_) he
    ·cases c with
     |Ks k=>have:k=l:=(Ad.1 Qu).symm
            subst this;simp only [Gy,Ac,Dk,St.at,hl]
     |Hj k o=>have:k=l:=(Ad.1 Qu).symm
              subst this;simp only [Gy,Ac] at hs;exact absurd rfl (CB _ _ hs.2)
     |Kk k o=>have:k=l:=(Ad.1 Qu).symm
              subst this;simp only [Gy,Ac] at hs;exact absurd rfl (CB _ _ hs.2)
     |sub k o o2=>have:k=l:=(Ad.1 Qu).symm
                  subst this;simp only [Gy,Ac] at hs;exact absurd rfl (CB _ _ hs.2)
     |Kh k o o2=>have:k=l:=(Ad.1 Qu).symm
                 subst this;simp only [Gy,Ac] at hs;exact absurd rfl (CB _ _ hs.2)
     |own k o n=>have:k=l:=(Ad.1 Qu).symm
                 subst this;simp only [Gy,Ac] at hs;exact absurd rfl (CB _ _ hs.2)
     |clo g Ee=>
      simp only [Gy] at hs
      rw [Ac (by simpa [AC.refs] using Qu)] at hs
      exact absurd rfl (CB _ _ hs.2)
     |_=>simp [AC.refs] at Qu
    ·cases c with
     |own k o n=>have:k=l:=(Ad.1 Qu).symm
                 subst this;simp only [Gy,Ac];rfl
     |Hj k o=>have:k=l:=(Ad.1 Qu).symm
              subst this;simp only [Gy,Ac];rfl
     |Kk k o=>have:k=l:=(Ad.1 Qu).symm
              subst this;simp only [Gy,Ac];rfl
     |sub k o o2=>have:k=l:=(Ad.1 Qu).symm
                  subst this;simp only [Gy,Ac];rfl
     |Kh k o o2=>have:k=l:=(Ad.1 Qu).symm
                 subst this;simp only [Gy,Ac];rfl
     |Ks k=>have:k=l:=(Ad.1 Qu).symm
            subst this;simp only [Gy,Ac];rfl
     |clo g Ee=>simp only [Gy];rw [Ac (by simpa [AC.refs] using Qu)];rfl
     |_=>simp [AC.refs] at Qu
   ·cases he
  ·cases he
def gX (X:Ctx) (w:World) (π:Pi) (F:List Nat):Prop:=F.Nodup/\ ∀b∈F,(X.w0.heap.size<=b\/X.gv b)/\b<w.heap.size/\ ∀l r,π l=some r-> ¬r.cl b
theorem Yj {S:Nat->Prop} : ∀(e:Ty) (es:List Value) (x:e.den),e.flat=true->Cells w S e es x->De w [] e es x
 | .int k,cs,n,_,h=>⟨rfl,h⟩
 | .bool,cs,n,_,h=>⟨rfl,h⟩
 | .str,cs,n,_,h=>⟨rfl,h⟩
 | .unit,cs,n,_,h=>⟨rfl,h⟩
 | .pair a r,cs,x,hf,h=>by
  simp only [Ty.flat,Af] at hf
  simp only [Cells] at h
  simp only [De]
  obtain ⟨c1,c2,h1,h2,h3⟩:=h
  exact ⟨c1,c2,[],[],h1,rfl,Yj a c1 x.1 hf.1 h2,Yj r c2 x.2 hf.2 h3⟩
 | .slice _,_,_,hf,_=>by simp [Ty.flat] at hf
 | .oslice _,_,_,hf,_=>by simp [Ty.flat] at hf
 | .ptr _,_,_,hf,_=>by simp [Ty.flat] at hf
 | .optr _,_,_,hf,_=>by simp [Ty.flat] at hf
 | .smap _,_,_,hf,_=>by simp [Ty.flat] at hf
 | .clo _ _,_,_,hf,_=>by simp [Ty.flat] at hf
theorem Ss {Fs:List (List Nat)} (off len:Nat) (b:Nat) (h:b∈List.flatten ((Fs.drop off).take len)):b∈List.flatten Fs:=by
 obtain ⟨F,hF,hb⟩:=Hp.1 h
 exact Hp.2 ⟨F,Vx (Et hF),hb⟩
theorem gG {α:Type} {a b:List (List α)} (h:a.Sublist b):(List.flatten a).Sublist (List.flatten b):=by
 induction h with
 |slnil=>exact List.Sublist.refl _
 |cons c _ ih=>simp only [Lf];exact ih.trans (List.sublist_append_right _ _)
 |cons_cons c _ ih=>simp only [Lf];exact List.Sublist.append (List.Sublist.refl _) ih
theorem mh {Fs:List (List Nat)} (off len:Nat) (h:(List.flatten Fs).Nodup):(List.flatten ((Fs.drop off).take len)).Nodup:=by
 have h1:((Fs.drop off).take len).Sublist Fs:=(List.take_sublist len _).trans (List.drop_sublist off Fs)
 exact h.sublist (gG h1)
theorem ky {P:Nat->Prop} {r:Real} {off len:Nat} {v:Value} {e:Ty} {tid:TypeId} {xs:List e.den} {cur:Array Value} (h2:w.heap[r.g]?=some (.cells cur tid (0,0))) (aB:cur.size=(r.o+r.cap)*e.size) (tj:r.cap<=maxLen)
  (hlen:off+len<=xs.length) (hv:Ia (some r) e.size off len v) (ht:Xx w P r.g r.o cur e xs) (hg:P r.g):
  ∃F,De w F (.slice e) [v] ((xs.drop off).take len)/\F.Nodup/\ ∀b∈F,P b:=by
 have SN:((xs.drop off).take len).length=len:=by simp;omega
 obtain ⟨ad,rfl,hc,ha⟩:=hv
 obtain ⟨Fs,t1,t2,t3,t4⟩:=ht
 ·refine ⟨r.g::List.flatten ((Fs.drop off).take len),⟨some ad,len,r.cap-off,rfl,SN.symm,by omega, .inr ⟨ad,r.g,(r.o+off)*e.size,_,rfl,λh0=>ha (by omega),⟨cur,tid,r.o+off,h2,rfl,by rw [aB];congr 1;omega,by omega⟩,rfl,by simp;omega,λi x F hx hF=>?_⟩⟩,?_,λb hb=>?_⟩
  ·have hi:i<len:=by
    have:=(An.1 hx).1
    rw [SN] at this;exact this
   have hx':xs[off+i]?=some x:=by rw [Cx,Ac hi,Dd] at hx;exact hx
   have hF':Fs[off+i]?=some F:=by rw [Cx,Ac hi,Dd] at hF;exact hF
   obtain ⟨es,he,hj,yV⟩:=t4 (off+i) x F hx' hF'
   refine ⟨es,he,λj u hu=>?_,yV⟩
   rw [cellOf h2]
   have:=hj j u hu
   rw [<-this]
   congr 1
   rw [<-Gq,Dg (r.o+off) i]
  ·have:=Bx.1 t2
   exact Bx.2 ⟨λhm=>this.1 (Ss off len _ hm),mh off len this.2⟩
  ·rcases Bc.1 hb with rfl|hb
   ·exact hg
   ·exact t3 b (Ss off len b hb)
theorem ou {st:St} (h:Ng X w π st.heap) {c:AC} {v:Value} (hc:Hq X w π st.heap c v) (ht:Sl st c=true) (τ:Ty) (fr:Bool) (x:τ.den) (Ua:τ.Ao=false) (SO:τ.tree=true)
  (hv:Dm st τ (Dk st c)=some (fr,x)): ∃F,De w F τ [v] x/\F.Nodup/\ ∀b∈F,∃l r,l∈c.refs/\π l=some r/\r.cl b:=by
 cases c with
 |data Wh Ok y=>
  simp only [Sl] at ht
  simp only [Dk,Oc] at hv
  split at hv
  ·rename_i he;subst he
   simp only [Aa,Ae] at hv
   obtain ⟨_,rfl⟩:=hv
   exact ⟨[],Yj Ok _ _ ht (Cw.Sh Ua hc),Nm,λb hb=>by cases hb⟩
  ·unfold iy at hv
   split at hv
   ·simp [Ty.flat] at ht
   ·simp [Ty.flat] at ht
   ·cases hv
 |Ly=>
  have hc:v= .slice none 0 0:=hc
  subst hc
  cases τ with
  |slice e=>
   simp only [Dk,Dm,Aa,Ae] at hv
   obtain ⟨_,rfl⟩:=hv
   exact ⟨[],⟨none,0,0,rfl,rfl,Ap _, .inl ⟨rfl,rfl,rfl,rfl⟩⟩,Nm,λb hb=>by cases hb⟩
  |oslice e=>simp [Ty.tree] at SO
  |_=>simp [Dk,Dm] at hv
 |own l off len=>
  simp only [Sl] at ht
  split at ht
  ·rename_i Wh tr e tid xs hl
   have Ke:=hl
   unfold St.at at hl
   simp only [Dk,Ke,Oc] at hv
   split at hv
   ·rename_i he;subst he
    simp only [Aa,Ae] at hv
    obtain ⟨_,rfl⟩:=hv
    obtain ⟨h2,h3⟩:=Ot hc hl
    have hb:=(h.heap l).Rp hl
    simp only [Cj,Ki] at hb
    cases hp:π l with
    |none=>
     rw [hp] at h3
     obtain ⟨rfl,rfl,rfl⟩:=h3
     exact ⟨[],⟨none,0,0,rfl,by simp,Ap _, .inl ⟨by simp,rfl,rfl,rfl⟩⟩,Nm,λb hb=>by cases hb⟩
    |some r=>
     rw [hp] at hb h3
     obtain ⟨k1,cur,_,k2,k3,k4,k5,k6,k7⟩:=hb
     have QK:Xx w r.cl r.g r.o cur e xs:=by
      simp only [Lu] at ht
      rcases ht with ht|ht
      ·exact k7 ht
      ·refine ⟨List.replicate xs.length [],by simp,by simp,by simp,λi x F hx hF=>?_⟩
       obtain ⟨es,e1,e2,e3⟩:=k6 i x hx
       have:F= []:=by
        have:=Cm hF
        exact Fk this
       subst this
       exact ⟨es,e1,e2,Yj e es x ht e3⟩
     obtain ⟨F,f1,f2,f3⟩:=ky k2 k3 k4 h2 h3 QK (h.sub l r _ hp k1.1)
     exact ⟨F,f1,f2,λb hb=>⟨l,r,by simp [AC.refs],hp,f3 b hb⟩⟩
   ·cases τ<;>simp [iy] at hv
  ·rename_i e tid xs hl
   have Ke:=hl
   unfold St.at at hl
   simp only [Dk,Ke,Oc] at hv
   split at hv
   ·rename_i he;subst he
    simp only [Aa,Ae] at hv
    obtain ⟨_,rfl⟩:=hv
    obtain ⟨h2,h3⟩:=c5 hc hl
    have hb:=(h.heap l).Rp hl
    simp only [Cj,Oe] at hb
    cases hp:π l with
    |none=>
     rw [hp] at h3
     obtain ⟨rfl,rfl,rfl⟩:=h3
     exact ⟨[],⟨none,0,0,rfl,by simp,Ap _, .inl ⟨by simp,rfl,rfl,rfl⟩⟩,Nm,λb hb=>by cases hb⟩
    |some r=>
     rw [hp] at hb h3
     obtain ⟨k1,cur,_,k2,k3,k4,k5,k7⟩:=hb
     obtain ⟨F,f1,f2,f3⟩:=ky k2 k3 k4 h2 h3 k7 k1
     exact ⟨F,f1,f2,λb hb=>⟨l,r,by simp [AC.refs],hp,h.sub l r b hp (f3 b hb)⟩⟩
   ·cases τ<;>simp [iy] at hv
  ·cases ht
 |_=>simp [Sl] at ht
theorem Yp: ∀ {l:List Nat},aq l=true->l.Nodup
 | [],_=>Nm
 |a::r,h=>by
  simp only [aq,Af,Fz,List.contains_eq_mem,decide_eq_false_iff_not] at h
  exact Bx.2 ⟨h.1,Yp h.2⟩
theorem aZ {st st':St} {τ:Ty} {c:AC} (h:c.settled=true):Dm st' τ c=Dm st τ c:=by
 cases c<;>simp [AC.settled] at h<;>cases τ<;>rfl
theorem wC {st st':St} (h:Ng X w π st.heap): ∀(τ:Ty) (cs:List AC) (us:List Value) (fr:Bool) (x:τ.den),Fw X w π st.heap cs us->cs.all (Sl st)=true->(cs.flatMap AC.refs).Nodup->
  (cs.map (Dk st)).all (·.settled)=true->τ.tree=true->Ey st' τ (cs.map (Dk st))=some (fr,x)-> ∃F,De w F τ us x/\F.Nodup/\ ∀b∈F,∃l r,l∈cs.flatMap AC.refs/\π l=some r/\r.cl b:=by
 have one: ∀(τ:Ty) (cs:List AC) (us:List Value) (fr:Bool) (x:τ.den),τ.Ao=false->Fw X w π st.heap cs us->cs.all (Sl st)=true->
   (cs.map (Dk st)).all (·.settled)=true->τ.tree=true->Ey st' τ (cs.map (Dk st))=some (fr,x)-> ∃F,De w F τ us x/\F.Nodup/\ ∀b∈F,∃l r,l∈cs.flatMap AC.refs/\π l=some r/\r.cl b:=by
  intro τ cs us fr x Ua hr ht hs Vg hv
  rw [Uf Ua] at hv
  rcases cs with _|⟨c,_|⟨d,cs⟩⟩
  ·cases hv
  ·simp only [Bm,List.map_nil] at hv
   obtain ⟨u,hu,_,hc⟩:=hr.2 0 c rfl
   have hl:us.length=1:=hr.1
   obtain ⟨u',rfl⟩:=Eb.1 hl
   simp at hu;subst hu
   rw [aZ (st:=st) (by simpa using hs)] at hv
   obtain ⟨F,f1,f2,f3⟩:=ou h hc (by simpa using ht) τ fr x Ua Vg hv
   exact ⟨F,f1,f2,λb hb=>by obtain ⟨l,r,g1,g2⟩:=f3 b hb;exact ⟨l,r,by simpa using g1,g2⟩⟩
  ·cases hv
 intro τ
 induction τ with
 |unit=>
  intro cs us fr x hr ht hd hs Vg hv
  cases cs with
  |nil=>have:us= []:=Cl hr.1;subst this;exact ⟨[],⟨rfl,rfl⟩,Nm,λb hb=>by cases hb⟩
  |cons c cs=>simp [Ey] at hv
 |pair a r gV gR=>
  intro cs us fr x hr ht hd hs Vg hv
  simp only [Ty.tree,Af] at Vg
  simp only [Ey] at hv
  split at hv
  ·rename_i f1 y f2 z h1 h2
   simp only [Aa,Ae] at hv
   obtain ⟨rfl,rfl⟩:=hv
   have hr1:Fw X w π st.heap (cs.take a.size) (us.take a.size):=by have:=a9 hr 0 a.size;simpa using this
   have hr2:Fw X w π st.heap (cs.drop a.size) (us.drop a.size):=
    ⟨by simp [hr.1],λi c hc=>by
     rw [Dd] at hc⊢
     exact hr.2 _ c hc⟩
   have Anx: ∀ {p:AC->Bool} {l:List AC} (n:Nat),l.all p=true->(l.take n).all p=true:= λn hl=>Ba.2 λc hc=>Ba.1 hl c (Et hc)
   have Anz: ∀ {p:AC->Bool} {l:List AC} (n:Nat),l.all p=true->(l.drop n).all p=true:= λn hl=>Ba.2 λc hc=>Ba.1 hl c (Vx hc)
   have hdd:((cs.take a.size++cs.drop a.size).flatMap AC.refs).Nodup:=by rw [Ik];exact hd
   rw [List.flatMap_append] at hdd
   obtain ⟨d1,d2,d3⟩:=Dt.1 hdd
   rw [<-List.map_take] at h1
   rw [<-List.map_drop] at h2
   obtain ⟨F1,t1,n1,c1⟩:=gV _ _ f1 y hr1 (Anx _ ht) d1 (by rw [List.map_take];exact Anx _ hs) Vg.1 h1
   obtain ⟨F2,t2,n2,c2⟩:=gR _ _ f2 z hr2 (Anz _ ht) d2 (by rw [List.map_drop];exact Anz _ hs) Vg.2 h2
   refine ⟨F1++F2,⟨us.take a.size,us.drop a.size,F1,F2,(Ik _ _).symm,rfl,t1,t2⟩,Dt.2 ⟨n1,n2,λb hb b' vq e=>?_⟩,λb hb=>?_⟩
   ·subst e
    obtain ⟨l1,r1,g1,g2,g3⟩:=c1 b hb
    obtain ⟨l2,r2,g4,g5,g6⟩:=c2 b vq
    exact d3 l1 g1 l2 g4 (h.inj l1 l2 r1 r2 b g2 g5 g3 g6)
   ·have Kl: ∀l,(l∈(cs.take a.size).flatMap AC.refs\/l∈(cs.drop a.size).flatMap AC.refs)->l∈cs.flatMap AC.refs:= λl hl=>by
     rw [<-Ax,<-List.flatMap_append,Ik] at hl;exact hl
    rcases Ax.1 hb with hb|hb
    ·obtain ⟨l1,r1,g1,g2⟩:=c1 b hb;exact ⟨l1,r1,Kl l1 (.inl g1),g2⟩
    ·obtain ⟨l1,r1,g1,g2⟩:=c2 b hb;exact ⟨l1,r1,Kl l1 (.inr g1),g2⟩
  ·cases hv
 |_=>exact λcs us fr x hr ht _ hs Vg hv=>one _ cs us fr x rfl hr ht hs Vg hv
theorem PT {π':Pi} {st st':St} {a:Act} (h:Bh X π st a w) (h':Bh X π' st' a w) (k:Ky π π' st.heap st'.heap) {ls:List Nat} (hg: ∀l∈ls,At st'.heap l=none) {F:List Nat} (hF:F.Nodup)
  (hc: ∀b∈F,∃l r,l∈ls/\π l=some r/\r.cl b):gX X w π' F:=by
 refine ⟨hF,λb hb=>?_⟩
 obtain ⟨l,r,h1,h2,h3⟩:=hc b hb
 have hp:=h.1.place l r b h2 h3
 refine ⟨hp.1,hp.2,λl2 r2 h4 h5=>?_⟩
 cases hh:At st'.heap l2 with
 |none=>rw [(h'.1.heap l2).emp hh] at h4;cases h4
 |some b'=>
  have h6:=(k l2 b' hh).1
  rw [h6] at h4
  have:=h.1.inj l l2 r r2 b h2 h4 h3 h5
  subst this
  rw [hg l h1] at hh;cases hh
theorem c8 {st:St} {a:Act} (h:Bh X π st a w) {c:AV} {v:Value} (hc:Bq X w π st.heap c v) {c':AV} {st':St} (he:settle st c=some (c',st')):
  ∃π',Bh X π' st' a w/\Bq X w π' st'.heap c' v/\c'.settled=true/\Ky π π' st.heap st'.heap/\
   (Tp st c=true-> ∀(τ:Ty) (fr:Bool) (x:τ.den),τ.tree=true->Fp st' τ c'=some (fr,x)-> ∃F us,De w F τ us x/\v=Cb τ us/\gX X w π' F/\ ∀b∈F,∃l r,π l=some r/\r.cl b):=by
 have cell: ∀(a0:AC) (st':St) (π':Pi),Hq X w π st.heap a0 v->Bh X π' st' a w->(Dk st a0).settled=true->Ky π π' st.heap st'.heap->(∀l∈a0.refs,At st'.heap l=none)->
   Sl st a0=true-> ∀(τ:Ty) (fr:Bool) (x:τ.den),τ.tree=true->Fp st' τ (.at (Dk st a0))=some (fr,x)-> ∃F us,De w F τ us x/\v=Cb τ us/\gX X w π' F/\ ∀b∈F,∃l r,π l=some r/\r.cl b:=by
  intro a0 st1 cj hr h1 hs hk hg ht τ fr x Vg hv
  by_cases Ua:τ.Ao=true
  ·
   cases EJ:Dk st a0 with
   |data Wh Ok y=>
    rw [EJ,dc] at hv
    split at hv
    ·rename_i het;subst het
     simp only [Aa,Ae] at hv
     obtain ⟨_,rfl⟩:=hv
     cases a0 with
     |data rW τ2 z=>
      simp only [Dk,AC.data.injEq] at EJ
      obtain ⟨rfl,rfl,hz⟩:=EJ
      have hz:=eq_of_heq hz
      subst hz
      obtain ⟨cs,yV,rfl⟩:=hr
      exact ⟨[],cs,Yj _ cs _ ht yV,rfl,⟨Nm,λb hb=>by cases hb⟩,λb hb=>by cases hb⟩
     |own l off len=>
      simp only [Dk] at EJ
      split at EJ
      ·simp only [AC.data.injEq] at EJ;obtain ⟨_,h2,_⟩:=EJ;subst h2;simp [Ty.Ao] at Ua
      ·simp only [AC.data.injEq] at EJ;obtain ⟨_,h2,_⟩:=EJ;subst h2;simp [Ty.Ao] at Ua
      ·cases EJ
     |Ks l=>simp [Sl] at ht
     |_=>simp [Dk] at EJ
    ·cases hv
   |_=>rw [EJ] at hv;simp only [Fp,Ua,Po] at hv;cases hv
  ·simp only [Ho] at Ua
   have EM:Dm st τ (Dk st a0)=some (fr,x):=by
    rw [<-aZ (st:=st) (st':=st1) hs]
    cases EJ:Dk st a0 with
    |data Wh Ok y=>
     rw [EJ,dc] at hv
     rw [Oc]
     split at hv
     ·rename_i het;rw [Jf het];exact hv
     ·rename_i het
      rw [dif_neg het]
      simp only [Ua,Dc,Rn,BK,Oc] at hv
      rw [dif_neg het] at hv
      exact hv
    |Ly=>rw [EJ] at hv;simp only [Fp,Ua,Dc,Rn] at hv;rw [Qs rfl] at hv;exact hv
    |Vt=>rw [EJ] at hv;simp only [Fp,Ua,Dc,Rn] at hv;rw [Qs rfl] at hv;exact hv
    |_=>rw [EJ] at hs;simp [AC.settled] at hs
   obtain ⟨F,f1,f2,f3⟩:=ou h.1 hr ht τ fr x Ua Vg EM
   exact ⟨F,[v],f1,by simp [Cb,Ua],PT h h1 hk hg f2 f3,λb hb=>let ⟨l,r,_,q⟩:=f3 b hb;⟨l,r,q⟩⟩
 unfold settle at he
 split at he
 ·rename_i l off len
  split at he
  ·rename_i fr tr e tid xs hl
   simp only [Aa,Ae] at he
   obtain ⟨rfl,rfl⟩:=he
   obtain ⟨h1,m⟩:=h.freeze (fr:=fr) (.inl ⟨tr,tid,hl⟩)
   have:=m.ac (.own l off len) v hc
   simp only [Cz,Po] at this
   have iP:Dk st (.own l off len)= .data fr (.slice e) ((xs.drop off).take len):=by simp only [Dk,hl]
   refine ⟨_,h1,this,rfl,Ky.freeze st l fr e xs,λht=>?_⟩
   have:=cell (.own l off len) _ _ hc h1 (by rw [iP];rfl) (Ky.freeze st l fr e xs) (λk hk=>by rw [Ad.1 hk];exact St.Mi st l fr e xs) ht
   rw [iP] at this
   exact this
  ·rename_i e tid xs hl
   simp only [Aa,Ae] at he
   obtain ⟨rfl,rfl⟩:=he
   obtain ⟨h1,m⟩:=h.freeze (fr:=false) (.inr ⟨rfl,tid,hl⟩)
   have:=m.ac (.own l off len) v hc
   simp only [Cz,Po] at this
   have iP:Dk st (.own l off len)= .data false (.slice e) ((xs.drop off).take len):=by simp only [Dk,hl]
   refine ⟨_,h1,this,rfl,Ky.freeze st l false e xs,λht=>?_⟩
   have:=cell (.own l off len) _ _ hc h1 (by rw [iP];rfl) (Ky.freeze st l false e xs) (λk hk=>by rw [Ad.1 hk];exact St.Mi st l false e xs) ht
   rw [iP] at this
   exact this
  ·cases he
 ·rename_i l
  split at he
  ·rename_i vt mm hl
   simp only [Aa,Ae] at he
   obtain ⟨rfl,rfl⟩:=he
   obtain ⟨h1,m⟩:=h.Jb hl
   have:=m.ac (.Ks l) v hc
   simp only [Gy,Po] at this
   exact ⟨_,h1,this,rfl,Ky.Jb st l vt mm,λht=>by simp [Tp,Sl] at ht⟩
  ·cases he
 ·rename_i a0 _ _
  split at he
  ·rename_i hs
   simp only [Aa,Ae] at he
   obtain ⟨rfl,rfl⟩:=he
   refine ⟨π,h,hc,hs,Ky.refl _ _,λht=>?_⟩
   have iP:=Tl (st:=st) hs
   have:=cell a0 st π hc h (by rw [iP];exact hs) (Ky.refl _ _) (λk hk=>by
    cases a0<;>simp [AC.settled] at hs<;>simp [AC.refs] at hk) ht
   rw [iP] at this
   exact this
  ·cases he
 ·rename_i cs
  cases hsc:Hs cs.length st cs with
  |none=>rw [hsc] at he;cases he
  |some p=>
   rw [hsc] at he
   simp only [Am,Aa,Ae] at he
   obtain ⟨rfl,rfl⟩:=he
   obtain ⟨us,rfl,hr⟩:=hc
   obtain ⟨π',h2,h3,h4,h5,h6,h7⟩:=gC cs.length st π cs us p.1 p.2 h hr hsc
   refine ⟨π',h2,⟨us,rfl,h3⟩,h4,h5,λht τ fr x Vg hv=>?_⟩
   simp only [Tp,Af] at ht
   simp only [Fp] at hv
   split at hv
   ·rename_i Ua
    rw [h6] at hv h4
    obtain ⟨F,f1,f2,f3⟩:=wC h.1 τ cs us fr x hr ht.1 (Yp ht.2) h4 Vg hv
    exact ⟨F,us,f1,by simp [Cb,Ua],PT h h2 h5 h7 f2 f3,λb hb=>let ⟨l,r,_,q⟩:=f3 b hb;⟨l,r,q⟩⟩
   ·cases hv
 ·simp only [Aa,Ae] at he
  obtain ⟨rfl,rfl⟩:=he
  exact ⟨π,h,hc,rfl,Ky.refl _ _,λht=>by simp [Tp] at ht⟩
 ·cases he
theorem ie {o i j s p:Nat} (Iv:i≠j) (hp:p<s):(o+i)*s+p<(o+j)*s\/(o+j)*s+s<=(o+i)*s+p:=by
 rcases Nat.lt_or_gt_of_ne Iv with h|h
 ·left
  have:(o+i+1)*s<=(o+j)*s:=Ej _ (by omega)
  rw [Dg,So] at this
  omega
 ·right
  have:(o+j+1)*s<=(o+i)*s:=Ej _ (by omega)
  rw [Dg,So] at this
  omega
theorem Ii {α:Type} (l ys:List α) (i k:Nat) (h:i+ys.length<=l.length):(Du l i ys)[k]?=if k<i then l[k]? else if k<i+ys.length then ys[k-i]? else l[k]?:=by
 unfold Du
 have t1:(l.take i).length=i:=by simp;omega
 split
 ·rename_i hk
  rw [Cs,As (by omega),Cx,Ac hk]
 ·split
  ·rename_i hk
   rw [Cs,Ar (by omega),t1,As (by omega)]
  ·rw [Ar (by simp;omega),Dd]
   congr 1
   simp;omega
theorem Je {α:Type} (l ys:List α) (i:Nat) (h:i+ys.length<=l.length):(Du l i ys).length=l.length:=by
 unfold Du;simp;omega
theorem AR (hT:Dz P T) {st:St} {a:Act} (h:Bh X π st a w) {t:TypeId} {e:Ty} (ht:T.ty t=some e) {l j:Nat} {r:Real} {vx:Value} {tid:TypeId} {fr Wh:Bool} {xs:List e.den} {x:e.den}
  (hp:π l=some r) {tr:Bool} (hl:At st.heap l=some (.arr fr tr e tid xs)) (hj:j<xs.length) (hx:Cw w (Da X.w0.heap.size X.Sc π Wh) e vx x):
  ∃w',(Instr.storeAt t (.pointer (some ⟨r.g,(r.o+j)*e.size,none⟩)) vx).run P w= .ok () w'/\Bh X π (st.Kg l (.arr (fr&&Wh) false e tid (xs.set j x))) a w':=by
 have hb:=(h.1.heap l).Rp hl
 simp only [Cj,Ki,hp] at hb
 obtain ⟨h1,cur,ti,h2,h3,h4,h5,h6,_⟩:=hb
 obtain ⟨es,gN,hv⟩:=hx
 have l4:=Cells.len e es x gN
 have Yk:(r.o+j)*e.size+es.length<=cur.size:=by
  have:(r.o+j+1)*e.size<=(r.o+r.cap)*e.size:=Ej _ (by omega)
  rw [Dg (r.o+j) 1,So] at this
  omega
 have Zw:(r.o+j)*e.size+es.length<=cur.toList.length:=by simpa using Yk
 have Vs:=Wu (P:=P) (w:=w) (hT.ty _ _ ht) r.g ((r.o+j)*e.size) vx es (by rw [hv];exact Ld e es x gN) l4 (Cells.plain e es x gN) cur ti h2 Yk
 refine ⟨_,by simp only [Instr.storeAt,Instr.sureAddr];simpa using Vs,?_⟩
 refine h.set hl (b:= .arr (fr&&Wh) false e tid (xs.set j x)) ⟨rfl,by simp⟩ (by rw [hp];exact Nu w r.g _) λm=>?_
 simp only [Cj,Ki,hp]
 refine ⟨⟨h1.1,h1.2.1,λhf=>h1.2.2 (by simp only [Af] at hf;exact hf.1)⟩,_,_,setRow_heap w r.g cur _ ti _ h2,by rw [Gt,Je _ _ _ Zw];simpa using h3,h4,by simpa using h5,λi y hy=>?_,λhf=>by cases hf⟩
 rw [Ds] at hy
 split at hy
 ·rename_i rZ;subst rZ
  simp only [Aa] at hy;subst hy
  refine ⟨es,l4,λk u hu=>?_,(m.cells Wh e es x gN).and_right⟩
  have hk:k<es.length:=(An.1 hu).1
  rw [Ij,Ii _ _ _ _ Zw,Ak (by omega),Ac (by omega)]
  rw [show (r.o+j)*e.size+k-(r.o+j)*e.size=k by omega];exact hu
 ·rename_i rZ
  obtain ⟨mU,he',qn,xd⟩:=h6 i y hy
  refine ⟨mU,he',λk u hu=>?_,(m.cells fr e mU y xd).and_left⟩
  have hk:k<mU.length:=(An.1 hu).1
  have:=qn k u hu
  rw [Ij,Ii _ _ _ _ Zw]
  rcases ie (o:=r.o) (i:=i) (j:=j) (s:=e.size) (p:=k) (Gb rZ) (by omega) with Jr|oD
  ·rw [Ac Jr];simpa using this
  ·rw [Ak (by omega),Ak (by omega)];simpa using this
theorem lj: ∀(Fs:List (List Nat)) (i:Nat) (F':List Nat),(List.flatten Fs).Nodup->F'.Nodup->(∀b∈F',b∉List.flatten Fs)->(List.flatten (Fs.set i F')).Nodup/\ ∀b∈List.flatten (Fs.set i F'),b∈List.flatten Fs\/b∈F'
 | [],i,F',_,_,_=>by simp
 |G::Fs,0,F',hn,s9,hs=>by
  simp only [List.set_cons_zero,Lf] at hn hs⊢
  obtain ⟨n1,n2,n3⟩:=Dt.1 hn
  refine ⟨Dt.2 ⟨s9,n2,λa ha b hb e=>hs a ha (Ci _ (e▸hb))⟩,λb hb=>?_⟩
  rcases Ax.1 hb with hb|hb
  ·exact .inr hb
  ·exact .inl (Ci _ hb)
 |G::Fs,i+1,F',hn,s9,hs=>by
  simp only [List.set_cons_succ,Lf] at hn hs⊢
  obtain ⟨n1,n2,n3⟩:=Dt.1 hn
  obtain ⟨m1,m2⟩:=lj Fs i F' n2 s9 λb hb hm=>hs b hb (Ci _ hm)
  refine ⟨Dt.2 ⟨n1,m1,λa ha b hb e=>?_⟩,λb hb=>?_⟩
  ·subst e
   rcases m2 a hb with h|h
   ·exact n3 a ha a h rfl
   ·exact hs a h (Bi _ ha)
  ·rcases Ax.1 hb with hb|hb
   ·exact .inl (Bi _ hb)
   ·exact (m2 b hb).imp (Ci _) id
theorem wA (hT:Dz P T) {st:St} {a:Act} (h:Bh X π st a w) {t:TypeId} {e:Ty} (ht:T.ty t=some e) {l j:Nat} {r:Real} {vx:Value} {tid:TypeId} {fr Wh:Bool} {xs:List e.den} {x:e.den}
  (hp:π l=some r) (hl:At st.heap l=some (.arr fr true e tid xs)) (hj:j<xs.length) (hx:Cw w (Da X.w0.heap.size X.Sc π Wh) e vx x) {F:List Nat} {us:List Value} (hF:De w F e us x) (YW:vx=Cb e us) (nu:gX X w π F):
  ∃w',(Instr.storeAt t (.pointer (some ⟨r.g,(r.o+j)*e.size,none⟩)) vx).run P w= .ok () w'/\Bh X (Xg π l (some (r.plus F))) (st.Kg l (.arr (fr&&Wh) true e tid (xs.set j x))) a w':=by
 have hb:=(h.1.heap l).Rp hl
 simp only [Cj,Ki,hp] at hb
 obtain ⟨h1,cur,ti,h2,h3,h4,h5,h6,h7⟩:=hb
 obtain ⟨Fs,t1,t2,t3,t4⟩:=h7 trivial
 obtain ⟨es,gN,hv⟩:=hx
 have l4:=Cells.len e es x gN
 have Asn:us=es:=by
  have c1:=Ld e us x (De.cells (S:= λ_=>False) F e us x hF λ_ _ h=>h)
  have c2:=Ld e es x gN
  rw [<-YW,hv,c2] at c1
  simpa using c1.symm
 subst Asn
 have Yk:(r.o+j)*e.size+us.length<=cur.size:=by
  have:(r.o+j+1)*e.size<=(r.o+r.cap)*e.size:=Ej _ (by omega)
  rw [Dg (r.o+j) 1,So] at this
  omega
 have Zw:(r.o+j)*e.size+us.length<=cur.toList.length:=by simpa using Yk
 have Vs:=Wu (P:=P) (w:=w) (hT.ty _ _ ht) r.g ((r.o+j)*e.size) vx us (by rw [hv];exact Ld e us x gN) l4 (Cells.plain e us x gN) cur ti h2 Yk
 have Qk:r.cl r.g:=h.1.sub l r _ hp h1.1
 have hng: ∀b∈F,b≠r.g:= λb hb e=>(nu.2 b hb).2.2 l r hp (e▸Qk)
 have QG:=lj Fs j F (Bx.1 t2).2 nu.1 λb hb hm=>(nu.2 b hb).2.2 l r hp (t3 b hm)
 refine ⟨_,by simp only [Instr.storeAt,Instr.sureAddr];simpa using Vs,?_⟩
 refine h.At9 hl (b:= .arr (fr&&Wh) true e tid (xs.set j x)) ⟨rfl,by simp⟩ hp (λc hc=>⟨(nu.2 c hc).1,(nu.2 c hc).2.1,λm r0 _=>(nu.2 c hc).2.2 m r0⟩) (Nu w r.g _) λm=>?_
 simp only [Cj,Ki]
 have cell: ∀(i:Nat) (mU:List Value),i≠j->mU.length=e.size->(∀k u,mU[k]?=some u->cur[(r.o+i)*e.size+k]?=some u)-> ∀k u,mU[k]?=some u->(Du cur.toList ((r.o+j)*e.size) us).toArray[(r.o+i)*e.size+k]?=some u:=by
  intro i mU jV he' qn k u hu
  have hk:k<mU.length:=(An.1 hu).1
  have:=qn k u hu
  rw [Ij,Ii _ _ _ _ Zw]
  rcases ie (o:=r.o) (i:=i) (j:=j) (s:=e.size) (p:=k) jV (by omega) with Jr|oD
  ·rw [Ac Jr];simpa using this
  ·rw [Ak (by omega),Ak (by omega)];simpa using this
 have Af7: ∀k u,us[k]?=some u->(Du cur.toList ((r.o+j)*e.size) us).toArray[(r.o+j)*e.size+k]?=some u:=by
  intro k u hu
  have hk:k<us.length:=(An.1 hu).1
  rw [Ij,Ii _ _ _ _ Zw,Ak (by omega),Ac (by omega)]
  rw [show (r.o+j)*e.size+k-(r.o+j)*e.size=k by omega];exact hu
 refine ⟨⟨h1.1,h1.2.1,λhf=>h1.2.2 (by simp only [Af] at hf;exact hf.1)⟩,_,_,setRow_heap w r.g cur _ ti _ h2,by rw [Gt,Je _ _ _ Zw,Xu];exact h3,h4,by rw [Cf];exact h5,λi y hy=>?_,λ_=>?_⟩
 ·rw [Ds] at hy
  split at hy
  ·rename_i rZ;subst rZ
   simp only [Aa] at hy;subst hy
   exact ⟨us,l4,Af7,(m.cells Wh e us x gN).and_right⟩
  ·rename_i rZ
   obtain ⟨mU,he',qn,xd⟩:=h6 i y hy
   exact ⟨mU,he',cell i mU (Gb rZ) he' qn,(m.cells fr e mU y xd).and_left⟩
 ·refine ⟨Fs.set j F,by simp [t1],Bx.2 ⟨λhm=>?_,QG.1⟩,λb hb=>?_,λi y G hy hG=>?_⟩
  ·rcases QG.2 _ hm with h8|h8
   ·exact (Bx.1 t2).1 h8
   ·exact hng _ h8 rfl
  ·exact (QG.2 b hb).imp (t3 b) id
  ·rw [Ds] at hy hG
   split at hy
   ·rename_i rZ;subst rZ
    rw [Ac rfl] at hG
    rw [Ac (by omega)] at hG
    simp only [Aa] at hy hG;subst hy;subst hG
    exact ⟨us,l4,Af7,hF.Fb _ _ _ _ (by simp) λb hb=>setRow_other w r.g b _ (hng b hb)⟩
   ·rename_i rZ
    rw [Ak rZ] at hG
    obtain ⟨mU,he',qn,xd⟩:=t4 i y G hy hG
    exact ⟨mU,he',cell i mU (Gb rZ) he' qn,xd.Fb _ _ _ _ (by simp) λb hb=>setRow_other w r.g b _ λe=>(Bx.1 t2).1 (Hp.2 ⟨G,Cm hG,e▸hb⟩)⟩
theorem SE {st:St} {a:Act} (h:Bh X π st a w) {τ:Ty} {l:Nat} {x:AV} {vx:Value} (hx:Bq X w π st.heap x vx):Bq X w π st.heap (XN T st τ l x) vx:=by
 unfold XN
 split
 ·rename_i hc
  split
  ·rename_i p hp
   have:=Mx τ x vx p.1 p.2 (Ce.1 hc).2 hx hp
   exact Cw.Iw this λb _ hA=>hA.imp id (Or.imp id λ⟨h1,_⟩=>by cases h1)
  ·exact hx
 ·exact hx
theorem rh (hT:Dz P T) {st:St} {a:Act} (h:Bh X π st a w) (t:TypeId) (p x:AV) (vp vx:Value) (hp:Bq X w π st.heap p vp) (hx:Bq X w π st.heap x vx) (st':St)
  (he:Vc T st t p x=some st'): ∃w' π',(Instr.storeAt t vp vx).run P w= .ok () w'/\Bh X π' st' a w':=by
 unfold Vc at he
 split at he
 ·rename_i τ l i ht
  split at he
  ·rename_i tid vs cs hl hc
   split at he
   ·rename_i hle
    simp only [Aa] at he
    obtain ⟨w',h1,h2⟩:=AT hT h ht hp (SE h hx) hl hc hle
    split at he
    ·rename_i Jv
     simp only [Af,Nn] at Jv
     subst he
     obtain ⟨WC,h3⟩:=fD (T:=T) l i t τ cs.length 0 _ π (by omega) h2
     exact ⟨w',WC,h1,h3⟩
    ·subst he
     exact ⟨w',π,h1,h2⟩
   ·cases he
  ·cases he
 ·rename_i τ l j ht
  split at he
  ·rename_i x' st1 hs
   obtain ⟨cj,h1,h2,h3,h4,h5⟩:=c8 h hx hs
   split at he
   ·rename_i fr tr e tid xs Wh y hl hv
    split at he
    ·rename_i l6;subst l6
     split at he
     ·rename_i hj
      simp only [Aa] at he;subst he
      obtain ⟨r,b,sz,n,g1,g0,g2,g3,rfl⟩:=hp
      obtain ⟨k1,b',f,k2,k3⟩:=h4 l _ hl
      rw [g1] at k2;cases k2
      have g4:=Gc OB.row k3
      rw [show (OB.map f b).row=b.row by cases b<;>rfl,g0] at g4
      simp only [OB.row,Aa,Ae] at g4
      obtain ⟨rfl,rfl⟩:=g4
      cases nz:(tr&&(Tp st x&&τ.tree)) with
      |false=>
       obtain ⟨w',q1,q2⟩:=AR hT h1 ht (k1.trans g3) hl hj (Mx _ x' vx Wh y h3 h2 hv)
       exact ⟨w',cj,q1,q2⟩
      |true=>
       simp only [Af] at nz
       obtain ⟨rfl,htv,l6⟩:=nz
       obtain ⟨F,us,f1,f2,f3,_⟩:=h5 htv τ Wh y l6 hv
       obtain ⟨w',q1,q2⟩:=wA hT h1 ht (k1.trans g3) hl hj (Mx _ x' vx Wh y h3 h2 hv) f1 f2 f3
       exact ⟨w',_,q1,q2⟩
     ·cases he
    ·cases he
   ·cases he
  ·cases he
 ·cases he
theorem uC {S:Nat->Prop} {e:Ty} {v:Value} {ys:List e.den} (h:Cells w S (.slice e) [v] ys):
  ∃ad c,v= .slice ad ys.length c/\(ys= []\/ ∃g o,ad=some ⟨g,o,none⟩/\ ∃news:List Value,news.length=ys.length*e.size/\(∀j u,news[j]?=some u->w.cell? ⟨g,o+j,none⟩=some u)/\(∀u∈news,u.oneCell'=true)/\(∀j u,j<ys.length*e.size->w.cell? ⟨g,o+j,none⟩=some u->news[j]?=some u)/\
   ∀(i:Nat) (y:e.den),ys[i]?=some y-> ∃es:List Value,es.length=e.size/\(∀j u,es[j]?=some u->news[i*e.size+j]?=some u)/\Cells w S e es y):=by
 simp only [Cells] at h
 obtain ⟨ad,len,cap,hv,hl,tj,KV⟩:=h
 simp only [Gs,On] at hv
 subst hl
 refine ⟨ad,cap,hv,?_⟩
 rcases KV with h0|⟨g,o,rfl,hg,hn,Kl⟩
 ·exact .inl h0
 ·right
  refine ⟨g,o,rfl,(List.range (ys.length*e.size)).map λj=>(w.cell? ⟨g,o+j,none⟩).getD undef,by simp,?_⟩
  have key: ∀k,k<ys.length*e.size-> ∃u,w.cell? ⟨g,o+k,none⟩=some u/\u.oneCell'=true:=by
   intro k hk
   have hs:0<e.size:=by
    rcases Ts e.size with h|h
    ·rw [h] at hk;simp at hk
    ·exact h
   have hi:k/e.size<ys.length:=(Nat.div_lt_iff_lt_mul hs).2 hk
   obtain ⟨es,gN,hc,bO⟩:=Kl (k/e.size) _ (Ab hi)
   have hm:k%e.size<es.length:=by rw [gN];exact Nat.mod_lt _ hs
   have:=hc (k%e.size) _ (Ab hm)
   rw [Gq,show k/e.size*e.size+k%e.size=k by rw [Nat.mul_comm];exact Nat.div_add_mod k e.size] at this
   exact ⟨_,this,Cells.plain e es _ bO _ (Al hm)⟩
  refine ⟨λj u hu=>?_,λu hu=>?_,λj u hj hu=>by rw [En,Xw hj];simp [hu],λi y hy=>?_⟩
  ·rw [En] at hu
   have hj:j<ys.length*e.size:=by
    by_cases hj:j<ys.length*e.size
    ·exact hj
    ·rw [Dy (by simpa using hj)] at hu;cases hu
   rw [Xw hj] at hu
   obtain ⟨u',gQ,_⟩:=key j hj
   simp only [Am,gQ,Bp,Aa] at hu
   rw [gQ,hu]
  ·obtain ⟨j,hj,rfl⟩:=Ay.1 hu
   obtain ⟨u',gQ,h1⟩:=key j (Dn.1 hj)
   rw [gQ];exact h1
  ·obtain ⟨es,gN,hc,bO⟩:=Kl i y hy
   refine ⟨es,gN,λj u hu=>?_,bO⟩
   have hi:=(An.1 hy).1
   have hj:=(An.1 hu).1
   have Jr:i*e.size+j<ys.length*e.size:=by
    have:(i+1)*e.size<=ys.length*e.size:=Ej _ (by omega)
    rw [Dg,So] at this
    omega
   rw [En,Xw Jr]
   have:=hc j u hu
   rw [Gq] at this
   simp [this]
end
end Go.Proofs.Ytkkdpknjohcekaa
