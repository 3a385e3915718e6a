/-
  Part 11 of the proof that the statement FnExactMethodLength holds.
-/
import Derived.Test.YtjbdmibbbpdnnaaCMethodLength09
namespace Go.Proofs.Ytjbdmibbbpdnnaa
open Go.RowKit
section
variable {P:Program} {T:Tab} {X:Ctx} {w w':World} {π:Pi} {H:List (Nat×OB)}
theorem OB.map_map (f g:AC->AC) (b:OB):OB.map g (OB.map f b)=OB.map (λc=>g (f c)) b:=by
 cases b with
 |var t vs=>simp [OB.map,Function.comp_def]
 |_=>rfl
theorem OB.wC (b:OB):OB.map (λc=>c) b=b:=by
 cases b with
 |var t vs=>simp [OB.map]
 |_=>rfl
def Gl (π π':Pi) (H H':List (Nat×OB)):Prop:= ∀l b',Ae H' l=some b'->π' l=π l/\ ∃b f,Ae H l=some b/\b'=OB.map f b
theorem Gl.refl (π:Pi) (H:List (Nat×OB)):Gl π π H H:= λ_ b h=>⟨rfl,b,λc=>c,h,(OB.wC b).symm⟩
theorem Gl.trans {Vw HS π3:Pi} {H1 H2 H3:List (Nat×OB)} (h:Gl Vw HS H1 H2) (h':Gl HS π3 H2 H3):Gl Vw π3 H1 H3:= λl b hb=>by
 obtain ⟨e1,b1,f1,h1,rfl⟩:=h' l b hb
 obtain ⟨e2,b2,f2,h2,rfl⟩:=h l b1 h1
 exact ⟨e1.trans e2,b2,_,h2,OB.map_map f2 f1 b2⟩
theorem Gl.freeze (st:St) (l:Nat) (fr:Bool) (e:Ty) (xs:List e.den):Gl π (Ps π l none) st.heap (st.freeze l fr e xs).heap:= λk b hb=>by
 by_cases hk:k=l
 ·subst hk;rw [St.Hi] at hb;cases hb
 ·rw [St.Lm st l k fr e xs hk] at hb
  cases h0:Ae st.heap k with
  |none=>rw [h0] at hb;cases hb
  |some b0=>
   rw [h0] at hb
   simp only [Option.map_some,Option.some.injEq] at hb
   exact ⟨Dh π none hk,b0,_,rfl,hb.symm⟩
theorem Gl.En (st:St) (l:Nat) (v:Ty) (m:ByteArray->Option v.den):Gl π (Ps π l none) st.heap (st.En l v m).heap:= λk b hb=>by
 by_cases hk:k=l
 ·subst hk;rw [St.Mn] at hb;cases hb
 ·rw [St.Kz st l k v m hk] at hb
  cases h0:Ae st.heap k with
  |none=>rw [h0] at hb;cases hb
  |some b0=>
   rw [h0] at hb
   simp only [Option.map_some,Option.some.injEq] at hb
   exact ⟨Dh π none hk,b0,_,rfl,hb.symm⟩
theorem Gl.gone {π':Pi} {H':List (Nat×OB)} (k:Gl π π' H H') {l:Nat} (h:Ae H l=none):Ae H' l=none:=by
 cases hb:Ae H' l with
 |none=>rfl
 |some b=>
  obtain ⟨_,b0,f,h1,_⟩:=k l b hb
  rw [h] at h1;cases h1
def Bl (st:St):AC->AC
 | .own l off len=>match st.at l with
  |some (.arr fr _ e _ xs)=> .data fr (.slice e) ((xs.drop off).take len)
  |some (.Dj e _ xs)=> .data false (.slice e) ((xs.drop off).take len)
  |_=> .own l off len
 | .Gi l=>match st.at l with
  |some (.On v m)=> .data false (.smap v) m
  |_=> .Gi l
 |c=>c
theorem Ms {st:St} {c:AC} (h:c.settled=true):Bl st c=c:=by
 cases c<;>simp [AC.settled] at h<;>rfl
theorem pO {st st':St} {f:AC->AC} {l:Nat} (hH: ∀m,m≠l->Ae st'.heap m=(Ae st.heap m).map (OB.map f)) {c:AC} (hc: ∀k∈c.refs,k≠l):Bl st' c=Bl st c:=by
 cases c with
 |own k off len=>
  have hk:k≠l:=hc k (by simp [AC.refs])
  simp only [Bl,St.at,hH k hk]
  cases Ae st.heap k with
  |none=>rfl
  |some b=>cases b<;>rfl
 |Gi k=>
  have hk:k≠l:=hc k (by simp [AC.refs])
  simp only [Bl,St.at,hH k hk]
  cases Ae st.heap k with
  |none=>rfl
  |some b=>cases b<;>rfl
 |_=>rfl
theorem bt {a:Act} : ∀(n:Nat) (st:St) (π:Pi) (cs:List AC) (us:List Value) (cc:List AC) (st':St),Aj X π st a w->Cy X w π st.heap cs us->
  Du n st cs=some (cc,st')-> ∃π',Aj X π' st' a w/\Cy X w π' st'.heap cc us/\cc.all (·.settled)=true/\Gl π π' st.heap st'.heap/\cc=cs.map (Bl st)/\
   (∀k,k∈cs.flatMap AC.refs->Ae st'.heap k=none)
 |0,st,π,cs,us,cc,st',h,hr,he=>by
  simp only [Du] at he
  split at he
  ·rename_i hs
   simp only [Option.some.injEq,Prod.mk.injEq] at he
   obtain ⟨rfl,rfl⟩:=he
   have qJ:=List.all_eq_true.1 hs
   exact ⟨π,h,hr,hs,Gl.refl _ _,((List.map_congr_left λc hc=>Ms (qJ c hc)).trans (List.map_id'' (λ_=>rfl) cs)).symm,λk hk=>by
    obtain ⟨c,hc,uL⟩:=List.mem_flatMap.1 hk
    have:=qJ c hc
    cases c<;>simp [AC.settled] at this<;>simp [AC.refs] at uL⟩
  ·cases he
 |n+1,st,π,cs,us,cc,st',h,hr,he=>by
  simp only [Du] at he
  have step: ∀(f:AC->AC) (l:Nat) (st1:St),Aj X (Ps π l none) st1 a w->Move X w w π (Ps π l none) st.heap st1.heap f->Ae st1.heap l=none->(∀m,m≠l->Ae st1.heap m=(Ae st.heap m).map (OB.map f))->
    Gl π (Ps π l none) st.heap st1.heap->(∀c∈cs,(∀k∈c.refs,k≠l)->f c=c)->(∀c∈cs,l∈c.refs->(f c).refs= []/\(Bl st1 (f c)).settled=true->f c=Bl st c)->
    (∀c∈cs,l∈c.refs->(f c).refs= [])->Du n st1 (cs.map f)=some (cc,st')->
    ∃π',Aj X π' st' a w/\Cy X w π' st'.heap cc us/\cc.all (·.settled)=true/\Gl π π' st.heap st'.heap/\cc=cs.map (Bl st)/\(∀k,k∈cs.flatMap AC.refs->Ae st'.heap k=none):=by
   intro f l st1 h1 m hl hH hK hf0 hf1 VG he
   obtain ⟨π',h2,h3,h4,h5,h6,h7⟩:=bt n st1 _ (cs.map f) us cc st' h1 (m.OO hr) he
   refine ⟨π',h2,h3,h4,hK.trans h5,?_,λk hk=>?_⟩
   ·rw [h6,List.map_map]
    refine List.map_congr_left λc hc=>?_
    simp only [Function.comp]
    by_cases Kx:l∈c.refs
    ·have Ia:=List.all_eq_true.1 h4
     have jw:Bl st1 (f c)∈cc:=by rw [h6];exact List.mem_map.2 ⟨f c,List.mem_map.2 ⟨c,hc,rfl⟩,rfl⟩
     have hs:=Ia _ jw
     have h8:=hf1 c hc Kx ⟨VG c hc Kx,hs⟩
     have h9:Bl st1 (f c)=f c:=by
      have:=VG c hc Kx
      cases hfc:f c<;>rw [hfc] at this<;>first|(simp [AC.refs] at this;done)|rfl
     rw [h9,h8]
    ·have Ex: ∀k∈c.refs,k≠l:= λk hk e=>Kx (e▸hk)
     rw [hf0 c hc Ex]
     exact pO hH Ex
   ·obtain ⟨c,hc,uL⟩:=List.mem_flatMap.1 hk
    by_cases Ja:k=l
    ·subst Ja;exact h5.gone hl
    ·by_cases Kx:l∈c.refs
     ·
      have Ia:=List.all_eq_true.1 h4
      have jw:Bl st1 (f c)∈cc:=by rw [h6];exact List.mem_map.2 ⟨f c,List.mem_map.2 ⟨c,hc,rfl⟩,rfl⟩
      have hs:=Ia _ jw
      have h8:=hf1 c hc Kx ⟨VG c hc Kx,hs⟩
      have h9:Bl st1 (f c)=f c:=by
       have:=VG c hc Kx
       cases hfc:f c<;>rw [hfc] at this<;>first|(simp [AC.refs] at this;done)|rfl
      rw [h9,h8] at hs
      cases c with
      |clo g Bx=>simp [Bl,AC.settled] at hs
      |own k' _ _=>simp [AC.refs] at Kx uL;exact absurd (uL.trans Kx.symm) Ja
      |Gi k'=>simp [AC.refs] at Kx uL;exact absurd (uL.trans Kx.symm) Ja
      |Dz k' _=>simp [AC.refs] at Kx uL;exact absurd (uL.trans Kx.symm) Ja
      |Gc k' _=>simp [AC.refs] at Kx uL;exact absurd (uL.trans Kx.symm) Ja
      |sub k' _ _=>simp [AC.refs] at Kx uL;exact absurd (uL.trans Kx.symm) Ja
      |Ga k' _ _=>simp [AC.refs] at Kx uL;exact absurd (uL.trans Kx.symm) Ja
      |_=>simp [AC.refs] at uL
     ·have Ex: ∀k∈c.refs,k≠l:= λk hk e=>Kx (e▸hk)
      exact h7 k (List.mem_flatMap.2 ⟨f c,List.mem_map.2 ⟨c,hc,rfl⟩,by rw [hf0 c hc Ex];exact uL⟩)
  have uN: ∀(st1:St) (c:AC),(Bl st1 c).settled=true->c≠ .undef:= λst1 c hs e=>by rw [e] at hs;simp [Bl,AC.settled] at hs
  split at he
  ·rename_i hf
   simp only [Option.some.injEq,Prod.mk.injEq] at he
   obtain ⟨rfl,rfl⟩:=he
   have qJ: ∀c∈cs,c.settled=true:= λc hc=>by have:=List.find?_eq_none.1 hf c hc;simpa using this
   exact ⟨π,h,hr,List.all_eq_true.2 qJ,Gl.refl _ _,((List.map_congr_left λc hc=>Ms (qJ c hc)).trans (List.map_id'' (λ_=>rfl) cs)).symm,λk hk=>by
    obtain ⟨c,hc,uL⟩:=List.mem_flatMap.1 hk
    have:=qJ c hc
    cases c<;>simp [AC.settled] at this<;>simp [AC.refs] at uL⟩
  ·rename_i l off len hf
   split at he
   ·rename_i fr tr e tid xs hl
    unfold St.at at hl
    obtain ⟨h1,m⟩:=h.freeze (fr:=fr) (.inl ⟨tr,tid,hl⟩)
    refine step _ l _ h1 m (St.Hi st l fr e xs) (λm hm=>St.Lm st l m fr e xs hm) (Gl.freeze st l fr e xs) (λc _ hc=>cw hc) (λc _ Kx hs=>?_) (λc _ Kx=>?_) he
    ·cases c with
     |own k o n=>have:k=l:=(List.mem_singleton.1 Kx).symm
                 subst this;simp only [Bb,if_pos,Bl,St.at,hl]
     |Dz k o=>have:k=l:=(List.mem_singleton.1 Kx).symm
              subst this;simp only [Bb,if_pos] at hs;exact absurd rfl (uN _ _ hs.2)
     |Gc k o=>have:k=l:=(List.mem_singleton.1 Kx).symm
              subst this;simp only [Bb,if_pos] at hs;exact absurd rfl (uN _ _ hs.2)
     |sub k o o2=>have:k=l:=(List.mem_singleton.1 Kx).symm
                  subst this;simp only [Bb,if_pos] at hs;exact absurd rfl (uN _ _ hs.2)
     |Ga k o o2=>have:k=l:=(List.mem_singleton.1 Kx).symm
                 subst this;simp only [Bb,if_pos] at hs;exact absurd rfl (uN _ _ hs.2)
     |Gi k=>have:k=l:=(List.mem_singleton.1 Kx).symm
            subst this;simp only [Bb,if_pos] at hs;exact absurd rfl (uN _ _ hs.2)
     |clo g Bx=>
      simp only [Bb] at hs
      rw [if_pos (by simpa [AC.refs] using Kx)] at hs
      exact absurd rfl (uN _ _ hs.2)
     |_=>simp [AC.refs] at Kx
    ·cases c with
     |own k o n=>have:k=l:=(List.mem_singleton.1 Kx).symm
                 subst this;simp only [Bb,if_pos];rfl
     |Dz k o=>have:k=l:=(List.mem_singleton.1 Kx).symm
              subst this;simp only [Bb,if_pos];rfl
     |Gc k o=>have:k=l:=(List.mem_singleton.1 Kx).symm
              subst this;simp only [Bb,if_pos];rfl
     |sub k o o2=>have:k=l:=(List.mem_singleton.1 Kx).symm
                  subst this;simp only [Bb,if_pos];rfl
     |Ga k o o2=>have:k=l:=(List.mem_singleton.1 Kx).symm
                 subst this;simp only [Bb,if_pos];rfl
     |Gi k=>have:k=l:=(List.mem_singleton.1 Kx).symm
            subst this;simp only [Bb,if_pos];rfl
     |clo g Bx=>simp only [Bb];rw [if_pos (by simpa [AC.refs] using Kx)];rfl
     |_=>simp [AC.refs] at Kx
   ·rename_i e tid xs hl
    unfold St.at at hl
    obtain ⟨h1,m⟩:=h.freeze (fr:=false) (.inr ⟨rfl,tid,hl⟩)
    refine step _ l _ h1 m (St.Hi st l false e xs) (λm hm=>St.Lm st l m false e xs hm) (Gl.freeze st l false e xs) (λc _ hc=>cw hc) (λc _ Kx hs=>?_) (λc _ Kx=>?_) he
    ·cases c with
     |own k o n=>have:k=l:=(List.mem_singleton.1 Kx).symm
                 subst this;simp only [Bb,if_pos,Bl,St.at,hl]
     |Dz k o=>have:k=l:=(List.mem_singleton.1 Kx).symm
              subst this;simp only [Bb,if_pos] at hs;exact absurd rfl (uN _ _ hs.2)
     |Gc k o=>have:k=l:=(List.mem_singleton.1 Kx).symm
              subst this;simp only [Bb,if_pos] at hs;exact absurd rfl (uN _ _ hs.2)
     |sub k o o2=>have:k=l:=(List.mem_singleton.1 Kx).symm
                  subst this;simp only [Bb,if_pos] at hs;exact absurd rfl (uN _ _ hs.2)
     |Ga k o o2=>have:k=l:=(List.mem_singleton.1 Kx).symm
                 subst this;simp only [Bb,if_pos] at hs;exact absurd rfl (uN _ _ hs.2)
     |Gi k=>have:k=l:=(List.mem_singleton.1 Kx).symm
            subst this;simp only [Bb,if_pos] at hs;exact absurd rfl (uN _ _ hs.2)
     |clo g Bx=>
      simp only [Bb] at hs
      rw [if_pos (by simpa [AC.refs] using Kx)] at hs
      exact absurd rfl (uN _ _ hs.2)
     |_=>simp [AC.refs] at Kx
    ·cases c with
     |own k o n=>have:k=l:=(List.mem_singleton.1 Kx).symm
                 subst this;simp only [Bb,if_pos];rfl
     |Dz k o=>have:k=l:=(List.mem_singleton.1 Kx).symm
              subst this;simp only [Bb,if_pos];rfl
     |Gc k o=>have:k=l:=(List.mem_singleton.1 Kx).symm
              subst this;simp only [Bb,if_pos];rfl
     |sub k o o2=>have:k=l:=(List.mem_singleton.1 Kx).symm
                  subst this;simp only [Bb,if_pos];rfl
     |Ga k o o2=>have:k=l:=(List.mem_singleton.1 Kx).symm
                 subst this;simp only [Bb,if_pos];rfl
     |Gi k=>have:k=l:=(List.mem_singleton.1 Kx).symm
            subst this;simp only [Bb,if_pos];rfl
     |clo g Bx=>simp only [Bb];rw [if_pos (by simpa [AC.refs] using Kx)];rfl
     |_=>simp [AC.refs] at Kx
   ·cases he
  ·rename_i l hf
   split at he
   ·rename_i v mm hl
    unfold St.at at hl
    obtain ⟨h1,m⟩:=h.En hl
    refine step _ l _ h1 m (St.Mn st l v mm) (λm hm=>St.Kz st l m v mm hm) (Gl.En st l v mm) (λc _ hc=>mL hc) (λc _ Kx hs=>?_) (λc _ Kx=>?_) he
    ·cases c with
     |Gi k=>have:k=l:=(List.mem_singleton.1 Kx).symm
            subst this;simp only [Dm,if_pos,Bl,St.at,hl]
     |Dz k o=>have:k=l:=(List.mem_singleton.1 Kx).symm
              subst this;simp only [Dm,if_pos] at hs;exact absurd rfl (uN _ _ hs.2)
     |Gc k o=>have:k=l:=(List.mem_singleton.1 Kx).symm
              subst this;simp only [Dm,if_pos] at hs;exact absurd rfl (uN _ _ hs.2)
     |sub k o o2=>have:k=l:=(List.mem_singleton.1 Kx).symm
                  subst this;simp only [Dm,if_pos] at hs;exact absurd rfl (uN _ _ hs.2)
     |Ga k o o2=>have:k=l:=(List.mem_singleton.1 Kx).symm
                 subst this;simp only [Dm,if_pos] at hs;exact absurd rfl (uN _ _ hs.2)
     |own k o n=>have:k=l:=(List.mem_singleton.1 Kx).symm
                 subst this;simp only [Dm,if_pos] at hs;exact absurd rfl (uN _ _ hs.2)
     |clo g Bx=>
      simp only [Dm] at hs
      rw [if_pos (by simpa [AC.refs] using Kx)] at hs
      exact absurd rfl (uN _ _ hs.2)
     |_=>simp [AC.refs] at Kx
    ·cases c with
     |own k o n=>have:k=l:=(List.mem_singleton.1 Kx).symm
                 subst this;simp only [Dm,if_pos];rfl
     |Dz k o=>have:k=l:=(List.mem_singleton.1 Kx).symm
              subst this;simp only [Dm,if_pos];rfl
     |Gc k o=>have:k=l:=(List.mem_singleton.1 Kx).symm
              subst this;simp only [Dm,if_pos];rfl
     |sub k o o2=>have:k=l:=(List.mem_singleton.1 Kx).symm
                  subst this;simp only [Dm,if_pos];rfl
     |Ga k o o2=>have:k=l:=(List.mem_singleton.1 Kx).symm
                 subst this;simp only [Dm,if_pos];rfl
     |Gi k=>have:k=l:=(List.mem_singleton.1 Kx).symm
            subst this;simp only [Dm,if_pos];rfl
     |clo g Bx=>simp only [Dm];rw [if_pos (by simpa [AC.refs] using Kx)];rfl
     |_=>simp [AC.refs] at Kx
   ·cases he
  ·cases he
def bO (X:Ctx) (w:World) (π:Pi) (F:List Nat):Prop:=F.Nodup/\ ∀b∈F,(X.w0.heap.size<=b\/X.gv b)/\b<w.heap.size/\ ∀l r,π l=some r-> ¬r.cl b
theorem Qk {S:Nat->Prop} : ∀(e:Ty) (es:List Value) (x:e.den),e.flat=true->Cells w S e es x->Bf w [] e es x
 | .int k,cs,n,_,h=>⟨rfl,h⟩
 | .bool,cs,n,_,h=>⟨rfl,h⟩
 | .str,cs,n,_,h=>⟨rfl,h⟩
 | .unit,cs,n,_,h=>⟨rfl,h⟩
 | .pair a r,cs,x,hf,h=>by
  simp only [Ty.flat,Bool.and_eq_true] at hf
  simp only [Cells] at h
  simp only [Bf]
  obtain ⟨c1,c2,h1,h2,h3⟩:=h
  exact ⟨c1,c2,[],[],h1,rfl,Qk a c1 x.1 hf.1 h2,Qk r c2 x.2 hf.2 h3⟩
 | .slice _,_,_,hf,_=>by simp [Ty.flat] at hf
 | .oslice _,_,_,hf,_=>by simp [Ty.flat] at hf
 | .ptr _,_,_,hf,_=>by simp [Ty.flat] at hf
 | .optr _,_,_,hf,_=>by simp [Ty.flat] at hf
 | .smap _,_,_,hf,_=>by simp [Ty.flat] at hf
 | .clo _ _,_,_,hf,_=>by simp [Ty.flat] at hf
theorem Ly {Fs:List (List Nat)} (off len:Nat) (b:Nat) (h:b∈List.flatten ((Fs.drop off).take len)):b∈List.flatten Fs:=by
 obtain ⟨F,hF,hb⟩:=List.mem_flatten.1 h
 exact List.mem_flatten.2 ⟨F,List.mem_of_mem_drop (List.mem_of_mem_take hF),hb⟩
theorem bz {α:Type} {a b:List (List α)} (h:a.Sublist b):(List.flatten a).Sublist (List.flatten b):=by
 induction h with
 |slnil=>exact List.Sublist.refl _
 |cons c _ ih=>simp only [List.flatten_cons];exact ih.trans (List.sublist_append_right _ _)
 |cons_cons c _ ih=>simp only [List.flatten_cons];exact List.Sublist.append (List.Sublist.refl _) ih
theorem fW {Fs:List (List Nat)} (off len:Nat) (h:(List.flatten Fs).Nodup):(List.flatten ((Fs.drop off).take len)).Nodup:=by
 have h1:((Fs.drop off).take len).Sublist Fs:=(List.take_sublist len _).trans (List.drop_sublist off Fs)
 exact h.sublist (bz h1)
theorem ee {P:Nat->Prop} {r:Real} {off len:Nat} {v:Value} {e:Ty} {tid:TypeId} {xs:List e.den} {cur:Array Value} (h2:w.heap[r.g]?=some (.cells cur tid (0,0))) (Wi:cur.size=(r.o+r.cap)*e.size) (mS:r.cap<=maxLen)
  (hlen:off+len<=xs.length) (hv:Dq (some r) e.size off len v) (ht:Qb w P r.g r.o cur e xs) (hg:P r.g):
  ∃F,Bf w F (.slice e) [v] ((xs.drop off).take len)/\F.Nodup/\ ∀b∈F,P b:=by
 have OG:((xs.drop off).take len).length=len:=by simp;omega
 obtain ⟨ad,rfl,hc,ha⟩:=hv
 obtain ⟨Fs,t1,t2,t3,t4⟩:=ht
 ·refine ⟨r.g::List.flatten ((Fs.drop off).take len),⟨some ad,len,r.cap-off,rfl,OG.symm,by omega, .inr ⟨ad,r.g,(r.o+off)*e.size,_,rfl,λh0=>ha (by omega),⟨cur,tid,r.o+off,h2,rfl,by rw [Wi];congr 1;omega,by omega⟩,rfl,by simp;omega,λi x F hx hF=>?_⟩⟩,?_,λb hb=>?_⟩
  ·have hi:i<len:=by
    have:=(List.getElem?_eq_some_iff.1 hx).1
    rw [OG] at this;exact this
   have WN:xs[off+i]?=some x:=by rw [List.getElem?_take,if_pos hi,List.getElem?_drop] at hx;exact hx
   have hF':Fs[off+i]?=some F:=by rw [List.getElem?_take,if_pos hi,List.getElem?_drop] at hF;exact hF
   obtain ⟨es,he,hj,mT⟩:=t4 (off+i) x F WN hF'
   refine ⟨es,he,λj u hu=>?_,mT⟩
   rw [cellOf h2]
   have:=hj j u hu
   rw [<-this]
   congr 1
   rw [<-Nat.add_assoc,Nat.add_mul (r.o+off) i]
  ·have:=List.nodup_cons.1 t2
   exact List.nodup_cons.2 ⟨λhm=>this.1 (Ly off len _ hm),fW off len this.2⟩
  ·rcases List.mem_cons.1 hb with rfl|hb
   ·exact hg
   ·exact t3 b (Ly off len b hb)
theorem iY {st:St} (h:Hw X w π st.heap) {c:AC} {v:Value} (hc:Ea X w π st.heap c v) (ht:Ls st c=true) (τ:Ty) (fr:Bool) (x:τ.den) (Nb:τ.Ac=false) (DW:τ.tree=true)
  (hv:Bm st τ (Bl st c)=some (fr,x)): ∃F,Bf w F τ [v] x/\F.Nodup/\ ∀b∈F,∃l r,l∈c.refs/\π l=some r/\r.cl b:=by
 cases c with
 |data Ow Ji y=>
  simp only [Ls] at ht
  simp only [Bl,Iv] at hv
  split at hv
  ·rename_i he;subst he
   simp only [Option.some.injEq,Prod.mk.injEq] at hv
   obtain ⟨_,rfl⟩:=hv
   exact ⟨[],Qk Ji _ _ ht (Bd.Lq Nb hc),List.nodup_nil,λb hb=>by cases hb⟩
  ·unfold cb at hv
   split at hv
   ·simp [Ty.flat] at ht
   ·simp [Ty.flat] at ht
   ·cases hv
 |Hk=>
  have hc:v= .slice none 0 0:=hc
  subst hc
  cases τ with
  |slice e=>
   simp only [Bl,Bm,Option.some.injEq,Prod.mk.injEq] at hv
   obtain ⟨_,rfl⟩:=hv
   exact ⟨[],⟨none,0,0,rfl,rfl,Nat.le_refl _, .inl ⟨rfl,rfl,rfl,rfl⟩⟩,List.nodup_nil,λb hb=>by cases hb⟩
  |oslice e=>simp [Ty.tree] at DW
  |_=>simp [Bl,Bm] at hv
 |own l off len=>
  simp only [Ls] at ht
  split at ht
  ·rename_i Ow tr e tid xs hl
   have Gk:=hl
   unfold St.at at hl
   simp only [Bl,Gk,Iv] at hv
   split at hv
   ·rename_i he;subst he
    simp only [Option.some.injEq,Prod.mk.injEq] at hv
    obtain ⟨_,rfl⟩:=hv
    obtain ⟨h2,h3⟩:=Jm hc hl
    have hb:=(h.heap l).Mh hl
    simp only [Au,Fv] at hb
    cases hp:π l with
    |none=>
     rw [hp] at h3
     obtain ⟨rfl,rfl,rfl⟩:=h3
     exact ⟨[],⟨none,0,0,rfl,by simp,Nat.le_refl _, .inl ⟨by simp,rfl,rfl,rfl⟩⟩,List.nodup_nil,λb hb=>by cases hb⟩
    |some r=>
     rw [hp] at hb h3
     obtain ⟨k1,cur,_,k2,k3,k4,k5,k6,k7⟩:=hb
     have CB:Qb w r.cl r.g r.o cur e xs:=by
      simp only [Bool.or_eq_true] at ht
      rcases ht with ht|ht
      ·exact k7 ht
      ·refine ⟨List.replicate xs.length [],by simp,by simp,by simp,λi x F hx hF=>?_⟩
       obtain ⟨es,e1,e2,e3⟩:=k6 i x hx
       have:F= []:=by
        have:=List.mem_of_getElem? hF
        exact List.eq_of_mem_replicate this
       subst this
       exact ⟨es,e1,e2,Qk e es x ht e3⟩
     obtain ⟨F,f1,f2,f3⟩:=ee k2 k3 k4 h2 h3 CB (h.sub l r _ hp k1.1)
     exact ⟨F,f1,f2,λb hb=>⟨l,r,by simp [AC.refs],hp,f3 b hb⟩⟩
   ·cases τ<;>simp [cb] at hv
  ·rename_i e tid xs hl
   have Gk:=hl
   unfold St.at at hl
   simp only [Bl,Gk,Iv] at hv
   split at hv
   ·rename_i he;subst he
    simp only [Option.some.injEq,Prod.mk.injEq] at hv
    obtain ⟨_,rfl⟩:=hv
    obtain ⟨h2,h3⟩:=Vm hc hl
    have hb:=(h.heap l).Mh hl
    simp only [Au,Ix] at hb
    cases hp:π l with
    |none=>
     rw [hp] at h3
     obtain ⟨rfl,rfl,rfl⟩:=h3
     exact ⟨[],⟨none,0,0,rfl,by simp,Nat.le_refl _, .inl ⟨by simp,rfl,rfl,rfl⟩⟩,List.nodup_nil,λb hb=>by cases hb⟩
    |some r=>
     rw [hp] at hb h3
     obtain ⟨k1,cur,_,k2,k3,k4,k5,k7⟩:=hb
     obtain ⟨F,f1,f2,f3⟩:=ee k2 k3 k4 h2 h3 k7 k1
     exact ⟨F,f1,f2,λb hb=>⟨l,r,by simp [AC.refs],hp,h.sub l r b hp (f3 b hb)⟩⟩
   ·cases τ<;>simp [cb] at hv
  ·cases ht
 |_=>simp [Ls] at ht
theorem Qr: ∀ {l:List Nat},Su l=true->l.Nodup
 | [],_=>List.nodup_nil
 |a::r,h=>by
  simp only [Su,Bool.and_eq_true,Bool.not_eq_true',List.contains_eq_mem,decide_eq_false_iff_not] at h
  exact List.nodup_cons.2 ⟨h.1,Qr h.2⟩
theorem Tt {st st':St} {τ:Ty} {c:AC} (h:c.settled=true):Bm st' τ c=Bm st τ c:=by
 cases c<;>simp [AC.settled] at h<;>cases τ<;>rfl
theorem q8 {st st':St} (h:Hw X w π st.heap): ∀(τ:Ty) (cs:List AC) (us:List Value) (fr:Bool) (x:τ.den),Cy X w π st.heap cs us->cs.all (Ls st)=true->(cs.flatMap AC.refs).Nodup->
  (cs.map (Bl st)).all (·.settled)=true->τ.tree=true->Cp st' τ (cs.map (Bl st))=some (fr,x)-> ∃F,Bf w F τ us x/\F.Nodup/\ ∀b∈F,∃l r,l∈cs.flatMap AC.refs/\π l=some r/\r.cl b:=by
 have one: ∀(τ:Ty) (cs:List AC) (us:List Value) (fr:Bool) (x:τ.den),τ.Ac=false->Cy X w π st.heap cs us->cs.all (Ls st)=true->
   (cs.map (Bl st)).all (·.settled)=true->τ.tree=true->Cp st' τ (cs.map (Bl st))=some (fr,x)-> ∃F,Bf w F τ us x/\F.Nodup/\ ∀b∈F,∃l r,l∈cs.flatMap AC.refs/\π l=some r/\r.cl b:=by
  intro τ cs us fr x Nb hr ht hs Oo hv
  rw [Nf Nb] at hv
  rcases cs with _|⟨c,_|⟨d,cs⟩⟩
  ·cases hv
  ·simp only [List.map_cons,List.map_nil] at hv
   obtain ⟨u,hu,_,hc⟩:=hr.2 0 c rfl
   have hl:us.length=1:=hr.1
   obtain ⟨u',rfl⟩:=List.length_eq_one_iff.1 hl
   simp at hu;subst hu
   rw [Tt (st:=st) (by simpa using hs)] at hv
   obtain ⟨F,f1,f2,f3⟩:=iY h hc (by simpa using ht) τ fr x Nb Oo hv
   exact ⟨F,f1,f2,λb hb=>by obtain ⟨l,r,g1,g2⟩:=f3 b hb;exact ⟨l,r,by simpa using g1,g2⟩⟩
  ·cases hv
 intro τ
 induction τ with
 |unit=>
  intro cs us fr x hr ht hd hs Oo hv
  cases cs with
  |nil=>have:us= []:=List.eq_nil_of_length_eq_zero hr.1;subst this;exact ⟨[],⟨rfl,rfl⟩,List.nodup_nil,λb hb=>by cases hb⟩
  |cons c cs=>simp [Cp] at hv
 |pair a r gA dQ=>
  intro cs us fr x hr ht hd hs Oo hv
  simp only [Ty.tree,Bool.and_eq_true] at Oo
  simp only [Cp] at hv
  split at hv
  ·rename_i f1 y f2 z h1 h2
   simp only [Option.some.injEq,Prod.mk.injEq] at hv
   obtain ⟨rfl,rfl⟩:=hv
   have QF:Cy X w π st.heap (cs.take a.size) (us.take a.size):=by have:=Sm hr 0 a.size;simpa using this
   have TU:Cy X w π st.heap (cs.drop a.size) (us.drop a.size):=
    ⟨by simp [hr.1],λi c hc=>by
     rw [List.getElem?_drop] at hc⊢
     exact hr.2 _ c hc⟩
   have Acq: ∀ {p:AC->Bool} {l:List AC} (n:Nat),l.all p=true->(l.take n).all p=true:= λn hl=>List.all_eq_true.2 λc hc=>List.all_eq_true.1 hl c (List.mem_of_mem_take hc)
   have Acr: ∀ {p:AC->Bool} {l:List AC} (n:Nat),l.all p=true->(l.drop n).all p=true:= λn hl=>List.all_eq_true.2 λc hc=>List.all_eq_true.1 hl c (List.mem_of_mem_drop hc)
   have hdd:((cs.take a.size++cs.drop a.size).flatMap AC.refs).Nodup:=by rw [List.take_append_drop];exact hd
   rw [List.flatMap_append] at hdd
   obtain ⟨d1,d2,d3⟩:=List.nodup_append.1 hdd
   rw [<-List.map_take] at h1
   rw [<-List.map_drop] at h2
   obtain ⟨F1,t1,n1,c1⟩:=gA _ _ f1 y QF (Acq _ ht) d1 (by rw [List.map_take];exact Acq _ hs) Oo.1 h1
   obtain ⟨F2,t2,n2,c2⟩:=dQ _ _ f2 z TU (Acr _ ht) d2 (by rw [List.map_drop];exact Acr _ hs) Oo.2 h2
   refine ⟨F1++F2,⟨us.take a.size,us.drop a.size,F1,F2,(List.take_append_drop _ _).symm,rfl,t1,t2⟩,List.nodup_append.2 ⟨n1,n2,λb hb b' oV e=>?_⟩,λb hb=>?_⟩
   ·subst e
    obtain ⟨l1,r1,g1,g2,g3⟩:=c1 b hb
    obtain ⟨l2,r2,g4,g5,g6⟩:=c2 b oV
    exact d3 l1 g1 l2 g4 (h.inj l1 l2 r1 r2 b g2 g5 g3 g6)
   ·have Ia: ∀l,(l∈(cs.take a.size).flatMap AC.refs\/l∈(cs.drop a.size).flatMap AC.refs)->l∈cs.flatMap AC.refs:= λl hl=>by
     rw [<-List.mem_append,<-List.flatMap_append,List.take_append_drop] at hl;exact hl
    rcases List.mem_append.1 hb with hb|hb
    ·obtain ⟨l1,r1,g1,g2⟩:=c1 b hb;exact ⟨l1,r1,Ia l1 (.inl g1),g2⟩
    ·obtain ⟨l1,r1,g1,g2⟩:=c2 b hb;exact ⟨l1,r1,Ia l1 (.inr g1),g2⟩
  ·cases hv
 |_=>exact λcs us fr x hr ht _ hs Oo hv=>one _ cs us fr x rfl hr ht hs Oo hv
theorem BI {π':Pi} {st st':St} {a:Act} (h:Aj X π st a w) (h':Aj X π' st' a w) (k:Gl π π' st.heap st'.heap) {ls:List Nat} (hg: ∀l∈ls,Ae st'.heap l=none) {F:List Nat} (hF:F.Nodup)
  (hc: ∀b∈F,∃l r,l∈ls/\π l=some r/\r.cl b):bO X w π' F:=by
 refine ⟨hF,λb hb=>?_⟩
 obtain ⟨l,r,h1,h2,h3⟩:=hc b hb
 have hp:=h.1.place l r b h2 h3
 refine ⟨hp.1,hp.2,λl2 r2 h4 h5=>?_⟩
 cases hh:Ae st'.heap l2 with
 |none=>rw [(h'.1.heap l2).emp hh] at h4;cases h4
 |some b'=>
  have h6:=(k l2 b' hh).1
  rw [h6] at h4
  have:=h.1.inj l l2 r r2 b h2 h4 h3 h5
  subst this
  rw [hg l h1] at hh;cases hh
theorem Vs {st:St} {a:Act} (h:Aj X π st a w) {c:AV} {v:Value} (hc:Ao X w π st.heap c v) {c':AV} {st':St} (he:settle st c=some (c',st')):
  ∃π',Aj X π' st' a w/\Ao X w π' st'.heap c' v/\c'.settled=true/\Gl π π' st.heap st'.heap/\
   (Mu st c=true-> ∀(τ:Ty) (fr:Bool) (x:τ.den),τ.tree=true->Ct st' τ c'=some (fr,x)-> ∃F us,Bf w F τ us x/\v=As τ us/\bO X w π' F/\ ∀b∈F,∃l r,π l=some r/\r.cl b):=by
 have cell: ∀(a0:AC) (st':St) (π':Pi),Ea X w π st.heap a0 v->Aj X π' st' a w->(Bl st a0).settled=true->Gl π π' st.heap st'.heap->(∀l∈a0.refs,Ae st'.heap l=none)->
   Ls st a0=true-> ∀(τ:Ty) (fr:Bool) (x:τ.den),τ.tree=true->Ct st' τ (.at (Bl st a0))=some (fr,x)-> ∃F us,Bf w F τ us x/\v=As τ us/\bO X w π' F/\ ∀b∈F,∃l r,π l=some r/\r.cl b:=by
  intro a0 st1 Vw hr h1 hs hk hg ht τ fr x Oo hv
  by_cases Nb:τ.Ac=true
  ·
   cases w5:Bl st a0 with
   |data Ow Ji y=>
    rw [w5,Wy] at hv
    split at hv
    ·rename_i het;subst het
     simp only [Option.some.injEq,Prod.mk.injEq] at hv
     obtain ⟨_,rfl⟩:=hv
     cases a0 with
     |data lN τ2 z=>
      simp only [Bl,AC.data.injEq] at w5
      obtain ⟨rfl,rfl,hz⟩:=w5
      have hz:=eq_of_heq hz
      subst hz
      obtain ⟨cs,mT,rfl⟩:=hr
      exact ⟨[],cs,Qk _ cs _ ht mT,rfl,⟨List.nodup_nil,λb hb=>by cases hb⟩,λb hb=>by cases hb⟩
     |own l off len=>
      simp only [Bl] at w5
      split at w5
      ·simp only [AC.data.injEq] at w5;obtain ⟨_,h2,_⟩:=w5;subst h2;simp [Ty.Ac] at Nb
      ·simp only [AC.data.injEq] at w5;obtain ⟨_,h2,_⟩:=w5;subst h2;simp [Ty.Ac] at Nb
      ·cases w5
     |Gi l=>simp [Ls] at ht
     |_=>simp [Bl] at w5
    ·cases hv
   |_=>rw [w5] at hv;simp only [Ct,Nb,if_true] at hv;cases hv
  ·simp only [Bool.not_eq_true] at Nb
   have sJ:Bm st τ (Bl st a0)=some (fr,x):=by
    rw [<-Tt (st:=st) (st':=st1) hs]
    cases w5:Bl st a0 with
    |data Ow Ji y=>
     rw [w5,Wy] at hv
     rw [Iv]
     split at hv
     ·rename_i het;rw [dif_pos het];exact hv
     ·rename_i het
      rw [dif_neg het]
      simp only [Nb,Bool.false_eq_true,if_false,uw,Iv] at hv
      rw [dif_neg het] at hv
      exact hv
    |Hk=>rw [w5] at hv;simp only [Ct,Nb,Bool.false_eq_true,if_false] at hv;rw [Kq rfl] at hv;exact hv
    |Pw=>rw [w5] at hv;simp only [Ct,Nb,Bool.false_eq_true,if_false] at hv;rw [Kq rfl] at hv;exact hv
    |_=>rw [w5] at hs;simp [AC.settled] at hs
   obtain ⟨F,f1,f2,f3⟩:=iY h.1 hr ht τ fr x Nb Oo sJ
   exact ⟨F,[v],f1,by simp [As,Nb],BI h h1 hk hg f2 f3,λb hb=>let ⟨l,r,_,q⟩:=f3 b hb;⟨l,r,q⟩⟩
 unfold settle at he
 split at he
 ·rename_i l off len
  split at he
  ·rename_i fr tr e tid xs hl
   simp only [Option.some.injEq,Prod.mk.injEq] at he
   obtain ⟨rfl,rfl⟩:=he
   obtain ⟨h1,m⟩:=h.freeze (fr:=fr) (.inl ⟨tr,tid,hl⟩)
   have:=m.ac (.own l off len) v hc
   simp only [Bb,if_true] at this
   have eJ:Bl st (.own l off len)= .data fr (.slice e) ((xs.drop off).take len):=by simp only [Bl,hl]
   refine ⟨_,h1,this,rfl,Gl.freeze st l fr e xs,λht=>?_⟩
   have:=cell (.own l off len) _ _ hc h1 (by rw [eJ];rfl) (Gl.freeze st l fr e xs) (λk hk=>by rw [List.mem_singleton.1 hk];exact St.Hi st l fr e xs) ht
   rw [eJ] at this
   exact this
  ·rename_i e tid xs hl
   simp only [Option.some.injEq,Prod.mk.injEq] at he
   obtain ⟨rfl,rfl⟩:=he
   obtain ⟨h1,m⟩:=h.freeze (fr:=false) (.inr ⟨rfl,tid,hl⟩)
   have:=m.ac (.own l off len) v hc
   simp only [Bb,if_true] at this
   have eJ:Bl st (.own l off len)= .data false (.slice e) ((xs.drop off).take len):=by simp only [Bl,hl]
   refine ⟨_,h1,this,rfl,Gl.freeze st l false e xs,λht=>?_⟩
   have:=cell (.own l off len) _ _ hc h1 (by rw [eJ];rfl) (Gl.freeze st l false e xs) (λk hk=>by rw [List.mem_singleton.1 hk];exact St.Hi st l false e xs) ht
   rw [eJ] at this
   exact this
  ·cases he
 ·rename_i l
  split at he
  ·rename_i vt mm hl
   simp only [Option.some.injEq,Prod.mk.injEq] at he
   obtain ⟨rfl,rfl⟩:=he
   obtain ⟨h1,m⟩:=h.En hl
   have:=m.ac (.Gi l) v hc
   simp only [Dm,if_true] at this
   exact ⟨_,h1,this,rfl,Gl.En st l vt mm,λht=>by simp [Mu,Ls] at ht⟩
  ·cases he
 ·rename_i a0 _ _
  split at he
  ·rename_i hs
   simp only [Option.some.injEq,Prod.mk.injEq] at he
   obtain ⟨rfl,rfl⟩:=he
   refine ⟨π,h,hc,hs,Gl.refl _ _,λht=>?_⟩
   have eJ:=Ms (st:=st) hs
   have:=cell a0 st π hc h (by rw [eJ];exact hs) (Gl.refl _ _) (λk hk=>by
    cases a0<;>simp [AC.settled] at hs<;>simp [AC.refs] at hk) ht
   rw [eJ] at this
   exact this
  ·cases he
 ·rename_i cs
  cases hsc:Du cs.length st cs with
  |none=>rw [hsc] at he;cases he
  |some p=>
   rw [hsc] at he
   simp only [Option.map_some,Option.some.injEq,Prod.mk.injEq] at he
   obtain ⟨rfl,rfl⟩:=he
   obtain ⟨us,rfl,hr⟩:=hc
   obtain ⟨π',h2,h3,h4,h5,h6,h7⟩:=bt cs.length st π cs us p.1 p.2 h hr hsc
   refine ⟨π',h2,⟨us,rfl,h3⟩,h4,h5,λht τ fr x Oo hv=>?_⟩
   simp only [Mu,Bool.and_eq_true] at ht
   simp only [Ct] at hv
   split at hv
   ·rename_i Nb
    rw [h6] at hv h4
    obtain ⟨F,f1,f2,f3⟩:=q8 h.1 τ cs us fr x hr ht.1 (Qr ht.2) h4 Oo hv
    exact ⟨F,us,f1,by simp [As,Nb],BI h h2 h5 h7 f2 f3,λb hb=>let ⟨l,r,_,q⟩:=f3 b hb;⟨l,r,q⟩⟩
   ·cases hv
 ·simp only [Option.some.injEq,Prod.mk.injEq] at he
  obtain ⟨rfl,rfl⟩:=he
  exact ⟨π,h,hc,rfl,Gl.refl _ _,λht=>by simp [Mu] at ht⟩
 ·cases he
theorem bT {o i j s p:Nat} (Ex:i≠j) (hp:p<s):(o+i)*s+p<(o+j)*s\/(o+j)*s+s<=(o+i)*s+p:=by
 rcases Nat.lt_or_gt_of_ne Ex with h|h
 ·left
  have:(o+i+1)*s<=(o+j)*s:=Nat.mul_le_mul_right _ (by omega)
  rw [Nat.add_mul,Nat.one_mul] at this
  omega
 ·right
  have:(o+j+1)*s<=(o+i)*s:=Nat.mul_le_mul_right _ (by omega)
  rw [Nat.add_mul,Nat.one_mul] at this
  omega
theorem Eg {α:Type} (l ys:List α) (i k:Nat) (h:i+ys.length<=l.length):(Bh l i ys)[k]?=if k<i then l[k]? else if k<i+ys.length then ys[k-i]? else l[k]?:=by
 unfold Bh
 have t1:(l.take i).length=i:=by simp;omega
 split
 ·rename_i hk
  rw [List.append_assoc,List.getElem?_append_left (by omega),List.getElem?_take,if_pos hk]
 ·split
  ·rename_i hk
   rw [List.append_assoc,List.getElem?_append_right (by omega),t1,List.getElem?_append_left (by omega)]
  ·rw [List.getElem?_append_right (by simp;omega),List.getElem?_drop]
   congr 1
   simp;omega
theorem Ev {α:Type} (l ys:List α) (i:Nat) (h:i+ys.length<=l.length):(Bh l i ys).length=l.length:=by
 unfold Bh;simp;omega
theorem ud (hT:Cd P T) {st:St} {a:Act} (h:Aj X π st a w) {t:TypeId} {e:Ty} (ht:T.ty t=some e) {l j:Nat} {r:Real} {vx:Value} {tid:TypeId} {fr Ow:Bool} {xs:List e.den} {x:e.den}
  (hp:π l=some r) {tr:Bool} (hl:Ae st.heap l=some (.arr fr tr e tid xs)) (hj:j<xs.length) (hx:Bd w (Be X.w0.heap.size X.Sc π Ow) e vx x):
  ∃w',(Instr.storeAt t (.pointer (some ⟨r.g,(r.o+j)*e.size,none⟩)) vx).run P w= .ok () w'/\Aj X π (st.Gf l (.arr (fr&&Ow) false e tid (xs.set j x))) a w':=by
 have hb:=(h.1.heap l).Mh hl
 simp only [Au,Fv,hp] at hb
 obtain ⟨h1,cur,ti,h2,h3,h4,h5,h6,_⟩:=hb
 obtain ⟨es,bM,hv⟩:=hx
 have ia:=Cells.len e es x bM
 have Oz:(r.o+j)*e.size+es.length<=cur.size:=by
  have:(r.o+j+1)*e.size<=(r.o+r.cap)*e.size:=Nat.mul_le_mul_right _ (by omega)
  rw [Nat.add_mul (r.o+j) 1,Nat.one_mul] at this
  omega
 have Sf:(r.o+j)*e.size+es.length<=cur.toList.length:=by simpa using Oz
 have Om:=Pk (P:=P) (w:=w) (hT.ty _ _ ht) r.g ((r.o+j)*e.size) vx es (by rw [hv];exact Gq e es x bM) ia (Cells.plain e es x bM) cur ti h2 Oz
 refine ⟨_,by simp only [Instr.storeAt,Instr.sureAddr];simpa using Om,?_⟩
 refine h.set hl (b:= .arr (fr&&Ow) false e tid (xs.set j x)) ⟨rfl,by simp⟩ (by rw [hp];exact Il w r.g _) λm=>?_
 simp only [Au,Fv,hp]
 refine ⟨⟨h1.1,h1.2.1,λhf=>h1.2.2 (by simp only [Bool.and_eq_true] at hf;exact hf.1)⟩,_,_,setRow_heap w r.g cur _ ti _ h2,by rw [List.size_toArray,Ev _ _ _ Sf];simpa using h3,h4,by simpa using h5,λi y hy=>?_,λhf=>by cases hf⟩
 rw [List.getElem?_set] at hy
 split at hy
 ·rename_i pc;subst pc
  simp only [Option.some.injEq] at hy;subst hy
  refine ⟨es,ia,λk u hu=>?_,(m.cells Ow e es x bM).and_right⟩
  have hk:k<es.length:=(List.getElem?_eq_some_iff.1 hu).1
  rw [List.getElem?_toArray,Eg _ _ _ _ Sf,if_neg (by omega),if_pos (by omega)]
  rw [show (r.o+j)*e.size+k-(r.o+j)*e.size=k by omega];exact hu
 ·rename_i pc
  obtain ⟨j7,NY,mW,vU⟩:=h6 i y hy
  refine ⟨j7,NY,λk u hu=>?_,(m.cells fr e j7 y vU).and_left⟩
  have hk:k<j7.length:=(List.getElem?_eq_some_iff.1 hu).1
  have:=mW k u hu
  rw [List.getElem?_toArray,Eg _ _ _ _ Sf]
  rcases bT (o:=r.o) (i:=i) (j:=j) (s:=e.size) (p:=k) (Ne.symm pc) (by omega) with Hq|pb
  ·rw [if_pos Hq];simpa using this
  ·rw [if_neg (by omega),if_neg (by omega)];simpa using this
theorem eP: ∀(Fs:List (List Nat)) (i:Nat) (F':List Nat),(List.flatten Fs).Nodup->F'.Nodup->(∀b∈F',b∉List.flatten Fs)->(List.flatten (Fs.set i F')).Nodup/\ ∀b∈List.flatten (Fs.set i F'),b∈List.flatten Fs\/b∈F'
 | [],i,F',_,_,_=>by simp
 |G::Fs,0,F',hn,lS,hs=>by
  simp only [List.set_cons_zero,List.flatten_cons] at hn hs⊢
  obtain ⟨n1,n2,n3⟩:=List.nodup_append.1 hn
  refine ⟨List.nodup_append.2 ⟨lS,n2,λa ha b hb e=>hs a ha (List.mem_append_right _ (e▸hb))⟩,λb hb=>?_⟩
  rcases List.mem_append.1 hb with hb|hb
  ·exact .inr hb
  ·exact .inl (List.mem_append_right _ hb)
 |G::Fs,i+1,F',hn,lS,hs=>by
  simp only [List.set_cons_succ,List.flatten_cons] at hn hs⊢
  obtain ⟨n1,n2,n3⟩:=List.nodup_append.1 hn
  obtain ⟨m1,m2⟩:=eP Fs i F' n2 lS λb hb hm=>hs b hb (List.mem_append_right _ hm)
  refine ⟨List.nodup_append.2 ⟨n1,m1,λa ha b hb e=>?_⟩,λb hb=>?_⟩
  ·subst e
   rcases m2 a hb with h|h
   ·exact n3 a ha a h rfl
   ·exact hs a h (List.mem_append_left _ ha)
  ·rcases List.mem_append.1 hb with hb|hb
   ·exact .inl (List.mem_append_left _ hb)
   ·exact (m2 b hb).imp (List.mem_append_right _) id
theorem q6 (hT:Cd P T) {st:St} {a:Act} (h:Aj X π st a w) {t:TypeId} {e:Ty} (ht:T.ty t=some e) {l j:Nat} {r:Real} {vx:Value} {tid:TypeId} {fr Ow:Bool} {xs:List e.den} {x:e.den}
  (hp:π l=some r) (hl:Ae st.heap l=some (.arr fr true e tid xs)) (hj:j<xs.length) (hx:Bd w (Be X.w0.heap.size X.Sc π Ow) e vx x) {F:List Nat} {us:List Value} (hF:Bf w F e us x) (KA:vx=As e us) (ib:bO X w π F):
  ∃w',(Instr.storeAt t (.pointer (some ⟨r.g,(r.o+j)*e.size,none⟩)) vx).run P w= .ok () w'/\Aj X (Ps π l (some (r.plus F))) (st.Gf l (.arr (fr&&Ow) true e tid (xs.set j x))) a w':=by
 have hb:=(h.1.heap l).Mh hl
 simp only [Au,Fv,hp] at hb
 obtain ⟨h1,cur,ti,h2,h3,h4,h5,h6,h7⟩:=hb
 obtain ⟨Fs,t1,t2,t3,t4⟩:=h7 trivial
 obtain ⟨es,bM,hv⟩:=hx
 have ia:=Cells.len e es x bM
 have Ahe:us=es:=by
  have c1:=Gq e us x (Bf.cells (S:= λ_=>False) F e us x hF λ_ _ h=>h)
  have c2:=Gq e es x bM
  rw [<-KA,hv,c2] at c1
  simpa using c1.symm
 subst Ahe
 have Oz:(r.o+j)*e.size+us.length<=cur.size:=by
  have:(r.o+j+1)*e.size<=(r.o+r.cap)*e.size:=Nat.mul_le_mul_right _ (by omega)
  rw [Nat.add_mul (r.o+j) 1,Nat.one_mul] at this
  omega
 have Sf:(r.o+j)*e.size+us.length<=cur.toList.length:=by simpa using Oz
 have Om:=Pk (P:=P) (w:=w) (hT.ty _ _ ht) r.g ((r.o+j)*e.size) vx us (by rw [hv];exact Gq e us x bM) ia (Cells.plain e us x bM) cur ti h2 Oz
 have Na:r.cl r.g:=h.1.sub l r _ hp h1.1
 have ZC: ∀b∈F,b≠r.g:= λb hb e=>(ib.2 b hb).2.2 l r hp (e▸Na)
 have BV:=eP Fs j F (List.nodup_cons.1 t2).2 ib.1 λb hb hm=>(ib.2 b hb).2.2 l r hp (t3 b hm)
 refine ⟨_,by simp only [Instr.storeAt,Instr.sureAddr];simpa using Om,?_⟩
 refine h.Ahv hl (b:= .arr (fr&&Ow) true e tid (xs.set j x)) ⟨rfl,by simp⟩ hp (λc hc=>⟨(ib.2 c hc).1,(ib.2 c hc).2.1,λm r0 _=>(ib.2 c hc).2.2 m r0⟩) (Il w r.g _) λm=>?_
 simp only [Au,Fv]
 have cell: ∀(i:Nat) (j7:List Value),i≠j->j7.length=e.size->(∀k u,j7[k]?=some u->cur[(r.o+i)*e.size+k]?=some u)-> ∀k u,j7[k]?=some u->(Bh cur.toList ((r.o+j)*e.size) us).toArray[(r.o+i)*e.size+k]?=some u:=by
  intro i j7 jv NY mW k u hu
  have hk:k<j7.length:=(List.getElem?_eq_some_iff.1 hu).1
  have:=mW k u hu
  rw [List.getElem?_toArray,Eg _ _ _ _ Sf]
  rcases bT (o:=r.o) (i:=i) (j:=j) (s:=e.size) (p:=k) jv (by omega) with Hq|pb
  ·rw [if_pos Hq];simpa using this
  ·rw [if_neg (by omega),if_neg (by omega)];simpa using this
 have SK: ∀k u,us[k]?=some u->(Bh cur.toList ((r.o+j)*e.size) us).toArray[(r.o+j)*e.size+k]?=some u:=by
  intro k u hu
  have hk:k<us.length:=(List.getElem?_eq_some_iff.1 hu).1
  rw [List.getElem?_toArray,Eg _ _ _ _ Sf,if_neg (by omega),if_pos (by omega)]
  rw [show (r.o+j)*e.size+k-(r.o+j)*e.size=k by omega];exact hu
 refine ⟨⟨h1.1,h1.2.1,λhf=>h1.2.2 (by simp only [Bool.and_eq_true] at hf;exact hf.1)⟩,_,_,setRow_heap w r.g cur _ ti _ h2,by rw [List.size_toArray,Ev _ _ _ Sf,Array.length_toList];exact h3,h4,by rw [List.length_set];exact h5,λi y hy=>?_,λ_=>?_⟩
 ·rw [List.getElem?_set] at hy
  split at hy
  ·rename_i pc;subst pc
   simp only [Option.some.injEq] at hy;subst hy
   exact ⟨us,ia,SK,(m.cells Ow e us x bM).and_right⟩
  ·rename_i pc
   obtain ⟨j7,NY,mW,vU⟩:=h6 i y hy
   exact ⟨j7,NY,cell i j7 (Ne.symm pc) NY mW,(m.cells fr e j7 y vU).and_left⟩
 ·refine ⟨Fs.set j F,by simp [t1],List.nodup_cons.2 ⟨λhm=>?_,BV.1⟩,λb hb=>?_,λi y G hy hG=>?_⟩
  ·rcases BV.2 _ hm with h8|h8
   ·exact (List.nodup_cons.1 t2).1 h8
   ·exact ZC _ h8 rfl
  ·exact (BV.2 b hb).imp (t3 b) id
  ·rw [List.getElem?_set] at hy hG
   split at hy
   ·rename_i pc;subst pc
    rw [if_pos rfl] at hG
    rw [if_pos (by omega)] at hG
    simp only [Option.some.injEq] at hy hG;subst hy;subst hG
    exact ⟨us,ia,SK,hF.Cr _ _ _ _ (by simp) λb hb=>setRow_other w r.g b _ (ZC b hb)⟩
   ·rename_i pc
    rw [if_neg pc] at hG
    obtain ⟨j7,NY,mW,vU⟩:=t4 i y G hy hG
    exact ⟨j7,NY,cell i j7 (Ne.symm pc) NY mW,vU.Cr _ _ _ _ (by simp) λb hb=>setRow_other w r.g b _ λe=>(List.nodup_cons.1 t2).1 (List.mem_flatten.2 ⟨G,List.mem_of_getElem? hG,e▸hb⟩)⟩
theorem lv (hT:Cd P T) {st:St} {a:Act} (h:Aj X π st a w) (t:TypeId) (p x:AV) (vp vx:Value) (hp:Ao X w π st.heap p vp) (hx:Ao X w π st.heap x vx) (st':St)
  (he:Nz T st t p x=some st'): ∃w' π',(Instr.storeAt t vp vx).run P w= .ok () w'/\Aj X π' st' a w':=by
 unfold Nz at he
 split at he
 ·rename_i τ l i ht
  split at he
  ·rename_i tid vs cs hl hc
   split at he
   ·rename_i hle
    simp only [Option.some.injEq] at he
    obtain ⟨w',h1,h2⟩:=uf hT h ht hp hx hl hc hle
    split at he
    ·rename_i Fq
     simp only [Bool.and_eq_true,Nat.blt_eq] at Fq
     subst he
     obtain ⟨HS,h3⟩:=aB (T:=T) l i t τ cs.length 0 _ π (by omega) h2
     exact ⟨w',HS,h1,h3⟩
    ·subst he
     exact ⟨w',π,h1,h2⟩
   ·cases he
  ·cases he
 ·rename_i τ l j ht
  split at he
  ·rename_i x' st1 hs
   obtain ⟨Vw,h1,h2,h3,h4,h5⟩:=Vs h hx hs
   split at he
   ·rename_i fr tr e tid xs Ow y hl hv
    split at he
    ·rename_i eK;subst eK
     split at he
     ·rename_i hj
      simp only [Option.some.injEq] at he;subst he
      obtain ⟨r,b,sz,n,g1,g0,g2,g3,rfl⟩:=hp
      obtain ⟨k1,b',f,k2,k3⟩:=h4 l _ hl
      rw [g1] at k2;cases k2
      have g4:=congrArg OB.row k3
      rw [show (OB.map f b).row=b.row by cases b<;>rfl,g0] at g4
      simp only [OB.row,Option.some.injEq,Prod.mk.injEq] at g4
      obtain ⟨rfl,rfl⟩:=g4
      cases ie:(tr&&(Mu st x&&τ.tree)) with
      |false=>
       obtain ⟨w',q1,q2⟩:=ud hT h1 ht (k1.trans g3) hl hj (Jw _ x' vx Ow y h3 h2 hv)
       exact ⟨w',Vw,q1,q2⟩
      |true=>
       simp only [Bool.and_eq_true] at ie
       obtain ⟨rfl,htv,eK⟩:=ie
       obtain ⟨F,us,f1,f2,f3,_⟩:=h5 htv τ Ow y eK hv
       obtain ⟨w',q1,q2⟩:=q6 hT h1 ht (k1.trans g3) hl hj (Jw _ x' vx Ow y h3 h2 hv) f1 f2 f3
       exact ⟨w',_,q1,q2⟩
     ·cases he
    ·cases he
   ·cases he
  ·cases he
 ·cases he
theorem o3 {S:Nat->Prop} {e:Ty} {v:Value} {ys:List e.den} (h:Cells w S (.slice e) [v] ys):
  ∃ad c,v= .slice ad ys.length c/\(ys= []\/ ∃g o,ad=some ⟨g,o,none⟩/\ ∃news:List Value,news.length=ys.length*e.size/\(∀j u,news[j]?=some u->w.cell? ⟨g,o+j,none⟩=some u)/\(∀u∈news,u.oneCell'=true)/\(∀j u,j<ys.length*e.size->w.cell? ⟨g,o+j,none⟩=some u->news[j]?=some u)/\
   ∀(i:Nat) (y:e.den),ys[i]?=some y-> ∃es:List Value,es.length=e.size/\(∀j u,es[j]?=some u->news[i*e.size+j]?=some u)/\Cells w S e es y):=by
 simp only [Cells] at h
 obtain ⟨ad,len,cap,hv,hl,mS,yK⟩:=h
 simp only [List.cons.injEq,and_true] at hv
 subst hl
 refine ⟨ad,cap,hv,?_⟩
 rcases yK with h0|⟨g,o,rfl,hg,hn,Ia⟩
 ·exact .inl h0
 ·right
  refine ⟨g,o,rfl,(List.range (ys.length*e.size)).map λj=>(w.cell? ⟨g,o+j,none⟩).getD undef,by simp,?_⟩
  have key: ∀k,k<ys.length*e.size-> ∃u,w.cell? ⟨g,o+k,none⟩=some u/\u.oneCell'=true:=by
   intro k hk
   have hs:0<e.size:=by
    rcases Nat.eq_zero_or_pos e.size with h|h
    ·rw [h] at hk;simp at hk
    ·exact h
   have hi:k/e.size<ys.length:=(Nat.div_lt_iff_lt_mul hs).2 hk
   obtain ⟨es,bM,hc,Va⟩:=Ia (k/e.size) _ (List.getElem?_eq_getElem hi)
   have hm:k%e.size<es.length:=by rw [bM];exact Nat.mod_lt _ hs
   have:=hc (k%e.size) _ (List.getElem?_eq_getElem hm)
   rw [Nat.add_assoc,show k/e.size*e.size+k%e.size=k by rw [Nat.mul_comm];exact Nat.div_add_mod k e.size] at this
   exact ⟨_,this,Cells.plain e es _ Va _ (List.getElem_mem hm)⟩
  refine ⟨λj u hu=>?_,λu hu=>?_,λj u hj hu=>by rw [List.getElem?_map,List.getElem?_range hj];simp [hu],λi y hy=>?_⟩
  ·rw [List.getElem?_map] at hu
   have hj:j<ys.length*e.size:=by
    by_cases hj:j<ys.length*e.size
    ·exact hj
    ·rw [List.getElem?_eq_none (by simpa using hj)] at hu;cases hu
   rw [List.getElem?_range hj] at hu
   obtain ⟨u',bJ,_⟩:=key j hj
   simp only [Option.map_some,bJ,Option.getD_some,Option.some.injEq] at hu
   rw [bJ,hu]
  ·obtain ⟨j,hj,rfl⟩:=List.mem_map.1 hu
   obtain ⟨u',bJ,h1⟩:=key j (List.mem_range.1 hj)
   rw [bJ];exact h1
  ·obtain ⟨es,bM,hc,Va⟩:=Ia i y hy
   refine ⟨es,bM,λj u hu=>?_,Va⟩
   have hi:=(List.getElem?_eq_some_iff.1 hy).1
   have hj:=(List.getElem?_eq_some_iff.1 hu).1
   have Hq:i*e.size+j<ys.length*e.size:=by
    have:(i+1)*e.size<=ys.length*e.size:=Nat.mul_le_mul_right _ (by omega)
    rw [Nat.add_mul,Nat.one_mul] at this
    omega
   rw [List.getElem?_map,List.getElem?_range Hq]
   have:=hc j u hu
   rw [Nat.add_assoc] at this
   simp [this]
end
end Go.Proofs.Ytjbdmibbbpdnnaa
