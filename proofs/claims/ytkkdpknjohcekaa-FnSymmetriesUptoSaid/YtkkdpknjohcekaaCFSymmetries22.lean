/-
  Part 23 of the proof that the statement FnSymmetries holds.
-/
import Derived.Test.YtkkdpknjohcekaaCFSymmetries21
namespace Go.Proofs.Ytkkdpknjohcekaa
open Go.RowKit
section
variable {P:Program} {T:Tab} {X:Ctx} {w w':World} {π:Pi} {H:List (Nat×OB)}
theorem vd {π':Pi} {st':St} {a:Act} (h:Bb X π' st' a w) (k:Km π π' H st'.heap) {fr:Bool} (τ:Ty) (cs:List Value) (x:τ.den) (hc:Cells w (Cr X.w0.heap.size X.Sc π fr) τ cs x):
  Cells w (Cr X.w0.heap.size X.Sc π' fr) τ cs x:=
 Cells.Fw (Ar _) (λ_ _ _=>rfl) (λb _ hA=>by
  rcases hA with ⟨l,r,hl,hg⟩|h2
  ·have hh:=h.1.heap l
   cases hb:As st'.heap l with
   |none=>have:=hh.emp hb;rw [this] at hl;cases hl
   |some b'=>have:=(k l b' hb).1;rw [this] at hl;exact .inl ⟨l,r,hl,hg⟩
  ·exact .inr h2) τ cs x hc
theorem fc.drop {F:List Nat} {l:Nat} (h:fc X w π F):fc X w (Vr π l none) F:=
 ⟨h.1,λb hb=>⟨(h.2 b hb).1,(h.2 b hb).2.1,λm r hm=>by
  by_cases e:m=l
  ·subst e;rw [Ft] at hm;cases hm
  ·rw [Fo π none e] at hm;exact (h.2 b hb).2.2 m r hm⟩⟩
theorem qs {st:St} {a:Act} (h:Bb X π st a w) (l:Nat) (hl:l<Be) (f0 t0:Bool) (te:TypeId) (e:Ty):
  Bb X (Vr π l none) (st.new l (.arr f0 t0 e te [])) a w/\Bf X w (Vr π l none) (st.new l (.arr f0 t0 e te [])).heap (.at (.own l 0 0)) (.slice none 0 0)/\
   ∀fr τ cs x,Cells w (Cr X.w0.heap.size X.Sc π fr) τ cs x->Cells w (Cr X.w0.heap.size X.Sc (Vr π l none) fr) τ cs x:=
 ⟨h.replace l hl none _ (Pc w _) (λr hr=>by cases hr) (λ_=>rfl),
  zc (St.Gh st l _) (Ar _) (by rw [Ft];exact ⟨rfl,rfl,rfl⟩),
  fun fr τ cs x hc=>Cells.Fw (Ar _) (λ_ _ _=>rfl) (λb _ hA=>by
  rcases hA with ⟨m,r,hm,hg⟩|h2
  ·by_cases e:m=l
   ·subst e;rw [Ft] at hm;cases hm
   ·rw [Fo π none e] at hm;exact .inl ⟨m,r,hm,hg⟩
  ·exact .inr h2) τ cs x hc⟩
theorem Wj (hT:Du P T) {st:St} {a:Act} (h:Bb X π st a w) (dst:Nat) (t ty:TypeId) (x y:Operand) (av:AV) (st':St) (he:Nk T st dst t x y=some (av,st')):
  ∃v' w' π',(Builtin.append_ #[t,t] ty #[a.eval x,a.eval y]).run P w= .ok v' w'/\Bb X π' st' a w'/\Bf X w' π' st'.heap av v':=by
 unfold Nk at he
 split at he
 ·cases he
 ·rename_i te iS
  split at he
  ·rename_i e y' st1 Wr hs
   obtain ⟨aV,h1,h2,h3,h4,h5⟩:=aO h (Dn h.2 y) hs
   split at he
   ·cases he
   ·rename_i oO ys hv
    dsimp only at he
    have GX: ∀tr2,tr2=(e.flat||(Sh st (st.ev y)&&e.tree))->tr2=true->e.flat=true\/ ∃F,Cp w F (.slice e) [a.eval y] ys/\fc X w aV F:=by
     intro tr2 e2 l6
     subst e2
     cases hef:e.flat with
     |true=>exact .inl rfl
     |false=>
     right
     simp only [hef,ab,Ag] at l6
     obtain ⟨F,us,f1,f2,f3,_⟩:=h5 l6.1 (.slice e) oO ys l6.2 hv
     have OY:us= [a.eval y]:=by
      simp only [Cp] at f1
      obtain ⟨a0,len,cap,rfl,_⟩:=f1
      rw [f2];simp [Bs,Ty.Ap]
     rw [OY] at f1
     exact ⟨F,f1,f3⟩
    have hyc:Cells w (Cr X.w0.heap.size X.Sc aV oO) (.slice e) [a.eval y] ys:=Cz.Rc rfl (Mi _ y' _ oO ys h3 h2 hv)
    have TH:=Dn h1.2 x
    split at he
    ·rename_i hx
     rw [hx] at TH
     have hxv:a.eval x= .slice none 0 0:=TH
     split at he
     ·rename_i mB
      simp only [Aa,Ad] at he
      obtain ⟨rfl,rfl⟩:=he
      obtain ⟨k1,k2,k3⟩:=qs h1 dst mB.2 (T.rU||e.flat) T.AA te e
      have:=kx (ty:=ty) hT k1 iS Wr mB.2 (fr3:=oO||e.flat) (tr2:=e.flat||(Sh st (st.ev y)&&e.tree)) rfl (St.Gh st1 dst _) k2 (k3 _ _ _ _ hyc) (by rw [Db];exact mB.1) (λht=>by
       rcases GX _ rfl ht with h0|⟨F,f1,f2⟩
       ·exact .inl h0
       ·exact .inr ⟨F,f1,f2.drop⟩)
      rw [<-hxv] at this
      exact this
     ·cases he
    ·rename_i l off len hx
     rw [hx] at TH
     split at he
     ·rename_i fr tr e' tid xs hl
      split at he
      ·rename_i Jg
       obtain ⟨rfl,rfl⟩:=Jg
       split at he
       ·rename_i mB
        simp only [Aa,Ad] at he
        obtain ⟨rfl,rfl⟩:=he
        exact kx (ty:=ty) hT h1 iS Wr mB.2 (fr3:=oO||e'.flat) (tr2:=e'.flat||(Sh st (st.ev y)&&e'.tree)) rfl hl TH hyc mB.1 (GX _ rfl)
       ·cases he
      ·cases he
     ·cases he
    ·cases he
  ·cases he
theorem kK (hT:Du P T) {st:St} {a:Act} (h:Bb X π st a w) (dst:Nat) (t ty:TypeId) (x y:Operand) (av:AV) (st':St) (he:Qs T st dst t x y=some (av,st')):
  ∃v' w' π',(Builtin.append_ #[t,t] ty #[a.eval x,a.eval y]).run P w= .ok v' w'/\Bb X π' st' a w'/\Bf X w' π' st'.heap av v':=by
 unfold Qs at he
 split at he
 ·rename_i tx
  split at he
  ·rename_i l i c hg
   split at he
   ·rename_i e te rows kp tid hl _
    split at he
    ·rename_i hc
     simp only [Ag,Ms,Eg] at hc
     have fS:dst≠l:= λe=>by rw [e,Nat.beq_refl] at hc;cases hc.2.2
     unfold St.at at hl
     have hv:Gy X w π st.heap (.sub l i c) (a.tmps.getD tx undef):=by
      have:=h.2.tmps tx
      rw [hg] at this
      exact this
     obtain ⟨aV,h1,h2⟩:=BV (tid:=tid) h hl fS hc.2.1 hc.1 hv
     have h3:=h1.put (some tx) (c:= .at (.own dst 0 (rows.getD i []).length)) h2
     have Ae1:a.put (some tx) (a.tmps.getD tx undef)=a:=by
      have:a.tmps.setIfInBounds tx (a.tmps.getD tx undef)=a.tmps:=by
       apply Array.ext_getElem?
       intro k
       rw [Array.getElem?_setIfInBounds]
       split
       ·rename_i e
        subst e
        split
        ·rename_i Jx
         rw [Array.getElem?_eq_getElem Jx];simp
        ·rename_i Jx
         rw [Array.getElem?_eq_none (by omega)]
       ·rfl
      simp only [Act.put,this]
     rw [Ae1] at h3
     exact Wj hT h3 dst t ty (.tmp tx) y av st' he
    ·cases he
   ·cases he
  ·exact Wj hT h dst t ty _ y av st' he
 ·exact Wj hT h dst t ty x y av st' he
theorem FT {S:Nat->Prop} {e:Ty} (h:km e=true): ∃z,Bi e= [z]/\e.Ap=false/\e.size=1/\Cells w S e [z] e.zero/\z.oneCell'=true:=by
 cases e<;>simp [km] at h
 ·exact ⟨_,rfl,rfl,rfl,rfl,rfl⟩
 ·exact ⟨_,rfl,rfl,rfl,rfl,rfl⟩
 ·exact ⟨_,rfl,rfl,rfl,rfl,rfl⟩
 ·exact ⟨_,rfl,rfl,rfl,⟨none,0,0,rfl,rfl,Ar _, .inl rfl⟩,rfl⟩
 ·exact ⟨_,rfl,rfl,rfl, .inl ⟨rfl,0,rfl⟩,rfl⟩
theorem AX {e:Ty} {z:Value} (ht:e.tree=true) (h:km e=true) (hz:Bi e= [z]):Cp w [] e [z] e.zero:=by
 cases e<;>simp [km] at h<;>simp only [Bi,Gd,eY] at hz<;>subst hz<;>try (simp [Ty.tree] at ht;done)
 ·exact ⟨rfl,rfl⟩
 ·exact ⟨rfl,rfl⟩
 ·exact ⟨rfl,rfl⟩
 ·exact ⟨none,0,0,rfl,rfl,Ar _, .inl ⟨rfl,rfl,rfl,rfl⟩⟩
theorem SV {S:Nat->Prop} : ∀(e:Ty),ef e=true->(Bi e).length=e.size/\Cells w S e (Bi e) e.zero/\(e.tree=true->Cp w [] e (Bi e) e.zero):=by
 intro e
 induction e with
 |unit=>intro _;exact ⟨rfl,rfl,λ_=>⟨rfl,rfl⟩⟩
 |pair a r eZ eV=>
  intro h
  simp only [ef,Ag] at h
  obtain ⟨a1,a2,a3⟩:=eZ h.1
  obtain ⟨r1,r2,r3⟩:=eV h.2
  exact ⟨by simp [Bi,Ty.size,a1,r1],⟨_,_,rfl,a2,r2⟩,λht=>by simp only [Ty.tree,Ag] at ht;exact ⟨_,_,[],[],rfl,rfl,a3 ht.1,r3 ht.2⟩⟩
 |_=>
  intro h
  simp only [ef] at h
  obtain ⟨z,z1,z2,z3,z4,_⟩:=FT (w:=w) (S:=S) h
  exact ⟨by rw [z1,z3];rfl,by rw [z1];exact z4,λht=>by rw [z1];exact AX ht h z1⟩
theorem HF {z:Array Value} {s m j q:Nat} (hz:z.size=s) (hj:j<m) (hq:q<s):(madeCells z (m*s))[j*s+q]?=z[q]?:=by
 have h1:j*s+q<m*s:=by
  have:=Fa s (show j+1<=m by omega)
  rw [Nat.succ_mul] at this
  omega
 have h2:(j*s+q)%z.size=q:=by rw [hz,Nat.mul_comm,Nat.mul_add_mod,Nat.mod_eq_of_lt hq]
 have h3:q<z.size:=by omega
 unfold madeCells
 simp [h1,h2,h3]
theorem pJ (hT:Du P T) {st:St} {a:Act} (h:Bb X π st a w) (dst:Nat) (t:TypeId) (l c:AV) (vl vc:Value) (hl:Bf X w π st.heap l vl) (hc:Bf X w π st.heap c vc) (av:AV) (st':St)
  (he:ao T st dst t l c=some (av,st')): ∃v' w' π',(Instr.makeSlice t vl vc).run P w= .ok v' w'/\Bb X π' st' a w'/\Bf X w' π' st'.heap av v':=by
 unfold ao at he
 split at he
 ·rename_i te WI k1 n oO k2 m iS
  have:=Ph hl;subst this
  have:=Ph hc;subst this
  split at he
  ·rename_i e Wr
   split at he
   ·rename_i Jg
    obtain ⟨h0,hnm,hz,CF⟩:=Jg
    obtain ⟨h1,h2⟩:=Tc.1 h0
    subst hnm
    simp only [Aa,Ad] at he
    obtain ⟨rfl,rfl⟩:=he
    obtain ⟨i,hi,Uj,ov,pV⟩:=(hT.ty te e Wr).info
    obtain ⟨z1,z4,z5⟩:=SV (w:=w) (S:=Cr X.w0.heap.size X.Sc π (T.rU||e.flat)) e hz
    have PA:(Bs e (Bi e)).cells=(Bi e).toArray:=Ks e _ _ z4
    have hu:=hT.elem t te iS
    have hn:n.toNat<=4294967296:=by unfold Fu at h2;omega
    have hr:=run_make (P:=P) (w:=w) t te i _ hu hi pV k1 k2 n n h1 (bY _) (by
     have:(i.bytes:Int)*n<=256*4294967296:=by
      obtain ⟨nn,rfl⟩:=Xh h1
      have h7:i.bytes*nn<=256*4294967296:=Nat.mul_le_mul ov (by simpa using hn)
      have h8:((i.bytes*nn:Nat):Int)<=256*4294967296:=by omega
      rwa [Int.natCast_mul] at h8
     omega) (by unfold Fu at h2;omega)
    rw [PA,Uj] at hr
    have Yz:((Bi e).toArray).size=e.size:=by simpa using z1
    have cell: ∀j,j<n.toNat-> ∀q u,(Bi e)[q]?=some u->(madeCells (Bi e).toArray (n.toNat*e.size)).toList[j*e.size+q]?=some u:=by
     intro j hj q u hu
     have hq:q<e.size:=by rw [<-z1];exact (Aj.1 hu).1
     have:=HF Yz hj hq
     rw [Array.getElem?_toList,this]
     simpa using hu
    have:=dz (w1:=w.alloc (.cells (madeCells (Bi e).toArray (n.toNat*e.size)) te)) h dst CF (T.rU||e.flat) (T.AA&&e.tree) e te (List.replicate n.toNat e.zero) (madeCells (Bi e).toArray (n.toNat*e.size)).toList (madeCells (Bi e).toArray (n.toNat*e.size)) n.toNat []
     (.inr rfl) (by rw [size_madeCells]) (by unfold maxLen;omega) (by simp)
     (λk u hu=>by
      rw [Array.getElem?_toList] at hu;exact hu) ⟨by simp [size_madeCells],λj x hx=>by
       have hj:=(Aj.1 hx).1
       simp only [Gj] at hj
       refine ⟨Bi e,z1,λq u hu=>cell j hj q u hu,?_⟩
       rw [Ew (Bz hx)];exact z4⟩ (by simp) (λl6=>⟨Mr,List.replicate n.toNat [],by simp,by simp,λj x F hx hF=>by
      have hj:=(Aj.1 hx).1
      simp only [Gj] at hj
      refine ⟨Bi e,z1,λq u hu=>cell j hj q u hu,?_⟩
      have e1:=Ew (Bz hx)
      have e2:=Ew (Bz hF)
      rw [e1,e2]
      exact z5 (by simp only [Ag] at l6;exact l6.2)⟩)
    exact ⟨_,_,_,hr,this.1,this.2 _ (by simp)⟩
   ·cases he
  ·cases he
 ·cases he
theorem fM (off:Nat): ∀(us:List Value) (k:Nat) (cells:List Value),off+k+us.length<=cells.length->
  (us.zipIdx k).foldl (λcs p=>cs.setIfInBounds (off+p.2) p.1) cells.toArray=(Dq cells (off+k) us).toArray
 | [],k,cells,h=>by simp [Dq]
 |u::us,k,cells,h=>by
  simp only [List.zipIdx_cons,Ui]
  rw [show cells.toArray.setIfInBounds (off+k) u=(cells.set (off+k) u).toArray by simp]
  rw [fM off us (k+1) (cells.set (off+k) u) (by simp at h⊢;omega)]
  congr 1
  apply List.ext_getElem?
  intro j
  have hl:off+k+(u::us).length<=cells.length:=h
  have MN:off+(k+1)+us.length<=(cells.set (off+k) u).length:=by simp at h⊢;omega
  rw [Ho _ _ _ _ hl,Ho _ _ _ _ MN]
  simp only [Bg]
  by_cases h1:j<off+k
  ·rw [Ab (by omega),Ab h1,List.getElem?_set_ne (by omega)]
  ·rw [Ai h1]
   by_cases h2:j=off+k
   ·subst h2
    rw [Ab (by omega),Ab (by omega),List.getElem?_set_self (by simp at h;omega)]
    simp
   ·rw [Ai (by omega)]
    by_cases h3:j<off+k+(us.length+1)
    ·rw [Ab (by omega),Ab h3]
     rw [show j-(off+k)=(j-(off+(k+1)))+1 by omega,Lz]
    ·rw [Ai (by omega),Ai h3,List.getElem?_set_ne (by omega)]
theorem tt (place:Nat->Option (Nat×Nat)) (cells:List Value) (i:Nat) (v:Value) (rest:List (Nat×Value)) (off size:Nat) (us:List Value) (hp:place i=some (off,size)) (hv:v.cells=us.toArray)
  (hl:us.length=size) (hle:off+size<=cells.length):Instr.fill place cells.toArray ((i,v)::rest)=Instr.fill place (Dq cells off us).toArray rest:=by
 simp only [Instr.fill,hp,hv,Gf,hl]
 rw [Ai (by simp;omega)]
 congr 1
 have:=fM off us 0 cells (by omega)
 simp only [Dz] at this
 rw [<-this]
 simp
theorem Wg (e:Ty) {a:Act} : ∀(parts:List (Nat×Operand)) (i:Nat) (st:St) (π:Pi) (fr tr:Bool) (ys:List e.den) (st':St) (cells:List Value),Bb X π st a w->Kz e i parts st=some (fr,tr,ys,st')->
  (i+parts.length)*e.size<=cells.length->
  ∃π' cl,Bb X π' st' a w/\Flat w (Cr X.w0.heap.size X.Sc π' fr) e cl ys/\ys.length=parts.length/\Km π π' st.heap st'.heap/\
   Instr.fill (λi=>some (i*e.size,e.size)) cells.toArray (parts.map λp=>(p.1,a.eval p.2))=some (Dq cells (i*e.size) cl).toArray/\
   (tr=true-> ∃Fs,Rv w e cl ys Fs/\fc X w π' (List.flatten Fs)/\ ∀b∈List.flatten Fs,∃l r,π l=some r/\r.cl b)
 | [],i,st,π,fr,tr,ys,st',cells,h,he,hle=>by
  simp only [Kz,Aa,Ad] at he
  obtain ⟨rfl,rfl,rfl,rfl⟩:=he
  exact ⟨π,[],h,Flat.nil,rfl,Km.refl _ _,by simp [Instr.fill,Dq],λ_=>⟨[],⟨rfl,λi z F hz=>by simp at hz⟩,⟨Mr,by simp⟩,by simp⟩⟩
 |(j,x)::r,i,st,π,fr,tr,ys,st',cells,h,he,hle=>by
  simp only [Kz] at he
  split at he
  ·rename_i dm;subst dm
   split at he
   ·rename_i v' st1 hs
    obtain ⟨aV,h1,h2,h3,h4,h5⟩:=aO h (Dn h.2 x) hs
    split at he
    ·rename_i WI y hv
     split at he
     ·rename_i oO tr2 zs st2 hr
      simp only [Aa,Ad] at he
      obtain ⟨rfl,rfl,rfl,rfl⟩:=he
      obtain ⟨es,eR,CG⟩:=Mi e v' _ WI y h3 h2 hv
      have iR:=Cells.len e es y eR
      have Ais:i*e.size+e.size<=cells.length:=by
       have:(i+1)*e.size<=(i+((i,x)::r).length)*e.size:=Fa _ (by simp)
       rw [Cw,Um] at this
       omega
      have GR:i*e.size+es.length<=cells.length:=by omega
      obtain ⟨MG,cl,g1,g2,g3,g4,g5,g6⟩:=Wg e r (i+1) st1 aV oO tr2 zs st2 (Dq cells (i*e.size) es) h1 hr (by
       rw [Ie _ _ _ GR]
       rw [show i+1+r.length=i+((i,x)::r).length by simp;omega];exact hle)
      have f1:Flat w (Cr X.w0.heap.size X.Sc MG WI) e es [y]:=⟨by simp [iR],λq z hz=>by
       rcases q with _|q
       ·simp at hz;subst hz
        exact ⟨es,iR,λj u hu=>by simpa using hu,vd g1 g4 e es y eR⟩
       ·simp at hz⟩
      refine ⟨MG,es++cl,g1,?_,by simp [g3],h4.trans g4,?_,λht=>?_⟩
      ·have:=(f1.cells λes z hc=>hc.and_left (f2:=oO)).append (g2.cells λes z hc=>hc.and_right (f1:=WI))
       simpa using this
      ·simp only [Bw]
       rw [tt _ cells i (a.eval x) _ (i*e.size) e.size es rfl (by rw [CG];exact Ks e es y eR) iR Ais,g5]
       congr 2
       have Qp:cl.length=r.length*e.size:=by rw [g2.1,g3]
       have Wp:(i+1)*e.size+cl.length<=(Dq cells (i*e.size) es).length:=by
        rw [Ie _ _ _ GR,Qp,<-Cw]
        rw [show i+1+r.length=i+((i,x)::r).length by simp;omega];exact hle
       have Ad2:i*e.size+(es++cl).length<=cells.length:=by
        rw [Ie _ _ _ GR] at Wp
        rw [Ay,iR]
        rw [Cw,Um] at Wp
        omega
       have e1:(i+1)*e.size=i*e.size+es.length:=by rw [Cw,Um,iR]
       apply List.ext_getElem?
       intro k
       rw [Ho _ _ _ _ Wp,Ho _ _ _ _ Ad2,Ho _ _ _ _ GR,e1,Ay]
       by_cases k1:k<i*e.size
       ·rw [Ab (by omega),Ab k1,Ab k1]
       ·rw [Ai k1,Ai k1]
        by_cases k2:k<i*e.size+es.length
        ·rw [Ab k2,Ab k2,Ab (by omega),Aq (by omega)]
        ·rw [Ai k2,Ai k2]
         by_cases k3:k<i*e.size+es.length+cl.length
         ·rw [Ab k3,Ab (by omega),Ao (by omega)]
          congr 1;omega
         ·rw [Ai k3,Ai (by omega)]
      ·simp only [Ag] at ht
       obtain ⟨⟨ht1,XN⟩,ht3⟩:=ht
       obtain ⟨F,us,t1,t2,t3,t7⟩:=h5 ht1 e WI y XN hv
       obtain ⟨Fs,t4,t5,t6⟩:=g6 ht3
       have OY:us=es:=by
        have c1:=Cp.cells (S:= λ_=>False) F e us y t1 (λ_ _ h=>h)
        have a1:=Ks e us y c1
        have a2:=Ks e es y eR
        rw [<-t2,CG,a2] at a1
        simpa using a1.symm
       subst OY
       refine ⟨F::Fs,?_,?_,λb hb=>?_⟩
       ·have k1:Rv w e us [y] [F]:=⟨rfl,λq z G hz hG=>by
         rcases q with _|q
         ·simp at hz hG;subst hz;subst hG
          exact ⟨us,iR,λj u hu=>by simpa using hu,t1⟩
         ·simp at hz⟩
        exact Rv.append (by simp [iR]) k1 t4
       ·rw [Kv]
        refine ⟨Dp.2 ⟨t3.1,t5.1,λb hb b' rH e=>?_⟩,λb hb=>?_⟩
        ·subst e
         obtain ⟨l,r,q1,q2⟩:=t6 b rH
         exact (t3.2 b hb).2.2 l r q1 q2
        ·rcases Az.1 hb with hb|hb
         ·have:=t3.2 b hb
          refine ⟨this.1,this.2.1,λl r q1 q2=>?_⟩
          cases hh:As st2.heap l with
          |none=>rw [(g1.1.heap l).emp hh] at q1;cases q1
          |some b'=>exact this.2.2 l r ((g4 l b' hh).1▸q1) q2
         ·exact t5.2 b hb
       ·rw [Kv] at hb
        rcases Az.1 hb with hb|hb
        ·exact t7 b hb
        ·obtain ⟨l,r,q1,q2⟩:=t6 b hb
         cases hh:As st1.heap l with
         |none=>rw [(h1.1.heap l).emp hh] at q1;cases q1
         |some b'=>exact ⟨l,r,(h4 l b' hh).1▸q1,q2⟩
     ·cases he
    ·cases he
   ·cases he
  ·cases he
theorem fG (hT:Du P T) {st:St} {a:Act} (h:Bb X π st a w) (dst:Nat) (t:TypeId) (len:Nat) (parts:Array (Nat×Operand)) (av:AV) (st':St)
  (he:Mc T st dst t len parts=some (av,st')):
  ∃v' w' π',(Instr.buildSlice t len (parts.map λ(i,x)=>(i,a.eval x))).run P w= .ok v' w'/\Bb X π' st' a w'/\Bf X w' π' st'.heap av v':=by
 unfold Mc at he
 split at he
 ·cases he
 ·rename_i te iS
  split at he
  ·cases he
  ·rename_i e Wr
   split at he
   ·rename_i Jg
    obtain ⟨eS,hlen⟩:=Jg
    split at he
    ·rename_i fr tr ys st1 hb
     simp only [Aa,Ad] at he
     obtain ⟨rfl,rfl⟩:=he
     obtain ⟨i,hi,Uj,ov,pV⟩:=(hT.ty te e Wr).info
     have hu:=hT.elem t te iS
     have IU:parts.toList.length=len:=by simpa using eS
     have hz: ∃z:Array Value,(len*e.size=0/\z= #[])\/(¬len*e.size=0/\(zeroValue te).run P w= .ok (Bs e (Bi e)) w/\z=(Bs e (Bi e)).cells):=by
      by_cases h0:len*e.size=0
      ·exact ⟨#[], .inl ⟨h0,rfl⟩⟩
      ·exact ⟨_, .inr ⟨h0,by simp [zeroValue,typeInfo,hi,pV],rfl⟩⟩
     obtain ⟨z,hz⟩:=hz
     obtain ⟨aV,cl,g1,g2,g3,g4,g5,g6⟩:=Wg e parts.toList 0 st π fr tr ys st1 ((Array.range (len*e.size)).map (z[· %z.size]!)).toList h hb (by simp [IU])
     have Qp:cl.length=len*e.size:=by rw [g2.1,g3,IU]
     have JA:(Dq ((Array.range (len*e.size)).map (z[· %z.size]!)).toList (0*e.size) cl)=cl:=by
      simp [Dq,Qp]
     rw [JA] at g5
     have Qy:(Instr.buildSlice t len (parts.map λ(i,x)=>(i,a.eval x))).run P w= .ok (.slice (some ⟨w.heap.size,0,none⟩) len len) (w.alloc (.cells cl.toArray te)):=by
      have h24: ¬(len*e.size>2^24):=by
       have:len*e.size<=64*64:=Nat.mul_le_mul hlen.1 hlen.2.1
       omega
      simp only [Instr.buildSlice,Sem.run_bind,run_underlying hu,Result.andThen_ok,(hT.ty te e Wr).size,Ai h24]
      have e1:(parts.map λ(i,x)=>(i,a.eval x)).toList=parts.toList.map λp=>(p.1,a.eval p.2):=by simp
      simp only [e1]
      have e2:(((Array.range (len*e.size)).map (z[· %z.size]!)).toList.toArray)=(Array.range (len*e.size)).map (z[· %z.size]!):=Array.toArray_toList
      rw [e2] at g5
      rcases hz with ⟨h0,rfl⟩|⟨h0,hz,rfl⟩
      ·rw [Ab h0]
       simp only [Sem.run_bind,Sem.run_pure,Result.andThen_ok,g5,newRow]
       simp
      ·rw [Ai h0]
       simp only [Sem.run_bind,Sem.run_pure,Result.andThen_ok,hz,g5,newRow]
       simp
     have hN: ∃N:List Nat,(∀b∈N,(X.w0.heap.size<=b\/X.gv b)/\b<w.heap.size/\ ∀m r0,m≠dst->aV m=some r0-> ¬r0.cl b)/\(tr=true->N.Nodup/\ ∃Fs,List.flatten Fs=N/\Rv w e cl ys Fs):=by
      cases tr with
      |false=>exact ⟨[],by simp,λh=>by cases h⟩
      |true=>
       obtain ⟨Fs,t1,t2,_⟩:=g6 rfl
       exact ⟨_,λb hb=>⟨(t2.2 b hb).1,(t2.2 b hb).2.1,λm r0 _=>(t2.2 b hb).2.2 m r0⟩,λ_=>⟨t2.1,Fs,rfl,t1⟩⟩
     obtain ⟨N,q1,q2⟩:=hN
     have:=dz (w1:=w.alloc (.cells cl.toArray te)) g1 dst hlen.2.2 ((T.rU||e.flat)&&fr) (T.AA&&tr) e te ys cl cl.toArray len N (.inr rfl) (by simpa using Qp) (by simp only [maxLen];omega) (by omega) (λk u hu=>by simpa using hu) (g2.cells λes z hc=>hc.and_right) q1 (λht=>q2 (by simp only [Ag] at ht;exact ht.2))
     exact ⟨_,_,_,Qy,this.1,this.2 _ (by omega)⟩
    ·cases he
   ·cases he
theorem jG {t te:TypeId} {e:Ty} (h:cq T t=some (te,e)):T.elem t=some te/\T.ty te=some (.slice e):=by
 unfold cq at h
 cases he:T.elem t with
 |none=>rw [he] at h;cases h
 |some Qo=>
  rw [he] at h
  simp only [Ev] at h
  cases hg:T.GI Qo with
  |none=>rw [hg] at h;cases h
  |some e'=>
   rw [hg] at h
   simp only [Ah,Aa,Ad] at h
   obtain ⟨rfl,rfl⟩:=h
   refine ⟨rfl,?_⟩
   unfold Tab.GI at hg
   split at hg
   ·split at hg
    ·rename_i Wr;simp only [Aa] at hg;subst hg;exact Wr
    ·cases hg
   ·cases hg
theorem kz (w:World) (o:Obj):Kl w.heap.size (λ_=>False) w (w.alloc o):=⟨rfl,rfl,rfl,by simp,λk hk _=>Below.heap_alloc w _ k hk⟩
theorem nw (w:World) (o:Obj):Kl w.heap.size (λ_=>False) w (w.drew.alloc o):=⟨rfl,rfl,rfl,by simp,λk hk _=>Below.heap_alloc w.drew _ k hk⟩
theorem oo (hT:Du P T) {st:St} {a:Act} (h:Bb X π st a w) (dst:Nat) (t:TypeId) (l c:AV) (vl vc:Value) (hl:Bf X w π st.heap l vl) (hc:Bf X w π st.heap c vc) (av:AV) (st':St)
  (he:Wn T st dst t l c=some (av,st')): ∃v' w' π',(Instr.makeSlice t vl vc).run P w= .ok v' w'/\Bb X π' st' a w'/\Bf X w' π' st'.heap av v':=by
 unfold Wn at he
 split at he
 ·exact pJ hT h dst t l c vl vc hl hc av st' he
 ·rename_i te e hg
  obtain ⟨iS,Wr⟩:=jG hg
  split at he
  ·rename_i WI k1 n oO k2 m
   have:=Ph hl;subst this
   have:=Ph hc;subst this
   split at he
   ·rename_i Jg
    obtain ⟨h0,hnm,CF⟩:=Jg
    obtain ⟨h1,h2⟩:=Tc.1 h0
    subst hnm
    simp only [Aa,Ad] at he
    obtain ⟨rfl,rfl⟩:=he
    obtain ⟨i,hi,Uj,ov,pV⟩:=(hT.ty te _ Wr).info
    have hu:=hT.elem t te iS
    have hn:n.toNat<=4294967296:=by unfold Fu at h2;omega
    have hr:=run_make (P:=P) (w:=w) t te i _ hu hi pV k1 k2 n n h1 (bY _) (by
     have:(i.bytes:Int)*n<=256*4294967296:=by
      obtain ⟨nn,rfl⟩:=Xh h1
      have h7:i.bytes*nn<=256*4294967296:=Nat.mul_le_mul ov (by simpa using hn)
      have h8:((i.bytes*nn:Nat):Int)<=256*4294967296:=by omega
      rwa [Int.natCast_mul] at h8
     omega) (by unfold Fu at h2;omega)
    have PA:(Bs (Ty.slice e) (Bi (Ty.slice e))).cells= #[.slice none 0 0]:=by simp [Bs,Ty.Ap,Bi,Value.cells]
    have jI:(Ty.slice e).size=1:=rfl
    rw [PA,Uj,jI] at hr
    have cell: ∀j,j<n.toNat->(madeCells #[Value.slice none 0 0] (n.toNat*1))[0+j]?=some (.slice none 0 0):=by
     intro j hj
     have:=HF (z:= #[Value.slice none 0 0]) (s:=1) (m:=n.toNat) (j:=j) (q:=0) rfl hj (by omega)
     simp only [Et,Dz] at this
     simp only [Et,Db]
     rw [this];rfl
    obtain ⟨π',g1,g2⟩:=Xx (w1:=w.alloc (.cells (madeCells #[Value.slice none 0 0] (n.toNat*1)) te)) (gv:= λ_=>False) h CF CF te (e:=e) (rows:=List.replicate n.toNat []) (us:=List.replicate n.toNat (.slice none 0 0)) (Rs:=List.replicate n.toNat none) (g:=w.heap.size) (o:=0) (cap:=n.toNat)
     (λ_ hf=>hf.elim) (kz w _) ⟨.inl (Ar _),by simp⟩ (heap_alloc_new w _) (by rw [size_madeCells];omega) (by unfold maxLen;omega) (by simp) (λj u hu=>by
      have hj:=(Aj.1 hu).1
      simp only [Gj] at hj
      rw [cell j hj,Ew (Bz hu)])
     ⟨by simp,by simp,λi j q q' h1=>(by have:=Ew (Bz h1);cases this),λi x hx=>by
      have hj:=(Aj.1 hx).1
      simp only [Gj] at hj
      rw [Ew (Bz hx)]
      exact ⟨.slice none 0 0,none,by rw [List.getElem?_replicate,Ab hj],by rw [List.getElem?_replicate,Ab hj],⟨rfl,rfl,rfl⟩,rfl⟩⟩
     (λi q h1=>by have:=Ew (Bz h1);cases this)
    exact ⟨_,_,π',hr,g1,g2 _ (by simp)⟩
   ·cases he
  ·cases he
theorem eP (hT:Du P T) {st:St} {a:Act} (h:Bb X π st a w) (dst:Nat) (t:TypeId) (len:Nat) (parts:Array (Nat×Operand)) (av:AV) (st':St)
  (he:Ii T st dst t len parts=some (av,st')):
  ∃v' w' π',(Instr.buildSlice t len (parts.map λ(i,x)=>(i,a.eval x))).run P w= .ok v' w'/\Bb X π' st' a w'/\Bf X w' π' st'.heap av v':=by
 unfold Ii at he
 split at he
 ·exact fG hT h dst t len parts av st' he
 ·rename_i te e hg
  obtain ⟨iS,Wr⟩:=jG hg
  split at he
  rotate_left
  ·cases he
  rename_i x ZQ
  split at he
  rotate_left
  ·cases he
  rename_i m off ln hx
  split at he
  rotate_left
  ·cases he
  rename_i fr tr e' tid xs hm
  split at he
  rotate_left
  ·cases he
  rename_i hc
  obtain ⟨rfl,hc,rfl,rfl⟩:=hc
  simp only [Ag,Ms] at hc
  obtain ⟨hlen,CF,TD⟩:=hc
  have hlen:len=1:=Ja hlen
  subst hlen
  simp only [Aa,Ad] at he
  obtain ⟨rfl,rfl⟩:=he
  have hu:=hT.elem t te iS
  unfold St.at at hm
  have hrx:=Dn h.2 x
  rw [hx] at hrx
  obtain ⟨_,rJ⟩:=Nx (X:=X) (w:=w) hrx hm
  obtain ⟨ax,nx,cx,UU⟩:=Zp rJ
  have hp:parts= #[(0,x)]:=by apply Oo;simpa using ZQ
  subst hp
  obtain ⟨i,hi,Uj,ov,pV⟩:=(hT.ty te _ Wr).info
  have Qy:(Instr.buildSlice t 1 (#[(0,x)].map λ(i,x)=>(i,a.eval x))).run P w= .ok (.slice (some ⟨w.heap.size,0,none⟩) 1 1) (w.alloc (.cells #[a.eval x] te)):=by
   have jI:(Ty.slice e').size=1:=rfl
   have hz:(zeroValue te).run P w= .ok (.slice none 0 0) w:=by simp [zeroValue,typeInfo,hi,pV,Bs,Ty.Ap,Bi]
   have TD:(#[(0,x)].map λ(i,x)=>(i,a.eval x))= #[(0, .slice ax nx cx)]:=by simp [UU]
   rw [TD,UU]
   simp only [Instr.buildSlice,Sem.run_bind,run_underlying hu,Result.andThen_ok,(hT.ty te _ Wr).size,jI]
   simp [Value.cells,Instr.fill,newRow,hz]
   congr 2
   apply Array.ext
   ·simp
   ·intro i h1 h2
    have h0:i=0:=by simpa using h2
    subst h0
    simp
  have AY:=(h.1.heap m).Qq hm
  simp only [By,Jo] at AY
  have hfa:Rw w (Cr X.w0.heap.size X.Sc π false) (π m) e' xs:=by
   cases hR:π m with
   |none=>rw [hR] at AY;exact AY
   |some q=>
    rw [hR] at AY
    obtain ⟨⟨f0,f0',_⟩,cu,TI,f2,f3,f4,f5,f6,_⟩:=AY
    exact ⟨⟨f0,f0'⟩,cu,TI,f2,f3,f4,f5,λp y hy=>by
     obtain ⟨es,g1,g2,g3⟩:=f6 p y hy
     exact ⟨es,g1,g2,Cells.Fw (Ar _) (λ_ _ _=>rfl) (λb _ hA=>hA.imp id (Or.imp id λ⟨h1,_⟩=>by cases h1)) e' es y g3⟩⟩
  obtain ⟨π',g1,g2⟩:=Xx (w1:=w.alloc (.cells #[a.eval x] te)) (gv:= λ_=>False) h CF TD te (e:=e') (rows:= [xs]) (us:= [a.eval x]) (Rs:= [π m]) (g:=w.heap.size) (o:=0) (cap:=1)
   (λ_ hf=>hf.elim) (kz w _) ⟨.inl (Ar _),by simp⟩ (heap_alloc_new w _) rfl (by unfold maxLen;omega) (by simp) (λj u hu=>by
    rcases j with _|j
    ·simpa using hu
    ·simp at hu)
   ⟨rfl,rfl,λi j q q' h1 h2 _=>by
    rcases i with _|i
    ·rcases j with _|j
     ·rfl
     ·simp at h2
    ·simp at h1,λi y hy=>by
    rcases i with _|i
    ·simp only [Bl,Aa] at hy
     subst hy
     exact ⟨_,_,rfl,rfl,rJ,hfa⟩
    ·simp at hy⟩
   (λi q h1=>by
    rcases i with _|i
    ·simp only [Bl,Aa] at h1
     have hf:=h.1.Cm h1
     have:=(h.1.place m q _ h1 (h.1.sub m q _ h1 hf)).2
     exact ⟨by omega,λh=>h,m,q, .inr rfl,h1,hf⟩
    ·simp at h1)
  exact ⟨_,_,π',Qy,g1,g2 1 rfl⟩
theorem kL (hT:Du P T) {st:St} {a:Act} (h:Bb X π st a w) (dst:Nat) (t ty:TypeId) (x y:Operand) (av:AV) (st':St) (he:Qt T st dst t x y=some (av,st')):
  ∃v' w' π',(Builtin.append_ #[t,t] ty #[a.eval x,a.eval y]).run P w= .ok v' w'/\Bb X π' st' a w'/\Bf X w' π' st'.heap av v':=by
 unfold Qt at he
 split at he
 ·exact kK hT h dst t ty x y av st' he
 ·rename_i te e hg
  obtain ⟨iS,Wr⟩:=jG hg
  split at he
  rotate_left
  ·cases he
  rename_i l off len m QC qc hx hy
  split at he
  rotate_left
  ·cases he
  rename_i e1 te1 A kp1 e2 sK B kp2 hl hm
  split at he
  rotate_left
  ·cases he
  rename_i hc
  obtain ⟨⟨rfl,rfl⟩,hc,⟨rfl,rfl⟩,⟨rfl,rfl⟩,hB,mB⟩:=hc
  simp only [Ag,Ms,Uo,Eg] at hc
  obtain ⟨⟨rfl,rfl⟩,ow,TD,fS⟩:=hc
  have fS:m≠l:= λe=>by rw [e,Nat.beq_refl] at fS;cases fS
  simp only [Aa,Ad] at he
  obtain ⟨rfl,rfl⟩:=he
  have hu:=hT.elem t sK iS
  obtain ⟨i,hi,Uj,ov,pV⟩:=(hT.ty sK _ Wr).info
  have Uj:i.size=1:=Uj
  unfold St.at at hl hm
  have hrx:=Dn h.2 x
  have hry:=Dn h.2 y
  rw [hx] at hrx;rw [hy] at hry
  obtain ⟨b1,s1,n1,q1,q2,_,hox⟩:=hrx
  rw [hl] at q1;cases q1
  simp only [OB.row,Aa,Ad] at q2
  obtain ⟨rfl,rfl⟩:=q2
  obtain ⟨b2,s2,n2,q1,q2,_,hoy⟩:=hry
  rw [hm] at q1;cases q1
  simp only [OB.row,Aa,Ad] at q2
  obtain ⟨rfl,rfl⟩:=q2
  have hA:=((h.1.heap l).Qq hl).1
  have hBb:=((h.1.heap m).Qq hm).1
  cases TF:π m with
  |none=>
   rw [TF] at hBb
   have hBb:B= []:=hBb
   subst hBb;simp at hB
  |some rB=>
  rw [TF] at hBb hoy
  obtain ⟨fB,Ame,tiB,uB,RB,w1B,w2B,w3B,w4B,w5B,w6B,w7B,LB⟩:=tz hBb
  obtain ⟨adB,hvy,hcB,haB⟩:=hoy
  have haB:=haB (by omega)
  subst haB
  have hlB:=LB.1
  have n1':uB.length=B.length*i.size:=by rw [Uj,Et];exact hlB
  have n2': ∀j u,uB[j]?=some u->w.cell? ((⟨rB.g,(rB.o+0)*1,none⟩:Addr).add j)=some u:= λj u hu=>by
   rw [Addr.add_lit,cellOf w1B,Et,Dz];exact w5B j u hu
  have pS:(A.length+B.length)*i.bytes<=140737488355328:=by
   have:(A.length+B.length)*i.bytes<=4294967296*256:=Nat.mul_le_mul mB ov
   omega
  have fU:A.length+B.length<=maxLen:=by unfold Fu at mB;simp only [maxLen];omega
  have hzs:(Bs (Ty.slice e2) (Bi (Ty.slice e2))).cells.size=1:=by simp [Bs,Ty.Ap,Bi,Value.cells]
  have Vc: ∀(k:Nat) (q:Real) (Rs:List (Option Real)),π k=some q->(∀(i:Nat) (p:Real),Rs[i]?=some (some p)->q.Cm p.g/\p.g≠q.g)-> ∀(i:Nat) (p:Real),Rs[i]?=some (some p)->p.g<w.heap.size:= λk q Rs h1 h2 i p h3=>
   (h.1.place k q _ h1 (h.1.sub k q _ h1 (h2 i p h3).1)).2
  cases eS:π l with
  |none=>
   rw [eS] at hA hox
   have hA:A= []:=hA
   subst hA
   obtain ⟨UU,_,_⟩:=hox
   rw [UU,hvy]
   simp only [Hr,Db,Nh] at mB pS fU⊢
   have hr:=run_append_nil (P:=P) w t ty sK i _ hu hi pV ⟨rB.g,(rB.o+0)*1,none⟩ B.length (rB.cap-0) uB n1' n2' hB (by simp only [maxLen] at fU;omega) (by omega)
   have GN:=grownCap_ge w B.length 0 sK
   have UF:=grownCap_le_maxLen w B.length 0 sK (by omega)
   obtain ⟨π',g1,g2⟩:=Xx (w1:=w.drew.alloc (.cells (uB.toArray++Builtin.zeroCells (Bs (Ty.slice e2) (Bi (Ty.slice e2))).cells (grownCap w B.length 0 sK-B.length)) sK)) (gv:= λ_=>False) h ow TD sK (e:=e2) (rows:=B) (us:=uB) (Rs:=RB) (g:=w.heap.size) (o:=0) (cap:=grownCap w B.length 0 sK)
    (λ_ hf=>hf.elim) (nw w _) ⟨.inl (Ar _),by simp⟩ (heap_alloc_new w.drew _) (by rw [Array.size_append,Gf,Tj,hzs];omega) UF GN (λj u hu=>by
     have hj:=(Aj.1 hu).1
     rw [Db,Sj (by simpa using hj)];simpa using hu)
    LB (λi q h1=>⟨by have:=Vc m rB RB TF w7B i q h1;omega,λh=>h,m,rB, .inr rfl,TF,(w7B i q h1).1⟩)
   exact ⟨_,_,π',hr,g1,g2 _ rfl⟩
  |some rA=>
   rw [eS] at hA hox
   obtain ⟨fA,II,tiA,uA,RA,w1A,w2A,w3A,w4A,w5A,w6A,w7A,LA⟩:=tz hA
   obtain ⟨adA,UU,hcA,haA⟩:=hox
   have hlA:=LA.1
   rw [UU,hvy]
   have apart: ∀(i j:Nat) (q q':Real),RA[i]?=some (some q)->RB[j]?=some (some q')->q.g≠q'.g:= λi j q q' h1 h2 e=>by
    have:=h.1.apart eS TF (w7A i q h1).1 (e▸(w7B j q' h2).1)
    exact fS this.symm
   have LAB:=p6.append LA LB apart
   have Is: ∀(i:Nat) (q:Real),RB[i]?=some (some q)->q.g≠rA.g:= λi q h1 e=>fS (h.1.apart TF eS (w7B i q h1).1 (e▸fA))
   have WQ: ∀(i:Nat) (q:Real),(RA++RB)[i]?=some (some q)->q.g≠rA.g/\q.g<w.heap.size/\ ∃k p,(k=l\/k=m)/\π k=some p/\p.Cm q.g:= λi q h1=>by
    by_cases hi:i<RA.length
    ·rw [Aq hi] at h1
     exact ⟨(w7A i q h1).2,Vc l rA RA eS w7A i q h1,l,rA, .inl rfl,eS,(w7A i q h1).1⟩
    ·rw [Ao (by omega)] at h1
     exact ⟨Is _ q h1,Vc m rB RB TF w7B _ q h1,m,rB, .inr rfl,TF,(w7B _ q h1).1⟩
   by_cases yE:A.length+B.length<=rA.cap-0
   ·have haA:=haA (by omega)
    subst haA
    have Wp:(rA.o+0)*1+A.length*i.size+uB.length<=II.size:=by rw [Uj];omega
    have Xy:(rA.o+0)*1+A.length*i.size+uB.length<=II.toList.length:=by simpa using Wp
    have hr:=Ze (P:=P) (w:=w) (ty:=ty) hu hi rA.g ((rA.o+0)*1) A.length (rA.cap-0) II tiA w1A ⟨rB.g,(rB.o+0)*1,none⟩ B.length (rB.cap-0) uB n1' n2' w6B yE Wp
    have pU:=Mx w rA.g (Dq II.toList ((rA.o+0)*1+A.length*i.size) uB).toArray
    obtain ⟨π',g1,g2⟩:=Xx (w1:=w.setRow rA.g (Dq II.toList ((rA.o+0)*1+A.length*i.size) uB).toArray) (gv:= λb=>b=rA.g) h ow TD sK (e:=e2) (rows:=A++B) (us:=uA++uB) (Rs:=RA++RB) (g:=rA.g) (o:=rA.o) (cap:=rA.cap)
     (λb hb=>⟨l,rA, .inl rfl,eS,hb▸fA⟩) ⟨pU.os,pU.tape,pU.output,pU.size,λc _ hc=>setRow_other w rA.g c _ hc⟩ ⟨.inr ⟨l,rA, .inl rfl,eS,fA⟩,Ec (Fm w1A) pU.size⟩
     (setRow_heap w rA.g II _ tiA _ w1A) (by rw [Gf,Ie _ _ _ Xy,Wc];exact w2A) w3A (by simp;omega) (λj u hu=>by
      rw [Hp,Ho _ _ _ _ Xy,Uj]
      by_cases hj:j<uA.length
      ·rw [Aq hj] at hu
       rw [Ab (by omega),Array.getElem?_toList]
       exact w5A j u hu
      ·rw [Ao (by omega)] at hu
       have:=(Aj.1 hu).1
       rw [Ai (by omega),Ab (by omega)]
       rw [show rA.o+j-((rA.o+0)*1+A.length*1)=j-uA.length by omega]
       exact hu)
     LAB (λi q h1=>⟨(WQ i q h1).1,(WQ i q h1).1,(WQ i q h1).2.2⟩)
    have:=g2 (A.length+B.length) (by simp)
    have e0:(rA.o+0)*1=rA.o:=by omega
    simp only [e0,Nat.sub_zero] at hr g1 this⊢
    exact ⟨_,_,π',hr,g1,this⟩
   ·have hold: ∀j u,uA[j]?=some u->w.cell? (adA.add j)=some u:=by
     intro j u hu
     have hj:=(Aj.1 hu).1
     rw [haA (by omega),Addr.add_lit,cellOf w1A,Et,Dz];exact w5A j u hu
    have hr:=run_append_grow (P:=P) w t ty sK i _ hu hi pV adA A.length (rA.cap-0) uA (by rw [Uj,Et];exact hlA) hold ⟨rB.g,(rB.o+0)*1,none⟩ B.length (rB.cap-0) uB n1' n2' (by omega) (by simp only [maxLen] at fU;omega) (growslice_fits (by omega) pS)
    have GN:=grownCap_ge w (A.length+B.length) (rA.cap-0) sK
    have UF:=grownCap_le_maxLen w (A.length+B.length) (rA.cap-0) sK fU
    obtain ⟨π',g1,g2⟩:=Xx (w1:=w.drew.alloc (.cells (uA.toArray++uB.toArray++Builtin.zeroCells (Bs (Ty.slice e2) (Bi (Ty.slice e2))).cells (grownCap w (A.length+B.length) (rA.cap-0) sK-(A.length+B.length))) sK)) (gv:= λ_=>False) h ow TD sK (e:=e2) (rows:=A++B) (us:=uA++uB) (Rs:=RA++RB) (g:=w.heap.size) (o:=0) (cap:=grownCap w (A.length+B.length) (rA.cap-0) sK)
     (λ_ hf=>hf.elim) (nw w _) ⟨.inl (Ar _),by simp⟩ (heap_alloc_new w.drew _) (by rw [Array.size_append,Array.size_append,Gf,Gf,Tj,hzs];omega) UF (by simpa using GN) (λj u hu=>by
      have hj:=(Aj.1 hu).1
      rw [Db,Sj (by simpa using hj)];simpa using hu)
     LAB (λi q h1=>⟨by have:=(WQ i q h1).2.1;omega,λh=>h,(WQ i q h1).2.2⟩)
    exact ⟨_,_,π',hr,g1,g2 _ (by simp)⟩
theorem jn: ∀τ:Ty,Fc X w π H (zeroCells τ) (Bi τ):=by
 have one: ∀(c:AC) (v:Value),v.oneCell'=true->Gy X w π H c v->Fc X w π H [c] [v]:= λc v h1 h2=>⟨rfl,λi c' hc=>by
  rcases i with _|i
  ·simp at hc;subst hc;exact ⟨v,rfl,h1,h2⟩
  ·simp at hc⟩
 intro τ
 induction τ with
 |unit=>exact ⟨rfl,λi c hc=>by simp [zeroCells] at hc⟩
 |pair a r eZ eV=>
  refine ⟨by simp [zeroCells,Bi,eZ.1,eV.1],λi c hc=>?_⟩
  simp only [zeroCells] at hc
  simp only [Bi]
  by_cases hi:i<(zeroCells a).length
  ·rw [Aq hi] at hc
   obtain ⟨u,hu,h⟩:=eZ.2 i c hc
   exact ⟨u,by rw [Aq (by rw [eZ.1];exact hi)];exact hu,h⟩
  ·rw [Ao (by omega)] at hc
   obtain ⟨u,hu,h⟩:=eV.2 _ c hc
   exact ⟨u,by rw [Ao (by rw [eZ.1];omega),eZ.1];exact hu,h⟩
 |int k=>exact one (.data true _ _) _ rfl (Mo (H:=H) k 0 true)
 |bool=>exact one (.data true _ _) _ rfl (Ln (H:=H) false true)
 |str=>exact one (.data true _ _) _ rfl (jR (H:=H) ByteArray.empty true)
 |slice e=>exact one _ _ rfl rfl
 |oslice e=>exact one _ _ rfl rfl
 |ptr e=>exact one _ _ rfl rfl
 |optr e=>exact one _ _ rfl rfl
 |smap v=>exact one (.data true _ _) _ rfl ⟨[.map none], .inl ⟨rfl,rfl⟩,by simp [Bs,Ty.Ap]⟩
 |clo f c=>exact one .undef .nilFunc rfl trivial
theorem rF: ∀τ:Ty,Fc X w π H (Pl τ) (Bi τ):=by
 have one: ∀(c:AC) (v:Value),v.oneCell'=true->Gy X w π H c v->Fc X w π H [c] [v]:= λc v h1 h2=>⟨rfl,λi c' hc=>by
  rcases i with _|i
  ·simp at hc;subst hc;exact ⟨v,rfl,h1,h2⟩
  ·simp at hc⟩
 intro τ
 induction τ with
 |unit=>exact ⟨rfl,λi c hc=>by simp [Pl] at hc⟩
 |pair a r eZ eV=>
  refine ⟨by simp [Pl,Bi,eZ.1,eV.1],λi c hc=>?_⟩
  simp only [Pl] at hc
  simp only [Bi]
  by_cases hi:i<(Pl a).length
  ·rw [Aq hi] at hc
   obtain ⟨u,hu,h⟩:=eZ.2 i c hc
   exact ⟨u,by rw [Aq (by rw [eZ.1];exact hi)];exact hu,h⟩
  ·rw [Ao (by omega)] at hc
   obtain ⟨u,hu,h⟩:=eV.2 _ c hc
   exact ⟨u,by rw [Ao (by rw [eZ.1];omega),eZ.1];exact hu,h⟩
 |int k=>exact one (.data false _ _) _ rfl (Mo (H:=H) k 0 false)
 |bool=>exact one (.data false _ _) _ rfl (Ln (H:=H) false false)
 |str=>exact one (.data false _ _) _ rfl (jR (H:=H) ByteArray.empty false)
 |slice e=>exact one (.data false _ _) _ rfl ⟨[.slice none 0 0],⟨none,0,0,rfl,rfl,Ar _, .inl rfl⟩,by simp [Bs,Ty.Ap]⟩
 |oslice e=>exact one _ _ rfl rfl
 |ptr e=>exact one _ _ rfl rfl
 |optr e=>exact one _ _ rfl rfl
 |smap v=>exact one (.data false _ _) _ rfl ⟨[.map none], .inl ⟨rfl,rfl⟩,by simp [Bs,Ty.Ap]⟩
 |clo f c=>exact one .undef .nilFunc rfl trivial
theorem c6 (hT:Du P T) {st:St} {a:Act} (h:Bb X π st a w) (t:TypeId) (Qg:Array (Nat×Nat))
  (eS: ∀f o u ρ,T.off t f=some (o,u)->T.ty u=some ρ->Qg[f]?=some (o,ρ.size)): ∀(parts:List (Nat×Operand)) (cs fD:List AC) (us:List Value),Fc X w π st.heap cs us->
  Mb T st t parts cs=some fD-> ∃Vw:List Value,Instr.fill (λi=>Qg[i]?) us.toArray (parts.map λp=>(p.1,a.eval p.2))=some Vw.toArray/\Fc X w π st.heap fD Vw
 | [],cs,fD,us,hr,he=>by
  simp only [Mb,Aa] at he;subst he
  exact ⟨us,rfl,hr⟩
 |(f,x)::r,cs,fD,us,hr,he=>by
  simp only [Mb] at he
  split at he
  ·rename_i o u ho
   split at he
   ·rename_i ρ hρ
    split at he
    ·rename_i c hc
     split at he
     ·rename_i hle
      obtain ⟨vs,hv,hl,TG⟩:=fu (Dn h.2 x) hc
      have e1:=hr.1
      have e2:=TG.1
      obtain ⟨Vw,g1,g2⟩:=c6 hT h t Qg eS r _ fD _ (rf hr TG o hle) he
      refine ⟨Vw,?_,g2⟩
      simp only [Bw]
      rw [tt _ us f (a.eval x) _ o ρ.size vs (eS f o u ρ ho hρ) hv hl (by omega)]
      exact g1
     ·cases he
    ·cases he
   ·cases he
  ·cases he
theorem er (hT:Du P T) {st:St} {a:Act} (h:Bb X π st a w) (t:TypeId) (parts:Array (Nat×Operand)) (av:AV) (he:Wk T st t parts=some av):
  ∃v',(Instr.build t (parts.map λ(i,x)=>(i,a.eval x))).run P w= .ok v' w/\Bf X w π st.heap av v':=by
 unfold Wk at he
 split at he
 ·cases he
 ·rename_i τ Wr
  split at he
  ·rename_i hs
   cases hb:Mb T st t parts.toList (zeroCells τ) with
   |none=>rw [hb] at he;cases he
   |some fD=>
    rw [hb] at he
    simp only [Ah,Aa] at he;subst he
    obtain ⟨fs,Qg,h1,h2,h3⟩:=hT.fill t τ Wr hs
    obtain ⟨i,hi,Uj,ov,pV⟩:=(hT.ty t τ Wr).info
    obtain ⟨Vw,g1,g2⟩:=c6 hT h t Qg h3 parts.toList (zeroCells τ) fD (Bi τ) (jn τ) hb
    refine ⟨.agg Vw.toArray,?_,Vw,rfl,g2⟩
    have hz:(zeroValue t).run P w= .ok (Bs τ (Bi τ)) w:=by simp [zeroValue,typeInfo,hi,pV]
    have PA:(Bs τ (Bi τ)).cells=(Bi τ).toArray:=by simp [Bs,hs,Value.cells]
    have WK:=h2 w
    unfold placesOf at WK
    have e1:(parts.map λ(i,x)=>(i,a.eval x)).toList=parts.toList.map λp=>(p.1,a.eval p.2):=by simp
    simp only [Instr.build,Sem.run_bind,hz,Result.andThen_ok,run_underlying h1,WK,PA,e1,g1,Sem.run_pure]
  ·cases he
theorem qQ {st:St} {v:AV} (h:v.settled=true):settle st v=some (v,st):=by
 cases v with
 | «at»a=>cases a<;>simp [AV.settled,AC.settled] at h<;>simp [settle,AC.settled]
 |agg cs=>
  have hs:cs.all (·.settled)=true:=h
  have:Gz cs.length st cs=some (cs,st):=by
   cases hn:cs.length with
   |zero=>simp [Gz,hs]
   |succ n=>
    have hf:cs.find? (λc=>!c.settled)=none:=List.find?_eq_none.2 λc hc=>by simpa using Ax.1 hs c hc
    simp [Gz,hf]
  simp [settle,this]
 |aa fr τ x=>rfl
 |Mh l=>simp [AV.settled] at h
theorem lB {e:Ty} {st:St} : ∀(parts:List (Nat×Operand)) (i:Nat) (fr:Bool) (ys:List e.den),dB e i parts st=some (fr,ys)-> ∃tr,Kz e i parts st=some (fr,tr,ys,st)
 | [],i,fr,ys,h=>by
  simp only [dB,Aa,Ad] at h
  obtain ⟨rfl,rfl⟩:=h
  exact ⟨true,rfl⟩
 |(j,x)::r,i,fr,ys,h=>by
  simp only [dB] at h
  split at h
  ·rename_i hc
   split at h
   ·rename_i f1 y f2 zs h1 h2
    simp only [Aa,Ad] at h
    obtain ⟨rfl,rfl⟩:=h
    obtain ⟨tr,h3⟩:=lB r (i+1) f2 zs h2
    refine ⟨Sh st (st.ev x)&&e.tree&&tr,?_⟩
    simp only [Kz]
    rw [Ab hc.1,qQ hc.2]
    simp only [h1,h3]
   ·cases h
  ·cases h
theorem mj (hT:Du P T) {st:St} {a:Act} (h:Bb X π st a w) (t:TypeId) (len:Nat) (parts:Array (Nat×Operand)) (av:AV) (he:an T st t len parts=some av):
  ∃v' w' π',(Instr.buildSlice t len (parts.map λ(i,x)=>(i,a.eval x))).run P w= .ok v' w'/\Bb X π' st a w'/\Bf X w' π' st.heap av v':=by
 unfold an at he
 split at he
 ·cases he
 ·rename_i te iS
  split at he
  ·cases he
  ·rename_i e Wr
   split at he
   ·rename_i Jg
    obtain ⟨eS,hlen⟩:=Jg
    cases hp:dB e 0 parts.toList st with
    |none=>rw [hp] at he;cases he
    |some p=>
     obtain ⟨fr,ys⟩:=p
     rw [hp] at he
     simp only [Ah,Aa] at he
     subst he
     obtain ⟨tr,hb⟩:=lB _ _ _ _ hp
     obtain ⟨i,hi,Uj,ov,pV⟩:=(hT.ty te e Wr).info
     have hu:=hT.elem t te iS
     have IU:parts.toList.length=len:=by simpa using eS
     have hz: ∃z:Array Value,(len*e.size=0/\z= #[])\/(¬len*e.size=0/\(zeroValue te).run P w= .ok (Bs e (Bi e)) w/\z=(Bs e (Bi e)).cells):=by
      by_cases h0:len*e.size=0
      ·exact ⟨#[], .inl ⟨h0,rfl⟩⟩
      ·exact ⟨_, .inr ⟨h0,by simp [zeroValue,typeInfo,hi,pV],rfl⟩⟩
     obtain ⟨z,hz⟩:=hz
     obtain ⟨aV,cl,g1,g2,g3,g4,g5,g6⟩:=Wg e parts.toList 0 st π fr tr ys st ((Array.range (len*e.size)).map (z[· %z.size]!)).toList h hb (by simp [IU])
     have Qp:cl.length=len*e.size:=by rw [g2.1,g3,IU]
     have JA:(Dq ((Array.range (len*e.size)).map (z[· %z.size]!)).toList (0*e.size) cl)=cl:=by
      simp [Dq,Qp]
     rw [JA] at g5
     have Qy:(Instr.buildSlice t len (parts.map λ(i,x)=>(i,a.eval x))).run P w= .ok (.slice (some ⟨w.heap.size,0,none⟩) len len) (w.alloc (.cells cl.toArray te)):=by
      have h24: ¬(len*e.size>2^24):=by
       have:len*e.size<=64*64:=Nat.mul_le_mul hlen.1 hlen.2
       omega
      simp only [Instr.buildSlice,Sem.run_bind,run_underlying hu,Result.andThen_ok,(hT.ty te e Wr).size,Ai h24]
      have e1:(parts.map λ(i,x)=>(i,a.eval x)).toList=parts.toList.map λp=>(p.1,a.eval p.2):=by simp
      simp only [e1]
      have e2:(((Array.range (len*e.size)).map (z[· %z.size]!)).toList.toArray)=(Array.range (len*e.size)).map (z[· %z.size]!):=Array.toArray_toList
      rw [e2] at g5
      rcases hz with ⟨h0,rfl⟩|⟨h0,hz,rfl⟩
      ·rw [Ab h0]
       simp only [Sem.run_bind,Sem.run_pure,Result.andThen_ok,g5,newRow]
       simp
      ·rw [Ai h0]
       simp only [Sem.run_bind,Sem.run_pure,Result.andThen_ok,hz,g5,newRow]
       simp
     have CD:(w.alloc (.cells cl.toArray te)).heap[w.heap.size]?=some (.cells cl.toArray te (0,0)):=heap_alloc_new w _
     have hB:Below w.heap.size w (w.alloc (.cells cl.toArray te)):=(Below.refl _ _).alloc (Ar _) _
     have Jx:=Fm CD
     refine ⟨_,_,aV,Qy,g1.quiet hB,⟨[_],?_,rfl⟩⟩
     refine ⟨some ⟨w.heap.size,0,none⟩,len,len,rfl,by rw [g3,IU],Ar _, .inr ⟨w.heap.size,0,rfl,Jx,λhA=>?_,λk x hx=>?_⟩⟩
     ·rcases hA with hA|hA|⟨_,hA⟩
      ·exact absurd (g1.1.own hA).1 (Nat.lt_irrefl _)
      ·exact absurd (Ec (g1.1.sc _ hA).1 g1.1.below.size) (Nat.lt_irrefl _)
      ·exact absurd (Ec hA g1.1.below.size) (Nat.lt_irrefl _)
     ·obtain ⟨es,k1,k2,k3⟩:=g2.2 k x hx
      refine ⟨es,k1,λj u hu=>?_,Cells.Fw hB.size (λb hb _=>hB.block b hb) (λ_ _ h=>h) e es x k3⟩
      rw [cellOf CD,Db]
      simpa using k2 j u hu
   ·cases he
theorem yj {Γ:Env} (hT:Du P T) (Of:Ju P Γ) {st:St} {a:Act} (h:Bb X π st a w) (o:Oper) (av:AV) (he:Vz T Γ st o=some av):
  fe P X st a w av ((execOp a.eval o).run P w):=by
 obtain ⟨dst,op,ty,pos,af,gd⟩:=o
 have val: ∀(s:Sem Value) (v:Value) (w':World) (π':Pi),s.run P w= .ok v w'->Bb X π' st a w'->Bf X w' π' st.heap av v->(execOp a.eval ⟨dst,op,ty,pos,af,gd⟩=do pure (.value (<-s)))->
   fe P X st a w av ((execOp a.eval ⟨dst,op,ty,pos,af,gd⟩).run P w):=by
  intro s v w' π' h1 h2 h3 h4
  rw [h4,Sem.run_bind,h1]
  exact ⟨π',h2,h3⟩
 have quiet:Ep T Γ st ⟨dst,op,ty,pos,af,gd⟩=some av->fe P X st a w av ((execOp a.eval ⟨dst,op,ty,pos,af,gd⟩).run P w):=by
  intro hq
  have:=fI hT Of h _ av hq
  generalize (execOp a.eval ⟨dst,op,ty,pos,af,gd⟩).run P w=r at*
  cases r with
  |halt x w'=>exact this
  |ok n w'=>
   cases n<;>simp only [FU] at this<;>simp only [fe]
   ·obtain ⟨rfl,hr⟩:=this
    exact ⟨π,h,hr⟩
   ·obtain ⟨rfl,hc⟩:=this
    exact ⟨rfl,hc.mono λe o9 ⟨v,hv,hb,hr⟩=>⟨v,hv,π,h.quiet hb,hr⟩⟩
 unfold Vz at he
 split at he
 ·rename_i t len parts oV
  dsimp only at oV;subst oV
  obtain ⟨v,w',π',h1,h2,h3⟩:=mj hT h t len parts av he
  exact val _ v w' π' h1 h2 h3 rfl
 ·rename_i t parts oV
  dsimp only at oV;subst oV
  obtain ⟨v',h1,h2⟩:=er hT h t parts av he
  exact val _ v' w π h1 h h2 rfl
 ·exact quiet he
theorem bS {a:Act} : ∀(l:List Operand) {π:Pi} {st st1:St},Bb X π st a w->Mu l st=some st1-> ∃π',Bb X π' st1 a w
 | [],π,st,st1,h,he=>by
  simp only [Mu,Aa] at he
  subst he
  exact ⟨π,h⟩
 |x::r,π,st,st1,h,he=>by
  simp only [Mu] at he
  cases hs:settle st (st.ev x) with
  |none=>rw [hs] at he;cases he
  |some p=>
   rw [hs] at he
   obtain ⟨aV,h1,_⟩:=aO h (Dn h.2 x) hs
   exact bS r h1 he
theorem zP {a:Act} {st:St} (h:Bb X π st a w) (p x:Operand): ∃π',Bb X π' (Ny T st p x) a w:=by
 unfold Ny
 split
 ·split
  ·split
   ·rename_i hs;exact bS _ h hs
   ·exact ⟨π,h⟩
  ·exact ⟨π,h⟩
 ·exact ⟨π,h⟩
theorem vr {Γ:Env} (hT:Du P T) (Of:Ju P Γ) {st:St} {a:Act} (h:Bb X π st a w) (o:Oper) (av:AV) (st':St) (he:evalOp T Γ st o=some (av,st')):
  fe P X st' a w av ((execOp a.eval o).run P w):=by
 have quiet: ∀ {π:Pi} {st:St},Bb X π st a w->(Ep T Γ st o).map (λv=>(v,st))=some (av,st')->fe P X st' a w av ((execOp a.eval o).run P w):=by
  intro π st h he
  cases hq:Ep T Γ st o with
  |none=>rw [hq] at he;cases he
  |some v=>
   rw [hq] at he
   simp only [Ah,Aa,Ad] at he
   obtain ⟨rfl,rfl⟩:=he
   have:=fI hT Of h o v hq
   generalize (execOp a.eval o).run P w=r at*
   cases r with
   |halt x w'=>exact this
   |ok n w'=>
    cases n<;>simp only [FU] at this<;>simp only [fe]
    ·obtain ⟨rfl,hr⟩:=this
     exact ⟨π,h,hr⟩
    ·obtain ⟨rfl,hc⟩:=this
     exact ⟨rfl,hc.mono λe o9 ⟨v,hv,hb,hr⟩=>⟨v,hv,π,h.quiet hb,hr⟩⟩
 obtain ⟨dst,op,ty,pos,af,gd⟩:=o
 have val: ∀(s:Sem Value) (v:Value) (w':World) (π':Pi),s.run P w= .ok v w'->Bb X π' st' a w'->Bf X w' π' st'.heap av v->(execOp a.eval ⟨dst,op,ty,pos,af,gd⟩=do pure (.value (<-s)))->
   fe P X st' a w av ((execOp a.eval ⟨dst,op,ty,pos,af,gd⟩).run P w):=by
  intro s v w' π' h1 h2 h3 h4
  rw [h4,Sem.run_bind,h1]
  exact ⟨π',h2,h3⟩
 unfold evalOp at he
 split at he
 all_goals (rename_i oV;dsimp only at oV;try subst oV)
 ·
  rename_i x
  split at he
  ·rename_i d te e hx hd ht
   split at he
   ·rename_i CF
    simp only [Aa,Ad] at he
    obtain ⟨rfl,rfl⟩:=he
    obtain ⟨k1,k2,_⟩:=qs h d CF (T.rU||e.flat) T.AA te e
    have TH:=Dn h.2 x
    rw [hx] at TH
    have hxv:a.eval x= .slice none 0 0:=TH
    show fe P X _ a w _ (.ok (.value (a.eval x)) w)
    rw [hxv]
    exact ⟨_,k1,k2⟩
   ·cases he
  ·simp only [Aa,Ad] at he
   obtain ⟨rfl,rfl⟩:=he
   exact ⟨π,h,Dn h.2 x⟩
 ·
  rename_i t
  split at he
  ·rename_i d τ hd ht
   obtain ⟨i,hi,Uj,ov,pV⟩:=(hT.ty t τ ht).info
   have hk: ∃π',Bb X π' st' a (w.alloc (.cells (Bi τ).toArray t))/\Bf X (w.alloc (.cells (Bi τ).toArray t)) π' st'.heap av (.pointer (some ⟨w.heap.size,0,none⟩)):=by
    split at he
    ·exact w8 h d t (Pl τ) (Bi τ) (rF τ) av st' he
    ·exact nO h d t τ (zeroCells τ) (Bi τ) (jn τ) av st' he
   obtain ⟨π',k1,k2⟩:=hk
   have PA:(Bs τ (Bi τ)).cells=(Bi τ).toArray:=by
    cases τ<;>simp [Bs,Ty.Ap,Value.cells,Bi]
   refine val (Instr.alloc t true (.tuple #[])) _ _ π' ?_ k1 k2 rfl
   simp [Instr.alloc,zeroValue,typeInfo,hi,pV,newVar,newRow,PA]
  ·cases he
 ·
  rename_i t x
  split at he
  ·rename_i d τ hd ht
   split at he
   ·rename_i cs hc
    obtain ⟨us,hv,hl,hr⟩:=fu (Dn h.2 x) hc
    have hk: ∃π',Bb X π' st' a (w.alloc (.cells us.toArray t))/\Bf X (w.alloc (.cells us.toArray t)) π' st'.heap av (.pointer (some ⟨w.heap.size,0,none⟩)):=by
     split at he
     ·split at he
      ·rename_i Up
       cases hvc:Eo st τ cs with
       |none=>rw [hvc] at he;cases he
       |some p=>
        obtain ⟨fr,y⟩:=p
        rw [hvc] at he
        simp only [Ah,Aa,Ad] at he
        obtain ⟨rfl,rfl⟩:=he
        have Qp:=Vs τ cs us fr y Up hr hvc
        have hB:Below w.heap.size w (w.alloc (.cells us.toArray t)):=(Below.refl _ _).alloc (Ar _) _
        have CD:(w.alloc (.cells us.toArray t)).heap[w.heap.size]?=some (.cells us.toArray t (0,0)):=heap_alloc_new w _
        refine ⟨π,h.quiet hB,[_], .inr ⟨y,w.heap.size,0,rfl,rfl,Fm CD,λhA=>?_,us,hl,λj u hu=>?_,Cells.Fw hB.size (λb hb _=>hB.block b hb) (λb _ hA=>?_) τ us y Qp⟩,by simp [Bs,Ty.Ap]⟩
        ·rcases hA with hA|hA|⟨hf,_⟩
         ·exact absurd (h.1.own hA).1 (Nat.lt_irrefl _)
         ·exact absurd (Ec (h.1.sc _ hA).1 h.1.below.size) (Nat.lt_irrefl _)
         ·cases hf
        ·rw [cellOf CD,Db];simpa using hu
        ·exact hA.imp id (Or.imp id λ⟨h1,_⟩=>by cases h1)
      ·cases he
     ·exact nO h d t τ cs us hr av st' he
    obtain ⟨π',k1,k2⟩:=hk
    refine val (Instr.box t (a.eval x)) _ _ π' ?_ k1 k2 rfl
    simp [Instr.box,newVar,newRow,hv]
   ·cases he
  ·cases he
 ·
  rename_i t p x
  obtain ⟨π0,h⟩:=zP (T:=T) h p x
  cases hs:Pb T (Ny T st p x) t ((Ny T st p x).ev p) ((Ny T st p x).ev x) with
  |none=>rw [hs] at he;cases he
  |some s=>
   rw [hs] at he
   simp only [Ah,Aa,Ad] at he
   obtain ⟨rfl,rfl⟩:=he
   obtain ⟨w',π',h1,h2⟩:=mr hT h t _ _ _ _ (Dn h.2 p) (Dn h.2 x) s hs
   have:(execOp a.eval ⟨dst, .store t p x,ty,pos,af,gd⟩).run P w= .ok .skip w':=by
    show (do Instr.storeAt t (a.eval p) (a.eval x);pure Next.skip:Sem Next).run P w=_
    rw [Sem.run_bind,h1];rfl
   rw [this]
   exact ⟨π',h2,trivial⟩
 ·
  rename_i t l c
  split at he
  ·rename_i d hd
   obtain ⟨v,w',π',h1,h2,h3⟩:=oo hT h d t _ _ _ _ (Dn h.2 l) (Dn h.2 c) av st' he
   exact val _ v w' π' h1 h2 h3 rfl
  ·cases he
 ·
  rename_i t
  split at he
  ·rename_i d hd
   obtain ⟨v,w',π',h1,h2,h3⟩:=kO hT h d t av st' he
   exact val _ v w' π' h1 h2 h3 rfl
  ·cases he
 ·
  rename_i t m k x
  cases hs:Ik T st t (st.ev m) (st.ev k) (st.ev x) with
  |none=>rw [hs] at he;cases he
  |some s=>
   rw [hs] at he
   simp only [Ah,Aa,Ad] at he
   obtain ⟨rfl,rfl⟩:=he
   obtain ⟨w',h1,h2⟩:=cf hT h t _ _ _ _ _ _ (Dn h.2 m) (Dn h.2 k) (Dn h.2 x) s hs
   have:(execOp a.eval ⟨dst, .mapUpdate t m k x,ty,pos,af,gd⟩).run P w= .ok .skip w':=by
    show (do Instr.mapUpdate t (a.eval m) (a.eval k) (a.eval x);pure Next.skip:Sem Next).run P w=_
    rw [Sem.run_bind,h1];rfl
   rw [this]
   exact ⟨π,h2,trivial⟩
 ·
  rename_i t m k x
  cases hs:Ik T st t (st.ev m) (st.ev k) (st.ev x) with
  |none=>rw [hs] at he;cases he
  |some s=>
   rw [hs] at he
   simp only [Ah,Aa,Ad] at he
   obtain ⟨rfl,rfl⟩:=he
   obtain ⟨w',h1,h2⟩:=cf hT h t _ _ _ _ _ _ (Dn h.2 m) (Dn h.2 k) (Dn h.2 x) s hs
   have:(execOp a.eval ⟨dst, .insert t m k x,ty,pos,af,gd⟩).run P w= .ok .skip w':=by
    show (do Instr.mapUpdate t (a.eval m) (a.eval k) (a.eval x);pure Next.skip:Sem Next).run P w=_
    rw [Sem.run_bind,h1];rfl
   rw [this]
   exact ⟨π,h2,trivial⟩
 ·
  rename_i t len parts
  split at he
  ·rename_i d hd
   obtain ⟨v,w',π',h1,h2,h3⟩:=eP hT h d t len parts av st' he
   exact val _ v w' π' h1 h2 h3 rfl
  ·cases he
 ·
  rename_i t parts
  cases hb:Wk T st t parts with
  |none=>rw [hb] at he;cases he
  |some v=>
   rw [hb] at he
   simp only [Ah,Aa,Ad] at he
   obtain ⟨rfl,rfl⟩:=he
   obtain ⟨v',h1,h2⟩:=er hT h t parts v hb
   exact val _ v' w π h1 h h2 rfl
 ·
  rename_i args ts
  split at he
  ·rename_i d x y t t' hd Qk s5
   split at he
   ·rename_i Uq;subst Uq
    have e1:args= #[x,y]:=by apply Oo;simpa using Qk
    have e2:ts= #[t,t]:=by apply Oo;simpa using s5
    subst e1;subst e2
    obtain ⟨v,w',π',h1,h2,h3⟩:=kL hT h d t ty x y av st' he
    refine val (Builtin.append_ #[t,t] ty #[a.eval x,a.eval y]) v w' π' h1 h2 h3 ?_
    simp [execOp,resolve,invoke,builtin]
   ·cases he
  ·cases he
 ·
  rename_i args ts
  split at he
  ·rename_i x y t t' Qk s5
   have e1:args= #[x,y]:=by apply Oo;simpa using Qk
   have e2:ts= #[t,t']:=by apply Oo;simpa using s5
   subst e1;subst e2
   obtain ⟨v,w',h1,h2,h3⟩:=pG hT h t t' ty _ _ _ _ (Dn h.2 x) (Dn h.2 y) av st' he
   refine val (Builtin.copy_ #[t,t'] ty #[a.eval x,a.eval y]) v w' π h1 h2 h3 ?_
   simp [execOp,resolve,invoke,builtin]
  ·cases he
 ·
  rename_i args ts
  split at he
  ·rename_i x t Qk s5
   have e1:args= #[x]:=by apply Oo;simpa using Qk
   have e2:ts= #[t]:=by apply Oo;simpa using s5
   subst e1;subst e2
   cases hs:evalClear T st t (st.ev x) with
   |none=>rw [hs] at he;cases he
   |some s=>
    rw [hs] at he
    simp only [Ah,Aa,Ad] at he
    obtain ⟨rfl,rfl⟩:=he
    obtain ⟨v,w',h1,h2⟩:=om hT h t ty _ _ (Dn h.2 x) s hs
    refine val (Builtin.clear_ #[t] ty #[a.eval x]) v w' π h1 h2 trivial ?_
    simp [execOp,resolve,invoke,builtin]
  ·cases he
 ·
  rename_i f args ts
  split at he
  ·rename_i s Aea
   have hs:Dx P f s:=Of f _ Aea
   have:=oh h hs dst (args.toList.map st.ev) (args.toList.map a.eval) (by simp) (λi c v=>gx h args.toList i c v) av st' he
   rw [gA a.eval f args ts dst ty pos af gd rfl hs.enter]
   refine ⟨rfl,?_⟩
   rwa [show (args.toList.map a.eval).toArray=args.map a.eval from by apply Oo;simp] at this
  ·rename_i s Aea
   split at he
   ·cases hs:Mu args.toList st with
    |none=>rw [hs] at he;cases he
    |some st1=>
     rw [hs] at he
     obtain ⟨aV,h1⟩:=bS args.toList h hs
     exact quiet h1 he
   ·exact quiet h he
  ·exact quiet h he
 ·exact quiet h he
end
end Go.Proofs.Ytkkdpknjohcekaa
