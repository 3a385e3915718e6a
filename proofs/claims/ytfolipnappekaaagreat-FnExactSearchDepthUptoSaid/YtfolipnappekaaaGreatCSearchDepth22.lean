/-
  Part 23 of the proof that the statement FnExactSearchDepth holds.
-/
import Derived.Test.YtfolipnappekaaaGreatCSearchDepth21
namespace Go.Proofs.YtfolipnappekaaaGreat
open Go.RowKit
section
variable {P:Program} {T:Tab} {X:Ctx} {w w':World} {π:Pi} {H:List (Nat×OB)}
theorem zn {π':Pi} {st':St} {a:Act} (h:Bl X π' st' a w) (k:Kn π π' H st'.heap) {fr:Bool} (τ:Ty) (cs:List Value) (x:τ.den) (hc:Cells w (Da X.w0.heap.size X.Sc π fr) τ cs x):
  Cells w (Da X.w0.heap.size X.Sc π' fr) τ cs x:=
 Cells.Ez (Ao _) (λ_ _ _=>rfl) (λb _ hA=>by
  rcases hA with ⟨l,r,hl,hg⟩|h2
  ·have hh:=h.1.heap l
   cases hb:Au st'.heap l with
   |none=>have:=hh.emp hb;rw [this] at hl;cases hl
   |some b'=>have:=(k l b' hb).1;rw [this] at hl;exact .inl ⟨l,r,hl,hg⟩
  ·exact .inr h2) τ cs x hc
theorem gV.drop {F:List Nat} {l:Nat} (h:gV X w π F):gV X w (Wy π l none) F:=
 ⟨h.1,λb hb=>⟨(h.2 b hb).1,(h.2 b hb).2.1,λm r hm=>by
  by_cases e:m=l
  ·subst e;rw [Gq] at hm;cases hm
  ·rw [Gf π none e] at hm;exact (h.2 b hb).2.2 m r hm⟩⟩
theorem uo {st:St} {a:Act} (h:Bl X π st a w) (l:Nat) (hl:l<Bn) (f0 t0:Bool) (te:TypeId) (e:Ty):
  Bl X (Wy π l none) (st.new l (.arr f0 t0 e te [])) a w/\Bu X w (Wy π l none) (st.new l (.arr f0 t0 e te [])).heap (.at (.own l 0 0)) (.slice none 0 0)/\
   ∀fr τ cs x,Cells w (Da X.w0.heap.size X.Sc π fr) τ cs x->Cells w (Da X.w0.heap.size X.Sc (Wy π l none) fr) τ cs x:=
 ⟨h.replace l hl none _ (Pv w _) (λr hr=>by cases hr) (λ_=>rfl),
  GW (St.Hg st l _) (Ao _) (by rw [Gq];exact ⟨rfl,rfl,rfl⟩),
  fun fr τ cs x hc=>Cells.Ez (Ao _) (λ_ _ _=>rfl) (λb _ hA=>by
  rcases hA with ⟨m,r,hm,hg⟩|h2
  ·by_cases e:m=l
   ·subst e;rw [Gq] at hm;cases hm
   ·rw [Gf π none e] at hm;exact .inl ⟨m,r,hm,hg⟩
  ·exact .inr h2) τ cs x hc⟩
theorem Xr (hT:Dz P T) {st:St} {a:Act} (h:Bl X π st a w) (dst:Nat) (t ty:TypeId) (x y:Operand) (av:AV) (st':St) (he:Nv T st dst t x y=some (av,st')):
  ∃v' w' π',(Builtin.append_ #[t,t] ty #[a.eval x,a.eval y]).run P w= .ok v' w'/\Bl X π' st' a w'/\Bu X w' π' st'.heap av v':=by
 unfold Nv at he
 split at he
 ·cases he
 ·rename_i te lb
  split at he
  ·rename_i e y' st1 Ya hs
   obtain ⟨cj,h1,h2,h3,h4,h5⟩:=c8 h (Du h.2 y) hs
   split at he
   ·cases he
   ·rename_i sw ys hv
    dsimp only at he
    have RV: ∀tr2,tr2=(e.flat||(Tl st (st.ev y)&&e.tree))->tr2=true->e.flat=true\/ ∃F,Cg w F (.slice e) [a.eval y] ys/\gV X w cj F:=by
     intro tr2 e2 nC
     subst e2
     cases hef:e.flat with
     |true=>exact .inl rfl
     |false=>
     right
     simp only [hef,Se,Af] at nC
     obtain ⟨F,us,f1,f2,f3,_⟩:=h5 nC.1 (.slice e) sw ys nC.2 hv
     have ZW:us= [a.eval y]:=by
      simp only [Cg] at f1
      obtain ⟨a0,len,cap,rfl,_⟩:=f1
      rw [f2];simp [Ci,Ty.Aq]
     rw [ZW] at f1
     exact ⟨F,f1,f3⟩
    have hyc:Cells w (Da X.w0.heap.size X.Sc cj sw) (.slice e) [a.eval y] ys:=Cs.Ru rfl (Pa _ y' _ sw ys h3 h2 hv)
    have ZZ:=Du h1.2 x
    split at he
    ·rename_i hx
     rw [hx] at ZZ
     have hxv:a.eval x= .slice none 0 0:=ZZ
     split at he
     ·rename_i pk
      simp only [Aa,Ad] at he
      obtain ⟨rfl,rfl⟩:=he
      obtain ⟨k1,k2,k3⟩:=uo h1 dst pk.2 (T.tH||e.flat) T.CO te e
      have:=mP (ty:=ty) hT k1 lb Ya pk.2 (fr3:=sw||e.flat) (tr2:=e.flat||(Tl st (st.ev y)&&e.tree)) rfl (St.Hg st1 dst _) k2 (k3 _ _ _ _ hyc) (by rw [Bv];exact pk.1) (λht=>by
       rcases RV _ rfl ht with h0|⟨F,f1,f2⟩
       ·exact .inl h0
       ·exact .inr ⟨F,f1,f2.drop⟩)
      rw [<-hxv] at this
      exact this
     ·cases he
    ·rename_i l off len hx
     rw [hx] at ZZ
     split at he
     ·rename_i fr tr e' tid xs hl
      split at he
      ·rename_i Jn
       obtain ⟨rfl,rfl⟩:=Jn
       split at he
       ·rename_i pk
        simp only [Aa,Ad] at he
        obtain ⟨rfl,rfl⟩:=he
        exact mP (ty:=ty) hT h1 lb Ya pk.2 (fr3:=sw||e'.flat) (tr2:=e'.flat||(Tl st (st.ev y)&&e'.tree)) rfl hl ZZ hyc pk.1 (RV _ rfl)
       ·cases he
      ·cases he
     ·cases he
    ·cases he
  ·cases he
theorem nc (hT:Dz P T) {st:St} {a:Act} (h:Bl X π st a w) (dst:Nat) (t ty:TypeId) (x y:Operand) (av:AV) (st':St) (he:Rg T st dst t x y=some (av,st')):
  ∃v' w' π',(Builtin.append_ #[t,t] ty #[a.eval x,a.eval y]).run P w= .ok v' w'/\Bl X π' st' a w'/\Bu X w' π' st'.heap av v':=by
 unfold Rg at he
 split at he
 ·rename_i tx
  split at he
  ·rename_i l i c hg
   split at he
   ·rename_i e te rows kp tid hl _
    split at he
    ·rename_i hc
     simp only [Af,Nd,Ef] at hc
     have kF:dst≠l:= λe=>by rw [e,Nat.beq_refl] at hc;cases hc.2.2
     unfold St.at at hl
     have hv:Hp X w π st.heap (.sub l i c) (a.tmps.getD tx undef):=by
      have:=h.2.tmps tx
      rw [hg] at this
      exact this
     obtain ⟨cj,h1,h2⟩:=LR (tid:=tid) h hl kF hc.2.1 hc.1 hv
     have h3:=h1.put (some tx) (c:= .at (.own dst 0 (rows.getD i []).length)) h2
     have Anq:a.put (some tx) (a.tmps.getD tx undef)=a:=by
      have:a.tmps.setIfInBounds tx (a.tmps.getD tx undef)=a.tmps:=by
       apply Array.ext_getElem?
       intro k
       rw [Array.getElem?_setIfInBounds]
       split
       ·rename_i e
        subst e
        split
        ·rename_i It
         rw [Array.getElem?_eq_getElem It];simp
        ·rename_i It
         rw [Array.getElem?_eq_none (by omega)]
       ·rfl
      simp only [Act.put,this]
     rw [Anq] at h3
     exact Xr hT h3 dst t ty (.tmp tx) y av st' he
    ·cases he
   ·cases he
  ·exact Xr hT h dst t ty _ y av st' he
 ·exact Xr hT h dst t ty x y av st' he
theorem QM {S:Nat->Prop} {e:Ty} (h:mG e=true): ∃z,Cd e= [z]/\e.Aq=false/\e.size=1/\Cells w S e [z] e.zero/\z.oneCell'=true:=by
 cases e<;>simp [mG] at h
 ·exact ⟨_,rfl,rfl,rfl,rfl,rfl⟩
 ·exact ⟨_,rfl,rfl,rfl,rfl,rfl⟩
 ·exact ⟨_,rfl,rfl,rfl,rfl,rfl⟩
 ·exact ⟨_,rfl,rfl,rfl,⟨none,0,0,rfl,rfl,Ao _, .inl rfl⟩,rfl⟩
 ·exact ⟨_,rfl,rfl,rfl, .inl ⟨rfl,0,rfl⟩,rfl⟩
theorem KI {e:Ty} {z:Value} (ht:e.tree=true) (h:mG e=true) (hz:Cd e= [z]):Cg w [] e [z] e.zero:=by
 cases e<;>simp [mG] at h<;>simp only [Cd,Gb,Oi] at hz<;>subst hz<;>try (simp [Ty.tree] at ht;done)
 ·exact ⟨rfl,rfl⟩
 ·exact ⟨rfl,rfl⟩
 ·exact ⟨rfl,rfl⟩
 ·exact ⟨none,0,0,rfl,rfl,Ao _, .inl ⟨rfl,rfl,rfl,rfl⟩⟩
theorem Acu {S:Nat->Prop} : ∀(e:Ty),fS e=true->(Cd e).length=e.size/\Cells w S e (Cd e) e.zero/\(e.tree=true->Cg w [] e (Cd e) e.zero):=by
 intro e
 induction e with
 |unit=>intro _;exact ⟨rfl,rfl,λ_=>⟨rfl,rfl⟩⟩
 |pair a r mI jX=>
  intro h
  simp only [fS,Af] at h
  obtain ⟨a1,a2,a3⟩:=mI h.1
  obtain ⟨r1,r2,r3⟩:=jX h.2
  exact ⟨by simp [Cd,Ty.size,a1,r1],⟨_,_,rfl,a2,r2⟩,λht=>by simp only [Ty.tree,Af] at ht;exact ⟨_,_,[],[],rfl,rfl,a3 ht.1,r3 ht.2⟩⟩
 |_=>
  intro h
  simp only [fS] at h
  obtain ⟨z,z1,z2,z3,z4,_⟩:=QM (w:=w) (S:=S) h
  exact ⟨by rw [z1,z3];rfl,by rw [z1];exact z4,λht=>by rw [z1];exact KI ht h z1⟩
theorem SE {z:Array Value} {s m j q:Nat} (hz:z.size=s) (hj:j<m) (hq:q<s):(madeCells z (m*s))[j*s+q]?=z[q]?:=by
 have h1:j*s+q<m*s:=by
  have:=Em s (show j+1<=m by omega)
  rw [Nat.succ_mul] at this
  omega
 have h2:(j*s+q)%z.size=q:=by rw [hz,Nat.mul_comm,Nat.mul_add_mod,Nat.mod_eq_of_lt hq]
 have h3:q<z.size:=by omega
 unfold madeCells
 simp [h1,h2,h3]
theorem tA (hT:Dz P T) {st:St} {a:Act} (h:Bl X π st a w) (dst:Nat) (t:TypeId) (l c:AV) (vl vc:Value) (hl:Bu X w π st.heap l vl) (hc:Bu X w π st.heap c vc) (av:AV) (st':St)
  (he:bJ T st dst t l c=some (av,st')): ∃v' w' π',(Instr.makeSlice t vl vc).run P w= .ok v' w'/\Bl X π' st' a w'/\Bu X w' π' st'.heap av v':=by
 unfold bJ at he
 split at he
 ·rename_i te fr1 k1 n sw k2 m lb
  have:=Qb hl;subst this
  have:=Qb hc;subst this
  split at he
  ·rename_i e Ya
   split at he
   ·rename_i Jn
    obtain ⟨h0,hnm,hz,hdp⟩:=Jn
    obtain ⟨h1,h2⟩:=Uf.1 h0
    subst hnm
    simp only [Aa,Ad] at he
    obtain ⟨rfl,rfl⟩:=he
    obtain ⟨i,hi,Vq,rK,tU⟩:=(hT.ty te e Ya).info
    obtain ⟨z1,z4,z5⟩:=Acu (w:=w) (S:=Da X.w0.heap.size X.Sc π (T.tH||e.flat)) e hz
    have hzc:(Ci e (Cd e)).cells=(Cd e).toArray:=Ks e _ _ z4
    have hu:=hT.elem t te lb
    have hn:n.toNat<=4294967296:=by unfold Cr at h2;omega
    have hr:=run_make (P:=P) (w:=w) t te i _ hu hi tU k1 k2 n n h1 (Nt _) (by
     have:(i.bytes:Int)*n<=256*4294967296:=by
      obtain ⟨nn,rfl⟩:=Qr h1
      have h7:i.bytes*nn<=256*4294967296:=dB rK (by simpa using hn)
      have h8:((i.bytes*nn:Nat):Int)<=256*4294967296:=by omega
      rwa [Int.natCast_mul] at h8
     omega) (by unfold Cr at h2;omega)
    rw [hzc,Vq] at hr
    have aG:((Cd e).toArray).size=e.size:=by simpa using z1
    have cell: ∀j,j<n.toNat-> ∀q u,(Cd e)[q]?=some u->(madeCells (Cd e).toArray (n.toNat*e.size)).toList[j*e.size+q]?=some u:=by
     intro j hj q u hu
     have hq:q<e.size:=by rw [<-z1];exact (An.1 hu).1
     have:=SE aG hj hq
     rw [Array.getElem?_toList,this]
     simpa using hu
    have:=fi (w1:=w.alloc (.cells (madeCells (Cd e).toArray (n.toNat*e.size)) te)) h dst hdp (T.tH||e.flat) (T.CO&&e.tree) e te (List.replicate n.toNat e.zero) (madeCells (Cd e).toArray (n.toNat*e.size)).toList (madeCells (Cd e).toArray (n.toNat*e.size)) n.toNat []
     (.inr rfl) (by rw [size_madeCells]) (by unfold maxLen;omega) (by simp)
     (λk u hu=>by
      rw [Array.getElem?_toList] at hu;exact hu) ⟨by simp [size_madeCells],λj x hx=>by
       have hj:=(An.1 hx).1
       simp only [Fy] at hj
       refine ⟨Cd e,z1,λq u hu=>cell j hj q u hu,?_⟩
       rw [Fk (Bq hx)];exact z4⟩ (by simp) (λnC=>⟨Nc,List.replicate n.toNat [],by simp,by simp,λj x F hx hF=>by
      have hj:=(An.1 hx).1
      simp only [Fy] at hj
      refine ⟨Cd e,z1,λq u hu=>cell j hj q u hu,?_⟩
      have e1:=Fk (Bq hx)
      have e2:=Fk (Bq hF)
      rw [e1,e2]
      exact z5 (by simp only [Af] at nC;exact nC.2)⟩)
    exact ⟨_,_,_,hr,this.1,this.2 _ (by simp)⟩
   ·cases he
  ·cases he
 ·cases he
theorem iC (off:Nat): ∀(us:List Value) (k:Nat) (cells:List Value),off+k+us.length<=cells.length->
  (us.zipIdx k).foldl (λcs p=>cs.setIfInBounds (off+p.2) p.1) cells.toArray=(Dv cells (off+k) us).toArray
 | [],k,cells,h=>by simp [Dv]
 |u::us,k,cells,h=>by
  simp only [List.zipIdx_cons,Ih]
  rw [show cells.toArray.setIfInBounds (off+k) u=(cells.set (off+k) u).toArray by simp]
  rw [iC off us (k+1) (cells.set (off+k) u) (by simp at h⊢;omega)]
  congr 1
  apply List.ext_getElem?
  intro j
  have hl:off+k+(u::us).length<=cells.length:=h
  have w7:off+(k+1)+us.length<=(cells.set (off+k) u).length:=by simp at h⊢;omega
  rw [Ic _ _ _ _ hl,Ic _ _ _ _ w7]
  simp only [Az]
  by_cases h1:j<off+k
  ·rw [Ab (by omega),Ab h1,List.getElem?_set_ne (by omega)]
  ·rw [Ag h1]
   by_cases h2:j=off+k
   ·subst h2
    rw [Ab (by omega),Ab (by omega),List.getElem?_set_self (by simp at h;omega)]
    simp
   ·rw [Ag (by omega)]
    by_cases h3:j<off+k+(us.length+1)
    ·rw [Ab (by omega),Ab h3]
     rw [show j-(off+k)=(j-(off+(k+1)))+1 by omega,Mb]
    ·rw [Ag (by omega),Ag h3,List.getElem?_set_ne (by omega)]
theorem xQ (place:Nat->Option (Nat×Nat)) (cells:List Value) (i:Nat) (v:Value) (rest:List (Nat×Value)) (off size:Nat) (us:List Value) (hp:place i=some (off,size)) (hv:v.cells=us.toArray)
  (hl:us.length=size) (hle:off+size<=cells.length):Instr.fill place cells.toArray ((i,v)::rest)=Instr.fill place (Dv cells off us).toArray rest:=by
 simp only [Instr.fill,hp,hv,Gr,hl]
 rw [Ag (by simp;omega)]
 congr 1
 have:=iC off us 0 cells (by omega)
 simp only [Ex] at this
 rw [<-this]
 simp
theorem Xo (e:Ty) {a:Act} : ∀(parts:List (Nat×Operand)) (i:Nat) (st:St) (π:Pi) (fr tr:Bool) (ys:List e.den) (st':St) (cells:List Value),Bl X π st a w->Kz e i parts st=some (fr,tr,ys,st')->
  (i+parts.length)*e.size<=cells.length->
  ∃π' cl,Bl X π' st' a w/\Flat w (Da X.w0.heap.size X.Sc π' fr) e cl ys/\ys.length=parts.length/\Kn π π' st.heap st'.heap/\
   Instr.fill (λi=>some (i*e.size,e.size)) cells.toArray (parts.map λp=>(p.1,a.eval p.2))=some (Dv cells (i*e.size) cl).toArray/\
   (tr=true-> ∃Fs,Sw w e cl ys Fs/\gV X w π' (List.flatten Fs)/\ ∀b∈List.flatten Fs,∃l r,π l=some r/\r.cl b)
 | [],i,st,π,fr,tr,ys,st',cells,h,he,hle=>by
  simp only [Kz,Aa,Ad] at he
  obtain ⟨rfl,rfl,rfl,rfl⟩:=he
  exact ⟨π,[],h,Flat.nil,rfl,Kn.refl _ _,by simp [Instr.fill,Dv],λ_=>⟨[],⟨rfl,λi z F hz=>by simp at hz⟩,⟨Nc,by simp⟩,by simp⟩⟩
 |(j,x)::r,i,st,π,fr,tr,ys,st',cells,h,he,hle=>by
  simp only [Kz] at he
  split at he
  ·rename_i iK;subst iK
   split at he
   ·rename_i v' st1 hs
    obtain ⟨cj,h1,h2,h3,h4,h5⟩:=c8 h (Du h.2 x) hs
    split at he
    ·rename_i fr1 y hv
     split at he
     ·rename_i sw tr2 zs st2 hr
      simp only [Aa,Ad] at he
      obtain ⟨rfl,rfl,rfl,rfl⟩:=he
      obtain ⟨es,gR,MC⟩:=Pa e v' _ fr1 y h3 h2 hv
      have l7:=Cells.len e es y gR
      have Asp:i*e.size+e.size<=cells.length:=by
       have:(i+1)*e.size<=(i+((i,x)::r).length)*e.size:=Em _ (by simp)
       rw [Dc,Sf] at this
       omega
      have RN:i*e.size+es.length<=cells.length:=by omega
      obtain ⟨XJ,cl,g1,g2,g3,g4,g5,g6⟩:=Xo e r (i+1) st1 cj sw tr2 zs st2 (Dv cells (i*e.size) es) h1 hr (by
       rw [Iv _ _ _ RN]
       rw [show i+1+r.length=i+((i,x)::r).length by simp;omega];exact hle)
      have f1:Flat w (Da X.w0.heap.size X.Sc XJ fr1) e es [y]:=⟨by simp [l7],λq z hz=>by
       rcases q with _|q
       ·simp at hz;subst hz
        exact ⟨es,l7,λj u hu=>by simpa using hu,zn g1 g4 e es y gR⟩
       ·simp at hz⟩
      refine ⟨XJ,es++cl,g1,?_,by simp [g3],h4.trans g4,?_,λht=>?_⟩
      ·have:=(f1.cells λes z hc=>hc.and_left (f2:=sw)).append (g2.cells λes z hc=>hc.and_right (f1:=fr1))
       simpa using this
      ·simp only [Ca]
       rw [xQ _ cells i (a.eval x) _ (i*e.size) e.size es rfl (by rw [MC];exact Ks e es y gR) l7 Asp,g5]
       congr 2
       have Pw:cl.length=r.length*e.size:=by rw [g2.1,g3]
       have Xy:(i+1)*e.size+cl.length<=(Dv cells (i*e.size) es).length:=by
        rw [Iv _ _ _ RN,Pw,<-Dc]
        rw [show i+1+r.length=i+((i,x)::r).length by simp;omega];exact hle
       have Amt:i*e.size+(es++cl).length<=cells.length:=by
        rw [Iv _ _ _ RN] at Xy
        rw [Ax,l7]
        rw [Dc,Sf] at Xy
        omega
       have e1:(i+1)*e.size=i*e.size+es.length:=by rw [Dc,Sf,l7]
       apply List.ext_getElem?
       intro k
       rw [Ic _ _ _ _ Xy,Ic _ _ _ _ Amt,Ic _ _ _ _ RN,e1,Ax]
       by_cases k1:k<i*e.size
       ·rw [Ab (by omega),Ab k1,Ab k1]
       ·rw [Ag k1,Ag k1]
        by_cases k2:k<i*e.size+es.length
        ·rw [Ab k2,Ab k2,Ab (by omega),At (by omega)]
        ·rw [Ag k2,Ag k2]
         by_cases k3:k<i*e.size+es.length+cl.length
         ·rw [Ab k3,Ab (by omega),Ar (by omega)]
          congr 1;omega
         ·rw [Ag k3,Ag (by omega)]
      ·simp only [Af] at ht
       obtain ⟨⟨ht1,ht2⟩,ht3⟩:=ht
       obtain ⟨F,us,t1,t2,t3,t7⟩:=h5 ht1 e fr1 y ht2 hv
       obtain ⟨Fs,t4,t5,t6⟩:=g6 ht3
       have ZW:us=es:=by
        have c1:=Cg.cells (S:= λ_=>False) F e us y t1 (λ_ _ h=>h)
        have a1:=Ks e us y c1
        have a2:=Ks e es y gR
        rw [<-t2,MC,a2] at a1
        simpa using a1.symm
       subst ZW
       refine ⟨F::Fs,?_,?_,λb hb=>?_⟩
       ·have k1:Sw w e us [y] [F]:=⟨rfl,λq z G hz hG=>by
         rcases q with _|q
         ·simp at hz hG;subst hz;subst hG
          exact ⟨us,l7,λj u hu=>by simpa using hu,t1⟩
         ·simp at hz⟩
        exact Sw.append (by simp [l7]) k1 t4
       ·rw [Kv]
        refine ⟨Cy.2 ⟨t3.1,t5.1,λb hb b' iJ e=>?_⟩,λb hb=>?_⟩
        ·subst e
         obtain ⟨l,r,q1,q2⟩:=t6 b iJ
         exact (t3.2 b hb).2.2 l r q1 q2
        ·rcases Bb.1 hb with hb|hb
         ·have:=t3.2 b hb
          refine ⟨this.1,this.2.1,λl r q1 q2=>?_⟩
          cases hh:Au st2.heap l with
          |none=>rw [(g1.1.heap l).emp hh] at q1;cases q1
          |some b'=>exact this.2.2 l r ((g4 l b' hh).1▸q1) q2
         ·exact t5.2 b hb
       ·rw [Kv] at hb
        rcases Bb.1 hb with hb|hb
        ·exact t7 b hb
        ·obtain ⟨l,r,q1,q2⟩:=t6 b hb
         cases hh:Au st1.heap l with
         |none=>rw [(h1.1.heap l).emp hh] at q1;cases q1
         |some b'=>exact ⟨l,r,(h4 l b' hh).1▸q1,q2⟩
     ·cases he
    ·cases he
   ·cases he
  ·cases he
theorem iv (hT:Dz P T) {st:St} {a:Act} (h:Bl X π st a w) (dst:Nat) (t:TypeId) (len:Nat) (parts:Array (Nat×Operand)) (av:AV) (st':St)
  (he:Mg T st dst t len parts=some (av,st')):
  ∃v' w' π',(Instr.buildSlice t len (parts.map λ(i,x)=>(i,a.eval x))).run P w= .ok v' w'/\Bl X π' st' a w'/\Bu X w' π' st'.heap av v':=by
 unfold Mg at he
 split at he
 ·cases he
 ·rename_i te lb
  split at he
  ·cases he
  ·rename_i e Ya
   split at he
   ·rename_i Jn
    obtain ⟨jW,hlen⟩:=Jn
    split at he
    ·rename_i fr tr ys st1 hb
     simp only [Aa,Ad] at he
     obtain ⟨rfl,rfl⟩:=he
     obtain ⟨i,hi,Vq,rK,tU⟩:=(hT.ty te e Ya).info
     have hu:=hT.elem t te lb
     have TV:parts.toList.length=len:=by simpa using jW
     have hz: ∃z:Array Value,(len*e.size=0/\z= #[])\/(¬len*e.size=0/\(zeroValue te).run P w= .ok (Ci e (Cd e)) w/\z=(Ci e (Cd e)).cells):=by
      by_cases h0:len*e.size=0
      ·exact ⟨#[], .inl ⟨h0,rfl⟩⟩
      ·exact ⟨_, .inr ⟨h0,by simp [zeroValue,typeInfo,hi,tU],rfl⟩⟩
     obtain ⟨z,hz⟩:=hz
     obtain ⟨cj,cl,g1,g2,g3,g4,g5,g6⟩:=Xo e parts.toList 0 st π fr tr ys st1 ((Array.range (len*e.size)).map (z[· %z.size]!)).toList h hb (by simp [TV])
     have Pw:cl.length=len*e.size:=by rw [g2.1,g3,TV]
     have XR:(Dv ((Array.range (len*e.size)).map (z[· %z.size]!)).toList (0*e.size) cl)=cl:=by
      simp [Dv,Pw]
     rw [XR] at g5
     have Vr:(Instr.buildSlice t len (parts.map λ(i,x)=>(i,a.eval x))).run P w= .ok (.slice (some ⟨w.heap.size,0,none⟩) len len) (w.alloc (.cells cl.toArray te)):=by
      have h24: ¬(len*e.size>2^24):=by
       have:len*e.size<=64*64:=dB hlen.1 hlen.2.1
       omega
      simp only [Instr.buildSlice,Sem.run_bind,run_underlying hu,Result.andThen_ok,(hT.ty te e Ya).size,Ag h24]
      have e1:(parts.map λ(i,x)=>(i,a.eval x)).toList=parts.toList.map λp=>(p.1,a.eval p.2):=by simp
      simp only [e1]
      have e2:(((Array.range (len*e.size)).map (z[· %z.size]!)).toList.toArray)=(Array.range (len*e.size)).map (z[· %z.size]!):=Array.toArray_toList
      rw [e2] at g5
      rcases hz with ⟨h0,rfl⟩|⟨h0,hz,rfl⟩
      ·rw [Ab h0]
       simp only [Sem.run_bind,Sem.run_pure,Result.andThen_ok,g5,newRow]
       simp
      ·rw [Ag h0]
       simp only [Sem.run_bind,Sem.run_pure,Result.andThen_ok,hz,g5,newRow]
       simp
     have hN: ∃N:List Nat,(∀b∈N,(X.w0.heap.size<=b\/X.gv b)/\b<w.heap.size/\ ∀m r0,m≠dst->cj m=some r0-> ¬r0.cl b)/\(tr=true->N.Nodup/\ ∃Fs,List.flatten Fs=N/\Sw w e cl ys Fs):=by
      cases tr with
      |false=>exact ⟨[],by simp,λh=>by cases h⟩
      |true=>
       obtain ⟨Fs,t1,t2,_⟩:=g6 rfl
       exact ⟨_,λb hb=>⟨(t2.2 b hb).1,(t2.2 b hb).2.1,λm r0 _=>(t2.2 b hb).2.2 m r0⟩,λ_=>⟨t2.1,Fs,rfl,t1⟩⟩
     obtain ⟨N,q1,q2⟩:=hN
     have:=fi (w1:=w.alloc (.cells cl.toArray te)) g1 dst hlen.2.2 ((T.tH||e.flat)&&fr) (T.CO&&tr) e te ys cl cl.toArray len N (.inr rfl) (by simpa using Pw) (by simp only [maxLen];omega) (by omega) (λk u hu=>by simpa using hu) (g2.cells λes z hc=>hc.and_right) q1 (λht=>q2 (by simp only [Af] at ht;exact ht.2))
     exact ⟨_,_,_,Vr,this.1,this.2 _ (by omega)⟩
    ·cases he
   ·cases he
theorem lX {t te:TypeId} {e:Ty} (h:dR T t=some (te,e)):T.elem t=some te/\T.ty te=some (.slice e):=by
 unfold dR at h
 cases he:T.elem t with
 |none=>rw [he] at h;cases h
 |some Rb=>
  rw [he] at h
  simp only [Fh] at h
  cases hg:T.RH Rb with
  |none=>rw [hg] at h;cases h
  |some e'=>
   rw [hg] at h
   simp only [Am,Aa,Ad] at h
   obtain ⟨rfl,rfl⟩:=h
   refine ⟨rfl,?_⟩
   unfold Tab.RH at hg
   split at hg
   ·split at hg
    ·rename_i Ya;simp only [Aa] at hg;subst hg;exact Ya
    ·cases hg
   ·cases hg
theorem mR (w:World) (o:Obj):Gw w.heap.size (λ_=>False) w (w.alloc o):=⟨rfl,rfl,rfl,by simp,λk hk _=>Below.heap_alloc w _ k hk⟩
theorem qo (w:World) (o:Obj):Gw w.heap.size (λ_=>False) w (w.drew.alloc o):=⟨rfl,rfl,rfl,by simp,λk hk _=>Below.heap_alloc w.drew _ k hk⟩
theorem rG (hT:Dz P T) {st:St} {a:Act} (h:Bl X π st a w) (dst:Nat) (t:TypeId) (l c:AV) (vl vc:Value) (hl:Bu X w π st.heap l vl) (hc:Bu X w π st.heap c vc) (av:AV) (st':St)
  (he:Xv T st dst t l c=some (av,st')): ∃v' w' π',(Instr.makeSlice t vl vc).run P w= .ok v' w'/\Bl X π' st' a w'/\Bu X w' π' st'.heap av v':=by
 unfold Xv at he
 split at he
 ·exact tA hT h dst t l c vl vc hl hc av st' he
 ·rename_i te e hg
  obtain ⟨lb,Ya⟩:=lX hg
  split at he
  ·rename_i fr1 k1 n sw k2 m
   have:=Qb hl;subst this
   have:=Qb hc;subst this
   split at he
   ·rename_i Jn
    obtain ⟨h0,hnm,hdp⟩:=Jn
    obtain ⟨h1,h2⟩:=Uf.1 h0
    subst hnm
    simp only [Aa,Ad] at he
    obtain ⟨rfl,rfl⟩:=he
    obtain ⟨i,hi,Vq,rK,tU⟩:=(hT.ty te _ Ya).info
    have hu:=hT.elem t te lb
    have hn:n.toNat<=4294967296:=by unfold Cr at h2;omega
    have hr:=run_make (P:=P) (w:=w) t te i _ hu hi tU k1 k2 n n h1 (Nt _) (by
     have:(i.bytes:Int)*n<=256*4294967296:=by
      obtain ⟨nn,rfl⟩:=Qr h1
      have h7:i.bytes*nn<=256*4294967296:=dB rK (by simpa using hn)
      have h8:((i.bytes*nn:Nat):Int)<=256*4294967296:=by omega
      rwa [Int.natCast_mul] at h8
     omega) (by unfold Cr at h2;omega)
    have hzc:(Ci (Ty.slice e) (Cd (Ty.slice e))).cells= #[.slice none 0 0]:=by simp [Ci,Ty.Aq,Cd,Value.cells]
    have eW:(Ty.slice e).size=1:=rfl
    rw [hzc,Vq,eW] at hr
    have cell: ∀j,j<n.toNat->(madeCells #[Value.slice none 0 0] (n.toNat*1))[0+j]?=some (.slice none 0 0):=by
     intro j hj
     have:=SE (z:= #[Value.slice none 0 0]) (s:=1) (m:=n.toNat) (j:=j) (q:=0) rfl hj (by omega)
     simp only [Fq,Ex] at this
     simp only [Fq,Bv]
     rw [this];rfl
    obtain ⟨π',g1,g2⟩:=Zn (w1:=w.alloc (.cells (madeCells #[Value.slice none 0 0] (n.toNat*1)) te)) (gv:= λ_=>False) h hdp hdp te (e:=e) (rows:=List.replicate n.toNat []) (us:=List.replicate n.toNat (.slice none 0 0)) (Rs:=List.replicate n.toNat none) (g:=w.heap.size) (o:=0) (cap:=n.toNat)
     (λ_ hf=>hf.elim) (mR w _) ⟨.inl (Ao _),by simp⟩ (heap_alloc_new w _) (by rw [size_madeCells];omega) (by unfold maxLen;omega) (by simp) (λj u hu=>by
      have hj:=(An.1 hu).1
      simp only [Fy] at hj
      rw [cell j hj,Fk (Bq hu)])
     ⟨by simp,by simp,λi j q q' h1=>(by have:=Fk (Bq h1);cases this),λi x hx=>by
      have hj:=(An.1 hx).1
      simp only [Fy] at hj
      rw [Fk (Bq hx)]
      exact ⟨.slice none 0 0,none,by rw [Yx,Ab hj],by rw [Yx,Ab hj],⟨rfl,rfl,rfl⟩,rfl⟩⟩
     (λi q h1=>by have:=Fk (Bq h1);cases this)
    exact ⟨_,_,π',hr,g1,g2 _ (by simp)⟩
   ·cases he
  ·cases he
theorem gI (hT:Dz P T) {st:St} {a:Act} (h:Bl X π st a w) (dst:Nat) (t:TypeId) (len:Nat) (parts:Array (Nat×Operand)) (av:AV) (st':St)
  (he:Iz T st dst t len parts=some (av,st')):
  ∃v' w' π',(Instr.buildSlice t len (parts.map λ(i,x)=>(i,a.eval x))).run P w= .ok v' w'/\Bl X π' st' a w'/\Bu X w' π' st'.heap av v':=by
 unfold Iz at he
 split at he
 ·exact iv hT h dst t len parts av st' he
 ·rename_i te e hg
  obtain ⟨lb,Ya⟩:=lX hg
  split at he
  rotate_left
  ·cases he
  rename_i x Aj1
  split at he
  rotate_left
  ·cases he
  rename_i m off ln hx
  split at he
  rotate_left
  ·cases he
  rename_i fr tr e' tid xs hm
  split at he
  rotate_left
  ·cases he
  rename_i hc
  obtain ⟨rfl,hc,rfl,rfl⟩:=hc
  simp only [Af,Nd] at hc
  obtain ⟨hlen,hdp,hmp⟩:=hc
  have hlen:len=1:=Jl hlen
  subst hlen
  simp only [Aa,Ad] at he
  obtain ⟨rfl,rfl⟩:=he
  have hu:=hT.elem t te lb
  unfold St.at at hm
  have hrx:=Du h.2 x
  rw [hx] at hrx
  obtain ⟨_,w8⟩:=Ok (X:=X) (w:=w) hrx hm
  obtain ⟨ax,nx,cx,hvx⟩:=ba w8
  have hp:parts= #[(0,x)]:=by apply Pb;simpa using Aj1
  subst hp
  obtain ⟨i,hi,Vq,rK,tU⟩:=(hT.ty te _ Ya).info
  have Vr:(Instr.buildSlice t 1 (#[(0,x)].map λ(i,x)=>(i,a.eval x))).run P w= .ok (.slice (some ⟨w.heap.size,0,none⟩) 1 1) (w.alloc (.cells #[a.eval x] te)):=by
   have eW:(Ty.slice e').size=1:=rfl
   have hz:(zeroValue te).run P w= .ok (.slice none 0 0) w:=by simp [zeroValue,typeInfo,hi,tU,Ci,Ty.Aq,Cd]
   have hmp:(#[(0,x)].map λ(i,x)=>(i,a.eval x))= #[(0, .slice ax nx cx)]:=by simp [hvx]
   rw [hmp,hvx]
   simp only [Instr.buildSlice,Sem.run_bind,run_underlying hu,Result.andThen_ok,(hT.ty te _ Ya).size,eW]
   simp [Value.cells,Instr.fill,newRow,hz]
   congr 2
   apply Array.ext
   ·simp
   ·intro i h1 h2
    have h0:i=0:=by simpa using h2
    subst h0
    simp
  have KK:=(h.1.heap m).Qi hm
  simp only [Cj,Jw] at KK
  have hfa:Sy w (Da X.w0.heap.size X.Sc π false) (π m) e' xs:=by
   cases hR:π m with
   |none=>rw [hR] at KK;exact KK
   |some q=>
    rw [hR] at KK
    obtain ⟨⟨f0,f0',_⟩,cu,ti',f2,f3,f4,f5,f6,_⟩:=KK
    exact ⟨⟨f0,f0'⟩,cu,ti',f2,f3,f4,f5,λp y hy=>by
     obtain ⟨es,g1,g2,g3⟩:=f6 p y hy
     exact ⟨es,g1,g2,Cells.Ez (Ao _) (λ_ _ _=>rfl) (λb _ hA=>hA.imp id (Or.imp id λ⟨h1,_⟩=>by cases h1)) e' es y g3⟩⟩
  obtain ⟨π',g1,g2⟩:=Zn (w1:=w.alloc (.cells #[a.eval x] te)) (gv:= λ_=>False) h hdp hmp te (e:=e') (rows:= [xs]) (us:= [a.eval x]) (Rs:= [π m]) (g:=w.heap.size) (o:=0) (cap:=1)
   (λ_ hf=>hf.elim) (mR w _) ⟨.inl (Ao _),by simp⟩ (heap_alloc_new w _) rfl (by unfold maxLen;omega) (by simp) (λj u hu=>by
    rcases j with _|j
    ·simpa using hu
    ·simp at hu)
   ⟨rfl,rfl,λi j q q' h1 h2 _=>by
    rcases i with _|i
    ·rcases j with _|j
     ·rfl
     ·simp at h2
    ·simp at h1,λi y hy=>by
    rcases i with _|i
    ·simp only [Bz,Aa] at hy
     subst hy
     exact ⟨_,_,rfl,rfl,w8,hfa⟩
    ·simp at hy⟩
   (λi q h1=>by
    rcases i with _|i
    ·simp only [Bz,Aa] at h1
     have hf:=h.1.Ct h1
     have:=(h.1.place m q _ h1 (h.1.sub m q _ h1 hf)).2
     exact ⟨by omega,λh=>h,m,q, .inr rfl,h1,hf⟩
    ·simp at h1)
  exact ⟨_,_,π',Vr,g1,g2 1 rfl⟩
theorem nd (hT:Dz P T) {st:St} {a:Act} (h:Bl X π st a w) (dst:Nat) (t ty:TypeId) (x y:Operand) (av:AV) (st':St) (he:Rh T st dst t x y=some (av,st')):
  ∃v' w' π',(Builtin.append_ #[t,t] ty #[a.eval x,a.eval y]).run P w= .ok v' w'/\Bl X π' st' a w'/\Bu X w' π' st'.heap av v':=by
 unfold Rh at he
 split at he
 ·exact nc hT h dst t ty x y av st' he
 ·rename_i te e hg
  obtain ⟨lb,Ya⟩:=lX hg
  split at he
  rotate_left
  ·cases he
  rename_i l off len m Aav ug hx hy
  split at he
  rotate_left
  ·cases he
  rename_i e1 te1 A kp1 e2 xk B kp2 hl hm
  split at he
  rotate_left
  ·cases he
  rename_i hc
  obtain ⟨⟨rfl,rfl⟩,hc,⟨rfl,rfl⟩,⟨rfl,rfl⟩,hB,pk⟩:=hc
  simp only [Af,Nd,Nf,Ef] at hc
  obtain ⟨⟨rfl,rfl⟩,tY,hmp,kF⟩:=hc
  have kF:m≠l:= λe=>by rw [e,Nat.beq_refl] at kF;cases kF
  simp only [Aa,Ad] at he
  obtain ⟨rfl,rfl⟩:=he
  have hu:=hT.elem t xk lb
  obtain ⟨i,hi,Vq,rK,tU⟩:=(hT.ty xk _ Ya).info
  have Vq:i.size=1:=Vq
  unfold St.at at hl hm
  have hrx:=Du h.2 x
  have hry:=Du h.2 y
  rw [hx] at hrx;rw [hy] at hry
  obtain ⟨b1,s1,n1,q1,q2,_,hox⟩:=hrx
  rw [hl] at q1;cases q1
  simp only [OB.row,Aa,Ad] at q2
  obtain ⟨rfl,rfl⟩:=q2
  obtain ⟨b2,s2,n2,q1,q2,_,hoy⟩:=hry
  rw [hm] at q1;cases q1
  simp only [OB.row,Aa,Ad] at q2
  obtain ⟨rfl,rfl⟩:=q2
  have hA:=((h.1.heap l).Qi hl).1
  have hBb:=((h.1.heap m).Qi hm).1
  cases ZP:π m with
  |none=>
   rw [ZP] at hBb
   have hBb:B= []:=hBb
   subst hBb;simp at hB
  |some rB=>
  rw [ZP] at hBb hoy
  obtain ⟨fB,Awl,tiB,uB,RB,w1B,w2B,w3B,w4B,w5B,w6B,w7B,LB⟩:=xU hBb
  obtain ⟨adB,hvy,hcB,haB⟩:=hoy
  have haB:=haB (by omega)
  subst haB
  have hlB:=LB.1
  have n1':uB.length=B.length*i.size:=by rw [Vq,Fq];exact hlB
  have n2': ∀j u,uB[j]?=some u->w.cell? ((⟨rB.g,(rB.o+0)*1,none⟩:Addr).add j)=some u:= λj u hu=>by
   rw [Addr.add_lit,cellOf w1B,Fq,Ex];exact w5B j u hu
  have tQ:(A.length+B.length)*i.bytes<=140737488355328:=by
   have:(A.length+B.length)*i.bytes<=4294967296*256:=dB pk rK
   omega
  have iO:A.length+B.length<=maxLen:=by unfold Cr at pk;simp only [maxLen];omega
  have hzs:(Ci (Ty.slice e2) (Cd (Ty.slice e2))).cells.size=1:=by simp [Ci,Ty.Aq,Cd,Value.cells]
  have Wd: ∀(k:Nat) (q:Real) (Rs:List (Option Real)),π k=some q->(∀(i:Nat) (p:Real),Rs[i]?=some (some p)->q.Ct p.g/\p.g≠q.g)-> ∀(i:Nat) (p:Real),Rs[i]?=some (some p)->p.g<w.heap.size:= λk q Rs h1 h2 i p h3=>
   (h.1.place k q _ h1 (h.1.sub k q _ h1 (h2 i p h3).1)).2
  cases jW:π l with
  |none=>
   rw [jW] at hA hox
   have hA:A= []:=hA
   subst hA
   obtain ⟨hvx,_,_⟩:=hox
   rw [hvx,hvy]
   simp only [Gc,Bv,gZ] at pk tQ iO⊢
   have hr:=run_append_nil (P:=P) w t ty xk i _ hu hi tU ⟨rB.g,(rB.o+0)*1,none⟩ B.length (rB.cap-0) uB n1' n2' hB (by simp only [maxLen] at iO;omega) (by omega)
   have oP:=grownCap_ge w B.length 0 xk
   have hcm:=grownCap_le_maxLen w B.length 0 xk (by omega)
   obtain ⟨π',g1,g2⟩:=Zn (w1:=w.drew.alloc (.cells (uB.toArray++Builtin.zeroCells (Ci (Ty.slice e2) (Cd (Ty.slice e2))).cells (grownCap w B.length 0 xk-B.length)) xk)) (gv:= λ_=>False) h tY hmp xk (e:=e2) (rows:=B) (us:=uB) (Rs:=RB) (g:=w.heap.size) (o:=0) (cap:=grownCap w B.length 0 xk)
    (λ_ hf=>hf.elim) (qo w _) ⟨.inl (Ao _),by simp⟩ (heap_alloc_new w.drew _) (by rw [Array.size_append,Gr,Ui,hzs];omega) hcm oP (λj u hu=>by
     have hj:=(An.1 hu).1
     rw [Bv,Tn (by simpa using hj)];simpa using hu)
    LB (λi q h1=>⟨by have:=Wd m rB RB ZP w7B i q h1;omega,λh=>h,m,rB, .inr rfl,ZP,(w7B i q h1).1⟩)
   exact ⟨_,_,π',hr,g1,g2 _ rfl⟩
  |some rA=>
   rw [jW] at hA hox
   obtain ⟨fA,TL,tiA,uA,RA,w1A,w2A,w3A,w4A,w5A,w6A,w7A,LA⟩:=xU hA
   obtain ⟨adA,hvx,hcA,haA⟩:=hox
   have hlA:=LA.1
   rw [hvx,hvy]
   have apart: ∀(i j:Nat) (q q':Real),RA[i]?=some (some q)->RB[j]?=some (some q')->q.g≠q'.g:= λi j q q' h1 h2 e=>by
    have:=h.1.apart jW ZP (w7A i q h1).1 (e▸(w7B j q' h2).1)
    exact kF this.symm
   have LAB:=sN.append LA LB apart
   have Ik: ∀(i:Nat) (q:Real),RB[i]?=some (some q)->q.g≠rA.g:= λi q h1 e=>kF (h.1.apart ZP jW (w7B i q h1).1 (e▸fA))
   have hRs: ∀(i:Nat) (q:Real),(RA++RB)[i]?=some (some q)->q.g≠rA.g/\q.g<w.heap.size/\ ∃k p,(k=l\/k=m)/\π k=some p/\p.Ct q.g:= λi q h1=>by
    by_cases hi:i<RA.length
    ·rw [At hi] at h1
     exact ⟨(w7A i q h1).2,Wd l rA RA jW w7A i q h1,l,rA, .inl rfl,jW,(w7A i q h1).1⟩
    ·rw [Ar (by omega)] at h1
     exact ⟨Ik _ q h1,Wd m rB RB ZP w7B _ q h1,m,rB, .inr rfl,ZP,(w7B _ q h1).1⟩
   by_cases qH:A.length+B.length<=rA.cap-0
   ·have haA:=haA (by omega)
    subst haA
    have Xy:(rA.o+0)*1+A.length*i.size+uB.length<=TL.size:=by rw [Vq];omega
    have Zp:(rA.o+0)*1+A.length*i.size+uB.length<=TL.toList.length:=by simpa using Xy
    have hr:=aJ (P:=P) (w:=w) (ty:=ty) hu hi rA.g ((rA.o+0)*1) A.length (rA.cap-0) TL tiA w1A ⟨rB.g,(rB.o+0)*1,none⟩ B.length (rB.cap-0) uB n1' n2' w6B qH Xy
    have tS:=Nn w rA.g (Dv TL.toList ((rA.o+0)*1+A.length*i.size) uB).toArray
    obtain ⟨π',g1,g2⟩:=Zn (w1:=w.setRow rA.g (Dv TL.toList ((rA.o+0)*1+A.length*i.size) uB).toArray) (gv:= λb=>b=rA.g) h tY hmp xk (e:=e2) (rows:=A++B) (us:=uA++uB) (Rs:=RA++RB) (g:=rA.g) (o:=rA.o) (cap:=rA.cap)
     (λb hb=>⟨l,rA, .inl rfl,jW,hb▸fA⟩) ⟨tS.os,tS.tape,tS.output,tS.size,λc _ hc=>setRow_other w rA.g c _ hc⟩ ⟨.inr ⟨l,rA, .inl rfl,jW,fA⟩,Dn (Ft w1A) tS.size⟩
     (setRow_heap w rA.g TL _ tiA _ w1A) (by rw [Gr,Iv _ _ _ Zp,Xk];exact w2A) w3A (by simp;omega) (λj u hu=>by
      rw [Ie,Ic _ _ _ _ Zp,Vq]
      by_cases hj:j<uA.length
      ·rw [At hj] at hu
       rw [Ab (by omega),Array.getElem?_toList]
       exact w5A j u hu
      ·rw [Ar (by omega)] at hu
       have:=(An.1 hu).1
       rw [Ag (by omega),Ab (by omega)]
       rw [show rA.o+j-((rA.o+0)*1+A.length*1)=j-uA.length by omega]
       exact hu)
     LAB (λi q h1=>⟨(hRs i q h1).1,(hRs i q h1).1,(hRs i q h1).2.2⟩)
    have:=g2 (A.length+B.length) (by simp)
    have e0:(rA.o+0)*1=rA.o:=by omega
    simp only [e0,Nat.sub_zero] at hr g1 this⊢
    exact ⟨_,_,π',hr,g1,this⟩
   ·have hold: ∀j u,uA[j]?=some u->w.cell? (adA.add j)=some u:=by
     intro j u hu
     have hj:=(An.1 hu).1
     rw [haA (by omega),Addr.add_lit,cellOf w1A,Fq,Ex];exact w5A j u hu
    have hr:=run_append_grow (P:=P) w t ty xk i _ hu hi tU adA A.length (rA.cap-0) uA (by rw [Vq,Fq];exact hlA) hold ⟨rB.g,(rB.o+0)*1,none⟩ B.length (rB.cap-0) uB n1' n2' (by omega) (by simp only [maxLen] at iO;omega) (growslice_fits (by omega) tQ)
    have oP:=grownCap_ge w (A.length+B.length) (rA.cap-0) xk
    have hcm:=grownCap_le_maxLen w (A.length+B.length) (rA.cap-0) xk iO
    obtain ⟨π',g1,g2⟩:=Zn (w1:=w.drew.alloc (.cells (uA.toArray++uB.toArray++Builtin.zeroCells (Ci (Ty.slice e2) (Cd (Ty.slice e2))).cells (grownCap w (A.length+B.length) (rA.cap-0) xk-(A.length+B.length))) xk)) (gv:= λ_=>False) h tY hmp xk (e:=e2) (rows:=A++B) (us:=uA++uB) (Rs:=RA++RB) (g:=w.heap.size) (o:=0) (cap:=grownCap w (A.length+B.length) (rA.cap-0) xk)
     (λ_ hf=>hf.elim) (qo w _) ⟨.inl (Ao _),by simp⟩ (heap_alloc_new w.drew _) (by rw [Array.size_append,Array.size_append,Gr,Gr,Ui,hzs];omega) hcm (by simpa using oP) (λj u hu=>by
      have hj:=(An.1 hu).1
      rw [Bv,Tn (by simpa using hj)];simpa using hu)
     LAB (λi q h1=>⟨by have:=(hRs i q h1).2.1;omega,λh=>h,(hRs i q h1).2.2⟩)
    exact ⟨_,_,π',hr,g1,g2 _ (by simp)⟩
theorem lI: ∀τ:Ty,Gi X w π H (zeroCells τ) (Cd τ):=by
 have one: ∀(c:AC) (v:Value),v.oneCell'=true->Hp X w π H c v->Gi X w π H [c] [v]:= λc v h1 h2=>⟨rfl,λi c' hc=>by
  rcases i with _|i
  ·simp at hc;subst hc;exact ⟨v,rfl,h1,h2⟩
  ·simp at hc⟩
 intro τ
 induction τ with
 |unit=>exact ⟨rfl,λi c hc=>by simp [zeroCells] at hc⟩
 |pair a r mI jX=>
  refine ⟨by simp [zeroCells,Cd,mI.1,jX.1],λi c hc=>?_⟩
  simp only [zeroCells] at hc
  simp only [Cd]
  by_cases hi:i<(zeroCells a).length
  ·rw [At hi] at hc
   obtain ⟨u,hu,h⟩:=mI.2 i c hc
   exact ⟨u,by rw [At (by rw [mI.1];exact hi)];exact hu,h⟩
  ·rw [Ar (by omega)] at hc
   obtain ⟨u,hu,h⟩:=jX.2 _ c hc
   exact ⟨u,by rw [Ar (by rw [mI.1];omega),mI.1];exact hu,h⟩
 |int k=>exact one (.data true _ _) _ rfl (Oa (H:=H) k 0 true)
 |bool=>exact one (.data true _ _) _ rfl (Mt (H:=H) false true)
 |str=>exact one (.data true _ _) _ rfl (pB (H:=H) ByteArray.empty true)
 |slice e=>exact one _ _ rfl rfl
 |oslice e=>exact one _ _ rfl rfl
 |ptr e=>exact one _ _ rfl rfl
 |optr e=>exact one _ _ rfl rfl
 |smap v=>exact one (.data true _ _) _ rfl ⟨[.map none], .inl ⟨rfl,rfl⟩,by simp [Ci,Ty.Aq]⟩
 |clo f c=>exact one .undef .nilFunc rfl trivial
theorem dD (hT:Dz P T) {st:St} {a:Act} (h:Bl X π st a w) (t:TypeId) (Ln:Array (Nat×Nat))
  (jW: ∀f o u ρ,T.off t f=some (o,u)->T.ty u=some ρ->Ln[f]?=some (o,ρ.size)): ∀(parts:List (Nat×Operand)) (cs ir:List AC) (us:List Value),Gi X w π st.heap cs us->
  Mf T st t parts cs=some ir-> ∃Sb:List Value,Instr.fill (λi=>Ln[i]?) us.toArray (parts.map λp=>(p.1,a.eval p.2))=some Sb.toArray/\Gi X w π st.heap ir Sb
 | [],cs,ir,us,hr,he=>by
  simp only [Mf,Aa] at he;subst he
  exact ⟨us,rfl,hr⟩
 |(f,x)::r,cs,ir,us,hr,he=>by
  simp only [Mf] at he
  split at he
  ·rename_i o u ho
   split at he
   ·rename_i ρ hρ
    split at he
    ·rename_i c hc
     split at he
     ·rename_i hle
      obtain ⟨vs,hv,hl,ZT⟩:=ic (Du h.2 x) hc
      have e1:=hr.1
      have e2:=ZT.1
      obtain ⟨Sb,g1,g2⟩:=dD hT h t Ln jW r _ ir _ (vH hr ZT o hle) he
      refine ⟨Sb,?_,g2⟩
      simp only [Ca]
      rw [xQ _ us f (a.eval x) _ o ρ.size vs (jW f o u ρ ho hρ) hv hl (by omega)]
      exact g1
     ·cases he
    ·cases he
   ·cases he
  ·cases he
theorem ga (hT:Dz P T) {st:St} {a:Act} (h:Bl X π st a w) (t:TypeId) (parts:Array (Nat×Operand)) (av:AV) (he:Xs T st t parts=some av):
  ∃v',(Instr.build t (parts.map λ(i,x)=>(i,a.eval x))).run P w= .ok v' w/\Bu X w π st.heap av v':=by
 unfold Xs at he
 split at he
 ·cases he
 ·rename_i τ Ya
  split at he
  ·rename_i hs
   cases hb:Mf T st t parts.toList (zeroCells τ) with
   |none=>rw [hb] at he;cases he
   |some ir=>
    rw [hb] at he
    simp only [Am,Aa] at he;subst he
    obtain ⟨fs,Ln,h1,h2,h3⟩:=hT.fill t τ Ya hs
    obtain ⟨i,hi,Vq,rK,tU⟩:=(hT.ty t τ Ya).info
    obtain ⟨Sb,g1,g2⟩:=dD hT h t Ln h3 parts.toList (zeroCells τ) ir (Cd τ) (lI τ) hb
    refine ⟨.agg Sb.toArray,?_,Sb,rfl,g2⟩
    have hz:(zeroValue t).run P w= .ok (Ci τ (Cd τ)) w:=by simp [zeroValue,typeInfo,hi,tU]
    have hzc:(Ci τ (Cd τ)).cells=(Cd τ).toArray:=by simp [Ci,hs,Value.cells]
    have h2':=h2 w
    unfold placesOf at h2'
    have e1:(parts.map λ(i,x)=>(i,a.eval x)).toList=parts.toList.map λp=>(p.1,a.eval p.2):=by simp
    simp only [Instr.build,Sem.run_bind,hz,Result.andThen_ok,run_underlying h1,h2',hzc,e1,g1,Sem.run_pure]
  ·cases he
theorem uX {st:St} {v:AV} (h:v.settled=true):settle st v=some (v,st):=by
 cases v with
 | «at»a=>cases a<;>simp [AV.settled,AC.settled] at h<;>simp [settle,AC.settled]
 |agg cs=>
  have hs:cs.all (·.settled)=true:=h
  have:Hk cs.length st cs=some (cs,st):=by
   cases hn:cs.length with
   |zero=>simp [Hk,hs]
   |succ n=>
    have hf:cs.find? (λc=>!c.settled)=none:=List.find?_eq_none.2 λc hc=>by simpa using Bd.1 hs c hc
    simp [Hk,hf]
  simp [settle,this]
 |bz fr τ x=>rfl
 |Mq l=>simp [AV.settled] at h
theorem nW {e:Ty} {st:St} : ∀(parts:List (Nat×Operand)) (i:Nat) (fr:Bool) (ys:List e.den),fk e i parts st=some (fr,ys)-> ∃tr,Kz e i parts st=some (fr,tr,ys,st)
 | [],i,fr,ys,h=>by
  simp only [fk,Aa,Ad] at h
  obtain ⟨rfl,rfl⟩:=h
  exact ⟨true,rfl⟩
 |(j,x)::r,i,fr,ys,h=>by
  simp only [fk] at h
  split at h
  ·rename_i hc
   split at h
   ·rename_i f1 y f2 zs h1 h2
    simp only [Aa,Ad] at h
    obtain ⟨rfl,rfl⟩:=h
    obtain ⟨tr,h3⟩:=nW r (i+1) f2 zs h2
    refine ⟨Tl st (st.ev x)&&e.tree&&tr,?_⟩
    simp only [Kz]
    rw [Ab hc.1,uX hc.2]
    simp only [h1,h3]
   ·cases h
  ·cases h
theorem p9 (hT:Dz P T) {st:St} {a:Act} (h:Bl X π st a w) (t:TypeId) (len:Nat) (parts:Array (Nat×Operand)) (av:AV) (he:bI T st t len parts=some av):
  ∃v' w' π',(Instr.buildSlice t len (parts.map λ(i,x)=>(i,a.eval x))).run P w= .ok v' w'/\Bl X π' st a w'/\Bu X w' π' st.heap av v':=by
 unfold bI at he
 split at he
 ·cases he
 ·rename_i te lb
  split at he
  ·cases he
  ·rename_i e Ya
   split at he
   ·rename_i Jn
    obtain ⟨jW,hlen⟩:=Jn
    cases hp:fk e 0 parts.toList st with
    |none=>rw [hp] at he;cases he
    |some p=>
     obtain ⟨fr,ys⟩:=p
     rw [hp] at he
     simp only [Am,Aa] at he
     subst he
     obtain ⟨tr,hb⟩:=nW _ _ _ _ hp
     obtain ⟨i,hi,Vq,rK,tU⟩:=(hT.ty te e Ya).info
     have hu:=hT.elem t te lb
     have TV:parts.toList.length=len:=by simpa using jW
     have hz: ∃z:Array Value,(len*e.size=0/\z= #[])\/(¬len*e.size=0/\(zeroValue te).run P w= .ok (Ci e (Cd e)) w/\z=(Ci e (Cd e)).cells):=by
      by_cases h0:len*e.size=0
      ·exact ⟨#[], .inl ⟨h0,rfl⟩⟩
      ·exact ⟨_, .inr ⟨h0,by simp [zeroValue,typeInfo,hi,tU],rfl⟩⟩
     obtain ⟨z,hz⟩:=hz
     obtain ⟨cj,cl,g1,g2,g3,g4,g5,g6⟩:=Xo e parts.toList 0 st π fr tr ys st ((Array.range (len*e.size)).map (z[· %z.size]!)).toList h hb (by simp [TV])
     have Pw:cl.length=len*e.size:=by rw [g2.1,g3,TV]
     have XR:(Dv ((Array.range (len*e.size)).map (z[· %z.size]!)).toList (0*e.size) cl)=cl:=by
      simp [Dv,Pw]
     rw [XR] at g5
     have Vr:(Instr.buildSlice t len (parts.map λ(i,x)=>(i,a.eval x))).run P w= .ok (.slice (some ⟨w.heap.size,0,none⟩) len len) (w.alloc (.cells cl.toArray te)):=by
      have h24: ¬(len*e.size>2^24):=by
       have:len*e.size<=64*64:=dB hlen.1 hlen.2
       omega
      simp only [Instr.buildSlice,Sem.run_bind,run_underlying hu,Result.andThen_ok,(hT.ty te e Ya).size,Ag h24]
      have e1:(parts.map λ(i,x)=>(i,a.eval x)).toList=parts.toList.map λp=>(p.1,a.eval p.2):=by simp
      simp only [e1]
      have e2:(((Array.range (len*e.size)).map (z[· %z.size]!)).toList.toArray)=(Array.range (len*e.size)).map (z[· %z.size]!):=Array.toArray_toList
      rw [e2] at g5
      rcases hz with ⟨h0,rfl⟩|⟨h0,hz,rfl⟩
      ·rw [Ab h0]
       simp only [Sem.run_bind,Sem.run_pure,Result.andThen_ok,g5,newRow]
       simp
      ·rw [Ag h0]
       simp only [Sem.run_bind,Sem.run_pure,Result.andThen_ok,hz,g5,newRow]
       simp
     have Adu:(w.alloc (.cells cl.toArray te)).heap[w.heap.size]?=some (.cells cl.toArray te (0,0)):=heap_alloc_new w _
     have hB:Below w.heap.size w (w.alloc (.cells cl.toArray te)):=(Below.refl _ _).alloc (Ao _) _
     have It:=Ft Adu
     refine ⟨_,_,cj,Vr,g1.quiet hB,⟨[_],?_,rfl⟩⟩
     refine ⟨some ⟨w.heap.size,0,none⟩,len,len,rfl,by rw [g3,TV],Ao _, .inr ⟨w.heap.size,0,rfl,It,λhA=>?_,λk x hx=>?_⟩⟩
     ·rcases hA with hA|hA|⟨_,hA⟩
      ·exact absurd (g1.1.own hA).1 (Nat.lt_irrefl _)
      ·exact absurd (Dn (g1.1.sc _ hA).1 g1.1.below.size) (Nat.lt_irrefl _)
      ·exact absurd (Dn hA g1.1.below.size) (Nat.lt_irrefl _)
     ·obtain ⟨es,k1,k2,k3⟩:=g2.2 k x hx
      refine ⟨es,k1,λj u hu=>?_,Cells.Ez hB.size (λb hb _=>hB.block b hb) (λ_ _ h=>h) e es x k3⟩
      rw [cellOf Adu,Bv]
      simpa using k2 j u hu
   ·cases he
theorem EO {Γ:Env} (hT:Dz P T) (Pg:Ki P Γ) {st:St} {a:Act} (h:Bl X π st a w) (o:Oper) (av:AV) (he:Xg T Γ st o=some av):
  gW P X st a w av ((execOp a.eval o).run P w):=by
 obtain ⟨dst,op,ty,pos,af,gd⟩:=o
 have val: ∀(s:Sem Value) (v:Value) (w':World) (π':Pi),s.run P w= .ok v w'->Bl X π' st a w'->Bu X w' π' st.heap av v->(execOp a.eval ⟨dst,op,ty,pos,af,gd⟩=do pure (.value (<-s)))->
   gW P X st a w av ((execOp a.eval ⟨dst,op,ty,pos,af,gd⟩).run P w):=by
  intro s v w' π' h1 h2 h3 h4
  rw [h4,Sem.run_bind,h1]
  exact ⟨π',h2,h3⟩
 have quiet:Ey T Γ st ⟨dst,op,ty,pos,af,gd⟩=some av->gW P X st a w av ((execOp a.eval ⟨dst,op,ty,pos,af,gd⟩).run P w):=by
  intro hq
  have:=ix hT Pg h _ av hq
  generalize (execOp a.eval ⟨dst,op,ty,pos,af,gd⟩).run P w=r at*
  cases r with
  |halt x w'=>exact this
  |ok n w'=>
   cases n<;>simp only [QN] at this<;>simp only [gW]
   ·obtain ⟨rfl,hr⟩:=this
    exact ⟨π,h,hr⟩
   ·obtain ⟨rfl,hc⟩:=this
    exact ⟨rfl,hc.mono λe ry ⟨v,hv,hb,hr⟩=>⟨v,hv,π,h.quiet hb,hr⟩⟩
 unfold Xg at he
 split at he
 ·rename_i t len parts sB
  dsimp only at sB;subst sB
  obtain ⟨v,w',π',h1,h2,h3⟩:=p9 hT h t len parts av he
  exact val _ v w' π' h1 h2 h3 rfl
 ·rename_i t parts sB
  dsimp only at sB;subst sB
  obtain ⟨v',h1,h2⟩:=ga hT h t parts av he
  exact val _ v' w π h1 h h2 rfl
 ·exact quiet he
theorem lr {a:Act} : ∀(l:List Operand) {π:Pi} {st st1:St},Bl X π st a w->Ox l st=some st1-> ∃π',Bl X π' st1 a w
 | [],π,st,st1,h,he=>by
  simp only [Ox,Aa] at he
  subst he
  exact ⟨π,h⟩
 |x::r,π,st,st1,h,he=>by
  simp only [Ox] at he
  cases hs:settle st (st.ev x) with
  |none=>rw [hs] at he;cases he
  |some p=>
   rw [hs] at he
   obtain ⟨cj,h1,_⟩:=c8 h (Du h.2 x) hs
   exact lr r h1 he
theorem zu {Γ:Env} (hT:Dz P T) (Pg:Ki P Γ) {st:St} {a:Act} (h:Bl X π st a w) (o:Oper) (av:AV) (st':St) (he:evalOp T Γ st o=some (av,st')):
  gW P X st' a w av ((execOp a.eval o).run P w):=by
 have quiet: ∀ {π:Pi} {st:St},Bl X π st a w->(Ey T Γ st o).map (λv=>(v,st))=some (av,st')->gW P X st' a w av ((execOp a.eval o).run P w):=by
  intro π st h he
  cases hq:Ey T Γ st o with
  |none=>rw [hq] at he;cases he
  |some v=>
   rw [hq] at he
   simp only [Am,Aa,Ad] at he
   obtain ⟨rfl,rfl⟩:=he
   have:=ix hT Pg h o v hq
   generalize (execOp a.eval o).run P w=r at*
   cases r with
   |halt x w'=>exact this
   |ok n w'=>
    cases n<;>simp only [QN] at this<;>simp only [gW]
    ·obtain ⟨rfl,hr⟩:=this
     exact ⟨π,h,hr⟩
    ·obtain ⟨rfl,hc⟩:=this
     exact ⟨rfl,hc.mono λe ry ⟨v,hv,hb,hr⟩=>⟨v,hv,π,h.quiet hb,hr⟩⟩
 obtain ⟨dst,op,ty,pos,af,gd⟩:=o
 have val: ∀(s:Sem Value) (v:Value) (w':World) (π':Pi),s.run P w= .ok v w'->Bl X π' st' a w'->Bu X w' π' st'.heap av v->(execOp a.eval ⟨dst,op,ty,pos,af,gd⟩=do pure (.value (<-s)))->
   gW P X st' a w av ((execOp a.eval ⟨dst,op,ty,pos,af,gd⟩).run P w):=by
  intro s v w' π' h1 h2 h3 h4
  rw [h4,Sem.run_bind,h1]
  exact ⟨π',h2,h3⟩
 unfold evalOp at he
 split at he
 all_goals (rename_i sB;dsimp only at sB;try subst sB)
 ·
  rename_i x
  split at he
  ·rename_i d te e hx hd ht
   split at he
   ·rename_i hdp
    simp only [Aa,Ad] at he
    obtain ⟨rfl,rfl⟩:=he
    obtain ⟨k1,k2,_⟩:=uo h d hdp (T.tH||e.flat) T.CO te e
    have ZZ:=Du h.2 x
    rw [hx] at ZZ
    have hxv:a.eval x= .slice none 0 0:=ZZ
    show gW P X _ a w _ (.ok (.value (a.eval x)) w)
    rw [hxv]
    exact ⟨_,k1,k2⟩
   ·cases he
  ·simp only [Aa,Ad] at he
   obtain ⟨rfl,rfl⟩:=he
   exact ⟨π,h,Du h.2 x⟩
 ·
  rename_i t
  split at he
  ·rename_i d τ hd ht
   obtain ⟨i,hi,Vq,rK,tU⟩:=(hT.ty t τ ht).info
   obtain ⟨π',k1,k2⟩:=qS h d t τ (zeroCells τ) (Cd τ) (lI τ) av st' he
   have hzc:(Ci τ (Cd τ)).cells=(Cd τ).toArray:=by
    cases τ<;>simp [Ci,Ty.Aq,Value.cells,Cd]
   refine val (Instr.alloc t true (.tuple #[])) _ _ π' ?_ k1 k2 rfl
   simp [Instr.alloc,zeroValue,typeInfo,hi,tU,newVar,newRow,hzc]
  ·cases he
 ·
  rename_i t x
  split at he
  ·rename_i d τ hd ht
   split at he
   ·rename_i cs hc
    obtain ⟨us,hv,hl,hr⟩:=ic (Du h.2 x) hc
    obtain ⟨π',k1,k2⟩:=qS h d t τ cs us hr av st' he
    refine val (Instr.box t (a.eval x)) _ _ π' ?_ k1 k2 rfl
    simp [Instr.box,newVar,newRow,hv]
   ·cases he
  ·cases he
 ·
  rename_i t p x
  cases hs:Pu T st t (st.ev p) (st.ev x) with
  |none=>rw [hs] at he;cases he
  |some s=>
   rw [hs] at he
   simp only [Am,Aa,Ad] at he
   obtain ⟨rfl,rfl⟩:=he
   obtain ⟨w',π',h1,h2⟩:=pd hT h t _ _ _ _ (Du h.2 p) (Du h.2 x) s hs
   have:(execOp a.eval ⟨dst, .store t p x,ty,pos,af,gd⟩).run P w= .ok .skip w':=by
    show (do Instr.storeAt t (a.eval p) (a.eval x);pure Next.skip:Sem Next).run P w=_
    rw [Sem.run_bind,h1];rfl
   rw [this]
   exact ⟨π',h2,trivial⟩
 ·
  rename_i t l c
  split at he
  ·rename_i d hd
   obtain ⟨v,w',π',h1,h2,h3⟩:=rG hT h d t _ _ _ _ (Du h.2 l) (Du h.2 c) av st' he
   exact val _ v w' π' h1 h2 h3 rfl
  ·cases he
 ·
  rename_i t
  split at he
  ·rename_i d hd
   obtain ⟨v,w',π',h1,h2,h3⟩:=nh hT h d t av st' he
   exact val _ v w' π' h1 h2 h3 rfl
  ·cases he
 ·
  rename_i t m k x
  cases hs:Jd T st t (st.ev m) (st.ev k) (st.ev x) with
  |none=>rw [hs] at he;cases he
  |some s=>
   rw [hs] at he
   simp only [Am,Aa,Ad] at he
   obtain ⟨rfl,rfl⟩:=he
   obtain ⟨w',h1,h2⟩:=dJ hT h t _ _ _ _ _ _ (Du h.2 m) (Du h.2 k) (Du h.2 x) s hs
   have:(execOp a.eval ⟨dst, .mapUpdate t m k x,ty,pos,af,gd⟩).run P w= .ok .skip w':=by
    show (do Instr.mapUpdate t (a.eval m) (a.eval k) (a.eval x);pure Next.skip:Sem Next).run P w=_
    rw [Sem.run_bind,h1];rfl
   rw [this]
   exact ⟨π,h2,trivial⟩
 ·
  rename_i t m k x
  cases hs:Jd T st t (st.ev m) (st.ev k) (st.ev x) with
  |none=>rw [hs] at he;cases he
  |some s=>
   rw [hs] at he
   simp only [Am,Aa,Ad] at he
   obtain ⟨rfl,rfl⟩:=he
   obtain ⟨w',h1,h2⟩:=dJ hT h t _ _ _ _ _ _ (Du h.2 m) (Du h.2 k) (Du h.2 x) s hs
   have:(execOp a.eval ⟨dst, .insert t m k x,ty,pos,af,gd⟩).run P w= .ok .skip w':=by
    show (do Instr.mapUpdate t (a.eval m) (a.eval k) (a.eval x);pure Next.skip:Sem Next).run P w=_
    rw [Sem.run_bind,h1];rfl
   rw [this]
   exact ⟨π,h2,trivial⟩
 ·
  rename_i t len parts
  split at he
  ·rename_i d hd
   obtain ⟨v,w',π',h1,h2,h3⟩:=gI hT h d t len parts av st' he
   exact val _ v w' π' h1 h2 h3 rfl
  ·cases he
 ·
  rename_i t parts
  cases hb:Xs T st t parts with
  |none=>rw [hb] at he;cases he
  |some v=>
   rw [hb] at he
   simp only [Am,Aa,Ad] at he
   obtain ⟨rfl,rfl⟩:=he
   obtain ⟨v',h1,h2⟩:=ga hT h t parts v hb
   exact val _ v' w π h1 h h2 rfl
 ·
  rename_i args ts
  split at he
  ·rename_i d x y t t' hd Qx u5
   split at he
   ·rename_i Vu;subst Vu
    have e1:args= #[x,y]:=by apply Pb;simpa using Qx
    have e2:ts= #[t,t]:=by apply Pb;simpa using u5
    subst e1;subst e2
    obtain ⟨v,w',π',h1,h2,h3⟩:=nd hT h d t ty x y av st' he
    refine val (Builtin.append_ #[t,t] ty #[a.eval x,a.eval y]) v w' π' h1 h2 h3 ?_
    simp [execOp,resolve,invoke,builtin]
   ·cases he
  ·cases he
 ·
  rename_i args ts
  split at he
  ·rename_i x y t t' Qx u5
   have e1:args= #[x,y]:=by apply Pb;simpa using Qx
   have e2:ts= #[t,t']:=by apply Pb;simpa using u5
   subst e1;subst e2
   obtain ⟨v,w',h1,h2,h3⟩:=tv hT h t t' ty _ _ _ _ (Du h.2 x) (Du h.2 y) av st' he
   refine val (Builtin.copy_ #[t,t'] ty #[a.eval x,a.eval y]) v w' π h1 h2 h3 ?_
   simp [execOp,resolve,invoke,builtin]
  ·cases he
 ·
  rename_i args ts
  split at he
  ·rename_i x t Qx u5
   have e1:args= #[x]:=by apply Pb;simpa using Qx
   have e2:ts= #[t]:=by apply Pb;simpa using u5
   subst e1;subst e2
   cases hs:evalClear T st t (st.ev x) with
   |none=>rw [hs] at he;cases he
   |some s=>
    rw [hs] at he
    simp only [Am,Aa,Ad] at he
    obtain ⟨rfl,rfl⟩:=he
    obtain ⟨v,w',h1,h2⟩:=rF hT h t ty _ _ (Du h.2 x) s hs
    refine val (Builtin.clear_ #[t] ty #[a.eval x]) v w' π h1 h2 trivial ?_
    simp [execOp,resolve,invoke,builtin]
  ·cases he
 ·
  rename_i f args ts
  split at he
  ·rename_i s Ao6
   have hs:By P f s:=Pg f _ Ao6
   have:=rE h hs dst (args.toList.map st.ev) (args.toList.map a.eval) (by simp) (λi c v=>je h args.toList i c v) av st' he
   rw [jh a.eval f args ts dst ty pos af gd rfl hs.enter]
   refine ⟨rfl,?_⟩
   rwa [show (args.toList.map a.eval).toArray=args.map a.eval from by apply Pb;simp] at this
  ·rename_i s Ao6
   split at he
   ·cases hs:Ox args.toList st with
    |none=>rw [hs] at he;cases he
    |some st1=>
     rw [hs] at he
     obtain ⟨cj,h1⟩:=lr args.toList h hs
     exact quiet h1 he
   ·exact quiet h he
  ·exact quiet h he
 ·exact quiet h he
end
end Go.Proofs.YtfolipnappekaaaGreat
