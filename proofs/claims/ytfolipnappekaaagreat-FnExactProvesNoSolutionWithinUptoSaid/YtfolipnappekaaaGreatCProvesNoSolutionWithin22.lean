/-
  Part 23 of the proof that the statement FnExactProvesNoSolutionWithin holds.
-/
import Derived.Test.YtfolipnappekaaaGreatCProvesNoSolutionWithin21
namespace Go.Proofs.YtfolipnappekaaaGreat
open Go.RowKit
section
variable {P:Program} {T:Tab} {X:Ctx} {w w':World} {π:Pi} {H:List (Nat×OB)}
theorem vS {π':Pi} {st':St} {a:Act} (h:Ak X π' st' a w) (k:Gh π π' H st'.heap) {fr:Bool} (τ:Ty) (cs:List Value) (x:τ.den) (hc:Cells w (Bj X.w0.heap.size X.Sc π fr) τ cs x):
  Cells w (Bj X.w0.heap.size X.Sc π' fr) τ cs x:=
 Cells.Cn (Nat.le_refl _) (λ_ _ _=>rfl) (λb _ hA=>by
  rcases hA with ⟨l,r,hl,hg⟩|h2
  ·have hh:=h.1.heap l
   cases hb:Ad st'.heap l with
   |none=>have:=hh.emp hb;rw [this] at hl;cases hl
   |some b'=>have:=(k l b' hb).1;rw [this] at hl;exact .inl ⟨l,r,hl,hg⟩
  ·exact .inr h2) τ cs x hc
theorem dc.drop {F:List Nat} {l:Nat} (h:dc X w π F):dc X w (Rl π l none) F:=
 ⟨h.1,λb hb=>⟨(h.2 b hb).1,(h.2 b hb).2.1,λm r hm=>by
  by_cases e:m=l
  ·subst e;rw [Df] at hm;cases hm
  ·rw [Cy π none e] at hm;exact (h.2 b hb).2.2 m r hm⟩⟩
theorem qt {st:St} {a:Act} (h:Ak X π st a w) (l:Nat) (hl:l<Am) (f0 t0:Bool) (te:TypeId) (e:Ty):
  Ak X (Rl π l none) (st.new l (.arr f0 t0 e te [])) a w/\Ao X w (Rl π l none) (st.new l (.arr f0 t0 e te [])).heap (.at (.own l 0 0)) (.slice none 0 0)/\
   ∀fr τ cs x,Cells w (Bj X.w0.heap.size X.Sc π fr) τ cs x->Cells w (Bj X.w0.heap.size X.Sc (Rl π l none) fr) τ cs x:=
 ⟨h.replace l hl none _ (Kx w _) (λr hr=>by cases hr) (λ_=>rfl),
  zN (St.Dq st l _) (Nat.le_refl _) (by rw [Df];exact ⟨rfl,rfl,rfl⟩),
  fun fr τ cs x hc=>Cells.Cn (Nat.le_refl _) (λ_ _ _=>rfl) (λb _ hA=>by
  rcases hA with ⟨m,r,hm,hg⟩|h2
  ·by_cases e:m=l
   ·subst e;rw [Df] at hm;cases hm
   ·rw [Cy π none e] at hm;exact .inl ⟨m,r,hm,hg⟩
  ·exact .inr h2) τ cs x hc⟩
theorem Sj (hT:By P T) {st:St} {a:Act} (h:Ak X π st a w) (dst:Nat) (t ty:TypeId) (x y:Operand) (av:AV) (st':St) (he:Jj T st dst t x y=some (av,st')):
  ∃v' w' π',(Builtin.append_ #[t,t] ty #[a.eval x,a.eval y]).run P w= .ok v' w'/\Ak X π' st' a w'/\Ao X w' π' st'.heap av v':=by
 unfold Jj at he
 split at he
 ·cases he
 ·rename_i te gO
  split at he
  ·rename_i e y' st1 Ss hs
   obtain ⟨Yi,h1,h2,h3,h4,h5⟩:=Yb h (Bq h.2 y) hs
   split at he
   ·cases he
   ·rename_i oI ys hv
    dsimp only at he
    have JY: ∀tr2,tr2=(e.flat||(Oc st (st.ev y)&&e.tree))->tr2=true->e.flat=true\/ ∃F,Ax w F (.slice e) [a.eval y] ys/\dc X w Yi F:=by
     intro tr2 e2 jY
     subst e2
     cases hef:e.flat with
     |true=>exact .inl rfl
     |false=>
     right
     simp only [hef,Bool.false_or,Bool.and_eq_true] at jY
     obtain ⟨F,us,f1,f2,f3,_⟩:=h5 jY.1 (.slice e) oI ys jY.2 hv
     have SG:us= [a.eval y]:=by
      simp only [Ax] at f1
      obtain ⟨a0,len,cap,rfl,_⟩:=f1
      rw [f2];simp [Au,Ty.Ac]
     rw [SG] at f1
     exact ⟨F,f1,f3⟩
    have hyc:Cells w (Bj X.w0.heap.size X.Sc Yi oI) (.slice e) [a.eval y] ys:=Bc.Mv rfl (Kj _ y' _ oI ys h3 h2 hv)
    have SJ:=Bq h1.2 x
    split at he
    ·rename_i hx
     rw [hx] at SJ
     have hxv:a.eval x= .slice none 0 0:=SJ
     split at he
     ·rename_i lL
      simp only [Option.some.injEq,Prod.mk.injEq] at he
      obtain ⟨rfl,rfl⟩:=he
      obtain ⟨k1,k2,k3⟩:=qt h1 dst lL.2 (T.pK||e.flat) T.xK te e
      have:=ju (ty:=ty) hT k1 gO Ss lL.2 (fr3:=oI||e.flat) (tr2:=e.flat||(Oc st (st.ev y)&&e.tree)) rfl (St.Dq st1 dst _) k2 (k3 _ _ _ _ hyc) (by rw [Nat.zero_add];exact lL.1) (λht=>by
       rcases JY _ rfl ht with h0|⟨F,f1,f2⟩
       ·exact .inl h0
       ·exact .inr ⟨F,f1,f2.drop⟩)
      rw [<-hxv] at this
      exact this
     ·cases he
    ·rename_i l off len hx
     rw [hx] at SJ
     split at he
     ·rename_i fr tr e' tid xs hl
      split at he
      ·rename_i Fk
       obtain ⟨rfl,rfl⟩:=Fk
       split at he
       ·rename_i lL
        simp only [Option.some.injEq,Prod.mk.injEq] at he
        obtain ⟨rfl,rfl⟩:=he
        exact ju (ty:=ty) hT h1 gO Ss lL.2 (fr3:=oI||e'.flat) (tr2:=e'.flat||(Oc st (st.ev y)&&e'.tree)) rfl hl SJ hyc lL.1 (JY _ rfl)
       ·cases he
      ·cases he
     ·cases he
    ·cases he
  ·cases he
theorem jF (hT:By P T) {st:St} {a:Act} (h:Ak X π st a w) (dst:Nat) (t ty:TypeId) (x y:Operand) (av:AV) (st':St) (he:Mj T st dst t x y=some (av,st')):
  ∃v' w' π',(Builtin.append_ #[t,t] ty #[a.eval x,a.eval y]).run P w= .ok v' w'/\Ak X π' st' a w'/\Ao X w' π' st'.heap av v':=by
 unfold Mj at he
 split at he
 ·rename_i tx
  split at he
  ·rename_i l i c hg
   split at he
   ·rename_i e te rows kp tid hl _
    split at he
    ·rename_i hc
     simp only [Bool.and_eq_true,Nat.blt_eq,Bool.not_eq_true'] at hc
     have gg:dst≠l:= λe=>by rw [e,Nat.beq_refl] at hc;cases hc.2.2
     unfold St.at at hl
     have hv:Dv X w π st.heap (.sub l i c) (a.tmps.getD tx undef):=by
      have:=h.2.tmps tx
      rw [hg] at this
      exact this
     obtain ⟨Yi,h1,h2⟩:=DU (tid:=tid) h hl gg hc.2.1 hc.1 hv
     have h3:=h1.put (some tx) (c:= .at (.own dst 0 (rows.getD i []).length)) h2
     have Ahi:a.put (some tx) (a.tmps.getD tx undef)=a:=by
      have:a.tmps.setIfInBounds tx (a.tmps.getD tx undef)=a.tmps:=by
       apply Array.ext_getElem?
       intro k
       rw [Array.getElem?_setIfInBounds]
       split
       ·rename_i e
        subst e
        split
        ·rename_i Ey
         rw [Array.getElem?_eq_getElem Ey];simp
        ·rename_i Ey
         rw [Array.getElem?_eq_none (by omega)]
       ·rfl
      simp only [Act.put,this]
     rw [Ahi] at h3
     exact Sj hT h3 dst t ty (.tmp tx) y av st' he
    ·cases he
   ·cases he
  ·exact Sj hT h dst t ty _ y av st' he
 ·exact Sj hT h dst t ty x y av st' he
theorem IM {S:Nat->Prop} {e:Ty} (h:jk e=true): ∃z,Ar e= [z]/\e.Ac=false/\e.size=1/\Cells w S e [z] e.zero/\z.oneCell'=true:=by
 cases e<;>simp [jk] at h
 ·exact ⟨_,rfl,rfl,rfl,rfl,rfl⟩
 ·exact ⟨_,rfl,rfl,rfl,rfl,rfl⟩
 ·exact ⟨_,rfl,rfl,rfl,rfl,rfl⟩
 ·exact ⟨_,rfl,rfl,rfl,⟨none,0,0,rfl,rfl,Nat.le_refl _, .inl rfl⟩,rfl⟩
 ·exact ⟨_,rfl,rfl,rfl, .inl ⟨rfl,0,rfl⟩,rfl⟩
theorem CN {e:Ty} {z:Value} (ht:e.tree=true) (h:jk e=true) (hz:Ar e= [z]):Ax w [] e [z] e.zero:=by
 cases e<;>simp [jk] at h<;>simp only [Ar,List.cons.injEq,and_true] at hz<;>subst hz<;>try (simp [Ty.tree] at ht;done)
 ·exact ⟨rfl,rfl⟩
 ·exact ⟨rfl,rfl⟩
 ·exact ⟨rfl,rfl⟩
 ·exact ⟨none,0,0,rfl,rfl,Nat.le_refl _, .inl ⟨rfl,rfl,rfl,rfl⟩⟩
theorem WH {S:Nat->Prop} : ∀(e:Ty),cq e=true->(Ar e).length=e.size/\Cells w S e (Ar e) e.zero/\(e.tree=true->Ax w [] e (Ar e) e.zero):=by
 intro e
 induction e with
 |unit=>intro _;exact ⟨rfl,rfl,λ_=>⟨rfl,rfl⟩⟩
 |pair a r jm fv=>
  intro h
  simp only [cq,Bool.and_eq_true] at h
  obtain ⟨a1,a2,a3⟩:=jm h.1
  obtain ⟨r1,r2,r3⟩:=fv h.2
  exact ⟨by simp [Ar,Ty.size,a1,r1],⟨_,_,rfl,a2,r2⟩,λht=>by simp only [Ty.tree,Bool.and_eq_true] at ht;exact ⟨_,_,[],[],rfl,rfl,a3 ht.1,r3 ht.2⟩⟩
 |_=>
  intro h
  simp only [cq] at h
  obtain ⟨z,z1,z2,z3,z4,_⟩:=IM (w:=w) (S:=S) h
  exact ⟨by rw [z1,z3];rfl,by rw [z1];exact z4,λht=>by rw [z1];exact CN ht h z1⟩
theorem KH {z:Array Value} {s m j q:Nat} (hz:z.size=s) (hj:j<m) (hq:q<s):(madeCells z (m*s))[j*s+q]?=z[q]?:=by
 have h1:j*s+q<m*s:=by
  have:=Nat.mul_le_mul_right s (show j+1<=m by omega)
  rw [Nat.succ_mul] at this
  omega
 have h2:(j*s+q)%z.size=q:=by rw [hz,Nat.mul_comm,Nat.mul_add_mod,Nat.mod_eq_of_lt hq]
 have h3:q<z.size:=by omega
 unfold madeCells
 simp [h1,h2,h3]
theorem pD (hT:By P T) {st:St} {a:Act} (h:Ak X π st a w) (dst:Nat) (t:TypeId) (l c:AV) (vl vc:Value) (hl:Ao X w π st.heap l vl) (hc:Ao X w π st.heap c vc) (av:AV) (st':St)
  (he:Xi T st dst t l c=some (av,st')): ∃v' w' π',(Instr.makeSlice t vl vc).run P w= .ok v' w'/\Ak X π' st' a w'/\Ao X w' π' st'.heap av v':=by
 unfold Xi at he
 split at he
 ·rename_i te ZZ k1 n oI k2 m gO
  have:=Ld hl;subst this
  have:=Ld hc;subst this
  split at he
  ·rename_i e Ss
   split at he
   ·rename_i Fk
    obtain ⟨h0,hnm,hz,hdp⟩:=Fk
    obtain ⟨h1,h2⟩:=Ot.1 h0
    subst hnm
    simp only [Option.some.injEq,Prod.mk.injEq] at he
    obtain ⟨rfl,rfl⟩:=he
    obtain ⟨i,hi,Qg,o0,pU⟩:=(hT.ty te e Ss).info
    obtain ⟨z1,z4,z5⟩:=WH (w:=w) (S:=Bj X.w0.heap.size X.Sc π (T.pK||e.flat)) e hz
    have SK:(Au e (Ar e)).cells=(Ar e).toArray:=Gm e _ _ z4
    have hu:=hT.elem t te gO
    have hn:n.toNat<=4294967296:=by unfold Be at h2;omega
    have hr:=run_make (P:=P) (w:=w) t te i _ hu hi pU k1 k2 n n h1 (Int.le_refl _) (by
     have:(i.bytes:Int)*n<=256*4294967296:=by
      obtain ⟨nn,rfl⟩:=Int.eq_ofNat_of_zero_le h1
      have h7:i.bytes*nn<=256*4294967296:=Nat.mul_le_mul o0 (by simpa using hn)
      have h8:((i.bytes*nn:Nat):Int)<=256*4294967296:=by omega
      rwa [Int.natCast_mul] at h8
     omega) (by unfold Be at h2;omega)
    rw [SK,Qg] at hr
    have Vp:((Ar e).toArray).size=e.size:=by simpa using z1
    have cell: ∀j,j<n.toNat-> ∀q u,(Ar e)[q]?=some u->(madeCells (Ar e).toArray (n.toNat*e.size)).toList[j*e.size+q]?=some u:=by
     intro j hj q u hu
     have hq:q<e.size:=by rw [<-z1];exact (List.getElem?_eq_some_iff.1 hu).1
     have:=KH Vp hj hq
     rw [Array.getElem?_toList,this]
     simpa using hu
    have:=bO (w1:=w.alloc (.cells (madeCells (Ar e).toArray (n.toNat*e.size)) te)) h dst hdp (T.pK||e.flat) (T.xK&&e.tree) e te (List.replicate n.toNat e.zero) (madeCells (Ar e).toArray (n.toNat*e.size)).toList (madeCells (Ar e).toArray (n.toNat*e.size)) n.toNat []
     (.inr rfl) (by rw [size_madeCells]) (by unfold maxLen;omega) (by simp)
     (λk u hu=>by
      rw [Array.getElem?_toList] at hu;exact hu) ⟨by simp [size_madeCells],λj x hx=>by
       have hj:=(List.getElem?_eq_some_iff.1 hx).1
       simp only [List.length_replicate] at hj
       refine ⟨Ar e,z1,λq u hu=>cell j hj q u hu,?_⟩
       rw [List.eq_of_mem_replicate (List.mem_of_getElem? hx)];exact z4⟩ (by simp) (λjY=>⟨List.nodup_nil,List.replicate n.toNat [],by simp,by simp,λj x F hx hF=>by
      have hj:=(List.getElem?_eq_some_iff.1 hx).1
      simp only [List.length_replicate] at hj
      refine ⟨Ar e,z1,λq u hu=>cell j hj q u hu,?_⟩
      have e1:=List.eq_of_mem_replicate (List.mem_of_getElem? hx)
      have e2:=List.eq_of_mem_replicate (List.mem_of_getElem? hF)
      rw [e1,e2]
      exact z5 (by simp only [Bool.and_eq_true] at jY;exact jY.2)⟩)
    exact ⟨_,_,_,hr,this.1,this.2 _ (by simp)⟩
   ·cases he
  ·cases he
 ·cases he
theorem dG (off:Nat): ∀(us:List Value) (k:Nat) (cells:List Value),off+k+us.length<=cells.length->
  (us.zipIdx k).foldl (λcs p=>cs.setIfInBounds (off+p.2) p.1) cells.toArray=(Bs cells (off+k) us).toArray
 | [],k,cells,h=>by simp [Bs]
 |u::us,k,cells,h=>by
  simp only [List.zipIdx_cons,List.foldl_cons]
  rw [show cells.toArray.setIfInBounds (off+k) u=(cells.set (off+k) u).toArray by simp]
  rw [dG off us (k+1) (cells.set (off+k) u) (by simp at h⊢;omega)]
  congr 1
  apply List.ext_getElem?
  intro j
  have hl:off+k+(u::us).length<=cells.length:=h
  have s8:off+(k+1)+us.length<=(cells.set (off+k) u).length:=by simp at h⊢;omega
  rw [Ei _ _ _ _ hl,Ei _ _ _ _ s8]
  simp only [List.length_cons]
  by_cases h1:j<off+k
  ·rw [if_pos (by omega),if_pos h1,List.getElem?_set_ne (by omega)]
  ·rw [if_neg h1]
   by_cases h2:j=off+k
   ·subst h2
    rw [if_pos (by omega),if_pos (by omega),List.getElem?_set_self (by simp at h;omega)]
    simp
   ·rw [if_neg (by omega)]
    by_cases h3:j<off+k+(us.length+1)
    ·rw [if_pos (by omega),if_pos h3]
     rw [show j-(off+k)=(j-(off+(k+1)))+1 by omega,List.getElem?_cons_succ]
    ·rw [if_neg (by omega),if_neg h3,List.getElem?_set_ne (by omega)]
theorem u9 (place:Nat->Option (Nat×Nat)) (cells:List Value) (i:Nat) (v:Value) (rest:List (Nat×Value)) (off size:Nat) (us:List Value) (hp:place i=some (off,size)) (hv:v.cells=us.toArray)
  (hl:us.length=size) (hle:off+size<=cells.length):Instr.fill place cells.toArray ((i,v)::rest)=Instr.fill place (Bs cells off us).toArray rest:=by
 simp only [Instr.fill,hp,hv,List.size_toArray,hl]
 rw [if_neg (by simp;omega)]
 congr 1
 have:=dG off us 0 cells (by omega)
 simp only [Nat.add_zero] at this
 rw [<-this]
 simp
theorem Sd (e:Ty) {a:Act} : ∀(parts:List (Nat×Operand)) (i:Nat) (st:St) (π:Pi) (fr tr:Bool) (ys:List e.den) (st':St) (cells:List Value),Ak X π st a w->Gu e i parts st=some (fr,tr,ys,st')->
  (i+parts.length)*e.size<=cells.length->
  ∃π' cl,Ak X π' st' a w/\Flat w (Bj X.w0.heap.size X.Sc π' fr) e cl ys/\ys.length=parts.length/\Gh π π' st.heap st'.heap/\
   Instr.fill (λi=>some (i*e.size,e.size)) cells.toArray (parts.map λp=>(p.1,a.eval p.2))=some (Bs cells (i*e.size) cl).toArray/\
   (tr=true-> ∃Fs,No w e cl ys Fs/\dc X w π' (List.flatten Fs)/\ ∀b∈List.flatten Fs,∃l r,π l=some r/\r.cl b)
 | [],i,st,π,fr,tr,ys,st',cells,h,he,hle=>by
  simp only [Gu,Option.some.injEq,Prod.mk.injEq] at he
  obtain ⟨rfl,rfl,rfl,rfl⟩:=he
  exact ⟨π,[],h,Flat.nil,rfl,Gh.refl _ _,by simp [Instr.fill,Bs],λ_=>⟨[],⟨rfl,λi z F hz=>by simp at hz⟩,⟨List.nodup_nil,by simp⟩,by simp⟩⟩
 |(j,x)::r,i,st,π,fr,tr,ys,st',cells,h,he,hle=>by
  simp only [Gu] at he
  split at he
  ·rename_i dN;subst dN
   split at he
   ·rename_i v' st1 hs
    obtain ⟨Yi,h1,h2,h3,h4,h5⟩:=Yb h (Bq h.2 x) hs
    split at he
    ·rename_i ZZ y hv
     split at he
     ·rename_i oI tr2 zs st2 hr
      simp only [Option.some.injEq,Prod.mk.injEq] at he
      obtain ⟨rfl,rfl,rfl,rfl⟩:=he
      obtain ⟨es,da,EC⟩:=Kj e v' _ ZZ y h3 h2 hv
      have gL:=Cells.len e es y da
      have Amf:i*e.size+e.size<=cells.length:=by
       have:(i+1)*e.size<=(i+((i,x)::r).length)*e.size:=Nat.mul_le_mul_right _ (by simp)
       rw [Nat.add_mul,Nat.one_mul] at this
       omega
      have JQ:i*e.size+es.length<=cells.length:=by omega
      obtain ⟨PQ,cl,g1,g2,g3,g4,g5,g6⟩:=Sd e r (i+1) st1 Yi oI tr2 zs st2 (Bs cells (i*e.size) es) h1 hr (by
       rw [Et _ _ _ JQ]
       rw [show i+1+r.length=i+((i,x)::r).length by simp;omega];exact hle)
      have f1:Flat w (Bj X.w0.heap.size X.Sc PQ ZZ) e es [y]:=⟨by simp [gL],λq z hz=>by
       rcases q with _|q
       ·simp at hz;subst hz
        exact ⟨es,gL,λj u hu=>by simpa using hu,vS g1 g4 e es y da⟩
       ·simp at hz⟩
      refine ⟨PQ,es++cl,g1,?_,by simp [g3],h4.trans g4,?_,λht=>?_⟩
      ·have:=(f1.cells λes z hc=>hc.and_left (f2:=oI)).append (g2.cells λes z hc=>hc.and_right (f1:=ZZ))
       simpa using this
      ·simp only [List.map_cons]
       rw [u9 _ cells i (a.eval x) _ (i*e.size) e.size es rfl (by rw [EC];exact Gm e es y da) gL Amf,g5]
       congr 2
       have Ky:cl.length=r.length*e.size:=by rw [g2.1,g3]
       have Sq:(i+1)*e.size+cl.length<=(Bs cells (i*e.size) es).length:=by
        rw [Et _ _ _ JQ,Ky,<-Nat.add_mul]
        rw [show i+1+r.length=i+((i,x)::r).length by simp;omega];exact hle
       have Agm:i*e.size+(es++cl).length<=cells.length:=by
        rw [Et _ _ _ JQ] at Sq
        rw [List.length_append,gL]
        rw [Nat.add_mul,Nat.one_mul] at Sq
        omega
       have e1:(i+1)*e.size=i*e.size+es.length:=by rw [Nat.add_mul,Nat.one_mul,gL]
       apply List.ext_getElem?
       intro k
       rw [Ei _ _ _ _ Sq,Ei _ _ _ _ Agm,Ei _ _ _ _ JQ,e1,List.length_append]
       by_cases k1:k<i*e.size
       ·rw [if_pos (by omega),if_pos k1,if_pos k1]
       ·rw [if_neg k1,if_neg k1]
        by_cases k2:k<i*e.size+es.length
        ·rw [if_pos k2,if_pos k2,if_pos (by omega),List.getElem?_append_left (by omega)]
        ·rw [if_neg k2,if_neg k2]
         by_cases k3:k<i*e.size+es.length+cl.length
         ·rw [if_pos k3,if_pos (by omega),List.getElem?_append_right (by omega)]
          congr 1;omega
         ·rw [if_neg k3,if_neg (by omega)]
      ·simp only [Bool.and_eq_true] at ht
       obtain ⟨⟨ht1,ht2⟩,ht3⟩:=ht
       obtain ⟨F,us,t1,t2,t3,t7⟩:=h5 ht1 e ZZ y ht2 hv
       obtain ⟨Fs,t4,t5,t6⟩:=g6 ht3
       have SG:us=es:=by
        have c1:=Ax.cells (S:= λ_=>False) F e us y t1 (λ_ _ h=>h)
        have a1:=Gm e us y c1
        have a2:=Gm e es y da
        rw [<-t2,EC,a2] at a1
        simpa using a1.symm
       subst SG
       refine ⟨F::Fs,?_,?_,λb hb=>?_⟩
       ·have k1:No w e us [y] [F]:=⟨rfl,λq z G hz hG=>by
         rcases q with _|q
         ·simp at hz hG;subst hz;subst hG
          exact ⟨us,gL,λj u hu=>by simpa using hu,t1⟩
         ·simp at hz⟩
        exact No.append (by simp [gL]) k1 t4
       ·rw [List.flatten_cons]
        refine ⟨List.nodup_append.2 ⟨t3.1,t5.1,λb hb b' rZ e=>?_⟩,λb hb=>?_⟩
        ·subst e
         obtain ⟨l,r,q1,q2⟩:=t6 b rZ
         exact (t3.2 b hb).2.2 l r q1 q2
        ·rcases List.mem_append.1 hb with hb|hb
         ·have:=t3.2 b hb
          refine ⟨this.1,this.2.1,λl r q1 q2=>?_⟩
          cases hh:Ad st2.heap l with
          |none=>rw [(g1.1.heap l).emp hh] at q1;cases q1
          |some b'=>exact this.2.2 l r ((g4 l b' hh).1▸q1) q2
         ·exact t5.2 b hb
       ·rw [List.flatten_cons] at hb
        rcases List.mem_append.1 hb with hb|hb
        ·exact t7 b hb
        ·obtain ⟨l,r,q1,q2⟩:=t6 b hb
         cases hh:Ad st1.heap l with
         |none=>rw [(h1.1.heap l).emp hh] at q1;cases q1
         |some b'=>exact ⟨l,r,(h4 l b' hh).1▸q1,q2⟩
     ·cases he
    ·cases he
   ·cases he
  ·cases he
theorem dz (hT:By P T) {st:St} {a:Act} (h:Ak X π st a w) (dst:Nat) (t:TypeId) (len:Nat) (parts:Array (Nat×Operand)) (av:AV) (st':St)
  (he:Hv T st dst t len parts=some (av,st')):
  ∃v' w' π',(Instr.buildSlice t len (parts.map λ(i,x)=>(i,a.eval x))).run P w= .ok v' w'/\Ak X π' st' a w'/\Ao X w' π' st'.heap av v':=by
 unfold Hv at he
 split at he
 ·cases he
 ·rename_i te gO
  split at he
  ·cases he
  ·rename_i e Ss
   split at he
   ·rename_i Fk
    obtain ⟨fu,hlen⟩:=Fk
    split at he
    ·rename_i fr tr ys st1 hb
     simp only [Option.some.injEq,Prod.mk.injEq] at he
     obtain ⟨rfl,rfl⟩:=he
     obtain ⟨i,hi,Qg,o0,pU⟩:=(hT.ty te e Ss).info
     have hu:=hT.elem t te gO
     have MA:parts.toList.length=len:=by simpa using fu
     have hz: ∃z:Array Value,(len*e.size=0/\z= #[])\/(¬len*e.size=0/\(zeroValue te).run P w= .ok (Au e (Ar e)) w/\z=(Au e (Ar e)).cells):=by
      by_cases h0:len*e.size=0
      ·exact ⟨#[], .inl ⟨h0,rfl⟩⟩
      ·exact ⟨_, .inr ⟨h0,by simp [zeroValue,typeInfo,hi,pU],rfl⟩⟩
     obtain ⟨z,hz⟩:=hz
     obtain ⟨Yi,cl,g1,g2,g3,g4,g5,g6⟩:=Sd e parts.toList 0 st π fr tr ys st1 ((Array.range (len*e.size)).map (z[· %z.size]!)).toList h hb (by simp [MA])
     have Ky:cl.length=len*e.size:=by rw [g2.1,g3,MA]
     have SF:(Bs ((Array.range (len*e.size)).map (z[· %z.size]!)).toList (0*e.size) cl)=cl:=by
      simp [Bs,Ky]
     rw [SF] at g5
     have Qh:(Instr.buildSlice t len (parts.map λ(i,x)=>(i,a.eval x))).run P w= .ok (.slice (some ⟨w.heap.size,0,none⟩) len len) (w.alloc (.cells cl.toArray te)):=by
      have h24: ¬(len*e.size>2^24):=by
       have:len*e.size<=64*64:=Nat.mul_le_mul hlen.1 hlen.2.1
       omega
      simp only [Instr.buildSlice,Sem.run_bind,run_underlying hu,Result.andThen_ok,(hT.ty te e Ss).size,if_neg h24]
      have e1:(parts.map λ(i,x)=>(i,a.eval x)).toList=parts.toList.map λp=>(p.1,a.eval p.2):=by simp
      simp only [e1]
      have e2:(((Array.range (len*e.size)).map (z[· %z.size]!)).toList.toArray)=(Array.range (len*e.size)).map (z[· %z.size]!):=Array.toArray_toList
      rw [e2] at g5
      rcases hz with ⟨h0,rfl⟩|⟨h0,hz,rfl⟩
      ·rw [if_pos h0]
       simp only [Sem.run_bind,Sem.run_pure,Result.andThen_ok,g5,newRow]
       simp
      ·rw [if_neg h0]
       simp only [Sem.run_bind,Sem.run_pure,Result.andThen_ok,hz,g5,newRow]
       simp
     have hN: ∃N:List Nat,(∀b∈N,(X.w0.heap.size<=b\/X.gv b)/\b<w.heap.size/\ ∀m r0,m≠dst->Yi m=some r0-> ¬r0.cl b)/\(tr=true->N.Nodup/\ ∃Fs,List.flatten Fs=N/\No w e cl ys Fs):=by
      cases tr with
      |false=>exact ⟨[],by simp,λh=>by cases h⟩
      |true=>
       obtain ⟨Fs,t1,t2,_⟩:=g6 rfl
       exact ⟨_,λb hb=>⟨(t2.2 b hb).1,(t2.2 b hb).2.1,λm r0 _=>(t2.2 b hb).2.2 m r0⟩,λ_=>⟨t2.1,Fs,rfl,t1⟩⟩
     obtain ⟨N,q1,q2⟩:=hN
     have:=bO (w1:=w.alloc (.cells cl.toArray te)) g1 dst hlen.2.2 ((T.pK||e.flat)&&fr) (T.xK&&tr) e te ys cl cl.toArray len N (.inr rfl) (by simpa using Ky) (by simp only [maxLen];omega) (by omega) (λk u hu=>by simpa using hu) (g2.cells λes z hc=>hc.and_right) q1 (λht=>q2 (by simp only [Bool.and_eq_true] at ht;exact ht.2))
     exact ⟨_,_,_,Qh,this.1,this.2 _ (by omega)⟩
    ·cases he
   ·cases he
theorem iK {t te:TypeId} {e:Ty} (h:aG T t=some (te,e)):T.elem t=some te/\T.ty te=some (.slice e):=by
 unfold aG at h
 cases he:T.elem t with
 |none=>rw [he] at h;cases h
 |some Mf=>
  rw [he] at h
  simp only [Option.bind_some] at h
  cases hg:T.JK Mf with
  |none=>rw [hg] at h;cases h
  |some e'=>
   rw [hg] at h
   simp only [Option.map_some,Option.some.injEq,Prod.mk.injEq] at h
   obtain ⟨rfl,rfl⟩:=h
   refine ⟨rfl,?_⟩
   unfold Tab.JK at hg
   split at hg
   ·split at hg
    ·rename_i Ss;simp only [Option.some.injEq] at hg;subst hg;exact Ss
    ·cases hg
   ·cases hg
theorem jw (w:World) (o:Obj):Gg w.heap.size (λ_=>False) w (w.alloc o):=⟨rfl,rfl,rfl,by simp,λk hk _=>Below.heap_alloc w _ k hk⟩
theorem mP (w:World) (o:Obj):Gg w.heap.size (λ_=>False) w (w.drew.alloc o):=⟨rfl,rfl,rfl,by simp,λk hk _=>Below.heap_alloc w.drew _ k hk⟩
theorem nX (hT:By P T) {st:St} {a:Act} (h:Ak X π st a w) (dst:Nat) (t:TypeId) (l c:AV) (vl vc:Value) (hl:Ao X w π st.heap l vl) (hc:Ao X w π st.heap c vc) (av:AV) (st':St)
  (he:Sn T st dst t l c=some (av,st')): ∃v' w' π',(Instr.makeSlice t vl vc).run P w= .ok v' w'/\Ak X π' st' a w'/\Ao X w' π' st'.heap av v':=by
 unfold Sn at he
 split at he
 ·exact pD hT h dst t l c vl vc hl hc av st' he
 ·rename_i te e hg
  obtain ⟨gO,Ss⟩:=iK hg
  split at he
  ·rename_i ZZ k1 n oI k2 m
   have:=Ld hl;subst this
   have:=Ld hc;subst this
   split at he
   ·rename_i Fk
    obtain ⟨h0,hnm,hdp⟩:=Fk
    obtain ⟨h1,h2⟩:=Ot.1 h0
    subst hnm
    simp only [Option.some.injEq,Prod.mk.injEq] at he
    obtain ⟨rfl,rfl⟩:=he
    obtain ⟨i,hi,Qg,o0,pU⟩:=(hT.ty te _ Ss).info
    have hu:=hT.elem t te gO
    have hn:n.toNat<=4294967296:=by unfold Be at h2;omega
    have hr:=run_make (P:=P) (w:=w) t te i _ hu hi pU k1 k2 n n h1 (Int.le_refl _) (by
     have:(i.bytes:Int)*n<=256*4294967296:=by
      obtain ⟨nn,rfl⟩:=Int.eq_ofNat_of_zero_le h1
      have h7:i.bytes*nn<=256*4294967296:=Nat.mul_le_mul o0 (by simpa using hn)
      have h8:((i.bytes*nn:Nat):Int)<=256*4294967296:=by omega
      rwa [Int.natCast_mul] at h8
     omega) (by unfold Be at h2;omega)
    have SK:(Au (Ty.slice e) (Ar (Ty.slice e))).cells= #[.slice none 0 0]:=by simp [Au,Ty.Ac,Ar,Value.cells]
    have bD:(Ty.slice e).size=1:=rfl
    rw [SK,Qg,bD] at hr
    have cell: ∀j,j<n.toNat->(madeCells #[Value.slice none 0 0] (n.toNat*1))[0+j]?=some (.slice none 0 0):=by
     intro j hj
     have:=KH (z:= #[Value.slice none 0 0]) (s:=1) (m:=n.toNat) (j:=j) (q:=0) rfl hj (by omega)
     simp only [Nat.mul_one,Nat.add_zero] at this
     simp only [Nat.mul_one,Nat.zero_add]
     rw [this];rfl
    obtain ⟨π',g1,g2⟩:=Uh (w1:=w.alloc (.cells (madeCells #[Value.slice none 0 0] (n.toNat*1)) te)) (gv:= λ_=>False) h hdp hdp te (e:=e) (rows:=List.replicate n.toNat []) (us:=List.replicate n.toNat (.slice none 0 0)) (Rs:=List.replicate n.toNat none) (g:=w.heap.size) (o:=0) (cap:=n.toNat)
     (λ_ hf=>hf.elim) (jw w _) ⟨.inl (Nat.le_refl _),by simp⟩ (heap_alloc_new w _) (by rw [size_madeCells];omega) (by unfold maxLen;omega) (by simp) (λj u hu=>by
      have hj:=(List.getElem?_eq_some_iff.1 hu).1
      simp only [List.length_replicate] at hj
      rw [cell j hj,List.eq_of_mem_replicate (List.mem_of_getElem? hu)])
     ⟨by simp,by simp,λi j q q' h1=>(by have:=List.eq_of_mem_replicate (List.mem_of_getElem? h1);cases this),λi x hx=>by
      have hj:=(List.getElem?_eq_some_iff.1 hx).1
      simp only [List.length_replicate] at hj
      rw [List.eq_of_mem_replicate (List.mem_of_getElem? hx)]
      exact ⟨.slice none 0 0,none,by rw [List.getElem?_replicate,if_pos hj],by rw [List.getElem?_replicate,if_pos hj],⟨rfl,rfl,rfl⟩,rfl⟩⟩
     (λi q h1=>by have:=List.eq_of_mem_replicate (List.mem_of_getElem? h1);cases this)
    exact ⟨_,_,π',hr,g1,g2 _ (by simp)⟩
   ·cases he
  ·cases he
theorem cU (hT:By P T) {st:St} {a:Act} (h:Ak X π st a w) (dst:Nat) (t:TypeId) (len:Nat) (parts:Array (Nat×Operand)) (av:AV) (st':St)
  (he:Eu T st dst t len parts=some (av,st')):
  ∃v' w' π',(Instr.buildSlice t len (parts.map λ(i,x)=>(i,a.eval x))).run P w= .ok v' w'/\Ak X π' st' a w'/\Ao X w' π' st'.heap av v':=by
 unfold Eu at he
 split at he
 ·exact dz hT h dst t len parts av st' he
 ·rename_i te e hg
  obtain ⟨gO,Ss⟩:=iK hg
  split at he
  rotate_left
  ·cases he
  rename_i x Acv
  split at he
  rotate_left
  ·cases he
  rename_i m off ln hx
  split at he
  rotate_left
  ·cases he
  rename_i fr tr e' tid xs hm
  split at he
  rotate_left
  ·cases he
  rename_i hc
  obtain ⟨rfl,hc,rfl,rfl⟩:=hc
  simp only [Bool.and_eq_true,Nat.blt_eq] at hc
  obtain ⟨hlen,hdp,WU⟩:=hc
  have hlen:len=1:=Nat.eq_of_beq_eq_true hlen
  subst hlen
  simp only [Option.some.injEq,Prod.mk.injEq] at he
  obtain ⟨rfl,rfl⟩:=he
  have hu:=hT.elem t te gO
  unfold St.at at hm
  have hrx:=Bq h.2 x
  rw [hx] at hrx
  obtain ⟨_,s9⟩:=Jv (X:=X) (w:=w) hrx hm
  obtain ⟨ax,nx,cx,YE⟩:=Wj s9
  have hp:parts= #[(0,x)]:=by apply Array.ext';simpa using Acv
  subst hp
  obtain ⟨i,hi,Qg,o0,pU⟩:=(hT.ty te _ Ss).info
  have Qh:(Instr.buildSlice t 1 (#[(0,x)].map λ(i,x)=>(i,a.eval x))).run P w= .ok (.slice (some ⟨w.heap.size,0,none⟩) 1 1) (w.alloc (.cells #[a.eval x] te)):=by
   have bD:(Ty.slice e').size=1:=rfl
   have hz:(zeroValue te).run P w= .ok (.slice none 0 0) w:=by simp [zeroValue,typeInfo,hi,pU,Au,Ty.Ac,Ar]
   have WU:(#[(0,x)].map λ(i,x)=>(i,a.eval x))= #[(0, .slice ax nx cx)]:=by simp [YE]
   rw [WU,YE]
   simp only [Instr.buildSlice,Sem.run_bind,run_underlying hu,Result.andThen_ok,(hT.ty te _ Ss).size,bD]
   simp [Value.cells,Instr.fill,newRow,hz]
   congr 2
   apply Array.ext
   ·simp
   ·intro i h1 h2
    have h0:i=0:=by simpa using h2
    subst h0
    simp
  have CP:=(h.1.heap m).Md hm
  simp only [Av,Fv] at CP
  have hfa:Nq w (Bj X.w0.heap.size X.Sc π false) (π m) e' xs:=by
   cases hR:π m with
   |none=>rw [hR] at CP;exact CP
   |some q=>
    rw [hR] at CP
    obtain ⟨⟨f0,f0',_⟩,cu,WX,f2,f3,f4,f5,f6,_⟩:=CP
    exact ⟨⟨f0,f0'⟩,cu,WX,f2,f3,f4,f5,λp y hy=>by
     obtain ⟨es,g1,g2,g3⟩:=f6 p y hy
     exact ⟨es,g1,g2,Cells.Cn (Nat.le_refl _) (λ_ _ _=>rfl) (λb _ hA=>hA.imp id (Or.imp id λ⟨h1,_⟩=>by cases h1)) e' es y g3⟩⟩
  obtain ⟨π',g1,g2⟩:=Uh (w1:=w.alloc (.cells #[a.eval x] te)) (gv:= λ_=>False) h hdp WU te (e:=e') (rows:= [xs]) (us:= [a.eval x]) (Rs:= [π m]) (g:=w.heap.size) (o:=0) (cap:=1)
   (λ_ hf=>hf.elim) (jw w _) ⟨.inl (Nat.le_refl _),by simp⟩ (heap_alloc_new w _) rfl (by unfold maxLen;omega) (by simp) (λj u hu=>by
    rcases j with _|j
    ·simpa using hu
    ·simp at hu)
   ⟨rfl,rfl,λi j q q' h1 h2 _=>by
    rcases i with _|i
    ·rcases j with _|j
     ·rfl
     ·simp at h2
    ·simp at h1,λi y hy=>by
    rcases i with _|i
    ·simp only [List.getElem?_cons_zero,Option.some.injEq] at hy
     subst hy
     exact ⟨_,_,rfl,rfl,s9,hfa⟩
    ·simp at hy⟩
   (λi q h1=>by
    rcases i with _|i
    ·simp only [List.getElem?_cons_zero,Option.some.injEq] at h1
     have hf:=h.1.Bg h1
     have:=(h.1.place m q _ h1 (h.1.sub m q _ h1 hf)).2
     exact ⟨by omega,λh=>h,m,q, .inr rfl,h1,hf⟩
    ·simp at h1)
  exact ⟨_,_,π',Qh,g1,g2 1 rfl⟩
theorem jG (hT:By P T) {st:St} {a:Act} (h:Ak X π st a w) (dst:Nat) (t ty:TypeId) (x y:Operand) (av:AV) (st':St) (he:Mk T st dst t x y=some (av,st')):
  ∃v' w' π',(Builtin.append_ #[t,t] ty #[a.eval x,a.eval y]).run P w= .ok v' w'/\Ak X π' st' a w'/\Ao X w' π' st'.heap av v':=by
 unfold Mk at he
 split at he
 ·exact jF hT h dst t ty x y av st' he
 ·rename_i te e hg
  obtain ⟨gO,Ss⟩:=iK hg
  split at he
  rotate_left
  ·cases he
  rename_i l off len m TU qh hx hy
  split at he
  rotate_left
  ·cases he
  rename_i e1 te1 A kp1 e2 tw B kp2 hl hm
  split at he
  rotate_left
  ·cases he
  rename_i hc
  obtain ⟨⟨rfl,rfl⟩,hc,⟨rfl,rfl⟩,⟨rfl,rfl⟩,hB,lL⟩:=hc
  simp only [Bool.and_eq_true,Nat.blt_eq,decide_eq_true_eq,Bool.not_eq_true'] at hc
  obtain ⟨⟨rfl,rfl⟩,pY,WU,gg⟩:=hc
  have gg:m≠l:= λe=>by rw [e,Nat.beq_refl] at gg;cases gg
  simp only [Option.some.injEq,Prod.mk.injEq] at he
  obtain ⟨rfl,rfl⟩:=he
  have hu:=hT.elem t tw gO
  obtain ⟨i,hi,Qg,o0,pU⟩:=(hT.ty tw _ Ss).info
  have Qg:i.size=1:=Qg
  unfold St.at at hl hm
  have hrx:=Bq h.2 x
  have hry:=Bq h.2 y
  rw [hx] at hrx;rw [hy] at hry
  obtain ⟨b1,s1,n1,q1,q2,_,hox⟩:=hrx
  rw [hl] at q1;cases q1
  simp only [OB.row,Option.some.injEq,Prod.mk.injEq] at q2
  obtain ⟨rfl,rfl⟩:=q2
  obtain ⟨b2,s2,n2,q1,q2,_,hoy⟩:=hry
  rw [hm] at q1;cases q1
  simp only [OB.row,Option.some.injEq,Prod.mk.injEq] at q2
  obtain ⟨rfl,rfl⟩:=q2
  have hA:=((h.1.heap l).Md hl).1
  have hBb:=((h.1.heap m).Md hm).1
  cases RY:π m with
  |none=>
   rw [RY] at hBb
   have hBb:B= []:=hBb
   subst hBb;simp at hB
  |some rB=>
  rw [RY] at hBb hoy
  obtain ⟨fB,Aq0,tiB,uB,RB,w1B,w2B,w3B,w4B,w5B,w6B,w7B,LB⟩:=ud hBb
  obtain ⟨adB,hvy,hcB,haB⟩:=hoy
  have haB:=haB (by omega)
  subst haB
  have hlB:=LB.1
  have n1':uB.length=B.length*i.size:=by rw [Qg,Nat.mul_one];exact hlB
  have n2': ∀j u,uB[j]?=some u->w.cell? ((⟨rB.g,(rB.o+0)*1,none⟩:Addr).add j)=some u:= λj u hu=>by
   rw [Addr.add_lit,cellOf w1B,Nat.mul_one,Nat.add_zero];exact w5B j u hu
  have pQ:(A.length+B.length)*i.bytes<=140737488355328:=by
   have:(A.length+B.length)*i.bytes<=4294967296*256:=Nat.mul_le_mul lL o0
   omega
  have dQ:A.length+B.length<=maxLen:=by unfold Be at lL;simp only [maxLen];omega
  have hzs:(Au (Ty.slice e2) (Ar (Ty.slice e2))).cells.size=1:=by simp [Au,Ty.Ac,Ar,Value.cells]
  have Qv: ∀(k:Nat) (q:Real) (Rs:List (Option Real)),π k=some q->(∀(i:Nat) (p:Real),Rs[i]?=some (some p)->q.Bg p.g/\p.g≠q.g)-> ∀(i:Nat) (p:Real),Rs[i]?=some (some p)->p.g<w.heap.size:= λk q Rs h1 h2 i p h3=>
   (h.1.place k q _ h1 (h.1.sub k q _ h1 (h2 i p h3).1)).2
  cases fu:π l with
  |none=>
   rw [fu] at hA hox
   have hA:A= []:=hA
   subst hA
   obtain ⟨YE,_,_⟩:=hox
   rw [YE,hvy]
   simp only [List.length_nil,Nat.zero_add,List.nil_append] at lL pQ dQ⊢
   have hr:=run_append_nil (P:=P) w t ty tw i _ hu hi pU ⟨rB.g,(rB.o+0)*1,none⟩ B.length (rB.cap-0) uB n1' n2' hB (by simp only [maxLen] at dQ;omega) (by omega)
   have lh:=grownCap_ge w B.length 0 tw
   have XR:=grownCap_le_maxLen w B.length 0 tw (by omega)
   obtain ⟨π',g1,g2⟩:=Uh (w1:=w.drew.alloc (.cells (uB.toArray++Builtin.zeroCells (Au (Ty.slice e2) (Ar (Ty.slice e2))).cells (grownCap w B.length 0 tw-B.length)) tw)) (gv:= λ_=>False) h pY WU tw (e:=e2) (rows:=B) (us:=uB) (Rs:=RB) (g:=w.heap.size) (o:=0) (cap:=grownCap w B.length 0 tw)
    (λ_ hf=>hf.elim) (mP w _) ⟨.inl (Nat.le_refl _),by simp⟩ (heap_alloc_new w.drew _) (by rw [Array.size_append,List.size_toArray,Ow,hzs];omega) XR lh (λj u hu=>by
     have hj:=(List.getElem?_eq_some_iff.1 hu).1
     rw [Nat.zero_add,Array.getElem?_append_left (by simpa using hj)];simpa using hu)
    LB (λi q h1=>⟨by have:=Qv m rB RB RY w7B i q h1;omega,λh=>h,m,rB, .inr rfl,RY,(w7B i q h1).1⟩)
   exact ⟨_,_,π',hr,g1,g2 _ rfl⟩
  |some rA=>
   rw [fu] at hA hox
   obtain ⟨fA,LQ,tiA,uA,RA,w1A,w2A,w3A,w4A,w5A,w6A,w7A,LA⟩:=ud hA
   obtain ⟨adA,YE,hcA,haA⟩:=hox
   have hlA:=LA.1
   rw [YE,hvy]
   have apart: ∀(i j:Nat) (q q':Real),RA[i]?=some (some q)->RB[j]?=some (some q')->q.g≠q'.g:= λi j q q' h1 h2 e=>by
    have:=h.1.apart fu RY (w7A i q h1).1 (e▸(w7B j q' h2).1)
    exact gg this.symm
   have LAB:=oX.append LA LB apart
   have Ek: ∀(i:Nat) (q:Real),RB[i]?=some (some q)->q.g≠rA.g:= λi q h1 e=>gg (h.1.apart RY fu (w7B i q h1).1 (e▸fA))
   have hRs: ∀(i:Nat) (q:Real),(RA++RB)[i]?=some (some q)->q.g≠rA.g/\q.g<w.heap.size/\ ∃k p,(k=l\/k=m)/\π k=some p/\p.Bg q.g:= λi q h1=>by
    by_cases hi:i<RA.length
    ·rw [List.getElem?_append_left hi] at h1
     exact ⟨(w7A i q h1).2,Qv l rA RA fu w7A i q h1,l,rA, .inl rfl,fu,(w7A i q h1).1⟩
    ·rw [List.getElem?_append_right (by omega)] at h1
     exact ⟨Ek _ q h1,Qv m rB RB RY w7B _ q h1,m,rB, .inr rfl,RY,(w7B _ q h1).1⟩
   by_cases zh:A.length+B.length<=rA.cap-0
   ·have haA:=haA (by omega)
    subst haA
    have Sq:(rA.o+0)*1+A.length*i.size+uB.length<=LQ.size:=by rw [Qg];omega
    have Uj:(rA.o+0)*1+A.length*i.size+uB.length<=LQ.toList.length:=by simpa using Sq
    have hr:=Vs (P:=P) (w:=w) (ty:=ty) hu hi rA.g ((rA.o+0)*1) A.length (rA.cap-0) LQ tiA w1A ⟨rB.g,(rB.o+0)*1,none⟩ B.length (rB.cap-0) uB n1' n2' w6B zh Sq
    have pS:=Jb w rA.g (Bs LQ.toList ((rA.o+0)*1+A.length*i.size) uB).toArray
    obtain ⟨π',g1,g2⟩:=Uh (w1:=w.setRow rA.g (Bs LQ.toList ((rA.o+0)*1+A.length*i.size) uB).toArray) (gv:= λb=>b=rA.g) h pY WU tw (e:=e2) (rows:=A++B) (us:=uA++uB) (Rs:=RA++RB) (g:=rA.g) (o:=rA.o) (cap:=rA.cap)
     (λb hb=>⟨l,rA, .inl rfl,fu,hb▸fA⟩) ⟨pS.os,pS.tape,pS.output,pS.size,λc _ hc=>setRow_other w rA.g c _ hc⟩ ⟨.inr ⟨l,rA, .inl rfl,fu,fA⟩,Nat.lt_of_lt_of_le (Dd w1A) pS.size⟩
     (setRow_heap w rA.g LQ _ tiA _ w1A) (by rw [List.size_toArray,Et _ _ _ Uj,Array.length_toList];exact w2A) w3A (by simp;omega) (λj u hu=>by
      rw [List.getElem?_toArray,Ei _ _ _ _ Uj,Qg]
      by_cases hj:j<uA.length
      ·rw [List.getElem?_append_left hj] at hu
       rw [if_pos (by omega),Array.getElem?_toList]
       exact w5A j u hu
      ·rw [List.getElem?_append_right (by omega)] at hu
       have:=(List.getElem?_eq_some_iff.1 hu).1
       rw [if_neg (by omega),if_pos (by omega)]
       rw [show rA.o+j-((rA.o+0)*1+A.length*1)=j-uA.length by omega]
       exact hu)
     LAB (λi q h1=>⟨(hRs i q h1).1,(hRs i q h1).1,(hRs i q h1).2.2⟩)
    have:=g2 (A.length+B.length) (by simp)
    have e0:(rA.o+0)*1=rA.o:=by omega
    simp only [e0,Nat.sub_zero] at hr g1 this⊢
    exact ⟨_,_,π',hr,g1,this⟩
   ·have hold: ∀j u,uA[j]?=some u->w.cell? (adA.add j)=some u:=by
     intro j u hu
     have hj:=(List.getElem?_eq_some_iff.1 hu).1
     rw [haA (by omega),Addr.add_lit,cellOf w1A,Nat.mul_one,Nat.add_zero];exact w5A j u hu
    have hr:=run_append_grow (P:=P) w t ty tw i _ hu hi pU adA A.length (rA.cap-0) uA (by rw [Qg,Nat.mul_one];exact hlA) hold ⟨rB.g,(rB.o+0)*1,none⟩ B.length (rB.cap-0) uB n1' n2' (by omega) (by simp only [maxLen] at dQ;omega) (growslice_fits (by omega) pQ)
    have lh:=grownCap_ge w (A.length+B.length) (rA.cap-0) tw
    have XR:=grownCap_le_maxLen w (A.length+B.length) (rA.cap-0) tw dQ
    obtain ⟨π',g1,g2⟩:=Uh (w1:=w.drew.alloc (.cells (uA.toArray++uB.toArray++Builtin.zeroCells (Au (Ty.slice e2) (Ar (Ty.slice e2))).cells (grownCap w (A.length+B.length) (rA.cap-0) tw-(A.length+B.length))) tw)) (gv:= λ_=>False) h pY WU tw (e:=e2) (rows:=A++B) (us:=uA++uB) (Rs:=RA++RB) (g:=w.heap.size) (o:=0) (cap:=grownCap w (A.length+B.length) (rA.cap-0) tw)
     (λ_ hf=>hf.elim) (mP w _) ⟨.inl (Nat.le_refl _),by simp⟩ (heap_alloc_new w.drew _) (by rw [Array.size_append,Array.size_append,List.size_toArray,List.size_toArray,Ow,hzs];omega) XR (by simpa using lh) (λj u hu=>by
      have hj:=(List.getElem?_eq_some_iff.1 hu).1
      rw [Nat.zero_add,Array.getElem?_append_left (by simpa using hj)];simpa using hu)
     LAB (λi q h1=>⟨by have:=(hRs i q h1).2.1;omega,λh=>h,(hRs i q h1).2.2⟩)
    exact ⟨_,_,π',hr,g1,g2 _ (by simp)⟩
theorem iu: ∀τ:Ty,Da X w π H (zeroCells τ) (Ar τ):=by
 have one: ∀(c:AC) (v:Value),v.oneCell'=true->Dv X w π H c v->Da X w π H [c] [v]:= λc v h1 h2=>⟨rfl,λi c' hc=>by
  rcases i with _|i
  ·simp at hc;subst hc;exact ⟨v,rfl,h1,h2⟩
  ·simp at hc⟩
 intro τ
 induction τ with
 |unit=>exact ⟨rfl,λi c hc=>by simp [zeroCells] at hc⟩
 |pair a r jm fv=>
  refine ⟨by simp [zeroCells,Ar,jm.1,fv.1],λi c hc=>?_⟩
  simp only [zeroCells] at hc
  simp only [Ar]
  by_cases hi:i<(zeroCells a).length
  ·rw [List.getElem?_append_left hi] at hc
   obtain ⟨u,hu,h⟩:=jm.2 i c hc
   exact ⟨u,by rw [List.getElem?_append_left (by rw [jm.1];exact hi)];exact hu,h⟩
  ·rw [List.getElem?_append_right (by omega)] at hc
   obtain ⟨u,hu,h⟩:=fv.2 _ c hc
   exact ⟨u,by rw [List.getElem?_append_right (by rw [jm.1];omega),jm.1];exact hu,h⟩
 |int k=>exact one (.data true _ _) _ rfl (Jo (H:=H) k 0 true)
 |bool=>exact one (.data true _ _) _ rfl (Ik (H:=H) false true)
 |str=>exact one (.data true _ _) _ rfl (lV (H:=H) ByteArray.empty true)
 |slice e=>exact one _ _ rfl rfl
 |oslice e=>exact one _ _ rfl rfl
 |ptr e=>exact one _ _ rfl rfl
 |optr e=>exact one _ _ rfl rfl
 |smap v=>exact one (.data true _ _) _ rfl ⟨[.map none], .inl ⟨rfl,rfl⟩,by simp [Au,Ty.Ac]⟩
 |clo f c=>exact one .undef .nilFunc rfl trivial
theorem ao (hT:By P T) {st:St} {a:Act} (h:Ak X π st a w) (t:TypeId) (Hi:Array (Nat×Nat))
  (fu: ∀f o u ρ,T.off t f=some (o,u)->T.ty u=some ρ->Hi[f]?=some (o,ρ.size)): ∀(parts:List (Nat×Operand)) (cs dx:List AC) (us:List Value),Da X w π st.heap cs us->
  Hu T st t parts cs=some dx-> ∃Rn:List Value,Instr.fill (λi=>Hi[i]?) us.toArray (parts.map λp=>(p.1,a.eval p.2))=some Rn.toArray/\Da X w π st.heap dx Rn
 | [],cs,dx,us,hr,he=>by
  simp only [Hu,Option.some.injEq] at he;subst he
  exact ⟨us,rfl,hr⟩
 |(f,x)::r,cs,dx,us,hr,he=>by
  simp only [Hu] at he
  split at he
  ·rename_i o u ho
   split at he
   ·rename_i ρ hρ
    split at he
    ·rename_i c hc
     split at he
     ·rename_i hle
      obtain ⟨vs,hv,hl,SC⟩:=dm (Bq h.2 x) hc
      have e1:=hr.1
      have e2:=SC.1
      obtain ⟨Rn,g1,g2⟩:=ao hT h t Hi fu r _ dx _ (rF hr SC o hle) he
      refine ⟨Rn,?_,g2⟩
      simp only [List.map_cons]
      rw [u9 _ us f (a.eval x) _ o ρ.size vs (fu f o u ρ ho hρ) hv hl (by omega)]
      exact g1
     ·cases he
    ·cases he
   ·cases he
  ·cases he
theorem cA (hT:By P T) {st:St} {a:Act} (h:Ak X π st a w) (t:TypeId) (parts:Array (Nat×Operand)) (av:AV) (he:Sk T st t parts=some av):
  ∃v',(Instr.build t (parts.map λ(i,x)=>(i,a.eval x))).run P w= .ok v' w/\Ao X w π st.heap av v':=by
 unfold Sk at he
 split at he
 ·cases he
 ·rename_i τ Ss
  split at he
  ·rename_i hs
   cases hb:Hu T st t parts.toList (zeroCells τ) with
   |none=>rw [hb] at he;cases he
   |some dx=>
    rw [hb] at he
    simp only [Option.map_some,Option.some.injEq] at he;subst he
    obtain ⟨fs,Hi,h1,h2,h3⟩:=hT.fill t τ Ss hs
    obtain ⟨i,hi,Qg,o0,pU⟩:=(hT.ty t τ Ss).info
    obtain ⟨Rn,g1,g2⟩:=ao hT h t Hi h3 parts.toList (zeroCells τ) dx (Ar τ) (iu τ) hb
    refine ⟨.agg Rn.toArray,?_,Rn,rfl,g2⟩
    have hz:(zeroValue t).run P w= .ok (Au τ (Ar τ)) w:=by simp [zeroValue,typeInfo,hi,pU]
    have SK:(Au τ (Ar τ)).cells=(Ar τ).toArray:=by simp [Au,hs,Value.cells]
    have h2':=h2 w
    unfold placesOf at h2'
    have e1:(parts.map λ(i,x)=>(i,a.eval x)).toList=parts.toList.map λp=>(p.1,a.eval p.2):=by simp
    simp only [Instr.build,Sem.run_bind,hz,Result.andThen_ok,run_underlying h1,h2',SK,e1,g1,Sem.run_pure]
  ·cases he
theorem qY {st:St} {v:AV} (h:v.settled=true):settle st v=some (v,st):=by
 cases v with
 | «at»a=>cases a<;>simp [AV.settled,AC.settled] at h<;>simp [settle,AC.settled]
 |agg cs=>
  have hs:cs.all (·.settled)=true:=h
  have:Dr cs.length st cs=some (cs,st):=by
   cases hn:cs.length with
   |zero=>simp [Dr,hs]
   |succ n=>
    have hf:cs.find? (λc=>!c.settled)=none:=List.find?_eq_none.2 λc hc=>by simpa using List.all_eq_true.1 hs c hc
    simp [Dr,hf]
  simp [settle,this]
 |Xa fr τ x=>rfl
 |Ih l=>simp [AV.settled] at h
theorem kx {e:Ty} {st:St} : ∀(parts:List (Nat×Operand)) (i:Nat) (fr:Bool) (ys:List e.den),bQ e i parts st=some (fr,ys)-> ∃tr,Gu e i parts st=some (fr,tr,ys,st)
 | [],i,fr,ys,h=>by
  simp only [bQ,Option.some.injEq,Prod.mk.injEq] at h
  obtain ⟨rfl,rfl⟩:=h
  exact ⟨true,rfl⟩
 |(j,x)::r,i,fr,ys,h=>by
  simp only [bQ] at h
  split at h
  ·rename_i hc
   split at h
   ·rename_i f1 y f2 zs h1 h2
    simp only [Option.some.injEq,Prod.mk.injEq] at h
    obtain ⟨rfl,rfl⟩:=h
    obtain ⟨tr,h3⟩:=kx r (i+1) f2 zs h2
    refine ⟨Oc st (st.ev x)&&e.tree&&tr,?_⟩
    simp only [Gu]
    rw [if_pos hc.1,qY hc.2]
    simp only [h1,h3]
   ·cases h
  ·cases h
theorem lC (hT:By P T) {st:St} {a:Act} (h:Ak X π st a w) (t:TypeId) (len:Nat) (parts:Array (Nat×Operand)) (av:AV) (he:Xh T st t len parts=some av):
  ∃v' w' π',(Instr.buildSlice t len (parts.map λ(i,x)=>(i,a.eval x))).run P w= .ok v' w'/\Ak X π' st a w'/\Ao X w' π' st.heap av v':=by
 unfold Xh at he
 split at he
 ·cases he
 ·rename_i te gO
  split at he
  ·cases he
  ·rename_i e Ss
   split at he
   ·rename_i Fk
    obtain ⟨fu,hlen⟩:=Fk
    cases hp:bQ e 0 parts.toList st with
    |none=>rw [hp] at he;cases he
    |some p=>
     obtain ⟨fr,ys⟩:=p
     rw [hp] at he
     simp only [Option.map_some,Option.some.injEq] at he
     subst he
     obtain ⟨tr,hb⟩:=kx _ _ _ _ hp
     obtain ⟨i,hi,Qg,o0,pU⟩:=(hT.ty te e Ss).info
     have hu:=hT.elem t te gO
     have MA:parts.toList.length=len:=by simpa using fu
     have hz: ∃z:Array Value,(len*e.size=0/\z= #[])\/(¬len*e.size=0/\(zeroValue te).run P w= .ok (Au e (Ar e)) w/\z=(Au e (Ar e)).cells):=by
      by_cases h0:len*e.size=0
      ·exact ⟨#[], .inl ⟨h0,rfl⟩⟩
      ·exact ⟨_, .inr ⟨h0,by simp [zeroValue,typeInfo,hi,pU],rfl⟩⟩
     obtain ⟨z,hz⟩:=hz
     obtain ⟨Yi,cl,g1,g2,g3,g4,g5,g6⟩:=Sd e parts.toList 0 st π fr tr ys st ((Array.range (len*e.size)).map (z[· %z.size]!)).toList h hb (by simp [MA])
     have Ky:cl.length=len*e.size:=by rw [g2.1,g3,MA]
     have SF:(Bs ((Array.range (len*e.size)).map (z[· %z.size]!)).toList (0*e.size) cl)=cl:=by
      simp [Bs,Ky]
     rw [SF] at g5
     have Qh:(Instr.buildSlice t len (parts.map λ(i,x)=>(i,a.eval x))).run P w= .ok (.slice (some ⟨w.heap.size,0,none⟩) len len) (w.alloc (.cells cl.toArray te)):=by
      have h24: ¬(len*e.size>2^24):=by
       have:len*e.size<=64*64:=Nat.mul_le_mul hlen.1 hlen.2
       omega
      simp only [Instr.buildSlice,Sem.run_bind,run_underlying hu,Result.andThen_ok,(hT.ty te e Ss).size,if_neg h24]
      have e1:(parts.map λ(i,x)=>(i,a.eval x)).toList=parts.toList.map λp=>(p.1,a.eval p.2):=by simp
      simp only [e1]
      have e2:(((Array.range (len*e.size)).map (z[· %z.size]!)).toList.toArray)=(Array.range (len*e.size)).map (z[· %z.size]!):=Array.toArray_toList
      rw [e2] at g5
      rcases hz with ⟨h0,rfl⟩|⟨h0,hz,rfl⟩
      ·rw [if_pos h0]
       simp only [Sem.run_bind,Sem.run_pure,Result.andThen_ok,g5,newRow]
       simp
      ·rw [if_neg h0]
       simp only [Sem.run_bind,Sem.run_pure,Result.andThen_ok,hz,g5,newRow]
       simp
     have XP:(w.alloc (.cells cl.toArray te)).heap[w.heap.size]?=some (.cells cl.toArray te (0,0)):=heap_alloc_new w _
     have hB:Below w.heap.size w (w.alloc (.cells cl.toArray te)):=(Below.refl _ _).alloc (Nat.le_refl _) _
     have Ey:=Dd XP
     refine ⟨_,_,Yi,Qh,g1.quiet hB,⟨[_],?_,rfl⟩⟩
     refine ⟨some ⟨w.heap.size,0,none⟩,len,len,rfl,by rw [g3,MA],Nat.le_refl _, .inr ⟨w.heap.size,0,rfl,Ey,λhA=>?_,λk x hx=>?_⟩⟩
     ·rcases hA with hA|hA|⟨_,hA⟩
      ·exact absurd (g1.1.own hA).1 (Nat.lt_irrefl _)
      ·exact absurd (Nat.lt_of_lt_of_le (g1.1.sc _ hA).1 g1.1.below.size) (Nat.lt_irrefl _)
      ·exact absurd (Nat.lt_of_lt_of_le hA g1.1.below.size) (Nat.lt_irrefl _)
     ·obtain ⟨es,k1,k2,k3⟩:=g2.2 k x hx
      refine ⟨es,k1,λj u hu=>?_,Cells.Cn hB.size (λb hb _=>hB.block b hb) (λ_ _ h=>h) e es x k3⟩
      rw [cellOf XP,Nat.zero_add]
      simpa using k2 j u hu
   ·cases he
theorem yN {Γ:Env} (hT:By P T) (Kn:Gq P Γ) {st:St} {a:Act} (h:Ak X π st a w) (o:Oper) (av:AV) (he:Rv T Γ st o=some av):
  dd P X st a w av ((execOp a.eval o).run P w):=by
 obtain ⟨dst,op,ty,pos,af,gd⟩:=o
 have val: ∀(s:Sem Value) (v:Value) (w':World) (π':Pi),s.run P w= .ok v w'->Ak X π' st a w'->Ao X w' π' st.heap av v->(execOp a.eval ⟨dst,op,ty,pos,af,gd⟩=do pure (.value (<-s)))->
   dd P X st a w av ((execOp a.eval ⟨dst,op,ty,pos,af,gd⟩).run P w):=by
  intro s v w' π' h1 h2 h3 h4
  rw [h4,Sem.run_bind,h1]
  exact ⟨π',h2,h3⟩
 have quiet:Cm T Γ st ⟨dst,op,ty,pos,af,gd⟩=some av->dd P X st a w av ((execOp a.eval ⟨dst,op,ty,pos,af,gd⟩).run P w):=by
  intro hq
  have:=dB hT Kn h _ av hq
  generalize (execOp a.eval ⟨dst,op,ty,pos,af,gd⟩).run P w=r at*
  cases r with
  |halt x w'=>exact this
  |ok n w'=>
   cases n<;>simp only [IN] at this<;>simp only [dd]
   ·obtain ⟨rfl,hr⟩:=this
    exact ⟨π,h,hr⟩
   ·obtain ⟨rfl,hc⟩:=this
    exact ⟨rfl,hc.mono λe nR ⟨v,hv,hb,hr⟩=>⟨v,hv,π,h.quiet hb,hr⟩⟩
 unfold Rv at he
 split at he
 ·rename_i t len parts oM
  dsimp only at oM;subst oM
  obtain ⟨v,w',π',h1,h2,h3⟩:=lC hT h t len parts av he
  exact val _ v w' π' h1 h2 h3 rfl
 ·rename_i t parts oM
  dsimp only at oM;subst oM
  obtain ⟨v',h1,h2⟩:=cA hT h t parts av he
  exact val _ v' w π h1 h h2 rfl
 ·exact quiet he
theorem gX {a:Act} : ∀(l:List Operand) {π:Pi} {st st1:St},Ak X π st a w->Kg l st=some st1-> ∃π',Ak X π' st1 a w
 | [],π,st,st1,h,he=>by
  simp only [Kg,Option.some.injEq] at he
  subst he
  exact ⟨π,h⟩
 |x::r,π,st,st1,h,he=>by
  simp only [Kg] at he
  cases hs:settle st (st.ev x) with
  |none=>rw [hs] at he;cases he
  |some p=>
   rw [hs] at he
   obtain ⟨Yi,h1,_⟩:=Yb h (Bq h.2 x) hs
   exact gX r h1 he
theorem vY {Γ:Env} (hT:By P T) (Kn:Gq P Γ) {st:St} {a:Act} (h:Ak X π st a w) (o:Oper) (av:AV) (st':St) (he:evalOp T Γ st o=some (av,st')):
  dd P X st' a w av ((execOp a.eval o).run P w):=by
 have quiet: ∀ {π:Pi} {st:St},Ak X π st a w->(Cm T Γ st o).map (λv=>(v,st))=some (av,st')->dd P X st' a w av ((execOp a.eval o).run P w):=by
  intro π st h he
  cases hq:Cm T Γ st o with
  |none=>rw [hq] at he;cases he
  |some v=>
   rw [hq] at he
   simp only [Option.map_some,Option.some.injEq,Prod.mk.injEq] at he
   obtain ⟨rfl,rfl⟩:=he
   have:=dB hT Kn h o v hq
   generalize (execOp a.eval o).run P w=r at*
   cases r with
   |halt x w'=>exact this
   |ok n w'=>
    cases n<;>simp only [IN] at this<;>simp only [dd]
    ·obtain ⟨rfl,hr⟩:=this
     exact ⟨π,h,hr⟩
    ·obtain ⟨rfl,hc⟩:=this
     exact ⟨rfl,hc.mono λe nR ⟨v,hv,hb,hr⟩=>⟨v,hv,π,h.quiet hb,hr⟩⟩
 obtain ⟨dst,op,ty,pos,af,gd⟩:=o
 have val: ∀(s:Sem Value) (v:Value) (w':World) (π':Pi),s.run P w= .ok v w'->Ak X π' st' a w'->Ao X w' π' st'.heap av v->(execOp a.eval ⟨dst,op,ty,pos,af,gd⟩=do pure (.value (<-s)))->
   dd P X st' a w av ((execOp a.eval ⟨dst,op,ty,pos,af,gd⟩).run P w):=by
  intro s v w' π' h1 h2 h3 h4
  rw [h4,Sem.run_bind,h1]
  exact ⟨π',h2,h3⟩
 unfold evalOp at he
 split at he
 all_goals (rename_i oM;dsimp only at oM;try subst oM)
 ·
  rename_i x
  split at he
  ·rename_i d te e hx hd ht
   split at he
   ·rename_i hdp
    simp only [Option.some.injEq,Prod.mk.injEq] at he
    obtain ⟨rfl,rfl⟩:=he
    obtain ⟨k1,k2,_⟩:=qt h d hdp (T.pK||e.flat) T.xK te e
    have SJ:=Bq h.2 x
    rw [hx] at SJ
    have hxv:a.eval x= .slice none 0 0:=SJ
    show dd P X _ a w _ (.ok (.value (a.eval x)) w)
    rw [hxv]
    exact ⟨_,k1,k2⟩
   ·cases he
  ·simp only [Option.some.injEq,Prod.mk.injEq] at he
   obtain ⟨rfl,rfl⟩:=he
   exact ⟨π,h,Bq h.2 x⟩
 ·
  rename_i t
  split at he
  ·rename_i d τ hd ht
   obtain ⟨i,hi,Qg,o0,pU⟩:=(hT.ty t τ ht).info
   obtain ⟨π',k1,k2⟩:=nv h d t τ (zeroCells τ) (Ar τ) (iu τ) av st' he
   have SK:(Au τ (Ar τ)).cells=(Ar τ).toArray:=by
    cases τ<;>simp [Au,Ty.Ac,Value.cells,Ar]
   refine val (Instr.alloc t true (.tuple #[])) _ _ π' ?_ k1 k2 rfl
   simp [Instr.alloc,zeroValue,typeInfo,hi,pU,newVar,newRow,SK]
  ·cases he
 ·
  rename_i t x
  split at he
  ·rename_i d τ hd ht
   split at he
   ·rename_i cs hc
    obtain ⟨us,hv,hl,hr⟩:=dm (Bq h.2 x) hc
    obtain ⟨π',k1,k2⟩:=nv h d t τ cs us hr av st' he
    refine val (Instr.box t (a.eval x)) _ _ π' ?_ k1 k2 rfl
    simp [Instr.box,newVar,newRow,hv]
   ·cases he
  ·cases he
 ·
  rename_i t p x
  cases hs:Kw T st t (st.ev p) (st.ev x) with
  |none=>rw [hs] at he;cases he
  |some s=>
   rw [hs] at he
   simp only [Option.map_some,Option.some.injEq,Prod.mk.injEq] at he
   obtain ⟨rfl,rfl⟩:=he
   obtain ⟨w',π',h1,h2⟩:=lG hT h t _ _ _ _ (Bq h.2 p) (Bq h.2 x) s hs
   have:(execOp a.eval ⟨dst, .store t p x,ty,pos,af,gd⟩).run P w= .ok .skip w':=by
    show (do Instr.storeAt t (a.eval p) (a.eval x);pure Next.skip:Sem Next).run P w=_
    rw [Sem.run_bind,h1];rfl
   rw [this]
   exact ⟨π',h2,trivial⟩
 ·
  rename_i t l c
  split at he
  ·rename_i d hd
   obtain ⟨v,w',π',h1,h2,h3⟩:=nX hT h d t _ _ _ _ (Bq h.2 l) (Bq h.2 c) av st' he
   exact val _ v w' π' h1 h2 h3 rfl
  ·cases he
 ·
  rename_i t
  split at he
  ·rename_i d hd
   obtain ⟨v,w',π',h1,h2,h3⟩:=jJ hT h d t av st' he
   exact val _ v w' π' h1 h2 h3 rfl
  ·cases he
 ·
  rename_i t m k x
  cases hs:Ex T st t (st.ev m) (st.ev k) (st.ev x) with
  |none=>rw [hs] at he;cases he
  |some s=>
   rw [hs] at he
   simp only [Option.map_some,Option.some.injEq,Prod.mk.injEq] at he
   obtain ⟨rfl,rfl⟩:=he
   obtain ⟨w',h1,h2⟩:=az hT h t _ _ _ _ _ _ (Bq h.2 m) (Bq h.2 k) (Bq h.2 x) s hs
   have:(execOp a.eval ⟨dst, .mapUpdate t m k x,ty,pos,af,gd⟩).run P w= .ok .skip w':=by
    show (do Instr.mapUpdate t (a.eval m) (a.eval k) (a.eval x);pure Next.skip:Sem Next).run P w=_
    rw [Sem.run_bind,h1];rfl
   rw [this]
   exact ⟨π,h2,trivial⟩
 ·
  rename_i t m k x
  cases hs:Ex T st t (st.ev m) (st.ev k) (st.ev x) with
  |none=>rw [hs] at he;cases he
  |some s=>
   rw [hs] at he
   simp only [Option.map_some,Option.some.injEq,Prod.mk.injEq] at he
   obtain ⟨rfl,rfl⟩:=he
   obtain ⟨w',h1,h2⟩:=az hT h t _ _ _ _ _ _ (Bq h.2 m) (Bq h.2 k) (Bq h.2 x) s hs
   have:(execOp a.eval ⟨dst, .insert t m k x,ty,pos,af,gd⟩).run P w= .ok .skip w':=by
    show (do Instr.mapUpdate t (a.eval m) (a.eval k) (a.eval x);pure Next.skip:Sem Next).run P w=_
    rw [Sem.run_bind,h1];rfl
   rw [this]
   exact ⟨π,h2,trivial⟩
 ·
  rename_i t len parts
  split at he
  ·rename_i d hd
   obtain ⟨v,w',π',h1,h2,h3⟩:=cU hT h d t len parts av st' he
   exact val _ v w' π' h1 h2 h3 rfl
  ·cases he
 ·
  rename_i t parts
  cases hb:Sk T st t parts with
  |none=>rw [hb] at he;cases he
  |some v=>
   rw [hb] at he
   simp only [Option.map_some,Option.some.injEq,Prod.mk.injEq] at he
   obtain ⟨rfl,rfl⟩:=he
   obtain ⟨v',h1,h2⟩:=cA hT h t parts v hb
   exact val _ v' w π h1 h h2 rfl
 ·
  rename_i args ts
  split at he
  ·rename_i d x y t t' hd Ma q7
   split at he
   ·rename_i Qk;subst Qk
    have e1:args= #[x,y]:=by apply Array.ext';simpa using Ma
    have e2:ts= #[t,t]:=by apply Array.ext';simpa using q7
    subst e1;subst e2
    obtain ⟨v,w',π',h1,h2,h3⟩:=jG hT h d t ty x y av st' he
    refine val (Builtin.append_ #[t,t] ty #[a.eval x,a.eval y]) v w' π' h1 h2 h3 ?_
    simp [execOp,resolve,invoke,builtin]
   ·cases he
  ·cases he
 ·
  rename_i args ts
  split at he
  ·rename_i x y t t' Ma q7
   have e1:args= #[x,y]:=by apply Array.ext';simpa using Ma
   have e2:ts= #[t,t']:=by apply Array.ext';simpa using q7
   subst e1;subst e2
   obtain ⟨v,w',h1,h2,h3⟩:=pA hT h t t' ty _ _ _ _ (Bq h.2 x) (Bq h.2 y) av st' he
   refine val (Builtin.copy_ #[t,t'] ty #[a.eval x,a.eval y]) v w' π h1 h2 h3 ?_
   simp [execOp,resolve,invoke,builtin]
  ·cases he
 ·
  rename_i args ts
  split at he
  ·rename_i x t Ma q7
   have e1:args= #[x]:=by apply Array.ext';simpa using Ma
   have e2:ts= #[t]:=by apply Array.ext';simpa using q7
   subst e1;subst e2
   cases hs:evalClear T st t (st.ev x) with
   |none=>rw [hs] at he;cases he
   |some s=>
    rw [hs] at he
    simp only [Option.map_some,Option.some.injEq,Prod.mk.injEq] at he
    obtain ⟨rfl,rfl⟩:=he
    obtain ⟨v,w',h1,h2⟩:=nW hT h t ty _ _ (Bq h.2 x) s hs
    refine val (Builtin.clear_ #[t] ty #[a.eval x]) v w' π h1 h2 trivial ?_
    simp [execOp,resolve,invoke,builtin]
  ·cases he
 ·
  rename_i f args ts
  split at he
  ·rename_i s Ahw
   have hs:Ay P f s:=Kn f _ Ahw
   have:=nV h hs dst (args.toList.map st.ev) (args.toList.map a.eval) (by simp) (λi c v=>eu h args.toList i c v) av st' he
   rw [ez a.eval f args ts dst ty pos af gd rfl hs.enter]
   refine ⟨rfl,?_⟩
   rwa [show (args.toList.map a.eval).toArray=args.map a.eval from by apply Array.ext';simp] at this
  ·rename_i s Ahw
   split at he
   ·cases hs:Kg args.toList st with
    |none=>rw [hs] at he;cases he
    |some st1=>
     rw [hs] at he
     obtain ⟨Yi,h1⟩:=gX args.toList h hs
     exact quiet h1 he
   ·exact quiet h he
  ·exact quiet h he
 ·exact quiet h he
end
end Go.Proofs.YtfolipnappekaaaGreat
