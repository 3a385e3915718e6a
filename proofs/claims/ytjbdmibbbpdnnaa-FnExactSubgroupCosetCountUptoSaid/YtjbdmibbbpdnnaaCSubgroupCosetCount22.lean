/-
  Part 23 of the proof that the statement FnExactSubgroupCosetCount holds.
-/
import Derived.Test.YtjbdmibbbpdnnaaCSubgroupCosetCount21
namespace Go.Proofs.Ytjbdmibbbpdnnaa
open Go.RowKit
section
variable {P:Program} {T:Tab} {X:Ctx} {w w':World} {π:Pi} {H:List (Nat×OB)}
theorem oN {π':Pi} {st':St} {a:Act} (h:Ae X π' st' a w) (k:Fk π π' H st'.heap) {fr:Bool} (τ:Ty) (cs:List Value) (x:τ.den) (hc:Cells w (Ax X.w0.heap.size X.Sc π fr) τ cs x):
  Cells w (Ax X.w0.heap.size X.Sc π' fr) τ cs x:=
 Cells.Ch (Nat.le_refl _) (λ_ _ _=>rfl) (λb _ hA=>by
  rcases hA with ⟨l,r,hl,hg⟩|h2
  ·have hh:=h.1.heap l
   cases hb:Ad st'.heap l with
   |none=>have:=hh.emp hb;rw [this] at hl;cases hl
   |some b'=>have:=(k l b' hb).1;rw [this] at hl;exact .inl ⟨l,r,hl,hg⟩
  ·exact .inr h2) τ cs x hc
theorem a6.drop {F:List Nat} {l:Nat} (h:a6 X w π F):a6 X w (Ny π l none) F:=
 ⟨h.1,λb hb=>⟨(h.2 b hb).1,(h.2 b hb).2.1,λm r hm=>by
  by_cases e:m=l
  ·subst e;rw [Cp] at hm;cases hm
  ·rw [Co π none e] at hm;exact (h.2 b hb).2.2 m r hm⟩⟩
theorem kS {st:St} {a:Act} (h:Ae X π st a w) (l:Nat) (hl:l<Ag) (f0 t0:Bool) (te:TypeId) (e:Ty):
  Ae X (Ny π l none) (st.new l (.arr f0 t0 e te [])) a w/\Ak X w (Ny π l none) (st.new l (.arr f0 t0 e te [])).heap (.at (.own l 0 0)) (.slice none 0 0)/\
   ∀fr τ cs x,Cells w (Ax X.w0.heap.size X.Sc π fr) τ cs x->Cells w (Ax X.w0.heap.size X.Sc (Ny π l none) fr) τ cs x:=
 ⟨h.replace l hl none _ (Iw w _) (λr hr=>by cases hr) (λ_=>rfl),
  sG (St.Cy st l _) (Nat.le_refl _) (by rw [Cp];exact ⟨rfl,rfl,rfl⟩),
  fun fr τ cs x hc=>Cells.Ch (Nat.le_refl _) (λ_ _ _=>rfl) (λb _ hA=>by
  rcases hA with ⟨m,r,hm,hg⟩|h2
  ·by_cases e:m=l
   ·subst e;rw [Cp] at hm;cases hm
   ·rw [Co π none e] at hm;exact .inl ⟨m,r,hm,hg⟩
  ·exact .inr h2) τ cs x hc⟩
theorem Oj (hT:Bt P T) {st:St} {a:Act} (h:Ae X π st a w) (dst:Nat) (t ty:TypeId) (x y:Operand) (av:AV) (st':St) (he:Hp T st dst t x y=some (av,st')):
  ∃v' w' π',(Builtin.append_ #[t,t] ty #[a.eval x,a.eval y]).run P w= .ok v' w'/\Ae X π' st' a w'/\Ak X w' π' st'.heap av v':=by
 unfold Hp at he
 split at he
 ·cases he
 ·rename_i te cH
  split at he
  ·rename_i e y' st1 Ov hs
   obtain ⟨Tq,h1,h2,h3,h4,h5⟩:=Tl h (Bh h.2 y) hs
   split at he
   ·cases he
   ·rename_i jt ys hv
    dsimp only at he
    have xi: ∀tr2,tr2=(e.flat||(Lk st (st.ev y)&&e.tree))->tr2=true->e.flat=true\/ ∃F,Ay w F (.slice e) [a.eval y] ys/\a6 X w Tq F:=by
     intro tr2 e2 eU
     subst e2
     cases SO:e.flat with
     |true=>exact .inl rfl
     |false=>
     right
     simp only [SO,Bool.false_or,Bool.and_eq_true] at eU
     obtain ⟨F,us,f1,f2,f3,_⟩:=h5 eU.1 (.slice e) jt ys eU.2 hv
     have AL:us= [a.eval y]:=by
      simp only [Ay] at f1
      obtain ⟨a0,len,cap,rfl,_⟩:=f1
      rw [f2];simp [Am,Ty.Ab]
     rw [AL] at f1
     exact ⟨F,f1,f3⟩
    have hyc:Cells w (Ax X.w0.heap.size X.Sc Tq jt) (.slice e) [a.eval y] ys:=Aw.Kk rfl (Ip _ y' _ jt ys h3 h2 hv)
    have KQ:=Bh h1.2 x
    split at he
    ·rename_i hx
     rw [hx] at KQ
     have TJ:a.eval x= .slice none 0 0:=KQ
     split at he
     ·rename_i gi
      simp only [Option.some.injEq,Prod.mk.injEq] at he
      obtain ⟨rfl,rfl⟩:=he
      obtain ⟨k1,k2,k3⟩:=kS h1 dst gi.2 (T.lX||e.flat) T.qR te e
      have:=eo (ty:=ty) hT k1 cH Ov gi.2 (fr3:=jt||e.flat) (tr2:=e.flat||(Lk st (st.ev y)&&e.tree)) rfl (St.Cy st1 dst _) k2 (k3 _ _ _ _ hyc) (by rw [Nat.zero_add];exact gi.1) (λht=>by
       rcases xi _ rfl ht with h0|⟨F,f1,f2⟩
       ·exact .inl h0
       ·exact .inr ⟨F,f1,f2.drop⟩)
      rw [<-TJ] at this
      exact this
     ·cases he
    ·rename_i l off len hx
     rw [hx] at KQ
     split at he
     ·rename_i fr tr e' tid xs hl
      split at he
      ·rename_i Eo
       obtain ⟨rfl,rfl⟩:=Eo
       split at he
       ·rename_i gi
        simp only [Option.some.injEq,Prod.mk.injEq] at he
        obtain ⟨rfl,rfl⟩:=he
        exact eo (ty:=ty) hT h1 cH Ov gi.2 (fr3:=jt||e'.flat) (tr2:=e'.flat||(Lk st (st.ev y)&&e'.tree)) rfl hl KQ hyc gi.1 (xi _ rfl)
       ·cases he
      ·cases he
     ·cases he
    ·cases he
  ·cases he
theorem eD (hT:Bt P T) {st:St} {a:Act} (h:Ae X π st a w) (dst:Nat) (t ty:TypeId) (x y:Operand) (av:AV) (st':St) (he:Kf T st dst t x y=some (av,st')):
  ∃v' w' π',(Builtin.append_ #[t,t] ty #[a.eval x,a.eval y]).run P w= .ok v' w'/\Ae X π' st' a w'/\Ak X w' π' st'.heap av v':=by
 unfold Kf at he
 split at he
 ·rename_i tx
  split at he
  ·rename_i l i c hg
   split at he
   ·rename_i e te rows kp tid hl _
    split at he
    ·rename_i hc
     simp only [Bool.and_eq_true,Nat.blt_eq,Bool.not_eq_true'] at hc
     have cj:dst≠l:= λe=>by rw [e,Nat.beq_refl] at hc;cases hc.2.2
     unfold St.at at hl
     have hv:Dg X w π st.heap (.sub l i c) (a.tmps.getD tx undef):=by
      have:=h.2.tmps tx
      rw [hg] at this
      exact this
     obtain ⟨Tq,h1,h2⟩:=uF (tid:=tid) h hl cj hc.2.1 hc.1 hv
     have h3:=h1.put (some tx) (c:= .at (.own dst 0 (rows.getD i []).length)) h2
     have PV:a.put (some tx) (a.tmps.getD tx undef)=a:=by
      have:a.tmps.setIfInBounds tx (a.tmps.getD tx undef)=a.tmps:=by
       apply Array.ext_getElem?
       intro k
       rw [Array.getElem?_setIfInBounds]
       split
       ·rename_i e
        subst e
        split
        ·rename_i Gp
         rw [Array.getElem?_eq_getElem Gp];simp
        ·rename_i Gp
         rw [Array.getElem?_eq_none (by omega)]
       ·rfl
      simp only [Act.put,this]
     rw [PV] at h3
     exact Oj hT h3 dst t ty (.tmp tx) y av st' he
    ·cases he
   ·cases he
  ·exact Oj hT h dst t ty _ y av st' he
 ·exact Oj hT h dst t ty x y av st' he
theorem wI {S:Nat->Prop} {e:Ty} (h:ed e=true): ∃z,Al e= [z]/\e.Ab=false/\e.size=1/\Cells w S e [z] e.zero/\z.oneCell'=true:=by
 cases e<;>simp [ed] at h
 ·exact ⟨_,rfl,rfl,rfl,rfl,rfl⟩
 ·exact ⟨_,rfl,rfl,rfl,rfl,rfl⟩
 ·exact ⟨_,rfl,rfl,rfl,rfl,rfl⟩
 ·exact ⟨_,rfl,rfl,rfl,⟨none,0,0,rfl,rfl,Nat.le_refl _, .inl rfl⟩,rfl⟩
 ·exact ⟨_,rfl,rfl,rfl, .inl ⟨rfl,0,rfl⟩,rfl⟩
theorem u7 {e:Ty} {z:Value} (ht:e.tree=true) (h:ed e=true) (hz:Al e= [z]):Ay w [] e [z] e.zero:=by
 cases e<;>simp [ed] at h<;>simp only [Al,List.cons.injEq,and_true] at hz<;>subst hz<;>try (simp [Ty.tree] at ht;done)
 ·exact ⟨rfl,rfl⟩
 ·exact ⟨rfl,rfl⟩
 ·exact ⟨rfl,rfl⟩
 ·exact ⟨none,0,0,rfl,rfl,Nat.le_refl _, .inl ⟨rfl,rfl,rfl,rfl⟩⟩
theorem DF {S:Nat->Prop} : ∀(e:Ty),Yw e=true->(Al e).length=e.size/\Cells w S e (Al e) e.zero/\(e.tree=true->Ay w [] e (Al e) e.zero):=by
 intro e
 induction e with
 |unit=>intro _;exact ⟨rfl,rfl,λ_=>⟨rfl,rfl⟩⟩
 |pair a r ef bY=>
  intro h
  simp only [Yw,Bool.and_eq_true] at h
  obtain ⟨a1,a2,a3⟩:=ef h.1
  obtain ⟨r1,r2,r3⟩:=bY h.2
  exact ⟨by simp [Al,Ty.size,a1,r1],⟨_,_,rfl,a2,r2⟩,λht=>by simp only [Ty.tree,Bool.and_eq_true] at ht;exact ⟨_,_,[],[],rfl,rfl,a3 ht.1,r3 ht.2⟩⟩
 |_=>
  intro h
  simp only [Yw] at h
  obtain ⟨z,z1,z2,z3,z4,_⟩:=wI (w:=w) (S:=S) h
  exact ⟨by rw [z1,z3];rfl,by rw [z1];exact z4,λht=>by rw [z1];exact u7 ht h z1⟩
theorem xo {z:Array Value} {s m j q:Nat} (hz:z.size=s) (hj:j<m) (hq:q<s):(madeCells z (m*s))[j*s+q]?=z[q]?:=by
 have h1:j*s+q<m*s:=by
  have:=Nat.mul_le_mul_right s (show j+1<=m by omega)
  rw [Nat.succ_mul] at this
  omega
 have h2:(j*s+q)%z.size=q:=by rw [hz,Nat.mul_comm,Nat.mul_add_mod,Nat.mod_eq_of_lt hq]
 have h3:q<z.size:=by omega
 unfold madeCells
 simp [h1,h2,h3]
theorem kc (hT:Bt P T) {st:St} {a:Act} (h:Ae X π st a w) (dst:Nat) (t:TypeId) (l c:AV) (vl vc:Value) (hl:Ak X w π st.heap l vl) (hc:Ak X w π st.heap c vc) (av:AV) (st':St)
  (he:Ss T st dst t l c=some (av,st')): ∃v' w' π',(Instr.makeSlice t vl vc).run P w= .ok v' w'/\Ae X π' st' a w'/\Ak X w' π' st'.heap av v':=by
 unfold Ss at he
 split at he
 ·rename_i te GP k1 n jt k2 m cH
  have:=Jb hl;subst this
  have:=Jb hc;subst this
  split at he
  ·rename_i e Ov
   split at he
   ·rename_i Eo
    obtain ⟨h0,PB,hz,HF⟩:=Eo
    obtain ⟨h1,h2⟩:=Lw.1 h0
    subst PB
    simp only [Option.some.injEq,Prod.mk.injEq] at he
    obtain ⟨rfl,rfl⟩:=he
    obtain ⟨i,hi,Mx,ja,kz⟩:=(hT.ty te e Ov).info
    obtain ⟨z1,z4,z5⟩:=DF (w:=w) (S:=Ax X.w0.heap.size X.Sc π (T.lX||e.flat)) e hz
    have AM:(Am e (Al e)).cells=(Al e).toArray:=Fo e _ _ z4
    have hu:=hT.elem t te cH
    have hn:n.toNat<=4294967296:=by unfold Bq at h2;omega
    have hr:=run_make (P:=P) (w:=w) t te i _ hu hi kz k1 k2 n n h1 (Int.le_refl _) (by
     have:(i.bytes:Int)*n<=256*4294967296:=by
      obtain ⟨nn,rfl⟩:=Int.eq_ofNat_of_zero_le h1
      have h7:i.bytes*nn<=256*4294967296:=Nat.mul_le_mul ja (by simpa using hn)
      have h8:((i.bytes*nn:Nat):Int)<=256*4294967296:=by omega
      rwa [Int.natCast_mul] at h8
     omega) (by unfold Bq at h2;omega)
    rw [AM,Mx] at hr
    have Nx:((Al e).toArray).size=e.size:=by simpa using z1
    have cell: ∀j,j<n.toNat-> ∀q u,(Al e)[q]?=some u->(madeCells (Al e).toArray (n.toNat*e.size)).toList[j*e.size+q]?=some u:=by
     intro j hj q u hu
     have hq:q<e.size:=by rw [<-z1];exact (List.getElem?_eq_some_iff.1 hu).1
     have:=xo Nx hj hq
     rw [Array.getElem?_toList,this]
     simpa using hu
    have:=Xz (w1:=w.alloc (.cells (madeCells (Al e).toArray (n.toNat*e.size)) te)) h dst HF (T.lX||e.flat) (T.qR&&e.tree) e te (List.replicate n.toNat e.zero) (madeCells (Al e).toArray (n.toNat*e.size)).toList (madeCells (Al e).toArray (n.toNat*e.size)) n.toNat []
     (.inr rfl) (by rw [size_madeCells]) (by unfold maxLen;omega) (by simp)
     (λk u hu=>by
      rw [Array.getElem?_toList] at hu;exact hu) ⟨by simp [size_madeCells],λj x hx=>by
       have hj:=(List.getElem?_eq_some_iff.1 hx).1
       simp only [List.length_replicate] at hj
       refine ⟨Al e,z1,λq u hu=>cell j hj q u hu,?_⟩
       rw [List.eq_of_mem_replicate (List.mem_of_getElem? hx)];exact z4⟩ (by simp) (λeU=>⟨List.nodup_nil,List.replicate n.toNat [],by simp,by simp,λj x F hx hF=>by
      have hj:=(List.getElem?_eq_some_iff.1 hx).1
      simp only [List.length_replicate] at hj
      refine ⟨Al e,z1,λq u hu=>cell j hj q u hu,?_⟩
      have e1:=List.eq_of_mem_replicate (List.mem_of_getElem? hx)
      have e2:=List.eq_of_mem_replicate (List.mem_of_getElem? hF)
      rw [e1,e2]
      exact z5 (by simp only [Bool.and_eq_true] at eU;exact eU.2)⟩)
    exact ⟨_,_,_,hr,this.1,this.2 _ (by simp)⟩
   ·cases he
  ·cases he
 ·cases he
theorem aD (off:Nat): ∀(us:List Value) (k:Nat) (cells:List Value),off+k+us.length<=cells.length->
  (us.zipIdx k).foldl (λcs p=>cs.setIfInBounds (off+p.2) p.1) cells.toArray=(Bi cells (off+k) us).toArray
 | [],k,cells,h=>by simp [Bi]
 |u::us,k,cells,h=>by
  simp only [List.zipIdx_cons,List.foldl_cons]
  rw [show cells.toArray.setIfInBounds (off+k) u=(cells.set (off+k) u).toArray by simp]
  rw [aD off us (k+1) (cells.set (off+k) u) (by simp at h⊢;omega)]
  congr 1
  apply List.ext_getElem?
  intro j
  have hl:off+k+(u::us).length<=cells.length:=h
  have EN:off+(k+1)+us.length<=(cells.set (off+k) u).length:=by simp at h⊢;omega
  rw [Dn _ _ _ _ hl,Dn _ _ _ _ EN]
  simp only [List.length_cons]
  by_cases h1:j<off+k
  ·rw [if_pos (by omega),if_pos h1,List.getElem?_set_ne (by omega)]
  ·rw [if_neg h1]
   by_cases h2:j=off+k
   ·subst h2
    rw [if_pos (by omega),if_pos (by omega),List.getElem?_set_self (by simp at h;omega)]
    simp
   ·rw [if_neg (by omega)]
    by_cases h3:j<off+k+(us.length+1)
    ·rw [if_pos (by omega),if_pos h3]
     rw [show j-(off+k)=(j-(off+(k+1)))+1 by omega,List.getElem?_cons_succ]
    ·rw [if_neg (by omega),if_neg h3,List.getElem?_set_ne (by omega)]
theorem nw (place:Nat->Option (Nat×Nat)) (cells:List Value) (i:Nat) (v:Value) (rest:List (Nat×Value)) (off size:Nat) (us:List Value) (hp:place i=some (off,size)) (hv:v.cells=us.toArray)
  (hl:us.length=size) (hle:off+size<=cells.length):Instr.fill place cells.toArray ((i,v)::rest)=Instr.fill place (Bi cells off us).toArray rest:=by
 simp only [Instr.fill,hp,hv,List.size_toArray,hl]
 rw [if_neg (by simp;omega)]
 congr 1
 have:=aD off us 0 cells (by omega)
 simp only [Nat.add_zero] at this
 rw [<-this]
 simp
theorem Oh (e:Ty) {a:Act} : ∀(parts:List (Nat×Operand)) (i:Nat) (st:St) (π:Pi) (fr tr:Bool) (ys:List e.den) (st':St) (cells:List Value),Ae X π st a w->Fu e i parts st=some (fr,tr,ys,st')->
  (i+parts.length)*e.size<=cells.length->
  ∃π' cl,Ae X π' st' a w/\Flat w (Ax X.w0.heap.size X.Sc π' fr) e cl ys/\ys.length=parts.length/\Fk π π' st.heap st'.heap/\
   Instr.fill (λi=>some (i*e.size,e.size)) cells.toArray (parts.map λp=>(p.1,a.eval p.2))=some (Bi cells (i*e.size) cl).toArray/\
   (tr=true-> ∃Fs,Ky w e cl ys Fs/\a6 X w π' (List.flatten Fs)/\ ∀b∈List.flatten Fs,∃l r,π l=some r/\r.cl b)
 | [],i,st,π,fr,tr,ys,st',cells,h,he,hle=>by
  simp only [Fu,Option.some.injEq,Prod.mk.injEq] at he
  obtain ⟨rfl,rfl,rfl,rfl⟩:=he
  exact ⟨π,[],h,Flat.nil,rfl,Fk.refl _ _,by simp [Instr.fill,Bi],λ_=>⟨[],⟨rfl,λi z F hz=>by simp at hz⟩,⟨List.nodup_nil,by simp⟩,by simp⟩⟩
 |(j,x)::r,i,st,π,fr,tr,ys,st',cells,h,he,hle=>by
  simp only [Fu] at he
  split at he
  ·rename_i dH;subst dH
   split at he
   ·rename_i v' st1 hs
    obtain ⟨Tq,h1,h2,h3,h4,h5⟩:=Tl h (Bh h.2 x) hs
    split at he
    ·rename_i GP y hv
     split at he
     ·rename_i jt tr2 zs RJ hr
      simp only [Option.some.injEq,Prod.mk.injEq] at he
      obtain ⟨rfl,rfl,rfl,rfl⟩:=he
      obtain ⟨es,Wx,uO⟩:=Ip e v' _ GP y h3 h2 hv
      have eR:=Cells.len e es y Wx
      have WL:i*e.size+e.size<=cells.length:=by
       have:(i+1)*e.size<=(i+((i,x)::r).length)*e.size:=Nat.mul_le_mul_right _ (by simp)
       rw [Nat.add_mul,Nat.one_mul] at this
       omega
      have xb:i*e.size+es.length<=cells.length:=by omega
      obtain ⟨zl,cl,g1,g2,g3,g4,g5,g6⟩:=Oh e r (i+1) st1 Tq jt tr2 zs RJ (Bi cells (i*e.size) es) h1 hr (by
       rw [Eb _ _ _ xb]
       rw [show i+1+r.length=i+((i,x)::r).length by simp;omega];exact hle)
      have f1:Flat w (Ax X.w0.heap.size X.Sc zl GP) e es [y]:=⟨by simp [eR],λq z hz=>by
       rcases q with _|q
       ·simp at hz;subst hz
        exact ⟨es,eR,λj u hu=>by simpa using hu,oN g1 g4 e es y Wx⟩
       ·simp at hz⟩
      refine ⟨zl,es++cl,g1,?_,by simp [g3],h4.trans g4,?_,λht=>?_⟩
      ·have:=(f1.cells λes z hc=>hc.and_left (f2:=jt)).append (g2.cells λes z hc=>hc.and_right (f1:=GP))
       simpa using this
      ·simp only [List.map_cons]
       rw [nw _ cells i (a.eval x) _ (i*e.size) e.size es rfl (by rw [uO];exact Fo e es y Wx) eR WL,g5]
       congr 2
       have Nz:cl.length=r.length*e.size:=by rw [g2.1,g3]
       have Ot:(i+1)*e.size+cl.length<=(Bi cells (i*e.size) es).length:=by
        rw [Eb _ _ _ xb,Nz,<-Nat.add_mul]
        rw [show i+1+r.length=i+((i,x)::r).length by simp;omega];exact hle
       have OM:i*e.size+(es++cl).length<=cells.length:=by
        rw [Eb _ _ _ xb] at Ot
        rw [List.length_append,eR]
        rw [Nat.add_mul,Nat.one_mul] at Ot
        omega
       have e1:(i+1)*e.size=i*e.size+es.length:=by rw [Nat.add_mul,Nat.one_mul,eR]
       apply List.ext_getElem?
       intro k
       rw [Dn _ _ _ _ Ot,Dn _ _ _ _ OM,Dn _ _ _ _ xb,e1,List.length_append]
       by_cases k1:k<i*e.size
       ·rw [if_pos (by omega),if_pos k1,if_pos k1]
       ·rw [if_neg k1,if_neg k1]
        by_cases k2:k<i*e.size+es.length
        ·rw [if_pos k2,if_pos k2,if_pos (by omega),List.getElem?_append_left (by omega)]
        ·rw [if_neg k2,if_neg k2]
         by_cases k3:k<i*e.size+es.length+cl.length
         ·rw [if_pos k3,if_pos (by omega),List.getElem?_append_right (by omega)]
          congr 1;omega
         ·rw [if_neg k3,if_neg (by omega)]
      ·simp only [Bool.and_eq_true] at ht
       obtain ⟨⟨ht1,HX⟩,ht3⟩:=ht
       obtain ⟨F,us,t1,t2,t3,t7⟩:=h5 ht1 e GP y HX hv
       obtain ⟨Fs,t4,t5,t6⟩:=g6 ht3
       have AL:us=es:=by
        have c1:=Ay.cells (S:= λ_=>False) F e us y t1 (λ_ _ h=>h)
        have a1:=Fo e us y c1
        have a2:=Fo e es y Wx
        rw [<-t2,uO,a2] at a1
        simpa using a1.symm
       subst AL
       refine ⟨F::Fs,?_,?_,λb hb=>?_⟩
       ·have k1:Ky w e us [y] [F]:=⟨rfl,λq z G hz hG=>by
         rcases q with _|q
         ·simp at hz hG;subst hz;subst hG
          exact ⟨us,eR,λj u hu=>by simpa using hu,t1⟩
         ·simp at hz⟩
        exact Ky.append (by simp [eR]) k1 t4
       ·rw [List.flatten_cons]
        refine ⟨List.nodup_append.2 ⟨t3.1,t5.1,λb hb b' lY e=>?_⟩,λb hb=>?_⟩
        ·subst e
         obtain ⟨l,r,q1,q2⟩:=t6 b lY
         exact (t3.2 b hb).2.2 l r q1 q2
        ·rcases List.mem_append.1 hb with hb|hb
         ·have:=t3.2 b hb
          refine ⟨this.1,this.2.1,λl r q1 q2=>?_⟩
          cases hh:Ad RJ.heap l with
          |none=>rw [(g1.1.heap l).emp hh] at q1;cases q1
          |some b'=>exact this.2.2 l r ((g4 l b' hh).1▸q1) q2
         ·exact t5.2 b hb
       ·rw [List.flatten_cons] at hb
        rcases List.mem_append.1 hb with hb|hb
        ·exact t7 b hb
        ·obtain ⟨l,r,q1,q2⟩:=t6 b hb
         cases hh:Ad st1.heap l with
         |none=>rw [(h1.1.heap l).emp hh] at q1;cases q1
         |some b'=>exact ⟨l,r,(h4 l b' hh).1▸q1,q2⟩
     ·cases he
    ·cases he
   ·cases he
  ·cases he
theorem ay (hT:Bt P T) {st:St} {a:Act} (h:Ae X π st a w) (dst:Nat) (t:TypeId) (len:Nat) (parts:Array (Nat×Operand)) (av:AV) (st':St)
  (he:Gk T st dst t len parts=some (av,st')):
  ∃v' w' π',(Instr.buildSlice t len (parts.map λ(i,x)=>(i,a.eval x))).run P w= .ok v' w'/\Ae X π' st' a w'/\Ak X w' π' st'.heap av v':=by
 unfold Gk at he
 split at he
 ·cases he
 ·rename_i te cH
  split at he
  ·cases he
  ·rename_i e Ov
   split at he
   ·rename_i Eo
    obtain ⟨cE,hlen⟩:=Eo
    split at he
    ·rename_i fr tr ys st1 hb
     simp only [Option.some.injEq,Prod.mk.injEq] at he
     obtain ⟨rfl,rfl⟩:=he
     obtain ⟨i,hi,Mx,ja,kz⟩:=(hT.ty te e Ov).info
     have hu:=hT.elem t te cH
     have xX:parts.toList.length=len:=by simpa using cE
     have hz: ∃z:Array Value,(len*e.size=0/\z= #[])\/(¬len*e.size=0/\(zeroValue te).run P w= .ok (Am e (Al e)) w/\z=(Am e (Al e)).cells):=by
      by_cases h0:len*e.size=0
      ·exact ⟨#[], .inl ⟨h0,rfl⟩⟩
      ·exact ⟨_, .inr ⟨h0,by simp [zeroValue,typeInfo,hi,kz],rfl⟩⟩
     obtain ⟨z,hz⟩:=hz
     obtain ⟨Tq,cl,g1,g2,g3,g4,g5,g6⟩:=Oh e parts.toList 0 st π fr tr ys st1 ((Array.range (len*e.size)).map (z[· %z.size]!)).toList h hb (by simp [xX])
     have Nz:cl.length=len*e.size:=by rw [g2.1,g3,xX]
     have AK:(Bi ((Array.range (len*e.size)).map (z[· %z.size]!)).toList (0*e.size) cl)=cl:=by
      simp [Bi,Nz]
     rw [AK] at g5
     have My:(Instr.buildSlice t len (parts.map λ(i,x)=>(i,a.eval x))).run P w= .ok (.slice (some ⟨w.heap.size,0,none⟩) len len) (w.alloc (.cells cl.toArray te)):=by
      have UK: ¬(len*e.size>2^24):=by
       have:len*e.size<=64*64:=Nat.mul_le_mul hlen.1 hlen.2.1
       omega
      simp only [Instr.buildSlice,Sem.run_bind,run_underlying hu,Result.andThen_ok,(hT.ty te e Ov).size,if_neg UK]
      have e1:(parts.map λ(i,x)=>(i,a.eval x)).toList=parts.toList.map λp=>(p.1,a.eval p.2):=by simp
      simp only [e1]
      have e2:(((Array.range (len*e.size)).map (z[· %z.size]!)).toList.toArray)=(Array.range (len*e.size)).map (z[· %z.size]!):=Array.toArray_toList
      rw [e2] at g5
      rcases hz with ⟨h0,rfl⟩|⟨h0,hz,rfl⟩
      ·rw [if_pos h0]
       simp only [Sem.run_bind,Sem.run_pure,Result.andThen_ok,g5,newRow]
       simp
      ·rw [if_neg h0]
       simp only [Sem.run_bind,Sem.run_pure,Result.andThen_ok,hz,g5,newRow]
       simp
     have hN: ∃N:List Nat,(∀b∈N,(X.w0.heap.size<=b\/X.gv b)/\b<w.heap.size/\ ∀m r0,m≠dst->Tq m=some r0-> ¬r0.cl b)/\(tr=true->N.Nodup/\ ∃Fs,List.flatten Fs=N/\Ky w e cl ys Fs):=by
      cases tr with
      |false=>exact ⟨[],by simp,λh=>by cases h⟩
      |true=>
       obtain ⟨Fs,t1,t2,_⟩:=g6 rfl
       exact ⟨_,λb hb=>⟨(t2.2 b hb).1,(t2.2 b hb).2.1,λm r0 _=>(t2.2 b hb).2.2 m r0⟩,λ_=>⟨t2.1,Fs,rfl,t1⟩⟩
     obtain ⟨N,q1,q2⟩:=hN
     have:=Xz (w1:=w.alloc (.cells cl.toArray te)) g1 dst hlen.2.2 ((T.lX||e.flat)&&fr) (T.qR&&tr) e te ys cl cl.toArray len N (.inr rfl) (by simpa using Nz) (by simp only [maxLen];omega) (by omega) (λk u hu=>by simpa using hu) (g2.cells λes z hc=>hc.and_right) q1 (λht=>q2 (by simp only [Bool.and_eq_true] at ht;exact ht.2))
     exact ⟨_,_,_,My,this.1,this.2 _ (by omega)⟩
    ·cases he
   ·cases he
theorem dE {t te:TypeId} {e:Ty} (h:Vx T t=some (te,e)):T.elem t=some te/\T.ty te=some (.slice e):=by
 unfold Vx at h
 cases he:T.elem t with
 |none=>rw [he] at h;cases h
 |some Kc=>
  rw [he] at h
  simp only [Option.bind_some] at h
  cases hg:T.x4 Kc with
  |none=>rw [hg] at h;cases h
  |some e'=>
   rw [hg] at h
   simp only [Option.map_some,Option.some.injEq,Prod.mk.injEq] at h
   obtain ⟨rfl,rfl⟩:=h
   refine ⟨rfl,?_⟩
   unfold Tab.x4 at hg
   split at hg
   ·split at hg
    ·rename_i Ov;simp only [Option.some.injEq] at hg;subst hg;exact Ov
    ·cases hg
   ·cases hg
theorem er (w:World) (o:Obj):Fh w.heap.size (λ_=>False) w (w.alloc o):=⟨rfl,rfl,rfl,by simp,λk hk _=>Below.heap_alloc w _ k hk⟩
theorem ik (w:World) (o:Obj):Fh w.heap.size (λ_=>False) w (w.drew.alloc o):=⟨rfl,rfl,rfl,by simp,λk hk _=>Below.heap_alloc w.drew _ k hk⟩
theorem j8 (hT:Bt P T) {st:St} {a:Act} (h:Ae X π st a w) (dst:Nat) (t:TypeId) (l c:AV) (vl vc:Value) (hl:Ak X w π st.heap l vl) (hc:Ak X w π st.heap c vc) (av:AV) (st':St)
  (he:On T st dst t l c=some (av,st')): ∃v' w' π',(Instr.makeSlice t vl vc).run P w= .ok v' w'/\Ae X π' st' a w'/\Ak X w' π' st'.heap av v':=by
 unfold On at he
 split at he
 ·exact kc hT h dst t l c vl vc hl hc av st' he
 ·rename_i te e hg
  obtain ⟨cH,Ov⟩:=dE hg
  split at he
  ·rename_i GP k1 n jt k2 m
   have:=Jb hl;subst this
   have:=Jb hc;subst this
   split at he
   ·rename_i Eo
    obtain ⟨h0,PB,HF⟩:=Eo
    obtain ⟨h1,h2⟩:=Lw.1 h0
    subst PB
    simp only [Option.some.injEq,Prod.mk.injEq] at he
    obtain ⟨rfl,rfl⟩:=he
    obtain ⟨i,hi,Mx,ja,kz⟩:=(hT.ty te _ Ov).info
    have hu:=hT.elem t te cH
    have hn:n.toNat<=4294967296:=by unfold Bq at h2;omega
    have hr:=run_make (P:=P) (w:=w) t te i _ hu hi kz k1 k2 n n h1 (Int.le_refl _) (by
     have:(i.bytes:Int)*n<=256*4294967296:=by
      obtain ⟨nn,rfl⟩:=Int.eq_ofNat_of_zero_le h1
      have h7:i.bytes*nn<=256*4294967296:=Nat.mul_le_mul ja (by simpa using hn)
      have h8:((i.bytes*nn:Nat):Int)<=256*4294967296:=by omega
      rwa [Int.natCast_mul] at h8
     omega) (by unfold Bq at h2;omega)
    have AM:(Am (Ty.slice e) (Al (Ty.slice e))).cells= #[.slice none 0 0]:=by simp [Am,Ty.Ab,Al,Value.cells]
    have jy:(Ty.slice e).size=1:=rfl
    rw [AM,Mx,jy] at hr
    have cell: ∀j,j<n.toNat->(madeCells #[Value.slice none 0 0] (n.toNat*1))[0+j]?=some (.slice none 0 0):=by
     intro j hj
     have:=xo (z:= #[Value.slice none 0 0]) (s:=1) (m:=n.toNat) (j:=j) (q:=0) rfl hj (by omega)
     simp only [Nat.mul_one,Nat.add_zero] at this
     simp only [Nat.mul_one,Nat.zero_add]
     rw [this];rfl
    obtain ⟨π',g1,g2⟩:=Qb (w1:=w.alloc (.cells (madeCells #[Value.slice none 0 0] (n.toNat*1)) te)) (gv:= λ_=>False) h HF HF te (e:=e) (rows:=List.replicate n.toNat []) (us:=List.replicate n.toNat (.slice none 0 0)) (Rs:=List.replicate n.toNat none) (g:=w.heap.size) (o:=0) (cap:=n.toNat)
     (λ_ hf=>hf.elim) (er w _) ⟨.inl (Nat.le_refl _),by simp⟩ (heap_alloc_new w _) (by rw [size_madeCells];omega) (by unfold maxLen;omega) (by simp) (λj u hu=>by
      have hj:=(List.getElem?_eq_some_iff.1 hu).1
      simp only [List.length_replicate] at hj
      rw [cell j hj,List.eq_of_mem_replicate (List.mem_of_getElem? hu)])
     ⟨by simp,by simp,λi j q q' h1=>(by have:=List.eq_of_mem_replicate (List.mem_of_getElem? h1);cases this),λi x hx=>by
      have hj:=(List.getElem?_eq_some_iff.1 hx).1
      simp only [List.length_replicate] at hj
      rw [List.eq_of_mem_replicate (List.mem_of_getElem? hx)]
      exact ⟨.slice none 0 0,none,by rw [List.getElem?_replicate,if_pos hj],by rw [List.getElem?_replicate,if_pos hj],⟨rfl,rfl,rfl⟩,rfl⟩⟩
     (λi q h1=>by have:=List.eq_of_mem_replicate (List.mem_of_getElem? h1);cases this)
    exact ⟨_,_,π',hr,g1,g2 _ (by simp)⟩
   ·cases he
  ·cases he
theorem Zv (hT:Bt P T) {st:St} {a:Act} (h:Ae X π st a w) (dst:Nat) (t:TypeId) (len:Nat) (parts:Array (Nat×Operand)) (av:AV) (st':St)
  (he:Ec T st dst t len parts=some (av,st')):
  ∃v' w' π',(Instr.buildSlice t len (parts.map λ(i,x)=>(i,a.eval x))).run P w= .ok v' w'/\Ae X π' st' a w'/\Ak X w' π' st'.heap av v':=by
 unfold Ec at he
 split at he
 ·exact ay hT h dst t len parts av st' he
 ·rename_i te e hg
  obtain ⟨cH,Ov⟩:=dE hg
  split at he
  rotate_left
  ·cases he
  rename_i x KB
  split at he
  rotate_left
  ·cases he
  rename_i m off ln hx
  split at he
  rotate_left
  ·cases he
  rename_i fr tr e' tid xs hm
  split at he
  rotate_left
  ·cases he
  rename_i hc
  obtain ⟨rfl,hc,rfl,rfl⟩:=hc
  simp only [Bool.and_eq_true,Nat.blt_eq] at hc
  obtain ⟨hlen,HF,DN⟩:=hc
  have hlen:len=1:=Nat.eq_of_beq_eq_true hlen
  subst hlen
  simp only [Option.some.injEq,Prod.mk.injEq] at he
  obtain ⟨rfl,rfl⟩:=he
  have hu:=hT.elem t te cH
  unfold St.at at hm
  have PT:=Bh h.2 x
  rw [hx] at PT
  obtain ⟨_,lZ⟩:=Ie (X:=X) (w:=w) PT hm
  obtain ⟨ax,nx,cx,FA⟩:=Rv lZ
  have hp:parts= #[(0,x)]:=by apply Array.ext';simpa using KB
  subst hp
  obtain ⟨i,hi,Mx,ja,kz⟩:=(hT.ty te _ Ov).info
  have My:(Instr.buildSlice t 1 (#[(0,x)].map λ(i,x)=>(i,a.eval x))).run P w= .ok (.slice (some ⟨w.heap.size,0,none⟩) 1 1) (w.alloc (.cells #[a.eval x] te)):=by
   have jy:(Ty.slice e').size=1:=rfl
   have hz:(zeroValue te).run P w= .ok (.slice none 0 0) w:=by simp [zeroValue,typeInfo,hi,kz,Am,Ty.Ab,Al]
   have DN:(#[(0,x)].map λ(i,x)=>(i,a.eval x))= #[(0, .slice ax nx cx)]:=by simp [FA]
   rw [DN,FA]
   simp only [Instr.buildSlice,Sem.run_bind,run_underlying hu,Result.andThen_ok,(hT.ty te _ Ov).size,jy]
   simp [Value.cells,Instr.fill,newRow,hz]
   congr 2
   apply Array.ext
   ·simp
   ·intro i h1 h2
    have h0:i=0:=by simpa using h2
    subst h0
    simp
  have u9:=(h.1.heap m).Kz hm
  simp only [Ao,Es] at u9
  have VP:Lb w (Ax X.w0.heap.size X.Sc π false) (π m) e' xs:=by
   cases hR:π m with
   |none=>rw [hR] at u9;exact u9
   |some q=>
    rw [hR] at u9
    obtain ⟨⟨f0,UI,_⟩,cu,DP,f2,f3,f4,f5,f6,_⟩:=u9
    exact ⟨⟨f0,UI⟩,cu,DP,f2,f3,f4,f5,λp y hy=>by
     obtain ⟨es,g1,g2,g3⟩:=f6 p y hy
     exact ⟨es,g1,g2,Cells.Ch (Nat.le_refl _) (λ_ _ _=>rfl) (λb _ hA=>hA.imp id (Or.imp id λ⟨h1,_⟩=>by cases h1)) e' es y g3⟩⟩
  obtain ⟨π',g1,g2⟩:=Qb (w1:=w.alloc (.cells #[a.eval x] te)) (gv:= λ_=>False) h HF DN te (e:=e') (rows:= [xs]) (us:= [a.eval x]) (Rs:= [π m]) (g:=w.heap.size) (o:=0) (cap:=1)
   (λ_ hf=>hf.elim) (er w _) ⟨.inl (Nat.le_refl _),by simp⟩ (heap_alloc_new w _) rfl (by unfold maxLen;omega) (by simp) (λj u hu=>by
    rcases j with _|j
    ·simpa using hu
    ·simp at hu)
   ⟨rfl,rfl,λi j q q' h1 h2 _=>by
    rcases i with _|i
    ·rcases j with _|j
     ·rfl
     ·simp at h2
    ·simp at h1,λi y hy=>by
    rcases i with _|i
    ·simp only [List.getElem?_cons_zero,Option.some.injEq] at hy
     subst hy
     exact ⟨_,_,rfl,rfl,lZ,VP⟩
    ·simp at hy⟩
   (λi q h1=>by
    rcases i with _|i
    ·simp only [List.getElem?_cons_zero,Option.some.injEq] at h1
     have hf:=h.1.Ar h1
     have:=(h.1.place m q _ h1 (h.1.sub m q _ h1 hf)).2
     exact ⟨by omega,λh=>h,m,q, .inr rfl,h1,hf⟩
    ·simp at h1)
  exact ⟨_,_,π',My,g1,g2 1 rfl⟩
theorem eE (hT:Bt P T) {st:St} {a:Act} (h:Ae X π st a w) (dst:Nat) (t ty:TypeId) (x y:Operand) (av:AV) (st':St) (he:Kg T st dst t x y=some (av,st')):
  ∃v' w' π',(Builtin.append_ #[t,t] ty #[a.eval x,a.eval y]).run P w= .ok v' w'/\Ae X π' st' a w'/\Ak X w' π' st'.heap av v':=by
 unfold Kg at he
 split at he
 ·exact eD hT h dst t ty x y av st' he
 ·rename_i te e hg
  obtain ⟨cH,Ov⟩:=dE hg
  split at he
  rotate_left
  ·cases he
  rename_i l off len m BL kL hx hy
  split at he
  rotate_left
  ·cases he
  rename_i e1 TV A kp1 e2 mW B kp2 hl hm
  split at he
  rotate_left
  ·cases he
  rename_i hc
  obtain ⟨⟨rfl,rfl⟩,hc,⟨rfl,rfl⟩,⟨rfl,rfl⟩,hB,gi⟩:=hc
  simp only [Bool.and_eq_true,Nat.blt_eq,decide_eq_true_eq,Bool.not_eq_true'] at hc
  obtain ⟨⟨rfl,rfl⟩,mo,DN,cj⟩:=hc
  have cj:m≠l:= λe=>by rw [e,Nat.beq_refl] at cj;cases cj
  simp only [Option.some.injEq,Prod.mk.injEq] at he
  obtain ⟨rfl,rfl⟩:=he
  have hu:=hT.elem t mW cH
  obtain ⟨i,hi,Mx,ja,kz⟩:=(hT.ty mW _ Ov).info
  have Mx:i.size=1:=Mx
  unfold St.at at hl hm
  have PT:=Bh h.2 x
  have ZV:=Bh h.2 y
  rw [hx] at PT;rw [hy] at ZV
  obtain ⟨b1,s1,n1,q1,q2,_,TD⟩:=PT
  rw [hl] at q1;cases q1
  simp only [OB.row,Option.some.injEq,Prod.mk.injEq] at q2
  obtain ⟨rfl,rfl⟩:=q2
  obtain ⟨b2,s2,n2,q1,q2,_,ZT⟩:=ZV
  rw [hm] at q1;cases q1
  simp only [OB.row,Option.some.injEq,Prod.mk.injEq] at q2
  obtain ⟨rfl,rfl⟩:=q2
  have hA:=((h.1.heap l).Kz hl).1
  have ML:=((h.1.heap m).Kz hm).1
  cases HS:π m with
  |none=>
   rw [HS] at ML
   have ML:B= []:=ML
   subst ML;simp at hB
  |some rB=>
  rw [HS] at ML ZT
  obtain ⟨fB,Aah,tiB,uB,RB,w1B,w2B,w3B,w4B,w5B,w6B,NH,LB⟩:=nA ML
  obtain ⟨adB,ZZ,hcB,UY⟩:=ZT
  have UY:=UY (by omega)
  subst UY
  have hlB:=LB.1
  have KW:uB.length=B.length*i.size:=by rw [Mx,Nat.mul_one];exact hlB
  have KX: ∀j u,uB[j]?=some u->w.cell? ((⟨rB.g,(rB.o+0)*1,none⟩:Addr).add j)=some u:= λj u hu=>by
   rw [Addr.add_lit,cellOf w1B,Nat.mul_one,Nat.add_zero];exact w5B j u hu
  have kv:(A.length+B.length)*i.bytes<=140737488355328:=by
   have:(A.length+B.length)*i.bytes<=4294967296*256:=Nat.mul_le_mul gi ja
   omega
  have aK:A.length+B.length<=maxLen:=by unfold Bq at gi;simp only [maxLen];omega
  have QI:(Am (Ty.slice e2) (Al (Ty.slice e2))).cells.size=1:=by simp [Am,Ty.Ab,Al,Value.cells]
  have Ni: ∀(k:Nat) (q:Real) (Rs:List (Option Real)),π k=some q->(∀(i:Nat) (p:Real),Rs[i]?=some (some p)->q.Ar p.g/\p.g≠q.g)-> ∀(i:Nat) (p:Real),Rs[i]?=some (some p)->p.g<w.heap.size:= λk q Rs h1 h2 i p h3=>
   (h.1.place k q _ h1 (h.1.sub k q _ h1 (h2 i p h3).1)).2
  cases cE:π l with
  |none=>
   rw [cE] at hA TD
   have hA:A= []:=hA
   subst hA
   obtain ⟨FA,_,_⟩:=TD
   rw [FA,ZZ]
   simp only [List.length_nil,Nat.zero_add,List.nil_append] at gi kv aK⊢
   have hr:=run_append_nil (P:=P) w t ty mW i _ hu hi kz ⟨rB.g,(rB.o+0)*1,none⟩ B.length (rB.cap-0) uB KW KX hB (by simp only [maxLen] at aK;omega) (by omega)
   have mf:=grownCap_ge w B.length 0 mW
   have EH:=grownCap_le_maxLen w B.length 0 mW (by omega)
   obtain ⟨π',g1,g2⟩:=Qb (w1:=w.drew.alloc (.cells (uB.toArray++Builtin.zeroCells (Am (Ty.slice e2) (Al (Ty.slice e2))).cells (grownCap w B.length 0 mW-B.length)) mW)) (gv:= λ_=>False) h mo DN mW (e:=e2) (rows:=B) (us:=uB) (Rs:=RB) (g:=w.heap.size) (o:=0) (cap:=grownCap w B.length 0 mW)
    (λ_ hf=>hf.elim) (ik w _) ⟨.inl (Nat.le_refl _),by simp⟩ (heap_alloc_new w.drew _) (by rw [Array.size_append,List.size_toArray,Ly,QI];omega) EH mf (λj u hu=>by
     have hj:=(List.getElem?_eq_some_iff.1 hu).1
     rw [Nat.zero_add,Array.getElem?_append_left (by simpa using hj)];simpa using hu)
    LB (λi q h1=>⟨by have:=Ni m rB RB HS NH i q h1;omega,λh=>h,m,rB, .inr rfl,HS,(NH i q h1).1⟩)
   exact ⟨_,_,π',hr,g1,g2 _ rfl⟩
  |some rA=>
   rw [cE] at hA TD
   obtain ⟨fA,xL,tiA,uA,RA,TX,w2A,w3A,w4A,w5A,w6A,TY,LA⟩:=nA hA
   obtain ⟨YN,FA,hcA,SK⟩:=TD
   have hlA:=LA.1
   rw [FA,ZZ]
   have apart: ∀(i j:Nat) (q q':Real),RA[i]?=some (some q)->RB[j]?=some (some q')->q.g≠q'.g:= λi j q q' h1 h2 e=>by
    have:=h.1.apart cE HS (TY i q h1).1 (e▸(NH j q' h2).1)
    exact cj this.symm
   have YM:=jD.append LA LB apart
   have Er: ∀(i:Nat) (q:Real),RB[i]?=some (some q)->q.g≠rA.g:= λi q h1 e=>cj (h.1.apart HS cE (NH i q h1).1 (e▸fA))
   have GY: ∀(i:Nat) (q:Real),(RA++RB)[i]?=some (some q)->q.g≠rA.g/\q.g<w.heap.size/\ ∃k p,(k=l\/k=m)/\π k=some p/\p.Ar q.g:= λi q h1=>by
    by_cases hi:i<RA.length
    ·rw [List.getElem?_append_left hi] at h1
     exact ⟨(TY i q h1).2,Ni l rA RA cE TY i q h1,l,rA, .inl rfl,cE,(TY i q h1).1⟩
    ·rw [List.getElem?_append_right (by omega)] at h1
     exact ⟨Er _ q h1,Ni m rB RB HS NH _ q h1,m,rB, .inr rfl,HS,(NH _ q h1).1⟩
   by_cases s8:A.length+B.length<=rA.cap-0
   ·have SK:=SK (by omega)
    subst SK
    have Ot:(rA.o+0)*1+A.length*i.size+uB.length<=xL.size:=by rw [Mx];omega
    have Qe:(rA.o+0)*1+A.length*i.size+uB.length<=xL.toList.length:=by simpa using Ot
    have hr:=Rd (P:=P) (w:=w) (ty:=ty) hu hi rA.g ((rA.o+0)*1) A.length (rA.cap-0) xL tiA TX ⟨rB.g,(rB.o+0)*1,none⟩ B.length (rB.cap-0) uB KW KX w6B s8 Ot
    have ky:=Hg w rA.g (Bi xL.toList ((rA.o+0)*1+A.length*i.size) uB).toArray
    obtain ⟨π',g1,g2⟩:=Qb (w1:=w.setRow rA.g (Bi xL.toList ((rA.o+0)*1+A.length*i.size) uB).toArray) (gv:= λb=>b=rA.g) h mo DN mW (e:=e2) (rows:=A++B) (us:=uA++uB) (Rs:=RA++RB) (g:=rA.g) (o:=rA.o) (cap:=rA.cap)
     (λb hb=>⟨l,rA, .inl rfl,cE,hb▸fA⟩) ⟨ky.os,ky.tape,ky.output,ky.size,λc _ hc=>setRow_other w rA.g c _ hc⟩ ⟨.inr ⟨l,rA, .inl rfl,cE,fA⟩,Nat.lt_of_lt_of_le (Cn TX) ky.size⟩
     (setRow_heap w rA.g xL _ tiA _ TX) (by rw [List.size_toArray,Eb _ _ _ Qe,Array.length_toList];exact w2A) w3A (by simp;omega) (λj u hu=>by
      rw [List.getElem?_toArray,Dn _ _ _ _ Qe,Mx]
      by_cases hj:j<uA.length
      ·rw [List.getElem?_append_left hj] at hu
       rw [if_pos (by omega),Array.getElem?_toList]
       exact w5A j u hu
      ·rw [List.getElem?_append_right (by omega)] at hu
       have:=(List.getElem?_eq_some_iff.1 hu).1
       rw [if_neg (by omega),if_pos (by omega)]
       rw [show rA.o+j-((rA.o+0)*1+A.length*1)=j-uA.length by omega]
       exact hu)
     YM (λi q h1=>⟨(GY i q h1).1,(GY i q h1).1,(GY i q h1).2.2⟩)
    have:=g2 (A.length+B.length) (by simp)
    have e0:(rA.o+0)*1=rA.o:=by omega
    simp only [e0,Nat.sub_zero] at hr g1 this⊢
    exact ⟨_,_,π',hr,g1,this⟩
   ·have hold: ∀j u,uA[j]?=some u->w.cell? (YN.add j)=some u:=by
     intro j u hu
     have hj:=(List.getElem?_eq_some_iff.1 hu).1
     rw [SK (by omega),Addr.add_lit,cellOf TX,Nat.mul_one,Nat.add_zero];exact w5A j u hu
    have hr:=run_append_grow (P:=P) w t ty mW i _ hu hi kz YN A.length (rA.cap-0) uA (by rw [Mx,Nat.mul_one];exact hlA) hold ⟨rB.g,(rB.o+0)*1,none⟩ B.length (rB.cap-0) uB KW KX (by omega) (by simp only [maxLen] at aK;omega) (growslice_fits (by omega) kv)
    have mf:=grownCap_ge w (A.length+B.length) (rA.cap-0) mW
    have EH:=grownCap_le_maxLen w (A.length+B.length) (rA.cap-0) mW aK
    obtain ⟨π',g1,g2⟩:=Qb (w1:=w.drew.alloc (.cells (uA.toArray++uB.toArray++Builtin.zeroCells (Am (Ty.slice e2) (Al (Ty.slice e2))).cells (grownCap w (A.length+B.length) (rA.cap-0) mW-(A.length+B.length))) mW)) (gv:= λ_=>False) h mo DN mW (e:=e2) (rows:=A++B) (us:=uA++uB) (Rs:=RA++RB) (g:=w.heap.size) (o:=0) (cap:=grownCap w (A.length+B.length) (rA.cap-0) mW)
     (λ_ hf=>hf.elim) (ik w _) ⟨.inl (Nat.le_refl _),by simp⟩ (heap_alloc_new w.drew _) (by rw [Array.size_append,Array.size_append,List.size_toArray,List.size_toArray,Ly,QI];omega) EH (by simpa using mf) (λj u hu=>by
      have hj:=(List.getElem?_eq_some_iff.1 hu).1
      rw [Nat.zero_add,Array.getElem?_append_left (by simpa using hj)];simpa using hu)
     YM (λi q h1=>⟨by have:=(GY i q h1).2.1;omega,λh=>h,(GY i q h1).2.2⟩)
    exact ⟨_,_,π',hr,g1,g2 _ (by simp)⟩
theorem dj: ∀τ:Ty,Cj X w π H (zeroCells τ) (Al τ):=by
 have one: ∀(c:AC) (v:Value),v.oneCell'=true->Dg X w π H c v->Cj X w π H [c] [v]:= λc v h1 h2=>⟨rfl,λi c' hc=>by
  rcases i with _|i
  ·simp at hc;subst hc;exact ⟨v,rfl,h1,h2⟩
  ·simp at hc⟩
 intro τ
 induction τ with
 |unit=>exact ⟨rfl,λi c hc=>by simp [zeroCells] at hc⟩
 |pair a r ef bY=>
  refine ⟨by simp [zeroCells,Al,ef.1,bY.1],λi c hc=>?_⟩
  simp only [zeroCells] at hc
  simp only [Al]
  by_cases hi:i<(zeroCells a).length
  ·rw [List.getElem?_append_left hi] at hc
   obtain ⟨u,hu,h⟩:=ef.2 i c hc
   exact ⟨u,by rw [List.getElem?_append_left (by rw [ef.1];exact hi)];exact hu,h⟩
  ·rw [List.getElem?_append_right (by omega)] at hc
   obtain ⟨u,hu,h⟩:=bY.2 _ c hc
   exact ⟨u,by rw [List.getElem?_append_right (by rw [ef.1];omega),ef.1];exact hu,h⟩
 |int k=>exact one (.data true _ _) _ rfl (Ht (H:=H) k 0 true)
 |bool=>exact one (.data true _ _) _ rfl (Gw (H:=H) false true)
 |str=>exact one (.data true _ _) _ rfl (gz (H:=H) ByteArray.empty true)
 |slice e=>exact one _ _ rfl rfl
 |oslice e=>exact one _ _ rfl rfl
 |ptr e=>exact one _ _ rfl rfl
 |optr e=>exact one _ _ rfl rfl
 |smap v=>exact one (.data true _ _) _ rfl ⟨[.map none], .inl ⟨rfl,rfl⟩,by simp [Am,Ty.Ab]⟩
 |clo f c=>exact one .undef .nilFunc rfl trivial
theorem Vk (hT:Bt P T) {st:St} {a:Act} (h:Ae X π st a w) (t:TypeId) (Hu:Array (Nat×Nat))
  (cE: ∀f o u ρ,T.off t f=some (o,u)->T.ty u=some ρ->Hu[f]?=some (o,ρ.size)): ∀(parts:List (Nat×Operand)) (cs au:List AC) (us:List Value),Cj X w π st.heap cs us->
  Gj T st t parts cs=some au-> ∃Qo:List Value,Instr.fill (λi=>Hu[i]?) us.toArray (parts.map λp=>(p.1,a.eval p.2))=some Qo.toArray/\Cj X w π st.heap au Qo
 | [],cs,au,us,hr,he=>by
  simp only [Gj,Option.some.injEq] at he;subst he
  exact ⟨us,rfl,hr⟩
 |(f,x)::r,cs,au,us,hr,he=>by
  simp only [Gj] at he
  split at he
  ·rename_i o u ho
   split at he
   ·rename_i ρ QK
    split at he
    ·rename_i c hc
     split at he
     ·rename_i hle
      obtain ⟨vs,hv,hl,HV⟩:=ai (Bh h.2 x) hc
      have e1:=hr.1
      have e2:=HV.1
      obtain ⟨Qo,g1,g2⟩:=Vk hT h t Hu cE r _ au _ (lC hr HV o hle) he
      refine ⟨Qo,?_,g2⟩
      simp only [List.map_cons]
      rw [nw _ us f (a.eval x) _ o ρ.size vs (cE f o u ρ ho QK) hv hl (by omega)]
      exact g1
     ·cases he
    ·cases he
   ·cases he
  ·cases he
theorem Za (hT:Bt P T) {st:St} {a:Act} (h:Ae X π st a w) (t:TypeId) (parts:Array (Nat×Operand)) (av:AV) (he:Ok T st t parts=some av):
  ∃v',(Instr.build t (parts.map λ(i,x)=>(i,a.eval x))).run P w= .ok v' w/\Ak X w π st.heap av v':=by
 unfold Ok at he
 split at he
 ·cases he
 ·rename_i τ Ov
  split at he
  ·rename_i hs
   cases hb:Gj T st t parts.toList (zeroCells τ) with
   |none=>rw [hb] at he;cases he
   |some au=>
    rw [hb] at he
    simp only [Option.map_some,Option.some.injEq] at he;subst he
    obtain ⟨fs,Hu,h1,h2,h3⟩:=hT.fill t τ Ov hs
    obtain ⟨i,hi,Mx,ja,kz⟩:=(hT.ty t τ Ov).info
    obtain ⟨Qo,g1,g2⟩:=Vk hT h t Hu h3 parts.toList (zeroCells τ) au (Al τ) (dj τ) hb
    refine ⟨.agg Qo.toArray,?_,Qo,rfl,g2⟩
    have hz:(zeroValue t).run P w= .ok (Am τ (Al τ)) w:=by simp [zeroValue,typeInfo,hi,kz]
    have AM:(Am τ (Al τ)).cells=(Al τ).toArray:=by simp [Am,hs,Value.cells]
    have GS:=h2 w
    unfold placesOf at GS
    have e1:(parts.map λ(i,x)=>(i,a.eval x)).toList=parts.toList.map λp=>(p.1,a.eval p.2):=by simp
    simp only [Instr.build,Sem.run_bind,hz,Result.andThen_ok,run_underlying h1,GS,AM,e1,g1,Sem.run_pure]
  ·cases he
theorem lj {st:St} {v:AV} (h:v.settled=true):settle st v=some (v,st):=by
 cases v with
 | «at»a=>cases a<;>simp [AV.settled,AC.settled] at h<;>simp [settle,AC.settled]
 |agg cs=>
  have hs:cs.all (·.settled)=true:=h
  have:Cz cs.length st cs=some (cs,st):=by
   cases hn:cs.length with
   |zero=>simp [Cz,hs]
   |succ n=>
    have hf:cs.find? (λc=>!c.settled)=none:=List.find?_eq_none.2 λc hc=>by simpa using List.all_eq_true.1 hs c hc
    simp [Cz,hf]
  simp [settle,this]
 |Si fr τ x=>rfl
 |Hv l=>simp [AV.settled] at h
theorem fm {e:Ty} {st:St} : ∀(parts:List (Nat×Operand)) (i:Nat) (fr:Bool) (ys:List e.den),Yb e i parts st=some (fr,ys)-> ∃tr,Fu e i parts st=some (fr,tr,ys,st)
 | [],i,fr,ys,h=>by
  simp only [Yb,Option.some.injEq,Prod.mk.injEq] at h
  obtain ⟨rfl,rfl⟩:=h
  exact ⟨true,rfl⟩
 |(j,x)::r,i,fr,ys,h=>by
  simp only [Yb] at h
  split at h
  ·rename_i hc
   split at h
   ·rename_i f1 y f2 zs h1 h2
    simp only [Option.some.injEq,Prod.mk.injEq] at h
    obtain ⟨rfl,rfl⟩:=h
    obtain ⟨tr,h3⟩:=fm r (i+1) f2 zs h2
    refine ⟨Lk st (st.ev x)&&e.tree&&tr,?_⟩
    simp only [Fu]
    rw [if_pos hc.1,lj hc.2]
    simp only [h1,h3]
   ·cases h
  ·cases h
theorem fU (hT:Bt P T) {st:St} {a:Act} (h:Ae X π st a w) (t:TypeId) (len:Nat) (parts:Array (Nat×Operand)) (av:AV) (he:Sr T st t len parts=some av):
  ∃v' w' π',(Instr.buildSlice t len (parts.map λ(i,x)=>(i,a.eval x))).run P w= .ok v' w'/\Ae X π' st a w'/\Ak X w' π' st.heap av v':=by
 unfold Sr at he
 split at he
 ·cases he
 ·rename_i te cH
  split at he
  ·cases he
  ·rename_i e Ov
   split at he
   ·rename_i Eo
    obtain ⟨cE,hlen⟩:=Eo
    cases hp:Yb e 0 parts.toList st with
    |none=>rw [hp] at he;cases he
    |some p=>
     obtain ⟨fr,ys⟩:=p
     rw [hp] at he
     simp only [Option.map_some,Option.some.injEq] at he
     subst he
     obtain ⟨tr,hb⟩:=fm _ _ _ _ hp
     obtain ⟨i,hi,Mx,ja,kz⟩:=(hT.ty te e Ov).info
     have hu:=hT.elem t te cH
     have xX:parts.toList.length=len:=by simpa using cE
     have hz: ∃z:Array Value,(len*e.size=0/\z= #[])\/(¬len*e.size=0/\(zeroValue te).run P w= .ok (Am e (Al e)) w/\z=(Am e (Al e)).cells):=by
      by_cases h0:len*e.size=0
      ·exact ⟨#[], .inl ⟨h0,rfl⟩⟩
      ·exact ⟨_, .inr ⟨h0,by simp [zeroValue,typeInfo,hi,kz],rfl⟩⟩
     obtain ⟨z,hz⟩:=hz
     obtain ⟨Tq,cl,g1,g2,g3,g4,g5,g6⟩:=Oh e parts.toList 0 st π fr tr ys st ((Array.range (len*e.size)).map (z[· %z.size]!)).toList h hb (by simp [xX])
     have Nz:cl.length=len*e.size:=by rw [g2.1,g3,xX]
     have AK:(Bi ((Array.range (len*e.size)).map (z[· %z.size]!)).toList (0*e.size) cl)=cl:=by
      simp [Bi,Nz]
     rw [AK] at g5
     have My:(Instr.buildSlice t len (parts.map λ(i,x)=>(i,a.eval x))).run P w= .ok (.slice (some ⟨w.heap.size,0,none⟩) len len) (w.alloc (.cells cl.toArray te)):=by
      have UK: ¬(len*e.size>2^24):=by
       have:len*e.size<=64*64:=Nat.mul_le_mul hlen.1 hlen.2
       omega
      simp only [Instr.buildSlice,Sem.run_bind,run_underlying hu,Result.andThen_ok,(hT.ty te e Ov).size,if_neg UK]
      have e1:(parts.map λ(i,x)=>(i,a.eval x)).toList=parts.toList.map λp=>(p.1,a.eval p.2):=by simp
      simp only [e1]
      have e2:(((Array.range (len*e.size)).map (z[· %z.size]!)).toList.toArray)=(Array.range (len*e.size)).map (z[· %z.size]!):=Array.toArray_toList
      rw [e2] at g5
      rcases hz with ⟨h0,rfl⟩|⟨h0,hz,rfl⟩
      ·rw [if_pos h0]
       simp only [Sem.run_bind,Sem.run_pure,Result.andThen_ok,g5,newRow]
       simp
      ·rw [if_neg h0]
       simp only [Sem.run_bind,Sem.run_pure,Result.andThen_ok,hz,g5,newRow]
       simp
     have EF:(w.alloc (.cells cl.toArray te)).heap[w.heap.size]?=some (.cells cl.toArray te (0,0)):=heap_alloc_new w _
     have hB:Below w.heap.size w (w.alloc (.cells cl.toArray te)):=(Below.refl _ _).alloc (Nat.le_refl _) _
     have Gp:=Cn EF
     refine ⟨_,_,Tq,My,g1.quiet hB,⟨[_],?_,rfl⟩⟩
     refine ⟨some ⟨w.heap.size,0,none⟩,len,len,rfl,by rw [g3,xX],Nat.le_refl _, .inr ⟨w.heap.size,0,rfl,Gp,λhA=>?_,λk x hx=>?_⟩⟩
     ·rcases hA with hA|hA|⟨_,hA⟩
      ·exact absurd (g1.1.own hA).1 (Nat.lt_irrefl _)
      ·exact absurd (Nat.lt_of_lt_of_le (g1.1.sc _ hA).1 g1.1.below.size) (Nat.lt_irrefl _)
      ·exact absurd (Nat.lt_of_lt_of_le hA g1.1.below.size) (Nat.lt_irrefl _)
     ·obtain ⟨es,k1,k2,k3⟩:=g2.2 k x hx
      refine ⟨es,k1,λj u hu=>?_,Cells.Ch hB.size (λb hb _=>hB.block b hb) (λ_ _ h=>h) e es x k3⟩
      rw [cellOf EF,Nat.zero_add]
      simpa using k2 j u hu
   ·cases he
theorem rG {Γ:Env} (hT:Bt P T) (La:Gz P Γ) {st:St} {a:Act} (h:Ae X π st a w) (o:Oper) (av:AV) (he:Py T Γ st o=some av):
  a7 P X st a w av ((execOp a.eval o).run P w):=by
 obtain ⟨dst,op,ty,pos,af,gd⟩:=o
 have val: ∀(s:Sem Value) (v:Value) (w':World) (π':Pi),s.run P w= .ok v w'->Ae X π' st a w'->Ak X w' π' st.heap av v->(execOp a.eval ⟨dst,op,ty,pos,af,gd⟩=do pure (.value (<-s)))->
   a7 P X st a w av ((execOp a.eval ⟨dst,op,ty,pos,af,gd⟩).run P w):=by
  intro s v w' π' h1 h2 h3 h4
  rw [h4,Sem.run_bind,h1]
  exact ⟨π',h2,h3⟩
 have quiet:Bz T Γ st ⟨dst,op,ty,pos,af,gd⟩=some av->a7 P X st a w av ((execOp a.eval ⟨dst,op,ty,pos,af,gd⟩).run P w):=by
  intro hq
  have:=im hT La h _ av hq
  generalize (execOp a.eval ⟨dst,op,ty,pos,af,gd⟩).run P w=r at*
  cases r with
  |halt x w'=>exact this
  |ok n w'=>
   cases n<;>simp only [wJ] at this<;>simp only [a7]
   ·obtain ⟨rfl,hr⟩:=this
    exact ⟨π,h,hr⟩
   ·obtain ⟨rfl,hc⟩:=this
    exact ⟨rfl,hc.mono λe lU ⟨v,hv,hb,hr⟩=>⟨v,hv,π,h.quiet hb,hr⟩⟩
 unfold Py at he
 split at he
 ·rename_i t len parts nI
  dsimp only at nI;subst nI
  obtain ⟨v,w',π',h1,h2,h3⟩:=fU hT h t len parts av he
  exact val _ v w' π' h1 h2 h3 rfl
 ·rename_i t parts nI
  dsimp only at nI;subst nI
  obtain ⟨v',h1,h2⟩:=Za hT h t parts av he
  exact val _ v' w π h1 h h2 rfl
 ·exact quiet he
theorem cP {a:Act} : ∀(l:List Operand) {π:Pi} {st st1:St},Ae X π st a w->Im l st=some st1-> ∃π',Ae X π' st1 a w
 | [],π,st,st1,h,he=>by
  simp only [Im,Option.some.injEq] at he
  subst he
  exact ⟨π,h⟩
 |x::r,π,st,st1,h,he=>by
  simp only [Im] at he
  cases hs:settle st (st.ev x) with
  |none=>rw [hs] at he;cases he
  |some p=>
   rw [hs] at he
   obtain ⟨Tq,h1,_⟩:=Tl h (Bh h.2 x) hs
   exact cP r h1 he
theorem oT {Γ:Env} (hT:Bt P T) (La:Gz P Γ) {st:St} {a:Act} (h:Ae X π st a w) (o:Oper) (av:AV) (st':St) (he:evalOp T Γ st o=some (av,st')):
  a7 P X st' a w av ((execOp a.eval o).run P w):=by
 have quiet: ∀ {π:Pi} {st:St},Ae X π st a w->(Bz T Γ st o).map (λv=>(v,st))=some (av,st')->a7 P X st' a w av ((execOp a.eval o).run P w):=by
  intro π st h he
  cases hq:Bz T Γ st o with
  |none=>rw [hq] at he;cases he
  |some v=>
   rw [hq] at he
   simp only [Option.map_some,Option.some.injEq,Prod.mk.injEq] at he
   obtain ⟨rfl,rfl⟩:=he
   have:=im hT La h o v hq
   generalize (execOp a.eval o).run P w=r at*
   cases r with
   |halt x w'=>exact this
   |ok n w'=>
    cases n<;>simp only [wJ] at this<;>simp only [a7]
    ·obtain ⟨rfl,hr⟩:=this
     exact ⟨π,h,hr⟩
    ·obtain ⟨rfl,hc⟩:=this
     exact ⟨rfl,hc.mono λe lU ⟨v,hv,hb,hr⟩=>⟨v,hv,π,h.quiet hb,hr⟩⟩
 obtain ⟨dst,op,ty,pos,af,gd⟩:=o
 have val: ∀(s:Sem Value) (v:Value) (w':World) (π':Pi),s.run P w= .ok v w'->Ae X π' st' a w'->Ak X w' π' st'.heap av v->(execOp a.eval ⟨dst,op,ty,pos,af,gd⟩=do pure (.value (<-s)))->
   a7 P X st' a w av ((execOp a.eval ⟨dst,op,ty,pos,af,gd⟩).run P w):=by
  intro s v w' π' h1 h2 h3 h4
  rw [h4,Sem.run_bind,h1]
  exact ⟨π',h2,h3⟩
 unfold evalOp at he
 split at he
 all_goals (rename_i nI;dsimp only at nI;try subst nI)
 ·
  rename_i x
  split at he
  ·rename_i d te e hx hd ht
   split at he
   ·rename_i HF
    simp only [Option.some.injEq,Prod.mk.injEq] at he
    obtain ⟨rfl,rfl⟩:=he
    obtain ⟨k1,k2,_⟩:=kS h d HF (T.lX||e.flat) T.qR te e
    have KQ:=Bh h.2 x
    rw [hx] at KQ
    have TJ:a.eval x= .slice none 0 0:=KQ
    show a7 P X _ a w _ (.ok (.value (a.eval x)) w)
    rw [TJ]
    exact ⟨_,k1,k2⟩
   ·cases he
  ·simp only [Option.some.injEq,Prod.mk.injEq] at he
   obtain ⟨rfl,rfl⟩:=he
   exact ⟨π,h,Bh h.2 x⟩
 ·
  rename_i t
  split at he
  ·rename_i d τ hd ht
   obtain ⟨i,hi,Mx,ja,kz⟩:=(hT.ty t τ ht).info
   obtain ⟨π',k1,k2⟩:=iJ h d t τ (zeroCells τ) (Al τ) (dj τ) av st' he
   have AM:(Am τ (Al τ)).cells=(Al τ).toArray:=by
    cases τ<;>simp [Am,Ty.Ab,Value.cells,Al]
   refine val (Instr.alloc t true (.tuple #[])) _ _ π' ?_ k1 k2 rfl
   simp [Instr.alloc,zeroValue,typeInfo,hi,kz,newVar,newRow,AM]
  ·cases he
 ·
  rename_i t x
  split at he
  ·rename_i d τ hd ht
   split at he
   ·rename_i cs hc
    obtain ⟨us,hv,hl,hr⟩:=ai (Bh h.2 x) hc
    obtain ⟨π',k1,k2⟩:=iJ h d t τ cs us hr av st' he
    refine val (Instr.box t (a.eval x)) _ _ π' ?_ k1 k2 rfl
    simp [Instr.box,newVar,newRow,hv]
   ·cases he
  ·cases he
 ·
  rename_i t p x
  cases hs:Iv T st t (st.ev p) (st.ev x) with
  |none=>rw [hs] at he;cases he
  |some s=>
   rw [hs] at he
   simp only [Option.map_some,Option.some.injEq,Prod.mk.injEq] at he
   obtain ⟨rfl,rfl⟩:=he
   obtain ⟨w',π',h1,h2⟩:=fY hT h t _ _ _ _ (Bh h.2 p) (Bh h.2 x) s hs
   have:(execOp a.eval ⟨dst, .store t p x,ty,pos,af,gd⟩).run P w= .ok .skip w':=by
    show (do Instr.storeAt t (a.eval p) (a.eval x);pure Next.skip:Sem Next).run P w=_
    rw [Sem.run_bind,h1];rfl
   rw [this]
   exact ⟨π',h2,trivial⟩
 ·
  rename_i t l c
  split at he
  ·rename_i d hd
   obtain ⟨v,w',π',h1,h2,h3⟩:=j8 hT h d t _ _ _ _ (Bh h.2 l) (Bh h.2 c) av st' he
   exact val _ v w' π' h1 h2 h3 rfl
  ·cases he
 ·
  rename_i t
  split at he
  ·rename_i d hd
   obtain ⟨v,w',π',h1,h2,h3⟩:=eH hT h d t av st' he
   exact val _ v w' π' h1 h2 h3 rfl
  ·cases he
 ·
  rename_i t m k x
  cases hs:Ee T st t (st.ev m) (st.ev k) (st.ev x) with
  |none=>rw [hs] at he;cases he
  |some s=>
   rw [hs] at he
   simp only [Option.map_some,Option.some.injEq,Prod.mk.injEq] at he
   obtain ⟨rfl,rfl⟩:=he
   obtain ⟨w',h1,h2⟩:=Vq hT h t _ _ _ _ _ _ (Bh h.2 m) (Bh h.2 k) (Bh h.2 x) s hs
   have:(execOp a.eval ⟨dst, .mapUpdate t m k x,ty,pos,af,gd⟩).run P w= .ok .skip w':=by
    show (do Instr.mapUpdate t (a.eval m) (a.eval k) (a.eval x);pure Next.skip:Sem Next).run P w=_
    rw [Sem.run_bind,h1];rfl
   rw [this]
   exact ⟨π,h2,trivial⟩
 ·
  rename_i t m k x
  cases hs:Ee T st t (st.ev m) (st.ev k) (st.ev x) with
  |none=>rw [hs] at he;cases he
  |some s=>
   rw [hs] at he
   simp only [Option.map_some,Option.some.injEq,Prod.mk.injEq] at he
   obtain ⟨rfl,rfl⟩:=he
   obtain ⟨w',h1,h2⟩:=Vq hT h t _ _ _ _ _ _ (Bh h.2 m) (Bh h.2 k) (Bh h.2 x) s hs
   have:(execOp a.eval ⟨dst, .insert t m k x,ty,pos,af,gd⟩).run P w= .ok .skip w':=by
    show (do Instr.mapUpdate t (a.eval m) (a.eval k) (a.eval x);pure Next.skip:Sem Next).run P w=_
    rw [Sem.run_bind,h1];rfl
   rw [this]
   exact ⟨π,h2,trivial⟩
 ·
  rename_i t len parts
  split at he
  ·rename_i d hd
   obtain ⟨v,w',π',h1,h2,h3⟩:=Zv hT h d t len parts av st' he
   exact val _ v w' π' h1 h2 h3 rfl
  ·cases he
 ·
  rename_i t parts
  cases hb:Ok T st t parts with
  |none=>rw [hb] at he;cases he
  |some v=>
   rw [hb] at he
   simp only [Option.map_some,Option.some.injEq,Prod.mk.injEq] at he
   obtain ⟨rfl,rfl⟩:=he
   obtain ⟨v',h1,h2⟩:=Za hT h t parts v hb
   exact val _ v' w π h1 h h2 rfl
 ·
  rename_i args ts
  split at he
  ·rename_i d x y t t' hd Jz mq
   split at he
   ·rename_i Nb;subst Nb
    have e1:args= #[x,y]:=by apply Array.ext';simpa using Jz
    have e2:ts= #[t,t]:=by apply Array.ext';simpa using mq
    subst e1;subst e2
    obtain ⟨v,w',π',h1,h2,h3⟩:=eE hT h d t ty x y av st' he
    refine val (Builtin.append_ #[t,t] ty #[a.eval x,a.eval y]) v w' π' h1 h2 h3 ?_
    simp [execOp,resolve,invoke,builtin]
   ·cases he
  ·cases he
 ·
  rename_i args ts
  split at he
  ·rename_i x y t t' Jz mq
   have e1:args= #[x,y]:=by apply Array.ext';simpa using Jz
   have e2:ts= #[t,t']:=by apply Array.ext';simpa using mq
   subst e1;subst e2
   obtain ⟨v,w',h1,h2,h3⟩:=jZ hT h t t' ty _ _ _ _ (Bh h.2 x) (Bh h.2 y) av st' he
   refine val (Builtin.copy_ #[t,t'] ty #[a.eval x,a.eval y]) v w' π h1 h2 h3 ?_
   simp [execOp,resolve,invoke,builtin]
  ·cases he
 ·
  rename_i args ts
  split at he
  ·rename_i x t Jz mq
   have e1:args= #[x]:=by apply Array.ext';simpa using Jz
   have e2:ts= #[t]:=by apply Array.ext';simpa using mq
   subst e1;subst e2
   cases hs:evalClear T st t (st.ev x) with
   |none=>rw [hs] at he;cases he
   |some s=>
    rw [hs] at he
    simp only [Option.map_some,Option.some.injEq,Prod.mk.injEq] at he
    obtain ⟨rfl,rfl⟩:=he
    obtain ⟨v,w',h1,h2⟩:=j7 hT h t ty _ _ (Bh h.2 x) s hs
    refine val (Builtin.clear_ #[t] ty #[a.eval x]) v w' π h1 h2 trivial ?_
    simp [execOp,resolve,invoke,builtin]
  ·cases he
 ·
  rename_i f args ts
  split at he
  ·rename_i s QJ
   have hs:Dq P f s:=La f _ QJ
   have:=j6 h hs dst (args.toList.map st.ev) (args.toList.map a.eval) (by simp) (λi c v=>bl h args.toList i c v) av st' he
   rw [bo a.eval f args ts dst ty pos af gd rfl hs.enter]
   refine ⟨rfl,?_⟩
   rwa [show (args.toList.map a.eval).toArray=args.map a.eval from by apply Array.ext';simp] at this
  ·rename_i s QJ
   split at he
   ·cases hs:Im args.toList st with
    |none=>rw [hs] at he;cases he
    |some st1=>
     rw [hs] at he
     obtain ⟨Tq,h1⟩:=cP args.toList h hs
     exact quiet h1 he
   ·exact quiet h he
  ·exact quiet h he
 ·exact quiet h he
end
end Go.Proofs.Ytjbdmibbbpdnnaa
