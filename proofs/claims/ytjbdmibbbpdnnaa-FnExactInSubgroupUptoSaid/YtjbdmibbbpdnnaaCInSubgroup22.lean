/-
  Part 23 of the proof that the statement FnExactInSubgroup holds.
-/
import Derived.Test.YtjbdmibbbpdnnaaCInSubgroup21
namespace Go.Proofs.Ytjbdmibbbpdnnaa
open Go.RowKit
section
variable {P:Program} {T:Tab} {X:Ctx} {w w':World} {π:Pi} {H:List (Nat×OB)}
theorem pe {π':Pi} {st':St} {a:Act} (h:Af X π' st' a w) (k:Fm π π' H st'.heap) {fr:Bool} (τ:Ty) (cs:List Value) (x:τ.den) (hc:Cells w (Ay X.w0.heap.size X.Sc π fr) τ cs x):
  Cells w (Ay X.w0.heap.size X.Sc π' fr) τ cs x:=
 Cells.Cj (Nat.le_refl _) (λ_ _ _=>rfl) (λb _ hA=>by
  rcases hA with ⟨l,r,hl,hg⟩|h2
  ·have hh:=h.1.heap l
   cases hb:Ad st'.heap l with
   |none=>have:=hh.emp hb;rw [this] at hl;cases hl
   |some b'=>have:=(k l b' hb).1;rw [this] at hl;exact .inl ⟨l,r,hl,hg⟩
  ·exact .inr h2) τ cs x hc
theorem ak.drop {F:List Nat} {l:Nat} (h:ak X w π F):ak X w (Oe π l none) F:=
 ⟨h.1,λb hb=>⟨(h.2 b hb).1,(h.2 b hb).2.1,λm r hm=>by
  by_cases e:m=l
  ·subst e;rw [Ct] at hm;cases hm
  ·rw [Cs π none e] at hm;exact (h.2 b hb).2.2 m r hm⟩⟩
theorem l9 {st:St} {a:Act} (h:Af X π st a w) (l:Nat) (hl:l<Ah) (f0 t0:Bool) (te:TypeId) (e:Ty):
  Af X (Oe π l none) (st.new l (.arr f0 t0 e te [])) a w/\Ak X w (Oe π l none) (st.new l (.arr f0 t0 e te [])).heap (.at (.own l 0 0)) (.slice none 0 0)/\
   ∀fr τ cs x,Cells w (Ay X.w0.heap.size X.Sc π fr) τ cs x->Cells w (Ay X.w0.heap.size X.Sc (Oe π l none) fr) τ cs x:=
 ⟨h.replace l hl none _ (Iz w _) (λr hr=>by cases hr) (λ_=>rfl),
  sZ (St.Db st l _) (Nat.le_refl _) (by rw [Ct];exact ⟨rfl,rfl,rfl⟩),
  fun fr τ cs x hc=>Cells.Cj (Nat.le_refl _) (λ_ _ _=>rfl) (λb _ hA=>by
  rcases hA with ⟨m,r,hm,hg⟩|h2
  ·by_cases e:m=l
   ·subst e;rw [Ct] at hm;cases hm
   ·rw [Cs π none e] at hm;exact .inl ⟨m,r,hm,hg⟩
  ·exact .inr h2) τ cs x hc⟩
theorem Ot (hT:Bu P T) {st:St} {a:Act} (h:Af X π st a w) (dst:Nat) (t ty:TypeId) (x y:Operand) (av:AV) (st':St) (he:Ht T st dst t x y=some (av,st')):
  ∃v' w' π',(Builtin.append_ #[t,t] ty #[a.eval x,a.eval y]).run P w= .ok v' w'/\Af X π' st' a w'/\Ak X w' π' st'.heap av v':=by
 unfold Ht at he
 split at he
 ·cases he
 ·rename_i te cT
  split at he
  ·rename_i e y' st1 Pd hs
   obtain ⟨Uc,h1,h2,h3,h4,h5⟩:=Tw h (Bj h.2 y) hs
   split at he
   ·cases he
   ·rename_i jI ys hv
    dsimp only at he
    have xG: ∀tr2,tr2=(e.flat||(Lo st (st.ev y)&&e.tree))->tr2=true->e.flat=true\/ ∃F,Az w F (.slice e) [a.eval y] ys/\ak X w Uc F:=by
     intro tr2 e2 ff
     subst e2
     cases UK:e.flat with
     |true=>exact .inl rfl
     |false=>
     right
     simp only [UK,Bool.false_or,Bool.and_eq_true] at ff
     obtain ⟨F,us,f1,f2,f3,_⟩:=h5 ff.1 (.slice e) jI ys ff.2 hv
     have BO:us= [a.eval y]:=by
      simp only [Az] at f1
      obtain ⟨a0,len,cap,rfl,_⟩:=f1
      rw [f2];simp [Am,Ty.Ab]
     rw [BO] at f1
     exact ⟨F,f1,f3⟩
    have hyc:Cells w (Ay X.w0.heap.size X.Sc Uc jI) (.slice e) [a.eval y] ys:=Aw.Km rfl (Is _ y' _ jI ys h3 h2 hv)
    have ME:=Bj h1.2 x
    split at he
    ·rename_i hx
     rw [hx] at ME
     have VD:a.eval x= .slice none 0 0:=ME
     split at he
     ·rename_i gz
      simp only [Option.some.injEq,Prod.mk.injEq] at he
      obtain ⟨rfl,rfl⟩:=he
      obtain ⟨k1,k2,k3⟩:=l9 h1 dst gz.2 (T.mi||e.flat) T.rm te e
      have:=eE (ty:=ty) hT k1 cT Pd gz.2 (fr3:=jI||e.flat) (tr2:=e.flat||(Lo st (st.ev y)&&e.tree)) rfl (St.Db st1 dst _) k2 (k3 _ _ _ _ hyc) (by rw [Nat.zero_add];exact gz.1) (λht=>by
       rcases xG _ rfl ht with h0|⟨F,f1,f2⟩
       ·exact .inl h0
       ·exact .inr ⟨F,f1,f2.drop⟩)
      rw [<-VD] at this
      exact this
     ·cases he
    ·rename_i l off len hx
     rw [hx] at ME
     split at he
     ·rename_i fr tr e' tid xs hl
      split at he
      ·rename_i Et
       obtain ⟨rfl,rfl⟩:=Et
       split at he
       ·rename_i gz
        simp only [Option.some.injEq,Prod.mk.injEq] at he
        obtain ⟨rfl,rfl⟩:=he
        exact eE (ty:=ty) hT h1 cT Pd gz.2 (fr3:=jI||e'.flat) (tr2:=e'.flat||(Lo st (st.ev y)&&e'.tree)) rfl hl ME hyc gz.1 (xG _ rfl)
       ·cases he
      ·cases he
     ·cases he
    ·cases he
  ·cases he
theorem eO (hT:Bu P T) {st:St} {a:Act} (h:Af X π st a w) (dst:Nat) (t ty:TypeId) (x y:Operand) (av:AV) (st':St) (he:Kg T st dst t x y=some (av,st')):
  ∃v' w' π',(Builtin.append_ #[t,t] ty #[a.eval x,a.eval y]).run P w= .ok v' w'/\Af X π' st' a w'/\Ak X w' π' st'.heap av v':=by
 unfold Kg at he
 split at he
 ·rename_i tx
  split at he
  ·rename_i l i c hg
   split at he
   ·rename_i e te rows kp tid hl _
    split at he
    ·rename_i hc
     simp only [Bool.and_eq_true,Nat.blt_eq,Bool.not_eq_true'] at hc
     have cA:dst≠l:= λe=>by rw [e,Nat.beq_refl] at hc;cases hc.2.2
     unfold St.at at hl
     have hv:Dk X w π st.heap (.sub l i c) (a.tmps.getD tx undef):=by
      have:=h.2.tmps tx
      rw [hg] at this
      exact this
     obtain ⟨Uc,h1,h2⟩:=uW (tid:=tid) h hl cA hc.2.1 hc.1 hv
     have h3:=h1.put (some tx) (c:= .at (.own dst 0 (rows.getD i []).length)) h2
     have RN:a.put (some tx) (a.tmps.getD tx undef)=a:=by
      have:a.tmps.setIfInBounds tx (a.tmps.getD tx undef)=a.tmps:=by
       apply Array.ext_getElem?
       intro k
       rw [Array.getElem?_setIfInBounds]
       split
       ·rename_i e
        subst e
        split
        ·rename_i Gu
         rw [Array.getElem?_eq_getElem Gu];simp
        ·rename_i Gu
         rw [Array.getElem?_eq_none (by omega)]
       ·rfl
      simp only [Act.put,this]
     rw [RN] at h3
     exact Ot hT h3 dst t ty (.tmp tx) y av st' he
    ·cases he
   ·cases he
  ·exact Ot hT h dst t ty _ y av st' he
 ·exact Ot hT h dst t ty x y av st' he
theorem x6 {S:Nat->Prop} {e:Ty} (h:eu e=true): ∃z,Al e= [z]/\e.Ab=false/\e.size=1/\Cells w S e [z] e.zero/\z.oneCell'=true:=by
 cases e<;>simp [eu] at h
 ·exact ⟨_,rfl,rfl,rfl,rfl,rfl⟩
 ·exact ⟨_,rfl,rfl,rfl,rfl,rfl⟩
 ·exact ⟨_,rfl,rfl,rfl,rfl,rfl⟩
 ·exact ⟨_,rfl,rfl,rfl,⟨none,0,0,rfl,rfl,Nat.le_refl _, .inl rfl⟩,rfl⟩
 ·exact ⟨_,rfl,rfl,rfl, .inl ⟨rfl,0,rfl⟩,rfl⟩
theorem uu {e:Ty} {z:Value} (ht:e.tree=true) (h:eu e=true) (hz:Al e= [z]):Az w [] e [z] e.zero:=by
 cases e<;>simp [eu] at h<;>simp only [Al,List.cons.injEq,and_true] at hz<;>subst hz<;>try (simp [Ty.tree] at ht;done)
 ·exact ⟨rfl,rfl⟩
 ·exact ⟨rfl,rfl⟩
 ·exact ⟨rfl,rfl⟩
 ·exact ⟨none,0,0,rfl,rfl,Nat.le_refl _, .inl ⟨rfl,rfl,rfl,rfl⟩⟩
theorem EP {S:Nat->Prop} : ∀(e:Ty),Zi e=true->(Al e).length=e.size/\Cells w S e (Al e) e.zero/\(e.tree=true->Az w [] e (Al e) e.zero):=by
 intro e
 induction e with
 |unit=>intro _;exact ⟨rfl,rfl,λ_=>⟨rfl,rfl⟩⟩
 |pair a r ey cf=>
  intro h
  simp only [Zi,Bool.and_eq_true] at h
  obtain ⟨a1,a2,a3⟩:=ey h.1
  obtain ⟨r1,r2,r3⟩:=cf h.2
  exact ⟨by simp [Al,Ty.size,a1,r1],⟨_,_,rfl,a2,r2⟩,λht=>by simp only [Ty.tree,Bool.and_eq_true] at ht;exact ⟨_,_,[],[],rfl,rfl,a3 ht.1,r3 ht.2⟩⟩
 |_=>
  intro h
  simp only [Zi] at h
  obtain ⟨z,z1,z2,z3,z4,_⟩:=x6 (w:=w) (S:=S) h
  exact ⟨by rw [z1,z3];rfl,by rw [z1];exact z4,λht=>by rw [z1];exact uu ht h z1⟩
theorem xL {z:Array Value} {s m j q:Nat} (hz:z.size=s) (hj:j<m) (hq:q<s):(madeCells z (m*s))[j*s+q]?=z[q]?:=by
 have h1:j*s+q<m*s:=by
  have:=Nat.mul_le_mul_right s (show j+1<=m by omega)
  rw [Nat.succ_mul] at this
  omega
 have h2:(j*s+q)%z.size=q:=by rw [hz,Nat.mul_comm,Nat.mul_add_mod,Nat.mod_eq_of_lt hq]
 have h3:q<z.size:=by omega
 unfold madeCells
 simp [h1,h2,h3]
theorem kx (hT:Bu P T) {st:St} {a:Act} (h:Af X π st a w) (dst:Nat) (t:TypeId) (l c:AV) (vl vc:Value) (hl:Ak X w π st.heap l vl) (hc:Ak X w π st.heap c vc) (av:AV) (st':St)
  (he:Te T st dst t l c=some (av,st')): ∃v' w' π',(Instr.makeSlice t vl vc).run P w= .ok v' w'/\Af X π' st' a w'/\Ak X w' π' st'.heap av v':=by
 unfold Te at he
 split at he
 ·rename_i te IE k1 n jI k2 m cT
  have:=Jd hl;subst this
  have:=Jd hc;subst this
  split at he
  ·rename_i e Pd
   split at he
   ·rename_i Et
    obtain ⟨h0,QV,hz,IU⟩:=Et
    obtain ⟨h1,h2⟩:=Ma.1 h0
    subst QV
    simp only [Option.some.injEq,Prod.mk.injEq] at he
    obtain ⟨rfl,rfl⟩:=he
    obtain ⟨i,hi,Nb,jo,kM⟩:=(hT.ty te e Pd).info
    obtain ⟨z1,z4,z5⟩:=EP (w:=w) (S:=Ay X.w0.heap.size X.Sc π (T.mi||e.flat)) e hz
    have BP:(Am e (Al e)).cells=(Al e).toArray:=Ft e _ _ z4
    have hu:=hT.elem t te cT
    have hn:n.toNat<=4294967296:=by unfold Bs at h2;omega
    have hr:=run_make (P:=P) (w:=w) t te i _ hu hi kM k1 k2 n n h1 (Int.le_refl _) (by
     have:(i.bytes:Int)*n<=256*4294967296:=by
      obtain ⟨nn,rfl⟩:=Int.eq_ofNat_of_zero_le h1
      have h7:i.bytes*nn<=256*4294967296:=Nat.mul_le_mul jo (by simpa using hn)
      have h8:((i.bytes*nn:Nat):Int)<=256*4294967296:=by omega
      rwa [Int.natCast_mul] at h8
     omega) (by unfold Bs at h2;omega)
    rw [BP,Nb] at hr
    have Od:((Al e).toArray).size=e.size:=by simpa using z1
    have cell: ∀j,j<n.toNat-> ∀q u,(Al e)[q]?=some u->(madeCells (Al e).toArray (n.toNat*e.size)).toList[j*e.size+q]?=some u:=by
     intro j hj q u hu
     have hq:q<e.size:=by rw [<-z1];exact (List.getElem?_eq_some_iff.1 hu).1
     have:=xL Od hj hq
     rw [Array.getElem?_toList,this]
     simpa using hu
    have:=Yj (w1:=w.alloc (.cells (madeCells (Al e).toArray (n.toNat*e.size)) te)) h dst IU (T.mi||e.flat) (T.rm&&e.tree) e te (List.replicate n.toNat e.zero) (madeCells (Al e).toArray (n.toNat*e.size)).toList (madeCells (Al e).toArray (n.toNat*e.size)) n.toNat []
     (.inr rfl) (by rw [size_madeCells]) (by unfold maxLen;omega) (by simp)
     (λk u hu=>by
      rw [Array.getElem?_toList] at hu;exact hu) ⟨by simp [size_madeCells],λj x hx=>by
       have hj:=(List.getElem?_eq_some_iff.1 hx).1
       simp only [List.length_replicate] at hj
       refine ⟨Al e,z1,λq u hu=>cell j hj q u hu,?_⟩
       rw [List.eq_of_mem_replicate (List.mem_of_getElem? hx)];exact z4⟩ (by simp) (λff=>⟨List.nodup_nil,List.replicate n.toNat [],by simp,by simp,λj x F hx hF=>by
      have hj:=(List.getElem?_eq_some_iff.1 hx).1
      simp only [List.length_replicate] at hj
      refine ⟨Al e,z1,λq u hu=>cell j hj q u hu,?_⟩
      have e1:=List.eq_of_mem_replicate (List.mem_of_getElem? hx)
      have e2:=List.eq_of_mem_replicate (List.mem_of_getElem? hF)
      rw [e1,e2]
      exact z5 (by simp only [Bool.and_eq_true] at ff;exact ff.2)⟩)
    exact ⟨_,_,_,hr,this.1,this.2 _ (by simp)⟩
   ·cases he
  ·cases he
 ·cases he
theorem aO (off:Nat): ∀(us:List Value) (k:Nat) (cells:List Value),off+k+us.length<=cells.length->
  (us.zipIdx k).foldl (λcs p=>cs.setIfInBounds (off+p.2) p.1) cells.toArray=(Bk cells (off+k) us).toArray
 | [],k,cells,h=>by simp [Bk]
 |u::us,k,cells,h=>by
  simp only [List.zipIdx_cons,List.foldl_cons]
  rw [show cells.toArray.setIfInBounds (off+k) u=(cells.set (off+k) u).toArray by simp]
  rw [aO off us (k+1) (cells.set (off+k) u) (by simp at h⊢;omega)]
  congr 1
  apply List.ext_getElem?
  intro j
  have hl:off+k+(u::us).length<=cells.length:=h
  have GB:off+(k+1)+us.length<=(cells.set (off+k) u).length:=by simp at h⊢;omega
  rw [Ds _ _ _ _ hl,Ds _ _ _ _ GB]
  simp only [List.length_cons]
  by_cases h1:j<off+k
  ·rw [if_pos (by omega),if_pos h1,List.getElem?_set_ne (by omega)]
  ·rw [if_neg h1]
   by_cases h2:j=off+k
   ·subst h2
    rw [if_pos (by omega),if_pos (by omega),List.getElem?_set_self (by simp at h;omega)]
    simp
   ·rw [if_neg (by omega)]
    by_cases h3:j<off+k+(us.length+1)
    ·rw [if_pos (by omega),if_pos h3]
     rw [show j-(off+k)=(j-(off+(k+1)))+1 by omega,List.getElem?_cons_succ]
    ·rw [if_neg (by omega),if_neg h3,List.getElem?_set_ne (by omega)]
theorem nQ (place:Nat->Option (Nat×Nat)) (cells:List Value) (i:Nat) (v:Value) (rest:List (Nat×Value)) (off size:Nat) (us:List Value) (hp:place i=some (off,size)) (hv:v.cells=us.toArray)
  (hl:us.length=size) (hle:off+size<=cells.length):Instr.fill place cells.toArray ((i,v)::rest)=Instr.fill place (Bk cells off us).toArray rest:=by
 simp only [Instr.fill,hp,hv,List.size_toArray,hl]
 rw [if_neg (by simp;omega)]
 congr 1
 have:=aO off us 0 cells (by omega)
 simp only [Nat.add_zero] at this
 rw [<-this]
 simp
theorem Oo (e:Ty) {a:Act} : ∀(parts:List (Nat×Operand)) (i:Nat) (st:St) (π:Pi) (fr tr:Bool) (ys:List e.den) (st':St) (cells:List Value),Af X π st a w->Fz e i parts st=some (fr,tr,ys,st')->
  (i+parts.length)*e.size<=cells.length->
  ∃π' cl,Af X π' st' a w/\Flat w (Ay X.w0.heap.size X.Sc π' fr) e cl ys/\ys.length=parts.length/\Fm π π' st.heap st'.heap/\
   Instr.fill (λi=>some (i*e.size,e.size)) cells.toArray (parts.map λp=>(p.1,a.eval p.2))=some (Bk cells (i*e.size) cl).toArray/\
   (tr=true-> ∃Fs,Kz w e cl ys Fs/\ak X w π' (List.flatten Fs)/\ ∀b∈List.flatten Fs,∃l r,π l=some r/\r.cl b)
 | [],i,st,π,fr,tr,ys,st',cells,h,he,hle=>by
  simp only [Fz,Option.some.injEq,Prod.mk.injEq] at he
  obtain ⟨rfl,rfl,rfl,rfl⟩:=he
  exact ⟨π,[],h,Flat.nil,rfl,Fm.refl _ _,by simp [Instr.fill,Bk],λ_=>⟨[],⟨rfl,λi z F hz=>by simp at hz⟩,⟨List.nodup_nil,by simp⟩,by simp⟩⟩
 |(j,x)::r,i,st,π,fr,tr,ys,st',cells,h,he,hle=>by
  simp only [Fz] at he
  split at he
  ·rename_i dR;subst dR
   split at he
   ·rename_i v' st1 hs
    obtain ⟨Uc,h1,h2,h3,h4,h5⟩:=Tw h (Bj h.2 x) hs
    split at he
    ·rename_i IE y hv
     split at he
     ·rename_i jI tr2 zs TE hr
      simp only [Option.some.injEq,Prod.mk.injEq] at he
      obtain ⟨rfl,rfl,rfl,rfl⟩:=he
      obtain ⟨es,Xf,vh⟩:=Is e v' _ IE y h3 h2 hv
      have fb:=Cells.len e es y Xf
      have YE:i*e.size+e.size<=cells.length:=by
       have:(i+1)*e.size<=(i+((i,x)::r).length)*e.size:=Nat.mul_le_mul_right _ (by simp)
       rw [Nat.add_mul,Nat.one_mul] at this
       omega
      have xz:i*e.size+es.length<=cells.length:=by omega
      obtain ⟨zM,cl,g1,g2,g3,g4,g5,g6⟩:=Oo e r (i+1) st1 Uc jI tr2 zs TE (Bk cells (i*e.size) es) h1 hr (by
       rw [Eg _ _ _ xz]
       rw [show i+1+r.length=i+((i,x)::r).length by simp;omega];exact hle)
      have f1:Flat w (Ay X.w0.heap.size X.Sc zM IE) e es [y]:=⟨by simp [fb],λq z hz=>by
       rcases q with _|q
       ·simp at hz;subst hz
        exact ⟨es,fb,λj u hu=>by simpa using hu,pe g1 g4 e es y Xf⟩
       ·simp at hz⟩
      refine ⟨zM,es++cl,g1,?_,by simp [g3],h4.trans g4,?_,λht=>?_⟩
      ·have:=(f1.cells λes z hc=>hc.and_left (f2:=jI)).append (g2.cells λes z hc=>hc.and_right (f1:=IE))
       simpa using this
      ·simp only [List.map_cons]
       rw [nQ _ cells i (a.eval x) _ (i*e.size) e.size es rfl (by rw [vh];exact Ft e es y Xf) fb YE,g5]
       congr 2
       have Of:cl.length=r.length*e.size:=by rw [g2.1,g3]
       have Pb:(i+1)*e.size+cl.length<=(Bk cells (i*e.size) es).length:=by
        rw [Eg _ _ _ xz,Of,<-Nat.add_mul]
        rw [show i+1+r.length=i+((i,x)::r).length by simp;omega];exact hle
       have QG:i*e.size+(es++cl).length<=cells.length:=by
        rw [Eg _ _ _ xz] at Pb
        rw [List.length_append,fb]
        rw [Nat.add_mul,Nat.one_mul] at Pb
        omega
       have e1:(i+1)*e.size=i*e.size+es.length:=by rw [Nat.add_mul,Nat.one_mul,fb]
       apply List.ext_getElem?
       intro k
       rw [Ds _ _ _ _ Pb,Ds _ _ _ _ QG,Ds _ _ _ _ xz,e1,List.length_append]
       by_cases k1:k<i*e.size
       ·rw [if_pos (by omega),if_pos k1,if_pos k1]
       ·rw [if_neg k1,if_neg k1]
        by_cases k2:k<i*e.size+es.length
        ·rw [if_pos k2,if_pos k2,if_pos (by omega),List.getElem?_append_left (by omega)]
        ·rw [if_neg k2,if_neg k2]
         by_cases k3:k<i*e.size+es.length+cl.length
         ·rw [if_pos k3,if_pos (by omega),List.getElem?_append_right (by omega)]
          congr 1;omega
         ·rw [if_neg k3,if_neg (by omega)]
      ·simp only [Bool.and_eq_true] at ht
       obtain ⟨⟨ht1,JK⟩,ht3⟩:=ht
       obtain ⟨F,us,t1,t2,t3,t7⟩:=h5 ht1 e IE y JK hv
       obtain ⟨Fs,t4,t5,t6⟩:=g6 ht3
       have BO:us=es:=by
        have c1:=Az.cells (S:= λ_=>False) F e us y t1 (λ_ _ h=>h)
        have a1:=Ft e us y c1
        have a2:=Ft e es y Xf
        rw [<-t2,vh,a2] at a1
        simpa using a1.symm
       subst BO
       refine ⟨F::Fs,?_,?_,λb hb=>?_⟩
       ·have k1:Kz w e us [y] [F]:=⟨rfl,λq z G hz hG=>by
         rcases q with _|q
         ·simp at hz hG;subst hz;subst hG
          exact ⟨us,fb,λj u hu=>by simpa using hu,t1⟩
         ·simp at hz⟩
        exact Kz.append (by simp [fb]) k1 t4
       ·rw [List.flatten_cons]
        refine ⟨List.nodup_append.2 ⟨t3.1,t5.1,λb hb b' mj e=>?_⟩,λb hb=>?_⟩
        ·subst e
         obtain ⟨l,r,q1,q2⟩:=t6 b mj
         exact (t3.2 b hb).2.2 l r q1 q2
        ·rcases List.mem_append.1 hb with hb|hb
         ·have:=t3.2 b hb
          refine ⟨this.1,this.2.1,λl r q1 q2=>?_⟩
          cases hh:Ad TE.heap l with
          |none=>rw [(g1.1.heap l).emp hh] at q1;cases q1
          |some b'=>exact this.2.2 l r ((g4 l b' hh).1▸q1) q2
         ·exact t5.2 b hb
       ·rw [List.flatten_cons] at hb
        rcases List.mem_append.1 hb with hb|hb
        ·exact t7 b hb
        ·obtain ⟨l,r,q1,q2⟩:=t6 b hb
         cases hh:Ad st1.heap l with
         |none=>rw [(h1.1.heap l).emp hh] at q1;cases q1
         |some b'=>exact ⟨l,r,(h4 l b' hh).1▸q1,q2⟩
     ·cases he
    ·cases he
   ·cases he
  ·cases he
theorem aJ (hT:Bu P T) {st:St} {a:Act} (h:Af X π st a w) (dst:Nat) (t:TypeId) (len:Nat) (parts:Array (Nat×Operand)) (av:AV) (st':St)
  (he:Gr T st dst t len parts=some (av,st')):
  ∃v' w' π',(Instr.buildSlice t len (parts.map λ(i,x)=>(i,a.eval x))).run P w= .ok v' w'/\Af X π' st' a w'/\Ak X w' π' st'.heap av v':=by
 unfold Gr at he
 split at he
 ·cases he
 ·rename_i te cT
  split at he
  ·cases he
  ·rename_i e Pd
   split at he
   ·rename_i Et
    obtain ⟨cQ,hlen⟩:=Et
    split at he
    ·rename_i fr tr ys st1 hb
     simp only [Option.some.injEq,Prod.mk.injEq] at he
     obtain ⟨rfl,rfl⟩:=he
     obtain ⟨i,hi,Nb,jo,kM⟩:=(hT.ty te e Pd).info
     have hu:=hT.elem t te cT
     have yw:parts.toList.length=len:=by simpa using cQ
     have hz: ∃z:Array Value,(len*e.size=0/\z= #[])\/(¬len*e.size=0/\(zeroValue te).run P w= .ok (Am e (Al e)) w/\z=(Am e (Al e)).cells):=by
      by_cases h0:len*e.size=0
      ·exact ⟨#[], .inl ⟨h0,rfl⟩⟩
      ·exact ⟨_, .inr ⟨h0,by simp [zeroValue,typeInfo,hi,kM],rfl⟩⟩
     obtain ⟨z,hz⟩:=hz
     obtain ⟨Uc,cl,g1,g2,g3,g4,g5,g6⟩:=Oo e parts.toList 0 st π fr tr ys st1 ((Array.range (len*e.size)).map (z[· %z.size]!)).toList h hb (by simp [yw])
     have Of:cl.length=len*e.size:=by rw [g2.1,g3,yw]
     have BN:(Bk ((Array.range (len*e.size)).map (z[· %z.size]!)).toList (0*e.size) cl)=cl:=by
      simp [Bk,Of]
     rw [BN] at g5
     have Nc:(Instr.buildSlice t len (parts.map λ(i,x)=>(i,a.eval x))).run P w= .ok (.slice (some ⟨w.heap.size,0,none⟩) len len) (w.alloc (.cells cl.toArray te)):=by
      have WC: ¬(len*e.size>2^24):=by
       have:len*e.size<=64*64:=Nat.mul_le_mul hlen.1 hlen.2.1
       omega
      simp only [Instr.buildSlice,Sem.run_bind,run_underlying hu,Result.andThen_ok,(hT.ty te e Pd).size,if_neg WC]
      have e1:(parts.map λ(i,x)=>(i,a.eval x)).toList=parts.toList.map λp=>(p.1,a.eval p.2):=by simp
      simp only [e1]
      have e2:(((Array.range (len*e.size)).map (z[· %z.size]!)).toList.toArray)=(Array.range (len*e.size)).map (z[· %z.size]!):=Array.toArray_toList
      rw [e2] at g5
      rcases hz with ⟨h0,rfl⟩|⟨h0,hz,rfl⟩
      ·rw [if_pos h0]
       simp only [Sem.run_bind,Sem.run_pure,Result.andThen_ok,g5,newRow]
       simp
      ·rw [if_neg h0]
       simp only [Sem.run_bind,Sem.run_pure,Result.andThen_ok,hz,g5,newRow]
       simp
     have hN: ∃N:List Nat,(∀b∈N,(X.w0.heap.size<=b\/X.gv b)/\b<w.heap.size/\ ∀m r0,m≠dst->Uc m=some r0-> ¬r0.cl b)/\(tr=true->N.Nodup/\ ∃Fs,List.flatten Fs=N/\Kz w e cl ys Fs):=by
      cases tr with
      |false=>exact ⟨[],by simp,λh=>by cases h⟩
      |true=>
       obtain ⟨Fs,t1,t2,_⟩:=g6 rfl
       exact ⟨_,λb hb=>⟨(t2.2 b hb).1,(t2.2 b hb).2.1,λm r0 _=>(t2.2 b hb).2.2 m r0⟩,λ_=>⟨t2.1,Fs,rfl,t1⟩⟩
     obtain ⟨N,q1,q2⟩:=hN
     have:=Yj (w1:=w.alloc (.cells cl.toArray te)) g1 dst hlen.2.2 ((T.mi||e.flat)&&fr) (T.rm&&tr) e te ys cl cl.toArray len N (.inr rfl) (by simpa using Of) (by simp only [maxLen];omega) (by omega) (λk u hu=>by simpa using hu) (g2.cells λes z hc=>hc.and_right) q1 (λht=>q2 (by simp only [Bool.and_eq_true] at ht;exact ht.2))
     exact ⟨_,_,_,Nc,this.1,this.2 _ (by omega)⟩
    ·cases he
   ·cases he
theorem dO {t te:TypeId} {e:Ty} (h:Wf T t=some (te,e)):T.elem t=some te/\T.ty te=some (.slice e):=by
 unfold Wf at h
 cases he:T.elem t with
 |none=>rw [he] at h;cases h
 |some Kd=>
  rw [he] at h
  simp only [Option.bind_some] at h
  cases hg:T.xq Kd with
  |none=>rw [hg] at h;cases h
  |some e'=>
   rw [hg] at h
   simp only [Option.map_some,Option.some.injEq,Prod.mk.injEq] at h
   obtain ⟨rfl,rfl⟩:=h
   refine ⟨rfl,?_⟩
   unfold Tab.xq at hg
   split at hg
   ·split at hg
    ·rename_i Pd;simp only [Option.some.injEq] at hg;subst hg;exact Pd
    ·cases hg
   ·cases hg
theorem eF (w:World) (o:Obj):Fl w.heap.size (λ_=>False) w (w.alloc o):=⟨rfl,rfl,rfl,by simp,λk hk _=>Below.heap_alloc w _ k hk⟩
theorem iA (w:World) (o:Obj):Fl w.heap.size (λ_=>False) w (w.drew.alloc o):=⟨rfl,rfl,rfl,by simp,λk hk _=>Below.heap_alloc w.drew _ k hk⟩
theorem jm (hT:Bu P T) {st:St} {a:Act} (h:Af X π st a w) (dst:Nat) (t:TypeId) (l c:AV) (vl vc:Value) (hl:Ak X w π st.heap l vl) (hc:Ak X w π st.heap c vc) (av:AV) (st':St)
  (he:Ox T st dst t l c=some (av,st')): ∃v' w' π',(Instr.makeSlice t vl vc).run P w= .ok v' w'/\Af X π' st' a w'/\Ak X w' π' st'.heap av v':=by
 unfold Ox at he
 split at he
 ·exact kx hT h dst t l c vl vc hl hc av st' he
 ·rename_i te e hg
  obtain ⟨cT,Pd⟩:=dO hg
  split at he
  ·rename_i IE k1 n jI k2 m
   have:=Jd hl;subst this
   have:=Jd hc;subst this
   split at he
   ·rename_i Et
    obtain ⟨h0,QV,IU⟩:=Et
    obtain ⟨h1,h2⟩:=Ma.1 h0
    subst QV
    simp only [Option.some.injEq,Prod.mk.injEq] at he
    obtain ⟨rfl,rfl⟩:=he
    obtain ⟨i,hi,Nb,jo,kM⟩:=(hT.ty te _ Pd).info
    have hu:=hT.elem t te cT
    have hn:n.toNat<=4294967296:=by unfold Bs at h2;omega
    have hr:=run_make (P:=P) (w:=w) t te i _ hu hi kM k1 k2 n n h1 (Int.le_refl _) (by
     have:(i.bytes:Int)*n<=256*4294967296:=by
      obtain ⟨nn,rfl⟩:=Int.eq_ofNat_of_zero_le h1
      have h7:i.bytes*nn<=256*4294967296:=Nat.mul_le_mul jo (by simpa using hn)
      have h8:((i.bytes*nn:Nat):Int)<=256*4294967296:=by omega
      rwa [Int.natCast_mul] at h8
     omega) (by unfold Bs at h2;omega)
    have BP:(Am (Ty.slice e) (Al (Ty.slice e))).cells= #[.slice none 0 0]:=by simp [Am,Ty.Ab,Al,Value.cells]
    have jN:(Ty.slice e).size=1:=rfl
    rw [BP,Nb,jN] at hr
    have cell: ∀j,j<n.toNat->(madeCells #[Value.slice none 0 0] (n.toNat*1))[0+j]?=some (.slice none 0 0):=by
     intro j hj
     have:=xL (z:= #[Value.slice none 0 0]) (s:=1) (m:=n.toNat) (j:=j) (q:=0) rfl hj (by omega)
     simp only [Nat.mul_one,Nat.add_zero] at this
     simp only [Nat.mul_one,Nat.zero_add]
     rw [this];rfl
    obtain ⟨π',g1,g2⟩:=Qm (w1:=w.alloc (.cells (madeCells #[Value.slice none 0 0] (n.toNat*1)) te)) (gv:= λ_=>False) h IU IU te (e:=e) (rows:=List.replicate n.toNat []) (us:=List.replicate n.toNat (.slice none 0 0)) (Rs:=List.replicate n.toNat none) (g:=w.heap.size) (o:=0) (cap:=n.toNat)
     (λ_ hf=>hf.elim) (eF w _) ⟨.inl (Nat.le_refl _),by simp⟩ (heap_alloc_new w _) (by rw [size_madeCells];omega) (by unfold maxLen;omega) (by simp) (λj u hu=>by
      have hj:=(List.getElem?_eq_some_iff.1 hu).1
      simp only [List.length_replicate] at hj
      rw [cell j hj,List.eq_of_mem_replicate (List.mem_of_getElem? hu)])
     ⟨by simp,by simp,λi j q q' h1=>(by have:=List.eq_of_mem_replicate (List.mem_of_getElem? h1);cases this),λi x hx=>by
      have hj:=(List.getElem?_eq_some_iff.1 hx).1
      simp only [List.length_replicate] at hj
      rw [List.eq_of_mem_replicate (List.mem_of_getElem? hx)]
      exact ⟨.slice none 0 0,none,by rw [List.getElem?_replicate,if_pos hj],by rw [List.getElem?_replicate,if_pos hj],⟨rfl,rfl,rfl⟩,rfl⟩⟩
     (λi q h1=>by have:=List.eq_of_mem_replicate (List.mem_of_getElem? h1);cases this)
    exact ⟨_,_,π',hr,g1,g2 _ (by simp)⟩
   ·cases he
  ·cases he
theorem ae (hT:Bu P T) {st:St} {a:Act} (h:Af X π st a w) (dst:Nat) (t:TypeId) (len:Nat) (parts:Array (Nat×Operand)) (av:AV) (st':St)
  (he:Eh T st dst t len parts=some (av,st')):
  ∃v' w' π',(Instr.buildSlice t len (parts.map λ(i,x)=>(i,a.eval x))).run P w= .ok v' w'/\Af X π' st' a w'/\Ak X w' π' st'.heap av v':=by
 unfold Eh at he
 split at he
 ·exact aJ hT h dst t len parts av st' he
 ·rename_i te e hg
  obtain ⟨cT,Pd⟩:=dO hg
  split at he
  rotate_left
  ·cases he
  rename_i x LP
  split at he
  rotate_left
  ·cases he
  rename_i m off ln hx
  split at he
  rotate_left
  ·cases he
  rename_i fr tr e' tid xs hm
  split at he
  rotate_left
  ·cases he
  rename_i hc
  obtain ⟨rfl,hc,rfl,rfl⟩:=hc
  simp only [Bool.and_eq_true,Nat.blt_eq] at hc
  obtain ⟨hlen,IU,EY⟩:=hc
  have hlen:len=1:=Nat.eq_of_beq_eq_true hlen
  subst hlen
  simp only [Option.some.injEq,Prod.mk.injEq] at he
  obtain ⟨rfl,rfl⟩:=he
  have hu:=hT.elem t te cT
  unfold St.at at hm
  have RL:=Bj h.2 x
  rw [hx] at RL
  obtain ⟨_,mn⟩:=Ij (X:=X) (w:=w) RL hm
  obtain ⟨ax,nx,cx,GN⟩:=Se mn
  have hp:parts= #[(0,x)]:=by apply Array.ext';simpa using LP
  subst hp
  obtain ⟨i,hi,Nb,jo,kM⟩:=(hT.ty te _ Pd).info
  have Nc:(Instr.buildSlice t 1 (#[(0,x)].map λ(i,x)=>(i,a.eval x))).run P w= .ok (.slice (some ⟨w.heap.size,0,none⟩) 1 1) (w.alloc (.cells #[a.eval x] te)):=by
   have jN:(Ty.slice e').size=1:=rfl
   have hz:(zeroValue te).run P w= .ok (.slice none 0 0) w:=by simp [zeroValue,typeInfo,hi,kM,Am,Ty.Ab,Al]
   have EY:(#[(0,x)].map λ(i,x)=>(i,a.eval x))= #[(0, .slice ax nx cx)]:=by simp [GN]
   rw [EY,GN]
   simp only [Instr.buildSlice,Sem.run_bind,run_underlying hu,Result.andThen_ok,(hT.ty te _ Pd).size,jN]
   simp [Value.cells,Instr.fill,newRow,hz]
   congr 2
   apply Array.ext
   ·simp
   ·intro i h1 h2
    have h0:i=0:=by simpa using h2
    subst h0
    simp
  have uv:=(h.1.heap m).La hm
  simp only [Ao,Ew] at uv
  have XI:Ld w (Ay X.w0.heap.size X.Sc π false) (π m) e' xs:=by
   cases hR:π m with
   |none=>rw [hR] at uv;exact uv
   |some q=>
    rw [hR] at uv
    obtain ⟨⟨f0,WA,_⟩,cu,FB,f2,f3,f4,f5,f6,_⟩:=uv
    exact ⟨⟨f0,WA⟩,cu,FB,f2,f3,f4,f5,λp y hy=>by
     obtain ⟨es,g1,g2,g3⟩:=f6 p y hy
     exact ⟨es,g1,g2,Cells.Cj (Nat.le_refl _) (λ_ _ _=>rfl) (λb _ hA=>hA.imp id (Or.imp id λ⟨h1,_⟩=>by cases h1)) e' es y g3⟩⟩
  obtain ⟨π',g1,g2⟩:=Qm (w1:=w.alloc (.cells #[a.eval x] te)) (gv:= λ_=>False) h IU EY te (e:=e') (rows:= [xs]) (us:= [a.eval x]) (Rs:= [π m]) (g:=w.heap.size) (o:=0) (cap:=1)
   (λ_ hf=>hf.elim) (eF w _) ⟨.inl (Nat.le_refl _),by simp⟩ (heap_alloc_new w _) rfl (by unfold maxLen;omega) (by simp) (λj u hu=>by
    rcases j with _|j
    ·simpa using hu
    ·simp at hu)
   ⟨rfl,rfl,λi j q q' h1 h2 _=>by
    rcases i with _|i
    ·rcases j with _|j
     ·rfl
     ·simp at h2
    ·simp at h1,λi y hy=>by
    rcases i with _|i
    ·simp only [List.getElem?_cons_zero,Option.some.injEq] at hy
     subst hy
     exact ⟨_,_,rfl,rfl,mn,XI⟩
    ·simp at hy⟩
   (λi q h1=>by
    rcases i with _|i
    ·simp only [List.getElem?_cons_zero,Option.some.injEq] at h1
     have hf:=h.1.Ar h1
     have:=(h.1.place m q _ h1 (h.1.sub m q _ h1 hf)).2
     exact ⟨by omega,λh=>h,m,q, .inr rfl,h1,hf⟩
    ·simp at h1)
  exact ⟨_,_,π',Nc,g1,g2 1 rfl⟩
theorem eP (hT:Bu P T) {st:St} {a:Act} (h:Af X π st a w) (dst:Nat) (t ty:TypeId) (x y:Operand) (av:AV) (st':St) (he:Kh T st dst t x y=some (av,st')):
  ∃v' w' π',(Builtin.append_ #[t,t] ty #[a.eval x,a.eval y]).run P w= .ok v' w'/\Af X π' st' a w'/\Ak X w' π' st'.heap av v':=by
 unfold Kh at he
 split at he
 ·exact eO hT h dst t ty x y av st' he
 ·rename_i te e hg
  obtain ⟨cT,Pd⟩:=dO hg
  split at he
  rotate_left
  ·cases he
  rename_i l off len m CP kY hx hy
  split at he
  rotate_left
  ·cases he
  rename_i e1 VP A kp1 e2 nw B kp2 hl hm
  split at he
  rotate_left
  ·cases he
  rename_i hc
  obtain ⟨⟨rfl,rfl⟩,hc,⟨rfl,rfl⟩,⟨rfl,rfl⟩,hB,gz⟩:=hc
  simp only [Bool.and_eq_true,Nat.blt_eq,decide_eq_true_eq,Bool.not_eq_true'] at hc
  obtain ⟨⟨rfl,rfl⟩,mJ,EY,cA⟩:=hc
  have cA:m≠l:= λe=>by rw [e,Nat.beq_refl] at cA;cases cA
  simp only [Option.some.injEq,Prod.mk.injEq] at he
  obtain ⟨rfl,rfl⟩:=he
  have hu:=hT.elem t nw cT
  obtain ⟨i,hi,Nb,jo,kM⟩:=(hT.ty nw _ Pd).info
  have Nb:i.size=1:=Nb
  unfold St.at at hl hm
  have RL:=Bj h.2 x
  have hry:=Bj h.2 y
  rw [hx] at RL;rw [hy] at hry
  obtain ⟨b1,s1,n1,q1,q2,_,UY⟩:=RL
  rw [hl] at q1;cases q1
  simp only [OB.row,Option.some.injEq,Prod.mk.injEq] at q2
  obtain ⟨rfl,rfl⟩:=q2
  obtain ⟨b2,s2,n2,q1,q2,_,hoy⟩:=hry
  rw [hm] at q1;cases q1
  simp only [OB.row,Option.some.injEq,Prod.mk.injEq] at q2
  obtain ⟨rfl,rfl⟩:=q2
  have hA:=((h.1.heap l).La hl).1
  have OA:=((h.1.heap m).La hm).1
  cases FA:π m with
  |none=>
   rw [FA] at OA
   have OA:B= []:=OA
   subst OA;simp at hB
  |some rB=>
  rw [FA] at OA hoy
  obtain ⟨fB,Abn,tiB,uB,RB,w1B,w2B,w3B,w4B,w5B,w6B,OX,LB⟩:=nT OA
  obtain ⟨adB,hvy,hcB,WR⟩:=hoy
  have WR:=WR (by omega)
  subst WR
  have hlB:=LB.1
  have MK:uB.length=B.length*i.size:=by rw [Nb,Nat.mul_one];exact hlB
  have ML: ∀j u,uB[j]?=some u->w.cell? ((⟨rB.g,(rB.o+0)*1,none⟩:Addr).add j)=some u:= λj u hu=>by
   rw [Addr.add_lit,cellOf w1B,Nat.mul_one,Nat.add_zero];exact w5B j u hu
  have kJ:(A.length+B.length)*i.bytes<=140737488355328:=by
   have:(A.length+B.length)*i.bytes<=4294967296*256:=Nat.mul_le_mul gz jo
   omega
  have aV:A.length+B.length<=maxLen:=by unfold Bs at gz;simp only [maxLen];omega
  have SB:(Am (Ty.slice e2) (Al (Ty.slice e2))).cells.size=1:=by simp [Am,Ty.Ab,Al,Value.cells]
  have Nm: ∀(k:Nat) (q:Real) (Rs:List (Option Real)),π k=some q->(∀(i:Nat) (p:Real),Rs[i]?=some (some p)->q.Ar p.g/\p.g≠q.g)-> ∀(i:Nat) (p:Real),Rs[i]?=some (some p)->p.g<w.heap.size:= λk q Rs h1 h2 i p h3=>
   (h.1.place k q _ h1 (h.1.sub k q _ h1 (h2 i p h3).1)).2
  cases cQ:π l with
  |none=>
   rw [cQ] at hA UY
   have hA:A= []:=hA
   subst hA
   obtain ⟨GN,_,_⟩:=UY
   rw [GN,hvy]
   simp only [List.length_nil,Nat.zero_add,List.nil_append] at gz kJ aV⊢
   have hr:=run_append_nil (P:=P) w t ty nw i _ hu hi kM ⟨rB.g,(rB.o+0)*1,none⟩ B.length (rB.cap-0) uB MK ML hB (by simp only [maxLen] at aV;omega) (by omega)
   have mD:=grownCap_ge w B.length 0 nw
   have FV:=grownCap_le_maxLen w B.length 0 nw (by omega)
   obtain ⟨π',g1,g2⟩:=Qm (w1:=w.drew.alloc (.cells (uB.toArray++Builtin.zeroCells (Am (Ty.slice e2) (Al (Ty.slice e2))).cells (grownCap w B.length 0 nw-B.length)) nw)) (gv:= λ_=>False) h mJ EY nw (e:=e2) (rows:=B) (us:=uB) (Rs:=RB) (g:=w.heap.size) (o:=0) (cap:=grownCap w B.length 0 nw)
    (λ_ hf=>hf.elim) (iA w _) ⟨.inl (Nat.le_refl _),by simp⟩ (heap_alloc_new w.drew _) (by rw [Array.size_append,List.size_toArray,Md,SB];omega) FV mD (λj u hu=>by
     have hj:=(List.getElem?_eq_some_iff.1 hu).1
     rw [Nat.zero_add,Array.getElem?_append_left (by simpa using hj)];simpa using hu)
    LB (λi q h1=>⟨by have:=Nm m rB RB FA OX i q h1;omega,λh=>h,m,rB, .inr rfl,FA,(OX i q h1).1⟩)
   exact ⟨_,_,π',hr,g1,g2 _ rfl⟩
  |some rA=>
   rw [cQ] at hA UY
   obtain ⟨fA,yh,tiA,uA,RA,VR,w2A,w3A,w4A,w5A,w6A,VS,LA⟩:=nT hA
   obtain ⟨adA,GN,hcA,UG⟩:=UY
   have hlA:=LA.1
   rw [GN,hvy]
   have apart: ∀(i j:Nat) (q q':Real),RA[i]?=some (some q)->RB[j]?=some (some q')->q.g≠q'.g:= λi j q q' h1 h2 e=>by
    have:=h.1.apart cQ FA (VS i q h1).1 (e▸(OX j q' h2).1)
    exact cA this.symm
   have LAB:=jS.append LA LB apart
   have Ev: ∀(i:Nat) (q:Real),RB[i]?=some (some q)->q.g≠rA.g:= λi q h1 e=>cA (h.1.apart FA cQ (OX i q h1).1 (e▸fA))
   have IM: ∀(i:Nat) (q:Real),(RA++RB)[i]?=some (some q)->q.g≠rA.g/\q.g<w.heap.size/\ ∃k p,(k=l\/k=m)/\π k=some p/\p.Ar q.g:= λi q h1=>by
    by_cases hi:i<RA.length
    ·rw [List.getElem?_append_left hi] at h1
     exact ⟨(VS i q h1).2,Nm l rA RA cQ VS i q h1,l,rA, .inl rfl,cQ,(VS i q h1).1⟩
    ·rw [List.getElem?_append_right (by omega)] at h1
     exact ⟨Ev _ q h1,Nm m rB RB FA OX _ q h1,m,rB, .inr rfl,FA,(OX _ q h1).1⟩
   by_cases sw:A.length+B.length<=rA.cap-0
   ·have UG:=UG (by omega)
    subst UG
    have Pb:(rA.o+0)*1+A.length*i.size+uB.length<=yh.size:=by rw [Nb];omega
    have Qp:(rA.o+0)*1+A.length*i.size+uB.length<=yh.toList.length:=by simpa using Pb
    have hr:=Rn (P:=P) (w:=w) (ty:=ty) hu hi rA.g ((rA.o+0)*1) A.length (rA.cap-0) yh tiA VR ⟨rB.g,(rB.o+0)*1,none⟩ B.length (rB.cap-0) uB MK ML w6B sw Pb
    have kL:=Hl w rA.g (Bk yh.toList ((rA.o+0)*1+A.length*i.size) uB).toArray
    obtain ⟨π',g1,g2⟩:=Qm (w1:=w.setRow rA.g (Bk yh.toList ((rA.o+0)*1+A.length*i.size) uB).toArray) (gv:= λb=>b=rA.g) h mJ EY nw (e:=e2) (rows:=A++B) (us:=uA++uB) (Rs:=RA++RB) (g:=rA.g) (o:=rA.o) (cap:=rA.cap)
     (λb hb=>⟨l,rA, .inl rfl,cQ,hb▸fA⟩) ⟨kL.os,kL.tape,kL.output,kL.size,λc _ hc=>setRow_other w rA.g c _ hc⟩ ⟨.inr ⟨l,rA, .inl rfl,cQ,fA⟩,Nat.lt_of_lt_of_le (Cr VR) kL.size⟩
     (setRow_heap w rA.g yh _ tiA _ VR) (by rw [List.size_toArray,Eg _ _ _ Qp,Array.length_toList];exact w2A) w3A (by simp;omega) (λj u hu=>by
      rw [List.getElem?_toArray,Ds _ _ _ _ Qp,Nb]
      by_cases hj:j<uA.length
      ·rw [List.getElem?_append_left hj] at hu
       rw [if_pos (by omega),Array.getElem?_toList]
       exact w5A j u hu
      ·rw [List.getElem?_append_right (by omega)] at hu
       have:=(List.getElem?_eq_some_iff.1 hu).1
       rw [if_neg (by omega),if_pos (by omega)]
       rw [show rA.o+j-((rA.o+0)*1+A.length*1)=j-uA.length by omega]
       exact hu)
     LAB (λi q h1=>⟨(IM i q h1).1,(IM i q h1).1,(IM i q h1).2.2⟩)
    have:=g2 (A.length+B.length) (by simp)
    have e0:(rA.o+0)*1=rA.o:=by omega
    simp only [e0,Nat.sub_zero] at hr g1 this⊢
    exact ⟨_,_,π',hr,g1,this⟩
   ·have hold: ∀j u,uA[j]?=some u->w.cell? (adA.add j)=some u:=by
     intro j u hu
     have hj:=(List.getElem?_eq_some_iff.1 hu).1
     rw [UG (by omega),Addr.add_lit,cellOf VR,Nat.mul_one,Nat.add_zero];exact w5A j u hu
    have hr:=run_append_grow (P:=P) w t ty nw i _ hu hi kM adA A.length (rA.cap-0) uA (by rw [Nb,Nat.mul_one];exact hlA) hold ⟨rB.g,(rB.o+0)*1,none⟩ B.length (rB.cap-0) uB MK ML (by omega) (by simp only [maxLen] at aV;omega) (growslice_fits (by omega) kJ)
    have mD:=grownCap_ge w (A.length+B.length) (rA.cap-0) nw
    have FV:=grownCap_le_maxLen w (A.length+B.length) (rA.cap-0) nw aV
    obtain ⟨π',g1,g2⟩:=Qm (w1:=w.drew.alloc (.cells (uA.toArray++uB.toArray++Builtin.zeroCells (Am (Ty.slice e2) (Al (Ty.slice e2))).cells (grownCap w (A.length+B.length) (rA.cap-0) nw-(A.length+B.length))) nw)) (gv:= λ_=>False) h mJ EY nw (e:=e2) (rows:=A++B) (us:=uA++uB) (Rs:=RA++RB) (g:=w.heap.size) (o:=0) (cap:=grownCap w (A.length+B.length) (rA.cap-0) nw)
     (λ_ hf=>hf.elim) (iA w _) ⟨.inl (Nat.le_refl _),by simp⟩ (heap_alloc_new w.drew _) (by rw [Array.size_append,Array.size_append,List.size_toArray,List.size_toArray,Md,SB];omega) FV (by simpa using mD) (λj u hu=>by
      have hj:=(List.getElem?_eq_some_iff.1 hu).1
      rw [Nat.zero_add,Array.getElem?_append_left (by simpa using hj)];simpa using hu)
     LAB (λi q h1=>⟨by have:=(IM i q h1).2.1;omega,λh=>h,(IM i q h1).2.2⟩)
    exact ⟨_,_,π',hr,g1,g2 _ (by simp)⟩
theorem dw: ∀τ:Ty,Cl X w π H (zeroCells τ) (Al τ):=by
 have one: ∀(c:AC) (v:Value),v.oneCell'=true->Dk X w π H c v->Cl X w π H [c] [v]:= λc v h1 h2=>⟨rfl,λi c' hc=>by
  rcases i with _|i
  ·simp at hc;subst hc;exact ⟨v,rfl,h1,h2⟩
  ·simp at hc⟩
 intro τ
 induction τ with
 |unit=>exact ⟨rfl,λi c hc=>by simp [zeroCells] at hc⟩
 |pair a r ey cf=>
  refine ⟨by simp [zeroCells,Al,ey.1,cf.1],λi c hc=>?_⟩
  simp only [zeroCells] at hc
  simp only [Al]
  by_cases hi:i<(zeroCells a).length
  ·rw [List.getElem?_append_left hi] at hc
   obtain ⟨u,hu,h⟩:=ey.2 i c hc
   exact ⟨u,by rw [List.getElem?_append_left (by rw [ey.1];exact hi)];exact hu,h⟩
  ·rw [List.getElem?_append_right (by omega)] at hc
   obtain ⟨u,hu,h⟩:=cf.2 _ c hc
   exact ⟨u,by rw [List.getElem?_append_right (by rw [ey.1];omega),ey.1];exact hu,h⟩
 |int k=>exact one (.data true _ _) _ rfl (Hx (H:=H) k 0 true)
 |bool=>exact one (.data true _ _) _ rfl (Gz (H:=H) false true)
 |str=>exact one (.data true _ _) _ rfl (gL (H:=H) ByteArray.empty true)
 |slice e=>exact one _ _ rfl rfl
 |oslice e=>exact one _ _ rfl rfl
 |ptr e=>exact one _ _ rfl rfl
 |optr e=>exact one _ _ rfl rfl
 |smap v=>exact one (.data true _ _) _ rfl ⟨[.map none], .inl ⟨rfl,rfl⟩,by simp [Am,Ty.Ab]⟩
 |clo f c=>exact one .undef .nilFunc rfl trivial
theorem Vs (hT:Bu P T) {st:St} {a:Act} (h:Af X π st a w) (t:TypeId) (Hy:Array (Nat×Nat))
  (cQ: ∀f o u ρ,T.off t f=some (o,u)->T.ty u=some ρ->Hy[f]?=some (o,ρ.size)): ∀(parts:List (Nat×Operand)) (cs aH:List AC) (us:List Value),Cl X w π st.heap cs us->
  Gq T st t parts cs=some aH-> ∃Qz:List Value,Instr.fill (λi=>Hy[i]?) us.toArray (parts.map λp=>(p.1,a.eval p.2))=some Qz.toArray/\Cl X w π st.heap aH Qz
 | [],cs,aH,us,hr,he=>by
  simp only [Gq,Option.some.injEq] at he;subst he
  exact ⟨us,rfl,hr⟩
 |(f,x)::r,cs,aH,us,hr,he=>by
  simp only [Gq] at he
  split at he
  ·rename_i o u ho
   split at he
   ·rename_i ρ SD
    split at he
    ·rename_i c hc
     split at he
     ·rename_i hle
      obtain ⟨vs,hv,hl,JI⟩:=az (Bj h.2 x) hc
      have e1:=hr.1
      have e2:=JI.1
      obtain ⟨Qz,g1,g2⟩:=Vs hT h t Hy cQ r _ aH _ (lS hr JI o hle) he
      refine ⟨Qz,?_,g2⟩
      simp only [List.map_cons]
      rw [nQ _ us f (a.eval x) _ o ρ.size vs (cQ f o u ρ ho SD) hv hl (by omega)]
      exact g1
     ·cases he
    ·cases he
   ·cases he
  ·cases he
theorem Zm (hT:Bu P T) {st:St} {a:Act} (h:Af X π st a w) (t:TypeId) (parts:Array (Nat×Operand)) (av:AV) (he:Ou T st t parts=some av):
  ∃v',(Instr.build t (parts.map λ(i,x)=>(i,a.eval x))).run P w= .ok v' w/\Ak X w π st.heap av v':=by
 unfold Ou at he
 split at he
 ·cases he
 ·rename_i τ Pd
  split at he
  ·rename_i hs
   cases hb:Gq T st t parts.toList (zeroCells τ) with
   |none=>rw [hb] at he;cases he
   |some aH=>
    rw [hb] at he
    simp only [Option.map_some,Option.some.injEq] at he;subst he
    obtain ⟨fs,Hy,h1,h2,h3⟩:=hT.fill t τ Pd hs
    obtain ⟨i,hi,Nb,jo,kM⟩:=(hT.ty t τ Pd).info
    obtain ⟨Qz,g1,g2⟩:=Vs hT h t Hy h3 parts.toList (zeroCells τ) aH (Al τ) (dw τ) hb
    refine ⟨.agg Qz.toArray,?_,Qz,rfl,g2⟩
    have hz:(zeroValue t).run P w= .ok (Am τ (Al τ)) w:=by simp [zeroValue,typeInfo,hi,kM]
    have BP:(Am τ (Al τ)).cells=(Al τ).toArray:=by simp [Am,hs,Value.cells]
    have IH:=h2 w
    unfold placesOf at IH
    have e1:(parts.map λ(i,x)=>(i,a.eval x)).toList=parts.toList.map λp=>(p.1,a.eval p.2):=by simp
    simp only [Instr.build,Sem.run_bind,hz,Result.andThen_ok,run_underlying h1,IH,BP,e1,g1,Sem.run_pure]
  ·cases he
theorem lD {st:St} {v:AV} (h:v.settled=true):settle st v=some (v,st):=by
 cases v with
 | «at»a=>cases a<;>simp [AV.settled,AC.settled] at h<;>simp [settle,AC.settled]
 |agg cs=>
  have hs:cs.all (·.settled)=true:=h
  have:Dd cs.length st cs=some (cs,st):=by
   cases hn:cs.length with
   |zero=>simp [Dd,hs]
   |succ n=>
    have hf:cs.find? (λc=>!c.settled)=none:=List.find?_eq_none.2 λc hc=>by simpa using List.all_eq_true.1 hs c hc
    simp [Dd,hf]
  simp [settle,this]
 |Sv fr τ x=>rfl
 |Hz l=>simp [AV.settled] at h
theorem fD {e:Ty} {st:St} : ∀(parts:List (Nat×Operand)) (i:Nat) (fr:Bool) (ys:List e.den),Yl e i parts st=some (fr,ys)-> ∃tr,Fz e i parts st=some (fr,tr,ys,st)
 | [],i,fr,ys,h=>by
  simp only [Yl,Option.some.injEq,Prod.mk.injEq] at h
  obtain ⟨rfl,rfl⟩:=h
  exact ⟨true,rfl⟩
 |(j,x)::r,i,fr,ys,h=>by
  simp only [Yl] at h
  split at h
  ·rename_i hc
   split at h
   ·rename_i f1 y f2 zs h1 h2
    simp only [Option.some.injEq,Prod.mk.injEq] at h
    obtain ⟨rfl,rfl⟩:=h
    obtain ⟨tr,h3⟩:=fD r (i+1) f2 zs h2
    refine ⟨Lo st (st.ev x)&&e.tree&&tr,?_⟩
    simp only [Fz]
    rw [if_pos hc.1,lD hc.2]
    simp only [h1,h3]
   ·cases h
  ·cases h
theorem gk (hT:Bu P T) {st:St} {a:Act} (h:Af X π st a w) (t:TypeId) (len:Nat) (parts:Array (Nat×Operand)) (av:AV) (he:Td T st t len parts=some av):
  ∃v' w' π',(Instr.buildSlice t len (parts.map λ(i,x)=>(i,a.eval x))).run P w= .ok v' w'/\Af X π' st a w'/\Ak X w' π' st.heap av v':=by
 unfold Td at he
 split at he
 ·cases he
 ·rename_i te cT
  split at he
  ·cases he
  ·rename_i e Pd
   split at he
   ·rename_i Et
    obtain ⟨cQ,hlen⟩:=Et
    cases hp:Yl e 0 parts.toList st with
    |none=>rw [hp] at he;cases he
    |some p=>
     obtain ⟨fr,ys⟩:=p
     rw [hp] at he
     simp only [Option.map_some,Option.some.injEq] at he
     subst he
     obtain ⟨tr,hb⟩:=fD _ _ _ _ hp
     obtain ⟨i,hi,Nb,jo,kM⟩:=(hT.ty te e Pd).info
     have hu:=hT.elem t te cT
     have yw:parts.toList.length=len:=by simpa using cQ
     have hz: ∃z:Array Value,(len*e.size=0/\z= #[])\/(¬len*e.size=0/\(zeroValue te).run P w= .ok (Am e (Al e)) w/\z=(Am e (Al e)).cells):=by
      by_cases h0:len*e.size=0
      ·exact ⟨#[], .inl ⟨h0,rfl⟩⟩
      ·exact ⟨_, .inr ⟨h0,by simp [zeroValue,typeInfo,hi,kM],rfl⟩⟩
     obtain ⟨z,hz⟩:=hz
     obtain ⟨Uc,cl,g1,g2,g3,g4,g5,g6⟩:=Oo e parts.toList 0 st π fr tr ys st ((Array.range (len*e.size)).map (z[· %z.size]!)).toList h hb (by simp [yw])
     have Of:cl.length=len*e.size:=by rw [g2.1,g3,yw]
     have BN:(Bk ((Array.range (len*e.size)).map (z[· %z.size]!)).toList (0*e.size) cl)=cl:=by
      simp [Bk,Of]
     rw [BN] at g5
     have Nc:(Instr.buildSlice t len (parts.map λ(i,x)=>(i,a.eval x))).run P w= .ok (.slice (some ⟨w.heap.size,0,none⟩) len len) (w.alloc (.cells cl.toArray te)):=by
      have WC: ¬(len*e.size>2^24):=by
       have:len*e.size<=64*64:=Nat.mul_le_mul hlen.1 hlen.2
       omega
      simp only [Instr.buildSlice,Sem.run_bind,run_underlying hu,Result.andThen_ok,(hT.ty te e Pd).size,if_neg WC]
      have e1:(parts.map λ(i,x)=>(i,a.eval x)).toList=parts.toList.map λp=>(p.1,a.eval p.2):=by simp
      simp only [e1]
      have e2:(((Array.range (len*e.size)).map (z[· %z.size]!)).toList.toArray)=(Array.range (len*e.size)).map (z[· %z.size]!):=Array.toArray_toList
      rw [e2] at g5
      rcases hz with ⟨h0,rfl⟩|⟨h0,hz,rfl⟩
      ·rw [if_pos h0]
       simp only [Sem.run_bind,Sem.run_pure,Result.andThen_ok,g5,newRow]
       simp
      ·rw [if_neg h0]
       simp only [Sem.run_bind,Sem.run_pure,Result.andThen_ok,hz,g5,newRow]
       simp
     have FT:(w.alloc (.cells cl.toArray te)).heap[w.heap.size]?=some (.cells cl.toArray te (0,0)):=heap_alloc_new w _
     have hB:Below w.heap.size w (w.alloc (.cells cl.toArray te)):=(Below.refl _ _).alloc (Nat.le_refl _) _
     have Gu:=Cr FT
     refine ⟨_,_,Uc,Nc,g1.quiet hB,⟨[_],?_,rfl⟩⟩
     refine ⟨some ⟨w.heap.size,0,none⟩,len,len,rfl,by rw [g3,yw],Nat.le_refl _, .inr ⟨w.heap.size,0,rfl,Gu,λhA=>?_,λk x hx=>?_⟩⟩
     ·rcases hA with hA|hA|⟨_,hA⟩
      ·exact absurd (g1.1.own hA).1 (Nat.lt_irrefl _)
      ·exact absurd (Nat.lt_of_lt_of_le (g1.1.sc _ hA).1 g1.1.below.size) (Nat.lt_irrefl _)
      ·exact absurd (Nat.lt_of_lt_of_le hA g1.1.below.size) (Nat.lt_irrefl _)
     ·obtain ⟨es,k1,k2,k3⟩:=g2.2 k x hx
      refine ⟨es,k1,λj u hu=>?_,Cells.Cj hB.size (λb hb _=>hB.block b hb) (λ_ _ h=>h) e es x k3⟩
      rw [cellOf FT,Nat.zero_add]
      simpa using k2 j u hu
   ·cases he
theorem s5 {Γ:Env} (hT:Bu P T) (Lb:Hc P Γ) {st:St} {a:Act} (h:Af X π st a w) (o:Oper) (av:AV) (he:Qj T Γ st o=some av):
  al P X st a w av ((execOp a.eval o).run P w):=by
 obtain ⟨dst,op,ty,pos,af,gd⟩:=o
 have val: ∀(s:Sem Value) (v:Value) (w':World) (π':Pi),s.run P w= .ok v w'->Af X π' st a w'->Ak X w' π' st.heap av v->(execOp a.eval ⟨dst,op,ty,pos,af,gd⟩=do pure (.value (<-s)))->
   al P X st a w av ((execOp a.eval ⟨dst,op,ty,pos,af,gd⟩).run P w):=by
  intro s v w' π' h1 h2 h3 h4
  rw [h4,Sem.run_bind,h1]
  exact ⟨π',h2,h3⟩
 have quiet:Ca T Γ st ⟨dst,op,ty,pos,af,gd⟩=some av->al P X st a w av ((execOp a.eval ⟨dst,op,ty,pos,af,gd⟩).run P w):=by
  intro hq
  have:=iC hT Lb h _ av hq
  generalize (execOp a.eval ⟨dst,op,ty,pos,af,gd⟩).run P w=r at*
  cases r with
  |halt x w'=>exact this
  |ok n w'=>
   cases n<;>simp only [x7] at this<;>simp only [al]
   ·obtain ⟨rfl,hr⟩:=this
    exact ⟨π,h,hr⟩
   ·obtain ⟨rfl,hc⟩:=this
    exact ⟨rfl,hc.mono λe me ⟨v,hv,hb,hr⟩=>⟨v,hv,π,h.quiet hb,hr⟩⟩
 unfold Qj at he
 split at he
 ·rename_i t len parts o1
  dsimp only at o1;subst o1
  obtain ⟨v,w',π',h1,h2,h3⟩:=gk hT h t len parts av he
  exact val _ v w' π' h1 h2 h3 rfl
 ·rename_i t parts o1
  dsimp only at o1;subst o1
  obtain ⟨v',h1,h2⟩:=Zm hT h t parts av he
  exact val _ v' w π h1 h h2 rfl
 ·exact quiet he
theorem db {a:Act} : ∀(l:List Operand) {π:Pi} {st st1:St},Af X π st a w->Iq l st=some st1-> ∃π',Af X π' st1 a w
 | [],π,st,st1,h,he=>by
  simp only [Iq,Option.some.injEq] at he
  subst he
  exact ⟨π,h⟩
 |x::r,π,st,st1,h,he=>by
  simp only [Iq] at he
  cases hs:settle st (st.ev x) with
  |none=>rw [hs] at he;cases he
  |some p=>
   rw [hs] at he
   obtain ⟨Uc,h1,_⟩:=Tw h (Bj h.2 x) hs
   exact db r h1 he
theorem pq {Γ:Env} (hT:Bu P T) (Lb:Hc P Γ) {st:St} {a:Act} (h:Af X π st a w) (o:Oper) (av:AV) (st':St) (he:evalOp T Γ st o=some (av,st')):
  al P X st' a w av ((execOp a.eval o).run P w):=by
 have quiet: ∀ {π:Pi} {st:St},Af X π st a w->(Ca T Γ st o).map (λv=>(v,st))=some (av,st')->al P X st' a w av ((execOp a.eval o).run P w):=by
  intro π st h he
  cases hq:Ca T Γ st o with
  |none=>rw [hq] at he;cases he
  |some v=>
   rw [hq] at he
   simp only [Option.map_some,Option.some.injEq,Prod.mk.injEq] at he
   obtain ⟨rfl,rfl⟩:=he
   have:=iC hT Lb h o v hq
   generalize (execOp a.eval o).run P w=r at*
   cases r with
   |halt x w'=>exact this
   |ok n w'=>
    cases n<;>simp only [x7] at this<;>simp only [al]
    ·obtain ⟨rfl,hr⟩:=this
     exact ⟨π,h,hr⟩
    ·obtain ⟨rfl,hc⟩:=this
     exact ⟨rfl,hc.mono λe me ⟨v,hv,hb,hr⟩=>⟨v,hv,π,h.quiet hb,hr⟩⟩
 obtain ⟨dst,op,ty,pos,af,gd⟩:=o
 have val: ∀(s:Sem Value) (v:Value) (w':World) (π':Pi),s.run P w= .ok v w'->Af X π' st' a w'->Ak X w' π' st'.heap av v->(execOp a.eval ⟨dst,op,ty,pos,af,gd⟩=do pure (.value (<-s)))->
   al P X st' a w av ((execOp a.eval ⟨dst,op,ty,pos,af,gd⟩).run P w):=by
  intro s v w' π' h1 h2 h3 h4
  rw [h4,Sem.run_bind,h1]
  exact ⟨π',h2,h3⟩
 unfold evalOp at he
 split at he
 all_goals (rename_i o1;dsimp only at o1;try subst o1)
 ·
  rename_i x
  split at he
  ·rename_i d te e hx hd ht
   split at he
   ·rename_i IU
    simp only [Option.some.injEq,Prod.mk.injEq] at he
    obtain ⟨rfl,rfl⟩:=he
    obtain ⟨k1,k2,_⟩:=l9 h d IU (T.mi||e.flat) T.rm te e
    have ME:=Bj h.2 x
    rw [hx] at ME
    have VD:a.eval x= .slice none 0 0:=ME
    show al P X _ a w _ (.ok (.value (a.eval x)) w)
    rw [VD]
    exact ⟨_,k1,k2⟩
   ·cases he
  ·simp only [Option.some.injEq,Prod.mk.injEq] at he
   obtain ⟨rfl,rfl⟩:=he
   exact ⟨π,h,Bj h.2 x⟩
 ·
  rename_i t
  split at he
  ·rename_i d τ hd ht
   obtain ⟨i,hi,Nb,jo,kM⟩:=(hT.ty t τ ht).info
   obtain ⟨π',k1,k2⟩:=iS h d t τ (zeroCells τ) (Al τ) (dw τ) av st' he
   have BP:(Am τ (Al τ)).cells=(Al τ).toArray:=by
    cases τ<;>simp [Am,Ty.Ab,Value.cells,Al]
   refine val (Instr.alloc t true (.tuple #[])) _ _ π' ?_ k1 k2 rfl
   simp [Instr.alloc,zeroValue,typeInfo,hi,kM,newVar,newRow,BP]
  ·cases he
 ·
  rename_i t x
  split at he
  ·rename_i d τ hd ht
   split at he
   ·rename_i cs hc
    obtain ⟨us,hv,hl,hr⟩:=az (Bj h.2 x) hc
    obtain ⟨π',k1,k2⟩:=iS h d t τ cs us hr av st' he
    refine val (Instr.box t (a.eval x)) _ _ π' ?_ k1 k2 rfl
    simp [Instr.box,newVar,newRow,hv]
   ·cases he
  ·cases he
 ·
  rename_i t p x
  cases hs:Iy T st t (st.ev p) (st.ev x) with
  |none=>rw [hs] at he;cases he
  |some s=>
   rw [hs] at he
   simp only [Option.map_some,Option.some.injEq,Prod.mk.injEq] at he
   obtain ⟨rfl,rfl⟩:=he
   obtain ⟨w',π',h1,h2⟩:=gp hT h t _ _ _ _ (Bj h.2 p) (Bj h.2 x) s hs
   have:(execOp a.eval ⟨dst, .store t p x,ty,pos,af,gd⟩).run P w= .ok .skip w':=by
    show (do Instr.storeAt t (a.eval p) (a.eval x);pure Next.skip:Sem Next).run P w=_
    rw [Sem.run_bind,h1];rfl
   rw [this]
   exact ⟨π',h2,trivial⟩
 ·
  rename_i t l c
  split at he
  ·rename_i d hd
   obtain ⟨v,w',π',h1,h2,h3⟩:=jm hT h d t _ _ _ _ (Bj h.2 l) (Bj h.2 c) av st' he
   exact val _ v w' π' h1 h2 h3 rfl
  ·cases he
 ·
  rename_i t
  split at he
  ·rename_i d hd
   obtain ⟨v,w',π',h1,h2,h3⟩:=eS hT h d t av st' he
   exact val _ v w' π' h1 h2 h3 rfl
  ·cases he
 ·
  rename_i t m k x
  cases hs:Ej T st t (st.ev m) (st.ev k) (st.ev x) with
  |none=>rw [hs] at he;cases he
  |some s=>
   rw [hs] at he
   simp only [Option.map_some,Option.some.injEq,Prod.mk.injEq] at he
   obtain ⟨rfl,rfl⟩:=he
   obtain ⟨w',h1,h2⟩:=Vy hT h t _ _ _ _ _ _ (Bj h.2 m) (Bj h.2 k) (Bj h.2 x) s hs
   have:(execOp a.eval ⟨dst, .mapUpdate t m k x,ty,pos,af,gd⟩).run P w= .ok .skip w':=by
    show (do Instr.mapUpdate t (a.eval m) (a.eval k) (a.eval x);pure Next.skip:Sem Next).run P w=_
    rw [Sem.run_bind,h1];rfl
   rw [this]
   exact ⟨π,h2,trivial⟩
 ·
  rename_i t m k x
  cases hs:Ej T st t (st.ev m) (st.ev k) (st.ev x) with
  |none=>rw [hs] at he;cases he
  |some s=>
   rw [hs] at he
   simp only [Option.map_some,Option.some.injEq,Prod.mk.injEq] at he
   obtain ⟨rfl,rfl⟩:=he
   obtain ⟨w',h1,h2⟩:=Vy hT h t _ _ _ _ _ _ (Bj h.2 m) (Bj h.2 k) (Bj h.2 x) s hs
   have:(execOp a.eval ⟨dst, .insert t m k x,ty,pos,af,gd⟩).run P w= .ok .skip w':=by
    show (do Instr.mapUpdate t (a.eval m) (a.eval k) (a.eval x);pure Next.skip:Sem Next).run P w=_
    rw [Sem.run_bind,h1];rfl
   rw [this]
   exact ⟨π,h2,trivial⟩
 ·
  rename_i t len parts
  split at he
  ·rename_i d hd
   obtain ⟨v,w',π',h1,h2,h3⟩:=ae hT h d t len parts av st' he
   exact val _ v w' π' h1 h2 h3 rfl
  ·cases he
 ·
  rename_i t parts
  cases hb:Ou T st t parts with
  |none=>rw [hb] at he;cases he
  |some v=>
   rw [hb] at he
   simp only [Option.map_some,Option.some.injEq,Prod.mk.injEq] at he
   obtain ⟨rfl,rfl⟩:=he
   obtain ⟨v',h1,h2⟩:=Zm hT h t parts v hb
   exact val _ v' w π h1 h h2 rfl
 ·
  rename_i args ts
  split at he
  ·rename_i d x y t t' hd Ka mK
   split at he
   ·rename_i Ng;subst Ng
    have e1:args= #[x,y]:=by apply Array.ext';simpa using Ka
    have e2:ts= #[t,t]:=by apply Array.ext';simpa using mK
    subst e1;subst e2
    obtain ⟨v,w',π',h1,h2,h3⟩:=eP hT h d t ty x y av st' he
    refine val (Builtin.append_ #[t,t] ty #[a.eval x,a.eval y]) v w' π' h1 h2 h3 ?_
    simp [execOp,resolve,invoke,builtin]
   ·cases he
  ·cases he
 ·
  rename_i args ts
  split at he
  ·rename_i x y t t' Ka mK
   have e1:args= #[x,y]:=by apply Array.ext';simpa using Ka
   have e2:ts= #[t,t']:=by apply Array.ext';simpa using mK
   subst e1;subst e2
   obtain ⟨v,w',h1,h2,h3⟩:=kr hT h t t' ty _ _ _ _ (Bj h.2 x) (Bj h.2 y) av st' he
   refine val (Builtin.copy_ #[t,t'] ty #[a.eval x,a.eval y]) v w' π h1 h2 h3 ?_
   simp [execOp,resolve,invoke,builtin]
  ·cases he
 ·
  rename_i args ts
  split at he
  ·rename_i x t Ka mK
   have e1:args= #[x]:=by apply Array.ext';simpa using Ka
   have e2:ts= #[t]:=by apply Array.ext';simpa using mK
   subst e1;subst e2
   cases hs:evalClear T st t (st.ev x) with
   |none=>rw [hs] at he;cases he
   |some s=>
    rw [hs] at he
    simp only [Option.map_some,Option.some.injEq,Prod.mk.injEq] at he
    obtain ⟨rfl,rfl⟩:=he
    obtain ⟨v,w',h1,h2⟩:=jl hT h t ty _ _ (Bj h.2 x) s hs
    refine val (Builtin.clear_ #[t] ty #[a.eval x]) v w' π h1 h2 trivial ?_
    simp [execOp,resolve,invoke,builtin]
  ·cases he
 ·
  rename_i f args ts
  split at he
  ·rename_i s SC
   have hs:Du P f s:=Lb f _ SC
   have:=jk h hs dst (args.toList.map st.ev) (args.toList.map a.eval) (by simp) (λi c v=>bx h args.toList i c v) av st' he
   rw [bB a.eval f args ts dst ty pos af gd rfl hs.enter]
   refine ⟨rfl,?_⟩
   rwa [show (args.toList.map a.eval).toArray=args.map a.eval from by apply Array.ext';simp] at this
  ·rename_i s SC
   split at he
   ·cases hs:Iq args.toList st with
    |none=>rw [hs] at he;cases he
    |some st1=>
     rw [hs] at he
     obtain ⟨Uc,h1⟩:=db args.toList h hs
     exact quiet h1 he
   ·exact quiet h he
  ·exact quiet h he
 ·exact quiet h he
end
end Go.Proofs.Ytjbdmibbbpdnnaa
