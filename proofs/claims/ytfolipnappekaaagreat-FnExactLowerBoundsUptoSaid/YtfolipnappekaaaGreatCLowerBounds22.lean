/-
  Part 23 of the proof that the statement FnExactLowerBounds holds.
-/
import Derived.Test.YtfolipnappekaaaGreatCLowerBounds21
namespace Go.Proofs.YtfolipnappekaaaGreat
open Go.RowKit
section
variable {P:Program} {T:Tab} {X:Ctx} {w w':World} {π:Pi} {H:List (Nat×OB)}
theorem tR {π':Pi} {st':St} {a:Act} (h:Al X π' st' a w) (k:Gf π π' H st'.heap) {fr:Bool} (τ:Ty) (cs:List Value) (x:τ.den) (hc:Cells w (Bg X.w0.heap.size X.Sc π fr) τ cs x):
  Cells w (Bg X.w0.heap.size X.Sc π' fr) τ cs x:=
 Cells.Ch (Nat.le_refl _) (λ_ _ _=>rfl) (λb _ hA=>by
  rcases hA with ⟨l,r,hl,hg⟩|h2
  ·have hh:=h.1.heap l
   cases hb:Ad st'.heap l with
   |none=>have:=hh.emp hb;rw [this] at hl;cases hl
   |some b'=>have:=(k l b' hb).1;rw [this] at hl;exact .inl ⟨l,r,hl,hg⟩
  ·exact .inr h2) τ cs x hc
theorem ck.drop {F:List Nat} {l:Nat} (h:ck X w π F):ck X w (Qb π l none) F:=
 ⟨h.1,λb hb=>⟨(h.2 b hb).1,(h.2 b hb).2.1,λm r hm=>by
  by_cases e:m=l
  ·subst e;rw [Db] at hm;cases hm
  ·rw [Cw π none e] at hm;exact (h.2 b hb).2.2 m r hm⟩⟩
theorem oF {st:St} {a:Act} (h:Al X π st a w) (l:Nat) (hl:l<Ak) (f0 t0:Bool) (te:TypeId) (e:Ty):
  Al X (Qb π l none) (st.new l (.arr f0 t0 e te [])) a w/\An X w (Qb π l none) (st.new l (.arr f0 t0 e te [])).heap (.at (.own l 0 0)) (.slice none 0 0)/\
   ∀fr τ cs x,Cells w (Bg X.w0.heap.size X.Sc π fr) τ cs x->Cells w (Bg X.w0.heap.size X.Sc (Qb π l none) fr) τ cs x:=
 ⟨h.replace l hl none _ (Kg w _) (λr hr=>by cases hr) (λ_=>rfl),
  ye (St.Dr st l _) (Nat.le_refl _) (by rw [Db];exact ⟨rfl,rfl,rfl⟩),
  fun fr τ cs x hc=>Cells.Ch (Nat.le_refl _) (λ_ _ _=>rfl) (λb _ hA=>by
  rcases hA with ⟨m,r,hm,hg⟩|h2
  ·by_cases e:m=l
   ·subst e;rw [Db] at hm;cases hm
   ·rw [Cw π none e] at hm;exact .inl ⟨m,r,hm,hg⟩
  ·exact .inr h2) τ cs x hc⟩
theorem Qn (hT:Ca P T) {st:St} {a:Act} (h:Al X π st a w) (dst:Nat) (t ty:TypeId) (x y:Operand) (av:AV) (st':St) (he:Iv T st dst t x y=some (av,st')):
  ∃v' w' π',(Builtin.append_ #[t,t] ty #[a.eval x,a.eval y]).run P w= .ok v' w'/\Al X π' st' a w'/\An X w' π' st'.heap av v':=by
 unfold Iv at he
 split at he
 ·cases he
 ·rename_i te fq
  split at he
  ·rename_i e y' st1 Qv hs
   obtain ⟨Wv,h1,h2,h3,h4,h5⟩:=Wn h (Bo h.2 y) hs
   split at he
   ·cases he
   ·rename_i mS ys hv
    dsimp only at he
    have FV: ∀tr2,tr2=(e.flat||(Nd st (st.ev y)&&e.tree))->tr2=true->e.flat=true\/ ∃F,Ar w F (.slice e) [a.eval y] ys/\ck X w Wv F:=by
     intro tr2 e2 iN
     subst e2
     cases hef:e.flat with
     |true=>exact .inl rfl
     |false=>
     right
     simp only [hef,Bool.false_or,Bool.and_eq_true] at iN
     obtain ⟨F,us,f1,f2,f3,_⟩:=h5 iN.1 (.slice e) mS ys iN.2 hv
     have NB:us= [a.eval y]:=by
      simp only [Ar] at f1
      obtain ⟨a0,len,cap,rfl,_⟩:=f1
      rw [f2];simp [As,Ty.Ab]
     rw [NB] at f1
     exact ⟨F,f1,f3⟩
    have hyc:Cells w (Bg X.w0.heap.size X.Sc Wv mS) (.slice e) [a.eval y] ys:=Be.Lu rfl (Jt _ y' _ mS ys h3 h2 hv)
    have ZI:=Bo h1.2 x
    split at he
    ·rename_i hx
     rw [hx] at ZI
     have hxv:a.eval x= .slice none 0 0:=ZI
     split at he
     ·rename_i ke
      simp only [Option.some.injEq,Prod.mk.injEq] at he
      obtain ⟨rfl,rfl⟩:=he
      obtain ⟨k1,k2,k3⟩:=oF h1 dst ke.2 (T.nX||e.flat) T.vY te e
      have:=ig (ty:=ty) hT k1 fq Qv ke.2 (fr3:=mS||e.flat) (tr2:=e.flat||(Nd st (st.ev y)&&e.tree)) rfl (St.Dr st1 dst _) k2 (k3 _ _ _ _ hyc) (by rw [Nat.zero_add];exact ke.1) (λht=>by
       rcases FV _ rfl ht with h0|⟨F,f1,f2⟩
       ·exact .inl h0
       ·exact .inr ⟨F,f1,f2.drop⟩)
      rw [<-hxv] at this
      exact this
     ·cases he
    ·rename_i l off len hx
     rw [hx] at ZI
     split at he
     ·rename_i fr tr e' tid xs hl
      split at he
      ·rename_i Fe
       obtain ⟨rfl,rfl⟩:=Fe
       split at he
       ·rename_i ke
        simp only [Option.some.injEq,Prod.mk.injEq] at he
        obtain ⟨rfl,rfl⟩:=he
        exact ig (ty:=ty) hT h1 fq Qv ke.2 (fr3:=mS||e'.flat) (tr2:=e'.flat||(Nd st (st.ev y)&&e'.tree)) rfl hl ZI hyc ke.1 (FV _ rfl)
       ·cases he
      ·cases he
     ·cases he
    ·cases he
  ·cases he
theorem iw (hT:Ca P T) {st:St} {a:Act} (h:Al X π st a w) (dst:Nat) (t ty:TypeId) (x y:Operand) (av:AV) (st':St) (he:Lm T st dst t x y=some (av,st')):
  ∃v' w' π',(Builtin.append_ #[t,t] ty #[a.eval x,a.eval y]).run P w= .ok v' w'/\Al X π' st' a w'/\An X w' π' st'.heap av v':=by
 unfold Lm at he
 split at he
 ·rename_i tx
  split at he
  ·rename_i l i c hg
   split at he
   ·rename_i e te rows kp tid hl _
    split at he
    ·rename_i hc
     simp only [Bool.and_eq_true,Nat.blt_eq,Bool.not_eq_true'] at hc
     have eQ:dst≠l:= λe=>by rw [e,Nat.beq_refl] at hc;cases hc.2.2
     unfold St.at at hl
     have hv:Dw X w π st.heap (.sub l i c) (a.tmps.getD tx undef):=by
      have:=h.2.tmps tx
      rw [hg] at this
      exact this
     obtain ⟨Wv,h1,h2⟩:=AE (tid:=tid) h hl eQ hc.2.1 hc.1 hv
     have h3:=h1.put (some tx) (c:= .at (.own dst 0 (rows.getD i []).length)) h2
     have Ade:a.put (some tx) (a.tmps.getD tx undef)=a:=by
      have:a.tmps.setIfInBounds tx (a.tmps.getD tx undef)=a.tmps:=by
       apply Array.ext_getElem?
       intro k
       rw [Array.getElem?_setIfInBounds]
       split
       ·rename_i e
        subst e
        split
        ·rename_i Fc
         rw [Array.getElem?_eq_getElem Fc];simp
        ·rename_i Fc
         rw [Array.getElem?_eq_none (by omega)]
       ·rfl
      simp only [Act.put,this]
     rw [Ade] at h3
     exact Qn hT h3 dst t ty (.tmp tx) y av st' he
    ·cases he
   ·cases he
  ·exact Qn hT h dst t ty _ y av st' he
 ·exact Qn hT h dst t ty x y av st' he
theorem EN {S:Nat->Prop} {e:Ty} (h:gY e=true): ∃z,Aq e= [z]/\e.Ab=false/\e.size=1/\Cells w S e [z] e.zero/\z.oneCell'=true:=by
 cases e<;>simp [gY] at h
 ·exact ⟨_,rfl,rfl,rfl,rfl,rfl⟩
 ·exact ⟨_,rfl,rfl,rfl,rfl,rfl⟩
 ·exact ⟨_,rfl,rfl,rfl,rfl,rfl⟩
 ·exact ⟨_,rfl,rfl,rfl,⟨none,0,0,rfl,rfl,Nat.le_refl _, .inl rfl⟩,rfl⟩
 ·exact ⟨_,rfl,rfl,rfl, .inl ⟨rfl,0,rfl⟩,rfl⟩
theorem zz {e:Ty} {z:Value} (ht:e.tree=true) (h:gY e=true) (hz:Aq e= [z]):Ar w [] e [z] e.zero:=by
 cases e<;>simp [gY] at h<;>simp only [Aq,List.cons.injEq,and_true] at hz<;>subst hz<;>try (simp [Ty.tree] at ht;done)
 ·exact ⟨rfl,rfl⟩
 ·exact ⟨rfl,rfl⟩
 ·exact ⟨rfl,rfl⟩
 ·exact ⟨none,0,0,rfl,rfl,Nat.le_refl _, .inl ⟨rfl,rfl,rfl,rfl⟩⟩
theorem QX {S:Nat->Prop} : ∀(e:Ty),bz e=true->(Aq e).length=e.size/\Cells w S e (Aq e) e.zero/\(e.tree=true->Ar w [] e (Aq e) e.zero):=by
 intro e
 induction e with
 |unit=>intro _;exact ⟨rfl,rfl,λ_=>⟨rfl,rfl⟩⟩
 |pair a r hJ er=>
  intro h
  simp only [bz,Bool.and_eq_true] at h
  obtain ⟨a1,a2,a3⟩:=hJ h.1
  obtain ⟨r1,r2,r3⟩:=er h.2
  exact ⟨by simp [Aq,Ty.size,a1,r1],⟨_,_,rfl,a2,r2⟩,λht=>by simp only [Ty.tree,Bool.and_eq_true] at ht;exact ⟨_,_,[],[],rfl,rfl,a3 ht.1,r3 ht.2⟩⟩
 |_=>
  intro h
  simp only [bz] at h
  obtain ⟨z,z1,z2,z3,z4,_⟩:=EN (w:=w) (S:=S) h
  exact ⟨by rw [z1,z3];rfl,by rw [z1];exact z4,λht=>by rw [z1];exact zz ht h z1⟩
theorem GB {z:Array Value} {s m j q:Nat} (hz:z.size=s) (hj:j<m) (hq:q<s):(madeCells z (m*s))[j*s+q]?=z[q]?:=by
 have h1:j*s+q<m*s:=by
  have:=Nat.mul_le_mul_right s (show j+1<=m by omega)
  rw [Nat.succ_mul] at this
  omega
 have h2:(j*s+q)%z.size=q:=by rw [hz,Nat.mul_comm,Nat.mul_add_mod,Nat.mod_eq_of_lt hq]
 have h3:q<z.size:=by omega
 unfold madeCells
 simp [h1,h2,h3]
theorem nR (hT:Ca P T) {st:St} {a:Act} (h:Al X π st a w) (dst:Nat) (t:TypeId) (l c:AV) (vl vc:Value) (hl:An X w π st.heap l vl) (hc:An X w π st.heap c vc) (av:AV) (st':St)
  (he:Vt T st dst t l c=some (av,st')): ∃v' w' π',(Instr.makeSlice t vl vc).run P w= .ok v' w'/\Al X π' st' a w'/\An X w' π' st'.heap av v':=by
 unfold Vt at he
 split at he
 ·rename_i te US k1 n mS k2 m fq
  have:=Kn hl;subst this
  have:=Kn hc;subst this
  split at he
  ·rename_i e Qv
   split at he
   ·rename_i Fe
    obtain ⟨h0,hnm,hz,VI⟩:=Fe
    obtain ⟨h1,h2⟩:=Nq.1 h0
    subst hnm
    simp only [Option.some.injEq,Prod.mk.injEq] at he
    obtain ⟨rfl,rfl⟩:=he
    obtain ⟨i,hi,Oz,mf,o7⟩:=(hT.ty te e Qv).info
    obtain ⟨z1,z4,z5⟩:=QX (w:=w) (S:=Bg X.w0.heap.size X.Sc π (T.nX||e.flat)) e hz
    have ND:(As e (Aq e)).cells=(Aq e).toArray:=Gk e _ _ z4
    have hu:=hT.elem t te fq
    have hn:n.toNat<=4294967296:=by unfold Bh at h2;omega
    have hr:=run_make (P:=P) (w:=w) t te i _ hu hi o7 k1 k2 n n h1 (Int.le_refl _) (by
     have:(i.bytes:Int)*n<=256*4294967296:=by
      obtain ⟨nn,rfl⟩:=Int.eq_ofNat_of_zero_le h1
      have h7:i.bytes*nn<=256*4294967296:=Nat.mul_le_mul mf (by simpa using hn)
      have h8:((i.bytes*nn:Nat):Int)<=256*4294967296:=by omega
      rwa [Int.natCast_mul] at h8
     omega) (by unfold Bh at h2;omega)
    rw [ND,Oz] at hr
    have Xm:((Aq e).toArray).size=e.size:=by simpa using z1
    have cell: ∀j,j<n.toNat-> ∀q u,(Aq e)[q]?=some u->(madeCells (Aq e).toArray (n.toNat*e.size)).toList[j*e.size+q]?=some u:=by
     intro j hj q u hu
     have hq:q<e.size:=by rw [<-z1];exact (List.getElem?_eq_some_iff.1 hu).1
     have:=GB Xm hj hq
     rw [Array.getElem?_toList,this]
     simpa using hu
    have:=aU (w1:=w.alloc (.cells (madeCells (Aq e).toArray (n.toNat*e.size)) te)) h dst VI (T.nX||e.flat) (T.vY&&e.tree) e te (List.replicate n.toNat e.zero) (madeCells (Aq e).toArray (n.toNat*e.size)).toList (madeCells (Aq e).toArray (n.toNat*e.size)) n.toNat []
     (.inr rfl) (by rw [size_madeCells]) (by unfold maxLen;omega) (by simp)
     (λk u hu=>by
      rw [Array.getElem?_toList] at hu;exact hu) ⟨by simp [size_madeCells],λj x hx=>by
       have hj:=(List.getElem?_eq_some_iff.1 hx).1
       simp only [List.length_replicate] at hj
       refine ⟨Aq e,z1,λq u hu=>cell j hj q u hu,?_⟩
       rw [List.eq_of_mem_replicate (List.mem_of_getElem? hx)];exact z4⟩ (by simp) (λiN=>⟨List.nodup_nil,List.replicate n.toNat [],by simp,by simp,λj x F hx hF=>by
      have hj:=(List.getElem?_eq_some_iff.1 hx).1
      simp only [List.length_replicate] at hj
      refine ⟨Aq e,z1,λq u hu=>cell j hj q u hu,?_⟩
      have e1:=List.eq_of_mem_replicate (List.mem_of_getElem? hx)
      have e2:=List.eq_of_mem_replicate (List.mem_of_getElem? hF)
      rw [e1,e2]
      exact z5 (by simp only [Bool.and_eq_true] at iN;exact iN.2)⟩)
    exact ⟨_,_,_,hr,this.1,this.2 _ (by simp)⟩
   ·cases he
  ·cases he
 ·cases he
theorem cN (off:Nat): ∀(us:List Value) (k:Nat) (cells:List Value),off+k+us.length<=cells.length->
  (us.zipIdx k).foldl (λcs p=>cs.setIfInBounds (off+p.2) p.1) cells.toArray=(Bp cells (off+k) us).toArray
 | [],k,cells,h=>by simp [Bp]
 |u::us,k,cells,h=>by
  simp only [List.zipIdx_cons,List.foldl_cons]
  rw [show cells.toArray.setIfInBounds (off+k) u=(cells.set (off+k) u).toArray by simp]
  rw [cN off us (k+1) (cells.set (off+k) u) (by simp at h⊢;omega)]
  congr 1
  apply List.ext_getElem?
  intro j
  have hl:off+k+(u::us).length<=cells.length:=h
  have qb:off+(k+1)+us.length<=(cells.set (off+k) u).length:=by simp at h⊢;omega
  rw [Eg _ _ _ _ hl,Eg _ _ _ _ qb]
  simp only [List.length_cons]
  by_cases h1:j<off+k
  ·rw [if_pos (by omega),if_pos h1,List.getElem?_set_ne (by omega)]
  ·rw [if_neg h1]
   by_cases h2:j=off+k
   ·subst h2
    rw [if_pos (by omega),if_pos (by omega),List.getElem?_set_self (by simp at h;omega)]
    simp
   ·rw [if_neg (by omega)]
    by_cases h3:j<off+k+(us.length+1)
    ·rw [if_pos (by omega),if_pos h3]
     rw [show j-(off+k)=(j-(off+(k+1)))+1 by omega,List.getElem?_cons_succ]
    ·rw [if_neg (by omega),if_neg h3,List.getElem?_set_ne (by omega)]
theorem sj (place:Nat->Option (Nat×Nat)) (cells:List Value) (i:Nat) (v:Value) (rest:List (Nat×Value)) (off size:Nat) (us:List Value) (hp:place i=some (off,size)) (hv:v.cells=us.toArray)
  (hl:us.length=size) (hle:off+size<=cells.length):Instr.fill place cells.toArray ((i,v)::rest)=Instr.fill place (Bp cells off us).toArray rest:=by
 simp only [Instr.fill,hp,hv,List.size_toArray,hl]
 rw [if_neg (by simp;omega)]
 congr 1
 have:=cN off us 0 cells (by omega)
 simp only [Nat.add_zero] at this
 rw [<-this]
 simp
theorem Qk (e:Ty) {a:Act} : ∀(parts:List (Nat×Operand)) (i:Nat) (st:St) (π:Pi) (fr tr:Bool) (ys:List e.den) (st':St) (cells:List Value),Al X π st a w->Gs e i parts st=some (fr,tr,ys,st')->
  (i+parts.length)*e.size<=cells.length->
  ∃π' cl,Al X π' st' a w/\Flat w (Bg X.w0.heap.size X.Sc π' fr) e cl ys/\ys.length=parts.length/\Gf π π' st.heap st'.heap/\
   Instr.fill (λi=>some (i*e.size,e.size)) cells.toArray (parts.map λp=>(p.1,a.eval p.2))=some (Bp cells (i*e.size) cl).toArray/\
   (tr=true-> ∃Fs,Mo w e cl ys Fs/\ck X w π' (List.flatten Fs)/\ ∀b∈List.flatten Fs,∃l r,π l=some r/\r.cl b)
 | [],i,st,π,fr,tr,ys,st',cells,h,he,hle=>by
  simp only [Gs,Option.some.injEq,Prod.mk.injEq] at he
  obtain ⟨rfl,rfl,rfl,rfl⟩:=he
  exact ⟨π,[],h,Flat.nil,rfl,Gf.refl _ _,by simp [Instr.fill,Bp],λ_=>⟨[],⟨rfl,λi z F hz=>by simp at hz⟩,⟨List.nodup_nil,by simp⟩,by simp⟩⟩
 |(j,x)::r,i,st,π,fr,tr,ys,st',cells,h,he,hle=>by
  simp only [Gs] at he
  split at he
  ·rename_i jI;subst jI
   split at he
   ·rename_i v' st1 hs
    obtain ⟨Wv,h1,h2,h3,h4,h5⟩:=Wn h (Bo h.2 x) hs
    split at he
    ·rename_i US y hv
     split at he
     ·rename_i mS tr2 zs st2 hr
      simp only [Option.some.injEq,Prod.mk.injEq] at he
      obtain ⟨rfl,rfl,rfl,rfl⟩:=he
      obtain ⟨es,cf,AM⟩:=Jt e v' _ US y h3 h2 hv
      have iJ:=Cells.len e es y cf
      have Ahz:i*e.size+e.size<=cells.length:=by
       have:(i+1)*e.size<=(i+((i,x)::r).length)*e.size:=Nat.mul_le_mul_right _ (by simp)
       rw [Nat.add_mul,Nat.one_mul] at this
       omega
      have FO:i*e.size+es.length<=cells.length:=by omega
      obtain ⟨KY,cl,g1,g2,g3,g4,g5,g6⟩:=Qk e r (i+1) st1 Wv mS tr2 zs st2 (Bp cells (i*e.size) es) h1 hr (by
       rw [Eo _ _ _ FO]
       rw [show i+1+r.length=i+((i,x)::r).length by simp;omega];exact hle)
      have f1:Flat w (Bg X.w0.heap.size X.Sc KY US) e es [y]:=⟨by simp [iJ],λq z hz=>by
       rcases q with _|q
       ·simp at hz;subst hz
        exact ⟨es,iJ,λj u hu=>by simpa using hu,tR g1 g4 e es y cf⟩
       ·simp at hz⟩
      refine ⟨KY,es++cl,g1,?_,by simp [g3],h4.trans g4,?_,λht=>?_⟩
      ·have:=(f1.cells λes z hc=>hc.and_left (f2:=mS)).append (g2.cells λes z hc=>hc.and_right (f1:=US))
       simpa using this
      ·simp only [List.map_cons]
       rw [sj _ cells i (a.eval x) _ (i*e.size) e.size es rfl (by rw [AM];exact Gk e es y cf) iJ Ahz,g5]
       congr 2
       have Mg:cl.length=r.length*e.size:=by rw [g2.1,g3]
       have Qt:(i+1)*e.size+cl.length<=(Bp cells (i*e.size) es).length:=by
        rw [Eo _ _ _ FO,Mg,<-Nat.add_mul]
        rw [show i+1+r.length=i+((i,x)::r).length by simp;omega];exact hle
       have Aci:i*e.size+(es++cl).length<=cells.length:=by
        rw [Eo _ _ _ FO] at Qt
        rw [List.length_append,iJ]
        rw [Nat.add_mul,Nat.one_mul] at Qt
        omega
       have e1:(i+1)*e.size=i*e.size+es.length:=by rw [Nat.add_mul,Nat.one_mul,iJ]
       apply List.ext_getElem?
       intro k
       rw [Eg _ _ _ _ Qt,Eg _ _ _ _ Aci,Eg _ _ _ _ FO,e1,List.length_append]
       by_cases k1:k<i*e.size
       ·rw [if_pos (by omega),if_pos k1,if_pos k1]
       ·rw [if_neg k1,if_neg k1]
        by_cases k2:k<i*e.size+es.length
        ·rw [if_pos k2,if_pos k2,if_pos (by omega),List.getElem?_append_left (by omega)]
        ·rw [if_neg k2,if_neg k2]
         by_cases k3:k<i*e.size+es.length+cl.length
         ·rw [if_pos k3,if_pos (by omega),List.getElem?_append_right (by omega)]
          congr 1;omega
         ·rw [if_neg k3,if_neg (by omega)]
      ·simp only [Bool.and_eq_true] at ht
       obtain ⟨⟨ht1,WA⟩,ht3⟩:=ht
       obtain ⟨F,us,t1,t2,t3,t7⟩:=h5 ht1 e US y WA hv
       obtain ⟨Fs,t4,t5,t6⟩:=g6 ht3
       have NB:us=es:=by
        have c1:=Ar.cells (S:= λ_=>False) F e us y t1 (λ_ _ h=>h)
        have a1:=Gk e us y c1
        have a2:=Gk e es y cf
        rw [<-t2,AM,a2] at a1
        simpa using a1.symm
       subst NB
       refine ⟨F::Fs,?_,?_,λb hb=>?_⟩
       ·have k1:Mo w e us [y] [F]:=⟨rfl,λq z G hz hG=>by
         rcases q with _|q
         ·simp at hz hG;subst hz;subst hG
          exact ⟨us,iJ,λj u hu=>by simpa using hu,t1⟩
         ·simp at hz⟩
        exact Mo.append (by simp [iJ]) k1 t4
       ·rw [List.flatten_cons]
        refine ⟨List.nodup_append.2 ⟨t3.1,t5.1,λb hb b' cS e=>?_⟩,λb hb=>?_⟩
        ·subst e
         obtain ⟨l,r,q1,q2⟩:=t6 b cS
         exact (t3.2 b hb).2.2 l r q1 q2
        ·rcases List.mem_append.1 hb with hb|hb
         ·have:=t3.2 b hb
          refine ⟨this.1,this.2.1,λl r q1 q2=>?_⟩
          cases hh:Ad st2.heap l with
          |none=>rw [(g1.1.heap l).emp hh] at q1;cases q1
          |some b'=>exact this.2.2 l r ((g4 l b' hh).1▸q1) q2
         ·exact t5.2 b hb
       ·rw [List.flatten_cons] at hb
        rcases List.mem_append.1 hb with hb|hb
        ·exact t7 b hb
        ·obtain ⟨l,r,q1,q2⟩:=t6 b hb
         cases hh:Ad st1.heap l with
         |none=>rw [(h1.1.heap l).emp hh] at q1;cases q1
         |some b'=>exact ⟨l,r,(h4 l b' hh).1▸q1,q2⟩
     ·cases he
    ·cases he
   ·cases he
  ·cases he
theorem cH (hT:Ca P T) {st:St} {a:Act} (h:Al X π st a w) (dst:Nat) (t:TypeId) (len:Nat) (parts:Array (Nat×Operand)) (av:AV) (st':St)
  (he:Hs T st dst t len parts=some (av,st')):
  ∃v' w' π',(Instr.buildSlice t len (parts.map λ(i,x)=>(i,a.eval x))).run P w= .ok v' w'/\Al X π' st' a w'/\An X w' π' st'.heap av v':=by
 unfold Hs at he
 split at he
 ·cases he
 ·rename_i te fq
  split at he
  ·cases he
  ·rename_i e Qv
   split at he
   ·rename_i Fe
    obtain ⟨eo,hlen⟩:=Fe
    split at he
    ·rename_i fr tr ys st1 hb
     simp only [Option.some.injEq,Prod.mk.injEq] at he
     obtain ⟨rfl,rfl⟩:=he
     obtain ⟨i,hi,Oz,mf,o7⟩:=(hT.ty te e Qv).info
     have hu:=hT.elem t te fq
     have HM:parts.toList.length=len:=by simpa using eo
     have hz: ∃z:Array Value,(len*e.size=0/\z= #[])\/(¬len*e.size=0/\(zeroValue te).run P w= .ok (As e (Aq e)) w/\z=(As e (Aq e)).cells):=by
      by_cases h0:len*e.size=0
      ·exact ⟨#[], .inl ⟨h0,rfl⟩⟩
      ·exact ⟨_, .inr ⟨h0,by simp [zeroValue,typeInfo,hi,o7],rfl⟩⟩
     obtain ⟨z,hz⟩:=hz
     obtain ⟨Wv,cl,g1,g2,g3,g4,g5,g6⟩:=Qk e parts.toList 0 st π fr tr ys st1 ((Array.range (len*e.size)).map (z[· %z.size]!)).toList h hb (by simp [HM])
     have Mg:cl.length=len*e.size:=by rw [g2.1,g3,HM]
     have LG:(Bp ((Array.range (len*e.size)).map (z[· %z.size]!)).toList (0*e.size) cl)=cl:=by
      simp [Bp,Mg]
     rw [LG] at g5
     have Pa:(Instr.buildSlice t len (parts.map λ(i,x)=>(i,a.eval x))).run P w= .ok (.slice (some ⟨w.heap.size,0,none⟩) len len) (w.alloc (.cells cl.toArray te)):=by
      have h24: ¬(len*e.size>2^24):=by
       have:len*e.size<=64*64:=Nat.mul_le_mul hlen.1 hlen.2.1
       omega
      simp only [Instr.buildSlice,Sem.run_bind,run_underlying hu,Result.andThen_ok,(hT.ty te e Qv).size,if_neg h24]
      have e1:(parts.map λ(i,x)=>(i,a.eval x)).toList=parts.toList.map λp=>(p.1,a.eval p.2):=by simp
      simp only [e1]
      have e2:(((Array.range (len*e.size)).map (z[· %z.size]!)).toList.toArray)=(Array.range (len*e.size)).map (z[· %z.size]!):=Array.toArray_toList
      rw [e2] at g5
      rcases hz with ⟨h0,rfl⟩|⟨h0,hz,rfl⟩
      ·rw [if_pos h0]
       simp only [Sem.run_bind,Sem.run_pure,Result.andThen_ok,g5,newRow]
       simp
      ·rw [if_neg h0]
       simp only [Sem.run_bind,Sem.run_pure,Result.andThen_ok,hz,g5,newRow]
       simp
     have hN: ∃N:List Nat,(∀b∈N,(X.w0.heap.size<=b\/X.gv b)/\b<w.heap.size/\ ∀m r0,m≠dst->Wv m=some r0-> ¬r0.cl b)/\(tr=true->N.Nodup/\ ∃Fs,List.flatten Fs=N/\Mo w e cl ys Fs):=by
      cases tr with
      |false=>exact ⟨[],by simp,λh=>by cases h⟩
      |true=>
       obtain ⟨Fs,t1,t2,_⟩:=g6 rfl
       exact ⟨_,λb hb=>⟨(t2.2 b hb).1,(t2.2 b hb).2.1,λm r0 _=>(t2.2 b hb).2.2 m r0⟩,λ_=>⟨t2.1,Fs,rfl,t1⟩⟩
     obtain ⟨N,q1,q2⟩:=hN
     have:=aU (w1:=w.alloc (.cells cl.toArray te)) g1 dst hlen.2.2 ((T.nX||e.flat)&&fr) (T.vY&&tr) e te ys cl cl.toArray len N (.inr rfl) (by simpa using Mg) (by simp only [maxLen];omega) (by omega) (λk u hu=>by simpa using hu) (g2.cells λes z hc=>hc.and_right) q1 (λht=>q2 (by simp only [Bool.and_eq_true] at ht;exact ht.2))
     exact ⟨_,_,_,Pa,this.1,this.2 _ (by omega)⟩
    ·cases he
   ·cases he
theorem gu {t te:TypeId} {e:Ty} (h:Zl T t=some (te,e)):T.elem t=some te/\T.ty te=some (.slice e):=by
 unfold Zl at h
 cases he:T.elem t with
 |none=>rw [he] at h;cases h
 |some Li=>
  rw [he] at h
  simp only [Option.bind_some] at h
  cases hg:T.FI Li with
  |none=>rw [hg] at h;cases h
  |some e'=>
   rw [hg] at h
   simp only [Option.map_some,Option.some.injEq,Prod.mk.injEq] at h
   obtain ⟨rfl,rfl⟩:=h
   refine ⟨rfl,?_⟩
   unfold Tab.FI at hg
   split at hg
   ·split at hg
    ·rename_i Qv;simp only [Option.some.injEq] at hg;subst hg;exact Qv
    ·cases hg
   ·cases hg
theorem ik (w:World) (o:Obj):Dg w.heap.size (λ_=>False) w (w.alloc o):=⟨rfl,rfl,rfl,by simp,λk hk _=>Below.heap_alloc w _ k hk⟩
theorem lf (w:World) (o:Obj):Dg w.heap.size (λ_=>False) w (w.drew.alloc o):=⟨rfl,rfl,rfl,by simp,λk hk _=>Below.heap_alloc w.drew _ k hk⟩
theorem ma (hT:Ca P T) {st:St} {a:Act} (h:Al X π st a w) (dst:Nat) (t:TypeId) (l c:AV) (vl vc:Value) (hl:An X w π st.heap l vl) (hc:An X w π st.heap c vc) (av:AV) (st':St)
  (he:Qr T st dst t l c=some (av,st')): ∃v' w' π',(Instr.makeSlice t vl vc).run P w= .ok v' w'/\Al X π' st' a w'/\An X w' π' st'.heap av v':=by
 unfold Qr at he
 split at he
 ·exact nR hT h dst t l c vl vc hl hc av st' he
 ·rename_i te e hg
  obtain ⟨fq,Qv⟩:=gu hg
  split at he
  ·rename_i US k1 n mS k2 m
   have:=Kn hl;subst this
   have:=Kn hc;subst this
   split at he
   ·rename_i Fe
    obtain ⟨h0,hnm,VI⟩:=Fe
    obtain ⟨h1,h2⟩:=Nq.1 h0
    subst hnm
    simp only [Option.some.injEq,Prod.mk.injEq] at he
    obtain ⟨rfl,rfl⟩:=he
    obtain ⟨i,hi,Oz,mf,o7⟩:=(hT.ty te _ Qv).info
    have hu:=hT.elem t te fq
    have hn:n.toNat<=4294967296:=by unfold Bh at h2;omega
    have hr:=run_make (P:=P) (w:=w) t te i _ hu hi o7 k1 k2 n n h1 (Int.le_refl _) (by
     have:(i.bytes:Int)*n<=256*4294967296:=by
      obtain ⟨nn,rfl⟩:=Int.eq_ofNat_of_zero_le h1
      have h7:i.bytes*nn<=256*4294967296:=Nat.mul_le_mul mf (by simpa using hn)
      have h8:((i.bytes*nn:Nat):Int)<=256*4294967296:=by omega
      rwa [Int.natCast_mul] at h8
     omega) (by unfold Bh at h2;omega)
    have ND:(As (Ty.slice e) (Aq (Ty.slice e))).cells= #[.slice none 0 0]:=by simp [As,Ty.Ab,Aq,Value.cells]
    have gZ:(Ty.slice e).size=1:=rfl
    rw [ND,Oz,gZ] at hr
    have cell: ∀j,j<n.toNat->(madeCells #[Value.slice none 0 0] (n.toNat*1))[0+j]?=some (.slice none 0 0):=by
     intro j hj
     have:=GB (z:= #[Value.slice none 0 0]) (s:=1) (m:=n.toNat) (j:=j) (q:=0) rfl hj (by omega)
     simp only [Nat.mul_one,Nat.add_zero] at this
     simp only [Nat.mul_one,Nat.zero_add]
     rw [this];rfl
    obtain ⟨π',g1,g2⟩:=Sp (w1:=w.alloc (.cells (madeCells #[Value.slice none 0 0] (n.toNat*1)) te)) (gv:= λ_=>False) h VI VI te (e:=e) (rows:=List.replicate n.toNat []) (us:=List.replicate n.toNat (.slice none 0 0)) (Rs:=List.replicate n.toNat none) (g:=w.heap.size) (o:=0) (cap:=n.toNat)
     (λ_ hf=>hf.elim) (ik w _) ⟨.inl (Nat.le_refl _),by simp⟩ (heap_alloc_new w _) (by rw [size_madeCells];omega) (by unfold maxLen;omega) (by simp) (λj u hu=>by
      have hj:=(List.getElem?_eq_some_iff.1 hu).1
      simp only [List.length_replicate] at hj
      rw [cell j hj,List.eq_of_mem_replicate (List.mem_of_getElem? hu)])
     ⟨by simp,by simp,λi j q q' h1=>(by have:=List.eq_of_mem_replicate (List.mem_of_getElem? h1);cases this),λi x hx=>by
      have hj:=(List.getElem?_eq_some_iff.1 hx).1
      simp only [List.length_replicate] at hj
      rw [List.eq_of_mem_replicate (List.mem_of_getElem? hx)]
      exact ⟨.slice none 0 0,none,by rw [List.getElem?_replicate,if_pos hj],by rw [List.getElem?_replicate,if_pos hj],⟨rfl,rfl,rfl⟩,rfl⟩⟩
     (λi q h1=>by have:=List.eq_of_mem_replicate (List.mem_of_getElem? h1);cases this)
    exact ⟨_,_,π',hr,g1,g2 _ (by simp)⟩
   ·cases he
  ·cases he
theorem c7 (hT:Ca P T) {st:St} {a:Act} (h:Al X π st a w) (dst:Nat) (t:TypeId) (len:Nat) (parts:Array (Nat×Operand)) (av:AV) (st':St)
  (he:Er T st dst t len parts=some (av,st')):
  ∃v' w' π',(Instr.buildSlice t len (parts.map λ(i,x)=>(i,a.eval x))).run P w= .ok v' w'/\Al X π' st' a w'/\An X w' π' st'.heap av v':=by
 unfold Er at he
 split at he
 ·exact cH hT h dst t len parts av st' he
 ·rename_i te e hg
  obtain ⟨fq,Qv⟩:=gu hg
  split at he
  rotate_left
  ·cases he
  rename_i x YQ
  split at he
  rotate_left
  ·cases he
  rename_i m off ln hx
  split at he
  rotate_left
  ·cases he
  rename_i fr tr e' tid xs hm
  split at he
  rotate_left
  ·cases he
  rename_i hc
  obtain ⟨rfl,hc,rfl,rfl⟩:=hc
  simp only [Bool.and_eq_true,Nat.blt_eq] at hc
  obtain ⟨hlen,VI,RJ⟩:=hc
  have hlen:len=1:=Nat.eq_of_beq_eq_true hlen
  subst hlen
  simp only [Option.some.injEq,Prod.mk.injEq] at he
  obtain ⟨rfl,rfl⟩:=he
  have hu:=hT.elem t te fq
  unfold St.at at hm
  have hrx:=Bo h.2 x
  rw [hx] at hrx
  obtain ⟨_,qc⟩:=Jh (X:=X) (w:=w) hrx hm
  obtain ⟨ax,nx,cx,SX⟩:=Up qc
  have hp:parts= #[(0,x)]:=by apply Array.ext';simpa using YQ
  subst hp
  obtain ⟨i,hi,Oz,mf,o7⟩:=(hT.ty te _ Qv).info
  have Pa:(Instr.buildSlice t 1 (#[(0,x)].map λ(i,x)=>(i,a.eval x))).run P w= .ok (.slice (some ⟨w.heap.size,0,none⟩) 1 1) (w.alloc (.cells #[a.eval x] te)):=by
   have gZ:(Ty.slice e').size=1:=rfl
   have hz:(zeroValue te).run P w= .ok (.slice none 0 0) w:=by simp [zeroValue,typeInfo,hi,o7,As,Ty.Ab,Aq]
   have RJ:(#[(0,x)].map λ(i,x)=>(i,a.eval x))= #[(0, .slice ax nx cx)]:=by simp [SX]
   rw [RJ,SX]
   simp only [Instr.buildSlice,Sem.run_bind,run_underlying hu,Result.andThen_ok,(hT.ty te _ Qv).size,gZ]
   simp [Value.cells,Instr.fill,newRow,hz]
   congr 2
   apply Array.ext
   ·simp
   ·intro i h1 h2
    have h0:i=0:=by simpa using h2
    subst h0
    simp
  have zB:=(h.1.heap m).Ku hm
  simp only [Aw,Fq] at zB
  have hfa:Mr w (Bg X.w0.heap.size X.Sc π false) (π m) e' xs:=by
   cases hR:π m with
   |none=>rw [hR] at zB;exact zB
   |some q=>
    rw [hR] at zB
    obtain ⟨⟨f0,f0',_⟩,cu,RN,f2,f3,f4,f5,f6,_⟩:=zB
    exact ⟨⟨f0,f0'⟩,cu,RN,f2,f3,f4,f5,λp y hy=>by
     obtain ⟨es,g1,g2,g3⟩:=f6 p y hy
     exact ⟨es,g1,g2,Cells.Ch (Nat.le_refl _) (λ_ _ _=>rfl) (λb _ hA=>hA.imp id (Or.imp id λ⟨h1,_⟩=>by cases h1)) e' es y g3⟩⟩
  obtain ⟨π',g1,g2⟩:=Sp (w1:=w.alloc (.cells #[a.eval x] te)) (gv:= λ_=>False) h VI RJ te (e:=e') (rows:= [xs]) (us:= [a.eval x]) (Rs:= [π m]) (g:=w.heap.size) (o:=0) (cap:=1)
   (λ_ hf=>hf.elim) (ik w _) ⟨.inl (Nat.le_refl _),by simp⟩ (heap_alloc_new w _) rfl (by unfold maxLen;omega) (by simp) (λj u hu=>by
    rcases j with _|j
    ·simpa using hu
    ·simp at hu)
   ⟨rfl,rfl,λi j q q' h1 h2 _=>by
    rcases i with _|i
    ·rcases j with _|j
     ·rfl
     ·simp at h2
    ·simp at h1,λi y hy=>by
    rcases i with _|i
    ·simp only [List.getElem?_cons_zero,Option.some.injEq] at hy
     subst hy
     exact ⟨_,_,rfl,rfl,qc,hfa⟩
    ·simp at hy⟩
   (λi q h1=>by
    rcases i with _|i
    ·simp only [List.getElem?_cons_zero,Option.some.injEq] at h1
     have hf:=h.1.Bb h1
     have:=(h.1.place m q _ h1 (h.1.sub m q _ h1 hf)).2
     exact ⟨by omega,λh=>h,m,q, .inr rfl,h1,hf⟩
    ·simp at h1)
  exact ⟨_,_,π',Pa,g1,g2 1 rfl⟩
theorem ix (hT:Ca P T) {st:St} {a:Act} (h:Al X π st a w) (dst:Nat) (t ty:TypeId) (x y:Operand) (av:AV) (st':St) (he:Ln T st dst t x y=some (av,st')):
  ∃v' w' π',(Builtin.append_ #[t,t] ty #[a.eval x,a.eval y]).run P w= .ok v' w'/\Al X π' st' a w'/\An X w' π' st'.heap av v':=by
 unfold Ln at he
 split at he
 ·exact iw hT h dst t ty x y av st' he
 ·rename_i te e hg
  obtain ⟨fq,Qv⟩:=gu hg
  split at he
  rotate_left
  ·cases he
  rename_i l off len m OH oA hx hy
  split at he
  rotate_left
  ·cases he
  rename_i e1 te1 A kp1 e2 rE B kp2 hl hm
  split at he
  rotate_left
  ·cases he
  rename_i hc
  obtain ⟨⟨rfl,rfl⟩,hc,⟨rfl,rfl⟩,⟨rfl,rfl⟩,hB,ke⟩:=hc
  simp only [Bool.and_eq_true,Nat.blt_eq,decide_eq_true_eq,Bool.not_eq_true'] at hc
  obtain ⟨⟨rfl,rfl⟩,oc,RJ,eQ⟩:=hc
  have eQ:m≠l:= λe=>by rw [e,Nat.beq_refl] at eQ;cases eQ
  simp only [Option.some.injEq,Prod.mk.injEq] at he
  obtain ⟨rfl,rfl⟩:=he
  have hu:=hT.elem t rE fq
  obtain ⟨i,hi,Oz,mf,o7⟩:=(hT.ty rE _ Qv).info
  have Oz:i.size=1:=Oz
  unfold St.at at hl hm
  have hrx:=Bo h.2 x
  have hry:=Bo h.2 y
  rw [hx] at hrx;rw [hy] at hry
  obtain ⟨b1,s1,n1,q1,q2,_,hox⟩:=hrx
  rw [hl] at q1;cases q1
  simp only [OB.row,Option.some.injEq,Prod.mk.injEq] at q2
  obtain ⟨rfl,rfl⟩:=q2
  obtain ⟨b2,s2,n2,q1,q2,_,hoy⟩:=hry
  rw [hm] at q1;cases q1
  simp only [OB.row,Option.some.injEq,Prod.mk.injEq] at q2
  obtain ⟨rfl,rfl⟩:=q2
  have hA:=((h.1.heap l).Ku hl).1
  have hBb:=((h.1.heap m).Ku hm).1
  cases MX:π m with
  |none=>
   rw [MX] at hBb
   have hBb:B= []:=hBb
   subst hBb;simp at hB
  |some rB=>
  rw [MX] at hBb hoy
  obtain ⟨fB,Alu,tiB,uB,RB,w1B,w2B,w3B,w4B,w5B,w6B,w7B,LB⟩:=sn hBb
  obtain ⟨adB,hvy,hcB,haB⟩:=hoy
  have haB:=haB (by omega)
  subst haB
  have hlB:=LB.1
  have ZS:uB.length=B.length*i.size:=by rw [Oz,Nat.mul_one];exact hlB
  have ZU: ∀j u,uB[j]?=some u->w.cell? ((⟨rB.g,(rB.o+0)*1,none⟩:Addr).add j)=some u:= λj u hu=>by
   rw [Addr.add_lit,cellOf w1B,Nat.mul_one,Nat.add_zero];exact w5B j u hu
  have o3:(A.length+B.length)*i.bytes<=140737488355328:=by
   have:(A.length+B.length)*i.bytes<=4294967296*256:=Nat.mul_le_mul ke mf
   omega
  have cV:A.length+B.length<=maxLen:=by unfold Bh at ke;simp only [maxLen];omega
  have hzs:(As (Ty.slice e2) (Aq (Ty.slice e2))).cells.size=1:=by simp [As,Ty.Ab,Aq,Value.cells]
  have Pn: ∀(k:Nat) (q:Real) (Rs:List (Option Real)),π k=some q->(∀(i:Nat) (p:Real),Rs[i]?=some (some p)->q.Bb p.g/\p.g≠q.g)-> ∀(i:Nat) (p:Real),Rs[i]?=some (some p)->p.g<w.heap.size:= λk q Rs h1 h2 i p h3=>
   (h.1.place k q _ h1 (h.1.sub k q _ h1 (h2 i p h3).1)).2
  cases eo:π l with
  |none=>
   rw [eo] at hA hox
   have hA:A= []:=hA
   subst hA
   obtain ⟨SX,_,_⟩:=hox
   rw [SX,hvy]
   simp only [List.length_nil,Nat.zero_add,List.nil_append] at ke o3 cV⊢
   have hr:=run_append_nil (P:=P) w t ty rE i _ hu hi o7 ⟨rB.g,(rB.o+0)*1,none⟩ B.length (rB.cap-0) uB ZS ZU hB (by simp only [maxLen] at cV;omega) (by omega)
   have jH:=grownCap_ge w B.length 0 rE
   have SH:=grownCap_le_maxLen w B.length 0 rE (by omega)
   obtain ⟨π',g1,g2⟩:=Sp (w1:=w.drew.alloc (.cells (uB.toArray++Builtin.zeroCells (As (Ty.slice e2) (Aq (Ty.slice e2))).cells (grownCap w B.length 0 rE-B.length)) rE)) (gv:= λ_=>False) h oc RJ rE (e:=e2) (rows:=B) (us:=uB) (Rs:=RB) (g:=w.heap.size) (o:=0) (cap:=grownCap w B.length 0 rE)
    (λ_ hf=>hf.elim) (lf w _) ⟨.inl (Nat.le_refl _),by simp⟩ (heap_alloc_new w.drew _) (by rw [Array.size_append,List.size_toArray,Ns,hzs];omega) SH jH (λj u hu=>by
     have hj:=(List.getElem?_eq_some_iff.1 hu).1
     rw [Nat.zero_add,Array.getElem?_append_left (by simpa using hj)];simpa using hu)
    LB (λi q h1=>⟨by have:=Pn m rB RB MX w7B i q h1;omega,λh=>h,m,rB, .inr rfl,MX,(w7B i q h1).1⟩)
   exact ⟨_,_,π',hr,g1,g2 _ rfl⟩
  |some rA=>
   rw [eo] at hA hox
   obtain ⟨fA,HC,tiA,uA,RA,w1A,w2A,w3A,w4A,w5A,w6A,w7A,LA⟩:=sn hA
   obtain ⟨adA,SX,hcA,haA⟩:=hox
   have hlA:=LA.1
   rw [SX,hvy]
   have apart: ∀(i j:Nat) (q q':Real),RA[i]?=some (some q)->RB[j]?=some (some q')->q.g≠q'.g:= λi j q q' h1 h2 e=>by
    have:=h.1.apart eo MX (w7A i q h1).1 (e▸(w7B j q' h2).1)
    exact eQ this.symm
   have LAB:=ni.append LA LB apart
   have Fa: ∀(i:Nat) (q:Real),RB[i]?=some (some q)->q.g≠rA.g:= λi q h1 e=>eQ (h.1.apart MX eo (w7B i q h1).1 (e▸fA))
   have VC: ∀(i:Nat) (q:Real),(RA++RB)[i]?=some (some q)->q.g≠rA.g/\q.g<w.heap.size/\ ∃k p,(k=l\/k=m)/\π k=some p/\p.Bb q.g:= λi q h1=>by
    by_cases hi:i<RA.length
    ·rw [List.getElem?_append_left hi] at h1
     exact ⟨(w7A i q h1).2,Pn l rA RA eo w7A i q h1,l,rA, .inl rfl,eo,(w7A i q h1).1⟩
    ·rw [List.getElem?_append_right (by omega)] at h1
     exact ⟨Fa _ q h1,Pn m rB RB MX w7B _ q h1,m,rB, .inr rfl,MX,(w7B _ q h1).1⟩
   by_cases lx:A.length+B.length<=rA.cap-0
   ·have haA:=haA (by omega)
    subst haA
    have Qt:(rA.o+0)*1+A.length*i.size+uB.length<=HC.size:=by rw [Oz];omega
    have Ss:(rA.o+0)*1+A.length*i.size+uB.length<=HC.toList.length:=by simpa using Qt
    have hr:=Ub (P:=P) (w:=w) (ty:=ty) hu hi rA.g ((rA.o+0)*1) A.length (rA.cap-0) HC tiA w1A ⟨rB.g,(rB.o+0)*1,none⟩ B.length (rB.cap-0) uB ZS ZU w6B lx Qt
    have o5:=Ip w rA.g (Bp HC.toList ((rA.o+0)*1+A.length*i.size) uB).toArray
    obtain ⟨π',g1,g2⟩:=Sp (w1:=w.setRow rA.g (Bp HC.toList ((rA.o+0)*1+A.length*i.size) uB).toArray) (gv:= λb=>b=rA.g) h oc RJ rE (e:=e2) (rows:=A++B) (us:=uA++uB) (Rs:=RA++RB) (g:=rA.g) (o:=rA.o) (cap:=rA.cap)
     (λb hb=>⟨l,rA, .inl rfl,eo,hb▸fA⟩) ⟨o5.os,o5.tape,o5.output,o5.size,λc _ hc=>setRow_other w rA.g c _ hc⟩ ⟨.inr ⟨l,rA, .inl rfl,eo,fA⟩,Nat.lt_of_lt_of_le (Cs w1A) o5.size⟩
     (setRow_heap w rA.g HC _ tiA _ w1A) (by rw [List.size_toArray,Eo _ _ _ Ss,Array.length_toList];exact w2A) w3A (by simp;omega) (λj u hu=>by
      rw [List.getElem?_toArray,Eg _ _ _ _ Ss,Oz]
      by_cases hj:j<uA.length
      ·rw [List.getElem?_append_left hj] at hu
       rw [if_pos (by omega),Array.getElem?_toList]
       exact w5A j u hu
      ·rw [List.getElem?_append_right (by omega)] at hu
       have:=(List.getElem?_eq_some_iff.1 hu).1
       rw [if_neg (by omega),if_pos (by omega)]
       rw [show rA.o+j-((rA.o+0)*1+A.length*1)=j-uA.length by omega]
       exact hu)
     LAB (λi q h1=>⟨(VC i q h1).1,(VC i q h1).1,(VC i q h1).2.2⟩)
    have:=g2 (A.length+B.length) (by simp)
    have e0:(rA.o+0)*1=rA.o:=by omega
    simp only [e0,Nat.sub_zero] at hr g1 this⊢
    exact ⟨_,_,π',hr,g1,this⟩
   ·have hold: ∀j u,uA[j]?=some u->w.cell? (adA.add j)=some u:=by
     intro j u hu
     have hj:=(List.getElem?_eq_some_iff.1 hu).1
     rw [haA (by omega),Addr.add_lit,cellOf w1A,Nat.mul_one,Nat.add_zero];exact w5A j u hu
    have hr:=run_append_grow (P:=P) w t ty rE i _ hu hi o7 adA A.length (rA.cap-0) uA (by rw [Oz,Nat.mul_one];exact hlA) hold ⟨rB.g,(rB.o+0)*1,none⟩ B.length (rB.cap-0) uB ZS ZU (by omega) (by simp only [maxLen] at cV;omega) (growslice_fits (by omega) o3)
    have jH:=grownCap_ge w (A.length+B.length) (rA.cap-0) rE
    have SH:=grownCap_le_maxLen w (A.length+B.length) (rA.cap-0) rE cV
    obtain ⟨π',g1,g2⟩:=Sp (w1:=w.drew.alloc (.cells (uA.toArray++uB.toArray++Builtin.zeroCells (As (Ty.slice e2) (Aq (Ty.slice e2))).cells (grownCap w (A.length+B.length) (rA.cap-0) rE-(A.length+B.length))) rE)) (gv:= λ_=>False) h oc RJ rE (e:=e2) (rows:=A++B) (us:=uA++uB) (Rs:=RA++RB) (g:=w.heap.size) (o:=0) (cap:=grownCap w (A.length+B.length) (rA.cap-0) rE)
     (λ_ hf=>hf.elim) (lf w _) ⟨.inl (Nat.le_refl _),by simp⟩ (heap_alloc_new w.drew _) (by rw [Array.size_append,Array.size_append,List.size_toArray,List.size_toArray,Ns,hzs];omega) SH (by simpa using jH) (λj u hu=>by
      have hj:=(List.getElem?_eq_some_iff.1 hu).1
      rw [Nat.zero_add,Array.getElem?_append_left (by simpa using hj)];simpa using hu)
     LAB (λi q h1=>⟨by have:=(VC i q h1).2.1;omega,λh=>h,(VC i q h1).2.2⟩)
    exact ⟨_,_,π',hr,g1,g2 _ (by simp)⟩
theorem fV: ∀τ:Ty,Cy X w π H (zeroCells τ) (Aq τ):=by
 have one: ∀(c:AC) (v:Value),v.oneCell'=true->Dw X w π H c v->Cy X w π H [c] [v]:= λc v h1 h2=>⟨rfl,λi c' hc=>by
  rcases i with _|i
  ·simp at hc;subst hc;exact ⟨v,rfl,h1,h2⟩
  ·simp at hc⟩
 intro τ
 induction τ with
 |unit=>exact ⟨rfl,λi c hc=>by simp [zeroCells] at hc⟩
 |pair a r hJ er=>
  refine ⟨by simp [zeroCells,Aq,hJ.1,er.1],λi c hc=>?_⟩
  simp only [zeroCells] at hc
  simp only [Aq]
  by_cases hi:i<(zeroCells a).length
  ·rw [List.getElem?_append_left hi] at hc
   obtain ⟨u,hu,h⟩:=hJ.2 i c hc
   exact ⟨u,by rw [List.getElem?_append_left (by rw [hJ.1];exact hi)];exact hu,h⟩
  ·rw [List.getElem?_append_right (by omega)] at hc
   obtain ⟨u,hu,h⟩:=er.2 _ c hc
   exact ⟨u,by rw [List.getElem?_append_right (by rw [hJ.1];omega),hJ.1];exact hu,h⟩
 |int k=>exact one (.data true _ _) _ rfl (Iy (H:=H) k 0 true)
 |bool=>exact one (.data true _ _) _ rfl (Ie (H:=H) false true)
 |str=>exact one (.data true _ _) _ rfl (ku (H:=H) ByteArray.empty true)
 |slice e=>exact one _ _ rfl rfl
 |oslice e=>exact one _ _ rfl rfl
 |ptr e=>exact one _ _ rfl rfl
 |optr e=>exact one _ _ rfl rfl
 |smap v=>exact one (.data true _ _) _ rfl ⟨[.map none], .inl ⟨rfl,rfl⟩,by simp [As,Ty.Ab]⟩
 |clo f c=>exact one .undef .nilFunc rfl trivial
theorem Yz (hT:Ca P T) {st:St} {a:Act} (h:Al X π st a w) (t:TypeId) (Hg:Array (Nat×Nat))
  (eo: ∀f o u ρ,T.off t f=some (o,u)->T.ty u=some ρ->Hg[f]?=some (o,ρ.size)): ∀(parts:List (Nat×Operand)) (cs cF:List AC) (us:List Value),Cy X w π st.heap cs us->
  Hr T st t parts cs=some cF-> ∃Mb:List Value,Instr.fill (λi=>Hg[i]?) us.toArray (parts.map λp=>(p.1,a.eval p.2))=some Mb.toArray/\Cy X w π st.heap cF Mb
 | [],cs,cF,us,hr,he=>by
  simp only [Hr,Option.some.injEq] at he;subst he
  exact ⟨us,rfl,hr⟩
 |(f,x)::r,cs,cF,us,hr,he=>by
  simp only [Hr] at he
  split at he
  ·rename_i o u ho
   split at he
   ·rename_i ρ hρ
    split at he
    ·rename_i c hc
     split at he
     ·rename_i hle
      obtain ⟨vs,hv,hl,VX⟩:=cv (Bo h.2 x) hc
      have e1:=hr.1
      have e2:=VX.1
      obtain ⟨Mb,g1,g2⟩:=Yz hT h t Hg eo r _ cF _ (pJ hr VX o hle) he
      refine ⟨Mb,?_,g2⟩
      simp only [List.map_cons]
      rw [sj _ us f (a.eval x) _ o ρ.size vs (eo f o u ρ ho hρ) hv hl (by omega)]
      exact g1
     ·cases he
    ·cases he
   ·cases he
  ·cases he
theorem bG (hT:Ca P T) {st:St} {a:Act} (h:Al X π st a w) (t:TypeId) (parts:Array (Nat×Operand)) (av:AV) (he:Qo T st t parts=some av):
  ∃v',(Instr.build t (parts.map λ(i,x)=>(i,a.eval x))).run P w= .ok v' w/\An X w π st.heap av v':=by
 unfold Qo at he
 split at he
 ·cases he
 ·rename_i τ Qv
  split at he
  ·rename_i hs
   cases hb:Hr T st t parts.toList (zeroCells τ) with
   |none=>rw [hb] at he;cases he
   |some cF=>
    rw [hb] at he
    simp only [Option.map_some,Option.some.injEq] at he;subst he
    obtain ⟨fs,Hg,h1,h2,h3⟩:=hT.fill t τ Qv hs
    obtain ⟨i,hi,Oz,mf,o7⟩:=(hT.ty t τ Qv).info
    obtain ⟨Mb,g1,g2⟩:=Yz hT h t Hg h3 parts.toList (zeroCells τ) cF (Aq τ) (fV τ) hb
    refine ⟨.agg Mb.toArray,?_,Mb,rfl,g2⟩
    have hz:(zeroValue t).run P w= .ok (As τ (Aq τ)) w:=by simp [zeroValue,typeInfo,hi,o7]
    have ND:(As τ (Aq τ)).cells=(Aq τ).toArray:=by simp [As,hs,Value.cells]
    have UW:=h2 w
    unfold placesOf at UW
    have e1:(parts.map λ(i,x)=>(i,a.eval x)).toList=parts.toList.map λp=>(p.1,a.eval p.2):=by simp
    simp only [Instr.build,Sem.run_bind,hz,Result.andThen_ok,run_underlying h1,UW,ND,e1,g1,Sem.run_pure]
  ·cases he
theorem pd {st:St} {v:AV} (h:v.settled=true):settle st v=some (v,st):=by
 cases v with
 | «at»a=>cases a<;>simp [AV.settled,AC.settled] at h<;>simp [settle,AC.settled]
 |agg cs=>
  have hs:cs.all (·.settled)=true:=h
  have:Dt cs.length st cs=some (cs,st):=by
   cases hn:cs.length with
   |zero=>simp [Dt,hs]
   |succ n=>
    have hf:cs.find? (λc=>!c.settled)=none:=List.find?_eq_none.2 λc hc=>by simpa using List.all_eq_true.1 hs c hc
    simp [Dt,hf]
  simp [settle,this]
 |Vl fr τ x=>rfl
 |Ib l=>simp [AV.settled] at h
theorem j8 {e:Ty} {st:St} : ∀(parts:List (Nat×Operand)) (i:Nat) (fr:Bool) (ys:List e.den),aW e i parts st=some (fr,ys)-> ∃tr,Gs e i parts st=some (fr,tr,ys,st)
 | [],i,fr,ys,h=>by
  simp only [aW,Option.some.injEq,Prod.mk.injEq] at h
  obtain ⟨rfl,rfl⟩:=h
  exact ⟨true,rfl⟩
 |(j,x)::r,i,fr,ys,h=>by
  simp only [aW] at h
  split at h
  ·rename_i hc
   split at h
   ·rename_i f1 y f2 zs h1 h2
    simp only [Option.some.injEq,Prod.mk.injEq] at h
    obtain ⟨rfl,rfl⟩:=h
    obtain ⟨tr,h3⟩:=j8 r (i+1) f2 zs h2
    refine ⟨Nd st (st.ev x)&&e.tree&&tr,?_⟩
    simp only [Gs]
    rw [if_pos hc.1,pd hc.2]
    simp only [h1,h3]
   ·cases h
  ·cases h
theorem jU (hT:Ca P T) {st:St} {a:Act} (h:Al X π st a w) (t:TypeId) (len:Nat) (parts:Array (Nat×Operand)) (av:AV) (he:Vs T st t len parts=some av):
  ∃v' w' π',(Instr.buildSlice t len (parts.map λ(i,x)=>(i,a.eval x))).run P w= .ok v' w'/\Al X π' st a w'/\An X w' π' st.heap av v':=by
 unfold Vs at he
 split at he
 ·cases he
 ·rename_i te fq
  split at he
  ·cases he
  ·rename_i e Qv
   split at he
   ·rename_i Fe
    obtain ⟨eo,hlen⟩:=Fe
    cases hp:aW e 0 parts.toList st with
    |none=>rw [hp] at he;cases he
    |some p=>
     obtain ⟨fr,ys⟩:=p
     rw [hp] at he
     simp only [Option.map_some,Option.some.injEq] at he
     subst he
     obtain ⟨tr,hb⟩:=j8 _ _ _ _ hp
     obtain ⟨i,hi,Oz,mf,o7⟩:=(hT.ty te e Qv).info
     have hu:=hT.elem t te fq
     have HM:parts.toList.length=len:=by simpa using eo
     have hz: ∃z:Array Value,(len*e.size=0/\z= #[])\/(¬len*e.size=0/\(zeroValue te).run P w= .ok (As e (Aq e)) w/\z=(As e (Aq e)).cells):=by
      by_cases h0:len*e.size=0
      ·exact ⟨#[], .inl ⟨h0,rfl⟩⟩
      ·exact ⟨_, .inr ⟨h0,by simp [zeroValue,typeInfo,hi,o7],rfl⟩⟩
     obtain ⟨z,hz⟩:=hz
     obtain ⟨Wv,cl,g1,g2,g3,g4,g5,g6⟩:=Qk e parts.toList 0 st π fr tr ys st ((Array.range (len*e.size)).map (z[· %z.size]!)).toList h hb (by simp [HM])
     have Mg:cl.length=len*e.size:=by rw [g2.1,g3,HM]
     have LG:(Bp ((Array.range (len*e.size)).map (z[· %z.size]!)).toList (0*e.size) cl)=cl:=by
      simp [Bp,Mg]
     rw [LG] at g5
     have Pa:(Instr.buildSlice t len (parts.map λ(i,x)=>(i,a.eval x))).run P w= .ok (.slice (some ⟨w.heap.size,0,none⟩) len len) (w.alloc (.cells cl.toArray te)):=by
      have h24: ¬(len*e.size>2^24):=by
       have:len*e.size<=64*64:=Nat.mul_le_mul hlen.1 hlen.2
       omega
      simp only [Instr.buildSlice,Sem.run_bind,run_underlying hu,Result.andThen_ok,(hT.ty te e Qv).size,if_neg h24]
      have e1:(parts.map λ(i,x)=>(i,a.eval x)).toList=parts.toList.map λp=>(p.1,a.eval p.2):=by simp
      simp only [e1]
      have e2:(((Array.range (len*e.size)).map (z[· %z.size]!)).toList.toArray)=(Array.range (len*e.size)).map (z[· %z.size]!):=Array.toArray_toList
      rw [e2] at g5
      rcases hz with ⟨h0,rfl⟩|⟨h0,hz,rfl⟩
      ·rw [if_pos h0]
       simp only [Sem.run_bind,Sem.run_pure,Result.andThen_ok,g5,newRow]
       simp
      ·rw [if_neg h0]
       simp only [Sem.run_bind,Sem.run_pure,Result.andThen_ok,hz,g5,newRow]
       simp
     have SF:(w.alloc (.cells cl.toArray te)).heap[w.heap.size]?=some (.cells cl.toArray te (0,0)):=heap_alloc_new w _
     have hB:Below w.heap.size w (w.alloc (.cells cl.toArray te)):=(Below.refl _ _).alloc (Nat.le_refl _) _
     have Fc:=Cs SF
     refine ⟨_,_,Wv,Pa,g1.quiet hB,⟨[_],?_,rfl⟩⟩
     refine ⟨some ⟨w.heap.size,0,none⟩,len,len,rfl,by rw [g3,HM],Nat.le_refl _, .inr ⟨w.heap.size,0,rfl,Fc,λhA=>?_,λk x hx=>?_⟩⟩
     ·rcases hA with hA|hA|⟨_,hA⟩
      ·exact absurd (g1.1.own hA).1 (Nat.lt_irrefl _)
      ·exact absurd (Nat.lt_of_lt_of_le (g1.1.sc _ hA).1 g1.1.below.size) (Nat.lt_irrefl _)
      ·exact absurd (Nat.lt_of_lt_of_le hA g1.1.below.size) (Nat.lt_irrefl _)
     ·obtain ⟨es,k1,k2,k3⟩:=g2.2 k x hx
      refine ⟨es,k1,λj u hu=>?_,Cells.Ch hB.size (λb hb _=>hB.block b hb) (λ_ _ h=>h) e es x k3⟩
      rw [cellOf SF,Nat.zero_add]
      simpa using k2 j u hu
   ·cases he
theorem x8 {Γ:Env} (hT:Ca P T) (Mq:Hi P Γ) {st:St} {a:Act} (h:Al X π st a w) (o:Oper) (av:AV) (he:Sm T Γ st o=some av):
  cm P X st a w av ((execOp a.eval o).run P w):=by
 obtain ⟨dst,op,ty,pos,af,gd⟩:=o
 have val: ∀(s:Sem Value) (v:Value) (w':World) (π':Pi),s.run P w= .ok v w'->Al X π' st a w'->An X w' π' st.heap av v->(execOp a.eval ⟨dst,op,ty,pos,af,gd⟩=do pure (.value (<-s)))->
   cm P X st a w av ((execOp a.eval ⟨dst,op,ty,pos,af,gd⟩).run P w):=by
  intro s v w' π' h1 h2 h3 h4
  rw [h4,Sem.run_bind,h1]
  exact ⟨π',h2,h3⟩
 have quiet:Ci T Γ st ⟨dst,op,ty,pos,af,gd⟩=some av->cm P X st a w av ((execOp a.eval ⟨dst,op,ty,pos,af,gd⟩).run P w):=by
  intro hq
  have:=lj hT Mq h _ av hq
  generalize (execOp a.eval ⟨dst,op,ty,pos,af,gd⟩).run P w=r at*
  cases r with
  |halt x w'=>exact this
  |ok n w'=>
   cases n<;>simp only [EO] at this<;>simp only [cm]
   ·obtain ⟨rfl,hr⟩:=this
    exact ⟨π,h,hr⟩
   ·obtain ⟨rfl,hc⟩:=this
    exact ⟨rfl,hc.mono λe pZ ⟨v,hv,hb,hr⟩=>⟨v,hv,π,h.quiet hb,hr⟩⟩
 unfold Sm at he
 split at he
 ·rename_i t len parts mX
  dsimp only at mX;subst mX
  obtain ⟨v,w',π',h1,h2,h3⟩:=jU hT h t len parts av he
  exact val _ v w' π' h1 h2 h3 rfl
 ·rename_i t parts mX
  dsimp only at mX;subst mX
  obtain ⟨v',h1,h2⟩:=bG hT h t parts av he
  exact val _ v' w π h1 h h2 rfl
 ·exact quiet he
theorem fH {a:Act} : ∀(l:List Operand) {π:Pi} {st st1:St},Al X π st a w->Jq l st=some st1-> ∃π',Al X π' st1 a w
 | [],π,st,st1,h,he=>by
  simp only [Jq,Option.some.injEq] at he
  subst he
  exact ⟨π,h⟩
 |x::r,π,st,st1,h,he=>by
  simp only [Jq] at he
  cases hs:settle st (st.ev x) with
  |none=>rw [hs] at he;cases he
  |some p=>
   rw [hs] at he
   obtain ⟨Wv,h1,_⟩:=Wn h (Bo h.2 x) hs
   exact fH r h1 he
theorem tX {Γ:Env} (hT:Ca P T) (Mq:Hi P Γ) {st:St} {a:Act} (h:Al X π st a w) (o:Oper) (av:AV) (st':St) (he:evalOp T Γ st o=some (av,st')):
  cm P X st' a w av ((execOp a.eval o).run P w):=by
 have quiet: ∀ {π:Pi} {st:St},Al X π st a w->(Ci T Γ st o).map (λv=>(v,st))=some (av,st')->cm P X st' a w av ((execOp a.eval o).run P w):=by
  intro π st h he
  cases hq:Ci T Γ st o with
  |none=>rw [hq] at he;cases he
  |some v=>
   rw [hq] at he
   simp only [Option.map_some,Option.some.injEq,Prod.mk.injEq] at he
   obtain ⟨rfl,rfl⟩:=he
   have:=lj hT Mq h o v hq
   generalize (execOp a.eval o).run P w=r at*
   cases r with
   |halt x w'=>exact this
   |ok n w'=>
    cases n<;>simp only [EO] at this<;>simp only [cm]
    ·obtain ⟨rfl,hr⟩:=this
     exact ⟨π,h,hr⟩
    ·obtain ⟨rfl,hc⟩:=this
     exact ⟨rfl,hc.mono λe pZ ⟨v,hv,hb,hr⟩=>⟨v,hv,π,h.quiet hb,hr⟩⟩
 obtain ⟨dst,op,ty,pos,af,gd⟩:=o
 have val: ∀(s:Sem Value) (v:Value) (w':World) (π':Pi),s.run P w= .ok v w'->Al X π' st' a w'->An X w' π' st'.heap av v->(execOp a.eval ⟨dst,op,ty,pos,af,gd⟩=do pure (.value (<-s)))->
   cm P X st' a w av ((execOp a.eval ⟨dst,op,ty,pos,af,gd⟩).run P w):=by
  intro s v w' π' h1 h2 h3 h4
  rw [h4,Sem.run_bind,h1]
  exact ⟨π',h2,h3⟩
 unfold evalOp at he
 split at he
 all_goals (rename_i mX;dsimp only at mX;try subst mX)
 ·
  rename_i x
  split at he
  ·rename_i d te e hx hd ht
   split at he
   ·rename_i VI
    simp only [Option.some.injEq,Prod.mk.injEq] at he
    obtain ⟨rfl,rfl⟩:=he
    obtain ⟨k1,k2,_⟩:=oF h d VI (T.nX||e.flat) T.vY te e
    have ZI:=Bo h.2 x
    rw [hx] at ZI
    have hxv:a.eval x= .slice none 0 0:=ZI
    show cm P X _ a w _ (.ok (.value (a.eval x)) w)
    rw [hxv]
    exact ⟨_,k1,k2⟩
   ·cases he
  ·simp only [Option.some.injEq,Prod.mk.injEq] at he
   obtain ⟨rfl,rfl⟩:=he
   exact ⟨π,h,Bo h.2 x⟩
 ·
  rename_i t
  split at he
  ·rename_i d τ hd ht
   obtain ⟨i,hi,Oz,mf,o7⟩:=(hT.ty t τ ht).info
   obtain ⟨π',k1,k2⟩:=lI h d t τ (zeroCells τ) (Aq τ) (fV τ) av st' he
   have ND:(As τ (Aq τ)).cells=(Aq τ).toArray:=by
    cases τ<;>simp [As,Ty.Ab,Value.cells,Aq]
   refine val (Instr.alloc t true (.tuple #[])) _ _ π' ?_ k1 k2 rfl
   simp [Instr.alloc,zeroValue,typeInfo,hi,o7,newVar,newRow,ND]
  ·cases he
 ·
  rename_i t x
  split at he
  ·rename_i d τ hd ht
   split at he
   ·rename_i cs hc
    obtain ⟨us,hv,hl,hr⟩:=cv (Bo h.2 x) hc
    obtain ⟨π',k1,k2⟩:=lI h d t τ cs us hr av st' he
    refine val (Instr.box t (a.eval x)) _ _ π' ?_ k1 k2 rfl
    simp [Instr.box,newVar,newRow,hv]
   ·cases he
  ·cases he
 ·
  rename_i t p x
  cases hs:Kf T st t (st.ev p) (st.ev x) with
  |none=>rw [hs] at he;cases he
  |some s=>
   rw [hs] at he
   simp only [Option.map_some,Option.some.injEq,Prod.mk.injEq] at he
   obtain ⟨rfl,rfl⟩:=he
   obtain ⟨w',π',h1,h2⟩:=jY hT h t _ _ _ _ (Bo h.2 p) (Bo h.2 x) s hs
   have:(execOp a.eval ⟨dst, .store t p x,ty,pos,af,gd⟩).run P w= .ok .skip w':=by
    show (do Instr.storeAt t (a.eval p) (a.eval x);pure Next.skip:Sem Next).run P w=_
    rw [Sem.run_bind,h1];rfl
   rw [this]
   exact ⟨π',h2,trivial⟩
 ·
  rename_i t l c
  split at he
  ·rename_i d hd
   obtain ⟨v,w',π',h1,h2,h3⟩:=ma hT h d t _ _ _ _ (Bo h.2 l) (Bo h.2 c) av st' he
   exact val _ v w' π' h1 h2 h3 rfl
  ·cases he
 ·
  rename_i t
  split at he
  ·rename_i d hd
   obtain ⟨v,w',π',h1,h2,h3⟩:=iA hT h d t av st' he
   exact val _ v w' π' h1 h2 h3 rfl
  ·cases he
 ·
  rename_i t m k x
  cases hs:Eu T st t (st.ev m) (st.ev k) (st.ev x) with
  |none=>rw [hs] at he;cases he
  |some s=>
   rw [hs] at he
   simp only [Option.map_some,Option.some.injEq,Prod.mk.injEq] at he
   obtain ⟨rfl,rfl⟩:=he
   obtain ⟨w',h1,h2⟩:=Ze hT h t _ _ _ _ _ _ (Bo h.2 m) (Bo h.2 k) (Bo h.2 x) s hs
   have:(execOp a.eval ⟨dst, .mapUpdate t m k x,ty,pos,af,gd⟩).run P w= .ok .skip w':=by
    show (do Instr.mapUpdate t (a.eval m) (a.eval k) (a.eval x);pure Next.skip:Sem Next).run P w=_
    rw [Sem.run_bind,h1];rfl
   rw [this]
   exact ⟨π,h2,trivial⟩
 ·
  rename_i t m k x
  cases hs:Eu T st t (st.ev m) (st.ev k) (st.ev x) with
  |none=>rw [hs] at he;cases he
  |some s=>
   rw [hs] at he
   simp only [Option.map_some,Option.some.injEq,Prod.mk.injEq] at he
   obtain ⟨rfl,rfl⟩:=he
   obtain ⟨w',h1,h2⟩:=Ze hT h t _ _ _ _ _ _ (Bo h.2 m) (Bo h.2 k) (Bo h.2 x) s hs
   have:(execOp a.eval ⟨dst, .insert t m k x,ty,pos,af,gd⟩).run P w= .ok .skip w':=by
    show (do Instr.mapUpdate t (a.eval m) (a.eval k) (a.eval x);pure Next.skip:Sem Next).run P w=_
    rw [Sem.run_bind,h1];rfl
   rw [this]
   exact ⟨π,h2,trivial⟩
 ·
  rename_i t len parts
  split at he
  ·rename_i d hd
   obtain ⟨v,w',π',h1,h2,h3⟩:=c7 hT h d t len parts av st' he
   exact val _ v w' π' h1 h2 h3 rfl
  ·cases he
 ·
  rename_i t parts
  cases hb:Qo T st t parts with
  |none=>rw [hb] at he;cases he
  |some v=>
   rw [hb] at he
   simp only [Option.map_some,Option.some.injEq,Prod.mk.injEq] at he
   obtain ⟨rfl,rfl⟩:=he
   obtain ⟨v',h1,h2⟩:=bG hT h t parts v hb
   exact val _ v' w π h1 h h2 rfl
 ·
  rename_i args ts
  split at he
  ·rename_i d x y t t' hd Lf oe
   split at he
   ·rename_i Pc;subst Pc
    have e1:args= #[x,y]:=by apply Array.ext';simpa using Lf
    have e2:ts= #[t,t]:=by apply Array.ext';simpa using oe
    subst e1;subst e2
    obtain ⟨v,w',π',h1,h2,h3⟩:=ix hT h d t ty x y av st' he
    refine val (Builtin.append_ #[t,t] ty #[a.eval x,a.eval y]) v w' π' h1 h2 h3 ?_
    simp [execOp,resolve,invoke,builtin]
   ·cases he
  ·cases he
 ·
  rename_i args ts
  split at he
  ·rename_i x y t t' Lf oe
   have e1:args= #[x,y]:=by apply Array.ext';simpa using Lf
   have e2:ts= #[t,t']:=by apply Array.ext';simpa using oe
   subst e1;subst e2
   obtain ⟨v,w',h1,h2,h3⟩:=nO hT h t t' ty _ _ _ _ (Bo h.2 x) (Bo h.2 y) av st' he
   refine val (Builtin.copy_ #[t,t'] ty #[a.eval x,a.eval y]) v w' π h1 h2 h3 ?_
   simp [execOp,resolve,invoke,builtin]
  ·cases he
 ·
  rename_i args ts
  split at he
  ·rename_i x t Lf oe
   have e1:args= #[x]:=by apply Array.ext';simpa using Lf
   have e2:ts= #[t]:=by apply Array.ext';simpa using oe
   subst e1;subst e2
   cases hs:evalClear T st t (st.ev x) with
   |none=>rw [hs] at he;cases he
   |some s=>
    rw [hs] at he
    simp only [Option.map_some,Option.some.injEq,Prod.mk.injEq] at he
    obtain ⟨rfl,rfl⟩:=he
    obtain ⟨v,w',h1,h2⟩:=m9 hT h t ty _ _ (Bo h.2 x) s hs
    refine val (Builtin.clear_ #[t] ty #[a.eval x]) v w' π h1 h2 trivial ?_
    simp [execOp,resolve,invoke,builtin]
  ·cases he
 ·
  rename_i f args ts
  split at he
  ·rename_i s Adq
   have hs:Au P f s:=Mq f _ Adq
   have:=m8 h hs dst (args.toList.map st.ev) (args.toList.map a.eval) (by simp) (λi c v=>dz h args.toList i c v) av st' he
   rw [dC a.eval f args ts dst ty pos af gd rfl hs.enter]
   refine ⟨rfl,?_⟩
   rwa [show (args.toList.map a.eval).toArray=args.map a.eval from by apply Array.ext';simp] at this
  ·rename_i s Adq
   split at he
   ·cases hs:Jq args.toList st with
    |none=>rw [hs] at he;cases he
    |some st1=>
     rw [hs] at he
     obtain ⟨Wv,h1⟩:=fH args.toList h hs
     exact quiet h1 he
   ·exact quiet h he
  ·exact quiet h he
 ·exact quiet h he
end
end Go.Proofs.YtfolipnappekaaaGreat
