/-
  Part 23 of the proof that the statement FnExactStageWord holds.
-/
import Derived.Test.YtjbdmibbbpdnnaaCStageWord21
namespace Go.Proofs.Ytjbdmibbbpdnnaa
open Go.RowKit
section
variable {P:Program} {T:Tab} {X:Ctx} {w w':World} {π:Pi} {H:List (Nat×OB)}
theorem ri {π':Pi} {st':St} {a:Act} (h:Ai X π' st' a w) (k:Gc π π' H st'.heap) {fr:Bool} (τ:Ty) (cs:List Value) (x:τ.den) (hc:Cells w (Bc X.w0.heap.size X.Sc π fr) τ cs x):
  Cells w (Bc X.w0.heap.size X.Sc π' fr) τ cs x:=
 Cells.Cs (Nat.le_refl _) (λ_ _ _=>rfl) (λb _ hA=>by
  rcases hA with ⟨l,r,hl,hg⟩|h2
  ·have hh:=h.1.heap l
   cases hb:Ae st'.heap l with
   |none=>have:=hh.emp hb;rw [this] at hl;cases hl
   |some b'=>have:=(k l b' hb).1;rw [this] at hl;exact .inl ⟨l,r,hl,hg⟩
  ·exact .inr h2) τ cs x hc
theorem bq.drop {F:List Nat} {l:Nat} (h:bq X w π F):bq X w (Po π l none) F:=
 ⟨h.1,λb hb=>⟨(h.2 b hb).1,(h.2 b hb).2.1,λm r hm=>by
  by_cases e:m=l
  ·subst e;rw [De] at hm;cases hm
  ·rw [Dd π none e] at hm;exact (h.2 b hb).2.2 m r hm⟩⟩
theorem mP {st:St} {a:Act} (h:Ai X π st a w) (l:Nat) (hl:l<Aj) (f0 t0:Bool) (te:TypeId) (e:Ty):
  Ai X (Po π l none) (st.new l (.arr f0 t0 e te [])) a w/\Am X w (Po π l none) (st.new l (.arr f0 t0 e te [])).heap (.at (.own l 0 0)) (.slice none 0 0)/\
   ∀fr τ cs x,Cells w (Bc X.w0.heap.size X.Sc π fr) τ cs x->Cells w (Bc X.w0.heap.size X.Sc (Po π l none) fr) τ cs x:=
 ⟨h.replace l hl none _ (Ju w _) (λr hr=>by cases hr) (λ_=>rfl),
  vN (St.Dp st l _) (Nat.le_refl _) (by rw [De];exact ⟨rfl,rfl,rfl⟩),
  fun fr τ cs x hc=>Cells.Cs (Nat.le_refl _) (λ_ _ _=>rfl) (λb _ hA=>by
  rcases hA with ⟨m,r,hm,hg⟩|h2
  ·by_cases e:m=l
   ·subst e;rw [De] at hm;cases hm
   ·rw [Dd π none e] at hm;exact .inl ⟨m,r,hm,hg⟩
  ·exact .inr h2) τ cs x hc⟩
theorem Pz (hT:Bz P T) {st:St} {a:Act} (h:Ai X π st a w) (dst:Nat) (t ty:TypeId) (x y:Operand) (av:AV) (st':St) (he:Io T st dst t x y=some (av,st')):
  ∃v' w' π',(Builtin.append_ #[t,t] ty #[a.eval x,a.eval y]).run P w= .ok v' w'/\Ai X π' st' a w'/\Am X w' π' st'.heap av v':=by
 unfold Io at he
 split at he
 ·cases he
 ·rename_i te ed
  split at he
  ·rename_i e y' st1 Qk hs
   obtain ⟨Vj,h1,h2,h3,h4,h5⟩:=Ve h (Bl h.2 y) hs
   split at he
   ·cases he
   ·rename_i ll ys hv
    dsimp only at he
    have AJ: ∀tr2,tr2=(e.flat||(Mp st (st.ev y)&&e.tree))->tr2=true->e.flat=true\/ ∃F,Be w F (.slice e) [a.eval y] ys/\bq X w Vj F:=by
     intro tr2 e2 gB
     subst e2
     cases hef:e.flat with
     |true=>exact .inl rfl
     |false=>
     right
     simp only [hef,Bool.false_or,Bool.and_eq_true] at gB
     obtain ⟨F,us,f1,f2,f3,_⟩:=h5 gB.1 (.slice e) ll ys gB.2 hv
     have IB:us= [a.eval y]:=by
      simp only [Be] at f1
      obtain ⟨a0,len,cap,rfl,_⟩:=f1
      rw [f2];simp [Ap,Ty.Ab]
     rw [IB] at f1
     exact ⟨F,f1,f3⟩
    have hyc:Cells w (Bc X.w0.heap.size X.Sc Vj ll) (.slice e) [a.eval y] ys:=Bb.Li rfl (Jm _ y' _ ll ys h3 h2 hv)
    have MD:=Bl h1.2 x
    split at he
    ·rename_i hx
     rw [hx] at MD
     have hxv:a.eval x= .slice none 0 0:=MD
     split at he
     ·rename_i iX
      simp only [Option.some.injEq,Prod.mk.injEq] at he
      obtain ⟨rfl,rfl⟩:=he
      obtain ⟨k1,k2,k3⟩:=mP h1 dst iX.2 (T.me||e.flat) T.tw te e
      have:=fU (ty:=ty) hT k1 ed Qk iX.2 (fr3:=ll||e.flat) (tr2:=e.flat||(Mp st (st.ev y)&&e.tree)) rfl (St.Dp st1 dst _) k2 (k3 _ _ _ _ hyc) (by rw [Nat.zero_add];exact iX.1) (λht=>by
       rcases AJ _ rfl ht with h0|⟨F,f1,f2⟩
       ·exact .inl h0
       ·exact .inr ⟨F,f1,f2.drop⟩)
      rw [<-hxv] at this
      exact this
     ·cases he
    ·rename_i l off len hx
     rw [hx] at MD
     split at he
     ·rename_i fr tr e' tid xs hl
      split at he
      ·rename_i Fa
       obtain ⟨rfl,rfl⟩:=Fa
       split at he
       ·rename_i iX
        simp only [Option.some.injEq,Prod.mk.injEq] at he
        obtain ⟨rfl,rfl⟩:=he
        exact fU (ty:=ty) hT h1 ed Qk iX.2 (fr3:=ll||e'.flat) (tr2:=e'.flat||(Mp st (st.ev y)&&e'.tree)) rfl hl MD hyc iX.1 (AJ _ rfl)
       ·cases he
      ·cases he
     ·cases he
    ·cases he
  ·cases he
theorem gh (hT:Bz P T) {st:St} {a:Act} (h:Ai X π st a w) (dst:Nat) (t ty:TypeId) (x y:Operand) (av:AV) (st':St) (he:Lc T st dst t x y=some (av,st')):
  ∃v' w' π',(Builtin.append_ #[t,t] ty #[a.eval x,a.eval y]).run P w= .ok v' w'/\Ai X π' st' a w'/\Am X w' π' st'.heap av v':=by
 unfold Lc at he
 split at he
 ·rename_i tx
  split at he
  ·rename_i l i c hg
   split at he
   ·rename_i e te rows kp tid hl _
    split at he
    ·rename_i hc
     simp only [Bool.and_eq_true,Nat.blt_eq,Bool.not_eq_true'] at hc
     have dI:dst≠l:= λe=>by rw [e,Nat.beq_refl] at hc;cases hc.2.2
     unfold St.at at hl
     have hv:Dx X w π st.heap (.sub l i c) (a.tmps.getD tx undef):=by
      have:=h.2.tmps tx
      rw [hg] at this
      exact this
     obtain ⟨Vj,h1,h2⟩:=xF (tid:=tid) h hl dI hc.2.1 hc.1 hv
     have h3:=h1.put (some tx) (c:= .at (.own dst 0 (rows.getD i []).length)) h2
     have ZT:a.put (some tx) (a.tmps.getD tx undef)=a:=by
      have:a.tmps.setIfInBounds tx (a.tmps.getD tx undef)=a.tmps:=by
       apply Array.ext_getElem?
       intro k
       rw [Array.getElem?_setIfInBounds]
       split
       ·rename_i e
        subst e
        split
        ·rename_i Hl
         rw [Array.getElem?_eq_getElem Hl];simp
        ·rename_i Hl
         rw [Array.getElem?_eq_none (by omega)]
       ·rfl
      simp only [Act.put,this]
     rw [ZT] at h3
     exact Pz hT h3 dst t ty (.tmp tx) y av st' he
    ·cases he
   ·cases he
  ·exact Pz hT h dst t ty _ y av st' he
 ·exact Pz hT h dst t ty x y av st' he
theorem zw {S:Nat->Prop} {e:Ty} (h:fP e=true): ∃z,An e= [z]/\e.Ab=false/\e.size=1/\Cells w S e [z] e.zero/\z.oneCell'=true:=by
 cases e<;>simp [fP] at h
 ·exact ⟨_,rfl,rfl,rfl,rfl,rfl⟩
 ·exact ⟨_,rfl,rfl,rfl,rfl,rfl⟩
 ·exact ⟨_,rfl,rfl,rfl,rfl,rfl⟩
 ·exact ⟨_,rfl,rfl,rfl,⟨none,0,0,rfl,rfl,Nat.le_refl _, .inl rfl⟩,rfl⟩
 ·exact ⟨_,rfl,rfl,rfl, .inl ⟨rfl,0,rfl⟩,rfl⟩
theorem xd {e:Ty} {z:Value} (ht:e.tree=true) (h:fP e=true) (hz:An e= [z]):Be w [] e [z] e.zero:=by
 cases e<;>simp [fP] at h<;>simp only [An,List.cons.injEq,and_true] at hz<;>subst hz<;>try (simp [Ty.tree] at ht;done)
 ·exact ⟨rfl,rfl⟩
 ·exact ⟨rfl,rfl⟩
 ·exact ⟨rfl,rfl⟩
 ·exact ⟨none,0,0,rfl,rfl,Nat.le_refl _, .inl ⟨rfl,rfl,rfl,rfl⟩⟩
theorem LQ {S:Nat->Prop} : ∀(e:Ty),aH e=true->(An e).length=e.size/\Cells w S e (An e) e.zero/\(e.tree=true->Be w [] e (An e) e.zero):=by
 intro e
 induction e with
 |unit=>intro _;exact ⟨rfl,rfl,λ_=>⟨rfl,rfl⟩⟩
 |pair a r fQ dt=>
  intro h
  simp only [aH,Bool.and_eq_true] at h
  obtain ⟨a1,a2,a3⟩:=fQ h.1
  obtain ⟨r1,r2,r3⟩:=dt h.2
  exact ⟨by simp [An,Ty.size,a1,r1],⟨_,_,rfl,a2,r2⟩,λht=>by simp only [Ty.tree,Bool.and_eq_true] at ht;exact ⟨_,_,[],[],rfl,rfl,a3 ht.1,r3 ht.2⟩⟩
 |_=>
  intro h
  simp only [aH] at h
  obtain ⟨z,z1,z2,z3,z4,_⟩:=zw (w:=w) (S:=S) h
  exact ⟨by rw [z1,z3];rfl,by rw [z1];exact z4,λht=>by rw [z1];exact xd ht h z1⟩
theorem AQ {z:Array Value} {s m j q:Nat} (hz:z.size=s) (hj:j<m) (hq:q<s):(madeCells z (m*s))[j*s+q]?=z[q]?:=by
 have h1:j*s+q<m*s:=by
  have:=Nat.mul_le_mul_right s (show j+1<=m by omega)
  rw [Nat.succ_mul] at this
  omega
 have h2:(j*s+q)%z.size=q:=by rw [hz,Nat.mul_comm,Nat.mul_add_mod,Nat.mod_eq_of_lt hq]
 have h3:q<z.size:=by omega
 unfold madeCells
 simp [h1,h2,h3]
theorem m8 (hT:Bz P T) {st:St} {a:Act} (h:Ai X π st a w) (dst:Nat) (t:TypeId) (l c:AV) (vl vc:Value) (hl:Am X w π st.heap l vl) (hc:Am X w π st.heap c vc) (av:AV) (st':St)
  (he:Ul T st dst t l c=some (av,st')): ∃v' w' π',(Instr.makeSlice t vl vc).run P w= .ok v' w'/\Ai X π' st' a w'/\Am X w' π' st'.heap av v':=by
 unfold Ul at he
 split at he
 ·rename_i te QG k1 n ll k2 m ed
  have:=Jz hl;subst this
  have:=Jz hc;subst this
  split at he
  ·rename_i e Qk
   split at he
   ·rename_i Fa
    obtain ⟨h0,hnm,hz,FV⟩:=Fa
    obtain ⟨h1,h2⟩:=My.1 h0
    subst hnm
    simp only [Option.some.injEq,Prod.mk.injEq] at he
    obtain ⟨rfl,rfl⟩:=he
    obtain ⟨i,hi,Of,kT,mr⟩:=(hT.ty te e Qk).info
    obtain ⟨z1,z4,z5⟩:=LQ (w:=w) (S:=Bc X.w0.heap.size X.Sc π (T.me||e.flat)) e hz
    have IC:(Ap e (An e)).cells=(An e).toArray:=Gg e _ _ z4
    have hu:=hT.elem t te ed
    have hn:n.toNat<=4294967296:=by unfold Bm at h2;omega
    have hr:=run_make (P:=P) (w:=w) t te i _ hu hi mr k1 k2 n n h1 (Int.le_refl _) (by
     have:(i.bytes:Int)*n<=256*4294967296:=by
      obtain ⟨nn,rfl⟩:=Int.eq_ofNat_of_zero_le h1
      have h7:i.bytes*nn<=256*4294967296:=Nat.mul_le_mul kT (by simpa using hn)
      have h8:((i.bytes*nn:Nat):Int)<=256*4294967296:=by omega
      rwa [Int.natCast_mul] at h8
     omega) (by unfold Bm at h2;omega)
    rw [IC,Of] at hr
    have Vx:((An e).toArray).size=e.size:=by simpa using z1
    have cell: ∀j,j<n.toNat-> ∀q u,(An e)[q]?=some u->(madeCells (An e).toArray (n.toNat*e.size)).toList[j*e.size+q]?=some u:=by
     intro j hj q u hu
     have hq:q<e.size:=by rw [<-z1];exact (List.getElem?_eq_some_iff.1 hu).1
     have:=AQ Vx hj hq
     rw [Array.getElem?_toList,this]
     simpa using hu
    have:=a8 (w1:=w.alloc (.cells (madeCells (An e).toArray (n.toNat*e.size)) te)) h dst FV (T.me||e.flat) (T.tw&&e.tree) e te (List.replicate n.toNat e.zero) (madeCells (An e).toArray (n.toNat*e.size)).toList (madeCells (An e).toArray (n.toNat*e.size)) n.toNat []
     (.inr rfl) (by rw [size_madeCells]) (by unfold maxLen;omega) (by simp)
     (λk u hu=>by
      rw [Array.getElem?_toList] at hu;exact hu) ⟨by simp [size_madeCells],λj x hx=>by
       have hj:=(List.getElem?_eq_some_iff.1 hx).1
       simp only [List.length_replicate] at hj
       refine ⟨An e,z1,λq u hu=>cell j hj q u hu,?_⟩
       rw [List.eq_of_mem_replicate (List.mem_of_getElem? hx)];exact z4⟩ (by simp) (λgB=>⟨List.nodup_nil,List.replicate n.toNat [],by simp,by simp,λj x F hx hF=>by
      have hj:=(List.getElem?_eq_some_iff.1 hx).1
      simp only [List.length_replicate] at hj
      refine ⟨An e,z1,λq u hu=>cell j hj q u hu,?_⟩
      have e1:=List.eq_of_mem_replicate (List.mem_of_getElem? hx)
      have e2:=List.eq_of_mem_replicate (List.mem_of_getElem? hF)
      rw [e1,e2]
      exact z5 (by simp only [Bool.and_eq_true] at gB;exact gB.2)⟩)
    exact ⟨_,_,_,hr,this.1,this.2 _ (by simp)⟩
   ·cases he
  ·cases he
 ·cases he
theorem bT (off:Nat): ∀(us:List Value) (k:Nat) (cells:List Value),off+k+us.length<=cells.length->
  (us.zipIdx k).foldl (λcs p=>cs.setIfInBounds (off+p.2) p.1) cells.toArray=(Bf cells (off+k) us).toArray
 | [],k,cells,h=>by simp [Bf]
 |u::us,k,cells,h=>by
  simp only [List.zipIdx_cons,List.foldl_cons]
  rw [show cells.toArray.setIfInBounds (off+k) u=(cells.set (off+k) u).toArray by simp]
  rw [bT off us (k+1) (cells.set (off+k) u) (by simp at h⊢;omega)]
  congr 1
  apply List.ext_getElem?
  intro j
  have hl:off+k+(u::us).length<=cells.length:=h
  have FY:off+(k+1)+us.length<=(cells.set (off+k) u).length:=by simp at h⊢;omega
  rw [Ed _ _ _ _ hl,Ed _ _ _ _ FY]
  simp only [List.length_cons]
  by_cases h1:j<off+k
  ·rw [if_pos (by omega),if_pos h1,List.getElem?_set_ne (by omega)]
  ·rw [if_neg h1]
   by_cases h2:j=off+k
   ·subst h2
    rw [if_pos (by omega),if_pos (by omega),List.getElem?_set_self (by simp at h;omega)]
    simp
   ·rw [if_neg (by omega)]
    by_cases h3:j<off+k+(us.length+1)
    ·rw [if_pos (by omega),if_pos h3]
     rw [show j-(off+k)=(j-(off+(k+1)))+1 by omega,List.getElem?_cons_succ]
    ·rw [if_neg (by omega),if_neg h3,List.getElem?_set_ne (by omega)]
theorem pJ (place:Nat->Option (Nat×Nat)) (cells:List Value) (i:Nat) (v:Value) (rest:List (Nat×Value)) (off size:Nat) (us:List Value) (hp:place i=some (off,size)) (hv:v.cells=us.toArray)
  (hl:us.length=size) (hle:off+size<=cells.length):Instr.fill place cells.toArray ((i,v)::rest)=Instr.fill place (Bf cells off us).toArray rest:=by
 simp only [Instr.fill,hp,hv,List.size_toArray,hl]
 rw [if_neg (by simp;omega)]
 congr 1
 have:=bT off us 0 cells (by omega)
 simp only [Nat.add_zero] at this
 rw [<-this]
 simp
theorem Px (e:Ty) {a:Act} : ∀(parts:List (Nat×Operand)) (i:Nat) (st:St) (π:Pi) (fr tr:Bool) (ys:List e.den) (st':St) (cells:List Value),Ai X π st a w->Gm e i parts st=some (fr,tr,ys,st')->
  (i+parts.length)*e.size<=cells.length->
  ∃π' cl,Ai X π' st' a w/\Flat w (Bc X.w0.heap.size X.Sc π' fr) e cl ys/\ys.length=parts.length/\Gc π π' st.heap st'.heap/\
   Instr.fill (λi=>some (i*e.size,e.size)) cells.toArray (parts.map λp=>(p.1,a.eval p.2))=some (Bf cells (i*e.size) cl).toArray/\
   (tr=true-> ∃Fs,Lz w e cl ys Fs/\bq X w π' (List.flatten Fs)/\ ∀b∈List.flatten Fs,∃l r,π l=some r/\r.cl b)
 | [],i,st,π,fr,tr,ys,st',cells,h,he,hle=>by
  simp only [Gm,Option.some.injEq,Prod.mk.injEq] at he
  obtain ⟨rfl,rfl,rfl,rfl⟩:=he
  exact ⟨π,[],h,Flat.nil,rfl,Gc.refl _ _,by simp [Instr.fill,Bf],λ_=>⟨[],⟨rfl,λi z F hz=>by simp at hz⟩,⟨List.nodup_nil,by simp⟩,by simp⟩⟩
 |(j,x)::r,i,st,π,fr,tr,ys,st',cells,h,he,hle=>by
  simp only [Gm] at he
  split at he
  ·rename_i iZ;subst iZ
   split at he
   ·rename_i v' st1 hs
    obtain ⟨Vj,h1,h2,h3,h4,h5⟩:=Ve h (Bl h.2 x) hs
    split at he
    ·rename_i QG y hv
     split at he
     ·rename_i ll tr2 zs st2 hr
      simp only [Option.some.injEq,Prod.mk.injEq] at he
      obtain ⟨rfl,rfl,rfl,rfl⟩:=he
      obtain ⟨es,bp,xP⟩:=Jm e v' _ QG y h3 h2 hv
      have gz:=Cells.len e es y bp
      have Aey:i*e.size+e.size<=cells.length:=by
       have:(i+1)*e.size<=(i+((i,x)::r).length)*e.size:=Nat.mul_le_mul_right _ (by simp)
       rw [Nat.add_mul,Nat.one_mul] at this
       omega
      have AA:i*e.size+es.length<=cells.length:=by omega
      obtain ⟨FP,cl,g1,g2,g3,g4,g5,g6⟩:=Px e r (i+1) st1 Vj ll tr2 zs st2 (Bf cells (i*e.size) es) h1 hr (by
       rw [En _ _ _ AA]
       rw [show i+1+r.length=i+((i,x)::r).length by simp;omega];exact hle)
      have f1:Flat w (Bc X.w0.heap.size X.Sc FP QG) e es [y]:=⟨by simp [gz],λq z hz=>by
       rcases q with _|q
       ·simp at hz;subst hz
        exact ⟨es,gz,λj u hu=>by simpa using hu,ri g1 g4 e es y bp⟩
       ·simp at hz⟩
      refine ⟨FP,es++cl,g1,?_,by simp [g3],h4.trans g4,?_,λht=>?_⟩
      ·have:=(f1.cells λes z hc=>hc.and_left (f2:=ll)).append (g2.cells λes z hc=>hc.and_right (f1:=QG))
       simpa using this
      ·simp only [List.map_cons]
       rw [pJ _ cells i (a.eval x) _ (i*e.size) e.size es rfl (by rw [xP];exact Gg e es y bp) gz Aey,g5]
       congr 2
       have Nt:cl.length=r.length*e.size:=by rw [g2.1,g3]
       have Qf:(i+1)*e.size+cl.length<=(Bf cells (i*e.size) es).length:=by
        rw [En _ _ _ AA,Nt,<-Nat.add_mul]
        rw [show i+1+r.length=i+((i,x)::r).length by simp;omega];exact hle
       have YP:i*e.size+(es++cl).length<=cells.length:=by
        rw [En _ _ _ AA] at Qf
        rw [List.length_append,gz]
        rw [Nat.add_mul,Nat.one_mul] at Qf
        omega
       have e1:(i+1)*e.size=i*e.size+es.length:=by rw [Nat.add_mul,Nat.one_mul,gz]
       apply List.ext_getElem?
       intro k
       rw [Ed _ _ _ _ Qf,Ed _ _ _ _ YP,Ed _ _ _ _ AA,e1,List.length_append]
       by_cases k1:k<i*e.size
       ·rw [if_pos (by omega),if_pos k1,if_pos k1]
       ·rw [if_neg k1,if_neg k1]
        by_cases k2:k<i*e.size+es.length
        ·rw [if_pos k2,if_pos k2,if_pos (by omega),List.getElem?_append_left (by omega)]
        ·rw [if_neg k2,if_neg k2]
         by_cases k3:k<i*e.size+es.length+cl.length
         ·rw [if_pos k3,if_pos (by omega),List.getElem?_append_right (by omega)]
          congr 1;omega
         ·rw [if_neg k3,if_neg (by omega)]
      ·simp only [Bool.and_eq_true] at ht
       obtain ⟨⟨ht1,RO⟩,ht3⟩:=ht
       obtain ⟨F,us,t1,t2,t3,t7⟩:=h5 ht1 e QG y RO hv
       obtain ⟨Fs,t4,t5,t6⟩:=g6 ht3
       have IB:us=es:=by
        have c1:=Be.cells (S:= λ_=>False) F e us y t1 (λ_ _ h=>h)
        have a1:=Gg e us y c1
        have a2:=Gg e es y bp
        rw [<-t2,xP,a2] at a1
        simpa using a1.symm
       subst IB
       refine ⟨F::Fs,?_,?_,λb hb=>?_⟩
       ·have k1:Lz w e us [y] [F]:=⟨rfl,λq z G hz hG=>by
         rcases q with _|q
         ·simp at hz hG;subst hz;subst hG
          exact ⟨us,gz,λj u hu=>by simpa using hu,t1⟩
         ·simp at hz⟩
        exact Lz.append (by simp [gz]) k1 t4
       ·rw [List.flatten_cons]
        refine ⟨List.nodup_append.2 ⟨t3.1,t5.1,λb hb b' o4 e=>?_⟩,λb hb=>?_⟩
        ·subst e
         obtain ⟨l,r,q1,q2⟩:=t6 b o4
         exact (t3.2 b hb).2.2 l r q1 q2
        ·rcases List.mem_append.1 hb with hb|hb
         ·have:=t3.2 b hb
          refine ⟨this.1,this.2.1,λl r q1 q2=>?_⟩
          cases hh:Ae st2.heap l with
          |none=>rw [(g1.1.heap l).emp hh] at q1;cases q1
          |some b'=>exact this.2.2 l r ((g4 l b' hh).1▸q1) q2
         ·exact t5.2 b hb
       ·rw [List.flatten_cons] at hb
        rcases List.mem_append.1 hb with hb|hb
        ·exact t7 b hb
        ·obtain ⟨l,r,q1,q2⟩:=t6 b hb
         cases hh:Ae st1.heap l with
         |none=>rw [(h1.1.heap l).emp hh] at q1;cases q1
         |some b'=>exact ⟨l,r,(h4 l b' hh).1▸q1,q2⟩
     ·cases he
    ·cases he
   ·cases he
  ·cases he
theorem bN (hT:Bz P T) {st:St} {a:Act} (h:Ai X π st a w) (dst:Nat) (t:TypeId) (len:Nat) (parts:Array (Nat×Operand)) (av:AV) (st':St)
  (he:Hi T st dst t len parts=some (av,st')):
  ∃v' w' π',(Instr.buildSlice t len (parts.map λ(i,x)=>(i,a.eval x))).run P w= .ok v' w'/\Ai X π' st' a w'/\Am X w' π' st'.heap av v':=by
 unfold Hi at he
 split at he
 ·cases he
 ·rename_i te ed
  split at he
  ·cases he
  ·rename_i e Qk
   split at he
   ·rename_i Fa
    obtain ⟨dr,hlen⟩:=Fa
    split at he
    ·rename_i fr tr ys st1 hb
     simp only [Option.some.injEq,Prod.mk.injEq] at he
     obtain ⟨rfl,rfl⟩:=he
     obtain ⟨i,hi,Of,kT,mr⟩:=(hT.ty te e Qk).info
     have hu:=hT.elem t te ed
     have CA:parts.toList.length=len:=by simpa using dr
     have hz: ∃z:Array Value,(len*e.size=0/\z= #[])\/(¬len*e.size=0/\(zeroValue te).run P w= .ok (Ap e (An e)) w/\z=(Ap e (An e)).cells):=by
      by_cases h0:len*e.size=0
      ·exact ⟨#[], .inl ⟨h0,rfl⟩⟩
      ·exact ⟨_, .inr ⟨h0,by simp [zeroValue,typeInfo,hi,mr],rfl⟩⟩
     obtain ⟨z,hz⟩:=hz
     obtain ⟨Vj,cl,g1,g2,g3,g4,g5,g6⟩:=Px e parts.toList 0 st π fr tr ys st1 ((Array.range (len*e.size)).map (z[· %z.size]!)).toList h hb (by simp [CA])
     have Nt:cl.length=len*e.size:=by rw [g2.1,g3,CA]
     have GA:(Bf ((Array.range (len*e.size)).map (z[· %z.size]!)).toList (0*e.size) cl)=cl:=by
      simp [Bf,Nt]
     rw [GA] at g5
     have Og:(Instr.buildSlice t len (parts.map λ(i,x)=>(i,a.eval x))).run P w= .ok (.slice (some ⟨w.heap.size,0,none⟩) len len) (w.alloc (.cells cl.toArray te)):=by
      have h24: ¬(len*e.size>2^24):=by
       have:len*e.size<=64*64:=Nat.mul_le_mul hlen.1 hlen.2.1
       omega
      simp only [Instr.buildSlice,Sem.run_bind,run_underlying hu,Result.andThen_ok,(hT.ty te e Qk).size,if_neg h24]
      have e1:(parts.map λ(i,x)=>(i,a.eval x)).toList=parts.toList.map λp=>(p.1,a.eval p.2):=by simp
      simp only [e1]
      have e2:(((Array.range (len*e.size)).map (z[· %z.size]!)).toList.toArray)=(Array.range (len*e.size)).map (z[· %z.size]!):=Array.toArray_toList
      rw [e2] at g5
      rcases hz with ⟨h0,rfl⟩|⟨h0,hz,rfl⟩
      ·rw [if_pos h0]
       simp only [Sem.run_bind,Sem.run_pure,Result.andThen_ok,g5,newRow]
       simp
      ·rw [if_neg h0]
       simp only [Sem.run_bind,Sem.run_pure,Result.andThen_ok,hz,g5,newRow]
       simp
     have hN: ∃N:List Nat,(∀b∈N,(X.w0.heap.size<=b\/X.gv b)/\b<w.heap.size/\ ∀m r0,m≠dst->Vj m=some r0-> ¬r0.cl b)/\(tr=true->N.Nodup/\ ∃Fs,List.flatten Fs=N/\Lz w e cl ys Fs):=by
      cases tr with
      |false=>exact ⟨[],by simp,λh=>by cases h⟩
      |true=>
       obtain ⟨Fs,t1,t2,_⟩:=g6 rfl
       exact ⟨_,λb hb=>⟨(t2.2 b hb).1,(t2.2 b hb).2.1,λm r0 _=>(t2.2 b hb).2.2 m r0⟩,λ_=>⟨t2.1,Fs,rfl,t1⟩⟩
     obtain ⟨N,q1,q2⟩:=hN
     have:=a8 (w1:=w.alloc (.cells cl.toArray te)) g1 dst hlen.2.2 ((T.me||e.flat)&&fr) (T.tw&&tr) e te ys cl cl.toArray len N (.inr rfl) (by simpa using Nt) (by simp only [maxLen];omega) (by omega) (λk u hu=>by simpa using hu) (g2.cells λes z hc=>hc.and_right) q1 (λht=>q2 (by simp only [Bool.and_eq_true] at ht;exact ht.2))
     exact ⟨_,_,_,Og,this.1,this.2 _ (by omega)⟩
    ·cases he
   ·cases he
theorem fg {t te:TypeId} {e:Ty} (h:Xy T t=some (te,e)):T.elem t=some te/\T.ty te=some (.slice e):=by
 unfold Xy at h
 cases he:T.elem t with
 |none=>rw [he] at h;cases h
 |some Kz=>
  rw [he] at h
  simp only [Option.bind_some] at h
  cases hg:T.zS Kz with
  |none=>rw [hg] at h;cases h
  |some e'=>
   rw [hg] at h
   simp only [Option.map_some,Option.some.injEq,Prod.mk.injEq] at h
   obtain ⟨rfl,rfl⟩:=h
   refine ⟨rfl,?_⟩
   unfold Tab.zS at hg
   split at hg
   ·split at hg
    ·rename_i Qk;simp only [Option.some.injEq] at hg;subst hg;exact Qk
    ·cases hg
   ·cases hg
theorem fV (w:World) (o:Obj):Gb w.heap.size (λ_=>False) w (w.alloc o):=⟨rfl,rfl,rfl,by simp,λk hk _=>Below.heap_alloc w _ k hk⟩
theorem jR (w:World) (o:Obj):Gb w.heap.size (λ_=>False) w (w.drew.alloc o):=⟨rfl,rfl,rfl,by simp,λk hk _=>Below.heap_alloc w.drew _ k hk⟩
theorem kR (hT:Bz P T) {st:St} {a:Act} (h:Ai X π st a w) (dst:Nat) (t:TypeId) (l c:AV) (vl vc:Value) (hl:Am X w π st.heap l vl) (hc:Am X w π st.heap c vc) (av:AV) (st':St)
  (he:Qd T st dst t l c=some (av,st')): ∃v' w' π',(Instr.makeSlice t vl vc).run P w= .ok v' w'/\Ai X π' st' a w'/\Am X w' π' st'.heap av v':=by
 unfold Qd at he
 split at he
 ·exact m8 hT h dst t l c vl vc hl hc av st' he
 ·rename_i te e hg
  obtain ⟨ed,Qk⟩:=fg hg
  split at he
  ·rename_i QG k1 n ll k2 m
   have:=Jz hl;subst this
   have:=Jz hc;subst this
   split at he
   ·rename_i Fa
    obtain ⟨h0,hnm,FV⟩:=Fa
    obtain ⟨h1,h2⟩:=My.1 h0
    subst hnm
    simp only [Option.some.injEq,Prod.mk.injEq] at he
    obtain ⟨rfl,rfl⟩:=he
    obtain ⟨i,hi,Of,kT,mr⟩:=(hT.ty te _ Qk).info
    have hu:=hT.elem t te ed
    have hn:n.toNat<=4294967296:=by unfold Bm at h2;omega
    have hr:=run_make (P:=P) (w:=w) t te i _ hu hi mr k1 k2 n n h1 (Int.le_refl _) (by
     have:(i.bytes:Int)*n<=256*4294967296:=by
      obtain ⟨nn,rfl⟩:=Int.eq_ofNat_of_zero_le h1
      have h7:i.bytes*nn<=256*4294967296:=Nat.mul_le_mul kT (by simpa using hn)
      have h8:((i.bytes*nn:Nat):Int)<=256*4294967296:=by omega
      rwa [Int.natCast_mul] at h8
     omega) (by unfold Bm at h2;omega)
    have IC:(Ap (Ty.slice e) (An (Ty.slice e))).cells= #[.slice none 0 0]:=by simp [Ap,Ty.Ab,An,Value.cells]
    have lv:(Ty.slice e).size=1:=rfl
    rw [IC,Of,lv] at hr
    have cell: ∀j,j<n.toNat->(madeCells #[Value.slice none 0 0] (n.toNat*1))[0+j]?=some (.slice none 0 0):=by
     intro j hj
     have:=AQ (z:= #[Value.slice none 0 0]) (s:=1) (m:=n.toNat) (j:=j) (q:=0) rfl hj (by omega)
     simp only [Nat.mul_one,Nat.add_zero] at this
     simp only [Nat.mul_one,Nat.zero_add]
     rw [this];rfl
    obtain ⟨π',g1,g2⟩:=Ru (w1:=w.alloc (.cells (madeCells #[Value.slice none 0 0] (n.toNat*1)) te)) (gv:= λ_=>False) h FV FV te (e:=e) (rows:=List.replicate n.toNat []) (us:=List.replicate n.toNat (.slice none 0 0)) (Rs:=List.replicate n.toNat none) (g:=w.heap.size) (o:=0) (cap:=n.toNat)
     (λ_ hf=>hf.elim) (fV w _) ⟨.inl (Nat.le_refl _),by simp⟩ (heap_alloc_new w _) (by rw [size_madeCells];omega) (by unfold maxLen;omega) (by simp) (λj u hu=>by
      have hj:=(List.getElem?_eq_some_iff.1 hu).1
      simp only [List.length_replicate] at hj
      rw [cell j hj,List.eq_of_mem_replicate (List.mem_of_getElem? hu)])
     ⟨by simp,by simp,λi j q q' h1=>(by have:=List.eq_of_mem_replicate (List.mem_of_getElem? h1);cases this),λi x hx=>by
      have hj:=(List.getElem?_eq_some_iff.1 hx).1
      simp only [List.length_replicate] at hj
      rw [List.eq_of_mem_replicate (List.mem_of_getElem? hx)]
      exact ⟨.slice none 0 0,none,by rw [List.getElem?_replicate,if_pos hj],by rw [List.getElem?_replicate,if_pos hj],⟨rfl,rfl,rfl⟩,rfl⟩⟩
     (λi q h1=>by have:=List.eq_of_mem_replicate (List.mem_of_getElem? h1);cases this)
    exact ⟨_,_,π',hr,g1,g2 _ (by simp)⟩
   ·cases he
  ·cases he
theorem bk (hT:Bz P T) {st:St} {a:Act} (h:Ai X π st a w) (dst:Nat) (t:TypeId) (len:Nat) (parts:Array (Nat×Operand)) (av:AV) (st':St)
  (he:Eo T st dst t len parts=some (av,st')):
  ∃v' w' π',(Instr.buildSlice t len (parts.map λ(i,x)=>(i,a.eval x))).run P w= .ok v' w'/\Ai X π' st' a w'/\Am X w' π' st'.heap av v':=by
 unfold Eo at he
 split at he
 ·exact bN hT h dst t len parts av st' he
 ·rename_i te e hg
  obtain ⟨ed,Qk⟩:=fg hg
  split at he
  rotate_left
  ·cases he
  rename_i x TR
  split at he
  rotate_left
  ·cases he
  rename_i m off ln hx
  split at he
  rotate_left
  ·cases he
  rename_i fr tr e' tid xs hm
  split at he
  rotate_left
  ·cases he
  rename_i hc
  obtain ⟨rfl,hc,rfl,rfl⟩:=hc
  simp only [Bool.and_eq_true,Nat.blt_eq] at hc
  obtain ⟨hlen,FV,MB⟩:=hc
  have hlen:len=1:=Nat.eq_of_beq_eq_true hlen
  subst hlen
  simp only [Option.some.injEq,Prod.mk.injEq] at he
  obtain ⟨rfl,rfl⟩:=he
  have hu:=hT.elem t te ed
  unfold St.at at hm
  have ZR:=Bl h.2 x
  rw [hx] at ZR
  obtain ⟨_,o5⟩:=Ja (X:=X) (w:=w) ZR hm
  obtain ⟨ax,nx,cx,NW⟩:=Tk o5
  have hp:parts= #[(0,x)]:=by apply Array.ext';simpa using TR
  subst hp
  obtain ⟨i,hi,Of,kT,mr⟩:=(hT.ty te _ Qk).info
  have Og:(Instr.buildSlice t 1 (#[(0,x)].map λ(i,x)=>(i,a.eval x))).run P w= .ok (.slice (some ⟨w.heap.size,0,none⟩) 1 1) (w.alloc (.cells #[a.eval x] te)):=by
   have lv:(Ty.slice e').size=1:=rfl
   have hz:(zeroValue te).run P w= .ok (.slice none 0 0) w:=by simp [zeroValue,typeInfo,hi,mr,Ap,Ty.Ab,An]
   have MB:(#[(0,x)].map λ(i,x)=>(i,a.eval x))= #[(0, .slice ax nx cx)]:=by simp [NW]
   rw [MB,NW]
   simp only [Instr.buildSlice,Sem.run_bind,run_underlying hu,Result.andThen_ok,(hT.ty te _ Qk).size,lv]
   simp [Value.cells,Instr.fill,newRow,hz]
   congr 2
   apply Array.ext
   ·simp
   ·intro i h1 h2
    have h0:i=0:=by simpa using h2
    subst h0
    simp
  have xe:=(h.1.heap m).Ma hm
  simp only [At,Fe] at xe
  have hfa:Md w (Bc X.w0.heap.size X.Sc π false) (π m) e' xs:=by
   cases hR:π m with
   |none=>rw [hR] at xe;exact xe
   |some q=>
    rw [hR] at xe
    obtain ⟨⟨f0,f0',_⟩,cu,ME,f2,f3,f4,f5,f6,_⟩:=xe
    exact ⟨⟨f0,f0'⟩,cu,ME,f2,f3,f4,f5,λp y hy=>by
     obtain ⟨es,g1,g2,g3⟩:=f6 p y hy
     exact ⟨es,g1,g2,Cells.Cs (Nat.le_refl _) (λ_ _ _=>rfl) (λb _ hA=>hA.imp id (Or.imp id λ⟨h1,_⟩=>by cases h1)) e' es y g3⟩⟩
  obtain ⟨π',g1,g2⟩:=Ru (w1:=w.alloc (.cells #[a.eval x] te)) (gv:= λ_=>False) h FV MB te (e:=e') (rows:= [xs]) (us:= [a.eval x]) (Rs:= [π m]) (g:=w.heap.size) (o:=0) (cap:=1)
   (λ_ hf=>hf.elim) (fV w _) ⟨.inl (Nat.le_refl _),by simp⟩ (heap_alloc_new w _) rfl (by unfold maxLen;omega) (by simp) (λj u hu=>by
    rcases j with _|j
    ·simpa using hu
    ·simp at hu)
   ⟨rfl,rfl,λi j q q' h1 h2 _=>by
    rcases i with _|i
    ·rcases j with _|j
     ·rfl
     ·simp at h2
    ·simp at h1,λi y hy=>by
    rcases i with _|i
    ·simp only [List.getElem?_cons_zero,Option.some.injEq] at hy
     subst hy
     exact ⟨_,_,rfl,rfl,o5,hfa⟩
    ·simp at hy⟩
   (λi q h1=>by
    rcases i with _|i
    ·simp only [List.getElem?_cons_zero,Option.some.injEq] at h1
     have hf:=h.1.Ax h1
     have:=(h.1.place m q _ h1 (h.1.sub m q _ h1 hf)).2
     exact ⟨by omega,λh=>h,m,q, .inr rfl,h1,hf⟩
    ·simp at h1)
  exact ⟨_,_,π',Og,g1,g2 1 rfl⟩
theorem gi (hT:Bz P T) {st:St} {a:Act} (h:Ai X π st a w) (dst:Nat) (t ty:TypeId) (x y:Operand) (av:AV) (st':St) (he:Ld T st dst t x y=some (av,st')):
  ∃v' w' π',(Builtin.append_ #[t,t] ty #[a.eval x,a.eval y]).run P w= .ok v' w'/\Ai X π' st' a w'/\Am X w' π' st'.heap av v':=by
 unfold Ld at he
 split at he
 ·exact gh hT h dst t ty x y av st' he
 ·rename_i te e hg
  obtain ⟨ed,Qk⟩:=fg hg
  split at he
  rotate_left
  ·cases he
  rename_i l off len m JD mI hx hy
  split at he
  rotate_left
  ·cases he
  rename_i e1 te1 A kp1 e2 pe B kp2 hl hm
  split at he
  rotate_left
  ·cases he
  rename_i hc
  obtain ⟨⟨rfl,rfl⟩,hc,⟨rfl,rfl⟩,⟨rfl,rfl⟩,hB,iX⟩:=hc
  simp only [Bool.and_eq_true,Nat.blt_eq,decide_eq_true_eq,Bool.not_eq_true'] at hc
  obtain ⟨⟨rfl,rfl⟩,ov,MB,dI⟩:=hc
  have dI:m≠l:= λe=>by rw [e,Nat.beq_refl] at dI;cases dI
  simp only [Option.some.injEq,Prod.mk.injEq] at he
  obtain ⟨rfl,rfl⟩:=he
  have hu:=hT.elem t pe ed
  obtain ⟨i,hi,Of,kT,mr⟩:=(hT.ty pe _ Qk).info
  have Of:i.size=1:=Of
  unfold St.at at hl hm
  have ZR:=Bl h.2 x
  have hry:=Bl h.2 y
  rw [hx] at ZR;rw [hy] at hry
  obtain ⟨b1,s1,n1,q1,q2,_,WY⟩:=ZR
  rw [hl] at q1;cases q1
  simp only [OB.row,Option.some.injEq,Prod.mk.injEq] at q2
  obtain ⟨rfl,rfl⟩:=q2
  obtain ⟨b2,s2,n2,q1,q2,_,hoy⟩:=hry
  rw [hm] at q1;cases q1
  simp only [OB.row,Option.some.injEq,Prod.mk.injEq] at q2
  obtain ⟨rfl,rfl⟩:=q2
  have hA:=((h.1.heap l).Ma hl).1
  have WH:=((h.1.heap m).Ma hm).1
  cases CD:π m with
  |none=>
   rw [CD] at WH
   have WH:B= []:=WH
   subst WH;simp at hB
  |some rB=>
  rw [CD] at WH hoy
  obtain ⟨fB,Aie,tiB,uB,RB,w1B,w2B,w3B,w4B,w5B,w6B,XI,LB⟩:=pL WH
  obtain ⟨adB,hvy,hcB,haB⟩:=hoy
  have haB:=haB (by omega)
  subst haB
  have hlB:=LB.1
  have UM:uB.length=B.length*i.size:=by rw [Of,Nat.mul_one];exact hlB
  have UN: ∀j u,uB[j]?=some u->w.cell? ((⟨rB.g,(rB.o+0)*1,none⟩:Addr).add j)=some u:= λj u hu=>by
   rw [Addr.add_lit,cellOf w1B,Nat.mul_one,Nat.add_zero];exact w5B j u hu
  have mn:(A.length+B.length)*i.bytes<=140737488355328:=by
   have:(A.length+B.length)*i.bytes<=4294967296*256:=Nat.mul_le_mul iX kT
   omega
  have c7:A.length+B.length<=maxLen:=by unfold Bm at iX;simp only [maxLen];omega
  have hzs:(Ap (Ty.slice e2) (An (Ty.slice e2))).cells.size=1:=by simp [Ap,Ty.Ab,An,Value.cells]
  have Ot: ∀(k:Nat) (q:Real) (Rs:List (Option Real)),π k=some q->(∀(i:Nat) (p:Real),Rs[i]?=some (some p)->q.Ax p.g/\p.g≠q.g)-> ∀(i:Nat) (p:Real),Rs[i]?=some (some p)->p.g<w.heap.size:= λk q Rs h1 h2 i p h3=>
   (h.1.place k q _ h1 (h.1.sub k q _ h1 (h2 i p h3).1)).2
  cases dr:π l with
  |none=>
   rw [dr] at hA WY
   have hA:A= []:=hA
   subst hA
   obtain ⟨NW,_,_⟩:=WY
   rw [NW,hvy]
   simp only [List.length_nil,Nat.zero_add,List.nil_append] at iX mn c7⊢
   have hr:=run_append_nil (P:=P) w t ty pe i _ hu hi mr ⟨rB.g,(rB.o+0)*1,none⟩ B.length (rB.cap-0) uB UM UN hB (by simp only [maxLen] at c7;omega) (by omega)
   have oh:=grownCap_ge w B.length 0 pe
   have NF:=grownCap_le_maxLen w B.length 0 pe (by omega)
   obtain ⟨π',g1,g2⟩:=Ru (w1:=w.drew.alloc (.cells (uB.toArray++Builtin.zeroCells (Ap (Ty.slice e2) (An (Ty.slice e2))).cells (grownCap w B.length 0 pe-B.length)) pe)) (gv:= λ_=>False) h ov MB pe (e:=e2) (rows:=B) (us:=uB) (Rs:=RB) (g:=w.heap.size) (o:=0) (cap:=grownCap w B.length 0 pe)
    (λ_ hf=>hf.elim) (jR w _) ⟨.inl (Nat.le_refl _),by simp⟩ (heap_alloc_new w.drew _) (by rw [Array.size_append,List.size_toArray,Na,hzs];omega) NF oh (λj u hu=>by
     have hj:=(List.getElem?_eq_some_iff.1 hu).1
     rw [Nat.zero_add,Array.getElem?_append_left (by simpa using hj)];simpa using hu)
    LB (λi q h1=>⟨by have:=Ot m rB RB CD XI i q h1;omega,λh=>h,m,rB, .inr rfl,CD,(XI i q h1).1⟩)
   exact ⟨_,_,π',hr,g1,g2 _ rfl⟩
  |some rA=>
   rw [dr] at hA WY
   obtain ⟨fA,BO,tiA,uA,RA,w1A,w2A,w3A,w4A,w5A,w6A,w7A,LA⟩:=pL hA
   obtain ⟨adA,NW,hcA,haA⟩:=WY
   have hlA:=LA.1
   rw [NW,hvy]
   have apart: ∀(i j:Nat) (q q':Real),RA[i]?=some (some q)->RB[j]?=some (some q')->q.g≠q'.g:= λi j q q' h1 h2 e=>by
    have:=h.1.apart dr CD (w7A i q h1).1 (e▸(XI j q' h2).1)
    exact dI this.symm
   have LAB:=lG.append LA LB apart
   have Ek: ∀(i:Nat) (q:Real),RB[i]?=some (some q)->q.g≠rA.g:= λi q h1 e=>dI (h.1.apart CD dr (XI i q h1).1 (e▸fA))
   have QQ: ∀(i:Nat) (q:Real),(RA++RB)[i]?=some (some q)->q.g≠rA.g/\q.g<w.heap.size/\ ∃k p,(k=l\/k=m)/\π k=some p/\p.Ax q.g:= λi q h1=>by
    by_cases hi:i<RA.length
    ·rw [List.getElem?_append_left hi] at h1
     exact ⟨(w7A i q h1).2,Ot l rA RA dr w7A i q h1,l,rA, .inl rfl,dr,(w7A i q h1).1⟩
    ·rw [List.getElem?_append_right (by omega)] at h1
     exact ⟨Ek _ q h1,Ot m rB RB CD XI _ q h1,m,rB, .inr rfl,CD,(XI _ q h1).1⟩
   by_cases uZ:A.length+B.length<=rA.cap-0
   ·have haA:=haA (by omega)
    subst haA
    have Qf:(rA.o+0)*1+A.length*i.size+uB.length<=BO.size:=by rw [Of];omega
    have Rx:(rA.o+0)*1+A.length*i.size+uB.length<=BO.toList.length:=by simpa using Qf
    have hr:=Sw (P:=P) (w:=w) (ty:=ty) hu hi rA.g ((rA.o+0)*1) A.length (rA.cap-0) BO tiA w1A ⟨rB.g,(rB.o+0)*1,none⟩ B.length (rB.cap-0) uB UM UN w6B uZ Qf
    have mq:=Ib w rA.g (Bf BO.toList ((rA.o+0)*1+A.length*i.size) uB).toArray
    obtain ⟨π',g1,g2⟩:=Ru (w1:=w.setRow rA.g (Bf BO.toList ((rA.o+0)*1+A.length*i.size) uB).toArray) (gv:= λb=>b=rA.g) h ov MB pe (e:=e2) (rows:=A++B) (us:=uA++uB) (Rs:=RA++RB) (g:=rA.g) (o:=rA.o) (cap:=rA.cap)
     (λb hb=>⟨l,rA, .inl rfl,dr,hb▸fA⟩) ⟨mq.os,mq.tape,mq.output,mq.size,λc _ hc=>setRow_other w rA.g c _ hc⟩ ⟨.inr ⟨l,rA, .inl rfl,dr,fA⟩,Nat.lt_of_lt_of_le (Db w1A) mq.size⟩
     (setRow_heap w rA.g BO _ tiA _ w1A) (by rw [List.size_toArray,En _ _ _ Rx,Array.length_toList];exact w2A) w3A (by simp;omega) (λj u hu=>by
      rw [List.getElem?_toArray,Ed _ _ _ _ Rx,Of]
      by_cases hj:j<uA.length
      ·rw [List.getElem?_append_left hj] at hu
       rw [if_pos (by omega),Array.getElem?_toList]
       exact w5A j u hu
      ·rw [List.getElem?_append_right (by omega)] at hu
       have:=(List.getElem?_eq_some_iff.1 hu).1
       rw [if_neg (by omega),if_pos (by omega)]
       rw [show rA.o+j-((rA.o+0)*1+A.length*1)=j-uA.length by omega]
       exact hu)
     LAB (λi q h1=>⟨(QQ i q h1).1,(QQ i q h1).1,(QQ i q h1).2.2⟩)
    have:=g2 (A.length+B.length) (by simp)
    have e0:(rA.o+0)*1=rA.o:=by omega
    simp only [e0,Nat.sub_zero] at hr g1 this⊢
    exact ⟨_,_,π',hr,g1,this⟩
   ·have hold: ∀j u,uA[j]?=some u->w.cell? (adA.add j)=some u:=by
     intro j u hu
     have hj:=(List.getElem?_eq_some_iff.1 hu).1
     rw [haA (by omega),Addr.add_lit,cellOf w1A,Nat.mul_one,Nat.add_zero];exact w5A j u hu
    have hr:=run_append_grow (P:=P) w t ty pe i _ hu hi mr adA A.length (rA.cap-0) uA (by rw [Of,Nat.mul_one];exact hlA) hold ⟨rB.g,(rB.o+0)*1,none⟩ B.length (rB.cap-0) uB UM UN (by omega) (by simp only [maxLen] at c7;omega) (growslice_fits (by omega) mn)
    have oh:=grownCap_ge w (A.length+B.length) (rA.cap-0) pe
    have NF:=grownCap_le_maxLen w (A.length+B.length) (rA.cap-0) pe c7
    obtain ⟨π',g1,g2⟩:=Ru (w1:=w.drew.alloc (.cells (uA.toArray++uB.toArray++Builtin.zeroCells (Ap (Ty.slice e2) (An (Ty.slice e2))).cells (grownCap w (A.length+B.length) (rA.cap-0) pe-(A.length+B.length))) pe)) (gv:= λ_=>False) h ov MB pe (e:=e2) (rows:=A++B) (us:=uA++uB) (Rs:=RA++RB) (g:=w.heap.size) (o:=0) (cap:=grownCap w (A.length+B.length) (rA.cap-0) pe)
     (λ_ hf=>hf.elim) (jR w _) ⟨.inl (Nat.le_refl _),by simp⟩ (heap_alloc_new w.drew _) (by rw [Array.size_append,Array.size_append,List.size_toArray,List.size_toArray,Na,hzs];omega) NF (by simpa using oh) (λj u hu=>by
      have hj:=(List.getElem?_eq_some_iff.1 hu).1
      rw [Nat.zero_add,Array.getElem?_append_left (by simpa using hj)];simpa using hu)
     LAB (λi q h1=>⟨by have:=(QQ i q h1).2.1;omega,λh=>h,(QQ i q h1).2.2⟩)
    exact ⟨_,_,π',hr,g1,g2 _ (by simp)⟩
theorem eL: ∀τ:Ty,Cw X w π H (zeroCells τ) (An τ):=by
 have one: ∀(c:AC) (v:Value),v.oneCell'=true->Dx X w π H c v->Cw X w π H [c] [v]:= λc v h1 h2=>⟨rfl,λi c' hc=>by
  rcases i with _|i
  ·simp at hc;subst hc;exact ⟨v,rfl,h1,h2⟩
  ·simp at hc⟩
 intro τ
 induction τ with
 |unit=>exact ⟨rfl,λi c hc=>by simp [zeroCells] at hc⟩
 |pair a r fQ dt=>
  refine ⟨by simp [zeroCells,An,fQ.1,dt.1],λi c hc=>?_⟩
  simp only [zeroCells] at hc
  simp only [An]
  by_cases hi:i<(zeroCells a).length
  ·rw [List.getElem?_append_left hi] at hc
   obtain ⟨u,hu,h⟩:=fQ.2 i c hc
   exact ⟨u,by rw [List.getElem?_append_left (by rw [fQ.1];exact hi)];exact hu,h⟩
  ·rw [List.getElem?_append_right (by omega)] at hc
   obtain ⟨u,hu,h⟩:=dt.2 _ c hc
   exact ⟨u,by rw [List.getElem?_append_right (by rw [fQ.1];omega),fQ.1];exact hu,h⟩
 |int k=>exact one (.data true _ _) _ rfl (Is (H:=H) k 0 true)
 |bool=>exact one (.data true _ _) _ rfl (Hr (H:=H) false true)
 |str=>exact one (.data true _ _) _ rfl (jg (H:=H) ByteArray.empty true)
 |slice e=>exact one _ _ rfl rfl
 |oslice e=>exact one _ _ rfl rfl
 |ptr e=>exact one _ _ rfl rfl
 |optr e=>exact one _ _ rfl rfl
 |smap v=>exact one (.data true _ _) _ rfl ⟨[.map none], .inl ⟨rfl,rfl⟩,by simp [Ap,Ty.Ab]⟩
 |clo f c=>exact one .undef .nilFunc rfl trivial
theorem Xl (hT:Bz P T) {st:St} {a:Act} (h:Ai X π st a w) (t:TypeId) (Gx:Array (Nat×Nat))
  (dr: ∀f o u ρ,T.off t f=some (o,u)->T.ty u=some ρ->Gx[f]?=some (o,ρ.size)): ∀(parts:List (Nat×Operand)) (cs bL:List AC) (us:List Value),Cw X w π st.heap cs us->
  Hf T st t parts cs=some bL-> ∃Sj:List Value,Instr.fill (λi=>Gx[i]?) us.toArray (parts.map λp=>(p.1,a.eval p.2))=some Sj.toArray/\Cw X w π st.heap bL Sj
 | [],cs,bL,us,hr,he=>by
  simp only [Hf,Option.some.injEq] at he;subst he
  exact ⟨us,rfl,hr⟩
 |(f,x)::r,cs,bL,us,hr,he=>by
  simp only [Hf] at he
  split at he
  ·rename_i o u ho
   split at he
   ·rename_i ρ hρ
    split at he
    ·rename_i c hc
     split at he
     ·rename_i hle
      obtain ⟨vs,hv,hl,RM⟩:=bC (Bl h.2 x) hc
      have e1:=hr.1
      have e2:=RM.1
      obtain ⟨Sj,g1,g2⟩:=Xl hT h t Gx dr r _ bL _ (nK hr RM o hle) he
      refine ⟨Sj,?_,g2⟩
      simp only [List.map_cons]
      rw [pJ _ us f (a.eval x) _ o ρ.size vs (dr f o u ρ ho hρ) hv hl (by omega)]
      exact g1
     ·cases he
    ·cases he
   ·cases he
  ·cases he
theorem aL (hT:Bz P T) {st:St} {a:Act} (h:Ai X π st a w) (t:TypeId) (parts:Array (Nat×Operand)) (av:AV) (he:Qa T st t parts=some av):
  ∃v',(Instr.build t (parts.map λ(i,x)=>(i,a.eval x))).run P w= .ok v' w/\Am X w π st.heap av v':=by
 unfold Qa at he
 split at he
 ·cases he
 ·rename_i τ Qk
  split at he
  ·rename_i hs
   cases hb:Hf T st t parts.toList (zeroCells τ) with
   |none=>rw [hb] at he;cases he
   |some bL=>
    rw [hb] at he
    simp only [Option.map_some,Option.some.injEq] at he;subst he
    obtain ⟨fs,Gx,h1,h2,h3⟩:=hT.fill t τ Qk hs
    obtain ⟨i,hi,Of,kT,mr⟩:=(hT.ty t τ Qk).info
    obtain ⟨Sj,g1,g2⟩:=Xl hT h t Gx h3 parts.toList (zeroCells τ) bL (An τ) (eL τ) hb
    refine ⟨.agg Sj.toArray,?_,Sj,rfl,g2⟩
    have hz:(zeroValue t).run P w= .ok (Ap τ (An τ)) w:=by simp [zeroValue,typeInfo,hi,mr]
    have IC:(Ap τ (An τ)).cells=(An τ).toArray:=by simp [Ap,hs,Value.cells]
    have QL:=h2 w
    unfold placesOf at QL
    have e1:(parts.map λ(i,x)=>(i,a.eval x)).toList=parts.toList.map λp=>(p.1,a.eval p.2):=by simp
    simp only [Instr.build,Sem.run_bind,hz,Result.andThen_ok,run_underlying h1,QL,IC,e1,g1,Sem.run_pure]
  ·cases he
theorem nu {st:St} {v:AV} (h:v.settled=true):settle st v=some (v,st):=by
 cases v with
 | «at»a=>cases a<;>simp [AV.settled,AC.settled] at h<;>simp [settle,AC.settled]
 |agg cs=>
  have hs:cs.all (·.settled)=true:=h
  have:Dq cs.length st cs=some (cs,st):=by
   cases hn:cs.length with
   |zero=>simp [Dq,hs]
   |succ n=>
    have hf:cs.find? (λc=>!c.settled)=none:=List.find?_eq_none.2 λc hc=>by simpa using List.all_eq_true.1 hs c hc
    simp [Dq,hf]
  simp [settle,this]
 |Uc fr τ x=>rfl
 |It l=>simp [AV.settled] at h
theorem gU {e:Ty} {st:St} : ∀(parts:List (Nat×Operand)) (i:Nat) (fr:Bool) (ys:List e.den),aa e i parts st=some (fr,ys)-> ∃tr,Gm e i parts st=some (fr,tr,ys,st)
 | [],i,fr,ys,h=>by
  simp only [aa,Option.some.injEq,Prod.mk.injEq] at h
  obtain ⟨rfl,rfl⟩:=h
  exact ⟨true,rfl⟩
 |(j,x)::r,i,fr,ys,h=>by
  simp only [aa] at h
  split at h
  ·rename_i hc
   split at h
   ·rename_i f1 y f2 zs h1 h2
    simp only [Option.some.injEq,Prod.mk.injEq] at h
    obtain ⟨rfl,rfl⟩:=h
    obtain ⟨tr,h3⟩:=gU r (i+1) f2 zs h2
    refine ⟨Mp st (st.ev x)&&e.tree&&tr,?_⟩
    simp only [Gm]
    rw [if_pos hc.1,nu hc.2]
    simp only [h1,h3]
   ·cases h
  ·cases h
theorem iK (hT:Bz P T) {st:St} {a:Act} (h:Ai X π st a w) (t:TypeId) (len:Nat) (parts:Array (Nat×Operand)) (av:AV) (he:Uk T st t len parts=some av):
  ∃v' w' π',(Instr.buildSlice t len (parts.map λ(i,x)=>(i,a.eval x))).run P w= .ok v' w'/\Ai X π' st a w'/\Am X w' π' st.heap av v':=by
 unfold Uk at he
 split at he
 ·cases he
 ·rename_i te ed
  split at he
  ·cases he
  ·rename_i e Qk
   split at he
   ·rename_i Fa
    obtain ⟨dr,hlen⟩:=Fa
    cases hp:aa e 0 parts.toList st with
    |none=>rw [hp] at he;cases he
    |some p=>
     obtain ⟨fr,ys⟩:=p
     rw [hp] at he
     simp only [Option.map_some,Option.some.injEq] at he
     subst he
     obtain ⟨tr,hb⟩:=gU _ _ _ _ hp
     obtain ⟨i,hi,Of,kT,mr⟩:=(hT.ty te e Qk).info
     have hu:=hT.elem t te ed
     have CA:parts.toList.length=len:=by simpa using dr
     have hz: ∃z:Array Value,(len*e.size=0/\z= #[])\/(¬len*e.size=0/\(zeroValue te).run P w= .ok (Ap e (An e)) w/\z=(Ap e (An e)).cells):=by
      by_cases h0:len*e.size=0
      ·exact ⟨#[], .inl ⟨h0,rfl⟩⟩
      ·exact ⟨_, .inr ⟨h0,by simp [zeroValue,typeInfo,hi,mr],rfl⟩⟩
     obtain ⟨z,hz⟩:=hz
     obtain ⟨Vj,cl,g1,g2,g3,g4,g5,g6⟩:=Px e parts.toList 0 st π fr tr ys st ((Array.range (len*e.size)).map (z[· %z.size]!)).toList h hb (by simp [CA])
     have Nt:cl.length=len*e.size:=by rw [g2.1,g3,CA]
     have GA:(Bf ((Array.range (len*e.size)).map (z[· %z.size]!)).toList (0*e.size) cl)=cl:=by
      simp [Bf,Nt]
     rw [GA] at g5
     have Og:(Instr.buildSlice t len (parts.map λ(i,x)=>(i,a.eval x))).run P w= .ok (.slice (some ⟨w.heap.size,0,none⟩) len len) (w.alloc (.cells cl.toArray te)):=by
      have h24: ¬(len*e.size>2^24):=by
       have:len*e.size<=64*64:=Nat.mul_le_mul hlen.1 hlen.2
       omega
      simp only [Instr.buildSlice,Sem.run_bind,run_underlying hu,Result.andThen_ok,(hT.ty te e Qk).size,if_neg h24]
      have e1:(parts.map λ(i,x)=>(i,a.eval x)).toList=parts.toList.map λp=>(p.1,a.eval p.2):=by simp
      simp only [e1]
      have e2:(((Array.range (len*e.size)).map (z[· %z.size]!)).toList.toArray)=(Array.range (len*e.size)).map (z[· %z.size]!):=Array.toArray_toList
      rw [e2] at g5
      rcases hz with ⟨h0,rfl⟩|⟨h0,hz,rfl⟩
      ·rw [if_pos h0]
       simp only [Sem.run_bind,Sem.run_pure,Result.andThen_ok,g5,newRow]
       simp
      ·rw [if_neg h0]
       simp only [Sem.run_bind,Sem.run_pure,Result.andThen_ok,hz,g5,newRow]
       simp
     have NC:(w.alloc (.cells cl.toArray te)).heap[w.heap.size]?=some (.cells cl.toArray te (0,0)):=heap_alloc_new w _
     have hB:Below w.heap.size w (w.alloc (.cells cl.toArray te)):=(Below.refl _ _).alloc (Nat.le_refl _) _
     have Hl:=Db NC
     refine ⟨_,_,Vj,Og,g1.quiet hB,⟨[_],?_,rfl⟩⟩
     refine ⟨some ⟨w.heap.size,0,none⟩,len,len,rfl,by rw [g3,CA],Nat.le_refl _, .inr ⟨w.heap.size,0,rfl,Hl,λhA=>?_,λk x hx=>?_⟩⟩
     ·rcases hA with hA|hA|⟨_,hA⟩
      ·exact absurd (g1.1.own hA).1 (Nat.lt_irrefl _)
      ·exact absurd (Nat.lt_of_lt_of_le (g1.1.sc _ hA).1 g1.1.below.size) (Nat.lt_irrefl _)
      ·exact absurd (Nat.lt_of_lt_of_le hA g1.1.below.size) (Nat.lt_irrefl _)
     ·obtain ⟨es,k1,k2,k3⟩:=g2.2 k x hx
      refine ⟨es,k1,λj u hu=>?_,Cells.Cs hB.size (λb hb _=>hB.block b hb) (λ_ _ h=>h) e es x k3⟩
      rw [cellOf NC,Nat.zero_add]
      simpa using k2 j u hu
   ·cases he
theorem uD {Γ:Env} (hT:Bz P T) (Mb:Gz P Γ) {st:St} {a:Act} (h:Ai X π st a w) (o:Oper) (av:AV) (he:Rq T Γ st o=some av):
  br P X st a w av ((execOp a.eval o).run P w):=by
 obtain ⟨dst,op,ty,pos,af,gd⟩:=o
 have val: ∀(s:Sem Value) (v:Value) (w':World) (π':Pi),s.run P w= .ok v w'->Ai X π' st a w'->Am X w' π' st.heap av v->(execOp a.eval ⟨dst,op,ty,pos,af,gd⟩=do pure (.value (<-s)))->
   br P X st a w av ((execOp a.eval ⟨dst,op,ty,pos,af,gd⟩).run P w):=by
  intro s v w' π' h1 h2 h3 h4
  rw [h4,Sem.run_bind,h1]
  exact ⟨π',h2,h3⟩
 have quiet:Ch T Γ st ⟨dst,op,ty,pos,af,gd⟩=some av->br P X st a w av ((execOp a.eval ⟨dst,op,ty,pos,af,gd⟩).run P w):=by
  intro hq
  have:=jT hT Mb h _ av hq
  generalize (execOp a.eval ⟨dst,op,ty,pos,af,gd⟩).run P w=r at*
  cases r with
  |halt x w'=>exact this
  |ok n w'=>
   cases n<;>simp only [zx] at this<;>simp only [br]
   ·obtain ⟨rfl,hr⟩:=this
    exact ⟨π,h,hr⟩
   ·obtain ⟨rfl,hc⟩:=this
    exact ⟨rfl,hc.mono λe nY ⟨v,hv,hb,hr⟩=>⟨v,hv,π,h.quiet hb,hr⟩⟩
 unfold Rq at he
 split at he
 ·rename_i t len parts pS
  dsimp only at pS;subst pS
  obtain ⟨v,w',π',h1,h2,h3⟩:=iK hT h t len parts av he
  exact val _ v w' π' h1 h2 h3 rfl
 ·rename_i t parts pS
  dsimp only at pS;subst pS
  obtain ⟨v',h1,h2⟩:=aL hT h t parts av he
  exact val _ v' w π h1 h h2 rfl
 ·exact quiet he
theorem er {a:Act} : ∀(l:List Operand) {π:Pi} {st st1:St},Ai X π st a w->Jk l st=some st1-> ∃π',Ai X π' st1 a w
 | [],π,st,st1,h,he=>by
  simp only [Jk,Option.some.injEq] at he
  subst he
  exact ⟨π,h⟩
 |x::r,π,st,st1,h,he=>by
  simp only [Jk] at he
  cases hs:settle st (st.ev x) with
  |none=>rw [hs] at he;cases he
  |some p=>
   rw [hs] at he
   obtain ⟨Vj,h1,_⟩:=Ve h (Bl h.2 x) hs
   exact er r h1 he
theorem ru {Γ:Env} (hT:Bz P T) (Mb:Gz P Γ) {st:St} {a:Act} (h:Ai X π st a w) (o:Oper) (av:AV) (st':St) (he:evalOp T Γ st o=some (av,st')):
  br P X st' a w av ((execOp a.eval o).run P w):=by
 have quiet: ∀ {π:Pi} {st:St},Ai X π st a w->(Ch T Γ st o).map (λv=>(v,st))=some (av,st')->br P X st' a w av ((execOp a.eval o).run P w):=by
  intro π st h he
  cases hq:Ch T Γ st o with
  |none=>rw [hq] at he;cases he
  |some v=>
   rw [hq] at he
   simp only [Option.map_some,Option.some.injEq,Prod.mk.injEq] at he
   obtain ⟨rfl,rfl⟩:=he
   have:=jT hT Mb h o v hq
   generalize (execOp a.eval o).run P w=r at*
   cases r with
   |halt x w'=>exact this
   |ok n w'=>
    cases n<;>simp only [zx] at this<;>simp only [br]
    ·obtain ⟨rfl,hr⟩:=this
     exact ⟨π,h,hr⟩
    ·obtain ⟨rfl,hc⟩:=this
     exact ⟨rfl,hc.mono λe nY ⟨v,hv,hb,hr⟩=>⟨v,hv,π,h.quiet hb,hr⟩⟩
 obtain ⟨dst,op,ty,pos,af,gd⟩:=o
 have val: ∀(s:Sem Value) (v:Value) (w':World) (π':Pi),s.run P w= .ok v w'->Ai X π' st' a w'->Am X w' π' st'.heap av v->(execOp a.eval ⟨dst,op,ty,pos,af,gd⟩=do pure (.value (<-s)))->
   br P X st' a w av ((execOp a.eval ⟨dst,op,ty,pos,af,gd⟩).run P w):=by
  intro s v w' π' h1 h2 h3 h4
  rw [h4,Sem.run_bind,h1]
  exact ⟨π',h2,h3⟩
 unfold evalOp at he
 split at he
 all_goals (rename_i pS;dsimp only at pS;try subst pS)
 ·
  rename_i x
  split at he
  ·rename_i d te e hx hd ht
   split at he
   ·rename_i FV
    simp only [Option.some.injEq,Prod.mk.injEq] at he
    obtain ⟨rfl,rfl⟩:=he
    obtain ⟨k1,k2,_⟩:=mP h d FV (T.me||e.flat) T.tw te e
    have MD:=Bl h.2 x
    rw [hx] at MD
    have hxv:a.eval x= .slice none 0 0:=MD
    show br P X _ a w _ (.ok (.value (a.eval x)) w)
    rw [hxv]
    exact ⟨_,k1,k2⟩
   ·cases he
  ·simp only [Option.some.injEq,Prod.mk.injEq] at he
   obtain ⟨rfl,rfl⟩:=he
   exact ⟨π,h,Bl h.2 x⟩
 ·
  rename_i t
  split at he
  ·rename_i d τ hd ht
   obtain ⟨i,hi,Of,kT,mr⟩:=(hT.ty t τ ht).info
   obtain ⟨π',k1,k2⟩:=kq h d t τ (zeroCells τ) (An τ) (eL τ) av st' he
   have IC:(Ap τ (An τ)).cells=(An τ).toArray:=by
    cases τ<;>simp [Ap,Ty.Ab,Value.cells,An]
   refine val (Instr.alloc t true (.tuple #[])) _ _ π' ?_ k1 k2 rfl
   simp [Instr.alloc,zeroValue,typeInfo,hi,mr,newVar,newRow,IC]
  ·cases he
 ·
  rename_i t x
  split at he
  ·rename_i d τ hd ht
   split at he
   ·rename_i cs hc
    obtain ⟨us,hv,hl,hr⟩:=bC (Bl h.2 x) hc
    obtain ⟨π',k1,k2⟩:=kq h d t τ cs us hr av st' he
    refine val (Instr.box t (a.eval x)) _ _ π' ?_ k1 k2 rfl
    simp [Instr.box,newVar,newRow,hv]
   ·cases he
  ·cases he
 ·
  rename_i t p x
  cases hs:Jt T st t (st.ev p) (st.ev x) with
  |none=>rw [hs] at he;cases he
  |some s=>
   rw [hs] at he
   simp only [Option.map_some,Option.some.injEq,Prod.mk.injEq] at he
   obtain ⟨rfl,rfl⟩:=he
   obtain ⟨w',π',h1,h2⟩:=iO hT h t _ _ _ _ (Bl h.2 p) (Bl h.2 x) s hs
   have:(execOp a.eval ⟨dst, .store t p x,ty,pos,af,gd⟩).run P w= .ok .skip w':=by
    show (do Instr.storeAt t (a.eval p) (a.eval x);pure Next.skip:Sem Next).run P w=_
    rw [Sem.run_bind,h1];rfl
   rw [this]
   exact ⟨π',h2,trivial⟩
 ·
  rename_i t l c
  split at he
  ·rename_i d hd
   obtain ⟨v,w',π',h1,h2,h3⟩:=kR hT h d t _ _ _ _ (Bl h.2 l) (Bl h.2 c) av st' he
   exact val _ v w' π' h1 h2 h3 rfl
  ·cases he
 ·
  rename_i t
  split at he
  ·rename_i d hd
   obtain ⟨v,w',π',h1,h2,h3⟩:=gm hT h d t av st' he
   exact val _ v w' π' h1 h2 h3 rfl
  ·cases he
 ·
  rename_i t m k x
  cases hs:Er T st t (st.ev m) (st.ev k) (st.ev x) with
  |none=>rw [hs] at he;cases he
  |some s=>
   rw [hs] at he
   simp only [Option.map_some,Option.some.injEq,Prod.mk.injEq] at he
   obtain ⟨rfl,rfl⟩:=he
   obtain ⟨w',h1,h2⟩:=Xr hT h t _ _ _ _ _ _ (Bl h.2 m) (Bl h.2 k) (Bl h.2 x) s hs
   have:(execOp a.eval ⟨dst, .mapUpdate t m k x,ty,pos,af,gd⟩).run P w= .ok .skip w':=by
    show (do Instr.mapUpdate t (a.eval m) (a.eval k) (a.eval x);pure Next.skip:Sem Next).run P w=_
    rw [Sem.run_bind,h1];rfl
   rw [this]
   exact ⟨π,h2,trivial⟩
 ·
  rename_i t m k x
  cases hs:Er T st t (st.ev m) (st.ev k) (st.ev x) with
  |none=>rw [hs] at he;cases he
  |some s=>
   rw [hs] at he
   simp only [Option.map_some,Option.some.injEq,Prod.mk.injEq] at he
   obtain ⟨rfl,rfl⟩:=he
   obtain ⟨w',h1,h2⟩:=Xr hT h t _ _ _ _ _ _ (Bl h.2 m) (Bl h.2 k) (Bl h.2 x) s hs
   have:(execOp a.eval ⟨dst, .insert t m k x,ty,pos,af,gd⟩).run P w= .ok .skip w':=by
    show (do Instr.mapUpdate t (a.eval m) (a.eval k) (a.eval x);pure Next.skip:Sem Next).run P w=_
    rw [Sem.run_bind,h1];rfl
   rw [this]
   exact ⟨π,h2,trivial⟩
 ·
  rename_i t len parts
  split at he
  ·rename_i d hd
   obtain ⟨v,w',π',h1,h2,h3⟩:=bk hT h d t len parts av st' he
   exact val _ v w' π' h1 h2 h3 rfl
  ·cases he
 ·
  rename_i t parts
  cases hb:Qa T st t parts with
  |none=>rw [hb] at he;cases he
  |some v=>
   rw [hb] at he
   simp only [Option.map_some,Option.some.injEq,Prod.mk.injEq] at he
   obtain ⟨rfl,rfl⟩:=he
   obtain ⟨v',h1,h2⟩:=aL hT h t parts v hb
   exact val _ v' w π h1 h h2 rfl
 ·
  rename_i args ts
  split at he
  ·rename_i d x y t t' hd Kw oz
   split at he
   ·rename_i Oj;subst Oj
    have e1:args= #[x,y]:=by apply Array.ext';simpa using Kw
    have e2:ts= #[t,t]:=by apply Array.ext';simpa using oz
    subst e1;subst e2
    obtain ⟨v,w',π',h1,h2,h3⟩:=gi hT h d t ty x y av st' he
    refine val (Builtin.append_ #[t,t] ty #[a.eval x,a.eval y]) v w' π' h1 h2 h3 ?_
    simp [execOp,resolve,invoke,builtin]
   ·cases he
  ·cases he
 ·
  rename_i args ts
  split at he
  ·rename_i x y t t' Kw oz
   have e1:args= #[x,y]:=by apply Array.ext';simpa using Kw
   have e2:ts= #[t,t']:=by apply Array.ext';simpa using oz
   subst e1;subst e2
   obtain ⟨v,w',h1,h2,h3⟩:=m5 hT h t t' ty _ _ _ _ (Bl h.2 x) (Bl h.2 y) av st' he
   refine val (Builtin.copy_ #[t,t'] ty #[a.eval x,a.eval y]) v w' π h1 h2 h3 ?_
   simp [execOp,resolve,invoke,builtin]
  ·cases he
 ·
  rename_i args ts
  split at he
  ·rename_i x t Kw oz
   have e1:args= #[x]:=by apply Array.ext';simpa using Kw
   have e2:ts= #[t]:=by apply Array.ext';simpa using oz
   subst e1;subst e2
   cases hs:evalClear T st t (st.ev x) with
   |none=>rw [hs] at he;cases he
   |some s=>
    rw [hs] at he
    simp only [Option.map_some,Option.some.injEq,Prod.mk.injEq] at he
    obtain ⟨rfl,rfl⟩:=he
    obtain ⟨v,w',h1,h2⟩:=kQ hT h t ty _ _ (Bl h.2 x) s hs
    refine val (Builtin.clear_ #[t] ty #[a.eval x]) v w' π h1 h2 trivial ?_
    simp [execOp,resolve,invoke,builtin]
  ·cases he
 ·
  rename_i f args ts
  split at he
  ·rename_i s Aa7
   have hs:Cd P f s:=Mb f _ Aa7
   have:=kP h hs dst (args.toList.map st.ev) (args.toList.map a.eval) (by simp) (λi c v=>cG h args.toList i c v) av st' he
   rw [cJ a.eval f args ts dst ty pos af gd rfl hs.enter]
   refine ⟨rfl,?_⟩
   rwa [show (args.toList.map a.eval).toArray=args.map a.eval from by apply Array.ext';simp] at this
  ·rename_i s Aa7
   split at he
   ·cases hs:Jk args.toList st with
    |none=>rw [hs] at he;cases he
    |some st1=>
     rw [hs] at he
     obtain ⟨Vj,h1⟩:=er args.toList h hs
     exact quiet h1 he
   ·exact quiet h he
  ·exact quiet h he
 ·exact quiet h he
end
end Go.Proofs.Ytjbdmibbbpdnnaa
