/-
  Part 23 of the proof that the statement FnExactBestTableIndex holds.
-/
import Derived.Test.YtfolipnappekaaaGreatCBestTableIndex21
namespace Go.Proofs.YtfolipnappekaaaGreat
open Go.RowKit
section
variable {P:Program} {T:Tab} {X:Ctx} {w w':World} {π:Pi} {H:List (Nat×OB)}
theorem sO {π':Pi} {st':St} {a:Act} (h:Aj X π' st' a w) (k:Gc π π' H st'.heap) {fr:Bool} (τ:Ty) (cs:List Value) (x:τ.den) (hc:Cells w (Bd X.w0.heap.size X.Sc π fr) τ cs x):
  Cells w (Bd X.w0.heap.size X.Sc π' fr) τ cs x:=
 Cells.Ci (Nat.le_refl _) (λ_ _ _=>rfl) (λb _ hA=>by
  rcases hA with ⟨l,r,hl,hg⟩|h2
  ·have hh:=h.1.heap l
   cases hb:Ad st'.heap l with
   |none=>have:=hh.emp hb;rw [this] at hl;cases hl
   |some b'=>have:=(k l b' hb).1;rw [this] at hl;exact .inl ⟨l,r,hl,hg⟩
  ·exact .inr h2) τ cs x hc
theorem bJ.drop {F:List Nat} {l:Nat} (h:bJ X w π F):bJ X w (Po π l none) F:=
 ⟨h.1,λb hb=>⟨(h.2 b hb).1,(h.2 b hb).2.1,λm r hm=>by
  by_cases e:m=l
  ·subst e;rw [Cy] at hm;cases hm
  ·rw [Cs π none e] at hm;exact (h.2 b hb).2.2 m r hm⟩⟩
theorem nS {st:St} {a:Act} (h:Aj X π st a w) (l:Nat) (hl:l<Ak) (f0 t0:Bool) (te:TypeId) (e:Ty):
  Aj X (Po π l none) (st.new l (.arr f0 t0 e te [])) a w/\Am X w (Po π l none) (st.new l (.arr f0 t0 e te [])).heap (.at (.own l 0 0)) (.slice none 0 0)/\
   ∀fr τ cs x,Cells w (Bd X.w0.heap.size X.Sc π fr) τ cs x->Cells w (Bd X.w0.heap.size X.Sc (Po π l none) fr) τ cs x:=
 ⟨h.replace l hl none _ (Jx w _) (λr hr=>by cases hr) (λ_=>rfl),
  xf (St.Dk st l _) (Nat.le_refl _) (by rw [Cy];exact ⟨rfl,rfl,rfl⟩),
  fun fr τ cs x hc=>Cells.Ci (Nat.le_refl _) (λ_ _ _=>rfl) (λb _ hA=>by
  rcases hA with ⟨m,r,hm,hg⟩|h2
  ·by_cases e:m=l
   ·subst e;rw [Cy] at hm;cases hm
   ·rw [Cs π none e] at hm;exact .inl ⟨m,r,hm,hg⟩
  ·exact .inr h2) τ cs x hc⟩
theorem Qc (hT:Bz P T) {st:St} {a:Act} (h:Aj X π st a w) (dst:Nat) (t ty:TypeId) (x y:Operand) (av:AV) (st':St) (he:Io T st dst t x y=some (av,st')):
  ∃v' w' π',(Builtin.append_ #[t,t] ty #[a.eval x,a.eval y]).run P w= .ok v' w'/\Aj X π' st' a w'/\Am X w' π' st'.heap av v':=by
 unfold Io at he
 split at he
 ·cases he
 ·rename_i te eQ
  split at he
  ·rename_i e y' st1 Qk hs
   obtain ⟨Vy,h1,h2,h3,h4,h5⟩:=Vr h (Bn h.2 y) hs
   split at he
   ·cases he
   ·rename_i mb ys hv
    dsimp only at he
    have DT: ∀tr2,tr2=(e.flat||(Ms st (st.ev y)&&e.tree))->tr2=true->e.flat=true\/ ∃F,Be w F (.slice e) [a.eval y] ys/\bJ X w Vy F:=by
     intro tr2 e2 ik
     subst e2
     cases hef:e.flat with
     |true=>exact .inl rfl
     |false=>
     right
     simp only [hef,Bool.false_or,Bool.and_eq_true] at ik
     obtain ⟨F,us,f1,f2,f3,_⟩:=h5 ik.1 (.slice e) mb ys ik.2 hv
     have KQ:us= [a.eval y]:=by
      simp only [Be] at f1
      obtain ⟨a0,len,cap,rfl,_⟩:=f1
      rw [f2];simp [Ar,Ty.Ab]
     rw [KQ] at f1
     exact ⟨F,f1,f3⟩
    have hyc:Cells w (Bd X.w0.heap.size X.Sc Vy mb) (.slice e) [a.eval y] ys:=Bb.Ln rfl (Jl _ y' _ mb ys h3 h2 hv)
    have WU:=Bn h1.2 x
    split at he
    ·rename_i hx
     rw [hx] at WU
     have hxv:a.eval x= .slice none 0 0:=WU
     split at he
     ·rename_i jD
      simp only [Option.some.injEq,Prod.mk.injEq] at he
      obtain ⟨rfl,rfl⟩:=he
      obtain ⟨k1,k2,k3⟩:=nS h1 dst jD.2 (T.ng||e.flat) T.uP te e
      have:=gK (ty:=ty) hT k1 eQ Qk jD.2 (fr3:=mb||e.flat) (tr2:=e.flat||(Ms st (st.ev y)&&e.tree)) rfl (St.Dk st1 dst _) k2 (k3 _ _ _ _ hyc) (by rw [Nat.zero_add];exact jD.1) (λht=>by
       rcases DT _ rfl ht with h0|⟨F,f1,f2⟩
       ·exact .inl h0
       ·exact .inr ⟨F,f1,f2.drop⟩)
      rw [<-hxv] at this
      exact this
     ·cases he
    ·rename_i l off len hx
     rw [hx] at WU
     split at he
     ·rename_i fr tr e' tid xs hl
      split at he
      ·rename_i Ey
       obtain ⟨rfl,rfl⟩:=Ey
       split at he
       ·rename_i jD
        simp only [Option.some.injEq,Prod.mk.injEq] at he
        obtain ⟨rfl,rfl⟩:=he
        exact gK (ty:=ty) hT h1 eQ Qk jD.2 (fr3:=mb||e'.flat) (tr2:=e'.flat||(Ms st (st.ev y)&&e'.tree)) rfl hl WU hyc jD.1 (DT _ rfl)
       ·cases he
      ·cases he
     ·cases he
    ·cases he
  ·cases he
theorem gT (hT:Bz P T) {st:St} {a:Act} (h:Aj X π st a w) (dst:Nat) (t ty:TypeId) (x y:Operand) (av:AV) (st':St) (he:Le T st dst t x y=some (av,st')):
  ∃v' w' π',(Builtin.append_ #[t,t] ty #[a.eval x,a.eval y]).run P w= .ok v' w'/\Aj X π' st' a w'/\Am X w' π' st'.heap av v':=by
 unfold Le at he
 split at he
 ·rename_i tx
  split at he
  ·rename_i l i c hg
   split at he
   ·rename_i e te rows kp tid hl _
    split at he
    ·rename_i hc
     simp only [Bool.and_eq_true,Nat.blt_eq,Bool.not_eq_true'] at hc
     have ej:dst≠l:= λe=>by rw [e,Nat.beq_refl] at hc;cases hc.2.2
     unfold St.at at hl
     have hv:Dq X w π st.heap (.sub l i c) (a.tmps.getD tx undef):=by
      have:=h.2.tmps tx
      rw [hg] at this
      exact this
     obtain ⟨Vy,h1,h2⟩:=zd (tid:=tid) h hl ej hc.2.1 hc.1 hv
     have h3:=h1.put (some tx) (c:= .at (.own dst 0 (rows.getD i []).length)) h2
     have Abb:a.put (some tx) (a.tmps.getD tx undef)=a:=by
      have:a.tmps.setIfInBounds tx (a.tmps.getD tx undef)=a.tmps:=by
       apply Array.ext_getElem?
       intro k
       rw [Array.getElem?_setIfInBounds]
       split
       ·rename_i e
        subst e
        split
        ·rename_i Fg
         rw [Array.getElem?_eq_getElem Fg];simp
        ·rename_i Fg
         rw [Array.getElem?_eq_none (by omega)]
       ·rfl
      simp only [Act.put,this]
     rw [Abb] at h3
     exact Qc hT h3 dst t ty (.tmp tx) y av st' he
    ·cases he
   ·cases he
  ·exact Qc hT h dst t ty _ y av st' he
 ·exact Qc hT h dst t ty x y av st' he
theorem CM {S:Nat->Prop} {e:Ty} (h:gC e=true): ∃z,Aq e= [z]/\e.Ab=false/\e.size=1/\Cells w S e [z] e.zero/\z.oneCell'=true:=by
 cases e<;>simp [gC] at h
 ·exact ⟨_,rfl,rfl,rfl,rfl,rfl⟩
 ·exact ⟨_,rfl,rfl,rfl,rfl,rfl⟩
 ·exact ⟨_,rfl,rfl,rfl,rfl,rfl⟩
 ·exact ⟨_,rfl,rfl,rfl,⟨none,0,0,rfl,rfl,Nat.le_refl _, .inl rfl⟩,rfl⟩
 ·exact ⟨_,rfl,rfl,rfl, .inl ⟨rfl,0,rfl⟩,rfl⟩
theorem yF {e:Ty} {z:Value} (ht:e.tree=true) (h:gC e=true) (hz:Aq e= [z]):Be w [] e [z] e.zero:=by
 cases e<;>simp [gC] at h<;>simp only [Aq,List.cons.injEq,and_true] at hz<;>subst hz<;>try (simp [Ty.tree] at ht;done)
 ·exact ⟨rfl,rfl⟩
 ·exact ⟨rfl,rfl⟩
 ·exact ⟨rfl,rfl⟩
 ·exact ⟨none,0,0,rfl,rfl,Nat.le_refl _, .inl ⟨rfl,rfl,rfl,rfl⟩⟩
theorem ON {S:Nat->Prop} : ∀(e:Ty),aT e=true->(Aq e).length=e.size/\Cells w S e (Aq e) e.zero/\(e.tree=true->Be w [] e (Aq e) e.zero):=by
 intro e
 induction e with
 |unit=>intro _;exact ⟨rfl,rfl,λ_=>⟨rfl,rfl⟩⟩
 |pair a r gE dL=>
  intro h
  simp only [aT,Bool.and_eq_true] at h
  obtain ⟨a1,a2,a3⟩:=gE h.1
  obtain ⟨r1,r2,r3⟩:=dL h.2
  exact ⟨by simp [Aq,Ty.size,a1,r1],⟨_,_,rfl,a2,r2⟩,λht=>by simp only [Ty.tree,Bool.and_eq_true] at ht;exact ⟨_,_,[],[],rfl,rfl,a3 ht.1,r3 ht.2⟩⟩
 |_=>
  intro h
  simp only [aT] at h
  obtain ⟨z,z1,z2,z3,z4,_⟩:=CM (w:=w) (S:=S) h
  exact ⟨by rw [z1,z3];rfl,by rw [z1];exact z4,λht=>by rw [z1];exact yF ht h z1⟩
theorem DZ {z:Array Value} {s m j q:Nat} (hz:z.size=s) (hj:j<m) (hq:q<s):(madeCells z (m*s))[j*s+q]?=z[q]?:=by
 have h1:j*s+q<m*s:=by
  have:=Nat.mul_le_mul_right s (show j+1<=m by omega)
  rw [Nat.succ_mul] at this
  omega
 have h2:(j*s+q)%z.size=q:=by rw [hz,Nat.mul_comm,Nat.mul_add_mod,Nat.mod_eq_of_lt hq]
 have h3:q<z.size:=by omega
 unfold madeCells
 simp [h1,h2,h3]
theorem mY (hT:Bz P T) {st:St} {a:Act} (h:Aj X π st a w) (dst:Nat) (t:TypeId) (l c:AV) (vl vc:Value) (hl:Am X w π st.heap l vl) (hc:Am X w π st.heap c vc) (av:AV) (st':St)
  (he:Uw T st dst t l c=some (av,st')): ∃v' w' π',(Instr.makeSlice t vl vc).run P w= .ok v' w'/\Aj X π' st' a w'/\Am X w' π' st'.heap av v':=by
 unfold Uw at he
 split at he
 ·rename_i te SF k1 n mb k2 m eQ
  have:=Ke hl;subst this
  have:=Ke hc;subst this
  split at he
  ·rename_i e Qk
   split at he
   ·rename_i Ey
    obtain ⟨h0,hnm,hz,SV⟩:=Ey
    obtain ⟨h1,h2⟩:=Nc.1 h0
    subst hnm
    simp only [Option.some.injEq,Prod.mk.injEq] at he
    obtain ⟨rfl,rfl⟩:=he
    obtain ⟨i,hi,Oj,lD,nu⟩:=(hT.ty te e Qk).info
    obtain ⟨z1,z4,z5⟩:=ON (w:=w) (S:=Bd X.w0.heap.size X.Sc π (T.ng||e.flat)) e hz
    have KS:(Ar e (Aq e)).cells=(Aq e).toArray:=Gh e _ _ z4
    have hu:=hT.elem t te eQ
    have hn:n.toNat<=4294967296:=by unfold Bj at h2;omega
    have hr:=run_make (P:=P) (w:=w) t te i _ hu hi nu k1 k2 n n h1 (Int.le_refl _) (by
     have:(i.bytes:Int)*n<=256*4294967296:=by
      obtain ⟨nn,rfl⟩:=Int.eq_ofNat_of_zero_le h1
      have h7:i.bytes*nn<=256*4294967296:=Nat.mul_le_mul lD (by simpa using hn)
      have h8:((i.bytes*nn:Nat):Int)<=256*4294967296:=by omega
      rwa [Int.natCast_mul] at h8
     omega) (by unfold Bj at h2;omega)
    rw [KS,Oj] at hr
    have Wo:((Aq e).toArray).size=e.size:=by simpa using z1
    have cell: ∀j,j<n.toNat-> ∀q u,(Aq e)[q]?=some u->(madeCells (Aq e).toArray (n.toNat*e.size)).toList[j*e.size+q]?=some u:=by
     intro j hj q u hu
     have hq:q<e.size:=by rw [<-z1];exact (List.getElem?_eq_some_iff.1 hu).1
     have:=DZ Wo hj hq
     rw [Array.getElem?_toList,this]
     simpa using hu
    have:=aq (w1:=w.alloc (.cells (madeCells (Aq e).toArray (n.toNat*e.size)) te)) h dst SV (T.ng||e.flat) (T.uP&&e.tree) e te (List.replicate n.toNat e.zero) (madeCells (Aq e).toArray (n.toNat*e.size)).toList (madeCells (Aq e).toArray (n.toNat*e.size)) n.toNat []
     (.inr rfl) (by rw [size_madeCells]) (by unfold maxLen;omega) (by simp)
     (λk u hu=>by
      rw [Array.getElem?_toList] at hu;exact hu) ⟨by simp [size_madeCells],λj x hx=>by
       have hj:=(List.getElem?_eq_some_iff.1 hx).1
       simp only [List.length_replicate] at hj
       refine ⟨Aq e,z1,λq u hu=>cell j hj q u hu,?_⟩
       rw [List.eq_of_mem_replicate (List.mem_of_getElem? hx)];exact z4⟩ (by simp) (λik=>⟨List.nodup_nil,List.replicate n.toNat [],by simp,by simp,λj x F hx hF=>by
      have hj:=(List.getElem?_eq_some_iff.1 hx).1
      simp only [List.length_replicate] at hj
      refine ⟨Aq e,z1,λq u hu=>cell j hj q u hu,?_⟩
      have e1:=List.eq_of_mem_replicate (List.mem_of_getElem? hx)
      have e2:=List.eq_of_mem_replicate (List.mem_of_getElem? hF)
      rw [e1,e2]
      exact z5 (by simp only [Bool.and_eq_true] at ik;exact ik.2)⟩)
    exact ⟨_,_,_,hr,this.1,this.2 _ (by simp)⟩
   ·cases he
  ·cases he
 ·cases he
theorem cg (off:Nat): ∀(us:List Value) (k:Nat) (cells:List Value),off+k+us.length<=cells.length->
  (us.zipIdx k).foldl (λcs p=>cs.setIfInBounds (off+p.2) p.1) cells.toArray=(Bo cells (off+k) us).toArray
 | [],k,cells,h=>by simp [Bo]
 |u::us,k,cells,h=>by
  simp only [List.zipIdx_cons,List.foldl_cons]
  rw [show cells.toArray.setIfInBounds (off+k) u=(cells.set (off+k) u).toArray by simp]
  rw [cg off us (k+1) (cells.set (off+k) u) (by simp at h⊢;omega)]
  congr 1
  apply List.ext_getElem?
  intro j
  have hl:off+k+(u::us).length<=cells.length:=h
  have pv:off+(k+1)+us.length<=(cells.set (off+k) u).length:=by simp at h⊢;omega
  rw [Ea _ _ _ _ hl,Ea _ _ _ _ pv]
  simp only [List.length_cons]
  by_cases h1:j<off+k
  ·rw [if_pos (by omega),if_pos h1,List.getElem?_set_ne (by omega)]
  ·rw [if_neg h1]
   by_cases h2:j=off+k
   ·subst h2
    rw [if_pos (by omega),if_pos (by omega),List.getElem?_set_self (by simp at h;omega)]
    simp
   ·rw [if_neg (by omega)]
    by_cases h3:j<off+k+(us.length+1)
    ·rw [if_pos (by omega),if_pos h3]
     rw [show j-(off+k)=(j-(off+(k+1)))+1 by omega,List.getElem?_cons_succ]
    ·rw [if_neg (by omega),if_neg h3,List.getElem?_set_ne (by omega)]
theorem rh (place:Nat->Option (Nat×Nat)) (cells:List Value) (i:Nat) (v:Value) (rest:List (Nat×Value)) (off size:Nat) (us:List Value) (hp:place i=some (off,size)) (hv:v.cells=us.toArray)
  (hl:us.length=size) (hle:off+size<=cells.length):Instr.fill place cells.toArray ((i,v)::rest)=Instr.fill place (Bo cells off us).toArray rest:=by
 simp only [Instr.fill,hp,hv,List.size_toArray,hl]
 rw [if_neg (by simp;omega)]
 congr 1
 have:=cg off us 0 cells (by omega)
 simp only [Nat.add_zero] at this
 rw [<-this]
 simp
theorem Pz (e:Ty) {a:Act} : ∀(parts:List (Nat×Operand)) (i:Nat) (st:St) (π:Pi) (fr tr:Bool) (ys:List e.den) (st':St) (cells:List Value),Aj X π st a w->Gl e i parts st=some (fr,tr,ys,st')->
  (i+parts.length)*e.size<=cells.length->
  ∃π' cl,Aj X π' st' a w/\Flat w (Bd X.w0.heap.size X.Sc π' fr) e cl ys/\ys.length=parts.length/\Gc π π' st.heap st'.heap/\
   Instr.fill (λi=>some (i*e.size,e.size)) cells.toArray (parts.map λp=>(p.1,a.eval p.2))=some (Bo cells (i*e.size) cl).toArray/\
   (tr=true-> ∃Fs,Me w e cl ys Fs/\bJ X w π' (List.flatten Fs)/\ ∀b∈List.flatten Fs,∃l r,π l=some r/\r.cl b)
 | [],i,st,π,fr,tr,ys,st',cells,h,he,hle=>by
  simp only [Gl,Option.some.injEq,Prod.mk.injEq] at he
  obtain ⟨rfl,rfl,rfl,rfl⟩:=he
  exact ⟨π,[],h,Flat.nil,rfl,Gc.refl _ _,by simp [Instr.fill,Bo],λ_=>⟨[],⟨rfl,λi z F hz=>by simp at hz⟩,⟨List.nodup_nil,by simp⟩,by simp⟩⟩
 |(j,x)::r,i,st,π,fr,tr,ys,st',cells,h,he,hle=>by
  simp only [Gl] at he
  split at he
  ·rename_i jF;subst jF
   split at he
   ·rename_i v' st1 hs
    obtain ⟨Vy,h1,h2,h3,h4,h5⟩:=Vr h (Bn h.2 x) hs
    split at he
    ·rename_i SF y hv
     split at he
     ·rename_i mb tr2 zs st2 hr
      simp only [Option.some.injEq,Prod.mk.injEq] at he
      obtain ⟨rfl,rfl,rfl,rfl⟩:=he
      obtain ⟨es,bH,zk⟩:=Jl e v' _ SF y h3 h2 hv
      have ic:=Cells.len e es y bH
      have Ag2:i*e.size+e.size<=cells.length:=by
       have:(i+1)*e.size<=(i+((i,x)::r).length)*e.size:=Nat.mul_le_mul_right _ (by simp)
       rw [Nat.add_mul,Nat.one_mul] at this
       omega
      have DN:i*e.size+es.length<=cells.length:=by omega
      obtain ⟨IN,cl,g1,g2,g3,g4,g5,g6⟩:=Pz e r (i+1) st1 Vy mb tr2 zs st2 (Bo cells (i*e.size) es) h1 hr (by
       rw [Ej _ _ _ DN]
       rw [show i+1+r.length=i+((i,x)::r).length by simp;omega];exact hle)
      have f1:Flat w (Bd X.w0.heap.size X.Sc IN SF) e es [y]:=⟨by simp [ic],λq z hz=>by
       rcases q with _|q
       ·simp at hz;subst hz
        exact ⟨es,ic,λj u hu=>by simpa using hu,sO g1 g4 e es y bH⟩
       ·simp at hz⟩
      refine ⟨IN,es++cl,g1,?_,by simp [g3],h4.trans g4,?_,λht=>?_⟩
      ·have:=(f1.cells λes z hc=>hc.and_left (f2:=mb)).append (g2.cells λes z hc=>hc.and_right (f1:=SF))
       simpa using this
      ·simp only [List.map_cons]
       rw [rh _ cells i (a.eval x) _ (i*e.size) e.size es rfl (by rw [zk];exact Gh e es y bH) ic Ag2,g5]
       congr 2
       have Ly:cl.length=r.length*e.size:=by rw [g2.1,g3]
       have Qi:(i+1)*e.size+cl.length<=(Bo cells (i*e.size) es).length:=by
        rw [Ej _ _ _ DN,Ly,<-Nat.add_mul]
        rw [show i+1+r.length=i+((i,x)::r).length by simp;omega];exact hle
       have Aah:i*e.size+(es++cl).length<=cells.length:=by
        rw [Ej _ _ _ DN] at Qi
        rw [List.length_append,ic]
        rw [Nat.add_mul,Nat.one_mul] at Qi
        omega
       have e1:(i+1)*e.size=i*e.size+es.length:=by rw [Nat.add_mul,Nat.one_mul,ic]
       apply List.ext_getElem?
       intro k
       rw [Ea _ _ _ _ Qi,Ea _ _ _ _ Aah,Ea _ _ _ _ DN,e1,List.length_append]
       by_cases k1:k<i*e.size
       ·rw [if_pos (by omega),if_pos k1,if_pos k1]
       ·rw [if_neg k1,if_neg k1]
        by_cases k2:k<i*e.size+es.length
        ·rw [if_pos k2,if_pos k2,if_pos (by omega),List.getElem?_append_left (by omega)]
        ·rw [if_neg k2,if_neg k2]
         by_cases k3:k<i*e.size+es.length+cl.length
         ·rw [if_pos k3,if_pos (by omega),List.getElem?_append_right (by omega)]
          congr 1;omega
         ·rw [if_neg k3,if_neg (by omega)]
      ·simp only [Bool.and_eq_true] at ht
       obtain ⟨⟨ht1,TP⟩,ht3⟩:=ht
       obtain ⟨F,us,t1,t2,t3,t7⟩:=h5 ht1 e SF y TP hv
       obtain ⟨Fs,t4,t5,t6⟩:=g6 ht3
       have KQ:us=es:=by
        have c1:=Be.cells (S:= λ_=>False) F e us y t1 (λ_ _ h=>h)
        have a1:=Gh e us y c1
        have a2:=Gh e es y bH
        rw [<-t2,zk,a2] at a1
        simpa using a1.symm
       subst KQ
       refine ⟨F::Fs,?_,?_,λb hb=>?_⟩
       ·have k1:Me w e us [y] [F]:=⟨rfl,λq z G hz hG=>by
         rcases q with _|q
         ·simp at hz hG;subst hz;subst hG
          exact ⟨us,ic,λj u hu=>by simpa using hu,t1⟩
         ·simp at hz⟩
        exact Me.append (by simp [ic]) k1 t4
       ·rw [List.flatten_cons]
        refine ⟨List.nodup_append.2 ⟨t3.1,t5.1,λb hb b' pt e=>?_⟩,λb hb=>?_⟩
        ·subst e
         obtain ⟨l,r,q1,q2⟩:=t6 b pt
         exact (t3.2 b hb).2.2 l r q1 q2
        ·rcases List.mem_append.1 hb with hb|hb
         ·have:=t3.2 b hb
          refine ⟨this.1,this.2.1,λl r q1 q2=>?_⟩
          cases hh:Ad st2.heap l with
          |none=>rw [(g1.1.heap l).emp hh] at q1;cases q1
          |some b'=>exact this.2.2 l r ((g4 l b' hh).1▸q1) q2
         ·exact t5.2 b hb
       ·rw [List.flatten_cons] at hb
        rcases List.mem_append.1 hb with hb|hb
        ·exact t7 b hb
        ·obtain ⟨l,r,q1,q2⟩:=t6 b hb
         cases hh:Ad st1.heap l with
         |none=>rw [(h1.1.heap l).emp hh] at q1;cases q1
         |some b'=>exact ⟨l,r,(h4 l b' hh).1▸q1,q2⟩
     ·cases he
    ·cases he
   ·cases he
  ·cases he
theorem c9 (hT:Bz P T) {st:St} {a:Act} (h:Aj X π st a w) (dst:Nat) (t:TypeId) (len:Nat) (parts:Array (Nat×Operand)) (av:AV) (st':St)
  (he:Hj T st dst t len parts=some (av,st')):
  ∃v' w' π',(Instr.buildSlice t len (parts.map λ(i,x)=>(i,a.eval x))).run P w= .ok v' w'/\Aj X π' st' a w'/\Am X w' π' st'.heap av v':=by
 unfold Hj at he
 split at he
 ·cases he
 ·rename_i te eQ
  split at he
  ·cases he
  ·rename_i e Qk
   split at he
   ·rename_i Ey
    obtain ⟨dK,hlen⟩:=Ey
    split at he
    ·rename_i fr tr ys st1 hb
     simp only [Option.some.injEq,Prod.mk.injEq] at he
     obtain ⟨rfl,rfl⟩:=he
     obtain ⟨i,hi,Oj,lD,nu⟩:=(hT.ty te e Qk).info
     have hu:=hT.elem t te eQ
     have FH:parts.toList.length=len:=by simpa using dK
     have hz: ∃z:Array Value,(len*e.size=0/\z= #[])\/(¬len*e.size=0/\(zeroValue te).run P w= .ok (Ar e (Aq e)) w/\z=(Ar e (Aq e)).cells):=by
      by_cases h0:len*e.size=0
      ·exact ⟨#[], .inl ⟨h0,rfl⟩⟩
      ·exact ⟨_, .inr ⟨h0,by simp [zeroValue,typeInfo,hi,nu],rfl⟩⟩
     obtain ⟨z,hz⟩:=hz
     obtain ⟨Vy,cl,g1,g2,g3,g4,g5,g6⟩:=Pz e parts.toList 0 st π fr tr ys st1 ((Array.range (len*e.size)).map (z[· %z.size]!)).toList h hb (by simp [FH])
     have Ly:cl.length=len*e.size:=by rw [g2.1,g3,FH]
     have KP:(Bo ((Array.range (len*e.size)).map (z[· %z.size]!)).toList (0*e.size) cl)=cl:=by
      simp [Bo,Ly]
     rw [KP] at g5
     have Ok:(Instr.buildSlice t len (parts.map λ(i,x)=>(i,a.eval x))).run P w= .ok (.slice (some ⟨w.heap.size,0,none⟩) len len) (w.alloc (.cells cl.toArray te)):=by
      have h24: ¬(len*e.size>2^24):=by
       have:len*e.size<=64*64:=Nat.mul_le_mul hlen.1 hlen.2.1
       omega
      simp only [Instr.buildSlice,Sem.run_bind,run_underlying hu,Result.andThen_ok,(hT.ty te e Qk).size,if_neg h24]
      have e1:(parts.map λ(i,x)=>(i,a.eval x)).toList=parts.toList.map λp=>(p.1,a.eval p.2):=by simp
      simp only [e1]
      have e2:(((Array.range (len*e.size)).map (z[· %z.size]!)).toList.toArray)=(Array.range (len*e.size)).map (z[· %z.size]!):=Array.toArray_toList
      rw [e2] at g5
      rcases hz with ⟨h0,rfl⟩|⟨h0,hz,rfl⟩
      ·rw [if_pos h0]
       simp only [Sem.run_bind,Sem.run_pure,Result.andThen_ok,g5,newRow]
       simp
      ·rw [if_neg h0]
       simp only [Sem.run_bind,Sem.run_pure,Result.andThen_ok,hz,g5,newRow]
       simp
     have hN: ∃N:List Nat,(∀b∈N,(X.w0.heap.size<=b\/X.gv b)/\b<w.heap.size/\ ∀m r0,m≠dst->Vy m=some r0-> ¬r0.cl b)/\(tr=true->N.Nodup/\ ∃Fs,List.flatten Fs=N/\Me w e cl ys Fs):=by
      cases tr with
      |false=>exact ⟨[],by simp,λh=>by cases h⟩
      |true=>
       obtain ⟨Fs,t1,t2,_⟩:=g6 rfl
       exact ⟨_,λb hb=>⟨(t2.2 b hb).1,(t2.2 b hb).2.1,λm r0 _=>(t2.2 b hb).2.2 m r0⟩,λ_=>⟨t2.1,Fs,rfl,t1⟩⟩
     obtain ⟨N,q1,q2⟩:=hN
     have:=aq (w1:=w.alloc (.cells cl.toArray te)) g1 dst hlen.2.2 ((T.ng||e.flat)&&fr) (T.uP&&tr) e te ys cl cl.toArray len N (.inr rfl) (by simpa using Ly) (by simp only [maxLen];omega) (by omega) (λk u hu=>by simpa using hu) (g2.cells λes z hc=>hc.and_right) q1 (λht=>q2 (by simp only [Bool.and_eq_true] at ht;exact ht.2))
     exact ⟨_,_,_,Ok,this.1,this.2 _ (by omega)⟩
    ·cases he
   ·cases he
theorem fO {t te:TypeId} {e:Ty} (h:Yn T t=some (te,e)):T.elem t=some te/\T.ty te=some (.slice e):=by
 unfold Yn at h
 cases he:T.elem t with
 |none=>rw [he] at h;cases h
 |some Kz=>
  rw [he] at h
  simp only [Option.bind_some] at h
  cases hg:T.DG Kz with
  |none=>rw [hg] at h;cases h
  |some e'=>
   rw [hg] at h
   simp only [Option.map_some,Option.some.injEq,Prod.mk.injEq] at h
   obtain ⟨rfl,rfl⟩:=h
   refine ⟨rfl,?_⟩
   unfold Tab.DG at hg
   split at hg
   ·split at hg
    ·rename_i Qk;simp only [Option.some.injEq] at hg;subst hg;exact Qk
    ·cases hg
   ·cases hg
theorem gM (w:World) (o:Obj):Gb w.heap.size (λ_=>False) w (w.alloc o):=⟨rfl,rfl,rfl,by simp,λk hk _=>Below.heap_alloc w _ k hk⟩
theorem kF (w:World) (o:Obj):Gb w.heap.size (λ_=>False) w (w.drew.alloc o):=⟨rfl,rfl,rfl,by simp,λk hk _=>Below.heap_alloc w.drew _ k hk⟩
theorem lA (hT:Bz P T) {st:St} {a:Act} (h:Aj X π st a w) (dst:Nat) (t:TypeId) (l c:AV) (vl vc:Value) (hl:Am X w π st.heap l vl) (hc:Am X w π st.heap c vc) (av:AV) (st':St)
  (he:Qg T st dst t l c=some (av,st')): ∃v' w' π',(Instr.makeSlice t vl vc).run P w= .ok v' w'/\Aj X π' st' a w'/\Am X w' π' st'.heap av v':=by
 unfold Qg at he
 split at he
 ·exact mY hT h dst t l c vl vc hl hc av st' he
 ·rename_i te e hg
  obtain ⟨eQ,Qk⟩:=fO hg
  split at he
  ·rename_i SF k1 n mb k2 m
   have:=Ke hl;subst this
   have:=Ke hc;subst this
   split at he
   ·rename_i Ey
    obtain ⟨h0,hnm,SV⟩:=Ey
    obtain ⟨h1,h2⟩:=Nc.1 h0
    subst hnm
    simp only [Option.some.injEq,Prod.mk.injEq] at he
    obtain ⟨rfl,rfl⟩:=he
    obtain ⟨i,hi,Oj,lD,nu⟩:=(hT.ty te _ Qk).info
    have hu:=hT.elem t te eQ
    have hn:n.toNat<=4294967296:=by unfold Bj at h2;omega
    have hr:=run_make (P:=P) (w:=w) t te i _ hu hi nu k1 k2 n n h1 (Int.le_refl _) (by
     have:(i.bytes:Int)*n<=256*4294967296:=by
      obtain ⟨nn,rfl⟩:=Int.eq_ofNat_of_zero_le h1
      have h7:i.bytes*nn<=256*4294967296:=Nat.mul_le_mul lD (by simpa using hn)
      have h8:((i.bytes*nn:Nat):Int)<=256*4294967296:=by omega
      rwa [Int.natCast_mul] at h8
     omega) (by unfold Bj at h2;omega)
    have KS:(Ar (Ty.slice e) (Aq (Ty.slice e))).cells= #[.slice none 0 0]:=by simp [Ar,Ty.Ab,Aq,Value.cells]
    have gD:(Ty.slice e).size=1:=rfl
    rw [KS,Oj,gD] at hr
    have cell: ∀j,j<n.toNat->(madeCells #[Value.slice none 0 0] (n.toNat*1))[0+j]?=some (.slice none 0 0):=by
     intro j hj
     have:=DZ (z:= #[Value.slice none 0 0]) (s:=1) (m:=n.toNat) (j:=j) (q:=0) rfl hj (by omega)
     simp only [Nat.mul_one,Nat.add_zero] at this
     simp only [Nat.mul_one,Nat.zero_add]
     rw [this];rfl
    obtain ⟨π',g1,g2⟩:=Ry (w1:=w.alloc (.cells (madeCells #[Value.slice none 0 0] (n.toNat*1)) te)) (gv:= λ_=>False) h SV SV te (e:=e) (rows:=List.replicate n.toNat []) (us:=List.replicate n.toNat (.slice none 0 0)) (Rs:=List.replicate n.toNat none) (g:=w.heap.size) (o:=0) (cap:=n.toNat)
     (λ_ hf=>hf.elim) (gM w _) ⟨.inl (Nat.le_refl _),by simp⟩ (heap_alloc_new w _) (by rw [size_madeCells];omega) (by unfold maxLen;omega) (by simp) (λj u hu=>by
      have hj:=(List.getElem?_eq_some_iff.1 hu).1
      simp only [List.length_replicate] at hj
      rw [cell j hj,List.eq_of_mem_replicate (List.mem_of_getElem? hu)])
     ⟨by simp,by simp,λi j q q' h1=>(by have:=List.eq_of_mem_replicate (List.mem_of_getElem? h1);cases this),λi x hx=>by
      have hj:=(List.getElem?_eq_some_iff.1 hx).1
      simp only [List.length_replicate] at hj
      rw [List.eq_of_mem_replicate (List.mem_of_getElem? hx)]
      exact ⟨.slice none 0 0,none,by rw [List.getElem?_replicate,if_pos hj],by rw [List.getElem?_replicate,if_pos hj],⟨rfl,rfl,rfl⟩,rfl⟩⟩
     (λi q h1=>by have:=List.eq_of_mem_replicate (List.mem_of_getElem? h1);cases this)
    exact ⟨_,_,π',hr,g1,g2 _ (by simp)⟩
   ·cases he
  ·cases he
theorem bA (hT:Bz P T) {st:St} {a:Act} (h:Aj X π st a w) (dst:Nat) (t:TypeId) (len:Nat) (parts:Array (Nat×Operand)) (av:AV) (st':St)
  (he:El T st dst t len parts=some (av,st')):
  ∃v' w' π',(Instr.buildSlice t len (parts.map λ(i,x)=>(i,a.eval x))).run P w= .ok v' w'/\Aj X π' st' a w'/\Am X w' π' st'.heap av v':=by
 unfold El at he
 split at he
 ·exact c9 hT h dst t len parts av st' he
 ·rename_i te e hg
  obtain ⟨eQ,Qk⟩:=fO hg
  split at he
  rotate_left
  ·cases he
  rename_i x WA
  split at he
  rotate_left
  ·cases he
  rename_i m off ln hx
  split at he
  rotate_left
  ·cases he
  rename_i fr tr e' tid xs hm
  split at he
  rotate_left
  ·cases he
  rename_i hc
  obtain ⟨rfl,hc,rfl,rfl⟩:=hc
  simp only [Bool.and_eq_true,Nat.blt_eq] at hc
  obtain ⟨hlen,SV,OW⟩:=hc
  have hlen:len=1:=Nat.eq_of_beq_eq_true hlen
  subst hlen
  simp only [Option.some.injEq,Prod.mk.injEq] at he
  obtain ⟨rfl,rfl⟩:=he
  have hu:=hT.elem t te eQ
  unfold St.at at hm
  have hrx:=Bn h.2 x
  rw [hx] at hrx
  obtain ⟨_,pw⟩:=Iz (X:=X) (w:=w) hrx hm
  obtain ⟨ax,nx,cx,QM⟩:=Tv pw
  have hp:parts= #[(0,x)]:=by apply Array.ext';simpa using WA
  subst hp
  obtain ⟨i,hi,Oj,lD,nu⟩:=(hT.ty te _ Qk).info
  have Ok:(Instr.buildSlice t 1 (#[(0,x)].map λ(i,x)=>(i,a.eval x))).run P w= .ok (.slice (some ⟨w.heap.size,0,none⟩) 1 1) (w.alloc (.cells #[a.eval x] te)):=by
   have gD:(Ty.slice e').size=1:=rfl
   have hz:(zeroValue te).run P w= .ok (.slice none 0 0) w:=by simp [zeroValue,typeInfo,hi,nu,Ar,Ty.Ab,Aq]
   have OW:(#[(0,x)].map λ(i,x)=>(i,a.eval x))= #[(0, .slice ax nx cx)]:=by simp [QM]
   rw [OW,QM]
   simp only [Instr.buildSlice,Sem.run_bind,run_underlying hu,Result.andThen_ok,(hT.ty te _ Qk).size,gD]
   simp [Value.cells,Instr.fill,newRow,hz]
   congr 2
   apply Array.ext
   ·simp
   ·intro i h1 h2
    have h0:i=0:=by simpa using h2
    subst h0
    simp
  have yH:=(h.1.heap m).Lc hm
  simp only [Au,Fl] at yH
  have hfa:Mh w (Bd X.w0.heap.size X.Sc π false) (π m) e' xs:=by
   cases hR:π m with
   |none=>rw [hR] at yH;exact yH
   |some q=>
    rw [hR] at yH
    obtain ⟨⟨f0,f0',_⟩,cu,PB,f2,f3,f4,f5,f6,_⟩:=yH
    exact ⟨⟨f0,f0'⟩,cu,PB,f2,f3,f4,f5,λp y hy=>by
     obtain ⟨es,g1,g2,g3⟩:=f6 p y hy
     exact ⟨es,g1,g2,Cells.Ci (Nat.le_refl _) (λ_ _ _=>rfl) (λb _ hA=>hA.imp id (Or.imp id λ⟨h1,_⟩=>by cases h1)) e' es y g3⟩⟩
  obtain ⟨π',g1,g2⟩:=Ry (w1:=w.alloc (.cells #[a.eval x] te)) (gv:= λ_=>False) h SV OW te (e:=e') (rows:= [xs]) (us:= [a.eval x]) (Rs:= [π m]) (g:=w.heap.size) (o:=0) (cap:=1)
   (λ_ hf=>hf.elim) (gM w _) ⟨.inl (Nat.le_refl _),by simp⟩ (heap_alloc_new w _) rfl (by unfold maxLen;omega) (by simp) (λj u hu=>by
    rcases j with _|j
    ·simpa using hu
    ·simp at hu)
   ⟨rfl,rfl,λi j q q' h1 h2 _=>by
    rcases i with _|i
    ·rcases j with _|j
     ·rfl
     ·simp at h2
    ·simp at h1,λi y hy=>by
    rcases i with _|i
    ·simp only [List.getElem?_cons_zero,Option.some.injEq] at hy
     subst hy
     exact ⟨_,_,rfl,rfl,pw,hfa⟩
    ·simp at hy⟩
   (λi q h1=>by
    rcases i with _|i
    ·simp only [List.getElem?_cons_zero,Option.some.injEq] at h1
     have hf:=h.1.Ba h1
     have:=(h.1.place m q _ h1 (h.1.sub m q _ h1 hf)).2
     exact ⟨by omega,λh=>h,m,q, .inr rfl,h1,hf⟩
    ·simp at h1)
  exact ⟨_,_,π',Ok,g1,g2 1 rfl⟩
theorem gU (hT:Bz P T) {st:St} {a:Act} (h:Aj X π st a w) (dst:Nat) (t ty:TypeId) (x y:Operand) (av:AV) (st':St) (he:Lf T st dst t x y=some (av,st')):
  ∃v' w' π',(Builtin.append_ #[t,t] ty #[a.eval x,a.eval y]).run P w= .ok v' w'/\Aj X π' st' a w'/\Am X w' π' st'.heap av v':=by
 unfold Lf at he
 split at he
 ·exact gT hT h dst t ty x y av st' he
 ·rename_i te e hg
  obtain ⟨eQ,Qk⟩:=fO hg
  split at he
  rotate_left
  ·cases he
  rename_i l off len m MB nL hx hy
  split at he
  rotate_left
  ·cases he
  rename_i e1 te1 A kp1 e2 qE B kp2 hl hm
  split at he
  rotate_left
  ·cases he
  rename_i hc
  obtain ⟨⟨rfl,rfl⟩,hc,⟨rfl,rfl⟩,⟨rfl,rfl⟩,hB,jD⟩:=hc
  simp only [Bool.and_eq_true,Nat.blt_eq,decide_eq_true_eq,Bool.not_eq_true'] at hc
  obtain ⟨⟨rfl,rfl⟩,nz,OW,ej⟩:=hc
  have ej:m≠l:= λe=>by rw [e,Nat.beq_refl] at ej;cases ej
  simp only [Option.some.injEq,Prod.mk.injEq] at he
  obtain ⟨rfl,rfl⟩:=he
  have hu:=hT.elem t qE eQ
  obtain ⟨i,hi,Oj,lD,nu⟩:=(hT.ty qE _ Qk).info
  have Oj:i.size=1:=Oj
  unfold St.at at hl hm
  have hrx:=Bn h.2 x
  have hry:=Bn h.2 y
  rw [hx] at hrx;rw [hy] at hry
  obtain ⟨b1,s1,n1,q1,q2,_,hox⟩:=hrx
  rw [hl] at q1;cases q1
  simp only [OB.row,Option.some.injEq,Prod.mk.injEq] at q2
  obtain ⟨rfl,rfl⟩:=q2
  obtain ⟨b2,s2,n2,q1,q2,_,hoy⟩:=hry
  rw [hm] at q1;cases q1
  simp only [OB.row,Option.some.injEq,Prod.mk.injEq] at q2
  obtain ⟨rfl,rfl⟩:=q2
  have hA:=((h.1.heap l).Lc hl).1
  have ZB:=((h.1.heap m).Lc hm).1
  cases KK:π m with
  |none=>
   rw [KK] at ZB
   have ZB:B= []:=ZB
   subst ZB;simp at hB
  |some rB=>
  rw [KK] at ZB hoy
  obtain ⟨fB,Ajc,tiB,uB,RB,w1B,w2B,w3B,w4B,w5B,w6B,ZT,LB⟩:=rm ZB
  obtain ⟨adB,hvy,hcB,haB⟩:=hoy
  have haB:=haB (by omega)
  subst haB
  have hlB:=LB.1
  have XE:uB.length=B.length*i.size:=by rw [Oj,Nat.mul_one];exact hlB
  have XF: ∀j u,uB[j]?=some u->w.cell? ((⟨rB.g,(rB.o+0)*1,none⟩:Addr).add j)=some u:= λj u hu=>by
   rw [Addr.add_lit,cellOf w1B,Nat.mul_one,Nat.add_zero];exact w5B j u hu
  have nm:(A.length+B.length)*i.bytes<=140737488355328:=by
   have:(A.length+B.length)*i.bytes<=4294967296*256:=Nat.mul_le_mul jD lD
   omega
  have cr:A.length+B.length<=maxLen:=by unfold Bj at jD;simp only [maxLen];omega
  have hzs:(Ar (Ty.slice e2) (Aq (Ty.slice e2))).cells.size=1:=by simp [Ar,Ty.Ab,Aq,Value.cells]
  have Oz: ∀(k:Nat) (q:Real) (Rs:List (Option Real)),π k=some q->(∀(i:Nat) (p:Real),Rs[i]?=some (some p)->q.Ba p.g/\p.g≠q.g)-> ∀(i:Nat) (p:Real),Rs[i]?=some (some p)->p.g<w.heap.size:= λk q Rs h1 h2 i p h3=>
   (h.1.place k q _ h1 (h.1.sub k q _ h1 (h2 i p h3).1)).2
  cases dK:π l with
  |none=>
   rw [dK] at hA hox
   have hA:A= []:=hA
   subst hA
   obtain ⟨QM,_,_⟩:=hox
   rw [QM,hvy]
   simp only [List.length_nil,Nat.zero_add,List.nil_append] at jD nm cr⊢
   have hr:=run_append_nil (P:=P) w t ty qE i _ hu hi nu ⟨rB.g,(rB.o+0)*1,none⟩ B.length (rB.cap-0) uB XE XF hB (by simp only [maxLen] at cr;omega) (by omega)
   have jg:=grownCap_ge w B.length 0 qE
   have PZ:=grownCap_le_maxLen w B.length 0 qE (by omega)
   obtain ⟨π',g1,g2⟩:=Ry (w1:=w.drew.alloc (.cells (uB.toArray++Builtin.zeroCells (Ar (Ty.slice e2) (Aq (Ty.slice e2))).cells (grownCap w B.length 0 qE-B.length)) qE)) (gv:= λ_=>False) h nz OW qE (e:=e2) (rows:=B) (us:=uB) (Rs:=RB) (g:=w.heap.size) (o:=0) (cap:=grownCap w B.length 0 qE)
    (λ_ hf=>hf.elim) (kF w _) ⟨.inl (Nat.le_refl _),by simp⟩ (heap_alloc_new w.drew _) (by rw [Array.size_append,List.size_toArray,Ng,hzs];omega) PZ jg (λj u hu=>by
     have hj:=(List.getElem?_eq_some_iff.1 hu).1
     rw [Nat.zero_add,Array.getElem?_append_left (by simpa using hj)];simpa using hu)
    LB (λi q h1=>⟨by have:=Oz m rB RB KK ZT i q h1;omega,λh=>h,m,rB, .inr rfl,KK,(ZT i q h1).1⟩)
   exact ⟨_,_,π',hr,g1,g2 _ rfl⟩
  |some rA=>
   rw [dK] at hA hox
   obtain ⟨fA,EX,tiA,uA,RA,w1A,w2A,w3A,w4A,w5A,w6A,w7A,LA⟩:=rm hA
   obtain ⟨adA,QM,hcA,haA⟩:=hox
   have hlA:=LA.1
   rw [QM,hvy]
   have apart: ∀(i j:Nat) (q q':Real),RA[i]?=some (some q)->RB[j]?=some (some q')->q.g≠q'.g:= λi j q q' h1 h2 e=>by
    have:=h.1.apart dK KK (w7A i q h1).1 (e▸(ZT j q' h2).1)
    exact ej this.symm
   have LAB:=my.append LA LB apart
   have Ex: ∀(i:Nat) (q:Real),RB[i]?=some (some q)->q.g≠rA.g:= λi q h1 e=>ej (h.1.apart KK dK (ZT i q h1).1 (e▸fA))
   have SN: ∀(i:Nat) (q:Real),(RA++RB)[i]?=some (some q)->q.g≠rA.g/\q.g<w.heap.size/\ ∃k p,(k=l\/k=m)/\π k=some p/\p.Ba q.g:= λi q h1=>by
    by_cases hi:i<RA.length
    ·rw [List.getElem?_append_left hi] at h1
     exact ⟨(w7A i q h1).2,Oz l rA RA dK w7A i q h1,l,rA, .inl rfl,dK,(w7A i q h1).1⟩
    ·rw [List.getElem?_append_right (by omega)] at h1
     exact ⟨Ex _ q h1,Oz m rB RB KK ZT _ q h1,m,rB, .inr rfl,KK,(ZT _ q h1).1⟩
   by_cases wH:A.length+B.length<=rA.cap-0
   ·have haA:=haA (by omega)
    subst haA
    have Qi:(rA.o+0)*1+A.length*i.size+uB.length<=EX.size:=by rw [Oj];omega
    have Sb:(rA.o+0)*1+A.length*i.size+uB.length<=EX.toList.length:=by simpa using Qi
    have hr:=Th (P:=P) (w:=w) (ty:=ty) hu hi rA.g ((rA.o+0)*1) A.length (rA.cap-0) EX tiA w1A ⟨rB.g,(rB.o+0)*1,none⟩ B.length (rB.cap-0) uB XE XF w6B wH Qi
    have nq:=Ih w rA.g (Bo EX.toList ((rA.o+0)*1+A.length*i.size) uB).toArray
    obtain ⟨π',g1,g2⟩:=Ry (w1:=w.setRow rA.g (Bo EX.toList ((rA.o+0)*1+A.length*i.size) uB).toArray) (gv:= λb=>b=rA.g) h nz OW qE (e:=e2) (rows:=A++B) (us:=uA++uB) (Rs:=RA++RB) (g:=rA.g) (o:=rA.o) (cap:=rA.cap)
     (λb hb=>⟨l,rA, .inl rfl,dK,hb▸fA⟩) ⟨nq.os,nq.tape,nq.output,nq.size,λc _ hc=>setRow_other w rA.g c _ hc⟩ ⟨.inr ⟨l,rA, .inl rfl,dK,fA⟩,Nat.lt_of_lt_of_le (Cw w1A) nq.size⟩
     (setRow_heap w rA.g EX _ tiA _ w1A) (by rw [List.size_toArray,Ej _ _ _ Sb,Array.length_toList];exact w2A) w3A (by simp;omega) (λj u hu=>by
      rw [List.getElem?_toArray,Ea _ _ _ _ Sb,Oj]
      by_cases hj:j<uA.length
      ·rw [List.getElem?_append_left hj] at hu
       rw [if_pos (by omega),Array.getElem?_toList]
       exact w5A j u hu
      ·rw [List.getElem?_append_right (by omega)] at hu
       have:=(List.getElem?_eq_some_iff.1 hu).1
       rw [if_neg (by omega),if_pos (by omega)]
       rw [show rA.o+j-((rA.o+0)*1+A.length*1)=j-uA.length by omega]
       exact hu)
     LAB (λi q h1=>⟨(SN i q h1).1,(SN i q h1).1,(SN i q h1).2.2⟩)
    have:=g2 (A.length+B.length) (by simp)
    have e0:(rA.o+0)*1=rA.o:=by omega
    simp only [e0,Nat.sub_zero] at hr g1 this⊢
    exact ⟨_,_,π',hr,g1,this⟩
   ·have hold: ∀j u,uA[j]?=some u->w.cell? (adA.add j)=some u:=by
     intro j u hu
     have hj:=(List.getElem?_eq_some_iff.1 hu).1
     rw [haA (by omega),Addr.add_lit,cellOf w1A,Nat.mul_one,Nat.add_zero];exact w5A j u hu
    have hr:=run_append_grow (P:=P) w t ty qE i _ hu hi nu adA A.length (rA.cap-0) uA (by rw [Oj,Nat.mul_one];exact hlA) hold ⟨rB.g,(rB.o+0)*1,none⟩ B.length (rB.cap-0) uB XE XF (by omega) (by simp only [maxLen] at cr;omega) (growslice_fits (by omega) nm)
    have jg:=grownCap_ge w (A.length+B.length) (rA.cap-0) qE
    have PZ:=grownCap_le_maxLen w (A.length+B.length) (rA.cap-0) qE cr
    obtain ⟨π',g1,g2⟩:=Ry (w1:=w.drew.alloc (.cells (uA.toArray++uB.toArray++Builtin.zeroCells (Ar (Ty.slice e2) (Aq (Ty.slice e2))).cells (grownCap w (A.length+B.length) (rA.cap-0) qE-(A.length+B.length))) qE)) (gv:= λ_=>False) h nz OW qE (e:=e2) (rows:=A++B) (us:=uA++uB) (Rs:=RA++RB) (g:=w.heap.size) (o:=0) (cap:=grownCap w (A.length+B.length) (rA.cap-0) qE)
     (λ_ hf=>hf.elim) (kF w _) ⟨.inl (Nat.le_refl _),by simp⟩ (heap_alloc_new w.drew _) (by rw [Array.size_append,Array.size_append,List.size_toArray,List.size_toArray,Ng,hzs];omega) PZ (by simpa using jg) (λj u hu=>by
      have hj:=(List.getElem?_eq_some_iff.1 hu).1
      rw [Nat.zero_add,Array.getElem?_append_left (by simpa using hj)];simpa using hu)
     LAB (λi q h1=>⟨by have:=(SN i q h1).2.1;omega,λh=>h,(SN i q h1).2.2⟩)
    exact ⟨_,_,π',hr,g1,g2 _ (by simp)⟩
theorem fv: ∀τ:Ty,Cu X w π H (zeroCells τ) (Aq τ):=by
 have one: ∀(c:AC) (v:Value),v.oneCell'=true->Dq X w π H c v->Cu X w π H [c] [v]:= λc v h1 h2=>⟨rfl,λi c' hc=>by
  rcases i with _|i
  ·simp at hc;subst hc;exact ⟨v,rfl,h1,h2⟩
  ·simp at hc⟩
 intro τ
 induction τ with
 |unit=>exact ⟨rfl,λi c hc=>by simp [zeroCells] at hc⟩
 |pair a r gE dL=>
  refine ⟨by simp [zeroCells,Aq,gE.1,dL.1],λi c hc=>?_⟩
  simp only [zeroCells] at hc
  simp only [Aq]
  by_cases hi:i<(zeroCells a).length
  ·rw [List.getElem?_append_left hi] at hc
   obtain ⟨u,hu,h⟩:=gE.2 i c hc
   exact ⟨u,by rw [List.getElem?_append_left (by rw [gE.1];exact hi)];exact hu,h⟩
  ·rw [List.getElem?_append_right (by omega)] at hc
   obtain ⟨u,hu,h⟩:=dL.2 _ c hc
   exact ⟨u,by rw [List.getElem?_append_right (by rw [gE.1];omega),gE.1];exact hu,h⟩
 |int k=>exact one (.data true _ _) _ rfl (Ir (H:=H) k 0 true)
 |bool=>exact one (.data true _ _) _ rfl (Hv (H:=H) false true)
 |str=>exact one (.data true _ _) _ rfl (jN (H:=H) ByteArray.empty true)
 |slice e=>exact one _ _ rfl rfl
 |oslice e=>exact one _ _ rfl rfl
 |ptr e=>exact one _ _ rfl rfl
 |optr e=>exact one _ _ rfl rfl
 |smap v=>exact one (.data true _ _) _ rfl ⟨[.map none], .inl ⟨rfl,rfl⟩,by simp [Ar,Ty.Ab]⟩
 |clo f c=>exact one .undef .nilFunc rfl trivial
theorem Yb (hT:Bz P T) {st:St} {a:Act} (h:Aj X π st a w) (t:TypeId) (Gx:Array (Nat×Nat))
  (dK: ∀f o u ρ,T.off t f=some (o,u)->T.ty u=some ρ->Gx[f]?=some (o,ρ.size)): ∀(parts:List (Nat×Operand)) (cs c7:List AC) (us:List Value),Cu X w π st.heap cs us->
  Hi T st t parts cs=some c7-> ∃Pp:List Value,Instr.fill (λi=>Gx[i]?) us.toArray (parts.map λp=>(p.1,a.eval p.2))=some Pp.toArray/\Cu X w π st.heap c7 Pp
 | [],cs,c7,us,hr,he=>by
  simp only [Hi,Option.some.injEq] at he;subst he
  exact ⟨us,rfl,hr⟩
 |(f,x)::r,cs,c7,us,hr,he=>by
  simp only [Hi] at he
  split at he
  ·rename_i o u ho
   split at he
   ·rename_i ρ hρ
    split at he
    ·rename_i c hc
     split at he
     ·rename_i hle
      obtain ⟨vs,hv,hl,TM⟩:=bS (Bn h.2 x) hc
      have e1:=hr.1
      have e2:=TM.1
      obtain ⟨Pp,g1,g2⟩:=Yb hT h t Gx dK r _ c7 _ (oW hr TM o hle) he
      refine ⟨Pp,?_,g2⟩
      simp only [List.map_cons]
      rw [rh _ us f (a.eval x) _ o ρ.size vs (dK f o u ρ ho hρ) hv hl (by omega)]
      exact g1
     ·cases he
    ·cases he
   ·cases he
  ·cases he
theorem ba (hT:Bz P T) {st:St} {a:Act} (h:Aj X π st a w) (t:TypeId) (parts:Array (Nat×Operand)) (av:AV) (he:Qd T st t parts=some av):
  ∃v',(Instr.build t (parts.map λ(i,x)=>(i,a.eval x))).run P w= .ok v' w/\Am X w π st.heap av v':=by
 unfold Qd at he
 split at he
 ·cases he
 ·rename_i τ Qk
  split at he
  ·rename_i hs
   cases hb:Hi T st t parts.toList (zeroCells τ) with
   |none=>rw [hb] at he;cases he
   |some c7=>
    rw [hb] at he
    simp only [Option.map_some,Option.some.injEq] at he;subst he
    obtain ⟨fs,Gx,h1,h2,h3⟩:=hT.fill t τ Qk hs
    obtain ⟨i,hi,Oj,lD,nu⟩:=(hT.ty t τ Qk).info
    obtain ⟨Pp,g1,g2⟩:=Yb hT h t Gx h3 parts.toList (zeroCells τ) c7 (Aq τ) (fv τ) hb
    refine ⟨.agg Pp.toArray,?_,Pp,rfl,g2⟩
    have hz:(zeroValue t).run P w= .ok (Ar τ (Aq τ)) w:=by simp [zeroValue,typeInfo,hi,nu]
    have KS:(Ar τ (Aq τ)).cells=(Aq τ).toArray:=by simp [Ar,hs,Value.cells]
    have SI:=h2 w
    unfold placesOf at SI
    have e1:(parts.map λ(i,x)=>(i,a.eval x)).toList=parts.toList.map λp=>(p.1,a.eval p.2):=by simp
    simp only [Instr.build,Sem.run_bind,hz,Result.andThen_ok,run_underlying h1,SI,KS,e1,g1,Sem.run_pure]
  ·cases he
theorem ow {st:St} {v:AV} (h:v.settled=true):settle st v=some (v,st):=by
 cases v with
 | «at»a=>cases a<;>simp [AV.settled,AC.settled] at h<;>simp [settle,AC.settled]
 |agg cs=>
  have hs:cs.all (·.settled)=true:=h
  have:Dl cs.length st cs=some (cs,st):=by
   cases hn:cs.length with
   |zero=>simp [Dl,hs]
   |succ n=>
    have hf:cs.find? (λc=>!c.settled)=none:=List.find?_eq_none.2 λc hc=>by simpa using List.all_eq_true.1 hs c hc
    simp [Dl,hf]
  simp [settle,this]
 |Uo fr τ x=>rfl
 |Ht l=>simp [AV.settled] at h
theorem iE {e:Ty} {st:St} : ∀(parts:List (Nat×Operand)) (i:Nat) (fr:Bool) (ys:List e.den),au e i parts st=some (fr,ys)-> ∃tr,Gl e i parts st=some (fr,tr,ys,st)
 | [],i,fr,ys,h=>by
  simp only [au,Option.some.injEq,Prod.mk.injEq] at h
  obtain ⟨rfl,rfl⟩:=h
  exact ⟨true,rfl⟩
 |(j,x)::r,i,fr,ys,h=>by
  simp only [au] at h
  split at h
  ·rename_i hc
   split at h
   ·rename_i f1 y f2 zs h1 h2
    simp only [Option.some.injEq,Prod.mk.injEq] at h
    obtain ⟨rfl,rfl⟩:=h
    obtain ⟨tr,h3⟩:=iE r (i+1) f2 zs h2
    refine ⟨Ms st (st.ev x)&&e.tree&&tr,?_⟩
    simp only [Gl]
    rw [if_pos hc.1,ow hc.2]
    simp only [h1,h3]
   ·cases h
  ·cases h
theorem js (hT:Bz P T) {st:St} {a:Act} (h:Aj X π st a w) (t:TypeId) (len:Nat) (parts:Array (Nat×Operand)) (av:AV) (he:Uv T st t len parts=some av):
  ∃v' w' π',(Instr.buildSlice t len (parts.map λ(i,x)=>(i,a.eval x))).run P w= .ok v' w'/\Aj X π' st a w'/\Am X w' π' st.heap av v':=by
 unfold Uv at he
 split at he
 ·cases he
 ·rename_i te eQ
  split at he
  ·cases he
  ·rename_i e Qk
   split at he
   ·rename_i Ey
    obtain ⟨dK,hlen⟩:=Ey
    cases hp:au e 0 parts.toList st with
    |none=>rw [hp] at he;cases he
    |some p=>
     obtain ⟨fr,ys⟩:=p
     rw [hp] at he
     simp only [Option.map_some,Option.some.injEq] at he
     subst he
     obtain ⟨tr,hb⟩:=iE _ _ _ _ hp
     obtain ⟨i,hi,Oj,lD,nu⟩:=(hT.ty te e Qk).info
     have hu:=hT.elem t te eQ
     have FH:parts.toList.length=len:=by simpa using dK
     have hz: ∃z:Array Value,(len*e.size=0/\z= #[])\/(¬len*e.size=0/\(zeroValue te).run P w= .ok (Ar e (Aq e)) w/\z=(Ar e (Aq e)).cells):=by
      by_cases h0:len*e.size=0
      ·exact ⟨#[], .inl ⟨h0,rfl⟩⟩
      ·exact ⟨_, .inr ⟨h0,by simp [zeroValue,typeInfo,hi,nu],rfl⟩⟩
     obtain ⟨z,hz⟩:=hz
     obtain ⟨Vy,cl,g1,g2,g3,g4,g5,g6⟩:=Pz e parts.toList 0 st π fr tr ys st ((Array.range (len*e.size)).map (z[· %z.size]!)).toList h hb (by simp [FH])
     have Ly:cl.length=len*e.size:=by rw [g2.1,g3,FH]
     have KP:(Bo ((Array.range (len*e.size)).map (z[· %z.size]!)).toList (0*e.size) cl)=cl:=by
      simp [Bo,Ly]
     rw [KP] at g5
     have Ok:(Instr.buildSlice t len (parts.map λ(i,x)=>(i,a.eval x))).run P w= .ok (.slice (some ⟨w.heap.size,0,none⟩) len len) (w.alloc (.cells cl.toArray te)):=by
      have h24: ¬(len*e.size>2^24):=by
       have:len*e.size<=64*64:=Nat.mul_le_mul hlen.1 hlen.2
       omega
      simp only [Instr.buildSlice,Sem.run_bind,run_underlying hu,Result.andThen_ok,(hT.ty te e Qk).size,if_neg h24]
      have e1:(parts.map λ(i,x)=>(i,a.eval x)).toList=parts.toList.map λp=>(p.1,a.eval p.2):=by simp
      simp only [e1]
      have e2:(((Array.range (len*e.size)).map (z[· %z.size]!)).toList.toArray)=(Array.range (len*e.size)).map (z[· %z.size]!):=Array.toArray_toList
      rw [e2] at g5
      rcases hz with ⟨h0,rfl⟩|⟨h0,hz,rfl⟩
      ·rw [if_pos h0]
       simp only [Sem.run_bind,Sem.run_pure,Result.andThen_ok,g5,newRow]
       simp
      ·rw [if_neg h0]
       simp only [Sem.run_bind,Sem.run_pure,Result.andThen_ok,hz,g5,newRow]
       simp
     have PX:(w.alloc (.cells cl.toArray te)).heap[w.heap.size]?=some (.cells cl.toArray te (0,0)):=heap_alloc_new w _
     have hB:Below w.heap.size w (w.alloc (.cells cl.toArray te)):=(Below.refl _ _).alloc (Nat.le_refl _) _
     have Fg:=Cw PX
     refine ⟨_,_,Vy,Ok,g1.quiet hB,⟨[_],?_,rfl⟩⟩
     refine ⟨some ⟨w.heap.size,0,none⟩,len,len,rfl,by rw [g3,FH],Nat.le_refl _, .inr ⟨w.heap.size,0,rfl,Fg,λhA=>?_,λk x hx=>?_⟩⟩
     ·rcases hA with hA|hA|⟨_,hA⟩
      ·exact absurd (g1.1.own hA).1 (Nat.lt_irrefl _)
      ·exact absurd (Nat.lt_of_lt_of_le (g1.1.sc _ hA).1 g1.1.below.size) (Nat.lt_irrefl _)
      ·exact absurd (Nat.lt_of_lt_of_le hA g1.1.below.size) (Nat.lt_irrefl _)
     ·obtain ⟨es,k1,k2,k3⟩:=g2.2 k x hx
      refine ⟨es,k1,λj u hu=>?_,Cells.Ci hB.size (λb hb _=>hB.block b hb) (λ_ _ h=>h) e es x k3⟩
      rw [cellOf PX,Nat.zero_add]
      simpa using k2 j u hu
   ·cases he
theorem w9 {Γ:Env} (hT:Bz P T) (Mg:Ia P Γ) {st:St} {a:Act} (h:Aj X π st a w) (o:Oper) (av:AV) (he:Rv T Γ st o=some av):
  bK P X st a w av ((execOp a.eval o).run P w):=by
 obtain ⟨dst,op,ty,pos,af,gd⟩:=o
 have val: ∀(s:Sem Value) (v:Value) (w':World) (π':Pi),s.run P w= .ok v w'->Aj X π' st a w'->Am X w' π' st.heap av v->(execOp a.eval ⟨dst,op,ty,pos,af,gd⟩=do pure (.value (<-s)))->
   bK P X st a w av ((execOp a.eval ⟨dst,op,ty,pos,af,gd⟩).run P w):=by
  intro s v w' π' h1 h2 h3 h4
  rw [h4,Sem.run_bind,h1]
  exact ⟨π',h2,h3⟩
 have quiet:Cg T Γ st ⟨dst,op,ty,pos,af,gd⟩=some av->bK P X st a w av ((execOp a.eval ⟨dst,op,ty,pos,af,gd⟩).run P w):=by
  intro hq
  have:=kI hT Mg h _ av hq
  generalize (execOp a.eval ⟨dst,op,ty,pos,af,gd⟩).run P w=r at*
  cases r with
  |halt x w'=>exact this
  |ok n w'=>
   cases n<;>simp only [CN] at this<;>simp only [bK]
   ·obtain ⟨rfl,hr⟩:=this
    exact ⟨π,h,hr⟩
   ·obtain ⟨rfl,hc⟩:=this
    exact ⟨rfl,hc.mono λe ph ⟨v,hv,hb,hr⟩=>⟨v,hv,π,h.quiet hb,hr⟩⟩
 unfold Rv at he
 split at he
 ·rename_i t len parts mh
  dsimp only at mh;subst mh
  obtain ⟨v,w',π',h1,h2,h3⟩:=js hT h t len parts av he
  exact val _ v w' π' h1 h2 h3 rfl
 ·rename_i t parts mh
  dsimp only at mh;subst mh
  obtain ⟨v',h1,h2⟩:=ba hT h t parts av he
  exact val _ v' w π h1 h h2 rfl
 ·exact quiet he
theorem fb {a:Act} : ∀(l:List Operand) {π:Pi} {st st1:St},Aj X π st a w->Ji l st=some st1-> ∃π',Aj X π' st1 a w
 | [],π,st,st1,h,he=>by
  simp only [Ji,Option.some.injEq] at he
  subst he
  exact ⟨π,h⟩
 |x::r,π,st,st1,h,he=>by
  simp only [Ji] at he
  cases hs:settle st (st.ev x) with
  |none=>rw [hs] at he;cases he
  |some p=>
   rw [hs] at he
   obtain ⟨Vy,h1,_⟩:=Vr h (Bn h.2 x) hs
   exact fb r h1 he
theorem sU {Γ:Env} (hT:Bz P T) (Mg:Ia P Γ) {st:St} {a:Act} (h:Aj X π st a w) (o:Oper) (av:AV) (st':St) (he:evalOp T Γ st o=some (av,st')):
  bK P X st' a w av ((execOp a.eval o).run P w):=by
 have quiet: ∀ {π:Pi} {st:St},Aj X π st a w->(Cg T Γ st o).map (λv=>(v,st))=some (av,st')->bK P X st' a w av ((execOp a.eval o).run P w):=by
  intro π st h he
  cases hq:Cg T Γ st o with
  |none=>rw [hq] at he;cases he
  |some v=>
   rw [hq] at he
   simp only [Option.map_some,Option.some.injEq,Prod.mk.injEq] at he
   obtain ⟨rfl,rfl⟩:=he
   have:=kI hT Mg h o v hq
   generalize (execOp a.eval o).run P w=r at*
   cases r with
   |halt x w'=>exact this
   |ok n w'=>
    cases n<;>simp only [CN] at this<;>simp only [bK]
    ·obtain ⟨rfl,hr⟩:=this
     exact ⟨π,h,hr⟩
    ·obtain ⟨rfl,hc⟩:=this
     exact ⟨rfl,hc.mono λe ph ⟨v,hv,hb,hr⟩=>⟨v,hv,π,h.quiet hb,hr⟩⟩
 obtain ⟨dst,op,ty,pos,af,gd⟩:=o
 have val: ∀(s:Sem Value) (v:Value) (w':World) (π':Pi),s.run P w= .ok v w'->Aj X π' st' a w'->Am X w' π' st'.heap av v->(execOp a.eval ⟨dst,op,ty,pos,af,gd⟩=do pure (.value (<-s)))->
   bK P X st' a w av ((execOp a.eval ⟨dst,op,ty,pos,af,gd⟩).run P w):=by
  intro s v w' π' h1 h2 h3 h4
  rw [h4,Sem.run_bind,h1]
  exact ⟨π',h2,h3⟩
 unfold evalOp at he
 split at he
 all_goals (rename_i mh;dsimp only at mh;try subst mh)
 ·
  rename_i x
  split at he
  ·rename_i d te e hx hd ht
   split at he
   ·rename_i SV
    simp only [Option.some.injEq,Prod.mk.injEq] at he
    obtain ⟨rfl,rfl⟩:=he
    obtain ⟨k1,k2,_⟩:=nS h d SV (T.ng||e.flat) T.uP te e
    have WU:=Bn h.2 x
    rw [hx] at WU
    have hxv:a.eval x= .slice none 0 0:=WU
    show bK P X _ a w _ (.ok (.value (a.eval x)) w)
    rw [hxv]
    exact ⟨_,k1,k2⟩
   ·cases he
  ·simp only [Option.some.injEq,Prod.mk.injEq] at he
   obtain ⟨rfl,rfl⟩:=he
   exact ⟨π,h,Bn h.2 x⟩
 ·
  rename_i t
  split at he
  ·rename_i d τ hd ht
   obtain ⟨i,hi,Oj,lD,nu⟩:=(hT.ty t τ ht).info
   obtain ⟨π',k1,k2⟩:=l4 h d t τ (zeroCells τ) (Aq τ) (fv τ) av st' he
   have KS:(Ar τ (Aq τ)).cells=(Aq τ).toArray:=by
    cases τ<;>simp [Ar,Ty.Ab,Value.cells,Aq]
   refine val (Instr.alloc t true (.tuple #[])) _ _ π' ?_ k1 k2 rfl
   simp [Instr.alloc,zeroValue,typeInfo,hi,nu,newVar,newRow,KS]
  ·cases he
 ·
  rename_i t x
  split at he
  ·rename_i d τ hd ht
   split at he
   ·rename_i cs hc
    obtain ⟨us,hv,hl,hr⟩:=bS (Bn h.2 x) hc
    obtain ⟨π',k1,k2⟩:=l4 h d t τ cs us hr av st' he
    refine val (Instr.box t (a.eval x)) _ _ π' ?_ k1 k2 rfl
    simp [Instr.box,newVar,newRow,hv]
   ·cases he
  ·cases he
 ·
  rename_i t p x
  cases hs:Jw T st t (st.ev p) (st.ev x) with
  |none=>rw [hs] at he;cases he
  |some s=>
   rw [hs] at he
   simp only [Option.map_some,Option.some.injEq,Prod.mk.injEq] at he
   obtain ⟨rfl,rfl⟩:=he
   obtain ⟨w',π',h1,h2⟩:=jw hT h t _ _ _ _ (Bn h.2 p) (Bn h.2 x) s hs
   have:(execOp a.eval ⟨dst, .store t p x,ty,pos,af,gd⟩).run P w= .ok .skip w':=by
    show (do Instr.storeAt t (a.eval p) (a.eval x);pure Next.skip:Sem Next).run P w=_
    rw [Sem.run_bind,h1];rfl
   rw [this]
   exact ⟨π',h2,trivial⟩
 ·
  rename_i t l c
  split at he
  ·rename_i d hd
   obtain ⟨v,w',π',h1,h2,h3⟩:=lA hT h d t _ _ _ _ (Bn h.2 l) (Bn h.2 c) av st' he
   exact val _ v w' π' h1 h2 h3 rfl
  ·cases he
 ·
  rename_i t
  split at he
  ·rename_i d hd
   obtain ⟨v,w',π',h1,h2,h3⟩:=gX hT h d t av st' he
   exact val _ v w' π' h1 h2 h3 rfl
  ·cases he
 ·
  rename_i t m k x
  cases hs:En T st t (st.ev m) (st.ev k) (st.ev x) with
  |none=>rw [hs] at he;cases he
  |some s=>
   rw [hs] at he
   simp only [Option.map_some,Option.some.injEq,Prod.mk.injEq] at he
   obtain ⟨rfl,rfl⟩:=he
   obtain ⟨w',h1,h2⟩:=Yg hT h t _ _ _ _ _ _ (Bn h.2 m) (Bn h.2 k) (Bn h.2 x) s hs
   have:(execOp a.eval ⟨dst, .mapUpdate t m k x,ty,pos,af,gd⟩).run P w= .ok .skip w':=by
    show (do Instr.mapUpdate t (a.eval m) (a.eval k) (a.eval x);pure Next.skip:Sem Next).run P w=_
    rw [Sem.run_bind,h1];rfl
   rw [this]
   exact ⟨π,h2,trivial⟩
 ·
  rename_i t m k x
  cases hs:En T st t (st.ev m) (st.ev k) (st.ev x) with
  |none=>rw [hs] at he;cases he
  |some s=>
   rw [hs] at he
   simp only [Option.map_some,Option.some.injEq,Prod.mk.injEq] at he
   obtain ⟨rfl,rfl⟩:=he
   obtain ⟨w',h1,h2⟩:=Yg hT h t _ _ _ _ _ _ (Bn h.2 m) (Bn h.2 k) (Bn h.2 x) s hs
   have:(execOp a.eval ⟨dst, .insert t m k x,ty,pos,af,gd⟩).run P w= .ok .skip w':=by
    show (do Instr.mapUpdate t (a.eval m) (a.eval k) (a.eval x);pure Next.skip:Sem Next).run P w=_
    rw [Sem.run_bind,h1];rfl
   rw [this]
   exact ⟨π,h2,trivial⟩
 ·
  rename_i t len parts
  split at he
  ·rename_i d hd
   obtain ⟨v,w',π',h1,h2,h3⟩:=bA hT h d t len parts av st' he
   exact val _ v w' π' h1 h2 h3 rfl
  ·cases he
 ·
  rename_i t parts
  cases hb:Qd T st t parts with
  |none=>rw [hb] at he;cases he
  |some v=>
   rw [hb] at he
   simp only [Option.map_some,Option.some.injEq,Prod.mk.injEq] at he
   obtain ⟨rfl,rfl⟩:=he
   obtain ⟨v',h1,h2⟩:=ba hT h t parts v hb
   exact val _ v' w π h1 h h2 rfl
 ·
  rename_i args ts
  split at he
  ·rename_i d x y t t' hd Kw nB
   split at he
   ·rename_i On;subst On
    have e1:args= #[x,y]:=by apply Array.ext';simpa using Kw
    have e2:ts= #[t,t]:=by apply Array.ext';simpa using nB
    subst e1;subst e2
    obtain ⟨v,w',π',h1,h2,h3⟩:=gU hT h d t ty x y av st' he
    refine val (Builtin.append_ #[t,t] ty #[a.eval x,a.eval y]) v w' π' h1 h2 h3 ?_
    simp [execOp,resolve,invoke,builtin]
   ·cases he
  ·cases he
 ·
  rename_i args ts
  split at he
  ·rename_i x y t t' Kw nB
   have e1:args= #[x,y]:=by apply Array.ext';simpa using Kw
   have e2:ts= #[t,t']:=by apply Array.ext';simpa using nB
   subst e1;subst e2
   obtain ⟨v,w',h1,h2,h3⟩:=mV hT h t t' ty _ _ _ _ (Bn h.2 x) (Bn h.2 y) av st' he
   refine val (Builtin.copy_ #[t,t'] ty #[a.eval x,a.eval y]) v w' π h1 h2 h3 ?_
   simp [execOp,resolve,invoke,builtin]
  ·cases he
 ·
  rename_i args ts
  split at he
  ·rename_i x t Kw nB
   have e1:args= #[x]:=by apply Array.ext';simpa using Kw
   have e2:ts= #[t]:=by apply Array.ext';simpa using nB
   subst e1;subst e2
   cases hs:evalClear T st t (st.ev x) with
   |none=>rw [hs] at he;cases he
   |some s=>
    rw [hs] at he
    simp only [Option.map_some,Option.some.injEq,Prod.mk.injEq] at he
    obtain ⟨rfl,rfl⟩:=he
    obtain ⟨v,w',h1,h2⟩:=lz hT h t ty _ _ (Bn h.2 x) s hs
    refine val (Builtin.clear_ #[t] ty #[a.eval x]) v w' π h1 h2 trivial ?_
    simp [execOp,resolve,invoke,builtin]
  ·cases he
 ·
  rename_i f args ts
  split at he
  ·rename_i s Abn
   have hs:Bf P f s:=Mg f _ Abn
   have:=ly h hs dst (args.toList.map st.ev) (args.toList.map a.eval) (by simp) (λi c v=>cT h args.toList i c v) av st' he
   rw [cW a.eval f args ts dst ty pos af gd rfl hs.enter]
   refine ⟨rfl,?_⟩
   rwa [show (args.toList.map a.eval).toArray=args.map a.eval from by apply Array.ext';simp] at this
  ·rename_i s Abn
   split at he
   ·cases hs:Ji args.toList st with
    |none=>rw [hs] at he;cases he
    |some st1=>
     rw [hs] at he
     obtain ⟨Vy,h1⟩:=fb args.toList h hs
     exact quiet h1 he
   ·exact quiet h he
  ·exact quiet h he
 ·exact quiet h he
end
end Go.Proofs.YtfolipnappekaaaGreat
