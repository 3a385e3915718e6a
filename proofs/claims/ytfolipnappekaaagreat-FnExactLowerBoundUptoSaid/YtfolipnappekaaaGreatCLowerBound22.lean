/-
  Part 23 of the proof that the statement FnExactLowerBound holds.
-/
import Derived.Test.YtfolipnappekaaaGreatCLowerBound21
namespace Go.Proofs.YtfolipnappekaaaGreat
open Go.RowKit
section
variable {P:Program} {T:Tab} {X:Ctx} {w w':World} {π:Pi} {H:List (Nat×OB)}
theorem sJ {π':Pi} {st':St} {a:Act} (h:Aj X π' st' a w) (k:Gb π π' H st'.heap) {fr:Bool} (τ:Ty) (cs:List Value) (x:τ.den) (hc:Cells w (Bd X.w0.heap.size X.Sc π fr) τ cs x):
  Cells w (Bd X.w0.heap.size X.Sc π' fr) τ cs x:=
 Cells.Ci (Nat.le_refl _) (λ_ _ _=>rfl) (λb _ hA=>by
  rcases hA with ⟨l,r,hl,hg⟩|h2
  ·have hh:=h.1.heap l
   cases hb:Ad st'.heap l with
   |none=>have:=hh.emp hb;rw [this] at hl;cases hl
   |some b'=>have:=(k l b' hb).1;rw [this] at hl;exact .inl ⟨l,r,hl,hg⟩
  ·exact .inr h2) τ cs x hc
theorem bG.drop {F:List Nat} {l:Nat} (h:bG X w π F):bG X w (Pl π l none) F:=
 ⟨h.1,λb hb=>⟨(h.2 b hb).1,(h.2 b hb).2.1,λm r hm=>by
  by_cases e:m=l
  ·subst e;rw [Cy] at hm;cases hm
  ·rw [Cs π none e] at hm;exact (h.2 b hb).2.2 m r hm⟩⟩
theorem nL {st:St} {a:Act} (h:Aj X π st a w) (l:Nat) (hl:l<Ak) (f0 t0:Bool) (te:TypeId) (e:Ty):
  Aj X (Pl π l none) (st.new l (.arr f0 t0 e te [])) a w/\Am X w (Pl π l none) (st.new l (.arr f0 t0 e te [])).heap (.at (.own l 0 0)) (.slice none 0 0)/\
   ∀fr τ cs x,Cells w (Bd X.w0.heap.size X.Sc π fr) τ cs x->Cells w (Bd X.w0.heap.size X.Sc (Pl π l none) fr) τ cs x:=
 ⟨h.replace l hl none _ (Jx w _) (λr hr=>by cases hr) (λ_=>rfl),
  xc (St.Dk st l _) (Nat.le_refl _) (by rw [Cy];exact ⟨rfl,rfl,rfl⟩),
  fun fr τ cs x hc=>Cells.Ci (Nat.le_refl _) (λ_ _ _=>rfl) (λb _ hA=>by
  rcases hA with ⟨m,r,hm,hg⟩|h2
  ·by_cases e:m=l
   ·subst e;rw [Cy] at hm;cases hm
   ·rw [Cs π none e] at hm;exact .inl ⟨m,r,hm,hg⟩
  ·exact .inr h2) τ cs x hc⟩
theorem Qa (hT:Bz P T) {st:St} {a:Act} (h:Aj X π st a w) (dst:Nat) (t ty:TypeId) (x y:Operand) (av:AV) (st':St) (he:Io T st dst t x y=some (av,st')):
  ∃v' w' π',(Builtin.append_ #[t,t] ty #[a.eval x,a.eval y]).run P w= .ok v' w'/\Aj X π' st' a w'/\Am X w' π' st'.heap av v':=by
 unfold Io at he
 split at he
 ·cases he
 ·rename_i te eJ
  split at he
  ·rename_i e y' st1 Qi hs
   obtain ⟨Vw,h1,h2,h3,h4,h5⟩:=Vp h (Bn h.2 y) hs
   split at he
   ·cases he
   ·rename_i lZ ys hv
    dsimp only at he
    have DN: ∀tr2,tr2=(e.flat||(Mr st (st.ev y)&&e.tree))->tr2=true->e.flat=true\/ ∃F,Be w F (.slice e) [a.eval y] ys/\bG X w Vw F:=by
     intro tr2 e2 ic
     subst e2
     cases hef:e.flat with
     |true=>exact .inl rfl
     |false=>
     right
     simp only [hef,Bool.false_or,Bool.and_eq_true] at ic
     obtain ⟨F,us,f1,f2,f3,_⟩:=h5 ic.1 (.slice e) lZ ys ic.2 hv
     have KN:us= [a.eval y]:=by
      simp only [Be] at f1
      obtain ⟨a0,len,cap,rfl,_⟩:=f1
      rw [f2];simp [Ar,Ty.Ab]
     rw [KN] at f1
     exact ⟨F,f1,f3⟩
    have hyc:Cells w (Bd X.w0.heap.size X.Sc Vw lZ) (.slice e) [a.eval y] ys:=Bb.Lm rfl (Jl _ y' _ lZ ys h3 h2 hv)
    have WM:=Bn h1.2 x
    split at he
    ·rename_i hx
     rw [hx] at WM
     have hxv:a.eval x= .slice none 0 0:=WM
     split at he
     ·rename_i jw
      simp only [Option.some.injEq,Prod.mk.injEq] at he
      obtain ⟨rfl,rfl⟩:=he
      obtain ⟨k1,k2,k3⟩:=nL h1 dst jw.2 (T.mW||e.flat) T.uL te e
      have:=gF (ty:=ty) hT k1 eJ Qi jw.2 (fr3:=lZ||e.flat) (tr2:=e.flat||(Mr st (st.ev y)&&e.tree)) rfl (St.Dk st1 dst _) k2 (k3 _ _ _ _ hyc) (by rw [Nat.zero_add];exact jw.1) (λht=>by
       rcases DN _ rfl ht with h0|⟨F,f1,f2⟩
       ·exact .inl h0
       ·exact .inr ⟨F,f1,f2.drop⟩)
      rw [<-hxv] at this
      exact this
     ·cases he
    ·rename_i l off len hx
     rw [hx] at WM
     split at he
     ·rename_i fr tr e' tid xs hl
      split at he
      ·rename_i Ey
       obtain ⟨rfl,rfl⟩:=Ey
       split at he
       ·rename_i jw
        simp only [Option.some.injEq,Prod.mk.injEq] at he
        obtain ⟨rfl,rfl⟩:=he
        exact gF (ty:=ty) hT h1 eJ Qi jw.2 (fr3:=lZ||e'.flat) (tr2:=e'.flat||(Mr st (st.ev y)&&e'.tree)) rfl hl WM hyc jw.1 (DN _ rfl)
       ·cases he
      ·cases he
     ·cases he
    ·cases he
  ·cases he
theorem gP (hT:Bz P T) {st:St} {a:Act} (h:Aj X π st a w) (dst:Nat) (t ty:TypeId) (x y:Operand) (av:AV) (st':St) (he:Le T st dst t x y=some (av,st')):
  ∃v' w' π',(Builtin.append_ #[t,t] ty #[a.eval x,a.eval y]).run P w= .ok v' w'/\Aj X π' st' a w'/\Am X w' π' st'.heap av v':=by
 unfold Le at he
 split at he
 ·rename_i tx
  split at he
  ·rename_i l i c hg
   split at he
   ·rename_i e te rows kp tid hl _
    split at he
    ·rename_i hc
     simp only [Bool.and_eq_true,Nat.blt_eq,Bool.not_eq_true'] at hc
     have ec:dst≠l:= λe=>by rw [e,Nat.beq_refl] at hc;cases hc.2.2
     unfold St.at at hl
     have hv:Dq X w π st.heap (.sub l i c) (a.tmps.getD tx undef):=by
      have:=h.2.tmps tx
      rw [hg] at this
      exact this
     obtain ⟨Vw,h1,h2⟩:=z0 (tid:=tid) h hl ec hc.2.1 hc.1 hv
     have h3:=h1.put (some tx) (c:= .at (.own dst 0 (rows.getD i []).length)) h2
     have Ab6:a.put (some tx) (a.tmps.getD tx undef)=a:=by
      have:a.tmps.setIfInBounds tx (a.tmps.getD tx undef)=a.tmps:=by
       apply Array.ext_getElem?
       intro k
       rw [Array.getElem?_setIfInBounds]
       split
       ·rename_i e
        subst e
        split
        ·rename_i Fg
         rw [Array.getElem?_eq_getElem Fg];simp
        ·rename_i Fg
         rw [Array.getElem?_eq_none (by omega)]
       ·rfl
      simp only [Act.put,this]
     rw [Ab6] at h3
     exact Qa hT h3 dst t ty (.tmp tx) y av st' he
    ·cases he
   ·cases he
  ·exact Qa hT h dst t ty _ y av st' he
 ·exact Qa hT h dst t ty x y av st' he
theorem CF {S:Nat->Prop} {e:Ty} (h:gx e=true): ∃z,Aq e= [z]/\e.Ab=false/\e.size=1/\Cells w S e [z] e.zero/\z.oneCell'=true:=by
 cases e<;>simp [gx] at h
 ·exact ⟨_,rfl,rfl,rfl,rfl,rfl⟩
 ·exact ⟨_,rfl,rfl,rfl,rfl,rfl⟩
 ·exact ⟨_,rfl,rfl,rfl,rfl,rfl⟩
 ·exact ⟨_,rfl,rfl,rfl,⟨none,0,0,rfl,rfl,Nat.le_refl _, .inl rfl⟩,rfl⟩
 ·exact ⟨_,rfl,rfl,rfl, .inl ⟨rfl,0,rfl⟩,rfl⟩
theorem yx {e:Ty} {z:Value} (ht:e.tree=true) (h:gx e=true) (hz:Aq e= [z]):Be w [] e [z] e.zero:=by
 cases e<;>simp [gx] at h<;>simp only [Aq,List.cons.injEq,and_true] at hz<;>subst hz<;>try (simp [Ty.tree] at ht;done)
 ·exact ⟨rfl,rfl⟩
 ·exact ⟨rfl,rfl⟩
 ·exact ⟨rfl,rfl⟩
 ·exact ⟨none,0,0,rfl,rfl,Nat.le_refl _, .inl ⟨rfl,rfl,rfl,rfl⟩⟩
theorem OJ {S:Nat->Prop} : ∀(e:Ty),aQ e=true->(Aq e).length=e.size/\Cells w S e (Aq e) e.zero/\(e.tree=true->Be w [] e (Aq e) e.zero):=by
 intro e
 induction e with
 |unit=>intro _;exact ⟨rfl,rfl,λ_=>⟨rfl,rfl⟩⟩
 |pair a r gz dF=>
  intro h
  simp only [aQ,Bool.and_eq_true] at h
  obtain ⟨a1,a2,a3⟩:=gz h.1
  obtain ⟨r1,r2,r3⟩:=dF h.2
  exact ⟨by simp [Aq,Ty.size,a1,r1],⟨_,_,rfl,a2,r2⟩,λht=>by simp only [Ty.tree,Bool.and_eq_true] at ht;exact ⟨_,_,[],[],rfl,rfl,a3 ht.1,r3 ht.2⟩⟩
 |_=>
  intro h
  simp only [aQ] at h
  obtain ⟨z,z1,z2,z3,z4,_⟩:=CF (w:=w) (S:=S) h
  exact ⟨by rw [z1,z3];rfl,by rw [z1];exact z4,λht=>by rw [z1];exact yx ht h z1⟩
theorem DT {z:Array Value} {s m j q:Nat} (hz:z.size=s) (hj:j<m) (hq:q<s):(madeCells z (m*s))[j*s+q]?=z[q]?:=by
 have h1:j*s+q<m*s:=by
  have:=Nat.mul_le_mul_right s (show j+1<=m by omega)
  rw [Nat.succ_mul] at this
  omega
 have h2:(j*s+q)%z.size=q:=by rw [hz,Nat.mul_comm,Nat.mul_add_mod,Nat.mod_eq_of_lt hq]
 have h3:q<z.size:=by omega
 unfold madeCells
 simp [h1,h2,h3]
theorem mQ (hT:Bz P T) {st:St} {a:Act} (h:Aj X π st a w) (dst:Nat) (t:TypeId) (l c:AV) (vl vc:Value) (hl:Am X w π st.heap l vl) (hc:Am X w π st.heap c vc) (av:AV) (st':St)
  (he:Uu T st dst t l c=some (av,st')): ∃v' w' π',(Instr.makeSlice t vl vc).run P w= .ok v' w'/\Aj X π' st' a w'/\Am X w' π' st'.heap av v':=by
 unfold Uu at he
 split at he
 ·rename_i te RZ k1 n lZ k2 m eJ
  have:=Ke hl;subst this
  have:=Ke hc;subst this
  split at he
  ·rename_i e Qi
   split at he
   ·rename_i Ey
    obtain ⟨h0,hnm,hz,SN⟩:=Ey
    obtain ⟨h1,h2⟩:=Nb.1 h0
    subst hnm
    simp only [Option.some.injEq,Prod.mk.injEq] at he
    obtain ⟨rfl,rfl⟩:=he
    obtain ⟨i,hi,Oh,lx,nh⟩:=(hT.ty te e Qi).info
    obtain ⟨z1,z4,z5⟩:=OJ (w:=w) (S:=Bd X.w0.heap.size X.Sc π (T.mW||e.flat)) e hz
    have KP:(Ar e (Aq e)).cells=(Aq e).toArray:=Gg e _ _ z4
    have hu:=hT.elem t te eJ
    have hn:n.toNat<=4294967296:=by unfold Bj at h2;omega
    have hr:=run_make (P:=P) (w:=w) t te i _ hu hi nh k1 k2 n n h1 (Int.le_refl _) (by
     have:(i.bytes:Int)*n<=256*4294967296:=by
      obtain ⟨nn,rfl⟩:=Int.eq_ofNat_of_zero_le h1
      have h7:i.bytes*nn<=256*4294967296:=Nat.mul_le_mul lx (by simpa using hn)
      have h8:((i.bytes*nn:Nat):Int)<=256*4294967296:=by omega
      rwa [Int.natCast_mul] at h8
     omega) (by unfold Bj at h2;omega)
    rw [KP,Oh] at hr
    have Wm:((Aq e).toArray).size=e.size:=by simpa using z1
    have cell: ∀j,j<n.toNat-> ∀q u,(Aq e)[q]?=some u->(madeCells (Aq e).toArray (n.toNat*e.size)).toList[j*e.size+q]?=some u:=by
     intro j hj q u hu
     have hq:q<e.size:=by rw [<-z1];exact (List.getElem?_eq_some_iff.1 hu).1
     have:=DT Wm hj hq
     rw [Array.getElem?_toList,this]
     simpa using hu
    have:=al (w1:=w.alloc (.cells (madeCells (Aq e).toArray (n.toNat*e.size)) te)) h dst SN (T.mW||e.flat) (T.uL&&e.tree) e te (List.replicate n.toNat e.zero) (madeCells (Aq e).toArray (n.toNat*e.size)).toList (madeCells (Aq e).toArray (n.toNat*e.size)) n.toNat []
     (.inr rfl) (by rw [size_madeCells]) (by unfold maxLen;omega) (by simp)
     (λk u hu=>by
      rw [Array.getElem?_toList] at hu;exact hu) ⟨by simp [size_madeCells],λj x hx=>by
       have hj:=(List.getElem?_eq_some_iff.1 hx).1
       simp only [List.length_replicate] at hj
       refine ⟨Aq e,z1,λq u hu=>cell j hj q u hu,?_⟩
       rw [List.eq_of_mem_replicate (List.mem_of_getElem? hx)];exact z4⟩ (by simp) (λic=>⟨List.nodup_nil,List.replicate n.toNat [],by simp,by simp,λj x F hx hF=>by
      have hj:=(List.getElem?_eq_some_iff.1 hx).1
      simp only [List.length_replicate] at hj
      refine ⟨Aq e,z1,λq u hu=>cell j hj q u hu,?_⟩
      have e1:=List.eq_of_mem_replicate (List.mem_of_getElem? hx)
      have e2:=List.eq_of_mem_replicate (List.mem_of_getElem? hF)
      rw [e1,e2]
      exact z5 (by simp only [Bool.and_eq_true] at ic;exact ic.2)⟩)
    exact ⟨_,_,_,hr,this.1,this.2 _ (by simp)⟩
   ·cases he
  ·cases he
 ·cases he
theorem cc (off:Nat): ∀(us:List Value) (k:Nat) (cells:List Value),off+k+us.length<=cells.length->
  (us.zipIdx k).foldl (λcs p=>cs.setIfInBounds (off+p.2) p.1) cells.toArray=(Bo cells (off+k) us).toArray
 | [],k,cells,h=>by simp [Bo]
 |u::us,k,cells,h=>by
  simp only [List.zipIdx_cons,List.foldl_cons]
  rw [show cells.toArray.setIfInBounds (off+k) u=(cells.set (off+k) u).toArray by simp]
  rw [cc off us (k+1) (cells.set (off+k) u) (by simp at h⊢;omega)]
  congr 1
  apply List.ext_getElem?
  intro j
  have hl:off+k+(u::us).length<=cells.length:=h
  have pj:off+(k+1)+us.length<=(cells.set (off+k) u).length:=by simp at h⊢;omega
  rw [Ea _ _ _ _ hl,Ea _ _ _ _ pj]
  simp only [List.length_cons]
  by_cases h1:j<off+k
  ·rw [if_pos (by omega),if_pos h1,List.getElem?_set_ne (by omega)]
  ·rw [if_neg h1]
   by_cases h2:j=off+k
   ·subst h2
    rw [if_pos (by omega),if_pos (by omega),List.getElem?_set_self (by simp at h;omega)]
    simp
   ·rw [if_neg (by omega)]
    by_cases h3:j<off+k+(us.length+1)
    ·rw [if_pos (by omega),if_pos h3]
     rw [show j-(off+k)=(j-(off+(k+1)))+1 by omega,List.getElem?_cons_succ]
    ·rw [if_neg (by omega),if_neg h3,List.getElem?_set_ne (by omega)]
theorem r7 (place:Nat->Option (Nat×Nat)) (cells:List Value) (i:Nat) (v:Value) (rest:List (Nat×Value)) (off size:Nat) (us:List Value) (hp:place i=some (off,size)) (hv:v.cells=us.toArray)
  (hl:us.length=size) (hle:off+size<=cells.length):Instr.fill place cells.toArray ((i,v)::rest)=Instr.fill place (Bo cells off us).toArray rest:=by
 simp only [Instr.fill,hp,hv,List.size_toArray,hl]
 rw [if_neg (by simp;omega)]
 congr 1
 have:=cc off us 0 cells (by omega)
 simp only [Nat.add_zero] at this
 rw [<-this]
 simp
theorem Px (e:Ty) {a:Act} : ∀(parts:List (Nat×Operand)) (i:Nat) (st:St) (π:Pi) (fr tr:Bool) (ys:List e.den) (st':St) (cells:List Value),Aj X π st a w->Gl e i parts st=some (fr,tr,ys,st')->
  (i+parts.length)*e.size<=cells.length->
  ∃π' cl,Aj X π' st' a w/\Flat w (Bd X.w0.heap.size X.Sc π' fr) e cl ys/\ys.length=parts.length/\Gb π π' st.heap st'.heap/\
   Instr.fill (λi=>some (i*e.size,e.size)) cells.toArray (parts.map λp=>(p.1,a.eval p.2))=some (Bo cells (i*e.size) cl).toArray/\
   (tr=true-> ∃Fs,Md w e cl ys Fs/\bG X w π' (List.flatten Fs)/\ ∀b∈List.flatten Fs,∃l r,π l=some r/\r.cl b)
 | [],i,st,π,fr,tr,ys,st',cells,h,he,hle=>by
  simp only [Gl,Option.some.injEq,Prod.mk.injEq] at he
  obtain ⟨rfl,rfl,rfl,rfl⟩:=he
  exact ⟨π,[],h,Flat.nil,rfl,Gb.refl _ _,by simp [Instr.fill,Bo],λ_=>⟨[],⟨rfl,λi z F hz=>by simp at hz⟩,⟨List.nodup_nil,by simp⟩,by simp⟩⟩
 |(j,x)::r,i,st,π,fr,tr,ys,st',cells,h,he,hle=>by
  simp only [Gl] at he
  split at he
  ·rename_i jy;subst jy
   split at he
   ·rename_i v' st1 hs
    obtain ⟨Vw,h1,h2,h3,h4,h5⟩:=Vp h (Bn h.2 x) hs
    split at he
    ·rename_i RZ y hv
     split at he
     ·rename_i lZ tr2 zs st2 hr
      simp only [Option.some.injEq,Prod.mk.injEq] at he
      obtain ⟨rfl,rfl,rfl,rfl⟩:=he
      obtain ⟨es,bE,zc⟩:=Jl e v' _ RZ y h3 h2 hv
      have hY:=Cells.len e es y bE
      have Afx:i*e.size+e.size<=cells.length:=by
       have:(i+1)*e.size<=(i+((i,x)::r).length)*e.size:=Nat.mul_le_mul_right _ (by simp)
       rw [Nat.add_mul,Nat.one_mul] at this
       omega
      have DG:i*e.size+es.length<=cells.length:=by omega
      obtain ⟨IK,cl,g1,g2,g3,g4,g5,g6⟩:=Px e r (i+1) st1 Vw lZ tr2 zs st2 (Bo cells (i*e.size) es) h1 hr (by
       rw [Ej _ _ _ DG]
       rw [show i+1+r.length=i+((i,x)::r).length by simp;omega];exact hle)
      have f1:Flat w (Bd X.w0.heap.size X.Sc IK RZ) e es [y]:=⟨by simp [hY],λq z hz=>by
       rcases q with _|q
       ·simp at hz;subst hz
        exact ⟨es,hY,λj u hu=>by simpa using hu,sJ g1 g4 e es y bE⟩
       ·simp at hz⟩
      refine ⟨IK,es++cl,g1,?_,by simp [g3],h4.trans g4,?_,λht=>?_⟩
      ·have:=(f1.cells λes z hc=>hc.and_left (f2:=lZ)).append (g2.cells λes z hc=>hc.and_right (f1:=RZ))
       simpa using this
      ·simp only [List.map_cons]
       rw [r7 _ cells i (a.eval x) _ (i*e.size) e.size es rfl (by rw [zc];exact Gg e es y bE) hY Afx,g5]
       congr 2
       have Lx:cl.length=r.length*e.size:=by rw [g2.1,g3]
       have Qg:(i+1)*e.size+cl.length<=(Bo cells (i*e.size) es).length:=by
        rw [Ej _ _ _ DG,Lx,<-Nat.add_mul]
        rw [show i+1+r.length=i+((i,x)::r).length by simp;omega];exact hle
       have Aac:i*e.size+(es++cl).length<=cells.length:=by
        rw [Ej _ _ _ DG] at Qg
        rw [List.length_append,hY]
        rw [Nat.add_mul,Nat.one_mul] at Qg
        omega
       have e1:(i+1)*e.size=i*e.size+es.length:=by rw [Nat.add_mul,Nat.one_mul,hY]
       apply List.ext_getElem?
       intro k
       rw [Ea _ _ _ _ Qg,Ea _ _ _ _ Aac,Ea _ _ _ _ DG,e1,List.length_append]
       by_cases k1:k<i*e.size
       ·rw [if_pos (by omega),if_pos k1,if_pos k1]
       ·rw [if_neg k1,if_neg k1]
        by_cases k2:k<i*e.size+es.length
        ·rw [if_pos k2,if_pos k2,if_pos (by omega),List.getElem?_append_left (by omega)]
        ·rw [if_neg k2,if_neg k2]
         by_cases k3:k<i*e.size+es.length+cl.length
         ·rw [if_pos k3,if_pos (by omega),List.getElem?_append_right (by omega)]
          congr 1;omega
         ·rw [if_neg k3,if_neg (by omega)]
      ·simp only [Bool.and_eq_true] at ht
       obtain ⟨⟨ht1,TJ⟩,ht3⟩:=ht
       obtain ⟨F,us,t1,t2,t3,t7⟩:=h5 ht1 e RZ y TJ hv
       obtain ⟨Fs,t4,t5,t6⟩:=g6 ht3
       have KN:us=es:=by
        have c1:=Be.cells (S:= λ_=>False) F e us y t1 (λ_ _ h=>h)
        have a1:=Gg e us y c1
        have a2:=Gg e es y bE
        rw [<-t2,zc,a2] at a1
        simpa using a1.symm
       subst KN
       refine ⟨F::Fs,?_,?_,λb hb=>?_⟩
       ·have k1:Md w e us [y] [F]:=⟨rfl,λq z G hz hG=>by
         rcases q with _|q
         ·simp at hz hG;subst hz;subst hG
          exact ⟨us,hY,λj u hu=>by simpa using hu,t1⟩
         ·simp at hz⟩
        exact Md.append (by simp [hY]) k1 t4
       ·rw [List.flatten_cons]
        refine ⟨List.nodup_append.2 ⟨t3.1,t5.1,λb hb b' ph e=>?_⟩,λb hb=>?_⟩
        ·subst e
         obtain ⟨l,r,q1,q2⟩:=t6 b ph
         exact (t3.2 b hb).2.2 l r q1 q2
        ·rcases List.mem_append.1 hb with hb|hb
         ·have:=t3.2 b hb
          refine ⟨this.1,this.2.1,λl r q1 q2=>?_⟩
          cases hh:Ad st2.heap l with
          |none=>rw [(g1.1.heap l).emp hh] at q1;cases q1
          |some b'=>exact this.2.2 l r ((g4 l b' hh).1▸q1) q2
         ·exact t5.2 b hb
       ·rw [List.flatten_cons] at hb
        rcases List.mem_append.1 hb with hb|hb
        ·exact t7 b hb
        ·obtain ⟨l,r,q1,q2⟩:=t6 b hb
         cases hh:Ad st1.heap l with
         |none=>rw [(h1.1.heap l).emp hh] at q1;cases q1
         |some b'=>exact ⟨l,r,(h4 l b' hh).1▸q1,q2⟩
     ·cases he
    ·cases he
   ·cases he
  ·cases he
theorem c6 (hT:Bz P T) {st:St} {a:Act} (h:Aj X π st a w) (dst:Nat) (t:TypeId) (len:Nat) (parts:Array (Nat×Operand)) (av:AV) (st':St)
  (he:Hj T st dst t len parts=some (av,st')):
  ∃v' w' π',(Instr.buildSlice t len (parts.map λ(i,x)=>(i,a.eval x))).run P w= .ok v' w'/\Aj X π' st' a w'/\Am X w' π' st'.heap av v':=by
 unfold Hj at he
 split at he
 ·cases he
 ·rename_i te eJ
  split at he
  ·cases he
  ·rename_i e Qi
   split at he
   ·rename_i Ey
    obtain ⟨dE,hlen⟩:=Ey
    split at he
    ·rename_i fr tr ys st1 hb
     simp only [Option.some.injEq,Prod.mk.injEq] at he
     obtain ⟨rfl,rfl⟩:=he
     obtain ⟨i,hi,Oh,lx,nh⟩:=(hT.ty te e Qi).info
     have hu:=hT.elem t te eJ
     have FB:parts.toList.length=len:=by simpa using dE
     have hz: ∃z:Array Value,(len*e.size=0/\z= #[])\/(¬len*e.size=0/\(zeroValue te).run P w= .ok (Ar e (Aq e)) w/\z=(Ar e (Aq e)).cells):=by
      by_cases h0:len*e.size=0
      ·exact ⟨#[], .inl ⟨h0,rfl⟩⟩
      ·exact ⟨_, .inr ⟨h0,by simp [zeroValue,typeInfo,hi,nh],rfl⟩⟩
     obtain ⟨z,hz⟩:=hz
     obtain ⟨Vw,cl,g1,g2,g3,g4,g5,g6⟩:=Px e parts.toList 0 st π fr tr ys st1 ((Array.range (len*e.size)).map (z[· %z.size]!)).toList h hb (by simp [FB])
     have Lx:cl.length=len*e.size:=by rw [g2.1,g3,FB]
     have KL:(Bo ((Array.range (len*e.size)).map (z[· %z.size]!)).toList (0*e.size) cl)=cl:=by
      simp [Bo,Lx]
     rw [KL] at g5
     have Oi:(Instr.buildSlice t len (parts.map λ(i,x)=>(i,a.eval x))).run P w= .ok (.slice (some ⟨w.heap.size,0,none⟩) len len) (w.alloc (.cells cl.toArray te)):=by
      have h24: ¬(len*e.size>2^24):=by
       have:len*e.size<=64*64:=Nat.mul_le_mul hlen.1 hlen.2.1
       omega
      simp only [Instr.buildSlice,Sem.run_bind,run_underlying hu,Result.andThen_ok,(hT.ty te e Qi).size,if_neg h24]
      have e1:(parts.map λ(i,x)=>(i,a.eval x)).toList=parts.toList.map λp=>(p.1,a.eval p.2):=by simp
      simp only [e1]
      have e2:(((Array.range (len*e.size)).map (z[· %z.size]!)).toList.toArray)=(Array.range (len*e.size)).map (z[· %z.size]!):=Array.toArray_toList
      rw [e2] at g5
      rcases hz with ⟨h0,rfl⟩|⟨h0,hz,rfl⟩
      ·rw [if_pos h0]
       simp only [Sem.run_bind,Sem.run_pure,Result.andThen_ok,g5,newRow]
       simp
      ·rw [if_neg h0]
       simp only [Sem.run_bind,Sem.run_pure,Result.andThen_ok,hz,g5,newRow]
       simp
     have hN: ∃N:List Nat,(∀b∈N,(X.w0.heap.size<=b\/X.gv b)/\b<w.heap.size/\ ∀m r0,m≠dst->Vw m=some r0-> ¬r0.cl b)/\(tr=true->N.Nodup/\ ∃Fs,List.flatten Fs=N/\Md w e cl ys Fs):=by
      cases tr with
      |false=>exact ⟨[],by simp,λh=>by cases h⟩
      |true=>
       obtain ⟨Fs,t1,t2,_⟩:=g6 rfl
       exact ⟨_,λb hb=>⟨(t2.2 b hb).1,(t2.2 b hb).2.1,λm r0 _=>(t2.2 b hb).2.2 m r0⟩,λ_=>⟨t2.1,Fs,rfl,t1⟩⟩
     obtain ⟨N,q1,q2⟩:=hN
     have:=al (w1:=w.alloc (.cells cl.toArray te)) g1 dst hlen.2.2 ((T.mW||e.flat)&&fr) (T.uL&&tr) e te ys cl cl.toArray len N (.inr rfl) (by simpa using Lx) (by simp only [maxLen];omega) (by omega) (λk u hu=>by simpa using hu) (g2.cells λes z hc=>hc.and_right) q1 (λht=>q2 (by simp only [Bool.and_eq_true] at ht;exact ht.2))
     exact ⟨_,_,_,Oi,this.1,this.2 _ (by omega)⟩
    ·cases he
   ·cases he
theorem fH {t te:TypeId} {e:Ty} (h:Yk T t=some (te,e)):T.elem t=some te/\T.ty te=some (.slice e):=by
 unfold Yk at h
 cases he:T.elem t with
 |none=>rw [he] at h;cases h
 |some Kz=>
  rw [he] at h
  simp only [Option.bind_some] at h
  cases hg:T.DA Kz with
  |none=>rw [hg] at h;cases h
  |some e'=>
   rw [hg] at h
   simp only [Option.map_some,Option.some.injEq,Prod.mk.injEq] at h
   obtain ⟨rfl,rfl⟩:=h
   refine ⟨rfl,?_⟩
   unfold Tab.DA at hg
   split at hg
   ·split at hg
    ·rename_i Qi;simp only [Option.some.injEq] at hg;subst hg;exact Qi
    ·cases hg
   ·cases hg
theorem gH (w:World) (o:Obj):Ga w.heap.size (λ_=>False) w (w.alloc o):=⟨rfl,rfl,rfl,by simp,λk hk _=>Below.heap_alloc w _ k hk⟩
theorem kz (w:World) (o:Obj):Ga w.heap.size (λ_=>False) w (w.drew.alloc o):=⟨rfl,rfl,rfl,by simp,λk hk _=>Below.heap_alloc w.drew _ k hk⟩
theorem lr (hT:Bz P T) {st:St} {a:Act} (h:Aj X π st a w) (dst:Nat) (t:TypeId) (l c:AV) (vl vc:Value) (hl:Am X w π st.heap l vl) (hc:Am X w π st.heap c vc) (av:AV) (st':St)
  (he:Qe T st dst t l c=some (av,st')): ∃v' w' π',(Instr.makeSlice t vl vc).run P w= .ok v' w'/\Aj X π' st' a w'/\Am X w' π' st'.heap av v':=by
 unfold Qe at he
 split at he
 ·exact mQ hT h dst t l c vl vc hl hc av st' he
 ·rename_i te e hg
  obtain ⟨eJ,Qi⟩:=fH hg
  split at he
  ·rename_i RZ k1 n lZ k2 m
   have:=Ke hl;subst this
   have:=Ke hc;subst this
   split at he
   ·rename_i Ey
    obtain ⟨h0,hnm,SN⟩:=Ey
    obtain ⟨h1,h2⟩:=Nb.1 h0
    subst hnm
    simp only [Option.some.injEq,Prod.mk.injEq] at he
    obtain ⟨rfl,rfl⟩:=he
    obtain ⟨i,hi,Oh,lx,nh⟩:=(hT.ty te _ Qi).info
    have hu:=hT.elem t te eJ
    have hn:n.toNat<=4294967296:=by unfold Bj at h2;omega
    have hr:=run_make (P:=P) (w:=w) t te i _ hu hi nh k1 k2 n n h1 (Int.le_refl _) (by
     have:(i.bytes:Int)*n<=256*4294967296:=by
      obtain ⟨nn,rfl⟩:=Int.eq_ofNat_of_zero_le h1
      have h7:i.bytes*nn<=256*4294967296:=Nat.mul_le_mul lx (by simpa using hn)
      have h8:((i.bytes*nn:Nat):Int)<=256*4294967296:=by omega
      rwa [Int.natCast_mul] at h8
     omega) (by unfold Bj at h2;omega)
    have KP:(Ar (Ty.slice e) (Aq (Ty.slice e))).cells= #[.slice none 0 0]:=by simp [Ar,Ty.Ab,Aq,Value.cells]
    have gy:(Ty.slice e).size=1:=rfl
    rw [KP,Oh,gy] at hr
    have cell: ∀j,j<n.toNat->(madeCells #[Value.slice none 0 0] (n.toNat*1))[0+j]?=some (.slice none 0 0):=by
     intro j hj
     have:=DT (z:= #[Value.slice none 0 0]) (s:=1) (m:=n.toNat) (j:=j) (q:=0) rfl hj (by omega)
     simp only [Nat.mul_one,Nat.add_zero] at this
     simp only [Nat.mul_one,Nat.zero_add]
     rw [this];rfl
    obtain ⟨π',g1,g2⟩:=Rv (w1:=w.alloc (.cells (madeCells #[Value.slice none 0 0] (n.toNat*1)) te)) (gv:= λ_=>False) h SN SN te (e:=e) (rows:=List.replicate n.toNat []) (us:=List.replicate n.toNat (.slice none 0 0)) (Rs:=List.replicate n.toNat none) (g:=w.heap.size) (o:=0) (cap:=n.toNat)
     (λ_ hf=>hf.elim) (gH w _) ⟨.inl (Nat.le_refl _),by simp⟩ (heap_alloc_new w _) (by rw [size_madeCells];omega) (by unfold maxLen;omega) (by simp) (λj u hu=>by
      have hj:=(List.getElem?_eq_some_iff.1 hu).1
      simp only [List.length_replicate] at hj
      rw [cell j hj,List.eq_of_mem_replicate (List.mem_of_getElem? hu)])
     ⟨by simp,by simp,λi j q q' h1=>(by have:=List.eq_of_mem_replicate (List.mem_of_getElem? h1);cases this),λi x hx=>by
      have hj:=(List.getElem?_eq_some_iff.1 hx).1
      simp only [List.length_replicate] at hj
      rw [List.eq_of_mem_replicate (List.mem_of_getElem? hx)]
      exact ⟨.slice none 0 0,none,by rw [List.getElem?_replicate,if_pos hj],by rw [List.getElem?_replicate,if_pos hj],⟨rfl,rfl,rfl⟩,rfl⟩⟩
     (λi q h1=>by have:=List.eq_of_mem_replicate (List.mem_of_getElem? h1);cases this)
    exact ⟨_,_,π',hr,g1,g2 _ (by simp)⟩
   ·cases he
  ·cases he
theorem bw (hT:Bz P T) {st:St} {a:Act} (h:Aj X π st a w) (dst:Nat) (t:TypeId) (len:Nat) (parts:Array (Nat×Operand)) (av:AV) (st':St)
  (he:El T st dst t len parts=some (av,st')):
  ∃v' w' π',(Instr.buildSlice t len (parts.map λ(i,x)=>(i,a.eval x))).run P w= .ok v' w'/\Aj X π' st' a w'/\Am X w' π' st'.heap av v':=by
 unfold El at he
 split at he
 ·exact c6 hT h dst t len parts av st' he
 ·rename_i te e hg
  obtain ⟨eJ,Qi⟩:=fH hg
  split at he
  rotate_left
  ·cases he
  rename_i x VU
  split at he
  rotate_left
  ·cases he
  rename_i m off ln hx
  split at he
  rotate_left
  ·cases he
  rename_i fr tr e' tid xs hm
  split at he
  rotate_left
  ·cases he
  rename_i hc
  obtain ⟨rfl,hc,rfl,rfl⟩:=hc
  simp only [Bool.and_eq_true,Nat.blt_eq] at hc
  obtain ⟨hlen,SN,OT⟩:=hc
  have hlen:len=1:=Nat.eq_of_beq_eq_true hlen
  subst hlen
  simp only [Option.some.injEq,Prod.mk.injEq] at he
  obtain ⟨rfl,rfl⟩:=he
  have hu:=hT.elem t te eJ
  unfold St.at at hm
  have hrx:=Bn h.2 x
  rw [hx] at hrx
  obtain ⟨_,pk⟩:=Iz (X:=X) (w:=w) hrx hm
  obtain ⟨ax,nx,cx,QI⟩:=Tt pk
  have hp:parts= #[(0,x)]:=by apply Array.ext';simpa using VU
  subst hp
  obtain ⟨i,hi,Oh,lx,nh⟩:=(hT.ty te _ Qi).info
  have Oi:(Instr.buildSlice t 1 (#[(0,x)].map λ(i,x)=>(i,a.eval x))).run P w= .ok (.slice (some ⟨w.heap.size,0,none⟩) 1 1) (w.alloc (.cells #[a.eval x] te)):=by
   have gy:(Ty.slice e').size=1:=rfl
   have hz:(zeroValue te).run P w= .ok (.slice none 0 0) w:=by simp [zeroValue,typeInfo,hi,nh,Ar,Ty.Ab,Aq]
   have OT:(#[(0,x)].map λ(i,x)=>(i,a.eval x))= #[(0, .slice ax nx cx)]:=by simp [QI]
   rw [OT,QI]
   simp only [Instr.buildSlice,Sem.run_bind,run_underlying hu,Result.andThen_ok,(hT.ty te _ Qi).size,gy]
   simp [Value.cells,Instr.fill,newRow,hz]
   congr 2
   apply Array.ext
   ·simp
   ·intro i h1 h2
    have h0:i=0:=by simpa using h2
    subst h0
    simp
  have yz:=(h.1.heap m).Lc hm
  simp only [Au,Fl] at yz
  have hfa:Mg w (Bd X.w0.heap.size X.Sc π false) (π m) e' xs:=by
   cases hR:π m with
   |none=>rw [hR] at yz;exact yz
   |some q=>
    rw [hR] at yz
    obtain ⟨⟨f0,f0',_⟩,cu,OX,f2,f3,f4,f5,f6,_⟩:=yz
    exact ⟨⟨f0,f0'⟩,cu,OX,f2,f3,f4,f5,λp y hy=>by
     obtain ⟨es,g1,g2,g3⟩:=f6 p y hy
     exact ⟨es,g1,g2,Cells.Ci (Nat.le_refl _) (λ_ _ _=>rfl) (λb _ hA=>hA.imp id (Or.imp id λ⟨h1,_⟩=>by cases h1)) e' es y g3⟩⟩
  obtain ⟨π',g1,g2⟩:=Rv (w1:=w.alloc (.cells #[a.eval x] te)) (gv:= λ_=>False) h SN OT te (e:=e') (rows:= [xs]) (us:= [a.eval x]) (Rs:= [π m]) (g:=w.heap.size) (o:=0) (cap:=1)
   (λ_ hf=>hf.elim) (gH w _) ⟨.inl (Nat.le_refl _),by simp⟩ (heap_alloc_new w _) rfl (by unfold maxLen;omega) (by simp) (λj u hu=>by
    rcases j with _|j
    ·simpa using hu
    ·simp at hu)
   ⟨rfl,rfl,λi j q q' h1 h2 _=>by
    rcases i with _|i
    ·rcases j with _|j
     ·rfl
     ·simp at h2
    ·simp at h1,λi y hy=>by
    rcases i with _|i
    ·simp only [List.getElem?_cons_zero,Option.some.injEq] at hy
     subst hy
     exact ⟨_,_,rfl,rfl,pk,hfa⟩
    ·simp at hy⟩
   (λi q h1=>by
    rcases i with _|i
    ·simp only [List.getElem?_cons_zero,Option.some.injEq] at h1
     have hf:=h.1.Ba h1
     have:=(h.1.place m q _ h1 (h.1.sub m q _ h1 hf)).2
     exact ⟨by omega,λh=>h,m,q, .inr rfl,h1,hf⟩
    ·simp at h1)
  exact ⟨_,_,π',Oi,g1,g2 1 rfl⟩
theorem gQ (hT:Bz P T) {st:St} {a:Act} (h:Aj X π st a w) (dst:Nat) (t ty:TypeId) (x y:Operand) (av:AV) (st':St) (he:Lf T st dst t x y=some (av,st')):
  ∃v' w' π',(Builtin.append_ #[t,t] ty #[a.eval x,a.eval y]).run P w= .ok v' w'/\Aj X π' st' a w'/\Am X w' π' st'.heap av v':=by
 unfold Lf at he
 split at he
 ·exact gP hT h dst t ty x y av st' he
 ·rename_i te e hg
  obtain ⟨eJ,Qi⟩:=fH hg
  split at he
  rotate_left
  ·cases he
  rename_i l off len m LY nD hx hy
  split at he
  rotate_left
  ·cases he
  rename_i e1 te1 A kp1 e2 qz B kp2 hl hm
  split at he
  rotate_left
  ·cases he
  rename_i hc
  obtain ⟨⟨rfl,rfl⟩,hc,⟨rfl,rfl⟩,⟨rfl,rfl⟩,hB,jw⟩:=hc
  simp only [Bool.and_eq_true,Nat.blt_eq,decide_eq_true_eq,Bool.not_eq_true'] at hc
  obtain ⟨⟨rfl,rfl⟩,nm,OT,ec⟩:=hc
  have ec:m≠l:= λe=>by rw [e,Nat.beq_refl] at ec;cases ec
  simp only [Option.some.injEq,Prod.mk.injEq] at he
  obtain ⟨rfl,rfl⟩:=he
  have hu:=hT.elem t qz eJ
  obtain ⟨i,hi,Oh,lx,nh⟩:=(hT.ty qz _ Qi).info
  have Oh:i.size=1:=Oh
  unfold St.at at hl hm
  have hrx:=Bn h.2 x
  have hry:=Bn h.2 y
  rw [hx] at hrx;rw [hy] at hry
  obtain ⟨b1,s1,n1,q1,q2,_,hox⟩:=hrx
  rw [hl] at q1;cases q1
  simp only [OB.row,Option.some.injEq,Prod.mk.injEq] at q2
  obtain ⟨rfl,rfl⟩:=q2
  obtain ⟨b2,s2,n2,q1,q2,_,hoy⟩:=hry
  rw [hm] at q1;cases q1
  simp only [OB.row,Option.some.injEq,Prod.mk.injEq] at q2
  obtain ⟨rfl,rfl⟩:=q2
  have hA:=((h.1.heap l).Lc hl).1
  have YW:=((h.1.heap m).Lc hm).1
  cases KH:π m with
  |none=>
   rw [KH] at YW
   have YW:B= []:=YW
   subst YW;simp at hB
  |some rB=>
  rw [KH] at YW hoy
  obtain ⟨fB,Aj7,tiB,uB,RB,w1B,w2B,w3B,w4B,w5B,w6B,ZO,LB⟩:=rf YW
  obtain ⟨adB,hvy,hcB,haB⟩:=hoy
  have haB:=haB (by omega)
  subst haB
  have hlB:=LB.1
  have WZ:uB.length=B.length*i.size:=by rw [Oh,Nat.mul_one];exact hlB
  have XA: ∀j u,uB[j]?=some u->w.cell? ((⟨rB.g,(rB.o+0)*1,none⟩:Addr).add j)=some u:= λj u hu=>by
   rw [Addr.add_lit,cellOf w1B,Nat.mul_one,Nat.add_zero];exact w5B j u hu
  have nc:(A.length+B.length)*i.bytes<=140737488355328:=by
   have:(A.length+B.length)*i.bytes<=4294967296*256:=Nat.mul_le_mul jw lx
   omega
  have cn:A.length+B.length<=maxLen:=by unfold Bj at jw;simp only [maxLen];omega
  have hzs:(Ar (Ty.slice e2) (Aq (Ty.slice e2))).cells.size=1:=by simp [Ar,Ty.Ab,Aq,Value.cells]
  have Ox: ∀(k:Nat) (q:Real) (Rs:List (Option Real)),π k=some q->(∀(i:Nat) (p:Real),Rs[i]?=some (some p)->q.Ba p.g/\p.g≠q.g)-> ∀(i:Nat) (p:Real),Rs[i]?=some (some p)->p.g<w.heap.size:= λk q Rs h1 h2 i p h3=>
   (h.1.place k q _ h1 (h.1.sub k q _ h1 (h2 i p h3).1)).2
  cases dE:π l with
  |none=>
   rw [dE] at hA hox
   have hA:A= []:=hA
   subst hA
   obtain ⟨QI,_,_⟩:=hox
   rw [QI,hvy]
   simp only [List.length_nil,Nat.zero_add,List.nil_append] at jw nc cn⊢
   have hr:=run_append_nil (P:=P) w t ty qz i _ hu hi nh ⟨rB.g,(rB.o+0)*1,none⟩ B.length (rB.cap-0) uB WZ XA hB (by simp only [maxLen] at cn;omega) (by omega)
   have j9:=grownCap_ge w B.length 0 qz
   have PV:=grownCap_le_maxLen w B.length 0 qz (by omega)
   obtain ⟨π',g1,g2⟩:=Rv (w1:=w.drew.alloc (.cells (uB.toArray++Builtin.zeroCells (Ar (Ty.slice e2) (Aq (Ty.slice e2))).cells (grownCap w B.length 0 qz-B.length)) qz)) (gv:= λ_=>False) h nm OT qz (e:=e2) (rows:=B) (us:=uB) (Rs:=RB) (g:=w.heap.size) (o:=0) (cap:=grownCap w B.length 0 qz)
    (λ_ hf=>hf.elim) (kz w _) ⟨.inl (Nat.le_refl _),by simp⟩ (heap_alloc_new w.drew _) (by rw [Array.size_append,List.size_toArray,Nd,hzs];omega) PV j9 (λj u hu=>by
     have hj:=(List.getElem?_eq_some_iff.1 hu).1
     rw [Nat.zero_add,Array.getElem?_append_left (by simpa using hj)];simpa using hu)
    LB (λi q h1=>⟨by have:=Ox m rB RB KH ZO i q h1;omega,λh=>h,m,rB, .inr rfl,KH,(ZO i q h1).1⟩)
   exact ⟨_,_,π',hr,g1,g2 _ rfl⟩
  |some rA=>
   rw [dE] at hA hox
   obtain ⟨fA,ER,tiA,uA,RA,w1A,w2A,w3A,w4A,w5A,w6A,w7A,LA⟩:=rf hA
   obtain ⟨adA,QI,hcA,haA⟩:=hox
   have hlA:=LA.1
   rw [QI,hvy]
   have apart: ∀(i j:Nat) (q q':Real),RA[i]?=some (some q)->RB[j]?=some (some q')->q.g≠q'.g:= λi j q q' h1 h2 e=>by
    have:=h.1.apart dE KH (w7A i q h1).1 (e▸(ZO j q' h2).1)
    exact ec this.symm
   have LAB:=mh.append LA LB apart
   have Ex: ∀(i:Nat) (q:Real),RB[i]?=some (some q)->q.g≠rA.g:= λi q h1 e=>ec (h.1.apart KH dE (ZO i q h1).1 (e▸fA))
   have SH: ∀(i:Nat) (q:Real),(RA++RB)[i]?=some (some q)->q.g≠rA.g/\q.g<w.heap.size/\ ∃k p,(k=l\/k=m)/\π k=some p/\p.Ba q.g:= λi q h1=>by
    by_cases hi:i<RA.length
    ·rw [List.getElem?_append_left hi] at h1
     exact ⟨(w7A i q h1).2,Ox l rA RA dE w7A i q h1,l,rA, .inl rfl,dE,(w7A i q h1).1⟩
    ·rw [List.getElem?_append_right (by omega)] at h1
     exact ⟨Ex _ q h1,Ox m rB RB KH ZO _ q h1,m,rB, .inr rfl,KH,(ZO _ q h1).1⟩
   by_cases wD:A.length+B.length<=rA.cap-0
   ·have haA:=haA (by omega)
    subst haA
    have Qg:(rA.o+0)*1+A.length*i.size+uB.length<=ER.size:=by rw [Oh];omega
    have Ry:(rA.o+0)*1+A.length*i.size+uB.length<=ER.toList.length:=by simpa using Qg
    have hr:=Tf (P:=P) (w:=w) (ty:=ty) hu hi rA.g ((rA.o+0)*1) A.length (rA.cap-0) ER tiA w1A ⟨rB.g,(rB.o+0)*1,none⟩ B.length (rB.cap-0) uB WZ XA w6B wD Qg
    have nf:=Ih w rA.g (Bo ER.toList ((rA.o+0)*1+A.length*i.size) uB).toArray
    obtain ⟨π',g1,g2⟩:=Rv (w1:=w.setRow rA.g (Bo ER.toList ((rA.o+0)*1+A.length*i.size) uB).toArray) (gv:= λb=>b=rA.g) h nm OT qz (e:=e2) (rows:=A++B) (us:=uA++uB) (Rs:=RA++RB) (g:=rA.g) (o:=rA.o) (cap:=rA.cap)
     (λb hb=>⟨l,rA, .inl rfl,dE,hb▸fA⟩) ⟨nf.os,nf.tape,nf.output,nf.size,λc _ hc=>setRow_other w rA.g c _ hc⟩ ⟨.inr ⟨l,rA, .inl rfl,dE,fA⟩,Nat.lt_of_lt_of_le (Cw w1A) nf.size⟩
     (setRow_heap w rA.g ER _ tiA _ w1A) (by rw [List.size_toArray,Ej _ _ _ Ry,Array.length_toList];exact w2A) w3A (by simp;omega) (λj u hu=>by
      rw [List.getElem?_toArray,Ea _ _ _ _ Ry,Oh]
      by_cases hj:j<uA.length
      ·rw [List.getElem?_append_left hj] at hu
       rw [if_pos (by omega),Array.getElem?_toList]
       exact w5A j u hu
      ·rw [List.getElem?_append_right (by omega)] at hu
       have:=(List.getElem?_eq_some_iff.1 hu).1
       rw [if_neg (by omega),if_pos (by omega)]
       rw [show rA.o+j-((rA.o+0)*1+A.length*1)=j-uA.length by omega]
       exact hu)
     LAB (λi q h1=>⟨(SH i q h1).1,(SH i q h1).1,(SH i q h1).2.2⟩)
    have:=g2 (A.length+B.length) (by simp)
    have e0:(rA.o+0)*1=rA.o:=by omega
    simp only [e0,Nat.sub_zero] at hr g1 this⊢
    exact ⟨_,_,π',hr,g1,this⟩
   ·have hold: ∀j u,uA[j]?=some u->w.cell? (adA.add j)=some u:=by
     intro j u hu
     have hj:=(List.getElem?_eq_some_iff.1 hu).1
     rw [haA (by omega),Addr.add_lit,cellOf w1A,Nat.mul_one,Nat.add_zero];exact w5A j u hu
    have hr:=run_append_grow (P:=P) w t ty qz i _ hu hi nh adA A.length (rA.cap-0) uA (by rw [Oh,Nat.mul_one];exact hlA) hold ⟨rB.g,(rB.o+0)*1,none⟩ B.length (rB.cap-0) uB WZ XA (by omega) (by simp only [maxLen] at cn;omega) (growslice_fits (by omega) nc)
    have j9:=grownCap_ge w (A.length+B.length) (rA.cap-0) qz
    have PV:=grownCap_le_maxLen w (A.length+B.length) (rA.cap-0) qz cn
    obtain ⟨π',g1,g2⟩:=Rv (w1:=w.drew.alloc (.cells (uA.toArray++uB.toArray++Builtin.zeroCells (Ar (Ty.slice e2) (Aq (Ty.slice e2))).cells (grownCap w (A.length+B.length) (rA.cap-0) qz-(A.length+B.length))) qz)) (gv:= λ_=>False) h nm OT qz (e:=e2) (rows:=A++B) (us:=uA++uB) (Rs:=RA++RB) (g:=w.heap.size) (o:=0) (cap:=grownCap w (A.length+B.length) (rA.cap-0) qz)
     (λ_ hf=>hf.elim) (kz w _) ⟨.inl (Nat.le_refl _),by simp⟩ (heap_alloc_new w.drew _) (by rw [Array.size_append,Array.size_append,List.size_toArray,List.size_toArray,Nd,hzs];omega) PV (by simpa using j9) (λj u hu=>by
      have hj:=(List.getElem?_eq_some_iff.1 hu).1
      rw [Nat.zero_add,Array.getElem?_append_left (by simpa using hj)];simpa using hu)
     LAB (λi q h1=>⟨by have:=(SH i q h1).2.1;omega,λh=>h,(SH i q h1).2.2⟩)
    exact ⟨_,_,π',hr,g1,g2 _ (by simp)⟩
theorem fi: ∀τ:Ty,Cu X w π H (zeroCells τ) (Aq τ):=by
 have one: ∀(c:AC) (v:Value),v.oneCell'=true->Dq X w π H c v->Cu X w π H [c] [v]:= λc v h1 h2=>⟨rfl,λi c' hc=>by
  rcases i with _|i
  ·simp at hc;subst hc;exact ⟨v,rfl,h1,h2⟩
  ·simp at hc⟩
 intro τ
 induction τ with
 |unit=>exact ⟨rfl,λi c hc=>by simp [zeroCells] at hc⟩
 |pair a r gz dF=>
  refine ⟨by simp [zeroCells,Aq,gz.1,dF.1],λi c hc=>?_⟩
  simp only [zeroCells] at hc
  simp only [Aq]
  by_cases hi:i<(zeroCells a).length
  ·rw [List.getElem?_append_left hi] at hc
   obtain ⟨u,hu,h⟩:=gz.2 i c hc
   exact ⟨u,by rw [List.getElem?_append_left (by rw [gz.1];exact hi)];exact hu,h⟩
  ·rw [List.getElem?_append_right (by omega)] at hc
   obtain ⟨u,hu,h⟩:=dF.2 _ c hc
   exact ⟨u,by rw [List.getElem?_append_right (by rw [gz.1];omega),gz.1];exact hu,h⟩
 |int k=>exact one (.data true _ _) _ rfl (Ir (H:=H) k 0 true)
 |bool=>exact one (.data true _ _) _ rfl (Hv (H:=H) false true)
 |str=>exact one (.data true _ _) _ rfl (jH (H:=H) ByteArray.empty true)
 |slice e=>exact one _ _ rfl rfl
 |oslice e=>exact one _ _ rfl rfl
 |ptr e=>exact one _ _ rfl rfl
 |optr e=>exact one _ _ rfl rfl
 |smap v=>exact one (.data true _ _) _ rfl ⟨[.map none], .inl ⟨rfl,rfl⟩,by simp [Ar,Ty.Ab]⟩
 |clo f c=>exact one .undef .nilFunc rfl trivial
theorem Xy (hT:Bz P T) {st:St} {a:Act} (h:Aj X π st a w) (t:TypeId) (Gx:Array (Nat×Nat))
  (dE: ∀f o u ρ,T.off t f=some (o,u)->T.ty u=some ρ->Gx[f]?=some (o,ρ.size)): ∀(parts:List (Nat×Operand)) (cs bZ:List AC) (us:List Value),Cu X w π st.heap cs us->
  Hi T st t parts cs=some bZ-> ∃Pn:List Value,Instr.fill (λi=>Gx[i]?) us.toArray (parts.map λp=>(p.1,a.eval p.2))=some Pn.toArray/\Cu X w π st.heap bZ Pn
 | [],cs,bZ,us,hr,he=>by
  simp only [Hi,Option.some.injEq] at he;subst he
  exact ⟨us,rfl,hr⟩
 |(f,x)::r,cs,bZ,us,hr,he=>by
  simp only [Hi] at he
  split at he
  ·rename_i o u ho
   split at he
   ·rename_i ρ hρ
    split at he
    ·rename_i c hc
     split at he
     ·rename_i hle
      obtain ⟨vs,hv,hl,TG⟩:=bP (Bn h.2 x) hc
      have e1:=hr.1
      have e2:=TG.1
      obtain ⟨Pn,g1,g2⟩:=Xy hT h t Gx dE r _ bZ _ (oQ hr TG o hle) he
      refine ⟨Pn,?_,g2⟩
      simp only [List.map_cons]
      rw [r7 _ us f (a.eval x) _ o ρ.size vs (dE f o u ρ ho hρ) hv hl (by omega)]
      exact g1
     ·cases he
    ·cases he
   ·cases he
  ·cases he
theorem aX (hT:Bz P T) {st:St} {a:Act} (h:Aj X π st a w) (t:TypeId) (parts:Array (Nat×Operand)) (av:AV) (he:Qb T st t parts=some av):
  ∃v',(Instr.build t (parts.map λ(i,x)=>(i,a.eval x))).run P w= .ok v' w/\Am X w π st.heap av v':=by
 unfold Qb at he
 split at he
 ·cases he
 ·rename_i τ Qi
  split at he
  ·rename_i hs
   cases hb:Hi T st t parts.toList (zeroCells τ) with
   |none=>rw [hb] at he;cases he
   |some bZ=>
    rw [hb] at he
    simp only [Option.map_some,Option.some.injEq] at he;subst he
    obtain ⟨fs,Gx,h1,h2,h3⟩:=hT.fill t τ Qi hs
    obtain ⟨i,hi,Oh,lx,nh⟩:=(hT.ty t τ Qi).info
    obtain ⟨Pn,g1,g2⟩:=Xy hT h t Gx h3 parts.toList (zeroCells τ) bZ (Aq τ) (fi τ) hb
    refine ⟨.agg Pn.toArray,?_,Pn,rfl,g2⟩
    have hz:(zeroValue t).run P w= .ok (Ar τ (Aq τ)) w:=by simp [zeroValue,typeInfo,hi,nh]
    have KP:(Ar τ (Aq τ)).cells=(Aq τ).toArray:=by simp [Ar,hs,Value.cells]
    have SC:=h2 w
    unfold placesOf at SC
    have e1:(parts.map λ(i,x)=>(i,a.eval x)).toList=parts.toList.map λp=>(p.1,a.eval p.2):=by simp
    simp only [Instr.build,Sem.run_bind,hz,Result.andThen_ok,run_underlying h1,SC,KP,e1,g1,Sem.run_pure]
  ·cases he
theorem og {st:St} {v:AV} (h:v.settled=true):settle st v=some (v,st):=by
 cases v with
 | «at»a=>cases a<;>simp [AV.settled,AC.settled] at h<;>simp [settle,AC.settled]
 |agg cs=>
  have hs:cs.all (·.settled)=true:=h
  have:Dl cs.length st cs=some (cs,st):=by
   cases hn:cs.length with
   |zero=>simp [Dl,hs]
   |succ n=>
    have hf:cs.find? (λc=>!c.settled)=none:=List.find?_eq_none.2 λc hc=>by simpa using List.all_eq_true.1 hs c hc
    simp [Dl,hf]
  simp [settle,this]
 |Um fr τ x=>rfl
 |Ht l=>simp [AV.settled] at h
theorem iz {e:Ty} {st:St} : ∀(parts:List (Nat×Operand)) (i:Nat) (fr:Bool) (ys:List e.den),ao e i parts st=some (fr,ys)-> ∃tr,Gl e i parts st=some (fr,tr,ys,st)
 | [],i,fr,ys,h=>by
  simp only [ao,Option.some.injEq,Prod.mk.injEq] at h
  obtain ⟨rfl,rfl⟩:=h
  exact ⟨true,rfl⟩
 |(j,x)::r,i,fr,ys,h=>by
  simp only [ao] at h
  split at h
  ·rename_i hc
   split at h
   ·rename_i f1 y f2 zs h1 h2
    simp only [Option.some.injEq,Prod.mk.injEq] at h
    obtain ⟨rfl,rfl⟩:=h
    obtain ⟨tr,h3⟩:=iz r (i+1) f2 zs h2
    refine ⟨Mr st (st.ev x)&&e.tree&&tr,?_⟩
    simp only [Gl]
    rw [if_pos hc.1,og hc.2]
    simp only [h1,h3]
   ·cases h
  ·cases h
theorem jk (hT:Bz P T) {st:St} {a:Act} (h:Aj X π st a w) (t:TypeId) (len:Nat) (parts:Array (Nat×Operand)) (av:AV) (he:Ut T st t len parts=some av):
  ∃v' w' π',(Instr.buildSlice t len (parts.map λ(i,x)=>(i,a.eval x))).run P w= .ok v' w'/\Aj X π' st a w'/\Am X w' π' st.heap av v':=by
 unfold Ut at he
 split at he
 ·cases he
 ·rename_i te eJ
  split at he
  ·cases he
  ·rename_i e Qi
   split at he
   ·rename_i Ey
    obtain ⟨dE,hlen⟩:=Ey
    cases hp:ao e 0 parts.toList st with
    |none=>rw [hp] at he;cases he
    |some p=>
     obtain ⟨fr,ys⟩:=p
     rw [hp] at he
     simp only [Option.map_some,Option.some.injEq] at he
     subst he
     obtain ⟨tr,hb⟩:=iz _ _ _ _ hp
     obtain ⟨i,hi,Oh,lx,nh⟩:=(hT.ty te e Qi).info
     have hu:=hT.elem t te eJ
     have FB:parts.toList.length=len:=by simpa using dE
     have hz: ∃z:Array Value,(len*e.size=0/\z= #[])\/(¬len*e.size=0/\(zeroValue te).run P w= .ok (Ar e (Aq e)) w/\z=(Ar e (Aq e)).cells):=by
      by_cases h0:len*e.size=0
      ·exact ⟨#[], .inl ⟨h0,rfl⟩⟩
      ·exact ⟨_, .inr ⟨h0,by simp [zeroValue,typeInfo,hi,nh],rfl⟩⟩
     obtain ⟨z,hz⟩:=hz
     obtain ⟨Vw,cl,g1,g2,g3,g4,g5,g6⟩:=Px e parts.toList 0 st π fr tr ys st ((Array.range (len*e.size)).map (z[· %z.size]!)).toList h hb (by simp [FB])
     have Lx:cl.length=len*e.size:=by rw [g2.1,g3,FB]
     have KL:(Bo ((Array.range (len*e.size)).map (z[· %z.size]!)).toList (0*e.size) cl)=cl:=by
      simp [Bo,Lx]
     rw [KL] at g5
     have Oi:(Instr.buildSlice t len (parts.map λ(i,x)=>(i,a.eval x))).run P w= .ok (.slice (some ⟨w.heap.size,0,none⟩) len len) (w.alloc (.cells cl.toArray te)):=by
      have h24: ¬(len*e.size>2^24):=by
       have:len*e.size<=64*64:=Nat.mul_le_mul hlen.1 hlen.2
       omega
      simp only [Instr.buildSlice,Sem.run_bind,run_underlying hu,Result.andThen_ok,(hT.ty te e Qi).size,if_neg h24]
      have e1:(parts.map λ(i,x)=>(i,a.eval x)).toList=parts.toList.map λp=>(p.1,a.eval p.2):=by simp
      simp only [e1]
      have e2:(((Array.range (len*e.size)).map (z[· %z.size]!)).toList.toArray)=(Array.range (len*e.size)).map (z[· %z.size]!):=Array.toArray_toList
      rw [e2] at g5
      rcases hz with ⟨h0,rfl⟩|⟨h0,hz,rfl⟩
      ·rw [if_pos h0]
       simp only [Sem.run_bind,Sem.run_pure,Result.andThen_ok,g5,newRow]
       simp
      ·rw [if_neg h0]
       simp only [Sem.run_bind,Sem.run_pure,Result.andThen_ok,hz,g5,newRow]
       simp
     have PT:(w.alloc (.cells cl.toArray te)).heap[w.heap.size]?=some (.cells cl.toArray te (0,0)):=heap_alloc_new w _
     have hB:Below w.heap.size w (w.alloc (.cells cl.toArray te)):=(Below.refl _ _).alloc (Nat.le_refl _) _
     have Fg:=Cw PT
     refine ⟨_,_,Vw,Oi,g1.quiet hB,⟨[_],?_,rfl⟩⟩
     refine ⟨some ⟨w.heap.size,0,none⟩,len,len,rfl,by rw [g3,FB],Nat.le_refl _, .inr ⟨w.heap.size,0,rfl,Fg,λhA=>?_,λk x hx=>?_⟩⟩
     ·rcases hA with hA|hA|⟨_,hA⟩
      ·exact absurd (g1.1.own hA).1 (Nat.lt_irrefl _)
      ·exact absurd (Nat.lt_of_lt_of_le (g1.1.sc _ hA).1 g1.1.below.size) (Nat.lt_irrefl _)
      ·exact absurd (Nat.lt_of_lt_of_le hA g1.1.below.size) (Nat.lt_irrefl _)
     ·obtain ⟨es,k1,k2,k3⟩:=g2.2 k x hx
      refine ⟨es,k1,λj u hu=>?_,Cells.Ci hB.size (λb hb _=>hB.block b hb) (λ_ _ h=>h) e es x k3⟩
      rw [cellOf PT,Nat.zero_add]
      simpa using k2 j u hu
   ·cases he
theorem w5 {Γ:Env} (hT:Bz P T) (Mf:Ia P Γ) {st:St} {a:Act} (h:Aj X π st a w) (o:Oper) (av:AV) (he:Rr T Γ st o=some av):
  bH P X st a w av ((execOp a.eval o).run P w):=by
 obtain ⟨dst,op,ty,pos,af,gd⟩:=o
 have val: ∀(s:Sem Value) (v:Value) (w':World) (π':Pi),s.run P w= .ok v w'->Aj X π' st a w'->Am X w' π' st.heap av v->(execOp a.eval ⟨dst,op,ty,pos,af,gd⟩=do pure (.value (<-s)))->
   bH P X st a w av ((execOp a.eval ⟨dst,op,ty,pos,af,gd⟩).run P w):=by
  intro s v w' π' h1 h2 h3 h4
  rw [h4,Sem.run_bind,h1]
  exact ⟨π',h2,h3⟩
 have quiet:Cg T Γ st ⟨dst,op,ty,pos,af,gd⟩=some av->bH P X st a w av ((execOp a.eval ⟨dst,op,ty,pos,af,gd⟩).run P w):=by
  intro hq
  have:=kC hT Mf h _ av hq
  generalize (execOp a.eval ⟨dst,op,ty,pos,af,gd⟩).run P w=r at*
  cases r with
  |halt x w'=>exact this
  |ok n w'=>
   cases n<;>simp only [CG] at this<;>simp only [bH]
   ·obtain ⟨rfl,hr⟩:=this
    exact ⟨π,h,hr⟩
   ·obtain ⟨rfl,hc⟩:=this
    exact ⟨rfl,hc.mono λe pa ⟨v,hv,hb,hr⟩=>⟨v,hv,π,h.quiet hb,hr⟩⟩
 unfold Rr at he
 split at he
 ·rename_i t len parts m8
  dsimp only at m8;subst m8
  obtain ⟨v,w',π',h1,h2,h3⟩:=jk hT h t len parts av he
  exact val _ v w' π' h1 h2 h3 rfl
 ·rename_i t parts m8
  dsimp only at m8;subst m8
  obtain ⟨v',h1,h2⟩:=aX hT h t parts av he
  exact val _ v' w π h1 h h2 rfl
 ·exact quiet he
theorem eT {a:Act} : ∀(l:List Operand) {π:Pi} {st st1:St},Aj X π st a w->Ji l st=some st1-> ∃π',Aj X π' st1 a w
 | [],π,st,st1,h,he=>by
  simp only [Ji,Option.some.injEq] at he
  subst he
  exact ⟨π,h⟩
 |x::r,π,st,st1,h,he=>by
  simp only [Ji] at he
  cases hs:settle st (st.ev x) with
  |none=>rw [hs] at he;cases he
  |some p=>
   rw [hs] at he
   obtain ⟨Vw,h1,_⟩:=Vp h (Bn h.2 x) hs
   exact eT r h1 he
theorem sP {Γ:Env} (hT:Bz P T) (Mf:Ia P Γ) {st:St} {a:Act} (h:Aj X π st a w) (o:Oper) (av:AV) (st':St) (he:evalOp T Γ st o=some (av,st')):
  bH P X st' a w av ((execOp a.eval o).run P w):=by
 have quiet: ∀ {π:Pi} {st:St},Aj X π st a w->(Cg T Γ st o).map (λv=>(v,st))=some (av,st')->bH P X st' a w av ((execOp a.eval o).run P w):=by
  intro π st h he
  cases hq:Cg T Γ st o with
  |none=>rw [hq] at he;cases he
  |some v=>
   rw [hq] at he
   simp only [Option.map_some,Option.some.injEq,Prod.mk.injEq] at he
   obtain ⟨rfl,rfl⟩:=he
   have:=kC hT Mf h o v hq
   generalize (execOp a.eval o).run P w=r at*
   cases r with
   |halt x w'=>exact this
   |ok n w'=>
    cases n<;>simp only [CG] at this<;>simp only [bH]
    ·obtain ⟨rfl,hr⟩:=this
     exact ⟨π,h,hr⟩
    ·obtain ⟨rfl,hc⟩:=this
     exact ⟨rfl,hc.mono λe pa ⟨v,hv,hb,hr⟩=>⟨v,hv,π,h.quiet hb,hr⟩⟩
 obtain ⟨dst,op,ty,pos,af,gd⟩:=o
 have val: ∀(s:Sem Value) (v:Value) (w':World) (π':Pi),s.run P w= .ok v w'->Aj X π' st' a w'->Am X w' π' st'.heap av v->(execOp a.eval ⟨dst,op,ty,pos,af,gd⟩=do pure (.value (<-s)))->
   bH P X st' a w av ((execOp a.eval ⟨dst,op,ty,pos,af,gd⟩).run P w):=by
  intro s v w' π' h1 h2 h3 h4
  rw [h4,Sem.run_bind,h1]
  exact ⟨π',h2,h3⟩
 unfold evalOp at he
 split at he
 all_goals (rename_i m8;dsimp only at m8;try subst m8)
 ·
  rename_i x
  split at he
  ·rename_i d te e hx hd ht
   split at he
   ·rename_i SN
    simp only [Option.some.injEq,Prod.mk.injEq] at he
    obtain ⟨rfl,rfl⟩:=he
    obtain ⟨k1,k2,_⟩:=nL h d SN (T.mW||e.flat) T.uL te e
    have WM:=Bn h.2 x
    rw [hx] at WM
    have hxv:a.eval x= .slice none 0 0:=WM
    show bH P X _ a w _ (.ok (.value (a.eval x)) w)
    rw [hxv]
    exact ⟨_,k1,k2⟩
   ·cases he
  ·simp only [Option.some.injEq,Prod.mk.injEq] at he
   obtain ⟨rfl,rfl⟩:=he
   exact ⟨π,h,Bn h.2 x⟩
 ·
  rename_i t
  split at he
  ·rename_i d τ hd ht
   obtain ⟨i,hi,Oh,lx,nh⟩:=(hT.ty t τ ht).info
   obtain ⟨π',k1,k2⟩:=kU h d t τ (zeroCells τ) (Aq τ) (fi τ) av st' he
   have KP:(Ar τ (Aq τ)).cells=(Aq τ).toArray:=by
    cases τ<;>simp [Ar,Ty.Ab,Value.cells,Aq]
   refine val (Instr.alloc t true (.tuple #[])) _ _ π' ?_ k1 k2 rfl
   simp [Instr.alloc,zeroValue,typeInfo,hi,nh,newVar,newRow,KP]
  ·cases he
 ·
  rename_i t x
  split at he
  ·rename_i d τ hd ht
   split at he
   ·rename_i cs hc
    obtain ⟨us,hv,hl,hr⟩:=bP (Bn h.2 x) hc
    obtain ⟨π',k1,k2⟩:=kU h d t τ cs us hr av st' he
    refine val (Instr.box t (a.eval x)) _ _ π' ?_ k1 k2 rfl
    simp [Instr.box,newVar,newRow,hv]
   ·cases he
  ·cases he
 ·
  rename_i t p x
  cases hs:Jw T st t (st.ev p) (st.ev x) with
  |none=>rw [hs] at he;cases he
  |some s=>
   rw [hs] at he
   simp only [Option.map_some,Option.some.injEq,Prod.mk.injEq] at he
   obtain ⟨rfl,rfl⟩:=he
   obtain ⟨w',π',h1,h2⟩:=jo hT h t _ _ _ _ (Bn h.2 p) (Bn h.2 x) s hs
   have:(execOp a.eval ⟨dst, .store t p x,ty,pos,af,gd⟩).run P w= .ok .skip w':=by
    show (do Instr.storeAt t (a.eval p) (a.eval x);pure Next.skip:Sem Next).run P w=_
    rw [Sem.run_bind,h1];rfl
   rw [this]
   exact ⟨π',h2,trivial⟩
 ·
  rename_i t l c
  split at he
  ·rename_i d hd
   obtain ⟨v,w',π',h1,h2,h3⟩:=lr hT h d t _ _ _ _ (Bn h.2 l) (Bn h.2 c) av st' he
   exact val _ v w' π' h1 h2 h3 rfl
  ·cases he
 ·
  rename_i t
  split at he
  ·rename_i d hd
   obtain ⟨v,w',π',h1,h2,h3⟩:=gT hT h d t av st' he
   exact val _ v w' π' h1 h2 h3 rfl
  ·cases he
 ·
  rename_i t m k x
  cases hs:En T st t (st.ev m) (st.ev k) (st.ev x) with
  |none=>rw [hs] at he;cases he
  |some s=>
   rw [hs] at he
   simp only [Option.map_some,Option.some.injEq,Prod.mk.injEq] at he
   obtain ⟨rfl,rfl⟩:=he
   obtain ⟨w',h1,h2⟩:=Yd hT h t _ _ _ _ _ _ (Bn h.2 m) (Bn h.2 k) (Bn h.2 x) s hs
   have:(execOp a.eval ⟨dst, .mapUpdate t m k x,ty,pos,af,gd⟩).run P w= .ok .skip w':=by
    show (do Instr.mapUpdate t (a.eval m) (a.eval k) (a.eval x);pure Next.skip:Sem Next).run P w=_
    rw [Sem.run_bind,h1];rfl
   rw [this]
   exact ⟨π,h2,trivial⟩
 ·
  rename_i t m k x
  cases hs:En T st t (st.ev m) (st.ev k) (st.ev x) with
  |none=>rw [hs] at he;cases he
  |some s=>
   rw [hs] at he
   simp only [Option.map_some,Option.some.injEq,Prod.mk.injEq] at he
   obtain ⟨rfl,rfl⟩:=he
   obtain ⟨w',h1,h2⟩:=Yd hT h t _ _ _ _ _ _ (Bn h.2 m) (Bn h.2 k) (Bn h.2 x) s hs
   have:(execOp a.eval ⟨dst, .insert t m k x,ty,pos,af,gd⟩).run P w= .ok .skip w':=by
    show (do Instr.mapUpdate t (a.eval m) (a.eval k) (a.eval x);pure Next.skip:Sem Next).run P w=_
    rw [Sem.run_bind,h1];rfl
   rw [this]
   exact ⟨π,h2,trivial⟩
 ·
  rename_i t len parts
  split at he
  ·rename_i d hd
   obtain ⟨v,w',π',h1,h2,h3⟩:=bw hT h d t len parts av st' he
   exact val _ v w' π' h1 h2 h3 rfl
  ·cases he
 ·
  rename_i t parts
  cases hb:Qb T st t parts with
  |none=>rw [hb] at he;cases he
  |some v=>
   rw [hb] at he
   simp only [Option.map_some,Option.some.injEq,Prod.mk.injEq] at he
   obtain ⟨rfl,rfl⟩:=he
   obtain ⟨v',h1,h2⟩:=aX hT h t parts v hb
   exact val _ v' w π h1 h h2 rfl
 ·
  rename_i args ts
  split at he
  ·rename_i d x y t t' hd Kw nq
   split at he
   ·rename_i Ol;subst Ol
    have e1:args= #[x,y]:=by apply Array.ext';simpa using Kw
    have e2:ts= #[t,t]:=by apply Array.ext';simpa using nq
    subst e1;subst e2
    obtain ⟨v,w',π',h1,h2,h3⟩:=gQ hT h d t ty x y av st' he
    refine val (Builtin.append_ #[t,t] ty #[a.eval x,a.eval y]) v w' π' h1 h2 h3 ?_
    simp [execOp,resolve,invoke,builtin]
   ·cases he
  ·cases he
 ·
  rename_i args ts
  split at he
  ·rename_i x y t t' Kw nq
   have e1:args= #[x,y]:=by apply Array.ext';simpa using Kw
   have e2:ts= #[t,t']:=by apply Array.ext';simpa using nq
   subst e1;subst e2
   obtain ⟨v,w',h1,h2,h3⟩:=mN hT h t t' ty _ _ _ _ (Bn h.2 x) (Bn h.2 y) av st' he
   refine val (Builtin.copy_ #[t,t'] ty #[a.eval x,a.eval y]) v w' π h1 h2 h3 ?_
   simp [execOp,resolve,invoke,builtin]
  ·cases he
 ·
  rename_i args ts
  split at he
  ·rename_i x t Kw nq
   have e1:args= #[x]:=by apply Array.ext';simpa using Kw
   have e2:ts= #[t]:=by apply Array.ext';simpa using nq
   subst e1;subst e2
   cases hs:evalClear T st t (st.ev x) with
   |none=>rw [hs] at he;cases he
   |some s=>
    rw [hs] at he
    simp only [Option.map_some,Option.some.injEq,Prod.mk.injEq] at he
    obtain ⟨rfl,rfl⟩:=he
    obtain ⟨v,w',h1,h2⟩:=lq hT h t ty _ _ (Bn h.2 x) s hs
    refine val (Builtin.clear_ #[t] ty #[a.eval x]) v w' π h1 h2 trivial ?_
    simp [execOp,resolve,invoke,builtin]
  ·cases he
 ·
  rename_i f args ts
  split at he
  ·rename_i s Abi
   have hs:Bf P f s:=Mf f _ Abi
   have:=lp h hs dst (args.toList.map st.ev) (args.toList.map a.eval) (by simp) (λi c v=>cP h args.toList i c v) av st' he
   rw [cS a.eval f args ts dst ty pos af gd rfl hs.enter]
   refine ⟨rfl,?_⟩
   rwa [show (args.toList.map a.eval).toArray=args.map a.eval from by apply Array.ext';simp] at this
  ·rename_i s Abi
   split at he
   ·cases hs:Ji args.toList st with
    |none=>rw [hs] at he;cases he
    |some st1=>
     rw [hs] at he
     obtain ⟨Vw,h1⟩:=eT args.toList h hs
     exact quiet h1 he
   ·exact quiet h he
  ·exact quiet h he
 ·exact quiet h he
end
end Go.Proofs.YtfolipnappekaaaGreat
