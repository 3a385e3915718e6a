/-
  Part 23 of the proof that the statement FnExactIsMethodSolution holds.
-/
import Derived.Test.YtebabhocakedaaaCIsMethodSolution21
namespace Go.Proofs.Ytebabhocakedaaa
open Go.RowKit
section
variable {P:Program} {T:Tab} {X:Ctx} {w w':World} {π:Pi} {H:List (Nat×OB)}
theorem Aoq {π':Pi} {st':St} {a:Act} (h:Af X π' st' a w) (k:Fb π π' H st'.heap) {fr:Bool} (τ:Ty) (cs:List Value) (x:τ.den) (hc:Cells w (Bb X.w0.heap.size X.Sc π fr) τ cs x):
  Cells w (Bb X.w0.heap.size X.Sc π' fr) τ cs x:=
 Cells.Ch (Nat.le_refl _) (fun _ _ _=>rfl) (fun b _ hA=>by
  rcases hA with ⟨l,r,hl,hg⟩|h2
  ·have hh:=h.1.heap l
   cases hb:Ac st'.heap l with
   |none=>have:=hh.emp hb;rw [this] at hl;cases hl
   |some b'=>have:=(k l b' hb).1;rw [this] at hl;exact .inl ⟨l,r,hl,hg⟩
  ·exact .inr h2) τ cs x hc
theorem Xr.drop {F:List Nat} {l:Nat} (h:Xr X w π F):Xr X w (upd π l none) F:=
 ⟨h.1,fun b hb=>⟨(h.2 b hb).1,(h.2 b hb).2.1,fun m r hm=>by
  by_cases e:m=l
  ·subst e;rw [Cp] at hm;cases hm
  ·rw [Co π none e] at hm;exact (h.2 b hb).2.2 m r hm⟩⟩
theorem Ajk {st:St} {a:Act} (h:Af X π st a w) (l:Nat) (hl:l<Ag) (f0 t0:Bool) (te:TypeId) (e:Ty):
  Af X (upd π l none) (st.new l (.arr f0 t0 e te [])) a w∧Ai X w (upd π l none) (st.new l (.arr f0 t0 e te [])).heap (.at (.own l 0 0)) (.slice none 0 0)∧
   ∀fr τ cs x,Cells w (Bb X.w0.heap.size X.Sc π fr) τ cs x→Cells w (Bb X.w0.heap.size X.Sc (upd π l none) fr) τ cs x:=
 ⟨h.replace l hl none _ (Ii w _) (fun r hr=>by cases hr) (fun _=>rfl),
  At4 (St.Cy st l _) (Nat.le_refl _) (by rw [Cp];exact ⟨rfl,rfl,rfl⟩),
  fun fr τ cs x hc=>Cells.Ch (Nat.le_refl _) (fun _ _ _=>rfl) (fun b _ hA=>by
  rcases hA with ⟨m,r,hm,hg⟩|h2
  ·by_cases e:m=l
   ·subst e;rw [Cp] at hm;cases hm
   ·rw [Co π none e] at hm;exact .inl ⟨m,r,hm,hg⟩
  ·exact .inr h2) τ cs x hc⟩
theorem My (hT:Bt P T) {st:St} {a:Act} (h:Af X π st a w) (dst:Nat) (t ty:TypeId) (x y:Operand) (av:AV) (st':St) (he:Hg T st dst t x y=some (av,st')):
  ∃v' w' π',(Builtin.append_ #[t,t] ty #[a.eval x,a.eval y]).run P w= .ok v' w'∧Af X π' st' a w'∧Ai X w' π' st'.heap av v':=by
 unfold Hg at he
 split at he
 ·cases he
 ·rename_i te hte
  split at he
  ·rename_i e y' st1 hty hs
   obtain ⟨π1,h1,h2,h3,h4,h5⟩:=Rp h (Bk h.2 y) hs
   split at he
   ·cases he
   ·rename_i fr2 ys hv
    dsimp only at he
    have htree: ∀tr2,tr2=(e.flat||(Ko st (st.ev y)&&e.tree))→tr2=true→e.flat=true∨ ∃F,Bd w F (.slice e) [a.eval y] ys∧Xr X w π1 F:=by
     intro tr2 e2 htr
     subst e2
     cases hef:e.flat with
     |true=>exact .inl rfl
     |false=>
     right
     simp only [hef,Bool.false_or,Bool.and_eq_true] at htr
     obtain ⟨F,us,f1,f2,f3,_⟩:=h5 htr.1 (.slice e) fr2 ys htr.2 hv
     have hus:us= [a.eval y]:=by
      simp only [Bd] at f1
      obtain ⟨a0,len,cap,rfl,_⟩:=f1
      rw [f2];simp [Ap,Ty.Ab]
     rw [hus] at f1
     exact ⟨F,f1,f3⟩
    have hyc:Cells w (Bb X.w0.heap.size X.Sc π1 fr2) (.slice e) [a.eval y] ys:=Bc.Kv rfl (Ia _ y' _ fr2 ys h3 h2 hv)
    have hxr:=Bk h1.2 x
    split at he
    ·rename_i hx
     rw [hx] at hxr
     have hxv:a.eval x= .slice none 0 0:=hxr
     split at he
     ·rename_i hbig
      simp only [Option.some.injEq,Prod.mk.injEq] at he
      obtain ⟨rfl,rfl⟩:=he
      obtain ⟨k1,k2,k3⟩:=Ajk h1 dst hbig.2 (T.fr0||e.flat) T.tr0 te e
      have:=Ada (ty:=ty) hT k1 hte hty hbig.2 (fr3:=fr2||e.flat) (tr2:=e.flat||(Ko st (st.ev y)&&e.tree)) rfl (St.Cy st1 dst _) k2 (k3 _ _ _ _ hyc) (by rw [Nat.zero_add];exact hbig.1) (fun ht=>by
       rcases htree _ rfl ht with h0|⟨F,f1,f2⟩
       ·exact .inl h0
       ·exact .inr ⟨F,f1,f2.drop⟩)
      rw [←hxv] at this
      exact this
     ·cases he
    ·rename_i l off len hx
     rw [hx] at hxr
     split at he
     ·rename_i fr tr e' tid xs hl
      split at he
      ·rename_i hcond
       obtain ⟨rfl,rfl⟩:=hcond
       split at he
       ·rename_i hbig
        simp only [Option.some.injEq,Prod.mk.injEq] at he
        obtain ⟨rfl,rfl⟩:=he
        exact Ada (ty:=ty) hT h1 hte hty hbig.2 (fr3:=fr2||e'.flat) (tr2:=e'.flat||(Ko st (st.ev y)&&e'.tree)) rfl hl hxr hyc hbig.1 (htree _ rfl)
       ·cases he
      ·cases he
     ·cases he
    ·cases he
  ·cases he
theorem Adl (hT:Bt P T) {st:St} {a:Act} (h:Af X π st a w) (dst:Nat) (t ty:TypeId) (x y:Operand) (av:AV) (st':St) (he:Jn T st dst t x y=some (av,st')):
  ∃v' w' π',(Builtin.append_ #[t,t] ty #[a.eval x,a.eval y]).run P w= .ok v' w'∧Af X π' st' a w'∧Ai X w' π' st'.heap av v':=by
 unfold Jn at he
 split at he
 ·rename_i tx
  split at he
  ·rename_i l i c hg
   split at he
   ·rename_i e te rows kp tid hl _
    split at he
    ·rename_i hc
     simp only [Bool.and_eq_true,Nat.blt_eq,Bool.not_eq_true'] at hc
     have hml:dst≠l:=fun e=>by rw [e,Nat.beq_refl] at hc;cases hc.2.2
     unfold St.at at hl
     have hv:Df X w π st.heap (.sub l i c) (a.tmps.getD tx undef):=by
      have:=h.2.tmps tx
      rw [hg] at this
      exact this
     obtain ⟨π1,h1,h2⟩:=Ave (tid:=tid) h hl hml hc.2.1 hc.1 hv
     have h3:=h1.put (some tx) (c:= .at (.own dst 0 (rows.getD i []).length)) h2
     have hself:a.put (some tx) (a.tmps.getD tx undef)=a:=by
      have:a.tmps.setIfInBounds tx (a.tmps.getD tx undef)=a.tmps:=by
       apply Array.ext_getElem?
       intro k
       rw [Array.getElem?_setIfInBounds]
       split
       ·rename_i e
        subst e
        split
        ·rename_i hlt
         rw [Array.getElem?_eq_getElem hlt];simp
        ·rename_i hlt
         rw [Array.getElem?_eq_none (by omega)]
       ·rfl
      simp only [Act.put,this]
     rw [hself] at h3
     exact My hT h3 dst t ty (.tmp tx) y av st' he
    ·cases he
   ·cases he
  ·exact My hT h dst t ty _ y av st' he
 ·exact My hT h dst t ty x y av st' he
theorem Axj {S:Nat→Prop} {e:Ty} (h:Ad4 e=true): ∃z,Ak e= [z]∧e.Ab=false∧e.size=1∧Cells w S e [z] e.zero∧z.oneCell'=true:=by
 cases e<;>simp [Ad4] at h
 ·exact ⟨_,rfl,rfl,rfl,rfl,rfl⟩
 ·exact ⟨_,rfl,rfl,rfl,rfl,rfl⟩
 ·exact ⟨_,rfl,rfl,rfl,rfl,rfl⟩
 ·exact ⟨_,rfl,rfl,rfl,⟨none,0,0,rfl,rfl,Nat.le_refl _, .inl rfl⟩,rfl⟩
 ·exact ⟨_,rfl,rfl,rfl, .inl ⟨rfl,0,rfl⟩,rfl⟩
theorem Auu {e:Ty} {z:Value} (ht:e.tree=true) (h:Ad4 e=true) (hz:Ak e= [z]):Bd w [] e [z] e.zero:=by
 cases e<;>simp [Ad4] at h<;>simp only [Ak,List.cons.injEq,and_true] at hz<;>subst hz<;>try (simp [Ty.tree] at ht;done)
 ·exact ⟨rfl,rfl⟩
 ·exact ⟨rfl,rfl⟩
 ·exact ⟨rfl,rfl⟩
 ·exact ⟨none,0,0,rfl,rfl,Nat.le_refl _, .inl ⟨rfl,rfl,rfl,rfl⟩⟩
theorem Bd0 {S:Nat→Prop} : ∀(e:Ty),Wv e=true→(Ak e).length=e.size∧Cells w S e (Ak e) e.zero∧(e.tree=true→Bd w [] e (Ak e) e.zero):=by
 intro e
 induction e with
 |unit=>intro _;exact ⟨rfl,rfl,fun _=>⟨rfl,rfl⟩⟩
 |pair a r iha ihr=>
  intro h
  simp only [Wv,Bool.and_eq_true] at h
  obtain ⟨a1,a2,a3⟩:=iha h.1
  obtain ⟨r1,r2,r3⟩:=ihr h.2
  exact ⟨by simp [Ak,Ty.size,a1,r1],⟨_,_,rfl,a2,r2⟩,fun ht=>by simp only [Ty.tree,Bool.and_eq_true] at ht;exact ⟨_,_,[],[],rfl,rfl,a3 ht.1,r3 ht.2⟩⟩
 |_=>
  intro h
  simp only [Wv] at h
  obtain ⟨z,z1,z2,z3,z4,_⟩:=Axj (w:=w) (S:=S) h
  exact ⟨by rw [z1,z3];rfl,by rw [z1];exact z4,fun ht=>by rw [z1];exact Auu ht h z1⟩
theorem Ay6 {z:Array Value} {s m j q:Nat} (hz:z.size=s) (hj:j<m) (hq:q<s):(madeCells z (m*s))[j*s+q]?=z[q]?:=by
 have h1:j*s+q<m*s:=by
  have:=Nat.mul_le_mul_right s (show j+1≤m by omega)
  rw [Nat.succ_mul] at this
  omega
 have h2:(j*s+q)%z.size=q:=by rw [hz,Nat.mul_comm,Nat.mul_add_mod,Nat.mod_eq_of_lt hq]
 have h3:q<z.size:=by omega
 unfold madeCells
 simp [h1,h2,h3]
theorem Aiu (hT:Bt P T) {st:St} {a:Act} (h:Af X π st a w) (dst:Nat) (t:TypeId) (l c:AV) (vl vc:Value) (hl:Ai X w π st.heap l vl) (hc:Ai X w π st.heap c vc) (av:AV) (st':St)
  (he:Qz T st dst t l c=some (av,st')): ∃v' w' π',(Instr.makeSlice t vl vc).run P w= .ok v' w'∧Af X π' st' a w'∧Ai X w' π' st'.heap av v':=by
 unfold Qz at he
 split at he
 ·rename_i te fr1 k1 n fr2 k2 m hte
  have:=Io hl;subst this
  have:=Io hc;subst this
  split at he
  ·rename_i e hty
   split at he
   ·rename_i hcond
    obtain ⟨h0,hnm,hz,hdp⟩:=hcond
    obtain ⟨h1,h2⟩:=La.1 h0
    subst hnm
    simp only [Option.some.injEq,Prod.mk.injEq] at he
    obtain ⟨rfl,rfl⟩:=he
    obtain ⟨i,hi,hisz,hiby,hiz⟩:=(hT.ty te e hty).info
    obtain ⟨z1,z4,z5⟩:=Bd0 (w:=w) (S:=Bb X.w0.heap.size X.Sc π (T.fr0||e.flat)) e hz
    have hzc:(Ap e (Ak e)).cells=(Ak e).toArray:=Fe e _ _ z4
    have hu:=hT.elem t te hte
    have hn:n.toNat≤4294967296:=by unfold Az at h2;omega
    have hr:=run_make (P:=P) (w:=w) t te i _ hu hi hiz k1 k2 n n h1 (Int.le_refl _) (by
     have:(i.bytes:Int)*n≤256*4294967296:=by
      obtain ⟨nn,rfl⟩:=Int.eq_ofNat_of_zero_le h1
      have h7:i.bytes*nn≤256*4294967296:=Nat.mul_le_mul hiby (by simpa using hn)
      have h8:((i.bytes*nn:Nat):Int)≤256*4294967296:=by omega
      rwa [Int.natCast_mul] at h8
     omega) (by unfold Az at h2;omega)
    rw [hzc,hisz] at hr
    have hsz:((Ak e).toArray).size=e.size:=by simpa using z1
    have cell: ∀j,j<n.toNat→ ∀q u,(Ak e)[q]?=some u→(madeCells (Ak e).toArray (n.toNat*e.size)).toList[j*e.size+q]?=some u:=by
     intro j hj q u hu
     have hq:q<e.size:=by rw [←z1];exact (List.getElem?_eq_some_iff.1 hu).1
     have:=Ay6 hsz hj hq
     rw [Array.getElem?_toList,this]
     simpa using hu
    have:=Vx (w1:=w.alloc (.cells (madeCells (Ak e).toArray (n.toNat*e.size)) te)) h dst hdp (T.fr0||e.flat) (T.tr0&&e.tree) e te (List.replicate n.toNat e.zero) (madeCells (Ak e).toArray (n.toNat*e.size)).toList (madeCells (Ak e).toArray (n.toNat*e.size)) n.toNat []
     (.inr rfl) (by rw [size_madeCells]) (by unfold maxLen;omega) (by simp)
     (fun k u hu=>by
      rw [Array.getElem?_toList] at hu;exact hu) ⟨by simp [size_madeCells],fun j x hx=>by
       have hj:=(List.getElem?_eq_some_iff.1 hx).1
       simp only [List.length_replicate] at hj
       refine ⟨Ak e,z1,fun q u hu=>cell j hj q u hu,?_⟩
       rw [List.eq_of_mem_replicate (List.mem_of_getElem? hx)];exact z4⟩ (by simp) (fun htr=>⟨List.nodup_nil,List.replicate n.toNat [],by simp,by simp,fun j x F hx hF=>by
      have hj:=(List.getElem?_eq_some_iff.1 hx).1
      simp only [List.length_replicate] at hj
      refine ⟨Ak e,z1,fun q u hu=>cell j hj q u hu,?_⟩
      have e1:=List.eq_of_mem_replicate (List.mem_of_getElem? hx)
      have e2:=List.eq_of_mem_replicate (List.mem_of_getElem? hF)
      rw [e1,e2]
      exact z5 (by simp only [Bool.and_eq_true] at htr;exact htr.2)⟩)
    exact ⟨_,_,_,hr,this.1,this.2 _ (by simp)⟩
   ·cases he
  ·cases he
 ·cases he
theorem Yo (off:Nat): ∀(us:List Value) (k:Nat) (cells:List Value),off+k+us.length≤cells.length→
  (us.zipIdx k).foldl (fun cs p=>cs.setIfInBounds (off+p.2) p.1) cells.toArray=(Bl cells (off+k) us).toArray
 | [],k,cells,h=>by simp [Bl]
 |u::us,k,cells,h=>by
  simp only [List.zipIdx_cons,List.foldl_cons]
  rw [show cells.toArray.setIfInBounds (off+k) u=(cells.set (off+k) u).toArray by simp]
  rw [Yo off us (k+1) (cells.set (off+k) u) (by simp at h⊢;omega)]
  congr 1
  apply List.ext_getElem?
  intro j
  have hl:off+k+(u::us).length≤cells.length:=h
  have hl2:off+(k+1)+us.length≤(cells.set (off+k) u).length:=by simp at h⊢;omega
  rw [Dl _ _ _ _ hl,Dl _ _ _ _ hl2]
  simp only [List.length_cons]
  by_cases h1:j<off+k
  ·rw [if_pos (by omega),if_pos h1,List.getElem?_set_ne (by omega)]
  ·rw [if_neg h1]
   by_cases h2:j=off+k
   ·subst h2
    rw [if_pos (by omega),if_pos (by omega),List.getElem?_set_self (by simp at h;omega)]
    simp
   ·rw [if_neg (by omega)]
    by_cases h3:j<off+k+(us.length+1)
    ·rw [if_pos (by omega),if_pos h3]
     rw [show j-(off+k)=(j-(off+(k+1)))+1 by omega,List.getElem?_cons_succ]
    ·rw [if_neg (by omega),if_neg h3,List.getElem?_set_ne (by omega)]
theorem Amq (place:Nat→Option (Nat×Nat)) (cells:List Value) (i:Nat) (v:Value) (rest:List (Nat×Value)) (off size:Nat) (us:List Value) (hp:place i=some (off,size)) (hv:v.cells=us.toArray)
  (hl:us.length=size) (hle:off+size≤cells.length):Instr.fill place cells.toArray ((i,v)::rest)=Instr.fill place (Bl cells off us).toArray rest:=by
 simp only [Instr.fill,hp,hv,List.size_toArray,hl]
 rw [if_neg (by simp;omega)]
 congr 1
 have:=Yo off us 0 cells (by omega)
 simp only [Nat.add_zero] at this
 rw [←this]
 simp
theorem Mw (e:Ty) {a:Act} : ∀(parts:List (Nat×Operand)) (i:Nat) (st:St) (π:Pi) (fr tr:Bool) (ys:List e.den) (st':St) (cells:List Value),Af X π st a w→Fl e i parts st=some (fr,tr,ys,st')→
  (i+parts.length)*e.size≤cells.length→
  ∃π' cl,Af X π' st' a w∧Flat w (Bb X.w0.heap.size X.Sc π' fr) e cl ys∧ys.length=parts.length∧Fb π π' st.heap st'.heap∧
   Instr.fill (fun i=>some (i*e.size,e.size)) cells.toArray (parts.map fun p=>(p.1,a.eval p.2))=some (Bl cells (i*e.size) cl).toArray∧
   (tr=true→ ∃Fs,Kd w e cl ys Fs∧Xr X w π' (List.flatten Fs)∧ ∀b∈List.flatten Fs,∃l r,π l=some r∧r.cl b)
 | [],i,st,π,fr,tr,ys,st',cells,h,he,hle=>by
  simp only [Fl,Option.some.injEq,Prod.mk.injEq] at he
  obtain ⟨rfl,rfl,rfl,rfl⟩:=he
  exact ⟨π,[],h,Flat.nil,rfl,Fb.refl _ _,by simp [Instr.fill,Bl],fun _=>⟨[],⟨rfl,fun i z F hz=>by simp at hz⟩,⟨List.nodup_nil,by simp⟩,by simp⟩⟩
 |(j,x)::r,i,st,π,fr,tr,ys,st',cells,h,he,hle=>by
  simp only [Fl] at he
  split at he
  ·rename_i hij;subst hij
   split at he
   ·rename_i v' st1 hs
    obtain ⟨π1,h1,h2,h3,h4,h5⟩:=Rp h (Bk h.2 x) hs
    split at he
    ·rename_i fr1 y hv
     split at he
     ·rename_i fr2 tr2 zs st2 hr
      simp only [Option.some.injEq,Prod.mk.injEq] at he
      obtain ⟨rfl,rfl,rfl,rfl⟩:=he
      obtain ⟨es,hes,hev⟩:=Ia e v' _ fr1 y h3 h2 hv
      have hel:=Cells.len e es y hes
      have hle1:i*e.size+e.size≤cells.length:=by
       have:(i+1)*e.size≤(i+((i,x)::r).length)*e.size:=Nat.mul_le_mul_right _ (by simp)
       rw [Nat.add_mul,Nat.one_mul] at this
       omega
      have hle1':i*e.size+es.length≤cells.length:=by omega
      obtain ⟨π2,cl,g1,g2,g3,g4,g5,g6⟩:=Mw e r (i+1) st1 π1 fr2 tr2 zs st2 (Bl cells (i*e.size) es) h1 hr (by
       rw [Dx _ _ _ hle1']
       rw [show i+1+r.length=i+((i,x)::r).length by simp;omega];exact hle)
      have f1:Flat w (Bb X.w0.heap.size X.Sc π2 fr1) e es [y]:=⟨by simp [hel],fun q z hz=>by
       rcases q with _|q
       ·simp at hz;subst hz
        exact ⟨es,hel,fun j u hu=>by simpa using hu,Aoq g1 g4 e es y hes⟩
       ·simp at hz⟩
      refine ⟨π2,es++cl,g1,?_,by simp [g3],h4.trans g4,?_,fun ht=>?_⟩
      ·have:=(f1.cells fun es z hc=>hc.and_left (f2:=fr2)).append (g2.cells fun es z hc=>hc.and_right (f1:=fr1))
       simpa using this
      ·simp only [List.map_cons]
       rw [Amq _ cells i (a.eval x) _ (i*e.size) e.size es rfl (by rw [hev];exact Fe e es y hes) hel hle1,g5]
       congr 2
       have hcl:cl.length=r.length*e.size:=by rw [g2.1,g3]
       have hfit:(i+1)*e.size+cl.length≤(Bl cells (i*e.size) es).length:=by
        rw [Dx _ _ _ hle1',hcl,←Nat.add_mul]
        rw [show i+1+r.length=i+((i,x)::r).length by simp;omega];exact hle
       have hfit2:i*e.size+(es++cl).length≤cells.length:=by
        rw [Dx _ _ _ hle1'] at hfit
        rw [List.length_append,hel]
        rw [Nat.add_mul,Nat.one_mul] at hfit
        omega
       have e1:(i+1)*e.size=i*e.size+es.length:=by rw [Nat.add_mul,Nat.one_mul,hel]
       apply List.ext_getElem?
       intro k
       rw [Dl _ _ _ _ hfit,Dl _ _ _ _ hfit2,Dl _ _ _ _ hle1',e1,List.length_append]
       by_cases k1:k<i*e.size
       ·rw [if_pos (by omega),if_pos k1,if_pos k1]
       ·rw [if_neg k1,if_neg k1]
        by_cases k2:k<i*e.size+es.length
        ·rw [if_pos k2,if_pos k2,if_pos (by omega),List.getElem?_append_left (by omega)]
        ·rw [if_neg k2,if_neg k2]
         by_cases k3:k<i*e.size+es.length+cl.length
         ·rw [if_pos k3,if_pos (by omega),List.getElem?_append_right (by omega)]
          congr 1;omega
         ·rw [if_neg k3,if_neg (by omega)]
      ·simp only [Bool.and_eq_true] at ht
       obtain ⟨⟨ht1,ht2⟩,ht3⟩:=ht
       obtain ⟨F,us,t1,t2,t3,t7⟩:=h5 ht1 e fr1 y ht2 hv
       obtain ⟨Fs,t4,t5,t6⟩:=g6 ht3
       have hus:us=es:=by
        have c1:=Bd.cells (S:=fun _=>False) F e us y t1 (fun _ _ h=>h)
        have a1:=Fe e us y c1
        have a2:=Fe e es y hes
        rw [←t2,hev,a2] at a1
        simpa using a1.symm
       subst hus
       refine ⟨F::Fs,?_,?_,fun b hb=>?_⟩
       ·have k1:Kd w e us [y] [F]:=⟨rfl,fun q z G hz hG=>by
         rcases q with _|q
         ·simp at hz hG;subst hz;subst hG
          exact ⟨us,hel,fun j u hu=>by simpa using hu,t1⟩
         ·simp at hz⟩
        exact Kd.append (by simp [hel]) k1 t4
       ·rw [List.flatten_cons]
        refine ⟨List.nodup_append.2 ⟨t3.1,t5.1,fun b hb b' hb' e=>?_⟩,fun b hb=>?_⟩
        ·subst e
         obtain ⟨l,r,q1,q2⟩:=t6 b hb'
         exact (t3.2 b hb).2.2 l r q1 q2
        ·rcases List.mem_append.1 hb with hb|hb
         ·have:=t3.2 b hb
          refine ⟨this.1,this.2.1,fun l r q1 q2=>?_⟩
          cases hh:Ac st2.heap l with
          |none=>rw [(g1.1.heap l).emp hh] at q1;cases q1
          |some b'=>exact this.2.2 l r ((g4 l b' hh).1▸q1) q2
         ·exact t5.2 b hb
       ·rw [List.flatten_cons] at hb
        rcases List.mem_append.1 hb with hb|hb
        ·exact t7 b hb
        ·obtain ⟨l,r,q1,q2⟩:=t6 b hb
         cases hh:Ac st1.heap l with
         |none=>rw [(h1.1.heap l).emp hh] at q1;cases q1
         |some b'=>exact ⟨l,r,(h4 l b' hh).1▸q1,q2⟩
     ·cases he
    ·cases he
   ·cases he
  ·cases he
theorem Yj (hT:Bt P T) {st:St} {a:Act} (h:Af X π st a w) (dst:Nat) (t:TypeId) (len:Nat) (parts:Array (Nat×Operand)) (av:AV) (st':St)
  (he:Gc T st dst t len parts=some (av,st')):
  ∃v' w' π',(Instr.buildSlice t len (parts.map fun (i,x)=>(i,a.eval x))).run P w= .ok v' w'∧Af X π' st' a w'∧Ai X w' π' st'.heap av v':=by
 unfold Gc at he
 split at he
 ·cases he
 ·rename_i te hte
  split at he
  ·cases he
  ·rename_i e hty
   split at he
   ·rename_i hcond
    obtain ⟨hpl,hlen⟩:=hcond
    split at he
    ·rename_i fr tr ys st1 hb
     simp only [Option.some.injEq,Prod.mk.injEq] at he
     obtain ⟨rfl,rfl⟩:=he
     obtain ⟨i,hi,hisz,hiby,hiz⟩:=(hT.ty te e hty).info
     have hu:=hT.elem t te hte
     have hpl':parts.toList.length=len:=by simpa using hpl
     have hz: ∃z:Array Value,(len*e.size=0∧z= #[])∨(¬len*e.size=0∧(zeroValue te).run P w= .ok (Ap e (Ak e)) w∧z=(Ap e (Ak e)).cells):=by
      by_cases h0:len*e.size=0
      ·exact ⟨#[], .inl ⟨h0,rfl⟩⟩
      ·exact ⟨_, .inr ⟨h0,by simp [zeroValue,typeInfo,hi,hiz],rfl⟩⟩
     obtain ⟨z,hz⟩:=hz
     obtain ⟨π1,cl,g1,g2,g3,g4,g5,g6⟩:=Mw e parts.toList 0 st π fr tr ys st1 ((Array.range (len*e.size)).map (z[· %z.size]!)).toList h hb (by simp [hpl'])
     have hcl:cl.length=len*e.size:=by rw [g2.1,g3,hpl']
     have hsp:(Bl ((Array.range (len*e.size)).map (z[· %z.size]!)).toList (0*e.size) cl)=cl:=by
      simp [Bl,hcl]
     rw [hsp] at g5
     have hrun:(Instr.buildSlice t len (parts.map fun (i,x)=>(i,a.eval x))).run P w= .ok (.slice (some ⟨w.heap.size,0,none⟩) len len) (w.alloc (.cells cl.toArray te)):=by
      have h24: ¬(len*e.size>2^24):=by
       have:len*e.size≤64*64:=Nat.mul_le_mul hlen.1 hlen.2.1
       omega
      simp only [Instr.buildSlice,Sem.run_bind,run_underlying hu,Result.andThen_ok,(hT.ty te e hty).size,if_neg h24]
      have e1:(parts.map fun (i,x)=>(i,a.eval x)).toList=parts.toList.map fun p=>(p.1,a.eval p.2):=by simp
      simp only [e1]
      have e2:(((Array.range (len*e.size)).map (z[· %z.size]!)).toList.toArray)=(Array.range (len*e.size)).map (z[· %z.size]!):=Array.toArray_toList
      rw [e2] at g5
      rcases hz with ⟨h0,rfl⟩|⟨h0,hz,rfl⟩
      ·rw [if_pos h0]
       simp only [Sem.run_bind,Sem.run_pure,Result.andThen_ok,g5,newRow]
       simp
      ·rw [if_neg h0]
       simp only [Sem.run_bind,Sem.run_pure,Result.andThen_ok,hz,g5,newRow]
       simp
     have hN: ∃N:List Nat,(∀b∈N,(X.w0.heap.size≤b∨X.gv b)∧b<w.heap.size∧ ∀m r0,m≠dst→π1 m=some r0→ ¬r0.cl b)∧(tr=true→N.Nodup∧ ∃Fs,List.flatten Fs=N∧Kd w e cl ys Fs):=by
      cases tr with
      |false=>exact ⟨[],by simp,fun h=>by cases h⟩
      |true=>
       obtain ⟨Fs,t1,t2,_⟩:=g6 rfl
       exact ⟨_,fun b hb=>⟨(t2.2 b hb).1,(t2.2 b hb).2.1,fun m r0 _=>(t2.2 b hb).2.2 m r0⟩,fun _=>⟨t2.1,Fs,rfl,t1⟩⟩
     obtain ⟨N,q1,q2⟩:=hN
     have:=Vx (w1:=w.alloc (.cells cl.toArray te)) g1 dst hlen.2.2 ((T.fr0||e.flat)&&fr) (T.tr0&&tr) e te ys cl cl.toArray len N (.inr rfl) (by simpa using hcl) (by simp only [maxLen];omega) (by omega) (fun k u hu=>by simpa using hu) (g2.cells fun es z hc=>hc.and_right) q1 (fun ht=>q2 (by simp only [Bool.and_eq_true] at ht;exact ht.2))
     exact ⟨_,_,_,hrun,this.1,this.2 _ (by omega)⟩
    ·cases he
   ·cases he
theorem Acf {t te:TypeId} {e:Ty} (h:Uc T t=some (te,e)):T.elem t=some te∧T.ty te=some (.slice e):=by
 unfold Uc at h
 cases he:T.elem t with
 |none=>rw [he] at h;cases h
 |some te'=>
  rw [he] at h
  simp only [Option.bind_some] at h
  cases hg:T.Ay1 te' with
  |none=>rw [hg] at h;cases h
  |some e'=>
   rw [hg] at h
   simp only [Option.map_some,Option.some.injEq,Prod.mk.injEq] at h
   obtain ⟨rfl,rfl⟩:=h
   refine ⟨rfl,?_⟩
   unfold Tab.Ay1 at hg
   split at hg
   ·split at hg
    ·rename_i hty;simp only [Option.some.injEq] at hg;subst hg;exact hty
    ·cases hg
   ·cases hg
theorem Adb (w:World) (o:Obj):Fa w.heap.size (fun _=>False) w (w.alloc o):=⟨rfl,rfl,rfl,by simp,fun k hk _=>Below.heap_alloc w _ k hk⟩
theorem Agi (w:World) (o:Obj):Fa w.heap.size (fun _=>False) w (w.drew.alloc o):=⟨rfl,rfl,rfl,by simp,fun k hk _=>Below.heap_alloc w.drew _ k hk⟩
theorem Ahk (hT:Bt P T) {st:St} {a:Act} (h:Af X π st a w) (dst:Nat) (t:TypeId) (l c:AV) (vl vc:Value) (hl:Ai X w π st.heap l vl) (hc:Ai X w π st.heap c vc) (av:AV) (st':St)
  (he:Nb T st dst t l c=some (av,st')): ∃v' w' π',(Instr.makeSlice t vl vc).run P w= .ok v' w'∧Af X π' st' a w'∧Ai X w' π' st'.heap av v':=by
 unfold Nb at he
 split at he
 ·exact Aiu hT h dst t l c vl vc hl hc av st' he
 ·rename_i te e hg
  obtain ⟨hte,hty⟩:=Acf hg
  split at he
  ·rename_i fr1 k1 n fr2 k2 m
   have:=Io hl;subst this
   have:=Io hc;subst this
   split at he
   ·rename_i hcond
    obtain ⟨h0,hnm,hdp⟩:=hcond
    obtain ⟨h1,h2⟩:=La.1 h0
    subst hnm
    simp only [Option.some.injEq,Prod.mk.injEq] at he
    obtain ⟨rfl,rfl⟩:=he
    obtain ⟨i,hi,hisz,hiby,hiz⟩:=(hT.ty te _ hty).info
    have hu:=hT.elem t te hte
    have hn:n.toNat≤4294967296:=by unfold Az at h2;omega
    have hr:=run_make (P:=P) (w:=w) t te i _ hu hi hiz k1 k2 n n h1 (Int.le_refl _) (by
     have:(i.bytes:Int)*n≤256*4294967296:=by
      obtain ⟨nn,rfl⟩:=Int.eq_ofNat_of_zero_le h1
      have h7:i.bytes*nn≤256*4294967296:=Nat.mul_le_mul hiby (by simpa using hn)
      have h8:((i.bytes*nn:Nat):Int)≤256*4294967296:=by omega
      rwa [Int.natCast_mul] at h8
     omega) (by unfold Az at h2;omega)
    have hzc:(Ap (Ty.slice e) (Ak (Ty.slice e))).cells= #[.slice none 0 0]:=by simp [Ap,Ty.Ab,Ak,Value.cells]
    have hs1:(Ty.slice e).size=1:=rfl
    rw [hzc,hisz,hs1] at hr
    have cell: ∀j,j<n.toNat→(madeCells #[Value.slice none 0 0] (n.toNat*1))[0+j]?=some (.slice none 0 0):=by
     intro j hj
     have:=Ay6 (z:= #[Value.slice none 0 0]) (s:=1) (m:=n.toNat) (j:=j) (q:=0) rfl hj (by omega)
     simp only [Nat.mul_one,Nat.add_zero] at this
     simp only [Nat.mul_one,Nat.zero_add]
     rw [this];rfl
    obtain ⟨π',g1,g2⟩:=Ol (w1:=w.alloc (.cells (madeCells #[Value.slice none 0 0] (n.toNat*1)) te)) (gv:=fun _=>False) h hdp hdp te (e:=e) (rows:=List.replicate n.toNat []) (us:=List.replicate n.toNat (.slice none 0 0)) (Rs:=List.replicate n.toNat none) (g:=w.heap.size) (o:=0) (cap:=n.toNat)
     (fun _ hf=>hf.elim) (Adb w _) ⟨.inl (Nat.le_refl _),by simp⟩ (heap_alloc_new w _) (by rw [size_madeCells];omega) (by unfold maxLen;omega) (by simp) (fun j u hu=>by
      have hj:=(List.getElem?_eq_some_iff.1 hu).1
      simp only [List.length_replicate] at hj
      rw [cell j hj,List.eq_of_mem_replicate (List.mem_of_getElem? hu)])
     ⟨by simp,by simp,fun i j q q' h1=>(by have:=List.eq_of_mem_replicate (List.mem_of_getElem? h1);cases this),fun i x hx=>by
      have hj:=(List.getElem?_eq_some_iff.1 hx).1
      simp only [List.length_replicate] at hj
      rw [List.eq_of_mem_replicate (List.mem_of_getElem? hx)]
      exact ⟨.slice none 0 0,none,by rw [List.getElem?_replicate,if_pos hj],by rw [List.getElem?_replicate,if_pos hj],⟨rfl,rfl,rfl⟩,rfl⟩⟩
     (fun i q h1=>by have:=List.eq_of_mem_replicate (List.mem_of_getElem? h1);cases this)
    exact ⟨_,_,π',hr,g1,g2 _ (by simp)⟩
   ·cases he
  ·cases he
theorem Xp (hT:Bt P T) {st:St} {a:Act} (h:Af X π st a w) (dst:Nat) (t:TypeId) (len:Nat) (parts:Array (Nat×Operand)) (av:AV) (st':St)
  (he:Dy T st dst t len parts=some (av,st')):
  ∃v' w' π',(Instr.buildSlice t len (parts.map fun (i,x)=>(i,a.eval x))).run P w= .ok v' w'∧Af X π' st' a w'∧Ai X w' π' st'.heap av v':=by
 unfold Dy at he
 split at he
 ·exact Yj hT h dst t len parts av st' he
 ·rename_i te e hg
  obtain ⟨hte,hty⟩:=Acf hg
  split at he
  rotate_left
  ·cases he
  rename_i x hparts
  split at he
  rotate_left
  ·cases he
  rename_i m off ln hx
  split at he
  rotate_left
  ·cases he
  rename_i fr tr e' tid xs hm
  split at he
  rotate_left
  ·cases he
  rename_i hc
  obtain ⟨rfl,hc,rfl,rfl⟩:=hc
  simp only [Bool.and_eq_true,Nat.blt_eq] at hc
  obtain ⟨hlen,hdp,hmp⟩:=hc
  have hlen:len=1:=Nat.eq_of_beq_eq_true hlen
  subst hlen
  simp only [Option.some.injEq,Prod.mk.injEq] at he
  obtain ⟨rfl,rfl⟩:=he
  have hu:=hT.elem t te hte
  unfold St.at at hm
  have hrx:=Bk h.2 x
  rw [hx] at hrx
  obtain ⟨_,hov⟩:=Ht (X:=X) (w:=w) hrx hm
  obtain ⟨ax,nx,cx,hvx⟩:=Qb hov
  have hp:parts= #[(0,x)]:=by apply Array.ext';simpa using hparts
  subst hp
  obtain ⟨i,hi,hisz,hiby,hiz⟩:=(hT.ty te _ hty).info
  have hrun:(Instr.buildSlice t 1 (#[(0,x)].map fun (i,x)=>(i,a.eval x))).run P w= .ok (.slice (some ⟨w.heap.size,0,none⟩) 1 1) (w.alloc (.cells #[a.eval x] te)):=by
   have hs1:(Ty.slice e').size=1:=rfl
   have hz:(zeroValue te).run P w= .ok (.slice none 0 0) w:=by simp [zeroValue,typeInfo,hi,hiz,Ap,Ty.Ab,Ak]
   have hmp:(#[(0,x)].map fun (i,x)=>(i,a.eval x))= #[(0, .slice ax nx cx)]:=by simp [hvx]
   rw [hmp,hvx]
   simp only [Instr.buildSlice,Sem.run_bind,run_underlying hu,Result.andThen_ok,(hT.ty te _ hty).size,hs1]
   simp [Value.cells,Instr.fill,newRow,hz]
   congr 2
   apply Array.ext
   ·simp
   ·intro i h1 h2
    have h0:i=0:=by simpa using h2
    subst h0
    simp
  have hbm:=(h.1.heap m).blk hm
  simp only [Aq,El] at hbm
  have hfa:Kf w (Bb X.w0.heap.size X.Sc π false) (π m) e' xs:=by
   cases hR:π m with
   |none=>rw [hR] at hbm;exact hbm
   |some q=>
    rw [hR] at hbm
    obtain ⟨⟨f0,f0',_⟩,cu,ti',f2,f3,f4,f5,f6,_⟩:=hbm
    exact ⟨⟨f0,f0'⟩,cu,ti',f2,f3,f4,f5,fun p y hy=>by
     obtain ⟨es,g1,g2,g3⟩:=f6 p y hy
     exact ⟨es,g1,g2,Cells.Ch (Nat.le_refl _) (fun _ _ _=>rfl) (fun b _ hA=>hA.imp id (Or.imp id fun ⟨h1,_⟩=>by cases h1)) e' es y g3⟩⟩
  obtain ⟨π',g1,g2⟩:=Ol (w1:=w.alloc (.cells #[a.eval x] te)) (gv:=fun _=>False) h hdp hmp te (e:=e') (rows:= [xs]) (us:= [a.eval x]) (Rs:= [π m]) (g:=w.heap.size) (o:=0) (cap:=1)
   (fun _ hf=>hf.elim) (Adb w _) ⟨.inl (Nat.le_refl _),by simp⟩ (heap_alloc_new w _) rfl (by unfold maxLen;omega) (by simp) (fun j u hu=>by
    rcases j with _|j
    ·simpa using hu
    ·simp at hu)
   ⟨rfl,rfl,fun i j q q' h1 h2 _=>by
    rcases i with _|i
    ·rcases j with _|j
     ·rfl
     ·simp at h2
    ·simp at h1,fun i y hy=>by
    rcases i with _|i
    ·simp only [List.getElem?_cons_zero,Option.some.injEq] at hy
     subst hy
     exact ⟨_,_,rfl,rfl,hov,hfa⟩
    ·simp at hy⟩
   (fun i q h1=>by
    rcases i with _|i
    ·simp only [List.getElem?_cons_zero,Option.some.injEq] at h1
     have hf:=h.1.Av h1
     have:=(h.1.place m q _ h1 (h.1.sub m q _ h1 hf)).2
     exact ⟨by omega,fun h=>h,m,q, .inr rfl,h1,hf⟩
    ·simp at h1)
  exact ⟨_,_,π',hrun,g1,g2 1 rfl⟩
theorem Adm (hT:Bt P T) {st:St} {a:Act} (h:Af X π st a w) (dst:Nat) (t ty:TypeId) (x y:Operand) (av:AV) (st':St) (he:Jo T st dst t x y=some (av,st')):
  ∃v' w' π',(Builtin.append_ #[t,t] ty #[a.eval x,a.eval y]).run P w= .ok v' w'∧Af X π' st' a w'∧Ai X w' π' st'.heap av v':=by
 unfold Jo at he
 split at he
 ·exact Adl hT h dst t ty x y av st' he
 ·rename_i te e hg
  obtain ⟨hte,hty⟩:=Acf hg
  split at he
  rotate_left
  ·cases he
  rename_i l off len m off2 Ajc hx hy
  split at he
  rotate_left
  ·cases he
  rename_i e1 te1 A kp1 e2 te2 B kp2 hl hm
  split at he
  rotate_left
  ·cases he
  rename_i hc
  obtain ⟨⟨rfl,rfl⟩,hc,⟨rfl,rfl⟩,⟨rfl,rfl⟩,hB,hbig⟩:=hc
  simp only [Bool.and_eq_true,Nat.blt_eq,decide_eq_true_eq,Bool.not_eq_true'] at hc
  obtain ⟨⟨rfl,rfl⟩,hlp,hmp,hml⟩:=hc
  have hml:m≠l:=fun e=>by rw [e,Nat.beq_refl] at hml;cases hml
  simp only [Option.some.injEq,Prod.mk.injEq] at he
  obtain ⟨rfl,rfl⟩:=he
  have hu:=hT.elem t te2 hte
  obtain ⟨i,hi,hisz,hiby,hiz⟩:=(hT.ty te2 _ hty).info
  have hisz:i.size=1:=hisz
  unfold St.at at hl hm
  have hrx:=Bk h.2 x
  have hry:=Bk h.2 y
  rw [hx] at hrx;rw [hy] at hry
  obtain ⟨b1,s1,n1,q1,q2,_,hox⟩:=hrx
  rw [hl] at q1;cases q1
  simp only [OB.row,Option.some.injEq,Prod.mk.injEq] at q2
  obtain ⟨rfl,rfl⟩:=q2
  obtain ⟨b2,s2,n2,q1,q2,_,hoy⟩:=hry
  rw [hm] at q1;cases q1
  simp only [OB.row,Option.some.injEq,Prod.mk.injEq] at q2
  obtain ⟨rfl,rfl⟩:=q2
  have hA:=((h.1.heap l).blk hl).1
  have hBb:=((h.1.heap m).blk hm).1
  cases hpm:π m with
  |none=>
   rw [hpm] at hBb
   have hBb:B= []:=hBb
   subst hBb;simp at hB
  |some rB=>
  rw [hpm] at hBb hoy
  obtain ⟨fB,curB,tiB,uB,RB,w1B,w2B,w3B,w4B,w5B,w6B,w7B,LB⟩:=Amu hBb
  obtain ⟨adB,hvy,hcB,haB⟩:=hoy
  have haB:=haB (by omega)
  subst haB
  have hlB:=LB.1
  have n1':uB.length=B.length*i.size:=by rw [hisz,Nat.mul_one];exact hlB
  have n2': ∀j u,uB[j]?=some u→w.cell? ((⟨rB.g,(rB.o+0)*1,none⟩:Addr).add j)=some u:=fun j u hu=>by
   rw [Addr.add_lit,cellOf w1B,Nat.mul_one,Nat.add_zero];exact w5B j u hu
  have hbytes:(A.length+B.length)*i.bytes≤140737488355328:=by
   have:(A.length+B.length)*i.bytes≤4294967296*256:=Nat.mul_le_mul hbig hiby
   omega
  have hsmall:A.length+B.length≤maxLen:=by unfold Az at hbig;simp only [maxLen];omega
  have hzs:(Ap (Ty.slice e2) (Ak (Ty.slice e2))).cells.size=1:=by simp [Ap,Ty.Ab,Ak,Value.cells]
  have hfoot: ∀(k:Nat) (q:Real) (Rs:List (Option Real)),π k=some q→(∀(i:Nat) (p:Real),Rs[i]?=some (some p)→q.Av p.g∧p.g≠q.g)→ ∀(i:Nat) (p:Real),Rs[i]?=some (some p)→p.g<w.heap.size:=fun k q Rs h1 h2 i p h3=>
   (h.1.place k q _ h1 (h.1.sub k q _ h1 (h2 i p h3).1)).2
  cases hpl:π l with
  |none=>
   rw [hpl] at hA hox
   have hA:A= []:=hA
   subst hA
   obtain ⟨hvx,_,_⟩:=hox
   rw [hvx,hvy]
   simp only [List.length_nil,Nat.zero_add,List.nil_append] at hbig hbytes hsmall⊢
   have hr:=run_append_nil (P:=P) w t ty te2 i _ hu hi hiz ⟨rB.g,(rB.o+0)*1,none⟩ B.length (rB.cap-0) uB n1' n2' hB (by simp only [maxLen] at hsmall;omega) (by omega)
   have hge:=grownCap_ge w B.length 0 te2
   have hcm:=grownCap_le_maxLen w B.length 0 te2 (by omega)
   obtain ⟨π',g1,g2⟩:=Ol (w1:=w.drew.alloc (.cells (uB.toArray++Builtin.zeroCells (Ap (Ty.slice e2) (Ak (Ty.slice e2))).cells (grownCap w B.length 0 te2-B.length)) te2)) (gv:=fun _=>False) h hlp hmp te2 (e:=e2) (rows:=B) (us:=uB) (Rs:=RB) (g:=w.heap.size) (o:=0) (cap:=grownCap w B.length 0 te2)
    (fun _ hf=>hf.elim) (Agi w _) ⟨.inl (Nat.le_refl _),by simp⟩ (heap_alloc_new w.drew _) (by rw [Array.size_append,List.size_toArray,Le,hzs];omega) hcm hge (fun j u hu=>by
     have hj:=(List.getElem?_eq_some_iff.1 hu).1
     rw [Nat.zero_add,Array.getElem?_append_left (by simpa using hj)];simpa using hu)
    LB (fun i q h1=>⟨by have:=hfoot m rB RB hpm w7B i q h1;omega,fun h=>h,m,rB, .inr rfl,hpm,(w7B i q h1).1⟩)
   exact ⟨_,_,π',hr,g1,g2 _ rfl⟩
  |some rA=>
   rw [hpl] at hA hox
   obtain ⟨fA,curA,tiA,uA,RA,w1A,w2A,w3A,w4A,w5A,w6A,w7A,LA⟩:=Amu hA
   obtain ⟨adA,hvx,hcA,haA⟩:=hox
   have hlA:=LA.1
   rw [hvx,hvy]
   have apart: ∀(i j:Nat) (q q':Real),RA[i]?=some (some q)→RB[j]?=some (some q')→q.g≠q'.g:=fun i j q q' h1 h2 e=>by
    have:=h.1.apart hpl hpm (w7A i q h1).1 (e▸(w7B j q' h2).1)
    exact hml this.symm
   have LAB:=Ai6.append LA LB apart
   have hne: ∀(i:Nat) (q:Real),RB[i]?=some (some q)→q.g≠rA.g:=fun i q h1 e=>hml (h.1.apart hpm hpl (w7B i q h1).1 (e▸fA))
   have hRs: ∀(i:Nat) (q:Real),(RA++RB)[i]?=some (some q)→q.g≠rA.g∧q.g<w.heap.size∧ ∃k p,(k=l∨k=m)∧π k=some p∧p.Av q.g:=fun i q h1=>by
    by_cases hi:i<RA.length
    ·rw [List.getElem?_append_left hi] at h1
     exact ⟨(w7A i q h1).2,hfoot l rA RA hpl w7A i q h1,l,rA, .inl rfl,hpl,(w7A i q h1).1⟩
    ·rw [List.getElem?_append_right (by omega)] at h1
     exact ⟨hne _ q h1,hfoot m rB RB hpm w7B _ q h1,m,rB, .inr rfl,hpm,(w7B _ q h1).1⟩
   by_cases hroom:A.length+B.length≤rA.cap-0
   ·have haA:=haA (by omega)
    subst haA
    have hfit:(rA.o+0)*1+A.length*i.size+uB.length≤curA.size:=by rw [hisz];omega
    have hfit':(rA.o+0)*1+A.length*i.size+uB.length≤curA.toList.length:=by simpa using hfit
    have hr:=Pq (P:=P) (w:=w) (ty:=ty) hu hi rA.g ((rA.o+0)*1) A.length (rA.cap-0) curA tiA w1A ⟨rB.g,(rB.o+0)*1,none⟩ B.length (rB.cap-0) uB n1' n2' w6B hroom hfit
    have hgr:=Gw w rA.g (Bl curA.toList ((rA.o+0)*1+A.length*i.size) uB).toArray
    obtain ⟨π',g1,g2⟩:=Ol (w1:=w.setRow rA.g (Bl curA.toList ((rA.o+0)*1+A.length*i.size) uB).toArray) (gv:=fun b=>b=rA.g) h hlp hmp te2 (e:=e2) (rows:=A++B) (us:=uA++uB) (Rs:=RA++RB) (g:=rA.g) (o:=rA.o) (cap:=rA.cap)
     (fun b hb=>⟨l,rA, .inl rfl,hpl,hb▸fA⟩) ⟨hgr.os,hgr.tape,hgr.output,hgr.size,fun c _ hc=>setRow_other w rA.g c _ hc⟩ ⟨.inr ⟨l,rA, .inl rfl,hpl,fA⟩,Nat.lt_of_lt_of_le (Cn w1A) hgr.size⟩
     (setRow_heap w rA.g curA _ tiA _ w1A) (by rw [List.size_toArray,Dx _ _ _ hfit',Array.length_toList];exact w2A) w3A (by simp;omega) (fun j u hu=>by
      rw [List.getElem?_toArray,Dl _ _ _ _ hfit',hisz]
      by_cases hj:j<uA.length
      ·rw [List.getElem?_append_left hj] at hu
       rw [if_pos (by omega),Array.getElem?_toList]
       exact w5A j u hu
      ·rw [List.getElem?_append_right (by omega)] at hu
       have:=(List.getElem?_eq_some_iff.1 hu).1
       rw [if_neg (by omega),if_pos (by omega)]
       rw [show rA.o+j-((rA.o+0)*1+A.length*1)=j-uA.length by omega]
       exact hu)
     LAB (fun i q h1=>⟨(hRs i q h1).1,(hRs i q h1).1,(hRs i q h1).2.2⟩)
    have:=g2 (A.length+B.length) (by simp)
    have e0:(rA.o+0)*1=rA.o:=by omega
    simp only [e0,Nat.sub_zero] at hr g1 this⊢
    exact ⟨_,_,π',hr,g1,this⟩
   ·have hold: ∀j u,uA[j]?=some u→w.cell? (adA.add j)=some u:=by
     intro j u hu
     have hj:=(List.getElem?_eq_some_iff.1 hu).1
     rw [haA (by omega),Addr.add_lit,cellOf w1A,Nat.mul_one,Nat.add_zero];exact w5A j u hu
    have hr:=run_append_grow (P:=P) w t ty te2 i _ hu hi hiz adA A.length (rA.cap-0) uA (by rw [hisz,Nat.mul_one];exact hlA) hold ⟨rB.g,(rB.o+0)*1,none⟩ B.length (rB.cap-0) uB n1' n2' (by omega) (by simp only [maxLen] at hsmall;omega) (growslice_fits (by omega) hbytes)
    have hge:=grownCap_ge w (A.length+B.length) (rA.cap-0) te2
    have hcm:=grownCap_le_maxLen w (A.length+B.length) (rA.cap-0) te2 hsmall
    obtain ⟨π',g1,g2⟩:=Ol (w1:=w.drew.alloc (.cells (uA.toArray++uB.toArray++Builtin.zeroCells (Ap (Ty.slice e2) (Ak (Ty.slice e2))).cells (grownCap w (A.length+B.length) (rA.cap-0) te2-(A.length+B.length))) te2)) (gv:=fun _=>False) h hlp hmp te2 (e:=e2) (rows:=A++B) (us:=uA++uB) (Rs:=RA++RB) (g:=w.heap.size) (o:=0) (cap:=grownCap w (A.length+B.length) (rA.cap-0) te2)
     (fun _ hf=>hf.elim) (Agi w _) ⟨.inl (Nat.le_refl _),by simp⟩ (heap_alloc_new w.drew _) (by rw [Array.size_append,Array.size_append,List.size_toArray,List.size_toArray,Le,hzs];omega) hcm (by simpa using hge) (fun j u hu=>by
      have hj:=(List.getElem?_eq_some_iff.1 hu).1
      rw [Nat.zero_add,Array.getElem?_append_left (by simpa using hj)];simpa using hu)
     LAB (fun i q h1=>⟨by have:=(hRs i q h1).2.1;omega,fun h=>h,(hRs i q h1).2.2⟩)
    exact ⟨_,_,π',hr,g1,g2 _ (by simp)⟩
theorem Abx: ∀τ:Ty,Cl X w π H (zeroCells τ) (Ak τ):=by
 have one: ∀(c:AC) (v:Value),v.oneCell'=true→Df X w π H c v→Cl X w π H [c] [v]:=fun c v h1 h2=>⟨rfl,fun i c' hc=>by
  rcases i with _|i
  ·simp at hc;subst hc;exact ⟨v,rfl,h1,h2⟩
  ·simp at hc⟩
 intro τ
 induction τ with
 |unit=>exact ⟨rfl,fun i c hc=>by simp [zeroCells] at hc⟩
 |pair a r iha ihr=>
  refine ⟨by simp [zeroCells,Ak,iha.1,ihr.1],fun i c hc=>?_⟩
  simp only [zeroCells] at hc
  simp only [Ak]
  by_cases hi:i<(zeroCells a).length
  ·rw [List.getElem?_append_left hi] at hc
   obtain ⟨u,hu,h⟩:=iha.2 i c hc
   exact ⟨u,by rw [List.getElem?_append_left (by rw [iha.1];exact hi)];exact hu,h⟩
  ·rw [List.getElem?_append_right (by omega)] at hc
   obtain ⟨u,hu,h⟩:=ihr.2 _ c hc
   exact ⟨u,by rw [List.getElem?_append_right (by rw [iha.1];omega),iha.1];exact hu,h⟩
 |int k=>exact one (.data true _ _) _ rfl (Hk (H:=H) k 0 true)
 |bool=>exact one (.data true _ _) _ rfl (Gi (H:=H) false true)
 |str=>exact one (.data true _ _) _ rfl (Afq (H:=H) ByteArray.empty true)
 |slice e=>exact one _ _ rfl rfl
 |oslice e=>exact one _ _ rfl rfl
 |ptr e=>exact one _ _ rfl rfl
 |optr e=>exact one _ _ rfl rfl
 |smap v=>exact one (.data true _ _) _ rfl ⟨[.map none], .inl ⟨rfl,rfl⟩,by simp [Ap,Ty.Ab]⟩
 |clo f c=>exact one .undef .nilFunc rfl trivial
theorem To (hT:Bt P T) {st:St} {a:Act} (h:Af X π st a w) (t:TypeId) (places:Array (Nat×Nat))
  (hpl: ∀f o u ρ,T.off t f=some (o,u)→T.ty u=some ρ→places[f]?=some (o,ρ.size)): ∀(parts:List (Nat×Operand)) (cs cs':List AC) (us:List Value),Cl X w π st.heap cs us→
  Gb T st t parts cs=some cs'→ ∃us':List Value,Instr.fill (fun i=>places[i]?) us.toArray (parts.map fun p=>(p.1,a.eval p.2))=some us'.toArray∧Cl X w π st.heap cs' us'
 | [],cs,cs',us,hr,he=>by
  simp only [Gb,Option.some.injEq] at he;subst he
  exact ⟨us,rfl,hr⟩
 |(f,x)::r,cs,cs',us,hr,he=>by
  simp only [Gb] at he
  split at he
  ·rename_i o u ho
   split at he
   ·rename_i ρ hρ
    split at he
    ·rename_i c hc
     split at he
     ·rename_i hle
      obtain ⟨vs,hv,hl,hr2⟩:=Yb (Bk h.2 x) hc
      have e1:=hr.1
      have e2:=hr2.1
      obtain ⟨us',g1,g2⟩:=To hT h t places hpl r _ cs' _ (Ako hr hr2 o hle) he
      refine ⟨us',?_,g2⟩
      simp only [List.map_cons]
      rw [Amq _ us f (a.eval x) _ o ρ.size vs (hpl f o u ρ ho hρ) hv hl (by omega)]
      exact g1
     ·cases he
    ·cases he
   ·cases he
  ·cases he
theorem Wz (hT:Bt P T) {st:St} {a:Act} (h:Af X π st a w) (t:TypeId) (parts:Array (Nat×Operand)) (av:AV) (he:Mz T st t parts=some av):
  ∃v',(Instr.build t (parts.map fun (i,x)=>(i,a.eval x))).run P w= .ok v' w∧Ai X w π st.heap av v':=by
 unfold Mz at he
 split at he
 ·cases he
 ·rename_i τ hty
  split at he
  ·rename_i hs
   cases hb:Gb T st t parts.toList (zeroCells τ) with
   |none=>rw [hb] at he;cases he
   |some cs'=>
    rw [hb] at he
    simp only [Option.map_some,Option.some.injEq] at he;subst he
    obtain ⟨fs,places,h1,h2,h3⟩:=hT.fill t τ hty hs
    obtain ⟨i,hi,hisz,hiby,hiz⟩:=(hT.ty t τ hty).info
    obtain ⟨us',g1,g2⟩:=To hT h t places h3 parts.toList (zeroCells τ) cs' (Ak τ) (Abx τ) hb
    refine ⟨.agg us'.toArray,?_,us',rfl,g2⟩
    have hz:(zeroValue t).run P w= .ok (Ap τ (Ak τ)) w:=by simp [zeroValue,typeInfo,hi,hiz]
    have hzc:(Ap τ (Ak τ)).cells=(Ak τ).toArray:=by simp [Ap,hs,Value.cells]
    have h2':=h2 w
    unfold placesOf at h2'
    have e1:(parts.map fun (i,x)=>(i,a.eval x)).toList=parts.toList.map fun p=>(p.1,a.eval p.2):=by simp
    simp only [Instr.build,Sem.run_bind,hz,Result.andThen_ok,run_underlying h1,h2',hzc,e1,g1,Sem.run_pure]
  ·cases he
theorem Ak8 {st:St} {v:AV} (h:v.settled=true):settle st v=some (v,st):=by
 cases v with
 | «at»a=>cases a<;>simp [AV.settled,AC.settled] at h<;>simp [settle,AC.settled]
 |agg cs=>
  have hs:cs.all (·.settled)=true:=h
  have:Da cs.length st cs=some (cs,st):=by
   cases hn:cs.length with
   |zero=>simp [Da,hs]
   |succ n=>
    have hf:cs.find? (fun c=>!c.settled)=none:=List.find?_eq_none.2 fun c hc=>by simpa using List.all_eq_true.1 hs c hc
    simp [Da,hf]
  simp [settle,this]
 |tup fr τ x=>rfl
 |tupc l=>simp [AV.settled] at h
theorem Aed {e:Ty} {st:St} : ∀(parts:List (Nat×Operand)) (i:Nat) (fr:Bool) (ys:List e.den),Vz e i parts st=some (fr,ys)→ ∃tr,Fl e i parts st=some (fr,tr,ys,st)
 | [],i,fr,ys,h=>by
  simp only [Vz,Option.some.injEq,Prod.mk.injEq] at h
  obtain ⟨rfl,rfl⟩:=h
  exact ⟨true,rfl⟩
 |(j,x)::r,i,fr,ys,h=>by
  simp only [Vz] at h
  split at h
  ·rename_i hc
   split at h
   ·rename_i f1 y f2 zs h1 h2
    simp only [Option.some.injEq,Prod.mk.injEq] at h
    obtain ⟨rfl,rfl⟩:=h
    obtain ⟨tr,h3⟩:=Aed r (i+1) f2 zs h2
    refine ⟨Ko st (st.ev x)&&e.tree&&tr,?_⟩
    simp only [Fl]
    rw [if_pos hc.1,Ak8 hc.2]
    simp only [h1,h3]
   ·cases h
  ·cases h
theorem Af3 (hT:Bt P T) {st:St} {a:Act} (h:Af X π st a w) (t:TypeId) (len:Nat) (parts:Array (Nat×Operand)) (av:AV) (he:Qy T st t len parts=some av):
  ∃v' w' π',(Instr.buildSlice t len (parts.map fun (i,x)=>(i,a.eval x))).run P w= .ok v' w'∧Af X π' st a w'∧Ai X w' π' st.heap av v':=by
 unfold Qy at he
 split at he
 ·cases he
 ·rename_i te hte
  split at he
  ·cases he
  ·rename_i e hty
   split at he
   ·rename_i hcond
    obtain ⟨hpl,hlen⟩:=hcond
    cases hp:Vz e 0 parts.toList st with
    |none=>rw [hp] at he;cases he
    |some p=>
     obtain ⟨fr,ys⟩:=p
     rw [hp] at he
     simp only [Option.map_some,Option.some.injEq] at he
     subst he
     obtain ⟨tr,hb⟩:=Aed _ _ _ _ hp
     obtain ⟨i,hi,hisz,hiby,hiz⟩:=(hT.ty te e hty).info
     have hu:=hT.elem t te hte
     have hpl':parts.toList.length=len:=by simpa using hpl
     have hz: ∃z:Array Value,(len*e.size=0∧z= #[])∨(¬len*e.size=0∧(zeroValue te).run P w= .ok (Ap e (Ak e)) w∧z=(Ap e (Ak e)).cells):=by
      by_cases h0:len*e.size=0
      ·exact ⟨#[], .inl ⟨h0,rfl⟩⟩
      ·exact ⟨_, .inr ⟨h0,by simp [zeroValue,typeInfo,hi,hiz],rfl⟩⟩
     obtain ⟨z,hz⟩:=hz
     obtain ⟨π1,cl,g1,g2,g3,g4,g5,g6⟩:=Mw e parts.toList 0 st π fr tr ys st ((Array.range (len*e.size)).map (z[· %z.size]!)).toList h hb (by simp [hpl'])
     have hcl:cl.length=len*e.size:=by rw [g2.1,g3,hpl']
     have hsp:(Bl ((Array.range (len*e.size)).map (z[· %z.size]!)).toList (0*e.size) cl)=cl:=by
      simp [Bl,hcl]
     rw [hsp] at g5
     have hrun:(Instr.buildSlice t len (parts.map fun (i,x)=>(i,a.eval x))).run P w= .ok (.slice (some ⟨w.heap.size,0,none⟩) len len) (w.alloc (.cells cl.toArray te)):=by
      have h24: ¬(len*e.size>2^24):=by
       have:len*e.size≤64*64:=Nat.mul_le_mul hlen.1 hlen.2
       omega
      simp only [Instr.buildSlice,Sem.run_bind,run_underlying hu,Result.andThen_ok,(hT.ty te e hty).size,if_neg h24]
      have e1:(parts.map fun (i,x)=>(i,a.eval x)).toList=parts.toList.map fun p=>(p.1,a.eval p.2):=by simp
      simp only [e1]
      have e2:(((Array.range (len*e.size)).map (z[· %z.size]!)).toList.toArray)=(Array.range (len*e.size)).map (z[· %z.size]!):=Array.toArray_toList
      rw [e2] at g5
      rcases hz with ⟨h0,rfl⟩|⟨h0,hz,rfl⟩
      ·rw [if_pos h0]
       simp only [Sem.run_bind,Sem.run_pure,Result.andThen_ok,g5,newRow]
       simp
      ·rw [if_neg h0]
       simp only [Sem.run_bind,Sem.run_pure,Result.andThen_ok,hz,g5,newRow]
       simp
     have hblk:(w.alloc (.cells cl.toArray te)).heap[w.heap.size]?=some (.cells cl.toArray te (0,0)):=heap_alloc_new w _
     have hB:Below w.heap.size w (w.alloc (.cells cl.toArray te)):=(Below.refl _ _).alloc (Nat.le_refl _) _
     have hlt:=Cn hblk
     refine ⟨_,_,π1,hrun,g1.quiet hB,⟨[_],?_,rfl⟩⟩
     refine ⟨some ⟨w.heap.size,0,none⟩,len,len,rfl,by rw [g3,hpl'],Nat.le_refl _, .inr ⟨w.heap.size,0,rfl,hlt,fun hA=>?_,fun k x hx=>?_⟩⟩
     ·rcases hA with hA|hA|⟨_,hA⟩
      ·exact absurd (g1.1.own hA).1 (Nat.lt_irrefl _)
      ·exact absurd (Nat.lt_of_lt_of_le (g1.1.sc _ hA).1 g1.1.below.size) (Nat.lt_irrefl _)
      ·exact absurd (Nat.lt_of_lt_of_le hA g1.1.below.size) (Nat.lt_irrefl _)
     ·obtain ⟨es,k1,k2,k3⟩:=g2.2 k x hx
      refine ⟨es,k1,fun j u hu=>?_,Cells.Ch hB.size (fun b hb _=>hB.block b hb) (fun _ _ h=>h) e es x k3⟩
      rw [cellOf hblk,Nat.zero_add]
      simpa using k2 j u hu
   ·cases he
theorem Ary {Γ:Env} (hT:Bt P T) (hΓ:Gl P Γ) {st:St} {a:Act} (h:Af X π st a w) (o:Oper) (av:AV) (he:Oi T Γ st o=some av):
  Xs P X st a w av ((execOp a.eval o).run P w):=by
 obtain ⟨dst,op,ty,pos,af,gd⟩:=o
 have val: ∀(s:Sem Value) (v:Value) (w':World) (π':Pi),s.run P w= .ok v w'→Af X π' st a w'→Ai X w' π' st.heap av v→(execOp a.eval ⟨dst,op,ty,pos,af,gd⟩=do pure (.value (←s)))→
   Xs P X st a w av ((execOp a.eval ⟨dst,op,ty,pos,af,gd⟩).run P w):=by
  intro s v w' π' h1 h2 h3 h4
  rw [h4,Sem.run_bind,h1]
  exact ⟨π',h2,h3⟩
 have quiet:Bz T Γ st ⟨dst,op,ty,pos,af,gd⟩=some av→Xs P X st a w av ((execOp a.eval ⟨dst,op,ty,pos,af,gd⟩).run P w):=by
  intro hq
  have:=Agk hT hΓ h _ av hq
  generalize (execOp a.eval ⟨dst,op,ty,pos,af,gd⟩).run P w=r at*
  cases r with
  |halt x w'=>exact this
  |ok n w'=>
   cases n<;>simp only [Axk] at this<;>simp only [Xs]
   ·obtain ⟨rfl,hr⟩:=this
    exact ⟨π,h,hr⟩
   ·obtain ⟨rfl,hc⟩:=this
    exact ⟨rfl,hc.mono fun e w'' ⟨v,hv,hb,hr⟩=>⟨v,hv,π,h.quiet hb,hr⟩⟩
 unfold Oi at he
 split at he
 ·rename_i t len parts hop
  dsimp only at hop;subst hop
  obtain ⟨v,w',π',h1,h2,h3⟩:=Af3 hT h t len parts av he
  exact val _ v w' π' h1 h2 h3 rfl
 ·rename_i t parts hop
  dsimp only at hop;subst hop
  obtain ⟨v',h1,h2⟩:=Wz hT h t parts av he
  exact val _ v' w π h1 h h2 rfl
 ·exact quiet he
theorem Abi {a:Act} : ∀(l:List Operand) {π:Pi} {st st1:St},Af X π st a w→Hy l st=some st1→ ∃π',Af X π' st1 a w
 | [],π,st,st1,h,he=>by
  simp only [Hy,Option.some.injEq] at he
  subst he
  exact ⟨π,h⟩
 |x::r,π,st,st1,h,he=>by
  simp only [Hy] at he
  cases hs:settle st (st.ev x) with
  |none=>rw [hs] at he;cases he
  |some p=>
   rw [hs] at he
   obtain ⟨π1,h1,_⟩:=Rp h (Bk h.2 x) hs
   exact Abi r h1 he
theorem Aov {Γ:Env} (hT:Bt P T) (hΓ:Gl P Γ) {st:St} {a:Act} (h:Af X π st a w) (o:Oper) (av:AV) (st':St) (he:evalOp T Γ st o=some (av,st')):
  Xs P X st' a w av ((execOp a.eval o).run P w):=by
 have quiet: ∀ {π:Pi} {st:St},Af X π st a w→(Bz T Γ st o).map (fun v=>(v,st))=some (av,st')→Xs P X st' a w av ((execOp a.eval o).run P w):=by
  intro π st h he
  cases hq:Bz T Γ st o with
  |none=>rw [hq] at he;cases he
  |some v=>
   rw [hq] at he
   simp only [Option.map_some,Option.some.injEq,Prod.mk.injEq] at he
   obtain ⟨rfl,rfl⟩:=he
   have:=Agk hT hΓ h o v hq
   generalize (execOp a.eval o).run P w=r at*
   cases r with
   |halt x w'=>exact this
   |ok n w'=>
    cases n<;>simp only [Axk] at this<;>simp only [Xs]
    ·obtain ⟨rfl,hr⟩:=this
     exact ⟨π,h,hr⟩
    ·obtain ⟨rfl,hc⟩:=this
     exact ⟨rfl,hc.mono fun e w'' ⟨v,hv,hb,hr⟩=>⟨v,hv,π,h.quiet hb,hr⟩⟩
 obtain ⟨dst,op,ty,pos,af,gd⟩:=o
 have val: ∀(s:Sem Value) (v:Value) (w':World) (π':Pi),s.run P w= .ok v w'→Af X π' st' a w'→Ai X w' π' st'.heap av v→(execOp a.eval ⟨dst,op,ty,pos,af,gd⟩=do pure (.value (←s)))→
   Xs P X st' a w av ((execOp a.eval ⟨dst,op,ty,pos,af,gd⟩).run P w):=by
  intro s v w' π' h1 h2 h3 h4
  rw [h4,Sem.run_bind,h1]
  exact ⟨π',h2,h3⟩
 unfold evalOp at he
 split at he
 all_goals (rename_i hop;dsimp only at hop;try subst hop)
 ·
  rename_i x
  split at he
  ·rename_i d te e hx hd ht
   split at he
   ·rename_i hdp
    simp only [Option.some.injEq,Prod.mk.injEq] at he
    obtain ⟨rfl,rfl⟩:=he
    obtain ⟨k1,k2,_⟩:=Ajk h d hdp (T.fr0||e.flat) T.tr0 te e
    have hxr:=Bk h.2 x
    rw [hx] at hxr
    have hxv:a.eval x= .slice none 0 0:=hxr
    show Xs P X _ a w _ (.ok (.value (a.eval x)) w)
    rw [hxv]
    exact ⟨_,k1,k2⟩
   ·cases he
  ·simp only [Option.some.injEq,Prod.mk.injEq] at he
   obtain ⟨rfl,rfl⟩:=he
   exact ⟨π,h,Bk h.2 x⟩
 ·
  rename_i t
  split at he
  ·rename_i d τ hd ht
   obtain ⟨i,hi,hisz,hiby,hiz⟩:=(hT.ty t τ ht).info
   obtain ⟨π',k1,k2⟩:=Ah0 h d t τ (zeroCells τ) (Ak τ) (Abx τ) av st' he
   have hzc:(Ap τ (Ak τ)).cells=(Ak τ).toArray:=by
    cases τ<;>simp [Ap,Ty.Ab,Value.cells,Ak]
   refine val (Instr.alloc t true (.tuple #[])) _ _ π' ?_ k1 k2 rfl
   simp [Instr.alloc,zeroValue,typeInfo,hi,hiz,newVar,newRow,hzc]
  ·cases he
 ·
  rename_i t x
  split at he
  ·rename_i d τ hd ht
   split at he
   ·rename_i cs hc
    obtain ⟨us,hv,hl,hr⟩:=Yb (Bk h.2 x) hc
    obtain ⟨π',k1,k2⟩:=Ah0 h d t τ cs us hr av st' he
    refine val (Instr.box t (a.eval x)) _ _ π' ?_ k1 k2 rfl
    simp [Instr.box,newVar,newRow,hv]
   ·cases he
  ·cases he
 ·
  rename_i t p x
  cases hs:Ih T st t (st.ev p) (st.ev x) with
  |none=>rw [hs] at he;cases he
  |some s=>
   rw [hs] at he
   simp only [Option.map_some,Option.some.injEq,Prod.mk.injEq] at he
   obtain ⟨rfl,rfl⟩:=he
   obtain ⟨w',π',h1,h2⟩:=Af7 hT h t _ _ _ _ (Bk h.2 p) (Bk h.2 x) s hs
   have:(execOp a.eval ⟨dst, .store t p x,ty,pos,af,gd⟩).run P w= .ok .skip w':=by
    show (do Instr.storeAt t (a.eval p) (a.eval x);pure Next.skip:Sem Next).run P w=_
    rw [Sem.run_bind,h1];rfl
   rw [this]
   exact ⟨π',h2,trivial⟩
 ·
  rename_i t l c
  split at he
  ·rename_i d hd
   obtain ⟨v,w',π',h1,h2,h3⟩:=Ahk hT h d t _ _ _ _ (Bk h.2 l) (Bk h.2 c) av st' he
   exact val _ v w' π' h1 h2 h3 rfl
  ·cases he
 ·
  rename_i t
  split at he
  ·rename_i d hd
   obtain ⟨v,w',π',h1,h2,h3⟩:=Adp hT h d t av st' he
   exact val _ v w' π' h1 h2 h3 rfl
  ·cases he
 ·
  rename_i t m k x
  cases hs:Ea T st t (st.ev m) (st.ev k) (st.ev x) with
  |none=>rw [hs] at he;cases he
  |some s=>
   rw [hs] at he
   simp only [Option.map_some,Option.some.injEq,Prod.mk.injEq] at he
   obtain ⟨rfl,rfl⟩:=he
   obtain ⟨w',h1,h2⟩:=Tu hT h t _ _ _ _ _ _ (Bk h.2 m) (Bk h.2 k) (Bk h.2 x) s hs
   have:(execOp a.eval ⟨dst, .mapUpdate t m k x,ty,pos,af,gd⟩).run P w= .ok .skip w':=by
    show (do Instr.mapUpdate t (a.eval m) (a.eval k) (a.eval x);pure Next.skip:Sem Next).run P w=_
    rw [Sem.run_bind,h1];rfl
   rw [this]
   exact ⟨π,h2,trivial⟩
 ·
  rename_i t m k x
  cases hs:Ea T st t (st.ev m) (st.ev k) (st.ev x) with
  |none=>rw [hs] at he;cases he
  |some s=>
   rw [hs] at he
   simp only [Option.map_some,Option.some.injEq,Prod.mk.injEq] at he
   obtain ⟨rfl,rfl⟩:=he
   obtain ⟨w',h1,h2⟩:=Tu hT h t _ _ _ _ _ _ (Bk h.2 m) (Bk h.2 k) (Bk h.2 x) s hs
   have:(execOp a.eval ⟨dst, .insert t m k x,ty,pos,af,gd⟩).run P w= .ok .skip w':=by
    show (do Instr.mapUpdate t (a.eval m) (a.eval k) (a.eval x);pure Next.skip:Sem Next).run P w=_
    rw [Sem.run_bind,h1];rfl
   rw [this]
   exact ⟨π,h2,trivial⟩
 ·
  rename_i t len parts
  split at he
  ·rename_i d hd
   obtain ⟨v,w',π',h1,h2,h3⟩:=Xp hT h d t len parts av st' he
   exact val _ v w' π' h1 h2 h3 rfl
  ·cases he
 ·
  rename_i t parts
  cases hb:Mz T st t parts with
  |none=>rw [hb] at he;cases he
  |some v=>
   rw [hb] at he
   simp only [Option.map_some,Option.some.injEq,Prod.mk.injEq] at he
   obtain ⟨rfl,rfl⟩:=he
   obtain ⟨v',h1,h2⟩:=Wz hT h t parts v hb
   exact val _ v' w π h1 h h2 rfl
 ·
  rename_i args ts
  split at he
  ·rename_i d x y t t' hd hargs hts
   split at he
   ·rename_i htt;subst htt
    have e1:args= #[x,y]:=by apply Array.ext';simpa using hargs
    have e2:ts= #[t,t]:=by apply Array.ext';simpa using hts
    subst e1;subst e2
    obtain ⟨v,w',π',h1,h2,h3⟩:=Adm hT h d t ty x y av st' he
    refine val (Builtin.append_ #[t,t] ty #[a.eval x,a.eval y]) v w' π' h1 h2 h3 ?_
    simp [execOp,resolve,invoke,builtin]
   ·cases he
  ·cases he
 ·
  rename_i args ts
  split at he
  ·rename_i x y t t' hargs hts
   have e1:args= #[x,y]:=by apply Array.ext';simpa using hargs
   have e2:ts= #[t,t']:=by apply Array.ext';simpa using hts
   subst e1;subst e2
   obtain ⟨v,w',h1,h2,h3⟩:=Air hT h t t' ty _ _ _ _ (Bk h.2 x) (Bk h.2 y) av st' he
   refine val (Builtin.copy_ #[t,t'] ty #[a.eval x,a.eval y]) v w' π h1 h2 h3 ?_
   simp [execOp,resolve,invoke,builtin]
  ·cases he
 ·
  rename_i args ts
  split at he
  ·rename_i x t hargs hts
   have e1:args= #[x]:=by apply Array.ext';simpa using hargs
   have e2:ts= #[t]:=by apply Array.ext';simpa using hts
   subst e1;subst e2
   cases hs:evalClear T st t (st.ev x) with
   |none=>rw [hs] at he;cases he
   |some s=>
    rw [hs] at he
    simp only [Option.map_some,Option.some.injEq,Prod.mk.injEq] at he
    obtain ⟨rfl,rfl⟩:=he
    obtain ⟨v,w',h1,h2⟩:=Ahj hT h t ty _ _ (Bk h.2 x) s hs
    refine val (Builtin.clear_ #[t] ty #[a.eval x]) v w' π h1 h2 trivial ?_
    simp [execOp,resolve,invoke,builtin]
  ·cases he
 ·
  rename_i f args ts
  split at he
  ·rename_i s hΓf
   have hs:Dz P f s:=hΓ f _ hΓf
   have:=Ahi h hs dst (args.toList.map st.ev) (args.toList.map a.eval) (by simp) (fun i c v=>Aei h args.toList i c v) av st' he
   rw [Zn a.eval f args ts dst ty pos af gd rfl hs.enter]
   refine ⟨rfl,?_⟩
   rwa [show (args.toList.map a.eval).toArray=args.map a.eval from by apply Array.ext';simp] at this
  ·rename_i s hΓf
   split at he
   ·cases hs:Hy args.toList st with
    |none=>rw [hs] at he;cases he
    |some st1=>
     rw [hs] at he
     obtain ⟨π1,h1⟩:=Abi args.toList h hs
     exact quiet h1 he
   ·exact quiet h he
  ·exact quiet h he
 ·exact quiet h he
end
end Go.Proofs.Ytebabhocakedaaa
