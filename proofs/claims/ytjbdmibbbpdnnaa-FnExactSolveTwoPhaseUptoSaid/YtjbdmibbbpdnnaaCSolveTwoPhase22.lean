/-
  Part 23 of the proof that the statement FnExactSolveTwoPhase holds.
-/
import Derived.Test.YtjbdmibbbpdnnaaCSolveTwoPhase21
namespace Go.Proofs.Ytjbdmibbbpdnnaa
open Go.RowKit
section
variable {P:Program} {T:Tab} {X:Ctx} {w w':World} {π:Pi} {H:List (Nat×OB)}
theorem sQ {π':Pi} {st':St} {a:Act} (h:Al X π' st' a w) (k:Gr π π' H st'.heap) {fr:Bool} (τ:Ty) (cs:List Value) (x:τ.den) (hc:Cells w (Bi X.w0.heap.size X.Sc π fr) τ cs x):
  Cells w (Bi X.w0.heap.size X.Sc π' fr) τ cs x:=
 Cells.Cz (Nat.le_refl _) (λ_ _ _=>rfl) (λb _ hA=>by
  rcases hA with ⟨l,r,hl,hg⟩|h2
  ·have hh:=h.1.heap l
   cases hb:Ag st'.heap l with
   |none=>have:=hh.emp hb;rw [this] at hl;cases hl
   |some b'=>have:=(k l b' hb).1;rw [this] at hl;exact .inl ⟨l,r,hl,hg⟩
  ·exact .inr h2) τ cs x hc
theorem cp.drop {F:List Nat} {l:Nat} (h:cp X w π F):cp X w (Qt π l none) F:=
 ⟨h.1,λb hb=>⟨(h.2 b hb).1,(h.2 b hb).2.1,λm r hm=>by
  by_cases e:m=l
  ·subst e;rw [Dk] at hm;cases hm
  ·rw [Dj π none e] at hm;exact (h.2 b hb).2.2 m r hm⟩⟩
theorem ow {st:St} {a:Act} (h:Al X π st a w) (l:Nat) (hl:l<Am) (f0 t0:Bool) (te:TypeId) (e:Ty):
  Al X (Qt π l none) (st.new l (.arr f0 t0 e te [])) a w/\Ar X w (Qt π l none) (st.new l (.arr f0 t0 e te [])).heap (.at (.own l 0 0)) (.slice none 0 0)/\
   ∀fr τ cs x,Cells w (Bi X.w0.heap.size X.Sc π fr) τ cs x->Cells w (Bi X.w0.heap.size X.Sc (Qt π l none) fr) τ cs x:=
 ⟨h.replace l hl none _ (Kn w _) (λr hr=>by cases hr) (λ_=>rfl),
  xz (St.Dt st l _) (Nat.le_refl _) (by rw [Dk];exact ⟨rfl,rfl,rfl⟩),
  fun fr τ cs x hc=>Cells.Cz (Nat.le_refl _) (λ_ _ _=>rfl) (λb _ hA=>by
  rcases hA with ⟨m,r,hm,hg⟩|h2
  ·by_cases e:m=l
   ·subst e;rw [Dk] at hm;cases hm
   ·rw [Dj π none e] at hm;exact .inl ⟨m,r,hm,hg⟩
  ·exact .inr h2) τ cs x hc⟩
theorem Rg (hT:Ch P T) {st:St} {a:Act} (h:Al X π st a w) (dst:Nat) (t ty:TypeId) (x y:Operand) (av:AV) (st':St) (he:Jk T st dst t x y=some (av,st')):
  ∃v' w' π',(Builtin.append_ #[t,t] ty #[a.eval x,a.eval y]).run P w= .ok v' w'/\Al X π' st' a w'/\Ar X w' π' st'.heap av v':=by
 unfold Jk at he
 split at he
 ·cases he
 ·rename_i te fz
  split at he
  ·rename_i e y' st1 Qw hs
   obtain ⟨Wy,h1,h2,h3,h4,h5⟩:=Wr h (Bx h.2 y) hs
   split at he
   ·cases he
   ·rename_i mK ys hv
    dsimp only at he
    have EO: ∀tr2,tr2=(e.flat||(Nr st (st.ev y)&&e.tree))->tr2=true->e.flat=true\/ ∃F,Bl w F (.slice e) [a.eval y] ys/\cp X w Wy F:=by
     intro tr2 e2 iV
     subst e2
     cases hef:e.flat with
     |true=>exact .inl rfl
     |false=>
     right
     simp only [hef,Bool.false_or,Bool.and_eq_true] at iV
     obtain ⟨F,us,f1,f2,f3,_⟩:=h5 iV.1 (.slice e) mK ys iV.2 hv
     have MH:us= [a.eval y]:=by
      simp only [Bl] at f1
      obtain ⟨a0,len,cap,rfl,_⟩:=f1
      rw [f2];simp [Av,Ty.Ac]
     rw [MH] at f1
     exact ⟨F,f1,f3⟩
    have hyc:Cells w (Bi X.w0.heap.size X.Sc Wy mK) (.slice e) [a.eval y] ys:=Bh.Mh rfl (Kf _ y' _ mK ys h3 h2 hv)
    have GP:=Bx h1.2 x
    split at he
    ·rename_i hx
     rw [hx] at GP
     have hxv:a.eval x= .slice none 0 0:=GP
     split at he
     ·rename_i ke
      simp only [Option.some.injEq,Prod.mk.injEq] at he
      obtain ⟨rfl,rfl⟩:=he
      obtain ⟨k1,k2,k3⟩:=ow h1 dst ke.2 (T.nM||e.flat) T.vo te e
      have:=iq (ty:=ty) hT k1 fz Qw ke.2 (fr3:=mK||e.flat) (tr2:=e.flat||(Nr st (st.ev y)&&e.tree)) rfl (St.Dt st1 dst _) k2 (k3 _ _ _ _ hyc) (by rw [Nat.zero_add];exact ke.1) (λht=>by
       rcases EO _ rfl ht with h0|⟨F,f1,f2⟩
       ·exact .inl h0
       ·exact .inr ⟨F,f1,f2.drop⟩)
      rw [<-hxv] at this
      exact this
     ·cases he
    ·rename_i l off len hx
     rw [hx] at GP
     split at he
     ·rename_i fr tr e' tid xs hl
      split at he
      ·rename_i Fv
       obtain ⟨rfl,rfl⟩:=Fv
       split at he
       ·rename_i ke
        simp only [Option.some.injEq,Prod.mk.injEq] at he
        obtain ⟨rfl,rfl⟩:=he
        exact iq (ty:=ty) hT h1 fz Qw ke.2 (fr3:=mK||e'.flat) (tr2:=e'.flat||(Nr st (st.ev y)&&e'.tree)) rfl hl GP hyc ke.1 (EO _ rfl)
       ·cases he
      ·cases he
     ·cases he
    ·cases he
  ·cases he
theorem iE (hT:Ch P T) {st:St} {a:Act} (h:Al X π st a w) (dst:Nat) (t ty:TypeId) (x y:Operand) (av:AV) (st':St) (he:Lz T st dst t x y=some (av,st')):
  ∃v' w' π',(Builtin.append_ #[t,t] ty #[a.eval x,a.eval y]).run P w= .ok v' w'/\Al X π' st' a w'/\Ar X w' π' st'.heap av v':=by
 unfold Lz at he
 split at he
 ·rename_i tx
  split at he
  ·rename_i l i c hg
   split at he
   ·rename_i e te rows kp tid hl _
    split at he
    ·rename_i hc
     simp only [Bool.and_eq_true,Nat.blt_eq,Bool.not_eq_true'] at hc
     have eV:dst≠l:= λe=>by rw [e,Nat.beq_refl] at hc;cases hc.2.2
     unfold St.at at hl
     have hv:Ec X w π st.heap (.sub l i c) (a.tmps.getD tx undef):=by
      have:=h.2.tmps tx
      rw [hg] at this
      exact this
     obtain ⟨Wy,h1,h2⟩:=zx (tid:=tid) h hl eV hc.2.1 hc.1 hv
     have h3:=h1.put (some tx) (c:= .at (.own dst 0 (rows.getD i []).length)) h2
     have Adm:a.put (some tx) (a.tmps.getD tx undef)=a:=by
      have:a.tmps.setIfInBounds tx (a.tmps.getD tx undef)=a.tmps:=by
       apply Array.ext_getElem?
       intro k
       rw [Array.getElem?_setIfInBounds]
       split
       ·rename_i e
        subst e
        split
        ·rename_i Hm
         rw [Array.getElem?_eq_getElem Hm];simp
        ·rename_i Hm
         rw [Array.getElem?_eq_none (by omega)]
       ·rfl
      simp only [Act.put,this]
     rw [Adm] at h3
     exact Rg hT h3 dst t ty (.tmp tx) y av st' he
    ·cases he
   ·cases he
  ·exact Rg hT h dst t ty _ y av st' he
 ·exact Rg hT h dst t ty x y av st' he
theorem CY {S:Nat->Prop} {e:Ty} (h:ie e=true): ∃z,At e= [z]/\e.Ac=false/\e.size=1/\Cells w S e [z] e.zero/\z.oneCell'=true:=by
 cases e<;>simp [ie] at h
 ·exact ⟨_,rfl,rfl,rfl,rfl,rfl⟩
 ·exact ⟨_,rfl,rfl,rfl,rfl,rfl⟩
 ·exact ⟨_,rfl,rfl,rfl,rfl,rfl⟩
 ·exact ⟨_,rfl,rfl,rfl,⟨none,0,0,rfl,rfl,Nat.le_refl _, .inl rfl⟩,rfl⟩
 ·exact ⟨_,rfl,rfl,rfl, .inl ⟨rfl,0,rfl⟩,rfl⟩
theorem yV {e:Ty} {z:Value} (ht:e.tree=true) (h:ie e=true) (hz:At e= [z]):Bl w [] e [z] e.zero:=by
 cases e<;>simp [ie] at h<;>simp only [At,List.cons.injEq,and_true] at hz<;>subst hz<;>try (simp [Ty.tree] at ht;done)
 ·exact ⟨rfl,rfl⟩
 ·exact ⟨rfl,rfl⟩
 ·exact ⟨rfl,rfl⟩
 ·exact ⟨none,0,0,rfl,rfl,Nat.le_refl _, .inl ⟨rfl,rfl,rfl,rfl⟩⟩
theorem QD {S:Nat->Prop} : ∀(e:Ty),bE e=true->(At e).length=e.size/\Cells w S e (At e) e.zero/\(e.tree=true->Bl w [] e (At e) e.zero):=by
 intro e
 induction e with
 |unit=>intro _;exact ⟨rfl,rfl,λ_=>⟨rfl,rfl⟩⟩
 |pair a r ij eE=>
  intro h
  simp only [bE,Bool.and_eq_true] at h
  obtain ⟨a1,a2,a3⟩:=ij h.1
  obtain ⟨r1,r2,r3⟩:=eE h.2
  exact ⟨by simp [At,Ty.size,a1,r1],⟨_,_,rfl,a2,r2⟩,λht=>by simp only [Ty.tree,Bool.and_eq_true] at ht;exact ⟨_,_,[],[],rfl,rfl,a3 ht.1,r3 ht.2⟩⟩
 |_=>
  intro h
  simp only [bE] at h
  obtain ⟨z,z1,z2,z3,z4,_⟩:=CY (w:=w) (S:=S) h
  exact ⟨by rw [z1,z3];rfl,by rw [z1];exact z4,λht=>by rw [z1];exact yV ht h z1⟩
theorem EY {z:Array Value} {s m j q:Nat} (hz:z.size=s) (hj:j<m) (hq:q<s):(madeCells z (m*s))[j*s+q]?=z[q]?:=by
 have h1:j*s+q<m*s:=by
  have:=Nat.mul_le_mul_right s (show j+1<=m by omega)
  rw [Nat.succ_mul] at this
  omega
 have h2:(j*s+q)%z.size=q:=by rw [hz,Nat.mul_comm,Nat.mul_add_mod,Nat.mod_eq_of_lt hq]
 have h3:q<z.size:=by omega
 unfold madeCells
 simp [h1,h2,h3]
theorem nH (hT:Ch P T) {st:St} {a:Act} (h:Al X π st a w) (dst:Nat) (t:TypeId) (l c:AV) (vl vc:Value) (hl:Ar X w π st.heap l vl) (hc:Ar X w π st.heap c vc) (av:AV) (st':St)
  (he:Vw T st dst t l c=some (av,st')): ∃v' w' π',(Instr.makeSlice t vl vc).run P w= .ok v' w'/\Al X π' st' a w'/\Ar X w' π' st'.heap av v':=by
 unfold Vw at he
 split at he
 ·rename_i te UN k1 n mK k2 m fz
  have:=Kr hl;subst this
  have:=Kr hc;subst this
  split at he
  ·rename_i e Qw
   split at he
   ·rename_i Fv
    obtain ⟨h0,hnm,hz,wU⟩:=Fv
    obtain ⟨h1,h2⟩:=Oc.1 h0
    subst hnm
    simp only [Option.some.injEq,Prod.mk.injEq] at he
    obtain ⟨rfl,rfl⟩:=he
    obtain ⟨i,hi,Pn,mi,nV⟩:=(hT.ty te e Qw).info
    obtain ⟨z1,z4,z5⟩:=QD (w:=w) (S:=Bi X.w0.heap.size X.Sc π (T.nM||e.flat)) e hz
    have MI:(Av e (At e)).cells=(At e).toArray:=Gu e _ _ z4
    have hu:=hT.elem t te fz
    have hn:n.toNat<=4294967296:=by unfold Bm at h2;omega
    have hr:=run_make (P:=P) (w:=w) t te i _ hu hi nV k1 k2 n n h1 (Int.le_refl _) (by
     have:(i.bytes:Int)*n<=256*4294967296:=by
      obtain ⟨nn,rfl⟩:=Int.eq_ofNat_of_zero_le h1
      have h7:i.bytes*nn<=256*4294967296:=Nat.mul_le_mul mi (by simpa using hn)
      have h8:((i.bytes*nn:Nat):Int)<=256*4294967296:=by omega
      rwa [Int.natCast_mul] at h8
     omega) (by unfold Bm at h2;omega)
    rw [MI,Pn] at hr
    have Pr:((At e).toArray).size=e.size:=by simpa using z1
    have cell: ∀j,j<n.toNat-> ∀q u,(At e)[q]?=some u->(madeCells (At e).toArray (n.toNat*e.size)).toList[j*e.size+q]?=some u:=by
     intro j hj q u hu
     have hq:q<e.size:=by rw [<-z1];exact (List.getElem?_eq_some_iff.1 hu).1
     have:=EY Pr hj hq
     rw [Array.getElem?_toList,this]
     simpa using hu
    have:=aX (w1:=w.alloc (.cells (madeCells (At e).toArray (n.toNat*e.size)) te)) h dst wU (T.nM||e.flat) (T.vo&&e.tree) e te (List.replicate n.toNat e.zero) (madeCells (At e).toArray (n.toNat*e.size)).toList (madeCells (At e).toArray (n.toNat*e.size)) n.toNat []
     (.inr rfl) (by rw [size_madeCells]) (by unfold maxLen;omega) (by simp)
     (λk u hu=>by
      rw [Array.getElem?_toList] at hu;exact hu) ⟨by simp [size_madeCells],λj x hx=>by
       have hj:=(List.getElem?_eq_some_iff.1 hx).1
       simp only [List.length_replicate] at hj
       refine ⟨At e,z1,λq u hu=>cell j hj q u hu,?_⟩
       rw [List.eq_of_mem_replicate (List.mem_of_getElem? hx)];exact z4⟩ (by simp) (λiV=>⟨List.nodup_nil,List.replicate n.toNat [],by simp,by simp,λj x F hx hF=>by
      have hj:=(List.getElem?_eq_some_iff.1 hx).1
      simp only [List.length_replicate] at hj
      refine ⟨At e,z1,λq u hu=>cell j hj q u hu,?_⟩
      have e1:=List.eq_of_mem_replicate (List.mem_of_getElem? hx)
      have e2:=List.eq_of_mem_replicate (List.mem_of_getElem? hF)
      rw [e1,e2]
      exact z5 (by simp only [Bool.and_eq_true] at iV;exact iV.2)⟩)
    exact ⟨_,_,_,hr,this.1,this.2 _ (by simp)⟩
   ·cases he
  ·cases he
 ·cases he
theorem cR (off:Nat): ∀(us:List Value) (k:Nat) (cells:List Value),off+k+us.length<=cells.length->
  (us.zipIdx k).foldl (λcs p=>cs.setIfInBounds (off+p.2) p.1) cells.toArray=(Bp cells (off+k) us).toArray
 | [],k,cells,h=>by simp [Bp]
 |u::us,k,cells,h=>by
  simp only [List.zipIdx_cons,List.foldl_cons]
  rw [show cells.toArray.setIfInBounds (off+k) u=(cells.set (off+k) u).toArray by simp]
  rw [cR off us (k+1) (cells.set (off+k) u) (by simp at h⊢;omega)]
  congr 1
  apply List.ext_getElem?
  intro j
  have hl:off+k+(u::us).length<=cells.length:=h
  have yX:off+(k+1)+us.length<=(cells.set (off+k) u).length:=by simp at h⊢;omega
  rw [Ei _ _ _ _ hl,Ei _ _ _ _ yX]
  simp only [List.length_cons]
  by_cases h1:j<off+k
  ·rw [if_pos (by omega),if_pos h1,List.getElem?_set_ne (by omega)]
  ·rw [if_neg h1]
   by_cases h2:j=off+k
   ·subst h2
    rw [if_pos (by omega),if_pos (by omega),List.getElem?_set_self (by simp at h;omega)]
    simp
   ·rw [if_neg (by omega)]
    by_cases h3:j<off+k+(us.length+1)
    ·rw [if_pos (by omega),if_pos h3]
     rw [show j-(off+k)=(j-(off+(k+1)))+1 by omega,List.getElem?_cons_succ]
    ·rw [if_neg (by omega),if_neg h3,List.getElem?_set_ne (by omega)]
theorem rm (place:Nat->Option (Nat×Nat)) (cells:List Value) (i:Nat) (v:Value) (rest:List (Nat×Value)) (off size:Nat) (us:List Value) (hp:place i=some (off,size)) (hv:v.cells=us.toArray)
  (hl:us.length=size) (hle:off+size<=cells.length):Instr.fill place cells.toArray ((i,v)::rest)=Instr.fill place (Bp cells off us).toArray rest:=by
 simp only [Instr.fill,hp,hv,List.size_toArray,hl]
 rw [if_neg (by simp;omega)]
 congr 1
 have:=cR off us 0 cells (by omega)
 simp only [Nat.add_zero] at this
 rw [<-this]
 simp
theorem Re (e:Ty) {a:Act} : ∀(parts:List (Nat×Operand)) (i:Nat) (st:St) (π:Pi) (fr tr:Bool) (ys:List e.den) (st':St) (cells:List Value),Al X π st a w->Hc e i parts st=some (fr,tr,ys,st')->
  (i+parts.length)*e.size<=cells.length->
  ∃π' cl,Al X π' st' a w/\Flat w (Bi X.w0.heap.size X.Sc π' fr) e cl ys/\ys.length=parts.length/\Gr π π' st.heap st'.heap/\
   Instr.fill (λi=>some (i*e.size,e.size)) cells.toArray (parts.map λp=>(p.1,a.eval p.2))=some (Bp cells (i*e.size) cl).toArray/\
   (tr=true-> ∃Fs,Mz w e cl ys Fs/\cp X w π' (List.flatten Fs)/\ ∀b∈List.flatten Fs,∃l r,π l=some r/\r.cl b)
 | [],i,st,π,fr,tr,ys,st',cells,h,he,hle=>by
  simp only [Hc,Option.some.injEq,Prod.mk.injEq] at he
  obtain ⟨rfl,rfl,rfl,rfl⟩:=he
  exact ⟨π,[],h,Flat.nil,rfl,Gr.refl _ _,by simp [Instr.fill,Bp],λ_=>⟨[],⟨rfl,λi z F hz=>by simp at hz⟩,⟨List.nodup_nil,by simp⟩,by simp⟩⟩
 |(j,x)::r,i,st,π,fr,tr,ys,st',cells,h,he,hle=>by
  simp only [Hc] at he
  split at he
  ·rename_i fv;subst fv
   split at he
   ·rename_i v' st1 hs
    obtain ⟨Wy,h1,h2,h3,h4,h5⟩:=Wr h (Bx h.2 x) hs
    split at he
    ·rename_i UN y hv
     split at he
     ·rename_i mK tr2 zs st2 hr
      simp only [Option.some.injEq,Prod.mk.injEq] at he
      obtain ⟨rfl,rfl,rfl,rfl⟩:=he
      obtain ⟨es,ao,zJ⟩:=Kf e v' _ UN y h3 h2 hv
      have iS:=Cells.len e es y ao
      have Aig:i*e.size+e.size<=cells.length:=by
       have:(i+1)*e.size<=(i+((i,x)::r).length)*e.size:=Nat.mul_le_mul_right _ (by simp)
       rw [Nat.add_mul,Nat.one_mul] at this
       omega
      have EG:i*e.size+es.length<=cells.length:=by omega
      obtain ⟨JU,cl,g1,g2,g3,g4,g5,g6⟩:=Re e r (i+1) st1 Wy mK tr2 zs st2 (Bp cells (i*e.size) es) h1 hr (by
       rw [Ey _ _ _ EG]
       rw [show i+1+r.length=i+((i,x)::r).length by simp;omega];exact hle)
      have f1:Flat w (Bi X.w0.heap.size X.Sc JU UN) e es [y]:=⟨by simp [iS],λq z hz=>by
       rcases q with _|q
       ·simp at hz;subst hz
        exact ⟨es,iS,λj u hu=>by simpa using hu,sQ g1 g4 e es y ao⟩
       ·simp at hz⟩
      refine ⟨JU,es++cl,g1,?_,by simp [g3],h4.trans g4,?_,λht=>?_⟩
      ·have:=(f1.cells λes z hc=>hc.and_left (f2:=mK)).append (g2.cells λes z hc=>hc.and_right (f1:=UN))
       simpa using this
      ·simp only [List.map_cons]
       rw [rm _ cells i (a.eval x) _ (i*e.size) e.size es rfl (by rw [zJ];exact Gu e es y ao) iS Aig,g5]
       congr 2
       have Ob:cl.length=r.length*e.size:=by rw [g2.1,g3]
       have Qb:(i+1)*e.size+cl.length<=(Bp cells (i*e.size) es).length:=by
        rw [Ey _ _ _ EG,Ob,<-Nat.add_mul]
        rw [show i+1+r.length=i+((i,x)::r).length by simp;omega];exact hle
       have Aco:i*e.size+(es++cl).length<=cells.length:=by
        rw [Ey _ _ _ EG] at Qb
        rw [List.length_append,iS]
        rw [Nat.add_mul,Nat.one_mul] at Qb
        omega
       have e1:(i+1)*e.size=i*e.size+es.length:=by rw [Nat.add_mul,Nat.one_mul,iS]
       apply List.ext_getElem?
       intro k
       rw [Ei _ _ _ _ Qb,Ei _ _ _ _ Aco,Ei _ _ _ _ EG,e1,List.length_append]
       by_cases k1:k<i*e.size
       ·rw [if_pos (by omega),if_pos k1,if_pos k1]
       ·rw [if_neg k1,if_neg k1]
        by_cases k2:k<i*e.size+es.length
        ·rw [if_pos k2,if_pos k2,if_pos (by omega),List.getElem?_append_left (by omega)]
        ·rw [if_neg k2,if_neg k2]
         by_cases k3:k<i*e.size+es.length+cl.length
         ·rw [if_pos k3,if_pos (by omega),List.getElem?_append_right (by omega)]
          congr 1;omega
         ·rw [if_neg k3,if_neg (by omega)]
      ·simp only [Bool.and_eq_true] at ht
       obtain ⟨⟨ht1,VW⟩,ht3⟩:=ht
       obtain ⟨F,us,t1,t2,t3,t7⟩:=h5 ht1 e UN y VW hv
       obtain ⟨Fs,t4,t5,t6⟩:=g6 ht3
       have MH:us=es:=by
        have c1:=Bl.cells (S:= λ_=>False) F e us y t1 (λ_ _ h=>h)
        have a1:=Gu e us y c1
        have a2:=Gu e es y ao
        rw [<-t2,zJ,a2] at a1
        simpa using a1.symm
       subst MH
       refine ⟨F::Fs,?_,?_,λb hb=>?_⟩
       ·have k1:Mz w e us [y] [F]:=⟨rfl,λq z G hz hG=>by
         rcases q with _|q
         ·simp at hz hG;subst hz;subst hG
          exact ⟨us,iS,λj u hu=>by simpa using hu,t1⟩
         ·simp at hz⟩
        exact Mz.append (by simp [iS]) k1 t4
       ·rw [List.flatten_cons]
        refine ⟨List.nodup_append.2 ⟨t3.1,t5.1,λb hb b' pM e=>?_⟩,λb hb=>?_⟩
        ·subst e
         obtain ⟨l,r,q1,q2⟩:=t6 b pM
         exact (t3.2 b hb).2.2 l r q1 q2
        ·rcases List.mem_append.1 hb with hb|hb
         ·have:=t3.2 b hb
          refine ⟨this.1,this.2.1,λl r q1 q2=>?_⟩
          cases hh:Ag st2.heap l with
          |none=>rw [(g1.1.heap l).emp hh] at q1;cases q1
          |some b'=>exact this.2.2 l r ((g4 l b' hh).1▸q1) q2
         ·exact t5.2 b hb
       ·rw [List.flatten_cons] at hb
        rcases List.mem_append.1 hb with hb|hb
        ·exact t7 b hb
        ·obtain ⟨l,r,q1,q2⟩:=t6 b hb
         cases hh:Ag st1.heap l with
         |none=>rw [(h1.1.heap l).emp hh] at q1;cases q1
         |some b'=>exact ⟨l,r,(h4 l b' hh).1▸q1,q2⟩
     ·cases he
    ·cases he
   ·cases he
  ·cases he
theorem cM (hT:Ch P T) {st:St} {a:Act} (h:Al X π st a w) (dst:Nat) (t:TypeId) (len:Nat) (parts:Array (Nat×Operand)) (av:AV) (st':St)
  (he:Hz T st dst t len parts=some (av,st')):
  ∃v' w' π',(Instr.buildSlice t len (parts.map λ(i,x)=>(i,a.eval x))).run P w= .ok v' w'/\Al X π' st' a w'/\Ar X w' π' st'.heap av v':=by
 unfold Hz at he
 split at he
 ·cases he
 ·rename_i te fz
  split at he
  ·cases he
  ·rename_i e Qw
   split at he
   ·rename_i Fv
    obtain ⟨cZ,hlen⟩:=Fv
    split at he
    ·rename_i fr tr ys st1 hb
     simp only [Option.some.injEq,Prod.mk.injEq] at he
     obtain ⟨rfl,rfl⟩:=he
     obtain ⟨i,hi,Pn,mi,nV⟩:=(hT.ty te e Qw).info
     have hu:=hT.elem t te fz
     have GL:parts.toList.length=len:=by simpa using cZ
     have hz: ∃z:Array Value,(len*e.size=0/\z= #[])\/(¬len*e.size=0/\(zeroValue te).run P w= .ok (Av e (At e)) w/\z=(Av e (At e)).cells):=by
      by_cases h0:len*e.size=0
      ·exact ⟨#[], .inl ⟨h0,rfl⟩⟩
      ·exact ⟨_, .inr ⟨h0,by simp [zeroValue,typeInfo,hi,nV],rfl⟩⟩
     obtain ⟨z,hz⟩:=hz
     obtain ⟨Wy,cl,g1,g2,g3,g4,g5,g6⟩:=Re e parts.toList 0 st π fr tr ys st1 ((Array.range (len*e.size)).map (z[· %z.size]!)).toList h hb (by simp [GL])
     have Ob:cl.length=len*e.size:=by rw [g2.1,g3,GL]
     have KB:(Bp ((Array.range (len*e.size)).map (z[· %z.size]!)).toList (0*e.size) cl)=cl:=by
      simp [Bp,Ob]
     rw [KB] at g5
     have Po:(Instr.buildSlice t len (parts.map λ(i,x)=>(i,a.eval x))).run P w= .ok (.slice (some ⟨w.heap.size,0,none⟩) len len) (w.alloc (.cells cl.toArray te)):=by
      have h24: ¬(len*e.size>2^24):=by
       have:len*e.size<=64*64:=Nat.mul_le_mul hlen.1 hlen.2.1
       omega
      simp only [Instr.buildSlice,Sem.run_bind,run_underlying hu,Result.andThen_ok,(hT.ty te e Qw).size,if_neg h24]
      have e1:(parts.map λ(i,x)=>(i,a.eval x)).toList=parts.toList.map λp=>(p.1,a.eval p.2):=by simp
      simp only [e1]
      have e2:(((Array.range (len*e.size)).map (z[· %z.size]!)).toList.toArray)=(Array.range (len*e.size)).map (z[· %z.size]!):=Array.toArray_toList
      rw [e2] at g5
      rcases hz with ⟨h0,rfl⟩|⟨h0,hz,rfl⟩
      ·rw [if_pos h0]
       simp only [Sem.run_bind,Sem.run_pure,Result.andThen_ok,g5,newRow]
       simp
      ·rw [if_neg h0]
       simp only [Sem.run_bind,Sem.run_pure,Result.andThen_ok,hz,g5,newRow]
       simp
     have hN: ∃N:List Nat,(∀b∈N,(X.w0.heap.size<=b\/X.gv b)/\b<w.heap.size/\ ∀m r0,m≠dst->Wy m=some r0-> ¬r0.cl b)/\(tr=true->N.Nodup/\ ∃Fs,List.flatten Fs=N/\Mz w e cl ys Fs):=by
      cases tr with
      |false=>exact ⟨[],by simp,λh=>by cases h⟩
      |true=>
       obtain ⟨Fs,t1,t2,_⟩:=g6 rfl
       exact ⟨_,λb hb=>⟨(t2.2 b hb).1,(t2.2 b hb).2.1,λm r0 _=>(t2.2 b hb).2.2 m r0⟩,λ_=>⟨t2.1,Fs,rfl,t1⟩⟩
     obtain ⟨N,q1,q2⟩:=hN
     have:=aX (w1:=w.alloc (.cells cl.toArray te)) g1 dst hlen.2.2 ((T.nM||e.flat)&&fr) (T.vo&&tr) e te ys cl cl.toArray len N (.inr rfl) (by simpa using Ob) (by simp only [maxLen];omega) (by omega) (λk u hu=>by simpa using hu) (g2.cells λes z hc=>hc.and_right) q1 (λht=>q2 (by simp only [Bool.and_eq_true] at ht;exact ht.2))
     exact ⟨_,_,_,Po,this.1,this.2 _ (by omega)⟩
    ·cases he
   ·cases he
theorem gA {t te:TypeId} {e:Ty} (h:Zm T t=some (te,e)):T.elem t=some te/\T.ty te=some (.slice e):=by
 unfold Zm at h
 cases he:T.elem t with
 |none=>rw [he] at h;cases h
 |some Lw=>
  rw [he] at h
  simp only [Option.bind_some] at h
  cases hg:T.DY Lw with
  |none=>rw [hg] at h;cases h
  |some e'=>
   rw [hg] at h
   simp only [Option.map_some,Option.some.injEq,Prod.mk.injEq] at h
   obtain ⟨rfl,rfl⟩:=h
   refine ⟨rfl,?_⟩
   unfold Tab.DY at hg
   split at hg
   ·split at hg
    ·rename_i Qw;simp only [Option.some.injEq] at hg;subst hg;exact Qw
    ·cases hg
   ·cases hg
theorem ir (w:World) (o:Obj):Gq w.heap.size (λ_=>False) w (w.alloc o):=⟨rfl,rfl,rfl,by simp,λk hk _=>Below.heap_alloc w _ k hk⟩
theorem lh (w:World) (o:Obj):Gq w.heap.size (λ_=>False) w (w.drew.alloc o):=⟨rfl,rfl,rfl,by simp,λk hk _=>Below.heap_alloc w.drew _ k hk⟩
theorem mg (hT:Ch P T) {st:St} {a:Act} (h:Al X π st a w) (dst:Nat) (t:TypeId) (l c:AV) (vl vc:Value) (hl:Ar X w π st.heap l vl) (hc:Ar X w π st.heap c vc) (av:AV) (st':St)
  (he:Rk T st dst t l c=some (av,st')): ∃v' w' π',(Instr.makeSlice t vl vc).run P w= .ok v' w'/\Al X π' st' a w'/\Ar X w' π' st'.heap av v':=by
 unfold Rk at he
 split at he
 ·exact nH hT h dst t l c vl vc hl hc av st' he
 ·rename_i te e hg
  obtain ⟨fz,Qw⟩:=gA hg
  split at he
  ·rename_i UN k1 n mK k2 m
   have:=Kr hl;subst this
   have:=Kr hc;subst this
   split at he
   ·rename_i Fv
    obtain ⟨h0,hnm,wU⟩:=Fv
    obtain ⟨h1,h2⟩:=Oc.1 h0
    subst hnm
    simp only [Option.some.injEq,Prod.mk.injEq] at he
    obtain ⟨rfl,rfl⟩:=he
    obtain ⟨i,hi,Pn,mi,nV⟩:=(hT.ty te _ Qw).info
    have hu:=hT.elem t te fz
    have hn:n.toNat<=4294967296:=by unfold Bm at h2;omega
    have hr:=run_make (P:=P) (w:=w) t te i _ hu hi nV k1 k2 n n h1 (Int.le_refl _) (by
     have:(i.bytes:Int)*n<=256*4294967296:=by
      obtain ⟨nn,rfl⟩:=Int.eq_ofNat_of_zero_le h1
      have h7:i.bytes*nn<=256*4294967296:=Nat.mul_le_mul mi (by simpa using hn)
      have h8:((i.bytes*nn:Nat):Int)<=256*4294967296:=by omega
      rwa [Int.natCast_mul] at h8
     omega) (by unfold Bm at h2;omega)
    have MI:(Av (Ty.slice e) (At (Ty.slice e))).cells= #[.slice none 0 0]:=by simp [Av,Ty.Ac,At,Value.cells]
    have mO:(Ty.slice e).size=1:=rfl
    rw [MI,Pn,mO] at hr
    have cell: ∀j,j<n.toNat->(madeCells #[Value.slice none 0 0] (n.toNat*1))[0+j]?=some (.slice none 0 0):=by
     intro j hj
     have:=EY (z:= #[Value.slice none 0 0]) (s:=1) (m:=n.toNat) (j:=j) (q:=0) rfl hj (by omega)
     simp only [Nat.mul_one,Nat.add_zero] at this
     simp only [Nat.mul_one,Nat.zero_add]
     rw [this];rfl
    obtain ⟨π',g1,g2⟩:=Tf (w1:=w.alloc (.cells (madeCells #[Value.slice none 0 0] (n.toNat*1)) te)) (gv:= λ_=>False) h wU wU te (e:=e) (rows:=List.replicate n.toNat []) (us:=List.replicate n.toNat (.slice none 0 0)) (Rs:=List.replicate n.toNat none) (g:=w.heap.size) (o:=0) (cap:=n.toNat)
     (λ_ hf=>hf.elim) (ir w _) ⟨.inl (Nat.le_refl _),by simp⟩ (heap_alloc_new w _) (by rw [size_madeCells];omega) (by unfold maxLen;omega) (by simp) (λj u hu=>by
      have hj:=(List.getElem?_eq_some_iff.1 hu).1
      simp only [List.length_replicate] at hj
      rw [cell j hj,List.eq_of_mem_replicate (List.mem_of_getElem? hu)])
     ⟨by simp,by simp,λi j q q' h1=>(by have:=List.eq_of_mem_replicate (List.mem_of_getElem? h1);cases this),λi x hx=>by
      have hj:=(List.getElem?_eq_some_iff.1 hx).1
      simp only [List.length_replicate] at hj
      rw [List.eq_of_mem_replicate (List.mem_of_getElem? hx)]
      exact ⟨.slice none 0 0,none,by rw [List.getElem?_replicate,if_pos hj],by rw [List.getElem?_replicate,if_pos hj],⟨rfl,rfl,rfl⟩,rfl⟩⟩
     (λi q h1=>by have:=List.eq_of_mem_replicate (List.mem_of_getElem? h1);cases this)
    exact ⟨_,_,π',hr,g1,g2 _ (by simp)⟩
   ·cases he
  ·cases he
theorem cb (hT:Ch P T) {st:St} {a:Act} (h:Al X π st a w) (dst:Nat) (t:TypeId) (len:Nat) (parts:Array (Nat×Operand)) (av:AV) (st':St)
  (he:Ez T st dst t len parts=some (av,st')):
  ∃v' w' π',(Instr.buildSlice t len (parts.map λ(i,x)=>(i,a.eval x))).run P w= .ok v' w'/\Al X π' st' a w'/\Ar X w' π' st'.heap av v':=by
 unfold Ez at he
 split at he
 ·exact cM hT h dst t len parts av st' he
 ·rename_i te e hg
  obtain ⟨fz,Qw⟩:=gA hg
  split at he
  rotate_left
  ·cases he
  rename_i x YI
  split at he
  rotate_left
  ·cases he
  rename_i m off ln hx
  split at he
  rotate_left
  ·cases he
  rename_i fr tr e' tid xs hm
  split at he
  rotate_left
  ·cases he
  rename_i hc
  obtain ⟨rfl,hc,rfl,rfl⟩:=hc
  simp only [Bool.and_eq_true,Nat.blt_eq] at hc
  obtain ⟨hlen,wU,QO⟩:=hc
  have hlen:len=1:=Nat.eq_of_beq_eq_true hlen
  subst hlen
  simp only [Option.some.injEq,Prod.mk.injEq] at he
  obtain ⟨rfl,rfl⟩:=he
  have hu:=hT.elem t te fz
  unfold St.at at hm
  have hrx:=Bx h.2 x
  rw [hx] at hrx
  obtain ⟨_,pN⟩:=Jx (X:=X) (w:=w) hrx hm
  obtain ⟨ax,nx,cx,SM⟩:=Uw pN
  have hp:parts= #[(0,x)]:=by apply Array.ext';simpa using YI
  subst hp
  obtain ⟨i,hi,Pn,mi,nV⟩:=(hT.ty te _ Qw).info
  have Po:(Instr.buildSlice t 1 (#[(0,x)].map λ(i,x)=>(i,a.eval x))).run P w= .ok (.slice (some ⟨w.heap.size,0,none⟩) 1 1) (w.alloc (.cells #[a.eval x] te)):=by
   have mO:(Ty.slice e').size=1:=rfl
   have hz:(zeroValue te).run P w= .ok (.slice none 0 0) w:=by simp [zeroValue,typeInfo,hi,nV,Av,Ty.Ac,At]
   have QO:(#[(0,x)].map λ(i,x)=>(i,a.eval x))= #[(0, .slice ax nx cx)]:=by simp [SM]
   rw [QO,SM]
   simp only [Instr.buildSlice,Sem.run_bind,run_underlying hu,Result.andThen_ok,(hT.ty te _ Qw).size,mO]
   simp [Value.cells,Instr.fill,newRow,hz]
   congr 2
   apply Array.ext
   ·simp
   ·intro i h1 h2
    have h0:i=0:=by simpa using h2
    subst h0
    simp
  have yW:=(h.1.heap m).Na hm
  simp only [Ay,Fz] at yW
  have hfa:Nd w (Bi X.w0.heap.size X.Sc π false) (π m) e' xs:=by
   cases hR:π m with
   |none=>rw [hR] at yW;exact yW
   |some q=>
    rw [hR] at yW
    obtain ⟨⟨f0,f0',_⟩,cu,QU,f2,f3,f4,f5,f6,_⟩:=yW
    exact ⟨⟨f0,f0'⟩,cu,QU,f2,f3,f4,f5,λp y hy=>by
     obtain ⟨es,g1,g2,g3⟩:=f6 p y hy
     exact ⟨es,g1,g2,Cells.Cz (Nat.le_refl _) (λ_ _ _=>rfl) (λb _ hA=>hA.imp id (Or.imp id λ⟨h1,_⟩=>by cases h1)) e' es y g3⟩⟩
  obtain ⟨π',g1,g2⟩:=Tf (w1:=w.alloc (.cells #[a.eval x] te)) (gv:= λ_=>False) h wU QO te (e:=e') (rows:= [xs]) (us:= [a.eval x]) (Rs:= [π m]) (g:=w.heap.size) (o:=0) (cap:=1)
   (λ_ hf=>hf.elim) (ir w _) ⟨.inl (Nat.le_refl _),by simp⟩ (heap_alloc_new w _) rfl (by unfold maxLen;omega) (by simp) (λj u hu=>by
    rcases j with _|j
    ·simpa using hu
    ·simp at hu)
   ⟨rfl,rfl,λi j q q' h1 h2 _=>by
    rcases i with _|i
    ·rcases j with _|j
     ·rfl
     ·simp at h2
    ·simp at h1,λi y hy=>by
    rcases i with _|i
    ·simp only [List.getElem?_cons_zero,Option.some.injEq] at hy
     subst hy
     exact ⟨_,_,rfl,rfl,pN,hfa⟩
    ·simp at hy⟩
   (λi q h1=>by
    rcases i with _|i
    ·simp only [List.getElem?_cons_zero,Option.some.injEq] at h1
     have hf:=h.1.Bc h1
     have:=(h.1.place m q _ h1 (h.1.sub m q _ h1 hf)).2
     exact ⟨by omega,λh=>h,m,q, .inr rfl,h1,hf⟩
    ·simp at h1)
  exact ⟨_,_,π',Po,g1,g2 1 rfl⟩
theorem iF (hT:Ch P T) {st:St} {a:Act} (h:Al X π st a w) (dst:Nat) (t ty:TypeId) (x y:Operand) (av:AV) (st':St) (he:Ma T st dst t x y=some (av,st')):
  ∃v' w' π',(Builtin.append_ #[t,t] ty #[a.eval x,a.eval y]).run P w= .ok v' w'/\Al X π' st' a w'/\Ar X w' π' st'.heap av v':=by
 unfold Ma at he
 split at he
 ·exact iE hT h dst t ty x y av st' he
 ·rename_i te e hg
  obtain ⟨fz,Qw⟩:=gA hg
  split at he
  rotate_left
  ·cases he
  rename_i l off len m NJ od hx hy
  split at he
  rotate_left
  ·cases he
  rename_i e1 te1 A kp1 e2 qO B kp2 hl hm
  split at he
  rotate_left
  ·cases he
  rename_i hc
  obtain ⟨⟨rfl,rfl⟩,hc,⟨rfl,rfl⟩,⟨rfl,rfl⟩,hB,ke⟩:=hc
  simp only [Bool.and_eq_true,Nat.blt_eq,decide_eq_true_eq,Bool.not_eq_true'] at hc
  obtain ⟨⟨rfl,rfl⟩,q8,QO,eV⟩:=hc
  have eV:m≠l:= λe=>by rw [e,Nat.beq_refl] at eV;cases eV
  simp only [Option.some.injEq,Prod.mk.injEq] at he
  obtain ⟨rfl,rfl⟩:=he
  have hu:=hT.elem t qO fz
  obtain ⟨i,hi,Pn,mi,nV⟩:=(hT.ty qO _ Qw).info
  have Pn:i.size=1:=Pn
  unfold St.at at hl hm
  have hrx:=Bx h.2 x
  have hry:=Bx h.2 y
  rw [hx] at hrx;rw [hy] at hry
  obtain ⟨b1,s1,n1,q1,q2,_,VP⟩:=hrx
  rw [hl] at q1;cases q1
  simp only [OB.row,Option.some.injEq,Prod.mk.injEq] at q2
  obtain ⟨rfl,rfl⟩:=q2
  obtain ⟨b2,s2,n2,q1,q2,_,hoy⟩:=hry
  rw [hm] at q1;cases q1
  simp only [OB.row,Option.some.injEq,Prod.mk.injEq] at q2
  obtain ⟨rfl,rfl⟩:=q2
  have hA:=((h.1.heap l).Na hl).1
  have hBb:=((h.1.heap m).Na hm).1
  cases QQ:π m with
  |none=>
   rw [QQ] at hBb
   have hBb:B= []:=hBb
   subst hBb;simp at hB
  |some rB=>
  rw [QQ] at hBb hoy
  obtain ⟨fB,Ama,tiB,uB,RB,w1B,w2B,w3B,w4B,w5B,w6B,w7B,LB⟩:=rq hBb
  obtain ⟨adB,hvy,hcB,haB⟩:=hoy
  have haB:=haB (by omega)
  subst haB
  have hlB:=LB.1
  have ZD:uB.length=B.length*i.size:=by rw [Pn,Nat.mul_one];exact hlB
  have ZE: ∀j u,uB[j]?=some u->w.cell? ((⟨rB.g,(rB.o+0)*1,none⟩:Addr).add j)=some u:= λj u hu=>by
   rw [Addr.add_lit,cellOf w1B,Nat.mul_one,Nat.add_zero];exact w5B j u hu
  have nS:(A.length+B.length)*i.bytes<=140737488355328:=by
   have:(A.length+B.length)*i.bytes<=4294967296*256:=Nat.mul_le_mul ke mi
   omega
  have db:A.length+B.length<=maxLen:=by unfold Bm at ke;simp only [maxLen];omega
  have hzs:(Av (Ty.slice e2) (At (Ty.slice e2))).cells.size=1:=by simp [Av,Ty.Ac,At,Value.cells]
  have Qc: ∀(k:Nat) (q:Real) (Rs:List (Option Real)),π k=some q->(∀(i:Nat) (p:Real),Rs[i]?=some (some p)->q.Bc p.g/\p.g≠q.g)-> ∀(i:Nat) (p:Real),Rs[i]?=some (some p)->p.g<w.heap.size:= λk q Rs h1 h2 i p h3=>
   (h.1.place k q _ h1 (h.1.sub k q _ h1 (h2 i p h3).1)).2
  cases cZ:π l with
  |none=>
   rw [cZ] at hA VP
   have hA:A= []:=hA
   subst hA
   obtain ⟨SM,_,_⟩:=VP
   rw [SM,hvy]
   simp only [List.length_nil,Nat.zero_add,List.nil_append] at ke nS db⊢
   have hr:=run_append_nil (P:=P) w t ty qO i _ hu hi nV ⟨rB.g,(rB.o+0)*1,none⟩ B.length (rB.cap-0) uB ZD ZE hB (by simp only [maxLen] at db;omega) (by omega)
   have pY:=grownCap_ge w B.length 0 qO
   have RT:=grownCap_le_maxLen w B.length 0 qO (by omega)
   obtain ⟨π',g1,g2⟩:=Tf (w1:=w.drew.alloc (.cells (uB.toArray++Builtin.zeroCells (Av (Ty.slice e2) (At (Ty.slice e2))).cells (grownCap w B.length 0 qO-B.length)) qO)) (gv:= λ_=>False) h q8 QO qO (e:=e2) (rows:=B) (us:=uB) (Rs:=RB) (g:=w.heap.size) (o:=0) (cap:=grownCap w B.length 0 qO)
    (λ_ hf=>hf.elim) (lh w _) ⟨.inl (Nat.le_refl _),by simp⟩ (heap_alloc_new w.drew _) (by rw [Array.size_append,List.size_toArray,Og,hzs];omega) RT pY (λj u hu=>by
     have hj:=(List.getElem?_eq_some_iff.1 hu).1
     rw [Nat.zero_add,Array.getElem?_append_left (by simpa using hj)];simpa using hu)
    LB (λi q h1=>⟨by have:=Qc m rB RB QQ w7B i q h1;omega,λh=>h,m,rB, .inr rfl,QQ,(w7B i q h1).1⟩)
   exact ⟨_,_,π',hr,g1,g2 _ rfl⟩
  |some rA=>
   rw [cZ] at hA VP
   obtain ⟨fA,FX,tiA,uA,RA,w1A,w2A,w3A,w4A,w5A,w6A,w7A,LA⟩:=rq hA
   obtain ⟨adA,SM,hcA,haA⟩:=VP
   have hlA:=LA.1
   rw [SM,hvy]
   have apart: ∀(i j:Nat) (q q':Real),RA[i]?=some (some q)->RB[j]?=some (some q')->q.g≠q'.g:= λi j q q' h1 h2 e=>by
    have:=h.1.apart cZ QQ (w7A i q h1).1 (e▸(w7B j q' h2).1)
    exact eV this.symm
   have LAB:=mY.append LA LB apart
   have Et: ∀(i:Nat) (q:Real),RB[i]?=some (some q)->q.g≠rA.g:= λi q h1 e=>eV (h.1.apart QQ cZ (w7B i q h1).1 (e▸fA))
   have UW: ∀(i:Nat) (q:Real),(RA++RB)[i]?=some (some q)->q.g≠rA.g/\q.g<w.heap.size/\ ∃k p,(k=l\/k=m)/\π k=some p/\p.Bc q.g:= λi q h1=>by
    by_cases hi:i<RA.length
    ·rw [List.getElem?_append_left hi] at h1
     exact ⟨(w7A i q h1).2,Qc l rA RA cZ w7A i q h1,l,rA, .inl rfl,cZ,(w7A i q h1).1⟩
    ·rw [List.getElem?_append_right (by omega)] at h1
     exact ⟨Et _ q h1,Qc m rB RB QQ w7B _ q h1,m,rB, .inr rfl,QQ,(w7B _ q h1).1⟩
   by_cases wY:A.length+B.length<=rA.cap-0
   ·have haA:=haA (by omega)
    subst haA
    have Qb:(rA.o+0)*1+A.length*i.size+uB.length<=FX.size:=by rw [Pn];omega
    have Ti:(rA.o+0)*1+A.length*i.size+uB.length<=FX.toList.length:=by simpa using Qb
    have hr:=Uj (P:=P) (w:=w) (ty:=ty) hu hi rA.g ((rA.o+0)*1) A.length (rA.cap-0) FX tiA w1A ⟨rB.g,(rB.o+0)*1,none⟩ B.length (rB.cap-0) uB ZD ZE w6B wY Qb
    have nU:=Iz w rA.g (Bp FX.toList ((rA.o+0)*1+A.length*i.size) uB).toArray
    obtain ⟨π',g1,g2⟩:=Tf (w1:=w.setRow rA.g (Bp FX.toList ((rA.o+0)*1+A.length*i.size) uB).toArray) (gv:= λb=>b=rA.g) h q8 QO qO (e:=e2) (rows:=A++B) (us:=uA++uB) (Rs:=RA++RB) (g:=rA.g) (o:=rA.o) (cap:=rA.cap)
     (λb hb=>⟨l,rA, .inl rfl,cZ,hb▸fA⟩) ⟨nU.os,nU.tape,nU.output,nU.size,λc _ hc=>setRow_other w rA.g c _ hc⟩ ⟨.inr ⟨l,rA, .inl rfl,cZ,fA⟩,Nat.lt_of_lt_of_le (Di w1A) nU.size⟩
     (setRow_heap w rA.g FX _ tiA _ w1A) (by rw [List.size_toArray,Ey _ _ _ Ti,Array.length_toList];exact w2A) w3A (by simp;omega) (λj u hu=>by
      rw [List.getElem?_toArray,Ei _ _ _ _ Ti,Pn]
      by_cases hj:j<uA.length
      ·rw [List.getElem?_append_left hj] at hu
       rw [if_pos (by omega),Array.getElem?_toList]
       exact w5A j u hu
      ·rw [List.getElem?_append_right (by omega)] at hu
       have:=(List.getElem?_eq_some_iff.1 hu).1
       rw [if_neg (by omega),if_pos (by omega)]
       rw [show rA.o+j-((rA.o+0)*1+A.length*1)=j-uA.length by omega]
       exact hu)
     LAB (λi q h1=>⟨(UW i q h1).1,(UW i q h1).1,(UW i q h1).2.2⟩)
    have:=g2 (A.length+B.length) (by simp)
    have e0:(rA.o+0)*1=rA.o:=by omega
    simp only [e0,Nat.sub_zero] at hr g1 this⊢
    exact ⟨_,_,π',hr,g1,this⟩
   ·have hold: ∀j u,uA[j]?=some u->w.cell? (adA.add j)=some u:=by
     intro j u hu
     have hj:=(List.getElem?_eq_some_iff.1 hu).1
     rw [haA (by omega),Addr.add_lit,cellOf w1A,Nat.mul_one,Nat.add_zero];exact w5A j u hu
    have hr:=run_append_grow (P:=P) w t ty qO i _ hu hi nV adA A.length (rA.cap-0) uA (by rw [Pn,Nat.mul_one];exact hlA) hold ⟨rB.g,(rB.o+0)*1,none⟩ B.length (rB.cap-0) uB ZD ZE (by omega) (by simp only [maxLen] at db;omega) (growslice_fits (by omega) nS)
    have pY:=grownCap_ge w (A.length+B.length) (rA.cap-0) qO
    have RT:=grownCap_le_maxLen w (A.length+B.length) (rA.cap-0) qO db
    obtain ⟨π',g1,g2⟩:=Tf (w1:=w.drew.alloc (.cells (uA.toArray++uB.toArray++Builtin.zeroCells (Av (Ty.slice e2) (At (Ty.slice e2))).cells (grownCap w (A.length+B.length) (rA.cap-0) qO-(A.length+B.length))) qO)) (gv:= λ_=>False) h q8 QO qO (e:=e2) (rows:=A++B) (us:=uA++uB) (Rs:=RA++RB) (g:=w.heap.size) (o:=0) (cap:=grownCap w (A.length+B.length) (rA.cap-0) qO)
     (λ_ hf=>hf.elim) (lh w _) ⟨.inl (Nat.le_refl _),by simp⟩ (heap_alloc_new w.drew _) (by rw [Array.size_append,Array.size_append,List.size_toArray,List.size_toArray,Og,hzs];omega) RT (by simpa using pY) (λj u hu=>by
      have hj:=(List.getElem?_eq_some_iff.1 hu).1
      rw [Nat.zero_add,Array.getElem?_append_left (by simpa using hj)];simpa using hu)
     LAB (λi q h1=>⟨by have:=(UW i q h1).2.1;omega,λh=>h,(UW i q h1).2.2⟩)
    exact ⟨_,_,π',hr,g1,g2 _ (by simp)⟩
theorem fZ: ∀τ:Ty,Dd X w π H (zeroCells τ) (At τ):=by
 have one: ∀(c:AC) (v:Value),v.oneCell'=true->Ec X w π H c v->Dd X w π H [c] [v]:= λc v h1 h2=>⟨rfl,λi c' hc=>by
  rcases i with _|i
  ·simp at hc;subst hc;exact ⟨v,rfl,h1,h2⟩
  ·simp at hc⟩
 intro τ
 induction τ with
 |unit=>exact ⟨rfl,λi c hc=>by simp [zeroCells] at hc⟩
 |pair a r ij eE=>
  refine ⟨by simp [zeroCells,At,ij.1,eE.1],λi c hc=>?_⟩
  simp only [zeroCells] at hc
  simp only [At]
  by_cases hi:i<(zeroCells a).length
  ·rw [List.getElem?_append_left hi] at hc
   obtain ⟨u,hu,h⟩:=ij.2 i c hc
   exact ⟨u,by rw [List.getElem?_append_left (by rw [ij.1];exact hi)];exact hu,h⟩
  ·rw [List.getElem?_append_right (by omega)] at hc
   obtain ⟨u,hu,h⟩:=eE.2 _ c hc
   exact ⟨u,by rw [List.getElem?_append_right (by rw [ij.1];omega),ij.1];exact hu,h⟩
 |int k=>exact one (.data true _ _) _ rfl (Jp (H:=H) k 0 true)
 |bool=>exact one (.data true _ _) _ rfl (Ik (H:=H) false true)
 |str=>exact one (.data true _ _) _ rfl (kx (H:=H) ByteArray.empty true)
 |slice e=>exact one _ _ rfl rfl
 |oslice e=>exact one _ _ rfl rfl
 |ptr e=>exact one _ _ rfl rfl
 |optr e=>exact one _ _ rfl rfl
 |smap v=>exact one (.data true _ _) _ rfl ⟨[.map none], .inl ⟨rfl,rfl⟩,by simp [Av,Ty.Ac]⟩
 |clo f c=>exact one .undef .nilFunc rfl trivial
theorem Za (hT:Ch P T) {st:St} {a:Act} (h:Al X π st a w) (t:TypeId) (Hp:Array (Nat×Nat))
  (cZ: ∀f o u ρ,T.off t f=some (o,u)->T.ty u=some ρ->Hp[f]?=some (o,ρ.size)): ∀(parts:List (Nat×Operand)) (cs cK:List AC) (us:List Value),Dd X w π st.heap cs us->
  Hy T st t parts cs=some cK-> ∃Tu:List Value,Instr.fill (λi=>Hp[i]?) us.toArray (parts.map λp=>(p.1,a.eval p.2))=some Tu.toArray/\Dd X w π st.heap cK Tu
 | [],cs,cK,us,hr,he=>by
  simp only [Hy,Option.some.injEq] at he;subst he
  exact ⟨us,rfl,hr⟩
 |(f,x)::r,cs,cK,us,hr,he=>by
  simp only [Hy] at he
  split at he
  ·rename_i o u ho
   split at he
   ·rename_i ρ hρ
    split at he
    ·rename_i c hc
     split at he
     ·rename_i hle
      obtain ⟨vs,hv,hl,VU⟩:=cB (Bx h.2 x) hc
      have e1:=hr.1
      have e2:=VU.1
      obtain ⟨Tu,g1,g2⟩:=Za hT h t Hp cZ r _ cK _ (pj hr VU o hle) he
      refine ⟨Tu,?_,g2⟩
      simp only [List.map_cons]
      rw [rm _ us f (a.eval x) _ o ρ.size vs (cZ f o u ρ ho hρ) hv hl (by omega)]
      exact g1
     ·cases he
    ·cases he
   ·cases he
  ·cases he
theorem bI (hT:Ch P T) {st:St} {a:Act} (h:Al X π st a w) (t:TypeId) (parts:Array (Nat×Operand)) (av:AV) (he:Rh T st t parts=some av):
  ∃v',(Instr.build t (parts.map λ(i,x)=>(i,a.eval x))).run P w= .ok v' w/\Ar X w π st.heap av v':=by
 unfold Rh at he
 split at he
 ·cases he
 ·rename_i τ Qw
  split at he
  ·rename_i hs
   cases hb:Hy T st t parts.toList (zeroCells τ) with
   |none=>rw [hb] at he;cases he
   |some cK=>
    rw [hb] at he
    simp only [Option.map_some,Option.some.injEq] at he;subst he
    obtain ⟨fs,Hp,h1,h2,h3⟩:=hT.fill t τ Qw hs
    obtain ⟨i,hi,Pn,mi,nV⟩:=(hT.ty t τ Qw).info
    obtain ⟨Tu,g1,g2⟩:=Za hT h t Hp h3 parts.toList (zeroCells τ) cK (At τ) (fZ τ) hb
    refine ⟨.agg Tu.toArray,?_,Tu,rfl,g2⟩
    have hz:(zeroValue t).run P w= .ok (Av τ (At τ)) w:=by simp [zeroValue,typeInfo,hi,nV]
    have MI:(Av τ (At τ)).cells=(At τ).toArray:=by simp [Av,hs,Value.cells]
    have UQ:=h2 w
    unfold placesOf at UQ
    have e1:(parts.map λ(i,x)=>(i,a.eval x)).toList=parts.toList.map λp=>(p.1,a.eval p.2):=by simp
    simp only [Instr.build,Sem.run_bind,hz,Result.andThen_ok,run_underlying h1,UQ,MI,e1,g1,Sem.run_pure]
  ·cases he
theorem oU {st:St} {v:AV} (h:v.settled=true):settle st v=some (v,st):=by
 cases v with
 | «at»a=>cases a<;>simp [AV.settled,AC.settled] at h<;>simp [settle,AC.settled]
 |agg cs=>
  have hs:cs.all (·.settled)=true:=h
  have:Du cs.length st cs=some (cs,st):=by
   cases hn:cs.length with
   |zero=>simp [Du,hs]
   |succ n=>
    have hf:cs.find? (λc=>!c.settled)=none:=List.find?_eq_none.2 λc hc=>by simpa using List.all_eq_true.1 hs c hc
    simp [Du,hf]
  simp [settle,this]
 |Vn fr τ x=>rfl
 |Jq l=>simp [AV.settled] at h
theorem jh {e:Ty} {st:St} : ∀(parts:List (Nat×Operand)) (i:Nat) (fr:Bool) (ys:List e.den),aZ e i parts st=some (fr,ys)-> ∃tr,Hc e i parts st=some (fr,tr,ys,st)
 | [],i,fr,ys,h=>by
  simp only [aZ,Option.some.injEq,Prod.mk.injEq] at h
  obtain ⟨rfl,rfl⟩:=h
  exact ⟨true,rfl⟩
 |(j,x)::r,i,fr,ys,h=>by
  simp only [aZ] at h
  split at h
  ·rename_i hc
   split at h
   ·rename_i f1 y f2 zs h1 h2
    simp only [Option.some.injEq,Prod.mk.injEq] at h
    obtain ⟨rfl,rfl⟩:=h
    obtain ⟨tr,h3⟩:=jh r (i+1) f2 zs h2
    refine ⟨Nr st (st.ev x)&&e.tree&&tr,?_⟩
    simp only [Hc]
    rw [if_pos hc.1,oU hc.2]
    simp only [h1,h3]
   ·cases h
  ·cases h
theorem jS (hT:Ch P T) {st:St} {a:Act} (h:Al X π st a w) (t:TypeId) (len:Nat) (parts:Array (Nat×Operand)) (av:AV) (he:Vv T st t len parts=some av):
  ∃v' w' π',(Instr.buildSlice t len (parts.map λ(i,x)=>(i,a.eval x))).run P w= .ok v' w'/\Al X π' st a w'/\Ar X w' π' st.heap av v':=by
 unfold Vv at he
 split at he
 ·cases he
 ·rename_i te fz
  split at he
  ·cases he
  ·rename_i e Qw
   split at he
   ·rename_i Fv
    obtain ⟨cZ,hlen⟩:=Fv
    cases hp:aZ e 0 parts.toList st with
    |none=>rw [hp] at he;cases he
    |some p=>
     obtain ⟨fr,ys⟩:=p
     rw [hp] at he
     simp only [Option.map_some,Option.some.injEq] at he
     subst he
     obtain ⟨tr,hb⟩:=jh _ _ _ _ hp
     obtain ⟨i,hi,Pn,mi,nV⟩:=(hT.ty te e Qw).info
     have hu:=hT.elem t te fz
     have GL:parts.toList.length=len:=by simpa using cZ
     have hz: ∃z:Array Value,(len*e.size=0/\z= #[])\/(¬len*e.size=0/\(zeroValue te).run P w= .ok (Av e (At e)) w/\z=(Av e (At e)).cells):=by
      by_cases h0:len*e.size=0
      ·exact ⟨#[], .inl ⟨h0,rfl⟩⟩
      ·exact ⟨_, .inr ⟨h0,by simp [zeroValue,typeInfo,hi,nV],rfl⟩⟩
     obtain ⟨z,hz⟩:=hz
     obtain ⟨Wy,cl,g1,g2,g3,g4,g5,g6⟩:=Re e parts.toList 0 st π fr tr ys st ((Array.range (len*e.size)).map (z[· %z.size]!)).toList h hb (by simp [GL])
     have Ob:cl.length=len*e.size:=by rw [g2.1,g3,GL]
     have KB:(Bp ((Array.range (len*e.size)).map (z[· %z.size]!)).toList (0*e.size) cl)=cl:=by
      simp [Bp,Ob]
     rw [KB] at g5
     have Po:(Instr.buildSlice t len (parts.map λ(i,x)=>(i,a.eval x))).run P w= .ok (.slice (some ⟨w.heap.size,0,none⟩) len len) (w.alloc (.cells cl.toArray te)):=by
      have h24: ¬(len*e.size>2^24):=by
       have:len*e.size<=64*64:=Nat.mul_le_mul hlen.1 hlen.2
       omega
      simp only [Instr.buildSlice,Sem.run_bind,run_underlying hu,Result.andThen_ok,(hT.ty te e Qw).size,if_neg h24]
      have e1:(parts.map λ(i,x)=>(i,a.eval x)).toList=parts.toList.map λp=>(p.1,a.eval p.2):=by simp
      simp only [e1]
      have e2:(((Array.range (len*e.size)).map (z[· %z.size]!)).toList.toArray)=(Array.range (len*e.size)).map (z[· %z.size]!):=Array.toArray_toList
      rw [e2] at g5
      rcases hz with ⟨h0,rfl⟩|⟨h0,hz,rfl⟩
      ·rw [if_pos h0]
       simp only [Sem.run_bind,Sem.run_pure,Result.andThen_ok,g5,newRow]
       simp
      ·rw [if_neg h0]
       simp only [Sem.run_bind,Sem.run_pure,Result.andThen_ok,hz,g5,newRow]
       simp
     have RS:(w.alloc (.cells cl.toArray te)).heap[w.heap.size]?=some (.cells cl.toArray te (0,0)):=heap_alloc_new w _
     have hB:Below w.heap.size w (w.alloc (.cells cl.toArray te)):=(Below.refl _ _).alloc (Nat.le_refl _) _
     have Hm:=Di RS
     refine ⟨_,_,Wy,Po,g1.quiet hB,⟨[_],?_,rfl⟩⟩
     refine ⟨some ⟨w.heap.size,0,none⟩,len,len,rfl,by rw [g3,GL],Nat.le_refl _, .inr ⟨w.heap.size,0,rfl,Hm,λhA=>?_,λk x hx=>?_⟩⟩
     ·rcases hA with hA|hA|⟨_,hA⟩
      ·exact absurd (g1.1.own hA).1 (Nat.lt_irrefl _)
      ·exact absurd (Nat.lt_of_lt_of_le (g1.1.sc _ hA).1 g1.1.below.size) (Nat.lt_irrefl _)
      ·exact absurd (Nat.lt_of_lt_of_le hA g1.1.below.size) (Nat.lt_irrefl _)
     ·obtain ⟨es,k1,k2,k3⟩:=g2.2 k x hx
      refine ⟨es,k1,λj u hu=>?_,Cells.Cz hB.size (λb hb _=>hB.block b hb) (λ_ _ h=>h) e es x k3⟩
      rw [cellOf RS,Nat.zero_add]
      simpa using k2 j u hu
   ·cases he
theorem wC {Γ:Env} (hT:Ch P T) (Nb:Hr P Γ) {st:St} {a:Act} (h:Al X π st a w) (o:Oper) (av:AV) (he:Tc T Γ st o=some av):
  cq P X st a w av ((execOp a.eval o).run P w):=by
 obtain ⟨dst,op,ty,pos,af,gd⟩:=o
 have val: ∀(s:Sem Value) (v:Value) (w':World) (π':Pi),s.run P w= .ok v w'->Al X π' st a w'->Ar X w' π' st.heap av v->(execOp a.eval ⟨dst,op,ty,pos,af,gd⟩=do pure (.value (<-s)))->
   cq P X st a w av ((execOp a.eval ⟨dst,op,ty,pos,af,gd⟩).run P w):=by
  intro s v w' π' h1 h2 h3 h4
  rw [h4,Sem.run_bind,h1]
  exact ⟨π',h2,h3⟩
 have quiet:Cp T Γ st ⟨dst,op,ty,pos,af,gd⟩=some av->cq P X st a w av ((execOp a.eval ⟨dst,op,ty,pos,af,gd⟩).run P w):=by
  intro hq
  have:=lk hT Nb h _ av hq
  generalize (execOp a.eval ⟨dst,op,ty,pos,af,gd⟩).run P w=r at*
  cases r with
  |halt x w'=>exact this
  |ok n w'=>
   cases n<;>simp only [CZ] at this<;>simp only [cq]
   ·obtain ⟨rfl,hr⟩:=this
    exact ⟨π,h,hr⟩
   ·obtain ⟨rfl,hc⟩:=this
    exact ⟨rfl,hc.mono λe pH ⟨v,hv,hb,hr⟩=>⟨v,hv,π,h.quiet hb,hr⟩⟩
 unfold Tc at he
 split at he
 ·rename_i t len parts lz
  dsimp only at lz;subst lz
  obtain ⟨v,w',π',h1,h2,h3⟩:=jS hT h t len parts av he
  exact val _ v w' π' h1 h2 h3 rfl
 ·rename_i t parts lz
  dsimp only at lz;subst lz
  obtain ⟨v',h1,h2⟩:=bI hT h t parts av he
  exact val _ v' w π h1 h h2 rfl
 ·exact quiet he
theorem fJ {a:Act} : ∀(l:List Operand) {π:Pi} {st st1:St},Al X π st a w->Kd l st=some st1-> ∃π',Al X π' st1 a w
 | [],π,st,st1,h,he=>by
  simp only [Kd,Option.some.injEq] at he
  subst he
  exact ⟨π,h⟩
 |x::r,π,st,st1,h,he=>by
  simp only [Kd] at he
  cases hs:settle st (st.ev x) with
  |none=>rw [hs] at he;cases he
  |some p=>
   rw [hs] at he
   obtain ⟨Wy,h1,_⟩:=Wr h (Bx h.2 x) hs
   exact fJ r h1 he
theorem tb {Γ:Env} (hT:Ch P T) (Nb:Hr P Γ) {st:St} {a:Act} (h:Al X π st a w) (o:Oper) (av:AV) (st':St) (he:evalOp T Γ st o=some (av,st')):
  cq P X st' a w av ((execOp a.eval o).run P w):=by
 have quiet: ∀ {π:Pi} {st:St},Al X π st a w->(Cp T Γ st o).map (λv=>(v,st))=some (av,st')->cq P X st' a w av ((execOp a.eval o).run P w):=by
  intro π st h he
  cases hq:Cp T Γ st o with
  |none=>rw [hq] at he;cases he
  |some v=>
   rw [hq] at he
   simp only [Option.map_some,Option.some.injEq,Prod.mk.injEq] at he
   obtain ⟨rfl,rfl⟩:=he
   have:=lk hT Nb h o v hq
   generalize (execOp a.eval o).run P w=r at*
   cases r with
   |halt x w'=>exact this
   |ok n w'=>
    cases n<;>simp only [CZ] at this<;>simp only [cq]
    ·obtain ⟨rfl,hr⟩:=this
     exact ⟨π,h,hr⟩
    ·obtain ⟨rfl,hc⟩:=this
     exact ⟨rfl,hc.mono λe pH ⟨v,hv,hb,hr⟩=>⟨v,hv,π,h.quiet hb,hr⟩⟩
 obtain ⟨dst,op,ty,pos,af,gd⟩:=o
 have val: ∀(s:Sem Value) (v:Value) (w':World) (π':Pi),s.run P w= .ok v w'->Al X π' st' a w'->Ar X w' π' st'.heap av v->(execOp a.eval ⟨dst,op,ty,pos,af,gd⟩=do pure (.value (<-s)))->
   cq P X st' a w av ((execOp a.eval ⟨dst,op,ty,pos,af,gd⟩).run P w):=by
  intro s v w' π' h1 h2 h3 h4
  rw [h4,Sem.run_bind,h1]
  exact ⟨π',h2,h3⟩
 unfold evalOp at he
 split at he
 all_goals (rename_i lz;dsimp only at lz;try subst lz)
 ·
  rename_i x
  split at he
  ·rename_i d te e hx hd ht
   split at he
   ·rename_i wU
    simp only [Option.some.injEq,Prod.mk.injEq] at he
    obtain ⟨rfl,rfl⟩:=he
    obtain ⟨k1,k2,_⟩:=ow h d wU (T.nM||e.flat) T.vo te e
    have GP:=Bx h.2 x
    rw [hx] at GP
    have hxv:a.eval x= .slice none 0 0:=GP
    show cq P X _ a w _ (.ok (.value (a.eval x)) w)
    rw [hxv]
    exact ⟨_,k1,k2⟩
   ·cases he
  ·simp only [Option.some.injEq,Prod.mk.injEq] at he
   obtain ⟨rfl,rfl⟩:=he
   exact ⟨π,h,Bx h.2 x⟩
 ·
  rename_i t
  split at he
  ·rename_i d τ hd ht
   obtain ⟨i,hi,Pn,mi,nV⟩:=(hT.ty t τ ht).info
   obtain ⟨π',k1,k2⟩:=lI h d t τ (zeroCells τ) (At τ) (fZ τ) av st' he
   have MI:(Av τ (At τ)).cells=(At τ).toArray:=by
    cases τ<;>simp [Av,Ty.Ac,Value.cells,At]
   refine val (Instr.alloc t true (.tuple #[])) _ _ π' ?_ k1 k2 rfl
   simp [Instr.alloc,zeroValue,typeInfo,hi,nV,newVar,newRow,MI]
  ·cases he
 ·
  rename_i t x
  split at he
  ·rename_i d τ hd ht
   split at he
   ·rename_i cs hc
    obtain ⟨us,hv,hl,hr⟩:=cB (Bx h.2 x) hc
    obtain ⟨π',k1,k2⟩:=lI h d t τ cs us hr av st' he
    refine val (Instr.box t (a.eval x)) _ _ π' ?_ k1 k2 rfl
    simp [Instr.box,newVar,newRow,hv]
   ·cases he
  ·cases he
 ·
  rename_i t p x
  cases hs:Km T st t (st.ev p) (st.ev x) with
  |none=>rw [hs] at he;cases he
  |some s=>
   rw [hs] at he
   simp only [Option.map_some,Option.some.injEq,Prod.mk.injEq] at he
   obtain ⟨rfl,rfl⟩:=he
   obtain ⟨w',π',h1,h2⟩:=jW hT h t _ _ _ _ (Bx h.2 p) (Bx h.2 x) s hs
   have:(execOp a.eval ⟨dst, .store t p x,ty,pos,af,gd⟩).run P w= .ok .skip w':=by
    show (do Instr.storeAt t (a.eval p) (a.eval x);pure Next.skip:Sem Next).run P w=_
    rw [Sem.run_bind,h1];rfl
   rw [this]
   exact ⟨π',h2,trivial⟩
 ·
  rename_i t l c
  split at he
  ·rename_i d hd
   obtain ⟨v,w',π',h1,h2,h3⟩:=mg hT h d t _ _ _ _ (Bx h.2 l) (Bx h.2 c) av st' he
   exact val _ v w' π' h1 h2 h3 rfl
  ·cases he
 ·
  rename_i t
  split at he
  ·rename_i d hd
   obtain ⟨v,w',π',h1,h2,h3⟩:=iI hT h d t av st' he
   exact val _ v w' π' h1 h2 h3 rfl
  ·cases he
 ·
  rename_i t m k x
  cases hs:Fc T st t (st.ev m) (st.ev k) (st.ev x) with
  |none=>rw [hs] at he;cases he
  |some s=>
   rw [hs] at he
   simp only [Option.map_some,Option.some.injEq,Prod.mk.injEq] at he
   obtain ⟨rfl,rfl⟩:=he
   obtain ⟨w',h1,h2⟩:=Zf hT h t _ _ _ _ _ _ (Bx h.2 m) (Bx h.2 k) (Bx h.2 x) s hs
   have:(execOp a.eval ⟨dst, .mapUpdate t m k x,ty,pos,af,gd⟩).run P w= .ok .skip w':=by
    show (do Instr.mapUpdate t (a.eval m) (a.eval k) (a.eval x);pure Next.skip:Sem Next).run P w=_
    rw [Sem.run_bind,h1];rfl
   rw [this]
   exact ⟨π,h2,trivial⟩
 ·
  rename_i t m k x
  cases hs:Fc T st t (st.ev m) (st.ev k) (st.ev x) with
  |none=>rw [hs] at he;cases he
  |some s=>
   rw [hs] at he
   simp only [Option.map_some,Option.some.injEq,Prod.mk.injEq] at he
   obtain ⟨rfl,rfl⟩:=he
   obtain ⟨w',h1,h2⟩:=Zf hT h t _ _ _ _ _ _ (Bx h.2 m) (Bx h.2 k) (Bx h.2 x) s hs
   have:(execOp a.eval ⟨dst, .insert t m k x,ty,pos,af,gd⟩).run P w= .ok .skip w':=by
    show (do Instr.mapUpdate t (a.eval m) (a.eval k) (a.eval x);pure Next.skip:Sem Next).run P w=_
    rw [Sem.run_bind,h1];rfl
   rw [this]
   exact ⟨π,h2,trivial⟩
 ·
  rename_i t len parts
  split at he
  ·rename_i d hd
   obtain ⟨v,w',π',h1,h2,h3⟩:=cb hT h d t len parts av st' he
   exact val _ v w' π' h1 h2 h3 rfl
  ·cases he
 ·
  rename_i t parts
  cases hb:Rh T st t parts with
  |none=>rw [hb] at he;cases he
  |some v=>
   rw [hb] at he
   simp only [Option.map_some,Option.some.injEq,Prod.mk.injEq] at he
   obtain ⟨rfl,rfl⟩:=he
   obtain ⟨v',h1,h2⟩:=bI hT h t parts v hb
   exact val _ v' w π h1 h h2 rfl
 ·
  rename_i args ts
  split at he
  ·rename_i d x y t t' hd Lq qa
   split at he
   ·rename_i Ps;subst Ps
    have e1:args= #[x,y]:=by apply Array.ext';simpa using Lq
    have e2:ts= #[t,t]:=by apply Array.ext';simpa using qa
    subst e1;subst e2
    obtain ⟨v,w',π',h1,h2,h3⟩:=iF hT h d t ty x y av st' he
    refine val (Builtin.append_ #[t,t] ty #[a.eval x,a.eval y]) v w' π' h1 h2 h3 ?_
    simp [execOp,resolve,invoke,builtin]
   ·cases he
  ·cases he
 ·
  rename_i args ts
  split at he
  ·rename_i x y t t' Lq qa
   have e1:args= #[x,y]:=by apply Array.ext';simpa using Lq
   have e2:ts= #[t,t']:=by apply Array.ext';simpa using qa
   subst e1;subst e2
   obtain ⟨v,w',h1,h2,h3⟩:=nE hT h t t' ty _ _ _ _ (Bx h.2 x) (Bx h.2 y) av st' he
   refine val (Builtin.copy_ #[t,t'] ty #[a.eval x,a.eval y]) v w' π h1 h2 h3 ?_
   simp [execOp,resolve,invoke,builtin]
  ·cases he
 ·
  rename_i args ts
  split at he
  ·rename_i x t Lq qa
   have e1:args= #[x]:=by apply Array.ext';simpa using Lq
   have e2:ts= #[t]:=by apply Array.ext';simpa using qa
   subst e1;subst e2
   cases hs:evalClear T st t (st.ev x) with
   |none=>rw [hs] at he;cases he
   |some s=>
    rw [hs] at he
    simp only [Option.map_some,Option.some.injEq,Prod.mk.injEq] at he
    obtain ⟨rfl,rfl⟩:=he
    obtain ⟨v,w',h1,h2⟩:=mf hT h t ty _ _ (Bx h.2 x) s hs
    refine val (Builtin.clear_ #[t] ty #[a.eval x]) v w' π h1 h2 trivial ?_
    simp [execOp,resolve,invoke,builtin]
  ·cases he
 ·
  rename_i f args ts
  split at he
  ·rename_i s Ady
   have hs:Bq P f s:=Nb f _ Ady
   have:=me h hs dst (args.toList.map st.ev) (args.toList.map a.eval) (by simp) (λi c v=>dF h args.toList i c v) av st' he
   rw [dI a.eval f args ts dst ty pos af gd rfl hs.enter]
   refine ⟨rfl,?_⟩
   rwa [show (args.toList.map a.eval).toArray=args.map a.eval from by apply Array.ext';simp] at this
  ·rename_i s Ady
   split at he
   ·cases hs:Kd args.toList st with
    |none=>rw [hs] at he;cases he
    |some st1=>
     rw [hs] at he
     obtain ⟨Wy,h1⟩:=fJ args.toList h hs
     exact quiet h1 he
   ·exact quiet h he
  ·exact quiet h he
 ·exact quiet h he
end
end Go.Proofs.Ytjbdmibbbpdnnaa
