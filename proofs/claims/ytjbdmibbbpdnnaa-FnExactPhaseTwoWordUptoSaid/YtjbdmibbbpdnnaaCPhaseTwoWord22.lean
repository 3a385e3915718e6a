/-
  Part 23 of the proof that the statement FnExactPhaseTwoWord holds.
-/
import Derived.Test.YtjbdmibbbpdnnaaCPhaseTwoWord21
namespace Go.Proofs.Ytjbdmibbbpdnnaa
open Go.RowKit
section
variable {P:Program} {T:Tab} {X:Ctx} {w w':World} {π:Pi} {H:List (Nat×OB)}
theorem rj {π':Pi} {st':St} {a:Act} (h:Aj X π' st' a w) (k:Gg π π' H st'.heap) {fr:Bool} (τ:Ty) (cs:List Value) (x:τ.den) (hc:Cells w (Be X.w0.heap.size X.Sc π fr) τ cs x):
  Cells w (Be X.w0.heap.size X.Sc π' fr) τ cs x:=
 Cells.Cw (Nat.le_refl _) (λ_ _ _=>rfl) (λb _ hA=>by
  rcases hA with ⟨l,r,hl,hg⟩|h2
  ·have hh:=h.1.heap l
   cases hb:Ae st'.heap l with
   |none=>have:=hh.emp hb;rw [this] at hl;cases hl
   |some b'=>have:=(k l b' hb).1;rw [this] at hl;exact .inl ⟨l,r,hl,hg⟩
  ·exact .inr h2) τ cs x hc
theorem bC.drop {F:List Nat} {l:Nat} (h:bC X w π F):bC X w (Px π l none) F:=
 ⟨h.1,λb hb=>⟨(h.2 b hb).1,(h.2 b hb).2.1,λm r hm=>by
  by_cases e:m=l
  ·subst e;rw [Df] at hm;cases hm
  ·rw [De π none e] at hm;exact (h.2 b hb).2.2 m r hm⟩⟩
theorem mW {st:St} {a:Act} (h:Aj X π st a w) (l:Nat) (hl:l<Ak) (f0 t0:Bool) (te:TypeId) (e:Ty):
  Aj X (Px π l none) (st.new l (.arr f0 t0 e te [])) a w/\An X w (Px π l none) (st.new l (.arr f0 t0 e te [])).heap (.at (.own l 0 0)) (.slice none 0 0)/\
   ∀fr τ cs x,Cells w (Be X.w0.heap.size X.Sc π fr) τ cs x->Cells w (Be X.w0.heap.size X.Sc (Px π l none) fr) τ cs x:=
 ⟨h.replace l hl none _ (Jx w _) (λr hr=>by cases hr) (λ_=>rfl),
  vL (St.Dn st l _) (Nat.le_refl _) (by rw [Df];exact ⟨rfl,rfl,rfl⟩),
  fun fr τ cs x hc=>Cells.Cw (Nat.le_refl _) (λ_ _ _=>rfl) (λb _ hA=>by
  rcases hA with ⟨m,r,hm,hg⟩|h2
  ·by_cases e:m=l
   ·subst e;rw [Df] at hm;cases hm
   ·rw [De π none e] at hm;exact .inl ⟨m,r,hm,hg⟩
  ·exact .inr h2) τ cs x hc⟩
theorem Qi (hT:Cd P T) {st:St} {a:Act} (h:Aj X π st a w) (dst:Nat) (t ty:TypeId) (x y:Operand) (av:AV) (st':St) (he:Ir T st dst t x y=some (av,st')):
  ∃v' w' π',(Builtin.append_ #[t,t] ty #[a.eval x,a.eval y]).run P w= .ok v' w'/\Aj X π' st' a w'/\An X w' π' st'.heap av v':=by
 unfold Ir at he
 split at he
 ·cases he
 ·rename_i te ey
  split at he
  ·rename_i e y' st1 Qs hs
   obtain ⟨Vx,h1,h2,h3,h4,h5⟩:=Vr h (Bs h.2 y) hs
   split at he
   ·cases he
   ·rename_i ly ys hv
    dsimp only at he
    have AI: ∀tr2,tr2=(e.flat||(Mu st (st.ev y)&&e.tree))->tr2=true->e.flat=true\/ ∃F,Bf w F (.slice e) [a.eval y] ys/\bC X w Vx F:=by
     intro tr2 e2 gQ
     subst e2
     cases hef:e.flat with
     |true=>exact .inl rfl
     |false=>
     right
     simp only [hef,Bool.false_or,Bool.and_eq_true] at gQ
     obtain ⟨F,us,f1,f2,f3,_⟩:=h5 gQ.1 (.slice e) ly ys gQ.2 hv
     have HM:us= [a.eval y]:=by
      simp only [Bf] at f1
      obtain ⟨a0,len,cap,rfl,_⟩:=f1
      rw [f2];simp [Ar,Ty.Ac]
     rw [HM] at f1
     exact ⟨F,f1,f3⟩
    have hyc:Cells w (Be X.w0.heap.size X.Sc Vx ly) (.slice e) [a.eval y] ys:=Bd.Lm rfl (Jn _ y' _ ly ys h3 h2 hv)
    have LN:=Bs h1.2 x
    split at he
    ·rename_i hx
     rw [hx] at LN
     have hxv:a.eval x= .slice none 0 0:=LN
     split at he
     ·rename_i ja
      simp only [Option.some.injEq,Prod.mk.injEq] at he
      obtain ⟨rfl,rfl⟩:=he
      obtain ⟨k1,k2,k3⟩:=mW h1 dst ja.2 (T.oa||e.flat) T.tQ te e
      have:=gn (ty:=ty) hT k1 ey Qs ja.2 (fr3:=ly||e.flat) (tr2:=e.flat||(Mu st (st.ev y)&&e.tree)) rfl (St.Dn st1 dst _) k2 (k3 _ _ _ _ hyc) (by rw [Nat.zero_add];exact ja.1) (λht=>by
       rcases AI _ rfl ht with h0|⟨F,f1,f2⟩
       ·exact .inl h0
       ·exact .inr ⟨F,f1,f2.drop⟩)
      rw [<-hxv] at this
      exact this
     ·cases he
    ·rename_i l off len hx
     rw [hx] at LN
     split at he
     ·rename_i fr tr e' tid xs hl
      split at he
      ·rename_i Fh
       obtain ⟨rfl,rfl⟩:=Fh
       split at he
       ·rename_i ja
        simp only [Option.some.injEq,Prod.mk.injEq] at he
        obtain ⟨rfl,rfl⟩:=he
        exact gn (ty:=ty) hT h1 ey Qs ja.2 (fr3:=ly||e'.flat) (tr2:=e'.flat||(Mu st (st.ev y)&&e'.tree)) rfl hl LN hyc ja.1 (AI _ rfl)
       ·cases he
      ·cases he
     ·cases he
    ·cases he
  ·cases he
theorem gA (hT:Cd P T) {st:St} {a:Act} (h:Aj X π st a w) (dst:Nat) (t ty:TypeId) (x y:Operand) (av:AV) (st':St) (he:Lg T st dst t x y=some (av,st')):
  ∃v' w' π',(Builtin.append_ #[t,t] ty #[a.eval x,a.eval y]).run P w= .ok v' w'/\Aj X π' st' a w'/\An X w' π' st'.heap av v':=by
 unfold Lg at he
 split at he
 ·rename_i tx
  split at he
  ·rename_i l i c hg
   split at he
   ·rename_i e te rows kp tid hl _
    split at he
    ·rename_i hc
     simp only [Bool.and_eq_true,Nat.blt_eq,Bool.not_eq_true'] at hc
     have dR:dst≠l:= λe=>by rw [e,Nat.beq_refl] at hc;cases hc.2.2
     unfold St.at at hl
     have hv:Dx X w π st.heap (.sub l i c) (a.tmps.getD tx undef):=by
      have:=h.2.tmps tx
      rw [hg] at this
      exact this
     obtain ⟨Vx,h1,h2⟩:=xH (tid:=tid) h hl dR hc.2.1 hc.1 hv
     have h3:=h1.put (some tx) (c:= .at (.own dst 0 (rows.getD i []).length)) h2
     have YR:a.put (some tx) (a.tmps.getD tx undef)=a:=by
      have:a.tmps.setIfInBounds tx (a.tmps.getD tx undef)=a.tmps:=by
       apply Array.ext_getElem?
       intro k
       rw [Array.getElem?_setIfInBounds]
       split
       ·rename_i e
        subst e
        split
        ·rename_i Gz
         rw [Array.getElem?_eq_getElem Gz];simp
        ·rename_i Gz
         rw [Array.getElem?_eq_none (by omega)]
       ·rfl
      simp only [Act.put,this]
     rw [YR] at h3
     exact Qi hT h3 dst t ty (.tmp tx) y av st' he
    ·cases he
   ·cases he
  ·exact Qi hT h dst t ty _ y av st' he
 ·exact Qi hT h dst t ty x y av st' he
theorem zx {S:Nat->Prop} {e:Ty} (h:gg e=true): ∃z,Ao e= [z]/\e.Ac=false/\e.size=1/\Cells w S e [z] e.zero/\z.oneCell'=true:=by
 cases e<;>simp [gg] at h
 ·exact ⟨_,rfl,rfl,rfl,rfl,rfl⟩
 ·exact ⟨_,rfl,rfl,rfl,rfl,rfl⟩
 ·exact ⟨_,rfl,rfl,rfl,rfl,rfl⟩
 ·exact ⟨_,rfl,rfl,rfl,⟨none,0,0,rfl,rfl,Nat.le_refl _, .inl rfl⟩,rfl⟩
 ·exact ⟨_,rfl,rfl,rfl, .inl ⟨rfl,0,rfl⟩,rfl⟩
theorem xc {e:Ty} {z:Value} (ht:e.tree=true) (h:gg e=true) (hz:Ao e= [z]):Bf w [] e [z] e.zero:=by
 cases e<;>simp [gg] at h<;>simp only [Ao,List.cons.injEq,and_true] at hz<;>subst hz<;>try (simp [Ty.tree] at ht;done)
 ·exact ⟨rfl,rfl⟩
 ·exact ⟨rfl,rfl⟩
 ·exact ⟨rfl,rfl⟩
 ·exact ⟨none,0,0,rfl,rfl,Nat.le_refl _, .inl ⟨rfl,rfl,rfl,rfl⟩⟩
theorem KW {S:Nat->Prop} : ∀(e:Ty),aT e=true->(Ao e).length=e.size/\Cells w S e (Ao e) e.zero/\(e.tree=true->Bf w [] e (Ao e) e.zero):=by
 intro e
 induction e with
 |unit=>intro _;exact ⟨rfl,rfl,λ_=>⟨rfl,rfl⟩⟩
 |pair a r gi dA=>
  intro h
  simp only [aT,Bool.and_eq_true] at h
  obtain ⟨a1,a2,a3⟩:=gi h.1
  obtain ⟨r1,r2,r3⟩:=dA h.2
  exact ⟨by simp [Ao,Ty.size,a1,r1],⟨_,_,rfl,a2,r2⟩,λht=>by simp only [Ty.tree,Bool.and_eq_true] at ht;exact ⟨_,_,[],[],rfl,rfl,a3 ht.1,r3 ht.2⟩⟩
 |_=>
  intro h
  simp only [aT] at h
  obtain ⟨z,z1,z2,z3,z4,_⟩:=zx (w:=w) (S:=S) h
  exact ⟨by rw [z1,z3];rfl,by rw [z1];exact z4,λht=>by rw [z1];exact xc ht h z1⟩
theorem AP {z:Array Value} {s m j q:Nat} (hz:z.size=s) (hj:j<m) (hq:q<s):(madeCells z (m*s))[j*s+q]?=z[q]?:=by
 have h1:j*s+q<m*s:=by
  have:=Nat.mul_le_mul_right s (show j+1<=m by omega)
  rw [Nat.succ_mul] at this
  omega
 have h2:(j*s+q)%z.size=q:=by rw [hz,Nat.mul_comm,Nat.mul_add_mod,Nat.mod_eq_of_lt hq]
 have h3:q<z.size:=by omega
 unfold madeCells
 simp [h1,h2,h3]
theorem mj (hT:Cd P T) {st:St} {a:Act} (h:Aj X π st a w) (dst:Nat) (t:TypeId) (l c:AV) (vl vc:Value) (hl:An X w π st.heap l vl) (hc:An X w π st.heap c vc) (av:AV) (st':St)
  (he:Ux T st dst t l c=some (av,st')): ∃v' w' π',(Instr.makeSlice t vl vc).run P w= .ok v' w'/\Aj X π' st' a w'/\An X w' π' st'.heap av v':=by
 unfold Ux at he
 split at he
 ·rename_i te PB k1 n ly k2 m ey
  have:=Kb hl;subst this
  have:=Kb hc;subst this
  split at he
  ·rename_i e Qs
   split at he
   ·rename_i Fh
    obtain ⟨h0,XZ,hz,FL⟩:=Fh
    obtain ⟨h1,h2⟩:=Nd.1 h0
    subst XZ
    simp only [Option.some.injEq,Prod.mk.injEq] at he
    obtain ⟨rfl,rfl⟩:=he
    obtain ⟨i,hi,Oi,l5,mE⟩:=(hT.ty te e Qs).info
    obtain ⟨z1,z4,z5⟩:=KW (w:=w) (S:=Be X.w0.heap.size X.Sc π (T.oa||e.flat)) e hz
    have HN:(Ar e (Ao e)).cells=(Ao e).toArray:=Gj e _ _ z4
    have hu:=hT.elem t te ey
    have hn:n.toNat<=4294967296:=by unfold Bm at h2;omega
    have hr:=run_make (P:=P) (w:=w) t te i _ hu hi mE k1 k2 n n h1 (Int.le_refl _) (by
     have:(i.bytes:Int)*n<=256*4294967296:=by
      obtain ⟨nn,rfl⟩:=Int.eq_ofNat_of_zero_le h1
      have h7:i.bytes*nn<=256*4294967296:=Nat.mul_le_mul l5 (by simpa using hn)
      have h8:((i.bytes*nn:Nat):Int)<=256*4294967296:=by omega
      rwa [Int.natCast_mul] at h8
     omega) (by unfold Bm at h2;omega)
    rw [HN,Oi] at hr
    have On:((Ao e).toArray).size=e.size:=by simpa using z1
    have cell: ∀j,j<n.toNat-> ∀q u,(Ao e)[q]?=some u->(madeCells (Ao e).toArray (n.toNat*e.size)).toList[j*e.size+q]?=some u:=by
     intro j hj q u hu
     have hq:q<e.size:=by rw [<-z1];exact (List.getElem?_eq_some_iff.1 hu).1
     have:=AP On hj hq
     rw [Array.getElem?_toList,this]
     simpa using hu
    have:=al (w1:=w.alloc (.cells (madeCells (Ao e).toArray (n.toNat*e.size)) te)) h dst FL (T.oa||e.flat) (T.tQ&&e.tree) e te (List.replicate n.toNat e.zero) (madeCells (Ao e).toArray (n.toNat*e.size)).toList (madeCells (Ao e).toArray (n.toNat*e.size)) n.toNat []
     (.inr rfl) (by rw [size_madeCells]) (by unfold maxLen;omega) (by simp)
     (λk u hu=>by
      rw [Array.getElem?_toList] at hu;exact hu) ⟨by simp [size_madeCells],λj x hx=>by
       have hj:=(List.getElem?_eq_some_iff.1 hx).1
       simp only [List.length_replicate] at hj
       refine ⟨Ao e,z1,λq u hu=>cell j hj q u hu,?_⟩
       rw [List.eq_of_mem_replicate (List.mem_of_getElem? hx)];exact z4⟩ (by simp) (λgQ=>⟨List.nodup_nil,List.replicate n.toNat [],by simp,by simp,λj x F hx hF=>by
      have hj:=(List.getElem?_eq_some_iff.1 hx).1
      simp only [List.length_replicate] at hj
      refine ⟨Ao e,z1,λq u hu=>cell j hj q u hu,?_⟩
      have e1:=List.eq_of_mem_replicate (List.mem_of_getElem? hx)
      have e2:=List.eq_of_mem_replicate (List.mem_of_getElem? hF)
      rw [e1,e2]
      exact z5 (by simp only [Bool.and_eq_true] at gQ;exact gQ.2)⟩)
    exact ⟨_,_,_,hr,this.1,this.2 _ (by simp)⟩
   ·cases he
  ·cases he
 ·cases he
theorem c8 (off:Nat): ∀(us:List Value) (k:Nat) (cells:List Value),off+k+us.length<=cells.length->
  (us.zipIdx k).foldl (λcs p=>cs.setIfInBounds (off+p.2) p.1) cells.toArray=(Bt cells (off+k) us).toArray
 | [],k,cells,h=>by simp [Bt]
 |u::us,k,cells,h=>by
  simp only [List.zipIdx_cons,List.foldl_cons]
  rw [show cells.toArray.setIfInBounds (off+k) u=(cells.set (off+k) u).toArray by simp]
  rw [c8 off us (k+1) (cells.set (off+k) u) (by simp at h⊢;omega)]
  congr 1
  apply List.ext_getElem?
  intro j
  have hl:off+k+(u::us).length<=cells.length:=h
  have zY:off+(k+1)+us.length<=(cells.set (off+k) u).length:=by simp at h⊢;omega
  rw [Ed _ _ _ _ hl,Ed _ _ _ _ zY]
  simp only [List.length_cons]
  by_cases h1:j<off+k
  ·rw [if_pos (by omega),if_pos h1,List.getElem?_set_ne (by omega)]
  ·rw [if_neg h1]
   by_cases h2:j=off+k
   ·subst h2
    rw [if_pos (by omega),if_pos (by omega),List.getElem?_set_self (by simp at h;omega)]
    simp
   ·rw [if_neg (by omega)]
    by_cases h3:j<off+k+(us.length+1)
    ·rw [if_pos (by omega),if_pos h3]
     rw [show j-(off+k)=(j-(off+(k+1)))+1 by omega,List.getElem?_cons_succ]
    ·rw [if_neg (by omega),if_neg h3,List.getElem?_set_ne (by omega)]
theorem pQ (place:Nat->Option (Nat×Nat)) (cells:List Value) (i:Nat) (v:Value) (rest:List (Nat×Value)) (off size:Nat) (us:List Value) (hp:place i=some (off,size)) (hv:v.cells=us.toArray)
  (hl:us.length=size) (hle:off+size<=cells.length):Instr.fill place cells.toArray ((i,v)::rest)=Instr.fill place (Bt cells off us).toArray rest:=by
 simp only [Instr.fill,hp,hv,List.size_toArray,hl]
 rw [if_neg (by simp;omega)]
 congr 1
 have:=c8 off us 0 cells (by omega)
 simp only [Nat.add_zero] at this
 rw [<-this]
 simp
theorem Qg (e:Ty) {a:Act} : ∀(parts:List (Nat×Operand)) (i:Nat) (st:St) (π:Pi) (fr tr:Bool) (ys:List e.den) (st':St) (cells:List Value),Aj X π st a w->Gs e i parts st=some (fr,tr,ys,st')->
  (i+parts.length)*e.size<=cells.length->
  ∃π' cl,Aj X π' st' a w/\Flat w (Be X.w0.heap.size X.Sc π' fr) e cl ys/\ys.length=parts.length/\Gg π π' st.heap st'.heap/\
   Instr.fill (λi=>some (i*e.size,e.size)) cells.toArray (parts.map λp=>(p.1,a.eval p.2))=some (Bt cells (i*e.size) cl).toArray/\
   (tr=true-> ∃Fs,Md w e cl ys Fs/\bC X w π' (List.flatten Fs)/\ ∀b∈List.flatten Fs,∃l r,π l=some r/\r.cl b)
 | [],i,st,π,fr,tr,ys,st',cells,h,he,hle=>by
  simp only [Gs,Option.some.injEq,Prod.mk.injEq] at he
  obtain ⟨rfl,rfl,rfl,rfl⟩:=he
  exact ⟨π,[],h,Flat.nil,rfl,Gg.refl _ _,by simp [Instr.fill,Bt],λ_=>⟨[],⟨rfl,λi z F hz=>by simp at hz⟩,⟨List.nodup_nil,by simp⟩,by simp⟩⟩
 |(j,x)::r,i,st,π,fr,tr,ys,st',cells,h,he,hle=>by
  simp only [Gs] at he
  split at he
  ·rename_i eo;subst eo
   split at he
   ·rename_i v' st1 hs
    obtain ⟨Vx,h1,h2,h3,h4,h5⟩:=Vr h (Bs h.2 x) hs
    split at he
    ·rename_i PB y hv
     split at he
     ·rename_i ly tr2 zs st2 hr
      simp only [Option.some.injEq,Prod.mk.injEq] at he
      obtain ⟨rfl,rfl,rfl,rfl⟩:=he
      obtain ⟨es,Zj,xS⟩:=Jn e v' _ PB y h3 h2 hv
      have gO:=Cells.len e es y Zj
      have Adv:i*e.size+e.size<=cells.length:=by
       have:(i+1)*e.size<=(i+((i,x)::r).length)*e.size:=Nat.mul_le_mul_right _ (by simp)
       rw [Nat.add_mul,Nat.one_mul] at this
       omega
      have zZ:i*e.size+es.length<=cells.length:=by omega
      obtain ⟨FH,cl,g1,g2,g3,g4,g5,g6⟩:=Qg e r (i+1) st1 Vx ly tr2 zs st2 (Bt cells (i*e.size) es) h1 hr (by
       rw [Ep _ _ _ zZ]
       rw [show i+1+r.length=i+((i,x)::r).length by simp;omega];exact hle)
      have f1:Flat w (Be X.w0.heap.size X.Sc FH PB) e es [y]:=⟨by simp [gO],λq z hz=>by
       rcases q with _|q
       ·simp at hz;subst hz
        exact ⟨es,gO,λj u hu=>by simpa using hu,rj g1 g4 e es y Zj⟩
       ·simp at hz⟩
      refine ⟨FH,es++cl,g1,?_,by simp [g3],h4.trans g4,?_,λht=>?_⟩
      ·have:=(f1.cells λes z hc=>hc.and_left (f2:=ly)).append (g2.cells λes z hc=>hc.and_right (f1:=PB))
       simpa using this
      ·simp only [List.map_cons]
       rw [pQ _ cells i (a.eval x) _ (i*e.size) e.size es rfl (by rw [xS];exact Gj e es y Zj) gO Adv,g5]
       congr 2
       have Nz:cl.length=r.length*e.size:=by rw [g2.1,g3]
       have Qp:(i+1)*e.size+cl.length<=(Bt cells (i*e.size) es).length:=by
        rw [Ep _ _ _ zZ,Nz,<-Nat.add_mul]
        rw [show i+1+r.length=i+((i,x)::r).length by simp;omega];exact hle
       have XH:i*e.size+(es++cl).length<=cells.length:=by
        rw [Ep _ _ _ zZ] at Qp
        rw [List.length_append,gO]
        rw [Nat.add_mul,Nat.one_mul] at Qp
        omega
       have e1:(i+1)*e.size=i*e.size+es.length:=by rw [Nat.add_mul,Nat.one_mul,gO]
       apply List.ext_getElem?
       intro k
       rw [Ed _ _ _ _ Qp,Ed _ _ _ _ XH,Ed _ _ _ _ zZ,e1,List.length_append]
       by_cases k1:k<i*e.size
       ·rw [if_pos (by omega),if_pos k1,if_pos k1]
       ·rw [if_neg k1,if_neg k1]
        by_cases k2:k<i*e.size+es.length
        ·rw [if_pos k2,if_pos k2,if_pos (by omega),List.getElem?_append_left (by omega)]
        ·rw [if_neg k2,if_neg k2]
         by_cases k3:k<i*e.size+es.length+cl.length
         ·rw [if_pos k3,if_pos (by omega),List.getElem?_append_right (by omega)]
          congr 1;omega
         ·rw [if_neg k3,if_neg (by omega)]
      ·simp only [Bool.and_eq_true] at ht
       obtain ⟨⟨ht1,QJ⟩,ht3⟩:=ht
       obtain ⟨F,us,t1,t2,t3,t7⟩:=h5 ht1 e PB y QJ hv
       obtain ⟨Fs,t4,t5,t6⟩:=g6 ht3
       have HM:us=es:=by
        have c1:=Bf.cells (S:= λ_=>False) F e us y t1 (λ_ _ h=>h)
        have a1:=Gj e us y c1
        have a2:=Gj e es y Zj
        rw [<-t2,xS,a2] at a1
        simpa using a1.symm
       subst HM
       refine ⟨F::Fs,?_,?_,λb hb=>?_⟩
       ·have k1:Md w e us [y] [F]:=⟨rfl,λq z G hz hG=>by
         rcases q with _|q
         ·simp at hz hG;subst hz;subst hG
          exact ⟨us,gO,λj u hu=>by simpa using hu,t1⟩
         ·simp at hz⟩
        exact Md.append (by simp [gO]) k1 t4
       ·rw [List.flatten_cons]
        refine ⟨List.nodup_append.2 ⟨t3.1,t5.1,λb hb b' oc e=>?_⟩,λb hb=>?_⟩
        ·subst e
         obtain ⟨l,r,q1,q2⟩:=t6 b oc
         exact (t3.2 b hb).2.2 l r q1 q2
        ·rcases List.mem_append.1 hb with hb|hb
         ·have:=t3.2 b hb
          refine ⟨this.1,this.2.1,λl r q1 q2=>?_⟩
          cases hh:Ae st2.heap l with
          |none=>rw [(g1.1.heap l).emp hh] at q1;cases q1
          |some b'=>exact this.2.2 l r ((g4 l b' hh).1▸q1) q2
         ·exact t5.2 b hb
       ·rw [List.flatten_cons] at hb
        rcases List.mem_append.1 hb with hb|hb
        ·exact t7 b hb
        ·obtain ⟨l,r,q1,q2⟩:=t6 b hb
         cases hh:Ae st1.heap l with
         |none=>rw [(h1.1.heap l).emp hh] at q1;cases q1
         |some b'=>exact ⟨l,r,(h4 l b' hh).1▸q1,q2⟩
     ·cases he
    ·cases he
   ·cases he
  ·cases he
theorem bY (hT:Cd P T) {st:St} {a:Act} (h:Aj X π st a w) (dst:Nat) (t:TypeId) (len:Nat) (parts:Array (Nat×Operand)) (av:AV) (st':St)
  (he:Hl T st dst t len parts=some (av,st')):
  ∃v' w' π',(Instr.buildSlice t len (parts.map λ(i,x)=>(i,a.eval x))).run P w= .ok v' w'/\Aj X π' st' a w'/\An X w' π' st'.heap av v':=by
 unfold Hl at he
 split at he
 ·cases he
 ·rename_i te ey
  split at he
  ·cases he
  ·rename_i e Qs
   split at he
   ·rename_i Fh
    obtain ⟨eu,hlen⟩:=Fh
    split at he
    ·rename_i fr tr ys st1 hb
     simp only [Option.some.injEq,Prod.mk.injEq] at he
     obtain ⟨rfl,rfl⟩:=he
     obtain ⟨i,hi,Oi,l5,mE⟩:=(hT.ty te e Qs).info
     have hu:=hT.elem t te ey
     have CB:parts.toList.length=len:=by simpa using eu
     have hz: ∃z:Array Value,(len*e.size=0/\z= #[])\/(¬len*e.size=0/\(zeroValue te).run P w= .ok (Ar e (Ao e)) w/\z=(Ar e (Ao e)).cells):=by
      by_cases h0:len*e.size=0
      ·exact ⟨#[], .inl ⟨h0,rfl⟩⟩
      ·exact ⟨_, .inr ⟨h0,by simp [zeroValue,typeInfo,hi,mE],rfl⟩⟩
     obtain ⟨z,hz⟩:=hz
     obtain ⟨Vx,cl,g1,g2,g3,g4,g5,g6⟩:=Qg e parts.toList 0 st π fr tr ys st1 ((Array.range (len*e.size)).map (z[· %z.size]!)).toList h hb (by simp [CB])
     have Nz:cl.length=len*e.size:=by rw [g2.1,g3,CB]
     have FO:(Bt ((Array.range (len*e.size)).map (z[· %z.size]!)).toList (0*e.size) cl)=cl:=by
      simp [Bt,Nz]
     rw [FO] at g5
     have Oj:(Instr.buildSlice t len (parts.map λ(i,x)=>(i,a.eval x))).run P w= .ok (.slice (some ⟨w.heap.size,0,none⟩) len len) (w.alloc (.cells cl.toArray te)):=by
      have h24: ¬(len*e.size>2^24):=by
       have:len*e.size<=64*64:=Nat.mul_le_mul hlen.1 hlen.2.1
       omega
      simp only [Instr.buildSlice,Sem.run_bind,run_underlying hu,Result.andThen_ok,(hT.ty te e Qs).size,if_neg h24]
      have e1:(parts.map λ(i,x)=>(i,a.eval x)).toList=parts.toList.map λp=>(p.1,a.eval p.2):=by simp
      simp only [e1]
      have e2:(((Array.range (len*e.size)).map (z[· %z.size]!)).toList.toArray)=(Array.range (len*e.size)).map (z[· %z.size]!):=Array.toArray_toList
      rw [e2] at g5
      rcases hz with ⟨h0,rfl⟩|⟨h0,hz,rfl⟩
      ·rw [if_pos h0]
       simp only [Sem.run_bind,Sem.run_pure,Result.andThen_ok,g5,newRow]
       simp
      ·rw [if_neg h0]
       simp only [Sem.run_bind,Sem.run_pure,Result.andThen_ok,hz,g5,newRow]
       simp
     have hN: ∃N:List Nat,(∀b∈N,(X.w0.heap.size<=b\/X.gv b)/\b<w.heap.size/\ ∀m r0,m≠dst->Vx m=some r0-> ¬r0.cl b)/\(tr=true->N.Nodup/\ ∃Fs,List.flatten Fs=N/\Md w e cl ys Fs):=by
      cases tr with
      |false=>exact ⟨[],by simp,λh=>by cases h⟩
      |true=>
       obtain ⟨Fs,t1,t2,_⟩:=g6 rfl
       exact ⟨_,λb hb=>⟨(t2.2 b hb).1,(t2.2 b hb).2.1,λm r0 _=>(t2.2 b hb).2.2 m r0⟩,λ_=>⟨t2.1,Fs,rfl,t1⟩⟩
     obtain ⟨N,q1,q2⟩:=hN
     have:=al (w1:=w.alloc (.cells cl.toArray te)) g1 dst hlen.2.2 ((T.oa||e.flat)&&fr) (T.tQ&&tr) e te ys cl cl.toArray len N (.inr rfl) (by simpa using Nz) (by simp only [maxLen];omega) (by omega) (λk u hu=>by simpa using hu) (g2.cells λes z hc=>hc.and_right) q1 (λht=>q2 (by simp only [Bool.and_eq_true] at ht;exact ht.2))
     exact ⟨_,_,_,Oj,this.1,this.2 _ (by omega)⟩
    ·cases he
   ·cases he
theorem fy {t te:TypeId} {e:Ty} (h:Yg T t=some (te,e)):T.elem t=some te/\T.ty te=some (.slice e):=by
 unfold Yg at h
 cases he:T.elem t with
 |none=>rw [he] at h;cases h
 |some Ld=>
  rw [he] at h
  simp only [Option.bind_some] at h
  cases hg:T.zQ Ld with
  |none=>rw [hg] at h;cases h
  |some e'=>
   rw [hg] at h
   simp only [Option.map_some,Option.some.injEq,Prod.mk.injEq] at h
   obtain ⟨rfl,rfl⟩:=h
   refine ⟨rfl,?_⟩
   unfold Tab.zQ at hg
   split at hg
   ·split at hg
    ·rename_i Qs;simp only [Option.some.injEq] at hg;subst hg;exact Qs
    ·cases hg
   ·cases hg
theorem gp (w:World) (o:Obj):Gf w.heap.size (λ_=>False) w (w.alloc o):=⟨rfl,rfl,rfl,by simp,λk hk _=>Below.heap_alloc w _ k hk⟩
theorem ka (w:World) (o:Obj):Gf w.heap.size (λ_=>False) w (w.drew.alloc o):=⟨rfl,rfl,rfl,by simp,λk hk _=>Below.heap_alloc w.drew _ k hk⟩
theorem kZ (hT:Cd P T) {st:St} {a:Act} (h:Aj X π st a w) (dst:Nat) (t:TypeId) (l c:AV) (vl vc:Value) (hl:An X w π st.heap l vl) (hc:An X w π st.heap c vc) (av:AV) (st':St)
  (he:Qm T st dst t l c=some (av,st')): ∃v' w' π',(Instr.makeSlice t vl vc).run P w= .ok v' w'/\Aj X π' st' a w'/\An X w' π' st'.heap av v':=by
 unfold Qm at he
 split at he
 ·exact mj hT h dst t l c vl vc hl hc av st' he
 ·rename_i te e hg
  obtain ⟨ey,Qs⟩:=fy hg
  split at he
  ·rename_i PB k1 n ly k2 m
   have:=Kb hl;subst this
   have:=Kb hc;subst this
   split at he
   ·rename_i Fh
    obtain ⟨h0,XZ,FL⟩:=Fh
    obtain ⟨h1,h2⟩:=Nd.1 h0
    subst XZ
    simp only [Option.some.injEq,Prod.mk.injEq] at he
    obtain ⟨rfl,rfl⟩:=he
    obtain ⟨i,hi,Oi,l5,mE⟩:=(hT.ty te _ Qs).info
    have hu:=hT.elem t te ey
    have hn:n.toNat<=4294967296:=by unfold Bm at h2;omega
    have hr:=run_make (P:=P) (w:=w) t te i _ hu hi mE k1 k2 n n h1 (Int.le_refl _) (by
     have:(i.bytes:Int)*n<=256*4294967296:=by
      obtain ⟨nn,rfl⟩:=Int.eq_ofNat_of_zero_le h1
      have h7:i.bytes*nn<=256*4294967296:=Nat.mul_le_mul l5 (by simpa using hn)
      have h8:((i.bytes*nn:Nat):Int)<=256*4294967296:=by omega
      rwa [Int.natCast_mul] at h8
     omega) (by unfold Bm at h2;omega)
    have HN:(Ar (Ty.slice e) (Ao (Ty.slice e))).cells= #[.slice none 0 0]:=by simp [Ar,Ty.Ac,Ao,Value.cells]
    have lD:(Ty.slice e).size=1:=rfl
    rw [HN,Oi,lD] at hr
    have cell: ∀j,j<n.toNat->(madeCells #[Value.slice none 0 0] (n.toNat*1))[0+j]?=some (.slice none 0 0):=by
     intro j hj
     have:=AP (z:= #[Value.slice none 0 0]) (s:=1) (m:=n.toNat) (j:=j) (q:=0) rfl hj (by omega)
     simp only [Nat.mul_one,Nat.add_zero] at this
     simp only [Nat.mul_one,Nat.zero_add]
     rw [this];rfl
    obtain ⟨π',g1,g2⟩:=Sb (w1:=w.alloc (.cells (madeCells #[Value.slice none 0 0] (n.toNat*1)) te)) (gv:= λ_=>False) h FL FL te (e:=e) (rows:=List.replicate n.toNat []) (us:=List.replicate n.toNat (.slice none 0 0)) (Rs:=List.replicate n.toNat none) (g:=w.heap.size) (o:=0) (cap:=n.toNat)
     (λ_ hf=>hf.elim) (gp w _) ⟨.inl (Nat.le_refl _),by simp⟩ (heap_alloc_new w _) (by rw [size_madeCells];omega) (by unfold maxLen;omega) (by simp) (λj u hu=>by
      have hj:=(List.getElem?_eq_some_iff.1 hu).1
      simp only [List.length_replicate] at hj
      rw [cell j hj,List.eq_of_mem_replicate (List.mem_of_getElem? hu)])
     ⟨by simp,by simp,λi j q q' h1=>(by have:=List.eq_of_mem_replicate (List.mem_of_getElem? h1);cases this),λi x hx=>by
      have hj:=(List.getElem?_eq_some_iff.1 hx).1
      simp only [List.length_replicate] at hj
      rw [List.eq_of_mem_replicate (List.mem_of_getElem? hx)]
      exact ⟨.slice none 0 0,none,by rw [List.getElem?_replicate,if_pos hj],by rw [List.getElem?_replicate,if_pos hj],⟨rfl,rfl,rfl⟩,rfl⟩⟩
     (λi q h1=>by have:=List.eq_of_mem_replicate (List.mem_of_getElem? h1);cases this)
    exact ⟨_,_,π',hr,g1,g2 _ (by simp)⟩
   ·cases he
  ·cases he
theorem bw (hT:Cd P T) {st:St} {a:Act} (h:Aj X π st a w) (dst:Nat) (t:TypeId) (len:Nat) (parts:Array (Nat×Operand)) (av:AV) (st':St)
  (he:Er T st dst t len parts=some (av,st')):
  ∃v' w' π',(Instr.buildSlice t len (parts.map λ(i,x)=>(i,a.eval x))).run P w= .ok v' w'/\Aj X π' st' a w'/\An X w' π' st'.heap av v':=by
 unfold Er at he
 split at he
 ·exact bY hT h dst t len parts av st' he
 ·rename_i te e hg
  obtain ⟨ey,Qs⟩:=fy hg
  split at he
  rotate_left
  ·cases he
  rename_i x SP
  split at he
  rotate_left
  ·cases he
  rename_i m off ln hx
  split at he
  rotate_left
  ·cases he
  rename_i fr tr e' tid xs hm
  split at he
  rotate_left
  ·cases he
  rename_i hc
  obtain ⟨rfl,hc,rfl,rfl⟩:=hc
  simp only [Bool.and_eq_true,Nat.blt_eq] at hc
  obtain ⟨hlen,FL,LI⟩:=hc
  have hlen:len=1:=Nat.eq_of_beq_eq_true hlen
  subst hlen
  simp only [Option.some.injEq,Prod.mk.injEq] at he
  obtain ⟨rfl,rfl⟩:=he
  have hu:=hT.elem t te ey
  unfold St.at at hm
  have YO:=Bs h.2 x
  rw [hx] at YO
  obtain ⟨_,oe⟩:=Jd (X:=X) (w:=w) YO hm
  obtain ⟨ax,nx,cx,NC⟩:=Tu oe
  have hp:parts= #[(0,x)]:=by apply Array.ext';simpa using SP
  subst hp
  obtain ⟨i,hi,Oi,l5,mE⟩:=(hT.ty te _ Qs).info
  have Oj:(Instr.buildSlice t 1 (#[(0,x)].map λ(i,x)=>(i,a.eval x))).run P w= .ok (.slice (some ⟨w.heap.size,0,none⟩) 1 1) (w.alloc (.cells #[a.eval x] te)):=by
   have lD:(Ty.slice e').size=1:=rfl
   have hz:(zeroValue te).run P w= .ok (.slice none 0 0) w:=by simp [zeroValue,typeInfo,hi,mE,Ar,Ty.Ac,Ao]
   have LI:(#[(0,x)].map λ(i,x)=>(i,a.eval x))= #[(0, .slice ax nx cx)]:=by simp [NC]
   rw [LI,NC]
   simp only [Instr.buildSlice,Sem.run_bind,run_underlying hu,Result.andThen_ok,(hT.ty te _ Qs).size,lD]
   simp [Value.cells,Instr.fill,newRow,hz]
   congr 2
   apply Array.ext
   ·simp
   ·intro i h1 h2
    have h0:i=0:=by simpa using h2
    subst h0
    simp
  have xd:=(h.1.heap m).Me hm
  simp only [Av,Fl] at xd
  have hfa:Mh w (Be X.w0.heap.size X.Sc π false) (π m) e' xs:=by
   cases hR:π m with
   |none=>rw [hR] at xd;exact xd
   |some q=>
    rw [hR] at xd
    obtain ⟨⟨f0,f0',_⟩,cu,LO,f2,f3,f4,f5,f6,_⟩:=xd
    exact ⟨⟨f0,f0'⟩,cu,LO,f2,f3,f4,f5,λp y hy=>by
     obtain ⟨es,g1,g2,g3⟩:=f6 p y hy
     exact ⟨es,g1,g2,Cells.Cw (Nat.le_refl _) (λ_ _ _=>rfl) (λb _ hA=>hA.imp id (Or.imp id λ⟨h1,_⟩=>by cases h1)) e' es y g3⟩⟩
  obtain ⟨π',g1,g2⟩:=Sb (w1:=w.alloc (.cells #[a.eval x] te)) (gv:= λ_=>False) h FL LI te (e:=e') (rows:= [xs]) (us:= [a.eval x]) (Rs:= [π m]) (g:=w.heap.size) (o:=0) (cap:=1)
   (λ_ hf=>hf.elim) (gp w _) ⟨.inl (Nat.le_refl _),by simp⟩ (heap_alloc_new w _) rfl (by unfold maxLen;omega) (by simp) (λj u hu=>by
    rcases j with _|j
    ·simpa using hu
    ·simp at hu)
   ⟨rfl,rfl,λi j q q' h1 h2 _=>by
    rcases i with _|i
    ·rcases j with _|j
     ·rfl
     ·simp at h2
    ·simp at h1,λi y hy=>by
    rcases i with _|i
    ·simp only [List.getElem?_cons_zero,Option.some.injEq] at hy
     subst hy
     exact ⟨_,_,rfl,rfl,oe,hfa⟩
    ·simp at hy⟩
   (λi q h1=>by
    rcases i with _|i
    ·simp only [List.getElem?_cons_zero,Option.some.injEq] at h1
     have hf:=h.1.Az h1
     have:=(h.1.place m q _ h1 (h.1.sub m q _ h1 hf)).2
     exact ⟨by omega,λh=>h,m,q, .inr rfl,h1,hf⟩
    ·simp at h1)
  exact ⟨_,_,π',Oj,g1,g2 1 rfl⟩
theorem gB (hT:Cd P T) {st:St} {a:Act} (h:Aj X π st a w) (dst:Nat) (t ty:TypeId) (x y:Operand) (av:AV) (st':St) (he:Lh T st dst t x y=some (av,st')):
  ∃v' w' π',(Builtin.append_ #[t,t] ty #[a.eval x,a.eval y]).run P w= .ok v' w'/\Aj X π' st' a w'/\An X w' π' st'.heap av v':=by
 unfold Lh at he
 split at he
 ·exact gA hT h dst t ty x y av st' he
 ·rename_i te e hg
  obtain ⟨ey,Qs⟩:=fy hg
  split at he
  rotate_left
  ·cases he
  rename_i l off len m IP mP hx hy
  split at he
  rotate_left
  ·cases he
  rename_i e1 te1 A kp1 e2 pv B kp2 hl hm
  split at he
  rotate_left
  ·cases he
  rename_i hc
  obtain ⟨⟨rfl,rfl⟩,hc,⟨rfl,rfl⟩,⟨rfl,rfl⟩,hB,ja⟩:=hc
  simp only [Bool.and_eq_true,Nat.blt_eq,decide_eq_true_eq,Bool.not_eq_true'] at hc
  obtain ⟨⟨rfl,rfl⟩,oE,LI,dR⟩:=hc
  have dR:m≠l:= λe=>by rw [e,Nat.beq_refl] at dR;cases dR
  simp only [Option.some.injEq,Prod.mk.injEq] at he
  obtain ⟨rfl,rfl⟩:=he
  have hu:=hT.elem t pv ey
  obtain ⟨i,hi,Oi,l5,mE⟩:=(hT.ty pv _ Qs).info
  have Oi:i.size=1:=Oi
  unfold St.at at hl hm
  have YO:=Bs h.2 x
  have hry:=Bs h.2 y
  rw [hx] at YO;rw [hy] at hry
  obtain ⟨b1,s1,n1,q1,q2,_,hox⟩:=YO
  rw [hl] at q1;cases q1
  simp only [OB.row,Option.some.injEq,Prod.mk.injEq] at q2
  obtain ⟨rfl,rfl⟩:=q2
  obtain ⟨b2,s2,n2,q1,q2,_,hoy⟩:=hry
  rw [hm] at q1;cases q1
  simp only [OB.row,Option.some.injEq,Prod.mk.injEq] at q2
  obtain ⟨rfl,rfl⟩:=q2
  have hA:=((h.1.heap l).Me hl).1
  have VD:=((h.1.heap m).Me hm).1
  cases LK:π m with
  |none=>
   rw [LK] at VD
   have VD:B= []:=VD
   subst VD;simp at hB
  |some rB=>
  rw [LK] at VD hoy
  obtain ⟨fB,Ah9,tiB,uB,RB,w1B,w2B,w3B,w4B,w5B,w6B,VZ,LB⟩:=pS VD
  obtain ⟨adB,hvy,hcB,haB⟩:=hoy
  have haB:=haB (by omega)
  subst haB
  have hlB:=LB.1
  have TL:uB.length=B.length*i.size:=by rw [Oi,Nat.mul_one];exact hlB
  have TM: ∀j u,uB[j]?=some u->w.cell? ((⟨rB.g,(rB.o+0)*1,none⟩:Addr).add j)=some u:= λj u hu=>by
   rw [Addr.add_lit,cellOf w1B,Nat.mul_one,Nat.add_zero];exact w5B j u hu
  have mB:(A.length+B.length)*i.bytes<=140737488355328:=by
   have:(A.length+B.length)*i.bytes<=4294967296*256:=Nat.mul_le_mul ja l5
   omega
  have cj:A.length+B.length<=maxLen:=by unfold Bm at ja;simp only [maxLen];omega
  have ZD:(Ar (Ty.slice e2) (Ao (Ty.slice e2))).cells.size=1:=by simp [Ar,Ty.Ac,Ao,Value.cells]
  have Oy: ∀(k:Nat) (q:Real) (Rs:List (Option Real)),π k=some q->(∀(i:Nat) (p:Real),Rs[i]?=some (some p)->q.Az p.g/\p.g≠q.g)-> ∀(i:Nat) (p:Real),Rs[i]?=some (some p)->p.g<w.heap.size:= λk q Rs h1 h2 i p h3=>
   (h.1.place k q _ h1 (h.1.sub k q _ h1 (h2 i p h3).1)).2
  cases eu:π l with
  |none=>
   rw [eu] at hA hox
   have hA:A= []:=hA
   subst hA
   obtain ⟨NC,_,_⟩:=hox
   rw [NC,hvy]
   simp only [List.length_nil,Nat.zero_add,List.nil_append] at ja mB cj⊢
   have hr:=run_append_nil (P:=P) w t ty pv i _ hu hi mE ⟨rB.g,(rB.o+0)*1,none⟩ B.length (rB.cap-0) uB TL TM hB (by simp only [maxLen] at cj;omega) (by omega)
   have oA:=grownCap_ge w B.length 0 pv
   have MM:=grownCap_le_maxLen w B.length 0 pv (by omega)
   obtain ⟨π',g1,g2⟩:=Sb (w1:=w.drew.alloc (.cells (uB.toArray++Builtin.zeroCells (Ar (Ty.slice e2) (Ao (Ty.slice e2))).cells (grownCap w B.length 0 pv-B.length)) pv)) (gv:= λ_=>False) h oE LI pv (e:=e2) (rows:=B) (us:=uB) (Rs:=RB) (g:=w.heap.size) (o:=0) (cap:=grownCap w B.length 0 pv)
    (λ_ hf=>hf.elim) (ka w _) ⟨.inl (Nat.le_refl _),by simp⟩ (heap_alloc_new w.drew _) (by rw [Array.size_append,List.size_toArray,Ng,ZD];omega) MM oA (λj u hu=>by
     have hj:=(List.getElem?_eq_some_iff.1 hu).1
     rw [Nat.zero_add,Array.getElem?_append_left (by simpa using hj)];simpa using hu)
    LB (λi q h1=>⟨by have:=Oy m rB RB LK VZ i q h1;omega,λh=>h,m,rB, .inr rfl,LK,(VZ i q h1).1⟩)
   exact ⟨_,_,π',hr,g1,g2 _ rfl⟩
  |some rA=>
   rw [eu] at hA hox
   obtain ⟨fA,BQ,tiA,uA,RA,w1A,w2A,w3A,w4A,w5A,w6A,w7A,LA⟩:=pS hA
   obtain ⟨adA,NC,hcA,haA⟩:=hox
   have hlA:=LA.1
   rw [NC,hvy]
   have apart: ∀(i j:Nat) (q q':Real),RA[i]?=some (some q)->RB[j]?=some (some q')->q.g≠q'.g:= λi j q q' h1 h2 e=>by
    have:=h.1.apart eu LK (w7A i q h1).1 (e▸(VZ j q' h2).1)
    exact dR this.symm
   have LAB:=lN.append LA LB apart
   have Ff: ∀(i:Nat) (q:Real),RB[i]?=some (some q)->q.g≠rA.g:= λi q h1 e=>dR (h.1.apart LK eu (VZ i q h1).1 (e▸fA))
   have PK: ∀(i:Nat) (q:Real),(RA++RB)[i]?=some (some q)->q.g≠rA.g/\q.g<w.heap.size/\ ∃k p,(k=l\/k=m)/\π k=some p/\p.Az q.g:= λi q h1=>by
    by_cases hi:i<RA.length
    ·rw [List.getElem?_append_left hi] at h1
     exact ⟨(w7A i q h1).2,Oy l rA RA eu w7A i q h1,l,rA, .inl rfl,eu,(w7A i q h1).1⟩
    ·rw [List.getElem?_append_right (by omega)] at h1
     exact ⟨Ff _ q h1,Oy m rB RB LK VZ _ q h1,m,rB, .inr rfl,LK,(VZ _ q h1).1⟩
   by_cases uV:A.length+B.length<=rA.cap-0
   ·have haA:=haA (by omega)
    subst haA
    have Qp:(rA.o+0)*1+A.length*i.size+uB.length<=BQ.size:=by rw [Oi];omega
    have Sf:(rA.o+0)*1+A.length*i.size+uB.length<=BQ.toList.length:=by simpa using Qp
    have hr:=Ti (P:=P) (w:=w) (ty:=ty) hu hi rA.g ((rA.o+0)*1) A.length (rA.cap-0) BQ tiA w1A ⟨rB.g,(rB.o+0)*1,none⟩ B.length (rB.cap-0) uB TL TM w6B uV Qp
    have mD:=Ig w rA.g (Bt BQ.toList ((rA.o+0)*1+A.length*i.size) uB).toArray
    obtain ⟨π',g1,g2⟩:=Sb (w1:=w.setRow rA.g (Bt BQ.toList ((rA.o+0)*1+A.length*i.size) uB).toArray) (gv:= λb=>b=rA.g) h oE LI pv (e:=e2) (rows:=A++B) (us:=uA++uB) (Rs:=RA++RB) (g:=rA.g) (o:=rA.o) (cap:=rA.cap)
     (λb hb=>⟨l,rA, .inl rfl,eu,hb▸fA⟩) ⟨mD.os,mD.tape,mD.output,mD.size,λc _ hc=>setRow_other w rA.g c _ hc⟩ ⟨.inr ⟨l,rA, .inl rfl,eu,fA⟩,Nat.lt_of_lt_of_le (Dd w1A) mD.size⟩
     (setRow_heap w rA.g BQ _ tiA _ w1A) (by rw [List.size_toArray,Ep _ _ _ Sf,Array.length_toList];exact w2A) w3A (by simp;omega) (λj u hu=>by
      rw [List.getElem?_toArray,Ed _ _ _ _ Sf,Oi]
      by_cases hj:j<uA.length
      ·rw [List.getElem?_append_left hj] at hu
       rw [if_pos (by omega),Array.getElem?_toList]
       exact w5A j u hu
      ·rw [List.getElem?_append_right (by omega)] at hu
       have:=(List.getElem?_eq_some_iff.1 hu).1
       rw [if_neg (by omega),if_pos (by omega)]
       rw [show rA.o+j-((rA.o+0)*1+A.length*1)=j-uA.length by omega]
       exact hu)
     LAB (λi q h1=>⟨(PK i q h1).1,(PK i q h1).1,(PK i q h1).2.2⟩)
    have:=g2 (A.length+B.length) (by simp)
    have e0:(rA.o+0)*1=rA.o:=by omega
    simp only [e0,Nat.sub_zero] at hr g1 this⊢
    exact ⟨_,_,π',hr,g1,this⟩
   ·have hold: ∀j u,uA[j]?=some u->w.cell? (adA.add j)=some u:=by
     intro j u hu
     have hj:=(List.getElem?_eq_some_iff.1 hu).1
     rw [haA (by omega),Addr.add_lit,cellOf w1A,Nat.mul_one,Nat.add_zero];exact w5A j u hu
    have hr:=run_append_grow (P:=P) w t ty pv i _ hu hi mE adA A.length (rA.cap-0) uA (by rw [Oi,Nat.mul_one];exact hlA) hold ⟨rB.g,(rB.o+0)*1,none⟩ B.length (rB.cap-0) uB TL TM (by omega) (by simp only [maxLen] at cj;omega) (growslice_fits (by omega) mB)
    have oA:=grownCap_ge w (A.length+B.length) (rA.cap-0) pv
    have MM:=grownCap_le_maxLen w (A.length+B.length) (rA.cap-0) pv cj
    obtain ⟨π',g1,g2⟩:=Sb (w1:=w.drew.alloc (.cells (uA.toArray++uB.toArray++Builtin.zeroCells (Ar (Ty.slice e2) (Ao (Ty.slice e2))).cells (grownCap w (A.length+B.length) (rA.cap-0) pv-(A.length+B.length))) pv)) (gv:= λ_=>False) h oE LI pv (e:=e2) (rows:=A++B) (us:=uA++uB) (Rs:=RA++RB) (g:=w.heap.size) (o:=0) (cap:=grownCap w (A.length+B.length) (rA.cap-0) pv)
     (λ_ hf=>hf.elim) (ka w _) ⟨.inl (Nat.le_refl _),by simp⟩ (heap_alloc_new w.drew _) (by rw [Array.size_append,Array.size_append,List.size_toArray,List.size_toArray,Ng,ZD];omega) MM (by simpa using oA) (λj u hu=>by
      have hj:=(List.getElem?_eq_some_iff.1 hu).1
      rw [Nat.zero_add,Array.getElem?_append_left (by simpa using hj)];simpa using hu)
     LAB (λi q h1=>⟨by have:=(PK i q h1).2.1;omega,λh=>h,(PK i q h1).2.2⟩)
    exact ⟨_,_,π',hr,g1,g2 _ (by simp)⟩
theorem eY: ∀τ:Ty,Da X w π H (zeroCells τ) (Ao τ):=by
 have one: ∀(c:AC) (v:Value),v.oneCell'=true->Dx X w π H c v->Da X w π H [c] [v]:= λc v h1 h2=>⟨rfl,λi c' hc=>by
  rcases i with _|i
  ·simp at hc;subst hc;exact ⟨v,rfl,h1,h2⟩
  ·simp at hc⟩
 intro τ
 induction τ with
 |unit=>exact ⟨rfl,λi c hc=>by simp [zeroCells] at hc⟩
 |pair a r gi dA=>
  refine ⟨by simp [zeroCells,Ao,gi.1,dA.1],λi c hc=>?_⟩
  simp only [zeroCells] at hc
  simp only [Ao]
  by_cases hi:i<(zeroCells a).length
  ·rw [List.getElem?_append_left hi] at hc
   obtain ⟨u,hu,h⟩:=gi.2 i c hc
   exact ⟨u,by rw [List.getElem?_append_left (by rw [gi.1];exact hi)];exact hu,h⟩
  ·rw [List.getElem?_append_right (by omega)] at hc
   obtain ⟨u,hu,h⟩:=dA.2 _ c hc
   exact ⟨u,by rw [List.getElem?_append_right (by rw [gi.1];omega),gi.1];exact hu,h⟩
 |int k=>exact one (.data true _ _) _ rfl (Iv (H:=H) k 0 true)
 |bool=>exact one (.data true _ _) _ rfl (Ht (H:=H) false true)
 |str=>exact one (.data true _ _) _ rfl (jn (H:=H) ByteArray.empty true)
 |slice e=>exact one _ _ rfl rfl
 |oslice e=>exact one _ _ rfl rfl
 |ptr e=>exact one _ _ rfl rfl
 |optr e=>exact one _ _ rfl rfl
 |smap v=>exact one (.data true _ _) _ rfl ⟨[.map none], .inl ⟨rfl,rfl⟩,by simp [Ar,Ty.Ac]⟩
 |clo f c=>exact one .undef .nilFunc rfl trivial
theorem Xu (hT:Cd P T) {st:St} {a:Act} (h:Aj X π st a w) (t:TypeId) (Iw:Array (Nat×Nat))
  (eu: ∀f o u ρ,T.off t f=some (o,u)->T.ty u=some ρ->Iw[f]?=some (o,ρ.size)): ∀(parts:List (Nat×Operand)) (cs bV:List AC) (us:List Value),Da X w π st.heap cs us->
  Hk T st t parts cs=some bV-> ∃Su:List Value,Instr.fill (λi=>Iw[i]?) us.toArray (parts.map λp=>(p.1,a.eval p.2))=some Su.toArray/\Da X w π st.heap bV Su
 | [],cs,bV,us,hr,he=>by
  simp only [Hk,Option.some.injEq] at he;subst he
  exact ⟨us,rfl,hr⟩
 |(f,x)::r,cs,bV,us,hr,he=>by
  simp only [Hk] at he
  split at he
  ·rename_i o u ho
   split at he
   ·rename_i ρ ZF
    split at he
    ·rename_i c hc
     split at he
     ·rename_i hle
      obtain ⟨vs,hv,hl,QH⟩:=bL (Bs h.2 x) hc
      have e1:=hr.1
      have e2:=QH.1
      obtain ⟨Su,g1,g2⟩:=Xu hT h t Iw eu r _ bV _ (nP hr QH o hle) he
      refine ⟨Su,?_,g2⟩
      simp only [List.map_cons]
      rw [pQ _ us f (a.eval x) _ o ρ.size vs (eu f o u ρ ho ZF) hv hl (by omega)]
      exact g1
     ·cases he
    ·cases he
   ·cases he
  ·cases he
theorem aX (hT:Cd P T) {st:St} {a:Act} (h:Aj X π st a w) (t:TypeId) (parts:Array (Nat×Operand)) (av:AV) (he:Qj T st t parts=some av):
  ∃v',(Instr.build t (parts.map λ(i,x)=>(i,a.eval x))).run P w= .ok v' w/\An X w π st.heap av v':=by
 unfold Qj at he
 split at he
 ·cases he
 ·rename_i τ Qs
  split at he
  ·rename_i hs
   cases hb:Hk T st t parts.toList (zeroCells τ) with
   |none=>rw [hb] at he;cases he
   |some bV=>
    rw [hb] at he
    simp only [Option.map_some,Option.some.injEq] at he;subst he
    obtain ⟨fs,Iw,h1,h2,h3⟩:=hT.fill t τ Qs hs
    obtain ⟨i,hi,Oi,l5,mE⟩:=(hT.ty t τ Qs).info
    obtain ⟨Su,g1,g2⟩:=Xu hT h t Iw h3 parts.toList (zeroCells τ) bV (Ao τ) (eY τ) hb
    refine ⟨.agg Su.toArray,?_,Su,rfl,g2⟩
    have hz:(zeroValue t).run P w= .ok (Ar τ (Ao τ)) w:=by simp [zeroValue,typeInfo,hi,mE]
    have HN:(Ar τ (Ao τ)).cells=(Ao τ).toArray:=by simp [Ar,hs,Value.cells]
    have PE:=h2 w
    unfold placesOf at PE
    have e1:(parts.map λ(i,x)=>(i,a.eval x)).toList=parts.toList.map λp=>(p.1,a.eval p.2):=by simp
    simp only [Instr.build,Sem.run_bind,hz,Result.andThen_ok,run_underlying h1,PE,HN,e1,g1,Sem.run_pure]
  ·cases he
theorem nA {st:St} {v:AV} (h:v.settled=true):settle st v=some (v,st):=by
 cases v with
 | «at»a=>cases a<;>simp [AV.settled,AC.settled] at h<;>simp [settle,AC.settled]
 |agg cs=>
  have hs:cs.all (·.settled)=true:=h
  have:Dq cs.length st cs=some (cs,st):=by
   cases hn:cs.length with
   |zero=>simp [Dq,hs]
   |succ n=>
    have hf:cs.find? (λc=>!c.settled)=none:=List.find?_eq_none.2 λc hc=>by simpa using List.all_eq_true.1 hs c hc
    simp [Dq,hf]
  simp [settle,this]
 |Uo fr τ x=>rfl
 |Ix l=>simp [AV.settled] at h
theorem ig {e:Ty} {st:St} : ∀(parts:List (Nat×Operand)) (i:Nat) (fr:Bool) (ys:List e.den),ao e i parts st=some (fr,ys)-> ∃tr,Gs e i parts st=some (fr,tr,ys,st)
 | [],i,fr,ys,h=>by
  simp only [ao,Option.some.injEq,Prod.mk.injEq] at h
  obtain ⟨rfl,rfl⟩:=h
  exact ⟨true,rfl⟩
 |(j,x)::r,i,fr,ys,h=>by
  simp only [ao] at h
  split at h
  ·rename_i hc
   split at h
   ·rename_i f1 y f2 zs h1 h2
    simp only [Option.some.injEq,Prod.mk.injEq] at h
    obtain ⟨rfl,rfl⟩:=h
    obtain ⟨tr,h3⟩:=ig r (i+1) f2 zs h2
    refine ⟨Mu st (st.ev x)&&e.tree&&tr,?_⟩
    simp only [Gs]
    rw [if_pos hc.1,nA hc.2]
    simp only [h1,h3]
   ·cases h
  ·cases h
theorem iV (hT:Cd P T) {st:St} {a:Act} (h:Aj X π st a w) (t:TypeId) (len:Nat) (parts:Array (Nat×Operand)) (av:AV) (he:Uw T st t len parts=some av):
  ∃v' w' π',(Instr.buildSlice t len (parts.map λ(i,x)=>(i,a.eval x))).run P w= .ok v' w'/\Aj X π' st a w'/\An X w' π' st.heap av v':=by
 unfold Uw at he
 split at he
 ·cases he
 ·rename_i te ey
  split at he
  ·cases he
  ·rename_i e Qs
   split at he
   ·rename_i Fh
    obtain ⟨eu,hlen⟩:=Fh
    cases hp:ao e 0 parts.toList st with
    |none=>rw [hp] at he;cases he
    |some p=>
     obtain ⟨fr,ys⟩:=p
     rw [hp] at he
     simp only [Option.map_some,Option.some.injEq] at he
     subst he
     obtain ⟨tr,hb⟩:=ig _ _ _ _ hp
     obtain ⟨i,hi,Oi,l5,mE⟩:=(hT.ty te e Qs).info
     have hu:=hT.elem t te ey
     have CB:parts.toList.length=len:=by simpa using eu
     have hz: ∃z:Array Value,(len*e.size=0/\z= #[])\/(¬len*e.size=0/\(zeroValue te).run P w= .ok (Ar e (Ao e)) w/\z=(Ar e (Ao e)).cells):=by
      by_cases h0:len*e.size=0
      ·exact ⟨#[], .inl ⟨h0,rfl⟩⟩
      ·exact ⟨_, .inr ⟨h0,by simp [zeroValue,typeInfo,hi,mE],rfl⟩⟩
     obtain ⟨z,hz⟩:=hz
     obtain ⟨Vx,cl,g1,g2,g3,g4,g5,g6⟩:=Qg e parts.toList 0 st π fr tr ys st ((Array.range (len*e.size)).map (z[· %z.size]!)).toList h hb (by simp [CB])
     have Nz:cl.length=len*e.size:=by rw [g2.1,g3,CB]
     have FO:(Bt ((Array.range (len*e.size)).map (z[· %z.size]!)).toList (0*e.size) cl)=cl:=by
      simp [Bt,Nz]
     rw [FO] at g5
     have Oj:(Instr.buildSlice t len (parts.map λ(i,x)=>(i,a.eval x))).run P w= .ok (.slice (some ⟨w.heap.size,0,none⟩) len len) (w.alloc (.cells cl.toArray te)):=by
      have h24: ¬(len*e.size>2^24):=by
       have:len*e.size<=64*64:=Nat.mul_le_mul hlen.1 hlen.2
       omega
      simp only [Instr.buildSlice,Sem.run_bind,run_underlying hu,Result.andThen_ok,(hT.ty te e Qs).size,if_neg h24]
      have e1:(parts.map λ(i,x)=>(i,a.eval x)).toList=parts.toList.map λp=>(p.1,a.eval p.2):=by simp
      simp only [e1]
      have e2:(((Array.range (len*e.size)).map (z[· %z.size]!)).toList.toArray)=(Array.range (len*e.size)).map (z[· %z.size]!):=Array.toArray_toList
      rw [e2] at g5
      rcases hz with ⟨h0,rfl⟩|⟨h0,hz,rfl⟩
      ·rw [if_pos h0]
       simp only [Sem.run_bind,Sem.run_pure,Result.andThen_ok,g5,newRow]
       simp
      ·rw [if_neg h0]
       simp only [Sem.run_bind,Sem.run_pure,Result.andThen_ok,hz,g5,newRow]
       simp
     have MK:(w.alloc (.cells cl.toArray te)).heap[w.heap.size]?=some (.cells cl.toArray te (0,0)):=heap_alloc_new w _
     have hB:Below w.heap.size w (w.alloc (.cells cl.toArray te)):=(Below.refl _ _).alloc (Nat.le_refl _) _
     have Gz:=Dd MK
     refine ⟨_,_,Vx,Oj,g1.quiet hB,⟨[_],?_,rfl⟩⟩
     refine ⟨some ⟨w.heap.size,0,none⟩,len,len,rfl,by rw [g3,CB],Nat.le_refl _, .inr ⟨w.heap.size,0,rfl,Gz,λhA=>?_,λk x hx=>?_⟩⟩
     ·rcases hA with hA|hA|⟨_,hA⟩
      ·exact absurd (g1.1.own hA).1 (Nat.lt_irrefl _)
      ·exact absurd (Nat.lt_of_lt_of_le (g1.1.sc _ hA).1 g1.1.below.size) (Nat.lt_irrefl _)
      ·exact absurd (Nat.lt_of_lt_of_le hA g1.1.below.size) (Nat.lt_irrefl _)
     ·obtain ⟨es,k1,k2,k3⟩:=g2.2 k x hx
      refine ⟨es,k1,λj u hu=>?_,Cells.Cw hB.size (λb hb _=>hB.block b hb) (λ_ _ h=>h) e es x k3⟩
      rw [cellOf MK,Nat.zero_add]
      simpa using k2 j u hu
   ·cases he
theorem ux {Γ:Env} (hT:Cd P T) (Mf:Hc P Γ) {st:St} {a:Act} (h:Aj X π st a w) (o:Oper) (av:AV) (he:Ry T Γ st o=some av):
  bD P X st a w av ((execOp a.eval o).run P w):=by
 obtain ⟨dst,op,ty,pos,af,gd⟩:=o
 have val: ∀(s:Sem Value) (v:Value) (w':World) (π':Pi),s.run P w= .ok v w'->Aj X π' st a w'->An X w' π' st.heap av v->(execOp a.eval ⟨dst,op,ty,pos,af,gd⟩=do pure (.value (<-s)))->
   bD P X st a w av ((execOp a.eval ⟨dst,op,ty,pos,af,gd⟩).run P w):=by
  intro s v w' π' h1 h2 h3 h4
  rw [h4,Sem.run_bind,h1]
  exact ⟨π',h2,h3⟩
 have quiet:Ck T Γ st ⟨dst,op,ty,pos,af,gd⟩=some av->bD P X st a w av ((execOp a.eval ⟨dst,op,ty,pos,af,gd⟩).run P w):=by
  intro hq
  have:=kc hT Mf h _ av hq
  generalize (execOp a.eval ⟨dst,op,ty,pos,af,gd⟩).run P w=r at*
  cases r with
  |halt x w'=>exact this
  |ok n w'=>
   cases n<;>simp only [zy] at this<;>simp only [bD]
   ·obtain ⟨rfl,hr⟩:=this
    exact ⟨π,h,hr⟩
   ·obtain ⟨rfl,hc⟩:=this
    exact ⟨rfl,hc.mono λe o6 ⟨v,hv,hb,hr⟩=>⟨v,hv,π,h.quiet hb,hr⟩⟩
 unfold Ry at he
 split at he
 ·rename_i t len parts od
  dsimp only at od;subst od
  obtain ⟨v,w',π',h1,h2,h3⟩:=iV hT h t len parts av he
  exact val _ v w' π' h1 h2 h3 rfl
 ·rename_i t parts od
  dsimp only at od;subst od
  obtain ⟨v',h1,h2⟩:=aX hT h t parts av he
  exact val _ v' w π h1 h h2 rfl
 ·exact quiet he
theorem eH {a:Act} : ∀(l:List Operand) {π:Pi} {st st1:St},Aj X π st a w->Jl l st=some st1-> ∃π',Aj X π' st1 a w
 | [],π,st,st1,h,he=>by
  simp only [Jl,Option.some.injEq] at he
  subst he
  exact ⟨π,h⟩
 |x::r,π,st,st1,h,he=>by
  simp only [Jl] at he
  cases hs:settle st (st.ev x) with
  |none=>rw [hs] at he;cases he
  |some p=>
   rw [hs] at he
   obtain ⟨Vx,h1,_⟩:=Vr h (Bs h.2 x) hs
   exact eH r h1 he
theorem ry {Γ:Env} (hT:Cd P T) (Mf:Hc P Γ) {st:St} {a:Act} (h:Aj X π st a w) (o:Oper) (av:AV) (st':St) (he:evalOp T Γ st o=some (av,st')):
  bD P X st' a w av ((execOp a.eval o).run P w):=by
 have quiet: ∀ {π:Pi} {st:St},Aj X π st a w->(Ck T Γ st o).map (λv=>(v,st))=some (av,st')->bD P X st' a w av ((execOp a.eval o).run P w):=by
  intro π st h he
  cases hq:Ck T Γ st o with
  |none=>rw [hq] at he;cases he
  |some v=>
   rw [hq] at he
   simp only [Option.map_some,Option.some.injEq,Prod.mk.injEq] at he
   obtain ⟨rfl,rfl⟩:=he
   have:=kc hT Mf h o v hq
   generalize (execOp a.eval o).run P w=r at*
   cases r with
   |halt x w'=>exact this
   |ok n w'=>
    cases n<;>simp only [zy] at this<;>simp only [bD]
    ·obtain ⟨rfl,hr⟩:=this
     exact ⟨π,h,hr⟩
    ·obtain ⟨rfl,hc⟩:=this
     exact ⟨rfl,hc.mono λe o6 ⟨v,hv,hb,hr⟩=>⟨v,hv,π,h.quiet hb,hr⟩⟩
 obtain ⟨dst,op,ty,pos,af,gd⟩:=o
 have val: ∀(s:Sem Value) (v:Value) (w':World) (π':Pi),s.run P w= .ok v w'->Aj X π' st' a w'->An X w' π' st'.heap av v->(execOp a.eval ⟨dst,op,ty,pos,af,gd⟩=do pure (.value (<-s)))->
   bD P X st' a w av ((execOp a.eval ⟨dst,op,ty,pos,af,gd⟩).run P w):=by
  intro s v w' π' h1 h2 h3 h4
  rw [h4,Sem.run_bind,h1]
  exact ⟨π',h2,h3⟩
 unfold evalOp at he
 split at he
 all_goals (rename_i od;dsimp only at od;try subst od)
 ·
  rename_i x
  split at he
  ·rename_i d te e hx hd ht
   split at he
   ·rename_i FL
    simp only [Option.some.injEq,Prod.mk.injEq] at he
    obtain ⟨rfl,rfl⟩:=he
    obtain ⟨k1,k2,_⟩:=mW h d FL (T.oa||e.flat) T.tQ te e
    have LN:=Bs h.2 x
    rw [hx] at LN
    have hxv:a.eval x= .slice none 0 0:=LN
    show bD P X _ a w _ (.ok (.value (a.eval x)) w)
    rw [hxv]
    exact ⟨_,k1,k2⟩
   ·cases he
  ·simp only [Option.some.injEq,Prod.mk.injEq] at he
   obtain ⟨rfl,rfl⟩:=he
   exact ⟨π,h,Bs h.2 x⟩
 ·
  rename_i t
  split at he
  ·rename_i d τ hd ht
   obtain ⟨i,hi,Oi,l5,mE⟩:=(hT.ty t τ ht).info
   obtain ⟨π',k1,k2⟩:=kB h d t τ (zeroCells τ) (Ao τ) (eY τ) av st' he
   have HN:(Ar τ (Ao τ)).cells=(Ao τ).toArray:=by
    cases τ<;>simp [Ar,Ty.Ac,Value.cells,Ao]
   refine val (Instr.alloc t true (.tuple #[])) _ _ π' ?_ k1 k2 rfl
   simp [Instr.alloc,zeroValue,typeInfo,hi,mE,newVar,newRow,HN]
  ·cases he
 ·
  rename_i t x
  split at he
  ·rename_i d τ hd ht
   split at he
   ·rename_i cs hc
    obtain ⟨us,hv,hl,hr⟩:=bL (Bs h.2 x) hc
    obtain ⟨π',k1,k2⟩:=kB h d t τ cs us hr av st' he
    refine val (Instr.box t (a.eval x)) _ _ π' ?_ k1 k2 rfl
    simp [Instr.box,newVar,newRow,hv]
   ·cases he
  ·cases he
 ·
  rename_i t p x
  cases hs:Jw T st t (st.ev p) (st.ev x) with
  |none=>rw [hs] at he;cases he
  |some s=>
   rw [hs] at he
   simp only [Option.map_some,Option.some.injEq,Prod.mk.injEq] at he
   obtain ⟨rfl,rfl⟩:=he
   obtain ⟨w',π',h1,h2⟩:=iZ hT h t _ _ _ _ (Bs h.2 p) (Bs h.2 x) s hs
   have:(execOp a.eval ⟨dst, .store t p x,ty,pos,af,gd⟩).run P w= .ok .skip w':=by
    show (do Instr.storeAt t (a.eval p) (a.eval x);pure Next.skip:Sem Next).run P w=_
    rw [Sem.run_bind,h1];rfl
   rw [this]
   exact ⟨π',h2,trivial⟩
 ·
  rename_i t l c
  split at he
  ·rename_i d hd
   obtain ⟨v,w',π',h1,h2,h3⟩:=kZ hT h d t _ _ _ _ (Bs h.2 l) (Bs h.2 c) av st' he
   exact val _ v w' π' h1 h2 h3 rfl
  ·cases he
 ·
  rename_i t
  split at he
  ·rename_i d hd
   obtain ⟨v,w',π',h1,h2,h3⟩:=gE hT h d t av st' he
   exact val _ v w' π' h1 h2 h3 rfl
  ·cases he
 ·
  rename_i t m k x
  cases hs:Eu T st t (st.ev m) (st.ev k) (st.ev x) with
  |none=>rw [hs] at he;cases he
  |some s=>
   rw [hs] at he
   simp only [Option.map_some,Option.some.injEq,Prod.mk.injEq] at he
   obtain ⟨rfl,rfl⟩:=he
   obtain ⟨w',h1,h2⟩:=Xz hT h t _ _ _ _ _ _ (Bs h.2 m) (Bs h.2 k) (Bs h.2 x) s hs
   have:(execOp a.eval ⟨dst, .mapUpdate t m k x,ty,pos,af,gd⟩).run P w= .ok .skip w':=by
    show (do Instr.mapUpdate t (a.eval m) (a.eval k) (a.eval x);pure Next.skip:Sem Next).run P w=_
    rw [Sem.run_bind,h1];rfl
   rw [this]
   exact ⟨π,h2,trivial⟩
 ·
  rename_i t m k x
  cases hs:Eu T st t (st.ev m) (st.ev k) (st.ev x) with
  |none=>rw [hs] at he;cases he
  |some s=>
   rw [hs] at he
   simp only [Option.map_some,Option.some.injEq,Prod.mk.injEq] at he
   obtain ⟨rfl,rfl⟩:=he
   obtain ⟨w',h1,h2⟩:=Xz hT h t _ _ _ _ _ _ (Bs h.2 m) (Bs h.2 k) (Bs h.2 x) s hs
   have:(execOp a.eval ⟨dst, .insert t m k x,ty,pos,af,gd⟩).run P w= .ok .skip w':=by
    show (do Instr.mapUpdate t (a.eval m) (a.eval k) (a.eval x);pure Next.skip:Sem Next).run P w=_
    rw [Sem.run_bind,h1];rfl
   rw [this]
   exact ⟨π,h2,trivial⟩
 ·
  rename_i t len parts
  split at he
  ·rename_i d hd
   obtain ⟨v,w',π',h1,h2,h3⟩:=bw hT h d t len parts av st' he
   exact val _ v w' π' h1 h2 h3 rfl
  ·cases he
 ·
  rename_i t parts
  cases hb:Qj T st t parts with
  |none=>rw [hb] at he;cases he
  |some v=>
   rw [hb] at he
   simp only [Option.map_some,Option.some.injEq,Prod.mk.injEq] at he
   obtain ⟨rfl,rfl⟩:=he
   obtain ⟨v',h1,h2⟩:=aX hT h t parts v hb
   exact val _ v' w π h1 h h2 rfl
 ·
  rename_i args ts
  split at he
  ·rename_i d x y t t' hd Ky oG
   split at he
   ·rename_i Oo;subst Oo
    have e1:args= #[x,y]:=by apply Array.ext';simpa using Ky
    have e2:ts= #[t,t]:=by apply Array.ext';simpa using oG
    subst e1;subst e2
    obtain ⟨v,w',π',h1,h2,h3⟩:=gB hT h d t ty x y av st' he
    refine val (Builtin.append_ #[t,t] ty #[a.eval x,a.eval y]) v w' π' h1 h2 h3 ?_
    simp [execOp,resolve,invoke,builtin]
   ·cases he
  ·cases he
 ·
  rename_i args ts
  split at he
  ·rename_i x y t t' Ky oG
   have e1:args= #[x,y]:=by apply Array.ext';simpa using Ky
   have e2:ts= #[t,t']:=by apply Array.ext';simpa using oG
   subst e1;subst e2
   obtain ⟨v,w',h1,h2,h3⟩:=mg hT h t t' ty _ _ _ _ (Bs h.2 x) (Bs h.2 y) av st' he
   refine val (Builtin.copy_ #[t,t'] ty #[a.eval x,a.eval y]) v w' π h1 h2 h3 ?_
   simp [execOp,resolve,invoke,builtin]
  ·cases he
 ·
  rename_i args ts
  split at he
  ·rename_i x t Ky oG
   have e1:args= #[x]:=by apply Array.ext';simpa using Ky
   have e2:ts= #[t]:=by apply Array.ext';simpa using oG
   subst e1;subst e2
   cases hs:evalClear T st t (st.ev x) with
   |none=>rw [hs] at he;cases he
   |some s=>
    rw [hs] at he
    simp only [Option.map_some,Option.some.injEq,Prod.mk.injEq] at he
    obtain ⟨rfl,rfl⟩:=he
    obtain ⟨v,w',h1,h2⟩:=kY hT h t ty _ _ (Bs h.2 x) s hs
    refine val (Builtin.clear_ #[t] ty #[a.eval x]) v w' π h1 h2 trivial ?_
    simp [execOp,resolve,invoke,builtin]
  ·cases he
 ·
  rename_i f args ts
  split at he
  ·rename_i s ZE
   have hs:Bo P f s:=Mf f _ ZE
   have:=kX h hs dst (args.toList.map st.ev) (args.toList.map a.eval) (by simp) (λi c v=>cM h args.toList i c v) av st' he
   rw [cP a.eval f args ts dst ty pos af gd rfl hs.enter]
   refine ⟨rfl,?_⟩
   rwa [show (args.toList.map a.eval).toArray=args.map a.eval from by apply Array.ext';simp] at this
  ·rename_i s ZE
   split at he
   ·cases hs:Jl args.toList st with
    |none=>rw [hs] at he;cases he
    |some st1=>
     rw [hs] at he
     obtain ⟨Vx,h1⟩:=eH args.toList h hs
     exact quiet h1 he
   ·exact quiet h he
  ·exact quiet h he
 ·exact quiet h he
end
end Go.Proofs.Ytjbdmibbbpdnnaa
