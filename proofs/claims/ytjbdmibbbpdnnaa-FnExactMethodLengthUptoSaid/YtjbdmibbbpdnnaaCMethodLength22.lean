/-
  Part 23 of the proof that the statement FnExactMethodLength holds.
-/
import Derived.Test.YtjbdmibbbpdnnaaCMethodLength21
namespace Go.Proofs.Ytjbdmibbbpdnnaa
open Go.RowKit
section
variable {P:Program} {T:Tab} {X:Ctx} {w w':World} {π:Pi} {H:List (Nat×OB)}
theorem sk {π':Pi} {st':St} {a:Act} (h:Aj X π' st' a w) (k:Gl π π' H st'.heap) {fr:Bool} (τ:Ty) (cs:List Value) (x:τ.den) (hc:Cells w (Be X.w0.heap.size X.Sc π fr) τ cs x):
  Cells w (Be X.w0.heap.size X.Sc π' fr) τ cs x:=
 Cells.Cr (Nat.le_refl _) (λ_ _ _=>rfl) (λb _ hA=>by
  rcases hA with ⟨l,r,hl,hg⟩|h2
  ·have hh:=h.1.heap l
   cases hb:Ae st'.heap l with
   |none=>have:=hh.emp hb;rw [this] at hl;cases hl
   |some b'=>have:=(k l b' hb).1;rw [this] at hl;exact .inl ⟨l,r,hl,hg⟩
  ·exact .inr h2) τ cs x hc
theorem bO.drop {F:List Nat} {l:Nat} (h:bO X w π F):bO X w (Ps π l none) F:=
 ⟨h.1,λb hb=>⟨(h.2 b hb).1,(h.2 b hb).2.1,λm r hm=>by
  by_cases e:m=l
  ·subst e;rw [Di] at hm;cases hm
  ·rw [Dh π none e] at hm;exact (h.2 b hb).2.2 m r hm⟩⟩
theorem ny {st:St} {a:Act} (h:Aj X π st a w) (l:Nat) (hl:l<Ai) (f0 t0:Bool) (te:TypeId) (e:Ty):
  Aj X (Ps π l none) (st.new l (.arr f0 t0 e te [])) a w/\Ao X w (Ps π l none) (st.new l (.arr f0 t0 e te [])).heap (.at (.own l 0 0)) (.slice none 0 0)/\
   ∀fr τ cs x,Cells w (Be X.w0.heap.size X.Sc π fr) τ cs x->Cells w (Be X.w0.heap.size X.Sc (Ps π l none) fr) τ cs x:=
 ⟨h.replace l hl none _ (Kd w _) (λr hr=>by cases hr) (λ_=>rfl),
  wH (St.Dt st l _) (Nat.le_refl _) (by rw [Di];exact ⟨rfl,rfl,rfl⟩),
  fun fr τ cs x hc=>Cells.Cr (Nat.le_refl _) (λ_ _ _=>rfl) (λb _ hA=>by
  rcases hA with ⟨m,r,hm,hg⟩|h2
  ·by_cases e:m=l
   ·subst e;rw [Di] at hm;cases hm
   ·rw [Dh π none e] at hm;exact .inl ⟨m,r,hm,hg⟩
  ·exact .inr h2) τ cs x hc⟩
theorem Qf (hT:Cd P T) {st:St} {a:Act} (h:Aj X π st a w) (dst:Nat) (t ty:TypeId) (x y:Operand) (av:AV) (st':St) (he:Iy T st dst t x y=some (av,st')):
  ∃v' w' π',(Builtin.append_ #[t,t] ty #[a.eval x,a.eval y]).run P w= .ok v' w'/\Aj X π' st' a w'/\Ao X w' π' st'.heap av v':=by
 unfold Iy at he
 split at he
 ·cases he
 ·rename_i te eK
  split at he
  ·rename_i e y' st1 Qo hs
   obtain ⟨Vw,h1,h2,h3,h4,h5⟩:=Vs h (Bo h.2 y) hs
   split at he
   ·cases he
   ·rename_i lN ys hv
    dsimp only at he
    have CB: ∀tr2,tr2=(e.flat||(Mu st (st.ev y)&&e.tree))->tr2=true->e.flat=true\/ ∃F,Bf w F (.slice e) [a.eval y] ys/\bO X w Vw F:=by
     intro tr2 e2 ie
     subst e2
     cases hef:e.flat with
     |true=>exact .inl rfl
     |false=>
     right
     simp only [hef,Bool.false_or,Bool.and_eq_true] at ie
     obtain ⟨F,us,f1,f2,f3,_⟩:=h5 ie.1 (.slice e) lN ys ie.2 hv
     have KA:us= [a.eval y]:=by
      simp only [Bf] at f1
      obtain ⟨a0,len,cap,rfl,_⟩:=f1
      rw [f2];simp [As,Ty.Ac]
     rw [KA] at f1
     exact ⟨F,f1,f3⟩
    have hyc:Cells w (Be X.w0.heap.size X.Sc Vw lN) (.slice e) [a.eval y] ys:=Bd.Lq rfl (Jw _ y' _ lN ys h3 h2 hv)
    have OL:=Bo h1.2 x
    split at he
    ·rename_i hx
     rw [hx] at OL
     have hxv:a.eval x= .slice none 0 0:=OL
     split at he
     ·rename_i jt
      simp only [Option.some.injEq,Prod.mk.injEq] at he
      obtain ⟨rfl,rfl⟩:=he
      obtain ⟨k1,k2,k3⟩:=ny h1 dst jt.2 (T.mK||e.flat) T.ur te e
      have:=gG (ty:=ty) hT k1 eK Qo jt.2 (fr3:=lN||e.flat) (tr2:=e.flat||(Mu st (st.ev y)&&e.tree)) rfl (St.Dt st1 dst _) k2 (k3 _ _ _ _ hyc) (by rw [Nat.zero_add];exact jt.1) (λht=>by
       rcases CB _ rfl ht with h0|⟨F,f1,f2⟩
       ·exact .inl h0
       ·exact .inr ⟨F,f1,f2.drop⟩)
      rw [<-hxv] at this
      exact this
     ·cases he
    ·rename_i l off len hx
     rw [hx] at OL
     split at he
     ·rename_i fr tr e' tid xs hl
      split at he
      ·rename_i Fq
       obtain ⟨rfl,rfl⟩:=Fq
       split at he
       ·rename_i jt
        simp only [Option.some.injEq,Prod.mk.injEq] at he
        obtain ⟨rfl,rfl⟩:=he
        exact gG (ty:=ty) hT h1 eK Qo jt.2 (fr3:=lN||e'.flat) (tr2:=e'.flat||(Mu st (st.ev y)&&e'.tree)) rfl hl OL hyc jt.1 (CB _ rfl)
       ·cases he
      ·cases he
     ·cases he
    ·cases he
  ·cases he
theorem gQ (hT:Cd P T) {st:St} {a:Act} (h:Aj X π st a w) (dst:Nat) (t ty:TypeId) (x y:Operand) (av:AV) (st':St) (he:Lj T st dst t x y=some (av,st')):
  ∃v' w' π',(Builtin.append_ #[t,t] ty #[a.eval x,a.eval y]).run P w= .ok v' w'/\Aj X π' st' a w'/\Ao X w' π' st'.heap av v':=by
 unfold Lj at he
 split at he
 ·rename_i tx
  split at he
  ·rename_i l i c hg
   split at he
   ·rename_i e te rows kp tid hl _
    split at he
    ·rename_i hc
     simp only [Bool.and_eq_true,Nat.blt_eq,Bool.not_eq_true'] at hc
     have eg:dst≠l:= λe=>by rw [e,Nat.beq_refl] at hc;cases hc.2.2
     unfold St.at at hl
     have hv:Ea X w π st.heap (.sub l i c) (a.tmps.getD tx undef):=by
      have:=h.2.tmps tx
      rw [hg] at this
      exact this
     obtain ⟨Vw,h1,h2⟩:=yr (tid:=tid) h hl eg hc.2.1 hc.1 hv
     have h3:=h1.put (some tx) (c:= .at (.own dst 0 (rows.getD i []).length)) h2
     have Abf:a.put (some tx) (a.tmps.getD tx undef)=a:=by
      have:a.tmps.setIfInBounds tx (a.tmps.getD tx undef)=a.tmps:=by
       apply Array.ext_getElem?
       intro k
       rw [Array.getElem?_setIfInBounds]
       split
       ·rename_i e
        subst e
        split
        ·rename_i Hq
         rw [Array.getElem?_eq_getElem Hq];simp
        ·rename_i Hq
         rw [Array.getElem?_eq_none (by omega)]
       ·rfl
      simp only [Act.put,this]
     rw [Abf] at h3
     exact Qf hT h3 dst t ty (.tmp tx) y av st' he
    ·cases he
   ·cases he
  ·exact Qf hT h dst t ty _ y av st' he
 ·exact Qf hT h dst t ty x y av st' he
theorem AN {S:Nat->Prop} {e:Ty} (h:gz e=true): ∃z,Ar e= [z]/\e.Ac=false/\e.size=1/\Cells w S e [z] e.zero/\z.oneCell'=true:=by
 cases e<;>simp [gz] at h
 ·exact ⟨_,rfl,rfl,rfl,rfl,rfl⟩
 ·exact ⟨_,rfl,rfl,rfl,rfl,rfl⟩
 ·exact ⟨_,rfl,rfl,rfl,rfl,rfl⟩
 ·exact ⟨_,rfl,rfl,rfl,⟨none,0,0,rfl,rfl,Nat.le_refl _, .inl rfl⟩,rfl⟩
 ·exact ⟨_,rfl,rfl,rfl, .inl ⟨rfl,0,rfl⟩,rfl⟩
theorem xP {e:Ty} {z:Value} (ht:e.tree=true) (h:gz e=true) (hz:Ar e= [z]):Bf w [] e [z] e.zero:=by
 cases e<;>simp [gz] at h<;>simp only [Ar,List.cons.injEq,and_true] at hz<;>subst hz<;>try (simp [Ty.tree] at ht;done)
 ·exact ⟨rfl,rfl⟩
 ·exact ⟨rfl,rfl⟩
 ·exact ⟨rfl,rfl⟩
 ·exact ⟨none,0,0,rfl,rfl,Nat.le_refl _, .inl ⟨rfl,rfl,rfl,rfl⟩⟩
theorem NV {S:Nat->Prop} : ∀(e:Ty),aX e=true->(Ar e).length=e.size/\Cells w S e (Ar e) e.zero/\(e.tree=true->Bf w [] e (Ar e) e.zero):=by
 intro e
 induction e with
 |unit=>intro _;exact ⟨rfl,rfl,λ_=>⟨rfl,rfl⟩⟩
 |pair a r gA dQ=>
  intro h
  simp only [aX,Bool.and_eq_true] at h
  obtain ⟨a1,a2,a3⟩:=gA h.1
  obtain ⟨r1,r2,r3⟩:=dQ h.2
  exact ⟨by simp [Ar,Ty.size,a1,r1],⟨_,_,rfl,a2,r2⟩,λht=>by simp only [Ty.tree,Bool.and_eq_true] at ht;exact ⟨_,_,[],[],rfl,rfl,a3 ht.1,r3 ht.2⟩⟩
 |_=>
  intro h
  simp only [aX] at h
  obtain ⟨z,z1,z2,z3,z4,_⟩:=AN (w:=w) (S:=S) h
  exact ⟨by rw [z1,z3];rfl,by rw [z1];exact z4,λht=>by rw [z1];exact xP ht h z1⟩
theorem CI {z:Array Value} {s m j q:Nat} (hz:z.size=s) (hj:j<m) (hq:q<s):(madeCells z (m*s))[j*s+q]?=z[q]?:=by
 have h1:j*s+q<m*s:=by
  have:=Nat.mul_le_mul_right s (show j+1<=m by omega)
  rw [Nat.succ_mul] at this
  omega
 have h2:(j*s+q)%z.size=q:=by rw [hz,Nat.mul_comm,Nat.mul_add_mod,Nat.mod_eq_of_lt hq]
 have h3:q<z.size:=by omega
 unfold madeCells
 simp [h1,h2,h3]
theorem mF (hT:Cd P T) {st:St} {a:Act} (h:Aj X π st a w) (dst:Nat) (t:TypeId) (l c:AV) (vl vc:Value) (hl:Ao X w π st.heap l vl) (hc:Ao X w π st.heap c vc) (av:AV) (st':St)
  (he:Uv T st dst t l c=some (av,st')): ∃v' w' π',(Instr.makeSlice t vl vc).run P w= .ok v' w'/\Aj X π' st' a w'/\Ao X w' π' st'.heap av v':=by
 unfold Uv at he
 split at he
 ·rename_i te SP k1 n lN k2 m eK
  have:=Kh hl;subst this
  have:=Kh hc;subst this
  split at he
  ·rename_i e Qo
   split at he
   ·rename_i Fq
    obtain ⟨h0,hnm,hz,HX⟩:=Fq
    obtain ⟨h1,h2⟩:=Ng.1 h0
    subst hnm
    simp only [Option.some.injEq,Prod.mk.injEq] at he
    obtain ⟨rfl,rfl⟩:=he
    obtain ⟨i,hi,Ol,lx,mV⟩:=(hT.ty te e Qo).info
    obtain ⟨z1,z4,z5⟩:=NV (w:=w) (S:=Be X.w0.heap.size X.Sc π (T.mK||e.flat)) e hz
    have KD:(As e (Ar e)).cells=(Ar e).toArray:=Gq e _ _ z4
    have hu:=hT.elem t te eK
    have hn:n.toNat<=4294967296:=by unfold Bp at h2;omega
    have hr:=run_make (P:=P) (w:=w) t te i _ hu hi mV k1 k2 n n h1 (Int.le_refl _) (by
     have:(i.bytes:Int)*n<=256*4294967296:=by
      obtain ⟨nn,rfl⟩:=Int.eq_ofNat_of_zero_le h1
      have h7:i.bytes*nn<=256*4294967296:=Nat.mul_le_mul lx (by simpa using hn)
      have h8:((i.bytes*nn:Nat):Int)<=256*4294967296:=by omega
      rwa [Int.natCast_mul] at h8
     omega) (by unfold Bp at h2;omega)
    rw [KD,Ol] at hr
    have Wi:((Ar e).toArray).size=e.size:=by simpa using z1
    have cell: ∀j,j<n.toNat-> ∀q u,(Ar e)[q]?=some u->(madeCells (Ar e).toArray (n.toNat*e.size)).toList[j*e.size+q]?=some u:=by
     intro j hj q u hu
     have hq:q<e.size:=by rw [<-z1];exact (List.getElem?_eq_some_iff.1 hu).1
     have:=CI Wi hj hq
     rw [Array.getElem?_toList,this]
     simpa using hu
    have:=au (w1:=w.alloc (.cells (madeCells (Ar e).toArray (n.toNat*e.size)) te)) h dst HX (T.mK||e.flat) (T.ur&&e.tree) e te (List.replicate n.toNat e.zero) (madeCells (Ar e).toArray (n.toNat*e.size)).toList (madeCells (Ar e).toArray (n.toNat*e.size)) n.toNat []
     (.inr rfl) (by rw [size_madeCells]) (by unfold maxLen;omega) (by simp)
     (λk u hu=>by
      rw [Array.getElem?_toList] at hu;exact hu) ⟨by simp [size_madeCells],λj x hx=>by
       have hj:=(List.getElem?_eq_some_iff.1 hx).1
       simp only [List.length_replicate] at hj
       refine ⟨Ar e,z1,λq u hu=>cell j hj q u hu,?_⟩
       rw [List.eq_of_mem_replicate (List.mem_of_getElem? hx)];exact z4⟩ (by simp) (λie=>⟨List.nodup_nil,List.replicate n.toNat [],by simp,by simp,λj x F hx hF=>by
      have hj:=(List.getElem?_eq_some_iff.1 hx).1
      simp only [List.length_replicate] at hj
      refine ⟨Ar e,z1,λq u hu=>cell j hj q u hu,?_⟩
      have e1:=List.eq_of_mem_replicate (List.mem_of_getElem? hx)
      have e2:=List.eq_of_mem_replicate (List.mem_of_getElem? hF)
      rw [e1,e2]
      exact z5 (by simp only [Bool.and_eq_true] at ie;exact ie.2)⟩)
    exact ⟨_,_,_,hr,this.1,this.2 _ (by simp)⟩
   ·cases he
  ·cases he
 ·cases he
theorem cq (off:Nat): ∀(us:List Value) (k:Nat) (cells:List Value),off+k+us.length<=cells.length->
  (us.zipIdx k).foldl (λcs p=>cs.setIfInBounds (off+p.2) p.1) cells.toArray=(Bh cells (off+k) us).toArray
 | [],k,cells,h=>by simp [Bh]
 |u::us,k,cells,h=>by
  simp only [List.zipIdx_cons,List.foldl_cons]
  rw [show cells.toArray.setIfInBounds (off+k) u=(cells.set (off+k) u).toArray by simp]
  rw [cq off us (k+1) (cells.set (off+k) u) (by simp at h⊢;omega)]
  congr 1
  apply List.ext_getElem?
  intro j
  have hl:off+k+(u::us).length<=cells.length:=h
  have IA:off+(k+1)+us.length<=(cells.set (off+k) u).length:=by simp at h⊢;omega
  rw [Eg _ _ _ _ hl,Eg _ _ _ _ IA]
  simp only [List.length_cons]
  by_cases h1:j<off+k
  ·rw [if_pos (by omega),if_pos h1,List.getElem?_set_ne (by omega)]
  ·rw [if_neg h1]
   by_cases h2:j=off+k
   ·subst h2
    rw [if_pos (by omega),if_pos (by omega),List.getElem?_set_self (by simp at h;omega)]
    simp
   ·rw [if_neg (by omega)]
    by_cases h3:j<off+k+(us.length+1)
    ·rw [if_pos (by omega),if_pos h3]
     rw [show j-(off+k)=(j-(off+(k+1)))+1 by omega,List.getElem?_cons_succ]
    ·rw [if_neg (by omega),if_neg h3,List.getElem?_set_ne (by omega)]
theorem qz (place:Nat->Option (Nat×Nat)) (cells:List Value) (i:Nat) (v:Value) (rest:List (Nat×Value)) (off size:Nat) (us:List Value) (hp:place i=some (off,size)) (hv:v.cells=us.toArray)
  (hl:us.length=size) (hle:off+size<=cells.length):Instr.fill place cells.toArray ((i,v)::rest)=Instr.fill place (Bh cells off us).toArray rest:=by
 simp only [Instr.fill,hp,hv,List.size_toArray,hl]
 rw [if_neg (by simp;omega)]
 congr 1
 have:=cq off us 0 cells (by omega)
 simp only [Nat.add_zero] at this
 rw [<-this]
 simp
theorem Qd (e:Ty) {a:Act} : ∀(parts:List (Nat×Operand)) (i:Nat) (st:St) (π:Pi) (fr tr:Bool) (ys:List e.den) (st':St) (cells:List Value),Aj X π st a w->Gv e i parts st=some (fr,tr,ys,st')->
  (i+parts.length)*e.size<=cells.length->
  ∃π' cl,Aj X π' st' a w/\Flat w (Be X.w0.heap.size X.Sc π' fr) e cl ys/\ys.length=parts.length/\Gl π π' st.heap st'.heap/\
   Instr.fill (λi=>some (i*e.size,e.size)) cells.toArray (parts.map λp=>(p.1,a.eval p.2))=some (Bh cells (i*e.size) cl).toArray/\
   (tr=true-> ∃Fs,Mg w e cl ys Fs/\bO X w π' (List.flatten Fs)/\ ∀b∈List.flatten Fs,∃l r,π l=some r/\r.cl b)
 | [],i,st,π,fr,tr,ys,st',cells,h,he,hle=>by
  simp only [Gv,Option.some.injEq,Prod.mk.injEq] at he
  obtain ⟨rfl,rfl,rfl,rfl⟩:=he
  exact ⟨π,[],h,Flat.nil,rfl,Gl.refl _ _,by simp [Instr.fill,Bh],λ_=>⟨[],⟨rfl,λi z F hz=>by simp at hz⟩,⟨List.nodup_nil,by simp⟩,by simp⟩⟩
 |(j,x)::r,i,st,π,fr,tr,ys,st',cells,h,he,hle=>by
  simp only [Gv] at he
  split at he
  ·rename_i jv;subst jv
   split at he
   ·rename_i v' st1 hs
    obtain ⟨Vw,h1,h2,h3,h4,h5⟩:=Vs h (Bo h.2 x) hs
    split at he
    ·rename_i SP y hv
     split at he
     ·rename_i lN tr2 zs st2 hr
      simp only [Option.some.injEq,Prod.mk.injEq] at he
      obtain ⟨rfl,rfl,rfl,rfl⟩:=he
      obtain ⟨es,bM,yF⟩:=Jw e v' _ SP y h3 h2 hv
      have ia:=Cells.len e es y bM
      have Agk:i*e.size+e.size<=cells.length:=by
       have:(i+1)*e.size<=(i+((i,x)::r).length)*e.size:=Nat.mul_le_mul_right _ (by simp)
       rw [Nat.add_mul,Nat.one_mul] at this
       omega
      have BT:i*e.size+es.length<=cells.length:=by omega
      obtain ⟨HS,cl,g1,g2,g3,g4,g5,g6⟩:=Qd e r (i+1) st1 Vw lN tr2 zs st2 (Bh cells (i*e.size) es) h1 hr (by
       rw [Ev _ _ _ BT]
       rw [show i+1+r.length=i+((i,x)::r).length by simp;omega];exact hle)
      have f1:Flat w (Be X.w0.heap.size X.Sc HS SP) e es [y]:=⟨by simp [ia],λq z hz=>by
       rcases q with _|q
       ·simp at hz;subst hz
        exact ⟨es,ia,λj u hu=>by simpa using hu,sk g1 g4 e es y bM⟩
       ·simp at hz⟩
      refine ⟨HS,es++cl,g1,?_,by simp [g3],h4.trans g4,?_,λht=>?_⟩
      ·have:=(f1.cells λes z hc=>hc.and_left (f2:=lN)).append (g2.cells λes z hc=>hc.and_right (f1:=SP))
       simpa using this
      ·simp only [List.map_cons]
       rw [qz _ cells i (a.eval x) _ (i*e.size) e.size es rfl (by rw [yF];exact Gq e es y bM) ia Agk,g5]
       congr 2
       have Na:cl.length=r.length*e.size:=by rw [g2.1,g3]
       have Oz:(i+1)*e.size+cl.length<=(Bh cells (i*e.size) es).length:=by
        rw [Ev _ _ _ BT,Na,<-Nat.add_mul]
        rw [show i+1+r.length=i+((i,x)::r).length by simp;omega];exact hle
       have Aak:i*e.size+(es++cl).length<=cells.length:=by
        rw [Ev _ _ _ BT] at Oz
        rw [List.length_append,ia]
        rw [Nat.add_mul,Nat.one_mul] at Oz
        omega
       have e1:(i+1)*e.size=i*e.size+es.length:=by rw [Nat.add_mul,Nat.one_mul,ia]
       apply List.ext_getElem?
       intro k
       rw [Eg _ _ _ _ Oz,Eg _ _ _ _ Aak,Eg _ _ _ _ BT,e1,List.length_append]
       by_cases k1:k<i*e.size
       ·rw [if_pos (by omega),if_pos k1,if_pos k1]
       ·rw [if_neg k1,if_neg k1]
        by_cases k2:k<i*e.size+es.length
        ·rw [if_pos k2,if_pos k2,if_pos (by omega),List.getElem?_append_left (by omega)]
        ·rw [if_neg k2,if_neg k2]
         by_cases k3:k<i*e.size+es.length+cl.length
         ·rw [if_pos k3,if_pos (by omega),List.getElem?_append_right (by omega)]
          congr 1;omega
         ·rw [if_neg k3,if_neg (by omega)]
      ·simp only [Bool.and_eq_true] at ht
       obtain ⟨⟨ht1,TW⟩,ht3⟩:=ht
       obtain ⟨F,us,t1,t2,t3,t7⟩:=h5 ht1 e SP y TW hv
       obtain ⟨Fs,t4,t5,t6⟩:=g6 ht3
       have KA:us=es:=by
        have c1:=Bf.cells (S:= λ_=>False) F e us y t1 (λ_ _ h=>h)
        have a1:=Gq e us y c1
        have a2:=Gq e es y bM
        rw [<-t2,yF,a2] at a1
        simpa using a1.symm
       subst KA
       refine ⟨F::Fs,?_,?_,λb hb=>?_⟩
       ·have k1:Mg w e us [y] [F]:=⟨rfl,λq z G hz hG=>by
         rcases q with _|q
         ·simp at hz hG;subst hz;subst hG
          exact ⟨us,ia,λj u hu=>by simpa using hu,t1⟩
         ·simp at hz⟩
        exact Mg.append (by simp [ia]) k1 t4
       ·rw [List.flatten_cons]
        refine ⟨List.nodup_append.2 ⟨t3.1,t5.1,λb hb b' oV e=>?_⟩,λb hb=>?_⟩
        ·subst e
         obtain ⟨l,r,q1,q2⟩:=t6 b oV
         exact (t3.2 b hb).2.2 l r q1 q2
        ·rcases List.mem_append.1 hb with hb|hb
         ·have:=t3.2 b hb
          refine ⟨this.1,this.2.1,λl r q1 q2=>?_⟩
          cases hh:Ae st2.heap l with
          |none=>rw [(g1.1.heap l).emp hh] at q1;cases q1
          |some b'=>exact this.2.2 l r ((g4 l b' hh).1▸q1) q2
         ·exact t5.2 b hb
       ·rw [List.flatten_cons] at hb
        rcases List.mem_append.1 hb with hb|hb
        ·exact t7 b hb
        ·obtain ⟨l,r,q1,q2⟩:=t6 b hb
         cases hh:Ae st1.heap l with
         |none=>rw [(h1.1.heap l).emp hh] at q1;cases q1
         |some b'=>exact ⟨l,r,(h4 l b' hh).1▸q1,q2⟩
     ·cases he
    ·cases he
   ·cases he
  ·cases he
theorem cf (hT:Cd P T) {st:St} {a:Act} (h:Aj X π st a w) (dst:Nat) (t:TypeId) (len:Nat) (parts:Array (Nat×Operand)) (av:AV) (st':St)
  (he:Hm T st dst t len parts=some (av,st')):
  ∃v' w' π',(Instr.buildSlice t len (parts.map λ(i,x)=>(i,a.eval x))).run P w= .ok v' w'/\Aj X π' st' a w'/\Ao X w' π' st'.heap av v':=by
 unfold Hm at he
 split at he
 ·cases he
 ·rename_i te eK
  split at he
  ·cases he
  ·rename_i e Qo
   split at he
   ·rename_i Fq
    obtain ⟨bN,hlen⟩:=Fq
    split at he
    ·rename_i fr tr ys st1 hb
     simp only [Option.some.injEq,Prod.mk.injEq] at he
     obtain ⟨rfl,rfl⟩:=he
     obtain ⟨i,hi,Ol,lx,mV⟩:=(hT.ty te e Qo).info
     have hu:=hT.elem t te eK
     have DZ:parts.toList.length=len:=by simpa using bN
     have hz: ∃z:Array Value,(len*e.size=0/\z= #[])\/(¬len*e.size=0/\(zeroValue te).run P w= .ok (As e (Ar e)) w/\z=(As e (Ar e)).cells):=by
      by_cases h0:len*e.size=0
      ·exact ⟨#[], .inl ⟨h0,rfl⟩⟩
      ·exact ⟨_, .inr ⟨h0,by simp [zeroValue,typeInfo,hi,mV],rfl⟩⟩
     obtain ⟨z,hz⟩:=hz
     obtain ⟨Vw,cl,g1,g2,g3,g4,g5,g6⟩:=Qd e parts.toList 0 st π fr tr ys st1 ((Array.range (len*e.size)).map (z[· %z.size]!)).toList h hb (by simp [DZ])
     have Na:cl.length=len*e.size:=by rw [g2.1,g3,DZ]
     have JZ:(Bh ((Array.range (len*e.size)).map (z[· %z.size]!)).toList (0*e.size) cl)=cl:=by
      simp [Bh,Na]
     rw [JZ] at g5
     have Om:(Instr.buildSlice t len (parts.map λ(i,x)=>(i,a.eval x))).run P w= .ok (.slice (some ⟨w.heap.size,0,none⟩) len len) (w.alloc (.cells cl.toArray te)):=by
      have h24: ¬(len*e.size>2^24):=by
       have:len*e.size<=64*64:=Nat.mul_le_mul hlen.1 hlen.2.1
       omega
      simp only [Instr.buildSlice,Sem.run_bind,run_underlying hu,Result.andThen_ok,(hT.ty te e Qo).size,if_neg h24]
      have e1:(parts.map λ(i,x)=>(i,a.eval x)).toList=parts.toList.map λp=>(p.1,a.eval p.2):=by simp
      simp only [e1]
      have e2:(((Array.range (len*e.size)).map (z[· %z.size]!)).toList.toArray)=(Array.range (len*e.size)).map (z[· %z.size]!):=Array.toArray_toList
      rw [e2] at g5
      rcases hz with ⟨h0,rfl⟩|⟨h0,hz,rfl⟩
      ·rw [if_pos h0]
       simp only [Sem.run_bind,Sem.run_pure,Result.andThen_ok,g5,newRow]
       simp
      ·rw [if_neg h0]
       simp only [Sem.run_bind,Sem.run_pure,Result.andThen_ok,hz,g5,newRow]
       simp
     have hN: ∃N:List Nat,(∀b∈N,(X.w0.heap.size<=b\/X.gv b)/\b<w.heap.size/\ ∀m r0,m≠dst->Vw m=some r0-> ¬r0.cl b)/\(tr=true->N.Nodup/\ ∃Fs,List.flatten Fs=N/\Mg w e cl ys Fs):=by
      cases tr with
      |false=>exact ⟨[],by simp,λh=>by cases h⟩
      |true=>
       obtain ⟨Fs,t1,t2,_⟩:=g6 rfl
       exact ⟨_,λb hb=>⟨(t2.2 b hb).1,(t2.2 b hb).2.1,λm r0 _=>(t2.2 b hb).2.2 m r0⟩,λ_=>⟨t2.1,Fs,rfl,t1⟩⟩
     obtain ⟨N,q1,q2⟩:=hN
     have:=au (w1:=w.alloc (.cells cl.toArray te)) g1 dst hlen.2.2 ((T.mK||e.flat)&&fr) (T.ur&&tr) e te ys cl cl.toArray len N (.inr rfl) (by simpa using Na) (by simp only [maxLen];omega) (by omega) (λk u hu=>by simpa using hu) (g2.cells λes z hc=>hc.and_right) q1 (λht=>q2 (by simp only [Bool.and_eq_true] at ht;exact ht.2))
     exact ⟨_,_,_,Om,this.1,this.2 _ (by omega)⟩
    ·cases he
   ·cases he
theorem fJ {t te:TypeId} {e:Ty} (h:Yj T t=some (te,e)):T.elem t=some te/\T.ty te=some (.slice e):=by
 unfold Yj at h
 cases he:T.elem t with
 |none=>rw [he] at h;cases h
 |some Lf=>
  rw [he] at h
  simp only [Option.bind_some] at h
  cases hg:T.BL Lf with
  |none=>rw [hg] at h;cases h
  |some e'=>
   rw [hg] at h
   simp only [Option.map_some,Option.some.injEq,Prod.mk.injEq] at h
   obtain ⟨rfl,rfl⟩:=h
   refine ⟨rfl,?_⟩
   unfold Tab.BL at hg
   split at hg
   ·split at hg
    ·rename_i Qo;simp only [Option.some.injEq] at hg;subst hg;exact Qo
    ·cases hg
   ·cases hg
theorem gI (w:World) (o:Obj):Ez w.heap.size (λ_=>False) w (w.alloc o):=⟨rfl,rfl,rfl,by simp,λk hk _=>Below.heap_alloc w _ k hk⟩
theorem kz (w:World) (o:Obj):Ez w.heap.size (λ_=>False) w (w.drew.alloc o):=⟨rfl,rfl,rfl,by simp,λk hk _=>Below.heap_alloc w.drew _ k hk⟩
theorem lu (hT:Cd P T) {st:St} {a:Act} (h:Aj X π st a w) (dst:Nat) (t:TypeId) (l c:AV) (vl vc:Value) (hl:Ao X w π st.heap l vl) (hc:Ao X w π st.heap c vc) (av:AV) (st':St)
  (he:Qj T st dst t l c=some (av,st')): ∃v' w' π',(Instr.makeSlice t vl vc).run P w= .ok v' w'/\Aj X π' st' a w'/\Ao X w' π' st'.heap av v':=by
 unfold Qj at he
 split at he
 ·exact mF hT h dst t l c vl vc hl hc av st' he
 ·rename_i te e hg
  obtain ⟨eK,Qo⟩:=fJ hg
  split at he
  ·rename_i SP k1 n lN k2 m
   have:=Kh hl;subst this
   have:=Kh hc;subst this
   split at he
   ·rename_i Fq
    obtain ⟨h0,hnm,HX⟩:=Fq
    obtain ⟨h1,h2⟩:=Ng.1 h0
    subst hnm
    simp only [Option.some.injEq,Prod.mk.injEq] at he
    obtain ⟨rfl,rfl⟩:=he
    obtain ⟨i,hi,Ol,lx,mV⟩:=(hT.ty te _ Qo).info
    have hu:=hT.elem t te eK
    have hn:n.toNat<=4294967296:=by unfold Bp at h2;omega
    have hr:=run_make (P:=P) (w:=w) t te i _ hu hi mV k1 k2 n n h1 (Int.le_refl _) (by
     have:(i.bytes:Int)*n<=256*4294967296:=by
      obtain ⟨nn,rfl⟩:=Int.eq_ofNat_of_zero_le h1
      have h7:i.bytes*nn<=256*4294967296:=Nat.mul_le_mul lx (by simpa using hn)
      have h8:((i.bytes*nn:Nat):Int)<=256*4294967296:=by omega
      rwa [Int.natCast_mul] at h8
     omega) (by unfold Bp at h2;omega)
    have KD:(As (Ty.slice e) (Ar (Ty.slice e))).cells= #[.slice none 0 0]:=by simp [As,Ty.Ac,Ar,Value.cells]
    have eJ:(Ty.slice e).size=1:=rfl
    rw [KD,Ol,eJ] at hr
    have cell: ∀j,j<n.toNat->(madeCells #[Value.slice none 0 0] (n.toNat*1))[0+j]?=some (.slice none 0 0):=by
     intro j hj
     have:=CI (z:= #[Value.slice none 0 0]) (s:=1) (m:=n.toNat) (j:=j) (q:=0) rfl hj (by omega)
     simp only [Nat.mul_one,Nat.add_zero] at this
     simp only [Nat.mul_one,Nat.zero_add]
     rw [this];rfl
    obtain ⟨π',g1,g2⟩:=Sb (w1:=w.alloc (.cells (madeCells #[Value.slice none 0 0] (n.toNat*1)) te)) (gv:= λ_=>False) h HX HX te (e:=e) (rows:=List.replicate n.toNat []) (us:=List.replicate n.toNat (.slice none 0 0)) (Rs:=List.replicate n.toNat none) (g:=w.heap.size) (o:=0) (cap:=n.toNat)
     (λ_ hf=>hf.elim) (gI w _) ⟨.inl (Nat.le_refl _),by simp⟩ (heap_alloc_new w _) (by rw [size_madeCells];omega) (by unfold maxLen;omega) (by simp) (λj u hu=>by
      have hj:=(List.getElem?_eq_some_iff.1 hu).1
      simp only [List.length_replicate] at hj
      rw [cell j hj,List.eq_of_mem_replicate (List.mem_of_getElem? hu)])
     ⟨by simp,by simp,λi j q q' h1=>(by have:=List.eq_of_mem_replicate (List.mem_of_getElem? h1);cases this),λi x hx=>by
      have hj:=(List.getElem?_eq_some_iff.1 hx).1
      simp only [List.length_replicate] at hj
      rw [List.eq_of_mem_replicate (List.mem_of_getElem? hx)]
      exact ⟨.slice none 0 0,none,by rw [List.getElem?_replicate,if_pos hj],by rw [List.getElem?_replicate,if_pos hj],⟨rfl,rfl,rfl⟩,rfl⟩⟩
     (λi q h1=>by have:=List.eq_of_mem_replicate (List.mem_of_getElem? h1);cases this)
    exact ⟨_,_,π',hr,g1,g2 _ (by simp)⟩
   ·cases he
  ·cases he
theorem bG (hT:Cd P T) {st:St} {a:Act} (h:Aj X π st a w) (dst:Nat) (t:TypeId) (len:Nat) (parts:Array (Nat×Operand)) (av:AV) (st':St)
  (he:Ew T st dst t len parts=some (av,st')):
  ∃v' w' π',(Instr.buildSlice t len (parts.map λ(i,x)=>(i,a.eval x))).run P w= .ok v' w'/\Aj X π' st' a w'/\Ao X w' π' st'.heap av v':=by
 unfold Ew at he
 split at he
 ·exact cf hT h dst t len parts av st' he
 ·rename_i te e hg
  obtain ⟨eK,Qo⟩:=fJ hg
  split at he
  rotate_left
  ·cases he
  rename_i x WA
  split at he
  rotate_left
  ·cases he
  rename_i m off ln hx
  split at he
  rotate_left
  ·cases he
  rename_i fr tr e' tid xs hm
  split at he
  rotate_left
  ·cases he
  rename_i hc
  obtain ⟨rfl,hc,rfl,rfl⟩:=hc
  simp only [Bool.and_eq_true,Nat.blt_eq] at hc
  obtain ⟨hlen,HX,OH⟩:=hc
  have hlen:len=1:=Nat.eq_of_beq_eq_true hlen
  subst hlen
  simp only [Option.some.injEq,Prod.mk.injEq] at he
  obtain ⟨rfl,rfl⟩:=he
  have hu:=hT.elem t te eK
  unfold St.at at hm
  have hrx:=Bo h.2 x
  rw [hx] at hrx
  obtain ⟨_,lU⟩:=Jm (X:=X) (w:=w) hrx hm
  obtain ⟨ax,nx,cx,QJ⟩:=Tq lU
  have hp:parts= #[(0,x)]:=by apply Array.ext';simpa using WA
  subst hp
  obtain ⟨i,hi,Ol,lx,mV⟩:=(hT.ty te _ Qo).info
  have Om:(Instr.buildSlice t 1 (#[(0,x)].map λ(i,x)=>(i,a.eval x))).run P w= .ok (.slice (some ⟨w.heap.size,0,none⟩) 1 1) (w.alloc (.cells #[a.eval x] te)):=by
   have eJ:(Ty.slice e').size=1:=rfl
   have hz:(zeroValue te).run P w= .ok (.slice none 0 0) w:=by simp [zeroValue,typeInfo,hi,mV,As,Ty.Ac,Ar]
   have OH:(#[(0,x)].map λ(i,x)=>(i,a.eval x))= #[(0, .slice ax nx cx)]:=by simp [QJ]
   rw [OH,QJ]
   simp only [Instr.buildSlice,Sem.run_bind,run_underlying hu,Result.andThen_ok,(hT.ty te _ Qo).size,eJ]
   simp [Value.cells,Instr.fill,newRow,hz]
   congr 2
   apply Array.ext
   ·simp
   ·intro i h1 h2
    have h0:i=0:=by simpa using h2
    subst h0
    simp
  have xQ:=(h.1.heap m).Mh hm
  simp only [Au,Fv] at xQ
  have hfa:Lh w (Be X.w0.heap.size X.Sc π false) (π m) e' xs:=by
   cases hR:π m with
   |none=>rw [hR] at xQ;exact xQ
   |some q=>
    rw [hR] at xQ
    obtain ⟨⟨f0,f0',_⟩,cu,OM,f2,f3,f4,f5,f6,_⟩:=xQ
    exact ⟨⟨f0,f0'⟩,cu,OM,f2,f3,f4,f5,λp y hy=>by
     obtain ⟨es,g1,g2,g3⟩:=f6 p y hy
     exact ⟨es,g1,g2,Cells.Cr (Nat.le_refl _) (λ_ _ _=>rfl) (λb _ hA=>hA.imp id (Or.imp id λ⟨h1,_⟩=>by cases h1)) e' es y g3⟩⟩
  obtain ⟨π',g1,g2⟩:=Sb (w1:=w.alloc (.cells #[a.eval x] te)) (gv:= λ_=>False) h HX OH te (e:=e') (rows:= [xs]) (us:= [a.eval x]) (Rs:= [π m]) (g:=w.heap.size) (o:=0) (cap:=1)
   (λ_ hf=>hf.elim) (gI w _) ⟨.inl (Nat.le_refl _),by simp⟩ (heap_alloc_new w _) rfl (by unfold maxLen;omega) (by simp) (λj u hu=>by
    rcases j with _|j
    ·simpa using hu
    ·simp at hu)
   ⟨rfl,rfl,λi j q q' h1 h2 _=>by
    rcases i with _|i
    ·rcases j with _|j
     ·rfl
     ·simp at h2
    ·simp at h1,λi y hy=>by
    rcases i with _|i
    ·simp only [List.getElem?_cons_zero,Option.some.injEq] at hy
     subst hy
     exact ⟨_,_,rfl,rfl,lU,hfa⟩
    ·simp at hy⟩
   (λi q h1=>by
    rcases i with _|i
    ·simp only [List.getElem?_cons_zero,Option.some.injEq] at h1
     have hf:=h.1.Ax h1
     have:=(h.1.place m q _ h1 (h.1.sub m q _ h1 hf)).2
     exact ⟨by omega,λh=>h,m,q, .inr rfl,h1,hf⟩
    ·simp at h1)
  exact ⟨_,_,π',Om,g1,g2 1 rfl⟩
theorem gR (hT:Cd P T) {st:St} {a:Act} (h:Aj X π st a w) (dst:Nat) (t ty:TypeId) (x y:Operand) (av:AV) (st':St) (he:Lk T st dst t x y=some (av,st')):
  ∃v' w' π',(Builtin.append_ #[t,t] ty #[a.eval x,a.eval y]).run P w= .ok v' w'/\Aj X π' st' a w'/\Ao X w' π' st'.heap av v':=by
 unfold Lk at he
 split at he
 ·exact gQ hT h dst t ty x y av st' he
 ·rename_i te e hg
  obtain ⟨eK,Qo⟩:=fJ hg
  split at he
  rotate_left
  ·cases he
  rename_i l off len m LI nm hx hy
  split at he
  rotate_left
  ·cases he
  rename_i e1 te1 A kp1 e2 q7 B kp2 hl hm
  split at he
  rotate_left
  ·cases he
  rename_i hc
  obtain ⟨⟨rfl,rfl⟩,hc,⟨rfl,rfl⟩,⟨rfl,rfl⟩,hB,jt⟩:=hc
  simp only [Bool.and_eq_true,Nat.blt_eq,decide_eq_true_eq,Bool.not_eq_true'] at hc
  obtain ⟨⟨rfl,rfl⟩,ph,OH,eg⟩:=hc
  have eg:m≠l:= λe=>by rw [e,Nat.beq_refl] at eg;cases eg
  simp only [Option.some.injEq,Prod.mk.injEq] at he
  obtain ⟨rfl,rfl⟩:=he
  have hu:=hT.elem t q7 eK
  obtain ⟨i,hi,Ol,lx,mV⟩:=(hT.ty q7 _ Qo).info
  have Ol:i.size=1:=Ol
  unfold St.at at hl hm
  have hrx:=Bo h.2 x
  have hry:=Bo h.2 y
  rw [hx] at hrx;rw [hy] at hry
  obtain ⟨b1,s1,n1,q1,q2,_,ZE⟩:=hrx
  rw [hl] at q1;cases q1
  simp only [OB.row,Option.some.injEq,Prod.mk.injEq] at q2
  obtain ⟨rfl,rfl⟩:=q2
  obtain ⟨b2,s2,n2,q1,q2,_,hoy⟩:=hry
  rw [hm] at q1;cases q1
  simp only [OB.row,Option.some.injEq,Prod.mk.injEq] at q2
  obtain ⟨rfl,rfl⟩:=q2
  have hA:=((h.1.heap l).Mh hl).1
  have YT:=((h.1.heap m).Mh hm).1
  cases EC:π m with
  |none=>
   rw [EC] at YT
   have YT:B= []:=YT
   subst YT;simp at hB
  |some rB=>
  rw [EC] at YT hoy
  obtain ⟨fB,Ajy,tiB,uB,RB,w1B,w2B,w3B,w4B,w5B,w6B,ZO,LB⟩:=qB YT
  obtain ⟨adB,hvy,hcB,haB⟩:=hoy
  have haB:=haB (by omega)
  subst haB
  have hlB:=LB.1
  have WX:uB.length=B.length*i.size:=by rw [Ol,Nat.mul_one];exact hlB
  have WY: ∀j u,uB[j]?=some u->w.cell? ((⟨rB.g,(rB.o+0)*1,none⟩:Addr).add j)=some u:= λj u hu=>by
   rw [Addr.add_lit,cellOf w1B,Nat.mul_one,Nat.add_zero];exact w5B j u hu
  have mR:(A.length+B.length)*i.bytes<=140737488355328:=by
   have:(A.length+B.length)*i.bytes<=4294967296*256:=Nat.mul_le_mul jt lx
   omega
  have cA:A.length+B.length<=maxLen:=by unfold Bp at jt;simp only [maxLen];omega
  have hzs:(As (Ty.slice e2) (Ar (Ty.slice e2))).cells.size=1:=by simp [As,Ty.Ac,Ar,Value.cells]
  have Pb: ∀(k:Nat) (q:Real) (Rs:List (Option Real)),π k=some q->(∀(i:Nat) (p:Real),Rs[i]?=some (some p)->q.Ax p.g/\p.g≠q.g)-> ∀(i:Nat) (p:Real),Rs[i]?=some (some p)->p.g<w.heap.size:= λk q Rs h1 h2 i p h3=>
   (h.1.place k q _ h1 (h.1.sub k q _ h1 (h2 i p h3).1)).2
  cases bN:π l with
  |none=>
   rw [bN] at hA ZE
   have hA:A= []:=hA
   subst hA
   obtain ⟨QJ,_,_⟩:=ZE
   rw [QJ,hvy]
   simp only [List.length_nil,Nat.zero_add,List.nil_append] at jt mR cA⊢
   have hr:=run_append_nil (P:=P) w t ty q7 i _ hu hi mV ⟨rB.g,(rB.o+0)*1,none⟩ B.length (rB.cap-0) uB WX WY hB (by simp only [maxLen] at cA;omega) (by omega)
   have pb:=grownCap_ge w B.length 0 q7
   have PR:=grownCap_le_maxLen w B.length 0 q7 (by omega)
   obtain ⟨π',g1,g2⟩:=Sb (w1:=w.drew.alloc (.cells (uB.toArray++Builtin.zeroCells (As (Ty.slice e2) (Ar (Ty.slice e2))).cells (grownCap w B.length 0 q7-B.length)) q7)) (gv:= λ_=>False) h ph OH q7 (e:=e2) (rows:=B) (us:=uB) (Rs:=RB) (g:=w.heap.size) (o:=0) (cap:=grownCap w B.length 0 q7)
    (λ_ hf=>hf.elim) (kz w _) ⟨.inl (Nat.le_refl _),by simp⟩ (heap_alloc_new w.drew _) (by rw [Array.size_append,List.size_toArray,Nk,hzs];omega) PR pb (λj u hu=>by
     have hj:=(List.getElem?_eq_some_iff.1 hu).1
     rw [Nat.zero_add,Array.getElem?_append_left (by simpa using hj)];simpa using hu)
    LB (λi q h1=>⟨by have:=Pb m rB RB EC ZO i q h1;omega,λh=>h,m,rB, .inr rfl,EC,(ZO i q h1).1⟩)
   exact ⟨_,_,π',hr,g1,g2 _ rfl⟩
  |some rA=>
   rw [bN] at hA ZE
   obtain ⟨fA,DH,tiA,uA,RA,w1A,w2A,w3A,w4A,w5A,w6A,w7A,LA⟩:=qB hA
   obtain ⟨adA,QJ,hcA,haA⟩:=ZE
   have hlA:=LA.1
   rw [QJ,hvy]
   have apart: ∀(i j:Nat) (q q':Real),RA[i]?=some (some q)->RB[j]?=some (some q')->q.g≠q'.g:= λi j q q' h1 h2 e=>by
    have:=h.1.apart bN EC (w7A i q h1).1 (e▸(ZO j q' h2).1)
    exact eg this.symm
   have LAB:=m8.append LA LB apart
   have Ex: ∀(i:Nat) (q:Real),RB[i]?=some (some q)->q.g≠rA.g:= λi q h1 e=>eg (h.1.apart EC bN (ZO i q h1).1 (e▸fA))
   have TA: ∀(i:Nat) (q:Real),(RA++RB)[i]?=some (some q)->q.g≠rA.g/\q.g<w.heap.size/\ ∃k p,(k=l\/k=m)/\π k=some p/\p.Ax q.g:= λi q h1=>by
    by_cases hi:i<RA.length
    ·rw [List.getElem?_append_left hi] at h1
     exact ⟨(w7A i q h1).2,Pb l rA RA bN w7A i q h1,l,rA, .inl rfl,bN,(w7A i q h1).1⟩
    ·rw [List.getElem?_append_right (by omega)] at h1
     exact ⟨Ex _ q h1,Pb m rB RB EC ZO _ q h1,m,rB, .inr rfl,EC,(ZO _ q h1).1⟩
   by_cases qI:A.length+B.length<=rA.cap-0
   ·have haA:=haA (by omega)
    subst haA
    have Oz:(rA.o+0)*1+A.length*i.size+uB.length<=DH.size:=by rw [Ol];omega
    have Sf:(rA.o+0)*1+A.length*i.size+uB.length<=DH.toList.length:=by simpa using Oz
    have hr:=Tc (P:=P) (w:=w) (ty:=ty) hu hi rA.g ((rA.o+0)*1) A.length (rA.cap-0) DH tiA w1A ⟨rB.g,(rB.o+0)*1,none⟩ B.length (rB.cap-0) uB WX WY w6B qI Oz
    have mU:=Il w rA.g (Bh DH.toList ((rA.o+0)*1+A.length*i.size) uB).toArray
    obtain ⟨π',g1,g2⟩:=Sb (w1:=w.setRow rA.g (Bh DH.toList ((rA.o+0)*1+A.length*i.size) uB).toArray) (gv:= λb=>b=rA.g) h ph OH q7 (e:=e2) (rows:=A++B) (us:=uA++uB) (Rs:=RA++RB) (g:=rA.g) (o:=rA.o) (cap:=rA.cap)
     (λb hb=>⟨l,rA, .inl rfl,bN,hb▸fA⟩) ⟨mU.os,mU.tape,mU.output,mU.size,λc _ hc=>setRow_other w rA.g c _ hc⟩ ⟨.inr ⟨l,rA, .inl rfl,bN,fA⟩,Nat.lt_of_lt_of_le (De w1A) mU.size⟩
     (setRow_heap w rA.g DH _ tiA _ w1A) (by rw [List.size_toArray,Ev _ _ _ Sf,Array.length_toList];exact w2A) w3A (by simp;omega) (λj u hu=>by
      rw [List.getElem?_toArray,Eg _ _ _ _ Sf,Ol]
      by_cases hj:j<uA.length
      ·rw [List.getElem?_append_left hj] at hu
       rw [if_pos (by omega),Array.getElem?_toList]
       exact w5A j u hu
      ·rw [List.getElem?_append_right (by omega)] at hu
       have:=(List.getElem?_eq_some_iff.1 hu).1
       rw [if_neg (by omega),if_pos (by omega)]
       rw [show rA.o+j-((rA.o+0)*1+A.length*1)=j-uA.length by omega]
       exact hu)
     LAB (λi q h1=>⟨(TA i q h1).1,(TA i q h1).1,(TA i q h1).2.2⟩)
    have:=g2 (A.length+B.length) (by simp)
    have e0:(rA.o+0)*1=rA.o:=by omega
    simp only [e0,Nat.sub_zero] at hr g1 this⊢
    exact ⟨_,_,π',hr,g1,this⟩
   ·have hold: ∀j u,uA[j]?=some u->w.cell? (adA.add j)=some u:=by
     intro j u hu
     have hj:=(List.getElem?_eq_some_iff.1 hu).1
     rw [haA (by omega),Addr.add_lit,cellOf w1A,Nat.mul_one,Nat.add_zero];exact w5A j u hu
    have hr:=run_append_grow (P:=P) w t ty q7 i _ hu hi mV adA A.length (rA.cap-0) uA (by rw [Ol,Nat.mul_one];exact hlA) hold ⟨rB.g,(rB.o+0)*1,none⟩ B.length (rB.cap-0) uB WX WY (by omega) (by simp only [maxLen] at cA;omega) (growslice_fits (by omega) mR)
    have pb:=grownCap_ge w (A.length+B.length) (rA.cap-0) q7
    have PR:=grownCap_le_maxLen w (A.length+B.length) (rA.cap-0) q7 cA
    obtain ⟨π',g1,g2⟩:=Sb (w1:=w.drew.alloc (.cells (uA.toArray++uB.toArray++Builtin.zeroCells (As (Ty.slice e2) (Ar (Ty.slice e2))).cells (grownCap w (A.length+B.length) (rA.cap-0) q7-(A.length+B.length))) q7)) (gv:= λ_=>False) h ph OH q7 (e:=e2) (rows:=A++B) (us:=uA++uB) (Rs:=RA++RB) (g:=w.heap.size) (o:=0) (cap:=grownCap w (A.length+B.length) (rA.cap-0) q7)
     (λ_ hf=>hf.elim) (kz w _) ⟨.inl (Nat.le_refl _),by simp⟩ (heap_alloc_new w.drew _) (by rw [Array.size_append,Array.size_append,List.size_toArray,List.size_toArray,Nk,hzs];omega) PR (by simpa using pb) (λj u hu=>by
      have hj:=(List.getElem?_eq_some_iff.1 hu).1
      rw [Nat.zero_add,Array.getElem?_append_left (by simpa using hj)];simpa using hu)
     LAB (λi q h1=>⟨by have:=(TA i q h1).2.1;omega,λh=>h,(TA i q h1).2.2⟩)
    exact ⟨_,_,π',hr,g1,g2 _ (by simp)⟩
theorem fi: ∀τ:Ty,Cy X w π H (zeroCells τ) (Ar τ):=by
 have one: ∀(c:AC) (v:Value),v.oneCell'=true->Ea X w π H c v->Cy X w π H [c] [v]:= λc v h1 h2=>⟨rfl,λi c' hc=>by
  rcases i with _|i
  ·simp at hc;subst hc;exact ⟨v,rfl,h1,h2⟩
  ·simp at hc⟩
 intro τ
 induction τ with
 |unit=>exact ⟨rfl,λi c hc=>by simp [zeroCells] at hc⟩
 |pair a r gA dQ=>
  refine ⟨by simp [zeroCells,Ar,gA.1,dQ.1],λi c hc=>?_⟩
  simp only [zeroCells] at hc
  simp only [Ar]
  by_cases hi:i<(zeroCells a).length
  ·rw [List.getElem?_append_left hi] at hc
   obtain ⟨u,hu,h⟩:=gA.2 i c hc
   exact ⟨u,by rw [List.getElem?_append_left (by rw [gA.1];exact hi)];exact hu,h⟩
  ·rw [List.getElem?_append_right (by omega)] at hc
   obtain ⟨u,hu,h⟩:=dQ.2 _ c hc
   exact ⟨u,by rw [List.getElem?_append_right (by rw [gA.1];omega),gA.1];exact hu,h⟩
 |int k=>exact one (.data true _ _) _ rfl (Jf (H:=H) k 0 true)
 |bool=>exact one (.data true _ _) _ rfl (Hu (H:=H) false true)
 |str=>exact one (.data true _ _) _ rfl (jH (H:=H) ByteArray.empty true)
 |slice e=>exact one _ _ rfl rfl
 |oslice e=>exact one _ _ rfl rfl
 |ptr e=>exact one _ _ rfl rfl
 |optr e=>exact one _ _ rfl rfl
 |smap v=>exact one (.data true _ _) _ rfl ⟨[.map none], .inl ⟨rfl,rfl⟩,by simp [As,Ty.Ac]⟩
 |clo f c=>exact one .undef .nilFunc rfl trivial
theorem Xx (hT:Cd P T) {st:St} {a:Act} (h:Aj X π st a w) (t:TypeId) (He:Array (Nat×Nat))
  (bN: ∀f o u ρ,T.off t f=some (o,u)->T.ty u=some ρ->He[f]?=some (o,ρ.size)): ∀(parts:List (Nat×Operand)) (cs cc:List AC) (us:List Value),Cy X w π st.heap cs us->
  Hl T st t parts cs=some cc-> ∃Oq:List Value,Instr.fill (λi=>He[i]?) us.toArray (parts.map λp=>(p.1,a.eval p.2))=some Oq.toArray/\Cy X w π st.heap cc Oq
 | [],cs,cc,us,hr,he=>by
  simp only [Hl,Option.some.injEq] at he;subst he
  exact ⟨us,rfl,hr⟩
 |(f,x)::r,cs,cc,us,hr,he=>by
  simp only [Hl] at he
  split at he
  ·rename_i o u ho
   split at he
   ·rename_i ρ hρ
    split at he
    ·rename_i c hc
     split at he
     ·rename_i hle
      obtain ⟨vs,hv,hl,TU⟩:=bV (Bo h.2 x) hc
      have e1:=hr.1
      have e2:=TU.1
      obtain ⟨Oq,g1,g2⟩:=Xx hT h t He bN r _ cc _ (ov hr TU o hle) he
      refine ⟨Oq,?_,g2⟩
      simp only [List.map_cons]
      rw [qz _ us f (a.eval x) _ o ρ.size vs (bN f o u ρ ho hρ) hv hl (by omega)]
      exact g1
     ·cases he
    ·cases he
   ·cases he
  ·cases he
theorem bb (hT:Cd P T) {st:St} {a:Act} (h:Aj X π st a w) (t:TypeId) (parts:Array (Nat×Operand)) (av:AV) (he:Qg T st t parts=some av):
  ∃v',(Instr.build t (parts.map λ(i,x)=>(i,a.eval x))).run P w= .ok v' w/\Ao X w π st.heap av v':=by
 unfold Qg at he
 split at he
 ·cases he
 ·rename_i τ Qo
  split at he
  ·rename_i hs
   cases hb:Hl T st t parts.toList (zeroCells τ) with
   |none=>rw [hb] at he;cases he
   |some cc=>
    rw [hb] at he
    simp only [Option.map_some,Option.some.injEq] at he;subst he
    obtain ⟨fs,He,h1,h2,h3⟩:=hT.fill t τ Qo hs
    obtain ⟨i,hi,Ol,lx,mV⟩:=(hT.ty t τ Qo).info
    obtain ⟨Oq,g1,g2⟩:=Xx hT h t He h3 parts.toList (zeroCells τ) cc (Ar τ) (fi τ) hb
    refine ⟨.agg Oq.toArray,?_,Oq,rfl,g2⟩
    have hz:(zeroValue t).run P w= .ok (As τ (Ar τ)) w:=by simp [zeroValue,typeInfo,hi,mV]
    have KD:(As τ (Ar τ)).cells=(Ar τ).toArray:=by simp [As,hs,Value.cells]
    have SV:=h2 w
    unfold placesOf at SV
    have e1:(parts.map λ(i,x)=>(i,a.eval x)).toList=parts.toList.map λp=>(p.1,a.eval p.2):=by simp
    simp only [Instr.build,Sem.run_bind,hz,Result.andThen_ok,run_underlying h1,SV,KD,e1,g1,Sem.run_pure]
  ·cases he
theorem nY {st:St} {v:AV} (h:v.settled=true):settle st v=some (v,st):=by
 cases v with
 | «at»a=>cases a<;>simp [AV.settled,AC.settled] at h<;>simp [settle,AC.settled]
 |agg cs=>
  have hs:cs.all (·.settled)=true:=h
  have:Du cs.length st cs=some (cs,st):=by
   cases hn:cs.length with
   |zero=>simp [Du,hs]
   |succ n=>
    have hf:cs.find? (λc=>!c.settled)=none:=List.find?_eq_none.2 λc hc=>by simpa using List.all_eq_true.1 hs c hc
    simp [Du,hf]
  simp [settle,this]
 |Uk fr τ x=>rfl
 |Jg l=>simp [AV.settled] at h
theorem iF {e:Ty} {st:St} : ∀(parts:List (Nat×Operand)) (i:Nat) (fr:Bool) (ys:List e.den),ay e i parts st=some (fr,ys)-> ∃tr,Gv e i parts st=some (fr,tr,ys,st)
 | [],i,fr,ys,h=>by
  simp only [ay,Option.some.injEq,Prod.mk.injEq] at h
  obtain ⟨rfl,rfl⟩:=h
  exact ⟨true,rfl⟩
 |(j,x)::r,i,fr,ys,h=>by
  simp only [ay] at h
  split at h
  ·rename_i hc
   split at h
   ·rename_i f1 y f2 zs h1 h2
    simp only [Option.some.injEq,Prod.mk.injEq] at h
    obtain ⟨rfl,rfl⟩:=h
    obtain ⟨tr,h3⟩:=iF r (i+1) f2 zs h2
    refine ⟨Mu st (st.ev x)&&e.tree&&tr,?_⟩
    simp only [Gv]
    rw [if_pos hc.1,nY hc.2]
    simp only [h1,h3]
   ·cases h
  ·cases h
theorem jf (hT:Cd P T) {st:St} {a:Act} (h:Aj X π st a w) (t:TypeId) (len:Nat) (parts:Array (Nat×Operand)) (av:AV) (he:Uu T st t len parts=some av):
  ∃v' w' π',(Instr.buildSlice t len (parts.map λ(i,x)=>(i,a.eval x))).run P w= .ok v' w'/\Aj X π' st a w'/\Ao X w' π' st.heap av v':=by
 unfold Uu at he
 split at he
 ·cases he
 ·rename_i te eK
  split at he
  ·cases he
  ·rename_i e Qo
   split at he
   ·rename_i Fq
    obtain ⟨bN,hlen⟩:=Fq
    cases hp:ay e 0 parts.toList st with
    |none=>rw [hp] at he;cases he
    |some p=>
     obtain ⟨fr,ys⟩:=p
     rw [hp] at he
     simp only [Option.map_some,Option.some.injEq] at he
     subst he
     obtain ⟨tr,hb⟩:=iF _ _ _ _ hp
     obtain ⟨i,hi,Ol,lx,mV⟩:=(hT.ty te e Qo).info
     have hu:=hT.elem t te eK
     have DZ:parts.toList.length=len:=by simpa using bN
     have hz: ∃z:Array Value,(len*e.size=0/\z= #[])\/(¬len*e.size=0/\(zeroValue te).run P w= .ok (As e (Ar e)) w/\z=(As e (Ar e)).cells):=by
      by_cases h0:len*e.size=0
      ·exact ⟨#[], .inl ⟨h0,rfl⟩⟩
      ·exact ⟨_, .inr ⟨h0,by simp [zeroValue,typeInfo,hi,mV],rfl⟩⟩
     obtain ⟨z,hz⟩:=hz
     obtain ⟨Vw,cl,g1,g2,g3,g4,g5,g6⟩:=Qd e parts.toList 0 st π fr tr ys st ((Array.range (len*e.size)).map (z[· %z.size]!)).toList h hb (by simp [DZ])
     have Na:cl.length=len*e.size:=by rw [g2.1,g3,DZ]
     have JZ:(Bh ((Array.range (len*e.size)).map (z[· %z.size]!)).toList (0*e.size) cl)=cl:=by
      simp [Bh,Na]
     rw [JZ] at g5
     have Om:(Instr.buildSlice t len (parts.map λ(i,x)=>(i,a.eval x))).run P w= .ok (.slice (some ⟨w.heap.size,0,none⟩) len len) (w.alloc (.cells cl.toArray te)):=by
      have h24: ¬(len*e.size>2^24):=by
       have:len*e.size<=64*64:=Nat.mul_le_mul hlen.1 hlen.2
       omega
      simp only [Instr.buildSlice,Sem.run_bind,run_underlying hu,Result.andThen_ok,(hT.ty te e Qo).size,if_neg h24]
      have e1:(parts.map λ(i,x)=>(i,a.eval x)).toList=parts.toList.map λp=>(p.1,a.eval p.2):=by simp
      simp only [e1]
      have e2:(((Array.range (len*e.size)).map (z[· %z.size]!)).toList.toArray)=(Array.range (len*e.size)).map (z[· %z.size]!):=Array.toArray_toList
      rw [e2] at g5
      rcases hz with ⟨h0,rfl⟩|⟨h0,hz,rfl⟩
      ·rw [if_pos h0]
       simp only [Sem.run_bind,Sem.run_pure,Result.andThen_ok,g5,newRow]
       simp
      ·rw [if_neg h0]
       simp only [Sem.run_bind,Sem.run_pure,Result.andThen_ok,hz,g5,newRow]
       simp
     have PN:(w.alloc (.cells cl.toArray te)).heap[w.heap.size]?=some (.cells cl.toArray te (0,0)):=heap_alloc_new w _
     have hB:Below w.heap.size w (w.alloc (.cells cl.toArray te)):=(Below.refl _ _).alloc (Nat.le_refl _) _
     have Hq:=De PN
     refine ⟨_,_,Vw,Om,g1.quiet hB,⟨[_],?_,rfl⟩⟩
     refine ⟨some ⟨w.heap.size,0,none⟩,len,len,rfl,by rw [g3,DZ],Nat.le_refl _, .inr ⟨w.heap.size,0,rfl,Hq,λhA=>?_,λk x hx=>?_⟩⟩
     ·rcases hA with hA|hA|⟨_,hA⟩
      ·exact absurd (g1.1.own hA).1 (Nat.lt_irrefl _)
      ·exact absurd (Nat.lt_of_lt_of_le (g1.1.sc _ hA).1 g1.1.below.size) (Nat.lt_irrefl _)
      ·exact absurd (Nat.lt_of_lt_of_le hA g1.1.below.size) (Nat.lt_irrefl _)
     ·obtain ⟨es,k1,k2,k3⟩:=g2.2 k x hx
      refine ⟨es,k1,λj u hu=>?_,Cells.Cr hB.size (λb hb _=>hB.block b hb) (λ_ _ h=>h) e es x k3⟩
      rw [cellOf PN,Nat.zero_add]
      simpa using k2 j u hu
   ·cases he
theorem vF {Γ:Env} (hT:Cd P T) (Mi:Hy P Γ) {st:St} {a:Act} (h:Aj X π st a w) (o:Oper) (av:AV) (he:Ry T Γ st o=some av):
  bP P X st a w av ((execOp a.eval o).run P w):=by
 obtain ⟨dst,op,ty,pos,af,gd⟩:=o
 have val: ∀(s:Sem Value) (v:Value) (w':World) (π':Pi),s.run P w= .ok v w'->Aj X π' st a w'->Ao X w' π' st.heap av v->(execOp a.eval ⟨dst,op,ty,pos,af,gd⟩=do pure (.value (<-s)))->
   bP P X st a w av ((execOp a.eval ⟨dst,op,ty,pos,af,gd⟩).run P w):=by
  intro s v w' π' h1 h2 h3 h4
  rw [h4,Sem.run_bind,h1]
  exact ⟨π',h2,h3⟩
 have quiet:Ck T Γ st ⟨dst,op,ty,pos,af,gd⟩=some av->bP P X st a w av ((execOp a.eval ⟨dst,op,ty,pos,af,gd⟩).run P w):=by
  intro hq
  have:=kB hT Mi h _ av hq
  generalize (execOp a.eval ⟨dst,op,ty,pos,af,gd⟩).run P w=r at*
  cases r with
  |halt x w'=>exact this
  |ok n w'=>
   cases n<;>simp only [AO] at this<;>simp only [bP]
   ·obtain ⟨rfl,hr⟩:=this
    exact ⟨π,h,hr⟩
   ·obtain ⟨rfl,hc⟩:=this
    exact ⟨rfl,hc.mono λe oP ⟨v,hv,hb,hr⟩=>⟨v,hv,π,h.quiet hb,hr⟩⟩
 unfold Ry at he
 split at he
 ·rename_i t len parts lT
  dsimp only at lT;subst lT
  obtain ⟨v,w',π',h1,h2,h3⟩:=jf hT h t len parts av he
  exact val _ v w' π' h1 h2 h3 rfl
 ·rename_i t parts lT
  dsimp only at lT;subst lT
  obtain ⟨v',h1,h2⟩:=bb hT h t parts av he
  exact val _ v' w π h1 h h2 rfl
 ·exact quiet he
theorem eR {a:Act} : ∀(l:List Operand) {π:Pi} {st st1:St},Aj X π st a w->Ju l st=some st1-> ∃π',Aj X π' st1 a w
 | [],π,st,st1,h,he=>by
  simp only [Ju,Option.some.injEq] at he
  subst he
  exact ⟨π,h⟩
 |x::r,π,st,st1,h,he=>by
  simp only [Ju] at he
  cases hs:settle st (st.ev x) with
  |none=>rw [hs] at he;cases he
  |some p=>
   rw [hs] at he
   obtain ⟨Vw,h1,_⟩:=Vs h (Bo h.2 x) hs
   exact eR r h1 he
theorem sr {Γ:Env} (hT:Cd P T) (Mi:Hy P Γ) {st:St} {a:Act} (h:Aj X π st a w) (o:Oper) (av:AV) (st':St) (he:evalOp T Γ st o=some (av,st')):
  bP P X st' a w av ((execOp a.eval o).run P w):=by
 have quiet: ∀ {π:Pi} {st:St},Aj X π st a w->(Ck T Γ st o).map (λv=>(v,st))=some (av,st')->bP P X st' a w av ((execOp a.eval o).run P w):=by
  intro π st h he
  cases hq:Ck T Γ st o with
  |none=>rw [hq] at he;cases he
  |some v=>
   rw [hq] at he
   simp only [Option.map_some,Option.some.injEq,Prod.mk.injEq] at he
   obtain ⟨rfl,rfl⟩:=he
   have:=kB hT Mi h o v hq
   generalize (execOp a.eval o).run P w=r at*
   cases r with
   |halt x w'=>exact this
   |ok n w'=>
    cases n<;>simp only [AO] at this<;>simp only [bP]
    ·obtain ⟨rfl,hr⟩:=this
     exact ⟨π,h,hr⟩
    ·obtain ⟨rfl,hc⟩:=this
     exact ⟨rfl,hc.mono λe oP ⟨v,hv,hb,hr⟩=>⟨v,hv,π,h.quiet hb,hr⟩⟩
 obtain ⟨dst,op,ty,pos,af,gd⟩:=o
 have val: ∀(s:Sem Value) (v:Value) (w':World) (π':Pi),s.run P w= .ok v w'->Aj X π' st' a w'->Ao X w' π' st'.heap av v->(execOp a.eval ⟨dst,op,ty,pos,af,gd⟩=do pure (.value (<-s)))->
   bP P X st' a w av ((execOp a.eval ⟨dst,op,ty,pos,af,gd⟩).run P w):=by
  intro s v w' π' h1 h2 h3 h4
  rw [h4,Sem.run_bind,h1]
  exact ⟨π',h2,h3⟩
 unfold evalOp at he
 split at he
 all_goals (rename_i lT;dsimp only at lT;try subst lT)
 ·
  rename_i x
  split at he
  ·rename_i d te e hx hd ht
   split at he
   ·rename_i HX
    simp only [Option.some.injEq,Prod.mk.injEq] at he
    obtain ⟨rfl,rfl⟩:=he
    obtain ⟨k1,k2,_⟩:=ny h d HX (T.mK||e.flat) T.ur te e
    have OL:=Bo h.2 x
    rw [hx] at OL
    have hxv:a.eval x= .slice none 0 0:=OL
    show bP P X _ a w _ (.ok (.value (a.eval x)) w)
    rw [hxv]
    exact ⟨_,k1,k2⟩
   ·cases he
  ·simp only [Option.some.injEq,Prod.mk.injEq] at he
   obtain ⟨rfl,rfl⟩:=he
   exact ⟨π,h,Bo h.2 x⟩
 ·
  rename_i t
  split at he
  ·rename_i d τ hd ht
   obtain ⟨i,hi,Ol,lx,mV⟩:=(hT.ty t τ ht).info
   obtain ⟨π',k1,k2⟩:=kV h d t τ (zeroCells τ) (Ar τ) (fi τ) av st' he
   have KD:(As τ (Ar τ)).cells=(Ar τ).toArray:=by
    cases τ<;>simp [As,Ty.Ac,Value.cells,Ar]
   refine val (Instr.alloc t true (.tuple #[])) _ _ π' ?_ k1 k2 rfl
   simp [Instr.alloc,zeroValue,typeInfo,hi,mV,newVar,newRow,KD]
  ·cases he
 ·
  rename_i t x
  split at he
  ·rename_i d τ hd ht
   split at he
   ·rename_i cs hc
    obtain ⟨us,hv,hl,hr⟩:=bV (Bo h.2 x) hc
    obtain ⟨π',k1,k2⟩:=kV h d t τ cs us hr av st' he
    refine val (Instr.box t (a.eval x)) _ _ π' ?_ k1 k2 rfl
    simp [Instr.box,newVar,newRow,hv]
   ·cases he
  ·cases he
 ·
  rename_i t p x
  cases hs:Kc T st t (st.ev p) (st.ev x) with
  |none=>rw [hs] at he;cases he
  |some s=>
   rw [hs] at he
   simp only [Option.map_some,Option.some.injEq,Prod.mk.injEq] at he
   obtain ⟨rfl,rfl⟩:=he
   obtain ⟨w',π',h1,h2⟩:=jj hT h t _ _ _ _ (Bo h.2 p) (Bo h.2 x) s hs
   have:(execOp a.eval ⟨dst, .store t p x,ty,pos,af,gd⟩).run P w= .ok .skip w':=by
    show (do Instr.storeAt t (a.eval p) (a.eval x);pure Next.skip:Sem Next).run P w=_
    rw [Sem.run_bind,h1];rfl
   rw [this]
   exact ⟨π',h2,trivial⟩
 ·
  rename_i t l c
  split at he
  ·rename_i d hd
   obtain ⟨v,w',π',h1,h2,h3⟩:=lu hT h d t _ _ _ _ (Bo h.2 l) (Bo h.2 c) av st' he
   exact val _ v w' π' h1 h2 h3 rfl
  ·cases he
 ·
  rename_i t
  split at he
  ·rename_i d hd
   obtain ⟨v,w',π',h1,h2,h3⟩:=gU hT h d t av st' he
   exact val _ v w' π' h1 h2 h3 rfl
  ·cases he
 ·
  rename_i t m k x
  cases hs:Fa T st t (st.ev m) (st.ev k) (st.ev x) with
  |none=>rw [hs] at he;cases he
  |some s=>
   rw [hs] at he
   simp only [Option.map_some,Option.some.injEq,Prod.mk.injEq] at he
   obtain ⟨rfl,rfl⟩:=he
   obtain ⟨w',h1,h2⟩:=Yc hT h t _ _ _ _ _ _ (Bo h.2 m) (Bo h.2 k) (Bo h.2 x) s hs
   have:(execOp a.eval ⟨dst, .mapUpdate t m k x,ty,pos,af,gd⟩).run P w= .ok .skip w':=by
    show (do Instr.mapUpdate t (a.eval m) (a.eval k) (a.eval x);pure Next.skip:Sem Next).run P w=_
    rw [Sem.run_bind,h1];rfl
   rw [this]
   exact ⟨π,h2,trivial⟩
 ·
  rename_i t m k x
  cases hs:Fa T st t (st.ev m) (st.ev k) (st.ev x) with
  |none=>rw [hs] at he;cases he
  |some s=>
   rw [hs] at he
   simp only [Option.map_some,Option.some.injEq,Prod.mk.injEq] at he
   obtain ⟨rfl,rfl⟩:=he
   obtain ⟨w',h1,h2⟩:=Yc hT h t _ _ _ _ _ _ (Bo h.2 m) (Bo h.2 k) (Bo h.2 x) s hs
   have:(execOp a.eval ⟨dst, .insert t m k x,ty,pos,af,gd⟩).run P w= .ok .skip w':=by
    show (do Instr.mapUpdate t (a.eval m) (a.eval k) (a.eval x);pure Next.skip:Sem Next).run P w=_
    rw [Sem.run_bind,h1];rfl
   rw [this]
   exact ⟨π,h2,trivial⟩
 ·
  rename_i t len parts
  split at he
  ·rename_i d hd
   obtain ⟨v,w',π',h1,h2,h3⟩:=bG hT h d t len parts av st' he
   exact val _ v w' π' h1 h2 h3 rfl
  ·cases he
 ·
  rename_i t parts
  cases hb:Qg T st t parts with
  |none=>rw [hb] at he;cases he
  |some v=>
   rw [hb] at he
   simp only [Option.map_some,Option.some.injEq,Prod.mk.injEq] at he
   obtain ⟨rfl,rfl⟩:=he
   obtain ⟨v',h1,h2⟩:=bb hT h t parts v hb
   exact val _ v' w π h1 h h2 rfl
 ·
  rename_i args ts
  split at he
  ·rename_i d x y t t' hd Lb pk
   split at he
   ·rename_i Oo;subst Oo
    have e1:args= #[x,y]:=by apply Array.ext';simpa using Lb
    have e2:ts= #[t,t]:=by apply Array.ext';simpa using pk
    subst e1;subst e2
    obtain ⟨v,w',π',h1,h2,h3⟩:=gR hT h d t ty x y av st' he
    refine val (Builtin.append_ #[t,t] ty #[a.eval x,a.eval y]) v w' π' h1 h2 h3 ?_
    simp [execOp,resolve,invoke,builtin]
   ·cases he
  ·cases he
 ·
  rename_i args ts
  split at he
  ·rename_i x y t t' Lb pk
   have e1:args= #[x,y]:=by apply Array.ext';simpa using Lb
   have e2:ts= #[t,t']:=by apply Array.ext';simpa using pk
   subst e1;subst e2
   obtain ⟨v,w',h1,h2,h3⟩:=mC hT h t t' ty _ _ _ _ (Bo h.2 x) (Bo h.2 y) av st' he
   refine val (Builtin.copy_ #[t,t'] ty #[a.eval x,a.eval y]) v w' π h1 h2 h3 ?_
   simp [execOp,resolve,invoke,builtin]
  ·cases he
 ·
  rename_i args ts
  split at he
  ·rename_i x t Lb pk
   have e1:args= #[x]:=by apply Array.ext';simpa using Lb
   have e2:ts= #[t]:=by apply Array.ext';simpa using pk
   subst e1;subst e2
   cases hs:evalClear T st t (st.ev x) with
   |none=>rw [hs] at he;cases he
   |some s=>
    rw [hs] at he
    simp only [Option.map_some,Option.some.injEq,Prod.mk.injEq] at he
    obtain ⟨rfl,rfl⟩:=he
    obtain ⟨v,w',h1,h2⟩:=lr hT h t ty _ _ (Bo h.2 x) s hs
    refine val (Builtin.clear_ #[t] ty #[a.eval x]) v w' π h1 h2 trivial ?_
    simp [execOp,resolve,invoke,builtin]
  ·cases he
 ·
  rename_i f args ts
  split at he
  ·rename_i s Abr
   have hs:Dp P f s:=Mi f _ Abr
   have:=lq h hs dst (args.toList.map st.ev) (args.toList.map a.eval) (by simp) (λi c v=>da h args.toList i c v) av st' he
   rw [dd a.eval f args ts dst ty pos af gd rfl hs.enter]
   refine ⟨rfl,?_⟩
   rwa [show (args.toList.map a.eval).toArray=args.map a.eval from by apply Array.ext';simp] at this
  ·rename_i s Abr
   split at he
   ·cases hs:Ju args.toList st with
    |none=>rw [hs] at he;cases he
    |some st1=>
     rw [hs] at he
     obtain ⟨Vw,h1⟩:=eR args.toList h hs
     exact quiet h1 he
   ·exact quiet h he
  ·exact quiet h he
 ·exact quiet h he
end
end Go.Proofs.Ytjbdmibbbpdnnaa
