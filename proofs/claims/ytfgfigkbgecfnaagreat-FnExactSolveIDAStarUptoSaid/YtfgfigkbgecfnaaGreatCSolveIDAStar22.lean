/-
  Part 23 of the proof that the statement FnExactSolveIDAStar holds.
-/
import Derived.Test.YtfgfigkbgecfnaaGreatCSolveIDAStar21
namespace Go.Proofs.YtfgfigkbgecfnaaGreat
open Go.RowKit
section
variable {P:Program} {T:Tab} {X:Ctx} {w w':World} {π:Pi} {H:List (Nat×OB)}
theorem BR {π':Pi} {st':St} {a:Act} (h:Bk X π' st' a w) (k:Kz π π' H st'.heap) {fr:Bool} (τ:Ty) (cs:List Value) (x:τ.den) (hc:Cells w (Dd X.w0.heap.size X.Sc π fr) τ cs x):
  Cells w (Dd X.w0.heap.size X.Sc π' fr) τ cs x:=
 Cells.Fg (Ao _) (λ_ _ _=>rfl) (λb _ hA=>by
  rcases hA with ⟨l,r,hl,hg⟩|h2
  ·have hh:=h.1.heap l
   cases hb:Au st'.heap l with
   |none=>have:=hh.emp hb;rw [this] at hl;cases hl
   |some b'=>have:=(k l b' hb).1;rw [this] at hl;exact .inl ⟨l,r,hl,hg⟩
  ·exact .inr h2) τ cs x hc
theorem j0.drop {F:List Nat} {l:Nat} (h:j0 X w π F):j0 X w (Xt π l none) F:=
 ⟨h.1,λb hb=>⟨(h.2 b hb).1,(h.2 b hb).2.1,λm r hm=>by
  by_cases e:m=l
  ·subst e;rw [Gr] at hm;cases hm
  ·rw [Gp π none e] at hm;exact (h.2 b hb).2.2 m r hm⟩⟩
theorem w7 {st:St} {a:Act} (h:Bk X π st a w) (l:Nat) (hl:l<Bn) (f0 t0:Bool) (te:TypeId) (e:Ty):
  Bk X (Xt π l none) (st.new l (.arr f0 t0 e te [])) a w/\Bs X w (Xt π l none) (st.new l (.arr f0 t0 e te [])).heap (.at (.own l 0 0)) (.slice none 0 0)/\
   ∀fr τ cs x,Cells w (Dd X.w0.heap.size X.Sc π fr) τ cs x->Cells w (Dd X.w0.heap.size X.Sc (Xt π l none) fr) τ cs x:=
 ⟨h.replace l hl none _ (Qg w _) (λr hr=>by cases hr) (λ_=>rfl),
  KB (St.Hc st l _) (Ao _) (by rw [Gr];exact ⟨rfl,rfl,rfl⟩),
  fun fr τ cs x hc=>Cells.Fg (Ao _) (λ_ _ _=>rfl) (λb _ hA=>by
  rcases hA with ⟨m,r,hm,hg⟩|h2
  ·by_cases e:m=l
   ·subst e;rw [Gr] at hm;cases hm
   ·rw [Gp π none e] at hm;exact .inl ⟨m,r,hm,hg⟩
  ·exact .inr h2) τ cs x hc⟩
theorem Yq (hT:Ed P T) {st:St} {a:Act} (h:Bk X π st a w) (dst:Nat) (t ty:TypeId) (x y:Operand) (av:AV) (st':St) (he:Og T st dst t x y=some (av,st')):
  ∃v' w' π',(Builtin.append_ #[t,t] ty #[a.eval x,a.eval y]).run P w= .ok v' w'/\Bk X π' st' a w'/\Bs X w' π' st'.heap av v':=by
 unfold Og at he
 split at he
 ·cases he
 ·rename_i te mb
  split at he
  ·rename_i e y' st1 Yy hs
   obtain ⟨cY,h1,h2,h3,h4,h5⟩:=cP h (Dy h.2 y) hs
   split at he
   ·cases he
   ·rename_i tR ys hv
    dsimp only at he
    have VM: ∀tr2,tr2=(e.flat||(Ug st (st.ev y)&&e.tree))->tr2=true->e.flat=true\/ ∃F,Ci w F (.slice e) [a.eval y] ys/\j0 X w cY F:=by
     intro tr2 e2 oH
     subst e2
     cases hef:e.flat with
     |true=>exact .inl rfl
     |false=>
     right
     simp only [hef,Pq,Af] at oH
     obtain ⟨F,us,f1,f2,f3,_⟩:=h5 oH.1 (.slice e) tR ys oH.2 hv
     have hus:us= [a.eval y]:=by
      simp only [Ci] at f1
      obtain ⟨a0,len,cap,rfl,_⟩:=f1
      rw [f2];simp [Cf,Ty.Aq]
     rw [hus] at f1
     exact ⟨F,f1,f3⟩
    have hyc:Cells w (Dd X.w0.heap.size X.Sc cY tR) (.slice e) [a.eval y] ys:=Cw.Sq rfl (Na _ y' _ tR ys h3 h2 hv)
    have hxr:=Dy h1.2 x
    split at he
    ·rename_i hx
     rw [hx] at hxr
     have hxv:a.eval x= .slice none 0 0:=hxr
     split at he
     ·rename_i qv
      simp only [Aa,Ae] at he
      obtain ⟨rfl,rfl⟩:=he
      obtain ⟨k1,k2,k3⟩:=w7 h1 dst qv.2 (T.vg||e.flat) T.FN te e
      have:=nV (ty:=ty) hT k1 mb Yy qv.2 (fr3:=tR||e.flat) (tr2:=e.flat||(Ug st (st.ev y)&&e.tree)) rfl (St.Hc st1 dst _) k2 (k3 _ _ _ _ hyc) (by rw [Bo];exact qv.1) (λht=>by
       rcases VM _ rfl ht with h0|⟨F,f1,f2⟩
       ·exact .inl h0
       ·exact .inr ⟨F,f1,f2.drop⟩)
      rw [<-hxv] at this
      exact this
     ·cases he
    ·rename_i l off len hx
     rw [hx] at hxr
     split at he
     ·rename_i fr tr e' tid xs hl
      split at he
      ·rename_i Ju
       obtain ⟨rfl,rfl⟩:=Ju
       split at he
       ·rename_i qv
        simp only [Aa,Ae] at he
        obtain ⟨rfl,rfl⟩:=he
        exact nV (ty:=ty) hT h1 mb Yy qv.2 (fr3:=tR||e'.flat) (tr2:=e'.flat||(Ug st (st.ev y)&&e'.tree)) rfl hl hxr hyc qv.1 (VM _ rfl)
       ·cases he
      ·cases he
     ·cases he
    ·cases he
  ·cases he
theorem o9 (hT:Ed P T) {st:St} {a:Act} (h:Bk X π st a w) (dst:Nat) (t ty:TypeId) (x y:Operand) (av:AV) (st':St) (he:Sb T st dst t x y=some (av,st')):
  ∃v' w' π',(Builtin.append_ #[t,t] ty #[a.eval x,a.eval y]).run P w= .ok v' w'/\Bk X π' st' a w'/\Bs X w' π' st'.heap av v':=by
 unfold Sb at he
 split at he
 ·rename_i tx
  split at he
  ·rename_i l i c hg
   split at he
   ·rename_i e te rows kp tid hl _
    split at he
    ·rename_i hc
     simp only [Af,Nm,Ei] at hc
     have lG:dst≠l:= λe=>by rw [e,Nat.beq_refl] at hc;cases hc.2.2
     unfold St.at at hl
     have hv:Hk X w π st.heap (.sub l i c) (a.tmps.getD tx undef):=by
      have:=h.2.tmps tx
      rw [hg] at this
      exact this
     obtain ⟨cY,h1,h2⟩:=PF (tid:=tid) h hl lG hc.2.1 hc.1 hv
     have h3:=h1.put (some tx) (c:= .at (.own dst 0 (rows.getD i []).length)) h2
     have Ar1:a.put (some tx) (a.tmps.getD tx undef)=a:=by
      have:a.tmps.setIfInBounds tx (a.tmps.getD tx undef)=a.tmps:=by
       apply Array.ext_getElem?
       intro k
       rw [Array.getElem?_setIfInBounds]
       split
       ·rename_i e
        subst e
        split
        ·rename_i Iz
         rw [Array.getElem?_eq_getElem Iz];simp
        ·rename_i Iz
         rw [Array.getElem?_eq_none (by omega)]
       ·rfl
      simp only [Act.put,this]
     rw [Ar1] at h3
     exact Yq hT h3 dst t ty (.tmp tx) y av st' he
    ·cases he
   ·cases he
  ·exact Yq hT h dst t ty _ y av st' he
 ·exact Yq hT h dst t ty x y av st' he
theorem UE {S:Nat->Prop} {e:Ty} (h:nO e=true): ∃z,By e= [z]/\e.Aq=false/\e.size=1/\Cells w S e [z] e.zero/\z.oneCell'=true:=by
 cases e<;>simp [nO] at h
 ·exact ⟨_,rfl,rfl,rfl,rfl,rfl⟩
 ·exact ⟨_,rfl,rfl,rfl,rfl,rfl⟩
 ·exact ⟨_,rfl,rfl,rfl,rfl,rfl⟩
 ·exact ⟨_,rfl,rfl,rfl,⟨none,0,0,rfl,rfl,Ao _, .inl rfl⟩,rfl⟩
 ·exact ⟨_,rfl,rfl,rfl, .inl ⟨rfl,0,rfl⟩,rfl⟩
theorem NY {e:Ty} {z:Value} (ht:e.tree=true) (h:nO e=true) (hz:By e= [z]):Ci w [] e [z] e.zero:=by
 cases e<;>simp [nO] at h<;>simp only [By,Gj,Ow] at hz<;>subst hz<;>try (simp [Ty.tree] at ht;done)
 ·exact ⟨rfl,rfl⟩
 ·exact ⟨rfl,rfl⟩
 ·exact ⟨rfl,rfl⟩
 ·exact ⟨none,0,0,rfl,rfl,Ao _, .inl ⟨rfl,rfl,rfl,rfl⟩⟩
theorem Ag2 {S:Nat->Prop} : ∀(e:Ty),hJ e=true->(By e).length=e.size/\Cells w S e (By e) e.zero/\(e.tree=true->Ci w [] e (By e) e.zero):=by
 intro e
 induction e with
 |unit=>intro _;exact ⟨rfl,rfl,λ_=>⟨rfl,rfl⟩⟩
 |pair a r iX iR=>
  intro h
  simp only [hJ,Af] at h
  obtain ⟨a1,a2,a3⟩:=iX h.1
  obtain ⟨r1,r2,r3⟩:=iR h.2
  exact ⟨by simp [By,Ty.size,a1,r1],⟨_,_,rfl,a2,r2⟩,λht=>by simp only [Ty.tree,Af] at ht;exact ⟨_,_,[],[],rfl,rfl,a3 ht.1,r3 ht.2⟩⟩
 |_=>
  intro h
  simp only [hJ] at h
  obtain ⟨z,z1,z2,z3,z4,_⟩:=UE (w:=w) (S:=S) h
  exact ⟨by rw [z1,z3];rfl,by rw [z1];exact z4,λht=>by rw [z1];exact NY ht h z1⟩
theorem VU {z:Array Value} {s m j q:Nat} (hz:z.size=s) (hj:j<m) (hq:q<s):(madeCells z (m*s))[j*s+q]?=z[q]?:=by
 have h1:j*s+q<m*s:=by
  have:=Ey s (show j+1<=m by omega)
  rw [Nat.succ_mul] at this
  omega
 have h2:(j*s+q)%z.size=q:=by rw [hz,Nat.mul_comm,Nat.mul_add_mod,Nat.mod_eq_of_lt hq]
 have h3:q<z.size:=by omega
 unfold madeCells
 simp [h1,h2,h3]
theorem uV (hT:Ed P T) {st:St} {a:Act} (h:Bk X π st a w) (dst:Nat) (t:TypeId) (l c:AV) (vl vc:Value) (hl:Bs X w π st.heap l vl) (hc:Bs X w π st.heap c vc) (av:AV) (st':St)
  (he:cw T st dst t l c=some (av,st')): ∃v' w' π',(Instr.makeSlice t vl vc).run P w= .ok v' w'/\Bk X π' st' a w'/\Bs X w' π' st'.heap av v':=by
 unfold cw at he
 split at he
 ·rename_i te fr1 k1 n tR k2 m mb
  have:=Qo hl;subst this
  have:=Qo hc;subst this
  split at he
  ·rename_i e Yy
   split at he
   ·rename_i Ju
    obtain ⟨h0,hnm,hz,hdp⟩:=Ju
    obtain ⟨h1,h2⟩:=Uz.1 h0
    subst hnm
    simp only [Aa,Ae] at he
    obtain ⟨rfl,rfl⟩:=he
    obtain ⟨i,hi,Wn,sX,vC⟩:=(hT.ty te e Yy).info
    obtain ⟨z1,z4,z5⟩:=Ag2 (w:=w) (S:=Dd X.w0.heap.size X.Sc π (T.vg||e.flat)) e hz
    have hzc:(Cf e (By e)).cells=(By e).toArray:=Lc e _ _ z4
    have hu:=hT.elem t te mb
    have hn:n.toNat<=4294967296:=by unfold Cr at h2;omega
    have hr:=run_make (P:=P) (w:=w) t te i _ hu hi vC k1 k2 n n h1 (Oe _) (by
     have:(i.bytes:Int)*n<=256*4294967296:=by
      obtain ⟨nn,rfl⟩:=Rj h1
      have h7:i.bytes*nn<=256*4294967296:=eD sX (by simpa using hn)
      have h8:((i.bytes*nn:Nat):Int)<=256*4294967296:=by omega
      rwa [Int.natCast_mul] at h8
     omega) (by unfold Cr at h2;omega)
    rw [hzc,Wn] at hr
    have bm:((By e).toArray).size=e.size:=by simpa using z1
    have cell: ∀j,j<n.toNat-> ∀q u,(By e)[q]?=some u->(madeCells (By e).toArray (n.toNat*e.size)).toList[j*e.size+q]?=some u:=by
     intro j hj q u hu
     have hq:q<e.size:=by rw [<-z1];exact (An.1 hu).1
     have:=VU bm hj hq
     rw [Array.getElem?_toList,this]
     simpa using hu
    have:=gw (w1:=w.alloc (.cells (madeCells (By e).toArray (n.toNat*e.size)) te)) h dst hdp (T.vg||e.flat) (T.FN&&e.tree) e te (List.replicate n.toNat e.zero) (madeCells (By e).toArray (n.toNat*e.size)).toList (madeCells (By e).toArray (n.toNat*e.size)) n.toNat []
     (.inr rfl) (by rw [size_madeCells]) (by unfold maxLen;omega) (by simp)
     (λk u hu=>by
      rw [Array.getElem?_toList] at hu;exact hu) ⟨by simp [size_madeCells],λj x hx=>by
       have hj:=(An.1 hx).1
       simp only [Gg] at hj
       refine ⟨By e,z1,λq u hu=>cell j hj q u hu,?_⟩
       rw [Fy (Bv hx)];exact z4⟩ (by simp) (λoH=>⟨Nl,List.replicate n.toNat [],by simp,by simp,λj x F hx hF=>by
      have hj:=(An.1 hx).1
      simp only [Gg] at hj
      refine ⟨By e,z1,λq u hu=>cell j hj q u hu,?_⟩
      have e1:=Fy (Bv hx)
      have e2:=Fy (Bv hF)
      rw [e1,e2]
      exact z5 (by simp only [Af] at oH;exact oH.2)⟩)
    exact ⟨_,_,_,hr,this.1,this.2 _ (by simp)⟩
   ·cases he
  ·cases he
 ·cases he
theorem jv (off:Nat): ∀(us:List Value) (k:Nat) (cells:List Value),off+k+us.length<=cells.length->
  (us.zipIdx k).foldl (λcs p=>cs.setIfInBounds (off+p.2) p.1) cells.toArray=(Ea cells (off+k) us).toArray
 | [],k,cells,h=>by simp [Ea]
 |u::us,k,cells,h=>by
  simp only [List.zipIdx_cons,Hr]
  rw [show cells.toArray.setIfInBounds (off+k) u=(cells.set (off+k) u).toArray by simp]
  rw [jv off us (k+1) (cells.set (off+k) u) (by simp at h⊢;omega)]
  congr 1
  apply List.ext_getElem?
  intro j
  have hl:off+k+(u::us).length<=cells.length:=h
  have xB:off+(k+1)+us.length<=(cells.set (off+k) u).length:=by simp at h⊢;omega
  rw [Ik _ _ _ _ hl,Ik _ _ _ _ xB]
  simp only [Aw]
  by_cases h1:j<off+k
  ·rw [Ab (by omega),Ab h1,List.getElem?_set_ne (by omega)]
  ·rw [Ag h1]
   by_cases h2:j=off+k
   ·subst h2
    rw [Ab (by omega),Ab (by omega),List.getElem?_set_self (by simp at h;omega)]
    simp
   ·rw [Ag (by omega)]
    by_cases h3:j<off+k+(us.length+1)
    ·rw [Ab (by omega),Ab h3]
     rw [show j-(off+k)=(j-(off+(k+1)))+1 by omega,Hf]
    ·rw [Ag (by omega),Ag h3,List.getElem?_set_ne (by omega)]
theorem zn (place:Nat->Option (Nat×Nat)) (cells:List Value) (i:Nat) (v:Value) (rest:List (Nat×Value)) (off size:Nat) (us:List Value) (hp:place i=some (off,size)) (hv:v.cells=us.toArray)
  (hl:us.length=size) (hle:off+size<=cells.length):Instr.fill place cells.toArray ((i,v)::rest)=Instr.fill place (Ea cells off us).toArray rest:=by
 simp only [Instr.fill,hp,hv,Gw,hl]
 rw [Ag (by simp;omega)]
 congr 1
 have:=jv off us 0 cells (by omega)
 simp only [Fk] at this
 rw [<-this]
 simp
theorem Ym (e:Ty) {a:Act} : ∀(parts:List (Nat×Operand)) (i:Nat) (st:St) (π:Pi) (fr tr:Bool) (ys:List e.den) (st':St) (cells:List Value),Bk X π st a w->Ll e i parts st=some (fr,tr,ys,st')->
  (i+parts.length)*e.size<=cells.length->
  ∃π' cl,Bk X π' st' a w/\Flat w (Dd X.w0.heap.size X.Sc π' fr) e cl ys/\ys.length=parts.length/\Kz π π' st.heap st'.heap/\
   Instr.fill (λi=>some (i*e.size,e.size)) cells.toArray (parts.map λp=>(p.1,a.eval p.2))=some (Ea cells (i*e.size) cl).toArray/\
   (tr=true-> ∃Fs,Tq w e cl ys Fs/\j0 X w π' (List.flatten Fs)/\ ∀b∈List.flatten Fs,∃l r,π l=some r/\r.cl b)
 | [],i,st,π,fr,tr,ys,st',cells,h,he,hle=>by
  simp only [Ll,Aa,Ae] at he
  obtain ⟨rfl,rfl,rfl,rfl⟩:=he
  exact ⟨π,[],h,Flat.nil,rfl,Kz.refl _ _,by simp [Instr.fill,Ea],λ_=>⟨[],⟨rfl,λi z F hz=>by simp at hz⟩,⟨Nl,by simp⟩,by simp⟩⟩
 |(j,x)::r,i,st,π,fr,tr,ys,st',cells,h,he,hle=>by
  simp only [Ll] at he
  split at he
  ·rename_i jC;subst jC
   split at he
   ·rename_i v' st1 hs
    obtain ⟨cY,h1,h2,h3,h4,h5⟩:=cP h (Dy h.2 x) hs
    split at he
    ·rename_i fr1 y hv
     split at he
     ·rename_i tR tr2 zs st2 hr
      simp only [Aa,Ae] at he
      obtain ⟨rfl,rfl,rfl,rfl⟩:=he
      obtain ⟨es,iW,PU⟩:=Na e v' _ fr1 y h3 h2 hv
      have m9:=Cells.len e es y iW
      have Aw4:i*e.size+e.size<=cells.length:=by
       have:(i+1)*e.size<=(i+((i,x)::r).length)*e.size:=Ey _ (by simp)
       rw [Df,Sz] at this
       omega
      have VE:i*e.size+es.length<=cells.length:=by omega
      obtain ⟨π2,cl,g1,g2,g3,g4,g5,g6⟩:=Ym e r (i+1) st1 cY tR tr2 zs st2 (Ea cells (i*e.size) es) h1 hr (by
       rw [Jb _ _ _ VE]
       rw [show i+1+r.length=i+((i,x)::r).length by simp;omega];exact hle)
      have f1:Flat w (Dd X.w0.heap.size X.Sc π2 fr1) e es [y]:=⟨by simp [m9],λq z hz=>by
       rcases q with _|q
       ·simp at hz;subst hz
        exact ⟨es,m9,λj u hu=>by simpa using hu,BR g1 g4 e es y iW⟩
       ·simp at hz⟩
      refine ⟨π2,es++cl,g1,?_,by simp [g3],h4.trans g4,?_,λht=>?_⟩
      ·have:=(f1.cells λes z hc=>hc.and_left (f2:=tR)).append (g2.cells λes z hc=>hc.and_right (f1:=fr1))
       simpa using this
      ·simp only [Ce]
       rw [zn _ cells i (a.eval x) _ (i*e.size) e.size es rfl (by rw [PU];exact Lc e es y iW) m9 Aw4,g5]
       congr 2
       have Ox:cl.length=r.length*e.size:=by rw [g2.1,g3]
       have Yw:(i+1)*e.size+cl.length<=(Ea cells (i*e.size) es).length:=by
        rw [Jb _ _ _ VE,Ox,<-Df]
        rw [show i+1+r.length=i+((i,x)::r).length by simp;omega];exact hle
       have Aq5:i*e.size+(es++cl).length<=cells.length:=by
        rw [Jb _ _ _ VE] at Yw
        rw [Ax,m9]
        rw [Df,Sz] at Yw
        omega
       have e1:(i+1)*e.size=i*e.size+es.length:=by rw [Df,Sz,m9]
       apply List.ext_getElem?
       intro k
       rw [Ik _ _ _ _ Yw,Ik _ _ _ _ Aq5,Ik _ _ _ _ VE,e1,Ax]
       by_cases k1:k<i*e.size
       ·rw [Ab (by omega),Ab k1,Ab k1]
       ·rw [Ag k1,Ag k1]
        by_cases k2:k<i*e.size+es.length
        ·rw [Ab k2,Ab k2,Ab (by omega),At (by omega)]
        ·rw [Ag k2,Ag k2]
         by_cases k3:k<i*e.size+es.length+cl.length
         ·rw [Ab k3,Ab (by omega),As (by omega)]
          congr 1;omega
         ·rw [Ag k3,Ag (by omega)]
      ·simp only [Af] at ht
       obtain ⟨⟨ht1,ht2⟩,ht3⟩:=ht
       obtain ⟨F,us,t1,t2,t3,t7⟩:=h5 ht1 e fr1 y ht2 hv
       obtain ⟨Fs,t4,t5,t6⟩:=g6 ht3
       have hus:us=es:=by
        have c1:=Ci.cells (S:= λ_=>False) F e us y t1 (λ_ _ h=>h)
        have a1:=Lc e us y c1
        have a2:=Lc e es y iW
        rw [<-t2,PU,a2] at a1
        simpa using a1.symm
       subst hus
       refine ⟨F::Fs,?_,?_,λb hb=>?_⟩
       ·have k1:Tq w e us [y] [F]:=⟨rfl,λq z G hz hG=>by
         rcases q with _|q
         ·simp at hz hG;subst hz;subst hG
          exact ⟨us,m9,λj u hu=>by simpa using hu,t1⟩
         ·simp at hz⟩
        exact Tq.append (by simp [m9]) k1 t4
       ·rw [Lf]
        refine ⟨Cv.2 ⟨t3.1,t5.1,λb hb b' jB e=>?_⟩,λb hb=>?_⟩
        ·subst e
         obtain ⟨l,r,q1,q2⟩:=t6 b jB
         exact (t3.2 b hb).2.2 l r q1 q2
        ·rcases Az.1 hb with hb|hb
         ·have:=t3.2 b hb
          refine ⟨this.1,this.2.1,λl r q1 q2=>?_⟩
          cases hh:Au st2.heap l with
          |none=>rw [(g1.1.heap l).emp hh] at q1;cases q1
          |some b'=>exact this.2.2 l r ((g4 l b' hh).1▸q1) q2
         ·exact t5.2 b hb
       ·rw [Lf] at hb
        rcases Az.1 hb with hb|hb
        ·exact t7 b hb
        ·obtain ⟨l,r,q1,q2⟩:=t6 b hb
         cases hh:Au st1.heap l with
         |none=>rw [(h1.1.heap l).emp hh] at q1;cases q1
         |some b'=>exact ⟨l,r,(h4 l b' hh).1▸q1,q2⟩
     ·cases he
    ·cases he
   ·cases he
  ·cases he
theorem jo (hT:Ed P T) {st:St} {a:Act} (h:Bk X π st a w) (dst:Nat) (t:TypeId) (len:Nat) (parts:Array (Nat×Operand)) (av:AV) (st':St)
  (he:Mq T st dst t len parts=some (av,st')):
  ∃v' w' π',(Instr.buildSlice t len (parts.map λ(i,x)=>(i,a.eval x))).run P w= .ok v' w'/\Bk X π' st' a w'/\Bs X w' π' st'.heap av v':=by
 unfold Mq at he
 split at he
 ·cases he
 ·rename_i te mb
  split at he
  ·cases he
  ·rename_i e Yy
   split at he
   ·rename_i Ju
    obtain ⟨l7,hlen⟩:=Ju
    split at he
    ·rename_i fr tr ys st1 hb
     simp only [Aa,Ae] at he
     obtain ⟨rfl,rfl⟩:=he
     obtain ⟨i,hi,Wn,sX,vC⟩:=(hT.ty te e Yy).info
     have hu:=hT.elem t te mb
     have XS:parts.toList.length=len:=by simpa using l7
     have hz: ∃z:Array Value,(len*e.size=0/\z= #[])\/(¬len*e.size=0/\(zeroValue te).run P w= .ok (Cf e (By e)) w/\z=(Cf e (By e)).cells):=by
      by_cases h0:len*e.size=0
      ·exact ⟨#[], .inl ⟨h0,rfl⟩⟩
      ·exact ⟨_, .inr ⟨h0,by simp [zeroValue,typeInfo,hi,vC],rfl⟩⟩
     obtain ⟨z,hz⟩:=hz
     obtain ⟨cY,cl,g1,g2,g3,g4,g5,g6⟩:=Ym e parts.toList 0 st π fr tr ys st1 ((Array.range (len*e.size)).map (z[· %z.size]!)).toList h hb (by simp [XS])
     have Ox:cl.length=len*e.size:=by rw [g2.1,g3,XS]
     have hsp:(Ea ((Array.range (len*e.size)).map (z[· %z.size]!)).toList (0*e.size) cl)=cl:=by
      simp [Ea,Ox]
     rw [hsp] at g5
     have Vl:(Instr.buildSlice t len (parts.map λ(i,x)=>(i,a.eval x))).run P w= .ok (.slice (some ⟨w.heap.size,0,none⟩) len len) (w.alloc (.cells cl.toArray te)):=by
      have h24: ¬(len*e.size>2^24):=by
       have:len*e.size<=64*64:=eD hlen.1 hlen.2.1
       omega
      simp only [Instr.buildSlice,Sem.run_bind,run_underlying hu,Result.andThen_ok,(hT.ty te e Yy).size,Ag h24]
      have e1:(parts.map λ(i,x)=>(i,a.eval x)).toList=parts.toList.map λp=>(p.1,a.eval p.2):=by simp
      simp only [e1]
      have e2:(((Array.range (len*e.size)).map (z[· %z.size]!)).toList.toArray)=(Array.range (len*e.size)).map (z[· %z.size]!):=Array.toArray_toList
      rw [e2] at g5
      rcases hz with ⟨h0,rfl⟩|⟨h0,hz,rfl⟩
      ·rw [Ab h0]
       simp only [Sem.run_bind,Sem.run_pure,Result.andThen_ok,g5,newRow]
       simp
      ·rw [Ag h0]
       simp only [Sem.run_bind,Sem.run_pure,Result.andThen_ok,hz,g5,newRow]
       simp
     have hN: ∃N:List Nat,(∀b∈N,(X.w0.heap.size<=b\/X.gv b)/\b<w.heap.size/\ ∀m r0,m≠dst->cY m=some r0-> ¬r0.cl b)/\(tr=true->N.Nodup/\ ∃Fs,List.flatten Fs=N/\Tq w e cl ys Fs):=by
      cases tr with
      |false=>exact ⟨[],by simp,λh=>by cases h⟩
      |true=>
       obtain ⟨Fs,t1,t2,_⟩:=g6 rfl
       exact ⟨_,λb hb=>⟨(t2.2 b hb).1,(t2.2 b hb).2.1,λm r0 _=>(t2.2 b hb).2.2 m r0⟩,λ_=>⟨t2.1,Fs,rfl,t1⟩⟩
     obtain ⟨N,q1,q2⟩:=hN
     have:=gw (w1:=w.alloc (.cells cl.toArray te)) g1 dst hlen.2.2 ((T.vg||e.flat)&&fr) (T.FN&&tr) e te ys cl cl.toArray len N (.inr rfl) (by simpa using Ox) (by simp only [maxLen];omega) (by omega) (λk u hu=>by simpa using hu) (g2.cells λes z hc=>hc.and_right) q1 (λht=>q2 (by simp only [Af] at ht;exact ht.2))
     exact ⟨_,_,_,Vl,this.1,this.2 _ (by omega)⟩
    ·cases he
   ·cases he
theorem mZ {t te:TypeId} {e:Ty} (h:eU T t=some (te,e)):T.elem t=some te/\T.ty te=some (.slice e):=by
 unfold eU at h
 cases he:T.elem t with
 |none=>rw [he] at h;cases h
 |some Rv=>
  rw [he] at h
  simp only [Ft] at h
  cases hg:T.UY Rv with
  |none=>rw [hg] at h;cases h
  |some e'=>
   rw [hg] at h
   simp only [Am,Aa,Ae] at h
   obtain ⟨rfl,rfl⟩:=h
   refine ⟨rfl,?_⟩
   unfold Tab.UY at hg
   split at hg
   ·split at hg
    ·rename_i Yy;simp only [Aa] at hg;subst hg;exact Yy
    ·cases hg
   ·cases hg
theorem nX (w:World) (o:Obj):He w.heap.size (λ_=>False) w (w.alloc o):=⟨rfl,rfl,rfl,by simp,λk hk _=>Below.heap_alloc w _ k hk⟩
theorem rI (w:World) (o:Obj):He w.heap.size (λ_=>False) w (w.drew.alloc o):=⟨rfl,rfl,rfl,by simp,λk hk _=>Below.heap_alloc w.drew _ k hk⟩
theorem sT (hT:Ed P T) {st:St} {a:Act} (h:Bk X π st a w) (dst:Nat) (t:TypeId) (l c:AV) (vl vc:Value) (hl:Bs X w π st.heap l vl) (hc:Bs X w π st.heap c vc) (av:AV) (st':St)
  (he:Yu T st dst t l c=some (av,st')): ∃v' w' π',(Instr.makeSlice t vl vc).run P w= .ok v' w'/\Bk X π' st' a w'/\Bs X w' π' st'.heap av v':=by
 unfold Yu at he
 split at he
 ·exact uV hT h dst t l c vl vc hl hc av st' he
 ·rename_i te e hg
  obtain ⟨mb,Yy⟩:=mZ hg
  split at he
  ·rename_i fr1 k1 n tR k2 m
   have:=Qo hl;subst this
   have:=Qo hc;subst this
   split at he
   ·rename_i Ju
    obtain ⟨h0,hnm,hdp⟩:=Ju
    obtain ⟨h1,h2⟩:=Uz.1 h0
    subst hnm
    simp only [Aa,Ae] at he
    obtain ⟨rfl,rfl⟩:=he
    obtain ⟨i,hi,Wn,sX,vC⟩:=(hT.ty te _ Yy).info
    have hu:=hT.elem t te mb
    have hn:n.toNat<=4294967296:=by unfold Cr at h2;omega
    have hr:=run_make (P:=P) (w:=w) t te i _ hu hi vC k1 k2 n n h1 (Oe _) (by
     have:(i.bytes:Int)*n<=256*4294967296:=by
      obtain ⟨nn,rfl⟩:=Rj h1
      have h7:i.bytes*nn<=256*4294967296:=eD sX (by simpa using hn)
      have h8:((i.bytes*nn:Nat):Int)<=256*4294967296:=by omega
      rwa [Int.natCast_mul] at h8
     omega) (by unfold Cr at h2;omega)
    have hzc:(Cf (Ty.slice e) (By (Ty.slice e))).cells= #[.slice none 0 0]:=by simp [Cf,Ty.Aq,By,Value.cells]
    have eY:(Ty.slice e).size=1:=rfl
    rw [hzc,Wn,eY] at hr
    have cell: ∀j,j<n.toNat->(madeCells #[Value.slice none 0 0] (n.toNat*1))[0+j]?=some (.slice none 0 0):=by
     intro j hj
     have:=VU (z:= #[Value.slice none 0 0]) (s:=1) (m:=n.toNat) (j:=j) (q:=0) rfl hj (by omega)
     simp only [Gd,Fk] at this
     simp only [Gd,Bo]
     rw [this];rfl
    obtain ⟨π',g1,g2⟩:=aw (w1:=w.alloc (.cells (madeCells #[Value.slice none 0 0] (n.toNat*1)) te)) (gv:= λ_=>False) h hdp hdp te (e:=e) (rows:=List.replicate n.toNat []) (us:=List.replicate n.toNat (.slice none 0 0)) (Rs:=List.replicate n.toNat none) (g:=w.heap.size) (o:=0) (cap:=n.toNat)
     (λ_ hf=>hf.elim) (nX w _) ⟨.inl (Ao _),by simp⟩ (heap_alloc_new w _) (by rw [size_madeCells];omega) (by unfold maxLen;omega) (by simp) (λj u hu=>by
      have hj:=(An.1 hu).1
      simp only [Gg] at hj
      rw [cell j hj,Fy (Bv hu)])
     ⟨by simp,by simp,λi j q q' h1=>(by have:=Fy (Bv h1);cases this),λi x hx=>by
      have hj:=(An.1 hx).1
      simp only [Gg] at hj
      rw [Fy (Bv hx)]
      exact ⟨.slice none 0 0,none,by rw [Zy,Ab hj],by rw [Zy,Ab hj],⟨rfl,rfl,rfl⟩,rfl⟩⟩
     (λi q h1=>by have:=Fy (Bv h1);cases this)
    exact ⟨_,_,π',hr,g1,g2 _ (by simp)⟩
   ·cases he
  ·cases he
theorem iM (hT:Ed P T) {st:St} {a:Act} (h:Bk X π st a w) (dst:Nat) (t:TypeId) (len:Nat) (parts:Array (Nat×Operand)) (av:AV) (st':St)
  (he:Jg T st dst t len parts=some (av,st')):
  ∃v' w' π',(Instr.buildSlice t len (parts.map λ(i,x)=>(i,a.eval x))).run P w= .ok v' w'/\Bk X π' st' a w'/\Bs X w' π' st'.heap av v':=by
 unfold Jg at he
 split at he
 ·exact jo hT h dst t len parts av st' he
 ·rename_i te e hg
  obtain ⟨mb,Yy⟩:=mZ hg
  split at he
  rotate_left
  ·cases he
  rename_i x Amb
  split at he
  rotate_left
  ·cases he
  rename_i m off ln hx
  split at he
  rotate_left
  ·cases he
  rename_i fr tr e' tid xs hm
  split at he
  rotate_left
  ·cases he
  rename_i hc
  obtain ⟨rfl,hc,rfl,rfl⟩:=hc
  simp only [Af,Nm] at hc
  obtain ⟨hlen,hdp,hmp⟩:=hc
  have hlen:len=1:=Jr hlen
  subst hlen
  simp only [Aa,Ae] at he
  obtain ⟨rfl,rfl⟩:=he
  have hu:=hT.elem t te mb
  unfold St.at at hm
  have IV:=Dy h.2 x
  rw [hx] at IV
  obtain ⟨_,xC⟩:=Oy (X:=X) (w:=w) IV hm
  obtain ⟨ax,nx,cx,hvx⟩:=bJ xC
  have hp:parts= #[(0,x)]:=by apply Po;simpa using Amb
  subst hp
  obtain ⟨i,hi,Wn,sX,vC⟩:=(hT.ty te _ Yy).info
  have Vl:(Instr.buildSlice t 1 (#[(0,x)].map λ(i,x)=>(i,a.eval x))).run P w= .ok (.slice (some ⟨w.heap.size,0,none⟩) 1 1) (w.alloc (.cells #[a.eval x] te)):=by
   have eY:(Ty.slice e').size=1:=rfl
   have hz:(zeroValue te).run P w= .ok (.slice none 0 0) w:=by simp [zeroValue,typeInfo,hi,vC,Cf,Ty.Aq,By]
   have hmp:(#[(0,x)].map λ(i,x)=>(i,a.eval x))= #[(0, .slice ax nx cx)]:=by simp [hvx]
   rw [hmp,hvx]
   simp only [Instr.buildSlice,Sem.run_bind,run_underlying hu,Result.andThen_ok,(hT.ty te _ Yy).size,eY]
   simp [Value.cells,Instr.fill,newRow,hz]
   congr 2
   apply Array.ext
   ·simp
   ·intro i h1 h2
    have h0:i=0:=by simpa using h2
    subst h0
    simp
  have OA:=(h.1.heap m).Qs hm
  simp only [Cm,Ke] at OA
  have hfa:Ts w (Dd X.w0.heap.size X.Sc π false) (π m) e' xs:=by
   cases hR:π m with
   |none=>rw [hR] at OA;exact OA
   |some q=>
    rw [hR] at OA
    obtain ⟨⟨f0,f0',_⟩,cu,ti',f2,f3,f4,f5,f6,_⟩:=OA
    exact ⟨⟨f0,f0'⟩,cu,ti',f2,f3,f4,f5,λp y hy=>by
     obtain ⟨es,g1,g2,g3⟩:=f6 p y hy
     exact ⟨es,g1,g2,Cells.Fg (Ao _) (λ_ _ _=>rfl) (λb _ hA=>hA.imp id (Or.imp id λ⟨h1,_⟩=>by cases h1)) e' es y g3⟩⟩
  obtain ⟨π',g1,g2⟩:=aw (w1:=w.alloc (.cells #[a.eval x] te)) (gv:= λ_=>False) h hdp hmp te (e:=e') (rows:= [xs]) (us:= [a.eval x]) (Rs:= [π m]) (g:=w.heap.size) (o:=0) (cap:=1)
   (λ_ hf=>hf.elim) (nX w _) ⟨.inl (Ao _),by simp⟩ (heap_alloc_new w _) rfl (by unfold maxLen;omega) (by simp) (λj u hu=>by
    rcases j with _|j
    ·simpa using hu
    ·simp at hu)
   ⟨rfl,rfl,λi j q q' h1 h2 _=>by
    rcases i with _|i
    ·rcases j with _|j
     ·rfl
     ·simp at h2
    ·simp at h1,λi y hy=>by
    rcases i with _|i
    ·simp only [Ca,Aa] at hy
     subst hy
     exact ⟨_,_,rfl,rfl,xC,hfa⟩
    ·simp at hy⟩
   (λi q h1=>by
    rcases i with _|i
    ·simp only [Ca,Aa] at h1
     have hf:=h.1.Cx h1
     have:=(h.1.place m q _ h1 (h.1.sub m q _ h1 hf)).2
     exact ⟨by omega,λh=>h,m,q, .inr rfl,h1,hf⟩
    ·simp at h1)
  exact ⟨_,_,π',Vl,g1,g2 1 rfl⟩
theorem oa (hT:Ed P T) {st:St} {a:Act} (h:Bk X π st a w) (dst:Nat) (t ty:TypeId) (x y:Operand) (av:AV) (st':St) (he:Sd T st dst t x y=some (av,st')):
  ∃v' w' π',(Builtin.append_ #[t,t] ty #[a.eval x,a.eval y]).run P w= .ok v' w'/\Bk X π' st' a w'/\Bs X w' π' st'.heap av v':=by
 unfold Sd at he
 split at he
 ·exact o9 hT h dst t ty x y av st' he
 ·rename_i te e hg
  obtain ⟨mb,Yy⟩:=mZ hg
  split at he
  rotate_left
  ·cases he
  rename_i l off len m Ae4 vV hx hy
  split at he
  rotate_left
  ·cases he
  rename_i e1 te1 A kp1 e2 yP B kp2 hl hm
  split at he
  rotate_left
  ·cases he
  rename_i hc
  obtain ⟨⟨rfl,rfl⟩,hc,⟨rfl,rfl⟩,⟨rfl,rfl⟩,hB,qv⟩:=hc
  simp only [Af,Nm,Nn,Ei] at hc
  obtain ⟨⟨rfl,rfl⟩,vG,hmp,lG⟩:=hc
  have lG:m≠l:= λe=>by rw [e,Nat.beq_refl] at lG;cases lG
  simp only [Aa,Ae] at he
  obtain ⟨rfl,rfl⟩:=he
  have hu:=hT.elem t yP mb
  obtain ⟨i,hi,Wn,sX,vC⟩:=(hT.ty yP _ Yy).info
  have Wn:i.size=1:=Wn
  unfold St.at at hl hm
  have IV:=Dy h.2 x
  have hry:=Dy h.2 y
  rw [hx] at IV;rw [hy] at hry
  obtain ⟨b1,s1,n1,q1,q2,_,hox⟩:=IV
  rw [hl] at q1;cases q1
  simp only [OB.row,Aa,Ae] at q2
  obtain ⟨rfl,rfl⟩:=q2
  obtain ⟨b2,s2,n2,q1,q2,_,hoy⟩:=hry
  rw [hm] at q1;cases q1
  simp only [OB.row,Aa,Ae] at q2
  obtain ⟨rfl,rfl⟩:=q2
  have hA:=((h.1.heap l).Qs hl).1
  have hBb:=((h.1.heap m).Qs hm).1
  cases hpm:π m with
  |none=>
   rw [hpm] at hBb
   have hBb:B= []:=hBb
   subst hBb;simp at hB
  |some rB=>
  rw [hpm] at hBb hoy
  obtain ⟨fB,Ba4,tiB,uB,RB,w1B,w2B,w3B,w4B,w5B,w6B,w7B,LB⟩:=zr hBb
  obtain ⟨adB,hvy,hcB,haB⟩:=hoy
  have haB:=haB (by omega)
  subst haB
  have hlB:=LB.1
  have n1':uB.length=B.length*i.size:=by rw [Wn,Gd];exact hlB
  have n2': ∀j u,uB[j]?=some u->w.cell? ((⟨rB.g,(rB.o+0)*1,none⟩:Addr).add j)=some u:= λj u hu=>by
   rw [Addr.add_lit,cellOf w1B,Gd,Fk];exact w5B j u hu
  have vu:(A.length+B.length)*i.bytes<=140737488355328:=by
   have:(A.length+B.length)*i.bytes<=4294967296*256:=eD qv sX
   omega
  have jF:A.length+B.length<=maxLen:=by unfold Cr at qv;simp only [maxLen];omega
  have hzs:(Cf (Ty.slice e2) (By (Ty.slice e2))).cells.size=1:=by simp [Cf,Ty.Aq,By,Value.cells]
  have Wy: ∀(k:Nat) (q:Real) (Rs:List (Option Real)),π k=some q->(∀(i:Nat) (p:Real),Rs[i]?=some (some p)->q.Cx p.g/\p.g≠q.g)-> ∀(i:Nat) (p:Real),Rs[i]?=some (some p)->p.g<w.heap.size:= λk q Rs h1 h2 i p h3=>
   (h.1.place k q _ h1 (h.1.sub k q _ h1 (h2 i p h3).1)).2
  cases l7:π l with
  |none=>
   rw [l7] at hA hox
   have hA:A= []:=hA
   subst hA
   obtain ⟨hvx,_,_⟩:=hox
   rw [hvx,hvy]
   simp only [Ex,Bo,j7] at qv vu jF⊢
   have hr:=run_append_nil (P:=P) w t ty yP i _ hu hi vC ⟨rB.g,(rB.o+0)*1,none⟩ B.length (rB.cap-0) uB n1' n2' hB (by simp only [maxLen] at jF;omega) (by omega)
   have pX:=grownCap_ge w B.length 0 yP
   have hcm:=grownCap_le_maxLen w B.length 0 yP (by omega)
   obtain ⟨π',g1,g2⟩:=aw (w1:=w.drew.alloc (.cells (uB.toArray++Builtin.zeroCells (Cf (Ty.slice e2) (By (Ty.slice e2))).cells (grownCap w B.length 0 yP-B.length)) yP)) (gv:= λ_=>False) h vG hmp yP (e:=e2) (rows:=B) (us:=uB) (Rs:=RB) (g:=w.heap.size) (o:=0) (cap:=grownCap w B.length 0 yP)
    (λ_ hf=>hf.elim) (rI w _) ⟨.inl (Ao _),by simp⟩ (heap_alloc_new w.drew _) (by rw [Array.size_append,Gw,Ve,hzs];omega) hcm pX (λj u hu=>by
     have hj:=(An.1 hu).1
     rw [Bo,Uh (by simpa using hj)];simpa using hu)
    LB (λi q h1=>⟨by have:=Wy m rB RB hpm w7B i q h1;omega,λh=>h,m,rB, .inr rfl,hpm,(w7B i q h1).1⟩)
   exact ⟨_,_,π',hr,g1,g2 _ rfl⟩
  |some rA=>
   rw [l7] at hA hox
   obtain ⟨fA,XF,tiA,uA,RA,w1A,w2A,w3A,w4A,w5A,w6A,w7A,LA⟩:=zr hA
   obtain ⟨adA,hvx,hcA,haA⟩:=hox
   have hlA:=LA.1
   rw [hvx,hvy]
   have apart: ∀(i j:Nat) (q q':Real),RA[i]?=some (some q)->RB[j]?=some (some q')->q.g≠q'.g:= λi j q q' h1 h2 e=>by
    have:=h.1.apart l7 hpm (w7A i q h1).1 (e▸(w7B j q' h2).1)
    exact lG this.symm
   have LAB:=ui.append LA LB apart
   have Ih: ∀(i:Nat) (q:Real),RB[i]?=some (some q)->q.g≠rA.g:= λi q h1 e=>lG (h.1.apart hpm l7 (w7B i q h1).1 (e▸fA))
   have hRs: ∀(i:Nat) (q:Real),(RA++RB)[i]?=some (some q)->q.g≠rA.g/\q.g<w.heap.size/\ ∃k p,(k=l\/k=m)/\π k=some p/\p.Cx q.g:= λi q h1=>by
    by_cases hi:i<RA.length
    ·rw [At hi] at h1
     exact ⟨(w7A i q h1).2,Wy l rA RA l7 w7A i q h1,l,rA, .inl rfl,l7,(w7A i q h1).1⟩
    ·rw [As (by omega)] at h1
     exact ⟨Ih _ q h1,Wy m rB RB hpm w7B _ q h1,m,rB, .inr rfl,hpm,(w7B _ q h1).1⟩
   by_cases rY:A.length+B.length<=rA.cap-0
   ·have haA:=haA (by omega)
    subst haA
    have Yw:(rA.o+0)*1+A.length*i.size+uB.length<=XF.size:=by rw [Wn];omega
    have az:(rA.o+0)*1+A.length*i.size+uB.length<=XF.toList.length:=by simpa using Yw
    have hr:=bq (P:=P) (w:=w) (ty:=ty) hu hi rA.g ((rA.o+0)*1) A.length (rA.cap-0) XF tiA w1A ⟨rB.g,(rB.o+0)*1,none⟩ B.length (rB.cap-0) uB n1' n2' w6B rY Yw
    have vA:=Nw w rA.g (Ea XF.toList ((rA.o+0)*1+A.length*i.size) uB).toArray
    obtain ⟨π',g1,g2⟩:=aw (w1:=w.setRow rA.g (Ea XF.toList ((rA.o+0)*1+A.length*i.size) uB).toArray) (gv:= λb=>b=rA.g) h vG hmp yP (e:=e2) (rows:=A++B) (us:=uA++uB) (Rs:=RA++RB) (g:=rA.g) (o:=rA.o) (cap:=rA.cap)
     (λb hb=>⟨l,rA, .inl rfl,l7,hb▸fA⟩) ⟨vA.os,vA.tape,vA.output,vA.size,λc _ hc=>setRow_other w rA.g c _ hc⟩ ⟨.inr ⟨l,rA, .inl rfl,l7,fA⟩,Dk (Fw w1A) vA.size⟩
     (setRow_heap w rA.g XF _ tiA _ w1A) (by rw [Gw,Jb _ _ _ az,Nt];exact w2A) w3A (by simp;omega) (λj u hu=>by
      rw [Im,Ik _ _ _ _ az,Wn]
      by_cases hj:j<uA.length
      ·rw [At hj] at hu
       rw [Ab (by omega),Array.getElem?_toList]
       exact w5A j u hu
      ·rw [As (by omega)] at hu
       have:=(An.1 hu).1
       rw [Ag (by omega),Ab (by omega)]
       rw [show rA.o+j-((rA.o+0)*1+A.length*1)=j-uA.length by omega]
       exact hu)
     LAB (λi q h1=>⟨(hRs i q h1).1,(hRs i q h1).1,(hRs i q h1).2.2⟩)
    have:=g2 (A.length+B.length) (by simp)
    have e0:(rA.o+0)*1=rA.o:=by omega
    simp only [e0,Nat.sub_zero] at hr g1 this⊢
    exact ⟨_,_,π',hr,g1,this⟩
   ·have hold: ∀j u,uA[j]?=some u->w.cell? (adA.add j)=some u:=by
     intro j u hu
     have hj:=(An.1 hu).1
     rw [haA (by omega),Addr.add_lit,cellOf w1A,Gd,Fk];exact w5A j u hu
    have hr:=run_append_grow (P:=P) w t ty yP i _ hu hi vC adA A.length (rA.cap-0) uA (by rw [Wn,Gd];exact hlA) hold ⟨rB.g,(rB.o+0)*1,none⟩ B.length (rB.cap-0) uB n1' n2' (by omega) (by simp only [maxLen] at jF;omega) (growslice_fits (by omega) vu)
    have pX:=grownCap_ge w (A.length+B.length) (rA.cap-0) yP
    have hcm:=grownCap_le_maxLen w (A.length+B.length) (rA.cap-0) yP jF
    obtain ⟨π',g1,g2⟩:=aw (w1:=w.drew.alloc (.cells (uA.toArray++uB.toArray++Builtin.zeroCells (Cf (Ty.slice e2) (By (Ty.slice e2))).cells (grownCap w (A.length+B.length) (rA.cap-0) yP-(A.length+B.length))) yP)) (gv:= λ_=>False) h vG hmp yP (e:=e2) (rows:=A++B) (us:=uA++uB) (Rs:=RA++RB) (g:=w.heap.size) (o:=0) (cap:=grownCap w (A.length+B.length) (rA.cap-0) yP)
     (λ_ hf=>hf.elim) (rI w _) ⟨.inl (Ao _),by simp⟩ (heap_alloc_new w.drew _) (by rw [Array.size_append,Array.size_append,Gw,Gw,Ve,hzs];omega) hcm (by simpa using pX) (λj u hu=>by
      have hj:=(An.1 hu).1
      rw [Bo,Uh (by simpa using hj)];simpa using hu)
     LAB (λi q h1=>⟨by have:=(hRs i q h1).2.1;omega,λh=>h,(hRs i q h1).2.2⟩)
    exact ⟨_,_,π',hr,g1,g2 _ (by simp)⟩
theorem mK: ∀τ:Ty,Fv X w π H (zeroCells τ) (By τ):=by
 have one: ∀(c:AC) (v:Value),v.oneCell'=true->Hk X w π H c v->Fv X w π H [c] [v]:= λc v h1 h2=>⟨rfl,λi c' hc=>by
  rcases i with _|i
  ·simp at hc;subst hc;exact ⟨v,rfl,h1,h2⟩
  ·simp at hc⟩
 intro τ
 induction τ with
 |unit=>exact ⟨rfl,λi c hc=>by simp [zeroCells] at hc⟩
 |pair a r iX iR=>
  refine ⟨by simp [zeroCells,By,iX.1,iR.1],λi c hc=>?_⟩
  simp only [zeroCells] at hc
  simp only [By]
  by_cases hi:i<(zeroCells a).length
  ·rw [At hi] at hc
   obtain ⟨u,hu,h⟩:=iX.2 i c hc
   exact ⟨u,by rw [At (by rw [iX.1];exact hi)];exact hu,h⟩
  ·rw [As (by omega)] at hc
   obtain ⟨u,hu,h⟩:=iR.2 _ c hc
   exact ⟨u,by rw [As (by rw [iX.1];omega),iX.1];exact hu,h⟩
 |int k=>exact one (.data true _ _) _ rfl (Ni (H:=H) k 0 true)
 |bool=>exact one (.data true _ _) _ rfl (Mc (H:=H) false true)
 |str=>exact one (.data true _ _) _ rfl (nu (H:=H) ByteArray.empty true)
 |slice e=>exact one _ _ rfl rfl
 |oslice e=>exact one _ _ rfl rfl
 |ptr e=>exact one _ _ rfl rfl
 |optr e=>exact one _ _ rfl rfl
 |smap v=>exact one (.data true _ _) _ rfl ⟨[.map none], .inl ⟨rfl,rfl⟩,by simp [Cf,Ty.Aq]⟩
 |clo f c=>exact one .undef .nilFunc rfl trivial
theorem MW (t:Ty) (c:AC) (v:Value) (h:Hk X w π H c v):Hk X w π H (ug t c) v:=by
 unfold ug
 split
 ·split
  ·exact h
  ·have h:v= .slice none 0 0:=h
   subst h
   exact ⟨[.slice none 0 0],⟨none,0,0,rfl,rfl,Ao _, .inl rfl⟩,by simp [Cf,Ty.Aq]⟩
 ·have h:v= .pointer none:=h
  subst h
  exact ⟨[.pointer none], .inl ⟨rfl,rfl⟩,by simp [Cf,Ty.Aq]⟩
 ·exact h
theorem pQ: ∀(ts:List Ty) (cs:List AC),(aQ ts cs).length=cs.length
 | [],_=>rfl
 |_::_,[]=>rfl
 |t::ts,c::cs=>by simp [aQ,pQ ts cs]
theorem sK: ∀(ts:List Ty) (cs:List AC) (i:Nat) (c:AC),(aQ ts cs)[i]?=some c-> ∃c0,cs[i]?=some c0/\(c=c0\/ ∃t,c=ug t c0)
 | [],_,_,c,h=>⟨c,h, .inl rfl⟩
 |_::_,[],_,c,h=>⟨c,h, .inl rfl⟩
 |t::ts,c0::cs,0,c,h=>⟨c0,rfl, .inr ⟨t,by simpa [aQ] using h.symm⟩⟩
 |t::ts,c0::cs,i+1,c,h=>by
  obtain ⟨c1,h1,h2⟩:=sK ts cs i c (by simpa [aQ] using h)
  exact ⟨c1,by simpa using h1,h2⟩
theorem FO (ts:List Ty) {cs:List AC} {us:List Value} (h:Fv X w π H cs us):Fv X w π H (aQ ts cs) us:=by
 refine ⟨by rw [pQ];exact h.1,λi c hc=>?_⟩
 obtain ⟨c0,h1,h2⟩:=sK ts cs i c hc
 obtain ⟨u,h3,h4,h5⟩:=h.2 i c0 h1
 refine ⟨u,h3,h4,?_⟩
 rcases h2 with rfl|⟨t,rfl⟩
 ·exact h5
 ·exact MW t _ _ h5
theorem xz: ∀τ:Ty,Fv X w π H (Qq τ) (By τ):=by
 have one: ∀(c:AC) (v:Value),v.oneCell'=true->Hk X w π H c v->Fv X w π H [c] [v]:= λc v h1 h2=>⟨rfl,λi c' hc=>by
  rcases i with _|i
  ·simp at hc;subst hc;exact ⟨v,rfl,h1,h2⟩
  ·simp at hc⟩
 intro τ
 induction τ with
 |unit=>exact ⟨rfl,λi c hc=>by simp [Qq] at hc⟩
 |pair a r iX iR=>
  refine ⟨by simp [Qq,By,iX.1,iR.1],λi c hc=>?_⟩
  simp only [Qq] at hc
  simp only [By]
  by_cases hi:i<(Qq a).length
  ·rw [At hi] at hc
   obtain ⟨u,hu,h⟩:=iX.2 i c hc
   exact ⟨u,by rw [At (by rw [iX.1];exact hi)];exact hu,h⟩
  ·rw [As (by omega)] at hc
   obtain ⟨u,hu,h⟩:=iR.2 _ c hc
   exact ⟨u,by rw [As (by rw [iX.1];omega),iX.1];exact hu,h⟩
 |int k=>exact one (.data false _ _) _ rfl (Ni (H:=H) k 0 false)
 |bool=>exact one (.data false _ _) _ rfl (Mc (H:=H) false false)
 |str=>exact one (.data false _ _) _ rfl (nu (H:=H) ByteArray.empty false)
 |slice e=>exact one (.data false _ _) _ rfl ⟨[.slice none 0 0],⟨none,0,0,rfl,rfl,Ao _, .inl rfl⟩,by simp [Cf,Ty.Aq]⟩
 |oslice e=>exact one _ _ rfl rfl
 |ptr e=>exact one _ _ rfl rfl
 |optr e=>exact one _ _ rfl rfl
 |smap v=>exact one (.data false _ _) _ rfl ⟨[.map none], .inl ⟨rfl,rfl⟩,by simp [Cf,Ty.Aq]⟩
 |clo f c=>exact one .undef .nilFunc rfl trivial
theorem eH (hT:Ed P T) {st:St} {a:Act} (h:Bk X π st a w) (t:TypeId) (Md:Array (Nat×Nat))
  (l7: ∀f o u ρ,T.off t f=some (o,u)->T.ty u=some ρ->Md[f]?=some (o,ρ.size)): ∀(parts:List (Nat×Operand)) (cs jl:List AC) (us:List Value),Fv X w π st.heap cs us->
  Mp T st t parts cs=some jl-> ∃Rw:List Value,Instr.fill (λi=>Md[i]?) us.toArray (parts.map λp=>(p.1,a.eval p.2))=some Rw.toArray/\Fv X w π st.heap jl Rw
 | [],cs,jl,us,hr,he=>by
  simp only [Mp,Aa] at he;subst he
  exact ⟨us,rfl,hr⟩
 |(f,x)::r,cs,jl,us,hr,he=>by
  simp only [Mp] at he
  split at he
  ·rename_i o u ho
   split at he
   ·rename_i ρ hρ
    split at he
    ·rename_i c hc
     split at he
     ·rename_i hle
      obtain ⟨vs,hv,hl,hr2⟩:=je (Dy h.2 x) hc
      have e1:=hr.1
      have e2:=hr2.1
      obtain ⟨Rw,g1,g2⟩:=eH hT h t Md l7 r _ jl _ (xb hr hr2 o hle) he
      refine ⟨Rw,?_,g2⟩
      simp only [Ce]
      rw [zn _ us f (a.eval x) _ o ρ.size vs (l7 f o u ρ ho hρ) hv hl (by omega)]
      exact g1
     ·cases he
    ·cases he
   ·cases he
  ·cases he
theorem ik (hT:Ed P T) {st:St} {a:Act} (h:Bk X π st a w) (t:TypeId) (parts:Array (Nat×Operand)) (av:AV) (he:Yr T st t parts=some av):
  ∃v',(Instr.build t (parts.map λ(i,x)=>(i,a.eval x))).run P w= .ok v' w/\Bs X w π st.heap av v':=by
 unfold Yr at he
 split at he
 ·cases he
 ·rename_i τ Yy
  split at he
  ·rename_i hs
   cases hb:Mp T st t parts.toList (zeroCells τ) with
   |none=>rw [hb] at he;cases he
   |some jl=>
    rw [hb] at he
    simp only [Am,Aa] at he;subst he
    obtain ⟨fs,Md,h1,h2,h3⟩:=hT.fill t τ Yy hs
    obtain ⟨i,hi,Wn,sX,vC⟩:=(hT.ty t τ Yy).info
    obtain ⟨Rw,g1,g2⟩:=eH hT h t Md h3 parts.toList (zeroCells τ) jl (By τ) (mK τ) hb
    refine ⟨.agg Rw.toArray,?_,Rw,rfl,g2⟩
    have hz:(zeroValue t).run P w= .ok (Cf τ (By τ)) w:=by simp [zeroValue,typeInfo,hi,vC]
    have hzc:(Cf τ (By τ)).cells=(By τ).toArray:=by simp [Cf,hs,Value.cells]
    have h2':=h2 w
    unfold placesOf at h2'
    have e1:(parts.map λ(i,x)=>(i,a.eval x)).toList=parts.toList.map λp=>(p.1,a.eval p.2):=by simp
    simp only [Instr.build,Sem.run_bind,hz,Result.andThen_ok,run_underlying h1,h2',hzc,e1,g1,Sem.run_pure]
  ·cases he
theorem wK {st:St} {v:AV} (h:v.settled=true):settle st v=some (v,st):=by
 cases v with
 | «at»a=>cases a<;>simp [AV.settled,AC.settled] at h<;>simp [settle,AC.settled]
 |agg cs=>
  have hs:cs.all (·.settled)=true:=h
  have:Ht cs.length st cs=some (cs,st):=by
   cases hn:cs.length with
   |zero=>simp [Ht,hs]
   |succ n=>
    have hf:cs.find? (λc=>!c.settled)=none:=List.find?_eq_none.2 λc hc=>by simpa using Bc.1 hs c hc
    simp [Ht,hf]
  simp [settle,this]
 |cf fr τ x=>rfl
 |Mn l=>simp [AV.settled] at h
theorem p8 {e:Ty} {st:St} : ∀(parts:List (Nat×Operand)) (i:Nat) (fr:Bool) (ys:List e.den),gy e i parts st=some (fr,ys)-> ∃tr,Ll e i parts st=some (fr,tr,ys,st)
 | [],i,fr,ys,h=>by
  simp only [gy,Aa,Ae] at h
  obtain ⟨rfl,rfl⟩:=h
  exact ⟨true,rfl⟩
 |(j,x)::r,i,fr,ys,h=>by
  simp only [gy] at h
  split at h
  ·rename_i hc
   split at h
   ·rename_i f1 y f2 zs h1 h2
    simp only [Aa,Ae] at h
    obtain ⟨rfl,rfl⟩:=h
    obtain ⟨tr,h3⟩:=p8 r (i+1) f2 zs h2
    refine ⟨Ug st (st.ev x)&&e.tree&&tr,?_⟩
    simp only [Ll]
    rw [Ab hc.1,wK hc.2]
    simp only [h1,h3]
   ·cases h
  ·cases h
theorem qh (hT:Ed P T) {st:St} {a:Act} (h:Bk X π st a w) (t:TypeId) (len:Nat) (parts:Array (Nat×Operand)) (av:AV) (he:cv T st t len parts=some av):
  ∃v' w' π',(Instr.buildSlice t len (parts.map λ(i,x)=>(i,a.eval x))).run P w= .ok v' w'/\Bk X π' st a w'/\Bs X w' π' st.heap av v':=by
 unfold cv at he
 split at he
 ·cases he
 ·rename_i te mb
  split at he
  ·cases he
  ·rename_i e Yy
   split at he
   ·rename_i Ju
    obtain ⟨l7,hlen⟩:=Ju
    cases hp:gy e 0 parts.toList st with
    |none=>rw [hp] at he;cases he
    |some p=>
     obtain ⟨fr,ys⟩:=p
     rw [hp] at he
     simp only [Am,Aa] at he
     subst he
     obtain ⟨tr,hb⟩:=p8 _ _ _ _ hp
     obtain ⟨i,hi,Wn,sX,vC⟩:=(hT.ty te e Yy).info
     have hu:=hT.elem t te mb
     have XS:parts.toList.length=len:=by simpa using l7
     have hz: ∃z:Array Value,(len*e.size=0/\z= #[])\/(¬len*e.size=0/\(zeroValue te).run P w= .ok (Cf e (By e)) w/\z=(Cf e (By e)).cells):=by
      by_cases h0:len*e.size=0
      ·exact ⟨#[], .inl ⟨h0,rfl⟩⟩
      ·exact ⟨_, .inr ⟨h0,by simp [zeroValue,typeInfo,hi,vC],rfl⟩⟩
     obtain ⟨z,hz⟩:=hz
     obtain ⟨cY,cl,g1,g2,g3,g4,g5,g6⟩:=Ym e parts.toList 0 st π fr tr ys st ((Array.range (len*e.size)).map (z[· %z.size]!)).toList h hb (by simp [XS])
     have Ox:cl.length=len*e.size:=by rw [g2.1,g3,XS]
     have hsp:(Ea ((Array.range (len*e.size)).map (z[· %z.size]!)).toList (0*e.size) cl)=cl:=by
      simp [Ea,Ox]
     rw [hsp] at g5
     have Vl:(Instr.buildSlice t len (parts.map λ(i,x)=>(i,a.eval x))).run P w= .ok (.slice (some ⟨w.heap.size,0,none⟩) len len) (w.alloc (.cells cl.toArray te)):=by
      have h24: ¬(len*e.size>2^24):=by
       have:len*e.size<=64*64:=eD hlen.1 hlen.2
       omega
      simp only [Instr.buildSlice,Sem.run_bind,run_underlying hu,Result.andThen_ok,(hT.ty te e Yy).size,Ag h24]
      have e1:(parts.map λ(i,x)=>(i,a.eval x)).toList=parts.toList.map λp=>(p.1,a.eval p.2):=by simp
      simp only [e1]
      have e2:(((Array.range (len*e.size)).map (z[· %z.size]!)).toList.toArray)=(Array.range (len*e.size)).map (z[· %z.size]!):=Array.toArray_toList
      rw [e2] at g5
      rcases hz with ⟨h0,rfl⟩|⟨h0,hz,rfl⟩
      ·rw [Ab h0]
       simp only [Sem.run_bind,Sem.run_pure,Result.andThen_ok,g5,newRow]
       simp
      ·rw [Ag h0]
       simp only [Sem.run_bind,Sem.run_pure,Result.andThen_ok,hz,g5,newRow]
       simp
     have PT:(w.alloc (.cells cl.toArray te)).heap[w.heap.size]?=some (.cells cl.toArray te (0,0)):=heap_alloc_new w _
     have hB:Below w.heap.size w (w.alloc (.cells cl.toArray te)):=(Below.refl _ _).alloc (Ao _) _
     have Iz:=Fw PT
     refine ⟨_,_,cY,Vl,g1.quiet hB,⟨[_],?_,rfl⟩⟩
     refine ⟨some ⟨w.heap.size,0,none⟩,len,len,rfl,by rw [g3,XS],Ao _, .inr ⟨w.heap.size,0,rfl,Iz,λhA=>?_,λk x hx=>?_⟩⟩
     ·rcases hA with hA|hA|⟨_,hA⟩
      ·exact absurd (g1.1.own hA).1 (Nat.lt_irrefl _)
      ·exact absurd (Dk (g1.1.sc _ hA).1 g1.1.below.size) (Nat.lt_irrefl _)
      ·exact absurd (Dk hA g1.1.below.size) (Nat.lt_irrefl _)
     ·obtain ⟨es,k1,k2,k3⟩:=g2.2 k x hx
      refine ⟨es,k1,λj u hu=>?_,Cells.Fg hB.size (λb hb _=>hB.block b hb) (λ_ _ h=>h) e es x k3⟩
      rw [cellOf PT,Bo]
      simpa using k2 j u hu
   ·cases he
theorem HR {Γ:Env} (hT:Ed P T) (Ph:Kk P Γ) {st:St} {a:Act} (h:Bk X π st a w) (o:Oper) (av:AV) (he:Ye T Γ st o=some av):
  j4 P X st a w av ((execOp a.eval o).run P w):=by
 obtain ⟨dst,op,ty,pos,af,gd⟩:=o
 have val: ∀(s:Sem Value) (v:Value) (w':World) (π':Pi),s.run P w= .ok v w'->Bk X π' st a w'->Bs X w' π' st.heap av v->(execOp a.eval ⟨dst,op,ty,pos,af,gd⟩=do pure (.value (<-s)))->
   j4 P X st a w av ((execOp a.eval ⟨dst,op,ty,pos,af,gd⟩).run P w):=by
  intro s v w' π' h1 h2 h3 h4
  rw [h4,Sem.run_bind,h1]
  exact ⟨π',h2,h3⟩
 have quiet:Fl T Γ st ⟨dst,op,ty,pos,af,gd⟩=some av->j4 P X st a w av ((execOp a.eval ⟨dst,op,ty,pos,af,gd⟩).run P w):=by
  intro hq
  have:=jr hT Ph h _ av hq
  generalize (execOp a.eval ⟨dst,op,ty,pos,af,gd⟩).run P w=r at*
  cases r with
  |halt x w'=>exact this
  |ok n w'=>
   cases n<;>simp only [UF] at this<;>simp only [j4]
   ·obtain ⟨rfl,hr⟩:=this
    exact ⟨π,h,hr⟩
   ·obtain ⟨rfl,hc⟩:=this
    exact ⟨rfl,hc.mono λe sM ⟨v,hv,hb,hr⟩=>⟨v,hv,π,h.quiet hb,hr⟩⟩
 unfold Ye at he
 split at he
 ·rename_i t len parts tV
  dsimp only at tV;subst tV
  obtain ⟨v,w',π',h1,h2,h3⟩:=qh hT h t len parts av he
  exact val _ v w' π' h1 h2 h3 rfl
 ·rename_i t parts tV
  dsimp only at tV;subst tV
  obtain ⟨v',h1,h2⟩:=ik hT h t parts av he
  exact val _ v' w π h1 h h2 rfl
 ·exact quiet he
theorem ew {a:Act} : ∀(l:List Operand) {π:Pi} {st st1:St},Bk X π st a w->Ns l st=some st1-> ∃π',Bk X π' st1 a w
 | [],π,st,st1,h,he=>by
  simp only [Ns,Aa] at he
  subst he
  exact ⟨π,h⟩
 |x::r,π,st,st1,h,he=>by
  simp only [Ns] at he
  cases hs:settle st (st.ev x) with
  |none=>rw [hs] at he;cases he
  |some p=>
   rw [hs] at he
   obtain ⟨cY,h1,_⟩:=cP h (Dy h.2 x) hs
   exact ew r h1 he
theorem MI {a:Act} {st:St} (h:Bk X π st a w) (p x:Operand): ∃π',Bk X π' (Oz T st p x) a w:=by
 unfold Oz
 split
 ·split
  ·split
   ·rename_i hs;exact ew _ h hs
   ·exact ⟨π,h⟩
  ·exact ⟨π,h⟩
 ·exact ⟨π,h⟩
theorem BX {Γ:Env} (hT:Ed P T) (Ph:Kk P Γ) {st:St} {a:Act} (h:Bk X π st a w) (o:Oper) (av:AV) (st':St) (he:evalOp T Γ st o=some (av,st')):
  j4 P X st' a w av ((execOp a.eval o).run P w):=by
 have quiet: ∀ {π:Pi} {st:St},Bk X π st a w->(Fl T Γ st o).map (λv=>(v,st))=some (av,st')->j4 P X st' a w av ((execOp a.eval o).run P w):=by
  intro π st h he
  cases hq:Fl T Γ st o with
  |none=>rw [hq] at he;cases he
  |some v=>
   rw [hq] at he
   simp only [Am,Aa,Ae] at he
   obtain ⟨rfl,rfl⟩:=he
   have:=jr hT Ph h o v hq
   generalize (execOp a.eval o).run P w=r at*
   cases r with
   |halt x w'=>exact this
   |ok n w'=>
    cases n<;>simp only [UF] at this<;>simp only [j4]
    ·obtain ⟨rfl,hr⟩:=this
     exact ⟨π,h,hr⟩
    ·obtain ⟨rfl,hc⟩:=this
     exact ⟨rfl,hc.mono λe sM ⟨v,hv,hb,hr⟩=>⟨v,hv,π,h.quiet hb,hr⟩⟩
 obtain ⟨dst,op,ty,pos,af,gd⟩:=o
 have val: ∀(s:Sem Value) (v:Value) (w':World) (π':Pi),s.run P w= .ok v w'->Bk X π' st' a w'->Bs X w' π' st'.heap av v->(execOp a.eval ⟨dst,op,ty,pos,af,gd⟩=do pure (.value (<-s)))->
   j4 P X st' a w av ((execOp a.eval ⟨dst,op,ty,pos,af,gd⟩).run P w):=by
  intro s v w' π' h1 h2 h3 h4
  rw [h4,Sem.run_bind,h1]
  exact ⟨π',h2,h3⟩
 unfold evalOp at he
 split at he
 all_goals (rename_i tV;dsimp only at tV;try subst tV)
 ·
  rename_i x
  split at he
  ·rename_i d te e hx hd ht
   split at he
   ·rename_i hdp
    simp only [Aa,Ae] at he
    obtain ⟨rfl,rfl⟩:=he
    obtain ⟨k1,k2,_⟩:=w7 h d hdp (T.vg||e.flat) T.FN te e
    have hxr:=Dy h.2 x
    rw [hx] at hxr
    have hxv:a.eval x= .slice none 0 0:=hxr
    show j4 P X _ a w _ (.ok (.value (a.eval x)) w)
    rw [hxv]
    exact ⟨_,k1,k2⟩
   ·cases he
  ·simp only [Aa,Ae] at he
   obtain ⟨rfl,rfl⟩:=he
   exact ⟨π,h,Dy h.2 x⟩
 ·
  rename_i t
  split at he
  ·rename_i d τ hd ht
   obtain ⟨i,hi,Wn,sX,vC⟩:=(hT.ty t τ ht).info
   have hk: ∃π',Bk X π' st' a (w.alloc (.cells (By τ).toArray t))/\Bs X (w.alloc (.cells (By τ).toArray t)) π' st'.heap av (.pointer (some ⟨w.heap.size,0,none⟩)):=by
    split at he
    ·exact DI h d t (Qq τ) (By τ) (xz τ) av st' he
    ·exact jR h d t τ (zeroCells τ) (By τ) (mK τ) av st' he
   obtain ⟨π',k1,k2⟩:=hk
   have hzc:(Cf τ (By τ)).cells=(By τ).toArray:=by
    cases τ<;>simp [Cf,Ty.Aq,Value.cells,By]
   refine val (Instr.alloc t true (.tuple #[])) _ _ π' ?_ k1 k2 rfl
   simp [Instr.alloc,zeroValue,typeInfo,hi,vC,newVar,newRow,hzc]
  ·cases he
 ·
  rename_i t x
  split at he
  ·rename_i d τ hd ht
   split at he
   ·rename_i cs hc
    obtain ⟨us,hv,hl,hr⟩:=je (Dy h.2 x) hc
    have hk: ∃π',Bk X π' st' a (w.alloc (.cells us.toArray t))/\Bs X (w.alloc (.cells us.toArray t)) π' st'.heap av (.pointer (some ⟨w.heap.size,0,none⟩)):=by
     split at he
     ·split at he
      ·rename_i Uk
       cases hvc:Ff st τ cs with
       |none=>rw [hvc] at he;cases he
       |some p=>
        obtain ⟨fr,y⟩:=p
        rw [hvc] at he
        simp only [Am,Aa,Ae] at he
        obtain ⟨rfl,rfl⟩:=he
        have Ox:=Xu τ cs us fr y Uk hr hvc
        have hB:Below w.heap.size w (w.alloc (.cells us.toArray t)):=(Below.refl _ _).alloc (Ao _) _
        have PT:(w.alloc (.cells us.toArray t)).heap[w.heap.size]?=some (.cells us.toArray t (0,0)):=heap_alloc_new w _
        refine ⟨π,h.quiet hB,[_], .inr ⟨y,w.heap.size,0,rfl,rfl,Fw PT,λhA=>?_,us,hl,λj u hu=>?_,Cells.Fg hB.size (λb hb _=>hB.block b hb) (λb _ hA=>?_) τ us y Ox⟩,by simp [Cf,Ty.Aq]⟩
        ·rcases hA with hA|hA|⟨hf,_⟩
         ·exact absurd (h.1.own hA).1 (Nat.lt_irrefl _)
         ·exact absurd (Dk (h.1.sc _ hA).1 h.1.below.size) (Nat.lt_irrefl _)
         ·cases hf
        ·rw [cellOf PT,Bo];simpa using hu
        ·exact hA.imp id (Or.imp id λ⟨h1,_⟩=>by cases h1)
      ·cases he
     ·split at he
      ·exact jR h d t τ _ us (FO _ hr) av st' he
      ·exact jR h d t τ cs us hr av st' he
    obtain ⟨π',k1,k2⟩:=hk
    refine val (Instr.box t (a.eval x)) _ _ π' ?_ k1 k2 rfl
    simp [Instr.box,newVar,newRow,hv]
   ·cases he
  ·cases he
 ·
  rename_i t p x
  obtain ⟨π0,h⟩:=MI (T:=T) h p x
  cases hs:Qf T (Oz T st p x) t ((Oz T st p x).ev p) ((Oz T st p x).ev x) with
  |none=>rw [hs] at he;cases he
  |some s=>
   rw [hs] at he
   simp only [Am,Aa,Ae] at he
   obtain ⟨rfl,rfl⟩:=he
   obtain ⟨w',π',h1,h2⟩:=ql hT h t _ _ _ _ (Dy h.2 p) (Dy h.2 x) s hs
   have:(execOp a.eval ⟨dst, .store t p x,ty,pos,af,gd⟩).run P w= .ok .skip w':=by
    show (do Instr.storeAt t (a.eval p) (a.eval x);pure Next.skip:Sem Next).run P w=_
    rw [Sem.run_bind,h1];rfl
   rw [this]
   exact ⟨π',h2,trivial⟩
 ·
  rename_i t l c
  split at he
  ·rename_i d hd
   obtain ⟨v,w',π',h1,h2,h3⟩:=sT hT h d t _ _ _ _ (Dy h.2 l) (Dy h.2 c) av st' he
   exact val _ v w' π' h1 h2 h3 rfl
  ·cases he
 ·
  rename_i t
  split at he
  ·rename_i d hd
   obtain ⟨v,w',π',h1,h2,h3⟩:=oe hT h d t av st' he
   exact val _ v w' π' h1 h2 h3 rfl
  ·cases he
 ·
  rename_i t m k x
  cases hs:Jk T st t (st.ev m) (st.ev k) (st.ev x) with
  |none=>rw [hs] at he;cases he
  |some s=>
   rw [hs] at he
   simp only [Am,Aa,Ae] at he
   obtain ⟨rfl,rfl⟩:=he
   obtain ⟨w',h1,h2⟩:=eO hT h t _ _ _ _ _ _ (Dy h.2 m) (Dy h.2 k) (Dy h.2 x) s hs
   have:(execOp a.eval ⟨dst, .mapUpdate t m k x,ty,pos,af,gd⟩).run P w= .ok .skip w':=by
    show (do Instr.mapUpdate t (a.eval m) (a.eval k) (a.eval x);pure Next.skip:Sem Next).run P w=_
    rw [Sem.run_bind,h1];rfl
   rw [this]
   exact ⟨π,h2,trivial⟩
 ·
  rename_i t m k x
  cases hs:Jk T st t (st.ev m) (st.ev k) (st.ev x) with
  |none=>rw [hs] at he;cases he
  |some s=>
   rw [hs] at he
   simp only [Am,Aa,Ae] at he
   obtain ⟨rfl,rfl⟩:=he
   obtain ⟨w',h1,h2⟩:=eO hT h t _ _ _ _ _ _ (Dy h.2 m) (Dy h.2 k) (Dy h.2 x) s hs
   have:(execOp a.eval ⟨dst, .insert t m k x,ty,pos,af,gd⟩).run P w= .ok .skip w':=by
    show (do Instr.mapUpdate t (a.eval m) (a.eval k) (a.eval x);pure Next.skip:Sem Next).run P w=_
    rw [Sem.run_bind,h1];rfl
   rw [this]
   exact ⟨π,h2,trivial⟩
 ·
  rename_i t len parts
  split at he
  ·rename_i d hd
   obtain ⟨v,w',π',h1,h2,h3⟩:=iM hT h d t len parts av st' he
   exact val _ v w' π' h1 h2 h3 rfl
  ·cases he
 ·
  rename_i t parts
  cases hb:Yr T st t parts with
  |none=>rw [hb] at he;cases he
  |some v=>
   rw [hb] at he
   simp only [Am,Aa,Ae] at he
   obtain ⟨rfl,rfl⟩:=he
   obtain ⟨v',h1,h2⟩:=ik hT h t parts v hb
   exact val _ v' w π h1 h h2 rfl
 ·
  rename_i args ts
  split at he
  ·rename_i d x y t t' hd Rp vI
   split at he
   ·rename_i Wp;subst Wp
    have e1:args= #[x,y]:=by apply Po;simpa using Rp
    have e2:ts= #[t,t]:=by apply Po;simpa using vI
    subst e1;subst e2
    obtain ⟨v,w',π',h1,h2,h3⟩:=oa hT h d t ty x y av st' he
    refine val (Builtin.append_ #[t,t] ty #[a.eval x,a.eval y]) v w' π' h1 h2 h3 ?_
    simp [execOp,resolve,invoke,builtin]
   ·cases he
  ·cases he
 ·
  rename_i args ts
  split at he
  ·rename_i x y t t' Rp vI
   have e1:args= #[x,y]:=by apply Po;simpa using Rp
   have e2:ts= #[t,t']:=by apply Po;simpa using vI
   subst e1;subst e2
   obtain ⟨v,w',h1,h2,h3⟩:=uS hT h t t' ty _ _ _ _ (Dy h.2 x) (Dy h.2 y) av st' he
   refine val (Builtin.copy_ #[t,t'] ty #[a.eval x,a.eval y]) v w' π h1 h2 h3 ?_
   simp [execOp,resolve,invoke,builtin]
  ·cases he
 ·
  rename_i args ts
  split at he
  ·rename_i x t Rp vI
   have e1:args= #[x]:=by apply Po;simpa using Rp
   have e2:ts= #[t]:=by apply Po;simpa using vI
   subst e1;subst e2
   cases hs:evalClear T st t (st.ev x) with
   |none=>rw [hs] at he;cases he
   |some s=>
    rw [hs] at he
    simp only [Am,Aa,Ae] at he
    obtain ⟨rfl,rfl⟩:=he
    obtain ⟨v,w',h1,h2⟩:=sS hT h t ty _ _ (Dy h.2 x) s hs
    refine val (Builtin.clear_ #[t] ty #[a.eval x]) v w' π h1 h2 trivial ?_
    simp [execOp,resolve,invoke,builtin]
  ·cases he
 ·
  rename_i f args ts
  split at he
  ·rename_i s Arf
   have hs:Cb P f s:=Ph f _ Arf
   have:=sR h hs dst (args.toList.map st.ev) (args.toList.map a.eval) (by simp) (λi c v=>kh h args.toList i c v) av st' he
   rw [km a.eval f args ts dst ty pos af gd rfl hs.enter]
   refine ⟨rfl,?_⟩
   rwa [show (args.toList.map a.eval).toArray=args.map a.eval from by apply Po;simp] at this
  ·rename_i s Arf
   split at he
   ·cases hs:Ns args.toList st with
    |none=>rw [hs] at he;cases he
    |some st1=>
     rw [hs] at he
     obtain ⟨cY,h1⟩:=ew args.toList h hs
     exact quiet h1 he
   ·exact quiet h he
  ·exact quiet h he
 ·exact quiet h he
end
end Go.Proofs.YtfgfigkbgecfnaaGreat
