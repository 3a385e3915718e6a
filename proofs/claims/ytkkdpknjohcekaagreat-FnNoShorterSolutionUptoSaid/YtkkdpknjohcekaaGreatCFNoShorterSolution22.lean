/-
  Part 23 of the proof that the statement FnNoShorterSolution holds.
-/
import Derived.Test.YtkkdpknjohcekaaGreatCFNoShorterSolution21
namespace Go.Proofs.YtkkdpknjohcekaaGreat
open Go.RowKit
section
variable {P:Program} {T:Tab} {X:Ctx} {w w':World} {π:Pi} {H:List (Nat×OB)}
theorem yM {π':Pi} {st':St} {a:Act} (h:Bh X π' st' a w) (k:Lm π π' H st'.heap) {fr:Bool} (τ:Ty) (cs:List Value) (x:τ.den) (hc:Cells w (Cy X.w0.heap.size X.Sc π fr) τ cs x):
  Cells w (Cy X.w0.heap.size X.Sc π' fr) τ cs x:=
 Cells.Fp (Ap _) (λ_ _ _=>rfl) (λb _ hA=>by
  rcases hA with ⟨l,r,hl,hg⟩|h2
  ·have hh:=h.1.heap l
   cases hb:Aw st'.heap l with
   |none=>have:=hh.emp hb;rw [this] at hl;cases hl
   |some b'=>have:=(k l b' hb).1;rw [this] at hl;exact .inl ⟨l,r,hl,hg⟩
  ·exact .inr h2) τ cs x hc
theorem iD.drop {F:List Nat} {l:Nat} (h:iD X w π F):iD X w (Xe π l none) F:=
 ⟨h.1,λb hb=>⟨(h.2 b hb).1,(h.2 b hb).2.1,λm r hm=>by
  by_cases e:m=l
  ·subst e;rw [Gt] at hm;cases hm
  ·rw [Gk π none e] at hm;exact (h.2 b hb).2.2 m r hm⟩⟩
theorem tZ {st:St} {a:Act} (h:Bh X π st a w) (l:Nat) (hl:l<Bl) (f0 t0:Bool) (te:TypeId) (e:Ty):
  Bh X (Xe π l none) (st.new l (.arr f0 t0 e te [])) a w/\Bm X w (Xe π l none) (st.new l (.arr f0 t0 e te [])).heap (.at (.own l 0 0)) (.slice none 0 0)/\
   ∀fr τ cs x,Cells w (Cy X.w0.heap.size X.Sc π fr) τ cs x->Cells w (Cy X.w0.heap.size X.Sc (Xe π l none) fr) τ cs x:=
 ⟨h.replace l hl none _ (Qi w _) (λr hr=>by cases hr) (λ_=>rfl),
  FO (St.Hf st l _) (Ap _) (by rw [Gt];exact ⟨rfl,rfl,rfl⟩),
  fun fr τ cs x hc=>Cells.Fp (Ap _) (λ_ _ _=>rfl) (λb _ hA=>by
  rcases hA with ⟨m,r,hm,hg⟩|h2
  ·by_cases e:m=l
   ·subst e;rw [Gt] at hm;cases hm
   ·rw [Gk π none e] at hm;exact .inl ⟨m,r,hm,hg⟩
  ·exact .inr h2) τ cs x hc⟩
theorem Yb (hT:Ed P T) {st:St} {a:Act} (h:Bh X π st a w) (dst:Nat) (t ty:TypeId) (x y:Operand) (av:AV) (st':St) (he:Om T st dst t x y=some (av,st')):
  ∃v' w' π',(Builtin.append_ #[t,t] ty #[a.eval x,a.eval y]).run P w= .ok v' w'/\Bh X π' st' a w'/\Bm X w' π' st'.heap av v':=by
 unfold Om at he
 split at he
 ·cases he
 ·rename_i te lx
  split at he
  ·rename_i e y' st1 Yl hs
   obtain ⟨cz,h1,h2,h3,h4,h5⟩:=cn h (Dt h.2 y) hs
   split at he
   ·cases he
   ·rename_i rY ys hv
    dsimp only at he
    have QG: ∀tr2,tr2=(e.flat||(Ts st (st.ev y)&&e.tree))->tr2=true->e.flat=true\/ ∃F,Db w F (.slice e) [a.eval y] ys/\iD X w cz F:=by
     intro tr2 e2 nP
     subst e2
     cases hef:e.flat with
     |true=>exact .inl rfl
     |false=>
     right
     simp only [hef,Xh,Af] at nP
     obtain ⟨F,us,f1,f2,f3,_⟩:=h5 nP.1 (.slice e) rY ys nP.2 hv
     have YX:us= [a.eval y]:=by
      simp only [Db] at f1
      obtain ⟨a0,len,cap,rfl,_⟩:=f1
      rw [f2];simp [Bz,Ty.Aq]
     rw [YX] at f1
     exact ⟨F,f1,f3⟩
    have hyc:Cells w (Cy X.w0.heap.size X.Sc cz rY) (.slice e) [a.eval y] ys:=Cu.Sp rfl (Nh _ y' _ rY ys h3 h2 hv)
    have YY:=Dt h1.2 x
    split at he
    ·rename_i hx
     rw [hx] at YY
     have hxv:a.eval x= .slice none 0 0:=YY
     split at he
     ·rename_i pe
      simp only [Aa,Ae] at he
      obtain ⟨rfl,rfl⟩:=he
      obtain ⟨k1,k2,k3⟩:=tZ h1 dst pe.2 (T.vu||e.flat) T.CB te e
      have:=nf (ty:=ty) hT k1 lx Yl pe.2 (fr3:=rY||e.flat) (tr2:=e.flat||(Ts st (st.ev y)&&e.tree)) rfl (St.Hf st1 dst _) k2 (k3 _ _ _ _ hyc) (by rw [Ce];exact pe.1) (λht=>by
       rcases QG _ rfl ht with h0|⟨F,f1,f2⟩
       ·exact .inl h0
       ·exact .inr ⟨F,f1,f2.drop⟩)
      rw [<-hxv] at this
      exact this
     ·cases he
    ·rename_i l off len hx
     rw [hx] at YY
     split at he
     ·rename_i fr tr e' tid xs hl
      split at he
      ·rename_i Ki
       obtain ⟨rfl,rfl⟩:=Ki
       split at he
       ·rename_i pe
        simp only [Aa,Ae] at he
        obtain ⟨rfl,rfl⟩:=he
        exact nf (ty:=ty) hT h1 lx Yl pe.2 (fr3:=rY||e'.flat) (tr2:=e'.flat||(Ts st (st.ev y)&&e'.tree)) rfl hl YY hyc pe.1 (QG _ rfl)
       ·cases he
      ·cases he
     ·cases he
    ·cases he
  ·cases he
theorem nw (hT:Ed P T) {st:St} {a:Act} (h:Bh X π st a w) (dst:Nat) (t ty:TypeId) (x y:Operand) (av:AV) (st':St) (he:Sd T st dst t x y=some (av,st')):
  ∃v' w' π',(Builtin.append_ #[t,t] ty #[a.eval x,a.eval y]).run P w= .ok v' w'/\Bh X π' st' a w'/\Bm X w' π' st'.heap av v':=by
 unfold Sd at he
 split at he
 ·rename_i tx
  split at he
  ·rename_i l i c hg
   split at he
   ·rename_i e te rows kp tid hl _
    split at he
    ·rename_i hc
     simp only [Af,Nv,Es] at hc
     have ji:dst≠l:= λe=>by rw [e,Nat.beq_refl] at hc;cases hc.2.2
     unfold St.at at hl
     have hv:Ib X w π st.heap (.sub l i c) (a.tmps.getD tx undef):=by
      have:=h.2.tmps tx
      rw [hg] at this
      exact this
     obtain ⟨cz,h1,h2⟩:=JW (tid:=tid) h hl ji hc.2.1 hc.1 hv
     have h3:=h1.put (some tx) (c:= .at (.own dst 0 (rows.getD i []).length)) h2
     have Amx:a.put (some tx) (a.tmps.getD tx undef)=a:=by
      have:a.tmps.setIfInBounds tx (a.tmps.getD tx undef)=a.tmps:=by
       apply Array.ext_getElem?
       intro k
       rw [Array.getElem?_setIfInBounds]
       split
       ·rename_i e
        subst e
        split
        ·rename_i Li
         rw [Array.getElem?_eq_getElem Li];simp
        ·rename_i Li
         rw [Array.getElem?_eq_none (by omega)]
       ·rfl
      simp only [Act.put,this]
     rw [Amx] at h3
     exact Yb hT h3 dst t ty (.tmp tx) y av st' he
    ·cases he
   ·cases he
  ·exact Yb hT h dst t ty _ y av st' he
 ·exact Yb hT h dst t ty x y av st' he
theorem OR {S:Nat->Prop} {e:Ty} (h:mV e=true): ∃z,Bp e= [z]/\e.Aq=false/\e.size=1/\Cells w S e [z] e.zero/\z.oneCell'=true:=by
 cases e<;>simp [mV] at h
 ·exact ⟨_,rfl,rfl,rfl,rfl,rfl⟩
 ·exact ⟨_,rfl,rfl,rfl,rfl,rfl⟩
 ·exact ⟨_,rfl,rfl,rfl,rfl,rfl⟩
 ·exact ⟨_,rfl,rfl,rfl,⟨none,0,0,rfl,rfl,Ap _, .inl rfl⟩,rfl⟩
 ·exact ⟨_,rfl,rfl,rfl, .inl ⟨rfl,0,rfl⟩,rfl⟩
theorem IU {e:Ty} {z:Value} (ht:e.tree=true) (h:mV e=true) (hz:Bp e= [z]):Db w [] e [z] e.zero:=by
 cases e<;>simp [mV] at h<;>simp only [Bp,Gz,bl] at hz<;>subst hz<;>try (simp [Ty.tree] at ht;done)
 ·exact ⟨rfl,rfl⟩
 ·exact ⟨rfl,rfl⟩
 ·exact ⟨rfl,rfl⟩
 ·exact ⟨none,0,0,rfl,rfl,Ap _, .inl ⟨rfl,rfl,rfl,rfl⟩⟩
theorem Aci {S:Nat->Prop} : ∀(e:Ty),gH e=true->(Bp e).length=e.size/\Cells w S e (Bp e) e.zero/\(e.tree=true->Db w [] e (Bp e) e.zero):=by
 intro e
 induction e with
 |unit=>intro _;exact ⟨rfl,rfl,λ_=>⟨rfl,rfl⟩⟩
 |pair a r iA iw=>
  intro h
  simp only [gH,Af] at h
  obtain ⟨a1,a2,a3⟩:=iA h.1
  obtain ⟨r1,r2,r3⟩:=iw h.2
  exact ⟨by simp [Bp,Ty.size,a1,r1],⟨_,_,rfl,a2,r2⟩,λht=>by simp only [Ty.tree,Af] at ht;exact ⟨_,_,[],[],rfl,rfl,a3 ht.1,r3 ht.2⟩⟩
 |_=>
  intro h
  simp only [gH] at h
  obtain ⟨z,z1,z2,z3,z4,_⟩:=OR (w:=w) (S:=S) h
  exact ⟨by rw [z1,z3];rfl,by rw [z1];exact z4,λht=>by rw [z1];exact IU ht h z1⟩
theorem QQ {z:Array Value} {s m j q:Nat} (hz:z.size=s) (hj:j<m) (hq:q<s):(madeCells z (m*s))[j*s+q]?=z[q]?:=by
 have h1:j*s+q<m*s:=by
  have:=Fz s (show j+1<=m by omega)
  rw [Nat.succ_mul] at this
  omega
 have h2:(j*s+q)%z.size=q:=by rw [hz,Nat.mul_comm,Nat.mul_add_mod,Nat.mod_eq_of_lt hq]
 have h3:q<z.size:=by omega
 unfold madeCells
 simp [h1,h2,h3]
theorem sV (hT:Ed P T) {st:St} {a:Act} (h:Bh X π st a w) (dst:Nat) (t:TypeId) (l c:AV) (vl vc:Value) (hl:Bm X w π st.heap l vl) (hc:Bm X w π st.heap c vc) (av:AV) (st':St)
  (he:bR T st dst t l c=some (av,st')): ∃v' w' π',(Instr.makeSlice t vl vc).run P w= .ok v' w'/\Bh X π' st' a w'/\Bm X w' π' st'.heap av v':=by
 unfold bR at he
 split at he
 ·rename_i te fr1 k1 n rY k2 m lx
  have:=Qp hl;subst this
  have:=Qp hc;subst this
  split at he
  ·rename_i e Yl
   split at he
   ·rename_i Ki
    obtain ⟨h0,hnm,hz,KG⟩:=Ki
    obtain ⟨h1,h2⟩:=Um.1 h0
    subst hnm
    simp only [Aa,Ae] at he
    obtain ⟨rfl,rfl⟩:=he
    obtain ⟨i,hi,Vv,rj,tt⟩:=(hT.ty te e Yl).info
    obtain ⟨z1,z4,z5⟩:=Aci (w:=w) (S:=Cy X.w0.heap.size X.Sc π (T.vu||e.flat)) e hz
    have YZ:(Bz e (Bp e)).cells=(Bp e).toArray:=Lq e _ _ z4
    have hu:=hT.elem t te lx
    have hn:n.toNat<=4294967296:=by unfold Dk at h2;omega
    have hr:=run_make (P:=P) (w:=w) t te i _ hu hi tt k1 k2 n n h1 (Kc _) (by
     have:(i.bytes:Int)*n<=256*4294967296:=by
      obtain ⟨nn,rfl⟩:=Mw h1
      have h7:i.bytes*nn<=256*4294967296:=Nat.mul_le_mul rj (by simpa using hn)
      have h8:((i.bytes*nn:Nat):Int)<=256*4294967296:=by omega
      rwa [Int.natCast_mul] at h8
     omega) (by unfold Dk at h2;omega)
    rw [YZ,Vv] at hr
    have aH:((Bp e).toArray).size=e.size:=by simpa using z1
    have cell: ∀j,j<n.toNat-> ∀q u,(Bp e)[q]?=some u->(madeCells (Bp e).toArray (n.toNat*e.size)).toList[j*e.size+q]?=some u:=by
     intro j hj q u hu
     have hq:q<e.size:=by rw [<-z1];exact (Am.1 hu).1
     have:=QQ aH hj hq
     rw [Array.getElem?_toList,this]
     simpa using hu
    have:=fV (w1:=w.alloc (.cells (madeCells (Bp e).toArray (n.toNat*e.size)) te)) h dst KG (T.vu||e.flat) (T.CB&&e.tree) e te (List.replicate n.toNat e.zero) (madeCells (Bp e).toArray (n.toNat*e.size)).toList (madeCells (Bp e).toArray (n.toNat*e.size)) n.toNat []
     (.inr rfl) (by rw [size_madeCells]) (by unfold maxLen;omega) (by simp)
     (λk u hu=>by
      rw [Array.getElem?_toList] at hu;exact hu) ⟨by simp [size_madeCells],λj x hx=>by
       have hj:=(Am.1 hx).1
       simp only [Iy] at hj
       refine ⟨Bp e,z1,λq u hu=>cell j hj q u hu,?_⟩
       rw [Fq (Cb hx)];exact z4⟩ (by simp) (λnP=>⟨Nu,List.replicate n.toNat [],by simp,by simp,λj x F hx hF=>by
      have hj:=(Am.1 hx).1
      simp only [Iy] at hj
      refine ⟨Bp e,z1,λq u hu=>cell j hj q u hu,?_⟩
      have e1:=Fq (Cb hx)
      have e2:=Fq (Cb hF)
      rw [e1,e2]
      exact z5 (by simp only [Af] at nP;exact nP.2)⟩)
    exact ⟨_,_,_,hr,this.1,this.2 _ (by simp)⟩
   ·cases he
  ·cases he
 ·cases he
theorem ja (off:Nat): ∀(us:List Value) (k:Nat) (cells:List Value),off+k+us.length<=cells.length->
  (us.zipIdx k).foldl (λcs p=>cs.setIfInBounds (off+p.2) p.1) cells.toArray=(Dv cells (off+k) us).toArray
 | [],k,cells,h=>by simp [Dv]
 |u::us,k,cells,h=>by
  simp only [List.zipIdx_cons,Ds]
  rw [show cells.toArray.setIfInBounds (off+k) u=(cells.set (off+k) u).toArray by simp]
  rw [ja off us (k+1) (cells.set (off+k) u) (by simp at h⊢;omega)]
  congr 1
  apply List.ext_getElem?
  intro j
  have hl:off+k+(u::us).length<=cells.length:=h
  have tz:off+(k+1)+us.length<=(cells.set (off+k) u).length:=by simp at h⊢;omega
  rw [Iv _ _ _ _ hl,Iv _ _ _ _ tz]
  simp only [Ay]
  by_cases h1:j<off+k
  ·rw [Ab (by omega),Ab h1,List.getElem?_set_ne (by omega)]
  ·rw [Ai h1]
   by_cases h2:j=off+k
   ·subst h2
    rw [Ab (by omega),Ab (by omega),List.getElem?_set_self (by simp at h;omega)]
    simp
   ·rw [Ai (by omega)]
    by_cases h3:j<off+k+(us.length+1)
    ·rw [Ab (by omega),Ab h3]
     rw [show j-(off+k)=(j-(off+(k+1)))+1 by omega,Mx]
    ·rw [Ai (by omega),Ai h3,List.getElem?_set_ne (by omega)]
theorem xl (place:Nat->Option (Nat×Nat)) (cells:List Value) (i:Nat) (v:Value) (rest:List (Nat×Value)) (off size:Nat) (us:List Value) (hp:place i=some (off,size)) (hv:v.cells=us.toArray)
  (hl:us.length=size) (hle:off+size<=cells.length):Instr.fill place cells.toArray ((i,v)::rest)=Instr.fill place (Dv cells off us).toArray rest:=by
 simp only [Instr.fill,hp,hv,Ha,hl]
 rw [Ai (by simp;omega)]
 congr 1
 have:=ja off us 0 cells (by omega)
 simp only [En] at this
 rw [<-this]
 simp
theorem Xy (e:Ty) {a:Act} : ∀(parts:List (Nat×Operand)) (i:Nat) (st:St) (π:Pi) (fr tr:Bool) (ys:List e.den) (st':St) (cells:List Value),Bh X π st a w->Ly e i parts st=some (fr,tr,ys,st')->
  (i+parts.length)*e.size<=cells.length->
  ∃π' cl,Bh X π' st' a w/\Flat w (Cy X.w0.heap.size X.Sc π' fr) e cl ys/\ys.length=parts.length/\Lm π π' st.heap st'.heap/\
   Instr.fill (λi=>some (i*e.size,e.size)) cells.toArray (parts.map λp=>(p.1,a.eval p.2))=some (Dv cells (i*e.size) cl).toArray/\
   (tr=true-> ∃Fs,Tg w e cl ys Fs/\iD X w π' (List.flatten Fs)/\ ∀b∈List.flatten Fs,∃l r,π l=some r/\r.cl b)
 | [],i,st,π,fr,tr,ys,st',cells,h,he,hle=>by
  simp only [Ly,Aa,Ae] at he
  obtain ⟨rfl,rfl,rfl,rfl⟩:=he
  exact ⟨π,[],h,Flat.nil,rfl,Lm.refl _ _,by simp [Instr.fill,Dv],λ_=>⟨[],⟨rfl,λi z F hz=>by simp at hz⟩,⟨Nu,by simp⟩,by simp⟩⟩
 |(j,x)::r,i,st,π,fr,tr,ys,st',cells,h,he,hle=>by
  simp only [Ly] at he
  split at he
  ·rename_i jh;subst jh
   split at he
   ·rename_i v' st1 hs
    obtain ⟨cz,h1,h2,h3,h4,h5⟩:=cn h (Dt h.2 x) hs
    split at he
    ·rename_i fr1 y hv
     split at he
     ·rename_i rY tr2 zs st2 hr
      simp only [Aa,Ae] at he
      obtain ⟨rfl,rfl,rfl,rfl⟩:=he
      obtain ⟨es,ir,KH⟩:=Nh e v' _ fr1 y h3 h2 hv
      have lq:=Cells.len e es y ir
      have As9:i*e.size+e.size<=cells.length:=by
       have:(i+1)*e.size<=(i+((i,x)::r).length)*e.size:=Fz _ (by simp)
       rw [De,Vz] at this
       omega
      have PY:i*e.size+es.length<=cells.length:=by omega
      obtain ⟨WG,cl,g1,g2,g3,g4,g5,g6⟩:=Xy e r (i+1) st1 cz rY tr2 zs st2 (Dv cells (i*e.size) es) h1 hr (by
       rw [Jo _ _ _ PY]
       rw [show i+1+r.length=i+((i,x)::r).length by simp;omega];exact hle)
      have f1:Flat w (Cy X.w0.heap.size X.Sc WG fr1) e es [y]:=⟨by simp [lq],λq z hz=>by
       rcases q with _|q
       ·simp at hz;subst hz
        exact ⟨es,lq,λj u hu=>by simpa using hu,yM g1 g4 e es y ir⟩
       ·simp at hz⟩
      refine ⟨WG,es++cl,g1,?_,by simp [g3],h4.trans g4,?_,λht=>?_⟩
      ·have:=(f1.cells λes z hc=>hc.and_left (f2:=rY)).append (g2.cells λes z hc=>hc.and_right (f1:=fr1))
       simpa using this
      ·simp only [Ca]
       rw [xl _ cells i (a.eval x) _ (i*e.size) e.size es rfl (by rw [KH];exact Lq e es y ir) lq As9,g5]
       congr 2
       have Qj:cl.length=r.length*e.size:=by rw [g2.1,g3]
       have Yi:(i+1)*e.size+cl.length<=(Dv cells (i*e.size) es).length:=by
        rw [Jo _ _ _ PY,Qj,<-De]
        rw [show i+1+r.length=i+((i,x)::r).length by simp;omega];exact hle
       have Alu:i*e.size+(es++cl).length<=cells.length:=by
        rw [Jo _ _ _ PY] at Yi
        rw [As,lq]
        rw [De,Vz] at Yi
        omega
       have e1:(i+1)*e.size=i*e.size+es.length:=by rw [De,Vz,lq]
       apply List.ext_getElem?
       intro k
       rw [Iv _ _ _ _ Yi,Iv _ _ _ _ Alu,Iv _ _ _ _ PY,e1,As]
       by_cases k1:k<i*e.size
       ·rw [Ab (by omega),Ab k1,Ab k1]
       ·rw [Ai k1,Ai k1]
        by_cases k2:k<i*e.size+es.length
        ·rw [Ab k2,Ab k2,Ab (by omega),At (by omega)]
        ·rw [Ai k2,Ai k2]
         by_cases k3:k<i*e.size+es.length+cl.length
         ·rw [Ab k3,Ab (by omega),Ar (by omega)]
          congr 1;omega
         ·rw [Ai k3,Ai (by omega)]
      ·simp only [Af] at ht
       obtain ⟨⟨ht1,WO⟩,ht3⟩:=ht
       obtain ⟨F,us,t1,t2,t3,t7⟩:=h5 ht1 e fr1 y WO hv
       obtain ⟨Fs,t4,t5,t6⟩:=g6 ht3
       have YX:us=es:=by
        have c1:=Db.cells (S:= λ_=>False) F e us y t1 (λ_ _ h=>h)
        have a1:=Lq e us y c1
        have a2:=Lq e es y ir
        rw [<-t2,KH,a2] at a1
        simpa using a1.symm
       subst YX
       refine ⟨F::Fs,?_,?_,λb hb=>?_⟩
       ·have k1:Tg w e us [y] [F]:=⟨rfl,λq z G hz hG=>by
         rcases q with _|q
         ·simp at hz hG;subst hz;subst hG
          exact ⟨us,lq,λj u hu=>by simpa using hu,t1⟩
         ·simp at hz⟩
        exact Tg.append (by simp [lq]) k1 t4
       ·rw [Lu]
        refine ⟨Du.2 ⟨t3.1,t5.1,λb hb b' vz e=>?_⟩,λb hb=>?_⟩
        ·subst e
         obtain ⟨l,r,q1,q2⟩:=t6 b vz
         exact (t3.2 b hb).2.2 l r q1 q2
        ·rcases Bb.1 hb with hb|hb
         ·have:=t3.2 b hb
          refine ⟨this.1,this.2.1,λl r q1 q2=>?_⟩
          cases hh:Aw st2.heap l with
          |none=>rw [(g1.1.heap l).emp hh] at q1;cases q1
          |some b'=>exact this.2.2 l r ((g4 l b' hh).1▸q1) q2
         ·exact t5.2 b hb
       ·rw [Lu] at hb
        rcases Bb.1 hb with hb|hb
        ·exact t7 b hb
        ·obtain ⟨l,r,q1,q2⟩:=t6 b hb
         cases hh:Aw st1.heap l with
         |none=>rw [(h1.1.heap l).emp hh] at q1;cases q1
         |some b'=>exact ⟨l,r,(h4 l b' hh).1▸q1,q2⟩
     ·cases he
    ·cases he
   ·cases he
  ·cases he
theorem j5 (hT:Ed P T) {st:St} {a:Act} (h:Bh X π st a w) (dst:Nat) (t:TypeId) (len:Nat) (parts:Array (Nat×Operand)) (av:AV) (st':St)
  (he:Na T st dst t len parts=some (av,st')):
  ∃v' w' π',(Instr.buildSlice t len (parts.map λ(i,x)=>(i,a.eval x))).run P w= .ok v' w'/\Bh X π' st' a w'/\Bm X w' π' st'.heap av v':=by
 unfold Na at he
 split at he
 ·cases he
 ·rename_i te lx
  split at he
  ·cases he
  ·rename_i e Yl
   split at he
   ·rename_i Ki
    obtain ⟨kT,hlen⟩:=Ki
    split at he
    ·rename_i fr tr ys st1 hb
     simp only [Aa,Ae] at he
     obtain ⟨rfl,rfl⟩:=he
     obtain ⟨i,hi,Vv,rj,tt⟩:=(hT.ty te e Yl).info
     have hu:=hT.elem t te lx
     have SO:parts.toList.length=len:=by simpa using kT
     have hz: ∃z:Array Value,(len*e.size=0/\z= #[])\/(¬len*e.size=0/\(zeroValue te).run P w= .ok (Bz e (Bp e)) w/\z=(Bz e (Bp e)).cells):=by
      by_cases h0:len*e.size=0
      ·exact ⟨#[], .inl ⟨h0,rfl⟩⟩
      ·exact ⟨_, .inr ⟨h0,by simp [zeroValue,typeInfo,hi,tt],rfl⟩⟩
     obtain ⟨z,hz⟩:=hz
     obtain ⟨cz,cl,g1,g2,g3,g4,g5,g6⟩:=Xy e parts.toList 0 st π fr tr ys st1 ((Array.range (len*e.size)).map (z[· %z.size]!)).toList h hb (by simp [SO])
     have Qj:cl.length=len*e.size:=by rw [g2.1,g3,SO]
     have YW:(Dv ((Array.range (len*e.size)).map (z[· %z.size]!)).toList (0*e.size) cl)=cl:=by
      simp [Dv,Qj]
     rw [YW] at g5
     have Vw:(Instr.buildSlice t len (parts.map λ(i,x)=>(i,a.eval x))).run P w= .ok (.slice (some ⟨w.heap.size,0,none⟩) len len) (w.alloc (.cells cl.toArray te)):=by
      have h24: ¬(len*e.size>2^24):=by
       have:len*e.size<=64*64:=Nat.mul_le_mul hlen.1 hlen.2.1
       omega
      simp only [Instr.buildSlice,Sem.run_bind,run_underlying hu,Result.andThen_ok,(hT.ty te e Yl).size,Ai h24]
      have e1:(parts.map λ(i,x)=>(i,a.eval x)).toList=parts.toList.map λp=>(p.1,a.eval p.2):=by simp
      simp only [e1]
      have e2:(((Array.range (len*e.size)).map (z[· %z.size]!)).toList.toArray)=(Array.range (len*e.size)).map (z[· %z.size]!):=Array.toArray_toList
      rw [e2] at g5
      rcases hz with ⟨h0,rfl⟩|⟨h0,hz,rfl⟩
      ·rw [Ab h0]
       simp only [Sem.run_bind,Sem.run_pure,Result.andThen_ok,g5,newRow]
       simp
      ·rw [Ai h0]
       simp only [Sem.run_bind,Sem.run_pure,Result.andThen_ok,hz,g5,newRow]
       simp
     have hN: ∃N:List Nat,(∀b∈N,(X.w0.heap.size<=b\/X.gv b)/\b<w.heap.size/\ ∀m r0,m≠dst->cz m=some r0-> ¬r0.cl b)/\(tr=true->N.Nodup/\ ∃Fs,List.flatten Fs=N/\Tg w e cl ys Fs):=by
      cases tr with
      |false=>exact ⟨[],by simp,λh=>by cases h⟩
      |true=>
       obtain ⟨Fs,t1,t2,_⟩:=g6 rfl
       exact ⟨_,λb hb=>⟨(t2.2 b hb).1,(t2.2 b hb).2.1,λm r0 _=>(t2.2 b hb).2.2 m r0⟩,λ_=>⟨t2.1,Fs,rfl,t1⟩⟩
     obtain ⟨N,q1,q2⟩:=hN
     have:=fV (w1:=w.alloc (.cells cl.toArray te)) g1 dst hlen.2.2 ((T.vu||e.flat)&&fr) (T.CB&&tr) e te ys cl cl.toArray len N (.inr rfl) (by simpa using Qj) (by simp only [maxLen];omega) (by omega) (λk u hu=>by simpa using hu) (g2.cells λes z hc=>hc.and_right) q1 (λht=>q2 (by simp only [Af] at ht;exact ht.2))
     exact ⟨_,_,_,Vw,this.1,this.2 _ (by omega)⟩
    ·cases he
   ·cases he
theorem mo {t te:TypeId} {e:Ty} (h:eu T t=some (te,e)):T.elem t=some te/\T.ty te=some (.slice e):=by
 unfold eu at h
 cases he:T.elem t with
 |none=>rw [he] at h;cases h
 |some Rv=>
  rw [he] at h
  simp only [Fl] at h
  cases hg:T.PM Rv with
  |none=>rw [hg] at h;cases h
  |some e'=>
   rw [hg] at h
   simp only [Al,Aa,Ae] at h
   obtain ⟨rfl,rfl⟩:=h
   refine ⟨rfl,?_⟩
   unfold Tab.PM at hg
   split at hg
   ·split at hg
    ·rename_i Yl;simp only [Aa] at hg;subst hg;exact Yl
    ·cases hg
   ·cases hg
theorem nh (w:World) (o:Obj):Lk w.heap.size (λ_=>False) w (w.alloc o):=⟨rfl,rfl,rfl,by simp,λk hk _=>Below.heap_alloc w _ k hk⟩
theorem q9 (w:World) (o:Obj):Lk w.heap.size (λ_=>False) w (w.drew.alloc o):=⟨rfl,rfl,rfl,by simp,λk hk _=>Below.heap_alloc w.drew _ k hk⟩
theorem rf (hT:Ed P T) {st:St} {a:Act} (h:Bh X π st a w) (dst:Nat) (t:TypeId) (l c:AV) (vl vc:Value) (hl:Bm X w π st.heap l vl) (hc:Bm X w π st.heap c vc) (av:AV) (st':St)
  (he:Yf T st dst t l c=some (av,st')): ∃v' w' π',(Instr.makeSlice t vl vc).run P w= .ok v' w'/\Bh X π' st' a w'/\Bm X w' π' st'.heap av v':=by
 unfold Yf at he
 split at he
 ·exact sV hT h dst t l c vl vc hl hc av st' he
 ·rename_i te e hg
  obtain ⟨lx,Yl⟩:=mo hg
  split at he
  ·rename_i fr1 k1 n rY k2 m
   have:=Qp hl;subst this
   have:=Qp hc;subst this
   split at he
   ·rename_i Ki
    obtain ⟨h0,hnm,KG⟩:=Ki
    obtain ⟨h1,h2⟩:=Um.1 h0
    subst hnm
    simp only [Aa,Ae] at he
    obtain ⟨rfl,rfl⟩:=he
    obtain ⟨i,hi,Vv,rj,tt⟩:=(hT.ty te _ Yl).info
    have hu:=hT.elem t te lx
    have hn:n.toNat<=4294967296:=by unfold Dk at h2;omega
    have hr:=run_make (P:=P) (w:=w) t te i _ hu hi tt k1 k2 n n h1 (Kc _) (by
     have:(i.bytes:Int)*n<=256*4294967296:=by
      obtain ⟨nn,rfl⟩:=Mw h1
      have h7:i.bytes*nn<=256*4294967296:=Nat.mul_le_mul rj (by simpa using hn)
      have h8:((i.bytes*nn:Nat):Int)<=256*4294967296:=by omega
      rwa [Int.natCast_mul] at h8
     omega) (by unfold Dk at h2;omega)
    have YZ:(Bz (Ty.slice e) (Bp (Ty.slice e))).cells= #[.slice none 0 0]:=by simp [Bz,Ty.Aq,Bp,Value.cells]
    have jk:(Ty.slice e).size=1:=rfl
    rw [YZ,Vv,jk] at hr
    have cell: ∀j,j<n.toNat->(madeCells #[Value.slice none 0 0] (n.toNat*1))[0+j]?=some (.slice none 0 0):=by
     intro j hj
     have:=QQ (z:= #[Value.slice none 0 0]) (s:=1) (m:=n.toNat) (j:=j) (q:=0) rfl hj (by omega)
     simp only [Fg,En] at this
     simp only [Fg,Ce]
     rw [this];rfl
    obtain ⟨π',g1,g2⟩:=Zv (w1:=w.alloc (.cells (madeCells #[Value.slice none 0 0] (n.toNat*1)) te)) (gv:= λ_=>False) h KG KG te (e:=e) (rows:=List.replicate n.toNat []) (us:=List.replicate n.toNat (.slice none 0 0)) (Rs:=List.replicate n.toNat none) (g:=w.heap.size) (o:=0) (cap:=n.toNat)
     (λ_ hf=>hf.elim) (nh w _) ⟨.inl (Ap _),by simp⟩ (heap_alloc_new w _) (by rw [size_madeCells];omega) (by unfold maxLen;omega) (by simp) (λj u hu=>by
      have hj:=(Am.1 hu).1
      simp only [Iy] at hj
      rw [cell j hj,Fq (Cb hu)])
     ⟨by simp,by simp,λi j q q' h1=>(by have:=Fq (Cb h1);cases this),λi x hx=>by
      have hj:=(Am.1 hx).1
      simp only [Iy] at hj
      rw [Fq (Cb hx)]
      exact ⟨.slice none 0 0,none,by rw [Zi,Ab hj],by rw [Zi,Ab hj],⟨rfl,rfl,rfl⟩,rfl⟩⟩
     (λi q h1=>by have:=Fq (Cb h1);cases this)
    exact ⟨_,_,π',hr,g1,g2 _ (by simp)⟩
   ·cases he
  ·cases he
theorem im (hT:Ed P T) {st:St} {a:Act} (h:Bh X π st a w) (dst:Nat) (t:TypeId) (len:Nat) (parts:Array (Nat×Operand)) (av:AV) (st':St)
  (he:Js T st dst t len parts=some (av,st')):
  ∃v' w' π',(Instr.buildSlice t len (parts.map λ(i,x)=>(i,a.eval x))).run P w= .ok v' w'/\Bh X π' st' a w'/\Bm X w' π' st'.heap av v':=by
 unfold Js at he
 split at he
 ·exact j5 hT h dst t len parts av st' he
 ·rename_i te e hg
  obtain ⟨lx,Yl⟩:=mo hg
  split at he
  rotate_left
  ·cases he
  rename_i x Aia
  split at he
  rotate_left
  ·cases he
  rename_i m off ln hx
  split at he
  rotate_left
  ·cases he
  rename_i fr tr e' tid xs hm
  split at he
  rotate_left
  ·cases he
  rename_i hc
  obtain ⟨rfl,hc,rfl,rfl⟩:=hc
  simp only [Af,Nv] at hc
  obtain ⟨hlen,KG,hmp⟩:=hc
  have hlen:len=1:=Kg hlen
  subst hlen
  simp only [Aa,Ae] at he
  obtain ⟨rfl,rfl⟩:=he
  have hu:=hT.elem t te lx
  unfold St.at at hm
  have hrx:=Dt h.2 x
  rw [hx] at hrx
  obtain ⟨_,vA⟩:=Pa (X:=X) (w:=w) hrx hm
  obtain ⟨ax,nx,cx,hvx⟩:=bf vA
  have hp:parts= #[(0,x)]:=by apply Pw;simpa using Aia
  subst hp
  obtain ⟨i,hi,Vv,rj,tt⟩:=(hT.ty te _ Yl).info
  have Vw:(Instr.buildSlice t 1 (#[(0,x)].map λ(i,x)=>(i,a.eval x))).run P w= .ok (.slice (some ⟨w.heap.size,0,none⟩) 1 1) (w.alloc (.cells #[a.eval x] te)):=by
   have jk:(Ty.slice e').size=1:=rfl
   have hz:(zeroValue te).run P w= .ok (.slice none 0 0) w:=by simp [zeroValue,typeInfo,hi,tt,Bz,Ty.Aq,Bp]
   have hmp:(#[(0,x)].map λ(i,x)=>(i,a.eval x))= #[(0, .slice ax nx cx)]:=by simp [hvx]
   rw [hmp,hvx]
   simp only [Instr.buildSlice,Sem.run_bind,run_underlying hu,Result.andThen_ok,(hT.ty te _ Yl).size,jk]
   simp [Value.cells,Instr.fill,newRow,hz]
   congr 2
   apply Array.ext
   ·simp
   ·intro i h1 h2
    have h0:i=0:=by simpa using h2
    subst h0
    simp
  have xp:=(h.1.heap m).Rz hm
  simp only [Ch,Kr] at xp
  have hfa:Th w (Cy X.w0.heap.size X.Sc π false) (π m) e' xs:=by
   cases hR:π m with
   |none=>rw [hR] at xp;exact xp
   |some q=>
    rw [hR] at xp
    obtain ⟨⟨f0,f0',_⟩,cu,ti',f2,f3,f4,f5,f6,_⟩:=xp
    exact ⟨⟨f0,f0'⟩,cu,ti',f2,f3,f4,f5,λp y hy=>by
     obtain ⟨es,g1,g2,g3⟩:=f6 p y hy
     exact ⟨es,g1,g2,Cells.Fp (Ap _) (λ_ _ _=>rfl) (λb _ hA=>hA.imp id (Or.imp id λ⟨h1,_⟩=>by cases h1)) e' es y g3⟩⟩
  obtain ⟨π',g1,g2⟩:=Zv (w1:=w.alloc (.cells #[a.eval x] te)) (gv:= λ_=>False) h KG hmp te (e:=e') (rows:= [xs]) (us:= [a.eval x]) (Rs:= [π m]) (g:=w.heap.size) (o:=0) (cap:=1)
   (λ_ hf=>hf.elim) (nh w _) ⟨.inl (Ap _),by simp⟩ (heap_alloc_new w _) rfl (by unfold maxLen;omega) (by simp) (λj u hu=>by
    rcases j with _|j
    ·simpa using hu
    ·simp at hu)
   ⟨rfl,rfl,λi j q q' h1 h2 _=>by
    rcases i with _|i
    ·rcases j with _|j
     ·rfl
     ·simp at h2
    ·simp at h1,λi y hy=>by
    rcases i with _|i
    ·simp only [Bq,Aa] at hy
     subst hy
     exact ⟨_,_,rfl,rfl,vA,hfa⟩
    ·simp at hy⟩
   (λi q h1=>by
    rcases i with _|i
    ·simp only [Bq,Aa] at h1
     have hf:=h.1.Cr h1
     have:=(h.1.place m q _ h1 (h.1.sub m q _ h1 hf)).2
     exact ⟨by omega,λh=>h,m,q, .inr rfl,h1,hf⟩
    ·simp at h1)
  exact ⟨_,_,π',Vw,g1,g2 1 rfl⟩
theorem ny (hT:Ed P T) {st:St} {a:Act} (h:Bh X π st a w) (dst:Nat) (t ty:TypeId) (x y:Operand) (av:AV) (st':St) (he:Se T st dst t x y=some (av,st')):
  ∃v' w' π',(Builtin.append_ #[t,t] ty #[a.eval x,a.eval y]).run P w= .ok v' w'/\Bh X π' st' a w'/\Bm X w' π' st'.heap av v':=by
 unfold Se at he
 split at he
 ·exact nw hT h dst t ty x y av st' he
 ·rename_i te e hg
  obtain ⟨lx,Yl⟩:=mo hg
  split at he
  rotate_left
  ·cases he
  rename_i l off len m Aa1 tQ hx hy
  split at he
  rotate_left
  ·cases he
  rename_i e1 te1 A kp1 e2 wJ B kp2 hl hm
  split at he
  rotate_left
  ·cases he
  rename_i hc
  obtain ⟨⟨rfl,rfl⟩,hc,⟨rfl,rfl⟩,⟨rfl,rfl⟩,hB,pe⟩:=hc
  simp only [Af,Nv,Rn,Es] at hc
  obtain ⟨⟨rfl,rfl⟩,rk,hmp,ji⟩:=hc
  have ji:m≠l:= λe=>by rw [e,Nat.beq_refl] at ji;cases ji
  simp only [Aa,Ae] at he
  obtain ⟨rfl,rfl⟩:=he
  have hu:=hT.elem t wJ lx
  obtain ⟨i,hi,Vv,rj,tt⟩:=(hT.ty wJ _ Yl).info
  have Vv:i.size=1:=Vv
  unfold St.at at hl hm
  have hrx:=Dt h.2 x
  have hry:=Dt h.2 y
  rw [hx] at hrx;rw [hy] at hry
  obtain ⟨b1,s1,n1,q1,q2,_,hox⟩:=hrx
  rw [hl] at q1;cases q1
  simp only [OB.row,Aa,Ae] at q2
  obtain ⟨rfl,rfl⟩:=q2
  obtain ⟨b2,s2,n2,q1,q2,_,hoy⟩:=hry
  rw [hm] at q1;cases q1
  simp only [OB.row,Aa,Ae] at q2
  obtain ⟨rfl,rfl⟩:=q2
  have hA:=((h.1.heap l).Rz hl).1
  have hBb:=((h.1.heap m).Rz hm).1
  cases SU:π m with
  |none=>
   rw [SU] at hBb
   have hBb:B= []:=hBb
   subst hBb;simp at hB
  |some rB=>
  rw [SU] at hBb hoy
  obtain ⟨fB,Avw,tiB,uB,RB,w1B,w2B,w3B,w4B,w5B,w6B,w7B,LB⟩:=xo hBb
  obtain ⟨adB,hvy,hcB,haB⟩:=hoy
  have haB:=haB (by omega)
  subst haB
  have hlB:=LB.1
  have n1':uB.length=B.length*i.size:=by rw [Vv,Fg];exact hlB
  have n2': ∀j u,uB[j]?=some u->w.cell? ((⟨rB.g,(rB.o+0)*1,none⟩:Addr).add j)=some u:= λj u hu=>by
   rw [Addr.add_lit,cellOf w1B,Fg,En];exact w5B j u hu
  have tn:(A.length+B.length)*i.bytes<=140737488355328:=by
   have:(A.length+B.length)*i.bytes<=4294967296*256:=Nat.mul_le_mul pe rj
   omega
  have jl:A.length+B.length<=maxLen:=by unfold Dk at pe;simp only [maxLen];omega
  have hzs:(Bz (Ty.slice e2) (Bp (Ty.slice e2))).cells.size=1:=by simp [Bz,Ty.Aq,Bp,Value.cells]
  have Wm: ∀(k:Nat) (q:Real) (Rs:List (Option Real)),π k=some q->(∀(i:Nat) (p:Real),Rs[i]?=some (some p)->q.Cr p.g/\p.g≠q.g)-> ∀(i:Nat) (p:Real),Rs[i]?=some (some p)->p.g<w.heap.size:= λk q Rs h1 h2 i p h3=>
   (h.1.place k q _ h1 (h.1.sub k q _ h1 (h2 i p h3).1)).2
  cases kT:π l with
  |none=>
   rw [kT] at hA hox
   have hA:A= []:=hA
   subst hA
   obtain ⟨hvx,_,_⟩:=hox
   rw [hvx,hvy]
   simp only [Ex,Ce,iH] at pe tn jl⊢
   have hr:=run_append_nil (P:=P) w t ty wJ i _ hu hi tt ⟨rB.g,(rB.o+0)*1,none⟩ B.length (rB.cap-0) uB n1' n2' hB (by simp only [maxLen] at jl;omega) (by omega)
   have vM:=grownCap_ge w B.length 0 wJ
   have hcm:=grownCap_le_maxLen w B.length 0 wJ (by omega)
   obtain ⟨π',g1,g2⟩:=Zv (w1:=w.drew.alloc (.cells (uB.toArray++Builtin.zeroCells (Bz (Ty.slice e2) (Bp (Ty.slice e2))).cells (grownCap w B.length 0 wJ-B.length)) wJ)) (gv:= λ_=>False) h rk hmp wJ (e:=e2) (rows:=B) (us:=uB) (Rs:=RB) (g:=w.heap.size) (o:=0) (cap:=grownCap w B.length 0 wJ)
    (λ_ hf=>hf.elim) (q9 w _) ⟨.inl (Ap _),by simp⟩ (heap_alloc_new w.drew _) (by rw [Array.size_append,Ha,Ut,hzs];omega) hcm vM (λj u hu=>by
     have hj:=(Am.1 hu).1
     rw [Ce,Tu (by simpa using hj)];simpa using hu)
    LB (λi q h1=>⟨by have:=Wm m rB RB SU w7B i q h1;omega,λh=>h,m,rB, .inr rfl,SU,(w7B i q h1).1⟩)
   exact ⟨_,_,π',hr,g1,g2 _ rfl⟩
  |some rA=>
   rw [kT] at hA hox
   obtain ⟨fA,SE,tiA,uA,RA,w1A,w2A,w3A,w4A,w5A,w6A,w7A,LA⟩:=xo hA
   obtain ⟨adA,hvx,hcA,haA⟩:=hox
   have hlA:=LA.1
   rw [hvx,hvy]
   have apart: ∀(i j:Nat) (q q':Real),RA[i]?=some (some q)->RB[j]?=some (some q')->q.g≠q'.g:= λi j q q' h1 h2 e=>by
    have:=h.1.apart kT SU (w7A i q h1).1 (e▸(w7B j q' h2).1)
    exact ji this.symm
   have LAB:=sr.append LA LB apart
   have Jr: ∀(i:Nat) (q:Real),RB[i]?=some (some q)->q.g≠rA.g:= λi q h1 e=>ji (h.1.apart SU kT (w7B i q h1).1 (e▸fA))
   have hRs: ∀(i:Nat) (q:Real),(RA++RB)[i]?=some (some q)->q.g≠rA.g/\q.g<w.heap.size/\ ∃k p,(k=l\/k=m)/\π k=some p/\p.Cr q.g:= λi q h1=>by
    by_cases hi:i<RA.length
    ·rw [At hi] at h1
     exact ⟨(w7A i q h1).2,Wm l rA RA kT w7A i q h1,l,rA, .inl rfl,kT,(w7A i q h1).1⟩
    ·rw [Ar (by omega)] at h1
     exact ⟨Jr _ q h1,Wm m rB RB SU w7B _ q h1,m,rB, .inr rfl,SU,(w7B _ q h1).1⟩
   by_cases EL:A.length+B.length<=rA.cap-0
   ·have haA:=haA (by omega)
    subst haA
    have Yi:(rA.o+0)*1+A.length*i.size+uB.length<=SE.size:=by rw [Vv];omega
    have Zw:(rA.o+0)*1+A.length*i.size+uB.length<=SE.toList.length:=by simpa using Yi
    have hr:=aN (P:=P) (w:=w) (ty:=ty) hu hi rA.g ((rA.o+0)*1) A.length (rA.cap-0) SE tiA w1A ⟨rB.g,(rB.o+0)*1,none⟩ B.length (rB.cap-0) uB n1' n2' w6B EL Yi
    have tq:=Ob w rA.g (Dv SE.toList ((rA.o+0)*1+A.length*i.size) uB).toArray
    obtain ⟨π',g1,g2⟩:=Zv (w1:=w.setRow rA.g (Dv SE.toList ((rA.o+0)*1+A.length*i.size) uB).toArray) (gv:= λb=>b=rA.g) h rk hmp wJ (e:=e2) (rows:=A++B) (us:=uA++uB) (Rs:=RA++RB) (g:=rA.g) (o:=rA.o) (cap:=rA.cap)
     (λb hb=>⟨l,rA, .inl rfl,kT,hb▸fA⟩) ⟨tq.os,tq.tape,tq.output,tq.size,λc _ hc=>setRow_other w rA.g c _ hc⟩ ⟨.inr ⟨l,rA, .inl rfl,kT,fA⟩,Eh (Gi w1A) tq.size⟩
     (setRow_heap w rA.g SE _ tiA _ w1A) (by rw [Ha,Jo _ _ _ Zw,Xs];exact w2A) w3A (by simp;omega) (λj u hu=>by
      rw [Ix,Iv _ _ _ _ Zw,Vv]
      by_cases hj:j<uA.length
      ·rw [At hj] at hu
       rw [Ab (by omega),Array.getElem?_toList]
       exact w5A j u hu
      ·rw [Ar (by omega)] at hu
       have:=(Am.1 hu).1
       rw [Ai (by omega),Ab (by omega)]
       rw [show rA.o+j-((rA.o+0)*1+A.length*1)=j-uA.length by omega]
       exact hu)
     LAB (λi q h1=>⟨(hRs i q h1).1,(hRs i q h1).1,(hRs i q h1).2.2⟩)
    have:=g2 (A.length+B.length) (by simp)
    have e0:(rA.o+0)*1=rA.o:=by omega
    simp only [e0,Nat.sub_zero] at hr g1 this⊢
    exact ⟨_,_,π',hr,g1,this⟩
   ·have hold: ∀j u,uA[j]?=some u->w.cell? (adA.add j)=some u:=by
     intro j u hu
     have hj:=(Am.1 hu).1
     rw [haA (by omega),Addr.add_lit,cellOf w1A,Fg,En];exact w5A j u hu
    have hr:=run_append_grow (P:=P) w t ty wJ i _ hu hi tt adA A.length (rA.cap-0) uA (by rw [Vv,Fg];exact hlA) hold ⟨rB.g,(rB.o+0)*1,none⟩ B.length (rB.cap-0) uB n1' n2' (by omega) (by simp only [maxLen] at jl;omega) (growslice_fits (by omega) tn)
    have vM:=grownCap_ge w (A.length+B.length) (rA.cap-0) wJ
    have hcm:=grownCap_le_maxLen w (A.length+B.length) (rA.cap-0) wJ jl
    obtain ⟨π',g1,g2⟩:=Zv (w1:=w.drew.alloc (.cells (uA.toArray++uB.toArray++Builtin.zeroCells (Bz (Ty.slice e2) (Bp (Ty.slice e2))).cells (grownCap w (A.length+B.length) (rA.cap-0) wJ-(A.length+B.length))) wJ)) (gv:= λ_=>False) h rk hmp wJ (e:=e2) (rows:=A++B) (us:=uA++uB) (Rs:=RA++RB) (g:=w.heap.size) (o:=0) (cap:=grownCap w (A.length+B.length) (rA.cap-0) wJ)
     (λ_ hf=>hf.elim) (q9 w _) ⟨.inl (Ap _),by simp⟩ (heap_alloc_new w.drew _) (by rw [Array.size_append,Array.size_append,Ha,Ha,Ut,hzs];omega) hcm (by simpa using vM) (λj u hu=>by
      have hj:=(Am.1 hu).1
      rw [Ce,Tu (by simpa using hj)];simpa using hu)
     LAB (λi q h1=>⟨by have:=(hRs i q h1).2.1;omega,λh=>h,(hRs i q h1).2.2⟩)
    exact ⟨_,_,π',hr,g1,g2 _ (by simp)⟩
theorem lY: ∀τ:Ty,Gd X w π H (zeroCells τ) (Bp τ):=by
 have one: ∀(c:AC) (v:Value),v.oneCell'=true->Ib X w π H c v->Gd X w π H [c] [v]:= λc v h1 h2=>⟨rfl,λi c' hc=>by
  rcases i with _|i
  ·simp at hc;subst hc;exact ⟨v,rfl,h1,h2⟩
  ·simp at hc⟩
 intro τ
 induction τ with
 |unit=>exact ⟨rfl,λi c hc=>by simp [zeroCells] at hc⟩
 |pair a r iA iw=>
  refine ⟨by simp [zeroCells,Bp,iA.1,iw.1],λi c hc=>?_⟩
  simp only [zeroCells] at hc
  simp only [Bp]
  by_cases hi:i<(zeroCells a).length
  ·rw [At hi] at hc
   obtain ⟨u,hu,h⟩:=iA.2 i c hc
   exact ⟨u,by rw [At (by rw [iA.1];exact hi)];exact hu,h⟩
  ·rw [Ar (by omega)] at hc
   obtain ⟨u,hu,h⟩:=iw.2 _ c hc
   exact ⟨u,by rw [Ar (by rw [iA.1];omega),iA.1];exact hu,h⟩
 |int k=>exact one (.data true _ _) _ rfl (Ns (H:=H) k 0 true)
 |bool=>exact one (.data true _ _) _ rfl (Mo (H:=H) false true)
 |str=>exact one (.data true _ _) _ rfl (mE (H:=H) ByteArray.empty true)
 |slice e=>exact one _ _ rfl rfl
 |oslice e=>exact one _ _ rfl rfl
 |ptr e=>exact one _ _ rfl rfl
 |optr e=>exact one _ _ rfl rfl
 |smap v=>exact one (.data true _ _) _ rfl ⟨[.map none], .inl ⟨rfl,rfl⟩,by simp [Bz,Ty.Aq]⟩
 |clo f c=>exact one .undef .nilFunc rfl trivial
theorem vq: ∀τ:Ty,Gd X w π H (Qs τ) (Bp τ):=by
 have one: ∀(c:AC) (v:Value),v.oneCell'=true->Ib X w π H c v->Gd X w π H [c] [v]:= λc v h1 h2=>⟨rfl,λi c' hc=>by
  rcases i with _|i
  ·simp at hc;subst hc;exact ⟨v,rfl,h1,h2⟩
  ·simp at hc⟩
 intro τ
 induction τ with
 |unit=>exact ⟨rfl,λi c hc=>by simp [Qs] at hc⟩
 |pair a r iA iw=>
  refine ⟨by simp [Qs,Bp,iA.1,iw.1],λi c hc=>?_⟩
  simp only [Qs] at hc
  simp only [Bp]
  by_cases hi:i<(Qs a).length
  ·rw [At hi] at hc
   obtain ⟨u,hu,h⟩:=iA.2 i c hc
   exact ⟨u,by rw [At (by rw [iA.1];exact hi)];exact hu,h⟩
  ·rw [Ar (by omega)] at hc
   obtain ⟨u,hu,h⟩:=iw.2 _ c hc
   exact ⟨u,by rw [Ar (by rw [iA.1];omega),iA.1];exact hu,h⟩
 |int k=>exact one (.data false _ _) _ rfl (Ns (H:=H) k 0 false)
 |bool=>exact one (.data false _ _) _ rfl (Mo (H:=H) false false)
 |str=>exact one (.data false _ _) _ rfl (mE (H:=H) ByteArray.empty false)
 |slice e=>exact one (.data false _ _) _ rfl ⟨[.slice none 0 0],⟨none,0,0,rfl,rfl,Ap _, .inl rfl⟩,by simp [Bz,Ty.Aq]⟩
 |oslice e=>exact one _ _ rfl rfl
 |ptr e=>exact one _ _ rfl rfl
 |optr e=>exact one _ _ rfl rfl
 |smap v=>exact one (.data false _ _) _ rfl ⟨[.map none], .inl ⟨rfl,rfl⟩,by simp [Bz,Ty.Aq]⟩
 |clo f c=>exact one .undef .nilFunc rfl trivial
theorem dZ (hT:Ed P T) {st:St} {a:Act} (h:Bh X π st a w) (t:TypeId) (Ov:Array (Nat×Nat))
  (kT: ∀f o u ρ,T.off t f=some (o,u)->T.ty u=some ρ->Ov[f]?=some (o,ρ.size)): ∀(parts:List (Nat×Operand)) (cs j0:List AC) (us:List Value),Gd X w π st.heap cs us->
  Mz T st t parts cs=some j0-> ∃Xi:List Value,Instr.fill (λi=>Ov[i]?) us.toArray (parts.map λp=>(p.1,a.eval p.2))=some Xi.toArray/\Gd X w π st.heap j0 Xi
 | [],cs,j0,us,hr,he=>by
  simp only [Mz,Aa] at he;subst he
  exact ⟨us,rfl,hr⟩
 |(f,x)::r,cs,j0,us,hr,he=>by
  simp only [Mz] at he
  split at he
  ·rename_i o u ho
   split at he
   ·rename_i ρ hρ
    split at he
    ·rename_i c hc
     split at he
     ·rename_i hle
      obtain ⟨vs,hv,hl,YT⟩:=iS (Dt h.2 x) hc
      have e1:=hr.1
      have e2:=YT.1
      obtain ⟨Xi,g1,g2⟩:=dZ hT h t Ov kT r _ j0 _ (uT hr YT o hle) he
      refine ⟨Xi,?_,g2⟩
      simp only [Ca]
      rw [xl _ us f (a.eval x) _ o ρ.size vs (kT f o u ρ ho hρ) hv hl (by omega)]
      exact g1
     ·cases he
    ·cases he
   ·cases he
  ·cases he
theorem gO (hT:Ed P T) {st:St} {a:Act} (h:Bh X π st a w) (t:TypeId) (parts:Array (Nat×Operand)) (av:AV) (he:Yc T st t parts=some av):
  ∃v',(Instr.build t (parts.map λ(i,x)=>(i,a.eval x))).run P w= .ok v' w/\Bm X w π st.heap av v':=by
 unfold Yc at he
 split at he
 ·cases he
 ·rename_i τ Yl
  split at he
  ·rename_i hs
   cases hb:Mz T st t parts.toList (zeroCells τ) with
   |none=>rw [hb] at he;cases he
   |some j0=>
    rw [hb] at he
    simp only [Al,Aa] at he;subst he
    obtain ⟨fs,Ov,h1,h2,h3⟩:=hT.fill t τ Yl hs
    obtain ⟨i,hi,Vv,rj,tt⟩:=(hT.ty t τ Yl).info
    obtain ⟨Xi,g1,g2⟩:=dZ hT h t Ov h3 parts.toList (zeroCells τ) j0 (Bp τ) (lY τ) hb
    refine ⟨.agg Xi.toArray,?_,Xi,rfl,g2⟩
    have hz:(zeroValue t).run P w= .ok (Bz τ (Bp τ)) w:=by simp [zeroValue,typeInfo,hi,tt]
    have YZ:(Bz τ (Bp τ)).cells=(Bp τ).toArray:=by simp [Bz,hs,Value.cells]
    have h2':=h2 w
    unfold placesOf at h2'
    have e1:(parts.map λ(i,x)=>(i,a.eval x)).toList=parts.toList.map λp=>(p.1,a.eval p.2):=by simp
    simp only [Instr.build,Sem.run_bind,hz,Result.andThen_ok,run_underlying h1,h2',YZ,e1,g1,Sem.run_pure]
  ·cases he
theorem uF {st:St} {v:AV} (h:v.settled=true):settle st v=some (v,st):=by
 cases v with
 | «at»a=>cases a<;>simp [AV.settled,AC.settled] at h<;>simp [settle,AC.settled]
 |agg cs=>
  have hs:cs.all (·.settled)=true:=h
  have:Ie cs.length st cs=some (cs,st):=by
   cases hn:cs.length with
   |zero=>simp [Ie,hs]
   |succ n=>
    have hf:cs.find? (λc=>!c.settled)=none:=List.find?_eq_none.2 λc hc=>by simpa using Az.1 hs c hc
    simp [Ie,hf]
  simp [settle,this]
 |bF fr τ x=>rfl
 |Ng l=>simp [AV.settled] at h
theorem o5 {e:Ty} {st:St} : ∀(parts:List (Nat×Operand)) (i:Nat) (fr:Bool) (ys:List e.den),fX e i parts st=some (fr,ys)-> ∃tr,Ly e i parts st=some (fr,tr,ys,st)
 | [],i,fr,ys,h=>by
  simp only [fX,Aa,Ae] at h
  obtain ⟨rfl,rfl⟩:=h
  exact ⟨true,rfl⟩
 |(j,x)::r,i,fr,ys,h=>by
  simp only [fX] at h
  split at h
  ·rename_i hc
   split at h
   ·rename_i f1 y f2 zs h1 h2
    simp only [Aa,Ae] at h
    obtain ⟨rfl,rfl⟩:=h
    obtain ⟨tr,h3⟩:=o5 r (i+1) f2 zs h2
    refine ⟨Ts st (st.ev x)&&e.tree&&tr,?_⟩
    simp only [Ly]
    rw [Ab hc.1,uF hc.2]
    simp only [h1,h3]
   ·cases h
  ·cases h
theorem oZ (hT:Ed P T) {st:St} {a:Act} (h:Bh X π st a w) (t:TypeId) (len:Nat) (parts:Array (Nat×Operand)) (av:AV) (he:bQ T st t len parts=some av):
  ∃v' w' π',(Instr.buildSlice t len (parts.map λ(i,x)=>(i,a.eval x))).run P w= .ok v' w'/\Bh X π' st a w'/\Bm X w' π' st.heap av v':=by
 unfold bQ at he
 split at he
 ·cases he
 ·rename_i te lx
  split at he
  ·cases he
  ·rename_i e Yl
   split at he
   ·rename_i Ki
    obtain ⟨kT,hlen⟩:=Ki
    cases hp:fX e 0 parts.toList st with
    |none=>rw [hp] at he;cases he
    |some p=>
     obtain ⟨fr,ys⟩:=p
     rw [hp] at he
     simp only [Al,Aa] at he
     subst he
     obtain ⟨tr,hb⟩:=o5 _ _ _ _ hp
     obtain ⟨i,hi,Vv,rj,tt⟩:=(hT.ty te e Yl).info
     have hu:=hT.elem t te lx
     have SO:parts.toList.length=len:=by simpa using kT
     have hz: ∃z:Array Value,(len*e.size=0/\z= #[])\/(¬len*e.size=0/\(zeroValue te).run P w= .ok (Bz e (Bp e)) w/\z=(Bz e (Bp e)).cells):=by
      by_cases h0:len*e.size=0
      ·exact ⟨#[], .inl ⟨h0,rfl⟩⟩
      ·exact ⟨_, .inr ⟨h0,by simp [zeroValue,typeInfo,hi,tt],rfl⟩⟩
     obtain ⟨z,hz⟩:=hz
     obtain ⟨cz,cl,g1,g2,g3,g4,g5,g6⟩:=Xy e parts.toList 0 st π fr tr ys st ((Array.range (len*e.size)).map (z[· %z.size]!)).toList h hb (by simp [SO])
     have Qj:cl.length=len*e.size:=by rw [g2.1,g3,SO]
     have YW:(Dv ((Array.range (len*e.size)).map (z[· %z.size]!)).toList (0*e.size) cl)=cl:=by
      simp [Dv,Qj]
     rw [YW] at g5
     have Vw:(Instr.buildSlice t len (parts.map λ(i,x)=>(i,a.eval x))).run P w= .ok (.slice (some ⟨w.heap.size,0,none⟩) len len) (w.alloc (.cells cl.toArray te)):=by
      have h24: ¬(len*e.size>2^24):=by
       have:len*e.size<=64*64:=Nat.mul_le_mul hlen.1 hlen.2
       omega
      simp only [Instr.buildSlice,Sem.run_bind,run_underlying hu,Result.andThen_ok,(hT.ty te e Yl).size,Ai h24]
      have e1:(parts.map λ(i,x)=>(i,a.eval x)).toList=parts.toList.map λp=>(p.1,a.eval p.2):=by simp
      simp only [e1]
      have e2:(((Array.range (len*e.size)).map (z[· %z.size]!)).toList.toArray)=(Array.range (len*e.size)).map (z[· %z.size]!):=Array.toArray_toList
      rw [e2] at g5
      rcases hz with ⟨h0,rfl⟩|⟨h0,hz,rfl⟩
      ·rw [Ab h0]
       simp only [Sem.run_bind,Sem.run_pure,Result.andThen_ok,g5,newRow]
       simp
      ·rw [Ai h0]
       simp only [Sem.run_bind,Sem.run_pure,Result.andThen_ok,hz,g5,newRow]
       simp
     have KF:(w.alloc (.cells cl.toArray te)).heap[w.heap.size]?=some (.cells cl.toArray te (0,0)):=heap_alloc_new w _
     have hB:Below w.heap.size w (w.alloc (.cells cl.toArray te)):=(Below.refl _ _).alloc (Ap _) _
     have Li:=Gi KF
     refine ⟨_,_,cz,Vw,g1.quiet hB,⟨[_],?_,rfl⟩⟩
     refine ⟨some ⟨w.heap.size,0,none⟩,len,len,rfl,by rw [g3,SO],Ap _, .inr ⟨w.heap.size,0,rfl,Li,λhA=>?_,λk x hx=>?_⟩⟩
     ·rcases hA with hA|hA|⟨_,hA⟩
      ·exact absurd (g1.1.own hA).1 (Nat.lt_irrefl _)
      ·exact absurd (Eh (g1.1.sc _ hA).1 g1.1.below.size) (Nat.lt_irrefl _)
      ·exact absurd (Eh hA g1.1.below.size) (Nat.lt_irrefl _)
     ·obtain ⟨es,k1,k2,k3⟩:=g2.2 k x hx
      refine ⟨es,k1,λj u hu=>?_,Cells.Fp hB.size (λb hb _=>hB.block b hb) (λ_ _ h=>h) e es x k3⟩
      rw [cellOf KF,Ce]
      simpa using k2 j u hu
   ·cases he
theorem DQ {Γ:Env} (hT:Ed P T) (Po:Ll P Γ) {st:St} {a:Act} (h:Bh X π st a w) (o:Oper) (av:AV) (he:Xn T Γ st o=some av):
  iE P X st a w av ((execOp a.eval o).run P w):=by
 obtain ⟨dst,op,ty,pos,af,gd⟩:=o
 have val: ∀(s:Sem Value) (v:Value) (w':World) (π':Pi),s.run P w= .ok v w'->Bh X π' st a w'->Bm X w' π' st.heap av v->(execOp a.eval ⟨dst,op,ty,pos,af,gd⟩=do pure (.value (<-s)))->
   iE P X st a w av ((execOp a.eval ⟨dst,op,ty,pos,af,gd⟩).run P w):=by
  intro s v w' π' h1 h2 h3 h4
  rw [h4,Sem.run_bind,h1]
  exact ⟨π',h2,h3⟩
 have quiet:Fc T Γ st ⟨dst,op,ty,pos,af,gd⟩=some av->iE P X st a w av ((execOp a.eval ⟨dst,op,ty,pos,af,gd⟩).run P w):=by
  intro hq
  have:=j7 hT Po h _ av hq
  generalize (execOp a.eval ⟨dst,op,ty,pos,af,gd⟩).run P w=r at*
  cases r with
  |halt x w'=>exact this
  |ok n w'=>
   cases n<;>simp only [OS] at this<;>simp only [iE]
   ·obtain ⟨rfl,hr⟩:=this
    exact ⟨π,h,hr⟩
   ·obtain ⟨rfl,hc⟩:=this
    exact ⟨rfl,hc.mono λe qV ⟨v,hv,hb,hr⟩=>⟨v,hv,π,h.quiet hb,hr⟩⟩
 unfold Xn at he
 split at he
 ·rename_i t len parts sa
  dsimp only at sa;subst sa
  obtain ⟨v,w',π',h1,h2,h3⟩:=oZ hT h t len parts av he
  exact val _ v w' π' h1 h2 h3 rfl
 ·rename_i t parts sa
  dsimp only at sa;subst sa
  obtain ⟨v',h1,h2⟩:=gO hT h t parts av he
  exact val _ v' w π h1 h h2 rfl
 ·exact quiet he
theorem dM {a:Act} : ∀(l:List Operand) {π:Pi} {st st1:St},Bh X π st a w->Ny l st=some st1-> ∃π',Bh X π' st1 a w
 | [],π,st,st1,h,he=>by
  simp only [Ny,Aa] at he
  subst he
  exact ⟨π,h⟩
 |x::r,π,st,st1,h,he=>by
  simp only [Ny] at he
  cases hs:settle st (st.ev x) with
  |none=>rw [hs] at he;cases he
  |some p=>
   rw [hs] at he
   obtain ⟨cz,h1,_⟩:=cn h (Dt h.2 x) hs
   exact dM r h1 he
theorem HN {a:Act} {st:St} (h:Bh X π st a w) (p x:Operand): ∃π',Bh X π' (Pc T st p x) a w:=by
 unfold Pc
 split
 ·split
  ·split
   ·rename_i hs;exact dM _ h hs
   ·exact ⟨π,h⟩
  ·exact ⟨π,h⟩
 ·exact ⟨π,h⟩
theorem yT {Γ:Env} (hT:Ed P T) (Po:Ll P Γ) {st:St} {a:Act} (h:Bh X π st a w) (o:Oper) (av:AV) (st':St) (he:evalOp T Γ st o=some (av,st')):
  iE P X st' a w av ((execOp a.eval o).run P w):=by
 have quiet: ∀ {π:Pi} {st:St},Bh X π st a w->(Fc T Γ st o).map (λv=>(v,st))=some (av,st')->iE P X st' a w av ((execOp a.eval o).run P w):=by
  intro π st h he
  cases hq:Fc T Γ st o with
  |none=>rw [hq] at he;cases he
  |some v=>
   rw [hq] at he
   simp only [Al,Aa,Ae] at he
   obtain ⟨rfl,rfl⟩:=he
   have:=j7 hT Po h o v hq
   generalize (execOp a.eval o).run P w=r at*
   cases r with
   |halt x w'=>exact this
   |ok n w'=>
    cases n<;>simp only [OS] at this<;>simp only [iE]
    ·obtain ⟨rfl,hr⟩:=this
     exact ⟨π,h,hr⟩
    ·obtain ⟨rfl,hc⟩:=this
     exact ⟨rfl,hc.mono λe qV ⟨v,hv,hb,hr⟩=>⟨v,hv,π,h.quiet hb,hr⟩⟩
 obtain ⟨dst,op,ty,pos,af,gd⟩:=o
 have val: ∀(s:Sem Value) (v:Value) (w':World) (π':Pi),s.run P w= .ok v w'->Bh X π' st' a w'->Bm X w' π' st'.heap av v->(execOp a.eval ⟨dst,op,ty,pos,af,gd⟩=do pure (.value (<-s)))->
   iE P X st' a w av ((execOp a.eval ⟨dst,op,ty,pos,af,gd⟩).run P w):=by
  intro s v w' π' h1 h2 h3 h4
  rw [h4,Sem.run_bind,h1]
  exact ⟨π',h2,h3⟩
 unfold evalOp at he
 split at he
 all_goals (rename_i sa;dsimp only at sa;try subst sa)
 ·
  rename_i x
  split at he
  ·rename_i d te e hx hd ht
   split at he
   ·rename_i KG
    simp only [Aa,Ae] at he
    obtain ⟨rfl,rfl⟩:=he
    obtain ⟨k1,k2,_⟩:=tZ h d KG (T.vu||e.flat) T.CB te e
    have YY:=Dt h.2 x
    rw [hx] at YY
    have hxv:a.eval x= .slice none 0 0:=YY
    show iE P X _ a w _ (.ok (.value (a.eval x)) w)
    rw [hxv]
    exact ⟨_,k1,k2⟩
   ·cases he
  ·simp only [Aa,Ae] at he
   obtain ⟨rfl,rfl⟩:=he
   exact ⟨π,h,Dt h.2 x⟩
 ·
  rename_i t
  split at he
  ·rename_i d τ hd ht
   obtain ⟨i,hi,Vv,rj,tt⟩:=(hT.ty t τ ht).info
   have hk: ∃π',Bh X π' st' a (w.alloc (.cells (Bp τ).toArray t))/\Bm X (w.alloc (.cells (Bp τ).toArray t)) π' st'.heap av (.pointer (some ⟨w.heap.size,0,none⟩)):=by
    split at he
    ·exact zx h d t (Qs τ) (Bp τ) (vq τ) av st' he
    ·exact qB h d t τ (zeroCells τ) (Bp τ) (lY τ) av st' he
   obtain ⟨π',k1,k2⟩:=hk
   have YZ:(Bz τ (Bp τ)).cells=(Bp τ).toArray:=by
    cases τ<;>simp [Bz,Ty.Aq,Value.cells,Bp]
   refine val (Instr.alloc t true (.tuple #[])) _ _ π' ?_ k1 k2 rfl
   simp [Instr.alloc,zeroValue,typeInfo,hi,tt,newVar,newRow,YZ]
  ·cases he
 ·
  rename_i t x
  split at he
  ·rename_i d τ hd ht
   split at he
   ·rename_i cs hc
    obtain ⟨us,hv,hl,hr⟩:=iS (Dt h.2 x) hc
    have hk: ∃π',Bh X π' st' a (w.alloc (.cells us.toArray t))/\Bm X (w.alloc (.cells us.toArray t)) π' st'.heap av (.pointer (some ⟨w.heap.size,0,none⟩)):=by
     split at he
     ·split at he
      ·rename_i Pn
       cases hvc:Fb st τ cs with
       |none=>rw [hvc] at he;cases he
       |some p=>
        obtain ⟨fr,y⟩:=p
        rw [hvc] at he
        simp only [Al,Aa,Ae] at he
        obtain ⟨rfl,rfl⟩:=he
        have Qj:=Xf τ cs us fr y Pn hr hvc
        have hB:Below w.heap.size w (w.alloc (.cells us.toArray t)):=(Below.refl _ _).alloc (Ap _) _
        have KF:(w.alloc (.cells us.toArray t)).heap[w.heap.size]?=some (.cells us.toArray t (0,0)):=heap_alloc_new w _
        refine ⟨π,h.quiet hB,[_], .inr ⟨y,w.heap.size,0,rfl,rfl,Gi KF,λhA=>?_,us,hl,λj u hu=>?_,Cells.Fp hB.size (λb hb _=>hB.block b hb) (λb _ hA=>?_) τ us y Qj⟩,by simp [Bz,Ty.Aq]⟩
        ·rcases hA with hA|hA|⟨hf,_⟩
         ·exact absurd (h.1.own hA).1 (Nat.lt_irrefl _)
         ·exact absurd (Eh (h.1.sc _ hA).1 h.1.below.size) (Nat.lt_irrefl _)
         ·cases hf
        ·rw [cellOf KF,Ce];simpa using hu
        ·exact hA.imp id (Or.imp id λ⟨h1,_⟩=>by cases h1)
      ·cases he
     ·exact qB h d t τ cs us hr av st' he
    obtain ⟨π',k1,k2⟩:=hk
    refine val (Instr.box t (a.eval x)) _ _ π' ?_ k1 k2 rfl
    simp [Instr.box,newVar,newRow,hv]
   ·cases he
  ·cases he
 ·
  rename_i t p x
  obtain ⟨π0,h⟩:=HN (T:=T) h p x
  cases hs:Qh T (Pc T st p x) t ((Pc T st p x).ev p) ((Pc T st p x).ev x) with
  |none=>rw [hs] at he;cases he
  |some s=>
   rw [hs] at he
   simp only [Al,Aa,Ae] at he
   obtain ⟨rfl,rfl⟩:=he
   obtain ⟨w',π',h1,h2⟩:=p9 hT h t _ _ _ _ (Dt h.2 p) (Dt h.2 x) s hs
   have:(execOp a.eval ⟨dst, .store t p x,ty,pos,af,gd⟩).run P w= .ok .skip w':=by
    show (do Instr.storeAt t (a.eval p) (a.eval x);pure Next.skip:Sem Next).run P w=_
    rw [Sem.run_bind,h1];rfl
   rw [this]
   exact ⟨π',h2,trivial⟩
 ·
  rename_i t l c
  split at he
  ·rename_i d hd
   obtain ⟨v,w',π',h1,h2,h3⟩:=rf hT h d t _ _ _ _ (Dt h.2 l) (Dt h.2 c) av st' he
   exact val _ v w' π' h1 h2 h3 rfl
  ·cases he
 ·
  rename_i t
  split at he
  ·rename_i d hd
   obtain ⟨v,w',π',h1,h2,h3⟩:=nB hT h d t av st' he
   exact val _ v w' π' h1 h2 h3 rfl
  ·cases he
 ·
  rename_i t m k x
  cases hs:Jw T st t (st.ev m) (st.ev k) (st.ev x) with
  |none=>rw [hs] at he;cases he
  |some s=>
   rw [hs] at he
   simp only [Al,Aa,Ae] at he
   obtain ⟨rfl,rfl⟩:=he
   obtain ⟨w',h1,h2⟩:=eh hT h t _ _ _ _ _ _ (Dt h.2 m) (Dt h.2 k) (Dt h.2 x) s hs
   have:(execOp a.eval ⟨dst, .mapUpdate t m k x,ty,pos,af,gd⟩).run P w= .ok .skip w':=by
    show (do Instr.mapUpdate t (a.eval m) (a.eval k) (a.eval x);pure Next.skip:Sem Next).run P w=_
    rw [Sem.run_bind,h1];rfl
   rw [this]
   exact ⟨π,h2,trivial⟩
 ·
  rename_i t m k x
  cases hs:Jw T st t (st.ev m) (st.ev k) (st.ev x) with
  |none=>rw [hs] at he;cases he
  |some s=>
   rw [hs] at he
   simp only [Al,Aa,Ae] at he
   obtain ⟨rfl,rfl⟩:=he
   obtain ⟨w',h1,h2⟩:=eh hT h t _ _ _ _ _ _ (Dt h.2 m) (Dt h.2 k) (Dt h.2 x) s hs
   have:(execOp a.eval ⟨dst, .insert t m k x,ty,pos,af,gd⟩).run P w= .ok .skip w':=by
    show (do Instr.mapUpdate t (a.eval m) (a.eval k) (a.eval x);pure Next.skip:Sem Next).run P w=_
    rw [Sem.run_bind,h1];rfl
   rw [this]
   exact ⟨π,h2,trivial⟩
 ·
  rename_i t len parts
  split at he
  ·rename_i d hd
   obtain ⟨v,w',π',h1,h2,h3⟩:=im hT h d t len parts av st' he
   exact val _ v w' π' h1 h2 h3 rfl
  ·cases he
 ·
  rename_i t parts
  cases hb:Yc T st t parts with
  |none=>rw [hb] at he;cases he
  |some v=>
   rw [hb] at he
   simp only [Al,Aa,Ae] at he
   obtain ⟨rfl,rfl⟩:=he
   obtain ⟨v',h1,h2⟩:=gO hT h t parts v hb
   exact val _ v' w π h1 h h2 rfl
 ·
  rename_i args ts
  split at he
  ·rename_i d x y t t' hd Rr tC
   split at he
   ·rename_i Vj;subst Vj
    have e1:args= #[x,y]:=by apply Pw;simpa using Rr
    have e2:ts= #[t,t]:=by apply Pw;simpa using tC
    subst e1;subst e2
    obtain ⟨v,w',π',h1,h2,h3⟩:=ny hT h d t ty x y av st' he
    refine val (Builtin.append_ #[t,t] ty #[a.eval x,a.eval y]) v w' π' h1 h2 h3 ?_
    simp [execOp,resolve,invoke,builtin]
   ·cases he
  ·cases he
 ·
  rename_i args ts
  split at he
  ·rename_i x y t t' Rr tC
   have e1:args= #[x,y]:=by apply Pw;simpa using Rr
   have e2:ts= #[t,t']:=by apply Pw;simpa using tC
   subst e1;subst e2
   obtain ⟨v,w',h1,h2,h3⟩:=sS hT h t t' ty _ _ _ _ (Dt h.2 x) (Dt h.2 y) av st' he
   refine val (Builtin.copy_ #[t,t'] ty #[a.eval x,a.eval y]) v w' π h1 h2 h3 ?_
   simp [execOp,resolve,invoke,builtin]
  ·cases he
 ·
  rename_i args ts
  split at he
  ·rename_i x t Rr tC
   have e1:args= #[x]:=by apply Pw;simpa using Rr
   have e2:ts= #[t]:=by apply Pw;simpa using tC
   subst e1;subst e2
   cases hs:evalClear T st t (st.ev x) with
   |none=>rw [hs] at he;cases he
   |some s=>
    rw [hs] at he
    simp only [Al,Aa,Ae] at he
    obtain ⟨rfl,rfl⟩:=he
    obtain ⟨v,w',h1,h2⟩:=re hT h t ty _ _ (Dt h.2 x) s hs
    refine val (Builtin.clear_ #[t] ty #[a.eval x]) v w' π h1 h2 trivial ?_
    simp [execOp,resolve,invoke,builtin]
  ·cases he
 ·
  rename_i f args ts
  split at he
  ·rename_i s An9
   have hs:Cp P f s:=Po f _ An9
   have:=r9 h hs dst (args.toList.map st.ev) (args.toList.map a.eval) (by simp) (λi c v=>jJ h args.toList i c v) av st' he
   rw [jM a.eval f args ts dst ty pos af gd rfl hs.enter]
   refine ⟨rfl,?_⟩
   rwa [show (args.toList.map a.eval).toArray=args.map a.eval from by apply Pw;simp] at this
  ·rename_i s An9
   split at he
   ·cases hs:Ny args.toList st with
    |none=>rw [hs] at he;cases he
    |some st1=>
     rw [hs] at he
     obtain ⟨cz,h1⟩:=dM args.toList h hs
     exact quiet h1 he
   ·exact quiet h he
  ·exact quiet h he
 ·exact quiet h he
end
end Go.Proofs.YtkkdpknjohcekaaGreat
