/-
  Part 23 of the proof that the statement FnSubgroups holds.
-/
import Derived.Test.YtkkdpknjohcekaaCFSubgroups21
namespace Go.Proofs.Ytkkdpknjohcekaa
open Go.RowKit
section
variable {P:Program} {T:Tab} {X:Ctx} {w w':World} {π:Pi} {H:List (Nat×OB)}
theorem yV {π':Pi} {st':St} {a:Act} (h:Bl X π' st' a w) (k:Kr π π' H st'.heap) {fr:Bool} (τ:Ty) (cs:List Value) (x:τ.den) (hc:Cells w (De X.w0.heap.size X.Sc π fr) τ cs x):
  Cells w (De X.w0.heap.size X.Sc π' fr) τ cs x:=
 Cells.Fm (Aq _) (λ_ _ _=>rfl) (λb _ hA=>by
  rcases hA with ⟨l,r,hl,hg⟩|h2
  ·have hh:=h.1.heap l
   cases hb:Aw st'.heap l with
   |none=>have:=hh.emp hb;rw [this] at hl;cases hl
   |some b'=>have:=(k l b' hb).1;rw [this] at hl;exact .inl ⟨l,r,hl,hg⟩
  ·exact .inr h2) τ cs x hc
theorem iw.drop {F:List Nat} {l:Nat} (h:iw X w π F):iw X w (Ww π l none) F:=
 ⟨h.1,λb hb=>⟨(h.2 b hb).1,(h.2 b hb).2.1,λm r hm=>by
  by_cases e:m=l
  ·subst e;rw [Gm] at hm;cases hm
  ·rw [Gi π none e] at hm;exact (h.2 b hb).2.2 m r hm⟩⟩
theorem ud {st:St} {a:Act} (h:Bl X π st a w) (l:Nat) (hl:l<Bp) (f0 t0:Bool) (te:TypeId) (e:Ty):
  Bl X (Ww π l none) (st.new l (.arr f0 t0 e te [])) a w/\Bq X w (Ww π l none) (st.new l (.arr f0 t0 e te [])).heap (.at (.own l 0 0)) (.slice none 0 0)/\
   ∀fr τ cs x,Cells w (De X.w0.heap.size X.Sc π fr) τ cs x->Cells w (De X.w0.heap.size X.Sc (Ww π l none) fr) τ cs x:=
 ⟨h.replace l hl none _ (Pj w _) (λr hr=>by cases hr) (λ_=>rfl),
  GZ (St.Gy st l _) (Aq _) (by rw [Gm];exact ⟨rfl,rfl,rfl⟩),
  fun fr τ cs x hc=>Cells.Fm (Aq _) (λ_ _ _=>rfl) (λb _ hA=>by
  rcases hA with ⟨m,r,hm,hg⟩|h2
  ·by_cases e:m=l
   ·subst e;rw [Gm] at hm;cases hm
   ·rw [Gi π none e] at hm;exact .inl ⟨m,r,hm,hg⟩
  ·exact .inr h2) τ cs x hc⟩
theorem Xp (hT:Ef P T) {st:St} {a:Act} (h:Bl X π st a w) (dst:Nat) (t ty:TypeId) (x y:Operand) (av:AV) (st':St) (he:Np T st dst t x y=some (av,st')):
  ∃v' w' π',(Builtin.append_ #[t,t] ty #[a.eval x,a.eval y]).run P w= .ok v' w'/\Bl X π' st' a w'/\Bq X w' π' st'.heap av v':=by
 unfold Np at he
 split at he
 ·cases he
 ·rename_i te lu
  split at he
  ·rename_i e y' st1 Xx hs
   obtain ⟨cm,h1,h2,h3,h4,h5⟩:=c7 h (Ea h.2 y) hs
   split at he
   ·cases he
   ·rename_i sm ys hv
    dsimp only at he
    have RM: ∀tr2,tr2=(e.flat||(Th st (st.ev y)&&e.tree))->tr2=true->e.flat=true\/ ∃F,Dg w F (.slice e) [a.eval y] ys/\iw X w cm F:=by
     intro tr2 e2 nX
     subst e2
     cases hef:e.flat with
     |true=>exact .inl rfl
     |false=>
     right
     simp only [hef,br,Ai] at nX
     obtain ⟨F,us,f1,f2,f3,_⟩:=h5 nX.1 (.slice e) sm ys nX.2 hv
     have hus:us= [a.eval y]:=by
      simp only [Dg] at f1
      obtain ⟨a0,len,cap,rfl,_⟩:=f1
      rw [f2];simp [Ce,Ty.Ap]
     rw [hus] at f1
     exact ⟨F,f1,f3⟩
    have hyc:Cells w (De X.w0.heap.size X.Sc cm sm) (.slice e) [a.eval y] ys:=Da.Rr rfl (Mo _ y' _ sm ys h3 h2 hv)
    have hxr:=Ea h1.2 x
    split at he
    ·rename_i hx
     rw [hx] at hxr
     have hxv:a.eval x= .slice none 0 0:=hxr
     split at he
     ·rename_i pz
      simp only [Aa,Ah] at he
      obtain ⟨rfl,rfl⟩:=he
      obtain ⟨k1,k2,k3⟩:=ud h1 dst pz.2 (T.sl||e.flat) T.yC te e
      have:=nt (ty:=ty) hT k1 lu Xx pz.2 (fr3:=sm||e.flat) (tr2:=e.flat||(Th st (st.ev y)&&e.tree)) rfl (St.Gy st1 dst _) k2 (k3 _ _ _ _ hyc) (by rw [Bn];exact pz.1) (λht=>by
       rcases RM _ rfl ht with h0|⟨F,f1,f2⟩
       ·exact .inl h0
       ·exact .inr ⟨F,f1,f2.drop⟩)
      rw [<-hxv] at this
      exact this
     ·cases he
    ·rename_i l off len hx
     rw [hx] at hxr
     split at he
     ·rename_i fr tr e' tid xs hl
      split at he
      ·rename_i Jk
       obtain ⟨rfl,rfl⟩:=Jk
       split at he
       ·rename_i pz
        simp only [Aa,Ah] at he
        obtain ⟨rfl,rfl⟩:=he
        exact nt (ty:=ty) hT h1 lu Xx pz.2 (fr3:=sm||e'.flat) (tr2:=e'.flat||(Th st (st.ev y)&&e'.tree)) rfl hl hxr hyc pz.1 (RM _ rfl)
       ·cases he
      ·cases he
     ·cases he
    ·cases he
  ·cases he
theorem nE (hT:Ef P T) {st:St} {a:Act} (h:Bl X π st a w) (dst:Nat) (t ty:TypeId) (x y:Operand) (av:AV) (st':St) (he:Re T st dst t x y=some (av,st')):
  ∃v' w' π',(Builtin.append_ #[t,t] ty #[a.eval x,a.eval y]).run P w= .ok v' w'/\Bl X π' st' a w'/\Bq X w' π' st'.heap av v':=by
 unfold Re at he
 split at he
 ·rename_i tx
  split at he
  ·rename_i l i c hg
   split at he
   ·rename_i e te rows kp tid hl _
    split at he
    ·rename_i hc
     simp only [Ai,Mw,Ew] at hc
     have j9:dst≠l:= λe=>by rw [e,Nat.beq_refl] at hc;cases hc.2.2
     unfold St.at at hl
     have hv:Hj X w π st.heap (.sub l i c) (a.tmps.getD tx undef):=by
      have:=h.2.tmps tx
      rw [hg] at this
      exact this
     obtain ⟨cm,h1,h2⟩:=LD (tid:=tid) h hl j9 hc.2.1 hc.1 hv
     have h3:=h1.put (some tx) (c:= .at (.own dst 0 (rows.getD i []).length)) h2
     have Aot:a.put (some tx) (a.tmps.getD tx undef)=a:=by
      have:a.tmps.setIfInBounds tx (a.tmps.getD tx undef)=a.tmps:=by
       apply Array.ext_getElem?
       intro k
       rw [Array.getElem?_setIfInBounds]
       split
       ·rename_i e
        subst e
        split
        ·rename_i Jc
         rw [Array.getElem?_eq_getElem Jc];simp
        ·rename_i Jc
         rw [Array.getElem?_eq_none (by omega)]
       ·rfl
      simp only [Act.put,this]
     rw [Aot] at h3
     exact Xp hT h3 dst t ty (.tmp tx) y av st' he
    ·cases he
   ·cases he
  ·exact Xp hT h dst t ty _ y av st' he
 ·exact Xp hT h dst t ty x y av st' he
theorem PU {S:Nat->Prop} {e:Ty} (h:nd e=true): ∃z,Bw e= [z]/\e.Ap=false/\e.size=1/\Cells w S e [z] e.zero/\z.oneCell'=true:=by
 cases e<;>simp [nd] at h
 ·exact ⟨_,rfl,rfl,rfl,rfl,rfl⟩
 ·exact ⟨_,rfl,rfl,rfl,rfl,rfl⟩
 ·exact ⟨_,rfl,rfl,rfl,rfl,rfl⟩
 ·exact ⟨_,rfl,rfl,rfl,⟨none,0,0,rfl,rfl,Aq _, .inl rfl⟩,rfl⟩
 ·exact ⟨_,rfl,rfl,rfl, .inl ⟨rfl,0,rfl⟩,rfl⟩
theorem JU {e:Ty} {z:Value} (ht:e.tree=true) (h:nd e=true) (hz:Bw e= [z]):Dg w [] e [z] e.zero:=by
 cases e<;>simp [nd] at h<;>simp only [Bw,Gu,Oa] at hz<;>subst hz<;>try (simp [Ty.tree] at ht;done)
 ·exact ⟨rfl,rfl⟩
 ·exact ⟨rfl,rfl⟩
 ·exact ⟨rfl,rfl⟩
 ·exact ⟨none,0,0,rfl,rfl,Aq _, .inl ⟨rfl,rfl,rfl,rfl⟩⟩
theorem Adf {S:Nat->Prop} : ∀(e:Ty),gx e=true->(Bw e).length=e.size/\Cells w S e (Bw e) e.zero/\(e.tree=true->Dg w [] e (Bw e) e.zero):=by
 intro e
 induction e with
 |unit=>intro _;exact ⟨rfl,rfl,λ_=>⟨rfl,rfl⟩⟩
 |pair a r iq ie=>
  intro h
  simp only [gx,Ai] at h
  obtain ⟨a1,a2,a3⟩:=iq h.1
  obtain ⟨r1,r2,r3⟩:=ie h.2
  exact ⟨by simp [Bw,Ty.size,a1,r1],⟨_,_,rfl,a2,r2⟩,λht=>by simp only [Ty.tree,Ai] at ht;exact ⟨_,_,[],[],rfl,rfl,a3 ht.1,r3 ht.2⟩⟩
 |_=>
  intro h
  simp only [gx] at h
  obtain ⟨z,z1,z2,z3,z4,_⟩:=PU (w:=w) (S:=S) h
  exact ⟨by rw [z1,z3];rfl,by rw [z1];exact z4,λht=>by rw [z1];exact JU ht h z1⟩
theorem RY {z:Array Value} {s m j q:Nat} (hz:z.size=s) (hj:j<m) (hq:q<s):(madeCells z (m*s))[j*s+q]?=z[q]?:=by
 have h1:j*s+q<m*s:=by
  have:=Et s (show j+1<=m by omega)
  rw [Nat.succ_mul] at this
  omega
 have h2:(j*s+q)%z.size=q:=by rw [hz,Nat.mul_comm,Nat.mul_add_mod,Nat.mod_eq_of_lt hq]
 have h3:q<z.size:=by omega
 unfold madeCells
 simp [h1,h2,h3]
theorem td (hT:Ef P T) {st:St} {a:Act} (h:Bl X π st a w) (dst:Nat) (t:TypeId) (l c:AV) (vl vc:Value) (hl:Bq X w π st.heap l vl) (hc:Bq X w π st.heap c vc) (av:AV) (st':St)
  (he:bF T st dst t l c=some (av,st')): ∃v' w' π',(Instr.makeSlice t vl vc).run P w= .ok v' w'/\Bl X π' st' a w'/\Bq X w' π' st'.heap av v':=by
 unfold bF at he
 split at he
 ·rename_i te fr1 k1 n sm k2 m lu
  have:=Pq hl;subst this
  have:=Pq hc;subst this
  split at he
  ·rename_i e Xx
   split at he
   ·rename_i Jk
    obtain ⟨h0,hnm,hz,hdp⟩:=Jk
    obtain ⟨h1,h2⟩:=Ug.1 h0
    subst hnm
    simp only [Aa,Ah] at he
    obtain ⟨rfl,rfl⟩:=he
    obtain ⟨i,hi,Vn,rQ,tD⟩:=(hT.ty te e Xx).info
    obtain ⟨z1,z4,z5⟩:=Adf (w:=w) (S:=De X.w0.heap.size X.Sc π (T.sl||e.flat)) e hz
    have hzc:(Ce e (Bw e)).cells=(Bw e).toArray:=Kw e _ _ z4
    have hu:=hT.elem t te lu
    have hn:n.toNat<=4294967296:=by unfold Dn at h2;omega
    have hr:=run_make (P:=P) (w:=w) t te i _ hu hi tD k1 k2 n n h1 (Pu _) (by
     have:(i.bytes:Int)*n<=256*4294967296:=by
      obtain ⟨nn,rfl⟩:=Bt h1
      have h7:i.bytes*nn<=256*4294967296:=dO rQ (by simpa using hn)
      have h8:((i.bytes*nn:Nat):Int)<=256*4294967296:=by omega
      rwa [Int.natCast_mul] at h8
     omega) (by unfold Dn at h2;omega)
    rw [hzc,Vn] at hr
    have Uf:((Bw e).toArray).size=e.size:=by simpa using z1
    have cell: ∀j,j<n.toNat-> ∀q u,(Bw e)[q]?=some u->(madeCells (Bw e).toArray (n.toNat*e.size)).toList[j*e.size+q]?=some u:=by
     intro j hj q u hu
     have hq:q<e.size:=by rw [<-z1];exact (Ao.1 hu).1
     have:=RY Uf hj hq
     rw [Array.getElem?_toList,this]
     simpa using hu
    have:=fJ (w1:=w.alloc (.cells (madeCells (Bw e).toArray (n.toNat*e.size)) te)) h dst hdp (T.sl||e.flat) (T.yC&&e.tree) e te (List.replicate n.toNat e.zero) (madeCells (Bw e).toArray (n.toNat*e.size)).toList (madeCells (Bw e).toArray (n.toNat*e.size)) n.toNat []
     (.inr rfl) (by rw [size_madeCells]) (by unfold maxLen;omega) (by simp)
     (λk u hu=>by
      rw [Array.getElem?_toList] at hu;exact hu) ⟨by simp [size_madeCells],λj x hx=>by
       have hj:=(Ao.1 hx).1
       simp only [Dt] at hj
       refine ⟨Bw e,z1,λq u hu=>cell j hj q u hu,?_⟩
       rw [Ft (Cp hx)];exact z4⟩ (by simp) (λnX=>⟨Mv,List.replicate n.toNat [],by simp,by simp,λj x F hx hF=>by
      have hj:=(Ao.1 hx).1
      simp only [Dt] at hj
      refine ⟨Bw e,z1,λq u hu=>cell j hj q u hu,?_⟩
      have e1:=Ft (Cp hx)
      have e2:=Ft (Cp hF)
      rw [e1,e2]
      exact z5 (by simp only [Ai] at nX;exact nX.2)⟩)
    exact ⟨_,_,_,hr,this.1,this.2 _ (by simp)⟩
   ·cases he
  ·cases he
 ·cases he
theorem iX (off:Nat): ∀(us:List Value) (k:Nat) (cells:List Value),off+k+us.length<=cells.length->
  (us.zipIdx k).foldl (λcs p=>cs.setIfInBounds (off+p.2) p.1) cells.toArray=(Dw cells (off+k) us).toArray
 | [],k,cells,h=>by simp [Dw]
 |u::us,k,cells,h=>by
  simp only [List.zipIdx_cons,Nm]
  rw [show cells.toArray.setIfInBounds (off+k) u=(cells.set (off+k) u).toArray by simp]
  rw [iX off us (k+1) (cells.set (off+k) u) (by simp at h⊢;omega)]
  congr 1
  apply List.ext_getElem?
  intro j
  have hl:off+k+(u::us).length<=cells.length:=h
  have hl2:off+(k+1)+us.length<=(cells.set (off+k) u).length:=by simp at h⊢;omega
  rw [Hx _ _ _ _ hl,Hx _ _ _ _ hl2]
  simp only [Av]
  by_cases h1:j<off+k
  ·rw [Ab (by omega),Ab h1,List.getElem?_set_ne (by omega)]
  ·rw [Ak h1]
   by_cases h2:j=off+k
   ·subst h2
    rw [Ab (by omega),Ab (by omega),List.getElem?_set_self (by simp at h;omega)]
    simp
   ·rw [Ak (by omega)]
    by_cases h3:j<off+k+(us.length+1)
    ·rw [Ab (by omega),Ab h3]
     rw [show j-(off+k)=(j-(off+(k+1)))+1 by omega,Jq]
    ·rw [Ak (by omega),Ak h3,List.getElem?_set_ne (by omega)]
theorem xj (place:Nat->Option (Nat×Nat)) (cells:List Value) (i:Nat) (v:Value) (rest:List (Nat×Value)) (off size:Nat) (us:List Value) (hp:place i=some (off,size)) (hv:v.cells=us.toArray)
  (hl:us.length=size) (hle:off+size<=cells.length):Instr.fill place cells.toArray ((i,v)::rest)=Instr.fill place (Dw cells off us).toArray rest:=by
 simp only [Instr.fill,hp,hv,Gv,hl]
 rw [Ak (by simp;omega)]
 congr 1
 have:=iX off us 0 cells (by omega)
 simp only [Dv] at this
 rw [<-this]
 simp
theorem Xk (e:Ty) {a:Act} : ∀(parts:List (Nat×Operand)) (i:Nat) (st:St) (π:Pi) (fr tr:Bool) (ys:List e.den) (st':St) (cells:List Value),Bl X π st a w->Ld e i parts st=some (fr,tr,ys,st')->
  (i+parts.length)*e.size<=cells.length->
  ∃π' cl,Bl X π' st' a w/\Flat w (De X.w0.heap.size X.Sc π' fr) e cl ys/\ys.length=parts.length/\Kr π π' st.heap st'.heap/\
   Instr.fill (λi=>some (i*e.size,e.size)) cells.toArray (parts.map λp=>(p.1,a.eval p.2))=some (Dw cells (i*e.size) cl).toArray/\
   (tr=true-> ∃Fs,Sr w e cl ys Fs/\iw X w π' (List.flatten Fs)/\ ∀b∈List.flatten Fs,∃l r,π l=some r/\r.cl b)
 | [],i,st,π,fr,tr,ys,st',cells,h,he,hle=>by
  simp only [Ld,Aa,Ah] at he
  obtain ⟨rfl,rfl,rfl,rfl⟩:=he
  exact ⟨π,[],h,Flat.nil,rfl,Kr.refl _ _,by simp [Instr.fill,Dw],λ_=>⟨[],⟨rfl,λi z F hz=>by simp at hz⟩,⟨Mv,by simp⟩,by simp⟩⟩
 |(j,x)::r,i,st,π,fr,tr,ys,st',cells,h,he,hle=>by
  simp only [Ld] at he
  split at he
  ·rename_i fw;subst fw
   split at he
   ·rename_i v' st1 hs
    obtain ⟨cm,h1,h2,h3,h4,h5⟩:=c7 h (Ea h.2 x) hs
    split at he
    ·rename_i fr1 y hv
     split at he
     ·rename_i sm tr2 zs st2 hr
      simp only [Aa,Ah] at he
      obtain ⟨rfl,rfl,rfl,rfl⟩:=he
      obtain ⟨es,fv,LQ⟩:=Mo e v' _ fr1 y h3 h2 hv
      have ll:=Cells.len e es y fv
      have Au0:i*e.size+e.size<=cells.length:=by
       have:(i+1)*e.size<=(i+((i,x)::r).length)*e.size:=Et _ (by simp)
       rw [Dh,Rx] at this
       omega
      have RF:i*e.size+es.length<=cells.length:=by omega
      obtain ⟨XJ,cl,g1,g2,g3,g4,g5,g6⟩:=Xk e r (i+1) st1 cm sm tr2 zs st2 (Dw cells (i*e.size) es) h1 hr (by
       rw [Io _ _ _ RF]
       rw [show i+1+r.length=i+((i,x)::r).length by simp;omega];exact hle)
      have f1:Flat w (De X.w0.heap.size X.Sc XJ fr1) e es [y]:=⟨by simp [ll],λq z hz=>by
       rcases q with _|q
       ·simp at hz;subst hz
        exact ⟨es,ll,λj u hu=>by simpa using hu,yV g1 g4 e es y fv⟩
       ·simp at hz⟩
      refine ⟨XJ,es++cl,g1,?_,by simp [g3],h4.trans g4,?_,λht=>?_⟩
      ·have:=(f1.cells λes z hc=>hc.and_left (f2:=sm)).append (g2.cells λes z hc=>hc.and_right (f1:=fr1))
       simpa using this
      ·simp only [Ca]
       rw [xj _ cells i (a.eval x) _ (i*e.size) e.size es rfl (by rw [LQ];exact Kw e es y fv) ll Au0,g5]
       congr 2
       have Qf:cl.length=r.length*e.size:=by rw [g2.1,g3]
       have Xv:(i+1)*e.size+cl.length<=(Dw cells (i*e.size) es).length:=by
        rw [Io _ _ _ RF,Qf,<-Dh]
        rw [show i+1+r.length=i+((i,x)::r).length by simp;omega];exact hle
       have Ann:i*e.size+(es++cl).length<=cells.length:=by
        rw [Io _ _ _ RF] at Xv
        rw [Ay,ll]
        rw [Dh,Rx] at Xv
        omega
       have e1:(i+1)*e.size=i*e.size+es.length:=by rw [Dh,Rx,ll]
       apply List.ext_getElem?
       intro k
       rw [Hx _ _ _ _ Xv,Hx _ _ _ _ Ann,Hx _ _ _ _ RF,e1,Ay]
       by_cases k1:k<i*e.size
       ·rw [Ab (by omega),Ab k1,Ab k1]
       ·rw [Ak k1,Ak k1]
        by_cases k2:k<i*e.size+es.length
        ·rw [Ab k2,Ab k2,Ab (by omega),At (by omega)]
        ·rw [Ak k2,Ak k2]
         by_cases k3:k<i*e.size+es.length+cl.length
         ·rw [Ab k3,Ab (by omega),As (by omega)]
          congr 1;omega
         ·rw [Ak k3,Ak (by omega)]
      ·simp only [Ai] at ht
       obtain ⟨⟨ht1,ht2⟩,ht3⟩:=ht
       obtain ⟨F,us,t1,t2,t3,t7⟩:=h5 ht1 e fr1 y ht2 hv
       obtain ⟨Fs,t4,t5,t6⟩:=g6 ht3
       have hus:us=es:=by
        have c1:=Dg.cells (S:= λ_=>False) F e us y t1 (λ_ _ h=>h)
        have a1:=Kw e us y c1
        have a2:=Kw e es y fv
        rw [<-t2,LQ,a2] at a1
        simpa using a1.symm
       subst hus
       refine ⟨F::Fs,?_,?_,λb hb=>?_⟩
       ·have k1:Sr w e us [y] [F]:=⟨rfl,λq z G hz hG=>by
         rcases q with _|q
         ·simp at hz hG;subst hz;subst hG
          exact ⟨us,ll,λj u hu=>by simpa using hu,t1⟩
         ·simp at hz⟩
        exact Sr.append (by simp [ll]) k1 t4
       ·rw [Ky]
        refine ⟨Eb.2 ⟨t3.1,t5.1,λb hb b' vL e=>?_⟩,λb hb=>?_⟩
        ·subst e
         obtain ⟨l,r,q1,q2⟩:=t6 b vL
         exact (t3.2 b hb).2.2 l r q1 q2
        ·rcases Az.1 hb with hb|hb
         ·have:=t3.2 b hb
          refine ⟨this.1,this.2.1,λl r q1 q2=>?_⟩
          cases hh:Aw st2.heap l with
          |none=>rw [(g1.1.heap l).emp hh] at q1;cases q1
          |some b'=>exact this.2.2 l r ((g4 l b' hh).1▸q1) q2
         ·exact t5.2 b hb
       ·rw [Ky] at hb
        rcases Az.1 hb with hb|hb
        ·exact t7 b hb
        ·obtain ⟨l,r,q1,q2⟩:=t6 b hb
         cases hh:Aw st1.heap l with
         |none=>rw [(h1.1.heap l).emp hh] at q1;cases q1
         |some b'=>exact ⟨l,r,(h4 l b' hh).1▸q1,q2⟩
     ·cases he
    ·cases he
   ·cases he
  ·cases he
theorem iR (hT:Ef P T) {st:St} {a:Act} (h:Bl X π st a w) (dst:Nat) (t:TypeId) (len:Nat) (parts:Array (Nat×Operand)) (av:AV) (st':St)
  (he:Mf T st dst t len parts=some (av,st')):
  ∃v' w' π',(Instr.buildSlice t len (parts.map λ(i,x)=>(i,a.eval x))).run P w= .ok v' w'/\Bl X π' st' a w'/\Bq X w' π' st'.heap av v':=by
 unfold Mf at he
 split at he
 ·cases he
 ·rename_i te lu
  split at he
  ·cases he
  ·rename_i e Xx
   split at he
   ·rename_i Jk
    obtain ⟨lq,hlen⟩:=Jk
    split at he
    ·rename_i fr tr ys st1 hb
     simp only [Aa,Ah] at he
     obtain ⟨rfl,rfl⟩:=he
     obtain ⟨i,hi,Vn,rQ,tD⟩:=(hT.ty te e Xx).info
     have hu:=hT.elem t te lu
     have TV:parts.toList.length=len:=by simpa using lq
     have hz: ∃z:Array Value,(len*e.size=0/\z= #[])\/(¬len*e.size=0/\(zeroValue te).run P w= .ok (Ce e (Bw e)) w/\z=(Ce e (Bw e)).cells):=by
      by_cases h0:len*e.size=0
      ·exact ⟨#[], .inl ⟨h0,rfl⟩⟩
      ·exact ⟨_, .inr ⟨h0,by simp [zeroValue,typeInfo,hi,tD],rfl⟩⟩
     obtain ⟨z,hz⟩:=hz
     obtain ⟨cm,cl,g1,g2,g3,g4,g5,g6⟩:=Xk e parts.toList 0 st π fr tr ys st1 ((Array.range (len*e.size)).map (z[· %z.size]!)).toList h hb (by simp [TV])
     have Qf:cl.length=len*e.size:=by rw [g2.1,g3,TV]
     have hsp:(Dw ((Array.range (len*e.size)).map (z[· %z.size]!)).toList (0*e.size) cl)=cl:=by
      simp [Dw,Qf]
     rw [hsp] at g5
     have Vo:(Instr.buildSlice t len (parts.map λ(i,x)=>(i,a.eval x))).run P w= .ok (.slice (some ⟨w.heap.size,0,none⟩) len len) (w.alloc (.cells cl.toArray te)):=by
      have h24: ¬(len*e.size>2^24):=by
       have:len*e.size<=64*64:=dO hlen.1 hlen.2.1
       omega
      simp only [Instr.buildSlice,Sem.run_bind,run_underlying hu,Result.andThen_ok,(hT.ty te e Xx).size,Ak h24]
      have e1:(parts.map λ(i,x)=>(i,a.eval x)).toList=parts.toList.map λp=>(p.1,a.eval p.2):=by simp
      simp only [e1]
      have e2:(((Array.range (len*e.size)).map (z[· %z.size]!)).toList.toArray)=(Array.range (len*e.size)).map (z[· %z.size]!):=Array.toArray_toList
      rw [e2] at g5
      rcases hz with ⟨h0,rfl⟩|⟨h0,hz,rfl⟩
      ·rw [Ab h0]
       simp only [Sem.run_bind,Sem.run_pure,Result.andThen_ok,g5,newRow]
       simp
      ·rw [Ak h0]
       simp only [Sem.run_bind,Sem.run_pure,Result.andThen_ok,hz,g5,newRow]
       simp
     have hN: ∃N:List Nat,(∀b∈N,(X.w0.heap.size<=b\/X.gv b)/\b<w.heap.size/\ ∀m r0,m≠dst->cm m=some r0-> ¬r0.cl b)/\(tr=true->N.Nodup/\ ∃Fs,List.flatten Fs=N/\Sr w e cl ys Fs):=by
      cases tr with
      |false=>exact ⟨[],by simp,λh=>by cases h⟩
      |true=>
       obtain ⟨Fs,t1,t2,_⟩:=g6 rfl
       exact ⟨_,λb hb=>⟨(t2.2 b hb).1,(t2.2 b hb).2.1,λm r0 _=>(t2.2 b hb).2.2 m r0⟩,λ_=>⟨t2.1,Fs,rfl,t1⟩⟩
     obtain ⟨N,q1,q2⟩:=hN
     have:=fJ (w1:=w.alloc (.cells cl.toArray te)) g1 dst hlen.2.2 ((T.sl||e.flat)&&fr) (T.yC&&tr) e te ys cl cl.toArray len N (.inr rfl) (by simpa using Qf) (by simp only [maxLen];omega) (by omega) (λk u hu=>by simpa using hu) (g2.cells λes z hc=>hc.and_right) q1 (λht=>q2 (by simp only [Ai] at ht;exact ht.2))
     exact ⟨_,_,_,Vo,this.1,this.2 _ (by omega)⟩
    ·cases he
   ·cases he
theorem mq {t te:TypeId} {e:Ty} (h:eo T t=some (te,e)):T.elem t=some te/\T.ty te=some (.slice e):=by
 unfold eo at h
 cases he:T.elem t with
 |none=>rw [he] at h;cases h
 |some Qx=>
  rw [he] at h
  simp only [Eu] at h
  cases hg:T.QU Qx with
  |none=>rw [hg] at h;cases h
  |some e'=>
   rw [hg] at h
   simp only [Am,Aa,Ah] at h
   obtain ⟨rfl,rfl⟩:=h
   refine ⟨rfl,?_⟩
   unfold Tab.QU at hg
   split at hg
   ·split at hg
    ·rename_i Xx;simp only [Aa] at hg;subst hg;exact Xx
    ·cases hg
   ·cases hg
theorem nv (w:World) (o:Obj):Kp w.heap.size (λ_=>False) w (w.alloc o):=⟨rfl,rfl,rfl,by simp,λk hk _=>Below.heap_alloc w _ k hk⟩
theorem qA (w:World) (o:Obj):Kp w.heap.size (λ_=>False) w (w.drew.alloc o):=⟨rfl,rfl,rfl,by simp,λk hk _=>Below.heap_alloc w.drew _ k hk⟩
theorem rO (hT:Ef P T) {st:St} {a:Act} (h:Bl X π st a w) (dst:Nat) (t:TypeId) (l c:AV) (vl vc:Value) (hl:Bq X w π st.heap l vl) (hc:Bq X w π st.heap c vc) (av:AV) (st':St)
  (he:Xt T st dst t l c=some (av,st')): ∃v' w' π',(Instr.makeSlice t vl vc).run P w= .ok v' w'/\Bl X π' st' a w'/\Bq X w' π' st'.heap av v':=by
 unfold Xt at he
 split at he
 ·exact td hT h dst t l c vl vc hl hc av st' he
 ·rename_i te e hg
  obtain ⟨lu,Xx⟩:=mq hg
  split at he
  ·rename_i fr1 k1 n sm k2 m
   have:=Pq hl;subst this
   have:=Pq hc;subst this
   split at he
   ·rename_i Jk
    obtain ⟨h0,hnm,hdp⟩:=Jk
    obtain ⟨h1,h2⟩:=Ug.1 h0
    subst hnm
    simp only [Aa,Ah] at he
    obtain ⟨rfl,rfl⟩:=he
    obtain ⟨i,hi,Vn,rQ,tD⟩:=(hT.ty te _ Xx).info
    have hu:=hT.elem t te lu
    have hn:n.toNat<=4294967296:=by unfold Dn at h2;omega
    have hr:=run_make (P:=P) (w:=w) t te i _ hu hi tD k1 k2 n n h1 (Pu _) (by
     have:(i.bytes:Int)*n<=256*4294967296:=by
      obtain ⟨nn,rfl⟩:=Bt h1
      have h7:i.bytes*nn<=256*4294967296:=dO rQ (by simpa using hn)
      have h8:((i.bytes*nn:Nat):Int)<=256*4294967296:=by omega
      rwa [Int.natCast_mul] at h8
     omega) (by unfold Dn at h2;omega)
    have hzc:(Ce (Ty.slice e) (Bw (Ty.slice e))).cells= #[.slice none 0 0]:=by simp [Ce,Ty.Ap,Bw,Value.cells]
    have kS:(Ty.slice e).size=1:=rfl
    rw [hzc,Vn,kS] at hr
    have cell: ∀j,j<n.toNat->(madeCells #[Value.slice none 0 0] (n.toNat*1))[0+j]?=some (.slice none 0 0):=by
     intro j hj
     have:=RY (z:= #[Value.slice none 0 0]) (s:=1) (m:=n.toNat) (j:=j) (q:=0) rfl hj (by omega)
     simp only [Fo,Dv] at this
     simp only [Fo,Bn]
     rw [this];rfl
    obtain ⟨π',g1,g2⟩:=Zs (w1:=w.alloc (.cells (madeCells #[Value.slice none 0 0] (n.toNat*1)) te)) (gv:= λ_=>False) h hdp hdp te (e:=e) (rows:=List.replicate n.toNat []) (us:=List.replicate n.toNat (.slice none 0 0)) (Rs:=List.replicate n.toNat none) (g:=w.heap.size) (o:=0) (cap:=n.toNat)
     (λ_ hf=>hf.elim) (nv w _) ⟨.inl (Aq _),by simp⟩ (heap_alloc_new w _) (by rw [size_madeCells];omega) (by unfold maxLen;omega) (by simp) (λj u hu=>by
      have hj:=(Ao.1 hu).1
      simp only [Dt] at hj
      rw [cell j hj,Ft (Cp hu)])
     ⟨by simp,by simp,λi j q q' h1=>(by have:=Ft (Cp h1);cases this),λi x hx=>by
      have hj:=(Ao.1 hx).1
      simp only [Dt] at hj
      rw [Ft (Cp hx)]
      exact ⟨.slice none 0 0,none,by rw [Yz,Ab hj],by rw [Yz,Ab hj],⟨rfl,rfl,rfl⟩,rfl⟩⟩
     (λi q h1=>by have:=Ft (Cp h1);cases this)
    exact ⟨_,_,π',hr,g1,g2 _ (by simp)⟩
   ·cases he
  ·cases he
theorem hY (hT:Ef P T) {st:St} {a:Act} (h:Bl X π st a w) (dst:Nat) (t:TypeId) (len:Nat) (parts:Array (Nat×Operand)) (av:AV) (st':St)
  (he:Iq T st dst t len parts=some (av,st')):
  ∃v' w' π',(Instr.buildSlice t len (parts.map λ(i,x)=>(i,a.eval x))).run P w= .ok v' w'/\Bl X π' st' a w'/\Bq X w' π' st'.heap av v':=by
 unfold Iq at he
 split at he
 ·exact iR hT h dst t len parts av st' he
 ·rename_i te e hg
  obtain ⟨lu,Xx⟩:=mq hg
  split at he
  rotate_left
  ·cases he
  rename_i x Ajo
  split at he
  rotate_left
  ·cases he
  rename_i m off ln hx
  split at he
  rotate_left
  ·cases he
  rename_i fr tr e' tid xs hm
  split at he
  rotate_left
  ·cases he
  rename_i hc
  obtain ⟨rfl,hc,rfl,rfl⟩:=hc
  simp only [Ai,Mw] at hc
  obtain ⟨hlen,hdp,hmp⟩:=hc
  have hlen:len=1:=Jf hlen
  subst hlen
  simp only [Aa,Ah] at he
  obtain ⟨rfl,rfl⟩:=he
  have hu:=hT.elem t te lu
  unfold St.at at hm
  have hrx:=Ea h.2 x
  rw [hx] at hrx
  obtain ⟨_,vN⟩:=Oc (X:=X) (w:=w) hrx hm
  obtain ⟨ax,nx,cx,hvx⟩:=aW vN
  have hp:parts= #[(0,x)]:=by apply Ow;simpa using Ajo
  subst hp
  obtain ⟨i,hi,Vn,rQ,tD⟩:=(hT.ty te _ Xx).info
  have Vo:(Instr.buildSlice t 1 (#[(0,x)].map λ(i,x)=>(i,a.eval x))).run P w= .ok (.slice (some ⟨w.heap.size,0,none⟩) 1 1) (w.alloc (.cells #[a.eval x] te)):=by
   have kS:(Ty.slice e').size=1:=rfl
   have hz:(zeroValue te).run P w= .ok (.slice none 0 0) w:=by simp [zeroValue,typeInfo,hi,tD,Ce,Ty.Ap,Bw]
   have hmp:(#[(0,x)].map λ(i,x)=>(i,a.eval x))= #[(0, .slice ax nx cx)]:=by simp [hvx]
   rw [hmp,hvx]
   simp only [Instr.buildSlice,Sem.run_bind,run_underlying hu,Result.andThen_ok,(hT.ty te _ Xx).size,kS]
   simp [Value.cells,Instr.fill,newRow,hz]
   congr 2
   apply Array.ext
   ·simp
   ·intro i h1 h2
    have h0:i=0:=by simpa using h2
    subst h0
    simp
  have JW:=(h.1.heap m).Rc hm
  simp only [Cn,Jt] at JW
  have hfa:Sv w (De X.w0.heap.size X.Sc π false) (π m) e' xs:=by
   cases hR:π m with
   |none=>rw [hR] at JW;exact JW
   |some q=>
    rw [hR] at JW
    obtain ⟨⟨f0,f0',_⟩,cu,ti',f2,f3,f4,f5,f6,_⟩:=JW
    exact ⟨⟨f0,f0'⟩,cu,ti',f2,f3,f4,f5,λp y hy=>by
     obtain ⟨es,g1,g2,g3⟩:=f6 p y hy
     exact ⟨es,g1,g2,Cells.Fm (Aq _) (λ_ _ _=>rfl) (λb _ hA=>hA.imp id (Or.imp id λ⟨h1,_⟩=>by cases h1)) e' es y g3⟩⟩
  obtain ⟨π',g1,g2⟩:=Zs (w1:=w.alloc (.cells #[a.eval x] te)) (gv:= λ_=>False) h hdp hmp te (e:=e') (rows:= [xs]) (us:= [a.eval x]) (Rs:= [π m]) (g:=w.heap.size) (o:=0) (cap:=1)
   (λ_ hf=>hf.elim) (nv w _) ⟨.inl (Aq _),by simp⟩ (heap_alloc_new w _) rfl (by unfold maxLen;omega) (by simp) (λj u hu=>by
    rcases j with _|j
    ·simpa using hu
    ·simp at hu)
   ⟨rfl,rfl,λi j q q' h1 h2 _=>by
    rcases i with _|i
    ·rcases j with _|j
     ·rfl
     ·simp at h2
    ·simp at h1,λi y hy=>by
    rcases i with _|i
    ·simp only [Bz,Aa] at hy
     subst hy
     exact ⟨_,_,rfl,rfl,vN,hfa⟩
    ·simp at hy⟩
   (λi q h1=>by
    rcases i with _|i
    ·simp only [Bz,Aa] at h1
     have hf:=h.1.Cz h1
     have:=(h.1.place m q _ h1 (h.1.sub m q _ h1 hf)).2
     exact ⟨by omega,λh=>h,m,q, .inr rfl,h1,hf⟩
    ·simp at h1)
  exact ⟨_,_,π',Vo,g1,g2 1 rfl⟩
theorem nF (hT:Ef P T) {st:St} {a:Act} (h:Bl X π st a w) (dst:Nat) (t ty:TypeId) (x y:Operand) (av:AV) (st':St) (he:Rf T st dst t x y=some (av,st')):
  ∃v' w' π',(Builtin.append_ #[t,t] ty #[a.eval x,a.eval y]).run P w= .ok v' w'/\Bl X π' st' a w'/\Bq X w' π' st'.heap av v':=by
 unfold Rf at he
 split at he
 ·exact nE hT h dst t ty x y av st' he
 ·rename_i te e hg
  obtain ⟨lu,Xx⟩:=mq hg
  split at he
  rotate_left
  ·cases he
  rename_i l off len m Aay GC hx hy
  split at he
  rotate_left
  ·cases he
  rename_i e1 te1 A kp1 e2 wR B kp2 hl hm
  split at he
  rotate_left
  ·cases he
  rename_i hc
  obtain ⟨⟨rfl,rfl⟩,hc,⟨rfl,rfl⟩,⟨rfl,rfl⟩,hB,pz⟩:=hc
  simp only [Ai,Mw,Qq,Ew] at hc
  obtain ⟨⟨rfl,rfl⟩,rR,hmp,j9⟩:=hc
  have j9:m≠l:= λe=>by rw [e,Nat.beq_refl] at j9;cases j9
  simp only [Aa,Ah] at he
  obtain ⟨rfl,rfl⟩:=he
  have hu:=hT.elem t wR lu
  obtain ⟨i,hi,Vn,rQ,tD⟩:=(hT.ty wR _ Xx).info
  have Vn:i.size=1:=Vn
  unfold St.at at hl hm
  have hrx:=Ea h.2 x
  have hry:=Ea h.2 y
  rw [hx] at hrx;rw [hy] at hry
  obtain ⟨b1,s1,n1,q1,q2,_,hox⟩:=hrx
  rw [hl] at q1;cases q1
  simp only [OB.row,Aa,Ah] at q2
  obtain ⟨rfl,rfl⟩:=q2
  obtain ⟨b2,s2,n2,q1,q2,_,hoy⟩:=hry
  rw [hm] at q1;cases q1
  simp only [OB.row,Aa,Ah] at q2
  obtain ⟨rfl,rfl⟩:=q2
  have hA:=((h.1.heap l).Rc hl).1
  have hBb:=((h.1.heap m).Rc hm).1
  cases my:π m with
  |none=>
   rw [my] at hBb
   have hBb:B= []:=hBb
   subst hBb;simp at hB
  |some rB=>
  rw [my] at hBb hoy
  obtain ⟨fB,Axl,tiB,uB,RB,w1B,w2B,w3B,w4B,w5B,w6B,w7B,LB⟩:=xo hBb
  obtain ⟨adB,hvy,hcB,haB⟩:=hoy
  have haB:=haB (by omega)
  subst haB
  have hlB:=LB.1
  have n1':uB.length=B.length*i.size:=by rw [Vn,Fo];exact hlB
  have n2': ∀j u,uB[j]?=some u->w.cell? ((⟨rB.g,(rB.o+0)*1,none⟩:Addr).add j)=some u:= λj u hu=>by
   rw [Addr.add_lit,cellOf w1B,Fo,Dv];exact w5B j u hu
  have tw:(A.length+B.length)*i.bytes<=140737488355328:=by
   have:(A.length+B.length)*i.bytes<=4294967296*256:=dO pz rQ
   omega
  have ja:A.length+B.length<=maxLen:=by unfold Dn at pz;simp only [maxLen];omega
  have hzs:(Ce (Ty.slice e2) (Bw (Ty.slice e2))).cells.size=1:=by simp [Ce,Ty.Ap,Bw,Value.cells]
  have Wg: ∀(k:Nat) (q:Real) (Rs:List (Option Real)),π k=some q->(∀(i:Nat) (p:Real),Rs[i]?=some (some p)->q.Cz p.g/\p.g≠q.g)-> ∀(i:Nat) (p:Real),Rs[i]?=some (some p)->p.g<w.heap.size:= λk q Rs h1 h2 i p h3=>
   (h.1.place k q _ h1 (h.1.sub k q _ h1 (h2 i p h3).1)).2
  cases lq:π l with
  |none=>
   rw [lq] at hA hox
   have hA:A= []:=hA
   subst hA
   obtain ⟨hvx,_,_⟩:=hox
   rw [hvx,hvy]
   simp only [Di,Bn,Nn] at pz tw ja⊢
   have hr:=run_append_nil (P:=P) w t ty wR i _ hu hi tD ⟨rB.g,(rB.o+0)*1,none⟩ B.length (rB.cap-0) uB n1' n2' hB (by simp only [maxLen] at ja;omega) (by omega)
   have oY:=grownCap_ge w B.length 0 wR
   have ZL:=grownCap_le_maxLen w B.length 0 wR (by omega)
   obtain ⟨π',g1,g2⟩:=Zs (w1:=w.drew.alloc (.cells (uB.toArray++Builtin.zeroCells (Ce (Ty.slice e2) (Bw (Ty.slice e2))).cells (grownCap w B.length 0 wR-B.length)) wR)) (gv:= λ_=>False) h rR hmp wR (e:=e2) (rows:=B) (us:=uB) (Rs:=RB) (g:=w.heap.size) (o:=0) (cap:=grownCap w B.length 0 wR)
    (λ_ hf=>hf.elim) (qA w _) ⟨.inl (Aq _),by simp⟩ (heap_alloc_new w.drew _) (by rw [Array.size_append,Gv,Ul,hzs];omega) ZL oY (λj u hu=>by
     have hj:=(Ao.1 hu).1
     rw [Bn,Tj (by simpa using hj)];simpa using hu)
    LB (λi q h1=>⟨by have:=Wg m rB RB my w7B i q h1;omega,λh=>h,m,rB, .inr rfl,my,(w7B i q h1).1⟩)
   exact ⟨_,_,π',hr,g1,g2 _ rfl⟩
  |some rA=>
   rw [lq] at hA hox
   obtain ⟨fA,TH,tiA,uA,RA,w1A,w2A,w3A,w4A,w5A,w6A,w7A,LA⟩:=xo hA
   obtain ⟨adA,hvx,hcA,haA⟩:=hox
   have hlA:=LA.1
   rw [hvx,hvy]
   have apart: ∀(i j:Nat) (q q':Real),RA[i]?=some (some q)->RB[j]?=some (some q')->q.g≠q'.g:= λi j q q' h1 h2 e=>by
    have:=h.1.apart lq my (w7A i q h1).1 (e▸(w7B j q' h2).1)
    exact j9 this.symm
   have LAB:=sw.append LA LB apart
   have Ig: ∀(i:Nat) (q:Real),RB[i]?=some (some q)->q.g≠rA.g:= λi q h1 e=>j9 (h.1.apart my lq (w7B i q h1).1 (e▸fA))
   have hRs: ∀(i:Nat) (q:Real),(RA++RB)[i]?=some (some q)->q.g≠rA.g/\q.g<w.heap.size/\ ∃k p,(k=l\/k=m)/\π k=some p/\p.Cz q.g:= λi q h1=>by
    by_cases hi:i<RA.length
    ·rw [At hi] at h1
     exact ⟨(w7A i q h1).2,Wg l rA RA lq w7A i q h1,l,rA, .inl rfl,lq,(w7A i q h1).1⟩
    ·rw [As (by omega)] at h1
     exact ⟨Ig _ q h1,Wg m rB RB my w7B _ q h1,m,rB, .inr rfl,my,(w7B _ q h1).1⟩
   by_cases FO:A.length+B.length<=rA.cap-0
   ·have haA:=haA (by omega)
    subst haA
    have Xv:(rA.o+0)*1+A.length*i.size+uB.length<=TH.size:=by rw [Vn];omega
    have Zt:(rA.o+0)*1+A.length*i.size+uB.length<=TH.toList.length:=by simpa using Xv
    have hr:=aK (P:=P) (w:=w) (ty:=ty) hu hi rA.g ((rA.o+0)*1) A.length (rA.cap-0) TH tiA w1A ⟨rB.g,(rB.o+0)*1,none⟩ B.length (rB.cap-0) uB n1' n2' w6B FO Xv
    have tA:=Nd w rA.g (Dw TH.toList ((rA.o+0)*1+A.length*i.size) uB).toArray
    obtain ⟨π',g1,g2⟩:=Zs (w1:=w.setRow rA.g (Dw TH.toList ((rA.o+0)*1+A.length*i.size) uB).toArray) (gv:= λb=>b=rA.g) h rR hmp wR (e:=e2) (rows:=A++B) (us:=uA++uB) (Rs:=RA++RB) (g:=rA.g) (o:=rA.o) (cap:=rA.cap)
     (λb hb=>⟨l,rA, .inl rfl,lq,hb▸fA⟩) ⟨tA.os,tA.tape,tA.output,tA.size,λc _ hc=>setRow_other w rA.g c _ hc⟩ ⟨.inr ⟨l,rA, .inl rfl,lq,fA⟩,El (Gh w1A) tA.size⟩
     (setRow_heap w rA.g TH _ tiA _ w1A) (by rw [Gv,Io _ _ _ Zt,Xg];exact w2A) w3A (by simp;omega) (λj u hu=>by
      rw [Hy,Hx _ _ _ _ Zt,Vn]
      by_cases hj:j<uA.length
      ·rw [At hj] at hu
       rw [Ab (by omega),Array.getElem?_toList]
       exact w5A j u hu
      ·rw [As (by omega)] at hu
       have:=(Ao.1 hu).1
       rw [Ak (by omega),Ab (by omega)]
       rw [show rA.o+j-((rA.o+0)*1+A.length*1)=j-uA.length by omega]
       exact hu)
     LAB (λi q h1=>⟨(hRs i q h1).1,(hRs i q h1).1,(hRs i q h1).2.2⟩)
    have:=g2 (A.length+B.length) (by simp)
    have e0:(rA.o+0)*1=rA.o:=by omega
    simp only [e0,Nat.sub_zero] at hr g1 this⊢
    exact ⟨_,_,π',hr,g1,this⟩
   ·have hold: ∀j u,uA[j]?=some u->w.cell? (adA.add j)=some u:=by
     intro j u hu
     have hj:=(Ao.1 hu).1
     rw [haA (by omega),Addr.add_lit,cellOf w1A,Fo,Dv];exact w5A j u hu
    have hr:=run_append_grow (P:=P) w t ty wR i _ hu hi tD adA A.length (rA.cap-0) uA (by rw [Vn,Fo];exact hlA) hold ⟨rB.g,(rB.o+0)*1,none⟩ B.length (rB.cap-0) uB n1' n2' (by omega) (by simp only [maxLen] at ja;omega) (growslice_fits (by omega) tw)
    have oY:=grownCap_ge w (A.length+B.length) (rA.cap-0) wR
    have ZL:=grownCap_le_maxLen w (A.length+B.length) (rA.cap-0) wR ja
    obtain ⟨π',g1,g2⟩:=Zs (w1:=w.drew.alloc (.cells (uA.toArray++uB.toArray++Builtin.zeroCells (Ce (Ty.slice e2) (Bw (Ty.slice e2))).cells (grownCap w (A.length+B.length) (rA.cap-0) wR-(A.length+B.length))) wR)) (gv:= λ_=>False) h rR hmp wR (e:=e2) (rows:=A++B) (us:=uA++uB) (Rs:=RA++RB) (g:=w.heap.size) (o:=0) (cap:=grownCap w (A.length+B.length) (rA.cap-0) wR)
     (λ_ hf=>hf.elim) (qA w _) ⟨.inl (Aq _),by simp⟩ (heap_alloc_new w.drew _) (by rw [Array.size_append,Array.size_append,Gv,Gv,Ul,hzs];omega) ZL (by simpa using oY) (λj u hu=>by
      have hj:=(Ao.1 hu).1
      rw [Bn,Tj (by simpa using hj)];simpa using hu)
     LAB (λi q h1=>⟨by have:=(hRs i q h1).2.1;omega,λh=>h,(hRs i q h1).2.2⟩)
    exact ⟨_,_,π',hr,g1,g2 _ (by simp)⟩
theorem lV: ∀τ:Ty,Fw X w π H (zeroCells τ) (Bw τ):=by
 have one: ∀(c:AC) (v:Value),v.oneCell'=true->Hj X w π H c v->Fw X w π H [c] [v]:= λc v h1 h2=>⟨rfl,λi c' hc=>by
  rcases i with _|i
  ·simp at hc;subst hc;exact ⟨v,rfl,h1,h2⟩
  ·simp at hc⟩
 intro τ
 induction τ with
 |unit=>exact ⟨rfl,λi c hc=>by simp [zeroCells] at hc⟩
 |pair a r iq ie=>
  refine ⟨by simp [zeroCells,Bw,iq.1,ie.1],λi c hc=>?_⟩
  simp only [zeroCells] at hc
  simp only [Bw]
  by_cases hi:i<(zeroCells a).length
  ·rw [At hi] at hc
   obtain ⟨u,hu,h⟩:=iq.2 i c hc
   exact ⟨u,by rw [At (by rw [iq.1];exact hi)];exact hu,h⟩
  ·rw [As (by omega)] at hc
   obtain ⟨u,hu,h⟩:=ie.2 _ c hc
   exact ⟨u,by rw [As (by rw [iq.1];omega),iq.1];exact hu,h⟩
 |int k=>exact one (.data true _ _) _ rfl (Mt (H:=H) k 0 true)
 |bool=>exact one (.data true _ _) _ rfl (Lo (H:=H) false true)
 |str=>exact one (.data true _ _) _ rfl (mJ (H:=H) ByteArray.empty true)
 |slice e=>exact one _ _ rfl rfl
 |oslice e=>exact one _ _ rfl rfl
 |ptr e=>exact one _ _ rfl rfl
 |optr e=>exact one _ _ rfl rfl
 |smap v=>exact one (.data true _ _) _ rfl ⟨[.map none], .inl ⟨rfl,rfl⟩,by simp [Ce,Ty.Ap]⟩
 |clo f c=>exact one .undef .nilFunc rfl trivial
theorem vJ: ∀τ:Ty,Fw X w π H (Ps τ) (Bw τ):=by
 have one: ∀(c:AC) (v:Value),v.oneCell'=true->Hj X w π H c v->Fw X w π H [c] [v]:= λc v h1 h2=>⟨rfl,λi c' hc=>by
  rcases i with _|i
  ·simp at hc;subst hc;exact ⟨v,rfl,h1,h2⟩
  ·simp at hc⟩
 intro τ
 induction τ with
 |unit=>exact ⟨rfl,λi c hc=>by simp [Ps] at hc⟩
 |pair a r iq ie=>
  refine ⟨by simp [Ps,Bw,iq.1,ie.1],λi c hc=>?_⟩
  simp only [Ps] at hc
  simp only [Bw]
  by_cases hi:i<(Ps a).length
  ·rw [At hi] at hc
   obtain ⟨u,hu,h⟩:=iq.2 i c hc
   exact ⟨u,by rw [At (by rw [iq.1];exact hi)];exact hu,h⟩
  ·rw [As (by omega)] at hc
   obtain ⟨u,hu,h⟩:=ie.2 _ c hc
   exact ⟨u,by rw [As (by rw [iq.1];omega),iq.1];exact hu,h⟩
 |int k=>exact one (.data false _ _) _ rfl (Mt (H:=H) k 0 false)
 |bool=>exact one (.data false _ _) _ rfl (Lo (H:=H) false false)
 |str=>exact one (.data false _ _) _ rfl (mJ (H:=H) ByteArray.empty false)
 |slice e=>exact one (.data false _ _) _ rfl ⟨[.slice none 0 0],⟨none,0,0,rfl,rfl,Aq _, .inl rfl⟩,by simp [Ce,Ty.Ap]⟩
 |oslice e=>exact one _ _ rfl rfl
 |ptr e=>exact one _ _ rfl rfl
 |optr e=>exact one _ _ rfl rfl
 |smap v=>exact one (.data false _ _) _ rfl ⟨[.map none], .inl ⟨rfl,rfl⟩,by simp [Ce,Ty.Ap]⟩
 |clo f c=>exact one .undef .nilFunc rfl trivial
theorem dV (hT:Ef P T) {st:St} {a:Act} (h:Bl X π st a w) (t:TypeId) (Kj:Array (Nat×Nat))
  (lq: ∀f o u ρ,T.off t f=some (o,u)->T.ty u=some ρ->Kj[f]?=some (o,ρ.size)): ∀(parts:List (Nat×Operand)) (cs iP:List AC) (us:List Value),Fw X w π st.heap cs us->
  Me T st t parts cs=some iP-> ∃Xa:List Value,Instr.fill (λi=>Kj[i]?) us.toArray (parts.map λp=>(p.1,a.eval p.2))=some Xa.toArray/\Fw X w π st.heap iP Xa
 | [],cs,iP,us,hr,he=>by
  simp only [Me,Aa] at he;subst he
  exact ⟨us,rfl,hr⟩
 |(f,x)::r,cs,iP,us,hr,he=>by
  simp only [Me] at he
  split at he
  ·rename_i o u ho
   split at he
   ·rename_i ρ hρ
    split at he
    ·rename_i c hc
     split at he
     ·rename_i hle
      obtain ⟨vs,hv,hl,hr2⟩:=iJ (Ea h.2 x) hc
      have e1:=hr.1
      have e2:=hr2.1
      obtain ⟨Xa,g1,g2⟩:=dV hT h t Kj lq r _ iP _ (ve hr hr2 o hle) he
      refine ⟨Xa,?_,g2⟩
      simp only [Ca]
      rw [xj _ us f (a.eval x) _ o ρ.size vs (lq f o u ρ ho hρ) hv hl (by omega)]
      exact g1
     ·cases he
    ·cases he
   ·cases he
  ·cases he
theorem gF (hT:Ef P T) {st:St} {a:Act} (h:Bl X π st a w) (t:TypeId) (parts:Array (Nat×Operand)) (av:AV) (he:Xq T st t parts=some av):
  ∃v',(Instr.build t (parts.map λ(i,x)=>(i,a.eval x))).run P w= .ok v' w/\Bq X w π st.heap av v':=by
 unfold Xq at he
 split at he
 ·cases he
 ·rename_i τ Xx
  split at he
  ·rename_i hs
   cases hb:Me T st t parts.toList (zeroCells τ) with
   |none=>rw [hb] at he;cases he
   |some iP=>
    rw [hb] at he
    simp only [Am,Aa] at he;subst he
    obtain ⟨fs,Kj,h1,h2,h3⟩:=hT.fill t τ Xx hs
    obtain ⟨i,hi,Vn,rQ,tD⟩:=(hT.ty t τ Xx).info
    obtain ⟨Xa,g1,g2⟩:=dV hT h t Kj h3 parts.toList (zeroCells τ) iP (Bw τ) (lV τ) hb
    refine ⟨.agg Xa.toArray,?_,Xa,rfl,g2⟩
    have hz:(zeroValue t).run P w= .ok (Ce τ (Bw τ)) w:=by simp [zeroValue,typeInfo,hi,tD]
    have hzc:(Ce τ (Bw τ)).cells=(Bw τ).toArray:=by simp [Ce,hs,Value.cells]
    have h2':=h2 w
    unfold placesOf at h2'
    have e1:(parts.map λ(i,x)=>(i,a.eval x)).toList=parts.toList.map λp=>(p.1,a.eval p.2):=by simp
    simp only [Instr.build,Sem.run_bind,hz,Result.andThen_ok,run_underlying h1,h2',hzc,e1,g1,Sem.run_pure]
  ·cases he
theorem uK {st:St} {v:AV} (h:v.settled=true):settle st v=some (v,st):=by
 cases v with
 | «at»a=>cases a<;>simp [AV.settled,AC.settled] at h<;>simp [settle,AC.settled]
 |agg cs=>
  have hs:cs.all (·.settled)=true:=h
  have:Hk cs.length st cs=some (cs,st):=by
   cases hn:cs.length with
   |zero=>simp [Hk,hs]
   |succ n=>
    have hf:cs.find? (λc=>!c.settled)=none:=List.find?_eq_none.2 λc hc=>by simpa using Bf.1 hs c hc
    simp [Hk,hf]
  simp [settle,this]
 |bp fr τ x=>rfl
 |Mn l=>simp [AV.settled] at h
theorem oz {e:Ty} {st:St} : ∀(parts:List (Nat×Operand)) (i:Nat) (fr:Bool) (ys:List e.den),fM e i parts st=some (fr,ys)-> ∃tr,Ld e i parts st=some (fr,tr,ys,st)
 | [],i,fr,ys,h=>by
  simp only [fM,Aa,Ah] at h
  obtain ⟨rfl,rfl⟩:=h
  exact ⟨true,rfl⟩
 |(j,x)::r,i,fr,ys,h=>by
  simp only [fM] at h
  split at h
  ·rename_i hc
   split at h
   ·rename_i f1 y f2 zs h1 h2
    simp only [Aa,Ah] at h
    obtain ⟨rfl,rfl⟩:=h
    obtain ⟨tr,h3⟩:=oz r (i+1) f2 zs h2
    refine ⟨Th st (st.ev x)&&e.tree&&tr,?_⟩
    simp only [Ld]
    rw [Ab hc.1,uK hc.2]
    simp only [h1,h3]
   ·cases h
  ·cases h
theorem ph (hT:Ef P T) {st:St} {a:Act} (h:Bl X π st a w) (t:TypeId) (len:Nat) (parts:Array (Nat×Operand)) (av:AV) (he:bE T st t len parts=some av):
  ∃v' w' π',(Instr.buildSlice t len (parts.map λ(i,x)=>(i,a.eval x))).run P w= .ok v' w'/\Bl X π' st a w'/\Bq X w' π' st.heap av v':=by
 unfold bE at he
 split at he
 ·cases he
 ·rename_i te lu
  split at he
  ·cases he
  ·rename_i e Xx
   split at he
   ·rename_i Jk
    obtain ⟨lq,hlen⟩:=Jk
    cases hp:fM e 0 parts.toList st with
    |none=>rw [hp] at he;cases he
    |some p=>
     obtain ⟨fr,ys⟩:=p
     rw [hp] at he
     simp only [Am,Aa] at he
     subst he
     obtain ⟨tr,hb⟩:=oz _ _ _ _ hp
     obtain ⟨i,hi,Vn,rQ,tD⟩:=(hT.ty te e Xx).info
     have hu:=hT.elem t te lu
     have TV:parts.toList.length=len:=by simpa using lq
     have hz: ∃z:Array Value,(len*e.size=0/\z= #[])\/(¬len*e.size=0/\(zeroValue te).run P w= .ok (Ce e (Bw e)) w/\z=(Ce e (Bw e)).cells):=by
      by_cases h0:len*e.size=0
      ·exact ⟨#[], .inl ⟨h0,rfl⟩⟩
      ·exact ⟨_, .inr ⟨h0,by simp [zeroValue,typeInfo,hi,tD],rfl⟩⟩
     obtain ⟨z,hz⟩:=hz
     obtain ⟨cm,cl,g1,g2,g3,g4,g5,g6⟩:=Xk e parts.toList 0 st π fr tr ys st ((Array.range (len*e.size)).map (z[· %z.size]!)).toList h hb (by simp [TV])
     have Qf:cl.length=len*e.size:=by rw [g2.1,g3,TV]
     have hsp:(Dw ((Array.range (len*e.size)).map (z[· %z.size]!)).toList (0*e.size) cl)=cl:=by
      simp [Dw,Qf]
     rw [hsp] at g5
     have Vo:(Instr.buildSlice t len (parts.map λ(i,x)=>(i,a.eval x))).run P w= .ok (.slice (some ⟨w.heap.size,0,none⟩) len len) (w.alloc (.cells cl.toArray te)):=by
      have h24: ¬(len*e.size>2^24):=by
       have:len*e.size<=64*64:=dO hlen.1 hlen.2
       omega
      simp only [Instr.buildSlice,Sem.run_bind,run_underlying hu,Result.andThen_ok,(hT.ty te e Xx).size,Ak h24]
      have e1:(parts.map λ(i,x)=>(i,a.eval x)).toList=parts.toList.map λp=>(p.1,a.eval p.2):=by simp
      simp only [e1]
      have e2:(((Array.range (len*e.size)).map (z[· %z.size]!)).toList.toArray)=(Array.range (len*e.size)).map (z[· %z.size]!):=Array.toArray_toList
      rw [e2] at g5
      rcases hz with ⟨h0,rfl⟩|⟨h0,hz,rfl⟩
      ·rw [Ab h0]
       simp only [Sem.run_bind,Sem.run_pure,Result.andThen_ok,g5,newRow]
       simp
      ·rw [Ak h0]
       simp only [Sem.run_bind,Sem.run_pure,Result.andThen_ok,hz,g5,newRow]
       simp
     have LM:(w.alloc (.cells cl.toArray te)).heap[w.heap.size]?=some (.cells cl.toArray te (0,0)):=heap_alloc_new w _
     have hB:Below w.heap.size w (w.alloc (.cells cl.toArray te)):=(Below.refl _ _).alloc (Aq _) _
     have Jc:=Gh LM
     refine ⟨_,_,cm,Vo,g1.quiet hB,⟨[_],?_,rfl⟩⟩
     refine ⟨some ⟨w.heap.size,0,none⟩,len,len,rfl,by rw [g3,TV],Aq _, .inr ⟨w.heap.size,0,rfl,Jc,λhA=>?_,λk x hx=>?_⟩⟩
     ·rcases hA with hA|hA|⟨_,hA⟩
      ·exact absurd (g1.1.own hA).1 (Nat.lt_irrefl _)
      ·exact absurd (El (g1.1.sc _ hA).1 g1.1.below.size) (Nat.lt_irrefl _)
      ·exact absurd (El hA g1.1.below.size) (Nat.lt_irrefl _)
     ·obtain ⟨es,k1,k2,k3⟩:=g2.2 k x hx
      refine ⟨es,k1,λj u hu=>?_,Cells.Fm hB.size (λb hb _=>hB.block b hb) (λ_ _ h=>h) e es x k3⟩
      rw [cellOf LM,Bn]
      simpa using k2 j u hu
   ·cases he
theorem EM {Γ:Env} (hT:Ef P T) (Om:Kq P Γ) {st:St} {a:Act} (h:Bl X π st a w) (o:Oper) (av:AV) (he:Xf T Γ st o=some av):
  iy P X st a w av ((execOp a.eval o).run P w):=by
 obtain ⟨dst,op,ty,pos,af,gd⟩:=o
 have val: ∀(s:Sem Value) (v:Value) (w':World) (π':Pi),s.run P w= .ok v w'->Bl X π' st a w'->Bq X w' π' st.heap av v->(execOp a.eval ⟨dst,op,ty,pos,af,gd⟩=do pure (.value (<-s)))->
   iy P X st a w av ((execOp a.eval ⟨dst,op,ty,pos,af,gd⟩).run P w):=by
  intro s v w' π' h1 h2 h3 h4
  rw [h4,Sem.run_bind,h1]
  exact ⟨π',h2,h3⟩
 have quiet:Fl T Γ st ⟨dst,op,ty,pos,af,gd⟩=some av->iy P X st a w av ((execOp a.eval ⟨dst,op,ty,pos,af,gd⟩).run P w):=by
  intro hq
  have:=iT hT Om h _ av hq
  generalize (execOp a.eval ⟨dst,op,ty,pos,af,gd⟩).run P w=r at*
  cases r with
  |halt x w'=>exact this
  |ok n w'=>
   cases n<;>simp only [PV] at this<;>simp only [iy]
   ·obtain ⟨rfl,hr⟩:=this
    exact ⟨π,h,hr⟩
   ·obtain ⟨rfl,hc⟩:=this
    exact ⟨rfl,hc.mono λe rE ⟨v,hv,hb,hr⟩=>⟨v,hv,π,h.quiet hb,hr⟩⟩
 unfold Xf at he
 split at he
 ·rename_i t len parts qO
  dsimp only at qO;subst qO
  obtain ⟨v,w',π',h1,h2,h3⟩:=ph hT h t len parts av he
  exact val _ v w' π' h1 h2 h3 rfl
 ·rename_i t parts qO
  dsimp only at qO;subst qO
  obtain ⟨v',h1,h2⟩:=gF hT h t parts av he
  exact val _ v' w π h1 h h2 rfl
 ·exact quiet he
theorem dD {a:Act} : ∀(l:List Operand) {π:Pi} {st st1:St},Bl X π st a w->Mz l st=some st1-> ∃π',Bl X π' st1 a w
 | [],π,st,st1,h,he=>by
  simp only [Mz,Aa] at he
  subst he
  exact ⟨π,h⟩
 |x::r,π,st,st1,h,he=>by
  simp only [Mz] at he
  cases hs:settle st (st.ev x) with
  |none=>rw [hs] at he;cases he
  |some p=>
   rw [hs] at he
   obtain ⟨cm,h1,_⟩:=c7 h (Ea h.2 x) hs
   exact dD r h1 he
theorem IU {a:Act} {st:St} (h:Bl X π st a w) (p x:Operand): ∃π',Bl X π' (Oe T st p x) a w:=by
 unfold Oe
 split
 ·split
  ·split
   ·rename_i hs;exact dD _ h hs
   ·exact ⟨π,h⟩
  ·exact ⟨π,h⟩
 ·exact ⟨π,h⟩
theorem zb {Γ:Env} (hT:Ef P T) (Om:Kq P Γ) {st:St} {a:Act} (h:Bl X π st a w) (o:Oper) (av:AV) (st':St) (he:evalOp T Γ st o=some (av,st')):
  iy P X st' a w av ((execOp a.eval o).run P w):=by
 have quiet: ∀ {π:Pi} {st:St},Bl X π st a w->(Fl T Γ st o).map (λv=>(v,st))=some (av,st')->iy P X st' a w av ((execOp a.eval o).run P w):=by
  intro π st h he
  cases hq:Fl T Γ st o with
  |none=>rw [hq] at he;cases he
  |some v=>
   rw [hq] at he
   simp only [Am,Aa,Ah] at he
   obtain ⟨rfl,rfl⟩:=he
   have:=iT hT Om h o v hq
   generalize (execOp a.eval o).run P w=r at*
   cases r with
   |halt x w'=>exact this
   |ok n w'=>
    cases n<;>simp only [PV] at this<;>simp only [iy]
    ·obtain ⟨rfl,hr⟩:=this
     exact ⟨π,h,hr⟩
    ·obtain ⟨rfl,hc⟩:=this
     exact ⟨rfl,hc.mono λe rE ⟨v,hv,hb,hr⟩=>⟨v,hv,π,h.quiet hb,hr⟩⟩
 obtain ⟨dst,op,ty,pos,af,gd⟩:=o
 have val: ∀(s:Sem Value) (v:Value) (w':World) (π':Pi),s.run P w= .ok v w'->Bl X π' st' a w'->Bq X w' π' st'.heap av v->(execOp a.eval ⟨dst,op,ty,pos,af,gd⟩=do pure (.value (<-s)))->
   iy P X st' a w av ((execOp a.eval ⟨dst,op,ty,pos,af,gd⟩).run P w):=by
  intro s v w' π' h1 h2 h3 h4
  rw [h4,Sem.run_bind,h1]
  exact ⟨π',h2,h3⟩
 unfold evalOp at he
 split at he
 all_goals (rename_i qO;dsimp only at qO;try subst qO)
 ·
  rename_i x
  split at he
  ·rename_i d te e hx hd ht
   split at he
   ·rename_i hdp
    simp only [Aa,Ah] at he
    obtain ⟨rfl,rfl⟩:=he
    obtain ⟨k1,k2,_⟩:=ud h d hdp (T.sl||e.flat) T.yC te e
    have hxr:=Ea h.2 x
    rw [hx] at hxr
    have hxv:a.eval x= .slice none 0 0:=hxr
    show iy P X _ a w _ (.ok (.value (a.eval x)) w)
    rw [hxv]
    exact ⟨_,k1,k2⟩
   ·cases he
  ·simp only [Aa,Ah] at he
   obtain ⟨rfl,rfl⟩:=he
   exact ⟨π,h,Ea h.2 x⟩
 ·
  rename_i t
  split at he
  ·rename_i d τ hd ht
   obtain ⟨i,hi,Vn,rQ,tD⟩:=(hT.ty t τ ht).info
   have hk: ∃π',Bl X π' st' a (w.alloc (.cells (Bw τ).toArray t))/\Bq X (w.alloc (.cells (Bw τ).toArray t)) π' st'.heap av (.pointer (some ⟨w.heap.size,0,none⟩)):=by
    split at he
    ·exact zQ h d t (Ps τ) (Bw τ) (vJ τ) av st' he
    ·exact qY h d t τ (zeroCells τ) (Bw τ) (lV τ) av st' he
   obtain ⟨π',k1,k2⟩:=hk
   have hzc:(Ce τ (Bw τ)).cells=(Bw τ).toArray:=by
    cases τ<;>simp [Ce,Ty.Ap,Value.cells,Bw]
   refine val (Instr.alloc t true (.tuple #[])) _ _ π' ?_ k1 k2 rfl
   simp [Instr.alloc,zeroValue,typeInfo,hi,tD,newVar,newRow,hzc]
  ·cases he
 ·
  rename_i t x
  split at he
  ·rename_i d τ hd ht
   split at he
   ·rename_i cs hc
    obtain ⟨us,hv,hl,hr⟩:=iJ (Ea h.2 x) hc
    have hk: ∃π',Bl X π' st' a (w.alloc (.cells us.toArray t))/\Bq X (w.alloc (.cells us.toArray t)) π' st'.heap av (.pointer (some ⟨w.heap.size,0,none⟩)):=by
     split at he
     ·split at he
      ·rename_i Rj
       cases hvc:Fh st τ cs with
       |none=>rw [hvc] at he;cases he
       |some p=>
        obtain ⟨fr,y⟩:=p
        rw [hvc] at he
        simp only [Am,Aa,Ah] at he
        obtain ⟨rfl,rfl⟩:=he
        have Qf:=Wx τ cs us fr y Rj hr hvc
        have hB:Below w.heap.size w (w.alloc (.cells us.toArray t)):=(Below.refl _ _).alloc (Aq _) _
        have LM:(w.alloc (.cells us.toArray t)).heap[w.heap.size]?=some (.cells us.toArray t (0,0)):=heap_alloc_new w _
        refine ⟨π,h.quiet hB,[_], .inr ⟨y,w.heap.size,0,rfl,rfl,Gh LM,λhA=>?_,us,hl,λj u hu=>?_,Cells.Fm hB.size (λb hb _=>hB.block b hb) (λb _ hA=>?_) τ us y Qf⟩,by simp [Ce,Ty.Ap]⟩
        ·rcases hA with hA|hA|⟨hf,_⟩
         ·exact absurd (h.1.own hA).1 (Nat.lt_irrefl _)
         ·exact absurd (El (h.1.sc _ hA).1 h.1.below.size) (Nat.lt_irrefl _)
         ·cases hf
        ·rw [cellOf LM,Bn];simpa using hu
        ·exact hA.imp id (Or.imp id λ⟨h1,_⟩=>by cases h1)
      ·cases he
     ·exact qY h d t τ cs us hr av st' he
    obtain ⟨π',k1,k2⟩:=hk
    refine val (Instr.box t (a.eval x)) _ _ π' ?_ k1 k2 rfl
    simp [Instr.box,newVar,newRow,hv]
   ·cases he
  ·cases he
 ·
  rename_i t p x
  obtain ⟨π0,h⟩:=IU (T:=T) h p x
  cases hs:Ph T (Oe T st p x) t ((Oe T st p x).ev p) ((Oe T st p x).ev x) with
  |none=>rw [hs] at he;cases he
  |some s=>
   rw [hs] at he
   simp only [Am,Aa,Ah] at he
   obtain ⟨rfl,rfl⟩:=he
   obtain ⟨w',π',h1,h2⟩:=pq hT h t _ _ _ _ (Ea h.2 p) (Ea h.2 x) s hs
   have:(execOp a.eval ⟨dst, .store t p x,ty,pos,af,gd⟩).run P w= .ok .skip w':=by
    show (do Instr.storeAt t (a.eval p) (a.eval x);pure Next.skip:Sem Next).run P w=_
    rw [Sem.run_bind,h1];rfl
   rw [this]
   exact ⟨π',h2,trivial⟩
 ·
  rename_i t l c
  split at he
  ·rename_i d hd
   obtain ⟨v,w',π',h1,h2,h3⟩:=rO hT h d t _ _ _ _ (Ea h.2 l) (Ea h.2 c) av st' he
   exact val _ v w' π' h1 h2 h3 rfl
  ·cases he
 ·
  rename_i t
  split at he
  ·rename_i d hd
   obtain ⟨v,w',π',h1,h2,h3⟩:=nI hT h d t av st' he
   exact val _ v w' π' h1 h2 h3 rfl
  ·cases he
 ·
  rename_i t m k x
  cases hs:Is T st t (st.ev m) (st.ev k) (st.ev x) with
  |none=>rw [hs] at he;cases he
  |some s=>
   rw [hs] at he
   simp only [Am,Aa,Ah] at he
   obtain ⟨rfl,rfl⟩:=he
   obtain ⟨w',h1,h2⟩:=ed hT h t _ _ _ _ _ _ (Ea h.2 m) (Ea h.2 k) (Ea h.2 x) s hs
   have:(execOp a.eval ⟨dst, .mapUpdate t m k x,ty,pos,af,gd⟩).run P w= .ok .skip w':=by
    show (do Instr.mapUpdate t (a.eval m) (a.eval k) (a.eval x);pure Next.skip:Sem Next).run P w=_
    rw [Sem.run_bind,h1];rfl
   rw [this]
   exact ⟨π,h2,trivial⟩
 ·
  rename_i t m k x
  cases hs:Is T st t (st.ev m) (st.ev k) (st.ev x) with
  |none=>rw [hs] at he;cases he
  |some s=>
   rw [hs] at he
   simp only [Am,Aa,Ah] at he
   obtain ⟨rfl,rfl⟩:=he
   obtain ⟨w',h1,h2⟩:=ed hT h t _ _ _ _ _ _ (Ea h.2 m) (Ea h.2 k) (Ea h.2 x) s hs
   have:(execOp a.eval ⟨dst, .insert t m k x,ty,pos,af,gd⟩).run P w= .ok .skip w':=by
    show (do Instr.mapUpdate t (a.eval m) (a.eval k) (a.eval x);pure Next.skip:Sem Next).run P w=_
    rw [Sem.run_bind,h1];rfl
   rw [this]
   exact ⟨π,h2,trivial⟩
 ·
  rename_i t len parts
  split at he
  ·rename_i d hd
   obtain ⟨v,w',π',h1,h2,h3⟩:=hY hT h d t len parts av st' he
   exact val _ v w' π' h1 h2 h3 rfl
  ·cases he
 ·
  rename_i t parts
  cases hb:Xq T st t parts with
  |none=>rw [hb] at he;cases he
  |some v=>
   rw [hb] at he
   simp only [Am,Aa,Ah] at he
   obtain ⟨rfl,rfl⟩:=he
   obtain ⟨v',h1,h2⟩:=gF hT h t parts v hb
   exact val _ v' w π h1 h h2 rfl
 ·
  rename_i args ts
  split at he
  ·rename_i d x y t t' hd Qt w7
   split at he
   ·rename_i Vv;subst Vv
    have e1:args= #[x,y]:=by apply Ow;simpa using Qt
    have e2:ts= #[t,t]:=by apply Ow;simpa using w7
    subst e1;subst e2
    obtain ⟨v,w',π',h1,h2,h3⟩:=nF hT h d t ty x y av st' he
    refine val (Builtin.append_ #[t,t] ty #[a.eval x,a.eval y]) v w' π' h1 h2 h3 ?_
    simp [execOp,resolve,invoke,builtin]
   ·cases he
  ·cases he
 ·
  rename_i args ts
  split at he
  ·rename_i x y t t' Qt w7
   have e1:args= #[x,y]:=by apply Ow;simpa using Qt
   have e2:ts= #[t,t']:=by apply Ow;simpa using w7
   subst e1;subst e2
   obtain ⟨v,w',h1,h2,h3⟩:=sZ hT h t t' ty _ _ _ _ (Ea h.2 x) (Ea h.2 y) av st' he
   refine val (Builtin.copy_ #[t,t'] ty #[a.eval x,a.eval y]) v w' π h1 h2 h3 ?_
   simp [execOp,resolve,invoke,builtin]
  ·cases he
 ·
  rename_i args ts
  split at he
  ·rename_i x t Qt w7
   have e1:args= #[x]:=by apply Ow;simpa using Qt
   have e2:ts= #[t]:=by apply Ow;simpa using w7
   subst e1;subst e2
   cases hs:evalClear T st t (st.ev x) with
   |none=>rw [hs] at he;cases he
   |some s=>
    rw [hs] at he
    simp only [Am,Aa,Ah] at he
    obtain ⟨rfl,rfl⟩:=he
    obtain ⟨v,w',h1,h2⟩:=rN hT h t ty _ _ (Ea h.2 x) s hs
    refine val (Builtin.clear_ #[t] ty #[a.eval x]) v w' π h1 h2 trivial ?_
    simp [execOp,resolve,invoke,builtin]
  ·cases he
 ·
  rename_i f args ts
  split at he
  ·rename_i s Ap8
   have hs:Ci P f s:=Om f _ Ap8
   have:=rM h hs dst (args.toList.map st.ev) (args.toList.map a.eval) (by simp) (λi c v=>jC h args.toList i c v) av st' he
   rw [jF a.eval f args ts dst ty pos af gd rfl hs.enter]
   refine ⟨rfl,?_⟩
   rwa [show (args.toList.map a.eval).toArray=args.map a.eval from by apply Ow;simp] at this
  ·rename_i s Ap8
   split at he
   ·cases hs:Mz args.toList st with
    |none=>rw [hs] at he;cases he
    |some st1=>
     rw [hs] at he
     obtain ⟨cm,h1⟩:=dD args.toList h hs
     exact quiet h1 he
   ·exact quiet h he
  ·exact quiet h he
 ·exact quiet h he
end
end Go.Proofs.Ytkkdpknjohcekaa
