/-
  Part 23 of the proof that the statement FnMethods holds.
-/
import Derived.Test.YtkkdpknjohcekaaGreatCFMethods21
namespace Go.Proofs.YtkkdpknjohcekaaGreat
open Go.RowKit
section
variable {P:Program} {T:Tab} {X:Ctx} {w w':World} {π:Pi} {H:List (Nat×OB)}
theorem zm {π':Pi} {st':St} {a:Act} (h:Bh X π' st' a w) (k:Ls π π' H st'.heap) {fr:Bool} (τ:Ty) (cs:List Value) (x:τ.den) (hc:Cells w (Dc X.w0.heap.size X.Sc π fr) τ cs x):
  Cells w (Dc X.w0.heap.size X.Sc π' fr) τ cs x:=
 Cells.Gj (Aq _) (λ_ _ _=>rfl) (λb _ hA=>by
  rcases hA with ⟨l,r,hl,hg⟩|h2
  ·have hh:=h.1.heap l
   cases hb:Av st'.heap l with
   |none=>have:=hh.emp hb;rw [this] at hl;cases hl
   |some b'=>have:=(k l b' hb).1;rw [this] at hl;exact .inl ⟨l,r,hl,hg⟩
  ·exact .inr h2) τ cs x hc
theorem iE.drop {F:List Nat} {l:Nat} (h:iE X w π F):iE X w (Xo π l none) F:=
 ⟨h.1,λb hb=>⟨(h.2 b hb).1,(h.2 b hb).2.1,λm r hm=>by
  by_cases e:m=l
  ·subst e;rw [Hk] at hm;cases hm
  ·rw [Hg π none e] at hm;exact (h.2 b hb).2.2 m r hm⟩⟩
theorem uo {st:St} {a:Act} (h:Bh X π st a w) (l:Nat) (hl:l<Bk) (f0 t0:Bool) (te:TypeId) (e:Ty):
  Bh X (Xo π l none) (st.new l (.arr f0 t0 e te [])) a w/\Bs X w (Xo π l none) (st.new l (.arr f0 t0 e te [])).heap (.at (.own l 0 0)) (.slice none 0 0)/\
   ∀fr τ cs x,Cells w (Dc X.w0.heap.size X.Sc π fr) τ cs x->Cells w (Dc X.w0.heap.size X.Sc (Xo π l none) fr) τ cs x:=
 ⟨h.replace l hl none _ (Qi w _) (λr hr=>by cases hr) (λ_=>rfl),
  HD (St.Ht st l _) (Aq _) (by rw [Hk];exact ⟨rfl,rfl,rfl⟩),
  fun fr τ cs x hc=>Cells.Gj (Aq _) (λ_ _ _=>rfl) (λb _ hA=>by
  rcases hA with ⟨m,r,hm,hg⟩|h2
  ·by_cases e:m=l
   ·subst e;rw [Hk] at hm;cases hm
   ·rw [Hg π none e] at hm;exact .inl ⟨m,r,hm,hg⟩
  ·exact .inr h2) τ cs x hc⟩
theorem Yj (hT:Ep P T) {st:St} {a:Act} (h:Bh X π st a w) (dst:Nat) (t ty:TypeId) (x y:Operand) (av:AV) (st':St) (he:Pc T st dst t x y=some (av,st')):
  ∃v' w' π',(Builtin.append_ #[t,t] ty #[a.eval x,a.eval y]).run P w= .ok v' w'/\Bh X π' st' a w'/\Bs X w' π' st'.heap av v':=by
 unfold Pc at he
 split at he
 ·cases he
 ·rename_i te lr
  split at he
  ·rename_i e y' st1 Yt hs
   obtain ⟨cG,h1,h2,h3,h4,h5⟩:=cy h (Ed h.2 y) hs
   split at he
   ·cases he
   ·rename_i sk ys hv
    dsimp only at he
    have SG: ∀tr2,tr2=(e.flat||(Ua st (st.ev y)&&e.tree))->tr2=true->e.flat=true\/ ∃F,Di w F (.slice e) [a.eval y] ys/\iE X w cG F:=by
     intro tr2 e2 o0
     subst e2
     cases hef:e.flat with
     |true=>exact .inl rfl
     |false=>
     right
     simp only [hef,bJ,Ah] at o0
     obtain ⟨F,us,f1,f2,f3,_⟩:=h5 o0.1 (.slice e) sk ys o0.2 hv
     have hus:us= [a.eval y]:=by
      simp only [Di] at f1
      obtain ⟨a0,len,cap,rfl,_⟩:=f1
      rw [f2];simp [Ce,Ty.Ar]
     rw [hus] at f1
     exact ⟨F,f1,f3⟩
    have hyc:Cells w (Dc X.w0.heap.size X.Sc cG sk) (.slice e) [a.eval y] ys:=Dg.Sx rfl (Ns _ y' _ sk ys h3 h2 hv)
    have hxr:=Ed h1.2 x
    split at he
    ·rename_i hx
     rw [hx] at hxr
     have hxv:a.eval x= .slice none 0 0:=hxr
     split at he
     ·rename_i pF
      simp only [Aa,Af] at he
      obtain ⟨rfl,rfl⟩:=he
      obtain ⟨k1,k2,k3⟩:=uo h1 dst pF.2 (T.tq||e.flat) T.CY te e
      have:=nq (ty:=ty) hT k1 lr Yt pF.2 (fr3:=sk||e.flat) (tr2:=e.flat||(Ua st (st.ev y)&&e.tree)) rfl (St.Ht st1 dst _) k2 (k3 _ _ _ _ hyc) (by rw [Bt];exact pF.1) (λht=>by
       rcases SG _ rfl ht with h0|⟨F,f1,f2⟩
       ·exact .inl h0
       ·exact .inr ⟨F,f1,f2.drop⟩)
      rw [<-hxv] at this
      exact this
     ·cases he
    ·rename_i l off len hx
     rw [hx] at hxr
     split at he
     ·rename_i fr tr e' tid xs hl
      split at he
      ·rename_i Kt
       obtain ⟨rfl,rfl⟩:=Kt
       split at he
       ·rename_i pF
        simp only [Aa,Af] at he
        obtain ⟨rfl,rfl⟩:=he
        exact nq (ty:=ty) hT h1 lr Yt pF.2 (fr3:=sk||e'.flat) (tr2:=e'.flat||(Ua st (st.ev y)&&e'.tree)) rfl hl hxr hyc pF.1 (SG _ rfl)
       ·cases he
      ·cases he
     ·cases he
    ·cases he
  ·cases he
theorem nF (hT:Ep P T) {st:St} {a:Act} (h:Bh X π st a w) (dst:Nat) (t ty:TypeId) (x y:Operand) (av:AV) (st':St) (he:So T st dst t x y=some (av,st')):
  ∃v' w' π',(Builtin.append_ #[t,t] ty #[a.eval x,a.eval y]).run P w= .ok v' w'/\Bh X π' st' a w'/\Bs X w' π' st'.heap av v':=by
 unfold So at he
 split at he
 ·rename_i tx
  split at he
  ·rename_i l i c hg
   split at he
   ·rename_i e te rows kp tid hl _
    split at he
    ·rename_i hc
     simp only [Ah,Oc,Fm] at hc
     have jh:dst≠l:= λe=>by rw [e,Nat.beq_refl] at hc;cases hc.2.2
     unfold St.at at hl
     have hv:Iq X w π st.heap (.sub l i c) (a.tmps.getD tx undef):=by
      have:=h.2.tmps tx
      rw [hg] at this
      exact this
     obtain ⟨cG,h1,h2⟩:=LN (tid:=tid) h hl jh hc.2.1 hc.1 hv
     have h3:=h1.put (some tx) (c:= .at (.own dst 0 (rows.getD i []).length)) h2
     have Aou:a.put (some tx) (a.tmps.getD tx undef)=a:=by
      have:a.tmps.setIfInBounds tx (a.tmps.getD tx undef)=a.tmps:=by
       apply Array.ext_getElem?
       intro k
       rw [Array.getElem?_setIfInBounds]
       split
       ·rename_i e
        subst e
        split
        ·rename_i Me
         rw [Array.getElem?_eq_getElem Me];simp
        ·rename_i Me
         rw [Array.getElem?_eq_none (by omega)]
       ·rfl
      simp only [Act.put,this]
     rw [Aou] at h3
     exact Yj hT h3 dst t ty (.tmp tx) y av st' he
    ·cases he
   ·cases he
  ·exact Yj hT h dst t ty _ y av st' he
 ·exact Yj hT h dst t ty x y av st' he
theorem QP {S:Nat->Prop} {e:Ty} (h:nc e=true): ∃z,Bw e= [z]/\e.Ar=false/\e.size=1/\Cells w S e [z] e.zero/\z.oneCell'=true:=by
 cases e<;>simp [nc] at h
 ·exact ⟨_,rfl,rfl,rfl,rfl,rfl⟩
 ·exact ⟨_,rfl,rfl,rfl,rfl,rfl⟩
 ·exact ⟨_,rfl,rfl,rfl,rfl,rfl⟩
 ·exact ⟨_,rfl,rfl,rfl,⟨none,0,0,rfl,rfl,Aq _, .inl rfl⟩,rfl⟩
 ·exact ⟨_,rfl,rfl,rfl, .inl ⟨rfl,0,rfl⟩,rfl⟩
theorem KI {e:Ty} {z:Value} (ht:e.tree=true) (h:nc e=true) (hz:Bw e= [z]):Di w [] e [z] e.zero:=by
 cases e<;>simp [nc] at h<;>simp only [Bw,Hq,bq] at hz<;>subst hz<;>try (simp [Ty.tree] at ht;done)
 ·exact ⟨rfl,rfl⟩
 ·exact ⟨rfl,rfl⟩
 ·exact ⟨rfl,rfl⟩
 ·exact ⟨none,0,0,rfl,rfl,Aq _, .inl ⟨rfl,rfl,rfl,rfl⟩⟩
theorem Adr {S:Nat->Prop} : ∀(e:Ty),gB e=true->(Bw e).length=e.size/\Cells w S e (Bw e) e.zero/\(e.tree=true->Di w [] e (Bw e) e.zero):=by
 intro e
 induction e with
 |unit=>intro _;exact ⟨rfl,rfl,λ_=>⟨rfl,rfl⟩⟩
 |pair a r iC iw=>
  intro h
  simp only [gB,Ah] at h
  obtain ⟨a1,a2,a3⟩:=iC h.1
  obtain ⟨r1,r2,r3⟩:=iw h.2
  exact ⟨by simp [Bw,Ty.size,a1,r1],⟨_,_,rfl,a2,r2⟩,λht=>by simp only [Ty.tree,Ah] at ht;exact ⟨_,_,[],[],rfl,rfl,a3 ht.1,r3 ht.2⟩⟩
 |_=>
  intro h
  simp only [gB] at h
  obtain ⟨z,z1,z2,z3,z4,_⟩:=QP (w:=w) (S:=S) h
  exact ⟨by rw [z1,z3];rfl,by rw [z1];exact z4,λht=>by rw [z1];exact KI ht h z1⟩
theorem SQ {z:Array Value} {s m j q:Nat} (hz:z.size=s) (hj:j<m) (hq:q<s):(madeCells z (m*s))[j*s+q]?=z[q]?:=by
 have h1:j*s+q<m*s:=by
  have:=Fv s (show j+1<=m by omega)
  rw [Nat.succ_mul] at this
  omega
 have h2:(j*s+q)%z.size=q:=by rw [hz,Nat.mul_comm,Nat.mul_add_mod,Nat.mod_eq_of_lt hq]
 have h3:q<z.size:=by omega
 unfold madeCells
 simp [h1,h2,h3]
theorem tf (hT:Ep P T) {st:St} {a:Act} (h:Bh X π st a w) (dst:Nat) (t:TypeId) (l c:AV) (vl vc:Value) (hl:Bs X w π st.heap l vl) (hc:Bs X w π st.heap c vc) (av:AV) (st':St)
  (he:bY T st dst t l c=some (av,st')): ∃v' w' π',(Instr.makeSlice t vl vc).run P w= .ok v' w'/\Bh X π' st' a w'/\Bs X w' π' st'.heap av v':=by
 unfold bY at he
 split at he
 ·rename_i te fr1 k1 n sk k2 m lr
  have:=Qq hl;subst this
  have:=Qq hc;subst this
  split at he
  ·rename_i e Yt
   split at he
   ·rename_i Kt
    obtain ⟨h0,hnm,hz,hdp⟩:=Kt
    obtain ⟨h1,h2⟩:=Ut.1 h0
    subst hnm
    simp only [Aa,Af] at he
    obtain ⟨rfl,rfl⟩:=he
    obtain ⟨i,hi,Wf,rR,tJ⟩:=(hT.ty te e Yt).info
    obtain ⟨z1,z4,z5⟩:=Adr (w:=w) (S:=Dc X.w0.heap.size X.Sc π (T.tq||e.flat)) e hz
    have hzc:(Ce e (Bw e)).cells=(Bw e).toArray:=Ly e _ _ z4
    have hu:=hT.elem t te lr
    have hn:n.toNat<=4294967296:=by unfold Ea at h2;omega
    have hr:=run_make (P:=P) (w:=w) t te i _ hu hi tJ k1 k2 n n h1 (Kl _) (by
     have:(i.bytes:Int)*n<=256*4294967296:=by
      obtain ⟨nn,rfl⟩:=Ci h1
      have h7:i.bytes*nn<=256*4294967296:=Uf rR (by simpa using hn)
      have h8:((i.bytes*nn:Nat):Int)<=256*4294967296:=by omega
      rwa [Int.natCast_mul] at h8
     omega) (by unfold Ea at h2;omega)
    rw [hzc,Wf] at hr
    have aN:((Bw e).toArray).size=e.size:=by simpa using z1
    have cell: ∀j,j<n.toNat-> ∀q u,(Bw e)[q]?=some u->(madeCells (Bw e).toArray (n.toNat*e.size)).toList[j*e.size+q]?=some u:=by
     intro j hj q u hu
     have hq:q<e.size:=by rw [<-z1];exact (Ao.1 hu).1
     have:=SQ aN hj hq
     rw [cH,this]
     simpa using hu
    have:=fP (w1:=w.alloc (.cells (madeCells (Bw e).toArray (n.toNat*e.size)) te)) h dst hdp (T.tq||e.flat) (T.CY&&e.tree) e te (List.replicate n.toNat e.zero) (madeCells (Bw e).toArray (n.toNat*e.size)).toList (madeCells (Bw e).toArray (n.toNat*e.size)) n.toNat []
     (.inr rfl) (by rw [size_madeCells]) (by unfold maxLen;omega) (by simp)
     (λk u hu=>by
      rw [cH] at hu;exact hu) ⟨by simp [size_madeCells],λj x hx=>by
       have hj:=(Ao.1 hx).1
       simp only [Ej] at hj
       refine ⟨Bw e,z1,λq u hu=>cell j hj q u hu,?_⟩
       rw [Gr (Cn hx)];exact z4⟩ (by simp) (λo0=>⟨Ob,List.replicate n.toNat [],by simp,by simp,λj x F hx hF=>by
      have hj:=(Ao.1 hx).1
      simp only [Ej] at hj
      refine ⟨Bw e,z1,λq u hu=>cell j hj q u hu,?_⟩
      have e1:=Gr (Cn hx)
      have e2:=Gr (Cn hF)
      rw [e1,e2]
      exact z5 (by simp only [Ah] at o0;exact o0.2)⟩)
    exact ⟨_,_,_,hr,this.1,this.2 _ (by simp)⟩
   ·cases he
  ·cases he
 ·cases he
theorem j9 (off:Nat): ∀(us:List Value) (k:Nat) (cells:List Value),off+k+us.length<=cells.length->
  (us.zipIdx k).foldl (λcs p=>cs.setIfInBounds (off+p.2) p.1) cells.toArray=(Dt cells (off+k) us).toArray
 | [],k,cells,h=>by simp [Dt]
 |u::us,k,cells,h=>by
  simp only [List.zipIdx_cons,Rw]
  rw [show cells.toArray.setIfInBounds (off+k) u=(cells.set (off+k) u).toArray by simp]
  rw [j9 off us (k+1) (cells.set (off+k) u) (by simp at h⊢;omega)]
  congr 1
  apply List.ext_getElem?
  intro j
  have hl:off+k+(u::us).length<=cells.length:=h
  have nd:off+(k+1)+us.length<=(cells.set (off+k) u).length:=by simp at h⊢;omega
  rw [Ja _ _ _ _ hl,Ja _ _ _ _ nd]
  simp only [Ay]
  by_cases h1:j<off+k
  ·rw [Ab (by omega),Ab h1,List.getElem?_set_ne (by omega)]
  ·rw [Ai h1]
   by_cases h2:j=off+k
   ·subst h2
    rw [Ab (by omega),Ab (by omega),List.getElem?_set_self (by simp at h;omega)]
    simp
   ·rw [Ai (by omega)]
    by_cases h3:j<off+k+(us.length+1)
    ·rw [Ab (by omega),Ab h3]
     rw [show j-(off+k)=(j-(off+(k+1)))+1 by omega,Nh]
    ·rw [Ai (by omega),Ai h3,List.getElem?_set_ne (by omega)]
theorem xD (place:Nat->Option (Nat×Nat)) (cells:List Value) (i:Nat) (v:Value) (rest:List (Nat×Value)) (off size:Nat) (us:List Value) (hp:place i=some (off,size)) (hv:v.cells=us.toArray)
  (hl:us.length=size) (hle:off+size<=cells.length):Instr.fill place cells.toArray ((i,v)::rest)=Instr.fill place (Dt cells off us).toArray rest:=by
 simp only [Instr.fill,hp,hv,Gz,hl]
 rw [Ai (by simp;omega)]
 congr 1
 have:=j9 off us 0 cells (by omega)
 simp only [Eo] at this
 rw [<-this]
 simp
theorem Yg (e:Ty) {a:Act} : ∀(parts:List (Nat×Operand)) (i:Nat) (st:St) (π:Pi) (fr tr:Bool) (ys:List e.den) (st':St) (cells:List Value),Bh X π st a w->Mh e i parts st=some (fr,tr,ys,st')->
  (i+parts.length)*e.size<=cells.length->
  ∃π' cl,Bh X π' st' a w/\Flat w (Dc X.w0.heap.size X.Sc π' fr) e cl ys/\ys.length=parts.length/\Ls π π' st.heap st'.heap/\
   Instr.fill (λi=>some (i*e.size,e.size)) cells.toArray (parts.map λp=>(p.1,a.eval p.2))=some (Dt cells (i*e.size) cl).toArray/\
   (tr=true-> ∃Fs,To w e cl ys Fs/\iE X w π' (List.flatten Fs)/\ ∀b∈List.flatten Fs,∃l r,π l=some r/\r.cl b)
 | [],i,st,π,fr,tr,ys,st',cells,h,he,hle=>by
  simp only [Mh,Aa,Af] at he
  obtain ⟨rfl,rfl,rfl,rfl⟩:=he
  exact ⟨π,[],h,Flat.nil,rfl,Ls.refl _ _,by simp [Instr.fill,Dt],λ_=>⟨[],⟨rfl,λi z F hz=>by simp at hz⟩,⟨Ob,by simp⟩,by simp⟩⟩
 |(j,x)::r,i,st,π,fr,tr,ys,st',cells,h,he,hle=>by
  simp only [Mh] at he
  split at he
  ·rename_i kA;subst kA
   split at he
   ·rename_i v' st1 hs
    obtain ⟨cG,h1,h2,h3,h4,h5⟩:=cy h (Ed h.2 x) hs
    split at he
    ·rename_i fr1 y hv
     split at he
     ·rename_i sk tr2 zs st2 hr
      simp only [Aa,Af] at he
      obtain ⟨rfl,rfl,rfl,rfl⟩:=he
      obtain ⟨es,ir,MB⟩:=Ns e v' _ fr1 y h3 h2 hv
      have jg:=Cells.len e es y ir
      have Auq:i*e.size+e.size<=cells.length:=by
       have:(i+1)*e.size<=(i+((i,x)::r).length)*e.size:=Fv _ (by simp)
       rw [Dq,Wk] at this
       omega
      have RY:i*e.size+es.length<=cells.length:=by omega
      obtain ⟨YF,cl,g1,g2,g3,g4,g5,g6⟩:=Yg e r (i+1) st1 cG sk tr2 zs st2 (Dt cells (i*e.size) es) h1 hr (by
       rw [Ju _ _ _ RY]
       rw [show i+1+r.length=i+((i,x)::r).length by simp;omega];exact hle)
      have f1:Flat w (Dc X.w0.heap.size X.Sc YF fr1) e es [y]:=⟨by simp [jg],λq z hz=>by
       rcases q with _|q
       ·simp at hz;subst hz
        exact ⟨es,jg,λj u hu=>by simpa using hu,zm g1 g4 e es y ir⟩
       ·simp at hz⟩
      refine ⟨YF,es++cl,g1,?_,by simp [g3],h4.trans g4,?_,λht=>?_⟩
      ·have:=(f1.cells λes z hc=>hc.and_left (f2:=sk)).append (g2.cells λes z hc=>hc.and_right (f1:=fr1))
       simpa using this
      ·simp only [Bz]
       rw [xD _ cells i (a.eval x) _ (i*e.size) e.size es rfl (by rw [MB];exact Ly e es y ir) jg Auq,g5]
       congr 2
       have Sa:cl.length=r.length*e.size:=by rw [g2.1,g3]
       have Wx:(i+1)*e.size+cl.length<=(Dt cells (i*e.size) es).length:=by
        rw [Ju _ _ _ RY,Sa,<-Dq]
        rw [show i+1+r.length=i+((i,x)::r).length by simp;omega];exact hle
       have Anp:i*e.size+(es++cl).length<=cells.length:=by
        rw [Ju _ _ _ RY] at Wx
        rw [Aw,jg]
        rw [Dq,Wk] at Wx
        omega
       have e1:(i+1)*e.size=i*e.size+es.length:=by rw [Dq,Wk,jg]
       apply List.ext_getElem?
       intro k
       rw [Ja _ _ _ _ Wx,Ja _ _ _ _ Anp,Ja _ _ _ _ RY,e1,Aw]
       by_cases k1:k<i*e.size
       ·rw [Ab (by omega),Ab k1,Ab k1]
       ·rw [Ai k1,Ai k1]
        by_cases k2:k<i*e.size+es.length
        ·rw [Ab k2,Ab k2,Ab (by omega),At (by omega)]
        ·rw [Ai k2,Ai k2]
         by_cases k3:k<i*e.size+es.length+cl.length
         ·rw [Ab k3,Ab (by omega),As (by omega)]
          congr 1;omega
         ·rw [Ai k3,Ai (by omega)]
      ·simp only [Ah] at ht
       obtain ⟨⟨ht1,ht2⟩,ht3⟩:=ht
       obtain ⟨F,us,t1,t2,t3,t7⟩:=h5 ht1 e fr1 y ht2 hv
       obtain ⟨Fs,t4,t5,t6⟩:=g6 ht3
       have hus:us=es:=by
        have c1:=Di.cells (S:= λ_=>False) F e us y t1 (λ_ _ h=>h)
        have a1:=Ly e us y c1
        have a2:=Ly e es y ir
        rw [<-t2,MB,a2] at a1
        simpa using a1.symm
       subst hus
       refine ⟨F::Fs,?_,?_,λb hb=>?_⟩
       ·have k1:To w e us [y] [F]:=⟨rfl,λq z G hz hG=>by
         rcases q with _|q
         ·simp at hz hG;subst hz;subst hG
          exact ⟨us,jg,λj u hu=>by simpa using hu,t1⟩
         ·simp at hz⟩
        exact To.append (by simp [jg]) k1 t4
       ·rw [Mb]
        refine ⟨Ef.2 ⟨t3.1,t5.1,λb hb b' vT e=>?_⟩,λb hb=>?_⟩
        ·subst e
         obtain ⟨l,r,q1,q2⟩:=t6 b vT
         exact (t3.2 b hb).2.2 l r q1 q2
        ·rcases Ba.1 hb with hb|hb
         ·have:=t3.2 b hb
          refine ⟨this.1,this.2.1,λl r q1 q2=>?_⟩
          cases hh:Av st2.heap l with
          |none=>rw [(g1.1.heap l).emp hh] at q1;cases q1
          |some b'=>exact this.2.2 l r ((g4 l b' hh).1▸q1) q2
         ·exact t5.2 b hb
       ·rw [Mb] at hb
        rcases Ba.1 hb with hb|hb
        ·exact t7 b hb
        ·obtain ⟨l,r,q1,q2⟩:=t6 b hb
         cases hh:Av st1.heap l with
         |none=>rw [(h1.1.heap l).emp hh] at q1;cases q1
         |some b'=>exact ⟨l,r,(h4 l b' hh).1▸q1,q2⟩
     ·cases he
    ·cases he
   ·cases he
  ·cases he
theorem j4 (hT:Ep P T) {st:St} {a:Act} (h:Bh X π st a w) (dst:Nat) (t:TypeId) (len:Nat) (parts:Array (Nat×Operand)) (av:AV) (st':St)
  (he:Nj T st dst t len parts=some (av,st')):
  ∃v' w' π',(Instr.buildSlice t len (parts.map λ(i,x)=>(i,a.eval x))).run P w= .ok v' w'/\Bh X π' st' a w'/\Bs X w' π' st'.heap av v':=by
 unfold Nj at he
 split at he
 ·cases he
 ·rename_i te lr
  split at he
  ·cases he
  ·rename_i e Yt
   split at he
   ·rename_i Kt
    obtain ⟨kB,hlen⟩:=Kt
    split at he
    ·rename_i fr tr ys st1 hb
     simp only [Aa,Af] at he
     obtain ⟨rfl,rfl⟩:=he
     obtain ⟨i,hi,Wf,rR,tJ⟩:=(hT.ty te e Yt).info
     have hu:=hT.elem t te lr
     have UL:parts.toList.length=len:=by simpa using kB
     have hz: ∃z:Array Value,(len*e.size=0/\z= #[])\/(¬len*e.size=0/\(zeroValue te).run P w= .ok (Ce e (Bw e)) w/\z=(Ce e (Bw e)).cells):=by
      by_cases h0:len*e.size=0
      ·exact ⟨#[], .inl ⟨h0,rfl⟩⟩
      ·exact ⟨_, .inr ⟨h0,by simp [zeroValue,typeInfo,hi,tJ],rfl⟩⟩
     obtain ⟨z,hz⟩:=hz
     obtain ⟨cG,cl,g1,g2,g3,g4,g5,g6⟩:=Yg e parts.toList 0 st π fr tr ys st1 ((Array.range (len*e.size)).map (z[· %z.size]!)).toList h hb (by simp [UL])
     have Sa:cl.length=len*e.size:=by rw [g2.1,g3,UL]
     have hsp:(Dt ((Array.range (len*e.size)).map (z[· %z.size]!)).toList (0*e.size) cl)=cl:=by
      simp [Dt,Sa]
     rw [hsp] at g5
     have Wg:(Instr.buildSlice t len (parts.map λ(i,x)=>(i,a.eval x))).run P w= .ok (.slice (some ⟨w.heap.size,0,none⟩) len len) (w.alloc (.cells cl.toArray te)):=by
      have h24: ¬(len*e.size>2^24):=by
       have:len*e.size<=64*64:=Uf hlen.1 hlen.2.1
       omega
      simp only [Instr.buildSlice,Sem.run_bind,run_underlying hu,Result.andThen_ok,(hT.ty te e Yt).size,Ai h24]
      have e1:(parts.map λ(i,x)=>(i,a.eval x)).toList=parts.toList.map λp=>(p.1,a.eval p.2):=by simp
      simp only [e1]
      have e2:(((Array.range (len*e.size)).map (z[· %z.size]!)).toList.toArray)=(Array.range (len*e.size)).map (z[· %z.size]!):=Array.toArray_toList
      rw [e2] at g5
      rcases hz with ⟨h0,rfl⟩|⟨h0,hz,rfl⟩
      ·rw [Ab h0]
       simp only [Sem.run_bind,Sem.run_pure,Result.andThen_ok,g5,newRow]
       simp
      ·rw [Ai h0]
       simp only [Sem.run_bind,Sem.run_pure,Result.andThen_ok,hz,g5,newRow]
       simp
     have hN: ∃N:List Nat,(∀b∈N,(X.w0.heap.size<=b\/X.gv b)/\b<w.heap.size/\ ∀m r0,m≠dst->cG m=some r0-> ¬r0.cl b)/\(tr=true->N.Nodup/\ ∃Fs,List.flatten Fs=N/\To w e cl ys Fs):=by
      cases tr with
      |false=>exact ⟨[],by simp,λh=>by cases h⟩
      |true=>
       obtain ⟨Fs,t1,t2,_⟩:=g6 rfl
       exact ⟨_,λb hb=>⟨(t2.2 b hb).1,(t2.2 b hb).2.1,λm r0 _=>(t2.2 b hb).2.2 m r0⟩,λ_=>⟨t2.1,Fs,rfl,t1⟩⟩
     obtain ⟨N,q1,q2⟩:=hN
     have:=fP (w1:=w.alloc (.cells cl.toArray te)) g1 dst hlen.2.2 ((T.tq||e.flat)&&fr) (T.CY&&tr) e te ys cl cl.toArray len N (.inr rfl) (by simpa using Sa) (by simp only [maxLen];omega) (by omega) (λk u hu=>by simpa using hu) (g2.cells λes z hc=>hc.and_right) q1 (λht=>q2 (by simp only [Ah] at ht;exact ht.2))
     exact ⟨_,_,_,Wg,this.1,this.2 _ (by omega)⟩
    ·cases he
   ·cases he
theorem mh {t te:TypeId} {e:Ty} (h:eu T t=some (te,e)):T.elem t=some te/\T.ty te=some (.slice e):=by
 unfold eu at h
 cases he:T.elem t with
 |none=>rw [he] at h;cases h
 |some Se=>
  rw [he] at h
  simp only [Gm] at h
  cases hg:T.RQ Se with
  |none=>rw [hg] at h;cases h
  |some e'=>
   rw [hg] at h
   simp only [An,Aa,Af] at h
   obtain ⟨rfl,rfl⟩:=h
   refine ⟨rfl,?_⟩
   unfold Tab.RQ at hg
   split at hg
   ·split at hg
    ·rename_i Yt;simp only [Aa] at hg;subst hg;exact Yt
    ·cases hg
   ·cases hg
theorem nu (w:World) (o:Obj):Jz w.heap.size (λ_=>False) w (w.alloc o):=⟨rfl,rfl,rfl,by simp,λk hk _=>Below.heap_alloc w _ k hk⟩
theorem qC (w:World) (o:Obj):Jz w.heap.size (λ_=>False) w (w.drew.alloc o):=⟨rfl,rfl,rfl,by simp,λk hk _=>Below.heap_alloc w.drew _ k hk⟩
theorem rP (hT:Ep P T) {st:St} {a:Act} (h:Bh X π st a w) (dst:Nat) (t:TypeId) (l c:AV) (vl vc:Value) (hl:Bs X w π st.heap l vl) (hc:Bs X w π st.heap c vc) (av:AV) (st':St)
  (he:Yn T st dst t l c=some (av,st')): ∃v' w' π',(Instr.makeSlice t vl vc).run P w= .ok v' w'/\Bh X π' st' a w'/\Bs X w' π' st'.heap av v':=by
 unfold Yn at he
 split at he
 ·exact tf hT h dst t l c vl vc hl hc av st' he
 ·rename_i te e hg
  obtain ⟨lr,Yt⟩:=mh hg
  split at he
  ·rename_i fr1 k1 n sk k2 m
   have:=Qq hl;subst this
   have:=Qq hc;subst this
   split at he
   ·rename_i Kt
    obtain ⟨h0,hnm,hdp⟩:=Kt
    obtain ⟨h1,h2⟩:=Ut.1 h0
    subst hnm
    simp only [Aa,Af] at he
    obtain ⟨rfl,rfl⟩:=he
    obtain ⟨i,hi,Wf,rR,tJ⟩:=(hT.ty te _ Yt).info
    have hu:=hT.elem t te lr
    have hn:n.toNat<=4294967296:=by unfold Ea at h2;omega
    have hr:=run_make (P:=P) (w:=w) t te i _ hu hi tJ k1 k2 n n h1 (Kl _) (by
     have:(i.bytes:Int)*n<=256*4294967296:=by
      obtain ⟨nn,rfl⟩:=Ci h1
      have h7:i.bytes*nn<=256*4294967296:=Uf rR (by simpa using hn)
      have h8:((i.bytes*nn:Nat):Int)<=256*4294967296:=by omega
      rwa [Int.natCast_mul] at h8
     omega) (by unfold Ea at h2;omega)
    have hzc:(Ce (Ty.slice e) (Bw (Ty.slice e))).cells= #[.slice none 0 0]:=by simp [Ce,Ty.Ar,Bw,Value.cells]
    have ca:(Ty.slice e).size=1:=rfl
    rw [hzc,Wf,ca] at hr
    have cell: ∀j,j<n.toNat->(madeCells #[Value.slice none 0 0] (n.toNat*1))[0+j]?=some (.slice none 0 0):=by
     intro j hj
     have:=SQ (z:= #[Value.slice none 0 0]) (s:=1) (m:=n.toNat) (j:=j) (q:=0) rfl hj (by omega)
     simp only [Fw,Eo] at this
     simp only [Fw,Bt]
     rw [this];rfl
    obtain ⟨π',g1,g2⟩:=a6 (w1:=w.alloc (.cells (madeCells #[Value.slice none 0 0] (n.toNat*1)) te)) (gv:= λ_=>False) h hdp hdp te (e:=e) (rows:=List.replicate n.toNat []) (us:=List.replicate n.toNat (.slice none 0 0)) (Rs:=List.replicate n.toNat none) (g:=w.heap.size) (o:=0) (cap:=n.toNat)
     (λ_ hf=>hf.elim) (nu w _) ⟨.inl (Aq _),by simp⟩ (heap_alloc_new w _) (by rw [size_madeCells];omega) (by unfold maxLen;omega) (by simp) (λj u hu=>by
      have hj:=(Ao.1 hu).1
      simp only [Ej] at hj
      rw [cell j hj,Gr (Cn hu)])
     ⟨by simp,by simp,λi j q q' h1=>(by have:=Gr (Cn h1);cases this),λi x hx=>by
      have hj:=(Ao.1 hx).1
      simp only [Ej] at hj
      rw [Gr (Cn hx)]
      exact ⟨.slice none 0 0,none,by rw [Zk,Ab hj],by rw [Zk,Ab hj],⟨rfl,rfl,rfl⟩,rfl⟩⟩
     (λi q h1=>by have:=Gr (Cn h1);cases this)
    exact ⟨_,_,π',hr,g1,g2 _ (by simp)⟩
   ·cases he
  ·cases he
theorem im (hT:Ep P T) {st:St} {a:Act} (h:Bh X π st a w) (dst:Nat) (t:TypeId) (len:Nat) (parts:Array (Nat×Operand)) (av:AV) (st':St)
  (he:Jx T st dst t len parts=some (av,st')):
  ∃v' w' π',(Instr.buildSlice t len (parts.map λ(i,x)=>(i,a.eval x))).run P w= .ok v' w'/\Bh X π' st' a w'/\Bs X w' π' st'.heap av v':=by
 unfold Jx at he
 split at he
 ·exact j4 hT h dst t len parts av st' he
 ·rename_i te e hg
  obtain ⟨lr,Yt⟩:=mh hg
  split at he
  rotate_left
  ·cases he
  rename_i x Ak4
  split at he
  rotate_left
  ·cases he
  rename_i m off ln hx
  split at he
  rotate_left
  ·cases he
  rename_i fr tr e' tid xs hm
  split at he
  rotate_left
  ·cases he
  rename_i hc
  obtain ⟨rfl,hc,rfl,rfl⟩:=hc
  simp only [Ah,Oc] at hc
  obtain ⟨hlen,hdp,hmp⟩:=hc
  have hlen:len=1:=Kp hlen
  subst hlen
  simp only [Aa,Af] at he
  obtain ⟨rfl,rfl⟩:=he
  have hu:=hT.elem t te lr
  unfold St.at at hm
  have hrx:=Ed h.2 x
  rw [hx] at hrx
  obtain ⟨_,ss⟩:=Po (X:=X) (w:=w) hrx hm
  obtain ⟨ax,nx,cx,hvx⟩:=bj ss
  have hp:parts= #[(0,x)]:=by apply Qa;simpa using Ak4
  subst hp
  obtain ⟨i,hi,Wf,rR,tJ⟩:=(hT.ty te _ Yt).info
  have Wg:(Instr.buildSlice t 1 (#[(0,x)].map λ(i,x)=>(i,a.eval x))).run P w= .ok (.slice (some ⟨w.heap.size,0,none⟩) 1 1) (w.alloc (.cells #[a.eval x] te)):=by
   have ca:(Ty.slice e').size=1:=rfl
   have hz:(zeroValue te).run P w= .ok (.slice none 0 0) w:=by simp [zeroValue,typeInfo,hi,tJ,Ce,Ty.Ar,Bw]
   have hmp:(#[(0,x)].map λ(i,x)=>(i,a.eval x))= #[(0, .slice ax nx cx)]:=by simp [hvx]
   rw [hmp,hvx]
   simp only [Instr.buildSlice,Sem.run_bind,run_underlying hu,Result.andThen_ok,(hT.ty te _ Yt).size,ca]
   simp [Value.cells,Instr.fill,newRow,hz]
   congr 2
   apply Array.ext
   ·simp
   ·intro i h1 h2
    have h0:i=0:=by simpa using h2
    subst h0
    simp
  have KJ:=(h.1.heap m).Sl hm
  simp only [Cl,Kz] at KJ
  have hfa:Sk w (Dc X.w0.heap.size X.Sc π false) (π m) e' xs:=by
   cases hR:π m with
   |none=>rw [hR] at KJ;exact KJ
   |some q=>
    rw [hR] at KJ
    obtain ⟨⟨f0,f0',_⟩,cu,ti',f2,f3,f4,f5,f6,_⟩:=KJ
    exact ⟨⟨f0,f0'⟩,cu,ti',f2,f3,f4,f5,λp y hy=>by
     obtain ⟨es,g1,g2,g3⟩:=f6 p y hy
     exact ⟨es,g1,g2,Cells.Gj (Aq _) (λ_ _ _=>rfl) (λb _ hA=>hA.imp id (Or.imp id λ⟨h1,_⟩=>by cases h1)) e' es y g3⟩⟩
  obtain ⟨π',g1,g2⟩:=a6 (w1:=w.alloc (.cells #[a.eval x] te)) (gv:= λ_=>False) h hdp hmp te (e:=e') (rows:= [xs]) (us:= [a.eval x]) (Rs:= [π m]) (g:=w.heap.size) (o:=0) (cap:=1)
   (λ_ hf=>hf.elim) (nu w _) ⟨.inl (Aq _),by simp⟩ (heap_alloc_new w _) rfl (by unfold maxLen;omega) (by simp) (λj u hu=>by
    rcases j with _|j
    ·simpa using hu
    ·simp at hu)
   ⟨rfl,rfl,λi j q q' h1 h2 _=>by
    rcases i with _|i
    ·rcases j with _|j
     ·rfl
     ·simp at h2
    ·simp at h1,λi y hy=>by
    rcases i with _|i
    ·simp only [Bx,Aa] at hy
     subst hy
     exact ⟨_,_,rfl,rfl,ss,hfa⟩
    ·simp at hy⟩
   (λi q h1=>by
    rcases i with _|i
    ·simp only [Bx,Aa] at h1
     have hf:=h.1.Cw h1
     have:=(h.1.place m q _ h1 (h.1.sub m q _ h1 hf)).2
     exact ⟨by omega,λh=>h,m,q, .inr rfl,h1,hf⟩
    ·simp at h1)
  exact ⟨_,_,π',Wg,g1,g2 1 rfl⟩
theorem nG (hT:Ep P T) {st:St} {a:Act} (h:Bh X π st a w) (dst:Nat) (t ty:TypeId) (x y:Operand) (av:AV) (st':St) (he:Sp T st dst t x y=some (av,st')):
  ∃v' w' π',(Builtin.append_ #[t,t] ty #[a.eval x,a.eval y]).run P w= .ok v' w'/\Bh X π' st' a w'/\Bs X w' π' st'.heap av v':=by
 unfold Sp at he
 split at he
 ·exact nF hT h dst t ty x y av st' he
 ·rename_i te e hg
  obtain ⟨lr,Yt⟩:=mh hg
  split at he
  rotate_left
  ·cases he
  rename_i l off len m Abg u9 hx hy
  split at he
  rotate_left
  ·cases he
  rename_i e1 te1 A kp1 e2 x5 B kp2 hl hm
  split at he
  rotate_left
  ·cases he
  rename_i hc
  obtain ⟨⟨rfl,rfl⟩,hc,⟨rfl,rfl⟩,⟨rfl,rfl⟩,hB,pF⟩:=hc
  simp only [Ah,Oc,Ru,Fm] at hc
  obtain ⟨⟨rfl,rfl⟩,pH,hmp,jh⟩:=hc
  have jh:m≠l:= λe=>by rw [e,Nat.beq_refl] at jh;cases jh
  simp only [Aa,Af] at he
  obtain ⟨rfl,rfl⟩:=he
  have hu:=hT.elem t x5 lr
  obtain ⟨i,hi,Wf,rR,tJ⟩:=(hT.ty x5 _ Yt).info
  have Wf:i.size=1:=Wf
  unfold St.at at hl hm
  have hrx:=Ed h.2 x
  have hry:=Ed h.2 y
  rw [hx] at hrx;rw [hy] at hry
  obtain ⟨b1,s1,n1,q1,q2,_,hox⟩:=hrx
  rw [hl] at q1;cases q1
  simp only [OB.row,Aa,Af] at q2
  obtain ⟨rfl,rfl⟩:=q2
  obtain ⟨b2,s2,n2,q1,q2,_,hoy⟩:=hry
  rw [hm] at q1;cases q1
  simp only [OB.row,Aa,Af] at q2
  obtain ⟨rfl,rfl⟩:=q2
  have hA:=((h.1.heap l).Sl hl).1
  have hBb:=((h.1.heap m).Sl hm).1
  cases MH:π m with
  |none=>
   rw [MH] at hBb
   have hBb:B= []:=hBb
   subst hBb;simp at hB
  |some rB=>
  rw [MH] at hBb hoy
  obtain ⟨fB,Ayn,tiB,uB,RB,w1B,w2B,w3B,w4B,w5B,w6B,w7B,LB⟩:=xF hBb
  obtain ⟨adB,hvy,hcB,haB⟩:=hoy
  have haB:=haB (by omega)
  subst haB
  have hlB:=LB.1
  have n1':uB.length=B.length*i.size:=by rw [Wf,Fw];exact hlB
  have n2': ∀j u,uB[j]?=some u->w.cell? ((⟨rB.g,(rB.o+0)*1,none⟩:Addr).add j)=some u:= λj u hu=>by
   rw [Addr.add_lit,cellOf w1B,Fw,Eo];exact w5B j u hu
  have tD:(A.length+B.length)*i.bytes<=140737488355328:=by
   have:(A.length+B.length)*i.bytes<=4294967296*256:=Uf pF rR
   omega
  have ji:A.length+B.length<=maxLen:=by unfold Ea at pF;simp only [maxLen];omega
  have hzs:(Ce (Ty.slice e2) (Bw (Ty.slice e2))).cells.size=1:=by simp [Ce,Ty.Ar,Bw,Value.cells]
  have Wy: ∀(k:Nat) (q:Real) (Rs:List (Option Real)),π k=some q->(∀(i:Nat) (p:Real),Rs[i]?=some (some p)->q.Cw p.g/\p.g≠q.g)-> ∀(i:Nat) (p:Real),Rs[i]?=some (some p)->p.g<w.heap.size:= λk q Rs h1 h2 i p h3=>
   (h.1.place k q _ h1 (h.1.sub k q _ h1 (h2 i p h3).1)).2
  cases kB:π l with
  |none=>
   rw [kB] at hA hox
   have hA:A= []:=hA
   subst hA
   obtain ⟨hvx,_,_⟩:=hox
   rw [hvx,hvy]
   simp only [Gp,Bt,iJ] at pF tD ji⊢
   have hr:=run_append_nil (P:=P) w t ty x5 i _ hu hi tJ ⟨rB.g,(rB.o+0)*1,none⟩ B.length (rB.cap-0) uB n1' n2' hB (by simp only [maxLen] at ji;omega) (by omega)
   have wc:=grownCap_ge w B.length 0 x5
   have hcm:=grownCap_le_maxLen w B.length 0 x5 (by omega)
   obtain ⟨π',g1,g2⟩:=a6 (w1:=w.drew.alloc (.cells (uB.toArray++Builtin.zeroCells (Ce (Ty.slice e2) (Bw (Ty.slice e2))).cells (grownCap w B.length 0 x5-B.length)) x5)) (gv:= λ_=>False) h pH hmp x5 (e:=e2) (rows:=B) (us:=uB) (Rs:=RB) (g:=w.heap.size) (o:=0) (cap:=grownCap w B.length 0 x5)
    (λ_ hf=>hf.elim) (qC w _) ⟨.inl (Aq _),by simp⟩ (heap_alloc_new w.drew _) (by rw [Rt,Gz,Uz,hzs];omega) hcm wc (λj u hu=>by
     have hj:=(Ao.1 hu).1
     rw [Bt,Uc (by simpa using hj)];simpa using hu)
    LB (λi q h1=>⟨by have:=Wy m rB RB MH w7B i q h1;omega,λh=>h,m,rB, .inr rfl,MH,(w7B i q h1).1⟩)
   exact ⟨_,_,π',hr,g1,g2 _ rfl⟩
  |some rA=>
   rw [kB] at hA hox
   obtain ⟨fA,TW,tiA,uA,RA,w1A,w2A,w3A,w4A,w5A,w6A,w7A,LA⟩:=xF hA
   obtain ⟨adA,hvx,hcA,haA⟩:=hox
   have hlA:=LA.1
   rw [hvx,hvy]
   have apart: ∀(i j:Nat) (q q':Real),RA[i]?=some (some q)->RB[j]?=some (some q')->q.g≠q'.g:= λi j q q' h1 h2 e=>by
    have:=h.1.apart kB MH (w7A i q h1).1 (e▸(w7B j q' h2).1)
    exact jh this.symm
   have LAB:=sD.append LA LB apart
   have Jd: ∀(i:Nat) (q:Real),RB[i]?=some (some q)->q.g≠rA.g:= λi q h1 e=>jh (h.1.apart MH kB (w7B i q h1).1 (e▸fA))
   have hRs: ∀(i:Nat) (q:Real),(RA++RB)[i]?=some (some q)->q.g≠rA.g/\q.g<w.heap.size/\ ∃k p,(k=l\/k=m)/\π k=some p/\p.Cw q.g:= λi q h1=>by
    by_cases hi:i<RA.length
    ·rw [At hi] at h1
     exact ⟨(w7A i q h1).2,Wy l rA RA kB w7A i q h1,l,rA, .inl rfl,kB,(w7A i q h1).1⟩
    ·rw [As (by omega)] at h1
     exact ⟨Jd _ q h1,Wy m rB RB MH w7B _ q h1,m,rB, .inr rfl,MH,(w7B _ q h1).1⟩
   by_cases xO:A.length+B.length<=rA.cap-0
   ·have haA:=haA (by omega)
    subst haA
    have Wx:(rA.o+0)*1+A.length*i.size+uB.length<=TW.size:=by rw [Wf];omega
    have a7:(rA.o+0)*1+A.length*i.size+uB.length<=TW.toList.length:=by simpa using Wx
    have hr:=aR (P:=P) (w:=w) (ty:=ty) hu hi rA.g ((rA.o+0)*1) A.length (rA.cap-0) TW tiA w1A ⟨rB.g,(rB.o+0)*1,none⟩ B.length (rB.cap-0) uB n1' n2' w6B xO Wx
    have tH:=Om w rA.g (Dt TW.toList ((rA.o+0)*1+A.length*i.size) uB).toArray
    obtain ⟨π',g1,g2⟩:=a6 (w1:=w.setRow rA.g (Dt TW.toList ((rA.o+0)*1+A.length*i.size) uB).toArray) (gv:= λb=>b=rA.g) h pH hmp x5 (e:=e2) (rows:=A++B) (us:=uA++uB) (Rs:=RA++RB) (g:=rA.g) (o:=rA.o) (cap:=rA.cap)
     (λb hb=>⟨l,rA, .inl rfl,kB,hb▸fA⟩) ⟨tH.os,tH.tape,tH.output,tH.size,λc _ hc=>setRow_other w rA.g c _ hc⟩ ⟨.inr ⟨l,rA, .inl rfl,kB,fA⟩,Ew (He w1A) tH.size⟩
     (setRow_heap w rA.g TW _ tiA _ w1A) (by rw [Gz,Ju _ _ _ a7,Ma];exact w2A) w3A (by simp;omega) (λj u hu=>by
      rw [Jb,Ja _ _ _ _ a7,Wf]
      by_cases hj:j<uA.length
      ·rw [At hj] at hu
       rw [Ab (by omega),cH]
       exact w5A j u hu
      ·rw [As (by omega)] at hu
       have:=(Ao.1 hu).1
       rw [Ai (by omega),Ab (by omega)]
       rw [show rA.o+j-((rA.o+0)*1+A.length*1)=j-uA.length by omega]
       exact hu)
     LAB (λi q h1=>⟨(hRs i q h1).1,(hRs i q h1).1,(hRs i q h1).2.2⟩)
    have:=g2 (A.length+B.length) (by simp)
    have e0:(rA.o+0)*1=rA.o:=by omega
    simp only [e0,Nat.sub_zero] at hr g1 this⊢
    exact ⟨_,_,π',hr,g1,this⟩
   ·have hold: ∀j u,uA[j]?=some u->w.cell? (adA.add j)=some u:=by
     intro j u hu
     have hj:=(Ao.1 hu).1
     rw [haA (by omega),Addr.add_lit,cellOf w1A,Fw,Eo];exact w5A j u hu
    have hr:=run_append_grow (P:=P) w t ty x5 i _ hu hi tJ adA A.length (rA.cap-0) uA (by rw [Wf,Fw];exact hlA) hold ⟨rB.g,(rB.o+0)*1,none⟩ B.length (rB.cap-0) uB n1' n2' (by omega) (by simp only [maxLen] at ji;omega) (growslice_fits (by omega) tD)
    have wc:=grownCap_ge w (A.length+B.length) (rA.cap-0) x5
    have hcm:=grownCap_le_maxLen w (A.length+B.length) (rA.cap-0) x5 ji
    obtain ⟨π',g1,g2⟩:=a6 (w1:=w.drew.alloc (.cells (uA.toArray++uB.toArray++Builtin.zeroCells (Ce (Ty.slice e2) (Bw (Ty.slice e2))).cells (grownCap w (A.length+B.length) (rA.cap-0) x5-(A.length+B.length))) x5)) (gv:= λ_=>False) h pH hmp x5 (e:=e2) (rows:=A++B) (us:=uA++uB) (Rs:=RA++RB) (g:=w.heap.size) (o:=0) (cap:=grownCap w (A.length+B.length) (rA.cap-0) x5)
     (λ_ hf=>hf.elim) (qC w _) ⟨.inl (Aq _),by simp⟩ (heap_alloc_new w.drew _) (by rw [Rt,Rt,Gz,Gz,Uz,hzs];omega) hcm (by simpa using wc) (λj u hu=>by
      have hj:=(Ao.1 hu).1
      rw [Bt,Uc (by simpa using hj)];simpa using hu)
     LAB (λi q h1=>⟨by have:=(hRs i q h1).2.1;omega,λh=>h,(hRs i q h1).2.2⟩)
    exact ⟨_,_,π',hr,g1,g2 _ (by simp)⟩
theorem lT: ∀τ:Ty,Gv X w π H (zeroCells τ) (Bw τ):=by
 have one: ∀(c:AC) (v:Value),v.oneCell'=true->Iq X w π H c v->Gv X w π H [c] [v]:= λc v h1 h2=>⟨rfl,λi c' hc=>by
  rcases i with _|i
  ·simp at hc;subst hc;exact ⟨v,rfl,h1,h2⟩
  ·simp at hc⟩
 intro τ
 induction τ with
 |unit=>exact ⟨rfl,λi c hc=>by simp [zeroCells] at hc⟩
 |pair a r iC iw=>
  refine ⟨by simp [zeroCells,Bw,iC.1,iw.1],λi c hc=>?_⟩
  simp only [zeroCells] at hc
  simp only [Bw]
  by_cases hi:i<(zeroCells a).length
  ·rw [At hi] at hc
   obtain ⟨u,hu,h⟩:=iC.2 i c hc
   exact ⟨u,by rw [At (by rw [iC.1];exact hi)];exact hu,h⟩
  ·rw [As (by omega)] at hc
   obtain ⟨u,hu,h⟩:=iw.2 _ c hc
   exact ⟨u,by rw [As (by rw [iC.1];omega),iC.1];exact hu,h⟩
 |int k=>exact one (.data true _ _) _ rfl (Nz (H:=H) k 0 true)
 |bool=>exact one (.data true _ _) _ rfl (Mw (H:=H) false true)
 |str=>exact one (.data true _ _) _ rfl (mB (H:=H) ByteArray.empty true)
 |slice e=>exact one _ _ rfl rfl
 |oslice e=>exact one _ _ rfl rfl
 |ptr e=>exact one _ _ rfl rfl
 |optr e=>exact one _ _ rfl rfl
 |smap v=>exact one (.data true _ _) _ rfl ⟨[.map none], .inl ⟨rfl,rfl⟩,by simp [Ce,Ty.Ar]⟩
 |clo f c=>exact one .undef .nilFunc rfl trivial
theorem vR: ∀τ:Ty,Gv X w π H (Qv τ) (Bw τ):=by
 have one: ∀(c:AC) (v:Value),v.oneCell'=true->Iq X w π H c v->Gv X w π H [c] [v]:= λc v h1 h2=>⟨rfl,λi c' hc=>by
  rcases i with _|i
  ·simp at hc;subst hc;exact ⟨v,rfl,h1,h2⟩
  ·simp at hc⟩
 intro τ
 induction τ with
 |unit=>exact ⟨rfl,λi c hc=>by simp [Qv] at hc⟩
 |pair a r iC iw=>
  refine ⟨by simp [Qv,Bw,iC.1,iw.1],λi c hc=>?_⟩
  simp only [Qv] at hc
  simp only [Bw]
  by_cases hi:i<(Qv a).length
  ·rw [At hi] at hc
   obtain ⟨u,hu,h⟩:=iC.2 i c hc
   exact ⟨u,by rw [At (by rw [iC.1];exact hi)];exact hu,h⟩
  ·rw [As (by omega)] at hc
   obtain ⟨u,hu,h⟩:=iw.2 _ c hc
   exact ⟨u,by rw [As (by rw [iC.1];omega),iC.1];exact hu,h⟩
 |int k=>exact one (.data false _ _) _ rfl (Nz (H:=H) k 0 false)
 |bool=>exact one (.data false _ _) _ rfl (Mw (H:=H) false false)
 |str=>exact one (.data false _ _) _ rfl (mB (H:=H) ByteArray.empty false)
 |slice e=>exact one (.data false _ _) _ rfl ⟨[.slice none 0 0],⟨none,0,0,rfl,rfl,Aq _, .inl rfl⟩,by simp [Ce,Ty.Ar]⟩
 |oslice e=>exact one _ _ rfl rfl
 |ptr e=>exact one _ _ rfl rfl
 |optr e=>exact one _ _ rfl rfl
 |smap v=>exact one (.data false _ _) _ rfl ⟨[.map none], .inl ⟨rfl,rfl⟩,by simp [Ce,Ty.Ar]⟩
 |clo f c=>exact one .undef .nilFunc rfl trivial
theorem dY (hT:Ep P T) {st:St} {a:Act} (h:Bh X π st a w) (t:TypeId) (My:Array (Nat×Nat))
  (kB: ∀f o u ρ,T.off t f=some (o,u)->T.ty u=some ρ->My[f]?=some (o,ρ.size)): ∀(parts:List (Nat×Operand)) (cs iX:List AC) (us:List Value),Gv X w π st.heap cs us->
  Ni T st t parts cs=some iX-> ∃Ug:List Value,Instr.fill (λi=>My[i]?) us.toArray (parts.map λp=>(p.1,a.eval p.2))=some Ug.toArray/\Gv X w π st.heap iX Ug
 | [],cs,iX,us,hr,he=>by
  simp only [Ni,Aa] at he;subst he
  exact ⟨us,rfl,hr⟩
 |(f,x)::r,cs,iX,us,hr,he=>by
  simp only [Ni] at he
  split at he
  ·rename_i o u ho
   split at he
   ·rename_i ρ hρ
    split at he
    ·rename_i c hc
     split at he
     ·rename_i hle
      obtain ⟨vs,hv,hl,hr2⟩:=iQ (Ed h.2 x) hc
      have e1:=hr.1
      have e2:=hr2.1
      obtain ⟨Ug,g1,g2⟩:=dY hT h t My kB r _ iX _ (vB hr hr2 o hle) he
      refine ⟨Ug,?_,g2⟩
      simp only [Bz]
      rw [xD _ us f (a.eval x) _ o ρ.size vs (kB f o u ρ ho hρ) hv hl (by omega)]
      exact g1
     ·cases he
    ·cases he
   ·cases he
  ·cases he
theorem gI (hT:Ep P T) {st:St} {a:Act} (h:Bh X π st a w) (t:TypeId) (parts:Array (Nat×Operand)) (av:AV) (he:Yk T st t parts=some av):
  ∃v',(Instr.build t (parts.map λ(i,x)=>(i,a.eval x))).run P w= .ok v' w/\Bs X w π st.heap av v':=by
 unfold Yk at he
 split at he
 ·cases he
 ·rename_i τ Yt
  split at he
  ·rename_i hs
   cases hb:Ni T st t parts.toList (zeroCells τ) with
   |none=>rw [hb] at he;cases he
   |some iX=>
    rw [hb] at he
    simp only [An,Aa] at he;subst he
    obtain ⟨fs,My,h1,h2,h3⟩:=hT.fill t τ Yt hs
    obtain ⟨i,hi,Wf,rR,tJ⟩:=(hT.ty t τ Yt).info
    obtain ⟨Ug,g1,g2⟩:=dY hT h t My h3 parts.toList (zeroCells τ) iX (Bw τ) (lT τ) hb
    refine ⟨.agg Ug.toArray,?_,Ug,rfl,g2⟩
    have hz:(zeroValue t).run P w= .ok (Ce τ (Bw τ)) w:=by simp [zeroValue,typeInfo,hi,tJ]
    have hzc:(Ce τ (Bw τ)).cells=(Bw τ).toArray:=by simp [Ce,hs,Value.cells]
    have h2':=h2 w
    unfold placesOf at h2'
    have e1:(parts.map λ(i,x)=>(i,a.eval x)).toList=parts.toList.map λp=>(p.1,a.eval p.2):=by simp
    simp only [Instr.build,Sem.run_bind,hz,Result.andThen_ok,run_underlying h1,h2',hzc,e1,g1,Sem.run_pure]
  ·cases he
theorem uX {st:St} {v:AV} (h:v.settled=true):settle st v=some (v,st):=by
 cases v with
 | «at»a=>cases a<;>simp [AV.settled,AC.settled] at h<;>simp [settle,AC.settled]
 |agg cs=>
  have hs:cs.all (·.settled)=true:=h
  have:Ir cs.length st cs=some (cs,st):=by
   cases hn:cs.length with
   |zero=>simp [Ir,hs]
   |succ n=>
    have hf:cs.find? (λc=>!c.settled)=none:=List.find?_eq_none.2 λc hc=>by simpa using Bc.1 hs c hc
    simp [Ir,hf]
  simp [settle,this]
 |bH fr τ x=>rfl
 |Nr l=>simp [AV.settled] at h
theorem ou {e:Ty} {st:St} : ∀(parts:List (Nat×Operand)) (i:Nat) (fr:Bool) (ys:List e.den),fR e i parts st=some (fr,ys)-> ∃tr,Mh e i parts st=some (fr,tr,ys,st)
 | [],i,fr,ys,h=>by
  simp only [fR,Aa,Af] at h
  obtain ⟨rfl,rfl⟩:=h
  exact ⟨true,rfl⟩
 |(j,x)::r,i,fr,ys,h=>by
  simp only [fR] at h
  split at h
  ·rename_i hc
   split at h
   ·rename_i f1 y f2 zs h1 h2
    simp only [Aa,Af] at h
    obtain ⟨rfl,rfl⟩:=h
    obtain ⟨tr,h3⟩:=ou r (i+1) f2 zs h2
    refine ⟨Ua st (st.ev x)&&e.tree&&tr,?_⟩
    simp only [Mh]
    rw [Ab hc.1,uX hc.2]
    simp only [h1,h3]
   ·cases h
  ·cases h
theorem pv (hT:Ep P T) {st:St} {a:Act} (h:Bh X π st a w) (t:TypeId) (len:Nat) (parts:Array (Nat×Operand)) (av:AV) (he:bX T st t len parts=some av):
  ∃v' w' π',(Instr.buildSlice t len (parts.map λ(i,x)=>(i,a.eval x))).run P w= .ok v' w'/\Bh X π' st a w'/\Bs X w' π' st.heap av v':=by
 unfold bX at he
 split at he
 ·cases he
 ·rename_i te lr
  split at he
  ·cases he
  ·rename_i e Yt
   split at he
   ·rename_i Kt
    obtain ⟨kB,hlen⟩:=Kt
    cases hp:fR e 0 parts.toList st with
    |none=>rw [hp] at he;cases he
    |some p=>
     obtain ⟨fr,ys⟩:=p
     rw [hp] at he
     simp only [An,Aa] at he
     subst he
     obtain ⟨tr,hb⟩:=ou _ _ _ _ hp
     obtain ⟨i,hi,Wf,rR,tJ⟩:=(hT.ty te e Yt).info
     have hu:=hT.elem t te lr
     have UL:parts.toList.length=len:=by simpa using kB
     have hz: ∃z:Array Value,(len*e.size=0/\z= #[])\/(¬len*e.size=0/\(zeroValue te).run P w= .ok (Ce e (Bw e)) w/\z=(Ce e (Bw e)).cells):=by
      by_cases h0:len*e.size=0
      ·exact ⟨#[], .inl ⟨h0,rfl⟩⟩
      ·exact ⟨_, .inr ⟨h0,by simp [zeroValue,typeInfo,hi,tJ],rfl⟩⟩
     obtain ⟨z,hz⟩:=hz
     obtain ⟨cG,cl,g1,g2,g3,g4,g5,g6⟩:=Yg e parts.toList 0 st π fr tr ys st ((Array.range (len*e.size)).map (z[· %z.size]!)).toList h hb (by simp [UL])
     have Sa:cl.length=len*e.size:=by rw [g2.1,g3,UL]
     have hsp:(Dt ((Array.range (len*e.size)).map (z[· %z.size]!)).toList (0*e.size) cl)=cl:=by
      simp [Dt,Sa]
     rw [hsp] at g5
     have Wg:(Instr.buildSlice t len (parts.map λ(i,x)=>(i,a.eval x))).run P w= .ok (.slice (some ⟨w.heap.size,0,none⟩) len len) (w.alloc (.cells cl.toArray te)):=by
      have h24: ¬(len*e.size>2^24):=by
       have:len*e.size<=64*64:=Uf hlen.1 hlen.2
       omega
      simp only [Instr.buildSlice,Sem.run_bind,run_underlying hu,Result.andThen_ok,(hT.ty te e Yt).size,Ai h24]
      have e1:(parts.map λ(i,x)=>(i,a.eval x)).toList=parts.toList.map λp=>(p.1,a.eval p.2):=by simp
      simp only [e1]
      have e2:(((Array.range (len*e.size)).map (z[· %z.size]!)).toList.toArray)=(Array.range (len*e.size)).map (z[· %z.size]!):=Array.toArray_toList
      rw [e2] at g5
      rcases hz with ⟨h0,rfl⟩|⟨h0,hz,rfl⟩
      ·rw [Ab h0]
       simp only [Sem.run_bind,Sem.run_pure,Result.andThen_ok,g5,newRow]
       simp
      ·rw [Ai h0]
       simp only [Sem.run_bind,Sem.run_pure,Result.andThen_ok,hz,g5,newRow]
       simp
     have LY:(w.alloc (.cells cl.toArray te)).heap[w.heap.size]?=some (.cells cl.toArray te (0,0)):=heap_alloc_new w _
     have hB:Below w.heap.size w (w.alloc (.cells cl.toArray te)):=(Below.refl _ _).alloc (Aq _) _
     have Me:=He LY
     refine ⟨_,_,cG,Wg,g1.quiet hB,⟨[_],?_,rfl⟩⟩
     refine ⟨some ⟨w.heap.size,0,none⟩,len,len,rfl,by rw [g3,UL],Aq _, .inr ⟨w.heap.size,0,rfl,Me,λhA=>?_,λk x hx=>?_⟩⟩
     ·rcases hA with hA|hA|⟨_,hA⟩
      ·exact absurd (g1.1.own hA).1 (Nat.lt_irrefl _)
      ·exact absurd (Ew (g1.1.sc _ hA).1 g1.1.below.size) (Nat.lt_irrefl _)
      ·exact absurd (Ew hA g1.1.below.size) (Nat.lt_irrefl _)
     ·obtain ⟨es,k1,k2,k3⟩:=g2.2 k x hx
      refine ⟨es,k1,λj u hu=>?_,Cells.Gj hB.size (λb hb _=>hB.block b hb) (λ_ _ h=>h) e es x k3⟩
      rw [cellOf LY,Bt]
      simpa using k2 j u hu
   ·cases he
theorem FC {Γ:Env} (hT:Ep P T) (Pw:Lr P Γ) {st:St} {a:Act} (h:Bh X π st a w) (o:Oper) (av:AV) (he:Xz T Γ st o=some av):
  iF P X st a w av ((execOp a.eval o).run P w):=by
 obtain ⟨dst,op,ty,pos,af,gd⟩:=o
 have val: ∀(s:Sem Value) (v:Value) (w':World) (π':Pi),s.run P w= .ok v w'->Bh X π' st a w'->Bs X w' π' st.heap av v->(execOp a.eval ⟨dst,op,ty,pos,af,gd⟩=do pure (.value (<-s)))->
   iF P X st a w av ((execOp a.eval ⟨dst,op,ty,pos,af,gd⟩).run P w):=by
  intro s v w' π' h1 h2 h3 h4
  rw [h4,Sem.run_bind,h1]
  exact ⟨π',h2,h3⟩
 have quiet:Gf T Γ st ⟨dst,op,ty,pos,af,gd⟩=some av->iF P X st a w av ((execOp a.eval ⟨dst,op,ty,pos,af,gd⟩).run P w):=by
  intro hq
  have:=j6 hT Pw h _ av hq
  generalize (execOp a.eval ⟨dst,op,ty,pos,af,gd⟩).run P w=r at*
  cases r with
  |halt x w'=>exact this
  |ok n w'=>
   cases n<;>simp only [QQ] at this<;>simp only [iF]
   ·obtain ⟨rfl,hr⟩:=this
    exact ⟨π,h,hr⟩
   ·obtain ⟨rfl,hc⟩:=this
    exact ⟨rfl,hc.mono λe rG ⟨v,hv,hb,hr⟩=>⟨v,hv,π,h.quiet hb,hr⟩⟩
 unfold Xz at he
 split at he
 ·rename_i t len parts sr
  dsimp only at sr;subst sr
  obtain ⟨v,w',π',h1,h2,h3⟩:=pv hT h t len parts av he
  exact val _ v w' π' h1 h2 h3 rfl
 ·rename_i t parts sr
  dsimp only at sr;subst sr
  obtain ⟨v',h1,h2⟩:=gI hT h t parts av he
  exact val _ v' w π h1 h h2 rfl
 ·exact quiet he
theorem dM {a:Act} : ∀(l:List Operand) {π:Pi} {st st1:St},Bh X π st a w->Oi l st=some st1-> ∃π',Bh X π' st1 a w
 | [],π,st,st1,h,he=>by
  simp only [Oi,Aa] at he
  subst he
  exact ⟨π,h⟩
 |x::r,π,st,st1,h,he=>by
  simp only [Oi] at he
  cases hs:settle st (st.ev x) with
  |none=>rw [hs] at he;cases he
  |some p=>
   rw [hs] at he
   obtain ⟨cG,h1,_⟩:=cy h (Ed h.2 x) hs
   exact dM r h1 he
theorem JF {a:Act} {st:St} (h:Bh X π st a w) (p x:Operand): ∃π',Bh X π' (Pp T st p x) a w:=by
 unfold Pp
 split
 ·split
  ·split
   ·rename_i hs;exact dM _ h hs
   ·exact ⟨π,h⟩
  ·exact ⟨π,h⟩
 ·exact ⟨π,h⟩
theorem zx {Γ:Env} (hT:Ep P T) (Pw:Lr P Γ) {st:St} {a:Act} (h:Bh X π st a w) (o:Oper) (av:AV) (st':St) (he:evalOp T Γ st o=some (av,st')):
  iF P X st' a w av ((execOp a.eval o).run P w):=by
 have quiet: ∀ {π:Pi} {st:St},Bh X π st a w->(Gf T Γ st o).map (λv=>(v,st))=some (av,st')->iF P X st' a w av ((execOp a.eval o).run P w):=by
  intro π st h he
  cases hq:Gf T Γ st o with
  |none=>rw [hq] at he;cases he
  |some v=>
   rw [hq] at he
   simp only [An,Aa,Af] at he
   obtain ⟨rfl,rfl⟩:=he
   have:=j6 hT Pw h o v hq
   generalize (execOp a.eval o).run P w=r at*
   cases r with
   |halt x w'=>exact this
   |ok n w'=>
    cases n<;>simp only [QQ] at this<;>simp only [iF]
    ·obtain ⟨rfl,hr⟩:=this
     exact ⟨π,h,hr⟩
    ·obtain ⟨rfl,hc⟩:=this
     exact ⟨rfl,hc.mono λe rG ⟨v,hv,hb,hr⟩=>⟨v,hv,π,h.quiet hb,hr⟩⟩
 obtain ⟨dst,op,ty,pos,af,gd⟩:=o
 have val: ∀(s:Sem Value) (v:Value) (w':World) (π':Pi),s.run P w= .ok v w'->Bh X π' st' a w'->Bs X w' π' st'.heap av v->(execOp a.eval ⟨dst,op,ty,pos,af,gd⟩=do pure (.value (<-s)))->
   iF P X st' a w av ((execOp a.eval ⟨dst,op,ty,pos,af,gd⟩).run P w):=by
  intro s v w' π' h1 h2 h3 h4
  rw [h4,Sem.run_bind,h1]
  exact ⟨π',h2,h3⟩
 unfold evalOp at he
 split at he
 all_goals (rename_i sr;dsimp only at sr;try subst sr)
 ·
  rename_i x
  split at he
  ·rename_i d te e hx hd ht
   split at he
   ·rename_i hdp
    simp only [Aa,Af] at he
    obtain ⟨rfl,rfl⟩:=he
    obtain ⟨k1,k2,_⟩:=uo h d hdp (T.tq||e.flat) T.CY te e
    have hxr:=Ed h.2 x
    rw [hx] at hxr
    have hxv:a.eval x= .slice none 0 0:=hxr
    show iF P X _ a w _ (.ok (.value (a.eval x)) w)
    rw [hxv]
    exact ⟨_,k1,k2⟩
   ·cases he
  ·simp only [Aa,Af] at he
   obtain ⟨rfl,rfl⟩:=he
   exact ⟨π,h,Ed h.2 x⟩
 ·
  rename_i t
  split at he
  ·rename_i d τ hd ht
   obtain ⟨i,hi,Wf,rR,tJ⟩:=(hT.ty t τ ht).info
   have hk: ∃π',Bh X π' st' a (w.alloc (.cells (Bw τ).toArray t))/\Bs X (w.alloc (.cells (Bw τ).toArray t)) π' st'.heap av (.pointer (some ⟨w.heap.size,0,none⟩)):=by
    split at he
    ·exact AN h d t (Qv τ) (Bw τ) (vR τ) av st' he
    ·exact r7 h d t τ (zeroCells τ) (Bw τ) (lT τ) av st' he
   obtain ⟨π',k1,k2⟩:=hk
   have hzc:(Ce τ (Bw τ)).cells=(Bw τ).toArray:=by
    cases τ<;>simp [Ce,Ty.Ar,Value.cells,Bw]
   refine val (Instr.alloc t true (.tuple #[])) _ _ π' ?_ k1 k2 rfl
   simp [Instr.alloc,zeroValue,typeInfo,hi,tJ,newVar,newRow,hzc]
  ·cases he
 ·
  rename_i t x
  split at he
  ·rename_i d τ hd ht
   split at he
   ·rename_i cs hc
    obtain ⟨us,hv,hl,hr⟩:=iQ (Ed h.2 x) hc
    have hk: ∃π',Bh X π' st' a (w.alloc (.cells us.toArray t))/\Bs X (w.alloc (.cells us.toArray t)) π' st'.heap av (.pointer (some ⟨w.heap.size,0,none⟩)):=by
     split at he
     ·split at he
      ·rename_i Qj
       cases hvc:Ge st τ cs with
       |none=>rw [hvc] at he;cases he
       |some p=>
        obtain ⟨fr,y⟩:=p
        rw [hvc] at he
        simp only [An,Aa,Af] at he
        obtain ⟨rfl,rfl⟩:=he
        have Sa:=Xp τ cs us fr y Qj hr hvc
        have hB:Below w.heap.size w (w.alloc (.cells us.toArray t)):=(Below.refl _ _).alloc (Aq _) _
        have LY:(w.alloc (.cells us.toArray t)).heap[w.heap.size]?=some (.cells us.toArray t (0,0)):=heap_alloc_new w _
        refine ⟨π,h.quiet hB,[_], .inr ⟨y,w.heap.size,0,rfl,rfl,He LY,λhA=>?_,us,hl,λj u hu=>?_,Cells.Gj hB.size (λb hb _=>hB.block b hb) (λb _ hA=>?_) τ us y Sa⟩,by simp [Ce,Ty.Ar]⟩
        ·rcases hA with hA|hA|⟨hf,_⟩
         ·exact absurd (h.1.own hA).1 (Nat.lt_irrefl _)
         ·exact absurd (Ew (h.1.sc _ hA).1 h.1.below.size) (Nat.lt_irrefl _)
         ·cases hf
        ·rw [cellOf LY,Bt];simpa using hu
        ·exact hA.imp id (Or.imp id λ⟨h1,_⟩=>by cases h1)
      ·cases he
     ·exact r7 h d t τ cs us hr av st' he
    obtain ⟨π',k1,k2⟩:=hk
    refine val (Instr.box t (a.eval x)) _ _ π' ?_ k1 k2 rfl
    simp [Instr.box,newVar,newRow,hv]
   ·cases he
  ·cases he
 ·
  rename_i t p x
  obtain ⟨π0,h⟩:=JF (T:=T) h p x
  cases hs:Qh T (Pp T st p x) t ((Pp T st p x).ev p) ((Pp T st p x).ev x) with
  |none=>rw [hs] at he;cases he
  |some s=>
   rw [hs] at he
   simp only [An,Aa,Af] at he
   obtain ⟨rfl,rfl⟩:=he
   obtain ⟨w',π',h1,h2⟩:=pz hT h t _ _ _ _ (Ed h.2 p) (Ed h.2 x) s hs
   have:(execOp a.eval ⟨dst, .store t p x,ty,pos,af,gd⟩).run P w= .ok .skip w':=by
    show (do Instr.storeAt t (a.eval p) (a.eval x);pure Next.skip:Sem Next).run P w=_
    rw [Sem.run_bind,h1];rfl
   rw [this]
   exact ⟨π',h2,trivial⟩
 ·
  rename_i t l c
  split at he
  ·rename_i d hd
   obtain ⟨v,w',π',h1,h2,h3⟩:=rP hT h d t _ _ _ _ (Ed h.2 l) (Ed h.2 c) av st' he
   exact val _ v w' π' h1 h2 h3 rfl
  ·cases he
 ·
  rename_i t
  split at he
  ·rename_i d hd
   obtain ⟨v,w',π',h1,h2,h3⟩:=nJ hT h d t av st' he
   exact val _ v w' π' h1 h2 h3 rfl
  ·cases he
 ·
  rename_i t m k x
  cases hs:Ka T st t (st.ev m) (st.ev k) (st.ev x) with
  |none=>rw [hs] at he;cases he
  |some s=>
   rw [hs] at he
   simp only [An,Aa,Af] at he
   obtain ⟨rfl,rfl⟩:=he
   obtain ⟨w',h1,h2⟩:=eg hT h t _ _ _ _ _ _ (Ed h.2 m) (Ed h.2 k) (Ed h.2 x) s hs
   have:(execOp a.eval ⟨dst, .mapUpdate t m k x,ty,pos,af,gd⟩).run P w= .ok .skip w':=by
    show (do Instr.mapUpdate t (a.eval m) (a.eval k) (a.eval x);pure Next.skip:Sem Next).run P w=_
    rw [Sem.run_bind,h1];rfl
   rw [this]
   exact ⟨π,h2,trivial⟩
 ·
  rename_i t m k x
  cases hs:Ka T st t (st.ev m) (st.ev k) (st.ev x) with
  |none=>rw [hs] at he;cases he
  |some s=>
   rw [hs] at he
   simp only [An,Aa,Af] at he
   obtain ⟨rfl,rfl⟩:=he
   obtain ⟨w',h1,h2⟩:=eg hT h t _ _ _ _ _ _ (Ed h.2 m) (Ed h.2 k) (Ed h.2 x) s hs
   have:(execOp a.eval ⟨dst, .insert t m k x,ty,pos,af,gd⟩).run P w= .ok .skip w':=by
    show (do Instr.mapUpdate t (a.eval m) (a.eval k) (a.eval x);pure Next.skip:Sem Next).run P w=_
    rw [Sem.run_bind,h1];rfl
   rw [this]
   exact ⟨π,h2,trivial⟩
 ·
  rename_i t len parts
  split at he
  ·rename_i d hd
   obtain ⟨v,w',π',h1,h2,h3⟩:=im hT h d t len parts av st' he
   exact val _ v w' π' h1 h2 h3 rfl
  ·cases he
 ·
  rename_i t parts
  cases hb:Yk T st t parts with
  |none=>rw [hb] at he;cases he
  |some v=>
   rw [hb] at he
   simp only [An,Aa,Af] at he
   obtain ⟨rfl,rfl⟩:=he
   obtain ⟨v',h1,h2⟩:=gI hT h t parts v hb
   exact val _ v' w π h1 h h2 rfl
 ·
  rename_i args ts
  split at he
  ·rename_i d x y t t' hd Rz wj
   split at he
   ·rename_i Wm;subst Wm
    have e1:args= #[x,y]:=by apply Qa;simpa using Rz
    have e2:ts= #[t,t]:=by apply Qa;simpa using wj
    subst e1;subst e2
    obtain ⟨v,w',π',h1,h2,h3⟩:=nG hT h d t ty x y av st' he
    refine val (Builtin.append_ #[t,t] ty #[a.eval x,a.eval y]) v w' π' h1 h2 h3 ?_
    simp [execOp,resolve,invoke,builtin]
   ·cases he
  ·cases he
 ·
  rename_i args ts
  split at he
  ·rename_i x y t t' Rz wj
   have e1:args= #[x,y]:=by apply Qa;simpa using Rz
   have e2:ts= #[t,t']:=by apply Qa;simpa using wj
   subst e1;subst e2
   obtain ⟨v,w',h1,h2,h3⟩:=ta hT h t t' ty _ _ _ _ (Ed h.2 x) (Ed h.2 y) av st' he
   refine val (Builtin.copy_ #[t,t'] ty #[a.eval x,a.eval y]) v w' π h1 h2 h3 ?_
   simp [execOp,resolve,invoke,builtin]
  ·cases he
 ·
  rename_i args ts
  split at he
  ·rename_i x t Rz wj
   have e1:args= #[x]:=by apply Qa;simpa using Rz
   have e2:ts= #[t]:=by apply Qa;simpa using wj
   subst e1;subst e2
   cases hs:evalClear T st t (st.ev x) with
   |none=>rw [hs] at he;cases he
   |some s=>
    rw [hs] at he
    simp only [An,Aa,Af] at he
    obtain ⟨rfl,rfl⟩:=he
    obtain ⟨v,w',h1,h2⟩:=rO hT h t ty _ _ (Ed h.2 x) s hs
    refine val (Builtin.clear_ #[t] ty #[a.eval x]) v w' π h1 h2 trivial ?_
    simp [execOp,resolve,invoke,builtin]
  ·cases he
 ·
  rename_i f args ts
  split at he
  ·rename_i s Apc
   have hs:Eu P f s:=Pw f _ Apc
   have:=rM h hs dst (args.toList.map st.ev) (args.toList.map a.eval) (by simp) (λi c v=>jH h args.toList i c v) av st' he
   rw [jK a.eval f args ts dst ty pos af gd rfl hs.enter]
   refine ⟨rfl,?_⟩
   rwa [show (args.toList.map a.eval).toArray=args.map a.eval from by apply Qa;simp] at this
  ·rename_i s Apc
   split at he
   ·cases hs:Oi args.toList st with
    |none=>rw [hs] at he;cases he
    |some st1=>
     rw [hs] at he
     obtain ⟨cG,h1⟩:=dM args.toList h hs
     exact quiet h1 he
   ·exact quiet h he
  ·exact quiet h he
 ·exact quiet h he
end
end Go.Proofs.YtkkdpknjohcekaaGreat
