/-
  Part 23 of the proof that the statement FnExactIterationNodes holds.
-/
import Derived.Test.YtfolipnappekaaaGreatCIterationNodes21
namespace Go.Proofs.YtfolipnappekaaaGreat
open Go.RowKit
section
variable {P:Program} {T:Tab} {X:Ctx} {w w':World} {π:Pi} {H:List (Nat×OB)}
theorem zN {π':Pi} {st':St} {a:Act} (h:Bl X π' st' a w) (k:Ko π π' H st'.heap) {fr:Bool} (τ:Ty) (cs:List Value) (x:τ.den) (hc:Cells w (Dc X.w0.heap.size X.Sc π fr) τ cs x):
  Cells w (Dc X.w0.heap.size X.Sc π' fr) τ cs x:=
 Cells.Ex (Ao _) (λ_ _ _=>rfl) (λb _ hA=>by
  rcases hA with ⟨l,r,hl,hg⟩|h2
  ·have hh:=h.1.heap l
   cases hb:Au st'.heap l with
   |none=>have:=hh.emp hb;rw [this] at hl;cases hl
   |some b'=>have:=(k l b' hb).1;rw [this] at hl;exact .inl ⟨l,r,hl,hg⟩
  ·exact .inr h2) τ cs x hc
theorem ic.drop {F:List Nat} {l:Nat} (h:ic X w π F):ic X w (Xa π l none) F:=
 ⟨h.1,λb hb=>⟨(h.2 b hb).1,(h.2 b hb).2.1,λm r hm=>by
  by_cases e:m=l
  ·subst e;rw [Gj] at hm;cases hm
  ·rw [Gg π none e] at hm;exact (h.2 b hb).2.2 m r hm⟩⟩
theorem uN {st:St} {a:Act} (h:Bl X π st a w) (l:Nat) (hl:l<Bn) (f0 t0:Bool) (te:TypeId) (e:Ty):
  Bl X (Xa π l none) (st.new l (.arr f0 t0 e te [])) a w/\Bp X w (Xa π l none) (st.new l (.arr f0 t0 e te [])).heap (.at (.own l 0 0)) (.slice none 0 0)/\
   ∀fr τ cs x,Cells w (Dc X.w0.heap.size X.Sc π fr) τ cs x->Cells w (Dc X.w0.heap.size X.Sc (Xa π l none) fr) τ cs x:=
 ⟨h.replace l hl none _ (Pz w _) (λr hr=>by cases hr) (λ_=>rfl),
  HU (St.Gw st l _) (Ao _) (by rw [Gj];exact ⟨rfl,rfl,rfl⟩),
  fun fr τ cs x hc=>Cells.Ex (Ao _) (λ_ _ _=>rfl) (λb _ hA=>by
  rcases hA with ⟨m,r,hm,hg⟩|h2
  ·by_cases e:m=l
   ·subst e;rw [Gj] at hm;cases hm
   ·rw [Gg π none e] at hm;exact .inl ⟨m,r,hm,hg⟩
  ·exact .inr h2) τ cs x hc⟩
theorem Xx (hT:Eb P T) {st:St} {a:Act} (h:Bl X π st a w) (dst:Nat) (t ty:TypeId) (x y:Operand) (av:AV) (st':St) (he:Nz T st dst t x y=some (av,st')):
  ∃v' w' π',(Builtin.append_ #[t,t] ty #[a.eval x,a.eval y]).run P w= .ok v' w'/\Bl X π' st' a w'/\Bp X w' π' st'.heap av v':=by
 unfold Nz at he
 split at he
 ·cases he
 ·rename_i te lv
  split at he
  ·rename_i e y' st1 Yg hs
   obtain ⟨cz,h1,h2,h3,h4,h5⟩:=cn h (Dv h.2 y) hs
   split at he
   ·cases he
   ·rename_i sM ys hv
    dsimp only at he
    have SV: ∀tr2,tr2=(e.flat||(Tn st (st.ev y)&&e.tree))->tr2=true->e.flat=true\/ ∃F,Ch w F (.slice e) [a.eval y] ys/\ic X w cz F:=by
     intro tr2 e2 nN
     subst e2
     cases hef:e.flat with
     |true=>exact .inl rfl
     |false=>
     right
     simp only [hef,Pg,Af] at nN
     obtain ⟨F,us,f1,f2,f3,_⟩:=h5 nN.1 (.slice e) sM ys nN.2 hv
     have hus:us= [a.eval y]:=by
      simp only [Ch] at f1
      obtain ⟨a0,len,cap,rfl,_⟩:=f1
      rw [f2];simp [Cf,Ty.Aq]
     rw [hus] at f1
     exact ⟨F,f1,f3⟩
    have hyc:Cells w (Dc X.w0.heap.size X.Sc cz sM) (.slice e) [a.eval y] ys:=Ct.Ry rfl (Mt _ y' _ sM ys h3 h2 hv)
    have hxr:=Dv h1.2 x
    split at he
    ·rename_i hx
     rw [hx] at hxr
     have hxv:a.eval x= .slice none 0 0:=hxr
     split at he
     ·rename_i pA
      simp only [Aa,Ad] at he
      obtain ⟨rfl,rfl⟩:=he
      obtain ⟨k1,k2,k3⟩:=uN h1 dst pA.2 (T.u9||e.flat) T.DK te e
      have:=nc (ty:=ty) hT k1 lv Yg pA.2 (fr3:=sM||e.flat) (tr2:=e.flat||(Tn st (st.ev y)&&e.tree)) rfl (St.Gw st1 dst _) k2 (k3 _ _ _ _ hyc) (by rw [Bv];exact pA.1) (λht=>by
       rcases SV _ rfl ht with h0|⟨F,f1,f2⟩
       ·exact .inl h0
       ·exact .inr ⟨F,f1,f2.drop⟩)
      rw [<-hxv] at this
      exact this
     ·cases he
    ·rename_i l off len hx
     rw [hx] at hxr
     split at he
     ·rename_i fr tr e' tid xs hl
      split at he
      ·rename_i Jn
       obtain ⟨rfl,rfl⟩:=Jn
       split at he
       ·rename_i pA
        simp only [Aa,Ad] at he
        obtain ⟨rfl,rfl⟩:=he
        exact nc (ty:=ty) hT h1 lv Yg pA.2 (fr3:=sM||e'.flat) (tr2:=e'.flat||(Tn st (st.ev y)&&e'.tree)) rfl hl hxr hyc pA.1 (SV _ rfl)
       ·cases he
      ·cases he
     ·cases he
    ·cases he
  ·cases he
theorem nt (hT:Eb P T) {st:St} {a:Act} (h:Bl X π st a w) (dst:Nat) (t ty:TypeId) (x y:Operand) (av:AV) (st':St) (he:Rk T st dst t x y=some (av,st')):
  ∃v' w' π',(Builtin.append_ #[t,t] ty #[a.eval x,a.eval y]).run P w= .ok v' w'/\Bl X π' st' a w'/\Bp X w' π' st'.heap av v':=by
 unfold Rk at he
 split at he
 ·rename_i tx
  split at he
  ·rename_i l i c hg
   split at he
   ·rename_i e te rows kp tid hl _
    split at he
    ·rename_i hc
     simp only [Af,Ni,Eg] at hc
     have kS:dst≠l:= λe=>by rw [e,Nat.beq_refl] at hc;cases hc.2.2
     unfold St.at at hl
     have hv:Hm X w π st.heap (.sub l i c) (a.tmps.getD tx undef):=by
      have:=h.2.tmps tx
      rw [hg] at this
      exact this
     obtain ⟨cz,h1,h2⟩:=MM (tid:=tid) h hl kS hc.2.1 hc.1 hv
     have h3:=h1.put (some tx) (c:= .at (.own dst 0 (rows.getD i []).length)) h2
     have Aoh:a.put (some tx) (a.tmps.getD tx undef)=a:=by
      have:a.tmps.setIfInBounds tx (a.tmps.getD tx undef)=a.tmps:=by
       apply Array.ext_getElem?
       intro k
       rw [Array.getElem?_setIfInBounds]
       split
       ·rename_i e
        subst e
        split
        ·rename_i It
         rw [Array.getElem?_eq_getElem It];simp
        ·rename_i It
         rw [Array.getElem?_eq_none (by omega)]
       ·rfl
      simp only [Act.put,this]
     rw [Aoh] at h3
     exact Xx hT h3 dst t ty (.tmp tx) y av st' he
    ·cases he
   ·cases he
  ·exact Xx hT h dst t ty _ y av st' he
 ·exact Xx hT h dst t ty x y av st' he
theorem RL {S:Nat->Prop} {e:Ty} (h:mT e=true): ∃z,Bw e= [z]/\e.Aq=false/\e.size=1/\Cells w S e [z] e.zero/\z.oneCell'=true:=by
 cases e<;>simp [mT] at h
 ·exact ⟨_,rfl,rfl,rfl,rfl,rfl⟩
 ·exact ⟨_,rfl,rfl,rfl,rfl,rfl⟩
 ·exact ⟨_,rfl,rfl,rfl,rfl,rfl⟩
 ·exact ⟨_,rfl,rfl,rfl,⟨none,0,0,rfl,rfl,Ao _, .inl rfl⟩,rfl⟩
 ·exact ⟨_,rfl,rfl,rfl, .inl ⟨rfl,0,rfl⟩,rfl⟩
theorem LG {e:Ty} {z:Value} (ht:e.tree=true) (h:mT e=true) (hz:Bw e= [z]):Ch w [] e [z] e.zero:=by
 cases e<;>simp [mT] at h<;>simp only [Bw,Gc,Ol] at hz<;>subst hz<;>try (simp [Ty.tree] at ht;done)
 ·exact ⟨rfl,rfl⟩
 ·exact ⟨rfl,rfl⟩
 ·exact ⟨rfl,rfl⟩
 ·exact ⟨none,0,0,rfl,rfl,Ao _, .inl ⟨rfl,rfl,rfl,rfl⟩⟩
theorem Adn {S:Nat->Prop} : ∀(e:Ty),gg e=true->(Bw e).length=e.size/\Cells w S e (Bw e) e.zero/\(e.tree=true->Ch w [] e (Bw e) e.zero):=by
 intro e
 induction e with
 |unit=>intro _;exact ⟨rfl,rfl,λ_=>⟨rfl,rfl⟩⟩
 |pair a r hZ gW=>
  intro h
  simp only [gg,Af] at h
  obtain ⟨a1,a2,a3⟩:=hZ h.1
  obtain ⟨r1,r2,r3⟩:=gW h.2
  exact ⟨by simp [Bw,Ty.size,a1,r1],⟨_,_,rfl,a2,r2⟩,λht=>by simp only [Ty.tree,Af] at ht;exact ⟨_,_,[],[],rfl,rfl,a3 ht.1,r3 ht.2⟩⟩
 |_=>
  intro h
  simp only [gg] at h
  obtain ⟨z,z1,z2,z3,z4,_⟩:=RL (w:=w) (S:=S) h
  exact ⟨by rw [z1,z3];rfl,by rw [z1];exact z4,λht=>by rw [z1];exact LG ht h z1⟩
theorem TD {z:Array Value} {s m j q:Nat} (hz:z.size=s) (hj:j<m) (hq:q<s):(madeCells z (m*s))[j*s+q]?=z[q]?:=by
 have h1:j*s+q<m*s:=by
  have:=Eo s (show j+1<=m by omega)
  rw [Nat.succ_mul] at this
  omega
 have h2:(j*s+q)%z.size=q:=by rw [hz,Nat.mul_comm,Nat.mul_add_mod,Nat.mod_eq_of_lt hq]
 have h3:q<z.size:=by omega
 unfold madeCells
 simp [h1,h2,h3]
theorem tW (hT:Eb P T) {st:St} {a:Act} (h:Bl X π st a w) (dst:Nat) (t:TypeId) (l c:AV) (vl vc:Value) (hl:Bp X w π st.heap l vl) (hc:Bp X w π st.heap c vc) (av:AV) (st':St)
  (he:bV T st dst t l c=some (av,st')): ∃v' w' π',(Instr.makeSlice t vl vc).run P w= .ok v' w'/\Bl X π' st' a w'/\Bp X w' π' st'.heap av v':=by
 unfold bV at he
 split at he
 ·rename_i te fr1 k1 n sM k2 m lv
  have:=Qe hl;subst this
  have:=Qe hc;subst this
  split at he
  ·rename_i e Yg
   split at he
   ·rename_i Jn
    obtain ⟨h0,hnm,hz,hdp⟩:=Jn
    obtain ⟨h1,h2⟩:=Uh.1 h0
    subst hnm
    simp only [Aa,Ad] at he
    obtain ⟨rfl,rfl⟩:=he
    obtain ⟨i,hi,Vs,sa,uj⟩:=(hT.ty te e Yg).info
    obtain ⟨z1,z4,z5⟩:=Adn (w:=w) (S:=Dc X.w0.heap.size X.Sc π (T.u9||e.flat)) e hz
    have hzc:(Cf e (Bw e)).cells=(Bw e).toArray:=Kt e _ _ z4
    have hu:=hT.elem t te lv
    have hn:n.toNat<=4294967296:=by unfold Cq at h2;omega
    have hr:=run_make (P:=P) (w:=w) t te i _ hu hi uj k1 k2 n n h1 (Nx _) (by
     have:(i.bytes:Int)*n<=256*4294967296:=by
      obtain ⟨nn,rfl⟩:=Qv h1
      have h7:i.bytes*nn<=256*4294967296:=dL sa (by simpa using hn)
      have h8:((i.bytes*nn:Nat):Int)<=256*4294967296:=by omega
      rwa [Int.natCast_mul] at h8
     omega) (by unfold Cq at h2;omega)
    rw [hzc,Vs] at hr
    have aO:((Bw e).toArray).size=e.size:=by simpa using z1
    have cell: ∀j,j<n.toNat-> ∀q u,(Bw e)[q]?=some u->(madeCells (Bw e).toArray (n.toNat*e.size)).toList[j*e.size+q]?=some u:=by
     intro j hj q u hu
     have hq:q<e.size:=by rw [<-z1];exact (An.1 hu).1
     have:=TD aO hj hq
     rw [Array.getElem?_toList,this]
     simpa using hu
    have:=fC (w1:=w.alloc (.cells (madeCells (Bw e).toArray (n.toNat*e.size)) te)) h dst hdp (T.u9||e.flat) (T.DK&&e.tree) e te (List.replicate n.toNat e.zero) (madeCells (Bw e).toArray (n.toNat*e.size)).toList (madeCells (Bw e).toArray (n.toNat*e.size)) n.toNat []
     (.inr rfl) (by rw [size_madeCells]) (by unfold maxLen;omega) (by simp)
     (λk u hu=>by
      rw [Array.getElem?_toList] at hu;exact hu) ⟨by simp [size_madeCells],λj x hx=>by
       have hj:=(An.1 hx).1
       simp only [Fz] at hj
       refine ⟨Bw e,z1,λq u hu=>cell j hj q u hu,?_⟩
       rw [Fl (Bs hx)];exact z4⟩ (by simp) (λnN=>⟨Nh,List.replicate n.toNat [],by simp,by simp,λj x F hx hF=>by
      have hj:=(An.1 hx).1
      simp only [Fz] at hj
      refine ⟨Bw e,z1,λq u hu=>cell j hj q u hu,?_⟩
      have e1:=Fl (Bs hx)
      have e2:=Fl (Bs hF)
      rw [e1,e2]
      exact z5 (by simp only [Af] at nN;exact nN.2)⟩)
    exact ⟨_,_,_,hr,this.1,this.2 _ (by simp)⟩
   ·cases he
  ·cases he
 ·cases he
theorem iM (off:Nat): ∀(us:List Value) (k:Nat) (cells:List Value),off+k+us.length<=cells.length->
  (us.zipIdx k).foldl (λcs p=>cs.setIfInBounds (off+p.2) p.1) cells.toArray=(Dw cells (off+k) us).toArray
 | [],k,cells,h=>by simp [Dw]
 |u::us,k,cells,h=>by
  simp only [List.zipIdx_cons,Ig]
  rw [show cells.toArray.setIfInBounds (off+k) u=(cells.set (off+k) u).toArray by simp]
  rw [iM off us (k+1) (cells.set (off+k) u) (by simp at h⊢;omega)]
  congr 1
  apply List.ext_getElem?
  intro j
  have hl:off+k+(u::us).length<=cells.length:=h
  have wD:off+(k+1)+us.length<=(cells.set (off+k) u).length:=by simp at h⊢;omega
  rw [Ib _ _ _ _ hl,Ib _ _ _ _ wD]
  simp only [Az]
  by_cases h1:j<off+k
  ·rw [Ab (by omega),Ab h1,List.getElem?_set_ne (by omega)]
  ·rw [Ag h1]
   by_cases h2:j=off+k
   ·subst h2
    rw [Ab (by omega),Ab (by omega),List.getElem?_set_self (by simp at h;omega)]
    simp
   ·rw [Ag (by omega)]
    by_cases h3:j<off+k+(us.length+1)
    ·rw [Ab (by omega),Ab h3]
     rw [show j-(off+k)=(j-(off+(k+1)))+1 by omega,Me]
    ·rw [Ag (by omega),Ag h3,List.getElem?_set_ne (by omega)]
theorem yq (place:Nat->Option (Nat×Nat)) (cells:List Value) (i:Nat) (v:Value) (rest:List (Nat×Value)) (off size:Nat) (us:List Value) (hp:place i=some (off,size)) (hv:v.cells=us.toArray)
  (hl:us.length=size) (hle:off+size<=cells.length):Instr.fill place cells.toArray ((i,v)::rest)=Instr.fill place (Dw cells off us).toArray rest:=by
 simp only [Instr.fill,hp,hv,Gs,hl]
 rw [Ag (by simp;omega)]
 congr 1
 have:=iM off us 0 cells (by omega)
 simp only [Ez] at this
 rw [<-this]
 simp
theorem Xt (e:Ty) {a:Act} : ∀(parts:List (Nat×Operand)) (i:Nat) (st:St) (π:Pi) (fr tr:Bool) (ys:List e.den) (st':St) (cells:List Value),Bl X π st a w->Lb e i parts st=some (fr,tr,ys,st')->
  (i+parts.length)*e.size<=cells.length->
  ∃π' cl,Bl X π' st' a w/\Flat w (Dc X.w0.heap.size X.Sc π' fr) e cl ys/\ys.length=parts.length/\Ko π π' st.heap st'.heap/\
   Instr.fill (λi=>some (i*e.size,e.size)) cells.toArray (parts.map λp=>(p.1,a.eval p.2))=some (Dw cells (i*e.size) cl).toArray/\
   (tr=true-> ∃Fs,Sy w e cl ys Fs/\ic X w π' (List.flatten Fs)/\ ∀b∈List.flatten Fs,∃l r,π l=some r/\r.cl b)
 | [],i,st,π,fr,tr,ys,st',cells,h,he,hle=>by
  simp only [Lb,Aa,Ad] at he
  obtain ⟨rfl,rfl,rfl,rfl⟩:=he
  exact ⟨π,[],h,Flat.nil,rfl,Ko.refl _ _,by simp [Instr.fill,Dw],λ_=>⟨[],⟨rfl,λi z F hz=>by simp at hz⟩,⟨Nh,by simp⟩,by simp⟩⟩
 |(j,x)::r,i,st,π,fr,tr,ys,st',cells,h,he,hle=>by
  simp only [Lb] at he
  split at he
  ·rename_i iW;subst iW
   split at he
   ·rename_i v' st1 hs
    obtain ⟨cz,h1,h2,h3,h4,h5⟩:=cn h (Dv h.2 x) hs
    split at he
    ·rename_i fr1 y hv
     split at he
     ·rename_i sM tr2 zs st2 hr
      simp only [Aa,Ad] at he
      obtain ⟨rfl,rfl,rfl,rfl⟩:=he
      obtain ⟨es,hY,MX⟩:=Mt e v' _ fr1 y h3 h2 hv
      have lq:=Cells.len e es y hY
      have Ate:i*e.size+e.size<=cells.length:=by
       have:(i+1)*e.size<=(i+((i,x)::r).length)*e.size:=Eo _ (by simp)
       rw [Dd,Si] at this
       omega
      have SK:i*e.size+es.length<=cells.length:=by omega
      obtain ⟨YM,cl,g1,g2,g3,g4,g5,g6⟩:=Xt e r (i+1) st1 cz sM tr2 zs st2 (Dw cells (i*e.size) es) h1 hr (by
       rw [Iv _ _ _ SK]
       rw [show i+1+r.length=i+((i,x)::r).length by simp;omega];exact hle)
      have f1:Flat w (Dc X.w0.heap.size X.Sc YM fr1) e es [y]:=⟨by simp [lq],λq z hz=>by
       rcases q with _|q
       ·simp at hz;subst hz
        exact ⟨es,lq,λj u hu=>by simpa using hu,zN g1 g4 e es y hY⟩
       ·simp at hz⟩
      refine ⟨YM,es++cl,g1,?_,by simp [g3],h4.trans g4,?_,λht=>?_⟩
      ·have:=(f1.cells λes z hc=>hc.and_left (f2:=sM)).append (g2.cells λes z hc=>hc.and_right (f1:=fr1))
       simpa using this
      ·simp only [Cc]
       rw [yq _ cells i (a.eval x) _ (i*e.size) e.size es rfl (by rw [MX];exact Kt e es y hY) lq Ate,g5]
       congr 2
       have Pe:cl.length=r.length*e.size:=by rw [g2.1,g3]
       have Ye:(i+1)*e.size+cl.length<=(Dw cells (i*e.size) es).length:=by
        rw [Iv _ _ _ SK,Pe,<-Dd]
        rw [show i+1+r.length=i+((i,x)::r).length by simp;omega];exact hle
       have Ank:i*e.size+(es++cl).length<=cells.length:=by
        rw [Iv _ _ _ SK] at Ye
        rw [Ax,lq]
        rw [Dd,Si] at Ye
        omega
       have e1:(i+1)*e.size=i*e.size+es.length:=by rw [Dd,Si,lq]
       apply List.ext_getElem?
       intro k
       rw [Ib _ _ _ _ Ye,Ib _ _ _ _ Ank,Ib _ _ _ _ SK,e1,Ax]
       by_cases k1:k<i*e.size
       ·rw [Ab (by omega),Ab k1,Ab k1]
       ·rw [Ag k1,Ag k1]
        by_cases k2:k<i*e.size+es.length
        ·rw [Ab k2,Ab k2,Ab (by omega),As (by omega)]
        ·rw [Ag k2,Ag k2]
         by_cases k3:k<i*e.size+es.length+cl.length
         ·rw [Ab k3,Ab (by omega),Ar (by omega)]
          congr 1;omega
         ·rw [Ag k3,Ag (by omega)]
      ·simp only [Af] at ht
       obtain ⟨⟨ht1,ht2⟩,ht3⟩:=ht
       obtain ⟨F,us,t1,t2,t3,t7⟩:=h5 ht1 e fr1 y ht2 hv
       obtain ⟨Fs,t4,t5,t6⟩:=g6 ht3
       have hus:us=es:=by
        have c1:=Ch.cells (S:= λ_=>False) F e us y t1 (λ_ _ h=>h)
        have a1:=Kt e us y c1
        have a2:=Kt e es y hY
        rw [<-t2,MX,a2] at a1
        simpa using a1.symm
       subst hus
       refine ⟨F::Fs,?_,?_,λb hb=>?_⟩
       ·have k1:Sy w e us [y] [F]:=⟨rfl,λq z G hz hG=>by
         rcases q with _|q
         ·simp at hz hG;subst hz;subst hG
          exact ⟨us,lq,λj u hu=>by simpa using hu,t1⟩
         ·simp at hz⟩
        exact Sy.append (by simp [lq]) k1 t4
       ·rw [Kw]
        refine ⟨Cy.2 ⟨t3.1,t5.1,λb hb b' iV e=>?_⟩,λb hb=>?_⟩
        ·subst e
         obtain ⟨l,r,q1,q2⟩:=t6 b iV
         exact (t3.2 b hb).2.2 l r q1 q2
        ·rcases Bb.1 hb with hb|hb
         ·have:=t3.2 b hb
          refine ⟨this.1,this.2.1,λl r q1 q2=>?_⟩
          cases hh:Au st2.heap l with
          |none=>rw [(g1.1.heap l).emp hh] at q1;cases q1
          |some b'=>exact this.2.2 l r ((g4 l b' hh).1▸q1) q2
         ·exact t5.2 b hb
       ·rw [Kw] at hb
        rcases Bb.1 hb with hb|hb
        ·exact t7 b hb
        ·obtain ⟨l,r,q1,q2⟩:=t6 b hb
         cases hh:Au st1.heap l with
         |none=>rw [(h1.1.heap l).emp hh] at q1;cases q1
         |some b'=>exact ⟨l,r,(h4 l b' hh).1▸q1,q2⟩
     ·cases he
    ·cases he
   ·cases he
  ·cases he
theorem iF (hT:Eb P T) {st:St} {a:Act} (h:Bl X π st a w) (dst:Nat) (t:TypeId) (len:Nat) (parts:Array (Nat×Operand)) (av:AV) (st':St)
  (he:Mi T st dst t len parts=some (av,st')):
  ∃v' w' π',(Instr.buildSlice t len (parts.map λ(i,x)=>(i,a.eval x))).run P w= .ok v' w'/\Bl X π' st' a w'/\Bp X w' π' st'.heap av v':=by
 unfold Mi at he
 split at he
 ·cases he
 ·rename_i te lv
  split at he
  ·cases he
  ·rename_i e Yg
   split at he
   ·rename_i Jn
    obtain ⟨km,hlen⟩:=Jn
    split at he
    ·rename_i fr tr ys st1 hb
     simp only [Aa,Ad] at he
     obtain ⟨rfl,rfl⟩:=he
     obtain ⟨i,hi,Vs,sa,uj⟩:=(hT.ty te e Yg).info
     have hu:=hT.elem t te lv
     have UU:parts.toList.length=len:=by simpa using km
     have hz: ∃z:Array Value,(len*e.size=0/\z= #[])\/(¬len*e.size=0/\(zeroValue te).run P w= .ok (Cf e (Bw e)) w/\z=(Cf e (Bw e)).cells):=by
      by_cases h0:len*e.size=0
      ·exact ⟨#[], .inl ⟨h0,rfl⟩⟩
      ·exact ⟨_, .inr ⟨h0,by simp [zeroValue,typeInfo,hi,uj],rfl⟩⟩
     obtain ⟨z,hz⟩:=hz
     obtain ⟨cz,cl,g1,g2,g3,g4,g5,g6⟩:=Xt e parts.toList 0 st π fr tr ys st1 ((Array.range (len*e.size)).map (z[· %z.size]!)).toList h hb (by simp [UU])
     have Pe:cl.length=len*e.size:=by rw [g2.1,g3,UU]
     have YU:(Dw ((Array.range (len*e.size)).map (z[· %z.size]!)).toList (0*e.size) cl)=cl:=by
      simp [Dw,Pe]
     rw [YU] at g5
     have Vt:(Instr.buildSlice t len (parts.map λ(i,x)=>(i,a.eval x))).run P w= .ok (.slice (some ⟨w.heap.size,0,none⟩) len len) (w.alloc (.cells cl.toArray te)):=by
      have h24: ¬(len*e.size>2^24):=by
       have:len*e.size<=64*64:=dL hlen.1 hlen.2.1
       omega
      simp only [Instr.buildSlice,Sem.run_bind,run_underlying hu,Result.andThen_ok,(hT.ty te e Yg).size,Ag h24]
      have e1:(parts.map λ(i,x)=>(i,a.eval x)).toList=parts.toList.map λp=>(p.1,a.eval p.2):=by simp
      simp only [e1]
      have e2:(((Array.range (len*e.size)).map (z[· %z.size]!)).toList.toArray)=(Array.range (len*e.size)).map (z[· %z.size]!):=Array.toArray_toList
      rw [e2] at g5
      rcases hz with ⟨h0,rfl⟩|⟨h0,hz,rfl⟩
      ·rw [Ab h0]
       simp only [Sem.run_bind,Sem.run_pure,Result.andThen_ok,g5,newRow]
       simp
      ·rw [Ag h0]
       simp only [Sem.run_bind,Sem.run_pure,Result.andThen_ok,hz,g5,newRow]
       simp
     have hN: ∃N:List Nat,(∀b∈N,(X.w0.heap.size<=b\/X.gv b)/\b<w.heap.size/\ ∀m r0,m≠dst->cz m=some r0-> ¬r0.cl b)/\(tr=true->N.Nodup/\ ∃Fs,List.flatten Fs=N/\Sy w e cl ys Fs):=by
      cases tr with
      |false=>exact ⟨[],by simp,λh=>by cases h⟩
      |true=>
       obtain ⟨Fs,t1,t2,_⟩:=g6 rfl
       exact ⟨_,λb hb=>⟨(t2.2 b hb).1,(t2.2 b hb).2.1,λm r0 _=>(t2.2 b hb).2.2 m r0⟩,λ_=>⟨t2.1,Fs,rfl,t1⟩⟩
     obtain ⟨N,q1,q2⟩:=hN
     have:=fC (w1:=w.alloc (.cells cl.toArray te)) g1 dst hlen.2.2 ((T.u9||e.flat)&&fr) (T.DK&&tr) e te ys cl cl.toArray len N (.inr rfl) (by simpa using Pe) (by simp only [maxLen];omega) (by omega) (λk u hu=>by simpa using hu) (g2.cells λes z hc=>hc.and_right) q1 (λht=>q2 (by simp only [Af] at ht;exact ht.2))
     exact ⟨_,_,_,Vt,this.1,this.2 _ (by omega)⟩
    ·cases he
   ·cases he
theorem mg {t te:TypeId} {e:Ty} (h:ec T t=some (te,e)):T.elem t=some te/\T.ty te=some (.slice e):=by
 unfold ec at h
 cases he:T.elem t with
 |none=>rw [he] at h;cases h
 |some Rf=>
  rw [he] at h
  simp only [Fh] at h
  cases hg:T.SE Rf with
  |none=>rw [hg] at h;cases h
  |some e'=>
   rw [hg] at h
   simp only [Am,Aa,Ad] at h
   obtain ⟨rfl,rfl⟩:=h
   refine ⟨rfl,?_⟩
   unfold Tab.SE at hg
   split at hg
   ·split at hg
    ·rename_i Yg;simp only [Aa] at hg;subst hg;exact Yg
    ·cases hg
   ·cases hg
theorem nf (w:World) (o:Obj):Gy w.heap.size (λ_=>False) w (w.alloc o):=⟨rfl,rfl,rfl,by simp,λk hk _=>Below.heap_alloc w _ k hk⟩
theorem qE (w:World) (o:Obj):Gy w.heap.size (λ_=>False) w (w.drew.alloc o):=⟨rfl,rfl,rfl,by simp,λk hk _=>Below.heap_alloc w.drew _ k hk⟩
theorem rY (hT:Eb P T) {st:St} {a:Act} (h:Bl X π st a w) (dst:Nat) (t:TypeId) (l c:AV) (vl vc:Value) (hl:Bp X w π st.heap l vl) (hc:Bp X w π st.heap c vc) (av:AV) (st':St)
  (he:Yb T st dst t l c=some (av,st')): ∃v' w' π',(Instr.makeSlice t vl vc).run P w= .ok v' w'/\Bl X π' st' a w'/\Bp X w' π' st'.heap av v':=by
 unfold Yb at he
 split at he
 ·exact tW hT h dst t l c vl vc hl hc av st' he
 ·rename_i te e hg
  obtain ⟨lv,Yg⟩:=mg hg
  split at he
  ·rename_i fr1 k1 n sM k2 m
   have:=Qe hl;subst this
   have:=Qe hc;subst this
   split at he
   ·rename_i Jn
    obtain ⟨h0,hnm,hdp⟩:=Jn
    obtain ⟨h1,h2⟩:=Uh.1 h0
    subst hnm
    simp only [Aa,Ad] at he
    obtain ⟨rfl,rfl⟩:=he
    obtain ⟨i,hi,Vs,sa,uj⟩:=(hT.ty te _ Yg).info
    have hu:=hT.elem t te lv
    have hn:n.toNat<=4294967296:=by unfold Cq at h2;omega
    have hr:=run_make (P:=P) (w:=w) t te i _ hu hi uj k1 k2 n n h1 (Nx _) (by
     have:(i.bytes:Int)*n<=256*4294967296:=by
      obtain ⟨nn,rfl⟩:=Qv h1
      have h7:i.bytes*nn<=256*4294967296:=dL sa (by simpa using hn)
      have h8:((i.bytes*nn:Nat):Int)<=256*4294967296:=by omega
      rwa [Int.natCast_mul] at h8
     omega) (by unfold Cq at h2;omega)
    have hzc:(Cf (Ty.slice e) (Bw (Ty.slice e))).cells= #[.slice none 0 0]:=by simp [Cf,Ty.Aq,Bw,Value.cells]
    have fi:(Ty.slice e).size=1:=rfl
    rw [hzc,Vs,fi] at hr
    have cell: ∀j,j<n.toNat->(madeCells #[Value.slice none 0 0] (n.toNat*1))[0+j]?=some (.slice none 0 0):=by
     intro j hj
     have:=TD (z:= #[Value.slice none 0 0]) (s:=1) (m:=n.toNat) (j:=j) (q:=0) rfl hj (by omega)
     simp only [Ft,Ez] at this
     simp only [Ft,Bv]
     rw [this];rfl
    obtain ⟨π',g1,g2⟩:=Zw (w1:=w.alloc (.cells (madeCells #[Value.slice none 0 0] (n.toNat*1)) te)) (gv:= λ_=>False) h hdp hdp te (e:=e) (rows:=List.replicate n.toNat []) (us:=List.replicate n.toNat (.slice none 0 0)) (Rs:=List.replicate n.toNat none) (g:=w.heap.size) (o:=0) (cap:=n.toNat)
     (λ_ hf=>hf.elim) (nf w _) ⟨.inl (Ao _),by simp⟩ (heap_alloc_new w _) (by rw [size_madeCells];omega) (by unfold maxLen;omega) (by simp) (λj u hu=>by
      have hj:=(An.1 hu).1
      simp only [Fz] at hj
      rw [cell j hj,Fl (Bs hu)])
     ⟨by simp,by simp,λi j q q' h1=>(by have:=Fl (Bs h1);cases this),λi x hx=>by
      have hj:=(An.1 hx).1
      simp only [Fz] at hj
      rw [Fl (Bs hx)]
      exact ⟨.slice none 0 0,none,by rw [Zg,Ab hj],by rw [Zg,Ab hj],⟨rfl,rfl,rfl⟩,rfl⟩⟩
     (λi q h1=>by have:=Fl (Bs h1);cases this)
    exact ⟨_,_,π',hr,g1,g2 _ (by simp)⟩
   ·cases he
  ·cases he
theorem gR (hT:Eb P T) {st:St} {a:Act} (h:Bl X π st a w) (dst:Nat) (t:TypeId) (len:Nat) (parts:Array (Nat×Operand)) (av:AV) (st':St)
  (he:Iz T st dst t len parts=some (av,st')):
  ∃v' w' π',(Instr.buildSlice t len (parts.map λ(i,x)=>(i,a.eval x))).run P w= .ok v' w'/\Bl X π' st' a w'/\Bp X w' π' st'.heap av v':=by
 unfold Iz at he
 split at he
 ·exact iF hT h dst t len parts av st' he
 ·rename_i te e hg
  obtain ⟨lv,Yg⟩:=mg hg
  split at he
  rotate_left
  ·cases he
  rename_i x Ajr
  split at he
  rotate_left
  ·cases he
  rename_i m off ln hx
  split at he
  rotate_left
  ·cases he
  rename_i fr tr e' tid xs hm
  split at he
  rotate_left
  ·cases he
  rename_i hc
  obtain ⟨rfl,hc,rfl,rfl⟩:=hc
  simp only [Af,Ni] at hc
  obtain ⟨hlen,hdp,hmp⟩:=hc
  have hlen:len=1:=Jl hlen
  subst hlen
  simp only [Aa,Ad] at he
  obtain ⟨rfl,rfl⟩:=he
  have hu:=hT.elem t te lv
  unfold St.at at hm
  have hrx:=Dv h.2 x
  rw [hx] at hrx
  obtain ⟨_,wE⟩:=On (X:=X) (w:=w) hrx hm
  obtain ⟨ax,nx,cx,hvx⟩:=bl wE
  have hp:parts= #[(0,x)]:=by apply Pd;simpa using Ajr
  subst hp
  obtain ⟨i,hi,Vs,sa,uj⟩:=(hT.ty te _ Yg).info
  have Vt:(Instr.buildSlice t 1 (#[(0,x)].map λ(i,x)=>(i,a.eval x))).run P w= .ok (.slice (some ⟨w.heap.size,0,none⟩) 1 1) (w.alloc (.cells #[a.eval x] te)):=by
   have fi:(Ty.slice e').size=1:=rfl
   have hz:(zeroValue te).run P w= .ok (.slice none 0 0) w:=by simp [zeroValue,typeInfo,hi,uj,Cf,Ty.Aq,Bw]
   have hmp:(#[(0,x)].map λ(i,x)=>(i,a.eval x))= #[(0, .slice ax nx cx)]:=by simp [hvx]
   rw [hmp,hvx]
   simp only [Instr.buildSlice,Sem.run_bind,run_underlying hu,Result.andThen_ok,(hT.ty te _ Yg).size,fi]
   simp [Value.cells,Instr.fill,newRow,hz]
   congr 2
   apply Array.ext
   ·simp
   ·intro i h1 h2
    have h0:i=0:=by simpa using h2
    subst h0
    simp
  have LI:=(h.1.heap m).Qm hm
  simp only [Cj,Jw] at LI
  have hfa:Ta w (Dc X.w0.heap.size X.Sc π false) (π m) e' xs:=by
   cases hR:π m with
   |none=>rw [hR] at LI;exact LI
   |some q=>
    rw [hR] at LI
    obtain ⟨⟨f0,f0',_⟩,cu,ti',f2,f3,f4,f5,f6,_⟩:=LI
    exact ⟨⟨f0,f0'⟩,cu,ti',f2,f3,f4,f5,λp y hy=>by
     obtain ⟨es,g1,g2,g3⟩:=f6 p y hy
     exact ⟨es,g1,g2,Cells.Ex (Ao _) (λ_ _ _=>rfl) (λb _ hA=>hA.imp id (Or.imp id λ⟨h1,_⟩=>by cases h1)) e' es y g3⟩⟩
  obtain ⟨π',g1,g2⟩:=Zw (w1:=w.alloc (.cells #[a.eval x] te)) (gv:= λ_=>False) h hdp hmp te (e:=e') (rows:= [xs]) (us:= [a.eval x]) (Rs:= [π m]) (g:=w.heap.size) (o:=0) (cap:=1)
   (λ_ hf=>hf.elim) (nf w _) ⟨.inl (Ao _),by simp⟩ (heap_alloc_new w _) rfl (by unfold maxLen;omega) (by simp) (λj u hu=>by
    rcases j with _|j
    ·simpa using hu
    ·simp at hu)
   ⟨rfl,rfl,λi j q q' h1 h2 _=>by
    rcases i with _|i
    ·rcases j with _|j
     ·rfl
     ·simp at h2
    ·simp at h1,λi y hy=>by
    rcases i with _|i
    ·simp only [Cb,Aa] at hy
     subst hy
     exact ⟨_,_,rfl,rfl,wE,hfa⟩
    ·simp at hy⟩
   (λi q h1=>by
    rcases i with _|i
    ·simp only [Cb,Aa] at h1
     have hf:=h.1.Cu h1
     have:=(h.1.place m q _ h1 (h.1.sub m q _ h1 hf)).2
     exact ⟨by omega,λh=>h,m,q, .inr rfl,h1,hf⟩
    ·simp at h1)
  exact ⟨_,_,π',Vt,g1,g2 1 rfl⟩
theorem nu (hT:Eb P T) {st:St} {a:Act} (h:Bl X π st a w) (dst:Nat) (t ty:TypeId) (x y:Operand) (av:AV) (st':St) (he:Rl T st dst t x y=some (av,st')):
  ∃v' w' π',(Builtin.append_ #[t,t] ty #[a.eval x,a.eval y]).run P w= .ok v' w'/\Bl X π' st' a w'/\Bp X w' π' st'.heap av v':=by
 unfold Rl at he
 split at he
 ·exact nt hT h dst t ty x y av st' he
 ·rename_i te e hg
  obtain ⟨lv,Yg⟩:=mg hg
  split at he
  rotate_left
  ·cases he
  rename_i l off len m Abp uH hx hy
  split at he
  rotate_left
  ·cases he
  rename_i e1 te1 A kp1 e2 xM B kp2 hl hm
  split at he
  rotate_left
  ·cases he
  rename_i hc
  obtain ⟨⟨rfl,rfl⟩,hc,⟨rfl,rfl⟩,⟨rfl,rfl⟩,hB,pA⟩:=hc
  simp only [Af,Ni,Nj,Eg] at hc
  obtain ⟨⟨rfl,rfl⟩,ur,hmp,kS⟩:=hc
  have kS:m≠l:= λe=>by rw [e,Nat.beq_refl] at kS;cases kS
  simp only [Aa,Ad] at he
  obtain ⟨rfl,rfl⟩:=he
  have hu:=hT.elem t xM lv
  obtain ⟨i,hi,Vs,sa,uj⟩:=(hT.ty xM _ Yg).info
  have Vs:i.size=1:=Vs
  unfold St.at at hl hm
  have hrx:=Dv h.2 x
  have hry:=Dv h.2 y
  rw [hx] at hrx;rw [hy] at hry
  obtain ⟨b1,s1,n1,q1,q2,_,hox⟩:=hrx
  rw [hl] at q1;cases q1
  simp only [OB.row,Aa,Ad] at q2
  obtain ⟨rfl,rfl⟩:=q2
  obtain ⟨b2,s2,n2,q1,q2,_,hoy⟩:=hry
  rw [hm] at q1;cases q1
  simp only [OB.row,Aa,Ad] at q2
  obtain ⟨rfl,rfl⟩:=q2
  have hA:=((h.1.heap l).Qm hl).1
  have hBb:=((h.1.heap m).Qm hm).1
  cases hpm:π m with
  |none=>
   rw [hpm] at hBb
   have hBb:B= []:=hBb
   subst hBb;simp at hB
  |some rB=>
  rw [hpm] at hBb hoy
  obtain ⟨fB,Axb,tiB,uB,RB,w1B,w2B,w3B,w4B,w5B,w6B,w7B,LB⟩:=yw hBb
  obtain ⟨adB,hvy,hcB,haB⟩:=hoy
  have haB:=haB (by omega)
  subst haB
  have hlB:=LB.1
  have n1':uB.length=B.length*i.size:=by rw [Vs,Ft];exact hlB
  have n2': ∀j u,uB[j]?=some u->w.cell? ((⟨rB.g,(rB.o+0)*1,none⟩:Addr).add j)=some u:= λj u hu=>by
   rw [Addr.add_lit,cellOf w1B,Ft,Ez];exact w5B j u hu
  have uf:(A.length+B.length)*i.bytes<=140737488355328:=by
   have:(A.length+B.length)*i.bytes<=4294967296*256:=dL pA sa
   omega
  have iZ:A.length+B.length<=maxLen:=by unfold Cq at pA;simp only [maxLen];omega
  have hzs:(Cf (Ty.slice e2) (Bw (Ty.slice e2))).cells.size=1:=by simp [Cf,Ty.Aq,Bw,Value.cells]
  have Wh: ∀(k:Nat) (q:Real) (Rs:List (Option Real)),π k=some q->(∀(i:Nat) (p:Real),Rs[i]?=some (some p)->q.Cu p.g/\p.g≠q.g)-> ∀(i:Nat) (p:Real),Rs[i]?=some (some p)->p.g<w.heap.size:= λk q Rs h1 h2 i p h3=>
   (h.1.place k q _ h1 (h.1.sub k q _ h1 (h2 i p h3).1)).2
  cases km:π l with
  |none=>
   rw [km] at hA hox
   have hA:A= []:=hA
   subst hA
   obtain ⟨hvx,_,_⟩:=hox
   rw [hvx,hvy]
   simp only [Gd,Bv,ik] at pA uf iZ⊢
   have hr:=run_append_nil (P:=P) w t ty xM i _ hu hi uj ⟨rB.g,(rB.o+0)*1,none⟩ B.length (rB.cap-0) uB n1' n2' hB (by simp only [maxLen] at iZ;omega) (by omega)
   have oZ:=grownCap_ge w B.length 0 xM
   have hcm:=grownCap_le_maxLen w B.length 0 xM (by omega)
   obtain ⟨π',g1,g2⟩:=Zw (w1:=w.drew.alloc (.cells (uB.toArray++Builtin.zeroCells (Cf (Ty.slice e2) (Bw (Ty.slice e2))).cells (grownCap w B.length 0 xM-B.length)) xM)) (gv:= λ_=>False) h ur hmp xM (e:=e2) (rows:=B) (us:=uB) (Rs:=RB) (g:=w.heap.size) (o:=0) (cap:=grownCap w B.length 0 xM)
    (λ_ hf=>hf.elim) (qE w _) ⟨.inl (Ao _),by simp⟩ (heap_alloc_new w.drew _) (by rw [Array.size_append,Gs,Ul,hzs];omega) hcm oZ (λj u hu=>by
     have hj:=(An.1 hu).1
     rw [Bv,Tp (by simpa using hj)];simpa using hu)
    LB (λi q h1=>⟨by have:=Wh m rB RB hpm w7B i q h1;omega,λh=>h,m,rB, .inr rfl,hpm,(w7B i q h1).1⟩)
   exact ⟨_,_,π',hr,g1,g2 _ rfl⟩
  |some rA=>
   rw [km] at hA hox
   obtain ⟨fA,UK,tiA,uA,RA,w1A,w2A,w3A,w4A,w5A,w6A,w7A,LA⟩:=yw hA
   obtain ⟨adA,hvx,hcA,haA⟩:=hox
   have hlA:=LA.1
   rw [hvx,hvy]
   have apart: ∀(i j:Nat) (q q':Real),RA[i]?=some (some q)->RB[j]?=some (some q')->q.g≠q'.g:= λi j q q' h1 h2 e=>by
    have:=h.1.apart km hpm (w7A i q h1).1 (e▸(w7B j q' h2).1)
    exact kS this.symm
   have LAB:=th.append LA LB apart
   have Ik: ∀(i:Nat) (q:Real),RB[i]?=some (some q)->q.g≠rA.g:= λi q h1 e=>kS (h.1.apart hpm km (w7B i q h1).1 (e▸fA))
   have hRs: ∀(i:Nat) (q:Real),(RA++RB)[i]?=some (some q)->q.g≠rA.g/\q.g<w.heap.size/\ ∃k p,(k=l\/k=m)/\π k=some p/\p.Cu q.g:= λi q h1=>by
    by_cases hi:i<RA.length
    ·rw [As hi] at h1
     exact ⟨(w7A i q h1).2,Wh l rA RA km w7A i q h1,l,rA, .inl rfl,km,(w7A i q h1).1⟩
    ·rw [Ar (by omega)] at h1
     exact ⟨Ik _ q h1,Wh m rB RB hpm w7B _ q h1,m,rB, .inr rfl,hpm,(w7B _ q h1).1⟩
   by_cases qU:A.length+B.length<=rA.cap-0
   ·have haA:=haA (by omega)
    subst haA
    have Ye:(rA.o+0)*1+A.length*i.size+uB.length<=UK.size:=by rw [Vs];omega
    have Zy:(rA.o+0)*1+A.length*i.size+uB.length<=UK.toList.length:=by simpa using Ye
    have hr:=aR (P:=P) (w:=w) (ty:=ty) hu hi rA.g ((rA.o+0)*1) A.length (rA.cap-0) UK tiA w1A ⟨rB.g,(rB.o+0)*1,none⟩ B.length (rB.cap-0) uB n1' n2' w6B qU Ye
    have uh:=Nr w rA.g (Dw UK.toList ((rA.o+0)*1+A.length*i.size) uB).toArray
    obtain ⟨π',g1,g2⟩:=Zw (w1:=w.setRow rA.g (Dw UK.toList ((rA.o+0)*1+A.length*i.size) uB).toArray) (gv:= λb=>b=rA.g) h ur hmp xM (e:=e2) (rows:=A++B) (us:=uA++uB) (Rs:=RA++RB) (g:=rA.g) (o:=rA.o) (cap:=rA.cap)
     (λb hb=>⟨l,rA, .inl rfl,km,hb▸fA⟩) ⟨uh.os,uh.tape,uh.output,uh.size,λc _ hc=>setRow_other w rA.g c _ hc⟩ ⟨.inr ⟨l,rA, .inl rfl,km,fA⟩,Di (Fk w1A) uh.size⟩
     (setRow_heap w rA.g UK _ tiA _ w1A) (by rw [Gs,Iv _ _ _ Zy,Xp];exact w2A) w3A (by simp;omega) (λj u hu=>by
      rw [Ic,Ib _ _ _ _ Zy,Vs]
      by_cases hj:j<uA.length
      ·rw [As hj] at hu
       rw [Ab (by omega),Array.getElem?_toList]
       exact w5A j u hu
      ·rw [Ar (by omega)] at hu
       have:=(An.1 hu).1
       rw [Ag (by omega),Ab (by omega)]
       rw [show rA.o+j-((rA.o+0)*1+A.length*1)=j-uA.length by omega]
       exact hu)
     LAB (λi q h1=>⟨(hRs i q h1).1,(hRs i q h1).1,(hRs i q h1).2.2⟩)
    have:=g2 (A.length+B.length) (by simp)
    have e0:(rA.o+0)*1=rA.o:=by omega
    simp only [e0,Nat.sub_zero] at hr g1 this⊢
    exact ⟨_,_,π',hr,g1,this⟩
   ·have hold: ∀j u,uA[j]?=some u->w.cell? (adA.add j)=some u:=by
     intro j u hu
     have hj:=(An.1 hu).1
     rw [haA (by omega),Addr.add_lit,cellOf w1A,Ft,Ez];exact w5A j u hu
    have hr:=run_append_grow (P:=P) w t ty xM i _ hu hi uj adA A.length (rA.cap-0) uA (by rw [Vs,Ft];exact hlA) hold ⟨rB.g,(rB.o+0)*1,none⟩ B.length (rB.cap-0) uB n1' n2' (by omega) (by simp only [maxLen] at iZ;omega) (growslice_fits (by omega) uf)
    have oZ:=grownCap_ge w (A.length+B.length) (rA.cap-0) xM
    have hcm:=grownCap_le_maxLen w (A.length+B.length) (rA.cap-0) xM iZ
    obtain ⟨π',g1,g2⟩:=Zw (w1:=w.drew.alloc (.cells (uA.toArray++uB.toArray++Builtin.zeroCells (Cf (Ty.slice e2) (Bw (Ty.slice e2))).cells (grownCap w (A.length+B.length) (rA.cap-0) xM-(A.length+B.length))) xM)) (gv:= λ_=>False) h ur hmp xM (e:=e2) (rows:=A++B) (us:=uA++uB) (Rs:=RA++RB) (g:=w.heap.size) (o:=0) (cap:=grownCap w (A.length+B.length) (rA.cap-0) xM)
     (λ_ hf=>hf.elim) (qE w _) ⟨.inl (Ao _),by simp⟩ (heap_alloc_new w.drew _) (by rw [Array.size_append,Array.size_append,Gs,Gs,Ul,hzs];omega) hcm (by simpa using oZ) (λj u hu=>by
      have hj:=(An.1 hu).1
      rw [Bv,Tp (by simpa using hj)];simpa using hu)
     LAB (λi q h1=>⟨by have:=(hRs i q h1).2.1;omega,λh=>h,(hRs i q h1).2.2⟩)
    exact ⟨_,_,π',hr,g1,g2 _ (by simp)⟩
theorem lW: ∀τ:Ty,Fv X w π H (zeroCells τ) (Bw τ):=by
 have one: ∀(c:AC) (v:Value),v.oneCell'=true->Hm X w π H c v->Fv X w π H [c] [v]:= λc v h1 h2=>⟨rfl,λi c' hc=>by
  rcases i with _|i
  ·simp at hc;subst hc;exact ⟨v,rfl,h1,h2⟩
  ·simp at hc⟩
 intro τ
 induction τ with
 |unit=>exact ⟨rfl,λi c hc=>by simp [zeroCells] at hc⟩
 |pair a r hZ gW=>
  refine ⟨by simp [zeroCells,Bw,hZ.1,gW.1],λi c hc=>?_⟩
  simp only [zeroCells] at hc
  simp only [Bw]
  by_cases hi:i<(zeroCells a).length
  ·rw [As hi] at hc
   obtain ⟨u,hu,h⟩:=hZ.2 i c hc
   exact ⟨u,by rw [As (by rw [hZ.1];exact hi)];exact hu,h⟩
  ·rw [Ar (by omega)] at hc
   obtain ⟨u,hu,h⟩:=gW.2 _ c hc
   exact ⟨u,by rw [Ar (by rw [hZ.1];omega),hZ.1];exact hu,h⟩
 |int k=>exact one (.data true _ _) _ rfl (Nd (H:=H) k 0 true)
 |bool=>exact one (.data true _ _) _ rfl (Lq (H:=H) false true)
 |str=>exact one (.data true _ _) _ rfl (mC (H:=H) ByteArray.empty true)
 |slice e=>exact one _ _ rfl rfl
 |oslice e=>exact one _ _ rfl rfl
 |ptr e=>exact one _ _ rfl rfl
 |optr e=>exact one _ _ rfl rfl
 |smap v=>exact one (.data true _ _) _ rfl ⟨[.map none], .inl ⟨rfl,rfl⟩,by simp [Cf,Ty.Aq]⟩
 |clo f c=>exact one .undef .nilFunc rfl trivial
theorem wB: ∀τ:Ty,Fv X w π H (Qf τ) (Bw τ):=by
 have one: ∀(c:AC) (v:Value),v.oneCell'=true->Hm X w π H c v->Fv X w π H [c] [v]:= λc v h1 h2=>⟨rfl,λi c' hc=>by
  rcases i with _|i
  ·simp at hc;subst hc;exact ⟨v,rfl,h1,h2⟩
  ·simp at hc⟩
 intro τ
 induction τ with
 |unit=>exact ⟨rfl,λi c hc=>by simp [Qf] at hc⟩
 |pair a r hZ gW=>
  refine ⟨by simp [Qf,Bw,hZ.1,gW.1],λi c hc=>?_⟩
  simp only [Qf] at hc
  simp only [Bw]
  by_cases hi:i<(Qf a).length
  ·rw [As hi] at hc
   obtain ⟨u,hu,h⟩:=hZ.2 i c hc
   exact ⟨u,by rw [As (by rw [hZ.1];exact hi)];exact hu,h⟩
  ·rw [Ar (by omega)] at hc
   obtain ⟨u,hu,h⟩:=gW.2 _ c hc
   exact ⟨u,by rw [Ar (by rw [hZ.1];omega),hZ.1];exact hu,h⟩
 |int k=>exact one (.data false _ _) _ rfl (Nd (H:=H) k 0 false)
 |bool=>exact one (.data false _ _) _ rfl (Lq (H:=H) false false)
 |str=>exact one (.data false _ _) _ rfl (mC (H:=H) ByteArray.empty false)
 |slice e=>exact one (.data false _ _) _ rfl ⟨[.slice none 0 0],⟨none,0,0,rfl,rfl,Ao _, .inl rfl⟩,by simp [Cf,Ty.Aq]⟩
 |oslice e=>exact one _ _ rfl rfl
 |ptr e=>exact one _ _ rfl rfl
 |optr e=>exact one _ _ rfl rfl
 |smap v=>exact one (.data false _ _) _ rfl ⟨[.map none], .inl ⟨rfl,rfl⟩,by simp [Cf,Ty.Aq]⟩
 |clo f c=>exact one .undef .nilFunc rfl trivial
theorem dP (hT:Eb P T) {st:St} {a:Act} (h:Bl X π st a w) (t:TypeId) (Ls:Array (Nat×Nat))
  (km: ∀f o u ρ,T.off t f=some (o,u)->T.ty u=some ρ->Ls[f]?=some (o,ρ.size)): ∀(parts:List (Nat×Operand)) (cs iD:List AC) (us:List Value),Fv X w π st.heap cs us->
  Mh T st t parts cs=some iD-> ∃Sf:List Value,Instr.fill (λi=>Ls[i]?) us.toArray (parts.map λp=>(p.1,a.eval p.2))=some Sf.toArray/\Fv X w π st.heap iD Sf
 | [],cs,iD,us,hr,he=>by
  simp only [Mh,Aa] at he;subst he
  exact ⟨us,rfl,hr⟩
 |(f,x)::r,cs,iD,us,hr,he=>by
  simp only [Mh] at he
  split at he
  ·rename_i o u ho
   split at he
   ·rename_i ρ hρ
    split at he
    ·rename_i c hc
     split at he
     ·rename_i hle
      obtain ⟨vs,hv,hl,hr2⟩:=iv (Dv h.2 x) hc
      have e1:=hr.1
      have e2:=hr2.1
      obtain ⟨Sf,g1,g2⟩:=dP hT h t Ls km r _ iD _ (wa hr hr2 o hle) he
      refine ⟨Sf,?_,g2⟩
      simp only [Cc]
      rw [yq _ us f (a.eval x) _ o ρ.size vs (km f o u ρ ho hρ) hv hl (by omega)]
      exact g1
     ·cases he
    ·cases he
   ·cases he
  ·cases he
theorem gu (hT:Eb P T) {st:St} {a:Act} (h:Bl X π st a w) (t:TypeId) (parts:Array (Nat×Operand)) (av:AV) (he:Xy T st t parts=some av):
  ∃v',(Instr.build t (parts.map λ(i,x)=>(i,a.eval x))).run P w= .ok v' w/\Bp X w π st.heap av v':=by
 unfold Xy at he
 split at he
 ·cases he
 ·rename_i τ Yg
  split at he
  ·rename_i hs
   cases hb:Mh T st t parts.toList (zeroCells τ) with
   |none=>rw [hb] at he;cases he
   |some iD=>
    rw [hb] at he
    simp only [Am,Aa] at he;subst he
    obtain ⟨fs,Ls,h1,h2,h3⟩:=hT.fill t τ Yg hs
    obtain ⟨i,hi,Vs,sa,uj⟩:=(hT.ty t τ Yg).info
    obtain ⟨Sf,g1,g2⟩:=dP hT h t Ls h3 parts.toList (zeroCells τ) iD (Bw τ) (lW τ) hb
    refine ⟨.agg Sf.toArray,?_,Sf,rfl,g2⟩
    have hz:(zeroValue t).run P w= .ok (Cf τ (Bw τ)) w:=by simp [zeroValue,typeInfo,hi,uj]
    have hzc:(Cf τ (Bw τ)).cells=(Bw τ).toArray:=by simp [Cf,hs,Value.cells]
    have h2':=h2 w
    unfold placesOf at h2'
    have e1:(parts.map λ(i,x)=>(i,a.eval x)).toList=parts.toList.map λp=>(p.1,a.eval p.2):=by simp
    simp only [Instr.build,Sem.run_bind,hz,Result.andThen_ok,run_underlying h1,h2',hzc,e1,g1,Sem.run_pure]
  ·cases he
theorem vF {st:St} {v:AV} (h:v.settled=true):settle st v=some (v,st):=by
 cases v with
 | «at»a=>cases a<;>simp [AV.settled,AC.settled] at h<;>simp [settle,AC.settled]
 |agg cs=>
  have hs:cs.all (·.settled)=true:=h
  have:Ho cs.length st cs=some (cs,st):=by
   cases hn:cs.length with
   |zero=>simp [Ho,hs]
   |succ n=>
    have hf:cs.find? (λc=>!c.settled)=none:=List.find?_eq_none.2 λc hc=>by simpa using Bd.1 hs c hc
    simp [Ho,hf]
  simp [settle,this]
 |bL fr τ x=>rfl
 |Ms l=>simp [AV.settled] at h
theorem o7 {e:Ty} {st:St} : ∀(parts:List (Nat×Operand)) (i:Nat) (fr:Bool) (ys:List e.den),fE e i parts st=some (fr,ys)-> ∃tr,Lb e i parts st=some (fr,tr,ys,st)
 | [],i,fr,ys,h=>by
  simp only [fE,Aa,Ad] at h
  obtain ⟨rfl,rfl⟩:=h
  exact ⟨true,rfl⟩
 |(j,x)::r,i,fr,ys,h=>by
  simp only [fE] at h
  split at h
  ·rename_i hc
   split at h
   ·rename_i f1 y f2 zs h1 h2
    simp only [Aa,Ad] at h
    obtain ⟨rfl,rfl⟩:=h
    obtain ⟨tr,h3⟩:=o7 r (i+1) f2 zs h2
    refine ⟨Tn st (st.ev x)&&e.tree&&tr,?_⟩
    simp only [Lb]
    rw [Ab hc.1,vF hc.2]
    simp only [h1,h3]
   ·cases h
  ·cases h
theorem pn (hT:Eb P T) {st:St} {a:Act} (h:Bl X π st a w) (t:TypeId) (len:Nat) (parts:Array (Nat×Operand)) (av:AV) (he:bU T st t len parts=some av):
  ∃v' w' π',(Instr.buildSlice t len (parts.map λ(i,x)=>(i,a.eval x))).run P w= .ok v' w'/\Bl X π' st a w'/\Bp X w' π' st.heap av v':=by
 unfold bU at he
 split at he
 ·cases he
 ·rename_i te lv
  split at he
  ·cases he
  ·rename_i e Yg
   split at he
   ·rename_i Jn
    obtain ⟨km,hlen⟩:=Jn
    cases hp:fE e 0 parts.toList st with
    |none=>rw [hp] at he;cases he
    |some p=>
     obtain ⟨fr,ys⟩:=p
     rw [hp] at he
     simp only [Am,Aa] at he
     subst he
     obtain ⟨tr,hb⟩:=o7 _ _ _ _ hp
     obtain ⟨i,hi,Vs,sa,uj⟩:=(hT.ty te e Yg).info
     have hu:=hT.elem t te lv
     have UU:parts.toList.length=len:=by simpa using km
     have hz: ∃z:Array Value,(len*e.size=0/\z= #[])\/(¬len*e.size=0/\(zeroValue te).run P w= .ok (Cf e (Bw e)) w/\z=(Cf e (Bw e)).cells):=by
      by_cases h0:len*e.size=0
      ·exact ⟨#[], .inl ⟨h0,rfl⟩⟩
      ·exact ⟨_, .inr ⟨h0,by simp [zeroValue,typeInfo,hi,uj],rfl⟩⟩
     obtain ⟨z,hz⟩:=hz
     obtain ⟨cz,cl,g1,g2,g3,g4,g5,g6⟩:=Xt e parts.toList 0 st π fr tr ys st ((Array.range (len*e.size)).map (z[· %z.size]!)).toList h hb (by simp [UU])
     have Pe:cl.length=len*e.size:=by rw [g2.1,g3,UU]
     have YU:(Dw ((Array.range (len*e.size)).map (z[· %z.size]!)).toList (0*e.size) cl)=cl:=by
      simp [Dw,Pe]
     rw [YU] at g5
     have Vt:(Instr.buildSlice t len (parts.map λ(i,x)=>(i,a.eval x))).run P w= .ok (.slice (some ⟨w.heap.size,0,none⟩) len len) (w.alloc (.cells cl.toArray te)):=by
      have h24: ¬(len*e.size>2^24):=by
       have:len*e.size<=64*64:=dL hlen.1 hlen.2
       omega
      simp only [Instr.buildSlice,Sem.run_bind,run_underlying hu,Result.andThen_ok,(hT.ty te e Yg).size,Ag h24]
      have e1:(parts.map λ(i,x)=>(i,a.eval x)).toList=parts.toList.map λp=>(p.1,a.eval p.2):=by simp
      simp only [e1]
      have e2:(((Array.range (len*e.size)).map (z[· %z.size]!)).toList.toArray)=(Array.range (len*e.size)).map (z[· %z.size]!):=Array.toArray_toList
      rw [e2] at g5
      rcases hz with ⟨h0,rfl⟩|⟨h0,hz,rfl⟩
      ·rw [Ab h0]
       simp only [Sem.run_bind,Sem.run_pure,Result.andThen_ok,g5,newRow]
       simp
      ·rw [Ag h0]
       simp only [Sem.run_bind,Sem.run_pure,Result.andThen_ok,hz,g5,newRow]
       simp
     have MW:(w.alloc (.cells cl.toArray te)).heap[w.heap.size]?=some (.cells cl.toArray te (0,0)):=heap_alloc_new w _
     have hB:Below w.heap.size w (w.alloc (.cells cl.toArray te)):=(Below.refl _ _).alloc (Ao _) _
     have It:=Fk MW
     refine ⟨_,_,cz,Vt,g1.quiet hB,⟨[_],?_,rfl⟩⟩
     refine ⟨some ⟨w.heap.size,0,none⟩,len,len,rfl,by rw [g3,UU],Ao _, .inr ⟨w.heap.size,0,rfl,It,λhA=>?_,λk x hx=>?_⟩⟩
     ·rcases hA with hA|hA|⟨_,hA⟩
      ·exact absurd (g1.1.own hA).1 (Nat.lt_irrefl _)
      ·exact absurd (Di (g1.1.sc _ hA).1 g1.1.below.size) (Nat.lt_irrefl _)
      ·exact absurd (Di hA g1.1.below.size) (Nat.lt_irrefl _)
     ·obtain ⟨es,k1,k2,k3⟩:=g2.2 k x hx
      refine ⟨es,k1,λj u hu=>?_,Cells.Ex hB.size (λb hb _=>hB.block b hb) (λ_ _ h=>h) e es x k3⟩
      rw [cellOf MW,Bv]
      simpa using k2 j u hu
   ·cases he
theorem FM {Γ:Env} (hT:Eb P T) (Pl:Kj P Γ) {st:St} {a:Act} (h:Bl X π st a w) (o:Oper) (av:AV) (he:Xl T Γ st o=some av):
  ie P X st a w av ((execOp a.eval o).run P w):=by
 obtain ⟨dst,op,ty,pos,af,gd⟩:=o
 have val: ∀(s:Sem Value) (v:Value) (w':World) (π':Pi),s.run P w= .ok v w'->Bl X π' st a w'->Bp X w' π' st.heap av v->(execOp a.eval ⟨dst,op,ty,pos,af,gd⟩=do pure (.value (<-s)))->
   ie P X st a w av ((execOp a.eval ⟨dst,op,ty,pos,af,gd⟩).run P w):=by
  intro s v w' π' h1 h2 h3 h4
  rw [h4,Sem.run_bind,h1]
  exact ⟨π',h2,h3⟩
 have quiet:Fa T Γ st ⟨dst,op,ty,pos,af,gd⟩=some av->ie P X st a w av ((execOp a.eval ⟨dst,op,ty,pos,af,gd⟩).run P w):=by
  intro hq
  have:=iH hT Pl h _ av hq
  generalize (execOp a.eval ⟨dst,op,ty,pos,af,gd⟩).run P w=r at*
  cases r with
  |halt x w'=>exact this
  |ok n w'=>
   cases n<;>simp only [RM] at this<;>simp only [ie]
   ·obtain ⟨rfl,hr⟩:=this
    exact ⟨π,h,hr⟩
   ·obtain ⟨rfl,hc⟩:=this
    exact ⟨rfl,hc.mono λe rS ⟨v,hv,hb,hr⟩=>⟨v,hv,π,h.quiet hb,hr⟩⟩
 unfold Xl at he
 split at he
 ·rename_i t len parts sQ
  dsimp only at sQ;subst sQ
  obtain ⟨v,w',π',h1,h2,h3⟩:=pn hT h t len parts av he
  exact val _ v w' π' h1 h2 h3 rfl
 ·rename_i t parts sQ
  dsimp only at sQ;subst sQ
  obtain ⟨v',h1,h2⟩:=gu hT h t parts av he
  exact val _ v' w π h1 h h2 rfl
 ·exact quiet he
theorem lI {a:Act} : ∀(l:List Operand) {π:Pi} {st st1:St},Bl X π st a w->Pa l st=some st1-> ∃π',Bl X π' st1 a w
 | [],π,st,st1,h,he=>by
  simp only [Pa,Aa] at he
  subst he
  exact ⟨π,h⟩
 |x::r,π,st,st1,h,he=>by
  simp only [Pa] at he
  cases hs:settle st (st.ev x) with
  |none=>rw [hs] at he;cases he
  |some p=>
   rw [hs] at he
   obtain ⟨cz,h1,_⟩:=cn h (Dv h.2 x) hs
   exact lI r h1 he
theorem zT {Γ:Env} (hT:Eb P T) (Pl:Kj P Γ) {st:St} {a:Act} (h:Bl X π st a w) (o:Oper) (av:AV) (st':St) (he:evalOp T Γ st o=some (av,st')):
  ie P X st' a w av ((execOp a.eval o).run P w):=by
 have quiet: ∀ {π:Pi} {st:St},Bl X π st a w->(Fa T Γ st o).map (λv=>(v,st))=some (av,st')->ie P X st' a w av ((execOp a.eval o).run P w):=by
  intro π st h he
  cases hq:Fa T Γ st o with
  |none=>rw [hq] at he;cases he
  |some v=>
   rw [hq] at he
   simp only [Am,Aa,Ad] at he
   obtain ⟨rfl,rfl⟩:=he
   have:=iH hT Pl h o v hq
   generalize (execOp a.eval o).run P w=r at*
   cases r with
   |halt x w'=>exact this
   |ok n w'=>
    cases n<;>simp only [RM] at this<;>simp only [ie]
    ·obtain ⟨rfl,hr⟩:=this
     exact ⟨π,h,hr⟩
    ·obtain ⟨rfl,hc⟩:=this
     exact ⟨rfl,hc.mono λe rS ⟨v,hv,hb,hr⟩=>⟨v,hv,π,h.quiet hb,hr⟩⟩
 obtain ⟨dst,op,ty,pos,af,gd⟩:=o
 have val: ∀(s:Sem Value) (v:Value) (w':World) (π':Pi),s.run P w= .ok v w'->Bl X π' st' a w'->Bp X w' π' st'.heap av v->(execOp a.eval ⟨dst,op,ty,pos,af,gd⟩=do pure (.value (<-s)))->
   ie P X st' a w av ((execOp a.eval ⟨dst,op,ty,pos,af,gd⟩).run P w):=by
  intro s v w' π' h1 h2 h3 h4
  rw [h4,Sem.run_bind,h1]
  exact ⟨π',h2,h3⟩
 unfold evalOp at he
 split at he
 all_goals (rename_i sQ;dsimp only at sQ;try subst sQ)
 ·
  rename_i x
  split at he
  ·rename_i d te e hx hd ht
   split at he
   ·rename_i hdp
    simp only [Aa,Ad] at he
    obtain ⟨rfl,rfl⟩:=he
    obtain ⟨k1,k2,_⟩:=uN h d hdp (T.u9||e.flat) T.DK te e
    have hxr:=Dv h.2 x
    rw [hx] at hxr
    have hxv:a.eval x= .slice none 0 0:=hxr
    show ie P X _ a w _ (.ok (.value (a.eval x)) w)
    rw [hxv]
    exact ⟨_,k1,k2⟩
   ·cases he
  ·simp only [Aa,Ad] at he
   obtain ⟨rfl,rfl⟩:=he
   exact ⟨π,h,Dv h.2 x⟩
 ·
  rename_i t
  split at he
  ·rename_i d τ hd ht
   obtain ⟨i,hi,Vs,sa,uj⟩:=(hT.ty t τ ht).info
   have hk: ∃π',Bl X π' st' a (w.alloc (.cells (Bw τ).toArray t))/\Bp X (w.alloc (.cells (Bw τ).toArray t)) π' st'.heap av (.pointer (some ⟨w.heap.size,0,none⟩)):=by
    split at he
    ·exact BG h d t (Qf τ) (Bw τ) (wB τ) av st' he
    ·exact ri h d t τ (zeroCells τ) (Bw τ) (lW τ) av st' he
   obtain ⟨π',k1,k2⟩:=hk
   have hzc:(Cf τ (Bw τ)).cells=(Bw τ).toArray:=by
    cases τ<;>simp [Cf,Ty.Aq,Value.cells,Bw]
   refine val (Instr.alloc t true (.tuple #[])) _ _ π' ?_ k1 k2 rfl
   simp [Instr.alloc,zeroValue,typeInfo,hi,uj,newVar,newRow,hzc]
  ·cases he
 ·
  rename_i t x
  split at he
  ·rename_i d τ hd ht
   split at he
   ·rename_i cs hc
    obtain ⟨us,hv,hl,hr⟩:=iv (Dv h.2 x) hc
    have hk: ∃π',Bl X π' st' a (w.alloc (.cells us.toArray t))/\Bp X (w.alloc (.cells us.toArray t)) π' st'.heap av (.pointer (some ⟨w.heap.size,0,none⟩)):=by
     split at he
     ·split at he
      ·rename_i Ts
       cases hvc:Ew st τ cs with
       |none=>rw [hvc] at he;cases he
       |some p=>
        obtain ⟨fr,y⟩:=p
        rw [hvc] at he
        simp only [Am,Aa,Ad] at he
        obtain ⟨rfl,rfl⟩:=he
        have Pe:=Xb τ cs us fr y Ts hr hvc
        have hB:Below w.heap.size w (w.alloc (.cells us.toArray t)):=(Below.refl _ _).alloc (Ao _) _
        have MW:(w.alloc (.cells us.toArray t)).heap[w.heap.size]?=some (.cells us.toArray t (0,0)):=heap_alloc_new w _
        refine ⟨π,h.quiet hB,[_], .inr ⟨y,w.heap.size,0,rfl,rfl,Fk MW,λhA=>?_,us,hl,λj u hu=>?_,Cells.Ex hB.size (λb hb _=>hB.block b hb) (λb _ hA=>?_) τ us y Pe⟩,by simp [Cf,Ty.Aq]⟩
        ·rcases hA with hA|hA|⟨hf,_⟩
         ·exact absurd (h.1.own hA).1 (Nat.lt_irrefl _)
         ·exact absurd (Di (h.1.sc _ hA).1 h.1.below.size) (Nat.lt_irrefl _)
         ·cases hf
        ·rw [cellOf MW,Bv];simpa using hu
        ·exact hA.imp id (Or.imp id λ⟨h1,_⟩=>by cases h1)
      ·cases he
     ·exact ri h d t τ cs us hr av st' he
    obtain ⟨π',k1,k2⟩:=hk
    refine val (Instr.box t (a.eval x)) _ _ π' ?_ k1 k2 rfl
    simp [Instr.box,newVar,newRow,hv]
   ·cases he
  ·cases he
 ·
  rename_i t p x
  cases hs:Py T st t (st.ev p) (st.ev x) with
  |none=>rw [hs] at he;cases he
  |some s=>
   rw [hs] at he
   simp only [Am,Aa,Ad] at he
   obtain ⟨rfl,rfl⟩:=he
   obtain ⟨w',π',h1,h2⟩:=pv hT h t _ _ _ _ (Dv h.2 p) (Dv h.2 x) s hs
   have:(execOp a.eval ⟨dst, .store t p x,ty,pos,af,gd⟩).run P w= .ok .skip w':=by
    show (do Instr.storeAt t (a.eval p) (a.eval x);pure Next.skip:Sem Next).run P w=_
    rw [Sem.run_bind,h1];rfl
   rw [this]
   exact ⟨π',h2,trivial⟩
 ·
  rename_i t l c
  split at he
  ·rename_i d hd
   obtain ⟨v,w',π',h1,h2,h3⟩:=rY hT h d t _ _ _ _ (Dv h.2 l) (Dv h.2 c) av st' he
   exact val _ v w' π' h1 h2 h3 rfl
  ·cases he
 ·
  rename_i t
  split at he
  ·rename_i d hd
   obtain ⟨v,w',π',h1,h2,h3⟩:=ny hT h d t av st' he
   exact val _ v w' π' h1 h2 h3 rfl
  ·cases he
 ·
  rename_i t m k x
  cases hs:Jc T st t (st.ev m) (st.ev k) (st.ev x) with
  |none=>rw [hs] at he;cases he
  |some s=>
   rw [hs] at he
   simp only [Am,Aa,Ad] at he
   obtain ⟨rfl,rfl⟩:=he
   obtain ⟨w',h1,h2⟩:=dV hT h t _ _ _ _ _ _ (Dv h.2 m) (Dv h.2 k) (Dv h.2 x) s hs
   have:(execOp a.eval ⟨dst, .mapUpdate t m k x,ty,pos,af,gd⟩).run P w= .ok .skip w':=by
    show (do Instr.mapUpdate t (a.eval m) (a.eval k) (a.eval x);pure Next.skip:Sem Next).run P w=_
    rw [Sem.run_bind,h1];rfl
   rw [this]
   exact ⟨π,h2,trivial⟩
 ·
  rename_i t m k x
  cases hs:Jc T st t (st.ev m) (st.ev k) (st.ev x) with
  |none=>rw [hs] at he;cases he
  |some s=>
   rw [hs] at he
   simp only [Am,Aa,Ad] at he
   obtain ⟨rfl,rfl⟩:=he
   obtain ⟨w',h1,h2⟩:=dV hT h t _ _ _ _ _ _ (Dv h.2 m) (Dv h.2 k) (Dv h.2 x) s hs
   have:(execOp a.eval ⟨dst, .insert t m k x,ty,pos,af,gd⟩).run P w= .ok .skip w':=by
    show (do Instr.mapUpdate t (a.eval m) (a.eval k) (a.eval x);pure Next.skip:Sem Next).run P w=_
    rw [Sem.run_bind,h1];rfl
   rw [this]
   exact ⟨π,h2,trivial⟩
 ·
  rename_i t len parts
  split at he
  ·rename_i d hd
   obtain ⟨v,w',π',h1,h2,h3⟩:=gR hT h d t len parts av st' he
   exact val _ v w' π' h1 h2 h3 rfl
  ·cases he
 ·
  rename_i t parts
  cases hb:Xy T st t parts with
  |none=>rw [hb] at he;cases he
  |some v=>
   rw [hb] at he
   simp only [Am,Aa,Ad] at he
   obtain ⟨rfl,rfl⟩:=he
   obtain ⟨v',h1,h2⟩:=gu hT h t parts v hb
   exact val _ v' w π h1 h h2 rfl
 ·
  rename_i args ts
  split at he
  ·rename_i d x y t t' hd Rb uv
   split at he
   ·rename_i Vx;subst Vx
    have e1:args= #[x,y]:=by apply Pd;simpa using Rb
    have e2:ts= #[t,t]:=by apply Pd;simpa using uv
    subst e1;subst e2
    obtain ⟨v,w',π',h1,h2,h3⟩:=nu hT h d t ty x y av st' he
    refine val (Builtin.append_ #[t,t] ty #[a.eval x,a.eval y]) v w' π' h1 h2 h3 ?_
    simp [execOp,resolve,invoke,builtin]
   ·cases he
  ·cases he
 ·
  rename_i args ts
  split at he
  ·rename_i x y t t' Rb uv
   have e1:args= #[x,y]:=by apply Pd;simpa using Rb
   have e2:ts= #[t,t']:=by apply Pd;simpa using uv
   subst e1;subst e2
   obtain ⟨v,w',h1,h2,h3⟩:=tT hT h t t' ty _ _ _ _ (Dv h.2 x) (Dv h.2 y) av st' he
   refine val (Builtin.copy_ #[t,t'] ty #[a.eval x,a.eval y]) v w' π h1 h2 h3 ?_
   simp [execOp,resolve,invoke,builtin]
  ·cases he
 ·
  rename_i args ts
  split at he
  ·rename_i x t Rb uv
   have e1:args= #[x]:=by apply Pd;simpa using Rb
   have e2:ts= #[t]:=by apply Pd;simpa using uv
   subst e1;subst e2
   cases hs:evalClear T st t (st.ev x) with
   |none=>rw [hs] at he;cases he
   |some s=>
    rw [hs] at he
    simp only [Am,Aa,Ad] at he
    obtain ⟨rfl,rfl⟩:=he
    obtain ⟨v,w',h1,h2⟩:=rX hT h t ty _ _ (Dv h.2 x) s hs
    refine val (Builtin.clear_ #[t] ty #[a.eval x]) v w' π h1 h2 trivial ?_
    simp [execOp,resolve,invoke,builtin]
  ·cases he
 ·
  rename_i f args ts
  split at he
  ·rename_i s Aow
   have hs:Ca P f s:=Pl f _ Aow
   have:=rW h hs dst (args.toList.map st.ev) (args.toList.map a.eval) (by simp) (λi c v=>jr h args.toList i c v) av st' he
   rw [ju a.eval f args ts dst ty pos af gd rfl hs.enter]
   refine ⟨rfl,?_⟩
   rwa [show (args.toList.map a.eval).toArray=args.map a.eval from by apply Pd;simp] at this
  ·rename_i s Aow
   split at he
   ·cases hs:Pa args.toList st with
    |none=>rw [hs] at he;cases he
    |some st1=>
     rw [hs] at he
     obtain ⟨cz,h1⟩:=lI args.toList h hs
     exact quiet h1 he
   ·exact quiet h he
  ·exact quiet h he
 ·exact quiet h he
end
end Go.Proofs.YtfolipnappekaaaGreat
