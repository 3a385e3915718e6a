/-
  Part 23 of the proof that the statement FnCommutatorMacros holds.
-/
import Derived.Test.YtfgfigkbgecfnaaCFCommutatorMacros21
namespace Go.Proofs.Ytfgfigkbgecfnaa
open Go.RowKit
section
variable {P:Program} {T:Tab} {X:Ctx} {w w':World} {π:Pi} {H:List (Nat×OB)}
theorem qf {π':Pi} {st':St} {a:Act} (h:Ax X π' st' a w) (k:Ic π π' H st'.heap) {fr:Bool} (τ:Ty) (cs:List Value) (x:τ.den) (hc:Cells w (Cb X.w0.heap.size X.Sc π fr) τ cs x):
  Cells w (Cb X.w0.heap.size X.Sc π' fr) τ cs x:=
 Cells.Ep (Ao _) (λ_ _ _=>rfl) (λb _ hA=>by
  rcases hA with ⟨l,r,hl,hg⟩|h2
  ·have hh:=h.1.heap l
   cases hb:Ap st'.heap l with
   |none=>have:=hh.emp hb;rw [this] at hl;cases hl
   |some b'=>have:=(k l b' hb).1;rw [this] at hl;exact .inl ⟨l,r,hl,hg⟩
  ·exact .inr h2) τ cs x hc
theorem cF.drop {F:List Nat} {l:Nat} (h:cF X w π F):cF X w (Ry π l none) F:=
 ⟨h.1,λb hb=>⟨(h.2 b hb).1,(h.2 b hb).2.1,λm r hm=>by
  by_cases e:m=l
  ·subst e;rw [Eo] at hm;cases hm
  ·rw [Ek π none e] at hm;exact (h.2 b hb).2.2 m r hm⟩⟩
theorem mF {st:St} {a:Act} (h:Ax X π st a w) (l:Nat) (hl:l<Az) (f0 t0:Bool) (te:TypeId) (e:Ty):
  Ax X (Ry π l none) (st.new l (.arr f0 t0 e te [])) a w/\Ba X w (Ry π l none) (st.new l (.arr f0 t0 e te [])).heap (.at (.own l 0 0)) (.slice none 0 0)/\
   ∀fr τ cs x,Cells w (Cb X.w0.heap.size X.Sc π fr) τ cs x->Cells w (Cb X.w0.heap.size X.Sc (Ry π l none) fr) τ cs x:=
 ⟨h.replace l hl none _ (Mi w _) (λr hr=>by cases hr) (λ_=>rfl),
  tV (St.Ew st l _) (Ao _) (by rw [Eo];exact ⟨rfl,rfl,rfl⟩),
  fun fr τ cs x hc=>Cells.Ep (Ao _) (λ_ _ _=>rfl) (λb _ hA=>by
  rcases hA with ⟨m,r,hm,hg⟩|h2
  ·by_cases e:m=l
   ·subst e;rw [Eo] at hm;cases hm
   ·rw [Ek π none e] at hm;exact .inl ⟨m,r,hm,hg⟩
  ·exact .inr h2) τ cs x hc⟩
theorem Sm (hT:De P T) {st:St} {a:Act} (h:Ax X π st a w) (dst:Nat) (t ty:TypeId) (x y:Operand) (av:AV) (st':St) (he:Lb T st dst t x y=some (av,st')):
  ∃v' w' π',(Builtin.append_ #[t,t] ty #[a.eval x,a.eval y]).run P w= .ok v' w'/\Ax X π' st' a w'/\Ba X w' π' st'.heap av v':=by
 unfold Lb at he
 split at he
 ·cases he
 ·rename_i te fb
  split at he
  ·rename_i e y' st1 Sw hs
   obtain ⟨Xp,h1,h2,h3,h4,h5⟩:=Xk h (Co h.2 y) hs
   split at he
   ·cases he
   ·rename_i l8 ys hv
    dsimp only at he
    have xG: ∀tr2,tr2=(e.flat||(Ph st (st.ev y)&&e.tree))->tr2=true->e.flat=true\/ ∃F,Bz w F (.slice e) [a.eval y] ys/\cF X w Xp F:=by
     intro tr2 e2 ib
     subst e2
     cases SU:e.flat with
     |true=>exact .inl rfl
     |false=>
     right
     simp only [SU,Wj,Ag] at ib
     obtain ⟨F,us,f1,f2,f3,_⟩:=h5 ib.1 (.slice e) l8 ys ib.2 hv
     have BX:us= [a.eval y]:=by
      simp only [Bz] at f1
      obtain ⟨a0,len,cap,rfl,_⟩:=f1
      rw [f2];simp [Bi,Ty.Ak]
     rw [BX] at f1
     exact ⟨F,f1,f3⟩
    have hyc:Cells w (Cb X.w0.heap.size X.Sc Xp l8) (.slice e) [a.eval y] ys:=Ck.Oc rfl (Jz _ y' _ l8 ys h3 h2 hv)
    have LR:=Co h1.2 x
    split at he
    ·rename_i hx
     rw [hx] at LR
     have TO:a.eval x= .slice none 0 0:=LR
     split at he
     ·rename_i jb
      simp only [Aa,Ab] at he
      obtain ⟨rfl,rfl⟩:=he
      obtain ⟨k1,k2,k3⟩:=mF h1 dst jb.2 (T.nO||e.flat) T.uF te e
      have:=gE (ty:=ty) hT k1 fb Sw jb.2 (fr3:=l8||e.flat) (tr2:=e.flat||(Ph st (st.ev y)&&e.tree)) rfl (St.Ew st1 dst _) k2 (k3 _ _ _ _ hyc) (by rw [Dp];exact jb.1) (λht=>by
       rcases xG _ rfl ht with h0|⟨F,f1,f2⟩
       ·exact .inl h0
       ·exact .inr ⟨F,f1,f2.drop⟩)
      rw [<-TO] at this
      exact this
     ·cases he
    ·rename_i l off len hx
     rw [hx] at LR
     split at he
     ·rename_i fr tr e' tid xs hl
      split at he
      ·rename_i Ha
       obtain ⟨rfl,rfl⟩:=Ha
       split at he
       ·rename_i jb
        simp only [Aa,Ab] at he
        obtain ⟨rfl,rfl⟩:=he
        exact gE (ty:=ty) hT h1 fb Sw jb.2 (fr3:=l8||e'.flat) (tr2:=e'.flat||(Ph st (st.ev y)&&e'.tree)) rfl hl LR hyc jb.1 (xG _ rfl)
       ·cases he
      ·cases he
     ·cases he
    ·cases he
  ·cases he
theorem gO (hT:De P T) {st:St} {a:Act} (h:Ax X π st a w) (dst:Nat) (t ty:TypeId) (x y:Operand) (av:AV) (st':St) (he:Nu T st dst t x y=some (av,st')):
  ∃v' w' π',(Builtin.append_ #[t,t] ty #[a.eval x,a.eval y]).run P w= .ok v' w'/\Ax X π' st' a w'/\Ba X w' π' st'.heap av v':=by
 unfold Nu at he
 split at he
 ·rename_i tx
  split at he
  ·rename_i l i c hg
   split at he
   ·rename_i e te rows kp tid hl _
    split at he
    ·rename_i hc
     simp only [Ag,Ki,Ds] at hc
     have cB:dst≠l:= λe=>by rw [e,Nat.beq_refl] at hc;cases hc.2.2
     unfold St.at at hl
     have hv:Fe X w π st.heap (.sub l i c) (a.tmps.getD tx undef):=by
      have:=h.2.tmps tx
      rw [hg] at this
      exact this
     obtain ⟨Xp,h1,h2⟩:=vD (tid:=tid) h hl cB hc.2.1 hc.1 hv
     have h3:=h1.put (some tx) (c:= .at (.own dst 0 (rows.getD i []).length)) h2
     have QP:a.put (some tx) (a.tmps.getD tx undef)=a:=by
      have:a.tmps.setIfInBounds tx (a.tmps.getD tx undef)=a.tmps:=by
       apply Array.ext_getElem?
       intro k
       rw [Array.getElem?_setIfInBounds]
       split
       ·rename_i e
        subst e
        split
        ·rename_i Im
         rw [Array.getElem?_eq_getElem Im];simp
        ·rename_i Im
         rw [Array.getElem?_eq_none (by omega)]
       ·rfl
      simp only [Act.put,this]
     rw [QP] at h3
     exact Sm hT h3 dst t ty (.tmp tx) y av st' he
    ·cases he
   ·cases he
  ·exact Sm hT h dst t ty _ y av st' he
 ·exact Sm hT h dst t ty x y av st' he
theorem xd {S:Nat->Prop} {e:Ty} (h:gx e=true): ∃z,Bb e= [z]/\e.Ak=false/\e.size=1/\Cells w S e [z] e.zero/\z.oneCell'=true:=by
 cases e<;>simp [gx] at h
 ·exact ⟨_,rfl,rfl,rfl,rfl,rfl⟩
 ·exact ⟨_,rfl,rfl,rfl,rfl,rfl⟩
 ·exact ⟨_,rfl,rfl,rfl,rfl,rfl⟩
 ·exact ⟨_,rfl,rfl,rfl,⟨none,0,0,rfl,rfl,Ao _, .inl rfl⟩,rfl⟩
 ·exact ⟨_,rfl,rfl,rfl, .inl ⟨rfl,0,rfl⟩,rfl⟩
theorem uS {e:Ty} {z:Value} (ht:e.tree=true) (h:gx e=true) (hz:Bb e= [z]):Bz w [] e [z] e.zero:=by
 cases e<;>simp [gx] at h<;>simp only [Bb,Es,cA] at hz<;>subst hz<;>try (simp [Ty.tree] at ht;done)
 ·exact ⟨rfl,rfl⟩
 ·exact ⟨rfl,rfl⟩
 ·exact ⟨rfl,rfl⟩
 ·exact ⟨none,0,0,rfl,rfl,Ao _, .inl ⟨rfl,rfl,rfl,rfl⟩⟩
theorem EV {S:Nat->Prop} : ∀(e:Ty),bN e=true->(Bb e).length=e.size/\Cells w S e (Bb e) e.zero/\(e.tree=true->Bz w [] e (Bb e) e.zero):=by
 intro e
 induction e with
 |unit=>intro _;exact ⟨rfl,rfl,λ_=>⟨rfl,rfl⟩⟩
 |pair a r cC cw=>
  intro h
  simp only [bN,Ag] at h
  obtain ⟨a1,a2,a3⟩:=cC h.1
  obtain ⟨r1,r2,r3⟩:=cw h.2
  exact ⟨by simp [Bb,Ty.size,a1,r1],⟨_,_,rfl,a2,r2⟩,λht=>by simp only [Ty.tree,Ag] at ht;exact ⟨_,_,[],[],rfl,rfl,a3 ht.1,r3 ht.2⟩⟩
 |_=>
  intro h
  simp only [bN] at h
  obtain ⟨z,z1,z2,z3,z4,_⟩:=xd (w:=w) (S:=S) h
  exact ⟨by rw [z1,z3];rfl,by rw [z1];exact z4,λht=>by rw [z1];exact uS ht h z1⟩
theorem xP {z:Array Value} {s m j q:Nat} (hz:z.size=s) (hj:j<m) (hq:q<s):(madeCells z (m*s))[j*s+q]?=z[q]?:=by
 have h1:j*s+q<m*s:=by
  have:=Ea s (show j+1<=m by omega)
  rw [Nat.succ_mul] at this
  omega
 have h2:(j*s+q)%z.size=q:=by rw [hz,Nat.mul_comm,Nat.mul_add_mod,Nat.mod_eq_of_lt hq]
 have h3:q<z.size:=by omega
 unfold madeCells
 simp [h1,h2,h3]
theorem lX (hT:De P T) {st:St} {a:Act} (h:Ax X π st a w) (dst:Nat) (t:TypeId) (l c:AV) (vl vc:Value) (hl:Ba X w π st.heap l vl) (hc:Ba X w π st.heap c vc) (av:AV) (st':St)
  (he:Wt T st dst t l c=some (av,st')): ∃v' w' π',(Instr.makeSlice t vl vc).run P w= .ok v' w'/\Ax X π' st' a w'/\Ba X w' π' st'.heap av v':=by
 unfold Wt at he
 split at he
 ·rename_i te HX k1 n l8 k2 m fb
  have:=Mn hl;subst this
  have:=Mn hc;subst this
  split at he
  ·rename_i e Sw
   split at he
   ·rename_i Ha
    obtain ⟨h0,WQ,hz,IK⟩:=Ha
    obtain ⟨h1,h2⟩:=Pw.1 h0
    subst WQ
    simp only [Aa,Ab] at he
    obtain ⟨rfl,rfl⟩:=he
    obtain ⟨i,hi,Qv,kP,mb⟩:=(hT.ty te e Sw).info
    obtain ⟨z1,z4,z5⟩:=EV (w:=w) (S:=Cb X.w0.heap.size X.Sc π (T.nO||e.flat)) e hz
    have BY:(Bi e (Bb e)).cells=(Bb e).toArray:=Ii e _ _ z4
    have hu:=hT.elem t te fb
    have hn:n.toNat<=4294967296:=by unfold Ga at h2;omega
    have hr:=run_make (P:=P) (w:=w) t te i _ hu hi mb k1 k2 n n h1 (Int.le_refl _) (by
     have:(i.bytes:Int)*n<=256*4294967296:=by
      obtain ⟨nn,rfl⟩:=Jp h1
      have h7:i.bytes*nn<=256*4294967296:=Nat.mul_le_mul kP (by simpa using hn)
      have h8:((i.bytes*nn:Nat):Int)<=256*4294967296:=by omega
      rwa [Int.natCast_mul] at h8
     omega) (by unfold Ga at h2;omega)
    rw [BY,Qv] at hr
    have Vc:((Bb e).toArray).size=e.size:=by simpa using z1
    have cell: ∀j,j<n.toNat-> ∀q u,(Bb e)[q]?=some u->(madeCells (Bb e).toArray (n.toNat*e.size)).toList[j*e.size+q]?=some u:=by
     intro j hj q u hu
     have hq:q<e.size:=by rw [<-z1];exact (Ai.1 hu).1
     have:=xP Vc hj hq
     rw [Array.getElem?_toList,this]
     simpa using hu
    have:=bn (w1:=w.alloc (.cells (madeCells (Bb e).toArray (n.toNat*e.size)) te)) h dst IK (T.nO||e.flat) (T.uF&&e.tree) e te (List.replicate n.toNat e.zero) (madeCells (Bb e).toArray (n.toNat*e.size)).toList (madeCells (Bb e).toArray (n.toNat*e.size)) n.toNat []
     (.inr rfl) (by rw [size_madeCells]) (by unfold maxLen;omega) (by simp)
     (λk u hu=>by
      rw [Array.getElem?_toList] at hu;exact hu) ⟨by simp [size_madeCells],λj x hx=>by
       have hj:=(Ai.1 hx).1
       simp only [Iq] at hj
       refine ⟨Bb e,z1,λq u hu=>cell j hj q u hu,?_⟩
       rw [Dx (Bo hx)];exact z4⟩ (by simp) (λib=>⟨Kh,List.replicate n.toNat [],by simp,by simp,λj x F hx hF=>by
      have hj:=(Ai.1 hx).1
      simp only [Iq] at hj
      refine ⟨Bb e,z1,λq u hu=>cell j hj q u hu,?_⟩
      have e1:=Dx (Bo hx)
      have e2:=Dx (Bo hF)
      rw [e1,e2]
      exact z5 (by simp only [Ag] at ib;exact ib.2)⟩)
    exact ⟨_,_,_,hr,this.1,this.2 _ (by simp)⟩
   ·cases he
  ·cases he
 ·cases he
theorem de (off:Nat): ∀(us:List Value) (k:Nat) (cells:List Value),off+k+us.length<=cells.length->
  (us.zipIdx k).foldl (λcs p=>cs.setIfInBounds (off+p.2) p.1) cells.toArray=(Dd cells (off+k) us).toArray
 | [],k,cells,h=>by simp [Dd]
 |u::us,k,cells,h=>by
  simp only [List.zipIdx_cons,Ky]
  rw [show cells.toArray.setIfInBounds (off+k) u=(cells.set (off+k) u).toArray by simp]
  rw [de off us (k+1) (cells.set (off+k) u) (by simp at h⊢;omega)]
  congr 1
  apply List.ext_getElem?
  intro j
  have hl:off+k+(u::us).length<=cells.length:=h
  have p9:off+(k+1)+us.length<=(cells.set (off+k) u).length:=by simp at h⊢;omega
  rw [Fu _ _ _ _ hl,Fu _ _ _ _ p9]
  simp only [Bf]
  by_cases h1:j<off+k
  ·rw [Af (by omega),Af h1,List.getElem?_set_ne (by omega)]
  ·rw [Aj h1]
   by_cases h2:j=off+k
   ·subst h2
    rw [Af (by omega),Af (by omega),List.getElem?_set_self (by simp at h;omega)]
    simp
   ·rw [Aj (by omega)]
    by_cases h3:j<off+k+(us.length+1)
    ·rw [Af (by omega),Af h3]
     rw [show j-(off+k)=(j-(off+(k+1)))+1 by omega,Jq]
    ·rw [Aj (by omega),Aj h3,List.getElem?_set_ne (by omega)]
theorem oU (place:Nat->Option (Nat×Nat)) (cells:List Value) (i:Nat) (v:Value) (rest:List (Nat×Value)) (off size:Nat) (us:List Value) (hp:place i=some (off,size)) (hv:v.cells=us.toArray)
  (hl:us.length=size) (hle:off+size<=cells.length):Instr.fill place cells.toArray ((i,v)::rest)=Instr.fill place (Dd cells off us).toArray rest:=by
 simp only [Instr.fill,hp,hv,Eu,hl]
 rw [Aj (by simp;omega)]
 congr 1
 have:=de off us 0 cells (by omega)
 simp only [Dc] at this
 rw [<-this]
 simp
theorem Sj (e:Ty) {a:Act} : ∀(parts:List (Nat×Operand)) (i:Nat) (st:St) (π:Pi) (fr tr:Bool) (ys:List e.den) (st':St) (cells:List Value),Ax X π st a w->Is e i parts st=some (fr,tr,ys,st')->
  (i+parts.length)*e.size<=cells.length->
  ∃π' cl,Ax X π' st' a w/\Flat w (Cb X.w0.heap.size X.Sc π' fr) e cl ys/\ys.length=parts.length/\Ic π π' st.heap st'.heap/\
   Instr.fill (λi=>some (i*e.size,e.size)) cells.toArray (parts.map λp=>(p.1,a.eval p.2))=some (Dd cells (i*e.size) cl).toArray/\
   (tr=true-> ∃Fs,Ow w e cl ys Fs/\cF X w π' (List.flatten Fs)/\ ∀b∈List.flatten Fs,∃l r,π l=some r/\r.cl b)
 | [],i,st,π,fr,tr,ys,st',cells,h,he,hle=>by
  simp only [Is,Aa,Ab] at he
  obtain ⟨rfl,rfl,rfl,rfl⟩:=he
  exact ⟨π,[],h,Flat.nil,rfl,Ic.refl _ _,by simp [Instr.fill,Dd],λ_=>⟨[],⟨rfl,λi z F hz=>by simp at hz⟩,⟨Kh,by simp⟩,by simp⟩⟩
 |(j,x)::r,i,st,π,fr,tr,ys,st',cells,h,he,hle=>by
  simp only [Is] at he
  split at he
  ·rename_i fW;subst fW
   split at he
   ·rename_i v' st1 hs
    obtain ⟨Xp,h1,h2,h3,h4,h5⟩:=Xk h (Co h.2 x) hs
    split at he
    ·rename_i HX y hv
     split at he
     ·rename_i l8 tr2 zs RS hr
      simp only [Aa,Ab] at he
      obtain ⟨rfl,rfl,rfl,rfl⟩:=he
      obtain ⟨es,cr,vN⟩:=Jz e v' _ HX y h3 h2 hv
      have eZ:=Cells.len e es y cr
      have WO:i*e.size+e.size<=cells.length:=by
       have:(i+1)*e.size<=(i+((i,x)::r).length)*e.size:=Ea _ (by simp)
       rw [Ch,Qz] at this
       omega
      have xz:i*e.size+es.length<=cells.length:=by omega
      obtain ⟨zR,cl,g1,g2,g3,g4,g5,g6⟩:=Sj e r (i+1) st1 Xp l8 tr2 zs RS (Dd cells (i*e.size) es) h1 hr (by
       rw [Gg _ _ _ xz]
       rw [show i+1+r.length=i+((i,x)::r).length by simp;omega];exact hle)
      have f1:Flat w (Cb X.w0.heap.size X.Sc zR HX) e es [y]:=⟨by simp [eZ],λq z hz=>by
       rcases q with _|q
       ·simp at hz;subst hz
        exact ⟨es,eZ,λj u hu=>by simpa using hu,qf g1 g4 e es y cr⟩
       ·simp at hz⟩
      refine ⟨zR,es++cl,g1,?_,by simp [g3],h4.trans g4,?_,λht=>?_⟩
      ·have:=(f1.cells λes z hc=>hc.and_left (f2:=l8)).append (g2.cells λes z hc=>hc.and_right (f1:=HX))
       simpa using this
      ·simp only [Bl]
       rw [oU _ cells i (a.eval x) _ (i*e.size) e.size es rfl (by rw [vN];exact Ii e es y cr) eZ WO,g5]
       congr 2
       have Ol:cl.length=r.length*e.size:=by rw [g2.1,g3]
       have Su:(i+1)*e.size+cl.length<=(Dd cells (i*e.size) es).length:=by
        rw [Gg _ _ _ xz,Ol,<-Ch]
        rw [show i+1+r.length=i+((i,x)::r).length by simp;omega];exact hle
       have PF:i*e.size+(es++cl).length<=cells.length:=by
        rw [Gg _ _ _ xz] at Su
        rw [Cf,eZ]
        rw [Ch,Qz] at Su
        omega
       have e1:(i+1)*e.size=i*e.size+es.length:=by rw [Ch,Qz,eZ]
       apply List.ext_getElem?
       intro k
       rw [Fu _ _ _ _ Su,Fu _ _ _ _ PF,Fu _ _ _ _ xz,e1,Cf]
       by_cases k1:k<i*e.size
       ·rw [Af (by omega),Af k1,Af k1]
       ·rw [Aj k1,Aj k1]
        by_cases k2:k<i*e.size+es.length
        ·rw [Af k2,Af k2,Af (by omega),Am (by omega)]
        ·rw [Aj k2,Aj k2]
         by_cases k3:k<i*e.size+es.length+cl.length
         ·rw [Af k3,Af (by omega),Al (by omega)]
          congr 1;omega
         ·rw [Aj k3,Aj (by omega)]
      ·simp only [Ag] at ht
       obtain ⟨⟨ht1,JG⟩,ht3⟩:=ht
       obtain ⟨F,us,t1,t2,t3,t7⟩:=h5 ht1 e HX y JG hv
       obtain ⟨Fs,t4,t5,t6⟩:=g6 ht3
       have BX:us=es:=by
        have c1:=Bz.cells (S:= λ_=>False) F e us y t1 (λ_ _ h=>h)
        have a1:=Ii e us y c1
        have a2:=Ii e es y cr
        rw [<-t2,vN,a2] at a1
        simpa using a1.symm
       subst BX
       refine ⟨F::Fs,?_,?_,λb hb=>?_⟩
       ·have k1:Ow w e us [y] [F]:=⟨rfl,λq z G hz hG=>by
         rcases q with _|q
         ·simp at hz hG;subst hz;subst hG
          exact ⟨us,eZ,λj u hu=>by simpa using hu,t1⟩
         ·simp at hz⟩
        exact Ow.append (by simp [eZ]) k1 t4
       ·rw [Ik]
        refine ⟨Cz.2 ⟨t3.1,t5.1,λb hb b' nF e=>?_⟩,λb hb=>?_⟩
        ·subst e
         obtain ⟨l,r,q1,q2⟩:=t6 b nF
         exact (t3.2 b hb).2.2 l r q1 q2
        ·rcases Av.1 hb with hb|hb
         ·have:=t3.2 b hb
          refine ⟨this.1,this.2.1,λl r q1 q2=>?_⟩
          cases hh:Ap RS.heap l with
          |none=>rw [(g1.1.heap l).emp hh] at q1;cases q1
          |some b'=>exact this.2.2 l r ((g4 l b' hh).1▸q1) q2
         ·exact t5.2 b hb
       ·rw [Ik] at hb
        rcases Av.1 hb with hb|hb
        ·exact t7 b hb
        ·obtain ⟨l,r,q1,q2⟩:=t6 b hb
         cases hh:Ap st1.heap l with
         |none=>rw [(h1.1.heap l).emp hh] at q1;cases q1
         |some b'=>exact ⟨l,r,(h4 l b' hh).1▸q1,q2⟩
     ·cases he
    ·cases he
   ·cases he
  ·cases he
theorem cZ (hT:De P T) {st:St} {a:Act} (h:Ax X π st a w) (dst:Nat) (t:TypeId) (len:Nat) (parts:Array (Nat×Operand)) (av:AV) (st':St)
  (he:Jt T st dst t len parts=some (av,st')):
  ∃v' w' π',(Instr.buildSlice t len (parts.map λ(i,x)=>(i,a.eval x))).run P w= .ok v' w'/\Ax X π' st' a w'/\Ba X w' π' st'.heap av v':=by
 unfold Jt at he
 split at he
 ·cases he
 ·rename_i te fb
  split at he
  ·cases he
  ·rename_i e Sw
   split at he
   ·rename_i Ha
    obtain ⟨fa,hlen⟩:=Ha
    split at he
    ·rename_i fr tr ys st1 hb
     simp only [Aa,Ab] at he
     obtain ⟨rfl,rfl⟩:=he
     obtain ⟨i,hi,Qv,kP,mb⟩:=(hT.ty te e Sw).info
     have hu:=hT.elem t te fb
     have yA:parts.toList.length=len:=by simpa using fa
     have hz: ∃z:Array Value,(len*e.size=0/\z= #[])\/(¬len*e.size=0/\(zeroValue te).run P w= .ok (Bi e (Bb e)) w/\z=(Bi e (Bb e)).cells):=by
      by_cases h0:len*e.size=0
      ·exact ⟨#[], .inl ⟨h0,rfl⟩⟩
      ·exact ⟨_, .inr ⟨h0,by simp [zeroValue,typeInfo,hi,mb],rfl⟩⟩
     obtain ⟨z,hz⟩:=hz
     obtain ⟨Xp,cl,g1,g2,g3,g4,g5,g6⟩:=Sj e parts.toList 0 st π fr tr ys st1 ((Array.range (len*e.size)).map (z[· %z.size]!)).toList h hb (by simp [yA])
     have Ol:cl.length=len*e.size:=by rw [g2.1,g3,yA]
     have BW:(Dd ((Array.range (len*e.size)).map (z[· %z.size]!)).toList (0*e.size) cl)=cl:=by
      simp [Dd,Ol]
     rw [BW] at g5
     have Qw:(Instr.buildSlice t len (parts.map λ(i,x)=>(i,a.eval x))).run P w= .ok (.slice (some ⟨w.heap.size,0,none⟩) len len) (w.alloc (.cells cl.toArray te)):=by
      have UP: ¬(len*e.size>2^24):=by
       have:len*e.size<=64*64:=Nat.mul_le_mul hlen.1 hlen.2.1
       omega
      simp only [Instr.buildSlice,Sem.run_bind,run_underlying hu,Result.andThen_ok,(hT.ty te e Sw).size,Aj UP]
      have e1:(parts.map λ(i,x)=>(i,a.eval x)).toList=parts.toList.map λp=>(p.1,a.eval p.2):=by simp
      simp only [e1]
      have e2:(((Array.range (len*e.size)).map (z[· %z.size]!)).toList.toArray)=(Array.range (len*e.size)).map (z[· %z.size]!):=Array.toArray_toList
      rw [e2] at g5
      rcases hz with ⟨h0,rfl⟩|⟨h0,hz,rfl⟩
      ·rw [Af h0]
       simp only [Sem.run_bind,Sem.run_pure,Result.andThen_ok,g5,newRow]
       simp
      ·rw [Aj h0]
       simp only [Sem.run_bind,Sem.run_pure,Result.andThen_ok,hz,g5,newRow]
       simp
     have hN: ∃N:List Nat,(∀b∈N,(X.w0.heap.size<=b\/X.gv b)/\b<w.heap.size/\ ∀m r0,m≠dst->Xp m=some r0-> ¬r0.cl b)/\(tr=true->N.Nodup/\ ∃Fs,List.flatten Fs=N/\Ow w e cl ys Fs):=by
      cases tr with
      |false=>exact ⟨[],by simp,λh=>by cases h⟩
      |true=>
       obtain ⟨Fs,t1,t2,_⟩:=g6 rfl
       exact ⟨_,λb hb=>⟨(t2.2 b hb).1,(t2.2 b hb).2.1,λm r0 _=>(t2.2 b hb).2.2 m r0⟩,λ_=>⟨t2.1,Fs,rfl,t1⟩⟩
     obtain ⟨N,q1,q2⟩:=hN
     have:=bn (w1:=w.alloc (.cells cl.toArray te)) g1 dst hlen.2.2 ((T.nO||e.flat)&&fr) (T.uF&&tr) e te ys cl cl.toArray len N (.inr rfl) (by simpa using Ol) (by simp only [maxLen];omega) (by omega) (λk u hu=>by simpa using hu) (g2.cells λes z hc=>hc.and_right) q1 (λht=>q2 (by simp only [Ag] at ht;exact ht.2))
     exact ⟨_,_,_,Qw,this.1,this.2 _ (by omega)⟩
    ·cases he
   ·cases he
theorem fU {t te:TypeId} {e:Ty} (h:ag T t=some (te,e)):T.elem t=some te/\T.ty te=some (.slice e):=by
 unfold ag at h
 cases he:T.elem t with
 |none=>rw [he] at h;cases h
 |some Nr=>
  rw [he] at h
  simp only [Dw] at h
  cases hg:T.xt Nr with
  |none=>rw [hg] at h;cases h
  |some e'=>
   rw [hg] at h
   simp only [Ah,Aa,Ab] at h
   obtain ⟨rfl,rfl⟩:=h
   refine ⟨rfl,?_⟩
   unfold Tab.xt at hg
   split at hg
   ·split at hg
    ·rename_i Sw;simp only [Aa] at hg;subst hg;exact Sw
    ·cases hg
   ·cases hg
theorem gG (w:World) (o:Obj):Gw w.heap.size (λ_=>False) w (w.alloc o):=⟨rfl,rfl,rfl,by simp,λk hk _=>Below.heap_alloc w _ k hk⟩
theorem jL (w:World) (o:Obj):Gw w.heap.size (λ_=>False) w (w.drew.alloc o):=⟨rfl,rfl,rfl,by simp,λk hk _=>Below.heap_alloc w.drew _ k hk⟩
theorem kM (hT:De P T) {st:St} {a:Act} (h:Ax X π st a w) (dst:Nat) (t:TypeId) (l c:AV) (vl vc:Value) (hl:Ba X w π st.heap l vl) (hc:Ba X w π st.heap c vc) (av:AV) (st':St)
  (he:Sr T st dst t l c=some (av,st')): ∃v' w' π',(Instr.makeSlice t vl vc).run P w= .ok v' w'/\Ax X π' st' a w'/\Ba X w' π' st'.heap av v':=by
 unfold Sr at he
 split at he
 ·exact lX hT h dst t l c vl vc hl hc av st' he
 ·rename_i te e hg
  obtain ⟨fb,Sw⟩:=fU hg
  split at he
  ·rename_i HX k1 n l8 k2 m
   have:=Mn hl;subst this
   have:=Mn hc;subst this
   split at he
   ·rename_i Ha
    obtain ⟨h0,WQ,IK⟩:=Ha
    obtain ⟨h1,h2⟩:=Pw.1 h0
    subst WQ
    simp only [Aa,Ab] at he
    obtain ⟨rfl,rfl⟩:=he
    obtain ⟨i,hi,Qv,kP,mb⟩:=(hT.ty te _ Sw).info
    have hu:=hT.elem t te fb
    have hn:n.toNat<=4294967296:=by unfold Ga at h2;omega
    have hr:=run_make (P:=P) (w:=w) t te i _ hu hi mb k1 k2 n n h1 (Int.le_refl _) (by
     have:(i.bytes:Int)*n<=256*4294967296:=by
      obtain ⟨nn,rfl⟩:=Jp h1
      have h7:i.bytes*nn<=256*4294967296:=Nat.mul_le_mul kP (by simpa using hn)
      have h8:((i.bytes*nn:Nat):Int)<=256*4294967296:=by omega
      rwa [Int.natCast_mul] at h8
     omega) (by unfold Ga at h2;omega)
    have BY:(Bi (Ty.slice e) (Bb (Ty.slice e))).cells= #[.slice none 0 0]:=by simp [Bi,Ty.Ak,Bb,Value.cells]
    have fX:(Ty.slice e).size=1:=rfl
    rw [BY,Qv,fX] at hr
    have cell: ∀j,j<n.toNat->(madeCells #[Value.slice none 0 0] (n.toNat*1))[0+j]?=some (.slice none 0 0):=by
     intro j hj
     have:=xP (z:= #[Value.slice none 0 0]) (s:=1) (m:=n.toNat) (j:=j) (q:=0) rfl hj (by omega)
     simp only [Dt,Dc] at this
     simp only [Dt,Dp]
     rw [this];rfl
    obtain ⟨π',g1,g2⟩:=Ue (w1:=w.alloc (.cells (madeCells #[Value.slice none 0 0] (n.toNat*1)) te)) (gv:= λ_=>False) h IK IK te (e:=e) (rows:=List.replicate n.toNat []) (us:=List.replicate n.toNat (.slice none 0 0)) (Rs:=List.replicate n.toNat none) (g:=w.heap.size) (o:=0) (cap:=n.toNat)
     (λ_ hf=>hf.elim) (gG w _) ⟨.inl (Ao _),by simp⟩ (heap_alloc_new w _) (by rw [size_madeCells];omega) (by unfold maxLen;omega) (by simp) (λj u hu=>by
      have hj:=(Ai.1 hu).1
      simp only [Iq] at hj
      rw [cell j hj,Dx (Bo hu)])
     ⟨by simp,by simp,λi j q q' h1=>(by have:=Dx (Bo h1);cases this),λi x hx=>by
      have hj:=(Ai.1 hx).1
      simp only [Iq] at hj
      rw [Dx (Bo hx)]
      exact ⟨.slice none 0 0,none,by rw [List.getElem?_replicate,Af hj],by rw [List.getElem?_replicate,Af hj],⟨rfl,rfl,rfl⟩,rfl⟩⟩
     (λi q h1=>by have:=Dx (Bo h1);cases this)
    exact ⟨_,_,π',hr,g1,g2 _ (by simp)⟩
   ·cases he
  ·cases he
theorem cq (hT:De P T) {st:St} {a:Act} (h:Ax X π st a w) (dst:Nat) (t:TypeId) (len:Nat) (parts:Array (Nat×Operand)) (av:AV) (st':St)
  (he:Gi T st dst t len parts=some (av,st')):
  ∃v' w' π',(Instr.buildSlice t len (parts.map λ(i,x)=>(i,a.eval x))).run P w= .ok v' w'/\Ax X π' st' a w'/\Ba X w' π' st'.heap av v':=by
 unfold Gi at he
 split at he
 ·exact cZ hT h dst t len parts av st' he
 ·rename_i te e hg
  obtain ⟨fb,Sw⟩:=fU hg
  split at he
  rotate_left
  ·cases he
  rename_i x LG
  split at he
  rotate_left
  ·cases he
  rename_i m off ln hx
  split at he
  rotate_left
  ·cases he
  rename_i fr tr e' tid xs hm
  split at he
  rotate_left
  ·cases he
  rename_i hc
  obtain ⟨rfl,hc,rfl,rfl⟩:=hc
  simp only [Ag,Ki] at hc
  obtain ⟨hlen,IK,FE⟩:=hc
  have hlen:len=1:=Gy hlen
  subst hlen
  simp only [Aa,Ab] at he
  obtain ⟨rfl,rfl⟩:=he
  have hu:=hT.elem t te fb
  unfold St.at at hm
  have QN:=Co h.2 x
  rw [hx] at QN
  obtain ⟨_,nG⟩:=Lk (X:=X) (w:=w) QN hm
  obtain ⟨ax,nx,cx,GN⟩:=Vr nG
  have hp:parts= #[(0,x)]:=by apply Ma;simpa using LG
  subst hp
  obtain ⟨i,hi,Qv,kP,mb⟩:=(hT.ty te _ Sw).info
  have Qw:(Instr.buildSlice t 1 (#[(0,x)].map λ(i,x)=>(i,a.eval x))).run P w= .ok (.slice (some ⟨w.heap.size,0,none⟩) 1 1) (w.alloc (.cells #[a.eval x] te)):=by
   have fX:(Ty.slice e').size=1:=rfl
   have hz:(zeroValue te).run P w= .ok (.slice none 0 0) w:=by simp [zeroValue,typeInfo,hi,mb,Bi,Ty.Ak,Bb]
   have FE:(#[(0,x)].map λ(i,x)=>(i,a.eval x))= #[(0, .slice ax nx cx)]:=by simp [GN]
   rw [FE,GN]
   simp only [Instr.buildSlice,Sem.run_bind,run_underlying hu,Result.andThen_ok,(hT.ty te _ Sw).size,fX]
   simp [Value.cells,Instr.fill,newRow,hz]
   congr 2
   apply Array.ext
   ·simp
   ·intro i h1 h2
    have h0:i=0:=by simpa using h2
    subst h0
    simp
  have uT:=(h.1.heap m).Ns hm
  simp only [Bn,Hg] at uT
  have VV:Oe w (Cb X.w0.heap.size X.Sc π false) (π m) e' xs:=by
   cases hR:π m with
   |none=>rw [hR] at uT;exact uT
   |some q=>
    rw [hR] at uT
    obtain ⟨⟨f0,UN,_⟩,cu,FH,f2,f3,f4,f5,f6,_⟩:=uT
    exact ⟨⟨f0,UN⟩,cu,FH,f2,f3,f4,f5,λp y hy=>by
     obtain ⟨es,g1,g2,g3⟩:=f6 p y hy
     exact ⟨es,g1,g2,Cells.Ep (Ao _) (λ_ _ _=>rfl) (λb _ hA=>hA.imp id (Or.imp id λ⟨h1,_⟩=>by cases h1)) e' es y g3⟩⟩
  obtain ⟨π',g1,g2⟩:=Ue (w1:=w.alloc (.cells #[a.eval x] te)) (gv:= λ_=>False) h IK FE te (e:=e') (rows:= [xs]) (us:= [a.eval x]) (Rs:= [π m]) (g:=w.heap.size) (o:=0) (cap:=1)
   (λ_ hf=>hf.elim) (gG w _) ⟨.inl (Ao _),by simp⟩ (heap_alloc_new w _) rfl (by unfold maxLen;omega) (by simp) (λj u hu=>by
    rcases j with _|j
    ·simpa using hu
    ·simp at hu)
   ⟨rfl,rfl,λi j q q' h1 h2 _=>by
    rcases i with _|i
    ·rcases j with _|j
     ·rfl
     ·simp at h2
    ·simp at h1,λi y hy=>by
    rcases i with _|i
    ·simp only [Bd,Aa] at hy
     subst hy
     exact ⟨_,_,rfl,rfl,nG,VV⟩
    ·simp at hy⟩
   (λi q h1=>by
    rcases i with _|i
    ·simp only [Bd,Aa] at h1
     have hf:=h.1.Bu h1
     have:=(h.1.place m q _ h1 (h.1.sub m q _ h1 hf)).2
     exact ⟨by omega,λh=>h,m,q, .inr rfl,h1,hf⟩
    ·simp at h1)
  exact ⟨_,_,π',Qw,g1,g2 1 rfl⟩
theorem gP (hT:De P T) {st:St} {a:Act} (h:Ax X π st a w) (dst:Nat) (t ty:TypeId) (x y:Operand) (av:AV) (st':St) (he:Nv T st dst t x y=some (av,st')):
  ∃v' w' π',(Builtin.append_ #[t,t] ty #[a.eval x,a.eval y]).run P w= .ok v' w'/\Ax X π' st' a w'/\Ba X w' π' st'.heap av v':=by
 unfold Nv at he
 split at he
 ·exact gO hT h dst t ty x y av st' he
 ·rename_i te e hg
  obtain ⟨fb,Sw⟩:=fU hg
  split at he
  rotate_left
  ·cases he
  rename_i l off len m CZ qQ hx hy
  split at he
  rotate_left
  ·cases he
  rename_i e1 UA A kp1 e2 oB B kp2 hl hm
  split at he
  rotate_left
  ·cases he
  rename_i hc
  obtain ⟨⟨rfl,rfl⟩,hc,⟨rfl,rfl⟩,⟨rfl,rfl⟩,hB,jb⟩:=hc
  simp only [Ag,Ki,Ra,Ds] at hc
  obtain ⟨⟨rfl,rfl⟩,kQ,FE,cB⟩:=hc
  have cB:m≠l:= λe=>by rw [e,Nat.beq_refl] at cB;cases cB
  simp only [Aa,Ab] at he
  obtain ⟨rfl,rfl⟩:=he
  have hu:=hT.elem t oB fb
  obtain ⟨i,hi,Qv,kP,mb⟩:=(hT.ty oB _ Sw).info
  have Qv:i.size=1:=Qv
  unfold St.at at hl hm
  have QN:=Co h.2 x
  have QO:=Co h.2 y
  rw [hx] at QN;rw [hy] at QO
  obtain ⟨b1,s1,n1,q1,q2,_,TJ⟩:=QN
  rw [hl] at q1;cases q1
  simp only [OB.row,Aa,Ab] at q2
  obtain ⟨rfl,rfl⟩:=q2
  obtain ⟨b2,s2,n2,q1,q2,_,ZW⟩:=QO
  rw [hm] at q1;cases q1
  simp only [OB.row,Aa,Ab] at q2
  obtain ⟨rfl,rfl⟩:=q2
  have hA:=((h.1.heap l).Ns hl).1
  have NF:=((h.1.heap m).Ns hm).1
  cases zZ:π m with
  |none=>
   rw [zZ] at NF
   have NF:B= []:=NF
   subst NF;simp at hB
  |some rB=>
  rw [zZ] at NF ZW
  obtain ⟨fB,Aai,tiB,uB,RB,w1B,w2B,w3B,w4B,w5B,w6B,OC,LB⟩:=oX NF
  obtain ⟨adB,hvy,hcB,VE⟩:=ZW
  have VE:=VE (by omega)
  subst VE
  have hlB:=LB.1
  have MA:uB.length=B.length*i.size:=by rw [Qv,Dt];exact hlB
  have MB: ∀j u,uB[j]?=some u->w.cell? ((⟨rB.g,(rB.o+0)*1,none⟩:Addr).add j)=some u:= λj u hu=>by
   rw [Addr.add_lit,cellOf w1B,Dt,Dc];exact w5B j u hu
  have m9:(A.length+B.length)*i.bytes<=140737488355328:=by
   have:(A.length+B.length)*i.bytes<=4294967296*256:=Nat.mul_le_mul jb kP
   omega
  have dk:A.length+B.length<=maxLen:=by unfold Ga at jb;simp only [maxLen];omega
  have QW:(Bi (Ty.slice e2) (Bb (Ty.slice e2))).cells.size=1:=by simp [Bi,Ty.Ak,Bb,Value.cells]
  have Rn: ∀(k:Nat) (q:Real) (Rs:List (Option Real)),π k=some q->(∀(i:Nat) (p:Real),Rs[i]?=some (some p)->q.Bu p.g/\p.g≠q.g)-> ∀(i:Nat) (p:Real),Rs[i]?=some (some p)->p.g<w.heap.size:= λk q Rs h1 h2 i p h3=>
   (h.1.place k q _ h1 (h.1.sub k q _ h1 (h2 i p h3).1)).2
  cases fa:π l with
  |none=>
   rw [fa] at hA TJ
   have hA:A= []:=hA
   subst hA
   obtain ⟨GN,_,_⟩:=TJ
   rw [GN,hvy]
   simp only [Jb,Dp,List.nil_append] at jb m9 dk⊢
   have hr:=run_append_nil (P:=P) w t ty oB i _ hu hi mb ⟨rB.g,(rB.o+0)*1,none⟩ B.length (rB.cap-0) uB MA MB hB (by simp only [maxLen] at dk;omega) (by omega)
   have zV:=grownCap_ge w B.length 0 oB
   have GA:=grownCap_le_maxLen w B.length 0 oB (by omega)
   obtain ⟨π',g1,g2⟩:=Ue (w1:=w.drew.alloc (.cells (uB.toArray++Builtin.zeroCells (Bi (Ty.slice e2) (Bb (Ty.slice e2))).cells (grownCap w B.length 0 oB-B.length)) oB)) (gv:= λ_=>False) h kQ FE oB (e:=e2) (rows:=B) (us:=uB) (Rs:=RB) (g:=w.heap.size) (o:=0) (cap:=grownCap w B.length 0 oB)
    (λ_ hf=>hf.elim) (jL w _) ⟨.inl (Ao _),by simp⟩ (heap_alloc_new w.drew _) (by rw [Array.size_append,Eu,Qa,QW];omega) GA zV (λj u hu=>by
     have hj:=(Ai.1 hu).1
     rw [Dp,Hk (by simpa using hj)];simpa using hu)
    LB (λi q h1=>⟨by have:=Rn m rB RB zZ OC i q h1;omega,λh=>h,m,rB, .inr rfl,zZ,(OC i q h1).1⟩)
   exact ⟨_,_,π',hr,g1,g2 _ rfl⟩
  |some rA=>
   rw [fa] at hA TJ
   obtain ⟨fA,ym,tiA,uA,RA,UB,w2A,w3A,w4A,w5A,w6A,UC,LA⟩:=oX hA
   obtain ⟨YK,GN,hcA,SN⟩:=TJ
   have hlA:=LA.1
   rw [GN,hvy]
   have apart: ∀(i j:Nat) (q q':Real),RA[i]?=some (some q)->RB[j]?=some (some q')->q.g≠q'.g:= λi j q q' h1 h2 e=>by
    have:=h.1.apart fa zZ (UC i q h1).1 (e▸(OC j q' h2).1)
    exact cB this.symm
   have YJ:=lq.append LA LB apart
   have Hs: ∀(i:Nat) (q:Real),RB[i]?=some (some q)->q.g≠rA.g:= λi q h1 e=>cB (h.1.apart zZ fa (OC i q h1).1 (e▸fA))
   have IE: ∀(i:Nat) (q:Real),(RA++RB)[i]?=some (some q)->q.g≠rA.g/\q.g<w.heap.size/\ ∃k p,(k=l\/k=m)/\π k=some p/\p.Bu q.g:= λi q h1=>by
    by_cases hi:i<RA.length
    ·rw [Am hi] at h1
     exact ⟨(UC i q h1).2,Rn l rA RA fa UC i q h1,l,rA, .inl rfl,fa,(UC i q h1).1⟩
    ·rw [Al (by omega)] at h1
     exact ⟨Hs _ q h1,Rn m rB RB zZ OC _ q h1,m,rB, .inr rfl,zZ,(OC _ q h1).1⟩
   by_cases tn:A.length+B.length<=rA.cap-0
   ·have SN:=SN (by omega)
    subst SN
    have Su:(rA.o+0)*1+A.length*i.size+uB.length<=ym.size:=by rw [Qv];omega
    have Uf:(rA.o+0)*1+A.length*i.size+uB.length<=ym.toList.length:=by simpa using Su
    have hr:=Vg (P:=P) (w:=w) (ty:=ty) hu hi rA.g ((rA.o+0)*1) A.length (rA.cap-0) ym tiA UB ⟨rB.g,(rB.o+0)*1,none⟩ B.length (rB.cap-0) uB MA MB w6B tn Su
    have ma:=Kq w rA.g (Dd ym.toList ((rA.o+0)*1+A.length*i.size) uB).toArray
    obtain ⟨π',g1,g2⟩:=Ue (w1:=w.setRow rA.g (Dd ym.toList ((rA.o+0)*1+A.length*i.size) uB).toArray) (gv:= λb=>b=rA.g) h kQ FE oB (e:=e2) (rows:=A++B) (us:=uA++uB) (Rs:=RA++RB) (g:=rA.g) (o:=rA.o) (cap:=rA.cap)
     (λb hb=>⟨l,rA, .inl rfl,fa,hb▸fA⟩) ⟨ma.os,ma.tape,ma.output,ma.size,λc _ hc=>setRow_other w rA.g c _ hc⟩ ⟨.inr ⟨l,rA, .inl rfl,fa,fA⟩,Cy (Ej UB) ma.size⟩
     (setRow_heap w rA.g ym _ tiA _ UB) (by rw [Eu,Gg _ _ _ Uf,Sf];exact w2A) w3A (by simp;omega) (λj u hu=>by
      rw [Fv,Fu _ _ _ _ Uf,Qv]
      by_cases hj:j<uA.length
      ·rw [Am hj] at hu
       rw [Af (by omega),Array.getElem?_toList]
       exact w5A j u hu
      ·rw [Al (by omega)] at hu
       have:=(Ai.1 hu).1
       rw [Aj (by omega),Af (by omega)]
       rw [show rA.o+j-((rA.o+0)*1+A.length*1)=j-uA.length by omega]
       exact hu)
     YJ (λi q h1=>⟨(IE i q h1).1,(IE i q h1).1,(IE i q h1).2.2⟩)
    have:=g2 (A.length+B.length) (by simp)
    have e0:(rA.o+0)*1=rA.o:=by omega
    simp only [e0,Nat.sub_zero] at hr g1 this⊢
    exact ⟨_,_,π',hr,g1,this⟩
   ·have hold: ∀j u,uA[j]?=some u->w.cell? (YK.add j)=some u:=by
     intro j u hu
     have hj:=(Ai.1 hu).1
     rw [SN (by omega),Addr.add_lit,cellOf UB,Dt,Dc];exact w5A j u hu
    have hr:=run_append_grow (P:=P) w t ty oB i _ hu hi mb YK A.length (rA.cap-0) uA (by rw [Qv,Dt];exact hlA) hold ⟨rB.g,(rB.o+0)*1,none⟩ B.length (rB.cap-0) uB MA MB (by omega) (by simp only [maxLen] at dk;omega) (growslice_fits (by omega) m9)
    have zV:=grownCap_ge w (A.length+B.length) (rA.cap-0) oB
    have GA:=grownCap_le_maxLen w (A.length+B.length) (rA.cap-0) oB dk
    obtain ⟨π',g1,g2⟩:=Ue (w1:=w.drew.alloc (.cells (uA.toArray++uB.toArray++Builtin.zeroCells (Bi (Ty.slice e2) (Bb (Ty.slice e2))).cells (grownCap w (A.length+B.length) (rA.cap-0) oB-(A.length+B.length))) oB)) (gv:= λ_=>False) h kQ FE oB (e:=e2) (rows:=A++B) (us:=uA++uB) (Rs:=RA++RB) (g:=w.heap.size) (o:=0) (cap:=grownCap w (A.length+B.length) (rA.cap-0) oB)
     (λ_ hf=>hf.elim) (jL w _) ⟨.inl (Ao _),by simp⟩ (heap_alloc_new w.drew _) (by rw [Array.size_append,Array.size_append,Eu,Eu,Qa,QW];omega) GA (by simpa using zV) (λj u hu=>by
      have hj:=(Ai.1 hu).1
      rw [Dp,Hk (by simpa using hj)];simpa using hu)
     YJ (λi q h1=>⟨by have:=(IE i q h1).2.1;omega,λh=>h,(IE i q h1).2.2⟩)
    exact ⟨_,_,π',hr,g1,g2 _ (by simp)⟩
theorem fF: ∀τ:Ty,Eb X w π H (zeroCells τ) (Bb τ):=by
 have one: ∀(c:AC) (v:Value),v.oneCell'=true->Fe X w π H c v->Eb X w π H [c] [v]:= λc v h1 h2=>⟨rfl,λi c' hc=>by
  rcases i with _|i
  ·simp at hc;subst hc;exact ⟨v,rfl,h1,h2⟩
  ·simp at hc⟩
 intro τ
 induction τ with
 |unit=>exact ⟨rfl,λi c hc=>by simp [zeroCells] at hc⟩
 |pair a r cC cw=>
  refine ⟨by simp [zeroCells,Bb,cC.1,cw.1],λi c hc=>?_⟩
  simp only [zeroCells] at hc
  simp only [Bb]
  by_cases hi:i<(zeroCells a).length
  ·rw [Am hi] at hc
   obtain ⟨u,hu,h⟩:=cC.2 i c hc
   exact ⟨u,by rw [Am (by rw [cC.1];exact hi)];exact hu,h⟩
  ·rw [Al (by omega)] at hc
   obtain ⟨u,hu,h⟩:=cw.2 _ c hc
   exact ⟨u,by rw [Al (by rw [cC.1];omega),cC.1];exact hu,h⟩
 |int k=>exact one (.data true _ _) _ rfl (Ke (H:=H) k 0 true)
 |bool=>exact one (.data true _ _) _ rfl (Je (H:=H) false true)
 |str=>exact one (.data true _ _) _ rfl (gj (H:=H) ByteArray.empty true)
 |slice e=>exact one _ _ rfl rfl
 |oslice e=>exact one _ _ rfl rfl
 |ptr e=>exact one _ _ rfl rfl
 |optr e=>exact one _ _ rfl rfl
 |smap v=>exact one (.data true _ _) _ rfl ⟨[.map none], .inl ⟨rfl,rfl⟩,by simp [Bi,Ty.Ak]⟩
 |clo f c=>exact one .undef .nilFunc rfl trivial
theorem nD: ∀τ:Ty,Eb X w π H (Mp τ) (Bb τ):=by
 have one: ∀(c:AC) (v:Value),v.oneCell'=true->Fe X w π H c v->Eb X w π H [c] [v]:= λc v h1 h2=>⟨rfl,λi c' hc=>by
  rcases i with _|i
  ·simp at hc;subst hc;exact ⟨v,rfl,h1,h2⟩
  ·simp at hc⟩
 intro τ
 induction τ with
 |unit=>exact ⟨rfl,λi c hc=>by simp [Mp] at hc⟩
 |pair a r cC cw=>
  refine ⟨by simp [Mp,Bb,cC.1,cw.1],λi c hc=>?_⟩
  simp only [Mp] at hc
  simp only [Bb]
  by_cases hi:i<(Mp a).length
  ·rw [Am hi] at hc
   obtain ⟨u,hu,h⟩:=cC.2 i c hc
   exact ⟨u,by rw [Am (by rw [cC.1];exact hi)];exact hu,h⟩
  ·rw [Al (by omega)] at hc
   obtain ⟨u,hu,h⟩:=cw.2 _ c hc
   exact ⟨u,by rw [Al (by rw [cC.1];omega),cC.1];exact hu,h⟩
 |int k=>exact one (.data false _ _) _ rfl (Ke (H:=H) k 0 false)
 |bool=>exact one (.data false _ _) _ rfl (Je (H:=H) false false)
 |str=>exact one (.data false _ _) _ rfl (gj (H:=H) ByteArray.empty false)
 |slice e=>exact one (.data false _ _) _ rfl ⟨[.slice none 0 0],⟨none,0,0,rfl,rfl,Ao _, .inl rfl⟩,by simp [Bi,Ty.Ak]⟩
 |oslice e=>exact one _ _ rfl rfl
 |ptr e=>exact one _ _ rfl rfl
 |optr e=>exact one _ _ rfl rfl
 |smap v=>exact one (.data false _ _) _ rfl ⟨[.map none], .inl ⟨rfl,rfl⟩,by simp [Bi,Ty.Ak]⟩
 |clo f c=>exact one .undef .nilFunc rfl trivial
theorem Zu (hT:De P T) {st:St} {a:Act} (h:Ax X π st a w) (t:TypeId) (Nj:Array (Nat×Nat))
  (fa: ∀f o u ρ,T.off t f=some (o,u)->T.ty u=some ρ->Nj[f]?=some (o,ρ.size)): ∀(parts:List (Nat×Operand)) (cs cX:List AC) (us:List Value),Eb X w π st.heap cs us->
  Jr T st t parts cs=some cX-> ∃Qu:List Value,Instr.fill (λi=>Nj[i]?) us.toArray (parts.map λp=>(p.1,a.eval p.2))=some Qu.toArray/\Eb X w π st.heap cX Qu
 | [],cs,cX,us,hr,he=>by
  simp only [Jr,Aa] at he;subst he
  exact ⟨us,rfl,hr⟩
 |(f,x)::r,cs,cX,us,hr,he=>by
  simp only [Jr] at he
  split at he
  ·rename_i o u ho
   split at he
   ·rename_i ρ QY
    split at he
    ·rename_i c hc
     split at he
     ·rename_i hle
      obtain ⟨vs,hv,hl,JA⟩:=cP (Co h.2 x) hc
      have e1:=hr.1
      have e2:=JA.1
      obtain ⟨Qu,g1,g2⟩:=Zu hT h t Nj fa r _ cX _ (nq hr JA o hle) he
      refine ⟨Qu,?_,g2⟩
      simp only [Bl]
      rw [oU _ us f (a.eval x) _ o ρ.size vs (fa f o u ρ ho QY) hv hl (by omega)]
      exact g1
     ·cases he
    ·cases he
   ·cases he
  ·cases he
theorem bV (hT:De P T) {st:St} {a:Act} (h:Ax X π st a w) (t:TypeId) (parts:Array (Nat×Operand)) (av:AV) (he:Sn T st t parts=some av):
  ∃v',(Instr.build t (parts.map λ(i,x)=>(i,a.eval x))).run P w= .ok v' w/\Ba X w π st.heap av v':=by
 unfold Sn at he
 split at he
 ·cases he
 ·rename_i τ Sw
  split at he
  ·rename_i hs
   cases hb:Jr T st t parts.toList (zeroCells τ) with
   |none=>rw [hb] at he;cases he
   |some cX=>
    rw [hb] at he
    simp only [Ah,Aa] at he;subst he
    obtain ⟨fs,Nj,h1,h2,h3⟩:=hT.fill t τ Sw hs
    obtain ⟨i,hi,Qv,kP,mb⟩:=(hT.ty t τ Sw).info
    obtain ⟨Qu,g1,g2⟩:=Zu hT h t Nj h3 parts.toList (zeroCells τ) cX (Bb τ) (fF τ) hb
    refine ⟨.agg Qu.toArray,?_,Qu,rfl,g2⟩
    have hz:(zeroValue t).run P w= .ok (Bi τ (Bb τ)) w:=by simp [zeroValue,typeInfo,hi,mb]
    have BY:(Bi τ (Bb τ)).cells=(Bb τ).toArray:=by simp [Bi,hs,Value.cells]
    have HZ:=h2 w
    unfold placesOf at HZ
    have e1:(parts.map λ(i,x)=>(i,a.eval x)).toList=parts.toList.map λp=>(p.1,a.eval p.2):=by simp
    simp only [Instr.build,Sem.run_bind,hz,Result.andThen_ok,run_underlying h1,HZ,BY,e1,g1,Sem.run_pure]
  ·cases he
theorem mZ {st:St} {v:AV} (h:v.settled=true):settle st v=some (v,st):=by
 cases v with
 | «at»a=>cases a<;>simp [AV.settled,AC.settled] at h<;>simp [settle,AC.settled]
 |agg cs=>
  have hs:cs.all (·.settled)=true:=h
  have:Ff cs.length st cs=some (cs,st):=by
   cases hn:cs.length with
   |zero=>simp [Ff,hs]
   |succ n=>
    have hf:cs.find? (λc=>!c.settled)=none:=List.find?_eq_none.2 λc hc=>by simpa using Au.1 hs c hc
    simp [Ff,hf]
  simp [settle,this]
 |Wh fr τ x=>rfl
 |Jy l=>simp [AV.settled] at h
theorem iz {e:Ty} {st:St} : ∀(parts:List (Nat×Operand)) (i:Nat) (fr:Bool) (ys:List e.den),bp e i parts st=some (fr,ys)-> ∃tr,Is e i parts st=some (fr,tr,ys,st)
 | [],i,fr,ys,h=>by
  simp only [bp,Aa,Ab] at h
  obtain ⟨rfl,rfl⟩:=h
  exact ⟨true,rfl⟩
 |(j,x)::r,i,fr,ys,h=>by
  simp only [bp] at h
  split at h
  ·rename_i hc
   split at h
   ·rename_i f1 y f2 zs h1 h2
    simp only [Aa,Ab] at h
    obtain ⟨rfl,rfl⟩:=h
    obtain ⟨tr,h3⟩:=iz r (i+1) f2 zs h2
    refine ⟨Ph st (st.ev x)&&e.tree&&tr,?_⟩
    simp only [Is]
    rw [Af hc.1,mZ hc.2]
    simp only [h1,h3]
   ·cases h
  ·cases h
theorem iY (hT:De P T) {st:St} {a:Act} (h:Ax X π st a w) (t:TypeId) (len:Nat) (parts:Array (Nat×Operand)) (av:AV) (he:Ws T st t len parts=some av):
  ∃v' w' π',(Instr.buildSlice t len (parts.map λ(i,x)=>(i,a.eval x))).run P w= .ok v' w'/\Ax X π' st a w'/\Ba X w' π' st.heap av v':=by
 unfold Ws at he
 split at he
 ·cases he
 ·rename_i te fb
  split at he
  ·cases he
  ·rename_i e Sw
   split at he
   ·rename_i Ha
    obtain ⟨fa,hlen⟩:=Ha
    cases hp:bp e 0 parts.toList st with
    |none=>rw [hp] at he;cases he
    |some p=>
     obtain ⟨fr,ys⟩:=p
     rw [hp] at he
     simp only [Ah,Aa] at he
     subst he
     obtain ⟨tr,hb⟩:=iz _ _ _ _ hp
     obtain ⟨i,hi,Qv,kP,mb⟩:=(hT.ty te e Sw).info
     have hu:=hT.elem t te fb
     have yA:parts.toList.length=len:=by simpa using fa
     have hz: ∃z:Array Value,(len*e.size=0/\z= #[])\/(¬len*e.size=0/\(zeroValue te).run P w= .ok (Bi e (Bb e)) w/\z=(Bi e (Bb e)).cells):=by
      by_cases h0:len*e.size=0
      ·exact ⟨#[], .inl ⟨h0,rfl⟩⟩
      ·exact ⟨_, .inr ⟨h0,by simp [zeroValue,typeInfo,hi,mb],rfl⟩⟩
     obtain ⟨z,hz⟩:=hz
     obtain ⟨Xp,cl,g1,g2,g3,g4,g5,g6⟩:=Sj e parts.toList 0 st π fr tr ys st ((Array.range (len*e.size)).map (z[· %z.size]!)).toList h hb (by simp [yA])
     have Ol:cl.length=len*e.size:=by rw [g2.1,g3,yA]
     have BW:(Dd ((Array.range (len*e.size)).map (z[· %z.size]!)).toList (0*e.size) cl)=cl:=by
      simp [Dd,Ol]
     rw [BW] at g5
     have Qw:(Instr.buildSlice t len (parts.map λ(i,x)=>(i,a.eval x))).run P w= .ok (.slice (some ⟨w.heap.size,0,none⟩) len len) (w.alloc (.cells cl.toArray te)):=by
      have UP: ¬(len*e.size>2^24):=by
       have:len*e.size<=64*64:=Nat.mul_le_mul hlen.1 hlen.2
       omega
      simp only [Instr.buildSlice,Sem.run_bind,run_underlying hu,Result.andThen_ok,(hT.ty te e Sw).size,Aj UP]
      have e1:(parts.map λ(i,x)=>(i,a.eval x)).toList=parts.toList.map λp=>(p.1,a.eval p.2):=by simp
      simp only [e1]
      have e2:(((Array.range (len*e.size)).map (z[· %z.size]!)).toList.toArray)=(Array.range (len*e.size)).map (z[· %z.size]!):=Array.toArray_toList
      rw [e2] at g5
      rcases hz with ⟨h0,rfl⟩|⟨h0,hz,rfl⟩
      ·rw [Af h0]
       simp only [Sem.run_bind,Sem.run_pure,Result.andThen_ok,g5,newRow]
       simp
      ·rw [Aj h0]
       simp only [Sem.run_bind,Sem.run_pure,Result.andThen_ok,hz,g5,newRow]
       simp
     have qu:(w.alloc (.cells cl.toArray te)).heap[w.heap.size]?=some (.cells cl.toArray te (0,0)):=heap_alloc_new w _
     have hB:Below w.heap.size w (w.alloc (.cells cl.toArray te)):=(Below.refl _ _).alloc (Ao _) _
     have Im:=Ej qu
     refine ⟨_,_,Xp,Qw,g1.quiet hB,⟨[_],?_,rfl⟩⟩
     refine ⟨some ⟨w.heap.size,0,none⟩,len,len,rfl,by rw [g3,yA],Ao _, .inr ⟨w.heap.size,0,rfl,Im,λhA=>?_,λk x hx=>?_⟩⟩
     ·rcases hA with hA|hA|⟨_,hA⟩
      ·exact absurd (g1.1.own hA).1 (Nat.lt_irrefl _)
      ·exact absurd (Cy (g1.1.sc _ hA).1 g1.1.below.size) (Nat.lt_irrefl _)
      ·exact absurd (Cy hA g1.1.below.size) (Nat.lt_irrefl _)
     ·obtain ⟨es,k1,k2,k3⟩:=g2.2 k x hx
      refine ⟨es,k1,λj u hu=>?_,Cells.Ep hB.size (λb hb _=>hB.block b hb) (λ_ _ h=>h) e es x k3⟩
      rw [cellOf qu,Dp]
      simpa using k2 j u hu
   ·cases he
theorem sQ {Γ:Env} (hT:De P T) (Ls:Ib P Γ) {st:St} {a:Act} (h:Ax X π st a w) (o:Oper) (av:AV) (he:Se T Γ st o=some av):
  cG P X st a w av ((execOp a.eval o).run P w):=by
 obtain ⟨dst,op,ty,pos,af,gd⟩:=o
 have val: ∀(s:Sem Value) (v:Value) (w':World) (π':Pi),s.run P w= .ok v w'->Ax X π' st a w'->Ba X w' π' st.heap av v->(execOp a.eval ⟨dst,op,ty,pos,af,gd⟩=do pure (.value (<-s)))->
   cG P X st a w av ((execOp a.eval ⟨dst,op,ty,pos,af,gd⟩).run P w):=by
  intro s v w' π' h1 h2 h3 h4
  rw [h4,Sem.run_bind,h1]
  exact ⟨π',h2,h3⟩
 have quiet:Dq T Γ st ⟨dst,op,ty,pos,af,gd⟩=some av->cG P X st a w av ((execOp a.eval ⟨dst,op,ty,pos,af,gd⟩).run P w):=by
  intro hq
  have:=db hT Ls h _ av hq
  generalize (execOp a.eval ⟨dst,op,ty,pos,af,gd⟩).run P w=r at*
  cases r with
  |halt x w'=>exact this
  |ok n w'=>
   cases n<;>simp only [xe] at this<;>simp only [cG]
   ·obtain ⟨rfl,hr⟩:=this
    exact ⟨π,h,hr⟩
   ·obtain ⟨rfl,hc⟩:=this
    exact ⟨rfl,hc.mono λe kF ⟨v,hv,hb,hr⟩=>⟨v,hv,π,h.quiet hb,hr⟩⟩
 unfold Se at he
 split at he
 ·rename_i t len parts lh
  dsimp only at lh;subst lh
  obtain ⟨v,w',π',h1,h2,h3⟩:=iY hT h t len parts av he
  exact val _ v w' π' h1 h2 h3 rfl
 ·rename_i t parts lh
  dsimp only at lh;subst lh
  obtain ⟨v',h1,h2⟩:=bV hT h t parts av he
  exact val _ v' w π h1 h h2 rfl
 ·exact quiet he
theorem Zj {a:Act} : ∀(l:List Operand) {π:Pi} {st st1:St},Ax X π st a w->Km l st=some st1-> ∃π',Ax X π' st1 a w
 | [],π,st,st1,h,he=>by
  simp only [Km,Aa] at he
  subst he
  exact ⟨π,h⟩
 |x::r,π,st,st1,h,he=>by
  simp only [Km] at he
  cases hs:settle st (st.ev x) with
  |none=>rw [hs] at he;cases he
  |some p=>
   rw [hs] at he
   obtain ⟨Xp,h1,_⟩:=Xk h (Co h.2 x) hs
   exact Zj r h1 he
theorem ux {a:Act} {st:St} (h:Ax X π st a w) (p x:Operand): ∃π',Ax X π' (Ll T st p x) a w:=by
 unfold Ll
 split
 ·split
  ·split
   ·rename_i hs;exact Zj _ h hs
   ·exact ⟨π,h⟩
  ·exact ⟨π,h⟩
 ·exact ⟨π,h⟩
theorem ql {Γ:Env} (hT:De P T) (Ls:Ib P Γ) {st:St} {a:Act} (h:Ax X π st a w) (o:Oper) (av:AV) (st':St) (he:evalOp T Γ st o=some (av,st')):
  cG P X st' a w av ((execOp a.eval o).run P w):=by
 have quiet: ∀ {π:Pi} {st:St},Ax X π st a w->(Dq T Γ st o).map (λv=>(v,st))=some (av,st')->cG P X st' a w av ((execOp a.eval o).run P w):=by
  intro π st h he
  cases hq:Dq T Γ st o with
  |none=>rw [hq] at he;cases he
  |some v=>
   rw [hq] at he
   simp only [Ah,Aa,Ab] at he
   obtain ⟨rfl,rfl⟩:=he
   have:=db hT Ls h o v hq
   generalize (execOp a.eval o).run P w=r at*
   cases r with
   |halt x w'=>exact this
   |ok n w'=>
    cases n<;>simp only [xe] at this<;>simp only [cG]
    ·obtain ⟨rfl,hr⟩:=this
     exact ⟨π,h,hr⟩
    ·obtain ⟨rfl,hc⟩:=this
     exact ⟨rfl,hc.mono λe kF ⟨v,hv,hb,hr⟩=>⟨v,hv,π,h.quiet hb,hr⟩⟩
 obtain ⟨dst,op,ty,pos,af,gd⟩:=o
 have val: ∀(s:Sem Value) (v:Value) (w':World) (π':Pi),s.run P w= .ok v w'->Ax X π' st' a w'->Ba X w' π' st'.heap av v->(execOp a.eval ⟨dst,op,ty,pos,af,gd⟩=do pure (.value (<-s)))->
   cG P X st' a w av ((execOp a.eval ⟨dst,op,ty,pos,af,gd⟩).run P w):=by
  intro s v w' π' h1 h2 h3 h4
  rw [h4,Sem.run_bind,h1]
  exact ⟨π',h2,h3⟩
 unfold evalOp at he
 split at he
 all_goals (rename_i lh;dsimp only at lh;try subst lh)
 ·
  rename_i x
  split at he
  ·rename_i d te e hx hd ht
   split at he
   ·rename_i IK
    simp only [Aa,Ab] at he
    obtain ⟨rfl,rfl⟩:=he
    obtain ⟨k1,k2,_⟩:=mF h d IK (T.nO||e.flat) T.uF te e
    have LR:=Co h.2 x
    rw [hx] at LR
    have TO:a.eval x= .slice none 0 0:=LR
    show cG P X _ a w _ (.ok (.value (a.eval x)) w)
    rw [TO]
    exact ⟨_,k1,k2⟩
   ·cases he
  ·simp only [Aa,Ab] at he
   obtain ⟨rfl,rfl⟩:=he
   exact ⟨π,h,Co h.2 x⟩
 ·
  rename_i t
  split at he
  ·rename_i d τ hd ht
   obtain ⟨i,hi,Qv,kP,mb⟩:=(hT.ty t τ ht).info
   have hk: ∃π',Ax X π' st' a (w.alloc (.cells (Bb τ).toArray t))/\Ba X (w.alloc (.cells (Bb τ).toArray t)) π' st'.heap av (.pointer (some ⟨w.heap.size,0,none⟩)):=by
    split at he
    ·exact qY h d t (Mp τ) (Bb τ) (nD τ) av st' he
    ·exact kh h d t τ (zeroCells τ) (Bb τ) (fF τ) av st' he
   obtain ⟨π',k1,k2⟩:=hk
   have BY:(Bi τ (Bb τ)).cells=(Bb τ).toArray:=by
    cases τ<;>simp [Bi,Ty.Ak,Value.cells,Bb]
   refine val (Instr.alloc t true (.tuple #[])) _ _ π' ?_ k1 k2 rfl
   simp [Instr.alloc,zeroValue,typeInfo,hi,mb,newVar,newRow,BY]
  ·cases he
 ·
  rename_i t x
  split at he
  ·rename_i d τ hd ht
   split at he
   ·rename_i cs hc
    obtain ⟨us,hv,hl,hr⟩:=cP (Co h.2 x) hc
    have hk: ∃π',Ax X π' st' a (w.alloc (.cells us.toArray t))/\Ba X (w.alloc (.cells us.toArray t)) π' st'.heap av (.pointer (some ⟨w.heap.size,0,none⟩)):=by
     split at he
     ·split at he
      ·rename_i Yi
       cases XM:Dn st τ cs with
       |none=>rw [XM] at he;cases he
       |some p=>
        obtain ⟨fr,y⟩:=p
        rw [XM] at he
        simp only [Ah,Aa,Ab] at he
        obtain ⟨rfl,rfl⟩:=he
        have Ol:=Rz τ cs us fr y Yi hr XM
        have hB:Below w.heap.size w (w.alloc (.cells us.toArray t)):=(Below.refl _ _).alloc (Ao _) _
        have qu:(w.alloc (.cells us.toArray t)).heap[w.heap.size]?=some (.cells us.toArray t (0,0)):=heap_alloc_new w _
        refine ⟨π,h.quiet hB,[_], .inr ⟨y,w.heap.size,0,rfl,rfl,Ej qu,λhA=>?_,us,hl,λj u hu=>?_,Cells.Ep hB.size (λb hb _=>hB.block b hb) (λb _ hA=>?_) τ us y Ol⟩,by simp [Bi,Ty.Ak]⟩
        ·rcases hA with hA|hA|⟨hf,_⟩
         ·exact absurd (h.1.own hA).1 (Nat.lt_irrefl _)
         ·exact absurd (Cy (h.1.sc _ hA).1 h.1.below.size) (Nat.lt_irrefl _)
         ·cases hf
        ·rw [cellOf qu,Dp];simpa using hu
        ·exact hA.imp id (Or.imp id λ⟨h1,_⟩=>by cases h1)
      ·cases he
     ·exact kh h d t τ cs us hr av st' he
    obtain ⟨π',k1,k2⟩:=hk
    refine val (Instr.box t (a.eval x)) _ _ π' ?_ k1 k2 rfl
    simp [Instr.box,newVar,newRow,hv]
   ·cases he
  ·cases he
 ·
  rename_i t p x
  obtain ⟨π0,h⟩:=ux (T:=T) h p x
  cases hs:Mh T (Ll T st p x) t ((Ll T st p x).ev p) ((Ll T st p x).ev x) with
  |none=>rw [hs] at he;cases he
  |some s=>
   rw [hs] at he
   simp only [Ah,Aa,Ab] at he
   obtain ⟨rfl,rfl⟩:=he
   obtain ⟨w',π',h1,h2⟩:=j5 hT h t _ _ _ _ (Co h.2 p) (Co h.2 x) s hs
   have:(execOp a.eval ⟨dst, .store t p x,ty,pos,af,gd⟩).run P w= .ok .skip w':=by
    show (do Instr.storeAt t (a.eval p) (a.eval x);pure Next.skip:Sem Next).run P w=_
    rw [Sem.run_bind,h1];rfl
   rw [this]
   exact ⟨π',h2,trivial⟩
 ·
  rename_i t l c
  split at he
  ·rename_i d hd
   obtain ⟨v,w',π',h1,h2,h3⟩:=kM hT h d t _ _ _ _ (Co h.2 l) (Co h.2 c) av st' he
   exact val _ v w' π' h1 h2 h3 rfl
  ·cases he
 ·
  rename_i t
  split at he
  ·rename_i d hd
   obtain ⟨v,w',π',h1,h2,h3⟩:=gS hT h d t av st' he
   exact val _ v w' π' h1 h2 h3 rfl
  ·cases he
 ·
  rename_i t m k x
  cases hs:Gl T st t (st.ev m) (st.ev k) (st.ev x) with
  |none=>rw [hs] at he;cases he
  |some s=>
   rw [hs] at he
   simp only [Ah,Aa,Ab] at he
   obtain ⟨rfl,rfl⟩:=he
   obtain ⟨w',h1,h2⟩:=a6 hT h t _ _ _ _ _ _ (Co h.2 m) (Co h.2 k) (Co h.2 x) s hs
   have:(execOp a.eval ⟨dst, .mapUpdate t m k x,ty,pos,af,gd⟩).run P w= .ok .skip w':=by
    show (do Instr.mapUpdate t (a.eval m) (a.eval k) (a.eval x);pure Next.skip:Sem Next).run P w=_
    rw [Sem.run_bind,h1];rfl
   rw [this]
   exact ⟨π,h2,trivial⟩
 ·
  rename_i t m k x
  cases hs:Gl T st t (st.ev m) (st.ev k) (st.ev x) with
  |none=>rw [hs] at he;cases he
  |some s=>
   rw [hs] at he
   simp only [Ah,Aa,Ab] at he
   obtain ⟨rfl,rfl⟩:=he
   obtain ⟨w',h1,h2⟩:=a6 hT h t _ _ _ _ _ _ (Co h.2 m) (Co h.2 k) (Co h.2 x) s hs
   have:(execOp a.eval ⟨dst, .insert t m k x,ty,pos,af,gd⟩).run P w= .ok .skip w':=by
    show (do Instr.mapUpdate t (a.eval m) (a.eval k) (a.eval x);pure Next.skip:Sem Next).run P w=_
    rw [Sem.run_bind,h1];rfl
   rw [this]
   exact ⟨π,h2,trivial⟩
 ·
  rename_i t len parts
  split at he
  ·rename_i d hd
   obtain ⟨v,w',π',h1,h2,h3⟩:=cq hT h d t len parts av st' he
   exact val _ v w' π' h1 h2 h3 rfl
  ·cases he
 ·
  rename_i t parts
  cases hb:Sn T st t parts with
  |none=>rw [hb] at he;cases he
  |some v=>
   rw [hb] at he
   simp only [Ah,Aa,Ab] at he
   obtain ⟨rfl,rfl⟩:=he
   obtain ⟨v',h1,h2⟩:=bV hT h t parts v hb
   exact val _ v' w π h1 h h2 rfl
 ·
  rename_i args ts
  split at he
  ·rename_i d x y t t' hd No nT
   split at he
   ·rename_i Rb;subst Rb
    have e1:args= #[x,y]:=by apply Ma;simpa using No
    have e2:ts= #[t,t]:=by apply Ma;simpa using nT
    subst e1;subst e2
    obtain ⟨v,w',π',h1,h2,h3⟩:=gP hT h d t ty x y av st' he
    refine val (Builtin.append_ #[t,t] ty #[a.eval x,a.eval y]) v w' π' h1 h2 h3 ?_
    simp [execOp,resolve,invoke,builtin]
   ·cases he
  ·cases he
 ·
  rename_i args ts
  split at he
  ·rename_i x y t t' No nT
   have e1:args= #[x,y]:=by apply Ma;simpa using No
   have e2:ts= #[t,t']:=by apply Ma;simpa using nT
   subst e1;subst e2
   obtain ⟨v,w',h1,h2,h3⟩:=lU hT h t t' ty _ _ _ _ (Co h.2 x) (Co h.2 y) av st' he
   refine val (Builtin.copy_ #[t,t'] ty #[a.eval x,a.eval y]) v w' π h1 h2 h3 ?_
   simp [execOp,resolve,invoke,builtin]
  ·cases he
 ·
  rename_i args ts
  split at he
  ·rename_i x t No nT
   have e1:args= #[x]:=by apply Ma;simpa using No
   have e2:ts= #[t]:=by apply Ma;simpa using nT
   subst e1;subst e2
   cases hs:evalClear T st t (st.ev x) with
   |none=>rw [hs] at he;cases he
   |some s=>
    rw [hs] at he
    simp only [Ah,Aa,Ab] at he
    obtain ⟨rfl,rfl⟩:=he
    obtain ⟨v,w',h1,h2⟩:=kL hT h t ty _ _ (Co h.2 x) s hs
    refine val (Builtin.clear_ #[t] ty #[a.eval x]) v w' π h1 h2 trivial ?_
    simp [execOp,resolve,invoke,builtin]
  ·cases he
 ·
  rename_i f args ts
  split at he
  ·rename_i s QX
   have hs:Jd P f s:=Ls f _ QX
   have:=kK h hs dst (args.toList.map st.ev) (args.toList.map a.eval) (by simp) (λi c v=>dL h args.toList i c v) av st' he
   rw [dO a.eval f args ts dst ty pos af gd rfl hs.enter]
   refine ⟨rfl,?_⟩
   rwa [show (args.toList.map a.eval).toArray=args.map a.eval from by apply Ma;simp] at this
  ·rename_i s QX
   split at he
   ·cases hs:Km args.toList st with
    |none=>rw [hs] at he;cases he
    |some st1=>
     rw [hs] at he
     obtain ⟨Xp,h1⟩:=Zj args.toList h hs
     exact quiet h1 he
   ·exact quiet h he
  ·exact quiet h he
 ·exact quiet h he
end
end Go.Proofs.Ytfgfigkbgecfnaa
