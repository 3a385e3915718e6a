/-
  Part 23 of the proof that the statement FnExactSolveTwoPhaseWithin holds.
-/
import Derived.Test.YtfgfigkbgecfnaaCSolveTwoPhaseWithin21
namespace Go.Proofs.Ytfgfigkbgecfnaa
open Go.RowKit
section
variable {P:Program} {T:Tab} {X:Ctx} {w w':World} {π:Pi} {H:List (Nat×OB)}
theorem zr {π':Pi} {st':St} {a:Act} (h:Bs X π' st' a w) (k:Ll π π' H st'.heap) {fr:Bool} (τ:Ty) (cs:List Value) (x:τ.den) (hc:Cells w (Dk X.w0.heap.size X.Sc π fr) τ cs x):
  Cells w (Dk X.w0.heap.size X.Sc π' fr) τ cs x:=
 Cells.Gd (Ap _) (λ_ _ _=>rfl) (λb _ hA=>by
  rcases hA with ⟨l,r,hl,hg⟩|h2
  ·have hh:=h.1.heap l
   cases hb:Ay st'.heap l with
   |none=>have:=hh.emp hb;rw [this] at hl;cases hl
   |some b'=>have:=(k l b' hb).1;rw [this] at hl;exact .inl ⟨l,r,hl,hg⟩
  ·exact .inr h2) τ cs x hc
theorem iN.drop {F:List Nat} {l:Nat} (h:iN X w π F):iN X w (Xp π l none) F:=
 ⟨h.1,λb hb=>⟨(h.2 b hb).1,(h.2 b hb).2.1,λm r hm=>by
  by_cases e:m=l
  ·subst e;rw [Gx] at hm;cases hm
  ·rw [Gw π none e] at hm;exact (h.2 b hb).2.2 m r hm⟩⟩
theorem uF {st:St} {a:Act} (h:Bs X π st a w) (l:Nat) (hl:l<Bv) (f0 t0:Bool) (te:TypeId) (e:Ty):
  Bs X (Xp π l none) (st.new l (.arr f0 t0 e te [])) a w/\Bx X w (Xp π l none) (st.new l (.arr f0 t0 e te [])).heap (.at (.own l 0 0)) (.slice none 0 0)/\
   ∀fr τ cs x,Cells w (Dk X.w0.heap.size X.Sc π fr) τ cs x->Cells w (Dk X.w0.heap.size X.Sc (Xp π l none) fr) τ cs x:=
 ⟨h.replace l hl none _ (Qc w _) (λr hr=>by cases hr) (λ_=>rfl),
  HR (St.Hm st l _) (Ap _) (by rw [Gx];exact ⟨rfl,rfl,rfl⟩),
  fun fr τ cs x hc=>Cells.Gd (Ap _) (λ_ _ _=>rfl) (λb _ hA=>by
  rcases hA with ⟨m,r,hm,hg⟩|h2
  ·by_cases e:m=l
   ·subst e;rw [Gx] at hm;cases hm
   ·rw [Gw π none e] at hm;exact .inl ⟨m,r,hm,hg⟩
  ·exact .inr h2) τ cs x hc⟩
theorem Yo (hT:Ec P T) {st:St} {a:Act} (h:Bs X π st a w) (dst:Nat) (t ty:TypeId) (x y:Operand) (av:AV) (st':St) (he:Oo T st dst t x y=some (av,st')):
  ∃v' w' π',(Builtin.append_ #[t,t] ty #[a.eval x,a.eval y]).run P w= .ok v' w'/\Bs X π' st' a w'/\Bx X w' π' st'.heap av v':=by
 unfold Oo at he;split at he
 ·cases he
 ·rename_i te lL;split at he
  ·rename_i e y' st1 Xv hs;obtain ⟨cN,h1,h2,h3,h4,h5⟩:=cF h (Eb h.2 y) hs;split at he
   ·cases he
   ·rename_i sA ys hv;dsimp only at he
    have SO: ∀tr2,tr2=(e.flat||(Ud st (st.ev y)&&e.tree))->tr2=true->e.flat=true\/ ∃F,Dn w F (.slice e) [a.eval y] ys/\iN X w cN F:=by
     intro tr2 e2 o7;subst e2
     cases hef:e.flat with
     |true=>exact .inl rfl
     |false=>
     right
     simp only [hef,bM,Ak] at o7;obtain ⟨F,us,f1,f2,f3,_⟩:=h5 o7.1 (.slice e) sA ys o7.2 hv
     have hus:us= [a.eval y]:=by
      simp only [Dn] at f1;obtain ⟨a0,len,cap,rfl,_⟩:=f1;rw [f2];simp [Cj,Ty.Ar]
     rw [hus] at f1;exact ⟨F,f1,f3⟩
    have hyc:Cells w (Dk X.w0.heap.size X.Sc cN sA) (.slice e) [a.eval y] ys:=Dd.Sw rfl (Ni _ y' _ sA ys h3 h2 hv);have hxr:=Eb h1.2 x;split at he
    ·rename_i hx;rw [hx] at hxr;have hxv:a.eval x= .slice none 0 0:=hxr;split at he
     ·rename_i pJ;simp only [Aa,Ag] at he;obtain ⟨rfl,rfl⟩:=he
      obtain ⟨k1,k2,k3⟩:=uF h1 dst pJ.2 (T.tN||e.flat) T.DA te e
      have:=nB (ty:=ty) hT k1 lL Xv pJ.2 (fr3:=sA||e.flat) (tr2:=e.flat||(Ud st (st.ev y)&&e.tree)) rfl (St.Hm st1 dst _) k2 (k3 _ _ _ _ hyc) (by rw [Bl];exact pJ.1) (λht=>by
       rcases SO _ rfl ht with h0|⟨F,f1,f2⟩
       ·exact .inl h0
       ·exact .inr ⟨F,f1,f2.drop⟩)
      rw [<-hxv] at this;exact this
     ·cases he
    ·rename_i l off len hx;rw [hx] at hxr;split at he
     ·rename_i fr tr e' tid xs hl;split at he
      ·rename_i Kg;obtain ⟨rfl,rfl⟩:=Kg;split at he
       ·rename_i pJ;simp only [Aa,Ag] at he;obtain ⟨rfl,rfl⟩:=he
        exact nB (ty:=ty) hT h1 lL Xv pJ.2 (fr3:=sA||e'.flat) (tr2:=e'.flat||(Ud st (st.ev y)&&e'.tree)) rfl hl hxr hyc pJ.1 (SO _ rfl)
       ·cases he
      ·cases he
     ·cases he
    ·cases he
  ·cases he
theorem nO (hT:Ec P T) {st:St} {a:Act} (h:Bs X π st a w) (dst:Nat) (t ty:TypeId) (x y:Operand) (av:AV) (st':St) (he:Si T st dst t x y=some (av,st')):
  ∃v' w' π',(Builtin.append_ #[t,t] ty #[a.eval x,a.eval y]).run P w= .ok v' w'/\Bs X π' st' a w'/\Bx X w' π' st'.heap av v':=by
 unfold Si at he;split at he
 ·rename_i tx;split at he
  ·rename_i l i c hg;split at he
   ·rename_i e te rows kp tid hl _;split at he
    ·rename_i hc;simp only [Ak,Nv,Fy] at hc
     have l8:dst≠l:= λe=>by rw [e,Nat.beq_refl] at hc;cases hc.2.2
     unfold St.at at hl
     have hv:Hw X w π st.heap (.sub l i c) (a.tmps.getD tx undef):=by
      have:=h.2.tmps tx;rw [hg] at this;exact this
     obtain ⟨cN,h1,h2⟩:=MK (tid:=tid) h hl l8 hc.2.1 hc.1 hv;have h3:=h1.put (some tx) (c:= .at (.own dst 0 (rows.getD i []).length)) h2
     have Aq8:a.put (some tx) (a.tmps.getD tx undef)=a:=by
      have:a.tmps.setIfInBounds tx (a.tmps.getD tx undef)=a.tmps:=by
       apply Array.ext_getElem?
       intro k;rw [Array.getElem?_setIfInBounds];split
       ·rename_i e;subst e;split
        ·rename_i Kr;rw [Array.getElem?_eq_getElem Kr];simp
        ·rename_i Kr;rw [Array.getElem?_eq_none (by omega)]
       ·rfl
      simp only [Act.put,this]
     rw [Aq8] at h3;exact Yo hT h3 dst t ty (.tmp tx) y av st' he
    ·cases he
   ·cases he
  ·exact Yo hT h dst t ty _ y av st' he
 ·exact Yo hT h dst t ty x y av st' he
theorem QY {S:Nat->Prop} {e:Ty} (h:nq e=true): ∃z,Cd e= [z]/\e.Ar=false/\e.size=1/\Cells w S e [z] e.zero/\z.oneCell'=true:=by
 cases e<;>simp [nq] at h
 ·exact ⟨_,rfl,rfl,rfl,rfl,rfl⟩
 ·exact ⟨_,rfl,rfl,rfl,rfl,rfl⟩
 ·exact ⟨_,rfl,rfl,rfl,rfl,rfl⟩
 ·exact ⟨_,rfl,rfl,rfl,⟨none,0,0,rfl,rfl,Ap _, .inl rfl⟩,rfl⟩
 ·exact ⟨_,rfl,rfl,rfl, .inl ⟨rfl,0,rfl⟩,rfl⟩
theorem KZ {e:Ty} {z:Value} (ht:e.tree=true) (h:nq e=true) (hz:Cd e= [z]):Dn w [] e [z] e.zero:=by
 cases e<;>simp [nq] at h<;>simp only [Cd,Hi,bz] at hz<;>subst hz<;>try (simp [Ty.tree] at ht;done)
 ·exact ⟨rfl,rfl⟩
 ·exact ⟨rfl,rfl⟩
 ·exact ⟨rfl,rfl⟩
 ·exact ⟨none,0,0,rfl,rfl,Ap _, .inl ⟨rfl,rfl,rfl,rfl⟩⟩
theorem Ae6 {S:Nat->Prop} : ∀(e:Ty),gV e=true->(Cd e).length=e.size/\Cells w S e (Cd e) e.zero/\(e.tree=true->Dn w [] e (Cd e) e.zero):=by
 intro e
 induction e with
 |unit=>intro _;exact ⟨rfl,rfl,λ_=>⟨rfl,rfl⟩⟩
 |pair a r iL iH=>
  intro h;simp only [gV,Ak] at h;obtain ⟨a1,a2,a3⟩:=iL h.1;obtain ⟨r1,r2,r3⟩:=iH h.2;exact ⟨by simp [Cd,Ty.size,a1,r1],⟨_,_,rfl,a2,r2⟩,λht=>by simp only [Ty.tree,Ak] at ht;exact ⟨_,_,[],[],rfl,rfl,a3 ht.1,r3 ht.2⟩⟩
 |_=>
  intro h;simp only [gV] at h;obtain ⟨z,z1,z2,z3,z4,_⟩:=QY (w:=w) (S:=S) h;exact ⟨by rw [z1,z3];rfl,by rw [z1];exact z4,λht=>by rw [z1];exact KZ ht h z1⟩
theorem TD {z:Array Value} {s m j q:Nat} (hz:z.size=s) (hj:j<m) (hq:q<s):(madeCells z (m*s))[j*s+q]?=z[q]?:=by
 have h1:j*s+q<m*s:=by
  have:=Fk s (show j+1<=m by omega);rw [Nat.succ_mul] at this;omega
 have h2:(j*s+q)%z.size=q:=by rw [hz,Nat.mul_comm,Nat.mul_add_mod,Nat.mod_eq_of_lt hq]
 have h3:q<z.size:=by omega
 unfold madeCells;simp [h1,h2,h3]
theorem tG (hT:Ec P T) {st:St} {a:Act} (h:Bs X π st a w) (dst:Nat) (t:TypeId) (l c:AV) (vl vc:Value) (hl:Bx X w π st.heap l vl) (hc:Bx X w π st.heap c vc) (av:AV) (st':St)
  (he:bZ T st dst t l c=some (av,st')): ∃v' w' π',(Instr.makeSlice t vl vc).run P w= .ok v' w'/\Bs X π' st' a w'/\Bx X w' π' st'.heap av v':=by
 unfold bZ at he;split at he
 ·rename_i te fr1 k1 n sA k2 m lL;have:=Qj hl;subst this;have:=Qj hc;subst this;split at he
  ·rename_i e Xv;split at he
   ·rename_i Kg;obtain ⟨h0,hnm,hz,YO⟩:=Kg;obtain ⟨h1,h2⟩:=Uz.1 h0;subst hnm;simp only [Aa,Ag] at he;obtain ⟨rfl,rfl⟩:=he;obtain ⟨i,hi,Wi,sa,tZ⟩:=(hT.ty te e Xv).info
    obtain ⟨z1,z4,z5⟩:=Ae6 (w:=w) (S:=Dk X.w0.heap.size X.Sc π (T.tN||e.flat)) e hz
    have hzc:(Cj e (Cd e)).cells=(Cd e).toArray:=Lp e _ _ z4;have hu:=hT.elem t te lL
    have hn:n.toNat<=4294967296:=by unfold Db at h2;omega
    have hr:=run_make (P:=P) (w:=w) t te i _ hu hi tZ k1 k2 n n h1 (Ku _) (by
     have:(i.bytes:Int)*n<=256*4294967296:=by
      obtain ⟨nn,rfl⟩:=Ba h1;have h7:i.bytes*nn<=256*4294967296:=Nat.mul_le_mul sa (by simpa using hn)
      have h8:((i.bytes*nn:Nat):Int)<=256*4294967296:=by omega
      rwa [Int.natCast_mul] at h8
     omega) (by unfold Db at h2;omega)
    rw [hzc,Wi] at hr
    have Uj:((Cd e).toArray).size=e.size:=by simpa using z1
    have cell: ∀j,j<n.toNat-> ∀q u,(Cd e)[q]?=some u->(madeCells (Cd e).toArray (n.toNat*e.size)).toList[j*e.size+q]?=some u:=by
     intro j hj q u hu
     have hq:q<e.size:=by rw [<-z1];exact (Ao.1 hu).1
     have:=TD Uj hj hq;rw [Array.getElem?_toList,this];simpa using hu
    have:=gl (w1:=w.alloc (.cells (madeCells (Cd e).toArray (n.toNat*e.size)) te)) h dst YO (T.tN||e.flat) (T.DA&&e.tree) e te (List.replicate n.toNat e.zero) (madeCells (Cd e).toArray (n.toNat*e.size)).toList (madeCells (Cd e).toArray (n.toNat*e.size)) n.toNat []
     (.inr rfl) (by rw [size_madeCells]) (by unfold maxLen;omega) (by simp)
     (λk u hu=>by
      rw [Array.getElem?_toList] at hu;exact hu) ⟨by simp [size_madeCells],λj x hx=>by
       have hj:=(Ao.1 hx).1;simp only [Ei] at hj;refine ⟨Cd e,z1,λq u hu=>cell j hj q u hu,?_⟩
       rw [Gf (Cs hx)];exact z4⟩ (by simp) (λo7=>⟨Mc,List.replicate n.toNat [],by simp,by simp,λj x F hx hF=>by
      have hj:=(Ao.1 hx).1;simp only [Ei] at hj;refine ⟨Cd e,z1,λq u hu=>cell j hj q u hu,?_⟩;have e1:=Gf (Cs hx);have e2:=Gf (Cs hF);rw [e1,e2]
      exact z5 (by simp only [Ak] at o7;exact o7.2)⟩)
    exact ⟨_,_,_,hr,this.1,this.2 _ (by simp)⟩
   ·cases he
  ·cases he
 ·cases he
theorem jg (off:Nat): ∀(us:List Value) (k:Nat) (cells:List Value),off+k+us.length<=cells.length->
  (us.zipIdx k).foldl (λcs p=>cs.setIfInBounds (off+p.2) p.1) cells.toArray=(Du cells (off+k) us).toArray
 | [],k,cells,h=>by simp [Du]
 |u::us,k,cells,h=>by
  simp only [List.zipIdx_cons,Ro];rw [show cells.toArray.setIfInBounds (off+k) u=(cells.set (off+k) u).toArray by simp];rw [jg off us (k+1) (cells.set (off+k) u) (by simp at h⊢;omega)]
  congr 1
  apply List.ext_getElem?
  intro j;have hl:off+k+(u::us).length<=cells.length:=h
  have cU:off+(k+1)+us.length<=(cells.set (off+k) u).length:=by simp at h⊢;omega
  rw [Im _ _ _ _ hl,Im _ _ _ _ cU];simp only [Aw]
  by_cases h1:j<off+k
  ·rw [Ac (by omega),Ac h1,List.getElem?_set_ne (by omega)]
  ·rw [Ai h1]
   by_cases h2:j=off+k
   ·subst h2;rw [Ac (by omega),Ac (by omega),aQ (by simp at h;omega)];simp
   ·rw [Ai (by omega)]
    by_cases h3:j<off+k+(us.length+1)
    ·rw [Ac (by omega),Ac h3];rw [show j-(off+k)=(j-(off+(k+1)))+1 by omega,Kj]
    ·rw [Ai (by omega),Ai h3,List.getElem?_set_ne (by omega)]
theorem xR (place:Nat->Option (Nat×Nat)) (cells:List Value) (i:Nat) (v:Value) (rest:List (Nat×Value)) (off size:Nat) (us:List Value) (hp:place i=some (off,size)) (hv:v.cells=us.toArray)
  (hl:us.length=size) (hle:off+size<=cells.length):Instr.fill place cells.toArray ((i,v)::rest)=Instr.fill place (Du cells off us).toArray rest:=by
 simp only [Instr.fill,hp,hv,Hk,hl];rw [Ai (by simp;omega)]
 congr 1
 have:=jg off us 0 cells (by omega);simp only [El] at this;rw [<-this];simp
theorem Yk (e:Ty) {a:Act} : ∀(parts:List (Nat×Operand)) (i:Nat) (st:St) (π:Pi) (fr tr:Bool) (ys:List e.den) (st':St) (cells:List Value),Bs X π st a w->Lz e i parts st=some (fr,tr,ys,st')->
  (i+parts.length)*e.size<=cells.length->
  ∃π' cl,Bs X π' st' a w/\Flat w (Dk X.w0.heap.size X.Sc π' fr) e cl ys/\ys.length=parts.length/\Ll π π' st.heap st'.heap/\
   Instr.fill (λi=>some (i*e.size,e.size)) cells.toArray (parts.map λp=>(p.1,a.eval p.2))=some (Du cells (i*e.size) cl).toArray/\
   (tr=true-> ∃Fs,Tp w e cl ys Fs/\iN X w π' (List.flatten Fs)/\ ∀b∈List.flatten Fs,∃l r,π l=some r/\r.cl b)
 | [],i,st,π,fr,tr,ys,st',cells,h,he,hle=>by
  simp only [Lz,Aa,Ag] at he;obtain ⟨rfl,rfl,rfl,rfl⟩:=he;exact ⟨π,[],h,Flat.nil,rfl,Ll.refl _ _,by simp [Instr.fill,Du],λ_=>⟨[],⟨rfl,λi z F hz=>by simp at hz⟩,⟨Mc,by simp⟩,by simp⟩⟩
 |(j,x)::r,i,st,π,fr,tr,ys,st',cells,h,he,hle=>by
  simp only [Lz] at he;split at he
  ·rename_i fU;subst fU;split at he
   ·rename_i v' st1 hs;obtain ⟨cN,h1,h2,h3,h4,h5⟩:=cF h (Eb h.2 x) hs;split at he
    ·rename_i fr1 y hv;split at he
     ·rename_i sA tr2 zs st2 hr;simp only [Aa,Ag] at he;obtain ⟨rfl,rfl,rfl,rfl⟩:=he;obtain ⟨es,fy,MZ⟩:=Ni e v' _ fr1 y h3 h2 hv;have lI:=Cells.len e es y fy
      have Avs:i*e.size+e.size<=cells.length:=by
       have:(i+1)*e.size<=(i+((i,x)::r).length)*e.size:=Fk _ (by simp);rw [Dr,Wm] at this;omega
      have SD:i*e.size+es.length<=cells.length:=by omega
      obtain ⟨YI,cl,g1,g2,g3,g4,g5,g6⟩:=Yk e r (i+1) st1 cN sA tr2 zs st2 (Du cells (i*e.size) es) h1 hr (by
       rw [Jf _ _ _ SD]
       rw [show i+1+r.length=i+((i,x)::r).length by simp;omega];exact hle)
      have f1:Flat w (Dk X.w0.heap.size X.Sc YI fr1) e es [y]:=⟨by simp [lI],λq z hz=>by
       rcases q with _|q
       ·simp at hz;subst hz;exact ⟨es,lI,λj u hu=>by simpa using hu,zr g1 g4 e es y fy⟩
       ·simp at hz⟩
      refine ⟨YI,es++cl,g1,?_,by simp [g3],h4.trans g4,?_,λht=>?_⟩
      ·have:=(f1.cells λes z hc=>hc.and_left (f2:=sA)).append (g2.cells λes z hc=>hc.and_right (f1:=fr1));simpa using this
      ·simp only [Cb];rw [xR _ cells i (a.eval x) _ (i*e.size) e.size es rfl (by rw [MZ];exact Lp e es y fy) lI Avs,g5]
       congr 2
       have Ra:cl.length=r.length*e.size:=by rw [g2.1,g3]
       have Wz:(i+1)*e.size+cl.length<=(Du cells (i*e.size) es).length:=by
        rw [Jf _ _ _ SD,Ra,<-Dr];rw [show i+1+r.length=i+((i,x)::r).length by simp;omega];exact hle
       have Ap3:i*e.size+(es++cl).length<=cells.length:=by
        rw [Jf _ _ _ SD] at Wz;rw [Av,lI];rw [Dr,Wm] at Wz;omega
       have e1:(i+1)*e.size=i*e.size+es.length:=by rw [Dr,Wm,lI]
       apply List.ext_getElem?
       intro k;rw [Im _ _ _ _ Wz,Im _ _ _ _ Ap3,Im _ _ _ _ SD,e1,Av]
       by_cases k1:k<i*e.size
       ·rw [Ac (by omega),Ac k1,Ac k1]
       ·rw [Ai k1,Ai k1]
        by_cases k2:k<i*e.size+es.length
        ·rw [Ac k2,Ac k2,Ac (by omega),Au (by omega)]
        ·rw [Ai k2,Ai k2]
         by_cases k3:k<i*e.size+es.length+cl.length
         ·rw [Ac k3,Ac (by omega),As (by omega)]
          congr 1;omega
         ·rw [Ai k3,Ai (by omega)]
      ·simp only [Ak] at ht;obtain ⟨⟨ht1,ht2⟩,ht3⟩:=ht;obtain ⟨F,us,t1,t2,t3,t7⟩:=h5 ht1 e fr1 y ht2 hv;obtain ⟨Fs,t4,t5,t6⟩:=g6 ht3
       have hus:us=es:=by
        have c1:=Dn.cells (S:= λ_=>False) F e us y t1 (λ_ _ h=>h);have a1:=Lp e us y c1;have a2:=Lp e es y fy;rw [<-t2,MZ,a2] at a1;simpa using a1.symm
       subst hus;refine ⟨F::Fs,?_,?_,λb hb=>?_⟩
       ·have k1:Tp w e us [y] [F]:=⟨rfl,λq z G hz hG=>by
         rcases q with _|q
         ·simp at hz hG;subst hz;subst hG;exact ⟨us,lI,λj u hu=>by simpa using hu,t1⟩
         ·simp at hz⟩
        exact Tp.append (by simp [lI]) k1 t4
       ·rw [Ls];refine ⟨Ee.2 ⟨t3.1,t5.1,λb hb b' sD e=>?_⟩,λb hb=>?_⟩
        ·subst e;obtain ⟨l,r,q1,q2⟩:=t6 b sD;exact (t3.2 b hb).2.2 l r q1 q2
        ·rcases Be.1 hb with hb|hb
         ·have:=t3.2 b hb;refine ⟨this.1,this.2.1,λl r q1 q2=>?_⟩
          cases hh:Ay st2.heap l with
          |none=>rw [(g1.1.heap l).emp hh] at q1;cases q1
          |some b'=>exact this.2.2 l r ((g4 l b' hh).1▸q1) q2
         ·exact t5.2 b hb
       ·rw [Ls] at hb;rcases Be.1 hb with hb|hb
        ·exact t7 b hb
        ·obtain ⟨l,r,q1,q2⟩:=t6 b hb
         cases hh:Ay st1.heap l with
         |none=>rw [(h1.1.heap l).emp hh] at q1;cases q1
         |some b'=>exact ⟨l,r,(h4 l b' hh).1▸q1,q2⟩
     ·cases he
    ·cases he
   ·cases he
  ·cases he
theorem jb (hT:Ec P T) {st:St} {a:Act} (h:Bs X π st a w) (dst:Nat) (t:TypeId) (len:Nat) (parts:Array (Nat×Operand)) (av:AV) (st':St)
  (he:My T st dst t len parts=some (av,st')):
  ∃v' w' π',(Instr.buildSlice t len (parts.map λ(i,x)=>(i,a.eval x))).run P w= .ok v' w'/\Bs X π' st' a w'/\Bx X w' π' st'.heap av v':=by
 unfold My at he;split at he
 ·cases he
 ·rename_i te lL;split at he
  ·cases he
  ·rename_i e Xv;split at he
   ·rename_i Kg;obtain ⟨js,hlen⟩:=Kg;split at he
    ·rename_i fr tr ys st1 hb;simp only [Aa,Ag] at he;obtain ⟨rfl,rfl⟩:=he;obtain ⟨i,hi,Wi,sa,tZ⟩:=(hT.ty te e Xv).info;have hu:=hT.elem t te lL
     have UX:parts.toList.length=len:=by simpa using js
     have hz: ∃z:Array Value,(len*e.size=0/\z= #[])\/(¬len*e.size=0/\(zeroValue te).run P w= .ok (Cj e (Cd e)) w/\z=(Cj e (Cd e)).cells):=by
      by_cases h0:len*e.size=0
      ·exact ⟨#[], .inl ⟨h0,rfl⟩⟩
      ·exact ⟨_, .inr ⟨h0,by simp [zeroValue,typeInfo,hi,tZ],rfl⟩⟩
     obtain ⟨z,hz⟩:=hz;obtain ⟨cN,cl,g1,g2,g3,g4,g5,g6⟩:=Yk e parts.toList 0 st π fr tr ys st1 ((Array.range (len*e.size)).map (z[· %z.size]!)).toList h hb (by simp [UX])
     have Ra:cl.length=len*e.size:=by rw [g2.1,g3,UX]
     have GI:(Du ((Array.range (len*e.size)).map (z[· %z.size]!)).toList (0*e.size) cl)=cl:=by
      simp [Du,Ra]
     rw [GI] at g5
     have Wj:(Instr.buildSlice t len (parts.map λ(i,x)=>(i,a.eval x))).run P w= .ok (.slice (some ⟨w.heap.size,0,none⟩) len len) (w.alloc (.cells cl.toArray te)):=by
      have h24: ¬(len*e.size>2^24):=by
       have:len*e.size<=64*64:=Nat.mul_le_mul hlen.1 hlen.2.1;omega
      simp only [Instr.buildSlice,Sem.run_bind,run_underlying hu,Result.andThen_ok,(hT.ty te e Xv).size,Ai h24]
      have e1:(parts.map λ(i,x)=>(i,a.eval x)).toList=parts.toList.map λp=>(p.1,a.eval p.2):=by simp
      simp only [e1];have e2:(((Array.range (len*e.size)).map (z[· %z.size]!)).toList.toArray)=(Array.range (len*e.size)).map (z[· %z.size]!):=Array.toArray_toList;rw [e2] at g5;rcases hz with ⟨h0,rfl⟩|⟨h0,hz,rfl⟩
      ·rw [Ac h0];simp only [Sem.run_bind,Sem.run_pure,Result.andThen_ok,g5,newRow];simp
      ·rw [Ai h0];simp only [Sem.run_bind,Sem.run_pure,Result.andThen_ok,hz,g5,newRow];simp
     have hN: ∃N:List Nat,(∀b∈N,(X.w0.heap.size<=b\/X.gv b)/\b<w.heap.size/\ ∀m r0,m≠dst->cN m=some r0-> ¬r0.cl b)/\(tr=true->N.Nodup/\ ∃Fs,List.flatten Fs=N/\Tp w e cl ys Fs):=by
      cases tr with
      |false=>exact ⟨[],by simp,λh=>by cases h⟩
      |true=>
       obtain ⟨Fs,t1,t2,_⟩:=g6 rfl;exact ⟨_,λb hb=>⟨(t2.2 b hb).1,(t2.2 b hb).2.1,λm r0 _=>(t2.2 b hb).2.2 m r0⟩,λ_=>⟨t2.1,Fs,rfl,t1⟩⟩
     obtain ⟨N,q1,q2⟩:=hN
     have:=gl (w1:=w.alloc (.cells cl.toArray te)) g1 dst hlen.2.2 ((T.tN||e.flat)&&fr) (T.DA&&tr) e te ys cl cl.toArray len N (.inr rfl) (by simpa using Ra) (by simp only [maxLen];omega) (by omega) (λk u hu=>by simpa using hu) (g2.cells λes z hc=>hc.and_right) q1 (λht=>q2 (by simp only [Ak] at ht;exact ht.2))
     exact ⟨_,_,_,Wj,this.1,this.2 _ (by omega)⟩
    ·cases he
   ·cases he
theorem mE {t te:TypeId} {e:Ty} (h:eM T t=some (te,e)):T.elem t=some te/\T.ty te=some (.slice e):=by
 unfold eM at h
 cases he:T.elem t with
 |none=>rw [he] at h;cases h
 |some Rx=>
  rw [he] at h;simp only [Ew] at h
  cases hg:T.RW Rx with
  |none=>rw [hg] at h;cases h
  |some e'=>
   rw [hg] at h;simp only [An,Aa,Ag] at h;obtain ⟨rfl,rfl⟩:=h;refine ⟨rfl,?_⟩;unfold Tab.RW at hg;split at hg
   ·split at hg
    ·rename_i Xv;simp only [Aa] at hg;subst hg;exact Xv
    ·cases hg
   ·cases hg
theorem nD (w:World) (o:Obj):Lk w.heap.size (λ_=>False) w (w.alloc o):=⟨rfl,rfl,rfl,by simp,λk hk _=>Below.heap_alloc w _ k hk⟩
theorem qJ (w:World) (o:Obj):Lk w.heap.size (λ_=>False) w (w.drew.alloc o):=⟨rfl,rfl,rfl,by simp,λk hk _=>Below.heap_alloc w.drew _ k hk⟩
theorem s8 (hT:Ec P T) {st:St} {a:Act} (h:Bs X π st a w) (dst:Nat) (t:TypeId) (l c:AV) (vl vc:Value) (hl:Bx X w π st.heap l vl) (hc:Bx X w π st.heap c vc) (av:AV) (st':St)
  (he:Ys T st dst t l c=some (av,st')): ∃v' w' π',(Instr.makeSlice t vl vc).run P w= .ok v' w'/\Bs X π' st' a w'/\Bx X w' π' st'.heap av v':=by
 unfold Ys at he;split at he
 ·exact tG hT h dst t l c vl vc hl hc av st' he
 ·rename_i te e hg;obtain ⟨lL,Xv⟩:=mE hg;split at he
  ·rename_i fr1 k1 n sA k2 m;have:=Qj hl;subst this;have:=Qj hc;subst this;split at he
   ·rename_i Kg;obtain ⟨h0,hnm,YO⟩:=Kg;obtain ⟨h1,h2⟩:=Uz.1 h0;subst hnm;simp only [Aa,Ag] at he;obtain ⟨rfl,rfl⟩:=he;obtain ⟨i,hi,Wi,sa,tZ⟩:=(hT.ty te _ Xv).info;have hu:=hT.elem t te lL
    have hn:n.toNat<=4294967296:=by unfold Db at h2;omega
    have hr:=run_make (P:=P) (w:=w) t te i _ hu hi tZ k1 k2 n n h1 (Ku _) (by
     have:(i.bytes:Int)*n<=256*4294967296:=by
      obtain ⟨nn,rfl⟩:=Ba h1;have h7:i.bytes*nn<=256*4294967296:=Nat.mul_le_mul sa (by simpa using hn)
      have h8:((i.bytes*nn:Nat):Int)<=256*4294967296:=by omega
      rwa [Int.natCast_mul] at h8
     omega) (by unfold Db at h2;omega)
    have hzc:(Cj (Ty.slice e) (Cd (Ty.slice e))).cells= #[.slice none 0 0]:=by simp [Cj,Ty.Ar,Cd,Value.cells]
    have ld:(Ty.slice e).size=1:=rfl;rw [hzc,Wi,ld] at hr
    have cell: ∀j,j<n.toNat->(madeCells #[Value.slice none 0 0] (n.toNat*1))[0+j]?=some (.slice none 0 0):=by
     intro j hj;have:=TD (z:= #[Value.slice none 0 0]) (s:=1) (m:=n.toNat) (j:=j) (q:=0) rfl hj (by omega);simp only [Gm,El] at this;simp only [Gm,Bl];rw [this];rfl
    obtain ⟨π',g1,g2⟩:=ai (w1:=w.alloc (.cells (madeCells #[Value.slice none 0 0] (n.toNat*1)) te)) (gv:= λ_=>False) h YO YO te (e:=e) (rows:=List.replicate n.toNat []) (us:=List.replicate n.toNat (.slice none 0 0)) (Rs:=List.replicate n.toNat none) (g:=w.heap.size) (o:=0) (cap:=n.toNat)
     (λ_ hf=>hf.elim) (nD w _) ⟨.inl (Ap _),by simp⟩ (heap_alloc_new w _) (by rw [size_madeCells];omega) (by unfold maxLen;omega) (by simp) (λj u hu=>by
      have hj:=(Ao.1 hu).1;simp only [Ei] at hj
      rw [cell j hj,Gf (Cs hu)])
     ⟨by simp,by simp,λi j q q' h1=>(by have:=Gf (Cs h1);cases this),λi x hx=>by
      have hj:=(Ao.1 hx).1;simp only [Ei] at hj;rw [Gf (Cs hx)]
      exact ⟨.slice none 0 0,none,by rw [Zs,Ac hj],by rw [Zs,Ac hj],⟨rfl,rfl,rfl⟩,rfl⟩⟩
     (λi q h1=>by have:=Gf (Cs h1);cases this)
    exact ⟨_,_,π',hr,g1,g2 _ (by simp)⟩
   ·cases he
  ·cases he
theorem iB (hT:Ec P T) {st:St} {a:Act} (h:Bs X π st a w) (dst:Nat) (t:TypeId) (len:Nat) (parts:Array (Nat×Operand)) (av:AV) (st':St)
  (he:Jk T st dst t len parts=some (av,st')):
  ∃v' w' π',(Instr.buildSlice t len (parts.map λ(i,x)=>(i,a.eval x))).run P w= .ok v' w'/\Bs X π' st' a w'/\Bx X w' π' st'.heap av v':=by
 unfold Jk at he;split at he
 ·exact jb hT h dst t len parts av st' he
 ·rename_i te e hg;obtain ⟨lL,Xv⟩:=mE hg;split at he
  rotate_left
  ·cases he
  rename_i x Akw;split at he
  rotate_left
  ·cases he
  rename_i m off ln hx;split at he
  rotate_left
  ·cases he
  rename_i fr tr e' tid xs hm;split at he
  rotate_left
  ·cases he
  rename_i hc;obtain ⟨rfl,hc,rfl,rfl⟩:=hc;simp only [Ak,Nv] at hc;obtain ⟨hlen,YO,hmp⟩:=hc;have hlen:len=1:=Kd hlen;subst hlen;simp only [Aa,Ag] at he;obtain ⟨rfl,rfl⟩:=he;have hu:=hT.elem t te lL;unfold St.at at hm;have hrx:=Eb h.2 x;rw [hx] at hrx;obtain ⟨_,wo⟩:=Pe (X:=X) (w:=w) hrx hm;obtain ⟨ax,nx,cx,hvx⟩:=bp wo
  have hp:parts= #[(0,x)]:=by apply Pr;simpa using Akw
  subst hp;obtain ⟨i,hi,Wi,sa,tZ⟩:=(hT.ty te _ Xv).info
  have Wj:(Instr.buildSlice t 1 (#[(0,x)].map λ(i,x)=>(i,a.eval x))).run P w= .ok (.slice (some ⟨w.heap.size,0,none⟩) 1 1) (w.alloc (.cells #[a.eval x] te)):=by
   have ld:(Ty.slice e').size=1:=rfl
   have hz:(zeroValue te).run P w= .ok (.slice none 0 0) w:=by simp [zeroValue,typeInfo,hi,tZ,Cj,Ty.Ar,Cd]
   have hmp:(#[(0,x)].map λ(i,x)=>(i,a.eval x))= #[(0, .slice ax nx cx)]:=by simp [hvx]
   rw [hmp,hvx];simp only [Instr.buildSlice,Sem.run_bind,run_underlying hu,Result.andThen_ok,(hT.ty te _ Xv).size,ld];simp [Value.cells,Instr.fill,newRow,hz]
   congr 2
   apply Array.ext
   ·simp
   ·intro i h1 h2
    have h0:i=0:=by simpa using h2
    subst h0;simp
  have LC:=(h.1.heap m).Se hm;simp only [Cq,Km] at LC
  have hfa:Tr w (Dk X.w0.heap.size X.Sc π false) (π m) e' xs:=by
   cases hR:π m with
   |none=>rw [hR] at LC;exact LC
   |some q=>
    rw [hR] at LC;obtain ⟨⟨f0,f0',_⟩,cu,ti',f2,f3,f4,f5,f6,_⟩:=LC
    exact ⟨⟨f0,f0'⟩,cu,ti',f2,f3,f4,f5,λp y hy=>by
     obtain ⟨es,g1,g2,g3⟩:=f6 p y hy
     exact ⟨es,g1,g2,Cells.Gd (Ap _) (λ_ _ _=>rfl) (λb _ hA=>hA.imp id (Or.imp id λ⟨h1,_⟩=>by cases h1)) e' es y g3⟩⟩
  obtain ⟨π',g1,g2⟩:=ai (w1:=w.alloc (.cells #[a.eval x] te)) (gv:= λ_=>False) h YO hmp te (e:=e') (rows:= [xs]) (us:= [a.eval x]) (Rs:= [π m]) (g:=w.heap.size) (o:=0) (cap:=1)
   (λ_ hf=>hf.elim) (nD w _) ⟨.inl (Ap _),by simp⟩ (heap_alloc_new w _) rfl (by unfold maxLen;omega) (by simp) (λj u hu=>by
    rcases j with _|j
    ·simpa using hu
    ·simp at hu)
   ⟨rfl,rfl,λi j q q' h1 h2 _=>by
    rcases i with _|i
    ·rcases j with _|j
     ·rfl
     ·simp at h2
    ·simp at h1,λi y hy=>by
    rcases i with _|i
    ·simp only [Cf,Aa] at hy;subst hy;exact ⟨_,_,rfl,rfl,wo,hfa⟩
    ·simp at hy⟩
   (λi q h1=>by
    rcases i with _|i
    ·simp only [Cf,Aa] at h1;have hf:=h.1.Df h1;have:=(h.1.place m q _ h1 (h.1.sub m q _ h1 hf)).2;exact ⟨by omega,λh=>h,m,q, .inr rfl,h1,hf⟩
    ·simp at h1)
  exact ⟨_,_,π',Wj,g1,g2 1 rfl⟩
theorem nP (hT:Ec P T) {st:St} {a:Act} (h:Bs X π st a w) (dst:Nat) (t ty:TypeId) (x y:Operand) (av:AV) (st':St) (he:Sj T st dst t x y=some (av,st')):
  ∃v' w' π',(Builtin.append_ #[t,t] ty #[a.eval x,a.eval y]).run P w= .ok v' w'/\Bs X π' st' a w'/\Bx X w' π' st'.heap av v':=by
 unfold Sj at he;split at he
 ·exact nO hT h dst t ty x y av st' he
 ·rename_i te e hg;obtain ⟨lL,Xv⟩:=mE hg;split at he
  rotate_left
  ·cases he
  rename_i l off len m Abt uq hx hy;split at he
  rotate_left
  ·cases he
  rename_i e1 te1 A kp1 e2 xr B kp2 hl hm;split at he
  rotate_left
  ·cases he
  rename_i hc;obtain ⟨⟨rfl,rfl⟩,hc,⟨rfl,rfl⟩,⟨rfl,rfl⟩,hB,pJ⟩:=hc;simp only [Ak,Nv,Wo,Fy] at hc;obtain ⟨⟨rfl,rfl⟩,ud,hmp,l8⟩:=hc
  have l8:m≠l:= λe=>by rw [e,Nat.beq_refl] at l8;cases l8
  simp only [Aa,Ag] at he;obtain ⟨rfl,rfl⟩:=he;have hu:=hT.elem t xr lL;obtain ⟨i,hi,Wi,sa,tZ⟩:=(hT.ty xr _ Xv).info;have Wi:i.size=1:=Wi;unfold St.at at hl hm;have hrx:=Eb h.2 x;have hry:=Eb h.2 y;rw [hx] at hrx;rw [hy] at hry;obtain ⟨b1,s1,n1,q1,q2,_,hox⟩:=hrx;rw [hl] at q1;cases q1;simp only [OB.row,Aa,Ag] at q2;obtain ⟨rfl,rfl⟩:=q2;obtain ⟨b2,s2,n2,q1,q2,_,hoy⟩:=hry;rw [hm] at q1;cases q1;simp only [OB.row,Aa,Ag] at q2;obtain ⟨rfl,rfl⟩:=q2;have hA:=((h.1.heap l).Se hl).1;have hBb:=((h.1.heap m).Se hm).1
  cases hpm:π m with
  |none=>
   rw [hpm] at hBb;have hBb:B= []:=hBb;subst hBb;simp at hB
  |some rB=>
  rw [hpm] at hBb hoy;obtain ⟨fB,Azx,tiB,uB,RB,w1B,w2B,w3B,w4B,w5B,w6B,w7B,LB⟩:=xT hBb;obtain ⟨adB,hvy,hcB,haB⟩:=hoy;have haB:=haB (by omega);subst haB;have hlB:=LB.1
  have n1':uB.length=B.length*i.size:=by rw [Wi,Gm];exact hlB
  have n2': ∀j u,uB[j]?=some u->w.cell? ((⟨rB.g,(rB.o+0)*1,none⟩:Addr).add j)=some u:= λj u hu=>by
   rw [Addr.add_lit,cellOf w1B,Gm,El];exact w5B j u hu
  have tW:(A.length+B.length)*i.bytes<=140737488355328:=by
   have:(A.length+B.length)*i.bytes<=4294967296*256:=Nat.mul_le_mul pJ sa;omega
  have jt:A.length+B.length<=maxLen:=by unfold Db at pJ;simp only [maxLen];omega
  have hzs:(Cj (Ty.slice e2) (Cd (Ty.slice e2))).cells.size=1:=by simp [Cj,Ty.Ar,Cd,Value.cells]
  have Xa: ∀(k:Nat) (q:Real) (Rs:List (Option Real)),π k=some q->(∀(i:Nat) (p:Real),Rs[i]?=some (some p)->q.Df p.g/\p.g≠q.g)-> ∀(i:Nat) (p:Real),Rs[i]?=some (some p)->p.g<w.heap.size:= λk q Rs h1 h2 i p h3=>
   (h.1.place k q _ h1 (h.1.sub k q _ h1 (h2 i p h3).1)).2
  cases js:π l with
  |none=>
   rw [js] at hA hox;have hA:A= []:=hA;subst hA;obtain ⟨hvx,_,_⟩:=hox;rw [hvx,hvy];simp only [Ex,Bl,Om] at pJ tW jt⊢;have hr:=run_append_nil (P:=P) w t ty xr i _ hu hi tZ ⟨rB.g,(rB.o+0)*1,none⟩ B.length (rB.cap-0) uB n1' n2' hB (by simp only [maxLen] at jt;omega) (by omega);have wG:=grownCap_ge w B.length 0 xr;have hcm:=grownCap_le_maxLen w B.length 0 xr (by omega)
   obtain ⟨π',g1,g2⟩:=ai (w1:=w.drew.alloc (.cells (uB.toArray++Builtin.zeroCells (Cj (Ty.slice e2) (Cd (Ty.slice e2))).cells (grownCap w B.length 0 xr-B.length)) xr)) (gv:= λ_=>False) h ud hmp xr (e:=e2) (rows:=B) (us:=uB) (Rs:=RB) (g:=w.heap.size) (o:=0) (cap:=grownCap w B.length 0 xr)
    (λ_ hf=>hf.elim) (qJ w _) ⟨.inl (Ap _),by simp⟩ (heap_alloc_new w.drew _) (by rw [Array.size_append,Hk,Vh,hzs];omega) hcm wG (λj u hu=>by
     have hj:=(Ao.1 hu).1
     rw [Bl,Uf (by simpa using hj)];simpa using hu)
    LB (λi q h1=>⟨by have:=Xa m rB RB hpm w7B i q h1;omega,λh=>h,m,rB, .inr rfl,hpm,(w7B i q h1).1⟩)
   exact ⟨_,_,π',hr,g1,g2 _ rfl⟩
  |some rA=>
   rw [js] at hA hox;obtain ⟨fA,UG,tiA,uA,RA,w1A,w2A,w3A,w4A,w5A,w6A,w7A,LA⟩:=xT hA;obtain ⟨adA,hvx,hcA,haA⟩:=hox;have hlA:=LA.1;rw [hvx,hvy]
   have apart: ∀(i j:Nat) (q q':Real),RA[i]?=some (some q)->RB[j]?=some (some q')->q.g≠q'.g:= λi j q q' h1 h2 e=>by
    have:=h.1.apart js hpm (w7A i q h1).1 (e▸(w7B j q' h2).1);exact l8 this.symm
   have LAB:=sR.append LA LB apart;have Ii: ∀(i:Nat) (q:Real),RB[i]?=some (some q)->q.g≠rA.g:= λi q h1 e=>l8 (h.1.apart hpm js (w7B i q h1).1 (e▸fA))
   have hRs: ∀(i:Nat) (q:Real),(RA++RB)[i]?=some (some q)->q.g≠rA.g/\q.g<w.heap.size/\ ∃k p,(k=l\/k=m)/\π k=some p/\p.Df q.g:= λi q h1=>by
    by_cases hi:i<RA.length
    ·rw [Au hi] at h1;exact ⟨(w7A i q h1).2,Xa l rA RA js w7A i q h1,l,rA, .inl rfl,js,(w7A i q h1).1⟩
    ·rw [As (by omega)] at h1;exact ⟨Ii _ q h1,Xa m rB RB hpm w7B _ q h1,m,rB, .inr rfl,hpm,(w7B _ q h1).1⟩
   by_cases GG:A.length+B.length<=rA.cap-0
   ·have haA:=haA (by omega);subst haA
    have Wz:(rA.o+0)*1+A.length*i.size+uB.length<=UG.size:=by rw [Wi];omega
    have ak:(rA.o+0)*1+A.length*i.size+uB.length<=UG.toList.length:=by simpa using Wz
    have hr:=aW (P:=P) (w:=w) (ty:=ty) hu hi rA.g ((rA.o+0)*1) A.length (rA.cap-0) UG tiA w1A ⟨rB.g,(rB.o+0)*1,none⟩ B.length (rB.cap-0) uB n1' n2' w6B GG Wz;have tY:=Oe w rA.g (Du UG.toList ((rA.o+0)*1+A.length*i.size) uB).toArray
    obtain ⟨π',g1,g2⟩:=ai (w1:=w.setRow rA.g (Du UG.toList ((rA.o+0)*1+A.length*i.size) uB).toArray) (gv:= λb=>b=rA.g) h ud hmp xr (e:=e2) (rows:=A++B) (us:=uA++uB) (Rs:=RA++RB) (g:=rA.g) (o:=rA.o) (cap:=rA.cap)
     (λb hb=>⟨l,rA, .inl rfl,js,hb▸fA⟩) ⟨tY.os,tY.tape,tY.output,tY.size,λc _ hc=>setRow_other w rA.g c _ hc⟩ ⟨.inr ⟨l,rA, .inl rfl,js,fA⟩,Ep (Gv w1A) tY.size⟩
     (setRow_heap w rA.g UG _ tiA _ w1A) (by rw [Hk,Jf _ _ _ ak,Yf];exact w2A) w3A (by simp;omega) (λj u hu=>by
      rw [Io,Im _ _ _ _ ak,Wi]
      by_cases hj:j<uA.length
      ·rw [Au hj] at hu;rw [Ac (by omega),Array.getElem?_toList];exact w5A j u hu
      ·rw [As (by omega)] at hu;have:=(Ao.1 hu).1;rw [Ai (by omega),Ac (by omega)];rw [show rA.o+j-((rA.o+0)*1+A.length*1)=j-uA.length by omega]
       exact hu)
     LAB (λi q h1=>⟨(hRs i q h1).1,(hRs i q h1).1,(hRs i q h1).2.2⟩)
    have:=g2 (A.length+B.length) (by simp)
    have e0:(rA.o+0)*1=rA.o:=by omega
    simp only [e0,Nat.sub_zero] at hr g1 this⊢;exact ⟨_,_,π',hr,g1,this⟩
   ·have hold: ∀j u,uA[j]?=some u->w.cell? (adA.add j)=some u:=by
     intro j u hu;have hj:=(Ao.1 hu).1;rw [haA (by omega),Addr.add_lit,cellOf w1A,Gm,El];exact w5A j u hu
    have hr:=run_append_grow (P:=P) w t ty xr i _ hu hi tZ adA A.length (rA.cap-0) uA (by rw [Wi,Gm];exact hlA) hold ⟨rB.g,(rB.o+0)*1,none⟩ B.length (rB.cap-0) uB n1' n2' (by omega) (by simp only [maxLen] at jt;omega) (growslice_fits (by omega) tW);have wG:=grownCap_ge w (A.length+B.length) (rA.cap-0) xr;have hcm:=grownCap_le_maxLen w (A.length+B.length) (rA.cap-0) xr jt
    obtain ⟨π',g1,g2⟩:=ai (w1:=w.drew.alloc (.cells (uA.toArray++uB.toArray++Builtin.zeroCells (Cj (Ty.slice e2) (Cd (Ty.slice e2))).cells (grownCap w (A.length+B.length) (rA.cap-0) xr-(A.length+B.length))) xr)) (gv:= λ_=>False) h ud hmp xr (e:=e2) (rows:=A++B) (us:=uA++uB) (Rs:=RA++RB) (g:=w.heap.size) (o:=0) (cap:=grownCap w (A.length+B.length) (rA.cap-0) xr)
     (λ_ hf=>hf.elim) (qJ w _) ⟨.inl (Ap _),by simp⟩ (heap_alloc_new w.drew _) (by rw [Array.size_append,Array.size_append,Hk,Hk,Vh,hzs];omega) hcm (by simpa using wG) (λj u hu=>by
      have hj:=(Ao.1 hu).1
      rw [Bl,Uf (by simpa using hj)];simpa using hu)
     LAB (λi q h1=>⟨by have:=(hRs i q h1).2.1;omega,λh=>h,(hRs i q h1).2.2⟩)
    exact ⟨_,_,π',hr,g1,g2 _ (by simp)⟩
theorem mc: ∀τ:Ty,Gq X w π H (zeroCells τ) (Cd τ):=by
 have one: ∀(c:AC) (v:Value),v.oneCell'=true->Hw X w π H c v->Gq X w π H [c] [v]:= λc v h1 h2=>⟨rfl,λi c' hc=>by
  rcases i with _|i
  ·simp at hc;subst hc;exact ⟨v,rfl,h1,h2⟩
  ·simp at hc⟩
 intro τ
 induction τ with
 |unit=>exact ⟨rfl,λi c hc=>by simp [zeroCells] at hc⟩
 |pair a r iL iH=>
  refine ⟨by simp [zeroCells,Cd,iL.1,iH.1],λi c hc=>?_⟩;simp only [zeroCells] at hc;simp only [Cd]
  by_cases hi:i<(zeroCells a).length
  ·rw [Au hi] at hc;obtain ⟨u,hu,h⟩:=iL.2 i c hc;exact ⟨u,by rw [Au (by rw [iL.1];exact hi)];exact hu,h⟩
  ·rw [As (by omega)] at hc;obtain ⟨u,hu,h⟩:=iH.2 _ c hc;exact ⟨u,by rw [As (by rw [iL.1];omega),iL.1];exact hu,h⟩
 |int k=>exact one (.data true _ _) _ rfl (Nt (H:=H) k 0 true)
 |bool=>exact one (.data true _ _) _ rfl (Mm (H:=H) false true)
 |str=>exact one (.data true _ _) _ rfl (mS (H:=H) ByteArray.empty true)
 |slice e=>exact one _ _ rfl rfl
 |oslice e=>exact one _ _ rfl rfl
 |ptr e=>exact one _ _ rfl rfl
 |optr e=>exact one _ _ rfl rfl
 |smap v=>exact one (.data true _ _) _ rfl ⟨[.map none], .inl ⟨rfl,rfl⟩,by simp [Cj,Ty.Ar]⟩
 |clo f c=>exact one .undef .nilFunc rfl trivial
theorem wk: ∀τ:Ty,Gq X w π H (Qp τ) (Cd τ):=by
 have one: ∀(c:AC) (v:Value),v.oneCell'=true->Hw X w π H c v->Gq X w π H [c] [v]:= λc v h1 h2=>⟨rfl,λi c' hc=>by
  rcases i with _|i
  ·simp at hc;subst hc;exact ⟨v,rfl,h1,h2⟩
  ·simp at hc⟩
 intro τ
 induction τ with
 |unit=>exact ⟨rfl,λi c hc=>by simp [Qp] at hc⟩
 |pair a r iL iH=>
  refine ⟨by simp [Qp,Cd,iL.1,iH.1],λi c hc=>?_⟩;simp only [Qp] at hc;simp only [Cd]
  by_cases hi:i<(Qp a).length
  ·rw [Au hi] at hc;obtain ⟨u,hu,h⟩:=iL.2 i c hc;exact ⟨u,by rw [Au (by rw [iL.1];exact hi)];exact hu,h⟩
  ·rw [As (by omega)] at hc;obtain ⟨u,hu,h⟩:=iH.2 _ c hc;exact ⟨u,by rw [As (by rw [iL.1];omega),iL.1];exact hu,h⟩
 |int k=>exact one (.data false _ _) _ rfl (Nt (H:=H) k 0 false)
 |bool=>exact one (.data false _ _) _ rfl (Mm (H:=H) false false)
 |str=>exact one (.data false _ _) _ rfl (mS (H:=H) ByteArray.empty false)
 |slice e=>exact one (.data false _ _) _ rfl ⟨[.slice none 0 0],⟨none,0,0,rfl,rfl,Ap _, .inl rfl⟩,by simp [Cj,Ty.Ar]⟩
 |oslice e=>exact one _ _ rfl rfl
 |ptr e=>exact one _ _ rfl rfl
 |optr e=>exact one _ _ rfl rfl
 |smap v=>exact one (.data false _ _) _ rfl ⟨[.map none], .inl ⟨rfl,rfl⟩,by simp [Cj,Ty.Ar]⟩
 |clo f c=>exact one .undef .nilFunc rfl trivial
theorem eA (hT:Ec P T) {st:St} {a:Act} (h:Bs X π st a w) (t:TypeId) (Mo:Array (Nat×Nat))
  (js: ∀f o u ρ,T.off t f=some (o,u)->T.ty u=some ρ->Mo[f]?=some (o,ρ.size)): ∀(parts:List (Nat×Operand)) (cs j9:List AC) (us:List Value),Gq X w π st.heap cs us->
  Mx T st t parts cs=some j9-> ∃Xt:List Value,Instr.fill (λi=>Mo[i]?) us.toArray (parts.map λp=>(p.1,a.eval p.2))=some Xt.toArray/\Gq X w π st.heap j9 Xt
 | [],cs,j9,us,hr,he=>by
  simp only [Mx,Aa] at he;subst he;exact ⟨us,rfl,hr⟩
 |(f,x)::r,cs,j9,us,hr,he=>by
  simp only [Mx] at he;split at he
  ·rename_i o u ho;split at he
   ·rename_i ρ hρ;split at he
    ·rename_i c hc;split at he
     ·rename_i hle;obtain ⟨vs,hv,hl,YV⟩:=iY (Eb h.2 x) hc;have e1:=hr.1;have e2:=YV.1;obtain ⟨Xt,g1,g2⟩:=eA hT h t Mo js r _ j9 _ (vI hr YV o hle) he;refine ⟨Xt,?_,g2⟩;simp only [Cb];rw [xR _ us f (a.eval x) _ o ρ.size vs (js f o u ρ ho hρ) hv hl (by omega)];exact g1
     ·cases he
    ·cases he
   ·cases he
  ·cases he
theorem hY (hT:Ec P T) {st:St} {a:Act} (h:Bs X π st a w) (t:TypeId) (parts:Array (Nat×Operand)) (av:AV) (he:Yp T st t parts=some av):
  ∃v',(Instr.build t (parts.map λ(i,x)=>(i,a.eval x))).run P w= .ok v' w/\Bx X w π st.heap av v':=by
 unfold Yp at he;split at he
 ·cases he
 ·rename_i τ Xv;split at he
  ·rename_i hs
   cases hb:Mx T st t parts.toList (zeroCells τ) with
   |none=>rw [hb] at he;cases he
   |some j9=>
    rw [hb] at he;simp only [An,Aa] at he;subst he;obtain ⟨fs,Mo,h1,h2,h3⟩:=hT.fill t τ Xv hs;obtain ⟨i,hi,Wi,sa,tZ⟩:=(hT.ty t τ Xv).info;obtain ⟨Xt,g1,g2⟩:=eA hT h t Mo h3 parts.toList (zeroCells τ) j9 (Cd τ) (mc τ) hb;refine ⟨.agg Xt.toArray,?_,Xt,rfl,g2⟩
    have hz:(zeroValue t).run P w= .ok (Cj τ (Cd τ)) w:=by simp [zeroValue,typeInfo,hi,tZ]
    have hzc:(Cj τ (Cd τ)).cells=(Cd τ).toArray:=by simp [Cj,hs,Value.cells]
    have h2':=h2 w;unfold placesOf at h2'
    have e1:(parts.map λ(i,x)=>(i,a.eval x)).toList=parts.toList.map λp=>(p.1,a.eval p.2):=by simp
    simp only [Instr.build,Sem.run_bind,hz,Result.andThen_ok,run_underlying h1,h2',hzc,e1,g1,Sem.run_pure]
  ·cases he
theorem vg {st:St} {v:AV} (h:v.settled=true):settle st v=some (v,st):=by
 cases v with
 | «at»a=>cases a<;>simp [AV.settled,AC.settled] at h<;>simp [settle,AC.settled]
 |agg cs=>
  have hs:cs.all (·.settled)=true:=h
  have:Hx cs.length st cs=some (cs,st):=by
   cases hn:cs.length with
   |zero=>simp [Hx,hs]
   |succ n=>
    have hf:cs.find? (λc=>!c.settled)=none:=List.find?_eq_none.2 λc hc=>by simpa using Bk.1 hs c hc
    simp [Hx,hf]
  simp [settle,this]
 |bL fr τ x=>rfl
 |Nh l=>simp [AV.settled] at h
theorem oF {e:Ty} {st:St} : ∀(parts:List (Nat×Operand)) (i:Nat) (fr:Bool) (ys:List e.den),gn e i parts st=some (fr,ys)-> ∃tr,Lz e i parts st=some (fr,tr,ys,st)
 | [],i,fr,ys,h=>by
  simp only [gn,Aa,Ag] at h;obtain ⟨rfl,rfl⟩:=h;exact ⟨true,rfl⟩
 |(j,x)::r,i,fr,ys,h=>by
  simp only [gn] at h;split at h
  ·rename_i hc;split at h
   ·rename_i f1 y f2 zs h1 h2;simp only [Aa,Ag] at h;obtain ⟨rfl,rfl⟩:=h;obtain ⟨tr,h3⟩:=oF r (i+1) f2 zs h2;refine ⟨Ud st (st.ev x)&&e.tree&&tr,?_⟩;simp only [Lz];rw [Ac hc.1,vg hc.2];simp only [h1,h3]
   ·cases h
  ·cases h
theorem pz (hT:Ec P T) {st:St} {a:Act} (h:Bs X π st a w) (t:TypeId) (len:Nat) (parts:Array (Nat×Operand)) (av:AV) (he:bY T st t len parts=some av):
  ∃v' w' π',(Instr.buildSlice t len (parts.map λ(i,x)=>(i,a.eval x))).run P w= .ok v' w'/\Bs X π' st a w'/\Bx X w' π' st.heap av v':=by
 unfold bY at he;split at he
 ·cases he
 ·rename_i te lL;split at he
  ·cases he
  ·rename_i e Xv;split at he
   ·rename_i Kg;obtain ⟨js,hlen⟩:=Kg
    cases hp:gn e 0 parts.toList st with
    |none=>rw [hp] at he;cases he
    |some p=>
     obtain ⟨fr,ys⟩:=p;rw [hp] at he;simp only [An,Aa] at he;subst he;obtain ⟨tr,hb⟩:=oF _ _ _ _ hp;obtain ⟨i,hi,Wi,sa,tZ⟩:=(hT.ty te e Xv).info;have hu:=hT.elem t te lL
     have UX:parts.toList.length=len:=by simpa using js
     have hz: ∃z:Array Value,(len*e.size=0/\z= #[])\/(¬len*e.size=0/\(zeroValue te).run P w= .ok (Cj e (Cd e)) w/\z=(Cj e (Cd e)).cells):=by
      by_cases h0:len*e.size=0
      ·exact ⟨#[], .inl ⟨h0,rfl⟩⟩
      ·exact ⟨_, .inr ⟨h0,by simp [zeroValue,typeInfo,hi,tZ],rfl⟩⟩
     obtain ⟨z,hz⟩:=hz;obtain ⟨cN,cl,g1,g2,g3,g4,g5,g6⟩:=Yk e parts.toList 0 st π fr tr ys st ((Array.range (len*e.size)).map (z[· %z.size]!)).toList h hb (by simp [UX])
     have Ra:cl.length=len*e.size:=by rw [g2.1,g3,UX]
     have GI:(Du ((Array.range (len*e.size)).map (z[· %z.size]!)).toList (0*e.size) cl)=cl:=by
      simp [Du,Ra]
     rw [GI] at g5
     have Wj:(Instr.buildSlice t len (parts.map λ(i,x)=>(i,a.eval x))).run P w= .ok (.slice (some ⟨w.heap.size,0,none⟩) len len) (w.alloc (.cells cl.toArray te)):=by
      have h24: ¬(len*e.size>2^24):=by
       have:len*e.size<=64*64:=Nat.mul_le_mul hlen.1 hlen.2;omega
      simp only [Instr.buildSlice,Sem.run_bind,run_underlying hu,Result.andThen_ok,(hT.ty te e Xv).size,Ai h24]
      have e1:(parts.map λ(i,x)=>(i,a.eval x)).toList=parts.toList.map λp=>(p.1,a.eval p.2):=by simp
      simp only [e1];have e2:(((Array.range (len*e.size)).map (z[· %z.size]!)).toList.toArray)=(Array.range (len*e.size)).map (z[· %z.size]!):=Array.toArray_toList;rw [e2] at g5;rcases hz with ⟨h0,rfl⟩|⟨h0,hz,rfl⟩
      ·rw [Ac h0];simp only [Sem.run_bind,Sem.run_pure,Result.andThen_ok,g5,newRow];simp
      ·rw [Ai h0];simp only [Sem.run_bind,Sem.run_pure,Result.andThen_ok,hz,g5,newRow];simp
     have MV:(w.alloc (.cells cl.toArray te)).heap[w.heap.size]?=some (.cells cl.toArray te (0,0)):=heap_alloc_new w _;have hB:Below w.heap.size w (w.alloc (.cells cl.toArray te)):=(Below.refl _ _).alloc (Ap _) _;have Kr:=Gv MV;refine ⟨_,_,cN,Wj,g1.quiet hB,⟨[_],?_,rfl⟩⟩;refine ⟨some ⟨w.heap.size,0,none⟩,len,len,rfl,by rw [g3,UX],Ap _, .inr ⟨w.heap.size,0,rfl,Kr,λhA=>?_,λk x hx=>?_⟩⟩
     ·rcases hA with hA|hA|⟨_,hA⟩
      ·exact absurd (g1.1.own hA).1 (Nat.lt_irrefl _)
      ·exact absurd (Ep (g1.1.sc _ hA).1 g1.1.below.size) (Nat.lt_irrefl _)
      ·exact absurd (Ep hA g1.1.below.size) (Nat.lt_irrefl _)
     ·obtain ⟨es,k1,k2,k3⟩:=g2.2 k x hx;refine ⟨es,k1,λj u hu=>?_,Cells.Gd hB.size (λb hb _=>hB.block b hb) (λ_ _ h=>h) e es x k3⟩;rw [cellOf MV,Bl];simpa using k2 j u hu
   ·cases he
theorem FI {Γ:Env} (hT:Ec P T) (Pn:Ky P Γ) {st:St} {a:Act} (h:Bs X π st a w) (o:Oper) (av:AV) (he:Yb T Γ st o=some av):
  iO P X st a w av ((execOp a.eval o).run P w):=by
 obtain ⟨dst,op,ty,pos,af,gd⟩:=o
 have val: ∀(s:Sem Value) (v:Value) (w':World) (π':Pi),s.run P w= .ok v w'->Bs X π' st a w'->Bx X w' π' st.heap av v->(execOp a.eval ⟨dst,op,ty,pos,af,gd⟩=do pure (.value (<-s)))->
   iO P X st a w av ((execOp a.eval ⟨dst,op,ty,pos,af,gd⟩).run P w):=by
  intro s v w' π' h1 h2 h3 h4;rw [h4,Sem.run_bind,h1];exact ⟨π',h2,h3⟩
 have quiet:Fv T Γ st ⟨dst,op,ty,pos,af,gd⟩=some av->iO P X st a w av ((execOp a.eval ⟨dst,op,ty,pos,af,gd⟩).run P w):=by
  intro hq;have:=jd hT Pn h _ av hq;generalize (execOp a.eval ⟨dst,op,ty,pos,af,gd⟩).run P w=r at*
  cases r with
  |halt x w'=>exact this
  |ok n w'=>
   cases n<;>simp only [QZ] at this<;>simp only [iO]
   ·obtain ⟨rfl,hr⟩:=this;exact ⟨π,h,hr⟩
   ·obtain ⟨rfl,hc⟩:=this;exact ⟨rfl,hc.mono λe rU ⟨v,hv,hb,hr⟩=>⟨v,hv,π,h.quiet hb,hr⟩⟩
 unfold Yb at he;split at he
 ·rename_i t len parts qZ;dsimp only at qZ;subst qZ;obtain ⟨v,w',π',h1,h2,h3⟩:=pz hT h t len parts av he;exact val _ v w' π' h1 h2 h3 rfl
 ·rename_i t parts qZ;dsimp only at qZ;subst qZ;obtain ⟨v',h1,h2⟩:=hY hT h t parts av he;exact val _ v' w π h1 h h2 rfl
 ·exact quiet he
theorem ee {a:Act} : ∀(l:List Operand) {π:Pi} {st st1:St},Bs X π st a w->Ny l st=some st1-> ∃π',Bs X π' st1 a w
 | [],π,st,st1,h,he=>by
  simp only [Ny,Aa] at he;subst he;exact ⟨π,h⟩
 |x::r,π,st,st1,h,he=>by
  simp only [Ny] at he
  cases hs:settle st (st.ev x) with
  |none=>rw [hs] at he;cases he
  |some p=>
   rw [hs] at he;obtain ⟨cN,h1,_⟩:=cF h (Eb h.2 x) hs;exact ee r h1 he
theorem JS {a:Act} {st:St} (h:Bs X π st a w) (p x:Operand): ∃π',Bs X π' (Pf T st p x) a w:=by
 unfold Pf;split
 ·split
  ·split
   ·rename_i hs;exact ee _ h hs
   ·exact ⟨π,h⟩
  ·exact ⟨π,h⟩
 ·exact ⟨π,h⟩
theorem zC {Γ:Env} (hT:Ec P T) (Pn:Ky P Γ) {st:St} {a:Act} (h:Bs X π st a w) (o:Oper) (av:AV) (st':St) (he:evalOp T Γ st o=some (av,st')):
  iO P X st' a w av ((execOp a.eval o).run P w):=by
 have quiet: ∀ {π:Pi} {st:St},Bs X π st a w->(Fv T Γ st o).map (λv=>(v,st))=some (av,st')->iO P X st' a w av ((execOp a.eval o).run P w):=by
  intro π st h he
  cases hq:Fv T Γ st o with
  |none=>rw [hq] at he;cases he
  |some v=>
   rw [hq] at he;simp only [An,Aa,Ag] at he;obtain ⟨rfl,rfl⟩:=he;have:=jd hT Pn h o v hq;generalize (execOp a.eval o).run P w=r at*
   cases r with
   |halt x w'=>exact this
   |ok n w'=>
    cases n<;>simp only [QZ] at this<;>simp only [iO]
    ·obtain ⟨rfl,hr⟩:=this;exact ⟨π,h,hr⟩
    ·obtain ⟨rfl,hc⟩:=this;exact ⟨rfl,hc.mono λe rU ⟨v,hv,hb,hr⟩=>⟨v,hv,π,h.quiet hb,hr⟩⟩
 obtain ⟨dst,op,ty,pos,af,gd⟩:=o
 have val: ∀(s:Sem Value) (v:Value) (w':World) (π':Pi),s.run P w= .ok v w'->Bs X π' st' a w'->Bx X w' π' st'.heap av v->(execOp a.eval ⟨dst,op,ty,pos,af,gd⟩=do pure (.value (<-s)))->
   iO P X st' a w av ((execOp a.eval ⟨dst,op,ty,pos,af,gd⟩).run P w):=by
  intro s v w' π' h1 h2 h3 h4;rw [h4,Sem.run_bind,h1];exact ⟨π',h2,h3⟩
 unfold evalOp at he;split at he
 all_goals (rename_i qZ;dsimp only at qZ;try subst qZ)
 ·
  rename_i x;split at he
  ·rename_i d te e hx hd ht;split at he
   ·rename_i YO;simp only [Aa,Ag] at he;obtain ⟨rfl,rfl⟩:=he
    obtain ⟨k1,k2,_⟩:=uF h d YO (T.tN||e.flat) T.DA te e
    have hxr:=Eb h.2 x;rw [hx] at hxr;have hxv:a.eval x= .slice none 0 0:=hxr;show iO P X _ a w _ (.ok (.value (a.eval x)) w);rw [hxv];exact ⟨_,k1,k2⟩
   ·cases he
  ·simp only [Aa,Ag] at he;obtain ⟨rfl,rfl⟩:=he;exact ⟨π,h,Eb h.2 x⟩
 ·
  rename_i t;split at he
  ·rename_i d τ hd ht;obtain ⟨i,hi,Wi,sa,tZ⟩:=(hT.ty t τ ht).info
   have hk: ∃π',Bs X π' st' a (w.alloc (.cells (Cd τ).toArray t))/\Bx X (w.alloc (.cells (Cd τ).toArray t)) π' st'.heap av (.pointer (some ⟨w.heap.size,0,none⟩)):=by
    split at he
    ·exact AR h d t (Qp τ) (Cd τ) (wk τ) av st' he
    ·exact rk h d t τ (zeroCells τ) (Cd τ) (mc τ) av st' he
   obtain ⟨π',k1,k2⟩:=hk
   have hzc:(Cj τ (Cd τ)).cells=(Cd τ).toArray:=by
    cases τ<;>simp [Cj,Ty.Ar,Value.cells,Cd]
   refine val (Instr.alloc t true (.tuple #[])) _ _ π' ?_ k1 k2 rfl;simp [Instr.alloc,zeroValue,typeInfo,hi,tZ,newVar,newRow,hzc]
  ·cases he
 ·
  rename_i t x;split at he
  ·rename_i d τ hd ht;split at he
   ·rename_i cs hc;obtain ⟨us,hv,hl,hr⟩:=iY (Eb h.2 x) hc
    have hk: ∃π',Bs X π' st' a (w.alloc (.cells us.toArray t))/\Bx X (w.alloc (.cells us.toArray t)) π' st'.heap av (.pointer (some ⟨w.heap.size,0,none⟩)):=by
     split at he
     ·split at he
      ·rename_i Sd
       cases hvc:Fq st τ cs with
       |none=>rw [hvc] at he;cases he
       |some p=>
        obtain ⟨fr,y⟩:=p;rw [hvc] at he;simp only [An,Aa,Ag] at he;obtain ⟨rfl,rfl⟩:=he;have Ra:=Xq τ cs us fr y Sd hr hvc;have hB:Below w.heap.size w (w.alloc (.cells us.toArray t)):=(Below.refl _ _).alloc (Ap _) _;have MV:(w.alloc (.cells us.toArray t)).heap[w.heap.size]?=some (.cells us.toArray t (0,0)):=heap_alloc_new w _;refine ⟨π,h.quiet hB,[_], .inr ⟨y,w.heap.size,0,rfl,rfl,Gv MV,λhA=>?_,us,hl,λj u hu=>?_,Cells.Gd hB.size (λb hb _=>hB.block b hb) (λb _ hA=>?_) τ us y Ra⟩,by simp [Cj,Ty.Ar]⟩
        ·rcases hA with hA|hA|⟨hf,_⟩
         ·exact absurd (h.1.own hA).1 (Nat.lt_irrefl _)
         ·exact absurd (Ep (h.1.sc _ hA).1 h.1.below.size) (Nat.lt_irrefl _)
         ·cases hf
        ·rw [cellOf MV,Bl];simpa using hu
        ·exact hA.imp id (Or.imp id λ⟨h1,_⟩=>by cases h1)
      ·cases he
     ·exact rk h d t τ cs us hr av st' he
    obtain ⟨π',k1,k2⟩:=hk;refine val (Instr.box t (a.eval x)) _ _ π' ?_ k1 k2 rfl;simp [Instr.box,newVar,newRow,hv]
   ·cases he
  ·cases he
 ·
  rename_i t p x;obtain ⟨π0,h⟩:=JS (T:=T) h p x
  cases hs:Qb T (Pf T st p x) t ((Pf T st p x).ev p) ((Pf T st p x).ev x) with
  |none=>rw [hs] at he;cases he
  |some s=>
   rw [hs] at he;simp only [An,Aa,Ag] at he;obtain ⟨rfl,rfl⟩:=he;obtain ⟨w',π',h1,h2⟩:=pD hT h t _ _ _ _ (Eb h.2 p) (Eb h.2 x) s hs
   have:(execOp a.eval ⟨dst, .store t p x,ty,pos,af,gd⟩).run P w= .ok .skip w':=by
    show (do Instr.storeAt t (a.eval p) (a.eval x);pure Next.skip:Sem Next).run P w=_;rw [Sem.run_bind,h1];rfl
   rw [this];exact ⟨π',h2,trivial⟩
 ·
  rename_i t l c;split at he
  ·rename_i d hd;obtain ⟨v,w',π',h1,h2,h3⟩:=s8 hT h d t _ _ _ _ (Eb h.2 l) (Eb h.2 c) av st' he;exact val _ v w' π' h1 h2 h3 rfl
  ·cases he
 ·
  rename_i t;split at he
  ·rename_i d hd;obtain ⟨v,w',π',h1,h2,h3⟩:=nS hT h d t av st' he;exact val _ v w' π' h1 h2 h3 rfl
  ·cases he
 ·
  rename_i t m k x
  cases hs:Jo T st t (st.ev m) (st.ev k) (st.ev x) with
  |none=>rw [hs] at he;cases he
  |some s=>
   rw [hs] at he;simp only [An,Aa,Ag] at he;obtain ⟨rfl,rfl⟩:=he;obtain ⟨w',h1,h2⟩:=eF hT h t _ _ _ _ _ _ (Eb h.2 m) (Eb h.2 k) (Eb h.2 x) s hs
   have:(execOp a.eval ⟨dst, .mapUpdate t m k x,ty,pos,af,gd⟩).run P w= .ok .skip w':=by
    show (do Instr.mapUpdate t (a.eval m) (a.eval k) (a.eval x);pure Next.skip:Sem Next).run P w=_;rw [Sem.run_bind,h1];rfl
   rw [this];exact ⟨π,h2,trivial⟩
 ·
  rename_i t m k x
  cases hs:Jo T st t (st.ev m) (st.ev k) (st.ev x) with
  |none=>rw [hs] at he;cases he
  |some s=>
   rw [hs] at he;simp only [An,Aa,Ag] at he;obtain ⟨rfl,rfl⟩:=he;obtain ⟨w',h1,h2⟩:=eF hT h t _ _ _ _ _ _ (Eb h.2 m) (Eb h.2 k) (Eb h.2 x) s hs
   have:(execOp a.eval ⟨dst, .insert t m k x,ty,pos,af,gd⟩).run P w= .ok .skip w':=by
    show (do Instr.mapUpdate t (a.eval m) (a.eval k) (a.eval x);pure Next.skip:Sem Next).run P w=_;rw [Sem.run_bind,h1];rfl
   rw [this];exact ⟨π,h2,trivial⟩
 ·
  rename_i t len parts;split at he
  ·rename_i d hd;obtain ⟨v,w',π',h1,h2,h3⟩:=iB hT h d t len parts av st' he;exact val _ v w' π' h1 h2 h3 rfl
  ·cases he
 ·
  rename_i t parts
  cases hb:Yp T st t parts with
  |none=>rw [hb] at he;cases he
  |some v=>
   rw [hb] at he;simp only [An,Aa,Ag] at he;obtain ⟨rfl,rfl⟩:=he;obtain ⟨v',h1,h2⟩:=hY hT h t parts v hb;exact val _ v' w π h1 h h2 rfl
 ·
  rename_i args ts;split at he
  ·rename_i d x y t t' hd Rr wK;split at he
   ·rename_i Wp;subst Wp
    have e1:args= #[x,y]:=by apply Pr;simpa using Rr
    have e2:ts= #[t,t]:=by apply Pr;simpa using wK
    subst e1;subst e2;obtain ⟨v,w',π',h1,h2,h3⟩:=nP hT h d t ty x y av st' he;refine val (Builtin.append_ #[t,t] ty #[a.eval x,a.eval y]) v w' π' h1 h2 h3 ?_;simp [execOp,resolve,invoke,builtin]
   ·cases he
  ·cases he
 ·
  rename_i args ts;split at he
  ·rename_i x y t t' Rr wK
   have e1:args= #[x,y]:=by apply Pr;simpa using Rr
   have e2:ts= #[t,t']:=by apply Pr;simpa using wK
   subst e1;subst e2;obtain ⟨v,w',h1,h2,h3⟩:=tD hT h t t' ty _ _ _ _ (Eb h.2 x) (Eb h.2 y) av st' he;refine val (Builtin.copy_ #[t,t'] ty #[a.eval x,a.eval y]) v w' π h1 h2 h3 ?_;simp [execOp,resolve,invoke,builtin]
  ·cases he
 ·
  rename_i args ts;split at he
  ·rename_i x t Rr wK
   have e1:args= #[x]:=by apply Pr;simpa using Rr
   have e2:ts= #[t]:=by apply Pr;simpa using wK
   subst e1;subst e2
   cases hs:evalClear T st t (st.ev x) with
   |none=>rw [hs] at he;cases he
   |some s=>
    rw [hs] at he;simp only [An,Aa,Ag] at he;obtain ⟨rfl,rfl⟩:=he;obtain ⟨v,w',h1,h2⟩:=s7 hT h t ty _ _ (Eb h.2 x) s hs;refine val (Builtin.clear_ #[t] ty #[a.eval x]) v w' π h1 h2 trivial ?_;simp [execOp,resolve,invoke,builtin]
  ·cases he
 ·
  rename_i f args ts;split at he
  ·rename_i s Aqp;have hs:Ds P f s:=Pn f _ Aqp;have:=s6 h hs dst (args.toList.map st.ev) (args.toList.map a.eval) (by simp) (λi c v=>jM h args.toList i c v) av st' he;rw [jP a.eval f args ts dst ty pos af gd rfl hs.enter];refine ⟨rfl,?_⟩
   rwa [show (args.toList.map a.eval).toArray=args.map a.eval from by apply Pr;simp] at this
  ·rename_i s Aqp;split at he
   ·cases hs:Ny args.toList st with
    |none=>rw [hs] at he;cases he
    |some st1=>
     rw [hs] at he;obtain ⟨cN,h1⟩:=ee args.toList h hs;exact quiet h1 he
   ·exact quiet h he
  ·exact quiet h he
 ·exact quiet h he
end
end Go.Proofs.Ytfgfigkbgecfnaa
