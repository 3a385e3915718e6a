/-
  Part 23 of the proof that the statement FnIterativeDeepening holds.
-/
import Derived.Test.YtkkdpknjohcekaaGreatCFIterativeDeepening21
namespace Go.Proofs.YtkkdpknjohcekaaGreat
open Go.RowKit
section
variable {P:Program} {T:Tab} {X:Ctx} {w w':World} {π:Pi} {H:List (Nat×OB)}
theorem yw {π':Pi} {st':St} {a:Act} (h:Bh X π' st' a w) (k:Lk π π' H st'.heap) {fr:Bool} (τ:Ty) (cs:List Value) (x:τ.den) (hc:Cells w (Cx X.w0.heap.size X.Sc π fr) τ cs x):
  Cells w (Cx X.w0.heap.size X.Sc π' fr) τ cs x:=
 Cells.Ft (Ap _) (λ_ _ _=>rfl) (λb _ hA=>by
  rcases hA with ⟨l,r,hl,hg⟩|h2
  ·have hh:=h.1.heap l
   cases hb:Av st'.heap l with
   |none=>have:=hh.emp hb;rw [this] at hl;cases hl
   |some b'=>have:=(k l b' hb).1;rw [this] at hl;exact .inl ⟨l,r,hl,hg⟩
  ·exact .inr h2) τ cs x hc
theorem hJ.drop {F:List Nat} {l:Nat} (h:hJ X w π F):hJ X w (Xc π l none) F:=
 ⟨h.1,λb hb=>⟨(h.2 b hb).1,(h.2 b hb).2.1,λm r hm=>by
  by_cases e:m=l
  ·subst e;rw [Gt] at hm;cases hm
  ·rw [Gl π none e] at hm;exact (h.2 b hb).2.2 m r hm⟩⟩
theorem tQ {st:St} {a:Act} (h:Bh X π st a w) (l:Nat) (hl:l<Bl) (f0 t0:Bool) (te:TypeId) (e:Ty):
  Bh X (Xc π l none) (st.new l (.arr f0 t0 e te [])) a w/\Bm X w (Xc π l none) (st.new l (.arr f0 t0 e te [])).heap (.at (.own l 0 0)) (.slice none 0 0)/\
   ∀fr τ cs x,Cells w (Cx X.w0.heap.size X.Sc π fr) τ cs x->Cells w (Cx X.w0.heap.size X.Sc (Xc π l none) fr) τ cs x:=
 ⟨h.replace l hl none _ (Qf w _) (λr hr=>by cases hr) (λ_=>rfl),
  EX (St.Hg st l _) (Ap _) (by rw [Gt];exact ⟨rfl,rfl,rfl⟩),
  fun fr τ cs x hc=>Cells.Ft (Ap _) (λ_ _ _=>rfl) (λb _ hA=>by
  rcases hA with ⟨m,r,hm,hg⟩|h2
  ·by_cases e:m=l
   ·subst e;rw [Gt] at hm;cases hm
   ·rw [Gl π none e] at hm;exact .inl ⟨m,r,hm,hg⟩
  ·exact .inr h2) τ cs x hc⟩
theorem Xx (hT:Eb P T) {st:St} {a:Act} (h:Bh X π st a w) (dst:Nat) (t ty:TypeId) (x y:Operand) (av:AV) (st':St) (he:Oi T st dst t x y=some (av,st')):
  ∃v' w' π',(Builtin.append_ #[t,t] ty #[a.eval x,a.eval y]).run P w= .ok v' w'/\Bh X π' st' a w'/\Bm X w' π' st'.heap av v':=by
 unfold Oi at he
 split at he
 ·cases he
 ·rename_i te kX
  split at he
  ·rename_i e y' st1 Yh hs
   obtain ⟨cn,h1,h2,h3,h4,h5⟩:=c7 h (Dq h.2 y) hs
   split at he
   ·cases he
   ·rename_i rR ys hv
    dsimp only at he
    have PK: ∀tr2,tr2=(e.flat||(Tw st (st.ev y)&&e.tree))->tr2=true->e.flat=true\/ ∃F,Db w F (.slice e) [a.eval y] ys/\hJ X w cn F:=by
     intro tr2 e2 nz
     subst e2
     cases hef:e.flat with
     |true=>exact .inl rfl
     |false=>
     right
     simp only [hef,Sw,Ag] at nz
     obtain ⟨F,us,f1,f2,f3,_⟩:=h5 nz.1 (.slice e) rR ys nz.2 hv
     have YS:us= [a.eval y]:=by
      simp only [Db] at f1
      obtain ⟨a0,len,cap,rfl,_⟩:=f1
      rw [f2];simp [By,Ty.Aq]
     rw [YS] at f1
     exact ⟨F,f1,f3⟩
    have hyc:Cells w (Cx X.w0.heap.size X.Sc cn rR) (.slice e) [a.eval y] ys:=Ct.So rfl (Nf _ y' _ rR ys h3 h2 hv)
    have PM:=Dq h1.2 x
    split at he
    ·rename_i hx
     rw [hx] at PM
     have hxv:a.eval x= .slice none 0 0:=PM
     split at he
     ·rename_i p7
      simp only [Aa,Ae] at he
      obtain ⟨rfl,rfl⟩:=he
      obtain ⟨k1,k2,k3⟩:=tQ h1 dst p7.2 (T.vn||e.flat) T.BK te e
      have:=mN (ty:=ty) hT k1 kX Yh p7.2 (fr3:=rR||e.flat) (tr2:=e.flat||(Tw st (st.ev y)&&e.tree)) rfl (St.Hg st1 dst _) k2 (k3 _ _ _ _ hyc) (by rw [Cb];exact p7.1) (λht=>by
       rcases PK _ rfl ht with h0|⟨F,f1,f2⟩
       ·exact .inl h0
       ·exact .inr ⟨F,f1,f2.drop⟩)
      rw [<-hxv] at this
      exact this
     ·cases he
    ·rename_i l off len hx
     rw [hx] at PM
     split at he
     ·rename_i fr tr e' tid xs hl
      split at he
      ·rename_i Ki
       obtain ⟨rfl,rfl⟩:=Ki
       split at he
       ·rename_i p7
        simp only [Aa,Ae] at he
        obtain ⟨rfl,rfl⟩:=he
        exact mN (ty:=ty) hT h1 kX Yh p7.2 (fr3:=rR||e'.flat) (tr2:=e'.flat||(Tw st (st.ev y)&&e'.tree)) rfl hl PM hyc p7.1 (PK _ rfl)
       ·cases he
      ·cases he
     ·cases he
    ·cases he
  ·cases he
theorem mY (hT:Eb P T) {st:St} {a:Act} (h:Bh X π st a w) (dst:Nat) (t ty:TypeId) (x y:Operand) (av:AV) (st':St) (he:Se T st dst t x y=some (av,st')):
  ∃v' w' π',(Builtin.append_ #[t,t] ty #[a.eval x,a.eval y]).run P w= .ok v' w'/\Bh X π' st' a w'/\Bm X w' π' st'.heap av v':=by
 unfold Se at he
 split at he
 ·rename_i tx
  split at he
  ·rename_i l i c hg
   split at he
   ·rename_i e te rows kp tid hl _
    split at he
    ·rename_i hc
     simp only [Ag,Ns,Er] at hc
     have iQ:dst≠l:= λe=>by rw [e,Nat.beq_refl] at hc;cases hc.2.2
     unfold St.at at hl
     have hv:Ia X w π st.heap (.sub l i c) (a.tmps.getD tx undef):=by
      have:=h.2.tmps tx
      rw [hg] at this
      exact this
     obtain ⟨cn,h1,h2⟩:=JD (tid:=tid) h hl iQ hc.2.1 hc.1 hv
     have h3:=h1.put (some tx) (c:= .at (.own dst 0 (rows.getD i []).length)) h2
     have Ame:a.put (some tx) (a.tmps.getD tx undef)=a:=by
      have:a.tmps.setIfInBounds tx (a.tmps.getD tx undef)=a.tmps:=by
       apply Array.ext_getElem?
       intro k
       rw [Array.getElem?_setIfInBounds]
       split
       ·rename_i e
        subst e
        split
        ·rename_i Lr
         rw [Array.getElem?_eq_getElem Lr];simp
        ·rename_i Lr
         rw [Array.getElem?_eq_none (by omega)]
       ·rfl
      simp only [Act.put,this]
     rw [Ame] at h3
     exact Xx hT h3 dst t ty (.tmp tx) y av st' he
    ·cases he
   ·cases he
  ·exact Xx hT h dst t ty _ y av st' he
 ·exact Xx hT h dst t ty x y av st' he
theorem OA {S:Nat->Prop} {e:Ty} (h:mF e=true): ∃z,Bp e= [z]/\e.Aq=false/\e.size=1/\Cells w S e [z] e.zero/\z.oneCell'=true:=by
 cases e<;>simp [mF] at h
 ·exact ⟨_,rfl,rfl,rfl,rfl,rfl⟩
 ·exact ⟨_,rfl,rfl,rfl,rfl,rfl⟩
 ·exact ⟨_,rfl,rfl,rfl,rfl,rfl⟩
 ·exact ⟨_,rfl,rfl,rfl,⟨none,0,0,rfl,rfl,Ap _, .inl rfl⟩,rfl⟩
 ·exact ⟨_,rfl,rfl,rfl, .inl ⟨rfl,0,rfl⟩,rfl⟩
theorem HX {e:Ty} {z:Value} (ht:e.tree=true) (h:mF e=true) (hz:Bp e= [z]):Db w [] e [z] e.zero:=by
 cases e<;>simp [mF] at h<;>simp only [Bp,Hb,bg] at hz<;>subst hz<;>try (simp [Ty.tree] at ht;done)
 ·exact ⟨rfl,rfl⟩
 ·exact ⟨rfl,rfl⟩
 ·exact ⟨rfl,rfl⟩
 ·exact ⟨none,0,0,rfl,rfl,Ap _, .inl ⟨rfl,rfl,rfl,rfl⟩⟩
theorem Ac5 {S:Nat->Prop} : ∀(e:Ty),gh e=true->(Bp e).length=e.size/\Cells w S e (Bp e) e.zero/\(e.tree=true->Db w [] e (Bp e) e.zero):=by
 intro e
 induction e with
 |unit=>intro _;exact ⟨rfl,rfl,λ_=>⟨rfl,rfl⟩⟩
 |pair a r gX gT=>
  intro h
  simp only [gh,Ag] at h
  obtain ⟨a1,a2,a3⟩:=gX h.1
  obtain ⟨r1,r2,r3⟩:=gT h.2
  exact ⟨by simp [Bp,Ty.size,a1,r1],⟨_,_,rfl,a2,r2⟩,λht=>by simp only [Ty.tree,Ag] at ht;exact ⟨_,_,[],[],rfl,rfl,a3 ht.1,r3 ht.2⟩⟩
 |_=>
  intro h
  simp only [gh] at h
  obtain ⟨z,z1,z2,z3,z4,_⟩:=OA (w:=w) (S:=S) h
  exact ⟨by rw [z1,z3];rfl,by rw [z1];exact z4,λht=>by rw [z1];exact HX ht h z1⟩
theorem PZ {z:Array Value} {s m j q:Nat} (hz:z.size=s) (hj:j<m) (hq:q<s):(madeCells z (m*s))[j*s+q]?=z[q]?:=by
 have h1:j*s+q<m*s:=by
  have:=Fz s (show j+1<=m by omega)
  rw [Nat.succ_mul] at this
  omega
 have h2:(j*s+q)%z.size=q:=by rw [hz,Nat.mul_comm,Nat.mul_add_mod,Nat.mod_eq_of_lt hq]
 have h3:q<z.size:=by omega
 unfold madeCells
 simp [h1,h2,h3]
theorem sM (hT:Eb P T) {st:St} {a:Act} (h:Bh X π st a w) (dst:Nat) (t:TypeId) (l c:AV) (vl vc:Value) (hl:Bm X w π st.heap l vl) (hc:Bm X w π st.heap c vc) (av:AV) (st':St)
  (he:bH T st dst t l c=some (av,st')): ∃v' w' π',(Instr.makeSlice t vl vc).run P w= .ok v' w'/\Bh X π' st' a w'/\Bm X w' π' st'.heap av v':=by
 unfold bH at he
 split at he
 ·rename_i te fr1 k1 n rR k2 m kX
  have:=Qk hl;subst this
  have:=Qk hc;subst this
  split at he
  ·rename_i e Yh
   split at he
   ·rename_i Ki
    obtain ⟨h0,hnm,hz,yL⟩:=Ki
    obtain ⟨h1,h2⟩:=Um.1 h0
    subst hnm
    simp only [Aa,Ae] at he
    obtain ⟨rfl,rfl⟩:=he
    obtain ⟨i,hi,Vu,r9,tb⟩:=(hT.ty te e Yh).info
    obtain ⟨z1,z4,z5⟩:=Ac5 (w:=w) (S:=Cx X.w0.heap.size X.Sc π (T.vn||e.flat)) e hz
    have YT:(By e (Bp e)).cells=(Bp e).toArray:=Lp e _ _ z4
    have hu:=hT.elem t te kX
    have hn:n.toNat<=4294967296:=by unfold Dj at h2;omega
    have hr:=run_make (P:=P) (w:=w) t te i _ hu hi tb k1 k2 n n h1 (Gi _) (by
     have:(i.bytes:Int)*n<=256*4294967296:=by
      obtain ⟨nn,rfl⟩:=Jd h1
      have h7:i.bytes*nn<=256*4294967296:=Nat.mul_le_mul r9 (by simpa using hn)
      have h8:((i.bytes*nn:Nat):Int)<=256*4294967296:=by omega
      rwa [Int.natCast_mul] at h8
     omega) (by unfold Dj at h2;omega)
    rw [YT,Vu] at hr
    have aE:((Bp e).toArray).size=e.size:=by simpa using z1
    have cell: ∀j,j<n.toNat-> ∀q u,(Bp e)[q]?=some u->(madeCells (Bp e).toArray (n.toNat*e.size)).toList[j*e.size+q]?=some u:=by
     intro j hj q u hu
     have hq:q<e.size:=by rw [<-z1];exact (An.1 hu).1
     have:=PZ aE hj hq
     rw [Array.getElem?_toList,this]
     simpa using hu
    have:=fC (w1:=w.alloc (.cells (madeCells (Bp e).toArray (n.toNat*e.size)) te)) h dst yL (T.vn||e.flat) (T.BK&&e.tree) e te (List.replicate n.toNat e.zero) (madeCells (Bp e).toArray (n.toNat*e.size)).toList (madeCells (Bp e).toArray (n.toNat*e.size)) n.toNat []
     (.inr rfl) (by rw [size_madeCells]) (by unfold maxLen;omega) (by simp)
     (λk u hu=>by
      rw [Array.getElem?_toList] at hu;exact hu) ⟨by simp [size_madeCells],λj x hx=>by
       have hj:=(An.1 hx).1
       simp only [Ja] at hj
       refine ⟨Bp e,z1,λq u hu=>cell j hj q u hu,?_⟩
       rw [Fu (Cd hx)];exact z4⟩ (by simp) (λnz=>⟨Nr,List.replicate n.toNat [],by simp,by simp,λj x F hx hF=>by
      have hj:=(An.1 hx).1
      simp only [Ja] at hj
      refine ⟨Bp e,z1,λq u hu=>cell j hj q u hu,?_⟩
      have e1:=Fu (Cd hx)
      have e2:=Fu (Cd hF)
      rw [e1,e2]
      exact z5 (by simp only [Ag] at nz;exact nz.2)⟩)
    exact ⟨_,_,_,hr,this.1,this.2 _ (by simp)⟩
   ·cases he
  ·cases he
 ·cases he
theorem iI (off:Nat): ∀(us:List Value) (k:Nat) (cells:List Value),off+k+us.length<=cells.length->
  (us.zipIdx k).foldl (λcs p=>cs.setIfInBounds (off+p.2) p.1) cells.toArray=(Dt cells (off+k) us).toArray
 | [],k,cells,h=>by simp [Dt]
 |u::us,k,cells,h=>by
  simp only [List.zipIdx_cons,Df]
  rw [show cells.toArray.setIfInBounds (off+k) u=(cells.set (off+k) u).toArray by simp]
  rw [iI off us (k+1) (cells.set (off+k) u) (by simp at h⊢;omega)]
  congr 1
  apply List.ext_getElem?
  intro j
  have hl:off+k+(u::us).length<=cells.length:=h
  have JP:off+(k+1)+us.length<=(cells.set (off+k) u).length:=by simp at h⊢;omega
  rw [Iw _ _ _ _ hl,Iw _ _ _ _ JP]
  simp only [Aw]
  by_cases h1:j<off+k
  ·rw [Ab (by omega),Ab h1,List.getElem?_set_ne (by omega)]
  ·rw [Ai h1]
   by_cases h2:j=off+k
   ·subst h2
    rw [Ab (by omega),Ab (by omega),List.getElem?_set_self (by simp at h;omega)]
    simp
   ·rw [Ai (by omega)]
    by_cases h3:j<off+k+(us.length+1)
    ·rw [Ab (by omega),Ab h3]
     rw [show j-(off+k)=(j-(off+(k+1)))+1 by omega,Mv]
    ·rw [Ai (by omega),Ai h3,List.getElem?_set_ne (by omega)]
theorem x8 (place:Nat->Option (Nat×Nat)) (cells:List Value) (i:Nat) (v:Value) (rest:List (Nat×Value)) (off size:Nat) (us:List Value) (hp:place i=some (off,size)) (hv:v.cells=us.toArray)
  (hl:us.length=size) (hle:off+size<=cells.length):Instr.fill place cells.toArray ((i,v)::rest)=Instr.fill place (Dt cells off us).toArray rest:=by
 simp only [Instr.fill,hp,hv,Hc,hl]
 rw [Ai (by simp;omega)]
 congr 1
 have:=iI off us 0 cells (by omega)
 simp only [En] at this
 rw [<-this]
 simp
theorem Xu (e:Ty) {a:Act} : ∀(parts:List (Nat×Operand)) (i:Nat) (st:St) (π:Pi) (fr tr:Bool) (ys:List e.den) (st':St) (cells:List Value),Bh X π st a w->Lw e i parts st=some (fr,tr,ys,st')->
  (i+parts.length)*e.size<=cells.length->
  ∃π' cl,Bh X π' st' a w/\Flat w (Cx X.w0.heap.size X.Sc π' fr) e cl ys/\ys.length=parts.length/\Lk π π' st.heap st'.heap/\
   Instr.fill (λi=>some (i*e.size,e.size)) cells.toArray (parts.map λp=>(p.1,a.eval p.2))=some (Dt cells (i*e.size) cl).toArray/\
   (tr=true-> ∃Fs,Tk w e cl ys Fs/\hJ X w π' (List.flatten Fs)/\ ∀b∈List.flatten Fs,∃l r,π l=some r/\r.cl b)
 | [],i,st,π,fr,tr,ys,st',cells,h,he,hle=>by
  simp only [Lw,Aa,Ae] at he
  obtain ⟨rfl,rfl,rfl,rfl⟩:=he
  exact ⟨π,[],h,Flat.nil,rfl,Lk.refl _ _,by simp [Instr.fill,Dt],λ_=>⟨[],⟨rfl,λi z F hz=>by simp at hz⟩,⟨Nr,by simp⟩,by simp⟩⟩
 |(j,x)::r,i,st,π,fr,tr,ys,st',cells,h,he,hle=>by
  simp only [Lw] at he
  split at he
  ·rename_i jT;subst jT
   split at he
   ·rename_i v' st1 hs
    obtain ⟨cn,h1,h2,h3,h4,h5⟩:=c7 h (Dq h.2 x) hs
    split at he
    ·rename_i fr1 y hv
     split at he
     ·rename_i rR tr2 zs st2 hr
      simp only [Aa,Ae] at he
      obtain ⟨rfl,rfl,rfl,rfl⟩:=he
      obtain ⟨es,gQ,JO⟩:=Nf e v' _ fr1 y h3 h2 hv
      have kV:=Cells.len e es y gQ
      have Adg:i*e.size+e.size<=cells.length:=by
       have:(i+1)*e.size<=(i+((i,x)::r).length)*e.size:=Fz _ (by simp)
       rw [De,Vz] at this
       omega
      have PA:i*e.size+es.length<=cells.length:=by omega
      obtain ⟨VV,cl,g1,g2,g3,g4,g5,g6⟩:=Xu e r (i+1) st1 cn rR tr2 zs st2 (Dt cells (i*e.size) es) h1 hr (by
       rw [Jq _ _ _ PA]
       rw [show i+1+r.length=i+((i,x)::r).length by simp;omega];exact hle)
      have f1:Flat w (Cx X.w0.heap.size X.Sc VV fr1) e es [y]:=⟨by simp [kV],λq z hz=>by
       rcases q with _|q
       ·simp at hz;subst hz
        exact ⟨es,kV,λj u hu=>by simpa using hu,yw g1 g4 e es y gQ⟩
       ·simp at hz⟩
      refine ⟨VV,es++cl,g1,?_,by simp [g3],h4.trans g4,?_,λht=>?_⟩
      ·have:=(f1.cells λes z hc=>hc.and_left (f2:=rR)).append (g2.cells λes z hc=>hc.and_right (f1:=fr1))
       simpa using this
      ·simp only [Cc]
       rw [x8 _ cells i (a.eval x) _ (i*e.size) e.size es rfl (by rw [JO];exact Lp e es y gQ) kV Adg,g5]
       congr 2
       have Qo:cl.length=r.length*e.size:=by rw [g2.1,g3]
       have Ye:(i+1)*e.size+cl.length<=(Dt cells (i*e.size) es).length:=by
        rw [Jq _ _ _ PA,Qo,<-De]
        rw [show i+1+r.length=i+((i,x)::r).length by simp;omega];exact hle
       have Alf:i*e.size+(es++cl).length<=cells.length:=by
        rw [Jq _ _ _ PA] at Ye
        rw [Au,kV]
        rw [De,Vz] at Ye
        omega
       have e1:(i+1)*e.size=i*e.size+es.length:=by rw [De,Vz,kV]
       apply List.ext_getElem?
       intro k
       rw [Iw _ _ _ _ Ye,Iw _ _ _ _ Alf,Iw _ _ _ _ PA,e1,Au]
       by_cases k1:k<i*e.size
       ·rw [Ab (by omega),Ab k1,Ab k1]
       ·rw [Ai k1,Ai k1]
        by_cases k2:k<i*e.size+es.length
        ·rw [Ab k2,Ab k2,Ab (by omega),At (by omega)]
        ·rw [Ai k2,Ai k2]
         by_cases k3:k<i*e.size+es.length+cl.length
         ·rw [Ab k3,Ab (by omega),As (by omega)]
          congr 1;omega
         ·rw [Ai k3,Ai (by omega)]
      ·simp only [Ag] at ht
       obtain ⟨⟨ht1,WD⟩,ht3⟩:=ht
       obtain ⟨F,us,t1,t2,t3,t7⟩:=h5 ht1 e fr1 y WD hv
       obtain ⟨Fs,t4,t5,t6⟩:=g6 ht3
       have YS:us=es:=by
        have c1:=Db.cells (S:= λ_=>False) F e us y t1 (λ_ _ h=>h)
        have a1:=Lp e us y c1
        have a2:=Lp e es y gQ
        rw [<-t2,JO,a2] at a1
        simpa using a1.symm
       subst YS
       refine ⟨F::Fs,?_,?_,λb hb=>?_⟩
       ·have k1:Tk w e us [y] [F]:=⟨rfl,λq z G hz hG=>by
         rcases q with _|q
         ·simp at hz hG;subst hz;subst hG
          exact ⟨us,kV,λj u hu=>by simpa using hu,t1⟩
         ·simp at hz⟩
        exact Tk.append (by simp [kV]) k1 t4
       ·rw [Ls]
        refine ⟨Dr.2 ⟨t3.1,t5.1,λb hb b' vo e=>?_⟩,λb hb=>?_⟩
        ·subst e
         obtain ⟨l,r,q1,q2⟩:=t6 b vo
         exact (t3.2 b hb).2.2 l r q1 q2
        ·rcases Ay.1 hb with hb|hb
         ·have:=t3.2 b hb
          refine ⟨this.1,this.2.1,λl r q1 q2=>?_⟩
          cases hh:Av st2.heap l with
          |none=>rw [(g1.1.heap l).emp hh] at q1;cases q1
          |some b'=>exact this.2.2 l r ((g4 l b' hh).1▸q1) q2
         ·exact t5.2 b hb
       ·rw [Ls] at hb
        rcases Ay.1 hb with hb|hb
        ·exact t7 b hb
        ·obtain ⟨l,r,q1,q2⟩:=t6 b hb
         cases hh:Av st1.heap l with
         |none=>rw [(h1.1.heap l).emp hh] at q1;cases q1
         |some b'=>exact ⟨l,r,(h4 l b' hh).1▸q1,q2⟩
     ·cases he
    ·cases he
   ·cases he
  ·cases he
theorem iD (hT:Eb P T) {st:St} {a:Act} (h:Bh X π st a w) (dst:Nat) (t:TypeId) (len:Nat) (parts:Array (Nat×Operand)) (av:AV) (st':St)
  (he:Mx T st dst t len parts=some (av,st')):
  ∃v' w' π',(Instr.buildSlice t len (parts.map λ(i,x)=>(i,a.eval x))).run P w= .ok v' w'/\Bh X π' st' a w'/\Bm X w' π' st'.heap av v':=by
 unfold Mx at he
 split at he
 ·cases he
 ·rename_i te kX
  split at he
  ·cases he
  ·rename_i e Yh
   split at he
   ·rename_i Ki
    obtain ⟨kv,hlen⟩:=Ki
    split at he
    ·rename_i fr tr ys st1 hb
     simp only [Aa,Ae] at he
     obtain ⟨rfl,rfl⟩:=he
     obtain ⟨i,hi,Vu,r9,tb⟩:=(hT.ty te e Yh).info
     have hu:=hT.elem t te kX
     have SD:parts.toList.length=len:=by simpa using kv
     have hz: ∃z:Array Value,(len*e.size=0/\z= #[])\/(¬len*e.size=0/\(zeroValue te).run P w= .ok (By e (Bp e)) w/\z=(By e (Bp e)).cells):=by
      by_cases h0:len*e.size=0
      ·exact ⟨#[], .inl ⟨h0,rfl⟩⟩
      ·exact ⟨_, .inr ⟨h0,by simp [zeroValue,typeInfo,hi,tb],rfl⟩⟩
     obtain ⟨z,hz⟩:=hz
     obtain ⟨cn,cl,g1,g2,g3,g4,g5,g6⟩:=Xu e parts.toList 0 st π fr tr ys st1 ((Array.range (len*e.size)).map (z[· %z.size]!)).toList h hb (by simp [SD])
     have Qo:cl.length=len*e.size:=by rw [g2.1,g3,SD]
     have YP:(Dt ((Array.range (len*e.size)).map (z[· %z.size]!)).toList (0*e.size) cl)=cl:=by
      simp [Dt,Qo]
     rw [YP] at g5
     have Vv:(Instr.buildSlice t len (parts.map λ(i,x)=>(i,a.eval x))).run P w= .ok (.slice (some ⟨w.heap.size,0,none⟩) len len) (w.alloc (.cells cl.toArray te)):=by
      have h24: ¬(len*e.size>2^24):=by
       have:len*e.size<=64*64:=Nat.mul_le_mul hlen.1 hlen.2.1
       omega
      simp only [Instr.buildSlice,Sem.run_bind,run_underlying hu,Result.andThen_ok,(hT.ty te e Yh).size,Ai h24]
      have e1:(parts.map λ(i,x)=>(i,a.eval x)).toList=parts.toList.map λp=>(p.1,a.eval p.2):=by simp
      simp only [e1]
      have e2:(((Array.range (len*e.size)).map (z[· %z.size]!)).toList.toArray)=(Array.range (len*e.size)).map (z[· %z.size]!):=Array.toArray_toList
      rw [e2] at g5
      rcases hz with ⟨h0,rfl⟩|⟨h0,hz,rfl⟩
      ·rw [Ab h0]
       simp only [Sem.run_bind,Sem.run_pure,Result.andThen_ok,g5,newRow]
       simp
      ·rw [Ai h0]
       simp only [Sem.run_bind,Sem.run_pure,Result.andThen_ok,hz,g5,newRow]
       simp
     have hN: ∃N:List Nat,(∀b∈N,(X.w0.heap.size<=b\/X.gv b)/\b<w.heap.size/\ ∀m r0,m≠dst->cn m=some r0-> ¬r0.cl b)/\(tr=true->N.Nodup/\ ∃Fs,List.flatten Fs=N/\Tk w e cl ys Fs):=by
      cases tr with
      |false=>exact ⟨[],by simp,λh=>by cases h⟩
      |true=>
       obtain ⟨Fs,t1,t2,_⟩:=g6 rfl
       exact ⟨_,λb hb=>⟨(t2.2 b hb).1,(t2.2 b hb).2.1,λm r0 _=>(t2.2 b hb).2.2 m r0⟩,λ_=>⟨t2.1,Fs,rfl,t1⟩⟩
     obtain ⟨N,q1,q2⟩:=hN
     have:=fC (w1:=w.alloc (.cells cl.toArray te)) g1 dst hlen.2.2 ((T.vn||e.flat)&&fr) (T.BK&&tr) e te ys cl cl.toArray len N (.inr rfl) (by simpa using Qo) (by simp only [maxLen];omega) (by omega) (λk u hu=>by simpa using hu) (g2.cells λes z hc=>hc.and_right) q1 (λht=>q2 (by simp only [Ag] at ht;exact ht.2))
     exact ⟨_,_,_,Vv,this.1,this.2 _ (by omega)⟩
    ·cases he
   ·cases he
theorem lW {t te:TypeId} {e:Ty} (h:eb T t=some (te,e)):T.elem t=some te/\T.ty te=some (.slice e):=by
 unfold eb at h
 cases he:T.elem t with
 |none=>rw [he] at h;cases h
 |some Ru=>
  rw [he] at h
  simp only [Fo] at h
  cases hg:T.OT Ru with
  |none=>rw [hg] at h;cases h
  |some e'=>
   rw [hg] at h
   simp only [Ak,Aa,Ae] at h
   obtain ⟨rfl,rfl⟩:=h
   refine ⟨rfl,?_⟩
   unfold Tab.OT at hg
   split at hg
   ·split at hg
    ·rename_i Yh;simp only [Aa] at hg;subst hg;exact Yh
    ·cases hg
   ·cases hg
theorem mP (w:World) (o:Obj):Li w.heap.size (λ_=>False) w (w.alloc o):=⟨rfl,rfl,rfl,by simp,λk hk _=>Below.heap_alloc w _ k hk⟩
theorem pU (w:World) (o:Obj):Li w.heap.size (λ_=>False) w (w.drew.alloc o):=⟨rfl,rfl,rfl,by simp,λk hk _=>Below.heap_alloc w.drew _ k hk⟩
theorem r6 (hT:Eb P T) {st:St} {a:Act} (h:Bh X π st a w) (dst:Nat) (t:TypeId) (l c:AV) (vl vc:Value) (hl:Bm X w π st.heap l vl) (hc:Bm X w π st.heap c vc) (av:AV) (st':St)
  (he:Yb T st dst t l c=some (av,st')): ∃v' w' π',(Instr.makeSlice t vl vc).run P w= .ok v' w'/\Bh X π' st' a w'/\Bm X w' π' st'.heap av v':=by
 unfold Yb at he
 split at he
 ·exact sM hT h dst t l c vl vc hl hc av st' he
 ·rename_i te e hg
  obtain ⟨kX,Yh⟩:=lW hg
  split at he
  ·rename_i fr1 k1 n rR k2 m
   have:=Qk hl;subst this
   have:=Qk hc;subst this
   split at he
   ·rename_i Ki
    obtain ⟨h0,hnm,yL⟩:=Ki
    obtain ⟨h1,h2⟩:=Um.1 h0
    subst hnm
    simp only [Aa,Ae] at he
    obtain ⟨rfl,rfl⟩:=he
    obtain ⟨i,hi,Vu,r9,tb⟩:=(hT.ty te _ Yh).info
    have hu:=hT.elem t te kX
    have hn:n.toNat<=4294967296:=by unfold Dj at h2;omega
    have hr:=run_make (P:=P) (w:=w) t te i _ hu hi tb k1 k2 n n h1 (Gi _) (by
     have:(i.bytes:Int)*n<=256*4294967296:=by
      obtain ⟨nn,rfl⟩:=Jd h1
      have h7:i.bytes*nn<=256*4294967296:=Nat.mul_le_mul r9 (by simpa using hn)
      have h8:((i.bytes*nn:Nat):Int)<=256*4294967296:=by omega
      rwa [Int.natCast_mul] at h8
     omega) (by unfold Dj at h2;omega)
    have YT:(By (Ty.slice e) (Bp (Ty.slice e))).cells= #[.slice none 0 0]:=by simp [By,Ty.Aq,Bp,Value.cells]
    have iR:(Ty.slice e).size=1:=rfl
    rw [YT,Vu,iR] at hr
    have cell: ∀j,j<n.toNat->(madeCells #[Value.slice none 0 0] (n.toNat*1))[0+j]?=some (.slice none 0 0):=by
     intro j hj
     have:=PZ (z:= #[Value.slice none 0 0]) (s:=1) (m:=n.toNat) (j:=j) (q:=0) rfl hj (by omega)
     simp only [Fl,En] at this
     simp only [Fl,Cb]
     rw [this];rfl
    obtain ⟨π',g1,g2⟩:=Zs (w1:=w.alloc (.cells (madeCells #[Value.slice none 0 0] (n.toNat*1)) te)) (gv:= λ_=>False) h yL yL te (e:=e) (rows:=List.replicate n.toNat []) (us:=List.replicate n.toNat (.slice none 0 0)) (Rs:=List.replicate n.toNat none) (g:=w.heap.size) (o:=0) (cap:=n.toNat)
     (λ_ hf=>hf.elim) (mP w _) ⟨.inl (Ap _),by simp⟩ (heap_alloc_new w _) (by rw [size_madeCells];omega) (by unfold maxLen;omega) (by simp) (λj u hu=>by
      have hj:=(An.1 hu).1
      simp only [Ja] at hj
      rw [cell j hj,Fu (Cd hu)])
     ⟨by simp,by simp,λi j q q' h1=>(by have:=Fu (Cd h1);cases this),λi x hx=>by
      have hj:=(An.1 hx).1
      simp only [Ja] at hj
      rw [Fu (Cd hx)]
      exact ⟨.slice none 0 0,none,by rw [Zg,Ab hj],by rw [Zg,Ab hj],⟨rfl,rfl,rfl⟩,rfl⟩⟩
     (λi q h1=>by have:=Fu (Cd h1);cases this)
    exact ⟨_,_,π',hr,g1,g2 _ (by simp)⟩
   ·cases he
  ·cases he
theorem gO (hT:Eb P T) {st:St} {a:Act} (h:Bh X π st a w) (dst:Nat) (t:TypeId) (len:Nat) (parts:Array (Nat×Operand)) (av:AV) (st':St)
  (he:Jt T st dst t len parts=some (av,st')):
  ∃v' w' π',(Instr.buildSlice t len (parts.map λ(i,x)=>(i,a.eval x))).run P w= .ok v' w'/\Bh X π' st' a w'/\Bm X w' π' st'.heap av v':=by
 unfold Jt at he
 split at he
 ·exact iD hT h dst t len parts av st' he
 ·rename_i te e hg
  obtain ⟨kX,Yh⟩:=lW hg
  split at he
  rotate_left
  ·cases he
  rename_i x Ahx
  split at he
  rotate_left
  ·cases he
  rename_i m off ln hx
  split at he
  rotate_left
  ·cases he
  rename_i fr tr e' tid xs hm
  split at he
  rotate_left
  ·cases he
  rename_i hc
  obtain ⟨rfl,hc,rfl,rfl⟩:=hc
  simp only [Ag,Ns] at hc
  obtain ⟨hlen,yL,hmp⟩:=hc
  have hlen:len=1:=Kg hlen
  subst hlen
  simp only [Aa,Ae] at he
  obtain ⟨rfl,rfl⟩:=he
  have hu:=hT.elem t te kX
  unfold St.at at hm
  have hrx:=Dq h.2 x
  rw [hx] at hrx
  obtain ⟨_,vr⟩:=Oy (X:=X) (w:=w) hrx hm
  obtain ⟨ax,nx,cx,hvx⟩:=aY vr
  have hp:parts= #[(0,x)]:=by apply Pu;simpa using Ahx
  subst hp
  obtain ⟨i,hi,Vu,r9,tb⟩:=(hT.ty te _ Yh).info
  have Vv:(Instr.buildSlice t 1 (#[(0,x)].map λ(i,x)=>(i,a.eval x))).run P w= .ok (.slice (some ⟨w.heap.size,0,none⟩) 1 1) (w.alloc (.cells #[a.eval x] te)):=by
   have iR:(Ty.slice e').size=1:=rfl
   have hz:(zeroValue te).run P w= .ok (.slice none 0 0) w:=by simp [zeroValue,typeInfo,hi,tb,By,Ty.Aq,Bp]
   have hmp:(#[(0,x)].map λ(i,x)=>(i,a.eval x))= #[(0, .slice ax nx cx)]:=by simp [hvx]
   rw [hmp,hvx]
   simp only [Instr.buildSlice,Sem.run_bind,run_underlying hu,Result.andThen_ok,(hT.ty te _ Yh).size,iR]
   simp [Value.cells,Instr.fill,newRow,hz]
   congr 2
   apply Array.ext
   ·simp
   ·intro i h1 h2
    have h0:i=0:=by simpa using h2
    subst h0
    simp
  have qd:=(h.1.heap m).Rz hm
  simp only [Cg,Ks] at qd
  have hfa:Tl w (Cx X.w0.heap.size X.Sc π false) (π m) e' xs:=by
   cases hR:π m with
   |none=>rw [hR] at qd;exact qd
   |some q=>
    rw [hR] at qd
    obtain ⟨⟨f0,f0',_⟩,cu,ti',f2,f3,f4,f5,f6,_⟩:=qd
    exact ⟨⟨f0,f0'⟩,cu,ti',f2,f3,f4,f5,λp y hy=>by
     obtain ⟨es,g1,g2,g3⟩:=f6 p y hy
     exact ⟨es,g1,g2,Cells.Ft (Ap _) (λ_ _ _=>rfl) (λb _ hA=>hA.imp id (Or.imp id λ⟨h1,_⟩=>by cases h1)) e' es y g3⟩⟩
  obtain ⟨π',g1,g2⟩:=Zs (w1:=w.alloc (.cells #[a.eval x] te)) (gv:= λ_=>False) h yL hmp te (e:=e') (rows:= [xs]) (us:= [a.eval x]) (Rs:= [π m]) (g:=w.heap.size) (o:=0) (cap:=1)
   (λ_ hf=>hf.elim) (mP w _) ⟨.inl (Ap _),by simp⟩ (heap_alloc_new w _) rfl (by unfold maxLen;omega) (by simp) (λj u hu=>by
    rcases j with _|j
    ·simpa using hu
    ·simp at hu)
   ⟨rfl,rfl,λi j q q' h1 h2 _=>by
    rcases i with _|i
    ·rcases j with _|j
     ·rfl
     ·simp at h2
    ·simp at h1,λi y hy=>by
    rcases i with _|i
    ·simp only [Bq,Aa] at hy
     subst hy
     exact ⟨_,_,rfl,rfl,vr,hfa⟩
    ·simp at hy⟩
   (λi q h1=>by
    rcases i with _|i
    ·simp only [Bq,Aa] at h1
     have hf:=h.1.Cq h1
     have:=(h.1.place m q _ h1 (h.1.sub m q _ h1 hf)).2
     exact ⟨by omega,λh=>h,m,q, .inr rfl,h1,hf⟩
    ·simp at h1)
  exact ⟨_,_,π',Vv,g1,g2 1 rfl⟩
theorem mZ (hT:Eb P T) {st:St} {a:Act} (h:Bh X π st a w) (dst:Nat) (t ty:TypeId) (x y:Operand) (av:AV) (st':St) (he:Sf T st dst t x y=some (av,st')):
  ∃v' w' π',(Builtin.append_ #[t,t] ty #[a.eval x,a.eval y]).run P w= .ok v' w'/\Bh X π' st' a w'/\Bm X w' π' st'.heap av v':=by
 unfold Sf at he
 split at he
 ·exact mY hT h dst t ty x y av st' he
 ·rename_i te e hg
  obtain ⟨kX,Yh⟩:=lW hg
  split at he
  rotate_left
  ·cases he
  rename_i l off len m ZW tD hx hy
  split at he
  rotate_left
  ·cases he
  rename_i e1 te1 A kp1 e2 wA B kp2 hl hm
  split at he
  rotate_left
  ·cases he
  rename_i hc
  obtain ⟨⟨rfl,rfl⟩,hc,⟨rfl,rfl⟩,⟨rfl,rfl⟩,hB,p7⟩:=hc
  simp only [Ag,Ns,Ri,Er] at hc
  obtain ⟨⟨rfl,rfl⟩,re,hmp,iQ⟩:=hc
  have iQ:m≠l:= λe=>by rw [e,Nat.beq_refl] at iQ;cases iQ
  simp only [Aa,Ae] at he
  obtain ⟨rfl,rfl⟩:=he
  have hu:=hT.elem t wA kX
  obtain ⟨i,hi,Vu,r9,tb⟩:=(hT.ty wA _ Yh).info
  have Vu:i.size=1:=Vu
  unfold St.at at hl hm
  have hrx:=Dq h.2 x
  have hry:=Dq h.2 y
  rw [hx] at hrx;rw [hy] at hry
  obtain ⟨b1,s1,n1,q1,q2,_,hox⟩:=hrx
  rw [hl] at q1;cases q1
  simp only [OB.row,Aa,Ae] at q2
  obtain ⟨rfl,rfl⟩:=q2
  obtain ⟨b2,s2,n2,q1,q2,_,hoy⟩:=hry
  rw [hm] at q1;cases q1
  simp only [OB.row,Aa,Ae] at q2
  obtain ⟨rfl,rfl⟩:=q2
  have hA:=((h.1.heap l).Rz hl).1
  have hBb:=((h.1.heap m).Rz hm).1
  cases hpm:π m with
  |none=>
   rw [hpm] at hBb
   have hBb:B= []:=hBb
   subst hBb;simp at hB
  |some rB=>
  rw [hpm] at hBb hoy
  obtain ⟨fB,Avd,tiB,uB,RB,w1B,w2B,w3B,w4B,w5B,w6B,w7B,LB⟩:=xa hBb
  obtain ⟨adB,hvy,hcB,haB⟩:=hoy
  have haB:=haB (by omega)
  subst haB
  have hlB:=LB.1
  have n1':uB.length=B.length*i.size:=by rw [Vu,Fl];exact hlB
  have n2': ∀j u,uB[j]?=some u->w.cell? ((⟨rB.g,(rB.o+0)*1,none⟩:Addr).add j)=some u:= λj u hu=>by
   rw [Addr.add_lit,cellOf w1B,Fl,En];exact w5B j u hu
  have sY:(A.length+B.length)*i.bytes<=140737488355328:=by
   have:(A.length+B.length)*i.bytes<=4294967296*256:=Nat.mul_le_mul p7 r9
   omega
  have iS:A.length+B.length<=maxLen:=by unfold Dj at p7;simp only [maxLen];omega
  have hzs:(By (Ty.slice e2) (Bp (Ty.slice e2))).cells.size=1:=by simp [By,Ty.Aq,Bp,Value.cells]
  have Wl: ∀(k:Nat) (q:Real) (Rs:List (Option Real)),π k=some q->(∀(i:Nat) (p:Real),Rs[i]?=some (some p)->q.Cq p.g/\p.g≠q.g)-> ∀(i:Nat) (p:Real),Rs[i]?=some (some p)->p.g<w.heap.size:= λk q Rs h1 h2 i p h3=>
   (h.1.place k q _ h1 (h.1.sub k q _ h1 (h2 i p h3).1)).2
  cases kv:π l with
  |none=>
   rw [kv] at hA hox
   have hA:A= []:=hA
   subst hA
   obtain ⟨hvx,_,_⟩:=hox
   rw [hvx,hvy]
   simp only [Eo,Cb,ic] at p7 sY iS⊢
   have hr:=run_append_nil (P:=P) w t ty wA i _ hu hi tb ⟨rB.g,(rB.o+0)*1,none⟩ B.length (rB.cap-0) uB n1' n2' hB (by simp only [maxLen] at iS;omega) (by omega)
   have vI:=grownCap_ge w B.length 0 wA
   have hcm:=grownCap_le_maxLen w B.length 0 wA (by omega)
   obtain ⟨π',g1,g2⟩:=Zs (w1:=w.drew.alloc (.cells (uB.toArray++Builtin.zeroCells (By (Ty.slice e2) (Bp (Ty.slice e2))).cells (grownCap w B.length 0 wA-B.length)) wA)) (gv:= λ_=>False) h re hmp wA (e:=e2) (rows:=B) (us:=uB) (Rs:=RB) (g:=w.heap.size) (o:=0) (cap:=grownCap w B.length 0 wA)
    (λ_ hf=>hf.elim) (pU w _) ⟨.inl (Ap _),by simp⟩ (heap_alloc_new w.drew _) (by rw [Array.size_append,Hc,Ut,hzs];omega) hcm vI (λj u hu=>by
     have hj:=(An.1 hu).1
     rw [Cb,Tz (by simpa using hj)];simpa using hu)
    LB (λi q h1=>⟨by have:=Wl m rB RB hpm w7B i q h1;omega,λh=>h,m,rB, .inr rfl,hpm,(w7B i q h1).1⟩)
   exact ⟨_,_,π',hr,g1,g2 _ rfl⟩
  |some rA=>
   rw [kv] at hA hox
   obtain ⟨fA,RS,tiA,uA,RA,w1A,w2A,w3A,w4A,w5A,w6A,w7A,LA⟩:=xa hA
   obtain ⟨adA,hvx,hcA,haA⟩:=hox
   have hlA:=LA.1
   rw [hvx,hvy]
   have apart: ∀(i j:Nat) (q q':Real),RA[i]?=some (some q)->RB[j]?=some (some q')->q.g≠q'.g:= λi j q q' h1 h2 e=>by
    have:=h.1.apart kv hpm (w7A i q h1).1 (e▸(w7B j q' h2).1)
    exact iQ this.symm
   have LAB:=si.append LA LB apart
   have Jl: ∀(i:Nat) (q:Real),RB[i]?=some (some q)->q.g≠rA.g:= λi q h1 e=>iQ (h.1.apart hpm kv (w7B i q h1).1 (e▸fA))
   have hRs: ∀(i:Nat) (q:Real),(RA++RB)[i]?=some (some q)->q.g≠rA.g/\q.g<w.heap.size/\ ∃k p,(k=l\/k=m)/\π k=some p/\p.Cq q.g:= λi q h1=>by
    by_cases hi:i<RA.length
    ·rw [At hi] at h1
     exact ⟨(w7A i q h1).2,Wl l rA RA kv w7A i q h1,l,rA, .inl rfl,kv,(w7A i q h1).1⟩
    ·rw [As (by omega)] at h1
     exact ⟨Jl _ q h1,Wl m rB RB hpm w7B _ q h1,m,rB, .inr rfl,hpm,(w7B _ q h1).1⟩
   by_cases DT:A.length+B.length<=rA.cap-0
   ·have haA:=haA (by omega)
    subst haA
    have Ye:(rA.o+0)*1+A.length*i.size+uB.length<=RS.size:=by rw [Vu];omega
    have Zt:(rA.o+0)*1+A.length*i.size+uB.length<=RS.toList.length:=by simpa using Ye
    have hr:=aJ (P:=P) (w:=w) (ty:=ty) hu hi rA.g ((rA.o+0)*1) A.length (rA.cap-0) RS tiA w1A ⟨rB.g,(rB.o+0)*1,none⟩ B.length (rB.cap-0) uB n1' n2' w6B DT Ye
    have ta:=Nx w rA.g (Dt RS.toList ((rA.o+0)*1+A.length*i.size) uB).toArray
    obtain ⟨π',g1,g2⟩:=Zs (w1:=w.setRow rA.g (Dt RS.toList ((rA.o+0)*1+A.length*i.size) uB).toArray) (gv:= λb=>b=rA.g) h re hmp wA (e:=e2) (rows:=A++B) (us:=uA++uB) (Rs:=RA++RB) (g:=rA.g) (o:=rA.o) (cap:=rA.cap)
     (λb hb=>⟨l,rA, .inl rfl,kv,hb▸fA⟩) ⟨ta.os,ta.tape,ta.output,ta.size,λc _ hc=>setRow_other w rA.g c _ hc⟩ ⟨.inr ⟨l,rA, .inl rfl,kv,fA⟩,Ef (Gk w1A) ta.size⟩
     (setRow_heap w rA.g RS _ tiA _ w1A) (by rw [Hc,Jq _ _ _ Zt,Xp];exact w2A) w3A (by simp;omega) (λj u hu=>by
      rw [Iz,Iw _ _ _ _ Zt,Vu]
      by_cases hj:j<uA.length
      ·rw [At hj] at hu
       rw [Ab (by omega),Array.getElem?_toList]
       exact w5A j u hu
      ·rw [As (by omega)] at hu
       have:=(An.1 hu).1
       rw [Ai (by omega),Ab (by omega)]
       rw [show rA.o+j-((rA.o+0)*1+A.length*1)=j-uA.length by omega]
       exact hu)
     LAB (λi q h1=>⟨(hRs i q h1).1,(hRs i q h1).1,(hRs i q h1).2.2⟩)
    have:=g2 (A.length+B.length) (by simp)
    have e0:(rA.o+0)*1=rA.o:=by omega
    simp only [e0,Nat.sub_zero] at hr g1 this⊢
    exact ⟨_,_,π',hr,g1,this⟩
   ·have hold: ∀j u,uA[j]?=some u->w.cell? (adA.add j)=some u:=by
     intro j u hu
     have hj:=(An.1 hu).1
     rw [haA (by omega),Addr.add_lit,cellOf w1A,Fl,En];exact w5A j u hu
    have hr:=run_append_grow (P:=P) w t ty wA i _ hu hi tb adA A.length (rA.cap-0) uA (by rw [Vu,Fl];exact hlA) hold ⟨rB.g,(rB.o+0)*1,none⟩ B.length (rB.cap-0) uB n1' n2' (by omega) (by simp only [maxLen] at iS;omega) (growslice_fits (by omega) sY)
    have vI:=grownCap_ge w (A.length+B.length) (rA.cap-0) wA
    have hcm:=grownCap_le_maxLen w (A.length+B.length) (rA.cap-0) wA iS
    obtain ⟨π',g1,g2⟩:=Zs (w1:=w.drew.alloc (.cells (uA.toArray++uB.toArray++Builtin.zeroCells (By (Ty.slice e2) (Bp (Ty.slice e2))).cells (grownCap w (A.length+B.length) (rA.cap-0) wA-(A.length+B.length))) wA)) (gv:= λ_=>False) h re hmp wA (e:=e2) (rows:=A++B) (us:=uA++uB) (Rs:=RA++RB) (g:=w.heap.size) (o:=0) (cap:=grownCap w (A.length+B.length) (rA.cap-0) wA)
     (λ_ hf=>hf.elim) (pU w _) ⟨.inl (Ap _),by simp⟩ (heap_alloc_new w.drew _) (by rw [Array.size_append,Array.size_append,Hc,Hc,Ut,hzs];omega) hcm (by simpa using vI) (λj u hu=>by
      have hj:=(An.1 hu).1
      rw [Cb,Tz (by simpa using hj)];simpa using hu)
     LAB (λi q h1=>⟨by have:=(hRs i q h1).2.1;omega,λh=>h,(hRs i q h1).2.2⟩)
    exact ⟨_,_,π',hr,g1,g2 _ (by simp)⟩
theorem lB: ∀τ:Ty,Gb X w π H (zeroCells τ) (Bp τ):=by
 have one: ∀(c:AC) (v:Value),v.oneCell'=true->Ia X w π H c v->Gb X w π H [c] [v]:= λc v h1 h2=>⟨rfl,λi c' hc=>by
  rcases i with _|i
  ·simp at hc;subst hc;exact ⟨v,rfl,h1,h2⟩
  ·simp at hc⟩
 intro τ
 induction τ with
 |unit=>exact ⟨rfl,λi c hc=>by simp [zeroCells] at hc⟩
 |pair a r gX gT=>
  refine ⟨by simp [zeroCells,Bp,gX.1,gT.1],λi c hc=>?_⟩
  simp only [zeroCells] at hc
  simp only [Bp]
  by_cases hi:i<(zeroCells a).length
  ·rw [At hi] at hc
   obtain ⟨u,hu,h⟩:=gX.2 i c hc
   exact ⟨u,by rw [At (by rw [gX.1];exact hi)];exact hu,h⟩
  ·rw [As (by omega)] at hc
   obtain ⟨u,hu,h⟩:=gT.2 _ c hc
   exact ⟨u,by rw [As (by rw [gX.1];omega),gX.1];exact hu,h⟩
 |int k=>exact one (.data true _ _) _ rfl (No (H:=H) k 0 true)
 |bool=>exact one (.data true _ _) _ rfl (Mn (H:=H) false true)
 |str=>exact one (.data true _ _) _ rfl (mb (H:=H) ByteArray.empty true)
 |slice e=>exact one _ _ rfl rfl
 |oslice e=>exact one _ _ rfl rfl
 |ptr e=>exact one _ _ rfl rfl
 |optr e=>exact one _ _ rfl rfl
 |smap v=>exact one (.data true _ _) _ rfl ⟨[.map none], .inl ⟨rfl,rfl⟩,by simp [By,Ty.Aq]⟩
 |clo f c=>exact one .undef .nilFunc rfl trivial
theorem vg: ∀τ:Ty,Gb X w π H (Qn τ) (Bp τ):=by
 have one: ∀(c:AC) (v:Value),v.oneCell'=true->Ia X w π H c v->Gb X w π H [c] [v]:= λc v h1 h2=>⟨rfl,λi c' hc=>by
  rcases i with _|i
  ·simp at hc;subst hc;exact ⟨v,rfl,h1,h2⟩
  ·simp at hc⟩
 intro τ
 induction τ with
 |unit=>exact ⟨rfl,λi c hc=>by simp [Qn] at hc⟩
 |pair a r gX gT=>
  refine ⟨by simp [Qn,Bp,gX.1,gT.1],λi c hc=>?_⟩
  simp only [Qn] at hc
  simp only [Bp]
  by_cases hi:i<(Qn a).length
  ·rw [At hi] at hc
   obtain ⟨u,hu,h⟩:=gX.2 i c hc
   exact ⟨u,by rw [At (by rw [gX.1];exact hi)];exact hu,h⟩
  ·rw [As (by omega)] at hc
   obtain ⟨u,hu,h⟩:=gT.2 _ c hc
   exact ⟨u,by rw [As (by rw [gX.1];omega),gX.1];exact hu,h⟩
 |int k=>exact one (.data false _ _) _ rfl (No (H:=H) k 0 false)
 |bool=>exact one (.data false _ _) _ rfl (Mn (H:=H) false false)
 |str=>exact one (.data false _ _) _ rfl (mb (H:=H) ByteArray.empty false)
 |slice e=>exact one (.data false _ _) _ rfl ⟨[.slice none 0 0],⟨none,0,0,rfl,rfl,Ap _, .inl rfl⟩,by simp [By,Ty.Aq]⟩
 |oslice e=>exact one _ _ rfl rfl
 |ptr e=>exact one _ _ rfl rfl
 |optr e=>exact one _ _ rfl rfl
 |smap v=>exact one (.data false _ _) _ rfl ⟨[.map none], .inl ⟨rfl,rfl⟩,by simp [By,Ty.Aq]⟩
 |clo f c=>exact one .undef .nilFunc rfl trivial
theorem dM (hT:Eb P T) {st:St} {a:Act} (h:Bh X π st a w) (t:TypeId) (Oq:Array (Nat×Nat))
  (kv: ∀f o u ρ,T.off t f=some (o,u)->T.ty u=some ρ->Oq[f]?=some (o,ρ.size)): ∀(parts:List (Nat×Operand)) (cs iB:List AC) (us:List Value),Gb X w π st.heap cs us->
  Mw T st t parts cs=some iB-> ∃Xf:List Value,Instr.fill (λi=>Oq[i]?) us.toArray (parts.map λp=>(p.1,a.eval p.2))=some Xf.toArray/\Gb X w π st.heap iB Xf
 | [],cs,iB,us,hr,he=>by
  simp only [Mw,Aa] at he;subst he
  exact ⟨us,rfl,hr⟩
 |(f,x)::r,cs,iB,us,hr,he=>by
  simp only [Mw] at he
  split at he
  ·rename_i o u ho
   split at he
   ·rename_i ρ hρ
    split at he
    ·rename_i c hc
     split at he
     ·rename_i hle
      obtain ⟨vs,hv,hl,YM⟩:=iu (Dq h.2 x) hc
      have e1:=hr.1
      have e2:=YM.1
      obtain ⟨Xf,g1,g2⟩:=dM hT h t Oq kv r _ iB _ (uO hr YM o hle) he
      refine ⟨Xf,?_,g2⟩
      simp only [Cc]
      rw [x8 _ us f (a.eval x) _ o ρ.size vs (kv f o u ρ ho hρ) hv hl (by omega)]
      exact g1
     ·cases he
    ·cases he
   ·cases he
  ·cases he
theorem gq (hT:Eb P T) {st:St} {a:Act} (h:Bh X π st a w) (t:TypeId) (parts:Array (Nat×Operand)) (av:AV) (he:Xy T st t parts=some av):
  ∃v',(Instr.build t (parts.map λ(i,x)=>(i,a.eval x))).run P w= .ok v' w/\Bm X w π st.heap av v':=by
 unfold Xy at he
 split at he
 ·cases he
 ·rename_i τ Yh
  split at he
  ·rename_i hs
   cases hb:Mw T st t parts.toList (zeroCells τ) with
   |none=>rw [hb] at he;cases he
   |some iB=>
    rw [hb] at he
    simp only [Ak,Aa] at he;subst he
    obtain ⟨fs,Oq,h1,h2,h3⟩:=hT.fill t τ Yh hs
    obtain ⟨i,hi,Vu,r9,tb⟩:=(hT.ty t τ Yh).info
    obtain ⟨Xf,g1,g2⟩:=dM hT h t Oq h3 parts.toList (zeroCells τ) iB (Bp τ) (lB τ) hb
    refine ⟨.agg Xf.toArray,?_,Xf,rfl,g2⟩
    have hz:(zeroValue t).run P w= .ok (By τ (Bp τ)) w:=by simp [zeroValue,typeInfo,hi,tb]
    have YT:(By τ (Bp τ)).cells=(Bp τ).toArray:=by simp [By,hs,Value.cells]
    have h2':=h2 w
    unfold placesOf at h2'
    have e1:(parts.map λ(i,x)=>(i,a.eval x)).toList=parts.toList.map λp=>(p.1,a.eval p.2):=by simp
    simp only [Instr.build,Sem.run_bind,hz,Result.andThen_ok,run_underlying h1,h2',YT,e1,g1,Sem.run_pure]
  ·cases he
theorem uv {st:St} {v:AV} (h:v.settled=true):settle st v=some (v,st):=by
 cases v with
 | «at»a=>cases a<;>simp [AV.settled,AC.settled] at h<;>simp [settle,AC.settled]
 |agg cs=>
  have hs:cs.all (·.settled)=true:=h
  have:Ic cs.length st cs=some (cs,st):=by
   cases hn:cs.length with
   |zero=>simp [Ic,hs]
   |succ n=>
    have hf:cs.find? (λc=>!c.settled)=none:=List.find?_eq_none.2 λc hc=>by simpa using Bb.1 hs c hc
    simp [Ic,hf]
  simp [settle,this]
 |bw fr τ x=>rfl
 |Nd l=>simp [AV.settled] at h
theorem nO {e:Ty} {st:St} : ∀(parts:List (Nat×Operand)) (i:Nat) (fr:Bool) (ys:List e.den),fE e i parts st=some (fr,ys)-> ∃tr,Lw e i parts st=some (fr,tr,ys,st)
 | [],i,fr,ys,h=>by
  simp only [fE,Aa,Ae] at h
  obtain ⟨rfl,rfl⟩:=h
  exact ⟨true,rfl⟩
 |(j,x)::r,i,fr,ys,h=>by
  simp only [fE] at h
  split at h
  ·rename_i hc
   split at h
   ·rename_i f1 y f2 zs h1 h2
    simp only [Aa,Ae] at h
    obtain ⟨rfl,rfl⟩:=h
    obtain ⟨tr,h3⟩:=nO r (i+1) f2 zs h2
    refine ⟨Tw st (st.ev x)&&e.tree&&tr,?_⟩
    simp only [Lw]
    rw [Ab hc.1,uv hc.2]
    simp only [h1,h3]
   ·cases h
  ·cases h
theorem oQ (hT:Eb P T) {st:St} {a:Act} (h:Bh X π st a w) (t:TypeId) (len:Nat) (parts:Array (Nat×Operand)) (av:AV) (he:bG T st t len parts=some av):
  ∃v' w' π',(Instr.buildSlice t len (parts.map λ(i,x)=>(i,a.eval x))).run P w= .ok v' w'/\Bh X π' st a w'/\Bm X w' π' st.heap av v':=by
 unfold bG at he
 split at he
 ·cases he
 ·rename_i te kX
  split at he
  ·cases he
  ·rename_i e Yh
   split at he
   ·rename_i Ki
    obtain ⟨kv,hlen⟩:=Ki
    cases hp:fE e 0 parts.toList st with
    |none=>rw [hp] at he;cases he
    |some p=>
     obtain ⟨fr,ys⟩:=p
     rw [hp] at he
     simp only [Ak,Aa] at he
     subst he
     obtain ⟨tr,hb⟩:=nO _ _ _ _ hp
     obtain ⟨i,hi,Vu,r9,tb⟩:=(hT.ty te e Yh).info
     have hu:=hT.elem t te kX
     have SD:parts.toList.length=len:=by simpa using kv
     have hz: ∃z:Array Value,(len*e.size=0/\z= #[])\/(¬len*e.size=0/\(zeroValue te).run P w= .ok (By e (Bp e)) w/\z=(By e (Bp e)).cells):=by
      by_cases h0:len*e.size=0
      ·exact ⟨#[], .inl ⟨h0,rfl⟩⟩
      ·exact ⟨_, .inr ⟨h0,by simp [zeroValue,typeInfo,hi,tb],rfl⟩⟩
     obtain ⟨z,hz⟩:=hz
     obtain ⟨cn,cl,g1,g2,g3,g4,g5,g6⟩:=Xu e parts.toList 0 st π fr tr ys st ((Array.range (len*e.size)).map (z[· %z.size]!)).toList h hb (by simp [SD])
     have Qo:cl.length=len*e.size:=by rw [g2.1,g3,SD]
     have YP:(Dt ((Array.range (len*e.size)).map (z[· %z.size]!)).toList (0*e.size) cl)=cl:=by
      simp [Dt,Qo]
     rw [YP] at g5
     have Vv:(Instr.buildSlice t len (parts.map λ(i,x)=>(i,a.eval x))).run P w= .ok (.slice (some ⟨w.heap.size,0,none⟩) len len) (w.alloc (.cells cl.toArray te)):=by
      have h24: ¬(len*e.size>2^24):=by
       have:len*e.size<=64*64:=Nat.mul_le_mul hlen.1 hlen.2
       omega
      simp only [Instr.buildSlice,Sem.run_bind,run_underlying hu,Result.andThen_ok,(hT.ty te e Yh).size,Ai h24]
      have e1:(parts.map λ(i,x)=>(i,a.eval x)).toList=parts.toList.map λp=>(p.1,a.eval p.2):=by simp
      simp only [e1]
      have e2:(((Array.range (len*e.size)).map (z[· %z.size]!)).toList.toArray)=(Array.range (len*e.size)).map (z[· %z.size]!):=Array.toArray_toList
      rw [e2] at g5
      rcases hz with ⟨h0,rfl⟩|⟨h0,hz,rfl⟩
      ·rw [Ab h0]
       simp only [Sem.run_bind,Sem.run_pure,Result.andThen_ok,g5,newRow]
       simp
      ·rw [Ai h0]
       simp only [Sem.run_bind,Sem.run_pure,Result.andThen_ok,hz,g5,newRow]
       simp
     have JN:(w.alloc (.cells cl.toArray te)).heap[w.heap.size]?=some (.cells cl.toArray te (0,0)):=heap_alloc_new w _
     have hB:Below w.heap.size w (w.alloc (.cells cl.toArray te)):=(Below.refl _ _).alloc (Ap _) _
     have Lr:=Gk JN
     refine ⟨_,_,cn,Vv,g1.quiet hB,⟨[_],?_,rfl⟩⟩
     refine ⟨some ⟨w.heap.size,0,none⟩,len,len,rfl,by rw [g3,SD],Ap _, .inr ⟨w.heap.size,0,rfl,Lr,λhA=>?_,λk x hx=>?_⟩⟩
     ·rcases hA with hA|hA|⟨_,hA⟩
      ·exact absurd (g1.1.own hA).1 (Nat.lt_irrefl _)
      ·exact absurd (Ef (g1.1.sc _ hA).1 g1.1.below.size) (Nat.lt_irrefl _)
      ·exact absurd (Ef hA g1.1.below.size) (Nat.lt_irrefl _)
     ·obtain ⟨es,k1,k2,k3⟩:=g2.2 k x hx
      refine ⟨es,k1,λj u hu=>?_,Cells.Ft hB.size (λb hb _=>hB.block b hb) (λ_ _ h=>h) e es x k3⟩
      rw [cellOf JN,Cb]
      simpa using k2 j u hu
   ·cases he
theorem CX {Γ:Env} (hT:Eb P T) (Pk:Lj P Γ) {st:St} {a:Act} (h:Bh X π st a w) (o:Oper) (av:AV) (he:Xk T Γ st o=some av):
  hZ P X st a w av ((execOp a.eval o).run P w):=by
 obtain ⟨dst,op,ty,pos,af,gd⟩:=o
 have val: ∀(s:Sem Value) (v:Value) (w':World) (π':Pi),s.run P w= .ok v w'->Bh X π' st a w'->Bm X w' π' st.heap av v->(execOp a.eval ⟨dst,op,ty,pos,af,gd⟩=do pure (.value (<-s)))->
   hZ P X st a w av ((execOp a.eval ⟨dst,op,ty,pos,af,gd⟩).run P w):=by
  intro s v w' π' h1 h2 h3 h4
  rw [h4,Sem.run_bind,h1]
  exact ⟨π',h2,h3⟩
 have quiet:Fh T Γ st ⟨dst,op,ty,pos,af,gd⟩=some av->hZ P X st a w av ((execOp a.eval ⟨dst,op,ty,pos,af,gd⟩).run P w):=by
  intro hq
  have:=iF hT Pk h _ av hq
  generalize (execOp a.eval ⟨dst,op,ty,pos,af,gd⟩).run P w=r at*
  cases r with
  |halt x w'=>exact this
  |ok n w'=>
   cases n<;>simp only [OC] at this<;>simp only [hZ]
   ·obtain ⟨rfl,hr⟩:=this
    exact ⟨π,h,hr⟩
   ·obtain ⟨rfl,hc⟩:=this
    exact ⟨rfl,hc.mono λe qQ ⟨v,hv,hb,hr⟩=>⟨v,hv,π,h.quiet hb,hr⟩⟩
 unfold Xk at he
 split at he
 ·rename_i t len parts rW
  dsimp only at rW;subst rW
  obtain ⟨v,w',π',h1,h2,h3⟩:=oQ hT h t len parts av he
  exact val _ v w' π' h1 h2 h3 rfl
 ·rename_i t parts rW
  dsimp only at rW;subst rW
  obtain ⟨v',h1,h2⟩:=gq hT h t parts av he
  exact val _ v' w π h1 h h2 rfl
 ·exact quiet he
theorem dA {a:Act} : ∀(l:List Operand) {π:Pi} {st st1:St},Bh X π st a w->Nu l st=some st1-> ∃π',Bh X π' st1 a w
 | [],π,st,st1,h,he=>by
  simp only [Nu,Aa] at he
  subst he
  exact ⟨π,h⟩
 |x::r,π,st,st1,h,he=>by
  simp only [Nu] at he
  cases hs:settle st (st.ev x) with
  |none=>rw [hs] at he;cases he
  |some p=>
   rw [hs] at he
   obtain ⟨cn,h1,_⟩:=c7 h (Dq h.2 x) hs
   exact dA r h1 he
theorem GS {a:Act} {st:St} (h:Bh X π st a w) (p x:Operand): ∃π',Bh X π' (Pa T st p x) a w:=by
 unfold Pa
 split
 ·split
  ·split
   ·rename_i hs;exact dA _ h hs
   ·exact ⟨π,h⟩
  ·exact ⟨π,h⟩
 ·exact ⟨π,h⟩
theorem yD {Γ:Env} (hT:Eb P T) (Pk:Lj P Γ) {st:St} {a:Act} (h:Bh X π st a w) (o:Oper) (av:AV) (st':St) (he:evalOp T Γ st o=some (av,st')):
  hZ P X st' a w av ((execOp a.eval o).run P w):=by
 have quiet: ∀ {π:Pi} {st:St},Bh X π st a w->(Fh T Γ st o).map (λv=>(v,st))=some (av,st')->hZ P X st' a w av ((execOp a.eval o).run P w):=by
  intro π st h he
  cases hq:Fh T Γ st o with
  |none=>rw [hq] at he;cases he
  |some v=>
   rw [hq] at he
   simp only [Ak,Aa,Ae] at he
   obtain ⟨rfl,rfl⟩:=he
   have:=iF hT Pk h o v hq
   generalize (execOp a.eval o).run P w=r at*
   cases r with
   |halt x w'=>exact this
   |ok n w'=>
    cases n<;>simp only [OC] at this<;>simp only [hZ]
    ·obtain ⟨rfl,hr⟩:=this
     exact ⟨π,h,hr⟩
    ·obtain ⟨rfl,hc⟩:=this
     exact ⟨rfl,hc.mono λe qQ ⟨v,hv,hb,hr⟩=>⟨v,hv,π,h.quiet hb,hr⟩⟩
 obtain ⟨dst,op,ty,pos,af,gd⟩:=o
 have val: ∀(s:Sem Value) (v:Value) (w':World) (π':Pi),s.run P w= .ok v w'->Bh X π' st' a w'->Bm X w' π' st'.heap av v->(execOp a.eval ⟨dst,op,ty,pos,af,gd⟩=do pure (.value (<-s)))->
   hZ P X st' a w av ((execOp a.eval ⟨dst,op,ty,pos,af,gd⟩).run P w):=by
  intro s v w' π' h1 h2 h3 h4
  rw [h4,Sem.run_bind,h1]
  exact ⟨π',h2,h3⟩
 unfold evalOp at he
 split at he
 all_goals (rename_i rW;dsimp only at rW;try subst rW)
 ·
  rename_i x
  split at he
  ·rename_i d te e hx hd ht
   split at he
   ·rename_i yL
    simp only [Aa,Ae] at he
    obtain ⟨rfl,rfl⟩:=he
    obtain ⟨k1,k2,_⟩:=tQ h d yL (T.vn||e.flat) T.BK te e
    have PM:=Dq h.2 x
    rw [hx] at PM
    have hxv:a.eval x= .slice none 0 0:=PM
    show hZ P X _ a w _ (.ok (.value (a.eval x)) w)
    rw [hxv]
    exact ⟨_,k1,k2⟩
   ·cases he
  ·simp only [Aa,Ae] at he
   obtain ⟨rfl,rfl⟩:=he
   exact ⟨π,h,Dq h.2 x⟩
 ·
  rename_i t
  split at he
  ·rename_i d τ hd ht
   obtain ⟨i,hi,Vu,r9,tb⟩:=(hT.ty t τ ht).info
   have hk: ∃π',Bh X π' st' a (w.alloc (.cells (Bp τ).toArray t))/\Bm X (w.alloc (.cells (Bp τ).toArray t)) π' st'.heap av (.pointer (some ⟨w.heap.size,0,none⟩)):=by
    split at he
    ·exact zm h d t (Qn τ) (Bp τ) (vg τ) av st' he
    ·exact qt h d t τ (zeroCells τ) (Bp τ) (lB τ) av st' he
   obtain ⟨π',k1,k2⟩:=hk
   have YT:(By τ (Bp τ)).cells=(Bp τ).toArray:=by
    cases τ<;>simp [By,Ty.Aq,Value.cells,Bp]
   refine val (Instr.alloc t true (.tuple #[])) _ _ π' ?_ k1 k2 rfl
   simp [Instr.alloc,zeroValue,typeInfo,hi,tb,newVar,newRow,YT]
  ·cases he
 ·
  rename_i t x
  split at he
  ·rename_i d τ hd ht
   split at he
   ·rename_i cs hc
    obtain ⟨us,hv,hl,hr⟩:=iu (Dq h.2 x) hc
    have hk: ∃π',Bh X π' st' a (w.alloc (.cells us.toArray t))/\Bm X (w.alloc (.cells us.toArray t)) π' st'.heap av (.pointer (some ⟨w.heap.size,0,none⟩)):=by
     split at he
     ·split at he
      ·rename_i Pj
       cases hvc:Ff st τ cs with
       |none=>rw [hvc] at he;cases he
       |some p=>
        obtain ⟨fr,y⟩:=p
        rw [hvc] at he
        simp only [Ak,Aa,Ae] at he
        obtain ⟨rfl,rfl⟩:=he
        have Qo:=Xd τ cs us fr y Pj hr hvc
        have hB:Below w.heap.size w (w.alloc (.cells us.toArray t)):=(Below.refl _ _).alloc (Ap _) _
        have JN:(w.alloc (.cells us.toArray t)).heap[w.heap.size]?=some (.cells us.toArray t (0,0)):=heap_alloc_new w _
        refine ⟨π,h.quiet hB,[_], .inr ⟨y,w.heap.size,0,rfl,rfl,Gk JN,λhA=>?_,us,hl,λj u hu=>?_,Cells.Ft hB.size (λb hb _=>hB.block b hb) (λb _ hA=>?_) τ us y Qo⟩,by simp [By,Ty.Aq]⟩
        ·rcases hA with hA|hA|⟨hf,_⟩
         ·exact absurd (h.1.own hA).1 (Nat.lt_irrefl _)
         ·exact absurd (Ef (h.1.sc _ hA).1 h.1.below.size) (Nat.lt_irrefl _)
         ·cases hf
        ·rw [cellOf JN,Cb];simpa using hu
        ·exact hA.imp id (Or.imp id λ⟨h1,_⟩=>by cases h1)
      ·cases he
     ·exact qt h d t τ cs us hr av st' he
    obtain ⟨π',k1,k2⟩:=hk
    refine val (Instr.box t (a.eval x)) _ _ π' ?_ k1 k2 rfl
    simp [Instr.box,newVar,newRow,hv]
   ·cases he
  ·cases he
 ·
  rename_i t p x
  obtain ⟨π0,h⟩:=GS (T:=T) h p x
  cases hs:Qe T (Pa T st p x) t ((Pa T st p x).ev p) ((Pa T st p x).ev x) with
  |none=>rw [hs] at he;cases he
  |some s=>
   rw [hs] at he
   simp only [Ak,Aa,Ae] at he
   obtain ⟨rfl,rfl⟩:=he
   obtain ⟨w',π',h1,h2⟩:=oU hT h t _ _ _ _ (Dq h.2 p) (Dq h.2 x) s hs
   have:(execOp a.eval ⟨dst, .store t p x,ty,pos,af,gd⟩).run P w= .ok .skip w':=by
    show (do Instr.storeAt t (a.eval p) (a.eval x);pure Next.skip:Sem Next).run P w=_
    rw [Sem.run_bind,h1];rfl
   rw [this]
   exact ⟨π',h2,trivial⟩
 ·
  rename_i t l c
  split at he
  ·rename_i d hd
   obtain ⟨v,w',π',h1,h2,h3⟩:=r6 hT h d t _ _ _ _ (Dq h.2 l) (Dq h.2 c) av st' he
   exact val _ v w' π' h1 h2 h3 rfl
  ·cases he
 ·
  rename_i t
  split at he
  ·rename_i d hd
   obtain ⟨v,w',π',h1,h2,h3⟩:=nd hT h d t av st' he
   exact val _ v w' π' h1 h2 h3 rfl
  ·cases he
 ·
  rename_i t m k x
  cases hs:Jx T st t (st.ev m) (st.ev k) (st.ev x) with
  |none=>rw [hs] at he;cases he
  |some s=>
   rw [hs] at he
   simp only [Ak,Aa,Ae] at he
   obtain ⟨rfl,rfl⟩:=he
   obtain ⟨w',h1,h2⟩:=dT hT h t _ _ _ _ _ _ (Dq h.2 m) (Dq h.2 k) (Dq h.2 x) s hs
   have:(execOp a.eval ⟨dst, .mapUpdate t m k x,ty,pos,af,gd⟩).run P w= .ok .skip w':=by
    show (do Instr.mapUpdate t (a.eval m) (a.eval k) (a.eval x);pure Next.skip:Sem Next).run P w=_
    rw [Sem.run_bind,h1];rfl
   rw [this]
   exact ⟨π,h2,trivial⟩
 ·
  rename_i t m k x
  cases hs:Jx T st t (st.ev m) (st.ev k) (st.ev x) with
  |none=>rw [hs] at he;cases he
  |some s=>
   rw [hs] at he
   simp only [Ak,Aa,Ae] at he
   obtain ⟨rfl,rfl⟩:=he
   obtain ⟨w',h1,h2⟩:=dT hT h t _ _ _ _ _ _ (Dq h.2 m) (Dq h.2 k) (Dq h.2 x) s hs
   have:(execOp a.eval ⟨dst, .insert t m k x,ty,pos,af,gd⟩).run P w= .ok .skip w':=by
    show (do Instr.mapUpdate t (a.eval m) (a.eval k) (a.eval x);pure Next.skip:Sem Next).run P w=_
    rw [Sem.run_bind,h1];rfl
   rw [this]
   exact ⟨π,h2,trivial⟩
 ·
  rename_i t len parts
  split at he
  ·rename_i d hd
   obtain ⟨v,w',π',h1,h2,h3⟩:=gO hT h d t len parts av st' he
   exact val _ v w' π' h1 h2 h3 rfl
  ·cases he
 ·
  rename_i t parts
  cases hb:Xy T st t parts with
  |none=>rw [hb] at he;cases he
  |some v=>
   rw [hb] at he
   simp only [Ak,Aa,Ae] at he
   obtain ⟨rfl,rfl⟩:=he
   obtain ⟨v',h1,h2⟩:=gq hT h t parts v hb
   exact val _ v' w π h1 h h2 rfl
 ·
  rename_i args ts
  split at he
  ·rename_i d x y t t' hd Ro tm
   split at he
   ·rename_i Vk;subst Vk
    have e1:args= #[x,y]:=by apply Pu;simpa using Ro
    have e2:ts= #[t,t]:=by apply Pu;simpa using tm
    subst e1;subst e2
    obtain ⟨v,w',π',h1,h2,h3⟩:=mZ hT h d t ty x y av st' he
    refine val (Builtin.append_ #[t,t] ty #[a.eval x,a.eval y]) v w' π' h1 h2 h3 ?_
    simp [execOp,resolve,invoke,builtin]
   ·cases he
  ·cases he
 ·
  rename_i args ts
  split at he
  ·rename_i x y t t' Ro tm
   have e1:args= #[x,y]:=by apply Pu;simpa using Ro
   have e2:ts= #[t,t']:=by apply Pu;simpa using tm
   subst e1;subst e2
   obtain ⟨v,w',h1,h2,h3⟩:=sJ hT h t t' ty _ _ _ _ (Dq h.2 x) (Dq h.2 y) av st' he
   refine val (Builtin.copy_ #[t,t'] ty #[a.eval x,a.eval y]) v w' π h1 h2 h3 ?_
   simp [execOp,resolve,invoke,builtin]
  ·cases he
 ·
  rename_i args ts
  split at he
  ·rename_i x t Ro tm
   have e1:args= #[x]:=by apply Pu;simpa using Ro
   have e2:ts= #[t]:=by apply Pu;simpa using tm
   subst e1;subst e2
   cases hs:evalClear T st t (st.ev x) with
   |none=>rw [hs] at he;cases he
   |some s=>
    rw [hs] at he
    simp only [Ak,Aa,Ae] at he
    obtain ⟨rfl,rfl⟩:=he
    obtain ⟨v,w',h1,h2⟩:=qZ hT h t ty _ _ (Dq h.2 x) s hs
    refine val (Builtin.clear_ #[t] ty #[a.eval x]) v w' π h1 h2 trivial ?_
    simp [execOp,resolve,invoke,builtin]
  ·cases he
 ·
  rename_i f args ts
  split at he
  ·rename_i s Amr
   have hs:Cl P f s:=Pk f _ Amr
   have:=qY h hs dst (args.toList.map st.ev) (args.toList.map a.eval) (by simp) (λi c v=>jh h args.toList i c v) av st' he
   rw [jl a.eval f args ts dst ty pos af gd rfl hs.enter]
   refine ⟨rfl,?_⟩
   rwa [show (args.toList.map a.eval).toArray=args.map a.eval from by apply Pu;simp] at this
  ·rename_i s Amr
   split at he
   ·cases hs:Nu args.toList st with
    |none=>rw [hs] at he;cases he
    |some st1=>
     rw [hs] at he
     obtain ⟨cn,h1⟩:=dA args.toList h hs
     exact quiet h1 he
   ·exact quiet h he
  ·exact quiet h he
 ·exact quiet h he
end
end Go.Proofs.YtkkdpknjohcekaaGreat
