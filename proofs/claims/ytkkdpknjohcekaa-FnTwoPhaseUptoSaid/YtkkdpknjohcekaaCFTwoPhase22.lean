/-
  Part 23 of the proof that the statement FnTwoPhase holds.
-/
import Derived.Test.YtkkdpknjohcekaaCFTwoPhase21
namespace Go.Proofs.Ytkkdpknjohcekaa
open Go.RowKit
section
variable {P:Program} {T:Tab} {X:Ctx} {w w':World} {π:Pi} {H:List (Nat×OB)}
theorem yT {π':Pi} {st':St} {a:Act} (h:Bm X π' st' a w) (k:Lj π π' H st'.heap) {fr:Bool} (τ:Ty) (cs:List Value) (x:τ.den) (hc:Cells w (Df X.w0.heap.size X.Sc π fr) τ cs x):
  Cells w (Df X.w0.heap.size X.Sc π' fr) τ cs x:=
 Cells.Fz (Aq _) (λ_ _ _=>rfl) (λb _ hA=>by
  rcases hA with ⟨l,r,hl,hg⟩|h2
  ·have hh:=h.1.heap l
   cases hb:Ay st'.heap l with
   |none=>have:=hh.emp hb;rw [this] at hl;cases hl
   |some b'=>have:=(k l b' hb).1;rw [this] at hl;exact .inl ⟨l,r,hl,hg⟩
  ·exact .inr h2) τ cs x hc
theorem iq.drop {F:List Nat} {l:Nat} (h:iq X w π F):iq X w (Xh π l none) F:=
 ⟨h.1,λb hb=>⟨(h.2 b hb).1,(h.2 b hb).2.1,λm r hm=>by
  by_cases e:m=l
  ·subst e;rw [Gt] at hm;cases hm
  ·rw [Gq π none e] at hm;exact (h.2 b hb).2.2 m r hm⟩⟩
theorem ua {st:St} {a:Act} (h:Bm X π st a w) (l:Nat) (hl:l<Bq) (f0 t0:Bool) (te:TypeId) (e:Ty):
  Bm X (Xh π l none) (st.new l (.arr f0 t0 e te [])) a w/\Bt X w (Xh π l none) (st.new l (.arr f0 t0 e te [])).heap (.at (.own l 0 0)) (.slice none 0 0)/\
   ∀fr τ cs x,Cells w (Df X.w0.heap.size X.Sc π fr) τ cs x->Cells w (Df X.w0.heap.size X.Sc (Xh π l none) fr) τ cs x:=
 ⟨h.replace l hl none _ (Pz w _) (λr hr=>by cases hr) (λ_=>rfl),
  GP (St.Hf st l _) (Aq _) (by rw [Gt];exact ⟨rfl,rfl,rfl⟩),
  fun fr τ cs x hc=>Cells.Fz (Aq _) (λ_ _ _=>rfl) (λb _ hA=>by
  rcases hA with ⟨m,r,hm,hg⟩|h2
  ·by_cases e:m=l
   ·subst e;rw [Gt] at hm;cases hm
   ·rw [Gq π none e] at hm;exact .inl ⟨m,r,hm,hg⟩
  ·exact .inr h2) τ cs x hc⟩
theorem Yd (hT:Eh P T) {st:St} {a:Act} (h:Bm X π st a w) (dst:Nat) (t ty:TypeId) (x y:Operand) (av:AV) (st':St) (he:On T st dst t x y=some (av,st')):
  ∃v' w' π',(Builtin.append_ #[t,t] ty #[a.eval x,a.eval y]).run P w= .ok v' w'/\Bm X π' st' a w'/\Bt X w' π' st'.heap av v':=by
 unfold On at he
 split at he
 ·cases he
 ·rename_i te lr
  split at he
  ·rename_i e y' st1 Yl hs
   obtain ⟨cv,h1,h2,h3,h4,h5⟩:=ck h (Eg h.2 y) hs
   split at he
   ·cases he
   ·rename_i s9 ys hv
    dsimp only at he
    have RG: ∀tr2,tr2=(e.flat||(Ts st (st.ev y)&&e.tree))->tr2=true->e.flat=true\/ ∃F,Dj w F (.slice e) [a.eval y] ys/\iq X w cv F:=by
     intro tr2 e2 nT
     subst e2
     cases hef:e.flat with
     |true=>exact .inl rfl
     |false=>
     right
     simp only [hef,bD,Aj] at nT
     obtain ⟨F,us,f1,f2,f3,_⟩:=h5 nT.1 (.slice e) s9 ys nT.2 hv
     have hus:us= [a.eval y]:=by
      simp only [Dj] at f1
      obtain ⟨a0,len,cap,rfl,_⟩:=f1
      rw [f2];simp [Ci,Ty.Ar]
     rw [hus] at f1
     exact ⟨F,f1,f3⟩
    have hyc:Cells w (Df X.w0.heap.size X.Sc cv s9) (.slice e) [a.eval y] ys:=Dc.Sj rfl (Ng _ y' _ s9 ys h3 h2 hv)
    have hxr:=Eg h1.2 x
    split at he
    ·rename_i hx
     rw [hx] at hxr
     have hxv:a.eval x= .slice none 0 0:=hxr
     split at he
     ·rename_i pf
      simp only [Aa,Ag] at he
      obtain ⟨rfl,rfl⟩:=he
      obtain ⟨k1,k2,k3⟩:=ua h1 dst pf.2 (T.tb||e.flat) T.CG te e
      have:=nh (ty:=ty) hT k1 lr Yl pf.2 (fr3:=s9||e.flat) (tr2:=e.flat||(Ts st (st.ev y)&&e.tree)) rfl (St.Hf st1 dst _) k2 (k3 _ _ _ _ hyc) (by rw [Bk];exact pf.1) (λht=>by
       rcases RG _ rfl ht with h0|⟨F,f1,f2⟩
       ·exact .inl h0
       ·exact .inr ⟨F,f1,f2.drop⟩)
      rw [<-hxv] at this
      exact this
     ·cases he
    ·rename_i l off len hx
     rw [hx] at hxr
     split at he
     ·rename_i fr tr e' tid xs hl
      split at he
      ·rename_i Kh
       obtain ⟨rfl,rfl⟩:=Kh
       split at he
       ·rename_i pf
        simp only [Aa,Ag] at he
        obtain ⟨rfl,rfl⟩:=he
        exact nh (ty:=ty) hT h1 lr Yl pf.2 (fr3:=s9||e'.flat) (tr2:=e'.flat||(Ts st (st.ev y)&&e'.tree)) rfl hl hxr hyc pf.1 (RG _ rfl)
       ·cases he
      ·cases he
     ·cases he
    ·cases he
  ·cases he
theorem nB (hT:Eh P T) {st:St} {a:Act} (h:Bm X π st a w) (dst:Nat) (t ty:TypeId) (x y:Operand) (av:AV) (st':St) (he:Rx T st dst t x y=some (av,st')):
  ∃v' w' π',(Builtin.append_ #[t,t] ty #[a.eval x,a.eval y]).run P w= .ok v' w'/\Bm X π' st' a w'/\Bt X w' π' st'.heap av v':=by
 unfold Rx at he
 split at he
 ·rename_i tx
  split at he
  ·rename_i l i c hg
   split at he
   ·rename_i e te rows kp tid hl _
    split at he
    ·rename_i hc
     simp only [Aj,Nr,Fg] at hc
     have j0:dst≠l:= λe=>by rw [e,Nat.beq_refl] at hc;cases hc.2.2
     unfold St.at at hl
     have hv:Hu X w π st.heap (.sub l i c) (a.tmps.getD tx undef):=by
      have:=h.2.tmps tx
      rw [hg] at this
      exact this
     obtain ⟨cv,h1,h2⟩:=KZ (tid:=tid) h hl j0 hc.2.1 hc.1 hv
     have h3:=h1.put (some tx) (c:= .at (.own dst 0 (rows.getD i []).length)) h2
     have Aoj:a.put (some tx) (a.tmps.getD tx undef)=a:=by
      have:a.tmps.setIfInBounds tx (a.tmps.getD tx undef)=a.tmps:=by
       apply Array.ext_getElem?
       intro k
       rw [Array.getElem?_setIfInBounds]
       split
       ·rename_i e
        subst e
        split
        ·rename_i Lg
         rw [Array.getElem?_eq_getElem Lg];simp
        ·rename_i Lg
         rw [Array.getElem?_eq_none (by omega)]
       ·rfl
      simp only [Act.put,this]
     rw [Aoj] at h3
     exact Yd hT h3 dst t ty (.tmp tx) y av st' he
    ·cases he
   ·cases he
  ·exact Yd hT h dst t ty _ y av st' he
 ·exact Yd hT h dst t ty x y av st' he
theorem PV {S:Nat->Prop} {e:Ty} (h:mS e=true): ∃z,Bx e= [z]/\e.Ar=false/\e.size=1/\Cells w S e [z] e.zero/\z.oneCell'=true:=by
 cases e<;>simp [mS] at h
 ·exact ⟨_,rfl,rfl,rfl,rfl,rfl⟩
 ·exact ⟨_,rfl,rfl,rfl,rfl,rfl⟩
 ·exact ⟨_,rfl,rfl,rfl,rfl,rfl⟩
 ·exact ⟨_,rfl,rfl,rfl,⟨none,0,0,rfl,rfl,Aq _, .inl rfl⟩,rfl⟩
 ·exact ⟨_,rfl,rfl,rfl, .inl ⟨rfl,0,rfl⟩,rfl⟩
theorem JQ {e:Ty} {z:Value} (ht:e.tree=true) (h:mS e=true) (hz:Bx e= [z]):Dj w [] e [z] e.zero:=by
 cases e<;>simp [mS] at h<;>simp only [Bx,Ha,bm] at hz<;>subst hz<;>try (simp [Ty.tree] at ht;done)
 ·exact ⟨rfl,rfl⟩
 ·exact ⟨rfl,rfl⟩
 ·exact ⟨rfl,rfl⟩
 ·exact ⟨none,0,0,rfl,rfl,Aq _, .inl ⟨rfl,rfl,rfl,rfl⟩⟩
theorem Ada {S:Nat->Prop} : ∀(e:Ty),gy e=true->(Bx e).length=e.size/\Cells w S e (Bx e) e.zero/\(e.tree=true->Dj w [] e (Bx e) e.zero):=by
 intro e
 induction e with
 |unit=>intro _;exact ⟨rfl,rfl,λ_=>⟨rfl,rfl⟩⟩
 |pair a r il ie=>
  intro h
  simp only [gy,Aj] at h
  obtain ⟨a1,a2,a3⟩:=il h.1
  obtain ⟨r1,r2,r3⟩:=ie h.2
  exact ⟨by simp [Bx,Ty.size,a1,r1],⟨_,_,rfl,a2,r2⟩,λht=>by simp only [Ty.tree,Aj] at ht;exact ⟨_,_,[],[],rfl,rfl,a3 ht.1,r3 ht.2⟩⟩
 |_=>
  intro h
  simp only [gy] at h
  obtain ⟨z,z1,z2,z3,z4,_⟩:=PV (w:=w) (S:=S) h
  exact ⟨by rw [z1,z3];rfl,by rw [z1];exact z4,λht=>by rw [z1];exact JQ ht h z1⟩
theorem RT {z:Array Value} {s m j q:Nat} (hz:z.size=s) (hj:j<m) (hq:q<s):(madeCells z (m*s))[j*s+q]?=z[q]?:=by
 have h1:j*s+q<m*s:=by
  have:=Fl s (show j+1<=m by omega)
  rw [Nat.succ_mul] at this
  omega
 have h2:(j*s+q)%z.size=q:=by rw [hz,Nat.mul_comm,Nat.mul_add_mod,Nat.mod_eq_of_lt hq]
 have h3:q<z.size:=by omega
 unfold madeCells
 simp [h1,h2,h3]
theorem sW (hT:Eh P T) {st:St} {a:Act} (h:Bm X π st a w) (dst:Nat) (t:TypeId) (l c:AV) (vl vc:Value) (hl:Bt X w π st.heap l vl) (hc:Bt X w π st.heap c vc) (av:AV) (st':St)
  (he:bO T st dst t l c=some (av,st')): ∃v' w' π',(Instr.makeSlice t vl vc).run P w= .ok v' w'/\Bm X π' st' a w'/\Bt X w' π' st'.heap av v':=by
 unfold bO at he
 split at he
 ·rename_i te fr1 k1 n s9 k2 m lr
  have:=Qd hl;subst this
  have:=Qd hc;subst this
  split at he
  ·rename_i e Yl
   split at he
   ·rename_i Kh
    obtain ⟨h0,hnm,hz,ZI⟩:=Kh
    obtain ⟨h1,h2⟩:=Up.1 h0
    subst hnm
    simp only [Aa,Ag] at he
    obtain ⟨rfl,rfl⟩:=he
    obtain ⟨i,hi,Vy,rE,tu⟩:=(hT.ty te e Yl).info
    obtain ⟨z1,z4,z5⟩:=Ada (w:=w) (S:=Df X.w0.heap.size X.Sc π (T.tb||e.flat)) e hz
    have hzc:(Ci e (Bx e)).cells=(Bx e).toArray:=Lp e _ _ z4
    have hu:=hT.elem t te lr
    have hn:n.toNat<=4294967296:=by unfold Dt at h2;omega
    have hr:=run_make (P:=P) (w:=w) t te i _ hu hi tu k1 k2 n n h1 (Ok _) (by
     have:(i.bytes:Int)*n<=256*4294967296:=by
      obtain ⟨nn,rfl⟩:=Bi h1
      have h7:i.bytes*nn<=256*4294967296:=Nat.mul_le_mul rE (by simpa using hn)
      have h8:((i.bytes*nn:Nat):Int)<=256*4294967296:=by omega
      rwa [Int.natCast_mul] at h8
     omega) (by unfold Dt at h2;omega)
    rw [hzc,Vy] at hr
    have Uo:((Bx e).toArray).size=e.size:=by simpa using z1
    have cell: ∀j,j<n.toNat-> ∀q u,(Bx e)[q]?=some u->(madeCells (Bx e).toArray (n.toNat*e.size)).toList[j*e.size+q]?=some u:=by
     intro j hj q u hu
     have hq:q<e.size:=by rw [<-z1];exact (Ap.1 hu).1
     have:=RT Uo hj hq
     rw [Array.getElem?_toList,this]
     simpa using hu
    have:=fK (w1:=w.alloc (.cells (madeCells (Bx e).toArray (n.toNat*e.size)) te)) h dst ZI (T.tb||e.flat) (T.CG&&e.tree) e te (List.replicate n.toNat e.zero) (madeCells (Bx e).toArray (n.toNat*e.size)).toList (madeCells (Bx e).toArray (n.toNat*e.size)) n.toNat []
     (.inr rfl) (by rw [size_madeCells]) (by unfold maxLen;omega) (by simp)
     (λk u hu=>by
      rw [Array.getElem?_toList] at hu;exact hu) ⟨by simp [size_madeCells],λj x hx=>by
       have hj:=(Ap.1 hx).1
       simp only [Ep] at hj
       refine ⟨Bx e,z1,λq u hu=>cell j hj q u hu,?_⟩
       rw [Gc (Cq hx)];exact z4⟩ (by simp) (λnT=>⟨Mc,List.replicate n.toNat [],by simp,by simp,λj x F hx hF=>by
      have hj:=(Ap.1 hx).1
      simp only [Ep] at hj
      refine ⟨Bx e,z1,λq u hu=>cell j hj q u hu,?_⟩
      have e1:=Gc (Cq hx)
      have e2:=Gc (Cq hF)
      rw [e1,e2]
      exact z5 (by simp only [Aj] at nT;exact nT.2)⟩)
    exact ⟨_,_,_,hr,this.1,this.2 _ (by simp)⟩
   ·cases he
  ·cases he
 ·cases he
theorem iS (off:Nat): ∀(us:List Value) (k:Nat) (cells:List Value),off+k+us.length<=cells.length->
  (us.zipIdx k).foldl (λcs p=>cs.setIfInBounds (off+p.2) p.1) cells.toArray=(Dw cells (off+k) us).toArray
 | [],k,cells,h=>by simp [Dw]
 |u::us,k,cells,h=>by
  simp only [List.zipIdx_cons,Rd]
  rw [show cells.toArray.setIfInBounds (off+k) u=(cells.set (off+k) u).toArray by simp]
  rw [iS off us (k+1) (cells.set (off+k) u) (by simp at h⊢;omega)]
  congr 1
  apply List.ext_getElem?
  intro j
  have hl:off+k+(u::us).length<=cells.length:=h
  have nS:off+(k+1)+us.length<=(cells.set (off+k) u).length:=by simp at h⊢;omega
  rw [Im _ _ _ _ hl,Im _ _ _ _ nS]
  simp only [Aw]
  by_cases h1:j<off+k
  ·rw [Ab (by omega),Ab h1,List.getElem?_set_ne (by omega)]
  ·rw [Ai h1]
   by_cases h2:j=off+k
   ·subst h2
    rw [Ab (by omega),Ab (by omega),aE (by simp at h;omega)]
    simp
   ·rw [Ai (by omega)]
    by_cases h3:j<off+k+(us.length+1)
    ·rw [Ab (by omega),Ab h3]
     rw [show j-(off+k)=(j-(off+(k+1)))+1 by omega,Kk]
    ·rw [Ai (by omega),Ai h3,List.getElem?_set_ne (by omega)]
theorem xk (place:Nat->Option (Nat×Nat)) (cells:List Value) (i:Nat) (v:Value) (rest:List (Nat×Value)) (off size:Nat) (us:List Value) (hp:place i=some (off,size)) (hv:v.cells=us.toArray)
  (hl:us.length=size) (hle:off+size<=cells.length):Instr.fill place cells.toArray ((i,v)::rest)=Instr.fill place (Dw cells off us).toArray rest:=by
 simp only [Instr.fill,hp,hv,Hb,hl]
 rw [Ai (by simp;omega)]
 congr 1
 have:=iS off us 0 cells (by omega)
 simp only [Ed] at this
 rw [<-this]
 simp
theorem Ya (e:Ty) {a:Act} : ∀(parts:List (Nat×Operand)) (i:Nat) (st:St) (π:Pi) (fr tr:Bool) (ys:List e.den) (st':St) (cells:List Value),Bm X π st a w->Lx e i parts st=some (fr,tr,ys,st')->
  (i+parts.length)*e.size<=cells.length->
  ∃π' cl,Bm X π' st' a w/\Flat w (Df X.w0.heap.size X.Sc π' fr) e cl ys/\ys.length=parts.length/\Lj π π' st.heap st'.heap/\
   Instr.fill (λi=>some (i*e.size,e.size)) cells.toArray (parts.map λp=>(p.1,a.eval p.2))=some (Dw cells (i*e.size) cl).toArray/\
   (tr=true-> ∃Fs,Te w e cl ys Fs/\iq X w π' (List.flatten Fs)/\ ∀b∈List.flatten Fs,∃l r,π l=some r/\r.cl b)
 | [],i,st,π,fr,tr,ys,st',cells,h,he,hle=>by
  simp only [Lx,Aa,Ag] at he
  obtain ⟨rfl,rfl,rfl,rfl⟩:=he
  exact ⟨π,[],h,Flat.nil,rfl,Lj.refl _ _,by simp [Instr.fill,Dw],λ_=>⟨[],⟨rfl,λi z F hz=>by simp at hz⟩,⟨Mc,by simp⟩,by simp⟩⟩
 |(j,x)::r,i,st,π,fr,tr,ys,st',cells,h,he,hle=>by
  simp only [Lx] at he
  split at he
  ·rename_i eX;subst eX
   split at he
   ·rename_i v' st1 hs
    obtain ⟨cv,h1,h2,h3,h4,h5⟩:=ck h (Eg h.2 x) hs
    split at he
    ·rename_i fr1 y hv
     split at he
     ·rename_i s9 tr2 zs st2 hr
      simp only [Aa,Ag] at he
      obtain ⟨rfl,rfl,rfl,rfl⟩:=he
      obtain ⟨es,eu,LP⟩:=Ng e v' _ fr1 y h3 h2 hv
      have ll:=Cells.len e es y eu
      have Au7:i*e.size+e.size<=cells.length:=by
       have:(i+1)*e.size<=(i+((i,x)::r).length)*e.size:=Fl _ (by simp)
       rw [Dq,We] at this
       omega
      have QY:i*e.size+es.length<=cells.length:=by omega
      obtain ⟨XE,cl,g1,g2,g3,g4,g5,g6⟩:=Ya e r (i+1) st1 cv s9 tr2 zs st2 (Dw cells (i*e.size) es) h1 hr (by
       rw [Jg _ _ _ QY]
       rw [show i+1+r.length=i+((i,x)::r).length by simp;omega];exact hle)
      have f1:Flat w (Df X.w0.heap.size X.Sc XE fr1) e es [y]:=⟨by simp [ll],λq z hz=>by
       rcases q with _|q
       ·simp at hz;subst hz
        exact ⟨es,ll,λj u hu=>by simpa using hu,yT g1 g4 e es y eu⟩
       ·simp at hz⟩
      refine ⟨XE,es++cl,g1,?_,by simp [g3],h4.trans g4,?_,λht=>?_⟩
      ·have:=(f1.cells λes z hc=>hc.and_left (f2:=s9)).append (g2.cells λes z hc=>hc.and_right (f1:=fr1))
       simpa using this
      ·simp only [Ca]
       rw [xk _ cells i (a.eval x) _ (i*e.size) e.size es rfl (by rw [LP];exact Lp e es y eu) ll Au7,g5]
       congr 2
       have Rn:cl.length=r.length*e.size:=by rw [g2.1,g3]
       have Yj:(i+1)*e.size+cl.length<=(Dw cells (i*e.size) es).length:=by
        rw [Jg _ _ _ QY,Rn,<-Dq]
        rw [show i+1+r.length=i+((i,x)::r).length by simp;omega];exact hle
       have Ank:i*e.size+(es++cl).length<=cells.length:=by
        rw [Jg _ _ _ QY] at Yj
        rw [Ax,ll]
        rw [Dq,We] at Yj
        omega
       have e1:(i+1)*e.size=i*e.size+es.length:=by rw [Dq,We,ll]
       apply List.ext_getElem?
       intro k
       rw [Im _ _ _ _ Yj,Im _ _ _ _ Ank,Im _ _ _ _ QY,e1,Ax]
       by_cases k1:k<i*e.size
       ·rw [Ab (by omega),Ab k1,Ab k1]
       ·rw [Ai k1,Ai k1]
        by_cases k2:k<i*e.size+es.length
        ·rw [Ab k2,Ab k2,Ab (by omega),Au (by omega)]
        ·rw [Ai k2,Ai k2]
         by_cases k3:k<i*e.size+es.length+cl.length
         ·rw [Ab k3,Ab (by omega),At (by omega)]
          congr 1;omega
         ·rw [Ai k3,Ai (by omega)]
      ·simp only [Aj] at ht
       obtain ⟨⟨ht1,ht2⟩,ht3⟩:=ht
       obtain ⟨F,us,t1,t2,t3,t7⟩:=h5 ht1 e fr1 y ht2 hv
       obtain ⟨Fs,t4,t5,t6⟩:=g6 ht3
       have hus:us=es:=by
        have c1:=Dj.cells (S:= λ_=>False) F e us y t1 (λ_ _ h=>h)
        have a1:=Lp e us y c1
        have a2:=Lp e es y eu
        rw [<-t2,LP,a2] at a1
        simpa using a1.symm
       subst hus
       refine ⟨F::Fs,?_,?_,λb hb=>?_⟩
       ·have k1:Te w e us [y] [F]:=⟨rfl,λq z G hz hG=>by
         rcases q with _|q
         ·simp at hz hG;subst hz;subst hG
          exact ⟨us,ll,λj u hu=>by simpa using hu,t1⟩
         ·simp at hz⟩
        exact Te.append (by simp [ll]) k1 t4
       ·rw [Ls]
        refine ⟨Dz.2 ⟨t3.1,t5.1,λb hb b' se e=>?_⟩,λb hb=>?_⟩
        ·subst e
         obtain ⟨l,r,q1,q2⟩:=t6 b se
         exact (t3.2 b hb).2.2 l r q1 q2
        ·rcases Az.1 hb with hb|hb
         ·have:=t3.2 b hb
          refine ⟨this.1,this.2.1,λl r q1 q2=>?_⟩
          cases hh:Ay st2.heap l with
          |none=>rw [(g1.1.heap l).emp hh] at q1;cases q1
          |some b'=>exact this.2.2 l r ((g4 l b' hh).1▸q1) q2
         ·exact t5.2 b hb
       ·rw [Ls] at hb
        rcases Az.1 hb with hb|hb
        ·exact t7 b hb
        ·obtain ⟨l,r,q1,q2⟩:=t6 b hb
         cases hh:Ay st1.heap l with
         |none=>rw [(h1.1.heap l).emp hh] at q1;cases q1
         |some b'=>exact ⟨l,r,(h4 l b' hh).1▸q1,q2⟩
     ·cases he
    ·cases he
   ·cases he
  ·cases he
theorem iN (hT:Eh P T) {st:St} {a:Act} (h:Bm X π st a w) (dst:Nat) (t:TypeId) (len:Nat) (parts:Array (Nat×Operand)) (av:AV) (st':St)
  (he:Mu T st dst t len parts=some (av,st')):
  ∃v' w' π',(Instr.buildSlice t len (parts.map λ(i,x)=>(i,a.eval x))).run P w= .ok v' w'/\Bm X π' st' a w'/\Bt X w' π' st'.heap av v':=by
 unfold Mu at he
 split at he
 ·cases he
 ·rename_i te lr
  split at he
  ·cases he
  ·rename_i e Yl
   split at he
   ·rename_i Kh
    obtain ⟨lq,hlen⟩:=Kh
    split at he
    ·rename_i fr tr ys st1 hb
     simp only [Aa,Ag] at he
     obtain ⟨rfl,rfl⟩:=he
     obtain ⟨i,hi,Vy,rE,tu⟩:=(hT.ty te e Yl).info
     have hu:=hT.elem t te lr
     have TS:parts.toList.length=len:=by simpa using lq
     have hz: ∃z:Array Value,(len*e.size=0/\z= #[])\/(¬len*e.size=0/\(zeroValue te).run P w= .ok (Ci e (Bx e)) w/\z=(Ci e (Bx e)).cells):=by
      by_cases h0:len*e.size=0
      ·exact ⟨#[], .inl ⟨h0,rfl⟩⟩
      ·exact ⟨_, .inr ⟨h0,by simp [zeroValue,typeInfo,hi,tu],rfl⟩⟩
     obtain ⟨z,hz⟩:=hz
     obtain ⟨cv,cl,g1,g2,g3,g4,g5,g6⟩:=Ya e parts.toList 0 st π fr tr ys st1 ((Array.range (len*e.size)).map (z[· %z.size]!)).toList h hb (by simp [TS])
     have Rn:cl.length=len*e.size:=by rw [g2.1,g3,TS]
     have hsp:(Dw ((Array.range (len*e.size)).map (z[· %z.size]!)).toList (0*e.size) cl)=cl:=by
      simp [Dw,Rn]
     rw [hsp] at g5
     have Vz:(Instr.buildSlice t len (parts.map λ(i,x)=>(i,a.eval x))).run P w= .ok (.slice (some ⟨w.heap.size,0,none⟩) len len) (w.alloc (.cells cl.toArray te)):=by
      have h24: ¬(len*e.size>2^24):=by
       have:len*e.size<=64*64:=Nat.mul_le_mul hlen.1 hlen.2.1
       omega
      simp only [Instr.buildSlice,Sem.run_bind,run_underlying hu,Result.andThen_ok,(hT.ty te e Yl).size,Ai h24]
      have e1:(parts.map λ(i,x)=>(i,a.eval x)).toList=parts.toList.map λp=>(p.1,a.eval p.2):=by simp
      simp only [e1]
      have e2:(((Array.range (len*e.size)).map (z[· %z.size]!)).toList.toArray)=(Array.range (len*e.size)).map (z[· %z.size]!):=Array.toArray_toList
      rw [e2] at g5
      rcases hz with ⟨h0,rfl⟩|⟨h0,hz,rfl⟩
      ·rw [Ab h0]
       simp only [Sem.run_bind,Sem.run_pure,Result.andThen_ok,g5,newRow]
       simp
      ·rw [Ai h0]
       simp only [Sem.run_bind,Sem.run_pure,Result.andThen_ok,hz,g5,newRow]
       simp
     have hN: ∃N:List Nat,(∀b∈N,(X.w0.heap.size<=b\/X.gv b)/\b<w.heap.size/\ ∀m r0,m≠dst->cv m=some r0-> ¬r0.cl b)/\(tr=true->N.Nodup/\ ∃Fs,List.flatten Fs=N/\Te w e cl ys Fs):=by
      cases tr with
      |false=>exact ⟨[],by simp,λh=>by cases h⟩
      |true=>
       obtain ⟨Fs,t1,t2,_⟩:=g6 rfl
       exact ⟨_,λb hb=>⟨(t2.2 b hb).1,(t2.2 b hb).2.1,λm r0 _=>(t2.2 b hb).2.2 m r0⟩,λ_=>⟨t2.1,Fs,rfl,t1⟩⟩
     obtain ⟨N,q1,q2⟩:=hN
     have:=fK (w1:=w.alloc (.cells cl.toArray te)) g1 dst hlen.2.2 ((T.tb||e.flat)&&fr) (T.CG&&tr) e te ys cl cl.toArray len N (.inr rfl) (by simpa using Rn) (by simp only [maxLen];omega) (by omega) (λk u hu=>by simpa using hu) (g2.cells λes z hc=>hc.and_right) q1 (λht=>q2 (by simp only [Aj] at ht;exact ht.2))
     exact ⟨_,_,_,Vz,this.1,this.2 _ (by omega)⟩
    ·cases he
   ·cases he
theorem mi {t te:TypeId} {e:Ty} (h:ej T t=some (te,e)):T.elem t=some te/\T.ty te=some (.slice e):=by
 unfold ej at h
 cases he:T.elem t with
 |none=>rw [he] at h;cases h
 |some Ro=>
  rw [he] at h
  simp only [Fc] at h
  cases hg:T.QQ Ro with
  |none=>rw [hg] at h;cases h
  |some e'=>
   rw [hg] at h
   simp only [An,Aa,Ag] at h
   obtain ⟨rfl,rfl⟩:=h
   refine ⟨rfl,?_⟩
   unfold Tab.QQ at hg
   split at hg
   ·split at hg
    ·rename_i Yl;simp only [Aa] at hg;subst hg;exact Yl
    ·cases hg
   ·cases hg
theorem nj (w:World) (o:Obj):Lh w.heap.size (λ_=>False) w (w.alloc o):=⟨rfl,rfl,rfl,by simp,λk hk _=>Below.heap_alloc w _ k hk⟩
theorem qg (w:World) (o:Obj):Lh w.heap.size (λ_=>False) w (w.drew.alloc o):=⟨rfl,rfl,rfl,by simp,λk hk _=>Below.heap_alloc w.drew _ k hk⟩
theorem rz (hT:Eh P T) {st:St} {a:Act} (h:Bm X π st a w) (dst:Nat) (t:TypeId) (l c:AV) (vl vc:Value) (hl:Bt X w π st.heap l vl) (hc:Bt X w π st.heap c vc) (av:AV) (st':St)
  (he:Yh T st dst t l c=some (av,st')): ∃v' w' π',(Instr.makeSlice t vl vc).run P w= .ok v' w'/\Bm X π' st' a w'/\Bt X w' π' st'.heap av v':=by
 unfold Yh at he
 split at he
 ·exact sW hT h dst t l c vl vc hl hc av st' he
 ·rename_i te e hg
  obtain ⟨lr,Yl⟩:=mi hg
  split at he
  ·rename_i fr1 k1 n s9 k2 m
   have:=Qd hl;subst this
   have:=Qd hc;subst this
   split at he
   ·rename_i Kh
    obtain ⟨h0,hnm,ZI⟩:=Kh
    obtain ⟨h1,h2⟩:=Up.1 h0
    subst hnm
    simp only [Aa,Ag] at he
    obtain ⟨rfl,rfl⟩:=he
    obtain ⟨i,hi,Vy,rE,tu⟩:=(hT.ty te _ Yl).info
    have hu:=hT.elem t te lr
    have hn:n.toNat<=4294967296:=by unfold Dt at h2;omega
    have hr:=run_make (P:=P) (w:=w) t te i _ hu hi tu k1 k2 n n h1 (Ok _) (by
     have:(i.bytes:Int)*n<=256*4294967296:=by
      obtain ⟨nn,rfl⟩:=Bi h1
      have h7:i.bytes*nn<=256*4294967296:=Nat.mul_le_mul rE (by simpa using hn)
      have h8:((i.bytes*nn:Nat):Int)<=256*4294967296:=by omega
      rwa [Int.natCast_mul] at h8
     omega) (by unfold Dt at h2;omega)
    have hzc:(Ci (Ty.slice e) (Bx (Ty.slice e))).cells= #[.slice none 0 0]:=by simp [Ci,Ty.Ar,Bx,Value.cells]
    have kS:(Ty.slice e).size=1:=rfl
    rw [hzc,Vy,kS] at hr
    have cell: ∀j,j<n.toNat->(madeCells #[Value.slice none 0 0] (n.toNat*1))[0+j]?=some (.slice none 0 0):=by
     intro j hj
     have:=RT (z:= #[Value.slice none 0 0]) (s:=1) (m:=n.toNat) (j:=j) (q:=0) rfl hj (by omega)
     simp only [Fw,Ed] at this
     simp only [Fw,Bk]
     rw [this];rfl
    obtain ⟨π',g1,g2⟩:=Zx (w1:=w.alloc (.cells (madeCells #[Value.slice none 0 0] (n.toNat*1)) te)) (gv:= λ_=>False) h ZI ZI te (e:=e) (rows:=List.replicate n.toNat []) (us:=List.replicate n.toNat (.slice none 0 0)) (Rs:=List.replicate n.toNat none) (g:=w.heap.size) (o:=0) (cap:=n.toNat)
     (λ_ hf=>hf.elim) (nj w _) ⟨.inl (Aq _),by simp⟩ (heap_alloc_new w _) (by rw [size_madeCells];omega) (by unfold maxLen;omega) (by simp) (λj u hu=>by
      have hj:=(Ap.1 hu).1
      simp only [Ep] at hj
      rw [cell j hj,Gc (Cq hu)])
     ⟨by simp,by simp,λi j q q' h1=>(by have:=Gc (Cq h1);cases this),λi x hx=>by
      have hj:=(Ap.1 hx).1
      simp only [Ep] at hj
      rw [Gc (Cq hx)]
      exact ⟨.slice none 0 0,none,by rw [Zh,Ab hj],by rw [Zh,Ab hj],⟨rfl,rfl,rfl⟩,rfl⟩⟩
     (λi q h1=>by have:=Gc (Cq h1);cases this)
    exact ⟨_,_,π',hr,g1,g2 _ (by simp)⟩
   ·cases he
  ·cases he
theorem hZ (hT:Eh P T) {st:St} {a:Act} (h:Bm X π st a w) (dst:Nat) (t:TypeId) (len:Nat) (parts:Array (Nat×Operand)) (av:AV) (st':St)
  (he:Jl T st dst t len parts=some (av,st')):
  ∃v' w' π',(Instr.buildSlice t len (parts.map λ(i,x)=>(i,a.eval x))).run P w= .ok v' w'/\Bm X π' st' a w'/\Bt X w' π' st'.heap av v':=by
 unfold Jl at he
 split at he
 ·exact iN hT h dst t len parts av st' he
 ·rename_i te e hg
  obtain ⟨lr,Yl⟩:=mi hg
  split at he
  rotate_left
  ·cases he
  rename_i x Ajg
  split at he
  rotate_left
  ·cases he
  rename_i m off ln hx
  split at he
  rotate_left
  ·cases he
  rename_i fr tr e' tid xs hm
  split at he
  rotate_left
  ·cases he
  rename_i hc
  obtain ⟨rfl,hc,rfl,rfl⟩:=hc
  simp only [Aj,Nr] at hc
  obtain ⟨hlen,ZI,hmp⟩:=hc
  have hlen:len=1:=Kb hlen
  subst hlen
  simp only [Aa,Ag] at he
  obtain ⟨rfl,rfl⟩:=he
  have hu:=hT.elem t te lr
  unfold St.at at hm
  have hrx:=Eg h.2 x
  rw [hx] at hrx
  obtain ⟨_,vI⟩:=Pd (X:=X) (w:=w) hrx hm
  obtain ⟨ax,nx,cx,hvx⟩:=bb vI
  have hp:parts= #[(0,x)]:=by apply Pq;simpa using Ajg
  subst hp
  obtain ⟨i,hi,Vy,rE,tu⟩:=(hT.ty te _ Yl).info
  have Vz:(Instr.buildSlice t 1 (#[(0,x)].map λ(i,x)=>(i,a.eval x))).run P w= .ok (.slice (some ⟨w.heap.size,0,none⟩) 1 1) (w.alloc (.cells #[a.eval x] te)):=by
   have kS:(Ty.slice e').size=1:=rfl
   have hz:(zeroValue te).run P w= .ok (.slice none 0 0) w:=by simp [zeroValue,typeInfo,hi,tu,Ci,Ty.Ar,Bx]
   have hmp:(#[(0,x)].map λ(i,x)=>(i,a.eval x))= #[(0, .slice ax nx cx)]:=by simp [hvx]
   rw [hmp,hvx]
   simp only [Instr.buildSlice,Sem.run_bind,run_underlying hu,Result.andThen_ok,(hT.ty te _ Yl).size,kS]
   simp [Value.cells,Instr.fill,newRow,hz]
   congr 2
   apply Array.ext
   ·simp
   ·intro i h1 h2
    have h0:i=0:=by simpa using h2
    subst h0
    simp
  have JR:=(h.1.heap m).Ru hm
  simp only [Co,Kn] at JR
  have hfa:Ti w (Df X.w0.heap.size X.Sc π false) (π m) e' xs:=by
   cases hR:π m with
   |none=>rw [hR] at JR;exact JR
   |some q=>
    rw [hR] at JR
    obtain ⟨⟨f0,f0',_⟩,cu,ti',f2,f3,f4,f5,f6,_⟩:=JR
    exact ⟨⟨f0,f0'⟩,cu,ti',f2,f3,f4,f5,λp y hy=>by
     obtain ⟨es,g1,g2,g3⟩:=f6 p y hy
     exact ⟨es,g1,g2,Cells.Fz (Aq _) (λ_ _ _=>rfl) (λb _ hA=>hA.imp id (Or.imp id λ⟨h1,_⟩=>by cases h1)) e' es y g3⟩⟩
  obtain ⟨π',g1,g2⟩:=Zx (w1:=w.alloc (.cells #[a.eval x] te)) (gv:= λ_=>False) h ZI hmp te (e:=e') (rows:= [xs]) (us:= [a.eval x]) (Rs:= [π m]) (g:=w.heap.size) (o:=0) (cap:=1)
   (λ_ hf=>hf.elim) (nj w _) ⟨.inl (Aq _),by simp⟩ (heap_alloc_new w _) rfl (by unfold maxLen;omega) (by simp) (λj u hu=>by
    rcases j with _|j
    ·simpa using hu
    ·simp at hu)
   ⟨rfl,rfl,λi j q q' h1 h2 _=>by
    rcases i with _|i
    ·rcases j with _|j
     ·rfl
     ·simp at h2
    ·simp at h1,λi y hy=>by
    rcases i with _|i
    ·simp only [Bz,Aa] at hy
     subst hy
     exact ⟨_,_,rfl,rfl,vI,hfa⟩
    ·simp at hy⟩
   (λi q h1=>by
    rcases i with _|i
    ·simp only [Bz,Aa] at h1
     have hf:=h.1.Da h1
     have:=(h.1.place m q _ h1 (h.1.sub m q _ h1 hf)).2
     exact ⟨by omega,λh=>h,m,q, .inr rfl,h1,hf⟩
    ·simp at h1)
  exact ⟨_,_,π',Vz,g1,g2 1 rfl⟩
theorem nC (hT:Eh P T) {st:St} {a:Act} (h:Bm X π st a w) (dst:Nat) (t ty:TypeId) (x y:Operand) (av:AV) (st':St) (he:Ry T st dst t x y=some (av,st')):
  ∃v' w' π',(Builtin.append_ #[t,t] ty #[a.eval x,a.eval y]).run P w= .ok v' w'/\Bm X π' st' a w'/\Bt X w' π' st'.heap av v':=by
 unfold Ry at he
 split at he
 ·exact nB hT h dst t ty x y av st' he
 ·rename_i te e hg
  obtain ⟨lr,Yl⟩:=mi hg
  split at he
  rotate_left
  ·cases he
  rename_i l off len m Aay tP hx hy
  split at he
  rotate_left
  ·cases he
  rename_i e1 te1 A kp1 e2 wN B kp2 hl hm
  split at he
  rotate_left
  ·cases he
  rename_i hc
  obtain ⟨⟨rfl,rfl⟩,hc,⟨rfl,rfl⟩,⟨rfl,rfl⟩,hB,pf⟩:=hc
  simp only [Aj,Nr,Rc,Fg] at hc
  obtain ⟨⟨rfl,rfl⟩,rF,hmp,j0⟩:=hc
  have j0:m≠l:= λe=>by rw [e,Nat.beq_refl] at j0;cases j0
  simp only [Aa,Ag] at he
  obtain ⟨rfl,rfl⟩:=he
  have hu:=hT.elem t wN lr
  obtain ⟨i,hi,Vy,rE,tu⟩:=(hT.ty wN _ Yl).info
  have Vy:i.size=1:=Vy
  unfold St.at at hl hm
  have hrx:=Eg h.2 x
  have hry:=Eg h.2 y
  rw [hx] at hrx;rw [hy] at hry
  obtain ⟨b1,s1,n1,q1,q2,_,hox⟩:=hrx
  rw [hl] at q1;cases q1
  simp only [OB.row,Aa,Ag] at q2
  obtain ⟨rfl,rfl⟩:=q2
  obtain ⟨b2,s2,n2,q1,q2,_,hoy⟩:=hry
  rw [hm] at q1;cases q1
  simp only [OB.row,Aa,Ag] at q2
  obtain ⟨rfl,rfl⟩:=q2
  have hA:=((h.1.heap l).Ru hl).1
  have hBb:=((h.1.heap m).Ru hm).1
  cases XQ:π m with
  |none=>
   rw [XQ] at hBb
   have hBb:B= []:=hBb
   subst hBb;simp at hB
  |some rB=>
  rw [XQ] at hBb hoy
  obtain ⟨fB,Ay7,tiB,uB,RB,w1B,w2B,w3B,w4B,w5B,w6B,w7B,LB⟩:=xm hBb
  obtain ⟨adB,hvy,hcB,haB⟩:=hoy
  have haB:=haB (by omega)
  subst haB
  have hlB:=LB.1
  have n1':uB.length=B.length*i.size:=by rw [Vy,Fw];exact hlB
  have n2': ∀j u,uB[j]?=some u->w.cell? ((⟨rB.g,(rB.o+0)*1,none⟩:Addr).add j)=some u:= λj u hu=>by
   rw [Addr.add_lit,cellOf w1B,Fw,Ed];exact w5B j u hu
  have tp:(A.length+B.length)*i.bytes<=140737488355328:=by
   have:(A.length+B.length)*i.bytes<=4294967296*256:=Nat.mul_le_mul pf rE
   omega
  have j4:A.length+B.length<=maxLen:=by unfold Dt at pf;simp only [maxLen];omega
  have hzs:(Ci (Ty.slice e2) (Bx (Ty.slice e2))).cells.size=1:=by simp [Ci,Ty.Ar,Bx,Value.cells]
  have Wq: ∀(k:Nat) (q:Real) (Rs:List (Option Real)),π k=some q->(∀(i:Nat) (p:Real),Rs[i]?=some (some p)->q.Da p.g/\p.g≠q.g)-> ∀(i:Nat) (p:Real),Rs[i]?=some (some p)->p.g<w.heap.size:= λk q Rs h1 h2 i p h3=>
   (h.1.place k q _ h1 (h.1.sub k q _ h1 (h2 i p h3).1)).2
  cases lq:π l with
  |none=>
   rw [lq] at hA hox
   have hA:A= []:=hA
   subst hA
   obtain ⟨hvx,_,_⟩:=hox
   rw [hvx,hvy]
   simp only [Dv,Bk,Ol] at pf tp j4⊢
   have hr:=run_append_nil (P:=P) w t ty wN i _ hu hi tu ⟨rB.g,(rB.o+0)*1,none⟩ B.length (rB.cap-0) uB n1' n2' hB (by simp only [maxLen] at j4;omega) (by omega)
   have vT:=grownCap_ge w B.length 0 wN
   have hcm:=grownCap_le_maxLen w B.length 0 wN (by omega)
   obtain ⟨π',g1,g2⟩:=Zx (w1:=w.drew.alloc (.cells (uB.toArray++Builtin.zeroCells (Ci (Ty.slice e2) (Bx (Ty.slice e2))).cells (grownCap w B.length 0 wN-B.length)) wN)) (gv:= λ_=>False) h rF hmp wN (e:=e2) (rows:=B) (us:=uB) (Rs:=RB) (g:=w.heap.size) (o:=0) (cap:=grownCap w B.length 0 wN)
    (λ_ hf=>hf.elim) (qg w _) ⟨.inl (Aq _),by simp⟩ (heap_alloc_new w.drew _) (by rw [Array.size_append,Hb,Ux,hzs];omega) hcm vT (λj u hu=>by
     have hj:=(Ap.1 hu).1
     rw [Bk,Tv (by simpa using hj)];simpa using hu)
    LB (λi q h1=>⟨by have:=Wq m rB RB XQ w7B i q h1;omega,λh=>h,m,rB, .inr rfl,XQ,(w7B i q h1).1⟩)
   exact ⟨_,_,π',hr,g1,g2 _ rfl⟩
  |some rA=>
   rw [lq] at hA hox
   obtain ⟨fA,TF,tiA,uA,RA,w1A,w2A,w3A,w4A,w5A,w6A,w7A,LA⟩:=xm hA
   obtain ⟨adA,hvx,hcA,haA⟩:=hox
   have hlA:=LA.1
   rw [hvx,hvy]
   have apart: ∀(i j:Nat) (q q':Real),RA[i]?=some (some q)->RB[j]?=some (some q')->q.g≠q'.g:= λi j q q' h1 h2 e=>by
    have:=h.1.apart lq XQ (w7A i q h1).1 (e▸(w7B j q' h2).1)
    exact j0 this.symm
   have LAB:=sq.append LA LB apart
   have Ip: ∀(i:Nat) (q:Real),RB[i]?=some (some q)->q.g≠rA.g:= λi q h1 e=>j0 (h.1.apart XQ lq (w7B i q h1).1 (e▸fA))
   have hRs: ∀(i:Nat) (q:Real),(RA++RB)[i]?=some (some q)->q.g≠rA.g/\q.g<w.heap.size/\ ∃k p,(k=l\/k=m)/\π k=some p/\p.Da q.g:= λi q h1=>by
    by_cases hi:i<RA.length
    ·rw [Au hi] at h1
     exact ⟨(w7A i q h1).2,Wq l rA RA lq w7A i q h1,l,rA, .inl rfl,lq,(w7A i q h1).1⟩
    ·rw [At (by omega)] at h1
     exact ⟨Ip _ q h1,Wq m rB RB XQ w7B _ q h1,m,rB, .inr rfl,XQ,(w7B _ q h1).1⟩
   by_cases FI:A.length+B.length<=rA.cap-0
   ·have haA:=haA (by omega)
    subst haA
    have Yj:(rA.o+0)*1+A.length*i.size+uB.length<=TF.size:=by rw [Vy];omega
    have Zy:(rA.o+0)*1+A.length*i.size+uB.length<=TF.toList.length:=by simpa using Yj
    have hr:=aL (P:=P) (w:=w) (ty:=ty) hu hi rA.g ((rA.o+0)*1) A.length (rA.cap-0) TF tiA w1A ⟨rB.g,(rB.o+0)*1,none⟩ B.length (rB.cap-0) uB n1' n2' w6B FI Yj
    have tt:=Nz w rA.g (Dw TF.toList ((rA.o+0)*1+A.length*i.size) uB).toArray
    obtain ⟨π',g1,g2⟩:=Zx (w1:=w.setRow rA.g (Dw TF.toList ((rA.o+0)*1+A.length*i.size) uB).toArray) (gv:= λb=>b=rA.g) h rF hmp wN (e:=e2) (rows:=A++B) (us:=uA++uB) (Rs:=RA++RB) (g:=rA.g) (o:=rA.o) (cap:=rA.cap)
     (λb hb=>⟨l,rA, .inl rfl,lq,hb▸fA⟩) ⟨tt.os,tt.tape,tt.output,tt.size,λc _ hc=>setRow_other w rA.g c _ hc⟩ ⟨.inr ⟨l,rA, .inl rfl,lq,fA⟩,Ex (Gp w1A) tt.size⟩
     (setRow_heap w rA.g TF _ tiA _ w1A) (by rw [Hb,Jg _ _ _ Zy,Xw];exact w2A) w3A (by simp;omega) (λj u hu=>by
      rw [Io,Im _ _ _ _ Zy,Vy]
      by_cases hj:j<uA.length
      ·rw [Au hj] at hu
       rw [Ab (by omega),Array.getElem?_toList]
       exact w5A j u hu
      ·rw [At (by omega)] at hu
       have:=(Ap.1 hu).1
       rw [Ai (by omega),Ab (by omega)]
       rw [show rA.o+j-((rA.o+0)*1+A.length*1)=j-uA.length by omega]
       exact hu)
     LAB (λi q h1=>⟨(hRs i q h1).1,(hRs i q h1).1,(hRs i q h1).2.2⟩)
    have:=g2 (A.length+B.length) (by simp)
    have e0:(rA.o+0)*1=rA.o:=by omega
    simp only [e0,Nat.sub_zero] at hr g1 this⊢
    exact ⟨_,_,π',hr,g1,this⟩
   ·have hold: ∀j u,uA[j]?=some u->w.cell? (adA.add j)=some u:=by
     intro j u hu
     have hj:=(Ap.1 hu).1
     rw [haA (by omega),Addr.add_lit,cellOf w1A,Fw,Ed];exact w5A j u hu
    have hr:=run_append_grow (P:=P) w t ty wN i _ hu hi tu adA A.length (rA.cap-0) uA (by rw [Vy,Fw];exact hlA) hold ⟨rB.g,(rB.o+0)*1,none⟩ B.length (rB.cap-0) uB n1' n2' (by omega) (by simp only [maxLen] at j4;omega) (growslice_fits (by omega) tp)
    have vT:=grownCap_ge w (A.length+B.length) (rA.cap-0) wN
    have hcm:=grownCap_le_maxLen w (A.length+B.length) (rA.cap-0) wN j4
    obtain ⟨π',g1,g2⟩:=Zx (w1:=w.drew.alloc (.cells (uA.toArray++uB.toArray++Builtin.zeroCells (Ci (Ty.slice e2) (Bx (Ty.slice e2))).cells (grownCap w (A.length+B.length) (rA.cap-0) wN-(A.length+B.length))) wN)) (gv:= λ_=>False) h rF hmp wN (e:=e2) (rows:=A++B) (us:=uA++uB) (Rs:=RA++RB) (g:=w.heap.size) (o:=0) (cap:=grownCap w (A.length+B.length) (rA.cap-0) wN)
     (λ_ hf=>hf.elim) (qg w _) ⟨.inl (Aq _),by simp⟩ (heap_alloc_new w.drew _) (by rw [Array.size_append,Array.size_append,Hb,Hb,Ux,hzs];omega) hcm (by simpa using vT) (λj u hu=>by
      have hj:=(Ap.1 hu).1
      rw [Bk,Tv (by simpa using hj)];simpa using hu)
     LAB (λi q h1=>⟨by have:=(hRs i q h1).2.1;omega,λh=>h,(hRs i q h1).2.2⟩)
    exact ⟨_,_,π',hr,g1,g2 _ (by simp)⟩
theorem lS: ∀τ:Ty,Gh X w π H (zeroCells τ) (Bx τ):=by
 have one: ∀(c:AC) (v:Value),v.oneCell'=true->Hu X w π H c v->Gh X w π H [c] [v]:= λc v h1 h2=>⟨rfl,λi c' hc=>by
  rcases i with _|i
  ·simp at hc;subst hc;exact ⟨v,rfl,h1,h2⟩
  ·simp at hc⟩
 intro τ
 induction τ with
 |unit=>exact ⟨rfl,λi c hc=>by simp [zeroCells] at hc⟩
 |pair a r il ie=>
  refine ⟨by simp [zeroCells,Bx,il.1,ie.1],λi c hc=>?_⟩
  simp only [zeroCells] at hc
  simp only [Bx]
  by_cases hi:i<(zeroCells a).length
  ·rw [Au hi] at hc
   obtain ⟨u,hu,h⟩:=il.2 i c hc
   exact ⟨u,by rw [Au (by rw [il.1];exact hi)];exact hu,h⟩
  ·rw [At (by omega)] at hc
   obtain ⟨u,hu,h⟩:=ie.2 _ c hc
   exact ⟨u,by rw [At (by rw [il.1];omega),il.1];exact hu,h⟩
 |int k=>exact one (.data true _ _) _ rfl (No (H:=H) k 0 true)
 |bool=>exact one (.data true _ _) _ rfl (Mi (H:=H) false true)
 |str=>exact one (.data true _ _) _ rfl (mB (H:=H) ByteArray.empty true)
 |slice e=>exact one _ _ rfl rfl
 |oslice e=>exact one _ _ rfl rfl
 |ptr e=>exact one _ _ rfl rfl
 |optr e=>exact one _ _ rfl rfl
 |smap v=>exact one (.data true _ _) _ rfl ⟨[.map none], .inl ⟨rfl,rfl⟩,by simp [Ci,Ty.Ar]⟩
 |clo f c=>exact one .undef .nilFunc rfl trivial
theorem vG: ∀τ:Ty,Gh X w π H (Qf τ) (Bx τ):=by
 have one: ∀(c:AC) (v:Value),v.oneCell'=true->Hu X w π H c v->Gh X w π H [c] [v]:= λc v h1 h2=>⟨rfl,λi c' hc=>by
  rcases i with _|i
  ·simp at hc;subst hc;exact ⟨v,rfl,h1,h2⟩
  ·simp at hc⟩
 intro τ
 induction τ with
 |unit=>exact ⟨rfl,λi c hc=>by simp [Qf] at hc⟩
 |pair a r il ie=>
  refine ⟨by simp [Qf,Bx,il.1,ie.1],λi c hc=>?_⟩
  simp only [Qf] at hc
  simp only [Bx]
  by_cases hi:i<(Qf a).length
  ·rw [Au hi] at hc
   obtain ⟨u,hu,h⟩:=il.2 i c hc
   exact ⟨u,by rw [Au (by rw [il.1];exact hi)];exact hu,h⟩
  ·rw [At (by omega)] at hc
   obtain ⟨u,hu,h⟩:=ie.2 _ c hc
   exact ⟨u,by rw [At (by rw [il.1];omega),il.1];exact hu,h⟩
 |int k=>exact one (.data false _ _) _ rfl (No (H:=H) k 0 false)
 |bool=>exact one (.data false _ _) _ rfl (Mi (H:=H) false false)
 |str=>exact one (.data false _ _) _ rfl (mB (H:=H) ByteArray.empty false)
 |slice e=>exact one (.data false _ _) _ rfl ⟨[.slice none 0 0],⟨none,0,0,rfl,rfl,Aq _, .inl rfl⟩,by simp [Ci,Ty.Ar]⟩
 |oslice e=>exact one _ _ rfl rfl
 |ptr e=>exact one _ _ rfl rfl
 |optr e=>exact one _ _ rfl rfl
 |smap v=>exact one (.data false _ _) _ rfl ⟨[.map none], .inl ⟨rfl,rfl⟩,by simp [Ci,Ty.Ar]⟩
 |clo f c=>exact one .undef .nilFunc rfl trivial
theorem dV (hT:Eh P T) {st:St} {a:Act} (h:Bm X π st a w) (t:TypeId) (Mk:Array (Nat×Nat))
  (lq: ∀f o u ρ,T.off t f=some (o,u)->T.ty u=some ρ->Mk[f]?=some (o,ρ.size)): ∀(parts:List (Nat×Operand)) (cs iL:List AC) (us:List Value),Gh X w π st.heap cs us->
  Mt T st t parts cs=some iL-> ∃Xm:List Value,Instr.fill (λi=>Mk[i]?) us.toArray (parts.map λp=>(p.1,a.eval p.2))=some Xm.toArray/\Gh X w π st.heap iL Xm
 | [],cs,iL,us,hr,he=>by
  simp only [Mt,Aa] at he;subst he
  exact ⟨us,rfl,hr⟩
 |(f,x)::r,cs,iL,us,hr,he=>by
  simp only [Mt] at he
  split at he
  ·rename_i o u ho
   split at he
   ·rename_i ρ hρ
    split at he
    ·rename_i c hc
     split at he
     ·rename_i hle
      obtain ⟨vs,hv,hl,hr2⟩:=iE (Eg h.2 x) hc
      have e1:=hr.1
      have e2:=hr2.1
      obtain ⟨Xm,g1,g2⟩:=dV hT h t Mk lq r _ iL _ (uU hr hr2 o hle) he
      refine ⟨Xm,?_,g2⟩
      simp only [Ca]
      rw [xk _ us f (a.eval x) _ o ρ.size vs (lq f o u ρ ho hρ) hv hl (by omega)]
      exact g1
     ·cases he
    ·cases he
   ·cases he
  ·cases he
theorem gE (hT:Eh P T) {st:St} {a:Act} (h:Bm X π st a w) (t:TypeId) (parts:Array (Nat×Operand)) (av:AV) (he:Ye T st t parts=some av):
  ∃v',(Instr.build t (parts.map λ(i,x)=>(i,a.eval x))).run P w= .ok v' w/\Bt X w π st.heap av v':=by
 unfold Ye at he
 split at he
 ·cases he
 ·rename_i τ Yl
  split at he
  ·rename_i hs
   cases hb:Mt T st t parts.toList (zeroCells τ) with
   |none=>rw [hb] at he;cases he
   |some iL=>
    rw [hb] at he
    simp only [An,Aa] at he;subst he
    obtain ⟨fs,Mk,h1,h2,h3⟩:=hT.fill t τ Yl hs
    obtain ⟨i,hi,Vy,rE,tu⟩:=(hT.ty t τ Yl).info
    obtain ⟨Xm,g1,g2⟩:=dV hT h t Mk h3 parts.toList (zeroCells τ) iL (Bx τ) (lS τ) hb
    refine ⟨.agg Xm.toArray,?_,Xm,rfl,g2⟩
    have hz:(zeroValue t).run P w= .ok (Ci τ (Bx τ)) w:=by simp [zeroValue,typeInfo,hi,tu]
    have hzc:(Ci τ (Bx τ)).cells=(Bx τ).toArray:=by simp [Ci,hs,Value.cells]
    have h2':=h2 w
    unfold placesOf at h2'
    have e1:(parts.map λ(i,x)=>(i,a.eval x)).toList=parts.toList.map λp=>(p.1,a.eval p.2):=by simp
    simp only [Instr.build,Sem.run_bind,hz,Result.andThen_ok,run_underlying h1,h2',hzc,e1,g1,Sem.run_pure]
  ·cases he
theorem uE {st:St} {v:AV} (h:v.settled=true):settle st v=some (v,st):=by
 cases v with
 | «at»a=>cases a<;>simp [AV.settled,AC.settled] at h<;>simp [settle,AC.settled]
 |agg cs=>
  have hs:cs.all (·.settled)=true:=h
  have:Hv cs.length st cs=some (cs,st):=by
   cases hn:cs.length with
   |zero=>simp [Hv,hs]
   |succ n=>
    have hf:cs.find? (λc=>!c.settled)=none:=List.find?_eq_none.2 λc hc=>by simpa using Bg.1 hs c hc
    simp [Hv,hf]
  simp [settle,this]
 |bB fr τ x=>rfl
 |Nd l=>simp [AV.settled] at h
theorem od {e:Ty} {st:St} : ∀(parts:List (Nat×Operand)) (i:Nat) (fr:Bool) (ys:List e.den),fM e i parts st=some (fr,ys)-> ∃tr,Lx e i parts st=some (fr,tr,ys,st)
 | [],i,fr,ys,h=>by
  simp only [fM,Aa,Ag] at h
  obtain ⟨rfl,rfl⟩:=h
  exact ⟨true,rfl⟩
 |(j,x)::r,i,fr,ys,h=>by
  simp only [fM] at h
  split at h
  ·rename_i hc
   split at h
   ·rename_i f1 y f2 zs h1 h2
    simp only [Aa,Ag] at h
    obtain ⟨rfl,rfl⟩:=h
    obtain ⟨tr,h3⟩:=od r (i+1) f2 zs h2
    refine ⟨Ts st (st.ev x)&&e.tree&&tr,?_⟩
    simp only [Lx]
    rw [Ab hc.1,uE hc.2]
    simp only [h1,h3]
   ·cases h
  ·cases h
theorem oY (hT:Eh P T) {st:St} {a:Act} (h:Bm X π st a w) (t:TypeId) (len:Nat) (parts:Array (Nat×Operand)) (av:AV) (he:bN T st t len parts=some av):
  ∃v' w' π',(Instr.buildSlice t len (parts.map λ(i,x)=>(i,a.eval x))).run P w= .ok v' w'/\Bm X π' st a w'/\Bt X w' π' st.heap av v':=by
 unfold bN at he
 split at he
 ·cases he
 ·rename_i te lr
  split at he
  ·cases he
  ·rename_i e Yl
   split at he
   ·rename_i Kh
    obtain ⟨lq,hlen⟩:=Kh
    cases hp:fM e 0 parts.toList st with
    |none=>rw [hp] at he;cases he
    |some p=>
     obtain ⟨fr,ys⟩:=p
     rw [hp] at he
     simp only [An,Aa] at he
     subst he
     obtain ⟨tr,hb⟩:=od _ _ _ _ hp
     obtain ⟨i,hi,Vy,rE,tu⟩:=(hT.ty te e Yl).info
     have hu:=hT.elem t te lr
     have TS:parts.toList.length=len:=by simpa using lq
     have hz: ∃z:Array Value,(len*e.size=0/\z= #[])\/(¬len*e.size=0/\(zeroValue te).run P w= .ok (Ci e (Bx e)) w/\z=(Ci e (Bx e)).cells):=by
      by_cases h0:len*e.size=0
      ·exact ⟨#[], .inl ⟨h0,rfl⟩⟩
      ·exact ⟨_, .inr ⟨h0,by simp [zeroValue,typeInfo,hi,tu],rfl⟩⟩
     obtain ⟨z,hz⟩:=hz
     obtain ⟨cv,cl,g1,g2,g3,g4,g5,g6⟩:=Ya e parts.toList 0 st π fr tr ys st ((Array.range (len*e.size)).map (z[· %z.size]!)).toList h hb (by simp [TS])
     have Rn:cl.length=len*e.size:=by rw [g2.1,g3,TS]
     have hsp:(Dw ((Array.range (len*e.size)).map (z[· %z.size]!)).toList (0*e.size) cl)=cl:=by
      simp [Dw,Rn]
     rw [hsp] at g5
     have Vz:(Instr.buildSlice t len (parts.map λ(i,x)=>(i,a.eval x))).run P w= .ok (.slice (some ⟨w.heap.size,0,none⟩) len len) (w.alloc (.cells cl.toArray te)):=by
      have h24: ¬(len*e.size>2^24):=by
       have:len*e.size<=64*64:=Nat.mul_le_mul hlen.1 hlen.2
       omega
      simp only [Instr.buildSlice,Sem.run_bind,run_underlying hu,Result.andThen_ok,(hT.ty te e Yl).size,Ai h24]
      have e1:(parts.map λ(i,x)=>(i,a.eval x)).toList=parts.toList.map λp=>(p.1,a.eval p.2):=by simp
      simp only [e1]
      have e2:(((Array.range (len*e.size)).map (z[· %z.size]!)).toList.toArray)=(Array.range (len*e.size)).map (z[· %z.size]!):=Array.toArray_toList
      rw [e2] at g5
      rcases hz with ⟨h0,rfl⟩|⟨h0,hz,rfl⟩
      ·rw [Ab h0]
       simp only [Sem.run_bind,Sem.run_pure,Result.andThen_ok,g5,newRow]
       simp
      ·rw [Ai h0]
       simp only [Sem.run_bind,Sem.run_pure,Result.andThen_ok,hz,g5,newRow]
       simp
     have LM:(w.alloc (.cells cl.toArray te)).heap[w.heap.size]?=some (.cells cl.toArray te (0,0)):=heap_alloc_new w _
     have hB:Below w.heap.size w (w.alloc (.cells cl.toArray te)):=(Below.refl _ _).alloc (Aq _) _
     have Lg:=Gp LM
     refine ⟨_,_,cv,Vz,g1.quiet hB,⟨[_],?_,rfl⟩⟩
     refine ⟨some ⟨w.heap.size,0,none⟩,len,len,rfl,by rw [g3,TS],Aq _, .inr ⟨w.heap.size,0,rfl,Lg,λhA=>?_,λk x hx=>?_⟩⟩
     ·rcases hA with hA|hA|⟨_,hA⟩
      ·exact absurd (g1.1.own hA).1 (Nat.lt_irrefl _)
      ·exact absurd (Ex (g1.1.sc _ hA).1 g1.1.below.size) (Nat.lt_irrefl _)
      ·exact absurd (Ex hA g1.1.below.size) (Nat.lt_irrefl _)
     ·obtain ⟨es,k1,k2,k3⟩:=g2.2 k x hx
      refine ⟨es,k1,λj u hu=>?_,Cells.Fz hB.size (λb hb _=>hB.block b hb) (λ_ _ h=>h) e es x k3⟩
      rw [cellOf LM,Bk]
      simpa using k2 j u hu
   ·cases he
theorem EJ {Γ:Env} (hT:Eh P T) (Pl:Li P Γ) {st:St} {a:Act} (h:Bm X π st a w) (o:Oper) (av:AV) (he:Xt T Γ st o=some av):
  ir P X st a w av ((execOp a.eval o).run P w):=by
 obtain ⟨dst,op,ty,pos,af,gd⟩:=o
 have val: ∀(s:Sem Value) (v:Value) (w':World) (π':Pi),s.run P w= .ok v w'->Bm X π' st a w'->Bt X w' π' st.heap av v->(execOp a.eval ⟨dst,op,ty,pos,af,gd⟩=do pure (.value (<-s)))->
   ir P X st a w av ((execOp a.eval ⟨dst,op,ty,pos,af,gd⟩).run P w):=by
  intro s v w' π' h1 h2 h3 h4
  rw [h4,Sem.run_bind,h1]
  exact ⟨π',h2,h3⟩
 have quiet:Ft T Γ st ⟨dst,op,ty,pos,af,gd⟩=some av->ir P X st a w av ((execOp a.eval ⟨dst,op,ty,pos,af,gd⟩).run P w):=by
  intro hq
  have:=iP hT Pl h _ av hq
  generalize (execOp a.eval ⟨dst,op,ty,pos,af,gd⟩).run P w=r at*
  cases r with
  |halt x w'=>exact this
  |ok n w'=>
   cases n<;>simp only [PW] at this<;>simp only [ir]
   ·obtain ⟨rfl,hr⟩:=this
    exact ⟨π,h,hr⟩
   ·obtain ⟨rfl,hc⟩:=this
    exact ⟨rfl,hc.mono λe rh ⟨v,hv,hb,hr⟩=>⟨v,hv,π,h.quiet hb,hr⟩⟩
 unfold Xt at he
 split at he
 ·rename_i t len parts qy
  dsimp only at qy;subst qy
  obtain ⟨v,w',π',h1,h2,h3⟩:=oY hT h t len parts av he
  exact val _ v w' π' h1 h2 h3 rfl
 ·rename_i t parts qy
  dsimp only at qy;subst qy
  obtain ⟨v',h1,h2⟩:=gE hT h t parts av he
  exact val _ v' w π h1 h h2 rfl
 ·exact quiet he
theorem dG {a:Act} : ∀(l:List Operand) {π:Pi} {st st1:St},Bm X π st a w->Nu l st=some st1-> ∃π',Bm X π' st1 a w
 | [],π,st,st1,h,he=>by
  simp only [Nu,Aa] at he
  subst he
  exact ⟨π,h⟩
 |x::r,π,st,st1,h,he=>by
  simp only [Nu] at he
  cases hs:settle st (st.ev x) with
  |none=>rw [hs] at he;cases he
  |some p=>
   rw [hs] at he
   obtain ⟨cv,h1,_⟩:=ck h (Eg h.2 x) hs
   exact dG r h1 he
theorem IN {a:Act} {st:St} (h:Bm X π st a w) (p x:Operand): ∃π',Bm X π' (Pe T st p x) a w:=by
 unfold Pe
 split
 ·split
  ·split
   ·rename_i hs;exact dG _ h hs
   ·exact ⟨π,h⟩
  ·exact ⟨π,h⟩
 ·exact ⟨π,h⟩
theorem za {Γ:Env} (hT:Eh P T) (Pl:Li P Γ) {st:St} {a:Act} (h:Bm X π st a w) (o:Oper) (av:AV) (st':St) (he:evalOp T Γ st o=some (av,st')):
  ir P X st' a w av ((execOp a.eval o).run P w):=by
 have quiet: ∀ {π:Pi} {st:St},Bm X π st a w->(Ft T Γ st o).map (λv=>(v,st))=some (av,st')->ir P X st' a w av ((execOp a.eval o).run P w):=by
  intro π st h he
  cases hq:Ft T Γ st o with
  |none=>rw [hq] at he;cases he
  |some v=>
   rw [hq] at he
   simp only [An,Aa,Ag] at he
   obtain ⟨rfl,rfl⟩:=he
   have:=iP hT Pl h o v hq
   generalize (execOp a.eval o).run P w=r at*
   cases r with
   |halt x w'=>exact this
   |ok n w'=>
    cases n<;>simp only [PW] at this<;>simp only [ir]
    ·obtain ⟨rfl,hr⟩:=this
     exact ⟨π,h,hr⟩
    ·obtain ⟨rfl,hc⟩:=this
     exact ⟨rfl,hc.mono λe rh ⟨v,hv,hb,hr⟩=>⟨v,hv,π,h.quiet hb,hr⟩⟩
 obtain ⟨dst,op,ty,pos,af,gd⟩:=o
 have val: ∀(s:Sem Value) (v:Value) (w':World) (π':Pi),s.run P w= .ok v w'->Bm X π' st' a w'->Bt X w' π' st'.heap av v->(execOp a.eval ⟨dst,op,ty,pos,af,gd⟩=do pure (.value (<-s)))->
   ir P X st' a w av ((execOp a.eval ⟨dst,op,ty,pos,af,gd⟩).run P w):=by
  intro s v w' π' h1 h2 h3 h4
  rw [h4,Sem.run_bind,h1]
  exact ⟨π',h2,h3⟩
 unfold evalOp at he
 split at he
 all_goals (rename_i qy;dsimp only at qy;try subst qy)
 ·
  rename_i x
  split at he
  ·rename_i d te e hx hd ht
   split at he
   ·rename_i ZI
    simp only [Aa,Ag] at he
    obtain ⟨rfl,rfl⟩:=he
    obtain ⟨k1,k2,_⟩:=ua h d ZI (T.tb||e.flat) T.CG te e
    have hxr:=Eg h.2 x
    rw [hx] at hxr
    have hxv:a.eval x= .slice none 0 0:=hxr
    show ir P X _ a w _ (.ok (.value (a.eval x)) w)
    rw [hxv]
    exact ⟨_,k1,k2⟩
   ·cases he
  ·simp only [Aa,Ag] at he
   obtain ⟨rfl,rfl⟩:=he
   exact ⟨π,h,Eg h.2 x⟩
 ·
  rename_i t
  split at he
  ·rename_i d τ hd ht
   obtain ⟨i,hi,Vy,rE,tu⟩:=(hT.ty t τ ht).info
   have hk: ∃π',Bm X π' st' a (w.alloc (.cells (Bx τ).toArray t))/\Bt X (w.alloc (.cells (Bx τ).toArray t)) π' st'.heap av (.pointer (some ⟨w.heap.size,0,none⟩)):=by
    split at he
    ·exact zQ h d t (Qf τ) (Bx τ) (vG τ) av st' he
    ·exact qJ h d t τ (zeroCells τ) (Bx τ) (lS τ) av st' he
   obtain ⟨π',k1,k2⟩:=hk
   have hzc:(Ci τ (Bx τ)).cells=(Bx τ).toArray:=by
    cases τ<;>simp [Ci,Ty.Ar,Value.cells,Bx]
   refine val (Instr.alloc t true (.tuple #[])) _ _ π' ?_ k1 k2 rfl
   simp [Instr.alloc,zeroValue,typeInfo,hi,tu,newVar,newRow,hzc]
  ·cases he
 ·
  rename_i t x
  split at he
  ·rename_i d τ hd ht
   split at he
   ·rename_i cs hc
    obtain ⟨us,hv,hl,hr⟩:=iE (Eg h.2 x) hc
    have hk: ∃π',Bm X π' st' a (w.alloc (.cells us.toArray t))/\Bt X (w.alloc (.cells us.toArray t)) π' st'.heap av (.pointer (some ⟨w.heap.size,0,none⟩)):=by
     split at he
     ·split at he
      ·rename_i Pc
       cases hvc:Fq st τ cs with
       |none=>rw [hvc] at he;cases he
       |some p=>
        obtain ⟨fr,y⟩:=p
        rw [hvc] at he
        simp only [An,Aa,Ag] at he
        obtain ⟨rfl,rfl⟩:=he
        have Rn:=Xi τ cs us fr y Pc hr hvc
        have hB:Below w.heap.size w (w.alloc (.cells us.toArray t)):=(Below.refl _ _).alloc (Aq _) _
        have LM:(w.alloc (.cells us.toArray t)).heap[w.heap.size]?=some (.cells us.toArray t (0,0)):=heap_alloc_new w _
        refine ⟨π,h.quiet hB,[_], .inr ⟨y,w.heap.size,0,rfl,rfl,Gp LM,λhA=>?_,us,hl,λj u hu=>?_,Cells.Fz hB.size (λb hb _=>hB.block b hb) (λb _ hA=>?_) τ us y Rn⟩,by simp [Ci,Ty.Ar]⟩
        ·rcases hA with hA|hA|⟨hf,_⟩
         ·exact absurd (h.1.own hA).1 (Nat.lt_irrefl _)
         ·exact absurd (Ex (h.1.sc _ hA).1 h.1.below.size) (Nat.lt_irrefl _)
         ·cases hf
        ·rw [cellOf LM,Bk];simpa using hu
        ·exact hA.imp id (Or.imp id λ⟨h1,_⟩=>by cases h1)
      ·cases he
     ·exact qJ h d t τ cs us hr av st' he
    obtain ⟨π',k1,k2⟩:=hk
    refine val (Instr.box t (a.eval x)) _ _ π' ?_ k1 k2 rfl
    simp [Instr.box,newVar,newRow,hv]
   ·cases he
  ·cases he
 ·
  rename_i t p x
  obtain ⟨π0,h⟩:=IN (T:=T) h p x
  cases hs:Py T (Pe T st p x) t ((Pe T st p x).ev p) ((Pe T st p x).ev x) with
  |none=>rw [hs] at he;cases he
  |some s=>
   rw [hs] at he
   simp only [An,Aa,Ag] at he
   obtain ⟨rfl,rfl⟩:=he
   obtain ⟨w',π',h1,h2⟩:=p8 hT h t _ _ _ _ (Eg h.2 p) (Eg h.2 x) s hs
   have:(execOp a.eval ⟨dst, .store t p x,ty,pos,af,gd⟩).run P w= .ok .skip w':=by
    show (do Instr.storeAt t (a.eval p) (a.eval x);pure Next.skip:Sem Next).run P w=_
    rw [Sem.run_bind,h1];rfl
   rw [this]
   exact ⟨π',h2,trivial⟩
 ·
  rename_i t l c
  split at he
  ·rename_i d hd
   obtain ⟨v,w',π',h1,h2,h3⟩:=rz hT h d t _ _ _ _ (Eg h.2 l) (Eg h.2 c) av st' he
   exact val _ v w' π' h1 h2 h3 rfl
  ·cases he
 ·
  rename_i t
  split at he
  ·rename_i d hd
   obtain ⟨v,w',π',h1,h2,h3⟩:=nF hT h d t av st' he
   exact val _ v w' π' h1 h2 h3 rfl
  ·cases he
 ·
  rename_i t m k x
  cases hs:Jo T st t (st.ev m) (st.ev k) (st.ev x) with
  |none=>rw [hs] at he;cases he
  |some s=>
   rw [hs] at he
   simp only [An,Aa,Ag] at he
   obtain ⟨rfl,rfl⟩:=he
   obtain ⟨w',h1,h2⟩:=ec hT h t _ _ _ _ _ _ (Eg h.2 m) (Eg h.2 k) (Eg h.2 x) s hs
   have:(execOp a.eval ⟨dst, .mapUpdate t m k x,ty,pos,af,gd⟩).run P w= .ok .skip w':=by
    show (do Instr.mapUpdate t (a.eval m) (a.eval k) (a.eval x);pure Next.skip:Sem Next).run P w=_
    rw [Sem.run_bind,h1];rfl
   rw [this]
   exact ⟨π,h2,trivial⟩
 ·
  rename_i t m k x
  cases hs:Jo T st t (st.ev m) (st.ev k) (st.ev x) with
  |none=>rw [hs] at he;cases he
  |some s=>
   rw [hs] at he
   simp only [An,Aa,Ag] at he
   obtain ⟨rfl,rfl⟩:=he
   obtain ⟨w',h1,h2⟩:=ec hT h t _ _ _ _ _ _ (Eg h.2 m) (Eg h.2 k) (Eg h.2 x) s hs
   have:(execOp a.eval ⟨dst, .insert t m k x,ty,pos,af,gd⟩).run P w= .ok .skip w':=by
    show (do Instr.mapUpdate t (a.eval m) (a.eval k) (a.eval x);pure Next.skip:Sem Next).run P w=_
    rw [Sem.run_bind,h1];rfl
   rw [this]
   exact ⟨π,h2,trivial⟩
 ·
  rename_i t len parts
  split at he
  ·rename_i d hd
   obtain ⟨v,w',π',h1,h2,h3⟩:=hZ hT h d t len parts av st' he
   exact val _ v w' π' h1 h2 h3 rfl
  ·cases he
 ·
  rename_i t parts
  cases hb:Ye T st t parts with
  |none=>rw [hb] at he;cases he
  |some v=>
   rw [hb] at he
   simp only [An,Aa,Ag] at he
   obtain ⟨rfl,rfl⟩:=he
   obtain ⟨v',h1,h2⟩:=gE hT h t parts v hb
   exact val _ v' w π h1 h h2 rfl
 ·
  rename_i args ts
  split at he
  ·rename_i d x y t t' hd Rh tD
   split at he
   ·rename_i Wg;subst Wg
    have e1:args= #[x,y]:=by apply Pq;simpa using Rh
    have e2:ts= #[t,t]:=by apply Pq;simpa using tD
    subst e1;subst e2
    obtain ⟨v,w',π',h1,h2,h3⟩:=nC hT h d t ty x y av st' he
    refine val (Builtin.append_ #[t,t] ty #[a.eval x,a.eval y]) v w' π' h1 h2 h3 ?_
    simp [execOp,resolve,invoke,builtin]
   ·cases he
  ·cases he
 ·
  rename_i args ts
  split at he
  ·rename_i x y t t' Rh tD
   have e1:args= #[x,y]:=by apply Pq;simpa using Rh
   have e2:ts= #[t,t']:=by apply Pq;simpa using tD
   subst e1;subst e2
   obtain ⟨v,w',h1,h2,h3⟩:=sT hT h t t' ty _ _ _ _ (Eg h.2 x) (Eg h.2 y) av st' he
   refine val (Builtin.copy_ #[t,t'] ty #[a.eval x,a.eval y]) v w' π h1 h2 h3 ?_
   simp [execOp,resolve,invoke,builtin]
  ·cases he
 ·
  rename_i args ts
  split at he
  ·rename_i x t Rh tD
   have e1:args= #[x]:=by apply Pq;simpa using Rh
   have e2:ts= #[t]:=by apply Pq;simpa using tD
   subst e1;subst e2
   cases hs:evalClear T st t (st.ev x) with
   |none=>rw [hs] at he;cases he
   |some s=>
    rw [hs] at he
    simp only [An,Aa,Ag] at he
    obtain ⟨rfl,rfl⟩:=he
    obtain ⟨v,w',h1,h2⟩:=ry hT h t ty _ _ (Eg h.2 x) s hs
    refine val (Builtin.clear_ #[t] ty #[a.eval x]) v w' π h1 h2 trivial ?_
    simp [execOp,resolve,invoke,builtin]
  ·cases he
 ·
  rename_i f args ts
  split at he
  ·rename_i s Aoz
   have hs:Dx P f s:=Pl f _ Aoz
   have:=rv h hs dst (args.toList.map st.ev) (args.toList.map a.eval) (by simp) (λi c v=>jt h args.toList i c v) av st' he
   rw [jw a.eval f args ts dst ty pos af gd rfl hs.enter]
   refine ⟨rfl,?_⟩
   rwa [show (args.toList.map a.eval).toArray=args.map a.eval from by apply Pq;simp] at this
  ·rename_i s Aoz
   split at he
   ·cases hs:Nu args.toList st with
    |none=>rw [hs] at he;cases he
    |some st1=>
     rw [hs] at he
     obtain ⟨cv,h1⟩:=dG args.toList h hs
     exact quiet h1 he
   ·exact quiet h he
  ·exact quiet h he
 ·exact quiet h he
end
end Go.Proofs.Ytkkdpknjohcekaa
