/-
  Part 23 of the proof that the statement FnTables holds.
-/
import Derived.Test.YtkkdpknjohcekaaCFTables21
namespace Go.Proofs.Ytkkdpknjohcekaa
open Go.RowKit
section
variable {P:Program} {T:Tab} {X:Ctx} {w w':World} {π:Pi} {H:List (Nat×OB)}
theorem vK {π':Pi} {st':St} {a:Act} (h:Bd X π' st' a w) (k:Ke π π' H st'.heap) {fr:Bool} (τ:Ty) (cs:List Value) (x:τ.den) (hc:Cells w (Cp X.w0.heap.size X.Sc π fr) τ cs x):
  Cells w (Cp X.w0.heap.size X.Sc π' fr) τ cs x:=
 Cells.Gg (Ar _) (λ_ _ _=>rfl) (λb _ hA=>by
  rcases hA with ⟨l,r,hl,hg⟩|h2
  ·have hh:=h.1.heap l
   cases hb:Aq st'.heap l with
   |none=>have:=hh.emp hb;rw [this] at hl;cases hl
   |some b'=>have:=(k l b' hb).1;rw [this] at hl;exact .inl ⟨l,r,hl,hg⟩
  ·exact .inr h2) τ cs x hc
theorem fc.drop {F:List Nat} {l:Nat} (h:fc X w π F):fc X w (Vh π l none) F:=
 ⟨h.1,λb hb=>⟨(h.2 b hb).1,(h.2 b hb).2.1,λm r hm=>by
  by_cases e:m=l
  ·subst e;rw [Ga] at hm;cases hm
  ·rw [Fv π none e] at hm;exact (h.2 b hb).2.2 m r hm⟩⟩
theorem qS {st:St} {a:Act} (h:Bd X π st a w) (l:Nat) (hl:l<Bf) (f0 t0:Bool) (te:TypeId) (e:Ty):
  Bd X (Vh π l none) (st.new l (.arr f0 t0 e te [])) a w/\Bi X w (Vh π l none) (st.new l (.arr f0 t0 e te [])).heap (.at (.own l 0 0)) (.slice none 0 0)/\
   ∀fr τ cs x,Cells w (Cp X.w0.heap.size X.Sc π fr) τ cs x->Cells w (Cp X.w0.heap.size X.Sc (Vh π l none) fr) τ cs x:=
 ⟨h.replace l hl none _ (Oq w _) (λr hr=>by cases hr) (λ_=>rfl),
  zq (St.Gm st l _) (Ar _) (by rw [Ga];exact ⟨rfl,rfl,rfl⟩),
  fun fr τ cs x hc=>Cells.Gg (Ar _) (λ_ _ _=>rfl) (λb _ hA=>by
  rcases hA with ⟨m,r,hm,hg⟩|h2
  ·by_cases e:m=l
   ·subst e;rw [Ga] at hm;cases hm
   ·rw [Fv π none e] at hm;exact .inl ⟨m,r,hm,hg⟩
  ·exact .inr h2) τ cs x hc⟩
theorem Vy (hT:Ed P T) {st:St} {a:Act} (h:Bd X π st a w) (dst:Nat) (t ty:TypeId) (x y:Operand) (av:AV) (st':St) (he:Nb T st dst t x y=some (av,st')):
  ∃v' w' π',(Builtin.append_ #[t,t] ty #[a.eval x,a.eval y]).run P w= .ok v' w'/\Bd X π' st' a w'/\Bi X w' π' st'.heap av v':=by
 unfold Nb at he
 split at he
 ·cases he
 ·rename_i te j9
  split at he
  ·rename_i e y' st1 Wg hs
   obtain ⟨aK,h1,h2,h3,h4,h5⟩:=aE h (Dm h.2 y) hs
   split at he
   ·cases he
   ·rename_i p7 ys hv
    dsimp only at he
    have HT: ∀tr2,tr2=(e.flat||(Rw st (st.ev y)&&e.tree))->tr2=true->e.flat=true\/ ∃F,Cn w F (.slice e) [a.eval y] ys/\fc X w aK F:=by
     intro tr2 e2 eT
     subst e2
     cases hef:e.flat with
     |true=>exact .inl rfl
     |false=>
     right
     simp only [hef,Zx,Ag] at eT
     obtain ⟨F,us,f1,f2,f3,_⟩:=h5 eT.1 (.slice e) p7 ys eT.2 hv
     have PX:us= [a.eval y]:=by
      simp only [Cn] at f1
      obtain ⟨a0,len,cap,rfl,_⟩:=f1
      rw [f2];simp [Bs,Ty.Am]
     rw [PX] at f1
     exact ⟨F,f1,f3⟩
    have hyc:Cells w (Cp X.w0.heap.size X.Sc aK p7) (.slice e) [a.eval y] ys:=Df.Qr rfl (Mc _ y' _ p7 ys h3 h2 hv)
    have hxr:=Dm h1.2 x
    split at he
    ·rename_i hx
     rw [hx] at hxr
     have hxv:a.eval x= .slice none 0 0:=hxr
     split at he
     ·rename_i mu
      simp only [Aa,Ae] at he
      obtain ⟨rfl,rfl⟩:=he
      obtain ⟨k1,k2,k3⟩:=qS h1 dst mu.2 (T.sv||e.flat) T.AQ te e
      have:=kJ (ty:=ty) hT k1 j9 Wg mu.2 (fr3:=p7||e.flat) (tr2:=e.flat||(Rw st (st.ev y)&&e.tree)) rfl (St.Gm st1 dst _) k2 (k3 _ _ _ _ hyc) (by rw [Cf];exact mu.1) (λht=>by
       rcases HT _ rfl ht with h0|⟨F,f1,f2⟩
       ·exact .inl h0
       ·exact .inr ⟨F,f1,f2.drop⟩)
      rw [<-hxv] at this
      exact this
     ·cases he
    ·rename_i l off len hx
     rw [hx] at hxr
     split at he
     ·rename_i fr tr e' tid xs hl
      split at he
      ·rename_i Jd
       obtain ⟨rfl,rfl⟩:=Jd
       split at he
       ·rename_i mu
        simp only [Aa,Ae] at he
        obtain ⟨rfl,rfl⟩:=he
        exact kJ (ty:=ty) hT h1 j9 Wg mu.2 (fr3:=p7||e'.flat) (tr2:=e'.flat||(Rw st (st.ev y)&&e'.tree)) rfl hl hxr hyc mu.1 (HT _ rfl)
       ·cases he
      ·cases he
     ·cases he
    ·cases he
  ·cases he
theorem kU (hT:Ed P T) {st:St} {a:Act} (h:Bd X π st a w) (dst:Nat) (t ty:TypeId) (x y:Operand) (av:AV) (st':St) (he:Qk T st dst t x y=some (av,st')):
  ∃v' w' π',(Builtin.append_ #[t,t] ty #[a.eval x,a.eval y]).run P w= .ok v' w'/\Bd X π' st' a w'/\Bi X w' π' st'.heap av v':=by
 unfold Qk at he
 split at he
 ·rename_i tx
  split at he
  ·rename_i l i c hg
   split at he
   ·rename_i e te rows kp tid hl _
    split at he
    ·rename_i hc
     simp only [Ag,Ml,Dn] at hc
     have fT:dst≠l:= λe=>by rw [e,Nat.beq_refl] at hc;cases hc.2.2
     unfold St.at at hl
     have hv:Gx X w π st.heap (.sub l i c) (a.tmps.getD tx undef):=by
      have:=h.2.tmps tx
      rw [hg] at this
      exact this
     obtain ⟨aK,h1,h2⟩:=CH (tid:=tid) h hl fT hc.2.1 hc.1 hv
     have h3:=h1.put (some tx) (c:= .at (.own dst 0 (rows.getD i []).length)) h2
     have Ae5:a.put (some tx) (a.tmps.getD tx undef)=a:=by
      have:a.tmps.setIfInBounds tx (a.tmps.getD tx undef)=a.tmps:=by
       apply Array.ext_getElem?
       intro k
       rw [Array.getElem?_setIfInBounds]
       split
       ·rename_i e
        subst e
        split
        ·rename_i Js
         rw [Array.getElem?_eq_getElem Js];simp
        ·rename_i Js
         rw [Array.getElem?_eq_none (by omega)]
       ·rfl
      simp only [Act.put,this]
     rw [Ae5] at h3
     exact Vy hT h3 dst t ty (.tmp tx) y av st' he
    ·cases he
   ·cases he
  ·exact Vy hT h dst t ty _ y av st' he
 ·exact Vy hT h dst t ty x y av st' he
theorem GO {S:Nat->Prop} {e:Ty} (h:kC e=true): ∃z,Bl e= [z]/\e.Am=false/\e.size=1/\Cells w S e [z] e.zero/\z.oneCell'=true:=by
 cases e<;>simp [kC] at h
 ·exact ⟨_,rfl,rfl,rfl,rfl,rfl⟩
 ·exact ⟨_,rfl,rfl,rfl,rfl,rfl⟩
 ·exact ⟨_,rfl,rfl,rfl,rfl,rfl⟩
 ·exact ⟨_,rfl,rfl,rfl,⟨none,0,0,rfl,rfl,Ar _, .inl rfl⟩,rfl⟩
 ·exact ⟨_,rfl,rfl,rfl, .inl ⟨rfl,0,rfl⟩,rfl⟩
theorem BL {e:Ty} {z:Value} (ht:e.tree=true) (h:kC e=true) (hz:Bl e= [z]):Cn w [] e [z] e.zero:=by
 cases e<;>simp [kC] at h<;>simp only [Bl,Gi,eZ] at hz<;>subst hz<;>try (simp [Ty.tree] at ht;done)
 ·exact ⟨rfl,rfl⟩
 ·exact ⟨rfl,rfl⟩
 ·exact ⟨rfl,rfl⟩
 ·exact ⟨none,0,0,rfl,rfl,Ar _, .inl ⟨rfl,rfl,rfl,rfl⟩⟩
theorem TU {S:Nat->Prop} : ∀(e:Ty),dZ e=true->(Bl e).length=e.size/\Cells w S e (Bl e) e.zero/\(e.tree=true->Cn w [] e (Bl e) e.zero):=by
 intro e
 induction e with
 |unit=>intro _;exact ⟨rfl,rfl,λ_=>⟨rfl,rfl⟩⟩
 |pair a r fa eV=>
  intro h
  simp only [dZ,Ag] at h
  obtain ⟨a1,a2,a3⟩:=fa h.1
  obtain ⟨r1,r2,r3⟩:=eV h.2
  exact ⟨by simp [Bl,Ty.size,a1,r1],⟨_,_,rfl,a2,r2⟩,λht=>by simp only [Ty.tree,Ag] at ht;exact ⟨_,_,[],[],rfl,rfl,a3 ht.1,r3 ht.2⟩⟩
 |_=>
  intro h
  simp only [dZ] at h
  obtain ⟨z,z1,z2,z3,z4,_⟩:=GO (w:=w) (S:=S) h
  exact ⟨by rw [z1,z3];rfl,by rw [z1];exact z4,λht=>by rw [z1];exact BL ht h z1⟩
theorem IC {z:Array Value} {s m j q:Nat} (hz:z.size=s) (hj:j<m) (hq:q<s):(madeCells z (m*s))[j*s+q]?=z[q]?:=by
 have h1:j*s+q<m*s:=by
  have:=Ff s (show j+1<=m by omega)
  rw [Nat.succ_mul] at this
  omega
 have h2:(j*s+q)%z.size=q:=by rw [hz,Nat.mul_comm,Nat.mul_add_mod,Nat.mod_eq_of_lt hq]
 have h3:q<z.size:=by omega
 unfold madeCells
 simp [h1,h2,h3]
theorem qc (hT:Ed P T) {st:St} {a:Act} (h:Bd X π st a w) (dst:Nat) (t:TypeId) (l c:AV) (vl vc:Value) (hl:Bi X w π st.heap l vl) (hc:Bi X w π st.heap c vc) (av:AV) (st':St)
  (he:ab T st dst t l c=some (av,st')): ∃v' w' π',(Instr.makeSlice t vl vc).run P w= .ok v' w'/\Bd X π' st' a w'/\Bi X w' π' st'.heap av v':=by
 unfold ab at he
 split at he
 ·rename_i te XF k1 n p7 k2 m j9
  have:=Oz hl;subst this
  have:=Oz hc;subst this
  split at he
  ·rename_i e Wg
   split at he
   ·rename_i Jd
    obtain ⟨h0,hnm,hz,XR⟩:=Jd
    obtain ⟨h1,h2⟩:=So.1 h0
    subst hnm
    simp only [Aa,Ae] at he
    obtain ⟨rfl,rfl⟩:=he
    obtain ⟨i,hi,Tx,oC,qq⟩:=(hT.ty te e Wg).info
    obtain ⟨z1,z4,z5⟩:=TU (w:=w) (S:=Cp X.w0.heap.size X.Sc π (T.sv||e.flat)) e hz
    have PZ:(Bs e (Bl e)).cells=(Bl e).toArray:=Ki e _ _ z4
    have hu:=hT.elem t te j9
    have hn:n.toNat<=4294967296:=by unfold Et at h2;omega
    have hr:=run_make (P:=P) (w:=w) t te i _ hu hi qq k1 k2 n n h1 (Iz _) (by
     have:(i.bytes:Int)*n<=256*4294967296:=by
      obtain ⟨nn,rfl⟩:=Lm h1
      have h7:i.bytes*nn<=256*4294967296:=Nat.mul_le_mul oC (by simpa using hn)
      have h8:((i.bytes*nn:Nat):Int)<=256*4294967296:=by omega
      rwa [Int.natCast_mul] at h8
     omega) (by unfold Et at h2;omega)
    rw [PZ,Tx] at hr
    have Yp:((Bl e).toArray).size=e.size:=by simpa using z1
    have cell: ∀j,j<n.toNat-> ∀q u,(Bl e)[q]?=some u->(madeCells (Bl e).toArray (n.toNat*e.size)).toList[j*e.size+q]?=some u:=by
     intro j hj q u hu
     have hq:q<e.size:=by rw [<-z1];exact (Aj.1 hu).1
     have:=IC Yp hj hq
     rw [Array.getElem?_toList,this]
     simpa using hu
    have:=dv (w1:=w.alloc (.cells (madeCells (Bl e).toArray (n.toNat*e.size)) te)) h dst XR (T.sv||e.flat) (T.AQ&&e.tree) e te (List.replicate n.toNat e.zero) (madeCells (Bl e).toArray (n.toNat*e.size)).toList (madeCells (Bl e).toArray (n.toNat*e.size)) n.toNat []
     (.inr rfl) (by rw [size_madeCells]) (by unfold maxLen;omega) (by simp)
     (λk u hu=>by
      rw [Array.getElem?_toList] at hu;exact hu) ⟨by simp [size_madeCells],λj x hx=>by
       have hj:=(Aj.1 hx).1
       simp only [Nk] at hj
       refine ⟨Bl e,z1,λq u hu=>cell j hj q u hu,?_⟩
       rw [Fa (Bx hx)];exact z4⟩ (by simp) (λeT=>⟨Kw,List.replicate n.toNat [],by simp,by simp,λj x F hx hF=>by
      have hj:=(Aj.1 hx).1
      simp only [Nk] at hj
      refine ⟨Bl e,z1,λq u hu=>cell j hj q u hu,?_⟩
      have e1:=Fa (Bx hx)
      have e2:=Fa (Bx hF)
      rw [e1,e2]
      exact z5 (by simp only [Ag] at eT;exact eT.2)⟩)
    exact ⟨_,_,_,hr,this.1,this.2 _ (by simp)⟩
   ·cases he
  ·cases he
 ·cases he
theorem fL (off:Nat): ∀(us:List Value) (k:Nat) (cells:List Value),off+k+us.length<=cells.length->
  (us.zipIdx k).foldl (λcs p=>cs.setIfInBounds (off+p.2) p.1) cells.toArray=(Dq cells (off+k) us).toArray
 | [],k,cells,h=>by simp [Dq]
 |u::us,k,cells,h=>by
  simp only [List.zipIdx_cons,My]
  rw [show cells.toArray.setIfInBounds (off+k) u=(cells.set (off+k) u).toArray by simp]
  rw [fL off us (k+1) (cells.set (off+k) u) (by simp at h⊢;omega)]
  congr 1
  apply List.ext_getElem?
  intro j
  have hl:off+k+(u::us).length<=cells.length:=h
  have sA:off+(k+1)+us.length<=(cells.set (off+k) u).length:=by simp at h⊢;omega
  rw [Hl _ _ _ _ hl,Hl _ _ _ _ sA]
  simp only [Bg]
  by_cases h1:j<off+k
  ·rw [Ab (by omega),Ab h1,List.getElem?_set_ne (by omega)]
  ·rw [Al h1]
   by_cases h2:j=off+k
   ·subst h2
    rw [Ab (by omega),Ab (by omega),List.getElem?_set_self (by simp at h;omega)]
    simp
   ·rw [Al (by omega)]
    by_cases h3:j<off+k+(us.length+1)
    ·rw [Ab (by omega),Ab h3]
     rw [show j-(off+k)=(j-(off+(k+1)))+1 by omega,Ln]
    ·rw [Al (by omega),Al h3,List.getElem?_set_ne (by omega)]
theorem tY (place:Nat->Option (Nat×Nat)) (cells:List Value) (i:Nat) (v:Value) (rest:List (Nat×Value)) (off size:Nat) (us:List Value) (hp:place i=some (off,size)) (hv:v.cells=us.toArray)
  (hl:us.length=size) (hle:off+size<=cells.length):Instr.fill place cells.toArray ((i,v)::rest)=Instr.fill place (Dq cells off us).toArray rest:=by
 simp only [Instr.fill,hp,hv,Gj,hl]
 rw [Al (by simp;omega)]
 congr 1
 have:=fL off us 0 cells (by omega)
 simp only [Ef] at this
 rw [<-this]
 simp
theorem Vu (e:Ty) {a:Act} : ∀(parts:List (Nat×Operand)) (i:Nat) (st:St) (π:Pi) (fr tr:Bool) (ys:List e.den) (st':St) (cells:List Value),Bd X π st a w->Ks e i parts st=some (fr,tr,ys,st')->
  (i+parts.length)*e.size<=cells.length->
  ∃π' cl,Bd X π' st' a w/\Flat w (Cp X.w0.heap.size X.Sc π' fr) e cl ys/\ys.length=parts.length/\Ke π π' st.heap st'.heap/\
   Instr.fill (λi=>some (i*e.size,e.size)) cells.toArray (parts.map λp=>(p.1,a.eval p.2))=some (Dq cells (i*e.size) cl).toArray/\
   (tr=true-> ∃Fs,Rk w e cl ys Fs/\fc X w π' (List.flatten Fs)/\ ∀b∈List.flatten Fs,∃l r,π l=some r/\r.cl b)
 | [],i,st,π,fr,tr,ys,st',cells,h,he,hle=>by
  simp only [Ks,Aa,Ae] at he
  obtain ⟨rfl,rfl,rfl,rfl⟩:=he
  exact ⟨π,[],h,Flat.nil,rfl,Ke.refl _ _,by simp [Instr.fill,Dq],λ_=>⟨[],⟨rfl,λi z F hz=>by simp at hz⟩,⟨Kw,by simp⟩,by simp⟩⟩
 |(j,x)::r,i,st,π,fr,tr,ys,st',cells,h,he,hle=>by
  simp only [Ks] at he
  split at he
  ·rename_i il;subst il
   split at he
   ·rename_i v' st1 hs
    obtain ⟨aK,h1,h2,h3,h4,h5⟩:=aE h (Dm h.2 x) hs
    split at he
    ·rename_i XF y hv
     split at he
     ·rename_i p7 tr2 zs st2 hr
      simp only [Aa,Ae] at he
      obtain ⟨rfl,rfl,rfl,rfl⟩:=he
      obtain ⟨es,eR,CT⟩:=Mc e v' _ XF y h3 h2 hv
      have j8:=Cells.len e es y eR
      have Aj5:i*e.size+e.size<=cells.length:=by
       have:(i+1)*e.size<=(i+((i,x)::r).length)*e.size:=Ff _ (by simp)
       rw [Cx,Ud] at this
       omega
      have HM:i*e.size+es.length<=cells.length:=by omega
      obtain ⟨NI,cl,g1,g2,g3,g4,g5,g6⟩:=Vu e r (i+1) st1 aK p7 tr2 zs st2 (Dq cells (i*e.size) es) h1 hr (by
       rw [Ij _ _ _ HM]
       rw [show i+1+r.length=i+((i,x)::r).length by simp;omega];exact hle)
      have f1:Flat w (Cp X.w0.heap.size X.Sc NI XF) e es [y]:=⟨by simp [j8],λq z hz=>by
       rcases q with _|q
       ·simp at hz;subst hz
        exact ⟨es,j8,λj u hu=>by simpa using hu,vK g1 g4 e es y eR⟩
       ·simp at hz⟩
      refine ⟨NI,es++cl,g1,?_,by simp [g3],h4.trans g4,?_,λht=>?_⟩
      ·have:=(f1.cells λes z hc=>hc.and_left (f2:=p7)).append (g2.cells λes z hc=>hc.and_right (f1:=XF))
       simpa using this
      ·simp only [Bh]
       rw [tY _ cells i (a.eval x) _ (i*e.size) e.size es rfl (by rw [CT];exact Ki e es y eR) j8 Aj5,g5]
       congr 2
       have Qh:cl.length=r.length*e.size:=by rw [g2.1,g3]
       have We:(i+1)*e.size+cl.length<=(Dq cells (i*e.size) es).length:=by
        rw [Ij _ _ _ HM,Qh,<-Cx]
        rw [show i+1+r.length=i+((i,x)::r).length by simp;omega];exact hle
       have Ad7:i*e.size+(es++cl).length<=cells.length:=by
        rw [Ij _ _ _ HM] at We
        rw [Au,j8]
        rw [Cx,Ud] at We
        omega
       have e1:(i+1)*e.size=i*e.size+es.length:=by rw [Cx,Ud,j8]
       apply List.ext_getElem?
       intro k
       rw [Hl _ _ _ _ We,Hl _ _ _ _ Ad7,Hl _ _ _ _ HM,e1,Au]
       by_cases k1:k<i*e.size
       ·rw [Ab (by omega),Ab k1,Ab k1]
       ·rw [Al k1,Al k1]
        by_cases k2:k<i*e.size+es.length
        ·rw [Ab k2,Ab k2,Ab (by omega),Ap (by omega)]
        ·rw [Al k2,Al k2]
         by_cases k3:k<i*e.size+es.length+cl.length
         ·rw [Ab k3,Ab (by omega),Ao (by omega)]
          congr 1;omega
         ·rw [Al k3,Al (by omega)]
      ·simp only [Ag] at ht
       obtain ⟨⟨ht1,YI⟩,ht3⟩:=ht
       obtain ⟨F,us,t1,t2,t3,t7⟩:=h5 ht1 e XF y YI hv
       obtain ⟨Fs,t4,t5,t6⟩:=g6 ht3
       have PX:us=es:=by
        have c1:=Cn.cells (S:= λ_=>False) F e us y t1 (λ_ _ h=>h)
        have a1:=Ki e us y c1
        have a2:=Ki e es y eR
        rw [<-t2,CT,a2] at a1
        simpa using a1.symm
       subst PX
       refine ⟨F::Fs,?_,?_,λb hb=>?_⟩
       ·have k1:Rk w e us [y] [F]:=⟨rfl,λq z G hz hG=>by
         rcases q with _|q
         ·simp at hz hG;subst hz;subst hG
          exact ⟨us,j8,λj u hu=>by simpa using hu,t1⟩
         ·simp at hz⟩
        exact Rk.append (by simp [j8]) k1 t4
       ·rw [Km]
        refine ⟨Dg.2 ⟨t3.1,t5.1,λb hb b' sk e=>?_⟩,λb hb=>?_⟩
        ·subst e
         obtain ⟨l,r,q1,q2⟩:=t6 b sk
         exact (t3.2 b hb).2.2 l r q1 q2
        ·rcases Aw.1 hb with hb|hb
         ·have:=t3.2 b hb
          refine ⟨this.1,this.2.1,λl r q1 q2=>?_⟩
          cases hh:Aq st2.heap l with
          |none=>rw [(g1.1.heap l).emp hh] at q1;cases q1
          |some b'=>exact this.2.2 l r ((g4 l b' hh).1▸q1) q2
         ·exact t5.2 b hb
       ·rw [Km] at hb
        rcases Aw.1 hb with hb|hb
        ·exact t7 b hb
        ·obtain ⟨l,r,q1,q2⟩:=t6 b hb
         cases hh:Aq st1.heap l with
         |none=>rw [(h1.1.heap l).emp hh] at q1;cases q1
         |some b'=>exact ⟨l,r,(h4 l b' hh).1▸q1,q2⟩
     ·cases he
    ·cases he
   ·cases he
  ·cases he
theorem fG (hT:Ed P T) {st:St} {a:Act} (h:Bd X π st a w) (dst:Nat) (t:TypeId) (len:Nat) (parts:Array (Nat×Operand)) (av:AV) (st':St)
  (he:Lr T st dst t len parts=some (av,st')):
  ∃v' w' π',(Instr.buildSlice t len (parts.map λ(i,x)=>(i,a.eval x))).run P w= .ok v' w'/\Bd X π' st' a w'/\Bi X w' π' st'.heap av v':=by
 unfold Lr at he
 split at he
 ·cases he
 ·rename_i te j9
  split at he
  ·cases he
  ·rename_i e Wg
   split at he
   ·rename_i Jd
    obtain ⟨dh,hlen⟩:=Jd
    split at he
    ·rename_i fr tr ys st1 hb
     simp only [Aa,Ae] at he
     obtain ⟨rfl,rfl⟩:=he
     obtain ⟨i,hi,Tx,oC,qq⟩:=(hT.ty te e Wg).info
     have hu:=hT.elem t te j9
     have JV:parts.toList.length=len:=by simpa using dh
     have hz: ∃z:Array Value,(len*e.size=0/\z= #[])\/(¬len*e.size=0/\(zeroValue te).run P w= .ok (Bs e (Bl e)) w/\z=(Bs e (Bl e)).cells):=by
      by_cases h0:len*e.size=0
      ·exact ⟨#[], .inl ⟨h0,rfl⟩⟩
      ·exact ⟨_, .inr ⟨h0,by simp [zeroValue,typeInfo,hi,qq],rfl⟩⟩
     obtain ⟨z,hz⟩:=hz
     obtain ⟨aK,cl,g1,g2,g3,g4,g5,g6⟩:=Vu e parts.toList 0 st π fr tr ys st1 ((Array.range (len*e.size)).map (z[· %z.size]!)).toList h hb (by simp [JV])
     have Qh:cl.length=len*e.size:=by rw [g2.1,g3,JV]
     have PV:(Dq ((Array.range (len*e.size)).map (z[· %z.size]!)).toList (0*e.size) cl)=cl:=by
      simp [Dq,Qh]
     rw [PV] at g5
     have Tz:(Instr.buildSlice t len (parts.map λ(i,x)=>(i,a.eval x))).run P w= .ok (.slice (some ⟨w.heap.size,0,none⟩) len len) (w.alloc (.cells cl.toArray te)):=by
      have h24: ¬(len*e.size>2^24):=by
       have:len*e.size<=64*64:=Nat.mul_le_mul hlen.1 hlen.2.1
       omega
      simp only [Instr.buildSlice,Sem.run_bind,run_underlying hu,Result.andThen_ok,(hT.ty te e Wg).size,Al h24]
      have e1:(parts.map λ(i,x)=>(i,a.eval x)).toList=parts.toList.map λp=>(p.1,a.eval p.2):=by simp
      simp only [e1]
      have e2:(((Array.range (len*e.size)).map (z[· %z.size]!)).toList.toArray)=(Array.range (len*e.size)).map (z[· %z.size]!):=Array.toArray_toList
      rw [e2] at g5
      rcases hz with ⟨h0,rfl⟩|⟨h0,hz,rfl⟩
      ·rw [Ab h0]
       simp only [Sem.run_bind,Sem.run_pure,Result.andThen_ok,g5,newRow]
       simp
      ·rw [Al h0]
       simp only [Sem.run_bind,Sem.run_pure,Result.andThen_ok,hz,g5,newRow]
       simp
     have hN: ∃N:List Nat,(∀b∈N,(X.w0.heap.size<=b\/X.gv b)/\b<w.heap.size/\ ∀m r0,m≠dst->aK m=some r0-> ¬r0.cl b)/\(tr=true->N.Nodup/\ ∃Fs,List.flatten Fs=N/\Rk w e cl ys Fs):=by
      cases tr with
      |false=>exact ⟨[],by simp,λh=>by cases h⟩
      |true=>
       obtain ⟨Fs,t1,t2,_⟩:=g6 rfl
       exact ⟨_,λb hb=>⟨(t2.2 b hb).1,(t2.2 b hb).2.1,λm r0 _=>(t2.2 b hb).2.2 m r0⟩,λ_=>⟨t2.1,Fs,rfl,t1⟩⟩
     obtain ⟨N,q1,q2⟩:=hN
     have:=dv (w1:=w.alloc (.cells cl.toArray te)) g1 dst hlen.2.2 ((T.sv||e.flat)&&fr) (T.AQ&&tr) e te ys cl cl.toArray len N (.inr rfl) (by simpa using Qh) (by simp only [maxLen];omega) (by omega) (λk u hu=>by simpa using hu) (g2.cells λes z hc=>hc.and_right) q1 (λht=>q2 (by simp only [Ag] at ht;exact ht.2))
     exact ⟨_,_,_,Tz,this.1,this.2 _ (by omega)⟩
    ·cases he
   ·cases he
theorem jV {t te:TypeId} {e:Ty} (h:cq T t=some (te,e)):T.elem t=some te/\T.ty te=some (.slice e):=by
 unfold cq at h
 cases he:T.elem t with
 |none=>rw [he] at h;cases h
 |some Qg=>
  rw [he] at h
  simp only [Ey] at h
  cases hg:T.HG Qg with
  |none=>rw [hg] at h;cases h
  |some e'=>
   rw [hg] at h
   simp only [Ai,Aa,Ae] at h
   obtain ⟨rfl,rfl⟩:=h
   refine ⟨rfl,?_⟩
   unfold Tab.HG at hg
   split at hg
   ·split at hg
    ·rename_i Wg;simp only [Aa] at hg;subst hg;exact Wg
    ·cases hg
   ·cases hg
theorem kL (w:World) (o:Obj):Kc w.heap.size (λ_=>False) w (w.alloc o):=⟨rfl,rfl,rfl,by simp,λk hk _=>Below.heap_alloc w _ k hk⟩
theorem ny (w:World) (o:Obj):Kc w.heap.size (λ_=>False) w (w.drew.alloc o):=⟨rfl,rfl,rfl,by simp,λk hk _=>Below.heap_alloc w.drew _ k hk⟩
theorem ov (hT:Ed P T) {st:St} {a:Act} (h:Bd X π st a w) (dst:Nat) (t:TypeId) (l c:AV) (vl vc:Value) (hl:Bi X w π st.heap l vl) (hc:Bi X w π st.heap c vc) (av:AV) (st':St)
  (he:Wc T st dst t l c=some (av,st')): ∃v' w' π',(Instr.makeSlice t vl vc).run P w= .ok v' w'/\Bd X π' st' a w'/\Bi X w' π' st'.heap av v':=by
 unfold Wc at he
 split at he
 ·exact qc hT h dst t l c vl vc hl hc av st' he
 ·rename_i te e hg
  obtain ⟨j9,Wg⟩:=jV hg
  split at he
  ·rename_i XF k1 n p7 k2 m
   have:=Oz hl;subst this
   have:=Oz hc;subst this
   split at he
   ·rename_i Jd
    obtain ⟨h0,hnm,XR⟩:=Jd
    obtain ⟨h1,h2⟩:=So.1 h0
    subst hnm
    simp only [Aa,Ae] at he
    obtain ⟨rfl,rfl⟩:=he
    obtain ⟨i,hi,Tx,oC,qq⟩:=(hT.ty te _ Wg).info
    have hu:=hT.elem t te j9
    have hn:n.toNat<=4294967296:=by unfold Et at h2;omega
    have hr:=run_make (P:=P) (w:=w) t te i _ hu hi qq k1 k2 n n h1 (Iz _) (by
     have:(i.bytes:Int)*n<=256*4294967296:=by
      obtain ⟨nn,rfl⟩:=Lm h1
      have h7:i.bytes*nn<=256*4294967296:=Nat.mul_le_mul oC (by simpa using hn)
      have h8:((i.bytes*nn:Nat):Int)<=256*4294967296:=by omega
      rwa [Int.natCast_mul] at h8
     omega) (by unfold Et at h2;omega)
    have PZ:(Bs (Ty.slice e) (Bl (Ty.slice e))).cells= #[.slice none 0 0]:=by simp [Bs,Ty.Am,Bl,Value.cells]
    have fV:(Ty.slice e).size=1:=rfl
    rw [PZ,Tx,fV] at hr
    have cell: ∀j,j<n.toNat->(madeCells #[Value.slice none 0 0] (n.toNat*1))[0+j]?=some (.slice none 0 0):=by
     intro j hj
     have:=IC (z:= #[Value.slice none 0 0]) (s:=1) (m:=n.toNat) (j:=j) (q:=0) rfl hj (by omega)
     simp only [Ex,Ef] at this
     simp only [Ex,Cf]
     rw [this];rfl
    obtain ⟨π',g1,g2⟩:=Xl (w1:=w.alloc (.cells (madeCells #[Value.slice none 0 0] (n.toNat*1)) te)) (gv:= λ_=>False) h XR XR te (e:=e) (rows:=List.replicate n.toNat []) (us:=List.replicate n.toNat (.slice none 0 0)) (Rs:=List.replicate n.toNat none) (g:=w.heap.size) (o:=0) (cap:=n.toNat)
     (λ_ hf=>hf.elim) (kL w _) ⟨.inl (Ar _),by simp⟩ (heap_alloc_new w _) (by rw [size_madeCells];omega) (by unfold maxLen;omega) (by simp) (λj u hu=>by
      have hj:=(Aj.1 hu).1
      simp only [Nk] at hj
      rw [cell j hj,Fa (Bx hu)])
     ⟨by simp,by simp,λi j q q' h1=>(by have:=Fa (Bx h1);cases this),λi x hx=>by
      have hj:=(Aj.1 hx).1
      simp only [Nk] at hj
      rw [Fa (Bx hx)]
      exact ⟨.slice none 0 0,none,by rw [List.getElem?_replicate,Ab hj],by rw [List.getElem?_replicate,Ab hj],⟨rfl,rfl,rfl⟩,rfl⟩⟩
     (λi q h1=>by have:=Fa (Bx h1);cases this)
    exact ⟨_,_,π',hr,g1,g2 _ (by simp)⟩
   ·cases he
  ·cases he
theorem eP (hT:Ed P T) {st:St} {a:Act} (h:Bd X π st a w) (dst:Nat) (t:TypeId) (len:Nat) (parts:Array (Nat×Operand)) (av:AV) (st':St)
  (he:Il T st dst t len parts=some (av,st')):
  ∃v' w' π',(Instr.buildSlice t len (parts.map λ(i,x)=>(i,a.eval x))).run P w= .ok v' w'/\Bd X π' st' a w'/\Bi X w' π' st'.heap av v':=by
 unfold Il at he
 split at he
 ·exact fG hT h dst t len parts av st' he
 ·rename_i te e hg
  obtain ⟨j9,Wg⟩:=jV hg
  split at he
  rotate_left
  ·cases he
  rename_i x Aad
  split at he
  rotate_left
  ·cases he
  rename_i m off ln hx
  split at he
  rotate_left
  ·cases he
  rename_i fr tr e' tid xs hm
  split at he
  rotate_left
  ·cases he
  rename_i hc
  obtain ⟨rfl,hc,rfl,rfl⟩:=hc
  simp only [Ag,Ml] at hc
  obtain ⟨hlen,XR,UH⟩:=hc
  have hlen:len=1:=Jc hlen
  subst hlen
  simp only [Aa,Ae] at he
  obtain ⟨rfl,rfl⟩:=he
  have hu:=hT.elem t te j9
  unfold St.at at hm
  have hrx:=Dm h.2 x
  rw [hx] at hrx
  obtain ⟨_,sm⟩:=Nl (X:=X) (w:=w) hrx hm
  obtain ⟨ax,nx,cx,VM⟩:=Zg sm
  have hp:parts= #[(0,x)]:=by apply Od;simpa using Aad
  subst hp
  obtain ⟨i,hi,Tx,oC,qq⟩:=(hT.ty te _ Wg).info
  have Tz:(Instr.buildSlice t 1 (#[(0,x)].map λ(i,x)=>(i,a.eval x))).run P w= .ok (.slice (some ⟨w.heap.size,0,none⟩) 1 1) (w.alloc (.cells #[a.eval x] te)):=by
   have fV:(Ty.slice e').size=1:=rfl
   have hz:(zeroValue te).run P w= .ok (.slice none 0 0) w:=by simp [zeroValue,typeInfo,hi,qq,Bs,Ty.Am,Bl]
   have UH:(#[(0,x)].map λ(i,x)=>(i,a.eval x))= #[(0, .slice ax nx cx)]:=by simp [VM]
   rw [UH,VM]
   simp only [Instr.buildSlice,Sem.run_bind,run_underlying hu,Result.andThen_ok,(hT.ty te _ Wg).size,fV]
   simp [Value.cells,Instr.fill,newRow,hz]
   congr 2
   apply Array.ext
   ·simp
   ·intro i h1 h2
    have h0:i=0:=by simpa using h2
    subst h0
    simp
  have BM:=(h.1.heap m).Qi hm
  simp only [Bw,Jj] at BM
  have hfa:Rl w (Cp X.w0.heap.size X.Sc π false) (π m) e' xs:=by
   cases hR:π m with
   |none=>rw [hR] at BM;exact BM
   |some q=>
    rw [hR] at BM
    obtain ⟨⟨f0,f0',_⟩,cu,UI,f2,f3,f4,f5,f6,_⟩:=BM
    exact ⟨⟨f0,f0'⟩,cu,UI,f2,f3,f4,f5,λp y hy=>by
     obtain ⟨es,g1,g2,g3⟩:=f6 p y hy
     exact ⟨es,g1,g2,Cells.Gg (Ar _) (λ_ _ _=>rfl) (λb _ hA=>hA.imp id (Or.imp id λ⟨h1,_⟩=>by cases h1)) e' es y g3⟩⟩
  obtain ⟨π',g1,g2⟩:=Xl (w1:=w.alloc (.cells #[a.eval x] te)) (gv:= λ_=>False) h XR UH te (e:=e') (rows:= [xs]) (us:= [a.eval x]) (Rs:= [π m]) (g:=w.heap.size) (o:=0) (cap:=1)
   (λ_ hf=>hf.elim) (kL w _) ⟨.inl (Ar _),by simp⟩ (heap_alloc_new w _) rfl (by unfold maxLen;omega) (by simp) (λj u hu=>by
    rcases j with _|j
    ·simpa using hu
    ·simp at hu)
   ⟨rfl,rfl,λi j q q' h1 h2 _=>by
    rcases i with _|i
    ·rcases j with _|j
     ·rfl
     ·simp at h2
    ·simp at h1,λi y hy=>by
    rcases i with _|i
    ·simp only [Bn,Aa] at hy
     subst hy
     exact ⟨_,_,rfl,rfl,sm,hfa⟩
    ·simp at hy⟩
   (λi q h1=>by
    rcases i with _|i
    ·simp only [Bn,Aa] at h1
     have hf:=h.1.Ci h1
     have:=(h.1.place m q _ h1 (h.1.sub m q _ h1 hf)).2
     exact ⟨by omega,λh=>h,m,q, .inr rfl,h1,hf⟩
    ·simp at h1)
  exact ⟨_,_,π',Tz,g1,g2 1 rfl⟩
theorem kV (hT:Ed P T) {st:St} {a:Act} (h:Bd X π st a w) (dst:Nat) (t ty:TypeId) (x y:Operand) (av:AV) (st':St) (he:Ql T st dst t x y=some (av,st')):
  ∃v' w' π',(Builtin.append_ #[t,t] ty #[a.eval x,a.eval y]).run P w= .ok v' w'/\Bd X π' st' a w'/\Bi X w' π' st'.heap av v':=by
 unfold Ql at he
 split at he
 ·exact kU hT h dst t ty x y av st' he
 ·rename_i te e hg
  obtain ⟨j9,Wg⟩:=jV hg
  split at he
  rotate_left
  ·cases he
  rename_i l off len m RC qE hx hy
  split at he
  rotate_left
  ·cases he
  rename_i e1 te1 A kp1 e2 tq B kp2 hl hm
  split at he
  rotate_left
  ·cases he
  rename_i hc
  obtain ⟨⟨rfl,rfl⟩,hc,⟨rfl,rfl⟩,⟨rfl,rfl⟩,hB,mu⟩:=hc
  simp only [Ag,Ml,Kn,Dn] at hc
  obtain ⟨⟨rfl,rfl⟩,oD,UH,fT⟩:=hc
  have fT:m≠l:= λe=>by rw [e,Nat.beq_refl] at fT;cases fT
  simp only [Aa,Ae] at he
  obtain ⟨rfl,rfl⟩:=he
  have hu:=hT.elem t tq j9
  obtain ⟨i,hi,Tx,oC,qq⟩:=(hT.ty tq _ Wg).info
  have Tx:i.size=1:=Tx
  unfold St.at at hl hm
  have hrx:=Dm h.2 x
  have hry:=Dm h.2 y
  rw [hx] at hrx;rw [hy] at hry
  obtain ⟨b1,s1,n1,q1,q2,_,hox⟩:=hrx
  rw [hl] at q1;cases q1
  simp only [OB.row,Aa,Ae] at q2
  obtain ⟨rfl,rfl⟩:=q2
  obtain ⟨b2,s2,n2,q1,q2,_,hoy⟩:=hry
  rw [hm] at q1;cases q1
  simp only [OB.row,Aa,Ae] at q2
  obtain ⟨rfl,rfl⟩:=q2
  have hA:=((h.1.heap l).Qi hl).1
  have hBb:=((h.1.heap m).Qi hm).1
  cases JY:π m with
  |none=>
   rw [JY] at hBb
   have hBb:B= []:=hBb
   subst hBb;simp at hB
  |some rB=>
  rw [JY] at hBb hoy
  obtain ⟨fB,Amw,tiB,uB,RB,w1B,w2B,w3B,w4B,w5B,w6B,w7B,LB⟩:=u3 hBb
  obtain ⟨adB,hvy,hcB,haB⟩:=hoy
  have haB:=haB (by omega)
  subst haB
  have hlB:=LB.1
  have n1':uB.length=B.length*i.size:=by rw [Tx,Ex];exact hlB
  have n2': ∀j u,uB[j]?=some u->w.cell? ((⟨rB.g,(rB.o+0)*1,none⟩:Addr).add j)=some u:= λj u hu=>by
   rw [Addr.add_lit,cellOf w1B,Ex,Ef];exact w5B j u hu
  have ql:(A.length+B.length)*i.bytes<=140737488355328:=by
   have:(A.length+B.length)*i.bytes<=4294967296*256:=Nat.mul_le_mul mu oC
   omega
  have fW:A.length+B.length<=maxLen:=by unfold Et at mu;simp only [maxLen];omega
  have hzs:(Bs (Ty.slice e2) (Bl (Ty.slice e2))).cells.size=1:=by simp [Bs,Ty.Am,Bl,Value.cells]
  have Uq: ∀(k:Nat) (q:Real) (Rs:List (Option Real)),π k=some q->(∀(i:Nat) (p:Real),Rs[i]?=some (some p)->q.Ci p.g/\p.g≠q.g)-> ∀(i:Nat) (p:Real),Rs[i]?=some (some p)->p.g<w.heap.size:= λk q Rs h1 h2 i p h3=>
   (h.1.place k q _ h1 (h.1.sub k q _ h1 (h2 i p h3).1)).2
  cases dh:π l with
  |none=>
   rw [dh] at hA hox
   have hA:A= []:=hA
   subst hA
   obtain ⟨VM,_,_⟩:=hox
   rw [VM,hvy]
   simp only [Iq,Cf,List.nil_append] at mu ql fW⊢
   have hr:=run_append_nil (P:=P) w t ty tq i _ hu hi qq ⟨rB.g,(rB.o+0)*1,none⟩ B.length (rB.cap-0) uB n1' n2' hB (by simp only [maxLen] at fW;omega) (by omega)
   have NM:=grownCap_ge w B.length 0 tq
   have UY:=grownCap_le_maxLen w B.length 0 tq (by omega)
   obtain ⟨π',g1,g2⟩:=Xl (w1:=w.drew.alloc (.cells (uB.toArray++Builtin.zeroCells (Bs (Ty.slice e2) (Bl (Ty.slice e2))).cells (grownCap w B.length 0 tq-B.length)) tq)) (gv:= λ_=>False) h oD UH tq (e:=e2) (rows:=B) (us:=uB) (Rs:=RB) (g:=w.heap.size) (o:=0) (cap:=grownCap w B.length 0 tq)
    (λ_ hf=>hf.elim) (ny w _) ⟨.inl (Ar _),by simp⟩ (heap_alloc_new w.drew _) (by rw [Array.size_append,Gj,Sv,hzs];omega) UY NM (λj u hu=>by
     have hj:=(Aj.1 hu).1
     rw [Cf,Ry (by simpa using hj)];simpa using hu)
    LB (λi q h1=>⟨by have:=Uq m rB RB JY w7B i q h1;omega,λh=>h,m,rB, .inr rfl,JY,(w7B i q h1).1⟩)
   exact ⟨_,_,π',hr,g1,g2 _ rfl⟩
  |some rA=>
   rw [dh] at hA hox
   obtain ⟨fA,JJ,tiA,uA,RA,w1A,w2A,w3A,w4A,w5A,w6A,w7A,LA⟩:=u3 hA
   obtain ⟨adA,VM,hcA,haA⟩:=hox
   have hlA:=LA.1
   rw [VM,hvy]
   have apart: ∀(i j:Nat) (q q':Real),RA[i]?=some (some q)->RB[j]?=some (some q')->q.g≠q'.g:= λi j q q' h1 h2 e=>by
    have:=h.1.apart dh JY (w7A i q h1).1 (e▸(w7B j q' h2).1)
    exact fT this.symm
   have LAB:=px.append LA LB apart
   have Jg: ∀(i:Nat) (q:Real),RB[i]?=some (some q)->q.g≠rA.g:= λi q h1 e=>fT (h.1.apart JY dh (w7B i q h1).1 (e▸fA))
   have XL: ∀(i:Nat) (q:Real),(RA++RB)[i]?=some (some q)->q.g≠rA.g/\q.g<w.heap.size/\ ∃k p,(k=l\/k=m)/\π k=some p/\p.Ci q.g:= λi q h1=>by
    by_cases hi:i<RA.length
    ·rw [Ap hi] at h1
     exact ⟨(w7A i q h1).2,Uq l rA RA dh w7A i q h1,l,rA, .inl rfl,dh,(w7A i q h1).1⟩
    ·rw [Ao (by omega)] at h1
     exact ⟨Jg _ q h1,Uq m rB RB JY w7B _ q h1,m,rB, .inr rfl,JY,(w7B _ q h1).1⟩
   by_cases yV:A.length+B.length<=rA.cap-0
   ·have haA:=haA (by omega)
    subst haA
    have We:(rA.o+0)*1+A.length*i.size+uB.length<=JJ.size:=by rw [Tx];omega
    have Xm:(rA.o+0)*1+A.length*i.size+uB.length<=JJ.toList.length:=by simpa using We
    have hr:=Yu (P:=P) (w:=w) (ty:=ty) hu hi rA.g ((rA.o+0)*1) A.length (rA.cap-0) JJ tiA w1A ⟨rB.g,(rB.o+0)*1,none⟩ B.length (rB.cap-0) uB n1' n2' w6B yV We
    have qp:=Mr w rA.g (Dq JJ.toList ((rA.o+0)*1+A.length*i.size) uB).toArray
    obtain ⟨π',g1,g2⟩:=Xl (w1:=w.setRow rA.g (Dq JJ.toList ((rA.o+0)*1+A.length*i.size) uB).toArray) (gv:= λb=>b=rA.g) h oD UH tq (e:=e2) (rows:=A++B) (us:=uA++uB) (Rs:=RA++RB) (g:=rA.g) (o:=rA.o) (cap:=rA.cap)
     (λb hb=>⟨l,rA, .inl rfl,dh,hb▸fA⟩) ⟨qp.os,qp.tape,qp.output,qp.size,λc _ hc=>setRow_other w rA.g c _ hc⟩ ⟨.inr ⟨l,rA, .inl rfl,dh,fA⟩,Dz (Ft w1A) qp.size⟩
     (setRow_heap w rA.g JJ _ tiA _ w1A) (by rw [Gj,Ij _ _ _ Xm,Vr];exact w2A) w3A (by simp;omega) (λj u hu=>by
      rw [Ho,Hl _ _ _ _ Xm,Tx]
      by_cases hj:j<uA.length
      ·rw [Ap hj] at hu
       rw [Ab (by omega),Array.getElem?_toList]
       exact w5A j u hu
      ·rw [Ao (by omega)] at hu
       have:=(Aj.1 hu).1
       rw [Al (by omega),Ab (by omega)]
       rw [show rA.o+j-((rA.o+0)*1+A.length*1)=j-uA.length by omega]
       exact hu)
     LAB (λi q h1=>⟨(XL i q h1).1,(XL i q h1).1,(XL i q h1).2.2⟩)
    have:=g2 (A.length+B.length) (by simp)
    have e0:(rA.o+0)*1=rA.o:=by omega
    simp only [e0,Nat.sub_zero] at hr g1 this⊢
    exact ⟨_,_,π',hr,g1,this⟩
   ·have hold: ∀j u,uA[j]?=some u->w.cell? (adA.add j)=some u:=by
     intro j u hu
     have hj:=(Aj.1 hu).1
     rw [haA (by omega),Addr.add_lit,cellOf w1A,Ex,Ef];exact w5A j u hu
    have hr:=run_append_grow (P:=P) w t ty tq i _ hu hi qq adA A.length (rA.cap-0) uA (by rw [Tx,Ex];exact hlA) hold ⟨rB.g,(rB.o+0)*1,none⟩ B.length (rB.cap-0) uB n1' n2' (by omega) (by simp only [maxLen] at fW;omega) (growslice_fits (by omega) ql)
    have NM:=grownCap_ge w (A.length+B.length) (rA.cap-0) tq
    have UY:=grownCap_le_maxLen w (A.length+B.length) (rA.cap-0) tq fW
    obtain ⟨π',g1,g2⟩:=Xl (w1:=w.drew.alloc (.cells (uA.toArray++uB.toArray++Builtin.zeroCells (Bs (Ty.slice e2) (Bl (Ty.slice e2))).cells (grownCap w (A.length+B.length) (rA.cap-0) tq-(A.length+B.length))) tq)) (gv:= λ_=>False) h oD UH tq (e:=e2) (rows:=A++B) (us:=uA++uB) (Rs:=RA++RB) (g:=w.heap.size) (o:=0) (cap:=grownCap w (A.length+B.length) (rA.cap-0) tq)
     (λ_ hf=>hf.elim) (ny w _) ⟨.inl (Ar _),by simp⟩ (heap_alloc_new w.drew _) (by rw [Array.size_append,Array.size_append,Gj,Gj,Sv,hzs];omega) UY (by simpa using NM) (λj u hu=>by
      have hj:=(Aj.1 hu).1
      rw [Cf,Ry (by simpa using hj)];simpa using hu)
     LAB (λi q h1=>⟨by have:=(XL i q h1).2.1;omega,λh=>h,(XL i q h1).2.2⟩)
    exact ⟨_,_,π',hr,g1,g2 _ (by simp)⟩
theorem jC: ∀τ:Ty,Fh X w π H (zeroCells τ) (Bl τ):=by
 have one: ∀(c:AC) (v:Value),v.oneCell'=true->Gx X w π H c v->Fh X w π H [c] [v]:= λc v h1 h2=>⟨rfl,λi c' hc=>by
  rcases i with _|i
  ·simp at hc;subst hc;exact ⟨v,rfl,h1,h2⟩
  ·simp at hc⟩
 intro τ
 induction τ with
 |unit=>exact ⟨rfl,λi c hc=>by simp [zeroCells] at hc⟩
 |pair a r fa eV=>
  refine ⟨by simp [zeroCells,Bl,fa.1,eV.1],λi c hc=>?_⟩
  simp only [zeroCells] at hc
  simp only [Bl]
  by_cases hi:i<(zeroCells a).length
  ·rw [Ap hi] at hc
   obtain ⟨u,hu,h⟩:=fa.2 i c hc
   exact ⟨u,by rw [Ap (by rw [fa.1];exact hi)];exact hu,h⟩
  ·rw [Ao (by omega)] at hc
   obtain ⟨u,hu,h⟩:=eV.2 _ c hc
   exact ⟨u,by rw [Ao (by rw [fa.1];omega),fa.1];exact hu,h⟩
 |int k=>exact one (.data true _ _) _ rfl (Mj (H:=H) k 0 true)
 |bool=>exact one (.data true _ _) _ rfl (Ld (H:=H) false true)
 |str=>exact one (.data true _ _) _ rfl (kf (H:=H) ByteArray.empty true)
 |slice e=>exact one _ _ rfl rfl
 |oslice e=>exact one _ _ rfl rfl
 |ptr e=>exact one _ _ rfl rfl
 |optr e=>exact one _ _ rfl rfl
 |smap v=>exact one (.data true _ _) _ rfl ⟨[.map none], .inl ⟨rfl,rfl⟩,by simp [Bs,Ty.Am]⟩
 |clo f c=>exact one .undef .nilFunc rfl trivial
theorem si: ∀τ:Ty,Fh X w π H (Pc τ) (Bl τ):=by
 have one: ∀(c:AC) (v:Value),v.oneCell'=true->Gx X w π H c v->Fh X w π H [c] [v]:= λc v h1 h2=>⟨rfl,λi c' hc=>by
  rcases i with _|i
  ·simp at hc;subst hc;exact ⟨v,rfl,h1,h2⟩
  ·simp at hc⟩
 intro τ
 induction τ with
 |unit=>exact ⟨rfl,λi c hc=>by simp [Pc] at hc⟩
 |pair a r fa eV=>
  refine ⟨by simp [Pc,Bl,fa.1,eV.1],λi c hc=>?_⟩
  simp only [Pc] at hc
  simp only [Bl]
  by_cases hi:i<(Pc a).length
  ·rw [Ap hi] at hc
   obtain ⟨u,hu,h⟩:=fa.2 i c hc
   exact ⟨u,by rw [Ap (by rw [fa.1];exact hi)];exact hu,h⟩
  ·rw [Ao (by omega)] at hc
   obtain ⟨u,hu,h⟩:=eV.2 _ c hc
   exact ⟨u,by rw [Ao (by rw [fa.1];omega),fa.1];exact hu,h⟩
 |int k=>exact one (.data false _ _) _ rfl (Mj (H:=H) k 0 false)
 |bool=>exact one (.data false _ _) _ rfl (Ld (H:=H) false false)
 |str=>exact one (.data false _ _) _ rfl (kf (H:=H) ByteArray.empty false)
 |slice e=>exact one (.data false _ _) _ rfl ⟨[.slice none 0 0],⟨none,0,0,rfl,rfl,Ar _, .inl rfl⟩,by simp [Bs,Ty.Am]⟩
 |oslice e=>exact one _ _ rfl rfl
 |ptr e=>exact one _ _ rfl rfl
 |optr e=>exact one _ _ rfl rfl
 |smap v=>exact one (.data false _ _) _ rfl ⟨[.map none], .inl ⟨rfl,rfl⟩,by simp [Bs,Ty.Am]⟩
 |clo f c=>exact one .undef .nilFunc rfl trivial
theorem c7 (hT:Ed P T) {st:St} {a:Act} (h:Bd X π st a w) (t:TypeId) (Py:Array (Nat×Nat))
  (dh: ∀f o u ρ,T.off t f=some (o,u)->T.ty u=some ρ->Py[f]?=some (o,ρ.size)): ∀(parts:List (Nat×Operand)) (cs fE:List AC) (us:List Value),Fh X w π st.heap cs us->
  Lp T st t parts cs=some fE-> ∃Vl:List Value,Instr.fill (λi=>Py[i]?) us.toArray (parts.map λp=>(p.1,a.eval p.2))=some Vl.toArray/\Fh X w π st.heap fE Vl
 | [],cs,fE,us,hr,he=>by
  simp only [Lp,Aa] at he;subst he
  exact ⟨us,rfl,hr⟩
 |(f,x)::r,cs,fE,us,hr,he=>by
  simp only [Lp] at he
  split at he
  ·rename_i o u ho
   split at he
   ·rename_i ρ hρ
    split at he
    ·rename_i c hc
     split at he
     ·rename_i hle
      obtain ⟨vs,hv,hl,YD⟩:=fv (Dm h.2 x) hc
      have e1:=hr.1
      have e2:=YD.1
      obtain ⟨Vl,g1,g2⟩:=c7 hT h t Py dh r _ fE _ (rW hr YD o hle) he
      refine ⟨Vl,?_,g2⟩
      simp only [Bh]
      rw [tY _ us f (a.eval x) _ o ρ.size vs (dh f o u ρ ho hρ) hv hl (by omega)]
      exact g1
     ·cases he
    ·cases he
   ·cases he
  ·cases he
theorem ej (hT:Ed P T) {st:St} {a:Act} (h:Bd X π st a w) (t:TypeId) (parts:Array (Nat×Operand)) (av:AV) (he:Vz T st t parts=some av):
  ∃v',(Instr.build t (parts.map λ(i,x)=>(i,a.eval x))).run P w= .ok v' w/\Bi X w π st.heap av v':=by
 unfold Vz at he
 split at he
 ·cases he
 ·rename_i τ Wg
  split at he
  ·rename_i hs
   cases hb:Lp T st t parts.toList (zeroCells τ) with
   |none=>rw [hb] at he;cases he
   |some fE=>
    rw [hb] at he
    simp only [Ai,Aa] at he;subst he
    obtain ⟨fs,Py,h1,h2,h3⟩:=hT.fill t τ Wg hs
    obtain ⟨i,hi,Tx,oC,qq⟩:=(hT.ty t τ Wg).info
    obtain ⟨Vl,g1,g2⟩:=c7 hT h t Py h3 parts.toList (zeroCells τ) fE (Bl τ) (jC τ) hb
    refine ⟨.agg Vl.toArray,?_,Vl,rfl,g2⟩
    have hz:(zeroValue t).run P w= .ok (Bs τ (Bl τ)) w:=by simp [zeroValue,typeInfo,hi,qq]
    have PZ:(Bs τ (Bl τ)).cells=(Bl τ).toArray:=by simp [Bs,hs,Value.cells]
    have TY:=h2 w
    unfold placesOf at TY
    have e1:(parts.map λ(i,x)=>(i,a.eval x)).toList=parts.toList.map λp=>(p.1,a.eval p.2):=by simp
    simp only [Instr.build,Sem.run_bind,hz,Result.andThen_ok,run_underlying h1,TY,PZ,e1,g1,Sem.run_pure]
  ·cases he
theorem rE {st:St} {v:AV} (h:v.settled=true):settle st v=some (v,st):=by
 cases v with
 | «at»a=>cases a<;>simp [AV.settled,AC.settled] at h<;>simp [settle,AC.settled]
 |agg cs=>
  have hs:cs.all (·.settled)=true:=h
  have:Gy cs.length st cs=some (cs,st):=by
   cases hn:cs.length with
   |zero=>simp [Gy,hs]
   |succ n=>
    have hf:cs.find? (λc=>!c.settled)=none:=List.find?_eq_none.2 λc hc=>by simpa using At.1 hs c hc
    simp [Gy,hf]
  simp [settle,this]
 |Zw fr τ x=>rfl
 |Mb l=>simp [AV.settled] at h
theorem lE {e:Ty} {st:St} : ∀(parts:List (Nat×Operand)) (i:Nat) (fr:Bool) (ys:List e.den),dx e i parts st=some (fr,ys)-> ∃tr,Ks e i parts st=some (fr,tr,ys,st)
 | [],i,fr,ys,h=>by
  simp only [dx,Aa,Ae] at h
  obtain ⟨rfl,rfl⟩:=h
  exact ⟨true,rfl⟩
 |(j,x)::r,i,fr,ys,h=>by
  simp only [dx] at h
  split at h
  ·rename_i hc
   split at h
   ·rename_i f1 y f2 zs h1 h2
    simp only [Aa,Ae] at h
    obtain ⟨rfl,rfl⟩:=h
    obtain ⟨tr,h3⟩:=lE r (i+1) f2 zs h2
    refine ⟨Rw st (st.ev x)&&e.tree&&tr,?_⟩
    simp only [Ks]
    rw [Ab hc.1,rE hc.2]
    simp only [h1,h3]
   ·cases h
  ·cases h
theorem me (hT:Ed P T) {st:St} {a:Act} (h:Bd X π st a w) (t:TypeId) (len:Nat) (parts:Array (Nat×Operand)) (av:AV) (he:aa T st t len parts=some av):
  ∃v' w' π',(Instr.buildSlice t len (parts.map λ(i,x)=>(i,a.eval x))).run P w= .ok v' w'/\Bd X π' st a w'/\Bi X w' π' st.heap av v':=by
 unfold aa at he
 split at he
 ·cases he
 ·rename_i te j9
  split at he
  ·cases he
  ·rename_i e Wg
   split at he
   ·rename_i Jd
    obtain ⟨dh,hlen⟩:=Jd
    cases hp:dx e 0 parts.toList st with
    |none=>rw [hp] at he;cases he
    |some p=>
     obtain ⟨fr,ys⟩:=p
     rw [hp] at he
     simp only [Ai,Aa] at he
     subst he
     obtain ⟨tr,hb⟩:=lE _ _ _ _ hp
     obtain ⟨i,hi,Tx,oC,qq⟩:=(hT.ty te e Wg).info
     have hu:=hT.elem t te j9
     have JV:parts.toList.length=len:=by simpa using dh
     have hz: ∃z:Array Value,(len*e.size=0/\z= #[])\/(¬len*e.size=0/\(zeroValue te).run P w= .ok (Bs e (Bl e)) w/\z=(Bs e (Bl e)).cells):=by
      by_cases h0:len*e.size=0
      ·exact ⟨#[], .inl ⟨h0,rfl⟩⟩
      ·exact ⟨_, .inr ⟨h0,by simp [zeroValue,typeInfo,hi,qq],rfl⟩⟩
     obtain ⟨z,hz⟩:=hz
     obtain ⟨aK,cl,g1,g2,g3,g4,g5,g6⟩:=Vu e parts.toList 0 st π fr tr ys st ((Array.range (len*e.size)).map (z[· %z.size]!)).toList h hb (by simp [JV])
     have Qh:cl.length=len*e.size:=by rw [g2.1,g3,JV]
     have PV:(Dq ((Array.range (len*e.size)).map (z[· %z.size]!)).toList (0*e.size) cl)=cl:=by
      simp [Dq,Qh]
     rw [PV] at g5
     have Tz:(Instr.buildSlice t len (parts.map λ(i,x)=>(i,a.eval x))).run P w= .ok (.slice (some ⟨w.heap.size,0,none⟩) len len) (w.alloc (.cells cl.toArray te)):=by
      have h24: ¬(len*e.size>2^24):=by
       have:len*e.size<=64*64:=Nat.mul_le_mul hlen.1 hlen.2
       omega
      simp only [Instr.buildSlice,Sem.run_bind,run_underlying hu,Result.andThen_ok,(hT.ty te e Wg).size,Al h24]
      have e1:(parts.map λ(i,x)=>(i,a.eval x)).toList=parts.toList.map λp=>(p.1,a.eval p.2):=by simp
      simp only [e1]
      have e2:(((Array.range (len*e.size)).map (z[· %z.size]!)).toList.toArray)=(Array.range (len*e.size)).map (z[· %z.size]!):=Array.toArray_toList
      rw [e2] at g5
      rcases hz with ⟨h0,rfl⟩|⟨h0,hz,rfl⟩
      ·rw [Ab h0]
       simp only [Sem.run_bind,Sem.run_pure,Result.andThen_ok,g5,newRow]
       simp
      ·rw [Al h0]
       simp only [Sem.run_bind,Sem.run_pure,Result.andThen_ok,hz,g5,newRow]
       simp
     have CR:(w.alloc (.cells cl.toArray te)).heap[w.heap.size]?=some (.cells cl.toArray te (0,0)):=heap_alloc_new w _
     have hB:Below w.heap.size w (w.alloc (.cells cl.toArray te)):=(Below.refl _ _).alloc (Ar _) _
     have Js:=Ft CR
     refine ⟨_,_,aK,Tz,g1.quiet hB,⟨[_],?_,rfl⟩⟩
     refine ⟨some ⟨w.heap.size,0,none⟩,len,len,rfl,by rw [g3,JV],Ar _, .inr ⟨w.heap.size,0,rfl,Js,λhA=>?_,λk x hx=>?_⟩⟩
     ·rcases hA with hA|hA|⟨_,hA⟩
      ·exact absurd (g1.1.own hA).1 (Nat.lt_irrefl _)
      ·exact absurd (Dz (g1.1.sc _ hA).1 g1.1.below.size) (Nat.lt_irrefl _)
      ·exact absurd (Dz hA g1.1.below.size) (Nat.lt_irrefl _)
     ·obtain ⟨es,k1,k2,k3⟩:=g2.2 k x hx
      refine ⟨es,k1,λj u hu=>?_,Cells.Gg hB.size (λb hb _=>hB.block b hb) (λ_ _ h=>h) e es x k3⟩
      rw [cellOf CR,Cf]
      simpa using k2 j u hu
   ·cases he
theorem yD {Γ:Env} (hT:Ed P T) (Nt:Kd P Γ) {st:St} {a:Act} (h:Bd X π st a w) (o:Oper) (av:AV) (he:Vo T Γ st o=some av):
  fe P X st a w av ((execOp a.eval o).run P w):=by
 obtain ⟨dst,op,ty,pos,af,gd⟩:=o
 have val: ∀(s:Sem Value) (v:Value) (w':World) (π':Pi),s.run P w= .ok v w'->Bd X π' st a w'->Bi X w' π' st.heap av v->(execOp a.eval ⟨dst,op,ty,pos,af,gd⟩=do pure (.value (<-s)))->
   fe P X st a w av ((execOp a.eval ⟨dst,op,ty,pos,af,gd⟩).run P w):=by
  intro s v w' π' h1 h2 h3 h4
  rw [h4,Sem.run_bind,h1]
  exact ⟨π',h2,h3⟩
 have quiet:Es T Γ st ⟨dst,op,ty,pos,af,gd⟩=some av->fe P X st a w av ((execOp a.eval ⟨dst,op,ty,pos,af,gd⟩).run P w):=by
  intro hq
  have:=fI hT Nt h _ av hq
  generalize (execOp a.eval ⟨dst,op,ty,pos,af,gd⟩).run P w=r at*
  cases r with
  |halt x w'=>exact this
  |ok n w'=>
   cases n<;>simp only [GP] at this<;>simp only [fe]
   ·obtain ⟨rfl,hr⟩:=this
    exact ⟨π,h,hr⟩
   ·obtain ⟨rfl,hc⟩:=this
    exact ⟨rfl,hc.mono λe oc ⟨v,hv,hb,hr⟩=>⟨v,hv,π,h.quiet hb,hr⟩⟩
 unfold Vo at he
 split at he
 ·rename_i t len parts pe
  dsimp only at pe;subst pe
  obtain ⟨v,w',π',h1,h2,h3⟩:=me hT h t len parts av he
  exact val _ v w' π' h1 h2 h3 rfl
 ·rename_i t parts pe
  dsimp only at pe;subst pe
  obtain ⟨v',h1,h2⟩:=ej hT h t parts av he
  exact val _ v' w π h1 h h2 rfl
 ·exact quiet he
theorem bS {a:Act} : ∀(l:List Operand) {π:Pi} {st st1:St},Bd X π st a w->Mo l st=some st1-> ∃π',Bd X π' st1 a w
 | [],π,st,st1,h,he=>by
  simp only [Mo,Aa] at he
  subst he
  exact ⟨π,h⟩
 |x::r,π,st,st1,h,he=>by
  simp only [Mo] at he
  cases hs:settle st (st.ev x) with
  |none=>rw [hs] at he;cases he
  |some p=>
   rw [hs] at he
   obtain ⟨aK,h1,_⟩:=aE h (Dm h.2 x) hs
   exact bS r h1 he
theorem AG {a:Act} {st:St} (h:Bd X π st a w) (p x:Operand): ∃π',Bd X π' (Nm T st p x) a w:=by
 unfold Nm
 split
 ·split
  ·split
   ·rename_i hs;exact bS _ h hs
   ·exact ⟨π,h⟩
  ·exact ⟨π,h⟩
 ·exact ⟨π,h⟩
theorem vR {Γ:Env} (hT:Ed P T) (Nt:Kd P Γ) {st:St} {a:Act} (h:Bd X π st a w) (o:Oper) (av:AV) (st':St) (he:evalOp T Γ st o=some (av,st')):
  fe P X st' a w av ((execOp a.eval o).run P w):=by
 have quiet: ∀ {π:Pi} {st:St},Bd X π st a w->(Es T Γ st o).map (λv=>(v,st))=some (av,st')->fe P X st' a w av ((execOp a.eval o).run P w):=by
  intro π st h he
  cases hq:Es T Γ st o with
  |none=>rw [hq] at he;cases he
  |some v=>
   rw [hq] at he
   simp only [Ai,Aa,Ae] at he
   obtain ⟨rfl,rfl⟩:=he
   have:=fI hT Nt h o v hq
   generalize (execOp a.eval o).run P w=r at*
   cases r with
   |halt x w'=>exact this
   |ok n w'=>
    cases n<;>simp only [GP] at this<;>simp only [fe]
    ·obtain ⟨rfl,hr⟩:=this
     exact ⟨π,h,hr⟩
    ·obtain ⟨rfl,hc⟩:=this
     exact ⟨rfl,hc.mono λe oc ⟨v,hv,hb,hr⟩=>⟨v,hv,π,h.quiet hb,hr⟩⟩
 obtain ⟨dst,op,ty,pos,af,gd⟩:=o
 have val: ∀(s:Sem Value) (v:Value) (w':World) (π':Pi),s.run P w= .ok v w'->Bd X π' st' a w'->Bi X w' π' st'.heap av v->(execOp a.eval ⟨dst,op,ty,pos,af,gd⟩=do pure (.value (<-s)))->
   fe P X st' a w av ((execOp a.eval ⟨dst,op,ty,pos,af,gd⟩).run P w):=by
  intro s v w' π' h1 h2 h3 h4
  rw [h4,Sem.run_bind,h1]
  exact ⟨π',h2,h3⟩
 unfold evalOp at he
 split at he
 all_goals (rename_i pe;dsimp only at pe;try subst pe)
 ·
  rename_i x
  split at he
  ·rename_i d te e hx hd ht
   split at he
   ·rename_i XR
    simp only [Aa,Ae] at he
    obtain ⟨rfl,rfl⟩:=he
    obtain ⟨k1,k2,_⟩:=qS h d XR (T.sv||e.flat) T.AQ te e
    have hxr:=Dm h.2 x
    rw [hx] at hxr
    have hxv:a.eval x= .slice none 0 0:=hxr
    show fe P X _ a w _ (.ok (.value (a.eval x)) w)
    rw [hxv]
    exact ⟨_,k1,k2⟩
   ·cases he
  ·simp only [Aa,Ae] at he
   obtain ⟨rfl,rfl⟩:=he
   exact ⟨π,h,Dm h.2 x⟩
 ·
  rename_i t
  split at he
  ·rename_i d τ hd ht
   obtain ⟨i,hi,Tx,oC,qq⟩:=(hT.ty t τ ht).info
   have hk: ∃π',Bd X π' st' a (w.alloc (.cells (Bl τ).toArray t))/\Bi X (w.alloc (.cells (Bl τ).toArray t)) π' st'.heap av (.pointer (some ⟨w.heap.size,0,none⟩)):=by
    split at he
    ·exact wG h d t (Pc τ) (Bl τ) (si τ) av st' he
    ·exact nQ h d t τ (zeroCells τ) (Bl τ) (jC τ) av st' he
   obtain ⟨π',k1,k2⟩:=hk
   have PZ:(Bs τ (Bl τ)).cells=(Bl τ).toArray:=by
    cases τ<;>simp [Bs,Ty.Am,Value.cells,Bl]
   refine val (Instr.alloc t true (.tuple #[])) _ _ π' ?_ k1 k2 rfl
   simp [Instr.alloc,zeroValue,typeInfo,hi,qq,newVar,newRow,PZ]
  ·cases he
 ·
  rename_i t x
  split at he
  ·rename_i d τ hd ht
   split at he
   ·rename_i cs hc
    obtain ⟨us,hv,hl,hr⟩:=fv (Dm h.2 x) hc
    have hk: ∃π',Bd X π' st' a (w.alloc (.cells us.toArray t))/\Bi X (w.alloc (.cells us.toArray t)) π' st'.heap av (.pointer (some ⟨w.heap.size,0,none⟩)):=by
     split at he
     ·split at he
      ·rename_i Yo
       cases hvc:Er st τ cs with
       |none=>rw [hvc] at he;cases he
       |some p=>
        obtain ⟨fr,y⟩:=p
        rw [hvc] at he
        simp only [Ai,Aa,Ae] at he
        obtain ⟨rfl,rfl⟩:=he
        have Qh:=Vj τ cs us fr y Yo hr hvc
        have hB:Below w.heap.size w (w.alloc (.cells us.toArray t)):=(Below.refl _ _).alloc (Ar _) _
        have CR:(w.alloc (.cells us.toArray t)).heap[w.heap.size]?=some (.cells us.toArray t (0,0)):=heap_alloc_new w _
        refine ⟨π,h.quiet hB,[_], .inr ⟨y,w.heap.size,0,rfl,rfl,Ft CR,λhA=>?_,us,hl,λj u hu=>?_,Cells.Gg hB.size (λb hb _=>hB.block b hb) (λb _ hA=>?_) τ us y Qh⟩,by simp [Bs,Ty.Am]⟩
        ·rcases hA with hA|hA|⟨hf,_⟩
         ·exact absurd (h.1.own hA).1 (Nat.lt_irrefl _)
         ·exact absurd (Dz (h.1.sc _ hA).1 h.1.below.size) (Nat.lt_irrefl _)
         ·cases hf
        ·rw [cellOf CR,Cf];simpa using hu
        ·exact hA.imp id (Or.imp id λ⟨h1,_⟩=>by cases h1)
      ·cases he
     ·exact nQ h d t τ cs us hr av st' he
    obtain ⟨π',k1,k2⟩:=hk
    refine val (Instr.box t (a.eval x)) _ _ π' ?_ k1 k2 rfl
    simp [Instr.box,newVar,newRow,hv]
   ·cases he
  ·cases he
 ·
  rename_i t p x
  obtain ⟨π0,h⟩:=AG (T:=T) h p x
  cases hs:Oo T (Nm T st p x) t ((Nm T st p x).ev p) ((Nm T st p x).ev x) with
  |none=>rw [hs] at he;cases he
  |some s=>
   rw [hs] at he
   simp only [Ai,Aa,Ae] at he
   obtain ⟨rfl,rfl⟩:=he
   obtain ⟨w',π',h1,h2⟩:=mi hT h t _ _ _ _ (Dm h.2 p) (Dm h.2 x) s hs
   have:(execOp a.eval ⟨dst, .store t p x,ty,pos,af,gd⟩).run P w= .ok .skip w':=by
    show (do Instr.storeAt t (a.eval p) (a.eval x);pure Next.skip:Sem Next).run P w=_
    rw [Sem.run_bind,h1];rfl
   rw [this]
   exact ⟨π',h2,trivial⟩
 ·
  rename_i t l c
  split at he
  ·rename_i d hd
   obtain ⟨v,w',π',h1,h2,h3⟩:=ov hT h d t _ _ _ _ (Dm h.2 l) (Dm h.2 c) av st' he
   exact val _ v w' π' h1 h2 h3 rfl
  ·cases he
 ·
  rename_i t
  split at he
  ·rename_i d hd
   obtain ⟨v,w',π',h1,h2,h3⟩:=kY hT h d t av st' he
   exact val _ v w' π' h1 h2 h3 rfl
  ·cases he
 ·
  rename_i t m k x
  cases hs:Ip T st t (st.ev m) (st.ev k) (st.ev x) with
  |none=>rw [hs] at he;cases he
  |some s=>
   rw [hs] at he
   simp only [Ai,Aa,Ae] at he
   obtain ⟨rfl,rfl⟩:=he
   obtain ⟨w',h1,h2⟩:=cf hT h t _ _ _ _ _ _ (Dm h.2 m) (Dm h.2 k) (Dm h.2 x) s hs
   have:(execOp a.eval ⟨dst, .mapUpdate t m k x,ty,pos,af,gd⟩).run P w= .ok .skip w':=by
    show (do Instr.mapUpdate t (a.eval m) (a.eval k) (a.eval x);pure Next.skip:Sem Next).run P w=_
    rw [Sem.run_bind,h1];rfl
   rw [this]
   exact ⟨π,h2,trivial⟩
 ·
  rename_i t m k x
  cases hs:Ip T st t (st.ev m) (st.ev k) (st.ev x) with
  |none=>rw [hs] at he;cases he
  |some s=>
   rw [hs] at he
   simp only [Ai,Aa,Ae] at he
   obtain ⟨rfl,rfl⟩:=he
   obtain ⟨w',h1,h2⟩:=cf hT h t _ _ _ _ _ _ (Dm h.2 m) (Dm h.2 k) (Dm h.2 x) s hs
   have:(execOp a.eval ⟨dst, .insert t m k x,ty,pos,af,gd⟩).run P w= .ok .skip w':=by
    show (do Instr.mapUpdate t (a.eval m) (a.eval k) (a.eval x);pure Next.skip:Sem Next).run P w=_
    rw [Sem.run_bind,h1];rfl
   rw [this]
   exact ⟨π,h2,trivial⟩
 ·
  rename_i t len parts
  split at he
  ·rename_i d hd
   obtain ⟨v,w',π',h1,h2,h3⟩:=eP hT h d t len parts av st' he
   exact val _ v w' π' h1 h2 h3 rfl
  ·cases he
 ·
  rename_i t parts
  cases hb:Vz T st t parts with
  |none=>rw [hb] at he;cases he
  |some v=>
   rw [hb] at he
   simp only [Ai,Aa,Ae] at he
   obtain ⟨rfl,rfl⟩:=he
   obtain ⟨v',h1,h2⟩:=ej hT h t parts v hb
   exact val _ v' w π h1 h h2 rfl
 ·
  rename_i args ts
  split at he
  ·rename_i d x y t t' hd Qd sC
   split at he
   ·rename_i Uf;subst Uf
    have e1:args= #[x,y]:=by apply Od;simpa using Qd
    have e2:ts= #[t,t]:=by apply Od;simpa using sC
    subst e1;subst e2
    obtain ⟨v,w',π',h1,h2,h3⟩:=kV hT h d t ty x y av st' he
    refine val (Builtin.append_ #[t,t] ty #[a.eval x,a.eval y]) v w' π' h1 h2 h3 ?_
    simp [execOp,resolve,invoke,builtin]
   ·cases he
  ·cases he
 ·
  rename_i args ts
  split at he
  ·rename_i x y t t' Qd sC
   have e1:args= #[x,y]:=by apply Od;simpa using Qd
   have e2:ts= #[t,t']:=by apply Od;simpa using sC
   subst e1;subst e2
   obtain ⟨v,w',h1,h2,h3⟩:=q9 hT h t t' ty _ _ _ _ (Dm h.2 x) (Dm h.2 y) av st' he
   refine val (Builtin.copy_ #[t,t'] ty #[a.eval x,a.eval y]) v w' π h1 h2 h3 ?_
   simp [execOp,resolve,invoke,builtin]
  ·cases he
 ·
  rename_i args ts
  split at he
  ·rename_i x t Qd sC
   have e1:args= #[x]:=by apply Od;simpa using Qd
   have e2:ts= #[t]:=by apply Od;simpa using sC
   subst e1;subst e2
   cases hs:evalClear T st t (st.ev x) with
   |none=>rw [hs] at he;cases he
   |some s=>
    rw [hs] at he
    simp only [Ai,Aa,Ae] at he
    obtain ⟨rfl,rfl⟩:=he
    obtain ⟨v,w',h1,h2⟩:=ou hT h t ty _ _ (Dm h.2 x) s hs
    refine val (Builtin.clear_ #[t] ty #[a.eval x]) v w' π h1 h2 trivial ?_
    simp [execOp,resolve,invoke,builtin]
  ·cases he
 ·
  rename_i f args ts
  split at he
  ·rename_i s Aee
   have hs:Dx P f s:=Nt f _ Aee
   have:=oq h hs dst (args.toList.map st.ev) (args.toList.map a.eval) (by simp) (λi c v=>gI h args.toList i c v) av st' he
   rw [gL a.eval f args ts dst ty pos af gd rfl hs.enter]
   refine ⟨rfl,?_⟩
   rwa [show (args.toList.map a.eval).toArray=args.map a.eval from by apply Od;simp] at this
  ·rename_i s Aee
   split at he
   ·cases hs:Mo args.toList st with
    |none=>rw [hs] at he;cases he
    |some st1=>
     rw [hs] at he
     obtain ⟨aK,h1⟩:=bS args.toList h hs
     exact quiet h1 he
   ·exact quiet h he
  ·exact quiet h he
 ·exact quiet h he
end
end Go.Proofs.Ytkkdpknjohcekaa
