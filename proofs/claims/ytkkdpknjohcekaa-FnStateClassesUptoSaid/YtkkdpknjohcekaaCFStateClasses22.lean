/-
  Part 23 of the proof that the statement FnStateClasses holds.
-/
import Derived.Test.YtkkdpknjohcekaaCFStateClasses21
namespace Go.Proofs.Ytkkdpknjohcekaa
open Go.RowKit
section
variable {P:Program} {T:Tab} {X:Ctx} {w w':World} {π:Pi} {H:List (Nat×OB)}
theorem wE {π':Pi} {st':St} {a:Act} (h:Bg X π' st' a w) (k:Kj π π' H st'.heap) {fr:Bool} (τ:Ty) (cs:List Value) (x:τ.den) (hc:Cells w (Cv X.w0.heap.size X.Sc π fr) τ cs x):
  Cells w (Cv X.w0.heap.size X.Sc π' fr) τ cs x:=
 Cells.Fb (Ao _) (λ_ _ _=>rfl) (λb _ hA=>by
  rcases hA with ⟨l,r,hl,hg⟩|h2
  ·have hh:=h.1.heap l
   cases hb:At st'.heap l with
   |none=>have:=hh.emp hb;rw [this] at hl;cases hl
   |some b'=>have:=(k l b' hb).1;rw [this] at hl;exact .inl ⟨l,r,hl,hg⟩
  ·exact .inr h2) τ cs x hc
theorem fK.drop {F:List Nat} {l:Nat} (h:fK X w π F):fK X w (Vs π l none) F:=
 ⟨h.1,λb hb=>⟨(h.2 b hb).1,(h.2 b hb).2.1,λm r hm=>by
  by_cases e:m=l
  ·subst e;rw [Gb] at hm;cases hm
  ·rw [Fy π none e] at hm;exact (h.2 b hb).2.2 m r hm⟩⟩
theorem rH {st:St} {a:Act} (h:Bg X π st a w) (l:Nat) (hl:l<Bl) (f0 t0:Bool) (te:TypeId) (e:Ty):
  Bg X (Vs π l none) (st.new l (.arr f0 t0 e te [])) a w/\Bn X w (Vs π l none) (st.new l (.arr f0 t0 e te [])).heap (.at (.own l 0 0)) (.slice none 0 0)/\
   ∀fr τ cs x,Cells w (Cv X.w0.heap.size X.Sc π fr) τ cs x->Cells w (Cv X.w0.heap.size X.Sc (Vs π l none) fr) τ cs x:=
 ⟨h.replace l hl none _ (Pf w _) (λr hr=>by cases hr) (λ_=>rfl),
  BI (St.Gi st l _) (Ao _) (by rw [Gb];exact ⟨rfl,rfl,rfl⟩),
  fun fr τ cs x hc=>Cells.Fb (Ao _) (λ_ _ _=>rfl) (λb _ hA=>by
  rcases hA with ⟨m,r,hm,hg⟩|h2
  ·by_cases e:m=l
   ·subst e;rw [Gb] at hm;cases hm
   ·rw [Fy π none e] at hm;exact .inl ⟨m,r,hm,hg⟩
  ·exact .inr h2) τ cs x hc⟩
theorem Wp (hT:Dn P T) {st:St} {a:Act} (h:Bg X π st a w) (dst:Nat) (t ty:TypeId) (x y:Operand) (av:AV) (st':St) (he:Nq T st dst t x y=some (av,st')):
  ∃v' w' π',(Builtin.append_ #[t,t] ty #[a.eval x,a.eval y]).run P w= .ok v' w'/\Bg X π' st' a w'/\Bn X w' π' st'.heap av v':=by
 unfold Nq at he
 split at he
 ·cases he
 ·rename_i te jz
  split at he
  ·rename_i e y' st1 Xa hs
   obtain ⟨bl,h1,h2,h3,h4,h5⟩:=bd h (Dm h.2 y) hs
   split at he
   ·cases he
   ·rename_i pH ys hv
    dsimp only at he
    have LD: ∀tr2,tr2=(e.flat||(Sr st (st.ev y)&&e.tree))->tr2=true->e.flat=true\/ ∃F,Cy w F (.slice e) [a.eval y] ys/\fK X w bl F:=by
     intro tr2 e2 lT
     subst e2
     cases hef:e.flat with
     |true=>exact .inl rfl
     |false=>
     right
     simp only [hef,az,Ag] at lT
     obtain ⟨F,us,f1,f2,f3,_⟩:=h5 lT.1 (.slice e) pH ys lT.2 hv
     have TH:us= [a.eval y]:=by
      simp only [Cy] at f1
      obtain ⟨a0,len,cap,rfl,_⟩:=f1
      rw [f2];simp [Bv,Ty.Ap]
     rw [TH] at f1
     exact ⟨F,f1,f3⟩
    have hyc:Cells w (Cv X.w0.heap.size X.Sc bl pH) (.slice e) [a.eval y] ys:=Ct.Rh rfl (Mi _ y' _ pH ys h3 h2 hv)
    have hxr:=Dm h1.2 x
    split at he
    ·rename_i hx
     rw [hx] at hxr
     have hxv:a.eval x= .slice none 0 0:=hxr
     split at he
     ·rename_i nf
      simp only [Aa,Ad] at he
      obtain ⟨rfl,rfl⟩:=he
      obtain ⟨k1,k2,k3⟩:=rH h1 dst nf.2 (T.sS||e.flat) T.z8 te e
      have:=lb (ty:=ty) hT k1 jz Xa nf.2 (fr3:=pH||e.flat) (tr2:=e.flat||(Sr st (st.ev y)&&e.tree)) rfl (St.Gi st1 dst _) k2 (k3 _ _ _ _ hyc) (by rw [Cj];exact nf.1) (λht=>by
       rcases LD _ rfl ht with h0|⟨F,f1,f2⟩
       ·exact .inl h0
       ·exact .inr ⟨F,f1,f2.drop⟩)
      rw [<-hxv] at this
      exact this
     ·cases he
    ·rename_i l off len hx
     rw [hx] at hxr
     split at he
     ·rename_i fr tr e' tid xs hl
      split at he
      ·rename_i Je
       obtain ⟨rfl,rfl⟩:=Je
       split at he
       ·rename_i nf
        simp only [Aa,Ad] at he
        obtain ⟨rfl,rfl⟩:=he
        exact lb (ty:=ty) hT h1 jz Xa nf.2 (fr3:=pH||e'.flat) (tr2:=e'.flat||(Sr st (st.ev y)&&e'.tree)) rfl hl hxr hyc nf.1 (LD _ rfl)
       ·cases he
      ·cases he
     ·cases he
    ·cases he
  ·cases he
theorem lv (hT:Dn P T) {st:St} {a:Act} (h:Bg X π st a w) (dst:Nat) (t ty:TypeId) (x y:Operand) (av:AV) (st':St) (he:Qy T st dst t x y=some (av,st')):
  ∃v' w' π',(Builtin.append_ #[t,t] ty #[a.eval x,a.eval y]).run P w= .ok v' w'/\Bg X π' st' a w'/\Bn X w' π' st'.heap av v':=by
 unfold Qy at he
 split at he
 ·rename_i tx
  split at he
  ·rename_i l i c hg
   split at he
   ·rename_i e te rows kp tid hl _
    split at he
    ·rename_i hc
     simp only [Ag,Ms,Fk] at hc
     have gB:dst≠l:= λe=>by rw [e,Nat.beq_refl] at hc;cases hc.2.2
     unfold St.at at hl
     have hv:Gu X w π st.heap (.sub l i c) (a.tmps.getD tx undef):=by
      have:=h.2.tmps tx
      rw [hg] at this
      exact this
     obtain ⟨bl,h1,h2⟩:=FM (tid:=tid) h hl gB hc.2.1 hc.1 hv
     have h3:=h1.put (some tx) (c:= .at (.own dst 0 (rows.getD i []).length)) h2
     have Ahk:a.put (some tx) (a.tmps.getD tx undef)=a:=by
      have:a.tmps.setIfInBounds tx (a.tmps.getD tx undef)=a.tmps:=by
       apply Array.ext_getElem?
       intro k
       rw [Array.getElem?_setIfInBounds]
       split
       ·rename_i e
        subst e
        split
        ·rename_i Jl
         rw [Array.getElem?_eq_getElem Jl];simp
        ·rename_i Jl
         rw [Array.getElem?_eq_none (by omega)]
       ·rfl
      simp only [Act.put,this]
     rw [Ahk] at h3
     exact Wp hT h3 dst t ty (.tmp tx) y av st' he
    ·cases he
   ·cases he
  ·exact Wp hT h dst t ty _ y av st' he
 ·exact Wp hT h dst t ty x y av st' he
theorem JU {S:Nat->Prop} {e:Ty} (h:l5 e=true): ∃z,Bp e= [z]/\e.Ap=false/\e.size=1/\Cells w S e [z] e.zero/\z.oneCell'=true:=by
 cases e<;>simp [l5] at h
 ·exact ⟨_,rfl,rfl,rfl,rfl,rfl⟩
 ·exact ⟨_,rfl,rfl,rfl,rfl,rfl⟩
 ·exact ⟨_,rfl,rfl,rfl,rfl,rfl⟩
 ·exact ⟨_,rfl,rfl,rfl,⟨none,0,0,rfl,rfl,Ao _, .inl rfl⟩,rfl⟩
 ·exact ⟨_,rfl,rfl,rfl, .inl ⟨rfl,0,rfl⟩,rfl⟩
theorem EL {e:Ty} {z:Value} (ht:e.tree=true) (h:l5 e=true) (hz:Bp e= [z]):Cy w [] e [z] e.zero:=by
 cases e<;>simp [l5] at h<;>simp only [Bp,Ge,ah] at hz<;>subst hz<;>try (simp [Ty.tree] at ht;done)
 ·exact ⟨rfl,rfl⟩
 ·exact ⟨rfl,rfl⟩
 ·exact ⟨rfl,rfl⟩
 ·exact ⟨none,0,0,rfl,rfl,Ao _, .inl ⟨rfl,rfl,rfl,rfl⟩⟩
theorem WZ {S:Nat->Prop} : ∀(e:Ty),eL e=true->(Bp e).length=e.size/\Cells w S e (Bp e) e.zero/\(e.tree=true->Cy w [] e (Bp e) e.zero):=by
 intro e
 induction e with
 |unit=>intro _;exact ⟨rfl,rfl,λ_=>⟨rfl,rfl⟩⟩
 |pair a r fH fF=>
  intro h
  simp only [eL,Ag] at h
  obtain ⟨a1,a2,a3⟩:=fH h.1
  obtain ⟨r1,r2,r3⟩:=fF h.2
  exact ⟨by simp [Bp,Ty.size,a1,r1],⟨_,_,rfl,a2,r2⟩,λht=>by simp only [Ty.tree,Ag] at ht;exact ⟨_,_,[],[],rfl,rfl,a3 ht.1,r3 ht.2⟩⟩
 |_=>
  intro h
  simp only [eL] at h
  obtain ⟨z,z1,z2,z3,z4,_⟩:=JU (w:=w) (S:=S) h
  exact ⟨by rw [z1,z3];rfl,by rw [z1];exact z4,λht=>by rw [z1];exact EL ht h z1⟩
theorem LL {z:Array Value} {s m j q:Nat} (hz:z.size=s) (hj:j<m) (hq:q<s):(madeCells z (m*s))[j*s+q]?=z[q]?:=by
 have h1:j*s+q<m*s:=by
  have:=Eg s (show j+1<=m by omega)
  rw [Nat.succ_mul] at this
  omega
 have h2:(j*s+q)%z.size=q:=by rw [hz,Nat.mul_comm,Nat.mul_add_mod,Nat.mod_eq_of_lt hq]
 have h3:q<z.size:=by omega
 unfold madeCells
 simp [h1,h2,h3]
theorem qD (hT:Dn P T) {st:St} {a:Act} (h:Bg X π st a w) (dst:Nat) (t:TypeId) (l c:AV) (vl vc:Value) (hl:Bn X w π st.heap l vl) (hc:Bn X w π st.heap c vc) (av:AV) (st':St)
  (he:aK T st dst t l c=some (av,st')): ∃v' w' π',(Instr.makeSlice t vl vc).run P w= .ok v' w'/\Bg X π' st' a w'/\Bn X w' π' st'.heap av v':=by
 unfold aK at he
 split at he
 ·rename_i te fr1 k1 n pH k2 m jz
  have:=Pl hl;subst this
  have:=Pl hc;subst this
  split at he
  ·rename_i e Xa
   split at he
   ·rename_i Je
    obtain ⟨h0,hnm,hz,hdp⟩:=Je
    obtain ⟨h1,h2⟩:=Tf.1 h0
    subst hnm
    simp only [Aa,Ad] at he
    obtain ⟨rfl,rfl⟩:=he
    obtain ⟨i,hi,Uo,pe,qV⟩:=(hT.ty te e Xa).info
    obtain ⟨z1,z4,z5⟩:=WZ (w:=w) (S:=Cv X.w0.heap.size X.Sc π (T.sS||e.flat)) e hz
    have TK:(Bv e (Bp e)).cells=(Bp e).toArray:=Ko e _ _ z4
    have hu:=hT.elem t te jz
    have hn:n.toNat<=4294967296:=by unfold Dd at h2;omega
    have hr:=run_make (P:=P) (w:=w) t te i _ hu hi qV k1 k2 n n h1 (cy _) (by
     have:(i.bytes:Int)*n<=256*4294967296:=by
      obtain ⟨nn,rfl⟩:=Int.eq_ofNat_of_zero_le h1
      have h7:i.bytes*nn<=256*4294967296:=Nat.mul_le_mul pe (by simpa using hn)
      have h8:((i.bytes*nn:Nat):Int)<=256*4294967296:=by omega
      rwa [Int.natCast_mul] at h8
     omega) (by unfold Dd at h2;omega)
    rw [TK,Uo] at hr
    have Zl:((Bp e).toArray).size=e.size:=by simpa using z1
    have cell: ∀j,j<n.toNat-> ∀q u,(Bp e)[q]?=some u->(madeCells (Bp e).toArray (n.toNat*e.size)).toList[j*e.size+q]?=some u:=by
     intro j hj q u hu
     have hq:q<e.size:=by rw [<-z1];exact (Am.1 hu).1
     have:=LL Zl hj hq
     rw [Array.getElem?_toList,this]
     simpa using hu
    have:=e8 (w1:=w.alloc (.cells (madeCells (Bp e).toArray (n.toNat*e.size)) te)) h dst hdp (T.sS||e.flat) (T.z8&&e.tree) e te (List.replicate n.toNat e.zero) (madeCells (Bp e).toArray (n.toNat*e.size)).toList (madeCells (Bp e).toArray (n.toNat*e.size)) n.toNat []
     (.inr rfl) (by rw [size_madeCells]) (by unfold maxLen;omega) (by simp)
     (λk u hu=>by
      rw [Array.getElem?_toList] at hu;exact hu) ⟨by simp [size_madeCells],λj x hx=>by
       have hj:=(Am.1 hx).1
       simp only [Eh] at hj
       refine ⟨Bp e,z1,λq u hu=>cell j hj q u hu,?_⟩
       rw [Fc (Cf hx)];exact z4⟩ (by simp) (λlT=>⟨Lb,List.replicate n.toNat [],by simp,by simp,λj x F hx hF=>by
      have hj:=(Am.1 hx).1
      simp only [Eh] at hj
      refine ⟨Bp e,z1,λq u hu=>cell j hj q u hu,?_⟩
      have e1:=Fc (Cf hx)
      have e2:=Fc (Cf hF)
      rw [e1,e2]
      exact z5 (by simp only [Ag] at lT;exact lT.2)⟩)
    exact ⟨_,_,_,hr,this.1,this.2 _ (by simp)⟩
   ·cases he
  ·cases he
 ·cases he
theorem gr (off:Nat): ∀(us:List Value) (k:Nat) (cells:List Value),off+k+us.length<=cells.length->
  (us.zipIdx k).foldl (λcs p=>cs.setIfInBounds (off+p.2) p.1) cells.toArray=(Dp cells (off+k) us).toArray
 | [],k,cells,h=>by simp [Dp]
 |u::us,k,cells,h=>by
  simp only [List.zipIdx_cons,Nm]
  rw [show cells.toArray.setIfInBounds (off+k) u=(cells.set (off+k) u).toArray by simp]
  rw [gr off us (k+1) (cells.set (off+k) u) (by simp at h⊢;omega)]
  congr 1
  apply List.ext_getElem?
  intro j
  have hl:off+k+(u::us).length<=cells.length:=h
  have z7:off+(k+1)+us.length<=(cells.set (off+k) u).length:=by simp at h⊢;omega
  rw [Hj _ _ _ _ hl,Hj _ _ _ _ z7]
  simp only [Aw]
  by_cases h1:j<off+k
  ·rw [Ac (by omega),Ac h1,List.getElem?_set_ne (by omega)]
  ·rw [Ai h1]
   by_cases h2:j=off+k
   ·subst h2
    rw [Ac (by omega),Ac (by omega),Zh (by simp at h;omega)]
    simp
   ·rw [Ai (by omega)]
    by_cases h3:j<off+k+(us.length+1)
    ·rw [Ac (by omega),Ac h3]
     rw [show j-(off+k)=(j-(off+(k+1)))+1 by omega,Lz]
    ·rw [Ai (by omega),Ai h3,List.getElem?_set_ne (by omega)]
theorem uI (place:Nat->Option (Nat×Nat)) (cells:List Value) (i:Nat) (v:Value) (rest:List (Nat×Value)) (off size:Nat) (us:List Value) (hp:place i=some (off,size)) (hv:v.cells=us.toArray)
  (hl:us.length=size) (hle:off+size<=cells.length):Instr.fill place cells.toArray ((i,v)::rest)=Instr.fill place (Dp cells off us).toArray rest:=by
 simp only [Instr.fill,hp,hv,Gf,hl]
 rw [Ai (by simp;omega)]
 congr 1
 have:=gr off us 0 cells (by omega)
 simp only [Dx] at this
 rw [<-this]
 simp
theorem Wl (e:Ty) {a:Act} : ∀(parts:List (Nat×Operand)) (i:Nat) (st:St) (π:Pi) (fr tr:Bool) (ys:List e.den) (st':St) (cells:List Value),Bg X π st a w->Kv e i parts st=some (fr,tr,ys,st')->
  (i+parts.length)*e.size<=cells.length->
  ∃π' cl,Bg X π' st' a w/\Flat w (Cv X.w0.heap.size X.Sc π' fr) e cl ys/\ys.length=parts.length/\Kj π π' st.heap st'.heap/\
   Instr.fill (λi=>some (i*e.size,e.size)) cells.toArray (parts.map λp=>(p.1,a.eval p.2))=some (Dp cells (i*e.size) cl).toArray/\
   (tr=true-> ∃Fs,Sd w e cl ys Fs/\fK X w π' (List.flatten Fs)/\ ∀b∈List.flatten Fs,∃l r,π l=some r/\r.cl b)
 | [],i,st,π,fr,tr,ys,st',cells,h,he,hle=>by
  simp only [Kv,Aa,Ad] at he
  obtain ⟨rfl,rfl,rfl,rfl⟩:=he
  exact ⟨π,[],h,Flat.nil,rfl,Kj.refl _ _,by simp [Instr.fill,Dp],λ_=>⟨[],⟨rfl,λi z F hz=>by simp at hz⟩,⟨Lb,by simp⟩,by simp⟩⟩
 |(j,x)::r,i,st,π,fr,tr,ys,st',cells,h,he,hle=>by
  simp only [Kv] at he
  split at he
  ·rename_i dO;subst dO
   split at he
   ·rename_i v' st1 hs
    obtain ⟨bl,h1,h2,h3,h4,h5⟩:=bd h (Dm h.2 x) hs
    split at he
    ·rename_i fr1 y hv
     split at he
     ·rename_i pH tr2 zs st2 hr
      simp only [Aa,Ad] at he
      obtain ⟨rfl,rfl,rfl,rfl⟩:=he
      obtain ⟨es,fz,FY⟩:=Mi e v' _ fr1 y h3 h2 hv
      have jy:=Cells.len e es y fz
      have Amc:i*e.size+e.size<=cells.length:=by
       have:(i+1)*e.size<=(i+((i,x)::r).length)*e.size:=Eg _ (by simp)
       rw [Dc,Us] at this
       omega
      have KU:i*e.size+es.length<=cells.length:=by omega
      obtain ⟨QQ,cl,g1,g2,g3,g4,g5,g6⟩:=Wl e r (i+1) st1 bl pH tr2 zs st2 (Dp cells (i*e.size) es) h1 hr (by
       rw [Ii _ _ _ KU]
       rw [show i+1+r.length=i+((i,x)::r).length by simp;omega];exact hle)
      have f1:Flat w (Cv X.w0.heap.size X.Sc QQ fr1) e es [y]:=⟨by simp [jy],λq z hz=>by
       rcases q with _|q
       ·simp at hz;subst hz
        exact ⟨es,jy,λj u hu=>by simpa using hu,wE g1 g4 e es y fz⟩
       ·simp at hz⟩
      refine ⟨QQ,es++cl,g1,?_,by simp [g3],h4.trans g4,?_,λht=>?_⟩
      ·have:=(f1.cells λes z hc=>hc.and_left (f2:=pH)).append (g2.cells λes z hc=>hc.and_right (f1:=fr1))
       simpa using this
      ·simp only [Bk]
       rw [uI _ cells i (a.eval x) _ (i*e.size) e.size es rfl (by rw [FY];exact Ko e es y fz) jy Amc,g5]
       congr 2
       have Py:cl.length=r.length*e.size:=by rw [g2.1,g3]
       have Ww:(i+1)*e.size+cl.length<=(Dp cells (i*e.size) es).length:=by
        rw [Ii _ _ _ KU,Py,<-Dc]
        rw [show i+1+r.length=i+((i,x)::r).length by simp;omega];exact hle
       have Agl:i*e.size+(es++cl).length<=cells.length:=by
        rw [Ii _ _ _ KU] at Ww
        rw [Au,jy]
        rw [Dc,Us] at Ww
        omega
       have e1:(i+1)*e.size=i*e.size+es.length:=by rw [Dc,Us,jy]
       apply List.ext_getElem?
       intro k
       rw [Hj _ _ _ _ Ww,Hj _ _ _ _ Agl,Hj _ _ _ _ KU,e1,Au]
       by_cases k1:k<i*e.size
       ·rw [Ac (by omega),Ac k1,Ac k1]
       ·rw [Ai k1,Ai k1]
        by_cases k2:k<i*e.size+es.length
        ·rw [Ac k2,Ac k2,Ac (by omega),Ar (by omega)]
        ·rw [Ai k2,Ai k2]
         by_cases k3:k<i*e.size+es.length+cl.length
         ·rw [Ac k3,Ac (by omega),Aq (by omega)]
          congr 1;omega
         ·rw [Ai k3,Ai (by omega)]
      ·simp only [Ag] at ht
       obtain ⟨⟨ht1,ht2⟩,ht3⟩:=ht
       obtain ⟨F,us,t1,t2,t3,t7⟩:=h5 ht1 e fr1 y ht2 hv
       obtain ⟨Fs,t4,t5,t6⟩:=g6 ht3
       have TH:us=es:=by
        have c1:=Cy.cells (S:= λ_=>False) F e us y t1 (λ_ _ h=>h)
        have a1:=Ko e us y c1
        have a2:=Ko e es y fz
        rw [<-t2,FY,a2] at a1
        simpa using a1.symm
       subst TH
       refine ⟨F::Fs,?_,?_,λb hb=>?_⟩
       ·have k1:Sd w e us [y] [F]:=⟨rfl,λq z G hz hG=>by
         rcases q with _|q
         ·simp at hz hG;subst hz;subst hG
          exact ⟨us,jy,λj u hu=>by simpa using hu,t1⟩
         ·simp at hz⟩
        exact Sd.append (by simp [jy]) k1 t4
       ·rw [Ks]
        refine ⟨Dg.2 ⟨t3.1,t5.1,λb hb b' sT e=>?_⟩,λb hb=>?_⟩
        ·subst e
         obtain ⟨l,r,q1,q2⟩:=t6 b sT
         exact (t3.2 b hb).2.2 l r q1 q2
        ·rcases Az.1 hb with hb|hb
         ·have:=t3.2 b hb
          refine ⟨this.1,this.2.1,λl r q1 q2=>?_⟩
          cases hh:At st2.heap l with
          |none=>rw [(g1.1.heap l).emp hh] at q1;cases q1
          |some b'=>exact this.2.2 l r ((g4 l b' hh).1▸q1) q2
         ·exact t5.2 b hb
       ·rw [Ks] at hb
        rcases Az.1 hb with hb|hb
        ·exact t7 b hb
        ·obtain ⟨l,r,q1,q2⟩:=t6 b hb
         cases hh:At st1.heap l with
         |none=>rw [(h1.1.heap l).emp hh] at q1;cases q1
         |some b'=>exact ⟨l,r,(h4 l b' hh).1▸q1,q2⟩
     ·cases he
    ·cases he
   ·cases he
  ·cases he
theorem gk (hT:Dn P T) {st:St} {a:Act} (h:Bg X π st a w) (dst:Nat) (t:TypeId) (len:Nat) (parts:Array (Nat×Operand)) (av:AV) (st':St)
  (he:Mc T st dst t len parts=some (av,st')):
  ∃v' w' π',(Instr.buildSlice t len (parts.map λ(i,x)=>(i,a.eval x))).run P w= .ok v' w'/\Bg X π' st' a w'/\Bn X w' π' st'.heap av v':=by
 unfold Mc at he
 split at he
 ·cases he
 ·rename_i te jz
  split at he
  ·cases he
  ·rename_i e Xa
   split at he
   ·rename_i Je
    obtain ⟨fC,hlen⟩:=Je
    split at he
    ·rename_i fr tr ys st1 hb
     simp only [Aa,Ad] at he
     obtain ⟨rfl,rfl⟩:=he
     obtain ⟨i,hi,Uo,pe,qV⟩:=(hT.ty te e Xa).info
     have hu:=hT.elem t te jz
     have ND:parts.toList.length=len:=by simpa using fC
     have hz: ∃z:Array Value,(len*e.size=0/\z= #[])\/(¬len*e.size=0/\(zeroValue te).run P w= .ok (Bv e (Bp e)) w/\z=(Bv e (Bp e)).cells):=by
      by_cases h0:len*e.size=0
      ·exact ⟨#[], .inl ⟨h0,rfl⟩⟩
      ·exact ⟨_, .inr ⟨h0,by simp [zeroValue,typeInfo,hi,qV],rfl⟩⟩
     obtain ⟨z,hz⟩:=hz
     obtain ⟨bl,cl,g1,g2,g3,g4,g5,g6⟩:=Wl e parts.toList 0 st π fr tr ys st1 ((Array.range (len*e.size)).map (z[· %z.size]!)).toList h hb (by simp [ND])
     have Py:cl.length=len*e.size:=by rw [g2.1,g3,ND]
     have NI:(Dp ((Array.range (len*e.size)).map (z[· %z.size]!)).toList (0*e.size) cl)=cl:=by
      simp [Dp,Py]
     rw [NI] at g5
     have Rd:(Instr.buildSlice t len (parts.map λ(i,x)=>(i,a.eval x))).run P w= .ok (.slice (some ⟨w.heap.size,0,none⟩) len len) (w.alloc (.cells cl.toArray te)):=by
      have h24: ¬(len*e.size>2^24):=by
       have:len*e.size<=64*64:=Nat.mul_le_mul hlen.1 hlen.2.1
       omega
      simp only [Instr.buildSlice,Sem.run_bind,run_underlying hu,Result.andThen_ok,(hT.ty te e Xa).size,Ai h24]
      have e1:(parts.map λ(i,x)=>(i,a.eval x)).toList=parts.toList.map λp=>(p.1,a.eval p.2):=by simp
      simp only [e1]
      have e2:(((Array.range (len*e.size)).map (z[· %z.size]!)).toList.toArray)=(Array.range (len*e.size)).map (z[· %z.size]!):=Array.toArray_toList
      rw [e2] at g5
      rcases hz with ⟨h0,rfl⟩|⟨h0,hz,rfl⟩
      ·rw [Ac h0]
       simp only [Sem.run_bind,Sem.run_pure,Result.andThen_ok,g5,newRow]
       simp
      ·rw [Ai h0]
       simp only [Sem.run_bind,Sem.run_pure,Result.andThen_ok,hz,g5,newRow]
       simp
     have hN: ∃N:List Nat,(∀b∈N,(X.w0.heap.size<=b\/X.gv b)/\b<w.heap.size/\ ∀m r0,m≠dst->bl m=some r0-> ¬r0.cl b)/\(tr=true->N.Nodup/\ ∃Fs,List.flatten Fs=N/\Sd w e cl ys Fs):=by
      cases tr with
      |false=>exact ⟨[],by simp,λh=>by cases h⟩
      |true=>
       obtain ⟨Fs,t1,t2,_⟩:=g6 rfl
       exact ⟨_,λb hb=>⟨(t2.2 b hb).1,(t2.2 b hb).2.1,λm r0 _=>(t2.2 b hb).2.2 m r0⟩,λ_=>⟨t2.1,Fs,rfl,t1⟩⟩
     obtain ⟨N,q1,q2⟩:=hN
     have:=e8 (w1:=w.alloc (.cells cl.toArray te)) g1 dst hlen.2.2 ((T.sS||e.flat)&&fr) (T.z8&&tr) e te ys cl cl.toArray len N (.inr rfl) (by simpa using Py) (by simp only [maxLen];omega) (by omega) (λk u hu=>by simpa using hu) (g2.cells λes z hc=>hc.and_right) q1 (λht=>q2 (by simp only [Ag] at ht;exact ht.2))
     exact ⟨_,_,_,Rd,this.1,this.2 _ (by omega)⟩
    ·cases he
   ·cases he
theorem kz {t te:TypeId} {e:Ty} (h:cO T t=some (te,e)):T.elem t=some te/\T.ty te=some (.slice e):=by
 unfold cO at h
 cases he:T.elem t with
 |none=>rw [he] at h;cases h
 |some Qr=>
  rw [he] at h
  simp only [Ez] at h
  cases hg:T.KK Qr with
  |none=>rw [hg] at h;cases h
  |some e'=>
   rw [hg] at h
   simp only [Ak,Aa,Ad] at h
   obtain ⟨rfl,rfl⟩:=h
   refine ⟨rfl,?_⟩
   unfold Tab.KK at hg
   split at hg
   ·split at hg
    ·rename_i Xa;simp only [Aa] at hg;subst hg;exact Xa
    ·cases hg
   ·cases hg
theorem lf (w:World) (o:Obj):Kh w.heap.size (λ_=>False) w (w.alloc o):=⟨rfl,rfl,rfl,by simp,λk hk _=>Below.heap_alloc w _ k hk⟩
theorem o3 (w:World) (o:Obj):Kh w.heap.size (λ_=>False) w (w.drew.alloc o):=⟨rfl,rfl,rfl,by simp,λk hk _=>Below.heap_alloc w.drew _ k hk⟩
theorem pb (hT:Dn P T) {st:St} {a:Act} (h:Bg X π st a w) (dst:Nat) (t:TypeId) (l c:AV) (vl vc:Value) (hl:Bn X w π st.heap l vl) (hc:Bn X w π st.heap c vc) (av:AV) (st':St)
  (he:Wt T st dst t l c=some (av,st')): ∃v' w' π',(Instr.makeSlice t vl vc).run P w= .ok v' w'/\Bg X π' st' a w'/\Bn X w' π' st'.heap av v':=by
 unfold Wt at he
 split at he
 ·exact qD hT h dst t l c vl vc hl hc av st' he
 ·rename_i te e hg
  obtain ⟨jz,Xa⟩:=kz hg
  split at he
  ·rename_i fr1 k1 n pH k2 m
   have:=Pl hl;subst this
   have:=Pl hc;subst this
   split at he
   ·rename_i Je
    obtain ⟨h0,hnm,hdp⟩:=Je
    obtain ⟨h1,h2⟩:=Tf.1 h0
    subst hnm
    simp only [Aa,Ad] at he
    obtain ⟨rfl,rfl⟩:=he
    obtain ⟨i,hi,Uo,pe,qV⟩:=(hT.ty te _ Xa).info
    have hu:=hT.elem t te jz
    have hn:n.toNat<=4294967296:=by unfold Dd at h2;omega
    have hr:=run_make (P:=P) (w:=w) t te i _ hu hi qV k1 k2 n n h1 (cy _) (by
     have:(i.bytes:Int)*n<=256*4294967296:=by
      obtain ⟨nn,rfl⟩:=Int.eq_ofNat_of_zero_le h1
      have h7:i.bytes*nn<=256*4294967296:=Nat.mul_le_mul pe (by simpa using hn)
      have h8:((i.bytes*nn:Nat):Int)<=256*4294967296:=by omega
      rwa [Int.natCast_mul] at h8
     omega) (by unfold Dd at h2;omega)
    have TK:(Bv (Ty.slice e) (Bp (Ty.slice e))).cells= #[.slice none 0 0]:=by simp [Bv,Ty.Ap,Bp,Value.cells]
    have jb:(Ty.slice e).size=1:=rfl
    rw [TK,Uo,jb] at hr
    have cell: ∀j,j<n.toNat->(madeCells #[Value.slice none 0 0] (n.toNat*1))[0+j]?=some (.slice none 0 0):=by
     intro j hj
     have:=LL (z:= #[Value.slice none 0 0]) (s:=1) (m:=n.toNat) (j:=j) (q:=0) rfl hj (by omega)
     simp only [Ew,Dx] at this
     simp only [Ew,Cj]
     rw [this];rfl
    obtain ⟨π',g1,g2⟩:=Yk (w1:=w.alloc (.cells (madeCells #[Value.slice none 0 0] (n.toNat*1)) te)) (gv:= λ_=>False) h hdp hdp te (e:=e) (rows:=List.replicate n.toNat []) (us:=List.replicate n.toNat (.slice none 0 0)) (Rs:=List.replicate n.toNat none) (g:=w.heap.size) (o:=0) (cap:=n.toNat)
     (λ_ hf=>hf.elim) (lf w _) ⟨.inl (Ao _),by simp⟩ (heap_alloc_new w _) (by rw [size_madeCells];omega) (by unfold maxLen;omega) (by simp) (λj u hu=>by
      have hj:=(Am.1 hu).1
      simp only [Eh] at hj
      rw [cell j hj,Fc (Cf hu)])
     ⟨by simp,by simp,λi j q q' h1=>(by have:=Fc (Cf h1);cases this),λi x hx=>by
      have hj:=(Am.1 hx).1
      simp only [Eh] at hj
      rw [Fc (Cf hx)]
      exact ⟨.slice none 0 0,none,by rw [Xt,Ac hj],by rw [Xt,Ac hj],⟨rfl,rfl,rfl⟩,rfl⟩⟩
     (λi q h1=>by have:=Fc (Cf h1);cases this)
    exact ⟨_,_,π',hr,g1,g2 _ (by simp)⟩
   ·cases he
  ·cases he
theorem fw (hT:Dn P T) {st:St} {a:Act} (h:Bg X π st a w) (dst:Nat) (t:TypeId) (len:Nat) (parts:Array (Nat×Operand)) (av:AV) (st':St)
  (he:Io T st dst t len parts=some (av,st')):
  ∃v' w' π',(Instr.buildSlice t len (parts.map λ(i,x)=>(i,a.eval x))).run P w= .ok v' w'/\Bg X π' st' a w'/\Bn X w' π' st'.heap av v':=by
 unfold Io at he
 split at he
 ·exact gk hT h dst t len parts av st' he
 ·rename_i te e hg
  obtain ⟨jz,Xa⟩:=kz hg
  split at he
  rotate_left
  ·cases he
  rename_i x Ada
  split at he
  rotate_left
  ·cases he
  rename_i m off ln hx
  split at he
  rotate_left
  ·cases he
  rename_i fr tr e' tid xs hm
  split at he
  rotate_left
  ·cases he
  rename_i hc
  obtain ⟨rfl,hc,rfl,rfl⟩:=hc
  simp only [Ag,Ms] at hc
  obtain ⟨hlen,hdp,XI⟩:=hc
  have hlen:len=1:=Ja hlen
  subst hlen
  simp only [Aa,Ad] at he
  obtain ⟨rfl,rfl⟩:=he
  have hu:=hT.elem t te jz
  unfold St.at at hm
  have hrx:=Dm h.2 x
  rw [hx] at hrx
  obtain ⟨_,sV⟩:=Oa (X:=X) (w:=w) hrx hm
  obtain ⟨ax,nx,cx,YX⟩:=a7 sV
  have hp:parts= #[(0,x)]:=by apply Oq;simpa using Ada
  subst hp
  obtain ⟨i,hi,Uo,pe,qV⟩:=(hT.ty te _ Xa).info
  have Rd:(Instr.buildSlice t 1 (#[(0,x)].map λ(i,x)=>(i,a.eval x))).run P w= .ok (.slice (some ⟨w.heap.size,0,none⟩) 1 1) (w.alloc (.cells #[a.eval x] te)):=by
   have jb:(Ty.slice e').size=1:=rfl
   have hz:(zeroValue te).run P w= .ok (.slice none 0 0) w:=by simp [zeroValue,typeInfo,hi,qV,Bv,Ty.Ap,Bp]
   have XI:(#[(0,x)].map λ(i,x)=>(i,a.eval x))= #[(0, .slice ax nx cx)]:=by simp [YX]
   rw [XI,YX]
   simp only [Instr.buildSlice,Sem.run_bind,run_underlying hu,Result.andThen_ok,(hT.ty te _ Xa).size,jb]
   simp [Value.cells,Instr.fill,newRow,hz]
   congr 2
   apply Array.ext
   ·simp
   ·intro i h1 h2
    have h0:i=0:=by simpa using h2
    subst h0
    simp
  have EM:=(h.1.heap m).Qw hm
  simp only [Cd,Jk] at EM
  have hfa:Se w (Cv X.w0.heap.size X.Sc π false) (π m) e' xs:=by
   cases hR:π m with
   |none=>rw [hR] at EM;exact EM
   |some q=>
    rw [hR] at EM
    obtain ⟨⟨f0,f0',_⟩,cu,XM,f2,f3,f4,f5,f6,_⟩:=EM
    exact ⟨⟨f0,f0'⟩,cu,XM,f2,f3,f4,f5,λp y hy=>by
     obtain ⟨es,g1,g2,g3⟩:=f6 p y hy
     exact ⟨es,g1,g2,Cells.Fb (Ao _) (λ_ _ _=>rfl) (λb _ hA=>hA.imp id (Or.imp id λ⟨h1,_⟩=>by cases h1)) e' es y g3⟩⟩
  obtain ⟨π',g1,g2⟩:=Yk (w1:=w.alloc (.cells #[a.eval x] te)) (gv:= λ_=>False) h hdp XI te (e:=e') (rows:= [xs]) (us:= [a.eval x]) (Rs:= [π m]) (g:=w.heap.size) (o:=0) (cap:=1)
   (λ_ hf=>hf.elim) (lf w _) ⟨.inl (Ao _),by simp⟩ (heap_alloc_new w _) rfl (by unfold maxLen;omega) (by simp) (λj u hu=>by
    rcases j with _|j
    ·simpa using hu
    ·simp at hu)
   ⟨rfl,rfl,λi j q q' h1 h2 _=>by
    rcases i with _|i
    ·rcases j with _|j
     ·rfl
     ·simp at h2
    ·simp at h1,λi y hy=>by
    rcases i with _|i
    ·simp only [Bs,Aa] at hy
     subst hy
     exact ⟨_,_,rfl,rfl,sV,hfa⟩
    ·simp at hy⟩
   (λi q h1=>by
    rcases i with _|i
    ·simp only [Bs,Aa] at h1
     have hf:=h.1.Cq h1
     have:=(h.1.place m q _ h1 (h.1.sub m q _ h1 hf)).2
     exact ⟨by omega,λh=>h,m,q, .inr rfl,h1,hf⟩
    ·simp at h1)
  exact ⟨_,_,π',Rd,g1,g2 1 rfl⟩
theorem lx (hT:Dn P T) {st:St} {a:Act} (h:Bg X π st a w) (dst:Nat) (t ty:TypeId) (x y:Operand) (av:AV) (st':St) (he:Qz T st dst t x y=some (av,st')):
  ∃v' w' π',(Builtin.append_ #[t,t] ty #[a.eval x,a.eval y]).run P w= .ok v' w'/\Bg X π' st' a w'/\Bn X w' π' st'.heap av v':=by
 unfold Qz at he
 split at he
 ·exact lv hT h dst t ty x y av st' he
 ·rename_i te e hg
  obtain ⟨jz,Xa⟩:=kz hg
  split at he
  rotate_left
  ·cases he
  rename_i l off len m UJ rj hx hy
  split at he
  rotate_left
  ·cases he
  rename_i e1 te1 A kp1 e2 uc B kp2 hl hm
  split at he
  rotate_left
  ·cases he
  rename_i hc
  obtain ⟨⟨rfl,rfl⟩,hc,⟨rfl,rfl⟩,⟨rfl,rfl⟩,hB,nf⟩:=hc
  simp only [Ag,Ms,Mu,Fk] at hc
  obtain ⟨⟨rfl,rfl⟩,qZ,XI,gB⟩:=hc
  have gB:m≠l:= λe=>by rw [e,Nat.beq_refl] at gB;cases gB
  simp only [Aa,Ad] at he
  obtain ⟨rfl,rfl⟩:=he
  have hu:=hT.elem t uc jz
  obtain ⟨i,hi,Uo,pe,qV⟩:=(hT.ty uc _ Xa).info
  have Uo:i.size=1:=Uo
  unfold St.at at hl hm
  have hrx:=Dm h.2 x
  have hry:=Dm h.2 y
  rw [hx] at hrx;rw [hy] at hry
  obtain ⟨b1,s1,n1,q1,q2,_,hox⟩:=hrx
  rw [hl] at q1;cases q1
  simp only [OB.row,Aa,Ad] at q2
  obtain ⟨rfl,rfl⟩:=q2
  obtain ⟨b2,s2,n2,q1,q2,_,hoy⟩:=hry
  rw [hm] at q1;cases q1
  simp only [OB.row,Aa,Ad] at q2
  obtain ⟨rfl,rfl⟩:=q2
  have hA:=((h.1.heap l).Qw hl).1
  have hBb:=((h.1.heap m).Qw hm).1
  cases sW:π m with
  |none=>
   rw [sW] at hBb
   have hBb:B= []:=hBb
   subst hBb;simp at hB
  |some rB=>
  rw [sW] at hBb hoy
  obtain ⟨fB,Apy,tiB,uB,RB,w1B,w2B,w3B,w4B,w5B,w6B,w7B,LB⟩:=uL hBb
  obtain ⟨adB,hvy,hcB,haB⟩:=hoy
  have haB:=haB (by omega)
  subst haB
  have hlB:=LB.1
  have n1':uB.length=B.length*i.size:=by rw [Uo,Ew];exact hlB
  have n2': ∀j u,uB[j]?=some u->w.cell? ((⟨rB.g,(rB.o+0)*1,none⟩:Addr).add j)=some u:= λj u hu=>by
   rw [Addr.add_lit,cellOf w1B,Ew,Dx];exact w5B j u hu
  have qQ:(A.length+B.length)*i.bytes<=140737488355328:=by
   have:(A.length+B.length)*i.bytes<=4294967296*256:=Nat.mul_le_mul nf pe
   omega
  have gD:A.length+B.length<=maxLen:=by unfold Dd at nf;simp only [maxLen];omega
  have hzs:(Bv (Ty.slice e2) (Bp (Ty.slice e2))).cells.size=1:=by simp [Bv,Ty.Ap,Bp,Value.cells]
  have Vg: ∀(k:Nat) (q:Real) (Rs:List (Option Real)),π k=some q->(∀(i:Nat) (p:Real),Rs[i]?=some (some p)->q.Cq p.g/\p.g≠q.g)-> ∀(i:Nat) (p:Real),Rs[i]?=some (some p)->p.g<w.heap.size:= λk q Rs h1 h2 i p h3=>
   (h.1.place k q _ h1 (h.1.sub k q _ h1 (h2 i p h3).1)).2
  cases fC:π l with
  |none=>
   rw [fC] at hA hox
   have hA:A= []:=hA
   subst hA
   obtain ⟨YX,_,_⟩:=hox
   rw [YX,hvy]
   simp only [Ho,Cj,No] at nf qQ gD⊢
   have hr:=run_append_nil (P:=P) w t ty uc i _ hu hi qV ⟨rB.g,(rB.o+0)*1,none⟩ B.length (rB.cap-0) uB n1' n2' hB (by simp only [maxLen] at gD;omega) (by omega)
   have qT:=grownCap_ge w B.length 0 uc
   have YH:=grownCap_le_maxLen w B.length 0 uc (by omega)
   obtain ⟨π',g1,g2⟩:=Yk (w1:=w.drew.alloc (.cells (uB.toArray++Builtin.zeroCells (Bv (Ty.slice e2) (Bp (Ty.slice e2))).cells (grownCap w B.length 0 uc-B.length)) uc)) (gv:= λ_=>False) h qZ XI uc (e:=e2) (rows:=B) (us:=uB) (Rs:=RB) (g:=w.heap.size) (o:=0) (cap:=grownCap w B.length 0 uc)
    (λ_ hf=>hf.elim) (o3 w _) ⟨.inl (Ao _),by simp⟩ (heap_alloc_new w.drew _) (by rw [Array.size_append,Gf,Tk,hzs];omega) YH qT (λj u hu=>by
     have hj:=(Am.1 hu).1
     rw [Cj,Su (by simpa using hj)];simpa using hu)
    LB (λi q h1=>⟨by have:=Vg m rB RB sW w7B i q h1;omega,λh=>h,m,rB, .inr rfl,sW,(w7B i q h1).1⟩)
   exact ⟨_,_,π',hr,g1,g2 _ rfl⟩
  |some rA=>
   rw [fC] at hA hox
   obtain ⟨fA,MP,tiA,uA,RA,w1A,w2A,w3A,w4A,w5A,w6A,w7A,LA⟩:=uL hA
   obtain ⟨adA,YX,hcA,haA⟩:=hox
   have hlA:=LA.1
   rw [YX,hvy]
   have apart: ∀(i j:Nat) (q q':Real),RA[i]?=some (some q)->RB[j]?=some (some q')->q.g≠q'.g:= λi j q q' h1 h2 e=>by
    have:=h.1.apart fC sW (w7A i q h1).1 (e▸(w7B j q' h2).1)
    exact gB this.symm
   have LAB:=pV.append LA LB apart
   have Hq: ∀(i:Nat) (q:Real),RB[i]?=some (some q)->q.g≠rA.g:= λi q h1 e=>gB (h.1.apart sW fC (w7B i q h1).1 (e▸fA))
   have hRs: ∀(i:Nat) (q:Real),(RA++RB)[i]?=some (some q)->q.g≠rA.g/\q.g<w.heap.size/\ ∃k p,(k=l\/k=m)/\π k=some p/\p.Cq q.g:= λi q h1=>by
    by_cases hi:i<RA.length
    ·rw [Ar hi] at h1
     exact ⟨(w7A i q h1).2,Vg l rA RA fC w7A i q h1,l,rA, .inl rfl,fC,(w7A i q h1).1⟩
    ·rw [Aq (by omega)] at h1
     exact ⟨Hq _ q h1,Vg m rB RB sW w7B _ q h1,m,rB, .inr rfl,sW,(w7B _ q h1).1⟩
   by_cases lS:A.length+B.length<=rA.cap-0
   ·have haA:=haA (by omega)
    subst haA
    have Ww:(rA.o+0)*1+A.length*i.size+uB.length<=MP.size:=by rw [Uo];omega
    have Yl:(rA.o+0)*1+A.length*i.size+uB.length<=MP.toList.length:=by simpa using Ww
    have hr:=Zq (P:=P) (w:=w) (ty:=ty) hu hi rA.g ((rA.o+0)*1) A.length (rA.cap-0) MP tiA w1A ⟨rB.g,(rB.o+0)*1,none⟩ B.length (rB.cap-0) uB n1' n2' w6B lS Ww
    have qU:=Nb w rA.g (Dp MP.toList ((rA.o+0)*1+A.length*i.size) uB).toArray
    obtain ⟨π',g1,g2⟩:=Yk (w1:=w.setRow rA.g (Dp MP.toList ((rA.o+0)*1+A.length*i.size) uB).toArray) (gv:= λb=>b=rA.g) h qZ XI uc (e:=e2) (rows:=A++B) (us:=uA++uB) (Rs:=RA++RB) (g:=rA.g) (o:=rA.o) (cap:=rA.cap)
     (λb hb=>⟨l,rA, .inl rfl,fC,hb▸fA⟩) ⟨qU.os,qU.tape,qU.output,qU.size,λc _ hc=>setRow_other w rA.g c _ hc⟩ ⟨.inr ⟨l,rA, .inl rfl,fC,fA⟩,Ea (Fw w1A) qU.size⟩
     (setRow_heap w rA.g MP _ tiA _ w1A) (by rw [Gf,Ii _ _ _ Yl,Wf];exact w2A) w3A (by simp;omega) (λj u hu=>by
      rw [Hl,Hj _ _ _ _ Yl,Uo]
      by_cases hj:j<uA.length
      ·rw [Ar hj] at hu
       rw [Ac (by omega),Array.getElem?_toList]
       exact w5A j u hu
      ·rw [Aq (by omega)] at hu
       have:=(Am.1 hu).1
       rw [Ai (by omega),Ac (by omega)]
       rw [show rA.o+j-((rA.o+0)*1+A.length*1)=j-uA.length by omega]
       exact hu)
     LAB (λi q h1=>⟨(hRs i q h1).1,(hRs i q h1).1,(hRs i q h1).2.2⟩)
    have:=g2 (A.length+B.length) (by simp)
    have e0:(rA.o+0)*1=rA.o:=by omega
    simp only [e0,Nat.sub_zero] at hr g1 this⊢
    exact ⟨_,_,π',hr,g1,this⟩
   ·have hold: ∀j u,uA[j]?=some u->w.cell? (adA.add j)=some u:=by
     intro j u hu
     have hj:=(Am.1 hu).1
     rw [haA (by omega),Addr.add_lit,cellOf w1A,Ew,Dx];exact w5A j u hu
    have hr:=run_append_grow (P:=P) w t ty uc i _ hu hi qV adA A.length (rA.cap-0) uA (by rw [Uo,Ew];exact hlA) hold ⟨rB.g,(rB.o+0)*1,none⟩ B.length (rB.cap-0) uB n1' n2' (by omega) (by simp only [maxLen] at gD;omega) (growslice_fits (by omega) qQ)
    have qT:=grownCap_ge w (A.length+B.length) (rA.cap-0) uc
    have YH:=grownCap_le_maxLen w (A.length+B.length) (rA.cap-0) uc gD
    obtain ⟨π',g1,g2⟩:=Yk (w1:=w.drew.alloc (.cells (uA.toArray++uB.toArray++Builtin.zeroCells (Bv (Ty.slice e2) (Bp (Ty.slice e2))).cells (grownCap w (A.length+B.length) (rA.cap-0) uc-(A.length+B.length))) uc)) (gv:= λ_=>False) h qZ XI uc (e:=e2) (rows:=A++B) (us:=uA++uB) (Rs:=RA++RB) (g:=w.heap.size) (o:=0) (cap:=grownCap w (A.length+B.length) (rA.cap-0) uc)
     (λ_ hf=>hf.elim) (o3 w _) ⟨.inl (Ao _),by simp⟩ (heap_alloc_new w.drew _) (by rw [Array.size_append,Array.size_append,Gf,Gf,Tk,hzs];omega) YH (by simpa using qT) (λj u hu=>by
      have hj:=(Am.1 hu).1
      rw [Cj,Su (by simpa using hj)];simpa using hu)
     LAB (λi q h1=>⟨by have:=(hRs i q h1).2.1;omega,λh=>h,(hRs i q h1).2.2⟩)
    exact ⟨_,_,π',hr,g1,g2 _ (by simp)⟩
theorem jZ: ∀τ:Ty,Fg X w π H (zeroCells τ) (Bp τ):=by
 have one: ∀(c:AC) (v:Value),v.oneCell'=true->Gu X w π H c v->Fg X w π H [c] [v]:= λc v h1 h2=>⟨rfl,λi c' hc=>by
  rcases i with _|i
  ·simp at hc;subst hc;exact ⟨v,rfl,h1,h2⟩
  ·simp at hc⟩
 intro τ
 induction τ with
 |unit=>exact ⟨rfl,λi c hc=>by simp [zeroCells] at hc⟩
 |pair a r fH fF=>
  refine ⟨by simp [zeroCells,Bp,fH.1,fF.1],λi c hc=>?_⟩
  simp only [zeroCells] at hc
  simp only [Bp]
  by_cases hi:i<(zeroCells a).length
  ·rw [Ar hi] at hc
   obtain ⟨u,hu,h⟩:=fH.2 i c hc
   exact ⟨u,by rw [Ar (by rw [fH.1];exact hi)];exact hu,h⟩
  ·rw [Aq (by omega)] at hc
   obtain ⟨u,hu,h⟩:=fF.2 _ c hc
   exact ⟨u,by rw [Aq (by rw [fH.1];omega),fH.1];exact hu,h⟩
 |int k=>exact one (.data true _ _) _ rfl (Mp (H:=H) k 0 true)
 |bool=>exact one (.data true _ _) _ rfl (Lm (H:=H) false true)
 |str=>exact one (.data true _ _) _ rfl (kJ (H:=H) ByteArray.empty true)
 |slice e=>exact one _ _ rfl rfl
 |oslice e=>exact one _ _ rfl rfl
 |ptr e=>exact one _ _ rfl rfl
 |optr e=>exact one _ _ rfl rfl
 |smap v=>exact one (.data true _ _) _ rfl ⟨[.map none], .inl ⟨rfl,rfl⟩,by simp [Bv,Ty.Ap]⟩
 |clo f c=>exact one .undef .nilFunc rfl trivial
theorem sQ: ∀τ:Ty,Fg X w π H (Pn τ) (Bp τ):=by
 have one: ∀(c:AC) (v:Value),v.oneCell'=true->Gu X w π H c v->Fg X w π H [c] [v]:= λc v h1 h2=>⟨rfl,λi c' hc=>by
  rcases i with _|i
  ·simp at hc;subst hc;exact ⟨v,rfl,h1,h2⟩
  ·simp at hc⟩
 intro τ
 induction τ with
 |unit=>exact ⟨rfl,λi c hc=>by simp [Pn] at hc⟩
 |pair a r fH fF=>
  refine ⟨by simp [Pn,Bp,fH.1,fF.1],λi c hc=>?_⟩
  simp only [Pn] at hc
  simp only [Bp]
  by_cases hi:i<(Pn a).length
  ·rw [Ar hi] at hc
   obtain ⟨u,hu,h⟩:=fH.2 i c hc
   exact ⟨u,by rw [Ar (by rw [fH.1];exact hi)];exact hu,h⟩
  ·rw [Aq (by omega)] at hc
   obtain ⟨u,hu,h⟩:=fF.2 _ c hc
   exact ⟨u,by rw [Aq (by rw [fH.1];omega),fH.1];exact hu,h⟩
 |int k=>exact one (.data false _ _) _ rfl (Mp (H:=H) k 0 false)
 |bool=>exact one (.data false _ _) _ rfl (Lm (H:=H) false false)
 |str=>exact one (.data false _ _) _ rfl (kJ (H:=H) ByteArray.empty false)
 |slice e=>exact one (.data false _ _) _ rfl ⟨[.slice none 0 0],⟨none,0,0,rfl,rfl,Ao _, .inl rfl⟩,by simp [Bv,Ty.Ap]⟩
 |oslice e=>exact one _ _ rfl rfl
 |ptr e=>exact one _ _ rfl rfl
 |optr e=>exact one _ _ rfl rfl
 |smap v=>exact one (.data false _ _) _ rfl ⟨[.map none], .inl ⟨rfl,rfl⟩,by simp [Bv,Ty.Ap]⟩
 |clo f c=>exact one .undef .nilFunc rfl trivial
theorem cD (hT:Dn P T) {st:St} {a:Act} (h:Bg X π st a w) (t:TypeId) (Nv:Array (Nat×Nat))
  (fC: ∀f o u ρ,T.off t f=some (o,u)->T.ty u=some ρ->Nv[f]?=some (o,ρ.size)): ∀(parts:List (Nat×Operand)) (cs gh:List AC) (us:List Value),Fg X w π st.heap cs us->
  Mb T st t parts cs=some gh-> ∃Vw:List Value,Instr.fill (λi=>Nv[i]?) us.toArray (parts.map λp=>(p.1,a.eval p.2))=some Vw.toArray/\Fg X w π st.heap gh Vw
 | [],cs,gh,us,hr,he=>by
  simp only [Mb,Aa] at he;subst he
  exact ⟨us,rfl,hr⟩
 |(f,x)::r,cs,gh,us,hr,he=>by
  simp only [Mb] at he
  split at he
  ·rename_i o u ho
   split at he
   ·rename_i ρ hρ
    split at he
    ·rename_i c hc
     split at he
     ·rename_i hle
      obtain ⟨vs,hv,hl,XK⟩:=fX (Dm h.2 x) hc
      have e1:=hr.1
      have e2:=XK.1
      obtain ⟨Vw,g1,g2⟩:=cD hT h t Nv fC r _ gh _ (sx hr XK o hle) he
      refine ⟨Vw,?_,g2⟩
      simp only [Bk]
      rw [uI _ us f (a.eval x) _ o ρ.size vs (fC f o u ρ ho hρ) hv hl (by omega)]
      exact g1
     ·cases he
    ·cases he
   ·cases he
  ·cases he
theorem eQ (hT:Dn P T) {st:St} {a:Act} (h:Bg X π st a w) (t:TypeId) (parts:Array (Nat×Operand)) (av:AV) (he:Wq T st t parts=some av):
  ∃v',(Instr.build t (parts.map λ(i,x)=>(i,a.eval x))).run P w= .ok v' w/\Bn X w π st.heap av v':=by
 unfold Wq at he
 split at he
 ·cases he
 ·rename_i τ Xa
  split at he
  ·rename_i hs
   cases hb:Mb T st t parts.toList (zeroCells τ) with
   |none=>rw [hb] at he;cases he
   |some gh=>
    rw [hb] at he
    simp only [Ak,Aa] at he;subst he
    obtain ⟨fs,Nv,h1,h2,h3⟩:=hT.fill t τ Xa hs
    obtain ⟨i,hi,Uo,pe,qV⟩:=(hT.ty t τ Xa).info
    obtain ⟨Vw,g1,g2⟩:=cD hT h t Nv h3 parts.toList (zeroCells τ) gh (Bp τ) (jZ τ) hb
    refine ⟨.agg Vw.toArray,?_,Vw,rfl,g2⟩
    have hz:(zeroValue t).run P w= .ok (Bv τ (Bp τ)) w:=by simp [zeroValue,typeInfo,hi,qV]
    have TK:(Bv τ (Bp τ)).cells=(Bp τ).toArray:=by simp [Bv,hs,Value.cells]
    have h2':=h2 w
    unfold placesOf at h2'
    have e1:(parts.map λ(i,x)=>(i,a.eval x)).toList=parts.toList.map λp=>(p.1,a.eval p.2):=by simp
    simp only [Instr.build,Sem.run_bind,hz,Result.andThen_ok,run_underlying h1,h2',TK,e1,g1,Sem.run_pure]
  ·cases he
theorem sd {st:St} {v:AV} (h:v.settled=true):settle st v=some (v,st):=by
 cases v with
 | «at»a=>cases a<;>simp [AV.settled,AC.settled] at h<;>simp [settle,AC.settled]
 |agg cs=>
  have hs:cs.all (·.settled)=true:=h
  have:Gx cs.length st cs=some (cs,st):=by
   cases hn:cs.length with
   |zero=>simp [Gx,hs]
   |succ n=>
    have hf:cs.find? (λc=>!c.settled)=none:=List.find?_eq_none.2 λc hc=>by simpa using Ba.1 hs c hc
    simp [Gx,hf]
  simp [settle,this]
 |ay fr τ x=>rfl
 |Mh l=>simp [AV.settled] at h
theorem mh {e:Ty} {st:St} : ∀(parts:List (Nat×Operand)) (i:Nat) (fr:Bool) (ys:List e.den),ed e i parts st=some (fr,ys)-> ∃tr,Kv e i parts st=some (fr,tr,ys,st)
 | [],i,fr,ys,h=>by
  simp only [ed,Aa,Ad] at h
  obtain ⟨rfl,rfl⟩:=h
  exact ⟨true,rfl⟩
 |(j,x)::r,i,fr,ys,h=>by
  simp only [ed] at h
  split at h
  ·rename_i hc
   split at h
   ·rename_i f1 y f2 zs h1 h2
    simp only [Aa,Ad] at h
    obtain ⟨rfl,rfl⟩:=h
    obtain ⟨tr,h3⟩:=mh r (i+1) f2 zs h2
    refine ⟨Sr st (st.ev x)&&e.tree&&tr,?_⟩
    simp only [Kv]
    rw [Ac hc.1,sd hc.2]
    simp only [h1,h3]
   ·cases h
  ·cases h
theorem mT (hT:Dn P T) {st:St} {a:Act} (h:Bg X π st a w) (t:TypeId) (len:Nat) (parts:Array (Nat×Operand)) (av:AV) (he:aJ T st t len parts=some av):
  ∃v' w' π',(Instr.buildSlice t len (parts.map λ(i,x)=>(i,a.eval x))).run P w= .ok v' w'/\Bg X π' st a w'/\Bn X w' π' st.heap av v':=by
 unfold aJ at he
 split at he
 ·cases he
 ·rename_i te jz
  split at he
  ·cases he
  ·rename_i e Xa
   split at he
   ·rename_i Je
    obtain ⟨fC,hlen⟩:=Je
    cases hp:ed e 0 parts.toList st with
    |none=>rw [hp] at he;cases he
    |some p=>
     obtain ⟨fr,ys⟩:=p
     rw [hp] at he
     simp only [Ak,Aa] at he
     subst he
     obtain ⟨tr,hb⟩:=mh _ _ _ _ hp
     obtain ⟨i,hi,Uo,pe,qV⟩:=(hT.ty te e Xa).info
     have hu:=hT.elem t te jz
     have ND:parts.toList.length=len:=by simpa using fC
     have hz: ∃z:Array Value,(len*e.size=0/\z= #[])\/(¬len*e.size=0/\(zeroValue te).run P w= .ok (Bv e (Bp e)) w/\z=(Bv e (Bp e)).cells):=by
      by_cases h0:len*e.size=0
      ·exact ⟨#[], .inl ⟨h0,rfl⟩⟩
      ·exact ⟨_, .inr ⟨h0,by simp [zeroValue,typeInfo,hi,qV],rfl⟩⟩
     obtain ⟨z,hz⟩:=hz
     obtain ⟨bl,cl,g1,g2,g3,g4,g5,g6⟩:=Wl e parts.toList 0 st π fr tr ys st ((Array.range (len*e.size)).map (z[· %z.size]!)).toList h hb (by simp [ND])
     have Py:cl.length=len*e.size:=by rw [g2.1,g3,ND]
     have NI:(Dp ((Array.range (len*e.size)).map (z[· %z.size]!)).toList (0*e.size) cl)=cl:=by
      simp [Dp,Py]
     rw [NI] at g5
     have Rd:(Instr.buildSlice t len (parts.map λ(i,x)=>(i,a.eval x))).run P w= .ok (.slice (some ⟨w.heap.size,0,none⟩) len len) (w.alloc (.cells cl.toArray te)):=by
      have h24: ¬(len*e.size>2^24):=by
       have:len*e.size<=64*64:=Nat.mul_le_mul hlen.1 hlen.2
       omega
      simp only [Instr.buildSlice,Sem.run_bind,run_underlying hu,Result.andThen_ok,(hT.ty te e Xa).size,Ai h24]
      have e1:(parts.map λ(i,x)=>(i,a.eval x)).toList=parts.toList.map λp=>(p.1,a.eval p.2):=by simp
      simp only [e1]
      have e2:(((Array.range (len*e.size)).map (z[· %z.size]!)).toList.toArray)=(Array.range (len*e.size)).map (z[· %z.size]!):=Array.toArray_toList
      rw [e2] at g5
      rcases hz with ⟨h0,rfl⟩|⟨h0,hz,rfl⟩
      ·rw [Ac h0]
       simp only [Sem.run_bind,Sem.run_pure,Result.andThen_ok,g5,newRow]
       simp
      ·rw [Ai h0]
       simp only [Sem.run_bind,Sem.run_pure,Result.andThen_ok,hz,g5,newRow]
       simp
     have FV:(w.alloc (.cells cl.toArray te)).heap[w.heap.size]?=some (.cells cl.toArray te (0,0)):=heap_alloc_new w _
     have hB:Below w.heap.size w (w.alloc (.cells cl.toArray te)):=(Below.refl _ _).alloc (Ao _) _
     have Jl:=Fw FV
     refine ⟨_,_,bl,Rd,g1.quiet hB,⟨[_],?_,rfl⟩⟩
     refine ⟨some ⟨w.heap.size,0,none⟩,len,len,rfl,by rw [g3,ND],Ao _, .inr ⟨w.heap.size,0,rfl,Jl,λhA=>?_,λk x hx=>?_⟩⟩
     ·rcases hA with hA|hA|⟨_,hA⟩
      ·exact absurd (g1.1.own hA).1 (Nat.lt_irrefl _)
      ·exact absurd (Ea (g1.1.sc _ hA).1 g1.1.below.size) (Nat.lt_irrefl _)
      ·exact absurd (Ea hA g1.1.below.size) (Nat.lt_irrefl _)
     ·obtain ⟨es,k1,k2,k3⟩:=g2.2 k x hx
      refine ⟨es,k1,λj u hu=>?_,Cells.Fb hB.size (λb hb _=>hB.block b hb) (λ_ _ h=>h) e es x k3⟩
      rw [cellOf FV,Cj]
      simpa using k2 j u hu
   ·cases he
theorem zH {Γ:Env} (hT:Dn P T) (Oh:Ki P Γ) {st:St} {a:Act} (h:Bg X π st a w) (o:Oper) (av:AV) (he:Wc T Γ st o=some av):
  fL P X st a w av ((execOp a.eval o).run P w):=by
 obtain ⟨dst,op,ty,pos,af,gd⟩:=o
 have val: ∀(s:Sem Value) (v:Value) (w':World) (π':Pi),s.run P w= .ok v w'->Bg X π' st a w'->Bn X w' π' st.heap av v->(execOp a.eval ⟨dst,op,ty,pos,af,gd⟩=do pure (.value (<-s)))->
   fL P X st a w av ((execOp a.eval ⟨dst,op,ty,pos,af,gd⟩).run P w):=by
  intro s v w' π' h1 h2 h3 h4
  rw [h4,Sem.run_bind,h1]
  exact ⟨π',h2,h3⟩
 have quiet:Eu T Γ st ⟨dst,op,ty,pos,af,gd⟩=some av->fL P X st a w av ((execOp a.eval ⟨dst,op,ty,pos,af,gd⟩).run P w):=by
  intro hq
  have:=gm hT Oh h _ av hq
  generalize (execOp a.eval ⟨dst,op,ty,pos,af,gd⟩).run P w=r at*
  cases r with
  |halt x w'=>exact this
  |ok n w'=>
   cases n<;>simp only [JV] at this<;>simp only [fL]
   ·obtain ⟨rfl,hr⟩:=this
    exact ⟨π,h,hr⟩
   ·obtain ⟨rfl,hc⟩:=this
    exact ⟨rfl,hc.mono λe oW ⟨v,hv,hb,hr⟩=>⟨v,hv,π,h.quiet hb,hr⟩⟩
 unfold Wc at he
 split at he
 ·rename_i t len parts pO
  dsimp only at pO;subst pO
  obtain ⟨v,w',π',h1,h2,h3⟩:=mT hT h t len parts av he
  exact val _ v w' π' h1 h2 h3 rfl
 ·rename_i t parts pO
  dsimp only at pO;subst pO
  obtain ⟨v',h1,h2⟩:=eQ hT h t parts av he
  exact val _ v' w π h1 h h2 rfl
 ·exact quiet he
theorem cm {a:Act} : ∀(l:List Operand) {π:Pi} {st st1:St},Bg X π st a w->Mx l st=some st1-> ∃π',Bg X π' st1 a w
 | [],π,st,st1,h,he=>by
  simp only [Mx,Aa] at he
  subst he
  exact ⟨π,h⟩
 |x::r,π,st,st1,h,he=>by
  simp only [Mx] at he
  cases hs:settle st (st.ev x) with
  |none=>rw [hs] at he;cases he
  |some p=>
   rw [hs] at he
   obtain ⟨bl,h1,_⟩:=bd h (Dm h.2 x) hs
   exact cm r h1 he
theorem DD {a:Act} {st:St} (h:Bg X π st a w) (p x:Operand): ∃π',Bg X π' (Ob T st p x) a w:=by
 unfold Ob
 split
 ·split
  ·split
   ·rename_i hs;exact cm _ h hs
   ·exact ⟨π,h⟩
  ·exact ⟨π,h⟩
 ·exact ⟨π,h⟩
theorem wN {Γ:Env} (hT:Dn P T) (Oh:Ki P Γ) {st:St} {a:Act} (h:Bg X π st a w) (o:Oper) (av:AV) (st':St) (he:evalOp T Γ st o=some (av,st')):
  fL P X st' a w av ((execOp a.eval o).run P w):=by
 have quiet: ∀ {π:Pi} {st:St},Bg X π st a w->(Eu T Γ st o).map (λv=>(v,st))=some (av,st')->fL P X st' a w av ((execOp a.eval o).run P w):=by
  intro π st h he
  cases hq:Eu T Γ st o with
  |none=>rw [hq] at he;cases he
  |some v=>
   rw [hq] at he
   simp only [Ak,Aa,Ad] at he
   obtain ⟨rfl,rfl⟩:=he
   have:=gm hT Oh h o v hq
   generalize (execOp a.eval o).run P w=r at*
   cases r with
   |halt x w'=>exact this
   |ok n w'=>
    cases n<;>simp only [JV] at this<;>simp only [fL]
    ·obtain ⟨rfl,hr⟩:=this
     exact ⟨π,h,hr⟩
    ·obtain ⟨rfl,hc⟩:=this
     exact ⟨rfl,hc.mono λe oW ⟨v,hv,hb,hr⟩=>⟨v,hv,π,h.quiet hb,hr⟩⟩
 obtain ⟨dst,op,ty,pos,af,gd⟩:=o
 have val: ∀(s:Sem Value) (v:Value) (w':World) (π':Pi),s.run P w= .ok v w'->Bg X π' st' a w'->Bn X w' π' st'.heap av v->(execOp a.eval ⟨dst,op,ty,pos,af,gd⟩=do pure (.value (<-s)))->
   fL P X st' a w av ((execOp a.eval ⟨dst,op,ty,pos,af,gd⟩).run P w):=by
  intro s v w' π' h1 h2 h3 h4
  rw [h4,Sem.run_bind,h1]
  exact ⟨π',h2,h3⟩
 unfold evalOp at he
 split at he
 all_goals (rename_i pO;dsimp only at pO;try subst pO)
 ·
  rename_i x
  split at he
  ·rename_i d te e hx hd ht
   split at he
   ·rename_i hdp
    simp only [Aa,Ad] at he
    obtain ⟨rfl,rfl⟩:=he
    obtain ⟨k1,k2,_⟩:=rH h d hdp (T.sS||e.flat) T.z8 te e
    have hxr:=Dm h.2 x
    rw [hx] at hxr
    have hxv:a.eval x= .slice none 0 0:=hxr
    show fL P X _ a w _ (.ok (.value (a.eval x)) w)
    rw [hxv]
    exact ⟨_,k1,k2⟩
   ·cases he
  ·simp only [Aa,Ad] at he
   obtain ⟨rfl,rfl⟩:=he
   exact ⟨π,h,Dm h.2 x⟩
 ·
  rename_i t
  split at he
  ·rename_i d τ hd ht
   obtain ⟨i,hi,Uo,pe,qV⟩:=(hT.ty t τ ht).info
   have hk: ∃π',Bg X π' st' a (w.alloc (.cells (Bp τ).toArray t))/\Bn X (w.alloc (.cells (Bp τ).toArray t)) π' st'.heap av (.pointer (some ⟨w.heap.size,0,none⟩)):=by
    split at he
    ·exact xt h d t (Pn τ) (Bp τ) (sQ τ) av st' he
    ·exact oC h d t τ (zeroCells τ) (Bp τ) (jZ τ) av st' he
   obtain ⟨π',k1,k2⟩:=hk
   have TK:(Bv τ (Bp τ)).cells=(Bp τ).toArray:=by
    cases τ<;>simp [Bv,Ty.Ap,Value.cells,Bp]
   refine val (Instr.alloc t true (.tuple #[])) _ _ π' ?_ k1 k2 rfl
   simp [Instr.alloc,zeroValue,typeInfo,hi,qV,newVar,newRow,TK]
  ·cases he
 ·
  rename_i t x
  split at he
  ·rename_i d τ hd ht
   split at he
   ·rename_i cs hc
    obtain ⟨us,hv,hl,hr⟩:=fX (Dm h.2 x) hc
    have hk: ∃π',Bg X π' st' a (w.alloc (.cells us.toArray t))/\Bn X (w.alloc (.cells us.toArray t)) π' st'.heap av (.pointer (some ⟨w.heap.size,0,none⟩)):=by
     split at he
     ·split at he
      ·rename_i Ya
       cases hvc:Et st τ cs with
       |none=>rw [hvc] at he;cases he
       |some p=>
        obtain ⟨fr,y⟩:=p
        rw [hvc] at he
        simp only [Ak,Aa,Ad] at he
        obtain ⟨rfl,rfl⟩:=he
        have Py:=Vt τ cs us fr y Ya hr hvc
        have hB:Below w.heap.size w (w.alloc (.cells us.toArray t)):=(Below.refl _ _).alloc (Ao _) _
        have FV:(w.alloc (.cells us.toArray t)).heap[w.heap.size]?=some (.cells us.toArray t (0,0)):=heap_alloc_new w _
        refine ⟨π,h.quiet hB,[_], .inr ⟨y,w.heap.size,0,rfl,rfl,Fw FV,λhA=>?_,us,hl,λj u hu=>?_,Cells.Fb hB.size (λb hb _=>hB.block b hb) (λb _ hA=>?_) τ us y Py⟩,by simp [Bv,Ty.Ap]⟩
        ·rcases hA with hA|hA|⟨hf,_⟩
         ·exact absurd (h.1.own hA).1 (Nat.lt_irrefl _)
         ·exact absurd (Ea (h.1.sc _ hA).1 h.1.below.size) (Nat.lt_irrefl _)
         ·cases hf
        ·rw [cellOf FV,Cj];simpa using hu
        ·exact hA.imp id (Or.imp id λ⟨h1,_⟩=>by cases h1)
      ·cases he
     ·exact oC h d t τ cs us hr av st' he
    obtain ⟨π',k1,k2⟩:=hk
    refine val (Instr.box t (a.eval x)) _ _ π' ?_ k1 k2 rfl
    simp [Instr.box,newVar,newRow,hv]
   ·cases he
  ·cases he
 ·
  rename_i t p x
  obtain ⟨π0,h⟩:=DD (T:=T) h p x
  cases hs:Pe T (Ob T st p x) t ((Ob T st p x).ev p) ((Ob T st p x).ev x) with
  |none=>rw [hs] at he;cases he
  |some s=>
   rw [hs] at he
   simp only [Ak,Aa,Ad] at he
   obtain ⟨rfl,rfl⟩:=he
   obtain ⟨w',π',h1,h2⟩:=mX hT h t _ _ _ _ (Dm h.2 p) (Dm h.2 x) s hs
   have:(execOp a.eval ⟨dst, .store t p x,ty,pos,af,gd⟩).run P w= .ok .skip w':=by
    show (do Instr.storeAt t (a.eval p) (a.eval x);pure Next.skip:Sem Next).run P w=_
    rw [Sem.run_bind,h1];rfl
   rw [this]
   exact ⟨π',h2,trivial⟩
 ·
  rename_i t l c
  split at he
  ·rename_i d hd
   obtain ⟨v,w',π',h1,h2,h3⟩:=pb hT h d t _ _ _ _ (Dm h.2 l) (Dm h.2 c) av st' he
   exact val _ v w' π' h1 h2 h3 rfl
  ·cases he
 ·
  rename_i t
  split at he
  ·rename_i d hd
   obtain ⟨v,w',π',h1,h2,h3⟩:=lA hT h d t av st' he
   exact val _ v w' π' h1 h2 h3 rfl
  ·cases he
 ·
  rename_i t m k x
  cases hs:Ip T st t (st.ev m) (st.ev k) (st.ev x) with
  |none=>rw [hs] at he;cases he
  |some s=>
   rw [hs] at he
   simp only [Ak,Aa,Ad] at he
   obtain ⟨rfl,rfl⟩:=he
   obtain ⟨w',h1,h2⟩:=cI hT h t _ _ _ _ _ _ (Dm h.2 m) (Dm h.2 k) (Dm h.2 x) s hs
   have:(execOp a.eval ⟨dst, .mapUpdate t m k x,ty,pos,af,gd⟩).run P w= .ok .skip w':=by
    show (do Instr.mapUpdate t (a.eval m) (a.eval k) (a.eval x);pure Next.skip:Sem Next).run P w=_
    rw [Sem.run_bind,h1];rfl
   rw [this]
   exact ⟨π,h2,trivial⟩
 ·
  rename_i t m k x
  cases hs:Ip T st t (st.ev m) (st.ev k) (st.ev x) with
  |none=>rw [hs] at he;cases he
  |some s=>
   rw [hs] at he
   simp only [Ak,Aa,Ad] at he
   obtain ⟨rfl,rfl⟩:=he
   obtain ⟨w',h1,h2⟩:=cI hT h t _ _ _ _ _ _ (Dm h.2 m) (Dm h.2 k) (Dm h.2 x) s hs
   have:(execOp a.eval ⟨dst, .insert t m k x,ty,pos,af,gd⟩).run P w= .ok .skip w':=by
    show (do Instr.mapUpdate t (a.eval m) (a.eval k) (a.eval x);pure Next.skip:Sem Next).run P w=_
    rw [Sem.run_bind,h1];rfl
   rw [this]
   exact ⟨π,h2,trivial⟩
 ·
  rename_i t len parts
  split at he
  ·rename_i d hd
   obtain ⟨v,w',π',h1,h2,h3⟩:=fw hT h d t len parts av st' he
   exact val _ v w' π' h1 h2 h3 rfl
  ·cases he
 ·
  rename_i t parts
  cases hb:Wq T st t parts with
  |none=>rw [hb] at he;cases he
  |some v=>
   rw [hb] at he
   simp only [Ak,Aa,Ad] at he
   obtain ⟨rfl,rfl⟩:=he
   obtain ⟨v',h1,h2⟩:=eQ hT h t parts v hb
   exact val _ v' w π h1 h h2 rfl
 ·
  rename_i args ts
  split at he
  ·rename_i d x y t t' hd Qk tu
   split at he
   ·rename_i Uu;subst Uu
    have e1:args= #[x,y]:=by apply Oq;simpa using Qk
    have e2:ts= #[t,t]:=by apply Oq;simpa using tu
    subst e1;subst e2
    obtain ⟨v,w',π',h1,h2,h3⟩:=lx hT h d t ty x y av st' he
    refine val (Builtin.append_ #[t,t] ty #[a.eval x,a.eval y]) v w' π' h1 h2 h3 ?_
    simp [execOp,resolve,invoke,builtin]
   ·cases he
  ·cases he
 ·
  rename_i args ts
  split at he
  ·rename_i x y t t' Qk tu
   have e1:args= #[x,y]:=by apply Oq;simpa using Qk
   have e2:ts= #[t,t']:=by apply Oq;simpa using tu
   subst e1;subst e2
   obtain ⟨v,w',h1,h2,h3⟩:=qA hT h t t' ty _ _ _ _ (Dm h.2 x) (Dm h.2 y) av st' he
   refine val (Builtin.copy_ #[t,t'] ty #[a.eval x,a.eval y]) v w' π h1 h2 h3 ?_
   simp [execOp,resolve,invoke,builtin]
  ·cases he
 ·
  rename_i args ts
  split at he
  ·rename_i x t Qk tu
   have e1:args= #[x]:=by apply Oq;simpa using Qk
   have e2:ts= #[t]:=by apply Oq;simpa using tu
   subst e1;subst e2
   cases hs:evalClear T st t (st.ev x) with
   |none=>rw [hs] at he;cases he
   |some s=>
    rw [hs] at he
    simp only [Ak,Aa,Ad] at he
    obtain ⟨rfl,rfl⟩:=he
    obtain ⟨v,w',h1,h2⟩:=pa hT h t ty _ _ (Dm h.2 x) s hs
    refine val (Builtin.clear_ #[t] ty #[a.eval x]) v w' π h1 h2 trivial ?_
    simp [execOp,resolve,invoke,builtin]
  ·cases he
 ·
  rename_i f args ts
  split at he
  ·rename_i s Ahz
   have hs:Da P f s:=Oh f _ Ahz
   have:=p9 h hs dst (args.toList.map st.ev) (args.toList.map a.eval) (by simp) (λi c v=>gZ h args.toList i c v) av st' he
   rw [hZ a.eval f args ts dst ty pos af gd rfl hs.enter]
   refine ⟨rfl,?_⟩
   rwa [show (args.toList.map a.eval).toArray=args.map a.eval from by apply Oq;simp] at this
  ·rename_i s Ahz
   split at he
   ·cases hs:Mx args.toList st with
    |none=>rw [hs] at he;cases he
    |some st1=>
     rw [hs] at he
     obtain ⟨bl,h1⟩:=cm args.toList h hs
     exact quiet h1 he
   ·exact quiet h he
  ·exact quiet h he
 ·exact quiet h he
end
end Go.Proofs.Ytkkdpknjohcekaa
