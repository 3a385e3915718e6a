/-
  Part 23 of the proof that the statement FnPatterns holds.
-/
import Derived.Test.YtkkdpknjohcekaaGreatCFPatterns21
namespace Go.Proofs.YtkkdpknjohcekaaGreat
open Go.RowKit
section
variable {P:Program} {T:Tab} {X:Ctx} {w w':World} {π:Pi} {H:List (Nat×OB)}
theorem z6 {π':Pi} {st':St} {a:Act} (h:Bi X π' st' a w) (k:Kw π π' H st'.heap) {fr:Bool} (τ:Ty) (cs:List Value) (x:τ.den) (hc:Cells w (Da X.w0.heap.size X.Sc π fr) τ cs x):
  Cells w (Da X.w0.heap.size X.Sc π' fr) τ cs x:=
 Cells.Fk (Ao _) (λ_ _ _=>rfl) (λb _ hA=>by
  rcases hA with ⟨l,r,hl,hg⟩|h2
  ·have hh:=h.1.heap l
   cases hb:At st'.heap l with
   |none=>have:=hh.emp hb;rw [this] at hl;cases hl
   |some b'=>have:=(k l b' hb).1;rw [this] at hl;exact .inl ⟨l,r,hl,hg⟩
  ·exact .inr h2) τ cs x hc
theorem ie.drop {F:List Nat} {l:Nat} (h:ie X w π F):ie X w (Xb π l none) F:=
 ⟨h.1,λb hb=>⟨(h.2 b hb).1,(h.2 b hb).2.1,λm r hm=>by
  by_cases e:m=l
  ·subst e;rw [Gu] at hm;cases hm
  ·rw [Gr π none e] at hm;exact (h.2 b hb).2.2 m r hm⟩⟩
theorem tX {st:St} {a:Act} (h:Bi X π st a w) (l:Nat) (hl:l<Bn) (f0 t0:Bool) (te:TypeId) (e:Ty):
  Bi X (Xb π l none) (st.new l (.arr f0 t0 e te [])) a w/\Bs X w (Xb π l none) (st.new l (.arr f0 t0 e te [])).heap (.at (.own l 0 0)) (.slice none 0 0)/\
   ∀fr τ cs x,Cells w (Da X.w0.heap.size X.Sc π fr) τ cs x->Cells w (Da X.w0.heap.size X.Sc (Xb π l none) fr) τ cs x:=
 ⟨h.replace l hl none _ (Pr w _) (λr hr=>by cases hr) (λ_=>rfl),
  GV (St.Hg st l _) (Ao _) (by rw [Gu];exact ⟨rfl,rfl,rfl⟩),
  fun fr τ cs x hc=>Cells.Fk (Ao _) (λ_ _ _=>rfl) (λb _ hA=>by
  rcases hA with ⟨m,r,hm,hg⟩|h2
  ·by_cases e:m=l
   ·subst e;rw [Gu] at hm;cases hm
   ·rw [Gr π none e] at hm;exact .inl ⟨m,r,hm,hg⟩
  ·exact .inr h2) τ cs x hc⟩
theorem Ya (hT:Eb P T) {st:St} {a:Act} (h:Bi X π st a w) (dst:Nat) (t ty:TypeId) (x y:Operand) (av:AV) (st':St) (he:Ny T st dst t x y=some (av,st')):
  ∃v' w' π',(Builtin.append_ #[t,t] ty #[a.eval x,a.eval y]).run P w= .ok v' w'/\Bi X π' st' a w'/\Bs X w' π' st'.heap av v':=by
 unfold Ny at he
 split at he
 ·cases he
 ·rename_i te l5
  split at he
  ·rename_i e y' st1 Yi hs
   obtain ⟨cn,h1,h2,h3,h4,h5⟩:=cb h (Du h.2 y) hs
   split at he
   ·cases he
   ·rename_i rO ys hv
    dsimp only at he
    have RW: ∀tr2,tr2=(e.flat||(Tn st (st.ev y)&&e.tree))->tr2=true->e.flat=true\/ ∃F,Dg w F (.slice e) [a.eval y] ys/\ie X w cn F:=by
     intro tr2 e2 nB
     subst e2
     cases hef:e.flat with
     |true=>exact .inl rfl
     |false=>
     right
     simp only [hef,bz,Ag] at nB
     obtain ⟨F,us,f1,f2,f3,_⟩:=h5 nB.1 (.slice e) rO ys nB.2 hv
     have hus:us= [a.eval y]:=by
      simp only [Dg] at f1
      obtain ⟨a0,len,cap,rfl,_⟩:=f1
      rw [f2];simp [Cd,Ty.Ap]
     rw [hus] at f1
     exact ⟨F,f1,f3⟩
    have hyc:Cells w (Da X.w0.heap.size X.Sc cn rO) (.slice e) [a.eval y] ys:=Cw.Rz rfl (Mv _ y' _ rO ys h3 h2 hv)
    have hxr:=Du h1.2 x
    split at he
    ·rename_i hx
     rw [hx] at hxr
     have hxv:a.eval x= .slice none 0 0:=hxr
     split at he
     ·rename_i oZ
      simp only [Aa,Ae] at he
      obtain ⟨rfl,rfl⟩:=he
      obtain ⟨k1,k2,k3⟩:=tX h1 dst oZ.2 (T.sT||e.flat) T.CH te e
      have:=mN (ty:=ty) hT k1 l5 Yi oZ.2 (fr3:=rO||e.flat) (tr2:=e.flat||(Tn st (st.ev y)&&e.tree)) rfl (St.Hg st1 dst _) k2 (k3 _ _ _ _ hyc) (by rw [Bo];exact oZ.1) (λht=>by
       rcases RW _ rfl ht with h0|⟨F,f1,f2⟩
       ·exact .inl h0
       ·exact .inr ⟨F,f1,f2.drop⟩)
      rw [<-hxv] at this
      exact this
     ·cases he
    ·rename_i l off len hx
     rw [hx] at hxr
     split at he
     ·rename_i fr tr e' tid xs hl
      split at he
      ·rename_i Jx
       obtain ⟨rfl,rfl⟩:=Jx
       split at he
       ·rename_i oZ
        simp only [Aa,Ae] at he
        obtain ⟨rfl,rfl⟩:=he
        exact mN (ty:=ty) hT h1 l5 Yi oZ.2 (fr3:=rO||e'.flat) (tr2:=e'.flat||(Tn st (st.ev y)&&e'.tree)) rfl hl hxr hyc oZ.1 (RW _ rfl)
       ·cases he
      ·cases he
     ·cases he
    ·cases he
  ·cases he
theorem mY (hT:Eb P T) {st:St} {a:Act} (h:Bi X π st a w) (dst:Nat) (t ty:TypeId) (x y:Operand) (av:AV) (st':St) (he:Rq T st dst t x y=some (av,st')):
  ∃v' w' π',(Builtin.append_ #[t,t] ty #[a.eval x,a.eval y]).run P w= .ok v' w'/\Bi X π' st' a w'/\Bs X w' π' st'.heap av v':=by
 unfold Rq at he
 split at he
 ·rename_i tx
  split at he
  ·rename_i l i c hg
   split at he
   ·rename_i e te rows kp tid hl _
    split at he
    ·rename_i hc
     simp only [Ag,Nf,Es] at hc
     have iV:dst≠l:= λe=>by rw [e,Nat.beq_refl] at hc;cases hc.2.2
     unfold St.at at hl
     have hv:Hv X w π st.heap (.sub l i c) (a.tmps.getD tx undef):=by
      have:=h.2.tmps tx
      rw [hg] at this
      exact this
     obtain ⟨cn,h1,h2⟩:=LF (tid:=tid) h hl iV hc.2.1 hc.1 hv
     have h3:=h1.put (some tx) (c:= .at (.own dst 0 (rows.getD i []).length)) h2
     have Anl:a.put (some tx) (a.tmps.getD tx undef)=a:=by
      have:a.tmps.setIfInBounds tx (a.tmps.getD tx undef)=a.tmps:=by
       apply Array.ext_getElem?
       intro k
       rw [Array.getElem?_setIfInBounds]
       split
       ·rename_i e
        subst e
        split
        ·rename_i Jj
         rw [Array.getElem?_eq_getElem Jj];simp
        ·rename_i Jj
         rw [Array.getElem?_eq_none (by omega)]
       ·rfl
      simp only [Act.put,this]
     rw [Anl] at h3
     exact Ya hT h3 dst t ty (.tmp tx) y av st' he
    ·cases he
   ·cases he
  ·exact Ya hT h dst t ty _ y av st' he
 ·exact Ya hT h dst t ty x y av st' he
theorem QJ {S:Nat->Prop} {e:Ty} (h:mH e=true): ∃z,Bx e= [z]/\e.Ap=false/\e.size=1/\Cells w S e [z] e.zero/\z.oneCell'=true:=by
 cases e<;>simp [mH] at h
 ·exact ⟨_,rfl,rfl,rfl,rfl,rfl⟩
 ·exact ⟨_,rfl,rfl,rfl,rfl,rfl⟩
 ·exact ⟨_,rfl,rfl,rfl,rfl,rfl⟩
 ·exact ⟨_,rfl,rfl,rfl,⟨none,0,0,rfl,rfl,Ao _, .inl rfl⟩,rfl⟩
 ·exact ⟨_,rfl,rfl,rfl, .inl ⟨rfl,0,rfl⟩,rfl⟩
theorem JX {e:Ty} {z:Value} (ht:e.tree=true) (h:mH e=true) (hz:Bx e= [z]):Dg w [] e [z] e.zero:=by
 cases e<;>simp [mH] at h<;>simp only [Bx,Hb,Oh] at hz<;>subst hz<;>try (simp [Ty.tree] at ht;done)
 ·exact ⟨rfl,rfl⟩
 ·exact ⟨rfl,rfl⟩
 ·exact ⟨rfl,rfl⟩
 ·exact ⟨none,0,0,rfl,rfl,Ao _, .inl ⟨rfl,rfl,rfl,rfl⟩⟩
theorem Adc {S:Nat->Prop} : ∀(e:Ty),gk e=true->(Bx e).length=e.size/\Cells w S e (Bx e) e.zero/\(e.tree=true->Dg w [] e (Bx e) e.zero):=by
 intro e
 induction e with
 |unit=>intro _;exact ⟨rfl,rfl,λ_=>⟨rfl,rfl⟩⟩
 |pair a r ib gZ=>
  intro h
  simp only [gk,Ag] at h
  obtain ⟨a1,a2,a3⟩:=ib h.1
  obtain ⟨r1,r2,r3⟩:=gZ h.2
  exact ⟨by simp [Bx,Ty.size,a1,r1],⟨_,_,rfl,a2,r2⟩,λht=>by simp only [Ty.tree,Ag] at ht;exact ⟨_,_,[],[],rfl,rfl,a3 ht.1,r3 ht.2⟩⟩
 |_=>
  intro h
  simp only [gk] at h
  obtain ⟨z,z1,z2,z3,z4,_⟩:=QJ (w:=w) (S:=S) h
  exact ⟨by rw [z1,z3];rfl,by rw [z1];exact z4,λht=>by rw [z1];exact JX ht h z1⟩
theorem SF {z:Array Value} {s m j q:Nat} (hz:z.size=s) (hj:j<m) (hq:q<s):(madeCells z (m*s))[j*s+q]?=z[q]?:=by
 have h1:j*s+q<m*s:=by
  have:=Eo s (show j+1<=m by omega)
  rw [Nat.succ_mul] at this
  omega
 have h2:(j*s+q)%z.size=q:=by rw [hz,Nat.mul_comm,Nat.mul_add_mod,Nat.mod_eq_of_lt hq]
 have h3:q<z.size:=by omega
 unfold madeCells
 simp [h1,h2,h3]
theorem sL (hT:Eb P T) {st:St} {a:Act} (h:Bi X π st a w) (dst:Nat) (t:TypeId) (l c:AV) (vl vc:Value) (hl:Bs X w π st.heap l vl) (hc:Bs X w π st.heap c vc) (av:AV) (st':St)
  (he:bJ T st dst t l c=some (av,st')): ∃v' w' π',(Instr.makeSlice t vl vc).run P w= .ok v' w'/\Bi X π' st' a w'/\Bs X w' π' st'.heap av v':=by
 unfold bJ at he
 split at he
 ·rename_i te fr1 k1 n rO k2 m l5
  have:=Qa hl;subst this
  have:=Qa hc;subst this
  split at he
  ·rename_i e Yi
   split at he
   ·rename_i Jx
    obtain ⟨h0,hnm,hz,ZO⟩:=Jx
    obtain ⟨h1,h2⟩:=Ui.1 h0
    subst hnm
    simp only [Aa,Ae] at he
    obtain ⟨rfl,rfl⟩:=he
    obtain ⟨i,hi,Vt,ri,tj⟩:=(hT.ty te e Yi).info
    obtain ⟨z1,z4,z5⟩:=Adc (w:=w) (S:=Da X.w0.heap.size X.Sc π (T.sT||e.flat)) e hz
    have hzc:(Cd e (Bx e)).cells=(Bx e).toArray:=Ld e _ _ z4
    have hu:=hT.elem t te l5
    have hn:n.toNat<=4294967296:=by unfold Db at h2;omega
    have hr:=run_make (P:=P) (w:=w) t te i _ hu hi tj k1 k2 n n h1 (Sf _) (by
     have:(i.bytes:Int)*n<=256*4294967296:=by
      obtain ⟨nn,rfl⟩:=Qw h1
      have h7:i.bytes*nn<=256*4294967296:=dN ri (by simpa using hn)
      have h8:((i.bytes*nn:Nat):Int)<=256*4294967296:=by omega
      rwa [Int.natCast_mul] at h8
     omega) (by unfold Db at h2;omega)
    rw [hzc,Vt] at hr
    have aB:((Bx e).toArray).size=e.size:=by simpa using z1
    have cell: ∀j,j<n.toNat-> ∀q u,(Bx e)[q]?=some u->(madeCells (Bx e).toArray (n.toNat*e.size)).toList[j*e.size+q]?=some u:=by
     intro j hj q u hu
     have hq:q<e.size:=by rw [<-z1];exact (An.1 hu).1
     have:=SF aB hj hq
     rw [Array.getElem?_toList,this]
     simpa using hu
    have:=fG (w1:=w.alloc (.cells (madeCells (Bx e).toArray (n.toNat*e.size)) te)) h dst ZO (T.sT||e.flat) (T.CH&&e.tree) e te (List.replicate n.toNat e.zero) (madeCells (Bx e).toArray (n.toNat*e.size)).toList (madeCells (Bx e).toArray (n.toNat*e.size)) n.toNat []
     (.inr rfl) (by rw [size_madeCells]) (by unfold maxLen;omega) (by simp)
     (λk u hu=>by
      rw [Array.getElem?_toList] at hu;exact hu) ⟨by simp [size_madeCells],λj x hx=>by
       have hj:=(An.1 hx).1
       simp only [Gh] at hj
       refine ⟨Bx e,z1,λq u hu=>cell j hj q u hu,?_⟩
       rw [Fv (Cl hx)];exact z4⟩ (by simp) (λnB=>⟨Nd,List.replicate n.toNat [],by simp,by simp,λj x F hx hF=>by
      have hj:=(An.1 hx).1
      simp only [Gh] at hj
      refine ⟨Bx e,z1,λq u hu=>cell j hj q u hu,?_⟩
      have e1:=Fv (Cl hx)
      have e2:=Fv (Cl hF)
      rw [e1,e2]
      exact z5 (by simp only [Ag] at nB;exact nB.2)⟩)
    exact ⟨_,_,_,hr,this.1,this.2 _ (by simp)⟩
   ·cases he
  ·cases he
 ·cases he
theorem iP (off:Nat): ∀(us:List Value) (k:Nat) (cells:List Value),off+k+us.length<=cells.length->
  (us.zipIdx k).foldl (λcs p=>cs.setIfInBounds (off+p.2) p.1) cells.toArray=(Dw cells (off+k) us).toArray
 | [],k,cells,h=>by simp [Dw]
 |u::us,k,cells,h=>by
  simp only [List.zipIdx_cons,Qx]
  rw [show cells.toArray.setIfInBounds (off+k) u=(cells.set (off+k) u).toArray by simp]
  rw [iP off us (k+1) (cells.set (off+k) u) (by simp at h⊢;omega)]
  congr 1
  apply List.ext_getElem?
  intro j
  have hl:off+k+(u::us).length<=cells.length:=h
  have LV:off+(k+1)+us.length<=(cells.set (off+k) u).length:=by simp at h⊢;omega
  rw [Im _ _ _ _ hl,Im _ _ _ _ LV]
  simp only [Aw]
  by_cases h1:j<off+k
  ·rw [Ab (by omega),Ab h1,List.getElem?_set_ne (by omega)]
  ·rw [Ak h1]
   by_cases h2:j=off+k
   ·subst h2
    rw [Ab (by omega),Ab (by omega),List.getElem?_set_self (by simp at h;omega)]
    simp
   ·rw [Ak (by omega)]
    by_cases h3:j<off+k+(us.length+1)
    ·rw [Ab (by omega),Ab h3]
     rw [show j-(off+k)=(j-(off+(k+1)))+1 by omega,Mm]
    ·rw [Ak (by omega),Ak h3,List.getElem?_set_ne (by omega)]
theorem xt (place:Nat->Option (Nat×Nat)) (cells:List Value) (i:Nat) (v:Value) (rest:List (Nat×Value)) (off size:Nat) (us:List Value) (hp:place i=some (off,size)) (hv:v.cells=us.toArray)
  (hl:us.length=size) (hle:off+size<=cells.length):Instr.fill place cells.toArray ((i,v)::rest)=Instr.fill place (Dw cells off us).toArray rest:=by
 simp only [Instr.fill,hp,hv,Hc,hl]
 rw [Ak (by simp;omega)]
 congr 1
 have:=iP off us 0 cells (by omega)
 simp only [Er] at this
 rw [<-this]
 simp
theorem Xw (e:Ty) {a:Act} : ∀(parts:List (Nat×Operand)) (i:Nat) (st:St) (π:Pi) (fr tr:Bool) (ys:List e.den) (st':St) (cells:List Value),Bi X π st a w->Lk e i parts st=some (fr,tr,ys,st')->
  (i+parts.length)*e.size<=cells.length->
  ∃π' cl,Bi X π' st' a w/\Flat w (Da X.w0.heap.size X.Sc π' fr) e cl ys/\ys.length=parts.length/\Kw π π' st.heap st'.heap/\
   Instr.fill (λi=>some (i*e.size,e.size)) cells.toArray (parts.map λp=>(p.1,a.eval p.2))=some (Dw cells (i*e.size) cl).toArray/\
   (tr=true-> ∃Fs,Sy w e cl ys Fs/\ie X w π' (List.flatten Fs)/\ ∀b∈List.flatten Fs,∃l r,π l=some r/\r.cl b)
 | [],i,st,π,fr,tr,ys,st',cells,h,he,hle=>by
  simp only [Lk,Aa,Ae] at he
  obtain ⟨rfl,rfl,rfl,rfl⟩:=he
  exact ⟨π,[],h,Flat.nil,rfl,Kw.refl _ _,by simp [Instr.fill,Dw],λ_=>⟨[],⟨rfl,λi z F hz=>by simp at hz⟩,⟨Nd,by simp⟩,by simp⟩⟩
 |(j,x)::r,i,st,π,fr,tr,ys,st',cells,h,he,hle=>by
  simp only [Lk] at he
  split at he
  ·rename_i jZ;subst jZ
   split at he
   ·rename_i v' st1 hs
    obtain ⟨cn,h1,h2,h3,h4,h5⟩:=cb h (Du h.2 x) hs
    split at he
    ·rename_i fr1 y hv
     split at he
     ·rename_i rO tr2 zs st2 hr
      simp only [Aa,Ae] at he
      obtain ⟨rfl,rfl,rfl,rfl⟩:=he
      obtain ⟨es,gV,LQ⟩:=Mv e v' _ fr1 y h3 h2 hv
      have kY:=Cells.len e es y gV
      have Asz:i*e.size+e.size<=cells.length:=by
       have:(i+1)*e.size<=(i+((i,x)::r).length)*e.size:=Eo _ (by simp)
       rw [Dj,Sh] at this
       omega
      have RO:i*e.size+es.length<=cells.length:=by omega
      obtain ⟨XY,cl,g1,g2,g3,g4,g5,g6⟩:=Xw e r (i+1) st1 cn rO tr2 zs st2 (Dw cells (i*e.size) es) h1 hr (by
       rw [Je _ _ _ RO]
       rw [show i+1+r.length=i+((i,x)::r).length by simp;omega];exact hle)
      have f1:Flat w (Da X.w0.heap.size X.Sc XY fr1) e es [y]:=⟨by simp [kY],λq z hz=>by
       rcases q with _|q
       ·simp at hz;subst hz
        exact ⟨es,kY,λj u hu=>by simpa using hu,z6 g1 g4 e es y gV⟩
       ·simp at hz⟩
      refine ⟨XY,es++cl,g1,?_,by simp [g3],h4.trans g4,?_,λht=>?_⟩
      ·have:=(f1.cells λes z hc=>hc.and_left (f2:=rO)).append (g2.cells λes z hc=>hc.and_right (f1:=fr1))
       simpa using this
      ·simp only [Bu]
       rw [xt _ cells i (a.eval x) _ (i*e.size) e.size es rfl (by rw [LQ];exact Ld e es y gV) kY Asz,g5]
       congr 2
       have Pc:cl.length=r.length*e.size:=by rw [g2.1,g3]
       have Yg:(i+1)*e.size+cl.length<=(Dw cells (i*e.size) es).length:=by
        rw [Je _ _ _ RO,Pc,<-Dj]
        rw [show i+1+r.length=i+((i,x)::r).length by simp;omega];exact hle
       have Amj:i*e.size+(es++cl).length<=cells.length:=by
        rw [Je _ _ _ RO] at Yg
        rw [Au,kY]
        rw [Dj,Sh] at Yg
        omega
       have e1:(i+1)*e.size=i*e.size+es.length:=by rw [Dj,Sh,kY]
       apply List.ext_getElem?
       intro k
       rw [Im _ _ _ _ Yg,Im _ _ _ _ Amj,Im _ _ _ _ RO,e1,Au]
       by_cases k1:k<i*e.size
       ·rw [Ab (by omega),Ab k1,Ab k1]
       ·rw [Ak k1,Ak k1]
        by_cases k2:k<i*e.size+es.length
        ·rw [Ab k2,Ab k2,Ab (by omega),As (by omega)]
        ·rw [Ak k2,Ak k2]
         by_cases k3:k<i*e.size+es.length+cl.length
         ·rw [Ab k3,Ab (by omega),Ar (by omega)]
          congr 1;omega
         ·rw [Ak k3,Ak (by omega)]
      ·simp only [Ag] at ht
       obtain ⟨⟨ht1,ht2⟩,ht3⟩:=ht
       obtain ⟨F,us,t1,t2,t3,t7⟩:=h5 ht1 e fr1 y ht2 hv
       obtain ⟨Fs,t4,t5,t6⟩:=g6 ht3
       have hus:us=es:=by
        have c1:=Dg.cells (S:= λ_=>False) F e us y t1 (λ_ _ h=>h)
        have a1:=Ld e us y c1
        have a2:=Ld e es y gV
        rw [<-t2,LQ,a2] at a1
        simpa using a1.symm
       subst hus
       refine ⟨F::Fs,?_,?_,λb hb=>?_⟩
       ·have k1:Sy w e us [y] [F]:=⟨rfl,λq z G hz hG=>by
         rcases q with _|q
         ·simp at hz hG;subst hz;subst hG
          exact ⟨us,kY,λj u hu=>by simpa using hu,t1⟩
         ·simp at hz⟩
        exact Sy.append (by simp [kY]) k1 t4
       ·rw [Lf]
        refine ⟨Dv.2 ⟨t3.1,t5.1,λb hb b' vG e=>?_⟩,λb hb=>?_⟩
        ·subst e
         obtain ⟨l,r,q1,q2⟩:=t6 b vG
         exact (t3.2 b hb).2.2 l r q1 q2
        ·rcases Az.1 hb with hb|hb
         ·have:=t3.2 b hb
          refine ⟨this.1,this.2.1,λl r q1 q2=>?_⟩
          cases hh:At st2.heap l with
          |none=>rw [(g1.1.heap l).emp hh] at q1;cases q1
          |some b'=>exact this.2.2 l r ((g4 l b' hh).1▸q1) q2
         ·exact t5.2 b hb
       ·rw [Lf] at hb
        rcases Az.1 hb with hb|hb
        ·exact t7 b hb
        ·obtain ⟨l,r,q1,q2⟩:=t6 b hb
         cases hh:At st1.heap l with
         |none=>rw [(h1.1.heap l).emp hh] at q1;cases q1
         |some b'=>exact ⟨l,r,(h4 l b' hh).1▸q1,q2⟩
     ·cases he
    ·cases he
   ·cases he
  ·cases he
theorem iJ (hT:Eb P T) {st:St} {a:Act} (h:Bi X π st a w) (dst:Nat) (t:TypeId) (len:Nat) (parts:Array (Nat×Operand)) (av:AV) (st':St)
  (he:Mo T st dst t len parts=some (av,st')):
  ∃v' w' π',(Instr.buildSlice t len (parts.map λ(i,x)=>(i,a.eval x))).run P w= .ok v' w'/\Bi X π' st' a w'/\Bs X w' π' st'.heap av v':=by
 unfold Mo at he
 split at he
 ·cases he
 ·rename_i te l5
  split at he
  ·cases he
  ·rename_i e Yi
   split at he
   ·rename_i Jx
    obtain ⟨ia,hlen⟩:=Jx
    split at he
    ·rename_i fr tr ys st1 hb
     simp only [Aa,Ae] at he
     obtain ⟨rfl,rfl⟩:=he
     obtain ⟨i,hi,Vt,ri,tj⟩:=(hT.ty te e Yi).info
     have hu:=hT.elem t te l5
     have UB:parts.toList.length=len:=by simpa using ia
     have hz: ∃z:Array Value,(len*e.size=0/\z= #[])\/(¬len*e.size=0/\(zeroValue te).run P w= .ok (Cd e (Bx e)) w/\z=(Cd e (Bx e)).cells):=by
      by_cases h0:len*e.size=0
      ·exact ⟨#[], .inl ⟨h0,rfl⟩⟩
      ·exact ⟨_, .inr ⟨h0,by simp [zeroValue,typeInfo,hi,tj],rfl⟩⟩
     obtain ⟨z,hz⟩:=hz
     obtain ⟨cn,cl,g1,g2,g3,g4,g5,g6⟩:=Xw e parts.toList 0 st π fr tr ys st1 ((Array.range (len*e.size)).map (z[· %z.size]!)).toList h hb (by simp [UB])
     have Pc:cl.length=len*e.size:=by rw [g2.1,g3,UB]
     have hsp:(Dw ((Array.range (len*e.size)).map (z[· %z.size]!)).toList (0*e.size) cl)=cl:=by
      simp [Dw,Pc]
     rw [hsp] at g5
     have Vu:(Instr.buildSlice t len (parts.map λ(i,x)=>(i,a.eval x))).run P w= .ok (.slice (some ⟨w.heap.size,0,none⟩) len len) (w.alloc (.cells cl.toArray te)):=by
      have h24: ¬(len*e.size>2^24):=by
       have:len*e.size<=64*64:=dN hlen.1 hlen.2.1
       omega
      simp only [Instr.buildSlice,Sem.run_bind,run_underlying hu,Result.andThen_ok,(hT.ty te e Yi).size,Ak h24]
      have e1:(parts.map λ(i,x)=>(i,a.eval x)).toList=parts.toList.map λp=>(p.1,a.eval p.2):=by simp
      simp only [e1]
      have e2:(((Array.range (len*e.size)).map (z[· %z.size]!)).toList.toArray)=(Array.range (len*e.size)).map (z[· %z.size]!):=Array.toArray_toList
      rw [e2] at g5
      rcases hz with ⟨h0,rfl⟩|⟨h0,hz,rfl⟩
      ·rw [Ab h0]
       simp only [Sem.run_bind,Sem.run_pure,Result.andThen_ok,g5,newRow]
       simp
      ·rw [Ak h0]
       simp only [Sem.run_bind,Sem.run_pure,Result.andThen_ok,hz,g5,newRow]
       simp
     have hN: ∃N:List Nat,(∀b∈N,(X.w0.heap.size<=b\/X.gv b)/\b<w.heap.size/\ ∀m r0,m≠dst->cn m=some r0-> ¬r0.cl b)/\(tr=true->N.Nodup/\ ∃Fs,List.flatten Fs=N/\Sy w e cl ys Fs):=by
      cases tr with
      |false=>exact ⟨[],by simp,λh=>by cases h⟩
      |true=>
       obtain ⟨Fs,t1,t2,_⟩:=g6 rfl
       exact ⟨_,λb hb=>⟨(t2.2 b hb).1,(t2.2 b hb).2.1,λm r0 _=>(t2.2 b hb).2.2 m r0⟩,λ_=>⟨t2.1,Fs,rfl,t1⟩⟩
     obtain ⟨N,q1,q2⟩:=hN
     have:=fG (w1:=w.alloc (.cells cl.toArray te)) g1 dst hlen.2.2 ((T.sT||e.flat)&&fr) (T.CH&&tr) e te ys cl cl.toArray len N (.inr rfl) (by simpa using Pc) (by simp only [maxLen];omega) (by omega) (λk u hu=>by simpa using hu) (g2.cells λes z hc=>hc.and_right) q1 (λht=>q2 (by simp only [Ag] at ht;exact ht.2))
     exact ⟨_,_,_,Vu,this.1,this.2 _ (by omega)⟩
    ·cases he
   ·cases he
theorem lY {t te:TypeId} {e:Ty} (h:eo T t=some (te,e)):T.elem t=some te/\T.ty te=some (.slice e):=by
 unfold eo at h
 cases he:T.elem t with
 |none=>rw [he] at h;cases h
 |some Ri=>
  rw [he] at h
  simp only [Fp] at h
  cases hg:T.RG Ri with
  |none=>rw [hg] at h;cases h
  |some e'=>
   rw [hg] at h
   simp only [Am,Aa,Ae] at h
   obtain ⟨rfl,rfl⟩:=h
   refine ⟨rfl,?_⟩
   unfold Tab.RG at hg
   split at hg
   ·split at hg
    ·rename_i Yi;simp only [Aa] at hg;subst hg;exact Yi
    ·cases hg
   ·cases hg
theorem mP (w:World) (o:Obj):Ku w.heap.size (λ_=>False) w (w.alloc o):=⟨rfl,rfl,rfl,by simp,λk hk _=>Below.heap_alloc w _ k hk⟩
theorem q7 (w:World) (o:Obj):Ku w.heap.size (λ_=>False) w (w.drew.alloc o):=⟨rfl,rfl,rfl,by simp,λk hk _=>Below.heap_alloc w.drew _ k hk⟩
theorem re (hT:Eb P T) {st:St} {a:Act} (h:Bi X π st a w) (dst:Nat) (t:TypeId) (l c:AV) (vl vc:Value) (hl:Bs X w π st.heap l vl) (hc:Bs X w π st.heap c vc) (av:AV) (st':St)
  (he:Ye T st dst t l c=some (av,st')): ∃v' w' π',(Instr.makeSlice t vl vc).run P w= .ok v' w'/\Bi X π' st' a w'/\Bs X w' π' st'.heap av v':=by
 unfold Ye at he
 split at he
 ·exact sL hT h dst t l c vl vc hl hc av st' he
 ·rename_i te e hg
  obtain ⟨l5,Yi⟩:=lY hg
  split at he
  ·rename_i fr1 k1 n rO k2 m
   have:=Qa hl;subst this
   have:=Qa hc;subst this
   split at he
   ·rename_i Jx
    obtain ⟨h0,hnm,ZO⟩:=Jx
    obtain ⟨h1,h2⟩:=Ui.1 h0
    subst hnm
    simp only [Aa,Ae] at he
    obtain ⟨rfl,rfl⟩:=he
    obtain ⟨i,hi,Vt,ri,tj⟩:=(hT.ty te _ Yi).info
    have hu:=hT.elem t te l5
    have hn:n.toNat<=4294967296:=by unfold Db at h2;omega
    have hr:=run_make (P:=P) (w:=w) t te i _ hu hi tj k1 k2 n n h1 (Sf _) (by
     have:(i.bytes:Int)*n<=256*4294967296:=by
      obtain ⟨nn,rfl⟩:=Qw h1
      have h7:i.bytes*nn<=256*4294967296:=dN ri (by simpa using hn)
      have h8:((i.bytes*nn:Nat):Int)<=256*4294967296:=by omega
      rwa [Int.natCast_mul] at h8
     omega) (by unfold Db at h2;omega)
    have hzc:(Cd (Ty.slice e) (Bx (Ty.slice e))).cells= #[.slice none 0 0]:=by simp [Cd,Ty.Ap,Bx,Value.cells]
    have kG:(Ty.slice e).size=1:=rfl
    rw [hzc,Vt,kG] at hr
    have cell: ∀j,j<n.toNat->(madeCells #[Value.slice none 0 0] (n.toNat*1))[0+j]?=some (.slice none 0 0):=by
     intro j hj
     have:=SF (z:= #[Value.slice none 0 0]) (s:=1) (m:=n.toNat) (j:=j) (q:=0) rfl hj (by omega)
     simp only [Fm,Er] at this
     simp only [Fm,Bo]
     rw [this];rfl
    obtain ⟨π',g1,g2⟩:=Zu (w1:=w.alloc (.cells (madeCells #[Value.slice none 0 0] (n.toNat*1)) te)) (gv:= λ_=>False) h ZO ZO te (e:=e) (rows:=List.replicate n.toNat []) (us:=List.replicate n.toNat (.slice none 0 0)) (Rs:=List.replicate n.toNat none) (g:=w.heap.size) (o:=0) (cap:=n.toNat)
     (λ_ hf=>hf.elim) (mP w _) ⟨.inl (Ao _),by simp⟩ (heap_alloc_new w _) (by rw [size_madeCells];omega) (by unfold maxLen;omega) (by simp) (λj u hu=>by
      have hj:=(An.1 hu).1
      simp only [Gh] at hj
      rw [cell j hj,Fv (Cl hu)])
     ⟨by simp,by simp,λi j q q' h1=>(by have:=Fv (Cl h1);cases this),λi x hx=>by
      have hj:=(An.1 hx).1
      simp only [Gh] at hj
      rw [Fv (Cl hx)]
      exact ⟨.slice none 0 0,none,by rw [Ze,Ab hj],by rw [Ze,Ab hj],⟨rfl,rfl,rfl⟩,rfl⟩⟩
     (λi q h1=>by have:=Fv (Cl h1);cases this)
    exact ⟨_,_,π',hr,g1,g2 _ (by simp)⟩
   ·cases he
  ·cases he
theorem gS (hT:Eb P T) {st:St} {a:Act} (h:Bi X π st a w) (dst:Nat) (t:TypeId) (len:Nat) (parts:Array (Nat×Operand)) (av:AV) (st':St)
  (he:Jh T st dst t len parts=some (av,st')):
  ∃v' w' π',(Instr.buildSlice t len (parts.map λ(i,x)=>(i,a.eval x))).run P w= .ok v' w'/\Bi X π' st' a w'/\Bs X w' π' st'.heap av v':=by
 unfold Jh at he
 split at he
 ·exact iJ hT h dst t len parts av st' he
 ·rename_i te e hg
  obtain ⟨l5,Yi⟩:=lY hg
  split at he
  rotate_left
  ·cases he
  rename_i x Aj1
  split at he
  rotate_left
  ·cases he
  rename_i m off ln hx
  split at he
  rotate_left
  ·cases he
  rename_i fr tr e' tid xs hm
  split at he
  rotate_left
  ·cases he
  rename_i hc
  obtain ⟨rfl,hc,rfl,rfl⟩:=hc
  simp only [Ag,Nf] at hc
  obtain ⟨hlen,ZO,hmp⟩:=hc
  have hlen:len=1:=Ju hlen
  subst hlen
  simp only [Aa,Ae] at he
  obtain ⟨rfl,rfl⟩:=he
  have hu:=hT.elem t te l5
  unfold St.at at hm
  have hrx:=Du h.2 x
  rw [hx] at hrx
  obtain ⟨_,vI⟩:=Oi (X:=X) (w:=w) hrx hm
  obtain ⟨ax,nx,cx,hvx⟩:=aW vI
  have hp:parts= #[(0,x)]:=by apply Oy;simpa using Aj1
  subst hp
  obtain ⟨i,hi,Vt,ri,tj⟩:=(hT.ty te _ Yi).info
  have Vu:(Instr.buildSlice t 1 (#[(0,x)].map λ(i,x)=>(i,a.eval x))).run P w= .ok (.slice (some ⟨w.heap.size,0,none⟩) 1 1) (w.alloc (.cells #[a.eval x] te)):=by
   have kG:(Ty.slice e').size=1:=rfl
   have hz:(zeroValue te).run P w= .ok (.slice none 0 0) w:=by simp [zeroValue,typeInfo,hi,tj,Cd,Ty.Ap,Bx]
   have hmp:(#[(0,x)].map λ(i,x)=>(i,a.eval x))= #[(0, .slice ax nx cx)]:=by simp [hvx]
   rw [hmp,hvx]
   simp only [Instr.buildSlice,Sem.run_bind,run_underlying hu,Result.andThen_ok,(hT.ty te _ Yi).size,kG]
   simp [Value.cells,Instr.fill,newRow,hz]
   congr 2
   apply Array.ext
   ·simp
   ·intro i h1 h2
    have h0:i=0:=by simpa using h2
    subst h0
    simp
  have JZ:=(h.1.heap m).Ro hm
  simp only [Cj,Kg] at JZ
  have hfa:Ta w (Da X.w0.heap.size X.Sc π false) (π m) e' xs:=by
   cases hR:π m with
   |none=>rw [hR] at JZ;exact JZ
   |some q=>
    rw [hR] at JZ
    obtain ⟨⟨f0,f0',_⟩,cu,ti',f2,f3,f4,f5,f6,_⟩:=JZ
    exact ⟨⟨f0,f0'⟩,cu,ti',f2,f3,f4,f5,λp y hy=>by
     obtain ⟨es,g1,g2,g3⟩:=f6 p y hy
     exact ⟨es,g1,g2,Cells.Fk (Ao _) (λ_ _ _=>rfl) (λb _ hA=>hA.imp id (Or.imp id λ⟨h1,_⟩=>by cases h1)) e' es y g3⟩⟩
  obtain ⟨π',g1,g2⟩:=Zu (w1:=w.alloc (.cells #[a.eval x] te)) (gv:= λ_=>False) h ZO hmp te (e:=e') (rows:= [xs]) (us:= [a.eval x]) (Rs:= [π m]) (g:=w.heap.size) (o:=0) (cap:=1)
   (λ_ hf=>hf.elim) (mP w _) ⟨.inl (Ao _),by simp⟩ (heap_alloc_new w _) rfl (by unfold maxLen;omega) (by simp) (λj u hu=>by
    rcases j with _|j
    ·simpa using hu
    ·simp at hu)
   ⟨rfl,rfl,λi j q q' h1 h2 _=>by
    rcases i with _|i
    ·rcases j with _|j
     ·rfl
     ·simp at h2
    ·simp at h1,λi y hy=>by
    rcases i with _|i
    ·simp only [Bz,Aa] at hy
     subst hy
     exact ⟨_,_,rfl,rfl,vI,hfa⟩
    ·simp at hy⟩
   (λi q h1=>by
    rcases i with _|i
    ·simp only [Bz,Aa] at h1
     have hf:=h.1.Cv h1
     have:=(h.1.place m q _ h1 (h.1.sub m q _ h1 hf)).2
     exact ⟨by omega,λh=>h,m,q, .inr rfl,h1,hf⟩
    ·simp at h1)
  exact ⟨_,_,π',Vu,g1,g2 1 rfl⟩
theorem mZ (hT:Eb P T) {st:St} {a:Act} (h:Bi X π st a w) (dst:Nat) (t ty:TypeId) (x y:Operand) (av:AV) (st':St) (he:Rr T st dst t x y=some (av,st')):
  ∃v' w' π',(Builtin.append_ #[t,t] ty #[a.eval x,a.eval y]).run P w= .ok v' w'/\Bi X π' st' a w'/\Bs X w' π' st'.heap av v':=by
 unfold Rr at he
 split at he
 ·exact mY hT h dst t ty x y av st' he
 ·rename_i te e hg
  obtain ⟨l5,Yi⟩:=lY hg
  split at he
  rotate_left
  ·cases he
  rename_i l off len m Ab3 tH hx hy
  split at he
  rotate_left
  ·cases he
  rename_i e1 te1 A kp1 e2 wV B kp2 hl hm
  split at he
  rotate_left
  ·cases he
  rename_i hc
  obtain ⟨⟨rfl,rfl⟩,hc,⟨rfl,rfl⟩,⟨rfl,rfl⟩,hB,oZ⟩:=hc
  simp only [Ag,Nf,Ng,Es] at hc
  obtain ⟨⟨rfl,rfl⟩,p7,hmp,iV⟩:=hc
  have iV:m≠l:= λe=>by rw [e,Nat.beq_refl] at iV;cases iV
  simp only [Aa,Ae] at he
  obtain ⟨rfl,rfl⟩:=he
  have hu:=hT.elem t wV l5
  obtain ⟨i,hi,Vt,ri,tj⟩:=(hT.ty wV _ Yi).info
  have Vt:i.size=1:=Vt
  unfold St.at at hl hm
  have hrx:=Du h.2 x
  have hry:=Du h.2 y
  rw [hx] at hrx;rw [hy] at hry
  obtain ⟨b1,s1,n1,q1,q2,_,hox⟩:=hrx
  rw [hl] at q1;cases q1
  simp only [OB.row,Aa,Ae] at q2
  obtain ⟨rfl,rfl⟩:=q2
  obtain ⟨b2,s2,n2,q1,q2,_,hoy⟩:=hry
  rw [hm] at q1;cases q1
  simp only [OB.row,Aa,Ae] at q2
  obtain ⟨rfl,rfl⟩:=q2
  have hA:=((h.1.heap l).Ro hl).1
  have hBb:=((h.1.heap m).Ro hm).1
  cases DE:π m with
  |none=>
   rw [DE] at hBb
   have hBb:B= []:=hBb
   subst hBb;simp at hB
  |some rB=>
  rw [DE] at hBb hoy
  obtain ⟨fB,Awp,tiB,uB,RB,w1B,w2B,w3B,w4B,w5B,w6B,w7B,LB⟩:=xy hBb
  obtain ⟨adB,hvy,hcB,haB⟩:=hoy
  have haB:=haB (by omega)
  subst haB
  have hlB:=LB.1
  have n1':uB.length=B.length*i.size:=by rw [Vt,Fm];exact hlB
  have n2': ∀j u,uB[j]?=some u->w.cell? ((⟨rB.g,(rB.o+0)*1,none⟩:Addr).add j)=some u:= λj u hu=>by
   rw [Addr.add_lit,cellOf w1B,Fm,Er];exact w5B j u hu
  have ta:(A.length+B.length)*i.bytes<=140737488355328:=by
   have:(A.length+B.length)*i.bytes<=4294967296*256:=dN oZ ri
   omega
  have iW:A.length+B.length<=maxLen:=by unfold Db at oZ;simp only [maxLen];omega
  have hzs:(Cd (Ty.slice e2) (Bx (Ty.slice e2))).cells.size=1:=by simp [Cd,Ty.Ap,Bx,Value.cells]
  have Wk: ∀(k:Nat) (q:Real) (Rs:List (Option Real)),π k=some q->(∀(i:Nat) (p:Real),Rs[i]?=some (some p)->q.Cv p.g/\p.g≠q.g)-> ∀(i:Nat) (p:Real),Rs[i]?=some (some p)->p.g<w.heap.size:= λk q Rs h1 h2 i p h3=>
   (h.1.place k q _ h1 (h.1.sub k q _ h1 (h2 i p h3).1)).2
  cases ia:π l with
  |none=>
   rw [ia] at hA hox
   have hA:A= []:=hA
   subst hA
   obtain ⟨hvx,_,_⟩:=hox
   rw [hvx,hvy]
   simp only [Fb,Bo,List.nil_append] at oZ ta iW⊢
   have hr:=run_append_nil (P:=P) w t ty wV i _ hu hi tj ⟨rB.g,(rB.o+0)*1,none⟩ B.length (rB.cap-0) uB n1' n2' hB (by simp only [maxLen] at iW;omega) (by omega)
   have oD:=grownCap_ge w B.length 0 wV
   have hcm:=grownCap_le_maxLen w B.length 0 wV (by omega)
   obtain ⟨π',g1,g2⟩:=Zu (w1:=w.drew.alloc (.cells (uB.toArray++Builtin.zeroCells (Cd (Ty.slice e2) (Bx (Ty.slice e2))).cells (grownCap w B.length 0 wV-B.length)) wV)) (gv:= λ_=>False) h p7 hmp wV (e:=e2) (rows:=B) (us:=uB) (Rs:=RB) (g:=w.heap.size) (o:=0) (cap:=grownCap w B.length 0 wV)
    (λ_ hf=>hf.elim) (q7 w _) ⟨.inl (Ao _),by simp⟩ (heap_alloc_new w.drew _) (by rw [Array.size_append,Hc,Uo,hzs];omega) hcm oD (λj u hu=>by
     have hj:=(An.1 hu).1
     rw [Bo,Tp (by simpa using hj)];simpa using hu)
    LB (λi q h1=>⟨by have:=Wk m rB RB DE w7B i q h1;omega,λh=>h,m,rB, .inr rfl,DE,(w7B i q h1).1⟩)
   exact ⟨_,_,π',hr,g1,g2 _ rfl⟩
  |some rA=>
   rw [ia] at hA hox
   obtain ⟨fA,TN,tiA,uA,RA,w1A,w2A,w3A,w4A,w5A,w6A,w7A,LA⟩:=xy hA
   obtain ⟨adA,hvx,hcA,haA⟩:=hox
   have hlA:=LA.1
   rw [hvx,hvy]
   have apart: ∀(i j:Nat) (q q':Real),RA[i]?=some (some q)->RB[j]?=some (some q')->q.g≠q'.g:= λi j q q' h1 h2 e=>by
    have:=h.1.apart ia DE (w7A i q h1).1 (e▸(w7B j q' h2).1)
    exact iV this.symm
   have LAB:=sa.append LA LB apart
   have Iz: ∀(i:Nat) (q:Real),RB[i]?=some (some q)->q.g≠rA.g:= λi q h1 e=>iV (h.1.apart DE ia (w7B i q h1).1 (e▸fA))
   have hRs: ∀(i:Nat) (q:Real),(RA++RB)[i]?=some (some q)->q.g≠rA.g/\q.g<w.heap.size/\ ∃k p,(k=l\/k=m)/\π k=some p/\p.Cv q.g:= λi q h1=>by
    by_cases hi:i<RA.length
    ·rw [As hi] at h1
     exact ⟨(w7A i q h1).2,Wk l rA RA ia w7A i q h1,l,rA, .inl rfl,ia,(w7A i q h1).1⟩
    ·rw [Ar (by omega)] at h1
     exact ⟨Iz _ q h1,Wk m rB RB DE w7B _ q h1,m,rB, .inr rfl,DE,(w7B _ q h1).1⟩
   by_cases FN:A.length+B.length<=rA.cap-0
   ·have haA:=haA (by omega)
    subst haA
    have Yg:(rA.o+0)*1+A.length*i.size+uB.length<=TN.size:=by rw [Vt];omega
    have Zv:(rA.o+0)*1+A.length*i.size+uB.length<=TN.toList.length:=by simpa using Yg
    have hr:=aG (P:=P) (w:=w) (ty:=ty) hu hi rA.g ((rA.o+0)*1) A.length (rA.cap-0) TN tiA w1A ⟨rB.g,(rB.o+0)*1,none⟩ B.length (rB.cap-0) uB n1' n2' w6B FN Yg
    have tf:=Np w rA.g (Dw TN.toList ((rA.o+0)*1+A.length*i.size) uB).toArray
    obtain ⟨π',g1,g2⟩:=Zu (w1:=w.setRow rA.g (Dw TN.toList ((rA.o+0)*1+A.length*i.size) uB).toArray) (gv:= λb=>b=rA.g) h p7 hmp wV (e:=e2) (rows:=A++B) (us:=uA++uB) (Rs:=RA++RB) (g:=rA.g) (o:=rA.o) (cap:=rA.cap)
     (λb hb=>⟨l,rA, .inl rfl,ia,hb▸fA⟩) ⟨tf.os,tf.tape,tf.output,tf.size,λc _ hc=>setRow_other w rA.g c _ hc⟩ ⟨.inr ⟨l,rA, .inl rfl,ia,fA⟩,Eg (Gq w1A) tf.size⟩
     (setRow_heap w rA.g TN _ tiA _ w1A) (by rw [Hc,Je _ _ _ Zv,Xq];exact w2A) w3A (by simp;omega) (λj u hu=>by
      rw [Ip,Im _ _ _ _ Zv,Vt]
      by_cases hj:j<uA.length
      ·rw [As hj] at hu
       rw [Ab (by omega),Array.getElem?_toList]
       exact w5A j u hu
      ·rw [Ar (by omega)] at hu
       have:=(An.1 hu).1
       rw [Ak (by omega),Ab (by omega)]
       rw [show rA.o+j-((rA.o+0)*1+A.length*1)=j-uA.length by omega]
       exact hu)
     LAB (λi q h1=>⟨(hRs i q h1).1,(hRs i q h1).1,(hRs i q h1).2.2⟩)
    have:=g2 (A.length+B.length) (by simp)
    have e0:(rA.o+0)*1=rA.o:=by omega
    simp only [e0,Nat.sub_zero] at hr g1 this⊢
    exact ⟨_,_,π',hr,g1,this⟩
   ·have hold: ∀j u,uA[j]?=some u->w.cell? (adA.add j)=some u:=by
     intro j u hu
     have hj:=(An.1 hu).1
     rw [haA (by omega),Addr.add_lit,cellOf w1A,Fm,Er];exact w5A j u hu
    have hr:=run_append_grow (P:=P) w t ty wV i _ hu hi tj adA A.length (rA.cap-0) uA (by rw [Vt,Fm];exact hlA) hold ⟨rB.g,(rB.o+0)*1,none⟩ B.length (rB.cap-0) uB n1' n2' (by omega) (by simp only [maxLen] at iW;omega) (growslice_fits (by omega) ta)
    have oD:=grownCap_ge w (A.length+B.length) (rA.cap-0) wV
    have hcm:=grownCap_le_maxLen w (A.length+B.length) (rA.cap-0) wV iW
    obtain ⟨π',g1,g2⟩:=Zu (w1:=w.drew.alloc (.cells (uA.toArray++uB.toArray++Builtin.zeroCells (Cd (Ty.slice e2) (Bx (Ty.slice e2))).cells (grownCap w (A.length+B.length) (rA.cap-0) wV-(A.length+B.length))) wV)) (gv:= λ_=>False) h p7 hmp wV (e:=e2) (rows:=A++B) (us:=uA++uB) (Rs:=RA++RB) (g:=w.heap.size) (o:=0) (cap:=grownCap w (A.length+B.length) (rA.cap-0) wV)
     (λ_ hf=>hf.elim) (q7 w _) ⟨.inl (Ao _),by simp⟩ (heap_alloc_new w.drew _) (by rw [Array.size_append,Array.size_append,Hc,Hc,Uo,hzs];omega) hcm (by simpa using oD) (λj u hu=>by
      have hj:=(An.1 hu).1
      rw [Bo,Tp (by simpa using hj)];simpa using hu)
     LAB (λi q h1=>⟨by have:=(hRs i q h1).2.1;omega,λh=>h,(hRs i q h1).2.2⟩)
    exact ⟨_,_,π',hr,g1,g2 _ (by simp)⟩
theorem lF: ∀τ:Ty,Gc X w π H (zeroCells τ) (Bx τ):=by
 have one: ∀(c:AC) (v:Value),v.oneCell'=true->Hv X w π H c v->Gc X w π H [c] [v]:= λc v h1 h2=>⟨rfl,λi c' hc=>by
  rcases i with _|i
  ·simp at hc;subst hc;exact ⟨v,rfl,h1,h2⟩
  ·simp at hc⟩
 intro τ
 induction τ with
 |unit=>exact ⟨rfl,λi c hc=>by simp [zeroCells] at hc⟩
 |pair a r ib gZ=>
  refine ⟨by simp [zeroCells,Bx,ib.1,gZ.1],λi c hc=>?_⟩
  simp only [zeroCells] at hc
  simp only [Bx]
  by_cases hi:i<(zeroCells a).length
  ·rw [As hi] at hc
   obtain ⟨u,hu,h⟩:=ib.2 i c hc
   exact ⟨u,by rw [As (by rw [ib.1];exact hi)];exact hu,h⟩
  ·rw [Ar (by omega)] at hc
   obtain ⟨u,hu,h⟩:=gZ.2 _ c hc
   exact ⟨u,by rw [Ar (by rw [ib.1];omega),ib.1];exact hu,h⟩
 |int k=>exact one (.data true _ _) _ rfl (Nb (H:=H) k 0 true)
 |bool=>exact one (.data true _ _) _ rfl (Lz (H:=H) false true)
 |str=>exact one (.data true _ _) _ rfl (mi (H:=H) ByteArray.empty true)
 |slice e=>exact one _ _ rfl rfl
 |oslice e=>exact one _ _ rfl rfl
 |ptr e=>exact one _ _ rfl rfl
 |optr e=>exact one _ _ rfl rfl
 |smap v=>exact one (.data true _ _) _ rfl ⟨[.map none], .inl ⟨rfl,rfl⟩,by simp [Cd,Ty.Ap]⟩
 |clo f c=>exact one .undef .nilFunc rfl trivial
theorem vE: ∀τ:Ty,Gc X w π H (Qc τ) (Bx τ):=by
 have one: ∀(c:AC) (v:Value),v.oneCell'=true->Hv X w π H c v->Gc X w π H [c] [v]:= λc v h1 h2=>⟨rfl,λi c' hc=>by
  rcases i with _|i
  ·simp at hc;subst hc;exact ⟨v,rfl,h1,h2⟩
  ·simp at hc⟩
 intro τ
 induction τ with
 |unit=>exact ⟨rfl,λi c hc=>by simp [Qc] at hc⟩
 |pair a r ib gZ=>
  refine ⟨by simp [Qc,Bx,ib.1,gZ.1],λi c hc=>?_⟩
  simp only [Qc] at hc
  simp only [Bx]
  by_cases hi:i<(Qc a).length
  ·rw [As hi] at hc
   obtain ⟨u,hu,h⟩:=ib.2 i c hc
   exact ⟨u,by rw [As (by rw [ib.1];exact hi)];exact hu,h⟩
  ·rw [Ar (by omega)] at hc
   obtain ⟨u,hu,h⟩:=gZ.2 _ c hc
   exact ⟨u,by rw [Ar (by rw [ib.1];omega),ib.1];exact hu,h⟩
 |int k=>exact one (.data false _ _) _ rfl (Nb (H:=H) k 0 false)
 |bool=>exact one (.data false _ _) _ rfl (Lz (H:=H) false false)
 |str=>exact one (.data false _ _) _ rfl (mi (H:=H) ByteArray.empty false)
 |slice e=>exact one (.data false _ _) _ rfl ⟨[.slice none 0 0],⟨none,0,0,rfl,rfl,Ao _, .inl rfl⟩,by simp [Cd,Ty.Ap]⟩
 |oslice e=>exact one _ _ rfl rfl
 |ptr e=>exact one _ _ rfl rfl
 |optr e=>exact one _ _ rfl rfl
 |smap v=>exact one (.data false _ _) _ rfl ⟨[.map none], .inl ⟨rfl,rfl⟩,by simp [Cd,Ty.Ap]⟩
 |clo f c=>exact one .undef .nilFunc rfl trivial
theorem dT (hT:Eb P T) {st:St} {a:Act} (h:Bi X π st a w) (t:TypeId) (Mb:Array (Nat×Nat))
  (ia: ∀f o u ρ,T.off t f=some (o,u)->T.ty u=some ρ->Mb[f]?=some (o,ρ.size)): ∀(parts:List (Nat×Operand)) (cs iH:List AC) (us:List Value),Gc X w π st.heap cs us->
  Mn T st t parts cs=some iH-> ∃Xh:List Value,Instr.fill (λi=>Mb[i]?) us.toArray (parts.map λp=>(p.1,a.eval p.2))=some Xh.toArray/\Gc X w π st.heap iH Xh
 | [],cs,iH,us,hr,he=>by
  simp only [Mn,Aa] at he;subst he
  exact ⟨us,rfl,hr⟩
 |(f,x)::r,cs,iH,us,hr,he=>by
  simp only [Mn] at he
  split at he
  ·rename_i o u ho
   split at he
   ·rename_i ρ hρ
    split at he
    ·rename_i c hc
     split at he
     ·rename_i hle
      obtain ⟨vs,hv,hl,hr2⟩:=iA (Du h.2 x) hc
      have e1:=hr.1
      have e2:=hr2.1
      obtain ⟨Xh,g1,g2⟩:=dT hT h t Mb ia r _ iH _ (vd hr hr2 o hle) he
      refine ⟨Xh,?_,g2⟩
      simp only [Bu]
      rw [xt _ us f (a.eval x) _ o ρ.size vs (ia f o u ρ ho hρ) hv hl (by omega)]
      exact g1
     ·cases he
    ·cases he
   ·cases he
  ·cases he
theorem gx (hT:Eb P T) {st:St} {a:Act} (h:Bi X π st a w) (t:TypeId) (parts:Array (Nat×Operand)) (av:AV) (he:Yb T st t parts=some av):
  ∃v',(Instr.build t (parts.map λ(i,x)=>(i,a.eval x))).run P w= .ok v' w/\Bs X w π st.heap av v':=by
 unfold Yb at he
 split at he
 ·cases he
 ·rename_i τ Yi
  split at he
  ·rename_i hs
   cases hb:Mn T st t parts.toList (zeroCells τ) with
   |none=>rw [hb] at he;cases he
   |some iH=>
    rw [hb] at he
    simp only [Am,Aa] at he;subst he
    obtain ⟨fs,Mb,h1,h2,h3⟩:=hT.fill t τ Yi hs
    obtain ⟨i,hi,Vt,ri,tj⟩:=(hT.ty t τ Yi).info
    obtain ⟨Xh,g1,g2⟩:=dT hT h t Mb h3 parts.toList (zeroCells τ) iH (Bx τ) (lF τ) hb
    refine ⟨.agg Xh.toArray,?_,Xh,rfl,g2⟩
    have hz:(zeroValue t).run P w= .ok (Cd τ (Bx τ)) w:=by simp [zeroValue,typeInfo,hi,tj]
    have hzc:(Cd τ (Bx τ)).cells=(Bx τ).toArray:=by simp [Cd,hs,Value.cells]
    have h2':=h2 w
    unfold placesOf at h2'
    have e1:(parts.map λ(i,x)=>(i,a.eval x)).toList=parts.toList.map λp=>(p.1,a.eval p.2):=by simp
    simp only [Instr.build,Sem.run_bind,hz,Result.andThen_ok,run_underlying h1,h2',hzc,e1,g1,Sem.run_pure]
  ·cases he
theorem uG {st:St} {v:AV} (h:v.settled=true):settle st v=some (v,st):=by
 cases v with
 | «at»a=>cases a<;>simp [AV.settled,AC.settled] at h<;>simp [settle,AC.settled]
 |agg cs=>
  have hs:cs.all (·.settled)=true:=h
  have:Hw cs.length st cs=some (cs,st):=by
   cases hn:cs.length with
   |zero=>simp [Hw,hs]
   |succ n=>
    have hf:cs.find? (λc=>!c.settled)=none:=List.find?_eq_none.2 λc hc=>by simpa using Bf.1 hs c hc
    simp [Hw,hf]
  simp [settle,this]
 |bw fr τ x=>rfl
 |Mt l=>simp [AV.settled] at h
theorem nT {e:Ty} {st:St} : ∀(parts:List (Nat×Operand)) (i:Nat) (fr:Bool) (ys:List e.den),fI e i parts st=some (fr,ys)-> ∃tr,Lk e i parts st=some (fr,tr,ys,st)
 | [],i,fr,ys,h=>by
  simp only [fI,Aa,Ae] at h
  obtain ⟨rfl,rfl⟩:=h
  exact ⟨true,rfl⟩
 |(j,x)::r,i,fr,ys,h=>by
  simp only [fI] at h
  split at h
  ·rename_i hc
   split at h
   ·rename_i f1 y f2 zs h1 h2
    simp only [Aa,Ae] at h
    obtain ⟨rfl,rfl⟩:=h
    obtain ⟨tr,h3⟩:=nT r (i+1) f2 zs h2
    refine ⟨Tn st (st.ev x)&&e.tree&&tr,?_⟩
    simp only [Lk]
    rw [Ab hc.1,uG hc.2]
    simp only [h1,h3]
   ·cases h
  ·cases h
theorem oQ (hT:Eb P T) {st:St} {a:Act} (h:Bi X π st a w) (t:TypeId) (len:Nat) (parts:Array (Nat×Operand)) (av:AV) (he:bI T st t len parts=some av):
  ∃v' w' π',(Instr.buildSlice t len (parts.map λ(i,x)=>(i,a.eval x))).run P w= .ok v' w'/\Bi X π' st a w'/\Bs X w' π' st.heap av v':=by
 unfold bI at he
 split at he
 ·cases he
 ·rename_i te l5
  split at he
  ·cases he
  ·rename_i e Yi
   split at he
   ·rename_i Jx
    obtain ⟨ia,hlen⟩:=Jx
    cases hp:fI e 0 parts.toList st with
    |none=>rw [hp] at he;cases he
    |some p=>
     obtain ⟨fr,ys⟩:=p
     rw [hp] at he
     simp only [Am,Aa] at he
     subst he
     obtain ⟨tr,hb⟩:=nT _ _ _ _ hp
     obtain ⟨i,hi,Vt,ri,tj⟩:=(hT.ty te e Yi).info
     have hu:=hT.elem t te l5
     have UB:parts.toList.length=len:=by simpa using ia
     have hz: ∃z:Array Value,(len*e.size=0/\z= #[])\/(¬len*e.size=0/\(zeroValue te).run P w= .ok (Cd e (Bx e)) w/\z=(Cd e (Bx e)).cells):=by
      by_cases h0:len*e.size=0
      ·exact ⟨#[], .inl ⟨h0,rfl⟩⟩
      ·exact ⟨_, .inr ⟨h0,by simp [zeroValue,typeInfo,hi,tj],rfl⟩⟩
     obtain ⟨z,hz⟩:=hz
     obtain ⟨cn,cl,g1,g2,g3,g4,g5,g6⟩:=Xw e parts.toList 0 st π fr tr ys st ((Array.range (len*e.size)).map (z[· %z.size]!)).toList h hb (by simp [UB])
     have Pc:cl.length=len*e.size:=by rw [g2.1,g3,UB]
     have hsp:(Dw ((Array.range (len*e.size)).map (z[· %z.size]!)).toList (0*e.size) cl)=cl:=by
      simp [Dw,Pc]
     rw [hsp] at g5
     have Vu:(Instr.buildSlice t len (parts.map λ(i,x)=>(i,a.eval x))).run P w= .ok (.slice (some ⟨w.heap.size,0,none⟩) len len) (w.alloc (.cells cl.toArray te)):=by
      have h24: ¬(len*e.size>2^24):=by
       have:len*e.size<=64*64:=dN hlen.1 hlen.2
       omega
      simp only [Instr.buildSlice,Sem.run_bind,run_underlying hu,Result.andThen_ok,(hT.ty te e Yi).size,Ak h24]
      have e1:(parts.map λ(i,x)=>(i,a.eval x)).toList=parts.toList.map λp=>(p.1,a.eval p.2):=by simp
      simp only [e1]
      have e2:(((Array.range (len*e.size)).map (z[· %z.size]!)).toList.toArray)=(Array.range (len*e.size)).map (z[· %z.size]!):=Array.toArray_toList
      rw [e2] at g5
      rcases hz with ⟨h0,rfl⟩|⟨h0,hz,rfl⟩
      ·rw [Ab h0]
       simp only [Sem.run_bind,Sem.run_pure,Result.andThen_ok,g5,newRow]
       simp
      ·rw [Ak h0]
       simp only [Sem.run_bind,Sem.run_pure,Result.andThen_ok,hz,g5,newRow]
       simp
     have LN:(w.alloc (.cells cl.toArray te)).heap[w.heap.size]?=some (.cells cl.toArray te (0,0)):=heap_alloc_new w _
     have hB:Below w.heap.size w (w.alloc (.cells cl.toArray te)):=(Below.refl _ _).alloc (Ao _) _
     have Jj:=Gq LN
     refine ⟨_,_,cn,Vu,g1.quiet hB,⟨[_],?_,rfl⟩⟩
     refine ⟨some ⟨w.heap.size,0,none⟩,len,len,rfl,by rw [g3,UB],Ao _, .inr ⟨w.heap.size,0,rfl,Jj,λhA=>?_,λk x hx=>?_⟩⟩
     ·rcases hA with hA|hA|⟨_,hA⟩
      ·exact absurd (g1.1.own hA).1 (Nat.lt_irrefl _)
      ·exact absurd (Eg (g1.1.sc _ hA).1 g1.1.below.size) (Nat.lt_irrefl _)
      ·exact absurd (Eg hA g1.1.below.size) (Nat.lt_irrefl _)
     ·obtain ⟨es,k1,k2,k3⟩:=g2.2 k x hx
      refine ⟨es,k1,λj u hu=>?_,Cells.Fk hB.size (λb hb _=>hB.block b hb) (λ_ _ h=>h) e es x k3⟩
      rw [cellOf LN,Bo]
      simpa using k2 j u hu
   ·cases he
theorem EN {Γ:Env} (hT:Eb P T) (Ot:Kv P Γ) {st:St} {a:Act} (h:Bi X π st a w) (o:Oper) (av:AV) (he:Xn T Γ st o=some av):
  ig P X st a w av ((execOp a.eval o).run P w):=by
 obtain ⟨dst,op,ty,pos,af,gd⟩:=o
 have val: ∀(s:Sem Value) (v:Value) (w':World) (π':Pi),s.run P w= .ok v w'->Bi X π' st a w'->Bs X w' π' st.heap av v->(execOp a.eval ⟨dst,op,ty,pos,af,gd⟩=do pure (.value (<-s)))->
   ig P X st a w av ((execOp a.eval ⟨dst,op,ty,pos,af,gd⟩).run P w):=by
  intro s v w' π' h1 h2 h3 h4
  rw [h4,Sem.run_bind,h1]
  exact ⟨π',h2,h3⟩
 have quiet:Fh T Γ st ⟨dst,op,ty,pos,af,gd⟩=some av->ig P X st a w av ((execOp a.eval ⟨dst,op,ty,pos,af,gd⟩).run P w):=by
  intro hq
  have:=iL hT Ot h _ av hq
  generalize (execOp a.eval ⟨dst,op,ty,pos,af,gd⟩).run P w=r at*
  cases r with
  |halt x w'=>exact this
  |ok n w'=>
   cases n<;>simp only [QK] at this<;>simp only [ig]
   ·obtain ⟨rfl,hr⟩:=this
    exact ⟨π,h,hr⟩
   ·obtain ⟨rfl,hc⟩:=this
    exact ⟨rfl,hc.mono λe qX ⟨v,hv,hb,hr⟩=>⟨v,hv,π,h.quiet hb,hr⟩⟩
 unfold Xn at he
 split at he
 ·rename_i t len parts rT
  dsimp only at rT;subst rT
  obtain ⟨v,w',π',h1,h2,h3⟩:=oQ hT h t len parts av he
  exact val _ v w' π' h1 h2 h3 rfl
 ·rename_i t parts rT
  dsimp only at rT;subst rT
  obtain ⟨v',h1,h2⟩:=gx hT h t parts av he
  exact val _ v' w π h1 h h2 rfl
 ·exact quiet he
theorem dD {a:Act} : ∀(l:List Operand) {π:Pi} {st st1:St},Bi X π st a w->Nl l st=some st1-> ∃π',Bi X π' st1 a w
 | [],π,st,st1,h,he=>by
  simp only [Nl,Aa] at he
  subst he
  exact ⟨π,h⟩
 |x::r,π,st,st1,h,he=>by
  simp only [Nl] at he
  cases hs:settle st (st.ev x) with
  |none=>rw [hs] at he;cases he
  |some p=>
   rw [hs] at he
   obtain ⟨cn,h1,_⟩:=cb h (Du h.2 x) hs
   exact dD r h1 he
theorem IU {a:Act} {st:St} (h:Bi X π st a w) (p x:Operand): ∃π',Bi X π' (Ok T st p x) a w:=by
 unfold Ok
 split
 ·split
  ·split
   ·rename_i hs;exact dD _ h hs
   ·exact ⟨π,h⟩
  ·exact ⟨π,h⟩
 ·exact ⟨π,h⟩
theorem zf {Γ:Env} (hT:Eb P T) (Ot:Kv P Γ) {st:St} {a:Act} (h:Bi X π st a w) (o:Oper) (av:AV) (st':St) (he:evalOp T Γ st o=some (av,st')):
  ig P X st' a w av ((execOp a.eval o).run P w):=by
 have quiet: ∀ {π:Pi} {st:St},Bi X π st a w->(Fh T Γ st o).map (λv=>(v,st))=some (av,st')->ig P X st' a w av ((execOp a.eval o).run P w):=by
  intro π st h he
  cases hq:Fh T Γ st o with
  |none=>rw [hq] at he;cases he
  |some v=>
   rw [hq] at he
   simp only [Am,Aa,Ae] at he
   obtain ⟨rfl,rfl⟩:=he
   have:=iL hT Ot h o v hq
   generalize (execOp a.eval o).run P w=r at*
   cases r with
   |halt x w'=>exact this
   |ok n w'=>
    cases n<;>simp only [QK] at this<;>simp only [ig]
    ·obtain ⟨rfl,hr⟩:=this
     exact ⟨π,h,hr⟩
    ·obtain ⟨rfl,hc⟩:=this
     exact ⟨rfl,hc.mono λe qX ⟨v,hv,hb,hr⟩=>⟨v,hv,π,h.quiet hb,hr⟩⟩
 obtain ⟨dst,op,ty,pos,af,gd⟩:=o
 have val: ∀(s:Sem Value) (v:Value) (w':World) (π':Pi),s.run P w= .ok v w'->Bi X π' st' a w'->Bs X w' π' st'.heap av v->(execOp a.eval ⟨dst,op,ty,pos,af,gd⟩=do pure (.value (<-s)))->
   ig P X st' a w av ((execOp a.eval ⟨dst,op,ty,pos,af,gd⟩).run P w):=by
  intro s v w' π' h1 h2 h3 h4
  rw [h4,Sem.run_bind,h1]
  exact ⟨π',h2,h3⟩
 unfold evalOp at he
 split at he
 all_goals (rename_i rT;dsimp only at rT;try subst rT)
 ·
  rename_i x
  split at he
  ·rename_i d te e hx hd ht
   split at he
   ·rename_i ZO
    simp only [Aa,Ae] at he
    obtain ⟨rfl,rfl⟩:=he
    obtain ⟨k1,k2,_⟩:=tX h d ZO (T.sT||e.flat) T.CH te e
    have hxr:=Du h.2 x
    rw [hx] at hxr
    have hxv:a.eval x= .slice none 0 0:=hxr
    show ig P X _ a w _ (.ok (.value (a.eval x)) w)
    rw [hxv]
    exact ⟨_,k1,k2⟩
   ·cases he
  ·simp only [Aa,Ae] at he
   obtain ⟨rfl,rfl⟩:=he
   exact ⟨π,h,Du h.2 x⟩
 ·
  rename_i t
  split at he
  ·rename_i d τ hd ht
   obtain ⟨i,hi,Vt,ri,tj⟩:=(hT.ty t τ ht).info
   have hk: ∃π',Bi X π' st' a (w.alloc (.cells (Bx τ).toArray t))/\Bs X (w.alloc (.cells (Bx τ).toArray t)) π' st'.heap av (.pointer (some ⟨w.heap.size,0,none⟩)):=by
    split at he
    ·exact zU h d t (Qc τ) (Bx τ) (vE τ) av st' he
    ·exact qB h d t τ (zeroCells τ) (Bx τ) (lF τ) av st' he
   obtain ⟨π',k1,k2⟩:=hk
   have hzc:(Cd τ (Bx τ)).cells=(Bx τ).toArray:=by
    cases τ<;>simp [Cd,Ty.Ap,Value.cells,Bx]
   refine val (Instr.alloc t true (.tuple #[])) _ _ π' ?_ k1 k2 rfl
   simp [Instr.alloc,zeroValue,typeInfo,hi,tj,newVar,newRow,hzc]
  ·cases he
 ·
  rename_i t x
  split at he
  ·rename_i d τ hd ht
   split at he
   ·rename_i cs hc
    obtain ⟨us,hv,hl,hr⟩:=iA (Du h.2 x) hc
    have hk: ∃π',Bi X π' st' a (w.alloc (.cells us.toArray t))/\Bs X (w.alloc (.cells us.toArray t)) π' st'.heap av (.pointer (some ⟨w.heap.size,0,none⟩)):=by
     split at he
     ·split at he
      ·rename_i Uh
       cases hvc:Fg st τ cs with
       |none=>rw [hvc] at he;cases he
       |some p=>
        obtain ⟨fr,y⟩:=p
        rw [hvc] at he
        simp only [Am,Aa,Ae] at he
        obtain ⟨rfl,rfl⟩:=he
        have Pc:=Xc τ cs us fr y Uh hr hvc
        have hB:Below w.heap.size w (w.alloc (.cells us.toArray t)):=(Below.refl _ _).alloc (Ao _) _
        have LN:(w.alloc (.cells us.toArray t)).heap[w.heap.size]?=some (.cells us.toArray t (0,0)):=heap_alloc_new w _
        refine ⟨π,h.quiet hB,[_], .inr ⟨y,w.heap.size,0,rfl,rfl,Gq LN,λhA=>?_,us,hl,λj u hu=>?_,Cells.Fk hB.size (λb hb _=>hB.block b hb) (λb _ hA=>?_) τ us y Pc⟩,by simp [Cd,Ty.Ap]⟩
        ·rcases hA with hA|hA|⟨hf,_⟩
         ·exact absurd (h.1.own hA).1 (Nat.lt_irrefl _)
         ·exact absurd (Eg (h.1.sc _ hA).1 h.1.below.size) (Nat.lt_irrefl _)
         ·cases hf
        ·rw [cellOf LN,Bo];simpa using hu
        ·exact hA.imp id (Or.imp id λ⟨h1,_⟩=>by cases h1)
      ·cases he
     ·exact qB h d t τ cs us hr av st' he
    obtain ⟨π',k1,k2⟩:=hk
    refine val (Instr.box t (a.eval x)) _ _ π' ?_ k1 k2 rfl
    simp [Instr.box,newVar,newRow,hv]
   ·cases he
  ·cases he
 ·
  rename_i t p x
  obtain ⟨π0,h⟩:=IU (T:=T) h p x
  cases hs:Pq T (Ok T st p x) t ((Ok T st p x).ev p) ((Ok T st p x).ev x) with
  |none=>rw [hs] at he;cases he
  |some s=>
   rw [hs] at he
   simp only [Am,Aa,Ae] at he
   obtain ⟨rfl,rfl⟩:=he
   obtain ⟨w',π',h1,h2⟩:=oU hT h t _ _ _ _ (Du h.2 p) (Du h.2 x) s hs
   have:(execOp a.eval ⟨dst, .store t p x,ty,pos,af,gd⟩).run P w= .ok .skip w':=by
    show (do Instr.storeAt t (a.eval p) (a.eval x);pure Next.skip:Sem Next).run P w=_
    rw [Sem.run_bind,h1];rfl
   rw [this]
   exact ⟨π',h2,trivial⟩
 ·
  rename_i t l c
  split at he
  ·rename_i d hd
   obtain ⟨v,w',π',h1,h2,h3⟩:=re hT h d t _ _ _ _ (Du h.2 l) (Du h.2 c) av st' he
   exact val _ v w' π' h1 h2 h3 rfl
  ·cases he
 ·
  rename_i t
  split at he
  ·rename_i d hd
   obtain ⟨v,w',π',h1,h2,h3⟩:=nf hT h d t av st' he
   exact val _ v w' π' h1 h2 h3 rfl
  ·cases he
 ·
  rename_i t m k x
  cases hs:Ji T st t (st.ev m) (st.ev k) (st.ev x) with
  |none=>rw [hs] at he;cases he
  |some s=>
   rw [hs] at he
   simp only [Am,Aa,Ae] at he
   obtain ⟨rfl,rfl⟩:=he
   obtain ⟨w',h1,h2⟩:=ec hT h t _ _ _ _ _ _ (Du h.2 m) (Du h.2 k) (Du h.2 x) s hs
   have:(execOp a.eval ⟨dst, .mapUpdate t m k x,ty,pos,af,gd⟩).run P w= .ok .skip w':=by
    show (do Instr.mapUpdate t (a.eval m) (a.eval k) (a.eval x);pure Next.skip:Sem Next).run P w=_
    rw [Sem.run_bind,h1];rfl
   rw [this]
   exact ⟨π,h2,trivial⟩
 ·
  rename_i t m k x
  cases hs:Ji T st t (st.ev m) (st.ev k) (st.ev x) with
  |none=>rw [hs] at he;cases he
  |some s=>
   rw [hs] at he
   simp only [Am,Aa,Ae] at he
   obtain ⟨rfl,rfl⟩:=he
   obtain ⟨w',h1,h2⟩:=ec hT h t _ _ _ _ _ _ (Du h.2 m) (Du h.2 k) (Du h.2 x) s hs
   have:(execOp a.eval ⟨dst, .insert t m k x,ty,pos,af,gd⟩).run P w= .ok .skip w':=by
    show (do Instr.mapUpdate t (a.eval m) (a.eval k) (a.eval x);pure Next.skip:Sem Next).run P w=_
    rw [Sem.run_bind,h1];rfl
   rw [this]
   exact ⟨π,h2,trivial⟩
 ·
  rename_i t len parts
  split at he
  ·rename_i d hd
   obtain ⟨v,w',π',h1,h2,h3⟩:=gS hT h d t len parts av st' he
   exact val _ v w' π' h1 h2 h3 rfl
  ·cases he
 ·
  rename_i t parts
  cases hb:Yb T st t parts with
  |none=>rw [hb] at he;cases he
  |some v=>
   rw [hb] at he
   simp only [Am,Aa,Ae] at he
   obtain ⟨rfl,rfl⟩:=he
   obtain ⟨v',h1,h2⟩:=gx hT h t parts v hb
   exact val _ v' w π h1 h h2 rfl
 ·
  rename_i args ts
  split at he
  ·rename_i d x y t t' hd Ra w5
   split at he
   ·rename_i Vz;subst Vz
    have e1:args= #[x,y]:=by apply Oy;simpa using Ra
    have e2:ts= #[t,t]:=by apply Oy;simpa using w5
    subst e1;subst e2
    obtain ⟨v,w',π',h1,h2,h3⟩:=mZ hT h d t ty x y av st' he
    refine val (Builtin.append_ #[t,t] ty #[a.eval x,a.eval y]) v w' π' h1 h2 h3 ?_
    simp [execOp,resolve,invoke,builtin]
   ·cases he
  ·cases he
 ·
  rename_i args ts
  split at he
  ·rename_i x y t t' Ra w5
   have e1:args= #[x,y]:=by apply Oy;simpa using Ra
   have e2:ts= #[t,t']:=by apply Oy;simpa using w5
   subst e1;subst e2
   obtain ⟨v,w',h1,h2,h3⟩:=sI hT h t t' ty _ _ _ _ (Du h.2 x) (Du h.2 y) av st' he
   refine val (Builtin.copy_ #[t,t'] ty #[a.eval x,a.eval y]) v w' π h1 h2 h3 ?_
   simp [execOp,resolve,invoke,builtin]
  ·cases he
 ·
  rename_i args ts
  split at he
  ·rename_i x t Ra w5
   have e1:args= #[x]:=by apply Oy;simpa using Ra
   have e2:ts= #[t]:=by apply Oy;simpa using w5
   subst e1;subst e2
   cases hs:evalClear T st t (st.ev x) with
   |none=>rw [hs] at he;cases he
   |some s=>
    rw [hs] at he
    simp only [Am,Aa,Ae] at he
    obtain ⟨rfl,rfl⟩:=he
    obtain ⟨v,w',h1,h2⟩:=r9 hT h t ty _ _ (Du h.2 x) s hs
    refine val (Builtin.clear_ #[t] ty #[a.eval x]) v w' π h1 h2 trivial ?_
    simp [execOp,resolve,invoke,builtin]
  ·cases he
 ·
  rename_i f args ts
  split at he
  ·rename_i s Ao0
   have hs:Cp P f s:=Ot f _ Ao0
   have:=r8 h hs dst (args.toList.map st.ev) (args.toList.map a.eval) (by simp) (λi c v=>jm h args.toList i c v) av st' he
   rw [jq a.eval f args ts dst ty pos af gd rfl hs.enter]
   refine ⟨rfl,?_⟩
   rwa [show (args.toList.map a.eval).toArray=args.map a.eval from by apply Oy;simp] at this
  ·rename_i s Ao0
   split at he
   ·cases hs:Nl args.toList st with
    |none=>rw [hs] at he;cases he
    |some st1=>
     rw [hs] at he
     obtain ⟨cn,h1⟩:=dD args.toList h hs
     exact quiet h1 he
   ·exact quiet h he
  ·exact quiet h he
 ·exact quiet h he
end
end Go.Proofs.YtkkdpknjohcekaaGreat
