/-
  Part 23 of the proof that the statement FnBoundStatistics holds.
-/
import Derived.Test.YtkkdpknjohcekaaCFBoundStatistics21
namespace Go.Proofs.Ytkkdpknjohcekaa
open Go.RowKit
section
variable {P:Program} {T:Tab} {X:Ctx} {w w':World} {π:Pi} {H:List (Nat×OB)}
theorem yH {π':Pi} {st':St} {a:Act} (h:Bh X π' st' a w) (k:Ky π π' H st'.heap) {fr:Bool} (τ:Ty) (cs:List Value) (x:τ.den) (hc:Cells w (Da X.w0.heap.size X.Sc π fr) τ cs x):
  Cells w (Da X.w0.heap.size X.Sc π' fr) τ cs x:=
 Cells.Fb (Ap _) (λ_ _ _=>rfl) (λb _ hA=>by
  rcases hA with ⟨l,r,hl,hg⟩|h2
  ·have hh:=h.1.heap l
   cases hb:At st'.heap l with
   |none=>have:=hh.emp hb;rw [this] at hl;cases hl
   |some b'=>have:=(k l b' hb).1;rw [this] at hl;exact .inl ⟨l,r,hl,hg⟩
  ·exact .inr h2) τ cs x hc
theorem gX.drop {F:List Nat} {l:Nat} (h:gX X w π F):gX X w (Xg π l none) F:=
 ⟨h.1,λb hb=>⟨(h.2 b hb).1,(h.2 b hb).2.1,λm r hm=>by
  by_cases e:m=l
  ·subst e;rw [Gl] at hm;cases hm
  ·rw [Gj π none e] at hm;exact (h.2 b hb).2.2 m r hm⟩⟩
theorem tW {st:St} {a:Act} (h:Bh X π st a w) (l:Nat) (hl:l<Bn) (f0 t0:Bool) (te:TypeId) (e:Ty):
  Bh X (Xg π l none) (st.new l (.arr f0 t0 e te [])) a w/\Bq X w (Xg π l none) (st.new l (.arr f0 t0 e te [])).heap (.at (.own l 0 0)) (.slice none 0 0)/\
   ∀fr τ cs x,Cells w (Da X.w0.heap.size X.Sc π fr) τ cs x->Cells w (Da X.w0.heap.size X.Sc (Xg π l none) fr) τ cs x:=
 ⟨h.replace l hl none _ (Pz w _) (λr hr=>by cases hr) (λ_=>rfl),
  FQ (St.Gv st l _) (Ap _) (by rw [Gl];exact ⟨rfl,rfl,rfl⟩),
  fun fr τ cs x hc=>Cells.Fb (Ap _) (λ_ _ _=>rfl) (λb _ hA=>by
  rcases hA with ⟨m,r,hm,hg⟩|h2
  ·by_cases e:m=l
   ·subst e;rw [Gl] at hm;cases hm
   ·rw [Gj π none e] at hm;exact .inl ⟨m,r,hm,hg⟩
  ·exact .inr h2) τ cs x hc⟩
theorem Ye (hT:Dz P T) {st:St} {a:Act} (h:Bh X π st a w) (dst:Nat) (t ty:TypeId) (x y:Operand) (av:AV) (st':St) (he:Of T st dst t x y=some (av,st')):
  ∃v' w' π',(Builtin.append_ #[t,t] ty #[a.eval x,a.eval y]).run P w= .ok v' w'/\Bh X π' st' a w'/\Bq X w' π' st'.heap av v':=by
 unfold Of at he
 split at he
 ·cases he
 ·rename_i te l6
  split at he
  ·rename_i e y' st1 Ym hs
   obtain ⟨cj,h1,h2,h3,h4,h5⟩:=c8 h (Dr h.2 y) hs
   split at he
   ·cases he
   ·rename_i rW ys hv
    dsimp only at he
    have QK: ∀tr2,tr2=(e.flat||(Tp st (st.ev y)&&e.tree))->tr2=true->e.flat=true\/ ∃F,De w F (.slice e) [a.eval y] ys/\gX X w cj F:=by
     intro tr2 e2 nz
     subst e2
     cases hef:e.flat with
     |true=>exact .inl rfl
     |false=>
     right
     simp only [hef,Xi,Af] at nz
     obtain ⟨F,us,f1,f2,f3,_⟩:=h5 nz.1 (.slice e) rW ys nz.2 hv
     have YW:us= [a.eval y]:=by
      simp only [De] at f1
      obtain ⟨a0,len,cap,rfl,_⟩:=f1
      rw [f2];simp [Cb,Ty.Ao]
     rw [YW] at f1
     exact ⟨F,f1,f3⟩
    have hyc:Cells w (Da X.w0.heap.size X.Sc cj rW) (.slice e) [a.eval y] ys:=Cw.Sh rfl (Mx _ y' _ rW ys h3 h2 hv)
    have hxr:=Dr h1.2 x
    split at he
    ·rename_i hx
     rw [hx] at hxr
     have hxv:a.eval x= .slice none 0 0:=hxr
     split at he
     ·rename_i p6
      simp only [Aa,Ae] at he
      obtain ⟨rfl,rfl⟩:=he
      obtain ⟨k1,k2,k3⟩:=tW h1 dst p6.2 (T.sX||e.flat) T.BH te e
      have:=mL (ty:=ty) hT k1 l6 Ym p6.2 (fr3:=rW||e.flat) (tr2:=e.flat||(Tp st (st.ev y)&&e.tree)) rfl (St.Gv st1 dst _) k2 (k3 _ _ _ _ hyc) (by rw [Bo];exact p6.1) (λht=>by
       rcases QK _ rfl ht with h0|⟨F,f1,f2⟩
       ·exact .inl h0
       ·exact .inr ⟨F,f1,f2.drop⟩)
      rw [<-hxv] at this
      exact this
     ·cases he
    ·rename_i l off len hx
     rw [hx] at hxr
     split at he
     ·rename_i fr tr e' tid xs hl
      split at he
      ·rename_i Jv
       obtain ⟨rfl,rfl⟩:=Jv
       split at he
       ·rename_i p6
        simp only [Aa,Ae] at he
        obtain ⟨rfl,rfl⟩:=he
        exact mL (ty:=ty) hT h1 l6 Ym p6.2 (fr3:=rW||e'.flat) (tr2:=e'.flat||(Tp st (st.ev y)&&e'.tree)) rfl hl hxr hyc p6.1 (QK _ rfl)
       ·cases he
      ·cases he
     ·cases he
    ·cases he
  ·cases he
theorem mV (hT:Dz P T) {st:St} {a:Act} (h:Bh X π st a w) (dst:Nat) (t ty:TypeId) (x y:Operand) (av:AV) (st':St) (he:Rt T st dst t x y=some (av,st')):
  ∃v' w' π',(Builtin.append_ #[t,t] ty #[a.eval x,a.eval y]).run P w= .ok v' w'/\Bh X π' st' a w'/\Bq X w' π' st'.heap av v':=by
 unfold Rt at he
 split at he
 ·rename_i tx
  split at he
  ·rename_i l i c hg
   split at he
   ·rename_i e te rows kp tid hl _
    split at he
    ·rename_i hc
     simp only [Af,Nn,Fz] at hc
     have iO:dst≠l:= λe=>by rw [e,Nat.beq_refl] at hc;cases hc.2.2
     unfold St.at at hl
     have hv:Hq X w π st.heap (.sub l i c) (a.tmps.getD tx undef):=by
      have:=h.2.tmps tx
      rw [hg] at this
      exact this
     obtain ⟨cj,h1,h2⟩:=KE (tid:=tid) h hl iO hc.2.1 hc.1 hv
     have h3:=h1.put (some tx) (c:= .at (.own dst 0 (rows.getD i []).length)) h2
     have Aml:a.put (some tx) (a.tmps.getD tx undef)=a:=by
      have:a.tmps.setIfInBounds tx (a.tmps.getD tx undef)=a.tmps:=by
       apply Array.ext_getElem?
       intro k
       rw [Array.getElem?_setIfInBounds]
       split
       ·rename_i e
        subst e
        split
        ·rename_i Jr
         rw [Array.getElem?_eq_getElem Jr];simp
        ·rename_i Jr
         rw [Array.getElem?_eq_none (by omega)]
       ·rfl
      simp only [Act.put,this]
     rw [Aml] at h3
     exact Ye hT h3 dst t ty (.tmp tx) y av st' he
    ·cases he
   ·cases he
  ·exact Ye hT h dst t ty _ y av st' he
 ·exact Ye hT h dst t ty x y av st' he
theorem OU {S:Nat->Prop} {e:Ty} (h:mE e=true): ∃z,Bu e= [z]/\e.Ao=false/\e.size=1/\Cells w S e [z] e.zero/\z.oneCell'=true:=by
 cases e<;>simp [mE] at h
 ·exact ⟨_,rfl,rfl,rfl,rfl,rfl⟩
 ·exact ⟨_,rfl,rfl,rfl,rfl,rfl⟩
 ·exact ⟨_,rfl,rfl,rfl,rfl,rfl⟩
 ·exact ⟨_,rfl,rfl,rfl,⟨none,0,0,rfl,rfl,Ap _, .inl rfl⟩,rfl⟩
 ·exact ⟨_,rfl,rfl,rfl, .inl ⟨rfl,0,rfl⟩,rfl⟩
theorem IZ {e:Ty} {z:Value} (ht:e.tree=true) (h:mE e=true) (hz:Bu e= [z]):De w [] e [z] e.zero:=by
 cases e<;>simp [mE] at h<;>simp only [Bu,Gs,On] at hz<;>subst hz<;>try (simp [Ty.tree] at ht;done)
 ·exact ⟨rfl,rfl⟩
 ·exact ⟨rfl,rfl⟩
 ·exact ⟨rfl,rfl⟩
 ·exact ⟨none,0,0,rfl,rfl,Ap _, .inl ⟨rfl,rfl,rfl,rfl⟩⟩
theorem Ac2 {S:Nat->Prop} : ∀(e:Ty),fW e=true->(Bu e).length=e.size/\Cells w S e (Bu e) e.zero/\(e.tree=true->De w [] e (Bu e) e.zero):=by
 intro e
 induction e with
 |unit=>intro _;exact ⟨rfl,rfl,λ_=>⟨rfl,rfl⟩⟩
 |pair a r gV gR=>
  intro h
  simp only [fW,Af] at h
  obtain ⟨a1,a2,a3⟩:=gV h.1
  obtain ⟨r1,r2,r3⟩:=gR h.2
  exact ⟨by simp [Bu,Ty.size,a1,r1],⟨_,_,rfl,a2,r2⟩,λht=>by simp only [Ty.tree,Af] at ht;exact ⟨_,_,[],[],rfl,rfl,a3 ht.1,r3 ht.2⟩⟩
 |_=>
  intro h
  simp only [fW] at h
  obtain ⟨z,z1,z2,z3,z4,_⟩:=OU (w:=w) (S:=S) h
  exact ⟨by rw [z1,z3];rfl,by rw [z1];exact z4,λht=>by rw [z1];exact IZ ht h z1⟩
theorem QT {z:Array Value} {s m j q:Nat} (hz:z.size=s) (hj:j<m) (hq:q<s):(madeCells z (m*s))[j*s+q]?=z[q]?:=by
 have h1:j*s+q<m*s:=by
  have:=Ej s (show j+1<=m by omega)
  rw [Nat.succ_mul] at this
  omega
 have h2:(j*s+q)%z.size=q:=by rw [hz,Nat.mul_comm,Nat.mul_add_mod,Nat.mod_eq_of_lt hq]
 have h3:q<z.size:=by omega
 unfold madeCells
 simp [h1,h2,h3]
theorem sP (hT:Dz P T) {st:St} {a:Act} (h:Bh X π st a w) (dst:Nat) (t:TypeId) (l c:AV) (vl vc:Value) (hl:Bq X w π st.heap l vl) (hc:Bq X w π st.heap c vc) (av:AV) (st':St)
  (he:bH T st dst t l c=some (av,st')): ∃v' w' π',(Instr.makeSlice t vl vc).run P w= .ok v' w'/\Bh X π' st' a w'/\Bq X w' π' st'.heap av v':=by
 unfold bH at he
 split at he
 ·rename_i te fr1 k1 n rW k2 m l6
  have:=Qe hl;subst this
  have:=Qe hc;subst this
  split at he
  ·rename_i e Ym
   split at he
   ·rename_i Jv
    obtain ⟨h0,hnm,hz,hdp⟩:=Jv
    obtain ⟨h1,h2⟩:=Ui.1 h0
    subst hnm
    simp only [Aa,Ae] at he
    obtain ⟨rfl,rfl⟩:=he
    obtain ⟨i,hi,Vr,rj,tp⟩:=(hT.ty te e Ym).info
    obtain ⟨z1,z4,z5⟩:=Ac2 (w:=w) (S:=Da X.w0.heap.size X.Sc π (T.sX||e.flat)) e hz
    have YY:(Cb e (Bu e)).cells=(Bu e).toArray:=Ld e _ _ z4
    have hu:=hT.elem t te l6
    have hn:n.toNat<=4294967296:=by unfold Ct at h2;omega
    have hr:=run_make (P:=P) (w:=w) t te i _ hu hi tp k1 k2 n n h1 (Qj _) (by
     have:(i.bytes:Int)*n<=256*4294967296:=by
      obtain ⟨nn,rfl⟩:=Ml h1
      have h7:i.bytes*nn<=256*4294967296:=dF rj (by simpa using hn)
      have h8:((i.bytes*nn:Nat):Int)<=256*4294967296:=by omega
      rwa [Int.natCast_mul] at h8
     omega) (by unfold Ct at h2;omega)
    rw [YY,Vr] at hr
    have aB:((Bu e).toArray).size=e.size:=by simpa using z1
    have cell: ∀j,j<n.toNat-> ∀q u,(Bu e)[q]?=some u->(madeCells (Bu e).toArray (n.toNat*e.size)).toList[j*e.size+q]?=some u:=by
     intro j hj q u hu
     have hq:q<e.size:=by rw [<-z1];exact (An.1 hu).1
     have:=QT aB hj hq
     rw [Array.getElem?_toList,this]
     simpa using hu
    have:=fv (w1:=w.alloc (.cells (madeCells (Bu e).toArray (n.toNat*e.size)) te)) h dst hdp (T.sX||e.flat) (T.BH&&e.tree) e te (List.replicate n.toNat e.zero) (madeCells (Bu e).toArray (n.toNat*e.size)).toList (madeCells (Bu e).toArray (n.toNat*e.size)) n.toNat []
     (.inr rfl) (by rw [size_madeCells]) (by unfold maxLen;omega) (by simp)
     (λk u hu=>by
      rw [Array.getElem?_toList] at hu;exact hu) ⟨by simp [size_madeCells],λj x hx=>by
       have hj:=(An.1 hx).1
       simp only [Gd] at hj
       refine ⟨Bu e,z1,λq u hu=>cell j hj q u hu,?_⟩
       rw [Fk (Cm hx)];exact z4⟩ (by simp) (λnz=>⟨Nm,List.replicate n.toNat [],by simp,by simp,λj x F hx hF=>by
      have hj:=(An.1 hx).1
      simp only [Gd] at hj
      refine ⟨Bu e,z1,λq u hu=>cell j hj q u hu,?_⟩
      have e1:=Fk (Cm hx)
      have e2:=Fk (Cm hF)
      rw [e1,e2]
      exact z5 (by simp only [Af] at nz;exact nz.2)⟩)
    exact ⟨_,_,_,hr,this.1,this.2 _ (by simp)⟩
   ·cases he
  ·cases he
 ·cases he
theorem iI (off:Nat): ∀(us:List Value) (k:Nat) (cells:List Value),off+k+us.length<=cells.length->
  (us.zipIdx k).foldl (λcs p=>cs.setIfInBounds (off+p.2) p.1) cells.toArray=(Du cells (off+k) us).toArray
 | [],k,cells,h=>by simp [Du]
 |u::us,k,cells,h=>by
  simp only [List.zipIdx_cons,Jj]
  rw [show cells.toArray.setIfInBounds (off+k) u=(cells.set (off+k) u).toArray by simp]
  rw [iI off us (k+1) (cells.set (off+k) u) (by simp at h⊢;omega)]
  congr 1
  apply List.ext_getElem?
  intro j
  have hl:off+k+(u::us).length<=cells.length:=h
  have CA:off+(k+1)+us.length<=(cells.set (off+k) u).length:=by simp at h⊢;omega
  rw [Ii _ _ _ _ hl,Ii _ _ _ _ CA]
  simp only [Av]
  by_cases h1:j<off+k
  ·rw [Ac (by omega),Ac h1,List.getElem?_set_ne (by omega)]
  ·rw [Ak h1]
   by_cases h2:j=off+k
   ·subst h2
    rw [Ac (by omega),Ac (by omega),List.getElem?_set_self (by simp at h;omega)]
    simp
   ·rw [Ak (by omega)]
    by_cases h3:j<off+k+(us.length+1)
    ·rw [Ac (by omega),Ac h3]
     rw [show j-(off+k)=(j-(off+(k+1)))+1 by omega,Mm]
    ·rw [Ak (by omega),Ak h3,List.getElem?_set_ne (by omega)]
theorem x8 (place:Nat->Option (Nat×Nat)) (cells:List Value) (i:Nat) (v:Value) (rest:List (Nat×Value)) (off size:Nat) (us:List Value) (hp:place i=some (off,size)) (hv:v.cells=us.toArray)
  (hl:us.length=size) (hle:off+size<=cells.length):Instr.fill place cells.toArray ((i,v)::rest)=Instr.fill place (Du cells off us).toArray rest:=by
 simp only [Instr.fill,hp,hv,Gt,hl]
 rw [Ak (by simp;omega)]
 congr 1
 have:=iI off us 0 cells (by omega)
 simp only [Ek] at this
 rw [<-this]
 simp
theorem Ya (e:Ty) {a:Act} : ∀(parts:List (Nat×Operand)) (i:Nat) (st:St) (π:Pi) (fr tr:Bool) (ys:List e.den) (st':St) (cells:List Value),Bh X π st a w->Lk e i parts st=some (fr,tr,ys,st')->
  (i+parts.length)*e.size<=cells.length->
  ∃π' cl,Bh X π' st' a w/\Flat w (Da X.w0.heap.size X.Sc π' fr) e cl ys/\ys.length=parts.length/\Ky π π' st.heap st'.heap/\
   Instr.fill (λi=>some (i*e.size,e.size)) cells.toArray (parts.map λp=>(p.1,a.eval p.2))=some (Du cells (i*e.size) cl).toArray/\
   (tr=true-> ∃Fs,Tc w e cl ys Fs/\gX X w π' (List.flatten Fs)/\ ∀b∈List.flatten Fs,∃l r,π l=some r/\r.cl b)
 | [],i,st,π,fr,tr,ys,st',cells,h,he,hle=>by
  simp only [Lk,Aa,Ae] at he
  obtain ⟨rfl,rfl,rfl,rfl⟩:=he
  exact ⟨π,[],h,Flat.nil,rfl,Ky.refl _ _,by simp [Instr.fill,Du],λ_=>⟨[],⟨rfl,λi z F hz=>by simp at hz⟩,⟨Nm,by simp⟩,by simp⟩⟩
 |(j,x)::r,i,st,π,fr,tr,ys,st',cells,h,he,hle=>by
  simp only [Lk] at he
  split at he
  ·rename_i jV;subst jV
   split at he
   ·rename_i v' st1 hs
    obtain ⟨cj,h1,h2,h3,h4,h5⟩:=c8 h (Dr h.2 x) hs
    split at he
    ·rename_i fr1 y hv
     split at he
     ·rename_i rW tr2 zs st2 hr
      simp only [Aa,Ae] at he
      obtain ⟨rfl,rfl,rfl,rfl⟩:=he
      obtain ⟨es,gN,KQ⟩:=Mx e v' _ fr1 y h3 h2 hv
      have l4:=Cells.len e es y gN
      have Aru:i*e.size+e.size<=cells.length:=by
       have:(i+1)*e.size<=(i+((i,x)::r).length)*e.size:=Ej _ (by simp)
       rw [Dg,So] at this
       omega
      have QC:i*e.size+es.length<=cells.length:=by omega
      obtain ⟨WC,cl,g1,g2,g3,g4,g5,g6⟩:=Ya e r (i+1) st1 cj rW tr2 zs st2 (Du cells (i*e.size) es) h1 hr (by
       rw [Je _ _ _ QC]
       rw [show i+1+r.length=i+((i,x)::r).length by simp;omega];exact hle)
      have f1:Flat w (Da X.w0.heap.size X.Sc WC fr1) e es [y]:=⟨by simp [l4],λq z hz=>by
       rcases q with _|q
       ·simp at hz;subst hz
        exact ⟨es,l4,λj u hu=>by simpa using hu,yH g1 g4 e es y gN⟩
       ·simp at hz⟩
      refine ⟨WC,es++cl,g1,?_,by simp [g3],h4.trans g4,?_,λht=>?_⟩
      ·have:=(f1.cells λes z hc=>hc.and_left (f2:=rW)).append (g2.cells λes z hc=>hc.and_right (f1:=fr1))
       simpa using this
      ·simp only [Bm]
       rw [x8 _ cells i (a.eval x) _ (i*e.size) e.size es rfl (by rw [KQ];exact Ld e es y gN) l4 Aru,g5]
       congr 2
       have Qk:cl.length=r.length*e.size:=by rw [g2.1,g3]
       have Yk:(i+1)*e.size+cl.length<=(Du cells (i*e.size) es).length:=by
        rw [Je _ _ _ QC,Qk,<-Dg]
        rw [show i+1+r.length=i+((i,x)::r).length by simp;omega];exact hle
       have Alj:i*e.size+(es++cl).length<=cells.length:=by
        rw [Je _ _ _ QC] at Yk
        rw [Au,l4]
        rw [Dg,So] at Yk
        omega
       have e1:(i+1)*e.size=i*e.size+es.length:=by rw [Dg,So,l4]
       apply List.ext_getElem?
       intro k
       rw [Ii _ _ _ _ Yk,Ii _ _ _ _ Alj,Ii _ _ _ _ QC,e1,Au]
       by_cases k1:k<i*e.size
       ·rw [Ac (by omega),Ac k1,Ac k1]
       ·rw [Ak k1,Ak k1]
        by_cases k2:k<i*e.size+es.length
        ·rw [Ac k2,Ac k2,Ac (by omega),As (by omega)]
        ·rw [Ak k2,Ak k2]
         by_cases k3:k<i*e.size+es.length+cl.length
         ·rw [Ac k3,Ac (by omega),Ar (by omega)]
          congr 1;omega
         ·rw [Ak k3,Ak (by omega)]
      ·simp only [Af] at ht
       obtain ⟨⟨ht1,ht2⟩,ht3⟩:=ht
       obtain ⟨F,us,t1,t2,t3,t7⟩:=h5 ht1 e fr1 y ht2 hv
       obtain ⟨Fs,t4,t5,t6⟩:=g6 ht3
       have YW:us=es:=by
        have c1:=De.cells (S:= λ_=>False) F e us y t1 (λ_ _ h=>h)
        have a1:=Ld e us y c1
        have a2:=Ld e es y gN
        rw [<-t2,KQ,a2] at a1
        simpa using a1.symm
       subst YW
       refine ⟨F::Fs,?_,?_,λb hb=>?_⟩
       ·have k1:Tc w e us [y] [F]:=⟨rfl,λq z G hz hG=>by
         rcases q with _|q
         ·simp at hz hG;subst hz;subst hG
          exact ⟨us,l4,λj u hu=>by simpa using hu,t1⟩
         ·simp at hz⟩
        exact Tc.append (by simp [l4]) k1 t4
       ·rw [Lf]
        refine ⟨Dt.2 ⟨t3.1,t5.1,λb hb b' vq e=>?_⟩,λb hb=>?_⟩
        ·subst e
         obtain ⟨l,r,q1,q2⟩:=t6 b vq
         exact (t3.2 b hb).2.2 l r q1 q2
        ·rcases Ax.1 hb with hb|hb
         ·have:=t3.2 b hb
          refine ⟨this.1,this.2.1,λl r q1 q2=>?_⟩
          cases hh:At st2.heap l with
          |none=>rw [(g1.1.heap l).emp hh] at q1;cases q1
          |some b'=>exact this.2.2 l r ((g4 l b' hh).1▸q1) q2
         ·exact t5.2 b hb
       ·rw [Lf] at hb
        rcases Ax.1 hb with hb|hb
        ·exact t7 b hb
        ·obtain ⟨l,r,q1,q2⟩:=t6 b hb
         cases hh:At st1.heap l with
         |none=>rw [(h1.1.heap l).emp hh] at q1;cases q1
         |some b'=>exact ⟨l,r,(h4 l b' hh).1▸q1,q2⟩
     ·cases he
    ·cases he
   ·cases he
  ·cases he
theorem iC (hT:Dz P T) {st:St} {a:Act} (h:Bh X π st a w) (dst:Nat) (t:TypeId) (len:Nat) (parts:Array (Nat×Operand)) (av:AV) (st':St)
  (he:Mp T st dst t len parts=some (av,st')):
  ∃v' w' π',(Instr.buildSlice t len (parts.map λ(i,x)=>(i,a.eval x))).run P w= .ok v' w'/\Bh X π' st' a w'/\Bq X w' π' st'.heap av v':=by
 unfold Mp at he
 split at he
 ·cases he
 ·rename_i te l6
  split at he
  ·cases he
  ·rename_i e Ym
   split at he
   ·rename_i Jv
    obtain ⟨kF,hlen⟩:=Jv
    split at he
    ·rename_i fr tr ys st1 hb
     simp only [Aa,Ae] at he
     obtain ⟨rfl,rfl⟩:=he
     obtain ⟨i,hi,Vr,rj,tp⟩:=(hT.ty te e Ym).info
     have hu:=hT.elem t te l6
     have SP:parts.toList.length=len:=by simpa using kF
     have hz: ∃z:Array Value,(len*e.size=0/\z= #[])\/(¬len*e.size=0/\(zeroValue te).run P w= .ok (Cb e (Bu e)) w/\z=(Cb e (Bu e)).cells):=by
      by_cases h0:len*e.size=0
      ·exact ⟨#[], .inl ⟨h0,rfl⟩⟩
      ·exact ⟨_, .inr ⟨h0,by simp [zeroValue,typeInfo,hi,tp],rfl⟩⟩
     obtain ⟨z,hz⟩:=hz
     obtain ⟨cj,cl,g1,g2,g3,g4,g5,g6⟩:=Ya e parts.toList 0 st π fr tr ys st1 ((Array.range (len*e.size)).map (z[· %z.size]!)).toList h hb (by simp [SP])
     have Qk:cl.length=len*e.size:=by rw [g2.1,g3,SP]
     have YV:(Du ((Array.range (len*e.size)).map (z[· %z.size]!)).toList (0*e.size) cl)=cl:=by
      simp [Du,Qk]
     rw [YV] at g5
     have Vs:(Instr.buildSlice t len (parts.map λ(i,x)=>(i,a.eval x))).run P w= .ok (.slice (some ⟨w.heap.size,0,none⟩) len len) (w.alloc (.cells cl.toArray te)):=by
      have h24: ¬(len*e.size>2^24):=by
       have:len*e.size<=64*64:=dF hlen.1 hlen.2.1
       omega
      simp only [Instr.buildSlice,Sem.run_bind,run_underlying hu,Result.andThen_ok,(hT.ty te e Ym).size,Ak h24]
      have e1:(parts.map λ(i,x)=>(i,a.eval x)).toList=parts.toList.map λp=>(p.1,a.eval p.2):=by simp
      simp only [e1]
      have e2:(((Array.range (len*e.size)).map (z[· %z.size]!)).toList.toArray)=(Array.range (len*e.size)).map (z[· %z.size]!):=Array.toArray_toList
      rw [e2] at g5
      rcases hz with ⟨h0,rfl⟩|⟨h0,hz,rfl⟩
      ·rw [Ac h0]
       simp only [Sem.run_bind,Sem.run_pure,Result.andThen_ok,g5,newRow]
       simp
      ·rw [Ak h0]
       simp only [Sem.run_bind,Sem.run_pure,Result.andThen_ok,hz,g5,newRow]
       simp
     have hN: ∃N:List Nat,(∀b∈N,(X.w0.heap.size<=b\/X.gv b)/\b<w.heap.size/\ ∀m r0,m≠dst->cj m=some r0-> ¬r0.cl b)/\(tr=true->N.Nodup/\ ∃Fs,List.flatten Fs=N/\Tc w e cl ys Fs):=by
      cases tr with
      |false=>exact ⟨[],by simp,λh=>by cases h⟩
      |true=>
       obtain ⟨Fs,t1,t2,_⟩:=g6 rfl
       exact ⟨_,λb hb=>⟨(t2.2 b hb).1,(t2.2 b hb).2.1,λm r0 _=>(t2.2 b hb).2.2 m r0⟩,λ_=>⟨t2.1,Fs,rfl,t1⟩⟩
     obtain ⟨N,q1,q2⟩:=hN
     have:=fv (w1:=w.alloc (.cells cl.toArray te)) g1 dst hlen.2.2 ((T.sX||e.flat)&&fr) (T.BH&&tr) e te ys cl cl.toArray len N (.inr rfl) (by simpa using Qk) (by simp only [maxLen];omega) (by omega) (λk u hu=>by simpa using hu) (g2.cells λes z hc=>hc.and_right) q1 (λht=>q2 (by simp only [Af] at ht;exact ht.2))
     exact ⟨_,_,_,Vs,this.1,this.2 _ (by omega)⟩
    ·cases he
   ·cases he
theorem lZ {t te:TypeId} {e:Ty} (h:e8 T t=some (te,e)):T.elem t=some te/\T.ty te=some (.slice e):=by
 unfold e8 at h
 cases he:T.elem t with
 |none=>rw [he] at h;cases h
 |some Rj=>
  rw [he] at h
  simp only [Ff] at h
  cases hg:T.PW Rj with
  |none=>rw [hg] at h;cases h
  |some e'=>
   rw [hg] at h
   simp only [Am,Aa,Ae] at h
   obtain ⟨rfl,rfl⟩:=h
   refine ⟨rfl,?_⟩
   unfold Tab.PW at hg
   split at hg
   ·split at hg
    ·rename_i Ym;simp only [Aa] at hg;subst hg;exact Ym
    ·cases hg
   ·cases hg
theorem mN (w:World) (o:Obj):Kw w.heap.size (λ_=>False) w (w.alloc o):=⟨rfl,rfl,rfl,by simp,λk hk _=>Below.heap_alloc w _ k hk⟩
theorem q7 (w:World) (o:Obj):Kw w.heap.size (λ_=>False) w (w.drew.alloc o):=⟨rfl,rfl,rfl,by simp,λk hk _=>Below.heap_alloc w.drew _ k hk⟩
theorem rf (hT:Dz P T) {st:St} {a:Act} (h:Bh X π st a w) (dst:Nat) (t:TypeId) (l c:AV) (vl vc:Value) (hl:Bq X w π st.heap l vl) (hc:Bq X w π st.heap c vc) (av:AV) (st':St)
  (he:Yi T st dst t l c=some (av,st')): ∃v' w' π',(Instr.makeSlice t vl vc).run P w= .ok v' w'/\Bh X π' st' a w'/\Bq X w' π' st'.heap av v':=by
 unfold Yi at he
 split at he
 ·exact sP hT h dst t l c vl vc hl hc av st' he
 ·rename_i te e hg
  obtain ⟨l6,Ym⟩:=lZ hg
  split at he
  ·rename_i fr1 k1 n rW k2 m
   have:=Qe hl;subst this
   have:=Qe hc;subst this
   split at he
   ·rename_i Jv
    obtain ⟨h0,hnm,hdp⟩:=Jv
    obtain ⟨h1,h2⟩:=Ui.1 h0
    subst hnm
    simp only [Aa,Ae] at he
    obtain ⟨rfl,rfl⟩:=he
    obtain ⟨i,hi,Vr,rj,tp⟩:=(hT.ty te _ Ym).info
    have hu:=hT.elem t te l6
    have hn:n.toNat<=4294967296:=by unfold Ct at h2;omega
    have hr:=run_make (P:=P) (w:=w) t te i _ hu hi tp k1 k2 n n h1 (Qj _) (by
     have:(i.bytes:Int)*n<=256*4294967296:=by
      obtain ⟨nn,rfl⟩:=Ml h1
      have h7:i.bytes*nn<=256*4294967296:=dF rj (by simpa using hn)
      have h8:((i.bytes*nn:Nat):Int)<=256*4294967296:=by omega
      rwa [Int.natCast_mul] at h8
     omega) (by unfold Ct at h2;omega)
    have YY:(Cb (Ty.slice e) (Bu (Ty.slice e))).cells= #[.slice none 0 0]:=by simp [Cb,Ty.Ao,Bu,Value.cells]
    have iP:(Ty.slice e).size=1:=rfl
    rw [YY,Vr,iP] at hr
    have cell: ∀j,j<n.toNat->(madeCells #[Value.slice none 0 0] (n.toNat*1))[0+j]?=some (.slice none 0 0):=by
     intro j hj
     have:=QT (z:= #[Value.slice none 0 0]) (s:=1) (m:=n.toNat) (j:=j) (q:=0) rfl hj (by omega)
     simp only [Fe,Ek] at this
     simp only [Fe,Bo]
     rw [this];rfl
    obtain ⟨π',g1,g2⟩:=Zv (w1:=w.alloc (.cells (madeCells #[Value.slice none 0 0] (n.toNat*1)) te)) (gv:= λ_=>False) h hdp hdp te (e:=e) (rows:=List.replicate n.toNat []) (us:=List.replicate n.toNat (.slice none 0 0)) (Rs:=List.replicate n.toNat none) (g:=w.heap.size) (o:=0) (cap:=n.toNat)
     (λ_ hf=>hf.elim) (mN w _) ⟨.inl (Ap _),by simp⟩ (heap_alloc_new w _) (by rw [size_madeCells];omega) (by unfold maxLen;omega) (by simp) (λj u hu=>by
      have hj:=(An.1 hu).1
      simp only [Gd] at hj
      rw [cell j hj,Fk (Cm hu)])
     ⟨by simp,by simp,λi j q q' h1=>(by have:=Fk (Cm h1);cases this),λi x hx=>by
      have hj:=(An.1 hx).1
      simp only [Gd] at hj
      rw [Fk (Cm hx)]
      exact ⟨.slice none 0 0,none,by rw [Zh,Ac hj],by rw [Zh,Ac hj],⟨rfl,rfl,rfl⟩,rfl⟩⟩
     (λi q h1=>by have:=Fk (Cm h1);cases this)
    exact ⟨_,_,π',hr,g1,g2 _ (by simp)⟩
   ·cases he
  ·cases he
theorem gK (hT:Dz P T) {st:St} {a:Act} (h:Bh X π st a w) (dst:Nat) (t:TypeId) (len:Nat) (parts:Array (Nat×Operand)) (av:AV) (st':St)
  (he:Jg T st dst t len parts=some (av,st')):
  ∃v' w' π',(Instr.buildSlice t len (parts.map λ(i,x)=>(i,a.eval x))).run P w= .ok v' w'/\Bh X π' st' a w'/\Bq X w' π' st'.heap av v':=by
 unfold Jg at he
 split at he
 ·exact iC hT h dst t len parts av st' he
 ·rename_i te e hg
  obtain ⟨l6,Ym⟩:=lZ hg
  split at he
  rotate_left
  ·cases he
  rename_i x Ai0
  split at he
  rotate_left
  ·cases he
  rename_i m off ln hx
  split at he
  rotate_left
  ·cases he
  rename_i fr tr e' tid xs hm
  split at he
  rotate_left
  ·cases he
  rename_i hc
  obtain ⟨rfl,hc,rfl,rfl⟩:=hc
  simp only [Af,Nn] at hc
  obtain ⟨hlen,hdp,hmp⟩:=hc
  have hlen:len=1:=Jt hlen
  subst hlen
  simp only [Aa,Ae] at he
  obtain ⟨rfl,rfl⟩:=he
  have hu:=hT.elem t te l6
  unfold St.at at hm
  have hrx:=Dr h.2 x
  rw [hx] at hrx
  obtain ⟨_,vr⟩:=Ot (X:=X) (w:=w) hrx hm
  obtain ⟨ax,nx,cx,hvx⟩:=aU vr
  have hp:parts= #[(0,x)]:=by apply Pg;simpa using Ai0
  subst hp
  obtain ⟨i,hi,Vr,rj,tp⟩:=(hT.ty te _ Ym).info
  have Vs:(Instr.buildSlice t 1 (#[(0,x)].map λ(i,x)=>(i,a.eval x))).run P w= .ok (.slice (some ⟨w.heap.size,0,none⟩) 1 1) (w.alloc (.cells #[a.eval x] te)):=by
   have iP:(Ty.slice e').size=1:=rfl
   have hz:(zeroValue te).run P w= .ok (.slice none 0 0) w:=by simp [zeroValue,typeInfo,hi,tp,Cb,Ty.Ao,Bu]
   have hmp:(#[(0,x)].map λ(i,x)=>(i,a.eval x))= #[(0, .slice ax nx cx)]:=by simp [hvx]
   rw [hmp,hvx]
   simp only [Instr.buildSlice,Sem.run_bind,run_underlying hu,Result.andThen_ok,(hT.ty te _ Ym).size,iP]
   simp [Value.cells,Instr.fill,newRow,hz]
   congr 2
   apply Array.ext
   ·simp
   ·intro i h1 h2
    have h0:i=0:=by simpa using h2
    subst h0
    simp
  have JB:=(h.1.heap m).Rp hm
  simp only [Cj,Ki] at JB
  have hfa:Td w (Da X.w0.heap.size X.Sc π false) (π m) e' xs:=by
   cases hR:π m with
   |none=>rw [hR] at JB;exact JB
   |some q=>
    rw [hR] at JB
    obtain ⟨⟨f0,f0',_⟩,cu,ti',f2,f3,f4,f5,f6,_⟩:=JB
    exact ⟨⟨f0,f0'⟩,cu,ti',f2,f3,f4,f5,λp y hy=>by
     obtain ⟨es,g1,g2,g3⟩:=f6 p y hy
     exact ⟨es,g1,g2,Cells.Fb (Ap _) (λ_ _ _=>rfl) (λb _ hA=>hA.imp id (Or.imp id λ⟨h1,_⟩=>by cases h1)) e' es y g3⟩⟩
  obtain ⟨π',g1,g2⟩:=Zv (w1:=w.alloc (.cells #[a.eval x] te)) (gv:= λ_=>False) h hdp hmp te (e:=e') (rows:= [xs]) (us:= [a.eval x]) (Rs:= [π m]) (g:=w.heap.size) (o:=0) (cap:=1)
   (λ_ hf=>hf.elim) (mN w _) ⟨.inl (Ap _),by simp⟩ (heap_alloc_new w _) rfl (by unfold maxLen;omega) (by simp) (λj u hu=>by
    rcases j with _|j
    ·simpa using hu
    ·simp at hu)
   ⟨rfl,rfl,λi j q q' h1 h2 _=>by
    rcases i with _|i
    ·rcases j with _|j
     ·rfl
     ·simp at h2
    ·simp at h1,λi y hy=>by
    rcases i with _|i
    ·simp only [Bv,Aa] at hy
     subst hy
     exact ⟨_,_,rfl,rfl,vr,hfa⟩
    ·simp at hy⟩
   (λi q h1=>by
    rcases i with _|i
    ·simp only [Bv,Aa] at h1
     have hf:=h.1.Cv h1
     have:=(h.1.place m q _ h1 (h.1.sub m q _ h1 hf)).2
     exact ⟨by omega,λh=>h,m,q, .inr rfl,h1,hf⟩
    ·simp at h1)
  exact ⟨_,_,π',Vs,g1,g2 1 rfl⟩
theorem mW (hT:Dz P T) {st:St} {a:Act} (h:Bh X π st a w) (dst:Nat) (t ty:TypeId) (x y:Operand) (av:AV) (st':St) (he:Ru T st dst t x y=some (av,st')):
  ∃v' w' π',(Builtin.append_ #[t,t] ty #[a.eval x,a.eval y]).run P w= .ok v' w'/\Bh X π' st' a w'/\Bq X w' π' st'.heap av v':=by
 unfold Ru at he
 split at he
 ·exact mV hT h dst t ty x y av st' he
 ·rename_i te e hg
  obtain ⟨l6,Ym⟩:=lZ hg
  split at he
  rotate_left
  ·cases he
  rename_i l off len m Aa1 tN hx hy
  split at he
  rotate_left
  ·cases he
  rename_i e1 te1 A kp1 e2 wB B kp2 hl hm
  split at he
  rotate_left
  ·cases he
  rename_i hc
  obtain ⟨⟨rfl,rfl⟩,hc,⟨rfl,rfl⟩,⟨rfl,rfl⟩,hB,p6⟩:=hc
  simp only [Af,Nn,Rd,Fz] at hc
  obtain ⟨⟨rfl,rfl⟩,tu,hmp,iO⟩:=hc
  have iO:m≠l:= λe=>by rw [e,Nat.beq_refl] at iO;cases iO
  simp only [Aa,Ae] at he
  obtain ⟨rfl,rfl⟩:=he
  have hu:=hT.elem t wB l6
  obtain ⟨i,hi,Vr,rj,tp⟩:=(hT.ty wB _ Ym).info
  have Vr:i.size=1:=Vr
  unfold St.at at hl hm
  have hrx:=Dr h.2 x
  have hry:=Dr h.2 y
  rw [hx] at hrx;rw [hy] at hry
  obtain ⟨b1,s1,n1,q1,q2,_,hox⟩:=hrx
  rw [hl] at q1;cases q1
  simp only [OB.row,Aa,Ae] at q2
  obtain ⟨rfl,rfl⟩:=q2
  obtain ⟨b2,s2,n2,q1,q2,_,hoy⟩:=hry
  rw [hm] at q1;cases q1
  simp only [OB.row,Aa,Ae] at q2
  obtain ⟨rfl,rfl⟩:=q2
  have hA:=((h.1.heap l).Rp hl).1
  have hBb:=((h.1.heap m).Rp hm).1
  cases hpm:π m with
  |none=>
   rw [hpm] at hBb
   have hBb:B= []:=hBb
   subst hBb;simp at hB
  |some rB=>
  rw [hpm] at hBb hoy
  obtain ⟨fB,Avj,tiB,uB,RB,w1B,w2B,w3B,w4B,w5B,w6B,w7B,LB⟩:=xc hBb
  obtain ⟨adB,hvy,hcB,haB⟩:=hoy
  have haB:=haB (by omega)
  subst haB
  have hlB:=LB.1
  have n1':uB.length=B.length*i.size:=by rw [Vr,Fe];exact hlB
  have n2': ∀j u,uB[j]?=some u->w.cell? ((⟨rB.g,(rB.o+0)*1,none⟩:Addr).add j)=some u:= λj u hu=>by
   rw [Addr.add_lit,cellOf w1B,Fe,Ek];exact w5B j u hu
  have th:(A.length+B.length)*i.bytes<=140737488355328:=by
   have:(A.length+B.length)*i.bytes<=4294967296*256:=dF p6 rj
   omega
  have iQ:A.length+B.length<=maxLen:=by unfold Ct at p6;simp only [maxLen];omega
  have hzs:(Cb (Ty.slice e2) (Bu (Ty.slice e2))).cells.size=1:=by simp [Cb,Ty.Ao,Bu,Value.cells]
  have Wk: ∀(k:Nat) (q:Real) (Rs:List (Option Real)),π k=some q->(∀(i:Nat) (p:Real),Rs[i]?=some (some p)->q.Cv p.g/\p.g≠q.g)-> ∀(i:Nat) (p:Real),Rs[i]?=some (some p)->p.g<w.heap.size:= λk q Rs h1 h2 i p h3=>
   (h.1.place k q _ h1 (h.1.sub k q _ h1 (h2 i p h3).1)).2
  cases kF:π l with
  |none=>
   rw [kF] at hA hox
   have hA:A= []:=hA
   subst hA
   obtain ⟨hvx,_,_⟩:=hox
   rw [hvx,hvy]
   simp only [Fg,Bo,List.nil_append] at p6 th iQ⊢
   have hr:=run_append_nil (P:=P) w t ty wB i _ hu hi tp ⟨rB.g,(rB.o+0)*1,none⟩ B.length (rB.cap-0) uB n1' n2' hB (by simp only [maxLen] at iQ;omega) (by omega)
   have oD:=grownCap_ge w B.length 0 wB
   have hcm:=grownCap_le_maxLen w B.length 0 wB (by omega)
   obtain ⟨π',g1,g2⟩:=Zv (w1:=w.drew.alloc (.cells (uB.toArray++Builtin.zeroCells (Cb (Ty.slice e2) (Bu (Ty.slice e2))).cells (grownCap w B.length 0 wB-B.length)) wB)) (gv:= λ_=>False) h tu hmp wB (e:=e2) (rows:=B) (us:=uB) (Rs:=RB) (g:=w.heap.size) (o:=0) (cap:=grownCap w B.length 0 wB)
    (λ_ hf=>hf.elim) (q7 w _) ⟨.inl (Ap _),by simp⟩ (heap_alloc_new w.drew _) (by rw [Array.size_append,Gt,Un,hzs];omega) hcm oD (λj u hu=>by
     have hj:=(An.1 hu).1
     rw [Bo,Tr (by simpa using hj)];simpa using hu)
    LB (λi q h1=>⟨by have:=Wk m rB RB hpm w7B i q h1;omega,λh=>h,m,rB, .inr rfl,hpm,(w7B i q h1).1⟩)
   exact ⟨_,_,π',hr,g1,g2 _ rfl⟩
  |some rA=>
   rw [kF] at hA hox
   obtain ⟨fA,SD,tiA,uA,RA,w1A,w2A,w3A,w4A,w5A,w6A,w7A,LA⟩:=xc hA
   obtain ⟨adA,hvx,hcA,haA⟩:=hox
   have hlA:=LA.1
   rw [hvx,hvy]
   have apart: ∀(i j:Nat) (q q':Real),RA[i]?=some (some q)->RB[j]?=some (some q')->q.g≠q'.g:= λi j q q' h1 h2 e=>by
    have:=h.1.apart kF hpm (w7A i q h1).1 (e▸(w7B j q' h2).1)
    exact iO this.symm
   have LAB:=sm.append LA LB apart
   have Iv: ∀(i:Nat) (q:Real),RB[i]?=some (some q)->q.g≠rA.g:= λi q h1 e=>iO (h.1.apart hpm kF (w7B i q h1).1 (e▸fA))
   have hRs: ∀(i:Nat) (q:Real),(RA++RB)[i]?=some (some q)->q.g≠rA.g/\q.g<w.heap.size/\ ∃k p,(k=l\/k=m)/\π k=some p/\p.Cv q.g:= λi q h1=>by
    by_cases hi:i<RA.length
    ·rw [As hi] at h1
     exact ⟨(w7A i q h1).2,Wk l rA RA kF w7A i q h1,l,rA, .inl rfl,kF,(w7A i q h1).1⟩
    ·rw [Ar (by omega)] at h1
     exact ⟨Iv _ q h1,Wk m rB RB hpm w7B _ q h1,m,rB, .inr rfl,hpm,(w7B _ q h1).1⟩
   by_cases EI:A.length+B.length<=rA.cap-0
   ·have haA:=haA (by omega)
    subst haA
    have Yk:(rA.o+0)*1+A.length*i.size+uB.length<=SD.size:=by rw [Vr];omega
    have Zw:(rA.o+0)*1+A.length*i.size+uB.length<=SD.toList.length:=by simpa using Yk
    have hr:=aH (P:=P) (w:=w) (ty:=ty) hu hi rA.g ((rA.o+0)*1) A.length (rA.cap-0) SD tiA w1A ⟨rB.g,(rB.o+0)*1,none⟩ B.length (rB.cap-0) uB n1' n2' w6B EI Yk
    have tm:=Nu w rA.g (Du SD.toList ((rA.o+0)*1+A.length*i.size) uB).toArray
    obtain ⟨π',g1,g2⟩:=Zv (w1:=w.setRow rA.g (Du SD.toList ((rA.o+0)*1+A.length*i.size) uB).toArray) (gv:= λb=>b=rA.g) h tu hmp wB (e:=e2) (rows:=A++B) (us:=uA++uB) (Rs:=RA++RB) (g:=rA.g) (o:=rA.o) (cap:=rA.cap)
     (λb hb=>⟨l,rA, .inl rfl,kF,hb▸fA⟩) ⟨tm.os,tm.tape,tm.output,tm.size,λc _ hc=>setRow_other w rA.g c _ hc⟩ ⟨.inr ⟨l,rA, .inl rfl,kF,fA⟩,Eg (Gi w1A) tm.size⟩
     (setRow_heap w rA.g SD _ tiA _ w1A) (by rw [Gt,Je _ _ _ Zw,Xu];exact w2A) w3A (by simp;omega) (λj u hu=>by
      rw [Ij,Ii _ _ _ _ Zw,Vr]
      by_cases hj:j<uA.length
      ·rw [As hj] at hu
       rw [Ac (by omega),Array.getElem?_toList]
       exact w5A j u hu
      ·rw [Ar (by omega)] at hu
       have:=(An.1 hu).1
       rw [Ak (by omega),Ac (by omega)]
       rw [show rA.o+j-((rA.o+0)*1+A.length*1)=j-uA.length by omega]
       exact hu)
     LAB (λi q h1=>⟨(hRs i q h1).1,(hRs i q h1).1,(hRs i q h1).2.2⟩)
    have:=g2 (A.length+B.length) (by simp)
    have e0:(rA.o+0)*1=rA.o:=by omega
    simp only [e0,Nat.sub_zero] at hr g1 this⊢
    exact ⟨_,_,π',hr,g1,this⟩
   ·have hold: ∀j u,uA[j]?=some u->w.cell? (adA.add j)=some u:=by
     intro j u hu
     have hj:=(An.1 hu).1
     rw [haA (by omega),Addr.add_lit,cellOf w1A,Fe,Ek];exact w5A j u hu
    have hr:=run_append_grow (P:=P) w t ty wB i _ hu hi tp adA A.length (rA.cap-0) uA (by rw [Vr,Fe];exact hlA) hold ⟨rB.g,(rB.o+0)*1,none⟩ B.length (rB.cap-0) uB n1' n2' (by omega) (by simp only [maxLen] at iQ;omega) (growslice_fits (by omega) th)
    have oD:=grownCap_ge w (A.length+B.length) (rA.cap-0) wB
    have hcm:=grownCap_le_maxLen w (A.length+B.length) (rA.cap-0) wB iQ
    obtain ⟨π',g1,g2⟩:=Zv (w1:=w.drew.alloc (.cells (uA.toArray++uB.toArray++Builtin.zeroCells (Cb (Ty.slice e2) (Bu (Ty.slice e2))).cells (grownCap w (A.length+B.length) (rA.cap-0) wB-(A.length+B.length))) wB)) (gv:= λ_=>False) h tu hmp wB (e:=e2) (rows:=A++B) (us:=uA++uB) (Rs:=RA++RB) (g:=w.heap.size) (o:=0) (cap:=grownCap w (A.length+B.length) (rA.cap-0) wB)
     (λ_ hf=>hf.elim) (q7 w _) ⟨.inl (Ap _),by simp⟩ (heap_alloc_new w.drew _) (by rw [Array.size_append,Array.size_append,Gt,Gt,Un,hzs];omega) hcm (by simpa using oD) (λj u hu=>by
      have hj:=(An.1 hu).1
      rw [Bo,Tr (by simpa using hj)];simpa using hu)
     LAB (λi q h1=>⟨by have:=(hRs i q h1).2.1;omega,λh=>h,(hRs i q h1).2.2⟩)
    exact ⟨_,_,π',hr,g1,g2 _ (by simp)⟩
theorem lG: ∀τ:Ty,Fw X w π H (zeroCells τ) (Bu τ):=by
 have one: ∀(c:AC) (v:Value),v.oneCell'=true->Hq X w π H c v->Fw X w π H [c] [v]:= λc v h1 h2=>⟨rfl,λi c' hc=>by
  rcases i with _|i
  ·simp at hc;subst hc;exact ⟨v,rfl,h1,h2⟩
  ·simp at hc⟩
 intro τ
 induction τ with
 |unit=>exact ⟨rfl,λi c hc=>by simp [zeroCells] at hc⟩
 |pair a r gV gR=>
  refine ⟨by simp [zeroCells,Bu,gV.1,gR.1],λi c hc=>?_⟩
  simp only [zeroCells] at hc
  simp only [Bu]
  by_cases hi:i<(zeroCells a).length
  ·rw [As hi] at hc
   obtain ⟨u,hu,h⟩:=gV.2 i c hc
   exact ⟨u,by rw [As (by rw [gV.1];exact hi)];exact hu,h⟩
  ·rw [Ar (by omega)] at hc
   obtain ⟨u,hu,h⟩:=gR.2 _ c hc
   exact ⟨u,by rw [Ar (by rw [gV.1];omega),gV.1];exact hu,h⟩
 |int k=>exact one (.data true _ _) _ rfl (Nj (H:=H) k 0 true)
 |bool=>exact one (.data true _ _) _ rfl (Lx (H:=H) false true)
 |str=>exact one (.data true _ _) _ rfl (mg (H:=H) ByteArray.empty true)
 |slice e=>exact one _ _ rfl rfl
 |oslice e=>exact one _ _ rfl rfl
 |ptr e=>exact one _ _ rfl rfl
 |optr e=>exact one _ _ rfl rfl
 |smap v=>exact one (.data true _ _) _ rfl ⟨[.map none], .inl ⟨rfl,rfl⟩,by simp [Cb,Ty.Ao]⟩
 |clo f c=>exact one .undef .nilFunc rfl trivial
theorem vn: ∀τ:Ty,Fw X w π H (Qi τ) (Bu τ):=by
 have one: ∀(c:AC) (v:Value),v.oneCell'=true->Hq X w π H c v->Fw X w π H [c] [v]:= λc v h1 h2=>⟨rfl,λi c' hc=>by
  rcases i with _|i
  ·simp at hc;subst hc;exact ⟨v,rfl,h1,h2⟩
  ·simp at hc⟩
 intro τ
 induction τ with
 |unit=>exact ⟨rfl,λi c hc=>by simp [Qi] at hc⟩
 |pair a r gV gR=>
  refine ⟨by simp [Qi,Bu,gV.1,gR.1],λi c hc=>?_⟩
  simp only [Qi] at hc
  simp only [Bu]
  by_cases hi:i<(Qi a).length
  ·rw [As hi] at hc
   obtain ⟨u,hu,h⟩:=gV.2 i c hc
   exact ⟨u,by rw [As (by rw [gV.1];exact hi)];exact hu,h⟩
  ·rw [Ar (by omega)] at hc
   obtain ⟨u,hu,h⟩:=gR.2 _ c hc
   exact ⟨u,by rw [Ar (by rw [gV.1];omega),gV.1];exact hu,h⟩
 |int k=>exact one (.data false _ _) _ rfl (Nj (H:=H) k 0 false)
 |bool=>exact one (.data false _ _) _ rfl (Lx (H:=H) false false)
 |str=>exact one (.data false _ _) _ rfl (mg (H:=H) ByteArray.empty false)
 |slice e=>exact one (.data false _ _) _ rfl ⟨[.slice none 0 0],⟨none,0,0,rfl,rfl,Ap _, .inl rfl⟩,by simp [Cb,Ty.Ao]⟩
 |oslice e=>exact one _ _ rfl rfl
 |ptr e=>exact one _ _ rfl rfl
 |optr e=>exact one _ _ rfl rfl
 |smap v=>exact one (.data false _ _) _ rfl ⟨[.map none], .inl ⟨rfl,rfl⟩,by simp [Cb,Ty.Ao]⟩
 |clo f c=>exact one .undef .nilFunc rfl trivial
theorem dL (hT:Dz P T) {st:St} {a:Act} (h:Bh X π st a w) (t:TypeId) (Lz:Array (Nat×Nat))
  (kF: ∀f o u ρ,T.off t f=some (o,u)->T.ty u=some ρ->Lz[f]?=some (o,ρ.size)): ∀(parts:List (Nat×Operand)) (cs iz:List AC) (us:List Value),Fw X w π st.heap cs us->
  Mo T st t parts cs=some iz-> ∃Xl:List Value,Instr.fill (λi=>Lz[i]?) us.toArray (parts.map λp=>(p.1,a.eval p.2))=some Xl.toArray/\Fw X w π st.heap iz Xl
 | [],cs,iz,us,hr,he=>by
  simp only [Mo,Aa] at he;subst he
  exact ⟨us,rfl,hr⟩
 |(f,x)::r,cs,iz,us,hr,he=>by
  simp only [Mo] at he
  split at he
  ·rename_i o u ho
   split at he
   ·rename_i ρ hρ
    split at he
    ·rename_i c hc
     split at he
     ·rename_i hle
      obtain ⟨vs,hv,hl,hr2⟩:=iq (Dr h.2 x) hc
      have e1:=hr.1
      have e2:=hr2.1
      obtain ⟨Xl,g1,g2⟩:=dL hT h t Lz kF r _ iz _ (uO hr hr2 o hle) he
      refine ⟨Xl,?_,g2⟩
      simp only [Bm]
      rw [x8 _ us f (a.eval x) _ o ρ.size vs (kF f o u ρ ho hρ) hv hl (by omega)]
      exact g1
     ·cases he
    ·cases he
   ·cases he
  ·cases he
theorem gg (hT:Dz P T) {st:St} {a:Act} (h:Bh X π st a w) (t:TypeId) (parts:Array (Nat×Operand)) (av:AV) (he:Yf T st t parts=some av):
  ∃v',(Instr.build t (parts.map λ(i,x)=>(i,a.eval x))).run P w= .ok v' w/\Bq X w π st.heap av v':=by
 unfold Yf at he
 split at he
 ·cases he
 ·rename_i τ Ym
  split at he
  ·rename_i hs
   cases hb:Mo T st t parts.toList (zeroCells τ) with
   |none=>rw [hb] at he;cases he
   |some iz=>
    rw [hb] at he
    simp only [Am,Aa] at he;subst he
    obtain ⟨fs,Lz,h1,h2,h3⟩:=hT.fill t τ Ym hs
    obtain ⟨i,hi,Vr,rj,tp⟩:=(hT.ty t τ Ym).info
    obtain ⟨Xl,g1,g2⟩:=dL hT h t Lz h3 parts.toList (zeroCells τ) iz (Bu τ) (lG τ) hb
    refine ⟨.agg Xl.toArray,?_,Xl,rfl,g2⟩
    have hz:(zeroValue t).run P w= .ok (Cb τ (Bu τ)) w:=by simp [zeroValue,typeInfo,hi,tp]
    have YY:(Cb τ (Bu τ)).cells=(Bu τ).toArray:=by simp [Cb,hs,Value.cells]
    have h2':=h2 w
    unfold placesOf at h2'
    have e1:(parts.map λ(i,x)=>(i,a.eval x)).toList=parts.toList.map λp=>(p.1,a.eval p.2):=by simp
    simp only [Instr.build,Sem.run_bind,hz,Result.andThen_ok,run_underlying h1,h2',YY,e1,g1,Sem.run_pure]
  ·cases he
theorem uy {st:St} {v:AV} (h:v.settled=true):settle st v=some (v,st):=by
 cases v with
 | «at»a=>cases a<;>simp [AV.settled,AC.settled] at h<;>simp [settle,AC.settled]
 |agg cs=>
  have hs:cs.all (·.settled)=true:=h
  have:Hs cs.length st cs=some (cs,st):=by
   cases hn:cs.length with
   |zero=>simp [Hs,hs]
   |succ n=>
    have hf:cs.find? (λc=>!c.settled)=none:=List.find?_eq_none.2 λc hc=>by simpa using Ba.1 hs c hc
    simp [Hs,hf]
  simp [settle,this]
 |bu fr τ x=>rfl
 |Mw l=>simp [AV.settled] at h
theorem nR {e:Ty} {st:St} : ∀(parts:List (Nat×Operand)) (i:Nat) (fr:Bool) (ys:List e.den),fy e i parts st=some (fr,ys)-> ∃tr,Lk e i parts st=some (fr,tr,ys,st)
 | [],i,fr,ys,h=>by
  simp only [fy,Aa,Ae] at h
  obtain ⟨rfl,rfl⟩:=h
  exact ⟨true,rfl⟩
 |(j,x)::r,i,fr,ys,h=>by
  simp only [fy] at h
  split at h
  ·rename_i hc
   split at h
   ·rename_i f1 y f2 zs h1 h2
    simp only [Aa,Ae] at h
    obtain ⟨rfl,rfl⟩:=h
    obtain ⟨tr,h3⟩:=nR r (i+1) f2 zs h2
    refine ⟨Tp st (st.ev x)&&e.tree&&tr,?_⟩
    simp only [Lk]
    rw [Ac hc.1,uy hc.2]
    simp only [h1,h3]
   ·cases h
  ·cases h
theorem oQ (hT:Dz P T) {st:St} {a:Act} (h:Bh X π st a w) (t:TypeId) (len:Nat) (parts:Array (Nat×Operand)) (av:AV) (he:bG T st t len parts=some av):
  ∃v' w' π',(Instr.buildSlice t len (parts.map λ(i,x)=>(i,a.eval x))).run P w= .ok v' w'/\Bh X π' st a w'/\Bq X w' π' st.heap av v':=by
 unfold bG at he
 split at he
 ·cases he
 ·rename_i te l6
  split at he
  ·cases he
  ·rename_i e Ym
   split at he
   ·rename_i Jv
    obtain ⟨kF,hlen⟩:=Jv
    cases hp:fy e 0 parts.toList st with
    |none=>rw [hp] at he;cases he
    |some p=>
     obtain ⟨fr,ys⟩:=p
     rw [hp] at he
     simp only [Am,Aa] at he
     subst he
     obtain ⟨tr,hb⟩:=nR _ _ _ _ hp
     obtain ⟨i,hi,Vr,rj,tp⟩:=(hT.ty te e Ym).info
     have hu:=hT.elem t te l6
     have SP:parts.toList.length=len:=by simpa using kF
     have hz: ∃z:Array Value,(len*e.size=0/\z= #[])\/(¬len*e.size=0/\(zeroValue te).run P w= .ok (Cb e (Bu e)) w/\z=(Cb e (Bu e)).cells):=by
      by_cases h0:len*e.size=0
      ·exact ⟨#[], .inl ⟨h0,rfl⟩⟩
      ·exact ⟨_, .inr ⟨h0,by simp [zeroValue,typeInfo,hi,tp],rfl⟩⟩
     obtain ⟨z,hz⟩:=hz
     obtain ⟨cj,cl,g1,g2,g3,g4,g5,g6⟩:=Ya e parts.toList 0 st π fr tr ys st ((Array.range (len*e.size)).map (z[· %z.size]!)).toList h hb (by simp [SP])
     have Qk:cl.length=len*e.size:=by rw [g2.1,g3,SP]
     have YV:(Du ((Array.range (len*e.size)).map (z[· %z.size]!)).toList (0*e.size) cl)=cl:=by
      simp [Du,Qk]
     rw [YV] at g5
     have Vs:(Instr.buildSlice t len (parts.map λ(i,x)=>(i,a.eval x))).run P w= .ok (.slice (some ⟨w.heap.size,0,none⟩) len len) (w.alloc (.cells cl.toArray te)):=by
      have h24: ¬(len*e.size>2^24):=by
       have:len*e.size<=64*64:=dF hlen.1 hlen.2
       omega
      simp only [Instr.buildSlice,Sem.run_bind,run_underlying hu,Result.andThen_ok,(hT.ty te e Ym).size,Ak h24]
      have e1:(parts.map λ(i,x)=>(i,a.eval x)).toList=parts.toList.map λp=>(p.1,a.eval p.2):=by simp
      simp only [e1]
      have e2:(((Array.range (len*e.size)).map (z[· %z.size]!)).toList.toArray)=(Array.range (len*e.size)).map (z[· %z.size]!):=Array.toArray_toList
      rw [e2] at g5
      rcases hz with ⟨h0,rfl⟩|⟨h0,hz,rfl⟩
      ·rw [Ac h0]
       simp only [Sem.run_bind,Sem.run_pure,Result.andThen_ok,g5,newRow]
       simp
      ·rw [Ak h0]
       simp only [Sem.run_bind,Sem.run_pure,Result.andThen_ok,hz,g5,newRow]
       simp
     have KN:(w.alloc (.cells cl.toArray te)).heap[w.heap.size]?=some (.cells cl.toArray te (0,0)):=heap_alloc_new w _
     have hB:Below w.heap.size w (w.alloc (.cells cl.toArray te)):=(Below.refl _ _).alloc (Ap _) _
     have Jr:=Gi KN
     refine ⟨_,_,cj,Vs,g1.quiet hB,⟨[_],?_,rfl⟩⟩
     refine ⟨some ⟨w.heap.size,0,none⟩,len,len,rfl,by rw [g3,SP],Ap _, .inr ⟨w.heap.size,0,rfl,Jr,λhA=>?_,λk x hx=>?_⟩⟩
     ·rcases hA with hA|hA|⟨_,hA⟩
      ·exact absurd (g1.1.own hA).1 (Nat.lt_irrefl _)
      ·exact absurd (Eg (g1.1.sc _ hA).1 g1.1.below.size) (Nat.lt_irrefl _)
      ·exact absurd (Eg hA g1.1.below.size) (Nat.lt_irrefl _)
     ·obtain ⟨es,k1,k2,k3⟩:=g2.2 k x hx
      refine ⟨es,k1,λj u hu=>?_,Cells.Fb hB.size (λb hb _=>hB.block b hb) (λ_ _ h=>h) e es x k3⟩
      rw [cellOf KN,Bo]
      simpa using k2 j u hu
   ·cases he
theorem DJ {Γ:Env} (hT:Dz P T) (Pb:Kx P Γ) {st:St} {a:Act} (h:Bh X π st a w) (o:Oper) (av:AV) (he:Xr T Γ st o=some av):
  gY P X st a w av ((execOp a.eval o).run P w):=by
 obtain ⟨dst,op,ty,pos,af,gd⟩:=o
 have val: ∀(s:Sem Value) (v:Value) (w':World) (π':Pi),s.run P w= .ok v w'->Bh X π' st a w'->Bq X w' π' st.heap av v->(execOp a.eval ⟨dst,op,ty,pos,af,gd⟩=do pure (.value (<-s)))->
   gY P X st a w av ((execOp a.eval ⟨dst,op,ty,pos,af,gd⟩).run P w):=by
  intro s v w' π' h1 h2 h3 h4
  rw [h4,Sem.run_bind,h1]
  exact ⟨π',h2,h3⟩
 have quiet:Fa T Γ st ⟨dst,op,ty,pos,af,gd⟩=some av->gY P X st a w av ((execOp a.eval ⟨dst,op,ty,pos,af,gd⟩).run P w):=by
  intro hq
  have:=iE hT Pb h _ av hq
  generalize (execOp a.eval ⟨dst,op,ty,pos,af,gd⟩).run P w=r at*
  cases r with
  |halt x w'=>exact this
  |ok n w'=>
   cases n<;>simp only [OV] at this<;>simp only [gY]
   ·obtain ⟨rfl,hr⟩:=this
    exact ⟨π,h,hr⟩
   ·obtain ⟨rfl,hc⟩:=this
    exact ⟨rfl,hc.mono λe qY ⟨v,hv,hb,hr⟩=>⟨v,hv,π,h.quiet hb,hr⟩⟩
 unfold Xr at he
 split at he
 ·rename_i t len parts sa
  dsimp only at sa;subst sa
  obtain ⟨v,w',π',h1,h2,h3⟩:=oQ hT h t len parts av he
  exact val _ v w' π' h1 h2 h3 rfl
 ·rename_i t parts sa
  dsimp only at sa;subst sa
  obtain ⟨v',h1,h2⟩:=gg hT h t parts av he
  exact val _ v' w π h1 h h2 rfl
 ·exact quiet he
theorem dx {a:Act} : ∀(l:List Operand) {π:Pi} {st st1:St},Bh X π st a w->Nq l st=some st1-> ∃π',Bh X π' st1 a w
 | [],π,st,st1,h,he=>by
  simp only [Nq,Aa] at he
  subst he
  exact ⟨π,h⟩
 |x::r,π,st,st1,h,he=>by
  simp only [Nq] at he
  cases hs:settle st (st.ev x) with
  |none=>rw [hs] at he;cases he
  |some p=>
   rw [hs] at he
   obtain ⟨cj,h1,_⟩:=c8 h (Dr h.2 x) hs
   exact dx r h1 he
theorem HQ {a:Act} {st:St} (h:Bh X π st a w) (p x:Operand): ∃π',Bh X π' (Ou T st p x) a w:=by
 unfold Ou
 split
 ·split
  ·split
   ·rename_i hs;exact dx _ h hs
   ·exact ⟨π,h⟩
  ·exact ⟨π,h⟩
 ·exact ⟨π,h⟩
theorem yO {Γ:Env} (hT:Dz P T) (Pb:Kx P Γ) {st:St} {a:Act} (h:Bh X π st a w) (o:Oper) (av:AV) (st':St) (he:evalOp T Γ st o=some (av,st')):
  gY P X st' a w av ((execOp a.eval o).run P w):=by
 have quiet: ∀ {π:Pi} {st:St},Bh X π st a w->(Fa T Γ st o).map (λv=>(v,st))=some (av,st')->gY P X st' a w av ((execOp a.eval o).run P w):=by
  intro π st h he
  cases hq:Fa T Γ st o with
  |none=>rw [hq] at he;cases he
  |some v=>
   rw [hq] at he
   simp only [Am,Aa,Ae] at he
   obtain ⟨rfl,rfl⟩:=he
   have:=iE hT Pb h o v hq
   generalize (execOp a.eval o).run P w=r at*
   cases r with
   |halt x w'=>exact this
   |ok n w'=>
    cases n<;>simp only [OV] at this<;>simp only [gY]
    ·obtain ⟨rfl,hr⟩:=this
     exact ⟨π,h,hr⟩
    ·obtain ⟨rfl,hc⟩:=this
     exact ⟨rfl,hc.mono λe qY ⟨v,hv,hb,hr⟩=>⟨v,hv,π,h.quiet hb,hr⟩⟩
 obtain ⟨dst,op,ty,pos,af,gd⟩:=o
 have val: ∀(s:Sem Value) (v:Value) (w':World) (π':Pi),s.run P w= .ok v w'->Bh X π' st' a w'->Bq X w' π' st'.heap av v->(execOp a.eval ⟨dst,op,ty,pos,af,gd⟩=do pure (.value (<-s)))->
   gY P X st' a w av ((execOp a.eval ⟨dst,op,ty,pos,af,gd⟩).run P w):=by
  intro s v w' π' h1 h2 h3 h4
  rw [h4,Sem.run_bind,h1]
  exact ⟨π',h2,h3⟩
 unfold evalOp at he
 split at he
 all_goals (rename_i sa;dsimp only at sa;try subst sa)
 ·
  rename_i x
  split at he
  ·rename_i d te e hx hd ht
   split at he
   ·rename_i hdp
    simp only [Aa,Ae] at he
    obtain ⟨rfl,rfl⟩:=he
    obtain ⟨k1,k2,_⟩:=tW h d hdp (T.sX||e.flat) T.BH te e
    have hxr:=Dr h.2 x
    rw [hx] at hxr
    have hxv:a.eval x= .slice none 0 0:=hxr
    show gY P X _ a w _ (.ok (.value (a.eval x)) w)
    rw [hxv]
    exact ⟨_,k1,k2⟩
   ·cases he
  ·simp only [Aa,Ae] at he
   obtain ⟨rfl,rfl⟩:=he
   exact ⟨π,h,Dr h.2 x⟩
 ·
  rename_i t
  split at he
  ·rename_i d τ hd ht
   obtain ⟨i,hi,Vr,rj,tp⟩:=(hT.ty t τ ht).info
   have hk: ∃π',Bh X π' st' a (w.alloc (.cells (Bu τ).toArray t))/\Bq X (w.alloc (.cells (Bu τ).toArray t)) π' st'.heap av (.pointer (some ⟨w.heap.size,0,none⟩)):=by
    split at he
    ·exact zy h d t (Qi τ) (Bu τ) (vn τ) av st' he
    ·exact qC h d t τ (zeroCells τ) (Bu τ) (lG τ) av st' he
   obtain ⟨π',k1,k2⟩:=hk
   have YY:(Cb τ (Bu τ)).cells=(Bu τ).toArray:=by
    cases τ<;>simp [Cb,Ty.Ao,Value.cells,Bu]
   refine val (Instr.alloc t true (.tuple #[])) _ _ π' ?_ k1 k2 rfl
   simp [Instr.alloc,zeroValue,typeInfo,hi,tp,newVar,newRow,YY]
  ·cases he
 ·
  rename_i t x
  split at he
  ·rename_i d τ hd ht
   split at he
   ·rename_i cs hc
    obtain ⟨us,hv,hl,hr⟩:=iq (Dr h.2 x) hc
    have hk: ∃π',Bh X π' st' a (w.alloc (.cells us.toArray t))/\Bq X (w.alloc (.cells us.toArray t)) π' st'.heap av (.pointer (some ⟨w.heap.size,0,none⟩)):=by
     split at he
     ·split at he
      ·rename_i Vz
       cases hvc:Ey st τ cs with
       |none=>rw [hvc] at he;cases he
       |some p=>
        obtain ⟨fr,y⟩:=p
        rw [hvc] at he
        simp only [Am,Aa,Ae] at he
        obtain ⟨rfl,rfl⟩:=he
        have Qk:=Xh τ cs us fr y Vz hr hvc
        have hB:Below w.heap.size w (w.alloc (.cells us.toArray t)):=(Below.refl _ _).alloc (Ap _) _
        have KN:(w.alloc (.cells us.toArray t)).heap[w.heap.size]?=some (.cells us.toArray t (0,0)):=heap_alloc_new w _
        refine ⟨π,h.quiet hB,[_], .inr ⟨y,w.heap.size,0,rfl,rfl,Gi KN,λhA=>?_,us,hl,λj u hu=>?_,Cells.Fb hB.size (λb hb _=>hB.block b hb) (λb _ hA=>?_) τ us y Qk⟩,by simp [Cb,Ty.Ao]⟩
        ·rcases hA with hA|hA|⟨hf,_⟩
         ·exact absurd (h.1.own hA).1 (Nat.lt_irrefl _)
         ·exact absurd (Eg (h.1.sc _ hA).1 h.1.below.size) (Nat.lt_irrefl _)
         ·cases hf
        ·rw [cellOf KN,Bo];simpa using hu
        ·exact hA.imp id (Or.imp id λ⟨h1,_⟩=>by cases h1)
      ·cases he
     ·exact qC h d t τ cs us hr av st' he
    obtain ⟨π',k1,k2⟩:=hk
    refine val (Instr.box t (a.eval x)) _ _ π' ?_ k1 k2 rfl
    simp [Instr.box,newVar,newRow,hv]
   ·cases he
  ·cases he
 ·
  rename_i t p x
  obtain ⟨π0,h⟩:=HQ (T:=T) h p x
  cases hs:Py T (Ou T st p x) t ((Ou T st p x).ev p) ((Ou T st p x).ev x) with
  |none=>rw [hs] at he;cases he
  |some s=>
   rw [hs] at he
   simp only [Am,Aa,Ae] at he
   obtain ⟨rfl,rfl⟩:=he
   obtain ⟨w',π',h1,h2⟩:=oU hT h t _ _ _ _ (Dr h.2 p) (Dr h.2 x) s hs
   have:(execOp a.eval ⟨dst, .store t p x,ty,pos,af,gd⟩).run P w= .ok .skip w':=by
    show (do Instr.storeAt t (a.eval p) (a.eval x);pure Next.skip:Sem Next).run P w=_
    rw [Sem.run_bind,h1];rfl
   rw [this]
   exact ⟨π',h2,trivial⟩
 ·
  rename_i t l c
  split at he
  ·rename_i d hd
   obtain ⟨v,w',π',h1,h2,h3⟩:=rf hT h d t _ _ _ _ (Dr h.2 l) (Dr h.2 c) av st' he
   exact val _ v w' π' h1 h2 h3 rfl
  ·cases he
 ·
  rename_i t
  split at he
  ·rename_i d hd
   obtain ⟨v,w',π',h1,h2,h3⟩:=mZ hT h d t av st' he
   exact val _ v w' π' h1 h2 h3 rfl
  ·cases he
 ·
  rename_i t m k x
  cases hs:Ji T st t (st.ev m) (st.ev k) (st.ev x) with
  |none=>rw [hs] at he;cases he
  |some s=>
   rw [hs] at he
   simp only [Am,Aa,Ae] at he
   obtain ⟨rfl,rfl⟩:=he
   obtain ⟨w',h1,h2⟩:=dU hT h t _ _ _ _ _ _ (Dr h.2 m) (Dr h.2 k) (Dr h.2 x) s hs
   have:(execOp a.eval ⟨dst, .mapUpdate t m k x,ty,pos,af,gd⟩).run P w= .ok .skip w':=by
    show (do Instr.mapUpdate t (a.eval m) (a.eval k) (a.eval x);pure Next.skip:Sem Next).run P w=_
    rw [Sem.run_bind,h1];rfl
   rw [this]
   exact ⟨π,h2,trivial⟩
 ·
  rename_i t m k x
  cases hs:Ji T st t (st.ev m) (st.ev k) (st.ev x) with
  |none=>rw [hs] at he;cases he
  |some s=>
   rw [hs] at he
   simp only [Am,Aa,Ae] at he
   obtain ⟨rfl,rfl⟩:=he
   obtain ⟨w',h1,h2⟩:=dU hT h t _ _ _ _ _ _ (Dr h.2 m) (Dr h.2 k) (Dr h.2 x) s hs
   have:(execOp a.eval ⟨dst, .insert t m k x,ty,pos,af,gd⟩).run P w= .ok .skip w':=by
    show (do Instr.mapUpdate t (a.eval m) (a.eval k) (a.eval x);pure Next.skip:Sem Next).run P w=_
    rw [Sem.run_bind,h1];rfl
   rw [this]
   exact ⟨π,h2,trivial⟩
 ·
  rename_i t len parts
  split at he
  ·rename_i d hd
   obtain ⟨v,w',π',h1,h2,h3⟩:=gK hT h d t len parts av st' he
   exact val _ v w' π' h1 h2 h3 rfl
  ·cases he
 ·
  rename_i t parts
  cases hb:Yf T st t parts with
  |none=>rw [hb] at he;cases he
  |some v=>
   rw [hb] at he
   simp only [Am,Aa,Ae] at he
   obtain ⟨rfl,rfl⟩:=he
   obtain ⟨v',h1,h2⟩:=gg hT h t parts v hb
   exact val _ v' w π h1 h h2 rfl
 ·
  rename_i args ts
  split at he
  ·rename_i d x y t t' hd Rg p8
   split at he
   ·rename_i Vg;subst Vg
    have e1:args= #[x,y]:=by apply Pg;simpa using Rg
    have e2:ts= #[t,t]:=by apply Pg;simpa using p8
    subst e1;subst e2
    obtain ⟨v,w',π',h1,h2,h3⟩:=mW hT h d t ty x y av st' he
    refine val (Builtin.append_ #[t,t] ty #[a.eval x,a.eval y]) v w' π' h1 h2 h3 ?_
    simp [execOp,resolve,invoke,builtin]
   ·cases he
  ·cases he
 ·
  rename_i args ts
  split at he
  ·rename_i x y t t' Rg p8
   have e1:args= #[x,y]:=by apply Pg;simpa using Rg
   have e2:ts= #[t,t']:=by apply Pg;simpa using p8
   subst e1;subst e2
   obtain ⟨v,w',h1,h2,h3⟩:=sM hT h t t' ty _ _ _ _ (Dr h.2 x) (Dr h.2 y) av st' he
   refine val (Builtin.copy_ #[t,t'] ty #[a.eval x,a.eval y]) v w' π h1 h2 h3 ?_
   simp [execOp,resolve,invoke,builtin]
  ·cases he
 ·
  rename_i args ts
  split at he
  ·rename_i x t Rg p8
   have e1:args= #[x]:=by apply Pg;simpa using Rg
   have e2:ts= #[t]:=by apply Pg;simpa using p8
   subst e1;subst e2
   cases hs:evalClear T st t (st.ev x) with
   |none=>rw [hs] at he;cases he
   |some s=>
    rw [hs] at he
    simp only [Am,Aa,Ae] at he
    obtain ⟨rfl,rfl⟩:=he
    obtain ⟨v,w',h1,h2⟩:=re hT h t ty _ _ (Dr h.2 x) s hs
    refine val (Builtin.clear_ #[t] ty #[a.eval x]) v w' π h1 h2 trivial ?_
    simp [execOp,resolve,invoke,builtin]
  ·cases he
 ·
  rename_i f args ts
  split at he
  ·rename_i s An0
   have hs:Cn P f s:=Pb f _ An0
   have:=r9 h hs dst (args.toList.map st.ev) (args.toList.map a.eval) (by simp) (λi c v=>jk h args.toList i c v) av st' he
   rw [jn a.eval f args ts dst ty pos af gd rfl hs.enter]
   refine ⟨rfl,?_⟩
   rwa [show (args.toList.map a.eval).toArray=args.map a.eval from by apply Pg;simp] at this
  ·rename_i s An0
   split at he
   ·cases hs:Nq args.toList st with
    |none=>rw [hs] at he;cases he
    |some st1=>
     rw [hs] at he
     obtain ⟨cj,h1⟩:=dx args.toList h hs
     exact quiet h1 he
   ·exact quiet h he
  ·exact quiet h he
 ·exact quiet h he
end
end Go.Proofs.Ytkkdpknjohcekaa
