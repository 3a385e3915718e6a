/-
  Part 23 of the proof that the statement FnLowerBounds holds.
-/
import Derived.Test.YtkkdpknjohcekaaGreatCFLowerBounds21
namespace Go.Proofs.YtkkdpknjohcekaaGreat
open Go.RowKit
section
variable {P:Program} {T:Tab} {X:Ctx} {w w':World} {π:Pi} {H:List (Nat×OB)}
theorem yz {π':Pi} {st':St} {a:Act} (h:Bh X π' st' a w) (k:Lk π π' H st'.heap) {fr:Bool} (τ:Ty) (cs:List Value) (x:τ.den) (hc:Cells w (Cx X.w0.heap.size X.Sc π fr) τ cs x):
  Cells w (Cx X.w0.heap.size X.Sc π' fr) τ cs x:=
 Cells.Fw (Ap _) (λ_ _ _=>rfl) (λb _ hA=>by
  rcases hA with ⟨l,r,hl,hg⟩|h2
  ·have hh:=h.1.heap l
   cases hb:At st'.heap l with
   |none=>have:=hh.emp hb;rw [this] at hl;cases hl
   |some b'=>have:=(k l b' hb).1;rw [this] at hl;exact .inl ⟨l,r,hl,hg⟩
  ·exact .inr h2) τ cs x hc
theorem ie.drop {F:List Nat} {l:Nat} (h:ie X w π F):ie X w (Xs π l none) F:=
 ⟨h.1,λb hb=>⟨(h.2 b hb).1,(h.2 b hb).2.1,λm r hm=>by
  by_cases e:m=l
  ·subst e;rw [Gx] at hm;cases hm
  ·rw [Gs π none e] at hm;exact (h.2 b hb).2.2 m r hm⟩⟩
theorem tH {st:St} {a:Act} (h:Bh X π st a w) (l:Nat) (hl:l<Bk) (f0 t0:Bool) (te:TypeId) (e:Ty):
  Bh X (Xs π l none) (st.new l (.arr f0 t0 e te [])) a w/\Bl X w (Xs π l none) (st.new l (.arr f0 t0 e te [])).heap (.at (.own l 0 0)) (.slice none 0 0)/\
   ∀fr τ cs x,Cells w (Cx X.w0.heap.size X.Sc π fr) τ cs x->Cells w (Cx X.w0.heap.size X.Sc (Xs π l none) fr) τ cs x:=
 ⟨h.replace l hl none _ (Qr w _) (λr hr=>by cases hr) (λ_=>rfl),
  ES (St.Hj st l _) (Ap _) (by rw [Gx];exact ⟨rfl,rfl,rfl⟩),
  fun fr τ cs x hc=>Cells.Fw (Ap _) (λ_ _ _=>rfl) (λb _ hA=>by
  rcases hA with ⟨m,r,hm,hg⟩|h2
  ·by_cases e:m=l
   ·subst e;rw [Gx] at hm;cases hm
   ·rw [Gs π none e] at hm;exact .inl ⟨m,r,hm,hg⟩
  ·exact .inr h2) τ cs x hc⟩
theorem Yo (hT:Eg P T) {st:St} {a:Act} (h:Bh X π st a w) (dst:Nat) (t ty:TypeId) (x y:Operand) (av:AV) (st':St) (he:Oq T st dst t x y=some (av,st')):
  ∃v' w' π',(Builtin.append_ #[t,t] ty #[a.eval x,a.eval y]).run P w= .ok v' w'/\Bh X π' st' a w'/\Bl X w' π' st'.heap av v':=by
 unfold Oq at he
 split at he
 ·cases he
 ·rename_i te l5
  split at he
  ·rename_i e y' st1 Yy hs
   obtain ⟨cB,h1,h2,h3,h4,h5⟩:=cn h (Dt h.2 y) hs
   split at he
   ·cases he
   ·rename_i rP ys hv
    dsimp only at he
    have PK: ∀tr2,tr2=(e.flat||(Um st (st.ev y)&&e.tree))->tr2=true->e.flat=true\/ ∃F,Db w F (.slice e) [a.eval y] ys/\ie X w cB F:=by
     intro tr2 e2 nF
     subst e2
     cases hef:e.flat with
     |true=>exact .inl rfl
     |false=>
     right
     simp only [hef,Xu,Af] at nF
     obtain ⟨F,us,f1,f2,f3,_⟩:=h5 nF.1 (.slice e) rP ys nF.2 hv
     have XV:us= [a.eval y]:=by
      simp only [Db] at f1
      obtain ⟨a0,len,cap,rfl,_⟩:=f1
      rw [f2];simp [Ca,Ty.Ao]
     rw [XV] at f1
     exact ⟨F,f1,f3⟩
    have hyc:Cells w (Cx X.w0.heap.size X.Sc cB rP) (.slice e) [a.eval y] ys:=Cu.Tc rfl (Nh _ y' _ rP ys h3 h2 hv)
    have hxr:=Dt h1.2 x
    split at he
    ·rename_i hx
     rw [hx] at hxr
     have hxv:a.eval x= .slice none 0 0:=hxr
     split at he
     ·rename_i p6
      simp only [Aa,Ae] at he
      obtain ⟨rfl,rfl⟩:=he
      obtain ⟨k1,k2,k3⟩:=tH h1 dst p6.2 (T.vd||e.flat) T.BI te e
      have:=mO (ty:=ty) hT k1 l5 Yy p6.2 (fr3:=rP||e.flat) (tr2:=e.flat||(Um st (st.ev y)&&e.tree)) rfl (St.Hj st1 dst _) k2 (k3 _ _ _ _ hyc) (by rw [Bu];exact p6.1) (λht=>by
       rcases PK _ rfl ht with h0|⟨F,f1,f2⟩
       ·exact .inl h0
       ·exact .inr ⟨F,f1,f2.drop⟩)
      rw [<-hxv] at this
      exact this
     ·cases he
    ·rename_i l off len hx
     rw [hx] at hxr
     split at he
     ·rename_i fr tr e' tid xs hl
      split at he
      ·rename_i Kk
       obtain ⟨rfl,rfl⟩:=Kk
       split at he
       ·rename_i p6
        simp only [Aa,Ae] at he
        obtain ⟨rfl,rfl⟩:=he
        exact mO (ty:=ty) hT h1 l5 Yy p6.2 (fr3:=rP||e'.flat) (tr2:=e'.flat||(Um st (st.ev y)&&e'.tree)) rfl hl hxr hyc p6.1 (PK _ rfl)
       ·cases he
      ·cases he
     ·cases he
    ·cases he
  ·cases he
theorem nd (hT:Eg P T) {st:St} {a:Act} (h:Bh X π st a w) (dst:Nat) (t ty:TypeId) (x y:Operand) (av:AV) (st':St) (he:Sq T st dst t x y=some (av,st')):
  ∃v' w' π',(Builtin.append_ #[t,t] ty #[a.eval x,a.eval y]).run P w= .ok v' w'/\Bh X π' st' a w'/\Bl X w' π' st'.heap av v':=by
 unfold Sq at he
 split at he
 ·rename_i tx
  split at he
  ·rename_i l i c hg
   split at he
   ·rename_i e te rows kp tid hl _
    split at he
    ·rename_i hc
     simp only [Af,Nt,Es] at hc
     have iV:dst≠l:= λe=>by rw [e,Nat.beq_refl] at hc;cases hc.2.2
     unfold St.at at hl
     have hv:Ia X w π st.heap (.sub l i c) (a.tmps.getD tx undef):=by
      have:=h.2.tmps tx
      rw [hg] at this
      exact this
     obtain ⟨cB,h1,h2⟩:=JE (tid:=tid) h hl iV hc.2.1 hc.1 hv
     have h3:=h1.put (some tx) (c:= .at (.own dst 0 (rows.getD i []).length)) h2
     have Alq:a.put (some tx) (a.tmps.getD tx undef)=a:=by
      have:a.tmps.setIfInBounds tx (a.tmps.getD tx undef)=a.tmps:=by
       apply Array.ext_getElem?
       intro k
       rw [Array.getElem?_setIfInBounds]
       split
       ·rename_i e
        subst e
        split
        ·rename_i Lq
         rw [Array.getElem?_eq_getElem Lq];simp
        ·rename_i Lq
         rw [Array.getElem?_eq_none (by omega)]
       ·rfl
      simp only [Act.put,this]
     rw [Alq] at h3
     exact Yo hT h3 dst t ty (.tmp tx) y av st' he
    ·cases he
   ·cases he
  ·exact Yo hT h dst t ty _ y av st' he
 ·exact Yo hT h dst t ty x y av st' he
theorem NY {S:Nat->Prop} {e:Ty} (h:mH e=true): ∃z,Bq e= [z]/\e.Ao=false/\e.size=1/\Cells w S e [z] e.zero/\z.oneCell'=true:=by
 cases e<;>simp [mH] at h
 ·exact ⟨_,rfl,rfl,rfl,rfl,rfl⟩
 ·exact ⟨_,rfl,rfl,rfl,rfl,rfl⟩
 ·exact ⟨_,rfl,rfl,rfl,rfl,rfl⟩
 ·exact ⟨_,rfl,rfl,rfl,⟨none,0,0,rfl,rfl,Ap _, .inl rfl⟩,rfl⟩
 ·exact ⟨_,rfl,rfl,rfl, .inl ⟨rfl,0,rfl⟩,rfl⟩
theorem HZ {e:Ty} {z:Value} (ht:e.tree=true) (h:mH e=true) (hz:Bq e= [z]):Db w [] e [z] e.zero:=by
 cases e<;>simp [mH] at h<;>simp only [Bq,Hf,bo] at hz<;>subst hz<;>try (simp [Ty.tree] at ht;done)
 ·exact ⟨rfl,rfl⟩
 ·exact ⟨rfl,rfl⟩
 ·exact ⟨rfl,rfl⟩
 ·exact ⟨none,0,0,rfl,rfl,Ap _, .inl ⟨rfl,rfl,rfl,rfl⟩⟩
theorem Abe {S:Nat->Prop} : ∀(e:Ty),gn e=true->(Bq e).length=e.size/\Cells w S e (Bq e) e.zero/\(e.tree=true->Db w [] e (Bq e) e.zero):=by
 intro e
 induction e with
 |unit=>intro _;exact ⟨rfl,rfl,λ_=>⟨rfl,rfl⟩⟩
 |pair a r ib hJ=>
  intro h
  simp only [gn,Af] at h
  obtain ⟨a1,a2,a3⟩:=ib h.1
  obtain ⟨r1,r2,r3⟩:=hJ h.2
  exact ⟨by simp [Bq,Ty.size,a1,r1],⟨_,_,rfl,a2,r2⟩,λht=>by simp only [Ty.tree,Af] at ht;exact ⟨_,_,[],[],rfl,rfl,a3 ht.1,r3 ht.2⟩⟩
 |_=>
  intro h
  simp only [gn] at h
  obtain ⟨z,z1,z2,z3,z4,_⟩:=NY (w:=w) (S:=S) h
  exact ⟨by rw [z1,z3];rfl,by rw [z1];exact z4,λht=>by rw [z1];exact HZ ht h z1⟩
theorem PY {z:Array Value} {s m j q:Nat} (hz:z.size=s) (hj:j<m) (hq:q<s):(madeCells z (m*s))[j*s+q]?=z[q]?:=by
 have h1:j*s+q<m*s:=by
  have:=Fa s (show j+1<=m by omega)
  rw [Nat.succ_mul] at this
  omega
 have h2:(j*s+q)%z.size=q:=by rw [hz,Nat.mul_comm,Nat.mul_add_mod,Nat.mod_eq_of_lt hq]
 have h3:q<z.size:=by omega
 unfold madeCells
 simp [h1,h2,h3]
theorem sH (hT:Eg P T) {st:St} {a:Act} (h:Bh X π st a w) (dst:Nat) (t:TypeId) (l c:AV) (vl vc:Value) (hl:Bl X w π st.heap l vl) (hc:Bl X w π st.heap c vc) (av:AV) (st':St)
  (he:bT T st dst t l c=some (av,st')): ∃v' w' π',(Instr.makeSlice t vl vc).run P w= .ok v' w'/\Bh X π' st' a w'/\Bl X w' π' st'.heap av v':=by
 unfold bT at he
 split at he
 ·rename_i te fr1 k1 n rP k2 m l5
  have:=Qw hl;subst this
  have:=Qw hc;subst this
  split at he
  ·rename_i e Yy
   split at he
   ·rename_i Kk
    obtain ⟨h0,hnm,hz,WY⟩:=Kk
    obtain ⟨h1,h2⟩:=Vb.1 h0
    subst hnm
    simp only [Aa,Ae] at he
    obtain ⟨rfl,rfl⟩:=he
    obtain ⟨i,hi,Wj,r7,sW⟩:=(hT.ty te e Yy).info
    obtain ⟨z1,z4,z5⟩:=Abe (w:=w) (S:=Cx X.w0.heap.size X.Sc π (T.vd||e.flat)) e hz
    have XX:(Ca e (Bq e)).cells=(Bq e).toArray:=Lo e _ _ z4
    have hu:=hT.elem t te l5
    have hn:n.toNat<=4294967296:=by unfold Cn at h2;omega
    have hr:=run_make (P:=P) (w:=w) t te i _ hu hi sW k1 k2 n n h1 (Rb _) (by
     have:(i.bytes:Int)*n<=256*4294967296:=by
      obtain ⟨nn,rfl⟩:=Rw h1
      have h7:i.bytes*nn<=256*4294967296:=Nat.mul_le_mul r7 (by simpa using hn)
      have h8:((i.bytes*nn:Nat):Int)<=256*4294967296:=by omega
      rwa [Int.natCast_mul] at h8
     omega) (by unfold Cn at h2;omega)
    rw [XX,Wj] at hr
    have aM:((Bq e).toArray).size=e.size:=by simpa using z1
    have cell: ∀j,j<n.toNat-> ∀q u,(Bq e)[q]?=some u->(madeCells (Bq e).toArray (n.toNat*e.size)).toList[j*e.size+q]?=some u:=by
     intro j hj q u hu
     have hq:q<e.size:=by rw [<-z1];exact (Am.1 hu).1
     have:=PY aM hj hq
     rw [Array.getElem?_toList,this]
     simpa using hu
    have:=fH (w1:=w.alloc (.cells (madeCells (Bq e).toArray (n.toNat*e.size)) te)) h dst WY (T.vd||e.flat) (T.BI&&e.tree) e te (List.replicate n.toNat e.zero) (madeCells (Bq e).toArray (n.toNat*e.size)).toList (madeCells (Bq e).toArray (n.toNat*e.size)) n.toNat []
     (.inr rfl) (by rw [size_madeCells]) (by unfold maxLen;omega) (by simp)
     (λk u hu=>by
      rw [Array.getElem?_toList] at hu;exact hu) ⟨by simp [size_madeCells],λj x hx=>by
       have hj:=(Am.1 hx).1
       simp only [Ix] at hj
       refine ⟨Bq e,z1,λq u hu=>cell j hj q u hu,?_⟩
       rw [Fy (Cj hx)];exact z4⟩ (by simp) (λnF=>⟨Ns,List.replicate n.toNat [],by simp,by simp,λj x F hx hF=>by
      have hj:=(Am.1 hx).1
      simp only [Ix] at hj
      refine ⟨Bq e,z1,λq u hu=>cell j hj q u hu,?_⟩
      have e1:=Fy (Cj hx)
      have e2:=Fy (Cj hF)
      rw [e1,e2]
      exact z5 (by simp only [Af] at nF;exact nF.2)⟩)
    exact ⟨_,_,_,hr,this.1,this.2 _ (by simp)⟩
   ·cases he
  ·cases he
 ·cases he
theorem iN (off:Nat): ∀(us:List Value) (k:Nat) (cells:List Value),off+k+us.length<=cells.length->
  (us.zipIdx k).foldl (λcs p=>cs.setIfInBounds (off+p.2) p.1) cells.toArray=(Dy cells (off+k) us).toArray
 | [],k,cells,h=>by simp [Dy]
 |u::us,k,cells,h=>by
  simp only [List.zipIdx_cons,On]
  rw [show cells.toArray.setIfInBounds (off+k) u=(cells.set (off+k) u).toArray by simp]
  rw [iN off us (k+1) (cells.set (off+k) u) (by simp at h⊢;omega)]
  congr 1
  apply List.ext_getElem?
  intro j
  have hl:off+k+(u::us).length<=cells.length:=h
  have JT:off+(k+1)+us.length<=(cells.set (off+k) u).length:=by simp at h⊢;omega
  rw [Iv _ _ _ _ hl,Iv _ _ _ _ JT]
  simp only [Ay]
  by_cases h1:j<off+k
  ·rw [Ab (by omega),Ab h1,List.getElem?_set_ne (by omega)]
  ·rw [Aj h1]
   by_cases h2:j=off+k
   ·subst h2
    rw [Ab (by omega),Ab (by omega),List.getElem?_set_self (by simp at h;omega)]
    simp
   ·rw [Aj (by omega)]
    by_cases h3:j<off+k+(us.length+1)
    ·rw [Ab (by omega),Ab h3]
     rw [show j-(off+k)=(j-(off+(k+1)))+1 by omega,Mw]
    ·rw [Aj (by omega),Aj h3,List.getElem?_set_ne (by omega)]
theorem x6 (place:Nat->Option (Nat×Nat)) (cells:List Value) (i:Nat) (v:Value) (rest:List (Nat×Value)) (off size:Nat) (us:List Value) (hp:place i=some (off,size)) (hv:v.cells=us.toArray)
  (hl:us.length=size) (hle:off+size<=cells.length):Instr.fill place cells.toArray ((i,v)::rest)=Instr.fill place (Dy cells off us).toArray rest:=by
 simp only [Instr.fill,hp,hv,Hg,hl]
 rw [Aj (by simp;omega)]
 congr 1
 have:=iN off us 0 cells (by omega)
 simp only [En] at this
 rw [<-this]
 simp
theorem Yl (e:Ty) {a:Act} : ∀(parts:List (Nat×Operand)) (i:Nat) (st:St) (π:Pi) (fr tr:Bool) (ys:List e.den) (st':St) (cells:List Value),Bh X π st a w->Lx e i parts st=some (fr,tr,ys,st')->
  (i+parts.length)*e.size<=cells.length->
  ∃π' cl,Bh X π' st' a w/\Flat w (Cx X.w0.heap.size X.Sc π' fr) e cl ys/\ys.length=parts.length/\Lk π π' st.heap st'.heap/\
   Instr.fill (λi=>some (i*e.size,e.size)) cells.toArray (parts.map λp=>(p.1,a.eval p.2))=some (Dy cells (i*e.size) cl).toArray/\
   (tr=true-> ∃Fs,Tz w e cl ys Fs/\ie X w π' (List.flatten Fs)/\ ∀b∈List.flatten Fs,∃l r,π l=some r/\r.cl b)
 | [],i,st,π,fr,tr,ys,st',cells,h,he,hle=>by
  simp only [Lx,Aa,Ae] at he
  obtain ⟨rfl,rfl,rfl,rfl⟩:=he
  exact ⟨π,[],h,Flat.nil,rfl,Lk.refl _ _,by simp [Instr.fill,Dy],λ_=>⟨[],⟨rfl,λi z F hz=>by simp at hz⟩,⟨Ns,by simp⟩,by simp⟩⟩
 |(j,x)::r,i,st,π,fr,tr,ys,st',cells,h,he,hle=>by
  simp only [Lx] at he
  split at he
  ·rename_i kD;subst kD
   split at he
   ·rename_i v' st1 hs
    obtain ⟨cB,h1,h2,h3,h4,h5⟩:=cn h (Dt h.2 x) hs
    split at he
    ·rename_i fr1 y hv
     split at he
     ·rename_i rP tr2 zs st2 hr
      simp only [Aa,Ae] at he
      obtain ⟨rfl,rfl,rfl,rfl⟩:=he
      obtain ⟨es,gW,JR⟩:=Nh e v' _ fr1 y h3 h2 hv
      have l4:=Cells.len e es y gW
      have Ar1:i*e.size+e.size<=cells.length:=by
       have:(i+1)*e.size<=(i+((i,x)::r).length)*e.size:=Fa _ (by simp)
       rw [Df,Wn] at this
       omega
      have PA:i*e.size+es.length<=cells.length:=by omega
      obtain ⟨VH,cl,g1,g2,g3,g4,g5,g6⟩:=Yl e r (i+1) st1 cB rP tr2 zs st2 (Dy cells (i*e.size) es) h1 hr (by
       rw [Jm _ _ _ PA]
       rw [show i+1+r.length=i+((i,x)::r).length by simp;omega];exact hle)
      have f1:Flat w (Cx X.w0.heap.size X.Sc VH fr1) e es [y]:=⟨by simp [l4],λq z hz=>by
       rcases q with _|q
       ·simp at hz;subst hz
        exact ⟨es,l4,λj u hu=>by simpa using hu,yz g1 g4 e es y gW⟩
       ·simp at hz⟩
      refine ⟨VH,es++cl,g1,?_,by simp [g3],h4.trans g4,?_,λht=>?_⟩
      ·have:=(f1.cells λes z hc=>hc.and_left (f2:=rP)).append (g2.cells λes z hc=>hc.and_right (f1:=fr1))
       simpa using this
      ·simp only [Bz]
       rw [x6 _ cells i (a.eval x) _ (i*e.size) e.size es rfl (by rw [JR];exact Lo e es y gW) l4 Ar1,g5]
       congr 2
       have Rc:cl.length=r.length*e.size:=by rw [g2.1,g3]
       have Yv:(i+1)*e.size+cl.length<=(Dy cells (i*e.size) es).length:=by
        rw [Jm _ _ _ PA,Rc,<-Df]
        rw [show i+1+r.length=i+((i,x)::r).length by simp;omega];exact hle
       have Akq:i*e.size+(es++cl).length<=cells.length:=by
        rw [Jm _ _ _ PA] at Yv
        rw [Av,l4]
        rw [Df,Wn] at Yv
        omega
       have e1:(i+1)*e.size=i*e.size+es.length:=by rw [Df,Wn,l4]
       apply List.ext_getElem?
       intro k
       rw [Iv _ _ _ _ Yv,Iv _ _ _ _ Akq,Iv _ _ _ _ PA,e1,Av]
       by_cases k1:k<i*e.size
       ·rw [Ab (by omega),Ab k1,Ab k1]
       ·rw [Aj k1,Aj k1]
        by_cases k2:k<i*e.size+es.length
        ·rw [Ab k2,Ab k2,Ab (by omega),As (by omega)]
        ·rw [Aj k2,Aj k2]
         by_cases k3:k<i*e.size+es.length+cl.length
         ·rw [Ab k3,Ab (by omega),Ar (by omega)]
          congr 1;omega
         ·rw [Aj k3,Aj (by omega)]
      ·simp only [Af] at ht
       obtain ⟨⟨ht1,ht2⟩,ht3⟩:=ht
       obtain ⟨F,us,t1,t2,t3,t7⟩:=h5 ht1 e fr1 y ht2 hv
       obtain ⟨Fs,t4,t5,t6⟩:=g6 ht3
       have XV:us=es:=by
        have c1:=Db.cells (S:= λ_=>False) F e us y t1 (λ_ _ h=>h)
        have a1:=Lo e us y c1
        have a2:=Lo e es y gW
        rw [<-t2,JR,a2] at a1
        simpa using a1.symm
       subst XV
       refine ⟨F::Fs,?_,?_,λb hb=>?_⟩
       ·have k1:Tz w e us [y] [F]:=⟨rfl,λq z G hz hG=>by
         rcases q with _|q
         ·simp at hz hG;subst hz;subst hG
          exact ⟨us,l4,λj u hu=>by simpa using hu,t1⟩
         ·simp at hz⟩
        exact Tz.append (by simp [l4]) k1 t4
       ·rw [Lr]
        refine ⟨Du.2 ⟨t3.1,t5.1,λb hb b' ve e=>?_⟩,λb hb=>?_⟩
        ·subst e
         obtain ⟨l,r,q1,q2⟩:=t6 b ve
         exact (t3.2 b hb).2.2 l r q1 q2
        ·rcases Az.1 hb with hb|hb
         ·have:=t3.2 b hb
          refine ⟨this.1,this.2.1,λl r q1 q2=>?_⟩
          cases hh:At st2.heap l with
          |none=>rw [(g1.1.heap l).emp hh] at q1;cases q1
          |some b'=>exact this.2.2 l r ((g4 l b' hh).1▸q1) q2
         ·exact t5.2 b hb
       ·rw [Lr] at hb
        rcases Az.1 hb with hb|hb
        ·exact t7 b hb
        ·obtain ⟨l,r,q1,q2⟩:=t6 b hb
         cases hh:At st1.heap l with
         |none=>rw [(h1.1.heap l).emp hh] at q1;cases q1
         |some b'=>exact ⟨l,r,(h4 l b' hh).1▸q1,q2⟩
     ·cases he
    ·cases he
   ·cases he
  ·cases he
theorem iI (hT:Eg P T) {st:St} {a:Act} (h:Bh X π st a w) (dst:Nat) (t:TypeId) (len:Nat) (parts:Array (Nat×Operand)) (av:AV) (st':St)
  (he:My T st dst t len parts=some (av,st')):
  ∃v' w' π',(Instr.buildSlice t len (parts.map λ(i,x)=>(i,a.eval x))).run P w= .ok v' w'/\Bh X π' st' a w'/\Bl X w' π' st'.heap av v':=by
 unfold My at he
 split at he
 ·cases he
 ·rename_i te l5
  split at he
  ·cases he
  ·rename_i e Yy
   split at he
   ·rename_i Kk
    obtain ⟨jV,hlen⟩:=Kk
    split at he
    ·rename_i fr tr ys st1 hb
     simp only [Aa,Ae] at he
     obtain ⟨rfl,rfl⟩:=he
     obtain ⟨i,hi,Wj,r7,sW⟩:=(hT.ty te e Yy).info
     have hu:=hT.elem t te l5
     have RR:parts.toList.length=len:=by simpa using jV
     have hz: ∃z:Array Value,(len*e.size=0/\z= #[])\/(¬len*e.size=0/\(zeroValue te).run P w= .ok (Ca e (Bq e)) w/\z=(Ca e (Bq e)).cells):=by
      by_cases h0:len*e.size=0
      ·exact ⟨#[], .inl ⟨h0,rfl⟩⟩
      ·exact ⟨_, .inr ⟨h0,by simp [zeroValue,typeInfo,hi,sW],rfl⟩⟩
     obtain ⟨z,hz⟩:=hz
     obtain ⟨cB,cl,g1,g2,g3,g4,g5,g6⟩:=Yl e parts.toList 0 st π fr tr ys st1 ((Array.range (len*e.size)).map (z[· %z.size]!)).toList h hb (by simp [RR])
     have Rc:cl.length=len*e.size:=by rw [g2.1,g3,RR]
     have XT:(Dy ((Array.range (len*e.size)).map (z[· %z.size]!)).toList (0*e.size) cl)=cl:=by
      simp [Dy,Rc]
     rw [XT] at g5
     have Wk:(Instr.buildSlice t len (parts.map λ(i,x)=>(i,a.eval x))).run P w= .ok (.slice (some ⟨w.heap.size,0,none⟩) len len) (w.alloc (.cells cl.toArray te)):=by
      have h24: ¬(len*e.size>2^24):=by
       have:len*e.size<=64*64:=Nat.mul_le_mul hlen.1 hlen.2.1
       omega
      simp only [Instr.buildSlice,Sem.run_bind,run_underlying hu,Result.andThen_ok,(hT.ty te e Yy).size,Aj h24]
      have e1:(parts.map λ(i,x)=>(i,a.eval x)).toList=parts.toList.map λp=>(p.1,a.eval p.2):=by simp
      simp only [e1]
      have e2:(((Array.range (len*e.size)).map (z[· %z.size]!)).toList.toArray)=(Array.range (len*e.size)).map (z[· %z.size]!):=Array.toArray_toList
      rw [e2] at g5
      rcases hz with ⟨h0,rfl⟩|⟨h0,hz,rfl⟩
      ·rw [Ab h0]
       simp only [Sem.run_bind,Sem.run_pure,Result.andThen_ok,g5,newRow]
       simp
      ·rw [Aj h0]
       simp only [Sem.run_bind,Sem.run_pure,Result.andThen_ok,hz,g5,newRow]
       simp
     have hN: ∃N:List Nat,(∀b∈N,(X.w0.heap.size<=b\/X.gv b)/\b<w.heap.size/\ ∀m r0,m≠dst->cB m=some r0-> ¬r0.cl b)/\(tr=true->N.Nodup/\ ∃Fs,List.flatten Fs=N/\Tz w e cl ys Fs):=by
      cases tr with
      |false=>exact ⟨[],by simp,λh=>by cases h⟩
      |true=>
       obtain ⟨Fs,t1,t2,_⟩:=g6 rfl
       exact ⟨_,λb hb=>⟨(t2.2 b hb).1,(t2.2 b hb).2.1,λm r0 _=>(t2.2 b hb).2.2 m r0⟩,λ_=>⟨t2.1,Fs,rfl,t1⟩⟩
     obtain ⟨N,q1,q2⟩:=hN
     have:=fH (w1:=w.alloc (.cells cl.toArray te)) g1 dst hlen.2.2 ((T.vd||e.flat)&&fr) (T.BI&&tr) e te ys cl cl.toArray len N (.inr rfl) (by simpa using Rc) (by simp only [maxLen];omega) (by omega) (λk u hu=>by simpa using hu) (g2.cells λes z hc=>hc.and_right) q1 (λht=>q2 (by simp only [Af] at ht;exact ht.2))
     exact ⟨_,_,_,Wk,this.1,this.2 _ (by omega)⟩
    ·cases he
   ·cases he
theorem m6 {t te:TypeId} {e:Ty} (h:ej T t=some (te,e)):T.elem t=some te/\T.ty te=some (.slice e):=by
 unfold ej at h
 cases he:T.elem t with
 |none=>rw [he] at h;cases h
 |some Sj=>
  rw [he] at h
  simp only [Fo] at h
  cases hg:T.OT Sj with
  |none=>rw [hg] at h;cases h
  |some e'=>
   rw [hg] at h
   simp only [Al,Aa,Ae] at h
   obtain ⟨rfl,rfl⟩:=h
   refine ⟨rfl,?_⟩
   unfold Tab.OT at hg
   split at hg
   ·split at hg
    ·rename_i Yy;simp only [Aa] at hg;subst hg;exact Yy
    ·cases hg
   ·cases hg
theorem mQ (w:World) (o:Obj):Li w.heap.size (λ_=>False) w (w.alloc o):=⟨rfl,rfl,rfl,by simp,λk hk _=>Below.heap_alloc w _ k hk⟩
theorem pX (w:World) (o:Obj):Li w.heap.size (λ_=>False) w (w.drew.alloc o):=⟨rfl,rfl,rfl,by simp,λk hk _=>Below.heap_alloc w.drew _ k hk⟩
theorem qY (hT:Eg P T) {st:St} {a:Act} (h:Bh X π st a w) (dst:Nat) (t:TypeId) (l c:AV) (vl vc:Value) (hl:Bl X w π st.heap l vl) (hc:Bl X w π st.heap c vc) (av:AV) (st':St)
  (he:Ys T st dst t l c=some (av,st')): ∃v' w' π',(Instr.makeSlice t vl vc).run P w= .ok v' w'/\Bh X π' st' a w'/\Bl X w' π' st'.heap av v':=by
 unfold Ys at he
 split at he
 ·exact sH hT h dst t l c vl vc hl hc av st' he
 ·rename_i te e hg
  obtain ⟨l5,Yy⟩:=m6 hg
  split at he
  ·rename_i fr1 k1 n rP k2 m
   have:=Qw hl;subst this
   have:=Qw hc;subst this
   split at he
   ·rename_i Kk
    obtain ⟨h0,hnm,WY⟩:=Kk
    obtain ⟨h1,h2⟩:=Vb.1 h0
    subst hnm
    simp only [Aa,Ae] at he
    obtain ⟨rfl,rfl⟩:=he
    obtain ⟨i,hi,Wj,r7,sW⟩:=(hT.ty te _ Yy).info
    have hu:=hT.elem t te l5
    have hn:n.toNat<=4294967296:=by unfold Cn at h2;omega
    have hr:=run_make (P:=P) (w:=w) t te i _ hu hi sW k1 k2 n n h1 (Rb _) (by
     have:(i.bytes:Int)*n<=256*4294967296:=by
      obtain ⟨nn,rfl⟩:=Rw h1
      have h7:i.bytes*nn<=256*4294967296:=Nat.mul_le_mul r7 (by simpa using hn)
      have h8:((i.bytes*nn:Nat):Int)<=256*4294967296:=by omega
      rwa [Int.natCast_mul] at h8
     omega) (by unfold Cn at h2;omega)
    have XX:(Ca (Ty.slice e) (Bq (Ty.slice e))).cells= #[.slice none 0 0]:=by simp [Ca,Ty.Ao,Bq,Value.cells]
    have gY:(Ty.slice e).size=1:=rfl
    rw [XX,Wj,gY] at hr
    have cell: ∀j,j<n.toNat->(madeCells #[Value.slice none 0 0] (n.toNat*1))[0+j]?=some (.slice none 0 0):=by
     intro j hj
     have:=PY (z:= #[Value.slice none 0 0]) (s:=1) (m:=n.toNat) (j:=j) (q:=0) rfl hj (by omega)
     simp only [Fm,En] at this
     simp only [Fm,Bu]
     rw [this];rfl
    obtain ⟨π',g1,g2⟩:=a9 (w1:=w.alloc (.cells (madeCells #[Value.slice none 0 0] (n.toNat*1)) te)) (gv:= λ_=>False) h WY WY te (e:=e) (rows:=List.replicate n.toNat []) (us:=List.replicate n.toNat (.slice none 0 0)) (Rs:=List.replicate n.toNat none) (g:=w.heap.size) (o:=0) (cap:=n.toNat)
     (λ_ hf=>hf.elim) (mQ w _) ⟨.inl (Ap _),by simp⟩ (heap_alloc_new w _) (by rw [size_madeCells];omega) (by unfold maxLen;omega) (by simp) (λj u hu=>by
      have hj:=(Am.1 hu).1
      simp only [Ix] at hj
      rw [cell j hj,Fy (Cj hu)])
     ⟨by simp,by simp,λi j q q' h1=>(by have:=Fy (Cj h1);cases this),λi x hx=>by
      have hj:=(Am.1 hx).1
      simp only [Ix] at hj
      rw [Fy (Cj hx)]
      exact ⟨.slice none 0 0,none,by rw [Zq,Ab hj],by rw [Zq,Ab hj],⟨rfl,rfl,rfl⟩,rfl⟩⟩
     (λi q h1=>by have:=Fy (Cj h1);cases this)
    exact ⟨_,_,π',hr,g1,g2 _ (by simp)⟩
   ·cases he
  ·cases he
theorem gU (hT:Eg P T) {st:St} {a:Act} (h:Bh X π st a w) (dst:Nat) (t:TypeId) (len:Nat) (parts:Array (Nat×Operand)) (av:AV) (st':St)
  (he:Jq T st dst t len parts=some (av,st')):
  ∃v' w' π',(Instr.buildSlice t len (parts.map λ(i,x)=>(i,a.eval x))).run P w= .ok v' w'/\Bh X π' st' a w'/\Bl X w' π' st'.heap av v':=by
 unfold Jq at he
 split at he
 ·exact iI hT h dst t len parts av st' he
 ·rename_i te e hg
  obtain ⟨l5,Yy⟩:=m6 hg
  split at he
  rotate_left
  ·cases he
  rename_i x Ah7
  split at he
  rotate_left
  ·cases he
  rename_i m off ln hx
  split at he
  rotate_left
  ·cases he
  rename_i fr tr e' tid xs hm
  split at he
  rotate_left
  ·cases he
  rename_i hc
  obtain ⟨rfl,hc,rfl,rfl⟩:=hc
  simp only [Af,Nt] at hc
  obtain ⟨hlen,WY,hmp⟩:=hc
  have hlen:len=1:=Kg hlen
  subst hlen
  simp only [Aa,Ae] at he
  obtain ⟨rfl,rfl⟩:=he
  have hu:=hT.elem t te l5
  unfold St.at at hm
  have hrx:=Dt h.2 x
  rw [hx] at hrx
  obtain ⟨_,vg⟩:=Pg (X:=X) (w:=w) hrx hm
  obtain ⟨ax,nx,cx,hvx⟩:=bg vg
  have hp:parts= #[(0,x)]:=by apply Qb;simpa using Ah7
  subst hp
  obtain ⟨i,hi,Wj,r7,sW⟩:=(hT.ty te _ Yy).info
  have Wk:(Instr.buildSlice t 1 (#[(0,x)].map λ(i,x)=>(i,a.eval x))).run P w= .ok (.slice (some ⟨w.heap.size,0,none⟩) 1 1) (w.alloc (.cells #[a.eval x] te)):=by
   have gY:(Ty.slice e').size=1:=rfl
   have hz:(zeroValue te).run P w= .ok (.slice none 0 0) w:=by simp [zeroValue,typeInfo,hi,sW,Ca,Ty.Ao,Bq]
   have hmp:(#[(0,x)].map λ(i,x)=>(i,a.eval x))= #[(0, .slice ax nx cx)]:=by simp [hvx]
   rw [hmp,hvx]
   simp only [Instr.buildSlice,Sem.run_bind,run_underlying hu,Result.andThen_ok,(hT.ty te _ Yy).size,gY]
   simp [Value.cells,Instr.fill,newRow,hz]
   congr 2
   apply Array.ext
   ·simp
   ·intro i h1 h2
    have h0:i=0:=by simpa using h2
    subst h0
    simp
  have IA:=(h.1.heap m).Sn hm
  simp only [Cg,Kt] at IA
  have hfa:Ub w (Cx X.w0.heap.size X.Sc π false) (π m) e' xs:=by
   cases hR:π m with
   |none=>rw [hR] at IA;exact IA
   |some q=>
    rw [hR] at IA
    obtain ⟨⟨f0,f0',_⟩,cu,ti',f2,f3,f4,f5,f6,_⟩:=IA
    exact ⟨⟨f0,f0'⟩,cu,ti',f2,f3,f4,f5,λp y hy=>by
     obtain ⟨es,g1,g2,g3⟩:=f6 p y hy
     exact ⟨es,g1,g2,Cells.Fw (Ap _) (λ_ _ _=>rfl) (λb _ hA=>hA.imp id (Or.imp id λ⟨h1,_⟩=>by cases h1)) e' es y g3⟩⟩
  obtain ⟨π',g1,g2⟩:=a9 (w1:=w.alloc (.cells #[a.eval x] te)) (gv:= λ_=>False) h WY hmp te (e:=e') (rows:= [xs]) (us:= [a.eval x]) (Rs:= [π m]) (g:=w.heap.size) (o:=0) (cap:=1)
   (λ_ hf=>hf.elim) (mQ w _) ⟨.inl (Ap _),by simp⟩ (heap_alloc_new w _) rfl (by unfold maxLen;omega) (by simp) (λj u hu=>by
    rcases j with _|j
    ·simpa using hu
    ·simp at hu)
   ⟨rfl,rfl,λi j q q' h1 h2 _=>by
    rcases i with _|i
    ·rcases j with _|j
     ·rfl
     ·simp at h2
    ·simp at h1,λi y hy=>by
    rcases i with _|i
    ·simp only [Bs,Aa] at hy
     subst hy
     exact ⟨_,_,rfl,rfl,vg,hfa⟩
    ·simp at hy⟩
   (λi q h1=>by
    rcases i with _|i
    ·simp only [Bs,Aa] at h1
     have hf:=h.1.Cq h1
     have:=(h.1.place m q _ h1 (h.1.sub m q _ h1 hf)).2
     exact ⟨by omega,λh=>h,m,q, .inr rfl,h1,hf⟩
    ·simp at h1)
  exact ⟨_,_,π',Wk,g1,g2 1 rfl⟩
theorem nf (hT:Eg P T) {st:St} {a:Act} (h:Bh X π st a w) (dst:Nat) (t ty:TypeId) (x y:Operand) (av:AV) (st':St) (he:Sr T st dst t x y=some (av,st')):
  ∃v' w' π',(Builtin.append_ #[t,t] ty #[a.eval x,a.eval y]).run P w= .ok v' w'/\Bh X π' st' a w'/\Bl X w' π' st'.heap av v':=by
 unfold Sr at he
 split at he
 ·exact nd hT h dst t ty x y av st' he
 ·rename_i te e hg
  obtain ⟨l5,Yy⟩:=m6 hg
  split at he
  rotate_left
  ·cases he
  rename_i l off len m ZB tu hx hy
  split at he
  rotate_left
  ·cases he
  rename_i e1 te1 A kp1 e2 wv B kp2 hl hm
  split at he
  rotate_left
  ·cases he
  rename_i hc
  obtain ⟨⟨rfl,rfl⟩,hc,⟨rfl,rfl⟩,⟨rfl,rfl⟩,hB,p6⟩:=hc
  simp only [Af,Nt,Nv,Es] at hc
  obtain ⟨⟨rfl,rfl⟩,r9,hmp,iV⟩:=hc
  have iV:m≠l:= λe=>by rw [e,Nat.beq_refl] at iV;cases iV
  simp only [Aa,Ae] at he
  obtain ⟨rfl,rfl⟩:=he
  have hu:=hT.elem t wv l5
  obtain ⟨i,hi,Wj,r7,sW⟩:=(hT.ty wv _ Yy).info
  have Wj:i.size=1:=Wj
  unfold St.at at hl hm
  have hrx:=Dt h.2 x
  have hry:=Dt h.2 y
  rw [hx] at hrx;rw [hy] at hry
  obtain ⟨b1,s1,n1,q1,q2,_,hox⟩:=hrx
  rw [hl] at q1;cases q1
  simp only [OB.row,Aa,Ae] at q2
  obtain ⟨rfl,rfl⟩:=q2
  obtain ⟨b2,s2,n2,q1,q2,_,hoy⟩:=hry
  rw [hm] at q1;cases q1
  simp only [OB.row,Aa,Ae] at q2
  obtain ⟨rfl,rfl⟩:=q2
  have hA:=((h.1.heap l).Sn hl).1
  have hBb:=((h.1.heap m).Sn hm).1
  cases hpm:π m with
  |none=>
   rw [hpm] at hBb
   have hBb:B= []:=hBb
   subst hBb;simp at hB
  |some rB=>
  rw [hpm] at hBb hoy
  obtain ⟨fB,Aul,tiB,uB,RB,w1B,w2B,w3B,w4B,w5B,w6B,w7B,LB⟩:=x8 hBb
  obtain ⟨adB,hvy,hcB,haB⟩:=hoy
  have haB:=haB (by omega)
  subst haB
  have hlB:=LB.1
  have n1':uB.length=B.length*i.size:=by rw [Wj,Fm];exact hlB
  have n2': ∀j u,uB[j]?=some u->w.cell? ((⟨rB.g,(rB.o+0)*1,none⟩:Addr).add j)=some u:= λj u hu=>by
   rw [Addr.add_lit,cellOf w1B,Fm,En];exact w5B j u hu
  have sT:(A.length+B.length)*i.bytes<=140737488355328:=by
   have:(A.length+B.length)*i.bytes<=4294967296*256:=Nat.mul_le_mul p6 r7
   omega
  have iW:A.length+B.length<=maxLen:=by unfold Cn at p6;simp only [maxLen];omega
  have hzs:(Ca (Ty.slice e2) (Bq (Ty.slice e2))).cells.size=1:=by simp [Ca,Ty.Ao,Bq,Value.cells]
  have Wz: ∀(k:Nat) (q:Real) (Rs:List (Option Real)),π k=some q->(∀(i:Nat) (p:Real),Rs[i]?=some (some p)->q.Cq p.g/\p.g≠q.g)-> ∀(i:Nat) (p:Real),Rs[i]?=some (some p)->p.g<w.heap.size:= λk q Rs h1 h2 i p h3=>
   (h.1.place k q _ h1 (h.1.sub k q _ h1 (h2 i p h3).1)).2
  cases jV:π l with
  |none=>
   rw [jV] at hA hox
   have hA:A= []:=hA
   subst hA
   obtain ⟨hvx,_,_⟩:=hox
   rw [hvx,hvy]
   simp only [Fq,Bu,il] at p6 sT iW⊢
   have hr:=run_append_nil (P:=P) w t ty wv i _ hu hi sW ⟨rB.g,(rB.o+0)*1,none⟩ B.length (rB.cap-0) uB n1' n2' hB (by simp only [maxLen] at iW;omega) (by omega)
   have vD:=grownCap_ge w B.length 0 wv
   have hcm:=grownCap_le_maxLen w B.length 0 wv (by omega)
   obtain ⟨π',g1,g2⟩:=a9 (w1:=w.drew.alloc (.cells (uB.toArray++Builtin.zeroCells (Ca (Ty.slice e2) (Bq (Ty.slice e2))).cells (grownCap w B.length 0 wv-B.length)) wv)) (gv:= λ_=>False) h r9 hmp wv (e:=e2) (rows:=B) (us:=uB) (Rs:=RB) (g:=w.heap.size) (o:=0) (cap:=grownCap w B.length 0 wv)
    (λ_ hf=>hf.elim) (pX w _) ⟨.inl (Ap _),by simp⟩ (heap_alloc_new w.drew _) (by rw [Array.size_append,Hg,Vh,hzs];omega) hcm vD (λj u hu=>by
     have hj:=(Am.1 hu).1
     rw [Bu,Uo (by simpa using hj)];simpa using hu)
    LB (λi q h1=>⟨by have:=Wz m rB RB hpm w7B i q h1;omega,λh=>h,m,rB, .inr rfl,hpm,(w7B i q h1).1⟩)
   exact ⟨_,_,π',hr,g1,g2 _ rfl⟩
  |some rA=>
   rw [jV] at hA hox
   obtain ⟨fA,RG,tiA,uA,RA,w1A,w2A,w3A,w4A,w5A,w6A,w7A,LA⟩:=x8 hA
   obtain ⟨adA,hvx,hcA,haA⟩:=hox
   have hlA:=LA.1
   rw [hvx,hvy]
   have apart: ∀(i j:Nat) (q q':Real),RA[i]?=some (some q)->RB[j]?=some (some q')->q.g≠q'.g:= λi j q q' h1 h2 e=>by
    have:=h.1.apart jV hpm (w7A i q h1).1 (e▸(w7B j q' h2).1)
    exact iV this.symm
   have LAB:=sa.append LA LB apart
   have Jd: ∀(i:Nat) (q:Real),RB[i]?=some (some q)->q.g≠rA.g:= λi q h1 e=>iV (h.1.apart hpm jV (w7B i q h1).1 (e▸fA))
   have hRs: ∀(i:Nat) (q:Real),(RA++RB)[i]?=some (some q)->q.g≠rA.g/\q.g<w.heap.size/\ ∃k p,(k=l\/k=m)/\π k=some p/\p.Cq q.g:= λi q h1=>by
    by_cases hi:i<RA.length
    ·rw [As hi] at h1
     exact ⟨(w7A i q h1).2,Wz l rA RA jV w7A i q h1,l,rA, .inl rfl,jV,(w7A i q h1).1⟩
    ·rw [Ar (by omega)] at h1
     exact ⟨Jd _ q h1,Wz m rB RB hpm w7B _ q h1,m,rB, .inr rfl,hpm,(w7B _ q h1).1⟩
   by_cases DN:A.length+B.length<=rA.cap-0
   ·have haA:=haA (by omega)
    subst haA
    have Yv:(rA.o+0)*1+A.length*i.size+uB.length<=RG.size:=by rw [Wj];omega
    have aa:(rA.o+0)*1+A.length*i.size+uB.length<=RG.toList.length:=by simpa using Yv
    have hr:=aR (P:=P) (w:=w) (ty:=ty) hu hi rA.g ((rA.o+0)*1) A.length (rA.cap-0) RG tiA w1A ⟨rB.g,(rB.o+0)*1,none⟩ B.length (rB.cap-0) uB n1' n2' w6B DN Yv
    have sV:=Oc w rA.g (Dy RG.toList ((rA.o+0)*1+A.length*i.size) uB).toArray
    obtain ⟨π',g1,g2⟩:=a9 (w1:=w.setRow rA.g (Dy RG.toList ((rA.o+0)*1+A.length*i.size) uB).toArray) (gv:= λb=>b=rA.g) h r9 hmp wv (e:=e2) (rows:=A++B) (us:=uA++uB) (Rs:=RA++RB) (g:=rA.g) (o:=rA.o) (cap:=rA.cap)
     (λb hb=>⟨l,rA, .inl rfl,jV,hb▸fA⟩) ⟨sV.os,sV.tape,sV.output,sV.size,λc _ hc=>setRow_other w rA.g c _ hc⟩ ⟨.inr ⟨l,rA, .inl rfl,jV,fA⟩,Ei (Gr w1A) sV.size⟩
     (setRow_heap w rA.g RG _ tiA _ w1A) (by rw [Hg,Jm _ _ _ aa,Yf];exact w2A) w3A (by simp;omega) (λj u hu=>by
      rw [Iw,Iv _ _ _ _ aa,Wj]
      by_cases hj:j<uA.length
      ·rw [As hj] at hu
       rw [Ab (by omega),Array.getElem?_toList]
       exact w5A j u hu
      ·rw [Ar (by omega)] at hu
       have:=(Am.1 hu).1
       rw [Aj (by omega),Ab (by omega)]
       rw [show rA.o+j-((rA.o+0)*1+A.length*1)=j-uA.length by omega]
       exact hu)
     LAB (λi q h1=>⟨(hRs i q h1).1,(hRs i q h1).1,(hRs i q h1).2.2⟩)
    have:=g2 (A.length+B.length) (by simp)
    have e0:(rA.o+0)*1=rA.o:=by omega
    simp only [e0,Nat.sub_zero] at hr g1 this⊢
    exact ⟨_,_,π',hr,g1,this⟩
   ·have hold: ∀j u,uA[j]?=some u->w.cell? (adA.add j)=some u:=by
     intro j u hu
     have hj:=(Am.1 hu).1
     rw [haA (by omega),Addr.add_lit,cellOf w1A,Fm,En];exact w5A j u hu
    have hr:=run_append_grow (P:=P) w t ty wv i _ hu hi sW adA A.length (rA.cap-0) uA (by rw [Wj,Fm];exact hlA) hold ⟨rB.g,(rB.o+0)*1,none⟩ B.length (rB.cap-0) uB n1' n2' (by omega) (by simp only [maxLen] at iW;omega) (growslice_fits (by omega) sT)
    have vD:=grownCap_ge w (A.length+B.length) (rA.cap-0) wv
    have hcm:=grownCap_le_maxLen w (A.length+B.length) (rA.cap-0) wv iW
    obtain ⟨π',g1,g2⟩:=a9 (w1:=w.drew.alloc (.cells (uA.toArray++uB.toArray++Builtin.zeroCells (Ca (Ty.slice e2) (Bq (Ty.slice e2))).cells (grownCap w (A.length+B.length) (rA.cap-0) wv-(A.length+B.length))) wv)) (gv:= λ_=>False) h r9 hmp wv (e:=e2) (rows:=A++B) (us:=uA++uB) (Rs:=RA++RB) (g:=w.heap.size) (o:=0) (cap:=grownCap w (A.length+B.length) (rA.cap-0) wv)
     (λ_ hf=>hf.elim) (pX w _) ⟨.inl (Ap _),by simp⟩ (heap_alloc_new w.drew _) (by rw [Array.size_append,Array.size_append,Hg,Hg,Vh,hzs];omega) hcm (by simpa using vD) (λj u hu=>by
      have hj:=(Am.1 hu).1
      rw [Bu,Uo (by simpa using hj)];simpa using hu)
     LAB (λi q h1=>⟨by have:=(hRs i q h1).2.1;omega,λh=>h,(hRs i q h1).2.2⟩)
    exact ⟨_,_,π',hr,g1,g2 _ (by simp)⟩
theorem lG: ∀τ:Ty,Gf X w π H (zeroCells τ) (Bq τ):=by
 have one: ∀(c:AC) (v:Value),v.oneCell'=true->Ia X w π H c v->Gf X w π H [c] [v]:= λc v h1 h2=>⟨rfl,λi c' hc=>by
  rcases i with _|i
  ·simp at hc;subst hc;exact ⟨v,rfl,h1,h2⟩
  ·simp at hc⟩
 intro τ
 induction τ with
 |unit=>exact ⟨rfl,λi c hc=>by simp [zeroCells] at hc⟩
 |pair a r ib hJ=>
  refine ⟨by simp [zeroCells,Bq,ib.1,hJ.1],λi c hc=>?_⟩
  simp only [zeroCells] at hc
  simp only [Bq]
  by_cases hi:i<(zeroCells a).length
  ·rw [As hi] at hc
   obtain ⟨u,hu,h⟩:=ib.2 i c hc
   exact ⟨u,by rw [As (by rw [ib.1];exact hi)];exact hu,h⟩
  ·rw [Ar (by omega)] at hc
   obtain ⟨u,hu,h⟩:=hJ.2 _ c hc
   exact ⟨u,by rw [Ar (by rw [ib.1];omega),ib.1];exact hu,h⟩
 |int k=>exact one (.data true _ _) _ rfl (Np (H:=H) k 0 true)
 |bool=>exact one (.data true _ _) _ rfl (Ml (H:=H) false true)
 |str=>exact one (.data true _ _) _ rfl (mi (H:=H) ByteArray.empty true)
 |slice e=>exact one _ _ rfl rfl
 |oslice e=>exact one _ _ rfl rfl
 |ptr e=>exact one _ _ rfl rfl
 |optr e=>exact one _ _ rfl rfl
 |smap v=>exact one (.data true _ _) _ rfl ⟨[.map none], .inl ⟨rfl,rfl⟩,by simp [Ca,Ty.Ao]⟩
 |clo f c=>exact one .undef .nilFunc rfl trivial
theorem uY: ∀τ:Ty,Gf X w π H (Ra τ) (Bq τ):=by
 have one: ∀(c:AC) (v:Value),v.oneCell'=true->Ia X w π H c v->Gf X w π H [c] [v]:= λc v h1 h2=>⟨rfl,λi c' hc=>by
  rcases i with _|i
  ·simp at hc;subst hc;exact ⟨v,rfl,h1,h2⟩
  ·simp at hc⟩
 intro τ
 induction τ with
 |unit=>exact ⟨rfl,λi c hc=>by simp [Ra] at hc⟩
 |pair a r ib hJ=>
  refine ⟨by simp [Ra,Bq,ib.1,hJ.1],λi c hc=>?_⟩
  simp only [Ra] at hc
  simp only [Bq]
  by_cases hi:i<(Ra a).length
  ·rw [As hi] at hc
   obtain ⟨u,hu,h⟩:=ib.2 i c hc
   exact ⟨u,by rw [As (by rw [ib.1];exact hi)];exact hu,h⟩
  ·rw [Ar (by omega)] at hc
   obtain ⟨u,hu,h⟩:=hJ.2 _ c hc
   exact ⟨u,by rw [Ar (by rw [ib.1];omega),ib.1];exact hu,h⟩
 |int k=>exact one (.data false _ _) _ rfl (Np (H:=H) k 0 false)
 |bool=>exact one (.data false _ _) _ rfl (Ml (H:=H) false false)
 |str=>exact one (.data false _ _) _ rfl (mi (H:=H) ByteArray.empty false)
 |slice e=>exact one (.data false _ _) _ rfl ⟨[.slice none 0 0],⟨none,0,0,rfl,rfl,Ap _, .inl rfl⟩,by simp [Ca,Ty.Ao]⟩
 |oslice e=>exact one _ _ rfl rfl
 |ptr e=>exact one _ _ rfl rfl
 |optr e=>exact one _ _ rfl rfl
 |smap v=>exact one (.data false _ _) _ rfl ⟨[.map none], .inl ⟨rfl,rfl⟩,by simp [Ca,Ty.Ao]⟩
 |clo f c=>exact one .undef .nilFunc rfl trivial
theorem dU (hT:Eg P T) {st:St} {a:Act} (h:Bh X π st a w) (t:TypeId) (Oy:Array (Nat×Nat))
  (jV: ∀f o u ρ,T.off t f=some (o,u)->T.ty u=some ρ->Oy[f]?=some (o,ρ.size)): ∀(parts:List (Nat×Operand)) (cs iG:List AC) (us:List Value),Gf X w π st.heap cs us->
  Mx T st t parts cs=some iG-> ∃Xx:List Value,Instr.fill (λi=>Oy[i]?) us.toArray (parts.map λp=>(p.1,a.eval p.2))=some Xx.toArray/\Gf X w π st.heap iG Xx
 | [],cs,iG,us,hr,he=>by
  simp only [Mx,Aa] at he;subst he
  exact ⟨us,rfl,hr⟩
 |(f,x)::r,cs,iG,us,hr,he=>by
  simp only [Mx] at he
  split at he
  ·rename_i o u ho
   split at he
   ·rename_i ρ hρ
    split at he
    ·rename_i c hc
     split at he
     ·rename_i hle
      obtain ⟨vs,hv,hl,hr2⟩:=iz (Dt h.2 x) hc
      have e1:=hr.1
      have e2:=hr2.1
      obtain ⟨Xx,g1,g2⟩:=dU hT h t Oy jV r _ iG _ (uG hr hr2 o hle) he
      refine ⟨Xx,?_,g2⟩
      simp only [Bz]
      rw [x6 _ us f (a.eval x) _ o ρ.size vs (jV f o u ρ ho hρ) hv hl (by omega)]
      exact g1
     ·cases he
    ·cases he
   ·cases he
  ·cases he
theorem gw (hT:Eg P T) {st:St} {a:Act} (h:Bh X π st a w) (t:TypeId) (parts:Array (Nat×Operand)) (av:AV) (he:Yp T st t parts=some av):
  ∃v',(Instr.build t (parts.map λ(i,x)=>(i,a.eval x))).run P w= .ok v' w/\Bl X w π st.heap av v':=by
 unfold Yp at he
 split at he
 ·cases he
 ·rename_i τ Yy
  split at he
  ·rename_i hs
   cases hb:Mx T st t parts.toList (zeroCells τ) with
   |none=>rw [hb] at he;cases he
   |some iG=>
    rw [hb] at he
    simp only [Al,Aa] at he;subst he
    obtain ⟨fs,Oy,h1,h2,h3⟩:=hT.fill t τ Yy hs
    obtain ⟨i,hi,Wj,r7,sW⟩:=(hT.ty t τ Yy).info
    obtain ⟨Xx,g1,g2⟩:=dU hT h t Oy h3 parts.toList (zeroCells τ) iG (Bq τ) (lG τ) hb
    refine ⟨.agg Xx.toArray,?_,Xx,rfl,g2⟩
    have hz:(zeroValue t).run P w= .ok (Ca τ (Bq τ)) w:=by simp [zeroValue,typeInfo,hi,sW]
    have XX:(Ca τ (Bq τ)).cells=(Bq τ).toArray:=by simp [Ca,hs,Value.cells]
    have h2':=h2 w
    unfold placesOf at h2'
    have e1:(parts.map λ(i,x)=>(i,a.eval x)).toList=parts.toList.map λp=>(p.1,a.eval p.2):=by simp
    simp only [Instr.build,Sem.run_bind,hz,Result.andThen_ok,run_underlying h1,h2',XX,e1,g1,Sem.run_pure]
  ·cases he
theorem uj {st:St} {v:AV} (h:v.settled=true):settle st v=some (v,st):=by
 cases v with
 | «at»a=>cases a<;>simp [AV.settled,AC.settled] at h<;>simp [settle,AC.settled]
 |agg cs=>
  have hs:cs.all (·.settled)=true:=h
  have:Ic cs.length st cs=some (cs,st):=by
   cases hn:cs.length with
   |zero=>simp [Ic,hs]
   |succ n=>
    have hf:cs.find? (λc=>!c.settled)=none:=List.find?_eq_none.2 λc hc=>by simpa using Bb.1 hs c hc
    simp [Ic,hf]
  simp [settle,this]
 |bF fr τ x=>rfl
 |Ng l=>simp [AV.settled] at h
theorem nX {e:Ty} {st:St} : ∀(parts:List (Nat×Operand)) (i:Nat) (fr:Bool) (ys:List e.den),fJ e i parts st=some (fr,ys)-> ∃tr,Lx e i parts st=some (fr,tr,ys,st)
 | [],i,fr,ys,h=>by
  simp only [fJ,Aa,Ae] at h
  obtain ⟨rfl,rfl⟩:=h
  exact ⟨true,rfl⟩
 |(j,x)::r,i,fr,ys,h=>by
  simp only [fJ] at h
  split at h
  ·rename_i hc
   split at h
   ·rename_i f1 y f2 zs h1 h2
    simp only [Aa,Ae] at h
    obtain ⟨rfl,rfl⟩:=h
    obtain ⟨tr,h3⟩:=nX r (i+1) f2 zs h2
    refine ⟨Um st (st.ev x)&&e.tree&&tr,?_⟩
    simp only [Lx]
    rw [Ab hc.1,uj hc.2]
    simp only [h1,h3]
   ·cases h
  ·cases h
theorem oR (hT:Eg P T) {st:St} {a:Act} (h:Bh X π st a w) (t:TypeId) (len:Nat) (parts:Array (Nat×Operand)) (av:AV) (he:bS T st t len parts=some av):
  ∃v' w' π',(Instr.buildSlice t len (parts.map λ(i,x)=>(i,a.eval x))).run P w= .ok v' w'/\Bh X π' st a w'/\Bl X w' π' st.heap av v':=by
 unfold bS at he
 split at he
 ·cases he
 ·rename_i te l5
  split at he
  ·cases he
  ·rename_i e Yy
   split at he
   ·rename_i Kk
    obtain ⟨jV,hlen⟩:=Kk
    cases hp:fJ e 0 parts.toList st with
    |none=>rw [hp] at he;cases he
    |some p=>
     obtain ⟨fr,ys⟩:=p
     rw [hp] at he
     simp only [Al,Aa] at he
     subst he
     obtain ⟨tr,hb⟩:=nX _ _ _ _ hp
     obtain ⟨i,hi,Wj,r7,sW⟩:=(hT.ty te e Yy).info
     have hu:=hT.elem t te l5
     have RR:parts.toList.length=len:=by simpa using jV
     have hz: ∃z:Array Value,(len*e.size=0/\z= #[])\/(¬len*e.size=0/\(zeroValue te).run P w= .ok (Ca e (Bq e)) w/\z=(Ca e (Bq e)).cells):=by
      by_cases h0:len*e.size=0
      ·exact ⟨#[], .inl ⟨h0,rfl⟩⟩
      ·exact ⟨_, .inr ⟨h0,by simp [zeroValue,typeInfo,hi,sW],rfl⟩⟩
     obtain ⟨z,hz⟩:=hz
     obtain ⟨cB,cl,g1,g2,g3,g4,g5,g6⟩:=Yl e parts.toList 0 st π fr tr ys st ((Array.range (len*e.size)).map (z[· %z.size]!)).toList h hb (by simp [RR])
     have Rc:cl.length=len*e.size:=by rw [g2.1,g3,RR]
     have XT:(Dy ((Array.range (len*e.size)).map (z[· %z.size]!)).toList (0*e.size) cl)=cl:=by
      simp [Dy,Rc]
     rw [XT] at g5
     have Wk:(Instr.buildSlice t len (parts.map λ(i,x)=>(i,a.eval x))).run P w= .ok (.slice (some ⟨w.heap.size,0,none⟩) len len) (w.alloc (.cells cl.toArray te)):=by
      have h24: ¬(len*e.size>2^24):=by
       have:len*e.size<=64*64:=Nat.mul_le_mul hlen.1 hlen.2
       omega
      simp only [Instr.buildSlice,Sem.run_bind,run_underlying hu,Result.andThen_ok,(hT.ty te e Yy).size,Aj h24]
      have e1:(parts.map λ(i,x)=>(i,a.eval x)).toList=parts.toList.map λp=>(p.1,a.eval p.2):=by simp
      simp only [e1]
      have e2:(((Array.range (len*e.size)).map (z[· %z.size]!)).toList.toArray)=(Array.range (len*e.size)).map (z[· %z.size]!):=Array.toArray_toList
      rw [e2] at g5
      rcases hz with ⟨h0,rfl⟩|⟨h0,hz,rfl⟩
      ·rw [Ab h0]
       simp only [Sem.run_bind,Sem.run_pure,Result.andThen_ok,g5,newRow]
       simp
      ·rw [Aj h0]
       simp only [Sem.run_bind,Sem.run_pure,Result.andThen_ok,hz,g5,newRow]
       simp
     have JP:(w.alloc (.cells cl.toArray te)).heap[w.heap.size]?=some (.cells cl.toArray te (0,0)):=heap_alloc_new w _
     have hB:Below w.heap.size w (w.alloc (.cells cl.toArray te)):=(Below.refl _ _).alloc (Ap _) _
     have Lq:=Gr JP
     refine ⟨_,_,cB,Wk,g1.quiet hB,⟨[_],?_,rfl⟩⟩
     refine ⟨some ⟨w.heap.size,0,none⟩,len,len,rfl,by rw [g3,RR],Ap _, .inr ⟨w.heap.size,0,rfl,Lq,λhA=>?_,λk x hx=>?_⟩⟩
     ·rcases hA with hA|hA|⟨_,hA⟩
      ·exact absurd (g1.1.own hA).1 (Nat.lt_irrefl _)
      ·exact absurd (Ei (g1.1.sc _ hA).1 g1.1.below.size) (Nat.lt_irrefl _)
      ·exact absurd (Ei hA g1.1.below.size) (Nat.lt_irrefl _)
     ·obtain ⟨es,k1,k2,k3⟩:=g2.2 k x hx
      refine ⟨es,k1,λj u hu=>?_,Cells.Fw hB.size (λb hb _=>hB.block b hb) (λ_ _ h=>h) e es x k3⟩
      rw [cellOf JP,Bu]
      simpa using k2 j u hu
   ·cases he
theorem CR {Γ:Env} (hT:Eg P T) (Pu:Lj P Γ) {st:St} {a:Act} (h:Bh X π st a w) (o:Oper) (av:AV) (he:Yc T Γ st o=some av):
  ig P X st a w av ((execOp a.eval o).run P w):=by
 obtain ⟨dst,op,ty,pos,af,gd⟩:=o
 have val: ∀(s:Sem Value) (v:Value) (w':World) (π':Pi),s.run P w= .ok v w'->Bh X π' st a w'->Bl X w' π' st.heap av v->(execOp a.eval ⟨dst,op,ty,pos,af,gd⟩=do pure (.value (<-s)))->
   ig P X st a w av ((execOp a.eval ⟨dst,op,ty,pos,af,gd⟩).run P w):=by
  intro s v w' π' h1 h2 h3 h4
  rw [h4,Sem.run_bind,h1]
  exact ⟨π',h2,h3⟩
 have quiet:Fh T Γ st ⟨dst,op,ty,pos,af,gd⟩=some av->ig P X st a w av ((execOp a.eval ⟨dst,op,ty,pos,af,gd⟩).run P w):=by
  intro hq
  have:=iK hT Pu h _ av hq
  generalize (execOp a.eval ⟨dst,op,ty,pos,af,gd⟩).run P w=r at*
  cases r with
  |halt x w'=>exact this
  |ok n w'=>
   cases n<;>simp only [NZ] at this<;>simp only [ig]
   ·obtain ⟨rfl,hr⟩:=this
    exact ⟨π,h,hr⟩
   ·obtain ⟨rfl,hc⟩:=this
    exact ⟨rfl,hc.mono λe qP ⟨v,hv,hb,hr⟩=>⟨v,hv,π,h.quiet hb,hr⟩⟩
 unfold Yc at he
 split at he
 ·rename_i t len parts rW
  dsimp only at rW;subst rW
  obtain ⟨v,w',π',h1,h2,h3⟩:=oR hT h t len parts av he
  exact val _ v w' π' h1 h2 h3 rfl
 ·rename_i t parts rW
  dsimp only at rW;subst rW
  obtain ⟨v',h1,h2⟩:=gw hT h t parts av he
  exact val _ v' w π h1 h h2 rfl
 ·exact quiet he
theorem dG {a:Act} : ∀(l:List Operand) {π:Pi} {st st1:St},Bh X π st a w->Ny l st=some st1-> ∃π',Bh X π' st1 a w
 | [],π,st,st1,h,he=>by
  simp only [Ny,Aa] at he
  subst he
  exact ⟨π,h⟩
 |x::r,π,st,st1,h,he=>by
  simp only [Ny] at he
  cases hs:settle st (st.ev x) with
  |none=>rw [hs] at he;cases he
  |some p=>
   rw [hs] at he
   obtain ⟨cB,h1,_⟩:=cn h (Dt h.2 x) hs
   exact dG r h1 he
theorem GS {a:Act} {st:St} (h:Bh X π st a w) (p x:Operand): ∃π',Bh X π' (Pk T st p x) a w:=by
 unfold Pk
 split
 ·split
  ·split
   ·rename_i hs;exact dG _ h hs
   ·exact ⟨π,h⟩
  ·exact ⟨π,h⟩
 ·exact ⟨π,h⟩
theorem yF {Γ:Env} (hT:Eg P T) (Pu:Lj P Γ) {st:St} {a:Act} (h:Bh X π st a w) (o:Oper) (av:AV) (st':St) (he:evalOp T Γ st o=some (av,st')):
  ig P X st' a w av ((execOp a.eval o).run P w):=by
 have quiet: ∀ {π:Pi} {st:St},Bh X π st a w->(Fh T Γ st o).map (λv=>(v,st))=some (av,st')->ig P X st' a w av ((execOp a.eval o).run P w):=by
  intro π st h he
  cases hq:Fh T Γ st o with
  |none=>rw [hq] at he;cases he
  |some v=>
   rw [hq] at he
   simp only [Al,Aa,Ae] at he
   obtain ⟨rfl,rfl⟩:=he
   have:=iK hT Pu h o v hq
   generalize (execOp a.eval o).run P w=r at*
   cases r with
   |halt x w'=>exact this
   |ok n w'=>
    cases n<;>simp only [NZ] at this<;>simp only [ig]
    ·obtain ⟨rfl,hr⟩:=this
     exact ⟨π,h,hr⟩
    ·obtain ⟨rfl,hc⟩:=this
     exact ⟨rfl,hc.mono λe qP ⟨v,hv,hb,hr⟩=>⟨v,hv,π,h.quiet hb,hr⟩⟩
 obtain ⟨dst,op,ty,pos,af,gd⟩:=o
 have val: ∀(s:Sem Value) (v:Value) (w':World) (π':Pi),s.run P w= .ok v w'->Bh X π' st' a w'->Bl X w' π' st'.heap av v->(execOp a.eval ⟨dst,op,ty,pos,af,gd⟩=do pure (.value (<-s)))->
   ig P X st' a w av ((execOp a.eval ⟨dst,op,ty,pos,af,gd⟩).run P w):=by
  intro s v w' π' h1 h2 h3 h4
  rw [h4,Sem.run_bind,h1]
  exact ⟨π',h2,h3⟩
 unfold evalOp at he
 split at he
 all_goals (rename_i rW;dsimp only at rW;try subst rW)
 ·
  rename_i x
  split at he
  ·rename_i d te e hx hd ht
   split at he
   ·rename_i WY
    simp only [Aa,Ae] at he
    obtain ⟨rfl,rfl⟩:=he
    obtain ⟨k1,k2,_⟩:=tH h d WY (T.vd||e.flat) T.BI te e
    have hxr:=Dt h.2 x
    rw [hx] at hxr
    have hxv:a.eval x= .slice none 0 0:=hxr
    show ig P X _ a w _ (.ok (.value (a.eval x)) w)
    rw [hxv]
    exact ⟨_,k1,k2⟩
   ·cases he
  ·simp only [Aa,Ae] at he
   obtain ⟨rfl,rfl⟩:=he
   exact ⟨π,h,Dt h.2 x⟩
 ·
  rename_i t
  split at he
  ·rename_i d τ hd ht
   obtain ⟨i,hi,Wj,r7,sW⟩:=(hT.ty t τ ht).info
   have hk: ∃π',Bh X π' st' a (w.alloc (.cells (Bq τ).toArray t))/\Bl X (w.alloc (.cells (Bq τ).toArray t)) π' st'.heap av (.pointer (some ⟨w.heap.size,0,none⟩)):=by
    split at he
    ·exact zk h d t (Ra τ) (Bq τ) (uY τ) av st' he
    ·exact qt h d t τ (zeroCells τ) (Bq τ) (lG τ) av st' he
   obtain ⟨π',k1,k2⟩:=hk
   have XX:(Ca τ (Bq τ)).cells=(Bq τ).toArray:=by
    cases τ<;>simp [Ca,Ty.Ao,Value.cells,Bq]
   refine val (Instr.alloc t true (.tuple #[])) _ _ π' ?_ k1 k2 rfl
   simp [Instr.alloc,zeroValue,typeInfo,hi,sW,newVar,newRow,XX]
  ·cases he
 ·
  rename_i t x
  split at he
  ·rename_i d τ hd ht
   split at he
   ·rename_i cs hc
    obtain ⟨us,hv,hl,hr⟩:=iz (Dt h.2 x) hc
    have hk: ∃π',Bh X π' st' a (w.alloc (.cells us.toArray t))/\Bl X (w.alloc (.cells us.toArray t)) π' st'.heap av (.pointer (some ⟨w.heap.size,0,none⟩)):=by
     split at he
     ·split at he
      ·rename_i Si
       cases hvc:Ff st τ cs with
       |none=>rw [hvc] at he;cases he
       |some p=>
        obtain ⟨fr,y⟩:=p
        rw [hvc] at he
        simp only [Al,Aa,Ae] at he
        obtain ⟨rfl,rfl⟩:=he
        have Rc:=Xt τ cs us fr y Si hr hvc
        have hB:Below w.heap.size w (w.alloc (.cells us.toArray t)):=(Below.refl _ _).alloc (Ap _) _
        have JP:(w.alloc (.cells us.toArray t)).heap[w.heap.size]?=some (.cells us.toArray t (0,0)):=heap_alloc_new w _
        refine ⟨π,h.quiet hB,[_], .inr ⟨y,w.heap.size,0,rfl,rfl,Gr JP,λhA=>?_,us,hl,λj u hu=>?_,Cells.Fw hB.size (λb hb _=>hB.block b hb) (λb _ hA=>?_) τ us y Rc⟩,by simp [Ca,Ty.Ao]⟩
        ·rcases hA with hA|hA|⟨hf,_⟩
         ·exact absurd (h.1.own hA).1 (Nat.lt_irrefl _)
         ·exact absurd (Ei (h.1.sc _ hA).1 h.1.below.size) (Nat.lt_irrefl _)
         ·cases hf
        ·rw [cellOf JP,Bu];simpa using hu
        ·exact hA.imp id (Or.imp id λ⟨h1,_⟩=>by cases h1)
      ·cases he
     ·exact qt h d t τ cs us hr av st' he
    obtain ⟨π',k1,k2⟩:=hk
    refine val (Instr.box t (a.eval x)) _ _ π' ?_ k1 k2 rfl
    simp [Instr.box,newVar,newRow,hv]
   ·cases he
  ·cases he
 ·
  rename_i t p x
  obtain ⟨π0,h⟩:=GS (T:=T) h p x
  cases hs:Qq T (Pk T st p x) t ((Pk T st p x).ev p) ((Pk T st p x).ev x) with
  |none=>rw [hs] at he;cases he
  |some s=>
   rw [hs] at he
   simp only [Al,Aa,Ae] at he
   obtain ⟨rfl,rfl⟩:=he
   obtain ⟨w',π',h1,h2⟩:=oV hT h t _ _ _ _ (Dt h.2 p) (Dt h.2 x) s hs
   have:(execOp a.eval ⟨dst, .store t p x,ty,pos,af,gd⟩).run P w= .ok .skip w':=by
    show (do Instr.storeAt t (a.eval p) (a.eval x);pure Next.skip:Sem Next).run P w=_
    rw [Sem.run_bind,h1];rfl
   rw [this]
   exact ⟨π',h2,trivial⟩
 ·
  rename_i t l c
  split at he
  ·rename_i d hd
   obtain ⟨v,w',π',h1,h2,h3⟩:=qY hT h d t _ _ _ _ (Dt h.2 l) (Dt h.2 c) av st' he
   exact val _ v w' π' h1 h2 h3 rfl
  ·cases he
 ·
  rename_i t
  split at he
  ·rename_i d hd
   obtain ⟨v,w',π',h1,h2,h3⟩:=ni hT h d t av st' he
   exact val _ v w' π' h1 h2 h3 rfl
  ·cases he
 ·
  rename_i t m k x
  cases hs:Jt T st t (st.ev m) (st.ev k) (st.ev x) with
  |none=>rw [hs] at he;cases he
  |some s=>
   rw [hs] at he
   simp only [Al,Aa,Ae] at he
   obtain ⟨rfl,rfl⟩:=he
   obtain ⟨w',h1,h2⟩:=eb hT h t _ _ _ _ _ _ (Dt h.2 m) (Dt h.2 k) (Dt h.2 x) s hs
   have:(execOp a.eval ⟨dst, .mapUpdate t m k x,ty,pos,af,gd⟩).run P w= .ok .skip w':=by
    show (do Instr.mapUpdate t (a.eval m) (a.eval k) (a.eval x);pure Next.skip:Sem Next).run P w=_
    rw [Sem.run_bind,h1];rfl
   rw [this]
   exact ⟨π,h2,trivial⟩
 ·
  rename_i t m k x
  cases hs:Jt T st t (st.ev m) (st.ev k) (st.ev x) with
  |none=>rw [hs] at he;cases he
  |some s=>
   rw [hs] at he
   simp only [Al,Aa,Ae] at he
   obtain ⟨rfl,rfl⟩:=he
   obtain ⟨w',h1,h2⟩:=eb hT h t _ _ _ _ _ _ (Dt h.2 m) (Dt h.2 k) (Dt h.2 x) s hs
   have:(execOp a.eval ⟨dst, .insert t m k x,ty,pos,af,gd⟩).run P w= .ok .skip w':=by
    show (do Instr.mapUpdate t (a.eval m) (a.eval k) (a.eval x);pure Next.skip:Sem Next).run P w=_
    rw [Sem.run_bind,h1];rfl
   rw [this]
   exact ⟨π,h2,trivial⟩
 ·
  rename_i t len parts
  split at he
  ·rename_i d hd
   obtain ⟨v,w',π',h1,h2,h3⟩:=gU hT h d t len parts av st' he
   exact val _ v w' π' h1 h2 h3 rfl
  ·cases he
 ·
  rename_i t parts
  cases hb:Yp T st t parts with
  |none=>rw [hb] at he;cases he
  |some v=>
   rw [hb] at he
   simp only [Al,Aa,Ae] at he
   obtain ⟨rfl,rfl⟩:=he
   obtain ⟨v',h1,h2⟩:=gw hT h t parts v hb
   exact val _ v' w π h1 h h2 rfl
 ·
  rename_i args ts
  split at he
  ·rename_i d x y t t' hd Sa rj
   split at he
   ·rename_i Tj;subst Tj
    have e1:args= #[x,y]:=by apply Qb;simpa using Sa
    have e2:ts= #[t,t]:=by apply Qb;simpa using rj
    subst e1;subst e2
    obtain ⟨v,w',π',h1,h2,h3⟩:=nf hT h d t ty x y av st' he
    refine val (Builtin.append_ #[t,t] ty #[a.eval x,a.eval y]) v w' π' h1 h2 h3 ?_
    simp [execOp,resolve,invoke,builtin]
   ·cases he
  ·cases he
 ·
  rename_i args ts
  split at he
  ·rename_i x y t t' Sa rj
   have e1:args= #[x,y]:=by apply Qb;simpa using Sa
   have e2:ts= #[t,t']:=by apply Qb;simpa using rj
   subst e1;subst e2
   obtain ⟨v,w',h1,h2,h3⟩:=sE hT h t t' ty _ _ _ _ (Dt h.2 x) (Dt h.2 y) av st' he
   refine val (Builtin.copy_ #[t,t'] ty #[a.eval x,a.eval y]) v w' π h1 h2 h3 ?_
   simp [execOp,resolve,invoke,builtin]
  ·cases he
 ·
  rename_i args ts
  split at he
  ·rename_i x t Sa rj
   have e1:args= #[x]:=by apply Qb;simpa using Sa
   have e2:ts= #[t]:=by apply Qb;simpa using rj
   subst e1;subst e2
   cases hs:evalClear T st t (st.ev x) with
   |none=>rw [hs] at he;cases he
   |some s=>
    rw [hs] at he
    simp only [Al,Aa,Ae] at he
    obtain ⟨rfl,rfl⟩:=he
    obtain ⟨v,w',h1,h2⟩:=qX hT h t ty _ _ (Dt h.2 x) s hs
    refine val (Builtin.clear_ #[t] ty #[a.eval x]) v w' π h1 h2 trivial ?_
    simp [execOp,resolve,invoke,builtin]
  ·cases he
 ·
  rename_i f args ts
  split at he
  ·rename_i s Am4
   have hs:Dc P f s:=Pu f _ Am4
   have:=qV h hs dst (args.toList.map st.ev) (args.toList.map a.eval) (by simp) (λi c v=>jo h args.toList i c v) av st' he
   rw [js a.eval f args ts dst ty pos af gd rfl hs.enter]
   refine ⟨rfl,?_⟩
   rwa [show (args.toList.map a.eval).toArray=args.map a.eval from by apply Qb;simp] at this
  ·rename_i s Am4
   split at he
   ·cases hs:Ny args.toList st with
    |none=>rw [hs] at he;cases he
    |some st1=>
     rw [hs] at he
     obtain ⟨cB,h1⟩:=dG args.toList h hs
     exact quiet h1 he
   ·exact quiet h he
  ·exact quiet h he
 ·exact quiet h he
end
end Go.Proofs.YtkkdpknjohcekaaGreat
