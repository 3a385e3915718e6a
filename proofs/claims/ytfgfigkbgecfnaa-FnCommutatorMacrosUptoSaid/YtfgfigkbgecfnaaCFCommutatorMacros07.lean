/-
  Part 8 of the proof that the statement FnCommutatorMacros holds.
-/
import Derived.Test.YtfgfigkbgecfnaaCFCommutatorMacros06
namespace Go.Proofs.Ytfgfigkbgecfnaa
open Go.RowKit
section
variable {P:Program} {T:Tab} {X:Ctx} {w w':World} {π:Pi} {H:List (Nat×OB)}
theorem Tt {S:Nat->Prop} (ρ:Ty): ∀(τ:Ty) (cs:List Value) (x:τ.den) (o:Nat) (y:ρ.den),Cells w S τ cs x->Il τ x o ρ=some y->
  ∃c1 c2 c3:List Value,cs=c1++c2++c3/\c1.length=o/\Cells w S ρ c2 y
 | .pair a r,cs,x,o,y,hc,hf=>by
  simp only [Cells] at hc
  obtain ⟨c1,c2,rfl,h1,h2⟩:=hc
  simp only [Il] at hf
  split at hf
  ·rename_i h0;subst h0
   split at hf
   ·rename_i he;subst he
    simp only [Aa] at hf;subst hf
    exact ⟨[],c1,c2,by simp,rfl,h1⟩
   ·cases hf
  ·split at hf
   ·cases hf
   ·rename_i h0 h3
    obtain ⟨d1,d2,d3,rfl,h4,h5⟩:=Tt ρ r c2 x.2 _ y h2 hf
    have:=Cells.len a c1 x.1 h1
    exact ⟨c1++d1,d2,d3,by simp [Kf],by simp;omega,h5⟩
 | .int _,_,_,_,_,_,hf=>by simp [Il] at hf
 | .bool,_,_,_,_,_,hf=>by simp [Il] at hf
 | .str,_,_,_,_,_,hf=>by simp [Il] at hf
 | .slice _,_,_,_,_,_,hf=>by simp [Il] at hf
 | .ptr _,_,_,_,_,_,hf=>by simp [Il] at hf
 | .oslice _,_,_,_,_,_,hf=>by simp [Il] at hf
 | .optr _,_,_,_,_,_,hf=>by simp [Il] at hf
 | .smap _,_,_,_,_,_,hf=>by simp [Il] at hf
 | .clo _ _,_,_,_,_,_,hf=>by simp [Il] at hf
 | .unit,_,_,_,_,_,hf=>by simp [Il] at hf
theorem dP (hT:De P T) {s:TypeId} {f o:Nat} {t:TypeId} (h:T.off s f=some (o,t)) (g i:Nat):
  (Instr.fieldAt s (.pointer (some ⟨g,i,none⟩)) f).run P w= .ok (.pointer (some ⟨g,i+o,none⟩)) w:=by
 obtain ⟨fs,fd,h1,h2,h3,h4,inf,h5,h6⟩:=hT.off _ _ _ _ h
 have Vc:(sizeOf fd.type).run P w= .ok inf.size w:=by rw [h4];simp [sizeOf,typeInfo,h5]
 simp only [Instr.fieldAt,Sem.run_bind,run_underlying h1,Result.andThen_ok,h2,Instr.sureAddr,Sem.run_pure,fieldPlace,Vc,Aj h6,h3,Addr.add_lit]
theorem Yc (hT:De P T) {st:St} (s:TypeId) (f:Nat) (x:AV) (vx:Value) (av:AV) (hx:Ba X w π st.heap x vx)
  (he:Lc T s x f=some av): ∃v,(∀w':World,(Instr.fieldAt s vx f).run P w'= .ok v w')/\Ba X w π st.heap av v:=by
 unfold Lc at he
 split at he
 ·rename_i o t l i ho
  simp only [Aa] at he;subst he
  obtain ⟨r,tid,vs,h1,h2,rfl⟩:=hx
  exact ⟨_,(λw1=>dP (w:=w1) hT ho r.g i),r,tid,vs,h1,h2,rfl⟩
 ·rename_i o t fr τ y ho
  split at he
  ·cases ht:T.ty t with
   |none=>rw [ht] at he;cases he
   |some ρ=>
    rw [ht] at he
    simp only [Dw] at he
    cases hf:Il τ y o ρ with
    |none=>rw [hf] at he;cases he
    |some z=>
     rw [hf] at he
     simp only [Ah,Aa] at he;subst he
     obtain ⟨cs,hc,rfl⟩:=hx
     simp only [Cells] at hc
     obtain ⟨g,i,rfl,hg,hn,es,hl,Rk,Wy⟩:=hc
     obtain ⟨c1,c2,c3,rfl,h1,h2⟩:=Tt ρ τ es y o z Wy hf
     refine ⟨.pointer (some ⟨g,i+o,none⟩),(λw1=>dP (w:=w1) hT ho g i),[_],⟨g,i+o,rfl,hg,hn,c2,Cells.len ρ c2 z h2,λj u hu=>?_,h2⟩,by simp [Bi,Ty.Ak]⟩
     have:=Rk (o+j) u (by
      rw [Kf,Al (by omega),show o+j-c1.length=j by omega,Am (Ai.1 hu).1];exact hu)
     rw [Er];exact this
  ·cases he
 ·rename_i o t fr τ y ho
  split at he
  ·cases ht:T.ty t with
   |none=>rw [ht] at he;cases he
   |some ρ=>
    rw [ht] at he
    simp only [Dw] at he
    cases hf:Il τ y o ρ with
    |none=>rw [hf] at he;cases he
    |some z=>
     rw [hf] at he
     simp only [Ah,Aa] at he;subst he
     obtain ⟨cs,hc,rfl⟩:=hx
     simp only [Cells] at hc
     rcases hc with ⟨h0,_⟩|⟨y',g,i,h0,rfl,hg,hn,es,hl,Rk,Wy⟩
     ·cases h0
     simp only [Aa] at h0;subst h0
     obtain ⟨c1,c2,c3,rfl,h1,h2⟩:=Tt ρ τ es y o z Wy hf
     refine ⟨.pointer (some ⟨g,i+o,none⟩),(λw1=>dP (w:=w1) hT ho g i),[_],⟨g,i+o,rfl,hg,hn,c2,Cells.len ρ c2 z h2,λj u hu=>?_,h2⟩,by simp [Bi,Ty.Ak]⟩
     have:=Rk (o+j) u (by
      rw [Kf,Al (by omega),show o+j-c1.length=j by omega,Am (Ai.1 hu).1];exact hu)
     rw [Er];exact this
  ·cases he
 ·cases he
theorem uh {t:TypeId} {ρ:Ty} (ht:lA P T t ρ) (cs:List Value) (o:Nat) (c2:List Value) (hl:c2.length=ρ.size) (hc: ∀j u,c2[j]?=some u->cs[o+j]?=some u) (hle:o+ρ.size<=cs.length):
  (part t cs.toArray o).run P w= .ok (Bi ρ c2) w:=by
 unfold part
 rw [Sem.run_bind,ht.agg,Result.andThen_ok]
 cases hs:ρ.Ak with
 |true=>
  simp only [Nh,Sem.run_bind,ht.size,Result.andThen_ok,Bi,hs,Sem.run_pure,Result.ok.injEq,Value.agg.injEq,cA]
  apply Ma
  simp only [Array.toList_extract,List.extract_eq_take_drop]
  apply List.ext_getElem?
  intro j
  rw [By]
  split
  ·rename_i hj
   rw [Ce]
   have iR:j<c2.length:=by omega
   rw [Ac iR]
   exact hc j _ (Ac iR)
  ·rename_i hj
   rw [Ee (by omega)]
 |false=>
  have h1:ρ.size=1:=by cases ρ<;>simp_all [Ty.Ak,Ty.size]
  rw [h1] at hl
  obtain ⟨u,rfl⟩:=Cv.1 hl
  have:=hc 0 u rfl
  simp only [Dc] at this
  simp [this,Bi,hs]
theorem nL (hT:De P T) {st:St} (s:TypeId) (f:Nat) (x:AV) (vx:Value) (av:AV) (hx:Ba X w π st.heap x vx)
  (he:iZ T s x f=some av): ∃v,(Instr.field s vx f).run P w= .ok v w/\Ba X w π st.heap av v:=by
 have Qw: ∀(o:Nat) (t:TypeId) (cs:List Value) (v:Value),T.off s f=some (o,t)->(part t cs.toArray o).run P w= .ok v w->(Instr.field s (.agg cs.toArray) f).run P w= .ok v w:=by
  intro o t cs v ho hp
  obtain ⟨fs,fd,h1,h2,h3,h4,_⟩:=hT.off _ _ _ _ ho
  simp only [Instr.field,Sem.run_bind,run_underlying h1,Result.andThen_ok,h2,asAgg,Sem.run_pure,h4,h3,hp]
 unfold iZ at he
 split at he
 ·rename_i o t cs ho
  cases ht:T.ty t with
  |none=>rw [ht] at he;cases he
  |some ρ=>
   rw [ht] at he
   simp only [Dw] at he
   split at he
   ·cases he
   ·rename_i hs
    simp only [Gt] at hs
    cases hi:cs[o]? with
    |none=>rw [hi] at he;cases he
    |some c=>
     rw [hi] at he
     simp only [Ah,Aa] at he;subst he
     obtain ⟨us,rfl,hr⟩:=hx
     obtain ⟨u,hu,_,hc⟩:=hr.2 o c hi
     have h1:ρ.size=1:=by cases ρ<;>simp_all [Ty.Ak,Ty.size]
     have:=uh (P:=P) (w:=w) (hT.ty _ _ ht) us o [u] (by simp [h1]) (λj u' cv=>by
      rcases j with _|j
      ·simp at cv;subst cv;exact hu
      ·simp at cv) (by have:=(Ai.1 hu).1;omega)
     refine ⟨u,Qw o t us u ho (by rw [this];simp [Bi,hs]),hc⟩
 ·rename_i o t fr τ y ho
  split at he
  ·rename_i nT
   cases ht:T.ty t with
   |none=>rw [ht] at he;cases he
   |some ρ=>
    rw [ht] at he
    simp only [Dw] at he
    cases hf:Il τ y o ρ with
    |none=>rw [hf] at he;cases he
    |some z=>
     rw [hf] at he
     simp only [Ah,Aa] at he;subst he
     obtain ⟨cs,hc,rfl⟩:=hx
     obtain ⟨c1,c2,c3,rfl,h1,h2⟩:=Tt ρ τ cs y o z hc hf
     have XH:τ.Ak=true:=by cases τ<;>simp_all [Il,Ty.Ak]
     have hl:=Cells.len ρ c2 z h2
     have:=uh (P:=P) (w:=w) (hT.ty _ _ ht) (c1++c2++c3) o c2 hl (λj u hu=>by
      rw [Kf,Al (by omega),show o+j-c1.length=j by omega,Am (Ai.1 hu).1];exact hu) (by simp;omega)
     refine ⟨Bi ρ c2,?_,c2,h2,rfl⟩
     rw [show Bi τ (c1++c2++c3)= .agg (c1++c2++c3).toArray by simp [Bi,XH]]
     exact Qw o t _ _ ho this
  ·cases he
 ·cases he
theorem xl {st:St} {a:Act} (h:lv X w π st a) (x:Option Operand) (d l:Int) (hb:zU (x.map st.ev) d=some l):
  (x=none/\l=d)\/ ∃y k,x=some y/\a.eval y= .int k l:=by
 cases x with
 |none=>simp only [Option.map_none,zU,Aa] at hb;exact .inl ⟨rfl,hb.symm⟩
 |some y=>
  right
  simp only [Ah] at hb
  cases he:st.ev y with
  |agg cs=>rw [he] at hb;simp [zU] at hb
  |Wh fr τ x=>rw [he] at hb;simp [zU] at hb
  |Jy l=>rw [he] at hb;simp [zU] at hb
  | «at»c=>
   rw [he] at hb
   cases c with
   |data fr τ n=>
    cases τ with
    |int k=>
     simp only [zU,Aa] at hb
     have:=Co h y
     rw [he] at this
     exact ⟨y,k,rfl,by rw [Mn this,hb]⟩
    |_=>simp [zU] at hb
   |_=>simp [zU] at hb
theorem bB (isS:Bool) (len cap:Nat) (lo hi:Option Value) (l h:Nat) (BM:(lo=none/\l=0)\/ ∃k,lo=some (.int k l)) (IM:(hi=none/\h=len)\/ ∃k,hi=some (.int k h))
  (h1:l<=h) (h2:h<=cap):(Instr.sliceBounds isS len cap lo hi none).run P w= .ok (l,h,cap) w:=by
 rcases BM with ⟨rfl,rfl⟩|⟨k,rfl⟩<;>rcases IM with ⟨rfl,rfl⟩|⟨k',rfl⟩
 ·simp [Instr.sliceBounds]
 ·simp [Instr.sliceBounds,run_sliceBound,h2]
 ·simp [Instr.sliceBounds,run_sliceBound,h1]
 ·simp [Instr.sliceBounds,run_sliceBound,h1,h2]
theorem nN (hT:De P T) {st:St} {a:Act} (h:Ax X π st a w) (t:TypeId) (x:AV) (vx:Value) (lo hi:Option Operand) (av:AV) (hx:Ba X w π st.heap x vx)
  (he:ab T st t x (lo.map st.ev) (hi.map st.ev)=some av):
  ∃v,(Instr.sliceAt t vx (lo.map a.eval) (hi.map a.eval) none).run P w= .ok v w/\Ba X w π st.heap av v:=by
 unfold ab at he
 split at he
 ·cases he
 ·rename_i n hn
  split at he
  ·rename_i l hh hl hhh
   split at he
   ·rename_i Ha
    obtain ⟨h0,h1,h2⟩:=Ha
    obtain ⟨ln,rfl⟩:=Jp h0
    obtain ⟨lg,rfl⟩:=Jp (show 0<=hh by omega)
    have BM:((lo.map a.eval)=none/\ln=0)\/ ∃k,(lo.map a.eval)=some (.int k ln):=by
     rcases xl h.2 lo 0 _ hl with ⟨rfl,e⟩|⟨y,k,rfl,e⟩
     ·exact .inl ⟨rfl,by omega⟩
     ·exact .inr ⟨k,by simp [e]⟩
    have IM: ∀len:Nat,n=len->((hi.map a.eval)=none/\lg=len)\/ ∃k,(hi.map a.eval)=some (.int k lg):=by
     intro len hlen
     rcases xl h.2 hi n _ hhh with ⟨rfl,e⟩|⟨y,k,rfl,e⟩
     ·exact .inl ⟨rfl,by omega⟩
     ·exact .inr ⟨k,by simp [e]⟩
    simp only [Cq] at he
    split at he
    ·rename_i fr e xs
     split at he
     ·rename_i eZ
      simp only [Aa] at he;subst he
      obtain ⟨te,g1,g2,g3,g4⟩:=l6 hT eZ
      obtain ⟨cs,hc,rfl⟩:=hx
      simp only [tD,Aa] at hn
      simp only [Cells] at hc
      obtain ⟨ad,len,cap,rfl,hlen,kO,vP⟩:=hc
      have hb:=bB (P:=P) (w:=w) true len cap _ _ ln lg BM (IM len (by omega)) (by omega) (by omega)
      have Vc:=(hT.ty _ _ g2).size (w:=w)
      refine ⟨.slice (if cap=ln then ad else ad.map (·.add (ln*e.size))) (lg-ln) (cap-ln),?_,[.slice (if cap=ln then ad else ad.map (·.add (ln*e.size))) (lg-ln) (cap-ln)],⟨_,lg-ln,cap-ln,rfl,by rw [List.length_drop,Ed];omega,by omega,?_⟩,by simp [Bi,Ty.Ak]⟩
      ·simp only [Bi,Ty.Ak,Ci,Pk,cI]
       rw [run_sliceAt_slice (P:=P) w t _ _ _ _ (by rw [g3,g4]),run_slice_any (P:=P) w t ad len cap (by rw [g3,g4]),hb]
       simp only [Result.andThen_ok,g4,Vc,sliced]
      ·rcases vP with rfl|⟨g,o,rfl,hg,xC,Ig⟩
       ·left;simp
       ·by_cases hlh:ln=lg
        ·left;subst hlh;simp
        ·right
         refine ⟨g,o+ln*e.size,by rw [Aj (by omega)];simp [Addr.add_lit],hg,xC,λi y hy=>?_⟩
         rw [Ce,By] at hy
         split at hy
         ·obtain ⟨es,cr,Rk,Wy⟩:=Ig _ y hy
          refine ⟨es,cr,λj u hu=>?_,Wy⟩
          have:=Rk j u hu
          rw [Ch,<-Er] at this
          exact this
         ·cases hy
     ·cases he
    ·rename_i k off len
     split at he
     ·rename_i fr tr e tid xs hk
      split at he
      ·rename_i KL
       obtain ⟨g1,g2⟩:=KL
       simp only [Aa] at he;subst he
       have g3:=hT.elem t tid g1
       have g4:P.elem t=tid:=by simp [Program.elem,g3]
       unfold St.at at hk
       have mc:=hk
       obtain ⟨h8,h9⟩:=Lk (X:=X) (w:=w) hx hk
       simp only [tD,Aa] at hn
       have Vc:=(hT.ty _ _ g2).size (w:=w)
       cases hp:π k with
       |none=>
        rw [hp] at h9
        obtain ⟨rfl,rfl,rfl⟩:=h9
        obtain rfl:lg=0:=by omega
        obtain rfl:ln=0:=by omega
        have hb:=bB (P:=P) (w:=w) true 0 0 _ _ 0 0 BM (IM 0 (by omega)) (by omega) (by omega)
        refine ⟨.slice none 0 0,?_,w6 (X:=X) (w:=w) mc (by omega) ?_⟩
        ·rw [run_sliceAt_slice (P:=P) w t _ _ _ _ (by rw [g3,g4]),run_slice_any (P:=P) w t none 0 0 (by rw [g3,g4]),hb]
         simp [g4,Vc,sliced]
        ·rw [hp];exact ⟨rfl,rfl,rfl⟩
       |some r=>
        rw [hp] at h9
        obtain ⟨ad,rfl,lb,j9⟩:=h9
        have hb:=bB (P:=P) (w:=w) true len (r.cap-off) _ _ ln lg BM (IM len (by omega)) (by omega) (by omega)
        refine ⟨.slice (some (if r.cap-off=ln then ad else ad.add (ln*e.size))) (lg-ln) (r.cap-off-ln),?_,w6 (X:=X) (w:=w) mc (by omega) ?_⟩
        ·rw [run_sliceAt_slice (P:=P) w t _ _ _ _ (by rw [g3,g4]),run_slice_any (P:=P) w t (some ad) len _ (by rw [g3,g4]),hb]
         simp only [Result.andThen_ok,g4,Vc,sliced]
         split<;>rfl
        ·rw [hp]
         refine ⟨_,by rw [Nat.sub_sub],by omega,λIm=>?_⟩
         rw [Aj (by omega),j9 (by omega)]
         simp only [Addr.add_lit]
         rw [<-Er r.o off ln,Ch (r.o+off)]
      ·cases he
     ·cases he
    ·rename_i fr s
     split at he
     ·rename_i Sw
      simp only [Aa] at he;subst he
      have:=bw hx;subst this
      have hu:P.underlying t=some .string:=(hT.ty _ _ Sw).desc
      simp only [tD,Aa] at hn
      have hb:=bB (P:=P) (w:=w) false s.size s.size _ _ ln lg BM (IM s.size (by omega)) (by omega) (by omega)
      refine ⟨.string (s.extract ln lg),?_,gj _ _⟩
      rw [run_sliceAt_string (P:=P) w t _ _ _ _ hu]
      simp [Instr.slice,run_underlying hu,hb]
     ·cases he
    ·cases he
   ·cases he
  ·cases he
end
end Go.Proofs.Ytfgfigkbgecfnaa
