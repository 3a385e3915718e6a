/-
  Part 8 of the proof that the statement FnLowerBounds holds.
-/
import Derived.Test.YtkkdpknjohcekaaGreatCFLowerBounds06
namespace Go.Proofs.YtkkdpknjohcekaaGreat
open Go.RowKit
section
variable {P:Program} {T:Tab} {X:Ctx} {w w':World} {π:Pi} {H:List (Nat×OB)}
theorem Zv {S:Nat->Prop} (ρ:Ty): ∀(τ:Ty) (cs:List Value) (x:τ.den) (o:Nat) (y:ρ.den),Cells w S τ cs x->Lt τ x o ρ=some y->
  ∃c1 c2 c3:List Value,cs=c1++c2++c3/\c1.length=o/\Cells w S ρ c2 y
 | .pair a r,cs,x,o,y,hc,hf=>by
  simp only [Cells] at hc
  obtain ⟨c1,c2,rfl,h1,h2⟩:=hc
  simp only [Lt] at hf
  split at hf
  ·rename_i h0;subst h0
   split at hf
   ·rename_i he;subst he
    simp only [Aa] at hf;subst hf
    exact ⟨[],c1,c2,by simp,rfl,h1⟩
   ·cases hf
  ·split at hf
   ·cases hf
   ·rename_i h0 h3
    obtain ⟨d1,d2,d3,rfl,h4,h5⟩:=Zv ρ r c2 x.2 _ y h2 hf
    have:=Cells.len a c1 x.1 h1
    exact ⟨c1++d1,d2,d3,by simp [Co],by simp;omega,h5⟩
 | .int _,_,_,_,_,_,hf=>by simp [Lt] at hf
 | .bool,_,_,_,_,_,hf=>by simp [Lt] at hf
 | .str,_,_,_,_,_,hf=>by simp [Lt] at hf
 | .slice _,_,_,_,_,_,hf=>by simp [Lt] at hf
 | .ptr _,_,_,_,_,_,hf=>by simp [Lt] at hf
 | .oslice _,_,_,_,_,_,hf=>by simp [Lt] at hf
 | .optr _,_,_,_,_,_,hf=>by simp [Lt] at hf
 | .smap _,_,_,_,_,_,hf=>by simp [Lt] at hf
 | .clo _ _,_,_,_,_,_,hf=>by simp [Lt] at hf
 | .unit,_,_,_,_,_,hf=>by simp [Lt] at hf
theorem jt (hT:Eg P T) {s:TypeId} {f o:Nat} {t:TypeId} (h:T.off s f=some (o,t)) (g i:Nat):
  (Instr.fieldAt s (.pointer (some ⟨g,i,none⟩)) f).run P w= .ok (.pointer (some ⟨g,i+o,none⟩)) w:=by
 obtain ⟨fs,fd,h1,h2,h3,h4,inf,h5,h6⟩:=hT.off _ _ _ _ h
 have aM:(sizeOf fd.type).run P w= .ok inf.size w:=by rw [h4];simp [sizeOf,typeInfo,h5]
 simp only [Instr.fieldAt,Sem.run_bind,run_underlying h1,Result.andThen_ok,h2,Instr.sureAddr,Sem.run_pure,fieldPlace,aM,Aj h6,h3,Addr.add_lit]
theorem cM (hT:Eg P T) {st:St} (s:TypeId) (f:Nat) (x:AV) (vx:Value) (av:AV) (hx:Bl X w π st.heap x vx)
  (he:Ot T s x f=some av): ∃v,(∀w':World,(Instr.fieldAt s vx f).run P w'= .ok v w')/\Bl X w π st.heap av v:=by
 unfold Ot at he
 split at he
 ·rename_i o t l i ho
  simp only [Aa] at he;subst he
  obtain ⟨r,tid,vs,h1,h2,rfl⟩:=hx
  exact ⟨_,(λw1=>jt (w:=w1) hT ho r.g i),r,tid,vs,h1,h2,rfl⟩
 ·rename_i o t fr τ y ho
  split at he
  ·cases ht:T.ty t with
   |none=>rw [ht] at he;cases he
   |some ρ=>
    rw [ht] at he
    simp only [Fo] at he
    cases hf:Lt τ y o ρ with
    |none=>rw [hf] at he;cases he
    |some z=>
     rw [hf] at he
     simp only [Al,Aa] at he;subst he
     obtain ⟨cs,hc,rfl⟩:=hx
     simp only [Cells] at hc
     obtain ⟨g,i,rfl,hg,hn,es,hl,Wx,bZ⟩:=hc
     obtain ⟨c1,c2,c3,rfl,h1,h2⟩:=Zv ρ τ es y o z bZ hf
     refine ⟨.pointer (some ⟨g,i+o,none⟩),(λw1=>jt (w:=w1) hT ho g i),[_],⟨g,i+o,rfl,hg,hn,c2,Cells.len ρ c2 z h2,λj u hu=>?_,h2⟩,by simp [Ca,Ty.Ao]⟩
     have:=Wx (o+j) u (by
      rw [Co,Ar (by omega),show o+j-c1.length=j by omega,As (Am.1 hu).1];exact hu)
     rw [Ha];exact this
  ·cases he
 ·rename_i o t fr τ y ho
  split at he
  ·cases ht:T.ty t with
   |none=>rw [ht] at he;cases he
   |some ρ=>
    rw [ht] at he
    simp only [Fo] at he
    cases hf:Lt τ y o ρ with
    |none=>rw [hf] at he;cases he
    |some z=>
     rw [hf] at he
     simp only [Al,Aa] at he;subst he
     obtain ⟨cs,hc,rfl⟩:=hx
     simp only [Cells] at hc
     rcases hc with ⟨h0,_⟩|⟨y',g,i,h0,rfl,hg,hn,es,hl,Wx,bZ⟩
     ·cases h0
     simp only [Aa] at h0;subst h0
     obtain ⟨c1,c2,c3,rfl,h1,h2⟩:=Zv ρ τ es y o z bZ hf
     refine ⟨.pointer (some ⟨g,i+o,none⟩),(λw1=>jt (w:=w1) hT ho g i),[_],⟨g,i+o,rfl,hg,hn,c2,Cells.len ρ c2 z h2,λj u hu=>?_,h2⟩,by simp [Ca,Ty.Ao]⟩
     have:=Wx (o+j) u (by
      rw [Co,Ar (by omega),show o+j-c1.length=j by omega,As (Am.1 hu).1];exact hu)
     rw [Ha];exact this
  ·cases he
 ·cases he
theorem GH {t:TypeId} {ρ:Ty} (ht:qT P T t ρ) (cs:List Value) (o:Nat) (c2:List Value) (hl:c2.length=ρ.size) (hc: ∀j u,c2[j]?=some u->cs[o+j]?=some u) (hle:o+ρ.size<=cs.length):
  (part t cs.toArray o).run P w= .ok (Ca ρ c2) w:=by
 unfold part
 rw [Sem.run_bind,ht.agg,Result.andThen_ok]
 cases hs:ρ.Ao with
 |true=>
  simp only [Qi,Sem.run_bind,ht.size,Result.andThen_ok,Ca,hs,Sem.run_pure,Result.ok.injEq,Value.agg.injEq,bo]
  apply Qb
  simp only [Array.toList_extract,List.extract_eq_take_drop]
  apply List.ext_getElem?
  intro j
  rw [Cs]
  split
  ·rename_i hj
   rw [Da]
   have OZ:j<c2.length:=by omega
   rw [Ac OZ]
   exact hc j _ (Ac OZ)
  ·rename_i hj
   rw [Eb (by omega)]
 |false=>
  have h1:ρ.size=1:=by cases ρ<;>simp_all [Ty.Ao,Ty.size]
  rw [h1] at hl
  obtain ⟨u,rfl⟩:=Ee.1 hl
  have:=hc 0 u rfl
  simp only [En] at this
  simp [this,Ca,hs]
theorem vr (hT:Eg P T) {st:St} (s:TypeId) (f:Nat) (x:AV) (vx:Value) (av:AV) (hx:Bl X w π st.heap x vx)
  (he:oS T s x f=some av): ∃v,(Instr.field s vx f).run P w= .ok v w/\Bl X w π st.heap av v:=by
 have Wk: ∀(o:Nat) (t:TypeId) (cs:List Value) (v:Value),T.off s f=some (o,t)->(part t cs.toArray o).run P w= .ok v w->(Instr.field s (.agg cs.toArray) f).run P w= .ok v w:=by
  intro o t cs v ho hp
  obtain ⟨fs,fd,h1,h2,h3,h4,_⟩:=hT.off _ _ _ _ ho
  simp only [Instr.field,Sem.run_bind,run_underlying h1,Result.andThen_ok,h2,asAgg,Sem.run_pure,h4,h3,hp]
 unfold oS at he
 split at he
 ·rename_i o t cs ho
  cases ht:T.ty t with
  |none=>rw [ht] at he;cases he
  |some ρ=>
   rw [ht] at he
   simp only [Fo] at he
   split at he
   ·cases he
   ·rename_i hs
    simp only [Hc] at hs
    cases hi:cs[o]? with
    |none=>rw [hi] at he;cases he
    |some c=>
     rw [hi] at he
     simp only [Al,Aa] at he;subst he
     obtain ⟨us,rfl,hr⟩:=hx
     obtain ⟨u,hu,_,hc⟩:=hr.2 o c hi
     have h1:ρ.size=1:=by cases ρ<;>simp_all [Ty.Ao,Ty.size]
     have:=GH (P:=P) (w:=w) (hT.ty _ _ ht) us o [u] (by simp [h1]) (λj u' gZ=>by
      rcases j with _|j
      ·simp at gZ;subst gZ;exact hu
      ·simp at gZ) (by have:=(Am.1 hu).1;omega)
     refine ⟨u,Wk o t us u ho (by rw [this];simp [Ca,hs]),hc⟩
 ·rename_i o t fr τ y ho
  split at he
  ·rename_i rj
   cases ht:T.ty t with
   |none=>rw [ht] at he;cases he
   |some ρ=>
    rw [ht] at he
    simp only [Fo] at he
    cases hf:Lt τ y o ρ with
    |none=>rw [hf] at he;cases he
    |some z=>
     rw [hf] at he
     simp only [Al,Aa] at he;subst he
     obtain ⟨cs,hc,rfl⟩:=hx
     obtain ⟨c1,c2,c3,rfl,h1,h2⟩:=Zv ρ τ cs y o z hc hf
     have Aro:τ.Ao=true:=by cases τ<;>simp_all [Lt,Ty.Ao]
     have hl:=Cells.len ρ c2 z h2
     have:=GH (P:=P) (w:=w) (hT.ty _ _ ht) (c1++c2++c3) o c2 hl (λj u hu=>by
      rw [Co,Ar (by omega),show o+j-c1.length=j by omega,As (Am.1 hu).1];exact hu) (by simp;omega)
     refine ⟨Ca ρ c2,?_,c2,h2,rfl⟩
     rw [show Ca τ (c1++c2++c3)= .agg (c1++c2++c3).toArray by simp [Ca,Aro]]
     exact Wk o t _ _ ho this
  ·cases he
 ·cases he
theorem OH {st:St} {a:Act} (h:sf X w π st a) (x:Option Operand) (d l:Int) (hb:VJ (x.map st.ev) d=some l):
  (x=none/\l=d)\/ ∃y k,x=some y/\a.eval y= .int k l:=by
 cases x with
 |none=>simp only [Option.map_none,VJ,Aa] at hb;exact .inl ⟨rfl,hb.symm⟩
 |some y=>
  right
  simp only [Al] at hb
  cases he:st.ev y with
  |agg cs=>rw [he] at hb;simp [VJ] at hb
  |bF fr τ x=>rw [he] at hb;simp [VJ] at hb
  |Ng l=>rw [he] at hb;simp [VJ] at hb
  | «at»c=>
   rw [he] at hb
   cases c with
   |data fr τ n=>
    cases τ with
    |int k=>
     simp only [VJ,Aa] at hb
     have:=Dt h y
     rw [he] at this
     exact ⟨y,k,rfl,by rw [Qw this,hb]⟩
    |_=>simp [VJ] at hb
   |_=>simp [VJ] at hb
theorem fS (isS:Bool) (len cap:Nat) (lo hi:Option Value) (l h:Nat) (PB:(lo=none/\l=0)\/ ∃k,lo=some (.int k l)) (hhi:(hi=none/\h=len)\/ ∃k,hi=some (.int k h))
  (h1:l<=h) (h2:h<=cap):(Instr.sliceBounds isS len cap lo hi none).run P w= .ok (l,h,cap) w:=by
 rcases PB with ⟨rfl,rfl⟩|⟨k,rfl⟩<;>rcases hhi with ⟨rfl,rfl⟩|⟨k',rfl⟩
 ·simp [Instr.sliceBounds]
 ·simp [Instr.sliceBounds,run_sliceBound,h2]
 ·simp [Instr.sliceBounds,run_sliceBound,h1]
 ·simp [Instr.sliceBounds,run_sliceBound,h1,h2]
theorem vz (hT:Eg P T) {st:St} {a:Act} (h:Bh X π st a w) (t:TypeId) (x:AV) (vx:Value) (lo hi:Option Operand) (av:AV) (hx:Bl X w π st.heap x vx)
  (he:ef T st t x (lo.map st.ev) (hi.map st.ev)=some av):
  ∃v,(Instr.sliceAt t vx (lo.map a.eval) (hi.map a.eval) none).run P w= .ok v w/\Bl X w π st.heap av v:=by
 unfold ef at he
 split at he
 ·cases he
 ·rename_i n hn
  split at he
  ·rename_i l hh hl hhh
   split at he
   ·rename_i Kk
    obtain ⟨h0,h1,h2⟩:=Kk
    obtain ⟨ln,rfl⟩:=Rw h0
    obtain ⟨rV,rfl⟩:=Rw (show 0<=hh by omega)
    have PB:((lo.map a.eval)=none/\ln=0)\/ ∃k,(lo.map a.eval)=some (.int k ln):=by
     rcases OH h.2 lo 0 _ hl with ⟨rfl,e⟩|⟨y,k,rfl,e⟩
     ·exact .inl ⟨rfl,by omega⟩
     ·exact .inr ⟨k,by simp [e]⟩
    have hhi: ∀len:Nat,n=len->((hi.map a.eval)=none/\rV=len)\/ ∃k,(hi.map a.eval)=some (.int k rV):=by
     intro len hlen
     rcases OH h.2 hi n _ hhh with ⟨rfl,e⟩|⟨y,k,rfl,e⟩
     ·exact .inl ⟨rfl,by omega⟩
     ·exact .inr ⟨k,by simp [e]⟩
    simp only [Aq] at he
    split at he
    ·rename_i fr e xs
     split at he
     ·rename_i l4
      simp only [Aa] at he;subst he
      obtain ⟨te,g1,g2,g3,g4⟩:=rM hT l4
      obtain ⟨cs,hc,rfl⟩:=hx
      simp only [DZ,Aa] at hn
      simp only [Cells] at hc
      obtain ⟨ad,len,cap,rfl,hlen,sU,JV⟩:=hc
      have hb:=fS (P:=P) (w:=w) true len cap _ _ ln rV PB (hhi len (by omega)) (by omega) (by omega)
      have aM:=(hT.ty _ _ g2).size (w:=w)
      refine ⟨.slice (if cap=ln then ad else ad.map (·.add (ln*e.size))) (rV-ln) (cap-ln),?_,[.slice (if cap=ln then ad else ad.map (·.add (ln*e.size))) (rV-ln) (cap-ln)],⟨_,rV-ln,cap-ln,rfl,by rw [List.length_drop,De];omega,by omega,?_⟩,by simp [Ca,Ty.Ao]⟩
      ·simp only [Ca,Ty.Ao,Cz,Sm,ik]
       rw [run_sliceAt_slice (P:=P) w t _ _ _ _ (by rw [g3,g4]),run_slice_any (P:=P) w t ad len cap (by rw [g3,g4]),hb]
       simp only [Result.andThen_ok,g4,aM,sliced]
      ·rcases JV with rfl|⟨g,o,rfl,hg,PE,Lc⟩
       ·left;simp
       ·by_cases hlh:ln=rV
        ·left;subst hlh;simp
        ·right
         refine ⟨g,o+ln*e.size,by rw [Aj (by omega)];simp [Addr.add_lit],hg,PE,λi y hy=>?_⟩
         rw [Da,Cs] at hy
         split at hy
         ·obtain ⟨es,gW,Wx,bZ⟩:=Lc _ y hy
          refine ⟨es,gW,λj u hu=>?_,bZ⟩
          have:=Wx j u hu
          rw [Df,<-Ha] at this
          exact this
         ·cases hy
     ·cases he
    ·rename_i k off len
     split at he
     ·rename_i fr tr e tid xs hk
      split at he
      ·rename_i Agj
       obtain ⟨g1,g2⟩:=Agj
       simp only [Aa] at he;subst he
       have g3:=hT.elem t tid g1
       have g4:P.elem t=tid:=by simp [Program.elem,g3]
       unfold St.at at hk
       have sX:=hk
       obtain ⟨h8,h9⟩:=Pg (X:=X) (w:=w) hx hk
       simp only [DZ,Aa] at hn
       have aM:=(hT.ty _ _ g2).size (w:=w)
       cases hp:π k with
       |none=>
        rw [hp] at h9
        obtain ⟨rfl,rfl,rfl⟩:=h9
        obtain rfl:rV=0:=by omega
        obtain rfl:ln=0:=by omega
        have hb:=fS (P:=P) (w:=w) true 0 0 _ _ 0 0 PB (hhi 0 (by omega)) (by omega) (by omega)
        refine ⟨.slice none 0 0,?_,KS (X:=X) (w:=w) sX (by omega) ?_⟩
        ·rw [run_sliceAt_slice (P:=P) w t _ _ _ _ (by rw [g3,g4]),run_slice_any (P:=P) w t none 0 0 (by rw [g3,g4]),hb]
         simp [g4,aM,sliced]
        ·rw [hp];exact ⟨rfl,rfl,rfl⟩
       |some r=>
        rw [hp] at h9
        obtain ⟨ad,rfl,qd,kW⟩:=h9
        have hb:=fS (P:=P) (w:=w) true len (r.cap-off) _ _ ln rV PB (hhi len (by omega)) (by omega) (by omega)
        refine ⟨.slice (some (if r.cap-off=ln then ad else ad.add (ln*e.size))) (rV-ln) (r.cap-off-ln),?_,KS (X:=X) (w:=w) sX (by omega) ?_⟩
        ·rw [run_sliceAt_slice (P:=P) w t _ _ _ _ (by rw [g3,g4]),run_slice_any (P:=P) w t (some ad) len _ (by rw [g3,g4]),hb]
         simp only [Result.andThen_ok,g4,aM,sliced]
         split<;>rfl
        ·rw [hp]
         refine ⟨_,by rw [Nat.sub_sub],by omega,λLq=>?_⟩
         rw [Aj (by omega),kW (by omega)]
         simp only [Addr.add_lit]
         rw [<-Ha r.o off ln,Df (r.o+off)]
      ·cases he
     ·cases he
    ·rename_i fr s
     split at he
     ·rename_i Yy
      simp only [Aa] at he;subst he
      have:=fO hx;subst this
      have hu:P.underlying t=some .string:=(hT.ty _ _ Yy).desc
      simp only [DZ,Aa] at hn
      have hb:=fS (P:=P) (w:=w) false s.size s.size _ _ ln rV PB (hhi s.size (by omega)) (by omega) (by omega)
      refine ⟨.string (s.extract ln rV),?_,mi _ _⟩
      rw [run_sliceAt_string (P:=P) w t _ _ _ _ hu]
      simp [Instr.slice,run_underlying hu,hb]
     ·cases he
    ·cases he
   ·cases he
  ·cases he
end
end Go.Proofs.YtkkdpknjohcekaaGreat
