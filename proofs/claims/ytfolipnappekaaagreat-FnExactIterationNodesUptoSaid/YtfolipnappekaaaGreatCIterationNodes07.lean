/-
  Part 8 of the proof that the statement FnExactIterationNodes holds.
-/
import Derived.Test.YtfolipnappekaaaGreatCIterationNodes06
namespace Go.Proofs.YtfolipnappekaaaGreat
open Go.RowKit
section
variable {P:Program} {T:Tab} {X:Ctx} {w w':World} {π:Pi} {H:List (Nat×OB)}
theorem Zl {S:Nat->Prop} (ρ:Ty): ∀(τ:Ty) (cs:List Value) (x:τ.den) (o:Nat) (y:ρ.den),Cells w S τ cs x->Kx τ x o ρ=some y->
  ∃c1 c2 c3:List Value,cs=c1++c2++c3/\c1.length=o/\Cells w S ρ c2 y
 | .pair a r,cs,x,o,y,hc,hf=>by
  simp only [Cells] at hc
  obtain ⟨c1,c2,rfl,h1,h2⟩:=hc
  simp only [Kx] at hf
  split at hf
  ·rename_i h0;subst h0
   split at hf
   ·rename_i he;subst he
    simp only [Aa] at hf;subst hf
    exact ⟨[],c1,c2,by simp,rfl,h1⟩
   ·cases hf
  ·split at hf
   ·cases hf
   ·rename_i h0 h3
    obtain ⟨d1,d2,d3,rfl,h4,h5⟩:=Zl ρ r c2 x.2 _ y h2 hf
    have:=Cells.len a c1 x.1 h1
    exact ⟨c1++d1,d2,d3,by simp [Dg],by simp;omega,h5⟩
 | .int _,_,_,_,_,_,hf=>by simp [Kx] at hf
 | .bool,_,_,_,_,_,hf=>by simp [Kx] at hf
 | .str,_,_,_,_,_,hf=>by simp [Kx] at hf
 | .slice _,_,_,_,_,_,hf=>by simp [Kx] at hf
 | .ptr _,_,_,_,_,_,hf=>by simp [Kx] at hf
 | .oslice _,_,_,_,_,_,hf=>by simp [Kx] at hf
 | .optr _,_,_,_,_,_,hf=>by simp [Kx] at hf
 | .smap _,_,_,_,_,_,hf=>by simp [Kx] at hf
 | .clo _ _,_,_,_,_,_,hf=>by simp [Kx] at hf
 | .unit,_,_,_,_,_,hf=>by simp [Kx] at hf
theorem jv (hT:Eb P T) {s:TypeId} {f o:Nat} {t:TypeId} (h:T.off s f=some (o,t)) (g i:Nat):
  (Instr.fieldAt s (.pointer (some ⟨g,i,none⟩)) f).run P w= .ok (.pointer (some ⟨g,i+o,none⟩)) w:=by
 obtain ⟨fs,fd,h1,h2,h3,h4,inf,h5,h6⟩:=hT.off _ _ _ _ h
 have aO:(sizeOf fd.type).run P w= .ok inf.size w:=by rw [h4];simp [sizeOf,typeInfo,h5]
 simp only [Instr.fieldAt,Sem.run_bind,run_underlying h1,Result.andThen_ok,h2,Instr.sureAddr,Sem.run_pure,fieldPlace,aO,Ag h6,h3,Addr.add_lit]
theorem cM (hT:Eb P T) {st:St} (s:TypeId) (f:Nat) (x:AV) (vx:Value) (av:AV) (hx:Bp X w π st.heap x vx)
  (he:Oa T s x f=some av): ∃v,(∀w':World,(Instr.fieldAt s vx f).run P w'= .ok v w')/\Bp X w π st.heap av v:=by
 unfold Oa at he
 split at he
 ·rename_i o t l i ho
  simp only [Aa] at he;subst he
  obtain ⟨r,tid,vs,h1,h2,rfl⟩:=hx
  exact ⟨_,(λw1=>jv (w:=w1) hT ho r.g i),r,tid,vs,h1,h2,rfl⟩
 ·rename_i o t fr τ y ho
  split at he
  ·cases ht:T.ty t with
   |none=>rw [ht] at he;cases he
   |some ρ=>
    rw [ht] at he
    simp only [Fh] at he
    cases hf:Kx τ y o ρ with
    |none=>rw [hf] at he;cases he
    |some z=>
     rw [hf] at he
     simp only [Am,Aa] at he;subst he
     obtain ⟨cs,hc,rfl⟩:=hx
     simp only [Cells] at hc
     obtain ⟨g,i,rfl,hg,hn,es,hl,Zx,c5⟩:=hc
     obtain ⟨c1,c2,c3,rfl,h1,h2⟩:=Zl ρ τ es y o z c5 hf
     refine ⟨.pointer (some ⟨g,i+o,none⟩),(λw1=>jv (w:=w1) hT ho g i),[_],⟨g,i+o,rfl,hg,hn,c2,Cells.len ρ c2 z h2,λj u hu=>?_,h2⟩,by simp [Cf,Ty.Aq]⟩
     have:=Zx (o+j) u (by
      rw [Dg,Ar (by omega),show o+j-c1.length=j by omega,As (An.1 hu).1];exact hu)
     rw [Gq];exact this
  ·cases he
 ·rename_i o t fr τ y ho
  split at he
  ·cases ht:T.ty t with
   |none=>rw [ht] at he;cases he
   |some ρ=>
    rw [ht] at he
    simp only [Fh] at he
    cases hf:Kx τ y o ρ with
    |none=>rw [hf] at he;cases he
    |some z=>
     rw [hf] at he
     simp only [Am,Aa] at he;subst he
     obtain ⟨cs,hc,rfl⟩:=hx
     simp only [Cells] at hc
     rcases hc with ⟨h0,_⟩|⟨y',g,i,h0,rfl,hg,hn,es,hl,Zx,c5⟩
     ·cases h0
     simp only [Aa] at h0;subst h0
     obtain ⟨c1,c2,c3,rfl,h1,h2⟩:=Zl ρ τ es y o z c5 hf
     refine ⟨.pointer (some ⟨g,i+o,none⟩),(λw1=>jv (w:=w1) hT ho g i),[_],⟨g,i+o,rfl,hg,hn,c2,Cells.len ρ c2 z h2,λj u hu=>?_,h2⟩,by simp [Cf,Ty.Aq]⟩
     have:=Zx (o+j) u (by
      rw [Dg,Ar (by omega),show o+j-c1.length=j by omega,As (An.1 hu).1];exact hu)
     rw [Gq];exact this
  ·cases he
 ·cases he
theorem JD {t:TypeId} {ρ:Ty} (ht:p9 P T t ρ) (cs:List Value) (o:Nat) (c2:List Value) (hl:c2.length=ρ.size) (hc: ∀j u,c2[j]?=some u->cs[o+j]?=some u) (hle:o+ρ.size<=cs.length):
  (part t cs.toArray o).run P w= .ok (Cf ρ c2) w:=by
 unfold part
 rw [Sem.run_bind,ht.agg,Result.andThen_ok]
 cases hs:ρ.Aq with
 |true=>
  simp only [Pn,Sem.run_bind,ht.size,Result.andThen_ok,Cf,hs,Sem.run_pure,Result.ok.injEq,Value.agg.injEq,Ol]
  apply Pd
  simp only [Array.toList_extract,List.extract_eq_take_drop]
  apply List.ext_getElem?
  intro j
  rw [Cx]
  split
  ·rename_i hj
   rw [Cw]
   have sd:j<c2.length:=by omega
   rw [Ac sd]
   exact hc j _ (Ac sd)
  ·rename_i hj
   rw [Fy (by omega)]
 |false=>
  have h1:ρ.size=1:=by cases ρ<;>simp_all [Ty.Aq,Ty.size]
  rw [h1] at hl
  obtain ⟨u,rfl⟩:=Df.1 hl
  have:=hc 0 u rfl
  simp only [Ez] at this
  simp [this,Cf,hs]
theorem wM (hT:Eb P T) {st:St} (s:TypeId) (f:Nat) (x:AV) (vx:Value) (av:AV) (hx:Bp X w π st.heap x vx)
  (he:po T s x f=some av): ∃v,(Instr.field s vx f).run P w= .ok v w/\Bp X w π st.heap av v:=by
 have Vt: ∀(o:Nat) (t:TypeId) (cs:List Value) (v:Value),T.off s f=some (o,t)->(part t cs.toArray o).run P w= .ok v w->(Instr.field s (.agg cs.toArray) f).run P w= .ok v w:=by
  intro o t cs v ho hp
  obtain ⟨fs,fd,h1,h2,h3,h4,_⟩:=hT.off _ _ _ _ ho
  simp only [Instr.field,Sem.run_bind,run_underlying h1,Result.andThen_ok,h2,asAgg,Sem.run_pure,h4,h3,hp]
 unfold po at he
 split at he
 ·rename_i o t cs ho
  cases ht:T.ty t with
  |none=>rw [ht] at he;cases he
  |some ρ=>
   rw [ht] at he
   simp only [Fh] at he
   split at he
   ·cases he
   ·rename_i hs
    simp only [Ii] at hs
    cases hi:cs[o]? with
    |none=>rw [hi] at he;cases he
    |some c=>
     rw [hi] at he
     simp only [Am,Aa] at he;subst he
     obtain ⟨us,rfl,hr⟩:=hx
     obtain ⟨u,hu,_,hc⟩:=hr.2 o c hi
     have h1:ρ.size=1:=by cases ρ<;>simp_all [Ty.Aq,Ty.size]
     have:=JD (P:=P) (w:=w) (hT.ty _ _ ht) us o [u] (by simp [h1]) (λj u' fj=>by
      rcases j with _|j
      ·simp at fj;subst fj;exact hu
      ·simp at fj) (by have:=(An.1 hu).1;omega)
     refine ⟨u,Vt o t us u ho (by rw [this];simp [Cf,hs]),hc⟩
 ·rename_i o t fr τ y ho
  split at he
  ·rename_i uv
   cases ht:T.ty t with
   |none=>rw [ht] at he;cases he
   |some ρ=>
    rw [ht] at he
    simp only [Fh] at he
    cases hf:Kx τ y o ρ with
    |none=>rw [hf] at he;cases he
    |some z=>
     rw [hf] at he
     simp only [Am,Aa] at he;subst he
     obtain ⟨cs,hc,rfl⟩:=hx
     obtain ⟨c1,c2,c3,rfl,h1,h2⟩:=Zl ρ τ cs y o z hc hf
     have Au4:τ.Aq=true:=by cases τ<;>simp_all [Kx,Ty.Aq]
     have hl:=Cells.len ρ c2 z h2
     have:=JD (P:=P) (w:=w) (hT.ty _ _ ht) (c1++c2++c3) o c2 hl (λj u hu=>by
      rw [Dg,Ar (by omega),show o+j-c1.length=j by omega,As (An.1 hu).1];exact hu) (by simp;omega)
     refine ⟨Cf ρ c2,?_,c2,h2,rfl⟩
     rw [show Cf τ (c1++c2++c3)= .agg (c1++c2++c3).toArray by simp [Cf,Au4]]
     exact Vt o t _ _ ho this
  ·cases he
 ·cases he
theorem RV {st:St} {a:Act} (h:tn X w π st a) (x:Option Operand) (d l:Int) (hb:YO (x.map st.ev) d=some l):
  (x=none/\l=d)\/ ∃y k,x=some y/\a.eval y= .int k l:=by
 cases x with
 |none=>simp only [Option.map_none,YO,Aa] at hb;exact .inl ⟨rfl,hb.symm⟩
 |some y=>
  right
  simp only [Am] at hb
  cases he:st.ev y with
  |agg cs=>rw [he] at hb;simp [YO] at hb
  |bL fr τ x=>rw [he] at hb;simp [YO] at hb
  |Ms l=>rw [he] at hb;simp [YO] at hb
  | «at»c=>
   rw [he] at hb
   cases c with
   |data fr τ n=>
    cases τ with
    |int k=>
     simp only [YO,Aa] at hb
     have:=Dv h y
     rw [he] at this
     exact ⟨y,k,rfl,by rw [Qe this,hb]⟩
    |_=>simp [YO] at hb
   |_=>simp [YO] at hb
theorem fN (isS:Bool) (len cap:Nat) (lo hi:Option Value) (l h:Nat) (US:(lo=none/\l=0)\/ ∃k,lo=some (.int k l)) (hhi:(hi=none/\h=len)\/ ∃k,hi=some (.int k h))
  (h1:l<=h) (h2:h<=cap):(Instr.sliceBounds isS len cap lo hi none).run P w= .ok (l,h,cap) w:=by
 rcases US with ⟨rfl,rfl⟩|⟨k,rfl⟩<;>rcases hhi with ⟨rfl,rfl⟩|⟨k',rfl⟩
 ·simp [Instr.sliceBounds]
 ·simp [Instr.sliceBounds,run_sliceBound,h2]
 ·simp [Instr.sliceBounds,run_sliceBound,h1]
 ·simp [Instr.sliceBounds,run_sliceBound,h1,h2]
theorem wO (hT:Eb P T) {st:St} {a:Act} (h:Bl X π st a w) (t:TypeId) (x:AV) (vx:Value) (lo hi:Option Operand) (av:AV) (hx:Bp X w π st.heap x vx)
  (he:dZ T st t x (lo.map st.ev) (hi.map st.ev)=some av):
  ∃v,(Instr.sliceAt t vx (lo.map a.eval) (hi.map a.eval) none).run P w= .ok v w/\Bp X w π st.heap av v:=by
 unfold dZ at he
 split at he
 ·cases he
 ·rename_i n hn
  split at he
  ·rename_i l hh hl hhh
   split at he
   ·rename_i Jn
    obtain ⟨h0,h1,h2⟩:=Jn
    obtain ⟨ln,rfl⟩:=Qv h0
    obtain ⟨sP,rfl⟩:=Qv (show 0<=hh by omega)
    have US:((lo.map a.eval)=none/\ln=0)\/ ∃k,(lo.map a.eval)=some (.int k ln):=by
     rcases RV h.2 lo 0 _ hl with ⟨rfl,e⟩|⟨y,k,rfl,e⟩
     ·exact .inl ⟨rfl,by omega⟩
     ·exact .inr ⟨k,by simp [e]⟩
    have hhi: ∀len:Nat,n=len->((hi.map a.eval)=none/\sP=len)\/ ∃k,(hi.map a.eval)=some (.int k sP):=by
     intro len hlen
     rcases RV h.2 hi n _ hhh with ⟨rfl,e⟩|⟨y,k,rfl,e⟩
     ·exact .inl ⟨rfl,by omega⟩
     ·exact .inr ⟨k,by simp [e]⟩
    simp only [Ai] at he
    split at he
    ·rename_i fr e xs
     split at he
     ·rename_i lq
      simp only [Aa] at he;subst he
      obtain ⟨te,g1,g2,g3,g4⟩:=sK hT lq
      obtain ⟨cs,hc,rfl⟩:=hx
      simp only [HB,Aa] at hn
      simp only [Cells] at hc
      obtain ⟨ad,len,cap,rfl,hlen,ug,NB⟩:=hc
      have hb:=fN (P:=P) (w:=w) true len cap _ _ ln sP US (hhi len (by omega)) (by omega) (by omega)
      have aO:=(hT.ty _ _ g2).size (w:=w)
      refine ⟨.slice (if cap=ln then ad else ad.map (·.add (ln*e.size))) (sP-ln) (cap-ln),?_,[.slice (if cap=ln then ad else ad.map (·.add (ln*e.size))) (sP-ln) (cap-ln)],⟨_,sP-ln,cap-ln,rfl,by rw [List.length_drop,De];omega,by omega,?_⟩,by simp [Cf,Ty.Aq]⟩
      ·simp only [Cf,Ty.Aq,Dh,Tt,ij]
       rw [run_sliceAt_slice (P:=P) w t _ _ _ _ (by rw [g3,g4]),run_slice_any (P:=P) w t ad len cap (by rw [g3,g4]),hb]
       simp only [Result.andThen_ok,g4,aO,sliced]
      ·rcases NB with rfl|⟨g,o,rfl,hg,SO,Kf⟩
       ·left;simp
       ·by_cases hlh:ln=sP
        ·left;subst hlh;simp
        ·right
         refine ⟨g,o+ln*e.size,by rw [Ag (by omega)];simp [Addr.add_lit],hg,SO,λi y hy=>?_⟩
         rw [Cw,Cx] at hy
         split at hy
         ·obtain ⟨es,hY,Zx,c5⟩:=Kf _ y hy
          refine ⟨es,hY,λj u hu=>?_,c5⟩
          have:=Zx j u hu
          rw [Dd,<-Gq] at this
          exact this
         ·cases hy
     ·cases he
    ·rename_i k off len
     split at he
     ·rename_i fr tr e tid xs hk
      split at he
      ·rename_i Aj4
       obtain ⟨g1,g2⟩:=Aj4
       simp only [Aa] at he;subst he
       have g3:=hT.elem t tid g1
       have g4:P.elem t=tid:=by simp [Program.elem,g3]
       unfold St.at at hk
       have uk:=hk
       obtain ⟨h8,h9⟩:=On (X:=X) (w:=w) hx hk
       simp only [HB,Aa] at hn
       have aO:=(hT.ty _ _ g2).size (w:=w)
       cases hp:π k with
       |none=>
        rw [hp] at h9
        obtain ⟨rfl,rfl,rfl⟩:=h9
        obtain rfl:sP=0:=by omega
        obtain rfl:ln=0:=by omega
        have hb:=fN (P:=P) (w:=w) true 0 0 _ _ 0 0 US (hhi 0 (by omega)) (by omega) (by omega)
        refine ⟨.slice none 0 0,?_,OA (X:=X) (w:=w) uk (by omega) ?_⟩
        ·rw [run_sliceAt_slice (P:=P) w t _ _ _ _ (by rw [g3,g4]),run_slice_any (P:=P) w t none 0 0 (by rw [g3,g4]),hb]
         simp [g4,aO,sliced]
        ·rw [hp];exact ⟨rfl,rfl,rfl⟩
       |some r=>
        rw [hp] at h9
        obtain ⟨ad,rfl,oY,gS⟩:=h9
        have hb:=fN (P:=P) (w:=w) true len (r.cap-off) _ _ ln sP US (hhi len (by omega)) (by omega) (by omega)
        refine ⟨.slice (some (if r.cap-off=ln then ad else ad.add (ln*e.size))) (sP-ln) (r.cap-off-ln),?_,OA (X:=X) (w:=w) uk (by omega) ?_⟩
        ·rw [run_sliceAt_slice (P:=P) w t _ _ _ _ (by rw [g3,g4]),run_slice_any (P:=P) w t (some ad) len _ (by rw [g3,g4]),hb]
         simp only [Result.andThen_ok,g4,aO,sliced]
         split<;>rfl
        ·rw [hp]
         refine ⟨_,by rw [Nat.sub_sub],by omega,λIt=>?_⟩
         rw [Ag (by omega),gS (by omega)]
         simp only [Addr.add_lit]
         rw [<-Gq r.o off ln,Dd (r.o+off)]
      ·cases he
     ·cases he
    ·rename_i fr s
     split at he
     ·rename_i Yg
      simp only [Aa] at he;subst he
      have:=fJ hx;subst this
      have hu:P.underlying t=some .string:=(hT.ty _ _ Yg).desc
      simp only [HB,Aa] at hn
      have hb:=fN (P:=P) (w:=w) false s.size s.size _ _ ln sP US (hhi s.size (by omega)) (by omega) (by omega)
      refine ⟨.string (s.extract ln sP),?_,mC _ _⟩
      rw [run_sliceAt_string (P:=P) w t _ _ _ _ hu]
      simp [Instr.slice,run_underlying hu,hb]
     ·cases he
    ·cases he
   ·cases he
  ·cases he
end
end Go.Proofs.YtfolipnappekaaaGreat
