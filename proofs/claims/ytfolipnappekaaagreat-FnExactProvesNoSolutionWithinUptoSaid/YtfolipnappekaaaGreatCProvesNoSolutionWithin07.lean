/-
  Part 8 of the proof that the statement FnExactProvesNoSolutionWithin holds.
-/
import Derived.Test.YtfolipnappekaaaGreatCProvesNoSolutionWithin06
namespace Go.Proofs.YtfolipnappekaaaGreat
open Go.RowKit
section
variable {P:Program} {T:Tab} {X:Ctx} {w w':World} {π:Pi} {H:List (Nat×OB)}
theorem Tv {S:Nat->Prop} (ρ:Ty): ∀(τ:Ty) (cs:List Value) (x:τ.den) (o:Nat) (y:ρ.den),Cells w S τ cs x->Gr τ x o ρ=some y->
  ∃c1 c2 c3:List Value,cs=c1++c2++c3/\c1.length=o/\Cells w S ρ c2 y
 | .pair a r,cs,x,o,y,hc,hf=>by
  simp only [Cells] at hc
  obtain ⟨c1,c2,rfl,h1,h2⟩:=hc
  simp only [Gr] at hf
  split at hf
  ·rename_i h0;subst h0
   split at hf
   ·rename_i he;subst he
    simp only [Option.some.injEq] at hf;subst hf
    exact ⟨[],c1,c2,by simp,rfl,h1⟩
   ·cases hf
  ·split at hf
   ·cases hf
   ·rename_i h0 h3
    obtain ⟨d1,d2,d3,rfl,h4,h5⟩:=Tv ρ r c2 x.2 _ y h2 hf
    have:=Cells.len a c1 x.1 h1
    exact ⟨c1++d1,d2,d3,by simp [List.append_assoc],by simp;omega,h5⟩
 | .int _,_,_,_,_,_,hf=>by simp [Gr] at hf
 | .bool,_,_,_,_,_,hf=>by simp [Gr] at hf
 | .str,_,_,_,_,_,hf=>by simp [Gr] at hf
 | .slice _,_,_,_,_,_,hf=>by simp [Gr] at hf
 | .ptr _,_,_,_,_,_,hf=>by simp [Gr] at hf
 | .oslice _,_,_,_,_,_,hf=>by simp [Gr] at hf
 | .optr _,_,_,_,_,_,hf=>by simp [Gr] at hf
 | .smap _,_,_,_,_,_,hf=>by simp [Gr] at hf
 | .clo _ _,_,_,_,_,_,hf=>by simp [Gr] at hf
 | .unit,_,_,_,_,_,hf=>by simp [Gr] at hf
theorem eA (hT:By P T) {s:TypeId} {f o:Nat} {t:TypeId} (h:T.off s f=some (o,t)) (g i:Nat):
  (Instr.fieldAt s (.pointer (some ⟨g,i,none⟩)) f).run P w= .ok (.pointer (some ⟨g,i+o,none⟩)) w:=by
 obtain ⟨fs,fd,h1,h2,h3,h4,inf,h5,h6⟩:=hT.off _ _ _ _ h
 have Vp:(sizeOf fd.type).run P w= .ok inf.size w:=by rw [h4];simp [sizeOf,typeInfo,h5]
 simp only [Instr.fieldAt,Sem.run_bind,run_underlying h1,Result.andThen_ok,h2,Instr.sureAddr,Sem.run_pure,fieldPlace,Vp,if_neg h6,h3,Addr.add_lit]
theorem Yt (hT:By P T) {st:St} (s:TypeId) (f:Nat) (x:AV) (vx:Value) (av:AV) (hx:Ao X w π st.heap x vx)
  (he:Jk T s x f=some av): ∃v,(∀w':World,(Instr.fieldAt s vx f).run P w'= .ok v w')/\Ao X w π st.heap av v:=by
 unfold Jk at he
 split at he
 ·rename_i o t l i ho
  simp only [Option.some.injEq] at he;subst he
  obtain ⟨r,tid,vs,h1,h2,rfl⟩:=hx
  exact ⟨_,(λw1=>eA (w:=w1) hT ho r.g i),r,tid,vs,h1,h2,rfl⟩
 ·rename_i o t fr τ y ho
  split at he
  ·cases ht:T.ty t with
   |none=>rw [ht] at he;cases he
   |some ρ=>
    rw [ht] at he
    simp only [Option.bind_some] at he
    cases hf:Gr τ y o ρ with
    |none=>rw [hf] at he;cases he
    |some z=>
     rw [hf] at he
     simp only [Option.map_some,Option.some.injEq] at he;subst he
     obtain ⟨cs,hc,rfl⟩:=hx
     simp only [Cells] at hc
     obtain ⟨g,i,rfl,hg,hn,es,hl,Ui,Xm⟩:=hc
     obtain ⟨c1,c2,c3,rfl,h1,h2⟩:=Tv ρ τ es y o z Xm hf
     refine ⟨.pointer (some ⟨g,i+o,none⟩),(λw1=>eA (w:=w1) hT ho g i),[_],⟨g,i+o,rfl,hg,hn,c2,Cells.len ρ c2 z h2,λj u hu=>?_,h2⟩,by simp [Au,Ty.Ac]⟩
     have:=Ui (o+j) u (by
      rw [List.append_assoc,List.getElem?_append_right (by omega),show o+j-c1.length=j by omega,List.getElem?_append_left (List.getElem?_eq_some_iff.1 hu).1];exact hu)
     rw [Nat.add_assoc];exact this
  ·cases he
 ·rename_i o t fr τ y ho
  split at he
  ·cases ht:T.ty t with
   |none=>rw [ht] at he;cases he
   |some ρ=>
    rw [ht] at he
    simp only [Option.bind_some] at he
    cases hf:Gr τ y o ρ with
    |none=>rw [hf] at he;cases he
    |some z=>
     rw [hf] at he
     simp only [Option.map_some,Option.some.injEq] at he;subst he
     obtain ⟨cs,hc,rfl⟩:=hx
     simp only [Cells] at hc
     rcases hc with ⟨h0,_⟩|⟨y',g,i,h0,rfl,hg,hn,es,hl,Ui,Xm⟩
     ·cases h0
     simp only [Option.some.injEq] at h0;subst h0
     obtain ⟨c1,c2,c3,rfl,h1,h2⟩:=Tv ρ τ es y o z Xm hf
     refine ⟨.pointer (some ⟨g,i+o,none⟩),(λw1=>eA (w:=w1) hT ho g i),[_],⟨g,i+o,rfl,hg,hn,c2,Cells.len ρ c2 z h2,λj u hu=>?_,h2⟩,by simp [Au,Ty.Ac]⟩
     have:=Ui (o+j) u (by
      rw [List.append_assoc,List.getElem?_append_right (by omega),show o+j-c1.length=j by omega,List.getElem?_append_left (List.getElem?_eq_some_iff.1 hu).1];exact hu)
     rw [Nat.add_assoc];exact this
  ·cases he
 ·cases he
theorem AS {t:TypeId} {ρ:Ty} (ht:lp P T t ρ) (cs:List Value) (o:Nat) (c2:List Value) (hl:c2.length=ρ.size) (hc: ∀j u,c2[j]?=some u->cs[o+j]?=some u) (hle:o+ρ.size<=cs.length):
  (part t cs.toArray o).run P w= .ok (Au ρ c2) w:=by
 unfold part
 rw [Sem.run_bind,ht.agg,Result.andThen_ok]
 cases hs:ρ.Ac with
 |true=>
  simp only [if_true,Sem.run_bind,ht.size,Result.andThen_ok,Au,hs,Sem.run_pure,Result.ok.injEq,Value.agg.injEq,and_true]
  apply Array.ext'
  simp only [Array.toList_extract,List.extract_eq_take_drop]
  apply List.ext_getElem?
  intro j
  rw [List.getElem?_take]
  split
  ·rename_i hj
   rw [List.getElem?_drop]
   have wc:j<c2.length:=by omega
   rw [List.getElem?_eq_getElem wc]
   exact hc j _ (List.getElem?_eq_getElem wc)
  ·rename_i hj
   rw [List.getElem?_eq_none (by omega)]
 |false=>
  have h1:ρ.size=1:=by cases ρ<;>simp_all [Ty.Ac,Ty.size]
  rw [h1] at hl
  obtain ⟨u,rfl⟩:=List.length_eq_one_iff.1 hl
  have:=hc 0 u rfl
  simp only [Nat.add_zero] at this
  simp [this,Au,hs]
theorem sl (hT:By P T) {st:St} (s:TypeId) (f:Nat) (x:AV) (vx:Value) (av:AV) (hx:Ao X w π st.heap x vx)
  (he:lD T s x f=some av): ∃v,(Instr.field s vx f).run P w= .ok v w/\Ao X w π st.heap av v:=by
 have Qh: ∀(o:Nat) (t:TypeId) (cs:List Value) (v:Value),T.off s f=some (o,t)->(part t cs.toArray o).run P w= .ok v w->(Instr.field s (.agg cs.toArray) f).run P w= .ok v w:=by
  intro o t cs v ho hp
  obtain ⟨fs,fd,h1,h2,h3,h4,_⟩:=hT.off _ _ _ _ ho
  simp only [Instr.field,Sem.run_bind,run_underlying h1,Result.andThen_ok,h2,asAgg,Sem.run_pure,h4,h3,hp]
 unfold lD at he
 split at he
 ·rename_i o t cs ho
  cases ht:T.ty t with
  |none=>rw [ht] at he;cases he
  |some ρ=>
   rw [ht] at he
   simp only [Option.bind_some] at he
   split at he
   ·cases he
   ·rename_i hs
    simp only [Bool.not_eq_true] at hs
    cases hi:cs[o]? with
    |none=>rw [hi] at he;cases he
    |some c=>
     rw [hi] at he
     simp only [Option.map_some,Option.some.injEq] at he;subst he
     obtain ⟨us,rfl,hr⟩:=hx
     obtain ⟨u,hu,_,hc⟩:=hr.2 o c hi
     have h1:ρ.size=1:=by cases ρ<;>simp_all [Ty.Ac,Ty.size]
     have:=AS (P:=P) (w:=w) (hT.ty _ _ ht) us o [u] (by simp [h1]) (λj u' bE=>by
      rcases j with _|j
      ·simp at bE;subst bE;exact hu
      ·simp at bE) (by have:=(List.getElem?_eq_some_iff.1 hu).1;omega)
     refine ⟨u,Qh o t us u ho (by rw [this];simp [Au,hs]),hc⟩
 ·rename_i o t fr τ y ho
  split at he
  ·rename_i q7
   cases ht:T.ty t with
   |none=>rw [ht] at he;cases he
   |some ρ=>
    rw [ht] at he
    simp only [Option.bind_some] at he
    cases hf:Gr τ y o ρ with
    |none=>rw [hf] at he;cases he
    |some z=>
     rw [hf] at he
     simp only [Option.map_some,Option.some.injEq] at he;subst he
     obtain ⟨cs,hc,rfl⟩:=hx
     obtain ⟨c1,c2,c3,rfl,h1,h2⟩:=Tv ρ τ cs y o z hc hf
     have An5:τ.Ac=true:=by cases τ<;>simp_all [Gr,Ty.Ac]
     have hl:=Cells.len ρ c2 z h2
     have:=AS (P:=P) (w:=w) (hT.ty _ _ ht) (c1++c2++c3) o c2 hl (λj u hu=>by
      rw [List.append_assoc,List.getElem?_append_right (by omega),show o+j-c1.length=j by omega,List.getElem?_append_left (List.getElem?_eq_some_iff.1 hu).1];exact hu) (by simp;omega)
     refine ⟨Au ρ c2,?_,c2,h2,rfl⟩
     rw [show Au τ (c1++c2++c3)= .agg (c1++c2++c3).toArray by simp [Au,An5]]
     exact Qh o t _ _ ho this
  ·cases he
 ·cases he
theorem JA {st:St} {a:Act} (h:p6 X w π st a) (x:Option Operand) (d l:Int) (hb:PS (x.map st.ev) d=some l):
  (x=none/\l=d)\/ ∃y k,x=some y/\a.eval y= .int k l:=by
 cases x with
 |none=>simp only [Option.map_none,PS,Option.some.injEq] at hb;exact .inl ⟨rfl,hb.symm⟩
 |some y=>
  right
  simp only [Option.map_some] at hb
  cases he:st.ev y with
  |agg cs=>rw [he] at hb;simp [PS] at hb
  |Xa fr τ x=>rw [he] at hb;simp [PS] at hb
  |Ih l=>rw [he] at hb;simp [PS] at hb
  | «at»c=>
   rw [he] at hb
   cases c with
   |data fr τ n=>
    cases τ with
    |int k=>
     simp only [PS,Option.some.injEq] at hb
     have:=Bq h y
     rw [he] at this
     exact ⟨y,k,rfl,by rw [Ld this,hb]⟩
    |_=>simp [PS] at hb
   |_=>simp [PS] at hb
theorem c5 (isS:Bool) (len cap:Nat) (lo hi:Option Value) (l h:Nat) (LY:(lo=none/\l=0)\/ ∃k,lo=some (.int k l)) (hhi:(hi=none/\h=len)\/ ∃k,hi=some (.int k h))
  (h1:l<=h) (h2:h<=cap):(Instr.sliceBounds isS len cap lo hi none).run P w= .ok (l,h,cap) w:=by
 rcases LY with ⟨rfl,rfl⟩|⟨k,rfl⟩<;>rcases hhi with ⟨rfl,rfl⟩|⟨k',rfl⟩
 ·simp [Instr.sliceBounds]
 ·simp [Instr.sliceBounds,run_sliceBound,h2]
 ·simp [Instr.sliceBounds,run_sliceBound,h1]
 ·simp [Instr.sliceBounds,run_sliceBound,h1,h2]
theorem sn (hT:By P T) {st:St} {a:Act} (h:Ak X π st a w) (t:TypeId) (x:AV) (vx:Value) (lo hi:Option Operand) (av:AV) (hx:Ao X w π st.heap x vx)
  (he:aD T st t x (lo.map st.ev) (hi.map st.ev)=some av):
  ∃v,(Instr.sliceAt t vx (lo.map a.eval) (hi.map a.eval) none).run P w= .ok v w/\Ao X w π st.heap av v:=by
 unfold aD at he
 split at he
 ·cases he
 ·rename_i n hn
  split at he
  ·rename_i l hh hl hhh
   split at he
   ·rename_i Fk
    obtain ⟨h0,h1,h2⟩:=Fk
    obtain ⟨ln,rfl⟩:=Int.eq_ofNat_of_zero_le h0
    obtain ⟨oL,rfl⟩:=Int.eq_ofNat_of_zero_le (show 0<=hh by omega)
    have LY:((lo.map a.eval)=none/\ln=0)\/ ∃k,(lo.map a.eval)=some (.int k ln):=by
     rcases JA h.2 lo 0 _ hl with ⟨rfl,e⟩|⟨y,k,rfl,e⟩
     ·exact .inl ⟨rfl,by omega⟩
     ·exact .inr ⟨k,by simp [e]⟩
    have hhi: ∀len:Nat,n=len->((hi.map a.eval)=none/\oL=len)\/ ∃k,(hi.map a.eval)=some (.int k oL):=by
     intro len hlen
     rcases JA h.2 hi n _ hhh with ⟨rfl,e⟩|⟨y,k,rfl,e⟩
     ·exact .inl ⟨rfl,by omega⟩
     ·exact .inr ⟨k,by simp [e]⟩
    simp only [Int.toNat_natCast] at he
    split at he
    ·rename_i fr e xs
     split at he
     ·rename_i gL
      simp only [Option.some.injEq] at he;subst he
      obtain ⟨te,g1,g2,g3,g4⟩:=oG hT gL
      obtain ⟨cs,hc,rfl⟩:=hx
      simp only [zw,Option.some.injEq] at hn
      simp only [Cells] at hc
      obtain ⟨ad,len,cap,rfl,hlen,pR,EF⟩:=hc
      have hb:=c5 (P:=P) (w:=w) true len cap _ _ ln oL LY (hhi len (by omega)) (by omega) (by omega)
      have Vp:=(hT.ty _ _ g2).size (w:=w)
      refine ⟨.slice (if cap=ln then ad else ad.map (·.add (ln*e.size))) (oL-ln) (cap-ln),?_,[.slice (if cap=ln then ad else ad.map (·.add (ln*e.size))) (oL-ln) (cap-ln)],⟨_,oL-ln,cap-ln,rfl,by rw [List.length_drop,List.length_take];omega,by omega,?_⟩,by simp [Au,Ty.Ac]⟩
      ·simp only [Au,Ty.Ac,Bool.false_eq_true,if_false,List.headD_cons]
       rw [run_sliceAt_slice (P:=P) w t _ _ _ _ (by rw [g3,g4]),run_slice_any (P:=P) w t ad len cap (by rw [g3,g4]),hb]
       simp only [Result.andThen_ok,g4,Vp,sliced]
      ·rcases EF with rfl|⟨g,o,rfl,hg,JU,Fh⟩
       ·left;simp
       ·by_cases hlh:ln=oL
        ·left;subst hlh;simp
        ·right
         refine ⟨g,o+ln*e.size,by rw [if_neg (by omega)];simp [Addr.add_lit],hg,JU,λi y hy=>?_⟩
         rw [List.getElem?_drop,List.getElem?_take] at hy
         split at hy
         ·obtain ⟨es,da,Ui,Xm⟩:=Fh _ y hy
          refine ⟨es,da,λj u hu=>?_,Xm⟩
          have:=Ui j u hu
          rw [Nat.add_mul,<-Nat.add_assoc] at this
          exact this
         ·cases hy
     ·cases he
    ·rename_i k off len
     split at he
     ·rename_i fr tr e tid xs hk
      split at he
      ·rename_i Ac6
       obtain ⟨g1,g2⟩:=Ac6
       simp only [Option.some.injEq] at he;subst he
       have g3:=hT.elem t tid g1
       have g4:P.elem t=tid:=by simp [Program.elem,g3]
       unfold St.at at hk
       have pV:=hk
       obtain ⟨h8,h9⟩:=Jv (X:=X) (w:=w) hx hk
       simp only [zw,Option.some.injEq] at hn
       have Vp:=(hT.ty _ _ g2).size (w:=w)
       cases hp:π k with
       |none=>
        rw [hp] at h9
        obtain ⟨rfl,rfl,rfl⟩:=h9
        obtain rfl:oL=0:=by omega
        obtain rfl:ln=0:=by omega
        have hb:=c5 (P:=P) (w:=w) true 0 0 _ _ 0 0 LY (hhi 0 (by omega)) (by omega) (by omega)
        refine ⟨.slice none 0 0,?_,FF (X:=X) (w:=w) pV (by omega) ?_⟩
        ·rw [run_sliceAt_slice (P:=P) w t _ _ _ _ (by rw [g3,g4]),run_slice_any (P:=P) w t none 0 0 (by rw [g3,g4]),hb]
         simp [g4,Vp,sliced]
        ·rw [hp];exact ⟨rfl,rfl,rfl⟩
       |some r=>
        rw [hp] at h9
        obtain ⟨ad,rfl,lg,cV⟩:=h9
        have hb:=c5 (P:=P) (w:=w) true len (r.cap-off) _ _ ln oL LY (hhi len (by omega)) (by omega) (by omega)
        refine ⟨.slice (some (if r.cap-off=ln then ad else ad.add (ln*e.size))) (oL-ln) (r.cap-off-ln),?_,FF (X:=X) (w:=w) pV (by omega) ?_⟩
        ·rw [run_sliceAt_slice (P:=P) w t _ _ _ _ (by rw [g3,g4]),run_slice_any (P:=P) w t (some ad) len _ (by rw [g3,g4]),hb]
         simp only [Result.andThen_ok,g4,Vp,sliced]
         split<;>rfl
        ·rw [hp]
         refine ⟨_,by rw [Nat.sub_sub],by omega,λEy=>?_⟩
         rw [if_neg (by omega),cV (by omega)]
         simp only [Addr.add_lit]
         rw [<-Nat.add_assoc r.o off ln,Nat.add_mul (r.o+off)]
      ·cases he
     ·cases he
    ·rename_i fr s
     split at he
     ·rename_i Ss
      simp only [Option.some.injEq] at he;subst he
      have:=bV hx;subst this
      have hu:P.underlying t=some .string:=(hT.ty _ _ Ss).desc
      simp only [zw,Option.some.injEq] at hn
      have hb:=c5 (P:=P) (w:=w) false s.size s.size _ _ ln oL LY (hhi s.size (by omega)) (by omega) (by omega)
      refine ⟨.string (s.extract ln oL),?_,lV _ _⟩
      rw [run_sliceAt_string (P:=P) w t _ _ _ _ hu]
      simp [Instr.slice,run_underlying hu,hb]
     ·cases he
    ·cases he
   ·cases he
  ·cases he
end
end Go.Proofs.YtfolipnappekaaaGreat
