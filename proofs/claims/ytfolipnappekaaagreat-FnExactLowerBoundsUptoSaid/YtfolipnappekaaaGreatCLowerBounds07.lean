/-
  Part 8 of the proof that the statement FnExactLowerBounds holds.
-/
import Derived.Test.YtfolipnappekaaaGreatCLowerBounds06
namespace Go.Proofs.YtfolipnappekaaaGreat
open Go.RowKit
section
variable {P:Program} {T:Tab} {X:Ctx} {w w':World} {π:Pi} {H:List (Nat×OB)}
theorem Sb {S:Nat->Prop} (ρ:Ty): ∀(τ:Ty) (cs:List Value) (x:τ.den) (o:Nat) (y:ρ.den),Cells w S τ cs x->Gp τ x o ρ=some y->
  ∃c1 c2 c3:List Value,cs=c1++c2++c3/\c1.length=o/\Cells w S ρ c2 y
 | .pair a r,cs,x,o,y,hc,hf=>by
  simp only [Cells] at hc
  obtain ⟨c1,c2,rfl,h1,h2⟩:=hc
  simp only [Gp] at hf
  split at hf
  ·rename_i h0;subst h0
   split at hf
   ·rename_i he;subst he
    simp only [Option.some.injEq] at hf;subst hf
    exact ⟨[],c1,c2,by simp,rfl,h1⟩
   ·cases hf
  ·split at hf
   ·cases hf
   ·rename_i h0 h3
    obtain ⟨d1,d2,d3,rfl,h4,h5⟩:=Sb ρ r c2 x.2 _ y h2 hf
    have:=Cells.len a c1 x.1 h1
    exact ⟨c1++d1,d2,d3,by simp [List.append_assoc],by simp;omega,h5⟩
 | .int _,_,_,_,_,_,hf=>by simp [Gp] at hf
 | .bool,_,_,_,_,_,hf=>by simp [Gp] at hf
 | .str,_,_,_,_,_,hf=>by simp [Gp] at hf
 | .slice _,_,_,_,_,_,hf=>by simp [Gp] at hf
 | .ptr _,_,_,_,_,_,hf=>by simp [Gp] at hf
 | .oslice _,_,_,_,_,_,hf=>by simp [Gp] at hf
 | .optr _,_,_,_,_,_,hf=>by simp [Gp] at hf
 | .smap _,_,_,_,_,_,hf=>by simp [Gp] at hf
 | .clo _ _,_,_,_,_,_,hf=>by simp [Gp] at hf
 | .unit,_,_,_,_,_,hf=>by simp [Gp] at hf
theorem dD (hT:Ca P T) {s:TypeId} {f o:Nat} {t:TypeId} (h:T.off s f=some (o,t)) (g i:Nat):
  (Instr.fieldAt s (.pointer (some ⟨g,i,none⟩)) f).run P w= .ok (.pointer (some ⟨g,i+o,none⟩)) w:=by
 obtain ⟨fs,fd,h1,h2,h3,h4,inf,h5,h6⟩:=hT.off _ _ _ _ h
 have Xm:(sizeOf fd.type).run P w= .ok inf.size w:=by rw [h4];simp [sizeOf,typeInfo,h5]
 simp only [Instr.fieldAt,Sem.run_bind,run_underlying h1,Result.andThen_ok,h2,Instr.sureAddr,Sem.run_pure,fieldPlace,Xm,if_neg h6,h3,Addr.add_lit]
theorem Xe (hT:Ca P T) {st:St} (s:TypeId) (f:Nat) (x:AV) (vx:Value) (av:AV) (hx:An X w π st.heap x vx)
  (he:Iw T s x f=some av): ∃v,(∀w':World,(Instr.fieldAt s vx f).run P w'= .ok v w')/\An X w π st.heap av v:=by
 unfold Iw at he
 split at he
 ·rename_i o t l i ho
  simp only [Option.some.injEq] at he;subst he
  obtain ⟨r,tid,vs,h1,h2,rfl⟩:=hx
  exact ⟨_,(λw1=>dD (w:=w1) hT ho r.g i),r,tid,vs,h1,h2,rfl⟩
 ·rename_i o t fr τ y ho
  split at he
  ·cases ht:T.ty t with
   |none=>rw [ht] at he;cases he
   |some ρ=>
    rw [ht] at he
    simp only [Option.bind_some] at he
    cases hf:Gp τ y o ρ with
    |none=>rw [hf] at he;cases he
    |some z=>
     rw [hf] at he
     simp only [Option.map_some,Option.some.injEq] at he;subst he
     obtain ⟨cs,hc,rfl⟩:=hx
     simp only [Cells] at hc
     obtain ⟨g,i,rfl,hg,hn,es,hl,Sq,Wa⟩:=hc
     obtain ⟨c1,c2,c3,rfl,h1,h2⟩:=Sb ρ τ es y o z Wa hf
     refine ⟨.pointer (some ⟨g,i+o,none⟩),(λw1=>dD (w:=w1) hT ho g i),[_],⟨g,i+o,rfl,hg,hn,c2,Cells.len ρ c2 z h2,λj u hu=>?_,h2⟩,by simp [As,Ty.Ab]⟩
     have:=Sq (o+j) u (by
      rw [List.append_assoc,List.getElem?_append_right (by omega),show o+j-c1.length=j by omega,List.getElem?_append_left (List.getElem?_eq_some_iff.1 hu).1];exact hu)
     rw [Nat.add_assoc];exact this
  ·cases he
 ·rename_i o t fr τ y ho
  split at he
  ·cases ht:T.ty t with
   |none=>rw [ht] at he;cases he
   |some ρ=>
    rw [ht] at he
    simp only [Option.bind_some] at he
    cases hf:Gp τ y o ρ with
    |none=>rw [hf] at he;cases he
    |some z=>
     rw [hf] at he
     simp only [Option.map_some,Option.some.injEq] at he;subst he
     obtain ⟨cs,hc,rfl⟩:=hx
     simp only [Cells] at hc
     rcases hc with ⟨h0,_⟩|⟨y',g,i,h0,rfl,hg,hn,es,hl,Sq,Wa⟩
     ·cases h0
     simp only [Option.some.injEq] at h0;subst h0
     obtain ⟨c1,c2,c3,rfl,h1,h2⟩:=Sb ρ τ es y o z Wa hf
     refine ⟨.pointer (some ⟨g,i+o,none⟩),(λw1=>dD (w:=w1) hT ho g i),[_],⟨g,i+o,rfl,hg,hn,c2,Cells.len ρ c2 z h2,λj u hu=>?_,h2⟩,by simp [As,Ty.Ab]⟩
     have:=Sq (o+j) u (by
      rw [List.append_assoc,List.getElem?_append_right (by omega),show o+j-c1.length=j by omega,List.getElem?_append_left (List.getElem?_eq_some_iff.1 hu).1];exact hu)
     rw [Nat.add_assoc];exact this
  ·cases he
 ·cases he
theorem yK {t:TypeId} {ρ:Ty} (ht:jL P T t ρ) (cs:List Value) (o:Nat) (c2:List Value) (hl:c2.length=ρ.size) (hc: ∀j u,c2[j]?=some u->cs[o+j]?=some u) (hle:o+ρ.size<=cs.length):
  (part t cs.toArray o).run P w= .ok (As ρ c2) w:=by
 unfold part
 rw [Sem.run_bind,ht.agg,Result.andThen_ok]
 cases hs:ρ.Ab with
 |true=>
  simp only [if_true,Sem.run_bind,ht.size,Result.andThen_ok,As,hs,Sem.run_pure,Result.ok.injEq,Value.agg.injEq,and_true]
  apply Array.ext'
  simp only [Array.toList_extract,List.extract_eq_take_drop]
  apply List.ext_getElem?
  intro j
  rw [List.getElem?_take]
  split
  ·rename_i hj
   rw [List.getElem?_drop]
   have mg:j<c2.length:=by omega
   rw [List.getElem?_eq_getElem mg]
   exact hc j _ (List.getElem?_eq_getElem mg)
  ·rename_i hj
   rw [List.getElem?_eq_none (by omega)]
 |false=>
  have h1:ρ.size=1:=by cases ρ<;>simp_all [Ty.Ab,Ty.size]
  rw [h1] at hl
  obtain ⟨u,rfl⟩:=List.length_eq_one_iff.1 hl
  have:=hc 0 u rfl
  simp only [Nat.add_zero] at this
  simp [this,As,hs]
theorem qn (hT:Ca P T) {st:St} (s:TypeId) (f:Nat) (x:AV) (vx:Value) (av:AV) (hx:An X w π st.heap x vx)
  (he:jV T s x f=some av): ∃v,(Instr.field s vx f).run P w= .ok v w/\An X w π st.heap av v:=by
 have Pa: ∀(o:Nat) (t:TypeId) (cs:List Value) (v:Value),T.off s f=some (o,t)->(part t cs.toArray o).run P w= .ok v w->(Instr.field s (.agg cs.toArray) f).run P w= .ok v w:=by
  intro o t cs v ho hp
  obtain ⟨fs,fd,h1,h2,h3,h4,_⟩:=hT.off _ _ _ _ ho
  simp only [Instr.field,Sem.run_bind,run_underlying h1,Result.andThen_ok,h2,asAgg,Sem.run_pure,h4,h3,hp]
 unfold jV at he
 split at he
 ·rename_i o t cs ho
  cases ht:T.ty t with
  |none=>rw [ht] at he;cases he
  |some ρ=>
   rw [ht] at he
   simp only [Option.bind_some] at he
   split at he
   ·cases he
   ·rename_i hs
    simp only [Bool.not_eq_true] at hs
    cases hi:cs[o]? with
    |none=>rw [hi] at he;cases he
    |some c=>
     rw [hi] at he
     simp only [Option.map_some,Option.some.injEq] at he;subst he
     obtain ⟨us,rfl,hr⟩:=hx
     obtain ⟨u,hu,_,hc⟩:=hr.2 o c hi
     have h1:ρ.size=1:=by cases ρ<;>simp_all [Ty.Ab,Ty.size]
     have:=yK (P:=P) (w:=w) (hT.ty _ _ ht) us o [u] (by simp [h1]) (λj u' cb=>by
      rcases j with _|j
      ·simp at cb;subst cb;exact hu
      ·simp at cb) (by have:=(List.getElem?_eq_some_iff.1 hu).1;omega)
     refine ⟨u,Pa o t us u ho (by rw [this];simp [As,hs]),hc⟩
 ·rename_i o t fr τ y ho
  split at he
  ·rename_i oe
   cases ht:T.ty t with
   |none=>rw [ht] at he;cases he
   |some ρ=>
    rw [ht] at he
    simp only [Option.bind_some] at he
    cases hf:Gp τ y o ρ with
    |none=>rw [hf] at he;cases he
    |some z=>
     rw [hf] at he
     simp only [Option.map_some,Option.some.injEq] at he;subst he
     obtain ⟨cs,hc,rfl⟩:=hx
     obtain ⟨c1,c2,c3,rfl,h1,h2⟩:=Sb ρ τ cs y o z hc hf
     have Ais:τ.Ab=true:=by cases τ<;>simp_all [Gp,Ty.Ab]
     have hl:=Cells.len ρ c2 z h2
     have:=yK (P:=P) (w:=w) (hT.ty _ _ ht) (c1++c2++c3) o c2 hl (λj u hu=>by
      rw [List.append_assoc,List.getElem?_append_right (by omega),show o+j-c1.length=j by omega,List.getElem?_append_left (List.getElem?_eq_some_iff.1 hu).1];exact hu) (by simp;omega)
     refine ⟨As ρ c2,?_,c2,h2,rfl⟩
     rw [show As τ (c1++c2++c3)= .agg (c1++c2++c3).toArray by simp [As,Ais]]
     exact Pa o t _ _ ho this
  ·cases he
 ·cases he
theorem EZ {st:St} {a:Act} (h:nm X w π st a) (x:Option Operand) (d l:Int) (hb:LC (x.map st.ev) d=some l):
  (x=none/\l=d)\/ ∃y k,x=some y/\a.eval y= .int k l:=by
 cases x with
 |none=>simp only [Option.map_none,LC,Option.some.injEq] at hb;exact .inl ⟨rfl,hb.symm⟩
 |some y=>
  right
  simp only [Option.map_some] at hb
  cases he:st.ev y with
  |agg cs=>rw [he] at hb;simp [LC] at hb
  |Vl fr τ x=>rw [he] at hb;simp [LC] at hb
  |Ib l=>rw [he] at hb;simp [LC] at hb
  | «at»c=>
   rw [he] at hb
   cases c with
   |data fr τ n=>
    cases τ with
    |int k=>
     simp only [LC,Option.some.injEq] at hb
     have:=Bo h y
     rw [he] at this
     exact ⟨y,k,rfl,by rw [Kn this,hb]⟩
    |_=>simp [LC] at hb
   |_=>simp [LC] at hb
theorem bh (isS:Bool) (len cap:Nat) (lo hi:Option Value) (l h:Nat) (HJ:(lo=none/\l=0)\/ ∃k,lo=some (.int k l)) (hhi:(hi=none/\h=len)\/ ∃k,hi=some (.int k h))
  (h1:l<=h) (h2:h<=cap):(Instr.sliceBounds isS len cap lo hi none).run P w= .ok (l,h,cap) w:=by
 rcases HJ with ⟨rfl,rfl⟩|⟨k,rfl⟩<;>rcases hhi with ⟨rfl,rfl⟩|⟨k',rfl⟩
 ·simp [Instr.sliceBounds]
 ·simp [Instr.sliceBounds,run_sliceBound,h2]
 ·simp [Instr.sliceBounds,run_sliceBound,h1]
 ·simp [Instr.sliceBounds,run_sliceBound,h1,h2]
theorem qp (hT:Ca P T) {st:St} {a:Act} (h:Al X π st a w) (t:TypeId) (x:AV) (vx:Value) (lo hi:Option Operand) (av:AV) (hx:An X w π st.heap x vx)
  (he:Zi T st t x (lo.map st.ev) (hi.map st.ev)=some av):
  ∃v,(Instr.sliceAt t vx (lo.map a.eval) (hi.map a.eval) none).run P w= .ok v w/\An X w π st.heap av v:=by
 unfold Zi at he
 split at he
 ·cases he
 ·rename_i n hn
  split at he
  ·rename_i l hh hl hhh
   split at he
   ·rename_i Fe
    obtain ⟨h0,h1,h2⟩:=Fe
    obtain ⟨ln,rfl⟩:=Int.eq_ofNat_of_zero_le h0
    obtain ⟨mW,rfl⟩:=Int.eq_ofNat_of_zero_le (show 0<=hh by omega)
    have HJ:((lo.map a.eval)=none/\ln=0)\/ ∃k,(lo.map a.eval)=some (.int k ln):=by
     rcases EZ h.2 lo 0 _ hl with ⟨rfl,e⟩|⟨y,k,rfl,e⟩
     ·exact .inl ⟨rfl,by omega⟩
     ·exact .inr ⟨k,by simp [e]⟩
    have hhi: ∀len:Nat,n=len->((hi.map a.eval)=none/\mW=len)\/ ∃k,(hi.map a.eval)=some (.int k mW):=by
     intro len hlen
     rcases EZ h.2 hi n _ hhh with ⟨rfl,e⟩|⟨y,k,rfl,e⟩
     ·exact .inl ⟨rfl,by omega⟩
     ·exact .inr ⟨k,by simp [e]⟩
    simp only [Int.toNat_natCast] at he
    split at he
    ·rename_i fr e xs
     split at he
     ·rename_i iJ
      simp only [Option.some.injEq] at he;subst he
      obtain ⟨te,g1,g2,g3,g4⟩:=mQ hT iJ
      obtain ⟨cs,hc,rfl⟩:=hx
      simp only [xN,Option.some.injEq] at hn
      simp only [Cells] at hc
      obtain ⟨ad,len,cap,rfl,hlen,o4,AR⟩:=hc
      have hb:=bh (P:=P) (w:=w) true len cap _ _ ln mW HJ (hhi len (by omega)) (by omega) (by omega)
      have Xm:=(hT.ty _ _ g2).size (w:=w)
      refine ⟨.slice (if cap=ln then ad else ad.map (·.add (ln*e.size))) (mW-ln) (cap-ln),?_,[.slice (if cap=ln then ad else ad.map (·.add (ln*e.size))) (mW-ln) (cap-ln)],⟨_,mW-ln,cap-ln,rfl,by rw [List.length_drop,List.length_take];omega,by omega,?_⟩,by simp [As,Ty.Ab]⟩
      ·simp only [As,Ty.Ab,Bool.false_eq_true,if_false,List.headD_cons]
       rw [run_sliceAt_slice (P:=P) w t _ _ _ _ (by rw [g3,g4]),run_slice_any (P:=P) w t ad len cap (by rw [g3,g4]),hb]
       simp only [Result.andThen_ok,g4,Xm,sliced]
      ·rcases AR with rfl|⟨g,o,rfl,hg,FR,Hf⟩
       ·left;simp
       ·by_cases hlh:ln=mW
        ·left;subst hlh;simp
        ·right
         refine ⟨g,o+ln*e.size,by rw [if_neg (by omega)];simp [Addr.add_lit],hg,FR,λi y hy=>?_⟩
         rw [List.getElem?_drop,List.getElem?_take] at hy
         split at hy
         ·obtain ⟨es,cf,Sq,Wa⟩:=Hf _ y hy
          refine ⟨es,cf,λj u hu=>?_,Wa⟩
          have:=Sq j u hu
          rw [Nat.add_mul,<-Nat.add_assoc] at this
          exact this
         ·cases hy
     ·cases he
    ·rename_i k off len
     split at he
     ·rename_i fr tr e tid xs hk
      split at he
      ·rename_i XW
       obtain ⟨g1,g2⟩:=XW
       simp only [Option.some.injEq] at he;subst he
       have g3:=hT.elem t tid g1
       have g4:P.elem t=tid:=by simp [Program.elem,g3]
       unfold St.at at hk
       have o8:=hk
       obtain ⟨h8,h9⟩:=Jh (X:=X) (w:=w) hx hk
       simp only [xN,Option.some.injEq] at hn
       have Xm:=(hT.ty _ _ g2).size (w:=w)
       cases hp:π k with
       |none=>
        rw [hp] at h9
        obtain ⟨rfl,rfl,rfl⟩:=h9
        obtain rfl:mW=0:=by omega
        obtain rfl:ln=0:=by omega
        have hb:=bh (P:=P) (w:=w) true 0 0 _ _ 0 0 HJ (hhi 0 (by omega)) (by omega) (by omega)
        refine ⟨.slice none 0 0,?_,BP (X:=X) (w:=w) o8 (by omega) ?_⟩
        ·rw [run_sliceAt_slice (P:=P) w t _ _ _ _ (by rw [g3,g4]),run_slice_any (P:=P) w t none 0 0 (by rw [g3,g4]),hb]
         simp [g4,Xm,sliced]
        ·rw [hp];exact ⟨rfl,rfl,rfl⟩
       |some r=>
        rw [hp] at h9
        obtain ⟨ad,rfl,jG,c8⟩:=h9
        have hb:=bh (P:=P) (w:=w) true len (r.cap-off) _ _ ln mW HJ (hhi len (by omega)) (by omega) (by omega)
        refine ⟨.slice (some (if r.cap-off=ln then ad else ad.add (ln*e.size))) (mW-ln) (r.cap-off-ln),?_,BP (X:=X) (w:=w) o8 (by omega) ?_⟩
        ·rw [run_sliceAt_slice (P:=P) w t _ _ _ _ (by rw [g3,g4]),run_slice_any (P:=P) w t (some ad) len _ (by rw [g3,g4]),hb]
         simp only [Result.andThen_ok,g4,Xm,sliced]
         split<;>rfl
        ·rw [hp]
         refine ⟨_,by rw [Nat.sub_sub],by omega,λFc=>?_⟩
         rw [if_neg (by omega),c8 (by omega)]
         simp only [Addr.add_lit]
         rw [<-Nat.add_assoc r.o off ln,Nat.add_mul (r.o+off)]
      ·cases he
     ·cases he
    ·rename_i fr s
     split at he
     ·rename_i Qv
      simp only [Option.some.injEq] at he;subst he
      have:=bb hx;subst this
      have hu:P.underlying t=some .string:=(hT.ty _ _ Qv).desc
      simp only [xN,Option.some.injEq] at hn
      have hb:=bh (P:=P) (w:=w) false s.size s.size _ _ ln mW HJ (hhi s.size (by omega)) (by omega) (by omega)
      refine ⟨.string (s.extract ln mW),?_,ku _ _⟩
      rw [run_sliceAt_string (P:=P) w t _ _ _ _ hu]
      simp [Instr.slice,run_underlying hu,hb]
     ·cases he
    ·cases he
   ·cases he
  ·cases he
end
end Go.Proofs.YtfolipnappekaaaGreat
