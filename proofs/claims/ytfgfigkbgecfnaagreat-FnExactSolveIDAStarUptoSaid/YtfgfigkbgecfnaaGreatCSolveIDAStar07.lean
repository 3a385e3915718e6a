/-
  Part 8 of the proof that the statement FnExactSolveIDAStar holds.
-/
import Derived.Test.YtfgfigkbgecfnaaGreatCSolveIDAStar06
namespace Go.Proofs.YtfgfigkbgecfnaaGreat
open Go.RowKit
section
variable {P:Program} {T:Tab} {X:Ctx} {w w':World} {π:Pi} {H:List (Nat×OB)}
theorem a8 {S:Nat->Prop} (ρ:Ty): ∀(τ:Ty) (cs:List Value) (x:τ.den) (o:Nat) (y:ρ.den),Cells w S τ cs x->Lg τ x o ρ=some y->
  ∃c1 c2 c3:List Value,cs=c1++c2++c3/\c1.length=o/\Cells w S ρ c2 y
 | .pair a r,cs,x,o,y,hc,hf=>by
  simp only [Cells] at hc
  obtain ⟨c1,c2,rfl,h1,h2⟩:=hc
  simp only [Lg] at hf
  split at hf
  ·rename_i h0;subst h0
   split at hf
   ·rename_i he;subst he
    simp only [Aa] at hf;subst hf
    exact ⟨[],c1,c2,by simp,rfl,h1⟩
   ·cases hf
  ·split at hf
   ·cases hf
   ·rename_i h0 h3
    obtain ⟨d1,d2,d3,rfl,h4,h5⟩:=a8 ρ r c2 x.2 _ y h2 hf
    have:=Cells.len a c1 x.1 h1
    exact ⟨c1++d1,d2,d3,by simp [Dh],by simp;omega,h5⟩
 | .int _,_,_,_,_,_,hf=>by simp [Lg] at hf
 | .bool,_,_,_,_,_,hf=>by simp [Lg] at hf
 | .str,_,_,_,_,_,hf=>by simp [Lg] at hf
 | .slice _,_,_,_,_,_,hf=>by simp [Lg] at hf
 | .ptr _,_,_,_,_,_,hf=>by simp [Lg] at hf
 | .oslice _,_,_,_,_,_,hf=>by simp [Lg] at hf
 | .optr _,_,_,_,_,_,hf=>by simp [Lg] at hf
 | .smap _,_,_,_,_,_,hf=>by simp [Lg] at hf
 | .clo _ _,_,_,_,_,_,hf=>by simp [Lg] at hf
 | .unit,_,_,_,_,_,hf=>by simp [Lg] at hf
theorem ko (hT:Ed P T) {s:TypeId} {f o:Nat} {t:TypeId} (h:T.off s f=some (o,t)) (g i:Nat):
  (Instr.fieldAt s (.pointer (some ⟨g,i,none⟩)) f).run P w= .ok (.pointer (some ⟨g,i+o,none⟩)) w:=by
 obtain ⟨fs,fd,h1,h2,h3,h4,inf,h5,h6⟩:=hT.off _ _ _ _ h
 have bm:(sizeOf fd.type).run P w= .ok inf.size w:=by rw [h4];simp [sizeOf,typeInfo,h5]
 simp only [Instr.fieldAt,Sem.run_bind,run_underlying h1,Result.andThen_ok,h2,Instr.sureAddr,Sem.run_pure,fieldPlace,bm,Ag h6,h3,Addr.add_lit]
theorem dr (hT:Ed P T) {st:St} (s:TypeId) (f:Nat) (x:AV) (vx:Value) (av:AV) (hx:Bs X w π st.heap x vx)
  (he:Oh T s x f=some av): ∃v,(∀w':World,(Instr.fieldAt s vx f).run P w'= .ok v w')/\Bs X w π st.heap av v:=by
 unfold Oh at he
 split at he
 ·rename_i o t l i ho
  simp only [Aa] at he;subst he
  obtain ⟨r,tid,vs,h1,h2,rfl⟩:=hx
  exact ⟨_,(λw1=>ko (w:=w1) hT ho r.g i),r,tid,vs,h1,h2,rfl⟩
 ·rename_i o t fr τ y ho
  split at he
  ·cases ht:T.ty t with
   |none=>rw [ht] at he;cases he
   |some ρ=>
    rw [ht] at he
    simp only [Ft] at he
    cases hf:Lg τ y o ρ with
    |none=>rw [hf] at he;cases he
    |some z=>
     rw [hf] at he
     simp only [Am,Aa] at he;subst he
     obtain ⟨cs,hc,rfl⟩:=hx
     simp only [Cells] at hc
     obtain ⟨g,i,rfl,hg,hn,es,hl,ay,cD⟩:=hc
     obtain ⟨c1,c2,c3,rfl,h1,h2⟩:=a8 ρ τ es y o z cD hf
     refine ⟨.pointer (some ⟨g,i+o,none⟩),(λw1=>ko (w:=w1) hT ho g i),[_],⟨g,i+o,rfl,hg,hn,c2,Cells.len ρ c2 z h2,λj u hu=>?_,h2⟩,by simp [Cf,Ty.Aq]⟩
     have:=ay (o+j) u (by
      rw [Dh,As (by omega),show o+j-c1.length=j by omega,At (An.1 hu).1];exact hu)
     rw [Gv];exact this
  ·cases he
 ·rename_i o t fr τ y ho
  split at he
  ·cases ht:T.ty t with
   |none=>rw [ht] at he;cases he
   |some ρ=>
    rw [ht] at he
    simp only [Ft] at he
    cases hf:Lg τ y o ρ with
    |none=>rw [hf] at he;cases he
    |some z=>
     rw [hf] at he
     simp only [Am,Aa] at he;subst he
     obtain ⟨cs,hc,rfl⟩:=hx
     simp only [Cells] at hc
     rcases hc with ⟨h0,_⟩|⟨y',g,i,h0,rfl,hg,hn,es,hl,ay,cD⟩
     ·cases h0
     simp only [Aa] at h0;subst h0
     obtain ⟨c1,c2,c3,rfl,h1,h2⟩:=a8 ρ τ es y o z cD hf
     refine ⟨.pointer (some ⟨g,i+o,none⟩),(λw1=>ko (w:=w1) hT ho g i),[_],⟨g,i+o,rfl,hg,hn,c2,Cells.len ρ c2 z h2,λj u hu=>?_,h2⟩,by simp [Cf,Ty.Aq]⟩
     have:=ay (o+j) u (by
      rw [Dh,As (by omega),show o+j-c1.length=j by omega,At (An.1 hu).1];exact hu)
     rw [Gv];exact this
  ·cases he
 ·cases he
theorem LQ {t:TypeId} {ρ:Ty} (ht:q7 P T t ρ) (cs:List Value) (o:Nat) (c2:List Value) (hl:c2.length=ρ.size) (hc: ∀j u,c2[j]?=some u->cs[o+j]?=some u) (hle:o+ρ.size<=cs.length):
  (part t cs.toArray o).run P w= .ok (Cf ρ c2) w:=by
 unfold part
 rw [Sem.run_bind,ht.agg,Result.andThen_ok]
 cases hs:ρ.Aq with
 |true=>
  simp only [Pv,Sem.run_bind,ht.size,Result.andThen_ok,Cf,hs,Sem.run_pure,Result.ok.injEq,Value.agg.injEq,Ow]
  apply Po
  simp only [Array.toList_extract,List.extract_eq_take_drop]
  apply List.ext_getElem?
  intro j
  rw [Da]
  split
  ·rename_i hj
   rw [Cz]
   have sY:j<c2.length:=by omega
   rw [Ac sY]
   exact hc j _ (Ac sY)
  ·rename_i hj
   rw [Ec (by omega)]
 |false=>
  have h1:ρ.size=1:=by cases ρ<;>simp_all [Ty.Aq,Ty.size]
  rw [h1] at hl
  obtain ⟨u,rfl⟩:=Dg.1 hl
  have:=hc 0 u rfl
  simp only [Fk] at this
  simp [this,Cf,hs]
theorem xL (hT:Ed P T) {st:St} (s:TypeId) (f:Nat) (x:AV) (vx:Value) (av:AV) (hx:Bs X w π st.heap x vx)
  (he:qi T s x f=some av): ∃v,(Instr.field s vx f).run P w= .ok v w/\Bs X w π st.heap av v:=by
 have Vl: ∀(o:Nat) (t:TypeId) (cs:List Value) (v:Value),T.off s f=some (o,t)->(part t cs.toArray o).run P w= .ok v w->(Instr.field s (.agg cs.toArray) f).run P w= .ok v w:=by
  intro o t cs v ho hp
  obtain ⟨fs,fd,h1,h2,h3,h4,_⟩:=hT.off _ _ _ _ ho
  simp only [Instr.field,Sem.run_bind,run_underlying h1,Result.andThen_ok,h2,asAgg,Sem.run_pure,h4,h3,hp]
 unfold qi at he
 split at he
 ·rename_i o t cs ho
  cases ht:T.ty t with
  |none=>rw [ht] at he;cases he
  |some ρ=>
   rw [ht] at he
   simp only [Ft] at he
   split at he
   ·cases he
   ·rename_i hs
    simp only [Ir] at hs
    cases hi:cs[o]? with
    |none=>rw [hi] at he;cases he
    |some c=>
     rw [hi] at he
     simp only [Am,Aa] at he;subst he
     obtain ⟨us,rfl,hr⟩:=hx
     obtain ⟨u,hu,_,hc⟩:=hr.2 o c hi
     have h1:ρ.size=1:=by cases ρ<;>simp_all [Ty.Aq,Ty.size]
     have:=LQ (P:=P) (w:=w) (hT.ty _ _ ht) us o [u] (by simp [h1]) (λj u' ga=>by
      rcases j with _|j
      ·simp at ga;subst ga;exact hu
      ·simp at ga) (by have:=(An.1 hu).1;omega)
     refine ⟨u,Vl o t us u ho (by rw [this];simp [Cf,hs]),hc⟩
 ·rename_i o t fr τ y ho
  split at he
  ·rename_i vI
   cases ht:T.ty t with
   |none=>rw [ht] at he;cases he
   |some ρ=>
    rw [ht] at he
    simp only [Ft] at he
    cases hf:Lg τ y o ρ with
    |none=>rw [hf] at he;cases he
    |some z=>
     rw [hf] at he
     simp only [Am,Aa] at he;subst he
     obtain ⟨cs,hc,rfl⟩:=hx
     obtain ⟨c1,c2,c3,rfl,h1,h2⟩:=a8 ρ τ cs y o z hc hf
     have Awu:τ.Aq=true:=by cases τ<;>simp_all [Lg,Ty.Aq]
     have hl:=Cells.len ρ c2 z h2
     have:=LQ (P:=P) (w:=w) (hT.ty _ _ ht) (c1++c2++c3) o c2 hl (λj u hu=>by
      rw [Dh,As (by omega),show o+j-c1.length=j by omega,At (An.1 hu).1];exact hu) (by simp;omega)
     refine ⟨Cf ρ c2,?_,c2,h2,rfl⟩
     rw [show Cf τ (c1++c2++c3)= .agg (c1++c2++c3).toArray by simp [Cf,Awu]]
     exact Vl o t _ _ ho this
  ·cases he
 ·cases he
theorem UO {st:St} {a:Act} (h:um X w π st a) (x:Option Operand) (d l:Int) (hb:bnd (x.map st.ev) d=some l):
  (x=none/\l=d)\/ ∃y k,x=some y/\a.eval y= .int k l:=by
 cases x with
 |none=>simp only [Option.map_none,bnd,Aa] at hb;exact .inl ⟨rfl,hb.symm⟩
 |some y=>
  right
  simp only [Am] at hb
  cases he:st.ev y with
  |agg cs=>rw [he] at hb;simp [bnd] at hb
  |cf fr τ x=>rw [he] at hb;simp [bnd] at hb
  |Mn l=>rw [he] at hb;simp [bnd] at hb
  | «at»c=>
   rw [he] at hb
   cases c with
   |data fr τ n=>
    cases τ with
    |int k=>
     simp only [bnd,Aa] at hb
     have:=Dy h y
     rw [he] at this
     exact ⟨y,k,rfl,by rw [Qo this,hb]⟩
    |_=>simp [bnd] at hb
   |_=>simp [bnd] at hb
theorem gH (isS:Bool) (len cap:Nat) (lo hi:Option Value) (l h:Nat) (XQ:(lo=none/\l=0)\/ ∃k,lo=some (.int k l)) (hhi:(hi=none/\h=len)\/ ∃k,hi=some (.int k h))
  (h1:l<=h) (h2:h<=cap):(Instr.sliceBounds isS len cap lo hi none).run P w= .ok (l,h,cap) w:=by
 rcases XQ with ⟨rfl,rfl⟩|⟨k,rfl⟩<;>rcases hhi with ⟨rfl,rfl⟩|⟨k',rfl⟩
 ·simp [Instr.sliceBounds]
 ·simp [Instr.sliceBounds,run_sliceBound,h2]
 ·simp [Instr.sliceBounds,run_sliceBound,h1]
 ·simp [Instr.sliceBounds,run_sliceBound,h1,h2]
theorem xN (hT:Ed P T) {st:St} {a:Act} (h:Bk X π st a w) (t:TypeId) (x:AV) (vx:Value) (lo hi:Option Operand) (av:AV) (hx:Bs X w π st.heap x vx)
  (he:eS T st t x (lo.map st.ev) (hi.map st.ev)=some av):
  ∃v,(Instr.sliceAt t vx (lo.map a.eval) (hi.map a.eval) none).run P w= .ok v w/\Bs X w π st.heap av v:=by
 unfold eS at he
 split at he
 ·cases he
 ·rename_i n hn
  split at he
  ·rename_i l hh hl hhh
   split at he
   ·rename_i Ju
    obtain ⟨h0,h1,h2⟩:=Ju
    obtain ⟨ln,rfl⟩:=Rj h0
    obtain ⟨tU,rfl⟩:=Rj (show 0<=hh by omega)
    have XQ:((lo.map a.eval)=none/\ln=0)\/ ∃k,(lo.map a.eval)=some (.int k ln):=by
     rcases UO h.2 lo 0 _ hl with ⟨rfl,e⟩|⟨y,k,rfl,e⟩
     ·exact .inl ⟨rfl,by omega⟩
     ·exact .inr ⟨k,by simp [e]⟩
    have hhi: ∀len:Nat,n=len->((hi.map a.eval)=none/\tU=len)\/ ∃k,(hi.map a.eval)=some (.int k tU):=by
     intro len hlen
     rcases UO h.2 hi n _ hhh with ⟨rfl,e⟩|⟨y,k,rfl,e⟩
     ·exact .inl ⟨rfl,by omega⟩
     ·exact .inr ⟨k,by simp [e]⟩
    simp only [Ai] at he
    split at he
    ·rename_i fr e xs
     split at he
     ·rename_i m9
      simp only [Aa] at he;subst he
      obtain ⟨te,g1,g2,g3,g4⟩:=tP hT m9
      obtain ⟨cs,hc,rfl⟩:=hx
      simp only [JI,Aa] at hn
      simp only [Cells] at hc
      obtain ⟨ad,len,cap,rfl,hlen,vz,PY⟩:=hc
      have hb:=gH (P:=P) (w:=w) true len cap _ _ ln tU XQ (hhi len (by omega)) (by omega) (by omega)
      have bm:=(hT.ty _ _ g2).size (w:=w)
      refine ⟨.slice (if cap=ln then ad else ad.map (·.add (ln*e.size))) (tU-ln) (cap-ln),?_,[.slice (if cap=ln then ad else ad.map (·.add (ln*e.size))) (tU-ln) (cap-ln)],⟨_,tU-ln,cap-ln,rfl,by rw [List.length_drop,Cq];omega,by omega,?_⟩,by simp [Cf,Ty.Aq]⟩
      ·simp only [Cf,Ty.Aq,Dj,Ul,j6]
       rw [run_sliceAt_slice (P:=P) w t _ _ _ _ (by rw [g3,g4]),run_slice_any (P:=P) w t ad len cap (by rw [g3,g4]),hb]
       simp only [Result.andThen_ok,g4,bm,sliced]
      ·rcases PY with rfl|⟨g,o,rfl,hg,VI,Js⟩
       ·left;simp
       ·by_cases hlh:ln=tU
        ·left;subst hlh;simp
        ·right
         refine ⟨g,o+ln*e.size,by rw [Ag (by omega)];simp [Addr.add_lit],hg,VI,λi y hy=>?_⟩
         rw [Cz,Da] at hy
         split at hy
         ·obtain ⟨es,iW,ay,cD⟩:=Js _ y hy
          refine ⟨es,iW,λj u hu=>?_,cD⟩
          have:=ay j u hu
          rw [Df,<-Gv] at this
          exact this
         ·cases hy
     ·cases he
    ·rename_i k off len
     split at he
     ·rename_i fr tr e tid xs hk
      split at he
      ·rename_i Aln
       obtain ⟨g1,g2⟩:=Aln
       simp only [Aa] at he;subst he
       have g3:=hT.elem t tid g1
       have g4:P.elem t=tid:=by simp [Program.elem,g3]
       unfold St.at at hk
       have oE:=hk
       obtain ⟨h8,h9⟩:=Oy (X:=X) (w:=w) hx hk
       simp only [JI,Aa] at hn
       have bm:=(hT.ty _ _ g2).size (w:=w)
       cases hp:π k with
       |none=>
        rw [hp] at h9
        obtain ⟨rfl,rfl,rfl⟩:=h9
        obtain rfl:tU=0:=by omega
        obtain rfl:ln=0:=by omega
        have hb:=gH (P:=P) (w:=w) true 0 0 _ _ 0 0 XQ (hhi 0 (by omega)) (by omega) (by omega)
        refine ⟨.slice none 0 0,?_,QY (X:=X) (w:=w) oE (by omega) ?_⟩
        ·rw [run_sliceAt_slice (P:=P) w t _ _ _ _ (by rw [g3,g4]),run_slice_any (P:=P) w t none 0 0 (by rw [g3,g4]),hb]
         simp [g4,bm,sliced]
        ·rw [hp];exact ⟨rfl,rfl,rfl⟩
       |some r=>
        rw [hp] at h9
        obtain ⟨ad,rfl,pW,iO⟩:=h9
        have hb:=gH (P:=P) (w:=w) true len (r.cap-off) _ _ ln tU XQ (hhi len (by omega)) (by omega) (by omega)
        refine ⟨.slice (some (if r.cap-off=ln then ad else ad.add (ln*e.size))) (tU-ln) (r.cap-off-ln),?_,QY (X:=X) (w:=w) oE (by omega) ?_⟩
        ·rw [run_sliceAt_slice (P:=P) w t _ _ _ _ (by rw [g3,g4]),run_slice_any (P:=P) w t (some ad) len _ (by rw [g3,g4]),hb]
         simp only [Result.andThen_ok,g4,bm,sliced]
         split<;>rfl
        ·rw [hp]
         refine ⟨_,by rw [Nat.sub_sub],by omega,λIz=>?_⟩
         rw [Ag (by omega),iO (by omega)]
         simp only [Addr.add_lit]
         rw [<-Gv r.o off ln,Df (r.o+off)]
      ·cases he
     ·cases he
    ·rename_i fr s
     split at he
     ·rename_i Yy
      simp only [Aa] at he;subst he
      have:=gD hx;subst this
      have hu:P.underlying t=some .string:=(hT.ty _ _ Yy).desc
      simp only [JI,Aa] at hn
      have hb:=gH (P:=P) (w:=w) false s.size s.size _ _ ln tU XQ (hhi s.size (by omega)) (by omega) (by omega)
      refine ⟨.string (s.extract ln tU),?_,nu _ _⟩
      rw [run_sliceAt_string (P:=P) w t _ _ _ _ hu]
      simp [Instr.slice,run_underlying hu,hb]
     ·cases he
    ·cases he
   ·cases he
  ·cases he
end
end Go.Proofs.YtfgfigkbgecfnaaGreat
