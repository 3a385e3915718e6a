/-
  Part 8 of the proof that the statement FnExactSolveTwoPhaseWithin holds.
-/
import Derived.Test.YtfgfigkbgecfnaaCSolveTwoPhaseWithin06
namespace Go.Proofs.Ytfgfigkbgecfnaa
open Go.RowKit
section
variable {P:Program} {T:Tab} {X:Ctx} {w w':World} {π:Pi} {H:List (Nat×OB)}
theorem Zy {S:Nat->Prop} (ρ:Ty): ∀(τ:Ty) (cs:List Value) (x:τ.den) (o:Nat) (y:ρ.den),Cells w S τ cs x->Lu τ x o ρ=some y->
  ∃c1 c2 c3:List Value,cs=c1++c2++c3/\c1.length=o/\Cells w S ρ c2 y
 | .pair a r,cs,x,o,y,hc,hf=>by
  simp only [Cells] at hc;obtain ⟨c1,c2,rfl,h1,h2⟩:=hc;simp only [Lu] at hf;split at hf
  ·rename_i h0;subst h0;split at hf
   ·rename_i he;subst he;simp only [Aa] at hf;subst hf;exact ⟨[],c1,c2,by simp,rfl,h1⟩
   ·cases hf
  ·split at hf
   ·cases hf
   ·rename_i h0 h3;obtain ⟨d1,d2,d3,rfl,h4,h5⟩:=Zy ρ r c2 x.2 _ y h2 hf;have:=Cells.len a c1 x.1 h1;exact ⟨c1++d1,d2,d3,by simp [Bn],by simp;omega,h5⟩
 | .int _,_,_,_,_,_,hf=>by simp [Lu] at hf
 | .bool,_,_,_,_,_,hf=>by simp [Lu] at hf
 | .str,_,_,_,_,_,hf=>by simp [Lu] at hf
 | .slice _,_,_,_,_,_,hf=>by simp [Lu] at hf
 | .ptr _,_,_,_,_,_,hf=>by simp [Lu] at hf
 | .oslice _,_,_,_,_,_,hf=>by simp [Lu] at hf
 | .optr _,_,_,_,_,_,hf=>by simp [Lu] at hf
 | .smap _,_,_,_,_,_,hf=>by simp [Lu] at hf
 | .clo _ _,_,_,_,_,_,hf=>by simp [Lu] at hf
 | .unit,_,_,_,_,_,hf=>by simp [Lu] at hf
theorem jQ (hT:Ec P T) {s:TypeId} {f o:Nat} {t:TypeId} (h:T.off s f=some (o,t)) (g i:Nat):
  (Instr.fieldAt s (.pointer (some ⟨g,i,none⟩)) f).run P w= .ok (.pointer (some ⟨g,i+o,none⟩)) w:=by
 obtain ⟨fs,fd,h1,h2,h3,h4,inf,h5,h6⟩:=hT.off _ _ _ _ h
 have Uj:(sizeOf fd.type).run P w= .ok inf.size w:=by rw [h4];simp [sizeOf,typeInfo,h5]
 simp only [Instr.fieldAt,Sem.run_bind,run_underlying h1,Result.andThen_ok,h2,Instr.sureAddr,Sem.run_pure,fieldPlace,Uj,Ai h6,h3,Addr.add_lit]
theorem de (hT:Ec P T) {st:St} (s:TypeId) (f:Nat) (x:AV) (vx:Value) (av:AV) (hx:Bx X w π st.heap x vx)
  (he:Oq T s x f=some av): ∃v,(∀w':World,(Instr.fieldAt s vx f).run P w'= .ok v w')/\Bx X w π st.heap av v:=by
 unfold Oq at he;split at he
 ·rename_i o t l i ho;simp only [Aa] at he;subst he;obtain ⟨r,tid,vs,h1,h2,rfl⟩:=hx;exact ⟨_,(λw1=>jQ (w:=w1) hT ho r.g i),r,tid,vs,h1,h2,rfl⟩
 ·rename_i o t fr τ y ho;split at he
  ·cases ht:T.ty t with
   |none=>rw [ht] at he;cases he
   |some ρ=>
    rw [ht] at he;simp only [Ew] at he
    cases hf:Lu τ y o ρ with
    |none=>rw [hf] at he;cases he
    |some z=>
     rw [hf] at he;simp only [An,Aa] at he;subst he;obtain ⟨cs,hc,rfl⟩:=hx;simp only [Cells] at hc;obtain ⟨g,i,rfl,hg,hn,es,hl,aj,ca⟩:=hc;obtain ⟨c1,c2,c3,rfl,h1,h2⟩:=Zy ρ τ es y o z ca hf;refine ⟨.pointer (some ⟨g,i+o,none⟩),(λw1=>jQ (w:=w1) hT ho g i),[_],⟨g,i+o,rfl,hg,hn,c2,Cells.len ρ c2 z h2,λj u hu=>?_,h2⟩,by simp [Cj,Ty.Ar]⟩
     have:=aj (o+j) u (by
      rw [Bn,As (by omega),show o+j-c1.length=j by omega,Au (Ao.1 hu).1];exact hu)
     rw [He];exact this
  ·cases he
 ·rename_i o t fr τ y ho;split at he
  ·cases ht:T.ty t with
   |none=>rw [ht] at he;cases he
   |some ρ=>
    rw [ht] at he;simp only [Ew] at he
    cases hf:Lu τ y o ρ with
    |none=>rw [hf] at he;cases he
    |some z=>
     rw [hf] at he;simp only [An,Aa] at he;subst he;obtain ⟨cs,hc,rfl⟩:=hx;simp only [Cells] at hc;rcases hc with ⟨h0,_⟩|⟨y',g,i,h0,rfl,hg,hn,es,hl,aj,ca⟩
     ·cases h0
     simp only [Aa] at h0;subst h0;obtain ⟨c1,c2,c3,rfl,h1,h2⟩:=Zy ρ τ es y o z ca hf;refine ⟨.pointer (some ⟨g,i+o,none⟩),(λw1=>jQ (w:=w1) hT ho g i),[_],⟨g,i+o,rfl,hg,hn,c2,Cells.len ρ c2 z h2,λj u hu=>?_,h2⟩,by simp [Cj,Ty.Ar]⟩
     have:=aj (o+j) u (by
      rw [Bn,As (by omega),show o+j-c1.length=j by omega,Au (Ao.1 hu).1];exact hu)
     rw [He];exact this
  ·cases he
 ·cases he
theorem JA {t:TypeId} {ρ:Ty} (ht:pk P T t ρ) (cs:List Value) (o:Nat) (c2:List Value) (hl:c2.length=ρ.size) (hc: ∀j u,c2[j]?=some u->cs[o+j]?=some u) (hle:o+ρ.size<=cs.length):
  (part t cs.toArray o).run P w= .ok (Cj ρ c2) w:=by
 unfold part;rw [Sem.run_bind,ht.agg,Result.andThen_ok]
 cases hs:ρ.Ar with
 |true=>
  simp only [Oz,Sem.run_bind,ht.size,Result.andThen_ok,Cj,hs,Sem.run_pure,Result.ok.injEq,Value.agg.injEq,bz]
  apply Pr
  simp only [Array.toList_extract,List.extract_eq_take_drop]
  apply List.ext_getElem?
  intro j;rw [Di];split
  ·rename_i hj;rw [Cp]
   have u5:j<c2.length:=by omega
   rw [Ad u5];exact hc j _ (Ad u5)
  ·rename_i hj;rw [Dv (by omega)]
 |false=>
  have h1:ρ.size=1:=by cases ρ<;>simp_all [Ty.Ar,Ty.size]
  rw [h1] at hl;obtain ⟨u,rfl⟩:=Ek.1 hl;have:=hc 0 u rfl;simp only [El] at this;simp [this,Cj,hs]
theorem wB (hT:Ec P T) {st:St} (s:TypeId) (f:Nat) (x:AV) (vx:Value) (av:AV) (hx:Bx X w π st.heap x vx)
  (he:pA T s x f=some av): ∃v,(Instr.field s vx f).run P w= .ok v w/\Bx X w π st.heap av v:=by
 have Wj: ∀(o:Nat) (t:TypeId) (cs:List Value) (v:Value),T.off s f=some (o,t)->(part t cs.toArray o).run P w= .ok v w->(Instr.field s (.agg cs.toArray) f).run P w= .ok v w:=by
  intro o t cs v ho hp;obtain ⟨fs,fd,h1,h2,h3,h4,_⟩:=hT.off _ _ _ _ ho;simp only [Instr.field,Sem.run_bind,run_underlying h1,Result.andThen_ok,h2,asAgg,Sem.run_pure,h4,h3,hp]
 unfold pA at he;split at he
 ·rename_i o t cs ho
  cases ht:T.ty t with
  |none=>rw [ht] at he;cases he
  |some ρ=>
   rw [ht] at he;simp only [Ew] at he;split at he
   ·cases he
   ·rename_i hs;simp only [Gb] at hs
    cases hi:cs[o]? with
    |none=>rw [hi] at he;cases he
    |some c=>
     rw [hi] at he;simp only [An,Aa] at he;subst he;obtain ⟨us,rfl,hr⟩:=hx;obtain ⟨u,hu,_,hc⟩:=hr.2 o c hi
     have h1:ρ.size=1:=by cases ρ<;>simp_all [Ty.Ar,Ty.size]
     have:=JA (P:=P) (w:=w) (hT.ty _ _ ht) us o [u] (by simp [h1]) (λj u' iG=>by
      rcases j with _|j
      ·simp at iG;subst iG;exact hu
      ·simp at iG) (by have:=(Ao.1 hu).1;omega)
     refine ⟨u,Wj o t us u ho (by rw [this];simp [Cj,hs]),hc⟩
 ·rename_i o t fr τ y ho;split at he
  ·rename_i wK
   cases ht:T.ty t with
   |none=>rw [ht] at he;cases he
   |some ρ=>
    rw [ht] at he;simp only [Ew] at he
    cases hf:Lu τ y o ρ with
    |none=>rw [hf] at he;cases he
    |some z=>
     rw [hf] at he;simp only [An,Aa] at he;subst he;obtain ⟨cs,hc,rfl⟩:=hx;obtain ⟨c1,c2,c3,rfl,h1,h2⟩:=Zy ρ τ cs y o z hc hf
     have Awp:τ.Ar=true:=by cases τ<;>simp_all [Lu,Ty.Ar]
     have hl:=Cells.len ρ c2 z h2
     have:=JA (P:=P) (w:=w) (hT.ty _ _ ht) (c1++c2++c3) o c2 hl (λj u hu=>by
      rw [Bn,As (by omega),show o+j-c1.length=j by omega,Au (Ao.1 hu).1];exact hu) (by simp;omega)
     refine ⟨Cj ρ c2,?_,c2,h2,rfl⟩;rw [show Cj τ (c1++c2++c3)= .agg (c1++c2++c3).toArray by simp [Cj,Awp]];exact Wj o t _ _ ho this
  ·cases he
 ·cases he
theorem RI {st:St} {a:Act} (h:sV X w π st a) (x:Option Operand) (d l:Int) (hb:YK (x.map st.ev) d=some l):
  (x=none/\l=d)\/ ∃y k,x=some y/\a.eval y= .int k l:=by
 cases x with
 |none=>simp only [Option.map_none,YK,Aa] at hb;exact .inl ⟨rfl,hb.symm⟩
 |some y=>
  right
  simp only [An] at hb
  cases he:st.ev y with
  |agg cs=>rw [he] at hb;simp [YK] at hb
  |bL fr τ x=>rw [he] at hb;simp [YK] at hb
  |Nh l=>rw [he] at hb;simp [YK] at hb
  | «at»c=>
   rw [he] at hb
   cases c with
   |data fr τ n=>
    cases τ with
    |int k=>
     simp only [YK,Aa] at hb;have:=Eb h y;rw [he] at this;exact ⟨y,k,rfl,by rw [Qj this,hb]⟩
    |_=>simp [YK] at hb
   |_=>simp [YK] at hb
theorem gA (isS:Bool) (len cap:Nat) (lo hi:Option Value) (l h:Nat) (hlo:(lo=none/\l=0)\/ ∃k,lo=some (.int k l)) (hhi:(hi=none/\h=len)\/ ∃k,hi=some (.int k h))
  (h1:l<=h) (h2:h<=cap):(Instr.sliceBounds isS len cap lo hi none).run P w= .ok (l,h,cap) w:=by
 rcases hlo with ⟨rfl,rfl⟩|⟨k,rfl⟩<;>rcases hhi with ⟨rfl,rfl⟩|⟨k',rfl⟩
 ·simp [Instr.sliceBounds]
 ·simp [Instr.sliceBounds,run_sliceBound,h2]
 ·simp [Instr.sliceBounds,run_sliceBound,h1]
 ·simp [Instr.sliceBounds,run_sliceBound,h1,h2]
theorem wD (hT:Ec P T) {st:St} {a:Act} (h:Bs X π st a w) (t:TypeId) (x:AV) (vx:Value) (lo hi:Option Operand) (av:AV) (hx:Bx X w π st.heap x vx)
  (he:eJ T st t x (lo.map st.ev) (hi.map st.ev)=some av):
  ∃v,(Instr.sliceAt t vx (lo.map a.eval) (hi.map a.eval) none).run P w= .ok v w/\Bx X w π st.heap av v:=by
 unfold eJ at he;split at he
 ·cases he
 ·rename_i n hn;split at he
  ·rename_i l hh hl hhh;split at he
   ·rename_i Kg;obtain ⟨h0,h1,h2⟩:=Kg;obtain ⟨ln,rfl⟩:=Ba h0;obtain ⟨lK,rfl⟩:=Ba (show 0<=hh by omega)
    have hlo:((lo.map a.eval)=none/\ln=0)\/ ∃k,(lo.map a.eval)=some (.int k ln):=by
     rcases RI h.2 lo 0 _ hl with ⟨rfl,e⟩|⟨y,k,rfl,e⟩
     ·exact .inl ⟨rfl,by omega⟩
     ·exact .inr ⟨k,by simp [e]⟩
    have hhi: ∀len:Nat,n=len->((hi.map a.eval)=none/\lK=len)\/ ∃k,(hi.map a.eval)=some (.int k lK):=by
     intro len hlen;rcases RI h.2 hi n _ hhh with ⟨rfl,e⟩|⟨y,k,rfl,e⟩
     ·exact .inl ⟨rfl,by omega⟩
     ·exact .inr ⟨k,by simp [e]⟩
    simp only [Ab] at he;split at he
    ·rename_i fr e xs;split at he
     ·rename_i lI;simp only [Aa] at he;subst he;obtain ⟨te,g1,g2,g3,g4⟩:=sx hT lI;obtain ⟨cs,hc,rfl⟩:=hx;simp only [GU,Aa] at hn;simp only [Cells] at hc;obtain ⟨ad,len,cap,rfl,hlen,tX,ND⟩:=hc;have hb:=gA (P:=P) (w:=w) true len cap _ _ ln lK hlo (hhi len (by omega)) (by omega) (by omega);have Uj:=(hT.ty _ _ g2).size (w:=w);refine ⟨.slice (if cap=ln then ad else ad.map (·.add (ln*e.size))) (lK-ln) (cap-ln),?_,[.slice (if cap=ln then ad else ad.map (·.add (ln*e.size))) (lK-ln) (cap-ln)],⟨_,lK-ln,cap-ln,rfl,by rw [Zt,Dx];omega,by omega,?_⟩,by simp [Cj,Ty.Ar]⟩
      ·simp only [Cj,Ty.Ar,Dt,Uk,iR];rw [run_sliceAt_slice (P:=P) w t _ _ _ _ (by rw [g3,g4]),run_slice_any (P:=P) w t ad len cap (by rw [g3,g4]),hb];simp only [Result.andThen_ok,g4,Uj,sliced]
      ·rcases ND with rfl|⟨g,o,rfl,hg,SF,Ma⟩
       ·left;simp
       ·by_cases hlh:ln=lK
        ·left;subst hlh;simp
        ·right
         refine ⟨g,o+ln*e.size,by rw [Ai (by omega)];simp [Addr.add_lit],hg,SF,λi y hy=>?_⟩;rw [Cp,Di] at hy;split at hy
         ·obtain ⟨es,fy,aj,ca⟩:=Ma _ y hy;refine ⟨es,fy,λj u hu=>?_,ca⟩;have:=aj j u hu;rw [Dr,<-He] at this;exact this
         ·cases hy
     ·cases he
    ·rename_i k off len;split at he
     ·rename_i fr tr e tid xs hk;split at he
      ·rename_i Ak5;obtain ⟨g1,g2⟩:=Ak5;simp only [Aa] at he;subst he;have g3:=hT.elem t tid g1
       have g4:P.elem t=tid:=by simp [Program.elem,g3]
       unfold St.at at hk;have lJ:=hk;obtain ⟨h8,h9⟩:=Pe (X:=X) (w:=w) hx hk;simp only [GU,Aa] at hn;have Uj:=(hT.ty _ _ g2).size (w:=w)
       cases hp:π k with
       |none=>
        rw [hp] at h9;obtain ⟨rfl,rfl,rfl⟩:=h9
        obtain rfl:lK=0:=by omega
        obtain rfl:ln=0:=by omega
        have hb:=gA (P:=P) (w:=w) true 0 0 _ _ 0 0 hlo (hhi 0 (by omega)) (by omega) (by omega);refine ⟨.slice none 0 0,?_,OC (X:=X) (w:=w) lJ (by omega) ?_⟩
        ·rw [run_sliceAt_slice (P:=P) w t _ _ _ _ (by rw [g3,g4]),run_slice_any (P:=P) w t none 0 0 (by rw [g3,g4]),hb];simp [g4,Uj,sliced]
        ·rw [hp];exact ⟨rfl,rfl,rfl⟩
       |some r=>
        rw [hp] at h9;obtain ⟨ad,rfl,qT,lE⟩:=h9;have hb:=gA (P:=P) (w:=w) true len (r.cap-off) _ _ ln lK hlo (hhi len (by omega)) (by omega) (by omega);refine ⟨.slice (some (if r.cap-off=ln then ad else ad.add (ln*e.size))) (lK-ln) (r.cap-off-ln),?_,OC (X:=X) (w:=w) lJ (by omega) ?_⟩
        ·rw [run_sliceAt_slice (P:=P) w t _ _ _ _ (by rw [g3,g4]),run_slice_any (P:=P) w t (some ad) len _ (by rw [g3,g4]),hb];simp only [Result.andThen_ok,g4,Uj,sliced]
         split<;>rfl
        ·rw [hp];refine ⟨_,by rw [Nat.sub_sub],by omega,λKr=>?_⟩;rw [Ai (by omega),lE (by omega)];simp only [Addr.add_lit];rw [<-He r.o off ln,Dr (r.o+off)]
      ·cases he
     ·cases he
    ·rename_i fr s;split at he
     ·rename_i Xv;simp only [Aa] at he;subst he;have:=gw hx;subst this;have hu:P.underlying t=some .string:=(hT.ty _ _ Xv).desc;simp only [GU,Aa] at hn;have hb:=gA (P:=P) (w:=w) false s.size s.size _ _ ln lK hlo (hhi s.size (by omega)) (by omega) (by omega);refine ⟨.string (s.extract ln lK),?_,mS _ _⟩;rw [run_sliceAt_string (P:=P) w t _ _ _ _ hu];simp [Instr.slice,run_underlying hu,hb]
     ·cases he
    ·cases he
   ·cases he
  ·cases he
end
end Go.Proofs.Ytfgfigkbgecfnaa
