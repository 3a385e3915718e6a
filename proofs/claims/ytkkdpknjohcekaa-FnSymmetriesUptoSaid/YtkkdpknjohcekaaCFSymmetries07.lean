/-
  Part 8 of the proof that the statement FnSymmetries holds.
-/
import Derived.Test.YtkkdpknjohcekaaCFSymmetries06
namespace Go.Proofs.Ytkkdpknjohcekaa
open Go.RowKit
section
variable {P:Program} {T:Tab} {X:Ctx} {w w':World} {π:Pi} {H:List (Nat×OB)}
theorem Xm {S:Nat->Prop} (ρ:Ty): ∀(τ:Ty) (cs:List Value) (x:τ.den) (o:Nat) (y:ρ.den),Cells w S τ cs x->Kw τ x o ρ=some y->
  ∃c1 c2 c3:List Value,cs=c1++c2++c3/\c1.length=o/\Cells w S ρ c2 y
 | .pair a r,cs,x,o,y,hc,hf=>by
  simp only [Cells] at hc
  obtain ⟨c1,c2,rfl,h1,h2⟩:=hc
  simp only [Kw] at hf
  split at hf
  ·rename_i h0;subst h0
   split at hf
   ·rename_i he;subst he
    simp only [Aa] at hf;subst hf
    exact ⟨[],c1,c2,by simp,rfl,h1⟩
   ·cases hf
  ·split at hf
   ·cases hf
   ·rename_i h0 h3
    obtain ⟨d1,d2,d3,rfl,h4,h5⟩:=Xm ρ r c2 x.2 _ y h2 hf
    have:=Cells.len a c1 x.1 h1
    exact ⟨c1++d1,d2,d3,by simp [Ct],by simp;omega,h5⟩
 | .int _,_,_,_,_,_,hf=>by simp [Kw] at hf
 | .bool,_,_,_,_,_,hf=>by simp [Kw] at hf
 | .str,_,_,_,_,_,hf=>by simp [Kw] at hf
 | .slice _,_,_,_,_,_,hf=>by simp [Kw] at hf
 | .ptr _,_,_,_,_,_,hf=>by simp [Kw] at hf
 | .oslice _,_,_,_,_,_,hf=>by simp [Kw] at hf
 | .optr _,_,_,_,_,_,hf=>by simp [Kw] at hf
 | .smap _,_,_,_,_,_,hf=>by simp [Kw] at hf
 | .clo _ _,_,_,_,_,_,hf=>by simp [Kw] at hf
 | .unit,_,_,_,_,_,hf=>by simp [Kw] at hf
theorem gB (hT:Du P T) {s:TypeId} {f o:Nat} {t:TypeId} (h:T.off s f=some (o,t)) (g i:Nat):
  (Instr.fieldAt s (.pointer (some ⟨g,i,none⟩)) f).run P w= .ok (.pointer (some ⟨g,i+o,none⟩)) w:=by
 obtain ⟨fs,fd,h1,h2,h3,h4,inf,h5,h6⟩:=hT.off _ _ _ _ h
 have Yz:(sizeOf fd.type).run P w= .ok inf.size w:=by rw [h4];simp [sizeOf,typeInfo,h5]
 simp only [Instr.fieldAt,Sem.run_bind,run_underlying h1,Result.andThen_ok,h2,Instr.sureAddr,Sem.run_pure,fieldPlace,Yz,Ai h6,h3,Addr.add_lit]
theorem bg (hT:Du P T) {st:St} (s:TypeId) (f:Nat) (x:AV) (vx:Value) (av:AV) (hx:Bf X w π st.heap x vx)
  (he:Nl T s x f=some av): ∃v,(∀w':World,(Instr.fieldAt s vx f).run P w'= .ok v w')/\Bf X w π st.heap av v:=by
 unfold Nl at he
 split at he
 ·rename_i o t l i ho
  simp only [Aa] at he;subst he
  obtain ⟨r,tid,vs,h1,h2,rfl⟩:=hx
  exact ⟨_,(λw1=>gB (w:=w1) hT ho r.g i),r,tid,vs,h1,h2,rfl⟩
 ·rename_i o t fr τ y ho
  split at he
  ·cases ht:T.ty t with
   |none=>rw [ht] at he;cases he
   |some ρ=>
    rw [ht] at he
    simp only [Ev] at he
    cases hf:Kw τ y o ρ with
    |none=>rw [hf] at he;cases he
    |some z=>
     rw [hf] at he
     simp only [Ah,Aa] at he;subst he
     obtain ⟨cs,hc,rfl⟩:=hx
     simp only [Cells] at hc
     obtain ⟨g,i,rfl,hg,hn,es,hl,Va,ay⟩:=hc
     obtain ⟨c1,c2,c3,rfl,h1,h2⟩:=Xm ρ τ es y o z ay hf
     refine ⟨.pointer (some ⟨g,i+o,none⟩),(λw1=>gB (w:=w1) hT ho g i),[_],⟨g,i+o,rfl,hg,hn,c2,Cells.len ρ c2 z h2,λj u hu=>?_,h2⟩,by simp [Bs,Ty.Ap]⟩
     have:=Va (o+j) u (by
      rw [Ct,Ao (by omega),show o+j-c1.length=j by omega,Aq (Aj.1 hu).1];exact hu)
     rw [Fy];exact this
  ·cases he
 ·rename_i o t fr τ y ho
  split at he
  ·cases ht:T.ty t with
   |none=>rw [ht] at he;cases he
   |some ρ=>
    rw [ht] at he
    simp only [Ev] at he
    cases hf:Kw τ y o ρ with
    |none=>rw [hf] at he;cases he
    |some z=>
     rw [hf] at he
     simp only [Ah,Aa] at he;subst he
     obtain ⟨cs,hc,rfl⟩:=hx
     simp only [Cells] at hc
     rcases hc with ⟨h0,_⟩|⟨y',g,i,h0,rfl,hg,hn,es,hl,Va,ay⟩
     ·cases h0
     simp only [Aa] at h0;subst h0
     obtain ⟨c1,c2,c3,rfl,h1,h2⟩:=Xm ρ τ es y o z ay hf
     refine ⟨.pointer (some ⟨g,i+o,none⟩),(λw1=>gB (w:=w1) hT ho g i),[_],⟨g,i+o,rfl,hg,hn,c2,Cells.len ρ c2 z h2,λj u hu=>?_,h2⟩,by simp [Bs,Ty.Ap]⟩
     have:=Va (o+j) u (by
      rw [Ct,Ao (by omega),show o+j-c1.length=j by omega,Aq (Aj.1 hu).1];exact hu)
     rw [Fy];exact this
  ·cases he
 ·cases he
theorem zE {t:TypeId} {ρ:Ty} (ht:pd P T t ρ) (cs:List Value) (o:Nat) (c2:List Value) (hl:c2.length=ρ.size) (hc: ∀j u,c2[j]?=some u->cs[o+j]?=some u) (hle:o+ρ.size<=cs.length):
  (part t cs.toArray o).run P w= .ok (Bs ρ c2) w:=by
 unfold part
 rw [Sem.run_bind,ht.agg,Result.andThen_ok]
 cases hs:ρ.Ap with
 |true=>
  simp only [Qf,Sem.run_bind,ht.size,Result.andThen_ok,Bs,hs,Sem.run_pure,Result.ok.injEq,Value.agg.injEq,eY]
  apply Oo
  simp only [Array.toList_extract,List.extract_eq_take_drop]
  apply List.ext_getElem?
  intro j
  rw [Cn]
  split
  ·rename_i hj
   rw [Ci]
   have TB:j<c2.length:=by omega
   rw [Ac TB]
   exact hc j _ (Ac TB)
  ·rename_i hj
   rw [Er (by omega)]
 |false=>
  have h1:ρ.size=1:=by cases ρ<;>simp_all [Ty.Ap,Ty.size]
  rw [h1] at hl
  obtain ⟨u,rfl⟩:=Dy.1 hl
  have:=hc 0 u rfl
  simp only [Dz] at this
  simp [this,Bs,hs]
theorem rR (hT:Du P T) {st:St} (s:TypeId) (f:Nat) (x:AV) (vx:Value) (av:AV) (hx:Bf X w π st.heap x vx)
  (he:mn T s x f=some av): ∃v,(Instr.field s vx f).run P w= .ok v w/\Bf X w π st.heap av v:=by
 have Qy: ∀(o:Nat) (t:TypeId) (cs:List Value) (v:Value),T.off s f=some (o,t)->(part t cs.toArray o).run P w= .ok v w->(Instr.field s (.agg cs.toArray) f).run P w= .ok v w:=by
  intro o t cs v ho hp
  obtain ⟨fs,fd,h1,h2,h3,h4,_⟩:=hT.off _ _ _ _ ho
  simp only [Instr.field,Sem.run_bind,run_underlying h1,Result.andThen_ok,h2,asAgg,Sem.run_pure,h4,h3,hp]
 unfold mn at he
 split at he
 ·rename_i o t cs ho
  cases ht:T.ty t with
  |none=>rw [ht] at he;cases he
  |some ρ=>
   rw [ht] at he
   simp only [Ev] at he
   split at he
   ·cases he
   ·rename_i hs
    simp only [Gw] at hs
    cases hi:cs[o]? with
    |none=>rw [hi] at he;cases he
    |some c=>
     rw [hi] at he
     simp only [Ah,Aa] at he;subst he
     obtain ⟨us,rfl,hr⟩:=hx
     obtain ⟨u,hu,_,hc⟩:=hr.2 o c hi
     have h1:ρ.size=1:=by cases ρ<;>simp_all [Ty.Ap,Ty.size]
     have:=zE (P:=P) (w:=w) (hT.ty _ _ ht) us o [u] (by simp [h1]) (λj u' eU=>by
      rcases j with _|j
      ·simp at eU;subst eU;exact hu
      ·simp at eU) (by have:=(Aj.1 hu).1;omega)
     refine ⟨u,Qy o t us u ho (by rw [this];simp [Bs,hs]),hc⟩
 ·rename_i o t fr τ y ho
  split at he
  ·rename_i s5
   cases ht:T.ty t with
   |none=>rw [ht] at he;cases he
   |some ρ=>
    rw [ht] at he
    simp only [Ev] at he
    cases hf:Kw τ y o ρ with
    |none=>rw [hf] at he;cases he
    |some z=>
     rw [hf] at he
     simp only [Ah,Aa] at he;subst he
     obtain ⟨cs,hc,rfl⟩:=hx
     obtain ⟨c1,c2,c3,rfl,h1,h2⟩:=Xm ρ τ cs y o z hc hf
     have Ajd:τ.Ap=true:=by cases τ<;>simp_all [Kw,Ty.Ap]
     have hl:=Cells.len ρ c2 z h2
     have:=zE (P:=P) (w:=w) (hT.ty _ _ ht) (c1++c2++c3) o c2 hl (λj u hu=>by
      rw [Ct,Ao (by omega),show o+j-c1.length=j by omega,Aq (Aj.1 hu).1];exact hu) (by simp;omega)
     refine ⟨Bs ρ c2,?_,c2,h2,rfl⟩
     rw [show Bs τ (c1++c2++c3)= .agg (c1++c2++c3).toArray by simp [Bs,Ajd]]
     exact Qy o t _ _ ho this
  ·cases he
 ·cases he
theorem GA {st:St} {a:Act} (h:pa X w π st a) (x:Option Operand) (d l:Int) (hb:MI (x.map st.ev) d=some l):
  (x=none/\l=d)\/ ∃y k,x=some y/\a.eval y= .int k l:=by
 cases x with
 |none=>simp only [Option.map_none,MI,Aa] at hb;exact .inl ⟨rfl,hb.symm⟩
 |some y=>
  right
  simp only [Ah] at hb
  cases he:st.ev y with
  |agg cs=>rw [he] at hb;simp [MI] at hb
  |aa fr τ x=>rw [he] at hb;simp [MI] at hb
  |Mh l=>rw [he] at hb;simp [MI] at hb
  | «at»c=>
   rw [he] at hb
   cases c with
   |data fr τ n=>
    cases τ with
    |int k=>
     simp only [MI,Aa] at hb
     have:=Dn h y
     rw [he] at this
     exact ⟨y,k,rfl,by rw [Ph this,hb]⟩
    |_=>simp [MI] at hb
   |_=>simp [MI] at hb
theorem dK (isS:Bool) (len cap:Nat) (lo hi:Option Value) (l h:Nat) (OM:(lo=none/\l=0)\/ ∃k,lo=some (.int k l)) (hhi:(hi=none/\h=len)\/ ∃k,hi=some (.int k h))
  (h1:l<=h) (h2:h<=cap):(Instr.sliceBounds isS len cap lo hi none).run P w= .ok (l,h,cap) w:=by
 rcases OM with ⟨rfl,rfl⟩|⟨k,rfl⟩<;>rcases hhi with ⟨rfl,rfl⟩|⟨k',rfl⟩
 ·simp [Instr.sliceBounds]
 ·simp [Instr.sliceBounds,run_sliceBound,h2]
 ·simp [Instr.sliceBounds,run_sliceBound,h1]
 ·simp [Instr.sliceBounds,run_sliceBound,h1,h2]
theorem rT (hT:Du P T) {st:St} {a:Act} (h:Bb X π st a w) (t:TypeId) (x:AV) (vx:Value) (lo hi:Option Operand) (av:AV) (hx:Bf X w π st.heap x vx)
  (he:cm T st t x (lo.map st.ev) (hi.map st.ev)=some av):
  ∃v,(Instr.sliceAt t vx (lo.map a.eval) (hi.map a.eval) none).run P w= .ok v w/\Bf X w π st.heap av v:=by
 unfold cm at he
 split at he
 ·cases he
 ·rename_i n hn
  split at he
  ·rename_i l hh hl hhh
   split at he
   ·rename_i Jg
    obtain ⟨h0,h1,h2⟩:=Jg
    obtain ⟨ln,rfl⟩:=Xh h0
    obtain ⟨oU,rfl⟩:=Xh (show 0<=hh by omega)
    have OM:((lo.map a.eval)=none/\ln=0)\/ ∃k,(lo.map a.eval)=some (.int k ln):=by
     rcases GA h.2 lo 0 _ hl with ⟨rfl,e⟩|⟨y,k,rfl,e⟩
     ·exact .inl ⟨rfl,by omega⟩
     ·exact .inr ⟨k,by simp [e]⟩
    have hhi: ∀len:Nat,n=len->((hi.map a.eval)=none/\oU=len)\/ ∃k,(hi.map a.eval)=some (.int k oU):=by
     intro len hlen
     rcases GA h.2 hi n _ hhh with ⟨rfl,e⟩|⟨y,k,rfl,e⟩
     ·exact .inl ⟨rfl,by omega⟩
     ·exact .inr ⟨k,by simp [e]⟩
    simp only [Bh] at he
    split at he
    ·rename_i fr e xs
     split at he
     ·rename_i iR
      simp only [Aa] at he;subst he
      obtain ⟨te,g1,g2,g3,g4⟩:=oL hT iR
      obtain ⟨cs,hc,rfl⟩:=hx
      simp only [yN,Aa] at hn
      simp only [Cells] at hc
      obtain ⟨ad,len,cap,rfl,hlen,pT,CJ⟩:=hc
      have hb:=dK (P:=P) (w:=w) true len cap _ _ ln oU OM (hhi len (by omega)) (by omega) (by omega)
      have Yz:=(hT.ty _ _ g2).size (w:=w)
      refine ⟨.slice (if cap=ln then ad else ad.map (·.add (ln*e.size))) (oU-ln) (cap-ln),?_,[.slice (if cap=ln then ad else ad.map (·.add (ln*e.size))) (oU-ln) (cap-ln)],⟨_,oU-ln,cap-ln,rfl,by rw [Ru,Co];omega,by omega,?_⟩,by simp [Bs,Ty.Ap]⟩
      ·simp only [Bs,Ty.Ap,Cy,Sl,fh]
       rw [run_sliceAt_slice (P:=P) w t _ _ _ _ (by rw [g3,g4]),run_slice_any (P:=P) w t ad len cap (by rw [g3,g4]),hb]
       simp only [Result.andThen_ok,g4,Yz,sliced]
      ·rcases CJ with rfl|⟨g,o,rfl,hg,GU,Kp⟩
       ·left;simp
       ·by_cases hlh:ln=oU
        ·left;subst hlh;simp
        ·right
         refine ⟨g,o+ln*e.size,by rw [Ai (by omega)];simp [Addr.add_lit],hg,GU,λi y hy=>?_⟩
         rw [Ci,Cn] at hy
         split at hy
         ·obtain ⟨es,eR,Va,ay⟩:=Kp _ y hy
          refine ⟨es,eR,λj u hu=>?_,ay⟩
          have:=Va j u hu
          rw [Cw,<-Fy] at this
          exact this
         ·cases hy
     ·cases he
    ·rename_i k off len
     split at he
     ·rename_i fr tr e tid xs hk
      split at he
      ·rename_i YZ
       obtain ⟨g1,g2⟩:=YZ
       simp only [Aa] at he;subst he
       have g3:=hT.elem t tid g1
       have g4:P.elem t=tid:=by simp [Program.elem,g3]
       unfold St.at at hk
       have pW:=hk
       obtain ⟨h8,h9⟩:=Nx (X:=X) (w:=w) hx hk
       simp only [yN,Aa] at hn
       have Yz:=(hT.ty _ _ g2).size (w:=w)
       cases hp:π k with
       |none=>
        rw [hp] at h9
        obtain ⟨rfl,rfl,rfl⟩:=h9
        obtain rfl:oU=0:=by omega
        obtain rfl:ln=0:=by omega
        have hb:=dK (P:=P) (w:=w) true 0 0 _ _ 0 0 OM (hhi 0 (by omega)) (by omega) (by omega)
        refine ⟨.slice none 0 0,?_,DC (X:=X) (w:=w) pW (by omega) ?_⟩
        ·rw [run_sliceAt_slice (P:=P) w t _ _ _ _ (by rw [g3,g4]),run_slice_any (P:=P) w t none 0 0 (by rw [g3,g4]),hb]
         simp [g4,Yz,sliced]
        ·rw [hp];exact ⟨rfl,rfl,rfl⟩
       |some r=>
        rw [hp] at h9
        obtain ⟨ad,rfl,oQ,mz⟩:=h9
        have hb:=dK (P:=P) (w:=w) true len (r.cap-off) _ _ ln oU OM (hhi len (by omega)) (by omega) (by omega)
        refine ⟨.slice (some (if r.cap-off=ln then ad else ad.add (ln*e.size))) (oU-ln) (r.cap-off-ln),?_,DC (X:=X) (w:=w) pW (by omega) ?_⟩
        ·rw [run_sliceAt_slice (P:=P) w t _ _ _ _ (by rw [g3,g4]),run_slice_any (P:=P) w t (some ad) len _ (by rw [g3,g4]),hb]
         simp only [Result.andThen_ok,g4,Yz,sliced]
         split<;>rfl
        ·rw [hp]
         refine ⟨_,by rw [Nat.sub_sub],by omega,λJx=>?_⟩
         rw [Ai (by omega),mz (by omega)]
         simp only [Addr.add_lit]
         rw [<-Fy r.o off ln,Cw (r.o+off)]
      ·cases he
     ·cases he
    ·rename_i fr s
     split at he
     ·rename_i Wr
      simp only [Aa] at he;subst he
      have:=dF hx;subst this
      have hu:P.underlying t=some .string:=(hT.ty _ _ Wr).desc
      simp only [yN,Aa] at hn
      have hb:=dK (P:=P) (w:=w) false s.size s.size _ _ ln oU OM (hhi s.size (by omega)) (by omega) (by omega)
      refine ⟨.string (s.extract ln oU),?_,jR _ _⟩
      rw [run_sliceAt_string (P:=P) w t _ _ _ _ hu]
      simp [Instr.slice,run_underlying hu,hb]
     ·cases he
    ·cases he
   ·cases he
  ·cases he
end
end Go.Proofs.Ytkkdpknjohcekaa
